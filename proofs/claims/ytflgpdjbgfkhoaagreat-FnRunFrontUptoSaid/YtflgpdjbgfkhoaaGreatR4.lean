/-
  THE ABSTRACT WALK AND THE WALKS, part 4 of 7: the parts F43, F44, F45, F46, F50, F51, F52, F53, F54, F55, F56, F57, F58, F60, F61, F30, F63, F102, F18, F19, F31, F32, F33, F34, F35.
-/
import Derived.Test.YtflgpdjbgfkhoaaGreatR3
namespace Go.Proofs.YtflgpdjbgfkhoaaGreat
open Go
set_option linter.unusedSimpArgs false
set_option linter.unusedVariables false
set_option maxRecDepth 100000
set_option maxHeartbeats 2000000
abbrev bdA (b:Bd):List AV:=[.d (.i b.var),.d (.i b.val.ctor),.d (.i b.val.num),.d (zaw b.val.kids)]
def bdC (L:List Bd):List AV:=((L.map Bd.c).flatten).map AV.d
theorem zhb:∀ {L:List Bd}{i:Nat},i<L.length→cutC (bdC L) (i*4) 4=some (bdA (nth L i))
 |x::r,0,_=>by simp[cutC,nth,bdC,Bd.c]
 |x::r,i+1,h=>by
  have:=zhb (L:=r) (i:=i) (by simpa using h)
  rw[show(i+1)*4=i*4+1+1+1+1 by omega]
  exact this
theorem znw:∀ {L:List Bd}{i:Nat}{e:Bd},i<L.length→putC (bdC L) (i*4) (bdA e)=some (bdC (L.set i e))
 |x::r,0,e,_=>by simp[putC,bdC,Bd.c]
 |x::r,i+1,e,h=>by
  have:=znw (L:=r) (i:=i) (e:=e) (by simpa using h)
  rw[show(i+1)*4=i*4+1+1+1+1 by omega]
  show putC (.d _:: .d _:: .d _:: .d _::bdC r) (i*4+1+1+1+1) (bdA e)=_
  simp only[putC,this]
  rfl
theorem zpA:∀ {L:List Bd}{i:Nat},i<L.length→putC (bdC L) (i*4+1) [.d (.i (nth L i).val.ctor),.d (.i (nth L i).val.num),.d (zaw (nth L i).val.kids)]=some (bdC L)
 |x::r,0,_=>by simp[putC,nth,bdC,Bd.c]
 |x::r,i+1,h=>by
  have:=zpA (L:=r) (i:=i) (by simpa using h)
  rw[show(i+1)*4+1=i*4+1+1+1+1+1 by omega]
  show putC (.d _:: .d _:: .d _:: .d _::bdC r) (i*4+1+1+1+1+1) [.d (.i (nth r i).val.ctor),.d (.i (nth r i).val.num),.d (zaw (nth r i).val.kids)]=_
  simp only[putC,this]
  rfl
theorem zp5 (L:List Bd):zbO (L.map Bd.c).length 4 (bdC L)=some (L.map Bd.c):=by
 have:=zfu (f:=Bd.c) (k:=4) (l:=L) (fun _ _=>rfl)
 rw[List.length_map,←this]
 congr 1
 unfold bdC
 rw[List.map_flatten,List.flatMap_def,List.map_map]
 rfl
def zcZ (L:List Bd) (j:Nat):List Bd:=(L.set (j+1) (nth L j)).set j (nth L (j+1))
theorem zgS {L:List Bd}{j:Nat}:(zcZ L j).length=L.length:=by simp[zcZ]
def zb7:Nat→List Bd→List Bd
 |0,L=>L
 |j+1,L=>if (nth L (j+1)).var<(nth L j).var then zb7 j (zcZ L j) else L
theorem zro {j:Nat}{L:List Bd} (h:(nth L (j+1)).var<(nth L j).var):zb7 (j+1) L=zb7 j (zcZ L j):=by
 conv=>lhs;unfold zb7
 rw[if_pos h]
theorem zpN {j:Nat}{L:List Bd} (h:¬(nth L (j+1)).var<(nth L j).var):zb7 (j+1) L=L:=by
 unfold zb7;rw[if_neg h]
theorem zfE:∀(j:Nat) (L:List Bd),(zb7 j L).length=L.length
 |0,_=>rfl
 |j+1,L=>by
  unfold zb7;split
  ·rw[zfE j,zgS]
  ·rfl
def zcA:Nat→Nat→List Bd→List Bd
 |0,_,L=>L
 |k+1,i,L=>zcA k (i+1) (zb7 i L)
theorem zk7 {n i:Nat}{L:List Bd} (h:i<n):zcA (n-i) i L=zcA (n-(i+1)) (i+1) (zb7 i L):=by
 obtain⟨k,rfl⟩:∃k,n=i+1+k:=⟨n-(i+1),by omega⟩
 rw[show i+1+k-i=k+1 by omega,show i+1+k-(i+1)=k by omega]
 rfl
theorem zpP {n i:Nat}{L:List Bd} (h:n≤i):zcA (n-i) i L=L:=by
 rw[show n-i=0 by omega];rfl
theorem zgc (L:List Bd):AV.idsL (bdC L)=[]:=by
 unfold bdC
 generalize (L.map Bd.c).flatten=l
 induction l with
 |nil=>rfl
 |cons x r ih=>simpa [AV.idsL,AV.ids] using ih
theorem zsX (b:UInt8):0≤IntKind.i64.wrap (b.toNat:Int)∧IntKind.i64.wrap (b.toNat:Int)≤255:=by
 have h:b.toNat<256:=b.toNat_lt
 rw[zcp ⟨by omega,by omega⟩]
 omega
theorem ar8 (b:UInt8):I64 (0+IntKind.i64.wrap (b.toNat:Int)):=by
 have:=zsX b
 constructor<;>omega
theorem ziZ {j:Nat}{L:List Bd} (h:j=0∨¬(nth L j).var<(nth L (j-1)).var):zb7 j L=L:=by
 cases j with
 |zero=>rfl
 |succ j=>exact zpN (h.resolve_left (by omega))
theorem ziQ {L L':List Bd}:zbB [(9,some (.box (bdC L)))] [(9,some (.box (bdC L')))] (AV.tup []) []=true:=by
 simp only[zbB,List.all_cons,List.all_nil,zd9,zdx,AV.idsL,AV.ids,zas,zgc,List.map_cons,List.map_nil];rfl
section
variable {c:Ctx}{env:Env}{hp:Hp}{K:Kt}
theorem CWp.condF {x y:Code} (hn:CWp c y ⟨env,hp⟩ K):CWp c (.cond (.const (.bool false)) x y) ⟨env,hp⟩ K:=by
 intro a w hr
 have he:a.eval (.const (.bool false)) = .bool false:=rfl
 exact wp_cond_split he (fun h=>by cases h) (fun _=>hn a w hr)
end
def cmpV (x y:Int):Int:=if x<y then -1 else if y<x then 1 else 0
theorem zhA {x y:Int}:cmpV x y<0↔x<y:=by
 unfold cmpV;split
 ·omega
 ·split<;>omega
theorem zpX {n:Int} (h:0≤n) (h2:n≤12):IntKind.u64.wrap n=n:=by
 obtain⟨k,rfl⟩:=Int.eq_ofNat_of_zero_le h
 have:k≤12:=by omega
 have h3:k=0∨k=1∨k=2∨k=3∨k=4∨k=5∨k=6∨k=7∨k=8∨k=9∨k=10∨k=11∨k=12:=by omega
 rcases h3 with rfl|rfl|rfl|rfl|rfl|rfl|rfl|rfl|rfl|rfl|rfl|rfl|rfl<;>rfl
theorem zqm {n:Int} (h:0≤n) (h2:n≤12):IntKind.u8.wrap n=n:=by
 obtain⟨k,rfl⟩:=Int.eq_ofNat_of_zero_le h
 have:k≤12:=by omega
 have h3:k=0∨k=1∨k=2∨k=3∨k=4∨k=5∨k=6∨k=7∨k=8∨k=9∨k=10∨k=11∨k=12:=by omega
 rcases h3 with rfl|rfl|rfl|rfl|rfl|rfl|rfl|rfl|rfl|rfl|rfl|rfl|rfl<;>rfl
theorem zis {x:Int}:FnD Tryz.prog 80 [.d (.i x)] [] (.d (.bool false)) []:=by
 refine bd Tryz.f80 6 [] [] fun w0 F0 own kept hk=>?_
 refine rn0 (r1 rfl) (.eqd ?_)
 all_goals (first|rfl|(refine congrArg D.bool ?_;simp;done))
theorem zlz {x y:Int}:FnD Tryz.prog 55 [.d (.i x),.d (.i y)] [] (.d (.i (cmpV x y))) []:=by
 refine bd Tryz.f55 20 [] [] fun w0 F0 own kept hk=>?_
 refine Walk.call (cr:=[]) zqJ (zis) rfl .none rfl rfl (LeL.refl _) trivial rfl rfl rfl ?_
 refine ev ?_
 refine Walk.call (cr:=[]) zqJ (zis) rfl .none rfl rfl (LeL.refl _) trivial rfl rfl rfl ?_
 refine ev ?_
 refine sq (fun h1 h1p h1s=>?_) fun h1 h1p h1s=>?_
 ·try simp only[Q] at h1p
  refine sq (fun h2 h2p h2s=>?_) fun h2 h2p h2s=>?_
  ·try simp only[Q] at h2p
   refine rn0 (r1 rfl) (.eqd ?_)
   all_goals (refine congrArg D.i ?_;unfold cmpV;first|(simp_all;done)|(rw[if_pos (by omega)];done)|(rw[if_neg (by omega),if_pos (by omega)];done)|(rw[if_neg (by omega),if_neg (by omega)];done))
  ·try simp only[Q] at h2p
   refine rn0 (r1 rfl) (.eqd ?_)
   all_goals (refine congrArg D.i ?_;unfold cmpV;first|(simp_all;done)|(rw[if_pos (by omega)];done)|(rw[if_neg (by omega),if_pos (by omega)];done)|(rw[if_neg (by omega),if_neg (by omega)];done))
 ·try simp only[Q] at h1p
  refine sq (fun h3 h3p h3s=>?_) fun h3 h3p h3s=>?_
  ·try simp only[Q] at h3p
   refine rn0 (r1 rfl) (.eqd ?_)
   all_goals (refine congrArg D.i ?_;unfold cmpV;first|(simp_all;done)|(rw[if_pos (by omega)];done)|(rw[if_neg (by omega),if_pos (by omega)];done)|(rw[if_neg (by omega),if_neg (by omega)];done))
  ·try simp only[Q] at h3p
   refine sq (fun h4 h4p h4s=>?_) fun h4 h4p h4s=>?_
   ·try simp only[Q] at h4p
    refine rn0 (r1 rfl) (.eqd ?_)
    all_goals (refine congrArg D.i ?_;unfold cmpV;first|(simp_all;done)|(rw[if_pos (by omega)];done)|(rw[if_neg (by omega),if_pos (by omega)];done)|(rw[if_neg (by omega),if_neg (by omega)];done))
   ·try simp only[Q] at h4p
    refine sq (fun h5 h5p h5s=>?_) fun h5 h5p h5s=>?_
    ·try simp only[Q] at h5p
     refine rn0 (r1 rfl) (.eqd ?_)
     all_goals (refine congrArg D.i ?_;unfold cmpV;first|(simp_all;done)|(rw[if_pos (by omega)];done)|(rw[if_neg (by omega),if_pos (by omega)];done)|(rw[if_neg (by omega),if_neg (by omega)];done))
    ·try simp only[Q] at h5p
     refine rn0 (r1 rfl) (.eqd ?_)
     all_goals (refine congrArg D.i ?_;unfold cmpV;first|(simp_all;done)|(rw[if_pos (by omega)];done)|(rw[if_neg (by omega),if_pos (by omega)];done)|(rw[if_neg (by omega),if_neg (by omega)];done))
theorem zjt {a b:Bd}:FnD Tryz.prog 54 [.agg (bdA a),.agg (bdA b)] [] (.d (.i (cmpV a.var b.var))) []:=by
 refine bd Tryz.f54 10 [] [] fun w0 F0 own kept hk=>?_
 refine Walk.box (id:=3002) .none rfl rfl rfl rfl rfl rfl rfl ?_
 refine Walk.box (id:=3003) .none rfl rfl rfl rfl rfl rfl rfl ?_
 refine ev ?_
 refine Walk.call (cr:=[]) zsC (zlz) rfl .none rfl rfl (LeL.refl _) trivial rfl rfl rfl ?_
 refine ev ?_
 refine rn0 (r1 rfl) (.eqd ?_)
 all_goals (rfl)
theorem zmB {m:Int} (h0:0≤m) (h12:m≤12):FnD Tryz.prog 114 [.d (.int .u64 m)] [] .any []:=by
 have hu:=zqm h0 h12
 refine bd Tryz.f114 25 [4,8,14] [] fun w0 F0 own kept hk=>?_
 refine Walk.geI .none rfl rfl rfl ?_
 refine tv ?_
 refine sq (fun h1 h1p h1s=>?_) fun h1 h1p h1s=>?_
 ·try simp only[Q] at h1p
  exfalso;omega
 ·try simp only[Q] at h1p
  refine Walk.geI .none rfl rfl rfl ?_
  refine tv ?_
  refine sq (fun h2 h2p h2s=>?_) fun h2 h2p h2s=>?_
  ·try simp only[Q] at h2p
   exfalso;omega
  ·try simp only[Q] at h2p
   refine Walk.geI .none rfl rfl rfl ?_
   refine tv ?_
   refine sq (fun h3 h3p h3s=>?_) fun h3 h3p h3s=>?_
   ·try simp only[Q] at h3p
    exfalso;omega
   ·try simp only[Q] at h3p
    refine Walk.conv (k':= .u8) (by kernel_rfl) (by kernel_rfl) .none rfl rfl ?_
    refine Walk.idxS (i:=m.toNat) un9 .none rfl rfl rfl (by rw[hu];omega) (List.getElem?_eq_getElem (by first|omega|(simp;omega))) ?_
    refine Walk.conv (by rw[un5];rfl) un3 .none rfl rfl ?_
    refine evs [4,8,14] [] ?_
    refine ar ?_ (ar8 _)
    refine rn0 (r1 rfl) (.any _)
    all_goals (rfl)
theorem zrC:Callee Tryz.prog 114:=⟨fun args w=>zac (fn:=Tryz.f114) rfl rfl (by decide) args w⟩
theorem zjA {m:Int} (h0:0≤m) (h12:m≤12):FnD Tryz.prog 79 [.d (.int .u64 m)] [] .any []:=by
 refine Fn.body (fn:=Tryz.f79) (n:=8) rfl rfl rfl rfl rfl (fun w0 F0 own kept hk=>?_)
 refine sr ?_
 refine asg ?_
 refine tv ?_
 refine CWp.seq ?_
 refine CWp.condF ?_
 refine CWp.skip ?_
 refine sr ?_
 refine mv ?_
 refine Walk.call (cr:=[]) zrC (zmB h0 h12) rfl .none rfl rfl (LeL.refl _) trivial rfl rfl rfl ?_
 refine asg ?_
 refine tv ?_
 refine CWp.ret ?_
 refine⟨_,_,[],(.cons (.tmp rfl) .nil),(.any _),⟨rfl,rfl⟩,HSub.nil,zqW⟩
 all_goals (rfl)
theorem zgC {L:List Bd}{f:Nat} (hn:L.length≤12) (hcal:Callee Tryz.prog f) (hf:∀a b:Bd,FnD Tryz.prog f ([.agg (bdA a),.agg (bdA b)]++[]) [] (.d (.i (cmpV a.var b.var))) []):
  FnD Tryz.prog 105 [.ms 9 L.length,.d (.i 0),.d (.i L.length),.fn f []] [(9,some (.box (bdC L)))] (.tup []) [(9,some (.box (bdC (zcA (L.length-1) 1 L))))]:=by
 refine bd Tryz.f105 53 [26,31,46,50] [] fun w0 F0 own kept hk=>?_
 refine ar ?_
 refine CWp.loopX (ι:=Nat×List Bd) hk (fun x=>[(8,.d (.i (x.1:Int)))]) [9,12,13,14,15,16,17,18,19,20,21,22,23,24,25,26,27,28,29,30,31,32,33,34,35,36,37,38,39,40,41,42,43,44,45,46,47,48,49,50,51,52] (fun x=>[(9,some (.box (bdC x.2)))]) (fun x=>1≤x.1∧x.1≤L.length+1∧x.2.length=L.length∧zcA (L.length-x.1) x.1 x.2=zcA (L.length-1) 1 L) (fun x=>L.length-x.1) (1,L) ⟨by simp,by simp,rfl,rfl⟩ ⟨⟨_,rfl,(LeA.eqi (by first|rfl|omega|(dsimp only;omega)))⟩,trivial⟩ ⟨(by first|rfl|(show some (Res.box _)=some (Res.box _);rw[←hg2.2.2,ziZ (by first|(left;omega)|(right;rw[←zhA];assumption))])),trivial⟩ (fun x=>rfl) (fun x hg1=>?_)
 refine evc [26,31,46,50] [] ?_
 refine sq (fun h1 h1p h1s=>?_) fun h1 h1p h1s=>?_
 ·try simp only[Q] at h1p
  refine CWp.loopX (ι:=Nat×List Bd) hk (fun y=>[(9,.d (.i (y.1:Int)))]) [18,19,20,21,22,23,24,25,26,27,28,29,30,31,32,33,34,35,36,37,38,39,40,41,42,43,44,45,46,47,48,49,50,51,52] (fun y=>[(9,some (.box (bdC y.2)))]) (fun y=>y.1≤x.1∧y.2.length=L.length∧zb7 y.1 y.2=zb7 x.1 x.2) (fun y=>y.1) (x.1,x.2) ⟨Nat.le_refl _,hg1.2.2.1,rfl⟩ ⟨⟨_,rfl,(LeA.eqi (by first|rfl|omega|(dsimp only;omega)))⟩,trivial⟩ ⟨(by first|rfl|(show some (Res.box _)=some (Res.box _);unfold zcZ;rw[show y.1-1+1=y.1 by omega])),trivial⟩ (fun x=>rfl) (fun y hg2=>?_)
  refine evc [26,31,46,50] [] ?_
  refine sq (fun h2 h2p h2s=>?_) fun h2 h2p h2s=>?_
  ·try simp only[Q] at h2p
   refine Walk.idxM sl32 (.some rfl rfl h2) rfl rfl rfl rfl (by omega) ?_
   refine Walk.loadBA ty58 (.some rfl rfl h2) rfl rfl rfl ((zhb (by omega))) ?_
   refine evd [26,31,46,50] [(21,true)] ?_ ⟨⟨_,rfl,h2⟩,trivial⟩
   refine ar ?_
   refine Walk.idxM (i:=y.1-1) sl32 (.some rfl rfl h2) rfl rfl rfl (by omega) (by omega) ?_
   refine Walk.loadBA ty58 (.some rfl rfl h2) rfl rfl rfl ((zhb (by omega))) ?_
   refine Walk.callV (cr:=[]) hcal (hf _ _) rfl (.some rfl rfl h2) rfl rfl rfl (LeL.refl _) trivial rfl (by first|rfl|(simp only[zbB,List.all_cons,List.all_nil,zd9,zdx,AV.idsL,AV.ids,zas,zat,List.map_cons,List.map_nil,zgc];rfl)) (by first|rfl|(simp only[zaN,occH,occE,Res.ids,List.cons_append,List.nil_append,AV.idsL,AV.ids,zas,zat,zaR,zbD,List.map_cons,List.map_nil,upC,zgc];rfl)) ?_
   refine evd [26,31,46,50] [(21,true)] ?_ ⟨⟨_,rfl,h2⟩,trivial⟩
   refine dr ?_
   refine sq (fun h3 h3p h3s=>?_) fun h3 h3p h3s=>?_
   ·try simp only[Q] at h3p
    refine ar ?_
    refine ar ?_
    refine Walk.idxM (i:=y.1-1) sl32 .none rfl rfl rfl (by omega) (by omega) ?_
    refine Walk.loadBA ty58 .none rfl rfl rfl ((zhb (by omega))) ?_
    refine evd [26,31,46,50] [] ?_
    refine Walk.idxM sl32 .none rfl rfl rfl rfl (by omega) ?_
    refine Walk.loadBA ty58 .none rfl rfl rfl ((zhb (by omega))) ?_
    refine Walk.idxM sl32 .none rfl rfl rfl rfl (by omega) ?_
    refine Walk.store ty58 .none rfl rfl rfl rfl rfl rfl (by simp) ((znw (by first|omega|(simp;omega)))) ?_
    refine Walk.idxM (i:=y.1-1) sl32 .none rfl rfl rfl (by omega) (by omega) ?_
    refine Walk.store ty58 .none rfl rfl rfl rfl rfl rfl (by simp) ((znw (by first|omega|(simp;omega)))) ?_
    refine dr ?_
    refine ar ?_
    refine Exists.intro ((y.1-1,zcZ y.2 (y.1-1))) ⟨⟨by dsimp only;omega,by dsimp only;rw[zgS];exact hg2.2.1,by have hlt:(nth y.2 (y.1-1+1)).var<(nth y.2 (y.1-1)).var:=(by rw[show y.1-1+1=y.1 by omega];exact zhA.1 (by assumption));have hk:=zro hlt;rw[show y.1-1+1=y.1 by omega] at hk;dsimp only;rw[←hk];exact hg2.2.2⟩,(by dsimp only;omega),Sub.x (by kernel_rfl) (by kernel_rfl) ⟨⟨_,rfl,(LeA.eqi (by first|rfl|omega|(dsimp only;omega)))⟩,trivial⟩ (by kernel_rfl) (by kernel_rfl) ⟨(by first|rfl|(show some (Res.box _)=some (Res.box _);unfold zcZ;rw[show y.1-1+1=y.1 by omega])),trivial⟩⟩
   ·try simp only[Q] at h3p
    refine ar ?_
    refine Exists.intro ((x.1+1,zb7 x.1 x.2)) ⟨⟨by dsimp only;omega,by dsimp only;omega,by dsimp only;rw[zfE];exact hg1.2.2.1,by dsimp only;rw[←zk7 (by omega)];exact hg1.2.2.2⟩,(by dsimp only;omega),Sub.x (by kernel_rfl) (by kernel_rfl) ⟨⟨_,rfl,(LeA.eqi (by first|rfl|omega|(dsimp only;omega)))⟩,trivial⟩ (by kernel_rfl) (by kernel_rfl) ⟨(by first|rfl|(show some (Res.box _)=some (Res.box _);rw[←hg2.2.2,ziZ (by first|(left;omega)|(right;rw[←zhA];assumption))])),trivial⟩⟩
  ·try simp only[Q] at h2p
   refine dr ?_
   refine sqF ?_
   refine ar ?_
   refine Exists.intro ((x.1+1,zb7 x.1 x.2)) ⟨⟨by dsimp only;omega,by dsimp only;omega,by dsimp only;rw[zfE];exact hg1.2.2.1,by dsimp only;rw[←zk7 (by omega)];exact hg1.2.2.2⟩,(by dsimp only;omega),Sub.x (by kernel_rfl) (by kernel_rfl) ⟨⟨_,rfl,(LeA.eqi (by first|rfl|omega|(dsimp only;omega)))⟩,trivial⟩ (by kernel_rfl) (by kernel_rfl) ⟨(by first|rfl|(show some (Res.box _)=some (Res.box _);rw[←hg2.2.2,ziZ (by first|(left;omega)|(right;rw[←zhA];assumption))])),trivial⟩⟩
 ·try simp only[Q] at h1p
  refine rn [(9,some (.box (bdC (zcA (L.length-1) 1 L))))] .nil (.refl _) ⟨rfl,rfl⟩ (SubO.get ⟨.inr (by show some (Res.box _)=some (Res.box _);rw[←hg1.2.2.2,zpP (by omega)]),⟨.inl rfl,trivial⟩⟩) (zaq rfl)
  all_goals (rfl)
theorem zgx {f:Nat}:FnD Tryz.prog 105 [.d (.sl []),.d (.i 0),.d (.i 0),.fn f []] [] (.tup []) []:=by
 refine bd Tryz.f105 53 [] [] fun w0 F0 own kept hk=>?_
 refine ar ?_
 refine CWp.loopX (ι:=Unit) hk (fun u=>[(8,.d (.i 1))]) [9,12,13,14,15,16,17,18,19,20,21,22,23,24,25,26,27,28,29,30,31,32,33,34,35,36,37,38,39,40,41,42,43,44,45,46,47,48,49,50,51,52] (fun u=>[]) (fun u=>True) (fun u=>0) () trivial ⟨⟨_,rfl,(LeA.eqi (by first|rfl|(simp;done)|(simp_all;done)|omega))⟩,trivial⟩ trivial (fun x=>rfl) (fun u hg1=>?_)
 refine evc [] [] ?_
 refine sq (fun h1 h1p h1s=>?_) fun h1 h1p h1s=>?_
 ·try simp only[Q] at h1p
  exfalso;simp at h1
 ·try simp only[Q] at h1p
  refine rn0 .nil (.refl _)
  all_goals (rfl)
theorem zjv {L:List Bd}{f:Nat} (hn:L.length≤12) (hcal:Callee Tryz.prog f) (hf:∀a b:Bd,FnD Tryz.prog f ([.agg (bdA a),.agg (bdA b)]++[]) [] (.d (.i (cmpV a.var b.var))) []):
  FnD Tryz.prog 78 [.ms 9 L.length,.d (.i 0),.d (.i L.length),.any,.fn f []] [(9,some (.box (bdC L)))] (.tup []) [(9,some (.box (bdC (zcA (L.length-1) 1 L))))]:=by
 refine bd Tryz.f78 148 [] [] fun w0 F0 own kept hk=>?_
 refine CWp.loopX (ι:=Unit) hk (fun u=>[(1,.d (.i 0)),(2,.d (.i (L.length:Int)))]) [3,10,11,12,13,14,15,16,17,18,19,20,21,22,23,24,25,26,27,28,29,30,31,32,33,34,35,36,37,38,39,40,41,42,43,44,45,46,47,48,49,50,51,52,53,54,55,56,57,58,59,60,61,62,63,64,65,66,67,68,69,70,71,72,73,74,75,76,77,78,79,80,81,82,83,84,85,86,87,88,89,90,91,92,93,94,95,96,97,98,99,100,101,102,103,104,105,106,107,108,109,110,111,112,113,114,115,116,117,118,119,120,121,122,123,124,125,126,127,128,129,130,131,132,133,134,135,136,137,138,139,140,141,142,143,144,145,146,147] (fun u=>[(9,some (.box (bdC L)))]) (fun u=>True) (fun u=>0) () trivial ⟨⟨_,rfl,(LeA.eqi (by first|rfl|(simp;done)|(simp_all;done)|omega))⟩,⟨⟨_,rfl,(LeA.eqi (by first|rfl|(simp;done)|(simp_all;done)|omega))⟩,trivial⟩⟩ ⟨(by first|rfl|(simp[getH];done)),trivial⟩ (fun x=>rfl) (fun u hg1=>?_)
 refine evc [] [] ?_
 refine ar ?_
 refine sq (fun h1 h1p h1s=>?_) fun h1 h1p h1s=>?_
 ·try simp only[Q] at h1p
  refine Walk.call (cr:=[]) zo3 (zgC hn hcal hf) rfl .none rfl rfl (.cons (LeA.msn (by first|rfl|(simp;done))) (.cons (.refl _) (.cons (.refl _) (.cons (.refl _) .nil)))) ⟨rfl,trivial⟩ rfl ziQ rfl ?_
  refine tv ?_
  refine rn [(9,some (.box (bdC (zcA (L.length-1) 1 L))))] .nil (.refl _) ⟨rfl,rfl⟩ (SubO.get ⟨.inr (by rfl),⟨.inl rfl,trivial⟩⟩) (zaq rfl)
  all_goals (rfl)
 ·try simp only[Q] at h1p
  exfalso;omega
theorem zi2 {f:Nat}:FnD Tryz.prog 78 [.d (.sl []),.d (.i 0),.d (.i 0),.any,.fn f []] [] (.tup []) []:=by
 refine bd Tryz.f78 148 [] [] fun w0 F0 own kept hk=>?_
 refine CWp.loopX (ι:=Unit) hk (fun u=>[(1,.d (.i 0)),(2,.d (.i 0))]) [3,10,11,12,13,14,15,16,17,18,19,20,21,22,23,24,25,26,27,28,29,30,31,32,33,34,35,36,37,38,39,40,41,42,43,44,45,46,47,48,49,50,51,52,53,54,55,56,57,58,59,60,61,62,63,64,65,66,67,68,69,70,71,72,73,74,75,76,77,78,79,80,81,82,83,84,85,86,87,88,89,90,91,92,93,94,95,96,97,98,99,100,101,102,103,104,105,106,107,108,109,110,111,112,113,114,115,116,117,118,119,120,121,122,123,124,125,126,127,128,129,130,131,132,133,134,135,136,137,138,139,140,141,142,143,144,145,146,147] (fun u=>[]) (fun u=>True) (fun u=>0) () trivial ⟨⟨_,rfl,(LeA.eqi (by first|rfl|(simp;done)|(simp_all;done)|omega))⟩,⟨⟨_,rfl,(LeA.eqi (by first|rfl|(simp;done)|(simp_all;done)|omega))⟩,trivial⟩⟩ trivial (fun x=>rfl) (fun u hg1=>?_)
 refine evc [] [] ?_
 refine ar ?_
 refine sq (fun h1 h1p h1s=>?_) fun h1 h1p h1s=>?_
 ·try simp only[Q] at h1p
  refine Walk.call (cr:=[]) zo3 (zgx) rfl .none rfl rfl (LeL.refl _) trivial rfl rfl rfl ?_
  refine tv ?_
  refine rn0 .nil (.refl _)
  all_goals (rfl)
 ·try simp only[Q] at h1p
  exfalso;simp at h1
theorem zi1 {L:List Bd}{f:Nat} (hn:L.length≤12) (hcal:Callee Tryz.prog f) (hf:∀a b:Bd,FnD Tryz.prog f ([.agg (bdA a),.agg (bdA b)]++[]) [] (.d (.i (cmpV a.var b.var))) []):
  FnD Tryz.prog 53 [.ms 9 L.length,.fn f []] [(9,some (.box (bdC L)))] (.tup []) [(9,some (.box (bdC (zcA (L.length-1) 1 L))))]:=by
 have hu:=zpX (n:=(L.length:Int)) (by omega) (by omega)
 refine bd Tryz.f53 14 [] [] fun w0 F0 own kept hk=>?_
 refine Walk.conv (k':= .u64) (by kernel_rfl) (by kernel_rfl) .none rfl rfl ?_
 refine Walk.call (cr:=[]) zqI (zjA (by rw[hu];omega) (by rw[hu];omega)) rfl .none rfl rfl (LeL.refl _) trivial rfl (by first|rfl|(simp only[zbB,List.all_cons,List.all_nil,zd9,zdx,AV.idsL,AV.ids,zas,zat,List.map_cons,List.map_nil,zgc];rfl)) (by first|rfl|(simp only[zaN,occH,occE,Res.ids,List.cons_append,List.nil_append,AV.idsL,AV.ids,zas,zat,zaR,zbD,List.map_cons,List.map_nil,upC,zgc];rfl)) ?_
 refine ev ?_
 refine Walk.call (cr:=[]) zqH (zjv hn hcal hf) rfl .none rfl rfl (.cons (LeA.msn (by first|rfl|(simp;done))) (.cons (.refl _) (.cons (.refl _) (.cons (.refl _) (.cons (.refl _) .nil))))) ⟨rfl,trivial⟩ rfl ziQ rfl ?_
 refine tv ?_
 refine rn [(9,some (.box (bdC (zcA (L.length-1) 1 L))))] .nil (.refl _) ⟨rfl,rfl⟩ (SubO.get ⟨.inr (by rfl),⟨.inl rfl,trivial⟩⟩) (zaq rfl)
 all_goals (rfl)
theorem zij {f:Nat}:FnD Tryz.prog 53 [.d (.sl []),.fn f []] [] (.tup []) []:=by
 refine bd Tryz.f53 14 [] [] fun w0 F0 own kept hk=>?_
 refine Walk.conv (k':= .u64) (by kernel_rfl) (by kernel_rfl) .none rfl rfl ?_
 refine Walk.call (cr:=[]) zqI (zjA (m:=IntKind.u64.wrap 0) (by decide) (by decide)) rfl .none rfl rfl (LeL.refl _) trivial rfl rfl rfl ?_
 refine ev ?_
 refine Walk.call (cr:=[]) zqH (zi2) rfl .none rfl rfl (LeL.refl _) trivial rfl rfl rfl ?_
 refine tv ?_
 refine rn0 .nil (.refl _)
 all_goals (rfl)
theorem zoV {L:List Bd}{j:Nat} (h:j+1<L.length):(zcZ L j).Perm L:=by
 have e:L=L.take j++nth L j::nth L (j+1)::L.drop (j+2):=by
  have h1:L.drop j=nth L j::L.drop (j+1):=zaT (by omega)
  have h2:L.drop (j+1)=nth L (j+1)::L.drop (j+2):=zaT (by omega)
  conv=>lhs;rw[←List.take_append_drop j L,h1,h2]
 have hl:(L.take j).length=j:=by rw[List.length_take];omega
 generalize nth L j=x at e
 generalize nth L (j+1)=y at e
 generalize L.take j=A at *
 generalize L.drop (j+2)=B at *
 subst e
 have n1:nth (A++x::y::B) j=x:=by rw[←hl];simp[nth,List.getD]
 have n2:nth (A++x::y::B) (j+1)=y:=by rw[←hl];simp[nth,List.getD]
 unfold zcZ
 rw[n1,n2]
 have s1:((A++x::y::B).set (j+1) x).set j y=A++y::x::B:=by
  rw[←hl];simp
 rw[s1]
 exact(List.Perm.swap x y B).append_left A
theorem zk4:∀(j:Nat) (L:List Bd),j<L.length→(zb7 j L).Perm L
 |0,L,_=>List.Perm.refl _
 |j+1,L,h=>by
  unfold zb7;split
  ·exact(zk4 j (zcZ L j) (by rw[zgS];omega)).trans (zoV h)
  ·exact List.Perm.refl _
theorem zk8:∀(k i:Nat) (L:List Bd),i+k≤L.length→(zcA k i L).Perm L
 |0,_,_,_=>List.Perm.refl _
 |k+1,i,L,h=>by
  unfold zcA
  exact(zk8 k (i+1) (zb7 i L) (by rw[zfE];omega)).trans (zk4 i L (by omega))
def zc9 (L:List Bd):List Bd:=zcA (L.length-1) 1 L
theorem zeq (L:List Bd):(zc9 L).Perm L:=by
 cases L with
 |nil=>exact List.Perm.refl _
 |cons x r=>exact zk8 _ _ _ (by simp;omega)
theorem zgP (L:List Bd):(zc9 L).length=L.length:=(zeq L).length_eq
theorem zqk {m:Nat}{L:List Bd} (h:BdOk m L):BdOk m (zc9 L):=fun x hx=>h x ((zeq L).mem_iff.1 hx)
def zbA (n:Nat) (p:Pat) (v:Val):List Bd×Bool:=if (zaj n p v).2=true then (zc9 (zaj n p v).1,true) else ([],false)
theorem zn2 (n:Nat) (p:Pat) (v:Val):(zbA n p v).2=(zaj n p v).2:=by
 unfold zbA;split<;>simp_all
structure MatchOk (w:List Data) (n m:Nat) (t:Ty) (p:Pat) (v:Val):Prop where
 shape:zap w n t p=true
 fits:zbY w m t v=true
 pok:p.ok
 vok:v.ok
 psz:p.size≤100
 vsz:v.size≤100
theorem MatchOk.kid {w:List Data}{n m:Nat}{t:Ty}{p:Pat}{v:Val} (h:MatchOk w (n+1) m t p v) (h4:p.op=4) (hc:p.ctor=v.ctor):
  p.kids.length=v.kids.length∧∃k,∀i,i<p.kids.length→MatchOk w n k (nth (zaa w t p) i) (nth p.kids i) (nth v.kids i):=by
 obtain⟨ho,hlen⟩:=zcz h.shape
 have hct:=zcn ho h4
 have hdt:t.data≠ -1:=fun e=>by unfold zah at hct;rw[if_pos e] at hct;simp at hct
 have hk:=fun i (hi:i<p.kids.length)=>zbS h.shape hi
 have hpk:=(Pat.ok_iff p).1 h.pok
 have hvk:=(Val.ok_iff v).1 h.vok
 have hps:=Pat.size_eq p
 have hvs:=Val.size_eq v
 cases m with
 |zero=>have:=h.fits;simp[zbY] at this
 |succ m=>
  obtain⟨f1,f2,f3⟩:=zpm h.fits hdt
  have ht4:=zr4 (w:=w) (t:=t) h4
  rw[ht4] at hlen
  rw[←hc] at f2 f3
  refine⟨by omega,m,fun i hi=>?_⟩
  have z1:=za8 (l:=p.kids) hi
  have z2:=zke (l:=v.kids) (i:=i) (by omega)
  refine⟨hk i hi,by rw[ht4];exact f3 i (by omega),Pats.ok_mem hpk.2 _ (zai hi),Vals.ok_mem hvk.2 _ (zai (by omega)), ?_, ?_⟩
  ·have:=h.psz;omega
  ·have:=h.vsz;omega
theorem MatchOk.two {w:List Data}{n m:Nat}{t:Ty}{p:Pat}{v:Val} (h:MatchOk w (n+1) m t p v) (h5:p.op=5):
  p.kids.length=2∧MatchOk w n m t (nth p.kids 0) v∧MatchOk w n m t (nth p.kids 1) v:=by
 obtain⟨hl,s0,s1⟩:=ziY h.shape h5
 have hpk:=(Pat.ok_iff p).1 h.pok
 have hps:=Pat.size_eq p
 have z0:=za8 (l:=p.kids) (i:=0) (by omega)
 have z1:=za8 (l:=p.kids) (i:=1) (by omega)
 have hs:=h.psz
 exact⟨hl,⟨s0,h.fits,Pats.ok_mem hpk.2 _ (zai (by omega)),h.vok,by omega,h.vsz⟩,⟨s1,h.fits,Pats.ok_mem hpk.2 _ (zai (by omega)),h.vok,by omega,h.vsz⟩⟩
theorem MatchOk.one {w:List Data}{n m:Nat}{t:Ty}{p:Pat}{v:Val} (h:MatchOk w (n+1) m t p v) (h6:p.op=6):
  p.kids.length=1∧MatchOk w n m t (nth p.kids 0) v:=by
 obtain⟨hl,s0⟩:=ziX h.shape h6
 have hpk:=(Pat.ok_iff p).1 h.pok
 have hps:=Pat.size_eq p
 have z0:=za8 (l:=p.kids) (i:=0) (by omega)
 have hs:=h.psz
 exact⟨hl,⟨s0,h.fits,Pats.ok_mem hpk.2 _ (zai (by omega)),h.vok,by omega,h.vsz⟩⟩
theorem zeE (l:List Bd):∀x∈l.map Bd.c,x.length=4:=fun x hx=>by
 obtain⟨y,_,rfl⟩:=List.mem_map.1 hx;rfl
theorem zb3 {w:List Data}:∀(n m:Nat){t:Ty}{p:Pat}{v:Val},MatchOk w n m t p v→
  FnD Tryz.prog 52 [.agg [.d (.i p.op),.d (.i p.ctor),.d (.i p.n),.d (.i p.m),.d (.i p.var),.d (zaH p.kids)],.agg [.d (.i v.ctor),.d (.i v.num),.d (zaw v.kids)]] [] (.tup [.d (za2 (zaj n p v).1),.d (.bool (zaj n p v).2)]) []
 |0,m,t,p,v,h=>by have:=h.shape;simp[zap] at this
 |n+1,m,t,p,v,h=>by
  have hop:=zfm h.shape
  have k4:=h.kid
  have k5:=h.two
  have k6:=h.one
  have hsz:=h.psz
  have hps:=Pat.size_eq p
  have hkl:=((Pat.ok_iff p).1 h.pok).1
  have mok:=fun {t:Ty}{q:Pat}{u:Val} (hs:zap w n t q=true) (hu:u.ok)=>zcS n hs hu
  by_cases c4:p.op=4∧p.ctor=v.ctor
  ·obtain⟨hl,k,hkm⟩:=k4 c4.1 c4.2
   have hm4:=zjl (n:=n) c4.1 c4.2
   refine bd Tryz.f52 105 [10] [] fun w0 F0 own kept hk=>?_
   refine Walk.box (id:=3002) .none rfl rfl rfl rfl rfl rfl rfl ?_
   refine Walk.box (id:=3003) .none rfl rfl rfl rfl rfl rfl rfl ?_
   refine evs [10] [] ?_
   refine sq (fun h1 h1p h1s=>?_) fun h1 h1p h1s=>?_
   ·try simp only[Q,Pat.cs_len] at h1p
    exfalso;omega
   ·try simp only[Q,Pat.cs_len] at h1p
    refine sq (fun h2 h2p h2s=>?_) fun h2 h2p h2s=>?_
    ·try simp only[Q,Pat.cs_len] at h2p
     exfalso;omega
    ·try simp only[Q,Pat.cs_len] at h2p
     refine sq (fun h3 h3p h3s=>?_) fun h3 h3p h3s=>?_
     ·try simp only[Q,Pat.cs_len] at h3p
      exfalso;omega
     ·try simp only[Q,Pat.cs_len] at h3p
      refine sq (fun h4 h4p h4s=>?_) fun h4 h4p h4s=>?_
      ·try simp only[Q,Pat.cs_len] at h4p
       exfalso;omega
      ·try simp only[Q,Pat.cs_len] at h4p
       refine sq (fun h5 h5p h5s=>?_) fun h5 h5p h5s=>?_
       ·try simp only[Q,Pat.cs_len] at h5p
        exfalso;omega
       ·try simp only[Q,Pat.cs_len] at h5p
        refine sq (fun h6 h6p h6s=>?_) fun h6 h6p h6s=>?_
        ·try simp only[Q,Pat.cs_len] at h6p
         exfalso;omega
        ·try simp only[Q,Pat.cs_len] at h6p
         refine Walk.assignNil 1 4 .none rfl rfl ?_
         refine tv ?_
         refine CWp.loopX (ι:=Nat×List Bd) hk (fun x=>[(83,.d (.i (x.1:Int))),(10,.gl 1 (x.2.map Bd.c))]) [4,5,11,12,13,14,84,85,86,87,88,89,90,91,92,93,94,95,96,97,98,99,100,101,102,103] (fun x=>[(1,some (.tok ((x.2.map Bd.c)).length 4))]) (fun x=>x.1≤p.kids.length∧zbj (zaj n) (p.kids.drop x.1) (v.kids.drop x.1) x.2=zbj (zaj n) p.kids v.kids []∧x.2.length+Pats.size (p.kids.drop x.1)≤Pats.size p.kids) (fun x=>p.kids.length-x.1) (0,[]) ⟨by simp,rfl,by simp⟩ ⟨⟨_,rfl,(LeA.eqi (by first|rfl|omega|(simp;done)))⟩,⟨⟨_,rfl,(LeA.glg (by first|rfl|omega|(simp;done)))⟩,trivial⟩⟩ ⟨zae (by rfl),trivial⟩ (fun x=>rfl) (fun x hg1=>?_)
         refine evc [10] [] ?_
         refine sq (fun h7 h7p h7s=>?_) fun h7 h7p h7s=>?_
         ·try simp only[Q,Pat.cs_len] at h7p
          refine Walk.idx sl35 .none rfl rfl rfl rfl (zbm (by omega)) rfl ?_
          refine evs [10] [] ?_
          refine Walk.alloc (id:=3012) tz37 rfl .none rfl rfl rfl rfl ?_
          refine evs [10] [] ?_
          refine Walk.store ty37 .none rfl rfl rfl rfl rfl rfl (by simp) rfl ?_
          refine tv ?_
          refine Walk.idx sl27 .none rfl rfl rfl rfl (zeM (by omega)) rfl ?_
          refine evd [10] [] ?_
          refine Walk.call (cr:=[]) zeQ (zb3 n k (hkm x.1 (by omega))) rfl .none rfl rfl (LeL.refl _) trivial rfl rfl rfl ?_
          refine evd [10] [] ?_
          refine dr ?_
          refine sq (fun h8 h8p h8s=>?_) fun h8 h8p h8s=>?_
          ·try simp only[Q,Pat.cs_len] at h8p
           refine rn0 (r2 rfl rfl) (.tup (.cons (.nild ?_) (.cons (.eqd ?_) .nil)))
           all_goals ((rw[hm4,←hg1.2.1,zoJ (by omega) (by omega) (by simp_all)];all_goals rfl))
          ·try simp only[Q,Pat.cs_len] at h8p
           refine Walk.append sl32 zz58 rfl .none rfl rfl rfl rfl (zaP rfl (by first|rfl|(simp;done)|(simp;omega))) (by intro x hx;exact zeE _ x hx) (by have:=(mok (hkm x.1 (by omega)).shape (hkm x.1 (by omega)).vok).2;have:=zbR (l:=p.kids) (i:=x.1) (by omega);have:=hg1.2.2;simp;omega) (by have:=(mok (hkm x.1 (by omega)).shape (hkm x.1 (by omega)).vok).2;have:=zbR (l:=p.kids) (i:=x.1) (by omega);have:=hg1.2.2;simp;omega) ?_
           refine asg ?_
           refine tv ?_
           refine ar ?_
           refine Exists.intro ((x.1+1,x.2++(zaj n (nth p.kids x.1) (nth v.kids x.1)).1)) ⟨⟨by dsimp only;omega,by dsimp only;rw[←zjJ (by omega) (by omega) (by simp_all)];exact hg1.2.1,by have:=(mok (hkm x.1 (by omega)).shape (hkm x.1 (by omega)).vok).2;have:=zbR (l:=p.kids) (i:=x.1) (by omega);have:=hg1.2.2;dsimp only;rw[List.length_append];omega⟩,(by dsimp only;omega),Sub.x (by kernel_rfl) (by kernel_rfl) ⟨⟨_,rfl,(LeA.eqi (by first|rfl|omega|(simp;done)))⟩,⟨⟨_,rfl,(LeA.glg (by first|rfl|omega|(simp;done)))⟩,trivial⟩⟩ (by kernel_rfl) (by kernel_rfl) ⟨zae (by(simp;done)),trivial⟩⟩
         ·try simp only[Q,Pat.cs_len] at h7p
          refine rn0 (r2 rfl rfl) (.tup (.cons (.gld ?_) (.cons (.eqd ?_) .nil)))
          all_goals ((rw[hm4,←hg1.2.1,zhP (by omega)];all_goals rfl))
  ·have hn4:p.op=4→zaj (n+1) p v=([],false):=fun h4=>zhQ h4 (fun hc=>c4 ⟨h4,hc⟩)
   refine bd Tryz.f52 105 [] [] fun w0 F0 own kept hk=>?_
   refine Walk.box (id:=3002) .none rfl rfl rfl rfl rfl rfl rfl ?_
   refine Walk.box (id:=3003) .none rfl rfl rfl rfl rfl rfl rfl ?_
   refine ev ?_
   refine sq (fun h1 h1p h1s=>?_) fun h1 h1p h1s=>?_
   ·try simp only[Q,Pat.cs_len] at h1p
    refine rn0 (r2 rfl rfl) (.tup (.cons (.nild ?_) (.cons (.eqd ?_) .nil)))
    all_goals ((rw[zef (by omega)];all_goals rfl))
   ·try simp only[Q,Pat.cs_len] at h1p
    refine sq (fun h2 h2p h2s=>?_) fun h2 h2p h2s=>?_
    ·try simp only[Q,Pat.cs_len] at h2p
     refine Walk.build st58 (ks:=[0,1]) (xs:=[_,_]) rfl rfl .none rfl rfl rfl ?_
     refine Walk.sliceLit sl32 tz58 rfl (by decide) (ks:=[0]) (xs:=[_]) rfl rfl (by decide) (by decide) .none rfl rfl rfl rfl ?_
     refine ev ?_
     refine rn0 (r2 rfl rfl) (.tup (.cons (.eqd ?_) (.cons (.eqd ?_) .nil)))
     all_goals ((rw[zeI (by omega)];all_goals rfl))
    ·try simp only[Q,Pat.cs_len] at h2p
     refine sq (fun h3 h3p h3s=>?_) fun h3 h3p h3s=>?_
     ·try simp only[Q,Pat.cs_len] at h3p
      refine Walk.call (cr:=[]) zd5 (za6) rfl .none rfl rfl (LeL.refl _) trivial rfl rfl rfl ?_
      refine ev ?_
      refine rn0 (r2 rfl rfl) (.tup (.cons (.nild ?_) (.cons (.eqd ?_) .nil)))
      all_goals ((rw[zeg (by omega)];all_goals rfl))
     ·try simp only[Q,Pat.cs_len] at h3p
      refine sq (fun h4 h4p h4s=>?_) fun h4 h4p h4s=>?_
      ·try simp only[Q,Pat.cs_len] at h4p
       refine Walk.idx (i:=0) sl35 .none rfl rfl rfl rfl (zbm (by(have:=(k5 (by omega)).1;omega))) rfl ?_
       refine evd [] [] ?_
       refine Walk.call (cr:=[]) zeQ (zb3 n m (k5 (by omega)).2.1) rfl .none rfl rfl (LeL.refl _) trivial rfl rfl rfl ?_
       refine evd [] [] ?_
       refine dr ?_
       refine sq (fun h5 h5p h5s=>?_) fun h5 h5p h5s=>?_
       ·try simp only[Q,Pat.cs_len] at h5p
        refine rn0 (r2 rfl rfl) (.tup (.cons (.eqd ?_) (.cons (.eqd ?_) .nil)))
        all_goals ((rw[zhR (by omega) (by assumption)];all_goals rfl))
       ·try simp only[Q,Pat.cs_len] at h5p
        refine Walk.idx (i:=1) sl35 .none rfl rfl rfl rfl (zbm (by(have:=(k5 (by omega)).1;omega))) rfl ?_
        refine evd [] [] ?_
        refine Walk.call (cr:=[]) zeQ (zb3 n m (k5 (by omega)).2.2) rfl .none rfl rfl (LeL.refl _) trivial rfl rfl rfl ?_
        refine evd [] [] ?_
        refine dr ?_
        refine rn0 (r2 rfl rfl) (.tup (.cons (.eqd ?_) (.cons (.eqd ?_) .nil)))
        all_goals ((rw[zhS (by omega) (by simp_all)];all_goals rfl))
      ·try simp only[Q,Pat.cs_len] at h4p
       refine sq (fun h6 h6p h6s=>?_) fun h6 h6p h6s=>?_
       ·try simp only[Q,Pat.cs_len] at h6p
        refine Walk.idx (i:=0) sl35 .none rfl rfl rfl rfl (zbm (by(have:=(k6 (by omega)).1;omega))) rfl ?_
        refine evd [] [] ?_
        refine Walk.call (cr:=[]) zeQ (zb3 n m (k6 (by omega)).2) rfl .none rfl rfl (LeL.refl _) trivial rfl rfl rfl ?_
        refine evd [] [] ?_
        refine dr ?_
        refine Walk.build st58 (ks:=[0,1]) (xs:=[_,_]) rfl rfl .none rfl rfl rfl ?_
        refine Walk.sliceLitG 2 sl32 tz58 rfl (by decide) (ks:=[0]) (xs:=[_]) rfl rfl (by decide) (by decide) .none rfl rfl rfl rfl rfl ?_
        refine ev ?_
        refine Walk.append sl32 zz58 rfl .none rfl rfl rfl rfl (zaP rfl (by first|rfl|(simp;done)|(simp;omega))) (by intro x hx;exact zeE _ x hx) (by have:=(mok (k6 (by omega)).2.shape h.vok).2;have:=za8 (l:=p.kids) (i:=0) (by have:=(k6 (by omega)).1;omega);simp;omega) (by have:=(mok (k6 (by omega)).2.shape h.vok).2;have:=za8 (l:=p.kids) (i:=0) (by have:=(k6 (by omega)).1;omega);simp;omega) ?_
        refine ev ?_
        refine rn0 (r2 rfl rfl) (.tup (.cons (.gld ?_) (.cons (.eqd ?_) .nil)))
        all_goals ((rw[zeh (by omega)];all_goals rfl))
       ·try simp only[Q,Pat.cs_len] at h6p
        refine sq (fun h7 h7p h7s=>?_) fun h7 h7p h7s=>?_
        ·try simp only[Q,Pat.cs_len] at h7p
         refine rn0 (r2 rfl rfl) (.tup (.cons (.nild ?_) (.cons (.eqd ?_) .nil)))
         all_goals ((rw[hn4 (by omega)];all_goals rfl))
        ·try simp only[Q,Pat.cs_len] at h7p
         exfalso;apply c4;omega
structure VarsOk (l:List Bd) (vs:List Vt):Prop where
 len:l.length=vs.length
 nod:(l.map Bd.var).Nodup
 sub:∀x∈l.map Bd.var,x∈vs.map Vt.var
theorem zjK {f:Pat→Val→List Bd×Bool}{g:Ty→Pat→List Vt}:∀ {a:List Ty}{b:List Pat}{c:List Val}{acc:List Bd},a.length=b.length→b.length=c.length→
  (∀i,i<b.length→(f (nth b i) (nth c i)).2=true→zb2 (g (nth a i) (nth b i))=true→VarsOk (f (nth b i) (nth c i)).1 (g (nth a i) (nth b i)))→((zaS g a b).map Vt.var).Nodup→
  (zbj f b c acc).2=true→∃X,(zbj f b c acc).1=acc++X∧VarsOk X (zaS g a b)
 | [],[],[],acc,_,_,_,_,_=>⟨[],by simp[zbj],⟨rfl,by simp,by simp⟩⟩
 |t::a,p::b,v::c,acc,h1,h2,h3,h4,h5=>by
  unfold zbj at h5 ⊢
  split at h5
  ·rename_i hok
   rw[if_pos hok]
   simp only[zaS,List.map_append] at h4 ⊢
   obtain⟨n1,n2,n3⟩:=List.nodup_append.1 h4
   have k0:=h3 0 (by simp) hok (decide_eq_true n1)
   obtain⟨X,e,k⟩:=zjK (f:=f) (g:=g) (a:=a) (b:=b) (c:=c) (acc:=acc++(f p v).1) (by simpa using h1) (by simpa using h2) (fun i hi=>h3 (i+1) (by simpa using hi)) n2 h5
   refine⟨(f p v).1++X,by rw[e,List.append_assoc],⟨?_, ?_, ?_⟩⟩
   ·have:=k0.len
    have e0:(f p v).1.length=(g t p).length:=this
    rw[List.length_append,List.length_append,e0,k.len]
   ·rw[List.map_append]
    exact List.nodup_append.2 ⟨k0.nod,k.nod,fun x hx y hy=>n3 x (k0.sub x hx) y (k.sub y hy)⟩
   ·intro x hx
    rw[List.map_append] at hx ⊢
    rcases List.mem_append.1 hx with h|h
    ·exact List.mem_append_left _ (k0.sub x h)
    ·exact List.mem_append_right _ (k.sub x h)
  ·exact absurd h5 (by simp)
 | [],_::_,_,_,h,_,_,_,_=>by simp at h
 |_::_,[],_,_,h,_,_,_,_=>by simp at h
 | [],[],_::_,_,_,h,_,_,_=>by simp at h
 |_::_,_::_,[],_,_,h,_,_,_=>by simp at h
theorem zo0 {a b:List Vt} (ha:zb2 a=true) (hb:zb2 b=true) (h:zda a b=true):a.length=b.length∧∀x∈b.map Vt.var,x∈a.map Vt.var:=by
 rw[zks hb] at h
 unfold zdf at h
 simp only[Bool.and_eq_true,decide_eq_true_eq,Bool.not_eq_true',List.any_eq_false,Bool.not_eq_true,decide_eq_false_iff_not,Classical.not_not] at h
 have na:=of_decide_eq_true ha
 refine⟨h.1,fun x hx=>?_⟩
 by_cases hm:x∈a.map Vt.var
 ·exact hm
 ·have:=ziP (a:=x::a.map Vt.var) (b:=b.map Vt.var) (List.nodup_cons.2 ⟨hm,na⟩) (fun y hy=>by
   rcases List.mem_cons.1 hy with rfl|hy
   ·exact hx
   ·obtain⟨z,hz,rfl⟩:=List.mem_map.1 hy
    exact List.mem_map.2 ⟨z,h.2 z hz,rfl⟩)
  simp only[List.length_cons,List.length_map] at this
  omega
theorem zei {w:List Data}:∀(n m:Nat){t:Ty}{p:Pat}{v:Val},MatchOk w n m t p v→linP w n t p=true→(zaj n p v).2=true→VarsOk (zaj n p v).1 (zar w n t p)
 |0,m,t,p,v,h,_,_=>by have:=h.shape;simp[zap] at this
 |n+1,m,t,p,v,h,hl,hm=>by
  have hop:=zfm h.shape
  have hnod:=of_decide_eq_true (zdW w (n+1) t p h.shape hl)
  by_cases h5:p.op=5
  ·obtain⟨hk,k0,k1⟩:=h.two h5
   have e1:=zpV (w:=w) (t:=t) h5
   obtain⟨x,y,hxy⟩:∃x y,p.kids=[x,y]:=by
    match hp:p.kids,hk with
    | [x,y],_=>exact⟨x,y,rfl⟩
   have ex:nth p.kids 0=x:=by rw[hxy];rfl
   have ey:nth p.kids 1=y:=by rw[hxy];rfl
   simp only[linP,Bool.and_eq_true,if_pos h5,e1,hxy] at hl
   rw[ex] at k0
   rw[ey] at k1
   have e2:zar w (n+1) t p=zar w n t x:=by
    simp only[zar,zaD,zcr,e1,hxy,if_pos h5]
    rw[if_neg (by omega)]
    simp[zaS]
   simp only[all2,Bool.and_eq_true,and_true] at hl
   rw[e2]
   cases hm0:(zaj n (nth p.kids 0) v).2 with
   |true=>
    rw[zhR h5 hm0]
    rw[ex] at hm0 ⊢
    exact zei n m k0 hl.1.1 hm0
   |false=>
    rw[zhS h5 hm0] at hm ⊢
    rw[ey] at hm ⊢
    have k:=zei n m k1 hl.1.2 hm
    obtain⟨s1,s2⟩:=zo0 (zdW w n t x k0.shape hl.1.1) (zdW w n t y k1.shape hl.1.2) hl.2
    exact⟨by rw[k.len];exact s1.symm,k.nod,fun z hz=>s2 z (k.sub z hz)⟩
  have hv:zcr w t p=zaa w t p:=by unfold zcr;rw[if_neg h5]
  by_cases h1:p.op=1
  ·rw[zef h1]
   have:zar w (n+1) t p=[]:=by
    simp only[zar,zaD,hv]
    rw[if_neg (by omega)]
    unfold zaa;rw[if_neg (by omega),if_neg (by omega),if_neg (by omega)];simp[zaS]
   rw[this];exact⟨rfl,by simp,by simp⟩
  by_cases h2:p.op=2
  ·rw[zeI h2]
   have:zar w (n+1) t p=[⟨p.var,t⟩]:=by
    simp only[zar,zaD,hv]
    rw[if_pos (by omega)]
    unfold zaa;rw[if_neg (by omega),if_neg (by omega),if_neg (by omega)];simp[zaS]
   rw[this];exact⟨rfl,by simp,by simp⟩
  by_cases h3:p.op=3
  ·rw[zeg h3]
   have:zar w (n+1) t p=[]:=by
    simp only[zar,zaD,hv]
    rw[if_neg (by omega)]
    unfold zaa;rw[if_neg (by omega),if_neg (by omega),if_neg (by omega)];simp[zaS]
   rw[this];exact⟨rfl,by simp,by simp⟩
  simp only[linP,if_neg h5,Bool.and_eq_true] at hl
  by_cases h6:p.op=6
  ·obtain⟨hk,k0⟩:=h.one h6
   have e1:=zpW (w:=w) (t:=t) h6
   obtain⟨x,hx⟩:∃x,p.kids=[x]:=by
    match hp:p.kids,hk with
    | [x],_=>exact⟨x,rfl⟩
   have ex:nth p.kids 0=x:=by rw[hx];rfl
   have e2:zar w (n+1) t p=⟨p.var,t⟩::zar w n t x:=by
    simp only[zar,zaD,hv,e1,hx]
    rw[if_pos (by omega)]
    simp[zaS]
   rw[zeh h6] at hm ⊢
   rw[e1,hx] at hl
   simp only[all2,Bool.and_eq_true,and_true] at hl
   rw[ex] at k0 hm ⊢
   rw[e2] at hnod ⊢
   have k:=zei n m k0 hl.1 hm
   rw[List.map_cons] at hnod
   have hnod':=List.nodup_cons.1 hnod
   refine⟨by simp[k.len], ?_,fun z hz=>?_⟩
   ·rw[List.map_cons]
    exact List.nodup_cons.2 ⟨fun hh=>hnod'.1 (k.sub _ hh),k.nod⟩
   ·rw[List.map_cons] at hz ⊢
    rcases List.mem_cons.1 hz with h|h
    ·rw[h];exact List.mem_cons_self
    ·exact List.mem_cons_of_mem _ (k.sub z h)
  have h4:p.op=4:=by omega
  by_cases hc:p.ctor=v.ctor
  ·obtain⟨hlen,k,hk⟩:=h.kid h4 hc
   rw[zjl h4 hc] at hm ⊢
   have e2:zar w (n+1) t p=zaS (zar w n) (zaa w t p) p.kids:=by
    simp only[zar,zaD,hv]
    rw[if_neg (by omega),List.nil_append]
   rw[e2] at hnod ⊢
   have hl2:=(zcz h.shape).2
   obtain⟨X,e,kx⟩:=zjK (f:=zaj n) (g:=zar w n) (a:=zaa w t p) (acc:=[]) hl2.symm hlen (fun i hi hmi hni=>zei n k (hk i hi) (zmY hl2.symm hl.1 i (by omega)) hmi) hnod hm
   rw[e,List.nil_append];exact kx
  ·rw[zhQ h4 hc] at hm;exact absurd hm (by simp)
theorem ziL {w:List Data}{m:Nat}{t:Ty}{p:Pat}{v:Val} (h:MatchOk w 10 m t p v) (hp:isP w t p=true) (hm:(zaj 10 p v).2=true):(zaj 10 p v).1.length≤6:=by
 unfold isP at hp
 simp only[Bool.and_eq_true] at hp
 have k:=zei 10 m h hp.2.2 hm
 rw[k.len]
 have e:=(zdZ w 10 t p 0).1
 have hw:zbq w 10 t p 0=true:=by
  unfold zbq;rw[hp.1,hp.2.2];have:=of_decide_eq_true hp.2.1;simp;omega
 rw[if_pos hw] at e
 have:=zh0 w 10 t p 0 _ e
 exact zmj this.1 this.2
theorem zfL {w:List Data}:∀(n m:Nat){t:Ty}{p:Pat}{v:Val},MatchOk w n m t p v→(zaj n p v).2=true→
  FnD Tryz.prog 52 [.agg [.d (.i p.op),.d (.i p.ctor),.d (.i p.n),.d (.i p.m),.d (.i p.var),.d (zaH p.kids)],.agg [.d (.i v.ctor),.d (.i v.num),.d (zaw v.kids)]] [] (.tup [.gv 9 ((zaj n p v).1.map Bd.c),.d (.bool true)]) [(9,some (.tok ((zaj n p v).1.map Bd.c).length 4))]
 |0,m,t,p,v,h,_=>by have:=h.shape;simp[zap] at this
 |n+1,m,t,p,v,h,hm=>by
  have hop:=zfm h.shape
  have k4:=h.kid
  have k5:=h.two
  have k6:=h.one
  have hsz:=h.psz
  have hps:=Pat.size_eq p
  have hkl:=((Pat.ok_iff p).1 h.pok).1
  have mok:=fun {t:Ty}{q:Pat}{u:Val} (hs:zap w n t q=true) (hu:u.ok)=>zcS n hs hu
  by_cases h4:p.op=4
  ·have hc:p.ctor=v.ctor:=by
    by_cases hc:p.ctor=v.ctor
    ·exact hc
    ·rw[zhQ h4 hc] at hm;exact absurd hm (by simp)
   obtain⟨hl,k,hkm⟩:=k4 h4 hc
   have hm4:=zjl (n:=n) h4 hc
   have hall:=fun(i:Nat) (hi:i<p.kids.length)=>zkT (f:=zaj n) (a:=p.kids) (b:=v.kids) (acc:=[]) (by rw[←hm4];exact hm) i hi (by omega)
   refine bd Tryz.f52 105 [10] [] fun w0 F0 own kept hk=>?_
   refine Walk.box (id:=3002) .none rfl rfl rfl rfl rfl rfl rfl ?_
   refine Walk.box (id:=3003) .none rfl rfl rfl rfl rfl rfl rfl ?_
   refine evs [10] [] ?_
   refine sq (fun h1 h1p h1s=>?_) fun h1 h1p h1s=>?_
   ·try simp only[Q,Pat.cs_len] at h1p
    exfalso;omega
   ·try simp only[Q,Pat.cs_len] at h1p
    refine sq (fun h2 h2p h2s=>?_) fun h2 h2p h2s=>?_
    ·try simp only[Q,Pat.cs_len] at h2p
     exfalso;omega
    ·try simp only[Q,Pat.cs_len] at h2p
     refine sq (fun h3 h3p h3s=>?_) fun h3 h3p h3s=>?_
     ·try simp only[Q,Pat.cs_len] at h3p
      exfalso;omega
     ·try simp only[Q,Pat.cs_len] at h3p
      refine sq (fun h4 h4p h4s=>?_) fun h4 h4p h4s=>?_
      ·try simp only[Q,Pat.cs_len] at h4p
       exfalso;omega
      ·try simp only[Q,Pat.cs_len] at h4p
       refine sq (fun h5 h5p h5s=>?_) fun h5 h5p h5s=>?_
       ·try simp only[Q,Pat.cs_len] at h5p
        exfalso;omega
       ·try simp only[Q,Pat.cs_len] at h5p
        refine sq (fun h6 h6p h6s=>?_) fun h6 h6p h6s=>?_
        ·try simp only[Q,Pat.cs_len] at h6p
         exfalso;omega
        ·try simp only[Q,Pat.cs_len] at h6p
         refine Walk.assignNilV 9 4 .none rfl rfl ?_
         refine tv ?_
         refine CWp.loopX (ι:=Nat×List Bd) hk (fun x=>[(83,.d (.i (x.1:Int))),(10,.gv 9 (x.2.map Bd.c))]) [4,5,11,12,13,14,84,85,86,87,88,89,90,91,92,93,94,95,96,97,98,99,100,101,102,103] (fun x=>[(9,some (.tok ((x.2.map Bd.c)).length 4))]) (fun x=>x.1≤p.kids.length∧zbj (zaj n) (p.kids.drop x.1) (v.kids.drop x.1) x.2=zbj (zaj n) p.kids v.kids []∧x.2.length+Pats.size (p.kids.drop x.1)≤Pats.size p.kids) (fun x=>p.kids.length-x.1) (0,[]) ⟨by simp,rfl,by simp⟩ ⟨⟨_,rfl,(LeA.eqi (by first|rfl|omega|(simp;done)))⟩,⟨⟨_,rfl,(LeA.gvg (by first|rfl|omega|(simp;done)))⟩,trivial⟩⟩ ⟨zae (by rfl),trivial⟩ (fun x=>rfl) (fun x hg1=>?_)
         refine evc [10] [] ?_
         refine sq (fun h7 h7p h7s=>?_) fun h7 h7p h7s=>?_
         ·try simp only[Q,Pat.cs_len] at h7p
          refine Walk.idx sl35 .none rfl rfl rfl rfl (zbm (by omega)) rfl ?_
          refine evs [10] [] ?_
          refine Walk.alloc (id:=3012) tz37 rfl .none rfl rfl rfl rfl ?_
          refine evs [10] [] ?_
          refine Walk.store ty37 .none rfl rfl rfl rfl rfl rfl (by simp) rfl ?_
          refine tv ?_
          refine Walk.idx sl27 .none rfl rfl rfl rfl (zeM (by omega)) rfl ?_
          refine evd [10] [] ?_
          refine Walk.call (cr:=[]) zeQ (zb3 n k (hkm x.1 (by omega))) rfl .none rfl rfl (LeL.refl _) trivial rfl rfl rfl ?_
          refine evd [10] [] ?_
          refine dr ?_
          refine sq (fun h8 h8p h8s=>?_) fun h8 h8p h8s=>?_
          ·try simp only[Q,Pat.cs_len] at h8p
           exfalso;have:=hall x.1 (by omega);simp_all
          ·try simp only[Q,Pat.cs_len] at h8p
           refine Walk.appendV sl32 zz58 .none rfl rfl rfl rfl (zaP rfl (by first|rfl|(simp;done)|(simp;omega))) (by intro x hx;exact zeE _ x hx) (by have:=(mok (hkm x.1 (by omega)).shape (hkm x.1 (by omega)).vok).2;have:=zbR (l:=p.kids) (i:=x.1) (by omega);have:=hg1.2.2;simp;omega) (by have:=(mok (hkm x.1 (by omega)).shape (hkm x.1 (by omega)).vok).2;have:=zbR (l:=p.kids) (i:=x.1) (by omega);have:=hg1.2.2;simp;omega) ?_
           refine asg ?_
           refine tv ?_
           refine ar ?_
           refine Exists.intro ((x.1+1,x.2++(zaj n (nth p.kids x.1) (nth v.kids x.1)).1)) ⟨⟨by dsimp only;omega,by dsimp only;rw[←zjJ (by omega) (by omega) (hall x.1 (by omega))];exact hg1.2.1,by have:=(mok (hkm x.1 (by omega)).shape (hkm x.1 (by omega)).vok).2;have:=zbR (l:=p.kids) (i:=x.1) (by omega);have:=hg1.2.2;dsimp only;rw[List.length_append];omega⟩,(by dsimp only;omega),Sub.x (by kernel_rfl) (by kernel_rfl) ⟨⟨_,rfl,(LeA.eqi (by first|rfl|omega|(simp;done)))⟩,⟨⟨_,rfl,(LeA.gvg (by first|rfl|omega|(simp;done)))⟩,trivial⟩⟩ (by kernel_rfl) (by kernel_rfl) ⟨zae (by(simp;done)),trivial⟩⟩
         ·try simp only[Q,Pat.cs_len] at h7p
          refine rn [(9,some (.tok ((zaj (n+1) p v).1.map Bd.c).length 4))] (r2 rfl rfl) (.tup (.cons (.gvg ?_) (.cons (.eqd ?_) .nil))) ⟨rfl,rfl⟩ (SubH.get ⟨(by rw[hm4,←hg1.2.1,zhP (by omega)];all_goals rfl),trivial⟩) (zaq rfl)
          all_goals (first|rfl|(rw[hm4,←hg1.2.1,zhP (by omega)];all_goals rfl))
  by_cases h5:p.op=5
  ·obtain⟨hl,k0,k1⟩:=k5 h5
   cases hm0:(zaj n (nth p.kids 0) v).2 with
   |true=>
    have e:=zhR (n:=n) h5 hm0
    rw[e]
    refine bd Tryz.f52 105 [] [] fun w0 F0 own kept hk=>?_
    refine Walk.box (id:=3002) .none rfl rfl rfl rfl rfl rfl rfl ?_
    refine Walk.box (id:=3003) .none rfl rfl rfl rfl rfl rfl rfl ?_
    refine ev ?_
    refine sq (fun h1 h1p h1s=>?_) fun h1 h1p h1s=>?_
    ·try simp only[Q,Pat.cs_len] at h1p
     exfalso;omega
    ·try simp only[Q,Pat.cs_len] at h1p
     refine sq (fun h2 h2p h2s=>?_) fun h2 h2p h2s=>?_
     ·try simp only[Q,Pat.cs_len] at h2p
      exfalso;omega
     ·try simp only[Q,Pat.cs_len] at h2p
      refine sq (fun h3 h3p h3s=>?_) fun h3 h3p h3s=>?_
      ·try simp only[Q,Pat.cs_len] at h3p
       exfalso;omega
      ·try simp only[Q,Pat.cs_len] at h3p
       refine sq (fun h4 h4p h4s=>?_) fun h4 h4p h4s=>?_
       ·try simp only[Q,Pat.cs_len] at h4p
        refine Walk.idx (i:=0) sl35 .none rfl rfl rfl rfl (zbm (by omega)) rfl ?_
        refine evd [] [] ?_
        refine Walk.call (cr:=[9]) zeQ (zfL n m k0 hm0) rfl .none rfl rfl (LeL.refl _) trivial rfl rfl rfl ?_
        refine evd [] [] ?_
        refine dr ?_
        refine sq (fun h5 h5p h5s=>?_) fun h5 h5p h5s=>?_
        ·try simp only[Q,Pat.cs_len] at h5p
         refine rn [(9,some (.tok ((zaj n (nth p.kids 0) v).1.map Bd.c).length 4))] (r2 rfl rfl) (.tup (.cons (.gvg ?_) (.cons (.eqd ?_) .nil))) ⟨rfl,rfl⟩ (SubH.get ⟨(by rfl),trivial⟩) (zaq rfl)
         all_goals (rfl)
        ·try simp only[Q,Pat.cs_len] at h5p
         exfalso;simp_all
       ·try simp only[Q,Pat.cs_len] at h4p
        exfalso;omega
   |false=>
    have e:=zhS (n:=n) h5 hm0
    rw[e] at hm ⊢
    have hf0:=zb3 n m k0
    rw[hm0] at hf0
    refine bd Tryz.f52 105 [] [] fun w0 F0 own kept hk=>?_
    refine Walk.box (id:=3002) .none rfl rfl rfl rfl rfl rfl rfl ?_
    refine Walk.box (id:=3003) .none rfl rfl rfl rfl rfl rfl rfl ?_
    refine ev ?_
    refine sq (fun h1 h1p h1s=>?_) fun h1 h1p h1s=>?_
    ·try simp only[Q,Pat.cs_len] at h1p
     exfalso;omega
    ·try simp only[Q,Pat.cs_len] at h1p
     refine sq (fun h2 h2p h2s=>?_) fun h2 h2p h2s=>?_
     ·try simp only[Q,Pat.cs_len] at h2p
      exfalso;omega
     ·try simp only[Q,Pat.cs_len] at h2p
      refine sq (fun h3 h3p h3s=>?_) fun h3 h3p h3s=>?_
      ·try simp only[Q,Pat.cs_len] at h3p
       exfalso;omega
      ·try simp only[Q,Pat.cs_len] at h3p
       refine sq (fun h4 h4p h4s=>?_) fun h4 h4p h4s=>?_
       ·try simp only[Q,Pat.cs_len] at h4p
        refine Walk.idx (i:=0) sl35 .none rfl rfl rfl rfl (zbm (by omega)) rfl ?_
        refine evd [] [] ?_
        refine Walk.call (cr:=[]) zeQ (hf0) rfl .none rfl rfl (LeL.refl _) trivial rfl rfl rfl ?_
        refine evd [] [] ?_
        refine dr ?_
        refine sq (fun h5 h5p h5s=>?_) fun h5 h5p h5s=>?_
        ·try simp only[Q,Pat.cs_len] at h5p
         exfalso;simp_all
        ·try simp only[Q,Pat.cs_len] at h5p
         refine Walk.idx (i:=1) sl35 .none rfl rfl rfl rfl (zbm (by omega)) rfl ?_
         refine evd [] [] ?_
         refine Walk.call (cr:=[9]) zeQ (zfL n m k1 hm) rfl .none rfl rfl (LeL.refl _) trivial rfl rfl rfl ?_
         refine evd [] [] ?_
         refine dr ?_
         refine rn [(9,some (.tok ((zaj n (nth p.kids 1) v).1.map Bd.c).length 4))] (r2 rfl rfl) (.tup (.cons (.gvg ?_) (.cons (.eqd ?_) .nil))) ⟨rfl,rfl⟩ (SubH.get ⟨(by rfl),trivial⟩) (zaq rfl)
         all_goals (rfl)
       ·try simp only[Q,Pat.cs_len] at h4p
        exfalso;omega
  ·have hw:p.op=3→zaf v.num p.n p.m=true:=fun h3=>by rw[zeg h3] at hm;exact hm
   have h6m:p.op=6→(zaj n (nth p.kids 0) v).2=true:=fun h6=>by rw[zeh h6] at hm;exact hm
   refine bd Tryz.f52 105 [4] [] fun w0 F0 own kept hk=>?_
   refine Walk.box (id:=3002) .none rfl rfl rfl rfl rfl rfl rfl ?_
   refine Walk.box (id:=3003) .none rfl rfl rfl rfl rfl rfl rfl ?_
   refine asg ?_
   refine evs [4] [] ?_
   refine sq (fun h1 h1p h1s=>?_) fun h1 h1p h1s=>?_
   ·try simp only[Q,Pat.cs_len] at h1p
    refine Walk.assignNilV 9 4 .none rfl rfl ?_
    refine evs [4] [] ?_
    refine rn [(9,some (.tok ((zaj (n+1) p v).1.map Bd.c).length 4))] (r2 rfl rfl) (.tup (.cons (.gvg ?_) (.cons (.eqd ?_) .nil))) ⟨rfl,rfl⟩ (SubH.get ⟨(by(rw[zef (by omega)];all_goals rfl)),trivial⟩) (zaq rfl)
    all_goals (first|rfl|(rw[zef (by omega)];all_goals rfl)|(rw[zeI (by omega)];all_goals rfl)|(rw[zeg (by omega)];all_goals first|rfl|(rw[hw (by omega)];done))|(rw[zeh (by omega)];all_goals first|rfl|(rw[h6m (by omega)];done))|(rw[hw (by omega)];done)|(rw[h6m (by omega)];done))
   ·try simp only[Q,Pat.cs_len] at h1p
    refine sq (fun h2 h2p h2s=>?_) fun h2 h2p h2s=>?_
    ·try simp only[Q,Pat.cs_len] at h2p
     refine Walk.build st58 (ks:=[0,1]) (xs:=[_,_]) rfl rfl .none rfl rfl rfl ?_
     refine Walk.sliceLitGV 9 sl32 tz58 rfl (by decide) (ks:=[0]) (xs:=[_]) rfl rfl (by decide) (by decide) .none rfl rfl rfl rfl rfl ?_
     refine asg ?_
     refine evs [4] [] ?_
     refine rn [(9,some (.tok ((zaj (n+1) p v).1.map Bd.c).length 4))] (r2 rfl rfl) (.tup (.cons (.gvg ?_) (.cons (.eqd ?_) .nil))) ⟨rfl,rfl⟩ (SubH.get ⟨(by(rw[zeI (by omega)];all_goals rfl)),trivial⟩) (zaq rfl)
     all_goals (first|rfl|(rw[zef (by omega)];all_goals rfl)|(rw[zeI (by omega)];all_goals rfl)|(rw[zeg (by omega)];all_goals first|rfl|(rw[hw (by omega)];done))|(rw[zeh (by omega)];all_goals first|rfl|(rw[h6m (by omega)];done))|(rw[hw (by omega)];done)|(rw[h6m (by omega)];done))
    ·try simp only[Q,Pat.cs_len] at h2p
     refine sq (fun h3 h3p h3s=>?_) fun h3 h3p h3s=>?_
     ·try simp only[Q,Pat.cs_len] at h3p
      refine Walk.call (cr:=[]) zd5 (za6) rfl .none rfl rfl (LeL.refl _) trivial rfl rfl rfl ?_
      refine Walk.assignNilV 9 4 .none rfl rfl ?_
      refine evs [4] [] ?_
      refine rn [(9,some (.tok ((zaj (n+1) p v).1.map Bd.c).length 4))] (r2 rfl rfl) (.tup (.cons (.gvg ?_) (.cons (.eqd ?_) .nil))) ⟨rfl,rfl⟩ (SubH.get ⟨(by(rw[zeg (by omega)];all_goals rfl)),trivial⟩) (zaq rfl)
      all_goals (first|rfl|(rw[zef (by omega)];all_goals rfl)|(rw[zeI (by omega)];all_goals rfl)|(rw[zeg (by omega)];all_goals first|rfl|(rw[hw (by omega)];done))|(rw[zeh (by omega)];all_goals first|rfl|(rw[h6m (by omega)];done))|(rw[hw (by omega)];done)|(rw[h6m (by omega)];done))
     ·try simp only[Q,Pat.cs_len] at h3p
      refine sq (fun h4 h4p h4s=>?_) fun h4 h4p h4s=>?_
      ·try simp only[Q,Pat.cs_len] at h4p
       exfalso;omega
      ·try simp only[Q,Pat.cs_len] at h4p
       refine sq (fun h5 h5p h5s=>?_) fun h5 h5p h5s=>?_
       ·try simp only[Q,Pat.cs_len] at h5p
        refine Walk.idx (i:=0) sl35 .none rfl rfl rfl rfl (zbm (by have:=(k6 (by omega)).1;omega)) rfl ?_
        refine evd [4] [] ?_
        refine Walk.call (cr:=[]) zeQ (zb3 n m (k6 (by omega)).2) rfl .none rfl rfl (LeL.refl _) trivial rfl rfl rfl ?_
        refine evd [4] [] ?_
        refine dr ?_
        refine Walk.build st58 (ks:=[0,1]) (xs:=[_,_]) rfl rfl .none rfl rfl rfl ?_
        refine Walk.sliceLitGV 9 sl32 tz58 rfl (by decide) (ks:=[0]) (xs:=[_]) rfl rfl (by decide) (by decide) .none rfl rfl rfl rfl rfl ?_
        refine evs [4] [] ?_
        refine Walk.appendV sl32 zz58 .none rfl rfl rfl rfl (zaP rfl (by first|rfl|(simp;done)|(simp;omega))) (by intro x hx;exact zeE _ x hx) (by have:=(mok (k6 (by omega)).2.shape h.vok).2;have:=za8 (l:=p.kids) (i:=0) (by have:=(k6 (by omega)).1;omega);simp;omega) (by have:=(mok (k6 (by omega)).2.shape h.vok).2;have:=za8 (l:=p.kids) (i:=0) (by have:=(k6 (by omega)).1;omega);simp;omega) ?_
        refine evs [4] [] ?_
        refine asg ?_
        refine evs [4] [] ?_
        refine rn [(9,some (.tok ((zaj (n+1) p v).1.map Bd.c).length 4))] (r2 rfl rfl) (.tup (.cons (.gvg ?_) (.cons (.eqd ?_) .nil))) ⟨rfl,rfl⟩ (SubH.get ⟨(by(rw[zeh (by omega)];show some (Res.tok _ _)=some (Res.tok _ _);simp;omega)),trivial⟩) (zaq rfl)
        all_goals (first|rfl|(rw[zef (by omega)];all_goals rfl)|(rw[zeI (by omega)];all_goals rfl)|(rw[zeg (by omega)];all_goals first|rfl|(rw[hw (by omega)];done))|(rw[zeh (by omega)];all_goals first|rfl|(rw[h6m (by omega)];done))|(rw[hw (by omega)];done)|(rw[h6m (by omega)];done))
       ·try simp only[Q,Pat.cs_len] at h5p
        exfalso;omega
theorem zo8 {n:Nat}{S:List Bd} (h:n=S.length):zbO n 4 (bdC S)=some (S.map Bd.c):=by
 rw[h,←List.length_map (f:=Bd.c)];exact zp5 S
theorem idsD (l:List D):AV.idsL (l.map AV.d)=[]:=by
 induction l with
 |nil=>rfl
 |cons x r ih=>simpa [AV.idsL,AV.ids] using ih
theorem zkO {w:List Data}{m:Nat}{t:Ty}{p:Pat}{v:Val} (h:MatchOk w 10 m t p v) (hp:isP w t p=true):
  FnD Tryz.prog 29 [.agg [.d (.i p.op),.d (.i p.ctor),.d (.i p.n),.d (.i p.m),.d (.i p.var),.d (zaH p.kids)],.agg [.d (.i v.ctor),.d (.i v.num),.d (zaw v.kids)]] [] (.tup [.d (za2 (zbA 10 p v).1),.d (.bool (zbA 10 p v).2)]) []:=by
 unfold zbA
 cases hm:(zaj 10 p v).2 with
 |false=>
  have hf:=zb3 10 m h
  rw[hm] at hf
  rw[if_neg (by simp)]
  refine bd Tryz.f29 36 [] [] fun w0 F0 own kept hk=>?_
  refine Walk.box (id:=3002) .none rfl rfl rfl rfl rfl rfl rfl ?_
  refine Walk.box (id:=3003) .none rfl rfl rfl rfl rfl rfl rfl ?_
  refine ev ?_
  refine Walk.call (cr:=[]) zeQ (hf) rfl .none rfl rfl (LeL.refl _) trivial rfl rfl rfl ?_
  refine ev ?_
  refine sq (fun h1 h1p h1s=>?_) fun h1 h1p h1s=>?_
  ·try simp only[Q] at h1p
   refine rn0 (r2 rfl rfl) (.tup (.cons (.nild ?_) (.cons (.eqd ?_) .nil)))
   all_goals (rfl)
  ·try simp only[Q] at h1p
   exfalso;simp_all
 |true=>
  have hf:=zfL 10 m h hm
  have h6:=ziL h hp hm
  have hbo:=zqk (zcS 10 h.shape h.vok).1
  have hsl:=zgP (zaj 10 p v).1
  have hvs:=h.vsz
  rw[if_pos rfl]
  have hLm:∀L:List Bd,(L.map Bd.c).length=L.length:=fun L=>by simp
  have hLm:=hLm (zaj 10 p v).1
  have hso:zcA ((zaj 10 p v).1.length-1) 1 (zaj 10 p v).1=zc9 (zaj 10 p v).1:=rfl
  generalize (zaj 10 p v).1=L at *
  generalize hS:zc9 L=S at *
  have hrow:∀ {i:Nat},i<L.length→(nth S i).val.ok∧(nth S i).val.size≤v.size:=fun hi=>hbo _ (zai (by omega))
  refine bd Tryz.f29 36 [26] [4,999999] fun w0 F0 own kept hk=>?_
  refine Walk.box (id:=3002) .none rfl rfl rfl (by rfl) (by rfl) (by rfl) (by rfl) ?_
  refine Walk.box (id:=3003) .none rfl rfl rfl (by rfl) (by rfl) (by rfl) (by rfl) ?_
  refine evs [26] [] ?_
  refine Walk.call (cr:=[9]) zeQ (hf) rfl .none rfl rfl (LeL.refl _) trivial rfl rfl rfl ?_
  refine evs [26] [] ?_
  refine sq (fun h1 h1p h1s=>?_) fun h1 h1p h1s=>?_
  ·try simp only[Q,List.length_map] at h1p
   exfalso;simp_all
  ·try simp only[Q,List.length_map] at h1p
   refine CWp.fixV hk 6 9 4 rfl rfl rfl (fun hx2=>?_) (fun hx2=>?_)
   ·
    refine evc [26] [] ?_
    refine Walk.call (cr:=[]) zqC (zij) rfl .none rfl rfl (LeL.refl _) trivial rfl (by rfl) (by rfl) ?_
    refine tv ?_
    refine CWp.loopX (ι:=Unit) hk (fun u=>[(22,.d (.i 0))]) [8,9,23,24,25,26,27,28,29,30,31,32,33,34] (fun u=>[]) (fun u=>True) (fun u=>0) () trivial ⟨⟨_,rfl,(LeA.eqi (by first|rfl|(simp;done)|(simp_all;done)|omega))⟩,trivial⟩ trivial (fun x=>rfl) (fun u hg1=>?_)
    refine evc [26] [4,999999] ?_
    refine sq (fun h3 h3p h3s=>?_) fun h3 h3p h3s=>?_
    ·try simp only[Q,List.length_map] at h3p
     exfalso;simp at h3
    ·try simp only[Q,List.length_map] at h3p
     refine CWp.ret ?_
     refine rn0 (r2 rfl rfl) (.tup (.cons (.eqd ?_) (.cons (.eqd ?_) .nil)))
     all_goals (first|rfl|(rw[show S=[] from List.eq_nil_of_length_eq_zero (by have hz:L.map Bd.c=[]:=(by assumption);have hz2:=congrArg List.length hz;simp only[List.length_nil] at hz2;omega)];rfl))
   ·
    refine evc [26] [] ?_
    refine Walk.call (cr:=[]) zqC (zi1 (L:=L) (by omega) zsB (fun a b=>zjt)) rfl .none rfl rfl (.cons (LeA.msn (by first|rfl|(simp[List.length_map];done))) (.cons (.refl _) .nil)) ⟨rfl,trivial⟩ rfl ziQ rfl ?_
    refine tv ?_
    refine CWp.loopX (ι:=Nat) hk (fun i=>[(22,.d (.i (i:Int)))]) [8,9,23,24,25,26,27,28,29,30,31,32,33,34] (fun i=>[(9,some (.box (bdC S)))]) (fun i=>i≤L.length) (fun i=>L.length-i) 0 (by omega) ⟨⟨_,rfl,(LeA.eqi (by first|rfl|(simp;done)|(simp_all;done)|omega))⟩,trivial⟩ ⟨(by(show some (Res.box _)=some (Res.box _);rw[hso])),trivial⟩ (fun x=>rfl) (fun i hg1=>?_)
    refine evc [26] [4,999999] ?_
    refine sq (fun h4 h4p h4s=>?_) fun h4 h4p h4s=>?_
    ·try simp only[Q,List.length_map] at h4p
     refine Walk.idxM sl32 .none rfl rfl rfl rfl (by omega) ?_
     refine Walk.loadBA ty58 .none rfl rfl rfl ((zhb (by omega))) ?_
     refine Walk.alloc (id:=3009) tz58 rfl .none rfl (by rfl) (by rfl) (by(simp only[zaN,occH,occE,Res.ids,List.cons_append,List.nil_append,AV.idsL,AV.ids,zas,zat,zaR,zbD,List.map_cons,List.map_nil,upC,idsD,zgc];rfl)) ?_
     refine evs [26] [] ?_
     refine Walk.store ty58 .none rfl rfl rfl rfl rfl rfl (by simp) rfl ?_
     refine tv ?_
     refine Walk.call (cr:=[]) zqD (zgr (nth S i).val.size (Nat.le_refl _) (hrow (by omega)).1) rfl .none rfl rfl (LeL.refl _) trivial rfl (by rfl) (by rfl) ?_
     refine Walk.idxM sl32 .none rfl rfl rfl rfl (by omega) ?_
     refine evs [26] [] ?_
     refine Walk.store ty29 .none rfl rfl rfl rfl rfl rfl (by simp) ((zpA (by omega))) ?_
     refine tv ?_
     refine ar ?_
     refine Exists.intro (i+1) ⟨(by omega),(by omega),Sub.x (by kernel_rfl) (by kernel_rfl) ⟨⟨_,rfl,(LeA.eqi (by first|rfl|(simp;done)|(simp_all;done)|omega))⟩,trivial⟩ (by kernel_rfl) (by kernel_rfl) ⟨(by rfl),trivial⟩⟩
    ·try simp only[Q,List.length_map] at h4p
     refine CWp.frz hk 4 9 _ _ rfl rfl (zo8 (by simp;omega)) rfl ?_
     refine CWp.ret ?_
     refine rn0 (r2 rfl rfl) (.tup (.cons (.eqd ?_) (.cons (.eqd ?_) .nil)))
     all_goals (rfl)
theorem zqb {w:List Data}{a k:Int}{p:Pat}{v:Val} (h1:isP w ⟨a,k⟩ p=true) (h2:isV w ⟨a,k⟩ v=true) (hp:p.ok) (hv:v.ok):MatchOk w 10 10 ⟨a,k⟩ p v:=by
 unfold isP at h1
 unfold isV at h2
 simp only[Bool.and_eq_true,decide_eq_true_eq] at h1 h2
 exact⟨h1.1,h2.1,hp,hv,by omega,by omega⟩
inductive Ex where
 |mk (op n ctor:Int) (kids:List Ex)
 deriving Inhabited
mutual
def Ex.c:Ex→List D
 | .mk op n ctor kids=>[.i op,.i n,.i ctor,.sl (Ex.cs kids)]
def Ex.cs:List Ex→List (List D)
 | []=>[]
 |v::r=>v.c::Ex.cs r
end
abbrev zrU (l:List Ex):D:= .sl (Ex.cs l)
theorem Ex.cs_eq:∀l:List Ex,Ex.cs l=l.map Ex.c
 | []=>rfl
 |v::r=>by simp[Ex.cs,Ex.cs_eq r]
theorem Ex.cs_len (l:List Ex):(Ex.cs l).length=l.length:=by simp[Ex.cs_eq]
def Ex.op:Ex→Int | .mk a0 _ _ _=>a0
def Ex.n:Ex→Int | .mk _ a1 _ _=>a1
def Ex.ctor:Ex→Int | .mk _ _ a2 _=>a2
def Ex.kids:Ex→List Ex | .mk _ _ _ k=>k
abbrev Ex.cc (v:Ex):List D:=[.i v.op,.i v.n,.i v.ctor,.sl (Ex.cs v.kids)]
theorem Ex.c_eq (v:Ex):v.c=v.cc:=by cases v;rfl
theorem Ex.eta (v:Ex):Ex.mk v.op v.n v.ctor v.kids=v:=by cases v;rfl
theorem Ex.cs_at' {pre:List Ex}{x:Ex}{rest xs:List Ex} (h:pre++x::rest=xs):(Ex.cs xs)[pre.length]?=some x.cc:=by rw[Ex.cs_eq,←Ex.c_eq];exact zaL h
mutual
def exEq:Ex→Ex→Bool
 | .mk a0 a1 a2 ks,.mk b0 b1 b2 ls=>decide (a0=b0)&&(decide (a1=b1)&&(decide (a2=b2)&&zmP ks ls))
def zmP:List Ex→List Ex→Bool
 | [],[]=>true
 |x::r,y::s=>exEq x y&&zmP r s
 |_,_=>false
end
mutual
def Ex.ok:Ex→Prop
 | .mk _ _ _ ks=>ks.length≤1000000000000∧Exs.ok ks
def Exs.ok:List Ex→Prop
 | []=>True
 |v::r=>v.ok∧Exs.ok r
end
theorem Exs.ok_mem:∀ {l:List Ex},Exs.ok l→∀v,v∈l→v.ok
 |x::r,h,v,hv=>by
  simp only[Exs.ok] at h
  rcases List.mem_cons.1 hv with rfl|hv
  ·exact h.1
  ·exact Exs.ok_mem h.2 v hv
mutual
def Ex.size:Ex→Nat
 | .mk _ _ _ ks=>1+Exs.size ks
def Exs.size:List Ex→Nat
 | []=>0
 |v::r=>v.size+Exs.size r
end
theorem Exs.size_mem:∀ {l:List Ex}{v:Ex},v∈l→v.size≤Exs.size l
 |x::r,v,hv=>by
  simp only[Exs.size]
  rcases List.mem_cons.1 hv with rfl|hv
  ·omega
  ·have:=Exs.size_mem hv;omega
theorem Ex.ok_iff (v:Ex):v.ok↔v.kids.length≤1000000000000∧Exs.ok v.kids:=by cases v;rfl
theorem Ex.size_eq (v:Ex):v.size=1+Exs.size v.kids:=by cases v;rfl
mutual
theorem zpl:∀v:Ex,exEq v v=true
 | .mk _ _ _ ks=>by simp[exEq,zkJ ks]
theorem zkJ:∀l:List Ex,zmP l l=true
 | []=>rfl
 |v::r=>by simp[zmP,zpl v,zkJ r]
end
theorem Ex.cs_cc (l:List Ex):Ex.cs l=l.map Ex.cc:=by
 rw[Ex.cs_eq];exact List.map_congr_left (fun v _=>Ex.c_eq v)
mutual
def mEx:Ex→Nat
 | .mk _ _ _ ks=>mExs ks
def mExs:List Ex→Nat
 | []=>0
 |v::r=>1+mEx v+mExs r
end
structure Gd where
 op:Int
 var:Int
 n:Int
 deriving Inhabited
structure Cl where
 pat:Pat
 g:Gd
 deriving Inhabited
structure Ft where
 arg:Ty
 res:Ty
 deriving Inhabited
structure Fu where
 ty:Ft
 cls:List Cl
 bodies:List Ex
 deriving Inhabited
abbrev Cl.c (x:Cl):List D:=[.i x.pat.op,.i x.pat.ctor,.i x.pat.n,.i x.pat.m,.i x.pat.var,.sl (Pat.cs x.pat.kids),.i x.g.op,.i x.g.var,.i x.g.n]
abbrev zbc (l:List Cl):D:= .sl (l.map Cl.c)
abbrev Ft.c (x:Ft):List D:=[.i x.arg.data,.i x.arg.index,.i x.res.data,.i x.res.index]
abbrev Fu.c (x:Fu):List D:=[.i x.ty.arg.data,.i x.ty.arg.index,.i x.ty.res.data,.i x.ty.res.index,zbc x.cls,zrU x.bodies]
def ClsOk (l:List Cl):Prop:=l.length≤1000000000000∧∀c∈l,c.pat.ok
mutual
def cntE (m:Int):Ex→Int
 | .mk _ _ _ ks=>zd6 m 1 ks
def zd6 (m n:Int):List Ex→Int
 | []=>n
 |k::r=>if n≤m then zd6 m (n+cntE (m-n) k) r else n
end
theorem zoE {m n:Int}{l:List Ex} (h:¬n≤m):zd6 m n l=n:=by cases l<;>simp[zd6,h]
mutual
theorem zoa:∀(v:Ex) (m:Int),1≤cntE m v∧cntE m v≤v.size
 | .mk _ _ _ ks,m=>by
  have:=zjW ks m 1 (by omega)
  simp only[cntE,Ex.size];push_cast;omega
theorem zjW:∀(l:List Ex) (m n:Int),1≤n→1≤zd6 m n l∧zd6 m n l≤n+Exs.size l
 | [],m,n,h=>by simp[zd6,Exs.size];omega
 |k::r,m,n,h=>by
  have h1:=zoa k (m-n)
  have h2:=zjW r m (n+cntE (m-n) k) (by omega)
  simp only[zd6,Exs.size]
  split
  ·push_cast;omega
  ·push_cast;omega
end
mutual
theorem zp6:∀(v:Ex) (m:Int),(cntE m v≤m↔(v.size:Int)≤m)∧(cntE m v≤m→cntE m v=v.size)
 | .mk _ _ _ ks,m=>by
  have:=zl2 ks m 1
  simp only[cntE,Ex.size];push_cast;exact this
theorem zl2:∀(l:List Ex) (m n:Int),(zd6 m n l≤m↔n+(Exs.size l:Int)≤m)∧(zd6 m n l≤m→zd6 m n l=n+Exs.size l)
 | [],m,n=>by simp[zd6,Exs.size]
 |k::r,m,n=>by
  have h1:=zp6 k (m-n)
  have h2:=zl2 r m (n+cntE (m-n) k)
  have h3:=zjW r m (n+cntE (m-n) k)
  have h4:=zoa k (m-n)
  simp only[zd6,Exs.size]
  push_cast
  by_cases hn:n≤m
  ·rw[if_pos hn]
   by_cases h5:cntE (m-n) k≤m-n
   ·have h6:=h1.2 h5
    rw[h6] at h2 ⊢
    constructor
    ·rw[h2.1];constructor<;>intro h<;>omega
    ·intro h;rw[h2.2 h];omega
   ·have h7:¬(k.size:Int)≤m-n:=fun h=>h5 (h1.1.2 h)
    have h8:¬n+cntE (m-n) k≤m:=by omega
    rw[zoE h8]
    constructor
    ·constructor<;>intro h<;>omega
    ·intro h;omega
  ·rw[if_neg hn]
   constructor
   ·constructor<;>intro h<;>omega
   ·intro h;omega
end
def TyOk (n:Nat) (t:Ty):Prop:=TyIn n t∧(t.data = -1→t.index=0)
def gdOk (g:Gd) (vars:List Vt):Bool:=if g.op=0 then decide (g.var=0∧g.n=0) else decide (1≤g.op∧g.op≤2∧0≤g.n∧g.n≤9)&&decide ((⟨g.var,⟨-1,0⟩⟩:Vt)∈vars)
def zd3 (w:List Data) (t:Ty) (p:Pat):List Vt:=zc8 (zaG w 10 t p 0).1
def clOk (w:List Data) (t:Ty) (c:Cl):Bool:=isP w t c.pat&&gdOk c.g (zd3 w t c.pat)
def zax (w:List Data) (t:Ty) (l:List Cl):Bool:=zbl w t&&(decide ((l.length:Int)≤8)&& !l.any fun c=> !clOk w t c)
theorem zg6 {xs:List Cl}{f:Nat}{caps:List AV}{hp:Hp}{p:Cl→Bool} (hs:xs.length≤1000000000000) (hcal:Callee Tryz.prog f)
  (hf:∀t∈xs,FnD Tryz.prog f ([.agg [.d (.i t.pat.op),.d (.i t.pat.ctor),.d (.i t.pat.n),.d (.i t.pat.m),.d (.i t.pat.var),.d (zaH t.pat.kids),.d (.i t.g.op),.d (.i t.g.var),.d (.i t.g.n)]]++caps) hp (.d (.bool (p t))) []) (k1:subH hp hp) (k2:zeZ hp=true) (k3:zbB hp [] (.d .nilp) []=true):
  FnD Tryz.prog 48 [.d (zbc xs),.fn f caps] hp (.d (.i (idxF p xs 0))) []:=by
 refine bd Tryz.f48 19 [] [] fun w0 F0 own kept hk=>?_
 refine CWp.loopX (ι:=List (Cl)×List (Cl)) hk (fun x=>[(8,.d (.i (x.1.length:Int)))]) [4,5,9,10,11,12,13,14,15,16,17,18] (fun x=>[]) (fun x=>x.1++x.2=xs∧idxF p x.2 x.1.length=idxF p xs 0) (fun x=>x.2.length) ([],xs) ⟨by simp,rfl⟩ ⟨⟨_,rfl,(LeA.eqi (by first|rfl|(simp;done)|(simp_all;done)|omega))⟩,trivial⟩ trivial (fun x=>zfS hp) (fun x hg1=>?_)
 obtain⟨pre,rest⟩:=x
 dsimp only at hg1 ⊢
 refine evc [] [] ?_
 refine sq (fun h1 h1p h1s=>?_) fun h1 h1p h1s=>?_
 ·try simp only[Q] at h1p
  rcases rest with _|⟨y,rest⟩
  ·exfalso;simp_all
  refine Walk.idx sl26 .none rfl rfl rfl rfl (zaL hg1.1) rfl ?_
  refine ev ?_
  refine Walk.callV (cr:=[]) hcal (hf y (by rw[←hg1.1];simp)) rfl .none rfl rfl rfl (LeL.refl _) k1 k2 (zez k3 _) rfl ?_
  refine tv ?_
  refine sq (fun h2 h2p h2s=>?_) fun h2 h2p h2s=>?_
  ·try simp only[Q] at h2p
   refine rn [] (r1 rfl) (.eqd ?_) ⟨rfl,rfl⟩ (fun _ _ h=>h) (fun _ h=>h)
   all_goals (rw[←hg1.2];simp[idxF,h1s,h1p,h2s,h2p])
  ·try simp only[Q] at h2p
   refine ar ?_
   refine Exists.intro ((pre++[y],rest)) ⟨⟨(by have hz:=hg1.1;rw[←hz];simp),(by rw[←hg1.2];simp[idxF,h2s])⟩,(by simp),Sub.x (by kernel_rfl) (by kernel_rfl) ⟨⟨_,rfl,(LeA.eqi (by first|rfl|(simp;done)|(simp_all;done)|omega))⟩,trivial⟩ (by simp) (by simp[zdw]) trivial⟩
 ·try simp only[Q] at h1p
  have hrest:rest=[]:=by
   rcases rest with _|⟨a,b⟩
   ·rfl
   ·exfalso;have hz:=congrArg List.length (hg1.1);simp only[List.length_append,List.length_cons,List.length_map] at hz;omega
  subst hrest
  refine rn [] (r1 rfl) (.eqd ?_) ⟨rfl,rfl⟩ (fun _ _ h=>h) (fun _ h=>h)
  all_goals (rw[←hg1.2];simp[idxF,h1s,h1p])
theorem zf1 {xs:List Cl}{f:Nat}{caps:List AV}{hp:Hp}{p:Cl→Bool} (hs:xs.length≤1000000000000) (hcal:Callee Tryz.prog f)
  (hf:∀t∈xs,FnD Tryz.prog f ([.agg [.d (.i t.pat.op),.d (.i t.pat.ctor),.d (.i t.pat.n),.d (.i t.pat.m),.d (.i t.pat.var),.d (zaH t.pat.kids),.d (.i t.g.op),.d (.i t.g.var),.d (.i t.g.n)]]++caps) hp (.d (.bool (p t))) []) (k1:subH hp hp) (k2:zeZ hp=true) (k3:zbB hp [] (.d .nilp) []=true):
  FnD Tryz.prog 25 [.d (zbc xs),.fn f caps] hp (.d (.bool (xs.any p))) []:=by
 refine bd Tryz.f25 9 [] [] fun w0 F0 own kept hk=>?_
 refine Walk.call (cr:=[]) zsy (zg6 hs hcal hf k1 k2 k3) rfl .none rfl rfl (LeL.refl _) k1 k2 (zez k3 _) rfl ?_
 refine ev ?_
 refine rn [] (r1 rfl) (.eqd ?_) ⟨rfl,rfl⟩ (fun _ _ h=>h) (fun _ h=>h)
 all_goals (exact congrArg D.bool (zfj p xs 0))
theorem zh6 (w:List Data) (t:Ty) (p:Pat):(zd3 w t p).length≤6:=(zd0 w 10 t p 0).2
theorem zkN {g:Gd}{vars:List Vt} (hv:vars.length≤1000000000000):FnD Tryz.prog 50 [.agg [.d (.i g.op),.d (.i g.var),.d (.i g.n)],.d (zcK vars)] [] (.d (.bool (gdOk g vars))) []:=by
 refine bd Tryz.f50 27 [10] [] fun w0 F0 own kept hk=>?_
 refine Walk.box (id:=3002) .none rfl rfl rfl rfl rfl rfl rfl ?_
 refine evs [10] [] ?_
 refine sq (fun h1 h1p h1s=>?_) fun h1 h1p h1s=>?_
 ·try simp only[Q,zaf] at h1p
  refine Walk.build st39 (ks:=[]) (xs:=[]) rfl rfl .none rfl rfl rfl ?_
  refine Walk.eqV eq39 .none rfl rfl rfl rfl rfl ?_
  refine evs [10] [] ?_
  refine rn0 (r1 rfl) (.eqd ?_)
  all_goals (refine congrArg D.bool ?_;unfold gdOk;first|(rw[if_pos (by omega)];simp_all;done)|(rw[if_neg (by omega)];simp_all[zaf];done)|(rw[if_neg (by omega),decide_eq_false (by omega),Bool.false_and];done)|(rw[if_neg (by omega),decide_eq_true (by omega),Bool.true_and];done)|(rw[if_neg (by omega)];simp_all[zaf];omega))
 ·try simp only[Q,zaf] at h1p
  refine Walk.call (cr:=[]) zd5 (za6) rfl .none rfl rfl (LeL.refl _) trivial rfl rfl rfl ?_
  refine evs [10] [] ?_
  refine sq (fun h2 h2p h2s=>?_) fun h2 h2p h2s=>?_
  ·try simp only[Q,zaf] at h2p
   refine Walk.call (cr:=[]) zd5 (za6) rfl (.some rfl rfl h2) rfl rfl (LeL.refl _) trivial rfl rfl rfl ?_
   refine evs [10] [(14,true)] ?_ ⟨⟨_,rfl,h2⟩,trivial⟩
   refine sq (fun h3 h3p h3s=>?_) fun h3 h3p h3s=>?_
   ·try simp only[Q,zaf] at h3p
    refine Walk.build st25 (ks:=[0]) (xs:=[_]) rfl rfl (.some rfl rfl h3) rfl rfl rfl ?_
    refine Walk.build zoU (ks:=[0,1]) (xs:=[_,_]) rfl rfl (.some rfl rfl h3) rfl rfl rfl ?_
    refine Walk.call (cr:=[]) zqG (zeK (v:=⟨g.var,⟨-1,0⟩⟩) hv) rfl (.some rfl rfl h3) rfl rfl (LeL.refl _) trivial rfl rfl rfl ?_
    refine evs [10] [(19,true)] ?_ ⟨⟨_,rfl,h3⟩,trivial⟩
    refine rn0 (r1 rfl) (.eqd ?_)
    all_goals (refine congrArg D.bool ?_;unfold gdOk;first|(rw[if_pos (by omega)];simp_all;done)|(rw[if_neg (by omega)];simp_all[zaf];done)|(rw[if_neg (by omega),decide_eq_false (by omega),Bool.false_and];done)|(rw[if_neg (by omega),decide_eq_true (by omega),Bool.true_and];done)|(rw[if_neg (by omega)];simp_all[zaf];omega))
   ·try simp only[Q,zaf] at h3p
    refine rn0 (r1 rfl) (.eqd ?_)
    all_goals (refine congrArg D.bool ?_;unfold gdOk;first|(rw[if_pos (by omega)];simp_all;done)|(rw[if_neg (by omega)];simp_all[zaf];done)|(rw[if_neg (by omega),decide_eq_false (by omega),Bool.false_and];done)|(rw[if_neg (by omega),decide_eq_true (by omega),Bool.true_and];done)|(rw[if_neg (by omega)];simp_all[zaf];omega))
  ·try simp only[Q,zaf] at h2p
   refine sqF ?_
   refine rn0 (r1 rfl) (.eqd ?_)
   all_goals (refine congrArg D.bool ?_;unfold gdOk;first|(rw[if_pos (by omega)];simp_all;done)|(rw[if_neg (by omega)];simp_all[zaf];done)|(rw[if_neg (by omega),decide_eq_false (by omega),Bool.false_and];done)|(rw[if_neg (by omega),decide_eq_true (by omega),Bool.true_and];done)|(rw[if_neg (by omega)];simp_all[zaf];omega))
theorem zj7 {w:List Data} (hw:WT w){t:Ty}{c:Cl} (ht:TyIn w.length t) (hok:c.pat.ok):
  FnD Tryz.prog 27 [.d (zag w),.agg [.d (.i t.data),.d (.i t.index)],.agg [.d (.i c.pat.op),.d (.i c.pat.ctor),.d (.i c.pat.n),.d (.i c.pat.m),.d (.i c.pat.var),.d (zaH c.pat.kids),.d (.i c.g.op),.d (.i c.g.var),.d (.i c.g.n)]] [] (.d (.bool (clOk w t c))) []:=by
 have ht':TyIn w.length ⟨t.data,t.index⟩:=ht
 have hvl:=zh6 w t c.pat
 refine bd Tryz.f27 24 [] [] fun w0 F0 own kept hk=>?_
 refine Walk.box (id:=3004) .none rfl rfl rfl rfl rfl rfl rfl ?_
 refine Walk.box (id:=3005) .none rfl rfl rfl rfl rfl rfl rfl ?_
 refine ev ?_
 refine Walk.call (cr:=[]) zsz (zif hw ht' hok) rfl .none rfl rfl (LeL.refl _) trivial rfl rfl rfl ?_
 refine ev ?_
 refine sq (fun h1 h1p h1s=>?_) fun h1 h1p h1s=>?_
 ·try simp only[Q] at h1p
  refine Walk.call (cr:=[]) zsA (zkN (g:=c.g) (vars:=zd3 w t c.pat) (by omega)) rfl (.some rfl rfl h1) rfl rfl (LeL.refl _) trivial rfl rfl rfl ?_
  refine evs [] [(18,true)] ?_ ⟨⟨_,rfl,h1⟩,trivial⟩
  refine rn0 (r1 rfl) (.eqd ?_)
  all_goals (refine congrArg D.bool ?_;unfold clOk;have hte:(⟨t.data,t.index⟩:Ty)=t:=rfl;first|(simp_all;done)|(rw[hte] at *;simp_all;done))
 ·try simp only[Q] at h1p
  refine rn0 (r1 rfl) (.eqd ?_)
  all_goals (refine congrArg D.bool ?_;unfold clOk;have hte:(⟨t.data,t.index⟩:Ty)=t:=rfl;first|(simp_all;done)|(rw[hte] at *;simp_all;done))
theorem zg4 {w:List Data} (hw:WT w){a k:Int}{c:Cl} (ht:TyIn w.length ⟨a,k⟩) (hok:c.pat.ok):
  FnD Tryz.prog 26 [.agg [.d (.i c.pat.op),.d (.i c.pat.ctor),.d (.i c.pat.n),.d (.i c.pat.m),.d (.i c.pat.var),.d (zaH c.pat.kids),.d (.i c.g.op),.d (.i c.g.var),.d (.i c.g.n)],.ref 3003 0,.ref 3004 0] [(3003,some (.box [.d (zag w)])),(3004,some (.box [.d (.i a),.d (.i k)]))] (.d (.bool (!clOk w ⟨a,k⟩ c))) []:=by
 refine bd Tryz.f26 10 [] [] fun w0 F0 own kept hk=>?_
 refine Walk.box (id:=3901) .none rfl rfl rfl rfl rfl rfl rfl ?_
 refine ev ?_
 refine Walk.call (cr:=[]) zsn (zj7 (t:=⟨a,k⟩) (c:=c) hw ht hok) rfl .none rfl rfl (LeL.refl _) trivial rfl rfl rfl ?_
 refine ev ?_
 refine rn [] (r1 rfl) (.eqd ?_) ⟨rfl,rfl⟩ (SubH.get ⟨rfl,⟨rfl,trivial⟩⟩) (fun _ h=>h)
 all_goals (rfl)
theorem zct {w:List Data} (hs:WSmall w){a k:Int}{l:List Cl} (hl:ClsOk l):
  FnD Tryz.prog 11 [.d (zag w),.agg [.d (.i a),.d (.i k)],.d (zbc l)] [] (.d (.bool (zax w ⟨a,k⟩ l))) []:=by
 have hll:=hl.1
 refine bd Tryz.f11 21 [] [] fun w0 F0 own kept hk=>?_
 refine Walk.box (id:=3003) .none rfl rfl rfl rfl rfl rfl rfl ?_
 refine Walk.box (id:=3004) .none rfl rfl rfl rfl rfl rfl rfl ?_
 refine ev ?_
 refine Walk.call (cr:=[]) zsk (zjs hs) rfl .none rfl rfl (LeL.refl _) trivial rfl rfl rfl ?_
 refine ev ?_
 refine sq (fun h1 h1p h1s=>?_) fun h1 h1p h1s=>?_
 ·try simp only[Q] at h1p
  refine sq (fun h2 h2p h2s=>?_) fun h2 h2p h2s=>?_
  ·try simp only[Q] at h2p
   refine Walk.closure (xs:=[_,_]) rfl (.some rfl rfl h2) rfl rfl ?_
   refine Walk.call (cr:=[]) zsl (zf1 (p:=fun c=> !clOk w ⟨a,k⟩ c) hl.1 zsm (fun t htm=>zg4 (zfs hs (zd2 (by assumption)).1) (zd2 (by assumption)).2.1 (hl.2 t htm)) ⟨rfl,rfl,trivial⟩ rfl rfl) rfl (.some rfl rfl h2) rfl rfl (LeL.refl _) ⟨rfl,rfl,trivial⟩ rfl rfl rfl ?_
   refine evs [] [(15,true)] ?_ ⟨⟨_,rfl,h2⟩,trivial⟩
   refine rn0 (r1 rfl) (.eqd ?_)
   all_goals (refine congrArg D.bool ?_;unfold zax;first|(simp_all;done)|(simp_all;omega))
  ·try simp only[Q] at h2p
   refine rn0 (r1 rfl) (.eqd ?_)
   all_goals (refine congrArg D.bool ?_;unfold zax;first|(simp_all;done)|(simp_all;omega))
 ·try simp only[Q] at h1p
  refine sqF ?_
  refine rn0 (r1 rfl) (.eqd ?_)
  all_goals (refine congrArg D.bool ?_;unfold zax;first|(simp_all;done)|(simp_all;omega))
def AZ (w:List Data):Prop:=∀t c,c∈zah w t→TyIn w.length t→∀u∈zam w t c,u.data = -1→u.index=0
theorem zqo {w:List Data} (hv:zaA w=true):AZ w:=by
 have hW:=(zcI w).1 hv
 rintro ⟨a,k⟩ c hc ht u hu hd
 obtain⟨d,rfl,h1,j,rfl,h3⟩:=zcD ht hc
 have hco:=hW.ctor _ (zai h1) _ (zai h3)
 simp only[za1,Bool.and_eq_true,decide_eq_true_eq,Bool.not_eq_true',List.any_eq_false,Bool.not_eq_false'] at hco
 have hall:=hco.2.2.2
 simp only[zam,Int.toNat_natCast] at hu
 obtain⟨x,hx,rfl⟩:=List.mem_map.1 hu
 have hxo:=hall x hx
 simp only[zbg,zaf,Bool.or_eq_true,Bool.and_eq_true,decide_eq_true_eq,and_true,Bool.not_eq_true',Bool.not_eq_false] at hxo
 unfold za0 at hd ⊢
 split at hd
 ·rename_i hi
  rw[if_pos hi]
  dsimp only at hd ⊢
  omega
 ·rename_i hi
  rw[if_neg hi]
  omega
theorem zpU {n:Nat}{t:Ty} (h:zci n t=true):TyOk n t:=by
 refine⟨zpT h,fun hd=>?_⟩
 simp only[zci,zaf,Bool.or_eq_true,Bool.and_eq_true,decide_eq_true_eq,and_true] at h
 omega
theorem zmx {w:List Data}{t:Ty}{p:Pat} (h:isP w t p=true):zd3 w t p=zar w 10 t p:=by
 unfold isP at h
 simp only[Bool.and_eq_true,decide_eq_true_eq] at h
 have e:=(zdZ w 10 t p 0).1
 have hw:zbq w 10 t p 0=true:=by
  unfold zbq;rw[h.1,h.2.2,decide_eq_true (by omega)];rfl
 rw[if_pos hw] at e
 unfold zd3;rw[e];rfl
theorem zpZ {w:List Data}{t:Ty}{p:Pat} (h:isP w t p=true):zb2 (zar w 10 t p)=true:=by
 unfold isP at h
 simp only[Bool.and_eq_true] at h
 exact zdW w 10 t p h.1 h.2.2
theorem znT {w:List Data} (hw:WT w) (haz:AZ w):∀(n:Nat){t:Ty}{p:Pat},zap w n t p=true→TyOk w.length t→∀v∈zar w n t p,TyOk w.length v.ty
 |0,t,p,h,_=>by simp[zap] at h
 |n+1,t,p,h,ht=>by
  obtain⟨ho,hlen⟩:=zcz h
  intro v hv
  have hto:∀u∈zaa w t p,TyOk w.length u:=fun u hu=>by
   refine⟨zfG (a:=t.data) (k:=t.index) hw ht.1 ho u hu,fun hd=>?_⟩
   unfold zaa at hu
   split at hu
   ·rename_i h4;exact haz t p.ctor (zcn ho h4) ht.1 u hu hd
   ·split at hu
    ·simp only[List.mem_cons,List.not_mem_nil,or_false,or_self] at hu
     rw[hu] at hd ⊢;exact ht.2 hd
    ·split at hu
     ·simp only[List.mem_cons,List.not_mem_nil,or_false] at hu
      rw[hu] at hd ⊢;exact ht.2 hd
     ·simp at hu
  simp only[zar,List.mem_append] at hv
  rcases hv with hv|hv
  ·unfold zaD at hv
   split at hv
   ·simp only[List.mem_cons,List.not_mem_nil,or_false] at hv
    rw[hv];exact ht
   ·simp at hv
  ·have key:∀(a:List Ty) (b:List Pat),(∀i,i<a.length→i<b.length→∀v∈zar w n (nth a i) (nth b i),TyOk w.length v.ty)→∀v∈zaS (zar w n) a b,TyOk w.length v.ty:=by
    intro a
    induction a with
    |nil=>intro b _ v hv;simp[zaS] at hv
    |cons x r ih=>
     intro b h v hv
     cases b with
     |nil=>simp[zaS] at hv
     |cons y s=>
      simp only[zaS,List.mem_append] at hv
      rcases hv with hv|hv
      ·exact h 0 (by simp) (by simp) v hv
      ·exact ih s (fun i h1 h2=>h (i+1) (by simpa using h1) (by simpa using h2)) v hv
   refine key (zcr w t p) p.kids (fun i h1 h2=>?_) v hv
   have hvt:i<(zaa w t p).length∧nth (zcr w t p) i=nth (zaa w t p) i:=by
    unfold zcr at h1 ⊢
    split at h1
    ·rename_i h5
     rw[if_pos h5]
     rw[List.length_take] at h1
     refine⟨by omega, ?_⟩
     have:i=0:=by omega
     subst this
     cases hT:zaa w t p with
     |nil=>rfl
     |cons a b=>rfl
    ·rename_i h5
     rw[if_neg h5];exact⟨h1,rfl⟩
   rw[hvt.2]
   exact znT hw haz n (zbS h (by omega)) (hto _ (zai hvt.1))
def gdS (g:Gd) (vars:List Vt):Bool:=if g.op=0 then decide (g.var=0∧g.n=0) else decide (1≤g.op∧g.op≤2∧0≤g.n∧g.n≤9)&&(decide (0≤zbv vars g.var)&&decide ((nth vars (zbv vars g.var).toNat).ty.data = -1))
theorem zrX {n:Nat}{g:Gd}{vars:List Vt} (hn:zb2 vars=true) (hv:∀v∈vars,TyOk n v.ty):gdS g vars=gdOk g vars:=by
 unfold gdS gdOk
 split
 ·rfl
 ·congr 1
  have hnod:=of_decide_eq_true hn
  rw[Bool.eq_iff_iff]
  simp only[Bool.and_eq_true,decide_eq_true_eq]
  constructor
  ·rintro ⟨h1,h2⟩
   rcases zeS vars g.var with ⟨h3,_⟩|⟨k,h3,h4,h5,_⟩
   ·omega
   ·rw[h3] at h2
    simp only[Int.toNat_natCast] at h2
    have hm:=zai h4
    have ho:=(hv _ hm).2 h2
    have:nth vars k=⟨g.var,⟨-1,0⟩⟩:=by
     generalize nth vars k=z at *
     obtain⟨zv,⟨za,zk⟩⟩:=z
     dsimp only at h5 h2 ho
     rw[h5,h2,ho]
    rw[←this];exact hm
  ·intro hm
   rcases zeS vars g.var with ⟨_,h4⟩|⟨k,h3,h4,h5,_⟩
   ·exact absurd rfl (h4 _ hm)
   ·refine⟨by omega, ?_⟩
    rw[h3]
    simp only[Int.toNat_natCast]
    obtain⟨j,hj,e⟩:=List.getElem_of_mem hm
    have ej:nth vars j=⟨g.var,⟨-1,0⟩⟩:=by simp[nth,List.getD,hj,e]
    have:k=j:=ziO hnod h4 hj (by rw[h5,ej])
    rw[this,ej]
theorem zll {g:Gd}{vars:List Vt} (hv:vars.length≤1000000000000):FnD Tryz.prog 69 [.agg [.d (.i g.op),.d (.i g.var),.d (.i g.n)],.d (zcK vars)] [] (.d (.bool (gdS g vars))) []:=by
 have hlt:=fun h=>zj1 (l:=vars) (n:=g.var) h
 refine bd Tryz.f69 50 [] [3] fun w0 F0 own kept hk=>?_
 refine Walk.box (id:=3002) .none rfl rfl rfl rfl rfl rfl rfl ?_
 refine ev ?_
 refine sq (fun h1 h1p h1s=>?_) fun h1 h1p h1s=>?_
 ·try simp only[Q] at h1p
  refine sq (fun h2 h2p h2s=>?_) fun h2 h2p h2s=>?_
  ·try simp only[Q] at h2p
   refine rn0 (r1 rfl) (.eqd ?_)
   all_goals (refine congrArg D.bool ?_;unfold gdS;first|(rw[if_pos (by omega)];simp_all;done)|(rw[if_neg (by omega),decide_eq_false (by omega),Bool.false_and];done)|(rw[if_neg (by omega),decide_eq_true (by omega),Bool.true_and];simp_all;done)|(rw[if_neg (by omega),decide_eq_true (by omega),Bool.true_and,decide_eq_false (by omega),Bool.false_and];done)|(rw[if_neg (by omega)];simp_all;done))
  ·try simp only[Q] at h2p
   refine rn0 (r1 rfl) (.eqd ?_)
   all_goals (refine congrArg D.bool ?_;unfold gdS;first|(rw[if_pos (by omega)];simp_all;done)|(rw[if_neg (by omega),decide_eq_false (by omega),Bool.false_and];done)|(rw[if_neg (by omega),decide_eq_true (by omega),Bool.true_and];simp_all;done)|(rw[if_neg (by omega),decide_eq_true (by omega),Bool.true_and,decide_eq_false (by omega),Bool.false_and];done)|(rw[if_neg (by omega)];simp_all;done))
 ·try simp only[Q] at h1p
  refine CWp.regionJ ?_
  refine WRest.join 18 [(34,.d (.bool (decide (¬(1≤g.op∧g.op≤2∧0≤g.n∧g.n≤9)))))] [17,18,19,20,21,22,23,24,25,26,27,28,29,30,31,32,33] ?_ ?_
  ·
   refine ev ?_
   refine sq (fun h3 h3p h3s=>?_) fun h3 h3p h3s=>?_
   ·try simp only[Q] at h3p
    refine sq (fun h4 h4p h4s=>?_) fun h4 h4p h4s=>?_
    ·try simp only[Q] at h4p
     refine sqT ?_
     exact jn rfl (LeA.eqb (by(first|rfl|(rw[Bool.eq_iff_iff];simp_all;done)|(rw[Bool.eq_iff_iff];simp_all;omega))))
    ·try simp only[Q] at h4p
     refine sq (fun h5 h5p h5s=>?_) fun h5 h5p h5s=>?_
     ·try simp only[Q] at h5p
      exact jn rfl (LeA.eqb (by(first|rfl|(rw[Bool.eq_iff_iff];simp_all;done)|(rw[Bool.eq_iff_iff];simp_all;omega))))
     ·try simp only[Q] at h5p
      exact jn rfl (LeA.eqb (by(first|rfl|(rw[Bool.eq_iff_iff];simp_all;done)|(rw[Bool.eq_iff_iff];simp_all;omega))))
   ·try simp only[Q] at h3p
    refine sqF ?_
    refine sq (fun h6 h6p h6s=>?_) fun h6 h6p h6s=>?_
    ·try simp only[Q] at h6p
     exact jn rfl (LeA.eqb (by(first|rfl|(rw[Bool.eq_iff_iff];simp_all;done)|(rw[Bool.eq_iff_iff];simp_all;omega))))
    ·try simp only[Q] at h6p
     exact jn rfl (LeA.eqb (by(first|rfl|(rw[Bool.eq_iff_iff];simp_all;done)|(rw[Bool.eq_iff_iff];simp_all;omega))))
  refine WRest.done ?_
  refine tv ?_
  refine sq (fun h7 h7p h7s=>?_) fun h7 h7p h7s=>?_
  ·try simp only[Q] at h7p
   refine rn0 (r1 rfl) (.eqd ?_)
   all_goals (refine congrArg D.bool ?_;unfold gdS;first|(rw[if_pos (by omega)];simp_all;done)|(rw[if_neg (by omega),decide_eq_false (by omega),Bool.false_and];done)|(rw[if_neg (by omega),decide_eq_true (by omega),Bool.true_and];simp_all;done)|(rw[if_neg (by omega),decide_eq_true (by omega),Bool.true_and,decide_eq_false (by omega),Bool.false_and];done)|(rw[if_neg (by omega)];simp_all;done))
  ·try simp only[Q] at h7p
   refine Walk.call (cr:=[]) zoC (zfo hv) rfl .none rfl rfl (LeL.refl _) trivial rfl rfl rfl ?_
   refine ev ?_
   refine sq (fun h8 h8p h8s=>?_) fun h8 h8p h8s=>?_
   ·try simp only[Q] at h8p
    refine Walk.idx (i:=(zbv vars g.var).toNat) sl86 (.some rfl rfl h8) rfl rfl rfl (by have:=hlt (by omega);omega) (zak (by have:=hlt (by omega);omega)) rfl ?_
    refine evs [] [(41,true)] ?_ ⟨⟨_,rfl,h8⟩,trivial⟩
    refine rn0 (r1 rfl) (.eqd ?_)
    all_goals (refine congrArg D.bool ?_;unfold gdS;first|(rw[if_pos (by omega)];simp_all;done)|(rw[if_neg (by omega),decide_eq_false (by omega),Bool.false_and];done)|(rw[if_neg (by omega),decide_eq_true (by omega),Bool.true_and];simp_all;done)|(rw[if_neg (by omega),decide_eq_true (by omega),Bool.true_and,decide_eq_false (by omega),Bool.false_and];done)|(rw[if_neg (by omega)];simp_all;done))
   ·try simp only[Q] at h8p
    refine rn0 (r1 rfl) (.eqd ?_)
    all_goals (refine congrArg D.bool ?_;unfold gdS;first|(rw[if_pos (by omega)];simp_all;done)|(rw[if_neg (by omega),decide_eq_false (by omega),Bool.false_and];done)|(rw[if_neg (by omega),decide_eq_true (by omega),Bool.true_and];simp_all;done)|(rw[if_neg (by omega),decide_eq_true (by omega),Bool.true_and,decide_eq_false (by omega),Bool.false_and];done)|(rw[if_neg (by omega)];simp_all;done))
theorem znK {w:List Data} (hw:WT w) (haz:AZ w){t:Ty}{c:Cl} (ht:TyOk w.length t) (hok:c.pat.ok) (hsz:c.pat.size≤1000000000000):
  FnD Tryz.prog 39 [.d (zag w),.agg [.d (.i t.data),.d (.i t.index)],.agg [.d (.i c.pat.op),.d (.i c.pat.ctor),.d (.i c.pat.n),.d (.i c.pat.m),.d (.i c.pat.var),.d (zaH c.pat.kids),.d (.i c.g.op),.d (.i c.g.var),.d (.i c.g.n)]] [] (.d (.bool (clOk w t c))) []:=by
 have ht':TyIn w.length ⟨t.data,t.index⟩:=ht.1
 have hcl:clOk w t c=(isP w t c.pat&&gdOk c.g (zd3 w t c.pat)):=rfl
 cases hp:isP w t c.pat with
 |false=>
  have hpi:=zgy hw ht' hok hsz
  have hpi':FnD Tryz.prog 68 [.d (zag w),.agg [.d (.i t.data),.d (.i t.index)],.agg [.d (.i c.pat.op),.d (.i c.pat.ctor),.d (.i c.pat.n),.d (.i c.pat.m),.d (.i c.pat.var),.d (zaH c.pat.kids)]] [] (.d (.bool false)) []:=by rw[←hp];exact hpi
  rw[hcl,hp,Bool.false_and]
  refine bd Tryz.f39 22 [] [] fun w0 F0 own kept hk=>?_
  refine Walk.box (id:=3004) .none rfl rfl rfl rfl rfl rfl rfl ?_
  refine Walk.box (id:=3005) .none rfl rfl rfl rfl rfl rfl rfl ?_
  refine ev ?_
  refine Walk.call (cr:=[]) zoy (hpi') rfl .none rfl rfl (LeL.refl _) trivial rfl rfl rfl ?_
  refine evd [] [] ?_
  refine sq (fun h1 h1p h1s=>?_) fun h1 h1p h1s=>?_
  ·try simp only[Q] at h1p
   exfalso;contradiction
  ·try simp only[Q] at h1p
   refine dr ?_
   refine rn0 (r1 rfl) (.eqd ?_)
   all_goals (rfl)
 |true=>
  have hpi:=zgy hw ht' hok hsz
  have hpi':FnD Tryz.prog 68 [.d (zag w),.agg [.d (.i t.data),.d (.i t.index)],.agg [.d (.i c.pat.op),.d (.i c.pat.ctor),.d (.i c.pat.n),.d (.i c.pat.m),.d (.i c.pat.var),.d (zaH c.pat.kids)]] [] (.d (.bool true)) []:=by rw[←hp];exact hpi
  have hsh:zap w 10 ⟨t.data,t.index⟩ c.pat=true:=by
   have:=hp;unfold isP at this;simp only[Bool.and_eq_true] at this;exact this.1
  have hvl:=zd4 w 10 ⟨t.data,t.index⟩ c.pat
  have hge:=zrX (g:=c.g) (zpZ hp) (znT hw haz 10 hsh ht)
  have hge':gdS c.g (zar w 10 ⟨t.data,t.index⟩ c.pat)=gdOk c.g (zd3 w t c.pat):=by rw[zmx hp];exact hge
  rw[hcl,hp,Bool.true_and,←hge']
  refine bd Tryz.f39 22 [] [] fun w0 F0 own kept hk=>?_
  refine Walk.box (id:=3004) .none rfl rfl rfl rfl rfl rfl rfl ?_
  refine Walk.box (id:=3005) .none rfl rfl rfl rfl rfl rfl rfl ?_
  refine ev ?_
  refine Walk.call (cr:=[]) zoy (hpi') rfl .none rfl rfl (LeL.refl _) trivial rfl rfl rfl ?_
  refine evd [] [] ?_
  refine sq (fun h1 h1p h1s=>?_) fun h1 h1p h1s=>?_
  ·try simp only[Q] at h1p
   refine Walk.call (cr:=[]) zhy (zcY hw hsh (by omega) ht' hok hsz) rfl (.some rfl rfl h1) rfl rfl (LeL.refl _) trivial rfl rfl rfl ?_
   refine Walk.call (cr:=[]) zsH (zll (g:=c.g) (by omega)) rfl (.some rfl rfl h1) rfl rfl (LeL.refl _) trivial rfl rfl rfl ?_
   refine evd [] [(12,true)] ?_ ⟨⟨_,rfl,h1⟩,trivial⟩
   refine dr ?_
   refine rn0 (r1 rfl) (.eqd ?_)
   all_goals (rfl)
  ·try simp only[Q] at h1p
   exfalso;contradiction
def ClsSz (l:List Cl):Prop:=∀c∈l,c.pat.size≤1000000000000
theorem zs7 {w:List Data}{t:Ty} (h:zbl w t=true):TyOk w.length t:=by
 unfold zbl at h;rw[Bool.and_eq_true] at h;exact zpU h.2
theorem zkE {w:List Data}{t:Ty}{l:List Cl}{i:Nat} (hi:i<l.length) (h:clOk w t (nth l i)=false):zax w t l=false:=by
 unfold zax
 have:l.any (fun c=> !clOk w t c)=true:=List.any_eq_true.2 ⟨nth l i,zai hi,by rw[h];rfl⟩
 rw[this];simp
theorem zjg {w:List Data}{t:Ty}{l:List Cl} (ht:zbl w t=true) (hl:l.length≤8) (h:∀i,i<l.length→clOk w t (nth l i)=true):zax w t l=true:=by
 unfold zax
 rw[ht,decide_eq_true (by omega),Bool.true_and,Bool.true_and,Bool.not_eq_true',List.any_eq_false]
 intro c hc
 obtain⟨i,hi,rfl⟩:=List.getElem_of_mem hc
 have:=h i hi
 simp only[nth,List.getD,List.getElem?_eq_getElem hi,Option.getD_some] at this
 simp[this]
theorem zjh {w:List Data}{t:Ty}{l:List Cl} (h:8<l.length):zax w t l=false:=by
 unfold zax;rw[decide_eq_false (by omega),Bool.false_and,Bool.and_false]
theorem zkF {w:List Data}{t:Ty}{l:List Cl} (h:zbl w t=false):zax w t l=false:=by
 unfold zax;rw[h,Bool.false_and]
theorem zh3 {w:List Data} (hs:WSmall w){a k:Int}{l:List Cl} (hl:ClsOk l) (hz:ClsSz l):
  FnD Tryz.prog 20 [.d (zag w),.agg [.d (.i a),.d (.i k)],.d (zbc l)] [] (.d (.bool (zax w ⟨a,k⟩ l))) []:=by
 have hll:=hl.1
 refine bd Tryz.f20 31 [] [] fun w0 F0 own kept hk=>?_
 refine Walk.box (id:=3004) .none rfl rfl rfl rfl rfl rfl rfl ?_
 refine ev ?_
 refine Walk.call (cr:=[]) zsr (zkj hs) rfl .none rfl rfl (LeL.refl _) trivial rfl rfl rfl ?_
 refine ev ?_
 refine sq (fun h1 h1p h1s=>?_) fun h1 h1p h1s=>?_
 ·try simp only[Q,Int.natCast_inj] at h1p
  refine sqT ?_
  refine rn0 (r1 rfl) (.eqd ?_)
  all_goals (refine congrArg D.bool ?_;first|(rw[zkF (by assumption)];done)|(rw[zjh (by omega)];done)|(rw[zkE (i:=i) (by omega) (by assumption)];done)|(rw[zjg (by assumption) (by omega) (fun x hx=>hg1.2 x (by omega))];done))
 ·try simp only[Q,Int.natCast_inj] at h1p
  refine sq (fun h3 h3p h3s=>?_) fun h3 h3p h3s=>?_
  ·try simp only[Q,Int.natCast_inj] at h3p
   refine rn0 (r1 rfl) (.eqd ?_)
   all_goals (refine congrArg D.bool ?_;first|(rw[zkF (by assumption)];done)|(rw[zjh (by omega)];done)|(rw[zkE (i:=i) (by omega) (by assumption)];done)|(rw[zjg (by assumption) (by omega) (fun x hx=>hg1.2 x (by omega))];done))
  ·try simp only[Q,Int.natCast_inj] at h3p
   refine CWp.loopX (ι:=Nat) hk (fun i=>[(7,.d (.i (i:Int)))]) [6,17,18,19,20,21,22,23,24,25,26,27,28,29,30] (fun i=>[]) (fun i=>i≤l.length∧∀i',i'<i→clOk w ⟨a,k⟩ (nth l i')=true) (fun i=>l.length-i) 0 ⟨by omega,fun _ h=>absurd h (by omega)⟩ ⟨⟨_,rfl,(LeA.eqi (by first|rfl|(simp;done)|(simp_all;done)|omega))⟩,trivial⟩ trivial (fun x=>rfl) (fun i hg1=>?_)
   refine evc [] [] ?_
   refine sq (fun h4 h4p h4s=>?_) fun h4 h4p h4s=>?_
   ·try simp only[Q,Int.natCast_inj] at h4p
    refine Walk.idx sl26 .none rfl rfl rfl rfl (zak (by omega)) rfl ?_
    refine evd [] [] ?_
    refine Walk.call (cr:=[]) zss (znK (t:=⟨a,k⟩) (c:=nth l i) (zfs hs (zd2 (by assumption)).1) (zqo (zd2 (by assumption)).1) (zs7 (by assumption)) (hl.2 _ (zai (by omega))) (hz _ (zai (by omega)))) rfl .none rfl rfl (LeL.refl _) trivial rfl rfl rfl ?_
    refine evd [] [] ?_
    refine dr ?_
    refine sq (fun h5 h5p h5s=>?_) fun h5 h5p h5s=>?_
    ·try simp only[Q,Int.natCast_inj] at h5p
     refine rn0 (r1 rfl) (.eqd ?_)
     all_goals (refine congrArg D.bool ?_;first|(rw[zkF (by assumption)];done)|(rw[zjh (by omega)];done)|(rw[zkE (i:=i) (by omega) (by assumption)];done)|(rw[zjg (by assumption) (by omega) (fun x hx=>hg1.2 x (by omega))];done))
    ·try simp only[Q,Int.natCast_inj] at h5p
     refine ar ?_
     refine Exists.intro (i+1) ⟨⟨by omega,zaZ hg1.2 (by assumption)⟩,(by omega),Sub.x (by kernel_rfl) (by kernel_rfl) ⟨⟨_,rfl,(LeA.eqi (by first|rfl|(simp;done)|(simp_all;done)|omega))⟩,trivial⟩ (by kernel_rfl) (by kernel_rfl) trivial⟩
   ·try simp only[Q,Int.natCast_inj] at h4p
    refine rn0 (r1 rfl) (.eqd ?_)
    all_goals (refine congrArg D.bool ?_;first|(rw[zkF (by assumption)];done)|(rw[zjh (by omega)];done)|(rw[zkE (i:=i) (by omega) (by assumption)];done)|(rw[zjg (by assumption) (by omega) (fun x hx=>hg1.2 x (by omega))];done))
theorem zmc {α:Type} [Inhabited α] (p:α→Bool):∀(l:List α) (i:Nat),(idxF p l i = -1∧∀v∈l,p v=false)∨∃k:Nat,idxF p l i=((i+k:Nat):Int)∧k<l.length∧p (nth l k)=true∧∀j,j<k→p (nth l j)=false
 | [],i=> .inl ⟨rfl,by simp⟩
 |x::r,i=>by
  unfold idxF
  cases h:p x with
  |true=>exact .inr ⟨0,by simp,by simp,by simpa [nth] using h,fun j hj=>absurd hj (by omega)⟩
  |false=>
   rcases zmc p r (i+1) with ⟨h1,h2⟩|⟨k,h1,h2,h3,h4⟩
   ·exact .inl ⟨by simpa using h1,fun v hv=>by rcases List.mem_cons.1 hv with rfl|hv;exact h;exact h2 v hv⟩
   ·refine .inr ⟨k+1, ?_,by simpa using h2,by simpa [nth] using h3,fun j hj=>?_⟩
    ·simp only[Bool.false_eq_true,if_false];rw[h1];congr 1;omega
    ·cases j with
     |zero=>simpa [nth] using h
     |succ j=>simpa [nth] using h4 j (by omega)
def zgF (l:List Bd) (n:Int):Int:=idxF (fun b=>decide (b.var=n)) l 0
def zdy (g:Gd) (b:Bd):Bool:=decide (b.val.ctor = -1)&&((decide (g.op=1)&&decide (b.val.num<g.n))||(decide (g.op=2)&&decide (b.val.num=g.n)))
def zb8 (g:Gd) (l:List Bd):Bool:=decide (g.op=0)||(decide (0≤zgF l g.var)&&zdy g (nth l (zgF l g.var).toNat))
theorem zfU (l:List Bd) (n:Int):(zgF l n = -1∧∀v∈l,v.var≠n)∨∃k:Nat,zgF l n=(k:Int)∧k<l.length∧(nth l k).var=n∧∀j,j<k→(nth l j).var≠n:=by
 rcases zmc (fun b:Bd=>decide (b.var=n)) l 0 with ⟨h1,h2⟩|⟨k,h1,h2,h3,h4⟩
 ·exact .inl ⟨h1,fun v hv=>by simpa using h2 v hv⟩
 ·exact .inr ⟨k,by unfold zgF;rw[h1];simp,h2,by simpa using h3,fun j hj=>by simpa using h4 j hj⟩
theorem zp8 {l:List Bd}{n:Int}{k:Nat} (hk:k<l.length) (h:(nth l k).var=n) (h2:∀j,j<k→¬(nth l j).var=n):zgF l n=(k:Int):=by
 rcases zfU l n with ⟨_,h4⟩|⟨i,h3,h4,h5,h6⟩
 ·exact absurd h (h4 _ (zai hk))
 ·rcases Nat.lt_trichotomy i k with hl|hl|hl
  ·exact absurd h5 (h2 i hl)
  ·rw[h3,hl]
  ·exact absurd h (h6 k hl)
theorem zp9 {l:List Bd}{n:Int} (h2:∀j,j<l.length→¬(nth l j).var=n):zgF l n = -1:=by
 rcases zfU l n with ⟨h3,_⟩|⟨i,h3,h4,h5,h6⟩
 ·exact h3
 ·exact absurd h5 (h2 i h4)
theorem zdE {g:Gd}{l:List Bd}{k:Nat} (h0:¬g.op=0) (hk:k<l.length) (h:(nth l k).var=g.var) (h2:∀j,j<k→¬(nth l j).var=g.var):zb8 g l=zdy g (nth l k):=by
 unfold zb8
 rw[decide_eq_false h0,zp8 hk h h2,decide_eq_true (by omega)]
 simp
theorem zdF {g:Gd}{l:List Bd} (h0:¬g.op=0) (h2:∀j,j<l.length→¬(nth l j).var=g.var):zb8 g l=false:=by
 unfold zb8
 rw[decide_eq_false h0,zp9 h2];rfl
theorem zes {g:Gd}{l:List Bd} (h0:g.op=0):zb8 g l=true:=by unfold zb8;rw[decide_eq_true h0];rfl
theorem zni {g:Gd}{l:List Bd} (hn:(l.map Bd.var).Nodup):zb8 g l=true↔(g.op=0∨∃b∈l,b.var=g.var∧zdy g b=true):=by
 by_cases h0:g.op=0
 ·rw[zes h0];simp[h0]
 ·rcases zfU l g.var with ⟨h3,h4⟩|⟨k,h3,h4,h5,h6⟩
  ·rw[zdF h0 (fun j hj=>h4 _ (zai hj))]
   simp only[Bool.false_eq_true,false_iff]
   rintro (h|⟨b,hb,h,_⟩)
   ·exact h0 h
   ·exact h4 b hb h
  ·rw[zdE h0 h4 h5 h6]
   constructor
   ·intro h;exact .inr ⟨_,zai h4,h5,h⟩
   ·rintro (h|⟨b,hb,h,hc⟩)
    ·exact absurd h h0
    ·obtain⟨j,hj,e⟩:=List.getElem_of_mem hb
     have ej:nth l j=b:=by simp[nth,List.getD,hj,e]
     have hjk:j=k:=by
      have hn':=List.pairwise_iff_getElem.1 hn
      rcases Nat.lt_trichotomy j k with hl|hl|hl
      ·exact absurd (by rw[ej];exact h) (h6 j hl)
      ·exact hl
      ·have:=hn' k j (by simpa using h4) (by simpa using hj) hl
       simp only[List.getElem_map] at this
       refine absurd ?_ this
       rw[←za5 h4,←za5 hj,h5,ej,h]
     rw[←hjk,ej];exact hc
theorem zpr {g:Gd}{a b:List Bd} (hp:a.Perm b) (hn:(b.map Bd.var).Nodup):zb8 g a=zb8 g b:=by
 have hna:(a.map Bd.var).Nodup:=(hp.map Bd.var).nodup_iff.2 hn
 rw[Bool.eq_iff_iff,zni hna,zni hn]
 constructor
 ·rintro (h|⟨x,hx,h⟩)
  ·exact .inl h
  ·exact .inr ⟨x,hp.mem_iff.1 hx,h⟩
 ·rintro (h|⟨x,hx,h⟩)
  ·exact .inl h
  ·exact .inr ⟨x,hp.mem_iff.2 hx,h⟩
theorem zok {α:Type} [Inhabited α]{l:List α}{i j:Nat}{x:α} (hi:i<l.length):nth (l.set i x) j=if i=j then x else nth l j:=by
 unfold nth
 simp only[List.getD,List.getElem?_set]
 by_cases h:i=j
 ·subst h;simp[hi]
 ·simp[h]
theorem zk5:∀(j i:Nat) (L:List Bd),j≤i→i<L.length→(∀a b,a<b→b≤i→a≠j→b≠j→(nth L a).var≤(nth L b).var)→(∀b,j<b→b≤i→(nth L j).var≤(nth L b).var)→
  ∀a b,a<b→b≤i→(nth (zb7 j L) a).var≤(nth (zb7 j L) b).var
 |0,i,L,hj,hi,h1,h2,a,b,hab,hb=>by
  show(nth L a).var≤(nth L b).var
  by_cases ha:a=0
  ·subst ha;exact h2 b hab hb
  ·exact h1 a b hab hb ha (by omega)
 |j+1,i,L,hj,hi,h1,h2,a,b,hab,hb=>by
  unfold zb7
  split
  ·rename_i hlt
   have hs:∀k,nth (zcZ L j) k=if j=k then nth L (j+1) else if j+1=k then nth L j else nth L k:=fun k=>by
    unfold zcZ
    rw[zok (by simp;omega),zok (by omega)]
   refine zk5 j i (zcZ L j) (by omega) (by rw[zgS];omega) (fun a b hab hb ha hbj=>?_) (fun b hjb hb=>?_) a b hab hb
   ·have ea:nth (zcZ L j) a=if j+1=a then nth L j else nth L a:=by rw[hs a,if_neg (fun h=>ha h.symm)]
    have eb:nth (zcZ L j) b=if j+1=b then nth L j else nth L b:=by rw[hs b,if_neg (fun h=>hbj h.symm)]
    rw[ea,eb]
    by_cases e1:j+1=a
    ·rw[if_pos e1,if_neg (by omega)];exact h1 j b (by omega) hb (by omega) (by omega)
    ·rw[if_neg e1]
     by_cases e2:j+1=b
     ·rw[if_pos e2];exact h1 a j (by omega) (by omega) (by omega) (by omega)
     ·rw[if_neg e2];exact h1 a b hab hb (by omega) (by omega)
   ·have ea:nth (zcZ L j) j=nth L (j+1):=by rw[hs j,if_pos rfl]
    have eb:nth (zcZ L j) b=if j+1=b then nth L j else nth L b:=by rw[hs b,if_neg (by omega)]
    rw[ea,eb]
    by_cases e2:j+1=b
    ·rw[if_pos e2];omega
    ·rw[if_neg e2];exact h2 b (by omega) hb
  ·rename_i hge
   by_cases ha:a=j+1
   ·subst ha;exact h2 b hab hb
   ·by_cases hbj:b=j+1
    ·subst hbj
     by_cases haj:a=j
     ·subst haj;omega
     ·have:=h1 a j (by omega) (by omega) ha (by omega);omega
    ·exact h1 a b hab hb ha hbj
theorem zjR:∀(k i:Nat) (L:List Bd),i+k≤L.length→(∀a b,a<b→b<i→(nth L a).var≤(nth L b).var)→∀a b,a<b→b<i+k→(nth (zcA k i L) a).var≤(nth (zcA k i L) b).var
 |0,i,L,_,h,a,b,hab,hb=>h a b hab hb
 |k+1,i,L,hl,h,a,b,hab,hb=>by
  unfold zcA
  refine zjR k (i+1) (zb7 i L) (by rw[zfE];omega) (fun a b hab hb=>?_) a b hab (by omega)
  exact zk5 i i L (Nat.le_refl _) (by omega) (fun a b hab hb ha hbi=>h a b hab (by omega)) (fun b h1 h2=>by omega) a b hab (by omega)
theorem znH (L:List Bd):(zc9 L).Pairwise fun x y=>x.var≤y.var:=by
 rw[List.pairwise_iff_getElem]
 intro i j hi hj hij
 rw[←za5 hi,←za5 hj]
 have hl:=zgP L
 refine zjR (L.length-1) 1 L (by omega) (fun a b hab hb=>by omega) i j hij (by omega)
theorem zlp:∀ {a b:List Bd},a.Pairwise (fun x y=>x.var<y.var)→b.Pairwise (fun x y=>x.var<y.var)→(∀x,x∈a↔x∈b)→a=b
 | [],[],_,_,_=>rfl
 | [],y::s,_,_,h=>absurd ((h y).2 (by simp)) (by simp)
 |x::r,[],_,_,h=>absurd ((h x).1 (by simp)) (by simp)
 |x::r,y::s,ha,hb,h=>by
  obtain⟨h1,h2⟩:=List.pairwise_cons.1 ha
  obtain⟨h3,h4⟩:=List.pairwise_cons.1 hb
  have e:x=y:=by
   rcases List.mem_cons.1 ((h x).1 (by simp)) with e|e
   ·exact e
   ·rcases List.mem_cons.1 ((h y).2 (by simp)) with e2|e2
    ·exact e2.symm
    ·have:=h3 x e;have:=h1 y e2;omega
  subst e
  congr 1
  refine zlp h2 h4 (fun z=>?_)
  have hz:=h z
  simp only[List.mem_cons] at hz
  constructor
  ·intro hr
   rcases hz.1 (.inr hr) with e|e
   ·subst e;have:=h1 z hr;omega
   ·exact e
  ·intro hs
   rcases hz.2 (.inr hs) with e|e
   ·subst e;have:=h3 z hs;omega
   ·exact e
def zjp (L:List Bd):List Bd:=(List.range 6).flatMap fun(n:Nat)=>L.filter fun b=>decide (b.var=(n:Int))
theorem znG {L:List Bd} (hn:(L.map Bd.var).Nodup):(zjp L).Pairwise fun x y=>x.var<y.var:=by
 have key:∀(m:Nat),((List.range m).flatMap fun(n:Nat)=>L.filter fun b=>decide (b.var=(n:Int))).Pairwise fun x y=>x.var<y.var:=by
  intro m
  induction m with
  |zero=>simp
  |succ m ih=>
   rw[List.range_succ,List.flatMap_append]
   refine List.pairwise_append.2 ⟨ih, ?_,fun x hx y hy=>?_⟩
   ·simp only[List.flatMap_cons,List.flatMap_nil,List.append_nil]
    have hnd:(L.filter fun b=>decide (b.var=(m:Int))).Pairwise fun x y=>x.var≠y.var:=((List.pairwise_map.1 hn)).filter _
    refine hnd.imp_of_mem (fun {x y} hx hy hne=>?_)
    simp only[List.mem_filter,decide_eq_true_eq] at hx hy
    exact absurd (by rw[hx.2,hy.2]) hne
   ·simp only[List.mem_flatMap,List.mem_range,List.mem_filter,decide_eq_true_eq] at hx
    simp only[List.flatMap_cons,List.flatMap_nil,List.append_nil,List.mem_filter,decide_eq_true_eq] at hy
    obtain⟨k,hk,_,e⟩:=hx
    rw[e,hy.2];omega
 exact key 6
theorem zqj {L:List Bd} (hn:(L.map Bd.var).Nodup) (hr:∀b∈L,0≤b.var∧b.var≤5):zjp L=zc9 L:=by
 have hs:(zc9 L).Pairwise fun x y=>x.var<y.var:=by
  have h1:=znH L
  have h2:((zc9 L).map Bd.var).Nodup:=((zeq L).map Bd.var).nodup_iff.2 hn
  have h3:=List.pairwise_map.1 h2
  exact h1.imp₂ (fun {a b} h4 h5=>by omega) h3
 refine zlp (znG hn) hs (fun x=>?_)
 rw[(zeq L).mem_iff]
 unfold zjp
 simp only[List.mem_flatMap,List.mem_range,List.mem_filter,decide_eq_true_eq]
 constructor
 ·rintro ⟨k,_,h,_⟩;exact h
 ·intro h
  have:=hr x h
  exact⟨x.var.toNat,by omega,h,by omega⟩
def zcU (c:Cl) (v:Val):Bool:=(zaj 10 c.pat v).2&&zb8 c.g (zaj 10 c.pat v).1
def runV:List Cl→Val→Int→Int×List Bd
 | [],_,_=>(-1,[])
 |c::r,v,i=>if zcU c v=true then (i,zc9 (zaj 10 c.pat v).1) else runV r v (i+1)
theorem znB {l:List Cl}{v:Val}{i:Nat} (h:i<l.length) (hr:zcU (nth l i) v=true):runV (l.drop i) v (i:Int)=((i:Int),zc9 (zaj 10 (nth l i).pat v).1):=by
 rw[zaT h,runV,if_pos hr]
theorem zmp {l:List Cl}{v:Val}{i:Nat} (h:i<l.length) (hr:zcU (nth l i) v=false):runV (l.drop i) v (i:Int)=runV (l.drop (i+1)) v ((i+1:Nat):Int):=by
 rw[zaT h,runV,if_neg (by rw[hr];simp)]
 congr 1
theorem zhY {l:List Cl}{v:Val}{i:Nat} (h:l.length≤i):runV (l.drop i) v (i:Int)=(-1,[]):=by
 rw[List.drop_eq_nil_of_le h];rfl
theorem zor {v:Val}:∀(l:List Cl) (i:Int),(runV l v i).1 = -1∨(i≤(runV l v i).1∧(runV l v i).1<i+l.length)
 | [],i=> .inl rfl
 |c::r,i=>by
  unfold runV
  split
  ·right;simp only[List.length_cons];omega
  ·rcases zor r (i+1) with h|h
   ·exact .inl h
   ·right;simp only[List.length_cons];omega
theorem zet {xs:List Bd}{f:Nat}{caps:List AV}{hp:Hp}{p:Bd→Bool} (hs:xs.length≤1000000000000) (hcal:Callee Tryz.prog f)
  (hf:∀t∈xs,FnD Tryz.prog f ([.agg (bdA t)]++caps) hp (.d (.bool (p t))) []) (k1:subH hp hp) (k2:zeZ hp=true) (k3:zbB hp [] (.d .nilp) []=true):
  FnD Tryz.prog 30 [.d (za2 xs),.fn f caps] hp (.d (.i (idxF p xs 0))) []:=by
 refine bd Tryz.f30 19 [] [] fun w0 F0 own kept hk=>?_
 refine CWp.loopX (ι:=List (Bd)×List (Bd)) hk (fun x=>[(8,.d (.i (x.1.length:Int)))]) [4,5,9,10,11,12,13,14,15,16,17,18] (fun x=>[]) (fun x=>x.1++x.2=xs∧idxF p x.2 x.1.length=idxF p xs 0) (fun x=>x.2.length) ([],xs) ⟨by simp,rfl⟩ ⟨⟨_,rfl,(LeA.eqi (by first|rfl|(simp;done)|(simp_all;done)|omega))⟩,trivial⟩ trivial (fun x=>zfS hp) (fun x hg1=>?_)
 obtain⟨pre,rest⟩:=x
 dsimp only at hg1 ⊢
 refine evc [] [] ?_
 refine sq (fun h1 h1p h1s=>?_) fun h1 h1p h1s=>?_
 ·try simp only[Q] at h1p
  rcases rest with _|⟨y,rest⟩
  ·exfalso;simp_all
  refine Walk.idx sl32 .none rfl rfl rfl rfl (zaL hg1.1) rfl ?_
  refine ev ?_
  refine Walk.callV (cr:=[]) hcal (hf y (by rw[←hg1.1];simp)) rfl .none rfl rfl rfl (LeL.refl _) k1 k2 (zez k3 _) rfl ?_
  refine tv ?_
  refine sq (fun h2 h2p h2s=>?_) fun h2 h2p h2s=>?_
  ·try simp only[Q] at h2p
   refine rn [] (r1 rfl) (.eqd ?_) ⟨rfl,rfl⟩ (fun _ _ h=>h) (fun _ h=>h)
   all_goals (rw[←hg1.2];simp[idxF,h1s,h1p,h2s,h2p])
  ·try simp only[Q] at h2p
   refine ar ?_
   refine Exists.intro ((pre++[y],rest)) ⟨⟨(by have hz:=hg1.1;rw[←hz];simp),(by rw[←hg1.2];simp[idxF,h2s])⟩,(by simp),Sub.x (by kernel_rfl) (by kernel_rfl) ⟨⟨_,rfl,(LeA.eqi (by first|rfl|(simp;done)|(simp_all;done)|omega))⟩,trivial⟩ (by simp) (by simp[zdw]) trivial⟩
 ·try simp only[Q] at h1p
  have hrest:rest=[]:=by
   rcases rest with _|⟨a,b⟩
   ·rfl
   ·exfalso;have hz:=congrArg List.length (hg1.1);simp only[List.length_append,List.length_cons,List.length_map] at hz;omega
  subst hrest
  refine rn [] (r1 rfl) (.eqd ?_) ⟨rfl,rfl⟩ (fun _ _ h=>h) (fun _ h=>h)
  all_goals (rw[←hg1.2];simp[idxF,h1s,h1p])
theorem zeV {x:Bd}{a b c:Int}:FnD Tryz.prog 31 [.agg (bdA x),.ref 3002 0] [(3002,some (.box [.d (.i a),.d (.i b),.d (.i c)]))] (.d (.bool (decide (x.var=b)))) []:=by
 refine bd Tryz.f31 9 [] [] fun w0 F0 own kept hk=>?_
 refine Walk.box (id:=3001) .none rfl rfl rfl rfl rfl rfl rfl ?_
 refine ev ?_
 refine rn [] (r1 rfl) (.eqd ?_) ⟨rfl,rfl⟩ (SubH.get ⟨rfl,trivial⟩) (fun _ h=>h)
 all_goals (rfl)
theorem ziB {g:Gd}{l:List Bd} (hl:l.length≤1000000000000):FnD Tryz.prog 13 [.agg [.d (.i g.op),.d (.i g.var),.d (.i g.n)],.d (za2 l)] [] (.d (.bool (zb8 g l))) []:=by
 have hsp:=zfU l g.var
 have hfi:idxF (fun b:Bd=>decide (b.var=g.var)) l 0=zgF l g.var:=rfl
 by_cases h0:g.op=0
 ·rw[zes h0]
  refine bd Tryz.f13 50 [] [] fun w0 F0 own kept hk=>?_
  refine Walk.box (id:=3002) .none rfl rfl rfl rfl rfl rfl rfl ?_
  refine ev ?_
  refine sq (fun h1 h1p h1s=>?_) fun h1 h1p h1s=>?_
  ·try simp only[Q] at h1p
   refine rn0 (r1 rfl) (.eqd ?_)
   all_goals (rfl)
  ·try simp only[Q] at h1p
   exfalso;omega
 rcases hsp with ⟨h3,h4⟩|⟨k,h3,h4,h5,h6⟩
 ·rw[zdF h0 (fun j hj=>h4 _ (zai hj))]
  have hix:=zet (p:=fun b=>decide (b.var=g.var)) hl zqx (fun t _=>zeV (x:=t) (a:=g.op) (b:=g.var) (c:=g.n)) ⟨rfl,trivial⟩ rfl rfl
  rw[hfi,h3] at hix
  refine bd Tryz.f13 50 [] [] fun w0 F0 own kept hk=>?_
  refine Walk.box (id:=3002) .none rfl rfl rfl rfl rfl rfl rfl ?_
  refine ev ?_
  refine sq (fun h1 h1p h1s=>?_) fun h1 h1p h1s=>?_
  ·try simp only[Q] at h1p
   exfalso;omega
  ·try simp only[Q] at h1p
   refine Walk.closure (xs:=[_]) rfl .none rfl rfl ?_
   refine Walk.call (cr:=[]) zqw (hix) rfl .none rfl rfl (LeL.refl _) ⟨rfl,trivial⟩ rfl rfl rfl ?_
   refine ev ?_
   refine sq (fun h2 h2p h2s=>?_) fun h2 h2p h2s=>?_
   ·try simp only[Q] at h2p
    refine sqT ?_
    refine rn0 (r1 rfl) (.eqd ?_)
    all_goals (rfl)
   ·try simp only[Q] at h2p
    exfalso;revert h2;simp
 ·rw[zdE h0 h4 h5 h6]
  have hix:=zet (p:=fun b=>decide (b.var=g.var)) hl zqx (fun t _=>zeV (x:=t) (a:=g.op) (b:=g.var) (c:=g.n)) ⟨rfl,trivial⟩ rfl rfl
  rw[hfi,h3] at hix
  unfold zdy
  refine bd Tryz.f13 50 [] [] fun w0 F0 own kept hk=>?_
  refine Walk.box (id:=3002) .none rfl rfl rfl rfl rfl rfl rfl ?_
  refine ev ?_
  refine sq (fun h1 h1p h1s=>?_) fun h1 h1p h1s=>?_
  ·try simp only[Q] at h1p
   exfalso;omega
  ·try simp only[Q] at h1p
   refine Walk.closure (xs:=[_]) rfl .none rfl rfl ?_
   refine Walk.call (cr:=[]) zqw (hix) rfl .none rfl rfl (LeL.refl _) ⟨rfl,trivial⟩ rfl rfl rfl ?_
   refine ev ?_
   refine sq (fun h2 h2p h2s=>?_) fun h2 h2p h2s=>?_
   ·try simp only[Q] at h2p
    exfalso;revert h2;simp
   ·try simp only[Q] at h2p
    refine Walk.idx sl32 (.some rfl rfl h2) rfl rfl rfl rfl (zak h4) rfl ?_
    refine evs [] [(15,false)] ?_ ⟨⟨_,rfl,h2⟩,trivial⟩
    refine sq (fun h3 h3p h3s=>?_) fun h3 h3p h3s=>?_
    ·try simp only[Q] at h3p
     refine rn0 (r1 rfl) (.eqd ?_)
     all_goals (refine congrArg D.bool ?_;first|(simp_all;done)|(rw[Bool.eq_iff_iff];simp_all;done)|(rw[Bool.eq_iff_iff];simp_all;omega))
    ·try simp only[Q] at h3p
     refine Walk.idx sl32 .none rfl rfl rfl rfl (zak h4) rfl ?_
     refine ev ?_
     refine sq (fun h4 h4p h4s=>?_) fun h4 h4p h4s=>?_
     ·try simp only[Q] at h4p
      refine sq (fun h5 h5p h5s=>?_) fun h5 h5p h5s=>?_
      ·try simp only[Q] at h5p
       refine rn0 (r1 rfl) (.eqd ?_)
       all_goals (refine congrArg D.bool ?_;first|(simp_all;done)|(rw[Bool.eq_iff_iff];simp_all;done)|(rw[Bool.eq_iff_iff];simp_all;omega))
      ·try simp only[Q] at h5p
       refine sq (fun h6 h6p h6s=>?_) fun h6 h6p h6s=>?_
       ·try simp only[Q] at h6p
        refine rn0 (r1 rfl) (.eqd ?_)
        all_goals (refine congrArg D.bool ?_;first|(simp_all;done)|(rw[Bool.eq_iff_iff];simp_all;done)|(rw[Bool.eq_iff_iff];simp_all;omega))
       ·try simp only[Q] at h6p
        refine rn0 (r1 rfl) (.eqd ?_)
        all_goals (refine congrArg D.bool ?_;first|(simp_all;done)|(rw[Bool.eq_iff_iff];simp_all;done)|(rw[Bool.eq_iff_iff];simp_all;omega))
     ·try simp only[Q] at h4p
      refine sqF ?_
      refine sq (fun h7 h7p h7s=>?_) fun h7 h7p h7s=>?_
      ·try simp only[Q] at h7p
       refine rn0 (r1 rfl) (.eqd ?_)
       all_goals (refine congrArg D.bool ?_;first|(simp_all;done)|(rw[Bool.eq_iff_iff];simp_all;done)|(rw[Bool.eq_iff_iff];simp_all;omega))
      ·try simp only[Q] at h7p
       refine rn0 (r1 rfl) (.eqd ?_)
       all_goals (refine congrArg D.bool ?_;first|(simp_all;done)|(rw[Bool.eq_iff_iff];simp_all;done)|(rw[Bool.eq_iff_iff];simp_all;omega))
theorem zi6 {g:Gd}{l:List Bd} (hl:l.length≤1000000000000):FnD Tryz.prog 43 [.agg [.d (.i g.op),.d (.i g.var),.d (.i g.n)],.d (za2 l)] [] (.d (.bool (zb8 g l))) []:=by
 refine bd Tryz.f43 59 [] [] fun w0 F0 own kept hk=>?_
 refine Walk.box (id:=3002) .none rfl rfl rfl rfl rfl rfl rfl ?_
 refine ev ?_
 refine sq (fun h1 h1p h1s=>?_) fun h1 h1p h1s=>?_
 ·try simp only[Q,Int.natCast_inj] at h1p
  refine rn0 (r1 rfl) (.eqd ?_)
  all_goals (refine congrArg D.bool ?_;first|(rw[zes (by omega)];done)|(rw[zdF (by omega) (fun x hx=>hg1.2 x (by omega))];done)|(rw[zdE (k:=i) (by omega) (by omega) (by omega) hg1.2];unfold zdy;first|(simp_all;done)|(rw[Bool.eq_iff_iff];simp_all;done)|(rw[Bool.eq_iff_iff];simp_all;omega)))
 ·try simp only[Q,Int.natCast_inj] at h1p
  refine CWp.loopX (ι:=Nat) hk (fun i=>[(5,.d (.i (i:Int)))]) [4,6,10,11,12,13,14,15,16,17,18,19,20,21,22,23,24,25,26,27,28,29,30,31,32,33,34,35,36,37,38,39,40,41,42,43,44,45,46,47,48,49,50,51,52,53,54,55,56,57,58] (fun i=>[]) (fun i=>i≤l.length∧∀i',i'<i→¬(nth l i').var=g.var) (fun i=>l.length-i) 0 ⟨by omega,fun _ h=>absurd h (by omega)⟩ ⟨⟨_,rfl,(LeA.eqi (by first|rfl|(simp;done)|(simp_all;done)|omega))⟩,trivial⟩ trivial (fun x=>rfl) (fun i hg1=>?_)
  refine evc [] [] ?_
  refine sq (fun h2 h2p h2s=>?_) fun h2 h2p h2s=>?_
  ·try simp only[Q,Int.natCast_inj] at h2p
   refine Walk.idx sl32 .none rfl rfl rfl rfl (zak (by omega)) rfl ?_
   refine evd [] [] ?_
   refine dr ?_
   refine sq (fun h3 h3p h3s=>?_) fun h3 h3p h3s=>?_
   ·try simp only[Q,Int.natCast_inj] at h3p
    refine ar ?_
    refine Exists.intro (i+1) ⟨⟨by omega,zaZ hg1.2 (by omega)⟩,(by omega),Sub.x (by kernel_rfl) (by kernel_rfl) ⟨⟨_,rfl,(LeA.eqi (by first|rfl|(simp;done)|(simp_all;done)|omega))⟩,trivial⟩ (by kernel_rfl) (by kernel_rfl) trivial⟩
   ·try simp only[Q,Int.natCast_inj] at h3p
    refine Walk.idx sl32 .none rfl rfl rfl rfl (zak (by omega)) rfl ?_
    refine ev ?_
    refine Walk.idx sl32 .none rfl rfl rfl rfl (zak (by omega)) rfl ?_
    refine ev ?_
    refine sq (fun h4 h4p h4s=>?_) fun h4 h4p h4s=>?_
    ·try simp only[Q,Int.natCast_inj] at h4p
     refine sq (fun h5 h5p h5s=>?_) fun h5 h5p h5s=>?_
     ·try simp only[Q,Int.natCast_inj] at h5p
      refine sq (fun h6 h6p h6s=>?_) fun h6 h6p h6s=>?_
      ·try simp only[Q,Int.natCast_inj] at h6p
       refine rn0 (r1 rfl) (.eqd ?_)
       all_goals (refine congrArg D.bool ?_;first|(rw[zes (by omega)];done)|(rw[zdF (by omega) (fun x hx=>hg1.2 x (by omega))];done)|(rw[zdE (k:=i) (by omega) (by omega) (by omega) hg1.2];unfold zdy;first|(simp_all;done)|(rw[Bool.eq_iff_iff];simp_all;done)|(rw[Bool.eq_iff_iff];simp_all;omega)))
      ·try simp only[Q,Int.natCast_inj] at h6p
       refine sq (fun h7 h7p h7s=>?_) fun h7 h7p h7s=>?_
       ·try simp only[Q,Int.natCast_inj] at h7p
        refine rn0 (r1 rfl) (.eqd ?_)
        all_goals (refine congrArg D.bool ?_;first|(rw[zes (by omega)];done)|(rw[zdF (by omega) (fun x hx=>hg1.2 x (by omega))];done)|(rw[zdE (k:=i) (by omega) (by omega) (by omega) hg1.2];unfold zdy;first|(simp_all;done)|(rw[Bool.eq_iff_iff];simp_all;done)|(rw[Bool.eq_iff_iff];simp_all;omega)))
       ·try simp only[Q,Int.natCast_inj] at h7p
        refine rn0 (r1 rfl) (.eqd ?_)
        all_goals (refine congrArg D.bool ?_;first|(rw[zes (by omega)];done)|(rw[zdF (by omega) (fun x hx=>hg1.2 x (by omega))];done)|(rw[zdE (k:=i) (by omega) (by omega) (by omega) hg1.2];unfold zdy;first|(simp_all;done)|(rw[Bool.eq_iff_iff];simp_all;done)|(rw[Bool.eq_iff_iff];simp_all;omega)))
     ·try simp only[Q,Int.natCast_inj] at h5p
      refine sqF ?_
      refine sq (fun h8 h8p h8s=>?_) fun h8 h8p h8s=>?_
      ·try simp only[Q,Int.natCast_inj] at h8p
       refine rn0 (r1 rfl) (.eqd ?_)
       all_goals (refine congrArg D.bool ?_;first|(rw[zes (by omega)];done)|(rw[zdF (by omega) (fun x hx=>hg1.2 x (by omega))];done)|(rw[zdE (k:=i) (by omega) (by omega) (by omega) hg1.2];unfold zdy;first|(simp_all;done)|(rw[Bool.eq_iff_iff];simp_all;done)|(rw[Bool.eq_iff_iff];simp_all;omega)))
      ·try simp only[Q,Int.natCast_inj] at h8p
       refine rn0 (r1 rfl) (.eqd ?_)
       all_goals (refine congrArg D.bool ?_;first|(rw[zes (by omega)];done)|(rw[zdF (by omega) (fun x hx=>hg1.2 x (by omega))];done)|(rw[zdE (k:=i) (by omega) (by omega) (by omega) hg1.2];unfold zdy;first|(simp_all;done)|(rw[Bool.eq_iff_iff];simp_all;done)|(rw[Bool.eq_iff_iff];simp_all;omega)))
    ·try simp only[Q,Int.natCast_inj] at h4p
     refine rn0 (r1 rfl) (.eqd ?_)
     all_goals (refine congrArg D.bool ?_;first|(rw[zes (by omega)];done)|(rw[zdF (by omega) (fun x hx=>hg1.2 x (by omega))];done)|(rw[zdE (k:=i) (by omega) (by omega) (by omega) hg1.2];unfold zdy;first|(simp_all;done)|(rw[Bool.eq_iff_iff];simp_all;done)|(rw[Bool.eq_iff_iff];simp_all;omega)))
  ·try simp only[Q,Int.natCast_inj] at h2p
   refine rn0 (r1 rfl) (.eqd ?_)
   all_goals (refine congrArg D.bool ?_;first|(rw[zes (by omega)];done)|(rw[zdF (by omega) (fun x hx=>hg1.2 x (by omega))];done)|(rw[zdE (k:=i) (by omega) (by omega) (by omega) hg1.2];unfold zdy;first|(simp_all;done)|(rw[Bool.eq_iff_iff];simp_all;done)|(rw[Bool.eq_iff_iff];simp_all;omega)))
def zbN (f:List Bd→Pat→Val→List Bd×Bool):List Pat→List Val→List Bd→List Bd×Bool
 |p::r,v::s,out=>if (f out p v).2=true then zbN f r s (f out p v).1 else (out,false)
 |_,_,out=>(out,true)
def zaB:Nat→List Bd→Pat→Val→List Bd×Bool
 |0,out,_,_=>(out,false)
 |n+1,out,p,v=>
  if p.op=1 then (out,true)
  else if p.op=2 then (out++[⟨p.var,v⟩],true)
  else if p.op=3 then (out,zaf v.num p.n p.m)
  else if p.op=5 then (if (zaB n out (nth p.kids 0) v).2=true then ((zaB n out (nth p.kids 0) v).1,true) else zaB n out (nth p.kids 1) v)
  else if p.op=6 then zaB n (out++[⟨p.var,v⟩]) (nth p.kids 0) v
  else if p.ctor=v.ctor then zbN (zaB n) p.kids v.kids out else (out,false)
section
variable {n:Nat}{out:List Bd}{p:Pat}{v:Val}
theorem ms_1 (h:p.op=1):zaB (n+1) out p v=(out,true):=by unfold zaB;rw[if_pos h]
theorem ms_2 (h:p.op=2):zaB (n+1) out p v=(out++[⟨p.var,v⟩],true):=by unfold zaB;rw[if_neg (by omega),if_pos h]
theorem ms_3 (h:p.op=3):zaB (n+1) out p v=(out,zaf v.num p.n p.m):=by unfold zaB;rw[if_neg (by omega),if_neg (by omega),if_pos h]
theorem zfX (h:p.op=5) (h2:(zaB n out (nth p.kids 0) v).2=true):zaB (n+1) out p v=((zaB n out (nth p.kids 0) v).1,true):=by
 conv=>lhs;unfold zaB
 rw[if_neg (by omega),if_neg (by omega),if_neg (by omega),if_pos h,if_pos h2]
theorem zfY (h:p.op=5) (h2:(zaB n out (nth p.kids 0) v).2=false):zaB (n+1) out p v=zaB n out (nth p.kids 1) v:=by
 conv=>lhs;unfold zaB
 rw[if_neg (by omega),if_neg (by omega),if_neg (by omega),if_pos h,if_neg (by rw[h2];simp)]
theorem ms_6 (h:p.op=6):zaB (n+1) out p v=zaB n (out++[⟨p.var,v⟩]) (nth p.kids 0) v:=by
 conv=>lhs;unfold zaB
 rw[if_neg (by omega),if_neg (by omega),if_neg (by omega),if_neg (by omega),if_pos h]
theorem ms_4 (h:p.op=4) (h2:p.ctor=v.ctor):zaB (n+1) out p v=zbN (zaB n) p.kids v.kids out:=by
 conv=>lhs;unfold zaB
 rw[if_neg (by omega),if_neg (by omega),if_neg (by omega),if_neg (by omega),if_neg (by omega),if_pos h2]
theorem zqV (h:p.op=4) (h2:¬p.ctor=v.ctor):zaB (n+1) out p v=(out,false):=by
 conv=>lhs;unfold zaB
 rw[if_neg (by omega),if_neg (by omega),if_neg (by omega),if_neg (by omega),if_neg (by omega),if_neg h2]
end
theorem znl {f:List Bd→Pat→Val→List Bd×Bool}{a:List Pat}{b:List Val}{out:List Bd}{i:Nat} (h1:i<a.length) (h2:i<b.length) (h:(f out (nth a i) (nth b i)).2=true):
  zbN f (a.drop i) (b.drop i) out=zbN f (a.drop (i+1)) (b.drop (i+1)) (f out (nth a i) (nth b i)).1:=by
 rw[zaT h1,zaT h2]
 conv=>lhs;unfold zbN
 rw[if_pos h]
theorem zjL {f:List Bd→Pat→Val→List Bd×Bool}{a:List Pat}{b:List Val}{out:List Bd}{i:Nat} (h1:i<a.length) (h2:i<b.length) (h:(f out (nth a i) (nth b i)).2=false):
  zbN f (a.drop i) (b.drop i) out=(out,false):=by
 rw[zaT h1,zaT h2]
 conv=>lhs;unfold zbN
 rw[if_neg (by rw[h];simp)]
theorem zjM {f:List Bd→Pat→Val→List Bd×Bool}{a:List Pat}{b:List Val}{out:List Bd}{i:Nat} (h1:a.length≤i):zbN f (a.drop i) (b.drop i) out=(out,true):=by
 rw[List.drop_eq_nil_of_le h1];cases b.drop i<;>rfl
theorem zkU {f:List Bd→Pat→Val→List Bd×Bool}{g:Pat→Val→List Bd×Bool} (h:∀out p v,(f out p v).2=(g p v).2∧((g p v).2=true→(f out p v).1=out++(g p v).1)):
  ∀(a:List Pat) (b:List Val) (out acc:List Bd),(zbN f a b (out++acc)).2=(zbj g a b acc).2∧((zbj g a b acc).2=true→(zbN f a b (out++acc)).1=out++(zbj g a b acc).1)
 | [],b,out,acc=>by cases b<;>exact⟨rfl,fun _=>rfl⟩
 |_::_,[],out,acc=>⟨rfl,fun _=>rfl⟩
 |p::r,v::s,out,acc=>by
  obtain⟨h1,h2⟩:=h (out++acc) p v
  unfold zbN zbj
  rw[h1]
  cases hg:(g p v).2 with
  |true=>
   simp only[if_true]
   rw[h2 hg,List.append_assoc]
   exact zkU h r s out (acc++(g p v).1)
  |false=>simp
theorem zdX:∀(n:Nat) (out:List Bd) (p:Pat) (v:Val),(zaB n out p v).2=(zaj n p v).2∧((zaj n p v).2=true→(zaB n out p v).1=out++(zaj n p v).1)
 |0,out,p,v=>by simp[zaB,zaj]
 |n+1,out,p,v=>by
  unfold zaB zaj
  by_cases h1:p.op=1
  ·simp[h1]
  by_cases h2:p.op=2
  ·simp[h2]
  by_cases h3:p.op=3
  ·simp[h3]
  by_cases h5:p.op=5
  ·simp only[h5,if_neg (show ¬(5:Int)=1 by omega),if_neg (show ¬(5:Int)=2 by omega),if_neg (show ¬(5:Int)=3 by omega),if_true]
   obtain⟨a1,a2⟩:=zdX n out (nth p.kids 0) v
   obtain⟨b1,b2⟩:=zdX n out (nth p.kids 1) v
   rw[a1]
   cases hm:(zaj n (nth p.kids 0) v).2 with
   |true=>simp[a2 hm]
   |false=>simp only[Bool.false_eq_true,if_false];exact⟨b1,b2⟩
  by_cases h6:p.op=6
  ·simp only[h6,if_neg (show ¬(6:Int)=1 by omega),if_neg (show ¬(6:Int)=2 by omega),if_neg (show ¬(6:Int)=3 by omega),if_neg (show ¬(6:Int)=5 by omega),if_true]
   obtain⟨a1,a2⟩:=zdX n (out++[⟨p.var,v⟩]) (nth p.kids 0) v
   exact⟨a1,fun h=>by rw[a2 h];simp⟩
  rw[if_neg h1,if_neg h2,if_neg h3,if_neg h5,if_neg h6,if_neg h1,if_neg h2,if_neg h3,if_neg h5,if_neg h6]
  split
  ·have:=zkU (f:=zaB n) (g:=zaj n) (fun out p v=>zdX n out p v) p.kids v.kids out []
   rw[List.append_nil] at this
   exact this
  ·simp
theorem zjN {f:List Bd→Pat→Val→List Bd×Bool}:∀(a:List Pat) (b:List Val) (out:List Bd),(∀p∈a,∀out v,(f out p v).1.length≤out.length+p.size)→(zbN f a b out).1.length≤out.length+Pats.size a
 | [],b,out,_=>by cases b<;>simp[zbN,Pats.size]
 |_::_,[],out,_=>by simp[zbN]
 |p::r,v::s,out,h=>by
  have h1:=h p (by simp) out v
  unfold zbN
  simp only[Pats.size]
  split
  ·have:=zjN (f:=f) r s (f out p v).1 (fun q hq=>h q (by simp[hq]));omega
  ·simp
theorem zee {w:List Data}:∀(n:Nat){t:Ty}{p:Pat} (out:List Bd) (v:Val),zap w n t p=true→(zaB n out p v).1.length≤out.length+p.size
 |0,t,p,out,v,h=>by simp[zap] at h
 |n+1,t,p,out,v,h=>by
  have hs:=Pat.size_eq p
  by_cases h1:p.op=1
  ·rw[ms_1 h1];simp
  by_cases h2:p.op=2
  ·rw[ms_2 h2];simp;omega
  by_cases h3:p.op=3
  ·rw[ms_3 h3];simp
  by_cases h5:p.op=5
  ·obtain⟨hl,s0,s1⟩:=ziY h h5
   have z0:=za8 (l:=p.kids) (i:=0) (by omega)
   have z1:=za8 (l:=p.kids) (i:=1) (by omega)
   have k0:=zee n out v s0
   have k1:=zee n out v s1
   cases hm:(zaB n out (nth p.kids 0) v).2 with
   |true=>rw[zfX h5 hm];dsimp only;omega
   |false=>rw[zfY h5 hm];omega
  by_cases h6:p.op=6
  ·obtain⟨hl,s0⟩:=ziX h h6
   have z0:=za8 (l:=p.kids) (i:=0) (by omega)
   have k0:=zee n (out++[⟨p.var,v⟩]) v s0
   rw[ms_6 h6];simp at k0;omega
  have h4:p.op=4:=by have:=zfm h;omega
  by_cases hc:p.ctor=v.ctor
  ·rw[ms_4 h4 hc]
   have:=zjN (f:=zaB n) p.kids v.kids out (fun q hq out u=>by
    obtain⟨i,hi,rfl⟩:=List.getElem_of_mem hq
    have e:p.kids[i]=nth p.kids i:=by simp[nth,List.getD,hi]
    rw[e]
    exact zee n out u (zbS h hi))
   omega
  ·rw[zqV h4 hc];simp
theorem zcW {w:List Data}:∀(n m:Nat){t:Ty}{p:Pat}{v:Val}{out:List Bd},MatchOk w n m t p v→out.length+p.size≤1000000000000→
  FnD Tryz.prog 42 [.d (za2 out),.agg [.d (.i p.op),.d (.i p.ctor),.d (.i p.n),.d (.i p.m),.d (.i p.var),.d (zaH p.kids)],.agg [.d (.i v.ctor),.d (.i v.num),.d (zaw v.kids)]] [] (.tup [.d (za2 (zaB n out p v).1),.d (.bool (zaB n out p v).2)]) []
 |0,m,t,p,v,out,h,_=>by have:=h.shape;simp[zap] at this
 |n+1,m,t,p,v,out,h,hb=>by
  have hop:=zfm h.shape
  have k4:=h.kid
  have k5:=h.two
  have k6:=h.one
  have hsz:=h.psz
  have hps:=Pat.size_eq p
  have hkl:=((Pat.ok_iff p).1 h.pok).1
  have hkl2:=((Val.ok_iff v).1 h.vok).1
  have mok:=fun {t:Ty}{q:Pat} (out:List Bd) (u:Val) (hs:zap w n t q=true)=>zee n out u hs
  by_cases c4:p.op=4∧p.ctor=v.ctor
  ·obtain⟨hl,k,hkm⟩:=k4 c4.1 c4.2
   have hm4:=ms_4 (n:=n) (out:=out) c4.1 c4.2
   refine bd Tryz.f42 119 [] [] fun w0 F0 own kept hk=>?_
   refine Walk.box (id:=3004) .none rfl rfl rfl rfl rfl rfl rfl ?_
   refine Walk.box (id:=3005) .none rfl rfl rfl rfl rfl rfl rfl ?_
   refine ev ?_
   refine sq (fun h1 h1p h1s=>?_) fun h1 h1p h1s=>?_
   ·try simp only[Q,Pat.cs_len] at h1p
    exfalso;omega
   ·try simp only[Q,Pat.cs_len] at h1p
    refine sq (fun h2 h2p h2s=>?_) fun h2 h2p h2s=>?_
    ·try simp only[Q,Pat.cs_len] at h2p
     exfalso;omega
    ·try simp only[Q,Pat.cs_len] at h2p
     refine sq (fun h3 h3p h3s=>?_) fun h3 h3p h3s=>?_
     ·try simp only[Q,Pat.cs_len] at h3p
      exfalso;omega
     ·try simp only[Q,Pat.cs_len] at h3p
      refine sq (fun h4 h4p h4s=>?_) fun h4 h4p h4s=>?_
      ·try simp only[Q,Pat.cs_len] at h4p
       exfalso;omega
      ·try simp only[Q,Pat.cs_len] at h4p
       refine sq (fun h5 h5p h5s=>?_) fun h5 h5p h5s=>?_
       ·try simp only[Q,Pat.cs_len] at h5p
        exfalso;omega
       ·try simp only[Q,Pat.cs_len] at h5p
        refine sq (fun h6 h6p h6s=>?_) fun h6 h6p h6s=>?_
        ·try simp only[Q,Pat.cs_len] at h6p
         exfalso;omega
        ·try simp only[Q,Pat.cs_len] at h6p
         refine CWp.loopX (ι:=Nat×List Bd) hk (fun x=>[(10,.d (.i (x.1:Int))),(0,.d (za2 x.2))]) [6,7,11,12,92,93,94,95,96,97,98,99,100,101,102,103,104,105,106,107,108,109,110,111,112,113,114,115,116,117] (fun x=>[]) (fun x=>x.1≤p.kids.length∧zbN (zaB n) (p.kids.drop x.1) (v.kids.drop x.1) x.2=zbN (zaB n) p.kids v.kids out∧x.2.length+Pats.size (p.kids.drop x.1)≤out.length+Pats.size p.kids) (fun x=>p.kids.length-x.1) (0,out) ⟨by simp,rfl,by simp⟩ ⟨⟨_,rfl,(LeA.eqi (by first|rfl|omega|(simp;done)))⟩,⟨⟨_,rfl,(by first|exact LeA.refl _|exact LeA.gld (by first|rfl|omega|(simp;done))|exact LeA.nild (by first|rfl|omega|(simp;done))|exact LeA.eqsl (by first|rfl|omega|(simp;done))|exact LeA.eqd (by first|rfl|omega|(simp;done)))⟩,trivial⟩⟩ trivial (fun x=>rfl) (fun x hg1=>?_)
         refine evc [] [] ?_
         refine sq (fun h7 h7p h7s=>?_) fun h7 h7p h7s=>?_
         ·try simp only[Q,Pat.cs_len] at h7p
          refine Walk.idx sl35 .none rfl rfl rfl rfl (zbm (by omega)) rfl ?_
          refine evd [] [] ?_
          refine Walk.idx sl27 .none rfl rfl rfl rfl (zeM (by omega)) rfl ?_
          refine evd [] [] ?_
          refine Walk.call (cr:=[]) zky (zcW n k (out:=x.2) (hkm x.1 (by omega)) (by have:=zbR (l:=p.kids) (i:=x.1) (by omega);have:=hg1.2.2;omega)) rfl .none rfl rfl (LeL.refl _) trivial rfl rfl rfl ?_
          refine evd [] [] ?_
          refine dr ?_
          refine sq (fun h8 h8p h8s=>?_) fun h8 h8p h8s=>?_
          ·try simp only[Q,Pat.cs_len] at h8p
           refine rn0 (r2 rfl rfl) (.tup (.cons (.eqd ?_) (.cons (.eqd ?_) .nil)))
           all_goals (first|(rw[hm4,←hg1.2.1,zjM (by omega)];all_goals rfl)|(rw[hm4,←hg1.2.1,zjL (by omega) (by omega) (by assumption)];all_goals rfl))
          ·try simp only[Q,Pat.cs_len] at h8p
           refine ar ?_
           refine Exists.intro ((x.1+1,(zaB n x.2 (nth p.kids x.1) (nth v.kids x.1)).1)) ⟨⟨by dsimp only;omega,by dsimp only;rw[←znl (by omega) (by omega) (by assumption)];exact hg1.2.1,by have:=mok x.2 (nth v.kids x.1) (hkm x.1 (by omega)).shape;have:=zbR (l:=p.kids) (i:=x.1) (by omega);have:=hg1.2.2;dsimp only;omega⟩,(by dsimp only;omega),Sub.x (by kernel_rfl) (by kernel_rfl) ⟨⟨_,rfl,(LeA.eqi (by first|rfl|omega|(simp;done)))⟩,⟨⟨_,rfl,(by first|exact LeA.refl _|exact LeA.gld (by first|rfl|omega|(simp;done))|exact LeA.nild (by first|rfl|omega|(simp;done))|exact LeA.eqsl (by first|rfl|omega|(simp;done))|exact LeA.eqd (by first|rfl|omega|(simp;done)))⟩,trivial⟩⟩ (by kernel_rfl) (by kernel_rfl) trivial⟩
         ·try simp only[Q,Pat.cs_len] at h7p
          refine rn0 (r2 rfl rfl) (.tup (.cons (.eqd ?_) (.cons (.eqd ?_) .nil)))
          all_goals (first|(rw[hm4,←hg1.2.1,zjM (by omega)];all_goals rfl)|(rw[hm4,←hg1.2.1,zjL (by omega) (by omega) (by assumption)];all_goals rfl))
  ·have hn4:p.op=4→zaB (n+1) out p v=(out,false):=fun h4=>zqV h4 (fun hc=>c4 ⟨h4,hc⟩)
   have hc6:p.op=6→FnD Tryz.prog 42 [.d (.sl ([]++out.map Bd.c++[[.i p.var,.i v.ctor,.i v.num,zaw v.kids]])),.agg [.d (.i (nth p.kids 0).op),.d (.i (nth p.kids 0).ctor),.d (.i (nth p.kids 0).n),.d (.i (nth p.kids 0).m),.d (.i (nth p.kids 0).var),.d (zaH (nth p.kids 0).kids)],.agg [.d (.i v.ctor),.d (.i v.num),.d (zaw v.kids)]] [] (.tup [.d (za2 (zaB n (out++[⟨p.var,v⟩]) (nth p.kids 0) v).1),.d (.bool (zaB n (out++[⟨p.var,v⟩]) (nth p.kids 0) v).2)]) []:=fun h6=>by
    have hh:=zcW n m (out:=out++[⟨p.var,v⟩]) (k6 h6).2 (by have:=za8 (l:=p.kids) (i:=0) (by have:=(k6 h6).1;omega);simp;omega)
    rw[show za2 (out++[⟨p.var,v⟩]) = .sl ([]++out.map Bd.c++[[.i p.var,.i v.ctor,.i v.num,zaw v.kids]]) by simp[Bd.c]] at hh
    exact hh
   refine bd Tryz.f42 119 [] [] fun w0 F0 own kept hk=>?_
   refine Walk.box (id:=3004) .none rfl rfl rfl rfl rfl rfl rfl ?_
   refine Walk.box (id:=3005) .none rfl rfl rfl rfl rfl rfl rfl ?_
   refine ev ?_
   refine sq (fun h1 h1p h1s=>?_) fun h1 h1p h1s=>?_
   ·try simp only[Q,Pat.cs_len] at h1p
    refine rn0 (r2 rfl rfl) (.tup (.cons (.eqd ?_) (.cons (.eqd ?_) .nil)))
    all_goals (first|(rw[ms_1 (by omega)];all_goals rfl)|(rw[ms_2 (by omega)];all_goals first|rfl|(simp[za2,Bd.c];done))|(rw[ms_3 (by omega)];all_goals first|rfl|(refine congrArg D.bool ?_;unfold zaf;first|(rw[decide_eq_false (show ¬p.n≤v.num by omega),Bool.false_and];done)|(rw[decide_eq_true (show p.n≤v.num by omega),Bool.true_and];done)))|(rw[zfX (by omega) (by assumption)];all_goals rfl)|(rw[zfY (by omega) (by simp_all)];all_goals rfl)|(rw[ms_6 (by omega)];all_goals rfl)|(rw[hn4 (by omega)];all_goals rfl))
   ·try simp only[Q,Pat.cs_len] at h1p
    refine sq (fun h2 h2p h2s=>?_) fun h2 h2p h2s=>?_
    ·try simp only[Q,Pat.cs_len] at h2p
     refine Walk.sliceEmptyG 1 sl32 .none rfl rfl ?_
     refine evd [] [] ?_
     refine Walk.append sl32 zz58 rfl .none rfl rfl rfl rfl (zaP rfl (by first|rfl|(simp;done)|(simp;omega))) (by intro x hx;first|exact zeE _ x hx|(simp at hx;subst hx;rfl)) (by simp;omega) (by simp;omega) ?_
     refine evd [] [] ?_
     refine Walk.build st58 (ks:=[0,1]) (xs:=[_,_]) rfl rfl .none rfl rfl rfl ?_
     refine Walk.sliceLit sl32 tz58 rfl (by decide) (ks:=[0]) (xs:=[_]) rfl rfl (by decide) (by decide) .none rfl rfl rfl rfl ?_
     refine Walk.append sl32 zz58 rfl .none rfl rfl rfl rfl (zaP rfl (by first|rfl|(simp;done)|(simp;omega))) (by intro x hx;first|exact zeE _ x hx|(simp at hx;subst hx;rfl)) (by simp;omega) (by simp;omega) ?_
     refine evd [] [] ?_
     refine dr ?_
     refine rn0 (r2 rfl rfl) (.tup (.cons (.gld ?_) (.cons (.eqd ?_) .nil)))
     all_goals (first|(rw[ms_1 (by omega)];all_goals rfl)|(rw[ms_2 (by omega)];all_goals first|rfl|(simp[za2,Bd.c];done))|(rw[ms_3 (by omega)];all_goals first|rfl|(refine congrArg D.bool ?_;unfold zaf;first|(rw[decide_eq_false (show ¬p.n≤v.num by omega),Bool.false_and];done)|(rw[decide_eq_true (show p.n≤v.num by omega),Bool.true_and];done)))|(rw[zfX (by omega) (by assumption)];all_goals rfl)|(rw[zfY (by omega) (by simp_all)];all_goals rfl)|(rw[ms_6 (by omega)];all_goals rfl)|(rw[hn4 (by omega)];all_goals rfl))
    ·try simp only[Q,Pat.cs_len] at h2p
     refine sq (fun h3 h3p h3s=>?_) fun h3 h3p h3s=>?_
     ·try simp only[Q,Pat.cs_len] at h3p
      refine sq (fun h4 h4p h4s=>?_) fun h4 h4p h4s=>?_
      ·try simp only[Q,Pat.cs_len] at h4p
       refine dr ?_
       refine rn0 (r2 rfl rfl) (.tup (.cons (.eqd ?_) (.cons (.eqd ?_) .nil)))
       all_goals (first|(rw[ms_1 (by omega)];all_goals rfl)|(rw[ms_2 (by omega)];all_goals first|rfl|(simp[za2,Bd.c];done))|(rw[ms_3 (by omega)];all_goals first|rfl|(refine congrArg D.bool ?_;unfold zaf;first|(rw[decide_eq_false (show ¬p.n≤v.num by omega),Bool.false_and];done)|(rw[decide_eq_true (show p.n≤v.num by omega),Bool.true_and];done)))|(rw[zfX (by omega) (by assumption)];all_goals rfl)|(rw[zfY (by omega) (by simp_all)];all_goals rfl)|(rw[ms_6 (by omega)];all_goals rfl)|(rw[hn4 (by omega)];all_goals rfl))
      ·try simp only[Q,Pat.cs_len] at h4p
       refine dr ?_
       refine rn0 (r2 rfl rfl) (.tup (.cons (.eqd ?_) (.cons (.eqd ?_) .nil)))
       all_goals (first|(rw[ms_1 (by omega)];all_goals rfl)|(rw[ms_2 (by omega)];all_goals first|rfl|(simp[za2,Bd.c];done))|(rw[ms_3 (by omega)];all_goals first|rfl|(refine congrArg D.bool ?_;unfold zaf;first|(rw[decide_eq_false (show ¬p.n≤v.num by omega),Bool.false_and];done)|(rw[decide_eq_true (show p.n≤v.num by omega),Bool.true_and];done)))|(rw[zfX (by omega) (by assumption)];all_goals rfl)|(rw[zfY (by omega) (by simp_all)];all_goals rfl)|(rw[ms_6 (by omega)];all_goals rfl)|(rw[hn4 (by omega)];all_goals rfl))
     ·try simp only[Q,Pat.cs_len] at h3p
      refine sq (fun h5 h5p h5s=>?_) fun h5 h5p h5s=>?_
      ·try simp only[Q,Pat.cs_len] at h5p
       refine Walk.idx (i:=0) sl35 .none rfl rfl rfl rfl (zbm (by first|(have:=(k5 (by omega)).1;omega)|(have:=(k6 (by omega)).1;omega))) rfl ?_
       refine evd [] [] ?_
       refine Walk.call (cr:=[]) zky (zcW n m (k5 (by omega)).2.1 (by have:=za8 (l:=p.kids) (i:=0) (by have:=(k5 (by omega)).1;omega);omega)) rfl .none rfl rfl (LeL.refl _) trivial rfl rfl rfl ?_
       refine evd [] [] ?_
       refine dr ?_
       refine sq (fun h6 h6p h6s=>?_) fun h6 h6p h6s=>?_
       ·try simp only[Q,Pat.cs_len] at h6p
        refine rn0 (r2 rfl rfl) (.tup (.cons (.eqd ?_) (.cons (.eqd ?_) .nil)))
        all_goals (first|(rw[ms_1 (by omega)];all_goals rfl)|(rw[ms_2 (by omega)];all_goals first|rfl|(simp[za2,Bd.c];done))|(rw[ms_3 (by omega)];all_goals first|rfl|(refine congrArg D.bool ?_;unfold zaf;first|(rw[decide_eq_false (show ¬p.n≤v.num by omega),Bool.false_and];done)|(rw[decide_eq_true (show p.n≤v.num by omega),Bool.true_and];done)))|(rw[zfX (by omega) (by assumption)];all_goals rfl)|(rw[zfY (by omega) (by simp_all)];all_goals rfl)|(rw[ms_6 (by omega)];all_goals rfl)|(rw[hn4 (by omega)];all_goals rfl))
       ·try simp only[Q,Pat.cs_len] at h6p
        refine Walk.idx (i:=1) sl35 .none rfl rfl rfl rfl (zbm (by first|(have:=(k5 (by omega)).1;omega)|(have:=(k6 (by omega)).1;omega))) rfl ?_
        refine evd [] [] ?_
        refine Walk.call (cr:=[]) zky (zcW n m (k5 (by omega)).2.2 (by have:=za8 (l:=p.kids) (i:=1) (by have:=(k5 (by omega)).1;omega);omega)) rfl .none rfl rfl (LeL.refl _) trivial rfl rfl rfl ?_
        refine evd [] [] ?_
        refine dr ?_
        refine rn0 (r2 rfl rfl) (.tup (.cons (.eqd ?_) (.cons (.eqd ?_) .nil)))
        all_goals (first|(rw[ms_1 (by omega)];all_goals rfl)|(rw[ms_2 (by omega)];all_goals first|rfl|(simp[za2,Bd.c];done))|(rw[ms_3 (by omega)];all_goals first|rfl|(refine congrArg D.bool ?_;unfold zaf;first|(rw[decide_eq_false (show ¬p.n≤v.num by omega),Bool.false_and];done)|(rw[decide_eq_true (show p.n≤v.num by omega),Bool.true_and];done)))|(rw[zfX (by omega) (by assumption)];all_goals rfl)|(rw[zfY (by omega) (by simp_all)];all_goals rfl)|(rw[ms_6 (by omega)];all_goals rfl)|(rw[hn4 (by omega)];all_goals rfl))
      ·try simp only[Q,Pat.cs_len] at h5p
       refine sq (fun h7 h7p h7s=>?_) fun h7 h7p h7s=>?_
       ·try simp only[Q,Pat.cs_len] at h7p
        refine Walk.sliceEmptyG 2 sl32 .none rfl rfl ?_
        refine evd [] [] ?_
        refine Walk.append sl32 zz58 rfl .none rfl rfl rfl rfl (zaP rfl (by first|rfl|(simp;done)|(simp;omega))) (by intro x hx;first|exact zeE _ x hx|(simp at hx;subst hx;rfl)) (by simp;omega) (by simp;omega) ?_
        refine evd [] [] ?_
        refine Walk.build st58 (ks:=[0,1]) (xs:=[_,_]) rfl rfl .none rfl rfl rfl ?_
        refine Walk.sliceLit sl32 tz58 rfl (by decide) (ks:=[0]) (xs:=[_]) rfl rfl (by decide) (by decide) .none rfl rfl rfl rfl ?_
        refine Walk.append sl32 zz58 rfl .none rfl rfl rfl rfl (zaP rfl (by first|rfl|(simp;done)|(simp;omega))) (by intro x hx;first|exact zeE _ x hx|(simp at hx;subst hx;rfl)) (by simp;omega) (by simp;omega) ?_
        refine evd [] [] ?_
        refine Walk.idx (i:=0) sl35 .none rfl rfl rfl rfl (zbm (by first|(have:=(k5 (by omega)).1;omega)|(have:=(k6 (by omega)).1;omega))) rfl ?_
        refine evd [] [] ?_
        refine Walk.call (cr:=[]) zky (hc6 (by omega)) rfl .none rfl rfl (.cons (.gl _ _) (.cons (.refl _) (.cons (.refl _) .nil))) trivial rfl rfl rfl ?_
        refine evd [] [] ?_
        refine dr ?_
        refine rn0 (r2 rfl rfl) (.tup (.cons (.eqd ?_) (.cons (.eqd ?_) .nil)))
        all_goals (first|(rw[ms_1 (by omega)];all_goals rfl)|(rw[ms_2 (by omega)];all_goals first|rfl|(simp[za2,Bd.c];done))|(rw[ms_3 (by omega)];all_goals first|rfl|(refine congrArg D.bool ?_;unfold zaf;first|(rw[decide_eq_false (show ¬p.n≤v.num by omega),Bool.false_and];done)|(rw[decide_eq_true (show p.n≤v.num by omega),Bool.true_and];done)))|(rw[zfX (by omega) (by assumption)];all_goals rfl)|(rw[zfY (by omega) (by simp_all)];all_goals rfl)|(rw[ms_6 (by omega)];all_goals rfl)|(rw[hn4 (by omega)];all_goals rfl))
       ·try simp only[Q,Pat.cs_len] at h7p
        refine sq (fun h8 h8p h8s=>?_) fun h8 h8p h8s=>?_
        ·try simp only[Q,Pat.cs_len] at h8p
         refine rn0 (r2 rfl rfl) (.tup (.cons (.eqd ?_) (.cons (.eqd ?_) .nil)))
         all_goals (first|(rw[ms_1 (by omega)];all_goals rfl)|(rw[ms_2 (by omega)];all_goals first|rfl|(simp[za2,Bd.c];done))|(rw[ms_3 (by omega)];all_goals first|rfl|(refine congrArg D.bool ?_;unfold zaf;first|(rw[decide_eq_false (show ¬p.n≤v.num by omega),Bool.false_and];done)|(rw[decide_eq_true (show p.n≤v.num by omega),Bool.true_and];done)))|(rw[zfX (by omega) (by assumption)];all_goals rfl)|(rw[zfY (by omega) (by simp_all)];all_goals rfl)|(rw[ms_6 (by omega)];all_goals rfl)|(rw[hn4 (by omega)];all_goals rfl))
        ·try simp only[Q,Pat.cs_len] at h8p
         exfalso;apply c4;omega
def zeu (L:List Bd) (m:Nat):List Bd:=(List.range m).flatMap fun(n:Nat)=>L.filter fun b=>decide (b.var=(n:Int))
def zb9 (L:List Bd) (n i:Nat):List Bd:=(L.take i).filter fun b=>decide (b.var=(n:Int))
theorem zc3 (L:List Bd) (m:Nat):zeu L (m+1)=zeu L m++zb9 L m L.length:=by
 unfold zeu zb9;rw[List.range_succ,List.flatMap_append];simp
theorem zdr (L:List Bd) (n:Nat):zb9 L n 0=[]:=by simp[zb9]
theorem zjQ {L:List Bd}{n i:Nat} (h:i<L.length):zb9 L n (i+1)=zb9 L n i++(if (nth L i).var=(n:Int) then [nth L i] else []):=by
 unfold zb9
 rw[List.take_succ_eq_append_getElem h,List.filter_append]
 congr 1
 rw[←za5 h]
 by_cases e:(nth L i).var=(n:Int)
 ·simp[e]
 ·simp[e]
theorem zcx {L:List Bd}{n i:Nat} (h:i<L.length) (e:(nth L i).var=(n:Int)):zb9 L n (i+1)=zb9 L n i++[nth L i]:=by rw[zjQ h,if_pos e]
theorem zcT {L:List Bd}{n i:Nat} (h:i<L.length) (e:¬(nth L i).var=(n:Int)):zb9 L n (i+1)=zb9 L n i:=by rw[zjQ h,if_neg e,List.append_nil]
theorem zeo {L:List Bd}{n i:Nat} (h:L.length≤i):zb9 L n i=zb9 L n L.length:=by
 unfold zb9;rw[List.take_of_length_le h,List.take_of_length_le (Nat.le_refl _)]
theorem zhV (L:List Bd) (n i:Nat):(zb9 L n i).length≤L.length:=by
 unfold zb9
 have:=List.length_filter_le (fun b:Bd=>decide (b.var=(n:Int))) (L.take i)
 simp at this;omega
theorem zh2 (L:List Bd):∀m,(zeu L m).length≤m*L.length
 |0=>by simp[zeu]
 |m+1=>by
  rw[zc3,List.length_append,Nat.succ_mul]
  have:=zh2 L m
  have:=zhV L m L.length
  omega
theorem zlY {L:List Bd}{m:Nat} (hl:L.length≤1000) (hok:BdOk m L):FnD Tryz.prog 44 [.d (za2 L)] [] (.d (za2 (zjp L))) []:=by
 have hs6:zjp L=zeu L 6:=rfl
 rw[hs6]
 refine bd Tryz.f44 36 [] [] fun w0 F0 own kept hk=>?_
 refine Walk.sliceEmptyG 1 sl32 .none rfl rfl ?_
 refine ev ?_
 refine CWp.loopX (ι:=Nat) hk (fun n=>[(4,.d (.i (n:Int))),(3,.gl 1 ((zeu L n).map Bd.c))]) [5,7,8,9,10,11,12,13,14,15,16,17,18,19,20,21,22,23,24,25,26,27,28,29,30,31,32,33,34] (fun n=>[(1,some (.tok (((zeu L n).map Bd.c)).length 4))]) (fun n=>n≤6) (fun n=>6-n) 0 (by omega) ⟨⟨_,rfl,(LeA.eqi (by first|rfl|(rw[zc3,←zeo (i:=i) (by omega)];done)|(simp;done)|omega))⟩,⟨⟨_,rfl,(LeA.glg (by first|rfl|(rw[zc3,←zeo (i:=i) (by omega)];done)|(simp;done)|omega))⟩,trivial⟩⟩ ⟨zae (by first|rfl|(simp;done)|(simp;omega)|(first|rfl|(rw[zc3,←zeo (i:=i) (by omega)];done)|(simp;done)|omega)),trivial⟩ (fun x=>rfl) (fun n hg1=>?_)
 refine evc [] [] ?_
 refine sq (fun h1 h1p h1s=>?_) fun h1 h1p h1s=>?_
 ·try simp only[Q,Int.natCast_inj] at h1p
  refine CWp.loopX (ι:=Nat) hk (fun i=>[(5,.d (.i (i:Int))),(3,.gl 1 ((zeu L n++zb9 L n i).map Bd.c))]) [11,12,13,14,15,16,17,18,19,20,21,22,23,24,25,26,27,28,29,30,31,32,33,34] (fun i=>[(1,some (.tok (((zeu L n++zb9 L n i).map Bd.c)).length 4))]) (fun i=>i≤L.length) (fun i=>L.length-i) 0 (by omega) ⟨⟨_,rfl,(LeA.eqi (by first|rfl|(rw[zdr,List.append_nil];done)|(rw[zcT (by omega) (by omega)];done)|(rw[zcx (by omega) (by omega),←List.append_assoc,List.map_append,List.map_append];rw[List.map_append];congr 1;simp[Bd.c];omega)|(simp;done)|omega))⟩,⟨⟨_,rfl,(LeA.glg (by first|rfl|(rw[zdr,List.append_nil];done)|(rw[zcT (by omega) (by omega)];done)|(rw[zcx (by omega) (by omega),←List.append_assoc,List.map_append,List.map_append];rw[List.map_append];congr 1;simp[Bd.c];omega)|(simp;done)|omega))⟩,trivial⟩⟩ ⟨zae (by first|rfl|(simp;done)|(simp;omega)|(first|rfl|(rw[zdr,List.append_nil];done)|(rw[zcT (by omega) (by omega)];done)|(rw[zcx (by omega) (by omega),←List.append_assoc,List.map_append,List.map_append];rw[List.map_append];congr 1;simp[Bd.c];omega)|(simp;done)|omega)),trivial⟩ (fun x=>rfl) (fun i hg2=>?_)
  refine evc [] [] ?_
  refine sq (fun h2 h2p h2s=>?_) fun h2 h2p h2s=>?_
  ·try simp only[Q,Int.natCast_inj] at h2p
   refine Walk.idx sl32 .none rfl rfl rfl rfl (zak (by omega)) rfl ?_
   refine ev ?_
   refine sq (fun h3 h3p h3s=>?_) fun h3 h3p h3s=>?_
   ·try simp only[Q,Int.natCast_inj] at h3p
    refine Walk.idx sl32 .none rfl rfl rfl rfl (zak (by omega)) rfl ?_
    refine ev ?_
    refine Walk.call (cr:=[]) zqF (zhs _ (Nat.le_refl _) (hok (nth L i) (zai (by omega))).1) rfl .none rfl rfl (LeL.refl _) trivial rfl rfl rfl ?_
    refine Walk.build st58 (ks:=[0,1]) (xs:=[_,_]) rfl rfl .none rfl rfl rfl ?_
    refine Walk.sliceLit sl32 tz58 rfl (by decide) (ks:=[0]) (xs:=[_]) rfl rfl (by decide) (by decide) .none rfl rfl rfl rfl ?_
    refine Walk.append sl32 zz58 rfl .none rfl rfl rfl rfl (zaP rfl (by first|rfl|(simp;done)|(simp;omega))) (by intro x hx;simp at hx;subst hx;rfl) (by have:=zhV L n i;have:=zh2 L n;have:=Nat.mul_le_mul (show n≤6 by omega) hl;simp;omega) (by have:=zhV L n i;have:=zh2 L n;have:=Nat.mul_le_mul (show n≤6 by omega) hl;simp;omega) ?_
    refine ev ?_
    refine ar ?_
    refine Exists.intro (i+1) ⟨(by omega),(by omega),Sub.x (by kernel_rfl) (by kernel_rfl) ⟨⟨_,rfl,(LeA.eqi (by first|rfl|(rw[zdr,List.append_nil];done)|(rw[zcT (by omega) (by omega)];done)|(rw[zcx (by omega) (by omega),←List.append_assoc,List.map_append,List.map_append];rw[List.map_append];congr 1;simp[Bd.c];omega)|(simp;done)|omega))⟩,⟨⟨_,rfl,(LeA.glg (by first|rfl|(rw[zdr,List.append_nil];done)|(rw[zcT (by omega) (by omega)];done)|(rw[zcx (by omega) (by omega),←List.append_assoc,List.map_append,List.map_append];rw[List.map_append];congr 1;simp[Bd.c];omega)|(simp;done)|omega))⟩,trivial⟩⟩ (by kernel_rfl) (by kernel_rfl) ⟨zae (by first|rfl|(simp;done)|(simp;omega)|(first|rfl|(rw[zdr,List.append_nil];done)|(rw[zcT (by omega) (by omega)];done)|(rw[zcx (by omega) (by omega),←List.append_assoc,List.map_append,List.map_append];rw[List.map_append];congr 1;simp[Bd.c];omega)|(simp;done)|omega)),trivial⟩⟩
   ·try simp only[Q,Int.natCast_inj] at h3p
    refine ar ?_
    refine Exists.intro (i+1) ⟨(by omega),(by omega),Sub.x (by kernel_rfl) (by kernel_rfl) ⟨⟨_,rfl,(LeA.eqi (by first|rfl|(rw[zdr,List.append_nil];done)|(rw[zcT (by omega) (by omega)];done)|(rw[zcx (by omega) (by omega),←List.append_assoc,List.map_append,List.map_append];rw[List.map_append];congr 1;simp[Bd.c];omega)|(simp;done)|omega))⟩,⟨⟨_,rfl,(LeA.glg (by first|rfl|(rw[zdr,List.append_nil];done)|(rw[zcT (by omega) (by omega)];done)|(rw[zcx (by omega) (by omega),←List.append_assoc,List.map_append,List.map_append];rw[List.map_append];congr 1;simp[Bd.c];omega)|(simp;done)|omega))⟩,trivial⟩⟩ (by kernel_rfl) (by kernel_rfl) ⟨zae (by first|rfl|(simp;done)|(simp;omega)|(first|rfl|(rw[zdr,List.append_nil];done)|(rw[zcT (by omega) (by omega)];done)|(rw[zcx (by omega) (by omega),←List.append_assoc,List.map_append,List.map_append];rw[List.map_append];congr 1;simp[Bd.c];omega)|(simp;done)|omega)),trivial⟩⟩
  ·try simp only[Q,Int.natCast_inj] at h2p
   refine ar ?_
   refine Exists.intro (n+1) ⟨(by omega),(by omega),Sub.x (by kernel_rfl) (by kernel_rfl) ⟨⟨_,rfl,(LeA.eqi (by first|rfl|(rw[zc3,←zeo (i:=i) (by omega)];done)|(simp;done)|omega))⟩,⟨⟨_,rfl,(LeA.glg (by first|rfl|(rw[zc3,←zeo (i:=i) (by omega)];done)|(simp;done)|omega))⟩,trivial⟩⟩ (by kernel_rfl) (by kernel_rfl) ⟨zae (by first|rfl|(simp;done)|(simp;omega)|(first|rfl|(rw[zc3,←zeo (i:=i) (by omega)];done)|(simp;done)|omega)),trivial⟩⟩
 ·try simp only[Q,Int.natCast_inj] at h1p
  refine rn0 (r1 rfl) (.gld ?_)
  all_goals (first|rfl|(rw[show n=6 by omega];done)|(obtain rfl:n=6:=(by omega);rfl))
def RunOk (w:List Data) (t:Ty) (l:List Cl) (v:Val):Prop:=∀i,i<l.length→MatchOk w 10 10 t (nth l i).pat v∧isP w t (nth l i).pat=true
theorem ziK {w:List Data}{m:Nat}{t:Ty}{p:Pat}{v:Val} (h:MatchOk w 10 m t p v) (hp:isP w t p=true) (hm:(zaj 10 p v).2=true):((zaj 10 p v).1.map Bd.var).Nodup∧∀b∈(zaj 10 p v).1,0≤b.var∧b.var≤5:=by
 have hp':=hp
 unfold isP at hp
 simp only[Bool.and_eq_true] at hp
 have k:=zei 10 m h hp.2.2 hm
 refine⟨k.nod,fun b hb=>?_⟩
 have e:=(zdZ w 10 t p 0).1
 have hw:zbq w 10 t p 0=true:=by
  unfold zbq;rw[hp.1,hp.2.2];have:=of_decide_eq_true hp.2.1;simp;omega
 rw[if_pos hw] at e
 have:=zh0 w 10 t p 0 _ e
 obtain⟨x,hx,ex⟩:=List.mem_map.1 (k.sub b.var (List.mem_map.2 ⟨b,hb,rfl⟩))
 have h3:=this.1 x hx
 rw[←ex];exact h3
theorem znA {w:List Data}{m:Nat}{t:Ty}{c:Cl}{v:Val} (h:MatchOk w 10 m t c.pat v) (hp:isP w t c.pat=true):zcU c v=((zbA 10 c.pat v).2&&zb8 c.g (zbA 10 c.pat v).1):=by
 unfold zcU zbA
 cases hm:(zaj 10 c.pat v).2 with
 |false=>rfl
 |true=>
  rw[if_pos rfl,Bool.true_and,Bool.true_and]
  exact(zpr (zeq _) (ziK h hp hm).1).symm
theorem znm {p:Pat}{v:Val} (h:(zbA 10 p v).2=true):(zbA 10 p v).1=zc9 (zaj 10 p v).1:=by
 rw[zn2] at h
 unfold zbA;rw[if_pos h]
theorem zn3 {w:List Data}{m:Nat}{t:Ty}{p:Pat}{v:Val} (h:MatchOk w 10 m t p v) (hp:isP w t p=true):(zbA 10 p v).1.length≤6:=by
 unfold zbA
 split
 ·rename_i hm;rw[zgP];exact ziL h hp hm
 ·simp
theorem zoq {w:List Data}{m:Nat}{t:Ty}{c:Cl}{v:Val} (h:MatchOk w 10 m t c.pat v):zcU c v=((zaB 10 [] c.pat v).2&&zb8 c.g (zaB 10 [] c.pat v).1):=by
 unfold zcU
 obtain⟨h1,h2⟩:=zdX 10 [] c.pat v
 rw[h1]
 cases hm:(zaj 10 c.pat v).2 with
 |false=>rfl
 |true=>rw[h2 hm,List.nil_append]
theorem zn1 {w:List Data}{m:Nat}{t:Ty}{p:Pat}{v:Val} (h:MatchOk w 10 m t p v) (hp:isP w t p=true) (hm:(zaB 10 [] p v).2=true):zjp (zaB 10 [] p v).1=zc9 (zaj 10 p v).1:=by
 obtain⟨h1,h2⟩:=zdX 10 [] p v
 rw[h1] at hm
 rw[h2 hm,List.nil_append]
 exact zqj (ziK h hp hm).1 (ziK h hp hm).2
theorem zn0 {w:List Data}{t:Ty}{l:List Cl}{v:Val} (hl:l.length≤1000000000000) (hr:RunOk w t l v):
  FnD Tryz.prog 19 [.d (zbc l),.agg [.d (.i v.ctor),.d (.i v.num),.d (zaw v.kids)]] [] (.tup [.d (.i (runV l v 0).1),.d (za2 (runV l v 0).2)]) []:=by
 have hhit:=fun(i:Nat) (hi:i<l.length) (h:((zbA 10 (nth l i).pat v).2&&zb8 (nth l i).g (zbA 10 (nth l i).pat v).1)=true)=>znB (v:=v) hi (by rw[znA (hr i hi).1 (hr i hi).2];exact h)
 have hnext:=fun(i:Nat) (hi:i<l.length) (h:((zbA 10 (nth l i).pat v).2&&zb8 (nth l i).g (zbA 10 (nth l i).pat v).1)=false)=>zmp (v:=v) hi (by rw[znA (hr i hi).1 (hr i hi).2];exact h)
 have hms:=fun(i:Nat)=>znm (p:=(nth l i).pat) (v:=v)
 refine bd Tryz.f19 34 [] [] fun w0 F0 own kept hk=>?_
 refine Walk.box (id:=3003) .none rfl rfl rfl rfl rfl rfl rfl ?_
 refine ev ?_
 refine CWp.loopX (ι:=Nat) hk (fun i=>[(12,.d (.i (i:Int)))]) [4,5,6,7,8,9,13,14,15,16,17,18,19,20,21,22,23,24,25,26,27,28,29,30,31,32,33] (fun i=>[]) (fun i=>i≤l.length∧runV (l.drop i) v (i:Int)=runV l v 0) (fun i=>l.length-i) 0 ⟨by omega,rfl⟩ ⟨⟨_,rfl,(LeA.eqi (by first|rfl|(simp;done)|(simp_all;done)|omega))⟩,trivial⟩ trivial (fun x=>rfl) (fun i hg1=>?_)
 refine evc [] [] ?_
 refine sq (fun h1 h1p h1s=>?_) fun h1 h1p h1s=>?_
 ·try simp only[Q,Int.natCast_inj] at h1p
  refine Walk.idx sl26 .none rfl rfl rfl rfl (zak (by omega)) rfl ?_
  refine ev ?_
  refine Walk.alloc (id:=3007) tz41 rfl .none rfl rfl rfl rfl ?_
  refine ev ?_
  refine Walk.store ty41 .none rfl rfl rfl rfl rfl rfl (by simp) rfl ?_
  refine tv ?_
  refine Walk.call (cr:=[]) zso (zkO (hr i (by omega)).1 (hr i (by omega)).2) rfl .none rfl rfl (LeL.refl _) trivial rfl rfl rfl ?_
  refine ev ?_
  refine sq (fun h2 h2p h2s=>?_) fun h2 h2p h2s=>?_
  ·try simp only[Q,Int.natCast_inj] at h2p
   refine Walk.call (cr:=[]) zsb (ziB (g:=(nth l i).g) (by have:=zn3 (hr i (by omega)).1 (hr i (by omega)).2;omega)) rfl (.some rfl rfl h2) rfl rfl (LeL.refl _) trivial rfl rfl rfl ?_
   refine evs [] [(25,true)] ?_ ⟨⟨_,rfl,h2⟩,trivial⟩
   refine sq (fun h3 h3p h3s=>?_) fun h3 h3p h3s=>?_
   ·try simp only[Q,Int.natCast_inj] at h3p
    refine rn0 (r2 rfl rfl) (.tup (.cons (.eqd ?_) (.cons (.eqd ?_) .nil)))
    all_goals (first|(rw[←hg1.2,hhit i (by omega) (by simp_all)];all_goals rfl)|(rw[←hg1.2,hhit i (by omega) (by simp_all),←hms i (by simp_all)];done)|(rw[←hg1.2,zhY (by omega)];all_goals rfl))
   ·try simp only[Q,Int.natCast_inj] at h3p
    refine ar ?_
    refine Exists.intro (i+1) ⟨⟨by omega,by rw[←hnext i (by omega) (by simp_all)];exact hg1.2⟩,(by omega),Sub.x (by kernel_rfl) (by kernel_rfl) ⟨⟨_,rfl,(LeA.eqi (by first|rfl|(simp;done)|(simp_all;done)|omega))⟩,trivial⟩ (by kernel_rfl) (by kernel_rfl) trivial⟩
  ·try simp only[Q,Int.natCast_inj] at h2p
   refine sqF ?_
   refine ar ?_
   refine Exists.intro (i+1) ⟨⟨by omega,by rw[←hnext i (by omega) (by simp_all)];exact hg1.2⟩,(by omega),Sub.x (by kernel_rfl) (by kernel_rfl) ⟨⟨_,rfl,(LeA.eqi (by first|rfl|(simp;done)|(simp_all;done)|omega))⟩,trivial⟩ (by kernel_rfl) (by kernel_rfl) trivial⟩
 ·try simp only[Q,Int.natCast_inj] at h1p
  refine rn0 (r2 rfl rfl) (.tup (.cons (.eqd ?_) (.cons (.nild ?_) .nil)))
  all_goals (first|(rw[←hg1.2,hhit i (by omega) (by simp_all)];all_goals rfl)|(rw[←hg1.2,hhit i (by omega) (by simp_all),←hms i (by simp_all)];done)|(rw[←hg1.2,zhY (by omega)];all_goals rfl))
theorem zmI {w:List Data}{t:Ty}{l:List Cl}{v:Val} (hl:l.length≤1000000000000) (hr:RunOk w t l v):
  FnD Tryz.prog 22 [.d (zbc l),.agg [.d (.i v.ctor),.d (.i v.num),.d (zaw v.kids)]] [] (.tup [.d (.i (runV l v 0).1),.d (za2 (runV l v 0).2)]) []:=by
 have hhit:=fun(i:Nat) (hi:i<l.length) (h:((zaB 10 [] (nth l i).pat v).2&&zb8 (nth l i).g (zaB 10 [] (nth l i).pat v).1)=true)=>znB (v:=v) hi (by rw[zoq (hr i hi).1];exact h)
 have hnext:=fun(i:Nat) (hi:i<l.length) (h:((zaB 10 [] (nth l i).pat v).2&&zb8 (nth l i).g (zaB 10 [] (nth l i).pat v).1)=false)=>zmp (v:=v) hi (by rw[zoq (hr i hi).1];exact h)
 have hms:=fun(i:Nat) (hi:i<l.length)=>zn1 (hr i hi).1 (hr i hi).2
 have hlen:=fun(i:Nat) (hi:i<l.length)=>zee 10 [] v (hr i hi).1.shape
 have hbok:=fun(i:Nat) (hi:i<l.length) (h:(zaB 10 [] (nth l i).pat v).2=true)=>show BdOk v.size (zaB 10 [] (nth l i).pat v).1 by
  obtain⟨h1,h2⟩:=zdX 10 [] (nth l i).pat v
  rw[h1] at h
  rw[h2 h]
  exact(zcS 10 (hr i hi).1.shape (hr i hi).1.vok).1
 have hpsz:=fun(i:Nat) (hi:i<l.length)=>(hr i hi).1.psz
 refine bd Tryz.f22 39 [] [] fun w0 F0 own kept hk=>?_
 refine Walk.box (id:=3003) .none rfl rfl rfl rfl rfl rfl rfl ?_
 refine ev ?_
 refine CWp.loopX (ι:=Nat) hk (fun i=>[(6,.d (.i (i:Int)))]) [4,5,7,8,9,10,11,12,13,14,15,16,17,18,19,20,21,22,23,24,25,26,27,28,29,30,31,32,33,34,35,36,37] (fun i=>[]) (fun i=>i≤l.length∧runV (l.drop i) v (i:Int)=runV l v 0) (fun i=>l.length-i) 0 ⟨by omega,rfl⟩ ⟨⟨_,rfl,(LeA.eqi (by first|rfl|(simp;done)|(simp_all;done)|omega))⟩,trivial⟩ trivial (fun x=>rfl) (fun i hg1=>?_)
 refine evc [] [] ?_
 refine sq (fun h1 h1p h1s=>?_) fun h1 h1p h1s=>?_
 ·try simp only[Q,Int.natCast_inj] at h1p
  refine Walk.idx sl26 .none rfl rfl rfl rfl (zak (by omega)) rfl ?_
  refine evd [] [] ?_
  refine Walk.call (cr:=[]) zky (zcW 10 10 (out:=[]) (hr i (by omega)).1 (by have:=hpsz i (by omega);simp;omega)) rfl .none rfl rfl (.cons .nil (.cons (.refl _) (.cons (.refl _) .nil))) trivial rfl rfl rfl ?_
  refine evd [] [] ?_
  refine dr ?_
  refine sq (fun h2 h2p h2s=>?_) fun h2 h2p h2s=>?_
  ·try simp only[Q,Int.natCast_inj] at h2p
   refine Walk.idx sl26 (.some rfl rfl h2) rfl rfl rfl rfl (zak (by omega)) rfl ?_
   refine evs [] [(26,true)] ?_ ⟨⟨_,rfl,h2⟩,trivial⟩
   refine Walk.call (cr:=[]) zst (zi6 (g:=(nth l i).g) (by have:=hlen i (by omega);have:=hpsz i (by omega);simp at *;omega)) rfl (.some rfl rfl h2) rfl rfl (LeL.refl _) trivial rfl rfl rfl ?_
   refine evs [] [(26,true)] ?_ ⟨⟨_,rfl,h2⟩,trivial⟩
   refine sq (fun h3 h3p h3s=>?_) fun h3 h3p h3s=>?_
   ·try simp only[Q,Int.natCast_inj] at h3p
    refine Walk.call (cr:=[]) zsu (zlY (by have:=hlen i (by omega);have:=hpsz i (by omega);simp at *;omega) (hbok i (by omega) (by simp_all))) rfl .none rfl rfl (LeL.refl _) trivial rfl rfl rfl ?_
    refine ev ?_
    refine rn0 (r2 rfl rfl) (.tup (.cons (.eqd ?_) (.cons (.eqd ?_) .nil)))
    all_goals (first|(rw[←hg1.2,hhit i (by omega) (by simp_all)];all_goals rfl)|(rw[←hg1.2,hhit i (by omega) (by simp_all),hms i (by omega) (by simp_all)];done)|(rw[←hg1.2,zhY (by omega)];all_goals rfl))
   ·try simp only[Q,Int.natCast_inj] at h3p
    refine ar ?_
    refine Exists.intro (i+1) ⟨⟨by omega,by rw[←hnext i (by omega) (by simp_all)];exact hg1.2⟩,(by omega),Sub.x (by kernel_rfl) (by kernel_rfl) ⟨⟨_,rfl,(LeA.eqi (by first|rfl|(simp;done)|(simp_all;done)|omega))⟩,trivial⟩ (by kernel_rfl) (by kernel_rfl) trivial⟩
  ·try simp only[Q,Int.natCast_inj] at h2p
   refine sqF ?_
   refine ar ?_
   refine Exists.intro (i+1) ⟨⟨by omega,by rw[←hnext i (by omega) (by simp_all)];exact hg1.2⟩,(by omega),Sub.x (by kernel_rfl) (by kernel_rfl) ⟨⟨_,rfl,(LeA.eqi (by first|rfl|(simp;done)|(simp_all;done)|omega))⟩,trivial⟩ (by kernel_rfl) (by kernel_rfl) trivial⟩
 ·try simp only[Q,Int.natCast_inj] at h1p
  refine Walk.sliceEmpty sl32 .none rfl ?_
  refine ev ?_
  refine rn0 (r2 rfl rfl) (.tup (.cons (.eqd ?_) (.cons (.eqd ?_) .nil)))
  all_goals (first|(rw[←hg1.2,hhit i (by omega) (by simp_all)];all_goals rfl)|(rw[←hg1.2,hhit i (by omega) (by simp_all),hms i (by omega) (by simp_all)];done)|(rw[←hg1.2,zhY (by omega)];all_goals rfl))
theorem zg9 {w:List Data}{a k:Int}{l:List Cl}{v:Val} (h:zax w ⟨a,k⟩ l=true) (hl:ClsOk l) (hv:v.ok) (h2:isV w ⟨a,k⟩ v=true):RunOk w ⟨a,k⟩ l v:=by
 intro i hi
 unfold zax at h
 simp only[Bool.and_eq_true,Bool.not_eq_true',List.any_eq_false,Bool.not_eq_true] at h
 have h3:=h.2.2 _ (zai hi)
 have h4:clOk w ⟨a,k⟩ (nth l i)=true:=by simpa using h3
 unfold clOk at h4
 rw[Bool.and_eq_true] at h4
 exact⟨zqb h4.1 h2 (hl.2 _ (zai hi)) hv,h4.1⟩
theorem zge {w:List Data}{a k:Int}{l:List Cl} (h:zax w ⟨a,k⟩ l=true):zbl w ⟨a,k⟩=true∧l.length≤8:=by
 unfold zax at h
 simp only[Bool.and_eq_true,decide_eq_true_eq] at h
 exact⟨h.1,by omega⟩
def runC (w:List Data) (a k:Int) (l:List Cl) (v:Val):(Int×List Bd)×Bool:=if zax w ⟨a,k⟩ l=true∧isV w ⟨a,k⟩ v=true then (runV l v 0,true) else ((-1,[]),false)
theorem zdt {w:List Data}{a k:Int}{l:List Cl}{v:Val} (h1:zax w ⟨a,k⟩ l=true) (h2:isV w ⟨a,k⟩ v=true):runC w a k l v=(runV l v 0,true):=by unfold runC;rw[if_pos ⟨h1,h2⟩]
theorem zfk {w:List Data}{a k:Int}{l:List Cl}{v:Val} (h1:¬(zax w ⟨a,k⟩ l=true∧isV w ⟨a,k⟩ v=true)):runC w a k l v=((-1,[]),false):=by unfold runC;rw[if_neg h1]
theorem za4 {w:List Data} (hs:WSmall w){a k:Int}{l:List Cl}{v:Val} (hl:ClsOk l) (hv:v.ok):
  FnD Tryz.prog 8 [.d (zag w),.agg [.d (.i a),.d (.i k)],.d (zbc l),.agg [.d (.i v.ctor),.d (.i v.num),.d (zaw v.kids)]] [] (.tup [.d (.i (runC w a k l v).1.1),.d (za2 (runC w a k l v).1.2),.d (.bool (runC w a k l v).2)]) []:=by
 have hcv:=zct hs (a:=a) (k:=k) hl
 have hyes:=zdt (w:=w) (a:=a) (k:=k) (l:=l) (v:=v)
 have hno1:=fun(h:zax w ⟨a,k⟩ l=false)=>zfk (w:=w) (a:=a) (k:=k) (l:=l) (v:=v) (fun hh=>by rw[h] at hh;exact absurd hh.1 (by simp))
 have hno2:=fun(h:isV w ⟨a,k⟩ v=false)=>zfk (w:=w) (a:=a) (k:=k) (l:=l) (v:=v) (fun hh=>by rw[h] at hh;exact absurd hh.2 (by simp))
 refine bd Tryz.f8 33 [] [] fun w0 F0 own kept hk=>?_
 refine Walk.box (id:=3005) .none rfl rfl rfl rfl rfl rfl rfl ?_
 refine Walk.box (id:=3007) .none rfl rfl rfl rfl rfl rfl rfl ?_
 refine ev ?_
 refine Walk.call (cr:=[]) zmK (hcv) rfl .none rfl rfl (LeL.refl _) trivial rfl rfl rfl ?_
 refine ev ?_
 refine sq (fun h1 h1p h1s=>?_) fun h1 h1p h1s=>?_
 ·try simp only[Q] at h1p
  refine sqT ?_
  refine rn0 (.cons (.tmp rfl) (.cons (.tmp rfl) (.cons (.tmp rfl) .nil))) (.tup (.cons (.eqd ?_) (.cons (.nild ?_) (.cons (.eqd ?_) .nil))))
  all_goals (first|(rw[hyes (by assumption) (by assumption)];all_goals rfl)|(rw[hno1 (by assumption)];all_goals rfl)|(rw[hno2 (by assumption)];all_goals rfl))
 ·try simp only[Q] at h1p
  refine Walk.call (cr:=[]) zsf (zkP (zfs hs (zd2 (zge (l:=l) (a:=a) (k:=k) (by assumption)).1).1) (zd2 (zge (l:=l) (a:=a) (k:=k) (by assumption)).1).2.1 hv) rfl (.some rfl rfl h1) rfl rfl (LeL.refl _) trivial rfl rfl rfl ?_
  refine evs [] [(18,false)] ?_ ⟨⟨_,rfl,h1⟩,trivial⟩
  refine sq (fun h3 h3p h3s=>?_) fun h3 h3p h3s=>?_
  ·try simp only[Q] at h3p
   refine rn0 (.cons (.tmp rfl) (.cons (.tmp rfl) (.cons (.tmp rfl) .nil))) (.tup (.cons (.eqd ?_) (.cons (.nild ?_) (.cons (.eqd ?_) .nil))))
   all_goals (first|(rw[hyes (by assumption) (by assumption)];all_goals rfl)|(rw[hno1 (by assumption)];all_goals rfl)|(rw[hno2 (by assumption)];all_goals rfl))
  ·try simp only[Q] at h3p
   refine Walk.call (cr:=[]) zsg (zn0 hl.1 (zg9 (a:=a) (k:=k) (by assumption) hl hv (by assumption))) rfl .none rfl rfl (LeL.refl _) trivial rfl rfl rfl ?_
   refine ev ?_
   refine rn0 (.cons (.tmp rfl) (.cons (.tmp rfl) (.cons (.tmp rfl) .nil))) (.tup (.cons (.eqd ?_) (.cons (.eqd ?_) (.cons (.eqd ?_) .nil))))
   all_goals (first|(rw[hyes (by assumption) (by assumption)];all_goals rfl)|(rw[hno1 (by assumption)];all_goals rfl)|(rw[hno2 (by assumption)];all_goals rfl))
theorem zbV {w:List Data} (hs:WSmall w){a k:Int}{l:List Cl}{v:Val} (hl:ClsOk l) (hz:ClsSz l) (hv:v.ok) (hvz:v.size≤1000000000000):
  FnD Tryz.prog 9 [.d (zag w),.agg [.d (.i a),.d (.i k)],.d (zbc l),.agg [.d (.i v.ctor),.d (.i v.num),.d (zaw v.kids)]] [] (.tup [.d (.i (runC w a k l v).1.1),.d (za2 (runC w a k l v).1.2),.d (.bool (runC w a k l v).2)]) []:=by
 have hcv:=zh3 hs (a:=a) (k:=k) hl hz
 have hyes:=zdt (w:=w) (a:=a) (k:=k) (l:=l) (v:=v)
 have hno1:=fun(h:zax w ⟨a,k⟩ l=false)=>zfk (w:=w) (a:=a) (k:=k) (l:=l) (v:=v) (fun hh=>by rw[h] at hh;exact absurd hh.1 (by simp))
 have hno2:=fun(h:isV w ⟨a,k⟩ v=false)=>zfk (w:=w) (a:=a) (k:=k) (l:=l) (v:=v) (fun hh=>by rw[h] at hh;exact absurd hh.2 (by simp))
 refine bd Tryz.f9 34 [] [] fun w0 F0 own kept hk=>?_
 refine Walk.box (id:=3005) .none rfl rfl rfl rfl rfl rfl rfl ?_
 refine Walk.box (id:=3007) .none rfl rfl rfl rfl rfl rfl rfl ?_
 refine ev ?_
 refine Walk.call (cr:=[]) zsh (hcv) rfl .none rfl rfl (LeL.refl _) trivial rfl rfl rfl ?_
 refine ev ?_
 refine sq (fun h1 h1p h1s=>?_) fun h1 h1p h1s=>?_
 ·try simp only[Q] at h1p
  refine sqT ?_
  refine Walk.sliceEmpty sl32 .none rfl ?_
  refine ev ?_
  refine rn0 (.cons (.tmp rfl) (.cons (.tmp rfl) (.cons (.tmp rfl) .nil))) (.tup (.cons (.eqd ?_) (.cons (.eqd ?_) (.cons (.eqd ?_) .nil))))
  all_goals (first|(rw[hyes (by assumption) (by assumption)];all_goals rfl)|(rw[hno1 (by assumption)];all_goals rfl)|(rw[hno2 (by assumption)];all_goals rfl))
 ·try simp only[Q] at h1p
  refine Walk.call (cr:=[]) zsi (znJ (zfs hs (zd2 (zge (l:=l) (a:=a) (k:=k) (by assumption)).1).1) (zd2 (zge (l:=l) (a:=a) (k:=k) (by assumption)).1).2.1 hv hvz) rfl (.some rfl rfl h1) rfl rfl (LeL.refl _) trivial rfl rfl rfl ?_
  refine evs [] [(18,false)] ?_ ⟨⟨_,rfl,h1⟩,trivial⟩
  refine sq (fun h3 h3p h3s=>?_) fun h3 h3p h3s=>?_
  ·try simp only[Q] at h3p
   refine Walk.sliceEmpty sl32 .none rfl ?_
   refine ev ?_
   refine rn0 (.cons (.tmp rfl) (.cons (.tmp rfl) (.cons (.tmp rfl) .nil))) (.tup (.cons (.eqd ?_) (.cons (.eqd ?_) (.cons (.eqd ?_) .nil))))
   all_goals (first|(rw[hyes (by assumption) (by assumption)];all_goals rfl)|(rw[hno1 (by assumption)];all_goals rfl)|(rw[hno2 (by assumption)];all_goals rfl))
  ·try simp only[Q] at h3p
   refine Walk.call (cr:=[]) zsj (zmI hl.1 (zg9 (a:=a) (k:=k) (by assumption) hl hv (by assumption))) rfl .none rfl rfl (LeL.refl _) trivial rfl rfl rfl ?_
   refine ev ?_
   refine rn0 (.cons (.tmp rfl) (.cons (.tmp rfl) (.cons (.tmp rfl) .nil))) (.tup (.cons (.eqd ?_) (.cons (.eqd ?_) (.cons (.eqd ?_) .nil))))
   all_goals (first|(rw[hyes (by assumption) (by assumption)];all_goals rfl)|(rw[hno1 (by assumption)];all_goals rfl)|(rw[hno2 (by assumption)];all_goals rfl))
theorem zau {l:List Bd} (hl:l.length≤1000000000000) (hok:∀x∈l,x.val.ok):FnD Tryz.prog 10 [.d (za2 l),.d (za2 l)] [] (.d (.bool true)) []:=by
 have hvs:=fun(i:Nat) (hi:i<l.length)=>(by have h:=zfN (nth l i).val.size (a:=(nth l i).val) (b:=(nth l i).val) (Nat.le_refl _) (hok _ (zai hi));rw[zlt] at h;exact h:FnD Tryz.prog 23 [.agg [.d (.i (nth l i).val.ctor),.d (.i (nth l i).val.num),.d (zaw (nth l i).val.kids)],.agg [.d (.i (nth l i).val.ctor),.d (.i (nth l i).val.num),.d (zaw (nth l i).val.kids)]] [] (.d (.bool true)) [])
 refine bd Tryz.f10 42 [] [] fun w0 F0 own kept hk=>?_
 refine sq (fun h1 h1p h1s=>?_) fun h1 h1p h1s=>?_
 ·try simp only[Q] at h1p
  refine rn0 (r1 rfl) (.eqd ?_)
  all_goals (first|rfl|(exfalso;simp_all;done))
 ·try simp only[Q] at h1p
  refine CWp.loopX (ι:=Nat) hk (fun i=>[(5,.d (.i (i:Int)))]) [4,11,12,13,14,15,16,17,18,19,20,21,22,23,24,25,26,27,28,29,30,31,32,33,34,35,36,37,38,39,40,41] (fun i=>[]) (fun i=>i≤l.length) (fun i=>l.length-i) 0 (by omega) ⟨⟨_,rfl,(LeA.eqi (by first|rfl|(simp;done)|(simp_all;done)|omega))⟩,trivial⟩ trivial (fun x=>rfl) (fun i hg1=>?_)
  refine evc [] [] ?_
  refine sq (fun h2 h2p h2s=>?_) fun h2 h2p h2s=>?_
  ·try simp only[Q] at h2p
   refine Walk.idx sl32 .none rfl rfl rfl rfl (zak (by omega)) rfl ?_
   refine evd [] [] ?_
   refine Walk.idx sl32 .none rfl rfl rfl rfl (zak (by omega)) rfl ?_
   refine evd [] [] ?_
   refine sq (fun h3 h3p h3s=>?_) fun h3 h3p h3s=>?_
   ·try simp only[Q] at h3p
    refine dr ?_
    refine sqT ?_
    refine rn0 (r1 rfl) (.eqd ?_)
    all_goals (first|rfl|(exfalso;simp_all;done))
   ·try simp only[Q] at h3p
    refine Walk.idx sl32 (.some rfl rfl h3) rfl rfl rfl rfl (zak (by omega)) rfl ?_
    refine evd [] [(28,false)] ?_ ⟨⟨_,rfl,h3⟩,trivial⟩
    refine Walk.idx sl32 (.some rfl rfl h3) rfl rfl rfl rfl (zak (by omega)) rfl ?_
    refine evd [] [(28,false)] ?_ ⟨⟨_,rfl,h3⟩,trivial⟩
    refine Walk.call (cr:=[]) zqv (hvs i (by omega)) rfl (.some rfl rfl h3) rfl rfl (LeL.refl _) trivial rfl rfl rfl ?_
    refine evd [] [(28,false)] ?_ ⟨⟨_,rfl,h3⟩,trivial⟩
    refine dr ?_
    refine sq (fun h5 h5p h5s=>?_) fun h5 h5p h5s=>?_
    ·try simp only[Q] at h5p
     refine rn0 (r1 rfl) (.eqd ?_)
     all_goals (first|rfl|(exfalso;simp_all;done))
    ·try simp only[Q] at h5p
     refine ar ?_
     refine Exists.intro (i+1) ⟨(by omega),(by omega),Sub.x (by kernel_rfl) (by kernel_rfl) ⟨⟨_,rfl,(LeA.eqi (by first|rfl|(simp;done)|(simp_all;done)|omega))⟩,trivial⟩ (by kernel_rfl) (by kernel_rfl) trivial⟩
  ·try simp only[Q] at h2p
   refine rn0 (r1 rfl) (.eqd ?_)
   all_goals (first|rfl|(exfalso;simp_all;done))
theorem zdk (v:Val):∀(l:List Cl) (i:Int),((runV l v i).1 = -1∧(runV l v i).2=[]∧∀j,j<l.length→zcU (nth l j) v=false)∨
  ∃j:Nat,j<l.length∧(runV l v i).1=i+j∧(runV l v i).2=zc9 (zaj 10 (nth l j).pat v).1∧zcU (nth l j) v=true∧∀x,x<j→zcU (nth l x) v=false
 | [],i=> .inl ⟨rfl,rfl,fun j hj=>absurd hj (by simp)⟩
 |c::r,i=>by
  unfold runV
  cases hr:zcU c v with
  |true=>
   right
   rw[if_pos rfl]
   exact⟨0,by simp,by simp,rfl,hr,fun x hx=>absurd hx (by omega)⟩
  |false=>
   rw[if_neg (by simp)]
   rcases zdk v r (i+1) with ⟨h1,h2,h3⟩|⟨j,h1,h2,h3,h4,h5⟩
   ·refine .inl ⟨h1,h2,fun j hj=>?_⟩
    cases j with
    |zero=>exact hr
    |succ j=>exact h3 j (by simpa using hj)
   ·refine .inr ⟨j+1,by simpa using h1,by rw[h2];push_cast;omega,h3,h4,fun x hx=>?_⟩
    cases x with
    |zero=>exact hr
    |succ x=>exact h5 x (by omega)
theorem zoO (v:Val):∀(l:List Cl) (i:Int),((runV l v 0).1<0→(runV l v i).1 = -1)∧(0≤(runV l v 0).1→(runV l v i).1=(runV l v 0).1+i)∧(runV l v i).2=(runV l v 0).2:=by
 intro l i
 rcases zdk v l 0 with ⟨h1,h2,h3⟩|⟨j,h1,h2,h3,h4,h5⟩
 ·rcases zdk v l i with ⟨k1,k2,k3⟩|⟨j',k1,k2,k3,k4,k5⟩
  ·exact⟨fun _=>k1,fun h=>absurd h (by omega),by rw[k2,h2]⟩
  ·rw[h3 j' k1] at k4;cases k4
 ·rcases zdk v l i with ⟨k1,k2,k3⟩|⟨j',k1,k2,k3,k4,k5⟩
  ·rw[k3 j h1] at h4;cases h4
  ·have e:j=j':=by
    rcases Nat.lt_trichotomy j j' with hl|hl|hl
    ·rw[k5 j hl] at h4;cases h4
    ·exact hl
    ·rw[h5 j' hl] at k4;cases k4
   subst e
   exact⟨fun h=>absurd h (by omega),fun _=>by omega,by rw[k3,h3]⟩
theorem zhX {w:List Data}{a k:Int}{l:List Cl}{v:Val} (hr:RunOk w ⟨a,k⟩ l v) (i:Int):(runV l v i).2.length≤6∧∀x∈(runV l v i).2,x.val.ok:=by
 rcases zdk v l i with ⟨h1,h2,h3⟩|⟨j,h1,h2,h3,h4,h5⟩
 ·rw[h2];simp
 ·rw[h3]
  unfold zcU at h4
  rw[Bool.and_eq_true] at h4
  have h6:=ziL (hr j h1).1 (hr j h1).2 h4.1
  refine⟨by rw[zgP];exact h6,fun x hx=>?_⟩
  have:=(zcS 10 (hr j h1).1.shape (hr j h1).1.vok).1
  exact(this x ((zeq _).mem_iff.1 hx)).1
theorem zjC {w:List Data}{a k:Int}{l m:List Cl} (h:zax w ⟨a,k⟩ l=true) (hm:∀c∈m,clOk w ⟨a,k⟩ c=true) (hlen:m.length≤8):zax w ⟨a,k⟩ m=true:=by
 unfold zax at h ⊢
 rw[Bool.and_eq_true] at h
 rw[h.1,Bool.true_and,Bool.and_eq_true]
 refine⟨by simp;omega, ?_⟩
 rw[Bool.not_eq_true',List.any_eq_false]
 intro c hc
 rw[hm c hc];simp
theorem zn9 {w:List Data}{a k:Int}{l:List Cl} (h:zax w ⟨a,k⟩ l=true):∀c∈l,clOk w ⟨a,k⟩ c=true:=by
 unfold zax at h
 simp only[Bool.and_eq_true,Bool.not_eq_true',List.any_eq_false] at h
 intro c hc
 simpa using h.2.2 c hc
theorem zpG {v:Val}:zcU ⟨⟨1,0,0,0,0,[]⟩,⟨0,0,0⟩⟩ v=true∧(zaj 10 ⟨1,0,0,0,0,[]⟩ v).1=[]:=by
 have h:zaj 10 ⟨1,0,0,0,0,[]⟩ v=([],true):=zef (n:=9) rfl
 exact⟨by unfold zcU;rw[h];rfl,by rw[h]⟩
abbrev zhx (x:UInt8):List D:=[.int .u8 (x.toNat:Int)]
abbrev zaQ (b:Str):D:= .sl (b.map zhx)
abbrev rdB (b:Str) (p:Nat):Res:= .box [.d (zaQ b),.d (.i p)]
theorem zly (u:UInt8):0≤IntKind.i64.wrap (u.toNat:Int)∧IntKind.i64.wrap (u.toNat:Int)≤255:=by
 have h:u.toNat<256:=u.toNat_lt
 rw[zcp (by omega)]
 omega
def zfy (b:Str) (p:Nat):Int:=
 IntKind.i64.wrap ((nth b (p % b.length)).toNat:Int)*131+IntKind.i64.wrap ((nth b ((p*7+3) % b.length)).toNat:Int)*1117+((p:Int)+1-1)*29+((p:Int)+1-1) / ((b.map zhx).length:Int)*53
def zad (b:Str) (p:Nat) (n:Int):Int:=
 if n<1∨b.length=0 then 0
 else if p<b.length then IntKind.i64.wrap ((nth b p).toNat:Int) % n
 else xorV (zfy b p) (zfy b p / 64) % n
theorem zco {b:Str}{p:Nat}{n:Int} (h:1≤n):0≤zad b p n∧zad b p n<n:=by
 unfold zad
 split
 ·omega
 ·split
  ·exact⟨Int.emod_nonneg _ (by omega),Int.emod_lt_of_pos _ (by omega)⟩
  ·exact⟨Int.emod_nonneg _ (by omega),Int.emod_lt_of_pos _ (by omega)⟩
theorem zaE {b:Str}{p:Nat}{n:Int} (hb:b.length≤2000) (hp:p≤1000000000000) (hn:n≤1000000000000):
  FnD Tryz.prog 34 [.ref 900 0,.d (.i n)] [(900,some (rdB b p))] (.d (.i (zad b p n))) [(900,some (rdB b (p+1)))]:=by
 have w1:=zly (nth b (p % b.length))
 have w2:=zly (nth b ((p*7+3) % b.length))
 have w3:=zly (nth b p)
 have hlen:((b.map zhx).length:Int)=b.length:=by simp
 have d1:0≤((p:Int)+1-1) / ((b.map zhx).length:Int):=Int.ediv_nonneg (by omega) (by omega)
 have d2:((p:Int)+1-1) / ((b.map zhx).length:Int)≤(p:Int)+1-1:=Int.ediv_le_self _ (by omega)
 have hx:0≤zfy b p∧zfy b p≤100*1000000000000:=by unfold zfy;omega
 have hx2:=zry (m:=zfy b p) (n:=zfy b p / 64) (by omega) (by omega)
 have k1:(p:Int)+1-1=(p:Int):=by omega
 have hx3:=hx2
 have hx4:=hx
 unfold zfy at hx3 hx4
 refine bd Tryz.f34 99 [46,57,74,89,94,95,98] [] fun w0 F0 own kept hk=>?_
 refine ar ?_
 refine Walk.store ty3 .none rfl rfl rfl rfl rfl rfl (by simp) rfl ?_
 refine tv ?_
 refine sq (fun h1 h1p h1s=>?_) fun h1 h1p h1s=>?_
 ·try simp only[Q] at h1p
  refine sqT ?_
  refine rn [(900,some (rdB b (p+1)))] (r1 rfl) (.eqd ?_) ⟨rfl,rfl⟩ (SubO.get ⟨.inr (by rfl),⟨.inl rfl,trivial⟩⟩) (zaq rfl)
  all_goals (refine congrArg D.i ?_;unfold zad;first|(rw[if_pos (by omega)];done)|(rw[if_neg (by omega),if_pos (by omega)];done)|(rw[if_neg (by omega),if_neg (by omega)];rfl))
 ·try simp only[Q] at h1p
  refine sq (fun h3 h3p h3s=>?_) fun h3 h3p h3s=>?_
  ·try simp only[Q] at h3p
   refine rn [(900,some (rdB b (p+1)))] (r1 rfl) (.eqd ?_) ⟨rfl,rfl⟩ (SubO.get ⟨.inr (by rfl),⟨.inl rfl,trivial⟩⟩) (zaq rfl)
   all_goals (refine congrArg D.i ?_;unfold zad;first|(rw[if_pos (by omega)];done)|(rw[if_neg (by omega),if_pos (by omega)];done)|(rw[if_neg (by omega),if_neg (by omega)];rfl))
  ·try simp only[Q] at h3p
   refine ar ?_
   refine sq (fun h4 h4p h4s=>?_) fun h4 h4p h4s=>?_
   ·try simp only[Q] at h4p
    refine Walk.idx (i:=p) sl22 .none rfl rfl rfl (by omega) (zak (by omega)) rfl ?_
    refine evs [46,57,74,89,94,95,98] [] ?_
    refine Walk.conv (by rw[un5];rfl) un3 .none rfl rfl ?_
    refine evs [46,57,74,89,94,95,98] [] ?_
    refine Walk.remI .none rfl rfl rfl (by omega) ?_
    refine evs [46,57,74,89,94,95,98] [] ?_
    refine rn [(900,some (rdB b (p+1)))] (r1 rfl) (.eqd ?_) ⟨rfl,rfl⟩ (SubO.get ⟨.inr (by rfl),⟨.inl rfl,trivial⟩⟩) (zaq rfl)
    all_goals (refine congrArg D.i ?_;unfold zad;first|(rw[if_pos (by omega)];done)|(rw[if_neg (by omega),if_pos (by omega)];done)|(rw[if_neg (by omega),if_neg (by omega)];rfl))
   ·try simp only[Q] at h4p
    refine Walk.remI .none rfl rfl rfl (by omega) ?_
    refine Walk.idx (i:=p % b.length) sl22 .none rfl rfl rfl (by rw[k1,hlen];rfl) (zak (Nat.mod_lt _ (by omega))) rfl ?_
    refine evd [46,57,74,89,94,95,98] [] ?_
    refine Walk.conv (by rw[un5];rfl) un3 .none rfl rfl ?_
    refine evd [46,57,74,89,94,95,98] [] ?_
    refine ar ?_
    refine ar ?_
    refine ar ?_
    refine Walk.remI .none rfl rfl rfl (by omega) ?_
    refine Walk.idx (i:=(p*7+3) % b.length) sl22 .none rfl rfl rfl (by rw[k1,hlen];rfl) (zak (Nat.mod_lt _ (by omega))) rfl ?_
    refine evd [46,57,74,89,94,95,98] [] ?_
    refine Walk.conv (by rw[un5];rfl) un3 .none rfl rfl ?_
    refine evd [46,57,74,89,94,95,98] [] ?_
    refine ar ?_
    refine ar ?_
    refine ar ?_
    refine ar ?_
    refine Walk.quoI .none rfl rfl rfl (by omega) ?_
    refine evd [46,57,74,89,94,95,98] [] ?_
    refine ar ?_
    refine ar ?_
    refine dr ?_
    refine Walk.quoI .none rfl rfl rfl (by omega) ?_
    refine Walk.xorI .none rfl rfl rfl ?_
    refine evs [46,57,74,89,94,95,98] [] ?_
    refine Walk.remI .none rfl rfl rfl (by omega) ?_
    refine evs [46,57,74,89,94,95,98] [] ?_
    refine rn [(900,some (rdB b (p+1)))] (r1 rfl) (.eqd ?_) ⟨rfl,rfl⟩ (SubO.get ⟨.inr (by rfl),⟨.inl rfl,trivial⟩⟩) (zaq rfl)
    all_goals (refine congrArg D.i ?_;unfold zad;first|(rw[if_pos (by omega)];done)|(rw[if_neg (by omega),if_pos (by omega)];done)|(rw[if_neg (by omega),if_neg (by omega)];rfl))
def numV (b:Str) (p:Nat) (l:List Int):Int:=nth l (zad b p l.length).toNat
theorem zbo {b:Str}{p:Nat}{l:List Int} (hb:b.length≤2000) (hp:p≤1000000000000) (hl:1≤l.length) (hl2:l.length≤1000):
  FnD Tryz.prog 35 [.ref 900 0,.d (zcG l)] [(900,some (rdB b p))] (.d (.i (numV b p l))) [(900,some (rdB b (p+1)))]:=by
 have hv:=zco (b:=b) (p:=p) (n:=((l.map fun n=>[D.i n]).length:Int)) (by simp;omega)
 have hlen:((l.map fun n=>[D.i n]).length:Int)=l.length:=by simp
 refine bd Tryz.f35 12 [] [] fun w0 F0 own kept hk=>?_
 refine Walk.call (cr:=[]) zbW (zaE hb hp (by simp;omega)) rfl .none rfl rfl (LeL.refl _) ⟨rfl,trivial⟩ rfl rfl rfl ?_
 refine Walk.idx (i:=(zad b p ((l.map fun n=>[D.i n]).length:Int)).toNat) sl75 .none rfl rfl rfl (by omega) (zak (by omega)) rfl ?_
 refine ev ?_
 refine rn [(900,some (rdB b (p+1)))] (r1 rfl) (.eqd ?_) ⟨rfl,rfl⟩ (SubO.get ⟨.inr (by rfl),⟨.inl rfl,trivial⟩⟩) (zaq rfl)
 all_goals (refine congrArg D.i ?_;unfold numV;rw[hlen])
theorem zk9 {b:Str} (hb:b.length≤1000000000000):FnD Tryz.prog 14 [.d (zaQ b)] [] (.ref 900 0) [(900,some (rdB (b.take 2000) 0))]:=by
 refine bd Tryz.f14 11 [] [] fun w0 F0 own kept hk=>?_
 refine sq (fun h1 h1p h1s=>?_) fun h1 h1p h1s=>?_
 ·try simp only[Q] at h1p
  refine Walk.cut_h (b:=2000) sl22 .none rfl rfl rfl (by intro x hx;obtain⟨y,_,rfl⟩:=List.mem_map.1 hx;rfl) rfl rfl (by simp at *;omega) ?_
  refine ev ?_
  refine Walk.build st69 (ks:=[0]) (xs:=[_]) rfl rfl .none rfl rfl rfl ?_
  refine Walk.box (id:=900) .none rfl rfl rfl rfl rfl rfl rfl ?_
  refine ev ?_
  refine rn [(900,some (rdB (b.take 2000) 0))] (r1 rfl) (.refl _) ⟨rfl,rfl⟩ (SubH.get ⟨(by first|(simp[getH,rdB,zaQ,List.map_take];done)|(show some (Res.box _)=some (Res.box _);rw[List.take_of_length_le (by simp at *;omega)];rfl)),trivial⟩) (zaq rfl)
  all_goals (first|rfl|(simp[h1s,h1p];done)|(simp_all;done)|(simp_all;omega)|omega)
 ·try simp only[Q] at h1p
  refine Walk.build st69 (ks:=[0]) (xs:=[_]) rfl rfl .none rfl rfl rfl ?_
  refine Walk.box (id:=900) .none rfl rfl rfl rfl rfl rfl rfl ?_
  refine ev ?_
  refine rn [(900,some (rdB (b.take 2000) 0))] (r1 rfl) (.refl _) ⟨rfl,rfl⟩ (SubH.get ⟨(by first|(simp[getH,rdB,zaQ,List.map_take];done)|(show some (Res.box _)=some (Res.box _);rw[List.take_of_length_le (by simp at *;omega)];rfl)),trivial⟩) (zaq rfl)
  all_goals (first|rfl|(simp[h1s,h1p];done)|(simp_all;done)|(simp_all;omega)|omega)
def cutL (c:UInt8):Str→Str→List Str
 |cur,[]=>[cur]
 |cur,x::r=>if x=c then cur::cutL c [] r else cutL c (cur++[x]) r
theorem zdO (c:UInt8):∀(s cur:Str),(cutL c cur s).length≤s.length+1
 | [],cur=>by simp[cutL]
 |x::r,cur=>by
  simp only[cutL]
  split
  ·have:=zdO c r [];simp only[List.length_cons];omega
  ·have:=zdO c r (cur++[x]);simp only[List.length_cons];omega
theorem zhD (c:UInt8):∀(s cur:Str),1≤(cutL c cur s).length
 | [],cur=>by simp[cutL]
 |x::r,cur=>by
  simp only[cutL]
  split
  ·simp
  ·exact zhD c r (cur++[x])
theorem zhC (c:UInt8):∀(s cur:Str) (t:Str),t∈cutL c cur s→t.length≤cur.length+s.length
 | [],cur,t,h=>by simp only[cutL,List.mem_singleton] at h;subst h;simp
 |x::r,cur,t,h=>by
  simp only[cutL] at h
  split at h
  ·rcases List.mem_cons.1 h with rfl|h
   ·simp
   ·have:=zhC c r [] t h;simp only[List.length_cons,List.length_nil] at this ⊢;omega
  ·have:=zhC c r (cur++[x]) t h;simp only[List.length_append,List.length_cons,List.length_nil] at this ⊢;omega
theorem zgA {s:Str}{i:Nat} (h:i<s.length):s[i]?=some (nth s i):=by rw[za5 h];exact List.getElem?_eq_getElem h
theorem zjY {s:Str}{f i:Nat} (hf:f≤i) (h:i<s.length):(s.take (i+1)).drop f=(s.take i).drop f++[nth s i]:=by
 rw[List.take_add_one,List.getElem?_eq_getElem h,List.drop_append_of_le_length (by simp;omega),za5 h]
 rfl
theorem zbJ {s:Str}{f i:Nat}:(s.drop f).take (i-f)=(s.take i).drop f:=by rw[List.drop_take]
theorem zcd {s:Str}{c:UInt8} (hs:s.length≤1000000000000):FnD Tryz.prog 115 [.d (.str s),.d (.int .u8 (c.toNat:Int))] [] (.d (zeG (cutL c [] s))) []:=by
 have hu:∀a:UInt8,((a.toNat:Int)=(c.toNat:Int))↔a=c:=fun a=>by rw[Int.natCast_inj];exact UInt8.toNat_inj
 refine bd Tryz.f115 36 [] [] fun w0 F0 own kept hk=>?_
 refine Walk.sliceEmptyG 1 zbG .none rfl rfl ?_
 refine ev ?_
 refine CWp.loopX (ι:=Nat×Nat×List Str) hk (fun x=>[(7,.d (.i (x.1:Int))),(6,.d (.i (x.2.1:Int))),(5,.gl 1 (x.2.2.map fun n=>[D.str n]))]) [9,10,11,12,13,14,15,16,17,18,19,20,21,22,23,24,25,26,27,28,29,30,31,32,33,34] (fun x=>[(1,some (.tok ((x.2.2.map fun n=>[D.str n])).length 1))]) (fun x=>x.1≤s.length+1∧x.2.2.length≤x.1∧if x.1=s.length+1 then x.2.2=cutL c [] s else x.2.1≤x.1∧x.2.2++cutL c ((s.take x.1).drop x.2.1) (s.drop x.1)=cutL c [] s) (fun x=>s.length+1-x.1) (0,0,[]) ⟨by simp,by simp,by rw[if_neg (by simp)];simp⟩ ⟨⟨_,rfl,(LeA.eqi (by first|rfl|(split<;>first|rfl|(exfalso;simp_all;done)|(exfalso;simp_all;omega))|(split<;>first|(simp[zbJ];done)|(simp;done)|(exfalso;simp_all;done)|(exfalso;simp_all;omega))))⟩,⟨⟨_,rfl,(LeA.eqi (by first|rfl|(split<;>first|rfl|(exfalso;simp_all;done)|(exfalso;simp_all;omega))|(split<;>first|(simp[zbJ];done)|(simp;done)|(exfalso;simp_all;done)|(exfalso;simp_all;omega))))⟩,⟨⟨_,rfl,(LeA.glg (by first|rfl|(split<;>first|rfl|(exfalso;simp_all;done)|(exfalso;simp_all;omega))|(split<;>first|(simp[zbJ];done)|(simp;done)|(exfalso;simp_all;done)|(exfalso;simp_all;omega))))⟩,trivial⟩⟩⟩ ⟨zae (by first|rfl|(simp;done)|(simp;omega)|(first|rfl|(split<;>first|rfl|(exfalso;simp_all;done)|(exfalso;simp_all;omega))|(split<;>first|(simp[zbJ];done)|(simp;done)|(exfalso;simp_all;done)|(exfalso;simp_all;omega)))),trivial⟩ (fun x=>rfl) (fun x hg1=>?_)
 refine evc [] [] ?_
 refine sq (fun h1 h1p h1s=>?_) fun h1 h1p h1s=>?_
 ·try simp only[Q,hu] at h1p
  have hne:¬x.1=s.length+1:=(by omega)
  have hcond:=hg1.2.2
  rw[if_neg hne] at hcond
  have hle:=hcond.1
  refine sq (fun h2 h2p h2s=>?_) fun h2 h2p h2s=>?_
  ·try simp only[Q,hu] at h2p
   refine sqT ?_
   refine Walk.cutS_lh un9 .none rfl rfl rfl rfl rfl rfl (by omega) (by omega) ?_
   refine Walk.sliceLit zbG tz9 rfl (by decide) (ks:=[0]) (xs:=[_]) rfl rfl (by decide) (by decide) .none rfl rfl rfl rfl ?_
   refine Walk.append zbG zz9 rfl .none rfl rfl rfl rfl (zaP rfl (by first|rfl|(simp;done)|(simp;omega))) (by simp) (by simp;omega) (by simp;omega) ?_
   refine ev ?_
   refine ar ?_
   refine ar ?_
   refine Exists.intro (if x.1=s.length∨nth s x.1=c then (x.1+1,x.1+1,x.2.2++[(s.take x.1).drop x.2.1]) else (x.1+1,x.2.1,x.2.2)) ⟨(by
      have hne:¬x.1=s.length+1:=by omega
      rw[if_neg hne] at hg1
      obtain⟨g1,g2,g3,g4⟩:=hg1
      by_cases he:x.1=s.length
      ·rw[if_pos (.inl he)]
       refine⟨by dsimp only;omega,by simp;omega, ?_⟩
       dsimp only
       rw[if_pos (by omega),←g4,he,List.drop_length]
       rfl
      ·have hlt:x.1<s.length:=by omega
       rw[zaT hlt] at g4
       by_cases hc:nth s x.1=c
       ·rw[if_pos (.inr hc)]
        refine⟨by dsimp only;omega,by simp;omega, ?_⟩
        dsimp only
        rw[if_neg (by omega)]
        refine⟨by omega, ?_⟩
        rw[←g4,cutL,if_pos hc,List.append_assoc]
        simp
       ·rw[if_neg (by simp[he,hc])]
        refine⟨by dsimp only;omega,by dsimp only;omega, ?_⟩
        dsimp only
        rw[if_neg (by omega)]
        refine⟨by omega, ?_⟩
        rw[←g4,cutL,if_neg hc,zjY g3 hlt]),(by split<;>(dsimp only;omega)),Sub.x (by kernel_rfl) (by kernel_rfl) ⟨⟨_,rfl,(LeA.eqi (by first|rfl|(split<;>first|rfl|(exfalso;simp_all;done)|(exfalso;simp_all;omega))|(split<;>first|(simp[zbJ];done)|(simp;done)|(exfalso;simp_all;done)|(exfalso;simp_all;omega))))⟩,⟨⟨_,rfl,(LeA.eqi (by first|rfl|(split<;>first|rfl|(exfalso;simp_all;done)|(exfalso;simp_all;omega))|(split<;>first|(simp[zbJ];done)|(simp;done)|(exfalso;simp_all;done)|(exfalso;simp_all;omega))))⟩,⟨⟨_,rfl,(LeA.glg (by first|rfl|(split<;>first|rfl|(exfalso;simp_all;done)|(exfalso;simp_all;omega))|(split<;>first|(simp[zbJ];done)|(simp;done)|(exfalso;simp_all;done)|(exfalso;simp_all;omega))))⟩,trivial⟩⟩⟩ (by kernel_rfl) (by kernel_rfl) ⟨zae (by first|rfl|(simp;done)|(simp;omega)|(first|rfl|(split<;>first|rfl|(exfalso;simp_all;done)|(exfalso;simp_all;omega))|(split<;>first|(simp[zbJ];done)|(simp;done)|(exfalso;simp_all;done)|(exfalso;simp_all;omega)))),trivial⟩⟩
  ·try simp only[Q,hu] at h2p
   refine Walk.idxS un9 (.some rfl rfl h2) rfl rfl rfl rfl (zgA (by omega)) ?_
   refine evs [] [(19,false)] ?_ ⟨⟨_,rfl,h2⟩,trivial⟩
   refine sq (fun h4 h4p h4s=>?_) fun h4 h4p h4s=>?_
   ·try simp only[Q,hu] at h4p
    refine Walk.cutS_lh un9 .none rfl rfl rfl rfl rfl rfl (by omega) (by omega) ?_
    refine Walk.sliceLit zbG tz9 rfl (by decide) (ks:=[0]) (xs:=[_]) rfl rfl (by decide) (by decide) .none rfl rfl rfl rfl ?_
    refine Walk.append zbG zz9 rfl .none rfl rfl rfl rfl (zaP rfl (by first|rfl|(simp;done)|(simp;omega))) (by simp) (by simp;omega) (by simp;omega) ?_
    refine ev ?_
    refine ar ?_
    refine ar ?_
    refine Exists.intro (if x.1=s.length∨nth s x.1=c then (x.1+1,x.1+1,x.2.2++[(s.take x.1).drop x.2.1]) else (x.1+1,x.2.1,x.2.2)) ⟨(by
       have hne:¬x.1=s.length+1:=by omega
       rw[if_neg hne] at hg1
       obtain⟨g1,g2,g3,g4⟩:=hg1
       by_cases he:x.1=s.length
       ·rw[if_pos (.inl he)]
        refine⟨by dsimp only;omega,by simp;omega, ?_⟩
        dsimp only
        rw[if_pos (by omega),←g4,he,List.drop_length]
        rfl
       ·have hlt:x.1<s.length:=by omega
        rw[zaT hlt] at g4
        by_cases hc:nth s x.1=c
        ·rw[if_pos (.inr hc)]
         refine⟨by dsimp only;omega,by simp;omega, ?_⟩
         dsimp only
         rw[if_neg (by omega)]
         refine⟨by omega, ?_⟩
         rw[←g4,cutL,if_pos hc,List.append_assoc]
         simp
        ·rw[if_neg (by simp[he,hc])]
         refine⟨by dsimp only;omega,by dsimp only;omega, ?_⟩
         dsimp only
         rw[if_neg (by omega)]
         refine⟨by omega, ?_⟩
         rw[←g4,cutL,if_neg hc,zjY g3 hlt]),(by split<;>(dsimp only;omega)),Sub.x (by kernel_rfl) (by kernel_rfl) ⟨⟨_,rfl,(LeA.eqi (by first|rfl|(split<;>first|rfl|(exfalso;simp_all;done)|(exfalso;simp_all;omega))|(split<;>first|(simp[zbJ];done)|(simp;done)|(exfalso;simp_all;done)|(exfalso;simp_all;omega))))⟩,⟨⟨_,rfl,(LeA.eqi (by first|rfl|(split<;>first|rfl|(exfalso;simp_all;done)|(exfalso;simp_all;omega))|(split<;>first|(simp[zbJ];done)|(simp;done)|(exfalso;simp_all;done)|(exfalso;simp_all;omega))))⟩,⟨⟨_,rfl,(LeA.glg (by first|rfl|(split<;>first|rfl|(exfalso;simp_all;done)|(exfalso;simp_all;omega))|(split<;>first|(simp[zbJ];done)|(simp;done)|(exfalso;simp_all;done)|(exfalso;simp_all;omega))))⟩,trivial⟩⟩⟩ (by kernel_rfl) (by kernel_rfl) ⟨zae (by first|rfl|(simp;done)|(simp;omega)|(first|rfl|(split<;>first|rfl|(exfalso;simp_all;done)|(exfalso;simp_all;omega))|(split<;>first|(simp[zbJ];done)|(simp;done)|(exfalso;simp_all;done)|(exfalso;simp_all;omega)))),trivial⟩⟩
   ·try simp only[Q,hu] at h4p
    refine ar ?_
    refine Exists.intro (if x.1=s.length∨nth s x.1=c then (x.1+1,x.1+1,x.2.2++[(s.take x.1).drop x.2.1]) else (x.1+1,x.2.1,x.2.2)) ⟨(by
       have hne:¬x.1=s.length+1:=by omega
       rw[if_neg hne] at hg1
       obtain⟨g1,g2,g3,g4⟩:=hg1
       by_cases he:x.1=s.length
       ·rw[if_pos (.inl he)]
        refine⟨by dsimp only;omega,by simp;omega, ?_⟩
        dsimp only
        rw[if_pos (by omega),←g4,he,List.drop_length]
        rfl
       ·have hlt:x.1<s.length:=by omega
        rw[zaT hlt] at g4
        by_cases hc:nth s x.1=c
        ·rw[if_pos (.inr hc)]
         refine⟨by dsimp only;omega,by simp;omega, ?_⟩
         dsimp only
         rw[if_neg (by omega)]
         refine⟨by omega, ?_⟩
         rw[←g4,cutL,if_pos hc,List.append_assoc]
         simp
        ·rw[if_neg (by simp[he,hc])]
         refine⟨by dsimp only;omega,by dsimp only;omega, ?_⟩
         dsimp only
         rw[if_neg (by omega)]
         refine⟨by omega, ?_⟩
         rw[←g4,cutL,if_neg hc,zjY g3 hlt]),(by split<;>(dsimp only;omega)),Sub.x (by kernel_rfl) (by kernel_rfl) ⟨⟨_,rfl,(LeA.eqi (by first|rfl|(split<;>first|rfl|(exfalso;simp_all;done)|(exfalso;simp_all;omega))|(split<;>first|(simp[zbJ];done)|(simp;done)|(exfalso;simp_all;done)|(exfalso;simp_all;omega))))⟩,⟨⟨_,rfl,(LeA.eqi (by first|rfl|(split<;>first|rfl|(exfalso;simp_all;done)|(exfalso;simp_all;omega))|(split<;>first|(simp[zbJ];done)|(simp;done)|(exfalso;simp_all;done)|(exfalso;simp_all;omega))))⟩,⟨⟨_,rfl,(LeA.glg (by first|rfl|(split<;>first|rfl|(exfalso;simp_all;done)|(exfalso;simp_all;omega))|(split<;>first|(simp[zbJ];done)|(simp;done)|(exfalso;simp_all;done)|(exfalso;simp_all;omega))))⟩,trivial⟩⟩⟩ (by kernel_rfl) (by kernel_rfl) ⟨zae (by first|rfl|(simp;done)|(simp;omega)|(first|rfl|(split<;>first|rfl|(exfalso;simp_all;done)|(exfalso;simp_all;omega))|(split<;>first|(simp[zbJ];done)|(simp;done)|(exfalso;simp_all;done)|(exfalso;simp_all;omega)))),trivial⟩⟩
 ·try simp only[Q,hu] at h1p
  refine rn0 (r1 rfl) (.gld ?_)
  all_goals (have e:x.1=s.length+1:=(by omega);rw[if_pos e] at hg1;rw[hg1.2.2])
def zkK (names:List Str) (s:Str):Int:=if s=[73] then -1 else if s∈names then idxF (fun n=>decide (n=s)) names 0 else -2
theorem zlR {names:List Str}{s:Str} (hn:names.length≤1000000000000):FnD Tryz.prog 139 [.d (zeG names),.d (.str s)] [] (.d (.i (zkK names s))) []:=by
 refine bd Tryz.f139 21 [] [] fun w0 F0 own kept hk=>?_
 refine sq (fun h1 h1p h1s=>?_) fun h1 h1p h1s=>?_
 ·try simp only[Q] at h1p
  refine rn0 (r1 rfl) (.eqd ?_)
  all_goals (refine congrArg D.i ?_;unfold zkK;by_cases hz:s=[73]<;>by_cases hm:s∈names<;>simp only[hz,hm,if_true,if_false];all_goals first|rfl|omega|(exfalso;simp_all;done)|(exfalso;apply hm;subst h3p;rw[←hg1.1];simp;done)|(exfalso;apply hg1.2.1;rw[←hg1.1,List.append_nil] at hm;exact hm)|(rw[←hg1.2.2];simp_all[idxF];done)|(exfalso;rw[←hg1.1] at hm;simp_all;done))
 ·try simp only[Q] at h1p
  refine CWp.loopX (ι:=List (Str)×List (Str)) hk (fun x=>[(5,.d (.i (x.1.length:Int)))]) [4,8,9,10,11,12,13,14,15,16,17,18,19,20] (fun x=>[]) (fun x=>x.1++x.2=names∧s∉x.1∧idxF (fun n=>decide (n=s)) x.2 x.1.length=idxF (fun n=>decide (n=s)) names 0) (fun x=>x.2.length) ([],names) ⟨by simp,by simp,rfl⟩ ⟨⟨_,rfl,(LeA.eqi (by first|rfl|(simp;done)|(simp_all;done)|omega))⟩,trivial⟩ trivial (fun x=>rfl) (fun x hg1=>?_)
  obtain⟨pre,rest⟩:=x
  dsimp only at hg1 ⊢
  refine evc [] [] ?_
  refine sq (fun h2 h2p h2s=>?_) fun h2 h2p h2s=>?_
  ·try simp only[Q] at h2p
   rcases rest with _|⟨y,rest⟩
   ·exfalso;simp_all
   refine Walk.idx zbG .none rfl rfl rfl rfl (zaL hg1.1) rfl ?_
   refine ev ?_
   refine sq (fun h3 h3p h3s=>?_) fun h3 h3p h3s=>?_
   ·try simp only[Q] at h3p
    refine rn0 (r1 rfl) (.eqd ?_)
    all_goals (refine congrArg D.i ?_;unfold zkK;by_cases hz:s=[73]<;>by_cases hm:s∈names<;>simp only[hz,hm,if_true,if_false];all_goals first|rfl|omega|(exfalso;simp_all;done)|(exfalso;apply hm;subst h3p;rw[←hg1.1];simp;done)|(exfalso;apply hg1.2.1;rw[←hg1.1,List.append_nil] at hm;exact hm)|(rw[←hg1.2.2];simp_all[idxF];done)|(exfalso;rw[←hg1.1] at hm;simp_all;done))
   ·try simp only[Q] at h3p
    refine ar ?_
    refine Exists.intro ((pre++[y],rest)) ⟨⟨(by have hz:=hg1.1;rw[←hz];simp),⟨(by have h1:=hg1.2.1;simp_all[eq_comm]),(by rw[←hg1.2.2];simp_all[idxF])⟩⟩,(by simp),Sub.x (by kernel_rfl) (by kernel_rfl) ⟨⟨_,rfl,(LeA.eqi (by first|rfl|(simp;done)|(simp_all;done)|omega))⟩,trivial⟩ (by kernel_rfl) (by kernel_rfl) trivial⟩
  ·try simp only[Q] at h2p
   have hrest:rest=[]:=by
    rcases rest with _|⟨a,b⟩
    ·rfl
    ·exfalso;have hz:=congrArg List.length (hg1.1);simp only[List.length_append,List.length_cons,List.length_map] at hz;omega
   subst hrest
   refine rn0 (r1 rfl) (.eqd ?_)
   all_goals (refine congrArg D.i ?_;unfold zkK;by_cases hz:s=[73]<;>by_cases hm:s∈names<;>simp only[hz,hm,if_true,if_false];all_goals first|rfl|omega|(exfalso;simp_all;done)|(exfalso;apply hm;subst h3p;rw[←hg1.1];simp;done)|(exfalso;apply hg1.2.1;rw[←hg1.1,List.append_nil] at hm;exact hm)|(rw[←hg1.2.2];simp_all[idxF];done)|(exfalso;rw[←hg1.1] at hm;simp_all;done))
def zcH (names:List Str) (s:Str):Ty:=
 if s=[] then ⟨-2,0⟩
 else ⟨zkK names (s.take 1),if s.drop 1=[42] then -1 else if s.length=2∧48≤(nth s 1).toNat∧(nth s 1).toNat≤57 then ((nth s 1).toNat:Int)-48 else 0⟩
theorem zd7 {b:UInt8} (h1:48≤b.toNat) (h2:b.toNat≤57):IntKind.i64.wrap (IntKind.u8.wrap ((b.toNat:Int)-48))=(b.toNat:Int)-48:=by
 rw[zrw,zcp (by omega)];omega
theorem zfd {names:List Str}{s:Str} (hn:names.length≤1000000000000) (hs:s.length≤1000000000000):
  FnD Tryz.prog 135 [.d (zeG names),.d (.str s)] [] (.agg [.d (.i (zcH names s).data),.d (.i (zcH names s).index)]) []:=by
 have hlen:s≠[]→1≤s.length:=fun h=>by rcases s with _|⟨a,r⟩;exact absurd rfl h;simp
 refine bd Tryz.f135 39 [35] [] fun w0 F0 own kept hk=>?_
 refine Walk.alloc (id:=3004) tz25 rfl .none rfl rfl rfl rfl ?_
 refine tv ?_
 refine sq (fun h1 h1p h1s=>?_) fun h1 h1p h1s=>?_
 ·try simp only[Q] at h1p
  refine Walk.build st25 (ks:=[0]) (xs:=[_]) rfl rfl .none rfl rfl rfl ?_
  refine Walk.store ty25 .none rfl rfl rfl rfl rfl rfl (by simp) rfl ?_
  refine tv ?_
  refine rn0 (.cons (.cellA ty25 rfl rfl rfl) .nil) (.agg (.cons (.eqd ?_) (.cons (.eqd ?_) .nil)))
  all_goals (unfold zcH;first|rfl|(rw[zd7 (b:=nth s 1) (by omega) (by omega),if_neg h1p];dsimp only;rw[if_neg h2p,if_pos ⟨by omega,by omega,by omega⟩];done)|(rw[if_pos h1p];done)|(rw[if_neg h1p];done)|(rw[if_neg h1p];dsimp only;rw[if_pos h2p];done)|(rw[if_neg h1p];dsimp only;rw[if_neg h2p,if_neg (fun hh=>by omega)];done)|(simp_all;done))
 ·try simp only[Q] at h1p
  refine Walk.cutS_h (b:=1) un9 .none rfl rfl rfl rfl (by have:=hlen (by simp_all);omega) ?_
  refine Walk.call (cr:=[]) zrM (zlR (names:=names) (s:=s.take 1) hn) rfl .none rfl rfl (LeL.refl _) trivial rfl rfl rfl ?_
  refine Walk.build st25 (ks:=[0]) (xs:=[_]) rfl rfl .none rfl rfl rfl ?_
  refine Walk.alloc (id:=3005) tz25 rfl .none rfl rfl rfl rfl ?_
  refine Walk.store ty25 .none rfl rfl rfl rfl rfl rfl (by simp) rfl ?_
  refine tv ?_
  refine Walk.cutS_l (b:=1) un9 .none rfl rfl rfl rfl (by have:=hlen (by simp_all);omega) ?_
  refine evs [35] [] ?_
  refine sq (fun h2 h2p h2s=>?_) fun h2 h2p h2s=>?_
  ·try simp only[Q] at h2p
   refine Walk.store ty3 .none rfl rfl rfl rfl rfl rfl (by simp) rfl ?_
   refine tv ?_
   refine Walk.store ty25 .none rfl rfl rfl rfl rfl rfl (by simp) rfl ?_
   refine tv ?_
   refine rn0 (.cons (.cellA ty25 rfl rfl rfl) .nil) (.agg (.cons (.eqd ?_) (.cons (.eqd ?_) .nil)))
   all_goals (unfold zcH;first|rfl|(rw[zd7 (b:=nth s 1) (by omega) (by omega),if_neg h1p];dsimp only;rw[if_neg h2p,if_pos ⟨by omega,by omega,by omega⟩];done)|(rw[if_pos h1p];done)|(rw[if_neg h1p];done)|(rw[if_neg h1p];dsimp only;rw[if_pos h2p];done)|(rw[if_neg h1p];dsimp only;rw[if_neg h2p,if_neg (fun hh=>by omega)];done)|(simp_all;done))
  ·try simp only[Q] at h2p
   refine sq (fun h3 h3p h3s=>?_) fun h3 h3p h3s=>?_
   ·try simp only[Q] at h3p
    refine Walk.idxS (i:=1) un9 (.some rfl rfl h3) rfl rfl rfl rfl (zgA (by simp_all;omega)) ?_
    refine evs [35] [(23,true)] ?_ ⟨⟨_,rfl,h3⟩,trivial⟩
    refine sq (fun h4 h4p h4s=>?_) fun h4 h4p h4s=>?_
    ·try simp only[Q] at h4p
     refine Walk.idxS (i:=1) un9 (.some rfl rfl h4) rfl rfl rfl rfl (zgA (by simp_all;omega)) ?_
     refine evs [35] [(28,true)] ?_ ⟨⟨_,rfl,h4⟩,trivial⟩
     refine sq (fun h5 h5p h5s=>?_) fun h5 h5p h5s=>?_
     ·try simp only[Q] at h5p
      refine Walk.idxS (i:=1) un9 .none rfl rfl rfl rfl (zgA (by simp_all;omega)) ?_
      refine Walk.subW .none rfl rfl rfl ?_
      refine Walk.conv (by rw[un5];rfl) un3 .none rfl rfl ?_
      refine evs [35] [] ?_
      refine Walk.store ty3 .none rfl rfl rfl rfl rfl rfl (by simp) rfl ?_
      refine tv ?_
      refine Walk.store ty25 .none rfl rfl rfl rfl rfl rfl (by simp) rfl ?_
      refine tv ?_
      refine rn0 (.cons (.cellA ty25 rfl rfl rfl) .nil) (.agg (.cons (.eqd ?_) (.cons (.eqd ?_) .nil)))
      all_goals (unfold zcH;first|rfl|(rw[zd7 (b:=nth s 1) (by omega) (by omega),if_neg h1p];dsimp only;rw[if_neg h2p,if_pos ⟨by omega,by omega,by omega⟩];done)|(rw[if_pos h1p];done)|(rw[if_neg h1p];done)|(rw[if_neg h1p];dsimp only;rw[if_pos h2p];done)|(rw[if_neg h1p];dsimp only;rw[if_neg h2p,if_neg (fun hh=>by omega)];done)|(simp_all;done))
     ·try simp only[Q] at h5p
      refine Walk.store ty25 .none rfl rfl rfl rfl rfl rfl (by simp) rfl ?_
      refine tv ?_
      refine rn0 (.cons (.cellA ty25 rfl rfl rfl) .nil) (.agg (.cons (.eqd ?_) (.cons (.eqd ?_) .nil)))
      all_goals (unfold zcH;first|rfl|(rw[zd7 (b:=nth s 1) (by omega) (by omega),if_neg h1p];dsimp only;rw[if_neg h2p,if_pos ⟨by omega,by omega,by omega⟩];done)|(rw[if_pos h1p];done)|(rw[if_neg h1p];done)|(rw[if_neg h1p];dsimp only;rw[if_pos h2p];done)|(rw[if_neg h1p];dsimp only;rw[if_neg h2p,if_neg (fun hh=>by omega)];done)|(simp_all;done))
    ·try simp only[Q] at h4p
     refine sqF ?_
     refine Walk.store ty25 .none rfl rfl rfl rfl rfl rfl (by simp) rfl ?_
     refine tv ?_
     refine rn0 (.cons (.cellA ty25 rfl rfl rfl) .nil) (.agg (.cons (.eqd ?_) (.cons (.eqd ?_) .nil)))
     all_goals (unfold zcH;first|rfl|(rw[zd7 (b:=nth s 1) (by omega) (by omega),if_neg h1p];dsimp only;rw[if_neg h2p,if_pos ⟨by omega,by omega,by omega⟩];done)|(rw[if_pos h1p];done)|(rw[if_neg h1p];done)|(rw[if_neg h1p];dsimp only;rw[if_pos h2p];done)|(rw[if_neg h1p];dsimp only;rw[if_neg h2p,if_neg (fun hh=>by omega)];done)|(simp_all;done))
   ·try simp only[Q] at h3p
    refine sqF ?_
    refine sqF ?_
    refine Walk.store ty25 .none rfl rfl rfl rfl rfl rfl (by simp) rfl ?_
    refine tv ?_
    refine rn0 (.cons (.cellA ty25 rfl rfl rfl) .nil) (.agg (.cons (.eqd ?_) (.cons (.eqd ?_) .nil)))
    all_goals (unfold zcH;first|rfl|(rw[zd7 (b:=nth s 1) (by omega) (by omega),if_neg h1p];dsimp only;rw[if_neg h2p,if_pos ⟨by omega,by omega,by omega⟩];done)|(rw[if_pos h1p];done)|(rw[if_neg h1p];done)|(rw[if_neg h1p];dsimp only;rw[if_pos h2p];done)|(rw[if_neg h1p];dsimp only;rw[if_neg h2p,if_neg (fun hh=>by omega)];done)|(simp_all;done))
def znb (s:Str):Prop:=2<s.length∧nth s (s.length-2)=58
instance (s:Str):Decidable (znb s):=inferInstanceAs (Decidable (_∧_))
def zdN (names:List Str) (ix:Int) (s:Str):Ctor:=
 let parts:=cutL 40 [] s
 ⟨nth parts 0,if parts.length<2∨(nth parts 1).length=0 then [] else ((cutL 44 [] ((nth parts 1).take ((nth parts 1).length-1))).take 4).map (zcH names),ix⟩
def zbC (names:List Str) (s:Str):Ctor:=
 if znb s then zdN names (((nth s (s.length-1)).toNat:Int)-48) (s.take (s.length-2)) else zdN names 0 s
theorem zcO {α β:Type} [Inhabited α]{f:α→β}{l:List α}{i:Nat} (h:i<l.length):(l.map f).take (i+1)=(l.map f).take i++[f (nth l i)]:=by
 rw[List.take_add_one,List.getElem?_map,List.getElem?_eq_getElem h]
 simp[nth,List.getD,h]
theorem zeL {α:Type}{l:List α}{i:Nat} (h:i=4∨(i≤4∧l.length≤i)):l.take i=l.take 4:=by
 rcases h with rfl|⟨h1,h2⟩
 ·rfl
 ·rw[List.take_of_length_le h2,List.take_of_length_le (by omega)]
theorem zgV {a b:UInt8}:((a.toNat:Int)=(b.toNat:Int))↔a=b:=by rw[Int.natCast_inj];exact UInt8.toNat_inj
theorem zp2 (a:UInt8):IntKind.i64.wrap (a.toNat:Int)=(a.toNat:Int):=by have:=a.toNat_lt;exact zcp (by omega)
theorem zdP {c:UInt8}{s:Str}{i:Nat} (h:i<(cutL c [] s).length):(nth (cutL c [] s) i).length≤s.length:=by
 have:=zhC c s [] _ (zai h);simpa using this
theorem zil {names:List Str}{s:Str} (hn:names.length≤1000000000000) (hs:s.length≤1000000):
  FnD Tryz.prog 116 [.d (zeG names),.d (.str s)] [] (.agg [.d (.str (zbC names s).name),.d (zcf (zbC names s).args),.d (.i (zbC names s).index)]) []:=by
 have hwb:=zp2 (nth s (s.length-1))
 have hwl:=(nth s (s.length-1)).toNat_lt
 by_cases hc:znb s
 ·have hc1:=hc.1
  have hct:(s.take (s.length-2)).length=s.length-2:=by rw[List.length_take];omega
  have hcl:=zdO 40 (s.take (s.length-2)) []
  have hcp:=zhD 40 (s.take (s.length-2)) []
  have hn1:=fun h=>zdP (c:=40) (s:=s.take (s.length-2)) (i:=1) h
  have hal:=zdO 44 ((nth (cutL 40 [] (s.take (s.length-2))) 1).take ((nth (cutL 40 [] (s.take (s.length-2))) 1).length-1)) []
  refine bd Tryz.f116 83 [] [2,7] fun w0 F0 own kept hk=>?_
  refine Walk.alloc (id:=3004) zf6 rfl .none rfl rfl rfl rfl ?_
  refine tv ?_
  refine Walk.build zqZ (ks:=[]) (xs:=[]) rfl rfl .none rfl rfl rfl ?_
  refine Walk.alloc (id:=3005) zf6 rfl .none rfl rfl rfl rfl ?_
  refine Walk.store zcN .none rfl rfl rfl rfl rfl rfl (by simp) rfl ?_
  refine tv ?_
  refine CWp.regionJ ?_
  refine WRest.join 11 [(20,.d (.bool (true)))] [10,11,12,13,14,15,16,17,18,19] ?_ ?_
  ·
   refine ev ?_
   refine sq (fun h1 h1p h1s=>?_) fun h1 h1p h1s=>?_
   ·try simp only[Q,List.length_take] at h1p
    refine ar ?_
    refine Walk.idxS (i:=s.length-2) un9 (.some rfl rfl h1) rfl rfl rfl (by omega) (zgA (by omega)) ?_
    refine evs [] [(13,true)] ?_ ⟨⟨_,rfl,h1⟩,trivial⟩
    exact jn rfl (LeA.eqb (by first|rfl|(exfalso;omega)|(exact decide_eq_true (congrArg (fun z:UInt8=>(z.toNat:Int)) hc.2))|(exact decide_eq_false (fun hh=>hc ⟨by omega,(zgV (b:=58)).1 hh⟩))|(refine(decide_eq_true ?_).symm;omega)|(refine decide_eq_decide.2 ?_;omega)))
   ·try simp only[Q,List.length_take] at h1p
    exact jn rfl (LeA.eqb (by first|rfl|(exfalso;omega)|(exact decide_eq_true (congrArg (fun z:UInt8=>(z.toNat:Int)) hc.2))|(exact decide_eq_false (fun hh=>hc ⟨by omega,(zgV (b:=58)).1 hh⟩))|(refine(decide_eq_true ?_).symm;omega)|(refine decide_eq_decide.2 ?_;omega)))
  refine WRest.done ?_
  refine tv ?_
  refine sq (fun h2 h2p h2s=>?_) fun h2 h2p h2s=>?_
  ·try simp only[Q,List.length_take] at h2p
   refine ar ?_
   refine Walk.idxS (i:=s.length-1) un9 .none rfl rfl rfl (by omega) (zgA (by omega)) ?_
   refine Walk.conv (by rw[un5];rfl) un3 .none rfl rfl ?_
   refine ev ?_
   refine ar ?_
   refine Walk.store ty3 .none rfl rfl rfl rfl rfl rfl (by simp) rfl ?_
   refine tv ?_
   refine ar ?_
   refine Walk.cutS_h (b:=s.length-2) un9 .none rfl rfl rfl (by omega) (by omega) ?_
   refine ev ?_
   refine Walk.call (cr:=[]) zfA (zcd (s:=s.take (s.length-2)) (c:=40) (by first|omega|(simp;omega))) rfl .none rfl rfl (LeL.refl _) trivial rfl rfl rfl ?_
   refine ev ?_
   refine Walk.idx (i:=0) zbG .none rfl rfl rfl rfl (zak (by omega)) rfl ?_
   refine ev ?_
   refine Walk.store ty9 .none rfl rfl rfl rfl rfl rfl (by simp) rfl ?_
   refine tv ?_
   refine CWp.regionJ ?_
   refine WRest.join 10 [(49,.d (.bool (decide ((cutL 40 [] (s.take (s.length-2))).length<2∨(nth (cutL 40 [] (s.take (s.length-2))) 1).length=0))))] [40,41,42,43,44,45,46,47,48] ?_ ?_
   ·
    refine ev ?_
    refine sq (fun h3 h3p h3s=>?_) fun h3 h3p h3s=>?_
    ·try simp only[Q,List.length_take] at h3p
     exact jn rfl (LeA.eqb (by first|rfl|(exfalso;omega)|(exact decide_eq_true (congrArg (fun z:UInt8=>(z.toNat:Int)) hc.2))|(exact decide_eq_false (fun hh=>hc ⟨by omega,(zgV (b:=58)).1 hh⟩))|(refine(decide_eq_true ?_).symm;omega)|(refine decide_eq_decide.2 ?_;omega)))
    ·try simp only[Q,List.length_take] at h3p
     refine Walk.idx (i:=1) zbG (.some rfl rfl h3) rfl rfl rfl rfl (zak (by omega)) rfl ?_
     refine evs [] [(43,false)] ?_ ⟨⟨_,rfl,h3⟩,trivial⟩
     exact jn rfl (LeA.eqb (by first|rfl|(exfalso;omega)|(exact decide_eq_true (congrArg (fun z:UInt8=>(z.toNat:Int)) hc.2))|(exact decide_eq_false (fun hh=>hc ⟨by omega,(zgV (b:=58)).1 hh⟩))|(refine(decide_eq_true ?_).symm;omega)|(refine decide_eq_decide.2 ?_;omega)))
   refine WRest.done ?_
   refine tv ?_
   refine sq (fun h4 h4p h4s=>?_) fun h4 h4p h4s=>?_
   ·try simp only[Q,List.length_take] at h4p
    refine Walk.store zcN .none rfl rfl rfl rfl rfl rfl (by simp) rfl ?_
    refine tv ?_
    refine rn0 (.cons (.cellA zcN rfl rfl rfl) .nil) (.agg (.cons (.eqd ?_) (.cons (.nild ?_) (.cons (.eqd ?_) .nil))))
    all_goals (unfold zbC;rw[if_pos hc];first|rfl|(rw[hwb];done)|(rw[hwb];rfl)|(unfold zdN;dsimp only;by_cases hq:(cutL 40 [] (s.take (s.length-2))).length<2∨(nth (cutL 40 [] (s.take (s.length-2))) 1).length=0;all_goals first|(exfalso;exact(of_decide_eq_false h4) hq)|(exfalso;exact hq (of_decide_eq_true h4))|(rw[if_pos hq];done)|(rw[if_pos hq];rfl)|(rw[if_neg hq,←List.map_take,zeL (by omega)];done)))
   ·try simp only[Q,List.length_take] at h4p
    refine Walk.idx (i:=1) zbG .none rfl rfl rfl rfl (zak (by omega)) rfl ?_
    refine evd [] [] ?_
    refine Walk.idx (i:=1) zbG .none rfl rfl rfl rfl (zak (by omega)) rfl ?_
    refine evd [] [] ?_
    refine ar ?_
    refine Walk.cutS_h (b:=(nth (cutL 40 [] (s.take (s.length-2))) 1).length-1) un9 .none rfl rfl rfl (by omega) (by omega) ?_
    refine Walk.call (cr:=[]) zfA (zcd (s:=(nth (cutL 40 [] (s.take (s.length-2))) 1).take ((nth (cutL 40 [] (s.take (s.length-2))) 1).length-1)) (c:=44) (by simp;omega)) rfl .none rfl rfl (LeL.refl _) trivial rfl rfl rfl ?_
    refine evd [] [] ?_
    refine dr ?_
    refine CWp.tokB 3005 1 1 2 rfl rfl rfl rfl ?_
    refine CWp.loopX (ι:=Nat) hk (fun i=>[(8,.d (.i (i:Int)))]) [61,62,63,64,65,66,67,68,69,70,71,72,73,74,75,76,77,78,79,80,81] (fun i=>[(3005,some (.box [.d (.str (nth (cutL 40 [] (s.take (s.length-2))) 0)),.gl 1 (((((cutL 44 [] ((nth (cutL 40 [] (s.take (s.length-2))) 1).take ((nth (cutL 40 [] (s.take (s.length-2))) 1).length-1))).map (zcH names)).take i)).map Ty.c),.d (.i (((nth s (s.length-1)).toNat:Int)-48))])),(1,some (.tok (((((cutL 44 [] ((nth (cutL 40 [] (s.take (s.length-2))) 1).take ((nth (cutL 40 [] (s.take (s.length-2))) 1).length-1))).map (zcH names)).take i)).map Ty.c).length 2))]) (fun i=>i≤4∧i≤(cutL 44 [] ((nth (cutL 40 [] (s.take (s.length-2))) 1).take ((nth (cutL 40 [] (s.take (s.length-2))) 1).length-1))).length) (fun i=>4-i) 0 ⟨by omega,by omega⟩ ⟨⟨_,rfl,(LeA.eqi (by first|rfl|(simp;done)|(simp_all;done)|omega))⟩,trivial⟩ ⟨(by first|rfl|(simp[getH];done)|(show some (Res.box _)=some (Res.box _);rw[hwb];rfl)|(show some (Res.box _)=some (Res.box _);rw[zcO (by omega)];simp;done)),⟨zae (by first|rfl|(simp;done)|(simp;omega)|(first|rfl|(simp;done)|(simp_all;done)|omega)),trivial⟩⟩ (fun x=>rfl) (fun i hg1=>?_)
    refine evc [] [2,7] ?_
    refine sq (fun h5 h5p h5s=>?_) fun h5 h5p h5s=>?_
    ·try simp only[Q,List.length_take] at h5p
     refine sq (fun h6 h6p h6s=>?_) fun h6 h6p h6s=>?_
     ·try simp only[Q,List.length_take] at h6p
      refine Walk.idx zbG .none rfl rfl rfl rfl (zak (by omega)) rfl ?_
      refine evd [] [] ?_
      refine Walk.call (cr:=[]) zo5 (zfd (names:=names) (s:=nth (cutL 44 [] ((nth (cutL 40 [] (s.take (s.length-2))) 1).take ((nth (cutL 40 [] (s.take (s.length-2))) 1).length-1))) i) hn (by have:=zdP (c:=44) (s:=(nth (cutL 40 [] (s.take (s.length-2))) 1).take ((nth (cutL 40 [] (s.take (s.length-2))) 1).length-1)) (i:=i) (by omega);simp at this;omega)) rfl .none rfl rfl (LeL.refl _) trivial rfl rfl rfl ?_
      refine Walk.sliceLit zaY tz25 rfl (by decide) (ks:=[0]) (xs:=[_]) rfl rfl (by decide) (by decide) .none rfl rfl rfl rfl ?_
      refine Walk.append zaY zz25 rfl .none rfl rfl rfl rfl (zaP rfl (by first|rfl|(simp;done)|(simp;omega))) (by simp) (by simp;omega) (by simp;omega) ?_
      refine evd [] [] ?_
      refine Walk.store zq1 .none rfl rfl rfl rfl rfl rfl (by simp) rfl ?_
      refine dr ?_
      refine ar ?_
      refine Exists.intro (i+1) ⟨⟨by omega,by omega⟩,(by omega),Sub.x (by kernel_rfl) (by kernel_rfl) ⟨⟨_,rfl,(LeA.eqi (by first|rfl|(simp;done)|(simp_all;done)|omega))⟩,trivial⟩ (by kernel_rfl) (by kernel_rfl) ⟨(by first|rfl|(simp[getH];done)|(show some (Res.box _)=some (Res.box _);rw[hwb];rfl)|(show some (Res.box _)=some (Res.box _);rw[zcO (by omega)];simp;done)),⟨zae (by first|rfl|(simp;done)|(simp;omega)|(first|rfl|(simp;done)|(simp_all;done)|omega)),trivial⟩⟩⟩
     ·try simp only[Q,List.length_take] at h6p
      refine Walk.store zcN .none rfl rfl rfl rfl rfl rfl (by simp) rfl ?_
      refine tv ?_
      refine rn0 (.cons (.cellA zcN rfl rfl rfl) .nil) (.agg (.cons (.eqd ?_) (.cons (.gld ?_) (.cons (.eqd ?_) .nil))))
      all_goals (unfold zbC;rw[if_pos hc];first|rfl|(rw[hwb];done)|(rw[hwb];rfl)|(unfold zdN;dsimp only;by_cases hq:(cutL 40 [] (s.take (s.length-2))).length<2∨(nth (cutL 40 [] (s.take (s.length-2))) 1).length=0;all_goals first|(exfalso;exact(of_decide_eq_false h4) hq)|(exfalso;exact hq (of_decide_eq_true h4))|(rw[if_pos hq];done)|(rw[if_pos hq];rfl)|(rw[if_neg hq,←List.map_take,zeL (by omega)];done)))
    ·try simp only[Q,List.length_take] at h5p
     refine sqF ?_
     refine Walk.store zcN .none rfl rfl rfl rfl rfl rfl (by simp) rfl ?_
     refine tv ?_
     refine rn0 (.cons (.cellA zcN rfl rfl rfl) .nil) (.agg (.cons (.eqd ?_) (.cons (.gld ?_) (.cons (.eqd ?_) .nil))))
     all_goals (unfold zbC;rw[if_pos hc];first|rfl|(rw[hwb];done)|(rw[hwb];rfl)|(unfold zdN;dsimp only;by_cases hq:(cutL 40 [] (s.take (s.length-2))).length<2∨(nth (cutL 40 [] (s.take (s.length-2))) 1).length=0;all_goals first|(exfalso;exact(of_decide_eq_false h4) hq)|(exfalso;exact hq (of_decide_eq_true h4))|(rw[if_pos hq];done)|(rw[if_pos hq];rfl)|(rw[if_neg hq,←List.map_take,zeL (by omega)];done)))
  ·try simp only[Q,List.length_take] at h2p
   exact absurd h2 (by simp)
 ·skip
  have hcl:=zdO 40 (s) []
  have hcp:=zhD 40 (s) []
  have hn1:=fun h=>zdP (c:=40) (s:=s) (i:=1) h
  have hal:=zdO 44 ((nth (cutL 40 [] (s)) 1).take ((nth (cutL 40 [] (s)) 1).length-1)) []
  refine bd Tryz.f116 83 [] [2,7] fun w0 F0 own kept hk=>?_
  refine Walk.alloc (id:=3004) zf6 rfl .none rfl rfl rfl rfl ?_
  refine tv ?_
  refine Walk.build zqZ (ks:=[]) (xs:=[]) rfl rfl .none rfl rfl rfl ?_
  refine Walk.alloc (id:=3005) zf6 rfl .none rfl rfl rfl rfl ?_
  refine Walk.store zcN .none rfl rfl rfl rfl rfl rfl (by simp) rfl ?_
  refine tv ?_
  refine CWp.regionJ ?_
  refine WRest.join 11 [(20,.d (.bool (false)))] [10,11,12,13,14,15,16,17,18,19] ?_ ?_
  ·
   refine ev ?_
   refine sq (fun h1 h1p h1s=>?_) fun h1 h1p h1s=>?_
   ·try simp only[Q,List.length_take] at h1p
    refine ar ?_
    refine Walk.idxS (i:=s.length-2) un9 (.some rfl rfl h1) rfl rfl rfl (by omega) (zgA (by omega)) ?_
    refine evs [] [(13,true)] ?_ ⟨⟨_,rfl,h1⟩,trivial⟩
    exact jn rfl (LeA.eqb (by first|rfl|(exfalso;omega)|(exact decide_eq_true (congrArg (fun z:UInt8=>(z.toNat:Int)) hc.2))|(exact decide_eq_false (fun hh=>hc ⟨by omega,(zgV (b:=58)).1 hh⟩))|(refine(decide_eq_true ?_).symm;omega)|(refine decide_eq_decide.2 ?_;omega)))
   ·try simp only[Q,List.length_take] at h1p
    exact jn rfl (LeA.eqb (by first|rfl|(exfalso;omega)|(exact decide_eq_true (congrArg (fun z:UInt8=>(z.toNat:Int)) hc.2))|(exact decide_eq_false (fun hh=>hc ⟨by omega,(zgV (b:=58)).1 hh⟩))|(refine(decide_eq_true ?_).symm;omega)|(refine decide_eq_decide.2 ?_;omega)))
  refine WRest.done ?_
  refine tv ?_
  refine sq (fun h2 h2p h2s=>?_) fun h2 h2p h2s=>?_
  ·try simp only[Q,List.length_take] at h2p
   exact absurd h2 (by simp)
  ·try simp only[Q,List.length_take] at h2p
   refine Walk.call (cr:=[]) zfA (zcd (s:=s) (c:=40) (by first|omega|(simp;omega))) rfl .none rfl rfl (LeL.refl _) trivial rfl rfl rfl ?_
   refine ev ?_
   refine Walk.idx (i:=0) zbG .none rfl rfl rfl rfl (zak (by omega)) rfl ?_
   refine ev ?_
   refine Walk.store ty9 .none rfl rfl rfl rfl rfl rfl (by simp) rfl ?_
   refine tv ?_
   refine CWp.regionJ ?_
   refine WRest.join 10 [(49,.d (.bool (decide ((cutL 40 [] (s)).length<2∨(nth (cutL 40 [] (s)) 1).length=0))))] [40,41,42,43,44,45,46,47,48] ?_ ?_
   ·
    refine ev ?_
    refine sq (fun h3 h3p h3s=>?_) fun h3 h3p h3s=>?_
    ·try simp only[Q,List.length_take] at h3p
     exact jn rfl (LeA.eqb (by first|rfl|(exfalso;omega)|(exact decide_eq_true (congrArg (fun z:UInt8=>(z.toNat:Int)) hc.2))|(exact decide_eq_false (fun hh=>hc ⟨by omega,(zgV (b:=58)).1 hh⟩))|(refine(decide_eq_true ?_).symm;omega)|(refine decide_eq_decide.2 ?_;omega)))
    ·try simp only[Q,List.length_take] at h3p
     refine Walk.idx (i:=1) zbG (.some rfl rfl h3) rfl rfl rfl rfl (zak (by omega)) rfl ?_
     refine evs [] [(43,false)] ?_ ⟨⟨_,rfl,h3⟩,trivial⟩
     exact jn rfl (LeA.eqb (by first|rfl|(exfalso;omega)|(exact decide_eq_true (congrArg (fun z:UInt8=>(z.toNat:Int)) hc.2))|(exact decide_eq_false (fun hh=>hc ⟨by omega,(zgV (b:=58)).1 hh⟩))|(refine(decide_eq_true ?_).symm;omega)|(refine decide_eq_decide.2 ?_;omega)))
   refine WRest.done ?_
   refine tv ?_
   refine sq (fun h4 h4p h4s=>?_) fun h4 h4p h4s=>?_
   ·try simp only[Q,List.length_take] at h4p
    refine Walk.store zcN .none rfl rfl rfl rfl rfl rfl (by simp) rfl ?_
    refine tv ?_
    refine rn0 (.cons (.cellA zcN rfl rfl rfl) .nil) (.agg (.cons (.eqd ?_) (.cons (.nild ?_) (.cons (.eqd ?_) .nil))))
    all_goals (unfold zbC;rw[if_neg hc];first|rfl|(rw[hwb];done)|(rw[hwb];rfl)|(unfold zdN;dsimp only;by_cases hq:(cutL 40 [] (s)).length<2∨(nth (cutL 40 [] (s)) 1).length=0;all_goals first|(exfalso;exact(of_decide_eq_false h4) hq)|(exfalso;exact hq (of_decide_eq_true h4))|(rw[if_pos hq];done)|(rw[if_pos hq];rfl)|(rw[if_neg hq,←List.map_take,zeL (by omega)];done)))
   ·try simp only[Q,List.length_take] at h4p
    refine Walk.idx (i:=1) zbG .none rfl rfl rfl rfl (zak (by omega)) rfl ?_
    refine evd [] [] ?_
    refine Walk.idx (i:=1) zbG .none rfl rfl rfl rfl (zak (by omega)) rfl ?_
    refine evd [] [] ?_
    refine ar ?_
    refine Walk.cutS_h (b:=(nth (cutL 40 [] (s)) 1).length-1) un9 .none rfl rfl rfl (by omega) (by omega) ?_
    refine Walk.call (cr:=[]) zfA (zcd (s:=(nth (cutL 40 [] (s)) 1).take ((nth (cutL 40 [] (s)) 1).length-1)) (c:=44) (by simp;omega)) rfl .none rfl rfl (LeL.refl _) trivial rfl rfl rfl ?_
    refine evd [] [] ?_
    refine dr ?_
    refine CWp.tokB 3005 1 1 2 rfl rfl rfl rfl ?_
    refine CWp.loopX (ι:=Nat) hk (fun i=>[(8,.d (.i (i:Int)))]) [61,62,63,64,65,66,67,68,69,70,71,72,73,74,75,76,77,78,79,80,81] (fun i=>[(3005,some (.box [.d (.str (nth (cutL 40 [] (s)) 0)),.gl 1 (((((cutL 44 [] ((nth (cutL 40 [] (s)) 1).take ((nth (cutL 40 [] (s)) 1).length-1))).map (zcH names)).take i)).map Ty.c),.d (.i (0))])),(1,some (.tok (((((cutL 44 [] ((nth (cutL 40 [] (s)) 1).take ((nth (cutL 40 [] (s)) 1).length-1))).map (zcH names)).take i)).map Ty.c).length 2))]) (fun i=>i≤4∧i≤(cutL 44 [] ((nth (cutL 40 [] (s)) 1).take ((nth (cutL 40 [] (s)) 1).length-1))).length) (fun i=>4-i) 0 ⟨by omega,by omega⟩ ⟨⟨_,rfl,(LeA.eqi (by first|rfl|(simp;done)|(simp_all;done)|omega))⟩,trivial⟩ ⟨(by first|rfl|(simp[getH];done)|(show some (Res.box _)=some (Res.box _);rw[hwb];rfl)|(show some (Res.box _)=some (Res.box _);rw[zcO (by omega)];simp;done)),⟨zae (by first|rfl|(simp;done)|(simp;omega)|(first|rfl|(simp;done)|(simp_all;done)|omega)),trivial⟩⟩ (fun x=>rfl) (fun i hg1=>?_)
    refine evc [] [2,7] ?_
    refine sq (fun h5 h5p h5s=>?_) fun h5 h5p h5s=>?_
    ·try simp only[Q,List.length_take] at h5p
     refine sq (fun h6 h6p h6s=>?_) fun h6 h6p h6s=>?_
     ·try simp only[Q,List.length_take] at h6p
      refine Walk.idx zbG .none rfl rfl rfl rfl (zak (by omega)) rfl ?_
      refine evd [] [] ?_
      refine Walk.call (cr:=[]) zo5 (zfd (names:=names) (s:=nth (cutL 44 [] ((nth (cutL 40 [] (s)) 1).take ((nth (cutL 40 [] (s)) 1).length-1))) i) hn (by have:=zdP (c:=44) (s:=(nth (cutL 40 [] (s)) 1).take ((nth (cutL 40 [] (s)) 1).length-1)) (i:=i) (by omega);simp at this;omega)) rfl .none rfl rfl (LeL.refl _) trivial rfl rfl rfl ?_
      refine Walk.sliceLit zaY tz25 rfl (by decide) (ks:=[0]) (xs:=[_]) rfl rfl (by decide) (by decide) .none rfl rfl rfl rfl ?_
      refine Walk.append zaY zz25 rfl .none rfl rfl rfl rfl (zaP rfl (by first|rfl|(simp;done)|(simp;omega))) (by simp) (by simp;omega) (by simp;omega) ?_
      refine evd [] [] ?_
      refine Walk.store zq1 .none rfl rfl rfl rfl rfl rfl (by simp) rfl ?_
      refine dr ?_
      refine ar ?_
      refine Exists.intro (i+1) ⟨⟨by omega,by omega⟩,(by omega),Sub.x (by kernel_rfl) (by kernel_rfl) ⟨⟨_,rfl,(LeA.eqi (by first|rfl|(simp;done)|(simp_all;done)|omega))⟩,trivial⟩ (by kernel_rfl) (by kernel_rfl) ⟨(by first|rfl|(simp[getH];done)|(show some (Res.box _)=some (Res.box _);rw[hwb];rfl)|(show some (Res.box _)=some (Res.box _);rw[zcO (by omega)];simp;done)),⟨zae (by first|rfl|(simp;done)|(simp;omega)|(first|rfl|(simp;done)|(simp_all;done)|omega)),trivial⟩⟩⟩
     ·try simp only[Q,List.length_take] at h6p
      refine Walk.store zcN .none rfl rfl rfl rfl rfl rfl (by simp) rfl ?_
      refine tv ?_
      refine rn0 (.cons (.cellA zcN rfl rfl rfl) .nil) (.agg (.cons (.eqd ?_) (.cons (.gld ?_) (.cons (.eqd ?_) .nil))))
      all_goals (unfold zbC;rw[if_neg hc];first|rfl|(rw[hwb];done)|(rw[hwb];rfl)|(unfold zdN;dsimp only;by_cases hq:(cutL 40 [] (s)).length<2∨(nth (cutL 40 [] (s)) 1).length=0;all_goals first|(exfalso;exact(of_decide_eq_false h4) hq)|(exfalso;exact hq (of_decide_eq_true h4))|(rw[if_pos hq];done)|(rw[if_pos hq];rfl)|(rw[if_neg hq,←List.map_take,zeL (by omega)];done)))
    ·try simp only[Q,List.length_take] at h5p
     refine sqF ?_
     refine Walk.store zcN .none rfl rfl rfl rfl rfl rfl (by simp) rfl ?_
     refine tv ?_
     refine rn0 (.cons (.cellA zcN rfl rfl rfl) .nil) (.agg (.cons (.eqd ?_) (.cons (.gld ?_) (.cons (.eqd ?_) .nil))))
     all_goals (unfold zbC;rw[if_neg hc];first|rfl|(rw[hwb];done)|(rw[hwb];rfl)|(unfold zdN;dsimp only;by_cases hq:(cutL 40 [] (s)).length<2∨(nth (cutL 40 [] (s)) 1).length=0;all_goals first|(exfalso;exact(of_decide_eq_false h4) hq)|(exfalso;exact hq (of_decide_eq_true h4))|(rw[if_pos hq];done)|(rw[if_pos hq];rfl)|(rw[if_neg hq,←List.map_take,zeL (by omega)];done)))
def decV (n:Int):Str:=strN [IntKind.u8.wrap (48+n)]
theorem zjZ (n:Int):(decV n).length=1:=rfl
def zgt (n:Int):Str:=if n=0 then [] else if n = -1 then [42] else decV n
theorem zkQ (n:Int):(zgt n).length≤1:=by unfold zgt;split;simp;split;simp;rw[zjZ];omega
def ze9 (w:List Data) (t:Ty):Str:=if t.data = -1 then [73] else (nth w t.data.toNat).name++zgt t.index
def zcb (w:List Data):Bool→List Ty→Str
 |_,[]=>[]
 |b,t::r=>((if b then [40] else [44])++ze9 w t)++zcb w false r
def zbI (w:List Data) (c:Ctor):Str:=
 let o:=c.name++zcb w true c.args
 let p:=if 0<c.args.length then o++[41] else o
 if 0<c.index then (p++[58])++decV c.index else p
def zbU (w:List Data):Bool→List Ctor→Str
 |_,[]=>[]
 |b,c::r=>((if b then [] else [124])++zbI w c)++zbU w false r
def zhi (w:List Data):Bool→List Data→Str
 |_,[]=>[]
 |b,d::r=>((if b then [] else [59])++(d.name++[61])++zbU w true d.ctors)++zhi w false r
def zeN (w:List Data):Str:=zhi w true w
structure TB (w:List Data):Prop where
 len:w.length≤4
 dn:∀d∈w,d.name.length≤1∧d.ctors.length≤4
 cn:∀d∈w,∀c∈d.ctors,c.name.length≤5∧c.args.length≤3∧0≤c.index∧c.index≤3
 ar:∀d∈w,∀c∈d.ctors,∀t∈c.args,(t.data = -1∨(0≤t.data∧t.data.toNat<w.length))∧ -1≤t.index∧t.index≤3
theorem zqq {w:List Data} (hv:zaA w=true):TB w:=by
 have hW:=(zcI w).1 hv
 refine⟨hW.len,fun d hd=>?_,fun d hd c hc=>?_,fun d hd c hc t ht=>?_⟩
 ·have h:=hW.data d hd
  have h1:=h.1
  simp only[zaz,Bool.and_eq_true,decide_eq_true_eq] at h1
  omega
 ·have h:=hW.ctor d hd c hc
  simp only[za1,zbL,zaf,Bool.and_eq_true,decide_eq_true_eq] at h
  omega
 ·have h:=hW.ctor d hd c hc
  simp only[za1,Bool.and_eq_true,Bool.not_eq_true',List.any_eq_false] at h
  have hax:zbg w.length t=true:=by
   have:=h.2.2.2 t ht
   cases h:zbg w.length t with
   |true=>rfl
   |false=>rw[h] at this;exact absurd rfl this
  simp only[zbg,zaf,Bool.or_eq_true,Bool.and_eq_true,decide_eq_true_eq,and_true] at hax
  omega
theorem zf4 {w:List Data} (hb:TB w){t:Ty} (ht:t.data = -1∨(0≤t.data∧t.data.toNat<w.length)):(ze9 w t).length≤2:=by
 unfold ze9
 split
 ·simp
 ·rename_i h
  have h1:=(hb.dn _ (zai (l:=w) (i:=t.data.toNat) (by omega))).1
  have h2:=zkQ t.index
  simp only[List.length_append];omega
theorem zgk {w:List Data} (hb:TB w):∀(l:List Ty) (b:Bool),(∀t∈l,t.data = -1∨(0≤t.data∧t.data.toNat<w.length))→(zcb w b l).length≤3*l.length
 | [],_,_=>by simp[zcb]
 |t::r,b,h=>by
  have h1:=zf4 hb (h t (by simp))
  have h2:=zgk hb r false (fun x hx=>h x (by simp[hx]))
  simp only[zcb,List.length_append,List.length_cons]
  have h3:(if b=true then [(40:UInt8)] else [44]).length=1:=by split<;>rfl
  omega
theorem zm7 {w:List Data} (hb:TB w){c:Ctor} (h1:c.name.length≤5∧c.args.length≤3) (h2:∀t∈c.args,t.data = -1∨(0≤t.data∧t.data.toNat<w.length)):(zbI w c).length≤20:=by
 have h3:=zgk hb c.args true h2
 unfold zbI
 dsimp only
 have h4:=zjZ c.index
 split<;>split<;>simp only[List.length_append,List.length_cons,List.length_nil]<;>omega
theorem zjG {w:List Data}:∀(l:List Ctor) (b:Bool),(∀c∈l,(zbI w c).length≤20)→(zbU w b l).length≤21*l.length
 | [],_,_=>by simp[zbU]
 |c::r,b,h=>by
  have h1:=h c (by simp)
  have h2:=zjG r false (fun x hx=>h x (by simp[hx]))
  simp only[zbU,List.length_append,List.length_cons]
  have h3:(if b=true then ([]:Str) else [124]).length≤1:=by split<;>simp
  omega
theorem zfn {n:Int} (h0:0≤n) (h9:n≤9):FnD Tryz.prog 141 [.d (.i n)] [] (.d (.str (decV n))) []:=by
 refine bd Tryz.f141 31 [30] [] fun w0 F0 own kept hk=>?_
 refine sq (fun h1 h1p h1s=>?_) fun h1 h1p h1s=>?_
 ·try simp only[Q] at h1p
  exfalso;omega
 ·try simp only[Q] at h1p
  refine sq (fun h2 h2p h2s=>?_) fun h2 h2p h2s=>?_
  ·try simp only[Q] at h2p
   exfalso;omega
  ·try simp only[Q] at h2p
   refine CWp.loopX (ι:=Unit) hk (fun x=>[(0,.d (.i n)),(3,.d (.str []))]) [12,13,14,15,16,17,18,19,20,21,22,23] (fun x=>[]) (fun x=>True) (fun x=>0) () trivial ⟨⟨_,rfl,(LeA.eqi (by first|rfl|(simp;done)|(simp_all;done)|omega))⟩,⟨⟨_,rfl,(LeA.eqs (by first|rfl|(simp;done)|(simp_all;done)|omega))⟩,trivial⟩⟩ trivial (fun x=>rfl) (fun x hg1=>?_)
   refine evc [30] [] ?_
   refine sq (fun h3 h3p h3s=>?_) fun h3 h3p h3s=>?_
   ·try simp only[Q] at h3p
    exfalso;omega
   ·try simp only[Q] at h3p
    refine ar ?_
    refine Walk.conv (by rw[un3];rfl) un5 .none rfl rfl ?_
    refine Walk.sliceLit sl22 tz5 rfl (by decide) (ks:=[0]) (xs:=[_]) rfl rfl (by decide) (by decide) .none rfl rfl rfl rfl ?_
    refine Walk.bytesStr sl22 un9 (by kernel_rfl) .none rfl rfl rfl (by first|rfl|exact zml _) ?_
    refine evs [30] [] ?_
    refine Walk.catS .none rfl rfl rfl (by simp[strN]) ?_
    refine evs [30] [] ?_
    refine rn0 (r1 rfl) (.eqd ?_)
    all_goals (first|rfl|(refine congrArg D.str ?_;unfold decV;rw[List.append_nil];done)|(simp[decV];done))
theorem zlc {n:Int} (h0 : -1≤n) (h9:n≤9):FnD Tryz.prog 142 [.d (.i n)] [] (.d (.str (zgt n))) []:=by
 refine bd Tryz.f142 10 [] [] fun w0 F0 own kept hk=>?_
 refine sq (fun h1 h1p h1s=>?_) fun h1 h1p h1s=>?_
 ·try simp only[Q] at h1p
  refine rn0 (r1 rfl) (.eqd ?_)
  all_goals (refine congrArg D.str ?_;unfold zgt;first|(rw[if_pos (by omega)];done)|(rw[if_neg (by omega),if_pos (by omega)];done)|(rw[if_neg (by omega),if_neg (by omega)];done)|(rw[if_pos (by omega)];rfl)|(rw[if_neg (by omega),if_pos (by omega)];rfl))
 ·try simp only[Q] at h1p
  refine sq (fun h2 h2p h2s=>?_) fun h2 h2p h2s=>?_
  ·try simp only[Q] at h2p
   refine rn0 (r1 rfl) (.eqd ?_)
   all_goals (refine congrArg D.str ?_;unfold zgt;first|(rw[if_pos (by omega)];done)|(rw[if_neg (by omega),if_pos (by omega)];done)|(rw[if_neg (by omega),if_neg (by omega)];done)|(rw[if_pos (by omega)];rfl)|(rw[if_neg (by omega),if_pos (by omega)];rfl))
  ·try simp only[Q] at h2p
   refine Walk.call (cr:=[]) zm2 (zfn (by omega) (by omega)) rfl .none rfl rfl (LeL.refl _) trivial rfl rfl rfl ?_
   refine ev ?_
   refine rn0 (r1 rfl) (.eqd ?_)
   all_goals (refine congrArg D.str ?_;unfold zgt;first|(rw[if_pos (by omega)];done)|(rw[if_neg (by omega),if_pos (by omega)];done)|(rw[if_neg (by omega),if_neg (by omega)];done)|(rw[if_pos (by omega)];rfl)|(rw[if_neg (by omega),if_pos (by omega)];rfl))
theorem zhr {w:List Data} (hb:TB w){a k:Int} (ha:a = -1∨(0≤a∧a.toNat<w.length)) (hk : -1≤k∧k≤3):FnD Tryz.prog 140 [.d (zag w),.agg [.d (.i a),.d (.i k)]] [] (.d (.str (ze9 w ⟨a,k⟩))) []:=by
 have hl:=zkQ k
 have hdn:a≠ -1→(nth w a.toNat).name.length≤1:=fun h=>(hb.dn _ (zai (l:=w) (i:=a.toNat) (by omega))).1
 refine bd Tryz.f140 18 [17] [] fun w0 F0 own kept hk=>?_
 refine Walk.box (id:=3003) .none rfl rfl rfl rfl rfl rfl rfl ?_
 refine evs [17] [] ?_
 refine sq (fun h1 h1p h1s=>?_) fun h1 h1p h1s=>?_
 ·try simp only[Q] at h1p
  refine rn0 (r1 rfl) (.eqd ?_)
  all_goals (refine congrArg D.str ?_;unfold ze9;first|(rw[if_pos (by assumption)];done)|(rw[if_neg (by assumption)];done)|(rw[if_pos (by assumption)];rfl))
 ·try simp only[Q] at h1p
  refine Walk.idx (i:=a.toNat) sl23 .none rfl rfl rfl (by omega) (zak (by omega)) rfl ?_
  refine evd [17] [] ?_
  refine Walk.call (cr:=[]) zrN (zlc (by omega) (by omega)) rfl .none rfl rfl (LeL.refl _) trivial rfl rfl rfl ?_
  refine Walk.catS .none rfl rfl rfl (by have:=hdn h1p;omega) ?_
  refine evd [17] [] ?_
  refine dr ?_
  refine rn0 (r1 rfl) (.eqd ?_)
  all_goals (refine congrArg D.str ?_;unfold ze9;first|(rw[if_pos (by assumption)];done)|(rw[if_neg (by assumption)];done)|(rw[if_pos (by assumption)];rfl))
theorem zcV {w:List Data} (hb:TB w){s:Str}{l:List Ty}{k:Int} (hs:s.length≤5) (hl:l.length≤3) (hk:0≤k∧k≤3)
  (hl2:∀t∈l,(t.data = -1∨(0≤t.data∧t.data.toNat<w.length))∧ -1≤t.index∧t.index≤3):
  FnD Tryz.prog 136 [.d (zag w),.agg [.d (.str s),.d (zcf l),.d (.i k)]] [] (.d (.str (zbI w ⟨s,l,k⟩))) []:=by
 have hall:=zgk hb l true (fun t ht=>(hl2 t ht).1)
 have hdl:=zjZ k
 refine bd Tryz.f136 47 [19,21,30,36,41,45] [] fun w0 F0 own kept hk=>?_
 refine Walk.box (id:=3003) .none rfl rfl rfl rfl rfl rfl rfl ?_
 refine evs [19,21,30,36,41,45] [] ?_
 refine CWp.loopX (ι:=List (Ty)×List (Ty)×(Str)) hk (fun x=>[(6,.d (.i (x.1.length:Int))),(5,.d (.str x.2.2))]) [9,10,11,12,13,14,15,16,17,18,19,20,21,22,23,24,25,26,27,28,29,30] (fun x=>[]) (fun x=>x.1++x.2.1=l∧x.2.2.length≤5+3*x.1.length∧x.2.2++zcb w (decide (x.1.length=0)) x.2.1=s++zcb w true l) (fun x=>x.2.1.length) ([],l,s) ⟨by simp,by simp;omega,by simp⟩ ⟨⟨_,rfl,(LeA.eqi (by first|rfl|(simp;done)|omega|(dsimp only;rw[if_pos (by omega),List.append_assoc];done)|(dsimp only;rw[if_neg (by omega),List.append_assoc];done)))⟩,⟨⟨_,rfl,(LeA.eqs (by first|rfl|(simp;done)|omega|(dsimp only;rw[if_pos (by omega),List.append_assoc];done)|(dsimp only;rw[if_neg (by omega),List.append_assoc];done)))⟩,trivial⟩⟩ trivial (fun x=>rfl) (fun x hg1=>?_)
 obtain⟨pre,rest,o⟩:=x
 dsimp only at hg1 ⊢
 refine evc [19,21,30,36,41,45] [] ?_
 refine sq (fun h1 h1p h1s=>?_) fun h1 h1p h1s=>?_
 ·try simp only[Q] at h1p
  rcases rest with _|⟨y,rest⟩
  ·exfalso;simp_all
  have hq:(ze9 w ⟨y.data,y.index⟩).length≤2:=zf4 hb (hl2 y (by rw[←hg1.1];simp)).1
  refine sq (fun h2 h2p h2s=>?_) fun h2 h2p h2s=>?_
  ·try simp only[Q] at h2p
   refine Walk.catS .none rfl rfl rfl (by have hz:=congrArg List.length hg1.1;simp only[List.length_append,List.length_cons,List.length_nil] at hz ⊢;omega) ?_
   refine evs [19,21,30,36,41,45] [] ?_
   refine Walk.idx zaY .none rfl rfl rfl rfl (zaL hg1.1) rfl ?_
   refine evs [19,21,30,36,41,45] [] ?_
   refine Walk.call (cr:=[]) zo6 (zhr hb (a:=y.data) (k:=y.index) (hl2 y (by rw[←hg1.1];simp)).1 (hl2 y (by rw[←hg1.1];simp)).2) rfl .none rfl rfl (LeL.refl _) trivial rfl rfl rfl ?_
   refine Walk.catS .none rfl rfl rfl (by have hz:=congrArg List.length hg1.1;simp only[List.length_append,List.length_cons,List.length_nil] at hz ⊢;omega) ?_
   refine evs [19,21,30,36,41,45] [] ?_
   refine ar ?_
   refine Exists.intro ((pre++[y],rest,o++((if pre.length=0 then [40] else [44])++ze9 w y))) ⟨⟨(by have hz:=hg1.1;rw[←hz];simp),⟨(by have hq:=zf4 hb (hl2 y (by rw[←hg1.1];simp)).1;have h3:(if pre.length=0 then [(40:UInt8)] else [44]).length=1:=(by split<;>rfl);simp only[List.length_append,List.length_cons,List.length_nil];omega),(by rw[←hg1.2.2];simp[zcb])⟩⟩,(by simp),Sub.x (by kernel_rfl) (by kernel_rfl) ⟨⟨_,rfl,(LeA.eqi (by first|rfl|(simp;done)|omega|(dsimp only;rw[if_pos (by omega),List.append_assoc];done)|(dsimp only;rw[if_neg (by omega),List.append_assoc];done)))⟩,⟨⟨_,rfl,(LeA.eqs (by first|rfl|(simp;done)|omega|(dsimp only;rw[if_pos (by omega),List.append_assoc];done)|(dsimp only;rw[if_neg (by omega),List.append_assoc];done)))⟩,trivial⟩⟩ (by kernel_rfl) (by kernel_rfl) trivial⟩
  ·try simp only[Q] at h2p
   refine Walk.catS .none rfl rfl rfl (by have hz:=congrArg List.length hg1.1;simp only[List.length_append,List.length_cons,List.length_nil] at hz ⊢;omega) ?_
   refine evs [19,21,30,36,41,45] [] ?_
   refine Walk.idx zaY .none rfl rfl rfl rfl (zaL hg1.1) rfl ?_
   refine evs [19,21,30,36,41,45] [] ?_
   refine Walk.call (cr:=[]) zo6 (zhr hb (a:=y.data) (k:=y.index) (hl2 y (by rw[←hg1.1];simp)).1 (hl2 y (by rw[←hg1.1];simp)).2) rfl .none rfl rfl (LeL.refl _) trivial rfl rfl rfl ?_
   refine Walk.catS .none rfl rfl rfl (by have hz:=congrArg List.length hg1.1;simp only[List.length_append,List.length_cons,List.length_nil] at hz ⊢;omega) ?_
   refine evs [19,21,30,36,41,45] [] ?_
   refine ar ?_
   refine Exists.intro ((pre++[y],rest,o++((if pre.length=0 then [40] else [44])++ze9 w y))) ⟨⟨(by have hz:=hg1.1;rw[←hz];simp),⟨(by have hq:=zf4 hb (hl2 y (by rw[←hg1.1];simp)).1;have h3:(if pre.length=0 then [(40:UInt8)] else [44]).length=1:=(by split<;>rfl);simp only[List.length_append,List.length_cons,List.length_nil];omega),(by rw[←hg1.2.2];simp[zcb])⟩⟩,(by simp),Sub.x (by kernel_rfl) (by kernel_rfl) ⟨⟨_,rfl,(LeA.eqi (by first|rfl|(simp;done)|omega|(dsimp only;rw[if_pos (by omega),List.append_assoc];done)|(dsimp only;rw[if_neg (by omega),List.append_assoc];done)))⟩,⟨⟨_,rfl,(LeA.eqs (by first|rfl|(simp;done)|omega|(dsimp only;rw[if_pos (by omega),List.append_assoc];done)|(dsimp only;rw[if_neg (by omega),List.append_assoc];done)))⟩,trivial⟩⟩ (by kernel_rfl) (by kernel_rfl) trivial⟩
 ·try simp only[Q] at h1p
  have hrest:rest=[]:=by
   rcases rest with _|⟨a,b⟩
   ·rfl
   ·exfalso;have hz:=congrArg List.length (hg1.1);simp only[List.length_append,List.length_cons,List.length_map] at hz;omega
  subst hrest
  refine sq (fun h3 h3p h3s=>?_) fun h3 h3p h3s=>?_
  ·try simp only[Q] at h3p
   refine Walk.catS .none rfl rfl rfl (by have hz:=congrArg List.length hg1.1;simp only[List.length_append,List.length_cons,List.length_nil] at hz ⊢;omega) ?_
   refine evs [19,21,30,36,41,45] [] ?_
   refine sq (fun h4 h4p h4s=>?_) fun h4 h4p h4s=>?_
   ·try simp only[Q] at h4p
    refine Walk.catS .none rfl rfl rfl (by have hz:=congrArg List.length hg1.1;simp only[List.length_append,List.length_cons,List.length_nil] at hz ⊢;omega) ?_
    refine evs [19,21,30,36,41,45] [] ?_
    refine Walk.call (cr:=[]) zm2 (zfn (by omega) (by omega)) rfl .none rfl rfl (LeL.refl _) trivial rfl rfl rfl ?_
    refine Walk.catS .none rfl rfl rfl (by have hz:=congrArg List.length hg1.1;simp only[List.length_append,List.length_cons,List.length_nil] at hz ⊢;omega) ?_
    refine evs [19,21,30,36,41,45] [] ?_
    refine rn0 (r1 rfl) (.eqd ?_)
    all_goals (refine congrArg D.str ?_;have hfin:=hg1.2.2;simp only[zcb,List.append_nil] at hfin;unfold zbI;dsimp only;rw[←hfin];first|(rw[if_pos (by omega),if_pos (by simp at *;omega)];done)|(rw[if_pos (by omega),if_neg (by simp at *;omega)];done)|(rw[if_neg (by omega),if_pos (by simp at *;omega)];done)|(rw[if_neg (by omega),if_neg (by simp at *;omega)];done))
   ·try simp only[Q] at h4p
    refine rn0 (r1 rfl) (.eqd ?_)
    all_goals (refine congrArg D.str ?_;have hfin:=hg1.2.2;simp only[zcb,List.append_nil] at hfin;unfold zbI;dsimp only;rw[←hfin];first|(rw[if_pos (by omega),if_pos (by simp at *;omega)];done)|(rw[if_pos (by omega),if_neg (by simp at *;omega)];done)|(rw[if_neg (by omega),if_pos (by simp at *;omega)];done)|(rw[if_neg (by omega),if_neg (by simp at *;omega)];done))
  ·try simp only[Q] at h3p
   refine sq (fun h5 h5p h5s=>?_) fun h5 h5p h5s=>?_
   ·try simp only[Q] at h5p
    refine Walk.catS .none rfl rfl rfl (by have hz:=congrArg List.length hg1.1;simp only[List.length_append,List.length_cons,List.length_nil] at hz ⊢;omega) ?_
    refine evs [19,21,30,36,41,45] [] ?_
    refine Walk.call (cr:=[]) zm2 (zfn (by omega) (by omega)) rfl .none rfl rfl (LeL.refl _) trivial rfl rfl rfl ?_
    refine Walk.catS .none rfl rfl rfl (by have hz:=congrArg List.length hg1.1;simp only[List.length_append,List.length_cons,List.length_nil] at hz ⊢;omega) ?_
    refine evs [19,21,30,36,41,45] [] ?_
    refine rn0 (r1 rfl) (.eqd ?_)
    all_goals (refine congrArg D.str ?_;have hfin:=hg1.2.2;simp only[zcb,List.append_nil] at hfin;unfold zbI;dsimp only;rw[←hfin];first|(rw[if_pos (by omega),if_pos (by simp at *;omega)];done)|(rw[if_pos (by omega),if_neg (by simp at *;omega)];done)|(rw[if_neg (by omega),if_pos (by simp at *;omega)];done)|(rw[if_neg (by omega),if_neg (by simp at *;omega)];done))
   ·try simp only[Q] at h5p
    refine rn0 (r1 rfl) (.eqd ?_)
    all_goals (refine congrArg D.str ?_;have hfin:=hg1.2.2;simp only[zcb,List.append_nil] at hfin;unfold zbI;dsimp only;rw[←hfin];first|(rw[if_pos (by omega),if_pos (by simp at *;omega)];done)|(rw[if_pos (by omega),if_neg (by simp at *;omega)];done)|(rw[if_neg (by omega),if_pos (by simp at *;omega)];done)|(rw[if_neg (by omega),if_neg (by simp at *;omega)];done))
theorem zlV {w:List Data} (hb:TB w):FnD Tryz.prog 117 [.d (zag w)] [] (.d (.str (zeN w))) []:=by
 have hwl:=hb.len
 have hct:∀d∈w,∀c∈d.ctors,(zbI w c).length≤20:=fun d hd c hc=>zm7 hb ⟨(hb.cn d hd c hc).1,(hb.cn d hd c hc).2.1⟩ (fun t ht=>(hb.ar d hd c hc t ht).1)
 refine bd Tryz.f117 51 [15,22,23,37,49] [] fun w0 F0 own kept hk=>?_
 refine CWp.loopX (ι:=List (Data)×List (Data)×(Str)) hk (fun x=>[(4,.d (.i (x.1.length:Int))),(3,.d (.str x.2.2))]) [5,6,7,8,9,10,11,12,13,14,15,16,17,18,19,20,21,22,23,24,25,26,27,28,29,30,31,32,33,34,35,36,37,38,39,40,41,42,43,44,45,46,47,48,49] (fun x=>[]) (fun x=>x.1++x.2.1=w∧x.2.2.length≤100*x.1.length∧x.2.2++zhi w (decide (x.1.length=0)) x.2.1=zeN w) (fun x=>x.2.1.length) ([],w,[]) ⟨by simp,by simp,by simp[zeN]⟩ ⟨⟨_,rfl,(LeA.eqi (by first|rfl|(simp;done)|omega|(rw[hfin];simp;done)))⟩,⟨⟨_,rfl,(LeA.eqs (by first|rfl|(simp;done)|omega|(rw[hfin];simp;done)))⟩,trivial⟩⟩ trivial (fun x=>rfl) (fun x hg1=>?_)
 obtain⟨pre,rest,o⟩:=x
 dsimp only at hg1 ⊢
 refine evc [15,22,23,37,49] [] ?_
 refine sq (fun h1 h1p h1s=>?_) fun h1 h1p h1s=>?_
 ·try simp only[Q] at h1p
  rcases rest with _|⟨y,rest⟩
  ·exfalso;simp_all
  have hym:y∈w:=(by rw[←hg1.1];simp);have hyd:=hb.dn y hym;have hpl:pre.length<4:=(by omega);have hcl:=zjG (w:=w) y.ctors true (hct y hym)
  refine sq (fun h2 h2p h2s=>?_) fun h2 h2p h2s=>?_
  ·try simp only[Q] at h2p
   refine Walk.catS .none rfl rfl rfl (by(try simp only[List.length_append,List.length_cons,List.length_nil]);omega) ?_
   refine evs [15,22,23,37,49] [] ?_
   refine Walk.idx sl23 .none rfl rfl rfl rfl (zaL hg1.1) rfl ?_
   refine evs [15,22,23,37,49] [] ?_
   refine Walk.catS .none rfl rfl rfl (by(try simp only[List.length_append,List.length_cons,List.length_nil]);omega) ?_
   refine Walk.catS .none rfl rfl rfl (by(try simp only[List.length_append,List.length_cons,List.length_nil]);omega) ?_
   refine evs [15,22,23,37,49] [] ?_
   refine CWp.loopX (ι:=List (Ctor)×List (Ctor)×(Str)) hk (fun x=>[(5,.d (.i (x.1.length:Int))),(3,.d (.str x.2.2))]) [24,25,26,27,28,29,30,31,32,33,34,35,36,37,38,39,40,41,42,43,44,45,46,47,48,49] (fun x=>[]) (fun x=>x.1++x.2.1=y.ctors∧x.2.2.length≤100*pre.length+4+21*x.1.length∧x.2.2++zbU w (decide (x.1.length=0)) x.2.1=(o++((if pre.length=0 then [] else [59])++(y.name++[61])))++zbU w true y.ctors) (fun x=>x.2.1.length) ([],y.ctors,o++((if pre.length=0 then [] else [59])++(y.name++[61]))) ⟨by simp,(by have h3:(if pre.length=0 then ([]:Str) else [59]).length≤1:=(by split<;>simp);simp only[List.length_append,List.length_cons,List.length_nil];omega),by simp⟩ ⟨⟨_,rfl,(LeA.eqi (by first|rfl|(simp;done)|omega|(rw[if_neg (by omega)];simp;done)|(rw[if_pos (by omega)];simp;done)|(dsimp only;rw[if_neg (by omega)];simp;done)|(dsimp only;rw[if_pos (by omega)];simp;done)))⟩,⟨⟨_,rfl,(LeA.eqs (by first|rfl|(simp;done)|omega|(rw[if_neg (by omega)];simp;done)|(rw[if_pos (by omega)];simp;done)|(dsimp only;rw[if_neg (by omega)];simp;done)|(dsimp only;rw[if_pos (by omega)];simp;done)))⟩,trivial⟩⟩ trivial (fun x=>rfl) (fun x hg2=>?_)
   obtain⟨pre2,rest2,q⟩:=x
   dsimp only at hg2 ⊢
   refine evc [15,22,23,37,49] [] ?_
   refine Walk.idx sl23 .none rfl rfl rfl rfl (zaL hg1.1) rfl ?_
   refine evs [15,22,23,37,49] [] ?_
   refine sq (fun h3 h3p h3s=>?_) fun h3 h3p h3s=>?_
   ·try simp only[Q] at h3p
    rcases rest2 with _|⟨c,rest2⟩
    ·exfalso;simp_all
    have hcm:=hct y hym c (by rw[←hg2.1];simp);have hce:(zbI w ⟨c.name,c.args,c.index⟩).length≤20:=hcm;have hp2:=congrArg List.length hg2.1;simp only[List.length_append,List.length_cons] at hp2
    refine sq (fun h4 h4p h4s=>?_) fun h4 h4p h4s=>?_
    ·try simp only[Q] at h4p
     refine Walk.catS .none rfl rfl rfl (by(try simp only[List.length_append,List.length_cons,List.length_nil]);omega) ?_
     refine evs [15,22,23,37,49] [] ?_
     refine Walk.idx sl23 .none rfl rfl rfl rfl (zaL hg1.1) rfl ?_
     refine evs [15,22,23,37,49] [] ?_
     refine Walk.idx zcl .none rfl rfl rfl rfl (zaL hg2.1) rfl ?_
     refine evs [15,22,23,37,49] [] ?_
     refine Walk.call (cr:=[]) zkx (zcV hb (s:=c.name) (l:=c.args) (k:=c.index) (hb.cn y hym c (by rw[←hg2.1];simp)).1 (hb.cn y hym c (by rw[←hg2.1];simp)).2.1 (hb.cn y hym c (by rw[←hg2.1];simp)).2.2 (hb.ar y hym c (by rw[←hg2.1];simp))) rfl .none rfl rfl (LeL.refl _) trivial rfl rfl rfl ?_
     refine Walk.catS .none rfl rfl rfl (by(try simp only[List.length_append,List.length_cons,List.length_nil]);omega) ?_
     refine evs [15,22,23,37,49] [] ?_
     refine ar ?_
     refine Exists.intro ((pre2++[c],rest2,q++((if pre2.length=0 then [] else [124])++zbI w c))) ⟨⟨(by have hz:=hg2.1;rw[←hz];simp),⟨(by have h3:(if pre2.length=0 then ([]:Str) else [124]).length≤1:=(by split<;>simp);simp only[List.length_append,List.length_cons,List.length_nil];omega),(by rw[←hg2.2.2];simp[zbU])⟩⟩,(by simp),Sub.x (by kernel_rfl) (by kernel_rfl) ⟨⟨_,rfl,(LeA.eqi (by first|rfl|(simp;done)|omega|(rw[if_neg (by omega)];simp;done)|(rw[if_pos (by omega)];simp;done)|(dsimp only;rw[if_neg (by omega)];simp;done)|(dsimp only;rw[if_pos (by omega)];simp;done)))⟩,⟨⟨_,rfl,(LeA.eqs (by first|rfl|(simp;done)|omega|(rw[if_neg (by omega)];simp;done)|(rw[if_pos (by omega)];simp;done)|(dsimp only;rw[if_neg (by omega)];simp;done)|(dsimp only;rw[if_pos (by omega)];simp;done)))⟩,trivial⟩⟩ (by kernel_rfl) (by kernel_rfl) trivial⟩
    ·try simp only[Q] at h4p
     refine Walk.idx sl23 .none rfl rfl rfl rfl (zaL hg1.1) rfl ?_
     refine evs [15,22,23,37,49] [] ?_
     refine Walk.idx zcl .none rfl rfl rfl rfl (zaL hg2.1) rfl ?_
     refine evs [15,22,23,37,49] [] ?_
     refine Walk.call (cr:=[]) zkx (zcV hb (s:=c.name) (l:=c.args) (k:=c.index) (hb.cn y hym c (by rw[←hg2.1];simp)).1 (hb.cn y hym c (by rw[←hg2.1];simp)).2.1 (hb.cn y hym c (by rw[←hg2.1];simp)).2.2 (hb.ar y hym c (by rw[←hg2.1];simp))) rfl .none rfl rfl (LeL.refl _) trivial rfl rfl rfl ?_
     refine Walk.catS .none rfl rfl rfl (by(try simp only[List.length_append,List.length_cons,List.length_nil]);omega) ?_
     refine evs [15,22,23,37,49] [] ?_
     refine ar ?_
     refine Exists.intro ((pre2++[c],rest2,q++((if pre2.length=0 then [] else [124])++zbI w c))) ⟨⟨(by have hz:=hg2.1;rw[←hz];simp),⟨(by have h3:(if pre2.length=0 then ([]:Str) else [124]).length≤1:=(by split<;>simp);simp only[List.length_append,List.length_cons,List.length_nil];omega),(by rw[←hg2.2.2];simp[zbU])⟩⟩,(by simp),Sub.x (by kernel_rfl) (by kernel_rfl) ⟨⟨_,rfl,(LeA.eqi (by first|rfl|(simp;done)|omega|(rw[if_neg (by omega)];simp;done)|(rw[if_pos (by omega)];simp;done)|(dsimp only;rw[if_neg (by omega)];simp;done)|(dsimp only;rw[if_pos (by omega)];simp;done)))⟩,⟨⟨_,rfl,(LeA.eqs (by first|rfl|(simp;done)|omega|(rw[if_neg (by omega)];simp;done)|(rw[if_pos (by omega)];simp;done)|(dsimp only;rw[if_neg (by omega)];simp;done)|(dsimp only;rw[if_pos (by omega)];simp;done)))⟩,trivial⟩⟩ (by kernel_rfl) (by kernel_rfl) trivial⟩
   ·try simp only[Q] at h3p
    have hrest2:rest2=[]:=by
     rcases rest2 with _|⟨a,b⟩
     ·rfl
     ·exfalso;have hz:=congrArg List.length (hg2.1);simp only[List.length_append,List.length_cons,List.length_map] at hz;omega
    subst hrest2
    refine ar ?_
    have hfin:=hg2.2.2;simp only[zbU,List.append_nil] at hfin
    refine Exists.intro ((pre++[y],rest,o++((if pre.length=0 then [] else [59])++(y.name++[61])++zbU w true y.ctors))) ⟨⟨(by have hz:=hg1.1;rw[←hz];simp),⟨(by have h3:(if pre.length=0 then ([]:Str) else [59]).length≤1:=(by split<;>simp);simp only[List.length_append,List.length_cons,List.length_nil];omega),(by rw[←hg1.2.2];simp[zhi])⟩⟩,(by simp),Sub.x (by kernel_rfl) (by kernel_rfl) ⟨⟨_,rfl,(LeA.eqi (by first|rfl|(simp;done)|omega|(rw[hfin];simp;done)))⟩,⟨⟨_,rfl,(LeA.eqs (by first|rfl|(simp;done)|omega|(rw[hfin];simp;done)))⟩,trivial⟩⟩ (by kernel_rfl) (by kernel_rfl) trivial⟩
  ·try simp only[Q] at h2p
   refine Walk.idx sl23 .none rfl rfl rfl rfl (zaL hg1.1) rfl ?_
   refine evs [15,22,23,37,49] [] ?_
   refine Walk.catS .none rfl rfl rfl (by(try simp only[List.length_append,List.length_cons,List.length_nil]);omega) ?_
   refine Walk.catS .none rfl rfl rfl (by(try simp only[List.length_append,List.length_cons,List.length_nil]);omega) ?_
   refine evs [15,22,23,37,49] [] ?_
   refine CWp.loopX (ι:=List (Ctor)×List (Ctor)×(Str)) hk (fun x=>[(5,.d (.i (x.1.length:Int))),(3,.d (.str x.2.2))]) [24,25,26,27,28,29,30,31,32,33,34,35,36,37,38,39,40,41,42,43,44,45,46,47,48,49] (fun x=>[]) (fun x=>x.1++x.2.1=y.ctors∧x.2.2.length≤100*pre.length+4+21*x.1.length∧x.2.2++zbU w (decide (x.1.length=0)) x.2.1=(o++((if pre.length=0 then [] else [59])++(y.name++[61])))++zbU w true y.ctors) (fun x=>x.2.1.length) ([],y.ctors,o++((if pre.length=0 then [] else [59])++(y.name++[61]))) ⟨by simp,(by have h3:(if pre.length=0 then ([]:Str) else [59]).length≤1:=(by split<;>simp);simp only[List.length_append,List.length_cons,List.length_nil];omega),by simp⟩ ⟨⟨_,rfl,(LeA.eqi (by first|rfl|(simp;done)|omega|(rw[if_neg (by omega)];simp;done)|(rw[if_pos (by omega)];simp;done)|(dsimp only;rw[if_neg (by omega)];simp;done)|(dsimp only;rw[if_pos (by omega)];simp;done)))⟩,⟨⟨_,rfl,(LeA.eqs (by first|rfl|(simp;done)|omega|(rw[if_neg (by omega)];simp;done)|(rw[if_pos (by omega)];simp;done)|(dsimp only;rw[if_neg (by omega)];simp;done)|(dsimp only;rw[if_pos (by omega)];simp;done)))⟩,trivial⟩⟩ trivial (fun x=>rfl) (fun x hg2=>?_)
   obtain⟨pre2,rest2,q⟩:=x
   dsimp only at hg2 ⊢
   refine evc [15,22,23,37,49] [] ?_
   refine Walk.idx sl23 .none rfl rfl rfl rfl (zaL hg1.1) rfl ?_
   refine evs [15,22,23,37,49] [] ?_
   refine sq (fun h5 h5p h5s=>?_) fun h5 h5p h5s=>?_
   ·try simp only[Q] at h5p
    rcases rest2 with _|⟨c,rest2⟩
    ·exfalso;simp_all
    have hcm:=hct y hym c (by rw[←hg2.1];simp);have hce:(zbI w ⟨c.name,c.args,c.index⟩).length≤20:=hcm;have hp2:=congrArg List.length hg2.1;simp only[List.length_append,List.length_cons] at hp2
    refine sq (fun h6 h6p h6s=>?_) fun h6 h6p h6s=>?_
    ·try simp only[Q] at h6p
     refine Walk.catS .none rfl rfl rfl (by(try simp only[List.length_append,List.length_cons,List.length_nil]);omega) ?_
     refine evs [15,22,23,37,49] [] ?_
     refine Walk.idx sl23 .none rfl rfl rfl rfl (zaL hg1.1) rfl ?_
     refine evs [15,22,23,37,49] [] ?_
     refine Walk.idx zcl .none rfl rfl rfl rfl (zaL hg2.1) rfl ?_
     refine evs [15,22,23,37,49] [] ?_
     refine Walk.call (cr:=[]) zkx (zcV hb (s:=c.name) (l:=c.args) (k:=c.index) (hb.cn y hym c (by rw[←hg2.1];simp)).1 (hb.cn y hym c (by rw[←hg2.1];simp)).2.1 (hb.cn y hym c (by rw[←hg2.1];simp)).2.2 (hb.ar y hym c (by rw[←hg2.1];simp))) rfl .none rfl rfl (LeL.refl _) trivial rfl rfl rfl ?_
     refine Walk.catS .none rfl rfl rfl (by(try simp only[List.length_append,List.length_cons,List.length_nil]);omega) ?_
     refine evs [15,22,23,37,49] [] ?_
     refine ar ?_
     refine Exists.intro ((pre2++[c],rest2,q++((if pre2.length=0 then [] else [124])++zbI w c))) ⟨⟨(by have hz:=hg2.1;rw[←hz];simp),⟨(by have h3:(if pre2.length=0 then ([]:Str) else [124]).length≤1:=(by split<;>simp);simp only[List.length_append,List.length_cons,List.length_nil];omega),(by rw[←hg2.2.2];simp[zbU])⟩⟩,(by simp),Sub.x (by kernel_rfl) (by kernel_rfl) ⟨⟨_,rfl,(LeA.eqi (by first|rfl|(simp;done)|omega|(rw[if_neg (by omega)];simp;done)|(rw[if_pos (by omega)];simp;done)|(dsimp only;rw[if_neg (by omega)];simp;done)|(dsimp only;rw[if_pos (by omega)];simp;done)))⟩,⟨⟨_,rfl,(LeA.eqs (by first|rfl|(simp;done)|omega|(rw[if_neg (by omega)];simp;done)|(rw[if_pos (by omega)];simp;done)|(dsimp only;rw[if_neg (by omega)];simp;done)|(dsimp only;rw[if_pos (by omega)];simp;done)))⟩,trivial⟩⟩ (by kernel_rfl) (by kernel_rfl) trivial⟩
    ·try simp only[Q] at h6p
     refine Walk.idx sl23 .none rfl rfl rfl rfl (zaL hg1.1) rfl ?_
     refine evs [15,22,23,37,49] [] ?_
     refine Walk.idx zcl .none rfl rfl rfl rfl (zaL hg2.1) rfl ?_
     refine evs [15,22,23,37,49] [] ?_
     refine Walk.call (cr:=[]) zkx (zcV hb (s:=c.name) (l:=c.args) (k:=c.index) (hb.cn y hym c (by rw[←hg2.1];simp)).1 (hb.cn y hym c (by rw[←hg2.1];simp)).2.1 (hb.cn y hym c (by rw[←hg2.1];simp)).2.2 (hb.ar y hym c (by rw[←hg2.1];simp))) rfl .none rfl rfl (LeL.refl _) trivial rfl rfl rfl ?_
     refine Walk.catS .none rfl rfl rfl (by(try simp only[List.length_append,List.length_cons,List.length_nil]);omega) ?_
     refine evs [15,22,23,37,49] [] ?_
     refine ar ?_
     refine Exists.intro ((pre2++[c],rest2,q++((if pre2.length=0 then [] else [124])++zbI w c))) ⟨⟨(by have hz:=hg2.1;rw[←hz];simp),⟨(by have h3:(if pre2.length=0 then ([]:Str) else [124]).length≤1:=(by split<;>simp);simp only[List.length_append,List.length_cons,List.length_nil];omega),(by rw[←hg2.2.2];simp[zbU])⟩⟩,(by simp),Sub.x (by kernel_rfl) (by kernel_rfl) ⟨⟨_,rfl,(LeA.eqi (by first|rfl|(simp;done)|omega|(rw[if_neg (by omega)];simp;done)|(rw[if_pos (by omega)];simp;done)|(dsimp only;rw[if_neg (by omega)];simp;done)|(dsimp only;rw[if_pos (by omega)];simp;done)))⟩,⟨⟨_,rfl,(LeA.eqs (by first|rfl|(simp;done)|omega|(rw[if_neg (by omega)];simp;done)|(rw[if_pos (by omega)];simp;done)|(dsimp only;rw[if_neg (by omega)];simp;done)|(dsimp only;rw[if_pos (by omega)];simp;done)))⟩,trivial⟩⟩ (by kernel_rfl) (by kernel_rfl) trivial⟩
   ·try simp only[Q] at h5p
    have hrest2:rest2=[]:=by
     rcases rest2 with _|⟨a,b⟩
     ·rfl
     ·exfalso;have hz:=congrArg List.length (hg2.1);simp only[List.length_append,List.length_cons,List.length_map] at hz;omega
    subst hrest2
    refine ar ?_
    have hfin:=hg2.2.2;simp only[zbU,List.append_nil] at hfin
    refine Exists.intro ((pre++[y],rest,o++((if pre.length=0 then [] else [59])++(y.name++[61])++zbU w true y.ctors))) ⟨⟨(by have hz:=hg1.1;rw[←hz];simp),⟨(by have h3:(if pre.length=0 then ([]:Str) else [59]).length≤1:=(by split<;>simp);simp only[List.length_append,List.length_cons,List.length_nil];omega),(by rw[←hg1.2.2];simp[zhi])⟩⟩,(by simp),Sub.x (by kernel_rfl) (by kernel_rfl) ⟨⟨_,rfl,(LeA.eqi (by first|rfl|(simp;done)|omega|(rw[hfin];simp;done)))⟩,⟨⟨_,rfl,(LeA.eqs (by first|rfl|(simp;done)|omega|(rw[hfin];simp;done)))⟩,trivial⟩⟩ (by kernel_rfl) (by kernel_rfl) trivial⟩
 ·try simp only[Q] at h1p
  have hrest:rest=[]:=by
   rcases rest with _|⟨a,b⟩
   ·rfl
   ·exfalso;have hz:=congrArg List.length (hg1.1);simp only[List.length_append,List.length_cons,List.length_map] at hz;omega
  subst hrest
  refine rn0 (r1 rfl) (.eqd ?_)
  all_goals (refine congrArg D.str ?_;have hfin:=hg1.2.2;simp only[zhi,List.append_nil] at hfin;exact hfin)
def pwL (s:Str):List Str:=cutL 59 [] s
def pwP (s:Str) (i:Nat):List Str:=cutL 61 [] (nth (pwL s) i)
def pwC (s:Str) (i:Nat):List Str:=cutL 124 [] (nth (pwP s i) 1)
def zbn (s:Str):Nat:=if s=[] then 0 else min (pwL s).length 5
def zck (s:Str) (n:Nat):List Str:=(List.range n).map fun i=>nth (pwP s i) 0
def zcq (s:Str) (i:Nat):Data:=⟨nth (pwP s i) 0,((pwC s i).take 5).map (zbC (zck s (zbn s)))⟩
def zb6 (s:Str) (n:Nat):List Data:=(List.range n).map (zcq s)
def zgu (s:Str):Bool:=(List.range (zbn s)).all (fun i=>decide ((pwP s i).length=2))&&(zaA (zb6 s (zbn s))&&decide (zeN (zb6 s (zbn s))=s))
def zdd (s:Str):List Data×Bool:=if zgu s then (zb6 s (zbn s),true) else ([],false)
theorem znx (s:Str):zbn s≤(pwL s).length∧zbn s≤5:=by unfold zbn;split<;>omega
theorem zbM {s:Str}{i:Nat}:i<zbn s↔(i<(pwL s).length∧i≤4)∧s≠[]:=by
 unfold zbn
 split
 ·rename_i h;simp[h]
 ·rename_i h;simp only[h,ne_eq,not_false_eq_true,and_true];omega
theorem zaK (s:Str) (n:Nat):(zck s n).length=n:=by simp[zck]
theorem zde (s:Str) (n:Nat):zck s (n+1)=zck s n++[nth (pwP s n) 0]:=by unfold zck;rw[List.range_succ,List.map_append];rfl
theorem za7 (s:Str) (n:Nat):zb6 s (n+1)=zb6 s n++[zcq s n]:=by unfold zb6;rw[List.range_succ,List.map_append];rfl
theorem zri {s:Str}{n m:Nat} (h:m<n):((zck s n).map fun n=>[D.str n])[m]?=some [D.str (nth (pwP s m) 0)]:=by
 simp[zck,h]
theorem zom {s:Str}{i:Nat} (h:i<(pwL s).length):(nth (pwL s) i).length≤s.length:=zdP h
theorem zjm {s:Str}{i j:Nat} (h:i<(pwL s).length) (hj:j<(pwP s i).length):(nth (pwP s i) j).length≤s.length:=Nat.le_trans (zdP hj) (zom h)
theorem zrl {s:Str}{i k:Nat} (h:k<(pwC s i).length):(nth (pwC s i) k).length≤(nth (pwP s i) 1).length:=zdP h
theorem zb4 {α:Type}{l:List α}{i:Nat} (h:i=5∨(i≤5∧l.length≤i)):l.take i=l.take 5:=by
 rcases h with rfl|⟨h1,h2⟩
 ·rfl
 ·rw[List.take_of_length_le h2,List.take_of_length_le (by omega)]
theorem zoK {c:UInt8}{s:Str}:(nth (cutL c [] s) 0).length≤s.length:=zdP (zhD c s [])
theorem znu {names:List Str}{s:Str}:(zbC names s).name.length≤s.length∧(zbC names s).args.length≤4:=by
 have key:∀(ix:Int) (t:Str),(zdN names ix t).name.length≤t.length∧(zdN names ix t).args.length≤4:=by
  intro ix t
  refine⟨zoK, ?_⟩
  unfold zdN
  dsimp only
  split
  ·simp
  ·simp only[List.length_map,List.length_take];omega
 unfold zbC
 split
 ·have:=key (((nth s (s.length-1)).toNat:Int)-48) (s.take (s.length-2))
  rw[List.length_take] at this
  omega
 ·exact key 0 s
theorem zpC {s:Str} (hs:s.length≤1000000) (h2:∀j,j<zbn s→(pwP s j).length=2):WSmall (zb6 s (zbn s)):=by
 have hl:=znx s
 have hd:∀d∈zb6 s (zbn s),∃i,i<zbn s∧d=zcq s i:=fun d hd=>by
  obtain⟨i,hi,rfl⟩:=List.mem_map.1 hd
  exact⟨i,List.mem_range.1 hi,rfl⟩
 refine⟨by simp only[zb6,List.length_map,List.length_range];omega,fun d hd'=>?_,fun d hd' c hc=>?_⟩
 ·obtain⟨i,hi,rfl⟩:=hd d hd'
  have:=zjm (s:=s) (i:=i) (j:=0) (by omega) (by rw[h2 i hi];omega)
  refine⟨?_, ?_⟩
  ·show(nth (pwP s i) 0).length≤_;omega
  ·simp only[zcq,List.length_map,List.length_take];omega
 ·obtain⟨i,hi,rfl⟩:=hd d hd'
  obtain⟨t,ht,rfl⟩:=List.mem_map.1 hc
  have h3:=zjm (s:=s) (i:=i) (j:=1) (by omega) (by rw[h2 i hi];omega)
  have h4:t.length≤(nth (pwP s i) 1).length:=by simpa using zhC 124 (nth (pwP s i) 1) [] t (List.mem_of_mem_take ht)
  have h5:=znu (names:=zck s (zbn s)) (s:=t)
  omega
theorem zs0 {s:Str} (hs:s.length≤1000000):FnD Tryz.prog 115 [.d (.str s),.d (.int .u8 59)] [] (.d (zeG (pwL s))) []:=zcd (s:=s) (c:=59) (by omega)
theorem zqN {s:Str}{i:Nat} (hs:s.length≤1000000) (h:i<(pwL s).length):FnD Tryz.prog 115 [.d (.str (nth (pwL s) i)),.d (.int .u8 61)] [] (.d (zeG (pwP s i))) []:=zcd (s:=nth (pwL s) i) (c:=61) (by have:=zom h;omega)
theorem zsZ {s:Str}{i:Nat} (hs:s.length≤1000000) (h:i<(pwL s).length) (h2:(pwP s i).length=2):FnD Tryz.prog 115 [.d (.str (nth (pwP s i) 1)),.d (.int .u8 124)] [] (.d (zeG (pwC s i))) []:=
 zcd (s:=nth (pwP s i) 1) (c:=124) (by have:=zjm (j:=1) h (by omega);omega)
theorem zjy {w:List Data} (hs:WSmall w):FnD Tryz.prog 66 [.d (zag w)] [] (.d (.bool (zaA w))) []:=by
 rw[←zfR];exact zfF hs
theorem zgh {s:Str} (h:zgu s=false):zdd s=([],false):=by unfold zdd;rw[if_neg (by rw[h];simp)]
theorem zj5 {s:Str} (h:zgu s=true):zdd s=(zb6 s (zbn s),true):=by unfold zdd;rw[if_pos h]
theorem zj4 {s:Str}{i:Nat} (h:i<zbn s) (h2:¬(pwP s i).length=2):zgu s=false:=by
 unfold zgu
 rw[zcQ h (by simpa using h2),Bool.false_and]
theorem zeH {s:Str} (h:∀j,j<zbn s→(pwP s j).length=2):zgu s=(zaA (zb6 s (zbn s))&&decide (zeN (zb6 s (zbn s))=s)):=by
 unfold zgu
 rw[zcE (fun i hi=>by simpa using h i hi),Bool.true_and]
theorem zi7 {s:Str} (hs:s.length≤100000):FnD Tryz.prog 82 [.d (.str s)] [] (.tup [.d (zag (zdd s).1),.d (.bool (zdd s).2)]) []:=by
 have hl:=znx s
 have hcl:(pwL s).length≤s.length+1:=zdO 59 s []
 have hccl:∀i,(pwC s i).length≤(nth (pwP s i) 1).length+1:=fun i=>zdO 124 _ []
 have hnl:=zaK s
 refine bd Tryz.f82 101 [] [5,17,21] fun w0 F0 own kept hk=>?_
 refine Walk.sliceEmptyG 1 sl23 .none rfl rfl ?_
 refine ev ?_
 refine Walk.sliceEmptyG 2 zbG .none rfl rfl ?_
 refine ev ?_
 refine Walk.call (cr:=[]) zfA (zs0 (s:=s) (by omega)) rfl .none rfl rfl (LeL.refl _) trivial rfl rfl rfl ?_
 refine ev ?_
 refine CWp.loopX (ι:=Nat) hk (fun i=>[(7,.d (.i (i:Int))),(5,.gl 2 ((zck s i).map fun n=>[D.str n]))]) [2,3,8,17,18,19,20,21,22,23,24,25,26,27,28,29,30,31,32,33,34,35,36,37,38,39,40,41,42,43,44,45] (fun i=>[(2,some (.tok (((zck s i).map fun n=>[D.str n])).length 1))]) (fun i=>i≤zbn s∧∀j,j<i→(pwP s j).length=2) (fun i=>zbn s-i) 0 ⟨by omega,fun j h=>absurd h (by omega)⟩ ⟨⟨_,rfl,(LeA.eqi (by first|rfl|(rw[zde];simp;done)|(simp;done)|omega))⟩,⟨⟨_,rfl,(LeA.glg (by first|rfl|(rw[zde];simp;done)|(simp;done)|omega))⟩,trivial⟩⟩ ⟨zae (by first|rfl|(simp;done)|(simp;omega)|(first|rfl|(rw[zde];simp;done)|(simp;done)|omega)),trivial⟩ (fun x=>rfl) (fun i hg1=>?_)
 refine evc [] [5,17,21] ?_
 refine CWp.regionJ ?_
 refine WRest.join 12 [(28,.d (.bool (decide (i<zbn s))))] [17,18,19,20,21,22,23,24,25,26,27] ?_ ?_
 ·
  refine ev ?_
  refine sq (fun h1 h1p h1s=>?_) fun h1 h1p h1s=>?_
  ·try simp only[Q,zaK] at h1p
   refine sq (fun h2 h2p h2s=>?_) fun h2 h2p h2s=>?_
   ·try simp only[Q,zaK] at h2p
    exact jn rfl (LeA.eqb (by first|rfl|(rw[Bool.eq_iff_iff];simp_all[zbM];done)|(rw[Bool.eq_iff_iff];simp_all[zbM];omega)))
   ·try simp only[Q,zaK] at h2p
    exact jn rfl (LeA.eqb (by first|rfl|(rw[Bool.eq_iff_iff];simp_all[zbM];done)|(rw[Bool.eq_iff_iff];simp_all[zbM];omega)))
  ·try simp only[Q,zaK] at h1p
   refine sqF ?_
   exact jn rfl (LeA.eqb (by first|rfl|(rw[Bool.eq_iff_iff];simp_all[zbM];done)|(rw[Bool.eq_iff_iff];simp_all[zbM];omega)))
 refine WRest.done ?_
 refine tv ?_
 refine sq (fun h3 h3p h3s=>?_) fun h3 h3p h3s=>?_
 ·try simp only[Q,zaK] at h3p
  refine Walk.idx zbG .none rfl rfl rfl rfl (zak (by omega)) rfl ?_
  refine ev ?_
  refine Walk.call (cr:=[]) zfA (zqN (s:=s) (i:=i) (by omega) (by omega)) rfl .none rfl rfl (LeL.refl _) trivial rfl rfl rfl ?_
  refine ev ?_
  refine sq (fun h4 h4p h4s=>?_) fun h4 h4p h4s=>?_
  ·try simp only[Q,zaK] at h4p
   refine Walk.sliceEmpty sl23 .none rfl ?_
   refine ev ?_
   refine rn0 (r2 rfl rfl) (.tup (.cons (.eqd ?_) (.cons (.eqd ?_) .nil)))
   all_goals (first|(have hq:=zj4 (s:=s) (i:=i) h3p (fun h=>h4p (by omega));rw[zgh hq];all_goals rfl)|(have hr:=zeH hg1.2;rw[h9s] at hr;rw[zgh hr];all_goals rfl)|(have hr:=zeH hg1.2;rw[h9s] at hr;rw[zj5 hr];all_goals rfl))
  ·try simp only[Q,zaK] at h4p
   refine Walk.idx (i:=0) zbG .none rfl rfl rfl rfl (zak (by omega)) rfl ?_
   refine ev ?_
   refine Walk.sliceLit zbG tz9 rfl (by decide) (ks:=[0]) (xs:=[_]) rfl rfl (by decide) (by decide) .none rfl rfl rfl rfl ?_
   refine Walk.append zbG zz9 rfl .none rfl rfl rfl rfl (zaP rfl (by first|rfl|(simp;done)|(simp;omega))) (by simp) (by simp[zaK,zb6];omega) (by simp[zaK,zb6];omega) ?_
   refine ev ?_
   refine ar ?_
   refine Exists.intro (i+1) ⟨⟨by omega,zaZ hg1.2 (by omega)⟩,(by omega),Sub.x (by kernel_rfl) (by kernel_rfl) ⟨⟨_,rfl,(LeA.eqi (by first|rfl|(rw[zde];simp;done)|(simp;done)|omega))⟩,⟨⟨_,rfl,(LeA.glg (by first|rfl|(rw[zde];simp;done)|(simp;done)|omega))⟩,trivial⟩⟩ (by kernel_rfl) (by kernel_rfl) ⟨zae (by first|rfl|(simp;done)|(simp;omega)|(first|rfl|(rw[zde];simp;done)|(simp;done)|omega)),trivial⟩⟩
 ·try simp only[Q,zaK] at h3p
  obtain rfl:i=zbn s:=(by omega)
  refine CWp.loopX (ι:=Nat) hk (fun m=>[(9,.d (.i (m:Int))),(4,.gl 1 ((zb6 s m).map Data.c))]) [10,11,12,46,47,48,49,50,51,52,53,54,55,56,57,58,59,60,61,62,63,64,65,66,67,68,69,70,71,72,73,74,75,76,77,78,79,80,81,82,83,84,85,86,87,88,89] (fun m=>[(1,some (.tok (((zb6 s m).map Data.c)).length 2))]) (fun m=>m≤zbn s) (fun m=>zbn s-m) 0 (by omega) ⟨⟨_,rfl,(LeA.eqi (by first|rfl|(simp;done)|omega|(rw[za7];simp;done)|(rw[za7,List.map_append];simp only[List.map_cons,List.map_nil,zcq,Data.c];rw[←List.map_take,zb4 (by omega)];done)|(rw[za7,List.map_append];simp only[List.map_cons,List.map_nil,zcq,Data.c];rw[←List.map_take,zb4 (by omega)];rfl)))⟩,⟨⟨_,rfl,(LeA.glg (by first|rfl|(simp;done)|omega|(rw[za7];simp;done)|(rw[za7,List.map_append];simp only[List.map_cons,List.map_nil,zcq,Data.c];rw[←List.map_take,zb4 (by omega)];done)|(rw[za7,List.map_append];simp only[List.map_cons,List.map_nil,zcq,Data.c];rw[←List.map_take,zb4 (by omega)];rfl)))⟩,trivial⟩⟩ ⟨zae (by first|rfl|(simp;done)|(simp;omega)|(first|rfl|(simp;done)|omega|(rw[za7];simp;done)|(rw[za7,List.map_append];simp only[List.map_cons,List.map_nil,zcq,Data.c];rw[←List.map_take,zb4 (by omega)];done)|(rw[za7,List.map_append];simp only[List.map_cons,List.map_nil,zcq,Data.c];rw[←List.map_take,zb4 (by omega)];rfl))),trivial⟩ (fun x=>rfl) (fun m hg2=>?_)
  refine evc [] [5,17,21] ?_
  refine sq (fun h5 h5p h5s=>?_) fun h5 h5p h5s=>?_
  ·try simp only[Q,zaK] at h5p
   refine Walk.idx zbG .none rfl rfl rfl rfl (zak (by first|omega|(rw[hg1.2 m (by omega)];omega))) rfl ?_
   refine ev ?_
   refine Walk.call (cr:=[]) zfA (zqN (s:=s) (i:=m) (by omega) (by omega)) rfl .none rfl rfl (LeL.refl _) trivial rfl rfl rfl ?_
   refine Walk.idx (i:=1) zbG .none rfl rfl rfl rfl (zak (by first|omega|(rw[hg1.2 m (by omega)];omega))) rfl ?_
   refine ev ?_
   refine Walk.call (cr:=[]) zfA (zsZ (s:=s) (i:=m) (by omega) (by omega) (hg1.2 m (by omega))) rfl .none rfl rfl (LeL.refl _) trivial rfl rfl rfl ?_
   refine ev ?_
   refine Walk.idxG zbG .none rfl rfl rfl rfl (zri (by omega)) rfl ?_
   refine ev ?_
   refine Walk.build zs6 (ks:=[0]) (xs:=[_]) rfl rfl .none rfl rfl rfl ?_
   refine Walk.alloc (id:=3011) zoX rfl .none rfl rfl rfl rfl ?_
   refine Walk.store zq2 .none rfl rfl rfl rfl rfl rfl (by simp) rfl ?_
   refine tv ?_
   refine CWp.tokB 3011 1 3 3 rfl rfl rfl rfl ?_
   refine CWp.loopX (ι:=Nat) hk (fun k=>[(12,.d (.i (k:Int)))]) [65,66,67,68,69,70,71,72,73,74,75,76,77,78,79,80,81,82,83,84,85] (fun k=>[(3011,some (.box [.d (.str (nth (pwP s m) 0)),.gl 3 ((((pwC s m).map (zbC (zck s (zbn s)))).take k).map Ctor.c)])),(3,some (.tok ((((pwC s m).map (zbC (zck s (zbn s)))).take k).map Ctor.c).length 3))]) (fun k=>k≤5∧k≤(pwC s m).length) (fun k=>5-k) 0 ⟨by omega,by omega⟩ ⟨⟨_,rfl,(LeA.eqi (by first|rfl|(simp;done)|(simp_all;done)|omega))⟩,trivial⟩ ⟨(by first|rfl|(simp[getH];done)|(show some (Res.box _)=some (Res.box _);rw[zcO (by omega)];simp;done)),⟨zae (by first|rfl|(simp;done)|(simp;omega)|(first|rfl|(simp;done)|(simp_all;done)|omega)),trivial⟩⟩ (fun x=>rfl) (fun k hg3=>?_)
   refine evc [] [5,17,21] ?_
   refine CWp.regionJ ?_
   refine WRest.join 8 [(72,.d (.bool (decide (k<(pwC s m).length∧k≤4))))] [65,66,67,68,69,70,71] ?_ ?_
   ·
    refine ev ?_
    refine sq (fun h6 h6p h6s=>?_) fun h6 h6p h6s=>?_
    ·try simp only[Q,zaK] at h6p
     exact jn rfl (LeA.eqb (by first|rfl|(rw[Bool.eq_iff_iff];simp_all[zbM];done)|(rw[Bool.eq_iff_iff];simp_all[zbM];omega)))
    ·try simp only[Q,zaK] at h6p
     exact jn rfl (LeA.eqb (by first|rfl|(rw[Bool.eq_iff_iff];simp_all[zbM];done)|(rw[Bool.eq_iff_iff];simp_all[zbM];omega)))
   refine WRest.done ?_
   refine tv ?_
   refine sq (fun h7 h7p h7s=>?_) fun h7 h7p h7s=>?_
   ·try simp only[Q,zaK] at h7p
    refine Walk.idx zbG .none rfl rfl rfl rfl (zak (by omega)) rfl ?_
    refine evd [] [] ?_
    refine Walk.call (cr:=[]) zrD (zil (names:=zck s (zbn s)) (s:=nth (pwC s m) k) (by rw[hnl];omega) (by have h1:=zjm (s:=s) (i:=m) (j:=1) (by omega) (by rw[hg1.2 m (by omega)];omega);have h2:=zrl (s:=s) (i:=m) (k:=k) (by omega);omega)) rfl .none rfl rfl (.cons (.gl _ _) (.cons (.refl _) .nil)) trivial rfl rfl rfl ?_
    refine Walk.sliceLit zcl zf6 rfl (by decide) (ks:=[0]) (xs:=[_]) rfl rfl (by decide) (by decide) .none rfl rfl rfl rfl ?_
    refine Walk.append zcl zta rfl .none rfl rfl rfl rfl (zaP rfl (by first|rfl|(simp;done)|(simp;omega))) (by simp) (by simp[zaK,zb6];omega) (by simp[zaK,zb6];omega) ?_
    refine evd [] [] ?_
    refine Walk.store zs8 .none rfl rfl rfl rfl rfl rfl (by simp) rfl ?_
    refine dr ?_
    refine ar ?_
    refine Exists.intro (k+1) ⟨⟨by omega,by omega⟩,(by omega),Sub.x (by kernel_rfl) (by kernel_rfl) ⟨⟨_,rfl,(LeA.eqi (by first|rfl|(simp;done)|(simp_all;done)|omega))⟩,trivial⟩ (by kernel_rfl) (by kernel_rfl) ⟨(by first|rfl|(simp[getH];done)|(show some (Res.box _)=some (Res.box _);rw[zcO (by omega)];simp;done)),⟨zae (by first|rfl|(simp;done)|(simp;omega)|(first|rfl|(simp;done)|(simp_all;done)|omega)),trivial⟩⟩⟩
   ·try simp only[Q,zaK] at h7p
    refine Walk.sliceLit sl23 zoX rfl (by decide) (ks:=[0]) (xs:=[_]) rfl rfl (by decide) (by decide) .none rfl rfl rfl rfl ?_
    refine Walk.append sl23 zs9 rfl .none rfl rfl rfl rfl (zaP rfl (by first|rfl|(simp;done)|(simp;omega))) (by simp) (by simp[zaK,zb6];omega) (by simp[zaK,zb6];omega) ?_
    refine ev ?_
    refine ar ?_
    refine Exists.intro (m+1) ⟨(by omega),(by omega),Sub.x (by kernel_rfl) (by kernel_rfl) ⟨⟨_,rfl,(LeA.eqi (by first|rfl|(simp;done)|omega|(rw[za7];simp;done)|(rw[za7,List.map_append];simp only[List.map_cons,List.map_nil,zcq,Data.c];rw[←List.map_take,zb4 (by omega)];done)|(rw[za7,List.map_append];simp only[List.map_cons,List.map_nil,zcq,Data.c];rw[←List.map_take,zb4 (by omega)];rfl)))⟩,⟨⟨_,rfl,(LeA.glg (by first|rfl|(simp;done)|omega|(rw[za7];simp;done)|(rw[za7,List.map_append];simp only[List.map_cons,List.map_nil,zcq,Data.c];rw[←List.map_take,zb4 (by omega)];done)|(rw[za7,List.map_append];simp only[List.map_cons,List.map_nil,zcq,Data.c];rw[←List.map_take,zb4 (by omega)];rfl)))⟩,trivial⟩⟩ (by kernel_rfl) (by kernel_rfl) ⟨zae (by first|rfl|(simp;done)|(simp;omega)|(first|rfl|(simp;done)|omega|(rw[za7];simp;done)|(rw[za7,List.map_append];simp only[List.map_cons,List.map_nil,zcq,Data.c];rw[←List.map_take,zb4 (by omega)];done)|(rw[za7,List.map_append];simp only[List.map_cons,List.map_nil,zcq,Data.c];rw[←List.map_take,zb4 (by omega)];rfl))),trivial⟩⟩
  ·try simp only[Q,zaK] at h5p
   obtain rfl:m=zbn s:=(by omega)
   refine CWp.regionJ ?_
   refine WRest.join 9 [(98,.d (.bool (!(zaA (zb6 s (zbn s))&&decide (zeN (zb6 s (zbn s))=s)))))] [90,91,92,93,94,95,96,97] ?_ ?_
   ·
    refine ev ?_
    refine Walk.call (cr:=[]) zqE (zjy (zpC (by omega) hg1.2)) rfl .none rfl rfl (.cons (.gl _ _) .nil) trivial rfl rfl rfl ?_
    refine ev ?_
    refine sq (fun h8 h8p h8s=>?_) fun h8 h8p h8s=>?_
    ·try simp only[Q,zaK] at h8p
     exact jn rfl (LeA.eqb (by first|rfl|(rw[Bool.eq_iff_iff];simp_all[zbM];done)|(rw[Bool.eq_iff_iff];simp_all[zbM];omega)))
    ·try simp only[Q,zaK] at h8p
     refine Walk.call (cr:=[]) zrE (zlV (zqq (by assumption))) rfl (.some rfl rfl h8) rfl rfl (.cons (.gl _ _) .nil) trivial rfl rfl rfl ?_
     refine evs [] [(93,false)] ?_ ⟨⟨_,rfl,h8⟩,trivial⟩
     exact jn rfl (LeA.eqb (by first|rfl|(rw[Bool.eq_iff_iff];simp_all[zbM];done)|(rw[Bool.eq_iff_iff];simp_all[zbM];omega)))
   refine WRest.done ?_
   refine tv ?_
   refine sq (fun h9 h9p h9s=>?_) fun h9 h9p h9s=>?_
   ·try simp only[Q,zaK] at h9p
    refine Walk.sliceEmpty sl23 .none rfl ?_
    refine ev ?_
    refine rn0 (r2 rfl rfl) (.tup (.cons (.eqd ?_) (.cons (.eqd ?_) .nil)))
    all_goals (first|(have hq:=zj4 (s:=s) (i:=i) h3p (fun h=>h4p (by omega));rw[zgh hq];all_goals rfl)|(have hr:=zeH hg1.2;rw[h9s] at hr;rw[zgh hr];all_goals rfl)|(have hr:=zeH hg1.2;rw[h9s] at hr;rw[zj5 hr];all_goals rfl))
   ·try simp only[Q,zaK] at h9p
    refine rn0 (r2 rfl rfl) (.tup (.cons (.gld ?_) (.cons (.eqd ?_) .nil)))
    all_goals (first|(have hq:=zj4 (s:=s) (i:=i) h3p (fun h=>h4p (by omega));rw[zgh hq];all_goals rfl)|(have hr:=zeH hg1.2;rw[h9s] at hr;rw[zgh hr];all_goals rfl)|(have hr:=zeH hg1.2;rw[h9s] at hr;rw[zj5 hr];all_goals rfl))
def zdB:List Str:=[[76,61,78,105,108,124,67,111,110,115,40,73,44,76,41],
 [66,61,84,114,117,124,70,108,115,59,84,61,76,101,97,102,124,78,111,100,101,40,84,44,66,44,84,41],
 [69,61,78,117,109,40,73,41,58,49,124,66,111,108,40,66,41,58,50,124,65,100,100,40,69,49,44,69,49,41,58,49,124,73,102,40,69,50,44,69,42,44,69,42,41,59,66,61,84,114,117,124,70,108,115],
 [79,61,78,111,110,124,83,111,109,40,73,41,59,80,61,80,97,105,114,40,79,44,79,41],
 [86,61,69,110,100,58,49,124,83,111,109,101,40,73,44,86,49,41,58,50,124,84,119,111,40,86,42,41],
 [78,61,78,101,118,101,114,40,78,41,59,66,61,84,114,117,124,70,108,115,124,77,97,121,40,78,41],
 [83,61,82,101,100,124,71,114,101,101,110,124,66,108,117,101,124,77,105,120,40,83,44,83,41],
 []]
theorem zlq:zdB.length=8:=rfl
theorem znM:∀t∈zdB,t.length≤100:=by decide
theorem zoW {i:Nat} (h:i<8):(nth zdB i).length≤100:=znM _ (zai h)
def zbr (b:Str) (p:Nat):List Data:=(zdd (nth zdB (zad b p 7).toNat)).1
theorem zoN (b:Str) (p:Nat):(zad b p 7).toNat<7:=by have:=zco (b:=b) (p:=p) (n:=7) (by omega);omega
theorem zle:FnD Tryz.prog 81 [] [] (.d (zeG zdB)) []:=by
 refine bd Tryz.f81 2 [] [] fun w0 F0 own kept hk=>?_
 refine Walk.sliceLit zbG tz9 rfl (by decide) (ks:=[0,1,2,3,4,5,6,7]) (xs:=[_,_,_,_,_,_,_,_]) rfl rfl (by decide) (by decide) .none rfl rfl rfl rfl ?_
 refine ev ?_
 refine rn0 (r1 rfl) (.eqd ?_)
 all_goals (rfl)
theorem zlg {b:Str}{p:Nat} (hb:b.length≤2000) (hp:p≤1000000):
  FnD Tryz.prog 57 [.ref 900 0] [(900,some (rdB b p))] (.d (zag (zbr b p))) [(900,some (rdB b (p+1)))]:=by
 have h7:=zoN b p
 have ht8:=zlq
 have hv:=zco (b:=b) (p:=p) (n:=7) (by omega)
 have hts:=zoW (i:=(zad b p 7).toNat) (by omega)
 refine bd Tryz.f57 20 [] [] fun w0 F0 own kept hk=>?_
 refine Walk.call (cr:=[]) zsJ (zle) rfl .none rfl rfl (LeL.refl _) trivial rfl rfl rfl ?_
 refine ev ?_
 refine ar ?_
 refine Walk.call (cr:=[]) zbW (zaE (n:=7) hb (by omega) (by omega)) rfl .none rfl rfl (LeL.refl _) ⟨rfl,trivial⟩ rfl rfl rfl ?_
 refine Walk.idx (i:=(zad b p 7).toNat) zbG .none rfl rfl rfl (by omega) (zak (by rw[zlq];omega)) rfl ?_
 refine ev ?_
 refine Walk.call (cr:=[]) zsK (zi7 (s:=nth zdB (zad b p 7).toNat) (by omega)) rfl .none rfl rfl (LeL.refl _) trivial rfl rfl rfl ?_
 refine ev ?_
 refine rn [(900,some (rdB b (p+1)))] (r1 rfl) (.eqd ?_) ⟨rfl,rfl⟩ (SubO.get ⟨.inr (by rfl),⟨.inl rfl,trivial⟩⟩) (zaq rfl)
 all_goals (rfl)
def anyP:Pat:=⟨1,0,0,0,0,[]⟩
def dA (f:Ty→Nat→Pat×Nat):List Ty→Nat→List Pat×Nat
 | [],q=>([],q)
 |t::r,q=>((f t q).1::(dA f r (f t q).2).1,(dA f r (f t q).2).2)
def zay (b:Str) (w:List Data):Nat→Ty→Nat→Pat×Nat
 |0,_,p=>(anyP,p)
 |d+1,t,p=>
  if d=0 then (anyP,p)
  else if zad b p 4=0 then (anyP,p+1)
  else if zad b (p+1) 6=0 then (⟨5,0,0,0,0,[(zay b w d t (p+2)).1,(zay b w d t (zay b w d t (p+2)).2).1]⟩,(zay b w d t (zay b w d t (p+2)).2).2)
  else if t.data = -1 then (⟨3,0,zad b (p+2) 10,zad b (p+2) 10+zad b (p+3) (10-zad b (p+2) 10)*zad b (p+4) 2,0,[]⟩,p+5)
  else if (zah w t).length=0 then (anyP,p+2)
  else (⟨4,nth (zah w t) (zad b (p+2) (zah w t).length).toNat,0,0,0,(dA (zay b w d) (zam w t (nth (zah w t) (zad b (p+2) (zah w t).length).toNat)) (p+3)).1⟩,
   (dA (zay b w d) (zam w t (nth (zah w t) (zad b (p+2) (zah w t).length).toNat)) (p+3)).2)
def bdP:Nat→Nat
 |0=>0
 |d+1=>5+3*bdP d
def Few (w:List Data):Prop:=∀t c,c∈zah w t→TyIn w.length t→(zam w t c).length≤3∧∀u∈zam w t c,TyIn w.length u
theorem zqO {f:Ty→Nat→Pat×Nat}{k:Nat}:∀(l:List Ty) (q:Nat),(∀t∈l,∀q,(f t q).2≤q+k)→(dA f l q).2≤q+l.length*k
 | [],q,_=>by simp[dA]
 |t::r,q,h=>by
  have h1:=h t (by simp) q
  have h2:=zqO r (f t q).2 (fun x hx=>h x (by simp[hx]))
  simp only[dA,List.length_cons,Nat.add_mul];omega
theorem zpg {f:Ty→Nat→Pat×Nat}:∀(l:List Ty) (q:Nat),(dA f l q).1.length=l.length
 | [],q=>rfl
 |t::r,q=>by simp only[dA,List.length_cons,zpg r]
theorem zhT {l:List Int}{b:Str}{p:Nat} (h:¬l.length=0):nth l (zad b p l.length).toNat∈l:=by
 have:=zco (b:=b) (p:=p) (n:=(l.length:Int)) (by omega)
 exact zai (by omega)
theorem zhE {b:Str}{w:List Data} (hf:Few w):∀(d:Nat) (t:Ty) (p:Nat),TyIn w.length t→(zay b w d t p).2≤p+bdP d
 |0,t,p,_=>by simp[zay,bdP]
 |d+1,t,p,ht=>by
  have ih:=fun t p ht=>zhE (b:=b) hf d t p ht
  unfold zay bdP
  split
  ·dsimp only;omega
  ·split
   ·dsimp only;omega
   ·split
    ·dsimp only
     have h1:=ih t (p+2) ht
     have h2:=ih t (zay b w d t (p+2)).2 ht
     omega
    ·split
     ·dsimp only;omega
     ·split
      ·dsimp only;omega
      ·rename_i h5
       dsimp only
       have hm:=zhT (b:=b) (p:=p+2) h5
       have h3:=hf t _ hm ht
       have h1:=zqO (f:=zay b w d) (k:=bdP d) (zam w t (nth (zah w t) (zad b (p+2) (zah w t).length).toNat)) (p+3) (fun u hu q=>ih u q (h3.2 u hu))
       have h4:(zam w t (nth (zah w t) (zad b (p+2) (zah w t).length).toNat)).length*bdP d≤3*bdP d:=Nat.mul_le_mul_right _ h3.1
       omega
theorem zpY {w:List Data} (hs:WSmall w) (hv:zaA w=true):Few w:=by
 have hw:=zfs hs hv
 have hW:=(zcI w).1 hv
 rintro ⟨a,k⟩ c hc ht
 obtain⟨d,rfl,h1,j,rfl,h3⟩:=zcD ht hc
 refine⟨?_,fun u hu=>zgD hw h1 ⟨j,rfl,h3⟩ hu⟩
 have hco:=hW.ctor _ (zai h1) _ (zai h3)
 simp only[za1,Bool.and_eq_true,decide_eq_true_eq] at hco
 simp only[zam,Int.toNat_natCast,List.length_map]
 omega
theorem Pat.cs_cc (l:List Pat):Pat.cs l=l.map Pat.cc:=by
 rw[Pat.cs_eq];exact List.map_congr_left (fun v _=>Pat.c_eq v)
section
variable {b:Str}{w:List Data}{d p:Nat}{a k:Int}
theorem zhd (h:d=0):zay b w (d+1) ⟨a,k⟩ p=(anyP,p):=by simp only[zay];rw[if_pos h]
theorem zhe (h:¬d=0) (h2:zad b p 4=0):zay b w (d+1) ⟨a,k⟩ p=(anyP,p+1):=by simp only[zay];rw[if_neg h,if_pos h2]
theorem zhf (h:¬d=0) (h2:¬zad b p 4=0) (h3:zad b (p+1) 6=0):zay b w (d+1) ⟨a,k⟩ p =
  (⟨5,0,0,0,0,[(zay b w d ⟨a,k⟩ (p+2)).1,(zay b w d ⟨a,k⟩ (zay b w d ⟨a,k⟩ (p+2)).2).1]⟩,(zay b w d ⟨a,k⟩ (zay b w d ⟨a,k⟩ (p+2)).2).2):=by
 simp only[zay];rw[if_neg h,if_neg h2,if_pos h3]
theorem zhg (h:¬d=0) (h2:¬zad b p 4=0) (h3:¬zad b (p+1) 6=0) (h4:a = -1):zay b w (d+1) ⟨a,k⟩ p =
  (⟨3,0,zad b (p+2) 10,zad b (p+2) 10+zad b (p+3) (10-zad b (p+2) 10)*zad b (p+4) 2,0,[]⟩,p+5):=by
 simp only[zay];rw[if_neg h,if_neg h2,if_neg h3,if_pos h4]
theorem zhh (h:¬d=0) (h2:¬zad b p 4=0) (h3:¬zad b (p+1) 6=0) (h4:¬a = -1) (h5:(zah w ⟨a,k⟩).length=0):zay b w (d+1) ⟨a,k⟩ p=(anyP,p+2):=by
 simp only[zay];rw[if_neg h,if_neg h2,if_neg h3,if_neg h4,if_pos h5]
theorem zlB (h:¬d=0) (h2:¬zad b p 4=0) (h3:¬zad b (p+1) 6=0) (h4:¬a = -1) (h5:¬(zah w ⟨a,k⟩).length=0){cc:Int} (hc:nth (zah w ⟨a,k⟩) (zad b (p+2) (zah w ⟨a,k⟩).length).toNat=cc):zay b w (d+1) ⟨a,k⟩ p =
  (⟨4,cc,0,0,0,(dA (zay b w d) (zam w ⟨a,k⟩ cc) (p+3)).1⟩,(dA (zay b w d) (zam w ⟨a,k⟩ cc) (p+3)).2):=by
 simp only[zay];rw[if_neg h,if_neg h2,if_neg h3,if_neg h4,if_neg h5,hc]
end
theorem zer {b:Str}{w:List Data} (hb:b.length≤2000) (hw:WT w) (hf:Few w):∀(d:Nat){a k m:Int}{p:Nat},m=d→d≤4→1≤d→p+bdP d≤1000000→TyIn w.length ⟨a,k⟩→
  FnD Tryz.prog 119 [.ref 900 0,.d (zag w),.agg [.d (.i a),.d (.i k)],.d (.i m)] [(900,some (rdB b p))]
   (.agg [.d (.i (zay b w d ⟨a,k⟩ p).1.op),.d (.i (zay b w d ⟨a,k⟩ p).1.ctor),.d (.i (zay b w d ⟨a,k⟩ p).1.n),.d (.i (zay b w d ⟨a,k⟩ p).1.m),.d (.i (zay b w d ⟨a,k⟩ p).1.var),.d (zaH (zay b w d ⟨a,k⟩ p).1.kids)]) [(900,some (rdB b (zay b w d ⟨a,k⟩ p).2))]
 |0,a,k,m,p,_,_,h1,_,_=>by omega
 |d+1,a,k,m,p,hm,hd4,_,hp,ht=>by
  have hcl:=zga hw ht
  have hbd:bdP (d+1)=5+3*bdP d:=rfl
  have ih:=fun(t:Ty) (q:Nat) (ht:TyIn w.length t)=>zhE (b:=b) hf d t q ht
  have v10:=zco (b:=b) (p:=p+2) (n:=10) (by omega)
  have v11:=zco (b:=b) (p:=p+3) (n:=10-zad b (p+2) 10) (by omega)
  have v12:=zco (b:=b) (p:=p+4) (n:=2) (by omega)
  have v13:0≤zad b (p+3) (10-zad b (p+2) 10)*zad b (p+4) 2∧zad b (p+3) (10-zad b (p+2) 10)*zad b (p+4) 2≤10:=by
   have h:zad b (p+4) 2=0∨zad b (p+4) 2=1:=by omega
   rcases h with h|h<;>rw[h]<;>omega
  have hvl:((((zah w ⟨a,k⟩).map fun n=>[D.i n]).length:Nat):Int)=(zah w ⟨a,k⟩).length:=by simp
  have v14:=fun h=>zco (b:=b) (p:=p+2) (n:=((zah w ⟨a,k⟩).length:Int)) h
  have hmem:=fun h=>zhT (l:=zah w ⟨a,k⟩) (b:=b) (p:=p+2) h
  generalize hcc:nth (zah w ⟨a,k⟩) (zad b (p+2) (zah w ⟨a,k⟩).length).toNat=cc at *
  have hfw:=fun h=>hf ⟨a,k⟩ cc (hmem h) ht
  have hat:¬(zah w ⟨a,k⟩).length=0→((zah w ⟨a,k⟩).map fun n=>[D.i n])[(zad b (p+2) (zah w ⟨a,k⟩).length).toNat]?=some [D.i cc]:=fun h=>by
   rw[←hcc];exact zak (by have:=v14 (by omega);omega)
  refine bd Tryz.f119 96 [] [] fun w0 F0 own kept hk=>?_
  refine Walk.box (id:=3006) .none rfl rfl rfl rfl rfl rfl rfl ?_
  refine Walk.alloc (id:=3008) tz37 rfl .none rfl rfl rfl rfl ?_
  refine tv ?_
  refine sq (fun h1 h1p h1s=>?_) fun h1 h1p h1s=>?_
  ·try simp only[Q] at h1p
   refine sqT ?_
   refine Walk.build st37 (ks:=[0]) (xs:=[_]) rfl rfl .none rfl rfl rfl ?_
   refine Walk.store ty37 .none rfl rfl rfl rfl rfl rfl (by simp) rfl ?_
   refine tv ?_
   refine rn [(900,some (rdB b (zay b w (d+1) ⟨a,k⟩ p).2))] (.cons (.cellA ty37 rfl rfl rfl) .nil) (.agg (.cons (.eqd ?_) (.cons (.eqd ?_) (.cons (.eqd ?_) (.cons (.eqd ?_) (.cons (.eqd ?_) (.cons (.nild ?_) .nil))))))) ⟨rfl,rfl⟩ (SubO.get ⟨.inr (by(rw[zhd (by omega)];all_goals rfl)),⟨.inl rfl,trivial⟩⟩) (zaq rfl)
   all_goals ((rw[zhd (by omega)];all_goals first|rfl|(show _=D.sl (Pat.cs _);rw[Pat.cs_cc];all_goals rfl)|(show _=Pat.cs _;rw[Pat.cs_cc];all_goals rfl)))
  ·try simp only[Q] at h1p
   refine Walk.call (cr:=[]) zbW (zaE (p:=p) (n:=4) hb (by omega) (by omega)) rfl (.some rfl rfl h1) rfl rfl (LeL.refl _) ⟨rfl,trivial⟩ rfl rfl rfl ?_
   refine evs [] [(16,false)] ?_ ⟨⟨_,rfl,h1⟩,trivial⟩
   refine sq (fun h3 h3p h3s=>?_) fun h3 h3p h3s=>?_
   ·try simp only[Q] at h3p
    refine Walk.build st37 (ks:=[0]) (xs:=[_]) rfl rfl .none rfl rfl rfl ?_
    refine Walk.store ty37 .none rfl rfl rfl rfl rfl rfl (by simp) rfl ?_
    refine tv ?_
    refine rn [(900,some (rdB b (zay b w (d+1) ⟨a,k⟩ p).2))] (.cons (.cellA ty37 rfl rfl rfl) .nil) (.agg (.cons (.eqd ?_) (.cons (.eqd ?_) (.cons (.eqd ?_) (.cons (.eqd ?_) (.cons (.eqd ?_) (.cons (.nild ?_) .nil))))))) ⟨rfl,rfl⟩ (SubO.get ⟨.inr (by(rw[zhe (by omega) (by omega)];all_goals rfl)),⟨.inl rfl,trivial⟩⟩) (zaq rfl)
    all_goals ((rw[zhe (by omega) (by omega)];all_goals first|rfl|(show _=D.sl (Pat.cs _);rw[Pat.cs_cc];all_goals rfl)|(show _=Pat.cs _;rw[Pat.cs_cc];all_goals rfl)))
   ·try simp only[Q] at h3p
    refine Walk.call (cr:=[]) zbW (zaE (p:=p+1) (n:=6) hb (by omega) (by omega)) rfl .none rfl rfl (LeL.refl _) ⟨rfl,trivial⟩ rfl rfl rfl ?_
    refine ev ?_
    refine sq (fun h4 h4p h4s=>?_) fun h4 h4p h4s=>?_
    ·try simp only[Q] at h4p
     refine ar ?_
     refine Walk.call (cr:=[]) zkv (zer hb hw hf d (p:=p+2) (by omega) (by omega) (by omega) (by omega) ht) rfl .none rfl rfl (LeL.refl _) ⟨rfl,trivial⟩ rfl rfl rfl ?_
     refine evd [] [] ?_
     refine ar ?_
     refine Walk.call (cr:=[]) zkv (zer hb hw hf d (p:=(zay b w d ⟨a,k⟩ (p+2)).2) (by omega) (by omega) (by omega) (by have:=ih ⟨a,k⟩ (p+2) ht;omega) ht) rfl .none rfl rfl (LeL.refl _) ⟨rfl,trivial⟩ rfl rfl rfl ?_
     refine Walk.sliceLit sl35 tz37 rfl (by decide) (ks:=[0,1]) (xs:=[_,_]) rfl rfl (by decide) (by decide) .none rfl rfl rfl rfl ?_
     refine Walk.build st37 (ks:=[0,5]) (xs:=[_,_]) rfl rfl .none rfl rfl rfl ?_
     refine Walk.store ty37 .none rfl rfl rfl rfl rfl rfl (by simp) rfl ?_
     refine dr ?_
     refine rn [(900,some (rdB b (zay b w (d+1) ⟨a,k⟩ p).2))] (.cons (.cellA ty37 rfl rfl rfl) .nil) (.agg (.cons (.eqd ?_) (.cons (.eqd ?_) (.cons (.eqd ?_) (.cons (.eqd ?_) (.cons (.eqd ?_) (.cons (.eqd ?_) .nil))))))) ⟨rfl,rfl⟩ (SubO.get ⟨.inr (by(rw[zhf (by omega) (by omega) (by omega)];all_goals rfl)),⟨.inl rfl,trivial⟩⟩) (zaq rfl)
     all_goals ((rw[zhf (by omega) (by omega) (by omega)];all_goals first|rfl|(show _=D.sl (Pat.cs _);rw[Pat.cs_cc];all_goals rfl)|(show _=Pat.cs _;rw[Pat.cs_cc];all_goals rfl)))
    ·try simp only[Q] at h4p
     refine sq (fun h5 h5p h5s=>?_) fun h5 h5p h5s=>?_
     ·try simp only[Q] at h5p
      refine Walk.call (cr:=[]) zbW (zaE (p:=p+2) (n:=10) hb (by omega) (by omega)) rfl .none rfl rfl (LeL.refl _) ⟨rfl,trivial⟩ rfl rfl rfl ?_
      refine ev ?_
      refine ar ?_
      refine Walk.call (cr:=[]) zbW (zaE (p:=p+3) (n:=10-zad b (p+2) 10) hb (by omega) (by omega)) rfl .none rfl rfl (LeL.refl _) ⟨rfl,trivial⟩ rfl rfl rfl ?_
      refine ev ?_
      refine Walk.call (cr:=[]) zbW (zaE (p:=p+4) (n:=2) hb (by omega) (by omega)) rfl .none rfl rfl (LeL.refl _) ⟨rfl,trivial⟩ rfl rfl rfl ?_
      refine ev ?_
      refine ar ?_
      refine ar ?_
      refine Walk.build st37 (ks:=[0,2,3]) (xs:=[_,_,_]) rfl rfl .none rfl rfl rfl ?_
      refine Walk.store ty37 .none rfl rfl rfl rfl rfl rfl (by simp) rfl ?_
      refine tv ?_
      refine rn [(900,some (rdB b (zay b w (d+1) ⟨a,k⟩ p).2))] (.cons (.cellA ty37 rfl rfl rfl) .nil) (.agg (.cons (.eqd ?_) (.cons (.eqd ?_) (.cons (.eqd ?_) (.cons (.eqd ?_) (.cons (.eqd ?_) (.cons (.nild ?_) .nil))))))) ⟨rfl,rfl⟩ (SubO.get ⟨.inr (by(rw[zhg (by omega) (by omega) (by omega) (by omega)];all_goals rfl)),⟨.inl rfl,trivial⟩⟩) (zaq rfl)
      all_goals ((rw[zhg (by omega) (by omega) (by omega) (by omega)];all_goals first|rfl|(show _=D.sl (Pat.cs _);rw[Pat.cs_cc];all_goals rfl)|(show _=Pat.cs _;rw[Pat.cs_cc];all_goals rfl)))
     ·try simp only[Q] at h5p
      refine Walk.call (cr:=[]) zfT (zce hw ht) rfl .none rfl rfl (LeL.refl _) trivial rfl rfl rfl ?_
      refine ev ?_
      refine sq (fun h6 h6p h6s=>?_) fun h6 h6p h6s=>?_
      ·try simp only[Q] at h6p
       refine Walk.build st37 (ks:=[0]) (xs:=[_]) rfl rfl .none rfl rfl rfl ?_
       refine Walk.store ty37 .none rfl rfl rfl rfl rfl rfl (by simp) rfl ?_
       refine tv ?_
       refine rn [(900,some (rdB b (zay b w (d+1) ⟨a,k⟩ p).2))] (.cons (.cellA ty37 rfl rfl rfl) .nil) (.agg (.cons (.eqd ?_) (.cons (.eqd ?_) (.cons (.eqd ?_) (.cons (.eqd ?_) (.cons (.eqd ?_) (.cons (.nild ?_) .nil))))))) ⟨rfl,rfl⟩ (SubO.get ⟨.inr (by(rw[zhh (by omega) (by omega) (by omega) (by omega) (by omega)];all_goals rfl)),⟨.inl rfl,trivial⟩⟩) (zaq rfl)
       all_goals ((rw[zhh (by omega) (by omega) (by omega) (by omega) (by omega)];all_goals first|rfl|(show _=D.sl (Pat.cs _);rw[Pat.cs_cc];all_goals rfl)|(show _=Pat.cs _;rw[Pat.cs_cc];all_goals rfl)))
      ·try simp only[Q] at h6p
       refine Walk.call (cr:=[]) zbW (zaE (p:=p+2) (n:=((((zah w ⟨a,k⟩).map fun n=>[D.i n]).length:Nat):Int)) hb (by omega) (by omega)) rfl .none rfl rfl (LeL.refl _) ⟨rfl,trivial⟩ rfl rfl rfl ?_
       refine Walk.idx (i:=(zad b (p+2) (zah w ⟨a,k⟩).length).toNat) sl75 .none rfl rfl rfl (by rw[hvl];have:=v14 (by omega);omega) (hat (by omega)) rfl ?_
       refine ev ?_
       refine Walk.build st37 (ks:=[0,1]) (xs:=[_,_]) rfl rfl .none rfl rfl rfl ?_
       refine Walk.alloc (id:=3011) tz37 rfl .none rfl rfl rfl rfl ?_
       refine Walk.store ty37 .none rfl rfl rfl rfl rfl rfl (by simp) rfl ?_
       refine tv ?_
       refine Walk.call (cr:=[]) zje (zdA hw ht (hmem (by omega))) rfl .none rfl rfl (LeL.refl _) trivial rfl rfl rfl ?_
       refine ev ?_
       refine CWp.tokB 3011 5 1 6 rfl rfl rfl rfl ?_
       refine CWp.loopX (ι:=List (Ty)×List (Ty)×(Nat)×(List Pat)) hk (fun x=>[(13,.d (.i (x.1.length:Int)))]) [75,76,77,78,79,80,81,82,83,84,85,86,87,88,89,90,91,92,93,94] (fun x=>[(900,some (.box [.d (zaQ b),.d (.i (x.2.2.1:Int))])),(3011,some (.box [.d (.i 4),.d (.i cc),.d (.i 0),.d (.i 0),.d (.i 0),.gl 1 (x.2.2.2.map Pat.cc)])),(1,some (.tok (x.2.2.2.map Pat.cc).length 6))]) (fun x=>x.1++x.2.1=zam w ⟨a,k⟩ cc∧x.2.2.1≤p+3+x.1.length*bdP d∧x.2.2.2.length=x.1.length∧(x.2.2.2++(dA (zay b w d) x.2.1 x.2.2.1).1,(dA (zay b w d) x.2.1 x.2.2.1).2)=dA (zay b w d) (zam w ⟨a,k⟩ cc) (p+3)) (fun x=>x.2.1.length) ([],zam w ⟨a,k⟩ cc,p+3,[]) ⟨by simp,by simp,by simp,by simp⟩ ⟨⟨_,rfl,(LeA.eqi (by first|rfl|(simp;done)|omega))⟩,trivial⟩ ⟨(by first|rfl|(simp[getH];done)),⟨(by first|rfl|(simp[getH];done)),⟨zae (by rfl),trivial⟩⟩⟩ (fun x=>rfl) (fun x hg1=>?_)
       obtain⟨pre,rest,q,ks⟩:=x
       dsimp only at hg1 ⊢
       refine evc [] [] ?_
       refine sq (fun h7 h7p h7s=>?_) fun h7 h7p h7s=>?_
       ·try simp only[Q] at h7p
        rcases rest with _|⟨y,rest⟩
        ·exfalso;simp_all
        have hpm:pre.length*bdP d≤2*bdP d:=Nat.mul_le_mul_right _ (by have:=(hfw (by omega)).1;omega)
        refine Walk.idx zaY .none rfl rfl rfl rfl (zaL hg1.1) rfl ?_
        refine evd [] [] ?_
        refine ar ?_
        refine Walk.call (cr:=[]) zkv (zer hb hw hf d (a:=y.data) (k:=y.index) (p:=q) (by omega) (by omega) (by omega) (by omega) ((hfw (by omega)).2 y (by rw[←hg1.1];simp))) rfl .none rfl rfl (LeL.refl _) ⟨rfl,trivial⟩ rfl rfl rfl ?_
        refine Walk.sliceLit sl35 tz37 rfl (by decide) (ks:=[0]) (xs:=[_]) rfl rfl (by decide) (by decide) .none rfl rfl rfl rfl ?_
        refine Walk.append sl35 zz37 rfl .none rfl rfl rfl rfl (zaP rfl (by first|rfl|(simp;done)|(simp;omega))) (by simp) (by have hz:=congrArg List.length hg1.1;have:=(hfw (by omega)).1;simp at hz ⊢;omega) (by have hz:=congrArg List.length hg1.1;have:=(hfw (by omega)).1;simp at hz ⊢;omega) ?_
        refine evd [] [] ?_
        refine Walk.store ty35 .none rfl rfl rfl rfl rfl rfl (by simp) rfl ?_
        refine dr ?_
        refine ar ?_
        refine Exists.intro ((pre++[y],rest,(zay b w d y q).2,ks++[(zay b w d y q).1])) ⟨⟨(by have hz:=hg1.1;rw[←hz];simp),⟨(by have:=ih y q ((hfw (by omega)).2 y (by rw[←hg1.1];simp));simp only[List.length_append,List.length_cons,List.length_nil,Nat.add_mul];omega),(by simp[hg1.2.2.1]),(by rw[←hg1.2.2.2];simp[dA])⟩⟩,(by simp),Sub.x (by kernel_rfl) (by kernel_rfl) ⟨⟨_,rfl,(LeA.eqi (by first|rfl|(simp;done)|omega))⟩,trivial⟩ (by kernel_rfl) (by kernel_rfl) ⟨(by first|rfl|(simp[getH];done)),⟨(by first|rfl|(simp[getH];done)),⟨zae (by(simp;done)),trivial⟩⟩⟩⟩
       ·try simp only[Q] at h7p
        have hrest:rest=[]:=by
         rcases rest with _|⟨a,b⟩
         ·rfl
         ·exfalso;have hz:=congrArg List.length (hg1.1);simp only[List.length_append,List.length_cons,List.length_map] at hz;omega
        subst hrest
        refine Walk.store ty37 .none rfl rfl rfl rfl rfl rfl (by simp) rfl ?_
        refine tv ?_
        refine rn [(900,some (rdB b (zay b w (d+1) ⟨a,k⟩ p).2))] (.cons (.cellA ty37 rfl rfl rfl) .nil) (.agg (.cons (.eqd ?_) (.cons (.eqd ?_) (.cons (.eqd ?_) (.cons (.eqd ?_) (.cons (.eqd ?_) (.cons (.gld ?_) .nil))))))) ⟨rfl,rfl⟩ (SubO.get ⟨.inr (by first|(rw[zhd (by omega)];all_goals rfl)|(rw[zhe (by omega) (by omega)];all_goals rfl)|(rw[zhf (by omega) (by omega) (by omega)];all_goals rfl)|(rw[zhg (by omega) (by omega) (by omega) (by omega)];all_goals rfl)|(rw[zhh (by omega) (by omega) (by omega) (by omega) (by omega)];all_goals rfl)|(rw[zlB (by omega) (by omega) (by omega) (by omega) (by omega) hcc];have hfin:=hg1.2.2.2;simp only[dA,List.append_nil] at hfin;rw[←hfin];all_goals rfl)),⟨.inl rfl,trivial⟩⟩) (zaq rfl)
        all_goals (first|(rw[zhd (by omega)];all_goals first|rfl|(show _=D.sl (Pat.cs _);rw[Pat.cs_cc];all_goals rfl)|(show _=Pat.cs _;rw[Pat.cs_cc];all_goals rfl))|(rw[zhe (by omega) (by omega)];all_goals first|rfl|(show _=D.sl (Pat.cs _);rw[Pat.cs_cc];all_goals rfl)|(show _=Pat.cs _;rw[Pat.cs_cc];all_goals rfl))|(rw[zhf (by omega) (by omega) (by omega)];all_goals first|rfl|(show _=D.sl (Pat.cs _);rw[Pat.cs_cc];all_goals rfl)|(show _=Pat.cs _;rw[Pat.cs_cc];all_goals rfl))|(rw[zhg (by omega) (by omega) (by omega) (by omega)];all_goals first|rfl|(show _=D.sl (Pat.cs _);rw[Pat.cs_cc];all_goals rfl)|(show _=Pat.cs _;rw[Pat.cs_cc];all_goals rfl))|(rw[zhh (by omega) (by omega) (by omega) (by omega) (by omega)];all_goals first|rfl|(show _=D.sl (Pat.cs _);rw[Pat.cs_cc];all_goals rfl)|(show _=Pat.cs _;rw[Pat.cs_cc];all_goals rfl))|(rw[zlB (by omega) (by omega) (by omega) (by omega) (by omega) hcc];have hfin:=hg1.2.2.2;simp only[dA,List.append_nil] at hfin;rw[←hfin];all_goals first|rfl|(show _=D.sl (Pat.cs _);rw[Pat.cs_cc];all_goals rfl)|(show _=Pat.cs _;rw[Pat.cs_cc];all_goals rfl)))
end Go.Proofs.YtflgpdjbgfkhoaaGreat
