/-
  THE ABSTRACT WALK AND THE WALKS, part 4 of 5: the parts F43, F44, F45, F46, F50, F51, F52, F53, F54, F55, F56, F57, F58, F60, F61, F30, F63, F102, F145, Ta, G6, F146, F64, F70, G3, F71, F87, F88, L54.
-/
import Derived.Test.YtlfipehhbdjnjaaGreatT543
namespace Go.Proofs.YtlfipehhbdjnjaaGreat
open Go
set_option linter.unusedSimpArgs false
set_option linter.unusedVariables false
set_option maxRecDepth 100000
set_option maxHeartbeats 2000000
abbrev bdA (b:Bd):List AV:=[.d (.i b.var),.d (.i b.val.ctor),.d (.i b.val.num),.d (zaq b.val.kids)]
def bdC (L:List Bd):List AV:=((L.map Bd.c).flatten).map AV.d
theorem zgF:∀ {L:List Bd}{i:Nat},i<L.length->cutC (bdC L) (i*4) 4=some (bdA (nth L i))
 |x::r,0,_=>by simp[cutC,nth,bdC,Bd.c]
 |x::r,i+1,h=>by
  have:=zgF (L:=r) (i:=i) (by simpa using h);rw[show(i+1)*4=i*4+1+1+1+1 by omega];exact this
theorem zmI:∀ {L:List Bd}{i:Nat}{e:Bd},i<L.length->putC (bdC L) (i*4) (bdA e)=some (bdC (L.set i e))
 |x::r,0,e,_=>by simp[putC,bdC,Bd.c]
 |x::r,i+1,e,h=>by
  have:=zmI (L:=r) (i:=i) (e:=e) (by simpa using h);rw[show(i+1)*4=i*4+1+1+1+1 by omega];show putC (.d _:: .d _:: .d _:: .d _::bdC r) (i*4+1+1+1+1) (bdA e)=_
  simp only[putC,this];rfl
theorem zoD:∀ {L:List Bd}{i:Nat},i<L.length->putC (bdC L) (i*4+1) [.d (.i (nth L i).val.ctor),.d (.i (nth L i).val.num),.d (zaq (nth L i).val.kids)]=some (bdC L)
 |x::r,0,_=>by simp[putC,nth,bdC,Bd.c]
 |x::r,i+1,h=>by
  have:=zoD (L:=r) (i:=i) (by simpa using h);rw[show(i+1)*4+1=i*4+1+1+1+1+1 by omega];show putC (.d _:: .d _:: .d _:: .d _::bdC r) (i*4+1+1+1+1+1) [.d (.i (nth r i).val.ctor),.d (.i (nth r i).val.num),.d (zaq (nth r i).val.kids)]=_
  simp only[putC,this];rfl
theorem zoY (L:List Bd):zbZ (L.map Bd.c).length 4 (bdC L)=some (L.map Bd.c):=by
 have:=zgp (f:=Bd.c) (k:=4) (l:=L) (fun _ _=>rfl);rw[xac,<-this];congr 1
 unfold bdC;rw[List.map_flatten,List.flatMap_def,List.map_map];rfl
def zcB (L:List Bd) (j:Nat):List Bd:=(L.set (j+1) (nth L j)).set j (nth L (j+1))
theorem zgm {L:List Bd}{j:Nat}:(zcB L j).length=L.length:=by simp[zcB]
def zbP:Nat->List Bd->List Bd
 |0,L=>L
 |j+1,L=>if (nth L (j+1)).var<(nth L j).var then zbP j (zcB L j) else L
theorem zp1 {j:Nat}{L:List Bd} (h:(nth L (j+1)).var<(nth L j).var):zbP (j+1) L=zbP j (zcB L j):=by
 conv=>lhs;unfold zbP
 rw[if_pos h]
theorem zoH {j:Nat}{L:List Bd} (h:¬(nth L (j+1)).var<(nth L j).var):zbP (j+1) L=L:=by
 unfold zbP;rw[if_neg h]
theorem ze9:∀(j:Nat) (L:List Bd),(zbP j L).length=L.length
 |0,_=>rfl
 |j+1,L=>by
  unfold zbP;split
  ·rw[ze9 j,zgm]
  ·rfl
def zb9:Nat->Nat->List Bd->List Bd
 |0,_,L=>L
 |k+1,i,L=>zb9 k (i+1) (zbP i L)
theorem zkn {n i:Nat}{L:List Bd} (h:i<n):zb9 (n-i) i L=zb9 (n-(i+1)) (i+1) (zbP i L):=by
 obtain⟨k,rfl⟩:∃k,n=i+1+k:=⟨n-(i+1),by omega⟩;rw[show i+1+k-i=k+1 by omega,show i+1+k-(i+1)=k by omega];rfl
theorem zoI {n i:Nat}{L:List Bd} (h:n<=i):zb9 (n-i) i L=L:=by
 rw[show n-i=0 by omega];rfl
theorem zbk (L:List Bd):AV.idsL (bdC L)=[]:=by
 unfold bdC;generalize (L.map Bd.c).flatten=l;induction l with
 |nil=>rfl
 |cons x r ih=>simpa [AV.idsL,AV.ids] using ih
theorem zrf (b:UInt8):0<=IntKind.i64.wrap (b.toNat:Int)/\IntKind.i64.wrap (b.toNat:Int)<=255:=by
 have h:b.toNat<256:=b.toNat_lt;rw[zfZ ⟨by omega,by omega⟩];omega
theorem ar8 (b:UInt8):I64 (0+IntKind.i64.wrap (b.toNat:Int)):=by
 have:=zrf b;constructor<;>omega
theorem zie {j:Nat}{L:List Bd} (h:j=0\/¬(nth L j).var<(nth L (j-1)).var):zbP j L=L:=by
 cases j with
 |zero=>rfl
 |succ j=>exact zoH (h.resolve_left (by omega))
theorem zgg {L L':List Bd}:zam [(9,some (.box (bdC L)))] [(9,some (.box (bdC L')))] (AV.tup []) []=true:=by
 simp only[zam,List.all_cons,List.all_nil,zaz,zat,AV.idsL,AV.ids,zab,zbk,xae,List.map_nil];rfl
section
variable {c:Ctx}{env:Env}{hp:Hp}{K:Kt}
theorem CWp.condF {x y:Code} (hn:CWp c y ⟨env,hp⟩ K):CWp c (.cond (.const (.bool false)) x y) ⟨env,hp⟩ K:=by
 intro a w hr;have he:a.eval (.const (.bool false)) = .bool false:=rfl;exact wp_cond_split he (fun h=>by cases h) (fun _=>hn a w hr)
end
def cmpV (x y:Int):Int:=if x<y then -1 else if y<x then 1 else 0
theorem zgW {x y:Int}:cmpV x y<0↔x<y:=by
 unfold cmpV;split
 ·omega
 ·split<;>omega
theorem zoO {n:Int} (h:0<=n) (h2:n<=12):IntKind.u64.wrap n=n:=by
 obtain⟨k,rfl⟩:=Int.eq_ofNat_of_zero_le h;have:k<=12:=by omega
 have h3:k=0\/k=1\/k=2\/k=3\/k=4\/k=5\/k=6\/k=7\/k=8\/k=9\/k=10\/k=11\/k=12:=by omega
 rcases h3 with rfl|rfl|rfl|rfl|rfl|rfl|rfl|rfl|rfl|rfl|rfl|rfl|rfl<;>rfl
theorem zpg {n:Int} (h:0<=n) (h2:n<=12):IntKind.u8.wrap n=n:=by
 obtain⟨k,rfl⟩:=Int.eq_ofNat_of_zero_le h;have:k<=12:=by omega
 have h3:k=0\/k=1\/k=2\/k=3\/k=4\/k=5\/k=6\/k=7\/k=8\/k=9\/k=10\/k=11\/k=12:=by omega
 rcases h3 with rfl|rfl|rfl|rfl|rfl|rfl|rfl|rfl|rfl|rfl|rfl|rfl|rfl<;>rfl
theorem zhK {x:Int}:FnD Tryz.prog 240 [.d (.i x)] [] (.d (.bool false)) []:=by
 refine bd Tryz.f240 6 [] [] fun w0 F0 own kept hk=>?_;refine rq ?_;rotate_left;all_goals ((refine congrArg D.bool ?_;simp;done))
theorem zkE {x y:Int}:FnD Tryz.prog 149 [.d (.i x),.d (.i y)] [] (.d (.i (cmpV x y))) []:=by
 refine bd Tryz.f149 20 [] [] fun w0 F0 own kept hk=>?_;refine wc zn4 (zhK) rfl rfl ?_;refine ev ?_;refine wc zn4 (zhK) rfl rfl ?_;refine ev ?_;refine sq ?_ ?_<;>intro h1 h1p h1s<;>(try simp only[Q] at h1p);refine sq ?_ ?_<;>intro h2 h2p h2s<;>(try simp only[Q] at h2p);refine rq ?_;rotate_left;refine rq ?_;rotate_left;refine sq ?_ ?_<;>intro h3 h3p h3s<;>(try simp only[Q] at h3p);refine rq ?_;rotate_left;refine sq ?_ ?_<;>intro h4 h4p h4s<;>(try simp only[Q] at h4p);refine rq ?_;rotate_left;refine sq ?_ ?_<;>intro h5 h5p h5s<;>(try simp only[Q] at h5p);refine rq ?_;rotate_left;refine rq ?_;rotate_left;all_goals (refine congrArg D.i ?_;unfold cmpV;first|(simp_all;done)|(rw[if_pos (by omega)];done)|(rw[if_neg (by omega),if_neg (by omega)];done))
theorem zfh {a b:Bd}:FnD Tryz.prog 148 [.agg (bdA a),.agg (bdA b)] [] (.d (.i (cmpV a.var b.var))) []:=by
 refine bd Tryz.f148 10 [] [] fun w0 F0 own kept hk=>?_;refine bx 3002 ?_;refine bx 3003 ?_;refine ev ?_;refine wc zqh (zkE) rfl rfl ?_;refine ev ?_;refine rq ?_;rotate_left;all_goals (rfl)
theorem zlF {m:Int} (h0:0<=m) (h12:m<=12):FnD Tryz.prog 316 [.d (.int .u64 m)] [] .any []:=by
 have hu:=zpg h0 h12;refine bd Tryz.f316 25 [4,8,14] [] fun w0 F0 own kept hk=>?_;refine xaJ .none rfl rfl rfl ?_;refine tv ?_;refine sq ?_ ?_<;>intro h1 h1p h1s<;>(try simp only[Q] at h1p);exfalso;omega;refine xaJ .none rfl rfl rfl ?_;refine tv ?_;refine sq ?_ ?_<;>intro h2 h2p h2s<;>(try simp only[Q] at h2p);exfalso;omega;refine xaJ .none rfl rfl rfl ?_;refine tv ?_;refine sq ?_ ?_<;>intro h3 h3p h3s<;>(try simp only[Q] at h3p);exfalso;omega;refine xaI (k':= .u8) (by kernel_rfl) (by kernel_rfl) .none rfl rfl ?_;refine xaN (i:=m.toNat) un9 .none rfl rfl rfl (by rw[hu];omega) (List.getElem?_eq_getElem (by first|omega|(simp;omega))) ?_;refine xaI (by rw[un5];rfl) un3 .none rfl rfl ?_;refine evs [4,8,14] [] ?_;refine ar ?_ (ar8 _);refine rn0 (r1 rfl) (.any _)
theorem zqH:Callee Tryz.prog 316:=⟨fun args w=>zae (fn:=Tryz.f316) rfl rfl (by decide) args w⟩
theorem ziR {m:Int} (h0:0<=m) (h12:m<=12):FnD Tryz.prog 239 [.d (.int .u64 m)] [] .any []:=by
 refine Fn.body (fn:=Tryz.f239) (n:=8) rfl rfl rfl rfl rfl (fun w0 F0 own kept hk=>?_);refine sr ?_;refine asg ?_;refine tv ?_;refine CWp.seq ?_;refine CWp.condF ?_;refine CWp.skip ?_;refine sr ?_;refine mv ?_;refine wc zqH (zlF h0 h12) rfl rfl ?_;refine asg ?_;refine tv ?_;refine CWp.ret ?_;refine⟨_,_,[],(.cons (.tmp rfl) .nil),(.any _),⟨rfl,rfl⟩,HSub.nil,zpI⟩
theorem zf0 {L:List Bd}{f:Nat} (hn:L.length<=12) (hcal:Callee Tryz.prog f) (hf:∀a b:Bd,FnD Tryz.prog f ([.agg (bdA a),.agg (bdA b)]++[]) [] (.d (.i (cmpV a.var b.var))) []):
  FnD Tryz.prog 307 [.ms 9 L.length,.d (.i 0),.d (.i L.length),.fn f []] [(9,some (.box (bdC L)))] (.tup []) [(9,some (.box (bdC (zb9 (L.length-1) 1 L))))]:=by
 refine bd Tryz.f307 53 [26,31,46,50] [] fun w0 F0 own kept hk=>?_;refine ar ?_;refine xam (ι:=Nat×List Bd) hk (fun x=>[(8,.d (.i (x.1:Int)))]) [9,12,13,14,15,16,17,18,19,20,21,22,23,24,25,26,27,28,29,30,31,32,33,34,35,36,37,38,39,40,41,42,43,44,45,46,47,48,49,50,51,52] (fun x=>[(9,some (.box (bdC x.2)))]) (fun x=>1<=x.1/\x.1<=L.length+1/\x.2.length=L.length/\zb9 (L.length-x.1) x.1 x.2=zb9 (L.length-1) 1 L) (fun x=>L.length-x.1) (1,L) ⟨by simp,by simp,rfl,rfl⟩ ⟨⟨_,rfl,xau ?_⟩,trivial⟩ ⟨?_,trivial⟩ (fun x=>rfl) (fun x hg1=>?_);focus (first|rfl|omega)
 focus (first|rfl|(show some (Res.box _)=some (Res.box _);rw[<-hg2.2.2,zie (by first|(left;omega)|(right;rw[<-zgW];assumption))]))
 refine evc [26,31,46,50] [] ?_;refine sq ?_ ?_<;>intro h1 h1p h1s<;>(try simp only[Q] at h1p);refine xam (ι:=Nat×List Bd) hk (fun y=>[(9,.d (.i (y.1:Int)))]) [18,19,20,21,22,23,24,25,26,27,28,29,30,31,32,33,34,35,36,37,38,39,40,41,42,43,44,45,46,47,48,49,50,51,52] (fun y=>[(9,some (.box (bdC y.2)))]) (fun y=>y.1<=x.1/\y.2.length=L.length/\zbP y.1 y.2=zbP x.1 x.2) (fun y=>y.1) (x.1,x.2) ⟨Nat.le_refl _,hg1.2.2.1,rfl⟩ ⟨⟨_,rfl,xau ?_⟩,trivial⟩ ⟨?_,trivial⟩ (fun x=>rfl) (fun y hg2=>?_);focus (first|rfl|omega)
 focus (first|rfl|(show some (Res.box _)=some (Res.box _);unfold zcB;rw[show y.1-1+1=y.1 by omega]))
 refine evc [26,31,46,50] [] ?_;refine sq ?_ ?_<;>intro h2 h2p h2s<;>(try simp only[Q] at h2p);refine xaM sl52 (.some rfl rfl h2) rfl rfl rfl rfl (by omega) ?_;refine xaQ zeY (.some rfl rfl h2) rfl rfl rfl ((zgF (by omega))) ?_;refine evd [26,31,46,50] [(21,true)] ?_ ⟨⟨_,rfl,h2⟩,trivial⟩;refine ar ?_;refine xaM (i:=y.1-1) sl52 (.some rfl rfl h2) rfl rfl rfl (by omega) (by omega) ?_;refine xaQ zeY (.some rfl rfl h2) rfl rfl rfl ((zgF (by omega))) ?_;refine xaG (cr:=[]) hcal (hf _ _) rfl (.some rfl rfl h2) rfl rfl rfl (LeL.refl _) trivial rfl (by first|rfl|(simp only[zam,List.all_cons,List.all_nil,zaz,zat,AV.idsL,AV.ids,zab,zaa,xae,List.map_nil,zbk];rfl)) (by first|rfl|(simp only[zaf,occH,occE,Res.ids,xag,List.nil_append,AV.idsL,AV.ids,zab,zaa,zad,zaj,xae,List.map_nil,upC,zbk];rfl)) ?_;refine evd [26,31,46,50] [(21,true)] ?_ ⟨⟨_,rfl,h2⟩,trivial⟩;refine dr ?_;refine sq ?_ ?_<;>intro h3 h3p h3s<;>(try simp only[Q] at h3p);refine ar ?_;refine ar ?_;refine xaM (i:=y.1-1) sl52 .none rfl rfl rfl (by omega) (by omega) ?_;refine xaQ zeY .none rfl rfl rfl ((zgF (by omega))) ?_;refine evd [26,31,46,50] [] ?_;refine xaM sl52 .none rfl rfl rfl rfl (by omega) ?_;refine xaQ zeY .none rfl rfl rfl ((zgF (by omega))) ?_;refine xaM sl52 .none rfl rfl rfl rfl (by omega) ?_;refine Walk.store zeY .none rfl rfl rfl rfl rfl rfl (by simp) ((zmI (by first|omega|(simp;omega)))) ?_;refine xaM (i:=y.1-1) sl52 .none rfl rfl rfl (by omega) (by omega) ?_;refine Walk.store zeY .none rfl rfl rfl rfl rfl rfl (by simp) ((zmI (by first|omega|(simp;omega)))) ?_;refine dr ?_;refine ar ?_;refine xah ((y.1-1,zcB y.2 (y.1-1))) ⟨⟨by dsimp only;omega,by dsimp only;rw[zgm];exact hg2.2.1,by have hlt:(nth y.2 (y.1-1+1)).var<(nth y.2 (y.1-1)).var:=(by rw[show y.1-1+1=y.1 by omega];exact zgW.1 (by assumption));have hk:=zp1 hlt;rw[show y.1-1+1=y.1 by omega] at hk;dsimp only;rw[<-hk];exact hg2.2.2⟩,(by dsimp only;omega),sx ⟨⟨_,rfl,xau ?_⟩,trivial⟩ ⟨?_,trivial⟩⟩;focus (first|rfl|omega)
 focus (first|rfl|(show some (Res.box _)=some (Res.box _);unfold zcB;rw[show y.1-1+1=y.1 by omega]))
 refine ar ?_;refine xah ((x.1+1,zbP x.1 x.2)) ⟨⟨by dsimp only;omega,by dsimp only;omega,by dsimp only;rw[ze9];exact hg1.2.2.1,by dsimp only;rw[<-zkn (by omega)];exact hg1.2.2.2⟩,(by dsimp only;omega),sx ⟨⟨_,rfl,xau ?_⟩,trivial⟩ ⟨?_,trivial⟩⟩;focus (first|rfl|omega)
 focus (first|rfl|(show some (Res.box _)=some (Res.box _);rw[<-hg2.2.2,zie (by first|(left;omega)|(right;rw[<-zgW];assumption))]))
 refine dr ?_;refine sqF ?_;refine ar ?_;refine xah ((x.1+1,zbP x.1 x.2)) ⟨⟨by dsimp only;omega,by dsimp only;omega,by dsimp only;rw[ze9];exact hg1.2.2.1,by dsimp only;rw[<-zkn (by omega)];exact hg1.2.2.2⟩,(by dsimp only;omega),sx ⟨⟨_,rfl,xau ?_⟩,trivial⟩ ⟨?_,trivial⟩⟩;focus (first|rfl|omega)
 focus (first|rfl|(show some (Res.box _)=some (Res.box _);rw[<-hg2.2.2,zie (by first|(left;omega)|(right;rw[<-zgW];assumption))]))
 refine rn [(9,some (.box (bdC (zb9 (L.length-1) 1 L))))] .nil (.refl _) ⟨rfl,rfl⟩ (SubO.get ⟨.inr ?_,⟨.inl rfl,trivial⟩⟩) (zaE rfl);rotate_left;all_goals (first|((rfl);done)|(show some (Res.box _)=some (Res.box _);rw[<-hg1.2.2.2,zoI (by omega)]))
theorem zfU {f:Nat}:FnD Tryz.prog 307 [.d (.sl []),.d (.i 0),.d (.i 0),.fn f []] [] (.tup []) []:=by
 refine bd Tryz.f307 53 [] [] fun w0 F0 own kept hk=>?_;refine ar ?_;refine xam (ι:=Unit) hk (fun u=>[(8,.d (.i 1))]) [9,12,13,14,15,16,17,18,19,20,21,22,23,24,25,26,27,28,29,30,31,32,33,34,35,36,37,38,39,40,41,42,43,44,45,46,47,48,49,50,51,52] (fun u=>[]) (fun u=>True) (fun u=>0) () trivial ⟨⟨_,rfl,xau ?_⟩,trivial⟩ trivial (fun x=>rfl) (fun u hg1=>?_);focus ((simp;done))
 refine evc [] [] ?_;refine sq ?_ ?_<;>intro h1 h1p h1s<;>(try simp only[Q] at h1p);exfalso;simp at h1;refine rn0 .nil (.refl _)
theorem ziN {L:List Bd}{f:Nat} (hn:L.length<=12) (hcal:Callee Tryz.prog f) (hf:∀a b:Bd,FnD Tryz.prog f ([.agg (bdA a),.agg (bdA b)]++[]) [] (.d (.i (cmpV a.var b.var))) []):
  FnD Tryz.prog 238 [.ms 9 L.length,.d (.i 0),.d (.i L.length),.any,.fn f []] [(9,some (.box (bdC L)))] (.tup []) [(9,some (.box (bdC (zb9 (L.length-1) 1 L))))]:=by
 refine bd Tryz.f238 148 [] [] fun w0 F0 own kept hk=>?_;refine xam (ι:=Unit) hk (fun u=>[(1,.d (.i 0)),(2,.d (.i (L.length:Int)))]) [3,10,11,12,13,14,15,16,17,18,19,20,21,22,23,24,25,26,27,28,29,30,31,32,33,34,35,36,37,38,39,40,41,42,43,44,45,46,47,48,49,50,51,52,53,54,55,56,57,58,59,60,61,62,63,64,65,66,67,68,69,70,71,72,73,74,75,76,77,78,79,80,81,82,83,84,85,86,87,88,89,90,91,92,93,94,95,96,97,98,99,100,101,102,103,104,105,106,107,108,109,110,111,112,113,114,115,116,117,118,119,120,121,122,123,124,125,126,127,128,129,130,131,132,133,134,135,136,137,138,139,140,141,142,143,144,145,146,147] (fun u=>[(9,some (.box (bdC L)))]) (fun u=>True) (fun u=>0) () trivial ⟨⟨_,rfl,xau ?_⟩,⟨⟨_,rfl,xau ?_⟩,trivial⟩⟩ ⟨?_,trivial⟩ (fun x=>rfl) (fun u hg1=>?_);iterate 2 focus ((simp;done))
 focus (first|rfl|(simp[getH];done))
 refine evc [] [] ?_;refine ar ?_;refine sq ?_ ?_<;>intro h1 h1p h1s<;>(try simp only[Q] at h1p);refine Walk.call (cr:=[]) zob (zf0 hn hcal hf) rfl .none rfl rfl (.cons (xav (by first|rfl|(simp;done))) (.cons (.refl _) (.cons (.refl _) (.cons (.refl _) .nil)))) ⟨rfl,trivial⟩ rfl zgg rfl ?_;refine tv ?_;refine rn [(9,some (.box (bdC (zb9 (L.length-1) 1 L))))] .nil (.refl _) ⟨rfl,rfl⟩ (SubO.get ⟨.inr ?_,⟨.inl rfl,trivial⟩⟩) (zaE rfl);rotate_left;exfalso;omega;all_goals (first|((rfl);done)|(rfl))
theorem zig {f:Nat}:FnD Tryz.prog 238 [.d (.sl []),.d (.i 0),.d (.i 0),.any,.fn f []] [] (.tup []) []:=by
 refine bd Tryz.f238 148 [] [] fun w0 F0 own kept hk=>?_;refine xam (ι:=Unit) hk (fun u=>[(1,.d (.i 0)),(2,.d (.i 0))]) [3,10,11,12,13,14,15,16,17,18,19,20,21,22,23,24,25,26,27,28,29,30,31,32,33,34,35,36,37,38,39,40,41,42,43,44,45,46,47,48,49,50,51,52,53,54,55,56,57,58,59,60,61,62,63,64,65,66,67,68,69,70,71,72,73,74,75,76,77,78,79,80,81,82,83,84,85,86,87,88,89,90,91,92,93,94,95,96,97,98,99,100,101,102,103,104,105,106,107,108,109,110,111,112,113,114,115,116,117,118,119,120,121,122,123,124,125,126,127,128,129,130,131,132,133,134,135,136,137,138,139,140,141,142,143,144,145,146,147] (fun u=>[]) (fun u=>True) (fun u=>0) () trivial ⟨⟨_,rfl,xau ?_⟩,⟨⟨_,rfl,xau ?_⟩,trivial⟩⟩ trivial (fun x=>rfl) (fun u hg1=>?_);iterate 2 focus ((simp;done))
 refine evc [] [] ?_;refine ar ?_;refine sq ?_ ?_<;>intro h1 h1p h1s<;>(try simp only[Q] at h1p);refine wc zob (zfU) rfl rfl ?_;refine tv ?_;refine rn0 .nil (.refl _);exfalso;simp at h1
theorem zfa {L:List Bd}{f:Nat} (hn:L.length<=12) (hcal:Callee Tryz.prog f) (hf:∀a b:Bd,FnD Tryz.prog f ([.agg (bdA a),.agg (bdA b)]++[]) [] (.d (.i (cmpV a.var b.var))) []):
  FnD Tryz.prog 147 [.ms 9 L.length,.fn f []] [(9,some (.box (bdC L)))] (.tup []) [(9,some (.box (bdC (zb9 (L.length-1) 1 L))))]:=by
 have hu:=zoO (n:=(L.length:Int)) (by omega) (by omega);refine bd Tryz.f147 14 [] [] fun w0 F0 own kept hk=>?_;refine xaI (k':= .u64) (by kernel_rfl) (by kernel_rfl) .none rfl rfl ?_;refine Walk.call (cr:=[]) zn3 (ziR (by rw[hu];omega) (by rw[hu];omega)) rfl .none rfl rfl (LeL.refl _) trivial rfl (by first|rfl|(simp only[zam,List.all_cons,List.all_nil,zaz,zat,AV.idsL,AV.ids,zab,zaa,xae,List.map_nil,zbk];rfl)) (by first|rfl|(simp only[zaf,occH,occE,Res.ids,xag,List.nil_append,AV.idsL,AV.ids,zab,zaa,zad,zaj,xae,List.map_nil,upC,zbk];rfl)) ?_;refine ev ?_;refine Walk.call (cr:=[]) zn2 (ziN hn hcal hf) rfl .none rfl rfl (.cons (xav (by first|rfl|(simp;done))) (.cons (.refl _) (.cons (.refl _) (.cons (.refl _) (.cons (.refl _) .nil))))) ⟨rfl,trivial⟩ rfl zgg rfl ?_;refine tv ?_;refine rn [(9,some (.box (bdC (zb9 (L.length-1) 1 L))))] .nil (.refl _) ⟨rfl,rfl⟩ (SubO.get ⟨.inr ?_,⟨.inl rfl,trivial⟩⟩) (zaE rfl);rotate_left;all_goals (first|((rfl);done)|(rfl))
theorem zhA {f:Nat}:FnD Tryz.prog 147 [.d (.sl []),.fn f []] [] (.tup []) []:=by
 refine bd Tryz.f147 14 [] [] fun w0 F0 own kept hk=>?_;refine xaI (k':= .u64) (by kernel_rfl) (by kernel_rfl) .none rfl rfl ?_;refine wc zn3 (ziR (m:=IntKind.u64.wrap 0) (by decide) (by decide)) rfl rfl ?_;refine ev ?_;refine wc zn2 (zig) rfl rfl ?_;refine tv ?_;refine rn0 .nil (.refl _)
theorem znK {L:List Bd}{j:Nat} (h:j+1<L.length):(zcB L j).Perm L:=by
 have e:L=L.take j++nth L j::nth L (j+1)::L.drop (j+2):=by
  have h1:L.drop j=nth L j::L.drop (j+1):=zaS (by omega);have h2:L.drop (j+1)=nth L (j+1)::L.drop (j+2):=zaS (by omega);conv=>lhs;rw[<-List.take_append_drop j L,h1,h2]
 have hl:(L.take j).length=j:=by rw[List.length_take];omega
 generalize nth L j=x at e;generalize nth L (j+1)=y at e;generalize L.take j=A at *;generalize L.drop (j+2)=B at *;subst e;have n1:nth (A++x::y::B) j=x:=by rw[<-hl];simp[nth,List.getD]
 have n2:nth (A++x::y::B) (j+1)=y:=by rw[<-hl];simp[nth,List.getD]
 unfold zcB;rw[n1,n2];have s1:((A++x::y::B).set (j+1) x).set j y=A++y::x::B:=by
  rw[<-hl];simp
 rw[s1];exact(List.Perm.swap x y B).append_left A
theorem zkl:∀(j:Nat) (L:List Bd),j<L.length->(zbP j L).Perm L
 |0,L,_=>List.Perm.refl _
 |j+1,L,h=>by
  unfold zbP;split
  ·exact(zkl j (zcB L j) (by rw[zgm];omega)).trans (znK h)
  ·exact List.Perm.refl _
theorem zko:∀(k i:Nat) (L:List Bd),i+k<=L.length->(zb9 k i L).Perm L
 |0,_,_,_=>List.Perm.refl _
 |k+1,i,L,h=>by
  unfold zb9;exact(zko k (i+1) (zbP i L) (by rw[ze9];omega)).trans (zkl i L (by omega))
def zci (L:List Bd):List Bd:=zb9 (L.length-1) 1 L
theorem zdM (L:List Bd):(zci L).Perm L:=by
 cases L with
 |nil=>exact List.Perm.refl _
 |cons x r=>exact zko _ _ _ (by simp;omega)
theorem zec (L:List Bd):(zci L).length=L.length:=(zdM L).length_eq
theorem zjy {m:Nat}{L:List Bd} (h:BdOk m L):BdOk m (zci L):=fun x hx=>h x ((zdM L).mem_iff.1 hx)
def zbc (n:Nat) (p:Pat) (v:Val):List Bd×Bool:=if (zak n p v).2=true then (zci (zak n p v).1,true) else ([],false)
theorem zm9 (n:Nat) (p:Pat) (v:Val):(zbc n p v).2=(zak n p v).2:=by
 unfold zbc;split<;>simp_all
structure MatchOk (w:List Data) (n m:Nat) (t:Ty) (p:Pat) (v:Val):Prop where
 shape:zav w n t p=true
 fits:zbV w m t v=true
 pok:p.ok
 vok:v.ok
 psz:p.size<=100
 vsz:v.size<=100
theorem MatchOk.kid {w:List Data}{n m:Nat}{t:Ty}{p:Pat}{v:Val} (h:MatchOk w (n+1) m t p v) (h4:p.op=4) (hc:p.ctor=v.ctor):
  p.kids.length=v.kids.length/\∃k,∀i,i<p.kids.length->MatchOk w n k (nth (zag w t p) i) (nth p.kids i) (nth v.kids i):=by
 obtain⟨ho,hlen⟩:=zch h.shape;have hct:=zcb ho h4;have hdt:t.data≠ -1:=fun e=>by unfold zbg at hct;rw[if_pos e] at hct;simp at hct
 have hk:=fun i (hi:i<p.kids.length)=>zbx h.shape hi;have hpk:=(Pat.ok_iff p).1 h.pok;have hvk:=(Val.ok_iff v).1 h.vok;have hps:=Pat.size_eq p;have hvs:=Val.size_eq v;cases m with
 |zero=>have:=h.fits;simp[zbV] at this
 |succ m=>
  obtain⟨f1,f2,f3⟩:=zor h.fits hdt;have ht4:=zq8 (w:=w) (t:=t) h4;rw[ht4] at hlen;rw[<-hc] at f2 f3;refine⟨by omega,m,fun i hi=>?_⟩;have z1:=za9 (l:=p.kids) hi;have z2:=zjq (l:=v.kids) (i:=i) (by omega);refine⟨hk i hi,by rw[ht4];exact f3 i (by omega),Pats.ok_mem hpk.2 _ (zap hi),Vals.ok_mem hvk.2 _ (zap (by omega)), ?_, ?_⟩
  ·have:=h.psz;omega
  ·have:=h.vsz;omega
theorem MatchOk.two {w:List Data}{n m:Nat}{t:Ty}{p:Pat}{v:Val} (h:MatchOk w (n+1) m t p v) (h5:p.op=5):
  p.kids.length=2/\MatchOk w n m t (nth p.kids 0) v/\MatchOk w n m t (nth p.kids 1) v:=by
 obtain⟨hl,s0,s1⟩:=zid h.shape h5;have hpk:=(Pat.ok_iff p).1 h.pok;have hps:=Pat.size_eq p;have z0:=za9 (l:=p.kids) (i:=0) (by omega);have z1:=za9 (l:=p.kids) (i:=1) (by omega);have hs:=h.psz;exact⟨hl,⟨s0,h.fits,Pats.ok_mem hpk.2 _ (zap (by omega)),h.vok,by omega,h.vsz⟩,⟨s1,h.fits,Pats.ok_mem hpk.2 _ (zap (by omega)),h.vok,by omega,h.vsz⟩⟩
theorem MatchOk.one {w:List Data}{n m:Nat}{t:Ty}{p:Pat}{v:Val} (h:MatchOk w (n+1) m t p v) (h6:p.op=6):
  p.kids.length=1/\MatchOk w n m t (nth p.kids 0) v:=by
 obtain⟨hl,s0⟩:=zic h.shape h6;have hpk:=(Pat.ok_iff p).1 h.pok;have hps:=Pat.size_eq p;have z0:=za9 (l:=p.kids) (i:=0) (by omega);have hs:=h.psz;exact⟨hl,⟨s0,h.fits,Pats.ok_mem hpk.2 _ (zap (by omega)),h.vok,by omega,h.vsz⟩⟩
theorem zd7 (l:List Bd):∀x∈l.map Bd.c,x.length=4:=fun x hx=>by
 obtain⟨y,_,rfl⟩:=List.mem_map.1 hx;rfl
theorem zbN {w:List Data}:∀(n m:Nat){t:Ty}{p:Pat}{v:Val},MatchOk w n m t p v->
  FnD Tryz.prog 146 [.agg [.d (.i p.op),.d (.i p.ctor),.d (.i p.n),.d (.i p.m),.d (.i p.var),.d (zaw p.kids)],.agg [.d (.i v.ctor),.d (.i v.num),.d (zaq v.kids)]] [] (.tup [.d (zbm (zak n p v).1),.d (.bool (zak n p v).2)]) []
 |0,m,t,p,v,h=>by have:=h.shape;simp[zav] at this
 |n+1,m,t,p,v,h=>by
  have hop:=zeL h.shape;have k4:=h.kid;have k5:=h.two;have k6:=h.one;have hsz:=h.psz;have hps:=Pat.size_eq p;have hkl:=((Pat.ok_iff p).1 h.pok).1;have mok:=fun {t:Ty}{q:Pat}{u:Val} (hs:zav w n t q=true) (hu:u.ok)=>zb2 n hs hu;by_cases c4:p.op=4/\p.ctor=v.ctor
  ·obtain⟨hl,k,hkm⟩:=k4 c4.1 c4.2;have hm4:=ziA (n:=n) c4.1 c4.2;refine bd Tryz.f146 105 [10] [] fun w0 F0 own kept hk=>?_;refine bx 3002 ?_;refine bx 3003 ?_;refine evs [10] [] ?_;refine sq ?_ ?_<;>intro h1 h1p h1s<;>(try simp only[Q,Pat.cs_len] at h1p);exfalso;omega;refine sq ?_ ?_<;>intro h2 h2p h2s<;>(try simp only[Q,Pat.cs_len] at h2p);exfalso;omega;refine sq ?_ ?_<;>intro h3 h3p h3s<;>(try simp only[Q,Pat.cs_len] at h3p);exfalso;omega;refine sq ?_ ?_<;>intro h4 h4p h4s<;>(try simp only[Q,Pat.cs_len] at h4p);exfalso;omega;refine sq ?_ ?_<;>intro h5 h5p h5s<;>(try simp only[Q,Pat.cs_len] at h5p);exfalso;omega;refine sq ?_ ?_<;>intro h6 h6p h6s<;>(try simp only[Q,Pat.cs_len] at h6p);exfalso;omega;refine xaB 1 4 .none rfl rfl ?_;refine tv ?_;refine xam (ι:=Nat×List Bd) hk (fun x=>[(83,.d (.i (x.1:Int))),(10,.gl 1 (x.2.map Bd.c))]) [4,5,11,12,13,14,84,85,86,87,88,89,90,91,92,93,94,95,96,97,98,99,100,101,102,103] (fun x=>[(1,some (.tok ((x.2.map Bd.c)).length 4))]) (fun x=>x.1<=p.kids.length/\zbb (zak n) (p.kids.drop x.1) (v.kids.drop x.1) x.2=zbb (zak n) p.kids v.kids []/\x.2.length+Pats.size (p.kids.drop x.1)<=Pats.size p.kids) (fun x=>p.kids.length-x.1) (0,[]) ⟨by simp,rfl,by simp⟩ ⟨⟨_,rfl,xau ?_⟩,⟨⟨_,rfl,LeA.glg ?_⟩,trivial⟩⟩ ⟨zas ?_,trivial⟩ (fun x=>rfl) (fun x hg1=>?_);iterate 3 focus (first|rfl|omega|(simp;done)|(simp;omega))
   refine evc [10] [] ?_;refine sq ?_ ?_<;>intro h7 h7p h7s<;>(try simp only[Q,Pat.cs_len] at h7p);refine xaK sl34 .none rfl rfl rfl rfl (za5 (by omega)) rfl ?_;refine evs [10] [] ?_;refine ab 3012 tz36 ?_;refine evs [10] [] ?_;refine so ty36 ?_;refine tv ?_;refine xaK sl47 .none rfl rfl rfl rfl (zed (by omega)) rfl ?_;refine evd [10] [] ?_;refine wc zc3 (zbN n k (hkm x.1 (by omega))) rfl rfl ?_;refine evd [10] [] ?_;refine dr ?_;refine sq ?_ ?_<;>intro h8 h8p h8s<;>(try simp only[Q,Pat.cs_len] at h8p);refine rn0 (r2 rfl rfl) (.tup (.cons (.nild ?_) (.cons (.eqd ?_) .nil)));rotate_left 2;refine ap sl52 zfH rfl rfl rfl (by intro x hx;exact zd7 _ x hx) (by have:=(mok (hkm x.1 (by omega)).shape (hkm x.1 (by omega)).vok).2;have:=zce (l:=p.kids) (i:=x.1) (by omega);have:=hg1.2.2;simp;omega) ?_;refine asg ?_;refine tv ?_;refine ar ?_;refine xah ((x.1+1,x.2++(zak n (nth p.kids x.1) (nth v.kids x.1)).1)) ⟨⟨by dsimp only;omega,by dsimp only;rw[<-ziZ (by omega) (by omega) (by simp_all)];exact hg1.2.1,by have:=(mok (hkm x.1 (by omega)).shape (hkm x.1 (by omega)).vok).2;have:=zce (l:=p.kids) (i:=x.1) (by omega);have:=hg1.2.2;dsimp only;rw[xaa];omega⟩,(by dsimp only;omega),sx ⟨⟨_,rfl,xau ?_⟩,⟨⟨_,rfl,LeA.glg ?_⟩,trivial⟩⟩ ⟨zas ?_,trivial⟩⟩;iterate 3 focus (first|rfl|omega|(simp;done)|(simp;omega))
   refine rn0 (r2 rfl rfl) (.tup (.cons (.gld ?_) (.cons (.eqd ?_) .nil)));rotate_left 2;all_goals (first|(rw[hm4,<-hg1.2.1,zj6 (by omega)];all_goals rfl)|(rw[hm4,<-hg1.2.1,znC (by omega) (by omega) (by simp_all)];all_goals rfl))
  ·have hn4:p.op=4->zak (n+1) p v=([],false):=fun h4=>zg3 h4 (fun hc=>c4 ⟨h4,hc⟩);refine bd Tryz.f146 105 [] [] fun w0 F0 own kept hk=>?_;refine bx 3002 ?_;refine bx 3003 ?_;refine ev ?_;refine sq ?_ ?_<;>intro h1 h1p h1s<;>(try simp only[Q,Pat.cs_len] at h1p);refine rn0 (r2 rfl rfl) (.tup (.cons (.nild ?_) (.cons (.eqd ?_) .nil)));rotate_left 2;refine sq ?_ ?_<;>intro h2 h2p h2s<;>(try simp only[Q,Pat.cs_len] at h2p);refine bu [0,1] [_,_] zhf ?_;refine si [0] [_] sl52 zfE ?_;refine ev ?_;refine rn0 (r2 rfl rfl) (.tup (.cons (.eqd ?_) (.cons (.eqd ?_) .nil)));rotate_left 2;refine sq ?_ ?_<;>intro h3 h3p h3s<;>(try simp only[Q,Pat.cs_len] at h3p);refine wc zcP (zaZ) rfl rfl ?_;refine ev ?_;refine rn0 (r2 rfl rfl) (.tup (.cons (.nild ?_) (.cons (.eqd ?_) .nil)));rotate_left 2;refine sq ?_ ?_<;>intro h4 h4p h4s<;>(try simp only[Q,Pat.cs_len] at h4p);refine xaK (i:=0) sl34 .none rfl rfl rfl rfl (za5 (by first|(have:=(k5 (by omega)).1;omega)|(have:=(k6 (by omega)).1;omega))) rfl ?_;refine evd [] [] ?_;refine wc zc3 (zbN n m (k5 (by omega)).2.1) rfl rfl ?_;refine evd [] [] ?_;refine dr ?_;refine sq ?_ ?_<;>intro h5 h5p h5s<;>(try simp only[Q,Pat.cs_len] at h5p);refine rn0 (r2 rfl rfl) (.tup (.cons (.eqd ?_) (.cons (.eqd ?_) .nil)));rotate_left 2;refine xaK (i:=1) sl34 .none rfl rfl rfl rfl (za5 (by first|(have:=(k5 (by omega)).1;omega)|(have:=(k6 (by omega)).1;omega))) rfl ?_;refine evd [] [] ?_;refine wc zc3 (zbN n m (k5 (by omega)).2.2) rfl rfl ?_;refine evd [] [] ?_;refine dr ?_;refine rn0 (r2 rfl rfl) (.tup (.cons (.eqd ?_) (.cons (.eqd ?_) .nil)));rotate_left 2;refine sq ?_ ?_<;>intro h6 h6p h6s<;>(try simp only[Q,Pat.cs_len] at h6p);refine xaK (i:=0) sl34 .none rfl rfl rfl rfl (za5 (by first|(have:=(k5 (by omega)).1;omega)|(have:=(k6 (by omega)).1;omega))) rfl ?_;refine evd [] [] ?_;refine wc zc3 (zbN n m (k6 (by omega)).2) rfl rfl ?_;refine evd [] [] ?_;refine dr ?_;refine bu [0,1] [_,_] zhf ?_;refine xa4 2 sl52 zfE rfl (by decide) (ks:=[0]) (xs:=[_]) rfl rfl (by decide) (by decide) .none rfl rfl rfl rfl rfl ?_;refine ev ?_;refine ap sl52 zfH rfl rfl rfl (by intro x hx;exact zd7 _ x hx) (by have:=(mok (k6 (by omega)).2.shape h.vok).2;have:=za9 (l:=p.kids) (i:=0) (by have:=(k6 (by omega)).1;omega);simp;omega) ?_;refine ev ?_;refine rn0 (r2 rfl rfl) (.tup (.cons (.gld ?_) (.cons (.eqd ?_) .nil)));rotate_left 2;refine sq ?_ ?_<;>intro h7 h7p h7s<;>(try simp only[Q,Pat.cs_len] at h7p);refine rn0 (r2 rfl rfl) (.tup (.cons (.nild ?_) (.cons (.eqd ?_) .nil)));rotate_left 2;exfalso;apply c4;omega;all_goals (first|(rw[zgL (by omega)];all_goals rfl)|(rw[zgM (by omega)];all_goals rfl)|(rw[zfM (by omega)];all_goals rfl)|(rw[zg4 (by omega) (by assumption)];all_goals rfl)|(rw[zg5 (by omega) (by simp_all)];all_goals rfl)|(rw[zfN (by omega)];all_goals rfl)|(rw[hn4 (by omega)];all_goals rfl))
structure VarsOk (l:List Bd) (vs:List Vt):Prop where
 len:l.length=vs.length
 nod:(l.map Bd.var).Nodup
 sub:∀x∈l.map Bd.var,x∈vs.map Vt.var
theorem zi0 {f:Pat->Val->List Bd×Bool}{g:Ty->Pat->List Vt}:∀ {a:List Ty}{b:List Pat}{c:List Val}{acc:List Bd},a.length=b.length->b.length=c.length->
  (∀i,i<b.length->(f (nth b i) (nth c i)).2=true->zbI (g (nth a i) (nth b i))=true->VarsOk (f (nth b i) (nth c i)).1 (g (nth a i) (nth b i)))->((zaR g a b).map Vt.var).Nodup->
  (zbb f b c acc).2=true->∃X,(zbb f b c acc).1=acc++X/\VarsOk X (zaR g a b)
 | [],[],[],acc,_,_,_,_,_=>⟨[],by simp[zbb],⟨rfl,by simp,by simp⟩⟩
 |t::a,p::b,v::c,acc,h1,h2,h3,h4,h5=>by
  unfold zbb at h5 ⊢;split at h5
  ·rename_i hok;rw[if_pos hok];simp only[zaR,xaf] at h4 ⊢;obtain⟨n1,n2,n3⟩:=List.nodup_append.1 h4;have k0:=h3 0 (by simp) hok (decide_eq_true n1);obtain⟨X,e,k⟩:=zi0 (f:=f) (g:=g) (a:=a) (b:=b) (c:=c) (acc:=acc++(f p v).1) (by simpa using h1) (by simpa using h2) (fun i hi=>h3 (i+1) (by simpa using hi)) n2 h5;refine⟨(f p v).1++X,by rw[e,List.append_assoc],⟨?_, ?_, ?_⟩⟩
   ·have:=k0.len;have e0:(f p v).1.length=(g t p).length:=this;rw[xaa,xaa,e0,k.len]
   ·rw[xaf];exact List.nodup_append.2 ⟨k0.nod,k.nod,fun x hx y hy=>n3 x (k0.sub x hx) y (k.sub y hy)⟩
   ·intro x hx;rw[xaf] at hx ⊢;rcases List.mem_append.1 hx with h|h
    ·exact List.mem_append_left _ (k0.sub x h)
    ·exact List.mem_append_right _ (k.sub x h)
  ·exact absurd h5 (by simp)
 | [],_::_,_,_,h,_,_,_,_=>by simp at h
 |_::_,[],_,_,h,_,_,_,_=>by simp at h
 | [],[],_::_,_,_,h,_,_,_=>by simp at h
 |_::_,_::_,[],_,_,h,_,_,_=>by simp at h
theorem znM {a b:List Vt} (ha:zbI a=true) (hb:zbI b=true) (h:zcN a b=true):a.length=b.length/\∀x∈b.map Vt.var,x∈a.map Vt.var:=by
 rw[zjD hb] at h;unfold zc7 at h;simp only[xad,decide_eq_true_eq,Bool.not_eq_true',List.any_eq_false,Bool.not_eq_true,decide_eq_false_iff_not,Classical.not_not] at h;have na:=of_decide_eq_true ha;refine⟨h.1,fun x hx=>?_⟩;by_cases hm:x∈a.map Vt.var
 ·exact hm
 ·have:=zh5 (a:=x::a.map Vt.var) (b:=b.map Vt.var) (List.nodup_cons.2 ⟨hm,na⟩) (fun y hy=>by
   rcases List.mem_cons.1 hy with rfl|hy
   ·exact hx
   ·obtain⟨z,hz,rfl⟩:=List.mem_map.1 hy;exact List.mem_map.2 ⟨z,h.2 z hz,rfl⟩)
  simp only[xab,xac] at this;omega
theorem zdF {w:List Data}:∀(n m:Nat){t:Ty}{p:Pat}{v:Val},MatchOk w n m t p v->linP w n t p=true->(zak n p v).2=true->VarsOk (zak n p v).1 (zaA w n t p)
 |0,m,t,p,v,h,_,_=>by have:=h.shape;simp[zav] at this
 |n+1,m,t,p,v,h,hl,hm=>by
  have hop:=zeL h.shape;have hnod:=of_decide_eq_true (zdq w (n+1) t p h.shape hl);by_cases h5:p.op=5
  ·obtain⟨hk,k0,k1⟩:=h.two h5;have e1:=zoM (w:=w) (t:=t) h5;obtain⟨x,y,hxy⟩:∃x y,p.kids=[x,y]:=by
    match hp:p.kids,hk with
    | [x,y],_=>exact⟨x,y,rfl⟩
   have ex:nth p.kids 0=x:=by rw[hxy];rfl
   have ey:nth p.kids 1=y:=by rw[hxy];rfl
   simp only[linP,xad,if_pos h5,e1,hxy] at hl;rw[ex] at k0;rw[ey] at k1;have e2:zaA w (n+1) t p=zaA w n t x:=by
    simp only[zaA,zaF,zcc,e1,hxy,if_pos h5];rw[if_neg (by omega)];simp[zaR]
   simp only[all2,xad,and_true] at hl;rw[e2];cases hm0:(zak n (nth p.kids 0) v).2 with
   |true=>
    rw[zg4 h5 hm0];rw[ex] at hm0 ⊢;exact zdF n m k0 hl.1.1 hm0
   |false=>
    rw[zg5 h5 hm0] at hm ⊢;rw[ey] at hm ⊢;have k:=zdF n m k1 hl.1.2 hm;obtain⟨s1,s2⟩:=znM (zdq w n t x k0.shape hl.1.1) (zdq w n t y k1.shape hl.1.2) hl.2;exact⟨by rw[k.len];exact s1.symm,k.nod,fun z hz=>s2 z (k.sub z hz)⟩
  have hv:zcc w t p=zag w t p:=by unfold zcc;rw[if_neg h5]
  by_cases h1:p.op=1
  ·rw[zgL h1];have:zaA w (n+1) t p=[]:=by
    simp only[zaA,zaF,hv];rw[if_neg (by omega)];unfold zag;rw[if_neg (by omega),if_neg (by omega),if_neg (by omega)];simp[zaR]
   rw[this];exact⟨rfl,by simp,by simp⟩
  by_cases h2:p.op=2
  ·rw[zgM h2];have:zaA w (n+1) t p=[⟨p.var,t⟩]:=by
    simp only[zaA,zaF,hv];rw[if_pos (by omega)];unfold zag;rw[if_neg (by omega),if_neg (by omega),if_neg (by omega)];simp[zaR]
   rw[this];exact⟨rfl,by simp,by simp⟩
  by_cases h3:p.op=3
  ·rw[zfM h3];have:zaA w (n+1) t p=[]:=by
    simp only[zaA,zaF,hv];rw[if_neg (by omega)];unfold zag;rw[if_neg (by omega),if_neg (by omega),if_neg (by omega)];simp[zaR]
   rw[this];exact⟨rfl,by simp,by simp⟩
  simp only[linP,if_neg h5,xad] at hl;by_cases h6:p.op=6
  ·obtain⟨hk,k0⟩:=h.one h6;have e1:=zoN (w:=w) (t:=t) h6;obtain⟨x,hx⟩:∃x,p.kids=[x]:=by
    match hp:p.kids,hk with
    | [x],_=>exact⟨x,rfl⟩
   have ex:nth p.kids 0=x:=by rw[hx];rfl
   have e2:zaA w (n+1) t p=⟨p.var,t⟩::zaA w n t x:=by
    simp only[zaA,zaF,hv,e1,hx];rw[if_pos (by omega)];simp[zaR]
   rw[zfN h6] at hm ⊢;rw[e1,hx] at hl;simp only[all2,xad,and_true] at hl;rw[ex] at k0 hm ⊢;rw[e2] at hnod ⊢;have k:=zdF n m k0 hl.1 hm;rw[xae] at hnod;have hnod':=List.nodup_cons.1 hnod;refine⟨by simp[k.len], ?_,fun z hz=>?_⟩
   ·rw[xae];exact List.nodup_cons.2 ⟨fun hh=>hnod'.1 (k.sub _ hh),k.nod⟩
   ·rw[xae] at hz ⊢;rcases List.mem_cons.1 hz with h|h
    ·rw[h];exact List.mem_cons_self
    ·exact List.mem_cons_of_mem _ (k.sub z h)
  have h4:p.op=4:=by omega
  by_cases hc:p.ctor=v.ctor
  ·obtain⟨hlen,k,hk⟩:=h.kid h4 hc;rw[ziA h4 hc] at hm ⊢;have e2:zaA w (n+1) t p=zaR (zaA w n) (zag w t p) p.kids:=by
    simp only[zaA,zaF,hv];rw[if_neg (by omega),List.nil_append]
   rw[e2] at hnod ⊢;have hl2:=(zch h.shape).2;obtain⟨X,e,kx⟩:=zi0 (f:=zak n) (g:=zaA w n) (a:=zag w t p) (acc:=[]) hl2.symm hlen (fun i hi hmi hni=>zdF n k (hk i hi) (zl5 hl2.symm hl.1 i (by omega)) hmi) hnod hm;rw[e,List.nil_append];exact kx
  ·rw[zg3 h4 hc] at hm;exact absurd hm (by simp)
theorem ze7 {w:List Data}{m:Nat}{t:Ty}{p:Pat}{v:Val} (h:MatchOk w 10 m t p v) (hp:isP w t p=true) (hm:(zak 10 p v).2=true):(zak 10 p v).1.length<=6:=by
 unfold isP at hp;simp only[xad] at hp;have k:=zdF 10 m h hp.2.2 hm;rw[k.len];have e:=(zdu w 10 t p 0).1;have hw:zbh w 10 t p 0=true:=by
  unfold zbh;rw[hp.1,hp.2.2];have:=of_decide_eq_true hp.2.1;simp;omega
 rw[if_pos hw] at e;have:=zhc w 10 t p 0 _ e;exact zlq this.1 this.2
theorem zdX {w:List Data}:∀(n m:Nat){t:Ty}{p:Pat}{v:Val},MatchOk w n m t p v->(zak n p v).2=true->
  FnD Tryz.prog 146 [.agg [.d (.i p.op),.d (.i p.ctor),.d (.i p.n),.d (.i p.m),.d (.i p.var),.d (zaw p.kids)],.agg [.d (.i v.ctor),.d (.i v.num),.d (zaq v.kids)]] [] (.tup [.gv 9 ((zak n p v).1.map Bd.c),.d (.bool true)]) [(9,some (.tok ((zak n p v).1.map Bd.c).length 4))]
 |0,m,t,p,v,h,_=>by have:=h.shape;simp[zav] at this
 |n+1,m,t,p,v,h,hm=>by
  have hop:=zeL h.shape;have k4:=h.kid;have k5:=h.two;have k6:=h.one;have hsz:=h.psz;have hps:=Pat.size_eq p;have hkl:=((Pat.ok_iff p).1 h.pok).1;have mok:=fun {t:Ty}{q:Pat}{u:Val} (hs:zav w n t q=true) (hu:u.ok)=>zb2 n hs hu;by_cases h4:p.op=4
  ·have hc:p.ctor=v.ctor:=by
    by_cases hc:p.ctor=v.ctor
    ·exact hc
    ·rw[zg3 h4 hc] at hm;exact absurd hm (by simp)
   obtain⟨hl,k,hkm⟩:=k4 h4 hc;have hm4:=ziA (n:=n) h4 hc;have hall:=fun(i:Nat) (hi:i<p.kids.length)=>zj5 (f:=zak n) (a:=p.kids) (b:=v.kids) (acc:=[]) (by rw[<-hm4];exact hm) i hi (by omega);refine bd Tryz.f146 105 [10] [] fun w0 F0 own kept hk=>?_;refine bx 3002 ?_;refine bx 3003 ?_;refine evs [10] [] ?_;refine sq ?_ ?_<;>intro h1 h1p h1s<;>(try simp only[Q,Pat.cs_len] at h1p);exfalso;omega;refine sq ?_ ?_<;>intro h2 h2p h2s<;>(try simp only[Q,Pat.cs_len] at h2p);exfalso;omega;refine sq ?_ ?_<;>intro h3 h3p h3s<;>(try simp only[Q,Pat.cs_len] at h3p);exfalso;omega;refine sq ?_ ?_<;>intro h4 h4p h4s<;>(try simp only[Q,Pat.cs_len] at h4p);exfalso;omega;refine sq ?_ ?_<;>intro h5 h5p h5s<;>(try simp only[Q,Pat.cs_len] at h5p);exfalso;omega;refine sq ?_ ?_<;>intro h6 h6p h6s<;>(try simp only[Q,Pat.cs_len] at h6p);exfalso;omega;refine xaC 9 4 .none rfl rfl ?_;refine tv ?_;refine xam (ι:=Nat×List Bd) hk (fun x=>[(83,.d (.i (x.1:Int))),(10,.gv 9 (x.2.map Bd.c))]) [4,5,11,12,13,14,84,85,86,87,88,89,90,91,92,93,94,95,96,97,98,99,100,101,102,103] (fun x=>[(9,some (.tok ((x.2.map Bd.c)).length 4))]) (fun x=>x.1<=p.kids.length/\zbb (zak n) (p.kids.drop x.1) (v.kids.drop x.1) x.2=zbb (zak n) p.kids v.kids []/\x.2.length+Pats.size (p.kids.drop x.1)<=Pats.size p.kids) (fun x=>p.kids.length-x.1) (0,[]) ⟨by simp,rfl,by simp⟩ ⟨⟨_,rfl,xau ?_⟩,⟨⟨_,rfl,LeA.gvg ?_⟩,trivial⟩⟩ ⟨zas ?_,trivial⟩ (fun x=>rfl) (fun x hg1=>?_);iterate 3 focus (rfl)
   refine evc [10] [] ?_;refine sq ?_ ?_<;>intro h7 h7p h7s<;>(try simp only[Q,Pat.cs_len] at h7p);refine xaK sl34 .none rfl rfl rfl rfl (za5 (by omega)) rfl ?_;refine evs [10] [] ?_;refine ab 3012 tz36 ?_;refine evs [10] [] ?_;refine so ty36 ?_;refine tv ?_;refine xaK sl47 .none rfl rfl rfl rfl (zed (by omega)) rfl ?_;refine evd [10] [] ?_;refine wc zc3 (zbN n k (hkm x.1 (by omega))) rfl rfl ?_;refine evd [10] [] ?_;refine dr ?_;refine sq ?_ ?_<;>intro h8 h8p h8s<;>(try simp only[Q,Pat.cs_len] at h8p);exfalso;have:=hall x.1 (by omega);simp_all;refine xaA sl52 zfH .none rfl rfl rfl rfl (zjR rfl (by rfl)) (by intro x hx;exact zd7 _ x hx) (by have:=(mok (hkm x.1 (by omega)).shape (hkm x.1 (by omega)).vok).2;have:=zce (l:=p.kids) (i:=x.1) (by omega);have:=hg1.2.2;simp;omega) (by have:=(mok (hkm x.1 (by omega)).shape (hkm x.1 (by omega)).vok).2;have:=zce (l:=p.kids) (i:=x.1) (by omega);have:=hg1.2.2;simp;omega) ?_;refine asg ?_;refine tv ?_;refine ar ?_;refine xah ((x.1+1,x.2++(zak n (nth p.kids x.1) (nth v.kids x.1)).1)) ⟨⟨by dsimp only;omega,by dsimp only;rw[<-ziZ (by omega) (by omega) (hall x.1 (by omega))];exact hg1.2.1,by have:=(mok (hkm x.1 (by omega)).shape (hkm x.1 (by omega)).vok).2;have:=zce (l:=p.kids) (i:=x.1) (by omega);have:=hg1.2.2;dsimp only;rw[xaa];omega⟩,(by dsimp only;omega),sx ⟨⟨_,rfl,xau ?_⟩,⟨⟨_,rfl,LeA.gvg ?_⟩,trivial⟩⟩ ⟨zas ?_,trivial⟩⟩;iterate 3 focus ((simp;done))
   refine rn [(9,some (.tok ((zak (n+1) p v).1.map Bd.c).length 4))] (r2 rfl rfl) (.tup (.cons (.gvg ?_) (.cons (.eqd ?_) .nil))) ⟨rfl,rfl⟩ (SubH.get ⟨?_,trivial⟩) (zaE rfl);rotate_left 3;all_goals (((first|rfl|(rw[hm4,<-hg1.2.1,zj6 (by omega)];all_goals rfl));done))
  by_cases h5:p.op=5
  ·obtain⟨hl,k0,k1⟩:=k5 h5;cases hm0:(zak n (nth p.kids 0) v).2 with
   |true=>
    have e:=zg4 (n:=n) h5 hm0;rw[e];refine bd Tryz.f146 105 [] [] fun w0 F0 own kept hk=>?_;refine bx 3002 ?_;refine bx 3003 ?_;refine ev ?_;refine sq ?_ ?_<;>intro h1 h1p h1s<;>(try simp only[Q,Pat.cs_len] at h1p);exfalso;omega;refine sq ?_ ?_<;>intro h2 h2p h2s<;>(try simp only[Q,Pat.cs_len] at h2p);exfalso;omega;refine sq ?_ ?_<;>intro h3 h3p h3s<;>(try simp only[Q,Pat.cs_len] at h3p);exfalso;omega;refine sq ?_ ?_<;>intro h4 h4p h4s<;>(try simp only[Q,Pat.cs_len] at h4p);refine xaK (i:=0) sl34 .none rfl rfl rfl rfl (za5 (by omega)) rfl ?_;refine evd [] [] ?_;refine Walk.call (cr:=[9]) zc3 (zdX n m k0 hm0) rfl .none rfl rfl (LeL.refl _) trivial rfl rfl rfl ?_;refine evd [] [] ?_;refine dr ?_;refine sq ?_ ?_<;>intro h5 h5p h5s<;>(try simp only[Q,Pat.cs_len] at h5p);refine rn [(9,some (.tok ((zak n (nth p.kids 0) v).1.map Bd.c).length 4))] (r2 rfl rfl) (.tup (.cons (.gvg ?_) (.cons (.eqd ?_) .nil))) ⟨rfl,rfl⟩ (SubH.get ⟨?_,trivial⟩) (zaE rfl);rotate_left 3;exfalso;simp_all;exfalso;omega;all_goals (first|((rfl);done)|(rfl))
   |false=>
    have e:=zg5 (n:=n) h5 hm0;rw[e] at hm ⊢;have hf0:=zbN n m k0;rw[hm0] at hf0;refine bd Tryz.f146 105 [] [] fun w0 F0 own kept hk=>?_;refine bx 3002 ?_;refine bx 3003 ?_;refine ev ?_;refine sq ?_ ?_<;>intro h1 h1p h1s<;>(try simp only[Q,Pat.cs_len] at h1p);exfalso;omega;refine sq ?_ ?_<;>intro h2 h2p h2s<;>(try simp only[Q,Pat.cs_len] at h2p);exfalso;omega;refine sq ?_ ?_<;>intro h3 h3p h3s<;>(try simp only[Q,Pat.cs_len] at h3p);exfalso;omega;refine sq ?_ ?_<;>intro h4 h4p h4s<;>(try simp only[Q,Pat.cs_len] at h4p);refine xaK (i:=0) sl34 .none rfl rfl rfl rfl (za5 (by omega)) rfl ?_;refine evd [] [] ?_;refine wc zc3 (hf0) rfl rfl ?_;refine evd [] [] ?_;refine dr ?_;refine sq ?_ ?_<;>intro h5 h5p h5s<;>(try simp only[Q,Pat.cs_len] at h5p);exfalso;simp_all;refine xaK (i:=1) sl34 .none rfl rfl rfl rfl (za5 (by omega)) rfl ?_;refine evd [] [] ?_;refine Walk.call (cr:=[9]) zc3 (zdX n m k1 hm) rfl .none rfl rfl (LeL.refl _) trivial rfl rfl rfl ?_;refine evd [] [] ?_;refine dr ?_;refine rn [(9,some (.tok ((zak n (nth p.kids 1) v).1.map Bd.c).length 4))] (r2 rfl rfl) (.tup (.cons (.gvg ?_) (.cons (.eqd ?_) .nil))) ⟨rfl,rfl⟩ (SubH.get ⟨?_,trivial⟩) (zaE rfl);rotate_left 3;exfalso;omega;all_goals (first|((rfl);done)|(rfl))
  ·have hw:p.op=3->zay v.num p.n p.m=true:=fun h3=>by rw[zfM h3] at hm;exact hm
   have h6m:p.op=6->(zak n (nth p.kids 0) v).2=true:=fun h6=>by rw[zfN h6] at hm;exact hm
   refine bd Tryz.f146 105 [4] [] fun w0 F0 own kept hk=>?_;refine bx 3002 ?_;refine bx 3003 ?_;refine asg ?_;refine evs [4] [] ?_;refine sq ?_ ?_<;>intro h1 h1p h1s<;>(try simp only[Q,Pat.cs_len] at h1p);refine xaC 9 4 .none rfl rfl ?_;refine evs [4] [] ?_;refine rn [(9,some (.tok ((zak (n+1) p v).1.map Bd.c).length 4))] (r2 rfl rfl) (.tup (.cons (.gvg ?_) (.cons (.eqd ?_) .nil))) ⟨rfl,rfl⟩ (SubH.get ⟨?_,trivial⟩) (zaE rfl);rotate_left 3;refine sq ?_ ?_<;>intro h2 h2p h2s<;>(try simp only[Q,Pat.cs_len] at h2p);refine bu [0,1] [_,_] zhf ?_;refine xa5 9 sl52 zfE rfl (by decide) (ks:=[0]) (xs:=[_]) rfl rfl (by decide) (by decide) .none rfl rfl rfl rfl rfl ?_;refine asg ?_;refine evs [4] [] ?_;refine rn [(9,some (.tok ((zak (n+1) p v).1.map Bd.c).length 4))] (r2 rfl rfl) (.tup (.cons (.gvg ?_) (.cons (.eqd ?_) .nil))) ⟨rfl,rfl⟩ (SubH.get ⟨?_,trivial⟩) (zaE rfl);rotate_left 3;refine sq ?_ ?_<;>intro h3 h3p h3s<;>(try simp only[Q,Pat.cs_len] at h3p);refine wc zcP (zaZ) rfl rfl ?_;refine xaC 9 4 .none rfl rfl ?_;refine evs [4] [] ?_;refine rn [(9,some (.tok ((zak (n+1) p v).1.map Bd.c).length 4))] (r2 rfl rfl) (.tup (.cons (.gvg ?_) (.cons (.eqd ?_) .nil))) ⟨rfl,rfl⟩ (SubH.get ⟨?_,trivial⟩) (zaE rfl);rotate_left 3;refine sq ?_ ?_<;>intro h4 h4p h4s<;>(try simp only[Q,Pat.cs_len] at h4p);exfalso;omega;refine sq ?_ ?_<;>intro h5 h5p h5s<;>(try simp only[Q,Pat.cs_len] at h5p);refine xaK (i:=0) sl34 .none rfl rfl rfl rfl (za5 (by have:=(k6 (by omega)).1;omega)) rfl ?_;refine evd [4] [] ?_;refine wc zc3 (zbN n m (k6 (by omega)).2) rfl rfl ?_;refine evd [4] [] ?_;refine dr ?_;refine bu [0,1] [_,_] zhf ?_;refine xa5 9 sl52 zfE rfl (by decide) (ks:=[0]) (xs:=[_]) rfl rfl (by decide) (by decide) .none rfl rfl rfl rfl rfl ?_;refine evs [4] [] ?_;refine xaA sl52 zfH .none rfl rfl rfl rfl (zjR rfl (by rfl)) (by intro x hx;exact zd7 _ x hx) (by have:=(mok (k6 (by omega)).2.shape h.vok).2;have:=za9 (l:=p.kids) (i:=0) (by have:=(k6 (by omega)).1;omega);simp;omega) (by have:=(mok (k6 (by omega)).2.shape h.vok).2;have:=za9 (l:=p.kids) (i:=0) (by have:=(k6 (by omega)).1;omega);simp;omega) ?_;refine evs [4] [] ?_;refine asg ?_;refine evs [4] [] ?_;refine rn [(9,some (.tok ((zak (n+1) p v).1.map Bd.c).length 4))] (r2 rfl rfl) (.tup (.cons (.gvg ?_) (.cons (.eqd ?_) .nil))) ⟨rfl,rfl⟩ (SubH.get ⟨?_,trivial⟩) (zaE rfl);rotate_left 3;exfalso;omega;all_goals (first|((first|rfl|(rw[zgL (by omega)];all_goals rfl)|(rw[zgM (by omega)];all_goals rfl)|(rw[zfM (by omega)];all_goals first|rfl|(rw[hw (by omega)];done))|(rw[zfN (by omega)];all_goals first|rfl|(rw[h6m (by omega)];done))|(rw[hw (by omega)];done)|(rw[h6m (by omega)];done));done)|(first|(rw[zgL (by omega)];all_goals rfl)|(rw[zgM (by omega)];all_goals rfl)|(rw[zfM (by omega)];all_goals rfl)|(rw[zfN (by omega)];show some (Res.tok _ _)=some (Res.tok _ _);simp;omega)))
theorem zog {n:Nat}{S:List Bd} (h:n=S.length):zbZ n 4 (bdC S)=some (S.map Bd.c):=by
 rw[h,<-xac (f:=Bd.c)];exact zoY S
theorem idsD (l:List D):AV.idsL (l.map AV.d)=[]:=by
 induction l with
 |nil=>rfl
 |cons x r ih=>simpa [AV.idsL,AV.ids] using ih
theorem zf7 {w:List Data}{m:Nat}{t:Ty}{p:Pat}{v:Val} (h:MatchOk w 10 m t p v) (hp:isP w t p=true):
  FnD Tryz.prog 72 [.agg [.d (.i p.op),.d (.i p.ctor),.d (.i p.n),.d (.i p.m),.d (.i p.var),.d (zaw p.kids)],.agg [.d (.i v.ctor),.d (.i v.num),.d (zaq v.kids)]] [] (.tup [.d (zbm (zbc 10 p v).1),.d (.bool (zbc 10 p v).2)]) []:=by
 unfold zbc;cases hm:(zak 10 p v).2 with
 |false=>
  have hf:=zbN 10 m h;rw[hm] at hf;rw[if_neg (by simp)];refine bd Tryz.f72 36 [] [] fun w0 F0 own kept hk=>?_;refine bx 3002 ?_;refine bx 3003 ?_;refine ev ?_;refine wc zc3 (hf) rfl rfl ?_;refine ev ?_;refine sq ?_ ?_<;>intro h1 h1p h1s<;>(try simp only[Q] at h1p);refine rn0 (r2 rfl rfl) (.tup (.cons (.nild ?_) (.cons (.eqd ?_) .nil)));rotate_left 2;exfalso;simp_all;all_goals (rfl)
 |true=>
  have hf:=zdX 10 m h hm;have h6:=ze7 h hp hm;have hbo:=zjy (zb2 10 h.shape h.vok).1;have hsl:=zec (zak 10 p v).1;have hvs:=h.vsz;rw[if_pos rfl];have hLm:∀L:List Bd,(L.map Bd.c).length=L.length:=fun L=>by simp
  have hLm:=hLm (zak 10 p v).1;have hso:zb9 ((zak 10 p v).1.length-1) 1 (zak 10 p v).1=zci (zak 10 p v).1:=rfl;generalize (zak 10 p v).1=L at *;generalize hS:zci L=S at *;have hrow:∀ {i:Nat},i<L.length->(nth S i).val.ok/\(nth S i).val.size<=v.size:=fun hi=>hbo _ (zap (by omega));refine bd Tryz.f72 36 [26] [4,999999] fun w0 F0 own kept hk=>?_;refine Walk.box (id:=3002) .none rfl rfl rfl (by rfl) (by rfl) (by rfl) (by rfl) ?_;refine Walk.box (id:=3003) .none rfl rfl rfl (by rfl) (by rfl) (by rfl) (by rfl) ?_;refine evs [26] [] ?_;refine Walk.call (cr:=[9]) zc3 (hf) rfl .none rfl rfl (LeL.refl _) trivial rfl rfl rfl ?_;refine evs [26] [] ?_;refine sq ?_ ?_<;>intro h1 h1p h1s<;>(try simp only[Q,xac] at h1p);exfalso;simp_all;refine CWp.fixV hk 6 9 4 rfl rfl rfl (fun hx2=>?_) (fun hx2=>?_);refine evc [26] [] ?_;refine Walk.call (cr:=[]) zmd (zhA) rfl .none rfl rfl (LeL.refl _) trivial rfl (by rfl) (by rfl) ?_;refine tv ?_;refine xam (ι:=Unit) hk (fun u=>[(22,.d (.i 0))]) [8,9,23,24,25,26,27,28,29,30,31,32,33,34] (fun u=>[]) (fun u=>True) (fun u=>0) () trivial ⟨⟨_,rfl,xau ?_⟩,trivial⟩ trivial (fun x=>rfl) (fun u hg1=>?_);focus (rfl)
  refine evc [26] [4,999999] ?_;refine sq ?_ ?_<;>intro h3 h3p h3s<;>(try simp only[Q,xac] at h3p);exfalso;simp at h3;refine CWp.ret ?_;refine rn0 (r2 rfl rfl) (.tup (.cons (.eqd ?_) (.cons (.eqd ?_) .nil)));rotate_left 2;refine evc [26] [] ?_;refine Walk.call (cr:=[]) zmd (zfa (L:=L) (by omega) znR (fun a b=>zfh)) rfl .none rfl rfl (.cons (xav (by(simp[xac];done))) (.cons (.refl _) .nil)) ⟨rfl,trivial⟩ rfl zgg rfl ?_;refine tv ?_;refine xam (ι:=Nat) hk (fun i=>[(22,.d (.i (i:Int)))]) [8,9,23,24,25,26,27,28,29,30,31,32,33,34] (fun i=>[(9,some (.box (bdC S)))]) (fun i=>i<=L.length) (fun i=>L.length-i) 0 (by omega) ⟨⟨_,rfl,xau ?_⟩,trivial⟩ ⟨?_,trivial⟩ (fun x=>rfl) (fun i hg1=>?_);focus (rfl)
  focus ((show some (Res.box _)=some (Res.box _);rw[hso]))
  refine evc [26] [4,999999] ?_;refine sq ?_ ?_<;>intro h4 h4p h4s<;>(try simp only[Q,xac] at h4p);refine xaM sl52 .none rfl rfl rfl rfl (by omega) ?_;refine xaQ zeY .none rfl rfl rfl ((zgF (by omega))) ?_;refine Walk.alloc (id:=3009) zfE rfl .none rfl (by(simp only[zaf,occH,occE,Res.ids,xag,List.nil_append,AV.idsL,AV.ids,zab,zaa,zad,zaj,xae,List.map_nil,upC,idsD,zbk];rfl)) (by(simp only[zaf,occH,occE,Res.ids,xag,List.nil_append,AV.idsL,AV.ids,zab,zaa,zad,zaj,xae,List.map_nil,upC,idsD,zbk];rfl)) (by(simp only[zaf,occH,occE,Res.ids,xag,List.nil_append,AV.idsL,AV.ids,zab,zaa,zad,zaj,xae,List.map_nil,upC,idsD,zbk];rfl)) ?_;refine evs [26] [] ?_;refine so zeY ?_;refine tv ?_;refine Walk.call (cr:=[]) zhD (zfR (nth S i).val.size (Nat.le_refl _) (hrow (by omega)).1) rfl .none rfl rfl (LeL.refl _) trivial rfl (by rfl) (by rfl) ?_;refine xaM sl52 .none rfl rfl rfl rfl (by omega) ?_;refine evs [26] [] ?_;refine Walk.store ty49 .none rfl rfl rfl rfl rfl rfl (by simp) ((zoD (by omega))) ?_;refine tv ?_;refine ar ?_;refine xah (i+1) ⟨(by omega),(by omega),sx ⟨⟨_,rfl,xau ?_⟩,trivial⟩ ⟨?_,trivial⟩⟩;focus (rfl)
  focus (rfl)
  refine CWp.frz hk 4 9 _ _ rfl rfl (zog (by simp;omega)) rfl ?_;refine CWp.ret ?_;refine rn0 (r2 rfl rfl) (.tup (.cons (.eqd ?_) (.cons (.eqd ?_) .nil)));rotate_left 2;all_goals (first|rfl|(rw[show S=[] from List.eq_nil_of_length_eq_zero (by have hz:L.map Bd.c=[]:=(by assumption);have hz2:=congrArg List.length hz;simp only[xai] at hz2;omega)];rfl))
theorem zo8 {w:List Data}{a k:Int}{p:Pat}{v:Val} (h1:isP w ⟨a,k⟩ p=true) (h2:isV w ⟨a,k⟩ v=true) (hp:p.ok) (hv:v.ok):MatchOk w 10 10 ⟨a,k⟩ p v:=by
 unfold isP at h1;unfold isV at h2;simp only[xad,decide_eq_true_eq] at h1 h2;exact⟨h1.1,h2.1,hp,hv,by omega,by omega⟩
inductive Ex where
 |mk (op n ctor:Int) (kids:List Ex)
 deriving Inhabited
mutual
def Ex.c:Ex->List D
 | .mk op n ctor kids=>[.i op,.i n,.i ctor,.sl (Ex.cs kids)]
def Ex.cs:List Ex->List (List D)
 | []=>[]
 |v::r=>v.c::Ex.cs r
end
abbrev zq2 (l:List Ex):D:= .sl (Ex.cs l)
theorem Ex.cs_eq:∀l:List Ex,Ex.cs l=l.map Ex.c
 | []=>rfl
 |v::r=>by simp[Ex.cs,Ex.cs_eq r]
theorem Ex.cs_len (l:List Ex):(Ex.cs l).length=l.length:=by simp[Ex.cs_eq]
def Ex.op:Ex->Int | .mk a0 _ _ _=>a0
def Ex.n:Ex->Int | .mk _ a1 _ _=>a1
def Ex.ctor:Ex->Int | .mk _ _ a2 _=>a2
def Ex.kids:Ex->List Ex | .mk _ _ _ k=>k
abbrev Ex.cc (v:Ex):List D:=[.i v.op,.i v.n,.i v.ctor,.sl (Ex.cs v.kids)]
theorem Ex.c_eq (v:Ex):v.c=v.cc:=by cases v;rfl
theorem Ex.eta (v:Ex):Ex.mk v.op v.n v.ctor v.kids=v:=by cases v;rfl
theorem Ex.cs_at' {pre:List Ex}{x:Ex}{rest xs:List Ex} (h:pre++x::rest=xs):(Ex.cs xs)[pre.length]?=some x.cc:=by rw[Ex.cs_eq,<-Ex.c_eq];exact zaW h
mutual
def exEq:Ex->Ex->Bool
 | .mk a0 a1 a2 ks,.mk b0 b1 b2 ls=>decide (a0=b0)&&(decide (a1=b1)&&(decide (a2=b2)&&zlX ks ls))
def zlX:List Ex->List Ex->Bool
 | [],[]=>true
 |x::r,y::s=>exEq x y&&zlX r s
 |_,_=>false
end
mutual
def Ex.ok:Ex->Prop
 | .mk _ _ _ ks=>ks.length<=1000000000000/\Exs.ok ks
def Exs.ok:List Ex->Prop
 | []=>True
 |v::r=>v.ok/\Exs.ok r
end
theorem Exs.ok_mem:∀ {l:List Ex},Exs.ok l->∀v,v∈l->v.ok
 |x::r,h,v,hv=>by
  simp only[Exs.ok] at h;rcases List.mem_cons.1 hv with rfl|hv
  ·exact h.1
  ·exact Exs.ok_mem h.2 v hv
mutual
def Ex.size:Ex->Nat
 | .mk _ _ _ ks=>1+Exs.size ks
def Exs.size:List Ex->Nat
 | []=>0
 |v::r=>v.size+Exs.size r
end
theorem Exs.size_mem:∀ {l:List Ex}{v:Ex},v∈l->v.size<=Exs.size l
 |x::r,v,hv=>by
  simp only[Exs.size];rcases List.mem_cons.1 hv with rfl|hv
  ·omega
  ·have:=Exs.size_mem hv;omega
theorem Ex.ok_iff (v:Ex):v.ok↔v.kids.length<=1000000000000/\Exs.ok v.kids:=by cases v;rfl
theorem Ex.size_eq (v:Ex):v.size=1+Exs.size v.kids:=by cases v;rfl
mutual
theorem zoq:∀v:Ex,exEq v v=true
 | .mk _ _ _ ks=>by simp[exEq,zjO ks]
theorem zjO:∀l:List Ex,zlX l l=true
 | []=>rfl
 |v::r=>by simp[zlX,zoq v,zjO r]
end
theorem Ex.cs_cc (l:List Ex):Ex.cs l=l.map Ex.cc:=by
 rw[Ex.cs_eq];exact List.map_congr_left (fun v _=>Ex.c_eq v)
mutual
def mEx:Ex->Nat
 | .mk _ _ _ ks=>mExs ks
def mExs:List Ex->Nat
 | []=>0
 |v::r=>1+mEx v+mExs r
end
structure Gd where
 op:Int
 var:Int
 n:Int
 deriving Inhabited
structure Cl where
 pat:Pat
 g:Gd
 deriving Inhabited
structure Ft where
 arg:Ty
 res:Ty
 deriving Inhabited
structure Fu where
 ty:Ft
 cls:List Cl
 bodies:List Ex
 deriving Inhabited
abbrev Cl.c (x:Cl):List D:=[.i x.pat.op,.i x.pat.ctor,.i x.pat.n,.i x.pat.m,.i x.pat.var,.sl (Pat.cs x.pat.kids),.i x.g.op,.i x.g.var,.i x.g.n]
abbrev zbi (l:List Cl):D:= .sl (l.map Cl.c)
abbrev Ft.c (x:Ft):List D:=[.i x.arg.data,.i x.arg.index,.i x.res.data,.i x.res.index]
abbrev Fu.c (x:Fu):List D:=[.i x.ty.arg.data,.i x.ty.arg.index,.i x.ty.res.data,.i x.ty.res.index,zbi x.cls,zq2 x.bodies]
def ClsOk (l:List Cl):Prop:=l.length<=1000000000000/\∀c∈l,c.pat.ok
def mCl (c:Cl):Nat:=mPat c.pat
def mCls (l:List Cl):Nat:=l.length+(l.map mCl).sum
def gdEq (a b:Gd):Bool:=decide (a.op=b.op)&&(decide (a.var=b.var)&&decide (a.n=b.n))
def clEq (a b:Cl):Bool:=zeX a.pat b.pat&&gdEq a.g b.g
def zpB (a b:List Cl):Bool:=all2 clEq a b
theorem zk5 {α:Type}{f:α->α->Bool} (h:∀x,f x x=true):∀l:List α,all2 f l l=true
 | []=>rfl
 |x::r=>by simp[all2,h x,zk5 h r]
theorem zoh (a:Cl):clEq a a=true:=by simp[clEq,gdEq,zke]
theorem zft (l:List Cl):zpB l l=true:=zk5 zoh l
theorem zjj {c:Cl}{left:Int} (hok:c.pat.ok) (k0:0<=left) (k1:left<=1000000000000):
  FnD Tryz.prog 82 [.agg [.d (.i c.pat.op),.d (.i c.pat.ctor),.d (.i c.pat.n),.d (.i c.pat.m),.d (.i c.pat.var),.d (zaw c.pat.kids),.d (.i c.g.op),.d (.i c.g.var),.d (.i c.g.n)],.d (.i left)] [] (.d (.i (szr left (mCl c)))) []:=by
 have z:=zba (left:=left) (mCl c);refine bd Tryz.f82 12 [] [] fun w0 F0 own kept hk=>?_;refine bx 3002 ?_;refine ev ?_;refine wc znS (zfm _ (Nat.le_refl _) hok k0 k1) rfl rfl ?_;refine ev ?_;refine sq ?_ ?_<;>intro h1 h1p h1s<;>(try simp only[Q] at h1p);refine rq ?_;rotate_left;refine rq ?_;rotate_left;all_goals (refine congrArg D.i ?_;unfold mCl at *;omega)
theorem zfl {l:List Cl}{left:Int} (hs:ClsOk l) (k0:0<=left) (k1:left<=1000000000000):FnD Tryz.prog 29 [.d (zbi l),.d (.i left)] [] (.d (.i (szr left (mCls l)))) []:=by
 have h:=hs.1;have z:=zba (left:=left) (mCls l);simp only[mCls] at z ⊢;refine bd Tryz.f29 27 [] [] fun w0 F0 own kept hk=>?_;refine ar ?_;refine sq ?_ ?_<;>intro h1 h1p h1s<;>(try simp only[Q] at h1p);refine rq ?_;rotate_left;refine xam (ι:=List (Cl)×List (Cl)×(Int)) hk (fun x=>[(5,.d (.i (x.1.length:Int))),(1,.d (.i x.2.2))]) [4,12,13,14,15,16,17,18,19,20,21,22,23,24,25] (fun x=>[]) (fun x=>x.1++x.2.1=l/\x.2.2=left-l.length-(x.1.map mCl).sum/\0<=x.2.2) (fun x=>x.2.1.length) ([],l,left-l.length) ⟨by simp,by simp,by simp at *;omega⟩ ⟨⟨_,rfl,xau ?_⟩,⟨⟨_,rfl,xau ?_⟩,trivial⟩⟩ trivial (fun x=>rfl) (fun x hg1=>?_);iterate 2 focus (first|rfl|(simp;done))
 obtain⟨pre,rest,v⟩:=x;dsimp only at hg1 ⊢;refine evc [] [] ?_;refine sq ?_ ?_<;>intro h2 h2p h2s<;>(try simp only[Q] at h2p);rcases rest with _|⟨y,rest⟩
 ·exfalso;simp_all
 refine xaK sl62 .none rfl rfl rfl rfl (zaW hg1.1) rfl ?_;refine ev ?_;refine wc zrb (zjj (c:=y) (hs.2 y (by rw[<-hg1.1];simp)) (by omega) (by omega)) rfl rfl ?_;refine ev ?_;refine sq ?_ ?_<;>intro h3 h3p h3s<;>(try simp only[Q] at h3p);refine rq ?_;rotate_left;refine ar ?_;refine xah ((pre++[y],rest,szr v (mCl y))) ⟨⟨(by have hz:=hg1.1;rw[<-hz];simp),(by have e:=zck (f:=mCl) hg1.1;have z3:=zba (left:=v) (mCl y);simp;omega)⟩,(by simp),sx ⟨⟨_,rfl,xau ?_⟩,⟨⟨_,rfl,xau ?_⟩,trivial⟩⟩ trivial⟩;iterate 2 focus (first|rfl|(simp;done))
 have hrest:rest=[]:=by
  rcases rest with _|⟨a,b⟩
  ·rfl
  ·exfalso;have hz:=congrArg List.length (hg1.1);simp only[xaa,xab,xac] at hz;omega
 subst hrest;refine rq ?_;rotate_left;all_goals (refine congrArg D.i ?_;first|omega|(have e:=zck (f:=mCl) hg1.1;have z3:=zba (left:=v) (mCl y);omega)|(rw[List.append_nil] at hg1;rw[hg1.1] at hg1;omega))
theorem zgd {a b c:Int}:FnD Tryz.prog 165 [.agg [.d (.i a),.d (.i b),.d (.i c)]] [] (.agg [.d (.i a),.d (.i b),.d (.i c)]) []:=by
 refine bd Tryz.f165 14 [] [] fun w0 F0 own kept hk=>?_;refine bx 3001 ?_;refine ab 3002 tz38 ?_;refine tv ?_;refine ab 3003 tz38 ?_;refine tv ?_;refine so ty3 ?_;refine tv ?_;refine so ty3 ?_;refine tv ?_;refine so ty3 ?_;refine tv ?_;refine so ty38 ?_;refine tv ?_;focus (refine rn0 (.cons (.cellA ty38 rfl rfl rfl) .nil) (.agg (.cons (.eqd ?_) (.cons (.eqd ?_) (.cons (.eqd ?_) .nil))));all_goals (first|rfl|(simp[];done)|(simp_all;done)|(simp_all;omega)|omega))
theorem zjl {c:Cl} (hok:c.pat.ok):
  FnD Tryz.prog 84 [.agg [.d (.i c.pat.op),.d (.i c.pat.ctor),.d (.i c.pat.n),.d (.i c.pat.m),.d (.i c.pat.var),.d (zaw c.pat.kids),.d (.i c.g.op),.d (.i c.g.var),.d (.i c.g.n)]] [] (.agg [.d (.i c.pat.op),.d (.i c.pat.ctor),.d (.i c.pat.n),.d (.i c.pat.m),.d (.i c.pat.var),.d (zaw c.pat.kids),.d (.i c.g.op),.d (.i c.g.var),.d (.i c.g.n)]) []:=by
 refine bd Tryz.f84 13 [] [] fun w0 F0 own kept hk=>?_;refine bx 3001 ?_;refine ab 3002 tz40 ?_;refine tv ?_;refine ab 3003 tz40 ?_;refine tv ?_;refine wc zme (ziM hok) rfl rfl ?_;refine ev ?_;refine so ty36 ?_;refine tv ?_;refine wc znU (zgd) rfl rfl ?_;refine ev ?_;refine so ty38 ?_;refine tv ?_;refine so ty40 ?_;refine tv ?_;focus (refine rn0 (.cons (.cellA ty40 rfl rfl rfl) .nil) (.agg (.cons (.eqd ?_) (.cons (.eqd ?_) (.cons (.eqd ?_) (.cons (.eqd ?_) (.cons (.eqd ?_) (.cons (.eqd ?_) (.cons (.eqd ?_) (.cons (.eqd ?_) (.cons (.eqd ?_) .nil))))))))));all_goals (first|rfl|(simp[];done)|(simp_all;done)|(simp_all;omega)|omega))
theorem zbM {l:List Cl} (hs:ClsOk l):FnD Tryz.prog 32 [.d (zbi l)] [] (.d (zbi l)) []:=by
 have h:=hs.1;refine bd Tryz.f32 23 [] [999999] fun w0 F0 own kept hk=>?_;refine xaS (id:=3007) sl26 tz40 rfl (by decide) (zbL rfl) .none rfl rfl rfl (by simp;omega) (by simp;omega) rfl rfl rfl ?_;refine ev ?_;refine xam (ι:=List (Cl)×List (Cl)) hk (fun x=>[(4,.d (.i (x.1.length:Int)))]) [8,9,10,11,12,13,14,15,16,17,18,19,20,21] (fun x=>[(3007,some (.box ((x.1.flatMap fun x=>(Cl.c x).map AV.d)++zaJ x.2.length [.d (.i 0),.d (.i 0),.d (.i 0),.d (.i 0),.d (.i 0),.nils,.d (.i 0),.d (.i 0),.d (.i 0)])))]) (fun x=>x.1++x.2=l) (fun x=>x.2.length) ([],l) (by simp) ⟨⟨_,rfl,xau ?_⟩,trivial⟩ ⟨?_,trivial⟩ (fun x=>rfl) (fun x hg1=>?_);focus (first|rfl|(simp;done)|(simp_all;done)|omega)
 focus (first|rfl|(show some (Res.box _)=some (Res.box _);simp;done))
 obtain⟨pre,rest⟩:=x;dsimp only at hg1 ⊢;refine evc [] [999999] ?_;refine sq ?_ ?_<;>intro h1 h1p h1s<;>(try simp only[Q] at h1p);rcases rest with _|⟨y,rest⟩
 ·exfalso;simp_all
 refine xaK sl62 .none rfl rfl rfl rfl (zaW hg1) rfl ?_;refine ev ?_;refine wc zpx (zjl (c:=y) (hs.2 y (by rw[<-hg1];simp))) rfl rfl ?_;refine xaM sl26 .none rfl rfl rfl rfl (by first|omega|(simp ;omega)) ?_;refine Walk.store ty40 .none rfl rfl rfl rfl rfl rfl (by simp) ((zgh (k:=9) (by intro x _;rfl) (by first|rfl|simp) rfl)) ?_;refine tv ?_;refine ar ?_;refine xah ((pre++[y],rest)) ⟨(by have hz:=hg1;rw[<-hz];simp),(by simp),sx ⟨⟨_,rfl,xau ?_⟩,trivial⟩ ⟨?_,trivial⟩⟩;focus (first|rfl|(simp;done)|(simp_all;done)|omega)
 focus (first|rfl|(show some (Res.box _)=some (Res.box _);simp;done))
 have hrest:rest=[]:=by
  rcases rest with _|⟨a,b⟩
  ·rfl
  ·exfalso;have hz:=congrArg List.length (hg1);simp only[xaa,xab,xac] at hz;omega
 subst hrest;refine CWp.frz hk 2 3007 _ _ rfl rfl (zeR (f:=Cl.c) (k:=9) hg1 (by simp) (by intro x _;rfl)) rfl ?_;refine CWp.ret ?_;focus (refine rq ?_;all_goals (first|rfl|(simp[h1s,h1p];done)|(simp_all;done)|(simp_all;omega)|omega))
theorem zjW {a b:Gd}:FnD Tryz.prog 168 [.agg [.d (.i a.op),.d (.i a.var),.d (.i a.n)],.agg [.d (.i b.op),.d (.i b.var),.d (.i b.n)]] [] (.d (.bool (gdEq a b))) []:=by
 refine bd Tryz.f168 20 [] [] fun w0 F0 own kept hk=>?_;refine bx 3002 ?_;refine bx 3003 ?_;refine ev ?_;refine sq ?_ ?_<;>intro h1 h1p h1s<;>(try simp only[Q] at h1p);focus (refine rq ?_;all_goals (refine congrArg D.bool ?_;simp[gdEq,h1s,h1p]))
 refine sq ?_ ?_<;>intro h2 h2p h2s<;>(try simp only[Q] at h2p);focus (refine rq ?_;all_goals (refine congrArg D.bool ?_;simp[gdEq,h1s,h1p,h2s,h2p]))
 refine sq ?_ ?_<;>intro h3 h3p h3s<;>(try simp only[Q] at h3p);focus (refine rq ?_;all_goals (refine congrArg D.bool ?_;simp[gdEq,h1s,h1p,h2s,h2p,h3s,h3p]))
 focus (refine rq ?_;all_goals (refine congrArg D.bool ?_;simp[gdEq,h1s,h1p,h2s,h2p,h3s,h3p]))
theorem zjg {a b:Cl} (hok:a.pat.ok):
  FnD Tryz.prog 87 [.agg [.d (.i a.pat.op),.d (.i a.pat.ctor),.d (.i a.pat.n),.d (.i a.pat.m),.d (.i a.pat.var),.d (zaw a.pat.kids),.d (.i a.g.op),.d (.i a.g.var),.d (.i a.g.n)],.agg [.d (.i b.pat.op),.d (.i b.pat.ctor),.d (.i b.pat.n),.d (.i b.pat.m),.d (.i b.pat.var),.d (zaw b.pat.kids),.d (.i b.g.op),.d (.i b.g.var),.d (.i b.g.n)]] [] (.d (.bool (clEq a b))) []:=by
 refine bd Tryz.f87 17 [] [] fun w0 F0 own kept hk=>?_;refine bx 3002 ?_;refine bx 3003 ?_;refine ev ?_;refine wc znV (zfk (a:=a.pat) (b:=b.pat) _ (Nat.le_refl _) hok) rfl rfl ?_;refine ev ?_;refine sq ?_ ?_<;>intro h1 h1p h1s<;>(try simp only[Q] at h1p);focus (refine rq ?_;all_goals (refine congrArg D.bool ?_;simp[clEq,h1s,h1p]))
 refine wc zqk (zjW (a:=a.g) (b:=b.g)) rfl rfl ?_;refine ev ?_;refine sq ?_ ?_<;>intro h2 h2p h2s<;>(try simp only[Q] at h2p);focus (refine rq ?_;all_goals (refine congrArg D.bool ?_;simp[clEq,h1s,h1p,h2s,h2p]))
 focus (refine rq ?_;all_goals (refine congrArg D.bool ?_;simp[clEq,h1s,h1p,h2s,h2p]))
theorem zfj {l m:List Cl} (hs:ClsOk l):FnD Tryz.prog 35 [.d (zbi l),.d (zbi m)] [] (.d (.bool (zpB l m))) []:=by
 have h:=hs.1;refine bd Tryz.f35 27 [] [] fun w0 F0 own kept hk=>?_;refine sq ?_ ?_<;>intro h1 h1p h1s<;>(try simp only[Q,Int.natCast_inj] at h1p);refine rq ?_;rotate_left;refine xam (ι:=Nat) hk (fun i=>[(5,.d (.i (i:Int)))]) [4,11,12,13,14,15,16,17,18,19,20,21,22,23,24,25,26] (fun i=>[]) (fun i=>i<=l.length/\∀i',i'<i->clEq (nth l i') (nth m i')=true) (fun i=>l.length-i) 0 ⟨by omega,fun _ h=>absurd h (by omega)⟩ ⟨⟨_,rfl,xau ?_⟩,trivial⟩ trivial (fun x=>rfl) (fun i hg1=>?_);focus (first|rfl|(simp;done)|(simp_all;done)|omega)
 refine evc [] [] ?_;refine sq ?_ ?_<;>intro h2 h2p h2s<;>(try simp only[Q,Int.natCast_inj] at h2p);refine xaK sl26 .none rfl rfl rfl rfl (zau (by omega)) rfl ?_;refine evd [] [] ?_;refine xaK sl26 .none rfl rfl rfl rfl (zau (by omega)) rfl ?_;refine evd [] [] ?_;refine wc zre (zjg (a:=nth l i) (b:=nth m i) (hs.2 _ (zap (by omega)))) rfl rfl ?_;refine evd [] [] ?_;refine dr ?_;refine sq ?_ ?_<;>intro h3 h3p h3s<;>(try simp only[Q,Int.natCast_inj] at h3p);refine rq ?_;rotate_left;refine ar ?_;refine xah (i+1) ⟨⟨by omega,zaL hg1.2 (by assumption)⟩,(by omega),sx ⟨⟨_,rfl,xau ?_⟩,trivial⟩ trivial⟩;focus (first|rfl|(simp;done)|(simp_all;done)|omega)
 refine rq ?_;rotate_left;all_goals (refine congrArg D.bool ?_;first|(refine(zdk ?_).symm;omega)|(refine(zc2 (by omega) (fun x hx=>hg1.2 x (by omega))).symm)|(refine(zbT (i:=i) (by omega) (by omega) ?_).symm;assumption))
mutual
def cntE (m:Int):Ex->Int
 | .mk _ _ _ ks=>zdA m 1 ks
def zdA (m n:Int):List Ex->Int
 | []=>n
 |k::r=>if n<=m then zdA m (n+cntE (m-n) k) r else n
end
theorem znx {m n:Int}{l:List Ex} (h:¬n<=m):zdA m n l=n:=by cases l<;>simp[zdA,h]
mutual
theorem znd:∀(v:Ex) (m:Int),1<=cntE m v/\cntE m v<=v.size
 | .mk _ _ _ ks,m=>by
  have:=zi7 ks m 1 (by omega);simp only[cntE,Ex.size];push_cast;omega
theorem zi7:∀(l:List Ex) (m n:Int),1<=n->1<=zdA m n l/\zdA m n l<=n+Exs.size l
 | [],m,n,h=>by simp[zdA,Exs.size];omega
 |k::r,m,n,h=>by
  have h1:=znd k (m-n);have h2:=zi7 r m (n+cntE (m-n) k) (by omega);simp only[zdA,Exs.size];split
  ·push_cast;omega
  ·push_cast;omega
end
mutual
theorem zoZ:∀(v:Ex) (m:Int),(cntE m v<=m↔(v.size:Int)<=m)/\(cntE m v<=m->cntE m v=v.size)
 | .mk _ _ _ ks,m=>by
  have:=zk8 ks m 1;simp only[cntE,Ex.size];push_cast;exact this
theorem zk8:∀(l:List Ex) (m n:Int),(zdA m n l<=m↔n+(Exs.size l:Int)<=m)/\(zdA m n l<=m->zdA m n l=n+Exs.size l)
 | [],m,n=>by simp[zdA,Exs.size]
 |k::r,m,n=>by
  have h1:=zoZ k (m-n);have h2:=zk8 r m (n+cntE (m-n) k);have h3:=zi7 r m (n+cntE (m-n) k);have h4:=znd k (m-n);simp only[zdA,Exs.size];push_cast
  by_cases hn:n<=m
  ·rw[if_pos hn];by_cases h5:cntE (m-n) k<=m-n
   ·have h6:=h1.2 h5;rw[h6] at h2 ⊢;constructor
    ·rw[h2.1];constructor<;>intro h<;>omega
    ·intro h;rw[h2.2 h];omega
   ·have h7:¬(k.size:Int)<=m-n:=fun h=>h5 (h1.1.2 h);have h8:¬n+cntE (m-n) k<=m:=by omega
    rw[znx h8];constructor
    ·constructor<;>intro h<;>omega
    ·intro h;omega
  ·rw[if_neg hn];constructor
   ·constructor<;>intro h<;>omega
   ·intro h;omega
end
def TyOk (n:Nat) (t:Ty):Prop:=TyIn n t/\(t.data = -1->t.index=0)
def gdOk (g:Gd) (vars:List Vt):Bool:=if g.op=0 then decide (g.var=0/\g.n=0) else decide (1<=g.op/\g.op<=2/\0<=g.n/\g.n<=9)&&decide ((⟨g.var,⟨-1,0⟩⟩:Vt)∈vars)
def zfY (w:List Data) (t:Ty) (p:Pat):List Vt:=zcL (zaI w 10 t p 0).1
def clOk (w:List Data) (t:Ty) (c:Cl):Bool:=isP w t c.pat&&gdOk c.g (zfY w t c.pat)
def za4 (w:List Data) (t:Ty) (l:List Cl):Bool:=zbr w t&&(decide ((l.length:Int)<=8)&& !l.any fun c=> !clOk w t c)
theorem zgv {xs:List Cl}{f:Nat}{caps:List AV}{hp:Hp}{p:Cl->Bool} (hs:xs.length<=1000000000000) (hcal:Callee Tryz.prog f)
  (hf:∀t∈xs,FnD Tryz.prog f ([.agg [.d (.i t.pat.op),.d (.i t.pat.ctor),.d (.i t.pat.n),.d (.i t.pat.m),.d (.i t.pat.var),.d (zaw t.pat.kids),.d (.i t.g.op),.d (.i t.g.var),.d (.i t.g.n)]]++caps) hp (.d (.bool (p t))) []) (k1:subH hp hp) (k2:zdG hp=true) (k3:zam hp [] (.d .nilp) []=true):
  FnD Tryz.prog 216 [.d (zbi xs),.fn f caps] hp (.d (.i (idxF p xs 0))) []:=by
 refine bd Tryz.f216 19 [] [] fun w0 F0 own kept hk=>?_;refine xam (ι:=List (Cl)×List (Cl)) hk (fun x=>[(8,.d (.i (x.1.length:Int)))]) [4,5,9,10,11,12,13,14,15,16,17,18] (fun x=>[]) (fun x=>x.1++x.2=xs/\idxF p x.2 x.1.length=idxF p xs 0) (fun x=>x.2.length) ([],xs) ⟨by simp,rfl⟩ ⟨⟨_,rfl,xau ?_⟩,trivial⟩ trivial (fun x=>zfq hp) (fun x hg1=>?_);focus (first|rfl|(simp;done)|(simp_all;done)|omega)
 obtain⟨pre,rest⟩:=x;dsimp only at hg1 ⊢;refine evc [] [] ?_;refine sq ?_ ?_<;>intro h1 h1p h1s<;>(try simp only[Q] at h1p);rcases rest with _|⟨y,rest⟩
 ·exfalso;simp_all
 refine xaK sl26 .none rfl rfl rfl rfl (zaW hg1.1) rfl ?_;refine ev ?_;refine xaG (cr:=[]) hcal (hf y (by rw[<-hg1.1];simp)) rfl .none rfl rfl rfl (LeL.refl _) k1 k2 (zd3 k3 _) rfl ?_;refine tv ?_;refine sq ?_ ?_<;>intro h2 h2p h2s<;>(try simp only[Q] at h2p);focus (refine rn [] (r1 rfl) (.eqd ?_) ⟨rfl,rfl⟩ (fun _ _ h=>h) (fun _ h=>h);all_goals (rw[<-hg1.2];simp[idxF,h1s,h1p,h2s,h2p]))
 refine ar ?_;refine xah ((pre++[y],rest)) ⟨⟨(by have hz:=hg1.1;rw[<-hz];simp),(by rw[<-hg1.2];simp[idxF,h2s])⟩,(by simp),Sub.x (by kernel_rfl) (by kernel_rfl) ⟨⟨_,rfl,xau ?_⟩,trivial⟩ (by simp) (by simp[zcQ]) trivial⟩;focus (first|rfl|(simp;done)|(simp_all;done)|omega)
 have hrest:rest=[]:=by
  rcases rest with _|⟨a,b⟩
  ·rfl
  ·exfalso;have hz:=congrArg List.length (hg1.1);simp only[xaa,xab,xac] at hz;omega
 subst hrest;focus (refine rn [] (r1 rfl) (.eqd ?_) ⟨rfl,rfl⟩ (fun _ _ h=>h) (fun _ h=>h);all_goals (rw[<-hg1.2];simp[idxF,h1s,h1p]))
theorem zfz {xs:List Cl}{f:Nat}{caps:List AV}{hp:Hp}{p:Cl->Bool} (hs:xs.length<=1000000000000) (hcal:Callee Tryz.prog f)
  (hf:∀t∈xs,FnD Tryz.prog f ([.agg [.d (.i t.pat.op),.d (.i t.pat.ctor),.d (.i t.pat.n),.d (.i t.pat.m),.d (.i t.pat.var),.d (zaw t.pat.kids),.d (.i t.g.op),.d (.i t.g.var),.d (.i t.g.n)]]++caps) hp (.d (.bool (p t))) []) (k1:subH hp hp) (k2:zdG hp=true) (k3:zam hp [] (.d .nilp) []=true):
  FnD Tryz.prog 121 [.d (zbi xs),.fn f caps] hp (.d (.bool (xs.any p))) []:=by
 refine bd Tryz.f121 9 [] [] fun w0 F0 own kept hk=>?_;refine Walk.call (cr:=[]) zqq (zgv hs hcal hf k1 k2 k3) rfl .none rfl rfl (LeL.refl _) k1 k2 (zd3 k3 _) rfl ?_;refine ev ?_;refine rn [] (r1 rfl) (.eqd ?_) ⟨rfl,rfl⟩ (fun _ _ h=>h) (fun _ h=>h);rotate_left;all_goals (exact congrArg D.bool (zeH p xs 0))
theorem znL (w:List Data) (t:Ty) (p:Pat):(zfY w t p).length<=6:=(zeM w 10 t p 0).2
theorem zjU {g:Gd}{vars:List Vt} (hv:vars.length<=1000000000000):FnD Tryz.prog 218 [.agg [.d (.i g.op),.d (.i g.var),.d (.i g.n)],.d (zco vars)] [] (.d (.bool (gdOk g vars))) []:=by
 refine bd Tryz.f218 27 [10] [] fun w0 F0 own kept hk=>?_;refine bx 3002 ?_;refine evs [10] [] ?_;refine sq ?_ ?_<;>intro h1 h1p h1s<;>(try simp only[Q,zay] at h1p);refine bu [] [] st38 ?_;refine Walk.eqV eq38 .none rfl rfl rfl rfl rfl ?_;refine evs [10] [] ?_;refine rq ?_;rotate_left;refine wc zcP (zaZ) rfl rfl ?_;refine evs [10] [] ?_;refine sq ?_ ?_<;>intro h2 h2p h2s<;>(try simp only[Q,zay] at h2p);refine Walk.call (cr:=[]) zcP (zaZ) rfl (.some rfl rfl h2) rfl rfl (LeL.refl _) trivial rfl rfl rfl ?_;refine evs [10] [(14,true)] ?_ ⟨⟨_,rfl,h2⟩,trivial⟩;refine sq ?_ ?_<;>intro h3 h3p h3s<;>(try simp only[Q,zay] at h3p);refine Walk.build st25 (ks:=[0]) (xs:=[_]) rfl rfl (.some rfl rfl h3) rfl rfl rfl ?_;refine Walk.build znJ (ks:=[0,1]) (xs:=[_,_]) rfl rfl (.some rfl rfl h3) rfl rfl rfl ?_;refine Walk.call (cr:=[]) zn9 (zeb (v:=⟨g.var,⟨-1,0⟩⟩) hv) rfl (.some rfl rfl h3) rfl rfl (LeL.refl _) trivial rfl rfl rfl ?_;refine evs [10] [(19,true)] ?_ ⟨⟨_,rfl,h3⟩,trivial⟩;refine rq ?_;rotate_left;refine rq ?_;rotate_left;refine sqF ?_;refine rq ?_;rotate_left;all_goals (refine congrArg D.bool ?_;unfold gdOk;first|(rw[if_pos (by omega)];simp_all;done)|(rw[if_neg (by omega)];simp_all[zay];done)|(rw[if_neg (by omega)];simp_all[zay];omega))
theorem zjd {w:List Data} (hw:WT w){t:Ty}{c:Cl} (ht:TyIn w.length t) (hok:c.pat.ok):
  FnD Tryz.prog 123 [.d (zao w),.agg [.d (.i t.data),.d (.i t.index)],.agg [.d (.i c.pat.op),.d (.i c.pat.ctor),.d (.i c.pat.n),.d (.i c.pat.m),.d (.i c.pat.var),.d (zaw c.pat.kids),.d (.i c.g.op),.d (.i c.g.var),.d (.i c.g.n)]] [] (.d (.bool (clOk w t c))) []:=by
 have ht':TyIn w.length ⟨t.data,t.index⟩:=ht;have hvl:=znL w t c.pat;refine bd Tryz.f123 24 [] [] fun w0 F0 own kept hk=>?_;refine bx 3004 ?_;refine bx 3005 ?_;refine ev ?_;refine wc zqr (zhx hw ht' hok) rfl rfl ?_;refine ev ?_;refine sq ?_ ?_<;>intro h1 h1p h1s<;>(try simp only[Q] at h1p);refine Walk.call (cr:=[]) zqs (zjU (g:=c.g) (vars:=zfY w t c.pat) (by omega)) rfl (.some rfl rfl h1) rfl rfl (LeL.refl _) trivial rfl rfl rfl ?_;refine evs [] [(18,true)] ?_ ⟨⟨_,rfl,h1⟩,trivial⟩;refine rq ?_;rotate_left;refine rq ?_;rotate_left;all_goals (refine congrArg D.bool ?_;unfold clOk;have hte:(⟨t.data,t.index⟩:Ty)=t:=rfl;(simp_all;done))
theorem zgu {w:List Data} (hw:WT w){a k:Int}{c:Cl} (ht:TyIn w.length ⟨a,k⟩) (hok:c.pat.ok):
  FnD Tryz.prog 122 [.agg [.d (.i c.pat.op),.d (.i c.pat.ctor),.d (.i c.pat.n),.d (.i c.pat.m),.d (.i c.pat.var),.d (zaw c.pat.kids),.d (.i c.g.op),.d (.i c.g.var),.d (.i c.g.n)],.ref 3003 0,.ref 3004 0] [(3003,some (.box [.d (zao w)])),(3004,some (.box [.d (.i a),.d (.i k)]))] (.d (.bool (!clOk w ⟨a,k⟩ c))) []:=by
 refine bd Tryz.f122 10 [] [] fun w0 F0 own kept hk=>?_;refine bx 3901 ?_;refine ev ?_;refine wc zqe (zjd (t:=⟨a,k⟩) (c:=c) hw ht hok) rfl rfl ?_;refine ev ?_;refine rn [] (r1 rfl) (.eqd ?_) ⟨rfl,rfl⟩ (SubH.get ⟨rfl,⟨rfl,trivial⟩⟩) (fun _ h=>h);rotate_left;all_goals (rfl)
theorem zel {w:List Data} (hs:WSmall w){a k:Int}{l:List Cl} (hl:ClsOk l):
  FnD Tryz.prog 58 [.d (zao w),.agg [.d (.i a),.d (.i k)],.d (zbi l)] [] (.d (.bool (za4 w ⟨a,k⟩ l))) []:=by
 have hll:=hl.1;refine bd Tryz.f58 21 [] [] fun w0 F0 own kept hk=>?_;refine bx 3003 ?_;refine bx 3004 ?_;refine ev ?_;refine wc zqb (ziF hs) rfl rfl ?_;refine ev ?_;refine sq ?_ ?_<;>intro h1 h1p h1s<;>(try simp only[Q] at h1p);refine sq ?_ ?_<;>intro h2 h2p h2s<;>(try simp only[Q] at h2p);refine xaH (xs:=[_,_]) rfl (.some rfl rfl h2) rfl rfl ?_;refine Walk.call (cr:=[]) zqc (zfz (p:=fun c=> !clOk w ⟨a,k⟩ c) hl.1 zqd (fun t htm=>zgu (zfX hs (zcH (by assumption)).1) (zcH (by assumption)).2.1 (hl.2 t htm)) ⟨rfl,rfl,trivial⟩ rfl rfl) rfl (.some rfl rfl h2) rfl rfl (LeL.refl _) ⟨rfl,rfl,trivial⟩ rfl rfl rfl ?_;refine evs [] [(15,true)] ?_ ⟨⟨_,rfl,h2⟩,trivial⟩;refine rq ?_;rotate_left;refine rq ?_;rotate_left;refine sqF ?_;refine rq ?_;rotate_left;all_goals (refine congrArg D.bool ?_;unfold za4;first|(simp_all;done)|(simp_all;omega))
def AZ (w:List Data):Prop:=∀t c,c∈zbg w t->TyIn w.length t->∀u∈zaN w t c,u.data = -1->u.index=0
theorem zpi {w:List Data} (hv:zbp w=true):AZ w:=by
 have hW:=(zeQ w).1 hv;rintro ⟨a,k⟩ c hc ht u hu hd
 obtain⟨d,rfl,h1,j,rfl,h3⟩:=zda ht hc;have hco:=hW.ctor _ (zap h1) _ (zap h3);simp only[zbt,xad,decide_eq_true_eq,Bool.not_eq_true',List.any_eq_false,Bool.not_eq_false'] at hco;have hall:=hco.2.2.2;simp only[zaN,Int.toNat_natCast] at hu;obtain⟨x,hx,rfl⟩:=List.mem_map.1 hu;have hxo:=hall x hx;simp only[zbO,zay,Bool.or_eq_true,xad,decide_eq_true_eq,and_true,Bool.not_eq_true',Bool.not_eq_false] at hxo;unfold zcp at hd ⊢;split at hd
 ·rename_i hi;rw[if_pos hi];dsimp only at hd ⊢;omega
 ·rename_i hi;rw[if_neg hi];omega
theorem zoL {n:Nat}{t:Ty} (h:zdw n t=true):TyOk n t:=by
 refine⟨zoK h,fun hd=>?_⟩;simp only[zdw,zay,Bool.or_eq_true,xad,decide_eq_true_eq,and_true] at h;omega
theorem zoQ {w:List Data}{t:Ty}{p:Pat} (h:isP w t p=true):zfY w t p=zaA w 10 t p:=by
 unfold isP at h;simp only[xad,decide_eq_true_eq] at h;have e:=(zdu w 10 t p 0).1;have hw:zbh w 10 t p 0=true:=by
  unfold zbh;rw[h.1,h.2.2,decide_eq_true (by omega)];rfl
 rw[if_pos hw] at e;unfold zfY;rw[e];rfl
theorem zoR {w:List Data}{t:Ty}{p:Pat} (h:isP w t p=true):zbI (zaA w 10 t p)=true:=by
 unfold isP at h;simp only[xad] at h;exact zdq w 10 t p h.1 h.2.2
theorem zmY {w:List Data} (hw:WT w) (haz:AZ w):∀(n:Nat){t:Ty}{p:Pat},zav w n t p=true->TyOk w.length t->∀v∈zaA w n t p,TyOk w.length v.ty
 |0,t,p,h,_=>by simp[zav] at h
 |n+1,t,p,h,ht=>by
  obtain⟨ho,hlen⟩:=zch h;intro v hv;have hto:∀u∈zag w t p,TyOk w.length u:=fun u hu=>by
   refine⟨zfb (a:=t.data) (k:=t.index) hw ht.1 ho u hu,fun hd=>?_⟩;unfold zag at hu;split at hu
   ·rename_i h4;exact haz t p.ctor (zcb ho h4) ht.1 u hu hd
   ·split at hu
    ·simp only[List.mem_cons,List.not_mem_nil,or_false,or_self] at hu;rw[hu] at hd ⊢;exact ht.2 hd
    ·split at hu
     ·simp only[List.mem_cons,List.not_mem_nil,or_false] at hu;rw[hu] at hd ⊢;exact ht.2 hd
     ·simp at hu
  simp only[zaA,List.mem_append] at hv;rcases hv with hv|hv
  ·unfold zaF at hv;split at hv
   ·simp only[List.mem_cons,List.not_mem_nil,or_false] at hv;rw[hv];exact ht
   ·simp at hv
  ·have key:∀(a:List Ty) (b:List Pat),(∀i,i<a.length->i<b.length->∀v∈zaA w n (nth a i) (nth b i),TyOk w.length v.ty)->∀v∈zaR (zaA w n) a b,TyOk w.length v.ty:=by
    intro a;induction a with
    |nil=>intro b _ v hv;simp[zaR] at hv
    |cons x r ih=>
     intro b h v hv;cases b with
     |nil=>simp[zaR] at hv
     |cons y s=>
      simp only[zaR,List.mem_append] at hv;rcases hv with hv|hv
      ·exact h 0 (by simp) (by simp) v hv
      ·exact ih s (fun i h1 h2=>h (i+1) (by simpa using h1) (by simpa using h2)) v hv
   refine key (zcc w t p) p.kids (fun i h1 h2=>?_) v hv;have hvt:i<(zag w t p).length/\nth (zcc w t p) i=nth (zag w t p) i:=by
    unfold zcc at h1 ⊢;split at h1
    ·rename_i h5;rw[if_pos h5];rw[List.length_take] at h1;refine⟨by omega, ?_⟩;have:i=0:=by omega
     subst this;cases hT:zag w t p with
     |nil=>rfl
     |cons a b=>rfl
    ·rename_i h5;rw[if_neg h5];exact⟨h1,rfl⟩
   rw[hvt.2];exact zmY hw haz n (zbx h (by omega)) (hto _ (zap hvt.1))
def gdS (g:Gd) (vars:List Vt):Bool:=if g.op=0 then decide (g.var=0/\g.n=0) else decide (1<=g.op/\g.op<=2/\0<=g.n/\g.n<=9)&&(decide (0<=zbn vars g.var)&&decide ((nth vars (zbn vars g.var).toNat).ty.data = -1))
theorem zq5 {n:Nat}{g:Gd}{vars:List Vt} (hn:zbI vars=true) (hv:∀v∈vars,TyOk n v.ty):gdS g vars=gdOk g vars:=by
 unfold gdS gdOk;split
 ·rfl
 ·congr 1
  have hnod:=of_decide_eq_true hn;rw[Bool.eq_iff_iff];simp only[xad,decide_eq_true_eq];constructor
  ·rintro ⟨h1,h2⟩
   rcases zeh vars g.var with ⟨h3,_⟩|⟨k,h3,h4,h5,_⟩
   ·omega
   ·rw[h3] at h2;simp only[Int.toNat_natCast] at h2;have hm:=zap h4;have ho:=(hv _ hm).2 h2;have:nth vars k=⟨g.var,⟨-1,0⟩⟩:=by
     generalize nth vars k=z at *;obtain⟨zv,⟨za,zk⟩⟩:=z;dsimp only at h5 h2 ho;rw[h5,h2,ho]
    rw[<-this];exact hm
  ·intro hm;rcases zeh vars g.var with ⟨_,h4⟩|⟨k,h3,h4,h5,_⟩
   ·exact absurd rfl (h4 _ hm)
   ·refine⟨by omega, ?_⟩;rw[h3];simp only[Int.toNat_natCast];obtain⟨j,hj,e⟩:=List.getElem_of_mem hm;have ej:nth vars j=⟨g.var,⟨-1,0⟩⟩:=by simp[nth,List.getD,hj,e]
    have:k=j:=zh4 hnod h4 hj (by rw[h5,ej]);rw[this,ej]
theorem zkt {g:Gd}{vars:List Vt} (hv:vars.length<=1000000000000):FnD Tryz.prog 224 [.agg [.d (.i g.op),.d (.i g.var),.d (.i g.n)],.d (zco vars)] [] (.d (.bool (gdS g vars))) []:=by
 have hlt:=fun h=>zi9 (l:=vars) (n:=g.var) h;refine bd Tryz.f224 50 [] [3] fun w0 F0 own kept hk=>?_;refine bx 3002 ?_;refine ev ?_;refine sq ?_ ?_<;>intro h1 h1p h1s<;>(try simp only[Q] at h1p);refine sq ?_ ?_<;>intro h2 h2p h2s<;>(try simp only[Q] at h2p);refine rq ?_;rotate_left;refine rq ?_;rotate_left;refine xap ?_;refine xay 18 [(34,.d (.bool (decide (¬(1<=g.op/\g.op<=2/\0<=g.n/\g.n<=9)))))] [17,18,19,20,21,22,23,24,25,26,27,28,29,30,31,32,33] ?_ ?_;refine ev ?_;refine sq ?_ ?_<;>intro h3 h3p h3s<;>(try simp only[Q] at h3p);refine sq ?_ ?_<;>intro h4 h4p h4s<;>(try simp only[Q] at h4p);refine sqT ?_;focus (exact jn rfl (xat (by((rw[Bool.eq_iff_iff];simp_all;omega)))))
 refine sq ?_ ?_<;>intro h5 h5p h5s<;>(try simp only[Q] at h5p);focus (exact jn rfl (xat (by((rw[Bool.eq_iff_iff];simp_all;done)))))
 focus (exact jn rfl (xat (by((rw[Bool.eq_iff_iff];simp_all;done)))))
 refine sqF ?_;refine sq ?_ ?_<;>intro h6 h6p h6s<;>(try simp only[Q] at h6p);focus (exact jn rfl (xat (by((rw[Bool.eq_iff_iff];simp_all;done)))))
 focus (exact jn rfl (xat (by((rw[Bool.eq_iff_iff];simp_all;done)))))
 refine xax ?_;refine tv ?_;refine sq ?_ ?_<;>intro h7 h7p h7s<;>(try simp only[Q] at h7p);refine rq ?_;rotate_left;refine wc zmj (zeN hv) rfl rfl ?_;refine ev ?_;refine sq ?_ ?_<;>intro h8 h8p h8s<;>(try simp only[Q] at h8p);refine xaK (i:=(zbn vars g.var).toNat) zcK (.some rfl rfl h8) rfl rfl rfl (by have:=hlt (by omega);omega) (zau (by have:=hlt (by omega);omega)) rfl ?_;refine evs [] [(41,true)] ?_ ⟨⟨_,rfl,h8⟩,trivial⟩;refine rq ?_;rotate_left;refine rq ?_;rotate_left;all_goals (refine congrArg D.bool ?_;unfold gdS;first|(rw[if_pos (by omega)];simp_all;done)|(rw[if_neg (by omega),decide_eq_false (by omega),Bool.false_and];done)|(rw[if_neg (by omega),decide_eq_true (by omega),Bool.true_and,decide_eq_false (by omega),Bool.false_and];done)|(rw[if_neg (by omega)];simp_all;done))
theorem zmS {w:List Data} (hw:WT w) (haz:AZ w){t:Ty}{c:Cl} (ht:TyOk w.length t) (hok:c.pat.ok) (hsz:c.pat.size<=1000000000000):
  FnD Tryz.prog 127 [.d (zao w),.agg [.d (.i t.data),.d (.i t.index)],.agg [.d (.i c.pat.op),.d (.i c.pat.ctor),.d (.i c.pat.n),.d (.i c.pat.m),.d (.i c.pat.var),.d (zaw c.pat.kids),.d (.i c.g.op),.d (.i c.g.var),.d (.i c.g.n)]] [] (.d (.bool (clOk w t c))) []:=by
 have ht':TyIn w.length ⟨t.data,t.index⟩:=ht.1;have hcl:clOk w t c=(isP w t c.pat&&gdOk c.g (zfY w t c.pat)):=rfl;cases hp:isP w t c.pat with
 |false=>
  have hpi:=zin hw ht' hok hsz;have hpi':FnD Tryz.prog 223 [.d (zao w),.agg [.d (.i t.data),.d (.i t.index)],.agg [.d (.i c.pat.op),.d (.i c.pat.ctor),.d (.i c.pat.n),.d (.i c.pat.m),.d (.i c.pat.var),.d (zaw c.pat.kids)]] [] (.d (.bool false)) []:=by rw[<-hp];exact hpi
  rw[hcl,hp,Bool.false_and];refine bd Tryz.f127 22 [] [] fun w0 F0 own kept hk=>?_;refine bx 3004 ?_;refine bx 3005 ?_;refine ev ?_;refine wc zn0 (hpi') rfl rfl ?_;refine evd [] [] ?_;refine sq ?_ ?_<;>intro h1 h1p h1s<;>(try simp only[Q] at h1p);exfalso;contradiction;refine dr ?_;refine rq ?_;rotate_left;all_goals (rfl)
 |true=>
  have hpi:=zin hw ht' hok hsz;have hpi':FnD Tryz.prog 223 [.d (zao w),.agg [.d (.i t.data),.d (.i t.index)],.agg [.d (.i c.pat.op),.d (.i c.pat.ctor),.d (.i c.pat.n),.d (.i c.pat.m),.d (.i c.pat.var),.d (zaw c.pat.kids)]] [] (.d (.bool true)) []:=by rw[<-hp];exact hpi
  have hsh:zav w 10 ⟨t.data,t.index⟩ c.pat=true:=by
   have:=hp;unfold isP at this;simp only[xad] at this;exact this.1
  have hvl:=zdx w 10 ⟨t.data,t.index⟩ c.pat;have hge:=zq5 (g:=c.g) (zoR hp) (zmY hw haz 10 hsh ht);have hge':gdS c.g (zaA w 10 ⟨t.data,t.index⟩ c.pat)=gdOk c.g (zfY w t c.pat):=by rw[zoQ hp];exact hge
  rw[hcl,hp,Bool.true_and,<-hge'];refine bd Tryz.f127 22 [] [] fun w0 F0 own kept hk=>?_;refine bx 3004 ?_;refine bx 3005 ?_;refine ev ?_;refine wc zn0 (hpi') rfl rfl ?_;refine evd [] [] ?_;refine sq ?_ ?_<;>intro h1 h1p h1s<;>(try simp only[Q] at h1p);refine Walk.call (cr:=[]) zgA (zdj hw hsh (by omega) ht' hok hsz) rfl (.some rfl rfl h1) rfl rfl (LeL.refl _) trivial rfl rfl rfl ?_;refine Walk.call (cr:=[]) zqu (zkt (g:=c.g) (by omega)) rfl (.some rfl rfl h1) rfl rfl (LeL.refl _) trivial rfl rfl rfl ?_;refine evd [] [(12,true)] ?_ ⟨⟨_,rfl,h1⟩,trivial⟩;refine dr ?_;refine rq ?_;rotate_left;exfalso;contradiction;all_goals (rfl)
def ClsSz (l:List Cl):Prop:=∀c∈l,c.pat.size<=1000000000000
theorem zrm {w:List Data}{t:Ty} (h:zbr w t=true):TyOk w.length t:=by
 unfold zbr at h;rw[xad] at h;exact zoL h.2
theorem zqX {w:List Data}{t:Ty}{l:List Cl}{i:Nat} (hi:i<l.length) (h:clOk w t (nth l i)=false):za4 w t l=false:=by
 unfold za4;have:l.any (fun c=> !clOk w t c)=true:=List.any_eq_true.2 ⟨nth l i,zap hi,by rw[h];rfl⟩;rw[this];simp
theorem zpR {w:List Data}{t:Ty}{l:List Cl} (ht:zbr w t=true) (hl:l.length<=8) (h:∀i,i<l.length->clOk w t (nth l i)=true):za4 w t l=true:=by
 unfold za4;rw[ht,decide_eq_true (by omega),Bool.true_and,Bool.true_and,Bool.not_eq_true',List.any_eq_false];intro c hc;obtain⟨i,hi,rfl⟩:=List.getElem_of_mem hc;have:=h i hi;simp only[nth,List.getD,List.getElem?_eq_getElem hi,Option.getD_some] at this;simp[this]
theorem zpS {w:List Data}{t:Ty}{l:List Cl} (h:8<l.length):za4 w t l=false:=by
 unfold za4;rw[decide_eq_false (by omega),Bool.false_and,Bool.and_false]
theorem zqY {w:List Data}{t:Ty}{l:List Cl} (h:zbr w t=false):za4 w t l=false:=by
 unfold za4;rw[h,Bool.false_and]
theorem zhe {w:List Data} (hs:WSmall w){a k:Int}{l:List Cl} (hl:ClsOk l) (hz:ClsSz l):
  FnD Tryz.prog 60 [.d (zao w),.agg [.d (.i a),.d (.i k)],.d (zbi l)] [] (.d (.bool (za4 w ⟨a,k⟩ l))) []:=by
 have hll:=hl.1;refine bd Tryz.f60 31 [] [] fun w0 F0 own kept hk=>?_;refine bx 3004 ?_;refine ev ?_;refine wc zqf (zjz hs) rfl rfl ?_;refine ev ?_;refine sq ?_ ?_<;>intro h1 h1p h1s<;>(try simp only[Q,Int.natCast_inj] at h1p);refine sqT ?_;refine rq ?_;rotate_left;refine sq ?_ ?_<;>intro h3 h3p h3s<;>(try simp only[Q,Int.natCast_inj] at h3p);refine rq ?_;rotate_left;refine xam (ι:=Nat) hk (fun i=>[(7,.d (.i (i:Int)))]) [6,17,18,19,20,21,22,23,24,25,26,27,28,29,30] (fun i=>[]) (fun i=>i<=l.length/\∀i',i'<i->clOk w ⟨a,k⟩ (nth l i')=true) (fun i=>l.length-i) 0 ⟨by omega,fun _ h=>absurd h (by omega)⟩ ⟨⟨_,rfl,xau ?_⟩,trivial⟩ trivial (fun x=>rfl) (fun i hg1=>?_);focus (first|rfl|(simp;done)|(simp_all;done)|omega)
 refine evc [] [] ?_;refine sq ?_ ?_<;>intro h4 h4p h4s<;>(try simp only[Q,Int.natCast_inj] at h4p);refine xaK sl26 .none rfl rfl rfl rfl (zau (by omega)) rfl ?_;refine evd [] [] ?_;refine wc zqg (zmS (t:=⟨a,k⟩) (c:=nth l i) (zfX hs (zcH (by assumption)).1) (zpi (zcH (by assumption)).1) (zrm (by assumption)) (hl.2 _ (zap (by omega))) (hz _ (zap (by omega)))) rfl rfl ?_;refine evd [] [] ?_;refine dr ?_;refine sq ?_ ?_<;>intro h5 h5p h5s<;>(try simp only[Q,Int.natCast_inj] at h5p);refine rq ?_;rotate_left;refine ar ?_;refine xah (i+1) ⟨⟨by omega,zaL hg1.2 (by assumption)⟩,(by omega),sx ⟨⟨_,rfl,xau ?_⟩,trivial⟩ trivial⟩;focus (first|rfl|(simp;done)|(simp_all;done)|omega)
 refine rq ?_;rotate_left;all_goals (refine congrArg D.bool ?_;first|(rw[zqY (by assumption)];done)|(rw[zpS (by omega)];done)|(rw[zqX (i:=i) (by omega) (by assumption)];done)|(rw[zpR (by assumption) (by omega) (fun x hx=>hg1.2 x (by omega))];done))
theorem zlk {α:Type} [Inhabited α] (p:α->Bool):∀(l:List α) (i:Nat),(idxF p l i = -1/\∀v∈l,p v=false)\/∃k:Nat,idxF p l i=((i+k:Nat):Int)/\k<l.length/\p (nth l k)=true/\∀j,j<k->p (nth l j)=false
 | [],i=> .inl ⟨rfl,by simp⟩
 |x::r,i=>by
  unfold idxF;cases h:p x with
  |true=>exact .inr ⟨0,by simp,by simp,by simpa [nth] using h,fun j hj=>absurd hj (by omega)⟩
  |false=>
   rcases zlk p r (i+1) with ⟨h1,h2⟩|⟨k,h1,h2,h3,h4⟩
   ·exact .inl ⟨by simpa using h1,fun v hv=>by rcases List.mem_cons.1 hv with rfl|hv;exact h;exact h2 v hv⟩
   ·refine .inr ⟨k+1, ?_,by simpa using h2,by simpa [nth] using h3,fun j hj=>?_⟩
    ·simp only[Bool.false_eq_true,if_false];rw[h1];congr 1;omega
    ·cases j with
     |zero=>simpa [nth] using h
     |succ j=>simpa [nth] using h4 j (by omega)
def zf5 (l:List Bd) (n:Int):Int:=idxF (fun b=>decide (b.var=n)) l 0
def zhN (g:Gd) (b:Bd):Bool:=decide (b.val.ctor = -1)&&((decide (g.op=1)&&decide (b.val.num<g.n))||(decide (g.op=2)&&decide (b.val.num=g.n)))
def zbD (g:Gd) (l:List Bd):Bool:=decide (g.op=0)||(decide (0<=zf5 l g.var)&&zhN g (nth l (zf5 l g.var).toNat))
theorem zfu (l:List Bd) (n:Int):(zf5 l n = -1/\∀v∈l,v.var≠n)\/∃k:Nat,zf5 l n=(k:Int)/\k<l.length/\(nth l k).var=n/\∀j,j<k->(nth l j).var≠n:=by
 rcases zlk (fun b:Bd=>decide (b.var=n)) l 0 with ⟨h1,h2⟩|⟨k,h1,h2,h3,h4⟩
 ·exact .inl ⟨h1,fun v hv=>by simpa using h2 v hv⟩
 ·exact .inr ⟨k,by unfold zf5;rw[h1];simp,h2,by simpa using h3,fun j hj=>by simpa using h4 j hj⟩
theorem zo2 {l:List Bd}{n:Int}{k:Nat} (hk:k<l.length) (h:(nth l k).var=n) (h2:∀j,j<k->¬(nth l j).var=n):zf5 l n=(k:Int):=by
 rcases zfu l n with ⟨_,h4⟩|⟨i,h3,h4,h5,h6⟩
 ·exact absurd h (h4 _ (zap hk))
 ·rcases Nat.lt_trichotomy i k with hl|hl|hl
  ·exact absurd h5 (h2 i hl)
  ·rw[h3,hl]
  ·exact absurd h (h6 k hl)
theorem zo3 {l:List Bd}{n:Int} (h2:∀j,j<l.length->¬(nth l j).var=n):zf5 l n = -1:=by
 rcases zfu l n with ⟨h3,_⟩|⟨i,h3,h4,h5,h6⟩
 ·exact h3
 ·exact absurd h5 (h2 i h4)
theorem zkJ {g:Gd}{l:List Bd}{k:Nat} (h0:¬g.op=0) (hk:k<l.length) (h:(nth l k).var=g.var) (h2:∀j,j<k->¬(nth l j).var=g.var):zbD g l=zhN g (nth l k):=by
 unfold zbD;rw[decide_eq_false h0,zo2 hk h h2,decide_eq_true (by omega)];simp
theorem zkK {g:Gd}{l:List Bd} (h0:¬g.op=0) (h2:∀j,j<l.length->¬(nth l j).var=g.var):zbD g l=false:=by
 unfold zbD;rw[decide_eq_false h0,zo3 h2];rfl
theorem zmv {g:Gd}{l:List Bd} (h0:g.op=0):zbD g l=true:=by unfold zbD;rw[decide_eq_true h0];rfl
theorem zmw {g:Gd}{l:List Bd} (hn:(l.map Bd.var).Nodup):zbD g l=true↔(g.op=0\/∃b∈l,b.var=g.var/\zhN g b=true):=by
 by_cases h0:g.op=0
 ·rw[zmv h0];simp[h0]
 ·rcases zfu l g.var with ⟨h3,h4⟩|⟨k,h3,h4,h5,h6⟩
  ·rw[zkK h0 (fun j hj=>h4 _ (zap hj))];simp only[Bool.false_eq_true,false_iff];rintro (h|⟨b,hb,h,_⟩)
   ·exact h0 h
   ·exact h4 b hb h
  ·rw[zkJ h0 h4 h5 h6];constructor
   ·intro h;exact .inr ⟨_,zap h4,h5,h⟩
   ·rintro (h|⟨b,hb,h,hc⟩)
    ·exact absurd h h0
    ·obtain⟨j,hj,e⟩:=List.getElem_of_mem hb;have ej:nth l j=b:=by simp[nth,List.getD,hj,e]
     have hjk:j=k:=by
      have hn':=List.pairwise_iff_getElem.1 hn;rcases Nat.lt_trichotomy j k with hl|hl|hl
      ·exact absurd (by rw[ej];exact h) (h6 j hl)
      ·exact hl
      ·have:=hn' k j (by simpa using h4) (by simpa using hj) hl;simp only[List.getElem_map] at this;refine absurd ?_ this;rw[<-za2 h4,<-za2 hj,h5,ej,h]
     rw[<-hjk,ej];exact hc
theorem zou {g:Gd}{a b:List Bd} (hp:a.Perm b) (hn:(b.map Bd.var).Nodup):zbD g a=zbD g b:=by
 have hna:(a.map Bd.var).Nodup:=(hp.map Bd.var).nodup_iff.2 hn;rw[Bool.eq_iff_iff,zmw hna,zmw hn];constructor
 ·rintro (h|⟨x,hx,h⟩)
  ·exact .inl h
  ·exact .inr ⟨x,hp.mem_iff.1 hx,h⟩
 ·rintro (h|⟨x,hx,h⟩)
  ·exact .inl h
  ·exact .inr ⟨x,hp.mem_iff.2 hx,h⟩
theorem znk {α:Type} [Inhabited α]{l:List α}{i j:Nat}{x:α} (hi:i<l.length):nth (l.set i x) j=if i=j then x else nth l j:=by
 unfold nth;simp only[List.getD,List.getElem?_set];by_cases h:i=j
 ·subst h;simp[hi]
 ·simp[h]
theorem zkm:∀(j i:Nat) (L:List Bd),j<=i->i<L.length->(∀a b,a<b->b<=i->a≠j->b≠j->(nth L a).var<=(nth L b).var)->(∀b,j<b->b<=i->(nth L j).var<=(nth L b).var)->
  ∀a b,a<b->b<=i->(nth (zbP j L) a).var<=(nth (zbP j L) b).var
 |0,i,L,hj,hi,h1,h2,a,b,hab,hb=>by
  show(nth L a).var<=(nth L b).var
  by_cases ha:a=0
  ·subst ha;exact h2 b hab hb
  ·exact h1 a b hab hb ha (by omega)
 |j+1,i,L,hj,hi,h1,h2,a,b,hab,hb=>by
  unfold zbP;split
  ·rename_i hlt;have hs:∀k,nth (zcB L j) k=if j=k then nth L (j+1) else if j+1=k then nth L j else nth L k:=fun k=>by
    unfold zcB;rw[znk (by simp;omega),znk (by omega)]
   refine zkm j i (zcB L j) (by omega) (by rw[zgm];omega) (fun a b hab hb ha hbj=>?_) (fun b hjb hb=>?_) a b hab hb
   ·have ea:nth (zcB L j) a=if j+1=a then nth L j else nth L a:=by rw[hs a,if_neg (fun h=>ha h.symm)]
    have eb:nth (zcB L j) b=if j+1=b then nth L j else nth L b:=by rw[hs b,if_neg (fun h=>hbj h.symm)]
    rw[ea,eb];by_cases e1:j+1=a
    ·rw[if_pos e1,if_neg (by omega)];exact h1 j b (by omega) hb (by omega) (by omega)
    ·rw[if_neg e1];by_cases e2:j+1=b
     ·rw[if_pos e2];exact h1 a j (by omega) (by omega) (by omega) (by omega)
     ·rw[if_neg e2];exact h1 a b hab hb (by omega) (by omega)
   ·have ea:nth (zcB L j) j=nth L (j+1):=by rw[hs j,if_pos rfl]
    have eb:nth (zcB L j) b=if j+1=b then nth L j else nth L b:=by rw[hs b,if_neg (by omega)]
    rw[ea,eb];by_cases e2:j+1=b
    ·rw[if_pos e2];omega
    ·rw[if_neg e2];exact h2 b (by omega) hb
  ·rename_i hge;by_cases ha:a=j+1
   ·subst ha;exact h2 b hab hb
   ·by_cases hbj:b=j+1
    ·subst hbj;by_cases haj:a=j
     ·subst haj;omega
     ·have:=h1 a j (by omega) (by omega) ha (by omega);omega
    ·exact h1 a b hab hb ha hbj
theorem zi5:∀(k i:Nat) (L:List Bd),i+k<=L.length->(∀a b,a<b->b<i->(nth L a).var<=(nth L b).var)->∀a b,a<b->b<i+k->(nth (zb9 k i L) a).var<=(nth (zb9 k i L) b).var
 |0,i,L,_,h,a,b,hab,hb=>h a b hab hb
 |k+1,i,L,hl,h,a,b,hab,hb=>by
  unfold zb9;refine zi5 k (i+1) (zbP i L) (by rw[ze9];omega) (fun a b hab hb=>?_) a b hab (by omega);exact zkm i i L (Nat.le_refl _) (by omega) (fun a b hab hb ha hbi=>h a b hab (by omega)) (fun b h1 h2=>by omega) a b hab (by omega)
theorem zmP (L:List Bd):(zci L).Pairwise fun x y=>x.var<=y.var:=by
 rw[List.pairwise_iff_getElem];intro i j hi hj hij;rw[<-za2 hi,<-za2 hj];have hl:=zec L;refine zi5 (L.length-1) 1 L (by omega) (fun a b hab hb=>by omega) i j hij (by omega)
theorem zku:∀ {a b:List Bd},a.Pairwise (fun x y=>x.var<y.var)->b.Pairwise (fun x y=>x.var<y.var)->(∀x,x∈a↔x∈b)->a=b
 | [],[],_,_,_=>rfl
 | [],y::s,_,_,h=>absurd ((h y).2 (by simp)) (by simp)
 |x::r,[],_,_,h=>absurd ((h x).1 (by simp)) (by simp)
 |x::r,y::s,ha,hb,h=>by
  obtain⟨h1,h2⟩:=List.pairwise_cons.1 ha;obtain⟨h3,h4⟩:=List.pairwise_cons.1 hb;have e:x=y:=by
   rcases List.mem_cons.1 ((h x).1 (by simp)) with e|e
   ·exact e
   ·rcases List.mem_cons.1 ((h y).2 (by simp)) with e2|e2
    ·exact e2.symm
    ·have:=h3 x e;have:=h1 y e2;omega
  subst e;congr 1
  refine zku h2 h4 (fun z=>?_);have hz:=h z;simp only[List.mem_cons] at hz;constructor
  ·intro hr;rcases hz.1 (.inr hr) with e|e
   ·subst e;have:=h1 z hr;omega
   ·exact e
  ·intro hs;rcases hz.2 (.inr hs) with e|e
   ·subst e;have:=h3 z hs;omega
   ·exact e
def ziD (L:List Bd):List Bd:=(List.range 6).flatMap fun(n:Nat)=>L.filter fun b=>decide (b.var=(n:Int))
theorem zmO {L:List Bd} (hn:(L.map Bd.var).Nodup):(ziD L).Pairwise fun x y=>x.var<y.var:=by
 have key:∀(m:Nat),((List.range m).flatMap fun(n:Nat)=>L.filter fun b=>decide (b.var=(n:Int))).Pairwise fun x y=>x.var<y.var:=by
  intro m;induction m with
  |zero=>simp
  |succ m ih=>
   rw[List.range_succ,List.flatMap_append];refine List.pairwise_append.2 ⟨ih, ?_,fun x hx y hy=>?_⟩
   ·simp only[List.flatMap_cons,List.flatMap_nil,List.append_nil];have hnd:(L.filter fun b=>decide (b.var=(m:Int))).Pairwise fun x y=>x.var≠y.var:=((List.pairwise_map.1 hn)).filter _;refine hnd.imp_of_mem (fun {x y} hx hy hne=>?_);simp only[List.mem_filter,decide_eq_true_eq] at hx hy;exact absurd (by rw[hx.2,hy.2]) hne
   ·simp only[List.mem_flatMap,List.mem_range,List.mem_filter,decide_eq_true_eq] at hx;simp only[List.flatMap_cons,List.flatMap_nil,List.append_nil,List.mem_filter,decide_eq_true_eq] at hy;obtain⟨k,hk,_,e⟩:=hx;rw[e,hy.2];omega
 exact key 6
theorem zpf {L:List Bd} (hn:(L.map Bd.var).Nodup) (hr:∀b∈L,0<=b.var/\b.var<=5):ziD L=zci L:=by
 have hs:(zci L).Pairwise fun x y=>x.var<y.var:=by
  have h1:=zmP L;have h2:((zci L).map Bd.var).Nodup:=((zdM L).map Bd.var).nodup_iff.2 hn;have h3:=List.pairwise_map.1 h2;exact h1.imp₂ (fun {a b} h4 h5=>by omega) h3
 refine zku (zmO hn) hs (fun x=>?_);rw[(zdM L).mem_iff];unfold ziD;simp only[List.mem_flatMap,List.mem_range,List.mem_filter,decide_eq_true_eq];constructor
 ·rintro ⟨k,_,h,_⟩;exact h
 ·intro h;have:=hr x h;exact⟨x.var.toNat,by omega,h,by omega⟩
def zcr (c:Cl) (v:Val):Bool:=(zak 10 c.pat v).2&&zbD c.g (zak 10 c.pat v).1
def runV:List Cl->Val->Int->Int×List Bd
 | [],_,_=>(-1,[])
 |c::r,v,i=>if zcr c v=true then (i,zci (zak 10 c.pat v).1) else runV r v (i+1)
theorem zmK {l:List Cl}{v:Val}{i:Nat} (h:i<l.length) (hr:zcr (nth l i) v=true):runV (l.drop i) v (i:Int)=((i:Int),zci (zak 10 (nth l i).pat v).1):=by
 rw[zaS h,runV,if_pos hr]
theorem zlu {l:List Cl}{v:Val}{i:Nat} (h:i<l.length) (hr:zcr (nth l i) v=false):runV (l.drop i) v (i:Int)=runV (l.drop (i+1)) v ((i+1:Nat):Int):=by
 rw[zaS h,runV,if_neg (by rw[hr];simp)];congr 1
theorem zmJ {l:List Cl}{v:Val}{i:Nat} (h:l.length<=i):runV (l.drop i) v (i:Int)=(-1,[]):=by
 rw[List.drop_eq_nil_of_le h];rfl
theorem zdU {xs:List Bd}{f:Nat}{caps:List AV}{hp:Hp}{p:Bd->Bool} (hs:xs.length<=1000000000000) (hcal:Callee Tryz.prog f)
  (hf:∀t∈xs,FnD Tryz.prog f ([.agg (bdA t)]++caps) hp (.d (.bool (p t))) []) (k1:subH hp hp) (k2:zdG hp=true) (k3:zam hp [] (.d .nilp) []=true):
  FnD Tryz.prog 278 [.d (zbm xs),.fn f caps] hp (.d (.i (idxF p xs 0))) []:=by
 refine bd Tryz.f278 19 [] [] fun w0 F0 own kept hk=>?_;refine xam (ι:=List (Bd)×List (Bd)) hk (fun x=>[(8,.d (.i (x.1.length:Int)))]) [4,5,9,10,11,12,13,14,15,16,17,18] (fun x=>[]) (fun x=>x.1++x.2=xs/\idxF p x.2 x.1.length=idxF p xs 0) (fun x=>x.2.length) ([],xs) ⟨by simp,rfl⟩ ⟨⟨_,rfl,xau ?_⟩,trivial⟩ trivial (fun x=>zfq hp) (fun x hg1=>?_);focus (first|rfl|(simp;done)|(simp_all;done)|omega)
 obtain⟨pre,rest⟩:=x;dsimp only at hg1 ⊢;refine evc [] [] ?_;refine sq ?_ ?_<;>intro h1 h1p h1s<;>(try simp only[Q] at h1p);rcases rest with _|⟨y,rest⟩
 ·exfalso;simp_all
 refine xaK sl52 .none rfl rfl rfl rfl (zaW hg1.1) rfl ?_;refine ev ?_;refine xaG (cr:=[]) hcal (hf y (by rw[<-hg1.1];simp)) rfl .none rfl rfl rfl (LeL.refl _) k1 k2 (zd3 k3 _) rfl ?_;refine tv ?_;refine sq ?_ ?_<;>intro h2 h2p h2s<;>(try simp only[Q] at h2p);focus (refine rn [] (r1 rfl) (.eqd ?_) ⟨rfl,rfl⟩ (fun _ _ h=>h) (fun _ h=>h);all_goals (rw[<-hg1.2];simp[idxF,h1s,h1p,h2s,h2p]))
 refine ar ?_;refine xah ((pre++[y],rest)) ⟨⟨(by have hz:=hg1.1;rw[<-hz];simp),(by rw[<-hg1.2];simp[idxF,h2s])⟩,(by simp),Sub.x (by kernel_rfl) (by kernel_rfl) ⟨⟨_,rfl,xau ?_⟩,trivial⟩ (by simp) (by simp[zcQ]) trivial⟩;focus (first|rfl|(simp;done)|(simp_all;done)|omega)
 have hrest:rest=[]:=by
  rcases rest with _|⟨a,b⟩
  ·rfl
  ·exfalso;have hz:=congrArg List.length (hg1.1);simp only[xaa,xab,xac] at hz;omega
 subst hrest;focus (refine rn [] (r1 rfl) (.eqd ?_) ⟨rfl,rfl⟩ (fun _ _ h=>h) (fun _ h=>h);all_goals (rw[<-hg1.2];simp[idxF,h1s,h1p]))
theorem zem {x:Bd}{a b c:Int}:FnD Tryz.prog 279 [.agg (bdA x),.ref 3002 0] [(3002,some (.box [.d (.i a),.d (.i b),.d (.i c)]))] (.d (.bool (decide (x.var=b)))) []:=by
 refine bd Tryz.f279 9 [] [] fun w0 F0 own kept hk=>?_;refine bx 3001 ?_;refine ev ?_;refine rn [] (r1 rfl) (.eqd ?_) ⟨rfl,rfl⟩ (SubH.get ⟨rfl,trivial⟩) (fun _ h=>h);rotate_left;all_goals (rfl)
theorem zdo {g:Gd}{l:List Bd} (hl:l.length<=1000000000000):FnD Tryz.prog 196 [.agg [.d (.i g.op),.d (.i g.var),.d (.i g.n)],.d (zbm l)] [] (.d (.bool (zbD g l))) []:=by
 have hsp:=zfu l g.var;have hfi:idxF (fun b:Bd=>decide (b.var=g.var)) l 0=zf5 l g.var:=rfl;by_cases h0:g.op=0
 ·rw[zmv h0];refine bd Tryz.f196 50 [] [] fun w0 F0 own kept hk=>?_;refine bx 3002 ?_;refine ev ?_;refine sq ?_ ?_<;>intro h1 h1p h1s<;>(try simp only[Q] at h1p);refine rq ?_;rotate_left;exfalso;omega;all_goals (rfl)
 rcases hsp with ⟨h3,h4⟩|⟨k,h3,h4,h5,h6⟩
 ·rw[zkK h0 (fun j hj=>h4 _ (zap hj))];have hix:=zdU (p:=fun b=>decide (b.var=g.var)) hl zn8 (fun t _=>zem (x:=t) (a:=g.op) (b:=g.var) (c:=g.n)) ⟨rfl,trivial⟩ rfl rfl;rw[hfi,h3] at hix;refine bd Tryz.f196 50 [] [] fun w0 F0 own kept hk=>?_;refine bx 3002 ?_;refine ev ?_;refine sq ?_ ?_<;>intro h1 h1p h1s<;>(try simp only[Q] at h1p);exfalso;omega;refine xaH (xs:=[_]) rfl .none rfl rfl ?_;refine wd zn7 (hix) rfl rfl ⟨rfl,trivial⟩ ?_;refine ev ?_;refine sq ?_ ?_<;>intro h2 h2p h2s<;>(try simp only[Q] at h2p);refine sqT ?_;refine rq ?_;rotate_left;exfalso;revert h2;simp;all_goals (rfl)
 ·rw[zkJ h0 h4 h5 h6];have hix:=zdU (p:=fun b=>decide (b.var=g.var)) hl zn8 (fun t _=>zem (x:=t) (a:=g.op) (b:=g.var) (c:=g.n)) ⟨rfl,trivial⟩ rfl rfl;rw[hfi,h3] at hix;unfold zhN;refine bd Tryz.f196 50 [] [] fun w0 F0 own kept hk=>?_;refine bx 3002 ?_;refine ev ?_;refine sq ?_ ?_<;>intro h1 h1p h1s<;>(try simp only[Q] at h1p);exfalso;omega;refine xaH (xs:=[_]) rfl .none rfl rfl ?_;refine wd zn7 (hix) rfl rfl ⟨rfl,trivial⟩ ?_;refine ev ?_;refine sq ?_ ?_<;>intro h2 h2p h2s<;>(try simp only[Q] at h2p);exfalso;revert h2;simp;refine xaK sl52 (.some rfl rfl h2) rfl rfl rfl rfl (zau h4) rfl ?_;refine evs [] [(15,false)] ?_ ⟨⟨_,rfl,h2⟩,trivial⟩;refine sq ?_ ?_<;>intro h3 h3p h3s<;>(try simp only[Q] at h3p);refine rq ?_;rotate_left;refine xaK sl52 .none rfl rfl rfl rfl (zau h4) rfl ?_;refine ev ?_;refine sq ?_ ?_<;>intro h4 h4p h4s<;>(try simp only[Q] at h4p);refine sq ?_ ?_<;>intro h5 h5p h5s<;>(try simp only[Q] at h5p);refine rq ?_;rotate_left;refine sq ?_ ?_<;>intro h6 h6p h6s<;>(try simp only[Q] at h6p);refine rq ?_;rotate_left;refine rq ?_;rotate_left;refine sqF ?_;refine sq ?_ ?_<;>intro h7 h7p h7s<;>(try simp only[Q] at h7p);refine rq ?_;rotate_left;refine rq ?_;rotate_left;all_goals (refine congrArg D.bool ?_;first|(simp_all;done)|(rw[Bool.eq_iff_iff];simp_all;done)|(rw[Bool.eq_iff_iff];simp_all;omega))
theorem zik {g:Gd}{l:List Bd} (hl:l.length<=1000000000000):FnD Tryz.prog 194 [.agg [.d (.i g.op),.d (.i g.var),.d (.i g.n)],.d (zbm l)] [] (.d (.bool (zbD g l))) []:=by
 refine bd Tryz.f194 59 [] [] fun w0 F0 own kept hk=>?_;refine bx 3002 ?_;refine ev ?_;refine sq ?_ ?_<;>intro h1 h1p h1s<;>(try simp only[Q,Int.natCast_inj] at h1p);refine rq ?_;rotate_left;refine xam (ι:=Nat) hk (fun i=>[(5,.d (.i (i:Int)))]) [4,6,10,11,12,13,14,15,16,17,18,19,20,21,22,23,24,25,26,27,28,29,30,31,32,33,34,35,36,37,38,39,40,41,42,43,44,45,46,47,48,49,50,51,52,53,54,55,56,57,58] (fun i=>[]) (fun i=>i<=l.length/\∀i',i'<i->¬(nth l i').var=g.var) (fun i=>l.length-i) 0 ⟨by omega,fun _ h=>absurd h (by omega)⟩ ⟨⟨_,rfl,xau ?_⟩,trivial⟩ trivial (fun x=>rfl) (fun i hg1=>?_);focus (first|rfl|(simp;done)|(simp_all;done)|omega)
 refine evc [] [] ?_;refine sq ?_ ?_<;>intro h2 h2p h2s<;>(try simp only[Q,Int.natCast_inj] at h2p);refine xaK sl52 .none rfl rfl rfl rfl (zau (by omega)) rfl ?_;refine evd [] [] ?_;refine dr ?_;refine sq ?_ ?_<;>intro h3 h3p h3s<;>(try simp only[Q,Int.natCast_inj] at h3p);refine ar ?_;refine xah (i+1) ⟨⟨by omega,zaL hg1.2 (by omega)⟩,(by omega),sx ⟨⟨_,rfl,xau ?_⟩,trivial⟩ trivial⟩;focus (first|rfl|(simp;done)|(simp_all;done)|omega)
 refine xaK sl52 .none rfl rfl rfl rfl (zau (by omega)) rfl ?_;refine ev ?_;refine xaK sl52 .none rfl rfl rfl rfl (zau (by omega)) rfl ?_;refine ev ?_;refine sq ?_ ?_<;>intro h4 h4p h4s<;>(try simp only[Q,Int.natCast_inj] at h4p);refine sq ?_ ?_<;>intro h5 h5p h5s<;>(try simp only[Q,Int.natCast_inj] at h5p);refine sq ?_ ?_<;>intro h6 h6p h6s<;>(try simp only[Q,Int.natCast_inj] at h6p);refine rq ?_;rotate_left;refine sq ?_ ?_<;>intro h7 h7p h7s<;>(try simp only[Q,Int.natCast_inj] at h7p);refine rq ?_;rotate_left;refine rq ?_;rotate_left;refine sqF ?_;refine sq ?_ ?_<;>intro h8 h8p h8s<;>(try simp only[Q,Int.natCast_inj] at h8p);refine rq ?_;rotate_left;refine rq ?_;rotate_left;refine rq ?_;rotate_left;refine rq ?_;rotate_left;all_goals (refine congrArg D.bool ?_;first|(rw[zmv (by omega)];done)|(rw[zkK (by omega) (fun x hx=>hg1.2 x (by omega))];done)|(rw[zkJ (k:=i) (by omega) (by omega) (by omega) hg1.2];unfold zhN;first|(simp_all;done)|(rw[Bool.eq_iff_iff];simp_all;done)|(rw[Bool.eq_iff_iff];simp_all;omega)))
def zbs (f:List Bd->Pat->Val->List Bd×Bool):List Pat->List Val->List Bd->List Bd×Bool
 |p::r,v::s,out=>if (f out p v).2=true then zbs f r s (f out p v).1 else (out,false)
 |_,_,out=>(out,true)
def zaD:Nat->List Bd->Pat->Val->List Bd×Bool
 |0,out,_,_=>(out,false)
 |n+1,out,p,v=>
  if p.op=1 then (out,true)
  else if p.op=2 then (out++[⟨p.var,v⟩],true)
  else if p.op=3 then (out,zay v.num p.n p.m)
  else if p.op=5 then (if (zaD n out (nth p.kids 0) v).2=true then ((zaD n out (nth p.kids 0) v).1,true) else zaD n out (nth p.kids 1) v)
  else if p.op=6 then zaD n (out++[⟨p.var,v⟩]) (nth p.kids 0) v
  else if p.ctor=v.ctor then zbs (zaD n) p.kids v.kids out else (out,false)
section
variable {n:Nat}{out:List Bd}{p:Pat}{v:Val}
theorem ms_1 (h:p.op=1):zaD (n+1) out p v=(out,true):=by unfold zaD;rw[if_pos h]
theorem ms_2 (h:p.op=2):zaD (n+1) out p v=(out++[⟨p.var,v⟩],true):=by unfold zaD;rw[if_neg (by omega),if_pos h]
theorem ms_3 (h:p.op=3):zaD (n+1) out p v=(out,zay v.num p.n p.m):=by unfold zaD;rw[if_neg (by omega),if_neg (by omega),if_pos h]
theorem zpG (h:p.op=5) (h2:(zaD n out (nth p.kids 0) v).2=true):zaD (n+1) out p v=((zaD n out (nth p.kids 0) v).1,true):=by
 conv=>lhs;unfold zaD
 rw[if_neg (by omega),if_neg (by omega),if_neg (by omega),if_pos h,if_pos h2]
theorem zpH (h:p.op=5) (h2:(zaD n out (nth p.kids 0) v).2=false):zaD (n+1) out p v=zaD n out (nth p.kids 1) v:=by
 conv=>lhs;unfold zaD
 rw[if_neg (by omega),if_neg (by omega),if_neg (by omega),if_pos h,if_neg (by rw[h2];simp)]
theorem ms_6 (h:p.op=6):zaD (n+1) out p v=zaD n (out++[⟨p.var,v⟩]) (nth p.kids 0) v:=by
 conv=>lhs;unfold zaD
 rw[if_neg (by omega),if_neg (by omega),if_neg (by omega),if_neg (by omega),if_pos h]
theorem ms_4 (h:p.op=4) (h2:p.ctor=v.ctor):zaD (n+1) out p v=zbs (zaD n) p.kids v.kids out:=by
 conv=>lhs;unfold zaD
 rw[if_neg (by omega),if_neg (by omega),if_neg (by omega),if_neg (by omega),if_neg (by omega),if_pos h2]
theorem zpF (h:p.op=4) (h2:¬p.ctor=v.ctor):zaD (n+1) out p v=(out,false):=by
 conv=>lhs;unfold zaD
 rw[if_neg (by omega),if_neg (by omega),if_neg (by omega),if_neg (by omega),if_neg (by omega),if_neg h2]
end
theorem zmA {f:List Bd->Pat->Val->List Bd×Bool}{a:List Pat}{b:List Val}{out:List Bd}{i:Nat} (h1:i<a.length) (h2:i<b.length) (h:(f out (nth a i) (nth b i)).2=true):
  zbs f (a.drop i) (b.drop i) out=zbs f (a.drop (i+1)) (b.drop (i+1)) (f out (nth a i) (nth b i)).1:=by
 rw[zaS h1,zaS h2];conv=>lhs;unfold zbs
 rw[if_pos h]
theorem zm6 {f:List Bd->Pat->Val->List Bd×Bool}{a:List Pat}{b:List Val}{out:List Bd}{i:Nat} (h1:i<a.length) (h2:i<b.length) (h:(f out (nth a i) (nth b i)).2=false):
  zbs f (a.drop i) (b.drop i) out=(out,false):=by
 rw[zaS h1,zaS h2];conv=>lhs;unfold zbs
 rw[if_neg (by rw[h];simp)]
theorem zm7 {f:List Bd->Pat->Val->List Bd×Bool}{a:List Pat}{b:List Val}{out:List Bd}{i:Nat} (h1:a.length<=i):zbs f (a.drop i) (b.drop i) out=(out,true):=by
 rw[List.drop_eq_nil_of_le h1];cases b.drop i<;>rfl
theorem zj7 {f:List Bd->Pat->Val->List Bd×Bool}{g:Pat->Val->List Bd×Bool} (h:∀out p v,(f out p v).2=(g p v).2/\((g p v).2=true->(f out p v).1=out++(g p v).1)):
  ∀(a:List Pat) (b:List Val) (out acc:List Bd),(zbs f a b (out++acc)).2=(zbb g a b acc).2/\((zbb g a b acc).2=true->(zbs f a b (out++acc)).1=out++(zbb g a b acc).1)
 | [],b,out,acc=>by cases b<;>exact⟨rfl,fun _=>rfl⟩
 |_::_,[],out,acc=>⟨rfl,fun _=>rfl⟩
 |p::r,v::s,out,acc=>by
  obtain⟨h1,h2⟩:=h (out++acc) p v;unfold zbs zbb;rw[h1];cases hg:(g p v).2 with
  |true=>
   simp only[if_true];rw[h2 hg,List.append_assoc];exact zj7 h r s out (acc++(g p v).1)
  |false=>simp
theorem zdr:∀(n:Nat) (out:List Bd) (p:Pat) (v:Val),(zaD n out p v).2=(zak n p v).2/\((zak n p v).2=true->(zaD n out p v).1=out++(zak n p v).1)
 |0,out,p,v=>by simp[zaD,zak]
 |n+1,out,p,v=>by
  unfold zaD zak;by_cases h1:p.op=1
  ·simp[h1]
  by_cases h2:p.op=2
  ·simp[h2]
  by_cases h3:p.op=3
  ·simp[h3]
  by_cases h5:p.op=5
  ·simp only[h5,if_neg (show ¬(5:Int)=1 by omega),if_neg (show ¬(5:Int)=2 by omega),if_neg (show ¬(5:Int)=3 by omega),if_true];obtain⟨a1,a2⟩:=zdr n out (nth p.kids 0) v;obtain⟨b1,b2⟩:=zdr n out (nth p.kids 1) v;rw[a1];cases hm:(zak n (nth p.kids 0) v).2 with
   |true=>simp[a2 hm]
   |false=>simp only[Bool.false_eq_true,if_false];exact⟨b1,b2⟩
  by_cases h6:p.op=6
  ·simp only[h6,if_neg (show ¬(6:Int)=1 by omega),if_neg (show ¬(6:Int)=2 by omega),if_neg (show ¬(6:Int)=3 by omega),if_neg (show ¬(6:Int)=5 by omega),if_true];obtain⟨a1,a2⟩:=zdr n (out++[⟨p.var,v⟩]) (nth p.kids 0) v;exact⟨a1,fun h=>by rw[a2 h];simp⟩
  rw[if_neg h1,if_neg h2,if_neg h3,if_neg h5,if_neg h6,if_neg h1,if_neg h2,if_neg h3,if_neg h5,if_neg h6];split
  ·have:=zj7 (f:=zaD n) (g:=zak n) (fun out p v=>zdr n out p v) p.kids v.kids out [];rw[List.append_nil] at this;exact this
  ·simp
theorem zi1 {f:List Bd->Pat->Val->List Bd×Bool}:∀(a:List Pat) (b:List Val) (out:List Bd),(∀p∈a,∀out v,(f out p v).1.length<=out.length+p.size)->(zbs f a b out).1.length<=out.length+Pats.size a
 | [],b,out,_=>by cases b<;>simp[zbs,Pats.size]
 |_::_,[],out,_=>by simp[zbs]
 |p::r,v::s,out,h=>by
  have h1:=h p (by simp) out v;unfold zbs;simp only[Pats.size];split
  ·have:=zi1 (f:=f) r s (f out p v).1 (fun q hq=>h q (by simp[hq]));omega
  ·simp
theorem zdE {w:List Data}:∀(n:Nat){t:Ty}{p:Pat} (out:List Bd) (v:Val),zav w n t p=true->(zaD n out p v).1.length<=out.length+p.size
 |0,t,p,out,v,h=>by simp[zav] at h
 |n+1,t,p,out,v,h=>by
  have hs:=Pat.size_eq p;by_cases h1:p.op=1
  ·rw[ms_1 h1];simp
  by_cases h2:p.op=2
  ·rw[ms_2 h2];simp;omega
  by_cases h3:p.op=3
  ·rw[ms_3 h3];simp
  by_cases h5:p.op=5
  ·obtain⟨hl,s0,s1⟩:=zid h h5;have z0:=za9 (l:=p.kids) (i:=0) (by omega);have z1:=za9 (l:=p.kids) (i:=1) (by omega);have k0:=zdE n out v s0;have k1:=zdE n out v s1;cases hm:(zaD n out (nth p.kids 0) v).2 with
   |true=>rw[zpG h5 hm];dsimp only;omega
   |false=>rw[zpH h5 hm];omega
  by_cases h6:p.op=6
  ·obtain⟨hl,s0⟩:=zic h h6;have z0:=za9 (l:=p.kids) (i:=0) (by omega);have k0:=zdE n (out++[⟨p.var,v⟩]) v s0;rw[ms_6 h6];simp at k0;omega
  have h4:p.op=4:=by have:=zeL h;omega
  by_cases hc:p.ctor=v.ctor
  ·rw[ms_4 h4 hc];have:=zi1 (f:=zaD n) p.kids v.kids out (fun q hq out u=>by
    obtain⟨i,hi,rfl⟩:=List.getElem_of_mem hq;have e:p.kids[i]=nth p.kids i:=by simp[nth,List.getD,hi]
    rw[e];exact zdE n out u (zbx h hi))
   omega
  ·rw[zpF h4 hc];simp
theorem zcz {w:List Data}:∀(n m:Nat){t:Ty}{p:Pat}{v:Val}{out:List Bd},MatchOk w n m t p v->out.length+p.size<=1000000000000->
  FnD Tryz.prog 193 [.d (zbm out),.agg [.d (.i p.op),.d (.i p.ctor),.d (.i p.n),.d (.i p.m),.d (.i p.var),.d (zaw p.kids)],.agg [.d (.i v.ctor),.d (.i v.num),.d (zaq v.kids)]] [] (.tup [.d (zbm (zaD n out p v).1),.d (.bool (zaD n out p v).2)]) []
 |0,m,t,p,v,out,h,_=>by have:=h.shape;simp[zav] at this
 |n+1,m,t,p,v,out,h,hb=>by
  have hop:=zeL h.shape;have k4:=h.kid;have k5:=h.two;have k6:=h.one;have hsz:=h.psz;have hps:=Pat.size_eq p;have hkl:=((Pat.ok_iff p).1 h.pok).1;have hkl2:=((Val.ok_iff v).1 h.vok).1;have mok:=fun {t:Ty}{q:Pat} (out:List Bd) (u:Val) (hs:zav w n t q=true)=>zdE n out u hs;by_cases c4:p.op=4/\p.ctor=v.ctor
  ·obtain⟨hl,k,hkm⟩:=k4 c4.1 c4.2;have hm4:=ms_4 (n:=n) (out:=out) c4.1 c4.2;refine bd Tryz.f193 119 [] [] fun w0 F0 own kept hk=>?_;refine bx 3004 ?_;refine bx 3005 ?_;refine ev ?_;refine sq ?_ ?_<;>intro h1 h1p h1s<;>(try simp only[Q,Pat.cs_len] at h1p);exfalso;omega;refine sq ?_ ?_<;>intro h2 h2p h2s<;>(try simp only[Q,Pat.cs_len] at h2p);exfalso;omega;refine sq ?_ ?_<;>intro h3 h3p h3s<;>(try simp only[Q,Pat.cs_len] at h3p);exfalso;omega;refine sq ?_ ?_<;>intro h4 h4p h4s<;>(try simp only[Q,Pat.cs_len] at h4p);exfalso;omega;refine sq ?_ ?_<;>intro h5 h5p h5s<;>(try simp only[Q,Pat.cs_len] at h5p);exfalso;omega;refine sq ?_ ?_<;>intro h6 h6p h6s<;>(try simp only[Q,Pat.cs_len] at h6p);exfalso;omega;refine xam (ι:=Nat×List Bd) hk (fun x=>[(10,.d (.i (x.1:Int))),(0,.d (zbm x.2))]) [6,7,11,12,92,93,94,95,96,97,98,99,100,101,102,103,104,105,106,107,108,109,110,111,112,113,114,115,116,117] (fun x=>[]) (fun x=>x.1<=p.kids.length/\zbs (zaD n) (p.kids.drop x.1) (v.kids.drop x.1) x.2=zbs (zaD n) p.kids v.kids out/\x.2.length+Pats.size (p.kids.drop x.1)<=out.length+Pats.size p.kids) (fun x=>p.kids.length-x.1) (0,out) ⟨by simp,rfl,by simp⟩ ⟨⟨_,rfl,xau ?_⟩,⟨⟨_,rfl, ?_⟩,trivial⟩⟩ trivial (fun x=>rfl) (fun x hg1=>?_);focus (first|rfl|omega|(simp;done))
   focus (first|exact LeA.refl _|((first|refine LeA.gld ?_|refine LeA.nild ?_);first|rfl|omega|(simp;done))|(refine LeA.eqsl ?_;first|rfl|omega|(simp;done))|(refine LeA.eqd ?_;first|rfl|omega|(simp;done)))
   refine evc [] [] ?_;refine sq ?_ ?_<;>intro h7 h7p h7s<;>(try simp only[Q,Pat.cs_len] at h7p);refine xaK sl34 .none rfl rfl rfl rfl (za5 (by omega)) rfl ?_;refine evd [] [] ?_;refine xaK sl47 .none rfl rfl rfl rfl (zed (by omega)) rfl ?_;refine evd [] [] ?_;refine wc zhE (zcz n k (out:=x.2) (hkm x.1 (by omega)) (by have:=zce (l:=p.kids) (i:=x.1) (by omega);have:=hg1.2.2;omega)) rfl rfl ?_;refine evd [] [] ?_;refine dr ?_;refine sq ?_ ?_<;>intro h8 h8p h8s<;>(try simp only[Q,Pat.cs_len] at h8p);refine rn0 (r2 rfl rfl) (.tup (.cons (.eqd ?_) (.cons (.eqd ?_) .nil)));rotate_left 2;refine ar ?_;refine xah ((x.1+1,(zaD n x.2 (nth p.kids x.1) (nth v.kids x.1)).1)) ⟨⟨by dsimp only;omega,by dsimp only;rw[<-zmA (by omega) (by omega) (by assumption)];exact hg1.2.1,by have:=mok x.2 (nth v.kids x.1) (hkm x.1 (by omega)).shape;have:=zce (l:=p.kids) (i:=x.1) (by omega);have:=hg1.2.2;dsimp only;omega⟩,(by dsimp only;omega),sx ⟨⟨_,rfl,xau ?_⟩,⟨⟨_,rfl, ?_⟩,trivial⟩⟩ trivial⟩;focus (first|rfl|omega|(simp;done))
   focus (first|exact LeA.refl _|((first|refine LeA.gld ?_|refine LeA.nild ?_);first|rfl|omega|(simp;done))|(refine LeA.eqsl ?_;first|rfl|omega|(simp;done))|(refine LeA.eqd ?_;first|rfl|omega|(simp;done)))
   refine rn0 (r2 rfl rfl) (.tup (.cons (.eqd ?_) (.cons (.eqd ?_) .nil)));rotate_left 2;all_goals (first|(rw[hm4,<-hg1.2.1,zm7 (by omega)];all_goals rfl)|(rw[hm4,<-hg1.2.1,zm6 (by omega) (by omega) (by assumption)];all_goals rfl))
  ·have hn4:p.op=4->zaD (n+1) out p v=(out,false):=fun h4=>zpF h4 (fun hc=>c4 ⟨h4,hc⟩);have hc6:p.op=6->FnD Tryz.prog 193 [.d (.sl ([]++out.map Bd.c++[[.i p.var,.i v.ctor,.i v.num,zaq v.kids]])),.agg [.d (.i (nth p.kids 0).op),.d (.i (nth p.kids 0).ctor),.d (.i (nth p.kids 0).n),.d (.i (nth p.kids 0).m),.d (.i (nth p.kids 0).var),.d (zaw (nth p.kids 0).kids)],.agg [.d (.i v.ctor),.d (.i v.num),.d (zaq v.kids)]] [] (.tup [.d (zbm (zaD n (out++[⟨p.var,v⟩]) (nth p.kids 0) v).1),.d (.bool (zaD n (out++[⟨p.var,v⟩]) (nth p.kids 0) v).2)]) []:=fun h6=>by
    have hh:=zcz n m (out:=out++[⟨p.var,v⟩]) (k6 h6).2 (by have:=za9 (l:=p.kids) (i:=0) (by have:=(k6 h6).1;omega);simp;omega);rw[show zbm (out++[⟨p.var,v⟩]) = .sl ([]++out.map Bd.c++[[.i p.var,.i v.ctor,.i v.num,zaq v.kids]]) by simp[Bd.c]] at hh;exact hh
   refine bd Tryz.f193 119 [] [] fun w0 F0 own kept hk=>?_;refine bx 3004 ?_;refine bx 3005 ?_;refine ev ?_;refine sq ?_ ?_<;>intro h1 h1p h1s<;>(try simp only[Q,Pat.cs_len] at h1p);refine rn0 (r2 rfl rfl) (.tup (.cons (.eqd ?_) (.cons (.eqd ?_) .nil)));rotate_left 2;refine sq ?_ ?_<;>intro h2 h2p h2s<;>(try simp only[Q,Pat.cs_len] at h2p);refine xa2 1 sl52 .none rfl rfl ?_;refine evd [] [] ?_;refine ap sl52 zfH rfl rfl rfl (by intro x hx;first|exact zd7 _ x hx|(simp at hx;subst hx;rfl)) (by simp;omega) ?_;refine evd [] [] ?_;refine bu [0,1] [_,_] zhf ?_;refine si [0] [_] sl52 zfE ?_;refine ap sl52 zfH rfl rfl rfl (by intro x hx;first|exact zd7 _ x hx|(simp at hx;subst hx;rfl)) (by simp;omega) ?_;refine evd [] [] ?_;refine dr ?_;refine rn0 (r2 rfl rfl) (.tup (.cons (.gld ?_) (.cons (.eqd ?_) .nil)));rotate_left 2;refine sq ?_ ?_<;>intro h3 h3p h3s<;>(try simp only[Q,Pat.cs_len] at h3p);refine sq ?_ ?_<;>intro h4 h4p h4s<;>(try simp only[Q,Pat.cs_len] at h4p);refine dr ?_;refine rn0 (r2 rfl rfl) (.tup (.cons (.eqd ?_) (.cons (.eqd ?_) .nil)));rotate_left 2;refine dr ?_;refine rn0 (r2 rfl rfl) (.tup (.cons (.eqd ?_) (.cons (.eqd ?_) .nil)));rotate_left 2;refine sq ?_ ?_<;>intro h5 h5p h5s<;>(try simp only[Q,Pat.cs_len] at h5p);refine xaK (i:=0) sl34 .none rfl rfl rfl rfl (za5 (by first|(have:=(k5 (by omega)).1;omega)|(have:=(k6 (by omega)).1;omega))) rfl ?_;refine evd [] [] ?_;refine wc zhE (zcz n m (k5 (by omega)).2.1 (by have:=za9 (l:=p.kids) (i:=0) (by have:=(k5 (by omega)).1;omega);omega)) rfl rfl ?_;refine evd [] [] ?_;refine dr ?_;refine sq ?_ ?_<;>intro h6 h6p h6s<;>(try simp only[Q,Pat.cs_len] at h6p);refine rn0 (r2 rfl rfl) (.tup (.cons (.eqd ?_) (.cons (.eqd ?_) .nil)));rotate_left 2;refine xaK (i:=1) sl34 .none rfl rfl rfl rfl (za5 (by first|(have:=(k5 (by omega)).1;omega)|(have:=(k6 (by omega)).1;omega))) rfl ?_;refine evd [] [] ?_;refine wc zhE (zcz n m (k5 (by omega)).2.2 (by have:=za9 (l:=p.kids) (i:=1) (by have:=(k5 (by omega)).1;omega);omega)) rfl rfl ?_;refine evd [] [] ?_;refine dr ?_;refine rn0 (r2 rfl rfl) (.tup (.cons (.eqd ?_) (.cons (.eqd ?_) .nil)));rotate_left 2;refine sq ?_ ?_<;>intro h7 h7p h7s<;>(try simp only[Q,Pat.cs_len] at h7p);refine xa2 2 sl52 .none rfl rfl ?_;refine evd [] [] ?_;refine ap sl52 zfH rfl rfl rfl (by intro x hx;first|exact zd7 _ x hx|(simp at hx;subst hx;rfl)) (by simp;omega) ?_;refine evd [] [] ?_;refine bu [0,1] [_,_] zhf ?_;refine si [0] [_] sl52 zfE ?_;refine ap sl52 zfH rfl rfl rfl (by intro x hx;first|exact zd7 _ x hx|(simp at hx;subst hx;rfl)) (by simp;omega) ?_;refine evd [] [] ?_;refine xaK (i:=0) sl34 .none rfl rfl rfl rfl (za5 (by first|(have:=(k5 (by omega)).1;omega)|(have:=(k6 (by omega)).1;omega))) rfl ?_;refine evd [] [] ?_;refine Walk.call (cr:=[]) zhE (hc6 (by omega)) rfl .none rfl rfl (.cons (.gl _ _) (.cons (.refl _) (.cons (.refl _) .nil))) trivial rfl rfl rfl ?_;refine evd [] [] ?_;refine dr ?_;refine rn0 (r2 rfl rfl) (.tup (.cons (.eqd ?_) (.cons (.eqd ?_) .nil)));rotate_left 2;refine sq ?_ ?_<;>intro h8 h8p h8s<;>(try simp only[Q,Pat.cs_len] at h8p);refine rn0 (r2 rfl rfl) (.tup (.cons (.eqd ?_) (.cons (.eqd ?_) .nil)));rotate_left 2;exfalso;apply c4;omega;all_goals (first|(rw[ms_1 (by omega)];all_goals rfl)|(rw[ms_2 (by omega)];all_goals first|rfl|(simp[zbm,Bd.c];done))|(rw[ms_3 (by omega)];all_goals first|rfl|(refine congrArg D.bool ?_;unfold zay;first|(rw[decide_eq_false (show ¬p.n<=v.num by omega),Bool.false_and];done)|(rw[decide_eq_true (show p.n<=v.num by omega),Bool.true_and];done)))|(rw[zpG (by omega) (by assumption)];all_goals rfl)|(rw[zpH (by omega) (by simp_all)];all_goals rfl)|(rw[ms_6 (by omega)];all_goals rfl)|(rw[hn4 (by omega)];all_goals rfl))
def zdV (L:List Bd) (m:Nat):List Bd:=(List.range m).flatMap fun(n:Nat)=>L.filter fun b=>decide (b.var=(n:Int))
def zbR (L:List Bd) (n i:Nat):List Bd:=(L.take i).filter fun b=>decide (b.var=(n:Int))
theorem zgy (L:List Bd) (m:Nat):zdV L (m+1)=zdV L m++zbR L m L.length:=by
 unfold zdV zbR;rw[List.range_succ,List.flatMap_append];simp
theorem zjs (L:List Bd) (n:Nat):zbR L n 0=[]:=by simp[zbR]
theorem zi4 {L:List Bd}{n i:Nat} (h:i<L.length):zbR L n (i+1)=zbR L n i++(if (nth L i).var=(n:Int) then [nth L i] else []):=by
 unfold zbR;rw[List.take_succ_eq_append_getElem h,List.filter_append];congr 1
 rw[<-za2 h];by_cases e:(nth L i).var=(n:Int)
 ·simp[e]
 ·simp[e]
theorem zg8 {L:List Bd}{n i:Nat} (h:i<L.length) (e:(nth L i).var=(n:Int)):zbR L n (i+1)=zbR L n i++[nth L i]:=by rw[zi4 h,if_pos e]
theorem zh6 {L:List Bd}{n i:Nat} (h:i<L.length) (e:¬(nth L i).var=(n:Int)):zbR L n (i+1)=zbR L n i:=by rw[zi4 h,if_neg e,List.append_nil]
theorem zkh {L:List Bd}{n i:Nat} (h:L.length<=i):zbR L n i=zbR L n L.length:=by
 unfold zbR;rw[List.take_of_length_le h,List.take_of_length_le (Nat.le_refl _)]
theorem zki (L:List Bd) (n i:Nat):(zbR L n i).length<=L.length:=by
 unfold zbR;have:=List.length_filter_le (fun b:Bd=>decide (b.var=(n:Int))) (L.take i);simp at this;omega
theorem zkp (L:List Bd):∀m,(zdV L m).length<=m*L.length
 |0=>by simp[zdV]
 |m+1=>by
  rw[zgy,xaa,Nat.succ_mul];have:=zkp L m;have:=zki L m L.length;omega
theorem zk4 {L:List Bd}{m:Nat} (hl:L.length<=1000) (hok:BdOk m L):FnD Tryz.prog 195 [.d (zbm L)] [] (.d (zbm (ziD L))) []:=by
 have hs6:ziD L=zdV L 6:=rfl;rw[hs6];refine bd Tryz.f195 36 [] [] fun w0 F0 own kept hk=>?_;refine xa2 1 sl52 .none rfl rfl ?_;refine ev ?_;refine xam (ι:=Nat) hk (fun n=>[(4,.d (.i (n:Int))),(3,.gl 1 ((zdV L n).map Bd.c))]) [5,7,8,9,10,11,12,13,14,15,16,17,18,19,20,21,22,23,24,25,26,27,28,29,30,31,32,33,34] (fun n=>[(1,some (.tok (((zdV L n).map Bd.c)).length 4))]) (fun n=>n<=6) (fun n=>6-n) 0 (by omega) ⟨⟨_,rfl,xau ?_⟩,⟨⟨_,rfl,LeA.glg ?_⟩,trivial⟩⟩ ⟨zas ?_,trivial⟩ (fun x=>rfl) (fun n hg1=>?_);iterate 3 focus (first|rfl|(rw[zgy,<-zkh (i:=i) (by omega)];done)|(simp;done)|omega|(simp;omega))
 refine evc [] [] ?_;refine sq ?_ ?_<;>intro h1 h1p h1s<;>(try simp only[Q,Int.natCast_inj] at h1p);refine xam (ι:=Nat) hk (fun i=>[(5,.d (.i (i:Int))),(3,.gl 1 ((zdV L n++zbR L n i).map Bd.c))]) [11,12,13,14,15,16,17,18,19,20,21,22,23,24,25,26,27,28,29,30,31,32,33,34] (fun i=>[(1,some (.tok (((zdV L n++zbR L n i).map Bd.c)).length 4))]) (fun i=>i<=L.length) (fun i=>L.length-i) 0 (by omega) ⟨⟨_,rfl,xau ?_⟩,⟨⟨_,rfl,LeA.glg ?_⟩,trivial⟩⟩ ⟨zas ?_,trivial⟩ (fun x=>rfl) (fun i hg2=>?_);iterate 3 focus (first|rfl|(rw[zjs,List.append_nil];done)|(rw[zh6 (by omega) (by omega)];done)|(rw[zg8 (by omega) (by omega),<-List.append_assoc,xaf,xaf];rw[xaf];congr 1;simp[Bd.c];omega)|(simp;done)|omega|(simp;omega))
 refine evc [] [] ?_;refine sq ?_ ?_<;>intro h2 h2p h2s<;>(try simp only[Q,Int.natCast_inj] at h2p);refine xaK sl52 .none rfl rfl rfl rfl (zau (by omega)) rfl ?_;refine ev ?_;refine sq ?_ ?_<;>intro h3 h3p h3s<;>(try simp only[Q,Int.natCast_inj] at h3p);refine xaK sl52 .none rfl rfl rfl rfl (zau (by omega)) rfl ?_;refine ev ?_;refine wc znZ (zgP _ (Nat.le_refl _) (hok (nth L i) (zap (by omega))).1) rfl rfl ?_;refine bu [0,1] [_,_] zhf ?_;refine si [0] [_] sl52 zfE ?_;refine ap sl52 zfH rfl rfl rfl (by intro x hx;simp at hx;subst hx;rfl) (by have:=zki L n i;have:=zkp L n;have:=Nat.mul_le_mul (show n<=6 by omega) hl;simp;omega) ?_;refine ev ?_;refine ar ?_;refine xah (i+1) ⟨(by omega),(by omega),sx ⟨⟨_,rfl,xau ?_⟩,⟨⟨_,rfl,LeA.glg ?_⟩,trivial⟩⟩ ⟨zas ?_,trivial⟩⟩;iterate 3 focus (first|rfl|(rw[zjs,List.append_nil];done)|(rw[zh6 (by omega) (by omega)];done)|(rw[zg8 (by omega) (by omega),<-List.append_assoc,xaf,xaf];rw[xaf];congr 1;simp[Bd.c];omega)|(simp;done)|omega|(simp;omega))
 refine ar ?_;refine xah (i+1) ⟨(by omega),(by omega),sx ⟨⟨_,rfl,xau ?_⟩,⟨⟨_,rfl,LeA.glg ?_⟩,trivial⟩⟩ ⟨zas ?_,trivial⟩⟩;iterate 3 focus (first|rfl|(rw[zjs,List.append_nil];done)|(rw[zh6 (by omega) (by omega)];done)|(rw[zg8 (by omega) (by omega),<-List.append_assoc,xaf,xaf];rw[xaf];congr 1;simp[Bd.c];omega)|(simp;done)|omega|(simp;omega))
 refine ar ?_;refine xah (n+1) ⟨(by omega),(by omega),sx ⟨⟨_,rfl,xau ?_⟩,⟨⟨_,rfl,LeA.glg ?_⟩,trivial⟩⟩ ⟨zas ?_,trivial⟩⟩;iterate 3 focus (first|rfl|(rw[zgy,<-zkh (i:=i) (by omega)];done)|(simp;done)|omega|(simp;omega))
 refine rn0 (r1 rfl) (.gld ?_);rotate_left;all_goals (first|rfl|(rw[show n=6 by omega];done)|(obtain rfl:n=6:=(by omega);rfl))
def RunOk (w:List Data) (t:Ty) (l:List Cl) (v:Val):Prop:=∀i,i<l.length->MatchOk w 10 10 t (nth l i).pat v/\isP w t (nth l i).pat=true
theorem zh1 {w:List Data}{m:Nat}{t:Ty}{p:Pat}{v:Val} (h:MatchOk w 10 m t p v) (hp:isP w t p=true) (hm:(zak 10 p v).2=true):((zak 10 p v).1.map Bd.var).Nodup/\∀b∈(zak 10 p v).1,0<=b.var/\b.var<=5:=by
 have hp':=hp;unfold isP at hp;simp only[xad] at hp;have k:=zdF 10 m h hp.2.2 hm;refine⟨k.nod,fun b hb=>?_⟩;have e:=(zdu w 10 t p 0).1;have hw:zbh w 10 t p 0=true:=by
  unfold zbh;rw[hp.1,hp.2.2];have:=of_decide_eq_true hp.2.1;simp;omega
 rw[if_pos hw] at e;have:=zhc w 10 t p 0 _ e;obtain⟨x,hx,ex⟩:=List.mem_map.1 (k.sub b.var (List.mem_map.2 ⟨b,hb,rfl⟩));have h3:=this.1 x hx;rw[<-ex];exact h3
theorem zjt {w:List Data}{m:Nat}{t:Ty}{c:Cl}{v:Val} (h:MatchOk w 10 m t c.pat v) (hp:isP w t c.pat=true):zcr c v=((zbc 10 c.pat v).2&&zbD c.g (zbc 10 c.pat v).1):=by
 unfold zcr zbc;cases hm:(zak 10 c.pat v).2 with
 |false=>rfl
 |true=>
  rw[if_pos rfl,Bool.true_and,Bool.true_and];exact(zou (zdM _) (zh1 h hp hm).1).symm
theorem zh2 {p:Pat}{v:Val} (h:(zbc 10 p v).2=true):(zbc 10 p v).1=zci (zak 10 p v).1:=by
 rw[zm9] at h;unfold zbc;rw[if_pos h]
theorem zi2 {w:List Data}{m:Nat}{t:Ty}{p:Pat}{v:Val} (h:MatchOk w 10 m t p v) (hp:isP w t p=true):(zbc 10 p v).1.length<=6:=by
 unfold zbc;split
 ·rename_i hm;rw[zec];exact ze7 h hp hm
 ·simp
theorem znp {w:List Data}{m:Nat}{t:Ty}{c:Cl}{v:Val} (h:MatchOk w 10 m t c.pat v):zcr c v=((zaD 10 [] c.pat v).2&&zbD c.g (zaD 10 [] c.pat v).1):=by
 unfold zcr;obtain⟨h1,h2⟩:=zdr 10 [] c.pat v;rw[h1];cases hm:(zak 10 c.pat v).2 with
 |false=>rfl
 |true=>rw[h2 hm,List.nil_append]
theorem zm8 {w:List Data}{m:Nat}{t:Ty}{p:Pat}{v:Val} (h:MatchOk w 10 m t p v) (hp:isP w t p=true) (hm:(zaD 10 [] p v).2=true):ziD (zaD 10 [] p v).1=zci (zak 10 p v).1:=by
 obtain⟨h1,h2⟩:=zdr 10 [] p v;rw[h1] at hm;rw[h2 hm,List.nil_append];exact zpf (zh1 h hp hm).1 (zh1 h hp hm).2
theorem zm4 {w:List Data}{t:Ty}{l:List Cl}{v:Val} (hl:l.length<=1000000000000) (hr:RunOk w t l v):
  FnD Tryz.prog 108 [.d (zbi l),.agg [.d (.i v.ctor),.d (.i v.num),.d (zaq v.kids)]] [] (.tup [.d (.i (runV l v 0).1),.d (zbm (runV l v 0).2)]) []:=by
 have hhit:=fun(i:Nat) (hi:i<l.length) (h:((zbc 10 (nth l i).pat v).2&&zbD (nth l i).g (zbc 10 (nth l i).pat v).1)=true)=>zmK (v:=v) hi (by rw[zjt (hr i hi).1 (hr i hi).2];exact h);have hnext:=fun(i:Nat) (hi:i<l.length) (h:((zbc 10 (nth l i).pat v).2&&zbD (nth l i).g (zbc 10 (nth l i).pat v).1)=false)=>zlu (v:=v) hi (by rw[zjt (hr i hi).1 (hr i hi).2];exact h);have hms:=fun(i:Nat)=>zh2 (p:=(nth l i).pat) (v:=v);refine bd Tryz.f108 34 [] [] fun w0 F0 own kept hk=>?_;refine bx 3003 ?_;refine ev ?_;refine xam (ι:=Nat) hk (fun i=>[(12,.d (.i (i:Int)))]) [4,5,6,7,8,9,13,14,15,16,17,18,19,20,21,22,23,24,25,26,27,28,29,30,31,32,33] (fun i=>[]) (fun i=>i<=l.length/\runV (l.drop i) v (i:Int)=runV l v 0) (fun i=>l.length-i) 0 ⟨by omega,rfl⟩ ⟨⟨_,rfl,xau ?_⟩,trivial⟩ trivial (fun x=>rfl) (fun i hg1=>?_);focus (first|rfl|(simp;done)|(simp_all;done)|omega)
 refine evc [] [] ?_;refine sq ?_ ?_<;>intro h1 h1p h1s<;>(try simp only[Q,Int.natCast_inj] at h1p);refine xaK sl26 .none rfl rfl rfl rfl (zau (by omega)) rfl ?_;refine ev ?_;refine ab 3007 tz40 ?_;refine ev ?_;refine so ty40 ?_;refine tv ?_;refine wc znv (zf7 (hr i (by omega)).1 (hr i (by omega)).2) rfl rfl ?_;refine ev ?_;refine sq ?_ ?_<;>intro h2 h2p h2s<;>(try simp only[Q,Int.natCast_inj] at h2p);refine Walk.call (cr:=[]) zmf (zdo (g:=(nth l i).g) (by have:=zi2 (hr i (by omega)).1 (hr i (by omega)).2;omega)) rfl (.some rfl rfl h2) rfl rfl (LeL.refl _) trivial rfl rfl rfl ?_;refine evs [] [(25,true)] ?_ ⟨⟨_,rfl,h2⟩,trivial⟩;refine sq ?_ ?_<;>intro h3 h3p h3s<;>(try simp only[Q,Int.natCast_inj] at h3p);refine rn0 (r2 rfl rfl) (.tup (.cons (.eqd ?_) (.cons (.eqd ?_) .nil)));rotate_left 2;refine ar ?_;refine xah (i+1) ⟨⟨by omega,by rw[<-hnext i (by omega) (by simp_all)];exact hg1.2⟩,(by omega),sx ⟨⟨_,rfl,xau ?_⟩,trivial⟩ trivial⟩;focus (first|rfl|(simp;done)|(simp_all;done)|omega)
 refine sqF ?_;refine ar ?_;refine xah (i+1) ⟨⟨by omega,by rw[<-hnext i (by omega) (by simp_all)];exact hg1.2⟩,(by omega),sx ⟨⟨_,rfl,xau ?_⟩,trivial⟩ trivial⟩;focus (first|rfl|(simp;done)|(simp_all;done)|omega)
 refine rn0 (r2 rfl rfl) (.tup (.cons (.eqd ?_) (.cons (.nild ?_) .nil)));rotate_left 2;all_goals (first|(rw[<-hg1.2,hhit i (by omega) (by simp_all)];all_goals rfl)|(rw[<-hg1.2,hhit i (by omega) (by simp_all),<-hms i (by simp_all)];done)|(rw[<-hg1.2,zmJ (by omega)];all_goals rfl))
theorem zlP {w:List Data}{t:Ty}{l:List Cl}{v:Val} (hl:l.length<=1000000000000) (hr:RunOk w t l v):
  FnD Tryz.prog 106 [.d (zbi l),.agg [.d (.i v.ctor),.d (.i v.num),.d (zaq v.kids)]] [] (.tup [.d (.i (runV l v 0).1),.d (zbm (runV l v 0).2)]) []:=by
 have hhit:=fun(i:Nat) (hi:i<l.length) (h:((zaD 10 [] (nth l i).pat v).2&&zbD (nth l i).g (zaD 10 [] (nth l i).pat v).1)=true)=>zmK (v:=v) hi (by rw[znp (hr i hi).1];exact h);have hnext:=fun(i:Nat) (hi:i<l.length) (h:((zaD 10 [] (nth l i).pat v).2&&zbD (nth l i).g (zaD 10 [] (nth l i).pat v).1)=false)=>zlu (v:=v) hi (by rw[znp (hr i hi).1];exact h);have hms:=fun(i:Nat) (hi:i<l.length)=>zm8 (hr i hi).1 (hr i hi).2;have hlen:=fun(i:Nat) (hi:i<l.length)=>zdE 10 [] v (hr i hi).1.shape;have hbok:=fun(i:Nat) (hi:i<l.length) (h:(zaD 10 [] (nth l i).pat v).2=true)=>show BdOk v.size (zaD 10 [] (nth l i).pat v).1 by
  obtain⟨h1,h2⟩:=zdr 10 [] (nth l i).pat v;rw[h1] at h;rw[h2 h];exact(zb2 10 (hr i hi).1.shape (hr i hi).1.vok).1
 have hpsz:=fun(i:Nat) (hi:i<l.length)=>(hr i hi).1.psz;refine bd Tryz.f106 39 [] [] fun w0 F0 own kept hk=>?_;refine bx 3003 ?_;refine ev ?_;refine xam (ι:=Nat) hk (fun i=>[(6,.d (.i (i:Int)))]) [4,5,7,8,9,10,11,12,13,14,15,16,17,18,19,20,21,22,23,24,25,26,27,28,29,30,31,32,33,34,35,36,37] (fun i=>[]) (fun i=>i<=l.length/\runV (l.drop i) v (i:Int)=runV l v 0) (fun i=>l.length-i) 0 ⟨by omega,rfl⟩ ⟨⟨_,rfl,xau ?_⟩,trivial⟩ trivial (fun x=>rfl) (fun i hg1=>?_);focus (first|rfl|(simp;done)|(simp_all;done)|omega)
 refine evc [] [] ?_;refine sq ?_ ?_<;>intro h1 h1p h1s<;>(try simp only[Q,Int.natCast_inj] at h1p);refine xaK sl26 .none rfl rfl rfl rfl (zau (by omega)) rfl ?_;refine evd [] [] ?_;refine Walk.call (cr:=[]) zhE (zcz 10 10 (out:=[]) (hr i (by omega)).1 (by have:=hpsz i (by omega);simp;omega)) rfl .none rfl rfl (.cons .nil (.cons (.refl _) (.cons (.refl _) .nil))) trivial rfl rfl rfl ?_;refine evd [] [] ?_;refine dr ?_;refine sq ?_ ?_<;>intro h2 h2p h2s<;>(try simp only[Q,Int.natCast_inj] at h2p);refine xaK sl26 (.some rfl rfl h2) rfl rfl rfl rfl (zau (by omega)) rfl ?_;refine evs [] [(26,true)] ?_ ⟨⟨_,rfl,h2⟩,trivial⟩;refine Walk.call (cr:=[]) zqn (zik (g:=(nth l i).g) (by have:=hlen i (by omega);have:=hpsz i (by omega);simp at *;omega)) rfl (.some rfl rfl h2) rfl rfl (LeL.refl _) trivial rfl rfl rfl ?_;refine evs [] [(26,true)] ?_ ⟨⟨_,rfl,h2⟩,trivial⟩;refine sq ?_ ?_<;>intro h3 h3p h3s<;>(try simp only[Q,Int.natCast_inj] at h3p);refine wc zqo (zk4 (by have:=hlen i (by omega);have:=hpsz i (by omega);simp at *;omega) (hbok i (by omega) (by simp_all))) rfl rfl ?_;refine ev ?_;refine rn0 (r2 rfl rfl) (.tup (.cons (.eqd ?_) (.cons (.eqd ?_) .nil)));rotate_left 2;refine ar ?_;refine xah (i+1) ⟨⟨by omega,by rw[<-hnext i (by omega) (by simp_all)];exact hg1.2⟩,(by omega),sx ⟨⟨_,rfl,xau ?_⟩,trivial⟩ trivial⟩;focus (first|rfl|(simp;done)|(simp_all;done)|omega)
 refine sqF ?_;refine ar ?_;refine xah (i+1) ⟨⟨by omega,by rw[<-hnext i (by omega) (by simp_all)];exact hg1.2⟩,(by omega),sx ⟨⟨_,rfl,xau ?_⟩,trivial⟩ trivial⟩;focus (first|rfl|(simp;done)|(simp_all;done)|omega)
 refine xa1 sl52 .none rfl ?_;refine ev ?_;refine rn0 (r2 rfl rfl) (.tup (.cons (.eqd ?_) (.cons (.eqd ?_) .nil)));rotate_left 2;all_goals (first|(rw[<-hg1.2,hhit i (by omega) (by simp_all)];all_goals rfl)|(rw[<-hg1.2,hhit i (by omega) (by simp_all),hms i (by omega) (by simp_all)];done)|(rw[<-hg1.2,zmJ (by omega)];all_goals rfl))
theorem zit {w:List Data}{a k:Int}{l:List Cl}{v:Val} (h:za4 w ⟨a,k⟩ l=true) (hl:ClsOk l) (hv:v.ok) (h2:isV w ⟨a,k⟩ v=true):RunOk w ⟨a,k⟩ l v:=by
 intro i hi;unfold za4 at h;simp only[xad,Bool.not_eq_true',List.any_eq_false,Bool.not_eq_true] at h;have h3:=h.2.2 _ (zap hi);have h4:clOk w ⟨a,k⟩ (nth l i)=true:=by simpa using h3
 unfold clOk at h4;rw[xad] at h4;exact⟨zo8 h4.1 h2 (hl.2 _ (zap hi)) hv,h4.1⟩
theorem zfI {w:List Data}{a k:Int}{l:List Cl} (h:za4 w ⟨a,k⟩ l=true):zbr w ⟨a,k⟩=true/\l.length<=8:=by
 unfold za4 at h;simp only[xad,decide_eq_true_eq] at h;exact⟨h.1,by omega⟩
def runC (w:List Data) (a k:Int) (l:List Cl) (v:Val):(Int×List Bd)×Bool:=if za4 w ⟨a,k⟩ l=true/\isV w ⟨a,k⟩ v=true then (runV l v 0,true) else ((-1,[]),false)
theorem zju {w:List Data}{a k:Int}{l:List Cl}{v:Val} (h1:za4 w ⟨a,k⟩ l=true) (h2:isV w ⟨a,k⟩ v=true):runC w a k l v=(runV l v 0,true):=by unfold runC;rw[if_pos ⟨h1,h2⟩]
theorem zgN {w:List Data}{a k:Int}{l:List Cl}{v:Val} (h1:¬(za4 w ⟨a,k⟩ l=true/\isV w ⟨a,k⟩ v=true)):runC w a k l v=((-1,[]),false):=by unfold runC;rw[if_neg h1]
theorem zhP {w:List Data} (hs:WSmall w){a k:Int}{l:List Cl}{v:Val} (hl:ClsOk l) (hv:v.ok):
  FnD Tryz.prog 49 [.d (zao w),.agg [.d (.i a),.d (.i k)],.d (zbi l),.agg [.d (.i v.ctor),.d (.i v.num),.d (zaq v.kids)]] [] (.tup [.d (.i (runC w a k l v).1.1),.d (zbm (runC w a k l v).1.2),.d (.bool (runC w a k l v).2)]) []:=by
 have hcv:=zel hs (a:=a) (k:=k) hl;have hyes:=zju (w:=w) (a:=a) (k:=k) (l:=l) (v:=v);have hno1:=fun(h:za4 w ⟨a,k⟩ l=false)=>zgN (w:=w) (a:=a) (k:=k) (l:=l) (v:=v) (fun hh=>by rw[h] at hh;exact absurd hh.1 (by simp));have hno2:=fun(h:isV w ⟨a,k⟩ v=false)=>zgN (w:=w) (a:=a) (k:=k) (l:=l) (v:=v) (fun hh=>by rw[h] at hh;exact absurd hh.2 (by simp));refine bd Tryz.f49 33 [] [] fun w0 F0 own kept hk=>?_;refine bx 3005 ?_;refine bx 3007 ?_;refine ev ?_;refine wc zpu (hcv) rfl rfl ?_;refine ev ?_;refine sq ?_ ?_<;>intro h1 h1p h1s<;>(try simp only[Q] at h1p);refine sqT ?_;refine rn0 (.cons (.tmp rfl) (.cons (.tmp rfl) (.cons (.tmp rfl) .nil))) (.tup (.cons (.eqd ?_) (.cons (.nild ?_) (.cons (.eqd ?_) .nil))));rotate_left 3;refine Walk.call (cr:=[]) zpv (zf8 (zfX hs (zcH (zfI (l:=l) (a:=a) (k:=k) (by assumption)).1).1) (zcH (zfI (l:=l) (a:=a) (k:=k) (by assumption)).1).2.1 hv) rfl (.some rfl rfl h1) rfl rfl (LeL.refl _) trivial rfl rfl rfl ?_;refine evs [] [(18,false)] ?_ ⟨⟨_,rfl,h1⟩,trivial⟩;refine sq ?_ ?_<;>intro h3 h3p h3s<;>(try simp only[Q] at h3p);refine rn0 (.cons (.tmp rfl) (.cons (.tmp rfl) (.cons (.tmp rfl) .nil))) (.tup (.cons (.eqd ?_) (.cons (.nild ?_) (.cons (.eqd ?_) .nil))));rotate_left 3;refine wc znP (zm4 hl.1 (zit (a:=a) (k:=k) (by assumption) hl hv (by assumption))) rfl rfl ?_;refine ev ?_;refine rn0 (.cons (.tmp rfl) (.cons (.tmp rfl) (.cons (.tmp rfl) .nil))) (.tup (.cons (.eqd ?_) (.cons (.eqd ?_) (.cons (.eqd ?_) .nil))));rotate_left 3;all_goals (first|(rw[hyes (by assumption) (by assumption)];all_goals rfl)|(rw[hno1 (by assumption)];all_goals rfl)|(rw[hno2 (by assumption)];all_goals rfl))
theorem zil {w:List Data} (hs:WSmall w){a k:Int}{l:List Cl}{v:Val} (hl:ClsOk l) (hz:ClsSz l) (hv:v.ok) (hvz:v.size<=1000000000000):
  FnD Tryz.prog 47 [.d (zao w),.agg [.d (.i a),.d (.i k)],.d (zbi l),.agg [.d (.i v.ctor),.d (.i v.num),.d (zaq v.kids)]] [] (.tup [.d (.i (runC w a k l v).1.1),.d (zbm (runC w a k l v).1.2),.d (.bool (runC w a k l v).2)]) []:=by
 have hcv:=zhe hs (a:=a) (k:=k) hl hz;have hyes:=zju (w:=w) (a:=a) (k:=k) (l:=l) (v:=v);have hno1:=fun(h:za4 w ⟨a,k⟩ l=false)=>zgN (w:=w) (a:=a) (k:=k) (l:=l) (v:=v) (fun hh=>by rw[h] at hh;exact absurd hh.1 (by simp));have hno2:=fun(h:isV w ⟨a,k⟩ v=false)=>zgN (w:=w) (a:=a) (k:=k) (l:=l) (v:=v) (fun hh=>by rw[h] at hh;exact absurd hh.2 (by simp));refine bd Tryz.f47 34 [] [] fun w0 F0 own kept hk=>?_;refine bx 3005 ?_;refine bx 3007 ?_;refine ev ?_;refine wc zq9 (hcv) rfl rfl ?_;refine ev ?_;refine sq ?_ ?_<;>intro h1 h1p h1s<;>(try simp only[Q] at h1p);refine sqT ?_;refine xa1 sl52 .none rfl ?_;refine ev ?_;refine rn0 (.cons (.tmp rfl) (.cons (.tmp rfl) (.cons (.tmp rfl) .nil))) (.tup (.cons (.eqd ?_) (.cons (.eqd ?_) (.cons (.eqd ?_) .nil))));rotate_left 3;refine Walk.call (cr:=[]) zp7 (zmR (zfX hs (zcH (zfI (l:=l) (a:=a) (k:=k) (by assumption)).1).1) (zcH (zfI (l:=l) (a:=a) (k:=k) (by assumption)).1).2.1 hv hvz) rfl (.some rfl rfl h1) rfl rfl (LeL.refl _) trivial rfl rfl rfl ?_;refine evs [] [(18,false)] ?_ ⟨⟨_,rfl,h1⟩,trivial⟩;refine sq ?_ ?_<;>intro h3 h3p h3s<;>(try simp only[Q] at h3p);refine xa1 sl52 .none rfl ?_;refine ev ?_;refine rn0 (.cons (.tmp rfl) (.cons (.tmp rfl) (.cons (.tmp rfl) .nil))) (.tup (.cons (.eqd ?_) (.cons (.eqd ?_) (.cons (.eqd ?_) .nil))));rotate_left 3;refine wc zp8 (zlP hl.1 (zit (a:=a) (k:=k) (by assumption) hl hv (by assumption))) rfl rfl ?_;refine ev ?_;refine rn0 (.cons (.tmp rfl) (.cons (.tmp rfl) (.cons (.tmp rfl) .nil))) (.tup (.cons (.eqd ?_) (.cons (.eqd ?_) (.cons (.eqd ?_) .nil))));rotate_left 3;all_goals (first|(rw[hyes (by assumption) (by assumption)];all_goals rfl)|(rw[hno1 (by assumption)];all_goals rfl)|(rw[hno2 (by assumption)];all_goals rfl))
theorem zia (v:Val):∀(l:List Cl) (i:Int),((runV l v i).1 = -1/\(runV l v i).2=[]/\∀j,j<l.length->zcr (nth l j) v=false)\/
  ∃j:Nat,j<l.length/\(runV l v i).1=i+j/\(runV l v i).2=zci (zak 10 (nth l j).pat v).1/\zcr (nth l j) v=true/\∀x,x<j->zcr (nth l x) v=false
 | [],i=> .inl ⟨rfl,rfl,fun j hj=>absurd hj (by simp)⟩
 |c::r,i=>by
  unfold runV;cases hr:zcr c v with
  |true=>
   right
   rw[if_pos rfl];exact⟨0,by simp,by simp,rfl,hr,fun x hx=>absurd hx (by omega)⟩
  |false=>
   rw[if_neg (by simp)];rcases zia v r (i+1) with ⟨h1,h2,h3⟩|⟨j,h1,h2,h3,h4,h5⟩
   ·refine .inl ⟨h1,h2,fun j hj=>?_⟩;cases j with
    |zero=>exact hr
    |succ j=>exact h3 j (by simpa using hj)
   ·refine .inr ⟨j+1,by simpa using h1,by rw[h2];push_cast;omega,h3,h4,fun x hx=>?_⟩;cases x with
    |zero=>exact hr
    |succ x=>exact h5 x (by omega)
theorem znD {w:List Data}{a k:Int}{l:List Cl}{v:Val} (hr:RunOk w ⟨a,k⟩ l v) (i:Int):(runV l v i).2.length<=6/\∀x∈(runV l v i).2,x.val.ok:=by
 rcases zia v l i with ⟨h1,h2,h3⟩|⟨j,h1,h2,h3,h4,h5⟩
 ·rw[h2];simp
 ·rw[h3];unfold zcr at h4;rw[xad] at h4;have h6:=ze7 (hr j h1).1 (hr j h1).2 h4.1;refine⟨by rw[zec];exact h6,fun x hx=>?_⟩;have:=(zb2 10 (hr j h1).1.shape (hr j h1).1.vok).1;exact(this x ((zdM _).mem_iff.1 hx)).1
theorem zmD {pre rest l:List Val}{y:Val}{k:Int} (h:pre++y::rest=l):(Val.cs (mkL Val.one Val.szM k l))[pre.length]?=some (Val.cc (Val.one (k+szL Val.szM pre) y)):=by
 rw[Val.cs_cc];exact zoy h
theorem ze3:∀(n:Nat){l:List Val}{k:Int},Vals.size l<n->0<k->k+szL Val.szM l<=1000000000000->l.length<=1000000000000->Vals.ok l->
  FnD Tryz.prog 92 [.d (zaq (mkL Val.one Val.szM k l)),.d (.i k)] [] (.d (.i (k+szL Val.szM l))) []
 |0,l,k,h,_,_,_,_=>absurd h (Nat.not_lt_zero _)
 |n+1,l,k,h,h0,h1,hl,hok=>by
  have hcall:∀(y:Val) (v:Int) (q:Int),y∈l->v=q->0<v->v+2+szL Val.szM y.kids<=1000000000000->FnD Tryz.prog 92 [.d (zaq (Val.one q y).kids),.d (.i (v+1+1))] [] (.d (.i (v+1+1+szL Val.szM y.kids))) []:=fun y v q hy e h2 h3=>by
   subst e;rw[Val.one_kids];have ho:=(Val.ok_iff y).1 (Vals.ok_mem hok y hy);exact ze3 n (by have hm:=Vals.size_mem hy;rw[Val.size_eq] at hm;omega) (by omega) (by omega) ho.1 ho.2
  refine bd Tryz.f92 40 [] [] fun w0 F0 own kept hk=>?_;refine xam (ι:=List (Val)×List (Val)×(Int)) hk (fun x=>[(5,.d (.i (x.1.length:Int))),(1,.d (.i x.2.2))]) [4,6,7,8,9,10,11,12,13,14,15,16,17,18,19,20,21,22,23,24,25,26,27,28,29,30,31,32,33,34,35,36,37,38] (fun x=>[]) (fun x=>x.1++x.2.1=l/\x.2.2=k+szL Val.szM x.1) (fun x=>x.2.1.length) ([],l,k) ⟨by simp,by simp[szL]⟩ ⟨⟨_,rfl,xau ?_⟩,⟨⟨_,rfl,xau ?_⟩,trivial⟩⟩ trivial (fun x=>rfl) (fun x hg1=>?_);iterate 2 focus (first|rfl|(simp;done)|omega|(refine Eq.trans (b:=v+Val.szM y) ?_ rfl;omega))
  obtain⟨pre,rest,v⟩:=x;dsimp only at hg1 ⊢;refine evc [] [] ?_;refine sq ?_ ?_<;>intro h1 h1p h1s<;>(try simp only[Q,zai,Val.cs_len] at h1p);rcases rest with _|⟨y,rest⟩
  ·exfalso;simp_all
  have hsp:=zcC (sz:=Val.szM) hg1.1;have hnn:=zaB (l:=rest) Val.szM_nn;have hnp:=zaB (l:=pre) Val.szM_nn;have hys:=Val.szM_kids y;have hya:=zaB (l:=y.kids) Val.szM_nn;have hv:=hg1.2;refine xaK sl47 .none rfl rfl rfl rfl (zmD hg1.1) rfl ?_;refine ev ?_;refine sq ?_ ?_<;>intro h2 h2p h2s<;>(try simp only[Q,zai,Val.cs_len] at h2p);exfalso;revert h2;simp[Val.one_sc,hv];refine ar ?_;refine xaK sl47 .none rfl rfl rfl rfl (zmD hg1.1) rfl ?_;refine ev ?_;refine sq ?_ ?_<;>intro h3 h3p h3s<;>(try simp only[Q,zai,Val.cs_len] at h3p);exfalso;revert h3;simp[Val.one_sc,hv];refine ar ?_;refine xaK sl47 .none rfl rfl rfl rfl (zmD hg1.1) rfl ?_;refine ev ?_;refine wc zpA (hcall y v _ (by rw[<-hg1.1];simp) hv (by omega) (by omega)) rfl rfl ?_;refine ev ?_;refine sq ?_ ?_<;>intro h4 h4p h4s<;>(try simp only[Q,zai,Val.cs_len] at h4p);exfalso;omega;refine ar ?_;refine xah ((pre++[y],rest,v+Val.szM y)) ⟨⟨(by have hz:=hg1.1;rw[<-hz];simp),(by show v+Val.szM y=_;rw[zbB,hg1.2];omega)⟩,(by simp),sx ⟨⟨_,rfl,xau ?_⟩,⟨⟨_,rfl,xau ?_⟩,trivial⟩⟩ trivial⟩;iterate 2 focus (first|rfl|(simp;done)|omega|(refine Eq.trans (b:=v+Val.szM y) ?_ rfl;omega))
  have hrest:rest=[]:=by
   rcases rest with _|⟨a,b⟩
   ·rfl
   ·exfalso;have hz:=congrArg List.length (hg1.1);simp only[xaa,xab,xac] at hz;omega
  subst hrest;refine rq ?_;rotate_left;all_goals (first|rfl|(obtain⟨hg1,hv⟩:=hg1;rw[List.append_nil] at hg1;subst hg1;rw[hv]))
def Bd.szM (b:Bd):Int:=1+b.val.szM
def Bd.one (k:Int) (b:Bd):Bd:=⟨k,Val.one (k+1) b.val⟩
def BdsOk (l:List Bd):Prop:=l.length<=1000000000000/\∀b∈l,b.val.ok
theorem Bd.szM_nn (b:Bd):0<=b.szM:=by have:=Val.szM_nn b.val;unfold Bd.szM;omega
theorem Bd.szM_kids (b:Bd):b.szM=3+szL Val.szM b.val.kids:=by unfold Bd.szM;rw[Val.szM_kids];omega
def bdEq (a b:Bd):Bool:=decide (a.var=b.var)&&ze1 a.val b.val
def zlR (a b:List Bd):Bool:=decide (a.length=b.length)&&(List.range a.length).all fun i=>bdEq (nth a i) (nth b i)
theorem zfp (l:List Bd):zlR l l=true:=by
 unfold zlR bdEq;rw[decide_eq_true rfl,Bool.true_and,List.all_eq_true];intro i hi;rw[decide_eq_true rfl,zdO];rfl
theorem zkN {a b:Bd} (hok:a.val.ok):FnD Tryz.prog 109 [.agg (bdA a),.agg (bdA b)] [] (.d (.bool (bdEq a b))) []:=by
 unfold bdEq;refine bd Tryz.f109 16 [] [] fun w0 F0 own kept hk=>?_;refine bx 3002 ?_;refine bx 3003 ?_;refine ev ?_;refine sq ?_ ?_<;>intro h1 h1p h1s<;>(try simp only[Q] at h1p);refine rq ?_;rotate_left;refine wc zlS (zde a.val.size (a:=a.val) (b:=b.val) (Nat.le_refl _) hok) rfl rfl ?_;refine ev ?_;refine sq ?_ ?_<;>intro h2 h2p h2s<;>(try simp only[Q] at h2p);refine rq ?_;rotate_left;refine rq ?_;rotate_left;all_goals (refine congrArg D.bool ?_;simp_all;done)
theorem zb6 {l m:List Bd} (hs:BdsOk l):FnD Tryz.prog 50 [.d (zbm l),.d (zbm m)] [] (.d (.bool (zlR l m))) []:=by
 have hll:=hs.1;unfold zlR;refine bd Tryz.f50 27 [] [] fun w0 F0 own kept hk=>?_;refine sq ?_ ?_<;>intro h1 h1p h1s<;>(try simp only[Q,Int.natCast_inj,xac] at h1p);refine rq ?_;rotate_left;refine xam (ι:=Nat) hk (fun i=>[(5,.d (.i (i:Int)))]) [4,11,12,13,14,15,16,17,18,19,20,21,22,23,24,25,26] (fun i=>[]) (fun i=>i<=l.length/\∀i',i'<i->bdEq (nth l i') (nth m i')=true) (fun i=>l.length-i) 0 ⟨by omega,fun _ h=>absurd h (by omega)⟩ ⟨⟨_,rfl,xau ?_⟩,trivial⟩ trivial (fun x=>rfl) (fun i hg1=>?_);focus (first|rfl|(simp;done)|(simp_all;done)|omega)
 refine evc [] [] ?_;refine sq ?_ ?_<;>intro h2 h2p h2s<;>(try simp only[Q,Int.natCast_inj,xac] at h2p);refine xaK sl52 .none rfl rfl rfl rfl (zau (by omega)) rfl ?_;refine evd [] [] ?_;refine xaK sl52 .none rfl rfl rfl rfl (zau (by omega)) rfl ?_;refine evd [] [] ?_;refine wc zqa (zkN (a:=nth l i) (b:=nth m i) (hs.2 _ (zap (by omega)))) rfl rfl ?_;refine evd [] [] ?_;refine dr ?_;refine sq ?_ ?_<;>intro h3 h3p h3s<;>(try simp only[Q,Int.natCast_inj,xac] at h3p);refine rq ?_;rotate_left;refine ar ?_;refine xah (i+1) ⟨⟨by omega,zaL hg1.2 (by assumption)⟩,(by omega),sx ⟨⟨_,rfl,xau ?_⟩,trivial⟩ trivial⟩;focus (first|rfl|(simp;done)|(simp_all;done)|omega)
 refine rq ?_;rotate_left;all_goals (refine congrArg D.bool ?_;first|(rw[decide_eq_false (by omega)];rfl)|(rw[zcv (i:=i) (by omega) (by assumption),Bool.and_false];done)|(rw[decide_eq_true (by omega),zcO (fun x hx=>hg1.2 x (by omega))];rfl))
theorem zbf (m:Bool) (l:List Bd):(zac m (l.map Bd.c)).length=l.length*4:=zdI m (fun _ _=>rfl)
theorem Bd.rows {l:List Bd}:∀x,x∈l.map Bd.c->x.length=4:=by
 intro x hx;obtain⟨y,_,rfl⟩:=List.mem_map.1 hx;rfl
theorem zmF {m:Bool}{y:Bd}{r:List Bd}:zac m ((y::r).map Bd.c) = .d (.i y.var):: .d (.i y.val.ctor):: .d (.i y.val.num):: .own m (zaq y.val.kids)::zac m (r.map Bd.c):=rfl
theorem zev {m:Bool}{y:Bd}{r:List Bd}:zac m ((r++[y]).map Bd.c)=zac m (r.map Bd.c)++[.d (.i y.var),.d (.i y.val.ctor),.d (.i y.val.num),.own m (zaq y.val.kids)]:=by
 rw[xaf,zdg];rfl
theorem zlJ {m:Bool}{l:List Val}{k:Int} (h0:0<k) (h1:k+szL Val.szM l<=1000000000000) (hl:l.length<=1000000000000) (hok:Vals.ok l):FnD Tryz.prog 91 [.ms 45 l.length,.d (.i k)] [(45,some (.tree (zac m (Val.cs l))))]
  (.d (.i (k+szL Val.szM l))) [(45,some (.tree (zac false (Val.cs (mkL Val.one Val.szM k l)))))]:=zgK (ze4 _ (Nat.le_refl _) h0 h1 hl hok)
theorem ziH {m:Bool}{l:List Bd}{k:Int} (h0:0<k) (h1:k+szL Bd.szM l<=1000000000000) (hok:BdsOk l):FnD Tryz.prog 51 [.ms 48 l.length,.d (.i k)] [(48,some (.tree (zac m (l.map Bd.c))))]
  (.d (.i (k+szL Bd.szM l))) [(48,some (.tree (zac false ((mkL Bd.one Bd.szM k l).map Bd.c))))]:=by
 have hl:=hok.1;have hpk:=fun(c:Bd) (hc:c∈l)=>(Val.ok_iff c.val).1 (hok.2 c hc);refine bd Tryz.f51 44 [40] [3,10,1000009] fun w0 F0 own kept hk=>?_;refine xam (ι:=List (Bd)×List (Bd)×(Int)) hk (fun x=>[(5,.d (.i (x.1.length:Int))),(1,.d (.i x.2.2))]) [6,7,8,9,10,11,12,13,14,15,16,17,18,19,20,21,22,23,24,25,26,27,28,29,30,31,32,33,34,35,36,37,38,39,40,41,42] (fun x=>[(48,some (.tree (zac false ((mkL Bd.one Bd.szM k x.1).map Bd.c)++zac m (x.2.1.map Bd.c))))]) (fun x=>x.1++x.2.1=l/\x.2.2=k+szL Bd.szM x.1) (fun x=>x.2.1.length) ([],l,k) ⟨by simp,by simp[szL]⟩ ⟨⟨_,rfl,xau ?_⟩,⟨⟨_,rfl,xau ?_⟩,trivial⟩⟩ ⟨?_,trivial⟩ (fun x=>rfl) (fun x hg1=>?_);iterate 2 focus (first|rfl|(simp;done)|omega|(refine Eq.trans (b:=v+Bd.szM y) ?_ rfl;omega))
 focus (first|rfl|(show some (Res.tree _)=some (Res.tree _);rw[zbd,zev,<-hg1.2];simp only[Bd.one,Val.one_kids,Val.one_sc y.val (v+1),List.append_assoc,xag,List.nil_append];all_goals rfl))
 obtain⟨pre,rest,v⟩:=x;dsimp only at hg1 ⊢;refine evc [40] [3,10,1000009] ?_;refine cq (fun h1 h1p h1s=>?_) fun h1 h1p h1s=>?_;try simp only[Q] at h1p
 rcases rest with _|⟨y,rest⟩
 ·exfalso;simp_all
 have hsp:=zcC (sz:=Bd.szM) hg1.1;have hnn:=zaB (l:=rest) Bd.szM_nn;have hnp:=zaB (l:=pre) Bd.szM_nn;have hys:=Bd.szM_kids y;have hya:=zaB (l:=y.val.kids) Val.szM_nn;have hv:=hg1.2;refine xao 48 (zac false ((mkL Bd.one Bd.szM k pre).map Bd.c)++(.d (.i y.var):: .d (.i y.val.ctor):: .d (.i y.val.num):: .own m (zaq y.val.kids)::zac m (rest.map Bd.c))) rfl (by rw[zmF]) ?_;refine evc [40] [3,10,1000009] ?_;refine xaM sl52 .none rfl rfl rfl rfl (by first|omega|(simp[Val.cs_nil,Val.cs_len,Val.cs];omega)) ?_;refine evs [40] [] ?_;refine xa6 ty3 .none rfl rfl rfl rfl rfl rfl (by simp) ((zar ((zbf false _).trans (by rw[zai];all_goals rfl)) zeI)) ?_;refine tv ?_;refine ar ?_;refine xaM sl52 .none rfl rfl rfl rfl (by first|omega|(simp[Val.cs_nil,Val.cs_len,Val.cs];omega)) ?_;refine evs [40] [] ?_;refine xa6 ty3 .none rfl rfl rfl rfl rfl rfl (by simp) ((zar (o:=pre.length*4) (j:=1) ((zbf false _).trans (by rw[zai])) zcn)) ?_;refine tv ?_;refine ar ?_;refine xaM sl52 .none rfl rfl rfl rfl (by first|omega|(simp[Val.cs_nil,Val.cs_len,Val.cs];omega)) ?_;refine evs [40] [] ?_;refine xa6 ty3 .none rfl rfl rfl rfl rfl rfl (by simp) ((zar (o:=pre.length*4) (j:=2) ((zbf false _).trans (by rw[zai])) zdK)) ?_;refine tv ?_;refine ar ?_;by_cases hs2:y.val.kids=[]
 refine xak 48 (pre.length*4+3) rfl (zaC ((zbf false _).trans (by rw[zai];all_goals rfl)) rfl) (by simp[hs2,Val.cs_nil,Val.cs_len,Val.cs]) (zar ((zbf false _).trans (by rw[zai];all_goals rfl)) zeJ) ?_;refine evc [40] [] ?_;refine xaM sl52 .none rfl rfl rfl rfl (by first|omega|(simp[Val.cs_nil,Val.cs_len,Val.cs];omega)) ?_;refine evs [40] [] ?_;refine xaR ty47 .none rfl rfl rfl ((by rw[zaC (o:=pre.length*4) (j:=3) ((zbf false _).trans (by rw[zai])) rfl];rfl)) ?_;refine evs [40] [] ?_;refine Walk.call (cr:=[]) zjJ (zeB hs2) rfl .none rfl rfl (LeL.refl _) trivial rfl (by first|rfl|(simp only[zam,List.all_cons,List.all_nil,zaz,zat,AV.idsL,AV.ids,zab,zaa,xae,List.map_nil];rfl)) (by first|rfl|(simp only[zaf,occH,occE,Res.ids,xag,List.nil_append,AV.idsL,AV.ids,zab,zaa,zad,zaj,xae,List.map_nil,upC];rfl)) ?_;refine evs [40] [] ?_;refine xal 48 (pre.length*4+3) false rfl (xs:=Val.cs (mkL Val.one Val.szM (v+1+1+1) y.val.kids)) rfl (zaC ((zbf false _).trans (by rw[zai];all_goals rfl)) rfl) (by simp[hs2,mkL,Val.cs]) (zar ((zbf false _).trans (by rw[zai];all_goals rfl)) zeJ) ?_;refine evc [40] [] ?_;refine ar ?_;refine xah ((pre++[y],rest,v+Bd.szM y)) ⟨⟨(by have hz:=hg1.1;rw[<-hz];simp),(by show v+Bd.szM y=_;rw[zbB,hg1.2];omega)⟩,(by simp),sx ⟨⟨_,rfl,xau ?_⟩,⟨⟨_,rfl,xau ?_⟩,trivial⟩⟩ ⟨?_,trivial⟩⟩;iterate 2 focus (first|rfl|(simp;done)|omega|(refine Eq.trans (b:=v+Bd.szM y) ?_ rfl;omega))
 focus (first|rfl|(show some (Res.tree _)=some (Res.tree _);rw[zbd,zev,<-hg1.2];simp only[Bd.one,Val.one_kids,Val.one_sc y.val (v+1),List.append_assoc,xag,List.nil_append];all_goals rfl))
 refine CWp.split 48 (pre.length*4+3) 45 rfl (zaC ((zbf false _).trans (by rw[zai];all_goals rfl)) rfl) (by simp[hs2,Val.cs_nil,Val.cs_len,Val.cs]) (by first|rfl|(simp only[zaf,occH,occE,Res.ids,xag,List.nil_append,AV.idsL,AV.ids,zab,zaa,zad,zaj,xae,List.map_nil,upC];rfl)) (zar ((zbf false _).trans (by rw[zai];all_goals rfl)) zeJ) ?_;refine evc [40] [] ?_;refine xaM sl52 .none rfl rfl rfl rfl (by first|omega|(simp[Val.cs_nil,Val.cs_len,Val.cs];omega)) ?_;refine evs [40] [] ?_;refine xaR ty47 .none rfl rfl rfl ((by rw[zaC (o:=pre.length*4) (j:=3) ((zbf false _).trans (by rw[zai])) rfl];rfl)) ?_;refine evs [40] [] ?_;refine Walk.call (cr:=[]) zjJ (zlJ (l:=y.val.kids) (k:=v+1+1+1) (by omega) (by omega) (hpk y (by rw[<-hg1.1];simp)).1 (hpk y (by rw[<-hg1.1];simp)).2) rfl .none rfl rfl (.cons (xav (by first|rfl|(simp[Val.cs_nil,Val.cs_len,Val.cs];done))) (.cons (.refl _) .nil)) ⟨by first|rfl|(simp;rfl),trivial⟩ rfl (by first|rfl|(simp only[zam,List.all_cons,List.all_nil,zaz,zat,AV.idsL,AV.ids,zab,zaa,xae,List.map_nil];rfl)) (by first|rfl|(simp only[zaf,occH,occE,Res.ids,xag,List.nil_append,AV.idsL,AV.ids,zab,zaa,zad,zaj,xae,List.map_nil,upC];rfl)) ?_;refine evs [40] [] ?_;refine CWp.merge hk 48 (pre.length*4+3) 45 3 _ rfl (zaC ((zbf false _).trans (by rw[zai];all_goals rfl)) rfl) (by simp[zai,Val.cs_nil,Val.cs_len,Val.cs]) rfl Val.cs_rows rfl rfl (zar ((zbf false _).trans (by rw[zai];all_goals rfl)) zeJ) ?_;refine evc [40] [] ?_;refine ar ?_;refine xah ((pre++[y],rest,v+Bd.szM y)) ⟨⟨(by have hz:=hg1.1;rw[<-hz];simp),(by show v+Bd.szM y=_;rw[zbB,hg1.2];omega)⟩,(by simp),sx ⟨⟨_,rfl,xau ?_⟩,⟨⟨_,rfl,xau ?_⟩,trivial⟩⟩ ⟨?_,trivial⟩⟩;iterate 2 focus (first|rfl|(simp;done)|omega|(refine Eq.trans (b:=v+Bd.szM y) ?_ rfl;omega))
 focus (first|rfl|(show some (Res.tree _)=some (Res.tree _);rw[zbd,zev,<-hg1.2];simp only[Bd.one,Val.one_kids,Val.one_sc y.val (v+1),List.append_assoc,xag,List.nil_append];all_goals rfl))
 try simp only[Q] at h1p
 have hrest:rest=[]:=by
  rcases rest with _|⟨a,b⟩
  ·rfl
  ·exfalso;have hz:=congrArg List.length (hg1.1);simp only[xaa,xab,xac] at hz;omega
 subst hrest;refine evc [40] [3,10,1000009] ?_;refine rn [(48,some (.tree (zac false ((mkL Bd.one Bd.szM k l).map Bd.c))))] (r1 rfl) (.eqd ?_) ⟨rfl,rfl⟩ (SubO.get ⟨.inr ?_,⟨.inl rfl,trivial⟩⟩) (zaE rfl);rotate_left 2;all_goals (first|((first|rfl|(obtain⟨hg1,hv⟩:=hg1;rw[List.append_nil] at hg1;subst hg1;rw[hv]));done)|(first|rfl|(obtain⟨hg1,_⟩:=hg1;rw[List.append_nil] at hg1;subst hg1;show some (Res.tree _)=some (Res.tree _);simp[zaQ];done)))
theorem zhW {l:List Bd}{k:Int} (hl:l=[]):FnD Tryz.prog 51 [.d (.sl []),.d (.i k)] [] (.d (.i (k+szL Bd.szM l))) []:=by
 subst hl;refine bd Tryz.f51 44 [] [] fun w0 F0 own kept hk=>?_;refine xam (ι:=Unit) hk (fun x=>[(5,.d (.i 0)),(1,.d (.i k))]) [6,7,8,9,10,11,12,13,14,15,16,17,18,19,20,21,22,23,24,25,26,27,28,29,30,31,32,33,34,35,36,37,38,39,40,41,42] (fun x=>[]) (fun x=>True) (fun x=>0) () trivial ⟨⟨_,rfl,xau ?_⟩,⟨⟨_,rfl,xau ?_⟩,trivial⟩⟩ trivial (fun x=>rfl) (fun x hg1=>?_);iterate 2 focus (first|rfl|(simp;done)|(simp_all;done)|omega)
 refine evc [] [] ?_;refine sq ?_ ?_<;>intro h1 h1p h1s<;>(try simp only[Q] at h1p);exfalso;revert h1;simp;refine rq ?_;rotate_left;all_goals (first|rfl|(simp[szL];done))
theorem zj8 {pre rest l:List Bd}{y:Bd}{k:Int} (h:pre++y::rest=l):((mkL Bd.one Bd.szM k l).map Bd.c)[pre.length]?=some (Bd.c (Bd.one (k+szL Bd.szM pre) y)):=zoy h
theorem zcJ {l:List Bd}{k:Int} (h0:0<k) (h1:k+szL Bd.szM l<=1000000000000) (hok:BdsOk l):
  FnD Tryz.prog 52 [.d (zbm (mkL Bd.one Bd.szM k l)),.d (.i k)] [] (.d (.i (k+szL Bd.szM l))) []:=by
 have hl:=hok.1;have hcall:∀(y:Bd) (v:Int) (q:Int),y∈l->v=q->0<v->v+3+szL Val.szM y.val.kids<=1000000000000->FnD Tryz.prog 92 [.d (zaq (Bd.one q y).val.kids),.d (.i (v+1+1+1))] [] (.d (.i (v+1+1+1+szL Val.szM y.val.kids))) []:=fun y v q hy e h2 h3=>by
  subst e;show FnD Tryz.prog 92 [.d (zaq (Val.one (v+1) y.val).kids),_] [] _ []
  rw[Val.one_kids];have ho:=(Val.ok_iff y.val).1 (hok.2 y hy);exact ze3 _ (Nat.lt_succ_self _) (by omega) (by omega) ho.1 ho.2
 refine bd Tryz.f52 52 [] [] fun w0 F0 own kept hk=>?_;refine xam (ι:=List (Bd)×List (Bd)×(Int)) hk (fun x=>[(5,.d (.i (x.1.length:Int))),(1,.d (.i x.2.2))]) [4,6,7,8,9,10,11,12,13,14,15,16,17,18,19,20,21,22,23,24,25,26,27,28,29,30,31,32,33,34,35,36,37,38,39,40,41,42,43,44,45,46,47,48,49,50] (fun x=>[]) (fun x=>x.1++x.2.1=l/\x.2.2=k+szL Bd.szM x.1) (fun x=>x.2.1.length) ([],l,k) ⟨by simp,by simp[szL]⟩ ⟨⟨_,rfl,xau ?_⟩,⟨⟨_,rfl,xau ?_⟩,trivial⟩⟩ trivial (fun x=>rfl) (fun x hg1=>?_);iterate 2 focus (first|rfl|(simp;done)|omega|(refine Eq.trans (b:=v+Bd.szM y) ?_ rfl;omega))
 obtain⟨pre,rest,v⟩:=x;dsimp only at hg1 ⊢;refine evc [] [] ?_;refine sq ?_ ?_<;>intro h1 h1p h1s<;>(try simp only[Q,zai] at h1p);rcases rest with _|⟨y,rest⟩
 ·exfalso;simp_all
 have hsp:=zcC (sz:=Bd.szM) hg1.1;have hnn:=zaB (l:=rest) Bd.szM_nn;have hnp:=zaB (l:=pre) Bd.szM_nn;have hys:=Bd.szM_kids y;have hya:=zaB (l:=y.val.kids) Val.szM_nn;have hv:=hg1.2;refine xaK sl52 .none rfl rfl rfl rfl (zj8 hg1.1) rfl ?_;refine ev ?_;refine sq ?_ ?_<;>intro h2 h2p h2s<;>(try simp only[Q,zai] at h2p);exfalso;revert h2;simp[Bd.one,hv];refine ar ?_;refine xaK sl52 .none rfl rfl rfl rfl (zj8 hg1.1) rfl ?_;refine ev ?_;refine sq ?_ ?_<;>intro h3 h3p h3s<;>(try simp only[Q,zai] at h3p);exfalso;revert h3;simp[Bd.one,Val.one_sc,hv];refine ar ?_;refine xaK sl52 .none rfl rfl rfl rfl (zj8 hg1.1) rfl ?_;refine ev ?_;refine sq ?_ ?_<;>intro h4 h4p h4s<;>(try simp only[Q,zai] at h4p);exfalso;revert h4;simp[Bd.one,Val.one_sc,hv];refine ar ?_;refine xaK sl52 .none rfl rfl rfl rfl (zj8 hg1.1) rfl ?_;refine ev ?_;refine wc zpA (hcall y v _ (by rw[<-hg1.1];simp) hv (by omega) (by omega)) rfl rfl ?_;refine ev ?_;refine sq ?_ ?_<;>intro h5 h5p h5s<;>(try simp only[Q,zai] at h5p);exfalso;omega;refine ar ?_;refine xah ((pre++[y],rest,v+Bd.szM y)) ⟨⟨(by have hz:=hg1.1;rw[<-hz];simp),(by show v+Bd.szM y=_;rw[zbB,hg1.2];omega)⟩,(by simp),sx ⟨⟨_,rfl,xau ?_⟩,⟨⟨_,rfl,xau ?_⟩,trivial⟩⟩ trivial⟩;iterate 2 focus (first|rfl|(simp;done)|omega|(refine Eq.trans (b:=v+Bd.szM y) ?_ rfl;omega))
 have hrest:rest=[]:=by
  rcases rest with _|⟨a,b⟩
  ·rfl
  ·exfalso;have hz:=congrArg List.length (hg1.1);simp only[xaa,xab,xac] at hz;omega
 subst hrest;refine rq ?_;rotate_left;all_goals (first|rfl|(obtain⟨hg1,hv⟩:=hg1;rw[List.append_nil] at hg1;subst hg1;rw[hv]))
end Go.Proofs.YtlfipehhbdjnjaaGreat
namespace Go.Proofs.YtlfipehhbdjnjaaGreat
open Go
set_option linter.unusedSimpArgs false
set_option linter.unusedVariables false
theorem zli (L:List Nat) (hp:Hp) (i:Nat):getH (L.map (fun j=>(j,(none:Option Res)))++hp) i=if i∈L then none else getH hp i:=by
 induction L with
 |nil=>simp
 |cons x r ih=>
  simp only[xae,xag,zah,List.mem_cons];by_cases h:i=x
  ·subst h;simp
  ·simp[h,ih]
section
variable {c:Ctx}
theorem R.drop {G:Gh}{s:St}{a:Act}{w:World} (hr:R c G s a w) (L:List Nat) (hk:∀i l,c.kept i=some l->i∉L):R c G ⟨s.env,L.map (fun j=>(j,none))++s.hp⟩ a w:=by
 have hg:=zli L s.hp;have hT:∀i p,tokf (L.map (fun j=>(j,(none:Option Res)))++s.hp) i=some p->tokf s.hp i=some p:=fun i p h=>by
  obtain⟨n,k⟩:=p;have:=zan.1 h;rw[hg] at this;split at this
  ·cases this
  ·exact zan.2 this
 have hm:∀ {x:AV}{v:Value},RelA G (tokf s.hp) w x v->RelA G (tokf (L.map (fun j=>(j,(none:Option Res)))++s.hp)) w x v:=fun hx=>
  hx.mono (fun _ _ ho=>⟨ho,rfl⟩) (fun _ _=> .inl rfl) (fun i _ p hp=>⟨hT i p hp,fun _ _=>⟨rfl,rfl⟩⟩)
 have hs:∀i r,getH (L.map (fun j=>(j,(none:Option Res)))++s.hp) i=some r->getH s.hp i=some r:=fun i r h=>by
  rw[hg] at h;split at h
  ·cases h
  ·exact h
 have hss:∀i,(getH (L.map (fun j=>(j,(none:Option Res)))++s.hp) i).isSome->(getH s.hp i).isSome:=fun i h=>by
  obtain⟨r,hr⟩:=Option.isSome_iff_exists.1 h;rw[hs i r hr];rfl
 refine⟨hr.size,hr.defers,fun i v h=>hm (hr.slots i v h),fun i r h=>?_,fun i j h1 h2=>hr.disj i j (hss i h1) (hss j h2),fun i h=>hr.new i (hss i h),hr.frm,hr.top,fun i l hl=>?_⟩
 ·have hh:=hr.heap i r (hs i r h);cases r with
  |box cs=>
   obtain⟨b,vs,e,h1,h2,h3,h4,h5⟩:=hh;exact⟨b,vs,e,h1,h2,h3,h4,fun j hj hv=>hm (h5 j hj hv)⟩
  |tok m k=>exact hh
  |map ks=>exact hh
  |tree cs=>exact za1 hh rfl (fun _ _=>⟨rfl,rfl⟩) (Nat.le_refl _) (fun _ _ _=>hm)
 ·obtain⟨k1,k2,k3⟩:=hr.kept i l hl;refine⟨k1, ?_, ?_⟩
  ·show(getH (L.map (fun j=>(j,(none:Option Res)))++s.hp) i).isSome
   rw[hg,if_neg (hk i l hl)];exact k2
  ·show tokf (L.map (fun j=>(j,(none:Option Res)))++s.hp) i=none
   cases h:tokf (L.map (fun j=>(j,(none:Option Res)))++s.hp) i with
   |none=>rfl
   |some p=>rw[hT i p h] at k3;cases k3
theorem R.retokG {G G':Gh}{s:St}{a:Act}{w w':World} (hr:R c G s a w){id n n' k:Nat} (htok:getH s.hp id=some (.tok n k)) (hlt:n<n')
  (hF:∀b o,o<G.F b->o<G'.F b/\w'.cell? ⟨b,o,none⟩=w.cell? ⟨b,o,none⟩) (hloc:∀i,i≠id->G'.loc i=G.loc i)
  (hoth:∀b,b<w.heap.size->b∉G.loc id->w'.heap[b]?=w.heap[b]?/\G'.F b=G.F b)
  (hid:∀b,b∈G'.loc id->b<w'.heap.size) (hnew:∀b,b∈G'.loc id->b∈G.loc id\/w.heap.size<=b\/((b∈c.own\/c.w0.heap.size<=b)/\∀i,i≠id->(getH s.hp i).isSome->b∉G.loc i))
  (hos:w'.os=w.os) (htp:w'.tape=w.tape) (hou:w'.output=w.output) (hsz:w.heap.size<=w'.heap.size) (htop:∀b,w'.heap.size<=b->G'.F b=0):
  R c G' { s with hp:=(id,some (.tok n' k))::s.hp } a w':=by
 have hT:tokf s.hp id=some (n,k):=zan.2 htok;have hT1:tokf ((id,some (.tok n' k))::s.hp) id=some (n',k):=zan.2 (by rw[zah,if_pos rfl]);have hT2:∀i,i≠id->tokf ((id,some (.tok n' k))::s.hp) i=tokf s.hp i:=fun i hi=>by
  unfold tokf;rw[zah,if_neg hi]
 have bound:∀i r,getH s.hp i=some r->∀b,b∈G.loc i->b<w.heap.size:=fun i r h=>(hr.heap i r h).bound;have apart:∀i r,i≠id->getH s.hp i=some r->∀b,b∈G.loc i->b∉G.loc id:=fun i r hi h b hb=>hr.disj i id (by rw[h];rfl) (by rw[htok];rfl) hi b hb;have hm:∀ {x:AV}{v:Value},RelA G (tokf s.hp) w x v->RelA G' (tokf ((id,some (.tok n' k))::s.hp)) w' x v:=fun hx=>
  hx.retok hF hT hlt hT1 hT2 hloc (fun i p hi hp b hb=>by
   obtain⟨m,k'⟩:=p;have h1:=zan.1 hp;exact hoth b (bound i _ h1 b hb) (apart i _ hi h1 b hb))
 have hsome:∀i,(getH ((id,some (.tok n' k))::s.hp) i).isSome->(getH s.hp i).isSome:=fun i h=>by
  rw[zah] at h;split at h
  ·rename_i e;subst e;rw[htok];rfl
  ·exact h
 have hidnew:=hr.new id (by rw[htok];rfl);have far:∀b,b∈G'.loc id->∀i r,i≠id->getH s.hp i=some r->b∉G.loc i:=fun b hb i r hi h hbj=>by
  rcases hnew b hb with h1|h1|h1
  ·exact apart i r hi h b hbj h1
  ·have:=bound i r h b hbj;omega
  ·exact h1.2 i hi (by rw[h];rfl) hbj
 refine⟨hr.size,hr.defers,fun i v h=>hm (hr.slots i v h),fun i r h=>?_,fun i j h1 h2 h3 b hb=>?_,fun i h b hb=>?_,
  hr.frm.trans (own1:=G.loc id) ⟨hos,htp,hou,hsz,hoth,hF⟩ hidnew,htop,fun i l hl=>?_⟩
 ·rw[zah] at h;by_cases hi:i=id
  ·subst hi;rw[if_pos rfl] at h;cases h
   exact hid
  ·rw[if_neg hi] at h;have hh:=hr.heap i r h;have ho:∀b,b∈G.loc i->w'.heap[b]?=w.heap[b]?/\G'.F b=G.F b:=fun b hb=>hoth b (bound i r h b hb) (apart i r hi h b hb);cases r with
   |box cs=>
    obtain⟨b,vs,e,h1,h2,h3,h4,h5⟩:=hh;obtain⟨o1,o2⟩:=ho b (by simp[h1]);exact⟨b,vs,e,(hloc i hi).trans h1,o1.trans h2,h3,o2.trans h4,fun j hj hv=>hm (h5 j hj hv)⟩
   |tok m k'=>exact fun b h1=>Nat.lt_of_lt_of_le (hh b (by rw[hloc i hi] at h1;exact h1)) (by omega)
   |map ks=>
    obtain⟨b,es,cl,h1,h2,h3,h4⟩:=hh;obtain⟨o1,o2⟩:=ho b (by simp[h1]);exact⟨b,es,cl,(hloc i hi).trans h1,o1.trans h2,o2.trans h3,h4⟩
   |tree cs=>exact za1 hh (hloc i hi) ho (by omega) (fun _ _ _=>hm)
 ·have s1:=hsome i h1;have s2:=hsome j h2;obtain⟨r1,hr1⟩:=Option.isSome_iff_exists.1 s1;obtain⟨r2,hr2⟩:=Option.isSome_iff_exists.1 s2;by_cases hi:i=id
  ·subst hi;rw[hloc j (Ne.symm h3)];exact far b hb j r2 (Ne.symm h3) hr2
  ·rw[hloc i hi] at hb;by_cases hj:j=id
   ·subst hj;exact fun hbj=>far b hbj i r1 hi hr1 hb
   ·rw[hloc j hj];exact hr.disj i j s1 s2 h3 b hb
 ·have s1:=hsome i h;by_cases hi:i=id
  ·subst hi;rcases hnew b hb with h' | h' | h'
   ·exact hidnew b h'
   ·right;have:=hr.frm.size;omega
   ·exact h'.1
  ·rw[hloc i hi] at hb;exact hr.new i s1 b hb
 ·have hk:=hr.kept i l hl;have hi:i≠id:=fun e=>by subst e;rw[hT] at hk;simp at hk
  refine⟨(congrArg List.head? (hloc i hi)).trans hk.1, ?_,(hT2 i hi).trans hk.2.2⟩;show(getH ((id,some (.tok n' k))::s.hp) i).isSome
  rw[zah,if_neg hi];exact hk.2.1
inductive RowT (hp:Hp):List AV->List D->List (Nat×Nat×Nat)->Prop
 |nil:RowT hp [] [] []
 |sc {x cs ds js} (hs:ziC x=true) (h:RowT hp cs ds js):RowT hp (.d x::cs) (x::ds) js
 |ni {cs ds js} (h:RowT hp cs ds js):RowT hp (.nils::cs) (.sl []::ds) js
 |gt {j zs n k cs ds js} (hj:getH hp j=some (.tok n k)) (hn:n=zs.length) (h:RowT hp cs ds js):RowT hp (.gt j zs::cs) (.sl zs::ds) ((j,n,k)::js)
theorem RowT.toks {hp:Hp}{cs:List AV}{ds:List D}{js:List (Nat×Nat×Nat)} (h:RowT hp cs ds js):∀q,q∈js->getH hp q.1=some (.tok q.2.1 q.2.2):=by
 induction h with
 |nil=>intro q hq;simp at hq
 |sc _ _ ih=>exact ih
 |ni _ ih=>exact ih
 |gt hj _ _ ih=>
  intro q hq;rcases List.mem_cons.1 hq with rfl|hq
  ·exact hj
  ·exact ih q hq
theorem RowT.move {hp hp':Hp}{cs:List AV}{ds:List D}{js:List (Nat×Nat×Nat)} (h:RowT hp cs ds js):(∀q,q∈js->getH hp' q.1=some (.tok q.2.1 q.2.2))->RowT hp' cs ds js:=by
 induction h with
 |nil=>intro _;exact .nil
 |sc hs _ ih=>intro h;exact .sc hs (ih h)
 |ni _ ih=>intro h;exact .ni (ih h)
 |gt hj hn _ ih=>intro h;exact .gt (h (_,_,_) List.mem_cons_self) hn (ih fun q hq=>h q (List.mem_cons_of_mem _ hq))
theorem RowT.len {hp:Hp}{cs:List AV}{ds:List D}{js:List (Nat×Nat×Nat)} (h:RowT hp cs ds js):ds.length=cs.length:=by
 induction h with
 |nil=>rfl
 |sc _ _ ih=>simp[ih]
 |ni _ ih=>simp[ih]
 |gt _ _ _ ih=>simp[ih]
theorem RowT.trees {G:Gh}{hp:Hp}{w:World}{cs:List AV}{ds:List D}{js:List (Nat×Nat×Nat)} (h:RowT hp cs ds js):∀ {vs:List Value},vs.length=cs.length->
  (∀i (hi:i<cs.length) (hv:i<vs.length),RelA G (tokf hp) w cs[i] vs[i])->
  ∃Sl:List (List Nat),Sl.length=cs.length/\(∀i (hi:i<ds.length) (hv:i<vs.length) (hs:i<Sl.length),TreeD true w ds[i] vs[i] Sl[i])/\Sl.flatten=js.flatMap (fun q=>G.loc q.1)/\
   (∀u,u∈vs->u.oneCell'=true)/\∀q,q∈js->(G.loc q.1).Nodup/\∀b,b∈G.loc q.1->G.F b=0:=by
 induction h with
 |nil=>
  intro vs hl _;have:vs=[]:=List.eq_nil_of_length_eq_zero hl;subst this;exact⟨[],rfl,fun i hi=>by simp at hi,rfl,by simp,by simp⟩
 | @sc x cs ds js hs h ih=>
  intro vs hl hrel;match vs,hl with
  |v::vs,hl=>
   obtain⟨Sl,h1,h2,h3,h4,h5⟩:=ih (vs:=vs) (by simpa using hl) (fun i hi hv=>hrel (i+1) (by simpa using hi) (by simpa using hv));have h0:=(hrel 0 (by simp) (by simp)).d_inv;simp only[List.getElem_cons_zero] at h0;obtain⟨f1,f2⟩:=zhb hs;refine⟨[]::Sl,by simp[h1],fun i hi hv hs'=>?_,by simpa using h3,fun u hu=>?_,h5⟩
   ·cases i with
    |zero=>exact TreeD.ofFlat f1 (.inr f2) h0
    |succ i=>exact h2 i (by simpa using hi) (by simpa using hv) (by simpa using hs')
   ·rcases List.mem_cons.1 hu with rfl|hu
    ·exact h0.one
    ·exact h4 u hu
 | @ni cs ds js h ih=>
  intro vs hl hrel;match vs,hl with
  |v::vs,hl=>
   obtain⟨Sl,h1,h2,h3,h4,h5⟩:=ih (vs:=vs) (by simpa using hl) (fun i hi hv=>hrel (i+1) (by simpa using hi) (by simpa using hv));have h0:=hrel 0 (by simp) (by simp);simp only[List.getElem_cons_zero] at h0;have hv:v = .slice none 0 0:=by cases h0;rfl
   subst hv;refine⟨[]::Sl,by simp[h1],fun i hi hv hs'=>?_,by simpa using h3,fun u hu=>?_,h5⟩
   ·cases i with
    |zero=>exact .nil
    |succ i=>exact h2 i (by simpa using hi) (by simpa using hv) (by simpa using hs')
   ·rcases List.mem_cons.1 hu with rfl|hu
    ·rfl
    ·exact h4 u hu
 | @gt j zs n k cs ds js hj hn h ih=>
  intro vs hl hrel;match vs,hl with
  |v::vs,hl=>
   obtain⟨Sl,h1,h2,h3,h4,h5⟩:=ih (vs:=vs) (by simpa using hl) (fun i hi hv=>hrel (i+1) (by simpa using hi) (by simpa using hv));have h0:=hrel 0 (by simp) (by simp);simp only[List.getElem_cons_zero] at h0;obtain⟨⟨ad,cap0,hv0⟩,hcl⟩:=h0.gt_inv;obtain⟨hkx,htip⟩:=(hcl n k (zan.2 hj)).2 hn;have key:TreeD true w (.sl zs) v (G.loc j)/\(G.loc j).Nodup/\∀b,b∈G.loc j->G.F b=0:=by
    rcases htip with ⟨e1,e2,e3⟩|⟨b,cap,us,e,Ss,e1,e2,e3,e4,e5,e6,e7,e8⟩
    ·have hz:zs=[]:=List.eq_nil_of_length_eq_zero (by omega);subst hz;rw[e1,e3];exact⟨.nil,by simp,by simp⟩
    ·refine⟨?_,e6,e7⟩;subst hn;rw[e1,e2];exact TreeD.sl (m:=true) zs k b cap us e Ss hkx e5 e3 e4 e8.1 (fun _ hz=>e8.2 (by rw[hz];rfl))
   refine⟨G.loc j::Sl,by simp[h1],fun i hi hv hs'=>?_,by simp[h3],fun u hu=>?_,fun q hq=>?_⟩
   ·cases i with
    |zero=>exact key.1
    |succ i=>exact h2 i (by simpa using hi) (by simpa using hv) (by simpa using hs')
   ·rcases List.mem_cons.1 hu with rfl|hu
    ·rw[hv0];rfl
    ·exact h4 u hu
   ·rcases List.mem_cons.1 hq with rfl|hq
    ·exact key.2
    ·exact h5 q hq
def ndB:List Nat->Bool
 | []=>true
 |x::r=> !zaP x r&&ndB r
theorem zlp:∀ {l:List Nat},ndB l=true->l.Nodup
 | [],_=> .nil
 |x::r,h=>by
  simp only[ndB,xad,Bool.not_eq_true'] at h;refine List.nodup_cons.2 ⟨fun hm=>?_,zlp h.2⟩;rw[zaG.2 hm] at h;cases h.1
theorem zka {loc:Nat->List Nat}:∀ {l:List Nat},l.Nodup->(∀j,j∈l->(loc j).Nodup)->(∀i j,i∈l->j∈l->i≠j->∀b,b∈loc i->b∉loc j)->(l.flatMap loc).Nodup
 | [],_,_,_=>by simp
 |x::r,h,h1,h2=>by
  have hn:=List.nodup_cons.1 h;simp only[List.flatMap_cons,List.nodup_append,List.mem_flatMap];refine⟨h1 x (by simp),zka hn.2 (fun j hj=>h1 j (by simp[hj])) (fun i j hi hj=>h2 i j (by simp[hi]) (by simp[hj])),fun b hb b' hb' e=>?_⟩;obtain⟨j,hj,hbj⟩:=hb';subst e;exact h2 x j (by simp) (by simp[hj]) (fun e=>by subst e;exact hn.1 hj) b hb hbj
theorem zdL {α:Type}{f:Nat->List α} (n m:Nat):(List.range (n+m)).flatMap f=(List.range n).flatMap f++(List.range m).flatMap (fun i=>f (n+i)):=by
 rw[List.range_add,List.flatMap_append];congr 1
 simp[List.flatMap_map]
theorem zgi {α:Type}:∀(l:List (List α)),(List.range l.length).flatMap (fun i=>l.getD i [])=l.flatten
 | []=>rfl
 |x::r=>by
  rw[xab,show r.length+1=1+r.length by omega,zdL];simp only[List.flatten_cons,<-zgi r];congr 1
  ·simp[List.range_succ]
  ·congr 1;funext i;rw[show 1+i=i+1 by omega];rfl
theorem zeA {α:Type}{f g:Nat->List α} (n:Nat) (h:∀i,i<n->f i=g i):(List.range n).flatMap f=(List.range n).flatMap g:=by
 induction n with
 |zero=>rfl
 |succ n ih=>rw[zdL,zdL,ih (fun i hi=>h i (by omega))];simp[h n (by omega)]
theorem zl6 {t:TypeId}{G:Gh}{s:St}{a:Act}{w:World}{hp1:Hp} (hr:R c G ⟨s.env,hp1⟩ a w){id m k e yb cap2:Nat}{xs ys:List (List D)}{v:Value}{a0:Addr}{news:List Value}{Sl:List (List Nat)} (ht:SlT c.P t e k yb){z:Value} (hz:∃i,c.P.info? e=some i/\i.zero=some z/\z.cells.size=k)
  (htok1:getH hp1 id=some (.tok xs.length k)) (hkx:∀x,x∈xs->x.length=k) (htip:TipT G w id xs.length k v xs) (hky:∀y,y∈ys->y.length=k) (hym:ys.length=m) (hmpos:0<m)
  (hnl:news.length=m*k) (hnews:∀j u,news[j]?=some u->w.cell? (a0.add j)=some u) (hone:∀u,u∈news->u.oneCell'=true) (hSl:Sl.length=m*k)
  (htr:∀i (hi:i<ys.length) j (hj:j<ys[i].length) (hv:i*k+j<news.length),TreeD true w ys[i][j] news[i*k+j] (Sl.getD (i*k+j) []))
  (newNodup:Sl.flatten.Nodup) (newF:∀b,b∈Sl.flatten->G.F b=0) (newLt:∀b,b∈Sl.flatten->b<w.heap.size) (newOwn:∀b,b∈Sl.flatten->b∈c.own\/c.w0.heap.size<=b)
  (newApart1:∀b,b∈Sl.flatten->∀i,i≠id->(getH hp1 i).isSome->b∉G.loc i) (newNe:∀x,x∈Sl.flatten->x∉G.loc id)
  (hb:(xs.length+m)*yb<=140737488355328) (hm:xs.length+m<=9223372036854775807) (opt:TypeId):
  ∃v' w' G',(Builtin.append_ #[t,t] opt #[v,.slice (some a0) m cap2]).run c.P w = .ok v' w'/\
   R c G' ⟨s.env,(id,some (.tok (xs.length+m) k))::hp1⟩ a w'/\
   RelA G' (tokf ((id,some (.tok (xs.length+m) k))::hp1)) w' (.gt id (xs++ys)) v':=by
 obtain⟨i,hi1,hi2,hi3⟩:=ht.inf;obtain⟨i',z1,z2,z3⟩:=hz;rw[hi1] at z1;cases z1
 have hT':tokf ((id,some (.tok (xs.length+m) k))::hp1) id=some (xs.length+m,k):=zan.2 (by rw[zah,if_pos rfl]);have hlt:∀b o,o<G.F b->b<w.heap.size:=fun b o ho=>by
  rcases Nat.lt_or_ge b w.heap.size with h|h
  ·exact h
  ·rw[hr.top b h] at ho;omega
 have hkx':∀x,x∈xs++ys->x.length=k:=fun x hx=>by
  rcases List.mem_append.1 hx with h|h
  ·exact hkx x h
  ·exact hky x h
 have hmul1:(xs.length+m)*k=xs.length*k+m*k:=by rw[Nat.add_mul]
 have hlen':(xs++ys).length=xs.length+m:=by rw[xaa,hym]
 let Sn:(Nat->List Nat)->Nat->List Nat:=fun Ss q=>if q<xs.length*k then Ss q else Sl.getD (q-xs.length*k) []
 have hSn:∀Ss,(List.range ((xs.length+m)*k)).flatMap (Sn Ss)=(List.range (xs.length*k)).flatMap Ss++Sl.flatten:=fun Ss=>by
  rw[hmul1,zdL];congr 1
  ·exact zeA _ (fun i hi=>by simp[Sn,hi])
  ·rw[<-zgi Sl,hSl];refine zeA _ (fun i hi=>?_);simp only[Sn];rw[if_neg (by omega),show xs.length*k+i-xs.length*k=i by omega]

 have trees:∀(Ss:Nat->List Nat) (olds:List Value) (tail:List Value) (w':World),olds.length=xs.length*k->(∀b,b∈(List.range (xs.length*k)).flatMap Ss++Sl.flatten->w'.heap[b]?=w.heap[b]?)->
   (∀i (hi:i<xs.length) j (hj:j<xs[i].length),TreeD true w xs[i][j] (olds.getD (i*k+j) undef) (Ss (i*k+j)))->
   ∀i (hi:i<(xs++ys).length) j (hj:j<(xs++ys)[i].length),TreeD true w' (xs++ys)[i][j] ((olds++news++tail).toArray.getD (i*k+j) undef) (Sn Ss (i*k+j)):=by
  intro Ss olds tail w' hol hw hold i hi j hj;by_cases hix:i<xs.length
  ·have e0:(xs++ys)[i]=xs[i]:=List.getElem_append_left hix;have hj':j<xs[i].length:=by rw[<-e0];exact hj
   have h1:xs[i].length=k:=hkx _ (List.getElem_mem hix);have hlt':i*k+j<xs.length*k:=zdz hix (by omega);have e1:(olds++news++tail).toArray.getD (i*k+j) undef=olds.getD (i*k+j) undef:=by
    simp[List.getD,List.append_assoc,List.getElem?_append_left (show i*k+j<olds.length by omega)]
   have e2:Sn Ss (i*k+j)=Ss (i*k+j):=by simp[Sn,hlt']
   rw[e1,e2];have e3:(xs++ys)[i][j]=xs[i][j]:=by congr 1
   rw[e3];refine(hold i hix j hj').mono (fun b hb=>hw b ?_);exact List.mem_append_left _ (List.mem_flatMap.2 ⟨i*k+j,List.mem_range.2 hlt',hb⟩)
  ·have hiy:i-xs.length<ys.length:=by omega
   have e0:(xs++ys)[i]=ys[i-xs.length]:=List.getElem_append_right (by omega);have hj':j<ys[i-xs.length].length:=by rw[<-e0];exact hj
   have e3:(xs++ys)[i][j]=ys[i-xs.length][j]:=by congr 1
   have hjk:j<k:=by rw[<-hky _ (List.getElem_mem hiy)];exact hj'
   have hq:(i-xs.length)*k+j<m*k:=zdz (by omega) hjk;have hpos:i*k+j=xs.length*k+((i-xs.length)*k+j):=by
    rw[show i*k=xs.length*k+(i-xs.length)*k by rw[<-Nat.add_mul];congr 1;omega];omega
   have hjn:(i-xs.length)*k+j<news.length:=by omega
   have e1:(olds++news++tail).toArray.getD (i*k+j) undef=news[(i-xs.length)*k+j]:=by
    rw[hpos,<-hol];simp[List.getD,List.append_assoc,List.getElem?_append_right,List.getElem?_append_left hjn,hjn]
   have hjs:(i-xs.length)*k+j<Sl.length:=by omega
   have e2:Sn Ss (i*k+j)=Sl.getD ((i-xs.length)*k+j) []:=by
    simp only[Sn];rw[hpos,if_neg (by omega),show xs.length*k+((i-xs.length)*k+j)-xs.length*k=(i-xs.length)*k+j by omega]
   rw[e1,e2,e3];refine(htr _ hiy j hj' hjn).mono (fun b hb=>hw b ?_);have e4:Sl.getD ((i-xs.length)*k+j) []=Sl[(i-xs.length)*k+j]:=by simp[List.getD,hjs]
   rw[e4] at hb;exact List.mem_append_right _ (List.mem_flatten.2 ⟨_,List.getElem_mem hjs,hb⟩)
 have hidlt:∀b,b∈G.loc id->b<w.heap.size:=(hr.heap id _ htok1).bound

 have fresh:∀(Ss:Nat->List Nat) (olds:List Value) (nc:Nat),olds.length=xs.length*k->xs.length+m<=nc->
   ((List.range (xs.length*k)).flatMap Ss).Nodup->(∀b,b∈(List.range (xs.length*k)).flatMap Ss->b∈G.loc id/\G.F b=0)->
   (∀i (hi:i<xs.length) j (hj:j<xs[i].length),TreeD true w xs[i][j] (olds.getD (i*k+j) undef) (Ss (i*k+j)))->
   ∃G',R c G' ⟨s.env,(id,some (.tok (xs.length+m) k))::hp1⟩ a (w.drew.alloc (.cells (olds.toArray++news.toArray++Builtin.zeroCells z.cells (nc-(xs.length+m))) e))/\
    RelA G' (tokf ((id,some (.tok (xs.length+m) k))::hp1)) (w.drew.alloc (.cells (olds.toArray++news.toArray++Builtin.zeroCells z.cells (nc-(xs.length+m))) e))
     (.gt id (xs++ys)) (.slice (some ⟨w.heap.size,0,none⟩) (xs.length+m) nc):=by
  intro Ss olds nc hol hnc' hndS hSin hold;let cs':Array Value:=olds.toArray++news.toArray++Builtin.zeroCells z.cells (nc-(xs.length+m))
  let G':Gh:={ F:=G.F,loc:=fun j=>bif Nat.beq j id then w.heap.size::(List.range ((xs.length+m)*k)).flatMap (Sn Ss) else G.loc j }
  have hcs:cs'.size=nc*k:=by
   simp only[cs',Array.size_append,List.size_toArray,size_zeroCells,z3,hol,hnl];rw[<-hmul1,<-Nat.add_mul];congr 1;omega
  have hcell:∀b o,o<G.F b->o<G'.F b/\(w.drew.alloc (.cells cs' e)).cell? ⟨b,o,none⟩=w.cell? ⟨b,o,none⟩:=fun b o ho=>by
   have hb:=hlt b o ho;exact⟨ho,by rw[World.cell?_alloc_lt w.drew _ _ hb];rfl⟩
  have hlocne:∀j,j≠id->G'.loc j=G.loc j:=fun j hj=>by simp[G',zdl hj]
  have hlocid:G'.loc id=w.heap.size::(List.range ((xs.length+m)*k)).flatMap (Sn Ss):=by simp[G']
  have hlocid':G'.loc id=w.heap.size::((List.range (xs.length*k)).flatMap Ss++Sl.flatten):=by rw[hlocid,hSn]
  have hmem:∀b,b∈(List.range (xs.length*k)).flatMap Ss++Sl.flatten->b<w.heap.size:=fun b hb=>by
   rcases List.mem_append.1 hb with h|h
   ·exact hidlt b (hSin b h).1
   ·exact newLt b h
  refine⟨G',hr.retokG (G':=G') htok1 (by omega) hcell hlocne (fun b hb _=>⟨zc8 (w:=w.drew) hb,rfl⟩) (fun b hb=>?_) (fun b hb=>?_) rfl rfl rfl (by simp) (fun b hb=>?_), ?_⟩
  ·rw[hlocid'] at hb;have hsz1:(w.drew.alloc (.cells cs' e)).heap.size=w.heap.size+1:=by simp
   show b<(w.drew.alloc (.cells cs' e)).heap.size
   rw[hsz1];rcases List.mem_cons.1 hb with rfl|hb
   ·exact Nat.lt_succ_self _
   ·exact Nat.lt_succ_of_lt (hmem b hb)
  ·rw[hlocid'] at hb;rcases List.mem_cons.1 hb with rfl|hb
   ·exact .inr (.inl (Nat.le_refl _))
   ·rcases List.mem_append.1 hb with h|h
    ·exact .inl (hSin b h).1
    ·exact .inr (.inr ⟨newOwn b h,newApart1 b h⟩)
  ·have hb':w.heap.size+1<=b:=by simpa using hb
   exact hr.top b (by omega)
  refine .gt ⟨_,_,by rw[hlen']⟩ (fun n' k' hm'=>?_);rw[hT'] at hm';cases hm'
  have hnodup:(G'.loc id).Nodup:=by
   rw[hlocid'];refine List.nodup_cons.2 ⟨fun h=>absurd (hmem _ h) (Nat.lt_irrefl _),List.nodup_append.2 ⟨hndS,newNodup,fun b hb b' hb' e=>?_⟩⟩;subst e;exact newNe b hb' (hSin b hb).1
  refine⟨by rw[hlen'];exact Nat.le_refl _,fun _=>⟨hkx',.inr ⟨w.heap.size,nc,cs',e,Sn Ss,hlocid,rfl,zdZ (w:=w.drew),by rw[hcs];exact Nat.le_refl _,hnc',hnodup,fun b hb=>?_, ?_,fun h=>by omega⟩⟩⟩
  ·rw[hlocid'] at hb;rcases List.mem_cons.1 hb with rfl|hb
   ·exact hr.top _ (Nat.le_refl _)
   ·rcases List.mem_append.1 hb with h|h
    ·exact(hSin b h).2
    ·exact newF b h
  ·have:=trees Ss olds (Builtin.zeroCells z.cells (nc-(xs.length+m))).toList (w.drew.alloc (.cells cs' e)) hol (fun b hb=>zc8 (w:=w.drew) (hmem b hb)) hold;have ec:cs'=(olds++news++(Builtin.zeroCells z.cells (nc-(xs.length+m))).toList).toArray:=by
    apply Array.ext';simp[cs']
   intro i hi j hj;rw[ec];exact this i hi j hj
 rcases htip with ⟨h1,h2,h3⟩|⟨b,cap,cs,et,Ss,h1,h2,h3,h4,h5,h6,h7,h8,_⟩
 ·
  have hx0:xs=[]:=List.eq_nil_of_length_eq_zero h2;subst hx0;subst h3;have hm':m<=9223372036854775807:=by simpa using hm
  have hb':m*yb<=140737488355328:=by simpa using hb
  have hrun:=run_append_nil (P:=c.P) w t opt e i z ht.und hi1 z2 a0 m cap2 news (by rw[hi2,hnl]) hnews hmpos (by omega) (by rw[hi3];omega);obtain⟨G',hR,hA⟩:=fresh (fun _=>[]) [] (grownCap w m 0 e) (by simp) (by
   have:=grownCap_ge w m 0 e;simpa using this) (by simp) (fun b hb=>by simp at hb) (fun i hi=>by simp at hi)
  simp only[List.nil_append,xai,Nat.zero_add,Array.empty_append] at hR hA hrun ⊢;exact⟨_,_,G',hrun,hR,hA⟩
 ·subst h2;have hmul:xs.length*k<=cs.size:=Nat.le_trans (Nat.mul_le_mul_right _ h5) h4;have hold:∀i (hi:i<xs.length) j (hj:j<xs[i].length),TreeD true w xs[i][j] ((cs.toList.take (xs.length*k)).getD (i*k+j) undef) (Ss (i*k+j)):=fun i hi j hj=>by
   have h9:xs[i].length=k:=hkx _ (List.getElem_mem hi);have hlt':i*k+j<xs.length*k:=zdz hi (by omega);have e1:(cs.toList.take (xs.length*k)).getD (i*k+j) undef=cs.getD (i*k+j) undef:=by
    have hs:i*k+j<cs.size:=by omega
    simp[List.getD,List.getElem?_take,hlt',Array.getD,hs]
   rw[e1];exact h8 i hi j hj
  have hbl:b∈G.loc id:=by rw[h1];simp
  have hbs:b<w.heap.size:=hidlt b hbl;have h1n:(b::(List.range (xs.length*k)).flatMap Ss).Nodup:=by rw[<-h1];exact h6
  have hin:∀x,x∈(List.range (xs.length*k)).flatMap Ss->x∈G.loc id/\G.F x=0:=fun x hx=>by
   have:x∈G.loc id:=by rw[h1];exact List.mem_cons_of_mem _ hx
   exact⟨this,h7 x this⟩
  by_cases hroom:xs.length+m<=cap
  ·
   have hfit:xs.length*i.size+news.length<=cs.size:=by
    rw[hi2,hnl,<-hmul1];exact Nat.le_trans (Nat.mul_le_mul_right _ hroom) h4
   have hrun:=zd5 (P:=c.P) t opt e i ht.und hi1 b xs.length cap cs et h3 a0 m cap2 news (by rw[hi2,hnl]) hnews hone hroom hfit;rw[hi2] at hrun hfit;let rw':Array Value:=(cs.toList.take (xs.length*k)++news++cs.toList.drop (xs.length*k+news.length)).toArray
   have hrs:rw'.size=cs.size:=by
    simp only[rw',List.size_toArray,xaa,List.length_take,List.length_drop,Array.length_toList];omega
   let G':Gh:={ F:=G.F,loc:=fun j=>bif Nat.beq j id then b::(List.range ((xs.length+m)*k)).flatMap (Sn Ss) else G.loc j }
   have hlocne:∀j,j≠id->G'.loc j=G.loc j:=fun j hj=>by simp[G',zdl hj]
   have hlocid:G'.loc id=b::(List.range ((xs.length+m)*k)).flatMap (Sn Ss):=by simp[G']
   have hlocid':G'.loc id=b::((List.range (xs.length*k)).flatMap Ss++Sl.flatten):=by rw[hlocid,hSn]
   have hFb:G.F b=0:=h7 b hbl;have hcell:∀b' o,o<G.F b'->o<G'.F b'/\(w.setRow b rw').cell? ⟨b',o,none⟩=w.cell? ⟨b',o,none⟩:=fun b' o ho=>by
    have hbb:b'≠b:=fun e=>by subst e;omega
    exact⟨ho,cell_setRow_other w b rw' _ hbb⟩
   have hmem:∀x,x∈(List.range (xs.length*k)).flatMap Ss++Sl.flatten->x<w.heap.size/\x≠b:=fun x hx=>by
    rcases List.mem_append.1 hx with h|h
    ·exact⟨hidlt x (hin x h).1,fun e=>by subst e;exact(List.nodup_cons.1 h1n).1 h⟩
    ·exact⟨newLt x h,fun e=>by subst e;exact newNe x h hbl⟩
   refine⟨_,_,G',hrun,hr.retokG (G':=G') htok1 (by omega) hcell hlocne (fun b' hb' hn=>?_) (fun x hx=>?_) (fun x hx=>?_) rfl rfl rfl (by simp) (fun b' hb'=>?_), ?_⟩
   ·have hne:b'≠b:=fun e=>hn (by rw[e];exact hbl);exact⟨setRow_other w b b' rw' hne,rfl⟩
   ·rw[hlocid'] at hx;have:(w.setRow b rw').heap.size=w.heap.size:=by simp
    rw[this];rcases List.mem_cons.1 hx with rfl|hx
    ·exact hbs
    ·exact(hmem x hx).1
   ·rw[hlocid'] at hx;rcases List.mem_cons.1 hx with rfl|hx
    ·exact .inl hbl
    ·rcases List.mem_append.1 hx with h|h
     ·exact .inl (hin x h).1
     ·exact .inr (.inr ⟨newOwn x h,newApart1 x h⟩)
   ·have hb2':w.heap.size<=b':=by simpa using hb'
    exact hr.top b' hb2'
   ·refine .gt ⟨_,_,by rw[hlen']⟩ (fun n' k' hm'=>?_);rw[hT'] at hm';cases hm'
    have hnodup:(G'.loc id).Nodup:=by
     rw[hlocid'];refine List.nodup_cons.2 ⟨fun h=>absurd rfl (hmem _ h).2,List.nodup_append.2 ⟨(List.nodup_cons.1 h1n).2,newNodup,fun x hx x' hx' e=>?_⟩⟩;subst e;exact newNe x hx' (hin x hx).1
    refine⟨by rw[hlen'];exact Nat.le_refl _,fun _=>⟨hkx',.inr ⟨b,cap,rw',et,Sn Ss,hlocid,rfl,setRow_heap w b cs rw' et _ h3,by rw[hrs];exact h4,hroom,hnodup,fun x hx=>?_, ?_,fun h=>by omega⟩⟩⟩
    ·rw[hlocid'] at hx;rcases List.mem_cons.1 hx with rfl|hx
     ·exact hFb
     ·rcases List.mem_append.1 hx with h|h
      ·exact(hin x h).2
      ·exact newF x h
    ·exact trees Ss (cs.toList.take (xs.length*k)) _ (w.setRow b rw') (by simp;omega) (fun x hx=>setRow_other w b x rw' (hmem x hx).2) hold
  ·
   have hrun:=run_append_grow (P:=c.P) w t opt e i z ht.und hi1 z2 ⟨b,0,none⟩ xs.length cap (cs.toList.take (xs.length*k)) (by rw[hi2];simp;omega)
    (fun j u hj=>by
     rw[zcM];obtain⟨hj1,hj2⟩:=List.getElem?_eq_some_iff.1 hj;simp only[List.getElem_take] at hj2;have hjs:j<cs.size:=by simp at hj1;omega
     simp only[World.cell?,h3,Option.isSome_none,Bool.false_eq_true,if_false,Nat.zero_add];rw[Array.getElem?_eq_getElem hjs,<-hj2];simp) a0 m cap2 news (by rw[hi2,hnl]) hnews (by omega) (by omega) (by rw[hi3];exact growslice_fits (by omega) hb)
   obtain⟨G',hR,hA⟩:=fresh Ss (cs.toList.take (xs.length*k)) (grownCap w (xs.length+m) cap e) (by simp;omega) (by have:=grownCap_ge w (xs.length+m) cap e;omega) (List.nodup_cons.1 h1n).2 hin hold;exact⟨_,_,G',hrun,hR,hA⟩
theorem zl7 {t:TypeId}{G:Gh}{s:St}{a:Act}{w:World} (hr:R c G s a w){id b0 m k e yb:Nat}{xs:List (List D)}{cells:List AV}{row:List D}{js:List (Nat×Nat×Nat)}{v u:Value} (ht:SlT c.P t e k yb){z:Value} (hz:∃i,c.P.info? e=some i/\i.zero=some z/\z.cells.size=k)
  (hkb:∀l,c.kept b0≠some l) (htok:getH s.hp id=some (.tok xs.length k)) (hbox:getH s.hp b0=some (.box cells)) (hrow:RowT s.hp cells row js) (hck:cells.length=k) (hnd:ndB (id::js.map (·.1))=true)
  (hv:RelA G (tokf s.hp) w (.gt id xs) v) (hu:RelA G (tokf s.hp) w (.ms b0 m) u) (hm1:m=1)
  (hb:(xs.length+1)*yb<=140737488355328) (hm:xs.length+1<=9223372036854775807) (opt:TypeId):
  ∃v' w' G',(Builtin.append_ #[t,t] opt #[v,u]).run c.P w = .ok v' w'/\
   R c G' ⟨s.env,(id,some (.tok (xs.length+1) k))::((b0::js.map (·.1)).map (fun j=>(j,none))++s.hp)⟩ a w'/\
   RelA G' (tokf ((id,some (.tok (xs.length+1) k))::((b0::js.map (·.1)).map (fun j=>(j,none))++s.hp))) w' (.gt id (xs++[row])) v':=by
 subst hm1;obtain⟨⟨base,cap0,hv0⟩,hcl⟩:=hv.gt_inv;have hT:tokf s.hp id=some (xs.length,k):=zan.2 htok;obtain⟨hkx,htip⟩:=(hcl _ _ hT).2 rfl

 obtain⟨bb,us,eb,hl0,hat0,hlen0,hF0,hcell0⟩:=hr.heap b0 _ hbox;have hu':∃cap2,u = .slice (some ⟨bb,0,none⟩) 1 cap2/\1<=cap2:=by
  cases hu with
  | @ms _ _ b cap h hT hcap=>
   have:b=bb:=zc0 h hl0;subst this;exact⟨cap,rfl,hcap⟩
 obtain⟨cap2,rfl,hcap2⟩:=hu';let news:List Value:=us.toList.take k
 have hks:k<=us.size:=by omega
 have hnl:news.length=k:=by simp[news];omega
 have hnews:∀j u,news[j]?=some u->w.cell? ((⟨bb,0,none⟩:Addr).add j)=some u:=fun j u hj=>by
  obtain⟨hj1,hj2⟩:=List.getElem?_eq_some_iff.1 hj;simp only[news,List.getElem_take] at hj2;have hjs:j<us.size:=by omega
  rw[zcM];simp only[World.cell?,hat0,Option.isSome_none,Bool.false_eq_true,if_false,Nat.zero_add];rw[Array.getElem?_eq_getElem hjs,<-hj2];simp
 have hrel:∀i (hi:i<cells.length) (hv:i<news.length),RelA G (tokf s.hp) w cells[i] news[i]:=fun i hi hv=>by
  have:=hcell0 i hi (by omega);have e1:news[i]=us[i]'(by omega):=by simp[news]
  rw[e1];exact this
 obtain⟨Sl,hSl,htr,hfl,hone,hjn⟩:=hrow.trees (by rw[hnl,hck]) hrel;have hrl:row.length=k:=by rw[hrow.len,hck]
 have hnd':=zlp hnd;have hnd2:=List.nodup_cons.1 hnd';have htoks:=hrow.toks;have tokJ:∀j,j∈js.map (·.1)->∃n q,getH s.hp j=some (.tok n q):=fun j hj=>by
  obtain⟨q,hq,rfl⟩:=List.mem_map.1 hj;exact⟨_,_,htoks q hq⟩
 have hflm:js.flatMap (fun q=>G.loc q.1)=(js.map (·.1)).flatMap G.loc:=by rw[List.flatMap_map]
 rw[hflm] at hfl;have newIn:∀b,b∈Sl.flatten->∃j,j∈js.map (·.1)/\b∈G.loc j:=fun b hb=>by rw[hfl] at hb;exact List.mem_flatMap.1 hb
 have hdr:=hr.drop (b0::js.map (·.1)) (fun i l hk hm=>by
  rcases List.mem_cons.1 hm with rfl|hm
  ·exact hkb l hk
  ·obtain⟨n,q,h⟩:=tokJ i hm;have:=(hr.kept i l hk).2.2;rw[zan.2 h] at this;cases this)
 have hidb:id∉b0::js.map (·.1):=fun hm=>by
  rcases List.mem_cons.1 hm with rfl|hm
  ·rw[htok] at hbox;cases hbox
  ·exact hnd2.1 hm
 have hg1:∀i,getH ((b0::js.map (·.1)).map (fun j=>(j,(none:Option Res)))++s.hp) i=if i∈b0::js.map (·.1) then none else getH s.hp i:=fun i=>zli _ _ _
 exact zl6 (s:=s) hdr (m:=1) (ys:=[row]) (Sl:=Sl) (news:=news) ht hz (by rw[hg1,if_neg hidb];exact htok) hkx htip (fun y hy=>by simp only[List.mem_singleton] at hy;rw[hy];exact hrl) rfl (by omega)
  (by omega) hnews hone (by rw[hSl,hck];omega)
  (fun i hi j hj hvn=>by
   have:i=0:=by simpa using hi
   subst this;simp only[Nat.zero_mul,Nat.zero_add] at hvn ⊢;have hj':j<row.length:=hj;have hjs:j<Sl.length:=by omega
   have e4:Sl.getD j []=Sl[j]:=by simp[List.getD,hjs]
   rw[e4];exact htr j hj' hvn hjs)
  (by
   rw[hfl];refine zka hnd2.2 (fun j hj=>?_) (fun i j hi hj hne=>?_)
   ·obtain⟨q,hq,rfl⟩:=List.mem_map.1 hj;exact(hjn q hq).1
   ·obtain⟨n1,q1,h1⟩:=tokJ i hi;obtain⟨n2,q2,h2⟩:=tokJ j hj;exact hr.disj i j (by rw[h1];rfl) (by rw[h2];rfl) hne)
  (fun b hb=>by
   obtain⟨j,hj,hbj⟩:=newIn b hb;obtain⟨q,hq,rfl⟩:=List.mem_map.1 hj;exact(hjn q hq).2 b hbj)
  (fun b hb=>by
   obtain⟨j,hj,hbj⟩:=newIn b hb;obtain⟨n1,q1,h1⟩:=tokJ j hj;exact(hr.heap j _ h1).bound b hbj)
  (fun b hb=>by
   obtain⟨j,hj,hbj⟩:=newIn b hb;obtain⟨n1,q1,h1⟩:=tokJ j hj;exact hr.new j (by rw[h1];rfl) b hbj)
  (fun b hb i _ hs=>by
   rw[hg1] at hs;split at hs
   ·cases hs
   ·rename_i hni;intro hbi;obtain⟨j,hj,hbj⟩:=newIn b hb;obtain⟨n1,q1,h1⟩:=tokJ j hj;exact hr.disj j i (by rw[h1];rfl) hs (fun e=>by subst e;exact hni (List.mem_cons_of_mem _ hj)) b hbj hbi)
  (fun b hb hbi=>by
   obtain⟨j,hj,hbj⟩:=newIn b hb;obtain⟨n1,q1,h1⟩:=tokJ j hj;exact hr.disj j id (by rw[h1];rfl) (by rw[htok];rfl) (fun e=>by subst e;exact hnd2.1 hj) b hbj hbi) hb hm opt
theorem R.mkTokT {G:Gh}{s:St}{a:Act}{w:World} (hr:R c G s a w){id:Nat} (k:Nat) (h0:getH s.hp id=none) (hocc:zcx id s):
  ∃G',R c G' { s with hp:=(id,some (.tok 0 k))::s.hp } a w/\RelA G' (tokf ((id,some (.tok 0 k))::s.hp)) w (.gt id []) (.slice none 0 0):=by
 have h1:=hr.rename h0 hocc [];have hl:(fun i=>bif Nat.beq i id then ([]:List Nat) else G.loc i) id=[]:=by simp
 refine⟨_,h1.name h0 hocc (fun b hb=>by simp at hb) (fun i _ b _ hb=>by simp at hb) (fun b hb=>by simp at hb), ?_⟩;refine .gt ⟨none,0,rfl⟩ (fun n k' hT=>?_);have:=zan.1 hT;rw[zah,if_pos rfl] at this;cases this
 exact⟨Nat.le_refl _,fun _=>⟨by simp,.inl ⟨hl,rfl,rfl⟩⟩⟩
end
section
variable {c:Ctx}{all:Array Oper}{chk:List Rec->Prop}{os:List Oper}{recs:List Rec}{env:Env}{hp:Hp}{Q:St->Prop}
variable {d ty:Nat}{pos:String}{af:Array Edge}{g:Option (Nat×Bool)}{pg:List (Nat×AV)}
variable {t yt:TypeId}{x y:Operand}
theorem xaz {ids:List Nat}{id b0 m k e yb:Nat}{xs:List (List D)}{cells:List AV}{row:List D}{js:List (Nat×Nat×Nat)} (hkp:KeptIn c.kept ids) (hkb:zaP b0 ids=false) (ht:SlT c.P t e k yb) (hz:ZeroT c.P e k) (hg:GH all env g pg) (hd:Nat.blt d c.n=true)
  (hx:opd env x=some (.gt id xs)) (hy:opd env y=some (.ms b0 m)) (hm1:m=1) (htok:getH hp id=some (.tok xs.length k)) (hbox:getH hp b0=some (.box cells)) (hrow:RowT hp cells row js) (hck:cells.length=k) (hnd:ndB (id::js.map (·.1))=true)
  (hb:(xs.length+1)*yb<=140737488355328) (hm:xs.length+1<=9223372036854775807)
  (hn:Walk c all chk os (zal (pg++(opF x (.gt id xs)++opF y (.ms b0 m))) ((id,.tok xs.length k)::(b0,.box cells)::js.map (fun q=>(q.1,.tok q.2.1 q.2.2))) [] ⟨some (d,.gt id (xs++[row])),(id,some (.tok (xs.length+1) k))::(b0::js.map (·.1)).map (fun j=>(j,none))⟩::recs)
   ⟨(d,.gt id (xs++[row]))::env,(id,some (.tok (xs.length+1) k))::((b0::js.map (·.1)).map (fun j=>(j,none))++hp)⟩ Q):
  Walk c all chk (⟨some d,.call ⟨.builtin .append,#[x,y],#[t,t]⟩,ty,pos,af,g⟩::os) recs ⟨env,hp⟩ Q:=by
 refine⟨pg++(opF x (.gt id xs)++opF y (.ms b0 m)),(id,.tok xs.length k)::(b0,.box cells)::js.map (fun q=>(q.1,.tok q.2.1 q.2.2)),[],_, ?_,zax hg.facts (zax (zaX hx) (zaX hy)),fun p hm=>?_,by simp,hn⟩
 ·intro s a w hrel hp' hh _ K Q' hK;obtain⟨G,hr⟩:=hrel;have e1:=hr.opd (zaY hx (fun p hm=>hp' p (by simp[hm])));have e2:=hr.opd (zaY hy (fun p hm=>hp' p (by simp[hm])));obtain⟨i,z,z1,z2,z3⟩:=hz.out;obtain⟨v',w',G',hrun,hR,hA⟩:=zl7 hr ht ⟨i,z1,z2,z3⟩ (fun l hl=>by have:=zaG.2 (hkp.mem _ l hl);rw[this] at hkb;cases hkb) (hh (id,_) (by simp)) (hh (b0,_) (by simp))
   (hrow.move (fun q hq=>hh (q.1,.tok q.2.1 q.2.2) (by simp only[List.mem_cons,List.mem_map];exact .inr (.inr ⟨q,hq,rfl⟩)))) hck hnd e1 e2 hm1 hb hm ty
  unfold wpO;rw[if_pos (hg.gf.wanted hr (fun p hm=>hp' p (by simp[hm])))];unfold Oper.wp;have:(execOp a.eval ⟨some d,.call ⟨.builtin .append,#[x,y],#[t,t]⟩,ty,pos,af,g⟩).run c.P w = .ok (.value v') w':=by
   simp only[execOp,resolve,invoke,builtin,Sem.run_bind,Sem.run_pure,Result.andThen_ok,List.map_toArray,xae,List.map_nil,hrun]
  rw[this,Oper.upon_value];exact hK _ _ ⟨G',hR.put hA hd⟩
 ·rcases List.mem_cons.1 hm with rfl|hm
  ·exact htok
  rcases List.mem_cons.1 hm with rfl|hm
  ·exact hbox
  ·obtain⟨q,hq,rfl⟩:=List.mem_map.1 hm;exact hrow.toks q hq
end
section
variable {c:Ctx}{env:Env}{hp:Hp}{K:Kt}{code:Code}{ids:List Nat}
theorem zpY {G:Gh}{w:World}{id n k:Nat}{xs:List (List D)}{v:Value} (hn:n=xs.length) (hk:∀x,x∈xs->x.length=k) (h:TipT G w id n k v xs):
  TreeD true w (.sl xs) v (G.loc id)/\(G.loc id).Nodup/\∀b,b∈G.loc id->G.F b=0:=by
 rcases h with ⟨e1,e2,e3⟩|⟨b,cap,us,e,Ss,e1,e2,e3,e4,e5,e6,e7,e8⟩
 ·have hz:xs=[]:=List.eq_nil_of_length_eq_zero (by omega);subst hz;rw[e1,e3];exact⟨.nil,by simp,by simp⟩
 ·refine⟨?_,e6,e7⟩;subst hn;rw[e1,e2];exact TreeD.sl (m:=true) xs k b cap us e Ss hk e5 e3 e4 e8.1 (fun _ hz=>e8.2 (by rw[hz];rfl))
theorem CWp.tokBT (b off id k:Nat){cs cs':List AV} (hb:getH hp b=some (.box cs)) (h:cs[off]?=some .nils) (hput:putC cs off [.gt id []]=some cs') (hf:zaf env hp [id]=true)
  (hn:CWp c code ⟨env,(b,some (.box cs'))::(id,some (.tok 0 k))::hp⟩ K):CWp c code ⟨env,hp⟩ K:=by
 intro a w hrel;obtain⟨G,hr⟩:=hrel;obtain⟨h0,hocc⟩:=zbe hf id (by simp);obtain⟨G',h1,h2⟩:=hr.mkTokT k h0 hocc;have hne:b≠id:=fun e=>by subst e;have h0':getH hp b=none:=h0;rw[h0'] at hb;cases hb
 have hb':getH ((id,some (Res.tok 0 k))::hp) b=some (.box cs):=by rw[zah,if_neg hne];exact hb
 obtain⟨bl,vs,e,e1,e2,e3,e4,e5⟩:=h1.heap b _ hb';obtain⟨hlt,hv⟩:=List.getElem?_eq_some_iff.1 h;have hlv:off<vs.size:=by omega
 have hval:vs[off] = .slice none 0 0:=by
  have:=e5 off hlt hlv;rw[hv] at this;generalize vs[off]=v at *;cases this;rfl
 have hall:PreR G' (tokf ((id,some (.tok 0 k))::hp)) w cs' vs:=by
  obtain⟨p1,p2,p3⟩:=zbF hput;refine⟨by omega,fun i hi hvi=>?_⟩;have:=p3 i;rw[List.getElem?_eq_getElem hi] at this;by_cases hio:i=off
  ·subst hio;rw[if_pos (by simp)] at this;simp only[Nat.sub_self,List.getElem?_cons_zero,Option.some.injEq] at this;rw[this,hval];exact h2
  ·rw[if_neg (by simp only[xab,xai];omega)] at this;have hic:i<cs.length:=by omega
   rw[List.getElem?_eq_getElem hic] at this;rw[Option.some.inj this];exact e5 i hic hvi
 have:=h1.setBox (vs':=vs) hb' e1 e2 e4 hall;have hw:w.setRow bl vs=w:=setRow_self w bl vs e _ e2;rw[hw] at this;exact hn a w ⟨G',this⟩
theorem CWp.mergeT (id off id' k:Nat){n:Nat}{xs:List (List D)}{cs cs':List AV} (hb:getH hp id=some (.tree cs)) (hc:cs[off]?=some (.gt id' xs)) (hb':getH hp id'=some (.tok n k)) (hnl:n=xs.length)
  (hput:putC cs off [.own true (.sl xs)]=some cs')
  (hn:CWp c code ⟨env,(id',none)::(id,some (.tree cs'))::hp⟩ K):CWp c code ⟨env,hp⟩ K:=by
 rintro a w ⟨G,hr⟩
 have hne:id≠id':=fun e=>by subst e;rw[hb] at hb';cases hb'
 obtain⟨b,vs,e,Ss,hT⟩:=hr.heap id _ hb;obtain⟨hoff,hcv⟩:=List.getElem?_eq_some_iff.1 hc;have hov:off<vs.size:=by have:=hT.len;omega
 have hcell:=hT.cell off hoff hov;rw[hcv] at hcell;obtain⟨hS0,hgt⟩:=hcell;obtain⟨_,hcl⟩:=hgt.gt_inv;obtain⟨hkx,htip⟩:=(hcl _ _ (zan.2 hb')).2 hnl;obtain⟨hTr,hnd1,hF1⟩:=zpY hnl hkx htip;have hbd1:=(hr.heap id' _ hb').bound;obtain⟨p1,p2,p3⟩:=zbF hput;let Ss':Nat->List Nat:=fun i=>if i=off then G.loc id' else Ss i
 let G':Gh:={ G with loc:=fun i=>bif Nat.beq i id then b::(List.range cs'.length).flatMap Ss' else G.loc i }
 have l1:G'.loc id=b::(List.range cs'.length).flatMap Ss':=by simp[G']
 have l3:∀i,i≠id->G'.loc i=G.loc i:=fun i h2=>by simp[G',zdl h2]
 have hnd:=hT.nodup;rw[hT.loc] at hnd;have hnd':=List.nodup_cons.1 hnd;have s1:(getH hp id).isSome:=by rw[hb];rfl
 have s2:(getH hp id').isSome:=by rw[hb'];rfl
 have hapart:∀x,x∈G.loc id->x∉G.loc id':=hr.disj id id' s1 s2 hne;have hmem:∀x,x∈G'.loc id->x∈G.loc id\/x∈G.loc id':=fun x hx=>by
  rw[l1] at hx;rcases List.mem_cons.1 hx with h|h
  ·left;rw[hT.loc,h];simp
  ·obtain⟨j,hj,hxj⟩:=List.mem_flatMap.1 h;simp only[Ss'] at hxj;split at hxj
   ·exact .inr hxj
   ·left
    rw[hT.loc];rw[p1] at hj;exact List.mem_cons_of_mem _ (List.mem_flatMap.2 ⟨j,hj,hxj⟩)
 have g1:getH ((id',none)::(id,some (Res.tree cs'))::hp) id'=none:=by rw[zah,if_pos rfl]
 have g2:getH ((id',none)::(id,some (Res.tree cs'))::hp) id=some (.tree cs'):=by rw[zah,if_neg hne,zah,if_pos rfl]
 have t1:tokf ((id',none)::(id,some (Res.tree cs'))::hp) id'=none:=by unfold tokf;rw[g1]
 have t2:tokf ((id',none)::(id,some (Res.tree cs'))::hp) id=none:=by unfold tokf;rw[g2]
 have hturn:Turn c G ⟨env,hp⟩ w G' ((id',none)::(id,some (.tree cs'))::hp) [id,id']:=by
  refine⟨fun i hi=>?_,fun i hi=>?_,fun _ _=>rfl,fun _ _ h=>h,hr.top,fun i hi=>?_,fun i hi hs x hx=>?_,fun i hi j hj hij h1 h2 x hx=>?_,fun i hi l hl=>?_⟩
  ·simp only[List.mem_cons,List.not_mem_nil,or_false,not_or] at hi;rw[zah,if_neg hi.2,zah,if_neg hi.1]
  ·simp only[List.mem_cons,List.not_mem_nil,or_false,not_or] at hi;exact l3 i hi.1
  ·simp only[List.mem_cons,List.not_mem_nil,or_false] at hi;right
   rcases hi with rfl|rfl
   ·exact⟨.inr ⟨t2,by rw[l1,hT.loc];rfl⟩,fun p hp=>by rw[t2] at hp;cases hp⟩
   ·exact⟨.inl (l3 i (Ne.symm hne)),fun p hp=>by rw[t1] at hp;cases hp⟩
  ·simp only[List.mem_cons,List.not_mem_nil,or_false] at hi;rcases hi with rfl|rfl
   ·rcases hmem x hx with h|h
    ·exact⟨i,by simp,s1,h⟩
    ·exact⟨id',by simp,s2,h⟩
   ·rw[g1] at hs;cases hs
  ·simp only[List.mem_cons,List.not_mem_nil,or_false] at hi hj;rcases hi with rfl|rfl
   ·rcases hj with rfl|rfl
    ·exact absurd rfl hij
    ·rw[g1] at h2;cases h2
   ·rw[g1] at h1;cases h1
  ·simp only[List.mem_cons,List.not_mem_nil,or_false] at hi;have hk0:=hr.kept i l hl;rcases hi with rfl|rfl
   ·refine⟨?_,by rw[g2];rfl,t2⟩;rw[l1,<-hk0.1,hT.loc];rfl
   ·have:=hk0.2.2;rw[show(⟨env,hp⟩:St).hp=hp from rfl,zan.2 hb'] at this;cases this
 refine hn a w ⟨G',hturn.fin hr (fun i hi r hri=>?_)⟩;simp only[List.mem_cons,List.not_mem_nil,or_false] at hi;rcases hi with rfl|rfl
 ·rw[g2] at hri;cases hri
  refine⟨b,vs,e,Ss',l1,hT.at_,by rw[p1];exact hT.len, ?_,fun x hx=>?_,fun j hj hjv=>?_⟩
  ·rw[l1,List.nodup_cons];constructor
   ·intro h;obtain⟨j,hj,hxj⟩:=List.mem_flatMap.1 h;rw[p1] at hj;simp only[Ss'] at hxj;split at hxj
    ·exact hapart b (by rw[hT.loc];simp) hxj
    ·exact hnd'.1 (List.mem_flatMap.2 ⟨j,hj,hxj⟩)
   ·rw[p1];refine zdR List.nodup_range hnd'.2 hnd1 (fun x hx j hj _ hxj=>?_);exact hapart x (by rw[hT.loc];exact List.mem_cons_of_mem _ (List.mem_flatMap.2 ⟨j,hj,hxj⟩)) hx
  ·rcases hmem x hx with h|h
   ·exact hT.mine x h
   ·exact⟨hF1 x h,hbd1 x h⟩
  ·have h3:=p3 j;rw[List.getElem?_eq_getElem hj] at h3;by_cases hjo:j=off
   ·subst hjo;rw[if_pos (by simp)] at h3;simp only[Nat.sub_self,List.getElem?_cons_zero,Option.some.injEq] at h3;rw[h3];have h5:Ss' j=G.loc id':=by simp[Ss']
    rw[h5];exact hTr
   ·rw[if_neg (by simp only[xab,xai];omega)] at h3;have hjc:j<cs.length:=by omega
    rw[List.getElem?_eq_getElem hjc] at h3;rw[Option.some.inj h3];have h4:=hT.cell j hjc hjv;have h5:Ss' j=Ss j:=by simp[Ss',hjo]
    rw[h5];exact h4.map (hturn.cell hr hb (List.getElem_mem hjc)) (fun _ _=>rfl)
 ·rw[g1] at hri;cases hri
end
section
variable {c:Ctx}{all:Array Oper}{chk:List Rec->Prop}{os:List Oper}{recs:List Rec}{env:Env}{hp:Hp}{Q:St->Prop}
variable {d ty:Nat}{pos:String}{af:Array Edge}{g:Option (Nat×Bool)}{pg:List (Nat×AV)}
variable {t yt:TypeId}{x y:Operand}
theorem xa3 {parts:Array (Nat×Operand)}{n:Nat}{ks:List Nat}{xs:List Operand}{vs zs r:List AV}{e k yb id:Nat} (ht:SlT c.P t e k yb) (hz:TyZ c.P e k zs) (hzk:zs.length=k) (hk:0<k)
  (hparts:parts=(ks.zip xs).toArray) (hlen:ks.length=xs.length) (hsmall:n*k<=16777216) (hpos:0<n) (hg:GH all env g pg) (hd:Nat.blt d c.n=true) (hx:opdL env xs=some vs)
  (hf:zeg (fun i=>some (i*k,k)) (zaJ n zs) (ks.zip vs)=some r) (hid:zaP id (AV.idsL r)=false) (h0:getH hp id=none) (ho1:occE id env=false) (ho2:occH id hp=false)
  (hn:Walk c all chk os (zal (pg++opFL xs vs) [] [id] ⟨some (d,.ms id n),[(id,some (.box r))]⟩::recs) ⟨(d,.ms id n)::env,(id,some (.box r))::hp⟩ Q):
  Walk c all chk (⟨some d,.buildSlice t n parts,ty,pos,af,g⟩::os) recs ⟨env,hp⟩ Q:=by
 subst hparts;refine xaT hg hd hx h0 ho1 ho2 hid (fun a G T w h=>?_) hn;obtain⟨ie,hi1,hi2,hi3⟩:=ht.inf;obtain⟨i',z,z1,z2,z3,z4⟩:=hz.inf;rw[hi1] at z1;cases z1
 have hz0:=zb0 (G:=G) (T:=T) (w:=w) z4;have hzr:=zfd (by simpa using hz0) n (by omega);obtain⟨lv,hlv,hal⟩:=zdC (ks.zip vs) (ks.zip (xs.map a.eval)) _ r _ hf hzr (by simp[h.1]) (zkD h hlen);have hpos':¬n*ie.size=0:=by rw[hi2];exact Nat.ne_of_gt (Nat.mul_pos hpos hk)
 have hrun:=run_buildSlice (P:=c.P) w t e n ((ks.zip xs).toArray.map fun(i,x)=>(i,a.eval x)) lv ie z ht.und hi1 z3 (by rw[hi2];omega) hpos' (by
  rw[hi2,<-hlv];congr 1
  ·rw[hzk]
  ·simp[List.zip_map_right,Prod.map])
 refine⟨_,lv,e, ?_,hal,fun G' T' w' hl hT=> .ms (by rw[hl];rfl) hT (Nat.le_refl _)⟩;simp only[execOp,Sem.run_bind,hrun,Result.andThen_ok,Sem.run_pure]
end
end Go.Proofs.YtlfipehhbdjnjaaGreat
namespace Go.Proofs.YtlfipehhbdjnjaaGreat
open Go
set_option linter.unusedSimpArgs false
set_option linter.unusedVariables false
set_option maxRecDepth 100000
set_option maxHeartbeats 2000000
theorem zd1:∀(n:Nat) (s:Bool){v:Val},v.size<=n->v.ok->FnD Tryz.prog 150 [.agg [.d (.i v.ctor),.d (.i v.num),.d (zaq v.kids)]] []
  (.agg [.d (.i v.ctor),.d (.i v.num),.gt (bif s then 61 else 63) (v.kids.map Val.cc)]) [(bif s then 61 else 63,some (.tok (v.kids.map Val.cc).length 3))]
 |0,_,v,h,_=>by rw[Val.size_eq] at h;omega
 |n+1,true,v,h,hok=>by
  rw[Val.size_eq] at h;rw[Val.ok_iff] at hok;have hok1:=hok.1;have hc:∀y∈v.kids,FnD Tryz.prog 150 [.agg [.d (.i y.ctor),.d (.i y.num),.d (zaq y.kids)]] []
    (.agg [.d (.i y.ctor),.d (.i y.num),.gt 63 (y.kids.map Val.cc)]) [(63,some (.tok (y.kids.map Val.cc).length 3))]:=fun y hy=>zd1 n false (v:=y) (by have:=Vals.size_mem hy;omega) (Vals.ok_mem hok.2 y hy)
  show FnD Tryz.prog 150 _ _ (.agg [.d (.i v.ctor),.d (.i v.num),.gt 61 (v.kids.map Val.cc)]) [(61,some (.tok (v.kids.map Val.cc).length 3))]
  refine bd Tryz.f150 27 [] [] fun w0 F0 own kept hk=>?_;refine bx 3001 ?_;refine ab 3002 tz49 ?_;refine tv ?_;refine bu [0,1] [_,_] st49 ?_;refine ab 3003 tz49 ?_;refine so ty49 ?_;refine tv ?_;refine CWp.tokBT 3003 2 61 3 rfl rfl rfl rfl ?_;refine xam (ι:=List (Val)×List (Val)) hk (fun x=>[(14,.d (.i (x.1.length:Int)))]) [5,15,16,17,18,19,20,21,22,23,24,25] (fun x=>[(3003,some (.box [.d (.i v.ctor),.d (.i v.num),.gt 61 (x.1.map Val.cc)])),(61,some (.tok (x.1.map Val.cc).length 3))]) (fun x=>x.1++x.2=v.kids) (fun x=>x.2.length) ([],v.kids) (by simp) ⟨⟨_,rfl,xau ?_⟩,trivial⟩ ⟨?_,⟨zas ?_,trivial⟩⟩ (fun x=>rfl) (fun x hg1=>?_);focus (first|rfl|(simp;done)|(simp;omega))
  focus (first|rfl|(simp[getH,Val.cs_cc];done))
  focus (first|rfl|(simp;done)|(simp;omega))
  obtain⟨pre,rest⟩:=x;dsimp only at hg1 ⊢;refine evc [] [] ?_;refine sq ?_ ?_<;>intro h1 h1p h1s<;>(try simp only[Q,Val.cs_len] at h1p);rcases rest with _|⟨y,rest⟩
  ·exfalso;simp_all
  refine xaK sl47 .none rfl rfl rfl rfl (Val.cs_at hg1) rfl ?_;refine ev ?_;refine ab 3005 tz49 ?_;refine so ty49 ?_;refine tv ?_;refine Walk.call (cr:=[63]) zhD (hc y (by rw[<-hg1];simp)) rfl .none rfl rfl (LeL.refl _) trivial rfl (by first|rfl|(simp only[zam,List.all_cons,List.all_nil,zaz,zat,AV.idsL,AV.ids,zab,zaa,xae,List.map_nil];rfl)) (by first|rfl|(simp only[zaf,occH,occE,Res.ids,xag,List.nil_append,AV.idsL,AV.ids,zab,zaa,zad,zaj,xae,List.map_nil,upC];rfl)) ?_;refine xa3 (id:=3022) sl47 tz49 rfl (by decide) (ks:=[0]) (xs:=[_]) rfl rfl (by decide) (by decide) .none rfl rfl rfl rfl rfl rfl rfl ?_;refine xaz hk rfl sl47 zz49 .none rfl rfl rfl rfl (zjR rfl (by first|rfl|(simp;done)|(simp;omega))) rfl (.sc rfl (.sc rfl (.gt rfl (by first|rfl|(simp;done)) .nil))) rfl rfl (by have:=congrArg List.length hg1;simp at this;simp;omega) (by have:=congrArg List.length hg1;simp at this;simp;omega) ?_;refine evd [] [] ?_;refine so ty47 ?_;refine dr ?_;refine ar ?_;refine xah ((pre++[y],rest)) ⟨(by have hz:=hg1;rw[<-hz];simp),(by simp),sx ⟨⟨_,rfl,xau ?_⟩,trivial⟩ ⟨?_,⟨zas ?_,trivial⟩⟩⟩;focus (first|rfl|(simp;done)|(simp;omega))
  focus (first|rfl|(simp[getH,Val.cs_cc];done))
  focus (first|rfl|(simp;done)|(simp;omega))
  have hrest:rest=[]:=by
   rcases rest with _|⟨a,b⟩
   ·rfl
   ·exfalso;have hz:=congrArg List.length (hg1);simp only[xaa,xab,xac] at hz;omega
  subst hrest;refine so ty49 ?_;refine tv ?_;refine rn [(61,some (.tok (v.kids.map Val.cc).length 3))] (.cons (.cellA ty49 rfl rfl rfl) .nil) (.agg (.cons (.eqd ?_) (.cons (.eqd ?_) (.cons (.gtg ?_) .nil)))) ⟨rfl,rfl⟩ (SubH.get ⟨?_,trivial⟩) (zaE rfl);rotate_left 4;all_goals (first|((first|rfl|(rw[List.append_nil] at hg1;subst hg1;rfl));done)|(rw[List.append_nil] at hg1;subst hg1;rfl))
 |n+1,false,v,h,hok=>by
  rw[Val.size_eq] at h;rw[Val.ok_iff] at hok;have hok1:=hok.1;have hc:∀y∈v.kids,FnD Tryz.prog 150 [.agg [.d (.i y.ctor),.d (.i y.num),.d (zaq y.kids)]] []
    (.agg [.d (.i y.ctor),.d (.i y.num),.gt 61 (y.kids.map Val.cc)]) [(61,some (.tok (y.kids.map Val.cc).length 3))]:=fun y hy=>zd1 n true (v:=y) (by have:=Vals.size_mem hy;omega) (Vals.ok_mem hok.2 y hy)
  show FnD Tryz.prog 150 _ _ (.agg [.d (.i v.ctor),.d (.i v.num),.gt 63 (v.kids.map Val.cc)]) [(63,some (.tok (v.kids.map Val.cc).length 3))]
  refine bd Tryz.f150 27 [] [] fun w0 F0 own kept hk=>?_;refine bx 3001 ?_;refine ab 3002 tz49 ?_;refine tv ?_;refine bu [0,1] [_,_] st49 ?_;refine ab 3003 tz49 ?_;refine so ty49 ?_;refine tv ?_;refine CWp.tokBT 3003 2 63 3 rfl rfl rfl rfl ?_;refine xam (ι:=List (Val)×List (Val)) hk (fun x=>[(14,.d (.i (x.1.length:Int)))]) [5,15,16,17,18,19,20,21,22,23,24,25] (fun x=>[(3003,some (.box [.d (.i v.ctor),.d (.i v.num),.gt 63 (x.1.map Val.cc)])),(63,some (.tok (x.1.map Val.cc).length 3))]) (fun x=>x.1++x.2=v.kids) (fun x=>x.2.length) ([],v.kids) (by simp) ⟨⟨_,rfl,xau ?_⟩,trivial⟩ ⟨?_,⟨zas ?_,trivial⟩⟩ (fun x=>rfl) (fun x hg1=>?_);focus (first|rfl|(simp;done)|(simp;omega))
  focus (first|rfl|(simp[getH,Val.cs_cc];done))
  focus (first|rfl|(simp;done)|(simp;omega))
  obtain⟨pre,rest⟩:=x;dsimp only at hg1 ⊢;refine evc [] [] ?_;refine sq ?_ ?_<;>intro h1 h1p h1s<;>(try simp only[Q,Val.cs_len] at h1p);rcases rest with _|⟨y,rest⟩
  ·exfalso;simp_all
  refine xaK sl47 .none rfl rfl rfl rfl (Val.cs_at hg1) rfl ?_;refine ev ?_;refine ab 3005 tz49 ?_;refine so ty49 ?_;refine tv ?_;refine Walk.call (cr:=[61]) zhD (hc y (by rw[<-hg1];simp)) rfl .none rfl rfl (LeL.refl _) trivial rfl (by first|rfl|(simp only[zam,List.all_cons,List.all_nil,zaz,zat,AV.idsL,AV.ids,zab,zaa,xae,List.map_nil];rfl)) (by first|rfl|(simp only[zaf,occH,occE,Res.ids,xag,List.nil_append,AV.idsL,AV.ids,zab,zaa,zad,zaj,xae,List.map_nil,upC];rfl)) ?_;refine xa3 (id:=3022) sl47 tz49 rfl (by decide) (ks:=[0]) (xs:=[_]) rfl rfl (by decide) (by decide) .none rfl rfl rfl rfl rfl rfl rfl ?_;refine xaz hk rfl sl47 zz49 .none rfl rfl rfl rfl (zjR rfl (by first|rfl|(simp;done)|(simp;omega))) rfl (.sc rfl (.sc rfl (.gt rfl (by first|rfl|(simp;done)) .nil))) rfl rfl (by have:=congrArg List.length hg1;simp at this;simp;omega) (by have:=congrArg List.length hg1;simp at this;simp;omega) ?_;refine evd [] [] ?_;refine so ty47 ?_;refine dr ?_;refine ar ?_;refine xah ((pre++[y],rest)) ⟨(by have hz:=hg1;rw[<-hz];simp),(by simp),sx ⟨⟨_,rfl,xau ?_⟩,trivial⟩ ⟨?_,⟨zas ?_,trivial⟩⟩⟩;focus (first|rfl|(simp;done)|(simp;omega))
  focus (first|rfl|(simp[getH,Val.cs_cc];done))
  focus (first|rfl|(simp;done)|(simp;omega))
  have hrest:rest=[]:=by
   rcases rest with _|⟨a,b⟩
   ·rfl
   ·exfalso;have hz:=congrArg List.length (hg1);simp only[xaa,xab,xac] at hz;omega
  subst hrest;refine so ty49 ?_;refine tv ?_;refine rn [(63,some (.tok (v.kids.map Val.cc).length 3))] (.cons (.cellA ty49 rfl rfl rfl) .nil) (.agg (.cons (.eqd ?_) (.cons (.eqd ?_) (.cons (.gtg ?_) .nil)))) ⟨rfl,rfl⟩ (SubH.get ⟨?_,trivial⟩) (zaE rfl);rotate_left 4;all_goals (first|((first|rfl|(rw[List.append_nil] at hg1;subst hg1;rfl));done)|(rw[List.append_nil] at hg1;subst hg1;rfl))
def bdU (L:List Bd):List AV:=(bdC L).map (upC false)
def upV (l:List Val):AV:=upC false (.d (zaq l))
theorem zoW {b:Bd}{r:List Bd}:bdU (b::r) = .d (.i b.var):: .d (.i b.val.ctor):: .d (.i b.val.num)::upV b.val.kids::bdU r:=rfl
theorem zca (l:List Val):(upV l).ids=[]:=by cases l<;>rfl
theorem zcm (L:List Bd):AV.idsL (bdU L)=[]:=by
 induction L with
 |nil=>rfl
 |cons b r ih=>rw[zoW];simp only[AV.idsL,AV.ids,zca,ih,List.append_nil]
theorem zq6 (l:List Val):seeC (upV l) = .d (zaq l):=by cases l<;>rfl
theorem zpQ {A R:List AV}{b:Bd}{o:Nat} (ha:A.length=o):(cutC (A++(.d (.i b.var):: .d (.i b.val.ctor):: .d (.i b.val.num)::upV b.val.kids::R)) o 4).map (·.map seeC)=some (bdA b):=by
 rw[zoj ha zpV];show some [_,_,_,seeC (upV b.val.kids)]=_
 rw[zq6];rfl
theorem zp0 {α:Type}{x0 x1 x2 x3 a b c:α}{t:List α}:putC (x0::x1::x2::x3::t) 1 [a,b,c]=some (x0::a::b::c::t):=by cases t<;>rfl
theorem zjf {w:List Data}{m:Nat}{t:Ty}{p:Pat}{v:Val}{S:List Bd} (h:MatchOk w 10 m t p v) (hp:isP w t p=true) (hm:(zak 10 p v).2=true) (hS:zci (zak 10 p v).1=S) (hne:S≠[]):
  FnD Tryz.prog 72 [.agg [.d (.i p.op),.d (.i p.ctor),.d (.i p.n),.d (.i p.m),.d (.i p.var),.d (zaw p.kids)],.agg [.d (.i v.ctor),.d (.i v.num),.d (zaq v.kids)]] []
   (.tup [.ms 9 (S.map Bd.c).length,.d (.bool true)]) [(9,some (.tree (zac true (S.map Bd.c))))]:=by
 have hf:=zdX 10 m h hm;have h6:=ze7 h hp hm;have hbo:=zjy (zb2 10 h.shape h.vok).1;have hsl:=zec (zak 10 p v).1;have hLm:∀L:List Bd,(L.map Bd.c).length=L.length:=fun L=>by simp
 have hLm:=hLm (zak 10 p v).1;have hso:zb9 ((zak 10 p v).1.length-1) 1 (zak 10 p v).1=zci (zak 10 p v).1:=rfl;generalize (zak 10 p v).1=L at *;rw[hS] at hso hbo hsl;have hln:L≠[]:=fun e=>hne (List.eq_nil_of_length_eq_zero (by rw[hsl,e];rfl));have hrow:∀ {i:Nat},i<L.length->(nth S i).val.ok:=fun hi=>(hbo _ (zap (by omega))).1;have hdr:∀i,i<L.length->bdU (S.drop i) = .d (.i (nth S i).var):: .d (.i (nth S i).val.ctor):: .d (.i (nth S i).val.num)::upV (nth S i).val.kids::bdU (S.drop (i+1)):=fun i hi=>by rw[zaS (by omega)];rfl
 have htk:∀i,i<L.length->zac true ((S.take (i+1)).map Bd.c)=zac true ((S.take i).map Bd.c)++[.d (.i (nth S i).var),.d (.i (nth S i).val.ctor),.d (.i (nth S i).val.num),.own true (zaq (nth S i).val.kids)]:=fun i hi=>by
  rw[List.take_add_one,show S[i]?=some (nth S i) from by simpa using zau (f:=id) (l:=S) (i:=i) (by omega)];exact zev
 have hal:∀i,i<=L.length->(zac true ((S.take i).map Bd.c)).length=i*4:=fun i hi=>by rw[zbf,List.length_take,Nat.min_eq_left (by omega)]
 refine bd Tryz.f72 36 [26] [4,5,7,9] fun w0 F0 own kept hk=>?_;refine Walk.box (id:=3002) .none rfl rfl rfl (by first|rfl|(simp only[zaf,occH,occE,Res.ids,xag,List.nil_append,AV.idsL,AV.ids,zab,zaa,zad,zaj,xae,List.map_nil,upC,idsD,zbk,zcm,zca];rfl)) (by first|rfl|(simp only[zaf,occH,occE,Res.ids,xag,List.nil_append,AV.idsL,AV.ids,zab,zaa,zad,zaj,xae,List.map_nil,upC,idsD,zbk,zcm,zca];rfl)) (by first|rfl|(simp only[zaf,occH,occE,Res.ids,xag,List.nil_append,AV.idsL,AV.ids,zab,zaa,zad,zaj,xae,List.map_nil,upC,idsD,zbk,zcm,zca];rfl)) (by first|rfl|(simp only[zaf,occH,occE,Res.ids,xag,List.nil_append,AV.idsL,AV.ids,zab,zaa,zad,zaj,xae,List.map_nil,upC,idsD,zbk,zcm,zca];rfl)) ?_;refine Walk.box (id:=3003) .none rfl rfl rfl (by first|rfl|(simp only[zaf,occH,occE,Res.ids,xag,List.nil_append,AV.idsL,AV.ids,zab,zaa,zad,zaj,xae,List.map_nil,upC,idsD,zbk,zcm,zca];rfl)) (by first|rfl|(simp only[zaf,occH,occE,Res.ids,xag,List.nil_append,AV.idsL,AV.ids,zab,zaa,zad,zaj,xae,List.map_nil,upC,idsD,zbk,zcm,zca];rfl)) (by first|rfl|(simp only[zaf,occH,occE,Res.ids,xag,List.nil_append,AV.idsL,AV.ids,zab,zaa,zad,zaj,xae,List.map_nil,upC,idsD,zbk,zcm,zca];rfl)) (by first|rfl|(simp only[zaf,occH,occE,Res.ids,xag,List.nil_append,AV.idsL,AV.ids,zab,zaa,zad,zaj,xae,List.map_nil,upC,idsD,zbk,zcm,zca];rfl)) ?_;refine evs [26] [] ?_;refine Walk.call (cr:=[9]) zc3 (hf) rfl .none rfl rfl (LeL.refl _) trivial rfl rfl rfl ?_;refine evs [26] [] ?_;refine sq ?_ ?_<;>intro h1 h1p h1s<;>(try simp only[Q,xac] at h1p);exfalso;simp_all;refine CWp.fixV hk 6 9 4 rfl rfl rfl (fun hx=>absurd hx (by simpa using hln)) (fun hx=>?_);refine evc [26] [] ?_;refine Walk.call (cr:=[]) zmd (zfa (L:=L) (by omega) znR (fun a b=>zfh)) rfl .none rfl rfl (.cons (xav (by first|rfl|(simp[xac];done))) (.cons (.refl _) .nil)) ⟨rfl,trivial⟩ rfl zgg rfl ?_;refine tv ?_;refine CWp.boxTree 9 false rfl rfl (cs':=bdU S) (by rw[hso];rfl) ?_;refine evc [26] [] ?_;refine xam (ι:=Nat) hk (fun i=>[(22,.d (.i (i:Int)))]) [8,9,23,24,25,26,27,28,29,30,31,32,33,34] (fun i=>[(9,some (.tree (zac true ((S.take i).map Bd.c)++bdU (S.drop i))))]) (fun i=>i<=L.length) (fun i=>L.length-i) 0 (by omega) ⟨⟨_,rfl,xau ?_⟩,trivial⟩ ⟨?_,trivial⟩ (fun x=>rfl) (fun i hg1=>?_);focus (first|rfl|(simp;done)|(simp_all;done)|omega)
 focus (first|rfl|(show some (Res.tree _)=some (Res.tree _);rw[htk i (by omega),List.append_assoc,show zaq (nth S i).val.kids = .sl ((nth S i).val.kids.map Val.cc) from congrArg D.sl (Val.cs_cc _)];rfl))
 refine evc [26] [4,5,7,9] ?_;refine sq ?_ ?_<;>intro h2 h2p h2s<;>(try simp only[Q,xac] at h2p);refine xao 9 (zac true ((S.take i).map Bd.c)++(.d (.i (nth S i).var):: .d (.i (nth S i).val.ctor):: .d (.i (nth S i).val.num)::upV (nth S i).val.kids::bdU (S.drop (i+1)))) rfl (by rw[hdr i (by omega)]) ?_;refine evc [26] [] ?_;refine xaM sl52 .none rfl rfl rfl rfl (by omega) ?_;refine Walk.loadTA zeY .none rfl rfl rfl ((zpQ (hal i (by omega)))) ?_;refine Walk.alloc (id:=3009) zfE rfl .none rfl (by first|rfl|(simp only[zaf,occH,occE,Res.ids,xag,List.nil_append,AV.idsL,AV.ids,zab,zaa,zad,zaj,xae,List.map_nil,upC,idsD,zbk,zcm,zca];rfl)) (by first|rfl|(simp only[zaf,occH,occE,Res.ids,xag,List.nil_append,AV.idsL,AV.ids,zab,zaa,zad,zaj,xae,List.map_nil,upC,idsD,zbk,zcm,zca];rfl)) (by first|rfl|(simp only[zaf,occH,occE,Res.ids,xag,List.nil_append,AV.idsL,AV.ids,zab,zaa,zad,zaj,xae,List.map_nil,upC,idsD,zbk,zcm,zca];rfl)) ?_;refine evs [26] [] ?_;refine so zeY ?_;refine tv ?_;refine Walk.call (cr:=[61]) zhD (zd1 _ true (v:=(nth S i).val) (Nat.le_refl _) (hrow (by omega))) rfl .none rfl rfl (LeL.refl _) trivial rfl (by first|rfl|(simp only[zam,List.all_cons,List.all_nil,zaz,zat,AV.idsL,AV.ids,zab,zaa,xae,List.map_nil,idsD,zbk,zcm,zca];rfl)) (by first|rfl|(simp only[zaf,occH,occE,Res.ids,xag,List.nil_append,AV.idsL,AV.ids,zab,zaa,zad,zaj,xae,List.map_nil,upC,idsD,zbk,zcm,zca];rfl)) ?_;refine xaM sl52 .none rfl rfl rfl rfl (by omega) ?_;refine evs [26] [] ?_;refine xa6 ty49 .none rfl rfl rfl rfl rfl rfl (by simp) ((zar (hal i (by omega)) zp0)) ?_;refine tv ?_;refine CWp.mergeT 9 (i*4+3) 61 3 rfl (zaC (hal i (by omega)) rfl) rfl rfl (zar (hal i (by omega)) zeJ) ?_;refine evc [26] [] ?_;refine ar ?_;refine xah (i+1) ⟨(by omega),(by omega),sx ⟨⟨_,rfl,xau ?_⟩,trivial⟩ ⟨?_,trivial⟩⟩;focus (first|rfl|(simp;done)|(simp_all;done)|omega)
 focus (first|rfl|(show some (Res.tree _)=some (Res.tree _);rw[htk i (by omega),List.append_assoc,show zaq (nth S i).val.kids = .sl ((nth S i).val.kids.map Val.cc) from congrArg D.sl (Val.cs_cc _)];rfl))
 refine rn [(9,some (.tree (zac true (S.map Bd.c))))] (r2 rfl rfl) (.tup (.cons (xav ?_) (.cons (.eqd ?_) .nil))) ⟨rfl,rfl⟩ (SubH.get ⟨?_,trivial⟩) (zaE rfl);rotate_left 3;all_goals (first|((first|rfl|(simp[hsl];done)|(rw[xac,xac];exact hsl.symm));done)|((have e:i=L.length:=(by omega);show some (Res.tree _)=some (Res.tree _);rw[e,<-hsl,List.take_length,List.drop_length];exact congrArg (fun z=>some (Res.tree z)) (List.append_nil _))))
theorem zmx {w:List Data}{t:Ty}{l:List Cl}{v:Val}{S:List Bd} (hl:l.length<=1000000000000) (hr:RunOk w t l v){j:Nat} (hj:j<l.length) (q1:∀x,x<j->zcr (nth l x) v=false) (q2:zcr (nth l j) v=true)
  (hS:zci (zak 10 (nth l j).pat v).1=S) (hne:S≠[]):
  FnD Tryz.prog 108 [.d (zbi l),.agg [.d (.i v.ctor),.d (.i v.num),.d (zaq v.kids)]] [] (.tup [.d (.i (j:Int)),.ms 9 (S.map Bd.c).length]) [(9,some (.tree (zac true (S.map Bd.c))))]:=by
 have hat:=fun(i:Nat) (hi:i<l.length)=>zjt (hr i hi).1 (hr i hi).2;have hmj:(zak 10 (nth l j).pat v).2=true:=by unfold zcr at q2;rw[xad] at q2;exact q2.1
 have hgj:zbD (nth l j).g S=true:=by
  have h3:=q2;rw[hat j hj] at h3;rw[xad] at h3;rw[<-hS];have h4:=zh2 (p:=(nth l j).pat) (v:=v);have h5:=h3.2;unfold zbc at h5;rw[if_pos hmj] at h5;exact h5
 have hown:=zjf (hr j hj).1 (hr j hj).2 hmj hS hne;have hs6:S.length<=6:=by rw[<-hS,zec];exact ze7 (hr j hj).1 (hr j hj).2 hmj
 have hgh:=zdo (g:=(nth l j).g) (l:=S) (by omega);rw[hgj] at hgh;have hno:∀i,i<j->((zbc 10 (nth l i).pat v).2&&zbD (nth l i).g (zbc 10 (nth l i).pat v).1)=false:=fun i hi=>by rw[<-hat i (by omega)];exact q1 i hi
 refine bd Tryz.f108 34 [] [4] fun w0 F0 own kept hk=>?_;refine Walk.box (id:=3003) .none rfl rfl rfl (by first|rfl|(simp only[zaf,occH,occE,Res.ids,xag,List.nil_append,AV.idsL,AV.ids,zab,zaa,zad,zaj,xae,List.map_nil,upC,idsD];rfl)) (by first|rfl|(simp only[zaf,occH,occE,Res.ids,xag,List.nil_append,AV.idsL,AV.ids,zab,zaa,zad,zaj,xae,List.map_nil,upC,idsD];rfl)) (by first|rfl|(simp only[zaf,occH,occE,Res.ids,xag,List.nil_append,AV.idsL,AV.ids,zab,zaa,zad,zaj,xae,List.map_nil,upC,idsD];rfl)) (by first|rfl|(simp only[zaf,occH,occE,Res.ids,xag,List.nil_append,AV.idsL,AV.ids,zab,zaa,zad,zaj,xae,List.map_nil,upC,idsD];rfl)) ?_;refine ev ?_;refine xam (ι:=Nat) hk (fun i=>[(12,.d (.i (i:Int)))]) [4,5,6,7,8,9,13,14,15,16,17,18,19,20,21,22,23,24,25,26,27,28,29,30,31,32,33] (fun i=>[]) (fun i=>i<=j) (fun i=>l.length-i) 0 (by omega) ⟨⟨_,rfl,xau ?_⟩,trivial⟩ trivial (fun x=>rfl) (fun i hg1=>?_);focus (first|rfl|(simp;done)|(simp_all;done)|omega)
 refine evc [] [4] ?_;refine sq ?_ ?_<;>intro h1 h1p h1s<;>(try simp only[Q,Int.natCast_inj] at h1p);refine xaK sl26 .none rfl rfl rfl rfl (zau (by omega)) rfl ?_;refine ev ?_;refine Walk.alloc (id:=3007) tz40 rfl .none rfl (by first|rfl|(simp only[zaf,occH,occE,Res.ids,xag,List.nil_append,AV.idsL,AV.ids,zab,zaa,zad,zaj,xae,List.map_nil,upC,idsD];rfl)) (by first|rfl|(simp only[zaf,occH,occE,Res.ids,xag,List.nil_append,AV.idsL,AV.ids,zab,zaa,zad,zaj,xae,List.map_nil,upC,idsD];rfl)) (by first|rfl|(simp only[zaf,occH,occE,Res.ids,xag,List.nil_append,AV.idsL,AV.ids,zab,zaa,zad,zaj,xae,List.map_nil,upC,idsD];rfl)) ?_;refine ev ?_;refine so ty40 ?_;refine tv ?_;by_cases hij:i=j
 (try subst hij)
 refine evc [] [] ?_;refine Walk.call (cr:=[9]) znv (hown) rfl .none rfl rfl (LeL.refl _) trivial rfl (by first|rfl|(simp only[zam,List.all_cons,List.all_nil,zaz,zat,AV.idsL,AV.ids,zab,zaa,xae,List.map_nil,idsD];rfl)) (by first|rfl|(simp only[zaf,occH,occE,Res.ids,xag,List.nil_append,AV.idsL,AV.ids,zab,zaa,zad,zaj,xae,List.map_nil,upC,idsD];rfl)) ?_;refine ev ?_;refine sq ?_ ?_<;>intro h2 h2p h2s<;>(try simp only[Q,Int.natCast_inj] at h2p);refine xaO (cr:=[]) (lr:=[(9,_)]) zmf (hgh) rfl (.some rfl rfl h2) rfl rfl (.cons (.le (.refl _)) (.cons (.ms (k:=4) List.mem_cons_self Bd.rows (by first|rfl|(simp[zai,Int.natCast_inj];done))) .nil)) ⟨rfl,trivial⟩ rfl (by first|rfl|(simp only[zb3,zbC,zbj,AV.ids];rfl)) (by first|rfl|(simp only[zaf,occH,occE,Res.ids,xag,List.nil_append,AV.idsL,AV.ids,zab,zaa,zad,zaj,xae,List.map_nil,upC,idsD];rfl)) ?_;refine evs [] [(25,true)] ?_ ⟨⟨_,rfl,h2⟩,trivial⟩;refine sq ?_ ?_<;>intro h3 h3p h3s<;>(try simp only[Q,Int.natCast_inj] at h3p);refine rn [(9,some (.tree (zac true (S.map Bd.c))))] (r2 rfl rfl) (.tup (.cons (.eqd ?_) (.cons (xav ?_) .nil))) ⟨rfl,rfl⟩ (SubH.get ⟨?_,trivial⟩) (zaE rfl);rotate_left 3;focus (exfalso;first|contradiction|(simp at *;done))
 refine sqF ?_;focus (exfalso;first|contradiction|(simp at *;done))
 (try subst hij)
 refine evc [] [] ?_;refine Walk.call (cr:=[]) znv (zf7 (hr i (by omega)).1 (hr i (by omega)).2) rfl .none rfl rfl (LeL.refl _) trivial rfl (by first|rfl|(simp only[zam,List.all_cons,List.all_nil,zaz,zat,AV.idsL,AV.ids,zab,zaa,xae,List.map_nil,idsD];rfl)) (by first|rfl|(simp only[zaf,occH,occE,Res.ids,xag,List.nil_append,AV.idsL,AV.ids,zab,zaa,zad,zaj,xae,List.map_nil,upC,idsD];rfl)) ?_;refine ev ?_;refine sq ?_ ?_<;>intro h5 h5p h5s<;>(try simp only[Q,Int.natCast_inj] at h5p);refine Walk.call (cr:=[]) zmf (zdo (g:=(nth l i).g) (by have:=zi2 (hr i (by omega)).1 (hr i (by omega)).2;omega)) rfl (.some rfl rfl h5) rfl rfl (LeL.refl _) trivial rfl (by first|rfl|(simp only[zam,List.all_cons,List.all_nil,zaz,zat,AV.idsL,AV.ids,zab,zaa,xae,List.map_nil,idsD];rfl)) (by first|rfl|(simp only[zaf,occH,occE,Res.ids,xag,List.nil_append,AV.idsL,AV.ids,zab,zaa,zad,zaj,xae,List.map_nil,upC,idsD];rfl)) ?_;refine evs [] [(25,true)] ?_ ⟨⟨_,rfl,h5⟩,trivial⟩;refine sq ?_ ?_<;>intro h6 h6p h6s<;>(try simp only[Q,Int.natCast_inj] at h6p);exfalso;have:=hno i (by omega);simp_all;refine ar ?_;refine xah (i+1) ⟨(by omega),(by omega),sx ⟨⟨_,rfl,xau ?_⟩,trivial⟩ trivial⟩;focus (first|rfl|(simp;done)|(simp_all;done)|omega)
 refine sqF ?_;refine ar ?_;refine xah (i+1) ⟨(by omega),(by omega),sx ⟨⟨_,rfl,xau ?_⟩,trivial⟩ trivial⟩;focus (first|rfl|(simp;done)|(simp_all;done)|omega)
 exfalso;omega;all_goals (first|((rfl);done)|(rfl))
theorem zhv {w:List Data} (hs:WSmall w){a k:Int}{l:List Cl}{v:Val}{S:List Bd} (hl:ClsOk l) (hv:v.ok) (hcv:za4 w ⟨a,k⟩ l=true) (hvv:isV w ⟨a,k⟩ v=true){j:Nat} (hj:j<l.length) (q1:∀x,x<j->zcr (nth l x) v=false) (q2:zcr (nth l j) v=true)
  (hS:zci (zak 10 (nth l j).pat v).1=S) (hne:S≠[]):
  FnD Tryz.prog 49 [.d (zao w),.agg [.d (.i a),.d (.i k)],.d (zbi l),.agg [.d (.i v.ctor),.d (.i v.num),.d (zaq v.kids)]] [] (.tup [.d (.i (j:Int)),.ms 9 (S.map Bd.c).length,.d (.bool true)]) [(9,some (.tree (zac true (S.map Bd.c))))]:=by
 have hcl:=zel hs (a:=a) (k:=k) hl;have hvo:=zf8 (zfX hs (zcH (zfI (l:=l) (a:=a) (k:=k) hcv).1).1) (zcH (zfI (l:=l) (a:=a) (k:=k) hcv).1).2.1 hv;rw[hcv] at hcl;rw[hvv] at hvo;refine bd Tryz.f49 33 [] [] fun w0 F0 own kept hk=>?_;refine bx 3005 ?_;refine bx 3007 ?_;refine ev ?_;refine wc zpu (hcl) rfl rfl ?_;refine ev ?_;refine sq ?_ ?_<;>intro h1 h1p h1s<;>(try simp only[Q] at h1p);refine sqT ?_;exfalso;simp at *;refine Walk.call (cr:=[]) zpv (hvo) rfl (.some rfl rfl h1) rfl rfl (LeL.refl _) trivial rfl rfl rfl ?_;refine evs [] [(18,false)] ?_ ⟨⟨_,rfl,h1⟩,trivial⟩;refine sq ?_ ?_<;>intro h3 h3p h3s<;>(try simp only[Q] at h3p);exfalso;simp at *;refine Walk.call (cr:=[9]) znP (zmx hl.1 (zit (a:=a) (k:=k) hcv hl hv hvv) hj q1 q2 hS hne) rfl .none rfl rfl (LeL.refl _) trivial rfl (by first|rfl|(simp only[zam,List.all_cons,List.all_nil,zaz,zat,AV.idsL,AV.ids,zab,zaa,xae,List.map_nil];rfl)) (by first|rfl|(simp only[zaf,occH,occE,Res.ids,xag,List.nil_append,AV.idsL,AV.ids,zab,zaa,zad,zaj,xae,List.map_nil,upC];rfl)) ?_;refine ev ?_;refine rn [(9,some (.tree (zac true (S.map Bd.c))))] (.cons (.tmp rfl) (.cons (.tmp rfl) (.cons (.tmp rfl) .nil))) (.tup (.cons (.eqd ?_) (.cons (xav ?_) (.cons (.eqd ?_) .nil)))) ⟨rfl,rfl⟩ (SubH.get ⟨?_,trivial⟩) (zaE rfl);rotate_left 4;all_goals (first|((rfl);done)|(rfl))
theorem zmG (m:Bool) (y:Cl) (rest:List Cl):zac m ((y::rest).map Cl.c) = .d (.i y.pat.op):: .d (.i y.pat.ctor):: .d (.i y.pat.n):: .d (.i y.pat.m):: .d (.i y.pat.var):: .own m (zaw y.pat.kids):: .d (.i y.g.op):: .d (.i y.g.var):: .d (.i y.g.n)::zac m (rest.map Cl.c):=rfl
theorem zds (m:Bool) (l:List Cl) (y:Cl):zac m ((l++[y]).map Cl.c)=zac m (l.map Cl.c)++[.d (.i y.pat.op),.d (.i y.pat.ctor),.d (.i y.pat.n),.d (.i y.pat.m),.d (.i y.pat.var),.own m (zaw y.pat.kids),.d (.i y.g.op),.d (.i y.g.var),.d (.i y.g.n)]:=by
 rw[xaf,zdg];rfl
theorem Cl.rows {l:List Cl}:∀x,x∈l.map Cl.c->x.length=9:=by
 intro x hx;obtain⟨y,_,rfl⟩:=List.mem_map.1 hx;rfl
theorem zaK (m:Bool) (l:List Cl):(zac m (l.map Cl.c)).length=l.length*9:=by
 rw[zbv (k:=9) Cl.rows,xac]
def Cl.szM (c:Cl):Int:=c.pat.szM+3
def Cl.one (k:Int) (c:Cl):Cl:=⟨c.pat.one k,⟨k+1+1+1+1+1+szL Pat.szM c.pat.kids,k+1+1+1+1+1+szL Pat.szM c.pat.kids+1,k+1+1+1+1+1+szL Pat.szM c.pat.kids+1+1⟩⟩
theorem Cl.szM_nn (c:Cl):0<=c.szM:=by have:=Pat.szM_nn c.pat;unfold Cl.szM;omega
theorem Cl.szM_kids (c:Cl):c.szM=5+szL Pat.szM c.pat.kids+3:=by unfold Cl.szM;rw[Pat.szM_kids]
theorem Cl.szM_le (c:Cl):c.szM<=8+5*(mCl c:Int):=by have:=Pat.szM_le c.pat;unfold Cl.szM mCl;omega
theorem Cls.szM_le:∀l:List Cl,szL Cl.szM l<=8*(mCls l:Int)
 | []=>by simp[szL,mCls]
 |c::r=>by
  have h1:=Cl.szM_le c;have h2:=Cls.szM_le r;simp only[szL,mCls,xab,xae,List.sum_cons] at *;omega
theorem zjm {c:Cl} (hok:c.pat.ok):
  FnD Tryz.prog 84 [.agg [.d (.i c.pat.op),.d (.i c.pat.ctor),.d (.i c.pat.n),.d (.i c.pat.m),.d (.i c.pat.var),.d (zaw c.pat.kids),.d (.i c.g.op),.d (.i c.g.var),.d (.i c.g.n)]] [] (.agg [.d (.i c.pat.op),.d (.i c.pat.ctor),.d (.i c.pat.n),.d (.i c.pat.m),.d (.i c.pat.var),.ms 66 c.pat.kids.length,.d (.i c.g.op),.d (.i c.g.var),.d (.i c.g.n)]) [(66,some (.tree (zac false (Pat.cs c.pat.kids))))]:=by
 refine bd Tryz.f84 13 [] [] fun w0 F0 own kept hk=>?_;refine bx 3001 ?_;refine ab 3002 tz40 ?_;refine tv ?_;refine ab 3003 tz40 ?_;refine tv ?_;refine Walk.call (cr:=[66]) zme (zdQ _ (Nat.le_refl _) hok) rfl .none rfl rfl (LeL.refl _) trivial rfl (by first|rfl|(simp only[zam,List.all_cons,List.all_nil,zaz,zat,AV.idsL,AV.ids,zab,zaa,xae,List.map_nil];rfl)) (by first|rfl|(simp only[zaf,occH,occE,Res.ids,xag,List.nil_append,AV.idsL,AV.ids,zab,zaa,zad,zaj,xae,List.map_nil,upC];rfl)) ?_;refine ev ?_;refine so ty36 ?_;refine tv ?_;refine wc znU (zgd) rfl rfl ?_;refine ev ?_;refine so ty38 ?_;refine tv ?_;refine so ty40 ?_;refine tv ?_;focus (refine rn [(66,some (.tree (zac false (Pat.cs c.pat.kids))))] (.cons (.cellA ty40 rfl rfl rfl) .nil) (.agg (.cons (.eqd ?_) (.cons (.eqd ?_) (.cons (.eqd ?_) (.cons (.eqd ?_) (.cons (.eqd ?_) (.cons (xav ?_) (.cons (.eqd ?_) (.cons (.eqd ?_) (.cons (.eqd ?_) .nil)))))))))) ⟨rfl,rfl⟩ (SubH.get ⟨rfl,trivial⟩) (zaE rfl);all_goals (first|rfl|(simp[];done)|(simp_all;done)|(simp_all;omega)|omega))
theorem zfn {l:List Cl} (hs:ClsOk l):FnD Tryz.prog 32 [.d (zbi l)] [] (.ms 68 l.length) [(68,some (.tree (zac false (l.map Cl.c))))]:=by
 have h:=hs.1;have hf2:∀c∈l,FnD Tryz.prog 84 [.agg [.d (.i c.pat.op),.d (.i c.pat.ctor),.d (.i c.pat.n),.d (.i c.pat.m),.d (.i c.pat.var),.d (zaw c.pat.kids),.d (.i c.g.op),.d (.i c.g.var),.d (.i c.g.n)]] [] (.agg [.d (.i c.pat.op),.d (.i c.pat.ctor),.d (.i c.pat.n),.d (.i c.pat.m),.d (.i c.pat.var),.ms 67 c.pat.kids.length,.d (.i c.g.op),.d (.i c.g.var),.d (.i c.g.n)]) [(67,some (.tree (zac false (Pat.cs c.pat.kids))))]:=fun v hv=>xar (zaa _ _) rfl (zjm (hs.2 v hv)) 67;refine bd Tryz.f32 23 [] [2,4] fun w0 F0 own kept hk=>?_;refine xaS (id:=68) sl26 tz40 rfl (by decide) (zbL rfl) .none rfl rfl rfl (by simp;omega) (by simp;omega) rfl rfl rfl ?_;refine ev ?_;refine CWp.boxTree 68 false rfl rfl (zc1 _ _ _) ?_;refine evc [] [] ?_;refine xam (ι:=List (Cl)×List (Cl)) hk (fun x=>[(4,.d (.i (x.1.length:Int)))]) [8,9,10,11,12,13,14,15,16,17,18,19,20,21] (fun x=>[(68,some (.tree (zac false (x.1.map Cl.c)++zaJ x.2.length [.d (.i 0),.d (.i 0),.d (.i 0),.d (.i 0),.d (.i 0),.own false (.sl []),.d (.i 0),.d (.i 0),.d (.i 0)])))]) (fun x=>x.1++x.2=l) (fun x=>x.2.length) ([],l) (by simp) ⟨⟨_,rfl,xau ?_⟩,trivial⟩ ⟨?_,trivial⟩ (fun x=>rfl) (fun x hg1=>?_);focus (first|rfl|(simp;done)|(simp_all;done)|omega)
 focus (first|rfl|(show some (Res.tree _)=some (Res.tree _);rw[zds,List.append_assoc];rfl)|(show some (Res.tree _)=some (Res.tree _);simp[zaQ];rfl))
 obtain⟨pre,rest⟩:=x;dsimp only at hg1 ⊢;refine evc [] [2,4] ?_;refine sq ?_ ?_<;>intro h1 h1p h1s<;>(try simp only[Q,Pat.cs_len] at h1p);rcases rest with _|⟨y,rest⟩
 ·exfalso;simp_all
 refine xaK sl62 .none rfl rfl rfl rfl (zaW hg1) rfl ?_;refine ev ?_;refine Walk.call (cr:=[67]) zpx (hf2 y (by rw[<-hg1];simp)) rfl .none rfl rfl (LeL.refl _) trivial rfl (by first|rfl|(simp only[zam,List.all_cons,List.all_nil,zaz,zat,AV.idsL,AV.ids,zab,zaa,xae,List.map_nil];rfl)) (by first|rfl|(simp only[zaf,occH,occE,Res.ids,xag,List.nil_append,AV.idsL,AV.ids,zab,zaa,zad,zaj,xae,List.map_nil,upC];rfl)) ?_;refine xaM sl26 .none rfl rfl rfl rfl (by first|omega|(simp[Pat.cs_len];omega)) ?_;refine xa6 ty40 .none rfl rfl rfl rfl rfl rfl (by simp) ((zea (zaK false _) rfl)) ?_;refine tv ?_;refine CWp.merge hk 68 (pre.length*9+5) 67 6 _ rfl (zaC (zaK false _) rfl) (by simp[zai,Pat.cs_len]) rfl Pat.cs_rows rfl rfl (zar (zaK false _) (zbA rfl)) ?_;refine evc [] [] ?_;refine ar ?_;refine xah ((pre++[y],rest)) ⟨(by have hz:=hg1;rw[<-hz];simp),(by simp),sx ⟨⟨_,rfl,xau ?_⟩,trivial⟩ ⟨?_,trivial⟩⟩;focus (first|rfl|(simp;done)|(simp_all;done)|omega)
 focus (first|rfl|(show some (Res.tree _)=some (Res.tree _);rw[zds,List.append_assoc];rfl)|(show some (Res.tree _)=some (Res.tree _);simp[zaQ];rfl))
 have hrest:rest=[]:=by
  rcases rest with _|⟨a,b⟩
  ·rfl
  ·exfalso;have hz:=congrArg List.length (hg1);simp only[xaa,xab,xac] at hz;omega
 subst hrest;refine rn [(68,some (.tree (zac false (l.map Cl.c))))] (r1 rfl) (xav ?_) ⟨rfl,rfl⟩ (SubH.get ⟨?_,trivial⟩) (zaE rfl);rotate_left 2;all_goals (first|((first|rfl|(simp;done));done)|(first|rfl|(rw[List.append_nil] at hg1;subst hg1;show some (Res.tree _)=some (Res.tree _);simp[zaJ];done)))
theorem zj4 {m:Bool}{l:List Pat}{k:Int} (h0:0<k) (h1:k+szL Pat.szM l<=1000000000000) (hl:l.length<=1000000000000) (hok:Pats.ok l):FnD Tryz.prog 90 [.ms 47 l.length,.d (.i k)] [(47,some (.tree (zac m (Pat.cs l))))]
  (.d (.i (k+szL Pat.szM l))) [(47,some (.tree (zac false (Pat.cs (mkL Pat.one Pat.szM k l)))))]:=zfT (zg2 _ (Nat.le_refl _) h0 h1 hl hok)
theorem zhy {m:Bool}{l:List Cl}{k:Int} (h0:0<k) (h1:k+szL Cl.szM l<=1000000000000) (hok:ClsOk l):FnD Tryz.prog 37 [.ms 48 l.length,.d (.i k)] [(48,some (.tree (zac m (l.map Cl.c))))]
  (.d (.i (k+szL Cl.szM l))) [(48,some (.tree (zac false ((mkL Cl.one Cl.szM k l).map Cl.c))))]:=by
 have hl:=hok.1;have hpk:=fun(c:Cl) (hc:c∈l)=>(Pat.ok_iff c.pat).1 (hok.2 c hc);refine bd Tryz.f37 85 [57] [14,15,1000009] fun w0 F0 own kept hk=>?_;refine xam (ι:=List (Cl)×List (Cl)×(Int)) hk (fun x=>[(5,.d (.i (x.1.length:Int))),(1,.d (.i x.2.2))]) [6,7,8,9,10,11,12,13,14,15,16,17,18,19,20,21,22,23,24,25,26,27,28,29,30,31,32,33,34,35,36,37,38,39,40,41,42,43,44,45,46,47,48,49,50,51,52,53,54,55,56,57,58,59,60,61,62,63,64,65,66,67,68,69,70,71,72,73,74,75,76,77,78,79,80,81,82,83] (fun x=>[(48,some (.tree (zac false ((mkL Cl.one Cl.szM k x.1).map Cl.c)++zac m (x.2.1.map Cl.c))))]) (fun x=>x.1++x.2.1=l/\x.2.2=k+szL Cl.szM x.1) (fun x=>x.2.1.length) ([],l,k) ⟨by simp,by simp[szL]⟩ ⟨⟨_,rfl,xau ?_⟩,⟨⟨_,rfl,xau ?_⟩,trivial⟩⟩ ⟨?_,trivial⟩ (fun x=>rfl) (fun x hg1=>?_);iterate 2 focus (first|rfl|(simp;done)|omega|(refine Eq.trans (b:=v+Cl.szM y) ?_ rfl;omega))
 focus (first|rfl|(show some (Res.tree _)=some (Res.tree _);rw[zbd,zds,<-hg1.2];simp only[Cl.one,Pat.one_kids,Pat.one_sc y.pat v,List.append_assoc,xag,List.nil_append];all_goals rfl))
 obtain⟨pre,rest,v⟩:=x;dsimp only at hg1 ⊢;refine evc [57] [14,15,1000009] ?_;refine cq (fun h1 h1p h1s=>?_) fun h1 h1p h1s=>?_;try simp only[Q] at h1p
 rcases rest with _|⟨y,rest⟩
 ·exfalso;simp_all
 have hsp:=zcC (sz:=Cl.szM) hg1.1;have hnn:=zaB (l:=rest) Cl.szM_nn;have hnp:=zaB (l:=pre) Cl.szM_nn;have hys:=Cl.szM_kids y;have hya:=zaB (l:=y.pat.kids) Pat.szM_nn;have hv:=hg1.2;refine xao 48 (zac false ((mkL Cl.one Cl.szM k pre).map Cl.c)++(.d (.i y.pat.op):: .d (.i y.pat.ctor):: .d (.i y.pat.n):: .d (.i y.pat.m):: .d (.i y.pat.var):: .own m (zaw y.pat.kids):: .d (.i y.g.op):: .d (.i y.g.var):: .d (.i y.g.n)::zac m (rest.map Cl.c))) rfl (by rw[zmG]) ?_;refine evc [57] [14,15,1000009] ?_;refine xaM sl26 .none rfl rfl rfl rfl (by first|omega|(simp[Pat.cs_nil,Pat.cs_len,Pat.cs];omega)) ?_;refine evs [57] [] ?_;refine xa6 ty3 .none rfl rfl rfl rfl rfl rfl (by simp) ((zar ((zaK false _).trans (by rw[zai];all_goals rfl)) zeI)) ?_;refine tv ?_;refine ar ?_;refine xaM sl26 .none rfl rfl rfl rfl (by first|omega|(simp[Pat.cs_nil,Pat.cs_len,Pat.cs];omega)) ?_;refine evs [57] [] ?_;refine xa6 ty3 .none rfl rfl rfl rfl rfl rfl (by simp) ((zar ((zaK false _).trans (by rw[zai];all_goals rfl)) zcn)) ?_;refine tv ?_;refine ar ?_;refine xaM sl26 .none rfl rfl rfl rfl (by first|omega|(simp[Pat.cs_nil,Pat.cs_len,Pat.cs];omega)) ?_;refine evs [57] [] ?_;refine xa6 ty3 .none rfl rfl rfl rfl rfl rfl (by simp) ((zar ((zaK false _).trans (by rw[zai];all_goals rfl)) zdK)) ?_;refine tv ?_;refine ar ?_;refine xaM sl26 .none rfl rfl rfl rfl (by first|omega|(simp[Pat.cs_nil,Pat.cs_len,Pat.cs];omega)) ?_;refine evs [57] [] ?_;refine xa6 ty3 .none rfl rfl rfl rfl rfl rfl (by simp) ((zar ((zaK false _).trans (by rw[zai];all_goals rfl)) zeJ)) ?_;refine tv ?_;refine ar ?_;refine xaM sl26 .none rfl rfl rfl rfl (by first|omega|(simp[Pat.cs_nil,Pat.cs_len,Pat.cs];omega)) ?_;refine evs [57] [] ?_;refine xa6 ty3 .none rfl rfl rfl rfl rfl rfl (by simp) ((zar ((zaK false _).trans (by rw[zai];all_goals rfl)) znl)) ?_;refine tv ?_;refine ar ?_;by_cases hs2:y.pat.kids=[]
 refine xak 48 (pre.length*9+5) rfl (zaC ((zaK false _).trans (by rw[zai];all_goals rfl)) rfl) (by simp[hs2,Pat.cs_nil,Pat.cs_len,Pat.cs]) (zar ((zaK false _).trans (by rw[zai];all_goals rfl)) zd9) ?_;refine evc [57] [] ?_;refine xaM sl26 .none rfl rfl rfl rfl (by first|omega|(simp[Pat.cs_nil,Pat.cs_len,Pat.cs];omega)) ?_;refine evs [57] [] ?_;refine xaR ty34 .none rfl rfl rfl ((by rw[zaC ((zaK false _).trans (by rw[zai];all_goals rfl)) rfl];rfl)) ?_;refine evs [57] [] ?_;refine Walk.call (cr:=[]) zlV (zd8 hs2) rfl .none rfl rfl (LeL.refl _) trivial rfl (by first|rfl|(simp only[zam,List.all_cons,List.all_nil,zaz,zat,AV.idsL,AV.ids,zab,zaa,xae,List.map_nil];rfl)) (by first|rfl|(simp only[zaf,occH,occE,Res.ids,xag,List.nil_append,AV.idsL,AV.ids,zab,zaa,zad,zaj,xae,List.map_nil,upC];rfl)) ?_;refine evs [57] [] ?_;refine xal 48 (pre.length*9+5) false rfl (xs:=Pat.cs (mkL Pat.one Pat.szM (v+1+1+1+1+1) y.pat.kids)) rfl (zaC ((zaK false _).trans (by rw[zai];all_goals rfl)) rfl) (by simp[hs2,mkL,Pat.cs]) (zar ((zaK false _).trans (by rw[zai];all_goals rfl)) zd9) ?_;refine evc [57] [] ?_;refine xaM sl26 .none rfl rfl rfl rfl (by first|omega|(simp[Pat.cs_nil,Pat.cs_len,Pat.cs];omega)) ?_;refine evs [57] [] ?_;refine xa6 ty3 .none rfl rfl rfl rfl rfl rfl (by simp) ((zar (o:=pre.length*9) (j:=6) ((zaK false _).trans (by rw[zai])) znm)) ?_;refine tv ?_;refine ar ?_;refine xaM sl26 .none rfl rfl rfl rfl (by first|omega|(simp[Pat.cs_nil,Pat.cs_len,Pat.cs];omega)) ?_;refine evs [57] [] ?_;refine xa6 ty3 .none rfl rfl rfl rfl rfl rfl (by simp) ((zar (o:=pre.length*9) (j:=7) ((zaK false _).trans (by rw[zai])) znn)) ?_;refine tv ?_;refine ar ?_;refine xaM sl26 .none rfl rfl rfl rfl (by first|omega|(simp[Pat.cs_nil,Pat.cs_len,Pat.cs];omega)) ?_;refine evs [57] [] ?_;refine xa6 ty3 .none rfl rfl rfl rfl rfl rfl (by simp) ((zar (o:=pre.length*9) (j:=8) ((zaK false _).trans (by rw[zai])) zno)) ?_;refine tv ?_;refine ar ?_;refine ar ?_;refine xah ((pre++[y],rest,v+Cl.szM y)) ⟨⟨(by have hz:=hg1.1;rw[<-hz];simp),(by show v+Cl.szM y=_;rw[zbB,hg1.2];omega)⟩,(by simp),sx ⟨⟨_,rfl,xau ?_⟩,⟨⟨_,rfl,xau ?_⟩,trivial⟩⟩ ⟨?_,trivial⟩⟩;iterate 2 focus (first|rfl|(simp;done)|omega|(refine Eq.trans (b:=v+Cl.szM y) ?_ rfl;omega))
 focus (first|rfl|(show some (Res.tree _)=some (Res.tree _);rw[zbd,zds,<-hg1.2];simp only[Cl.one,Pat.one_kids,Pat.one_sc y.pat v,List.append_assoc,xag,List.nil_append];all_goals rfl))
 refine CWp.split 48 (pre.length*9+5) 47 rfl (zaC ((zaK false _).trans (by rw[zai];all_goals rfl)) rfl) (by simp[hs2,Pat.cs_nil,Pat.cs_len,Pat.cs]) (by first|rfl|(simp only[zaf,occH,occE,Res.ids,xag,List.nil_append,AV.idsL,AV.ids,zab,zaa,zad,zaj,xae,List.map_nil,upC];rfl)) (zar ((zaK false _).trans (by rw[zai];all_goals rfl)) zd9) ?_;refine evc [57] [] ?_;refine xaM sl26 .none rfl rfl rfl rfl (by first|omega|(simp[Pat.cs_nil,Pat.cs_len,Pat.cs];omega)) ?_;refine evs [57] [] ?_;refine xaR ty34 .none rfl rfl rfl ((by rw[zaC ((zaK false _).trans (by rw[zai];all_goals rfl)) rfl];rfl)) ?_;refine evs [57] [] ?_;refine Walk.call (cr:=[]) zlV (zj4 (l:=y.pat.kids) (k:=v+1+1+1+1+1) (by omega) (by omega) (hpk y (by rw[<-hg1.1];simp)).1 (hpk y (by rw[<-hg1.1];simp)).2) rfl .none rfl rfl (.cons (xav (by first|rfl|(simp[Pat.cs_nil,Pat.cs_len,Pat.cs];done))) (.cons (.refl _) .nil)) ⟨by first|rfl|(simp;rfl),trivial⟩ rfl (by first|rfl|(simp only[zam,List.all_cons,List.all_nil,zaz,zat,AV.idsL,AV.ids,zab,zaa,xae,List.map_nil];rfl)) (by first|rfl|(simp only[zaf,occH,occE,Res.ids,xag,List.nil_append,AV.idsL,AV.ids,zab,zaa,zad,zaj,xae,List.map_nil,upC];rfl)) ?_;refine evs [57] [] ?_;refine CWp.merge hk 48 (pre.length*9+5) 47 6 _ rfl (zaC ((zaK false _).trans (by rw[zai];all_goals rfl)) rfl) (by simp[zai,Pat.cs_nil,Pat.cs_len,Pat.cs]) rfl Pat.cs_rows rfl rfl (zar ((zaK false _).trans (by rw[zai];all_goals rfl)) zd9) ?_;refine evc [57] [] ?_;refine xaM sl26 .none rfl rfl rfl rfl (by first|omega|(simp[Pat.cs_nil,Pat.cs_len,Pat.cs];omega)) ?_;refine evs [57] [] ?_;refine xa6 ty3 .none rfl rfl rfl rfl rfl rfl (by simp) ((zar (o:=pre.length*9) (j:=6) ((zaK false _).trans (by rw[zai])) znm)) ?_;refine tv ?_;refine ar ?_;refine xaM sl26 .none rfl rfl rfl rfl (by first|omega|(simp[Pat.cs_nil,Pat.cs_len,Pat.cs];omega)) ?_;refine evs [57] [] ?_;refine xa6 ty3 .none rfl rfl rfl rfl rfl rfl (by simp) ((zar (o:=pre.length*9) (j:=7) ((zaK false _).trans (by rw[zai])) znn)) ?_;refine tv ?_;refine ar ?_;refine xaM sl26 .none rfl rfl rfl rfl (by first|omega|(simp[Pat.cs_nil,Pat.cs_len,Pat.cs];omega)) ?_;refine evs [57] [] ?_;refine xa6 ty3 .none rfl rfl rfl rfl rfl rfl (by simp) ((zar (o:=pre.length*9) (j:=8) ((zaK false _).trans (by rw[zai])) zno)) ?_;refine tv ?_;refine ar ?_;refine ar ?_;refine xah ((pre++[y],rest,v+Cl.szM y)) ⟨⟨(by have hz:=hg1.1;rw[<-hz];simp),(by show v+Cl.szM y=_;rw[zbB,hg1.2];omega)⟩,(by simp),sx ⟨⟨_,rfl,xau ?_⟩,⟨⟨_,rfl,xau ?_⟩,trivial⟩⟩ ⟨?_,trivial⟩⟩;iterate 2 focus (first|rfl|(simp;done)|omega|(refine Eq.trans (b:=v+Cl.szM y) ?_ rfl;omega))
 focus (first|rfl|(show some (Res.tree _)=some (Res.tree _);rw[zbd,zds,<-hg1.2];simp only[Cl.one,Pat.one_kids,Pat.one_sc y.pat v,List.append_assoc,xag,List.nil_append];all_goals rfl))
 try simp only[Q] at h1p
 have hrest:rest=[]:=by
  rcases rest with _|⟨a,b⟩
  ·rfl
  ·exfalso;have hz:=congrArg List.length (hg1.1);simp only[xaa,xab,xac] at hz;omega
 subst hrest;refine evc [57] [14,15,1000009] ?_;refine rn [(48,some (.tree (zac false ((mkL Cl.one Cl.szM k l).map Cl.c))))] (r1 rfl) (.eqd ?_) ⟨rfl,rfl⟩ (SubO.get ⟨.inr ?_,⟨.inl rfl,trivial⟩⟩) (zaE rfl);rotate_left 2;all_goals (first|((first|rfl|(obtain⟨hg1,hv⟩:=hg1;rw[List.append_nil] at hg1;subst hg1;rw[hv]));done)|(first|rfl|(obtain⟨hg1,_⟩:=hg1;rw[List.append_nil] at hg1;subst hg1;show some (Res.tree _)=some (Res.tree _);simp[zaQ];done)))
abbrev anyQ:Pat:= .mk 1 0 0 0 0 []
mutual
def zgV:Pat->Pat
 | .mk op c n m v ks=>if op=2 then anyQ else if op=6/\ks≠[] then zjQ ks else .mk op c n m v (zgU ks)
def zjQ:List Pat->Pat
 | []=>anyQ
 |k::_=>zgV k
def zgU:List Pat->List Pat
 | []=>[]
 |k::r=>zgV k::zgU r
end
theorem zl9:∀l:List Pat,zgU l=l.map zgV
 | []=>rfl
 |k::r=>by simp[zgU,zl9 r]
def zrl (out:List (List Pat)) (l:List Pat):List (List Pat):=out.flatMap fun q=>l.map fun c=>q++[c]
def zrj (ls:List (List Pat)):List (List Pat):=ls.foldl zrl [[]]
mutual
def zmT:Pat->List Pat
 | .mk op c n m v ks=>if op=5 then zq7 ks else (zrj (znr ks)).map fun l=> .mk op c n m v l
def zq7:List Pat->List Pat
 | []=>[]
 |a::r=>zmT a++zp3 r
def zp3:List Pat->List Pat
 | []=>[]
 |b::_=>zmT b
def znr:List Pat->List (List Pat)
 | []=>[]
 |k::r=>zmT k::znr r
end
mutual
def cntS:Pat->Int
 | .mk op _ _ _ _ ks=>if op=5 then cntO ks 0 else cntM ks 1
def cntO:List Pat->Int->Int
 | [],n=>n
 |k::r,n=>cntO r (cap (n+cntS k))
def cntM:List Pat->Int->Int
 | [],n=>n
 |k::r,n=>cntM r (cap (n*cntS k))
end
mutual
theorem zng:∀p:Pat,0<=cntS p/\cntS p<=401
 | .mk op _ _ _ _ ks=>by
  unfold cntS;split
  ·exact znf ks 0 (by omega) (by omega)
  ·exact zne ks 1 (by omega) (by omega)
theorem znf:∀(l:List Pat) (n:Int),0<=n->n<=401->0<=cntO l n/\cntO l n<=401
 | [],n,h1,h2=>⟨h1,h2⟩
 |k::r,n,h1,h2=>by
  unfold cntO;have h3:=zng k;have h4:=zof (x:=n+cntS k) (by omega);exact znf r _ h4.1 h4.2
theorem zne:∀(l:List Pat) (n:Int),0<=n->n<=401->0<=cntM l n/\cntM l n<=401
 | [],n,h1,h2=>⟨h1,h2⟩
 |k::r,n,h1,h2=>by
  unfold cntM;have h3:=zng k;have h4:=zof (x:=n*cntS k) (Int.mul_nonneg h1 h3.1);exact zne r _ h4.1 h4.2
end
mutual
theorem znc:∀p:Pat,p.ok->(zgV p).ok
 | .mk op c n m v ks,h=>by
  unfold zgV;split
  ·exact⟨by simp,trivial⟩
  ·split
   ·exact zo4 ks h.2
   ·exact⟨by rw[zl9,xac];exact h.1,zma ks h.2⟩
theorem zo4:∀l:List Pat,Pats.ok l->(zjQ l).ok
 | [],_=>⟨by simp,trivial⟩
 |k::r,h=>znc k h.1
theorem zma:∀l:List Pat,Pats.ok l->Pats.ok (zgU l)
 | [],_=>trivial
 |k::r,h=>⟨znc k h.1,zma r h.2⟩
end
mutual
theorem zk6:∀p:Pat,(zgV p).size<=p.size
 | .mk op c n m v ks=>by
  unfold zgV;split
  ·simp[anyQ,Pat.size,Pats.size]
  ·split
   ·have:=znz ks;simp only[Pat.size];omega
   ·have:=zjG ks;simp only[Pat.size];omega
theorem znz:∀l:List Pat,(zjQ l).size<=1+Pats.size l
 | []=>by simp[zjQ,anyQ,Pat.size,Pats.size]
 |k::r=>by have:=zk6 k;simp only[zjQ,Pats.size];omega
theorem zjG:∀l:List Pat,Pats.size (zgU l)<=Pats.size l
 | []=>Nat.le_refl _
 |k::r=>by have:=zk6 k;have:=zjG r;simp only[zgU,Pats.size];omega
end
end Go.Proofs.YtlfipehhbdjnjaaGreat
namespace Go.Proofs.YtlfipehhbdjnjaaGreat
open Go
set_option linter.unusedSimpArgs false
set_option linter.unusedVariables false
end Go.Proofs.YtlfipehhbdjnjaaGreat
namespace Go.Proofs.YtlfipehhbdjnjaaGreat
open Go
set_option linter.unusedSimpArgs false
set_option linter.unusedVariables false
set_option maxRecDepth 100000
set_option maxHeartbeats 2000000
mutual
theorem zmU:∀v:Val,v.szM<=2*(v.size:Int)
 | .mk a n ks=>by
  have:=zlx ks;simp only[Val.szM,Val.size];omega
theorem zlx:∀l:List Val,Vals.szM l<=2*(Vals.size l:Int)
 | []=>by simp[Vals.szM,Vals.size]
 |v::r=>by
  have h1:=zmU v;have h2:=zlx r;simp only[Vals.szM,Vals.size];omega
end
theorem znO:∀ {S:List Bd},(∀b∈S,b.val.size<=60)->szL Bd.szM S<=121*S.length
 | [],_=>by simp[szL]
 |b::r,h=>by
  have h1:=zmU b.val;have h2:=h b (by simp);have h3:=znO (S:=r) (fun x hx=>h x (by simp[hx]));simp only[szL,Bd.szM,xab] at h3 ⊢;omega
theorem ziX {l:List Data}{k:Int} (h0:0<k) (h1:k+szL Data.sz l<=1000000000000) (hl:WSmall l):FnD Tryz.prog 36 [.ms 63 l.length,.d (.i k)] [(63,some (.tree (zac false (l.map Data.c))))]
  (.d (.i (k+szL Data.sz l))) [(63,some (.tree (zac false ((mkL Data.one Data.sz k l).map Data.c))))]:=FnD.ren rfl (zaa _ _) (zaa _ _) (ziJ h0 h1 hl) 63
theorem zhq {l:List Cl}{k:Int} (h0:0<k) (h1:k+szL Cl.szM l<=1000000000000) (hok:ClsOk l):FnD Tryz.prog 37 [.ms 68 l.length,.d (.i k)] [(68,some (.tree (zac false (l.map Cl.c))))]
  (.d (.i (k+szL Cl.szM l))) [(68,some (.tree (zac false ((mkL Cl.one Cl.szM k l).map Cl.c))))]:=FnD.ren rfl (zaa _ _) (zaa _ _) (zhy h0 h1 hok) 68
theorem ziY {v:Val}{k:Int} (h0:0<k) (h1:k+szL Val.szM v.kids<=1000000000000) (hok:v.ok):FnD Tryz.prog 38 [.agg [.d (.i v.ctor),.d (.i v.num),.ms 64 v.kids.length],.d (.i k)] [(64,some (.tree (zac false (Val.cs v.kids))))]
  (.d (.i (k+szL Val.szM v.kids))) [(64,some (.tree (zac false (Val.cs (mkL Val.one Val.szM k v.kids)))))]:=FnD.ren rfl (zaa _ _) (zaa _ _) (ziL h0 h1 hok) 64
theorem zm5 {m:Bool}{l:List Bd}{k:Int} (h0:0<k) (h1:k+szL Bd.szM l<=1000000000000) (hok:BdsOk l):FnD Tryz.prog 51 [.ms 9 l.length,.d (.i k)] [(9,some (.tree (zac m (l.map Bd.c))))]
  (.d (.i (k+szL Bd.szM l))) [(9,some (.tree (zac false ((mkL Bd.one Bd.szM k l).map Bd.c))))]:=FnD.ren rfl (zaa _ _) (zaa _ _) (ziH h0 h1 hok) 9
theorem ziG {w:List Data} (hs:WSmall w){a k:Int}{cl:List Cl} (hok:ClsOk cl){v:Val} (hvok:v.ok){S:List Bd}{j:Int} (hne:S≠[]) (hso:BdsOk S) (hsz:szL Bd.szM S<=1000000)
  (hspec:FnD Tryz.prog 47 [.d (zao w),.agg [.d (.i a),.d (.i k)],.d (zbi cl),.agg [.d (.i v.ctor),.d (.i v.num),.d (zaq v.kids)]] [] (.tup [.d (.i j),.d (zbm S),.d (.bool true)]) [])
  (himp:FnD Tryz.prog 49 [.d (zao w),.agg [.d (.i a),.d (.i k)],.d (zbi cl),.agg [.d (.i v.ctor),.d (.i v.num),.d (zaq v.kids)]] [] (.tup [.d (.i j),.d (zbm S),.d (.bool true)]) [])
  (hown:FnD Tryz.prog 49 [.d (zao w),.agg [.d (.i a),.d (.i k)],.d (zbi cl),.agg [.d (.i v.ctor),.d (.i v.num),.d (zaq v.kids)]] [] (.tup [.d (.i j),.ms 9 (S.map Bd.c).length,.d (.bool true)]) [(9,some (.tree (zac true (S.map Bd.c))))]):
  FnD Tryz.prog 9 [.d (zao w),.agg [.d (.i a),.d (.i k)],.d (zbi cl),.agg [.d (.i v.ctor),.d (.i v.num),.d (zaq v.kids)]] [] (.d (.bool true)) []:=by
 have z:=zba (left:=1048576) (zc4 w);have z2:=zba (left:=szr 1048576 (zc4 w)) (mCls cl);have z3:=zba (left:=szr (szr 1048576 (zc4 w)) (mCls cl)) (mVal v);have hbd:=zfW w;have hnn:=zaB (l:=w) Data.sz_nn;have hcb:=Cls.szM_le cl;have hcn:=zaB (l:=cl) Cl.szM_nn;have hvb:=Vals.szM_le v.kids;have hvn:=Vals.szM_nn v.kids;rw[Vals.szM_eq] at hvb hvn;rw[<-zkX] at hvb;have hpn:=zaB (l:=S) Bd.szM_nn;refine bd Tryz.f9 171 [81,123,161] [] fun w0 F0 own kept hk=>?_;refine bx 3005 ?_;refine bx 3007 ?_;refine evs [81,123,161] [] ?_;refine wc zpl (zgb hs (by omega) (by omega)) rfl rfl ?_;refine evs [81,123,161] [] ?_;refine sq ?_ ?_<;>intro h1 h1p h1s<;>(try simp only[Q] at h1p);refine rq ?_;rotate_left;refine wc zpm (zfl hok (by omega) (by omega)) rfl rfl ?_;refine evs [81,123,161] [] ?_;refine sq ?_ ?_<;>intro h2 h2p h2s<;>(try simp only[Q] at h2p);refine rq ?_;rotate_left;refine wc znu (zeq _ (Nat.le_refl _) hvok (by omega) (by omega)) rfl rfl ?_;refine evs [81,123,161] [] ?_;refine sq ?_ ?_<;>intro h3 h3p h3s<;>(try simp only[Q] at h3p);refine rq ?_;rotate_left;refine wc zf2 (zb7 hs) rfl rfl ?_;refine evd [81,123,161] [] ?_;refine wc zf3 (zbE) rfl rfl ?_;refine evd [81,123,161] [] ?_;refine wc zf4 (zbM hok) rfl rfl ?_;refine evd [81,123,161] [] ?_;refine wc zfr (zb8 hvok) rfl rfl ?_;refine wc zps (hspec) rfl rfl ?_;refine evd [81,123,161] [] ?_;refine dr ?_;refine Walk.call (cr:=[63]) zf2 (zgc hs) rfl .none rfl rfl (LeL.refl _) trivial rfl (by first|rfl|(simp only[zam,List.all_cons,List.all_nil,zaz,zat,AV.idsL,AV.ids,zab,zaa,xae,List.map_nil];rfl)) (by first|rfl|(simp only[zaf,occH,occE,Res.ids,xag,List.nil_append,AV.idsL,AV.ids,zab,zaa,zad,zaj,xae,List.map_nil,upC];rfl)) ?_;refine evs [81,123,161] [] ?_;refine Walk.call (cr:=[68]) zf4 (zfn hok) rfl .none rfl rfl (LeL.refl _) trivial rfl (by first|rfl|(simp only[zam,List.all_cons,List.all_nil,zaz,zat,AV.idsL,AV.ids,zab,zaa,xae,List.map_nil];rfl)) (by first|rfl|(simp only[zaf,occH,occE,Res.ids,xag,List.nil_append,AV.idsL,AV.ids,zab,zaa,zad,zaj,xae,List.map_nil,upC];rfl)) ?_;refine evs [81,123,161] [] ?_;refine Walk.call (cr:=[64]) zfr (zdf _ (Nat.le_refl _) hvok) rfl .none rfl rfl (LeL.refl _) trivial rfl (by first|rfl|(simp only[zam,List.all_cons,List.all_nil,zaz,zat,AV.idsL,AV.ids,zab,zaa,xae,List.map_nil];rfl)) (by first|rfl|(simp only[zaf,occH,occE,Res.ids,xag,List.nil_append,AV.idsL,AV.ids,zab,zaa,zad,zaj,xae,List.map_nil,upC];rfl)) ?_;refine Walk.alloc (id:=3015) tz49 rfl .none rfl (by first|rfl|(simp only[zaf,occH,occE,Res.ids,xag,List.nil_append,AV.idsL,AV.ids,zab,zaa,zad,zaj,xae,List.map_nil,upC];rfl)) (by first|rfl|(simp only[zaf,occH,occE,Res.ids,xag,List.nil_append,AV.idsL,AV.ids,zab,zaa,zad,zaj,xae,List.map_nil,upC];rfl)) (by first|rfl|(simp only[zaf,occH,occE,Res.ids,xag,List.nil_append,AV.idsL,AV.ids,zab,zaa,zad,zaj,xae,List.map_nil,upC];rfl)) ?_;refine so ty49 ?_;refine tv ?_;refine Walk.call (cr:=[]) zf3 (zbE) rfl .none rfl rfl (LeL.refl _) trivial rfl (by first|rfl|(simp only[zam,List.all_cons,List.all_nil,zaz,zat,AV.idsL,AV.ids,zab,zaa,xae,List.map_nil];rfl)) (by first|rfl|(simp only[zaf,occH,occE,Res.ids,xag,List.nil_append,AV.idsL,AV.ids,zab,zaa,zad,zaj,xae,List.map_nil,upC];rfl)) ?_;refine evd [81,123,161] [] ?_;refine xaO (cr:=[9]) (lr:=[(63,_),(68,_),(64,_)]) zlT (hown) rfl .none rfl rfl (.cons (.ms (k:=2) List.mem_cons_self (by intro x hx;obtain⟨y,_,rfl⟩:=List.mem_map.1 hx;rfl) (by first|rfl|(simp[zai,Val.cs_len];done))) (.cons (.le (.refl _)) (.cons (.ms (k:=9) (List.mem_cons_of_mem _ List.mem_cons_self) Cl.rows (by first|rfl|(simp[zai,Val.cs_len];done))) (.cons (.agg (.cons (.le (.refl _)) (.cons (.le (.refl _)) (.cons (.ms (k:=3) (List.mem_cons_of_mem _ (List.mem_cons_of_mem _ List.mem_cons_self)) Val.cs_rows (by first|rfl|(simp[zai,Val.cs_len];done))) .nil)))) .nil)))) ⟨rfl,⟨rfl,⟨rfl,trivial⟩⟩⟩ rfl (by first|rfl|(simp only[zb3,zbC,zbj,AV.ids];rfl)) (by first|rfl|(simp only[zaf,occH,occE,Res.ids,xag,List.nil_append,AV.idsL,AV.ids,zab,zaa,zad,zaj,xae,List.map_nil,upC];rfl)) ?_;refine evd [81,123,161] [] ?_;refine dr2 [9] ?_ (by first|rfl|(simp only[zaf,occH,occE,Res.ids,xag,List.nil_append,AV.idsL,AV.ids,zab,zaa,zad,zaj,xae,List.map_nil,upC];rfl));refine sq ?_ ?_<;>intro h4 h4p h4s<;>(try simp only[Q] at h4p);refine sqT ?_;refine sqT ?_;refine rq ?_;rotate_left;refine xaO (cr:=[]) (lr:=[(9,_)]) zis (zb6 hso) rfl (.some rfl rfl h4) rfl rfl (.cons (.ms (k:=4) List.mem_cons_self Bd.rows (by first|rfl|(simp[zai,Val.cs_len];done))) (.cons (.le (.refl _)) .nil)) ⟨rfl,trivial⟩ rfl (by first|rfl|(simp only[zb3,zbC,zbj,AV.ids];rfl)) (by first|rfl|(simp only[zaf,occH,occE,Res.ids,xag,List.nil_append,AV.idsL,AV.ids,zab,zaa,zad,zaj,xae,List.map_nil,upC];rfl)) ?_;refine evs [81,123,161] [(72,false)] ?_ ⟨⟨_,rfl,h4⟩,trivial⟩;refine sq ?_ ?_<;>intro h6 h6p h6s<;>(try simp only[Q] at h6p);refine sqT ?_;refine rq ?_;rotate_left;refine xaW un4 (.some rfl rfl h6) rfl rfl rfl ?_;refine evs [81,123,161] [(78,false)] ?_ ⟨⟨_,rfl,h6⟩,trivial⟩;refine sq ?_ ?_<;>intro h8 h8p h8s<;>(try simp only[Q] at h8p);refine rq ?_;rotate_left;refine Walk.call (cr:=[]) zf2 (zb7 hs) rfl .none rfl rfl (LeL.refl _) trivial rfl (by first|rfl|(simp only[zam,List.all_cons,List.all_nil,zaz,zat,AV.idsL,AV.ids,zab,zaa,xae,List.map_nil];rfl)) (by first|rfl|(simp only[zaf,occH,occE,Res.ids,xag,List.nil_append,AV.idsL,AV.ids,zab,zaa,zad,zaj,xae,List.map_nil,upC];rfl)) ?_;refine xaO (cr:=[]) (lr:=[(63,_)]) zpn (zf9 hs) rfl .none rfl rfl (.cons (.ms (k:=2) List.mem_cons_self (by intro x hx;obtain⟨y,_,rfl⟩:=List.mem_map.1 hx;rfl) (by first|rfl|(simp[zai,Val.cs_len];done))) (.cons (.le (.refl _)) .nil)) ⟨rfl,trivial⟩ rfl (by first|rfl|(simp only[zb3,zbC,zbj,AV.ids];rfl)) (by first|rfl|(simp only[zaf,occH,occE,Res.ids,xag,List.nil_append,AV.idsL,AV.ids,zab,zaa,zad,zaj,xae,List.map_nil,upC];rfl)) ?_;refine evs [81,123,161] [] ?_;refine sq ?_ ?_<;>intro h9 h9p h9s<;>(try simp only[Q] at h9p);refine rq ?_;rotate_left;refine Walk.call (cr:=[]) zf4 (zbM hok) rfl .none rfl rfl (LeL.refl _) trivial rfl (by first|rfl|(simp only[zam,List.all_cons,List.all_nil,zaz,zat,AV.idsL,AV.ids,zab,zaa,xae,List.map_nil];rfl)) (by first|rfl|(simp only[zaf,occH,occE,Res.ids,xag,List.nil_append,AV.idsL,AV.ids,zab,zaa,zad,zaj,xae,List.map_nil,upC];rfl)) ?_;refine xaO (cr:=[]) (lr:=[(68,_)]) zpo (zfj hok) rfl .none rfl rfl (.cons (.ms (k:=9) List.mem_cons_self Cl.rows (by first|rfl|(simp[zai,Val.cs_len];done))) (.cons (.le (.refl _)) .nil)) ⟨rfl,trivial⟩ rfl (by first|rfl|(simp only[zb3,zbC,zbj,AV.ids];rfl)) (by first|rfl|(simp only[zaf,occH,occE,Res.ids,xag,List.nil_append,AV.idsL,AV.ids,zab,zaa,zad,zaj,xae,List.map_nil,upC];rfl)) ?_;refine evs [81,123,161] [] ?_;refine sq ?_ ?_<;>intro h10 h10p h10s<;>(try simp only[Q] at h10p);refine rq ?_;rotate_left;refine Walk.call (cr:=[]) zfr (zb8 hvok) rfl .none rfl rfl (LeL.refl _) trivial rfl (by first|rfl|(simp only[zam,List.all_cons,List.all_nil,zaz,zat,AV.idsL,AV.ids,zab,zaa,xae,List.map_nil];rfl)) (by first|rfl|(simp only[zaf,occH,occE,Res.ids,xag,List.nil_append,AV.idsL,AV.ids,zab,zaa,zad,zaj,xae,List.map_nil,upC];rfl)) ?_;refine xaO (cr:=[]) (lr:=[(64,_)]) zlS (zde _ (Nat.le_refl _) hvok) rfl .none rfl rfl (.cons (.agg (.cons (.le (.refl _)) (.cons (.le (.refl _)) (.cons (.ms (k:=3) List.mem_cons_self Val.cs_rows (by first|rfl|(simp[zai,Val.cs_len];done))) .nil)))) (.cons (.le (.refl _)) .nil)) ⟨rfl,trivial⟩ rfl (by first|rfl|(simp only[zb3,zbC,zbj,AV.ids];rfl)) (by first|rfl|(simp only[zaf,occH,occE,Res.ids,xag,List.nil_append,AV.idsL,AV.ids,zab,zaa,zad,zaj,xae,List.map_nil,upC];rfl)) ?_;refine evd [81,123,161] [] ?_;refine dr ?_;refine sq ?_ ?_<;>intro h11 h11p h11s<;>(try simp only[Q] at h11p);refine rq ?_;rotate_left;refine Walk.call (cr:=[]) zpp (ziX (l:=w) (k:=1) (by omega) (by omega) hs) rfl .none rfl rfl (.cons (xav (by first|rfl|(simp[Val.cs_len];done))) (.cons (.refl _) .nil)) ⟨rfl,trivial⟩ rfl (by first|rfl|(simp only[zam,List.all_cons,List.all_nil,zaz,zat,AV.idsL,AV.ids,zab,zaa,xae,List.map_nil];rfl)) (by first|rfl|(simp only[zaf,occH,occE,Res.ids,xag,List.nil_append,AV.idsL,AV.ids,zab,zaa,zad,zaj,xae,List.map_nil,upC];rfl)) ?_;refine evs [81,123,161] [] ?_;refine Walk.call (cr:=[]) zpq (zhq (l:=cl) (k:=1+szL Data.sz w) (by omega) (by omega) hok) rfl .none rfl rfl (.cons (xav (by first|rfl|(simp[Val.cs_len];done))) (.cons (.refl _) .nil)) ⟨rfl,trivial⟩ rfl (by first|rfl|(simp only[zam,List.all_cons,List.all_nil,zaz,zat,AV.idsL,AV.ids,zab,zaa,xae,List.map_nil];rfl)) (by first|rfl|(simp only[zaf,occH,occE,Res.ids,xag,List.nil_append,AV.idsL,AV.ids,zab,zaa,zad,zaj,xae,List.map_nil,upC];rfl)) ?_;refine evs [81,123,161] [] ?_;refine Walk.call (cr:=[]) zpr (ziY (v:=v) (k:=1+szL Data.sz w+szL Cl.szM cl) (by omega) (by omega) hvok) rfl .none rfl rfl (.cons (.agg (.cons (.refl _) (.cons (.refl _) (.cons (xav (by first|rfl|(simp[Val.cs_len];done))) .nil)))) (.cons (.refl _) .nil)) ⟨rfl,trivial⟩ rfl (by first|rfl|(simp only[zam,List.all_cons,List.all_nil,zaz,zat,AV.idsL,AV.ids,zab,zaa,xae,List.map_nil];rfl)) (by first|rfl|(simp only[zaf,occH,occE,Res.ids,xag,List.nil_append,AV.idsL,AV.ids,zab,zaa,zad,zaj,xae,List.map_nil,upC];rfl)) ?_;refine evs [81,123,161] [] ?_;refine sq ?_ ?_<;>intro h12 h12p h12s<;>(try simp only[Q] at h12p);refine sqT ?_;refine sqT ?_;refine sqT ?_;refine rq ?_;rotate_left;refine sq ?_ ?_<;>intro h14 h14p h14s<;>(try simp only[Q] at h14p);refine sqT ?_;refine sqT ?_;refine rq ?_;rotate_left;refine xaO (cr:=[]) (lr:=[(9,_)]) zis (zb6 hso) rfl (.some rfl rfl h14) rfl rfl (.cons (.ms (k:=4) List.mem_cons_self Bd.rows (by first|rfl|(simp[zai,Val.cs_len];done))) (.cons (.le (.refl _)) .nil)) ⟨rfl,trivial⟩ rfl (by first|rfl|(simp only[zb3,zbC,zbj,AV.ids];rfl)) (by first|rfl|(simp only[zaf,occH,occE,Res.ids,xag,List.nil_append,AV.idsL,AV.ids,zab,zaa,zad,zaj,xae,List.map_nil,upC];rfl)) ?_;refine evs [81,123,161] [(114,false)] ?_ ⟨⟨_,rfl,h14⟩,trivial⟩;refine sq ?_ ?_<;>intro h16 h16p h16s<;>(try simp only[Q] at h16p);refine sqT ?_;refine rq ?_;rotate_left;refine xaW un4 (.some rfl rfl h16) rfl rfl rfl ?_;refine evs [81,123,161] [(120,false)] ?_ ⟨⟨_,rfl,h16⟩,trivial⟩;refine sq ?_ ?_<;>intro h18 h18p h18s<;>(try simp only[Q] at h18p);refine rq ?_;rotate_left;refine Walk.call (cr:=[]) zpt (zm5 (l:=S) (k:=1) (by omega) (by omega) hso) rfl .none rfl rfl (.cons (xav (by first|rfl|(simp[Val.cs_len];done))) (.cons (.refl _) .nil)) ⟨by first|rfl|(simp;done),trivial⟩ rfl (by first|rfl|(simp only[zam,List.all_cons,List.all_nil,zaz,zat,AV.idsL,AV.ids,zab,zaa,xae,List.map_nil];rfl)) (by first|rfl|(simp only[zaf,occH,occE,Res.ids,xag,List.nil_append,AV.idsL,AV.ids,zab,zaa,zad,zaj,xae,List.map_nil,upC];rfl)) ?_;refine evs [81,123,161] [] ?_;refine xaO (cr:=[]) (lr:=[(9,_)]) zlU (zcJ (l:=S) (k:=1) (by omega) (by omega) hso) rfl .none rfl rfl (.cons (.ms (k:=4) List.mem_cons_self Bd.rows (by first|rfl|(simp[zai,Val.cs_len];done))) (.cons (.le (.refl _)) .nil)) ⟨rfl,trivial⟩ rfl (by first|rfl|(simp only[zb3,zbC,zbj,AV.ids];rfl)) (by first|rfl|(simp only[zaf,occH,occE,Res.ids,xag,List.nil_append,AV.idsL,AV.ids,zab,zaa,zad,zaj,xae,List.map_nil,upC];rfl)) ?_;refine evs [81,123,161] [] ?_;refine sq ?_ ?_<;>intro h19 h19p h19s<;>(try simp only[Q] at h19p);refine rq ?_;rotate_left;refine sq ?_ ?_<;>intro h20 h20p h20s<;>(try simp only[Q] at h20p);refine rq ?_;rotate_left;refine Walk.call (cr:=[]) zf2 (zb7 hs) rfl .none rfl rfl (LeL.refl _) trivial rfl (by first|rfl|(simp only[zam,List.all_cons,List.all_nil,zaz,zat,AV.idsL,AV.ids,zab,zaa,xae,List.map_nil];rfl)) (by first|rfl|(simp only[zaf,occH,occE,Res.ids,xag,List.nil_append,AV.idsL,AV.ids,zab,zaa,zad,zaj,xae,List.map_nil,upC];rfl)) ?_;refine evd [81,123,161] [] ?_;refine Walk.call (cr:=[]) zf3 (zbE) rfl .none rfl rfl (LeL.refl _) trivial rfl (by first|rfl|(simp only[zam,List.all_cons,List.all_nil,zaz,zat,AV.idsL,AV.ids,zab,zaa,xae,List.map_nil];rfl)) (by first|rfl|(simp only[zaf,occH,occE,Res.ids,xag,List.nil_append,AV.idsL,AV.ids,zab,zaa,zad,zaj,xae,List.map_nil,upC];rfl)) ?_;refine evd [81,123,161] [] ?_;refine Walk.call (cr:=[]) zf4 (zbM hok) rfl .none rfl rfl (LeL.refl _) trivial rfl (by first|rfl|(simp only[zam,List.all_cons,List.all_nil,zaz,zat,AV.idsL,AV.ids,zab,zaa,xae,List.map_nil];rfl)) (by first|rfl|(simp only[zaf,occH,occE,Res.ids,xag,List.nil_append,AV.idsL,AV.ids,zab,zaa,zad,zaj,xae,List.map_nil,upC];rfl)) ?_;refine evd [81,123,161] [] ?_;refine Walk.call (cr:=[]) zfr (zb8 hvok) rfl .none rfl rfl (LeL.refl _) trivial rfl (by first|rfl|(simp only[zam,List.all_cons,List.all_nil,zaz,zat,AV.idsL,AV.ids,zab,zaa,xae,List.map_nil];rfl)) (by first|rfl|(simp only[zaf,occH,occE,Res.ids,xag,List.nil_append,AV.idsL,AV.ids,zab,zaa,zad,zaj,xae,List.map_nil,upC];rfl)) ?_;refine Walk.call (cr:=[]) zlT (himp) rfl .none rfl rfl (LeL.refl _) trivial rfl (by first|rfl|(simp only[zam,List.all_cons,List.all_nil,zaz,zat,AV.idsL,AV.ids,zab,zaa,xae,List.map_nil];rfl)) (by first|rfl|(simp only[zaf,occH,occE,Res.ids,xag,List.nil_append,AV.idsL,AV.ids,zab,zaa,zad,zaj,xae,List.map_nil,upC];rfl)) ?_;refine evd [81,123,161] [] ?_;refine dr ?_;refine sq ?_ ?_<;>intro h21 h21p h21s<;>(try simp only[Q] at h21p);refine sqT ?_;refine sqT ?_;refine rq ?_;rotate_left;refine Walk.call (cr:=[]) zis (zb6 hso) rfl (.some rfl rfl h21) rfl rfl (LeL.refl _) trivial rfl (by first|rfl|(simp only[zam,List.all_cons,List.all_nil,zaz,zat,AV.idsL,AV.ids,zab,zaa,xae,List.map_nil];rfl)) (by first|rfl|(simp only[zaf,occH,occE,Res.ids,xag,List.nil_append,AV.idsL,AV.ids,zab,zaa,zad,zaj,xae,List.map_nil,upC];rfl)) ?_;refine evs [81,123,161] [(152,false)] ?_ ⟨⟨_,rfl,h21⟩,trivial⟩;refine sq ?_ ?_<;>intro h23 h23p h23s<;>(try simp only[Q] at h23p);refine sqT ?_;refine rq ?_;rotate_left;refine xaW un4 (.some rfl rfl h23) rfl rfl rfl ?_;refine evs [81,123,161] [(158,false)] ?_ ⟨⟨_,rfl,h23⟩,trivial⟩;refine sq ?_ ?_<;>intro h25 h25p h25s<;>(try simp only[Q] at h25p);refine rq ?_;rotate_left;refine xaO (cr:=[]) (lr:=[(9,_)]) zlU (zcJ (l:=S) (k:=1) (by omega) (by omega) hso) rfl .none rfl rfl (.cons (.ms (k:=4) List.mem_cons_self Bd.rows (by first|rfl|(simp[zai,Val.cs_len];done))) (.cons (.le (.refl _)) .nil)) ⟨rfl,trivial⟩ rfl (by first|rfl|(simp only[zb3,zbC,zbj,AV.ids];rfl)) (by first|rfl|(simp only[zaf,occH,occE,Res.ids,xag,List.nil_append,AV.idsL,AV.ids,zab,zaa,zad,zaj,xae,List.map_nil,upC];rfl)) ?_;refine evs [81,123,161] [] ?_;refine sq ?_ ?_<;>intro h26 h26p h26s<;>(try simp only[Q] at h26p);refine rq ?_;rotate_left;refine sq ?_ ?_<;>intro h27 h27p h27s<;>(try simp only[Q] at h27p);refine rq ?_;rotate_left;refine rq ?_;rotate_left;all_goals (first|rfl|(exfalso;simp_all[zft,zdO,zfp];done)|(exfalso;simp[zft,zdO,zfp] at *;omega))
theorem zdP {w:List Data} (hs:WSmall w){a k:Int}{cl:List Cl} (hok:ClsOk cl){v:Val} (hvok:v.ok){j:Int}{q:Bool}
  (hspec:FnD Tryz.prog 47 [.d (zao w),.agg [.d (.i a),.d (.i k)],.d (zbi cl),.agg [.d (.i v.ctor),.d (.i v.num),.d (zaq v.kids)]] [] (.tup [.d (.i j),.d (zbm []),.d (.bool q)]) [])
  (himp:FnD Tryz.prog 49 [.d (zao w),.agg [.d (.i a),.d (.i k)],.d (zbi cl),.agg [.d (.i v.ctor),.d (.i v.num),.d (zaq v.kids)]] [] (.tup [.d (.i j),.d (zbm []),.d (.bool q)]) []):
  FnD Tryz.prog 9 [.d (zao w),.agg [.d (.i a),.d (.i k)],.d (zbi cl),.agg [.d (.i v.ctor),.d (.i v.num),.d (zaq v.kids)]] [] (.d (.bool true)) []:=by
 have z:=zba (left:=1048576) (zc4 w);have z2:=zba (left:=szr 1048576 (zc4 w)) (mCls cl);have z3:=zba (left:=szr (szr 1048576 (zc4 w)) (mCls cl)) (mVal v);have hbd:=zfW w;have hnn:=zaB (l:=w) Data.sz_nn;have hcb:=Cls.szM_le cl;have hcn:=zaB (l:=cl) Cl.szM_nn;have hvb:=Vals.szM_le v.kids;have hvn:=Vals.szM_nn v.kids;rw[Vals.szM_eq] at hvb hvn;rw[<-zkX] at hvb;have hnok:BdsOk []:=⟨by simp,by simp⟩;refine bd Tryz.f9 171 [81,123,161] [] fun w0 F0 own kept hk=>?_;refine bx 3005 ?_;refine bx 3007 ?_;refine evs [81,123,161] [] ?_;refine wc zpl (zgb hs (by omega) (by omega)) rfl rfl ?_;refine evs [81,123,161] [] ?_;refine sq ?_ ?_<;>intro h1 h1p h1s<;>(try simp only[Q] at h1p);refine rq ?_;rotate_left;refine wc zpm (zfl hok (by omega) (by omega)) rfl rfl ?_;refine evs [81,123,161] [] ?_;refine sq ?_ ?_<;>intro h2 h2p h2s<;>(try simp only[Q] at h2p);refine rq ?_;rotate_left;refine wc znu (zeq _ (Nat.le_refl _) hvok (by omega) (by omega)) rfl rfl ?_;refine evs [81,123,161] [] ?_;refine sq ?_ ?_<;>intro h3 h3p h3s<;>(try simp only[Q] at h3p);refine rq ?_;rotate_left;refine wc zf2 (zb7 hs) rfl rfl ?_;refine evd [81,123,161] [] ?_;refine wc zf3 (zbE) rfl rfl ?_;refine evd [81,123,161] [] ?_;refine wc zf4 (zbM hok) rfl rfl ?_;refine evd [81,123,161] [] ?_;refine wc zfr (zb8 hvok) rfl rfl ?_;refine wc zps (hspec) rfl rfl ?_;refine evd [81,123,161] [] ?_;refine dr ?_;refine Walk.call (cr:=[63]) zf2 (zgc hs) rfl .none rfl rfl (LeL.refl _) trivial rfl (by first|rfl|(simp only[zam,List.all_cons,List.all_nil,zaz,zat,AV.idsL,AV.ids,zab,zaa,xae,List.map_nil];rfl)) (by first|rfl|(simp only[zaf,occH,occE,Res.ids,xag,List.nil_append,AV.idsL,AV.ids,zab,zaa,zad,zaj,xae,List.map_nil,upC];rfl)) ?_;refine evs [81,123,161] [] ?_;refine Walk.call (cr:=[68]) zf4 (zfn hok) rfl .none rfl rfl (LeL.refl _) trivial rfl (by first|rfl|(simp only[zam,List.all_cons,List.all_nil,zaz,zat,AV.idsL,AV.ids,zab,zaa,xae,List.map_nil];rfl)) (by first|rfl|(simp only[zaf,occH,occE,Res.ids,xag,List.nil_append,AV.idsL,AV.ids,zab,zaa,zad,zaj,xae,List.map_nil,upC];rfl)) ?_;refine evs [81,123,161] [] ?_;refine Walk.call (cr:=[64]) zfr (zdf _ (Nat.le_refl _) hvok) rfl .none rfl rfl (LeL.refl _) trivial rfl (by first|rfl|(simp only[zam,List.all_cons,List.all_nil,zaz,zat,AV.idsL,AV.ids,zab,zaa,xae,List.map_nil];rfl)) (by first|rfl|(simp only[zaf,occH,occE,Res.ids,xag,List.nil_append,AV.idsL,AV.ids,zab,zaa,zad,zaj,xae,List.map_nil,upC];rfl)) ?_;refine Walk.alloc (id:=3015) tz49 rfl .none rfl (by first|rfl|(simp only[zaf,occH,occE,Res.ids,xag,List.nil_append,AV.idsL,AV.ids,zab,zaa,zad,zaj,xae,List.map_nil,upC];rfl)) (by first|rfl|(simp only[zaf,occH,occE,Res.ids,xag,List.nil_append,AV.idsL,AV.ids,zab,zaa,zad,zaj,xae,List.map_nil,upC];rfl)) (by first|rfl|(simp only[zaf,occH,occE,Res.ids,xag,List.nil_append,AV.idsL,AV.ids,zab,zaa,zad,zaj,xae,List.map_nil,upC];rfl)) ?_;refine so ty49 ?_;refine tv ?_;refine Walk.call (cr:=[]) zf3 (zbE) rfl .none rfl rfl (LeL.refl _) trivial rfl (by first|rfl|(simp only[zam,List.all_cons,List.all_nil,zaz,zat,AV.idsL,AV.ids,zab,zaa,xae,List.map_nil];rfl)) (by first|rfl|(simp only[zaf,occH,occE,Res.ids,xag,List.nil_append,AV.idsL,AV.ids,zab,zaa,zad,zaj,xae,List.map_nil,upC];rfl)) ?_;refine evd [81,123,161] [] ?_;refine xaO (cr:=[]) (lr:=[(63,_),(68,_),(64,_)]) zlT (himp) rfl .none rfl rfl (.cons (.ms (k:=2) List.mem_cons_self (by intro x hx;obtain⟨y,_,rfl⟩:=List.mem_map.1 hx;rfl) (by first|rfl|(simp[zai,Val.cs_len];done))) (.cons (.le (.refl _)) (.cons (.ms (k:=9) (List.mem_cons_of_mem _ List.mem_cons_self) Cl.rows (by first|rfl|(simp[zai,Val.cs_len];done))) (.cons (.agg (.cons (.le (.refl _)) (.cons (.le (.refl _)) (.cons (.ms (k:=3) (List.mem_cons_of_mem _ (List.mem_cons_of_mem _ List.mem_cons_self)) Val.cs_rows (by first|rfl|(simp[zai,Val.cs_len];done))) .nil)))) .nil)))) ⟨rfl,⟨rfl,⟨rfl,trivial⟩⟩⟩ rfl (by first|rfl|(simp only[zb3,zbC,zbj,AV.ids];rfl)) (by first|rfl|(simp only[zaf,occH,occE,Res.ids,xag,List.nil_append,AV.idsL,AV.ids,zab,zaa,zad,zaj,xae,List.map_nil,upC];rfl)) ?_;refine evd [81,123,161] [] ?_;refine dr ?_;refine sq ?_ ?_<;>intro h4 h4p h4s<;>(try simp only[Q] at h4p);refine sqT ?_;refine sqT ?_;refine rq ?_;rotate_left;refine Walk.call (cr:=[]) zis (zb6 (l:=[]) (m:=[]) hnok) rfl (.some rfl rfl h4) rfl rfl (LeL.refl _) trivial rfl (by first|rfl|(simp only[zam,List.all_cons,List.all_nil,zaz,zat,AV.idsL,AV.ids,zab,zaa,xae,List.map_nil];rfl)) (by first|rfl|(simp only[zaf,occH,occE,Res.ids,xag,List.nil_append,AV.idsL,AV.ids,zab,zaa,zad,zaj,xae,List.map_nil,upC];rfl)) ?_;refine evs [81,123,161] [(72,false)] ?_ ⟨⟨_,rfl,h4⟩,trivial⟩;refine sq ?_ ?_<;>intro h6 h6p h6s<;>(try simp only[Q] at h6p);refine sqT ?_;refine rq ?_;rotate_left;refine xaW un4 (.some rfl rfl h6) rfl rfl rfl ?_;refine evs [81,123,161] [(78,false)] ?_ ⟨⟨_,rfl,h6⟩,trivial⟩;refine sq ?_ ?_<;>intro h8 h8p h8s<;>(try simp only[Q] at h8p);refine rq ?_;rotate_left;refine Walk.call (cr:=[]) zf2 (zb7 hs) rfl .none rfl rfl (LeL.refl _) trivial rfl (by first|rfl|(simp only[zam,List.all_cons,List.all_nil,zaz,zat,AV.idsL,AV.ids,zab,zaa,xae,List.map_nil];rfl)) (by first|rfl|(simp only[zaf,occH,occE,Res.ids,xag,List.nil_append,AV.idsL,AV.ids,zab,zaa,zad,zaj,xae,List.map_nil,upC];rfl)) ?_;refine xaO (cr:=[]) (lr:=[(63,_)]) zpn (zf9 hs) rfl .none rfl rfl (.cons (.ms (k:=2) List.mem_cons_self (by intro x hx;obtain⟨y,_,rfl⟩:=List.mem_map.1 hx;rfl) (by first|rfl|(simp[zai,Val.cs_len];done))) (.cons (.le (.refl _)) .nil)) ⟨rfl,trivial⟩ rfl (by first|rfl|(simp only[zb3,zbC,zbj,AV.ids];rfl)) (by first|rfl|(simp only[zaf,occH,occE,Res.ids,xag,List.nil_append,AV.idsL,AV.ids,zab,zaa,zad,zaj,xae,List.map_nil,upC];rfl)) ?_;refine evs [81,123,161] [] ?_;refine sq ?_ ?_<;>intro h9 h9p h9s<;>(try simp only[Q] at h9p);refine rq ?_;rotate_left;refine Walk.call (cr:=[]) zf4 (zbM hok) rfl .none rfl rfl (LeL.refl _) trivial rfl (by first|rfl|(simp only[zam,List.all_cons,List.all_nil,zaz,zat,AV.idsL,AV.ids,zab,zaa,xae,List.map_nil];rfl)) (by first|rfl|(simp only[zaf,occH,occE,Res.ids,xag,List.nil_append,AV.idsL,AV.ids,zab,zaa,zad,zaj,xae,List.map_nil,upC];rfl)) ?_;refine xaO (cr:=[]) (lr:=[(68,_)]) zpo (zfj hok) rfl .none rfl rfl (.cons (.ms (k:=9) List.mem_cons_self Cl.rows (by first|rfl|(simp[zai,Val.cs_len];done))) (.cons (.le (.refl _)) .nil)) ⟨rfl,trivial⟩ rfl (by first|rfl|(simp only[zb3,zbC,zbj,AV.ids];rfl)) (by first|rfl|(simp only[zaf,occH,occE,Res.ids,xag,List.nil_append,AV.idsL,AV.ids,zab,zaa,zad,zaj,xae,List.map_nil,upC];rfl)) ?_;refine evs [81,123,161] [] ?_;refine sq ?_ ?_<;>intro h10 h10p h10s<;>(try simp only[Q] at h10p);refine rq ?_;rotate_left;refine Walk.call (cr:=[]) zfr (zb8 hvok) rfl .none rfl rfl (LeL.refl _) trivial rfl (by first|rfl|(simp only[zam,List.all_cons,List.all_nil,zaz,zat,AV.idsL,AV.ids,zab,zaa,xae,List.map_nil];rfl)) (by first|rfl|(simp only[zaf,occH,occE,Res.ids,xag,List.nil_append,AV.idsL,AV.ids,zab,zaa,zad,zaj,xae,List.map_nil,upC];rfl)) ?_;refine xaO (cr:=[]) (lr:=[(64,_)]) zlS (zde _ (Nat.le_refl _) hvok) rfl .none rfl rfl (.cons (.agg (.cons (.le (.refl _)) (.cons (.le (.refl _)) (.cons (.ms (k:=3) List.mem_cons_self Val.cs_rows (by first|rfl|(simp[zai,Val.cs_len];done))) .nil)))) (.cons (.le (.refl _)) .nil)) ⟨rfl,trivial⟩ rfl (by first|rfl|(simp only[zb3,zbC,zbj,AV.ids];rfl)) (by first|rfl|(simp only[zaf,occH,occE,Res.ids,xag,List.nil_append,AV.idsL,AV.ids,zab,zaa,zad,zaj,xae,List.map_nil,upC];rfl)) ?_;refine evd [81,123,161] [] ?_;refine dr ?_;refine sq ?_ ?_<;>intro h11 h11p h11s<;>(try simp only[Q] at h11p);refine rq ?_;rotate_left;refine Walk.call (cr:=[]) zpp (ziX (l:=w) (k:=1) (by omega) (by omega) hs) rfl .none rfl rfl (.cons (xav (by first|rfl|(simp[Val.cs_len];done))) (.cons (.refl _) .nil)) ⟨rfl,trivial⟩ rfl (by first|rfl|(simp only[zam,List.all_cons,List.all_nil,zaz,zat,AV.idsL,AV.ids,zab,zaa,xae,List.map_nil];rfl)) (by first|rfl|(simp only[zaf,occH,occE,Res.ids,xag,List.nil_append,AV.idsL,AV.ids,zab,zaa,zad,zaj,xae,List.map_nil,upC];rfl)) ?_;refine evs [81,123,161] [] ?_;refine Walk.call (cr:=[]) zpq (zhq (l:=cl) (k:=1+szL Data.sz w) (by omega) (by omega) hok) rfl .none rfl rfl (.cons (xav (by first|rfl|(simp[Val.cs_len];done))) (.cons (.refl _) .nil)) ⟨rfl,trivial⟩ rfl (by first|rfl|(simp only[zam,List.all_cons,List.all_nil,zaz,zat,AV.idsL,AV.ids,zab,zaa,xae,List.map_nil];rfl)) (by first|rfl|(simp only[zaf,occH,occE,Res.ids,xag,List.nil_append,AV.idsL,AV.ids,zab,zaa,zad,zaj,xae,List.map_nil,upC];rfl)) ?_;refine evs [81,123,161] [] ?_;refine Walk.call (cr:=[]) zpr (ziY (v:=v) (k:=1+szL Data.sz w+szL Cl.szM cl) (by omega) (by omega) hvok) rfl .none rfl rfl (.cons (.agg (.cons (.refl _) (.cons (.refl _) (.cons (xav (by first|rfl|(simp[Val.cs_len];done))) .nil)))) (.cons (.refl _) .nil)) ⟨rfl,trivial⟩ rfl (by first|rfl|(simp only[zam,List.all_cons,List.all_nil,zaz,zat,AV.idsL,AV.ids,zab,zaa,xae,List.map_nil];rfl)) (by first|rfl|(simp only[zaf,occH,occE,Res.ids,xag,List.nil_append,AV.idsL,AV.ids,zab,zaa,zad,zaj,xae,List.map_nil,upC];rfl)) ?_;refine evs [81,123,161] [] ?_;refine sq ?_ ?_<;>intro h12 h12p h12s<;>(try simp only[Q] at h12p);refine sqT ?_;refine sqT ?_;refine sqT ?_;refine rq ?_;rotate_left;refine sq ?_ ?_<;>intro h14 h14p h14s<;>(try simp only[Q] at h14p);refine sqT ?_;refine sqT ?_;refine rq ?_;rotate_left;refine Walk.call (cr:=[]) zis (zb6 (l:=[]) (m:=[]) hnok) rfl (.some rfl rfl h14) rfl rfl (LeL.refl _) trivial rfl (by first|rfl|(simp only[zam,List.all_cons,List.all_nil,zaz,zat,AV.idsL,AV.ids,zab,zaa,xae,List.map_nil];rfl)) (by first|rfl|(simp only[zaf,occH,occE,Res.ids,xag,List.nil_append,AV.idsL,AV.ids,zab,zaa,zad,zaj,xae,List.map_nil,upC];rfl)) ?_;refine evs [81,123,161] [(114,false)] ?_ ⟨⟨_,rfl,h14⟩,trivial⟩;refine sq ?_ ?_<;>intro h16 h16p h16s<;>(try simp only[Q] at h16p);refine sqT ?_;refine rq ?_;rotate_left;refine xaW un4 (.some rfl rfl h16) rfl rfl rfl ?_;refine evs [81,123,161] [(120,false)] ?_ ⟨⟨_,rfl,h16⟩,trivial⟩;refine sq ?_ ?_<;>intro h18 h18p h18s<;>(try simp only[Q] at h18p);refine rq ?_;rotate_left;refine Walk.call (cr:=[]) zpt (zhW (l:=[]) rfl) rfl .none rfl rfl (LeL.refl _) trivial rfl (by first|rfl|(simp only[zam,List.all_cons,List.all_nil,zaz,zat,AV.idsL,AV.ids,zab,zaa,xae,List.map_nil];rfl)) (by first|rfl|(simp only[zaf,occH,occE,Res.ids,xag,List.nil_append,AV.idsL,AV.ids,zab,zaa,zad,zaj,xae,List.map_nil,upC];rfl)) ?_;refine evs [81,123,161] [] ?_;refine Walk.call (cr:=[]) zlU (zcJ (l:=[]) (k:=1) (by omega) (by simp[szL]) hnok) rfl .none rfl rfl (LeL.refl _) trivial rfl (by first|rfl|(simp only[zam,List.all_cons,List.all_nil,zaz,zat,AV.idsL,AV.ids,zab,zaa,xae,List.map_nil];rfl)) (by first|rfl|(simp only[zaf,occH,occE,Res.ids,xag,List.nil_append,AV.idsL,AV.ids,zab,zaa,zad,zaj,xae,List.map_nil,upC];rfl)) ?_;refine evs [81,123,161] [] ?_;refine sq ?_ ?_<;>intro h19 h19p h19s<;>(try simp only[Q] at h19p);refine rq ?_;rotate_left;refine sq ?_ ?_<;>intro h20 h20p h20s<;>(try simp only[Q] at h20p);refine rq ?_;rotate_left;refine Walk.call (cr:=[]) zf2 (zb7 hs) rfl .none rfl rfl (LeL.refl _) trivial rfl (by first|rfl|(simp only[zam,List.all_cons,List.all_nil,zaz,zat,AV.idsL,AV.ids,zab,zaa,xae,List.map_nil];rfl)) (by first|rfl|(simp only[zaf,occH,occE,Res.ids,xag,List.nil_append,AV.idsL,AV.ids,zab,zaa,zad,zaj,xae,List.map_nil,upC];rfl)) ?_;refine evd [81,123,161] [] ?_;refine Walk.call (cr:=[]) zf3 (zbE) rfl .none rfl rfl (LeL.refl _) trivial rfl (by first|rfl|(simp only[zam,List.all_cons,List.all_nil,zaz,zat,AV.idsL,AV.ids,zab,zaa,xae,List.map_nil];rfl)) (by first|rfl|(simp only[zaf,occH,occE,Res.ids,xag,List.nil_append,AV.idsL,AV.ids,zab,zaa,zad,zaj,xae,List.map_nil,upC];rfl)) ?_;refine evd [81,123,161] [] ?_;refine Walk.call (cr:=[]) zf4 (zbM hok) rfl .none rfl rfl (LeL.refl _) trivial rfl (by first|rfl|(simp only[zam,List.all_cons,List.all_nil,zaz,zat,AV.idsL,AV.ids,zab,zaa,xae,List.map_nil];rfl)) (by first|rfl|(simp only[zaf,occH,occE,Res.ids,xag,List.nil_append,AV.idsL,AV.ids,zab,zaa,zad,zaj,xae,List.map_nil,upC];rfl)) ?_;refine evd [81,123,161] [] ?_;refine Walk.call (cr:=[]) zfr (zb8 hvok) rfl .none rfl rfl (LeL.refl _) trivial rfl (by first|rfl|(simp only[zam,List.all_cons,List.all_nil,zaz,zat,AV.idsL,AV.ids,zab,zaa,xae,List.map_nil];rfl)) (by first|rfl|(simp only[zaf,occH,occE,Res.ids,xag,List.nil_append,AV.idsL,AV.ids,zab,zaa,zad,zaj,xae,List.map_nil,upC];rfl)) ?_;refine Walk.call (cr:=[]) zlT (himp) rfl .none rfl rfl (LeL.refl _) trivial rfl (by first|rfl|(simp only[zam,List.all_cons,List.all_nil,zaz,zat,AV.idsL,AV.ids,zab,zaa,xae,List.map_nil];rfl)) (by first|rfl|(simp only[zaf,occH,occE,Res.ids,xag,List.nil_append,AV.idsL,AV.ids,zab,zaa,zad,zaj,xae,List.map_nil,upC];rfl)) ?_;refine evd [81,123,161] [] ?_;refine dr ?_;refine sq ?_ ?_<;>intro h21 h21p h21s<;>(try simp only[Q] at h21p);refine sqT ?_;refine sqT ?_;refine rq ?_;rotate_left;refine Walk.call (cr:=[]) zis (zb6 (l:=[]) (m:=[]) hnok) rfl (.some rfl rfl h21) rfl rfl (LeL.refl _) trivial rfl (by first|rfl|(simp only[zam,List.all_cons,List.all_nil,zaz,zat,AV.idsL,AV.ids,zab,zaa,xae,List.map_nil];rfl)) (by first|rfl|(simp only[zaf,occH,occE,Res.ids,xag,List.nil_append,AV.idsL,AV.ids,zab,zaa,zad,zaj,xae,List.map_nil,upC];rfl)) ?_;refine evs [81,123,161] [(152,false)] ?_ ⟨⟨_,rfl,h21⟩,trivial⟩;refine sq ?_ ?_<;>intro h23 h23p h23s<;>(try simp only[Q] at h23p);refine sqT ?_;refine rq ?_;rotate_left;refine xaW un4 (.some rfl rfl h23) rfl rfl rfl ?_;refine evs [81,123,161] [(158,false)] ?_ ⟨⟨_,rfl,h23⟩,trivial⟩;refine sq ?_ ?_<;>intro h25 h25p h25s<;>(try simp only[Q] at h25p);refine rq ?_;rotate_left;refine Walk.call (cr:=[]) zlU (zcJ (l:=[]) (k:=1) (by omega) (by simp[szL]) hnok) rfl .none rfl rfl (LeL.refl _) trivial rfl (by first|rfl|(simp only[zam,List.all_cons,List.all_nil,zaz,zat,AV.idsL,AV.ids,zab,zaa,xae,List.map_nil];rfl)) (by first|rfl|(simp only[zaf,occH,occE,Res.ids,xag,List.nil_append,AV.idsL,AV.ids,zab,zaa,zad,zaj,xae,List.map_nil,upC];rfl)) ?_;refine evs [81,123,161] [] ?_;refine sq ?_ ?_<;>intro h26 h26p h26s<;>(try simp only[Q] at h26p);refine rq ?_;rotate_left;refine sq ?_ ?_<;>intro h27 h27p h27s<;>(try simp only[Q] at h27p);refine rq ?_;rotate_left;refine rq ?_;rotate_left;all_goals (first|rfl|(exfalso;simp_all[zft,zdO,zfp,szL];done)|(exfalso;simp[zft,zdO,zfp,szL] at *;omega))
theorem zfw {w:List Data} (hs:WSmall w){a k:Int}{cl:List Cl} (hok:ClsOk cl) (hz:ClsSz cl){v:Val} (hvok:v.ok) (hvz:v.size<=1000000000000):
  FnD Tryz.prog 9 [.d (zao w),.agg [.d (.i a),.d (.i k)],.d (zbi cl),.agg [.d (.i v.ctor),.d (.i v.num),.d (zaq v.kids)]] [] (.d (.bool true)) []:=by
 have hspec:=zil hs (a:=a) (k:=k) hok hz hvok hvz;have himp:=zhP hs (a:=a) (k:=k) hok hvok;by_cases hg:za4 w ⟨a,k⟩ cl=true/\isV w ⟨a,k⟩ v=true
 ·rw[zju hg.1 hg.2] at hspec himp;have hr:=zit (a:=a) (k:=k) hg.1 hok hvok hg.2;have hv60:v.size<=60:=by
   have:=hg.2;unfold isV at this;rw[xad,decide_eq_true_eq] at this;omega
  rcases zia v cl 0 with ⟨h1,h2,h3⟩|⟨j,h1,h2,h3,h4,h5⟩
  ·rw[h2] at hspec himp;exact zdP hs hok hvok hspec himp
  ·by_cases hne:(runV cl v 0).2=[]
   ·rw[hne] at hspec himp;exact zdP hs hok hvok hspec himp
   ·have hb:=znD hr 0;have hm:(zak 10 (nth cl j).pat v).2=true:=by unfold zcr at h4;rw[xad] at h4;exact h4.1
    have hbo:=zjy (zb2 10 (hr j h1).1.shape (hr j h1).1.vok).1;rw[<-h3] at hbo;have hsz:=znO (S:=(runV cl v 0).2) (fun b hb'=>by have:=(hbo b hb').2;omega);have h8:(runV cl v 0).1=(j:Int):=by rw[h2];omega
    have hown:=zhv hs (a:=a) (k:=k) hok hvok hg.1 hg.2 h1 h5 h4 h3.symm hne;rw[h8] at hspec himp;exact ziG hs hok hvok hne ⟨by have:=hb.1;omega,hb.2⟩ (by have:=hb.1;omega) hspec himp hown
 ·rw[zgN hg] at hspec himp;exact zdP hs hok hvok hspec himp
end Go.Proofs.YtlfipehhbdjnjaaGreat
