/-
  THE ABSTRACT WALK AND THE WALKS, part 4 of 6: the parts F18, F19, F31, F32, F33, F34, F35, F36, F37, F38, F39, Ta, F90, F91, F92, F93, F94, F97, F98, F99, F95, F96, F100, F101, F103, F104, F105, F111, G3, G4, F70, F71, F72, F74.
-/
import Derived.Test.YtlfipehhbdjnjaaGreatT513
namespace Go.Proofs.YtlfipehhbdjnjaaGreat
open Go
set_option linter.unusedSimpArgs false
set_option linter.unusedVariables false
set_option maxRecDepth 100000
set_option maxHeartbeats 2000000
abbrev zmH (x:UInt8):List D:=[.int .u8 (x.toNat:Int)]
abbrev zcx (b:Str):D:= .sl (b.map zmH)
abbrev rdB (b:Str) (p:Nat):Res:= .box [.d (zcx b),.d (.i p)]
theorem zof (u:UInt8):0<=IntKind.i64.wrap (u.toNat:Int)/\IntKind.i64.wrap (u.toNat:Int)<=255:=by
 have h:u.toNat<256:=u.toNat_lt;rw[zd3 (by omega)];omega
def zij (b:Str) (p:Nat):Int:=
 IntKind.i64.wrap ((nth b (p % b.length)).toNat:Int)*131+IntKind.i64.wrap ((nth b ((p*7+3) % b.length)).toNat:Int)*1117+((p:Int)+1-1)*29+((p:Int)+1-1) / ((b.map zmH).length:Int)*53
def zap (b:Str) (p:Nat) (n:Int):Int:=
 if n<1\/b.length=0 then 0
 else if p<b.length then IntKind.i64.wrap ((nth b p).toNat:Int) % n
 else xorV (zij b p) (zij b p / 64) % n
theorem zcR {b:Str}{p:Nat}{n:Int} (h:1<=n):0<=zap b p n/\zap b p n<n:=by
 unfold zap;split
 ·omega
 ·split
  ·exact⟨Int.emod_nonneg _ (by omega),Int.emod_lt_of_pos _ (by omega)⟩
  ·exact⟨Int.emod_nonneg _ (by omega),Int.emod_lt_of_pos _ (by omega)⟩
theorem zaS {b:Str}{p:Nat}{n:Int} (hb:b.length<=2000) (hp:p<=1000000000000) (hn:n<=1000000000000):
  FnD Tryz.prog 57 [.ref 900 0,.d (.i n)] [(900,some (rdB b p))] (.d (.i (zap b p n))) [(900,some (rdB b (p+1)))]:=by
 have w1:=zof (nth b (p % b.length));have w2:=zof (nth b ((p*7+3) % b.length));have w3:=zof (nth b p);have hlen:((b.map zmH).length:Int)=b.length:=by simp
 have d1:0<=((p:Int)+1-1) / ((b.map zmH).length:Int):=Int.ediv_nonneg (by omega) (by omega);have d2:((p:Int)+1-1) / ((b.map zmH).length:Int)<=(p:Int)+1-1:=Int.ediv_le_self _ (by omega);have hx:0<=zij b p/\zij b p<=100*1000000000000:=by unfold zij;omega
 have hx2:=zxb (m:=zij b p) (n:=zij b p / 64) (by omega) (by omega);have k1:(p:Int)+1-1=(p:Int):=by omega
 have hx3:=hx2;have hx4:=hx;unfold zij at hx3 hx4;refine bd Tryz.f57 99 [46,57,74,89,94,95,98] [] fun w0 F0 own kept hk=>?_;refine ar ?_;refine so ty3 ?_;refine tv ?_;refine sq ?_ ?_<;>intro h1 h1p h1s<;>(try simp only[Q] at h1p);refine sqT ?_;refine rn [(900,some (rdB b (p+1)))] (r1 rfl) (.eqd ?_) ⟨rfl,rfl⟩ (SubO.get ⟨.inr ?_,⟨.inl rfl,trivial⟩⟩) (zay rfl);rotate_left 2;refine sq ?_ ?_<;>intro h3 h3p h3s<;>(try simp only[Q] at h3p);refine rn [(900,some (rdB b (p+1)))] (r1 rfl) (.eqd ?_) ⟨rfl,rfl⟩ (SubO.get ⟨.inr ?_,⟨.inl rfl,trivial⟩⟩) (zay rfl);rotate_left 2;refine ar ?_;refine sq ?_ ?_<;>intro h4 h4p h4s<;>(try simp only[Q] at h4p);refine xaU (i:=p) sl22 .none rfl rfl rfl (by omega) (zaq (by omega)) rfl ?_;refine evs [46,57,74,89,94,95,98] [] ?_;refine xaM (by rw[un5];rfl) un3 .none rfl rfl ?_;refine evs [46,57,74,89,94,95,98] [] ?_;refine xbf .none rfl rfl rfl (by omega) ?_;refine evs [46,57,74,89,94,95,98] [] ?_;refine rn [(900,some (rdB b (p+1)))] (r1 rfl) (.eqd ?_) ⟨rfl,rfl⟩ (SubO.get ⟨.inr ?_,⟨.inl rfl,trivial⟩⟩) (zay rfl);rotate_left 2;refine xbf .none rfl rfl rfl (by omega) ?_;refine xaU (i:=p % b.length) sl22 .none rfl rfl rfl (by rw[k1,hlen];rfl) (zaq (Nat.mod_lt _ (by omega))) rfl ?_;refine evd [46,57,74,89,94,95,98] [] ?_;refine xaM (by rw[un5];rfl) un3 .none rfl rfl ?_;refine evd [46,57,74,89,94,95,98] [] ?_;refine ar ?_;refine ar ?_;refine ar ?_;refine xbf .none rfl rfl rfl (by omega) ?_;refine xaU (i:=(p*7+3) % b.length) sl22 .none rfl rfl rfl (by rw[k1,hlen];rfl) (zaq (Nat.mod_lt _ (by omega))) rfl ?_;refine evd [46,57,74,89,94,95,98] [] ?_;refine xaM (by rw[un5];rfl) un3 .none rfl rfl ?_;refine evd [46,57,74,89,94,95,98] [] ?_;refine ar ?_;refine ar ?_;refine ar ?_;refine ar ?_;refine xbd .none rfl rfl rfl (by omega) ?_;refine evd [46,57,74,89,94,95,98] [] ?_;refine ar ?_;refine ar ?_;refine dr ?_;refine xbd .none rfl rfl rfl (by omega) ?_;refine Walk.xorI .none rfl rfl rfl ?_;refine evs [46,57,74,89,94,95,98] [] ?_;refine xbf .none rfl rfl rfl (by omega) ?_;refine evs [46,57,74,89,94,95,98] [] ?_;refine rn [(900,some (rdB b (p+1)))] (r1 rfl) (.eqd ?_) ⟨rfl,rfl⟩ (SubO.get ⟨.inr ?_,⟨.inl rfl,trivial⟩⟩) (zay rfl);rotate_left 2;all_goals (first|((refine congrArg D.i ?_;unfold zap;first|(rw[if_pos (by omega)];done)|(rw[if_neg (by omega),if_pos (by omega)];done)|(rw[if_neg (by omega),if_neg (by omega)];rfl));done)|(rfl))
def numV (b:Str) (p:Nat) (l:List Int):Int:=nth l (zap b p l.length).toNat
theorem zbX {b:Str}{p:Nat}{l:List Int} (hb:b.length<=2000) (hp:p<=1000000000000) (hl:1<=l.length) (hl2:l.length<=1000):
  FnD Tryz.prog 174 [.ref 900 0,.d (zcy l)] [(900,some (rdB b p))] (.d (.i (numV b p l))) [(900,some (rdB b (p+1)))]:=by
 have hv:=zcR (b:=b) (p:=p) (n:=((l.map fun n=>[D.i n]).length:Int)) (by simp;omega);have hlen:((l.map fun n=>[D.i n]).length:Int)=l.length:=by simp
 refine bd Tryz.f174 12 [] [] fun w0 F0 own kept hk=>?_;refine wd zch (zaS hb hp (by simp;omega)) rfl rfl ⟨rfl,trivial⟩ ?_;refine xaU (i:=(zap b p ((l.map fun n=>[D.i n]).length:Int)).toNat) sl29 .none rfl rfl rfl (by omega) (zaq (by omega)) rfl ?_;refine ev ?_;refine rn [(900,some (rdB b (p+1)))] (r1 rfl) (.eqd ?_) ⟨rfl,rfl⟩ (SubO.get ⟨.inr ?_,⟨.inl rfl,trivial⟩⟩) (zay rfl);rotate_left 2;all_goals (first|((refine congrArg D.i ?_;unfold numV;rw[hlen]);done)|(rfl))
theorem znK {b:Str} (hb:b.length<=1000000000000):FnD Tryz.prog 55 [.d (zcx b)] [] (.ref 900 0) [(900,some (rdB (b.take 2000) 0))]:=by
 refine bd Tryz.f55 11 [] [] fun w0 F0 own kept hk=>?_;refine sq ?_ ?_<;>intro h1 h1p h1s<;>(try simp only[Q] at h1p);refine Walk.cut_h (b:=2000) sl22 .none rfl rfl rfl (by intro x hx;obtain⟨y,_,rfl⟩:=List.mem_map.1 hx;rfl) rfl rfl (by simp at *;omega) ?_;refine ev ?_;refine bu [0] [_] zwl ?_;refine bx 900 ?_;refine ev ?_;focus (refine rn [(900,some (rdB (b.take 2000) 0))] (r1 rfl) (.refl _) ⟨rfl,rfl⟩ (SubH.get ⟨(by first|(simp[getH,rdB,zcx,List.map_take];done)|(show some (Res.box _)=some (Res.box _);rw[List.take_of_length_le (by simp at *;omega)];rfl)),trivial⟩) (zay rfl);all_goals (first|rfl|(simp[h1s,h1p];done)|(simp_all;done)|(simp_all;omega)|omega))
 refine bu [0] [_] zwl ?_;refine bx 900 ?_;refine ev ?_;focus (refine rn [(900,some (rdB (b.take 2000) 0))] (r1 rfl) (.refl _) ⟨rfl,rfl⟩ (SubH.get ⟨(by first|(simp[getH,rdB,zcx,List.map_take];done)|(show some (Res.box _)=some (Res.box _);rw[List.take_of_length_le (by simp at *;omega)];rfl)),trivial⟩) (zay rfl);all_goals (first|rfl|(simp[h1s,h1p];done)|(simp_all;done)|(simp_all;omega)|omega))
def cutL (c:UInt8):Str->Str->List Str
 |cur,[]=>[cur]
 |cur,x::r=>if x=c then cur::cutL c [] r else cutL c (cur++[x]) r
theorem zes (c:UInt8):∀(s cur:Str),(cutL c cur s).length<=s.length+1
 | [],cur=>by simp[cutL]
 |x::r,cur=>by
  simp only[cutL];split
  ·have:=zes c r [];simp only[xab];omega
  ·have:=zes c r (cur++[x]);simp only[xab];omega
theorem zjm (c:UInt8):∀(s cur:Str),1<=(cutL c cur s).length
 | [],cur=>by simp[cutL]
 |x::r,cur=>by
  simp only[cutL];split
  ·simp
  ·exact zjm c r (cur++[x])
theorem zjl (c:UInt8):∀(s cur:Str) (t:Str),t∈cutL c cur s->t.length<=cur.length+s.length
 | [],cur,t,h=>by simp only[cutL,List.mem_singleton] at h;subst h;simp
 |x::r,cur,t,h=>by
  simp only[cutL] at h;split at h
  ·rcases List.mem_cons.1 h with rfl|h
   ·simp
   ·have:=zjl c r [] t h;simp only[xab,xai] at this ⊢;omega
  ·have:=zjl c r (cur++[x]) t h;simp only[xaa,xab,xai] at this ⊢;omega
theorem zh0 {s:Str}{i:Nat} (h:i<s.length):s[i]?=some (nth s i):=by rw[za1 h];exact List.getElem?_eq_getElem h
theorem zlZ {s:Str}{f i:Nat} (hf:f<=i) (h:i<s.length):(s.take (i+1)).drop f=(s.take i).drop f++[nth s i]:=by
 rw[List.take_add_one,List.getElem?_eq_getElem h,List.drop_append_of_le_length (by simp;omega),za1 h];rfl
theorem zqR {s:Str}{f i:Nat}:(s.drop f).take (i-f)=(s.take i).drop f:=by rw[List.drop_take]
theorem zcB {s:Str}{c:UInt8} (hs:s.length<=1000000000000):FnD Tryz.prog 261 [.d (.str s),.d (.int .u8 (c.toNat:Int))] [] (.d (zfi (cutL c [] s))) []:=by
 have hu:∀a:UInt8,((a.toNat:Int)=(c.toNat:Int))↔a=c:=fun a=>by rw[Int.natCast_inj];exact UInt8.toNat_inj
 refine bd Tryz.f261 36 [] [] fun w0 F0 own kept hk=>?_;refine xbh 1 zbY .none rfl rfl ?_;refine ev ?_;refine xak (ι:=Nat×Nat×List Str) hk (fun x=>[(7,.d (.i (x.1:Int))),(6,.d (.i (x.2.1:Int))),(5,.gl 1 (x.2.2.map fun n=>[D.str n]))]) [9,10,11,12,13,14,15,16,17,18,19,20,21,22,23,24,25,26,27,28,29,30,31,32,33,34] (fun x=>[(1,some (.tok ((x.2.2.map fun n=>[D.str n])).length 1))]) (fun x=>x.1<=s.length+1/\x.2.2.length<=x.1/\if x.1=s.length+1 then x.2.2=cutL c [] s else x.2.1<=x.1/\x.2.2++cutL c ((s.take x.1).drop x.2.1) (s.drop x.1)=cutL c [] s) (fun x=>s.length+1-x.1) (0,0,[]) ⟨by simp,by simp,by rw[if_neg (by simp)];simp⟩ ⟨⟨_,rfl,xaq ?_⟩,⟨⟨_,rfl,xaq ?_⟩,⟨⟨_,rfl,LeA.glg ?_⟩,trivial⟩⟩⟩ ⟨zab ?_,trivial⟩ (fun x=>rfl) (fun x hg1=>?_);iterate 4 focus (rfl)
 refine evc [] [] ?_;refine sq ?_ ?_<;>intro h1 h1p h1s<;>(try simp only[Q,hu] at h1p);have hne:¬x.1=s.length+1:=(by omega);have hcond:=hg1.2.2;rw[if_neg hne] at hcond;have hle:=hcond.1;refine sq ?_ ?_<;>intro h2 h2p h2s<;>(try simp only[Q,hu] at h2p);refine sqT ?_;refine xaO un9 .none rfl rfl rfl rfl rfl rfl (by omega) (by omega) ?_;refine si [0] [_] zbY tz9 ?_;refine ap zbY zz9 rfl rfl rfl (by simp) (by simp;omega) ?_;refine ev ?_;refine ar ?_;refine ar ?_;refine xah (if x.1=s.length\/nth s x.1=c then (x.1+1,x.1+1,x.2.2++[(s.take x.1).drop x.2.1]) else (x.1+1,x.2.1,x.2.2)) ⟨(by
    have hne:¬x.1=s.length+1:=by omega
    rw[if_neg hne] at hg1;obtain⟨g1,g2,g3,g4⟩:=hg1;by_cases he:x.1=s.length
    ·rw[if_pos (.inl he)];refine⟨by dsimp only;omega,by simp;omega, ?_⟩;dsimp only;rw[if_pos (by omega),<-g4,he,List.drop_length];rfl
    ·have hlt:x.1<s.length:=by omega
     rw[zaH hlt] at g4;by_cases hc:nth s x.1=c
     ·rw[if_pos (.inr hc)];refine⟨by dsimp only;omega,by simp;omega, ?_⟩;dsimp only;rw[if_neg (by omega)];refine⟨by omega, ?_⟩;rw[<-g4,cutL,if_pos hc,List.append_assoc];simp
     ·rw[if_neg (by simp[he,hc])];refine⟨by dsimp only;omega,by dsimp only;omega, ?_⟩;dsimp only;rw[if_neg (by omega)];refine⟨by omega, ?_⟩;rw[<-g4,cutL,if_neg hc,zlZ g3 hlt]),(by split<;>(dsimp only;omega)),sx ⟨⟨_,rfl,xaq ?_⟩,⟨⟨_,rfl,xaq ?_⟩,⟨⟨_,rfl,LeA.glg ?_⟩,trivial⟩⟩⟩ ⟨zab ?_,trivial⟩⟩
 iterate 4 focus ((split<;>first|(simp[zqR];done)|(simp;done)|(exfalso;simp_all;done)|(exfalso;simp_all;omega)))
 refine xaZ un9 (.some rfl rfl h2) rfl rfl rfl rfl (zh0 (by omega)) ?_;refine evs [] [(19,false)] ?_ ⟨⟨_,rfl,h2⟩,trivial⟩;refine sq ?_ ?_<;>intro h4 h4p h4s<;>(try simp only[Q,hu] at h4p);refine xaO un9 .none rfl rfl rfl rfl rfl rfl (by omega) (by omega) ?_;refine si [0] [_] zbY tz9 ?_;refine ap zbY zz9 rfl rfl rfl (by simp) (by simp;omega) ?_;refine ev ?_;refine ar ?_;refine ar ?_;refine xah (if x.1=s.length\/nth s x.1=c then (x.1+1,x.1+1,x.2.2++[(s.take x.1).drop x.2.1]) else (x.1+1,x.2.1,x.2.2)) ⟨(by
    have hne:¬x.1=s.length+1:=by omega
    rw[if_neg hne] at hg1;obtain⟨g1,g2,g3,g4⟩:=hg1;by_cases he:x.1=s.length
    ·rw[if_pos (.inl he)];refine⟨by dsimp only;omega,by simp;omega, ?_⟩;dsimp only;rw[if_pos (by omega),<-g4,he,List.drop_length];rfl
    ·have hlt:x.1<s.length:=by omega
     rw[zaH hlt] at g4;by_cases hc:nth s x.1=c
     ·rw[if_pos (.inr hc)];refine⟨by dsimp only;omega,by simp;omega, ?_⟩;dsimp only;rw[if_neg (by omega)];refine⟨by omega, ?_⟩;rw[<-g4,cutL,if_pos hc,List.append_assoc];simp
     ·rw[if_neg (by simp[he,hc])];refine⟨by dsimp only;omega,by dsimp only;omega, ?_⟩;dsimp only;rw[if_neg (by omega)];refine⟨by omega, ?_⟩;rw[<-g4,cutL,if_neg hc,zlZ g3 hlt]),(by split<;>(dsimp only;omega)),sx ⟨⟨_,rfl,xaq ?_⟩,⟨⟨_,rfl,xaq ?_⟩,⟨⟨_,rfl,LeA.glg ?_⟩,trivial⟩⟩⟩ ⟨zab ?_,trivial⟩⟩
 iterate 4 focus ((split<;>first|(simp[zqR];done)|(simp;done)|(exfalso;simp_all;done)|(exfalso;simp_all;omega)))
 refine ar ?_;refine xah (if x.1=s.length\/nth s x.1=c then (x.1+1,x.1+1,x.2.2++[(s.take x.1).drop x.2.1]) else (x.1+1,x.2.1,x.2.2)) ⟨(by
    have hne:¬x.1=s.length+1:=by omega
    rw[if_neg hne] at hg1;obtain⟨g1,g2,g3,g4⟩:=hg1;by_cases he:x.1=s.length
    ·rw[if_pos (.inl he)];refine⟨by dsimp only;omega,by simp;omega, ?_⟩;dsimp only;rw[if_pos (by omega),<-g4,he,List.drop_length];rfl
    ·have hlt:x.1<s.length:=by omega
     rw[zaH hlt] at g4;by_cases hc:nth s x.1=c
     ·rw[if_pos (.inr hc)];refine⟨by dsimp only;omega,by simp;omega, ?_⟩;dsimp only;rw[if_neg (by omega)];refine⟨by omega, ?_⟩;rw[<-g4,cutL,if_pos hc,List.append_assoc];simp
     ·rw[if_neg (by simp[he,hc])];refine⟨by dsimp only;omega,by dsimp only;omega, ?_⟩;dsimp only;rw[if_neg (by omega)];refine⟨by omega, ?_⟩;rw[<-g4,cutL,if_neg hc,zlZ g3 hlt]),(by split<;>(dsimp only;omega)),sx ⟨⟨_,rfl,xaq ?_⟩,⟨⟨_,rfl,xaq ?_⟩,⟨⟨_,rfl,LeA.glg ?_⟩,trivial⟩⟩⟩ ⟨zab ?_,trivial⟩⟩
 iterate 4 focus ((split<;>first|rfl|(exfalso;simp_all;done)|(exfalso;simp_all;omega)))
 refine rn0 (r1 rfl) (.gld ?_);rotate_left;all_goals (have e:x.1=s.length+1:=(by omega);rw[if_pos e] at hg1;rw[hg1.2.2])
def zs9 (names:List Str) (s:Str):Int:=if s=[73] then -1 else if s∈names then idxF (fun n=>decide (n=s)) names 0 else -2
theorem zoM {names:List Str}{s:Str} (hn:names.length<=1000000000000):FnD Tryz.prog 359 [.d (zfi names),.d (.str s)] [] (.d (.i (zs9 names s))) []:=by
 refine bd Tryz.f359 21 [] [] fun w0 F0 own kept hk=>?_;refine sq ?_ ?_<;>intro h1 h1p h1s<;>(try simp only[Q] at h1p);refine rq ?_;rotate_left;refine xak (ι:=List (Str)×List (Str)) hk (fun x=>[(5,.d (.i (x.1.length:Int)))]) [4,8,9,10,11,12,13,14,15,16,17,18,19,20] (fun x=>[]) (fun x=>x.1++x.2=names/\s∉x.1/\idxF (fun n=>decide (n=s)) x.2 x.1.length=idxF (fun n=>decide (n=s)) names 0) (fun x=>x.2.length) ([],names) ⟨by simp,by simp,rfl⟩ ⟨⟨_,rfl,xaq ?_⟩,trivial⟩ trivial (fun x=>rfl) (fun x hg1=>?_);focus (rfl)
 obtain⟨pre,rest⟩:=x;dsimp only at hg1 ⊢;refine evc [] [] ?_;refine sq ?_ ?_<;>intro h2 h2p h2s<;>(try simp only[Q] at h2p);rcases rest with _|⟨y,rest⟩
 ·exfalso;simp_all
 refine xaU zbY .none rfl rfl rfl rfl (zaG hg1.1) rfl ?_;refine ev ?_;refine sq ?_ ?_<;>intro h3 h3p h3s<;>(try simp only[Q] at h3p);refine rq ?_;rotate_left;refine ar ?_;refine xah ((pre++[y],rest)) ⟨⟨(by have hz:=hg1.1;rw[<-hz];simp),⟨(by have h1:=hg1.2.1;simp_all[eq_comm]),(by rw[<-hg1.2.2];simp_all[idxF])⟩⟩,(by simp),sx ⟨⟨_,rfl,xaq ?_⟩,trivial⟩ trivial⟩;focus ((simp;done))
 have hrest:rest=[]:=by
  rcases rest with _|⟨a,b⟩
  ·rfl
  ·exfalso;have hz:=congrArg List.length (hg1.1);simp only[xaa,xab,xac] at hz;omega
 subst hrest;refine rq ?_;rotate_left;all_goals (refine congrArg D.i ?_;unfold zs9;by_cases hz:s=[73]<;>by_cases hm:s∈names<;>simp only[hz,hm,if_true,if_false];all_goals first|(exfalso;simp_all;done)|(exfalso;apply hm;subst h3p;rw[<-hg1.1];simp;done)|(exfalso;apply hg1.2.1;rw[<-hg1.1,List.append_nil] at hm;exact hm)|(rw[<-hg1.2.2];simp_all[idxF];done))
def zfn (names:List Str) (s:Str):Ty:=
 if s=[] then ⟨-2,0⟩
 else ⟨zs9 names (s.take 1),if s.drop 1=[42] then -1 else if s.length=2/\48<=(nth s 1).toNat/\(nth s 1).toNat<=57 then ((nth s 1).toNat:Int)-48 else 0⟩
theorem zs7 {b:UInt8} (h1:48<=b.toNat) (h2:b.toNat<=57):IntKind.i64.wrap (IntKind.u8.wrap ((b.toNat:Int)-48))=(b.toNat:Int)-48:=by
 rw[zw8,zd3 (by omega)];omega
theorem zf2 {names:List Str}{s:Str} (hn:names.length<=1000000000000) (hs:s.length<=1000000000000):
  FnD Tryz.prog 324 [.d (zfi names),.d (.str s)] [] (.agg [.d (.i (zfn names s).data),.d (.i (zfn names s).index)]) []:=by
 have hlen:s≠[]->1<=s.length:=fun h=>by rcases s with _|⟨a,r⟩;exact absurd rfl h;simp
 refine bd Tryz.f324 39 [35] [] fun w0 F0 own kept hk=>?_;refine ab 3004 tz25 ?_;refine tv ?_;refine sq ?_ ?_<;>intro h1 h1p h1s<;>(try simp only[Q] at h1p);refine bu [0] [_] st25 ?_;refine so ty25 ?_;refine tv ?_;refine rn0 (.cons (.cellA ty25 rfl rfl rfl) .nil) (.agg (.cons (.eqd ?_) (.cons (.eqd ?_) .nil)));rotate_left 2;refine xaN (b:=1) un9 .none rfl rfl rfl rfl (by have:=hlen (by simp_all);omega) ?_;refine wc zx7 (zoM (names:=names) (s:=s.take 1) hn) rfl rfl ?_;refine bu [0] [_] st25 ?_;refine ab 3005 tz25 ?_;refine so ty25 ?_;refine tv ?_;refine Walk.cutS_l (b:=1) un9 .none rfl rfl rfl rfl (by have:=hlen (by simp_all);omega) ?_;refine evs [35] [] ?_;refine sq ?_ ?_<;>intro h2 h2p h2s<;>(try simp only[Q] at h2p);refine so ty3 ?_;refine tv ?_;refine so ty25 ?_;refine tv ?_;refine rn0 (.cons (.cellA ty25 rfl rfl rfl) .nil) (.agg (.cons (.eqd ?_) (.cons (.eqd ?_) .nil)));rotate_left 2;refine sq ?_ ?_<;>intro h3 h3p h3s<;>(try simp only[Q] at h3p);refine xaZ (i:=1) un9 (.some rfl rfl h3) rfl rfl rfl rfl (zh0 (by simp_all;omega)) ?_;refine evs [35] [(23,true)] ?_ ⟨⟨_,rfl,h3⟩,trivial⟩;refine sq ?_ ?_<;>intro h4 h4p h4s<;>(try simp only[Q] at h4p);refine xaZ (i:=1) un9 (.some rfl rfl h4) rfl rfl rfl rfl (zh0 (by simp_all;omega)) ?_;refine evs [35] [(28,true)] ?_ ⟨⟨_,rfl,h4⟩,trivial⟩;refine sq ?_ ?_<;>intro h5 h5p h5s<;>(try simp only[Q] at h5p);refine xaZ (i:=1) un9 .none rfl rfl rfl rfl (zh0 (by simp_all;omega)) ?_;refine Walk.subW .none rfl rfl rfl ?_;refine xaM (by rw[un5];rfl) un3 .none rfl rfl ?_;refine evs [35] [] ?_;refine so ty3 ?_;refine tv ?_;refine so ty25 ?_;refine tv ?_;refine rn0 (.cons (.cellA ty25 rfl rfl rfl) .nil) (.agg (.cons (.eqd ?_) (.cons (.eqd ?_) .nil)));rotate_left 2;refine so ty25 ?_;refine tv ?_;refine rn0 (.cons (.cellA ty25 rfl rfl rfl) .nil) (.agg (.cons (.eqd ?_) (.cons (.eqd ?_) .nil)));rotate_left 2;refine sqF ?_;refine so ty25 ?_;refine tv ?_;refine rn0 (.cons (.cellA ty25 rfl rfl rfl) .nil) (.agg (.cons (.eqd ?_) (.cons (.eqd ?_) .nil)));rotate_left 2;refine sqF ?_;refine sqF ?_;refine so ty25 ?_;refine tv ?_;refine rn0 (.cons (.cellA ty25 rfl rfl rfl) .nil) (.agg (.cons (.eqd ?_) (.cons (.eqd ?_) .nil)));rotate_left 2;all_goals (unfold zfn;first|(rw[zs7 (b:=nth s 1) (by omega) (by omega),if_neg h1p];dsimp only;rw[if_neg h2p,if_pos ⟨by omega,by omega,by omega⟩];done)|(rw[if_pos h1p];done)|(rw[if_neg h1p];done)|(rw[if_neg h1p];dsimp only;rw[if_pos h2p];done)|(rw[if_neg h1p];dsimp only;rw[if_neg h2p,if_neg (fun hh=>by omega)];done))
def zqW (s:Str):Prop:=2<s.length/\nth s (s.length-2)=58
instance (s:Str):Decidable (zqW s):=inferInstanceAs (Decidable (_/\_))
def zhE (names:List Str) (ix:Int) (s:Str):Ctor:=
 let parts:=cutL 40 [] s
 ⟨nth parts 0,if parts.length<2\/(nth parts 1).length=0 then [] else ((cutL 44 [] ((nth parts 1).take ((nth parts 1).length-1))).take 4).map (zfn names),ix⟩
def zcJ (names:List Str) (s:Str):Ctor:=
 if zqW s then zhE names (((nth s (s.length-1)).toNat:Int)-48) (s.take (s.length-2)) else zhE names 0 s
theorem zgU {α β:Type} [Inhabited α]{f:α->β}{l:List α}{i:Nat} (h:i<l.length):(l.map f).take (i+1)=(l.map f).take i++[f (nth l i)]:=by
 rw[List.take_add_one,List.getElem?_map,List.getElem?_eq_getElem h];simp[nth,List.getD,h]
theorem zpG {α:Type}{l:List α}{i:Nat} (h:i=4\/(i<=4/\l.length<=i)):l.take i=l.take 4:=by
 rcases h with rfl|⟨h1,h2⟩
 ·rfl
 ·rw[List.take_of_length_le h2,List.take_of_length_le (by omega)]
theorem zyS {a b:UInt8}:((a.toNat:Int)=(b.toNat:Int))↔a=b:=by rw[Int.natCast_inj];exact UInt8.toNat_inj
theorem zvc (a:UInt8):IntKind.i64.wrap (a.toNat:Int)=(a.toNat:Int):=by have:=a.toNat_lt;exact zd3 (by omega)
theorem zet {c:UInt8}{s:Str}{i:Nat} (h:i<(cutL c [] s).length):(nth (cutL c [] s) i).length<=s.length:=by
 have:=zjl c s [] _ (zae h);simpa using this
theorem zkd {names:List Str}{s:Str} (hn:names.length<=1000000000000) (hs:s.length<=1000000):
  FnD Tryz.prog 262 [.d (zfi names),.d (.str s)] [] (.agg [.d (.str (zcJ names s).name),.d (zcs (zcJ names s).args),.d (.i (zcJ names s).index)]) []:=by
 have hwb:=zvc (nth s (s.length-1));have hwl:=(nth s (s.length-1)).toNat_lt;by_cases hc:zqW s
 ·have hc1:=hc.1;have hct:(s.take (s.length-2)).length=s.length-2:=by rw[List.length_take];omega
  have hcl:=zes 40 (s.take (s.length-2)) [];have hcp:=zjm 40 (s.take (s.length-2)) [];have hn1:=fun h=>zet (c:=40) (s:=s.take (s.length-2)) (i:=1) h;have hal:=zes 44 ((nth (cutL 40 [] (s.take (s.length-2))) 1).take ((nth (cutL 40 [] (s.take (s.length-2))) 1).length-1)) [];refine bd Tryz.f262 83 [] [2,7] fun w0 F0 own kept hk=>?_;refine ab 3004 zhq ?_;refine tv ?_;refine bu [] [] zwm ?_;refine ab 3005 zhq ?_;refine so zdh ?_;refine tv ?_;refine xal ?_;refine xaB 11 [(20,.d (.bool (true)))] [10,11,12,13,14,15,16,17,18,19] ?_ ?_;refine ev ?_;refine sq ?_ ?_<;>intro h1 h1p h1s;refine ar ?_;refine xaZ (i:=s.length-2) un9 (.some rfl rfl h1) rfl rfl rfl (by omega) (zh0 (by omega)) ?_;refine evs [] [(13,true)] ?_ ⟨⟨_,rfl,h1⟩,trivial⟩;exact jn rfl (xap (by(exact decide_eq_true (congrArg (fun z:UInt8=>(z.toNat:Int)) hc.2))));try simp only[Q,List.length_take] at h1p
  exact jn rfl (xap (by(exfalso;omega)));refine xaA ?_;refine tv ?_;refine sq ?_ ?_<;>intro h2 h2p h2s;refine ar ?_;refine xaZ (i:=s.length-1) un9 .none rfl rfl rfl (by omega) (zh0 (by omega)) ?_;refine xaM (by rw[un5];rfl) un3 .none rfl rfl ?_;refine ev ?_;refine ar ?_;refine so ty3 ?_;refine tv ?_;refine ar ?_;refine xaN (b:=s.length-2) un9 .none rfl rfl rfl (by omega) (by omega) ?_;refine ev ?_;refine wc zgB (zcB (s:=s.take (s.length-2)) (c:=40) (by first|omega|(simp;omega))) rfl rfl ?_;refine ev ?_;refine xaU (i:=0) zbY .none rfl rfl rfl rfl (zaq (by omega)) rfl ?_;refine ev ?_;refine so ty9 ?_;refine tv ?_;refine xal ?_;refine xaB 10 [(49,.d (.bool (decide ((cutL 40 [] (s.take (s.length-2))).length<2\/(nth (cutL 40 [] (s.take (s.length-2))) 1).length=0))))] [40,41,42,43,44,45,46,47,48] ?_ ?_;refine ev ?_;refine sq ?_ ?_<;>intro h3 h3p h3s<;>(try simp only[Q,List.length_take] at h3p);exact jn rfl (xap (by(refine(decide_eq_true ?_).symm;omega)));refine xaU (i:=1) zbY (.some rfl rfl h3) rfl rfl rfl rfl (zaq (by omega)) rfl ?_;refine evs [] [(43,false)] ?_ ⟨⟨_,rfl,h3⟩,trivial⟩;exact jn rfl (xap (by(refine decide_eq_decide.2 ?_;omega)));refine xaA ?_;refine tv ?_;refine sq ?_ ?_<;>intro h4 h4p h4s;refine so zdh ?_;refine tv ?_;refine rn0 (.cons (.cellA zdh rfl rfl rfl) .nil) (.agg (.cons (.eqd ?_) (.cons (.nild ?_) (.cons (.eqd ?_) .nil))));rotate_left 3;try simp only[Q,List.length_take] at h4p
  refine xaU (i:=1) zbY .none rfl rfl rfl rfl (zaq (by omega)) rfl ?_;refine evd [] [] ?_;refine xaU (i:=1) zbY .none rfl rfl rfl rfl (zaq (by omega)) rfl ?_;refine evd [] [] ?_;refine ar ?_;refine xaN (b:=(nth (cutL 40 [] (s.take (s.length-2))) 1).length-1) un9 .none rfl rfl rfl (by omega) (by omega) ?_;refine wc zgB (zcB (s:=(nth (cutL 40 [] (s.take (s.length-2))) 1).take ((nth (cutL 40 [] (s.take (s.length-2))) 1).length-1)) (c:=44) (by simp;omega)) rfl rfl ?_;refine evd [] [] ?_;refine dr ?_;refine xan 3005 1 1 2 rfl rfl rfl rfl ?_;refine xak (ι:=Nat) hk (fun i=>[(8,.d (.i (i:Int)))]) [61,62,63,64,65,66,67,68,69,70,71,72,73,74,75,76,77,78,79,80,81] (fun i=>[(3005,some (.box [.d (.str (nth (cutL 40 [] (s.take (s.length-2))) 0)),.gl 1 (((((cutL 44 [] ((nth (cutL 40 [] (s.take (s.length-2))) 1).take ((nth (cutL 40 [] (s.take (s.length-2))) 1).length-1))).map (zfn names)).take i)).map Ty.c),.d (.i (((nth s (s.length-1)).toNat:Int)-48))])),(1,some (.tok (((((cutL 44 [] ((nth (cutL 40 [] (s.take (s.length-2))) 1).take ((nth (cutL 40 [] (s.take (s.length-2))) 1).length-1))).map (zfn names)).take i)).map Ty.c).length 2))]) (fun i=>i<=4/\i<=(cutL 44 [] ((nth (cutL 40 [] (s.take (s.length-2))) 1).take ((nth (cutL 40 [] (s.take (s.length-2))) 1).length-1))).length) (fun i=>4-i) 0 ⟨by omega,by omega⟩ ⟨⟨_,rfl,xaq ?_⟩,trivial⟩ ⟨?_,⟨zab ?_,trivial⟩⟩ (fun x=>rfl) (fun i hg1=>?_);focus (rfl)
  focus ((show some (Res.box _)=some (Res.box _);rw[hwb];rfl))
  focus (rfl)
  refine evc [] [2,7] ?_;refine sq ?_ ?_<;>intro h5 h5p h5s<;>(try simp only[Q,List.length_take] at h5p);refine sq ?_ ?_<;>intro h6 h6p h6s<;>(try simp only[Q,List.length_take] at h6p);refine xaU zbY .none rfl rfl rfl rfl (zaq (by omega)) rfl ?_;refine evd [] [] ?_;refine wc zt9 (zf2 (names:=names) (s:=nth (cutL 44 [] ((nth (cutL 40 [] (s.take (s.length-2))) 1).take ((nth (cutL 40 [] (s.take (s.length-2))) 1).length-1))) i) hn (by have:=zet (c:=44) (s:=(nth (cutL 40 [] (s.take (s.length-2))) 1).take ((nth (cutL 40 [] (s.take (s.length-2))) 1).length-1)) (i:=i) (by omega);simp at this;omega)) rfl rfl ?_;refine si [0] [_] zaN tz25 ?_;refine ap zaN zz25 rfl rfl rfl (by simp) (by simp;omega) ?_;refine evd [] [] ?_;refine so zwp ?_;refine dr ?_;refine ar ?_;refine xah (i+1) ⟨⟨by omega,by omega⟩,(by omega),sx ⟨⟨_,rfl,xaq ?_⟩,trivial⟩ ⟨?_,⟨zab ?_,trivial⟩⟩⟩;focus (rfl)
  focus ((show some (Res.box _)=some (Res.box _);rw[zgU (by omega)];simp;done))
  focus ((simp;omega))
  refine so zdh ?_;refine tv ?_;refine rn0 (.cons (.cellA zdh rfl rfl rfl) .nil) (.agg (.cons (.eqd ?_) (.cons (.gld ?_) (.cons (.eqd ?_) .nil))));rotate_left 3;refine sqF ?_;refine so zdh ?_;refine tv ?_;refine rn0 (.cons (.cellA zdh rfl rfl rfl) .nil) (.agg (.cons (.eqd ?_) (.cons (.gld ?_) (.cons (.eqd ?_) .nil))));rotate_left 3;try simp only[Q,List.length_take] at h2p
  exact absurd h2 (by simp);all_goals (unfold zcJ;rw[if_pos hc];first|rfl|(rw[hwb];rfl)|(unfold zhE;dsimp only;by_cases hq:(cutL 40 [] (s.take (s.length-2))).length<2\/(nth (cutL 40 [] (s.take (s.length-2))) 1).length=0;all_goals first|(exfalso;exact(of_decide_eq_false h4) hq)|(exfalso;exact hq (of_decide_eq_true h4))|(rw[if_pos hq];done)|(rw[if_pos hq];rfl)|(rw[if_neg hq,<-List.map_take,zpG (by omega)];done)))
 ·skip
  have hcl:=zes 40 (s) [];have hcp:=zjm 40 (s) [];have hn1:=fun h=>zet (c:=40) (s:=s) (i:=1) h;have hal:=zes 44 ((nth (cutL 40 [] (s)) 1).take ((nth (cutL 40 [] (s)) 1).length-1)) [];refine bd Tryz.f262 83 [] [2,7] fun w0 F0 own kept hk=>?_;refine ab 3004 zhq ?_;refine tv ?_;refine bu [] [] zwm ?_;refine ab 3005 zhq ?_;refine so zdh ?_;refine tv ?_;refine xal ?_;refine xaB 11 [(20,.d (.bool (false)))] [10,11,12,13,14,15,16,17,18,19] ?_ ?_;refine ev ?_;refine sq ?_ ?_<;>intro h1 h1p h1s;try simp only[Q,List.length_take] at h1p
  refine ar ?_;refine xaZ (i:=s.length-2) un9 (.some rfl rfl h1) rfl rfl rfl (by omega) (zh0 (by omega)) ?_;refine evs [] [(13,true)] ?_ ⟨⟨_,rfl,h1⟩,trivial⟩;exact jn rfl (xap (by(exact decide_eq_false (fun hh=>hc ⟨by omega,(zyS (b:=58)).1 hh⟩))));exact jn rfl (xap (by rfl));refine xaA ?_;refine tv ?_;refine sq ?_ ?_<;>intro h2 h2p h2s;exact absurd h2 (by simp);refine wc zgB (zcB (s:=s) (c:=40) (by first|omega|(simp;omega))) rfl rfl ?_;refine ev ?_;refine xaU (i:=0) zbY .none rfl rfl rfl rfl (zaq (by omega)) rfl ?_;refine ev ?_;refine so ty9 ?_;refine tv ?_;refine xal ?_;refine xaB 10 [(49,.d (.bool (decide ((cutL 40 [] (s)).length<2\/(nth (cutL 40 [] (s)) 1).length=0))))] [40,41,42,43,44,45,46,47,48] ?_ ?_;refine ev ?_;refine sq ?_ ?_<;>intro h3 h3p h3s<;>(try simp only[Q,List.length_take] at h3p);exact jn rfl (xap (by(refine(decide_eq_true ?_).symm;omega)));refine xaU (i:=1) zbY (.some rfl rfl h3) rfl rfl rfl rfl (zaq (by omega)) rfl ?_;refine evs [] [(43,false)] ?_ ⟨⟨_,rfl,h3⟩,trivial⟩;exact jn rfl (xap (by(refine decide_eq_decide.2 ?_;omega)));refine xaA ?_;refine tv ?_;refine sq ?_ ?_<;>intro h4 h4p h4s;refine so zdh ?_;refine tv ?_;refine rn0 (.cons (.cellA zdh rfl rfl rfl) .nil) (.agg (.cons (.eqd ?_) (.cons (.nild ?_) (.cons (.eqd ?_) .nil))));rotate_left 3;try simp only[Q,List.length_take] at h4p
  refine xaU (i:=1) zbY .none rfl rfl rfl rfl (zaq (by omega)) rfl ?_;refine evd [] [] ?_;refine xaU (i:=1) zbY .none rfl rfl rfl rfl (zaq (by omega)) rfl ?_;refine evd [] [] ?_;refine ar ?_;refine xaN (b:=(nth (cutL 40 [] (s)) 1).length-1) un9 .none rfl rfl rfl (by omega) (by omega) ?_;refine wc zgB (zcB (s:=(nth (cutL 40 [] (s)) 1).take ((nth (cutL 40 [] (s)) 1).length-1)) (c:=44) (by simp;omega)) rfl rfl ?_;refine evd [] [] ?_;refine dr ?_;refine xan 3005 1 1 2 rfl rfl rfl rfl ?_;refine xak (ι:=Nat) hk (fun i=>[(8,.d (.i (i:Int)))]) [61,62,63,64,65,66,67,68,69,70,71,72,73,74,75,76,77,78,79,80,81] (fun i=>[(3005,some (.box [.d (.str (nth (cutL 40 [] (s)) 0)),.gl 1 (((((cutL 44 [] ((nth (cutL 40 [] (s)) 1).take ((nth (cutL 40 [] (s)) 1).length-1))).map (zfn names)).take i)).map Ty.c),.d (.i (0))])),(1,some (.tok (((((cutL 44 [] ((nth (cutL 40 [] (s)) 1).take ((nth (cutL 40 [] (s)) 1).length-1))).map (zfn names)).take i)).map Ty.c).length 2))]) (fun i=>i<=4/\i<=(cutL 44 [] ((nth (cutL 40 [] (s)) 1).take ((nth (cutL 40 [] (s)) 1).length-1))).length) (fun i=>4-i) 0 ⟨by omega,by omega⟩ ⟨⟨_,rfl,xaq ?_⟩,trivial⟩ ⟨?_,⟨zab ?_,trivial⟩⟩ (fun x=>rfl) (fun i hg1=>?_);focus (rfl)
  focus (rfl)
  focus (rfl)
  refine evc [] [2,7] ?_;refine sq ?_ ?_<;>intro h5 h5p h5s<;>(try simp only[Q,List.length_take] at h5p);refine sq ?_ ?_<;>intro h6 h6p h6s<;>(try simp only[Q,List.length_take] at h6p);refine xaU zbY .none rfl rfl rfl rfl (zaq (by omega)) rfl ?_;refine evd [] [] ?_;refine wc zt9 (zf2 (names:=names) (s:=nth (cutL 44 [] ((nth (cutL 40 [] (s)) 1).take ((nth (cutL 40 [] (s)) 1).length-1))) i) hn (by have:=zet (c:=44) (s:=(nth (cutL 40 [] (s)) 1).take ((nth (cutL 40 [] (s)) 1).length-1)) (i:=i) (by omega);simp at this;omega)) rfl rfl ?_;refine si [0] [_] zaN tz25 ?_;refine ap zaN zz25 rfl rfl rfl (by simp) (by simp;omega) ?_;refine evd [] [] ?_;refine so zwp ?_;refine dr ?_;refine ar ?_;refine xah (i+1) ⟨⟨by omega,by omega⟩,(by omega),sx ⟨⟨_,rfl,xaq ?_⟩,trivial⟩ ⟨?_,⟨zab ?_,trivial⟩⟩⟩;focus (rfl)
  focus ((show some (Res.box _)=some (Res.box _);rw[zgU (by omega)];simp;done))
  focus ((simp;omega))
  refine so zdh ?_;refine tv ?_;refine rn0 (.cons (.cellA zdh rfl rfl rfl) .nil) (.agg (.cons (.eqd ?_) (.cons (.gld ?_) (.cons (.eqd ?_) .nil))));rotate_left 3;refine sqF ?_;refine so zdh ?_;refine tv ?_;refine rn0 (.cons (.cellA zdh rfl rfl rfl) .nil) (.agg (.cons (.eqd ?_) (.cons (.gld ?_) (.cons (.eqd ?_) .nil))));rotate_left 3;all_goals (unfold zcJ;rw[if_neg hc];first|rfl|(unfold zhE;dsimp only;by_cases hq:(cutL 40 [] (s)).length<2\/(nth (cutL 40 [] (s)) 1).length=0;all_goals first|(exfalso;exact(of_decide_eq_false h4) hq)|(exfalso;exact hq (of_decide_eq_true h4))|(rw[if_pos hq];done)|(rw[if_pos hq];rfl)|(rw[if_neg hq,<-List.map_take,zpG (by omega)];done)))
def decV (n:Int):Str:=strN [IntKind.u8.wrap (48+n)]
theorem zl1 (n:Int):(decV n).length=1:=rfl
def zkB (n:Int):Str:=if n=0 then [] else if n = -1 then [42] else decV n
theorem znf (n:Int):(zkB n).length<=1:=by unfold zkB;split;simp;split;simp;rw[zl1];omega
def zgL (w:List Data) (t:Ty):Str:=if t.data = -1 then [73] else (nth w t.data.toNat).name++zkB t.index
def zdx (w:List Data):Bool->List Ty->Str
 |_,[]=>[]
 |b,t::r=>((if b then [40] else [44])++zgL w t)++zdx w false r
def zcw (w:List Data) (c:Ctor):Str:=
 let o:=c.name++zdx w true c.args
 let p:=if 0<c.args.length then o++[41] else o
 if 0<c.index then (p++[58])++decV c.index else p
def zcd (w:List Data):Bool->List Ctor->Str
 |_,[]=>[]
 |b,c::r=>((if b then [] else [124])++zcw w c)++zcd w false r
def ziT (w:List Data):Bool->List Data->Str
 |_,[]=>[]
 |b,d::r=>((if b then [] else [59])++(d.name++[61])++zcd w true d.ctors)++ziT w false r
def zfs (w:List Data):Str:=ziT w true w
structure TB (w:List Data):Prop where
 len:w.length<=4
 dn:∀d∈w,d.name.length<=1/\d.ctors.length<=4
 cn:∀d∈w,∀c∈d.ctors,c.name.length<=5/\c.args.length<=3/\0<=c.index/\c.index<=3
 ar:∀d∈w,∀c∈d.ctors,∀t∈c.args,(t.data = -1\/(0<=t.data/\t.data.toNat<w.length))/\ -1<=t.index/\t.index<=3
theorem zvX {w:List Data} (hv:za2 w=true):TB w:=by
 have hW:=(zcC w).1 hv;refine⟨hW.len,fun d hd=>?_,fun d hd c hc=>?_,fun d hd c hc t ht=>?_⟩
 ·have h:=hW.data d hd;have h1:=h.1;simp only[zbk,xad,decide_eq_true_eq] at h1;omega
 ·have h:=hW.ctor d hd c hc;simp only[zbD,zds,zat,xad,decide_eq_true_eq] at h;omega
 ·have h:=hW.ctor d hd c hc;simp only[zbD,xad,Bool.not_eq_true',List.any_eq_false] at h;have hax:zbR w.length t=true:=by
   have:=h.2.2.2 t ht;cases h:zbR w.length t with
   |true=>rfl
   |false=>rw[h] at this;exact absurd rfl this
  simp only[zbR,zat,Bool.or_eq_true,xad,decide_eq_true_eq,and_true] at hax;omega
theorem zho {w:List Data} (hb:TB w){t:Ty} (ht:t.data = -1\/(0<=t.data/\t.data.toNat<w.length)):(zgL w t).length<=2:=by
 unfold zgL;split
 ·simp
 ·rename_i h;have h1:=(hb.dn _ (zae (l:=w) (i:=t.data.toNat) (by omega))).1;have h2:=znf t.index;simp only[xaa];omega
theorem zhB {w:List Data} (hb:TB w):∀(l:List Ty) (b:Bool),(∀t∈l,t.data = -1\/(0<=t.data/\t.data.toNat<w.length))->(zdx w b l).length<=3*l.length
 | [],_,_=>by simp[zdx]
 |t::r,b,h=>by
  have h1:=zho hb (h t (by simp));have h2:=zhB hb r false (fun x hx=>h x (by simp[hx]));simp only[zdx,xaa,xab];have h3:(if b=true then [(40:UInt8)] else [44]).length=1:=by split<;>rfl
  omega
theorem zqQ {w:List Data} (hb:TB w){c:Ctor} (h1:c.name.length<=5/\c.args.length<=3) (h2:∀t∈c.args,t.data = -1\/(0<=t.data/\t.data.toNat<w.length)):(zcw w c).length<=20:=by
 have h3:=zhB hb c.args true h2;unfold zcw;dsimp only;have h4:=zl1 c.index;split<;>split<;>simp only[xaa,xab,xai]<;>omega
theorem zlK {w:List Data}:∀(l:List Ctor) (b:Bool),(∀c∈l,(zcw w c).length<=20)->(zcd w b l).length<=21*l.length
 | [],_,_=>by simp[zcd]
 |c::r,b,h=>by
  have h1:=h c (by simp);have h2:=zlK r false (fun x hx=>h x (by simp[hx]));simp only[zcd,xaa,xab];have h3:(if b=true then ([]:Str) else [124]).length<=1:=by split<;>simp
  omega
theorem zgj {n:Int} (h0:0<=n) (h9:n<=9):FnD Tryz.prog 361 [.d (.i n)] [] (.d (.str (decV n))) []:=by
 refine bd Tryz.f361 31 [30] [] fun w0 F0 own kept hk=>?_;refine sq ?_ ?_<;>intro h1 h1p h1s<;>(try simp only[Q] at h1p);exfalso;omega;refine sq ?_ ?_<;>intro h2 h2p h2s<;>(try simp only[Q] at h2p);exfalso;omega;refine xak (ι:=Unit) hk (fun x=>[(0,.d (.i n)),(3,.d (.str []))]) [12,13,14,15,16,17,18,19,20,21,22,23] (fun x=>[]) (fun x=>True) (fun x=>0) () trivial ⟨⟨_,rfl,xaq ?_⟩,⟨⟨_,rfl,xar ?_⟩,trivial⟩⟩ trivial (fun x=>rfl) (fun x hg1=>?_);iterate 2 focus (first|rfl|omega)
 refine evc [30] [] ?_;refine sq ?_ ?_<;>intro h3 h3p h3s<;>(try simp only[Q] at h3p);exfalso;omega;refine ar ?_;refine xaM (by rw[un3];rfl) un5 .none rfl rfl ?_;refine si [0] [_] sl22 tz5 ?_;refine Walk.bytesStr sl22 un9 (by kernel_rfl) .none rfl rfl rfl (by first|rfl|exact zpx _) ?_;refine evs [30] [] ?_;refine xaK .none rfl rfl rfl (by simp[strN]) ?_;refine evs [30] [] ?_;refine rq ?_;rotate_left;all_goals (rfl)
theorem znN {n:Int} (h0 : -1<=n) (h9:n<=9):FnD Tryz.prog 378 [.d (.i n)] [] (.d (.str (zkB n))) []:=by
 refine bd Tryz.f378 10 [] [] fun w0 F0 own kept hk=>?_;refine sq ?_ ?_<;>intro h1 h1p h1s<;>(try simp only[Q] at h1p);refine rq ?_;rotate_left;refine sq ?_ ?_<;>intro h2 h2p h2s<;>(try simp only[Q] at h2p);refine rq ?_;rotate_left;refine wc zqK (zgj (by omega) (by omega)) rfl rfl ?_;refine ev ?_;refine rq ?_;rotate_left;all_goals (refine congrArg D.str ?_;unfold zkB;first|(rw[if_pos (by omega)];done)|(rw[if_neg (by omega),if_pos (by omega)];done)|(rw[if_neg (by omega),if_neg (by omega)];done)|(rw[if_pos (by omega)];rfl))
theorem zi9 {w:List Data} (hb:TB w){a k:Int} (ha:a = -1\/(0<=a/\a.toNat<w.length)) (hk : -1<=k/\k<=3):FnD Tryz.prog 360 [.d (zah w),.agg [.d (.i a),.d (.i k)]] [] (.d (.str (zgL w ⟨a,k⟩))) []:=by
 have hl:=znf k;have hdn:a≠ -1->(nth w a.toNat).name.length<=1:=fun h=>(hb.dn _ (zae (l:=w) (i:=a.toNat) (by omega))).1;refine bd Tryz.f360 18 [17] [] fun w0 F0 own kept hk=>?_;refine bx 3003 ?_;refine evs [17] [] ?_;refine sq ?_ ?_<;>intro h1 h1p h1s<;>(try simp only[Q] at h1p);refine rq ?_;rotate_left;refine xaU (i:=a.toNat) sl23 .none rfl rfl rfl (by omega) (zaq (by omega)) rfl ?_;refine evd [17] [] ?_;refine wc zya (znN (by omega) (by omega)) rfl rfl ?_;refine xaK .none rfl rfl rfl (by have:=hdn h1p;omega) ?_;refine evd [17] [] ?_;refine dr ?_;refine rq ?_;rotate_left;all_goals (refine congrArg D.str ?_;unfold zgL;first|(rw[if_pos (by assumption)];done)|(rw[if_neg (by assumption)];done))
theorem zdv {w:List Data} (hb:TB w){s:Str}{l:List Ty}{k:Int} (hs:s.length<=5) (hl:l.length<=3) (hk:0<=k/\k<=3)
  (hl2:∀t∈l,(t.data = -1\/(0<=t.data/\t.data.toNat<w.length))/\ -1<=t.index/\t.index<=3):
  FnD Tryz.prog 325 [.d (zah w),.agg [.d (.str s),.d (zcs l),.d (.i k)]] [] (.d (.str (zcw w ⟨s,l,k⟩))) []:=by
 have hall:=zhB hb l true (fun t ht=>(hl2 t ht).1);have hdl:=zl1 k;refine bd Tryz.f325 47 [19,21,30,36,41,45] [] fun w0 F0 own kept hk=>?_;refine bx 3003 ?_;refine evs [19,21,30,36,41,45] [] ?_;refine xak (ι:=List (Ty)×List (Ty)×(Str)) hk (fun x=>[(6,.d (.i (x.1.length:Int))),(5,.d (.str x.2.2))]) [9,10,11,12,13,14,15,16,17,18,19,20,21,22,23,24,25,26,27,28,29,30] (fun x=>[]) (fun x=>x.1++x.2.1=l/\x.2.2.length<=5+3*x.1.length/\x.2.2++zdx w (decide (x.1.length=0)) x.2.1=s++zdx w true l) (fun x=>x.2.1.length) ([],l,s) ⟨by simp,by simp;omega,by simp⟩ ⟨⟨_,rfl,xaq ?_⟩,⟨⟨_,rfl,xar ?_⟩,trivial⟩⟩ trivial (fun x=>rfl) (fun x hg1=>?_);iterate 2 focus (first|rfl|(dsimp only;rw[if_pos (by omega),List.append_assoc];done))
 obtain⟨pre,rest,o⟩:=x;dsimp only at hg1 ⊢;refine evc [19,21,30,36,41,45] [] ?_;refine sq ?_ ?_<;>intro h1 h1p h1s<;>(try simp only[Q] at h1p);rcases rest with _|⟨y,rest⟩
 ·exfalso;simp_all
 have hq:(zgL w ⟨y.data,y.index⟩).length<=2:=zho hb (hl2 y (by rw[<-hg1.1];simp)).1;refine sq ?_ ?_<;>intro h2 h2p h2s<;>(try simp only[Q] at h2p);refine xaK .none rfl rfl rfl (by have hz:=congrArg List.length hg1.1;simp only[xaa,xab,xai] at hz ⊢;omega) ?_;refine evs [19,21,30,36,41,45] [] ?_;refine xaU zaN .none rfl rfl rfl rfl (zaG hg1.1) rfl ?_;refine evs [19,21,30,36,41,45] [] ?_;refine wc zuc (zi9 hb (a:=y.data) (k:=y.index) (hl2 y (by rw[<-hg1.1];simp)).1 (hl2 y (by rw[<-hg1.1];simp)).2) rfl rfl ?_;refine xaK .none rfl rfl rfl (by have hz:=congrArg List.length hg1.1;simp only[xaa,xab,xai] at hz ⊢;omega) ?_;refine evs [19,21,30,36,41,45] [] ?_;refine ar ?_;refine xah ((pre++[y],rest,o++((if pre.length=0 then [40] else [44])++zgL w y))) ⟨⟨(by have hz:=hg1.1;rw[<-hz];simp),⟨(by have hq:=zho hb (hl2 y (by rw[<-hg1.1];simp)).1;have h3:(if pre.length=0 then [(40:UInt8)] else [44]).length=1:=(by split<;>rfl);simp only[xaa,xab,xai];omega),(by rw[<-hg1.2.2];simp[zdx])⟩⟩,(by simp),sx ⟨⟨_,rfl,xaq ?_⟩,⟨⟨_,rfl,xar ?_⟩,trivial⟩⟩ trivial⟩;iterate 2 focus (first|(simp;done)|(dsimp only;rw[if_pos (by omega),List.append_assoc];done))
 refine xaK .none rfl rfl rfl (by have hz:=congrArg List.length hg1.1;simp only[xaa,xab,xai] at hz ⊢;omega) ?_;refine evs [19,21,30,36,41,45] [] ?_;refine xaU zaN .none rfl rfl rfl rfl (zaG hg1.1) rfl ?_;refine evs [19,21,30,36,41,45] [] ?_;refine wc zuc (zi9 hb (a:=y.data) (k:=y.index) (hl2 y (by rw[<-hg1.1];simp)).1 (hl2 y (by rw[<-hg1.1];simp)).2) rfl rfl ?_;refine xaK .none rfl rfl rfl (by have hz:=congrArg List.length hg1.1;simp only[xaa,xab,xai] at hz ⊢;omega) ?_;refine evs [19,21,30,36,41,45] [] ?_;refine ar ?_;refine xah ((pre++[y],rest,o++((if pre.length=0 then [40] else [44])++zgL w y))) ⟨⟨(by have hz:=hg1.1;rw[<-hz];simp),⟨(by have hq:=zho hb (hl2 y (by rw[<-hg1.1];simp)).1;have h3:(if pre.length=0 then [(40:UInt8)] else [44]).length=1:=(by split<;>rfl);simp only[xaa,xab,xai];omega),(by rw[<-hg1.2.2];simp[zdx])⟩⟩,(by simp),sx ⟨⟨_,rfl,xaq ?_⟩,⟨⟨_,rfl,xar ?_⟩,trivial⟩⟩ trivial⟩;iterate 2 focus (first|(simp;done)|(dsimp only;rw[if_pos (by omega),List.append_assoc];done)|(dsimp only;rw[if_neg (by omega),List.append_assoc];done))
 have hrest:rest=[]:=by
  rcases rest with _|⟨a,b⟩
  ·rfl
  ·exfalso;have hz:=congrArg List.length (hg1.1);simp only[xaa,xab,xac] at hz;omega
 subst hrest;refine sq ?_ ?_<;>intro h3 h3p h3s<;>(try simp only[Q] at h3p);refine xaK .none rfl rfl rfl (by have hz:=congrArg List.length hg1.1;simp only[xaa,xab,xai] at hz ⊢;omega) ?_;refine evs [19,21,30,36,41,45] [] ?_;refine sq ?_ ?_<;>intro h4 h4p h4s<;>(try simp only[Q] at h4p);refine xaK .none rfl rfl rfl (by have hz:=congrArg List.length hg1.1;simp only[xaa,xab,xai] at hz ⊢;omega) ?_;refine evs [19,21,30,36,41,45] [] ?_;refine wc zqK (zgj (by omega) (by omega)) rfl rfl ?_;refine xaK .none rfl rfl rfl (by have hz:=congrArg List.length hg1.1;simp only[xaa,xab,xai] at hz ⊢;omega) ?_;refine evs [19,21,30,36,41,45] [] ?_;refine rq ?_;rotate_left;refine rq ?_;rotate_left;refine sq ?_ ?_<;>intro h5 h5p h5s<;>(try simp only[Q] at h5p);refine xaK .none rfl rfl rfl (by have hz:=congrArg List.length hg1.1;simp only[xaa,xab,xai] at hz ⊢;omega) ?_;refine evs [19,21,30,36,41,45] [] ?_;refine wc zqK (zgj (by omega) (by omega)) rfl rfl ?_;refine xaK .none rfl rfl rfl (by have hz:=congrArg List.length hg1.1;simp only[xaa,xab,xai] at hz ⊢;omega) ?_;refine evs [19,21,30,36,41,45] [] ?_;refine rq ?_;rotate_left;refine rq ?_;rotate_left;all_goals (refine congrArg D.str ?_;have hfin:=hg1.2.2;simp only[zdx,List.append_nil] at hfin;unfold zcw;dsimp only;rw[<-hfin];first|(rw[if_pos (by omega),if_pos (by simp at *;omega)];done)|(rw[if_pos (by omega),if_neg (by simp at *;omega)];done)|(rw[if_neg (by omega),if_pos (by simp at *;omega)];done)|(rw[if_neg (by omega),if_neg (by simp at *;omega)];done))
theorem zoP {w:List Data} (hb:TB w):FnD Tryz.prog 263 [.d (zah w)] [] (.d (.str (zfs w))) []:=by
 have hwl:=hb.len;have hct:∀d∈w,∀c∈d.ctors,(zcw w c).length<=20:=fun d hd c hc=>zqQ hb ⟨(hb.cn d hd c hc).1,(hb.cn d hd c hc).2.1⟩ (fun t ht=>(hb.ar d hd c hc t ht).1);refine bd Tryz.f263 51 [15,22,23,37,49] [] fun w0 F0 own kept hk=>?_;refine xak (ι:=List (Data)×List (Data)×(Str)) hk (fun x=>[(4,.d (.i (x.1.length:Int))),(3,.d (.str x.2.2))]) [5,6,7,8,9,10,11,12,13,14,15,16,17,18,19,20,21,22,23,24,25,26,27,28,29,30,31,32,33,34,35,36,37,38,39,40,41,42,43,44,45,46,47,48,49] (fun x=>[]) (fun x=>x.1++x.2.1=w/\x.2.2.length<=100*x.1.length/\x.2.2++ziT w (decide (x.1.length=0)) x.2.1=zfs w) (fun x=>x.2.1.length) ([],w,[]) ⟨by simp,by simp,by simp[zfs]⟩ ⟨⟨_,rfl,xaq ?_⟩,⟨⟨_,rfl,xar ?_⟩,trivial⟩⟩ trivial (fun x=>rfl) (fun x hg1=>?_);iterate 2 focus (first|rfl|(rw[hfin];simp;done))
 obtain⟨pre,rest,o⟩:=x;dsimp only at hg1 ⊢;refine evc [15,22,23,37,49] [] ?_;refine sq ?_ ?_<;>intro h1 h1p h1s<;>(try simp only[Q] at h1p);rcases rest with _|⟨y,rest⟩
 ·exfalso;simp_all
 have hym:y∈w:=(by rw[<-hg1.1];simp);have hyd:=hb.dn y hym;have hpl:pre.length<4:=(by omega);have hcl:=zlK (w:=w) y.ctors true (hct y hym);refine sq ?_ ?_<;>intro h2 h2p h2s<;>(try simp only[Q] at h2p);refine xaK .none rfl rfl rfl (by(try simp only[xaa,xab,xai]);omega) ?_;refine evs [15,22,23,37,49] [] ?_;refine xaU sl23 .none rfl rfl rfl rfl (zaG hg1.1) rfl ?_;refine evs [15,22,23,37,49] [] ?_;refine xaK .none rfl rfl rfl (by(try simp only[xaa,xab,xai]);omega) ?_;refine xaK .none rfl rfl rfl (by(try simp only[xaa,xab,xai]);omega) ?_;refine evs [15,22,23,37,49] [] ?_;refine xak (ι:=List (Ctor)×List (Ctor)×(Str)) hk (fun x=>[(5,.d (.i (x.1.length:Int))),(3,.d (.str x.2.2))]) [24,25,26,27,28,29,30,31,32,33,34,35,36,37,38,39,40,41,42,43,44,45,46,47,48,49] (fun x=>[]) (fun x=>x.1++x.2.1=y.ctors/\x.2.2.length<=100*pre.length+4+21*x.1.length/\x.2.2++zcd w (decide (x.1.length=0)) x.2.1=(o++((if pre.length=0 then [] else [59])++(y.name++[61])))++zcd w true y.ctors) (fun x=>x.2.1.length) ([],y.ctors,o++((if pre.length=0 then [] else [59])++(y.name++[61]))) ⟨by simp,(by have h3:(if pre.length=0 then ([]:Str) else [59]).length<=1:=(by split<;>simp);simp only[xaa,xab,xai];omega),by simp⟩ ⟨⟨_,rfl,xaq ?_⟩,⟨⟨_,rfl,xar ?_⟩,trivial⟩⟩ trivial (fun x=>rfl) (fun x hg2=>?_);iterate 2 focus (first|rfl|(rw[if_neg (by omega)];simp;done))
 obtain⟨pre2,rest2,q⟩:=x;dsimp only at hg2 ⊢;refine evc [15,22,23,37,49] [] ?_;refine xaU sl23 .none rfl rfl rfl rfl (zaG hg1.1) rfl ?_;refine evs [15,22,23,37,49] [] ?_;refine sq ?_ ?_<;>intro h3 h3p h3s<;>(try simp only[Q] at h3p);rcases rest2 with _|⟨c,rest2⟩
 ·exfalso;simp_all
 have hcm:=hct y hym c (by rw[<-hg2.1];simp);have hce:(zcw w ⟨c.name,c.args,c.index⟩).length<=20:=hcm;have hp2:=congrArg List.length hg2.1;simp only[xaa,xab] at hp2;refine sq ?_ ?_<;>intro h4 h4p h4s<;>(try simp only[Q] at h4p);refine xaK .none rfl rfl rfl (by(try simp only[xaa,xab,xai]);omega) ?_;refine evs [15,22,23,37,49] [] ?_;refine xaU sl23 .none rfl rfl rfl rfl (zaG hg1.1) rfl ?_;refine evs [15,22,23,37,49] [] ?_;refine xaU zcP .none rfl rfl rfl rfl (zaG hg2.1) rfl ?_;refine evs [15,22,23,37,49] [] ?_;refine wc zmP (zdv hb (s:=c.name) (l:=c.args) (k:=c.index) (hb.cn y hym c (by rw[<-hg2.1];simp)).1 (hb.cn y hym c (by rw[<-hg2.1];simp)).2.1 (hb.cn y hym c (by rw[<-hg2.1];simp)).2.2 (hb.ar y hym c (by rw[<-hg2.1];simp))) rfl rfl ?_;refine xaK .none rfl rfl rfl (by(try simp only[xaa,xab,xai]);omega) ?_;refine evs [15,22,23,37,49] [] ?_;refine ar ?_;refine xah ((pre2++[c],rest2,q++((if pre2.length=0 then [] else [124])++zcw w c))) ⟨⟨(by have hz:=hg2.1;rw[<-hz];simp),⟨(by have h3:(if pre2.length=0 then ([]:Str) else [124]).length<=1:=(by split<;>simp);simp only[xaa,xab,xai];omega),(by rw[<-hg2.2.2];simp[zcd])⟩⟩,(by simp),sx ⟨⟨_,rfl,xaq ?_⟩,⟨⟨_,rfl,xar ?_⟩,trivial⟩⟩ trivial⟩;iterate 2 focus (first|rfl|(rw[if_neg (by omega)];simp;done))
 refine xaU sl23 .none rfl rfl rfl rfl (zaG hg1.1) rfl ?_;refine evs [15,22,23,37,49] [] ?_;refine xaU zcP .none rfl rfl rfl rfl (zaG hg2.1) rfl ?_;refine evs [15,22,23,37,49] [] ?_;refine wc zmP (zdv hb (s:=c.name) (l:=c.args) (k:=c.index) (hb.cn y hym c (by rw[<-hg2.1];simp)).1 (hb.cn y hym c (by rw[<-hg2.1];simp)).2.1 (hb.cn y hym c (by rw[<-hg2.1];simp)).2.2 (hb.ar y hym c (by rw[<-hg2.1];simp))) rfl rfl ?_;refine xaK .none rfl rfl rfl (by(try simp only[xaa,xab,xai]);omega) ?_;refine evs [15,22,23,37,49] [] ?_;refine ar ?_;refine xah ((pre2++[c],rest2,q++((if pre2.length=0 then [] else [124])++zcw w c))) ⟨⟨(by have hz:=hg2.1;rw[<-hz];simp),⟨(by have h3:(if pre2.length=0 then ([]:Str) else [124]).length<=1:=(by split<;>simp);simp only[xaa,xab,xai];omega),(by rw[<-hg2.2.2];simp[zcd])⟩⟩,(by simp),sx ⟨⟨_,rfl,xaq ?_⟩,⟨⟨_,rfl,xar ?_⟩,trivial⟩⟩ trivial⟩;iterate 2 focus (first|rfl|(rw[if_neg (by omega)];simp;done)|(rw[if_pos (by omega)];simp;done))
 have hrest2:rest2=[]:=by
  rcases rest2 with _|⟨a,b⟩
  ·rfl
  ·exfalso;have hz:=congrArg List.length (hg2.1);simp only[xaa,xab,xac] at hz;omega
 subst hrest2;refine ar ?_;have hfin:=hg2.2.2;simp only[zcd,List.append_nil] at hfin;refine xah ((pre++[y],rest,o++((if pre.length=0 then [] else [59])++(y.name++[61])++zcd w true y.ctors))) ⟨⟨(by have hz:=hg1.1;rw[<-hz];simp),⟨(by have h3:(if pre.length=0 then ([]:Str) else [59]).length<=1:=(by split<;>simp);simp only[xaa,xab,xai];omega),(by rw[<-hg1.2.2];simp[ziT])⟩⟩,(by simp),sx ⟨⟨_,rfl,xaq ?_⟩,⟨⟨_,rfl,xar ?_⟩,trivial⟩⟩ trivial⟩;iterate 2 focus (first|rfl|(simp;done)|(rw[hfin];simp;done))
 refine xaU sl23 .none rfl rfl rfl rfl (zaG hg1.1) rfl ?_;refine evs [15,22,23,37,49] [] ?_;refine xaK .none rfl rfl rfl (by(try simp only[xaa,xab,xai]);omega) ?_;refine xaK .none rfl rfl rfl (by(try simp only[xaa,xab,xai]);omega) ?_;refine evs [15,22,23,37,49] [] ?_;refine xak (ι:=List (Ctor)×List (Ctor)×(Str)) hk (fun x=>[(5,.d (.i (x.1.length:Int))),(3,.d (.str x.2.2))]) [24,25,26,27,28,29,30,31,32,33,34,35,36,37,38,39,40,41,42,43,44,45,46,47,48,49] (fun x=>[]) (fun x=>x.1++x.2.1=y.ctors/\x.2.2.length<=100*pre.length+4+21*x.1.length/\x.2.2++zcd w (decide (x.1.length=0)) x.2.1=(o++((if pre.length=0 then [] else [59])++(y.name++[61])))++zcd w true y.ctors) (fun x=>x.2.1.length) ([],y.ctors,o++((if pre.length=0 then [] else [59])++(y.name++[61]))) ⟨by simp,(by have h3:(if pre.length=0 then ([]:Str) else [59]).length<=1:=(by split<;>simp);simp only[xaa,xab,xai];omega),by simp⟩ ⟨⟨_,rfl,xaq ?_⟩,⟨⟨_,rfl,xar ?_⟩,trivial⟩⟩ trivial (fun x=>rfl) (fun x hg2=>?_);iterate 2 focus (first|rfl|(rw[if_neg (by omega)];simp;done)|(rw[if_pos (by omega)];simp;done))
 obtain⟨pre2,rest2,q⟩:=x;dsimp only at hg2 ⊢;refine evc [15,22,23,37,49] [] ?_;refine xaU sl23 .none rfl rfl rfl rfl (zaG hg1.1) rfl ?_;refine evs [15,22,23,37,49] [] ?_;refine sq ?_ ?_<;>intro h5 h5p h5s<;>(try simp only[Q] at h5p);rcases rest2 with _|⟨c,rest2⟩
 ·exfalso;simp_all
 have hcm:=hct y hym c (by rw[<-hg2.1];simp);have hce:(zcw w ⟨c.name,c.args,c.index⟩).length<=20:=hcm;have hp2:=congrArg List.length hg2.1;simp only[xaa,xab] at hp2;refine sq ?_ ?_<;>intro h6 h6p h6s<;>(try simp only[Q] at h6p);refine xaK .none rfl rfl rfl (by(try simp only[xaa,xab,xai]);omega) ?_;refine evs [15,22,23,37,49] [] ?_;refine xaU sl23 .none rfl rfl rfl rfl (zaG hg1.1) rfl ?_;refine evs [15,22,23,37,49] [] ?_;refine xaU zcP .none rfl rfl rfl rfl (zaG hg2.1) rfl ?_;refine evs [15,22,23,37,49] [] ?_;refine wc zmP (zdv hb (s:=c.name) (l:=c.args) (k:=c.index) (hb.cn y hym c (by rw[<-hg2.1];simp)).1 (hb.cn y hym c (by rw[<-hg2.1];simp)).2.1 (hb.cn y hym c (by rw[<-hg2.1];simp)).2.2 (hb.ar y hym c (by rw[<-hg2.1];simp))) rfl rfl ?_;refine xaK .none rfl rfl rfl (by(try simp only[xaa,xab,xai]);omega) ?_;refine evs [15,22,23,37,49] [] ?_;refine ar ?_;refine xah ((pre2++[c],rest2,q++((if pre2.length=0 then [] else [124])++zcw w c))) ⟨⟨(by have hz:=hg2.1;rw[<-hz];simp),⟨(by have h3:(if pre2.length=0 then ([]:Str) else [124]).length<=1:=(by split<;>simp);simp only[xaa,xab,xai];omega),(by rw[<-hg2.2.2];simp[zcd])⟩⟩,(by simp),sx ⟨⟨_,rfl,xaq ?_⟩,⟨⟨_,rfl,xar ?_⟩,trivial⟩⟩ trivial⟩;iterate 2 focus (first|rfl|(rw[if_neg (by omega)];simp;done))
 refine xaU sl23 .none rfl rfl rfl rfl (zaG hg1.1) rfl ?_;refine evs [15,22,23,37,49] [] ?_;refine xaU zcP .none rfl rfl rfl rfl (zaG hg2.1) rfl ?_;refine evs [15,22,23,37,49] [] ?_;refine wc zmP (zdv hb (s:=c.name) (l:=c.args) (k:=c.index) (hb.cn y hym c (by rw[<-hg2.1];simp)).1 (hb.cn y hym c (by rw[<-hg2.1];simp)).2.1 (hb.cn y hym c (by rw[<-hg2.1];simp)).2.2 (hb.ar y hym c (by rw[<-hg2.1];simp))) rfl rfl ?_;refine xaK .none rfl rfl rfl (by(try simp only[xaa,xab,xai]);omega) ?_;refine evs [15,22,23,37,49] [] ?_;refine ar ?_;refine xah ((pre2++[c],rest2,q++((if pre2.length=0 then [] else [124])++zcw w c))) ⟨⟨(by have hz:=hg2.1;rw[<-hz];simp),⟨(by have h3:(if pre2.length=0 then ([]:Str) else [124]).length<=1:=(by split<;>simp);simp only[xaa,xab,xai];omega),(by rw[<-hg2.2.2];simp[zcd])⟩⟩,(by simp),sx ⟨⟨_,rfl,xaq ?_⟩,⟨⟨_,rfl,xar ?_⟩,trivial⟩⟩ trivial⟩;iterate 2 focus (first|rfl|(rw[if_neg (by omega)];simp;done)|(rw[if_pos (by omega)];simp;done))
 have hrest2:rest2=[]:=by
  rcases rest2 with _|⟨a,b⟩
  ·rfl
  ·exfalso;have hz:=congrArg List.length (hg2.1);simp only[xaa,xab,xac] at hz;omega
 subst hrest2;refine ar ?_;have hfin:=hg2.2.2;simp only[zcd,List.append_nil] at hfin;refine xah ((pre++[y],rest,o++((if pre.length=0 then [] else [59])++(y.name++[61])++zcd w true y.ctors))) ⟨⟨(by have hz:=hg1.1;rw[<-hz];simp),⟨(by have h3:(if pre.length=0 then ([]:Str) else [59]).length<=1:=(by split<;>simp);simp only[xaa,xab,xai];omega),(by rw[<-hg1.2.2];simp[ziT])⟩⟩,(by simp),sx ⟨⟨_,rfl,xaq ?_⟩,⟨⟨_,rfl,xar ?_⟩,trivial⟩⟩ trivial⟩;iterate 2 focus (first|rfl|(simp;done)|(rw[hfin];simp;done))
 have hrest:rest=[]:=by
  rcases rest with _|⟨a,b⟩
  ·rfl
  ·exfalso;have hz:=congrArg List.length (hg1.1);simp only[xaa,xab,xac] at hz;omega
 subst hrest;refine rq ?_;rotate_left;all_goals (refine congrArg D.str ?_;have hfin:=hg1.2.2;simp only[ziT,List.append_nil] at hfin;exact hfin)
def pwL (s:Str):List Str:=cutL 59 [] s
def pwP (s:Str) (i:Nat):List Str:=cutL 61 [] (nth (pwL s) i)
def pwC (s:Str) (i:Nat):List Str:=cutL 124 [] (nth (pwP s i) 1)
def zbB (s:Str):Nat:=if s=[] then 0 else min (pwL s).length 5
def zcN (s:Str) (n:Nat):List Str:=(List.range n).map fun i=>nth (pwP s i) 0
def zkR (s:Str) (i:Nat):Data:=⟨nth (pwP s i) 0,((pwC s i).take 5).map (zcJ (zcN s (zbB s)))⟩
def zcZ (s:Str) (n:Nat):List Data:=(List.range n).map (zkR s)
def zhS (s:Str):Bool:=(List.range (zbB s)).all (fun i=>decide ((pwP s i).length=2))&&(za2 (zcZ s (zbB s))&&decide (zfs (zcZ s (zbB s))=s))
def zdN (s:Str):List Data×Bool:=if zhS s then (zcZ s (zbB s),true) else ([],false)
theorem zrv (s:Str):zbB s<=(pwL s).length/\zbB s<=5:=by unfold zbB;split<;>omega
theorem zeA {s:Str}{i:Nat}:i<zbB s↔(i<(pwL s).length/\i<=4)/\s≠[]:=by
 unfold zbB;split
 ·rename_i h;simp[h]
 ·rename_i h;simp only[h,ne_eq,not_false_eq_true,and_true];omega
theorem zaZ (s:Str) (n:Nat):(zcN s n).length=n:=by simp[zcN]
theorem zrw (s:Str) (n:Nat):zcN s (n+1)=zcN s n++[nth (pwP s n) 0]:=by unfold zcN;rw[List.range_succ,xaf];rfl
theorem znz (s:Str) (n:Nat):zcZ s (n+1)=zcZ s n++[zkR s n]:=by unfold zcZ;rw[List.range_succ,xaf];rfl
theorem zwU {s:Str}{n m:Nat} (h:m<n):((zcN s n).map fun n=>[D.str n])[m]?=some [D.str (nth (pwP s m) 0)]:=by
 simp[zcN,h]
theorem zsQ {s:Str}{i:Nat} (h:i<(pwL s).length):(nth (pwL s) i).length<=s.length:=zet h
theorem zls {s:Str}{i j:Nat} (h:i<(pwL s).length) (hj:j<(pwP s i).length):(nth (pwP s i) j).length<=s.length:=Nat.le_trans (zet hj) (zsQ h)
theorem zw0 {s:Str}{i k:Nat} (h:k<(pwC s i).length):(nth (pwC s i) k).length<=(nth (pwP s i) 1).length:=zet h
theorem zu0 {α:Type}{l:List α}{i:Nat} (h:i=5\/(i<=5/\l.length<=i)):l.take i=l.take 5:=by
 rcases h with rfl|⟨h1,h2⟩
 ·rfl
 ·rw[List.take_of_length_le h2,List.take_of_length_le (by omega)]
theorem ztl {c:UInt8}{s:Str}:(nth (cutL c [] s) 0).length<=s.length:=zet (zjm c s [])
theorem zrp {names:List Str}{s:Str}:(zcJ names s).name.length<=s.length/\(zcJ names s).args.length<=4:=by
 have key:∀(ix:Int) (t:Str),(zhE names ix t).name.length<=t.length/\(zhE names ix t).args.length<=4:=by
  intro ix t;refine⟨ztl, ?_⟩;unfold zhE;dsimp only;split
  ·simp
  ·simp only[xac,List.length_take];omega
 unfold zcJ;split
 ·have:=key (((nth s (s.length-1)).toNat:Int)-48) (s.take (s.length-2));rw[List.length_take] at this;omega
 ·exact key 0 s
theorem zuK {s:Str} (hs:s.length<=1000000) (h2:∀j,j<zbB s->(pwP s j).length=2):WSmall (zcZ s (zbB s)):=by
 have hl:=zrv s;have hd:∀d∈zcZ s (zbB s),∃i,i<zbB s/\d=zkR s i:=fun d hd=>by
  obtain⟨i,hi,rfl⟩:=List.mem_map.1 hd;exact⟨i,List.mem_range.1 hi,rfl⟩
 refine⟨by simp only[zcZ,xac,List.length_range];omega,fun d hd'=>?_,fun d hd' c hc=>?_⟩
 ·obtain⟨i,hi,rfl⟩:=hd d hd';have:=zls (s:=s) (i:=i) (j:=0) (by omega) (by rw[h2 i hi];omega);refine⟨?_, ?_⟩
  ·show(nth (pwP s i) 0).length<=_;omega
  ·simp only[zkR,xac,List.length_take];omega
 ·obtain⟨i,hi,rfl⟩:=hd d hd';obtain⟨t,ht,rfl⟩:=List.mem_map.1 hc;have h3:=zls (s:=s) (i:=i) (j:=1) (by omega) (by rw[h2 i hi];omega);have h4:t.length<=(nth (pwP s i) 1).length:=by simpa using zjl 124 (nth (pwP s i) 1) [] t (List.mem_of_mem_take ht)
  have h5:=zrp (names:=zcN s (zbB s)) (s:=t);omega
theorem zyH {s:Str} (hs:s.length<=1000000):FnD Tryz.prog 261 [.d (.str s),.d (.int .u8 59)] [] (.d (zfi (pwL s))) []:=zcB (s:=s) (c:=59) (by omega)
theorem zv6 {s:Str}{i:Nat} (hs:s.length<=1000000) (h:i<(pwL s).length):FnD Tryz.prog 261 [.d (.str (nth (pwL s) i)),.d (.int .u8 61)] [] (.d (zfi (pwP s i))) []:=zcB (s:=nth (pwL s) i) (c:=61) (by have:=zsQ h;omega)
theorem zyG {s:Str}{i:Nat} (hs:s.length<=1000000) (h:i<(pwL s).length) (h2:(pwP s i).length=2):FnD Tryz.prog 261 [.d (.str (nth (pwP s i) 1)),.d (.int .u8 124)] [] (.d (zfi (pwC s i))) []:=
 zcB (s:=nth (pwP s i) 1) (c:=124) (by have:=zls (j:=1) h (by omega);omega)
theorem zlE {w:List Data} (hs:WSmall w):FnD Tryz.prog 182 [.d (zah w)] [] (.d (.bool (za2 w))) []:=by
 rw[<-zg5];exact zgI hs
theorem zsE {s:Str} (h:zhS s=false):zdN s=([],false):=by unfold zdN;rw[if_neg (by rw[h];simp)]
theorem zvq {s:Str} (h:zhS s=true):zdN s=(zcZ s (zbB s),true):=by unfold zdN;rw[if_pos h]
theorem zvp {s:Str}{i:Nat} (h:i<zbB s) (h2:¬(pwP s i).length=2):zhS s=false:=by
 unfold zhS;rw[zdm h (by simpa using h2),Bool.false_and]
theorem zpf {s:Str} (h:∀j,j<zbB s->(pwP s j).length=2):zhS s=(za2 (zcZ s (zbB s))&&decide (zfs (zcZ s (zbB s))=s)):=by
 unfold zhS;rw[zdJ (fun i hi=>by simpa using h i hi),Bool.true_and]
theorem zk9 {s:Str} (hs:s.length<=100000):FnD Tryz.prog 171 [.d (.str s)] [] (.tup [.d (zah (zdN s).1),.d (.bool (zdN s).2)]) []:=by
 have hl:=zrv s;have hcl:(pwL s).length<=s.length+1:=zes 59 s [];have hccl:∀i,(pwC s i).length<=(nth (pwP s i) 1).length+1:=fun i=>zes 124 _ [];have hnl:=zaZ s;refine bd Tryz.f171 101 [] [5,17,21] fun w0 F0 own kept hk=>?_;refine xbh 1 sl23 .none rfl rfl ?_;refine ev ?_;refine xbh 2 zbY .none rfl rfl ?_;refine ev ?_;refine wc zgB (zyH (s:=s) (by omega)) rfl rfl ?_;refine ev ?_;refine xak (ι:=Nat) hk (fun i=>[(7,.d (.i (i:Int))),(5,.gl 2 ((zcN s i).map fun n=>[D.str n]))]) [2,3,8,17,18,19,20,21,22,23,24,25,26,27,28,29,30,31,32,33,34,35,36,37,38,39,40,41,42,43,44,45] (fun i=>[(2,some (.tok (((zcN s i).map fun n=>[D.str n])).length 1))]) (fun i=>i<=zbB s/\∀j,j<i->(pwP s j).length=2) (fun i=>zbB s-i) 0 ⟨by omega,fun j h=>absurd h (by omega)⟩ ⟨⟨_,rfl,xaq ?_⟩,⟨⟨_,rfl,LeA.glg ?_⟩,trivial⟩⟩ ⟨zab ?_,trivial⟩ (fun x=>rfl) (fun i hg1=>?_);iterate 3 focus (rfl)
 refine evc [] [5,17,21] ?_;refine xal ?_;refine xaB 12 [(28,.d (.bool (decide (i<zbB s))))] [17,18,19,20,21,22,23,24,25,26,27] ?_ ?_;refine ev ?_;refine sq ?_ ?_<;>intro h1 h1p h1s<;>(try simp only[Q,zaZ] at h1p);refine sq ?_ ?_<;>intro h2 h2p h2s<;>(try simp only[Q,zaZ] at h2p);focus (exact jn rfl (xap (by(rw[Bool.eq_iff_iff];simp_all[zeA];omega))))
 focus (exact jn rfl (xap (by(rw[Bool.eq_iff_iff];simp_all[zeA];omega))))
 refine sqF ?_;focus (exact jn rfl (xap (by(rw[Bool.eq_iff_iff];simp_all[zeA];omega))))
 refine xaA ?_;refine tv ?_;refine sq ?_ ?_<;>intro h3 h3p h3s<;>(try simp only[Q,zaZ] at h3p);refine xaU zbY .none rfl rfl rfl rfl (zaq (by omega)) rfl ?_;refine ev ?_;refine wc zgB (zv6 (s:=s) (i:=i) (by omega) (by omega)) rfl rfl ?_;refine ev ?_;refine sq ?_ ?_<;>intro h4 h4p h4s<;>(try simp only[Q,zaZ] at h4p);refine xbg sl23 .none rfl ?_;refine ev ?_;refine rn0 (r2 rfl rfl) (.tup (.cons (.eqd ?_) (.cons (.eqd ?_) .nil)));rotate_left 2;refine xaU (i:=0) zbY .none rfl rfl rfl rfl (zaq (by omega)) rfl ?_;refine ev ?_;refine si [0] [_] zbY tz9 ?_;refine ap zbY zz9 rfl rfl rfl (by simp) (by simp[zaZ,zcZ];omega) ?_;refine ev ?_;refine ar ?_;refine xah (i+1) ⟨⟨by omega,zaT hg1.2 (by omega)⟩,(by omega),sx ⟨⟨_,rfl,xaq ?_⟩,⟨⟨_,rfl,LeA.glg ?_⟩,trivial⟩⟩ ⟨zab ?_,trivial⟩⟩;iterate 3 focus (first|rfl|(rw[zrw];simp;done))
 obtain rfl:i=zbB s:=(by omega);refine xak (ι:=Nat) hk (fun m=>[(9,.d (.i (m:Int))),(4,.gl 1 ((zcZ s m).map Data.c))]) [10,11,12,46,47,48,49,50,51,52,53,54,55,56,57,58,59,60,61,62,63,64,65,66,67,68,69,70,71,72,73,74,75,76,77,78,79,80,81,82,83,84,85,86,87,88,89] (fun m=>[(1,some (.tok (((zcZ s m).map Data.c)).length 2))]) (fun m=>m<=zbB s) (fun m=>zbB s-m) 0 (by omega) ⟨⟨_,rfl,xaq ?_⟩,⟨⟨_,rfl,LeA.glg ?_⟩,trivial⟩⟩ ⟨zab ?_,trivial⟩ (fun x=>rfl) (fun m hg2=>?_);iterate 3 focus (rfl)
 refine evc [] [5,17,21] ?_;refine sq ?_ ?_<;>intro h5 h5p h5s<;>(try simp only[Q,zaZ] at h5p);refine xaU zbY .none rfl rfl rfl rfl (zaq (by omega)) rfl ?_;refine ev ?_;refine wc zgB (zv6 (s:=s) (i:=m) (by omega) (by omega)) rfl rfl ?_;refine xaU (i:=1) zbY .none rfl rfl rfl rfl (zaq (by(rw[hg1.2 m (by omega)];omega))) rfl ?_;refine ev ?_;refine wc zgB (zyG (s:=s) (i:=m) (by omega) (by omega) (hg1.2 m (by omega))) rfl rfl ?_;refine ev ?_;refine xaX zbY .none rfl rfl rfl rfl (zwU (by omega)) rfl ?_;refine ev ?_;refine bu [0] [_] zyN ?_;refine ab 3011 ztz ?_;refine so zwo ?_;refine tv ?_;refine xan 3011 1 3 3 rfl rfl rfl rfl ?_;refine xak (ι:=Nat) hk (fun k=>[(12,.d (.i (k:Int)))]) [65,66,67,68,69,70,71,72,73,74,75,76,77,78,79,80,81,82,83,84,85] (fun k=>[(3011,some (.box [.d (.str (nth (pwP s m) 0)),.gl 3 ((((pwC s m).map (zcJ (zcN s (zbB s)))).take k).map Ctor.c)])),(3,some (.tok ((((pwC s m).map (zcJ (zcN s (zbB s)))).take k).map Ctor.c).length 3))]) (fun k=>k<=5/\k<=(pwC s m).length) (fun k=>5-k) 0 ⟨by omega,by omega⟩ ⟨⟨_,rfl,xaq ?_⟩,trivial⟩ ⟨?_,⟨zab ?_,trivial⟩⟩ (fun x=>rfl) (fun k hg3=>?_);focus (rfl)
 focus (rfl)
 focus (rfl)
 refine evc [] [5,17,21] ?_;refine xal ?_;refine xaB 8 [(72,.d (.bool (decide (k<(pwC s m).length/\k<=4))))] [65,66,67,68,69,70,71] ?_ ?_;refine ev ?_;refine sq ?_ ?_<;>intro h6 h6p h6s<;>(try simp only[Q,zaZ] at h6p);focus (exact jn rfl (xap (by(rw[Bool.eq_iff_iff];simp_all[zeA];omega))))
 focus (exact jn rfl (xap (by(rw[Bool.eq_iff_iff];simp_all[zeA];omega))))
 refine xaA ?_;refine tv ?_;refine sq ?_ ?_<;>intro h7 h7p h7s<;>(try simp only[Q,zaZ] at h7p);refine xaU zbY .none rfl rfl rfl rfl (zaq (by omega)) rfl ?_;refine evd [] [] ?_;refine Walk.call (cr:=[]) zxI (zkd (names:=zcN s (zbB s)) (s:=nth (pwC s m) k) (by rw[hnl];omega) (by have h1:=zls (s:=s) (i:=m) (j:=1) (by omega) (by rw[hg1.2 m (by omega)];omega);have h2:=zw0 (s:=s) (i:=m) (k:=k) (by omega);omega)) rfl .none rfl rfl (.cons (.gl _ _) (.cons (.refl _) .nil)) trivial rfl rfl rfl ?_;refine si [0] [_] zcP zhq ?_;refine ap zcP zyU rfl rfl rfl (by simp) (by simp[zaZ,zcZ];omega) ?_;refine evd [] [] ?_;refine so zyQ ?_;refine dr ?_;refine ar ?_;refine xah (k+1) ⟨⟨by omega,by omega⟩,(by omega),sx ⟨⟨_,rfl,xaq ?_⟩,trivial⟩ ⟨?_,⟨zab ?_,trivial⟩⟩⟩;focus (rfl)
 focus ((show some (Res.box _)=some (Res.box _);rw[zgU (by omega)];simp;done))
 focus ((simp;omega))
 refine si [0] [_] sl23 ztz ?_;refine ap sl23 zyT rfl rfl rfl (by simp) (by simp[zaZ,zcZ];omega) ?_;refine ev ?_;refine ar ?_;refine xah (m+1) ⟨(by omega),(by omega),sx ⟨⟨_,rfl,xaq ?_⟩,⟨⟨_,rfl,LeA.glg ?_⟩,trivial⟩⟩ ⟨zab ?_,trivial⟩⟩;iterate 3 focus (first|rfl|(rw[znz];simp;done)|(rw[znz,xaf];simp only[xae,List.map_nil,zkR,Data.c];rw[<-List.map_take,zu0 (by omega)];done))
 obtain rfl:m=zbB s:=(by omega);refine xal ?_;refine xaB 9 [(98,.d (.bool (!(za2 (zcZ s (zbB s))&&decide (zfs (zcZ s (zbB s))=s)))))] [90,91,92,93,94,95,96,97] ?_ ?_;refine ev ?_;refine Walk.call (cr:=[]) ztN (zlE (zuK (by omega) hg1.2)) rfl .none rfl rfl (.cons (.gl _ _) .nil) trivial rfl rfl rfl ?_;refine ev ?_;refine sq ?_ ?_<;>intro h8 h8p h8s<;>(try simp only[Q,zaZ] at h8p);focus (exact jn rfl (xap (by(rw[Bool.eq_iff_iff];simp_all[zeA];done))))
 refine Walk.call (cr:=[]) zxJ (zoP (zvX (by assumption))) rfl (.some rfl rfl h8) rfl rfl (.cons (.gl _ _) .nil) trivial rfl rfl rfl ?_;refine evs [] [(93,false)] ?_ ⟨⟨_,rfl,h8⟩,trivial⟩;focus (exact jn rfl (xap (by(rw[Bool.eq_iff_iff];simp_all[zeA];done))))
 refine xaA ?_;refine tv ?_;refine sq ?_ ?_<;>intro h9 h9p h9s<;>(try simp only[Q,zaZ] at h9p);refine xbg sl23 .none rfl ?_;refine ev ?_;refine rn0 (r2 rfl rfl) (.tup (.cons (.eqd ?_) (.cons (.eqd ?_) .nil)));rotate_left 2;refine rn0 (r2 rfl rfl) (.tup (.cons (.gld ?_) (.cons (.eqd ?_) .nil)));rotate_left 2;all_goals (first|(have hq:=zvp (s:=s) (i:=i) h3p (fun h=>h4p (by omega));rw[zsE hq];all_goals rfl)|(have hr:=zpf hg1.2;rw[h9s] at hr;rw[zsE hr];all_goals rfl)|(have hr:=zpf hg1.2;rw[h9s] at hr;rw[zvq hr];all_goals rfl))
def zd7:List Str:=[[76,61,78,105,108,124,67,111,110,115,40,73,44,76,41],
 [66,61,84,114,117,124,70,108,115,59,84,61,76,101,97,102,124,78,111,100,101,40,84,44,66,44,84,41],
 [69,61,78,117,109,40,73,41,58,49,124,66,111,108,40,66,41,58,50,124,65,100,100,40,69,49,44,69,49,41,58,49,124,73,102,40,69,50,44,69,42,44,69,42,41,59,66,61,84,114,117,124,70,108,115],
 [79,61,78,111,110,124,83,111,109,40,73,41,59,80,61,80,97,105,114,40,79,44,79,41],
 [86,61,69,110,100,58,49,124,83,111,109,101,40,73,44,86,49,41,58,50,124,84,119,111,40,86,42,41],
 [78,61,78,101,118,101,114,40,78,41,59,66,61,84,114,117,124,70,108,115,124,77,97,121,40,78,41],
 [83,61,82,101,100,124,71,114,101,101,110,124,66,108,117,101,124,77,105,120,40,83,44,83,41],
 []]
theorem zn5:zd7.length=8:=rfl
theorem zrP:∀t∈zd7,t.length<=100:=by decide
theorem zty {i:Nat} (h:i<8):(nth zd7 i).length<=100:=zrP _ (zae h)
def zbJ (b:Str) (p:Nat):List Data:=(zdN (nth zd7 (zap b p 7).toNat)).1
theorem zto (b:Str) (p:Nat):(zap b p 7).toNat<7:=by have:=zcR (b:=b) (p:=p) (n:=7) (by omega);omega
theorem znO:FnD Tryz.prog 172 [] [] (.d (zfi zd7)) []:=by
 refine bd Tryz.f172 2 [] [] fun w0 F0 own kept hk=>?_;refine si [0,1,2,3,4,5,6,7] [_,_,_,_,_,_,_,_] zbY tz9 ?_;refine ev ?_;refine rq ?_;rotate_left;all_goals (rfl)
theorem znQ {b:Str}{p:Nat} (hb:b.length<=2000) (hp:p<=1000000):
  FnD Tryz.prog 290 [.ref 900 0] [(900,some (rdB b p))] (.d (zah (zbJ b p))) [(900,some (rdB b (p+1)))]:=by
 have h7:=zto b p;have ht8:=zn5;have hv:=zcR (b:=b) (p:=p) (n:=7) (by omega);have hts:=zty (i:=(zap b p 7).toNat) (by omega);refine bd Tryz.f290 20 [] [] fun w0 F0 own kept hk=>?_;refine wc zxv (znO) rfl rfl ?_;refine ev ?_;refine ar ?_;refine wd zch (zaS (n:=7) hb (by omega) (by omega)) rfl rfl ⟨rfl,trivial⟩ ?_;refine xaU (i:=(zap b p 7).toNat) zbY .none rfl rfl rfl (by omega) (zaq (by rw[zn5];omega)) rfl ?_;refine ev ?_;refine wc zxu (zk9 (s:=nth zd7 (zap b p 7).toNat) (by omega)) rfl rfl ?_;refine ev ?_;refine rn [(900,some (rdB b (p+1)))] (r1 rfl) (.eqd ?_) ⟨rfl,rfl⟩ (SubO.get ⟨.inr ?_,⟨.inl rfl,trivial⟩⟩) (zay rfl);rotate_left 2;all_goals (first|((rfl);done)|(rfl))
def anyP:Pat:=⟨1,0,0,0,0,[]⟩
def dA (f:Ty->Nat->Pat×Nat):List Ty->Nat->List Pat×Nat
 | [],q=>([],q)
 |t::r,q=>((f t q).1::(dA f r (f t q).2).1,(dA f r (f t q).2).2)
def zaI (b:Str) (w:List Data):Nat->Ty->Nat->Pat×Nat
 |0,_,p=>(anyP,p)
 |d+1,t,p=>
  if d=0 then (anyP,p)
  else if zap b p 4=0 then (anyP,p+1)
  else if zap b (p+1) 6=0 then (⟨5,0,0,0,0,[(zaI b w d t (p+2)).1,(zaI b w d t (zaI b w d t (p+2)).2).1]⟩,(zaI b w d t (zaI b w d t (p+2)).2).2)
  else if t.data = -1 then (⟨3,0,zap b (p+2) 10,zap b (p+2) 10+zap b (p+3) (10-zap b (p+2) 10)*zap b (p+4) 2,0,[]⟩,p+5)
  else if (zal w t).length=0 then (anyP,p+2)
  else (⟨4,nth (zal w t) (zap b (p+2) (zal w t).length).toNat,0,0,0,(dA (zaI b w d) (zaa w t (nth (zal w t) (zap b (p+2) (zal w t).length).toNat)) (p+3)).1⟩,
   (dA (zaI b w d) (zaa w t (nth (zal w t) (zap b (p+2) (zal w t).length).toNat)) (p+3)).2)
def bdP:Nat->Nat
 |0=>0
 |d+1=>5+3*bdP d
def Few (w:List Data):Prop:=∀t c,c∈zal w t->TyIn w.length t->(zaa w t c).length<=3/\∀u∈zaa w t c,TyIn w.length u
theorem zv7 {f:Ty->Nat->Pat×Nat}{k:Nat}:∀(l:List Ty) (q:Nat),(∀t∈l,∀q,(f t q).2<=q+k)->(dA f l q).2<=q+l.length*k
 | [],q,_=>by simp[dA]
 |t::r,q,h=>by
  have h1:=h t (by simp) q;have h2:=zv7 r (f t q).2 (fun x hx=>h x (by simp[hx]));simp only[dA,xab,Nat.add_mul];omega
theorem zum {f:Ty->Nat->Pat×Nat}:∀(l:List Ty) (q:Nat),(dA f l q).1.length=l.length
 | [],q=>rfl
 |t::r,q=>by simp only[dA,xab,zum r]
theorem zjJ {l:List Int}{b:Str}{p:Nat} (h:¬l.length=0):nth l (zap b p l.length).toNat∈l:=by
 have:=zcR (b:=b) (p:=p) (n:=(l.length:Int)) (by omega);exact zae (by omega)
theorem zjn {b:Str}{w:List Data} (hf:Few w):∀(d:Nat) (t:Ty) (p:Nat),TyIn w.length t->(zaI b w d t p).2<=p+bdP d
 |0,t,p,_=>by simp[zaI,bdP]
 |d+1,t,p,ht=>by
  have ih:=fun t p ht=>zjn (b:=b) hf d t p ht;unfold zaI bdP;split
  ·dsimp only;omega
  ·split
   ·dsimp only;omega
   ·split
    ·dsimp only;have h1:=ih t (p+2) ht;have h2:=ih t (zaI b w d t (p+2)).2 ht;omega
    ·split
     ·dsimp only;omega
     ·split
      ·dsimp only;omega
      ·rename_i h5;dsimp only;have hm:=zjJ (b:=b) (p:=p+2) h5;have h3:=hf t _ hm ht;have h1:=zv7 (f:=zaI b w d) (k:=bdP d) (zaa w t (nth (zal w t) (zap b (p+2) (zal w t).length).toNat)) (p+3) (fun u hu q=>ih u q (h3.2 u hu));have h4:(zaa w t (nth (zal w t) (zap b (p+2) (zal w t).length).toNat)).length*bdP d<=3*bdP d:=Nat.mul_le_mul_right _ h3.1;omega
theorem zu9 {w:List Data} (hs:WSmall w) (hv:za2 w=true):Few w:=by
 have hw:=zeG hs hv;have hW:=(zcC w).1 hv;rintro ⟨a,k⟩ c hc ht
 obtain⟨d,rfl,h1,j,rfl,h3⟩:=zcH ht hc;refine⟨?_,fun u hu=>zh7 hw h1 ⟨j,rfl,h3⟩ hu⟩;have hco:=hW.ctor _ (zae h1) _ (zae h3);simp only[zbD,xad,decide_eq_true_eq] at hco;simp only[zaa,Int.toNat_natCast,xac];omega
theorem Pat.cs_cc (l:List Pat):Pat.cs l=l.map Pat.cc:=by
 rw[Pat.cs_eq];exact List.map_congr_left (fun v _=>Pat.c_eq v)
section
variable {b:Str}{w:List Data}{d p:Nat}{a k:Int}
theorem zsv (h:d=0):zaI b w (d+1) ⟨a,k⟩ p=(anyP,p):=by simp only[zaI];rw[if_pos h]
theorem zsw (h:¬d=0) (h2:zap b p 4=0):zaI b w (d+1) ⟨a,k⟩ p=(anyP,p+1):=by simp only[zaI];rw[if_neg h,if_pos h2]
theorem zsx (h:¬d=0) (h2:¬zap b p 4=0) (h3:zap b (p+1) 6=0):zaI b w (d+1) ⟨a,k⟩ p =
  (⟨5,0,0,0,0,[(zaI b w d ⟨a,k⟩ (p+2)).1,(zaI b w d ⟨a,k⟩ (zaI b w d ⟨a,k⟩ (p+2)).2).1]⟩,(zaI b w d ⟨a,k⟩ (zaI b w d ⟨a,k⟩ (p+2)).2).2):=by
 simp only[zaI];rw[if_neg h,if_neg h2,if_pos h3]
theorem zsy (h:¬d=0) (h2:¬zap b p 4=0) (h3:¬zap b (p+1) 6=0) (h4:a = -1):zaI b w (d+1) ⟨a,k⟩ p =
  (⟨3,0,zap b (p+2) 10,zap b (p+2) 10+zap b (p+3) (10-zap b (p+2) 10)*zap b (p+4) 2,0,[]⟩,p+5):=by
 simp only[zaI];rw[if_neg h,if_neg h2,if_neg h3,if_pos h4]
theorem zsz (h:¬d=0) (h2:¬zap b p 4=0) (h3:¬zap b (p+1) 6=0) (h4:¬a = -1) (h5:(zal w ⟨a,k⟩).length=0):zaI b w (d+1) ⟨a,k⟩ p=(anyP,p+2):=by
 simp only[zaI];rw[if_neg h,if_neg h2,if_neg h3,if_neg h4,if_pos h5]
theorem zsA (h:¬d=0) (h2:¬zap b p 4=0) (h3:¬zap b (p+1) 6=0) (h4:¬a = -1) (h5:¬(zal w ⟨a,k⟩).length=0){cc:Int} (hc:nth (zal w ⟨a,k⟩) (zap b (p+2) (zal w ⟨a,k⟩).length).toNat=cc):zaI b w (d+1) ⟨a,k⟩ p =
  (⟨4,cc,0,0,0,(dA (zaI b w d) (zaa w ⟨a,k⟩ cc) (p+3)).1⟩,(dA (zaI b w d) (zaa w ⟨a,k⟩ cc) (p+3)).2):=by
 simp only[zaI];rw[if_neg h,if_neg h2,if_neg h3,if_neg h4,if_neg h5,hc]
end
theorem zeU {b:Str}{w:List Data} (hb:b.length<=2000) (hw:WT w) (hf:Few w):∀(d:Nat){a k m:Int}{p:Nat},m=d->d<=4->1<=d->p+bdP d<=1000000->TyIn w.length ⟨a,k⟩->
  FnD Tryz.prog 230 [.ref 900 0,.d (zah w),.agg [.d (.i a),.d (.i k)],.d (.i m)] [(900,some (rdB b p))]
   (.agg [.d (.i (zaI b w d ⟨a,k⟩ p).1.op),.d (.i (zaI b w d ⟨a,k⟩ p).1.ctor),.d (.i (zaI b w d ⟨a,k⟩ p).1.n),.d (.i (zaI b w d ⟨a,k⟩ p).1.m),.d (.i (zaI b w d ⟨a,k⟩ p).1.var),.d (zag (zaI b w d ⟨a,k⟩ p).1.kids)]) [(900,some (rdB b (zaI b w d ⟨a,k⟩ p).2))]
 |0,a,k,m,p,_,_,h1,_,_=>by omega
 |d+1,a,k,m,p,hm,hd4,_,hp,ht=>by
  have hcl:=zeV hw ht;have hbd:bdP (d+1)=5+3*bdP d:=rfl;have ih:=fun(t:Ty) (q:Nat) (ht:TyIn w.length t)=>zjn (b:=b) hf d t q ht;have v10:=zcR (b:=b) (p:=p+2) (n:=10) (by omega);have v11:=zcR (b:=b) (p:=p+3) (n:=10-zap b (p+2) 10) (by omega);have v12:=zcR (b:=b) (p:=p+4) (n:=2) (by omega);have v13:0<=zap b (p+3) (10-zap b (p+2) 10)*zap b (p+4) 2/\zap b (p+3) (10-zap b (p+2) 10)*zap b (p+4) 2<=10:=by
   have h:zap b (p+4) 2=0\/zap b (p+4) 2=1:=by omega
   rcases h with h|h<;>rw[h]<;>omega
  have hvl:((((zal w ⟨a,k⟩).map fun n=>[D.i n]).length:Nat):Int)=(zal w ⟨a,k⟩).length:=by simp
  have v14:=fun h=>zcR (b:=b) (p:=p+2) (n:=((zal w ⟨a,k⟩).length:Int)) h;have hmem:=fun h=>zjJ (l:=zal w ⟨a,k⟩) (b:=b) (p:=p+2) h;generalize hcc:nth (zal w ⟨a,k⟩) (zap b (p+2) (zal w ⟨a,k⟩).length).toNat=cc at *;have hfw:=fun h=>hf ⟨a,k⟩ cc (hmem h) ht;have hat:¬(zal w ⟨a,k⟩).length=0->((zal w ⟨a,k⟩).map fun n=>[D.i n])[(zap b (p+2) (zal w ⟨a,k⟩).length).toNat]?=some [D.i cc]:=fun h=>by
   rw[<-hcc];exact zaq (by have:=v14 (by omega);omega)
  refine bd Tryz.f230 96 [] [] fun w0 F0 own kept hk=>?_;refine bx 3006 ?_;refine ab 3008 tz36 ?_;refine tv ?_;refine sq ?_ ?_<;>intro h1 h1p h1s<;>(try simp only[Q] at h1p);refine sqT ?_;refine bu [0] [_] st36 ?_;refine so ty36 ?_;refine tv ?_;refine rn [(900,some (rdB b (zaI b w (d+1) ⟨a,k⟩ p).2))] (.cons (.cellA ty36 rfl rfl rfl) .nil) (.agg (.cons (.eqd ?_) (.cons (.eqd ?_) (.cons (.eqd ?_) (.cons (.eqd ?_) (.cons (.eqd ?_) (.cons (.nild ?_) .nil))))))) ⟨rfl,rfl⟩ (SubO.get ⟨.inr ?_,⟨.inl rfl,trivial⟩⟩) (zay rfl);rotate_left 7;refine Walk.call (cr:=[]) zch (zaS (p:=p) (n:=4) hb (by omega) (by omega)) rfl (.some rfl rfl h1) rfl rfl (LeL.refl _) ⟨rfl,trivial⟩ rfl rfl rfl ?_;refine evs [] [(16,false)] ?_ ⟨⟨_,rfl,h1⟩,trivial⟩;refine sq ?_ ?_<;>intro h3 h3p h3s<;>(try simp only[Q] at h3p);refine bu [0] [_] st36 ?_;refine so ty36 ?_;refine tv ?_;refine rn [(900,some (rdB b (zaI b w (d+1) ⟨a,k⟩ p).2))] (.cons (.cellA ty36 rfl rfl rfl) .nil) (.agg (.cons (.eqd ?_) (.cons (.eqd ?_) (.cons (.eqd ?_) (.cons (.eqd ?_) (.cons (.eqd ?_) (.cons (.nild ?_) .nil))))))) ⟨rfl,rfl⟩ (SubO.get ⟨.inr ?_,⟨.inl rfl,trivial⟩⟩) (zay rfl);rotate_left 7;refine wd zch (zaS (p:=p+1) (n:=6) hb (by omega) (by omega)) rfl rfl ⟨rfl,trivial⟩ ?_;refine ev ?_;refine sq ?_ ?_<;>intro h4 h4p h4s<;>(try simp only[Q] at h4p);refine ar ?_;refine wd zmL (zeU hb hw hf d (p:=p+2) (by omega) (by omega) (by omega) (by omega) ht) rfl rfl ⟨rfl,trivial⟩ ?_;refine evd [] [] ?_;refine ar ?_;refine wd zmL (zeU hb hw hf d (p:=(zaI b w d ⟨a,k⟩ (p+2)).2) (by omega) (by omega) (by omega) (by have:=ih ⟨a,k⟩ (p+2) ht;omega) ht) rfl rfl ⟨rfl,trivial⟩ ?_;refine si [0,1] [_,_] sl34 tz36 ?_;refine bu [0,5] [_,_] st36 ?_;refine so ty36 ?_;refine dr ?_;refine rn [(900,some (rdB b (zaI b w (d+1) ⟨a,k⟩ p).2))] (.cons (.cellA ty36 rfl rfl rfl) .nil) (.agg (.cons (.eqd ?_) (.cons (.eqd ?_) (.cons (.eqd ?_) (.cons (.eqd ?_) (.cons (.eqd ?_) (.cons (.eqd ?_) .nil))))))) ⟨rfl,rfl⟩ (SubO.get ⟨.inr ?_,⟨.inl rfl,trivial⟩⟩) (zay rfl);rotate_left 7;refine sq ?_ ?_<;>intro h5 h5p h5s<;>(try simp only[Q] at h5p);refine wd zch (zaS (p:=p+2) (n:=10) hb (by omega) (by omega)) rfl rfl ⟨rfl,trivial⟩ ?_;refine ev ?_;refine ar ?_;refine wd zch (zaS (p:=p+3) (n:=10-zap b (p+2) 10) hb (by omega) (by omega)) rfl rfl ⟨rfl,trivial⟩ ?_;refine ev ?_;refine wd zch (zaS (p:=p+4) (n:=2) hb (by omega) (by omega)) rfl rfl ⟨rfl,trivial⟩ ?_;refine ev ?_;refine ar ?_;refine ar ?_;refine bu [0,2,3] [_,_,_] st36 ?_;refine so ty36 ?_;refine tv ?_;refine rn [(900,some (rdB b (zaI b w (d+1) ⟨a,k⟩ p).2))] (.cons (.cellA ty36 rfl rfl rfl) .nil) (.agg (.cons (.eqd ?_) (.cons (.eqd ?_) (.cons (.eqd ?_) (.cons (.eqd ?_) (.cons (.eqd ?_) (.cons (.nild ?_) .nil))))))) ⟨rfl,rfl⟩ (SubO.get ⟨.inr ?_,⟨.inl rfl,trivial⟩⟩) (zay rfl);rotate_left 7;refine wc zep (zbZ hw ht) rfl rfl ?_;refine ev ?_;refine sq ?_ ?_<;>intro h6 h6p h6s<;>(try simp only[Q] at h6p);refine bu [0] [_] st36 ?_;refine so ty36 ?_;refine tv ?_;refine rn [(900,some (rdB b (zaI b w (d+1) ⟨a,k⟩ p).2))] (.cons (.cellA ty36 rfl rfl rfl) .nil) (.agg (.cons (.eqd ?_) (.cons (.eqd ?_) (.cons (.eqd ?_) (.cons (.eqd ?_) (.cons (.eqd ?_) (.cons (.nild ?_) .nil))))))) ⟨rfl,rfl⟩ (SubO.get ⟨.inr ?_,⟨.inl rfl,trivial⟩⟩) (zay rfl);rotate_left 7;refine wd zch (zaS (p:=p+2) (n:=((((zal w ⟨a,k⟩).map fun n=>[D.i n]).length:Nat):Int)) hb (by omega) (by omega)) rfl rfl ⟨rfl,trivial⟩ ?_;refine xaU (i:=(zap b (p+2) (zal w ⟨a,k⟩).length).toNat) sl29 .none rfl rfl rfl (by rw[hvl];have:=v14 (by omega);omega) (hat (by omega)) rfl ?_;refine ev ?_;refine bu [0,1] [_,_] st36 ?_;refine ab 3011 tz36 ?_;refine so ty36 ?_;refine tv ?_;refine wc zdn (zbu hw ht (hmem (by omega))) rfl rfl ?_;refine ev ?_;refine xan 3011 5 1 6 rfl rfl rfl rfl ?_;refine xak (ι:=List (Ty)×List (Ty)×(Nat)×(List Pat)) hk (fun x=>[(13,.d (.i (x.1.length:Int)))]) [75,76,77,78,79,80,81,82,83,84,85,86,87,88,89,90,91,92,93,94] (fun x=>[(900,some (.box [.d (zcx b),.d (.i (x.2.2.1:Int))])),(3011,some (.box [.d (.i 4),.d (.i cc),.d (.i 0),.d (.i 0),.d (.i 0),.gl 1 (x.2.2.2.map Pat.cc)])),(1,some (.tok (x.2.2.2.map Pat.cc).length 6))]) (fun x=>x.1++x.2.1=zaa w ⟨a,k⟩ cc/\x.2.2.1<=p+3+x.1.length*bdP d/\x.2.2.2.length=x.1.length/\(x.2.2.2++(dA (zaI b w d) x.2.1 x.2.2.1).1,(dA (zaI b w d) x.2.1 x.2.2.1).2)=dA (zaI b w d) (zaa w ⟨a,k⟩ cc) (p+3)) (fun x=>x.2.1.length) ([],zaa w ⟨a,k⟩ cc,p+3,[]) ⟨by simp,by simp,by simp,by simp⟩ ⟨⟨_,rfl,xaq ?_⟩,trivial⟩ ⟨?_,⟨?_,⟨zab ?_,trivial⟩⟩⟩ (fun x=>rfl) (fun x hg1=>?_);focus (rfl)
  iterate 2 focus (first|rfl|(simp[getH];done))
  focus (rfl)
  obtain⟨pre,rest,q,ks⟩:=x;dsimp only at hg1 ⊢;refine evc [] [] ?_;refine sq ?_ ?_<;>intro h7 h7p h7s<;>(try simp only[Q] at h7p);rcases rest with _|⟨y,rest⟩
  ·exfalso;simp_all
  have hpm:pre.length*bdP d<=2*bdP d:=Nat.mul_le_mul_right _ (by have:=(hfw (by omega)).1;omega);refine xaU zaN .none rfl rfl rfl rfl (zaG hg1.1) rfl ?_;refine evd [] [] ?_;refine ar ?_;refine wd zmL (zeU hb hw hf d (a:=y.data) (k:=y.index) (p:=q) (by omega) (by omega) (by omega) (by omega) ((hfw (by omega)).2 y (by rw[<-hg1.1];simp))) rfl rfl ⟨rfl,trivial⟩ ?_;refine si [0] [_] sl34 tz36 ?_;refine ap sl34 zz36 rfl rfl rfl (by simp) (by have hz:=congrArg List.length hg1.1;have:=(hfw (by omega)).1;simp at hz ⊢;omega) ?_;refine evd [] [] ?_;refine so ty34 ?_;refine dr ?_;refine ar ?_;refine xah ((pre++[y],rest,(zaI b w d y q).2,ks++[(zaI b w d y q).1])) ⟨⟨(by have hz:=hg1.1;rw[<-hz];simp),⟨(by have:=ih y q ((hfw (by omega)).2 y (by rw[<-hg1.1];simp));simp only[xaa,xab,xai,Nat.add_mul];omega),(by simp[hg1.2.2.1]),(by rw[<-hg1.2.2.2];simp[dA])⟩⟩,(by simp),sx ⟨⟨_,rfl,xaq ?_⟩,trivial⟩ ⟨?_,⟨?_,⟨zab ?_,trivial⟩⟩⟩⟩;focus ((simp;done))
  iterate 2 focus (first|rfl|(simp[getH];done))
  focus ((simp;done))
  have hrest:rest=[]:=by
   rcases rest with _|⟨a,b⟩
   ·rfl
   ·exfalso;have hz:=congrArg List.length (hg1.1);simp only[xaa,xab,xac] at hz;omega
  subst hrest;refine so ty36 ?_;refine tv ?_;refine rn [(900,some (rdB b (zaI b w (d+1) ⟨a,k⟩ p).2))] (.cons (.cellA ty36 rfl rfl rfl) .nil) (.agg (.cons (.eqd ?_) (.cons (.eqd ?_) (.cons (.eqd ?_) (.cons (.eqd ?_) (.cons (.eqd ?_) (.cons (.gld ?_) .nil))))))) ⟨rfl,rfl⟩ (SubO.get ⟨.inr ?_,⟨.inl rfl,trivial⟩⟩) (zay rfl);rotate_left 7;all_goals (((first|(rw[zsv (by omega)];all_goals first|rfl|(show _=D.sl (Pat.cs _);rw[Pat.cs_cc];all_goals rfl)|(show _=Pat.cs _;rw[Pat.cs_cc];all_goals rfl))|(rw[zsw (by omega) (by omega)];all_goals first|rfl|(show _=D.sl (Pat.cs _);rw[Pat.cs_cc];all_goals rfl)|(show _=Pat.cs _;rw[Pat.cs_cc];all_goals rfl))|(rw[zsx (by omega) (by omega) (by omega)];all_goals first|rfl|(show _=D.sl (Pat.cs _);rw[Pat.cs_cc];all_goals rfl)|(show _=Pat.cs _;rw[Pat.cs_cc];all_goals rfl))|(rw[zsy (by omega) (by omega) (by omega) (by omega)];all_goals first|rfl|(show _=D.sl (Pat.cs _);rw[Pat.cs_cc];all_goals rfl)|(show _=Pat.cs _;rw[Pat.cs_cc];all_goals rfl))|(rw[zsz (by omega) (by omega) (by omega) (by omega) (by omega)];all_goals first|rfl|(show _=D.sl (Pat.cs _);rw[Pat.cs_cc];all_goals rfl)|(show _=Pat.cs _;rw[Pat.cs_cc];all_goals rfl))|(rw[zsA (by omega) (by omega) (by omega) (by omega) (by omega) hcc];have hfin:=hg1.2.2.2;simp only[dA,List.append_nil] at hfin;rw[<-hfin];all_goals first|rfl|(show _=D.sl (Pat.cs _);rw[Pat.cs_cc];all_goals rfl)|(show _=Pat.cs _;rw[Pat.cs_cc];all_goals rfl)));done))
def namL (f:Pat->Int->Nat->Pat×Int×Nat):List Pat->Int->Nat->List Pat×Int×Nat
 | [],m,q=>([],m,q)
 |x::r,m,q=>((f x m q).1::(namL f r (f x m q).2.1 (f x m q).2.2).1,(namL f r (f x m q).2.1 (f x m q).2.2).2)
def namP (b:Str):Nat->Pat->Int->Nat->Pat×Int×Nat
 |0,p,m,q=>(p,m,q)
 |n+1,p,m,q=>
  if 5<m\/p.op=5\/p.op=3 then (p,m,q)
  else if p.op=1/\zap b q 2=0 then (⟨2,0,0,0,m,[]⟩,m+1,q+1)
  else if (namL (namP b n) p.kids m (if p.op=1 then q+1 else q)).2.1<=5 then
   (if zap b (namL (namP b n) p.kids m (if p.op=1 then q+1 else q)).2.2 6=0 then
    (⟨6,0,0,0,(namL (namP b n) p.kids m (if p.op=1 then q+1 else q)).2.1,[⟨p.op,p.ctor,p.n,p.m,p.var,(namL (namP b n) p.kids m (if p.op=1 then q+1 else q)).1⟩]⟩,
     (namL (namP b n) p.kids m (if p.op=1 then q+1 else q)).2.1+1,(namL (namP b n) p.kids m (if p.op=1 then q+1 else q)).2.2+1)
   else (⟨p.op,p.ctor,p.n,p.m,p.var,(namL (namP b n) p.kids m (if p.op=1 then q+1 else q)).1⟩,(namL (namP b n) p.kids m (if p.op=1 then q+1 else q)).2.1,(namL (namP b n) p.kids m (if p.op=1 then q+1 else q)).2.2+1))
  else (⟨p.op,p.ctor,p.n,p.m,p.var,(namL (namP b n) p.kids m (if p.op=1 then q+1 else q)).1⟩,(namL (namP b n) p.kids m (if p.op=1 then q+1 else q)).2.1,(namL (namP b n) p.kids m (if p.op=1 then q+1 else q)).2.2)
section
variable {b:Str}{n:Nat}{p:Pat}{m:Int}{q:Nat}{ks:List Pat}{zm:Int}{zq:Nat}
theorem zwe (h:5<m\/p.op=5\/p.op=3):namP b (n+1) p m q=(p,m,q):=by simp only[namP];rw[if_pos h]
theorem zwf (h:¬(5<m\/p.op=5\/p.op=3)) (h2:p.op=1/\zap b q 2=0):namP b (n+1) p m q=(⟨2,0,0,0,m,[]⟩,m+1,q+1):=by simp only[namP];rw[if_neg h,if_pos h2]
theorem zwg (h:¬(5<m\/p.op=5\/p.op=3)) (h2:¬(p.op=1/\zap b q 2=0)) (hz:(ks,zm,zq)=namL (namP b n) p.kids m (if p.op=1 then q+1 else q)) (h3:zm<=5) (h4:zap b zq 6=0):
  namP b (n+1) p m q=(⟨6,0,0,0,zm,[⟨p.op,p.ctor,p.n,p.m,p.var,ks⟩]⟩,zm+1,zq+1):=by
 simp only[namP];rw[if_neg h,if_neg h2,<-hz];dsimp only;rw[if_pos h3,if_pos h4]
theorem zwh (h:¬(5<m\/p.op=5\/p.op=3)) (h2:¬(p.op=1/\zap b q 2=0)) (hz:(ks,zm,zq)=namL (namP b n) p.kids m (if p.op=1 then q+1 else q)) (h3:zm<=5) (h4:¬zap b zq 6=0):
  namP b (n+1) p m q=(⟨p.op,p.ctor,p.n,p.m,p.var,ks⟩,zm,zq+1):=by
 simp only[namP];rw[if_neg h,if_neg h2,<-hz];dsimp only;rw[if_pos h3,if_neg h4]
theorem zwi (h:¬(5<m\/p.op=5\/p.op=3)) (h2:¬(p.op=1/\zap b q 2=0)) (hz:(ks,zm,zq)=namL (namP b n) p.kids m (if p.op=1 then q+1 else q)) (h3:¬zm<=5):
  namP b (n+1) p m q=(⟨p.op,p.ctor,p.n,p.m,p.var,ks⟩,zm,zq):=by
 simp only[namP];rw[if_neg h,if_neg h2,<-hz];dsimp only;rw[if_neg h3]
end
def NamOk (p:Pat) (m:Int) (q:Nat) (r:Pat×Int×Nat):Prop:=m<=r.2.1/\r.2.1<=6/\r.2.2<=q+2*p.size/\r.1.size<=2*p.size/\(p.ok->r.1.ok)
theorem zsN {f:Pat->Int->Nat->Pat×Int×Nat}:∀(l:List Pat) (m:Int) (q:Nat),(∀x∈l,∀m q,0<=m->m<=6->NamOk x m q (f x m q))->0<=m->m<=6->
  m<=(namL f l m q).2.1/\(namL f l m q).2.1<=6/\(namL f l m q).2.2<=q+2*Pats.size l/\Pats.size (namL f l m q).1<=2*Pats.size l/\(namL f l m q).1.length=l.length/\(Pats.ok l->Pats.ok (namL f l m q).1)
 | [],m,q,_,_,h6=>by simp[namL,Pats.size,h6]
 |x::r,m,q,h,h0,h6=>by
  obtain⟨a1,a2,a3,a4,a5⟩:=h x (by simp) m q h0 h6;obtain⟨b1,b2,b3,b4,b5,b6⟩:=zsN r (f x m q).2.1 (f x m q).2.2 (fun y hy=>h y (by simp[hy])) (by omega) a2;simp only[namL,Pats.size,xab];refine⟨by omega,by omega,by omega,by omega,by omega,fun ho=>?_⟩;exact⟨a5 ho.1,b6 ho.2⟩
theorem zoF {b:Str}:∀(n:Nat) (p:Pat) (m:Int) (q:Nat),0<=m->m<=6->NamOk p m q (namP b n p m q)
 |0,p,m,q,h0,h6=>⟨by simp[namP],by simp[namP,h6],by simp[namP],by simp[namP];omega,fun h=>h⟩
 |n+1,p,m,q,h0,h6=>by
  have hs:=Pat.size_eq p;by_cases h:5<m\/p.op=5\/p.op=3
  ·rw[zwe h];exact⟨Int.le_refl _,h6,by dsimp only;omega,by dsimp only;omega,fun h=>h⟩
  ·by_cases h2:p.op=1/\zap b q 2=0
   ·rw[zwf h h2];refine⟨by dsimp only;omega,by dsimp only;omega,by dsimp only;omega, ?_,fun _=>?_⟩
    ·show(Pat.mk 2 0 0 0 m []).size<=_;rw[Pat.size_eq];simp only[Pat.kids,Pats.size];omega
    ·show(Pat.mk 2 0 0 0 m []).ok;rw[Pat.ok_iff];exact⟨by simp[Pat.kids],trivial⟩
   ·generalize hz:namL (namP b n) p.kids m (if p.op=1 then q+1 else q)=z;obtain⟨ks,zm,zq⟩:=z;have hq:(if p.op=1 then q+1 else q)<=q+1:=by split<;>omega
    obtain⟨b1,b2,b3,b4,b5,b6⟩:=zsN (f:=namP b n) p.kids m (if p.op=1 then q+1 else q) (fun x _ m q h0 h6=>zoF n x m q h0 h6) h0 h6;rw[hz] at b1 b2 b3 b4 b5 b6;dsimp only at b1 b2 b3 b4 b5 b6;have so:(Pat.mk p.op p.ctor p.n p.m p.var ks).size=1+Pats.size ks:=by rw[Pat.size_eq];rfl
    have ko:p.ok->(Pat.mk p.op p.ctor p.n p.m p.var ks).ok:=fun h=>by
     rw[Pat.ok_iff] at h ⊢;exact⟨by show ks.length<=_;rw[b5];exact h.1,b6 h.2⟩
    by_cases h3:zm<=5
    ·by_cases h4:zap b zq 6=0
     ·rw[zwg h h2 hz.symm h3 h4];refine⟨by dsimp only;omega,by dsimp only;omega,by dsimp only;omega, ?_,fun hk=>?_⟩
      ·dsimp only;rw[Pat.size_eq];simp only[Pat.kids,Pats.size];rw[so];omega
      ·dsimp only;rw[Pat.ok_iff];exact⟨by simp[Pat.kids],ko hk,trivial⟩
     ·rw[zwh h h2 hz.symm h3 h4];exact⟨b1,b2,by dsimp only;omega,by dsimp only;rw[so];omega,ko⟩
    ·rw[zwi h h2 hz.symm h3];exact⟨b1,b2,by dsimp only;omega,by dsimp only;rw[so];omega,ko⟩
theorem zmg {f:Pat->Int->Nat->Pat×Int×Nat}{ks:List Pat}{zm:Int}{zq:Nat}{z:List Pat×Int×Nat} (h:(ks++(namL f [] zm zq).1,(namL f [] zm zq).2)=z):(ks,zm,zq)=z:=by
 rw[<-h];simp[namL]
theorem xav {l:List Pat}{y:Pat}:Pats.size (l++[y])=Pats.size l+y.size:=by
 have:=Pats.size_split (pre:=l) (rest:=[]) (y:=y) rfl;simpa [Pats.size] using this
theorem zgl {b:Str} (hb:b.length<=2000):∀(n:Nat){p:Pat}{m:Int}{q:Nat},p.size<=n->p.ok->0<=m->m<=6->q+2*p.size<=1000000->
  FnD Tryz.prog 229 [.ref 900 0,.agg [.d (.i p.op),.d (.i p.ctor),.d (.i p.n),.d (.i p.m),.d (.i p.var),.d (zag p.kids)],.d (.i m)] [(900,some (rdB b q))] (.tup [.agg [.d (.i (namP b n p m q).1.op),.d (.i (namP b n p m q).1.ctor),.d (.i (namP b n p m q).1.n),.d (.i (namP b n p m q).1.m),.d (.i (namP b n p m q).1.var),.d (zag (namP b n p m q).1.kids)],.d (.i (namP b n p m q).2.1)]) [(900,some (rdB b (namP b n p m q).2.2))]
 |0,p,m,q,h,_,_,_,_=>by rw[Pat.size_eq] at h;omega
 |n+1,p,m,q,kn,hok,k0,k6,hq=>by
  have hs:=Pat.size_eq p;have hok':=hok;rw[Pat.ok_iff] at hok';have ih:=fun(x:Pat) (m:Int) (q:Nat) (h0:0<=m) (h6:m<=6)=>zoF (b:=b) n x m q h0 h6;have hysz:∀ {pre rest:List Pat}{y:Pat},pre++y::rest=p.kids->y.size+Pats.size pre+Pats.size rest=Pats.size p.kids:=fun h=>by have:=Pats.size_split h;omega
  have hq1:(if p.op=1 then q+1 else q)<=q+1:=by split<;>omega
  generalize hqq:(if p.op=1 then q+1 else q)=q1 at hq1;have hqa:p.op=1->q1=q+1:=fun h=>by rw[<-hqq,if_pos h]
  have hqb:¬p.op=1->q1=q:=fun h=>by rw[<-hqq,if_neg h]
  refine bd Tryz.f229 82 [] [] fun w0 F0 own kept hk=>?_;refine bx 3004 ?_;refine ab 3006 tz36 ?_;refine ev ?_;refine sq ?_ ?_<;>intro h1 h1p h1s<;>(try simp only[Q,Pat.cs_len] at h1p);refine sqT ?_;refine sqT ?_;refine so ty36 ?_;refine ev ?_;refine rn [(900,some (rdB b (namP b (n+1) p m q).2.2))] (.cons (.cellA ty36 rfl rfl rfl) (.cons (.tmp rfl) .nil)) (.tup (.cons (.agg (.cons (.eqd ?_) (.cons (.eqd ?_) (.cons (.eqd ?_) (.cons (.eqd ?_) (.cons (.eqd ?_) (.cons (.eqd ?_) .nil))))))) (.cons (.eqd ?_) .nil))) ⟨rfl,rfl⟩ (SubO.get ⟨.inr ?_,⟨.inl rfl,trivial⟩⟩) (zay rfl);rotate_left 8;refine sq ?_ ?_<;>intro h3 h3p h3s<;>(try simp only[Q,Pat.cs_len] at h3p);refine sqT ?_;refine so ty36 ?_;refine ev ?_;refine rn [(900,some (rdB b (namP b (n+1) p m q).2.2))] (.cons (.cellA ty36 rfl rfl rfl) (.cons (.tmp rfl) .nil)) (.tup (.cons (.agg (.cons (.eqd ?_) (.cons (.eqd ?_) (.cons (.eqd ?_) (.cons (.eqd ?_) (.cons (.eqd ?_) (.cons (.eqd ?_) .nil))))))) (.cons (.eqd ?_) .nil))) ⟨rfl,rfl⟩ (SubO.get ⟨.inr ?_,⟨.inl rfl,trivial⟩⟩) (zay rfl);rotate_left 8;refine sq ?_ ?_<;>intro h5 h5p h5s<;>(try simp only[Q,Pat.cs_len] at h5p);refine so ty36 ?_;refine ev ?_;refine rn [(900,some (rdB b (namP b (n+1) p m q).2.2))] (.cons (.cellA ty36 rfl rfl rfl) (.cons (.tmp rfl) .nil)) (.tup (.cons (.agg (.cons (.eqd ?_) (.cons (.eqd ?_) (.cons (.eqd ?_) (.cons (.eqd ?_) (.cons (.eqd ?_) (.cons (.eqd ?_) .nil))))))) (.cons (.eqd ?_) .nil))) ⟨rfl,rfl⟩ (SubO.get ⟨.inr ?_,⟨.inl rfl,trivial⟩⟩) (zay rfl);rotate_left 8;refine sq ?_ ?_<;>intro h6 h6p h6s<;>(try simp only[Q,Pat.cs_len] at h6p);refine Walk.call (cr:=[]) zch (zaS (p:=q) (n:=2) hb (by omega) (by omega)) rfl (.some rfl rfl h6) rfl rfl (LeL.refl _) ⟨rfl,trivial⟩ rfl rfl rfl ?_;refine evs [] [(30,true)] ?_ ⟨⟨_,rfl,h6⟩,trivial⟩;refine sq ?_ ?_<;>intro h7 h7p h7s<;>(try simp only[Q,Pat.cs_len] at h7p);refine bu [0,4] [_,_] st36 ?_;refine ev ?_;refine ar ?_;refine so ty36 ?_;refine ev ?_;refine rn [(900,some (rdB b (namP b (n+1) p m q).2.2))] (.cons (.cellA ty36 rfl rfl rfl) (.cons (.tmp rfl) .nil)) (.tup (.cons (.agg (.cons (.eqd ?_) (.cons (.eqd ?_) (.cons (.eqd ?_) (.cons (.eqd ?_) (.cons (.eqd ?_) (.cons (.nild ?_) .nil))))))) (.cons (.eqd ?_) .nil))) ⟨rfl,rfl⟩ (SubO.get ⟨.inr ?_,⟨.inl rfl,trivial⟩⟩) (zay rfl);rotate_left 8;refine ab 3008 tz36 ?_;refine so ty36 ?_;refine tv ?_;refine so ty34 ?_;refine tv ?_;refine xan 3008 5 1 6 rfl rfl rfl rfl ?_;refine xak (ι:=List (Pat)×List (Pat)×(Int)×(Nat)×(List Pat)) hk (fun x=>[(10,.d (.i (x.1.length:Int))),(9,.d (.i x.2.2.1))]) [11,12,42,43,44,45,46,47,48,49,50,51,52,53,54,55,56,57,58,59,60,61,62,63,64,65,66] (fun x=>[(900,some (.box [.d (zcx b),.d (.i (x.2.2.2.1:Int))])),(3008,some (.box [.d (.i p.op),.d (.i p.ctor),.d (.i p.n),.d (.i p.m),.d (.i p.var),.gl 1 (x.2.2.2.2.map Pat.cc)])),(1,some (.tok (x.2.2.2.2.map Pat.cc).length 6))]) (fun x=>x.1++x.2.1=p.kids/\0<=x.2.2.1/\x.2.2.1<=6/\x.2.2.2.1<=q1+2*Pats.size x.1/\x.2.2.2.2.length=x.1.length/\(x.2.2.2.2++(namL (namP b n) x.2.1 x.2.2.1 x.2.2.2.1).1,(namL (namP b n) x.2.1 x.2.2.1 x.2.2.2.1).2)=namL (namP b n) p.kids m q1) (fun x=>x.2.1.length) ([],p.kids,m,q1,[]) ⟨by simp,by simpa using k0,by simpa using k6,by simp[Pats.size],by simp,by simp⟩ ⟨⟨_,rfl,xaq ?_⟩,⟨⟨_,rfl,xaq ?_⟩,trivial⟩⟩ ⟨?_,⟨?_,⟨zab ?_,trivial⟩⟩⟩ (fun x=>rfl) (fun x hg1=>?_);iterate 2 focus ((simp;done))
  iterate 2 focus (first|(simp[getH];done)|(show some (Res.box _)=some (Res.box _);rw[hqa (by omega)];all_goals rfl))
  focus ((simp;done))
  obtain⟨pre,rest,zm,zq,ks⟩:=x;dsimp only at hg1 ⊢;refine evc [] [] ?_;refine sq ?_ ?_<;>intro h8 h8p h8s<;>(try simp only[Q,Pat.cs_len] at h8p);rcases rest with _|⟨y,rest⟩
  ·exfalso;simp_all
  have hni:=ih y zm zq hg1.2.1 hg1.2.2.1;have hn1:=hni.1;have hn2:=hni.2.1;have hn3:=hni.2.2.1;refine xaU sl34 .none rfl rfl rfl rfl (Pat.cs_at' hg1.1) rfl ?_;refine ev ?_;refine wd zqy (zgl hb n (p:=y) (m:=zm) (q:=zq) (by have:=hysz hg1.1;omega) (Pats.ok_mem hok'.2 y (by rw[<-hg1.1];simp)) (by omega) (by omega) (by have:=hysz hg1.1;omega)) rfl rfl ⟨rfl,trivial⟩ ?_;refine ev ?_;refine ab 3011 tz36 ?_;refine so ty36 ?_;refine ev ?_;refine si [0] [_] sl34 tz36 ?_;refine ap sl34 zz36 rfl rfl rfl (by simp) (by have hz:=congrArg List.length hg1.1;simp at hz ⊢;omega) ?_;refine ev ?_;refine so ty34 ?_;refine tv ?_;refine ar ?_;refine xah ((pre++[y],rest,(namP b n y zm zq).2.1,(namP b n y zm zq).2.2,ks++[(namP b n y zm zq).1])) ⟨⟨(by have hz:=hg1.1;rw[<-hz];simp),⟨by dsimp only;omega,by dsimp only;omega,(by rw[xav];dsimp only;omega),(by simp[hg1.2.2.2.2.1]),(by rw[<-hg1.2.2.2.2.2];simp[namL])⟩⟩,(by simp),sx ⟨⟨_,rfl,xaq ?_⟩,⟨⟨_,rfl,xaq ?_⟩,trivial⟩⟩ ⟨?_,⟨?_,⟨zab ?_,trivial⟩⟩⟩⟩;iterate 2 focus ((simp;done))
  iterate 2 focus (first|rfl|(simp[getH];done))
  focus ((simp;done))
  have hrest:rest=[]:=by
   rcases rest with _|⟨a,b⟩
   ·rfl
   ·exfalso;have hz:=congrArg List.length (hg1.1);simp only[xaa,xab,xac] at hz;omega
  subst hrest;refine sq ?_ ?_<;>intro h9 h9p h9s<;>(try simp only[Q,Pat.cs_len] at h9p);refine Walk.call (cr:=[]) zch (zaS (p:=zq) (n:=6) hb (by have e:=hg1.1;rw[List.append_nil] at e;rw[<-e] at hs;omega) (by omega)) rfl (.some rfl rfl h9) rfl rfl (LeL.refl _) ⟨rfl,trivial⟩ rfl rfl rfl ?_;refine evs [] [(69,true)] ?_ ⟨⟨_,rfl,h9⟩,trivial⟩;refine sq ?_ ?_<;>intro h10 h10p h10s<;>(try simp only[Q,Pat.cs_len] at h10p);refine si [0] [_] sl34 tz36 ?_;refine bu [0,4,5] [_,_,_] st36 ?_;refine ev ?_;refine ar ?_;refine so ty36 ?_;refine ev ?_;refine rn [(900,some (rdB b (namP b (n+1) p m q).2.2))] (.cons (.cellA ty36 rfl rfl rfl) (.cons (.tmp rfl) .nil)) (.tup (.cons (.agg (.cons (.eqd ?_) (.cons (.eqd ?_) (.cons (.eqd ?_) (.cons (.eqd ?_) (.cons (.eqd ?_) (.cons (.eqd ?_) .nil))))))) (.cons (.eqd ?_) .nil))) ⟨rfl,rfl⟩ (SubO.get ⟨.inr ?_,⟨.inl rfl,trivial⟩⟩) (zay rfl);rotate_left 8;refine so ty36 ?_;refine ev ?_;refine rn [(900,some (rdB b (namP b (n+1) p m q).2.2))] (.cons (.cellA ty36 rfl rfl rfl) (.cons (.tmp rfl) .nil)) (.tup (.cons (.agg (.cons (.eqd ?_) (.cons (.eqd ?_) (.cons (.eqd ?_) (.cons (.eqd ?_) (.cons (.eqd ?_) (.cons (.gld ?_) .nil))))))) (.cons (.eqd ?_) .nil))) ⟨rfl,rfl⟩ (SubO.get ⟨.inr ?_,⟨.inl rfl,trivial⟩⟩) (zay rfl);rotate_left 8;refine sqF ?_;refine so ty36 ?_;refine ev ?_;refine rn [(900,some (rdB b (namP b (n+1) p m q).2.2))] (.cons (.cellA ty36 rfl rfl rfl) (.cons (.tmp rfl) .nil)) (.tup (.cons (.agg (.cons (.eqd ?_) (.cons (.eqd ?_) (.cons (.eqd ?_) (.cons (.eqd ?_) (.cons (.eqd ?_) (.cons (.gld ?_) .nil))))))) (.cons (.eqd ?_) .nil))) ⟨rfl,rfl⟩ (SubO.get ⟨.inr ?_,⟨.inl rfl,trivial⟩⟩) (zay rfl);rotate_left 8;refine sqF ?_;refine ab 3008 tz36 ?_;refine so ty36 ?_;refine tv ?_;refine so ty34 ?_;refine tv ?_;refine xan 3008 5 1 6 rfl rfl rfl rfl ?_;refine xak (ι:=List (Pat)×List (Pat)×(Int)×(Nat)×(List Pat)) hk (fun x=>[(10,.d (.i (x.1.length:Int))),(9,.d (.i x.2.2.1))]) [11,12,42,43,44,45,46,47,48,49,50,51,52,53,54,55,56,57,58,59,60,61,62,63,64,65,66] (fun x=>[(900,some (.box [.d (zcx b),.d (.i (x.2.2.2.1:Int))])),(3008,some (.box [.d (.i p.op),.d (.i p.ctor),.d (.i p.n),.d (.i p.m),.d (.i p.var),.gl 1 (x.2.2.2.2.map Pat.cc)])),(1,some (.tok (x.2.2.2.2.map Pat.cc).length 6))]) (fun x=>x.1++x.2.1=p.kids/\0<=x.2.2.1/\x.2.2.1<=6/\x.2.2.2.1<=q1+2*Pats.size x.1/\x.2.2.2.2.length=x.1.length/\(x.2.2.2.2++(namL (namP b n) x.2.1 x.2.2.1 x.2.2.2.1).1,(namL (namP b n) x.2.1 x.2.2.1 x.2.2.2.1).2)=namL (namP b n) p.kids m q1) (fun x=>x.2.1.length) ([],p.kids,m,q1,[]) ⟨by simp,by simpa using k0,by simpa using k6,by simp[Pats.size],by simp,by simp⟩ ⟨⟨_,rfl,xaq ?_⟩,⟨⟨_,rfl,xaq ?_⟩,trivial⟩⟩ ⟨?_,⟨?_,⟨zab ?_,trivial⟩⟩⟩ (fun x=>rfl) (fun x hg1=>?_);iterate 2 focus ((simp;done))
  iterate 2 focus (first|(simp[getH];done)|(show some (Res.box _)=some (Res.box _);rw[hqb (by omega)];all_goals rfl))
  focus ((simp;done))
  obtain⟨pre,rest,zm,zq,ks⟩:=x;dsimp only at hg1 ⊢;refine evc [] [] ?_;refine sq ?_ ?_<;>intro h13 h13p h13s<;>(try simp only[Q,Pat.cs_len] at h13p);rcases rest with _|⟨y,rest⟩
  ·exfalso;simp_all
  have hni:=ih y zm zq hg1.2.1 hg1.2.2.1;have hn1:=hni.1;have hn2:=hni.2.1;have hn3:=hni.2.2.1;refine xaU sl34 .none rfl rfl rfl rfl (Pat.cs_at' hg1.1) rfl ?_;refine ev ?_;refine wd zqy (zgl hb n (p:=y) (m:=zm) (q:=zq) (by have:=hysz hg1.1;omega) (Pats.ok_mem hok'.2 y (by rw[<-hg1.1];simp)) (by omega) (by omega) (by have:=hysz hg1.1;omega)) rfl rfl ⟨rfl,trivial⟩ ?_;refine ev ?_;refine ab 3011 tz36 ?_;refine so ty36 ?_;refine ev ?_;refine si [0] [_] sl34 tz36 ?_;refine ap sl34 zz36 rfl rfl rfl (by simp) (by have hz:=congrArg List.length hg1.1;simp at hz ⊢;omega) ?_;refine ev ?_;refine so ty34 ?_;refine tv ?_;refine ar ?_;refine xah ((pre++[y],rest,(namP b n y zm zq).2.1,(namP b n y zm zq).2.2,ks++[(namP b n y zm zq).1])) ⟨⟨(by have hz:=hg1.1;rw[<-hz];simp),⟨by dsimp only;omega,by dsimp only;omega,(by rw[xav];dsimp only;omega),(by simp[hg1.2.2.2.2.1]),(by rw[<-hg1.2.2.2.2.2];simp[namL])⟩⟩,(by simp),sx ⟨⟨_,rfl,xaq ?_⟩,⟨⟨_,rfl,xaq ?_⟩,trivial⟩⟩ ⟨?_,⟨?_,⟨zab ?_,trivial⟩⟩⟩⟩;iterate 2 focus ((simp;done))
  iterate 2 focus (first|rfl|(simp[getH];done))
  focus ((simp;done))
  have hrest:rest=[]:=by
   rcases rest with _|⟨a,b⟩
   ·rfl
   ·exfalso;have hz:=congrArg List.length (hg1.1);simp only[xaa,xab,xac] at hz;omega
  subst hrest;refine sq ?_ ?_<;>intro h14 h14p h14s<;>(try simp only[Q,Pat.cs_len] at h14p);refine Walk.call (cr:=[]) zch (zaS (p:=zq) (n:=6) hb (by have e:=hg1.1;rw[List.append_nil] at e;rw[<-e] at hs;omega) (by omega)) rfl (.some rfl rfl h14) rfl rfl (LeL.refl _) ⟨rfl,trivial⟩ rfl rfl rfl ?_;refine evs [] [(69,true)] ?_ ⟨⟨_,rfl,h14⟩,trivial⟩;refine sq ?_ ?_<;>intro h15 h15p h15s<;>(try simp only[Q,Pat.cs_len] at h15p);refine si [0] [_] sl34 tz36 ?_;refine bu [0,4,5] [_,_,_] st36 ?_;refine ev ?_;refine ar ?_;refine so ty36 ?_;refine ev ?_;refine rn [(900,some (rdB b (namP b (n+1) p m q).2.2))] (.cons (.cellA ty36 rfl rfl rfl) (.cons (.tmp rfl) .nil)) (.tup (.cons (.agg (.cons (.eqd ?_) (.cons (.eqd ?_) (.cons (.eqd ?_) (.cons (.eqd ?_) (.cons (.eqd ?_) (.cons (.eqd ?_) .nil))))))) (.cons (.eqd ?_) .nil))) ⟨rfl,rfl⟩ (SubO.get ⟨.inr ?_,⟨.inl rfl,trivial⟩⟩) (zay rfl);rotate_left 8;refine so ty36 ?_;refine ev ?_;refine rn [(900,some (rdB b (namP b (n+1) p m q).2.2))] (.cons (.cellA ty36 rfl rfl rfl) (.cons (.tmp rfl) .nil)) (.tup (.cons (.agg (.cons (.eqd ?_) (.cons (.eqd ?_) (.cons (.eqd ?_) (.cons (.eqd ?_) (.cons (.eqd ?_) (.cons (.gld ?_) .nil))))))) (.cons (.eqd ?_) .nil))) ⟨rfl,rfl⟩ (SubO.get ⟨.inr ?_,⟨.inl rfl,trivial⟩⟩) (zay rfl);rotate_left 8;refine sqF ?_;refine so ty36 ?_;refine ev ?_;refine rn [(900,some (rdB b (namP b (n+1) p m q).2.2))] (.cons (.cellA ty36 rfl rfl rfl) (.cons (.tmp rfl) .nil)) (.tup (.cons (.agg (.cons (.eqd ?_) (.cons (.eqd ?_) (.cons (.eqd ?_) (.cons (.eqd ?_) (.cons (.eqd ?_) (.cons (.gld ?_) .nil))))))) (.cons (.eqd ?_) .nil))) ⟨rfl,rfl⟩ (SubO.get ⟨.inr ?_,⟨.inl rfl,trivial⟩⟩) (zay rfl);rotate_left 8;all_goals ((first|(rw[zwe (by omega)];all_goals first|rfl|(show _=D.sl (Pat.cs _);rw[Pat.cs_cc];all_goals rfl)|(show _=Pat.cs _;rw[Pat.cs_cc];all_goals rfl)|(show _=D.sl [[D.i _,D.i _,D.i _,D.i _,D.i _,D.sl (Pat.cs _)]];rw[Pat.cs_cc];all_goals rfl))|(rw[zwf (by omega) ⟨by omega,by omega⟩];all_goals first|rfl|(show _=D.sl (Pat.cs _);rw[Pat.cs_cc];all_goals rfl)|(show _=Pat.cs _;rw[Pat.cs_cc];all_goals rfl)|(show _=D.sl [[D.i _,D.i _,D.i _,D.i _,D.i _,D.sl (Pat.cs _)]];rw[Pat.cs_cc];all_goals rfl))|(have hz:(ks,zm,zq)=namL (namP b n) p.kids m (if p.op=1 then q+1 else q):=(by rw[hqq];exact zmg hg1.2.2.2.2.2);rw[zwg (by omega) (fun hh=>by omega) hz (by omega) (by omega)];all_goals first|rfl|(show _=D.sl (Pat.cs _);rw[Pat.cs_cc];all_goals rfl)|(show _=Pat.cs _;rw[Pat.cs_cc];all_goals rfl)|(show _=D.sl [[D.i _,D.i _,D.i _,D.i _,D.i _,D.sl (Pat.cs _)]];rw[Pat.cs_cc];all_goals rfl))|(have hz:(ks,zm,zq)=namL (namP b n) p.kids m (if p.op=1 then q+1 else q):=(by rw[hqq];exact zmg hg1.2.2.2.2.2);rw[zwh (by omega) (fun hh=>by omega) hz (by omega) (by omega)];all_goals first|rfl|(show _=D.sl (Pat.cs _);rw[Pat.cs_cc];all_goals rfl)|(show _=Pat.cs _;rw[Pat.cs_cc];all_goals rfl)|(show _=D.sl [[D.i _,D.i _,D.i _,D.i _,D.i _,D.sl (Pat.cs _)]];rw[Pat.cs_cc];all_goals rfl))|(have hz:(ks,zm,zq)=namL (namP b n) p.kids m (if p.op=1 then q+1 else q):=(by rw[hqq];exact zmg hg1.2.2.2.2.2);rw[zwi (by omega) (fun hh=>by omega) hz (by omega)];all_goals first|rfl|(show _=D.sl (Pat.cs _);rw[Pat.cs_cc];all_goals rfl)|(show _=Pat.cs _;rw[Pat.cs_cc];all_goals rfl)|(show _=D.sl [[D.i _,D.i _,D.i _,D.i _,D.i _,D.sl (Pat.cs _)]];rw[Pat.cs_cc];all_goals rfl))))
def szP:Nat->Nat
 |0=>1
 |d+1=>1+3*szP d
theorem zw4 (d:Nat):1<=szP d:=by cases d<;>simp only[szP]<;>omega
theorem ziL:anyP.size=1/\anyP.ok:=⟨by rw[Pat.size_eq];rfl,by rw[Pat.ok_iff];exact⟨by simp[anyP,Pat.kids],trivial⟩⟩
theorem zv8 {f:Ty->Nat->Pat×Nat}{k:Nat}:∀(l:List Ty) (q:Nat),(∀t∈l,∀q,(f t q).1.size<=k/\(f t q).1.ok)->Pats.size (dA f l q).1<=l.length*k/\Pats.ok (dA f l q).1
 | [],q,_=>by simp[dA,Pats.size,Pats.ok]
 |t::r,q,h=>by
  have h1:=h t (by simp) q;have h2:=zv8 r (f t q).2 (fun x hx=>h x (by simp[hx]));simp only[dA,xab,Nat.add_mul,Pats.size];exact⟨by omega,h1.2,h2.2⟩
theorem zl2 {b:Str}{w:List Data} (hf:Few w):∀(d:Nat) (t:Ty) (p:Nat),TyIn w.length t->(zaI b w d t p).1.size<=szP d/\(zaI b w d t p).1.ok
 |0,t,p,_=>by simp only[zaI,szP];have:=ziL;exact⟨by omega,this.2⟩
 |d+1,⟨a,k⟩,p,ht=>by
  have ih:=fun t p ht=>zl2 (b:=b) hf d t p ht;have ha:=ziL;have hp:=zw4 d;simp only[szP];by_cases c1:d=0
  ·rw[zsv c1];exact⟨by dsimp only;omega,ha.2⟩
  by_cases c2:zap b p 4=0
  ·rw[zsw c1 c2];exact⟨by dsimp only;omega,ha.2⟩
  by_cases c3:zap b (p+1) 6=0
  ·rw[zsx c1 c2 c3];have h1:=ih ⟨a,k⟩ (p+2) ht;have h2:=ih ⟨a,k⟩ (zaI b w d ⟨a,k⟩ (p+2)).2 ht;refine⟨?_, ?_⟩
   ·dsimp only;rw[Pat.size_eq];simp only[Pat.kids,Pats.size];omega
   ·dsimp only;rw[Pat.ok_iff];exact⟨by simp[Pat.kids],h1.2,h2.2,trivial⟩
  by_cases c4:a = -1
  ·rw[zsy c1 c2 c3 c4];refine⟨?_, ?_⟩
   ·dsimp only;rw[Pat.size_eq];simp only[Pat.kids,Pats.size];omega
   ·dsimp only;rw[Pat.ok_iff];exact⟨by simp[Pat.kids],trivial⟩
  by_cases c5:(zal w ⟨a,k⟩).length=0
  ·rw[zsz c1 c2 c3 c4 c5];exact⟨by dsimp only;omega,ha.2⟩
  ·rw[zsA c1 c2 c3 c4 c5 rfl];have hm:=zjJ (b:=b) (p:=p+2) c5;have h3:=hf ⟨a,k⟩ _ hm ht;have h1:=zv8 (f:=zaI b w d) (k:=szP d) _ (p+3) (fun u hu q=>ih u q (h3.2 u hu));have h2:=zum (f:=zaI b w d) (zaa w ⟨a,k⟩ (nth (zal w ⟨a,k⟩) (zap b (p+2) (zal w ⟨a,k⟩).length).toNat)) (p+3);have h4:(zaa w ⟨a,k⟩ (nth (zal w ⟨a,k⟩) (zap b (p+2) (zal w ⟨a,k⟩).length).toNat)).length*szP d<=3*szP d:=Nat.mul_le_mul_right _ h3.1;refine⟨?_, ?_⟩
   ·dsimp only;rw[Pat.size_eq];simp only[Pat.kids];omega
   ·dsimp only;rw[Pat.ok_iff];exact⟨by simp only[Pat.kids];omega,h1.2⟩
theorem zmj {b:Str}{p:Nat}{l:List Int} (h:1<=l.length):numV b p l∈l:=by
 have:=zcR (b:=b) (p:=p) (n:=(l.length:Int)) (by omega);exact zae (by omega)
theorem num4 (b:Str) (p:Nat):1<=numV b p [3,2,4,1]/\numV b p [3,2,4,1]<=4:=by
 have:=zmj (b:=b) (p:=p) (l:=[3,2,4,1]) (by simp);simp only[List.mem_cons,List.not_mem_nil,or_false] at this;omega
theorem zrO {d:Nat} (h:d<=4):szP d<=121/\bdP d<=200:=by
 have:d=0\/d=1\/d=2\/d=3\/d=4:=by omega
 rcases this with rfl|rfl|rfl|rfl|rfl<;>decide
def zcK (b:Str) (w:List Data) (t:Ty) (p:Nat):Pat×Int×Nat:=
 namP b (zaI b w (numV b p [3,2,4,1]).toNat t (p+1)).1.size (zaI b w (numV b p [3,2,4,1]).toNat t (p+1)).1 0 (zaI b w (numV b p [3,2,4,1]).toNat t (p+1)).2
def zbQ (b:Str) (w:List Data) (t:Ty) (p:Nat):Pat:=if isP w t (zcK b w t p).1 then (zcK b w t p).1 else anyP
theorem zik {b:Str}{w:List Data} (hf:Few w){t:Ty} (ht:TyIn w.length t) (p:Nat):(zcK b w t p).2.2<=p+500/\(zcK b w t p).1.size<=242/\(zcK b w t p).1.ok:=by
 have h4:=num4 b p;have hs:=zrO (d:=(numV b p [3,2,4,1]).toNat) (by omega);have h1:=zl2 (b:=b) hf (numV b p [3,2,4,1]).toNat t (p+1) ht;have h2:=zjn (b:=b) hf (numV b p [3,2,4,1]).toNat t (p+1) ht;have h3:=zoF (b:=b) (zaI b w (numV b p [3,2,4,1]).toNat t (p+1)).1.size (zaI b w (numV b p [3,2,4,1]).toNat t (p+1)).1 0 (zaI b w (numV b p [3,2,4,1]).toNat t (p+1)).2 (by omega) (by omega);obtain⟨_,_,n3,n4,n5⟩:=h3;exact⟨by unfold zcK;omega,by unfold zcK;omega,n5 h1.2⟩
theorem znG {b:Str}{w:List Data} (hf:Few w){t:Ty} (ht:TyIn w.length t) (p:Nat):(zbQ b w t p).size<=242/\(zbQ b w t p).ok:=by
 have h:=zik (b:=b) hf ht p;have ha:=ziL;unfold zbQ;split
 ·exact⟨h.2.1,h.2.2⟩
 ·exact⟨by omega,ha.2⟩
theorem zoR {b:Str}{w:List Data} (hb:b.length<=2000) (hw:WT w) (hf:Few w){a k:Int}{p:Nat} (hp:p<=100000) (ht:TyIn w.length ⟨a,k⟩):
  FnD Tryz.prog 134 [.ref 900 0,.d (zah w),.agg [.d (.i a),.d (.i k)]] [(900,some (rdB b p))]
   (.agg [.d (.i (zbQ b w ⟨a,k⟩ p).op),.d (.i (zbQ b w ⟨a,k⟩ p).ctor),.d (.i (zbQ b w ⟨a,k⟩ p).n),.d (.i (zbQ b w ⟨a,k⟩ p).m),.d (.i (zbQ b w ⟨a,k⟩ p).var),.d (zag (zbQ b w ⟨a,k⟩ p).kids)]) [(900,some (rdB b (zcK b w ⟨a,k⟩ p).2.2))]:=by
 have h4:=num4 b p;have hs:=zrO (d:=(numV b p [3,2,4,1]).toNat) (by omega);have h1:=zl2 (b:=b) hf (numV b p [3,2,4,1]).toNat ⟨a,k⟩ (p+1) ht;have h2:=zjn (b:=b) hf (numV b p [3,2,4,1]).toNat ⟨a,k⟩ (p+1) ht;have hr:=zik (b:=b) hf ht p;have hnum:=zbX (b:=b) (p:=p) (l:=[3,2,4,1]) hb (by omega) (by simp) (by simp);have hdr:=zeU hb hw hf (numV b p [3,2,4,1]).toNat (a:=a) (k:=k) (m:=numV b p [3,2,4,1]) (p:=p+1) (by omega) (by omega) (by omega) (by omega) ht;have hnm:=zgl hb (zaI b w (numV b p [3,2,4,1]).toNat ⟨a,k⟩ (p+1)).1.size (m:=0) (q:=(zaI b w (numV b p [3,2,4,1]).toNat ⟨a,k⟩ (p+1)).2) (Nat.le_refl _) h1.2 (by omega) (by omega) (by omega);have hsp:zbQ b w ⟨a,k⟩ p=if isP w ⟨a,k⟩ (zcK b w ⟨a,k⟩ p).1 then (zcK b w ⟨a,k⟩ p).1 else anyP:=rfl
 rw[show namP b (zaI b w (numV b p [3,2,4,1]).toNat ⟨a,k⟩ (p+1)).1.size (zaI b w (numV b p [3,2,4,1]).toNat ⟨a,k⟩ (p+1)).1 0 (zaI b w (numV b p [3,2,4,1]).toNat ⟨a,k⟩ (p+1)).2=zcK b w ⟨a,k⟩ p from rfl] at hnm;generalize numV b p [3,2,4,1]=m at *;refine bd Tryz.f134 28 [] [] fun w0 F0 own kept hk=>?_;refine bx 3005 ?_;refine ab 3006 tz36 ?_;refine tv ?_;refine si [0,1,2,3] [_,_,_,_] sl29 tz3 ?_;refine wd zd4 (hnum) rfl rfl ⟨rfl,trivial⟩ ?_;refine wd zmL (hdr) rfl rfl ⟨rfl,trivial⟩ ?_;refine wd zqy (hnm) rfl rfl ⟨rfl,trivial⟩ ?_;refine evd [] [] ?_;refine ab 3007 tz36 ?_;refine so ty36 ?_;refine evd [] [] ?_;refine dr ?_;refine wc zki (zeD hw ht hr.2.2 (by omega)) rfl rfl ?_;refine ev ?_;refine sq ?_ ?_<;>intro h1 h1p h1s<;>(try simp only[Q] at h1p);refine bu [0] [_] st36 ?_;refine so ty36 ?_;refine tv ?_;refine rn [(900,some (rdB b (zcK b w ⟨a,k⟩ p).2.2))] (.cons (.cellA ty36 rfl rfl rfl) .nil) (.agg (.cons (.eqd ?_) (.cons (.eqd ?_) (.cons (.eqd ?_) (.cons (.eqd ?_) (.cons (.eqd ?_) (.cons (.nild ?_) .nil))))))) ⟨rfl,rfl⟩ (SubO.get ⟨.inr ?_,⟨.inl rfl,trivial⟩⟩) (zay rfl);rotate_left 7;refine so ty36 ?_;refine tv ?_;refine rn [(900,some (rdB b (zcK b w ⟨a,k⟩ p).2.2))] (.cons (.cellA ty36 rfl rfl rfl) .nil) (.agg (.cons (.eqd ?_) (.cons (.eqd ?_) (.cons (.eqd ?_) (.cons (.eqd ?_) (.cons (.eqd ?_) (.cons (.eqd ?_) .nil))))))) ⟨rfl,rfl⟩ (SubO.get ⟨.inr ?_,⟨.inl rfl,trivial⟩⟩) (zay rfl);rotate_left 7;all_goals (first|((first|(rw[hsp,if_neg (by rw[h1s];simp)];all_goals rfl)|(rw[hsp,if_pos h1s];all_goals rfl));done)|(rfl))
theorem zgX:FnD Tryz.prog 118 [] [] (.agg [.d (.i 1),.d (.i 0),.d (.i 0),.d (.i 0),.d (.i 0),.d (.sl [])]) []:=by
 refine bd Tryz.f118 2 [] [] fun w0 F0 own kept hk=>?_;refine ab 3000 tz36 ?_;refine tv ?_;refine bu [0] [_] st36 ?_;refine so ty36 ?_;refine tv ?_;focus (refine rn0 (.cons (.cellA ty36 rfl rfl rfl) .nil) (.agg (.cons (.eqd ?_) (.cons (.eqd ?_) (.cons (.eqd ?_) (.cons (.eqd ?_) (.cons (.eqd ?_) (.cons (.nild ?_) .nil)))))));all_goals (rfl))
section
variable {c:Ctx}{all:Array Oper}{chk:List Rec->Prop}{os:List Oper}{recs:List Rec}{env:Env}{hp:Hp}{Q:St->Prop}
variable {d ty:Nat}{pos:String}{af:Array Edge}{g:Option (Nat×Bool)}{pg:List (Nat×AV)}{t yt:TypeId}{x y:Operand}
theorem xaC {id k e yb:Nat}{xs ys:List (List D)}{vy:AV}{ids:List Nat} (hkp:KeptIn c.kept ids) (hid:za8 id ids=false) (hne:xs++ys≠[]) (ht:SlT c.P t e k yb) (hz:ZeroT c.P e k) (hg:GH all env g pg) (hd:Nat.blt d c.n=true)
  (hx:opd env x=some (.gv id xs)) (hy:opd env y=some vy) (hyd:vy.toD=some (.sl ys)) (htok:getH hp id=some (.tok xs.length k)) (hky:∀y,y∈ys->y.length=k)
  (hb:(xs.length+ys.length)*yb<=140737488355328) (hm:xs.length+ys.length<=9223372036854775807)
  (hn:Walk c all chk os (zao (pg++(opF x (.gv id xs)++opF y vy)) [(id,.tok xs.length k)] [] ⟨some (d,.ms id (xs++ys).length),[(id,some (.box ((xs++ys).flatten.map .d)))]⟩::recs)
   ⟨(d,.ms id (xs++ys).length)::env,(id,some (.box ((xs++ys).flatten.map .d)))::hp⟩ Q):
  Walk c all chk (⟨some d,.call ⟨.builtin .append,#[x,y],#[t,t]⟩,ty,pos,af,g⟩::os) recs ⟨env,hp⟩ Q:=by
 refine⟨pg++(opF x (.gv id xs)++opF y vy),[(id,.tok xs.length k)],[],_, ?_,zaA hg.facts (zaA (za9 hx) (za9 hy)),hh1 htok,by simp,hn⟩;intro s a w hrel hp' hh _ K Q' hK;obtain⟨G,hr⟩:=hrel;have e1:=hr.opd (zba hx (fun p hm=>hp' p (by simp[hm])));have e2:=hr.opd (zba hy (fun p hm=>hp' p (by simp[hm])));obtain⟨i,z,z1,z2,z3⟩:=hz.out;obtain⟨v',w',G',hrun,hR,hA⟩:=zkf hr ht ⟨i,z1,z2,z3⟩ (hh1' hh) e1 (e2.toD hyd) hky hb hm ty;unfold wpO;rw[if_pos (hg.gf.wanted hr (fun p hm=>hp' p (by simp[hm])))];unfold Oper.wp;have:(execOp a.eval ⟨some d,.call ⟨.builtin .append,#[x,y],#[t,t]⟩,ty,pos,af,g⟩).run c.P w = .ok (.value v') w':=by
  simp only[execOp,resolve,invoke,builtin,Sem.run_bind,Sem.run_pure,Result.andThen_ok,List.map_toArray,xae,List.map_nil,hrun]
 rw[this,Oper.upon_value];have hV:Rel c ⟨(d,.gv id (xs++ys))::s.env,(id,some (.tok (xs.length+ys.length) k))::s.hp⟩ (a.put (some d) v') w':=⟨G',hR.put hA hd⟩;rcases Rel.fixV hkp d id k (xs:=xs++ys) (by simp[getE]) (by rw[zam,if_pos rfl,xaa]) hid hV with ⟨h,_⟩|⟨_,h⟩
 ·exact absurd h hne
 ·refine hK _ _ (h.congr (fun j=>?_) (fun j=>?_))
  ·show getE ((d,_)::s.env) j=getE ((d,_)::(d,_)::s.env) j
   simp only[getE];cases Nat.beq d j<;>rfl
  ·show getH ((id,_)::s.hp) j=getH ((id,_)::(id,_)::s.hp) j
   rw[zam,zam,zam];by_cases hj:j=id
   ·rw[if_pos hj,if_pos hj]
   ·rw[if_neg hj,if_neg hj,if_neg hj]
end
def zck:Pat:=⟨2,0,0,0,0,[]⟩
def mutP (b:Str) (p:Pat) (q:Nat):Pat×Nat:=
 if zap b q 30=0 then (⟨numV b (q+1) [0,7,1,2,5],p.ctor,p.n,p.m,p.var,p.kids⟩,q+2)
 else if zap b q 30=1 then (⟨p.op,p.ctor,p.n,p.m,numV b (q+1) [6,-1,1],p.kids⟩,q+2)
 else if zap b q 30=2 then (⟨p.op,numV b (q+1) [9,-1,1],p.n,p.m,p.var,p.kids⟩,q+2)
 else if zap b q 30=3 then (⟨p.op,p.ctor,p.n,p.m,p.var,p.kids++[zck]⟩,q+1)
 else if zap b q 30=4 then (⟨p.op,p.ctor,p.n,p.m,p.var,p.kids.set 0 zck⟩,q+1)
 else if zap b q 30=5 then (⟨p.op,p.ctor,numV b (q+1) [10,-1,5],p.m,p.var,p.kids⟩,q+2)
 else (⟨p.op,p.ctor,p.n,p.m,p.var,p.kids⟩,q+1)
theorem put0 {l:List (List D)}{x:List D}{r:List (List D)}{v:List AV} (h:l=x::r) (hx:x.length=v.length):putC (l.flatten.map .d) 0 v=some (v++r.flatten.map .d):=by
 subst h;rw[List.flatten_cons,xaf];have key:∀(a b:List AV),a.length=b.length->∀(c:List AV),putC (a++c) 0 b=some (b++c):=by
  intro a;induction a with
  |nil=>intro b h c;cases b with
   |nil=>cases c<;>rfl
   |cons=>simp at h
  |cons y a ih=>intro b h c;cases b with
   |nil=>simp at h
   |cons z b=>
    have:=ih b (by simpa using h) c;simp only[xag,putC,this]
 exact key _ _ (by simpa using hx) _
theorem zqL {k:Nat}{v:List AV}{vd:List D}{r:List (List D)} (hv:toDL v=some vd) (hk:v.length=k) (hr:∀x∈r,x.length=k):zbS (r.length+1) k (v++r.flatten.map .d)=some (vd::r):=by
 have h1:cutC (v++r.flatten.map .d) 0 k=some v:=zo5 hk;have h2:(v++r.flatten.map AV.d).drop k=r.flatten.map .d:=by rw[<-hk];simp
 have h3:=zd9 (f:=fun x:List D=>x) (k:=k) (l:=r) hr;have h4:(r.flatMap fun x=>x.map AV.d)=r.flatten.map .d:=by rw[List.map_flatten];rfl
 rw[h4,List.map_id'] at h3;simp only[zbS,h1,hv,h2,h3]
theorem Pat.cs_app (a b:List Pat):Pat.cs (a++b)=Pat.cs a++Pat.cs b:=by
 rw[Pat.cs_cc,Pat.cs_cc,Pat.cs_cc,xaf]
theorem znT {b:Str} (hb:b.length<=2000){p:Pat}{q:Nat} (hq:q<=1000000) (hok:p.ok) (hc4:¬(zap b q 30=4/\p.kids≠[])):
  FnD Tryz.prog 133 [.ref 900 0,.agg [.d (.i p.op),.d (.i p.ctor),.d (.i p.n),.d (.i p.m),.d (.i p.var),.d (zag p.kids)]] [(900,some (rdB b q))]
   (.agg [.d (.i (mutP b p q).1.op),.d (.i (mutP b p q).1.ctor),.d (.i (mutP b p q).1.n),.d (.i (mutP b p q).1.m),.d (.i (mutP b p q).1.var),.d (zag (mutP b p q).1.kids)]) [(900,some (rdB b (mutP b p q).2))]:=by
 rw[Pat.ok_iff] at hok;have hkl:=Pat.cs_len p.kids;refine bd Tryz.f133 57 [] [] fun w0 F0 own kept hk=>?_;refine bx 3003 ?_;refine ab 3004 tz36 ?_;refine tv ?_;refine ab 3005 tz36 ?_;refine so ty36 ?_;refine tv ?_;refine xbh 1 sl34 .none rfl rfl ?_;refine ev ?_;refine ap sl34 zz36 rfl rfl rfl (by(intro x hx;exact Pat.cs_rows x hx)) (by simp[Pat.cs_len];omega) ?_;refine ev ?_;refine so ty34 ?_;refine tv ?_;refine wd zch (zaS (p:=q) (n:=30) hb (by omega) (by omega)) rfl rfl ⟨rfl,trivial⟩ ?_;refine tv ?_;refine sq ?_ ?_<;>intro h1 h1p h1s<;>(try simp only[Q,Pat.cs_len] at h1p);refine si [0,1,2,3,4] [_,_,_,_,_] sl29 tz3 ?_;refine wd zd4 (zbX (p:=q+1) (l:=[0,7,1,2,5]) hb (by omega) (by simp) (by simp)) rfl rfl ⟨rfl,trivial⟩ ?_;refine ev ?_;refine so ty3 ?_;refine tv ?_;refine so ty36 ?_;refine tv ?_;refine rn [(900,some (rdB b (mutP b p q).2))] (.cons (.cellA ty36 rfl rfl rfl) .nil) (.agg (.cons (.eqd ?_) (.cons (.eqd ?_) (.cons (.eqd ?_) (.cons (.eqd ?_) (.cons (.eqd ?_) (.cons (.gld ?_) .nil))))))) ⟨rfl,rfl⟩ (SubO.get ⟨.inr ?_,⟨.inl rfl,trivial⟩⟩) (zay rfl);rotate_left 7;refine sq ?_ ?_<;>intro h2 h2p h2s<;>(try simp only[Q,Pat.cs_len] at h2p);refine si [0,1,2] [_,_,_] sl29 tz3 ?_;refine wd zd4 (zbX (p:=q+1) (l:=[6,-1,1]) hb (by omega) (by simp) (by simp)) rfl rfl ⟨rfl,trivial⟩ ?_;refine ev ?_;refine so ty3 ?_;refine tv ?_;refine so ty36 ?_;refine tv ?_;refine rn [(900,some (rdB b (mutP b p q).2))] (.cons (.cellA ty36 rfl rfl rfl) .nil) (.agg (.cons (.eqd ?_) (.cons (.eqd ?_) (.cons (.eqd ?_) (.cons (.eqd ?_) (.cons (.eqd ?_) (.cons (.gld ?_) .nil))))))) ⟨rfl,rfl⟩ (SubO.get ⟨.inr ?_,⟨.inl rfl,trivial⟩⟩) (zay rfl);rotate_left 7;refine sq ?_ ?_<;>intro h3 h3p h3s<;>(try simp only[Q,Pat.cs_len] at h3p);refine si [0,1,2] [_,_,_] sl29 tz3 ?_;refine wd zd4 (zbX (p:=q+1) (l:=[9,-1,1]) hb (by omega) (by simp) (by simp)) rfl rfl ⟨rfl,trivial⟩ ?_;refine ev ?_;refine so ty3 ?_;refine tv ?_;refine so ty36 ?_;refine tv ?_;refine rn [(900,some (rdB b (mutP b p q).2))] (.cons (.cellA ty36 rfl rfl rfl) .nil) (.agg (.cons (.eqd ?_) (.cons (.eqd ?_) (.cons (.eqd ?_) (.cons (.eqd ?_) (.cons (.eqd ?_) (.cons (.gld ?_) .nil))))))) ⟨rfl,rfl⟩ (SubO.get ⟨.inr ?_,⟨.inl rfl,trivial⟩⟩) (zay rfl);rotate_left 7;refine sq ?_ ?_<;>intro h4 h4p h4s<;>(try simp only[Q,Pat.cs_len] at h4p);refine bu [0] [_] st36 ?_;refine si [0] [_] sl34 tz36 ?_;refine ap sl34 zz36 rfl rfl rfl (by(intro x hx;simp only[List.mem_singleton] at hx;subst hx;rfl)) (by simp[Pat.cs_len];omega) ?_;refine ev ?_;refine so ty34 ?_;refine tv ?_;refine so ty36 ?_;refine tv ?_;refine rn [(900,some (rdB b (mutP b p q).2))] (.cons (.cellA ty36 rfl rfl rfl) .nil) (.agg (.cons (.eqd ?_) (.cons (.eqd ?_) (.cons (.eqd ?_) (.cons (.eqd ?_) (.cons (.eqd ?_) (.cons (.gld ?_) .nil))))))) ⟨rfl,rfl⟩ (SubO.get ⟨.inr ?_,⟨.inl rfl,trivial⟩⟩) (zay rfl);rotate_left 7;refine sq ?_ ?_<;>intro h5 h5p h5s<;>(try simp only[Q,Pat.cs_len] at h5p);refine sq ?_ ?_<;>intro h6 h6p h6s<;>(try simp only[Q,Pat.cs_len] at h6p);exfalso;apply hc4;refine⟨by omega,fun hh=>?_⟩;rw[hh] at h6p;exact absurd h6p (by decide);refine so ty36 ?_;refine tv ?_;refine rn [(900,some (rdB b (mutP b p q).2))] (.cons (.cellA ty36 rfl rfl rfl) .nil) (.agg (.cons (.eqd ?_) (.cons (.eqd ?_) (.cons (.eqd ?_) (.cons (.eqd ?_) (.cons (.eqd ?_) (.cons (.gld ?_) .nil))))))) ⟨rfl,rfl⟩ (SubO.get ⟨.inr ?_,⟨.inl rfl,trivial⟩⟩) (zay rfl);rotate_left 7;refine sq ?_ ?_<;>intro h7 h7p h7s<;>(try simp only[Q,Pat.cs_len] at h7p);refine si [0,1,2] [_,_,_] sl29 tz3 ?_;refine wd zd4 (zbX (p:=q+1) (l:=[10,-1,5]) hb (by omega) (by simp) (by simp)) rfl rfl ⟨rfl,trivial⟩ ?_;refine ev ?_;refine so ty3 ?_;refine tv ?_;refine so ty36 ?_;refine tv ?_;refine rn [(900,some (rdB b (mutP b p q).2))] (.cons (.cellA ty36 rfl rfl rfl) .nil) (.agg (.cons (.eqd ?_) (.cons (.eqd ?_) (.cons (.eqd ?_) (.cons (.eqd ?_) (.cons (.eqd ?_) (.cons (.gld ?_) .nil))))))) ⟨rfl,rfl⟩ (SubO.get ⟨.inr ?_,⟨.inl rfl,trivial⟩⟩) (zay rfl);rotate_left 7;refine so ty36 ?_;refine tv ?_;refine rn [(900,some (rdB b (mutP b p q).2))] (.cons (.cellA ty36 rfl rfl rfl) .nil) (.agg (.cons (.eqd ?_) (.cons (.eqd ?_) (.cons (.eqd ?_) (.cons (.eqd ?_) (.cons (.eqd ?_) (.cons (.gld ?_) .nil))))))) ⟨rfl,rfl⟩ (SubO.get ⟨.inr ?_,⟨.inl rfl,trivial⟩⟩) (zay rfl);rotate_left 7;all_goals (((unfold mutP;first|(rw[if_pos (by omega)];all_goals first|rfl|(show _=Pat.cs (p.kids++[zck]);rw[Pat.cs_app];all_goals rfl))|(rw[if_neg (by omega),if_pos (by omega)];all_goals first|rfl|(show _=Pat.cs (p.kids++[zck]);rw[Pat.cs_app];all_goals rfl))|(rw[if_neg (by omega),if_neg (by omega),if_pos (by omega)];all_goals first|rfl|(show _=Pat.cs (p.kids++[zck]);rw[Pat.cs_app];all_goals rfl))|(rw[if_neg (by omega),if_neg (by omega),if_neg (by omega),if_pos (by omega)];all_goals first|rfl|(show _=Pat.cs (p.kids++[zck]);rw[Pat.cs_app];all_goals rfl))|(have hnk:p.kids=[]:=(by rcases hke:p.kids with _|⟨y,r⟩;rfl;exact absurd ⟨by omega,by rw[hke];simp⟩ hc4);rw[if_neg (by omega),if_neg (by omega),if_neg (by omega),if_neg (by omega),if_pos (by omega),hnk];all_goals rfl)|(rw[if_neg (by omega),if_neg (by omega),if_neg (by omega),if_neg (by omega),if_pos (by omega)];all_goals first|rfl|(show _=Pat.cs (p.kids++[zck]);rw[Pat.cs_app];all_goals rfl))|(rw[if_neg (by omega),if_neg (by omega),if_neg (by omega),if_neg (by omega),if_neg (by omega),if_pos (by omega)];all_goals first|rfl|(show _=Pat.cs (p.kids++[zck]);rw[Pat.cs_app];all_goals rfl))|(rw[if_neg (by omega),if_neg (by omega),if_neg (by omega),if_neg (by omega),if_neg (by omega),if_neg (by omega)];all_goals first|rfl|(show _=Pat.cs (p.kids++[zck]);rw[Pat.cs_app];all_goals rfl)));done))
theorem znU {b:Str} (hb:b.length<=2000){p:Pat}{q:Nat} (hq:q<=1000000) (hok:p.ok) (hc4:zap b q 30=4){y:Pat}{r:List Pat} (hk4:p.kids=y::r):
  FnD Tryz.prog 133 [.ref 900 0,.agg [.d (.i p.op),.d (.i p.ctor),.d (.i p.n),.d (.i p.m),.d (.i p.var),.d (zag p.kids)]] [(900,some (rdB b q))]
   (.agg [.d (.i (mutP b p q).1.op),.d (.i (mutP b p q).1.ctor),.d (.i (mutP b p q).1.n),.d (.i (mutP b p q).1.m),.d (.i (mutP b p q).1.var),.d (zag (mutP b p q).1.kids)]) [(900,some (rdB b (mutP b p q).2))]:=by
 rw[Pat.ok_iff] at hok;have hkl:=Pat.cs_len p.kids;have hcs:Pat.cs p.kids=y.cc::Pat.cs r:=by rw[Pat.cs_cc,hk4,xae,<-Pat.cs_cc]
 have hrl:(Pat.cs p.kids).length=(Pat.cs r).length+1:=by rw[hcs];rfl
 have hmu:mutP b p q=(⟨p.op,p.ctor,p.n,p.m,p.var,zck::r⟩,q+1):=by
  unfold mutP;rw[if_neg (by omega),if_neg (by omega),if_neg (by omega),if_neg (by omega),if_pos hc4,hk4];rfl
 refine bd Tryz.f133 57 [] [17] fun w0 F0 own kept hk=>?_;refine bx 3003 ?_;refine ab 3004 tz36 ?_;refine tv ?_;refine ab 3005 tz36 ?_;refine so ty36 ?_;refine tv ?_;refine xbi 1 sl34 .none rfl rfl ?_;refine ev ?_;refine xaC hk rfl (by rw[hcs];simp) sl34 zz36 .none rfl rfl rfl rfl (zdq rfl (by rfl)) (by intro x hx;exact Pat.cs_rows x hx) (by simp[Pat.cs_len];omega) (by simp[Pat.cs_len];omega) ?_;refine ev ?_;refine so ty34 ?_;refine tv ?_;refine wd zch (zaS (p:=q) (n:=30) hb (by omega) (by omega)) rfl rfl ⟨rfl,trivial⟩ ?_;refine tv ?_;refine sq ?_ ?_<;>intro h1 h1p h1s<;>(try simp only[Q,Pat.cs_len] at h1p);exfalso;omega;refine sq ?_ ?_<;>intro h2 h2p h2s<;>(try simp only[Q,Pat.cs_len] at h2p);exfalso;omega;refine sq ?_ ?_<;>intro h3 h3p h3s<;>(try simp only[Q,Pat.cs_len] at h3p);exfalso;omega;refine sq ?_ ?_<;>intro h4 h4p h4s<;>(try simp only[Q,Pat.cs_len] at h4p);exfalso;omega;refine sq ?_ ?_<;>intro h5 h5p h5s<;>(try simp only[Q,Pat.cs_len] at h5p);refine sq ?_ ?_<;>intro h6 h6p h6s<;>(try simp only[Q,Pat.cs_len] at h6p);refine bu [0] [_] st36 ?_;refine xaY (i:=0) sl34 .none rfl rfl rfl rfl (by simp;omega) ?_;refine Walk.store ty36 .none rfl rfl rfl rfl rfl rfl (by simp) ((put0 hcs rfl)) ?_;refine tv ?_;refine CWp.frzC hk 3005 5 1 _ 6 rfl rfl rfl rfl rfl (by rw[List.nil_append,hrl];exact zqL rfl rfl (fun x hx=>Pat.cs_rows x hx)) rfl ?_;refine evc [] [] ?_;refine so ty36 ?_;refine tv ?_;refine rn [(900,some (rdB b (mutP b p q).2))] (.cons (.cellA ty36 rfl rfl rfl) .nil) (.agg (.cons (.eqd ?_) (.cons (.eqd ?_) (.cons (.eqd ?_) (.cons (.eqd ?_) (.cons (.eqd ?_) (.cons (.eqd ?_) .nil))))))) ⟨rfl,rfl⟩ (SubO.get ⟨.inr ?_,⟨.inl rfl,trivial⟩⟩) (zay rfl);rotate_left 7;exfalso;rw[List.nil_append,hrl] at h6p;omega;exfalso;omega;all_goals (((rw[hmu];all_goals rfl);done))
theorem zhY {b:Str} (hb:b.length<=2000){p:Pat}{q:Nat} (hq:q<=1000000) (hok:p.ok):
  FnD Tryz.prog 133 [.ref 900 0,.agg [.d (.i p.op),.d (.i p.ctor),.d (.i p.n),.d (.i p.m),.d (.i p.var),.d (zag p.kids)]] [(900,some (rdB b q))]
   (.agg [.d (.i (mutP b p q).1.op),.d (.i (mutP b p q).1.ctor),.d (.i (mutP b p q).1.n),.d (.i (mutP b p q).1.m),.d (.i (mutP b p q).1.var),.d (zag (mutP b p q).1.kids)]) [(900,some (rdB b (mutP b p q).2))]:=by
 by_cases h:zap b q 30=4/\p.kids≠[]
 ·cases hk:p.kids with
  |nil=>exact absurd hk h.2
  |cons y r=>rw[<-hk];exact znU hb hq hok h.1 hk
 ·exact znT hb hq hok h
structure CaseW (w:List Data):Prop where
 small:WSmall w
 valid:za2 w=true
 one:1<=w.length
 ct:∀k:Int,k=0\/k=1\/k=2->1<=(zal w ⟨0,k⟩).length
theorem xau:∀l:List Pat,l.length<=Pats.size l
 | []=>Nat.zero_le _
 |v::r=>by
  have:=xau r;have h:=Pat.size_eq v;simp only[xab,Pats.size];omega
theorem zsU {x:Pat} (hx:x.ok):∀ {l:List Pat}{i:Nat},Pats.ok l->Pats.ok (l.set i x)
 | [],_,_=>by simp[Pats.ok]
 |y::r,0,h=>⟨hx,h.2⟩
 |y::r,i+1,h=>⟨h.1,zsU hx h.2⟩
theorem zsl {x:Pat} (hx:x.ok):∀ {l:List Pat},Pats.ok l->Pats.ok (l++[x])
 | [],_=>⟨hx,trivial⟩
 |y::r,h=>⟨h.1,zsl hx h.2⟩
theorem zoH {x:Pat}:∀ {l:List Pat}{i:Nat},Pats.size (l.set i x)<=Pats.size l+x.size
 | [],_=>by simp[Pats.size]
 |y::r,0=>by simp only[List.set_cons_zero,Pats.size];omega
 |y::r,i+1=>by have:=zoH (x:=x) (l:=r) (i:=i);simp only[List.set_cons_succ,Pats.size];omega
theorem zwS {b:Str}{p:Pat}{q:Nat} (hs:p.size<=1000) (hok:p.ok):(mutP b p q).1.size<=2000/\(mutP b p q).1.ok:=by
 have hv:zck.size=1/\zck.ok:=⟨by rw[Pat.size_eq];rfl,by rw[Pat.ok_iff];exact⟨by simp[zck,Pat.kids],trivial⟩⟩;have h0:=Pat.size_eq p;rw[Pat.ok_iff] at hok;have same:∀a c n m v:Int,(Pat.mk a c n m v p.kids).size<=2000/\(Pat.mk a c n m v p.kids).ok:=fun a c n m v=>by
  refine⟨by rw[Pat.size_eq];show 1+Pats.size p.kids<=_;omega,by rw[Pat.ok_iff];exact hok⟩
 unfold mutP;split;exact same _ _ _ _ _
 split;exact same _ _ _ _ _
 split;exact same _ _ _ _ _
 split
 ·refine⟨?_, ?_⟩
  ·dsimp only;rw[Pat.size_eq];show 1+Pats.size (p.kids++[zck])<=_;rw[xav];omega
  ·dsimp only;rw[Pat.ok_iff];refine⟨?_,zsl hv.2 hok.2⟩;show(p.kids++[zck]).length<=_
   have:=xau p.kids;simp only[xaa,List.length_singleton];omega
 split
 ·refine⟨?_, ?_⟩
  ·dsimp only;rw[Pat.size_eq];show 1+Pats.size (p.kids.set 0 zck)<=_;have:=zoH (x:=zck) (l:=p.kids) (i:=0);omega
  ·dsimp only;rw[Pat.ok_iff];exact⟨by show(p.kids.set 0 zck).length<=_;rw[List.length_set];exact hok.1,zsU hv.2 hok.2⟩
 split;exact same _ _ _ _ _
 exact same _ _ _ _ _
end Go.Proofs.YtlfipehhbdjnjaaGreat
namespace Go.Proofs.YtlfipehhbdjnjaaGreat
open Go
set_option linter.unusedSimpArgs false
set_option linter.unusedVariables false
theorem zuy (L:List Nat) (hp:Hp) (i:Nat):getH (L.map (fun j=>(j,(none:Option Res)))++hp) i=if i∈L then none else getH hp i:=by
 induction L with
 |nil=>simp
 |cons x r ih=>
  simp only[xae,xag,zam,List.mem_cons];by_cases h:i=x
  ·subst h;simp
  ·simp[h,ih]
section
variable {c:Ctx}
theorem R.drop {G:Gh}{s:St}{a:Act}{w:World} (hr:R c G s a w) (L:List Nat) (hk:∀i l,c.kept i=some l->i∉L):R c G ⟨s.env,L.map (fun j=>(j,none))++s.hp⟩ a w:=by
 have hg:=zuy L s.hp;have hT:∀i p,tokf (L.map (fun j=>(j,(none:Option Res)))++s.hp) i=some p->tokf s.hp i=some p:=fun i p h=>by
  obtain⟨n,k⟩:=p;have:=zax.1 h;rw[hg] at this;split at this
  ·cases this
  ·exact zax.2 this
 have hm:∀ {x:AV}{v:Value},RelA G (tokf s.hp) w x v->RelA G (tokf (L.map (fun j=>(j,(none:Option Res)))++s.hp)) w x v:=fun hx=>
  hx.mono (fun _ _ ho=>⟨ho,rfl⟩) (fun _ _=> .inl rfl) (fun i _ p hp=>⟨hT i p hp,fun _ _=>⟨rfl,rfl⟩⟩)
 have hs:∀i r,getH (L.map (fun j=>(j,(none:Option Res)))++s.hp) i=some r->getH s.hp i=some r:=fun i r h=>by
  rw[hg] at h;split at h
  ·cases h
  ·exact h
 have hss:∀i,(getH (L.map (fun j=>(j,(none:Option Res)))++s.hp) i).isSome->(getH s.hp i).isSome:=fun i h=>by
  obtain⟨r,hr⟩:=Option.isSome_iff_exists.1 h;rw[hs i r hr];rfl
 refine⟨hr.size,hr.defers,fun i v h=>hm (hr.slots i v h),fun i r h=>?_,fun i j h1 h2=>hr.disj i j (hss i h1) (hss j h2),fun i h=>hr.new i (hss i h),hr.frm,hr.top,fun i l hl=>?_⟩
 ·have hh:=hr.heap i r (hs i r h);cases r with
  |box cs=>
   obtain⟨b,vs,e,h1,h2,h3,h4,h5⟩:=hh;exact⟨b,vs,e,h1,h2,h3,h4,fun j hj hv=>hm (h5 j hj hv)⟩
  |tok m k=>exact hh
  |map ks=>exact hh
  |tree cs=>exact zbv hh rfl (fun _ _=>⟨rfl,rfl⟩) (Nat.le_refl _) (fun _ _ _=>hm)
 ·obtain⟨k1,k2,k3⟩:=hr.kept i l hl;refine⟨k1, ?_, ?_⟩
  ·show(getH (L.map (fun j=>(j,(none:Option Res)))++s.hp) i).isSome
   rw[hg,if_neg (hk i l hl)];exact k2
  ·show tokf (L.map (fun j=>(j,(none:Option Res)))++s.hp) i=none
   cases h:tokf (L.map (fun j=>(j,(none:Option Res)))++s.hp) i with
   |none=>rfl
   |some p=>rw[hT i p h] at k3;cases k3
inductive RowT (hp:Hp):List AV->List D->List (Nat×Nat×Nat)->Prop
 |nil:RowT hp [] [] []
 |sc {x cs ds js} (hs:zlu x=true) (h:RowT hp cs ds js):RowT hp (.d x::cs) (x::ds) js
 |ni {cs ds js} (h:RowT hp cs ds js):RowT hp (.nils::cs) (.sl []::ds) js
 |gt {j zs n k cs ds js} (hj:getH hp j=some (.tok n k)) (hn:n=zs.length) (h:RowT hp cs ds js):RowT hp (.gt j zs::cs) (.sl zs::ds) ((j,n,k)::js)
theorem RowT.move {hp hp':Hp}{cs:List AV}{ds:List D}{js:List (Nat×Nat×Nat)} (h:RowT hp cs ds js):(∀q,q∈js->getH hp' q.1=some (.tok q.2.1 q.2.2))->RowT hp' cs ds js:=by
 induction h with
 |nil=>intro _;exact .nil
 |sc hs _ ih=>intro h;exact .sc hs (ih h)
 |ni _ ih=>intro h;exact .ni (ih h)
 |gt hj hn _ ih=>intro h;exact .gt (h (_,_,_) List.mem_cons_self) hn (ih fun q hq=>h q (List.mem_cons_of_mem _ hq))
theorem RowT.len {hp:Hp}{cs:List AV}{ds:List D}{js:List (Nat×Nat×Nat)} (h:RowT hp cs ds js):ds.length=cs.length:=by
 induction h with
 |nil=>rfl
 |sc _ _ ih=>simp[ih]
 |ni _ ih=>simp[ih]
 |gt _ _ _ ih=>simp[ih]
end
end Go.Proofs.YtlfipehhbdjnjaaGreat
namespace Go.Proofs.YtlfipehhbdjnjaaGreat
open Go
set_option linter.unusedSimpArgs false
set_option linter.unusedVariables false
set_option maxRecDepth 100000
set_option maxHeartbeats 2000000
def smB (n:Nat) (w:List Data):Bool:=decide (w.length<=n)&&w.all fun d=>decide (d.name.length<=n)&&(decide (d.ctors.length<=n)&&d.ctors.all fun c=>decide (c.name.length<=n)&&decide (c.args.length<=n))
structure Sm (n:Nat) (w:List Data):Prop where
 len:w.length<=n
 data:∀d∈w,d.name.length<=n/\d.ctors.length<=n
 ctor:∀d∈w,∀c∈d.ctors,c.name.length<=n/\c.args.length<=n
theorem zuT {n:Nat}{w:List Data} (h:smB n w=true):Sm n w:=by
 simp only[smB,xad,decide_eq_true_eq,List.all_eq_true] at h;exact⟨h.1,fun d hd=>⟨(h.2 d hd).1,(h.2 d hd).2.1⟩,fun d hd c hc=>(h.2 d hd).2.2 c hc⟩
theorem Sm.small {n:Nat}{w:List Data} (h:Sm n w) (hn:n<=1000000000000):WSmall w:=
 ⟨Nat.le_trans h.len hn,fun d hd=>⟨Nat.le_trans (h.data d hd).1 hn,Nat.le_trans (h.data d hd).2 hn⟩,fun d hd c hc=>⟨Nat.le_trans (h.ctor d hd c hc).1 hn,Nat.le_trans (h.ctor d hd c hc).2 hn⟩⟩
theorem ztA:((List.range 7).all fun i=>smB 10 (zdN (nth zd7 i)).1&&(za2 (zdN (nth zd7 i)).1&&decide (1<=(zdN (nth zd7 i)).1.length)))=true:=by kernel_rfl
structure WorldD (w:List Data):Prop where
 sm:Sm 10 w
 small:WSmall w
 valid:za2 w=true
 one:1<=w.length
theorem ziz (b:Str) (p:Nat):WorldD (zbJ b p):=by
 have h:=List.all_eq_true.1 ztA (zap b p 7).toNat (List.mem_range.2 (zto b p));simp only[xad,decide_eq_true_eq] at h;exact⟨zuT h.1,(zuT h.1).small (by omega),h.2.1,h.2.2⟩
theorem zi7 {w:List Data} (hw:WT w){n:Nat}{f:Nat->Nat}{a k c:Int} (ht:TyIn w.length ⟨a,k⟩) (hc:c∈zal w ⟨a,k⟩) (hn:n<=100) (hb:∀s,f s<=100000) (hin:∀u∈zaa w ⟨a,k⟩ c,InS n u):
  FnD Tryz.prog 227 [.d (zah w),.d (zd5 n f),.agg [.d (.i a),.d (.i k)],.d (.i c)] [] (.d (.i (most w f ⟨a,k⟩ c))) []:=by
 have hl:=zfw hw ht hc;have hd:=zmZ hb (by omega);refine bd Tryz.f227 37 [] [] fun w0 F0 own kept hk=>?_;refine bx 3006 ?_;refine ev ?_;refine wc zdn (zbu hw ht hc) rfl rfl ?_;refine ev ?_;refine xak (ι:=List (Ty)×List (Ty)×(Nat)) hk (fun x=>[(11,.d (.i (x.1.length:Int))),(10,.d (.i (x.2.2:Int)))]) [8,12,17,18,19,20,21,22,23,24,25,26,27,28,29,30,31,32,33,34] (fun x=>[]) (fun x=>x.1++x.2.1=zaa w ⟨a,k⟩ c/\x.2.2<=100000/\zbl f x.2.2 x.2.1=zbl f 0 (zaa w ⟨a,k⟩ c)) (fun x=>x.2.1.length) ([],zaa w ⟨a,k⟩ c,0) ⟨by simp,by simp,rfl⟩ ⟨⟨_,rfl,xaq ?_⟩,⟨⟨_,rfl,xaq ?_⟩,trivial⟩⟩ trivial (fun x=>rfl) (fun x hg1=>?_);iterate 2 focus (first|rfl|(simp;done)|omega|(dsimp only;omega))
 obtain⟨pre,rest,m⟩:=x;dsimp only at hg1 ⊢;refine evc [] [] ?_;refine sq ?_ ?_<;>intro h1 h1p h1s<;>(try simp only[Q] at h1p);rcases rest with _|⟨y,rest⟩
 ·exfalso;simp_all
 have hdy:=hd y;have hye:dv f ⟨y.data,y.index⟩=dv f y:=rfl;refine xaU zaN .none rfl rfl rfl rfl (zaG hg1.1) rfl ?_;refine ev ?_;refine wc ze1 (zb6 (f:=f) (a:=y.data) (k:=y.index) (hin y (by rw[<-hg1.1];simp)) hn) rfl rfl ?_;refine ev ?_;refine sq ?_ ?_<;>intro h2 h2p h2s<;>(try simp only[Q] at h2p);refine rq ?_;rotate_left;refine sq ?_ ?_<;>intro h3 h3p h3s<;>(try simp only[Q] at h3p);refine ar ?_;refine xah ((pre++[y],rest,max m (dv f y))) ⟨⟨(by have hz:=hg1.1;rw[<-hz];simp),⟨(by have:=hd y;dsimp only;omega),(by rw[<-hg1.2.2];simp only[zbl];rw[if_neg (by have:=hd y;omega)])⟩⟩,(by simp),sx ⟨⟨_,rfl,xaq ?_⟩,⟨⟨_,rfl,xaq ?_⟩,trivial⟩⟩ trivial⟩;iterate 2 focus (first|rfl|(simp;done)|omega|(dsimp only;omega))
 refine ar ?_;refine xah ((pre++[y],rest,max m (dv f y))) ⟨⟨(by have hz:=hg1.1;rw[<-hz];simp),⟨(by have:=hd y;dsimp only;omega),(by rw[<-hg1.2.2];simp only[zbl];rw[if_neg (by have:=hd y;omega)])⟩⟩,(by simp),sx ⟨⟨_,rfl,xaq ?_⟩,⟨⟨_,rfl,xaq ?_⟩,trivial⟩⟩ trivial⟩;iterate 2 focus (first|rfl|(simp;done)|omega|(dsimp only;omega))
 have hrest:rest=[]:=by
  rcases rest with _|⟨a,b⟩
  ·rfl
  ·exfalso;have hz:=congrArg List.length (hg1.1);simp only[xaa,xab,xac] at hz;omega
 subst hrest;refine ar ?_;refine rq ?_;rotate_left;all_goals (refine congrArg D.i ?_;unfold most;rw[<-hg1.2.2];first|(simp only[zbl];rw[if_pos (by omega)];rfl)|(simp only[zbl];omega))
def hdB (w:List Data):Nat->Ty->Bool
 |0,_=>false
 |d+1,t=>decide (t.data = -1)||(zaV w t).any fun c=>decide (t.data≠ -1)&&(zaa w t c).all (hdB w d)
theorem zor (w:List Data):∀(d:Nat) (t:Ty),hdB w d t=true↔Hd w d t
 |0,t=>by simp[hdB,Hd]
 |d+1,t=>by
  simp only[hdB,Hd,Bool.or_eq_true,decide_eq_true_eq,List.any_eq_true,xad,List.all_eq_true,zor w d]
def Low (w:List Data):Prop:=∀s,zaf w s<=3
theorem zym {w:List Data} (hd:Dp w) (h:(List.range (w.length*4)).all (fun s=> !hdB w 4 (tyS s)||hdB w 3 (tyS s))=true):Low w:=by
 intro s;by_cases hs:s<w.length*4
 ·obtain⟨h1,h2⟩:=zdz hd.cl (w.length*4+1);by_cases h0:zaf w s=0
  ·omega
  ·have hh:=h1 s hs (Nat.pos_of_ne_zero h0);have h3:=zku hd.cl (d:=3) (by omega) (fun s hs hh=>by
    have:=List.all_eq_true.1 h s (List.mem_range.2 hs);rw[(zor w 4 (tyS s)).2 hh] at this;exact(zor w 3 _).1 (by simpa using this)) _ s hs hh
   by_cases h4:3<=w.length*4+1
   ·exact(h2 s hs 3 h4 h3).2
   ·omega
 ·have h0:=zjC (w:=w) (i:=s) (by omega) (w.length*4+1);show zbf w (w.length*4+1) s<=3
  omega
theorem ztB:((List.range 7).all fun i=>(List.range ((zdN (nth zd7 i)).1.length*4)).all fun s=> !hdB (zdN (nth zd7 i)).1 4 (tyS s)||hdB (zdN (nth zd7 i)).1 3 (tyS s))=true:=by kernel_rfl
structure WorldL (w:List Data):Prop where
 dp:Dp w
 low:Low w
 few:Few w
theorem zfZ (b:Str) (p:Nat):WorldL (zbJ b p):=by
 have ho:=ziz b p;have hd:=zmA ho.small ho.valid;exact⟨hd,zym hd (List.all_eq_true.1 ztB (zap b p 7).toNat (List.mem_range.2 (zto b p))),zu9 ho.small ho.valid⟩
theorem zps {w:List Data} (hd:Dp w){t:Ty} (ht:InS (w.length*4) t) (hne:¬t.data = -1) (h:0<dv (zaf w) t):∃c∈zal w t,0<most w (zaf w) t c/\most w (zaf w) t c=dv (zaf w) t:=by
 obtain⟨h1,h2⟩:Snd w (zaf w)/\Cmp w (w.length*4+1) (zaf w):=zdz hd.cl (w.length*4+1);have hcmp:∀k,Cmp w k (zaf w):=fun k=>by
  have h3:=(zdz hd.cl (max k (w.length*4+1))).2;rw[zlr hd.cl (Nat.le_max_right _ _)] at h3;exact fun s hs d hdk hh=>h3 s hs d (by omega) hh
 have hv:zal w t=zaV w t:=by unfold zal;rw[if_neg hne]
 have hh:Hd w (dv (zaf w) t) t:=zp9 h1 ht h;rcases hd0:dv (zaf w) t with _|e
 ·omega
 rw[hd0] at hh;rcases hh with hh|⟨c,hc,_,hu⟩
 ·exact absurd hh hne
 have hin:=zbc hd ht (c:=c) (by rw[hv];exact hc);have hp:=zkK (f:=zaf w) (l:=zaa w t c) (m:=0) (k:=e) (Nat.zero_le _) (fun u hu'=>zkq (hcmp e) (hin u hu') (hu u hu'));refine⟨c,by rw[hv];exact hc,hp.1, ?_⟩;have hle:most w (zaf w) t c<=e+1:=hp.2;have hpos:0<most w (zaf w) t c:=hp.1

 have hsn:=zgF (f:=zaf w) (l:=zaa w t c) (m:=0) hp.1;have hH:Hd w (most w (zaf w) t c) t:=by
  obtain⟨q,hq⟩:∃q,most w (zaf w) t c=q+1:=⟨most w (zaf w) t c-1,by omega⟩;rw[hq];refine .inr ⟨c,hc,hne,fun u hu'=>?_⟩;have hx:=hsn.2 u hu';have hlt:dv (zaf w) u<most w (zaf w) t c:=hx.2;exact Hd_le (by omega) (zp9 h1 (hin u hu') hx.1)
 have hge:=(zkq (hcmp _) ht hH).2;omega
def zeN (w:List Data) (f:Nat->Nat) (t:Ty) (m c:Int):Bool:=decide (0<most w f t c)&&decide ((most w f t c:Int)<=m\/most w f t c=dv f t)
def zci (w:List Data) (f:Nat->Nat) (t:Ty) (m:Int):List Int:=(zal w t).filter (zeN w f t m)
theorem zqZ {P:Int->Bool}{pre:List Int}{y:Int} (h:P y=true):((pre++[y]).filter P).map (fun n=>[D.i n])=(pre.filter P).map (fun n=>[D.i n])++[[D.i y]]:=by simp[List.filter_append,h]
theorem zwI {P:Int->Bool}{pre:List Int}{y:Int} (h:P y=false):((pre++[y]).filter P).map (fun n=>[D.i n])=(pre.filter P).map (fun n=>[D.i n]):=by simp[List.filter_append,h]
def dV (f:Ty->Nat->Val×Nat):List Ty->Nat->List Val×Nat
 | [],q=>([],q)
 |t::r,q=>((f t q).1::(dV f r (f t q).2).1,(dV f r (f t q).2).2)
def zb3 (b:Str) (w:List Data) (f:Nat->Nat):Nat->Ty->Int->Nat->Val×Nat
 |0,_,_,p=>(.mk 0 0 [],p)
 |n+1,t,m,p=>
  if t.data = -1 then (.mk (-1) (zap b p 10) [],p+1)
  else (.mk (nth (zci w f t m) (zap b p (zci w f t m).length).toNat) 0 (dV (fun u q=>zb3 b w f n u (m-1) q) (zaa w t (nth (zci w f t m) (zap b p (zci w f t m).length).toNat)) (p+1)).1,
   (dV (fun u q=>zb3 b w f n u (m-1) q) (zaa w t (nth (zci w f t m) (zap b p (zci w f t m).length).toNat)) (p+1)).2)
abbrev dW (b:Str) (w:List Data) (n:Nat) (m:Int):Ty->Nat->Val×Nat:=fun u x=>zb3 b w (zaf w) n u (m-1) x
def bdV:Nat->Nat
 |0=>0
 |d+1=>1+3*bdV d
def szV:Nat->Nat
 |0=>1
 |d+1=>1+3*szV d
theorem zv9 {f:Ty->Nat->Val×Nat}{k:Nat}:∀(l:List Ty) (q:Nat),(∀t∈l,∀q,(f t q).2<=q+k)->(dV f l q).2<=q+l.length*k
 | [],q,_=>by simp[dV]
 |t::r,q,h=>by
  have h1:=h t (by simp) q;have h2:=zv9 r (f t q).2 (fun x hx=>h x (by simp[hx]));simp only[dV,xab,Nat.add_mul];omega
theorem zun {f:Ty->Nat->Val×Nat}:∀(l:List Ty) (q:Nat),(dV f l q).1.length=l.length
 | [],q=>rfl
 |t::r,q=>by simp only[dV,xab,zun r]
theorem zwa {f:Ty->Nat->Val×Nat}{k:Nat}:∀(l:List Ty) (q:Nat),(∀t∈l,∀q,(f t q).1.size<=k/\(f t q).1.ok)->Vals.size (dV f l q).1<=l.length*k/\Vals.ok (dV f l q).1
 | [],q,_=>by simp[dV,Vals.size,Vals.ok]
 |t::r,q,h=>by
  have h1:=h t (by simp) q;have h2:=zwa r (f t q).2 (fun x hx=>h x (by simp[hx]));simp only[dV,xab,Nat.add_mul,Vals.size,Vals.ok];exact⟨by omega,h1.2,h2.2⟩
theorem zkt {w:List Data}{f:Nat->Nat}{t:Ty}{m c:Int} (h:c∈zci w f t m):c∈zal w t/\0<most w f t c/\((most w f t c:Int)<=m\/most w f t c=dv f t):=by
 have:=List.mem_filter.1 h;simpa [zeN] using this
structure Deep (w:List Data) (n:Nat) (t:Ty) (m:Int):Prop where
 ins:InS (w.length*4) t
 pos:0<dv (zaf w) t
 le:dv (zaf w) t<=n
 ml:m<=n
theorem zqY {w:List Data} (hd:Dp w){n:Nat}{t:Ty}{m:Int} (h:Deep w n t m) (hne:¬t.data = -1):1<=(zci w (zaf w) t m).length:=by
 obtain⟨c,hc,h1,h2⟩:=zps hd h.ins hne h.pos;exact List.length_pos_of_mem (a:=c) (List.mem_filter.2 ⟨hc,by have:=h.pos;simp[zeN,h2,this]⟩)
theorem zqS {w:List Data} (hd:Dp w){n:Nat}{t:Ty}{m c:Int} (h:Deep w (n+1) t m) (hc:c∈zci w (zaf w) t m):∀u∈zaa w t c,Deep w n u (m-1):=by
 intro u hu;obtain⟨h1,h2,h3⟩:=zkt hc;have hin:=zbc hd h.ins h1 u hu;have hs:=(zgF (f:=zaf w) (l:=zaa w t c) (m:=0) h2).2 u hu;have hlt:dv (zaf w) u<most w (zaf w) t c:=hs.2;have:=h.le;have:=h.ml;exact⟨hin,hs.1,by rcases h3 with h3|h3<;>omega,by omega⟩
theorem zpy {w:List Data} (hd:Dp w){n:Nat}{t:Ty}{m:Int} (h:Deep w n t m) (hne:¬t.data = -1) (b:Str) (p:Nat):nth (zci w (zaf w) t m) (zap b p (zci w (zaf w) t m).length).toNat∈zci w (zaf w) t m:=
 zjJ (by have:=zqY hd h hne;omega)
theorem zjo {b:Str}{w:List Data} (hd:Dp w) (hf:Few w):∀(n:Nat) (t:Ty) (m:Int) (p:Nat),Deep w n t m->(zb3 b w (zaf w) n t m p).2<=p+bdV n/\(zb3 b w (zaf w) n t m p).1.size<=szV n/\(zb3 b w (zaf w) n t m p).1.ok
 |0,t,m,p,h=>by have:=h.pos;have:=h.le;omega
 |n+1,t,m,p,h=>by
  simp only[zb3,bdV,szV];split
  ·refine⟨by dsimp only;omega, ?_, ?_⟩
   ·simp only[Val.size,Vals.size];omega
   ·simp[Val.ok,Vals.ok]
  ·rename_i hne;have hm:=zpy hd h hne b p;generalize nth (zci w (zaf w) t m) (zap b p (zci w (zaf w) t m).length).toNat=c at *;have hk:=zqS hd h hm;have h3:=(hf t c (zkt hm).1 (zbo h.ins)).1;have h1:=zv9 (f:=fun u q=>zb3 b w (zaf w) n u (m-1) q) (k:=bdV n) (zaa w t c) (p+1) (fun u hu q=>(zjo hd hf n u (m-1) q (hk u hu)).1);have h2:=zwa (f:=fun u q=>zb3 b w (zaf w) n u (m-1) q) (k:=szV n) (zaa w t c) (p+1) (fun u hu q=>(zjo hd hf n u (m-1) q (hk u hu)).2);have h4:(zaa w t c).length*bdV n<=3*bdV n:=Nat.mul_le_mul_right _ h3;have h5:(zaa w t c).length*szV n<=3*szV n:=Nat.mul_le_mul_right _ h3;have h6:=zun (f:=fun u q=>zb3 b w (zaf w) n u (m-1) q) (zaa w t c) (p+1);refine⟨by dsimp only;omega, ?_, ?_⟩
   ·simp only[Val.size];omega
   ·simp only[Val.ok];exact⟨by omega,h2.2⟩
section
variable {b:Str}{w:List Data}{f:Nat->Nat}{n p:Nat}{t:Ty}{m:Int}
theorem zwG (h:t.data = -1):zb3 b w f (n+1) t m p=(.mk (-1) (zap b p 10) [],p+1):=by simp only[zb3];rw[if_pos h]
theorem zwH (h:¬t.data = -1){c:Int} (hc:nth (zci w f t m) (zap b p (zci w f t m).length).toNat=c):zb3 b w f (n+1) t m p =
  (.mk c 0 (dV (fun u q=>zb3 b w f n u (m-1) q) (zaa w t c) (p+1)).1,(dV (fun u q=>zb3 b w f n u (m-1) q) (zaa w t c) (p+1)).2):=by
 simp only[zb3];rw[if_neg h,hc]
end
theorem zja {b:Str}{w:List Data} (hb:b.length<=2000) (hd:Dp w) (hf:Few w):∀(n:Nat){a k m:Int}{p:Nat},Deep w n ⟨a,k⟩ m->(n:Int)-10<=m->n<=5->p+bdV n<=1000000->
  FnD Tryz.prog 291 [.ref 900 0,.d (zah w),.d (zd5 (w.length*4) (zaf w)),.agg [.d (.i a),.d (.i k)],.d (.i m)] [(900,some (rdB b p))]
   (.agg [.d (.i (zb3 b w (zaf w) n ⟨a,k⟩ m p).1.ctor),.d (.i (zb3 b w (zaf w) n ⟨a,k⟩ m p).1.num),.d (zaW (zb3 b w (zaf w) n ⟨a,k⟩ m p).1.kids)]) [(900,some (rdB b (zb3 b w (zaf w) n ⟨a,k⟩ m p).2))]
 |0,a,k,m,p,h,_,_,_=>by have:=h.pos;have:=h.le;omega
 |n+1,a,k,m,p,h,hm,hn5,hp=>by
  have ht:=zbo h.ins;have hml:=h.ml;have h4:=hd.four;have hbd:bdV (n+1)=1+3*bdV n:=rfl;have hfb:∀s,zaf w s<=100000:=zlt hd (k:=w.length*4+1) (s:=0) (by omega) (by omega) (pre:=[]) (by simp);have hcl:=zeV hd.wt ht;have hfl:(zci w (zaf w) ⟨a,k⟩ m).length<=(zal w ⟨a,k⟩).length:=List.length_filter_le _ _;have hflm:((((zal w ⟨a,k⟩).filter (zeN w (zaf w) ⟨a,k⟩ m)).map fun n=>[D.i n]).length:Int)=(zci w (zaf w) ⟨a,k⟩ m).length:=by rw[xac];rfl
  have hfp:=fun hne=>zqY hd h hne;have v14:=fun hh=>zcR (b:=b) (p:=p) (n:=((zci w (zaf w) ⟨a,k⟩ m).length:Int)) hh;have hmem:=fun hne=>zpy hd h hne b p;have hdm:=zwG (b:=b) (w:=w) (f:=zaf w) (n:=n) (p:=p) (t:=⟨a,k⟩) (m:=m);have hdm2:=fun hne=>zwH (b:=b) (w:=w) (f:=zaf w) (n:=n) (p:=p) (t:=⟨a,k⟩) (m:=m) hne rfl;generalize hcc:nth (zci w (zaf w) ⟨a,k⟩ m) (zap b p (zci w (zaf w) ⟨a,k⟩ m).length).toNat=cc at *;have hfm:=fun hne=>zkt (hmem hne);have hkid:=fun hne=>zqS hd h (hmem hne);have hfw:=fun hne=>(hf ⟨a,k⟩ cc (hfm hne).1 ht).1;have hok:=fun u q hu=>zjo (b:=b) hd hf n u (m-1) q hu;have hat:¬a = -1->(((zal w ⟨a,k⟩).filter (zeN w (zaf w) ⟨a,k⟩ m)).map fun n=>[D.i n])[(zap b p (zci w (zaf w) ⟨a,k⟩ m).length).toNat]?=some [D.i cc]:=fun hne=>by
   rw[<-hcc];exact zaq (l:=zci w (zaf w) ⟨a,k⟩ m) (by have:=v14 (by have:=hfp hne;omega);omega)
  refine bd Tryz.f291 98 [] [9,11] fun w0 F0 own kept hk=>?_;refine bx 3008 ?_;refine ab 3010 tz49 ?_;refine tv ?_;refine sq ?_ ?_<;>intro h1 h1p h1s<;>(try simp only[Q] at h1p);refine wd zch (zaS (p:=p) (n:=10) hb (by omega) (by omega)) rfl rfl ⟨rfl,trivial⟩ ?_;refine bu [0,1] [_,_] st49 ?_;refine so ty49 ?_;refine tv ?_;refine rn [(900,some (rdB b (zb3 b w (zaf w) (n+1) ⟨a,k⟩ m p).2))] (.cons (.cellA ty49 rfl rfl rfl) .nil) (.agg (.cons (.eqd ?_) (.cons (.eqd ?_) (.cons (.nild ?_) .nil)))) ⟨rfl,rfl⟩ (SubO.get ⟨.inr ?_,⟨.inl rfl,trivial⟩⟩) (zay rfl);rotate_left 4;refine wc zep (zbZ hd.wt ht) rfl rfl ?_;refine ev ?_;refine xbh 5 sl29 .none rfl rfl ?_;refine ev ?_;refine xak (ι:=List (Int)×List (Int)) hk (fun x=>[(13,.d (.i (x.1.length:Int))),(12,.gl 5 ((x.1.filter (zeN w (zaf w) ⟨a,k⟩ m)).map fun n=>[D.i n]))]) [14,28,29,30,31,32,33,34,35,36,37,38,39,40,41,42,43,44,45,46,47,48,49,50,51,52,53,54,55,56,57,58,59,60,61,62] (fun x=>[(5,some (.tok (((x.1.filter (zeN w (zaf w) ⟨a,k⟩ m)).map fun n=>[D.i n])).length 1))]) (fun x=>x.1++x.2=zal w ⟨a,k⟩) (fun x=>x.2.length) ([],zal w ⟨a,k⟩) (by simp) ⟨⟨_,rfl,xaq ?_⟩,⟨⟨_,rfl,LeA.glg ?_⟩,trivial⟩⟩ ⟨zab ?_,trivial⟩ (fun x=>rfl) (fun x hg1=>?_);iterate 3 focus (rfl)
  obtain⟨pre,rest⟩:=x;dsimp only at hg1 ⊢;refine evc [] [9,11] ?_;refine sq ?_ ?_<;>intro h2 h2p h2s<;>(try simp only[Q] at h2p);rcases rest with _|⟨y,rest⟩
  ·exfalso;simp_all
  refine xaU sl29 .none rfl rfl rfl rfl (zaG hg1) rfl ?_;refine evd [] [] ?_;refine wc zqx (zi7 hd.wt ht (c:=y) (by rw[<-hg1];simp) (by omega) hfb (zbc hd h.ins (by rw[<-hg1];simp))) rfl rfl ?_;refine evd [] [] ?_;refine dr ?_;refine xal ?_;refine xaB 14 [(55,.d (.bool (zeN w (zaf w) ⟨a,k⟩ m y)))] [42,43,44,45,46,47,48,49,50,51,52,53,54] ?_ ?_;refine ev ?_;refine sq ?_ ?_<;>intro h3 h3p h3s<;>(try simp only[Q] at h3p);refine sq ?_ ?_<;>intro h4 h4p h4s<;>(try simp only[Q] at h4p);focus (exact jn rfl (xap (by(unfold zeN;rw[Bool.eq_iff_iff];simp_all;done))))
  refine Walk.call (cr:=[]) ze1 (zb6 h.ins (by omega)) rfl (.some rfl rfl h4) rfl rfl (LeL.refl _) trivial rfl rfl rfl ?_;refine evs [] [(44,true),(48,false)] ?_ ⟨⟨_,rfl,h3⟩,⟨_,rfl,h4⟩,trivial⟩;focus (exact jn rfl (xap (by(unfold zeN;rw[Bool.eq_iff_iff];simp_all;omega))))
  focus (exact jn rfl (xap (by(unfold zeN;rw[Bool.eq_iff_iff];simp_all;done))))
  refine xaA ?_;refine tv ?_;refine sq ?_ ?_<;>intro h5 h5p h5s<;>(try simp only[Q] at h5p);refine xaU sl29 .none rfl rfl rfl rfl (zaG hg1) rfl ?_;refine ev ?_;refine si [0] [_] sl29 tz3 ?_;refine ap sl29 zz3 rfl rfl rfl (by simp) (by(have hz:=congrArg List.length hg1;have hq:=List.length_filter_le (zeN w (zaf w) ⟨a,k⟩ m) pre;simp at hz ⊢;omega)) ?_;refine ev ?_;refine ar ?_;refine xah ((pre++[y],rest)) ⟨(by have hz:=hg1;rw[<-hz];simp),(by simp),sx ⟨⟨_,rfl,xaq ?_⟩,⟨⟨_,rfl,LeA.glg ?_⟩,trivial⟩⟩ ⟨zab ?_,trivial⟩⟩;iterate 3 focus (first|(simp;done)|(rw[zqZ (by assumption)];all_goals rfl)|(rw[zqZ (by assumption)];simp;done))
  refine ar ?_;refine xah ((pre++[y],rest)) ⟨(by have hz:=hg1;rw[<-hz];simp),(by simp),sx ⟨⟨_,rfl,xaq ?_⟩,⟨⟨_,rfl,LeA.glg ?_⟩,trivial⟩⟩ ⟨zab ?_,trivial⟩⟩;iterate 3 focus (first|(simp;done)|(rw[zwI (by assumption)];all_goals rfl))
  have hrest:rest=[]:=by
   rcases rest with _|⟨a,b⟩
   ·rfl
   ·exfalso;have hz:=congrArg List.length (hg1);simp only[xaa,xab,xac] at hz;omega
  subst hrest;rw[List.append_nil] at hg1;subst hg1;refine evc [] [] ?_;refine wd zch (zaS (p:=p) (n:=((((zal w ⟨a,k⟩).filter (zeN w (zaf w) ⟨a,k⟩ m)).map fun n=>[D.i n]).length:Int)) hb (by omega) (by omega)) rfl rfl ⟨rfl,trivial⟩ ?_;refine xaX (i:=(zap b p (zci w (zaf w) ⟨a,k⟩ m).length).toNat) sl29 .none rfl rfl rfl (by rw[hflm];have:=v14 (by have:=hfp (by omega);omega);omega) (hat (by omega)) rfl ?_;refine ev ?_;refine bu [0] [_] st49 ?_;refine ab 3015 tz49 ?_;refine so ty49 ?_;refine tv ?_;refine wc zdn (zbu hd.wt ht (hfm (by omega)).1) rfl rfl ?_;refine ev ?_;refine xan 3015 2 1 3 rfl rfl rfl rfl ?_;refine xak (ι:=List (Ty)×List (Ty)×(Nat)×(List Val)) hk (fun x=>[(17,.d (.i (x.1.length:Int)))]) [76,77,78,79,80,81,82,83,84,85,86,87,88,89,90,91,92,93,94,95,96] (fun x=>[(900,some (.box [.d (zcx b),.d (.i (x.2.2.1:Int))])),(3015,some (.box [.d (.i cc),.d (.i 0),.gl 1 (x.2.2.2.map Val.cc)])),(1,some (.tok (x.2.2.2.map Val.cc).length 3))]) (fun x=>x.1++x.2.1=zaa w ⟨a,k⟩ cc/\x.2.2.1<=p+1+x.1.length*bdV n/\x.2.2.2.length=x.1.length/\(x.2.2.2++(dV (dW b w n m) x.2.1 x.2.2.1).1,(dV (dW b w n m) x.2.1 x.2.2.1).2)=dV (dW b w n m) (zaa w ⟨a,k⟩ cc) (p+1)) (fun x=>x.2.1.length) ([],zaa w ⟨a,k⟩ cc,p+1,[]) ⟨by simp,by simp,by simp,by simp⟩ ⟨⟨_,rfl,xaq ?_⟩,trivial⟩ ⟨?_,⟨?_,⟨zab ?_,trivial⟩⟩⟩ (fun x=>rfl) (fun x hg2=>?_);focus (rfl)
  iterate 2 focus (first|rfl|(simp[getH];done))
  focus (rfl)
  obtain⟨pre,rest,q,ks⟩:=x;dsimp only at hg2 ⊢;refine evc [] [9,11] ?_;refine sq ?_ ?_<;>intro h6 h6p h6s<;>(try simp only[Q] at h6p);rcases rest with _|⟨y,rest⟩
  ·exfalso;simp_all
  have hfw3:=hfw (by omega);have hpm:pre.length*bdV n<=2*bdV n:=Nat.mul_le_mul_right _ (by have hz:=congrArg List.length hg2.1;have:=hfw (by omega);simp at hz;omega);refine xaU zaN .none rfl rfl rfl rfl (zaG hg2.1) rfl ?_;refine evd [] [] ?_;refine ar ?_;refine wd zqE (zja hb hd hf n (a:=y.data) (k:=y.index) (m:=m-1) (p:=q) (hkid (by omega) y (by rw[<-hg2.1];simp)) (by omega) (by omega) (by omega)) rfl rfl ⟨rfl,trivial⟩ ?_;refine si [0] [_] sl47 tz49 ?_;refine ap sl47 zz49 rfl rfl rfl (by simp) (by(have hz:=congrArg List.length hg2.1;have:=hfw (by omega);simp at hz ⊢;omega)) ?_;refine evd [] [] ?_;refine so ty47 ?_;refine dr ?_;refine ar ?_;refine xah ((pre++[y],rest,(zb3 b w (zaf w) n y (m-1) q).2,ks++[(zb3 b w (zaf w) n y (m-1) q).1])) ⟨⟨(by have hz:=hg2.1;rw[<-hz];simp),⟨(by have:=(hok y q (hkid (by omega) y (by rw[<-hg2.1];simp))).1;simp only[xaa,xab,xai,Nat.add_mul];omega),(by simp[hg2.2.2.1]),(by rw[<-hg2.2.2.2];simp[dV])⟩⟩,(by simp),sx ⟨⟨_,rfl,xaq ?_⟩,trivial⟩ ⟨?_,⟨?_,⟨zab ?_,trivial⟩⟩⟩⟩;focus ((simp;done))
  iterate 2 focus (first|rfl|(simp[getH];done))
  focus ((simp;done))
  have hrest:rest=[]:=by
   rcases rest with _|⟨a,b⟩
   ·rfl
   ·exfalso;have hz:=congrArg List.length (hg2.1);simp only[xaa,xab,xac] at hz;omega
  subst hrest;refine so ty49 ?_;refine tv ?_;refine rn [(900,some (rdB b (zb3 b w (zaf w) (n+1) ⟨a,k⟩ m p).2))] (.cons (.cellA ty49 rfl rfl rfl) .nil) (.agg (.cons (.eqd ?_) (.cons (.eqd ?_) (.cons (.gld ?_) .nil)))) ⟨rfl,rfl⟩ (SubO.get ⟨.inr ?_,⟨.inl rfl,trivial⟩⟩) (zay rfl);rotate_left 4;all_goals (((first|(rw[hdm (by omega)];all_goals rfl)|(rw[hdm2 (by omega)];have hfin:=hg2.2.2.2;simp only[dV,List.append_nil] at hfin;rw[<-hfin];all_goals first|rfl|(show _=D.sl (Val.cs _);rw[Val.cs_cc];all_goals rfl)|(show _=Val.cs _;rw[Val.cs_cc];all_goals rfl)));done))
end Go.Proofs.YtlfipehhbdjnjaaGreat
namespace Go.Proofs.YtlfipehhbdjnjaaGreat
open Go
set_option linter.unusedSimpArgs false
set_option linter.unusedVariables false
set_option maxRecDepth 1000000
end Go.Proofs.YtlfipehhbdjnjaaGreat
namespace Go.Proofs.YtlfipehhbdjnjaaGreat
open Go
set_option linter.unusedSimpArgs false
set_option linter.unusedVariables false
set_option maxRecDepth 100000
def uv (x:Int):Int:=if x=3 then 1 else if x=0\/x=1 then 0 else -1
def fN (y:Nat):Nat:=(y ^^^ (y / 64)) % 24
def uN (y:Nat):Int:=uv (fN y:Int)
def wS (D:Nat):Nat->Nat->Int
 |0,_=>0
 |n+1,y=>uN y+wS D n (y+D)
theorem zod (D:Nat):∀m n y,wS D (m+n) y=wS D m y+wS D n (y+m*D)
 |0,n,y=>by simp[wS]
 |m+1,n,y=>by
  rw[show m+1+n=(m+n)+1 by omega];simp only[wS];rw[zod D m n (y+D),show y+D+m*D=y+(m+1)*D by rw[Nat.add_mul];omega];omega
def g8 (r:Nat):Nat:=(r % 8) ^^^ (r / 64 % 8)
theorem zyj (y:Nat):fN y % 8=g8 (y % 512):=by
 unfold fN g8;rw[Nat.mod_mod_of_dvd _ (by decide),show(8:Nat)=2 ^ 3 from rfl,Nat.xor_mod_two_pow];congr 1
 ·omega
 ·omega
def um (r:Nat):Int:=if r=3 then 1 else if r=0\/r=1 then 0 else -1
theorem zqh (y:Nat):uN y<=um (g8 (y % 512)):=by
 rw[<-zyj];have h:fN y<24:=Nat.mod_lt _ (by omega);unfold uN;generalize fN y=x at *;have key:∀x:Nat,x<24->uv (x:Int)<=um (x % 8):=by decide
 exact key x h
def zyL:Bool:=(List.range 512).all fun r=>[128,384].all fun E=>decide (um (g8 r)+um (g8 ((r+E) % 512))+um (g8 ((r+2*E) % 512))+um (g8 ((r+3*E) % 512))<= -1)
theorem zvG:zyL=true:=by kernel_rfl
theorem quad {E:Nat} (hE:E % 512=128\/E % 512=384) (y:Nat):uN y+uN (y+E)+uN (y+2*E)+uN (y+3*E)<= -1:=by
 have h:=List.all_eq_true.1 zvG (y % 512) (List.mem_range.2 (Nat.mod_lt _ (by omega)));have h2:=List.all_eq_true.1 h (E % 512) (by rcases hE with e|e<;>rw[e]<;>simp);have h3:=of_decide_eq_true h2;have a0:=zqh y;have a1:=zqh (y+E);have a2:=zqh (y+2*E);have a3:=zqh (y+3*E);rw[show(y+E) % 512=(y % 512+E % 512) % 512 by omega] at a1;rw[show(y+2*E) % 512=(y % 512+2*(E % 512)) % 512 by omega] at a2;rw[show(y+3*E) % 512=(y % 512+3*(E % 512)) % 512 by omega] at a3;omega
theorem zwk {D E:Nat} (hE:E % 512=128\/E % 512=384):∀n y,wS D n y+wS D n (y+E)+wS D n (y+2*E)+wS D n (y+3*E)<= -n
 |0,y=>by simp[wS]
 |n+1,y=>by
  have h1:=quad hE y;have h2:=zwk (D:=D) hE n (y+D);simp only[wS];rw[show y+E+D=y+D+E by omega,show y+2*E+D=y+D+2*E by omega,show y+3*E+D=y+D+3*E by omega];omega
theorem four {D h:Nat} (hE:h*D % 512=128\/h*D % 512=384) (y:Nat):wS D (h+(h+(h+h))) y<= -h:=by
 have:=zwk (D:=D) hE h y;rw[zod,zod,zod,show y+h*D+h*D=y+2*(h*D) by omega,show y+2*(h*D)+h*D=y+3*(h*D) by omega];omega
end Go.Proofs.YtlfipehhbdjnjaaGreat
namespace Go.Proofs.YtlfipehhbdjnjaaGreat
open Go
set_option linter.unusedSimpArgs false
set_option linter.unusedVariables false
set_option maxRecDepth 100000
set_option maxHeartbeats 2000000
def mutV (b:Str):Nat->Nat->Val->Option (Val×Nat)
 |0,_,_=>none
 |n+1,p,v=>
  if zap b p 24=0 then some (.mk (numV b (p+1) [0,1,-1,9,-2]) v.num v.kids,p+2)
  else if zap b p 24=1 then some (.mk v.ctor (numV b (p+1) [10,-1,1]) v.kids,p+2)
  else if zap b p 24=2 then some (.mk v.ctor v.num (v.kids++[.mk (-1) 0 []]),p+1)
  else if zap b p 24=3 then
   match v.kids with
   | []=>some (.mk v.ctor v.num v.kids,p+1)
   |k::r=>
    match mutV b n (p+1) k with
    |none=>none
    |some (k1,p1)=>
     match mutV b n p1 k1 with
     |none=>none
     |some (k2,p2)=>some (.mk v.ctor v.num (k2::r),p2)
  else some (.mk v.ctor v.num v.kids,p+1)
theorem xay:∀a b:List Val,Vals.size (a++b)=Vals.size a+Vals.size b
 | [],b=>by simp[Vals.size]
 |x::r,b=>by simp only[xag,Vals.size,xay r b];omega
theorem xaw (a n:Int) (k:List Val):(Val.mk a n k).size=1+Vals.size k:=rfl
theorem zwT {b:Str}{n p:Nat}{v:Val}{k:Val}{r:List Val} (h:zap b p 24=3) (hk:v.kids=k::r){v':Val}{q:Nat} (hm:mutV b (n+1) p v=some (v',q)):
  ∃k1 p1 k2,mutV b n (p+1) k=some (k1,p1)/\mutV b n p1 k1=some (k2,q)/\v' = .mk v.ctor v.num (k2::r):=by
 simp only[mutV] at hm;rw[if_neg (by omega),if_neg (by omega),if_neg (by omega),if_pos h,hk] at hm;cases h1:mutV b n (p+1) k with
 |none=>simp[h1] at hm
 |some x=>
  obtain⟨k1,p1⟩:=x;cases h2:mutV b n p1 k1 with
  |none=>simp[h1,h2] at hm
  |some y=>
   obtain⟨k2,p2⟩:=y;simp only[h1,h2,Option.some.injEq,Prod.mk.injEq] at hm;obtain⟨rfl,rfl⟩:=hm;exact⟨k1,p1,k2,rfl,h2,rfl⟩
theorem zoD {b:Str}:∀ {n:Nat}{p:Nat}{v v':Val}{q:Nat},mutV b n p v=some (v',q)->p<q/\v'.size<=v.size+(q-p)
 |0,p,v,v',q,h=>by simp[mutV] at h
 |n+1,p,v,v',q,h=>by
  have hv:=Val.size_eq v;by_cases h3:zap b p 24=3
  ·cases hk:v.kids with
   |nil=>
    simp only[mutV] at h;rw[if_neg (by omega),if_neg (by omega),if_neg (by omega),if_pos h3,hk] at h;simp only[Option.some.injEq,Prod.mk.injEq] at h;obtain⟨rfl,rfl⟩:=h;rw[xaw];simp only[Vals.size];omega
   |cons k r=>
    obtain⟨k1,p1,k2,h1,h2,rfl⟩:=zwT h3 hk h;have a1:=zoD h1;have a2:=zoD h2;rw[hk] at hv;rw[xaw];simp only[Vals.size] at hv ⊢;omega
  ·simp only[mutV] at h;split at h
   ·simp only[Option.some.injEq,Prod.mk.injEq] at h;obtain⟨rfl,rfl⟩:=h;rw[xaw];omega
   split at h
   ·simp only[Option.some.injEq,Prod.mk.injEq] at h;obtain⟨rfl,rfl⟩:=h;rw[xaw];omega
   split at h
   ·simp only[Option.some.injEq,Prod.mk.injEq] at h;obtain⟨rfl,rfl⟩:=h;rw[xaw,xay];simp only[Vals.size,Val.size];omega
   ·simp only[Option.some.injEq,Prod.mk.injEq] at h;obtain⟨rfl,rfl⟩:=h;rw[xaw];omega
def zfY (b:Str) (p:Nat):Ty:=⟨zap b (p+1) (zbJ b p).length,numV b (p+2) [0,0,1,2]⟩
def typT (b:Str) (p:Nat):Ty:=if dv (zaf (zbJ b p)) (zfY b p)=0 then ⟨-1,0⟩ else zfY b p
def typV (b:Str) (p:Nat):Val×Nat:=zb3 b (zbJ b p) (zaf (zbJ b p)) 4 (typT b p) (numV b (p+3) [3,2,4,1]) (p+4)
theorem zyl {n:Nat}{a k:Int} (h1:0<=a) (h2:a<n) (h3:0<=k) (h4:k<=3):InS (n*4) ⟨a,k⟩:=by
 refine .inr ⟨?_, ?_⟩
 ·simp only[zcG];omega
 ·obtain⟨i,rfl⟩:=Int.eq_ofNat_of_zero_le h1;obtain⟨m,rfl⟩:=Int.eq_ofNat_of_zero_le h3;simp only[zcG,Int.toNat_natCast];exact zh1 (by omega)
theorem zwW (b:Str) (p:Nat):0<=numV b p [0,0,1,2]/\numV b p [0,0,1,2]<=3:=by
 have:=zmj (b:=b) (p:=p) (l:=[0,0,1,2]) (by simp);simp only[List.mem_cons,List.not_mem_nil,or_false] at this;omega
theorem zrV (b:Str) (p:Nat):InS ((zbJ b p).length*4) (zfY b p):=by
 have h1:=zcR (b:=b) (p:=p+1) (n:=((zbJ b p).length:Int)) (by have:=(ziz b p).one;omega);have h2:=zwW b (p+2);exact zyl h1.1 h1.2 h2.1 h2.2
theorem zle (b:Str) (p:Nat):Deep (zbJ b p) 4 (typT b p) (numV b (p+3) [3,2,4,1]):=by
 have hl:=zfZ b p;have h4:=num4 b (p+3);unfold typT;split
 ·exact⟨.inl rfl,by simp[dv],by simp[dv],by omega⟩
 ·rename_i h;have:=zmZ (f:=zaf (zbJ b p)) (b:=3) hl.low (by omega) (zfY b p);exact⟨zrV b p,by omega,by omega,by omega⟩
theorem zsX (b:Str) (p:Nat):(typV b p).2<=p+44/\(typV b p).1.size<=121/\(typV b p).1.ok:=by
 have hl:=zfZ b p;have h:=zjo (b:=b) hl.dp hl.few 4 (typT b p) (numV b (p+3) [3,2,4,1]) (p+4) (zle b p);have e1:bdV 4=40:=by decide
 have e2:szV 4=121:=by decide
 unfold typV;exact⟨by omega,by omega,h.2.2⟩
theorem znR {b:Str}{p:Nat} (hb:b.length<=2000) (hp:p<=100000):
  FnD Tryz.prog 213 [.ref 900 0] [(900,some (rdB b p))] (.tup [.d (zah (zbJ b p)),.agg [.d (.i (typT b p).data),.d (.i (typT b p).index)],.agg [.d (.i (typV b p).1.ctor),.d (.i (typV b p).1.num),.d (zaW (typV b p).1.kids)]]) [(900,some (rdB b (typV b p).2))]:=by
 have ho:=ziz b p;have hl:=zfZ b p;have h4:=num4 b (p+3);have hin:=zrV b p;have hdeep:=zle b p;have hT:typT b p=if dv (zaf (zbJ b p)) (zfY b p)=0 then ⟨-1,0⟩ else zfY b p:=rfl
 have hV:typV b p=zb3 b (zbJ b p) (zaf (zbJ b p)) 4 (typT b p) (numV b (p+3) [3,2,4,1]) (p+4):=rfl;have e1:bdV 4=40:=by decide
 have hwd:=znQ (p:=p) hb (by omega);have hpk:=zaS (b:=b) (p:=p+1) (n:=(((zbJ b p).map Data.c).length:Int)) hb (by omega) (by have:=ho.small.len;simp;omega);rw[show zap b (p+1) (((zbJ b p).map Data.c).length:Int)=(zfY b p).data by rw[xac];rfl] at hpk;have hnu:=zbX (b:=b) (p:=p+2) (l:=[0,0,1,2]) hb (by omega) (by simp) (by simp);rw[show numV b (p+2) [0,0,1,2]=(zfY b p).index from rfl] at hnu;have hdr:=fun(t:Ty) (h:Deep (zbJ b p) 4 t (numV b (p+3) [3,2,4,1]))=>zja hb hl.dp hl.few 4 (a:=t.data) (k:=t.index) (p:=p+4) h (by omega) (by omega) (by omega);have hdp:=zb6 (f:=zaf (zbJ b p)) (a:=(zfY b p).data) (k:=(zfY b p).index) hin (by have:=hl.dp.four;omega);have htb:=zek hl.dp;generalize zbJ b p=w at *;generalize zfY b p=t0 at *;obtain⟨a0,k0⟩:=t0;have hdr2:=hdr ⟨-1,0⟩;have hdr3:=hdr ⟨a0,k0⟩;clear hdr;dsimp only at hT hV hdr2 hdr3;refine bd Tryz.f213 35 [] [] fun w0 F0 own kept hk=>?_;refine ab 3003 tz25 ?_;refine ab 3004 tz49 ?_;refine tv ?_;refine wd zxQ (hwd) rfl rfl ⟨rfl,trivial⟩ ?_;refine ev ?_;refine wc ziM (htb) rfl rfl ?_;refine ev ?_;refine wd zch (hpk) rfl rfl ⟨rfl,trivial⟩ ?_;refine ev ?_;refine si [0,1,2,3] [_,_,_,_] sl29 tz3 ?_;refine wd zd4 (hnu) rfl rfl ⟨rfl,trivial⟩ ?_;refine bu [0,1] [_,_] st25 ?_;refine ab 3007 tz25 ?_;refine so ty25 ?_;refine tv ?_;refine wc ze1 (hdp) rfl rfl ?_;refine ev ?_;refine sq ?_ ?_<;>intro h1 h1p h1s<;>(try simp only[Q] at h1p);have HDR:=hdr2 (by rw[if_pos (by omega)] at hT;rw[<-hT];exact hdeep);refine bu [0] [_] st25 ?_;refine so ty25 ?_;refine tv ?_;refine si [0,1,2,3] [_,_,_,_] sl29 tz3 ?_;refine wd zd4 (zbX (b:=b) (p:=p+3) (l:=[3,2,4,1]) hb (by omega) (by simp) (by simp)) rfl rfl ⟨rfl,trivial⟩ ?_;refine wd zqE (HDR) rfl rfl ⟨rfl,trivial⟩ ?_;refine evd [] [] ?_;refine so ty25 ?_;refine so ty49 ?_;refine dr ?_;refine rn [(900,some (rdB b (typV b p).2))] (.cons (.tmp rfl) (.cons (.cellA ty25 rfl rfl rfl) (.cons (.cellA ty49 rfl rfl rfl) .nil))) (.tup (.cons (.eqd ?_) (.cons (.agg (.cons (.eqd ?_) (.cons (.eqd ?_) .nil))) (.cons (.agg (.cons (.eqd ?_) (.cons (.eqd ?_) (.cons (.eqd ?_) .nil)))) .nil)))) ⟨rfl,rfl⟩ (SubO.get ⟨.inr ?_,⟨.inl rfl,trivial⟩⟩) (zay rfl);rotate_left 7;have HDR:=hdr3 (by rw[if_neg (by omega)] at hT;rw[<-hT];exact hdeep);refine si [0,1,2,3] [_,_,_,_] sl29 tz3 ?_;refine wd zd4 (zbX (b:=b) (p:=p+3) (l:=[3,2,4,1]) hb (by omega) (by simp) (by simp)) rfl rfl ⟨rfl,trivial⟩ ?_;refine wd zqE (HDR) rfl rfl ⟨rfl,trivial⟩ ?_;refine evd [] [] ?_;refine so ty25 ?_;refine so ty49 ?_;refine dr ?_;refine rn [(900,some (rdB b (typV b p).2))] (.cons (.tmp rfl) (.cons (.cellA ty25 rfl rfl rfl) (.cons (.cellA ty49 rfl rfl rfl) .nil))) (.tup (.cons (.eqd ?_) (.cons (.agg (.cons (.eqd ?_) (.cons (.eqd ?_) .nil))) (.cons (.agg (.cons (.eqd ?_) (.cons (.eqd ?_) (.cons (.eqd ?_) .nil)))) .nil)))) ⟨rfl,rfl⟩ (SubO.get ⟨.inr ?_,⟨.inl rfl,trivial⟩⟩) (zay rfl);rotate_left 7;all_goals (first|((first|(rw[if_pos (by omega)] at hT;rw[hV,hT];all_goals rfl)|(rw[if_neg (by omega)] at hT;rw[hV,hT];all_goals rfl)|(rw[if_pos (by omega)] at hT;rw[hT];all_goals rfl)|(rw[if_neg (by omega)] at hT;rw[hT];all_goals rfl)|rfl);done)|(first|(rw[if_pos (by omega)] at hT;rw[hV,hT];all_goals rfl)|(rw[if_neg (by omega)] at hT;rw[hV,hT];all_goals rfl)))
mutual
theorem Val.ok_sz:∀v:Val,v.size<=1000000000000->v.ok
 | .mk a n ks,h=>by
  have h1:1+Vals.size ks<=1000000000000:=h;exact⟨by have:=xax ks;omega,Vals.ok_sz ks (by omega)⟩
theorem Vals.ok_sz:∀l:List Val,Vals.size l<=1000000000000->Vals.ok l
 | [],_=>trivial
 |v::r,h=>by
  have h1:v.size+Vals.size r<=1000000000000:=h;exact⟨Val.ok_sz v (by omega),Vals.ok_sz r (by omega)⟩
theorem xax:∀l:List Val,l.length<=Vals.size l
 | []=>Nat.zero_le _
 |v::r=>by
  have h1:=xax r;have h2:=Val.size_eq v;show r.length+1<=v.size+Vals.size r
  omega
end
theorem Val.cs_app (a b:List Val):Val.cs (a++b)=Val.cs a++Val.cs b:=by rw[Val.cs_eq,Val.cs_eq,Val.cs_eq,xaf]
structure MutOf (b:Str) (p:Nat) (v v':Val) (q:Nat):Prop where
 some_:∃n,mutV b n p v=some (v',q)
 q:q<=3010000
theorem MutOf.size {b:Str}{p:Nat}{v v':Val}{q:Nat} (h:MutOf b p v v' q):v'.size<=v.size+3010000:=by
 obtain⟨n,hn⟩:=h.some_;have:=zoD hn;have:=h.q;omega
def g0:Gd:=⟨0,0,0⟩
def zcm (b:Str) (x:Vt) (g:Gd) (q:Nat):Gd×Nat:=if x.ty.data = -1 then (if zap b q 2=0 then (⟨1+zap b (q+1) 2,x.var,zap b (q+2) 10⟩,q+3) else (g,q+1)) else (g,q)
def gdL (b:Str):List Vt->Gd->Nat->Gd×Nat
 | [],g,q=>(g,q)
 |x::r,g,q=>gdL b r (zcm b x g q).1 (zcm b x g q).2
theorem zjt {b:Str}{x:Vt}{g:Gd}{q:Nat} (h:x.ty.data = -1) (h2:zap b q 2=0):zcm b x g q=(⟨1+zap b (q+1) 2,x.var,zap b (q+2) 10⟩,q+3):=by unfold zcm;rw[if_pos h,if_pos h2]
theorem zju {b:Str}{x:Vt}{g:Gd}{q:Nat} (h:x.ty.data = -1) (h2:¬zap b q 2=0):zcm b x g q=(g,q+1):=by unfold zcm;rw[if_pos h,if_neg h2]
theorem zjv {b:Str}{x:Vt}{g:Gd}{q:Nat} (h:¬x.ty.data = -1):zcm b x g q=(g,q):=by unfold zcm;rw[if_neg h]
theorem zic (b:Str) (x:Vt) (g:Gd) (q:Nat):q<=(zcm b x g q).2/\(zcm b x g q).2<=q+3:=by unfold zcm;split;split;all_goals (dsimp only;omega)
theorem zq4 (b:Str):∀(l:List Vt) (g:Gd) (q:Nat),(gdL b l g q).2<=q+3*l.length
 | [],g,q=>by simp[gdL]
 |x::r,g,q=>by
  unfold gdL;have h1:=zic b x g q;have h2:=zq4 b r (zcm b x g q).1 (zcm b x g q).2;simp only[xab];omega
def clD (b:Str) (w:List Data) (t:Ty) (q:Nat):Cl×Nat:=
 (⟨zbQ b w t q,(gdL b (zeH w t (zbQ b w t q)) g0 (zcK b w t q).2.2).1⟩,(gdL b (zeH w t (zbQ b w t q)) g0 (zcK b w t q).2.2).2)
theorem zwM {w:List Data}{t:Ty}:isP w t anyP=true:=by
 have e:zac w t anyP=[]:=by unfold zac;rw[if_neg (by decide),if_neg (by decide),if_neg (by decide)]
 have ho:ownP w t anyP=true:=by simp[ownP,anyP,Pat.op,Pat.n,Pat.m,Pat.var,Pat.ctor]
 have h:zan w 10 t anyP=true:=by
  show(ownP w t anyP&&all2 _ (zac w t anyP) anyP.kids)=true
  rw[e,ho];rfl
 have h2:anyP.size=1:=ziL.1;have h3:linP w 10 t anyP=true:=by
  unfold linP;rw[e];rfl
 unfold isP;rw[h,h3,h2];rfl
theorem zsg (b:Str) (w:List Data) (t:Ty) (q:Nat):isP w t (zbQ b w t q)=true:=by
 unfold zbQ;split
 ·assumption
 ·exact zwM
theorem zuf {b:Str}{w:List Data} (hf:Few w){t:Ty} (ht:TyIn w.length t) (q:Nat):(clD b w t q).2<=q+518/\(clD b w t q).1.pat.size<=242/\(clD b w t q).1.pat.ok:=by
 have h1:=zik (b:=b) hf ht q;have h2:=znG (b:=b) hf ht q;have h3:=zjT w t (zbQ b w t q);have h4:=zq4 b (zeH w t (zbQ b w t q)) g0 (zcK b w t q).2.2;exact⟨by unfold clD;dsimp only;omega,h2⟩
theorem zmu {b:Str}{w:List Data} (hb:b.length<=2000) (hw:WT w) (hf:Few w){a k:Int}{p:Nat} (hp:p<=100000) (ht:TyIn w.length ⟨a,k⟩):
  FnD Tryz.prog 292 [.ref 900 0,.d (zah w),.agg [.d (.i a),.d (.i k)]] [(900,some (rdB b p))]
   (.agg [.d (.i (clD b w ⟨a,k⟩ p).1.pat.op),.d (.i (clD b w ⟨a,k⟩ p).1.pat.ctor),.d (.i (clD b w ⟨a,k⟩ p).1.pat.n),.d (.i (clD b w ⟨a,k⟩ p).1.pat.m),.d (.i (clD b w ⟨a,k⟩ p).1.pat.var),.d (zag (clD b w ⟨a,k⟩ p).1.pat.kids),.d (.i (clD b w ⟨a,k⟩ p).1.g.op),.d (.i (clD b w ⟨a,k⟩ p).1.g.var),.d (.i (clD b w ⟨a,k⟩ p).1.g.n)])
   [(900,some (rdB b (clD b w ⟨a,k⟩ p).2))]:=by
 have h1:=zik (b:=b) hf ht p;have h2:=znG (b:=b) hf ht p;have h3:=zjT w ⟨a,k⟩ (zbQ b w ⟨a,k⟩ p);have hip:=zsg b w ⟨a,k⟩ p;have hsh:zan w 10 ⟨a,k⟩ (zbQ b w ⟨a,k⟩ p)=true:=by unfold isP at hip;simp only[xad] at hip;exact hip.1
 have hva:=zdw hw hsh (by omega) ht h2.2 (by omega);rw[<-zpL hip] at hva;have hso:=zoR hb hw hf hp ht;have hgb:=zq4 b;have hpb:=fun q=>zcR (b:=b) (p:=q) (n:=2) (by omega);unfold clD;dsimp only;generalize zbQ b w ⟨a,k⟩ p=pt at *;generalize zeH w ⟨a,k⟩ pt=L at *;generalize (zcK b w ⟨a,k⟩ p).2.2=q0 at *;refine bd Tryz.f292 51 [] [] fun w0 F0 own kept hk=>?_;refine bx 3005 ?_;refine ab 3006 tz40 ?_;refine tv ?_;refine wd zxl (hso) rfl rfl ⟨rfl,trivial⟩ ?_;refine bu [0] [_] st40 ?_;refine ab 3007 tz40 ?_;refine so ty40 ?_;refine tv ?_;refine wc zhC (hva) rfl rfl ?_;refine ev ?_;refine xak (ι:=List (Vt)×List (Vt)×(Nat)×(Gd)) hk (fun x=>[(9,.d (.i (x.1.length:Int)))]) [20,21,22,23,24,25,26,27,28,29,30,31,32,33,34,35,36,37,38,39,40,41,42,43,44,45,46,47,48,49] (fun x=>[(900,some (.box [.d (zcx b),.d (.i (x.2.2.1:Int))])),(3007,some (.box [.d (.i pt.op),.d (.i pt.ctor),.d (.i pt.n),.d (.i pt.m),.d (.i pt.var),.d (zag pt.kids),.d (.i x.2.2.2.op),.d (.i x.2.2.2.var),.d (.i x.2.2.2.n)]))]) (fun x=>x.1++x.2.1=L/\x.2.2.1<=q0+3*x.1.length/\gdL b x.2.1 x.2.2.2 x.2.2.1=gdL b L g0 q0) (fun x=>x.2.1.length) ([],L,q0,g0) ⟨by simp,by simp,rfl⟩ ⟨⟨_,rfl,xaq ?_⟩,trivial⟩ ⟨?_,⟨?_,trivial⟩⟩ (fun x=>rfl) (fun x hg1=>?_);focus (first|rfl|(simp;done)|omega)
 iterate 2 focus (first|rfl|(rw[zjt (by omega) (by omega)];all_goals rfl)|(rw[zju (by omega) (by omega)];all_goals rfl)|(rw[zjv (by omega)];all_goals rfl))
 obtain⟨pre,rest,q,g⟩:=x;dsimp only at hg1 ⊢;refine evc [] [] ?_;refine sq ?_ ?_<;>intro h1 h1p h1s<;>(try simp only[Q] at h1p);rcases rest with _|⟨y,rest⟩
 ·exfalso;simp_all
 have hpl:pre.length<=6:=(by have hz:=congrArg List.length hg1.1;simp at hz;omega);refine xaU zdf .none rfl rfl rfl rfl (zaG hg1.1) rfl ?_;refine ev ?_;refine sq ?_ ?_<;>intro h2 h2p h2s<;>(try simp only[Q] at h2p);refine Walk.call (cr:=[]) zch (zaS (p:=q) (n:=2) hb (by omega) (by omega)) rfl (.some rfl rfl h2) rfl rfl (LeL.refl _) ⟨rfl,trivial⟩ rfl rfl rfl ?_;refine evs [] [(33,true)] ?_ ⟨⟨_,rfl,h2⟩,trivial⟩;refine sq ?_ ?_<;>intro h3 h3p h3s<;>(try simp only[Q] at h3p);refine wd zch (zaS (p:=q+1) (n:=2) hb (by omega) (by omega)) rfl rfl ⟨rfl,trivial⟩ ?_;refine evd [] [] ?_;refine ar ?_ (by have:=hpb (q+1);constructor<;>omega);refine xaU zdf .none rfl rfl rfl rfl (zaG hg1.1) rfl ?_;refine evd [] [] ?_;refine wd zch (zaS (p:=q+2) (n:=10) hb (by omega) (by omega)) rfl rfl ⟨rfl,trivial⟩ ?_;refine bu [0,1,2] [_,_,_] st38 ?_;refine evd [] [] ?_;refine so ty38 ?_;refine dr ?_;refine ar ?_ (by have:=hpb (q+1);constructor<;>omega);refine xah ((pre++[y],rest,(zcm b y g q).2,(zcm b y g q).1)) ⟨⟨(by have hz:=hg1.1;rw[<-hz];simp),⟨(by have:=zic b y g q;simp only[xaa,xab,xai];omega),(by rw[<-hg1.2.2];simp[gdL])⟩⟩,(by simp),sx ⟨⟨_,rfl,xaq ?_⟩,trivial⟩ ⟨?_,⟨?_,trivial⟩⟩⟩;focus (first|rfl|(simp;done)|omega)
 iterate 2 focus (first|rfl|(rw[zjt (by omega) (by omega)];all_goals rfl)|(rw[zju (by omega) (by omega)];all_goals rfl)|(rw[zjv (by omega)];all_goals rfl))
 refine ar ?_ (by have:=hpb (q+1);constructor<;>omega);refine xah ((pre++[y],rest,(zcm b y g q).2,(zcm b y g q).1)) ⟨⟨(by have hz:=hg1.1;rw[<-hz];simp),⟨(by have:=zic b y g q;simp only[xaa,xab,xai];omega),(by rw[<-hg1.2.2];simp[gdL])⟩⟩,(by simp),sx ⟨⟨_,rfl,xaq ?_⟩,trivial⟩ ⟨?_,⟨?_,trivial⟩⟩⟩;focus (first|rfl|(simp;done)|omega)
 iterate 2 focus (first|rfl|(rw[zjt (by omega) (by omega)];all_goals rfl)|(rw[zju (by omega) (by omega)];all_goals rfl)|(rw[zjv (by omega)];all_goals rfl))
 refine sqF ?_;refine ar ?_ (by have:=hpb (q+1);constructor<;>omega);refine xah ((pre++[y],rest,(zcm b y g q).2,(zcm b y g q).1)) ⟨⟨(by have hz:=hg1.1;rw[<-hz];simp),⟨(by have:=zic b y g q;simp only[xaa,xab,xai];omega),(by rw[<-hg1.2.2];simp[gdL])⟩⟩,(by simp),sx ⟨⟨_,rfl,xaq ?_⟩,trivial⟩ ⟨?_,⟨?_,trivial⟩⟩⟩;focus (first|rfl|(simp;done)|omega)
 iterate 2 focus (first|rfl|(rw[zjt (by omega) (by omega)];all_goals rfl)|(rw[zju (by omega) (by omega)];all_goals rfl)|(rw[zjv (by omega)];all_goals rfl))
 have hrest:rest=[]:=by
  rcases rest with _|⟨a,b⟩
  ·rfl
  ·exfalso;have hz:=congrArg List.length (hg1.1);simp only[xaa,xab,xac] at hz;omega
 subst hrest;refine so ty40 ?_;refine tv ?_;refine rn [(900,some (rdB b (gdL b L g0 q0).2))] (.cons (.cellA ty40 rfl rfl rfl) .nil) (.agg (.cons (.eqd ?_) (.cons (.eqd ?_) (.cons (.eqd ?_) (.cons (.eqd ?_) (.cons (.eqd ?_) (.cons (.eqd ?_) (.cons (.eqd ?_) (.cons (.eqd ?_) (.cons (.eqd ?_) .nil)))))))))) ⟨rfl,rfl⟩ (SubO.get ⟨.inr ?_,⟨.inl rfl,trivial⟩⟩) (zay rfl);rotate_left 10;all_goals (first|((first|rfl|(rw[<-hg1.2.2,gdL];all_goals rfl));done)|(first|(rw[<-hg1.2.2,gdL];all_goals rfl)|rfl))
def clL (b:Str) (w:List Data) (t:Ty):Nat->Nat->List Cl×Nat
 |0,q=>([],q)
 |n+1,q=>((clD b w t q).1::(clL b w t n (clD b w t q).2).1,(clL b w t n (clD b w t q).2).2)
def CSm (l:List Cl):Prop:=∀c∈l,c.pat.size<=400/\c.pat.ok
theorem zug {b:Str}{w:List Data} (hf:Few w){t:Ty} (ht:TyIn w.length t):∀(n q:Nat),(clL b w t n q).2<=q+518*n/\(clL b w t n q).1.length=n/\CSm (clL b w t n q).1
 |0,q=>⟨by simp[clL],rfl,fun c hc=>by simp[clL] at hc⟩
 |n+1,q=>by
  have h1:=zuf (b:=b) hf ht q;have h2:=zug (b:=b) hf ht n (clD b w t q).2;unfold clL;refine⟨by dsimp only;omega,by simp[h2.2.1],fun c hc=>?_⟩;rcases List.mem_cons.1 hc with rfl|hc
  ·exact⟨by omega,h1.2.2⟩
  ·exact h2.2.2 c hc
theorem num6 (b:Str) (p:Nat):0<=numV b p [3,2,4,5,1,0]/\numV b p [3,2,4,5,1,0]<=5:=by
 have:=zmj (b:=b) (p:=p) (l:=[3,2,4,5,1,0]) (by simp);simp only[List.mem_cons,List.not_mem_nil,or_false] at this;omega
def clS (b:Str) (w:List Data) (t:Ty) (q:Nat):List Cl×Nat:=clL b w t (numV b q [3,2,4,5,1,0]).toNat (q+1)
theorem zyc {b:Str}{w:List Data} (hf:Few w){t:Ty} (ht:TyIn w.length t) (q:Nat):(clS b w t q).2<=q+2591/\(clS b w t q).1.length<=5/\CSm (clS b w t q).1:=by
 have h:=zug (b:=b) hf ht (numV b q [3,2,4,5,1,0]).toNat (q+1);have h2:=num6 b q;unfold clS;exact⟨by omega,by omega,h.2.2⟩
theorem zrW (b:Str) (p:Nat):TyIn (zbJ b p).length (typT b p):=zbo (zle b p).ins
def rnL (b:Str):List Cl×Nat:=clS b (zbJ b 0) (typT b 0) (typV b 0).2
theorem zuP (b:Str):(rnL b).2<=2700/\(rnL b).1.length<=5/\CSm (rnL b).1:=by
 have h1:=(zsX b 0).1;have h2:=zyc (b:=b) (zfZ b 0).few (zrW b 0) (typV b 0).2;unfold rnL;exact⟨by omega,h2.2⟩
def anyC:Cl:=⟨⟨1,0,0,0,0,[]⟩,⟨0,0,0⟩⟩
def mutC (b:Str) (l:List Cl) (q:Nat):List Cl×Nat:=
 if zap b q 24=0 then (match l with
  | []=>([],q+1)
  |y::r=>(⟨y.pat,⟨numV b (q+1) [1,2,3,-1],numV b (q+2) [0,5,9],numV b (q+3) [3,10,-1]⟩⟩::r,q+4))
 else if zap b q 24=1 then (match l with
  | []=>([],q+1)
  |y::r=>(⟨(mutP b (mutP b y.pat (q+1)).1 (mutP b y.pat (q+1)).2).1,y.g⟩::r,(mutP b (mutP b y.pat (q+1)).1 (mutP b y.pat (q+1)).2).2))
 else if zap b q 24=2 then (l++List.replicate (9-l.length) anyC,q+1)
 else (l,q+1)
theorem zrm (b:Str) (p:Pat) (q:Nat):(mutP b p q).2<=q+2:=by
 unfold mutP;repeat' split
 all_goals (dsimp only;omega)
theorem zoC {b:Str}{p:Pat}{q m:Nat} (hs:p.size<=m) (hm:m<=1000) (hok:p.ok):(mutP b p q).1.size<=m+1/\(mutP b p q).1.ok:=by
 have hv:zck.size=1/\zck.ok:=⟨by rw[Pat.size_eq];rfl,by rw[Pat.ok_iff];exact⟨by simp[zck,Pat.kids],trivial⟩⟩;refine⟨?_,(zwS (by omega) hok).2⟩;have h0:=Pat.size_eq p;have same:∀a c n m' v:Int,(Pat.mk a c n m' v p.kids).size<=m+1:=fun a c n m' v=>by
  rw[Pat.size_eq];show 1+Pats.size p.kids<=_;omega
 unfold mutP;split;exact same _ _ _ _ _
 split;exact same _ _ _ _ _
 split;exact same _ _ _ _ _
 split
 ·dsimp only;rw[Pat.size_eq];show 1+Pats.size (p.kids++[zck])<=_;rw[xav];omega
 split
 ·dsimp only;rw[Pat.size_eq];show 1+Pats.size (p.kids.set 0 zck)<=_;have:=zoH (x:=zck) (l:=p.kids) (i:=0);omega
 split;exact same _ _ _ _ _
 exact same _ _ _ _ _
theorem zwR {b:Str}{l:List Cl}{q:Nat} (h:CSm l) (hl:l.length<=6):(mutC b l q).2<=q+5/\(mutC b l q).1.length<=9/\∀c∈(mutC b l q).1,c.pat.size<=4000/\c.pat.ok:=by
 have hs:∀c∈l,c.pat.size<=4000/\c.pat.ok:=fun c hc=>⟨by have:=(h c hc).1;omega,(h c hc).2⟩;unfold mutC;split
 ·cases l with
  |nil=>exact⟨by simp,by simp,by simp⟩
  |cons y r=>
   simp only[xab] at hl;refine⟨by simp,by simp;omega,fun c hc=>?_⟩;rcases List.mem_cons.1 hc with rfl|hc
   ·exact hs y (by simp)
   ·exact hs c (by simp[hc])
 split
 ·cases l with
  |nil=>exact⟨by simp,by simp,by simp⟩
  |cons y r=>
   have h1:=h y (by simp);have h2:=zrm b y.pat (q+1);have h3:=zrm b (mutP b y.pat (q+1)).1 (mutP b y.pat (q+1)).2;simp only[xab] at hl;refine⟨by dsimp only;omega,by simp;omega,fun c hc=>?_⟩;rcases List.mem_cons.1 hc with rfl|hc
   ·have h4:=zoC (b:=b) (p:=y.pat) (q:=q+1) (m:=400) h1.1 (by omega) h1.2;have h5:=zoC (b:=b) (p:=(mutP b y.pat (q+1)).1) (q:=(mutP b y.pat (q+1)).2) (m:=401) h4.1 (by omega) h4.2;exact⟨by have:=h5.1;dsimp only;omega,h5.2⟩
   ·exact hs c (by simp[hc])
 split
 ·refine⟨by simp,by simp;omega,fun c hc=>?_⟩;rcases List.mem_append.1 hc with hc|hc
  ·exact hs c hc
  ·rw[List.eq_of_mem_replicate hc];have ha:=ziL;exact⟨by show anyP.size<=_;omega,ha.2⟩
 ·exact⟨by simp,by dsimp only;omega,hs⟩
theorem zyn {b:Str}{y:Cl}{r:List Cl}{q:Nat} (h:zap b q 24=0):mutC b (y::r) q=(⟨y.pat,⟨numV b (q+1) [1,2,3,-1],numV b (q+2) [0,5,9],numV b (q+3) [3,10,-1]⟩⟩::r,q+4):=by unfold mutC;rw[if_pos h]
theorem zyo {b:Str}{y:Cl}{r:List Cl}{q:Nat} (h:zap b q 24=1):mutC b (y::r) q=(⟨(mutP b (mutP b y.pat (q+1)).1 (mutP b y.pat (q+1)).2).1,y.g⟩::r,(mutP b (mutP b y.pat (q+1)).1 (mutP b y.pat (q+1)).2).2):=by unfold mutC;rw[if_neg (by omega),if_pos h]
theorem zyp {b:Str}{l:List Cl}{q:Nat} (h:zap b q 24=2):mutC b l q=(l++List.replicate (9-l.length) anyC,q+1):=by unfold mutC;rw[if_neg (by omega),if_neg (by omega),if_pos h]
theorem zyq {b:Str}{l:List Cl}{q:Nat} (h0:¬zap b q 24=0) (h1:¬zap b q 24=1) (h2:¬zap b q 24=2):mutC b l q=(l,q+1):=by unfold mutC;rw[if_neg h0,if_neg h1,if_neg h2]
theorem zvz {b:Str}{l:List Cl}{q:Nat} (h0:zap b q 24=0\/zap b q 24=1) (h:l.length=0):mutC b l q=(l,q+1):=by
 obtain rfl:=List.eq_nil_of_length_eq_zero h;unfold mutC;rcases h0 with h0|h0
 ·rw[if_pos h0]
 ·rw[if_neg (by omega),if_pos h0]
theorem putG {y:Cl}{r:List Cl}{a b c:AV}:putC (((y::r).map Cl.c).flatten.map AV.d) 6 [a,b,c]=some ([.d (.i y.pat.op),.d (.i y.pat.ctor),.d (.i y.pat.n),.d (.i y.pat.m),.d (.i y.pat.var),.d (.sl (Pat.cs y.pat.kids)),a,b,c]++(r.map Cl.c).flatten.map .d):=by
 simp[putC]
theorem zyK {y:Cl}{r:List Cl}{a b c d e f:AV}:putC (((y::r).map Cl.c).flatten.map AV.d) 0 [a,b,c,d,e,f]=some ([a,b,c,d,e,f,.d (.i y.g.op),.d (.i y.g.var),.d (.i y.g.n)]++(r.map Cl.c).flatten.map .d):=by
 simp[putC]
theorem zyF {y:Cl}{r:List Cl}:cutC (((y::r).map Cl.c).flatten.map AV.d) 0 6=some [.d (.i y.pat.op),.d (.i y.pat.ctor),.d (.i y.pat.n),.d (.i y.pat.m),.d (.i y.pat.var),.d (.sl (Pat.cs y.pat.kids))]:=by
 simp[cutC]
theorem ziQ (l:List Cl):∀x∈l.map Cl.c,x.length=9:=by
 intro x hx;obtain⟨y,_,rfl⟩:=List.mem_map.1 hx;rfl
theorem zvd (l:List Cl) (i:Nat):(l++List.replicate i anyC).map Cl.c++[Cl.c anyC]=(l++List.replicate (i+1) anyC).map Cl.c:=by
 rw[List.replicate_succ',<-List.append_assoc,xaf (l₁:=l++List.replicate i anyC)];rfl
theorem zir {b:Str} (hb:b.length<=2000){l:List Cl}{q:Nat} (hq:q<=10000) (hl:l.length<=6) (hc:¬((zap b q 24=0\/zap b q 24=1)/\l≠[])):
  FnD Tryz.prog 119 [.ref 900 0,.d (zbI l)] [(900,some (rdB b q))] (.d (zbI (mutC b l q).1)) [(900,some (rdB b (mutC b l q).2))]:=by
 have hnil:l≠[]->zap b q 24≠0/\zap b q 24≠1:=fun h=>by
  constructor
  ·intro h2;exact hc ⟨.inl h2,h⟩
  ·intro h2;exact hc ⟨.inr h2,h⟩
 refine bd Tryz.f119 56 [] [] fun w0 F0 own kept hk=>?_;refine xbh 1 sl26 .none rfl rfl ?_;refine ev ?_;refine Walk.append sl26 zz40 rfl .none rfl rfl rfl rfl (zdq rfl (by rfl)) (by exact ziQ _) (by simp;omega) (by simp;omega) ?_;refine ev ?_;refine wd zch (zaS (p:=q) (n:=24) hb (by omega) (by omega)) rfl rfl ⟨rfl,trivial⟩ ?_;refine tv ?_;refine sq ?_ ?_<;>intro h1 h1p h1s<;>(try simp only[Q,Int.natCast_inj] at h1p);refine sq ?_ ?_<;>intro h2 h2p h2s<;>(try simp only[Q,Int.natCast_inj] at h2p);exfalso;have hne:l≠[]:=(fun hh=>by rw[hh] at h2p;exact absurd h2p (by decide));exact(hnil hne).1 (by omega);have hz0:l.length=0:=(by have hq:=h2p;simp only[List.nil_append,xac] at hq;omega);refine rn [(900,some (rdB b (mutC b l q).2))] (r1 rfl) (.gld ?_) ⟨rfl,rfl⟩ (SubO.get ⟨.inr ?_,⟨.inl rfl,trivial⟩⟩) (zay rfl);rotate_left 2;refine sq ?_ ?_<;>intro h3 h3p h3s<;>(try simp only[Q,Int.natCast_inj] at h3p);refine sq ?_ ?_<;>intro h4 h4p h4s<;>(try simp only[Q,Int.natCast_inj] at h4p);exfalso;have hne:l≠[]:=(fun hh=>by rw[hh] at h4p;exact absurd h4p (by decide));exact(hnil hne).2 (by omega);have hz0:l.length=0:=(by have hq:=h4p;simp only[List.nil_append,xac] at hq;omega);refine rn [(900,some (rdB b (mutC b l q).2))] (r1 rfl) (.gld ?_) ⟨rfl,rfl⟩ (SubO.get ⟨.inr ?_,⟨.inl rfl,trivial⟩⟩) (zay rfl);rotate_left 2;refine sq ?_ ?_<;>intro h5 h5p h5s<;>(try simp only[Q,Int.natCast_inj] at h5p);refine xak (ι:=Nat) hk (fun i=>[(5,.gl 1 ((l++List.replicate i anyC).map Cl.c))]) [47,48,49,50,51,52,53,54] (fun i=>[(1,some (.tok (((l++List.replicate i anyC).map Cl.c)).length 9))]) (fun i=>i<=9-l.length/\zap b q 24=2) (fun i=>9-l.length-i) 0 ⟨by omega,by omega⟩ ⟨⟨_,rfl,LeA.glg ?_⟩,trivial⟩ ⟨zab ?_,trivial⟩ (fun x=>rfl) (fun i hg1=>?_);iterate 2 focus ((simp;done))
 refine evc [] [] ?_;refine sq ?_ ?_<;>intro h6 h6p h6s<;>(try simp only[Q,Int.natCast_inj] at h6p);refine bu [0] [_] st36 ?_;refine bu [0] [_] st40 ?_;refine si [0] [_] sl26 tz40 ?_;refine Walk.append sl26 zz40 rfl .none rfl rfl rfl rfl (zdq rfl (by(simp;done))) (by(intro y hy;simp at hy;subst hy;rfl)) (by simp;omega) (by simp;omega) ?_;refine ev ?_;refine xah (i+1) ⟨⟨by simp at *;omega,hg1.2⟩,(by simp at *;omega),sx ⟨⟨_,rfl,LeA.glg ?_⟩,trivial⟩ ⟨zab ?_,trivial⟩⟩;iterate 2 focus (first|exact zvd l i|(simp;omega))
 refine rn [(900,some (rdB b (mutC b l q).2))] (r1 rfl) (.gld ?_) ⟨rfl,rfl⟩ (SubO.get ⟨.inr ?_,⟨.inl rfl,trivial⟩⟩) (zay rfl);rotate_left 2;refine rn [(900,some (rdB b (mutC b l q).2))] (r1 rfl) (.gld ?_) ⟨rfl,rfl⟩ (SubO.get ⟨.inr ?_,⟨.inl rfl,trivial⟩⟩) (zay rfl);rotate_left 2;all_goals (((first|(rw[zvz (by omega) (by omega)];all_goals rfl)|(rw[zyp (by omega),show 9-l.length=i by simp at *;omega];all_goals first|rfl|(simp;done))|(rw[zyq (by omega) (by omega) (by omega)];all_goals rfl));done))
theorem znW {b:Str} (hb:b.length<=2000){y:Cl}{r:List Cl}{q:Nat} (hq:q<=10000) (hl:(y::r).length<=6) (hc:zap b q 24=0):
  FnD Tryz.prog 119 [.ref 900 0,.d (zbI (y::r))] [(900,some (rdB b q))] (.d (zbI (mutC b (y::r) q).1)) [(900,some (rdB b (mutC b (y::r) q).2))]:=by
 have hrl:((y::r).map Cl.c).length=(r.map Cl.c).length+1:=rfl;rw[zyn hc];refine bd Tryz.f119 56 [] [999999] fun w0 F0 own kept hk=>?_;refine xbi 1 sl26 .none rfl rfl ?_;refine ev ?_;refine xaC hk rfl (by simp) sl26 zz40 .none rfl rfl rfl rfl (zdq rfl (by rfl)) (by exact ziQ _) (by simp at *;omega) (by simp at *;omega) ?_;refine ev ?_;refine wd zch (zaS (p:=q) (n:=24) hb (by omega) (by omega)) rfl rfl ⟨rfl,trivial⟩ ?_;refine tv ?_;refine sq ?_ ?_<;>intro h1 h1p h1s;refine sq ?_ ?_<;>intro h2 h2p h2s;refine si [0,1,2,3] [_,_,_,_] sl29 tz3 ?_;refine wd zd4 (zbX (p:=q+1) (l:=[1,2,3,-1]) hb (by omega) (by simp) (by simp)) rfl rfl ⟨rfl,trivial⟩ ?_;refine ev ?_;refine si [0,1,2] [_,_,_] sl29 tz3 ?_;refine wd zd4 (zbX (p:=q+2) (l:=[0,5,9]) hb (by omega) (by simp) (by simp)) rfl rfl ⟨rfl,trivial⟩ ?_;refine ev ?_;refine si [0,1,2] [_,_,_] sl29 tz3 ?_;refine wd zd4 (zbX (p:=q+3) (l:=[3,10,-1]) hb (by omega) (by simp) (by simp)) rfl rfl ⟨rfl,trivial⟩ ?_;refine bu [0,1,2] [_,_,_] st38 ?_;refine xaY (i:=0) sl26 .none rfl rfl rfl rfl (by first|(simp;done)|(simp;omega)) ?_;refine ev ?_;refine Walk.store ty38 .none rfl rfl rfl rfl rfl rfl (by simp) ((putG)) ?_;refine tv ?_;refine CWp.frz hk 4 1 _ _ rfl rfl (by rw[List.nil_append,hrl];exact zqL rfl rfl (ziQ r)) rfl ?_;refine CWp.ret ?_;refine rn [(900,some (rdB b (q+4)))] (r1 rfl) (.eqd ?_) ⟨rfl,rfl⟩ (SubO.get ⟨.inr ?_,⟨.inl rfl,trivial⟩⟩) (zay rfl);rotate_left 2;try simp only[Q,Int.natCast_inj] at h2p
 exfalso;rw[List.nil_append,hrl] at h2p;omega;try simp only[Q,Int.natCast_inj] at h1p
 exfalso;omega;all_goals (first|((rfl);done)|(rfl))
theorem znX {b:Str} (hb:b.length<=2000){y:Cl}{r:List Cl}{q:Nat} (hq:q<=10000) (hl:(y::r).length<=6) (hsm:y.pat.size<=400/\y.pat.ok) (hc:zap b q 24=1):
  FnD Tryz.prog 119 [.ref 900 0,.d (zbI (y::r))] [(900,some (rdB b q))] (.d (zbI (mutC b (y::r) q).1)) [(900,some (rdB b (mutC b (y::r) q).2))]:=by
 have hrl:((y::r).map Cl.c).length=(r.map Cl.c).length+1:=rfl;rw[zyo hc];have h1:=zoC (b:=b) (p:=y.pat) (q:=q+1) (m:=400) hsm.1 (by omega) hsm.2;have h2:=zrm b y.pat (q+1);have i1:=zhY hb (p:=y.pat) (q:=q+1) (by omega) hsm.2;have i2:=zhY hb (p:=(mutP b y.pat (q+1)).1) (q:=(mutP b y.pat (q+1)).2) (by omega) h1.2;generalize mutP b y.pat (q+1)=z at *;generalize mutP b z.1 z.2=z2 at *;refine bd Tryz.f119 56 [40] [999999] fun w0 F0 own kept hk=>?_;refine xbi 1 sl26 .none rfl rfl ?_;refine evs [40] [] ?_;refine xaC hk rfl (by simp) sl26 zz40 .none rfl rfl rfl rfl (zdq rfl (by rfl)) (by exact ziQ _) (by simp at *;omega) (by simp at *;omega) ?_;refine evs [40] [] ?_;refine wd zch (zaS (p:=q) (n:=24) hb (by omega) (by omega)) rfl rfl ⟨rfl,trivial⟩ ?_;refine tv ?_;refine sq ?_ ?_<;>intro h1 h1p h1s;try simp only[Q,Int.natCast_inj] at h1p
 exfalso;omega;refine sq ?_ ?_<;>intro h2 h2p h2s;refine sq ?_ ?_<;>intro h3 h3p h3s;refine xaY (i:=0) sl26 .none rfl rfl rfl rfl (by first|(simp;done)|(simp;omega)) ?_;refine evs [40] [] ?_;refine xa1 ty36 .none rfl rfl rfl ((zyF)) ?_;refine wd ztG (i1) rfl rfl ⟨rfl,trivial⟩ ?_;refine wd ztG (i2) rfl rfl ⟨rfl,trivial⟩ ?_;refine xaY (i:=0) sl26 .none rfl rfl rfl rfl (by first|(simp;done)|(simp;omega)) ?_;refine evs [40] [] ?_;refine Walk.store ty36 .none rfl rfl rfl rfl rfl rfl (by simp) ((zyK)) ?_;refine tv ?_;refine CWp.frz hk 4 1 _ _ rfl rfl (by rw[List.nil_append,hrl];exact zqL rfl rfl (ziQ r)) rfl ?_;refine CWp.ret ?_;refine rn [(900,some (rdB b z2.2))] (r1 rfl) (.eqd ?_) ⟨rfl,rfl⟩ (SubO.get ⟨.inr ?_,⟨.inl rfl,trivial⟩⟩) (zay rfl);rotate_left 2;try simp only[Q,Int.natCast_inj] at h3p
 exfalso;rw[List.nil_append,hrl] at h3p;omega;try simp only[Q,Int.natCast_inj] at h2p
 exfalso;omega;all_goals (first|((rfl);done)|(rfl))
theorem zmv {b:Str} (hb:b.length<=2000){l:List Cl}{q:Nat} (hq:q<=10000) (hl:l.length<=6) (hs:CSm l):
  FnD Tryz.prog 119 [.ref 900 0,.d (zbI l)] [(900,some (rdB b q))] (.d (zbI (mutC b l q).1)) [(900,some (rdB b (mutC b l q).2))]:=by
 cases l with
 |nil=>exact zir hb hq hl (fun h=>h.2 rfl)
 |cons y r=>
  by_cases h0:zap b q 24=0
  ·exact znW hb hq hl h0
  ·by_cases h1:zap b q 24=1
   ·exact znX hb hq hl (hs y (by simp)) h1
   ·exact zir hb hq hl (fun h=>by rcases h.1 with h|h;exact h0 h;exact h1 h)
def rcW (b:Str):List Data:=zbJ b 0
def rcT (b:Str):Ty:=typT b 0
theorem zoS {b:Str}{w:List Data} (hb:b.length<=2000) (hw:WT w) (hf:Few w){a k:Int}{p:Nat} (hp:p<=90000) (ht:TyIn w.length ⟨a,k⟩):
  FnD Tryz.prog 214 [.ref 900 0,.d (zah w),.agg [.d (.i a),.d (.i k)]] [(900,some (rdB b p))] (.gl 1 ((clS b w ⟨a,k⟩ p).1.map Cl.c)) [(900,some (rdB b (clS b w ⟨a,k⟩ p).2)),(1,some (.tok ((clS b w ⟨a,k⟩ p).1.map Cl.c).length 9))]:=by
 have h6:=num6 b p;have hnu:=zbX (b:=b) (p:=p) (l:=[3,2,4,5,1,0]) hb (by omega) (by simp) (by simp);have hok:=fun q=>zuf (b:=b) hf ht q;unfold clS;obtain⟨n0,hn0⟩:∃n:Nat,numV b p [3,2,4,5,1,0]=(n:Int):=⟨_,(Int.toNat_of_nonneg h6.1).symm⟩;rw[hn0] at h6 hnu ⊢;rw[Int.toNat_natCast];refine bd Tryz.f214 25 [] [] fun w0 F0 own kept hk=>?_;refine bx 3005 ?_;refine ev ?_;refine xbh 1 sl26 .none rfl rfl ?_;refine ev ?_;refine si [0,1,2,3,4,5] [_,_,_,_,_,_] sl29 tz3 ?_;refine wd zd4 (hnu) rfl rfl ⟨rfl,trivial⟩ ?_;refine ev ?_;refine xak (ι:=Nat×List Cl×Nat) hk (fun x=>[(8,.d (.i (x.1:Int))),(7,.gl 1 (x.2.1.map Cl.c))]) [13,14,15,16,17,18,19,20,21,22,23] (fun x=>[(900,some (.box [.d (zcx b),.d (.i (x.2.2:Int))])),(1,some (.tok ((x.2.1.map Cl.c)).length 9))]) (fun x=>x.1<=n0/\x.2.2+518*x.1<=p+1+518*n0/\x.2.1.length+x.1<=5/\(x.2.1++(clL b w ⟨a,k⟩ x.1 x.2.2).1,(clL b w ⟨a,k⟩ x.1 x.2.2).2)=clL b w ⟨a,k⟩ n0 (p+1)) (fun x=>x.1) (n0,[],p+1) ⟨by simp,by simp,by simp;omega,by simp⟩ ⟨⟨_,rfl,xaq ?_⟩,⟨⟨_,rfl,LeA.glg ?_⟩,trivial⟩⟩ ⟨?_,⟨zab ?_,trivial⟩⟩ (fun x=>rfl) (fun x hg1=>?_);iterate 2 focus (rfl)
 focus (first|rfl|(simp[getH];done))
 focus (rfl)
 refine evc [] [] ?_;refine sq ?_ ?_<;>intro h1 h1p h1s<;>(try simp only[Q,Int.natCast_inj] at h1p);refine wd zxR (zmu (p:=x.2.2) hb hw hf (by omega) ht) rfl rfl ⟨rfl,trivial⟩ ?_;refine si [0] [_] sl26 tz40 ?_;refine Walk.append sl26 zz40 rfl .none rfl rfl rfl rfl (zdq rfl (by rfl)) (by intro y hy;simp at hy;subst hy;rfl) (by simp;omega) (by simp;omega) ?_;refine ev ?_;refine ar ?_;refine xah ((x.1-1,x.2.1++[(clD b w ⟨a,k⟩ x.2.2).1],(clD b w ⟨a,k⟩ x.2.2).2)) ⟨⟨by dsimp only;omega,by have:=hok x.2.2;dsimp only;omega,by simp;omega,by rw[<-hg1.2.2.2];obtain⟨m,hm⟩:∃m,x.1=m+1:=⟨x.1-1,by omega⟩;dsimp only;rw[hm];simp[clL]⟩,(by dsimp only;omega),sx ⟨⟨_,rfl,xaq ?_⟩,⟨⟨_,rfl,LeA.glg ?_⟩,trivial⟩⟩ ⟨?_,⟨zab ?_,trivial⟩⟩⟩;iterate 2 focus (first|omega|(simp;done))
 focus (first|rfl|(simp[getH];done))
 focus ((simp;done))
 refine rn [(900,some (rdB b (clL b w ⟨a,k⟩ n0 (p+1)).2)),(1,some (.tok ((clL b w ⟨a,k⟩ n0 (p+1)).1.map Cl.c).length 9))] (r1 rfl) (.glg ?_) ⟨rfl,rfl⟩ (SubO.get ⟨.inr ?_,⟨.inr ?_,⟨.inl rfl,trivial⟩⟩⟩) (zay rfl);rotate_left 3;all_goals (((first|rfl|(rw[<-hg1.2.2.2,show x.1=0 by omega];simp[clL];done)|(rw[<-hg1.2.2.2,show x.1=0 by omega,clL];all_goals rfl)|(have hz:=hg1.2.2.2;rw[show x.1=0 by omega] at hz;simp only[clL,List.append_nil] at hz;rw[<-hz];all_goals rfl));done))
theorem znY {b:Str} (hb:b.length<=2000):
  FnD Tryz.prog 117 [.ref 900 0] [(900,some (rdB b 0))] (.tup [.d (zah (zbJ b 0)),.agg [.d (.i (typT b 0).data),.d (.i (typT b 0).index)],.gl 1 ((rnL b).1.map Cl.c),.agg [.d (.i (typV b 0).1.ctor),.d (.i (typV b 0).1.num),.d (zaW (typV b 0).1.kids)]]) [(900,some (rdB b (rnL b).2)),(1,some (.tok ((rnL b).1.map Cl.c).length 9))]:=by
 have hl:=zfZ b 0;have hv:=(zsX b 0).1;have hty:=znR (p:=0) hb (by omega);have hcl:=zoS (p:=(typV b 0).2) (a:=(typT b 0).data) (k:=(typT b 0).index) hb hl.dp.wt hl.few (by omega) (zrW b 0);rw[show clS b (zbJ b 0) ⟨(typT b 0).data,(typT b 0).index⟩ (typV b 0).2=rnL b from rfl] at hcl;generalize rnL b=z at *;refine bd Tryz.f117 22 [] [] fun w0 F0 own kept hk=>?_;refine ab 3003 tz25 ?_;refine ev ?_;refine ab 3005 tz49 ?_;refine tv ?_;refine wd zxx (hty) rfl rfl ⟨rfl,trivial⟩ ?_;refine ev ?_;refine ab 3007 tz25 ?_;refine ab 3008 tz49 ?_;refine ev ?_;refine so ty25 ?_;refine so ty49 ?_;refine tv ?_;refine Walk.call (cr:=[1]) zxy (hcl) rfl .none rfl rfl (LeL.refl _) ⟨rfl,trivial⟩ rfl rfl rfl ?_;refine evd [] [] ?_;refine so ty25 ?_;refine evd [] [] ?_;refine so ty49 ?_;refine dr ?_;focus (refine rn [(900,some (rdB b z.2)),(1,some (.tok (z.1.map Cl.c).length 9))] (.cons (.tmp rfl) (.cons (.cellA ty25 rfl rfl rfl) (.cons (.tmp rfl) (.cons (.cellA ty49 rfl rfl rfl) .nil)))) (.tup (.cons (.eqd ?_) (.cons (.agg (.cons (.eqd ?_) (.cons (.eqd ?_) .nil))) (.cons (.glg ?_) (.cons (.agg (.cons (.eqd ?_) (.cons (.eqd ?_) (.cons (.eqd ?_) .nil)))) .nil))))) ⟨rfl,rfl⟩ (SubO.get ⟨.inr (by rfl),⟨.inr (by rfl),⟨.inl rfl,trivial⟩⟩⟩) (zay rfl);all_goals (rfl))
def dmL (b:Str):List Cl×Nat:=if (rnL b).1.length=0 then rnL b else if zap b (rnL b).2 4=0 then ((rnL b).1++[anyC],(rnL b).2+1) else ((rnL b).1,(rnL b).2+1)
theorem zup (b:Str):(dmL b).2<=2701/\(dmL b).1.length<=6/\CSm (dmL b).1:=by
 have h:=zuP b;unfold dmL;split
 ·exact⟨by omega,by omega,h.2.2⟩
 ·split
  ·refine⟨by dsimp only;omega,by simp;omega,fun c hc=>?_⟩;rcases List.mem_append.1 hc with hc|hc
   ·exact h.2.2 c hc
   ·rw[List.mem_singleton.1 hc];exact⟨by rw[Pat.size_eq];exact(by decide:1+0<=400),by rw[Pat.ok_iff];exact⟨by simp[anyC,Pat.kids],trivial⟩⟩
  ·exact⟨by dsimp only;omega,by dsimp only;omega,h.2.2⟩
def dmC (b:Str):List Cl:=(mutC b (dmL b).1 (dmL b).2).1
theorem zyg (b:Str):(dmC b).length<=9/\∀c∈dmC b,c.pat.size<=4000/\c.pat.ok:=by
 have h:=zup b;exact(zwR h.2.2 h.2.1).2
theorem zwF (b:Str):ClsOk (dmC b)/\ClsSz (dmC b):=by
 have h:=zyg b;exact⟨⟨by have:=h.1;omega,fun c hc=>(h.2 c hc).2⟩,fun c hc=>by have:=(h.2 c hc).1;omega⟩
theorem zgH {b:Str} (hb:b.length<=1000000000000):
  FnD Tryz.prog 56 [.d (zcx b)] [] (.tup [.d (zah (rcW (b.take 2000))),.agg [.d (.i (rcT (b.take 2000)).data),.d (.i (rcT (b.take 2000)).index)],.d (zbI (dmC (b.take 2000)))]) []:=by
 have hop:=znK hb;have hb2:(b.take 2000).length<=2000:=by rw[List.length_take];omega
 generalize b.take 2000=e at *;have hr:=zuP e;have hd:=zup e;have hty:=znY hb2;have hpk:=zaS (b:=e) (p:=(rnL e).2) (n:=4) hb2 (by omega) (by omega);have hmu:=zmv hb2 (l:=(dmL e).1) (q:=(dmL e).2) (by omega) hd.2.1 hd.2.2;have e0:(rnL e).1.length=0->dmL e=rnL e:=fun h=>by unfold dmL;rw[if_pos h]
 have e1:(rnL e).1.length≠0->zap e (rnL e).2 4=0->dmL e=((rnL e).1++[anyC],(rnL e).2+1):=fun h h2=>by unfold dmL;rw[if_neg h,if_pos h2]
 have e2:(rnL e).1.length≠0->zap e (rnL e).2 4≠0->dmL e=((rnL e).1,(rnL e).2+1):=fun h h2=>by unfold dmL;rw[if_neg h,if_neg h2]
 rw[show(mutC e (dmL e).1 (dmL e).2).1=dmC e from rfl] at hmu;generalize (mutC e (dmL e).1 (dmL e).2).2=q1 at *;generalize dmC e=l1 at *;by_cases h0:(rnL e).1.length=0
 ·rw[e0 h0] at hmu;clear e0 e1 e2 hd;generalize rnL e=z at *;refine bd Tryz.f56 37 [] [] fun w0 F0 own kept hk=>?_;refine ab 3003 tz25 ?_;refine ev ?_;refine Walk.call (cr:=[900]) zs0 (hop) rfl .none rfl rfl (LeL.refl _) trivial rfl (by rfl) (by rfl) ?_;refine ev ?_;refine Walk.call (cr:=[1]) zqo (hty) rfl .none rfl rfl (LeL.refl _) ⟨rfl,trivial⟩ rfl rfl rfl ?_;refine ev ?_;refine ab 3007 tz25 ?_;refine ab 3009 tz49 ?_;refine ev ?_;refine so ty25 ?_;refine ev ?_;refine so ty49 ?_;refine tv ?_;refine sq ?_ ?_<;>intro h1 h1p h1s;try simp only[Q,Int.natCast_inj,xac] at h1p
  focus (exfalso;omega)
  refine sqF ?_;refine Walk.call (cr:=[]) zqq (hmu) rfl .none rfl rfl (.cons (.refl _) (.cons (.gl _ _) .nil)) ⟨rfl,trivial⟩ rfl rfl rfl ?_;refine evd [] [] ?_;refine so ty25 ?_;refine evd [] [] ?_;refine dr ?_;focus (refine rn0 (.cons (.tmp rfl) (.cons (.cellA ty25 rfl rfl rfl) (.cons (.tmp rfl) .nil))) (.tup (.cons (.eqd ?_) (.cons (.agg (.cons (.eqd ?_) (.cons (.eqd ?_) .nil))) (.cons (.eqd ?_) .nil))));all_goals (rfl))
 by_cases h1:zap e (rnL e).2 4=0
 ·rw[e1 h0 h1] at hmu;rw[show zbI ((rnL e).1++[anyC]) = .sl ((rnL e).1.map Cl.c++[Cl.c anyC]) by show D.sl (((rnL e).1++[anyC]).map Cl.c)=_;rw[xaf];rfl] at hmu;clear e0 e1 e2 hd;generalize rnL e=z at *;refine bd Tryz.f56 37 [] [] fun w0 F0 own kept hk=>?_;refine ab 3003 tz25 ?_;refine ev ?_;refine Walk.call (cr:=[900]) zs0 (hop) rfl .none rfl rfl (LeL.refl _) trivial rfl (by rfl) (by rfl) ?_;refine ev ?_;refine Walk.call (cr:=[1]) zqo (hty) rfl .none rfl rfl (LeL.refl _) ⟨rfl,trivial⟩ rfl rfl rfl ?_;refine ev ?_;refine ab 3007 tz25 ?_;refine ab 3009 tz49 ?_;refine ev ?_;refine so ty25 ?_;refine ev ?_;refine so ty49 ?_;refine tv ?_;refine sq ?_ ?_<;>intro h1 h1p h1s;refine Walk.call (cr:=[]) zch (hpk) rfl (.some rfl rfl h1) rfl rfl (LeL.refl _) ⟨rfl,trivial⟩ rfl rfl rfl ?_;refine evs [] [(22,true)] ?_ ⟨⟨_,rfl,h1⟩,trivial⟩;refine sq ?_ ?_<;>intro h2 h2p h2s;refine wc zqp (zgX) rfl rfl ?_;refine bu [0] [_] st40 ?_;refine si [0] [_] sl26 tz40 ?_;refine Walk.append sl26 zz40 rfl .none rfl rfl rfl rfl (zdq rfl (by rfl)) (by intro x hx;simp at hx;subst hx;rfl) (by simp;omega) (by simp;omega) ?_;refine ev ?_;refine Walk.call (cr:=[]) zqq (hmu) rfl .none rfl rfl (.cons (.refl _) (.cons (.gl _ _) .nil)) ⟨rfl,trivial⟩ rfl rfl rfl ?_;refine evd [] [] ?_;refine so ty25 ?_;refine evd [] [] ?_;refine dr ?_;focus (refine rn0 (.cons (.tmp rfl) (.cons (.cellA ty25 rfl rfl rfl) (.cons (.tmp rfl) .nil))) (.tup (.cons (.eqd ?_) (.cons (.agg (.cons (.eqd ?_) (.cons (.eqd ?_) .nil))) (.cons (.eqd ?_) .nil))));all_goals (rfl))
  try simp only[Q,Int.natCast_inj,xac] at h2p
  exfalso;contradiction;try simp only[Q,Int.natCast_inj,xac] at h1p
  focus (exfalso;omega)
 ·rw[e2 h0 h1] at hmu;clear e0 e1 e2 hd;generalize rnL e=z at *;refine bd Tryz.f56 37 [] [] fun w0 F0 own kept hk=>?_;refine ab 3003 tz25 ?_;refine ev ?_;refine Walk.call (cr:=[900]) zs0 (hop) rfl .none rfl rfl (LeL.refl _) trivial rfl (by rfl) (by rfl) ?_;refine ev ?_;refine Walk.call (cr:=[1]) zqo (hty) rfl .none rfl rfl (LeL.refl _) ⟨rfl,trivial⟩ rfl rfl rfl ?_;refine ev ?_;refine ab 3007 tz25 ?_;refine ab 3009 tz49 ?_;refine ev ?_;refine so ty25 ?_;refine ev ?_;refine so ty49 ?_;refine tv ?_;refine sq ?_ ?_<;>intro h1 h1p h1s;refine Walk.call (cr:=[]) zch (hpk) rfl (.some rfl rfl h1) rfl rfl (LeL.refl _) ⟨rfl,trivial⟩ rfl rfl rfl ?_;refine evs [] [(22,true)] ?_ ⟨⟨_,rfl,h1⟩,trivial⟩;refine sq ?_ ?_<;>intro h2 h2p h2s;try simp only[Q,Int.natCast_inj,xac] at h2p
  exfalso;contradiction;refine Walk.call (cr:=[]) zqq (hmu) rfl .none rfl rfl (.cons (.refl _) (.cons (.gl _ _) .nil)) ⟨rfl,trivial⟩ rfl rfl rfl ?_;refine evd [] [] ?_;refine so ty25 ?_;refine evd [] [] ?_;refine dr ?_;focus (refine rn0 (.cons (.tmp rfl) (.cons (.cellA ty25 rfl rfl rfl) (.cons (.tmp rfl) .nil))) (.tup (.cons (.eqd ?_) (.cons (.agg (.cons (.eqd ?_) (.cons (.eqd ?_) .nil))) (.cons (.eqd ?_) .nil))));all_goals (rfl))
  try simp only[Q,Int.natCast_inj,xac] at h1p
  focus (exfalso;omega)
theorem zhW {b:Str} (hb:b.length<=1000000000000):
  FnD Tryz.prog 23 [.d (zcx b)] [] (.tup [.d (zah (rcW (b.take 2000))),.agg [.d (.i (rcT (b.take 2000)).data),.d (.i (rcT (b.take 2000)).index)],.d (zbI (dmC (b.take 2000)))]) []:=by
 refine bd Tryz.f23 10 [] [] fun w0 F0 own kept hk=>?_;refine ab 3003 tz25 ?_;refine ev ?_;refine wc zyy (zgH hb) rfl rfl ?_;refine ev ?_;refine so ty25 ?_;refine ev ?_;refine rn0 (.cons (.tmp rfl) (.cons (.cellA ty25 rfl rfl rfl) (.cons (.tmp rfl) .nil))) (.tup (.cons (.eqd ?_) (.cons (.agg (.cons (.eqd ?_) (.cons (.eqd ?_) .nil))) (.cons (.eqd ?_) .nil))));rotate_left 4;all_goals (rfl)
end Go.Proofs.YtlfipehhbdjnjaaGreat
namespace Go.Proofs.YtlfipehhbdjnjaaGreat
open Go
set_option linter.unusedSimpArgs false
set_option linter.unusedVariables false
section
variable {c:Ctx}{all:Array Oper}{chk:List Rec->Prop}{os:List Oper}{recs:List Rec}{env:Env}{hp:Hp}{Q:St->Prop}
variable {ty:Nat}{pos:String}{af:Array Edge}{g:Option (Nat×Bool)}{pg:List (Nat×AV)}{t:TypeId}{x:Operand}
theorem Walk.clearB {id off n k e yb:Nat}{cs cs' zs:List AV} (ht:SlT c.P t e k yb) (hz:TyZ c.P e k zs) (hzk:zs.length=k) (hk:0<k) (h1:ziK zs=true) (hg:GH all env g pg) (hx:opd env x=some (.mo id off n))
  (hb:getH hp id=some (.box cs)) (hput:putC cs off (za7 n zs)=some cs')
  (hn:Walk c all chk os (zao (pg++opF x (.mo id off n)) [(id,.box cs)] [] ⟨none,[(id,some (.box cs'))]⟩::recs) ⟨env,(id,some (.box cs'))::hp⟩ Q):
  Walk c all chk (⟨none,.call ⟨.builtin .clear,#[x],#[t]⟩,ty,pos,af,g⟩::os) recs ⟨env,hp⟩ Q:=by
 refine⟨pg++opF x (.mo id off n),[(id,.box cs)],[],_, ?_,zaA hg.facts (za9 hx),hh1 hb,by simp,hn⟩;intro s a w hrel hp' hh _ K Q' hK;obtain⟨G,hr⟩:=hrel;have hbx:=hh1' hh;have e1:=hr.opd (zba hx (fun p hm=>hp' p (by simp[hm])));obtain⟨bl,o,cap,hl,he,hcap,ho⟩:=e1.mo_eq;obtain⟨b',us,et,h2,h3,h4,h5,h6⟩:=hr.heap id _ hbx;obtain rfl:=zc8 hl.1 h2;have hall:PreR G (tokf s.hp) w cs us:=⟨h4,h6⟩;unfold wpO;rw[if_pos (hg.gf.wanted hr (fun p hm=>hp' p (by simp[hm])))];unfold Oper.wp;rcases Nat.eq_zero_or_pos n with hn0|hn0
 ·subst hn0;have hcs:cs'=cs:=by
   simp only[za7] at hput;cases cs<;>simp only[putC,Option.some.injEq] at hput<;>exact hput.symm
  subst hcs;have hrun:(execOp a.eval ⟨none,.call ⟨.builtin .clear,#[x],#[t]⟩,ty,pos,af,g⟩).run c.P w = .ok (.value (.tuple #[])) w:=by
   simp[execOp,resolve,invoke,builtin,he,Builtin.clear_,run_underlying ht.und]
  rw[hrun,Oper.upon_value];refine hK _ _ ⟨G, ?_⟩;have hsame:∀i,getH ((id,some (Res.box cs'))::s.hp) i=getH s.hp i:=fun i=>by
   rw[zam];split
   ·rename_i e;subst e;exact hbx.symm
   ·rfl
  have htk:tokf ((id,some (Res.box cs'))::s.hp)=tokf s.hp:=by funext i;unfold tokf;rw[hsame]
  have:R c G ⟨s.env,(id,some (Res.box cs'))::s.hp⟩ a w:=
   ⟨hr.size,hr.defers,fun i v h=>by rw[htk];exact hr.slots i v h,fun i r h=>by rw[htk];exact hr.heap i r (by rw[<-hsame];exact h),
   fun i j h1 h2=>hr.disj i j (by rw[<-hsame];exact h1) (by rw[<-hsame];exact h2),fun i h=>hr.new i (by rw[<-hsame];exact h),hr.frm,hr.top,
   fun i l h'=>by
    show(G.loc i).head?=l.head?/\(getH ((id,some (Res.box cs'))::s.hp) i).isSome/\tokf ((id,some (Res.box cs'))::s.hp) i=none
    rw[hsame,htk];exact hr.kept i l h'⟩
  exact this.putNone
 ·obtain rfl:o=off:=ho.resolve_left (by omega);obtain⟨ie,z,z1,z2,z3,z4⟩:=hz.inf;have hz0:=zb8 (G:=G) (T:=tokf s.hp) (w:=w) z4;have hzr:=zft (by simpa using hz0) n (by omega);have hzs:z.cells.size=k:=by have:=hz0.size;simp at this;omega
  let vl:List Value:=(Builtin.zeroCells z.cells n).toList
  have hvl:vl.toArray=(Array.range (n*zs.length)).map (z.cells[· % z.cells.size]!):=by
   simp only[vl,Builtin.zeroCells,Array.toArray_toList];rw[hzs,hzk]
  have hvr:AllR G (tokf s.hp) w (za7 n zs) vl.toArray:=by rw[hvl];exact hzr
  have hne:za7 n zs≠[]:=fun h=>by
   have:=congrArg List.length h;rw[zeW] at this;have h2:0<n*zs.length:=Nat.mul_pos hn0 (by omega);simp only[xai] at this;omega
  obtain⟨p1,p2,p3⟩:=zdu hput;have p2':=p2.resolve_left hne;have hsz:=hvr.size;have hsv:vl.toArray.size=vl.length:=by simp only[List.size_toArray]
  simp only[List.size_toArray] at hsz;have hzone:∀i (hi:i<zs.length) (hv:i<z.cells.size),z.cells[i].oneCell'=true:=fun i hi hv=>by
   have:=hz0.rel i hi (by simpa using hv);simp only[List.getElem_toArray,Array.getElem_toList] at this;exact this.one (zjh h1 _ (List.getElem_mem hi))
  have hst:=run_storeCells_at c.P bl o et vl 0 us w h3 (by omega) (fun u hu=>by
   simp only[vl,Builtin.zeroCells,Array.toList_map,List.mem_map] at hu;obtain⟨i,_,rfl⟩:=hu;have hm:i % z.cells.size<z.cells.size:=Nat.mod_lt _ (by omega);rw[getElem!_pos z.cells _ hm];exact hzone _ (by omega) hm)
  simp only[Nat.add_zero] at hst;have hrow:PreR G (tokf s.hp) w cs' (us.toList.take o++vl++us.toList.drop (o+vl.length)).toArray:=by
   refine hall.put hvr hput ?_ (fun i=>?_)
   ·simp only[List.size_toArray,xaa,List.length_take,List.length_drop,Array.length_toList];omega
   ·simp only[List.getElem?_toArray];rw[List.append_assoc,List.getElem?_append];simp only[List.length_take,Array.length_toList];by_cases hi:i<o
    ·rw[if_pos (by omega),if_neg (by omega)];simp[hi]
    ·rw[if_neg (by omega),List.getElem?_append];have hm:min o us.size=o:=by omega
     rw[hm];by_cases hi2:i<o+vl.length
     ·rw[if_pos (by omega),if_pos (by omega)]
     ·rw[if_neg (by omega),if_neg (by omega)];rw[List.getElem?_drop,show o+vl.length+(i-o-vl.length)=i by omega];simp
  have hrun:(execOp a.eval ⟨none,.call ⟨.builtin .clear,#[x],#[t]⟩,ty,pos,af,g⟩).run c.P w = .ok (.value (.tuple #[])) (w.setRow bl (us.toList.take o++vl++us.toList.drop (o+vl.length)).toArray):=by
   obtain⟨m,rfl⟩:∃m,n=m+1:=⟨n-1,by omega⟩;have hzv:(zeroValue e).run c.P w = .ok z w:=zmk z1 z3;simp only[vl] at hst;simp[execOp,resolve,invoke,builtin,he,Builtin.clear_,run_underlying ht.und,hzv,hst,vl]
  rw[hrun,Oper.upon_value];exact hK _ _ ⟨G,(hr.setBox hbx h2 h3 h5 hrow).putNone⟩
end
theorem zwK {G G':Gh}{T T':TokF}{w:World}{id n k b:Nat}{us:Array Value}{e:TypeId}{x:Value}{cs:List AV}{es:List (List D)} (hx:RelA G T w (.ms id n) x) (h1:G.loc id=[b]) (h2:w.heap[b]?=some (.cells us e (0,0))) (h3:cs.length<=us.size)
  (h5:∀i (hi:i<cs.length) (hv:i<us.size),RelA G T w cs[i] us[i]) (hFb:G'.F b=us.size) (hcell:∀y o,o<G.F y->o<G'.F y/\w.cell? ⟨y,o,none⟩=w.cell? ⟨y,o,none⟩) (hc:zbS n k (cs.take (n*k))=some es):RelA G' T' w (.d (.sl es)) x:=by
 obtain⟨c1,c2,c3,c4⟩:=zea hc;have c3':n*k<=cs.length:=by rw[List.length_take] at c3;omega
 obtain⟨b',cap,hl,he,hcap⟩:=hx.ms_eq;obtain rfl:=(zc8 hl.1 h1).symm;rw[he];refine .d ?_;have hn':n=es.length:=c1.symm;rw[hn'];refine .sl es k b 0 cap (fun x=>us.getD x undef) c2 (by omega) (fun x hx=>?_) (fun i hi j hj=>?_)
 ·have h3':x<cs.length:=by rw[<-c1] at c3';omega
  have hxs:x<us.size:=Nat.lt_of_lt_of_le h3' h3;refine⟨by rw[hFb];omega, ?_⟩;simp[World.cell?,h2,hxs]
 ·have hjk:j<k:=by rw[<-c2 _ (List.getElem_mem hi)];exact hj
  have hltn:i*k+j<n*k:=by
   rw[<-c1];have:(i+1)*k<=es.length*k:=Nat.mul_le_mul_right _ (by omega);rw[Nat.add_mul] at this;omega
  have hlt:i*k+j<cs.length:=by omega
  have hlu:i*k+j<us.size:=by omega
  have h8:=c4 i hi j hj (by rw[List.length_take];omega);rw[List.getElem_take] at h8;have h6:=(h5 _ hlt hlu).toD h8;have h7:us.getD (i*k+j) undef=us[i*k+j]:=by simp[Array.getD,hlu]
  rw[h7];exact h6.mono hcell
def zq3 (env:Env) (hp:Hp) (j:Nat):Bool:=
 (match getH hp j with|none=>true|some _=>false)&&(env.all fun x=>match getE env x.1 with|some v=> !za8 j v.ids|none=>true)&&(hp.all fun x=>match getH hp x.1 with|some r=> !za8 j r.ids|none=>true)
theorem zq5:∀ {env:Env}{i:Nat}{v:AV},getE env i=some v->∃u,(i,u)∈env
 |(k,x)::r,i,v,h=>by
  simp only[getE] at h;cases hb:Nat.beq k i with
  |true=>obtain rfl:=Nat.eq_of_beq_eq_true hb;exact⟨x,by simp⟩
  |false=>
   simp only[hb,cond_false] at h;obtain⟨u,hu⟩:=zq5 h;exact⟨u,List.mem_cons_of_mem _ hu⟩
theorem zr2 {env:Env}{hp:Hp}{j:Nat} (h:zq3 env hp j=true):getH hp j=none/\zdt j ⟨env,hp⟩:=by
 simp only[zq3,xad,List.all_eq_true] at h;obtain⟨⟨h1,h2⟩,h3⟩:=h;refine⟨?_,fun i v hv hm=>?_,fun i r hr hm=>?_⟩
 ·cases hg:getH hp j with
  |none=>rfl
  |some x=>simp[hg] at h1
 ·obtain⟨u,hu⟩:=zq5 hv;have:=h2 _ hu;rw[show getE env (i,u).1=some v from hv] at this;change (!za8 j v.ids)=true at this
  rw[za0.2 hm] at this;cases this
 ·obtain⟨u,hu⟩:=zjw hr;have:=h3 _ hu;rw[show getH hp (i,u).1=some r from hr] at this;change (!za8 j r.ids)=true at this
  rw[za0.2 hm] at this;cases this
theorem CWp.tokDrop {c:Ctx}{env:Env}{hp:Hp}{K:Kt}{code:Code} (t i:Nat){n k:Nat}{xs:List (List D)} (ht:getE env t=some (.gl i xs)) (hi:getH hp i=some (.tok n k))
  (hn:CWp c code ⟨(t,.d (.sl xs))::env,(i,none)::hp⟩ K):CWp c code ⟨env,hp⟩ K:=by
 rintro a w ⟨G,hr⟩
 have g1:∀x,x≠i->getH ((i,none)::hp) x=getH hp x:=fun x h1=>by rw[zam,if_neg h1]
 have gi:getH ((i,none)::hp) i=none:=by rw[zam,if_pos rfl]
 have Ti:tokf hp i=some (n,k):=zax.2 hi;have Ti':tokf ((i,none)::hp) i=none:=by unfold tokf;rw[gi]
 have hT:Turn c G ⟨env,hp⟩ w G ((i,none)::hp) [i]:=by
  refine⟨fun x hx=>?_,fun x hx=>rfl,fun b _=>rfl,fun b o ho=>ho,hr.top,fun x hx=>?_,fun x hx hs b hb=>?_,fun x hx y hy hxy h1 h2 b hb=>?_,fun x hx l hl=>?_⟩
  ·simp only[List.mem_cons,List.not_mem_nil,or_false] at hx;exact g1 x hx
  ·simp only[List.mem_cons,List.not_mem_nil,or_false] at hx;subst hx;exact .inr ⟨.inl rfl,fun p hp'=>by rw[Ti'] at hp';cases hp'⟩
  ·simp only[List.mem_cons,List.not_mem_nil,or_false] at hx;subst hx;rw[gi] at hs;cases hs
  ·simp only[List.mem_cons,List.not_mem_nil,or_false] at hx hy;exact absurd (hx.trans hy.symm) hxy
  ·have hk:=hr.kept x l hl;simp only[List.mem_cons,List.not_mem_nil,or_false] at hx;subst hx;have:=hk.2.2;rw[show tokf (St.mk env hp).hp x=some (n,k) from Ti] at this;cases this
 have hR:=hT.fin hr (fun x hx r hxr=>by
  simp only[List.mem_cons,List.not_mem_nil,or_false] at hx;subst hx;rw[gi] at hxr;cases hxr)
 refine hn a w ⟨G,hR.slot ?_⟩;have hs:=hr.slots t _ ht;cases hs with
 |gl h h2=>exact .d h
theorem R.tokMove {c:Ctx}{G:Gh}{s:St}{a:Act}{w:World} (hr:R c G s a w) (i j:Nat){n k:Nat} (m:Nat) (hi:getH s.hp i=some (.tok n k)) (h0:getH s.hp j=none) (hocc:zdt j s):
  ∃G':Gh,R c G' ⟨s.env,(j,some (.tok m k))::(i,none)::s.hp⟩ a w/\G'.F=G.F/\G'.loc j=G.loc i/\tokf ((j,some (Res.tok m k))::(i,none)::s.hp) j=some (m,k):=by
 have hji:j≠i:=fun e=>by subst e;rw[h0] at hi;cases hi
 have g1:∀x,x≠j->x≠i->getH ((j,some (Res.tok m k))::(i,none)::s.hp) x=getH s.hp x:=fun x h1 h2=>by
  rw[zam,if_neg h1,zam,if_neg h2]
 have gj:getH ((j,some (Res.tok m k))::(i,none)::s.hp) j=some (.tok m k):=by rw[zam,if_pos rfl]
 have gi:getH ((j,some (Res.tok m k))::(i,none)::s.hp) i=none:=by rw[zam,if_neg (fun e=>hji e.symm),zam,if_pos rfl]
 have Ti:tokf s.hp i=some (n,k):=zax.2 hi;have Tj:tokf ((j,some (Res.tok m k))::(i,none)::s.hp) j=some (m,k):=zax.2 gj;have Ti':tokf ((j,some (Res.tok m k))::(i,none)::s.hp) i=none:=by unfold tokf;rw[gi]
 let G':Gh:={ G with loc:=fun x=>bif Nat.beq x j then G.loc i else G.loc x }
 have lj:G'.loc j=G.loc i:=by simp[G']
 have lo:∀x,x≠j->G'.loc x=G.loc x:=fun x h=>by simp[G',zgy h]
 have hsi:(getH s.hp i).isSome:=by rw[hi];rfl
 have hT:Turn c G s w G' ((j,some (Res.tok m k))::(i,none)::s.hp) [i,j]:=by
  refine⟨fun x hx=>?_,fun x hx=>?_,fun b _=>rfl,fun b o ho=>ho,hr.top,fun x hx=>?_,fun x hx hs b hb=>?_,fun x hx y hy hxy h1 h2 b hb=>?_,fun x hx l hl=>?_⟩
  ·simp only[List.mem_cons,List.not_mem_nil,or_false,not_or] at hx;exact g1 x hx.2 hx.1
  ·simp only[List.mem_cons,List.not_mem_nil,or_false,not_or] at hx;exact lo x hx.2
  ·simp only[List.mem_cons,List.not_mem_nil,or_false] at hx;rcases hx with rfl|rfl
   ·exact .inr ⟨.inl (lo _ (fun e=>hji e.symm)),fun p hp'=>by rw[Ti'] at hp';cases hp'⟩
   ·exact .inl hocc
  ·simp only[List.mem_cons,List.not_mem_nil,or_false] at hx;rcases hx with rfl|rfl
   ·rw[gi] at hs;cases hs
   ·exact⟨i,by simp,hsi,by rw[lj] at hb;exact hb⟩
  ·simp only[List.mem_cons,List.not_mem_nil,or_false] at hx hy;rcases hx with rfl|rfl
   ·rw[gi] at h1;cases h1
   ·rcases hy with rfl|rfl
    ·rw[gi] at h2;cases h2
    ·exact absurd rfl hxy
  ·have hk:=hr.kept x l hl;simp only[List.mem_cons,List.not_mem_nil,or_false] at hx;rcases hx with rfl|rfl
   ·have:=hk.2.2;rw[Ti] at this;cases this
   ·have:=hk.2.1;rw[h0] at this;cases this
 have hR:=hT.fin hr (fun x hx r hxr=>by
  simp only[List.mem_cons,List.not_mem_nil,or_false] at hx;rcases hx with rfl|rfl
  ·rw[gi] at hxr;cases hxr
  ·rw[gj] at hxr;cases hxr;intro b hb;rw[lj] at hb;exact hr.heap i _ hi b hb)
 exact⟨G',hR,rfl,lj,Tj⟩
theorem CWp.tokRen {c:Ctx}{env:Env}{hp:Hp}{K:Kt}{code:Code} (t i j:Nat){n k:Nat}{xs:List (List D)} (ht:getE env t=some (.gl i xs)) (hi:getH hp i=some (.tok n k)) (hf:zq3 env hp j=true)
  (hn:CWp c code ⟨(t,.gl j xs)::env,(j,some (.tok n k))::(i,none)::hp⟩ K):CWp c code ⟨env,hp⟩ K:=by
 rintro a w ⟨G,hr⟩
 obtain⟨h0,hocc⟩:=zr2 hf;have Ti:tokf hp i=some (n,k):=zax.2 hi;obtain⟨G',hR,hF,lj,Tj⟩:=hr.tokMove i j n hi h0 hocc;refine hn a w ⟨G',hR.slot ?_⟩;have hs:=hr.slots t _ ht;cases hs with
 |gl h h2=>
  refine .gl (by rw[hF];exact h) (fun n' k' hT'=>?_);have hT2:tokf ((j,some (Res.tok n k))::(i,none)::hp) j=some (n',k'):=hT';rw[Tj] at hT2;cases hT2
  obtain⟨q1,q2⟩:=h2 n k Ti;refine⟨q1,fun hn'=>⟨(q2 hn').1, ?_⟩⟩;have:=(q2 hn').2;unfold Tip at this ⊢;rw[lj,hF];exact this
section
variable {c:Ctx}{all:Array Oper}{chk:List Rec->Prop}{os:List Oper}{recs:List Rec}{env:Env}{hp:Hp}{Q:St->Prop}
variable {d ty:Nat}{pos:String}{af:Array Edge}{g:Option (Nat×Bool)}{pg:List (Nat×AV)}{t:TypeId}{x:Operand}
theorem xaP {id e k yb:Nat} (j:Nat){xs:List (List D)}{o:Operand}{kd:IntKind}{n:Int}{b:Nat} (ht:SlT c.P t e k yb) (hg:GH all env g pg) (hd:Nat.blt d c.n=true)
  (hx:opd env x=some (.gv id xs)) (htok:getH hp id=some (.tok xs.length k)) (ho:opd env o=some (.d (.int kd n))) (hi:n = ↑b) (hb:b<=xs.length) (hpos:0<xs.length) (hf:zaz env hp [j]=true)
  (hn:Walk c all chk os (zao (pg++(opF x (.gv id xs)++opF o (.d (.int kd n)))) [(id,.tok xs.length k)] [j] ⟨some (d,.gv j (xs.take b)),[(j,some (.tok b k)),(id,none)]⟩::recs)
   ⟨(d,.gv j (xs.take b))::env,(j,some (.tok b k))::(id,none)::hp⟩ Q):
  Walk c all chk (⟨some d,.slice t x none (some o) none,ty,pos,af,g⟩::os) recs ⟨env,hp⟩ Q:=by
 refine⟨pg++(opF x (.gv id xs)++opF o (.d (.int kd n))),[(id,.tok xs.length k)],[j],_, ?_,zaA hg.facts (zaA (za9 hx) (za9 ho)),hh1 htok,zbA hf,hn⟩;intro s a w hrel hp' hh hcr K Q' hK;obtain⟨G,hr⟩:=hrel;have e1:=hr.opd (zba hx (fun p hm=>hp' p (by simp[hm])));have e2:=hr.opd (zba ho (fun p hm=>hp' p (by simp[hm])));have htk:=hh1' hh;obtain⟨h0,hocc⟩:=hcr j (by simp);obtain⟨⟨ad,cap0,hv0⟩,hcl⟩:=e1.gv_inv;have Ti:tokf s.hp id=some (xs.length,k):=zax.2 htk;obtain⟨hkx,htip⟩:=(hcl _ _ Ti).2 rfl;rcases htip with ⟨_,q2,_⟩|⟨bl,cap,cs,et,q1,q2,q3,q4,q5,q6,q7⟩
 ·omega
 obtain⟨G',hR,hF,lj,Tj⟩:=hr.tokMove id j b htk h0 hocc;unfold wpO;rw[if_pos (hg.gf.wanted hr (fun p hm=>hp' p (by simp[hm])))];unfold Oper.wp;have hbd:=zeT (P:=c.P) (w:=w) true xs.length cap (lo:=none) (hi:=some (.int kd b)) (a:=0) (b:=b) (.inl ⟨rfl,rfl⟩) (.inr ⟨kd,rfl⟩) (Nat.zero_le _) (by omega);have hrun:(execOp a.eval ⟨some d,.slice t x none (some o) none,ty,pos,af,g⟩).run c.P w = .ok (.value (.slice (some ⟨bl,0,none⟩) b cap)) w:=by
  simp only[execOp,e2.int_eq,hi,q2,Option.map_none,Option.map_some,Instr.sliceAt,Sem.run_bind,run_underlying ht.und,Result.andThen_ok,Instr.slice,hbd,ht.run_size,Sem.run_pure,Nat.zero_mul,Nat.sub_zero,zc3,Nat.zero_add,ite_self]
 rw[hrun,Oper.upon_value];have hl:(xs.take b).length=b:=by rw[List.length_take];omega
 have hA:RelA G' (tokf ((j,some (Res.tok b k))::(id,none)::s.hp)) w (.gv j (xs.take b)) (.slice (some ⟨bl,0,none⟩) b cap):=by
  refine .gv ⟨some ⟨bl,0,none⟩,cap,by rw[hl]⟩ (fun n' k' hT'=>?_);rw[Tj] at hT';cases hT'
  refine⟨by omega,fun _=>⟨fun y hy=>hkx y (List.mem_of_mem_take hy),.inr ⟨bl,cap,cs,et,by rw[lj];exact q1,rfl,by rw[hF];exact q3,q4,q5,by omega,fun i hi' jj hj'=>?_⟩⟩⟩;have hix:i<xs.length:=by rw[hl] at hi';omega
  have h9:=q7 i hix jj (by simpa [List.getElem_take] using hj');rw[hF];simpa [List.getElem_take] using h9
 exact hK _ _ ⟨G',hR.put hA hd⟩
end
theorem FnD.glD {P:Program}{f:FuncId}{i n k:Nat}{args:List AV}{xs:List (List D)} (h:FnD P f args [] (.gl i xs) [(i,some (.tok n k))]):FnD P f args [] (.d (.sl xs)) []:=by
 intro G w vals hok;refine(h G w vals hok).mono ?_;rintro e w' ⟨v,r',hp',G',rfl,⟨rfl,rfl⟩,hret⟩
 refine⟨v,_,_,G',rfl,⟨rfl,rfl⟩, ?_,fun id x hx=>(by cases hx),fun id id' h1=>(by cases h1),fun id h1=>(by cases h1),hret.frm,hret.top,fun id hi=>(by simp[zcj,getH] at hi)⟩;have:=hret.res;cases this with
 |gl h1 h2=>exact .d h1
theorem FnD.gvRen {P:Program}{f:FuncId}{i k:Nat} (j:Nat){args:List AV}{xs:List (List D)} (h:FnD P f args [] (.gv i xs) [(i,some (.tok xs.length k))]):FnD P f args [] (.gv j xs) [(j,some (.tok xs.length k))]:=by
 intro G w vals hok;refine(h G w vals hok).mono ?_;rintro e w' ⟨v,r',hp',G',rfl,⟨rfl,rfl⟩,hret⟩
 have gi:getH ([(i,some (Res.tok xs.length k))]++[]) i=some (.tok xs.length k):=by simp[getH]
 have gj:∀x,(getH ([(j,some (Res.tok xs.length k))]++[]) x).isSome->x=j:=fun x hx=>by
  by_cases e:j=x
  ·exact e.symm
  ·simp[getH,zgy e] at hx
 have Ti:tokf ([(i,some (Res.tok xs.length k))]++[]) i=some (xs.length,k):=zax.2 gi;let G2:Gh:={ G' with loc:=fun x=>G'.loc i }
 refine⟨v,_,_,G2,rfl,⟨rfl,rfl⟩, ?_,fun id x hx=>?_,fun id id' h1 h2 hne=>absurd ((gj id h1).trans (gj id' h2).symm) hne,fun id h1 b hb=>hret.new i (by rw[gi];rfl) b hb,hret.frm,hret.top,fun id hi=>(by simp[zcj,getH] at hi)⟩
 ·have:=hret.res;cases this with
  |gv hv h2=>
   refine .gv hv (fun n' k' hT'=>?_);have hT2:=zax.1 hT';have e1:Res.tok xs.length k=Res.tok n' k':=by simp[getH] at hT2;rw[hT2.1,hT2.2]
   cases e1
   obtain⟨q1,q2⟩:=h2 _ _ Ti;refine⟨q1,fun hn'=>⟨(q2 hn').1, ?_⟩⟩;have:=(q2 hn').2;unfold TipV at this ⊢;exact this
 ·have e1:=gj id (by rw[hx];rfl);subst e1;have e2:x=Res.tok xs.length k:=by simp[getH] at hx;exact hx.symm
  subst e2;intro b hb;exact hret.heap i _ gi b hb
theorem FnD.gvD {P:Program}{f:FuncId}{i k:Nat}{args:List AV}{xs:List (List D)} (h:FnD P f args [] (.gv i xs) [(i,some (.tok xs.length k))]):FnD P f args [] (.d (.sl xs)) []:=by
 intro G w vals hok;refine(h G w vals hok).mono ?_;rintro e w' ⟨v,r',hp',G',rfl,⟨rfl,rfl⟩,hret⟩
 have gi:getH ([(i,some (Res.tok xs.length k))]++[]) i=some (.tok xs.length k):=by simp[getH]
 have Ti:tokf ([(i,some (Res.tok xs.length k))]++[]) i=some (xs.length,k):=zax.2 gi;have hown:∀b,b∉zda G []:=fun b hb=>by simp[zda] at hb
 have hnew:∀b,b∈G'.loc i->w.heap.size<=b:=fun b hb=>(hret.new i (by rw[gi];rfl) b hb).resolve_left (hown b);have hlt:∀b,b∈G'.loc i->b<w'.heap.size:=hret.heap i _ gi;have hres:=hret.res;obtain⟨hv,hcl⟩:=hres.gv_inv;obtain⟨hkx,htip⟩:=(hcl _ _ Ti).2 rfl;rcases htip with ⟨_,q2,q3⟩|⟨bl,cap,cs,et,q1,q2,q3,q4,q5,q6,q7⟩
 ·have hxs:xs=[]:=List.eq_nil_of_length_eq_zero q2;subst hxs;refine⟨v,_,_,G',rfl,⟨rfl,rfl⟩, ?_,fun id x hx=>(by cases hx),fun id id' h1=>(by cases h1),fun id h1=>(by cases h1),hret.frm,hret.top,fun id hi=>(by simp[zcj,getH] at hi)⟩;rw[q3];exact .d .nil
 ·let G2:Gh:={ G' with F:=fun x=>bif Nat.beq x bl then cs.size else G'.F x }
  have hin:G2.F bl=cs.size:=by simp[G2]
  have hout:∀x,x≠bl->G2.F x=G'.F x:=fun x hx=>by simp[G2,zgy hx]
  have hbl:bl∈G'.loc i:=by rw[q1];simp
  have hle:∀b o,o<G'.F b->o<G2.F b:=fun x o ho=>by
   by_cases hx:x=bl
   ·subst hx;rw[q3] at ho;omega
   ·rw[hout x hx];exact ho
  refine⟨v,_,_,G2,rfl,⟨rfl,rfl⟩, ?_,fun id x hx=>(by cases hx),fun id id' h1=>(by cases h1),fun id h1=>(by cases h1), ?_,fun x hx=>?_,fun id hi=>(by simp[zcj,getH] at hi)⟩
  ·rw[q2];have hsz:xs.length*k<=cs.size:=Nat.le_trans (Nat.mul_le_mul_right _ q6) q5;refine .d (.sl xs k bl 0 cap (fun n=>cs.getD n undef) hkx q6 (fun q hq=>⟨by rw[hin];omega, ?_⟩) (fun q hq jj hj=>?_))
   ·have:q<cs.size:=by omega
    simp[World.cell?,q4,this]
   ·exact(q7 q hq jj hj).mono (fun b o ho=>⟨hle b o ho,rfl⟩)
  ·have hf:=hret.frm;exact⟨hf.os,hf.tape,hf.output,hf.size,fun x hx hn=>⟨(hf.block x hx hn).1,by
    rw[hout x (fun e=>by subst e;have:=hnew x hbl;omega)];exact(hf.block x hx hn).2⟩,fun x o ho=>⟨hle x o (hf.cell x o ho).1,(hf.cell x o ho).2⟩⟩
  ·by_cases hx':x=bl
   ·subst hx';have:=hlt x hbl;omega
   ·rw[hout x hx'];exact hret.top x hx
theorem zpP {zs:List AV}:∀ {n i j:Nat},i<n->j<zs.length->(za7 n zs)[i*zs.length+j]?=zs[j]?
 |n+1,0,j,_,hj=>by
  simp only[za7,Nat.zero_mul,Nat.zero_add];rw[List.getElem?_append_left hj]
 |n+1,i+1,j,hi,hj=>by
  simp only[za7];rw[List.getElem?_append_right (by rw[Nat.add_mul];omega),show(i+1)*zs.length+j-zs.length=i*zs.length+j by rw[Nat.add_mul];omega];exact zpP (by omega) hj
section
variable {c:Ctx}
theorem R.freshV {G:Gh}{s:St}{a:Act}{w:World} (hr:R c G s a w){id k nc:Nat}{es:List (List D)}{cells:Array Value}{e:TypeId} (htok:getH s.hp id=some (.tok 0 k)) (hpos:0<es.length)
  (hk:∀x,x∈es->x.length=k) (hcs:cells.size=nc*k) (hn:es.length<=nc)
  (hrow:∀i (hi:i<es.length) j (hj:j<es[i].length),RelD G.F w es[i][j] (cells.getD (i*k+j) undef)):
  ∃G',R c G' { s with hp:=(id,some (.tok es.length k))::s.hp } a (w.drew.alloc (.cells cells e))/\
   RelA G' (tokf ((id,some (.tok es.length k))::s.hp)) (w.drew.alloc (.cells cells e)) (.gv id es) (.slice (some ⟨w.heap.size,0,none⟩) es.length nc):=by
 let G':Gh:={ F:=G.F,loc:=fun j=>bif Nat.beq j id then [w.heap.size] else G.loc j }
 have hlt:∀b o,o<G.F b->b<w.heap.size:=fun b o ho=>by
  rcases Nat.lt_or_ge b w.heap.size with h|h
  ·exact h
  ·rw[hr.top b h] at ho;omega
 have hcell:∀b o,o<G.F b->o<G'.F b/\(w.drew.alloc (.cells cells e)).cell? ⟨b,o,none⟩=w.cell? ⟨b,o,none⟩:=fun b o ho=>by
  have hb:=hlt b o ho;exact⟨ho,by rw[World.cell?_alloc_lt w.drew _ _ hb];rfl⟩
 have hlocne:∀j,j≠id->G'.loc j=G.loc j:=fun j hj=>by
  have:Nat.beq j id=false:=by
   cases h:Nat.beq j id with
   |true=>exact absurd (Nat.eq_of_beq_eq_true h) hj
   |false=>rfl
  simp[G',this]
 have hlocid:G'.loc id=[w.heap.size]:=by simp[G']
 have hT':tokf ((id,some (.tok es.length k))::s.hp) id=some (es.length,k):=zax.2 (by rw[zam,if_pos rfl]);refine⟨G',hr.retok (G':=G') htok hpos hcell hlocne (fun b hb _=>⟨ze0 (w:=w.drew) hb,rfl⟩) (fun b hb=>by rw[hlocid] at hb;simp at hb;subst hb;simp)
  (fun b hb=>by rw[hlocid] at hb;simp at hb;exact .inr (by omega)) rfl rfl rfl (by simp) (fun b hb=>?_), ?_⟩
 ·have hb':w.heap.size+1<=b:=by simpa using hb
  exact hr.top b (by omega)
 refine .gv ⟨_,_,rfl⟩ (fun n' k' hm'=>?_);rw[hT'] at hm';cases hm'
 exact⟨Nat.le_refl _,fun _=>⟨hk,.inr ⟨w.heap.size,nc,cells,e,hlocid,rfl,hr.top _ (Nat.le_refl _),ze7 (w:=w.drew),by rw[hcs];exact Nat.le_refl _,hn,fun i hi j hj=>(hrow i hi j hj).mono hcell⟩⟩⟩
end
section
variable {c:Ctx}{all:Array Oper}{chk:List Rec->Prop}{os:List Oper}{recs:List Rec}{env:Env}{hp:Hp}{Q:St->Prop}
variable {d ty:Nat}{pos:String}{af:Array Edge}{g:Option (Nat×Bool)}{pg:List (Nat×AV)}{t:TypeId}{x y:Operand}
theorem RelA.nils_eq {G:Gh}{T:TokF}{w:World}{v:Value} (h:RelA G T w .nils v):v = .slice none 0 0:=by cases h;rfl
theorem Walk.capN {at_ e k yb:Nat} (ht:SlT c.P at_ e k yb) (hg:GH all env g pg) (hd:Nat.blt d c.n=true) (hx:opd env x=some .nils)
  (hn:Walk c all chk os (zao (pg++opF x .nils) [] [] ⟨some (d,.d (.i 0)),[]⟩::recs) ⟨(d,.d (.i 0))::env,hp⟩ Q):
  Walk c all chk (⟨some d,.call ⟨.builtin .cap,#[x],#[at_]⟩,ty,pos,af,g⟩::os) recs ⟨env,hp⟩ Q:=
 xba hg hd hx (fun a G T w h=>⟨.int .i64 (0:Nat),by
  simp[execOp,resolve,invoke,builtin,h.nils_eq,Builtin.cap_,run_underlying ht.und,goInt],.d (.int _ _)⟩) hn
theorem Walk.cutN_h {e k yb:Nat}{o:Operand}{kd:IntKind} (ht:SlT c.P t e k yb) (hg:GH all env g pg) (hd:Nat.blt d c.n=true)
  (hx:opd env x=some .nils) (ho:opd env o=some (.d (.int kd 0)))
  (hn:Walk c all chk os (zao (pg++(opF x .nils++opF o (.d (.int kd 0)))) [] [] ⟨some (d,.nils),[]⟩::recs) ⟨(d,.nils)::env,hp⟩ Q):
  Walk c all chk (⟨some d,.slice t x none (some o) none,ty,pos,af,g⟩::os) recs ⟨env,hp⟩ Q:=by
 refine xbb hg hd hx ho (fun a G T w h1 h2=>⟨.slice none 0 0, ?_,.nils⟩) hn;have hbd:=zeT (P:=c.P) (w:=w) true 0 0 (lo:=none) (hi:=some (.int kd (0:Nat))) (a:=0) (b:=0) (.inl ⟨rfl,rfl⟩) (.inr ⟨kd,rfl⟩) (Nat.le_refl _) (Nat.le_refl _);have e2:a.eval o = .int kd ((0:Nat):Int):=h2.int_eq;simp only[execOp,e2,h1.nils_eq,Option.map_none,Option.map_some,Instr.sliceAt,Sem.run_bind,run_underlying ht.und,Result.andThen_ok,Instr.slice,hbd,ht.run_size,Sem.run_pure,Nat.zero_mul,Nat.sub_zero,ite_self]
theorem Walk.growZ {e k yb n:Nat} (id:Nat){zs:List AV}{zr:List D}{tn:TypeId}{kn:IntKind}{m:Int} (ht:SlT c.P t e k yb) (htn:c.P.underlying tn=some (.int kn)) (hz:TyZ c.P e k zs) (hzk:zs.length=k) (hk:0<k) (hzr:toDL zs=some zr)
  (hg:GH all env g pg) (hd:Nat.blt d c.n=true) (hx:opd env x=some .nils) (hy:opd env y=some (.d (.i m))) (hm:m = ↑n) (hn0:0<n) (hb:n*yb<=281474976710656) (h63:(n:Int)<=9223372036854775807) (hf:zaz env hp [id]=true)
  (hn:Walk c all chk os (zao (pg++(opF x .nils++opF y (.d (.i m)))) [] [id] ⟨some (d,.gv id (List.replicate n zr)),[(id,some (.tok n k)),(id,some (.tok 0 k))]⟩::recs)
   ⟨(d,.gv id (List.replicate n zr))::env,(id,some (.tok n k))::(id,some (.tok 0 k))::hp⟩ Q):
  Walk c all chk (⟨some d,.call ⟨.builtin .append,#[x,y],#[t,tn]⟩,ty,pos,af,g⟩::os) recs ⟨env,hp⟩ Q:=by
 refine⟨pg++(opF x .nils++opF y (.d (.i m))),[],[id],_, ?_,zaA hg.facts (zaA (za9 hx) (za9 hy)),by simp,zbA hf,hn⟩;intro s a w hrel hp' hh hcr K Q' hK;obtain⟨G,hr⟩:=hrel;have e1:=(hr.opd (zba hx (fun p hm=>hp' p (by simp[hm])))).nils_eq;have e2:=(hr.opd (zba hy (fun p hm=>hp' p (by simp[hm])))).int_eq;obtain⟨h0,hocc⟩:=hcr id (by simp);obtain⟨G1,hr1,_⟩:=hr.mkTokV k h0 hocc;obtain⟨ie,hi1,hi2,hi3⟩:=ht.inf;obtain⟨i',z,z1,z2,z3,z4⟩:=hz.inf;rw[hi1] at z1;cases z1
 have hrun:=Go.Lib.run_append_nil_zeros (P:=c.P) w t tn ty e ie z .i64 kn ht.und htn hi1 z3 n hn0 (by omega) h63 (by rw[hi3];exact hb);have hz0:=zb8 (G:=G1) (T:=tokf ((id,some (.tok 0 k))::s.hp)) (w:=w) z4;have hzz:=zft (by simpa using hz0) n (by omega);obtain⟨c1,c2⟩:=ziv hzr;have hsz:z.cells.size=k:=by have:=hz0.1;simp at this;omega
 have hle:n<=grownCap w n 0 e:=by have:=grownCap_ge w n 0 e;omega
 have ez:Builtin.zeroCells z.cells n=(Array.range (n*zs.length)).map (z.cells[· % z.cells.size]!):=by
  unfold Builtin.zeroCells;rw[hsz,hzk]
 rw[<-ez] at hzz;have hl:(List.replicate n zr).length=n:=List.length_replicate;have hcs:(Builtin.zeroCells z.cells n++Builtin.zeroCells z.cells (grownCap w n 0 e-n)).size=grownCap w n 0 e*k:=by
  simp only[Array.size_append,size_zeroCells,hsz,<-Nat.add_mul];congr 1;omega
 have key:∀i (hi:i<(List.replicate n zr).length) j (hj:j<(List.replicate n zr)[i].length),RelD G1.F w (List.replicate n zr)[i][j] ((Builtin.zeroCells z.cells n++Builtin.zeroCells z.cells (grownCap w n 0 e-n)).getD (i*k+j) undef):=by
  intro i hi j hj;have hi2:i<n:=by simpa using hi
  have hj2:j<zr.length:=by simpa using hj
  have hj3:j<zs.length:=by omega
  have hlt:i*k+j<(Builtin.zeroCells z.cells n).size:=by
   rw[size_zeroCells,hsz];have:(i+1)*k<=n*k:=Nat.mul_le_mul_right _ (by omega);rw[Nat.add_mul] at this;omega
  have hlz:i*k+j<(za7 n zs).length:=by have:=hzz.1;rw[<-this];exact hlt
  have h5:=hzz.2 (i*k+j) hlz hlt;have h6:=zpP (zs:=zs) hi2 hj3;rw[hzk,List.getElem?_eq_getElem hlz,List.getElem?_eq_getElem hj3] at h6;rw[Option.some.inj h6] at h5;have h7:=h5.toD (c2 j hj3 hj2);have e5:(Builtin.zeroCells z.cells n++Builtin.zeroCells z.cells (grownCap w n 0 e-n)).getD (i*k+j) undef=(Builtin.zeroCells z.cells n)[i*k+j]:=by
   rw[Array.getD_eq_getD_getElem?,Array.getElem?_append_left hlt,Array.getElem?_eq_getElem hlt];rfl
  rw[e5];simp only[List.getElem_replicate];exact h7
 obtain⟨G',hR,hA⟩:=hr1.freshV (nc:=grownCap w n 0 e) (e:=e) (es:=List.replicate n zr) (by rw[zam,if_pos rfl]) (by rw[hl];exact hn0) (fun y hy=>by obtain⟨_,rfl⟩:=List.mem_replicate.1 hy;omega) hcs (by rw[hl];exact hle) key;rw[hl] at hR hA;unfold wpO;rw[if_pos (hg.gf.wanted hr (fun p hm=>hp' p (by simp[hm])))];unfold Oper.wp;have:(execOp a.eval ⟨some d,.call ⟨.builtin .append,#[x,y],#[t,tn]⟩,ty,pos,af,g⟩).run c.P w = .ok (.value (.slice (some ⟨w.heap.size,0,none⟩) n (grownCap w n 0 e))) (w.drew.alloc (.cells (Builtin.zeroCells z.cells n++Builtin.zeroCells z.cells (grownCap w n 0 e-n)) e)):=by
  simp only[execOp,resolve,invoke,builtin,Sem.run_bind,Sem.run_pure,Result.andThen_ok,List.map_toArray,xae,List.map_nil,e1,e2,hm,hrun]
 rw[this,Oper.upon_value];exact hK _ _ ⟨G',hR.put hA hd⟩
end
end Go.Proofs.YtlfipehhbdjnjaaGreat
namespace Go.Proofs.YtlfipehhbdjnjaaGreat
open Go
set_option linter.unusedSimpArgs false
set_option linter.unusedVariables false
set_option maxRecDepth 100000
set_option maxHeartbeats 2000000
theorem zei {a b c d e:Int}{l:List Pat}:(Pat.mk a b c d e l).op=a:=rfl
theorem zgf {a b c d e:Int}{l:List Pat}:(Pat.mk a b c d e l).ctor=b:=rfl
theorem mk_n {a b c d e:Int}{l:List Pat}:(Pat.mk a b c d e l).n=c:=rfl
theorem mk_m {a b c d e:Int}{l:List Pat}:(Pat.mk a b c d e l).m=d:=rfl
theorem zi1 {a b c d e:Int}{l:List Pat}:(Pat.mk a b c d e l).var=e:=rfl
theorem zcz {a b c d e:Int}{l:List Pat}:(Pat.mk a b c d e l).kids=l:=rfl
abbrev anyQ:Pat:= .mk 1 0 0 0 0 []
abbrev zwt:Pat:= .mk 0 0 0 0 0 []
mutual
def zaC:Pat->Pat
 | .mk op c n m v ks=>if op=2 then anyQ else if op=6/\ks≠[] then zlo ks else .mk op c n m v (zh8 ks)
def zlo:List Pat->Pat
 | []=>anyQ
 |k::_=>zaC k
def zh8:List Pat->List Pat
 | []=>[]
 |k::r=>zaC k::zh8 r
end
theorem zlW:∀l:List Pat,zh8 l=l.map zaC
 | []=>rfl
 |k::r=>by simp[zh8,zlW r]
theorem zc6 (p:Pat):zaC p=if p.op=2 then anyQ else if p.op=6/\p.kids≠[] then zaC (nth p.kids 0) else .mk p.op p.ctor p.n p.m p.var (p.kids.map zaC):=by
 cases p with|mk op c n m v ks=>
 have e:zaC (.mk op c n m v ks)=if op=2 then anyQ else if op=6/\ks≠[] then zlo ks else .mk op c n m v (zh8 ks):=by conv=>lhs;unfold zaC
 rw[e,zlW];by_cases h2:op=2
 ·rw[if_pos h2];exact(if_pos (c:=(Pat.mk op c n m v ks).op=2) h2).symm
 ·rw[if_neg h2];refine Eq.trans ?_ (if_neg (c:=(Pat.mk op c n m v ks).op=2) h2).symm;by_cases h6:op=6/\ks≠[]
  ·rw[if_pos h6];refine Eq.trans ?_ (if_pos (c:=(Pat.mk op c n m v ks).op=6/\(Pat.mk op c n m v ks).kids≠[]) h6).symm;cases ks with
   |nil=>exact absurd rfl h6.2
   |cons k r=>rfl
  ·rw[if_neg h6];exact(if_neg (c:=(Pat.mk op c n m v ks).op=6/\(Pat.mk op c n m v ks).kids≠[]) h6).symm
def zbb (out:List (List Pat)) (l:List Pat):List (List Pat):=out.flatMap fun q=>l.map fun c=>q++[c]
def zeS (ls:List (List Pat)):List (List Pat):=ls.foldl zbb [[]]
mutual
def zaD:Pat->List Pat
 | .mk op c n m v ks=>if op=5 then zyv ks else (zeS (zlw ks)).map fun l=> .mk op c n m v l
def zyv:List Pat->List Pat
 | []=>[]
 |a::r=>zaD a++zw3 r
def zw3:List Pat->List Pat
 | []=>[]
 |b::_=>zaD b
def zlw:List Pat->List (List Pat)
 | []=>[]
 |k::r=>zaD k::zlw r
end
theorem zn2:∀l:List Pat,zlw l=l.map zaD
 | []=>rfl
 |k::r=>by simp[zlw,zn2 r]
theorem zd2 {p:Pat} (h:p.op≠5):zaD p=(zeS (p.kids.map zaD)).map fun l=> .mk p.op p.ctor p.n p.m p.var l:=by
 cases p with|mk op c n m v ks=>
 have h':¬op=5:=h;conv=>lhs;unfold zaD
 rw[if_neg h',zn2];rfl
theorem zgn {p:Pat} (h:p.op=5) (hk:p.kids.length=2):zaD p=zaD (nth p.kids 0)++zaD (nth p.kids 1):=by
 cases p with|mk op c n m v ks=>
 have h':op=5:=h;conv=>lhs;unfold zaD
 rw[if_pos h'];have hk':ks.length=2:=hk;match ks,hk' with
 | [a,b],_=>rfl
mutual
def cntS:Pat->Int
 | .mk op _ _ _ _ ks=>if op=5 then cntO ks 0 else cntM ks 1
def cntO:List Pat->Int->Int
 | [],n=>n
 |k::r,n=>cntO r (cap (n+cntS k))
def cntM:List Pat->Int->Int
 | [],n=>n
 |k::r,n=>cntM r (cap (n*cntS k))
end
theorem zol (p:Pat):cntS p=if p.op=5 then cntO p.kids 0 else cntM p.kids 1:=by
 cases p with|mk op c n m v ks=>
 conv=>lhs;unfold cntS
 rfl
mutual
theorem zok:∀p:Pat,0<=cntS p/\cntS p<=401
 | .mk op _ _ _ _ ks=>by
  unfold cntS;split
  ·exact zst ks 0 (by omega) (by omega)
  ·exact zsr ks 1 (by omega) (by omega)
theorem zst:∀(l:List Pat) (n:Int),0<=n->n<=401->0<=cntO l n/\cntO l n<=401
 | [],n,h1,h2=>⟨h1,h2⟩
 |k::r,n,h1,h2=>by
  unfold cntO;have h3:=zok k;have h4:=zmQ (x:=n+cntS k) (by omega);exact zst r _ h4.1 h4.2
theorem zsr:∀(l:List Pat) (n:Int),0<=n->n<=401->0<=cntM l n/\cntM l n<=401
 | [],n,h1,h2=>⟨h1,h2⟩
 |k::r,n,h1,h2=>by
  unfold cntM;have h3:=zok k;have h4:=zmQ (x:=n*cntS k) (Int.mul_nonneg h1 h3.1);exact zsr r _ h4.1 h4.2
end
theorem zui {l:List Pat}{i:Nat}{n:Int} (h:i<l.length):cntO (l.drop i) n=cntO (l.drop (i+1)) (cap (n+cntS (nth l i))):=by
 rw[zaH h];rfl
theorem zuh {l:List Pat}{i:Nat}{n:Int} (h:i<l.length):cntM (l.drop i) n=cntM (l.drop (i+1)) (cap (n*cntS (nth l i))):=by
 rw[zaH h];rfl
def binP:Nat->Pat->Bool
 |0,_=>false
 |n+1,p=>decide (p.op=5->p.kids.length=2)&&p.kids.all (binP n)
theorem zeK {n:Nat}{p:Pat} (h:binP (n+1) p=true){i:Nat} (hi:i<p.kids.length):binP n (nth p.kids i)=true:=by
 unfold binP at h;rw[xad,List.all_eq_true] at h;exact h.2 _ (zae hi)
theorem zlj {n:Nat}{p:Pat} (h:binP (n+1) p=true) (h5:p.op=5):p.kids.length=2:=by
 unfold binP at h;rw[xad] at h;exact(of_decide_eq_true h.1) h5
theorem zqm:∀(n:Nat){p:Pat},binP n p=true->binP (n+1) p=true
 |0,p,h=>by simp[binP] at h
 |n+1,p,h=>by
  have h':=h;unfold binP at h ⊢;rw[xad,List.all_eq_true] at h ⊢;exact⟨h.1,fun k hk=>zqm n (h.2 k hk)⟩
theorem zim {w:List Data}:∀(n:Nat){t:Ty}{p:Pat},zan w n t p=true->binP n (zaC p)=true
 |0,t,p,h=>by simp[zan] at h
 |n+1,t,p,h=>by
  obtain⟨ho,hlen⟩:=zbe h;have hany:binP (n+1) anyQ=true:=by simp[binP,anyQ,Pat.op,Pat.kids]
  rw[zc6];by_cases h2:p.op=2
  ·rw[if_pos h2];exact hany
  rw[if_neg h2];by_cases h6:p.op=6
  ·obtain⟨hl,s0⟩:=zcr h h6;rw[if_pos ⟨h6,fun e=>by rw[e] at hl;simp at hl⟩];exact zqm n (zim n s0)
  rw[if_neg (fun h=>h6 h.1)];unfold binP;rw[xad,List.all_eq_true];refine⟨decide_eq_true (fun h5=>?_),fun k hk=>?_⟩
  ·have:=(zfq h h5).1;simpa [Pat.kids] using this
  ·simp only[Pat.kids,List.mem_map] at hk;obtain⟨x,hx,rfl⟩:=hk;obtain⟨i,hi,rfl⟩:=List.getElem_of_mem hx;have:=zim n (zbg h hi);have e:nth p.kids i=p.kids[i]:=za1 hi;rw[e] at this;exact this
theorem zgJ (out:List (List Pat)) (l:List Pat):(zbb out l).length=out.length*l.length:=by
 unfold zbb;induction out with
 |nil=>simp
 |cons q r ih=>rw[List.flatMap_cons,xaa,ih,xac,xab,Nat.succ_mul];omega
theorem ztp (ls:List (List Pat)) (l:List Pat):zeS (ls++[l])=zbb (zeS ls) l:=by unfold zeS;rw[List.foldl_append];rfl
theorem zwx {a b:Nat}:cap (cap (a:Int)*cap (b:Int))=cap ((a*b:Nat):Int):=by
 unfold cap;rcases Nat.eq_zero_or_pos a with rfl|ha
 ·simp
 rcases Nat.eq_zero_or_pos b with rfl|hb
 ·simp
 have h1:a<=a*b:=Nat.le_mul_of_pos_right a hb;have h2:b<=a*b:=Nat.le_mul_of_pos_left b ha;have hab:((a*b:Nat):Int)=(a:Int)*(b:Int):=by push_cast;rfl
 by_cases ca:401<(a:Int)
 ·rw[if_pos ca];by_cases cb:401<(b:Int)
  ·rw[if_pos cb,if_pos (by omega),if_pos (by omega)]
  ·rw[if_neg cb];have h3:(401:Int)*1<=401*(b:Int):=Int.mul_le_mul_of_nonneg_left (by omega) (by omega);rw[if_pos (show 401<((a*b:Nat):Int) by omega)];split<;>omega
 ·rw[if_neg ca];by_cases cb:401<(b:Int)
  ·rw[if_pos cb];have h3:(1:Int)*401<=(a:Int)*401:=Int.mul_le_mul_of_nonneg_right (by omega) (by omega);rw[if_pos (show 401<((a*b:Nat):Int) by omega)];split<;>omega
  ·rw[if_neg cb,hab]
theorem zwv {a b:Nat}:cap (cap (a:Int)+cap (b:Int))=cap ((a+b:Nat):Int):=by
 unfold cap;push_cast
 split<;>split<;>split<;>(try split)<;>omega
theorem zww {x:Int}:cap (cap x)=cap x:=by unfold cap;split<;>(try split)<;>omega
theorem zss:∀(l:List Pat) (out:List (List Pat)),(∀k∈l,cntS k=cap ((zaD k).length:Int)/\0<(zaD k).length)->cntM l (cap (out.length:Int))=cap (((l.map zaD).foldl zbb out).length:Int)/\(0<out.length->0<((l.map zaD).foldl zbb out).length)
 | [],out,_=>⟨rfl,fun h=>h⟩
 |k::r,out,h=>by
  have hk:=h k (by simp);unfold cntM;rw[hk.1,zwx];have:=zss r (zbb out (zaD k)) (fun x hx=>h x (by simp[hx]));rw[zgJ] at this;rw[xae,List.foldl_cons];exact⟨this.1,fun ho=>this.2 (Nat.mul_pos ho hk.2)⟩
theorem zmU:∀(n:Nat){p:Pat},binP n p=true->cntS p=cap ((zaD p).length:Int)/\0<(zaD p).length
 |0,p,h=>by simp[binP] at h
 |n+1,p,h=>by
  have ih:=fun i (hi:i<p.kids.length)=>zmU n (zeK h hi);rw[zol];by_cases h5:p.op=5
  ·have hl:=zlj h h5;rw[if_pos h5,zgn h5 hl,xaa];have k0:=ih 0 (by omega);have k1:=ih 1 (by omega);have e:p.kids=[nth p.kids 0,nth p.kids 1]:=by
    match hk:p.kids,hl with
    | [a,b],_=>rfl
   refine⟨?_,by omega⟩;rw[e];simp only[cntO];rw[Int.zero_add,k0.1,zww,k1.1];show cap (cap ((zaD (nth p.kids 0)).length:Int)+cap ((zaD (nth p.kids 1)).length:Int))=_
   rw[zwv];rfl
  ·rw[if_neg h5,zd2 h5,xac];have:=zss p.kids [[]] (fun k hk=>by
    obtain⟨i,hi,rfl⟩:=List.getElem_of_mem hk;have:=ih i hi;simpa [nth,List.getD,hi] using this)
   exact⟨this.1,this.2 (by simp)⟩
theorem zhI:∀(ls:List (List Pat)) (out:List (List Pat)),(∀l∈ls,0<l.length)->out.length<=(ls.foldl zbb out).length
 | [],out,_=>Nat.le_refl _
 |l::r,out,h=>by
  rw[List.foldl_cons];have h1:=zhI r (zbb out l) (fun x hx=>h x (by simp[hx]));rw[zgJ] at h1;have h2:out.length<=out.length*l.length:=Nat.le_mul_of_pos_right _ (h l (by simp));omega
theorem zjZ:∀(ls:List (List Pat)) (out:List (List Pat)),(∀l∈ls,0<l.length)->0<out.length->∀l∈ls,l.length<=(ls.foldl zbb out).length
 | [],out,_,_,l,hl=>by simp at hl
 |x::r,out,h,ho,l,hl=>by
  rw[List.foldl_cons];have hx:=h x (by simp);have hp:0<(zbb out x).length:=by rw[zgJ];exact Nat.mul_pos ho hx
  rcases List.mem_cons.1 hl with rfl|hl
  ·have h1:=zhI r (zbb out l) (fun y hy=>h y (by simp[hy]));rw[zgJ] at h1;have h2:l.length<=out.length*l.length:=Nat.le_mul_of_pos_left _ ho;omega
  ·exact zjZ r (zbb out x) (fun y hy=>h y (by simp[hy])) hp l hl
theorem ziu {n:Nat}{p:Pat} (h:binP (n+1) p=true){i:Nat} (hi:i<p.kids.length):(zaD (nth p.kids i)).length<=(zaD p).length:=by
 by_cases h5:p.op=5
 ·have hl:=zlj h h5;rw[zgn h5 hl,xaa];have:i=0\/i=1:=by omega
  rcases this with rfl|rfl<;>omega
 ·rw[zd2 h5,xac];refine zjZ _ [[]] (fun l hl=>?_) (by simp) _ (List.mem_map.2 ⟨_,zae hi,rfl⟩);obtain⟨k,hk,rfl⟩:=List.mem_map.1 hl;obtain⟨j,hj,rfl⟩:=List.getElem_of_mem hk;have:=(zmU n (zeK h hj)).2;simpa [nth,List.getD,hj] using this
theorem zsh {n:Nat}{p:Pat} (h:binP (n+1) p=true) (h5:p.op≠5) (i:Nat):(zeS ((p.kids.take i).map zaD)).length<=(zaD p).length:=by
 rw[zd2 h5,xac];have e:p.kids.map zaD=(p.kids.take i).map zaD++(p.kids.drop i).map zaD:=by rw[<-xaf,List.take_append_drop]
 unfold zeS;rw[e,List.foldl_append];refine zhI _ _ (fun l hl=>?_);obtain⟨k,hk,rfl⟩:=List.mem_map.1 hl;obtain⟨j,hj,rfl⟩:=List.getElem_of_mem (List.mem_of_mem_drop hk);have:=(zmU n (zeK h hj)).2;simpa [nth,List.getD,hj] using this
def zai (w:List Data):Nat->Ty->Pat->Bool
 |0,_,_=>false
 |n+1,t,p=>(ownP w t p&&decide (p.op=1\/p.op=3\/p.op=4))&&all2 (zai w n) (zac w t p) p.kids
theorem zjg {α β:Type}{f g:α->β->Bool}:∀ {a:List α}{b:List β},(∀x∈a,∀y∈b,f x y=true->g x y=true)->all2 f a b=true->all2 g a b=true
 | [],[],_,_=>rfl
 |x::r,y::s,h,h2=>by
  simp only[all2,xad] at h2 ⊢;exact⟨h x (by simp) y (by simp) h2.1,zjg (fun a ha b hb=>h a (by simp[ha]) b (by simp[hb])) h2.2⟩
 | [],_::_,_,h2=>by simp[all2] at h2
 |_::_,[],_,h2=>by simp[all2] at h2
theorem zhf {w:List Data}:∀(n:Nat){t:Ty}{p:Pat},zai w n t p=true->zan w n t p=true
 |0,t,p,h=>by simp[zai] at h
 |n+1,t,p,h=>by
  unfold zai at h;unfold zan;simp only[xad] at h ⊢;exact⟨h.1.1,zjg (fun x _ y _ hh=>zhf n hh) h.2⟩
theorem zgG {w:List Data}:∀(n:Nat){t:Ty}{p:Pat},zai w n t p=true->zai w (n+1) t p=true
 |0,t,p,h=>by simp[zai] at h
 |n+1,t,p,h=>by
  unfold zai at h ⊢;simp only[xad] at h ⊢;exact⟨h.1,zjg (fun x _ y _ hh=>zgG n hh) h.2⟩
theorem zbF {w:List Data}{n:Nat}{t:Ty}{p:Pat} (h:zai w n t p=true):p.op=1\/p.op=3\/p.op=4:=by
 cases n with
 |zero=>simp[zai] at h
 |succ n=>unfold zai at h;simp only[xad] at h;exact of_decide_eq_true h.1.2
theorem zhQ {w:List Data}{n:Nat}{t:Ty}{p:Pat} (h:zai w n t p=true):ownP w t p=true/\p.kids.length=(zac w t p).length:=by
 cases n with
 |zero=>simp[zai] at h
 |succ n=>exact zbe (zhf _ h)
theorem za4 {w:List Data}{n:Nat}{t:Ty}{p:Pat} (h:zai w (n+1) t p=true){i:Nat} (hi:i<p.kids.length):zai w n (nth (zac w t p) i) (nth p.kids i)=true:=by
 have hl:=(zhQ h).2;unfold zai at h;simp only[xad] at h;exact zc5 hl.symm h.2 i (by omega)
theorem zwY {w:List Data}{t:Ty}{p:Pat}{l:List Pat}:ownP w t (.mk p.op p.ctor p.n p.m p.var l)=ownP w t p:=rfl
theorem zu7 {w:List Data}{t:Ty}{p:Pat}{l:List Pat}:zac w t (.mk p.op p.ctor p.n p.m p.var l)=zac w t p:=rfl
theorem zkQ:∀(ls:List (List Pat)) (out:List (List Pat)) (l:List Pat),l∈ls.foldl zbb out->∃q∈out,∃r:List Pat,l=q++r/\r.length=ls.length/\∀i,i<ls.length->nth r i∈nth ls i
 | [],out,l,h=>⟨l,h,[],by simp,rfl,fun i hi=>by simp at hi⟩
 |x::rs,out,l,h=>by
  rw[List.foldl_cons] at h;obtain⟨q,hq,r,e,hl,hm⟩:=zkQ rs (zbb out x) l h;unfold zbb at hq;simp only[List.mem_flatMap,List.mem_map] at hq;obtain⟨q0,hq0,c,hc,rfl⟩:=hq;refine⟨q0,hq0,c::r,by rw[e];simp,by simp[hl],fun i hi=>?_⟩;cases i with
  |zero=>exact hc
  |succ i=>exact hm i (by simpa using hi)
theorem zke {w:List Data}{n:Nat}{t:Ty}:zai w (n+1) t anyQ=true:=by
 unfold zai;have h1:zac w t anyQ=[]:=by unfold zac;rw[if_neg (by decide),if_neg (by decide),if_neg (by decide)]
 rw[h1];have h2:ownP w t anyQ=true:=by unfold ownP;exact decide_eq_true (by simp[anyQ,Pat.op,Pat.var,Pat.n,Pat.m,Pat.ctor])
 rw[h2];rfl
theorem zmF:zaD anyQ=[anyQ]:=by
 rw[zd2 (by decide)];rfl
theorem zhh {w:List Data}{n:Nat}{t:Ty}{p:Pat} (h:zan w (n+1) t p=true) (h4:p.op≠4) (h5:p.op≠5) (h6:p.op≠6):p.kids=[]:=by
 have hl:=(zbe h).2;unfold zac at hl;rw[if_neg h4,if_neg h5,if_neg h6] at hl;exact List.eq_nil_of_length_eq_zero hl
theorem zhR {w:List Data}:∀(n:Nat){t:Ty}{p:Pat},zan w n t p=true->∀x∈zaD (zaC p),zai w n t x=true
 |0,t,p,h=>by simp[zan] at h
 |n+1,t,p,h=>by
  obtain⟨ho,hlen⟩:=zbe h;have hop:=zfd h;intro x hx;rw[zc6] at hx;by_cases h2:p.op=2
  ·rw[if_pos h2,zmF,List.mem_singleton] at hx;rw[hx];exact zke
  rw[if_neg h2] at hx;by_cases h6:p.op=6
  ·obtain⟨hl,s0⟩:=zcr h h6;rw[if_pos ⟨h6,fun e=>by rw[e] at hl;simp at hl⟩] at hx;exact zgG n (zhR n s0 x hx)
  rw[if_neg (fun h=>h6 h.1)] at hx;by_cases h5:p.op=5
  ·obtain⟨hl,s0,s1⟩:=zfq h h5;have hl2:(p.kids.map zaC).length=2:=by rw[xac];exact hl
   rw[zgn (p:= .mk p.op p.ctor p.n p.m p.var (p.kids.map zaC)) h5 hl2] at hx;have e0:nth (p.kids.map zaC) 0=zaC (nth p.kids 0):=by
    match hk:p.kids,hl with
    | [a,b],_=>rfl
   have e1:nth (p.kids.map zaC) 1=zaC (nth p.kids 1):=by
    match hk:p.kids,hl with
    | [a,b],_=>rfl
   simp only[zcz] at hx;rw[e0,e1] at hx;rcases List.mem_append.1 hx with hx|hx
   ·exact zgG n (zhR n s0 x hx)
   ·exact zgG n (zhR n s1 x hx)
  rw[zd2 (p:= .mk p.op p.ctor p.n p.m p.var (p.kids.map zaC)) h5] at hx;simp only[zcz,zei,zgf,mk_n,mk_m,zi1,List.mem_map] at hx;obtain⟨l,hl,rfl⟩:=hx;obtain⟨q,hq,r,e,hlr,hm⟩:=zkQ _ _ _ hl;rw[List.mem_singleton] at hq;rw[hq,List.nil_append] at e;subst e;simp only[List.map_map,xac] at hlr hm;unfold zai;rw[zwY,zu7,ho,decide_eq_true (show _\/_\/_ from by rw[zei];omega),Bool.true_and,Bool.true_and];refine zbs (by rw[zcz];omega) (fun i hi=>?_);have hm':=hm i (by omega);have e2:nth (p.kids.map (zaD ∘ zaC)) i=zaD (zaC (nth p.kids i)):=by
   rw[za1 (by simp;omega)];simp[nth,List.getD,show i<p.kids.length by omega]
  rw[e2] at hm';exact zhR n (zbg h (by omega)) _ hm'
theorem Pats.ok_of:∀ {l:List Pat},(∀k∈l,k.ok)->Pats.ok l
 | [],_=>trivial
 |k::r,h=>⟨h k (by simp),Pats.ok_of (fun x hx=>h x (by simp[hx]))⟩
theorem Pats.size_of {m:Nat}:∀ {l:List Pat},(∀k∈l,k.size<=m)->Pats.size l<=l.length*m
 | [],_=>by simp[Pats.size]
 |k::r,h=>by
  have h1:=h k (by simp);have h2:=Pats.size_of (l:=r) (fun x hx=>h x (by simp[hx]));simp only[Pats.size,xab,Nat.succ_mul];omega
mutual
theorem zlh:∀p:Pat,p.ok->(zaC p).ok
 | .mk op c n m v ks,h=>by
  unfold zaC;split
  ·exact⟨by simp,trivial⟩
  ·split
   ·exact zvr ks h.2
   ·exact⟨by rw[zlW,xac];exact h.1,zql ks h.2⟩
theorem zvr:∀l:List Pat,Pats.ok l->(zlo l).ok
 | [],_=>⟨by simp,trivial⟩
 |k::r,h=>zlh k h.1
theorem zql:∀l:List Pat,Pats.ok l->Pats.ok (zh8 l)
 | [],_=>trivial
 |k::r,h=>⟨zlh k h.1,zql r h.2⟩
end
mutual
theorem zoW:∀p:Pat,(zaC p).size<=p.size
 | .mk op c n m v ks=>by
  unfold zaC;split
  ·simp[anyQ,Pat.size,Pats.size]
  ·split
   ·have:=ztd ks;simp only[Pat.size];omega
   ·have:=zmG ks;simp only[Pat.size];omega
theorem ztd:∀l:List Pat,(zlo l).size<=1+Pats.size l
 | []=>by simp[zlo,anyQ,Pat.size,Pats.size]
 |k::r=>by have:=zoW k;simp only[zlo,Pats.size];omega
theorem zmG:∀l:List Pat,Pats.size (zh8 l)<=Pats.size l
 | []=>Nat.le_refl _
 |k::r=>by have:=zoW k;have:=zmG r;simp only[zh8,Pats.size];omega
end
theorem xat (l:List Pat):Pat.cs l=l.map Pat.cc:=by
 rw[Pat.cs_eq];exact List.map_congr_left (fun v _=>Pat.c_eq v)
theorem zcp (l:List Pat):∀x∈Pat.cs l,x.length=6:=Pat.cs_rows
theorem zhA (l:List Pat):∀x∈l.map Pat.cc,x.length=6:=fun x hx=>by
 obtain⟨y,_,rfl⟩:=List.mem_map.1 hx;rfl
theorem zsm {p:Pat} (h:p.op=2):zaC p=anyQ:=by rw[zc6,if_pos h]
theorem zsn {p:Pat} (h:p.op=6) (h2:0<p.kids.length):zaC p=zaC (nth p.kids 0):=by
 rw[zc6,if_neg (by omega),if_pos ⟨h,fun e=>by rw[e] at h2;simp at h2⟩]
theorem zso {p:Pat} (h:p.op≠2) (h2:¬(p.op=6/\0<p.kids.length)):zaC p = .mk p.op p.ctor p.n p.m p.var (p.kids.map zaC):=by
 rw[zc6,if_neg h,if_neg (fun hh=>h2 ⟨hh.1,List.length_pos_iff.2 hh.2⟩)]
theorem zgD:∀(n:Nat){p:Pat},p.size<=n->p.ok->FnD Tryz.prog 190 [.agg [.d (.i p.op),.d (.i p.ctor),.d (.i p.n),.d (.i p.m),.d (.i p.var),.d (zag p.kids)]] [] (.agg [.d (.i p.op),.d (.i p.ctor),.d (.i p.n),.d (.i p.m),.d (.i p.var),.d (zag p.kids)]) []
 |0,p,h,_=>by rw[Pat.size_eq] at h;omega
 |n+1,p,h,hok=>by
  rw[Pat.size_eq] at h;rw[Pat.ok_iff] at hok;have hok1:=hok.1;refine bd Tryz.f190 24 [] [] fun w0 F0 own kept hk=>?_;refine bx 3001 ?_;refine ab 3002 tz36 ?_;refine tv ?_;refine so ty34 ?_;refine tv ?_;refine xan 3001 5 7 6 rfl rfl rfl rfl ?_;refine xak (ι:=List (Pat)×List (Pat)) hk (fun x=>[(11,.d (.i (x.1.length:Int)))]) [5,12,13,14,15,16,17,18,19,20,21,22] (fun x=>[(3001,some (.box [.d (.i p.op),.d (.i p.ctor),.d (.i p.n),.d (.i p.m),.d (.i p.var),.gl 7 (x.1.map Pat.cc)])),(7,some (.tok (x.1.map Pat.cc).length 6))]) (fun x=>x.1++x.2=p.kids) (fun x=>x.2.length) ([],p.kids) (by simp) ⟨⟨_,rfl,xaq ?_⟩,trivial⟩ ⟨?_,⟨zab ?_,trivial⟩⟩ (fun x=>rfl) (fun x hg1=>?_);focus (rfl)
  focus (first|rfl|(simp[getH];done))
  focus (rfl)
  obtain⟨pre,rest⟩:=x;dsimp only at hg1 ⊢;refine evc [] [] ?_;refine sq ?_ ?_<;>intro h1 h1p h1s<;>(try simp only[Q,Pat.cs_len] at h1p);rcases rest with _|⟨y,rest⟩
  ·exfalso;simp_all
  refine xaU sl34 .none rfl rfl rfl rfl (Pat.cs_at' hg1) rfl ?_;refine ev ?_;refine ab 3005 tz36 ?_;refine so ty36 ?_;refine tv ?_;refine wc ztP (zgD n (p:=y) (by have:=Pats.size_mem (l:=p.kids) (v:=y) (by rw[<-hg1];simp);omega) (Pats.ok_mem hok.2 y (by rw[<-hg1];simp))) rfl rfl ?_;refine si [0] [_] sl34 tz36 ?_;refine ap sl34 zz36 rfl rfl rfl (by intro x hx;(simp at hx;subst hx;rfl)) (by have:=congrArg List.length hg1;simp at this;simp;omega) ?_;refine evd [] [] ?_;refine so ty34 ?_;refine dr ?_;refine ar ?_;refine xah ((pre++[y],rest)) ⟨(by have hz:=hg1;rw[<-hz];simp),(by simp),sx ⟨⟨_,rfl,xaq ?_⟩,trivial⟩ ⟨?_,⟨zab ?_,trivial⟩⟩⟩;focus ((simp;done))
  focus (first|rfl|(simp[getH];done))
  focus ((simp;done))
  have hrest:rest=[]:=by
   rcases rest with _|⟨a,b⟩
   ·rfl
   ·exfalso;have hz:=congrArg List.length (hg1);simp only[xaa,xab,xac] at hz;omega
  subst hrest;refine so ty36 ?_;refine tv ?_;refine rn0 (.cons (.cellA ty36 rfl rfl rfl) .nil) (.agg (.cons (.eqd ?_) (.cons (.eqd ?_) (.cons (.eqd ?_) (.cons (.eqd ?_) (.cons (.eqd ?_) (.cons (.gld ?_) .nil)))))));rotate_left 6;all_goals (first|rfl|(rw[List.append_nil] at hg1;rw[<-hg1,xat];done))
theorem zj9 {l:List Pat} (h:l.length<=1000000000000) (hok:∀p∈l,p.ok):FnD Tryz.prog 155 [.d (zag l)] [] (.d (zag l)) []:=by
 refine bd Tryz.f155 19 [3] [] fun w0 F0 own kept hk=>?_;refine xaE 1 6 .none rfl rfl ?_;refine tv ?_;refine xak (ι:=List (Pat)×List (Pat)) hk (fun x=>[(8,.d (.i (x.1.length:Int))),(3,.gl 1 (x.1.map Pat.cc))]) [5,9,10,11,12,13,14,15,16,17] (fun x=>[(1,some (.tok ((x.1.map Pat.cc)).length 6))]) (fun x=>x.1++x.2=l) (fun x=>x.2.length) ([],l) (by simp) ⟨⟨_,rfl,xaq ?_⟩,⟨⟨_,rfl,LeA.glg ?_⟩,trivial⟩⟩ ⟨zab ?_,trivial⟩ (fun x=>rfl) (fun x hg1=>?_);iterate 3 focus (rfl)
 obtain⟨pre,rest⟩:=x;dsimp only at hg1 ⊢;refine evc [3] [] ?_;refine sq ?_ ?_<;>intro h1 h1p h1s<;>(try simp only[Q,Pat.cs_len] at h1p);rcases rest with _|⟨y,rest⟩
 ·exfalso;simp_all
 refine xaU sl34 .none rfl rfl rfl rfl (Pat.cs_at' hg1) rfl ?_;refine evs [3] [] ?_;refine ab 3005 tz36 ?_;refine so ty36 ?_;refine tv ?_;refine wc ztP (zgD _ (Nat.le_refl _) (hok y (by rw[<-hg1];simp))) rfl rfl ?_;refine si [0] [_] sl34 tz36 ?_;refine ap sl34 zz36 rfl rfl rfl (by intro x hx;simp at hx;subst hx;rfl) (by have:=congrArg List.length hg1;simp at this;simp;omega) ?_;refine asg ?_;refine tv ?_;refine ar ?_;refine xah ((pre++[y],rest)) ⟨(by have hz:=hg1;rw[<-hz];simp),(by simp),sx ⟨⟨_,rfl,xaq ?_⟩,⟨⟨_,rfl,LeA.glg ?_⟩,trivial⟩⟩ ⟨zab ?_,trivial⟩⟩;iterate 3 focus ((simp;done))
 have hrest:rest=[]:=by
  rcases rest with _|⟨a,b⟩
  ·rfl
  ·exfalso;have hz:=congrArg List.length (hg1);simp only[xaa,xab,xac] at hz;omega
 subst hrest;refine rn0 (r1 rfl) (.gld ?_);rotate_left;all_goals ((rw[List.append_nil] at hg1;rw[<-hg1,xat];done))
theorem zeu:FnD Tryz.prog 156 [] [] (.agg [.d (.i 1),.d (.i 0),.d (.i 0),.d (.i 0),.d (.i 0),.d (.sl [])]) []:=by
 refine bd Tryz.f156 2 [] [] fun w0 F0 own kept hk=>?_;refine ab 3000 tz36 ?_;refine tv ?_;refine bu [0] [_] st36 ?_;refine so ty36 ?_;refine tv ?_;focus (refine rn0 (.cons (.cellA ty36 rfl rfl rfl) .nil) (.agg (.cons (.eqd ?_) (.cons (.eqd ?_) (.cons (.eqd ?_) (.cons (.eqd ?_) (.cons (.eqd ?_) (.cons (.nild ?_) .nil)))))));all_goals (rfl))
theorem zdc:∀(n:Nat){p:Pat},p.size<=n->p.ok->FnD Tryz.prog 219 [.agg [.d (.i p.op),.d (.i p.ctor),.d (.i p.n),.d (.i p.m),.d (.i p.var),.d (zag p.kids)]] [] (.agg [.d (.i (zaC p).op),.d (.i (zaC p).ctor),.d (.i (zaC p).n),.d (.i (zaC p).m),.d (.i (zaC p).var),.d (zag (zaC p).kids)]) []
 |0,p,h,_=>by rw[Pat.size_eq] at h;omega
 |n+1,p,h,hok=>by
  rw[Pat.size_eq] at h;rw[Pat.ok_iff] at hok;have hok1:=hok.1;by_cases h2:p.op=2
  ·rw[zsm h2];refine bd Tryz.f219 44 [] [] fun w0 F0 own kept hk=>?_;refine bx 3001 ?_;refine ab 3002 tz36 ?_;refine tv ?_;refine sq ?_ ?_<;>intro h1 h1p h1s;refine wc zqv (zeu) rfl rfl ?_;refine so ty36 ?_;refine tv ?_;refine rn0 (.cons (.cellA ty36 rfl rfl rfl) .nil) (.agg (.cons (.eqd ?_) (.cons (.eqd ?_) (.cons (.eqd ?_) (.cons (.eqd ?_) (.cons (.eqd ?_) (.cons (.eqd ?_) .nil)))))));rotate_left 6;try simp only[Q] at h1p
   exfalso;omega;all_goals (rfl)
  by_cases h6:p.op=6/\0<p.kids.length
  ·rw[zsn h6.1 h6.2];refine bd Tryz.f219 44 [] [] fun w0 F0 own kept hk=>?_;refine bx 3001 ?_;refine ab 3002 tz36 ?_;refine tv ?_;refine sq ?_ ?_<;>intro h1 h1p h1s;try simp only[Q,Pat.cs_len] at h1p
   exfalso;omega;refine sq ?_ ?_<;>intro h2 h2p h2s;refine sq ?_ ?_<;>intro h3 h3p h3s;refine xaU (i:=0) sl34 .none rfl rfl rfl rfl (zar h6.2) rfl ?_;refine ev ?_;refine wc zkh (zdc n (p:=nth p.kids 0) (by have:=Pats.size_mem (zae h6.2);omega) (Pats.ok_mem hok.2 _ (zae h6.2))) rfl rfl ?_;refine so ty36 ?_;refine tv ?_;refine rn0 (.cons (.cellA ty36 rfl rfl rfl) .nil) (.agg (.cons (.eqd ?_) (.cons (.eqd ?_) (.cons (.eqd ?_) (.cons (.eqd ?_) (.cons (.eqd ?_) (.cons (.eqd ?_) .nil)))))));rotate_left 6;try simp only[Q,Pat.cs_len] at h3p
   focus (exfalso;first|omega|(simp_all;done))
   try simp only[Q,Pat.cs_len] at h2p
   exfalso;omega;all_goals (rfl)
  ·rw[zso h2 h6];refine bd Tryz.f219 44 [] [] fun w0 F0 own kept hk=>?_;refine bx 3001 ?_;refine ab 3002 tz36 ?_;refine tv ?_;refine sq ?_ ?_<;>intro h1 h1p h1s;try simp only[Q,Pat.cs_len] at h1p
   exfalso;omega;refine sq ?_ ?_<;>intro h2 h2p h2s;refine sq ?_ ?_<;>intro h3 h3p h3s;try simp only[Q,Pat.cs_len] at h3p
   focus (exfalso;apply h6;first|omega|(simp_all;done))
   refine so ty34 ?_;refine tv ?_;refine xan 3001 5 7 6 rfl rfl rfl rfl ?_;refine xak (ι:=List (Pat)×List (Pat)) hk (fun x=>[(31,.d (.i (x.1.length:Int)))]) [5,32,33,34,35,36,37,38,39,40,41,42] (fun x=>[(3001,some (.box [.d (.i p.op),.d (.i p.ctor),.d (.i p.n),.d (.i p.m),.d (.i p.var),.gl 7 ((x.1.map zaC).map Pat.cc)])),(7,some (.tok ((x.1.map zaC).map Pat.cc).length 6))]) (fun x=>x.1++x.2=p.kids) (fun x=>x.2.length) ([],p.kids) (by simp) ⟨⟨_,rfl,xaq ?_⟩,trivial⟩ ⟨?_,⟨zab ?_,trivial⟩⟩ (fun x=>rfl) (fun x hg1=>?_);focus (rfl)
   focus (first|rfl|(simp[getH];done))
   focus (rfl)
   obtain⟨pre,rest⟩:=x;dsimp only at hg1 ⊢;refine evc [] [] ?_;refine sq ?_ ?_<;>intro h4 h4p h4s<;>(try simp only[Q,Pat.cs_len] at h4p);rcases rest with _|⟨y,rest⟩
   ·exfalso;simp_all
   refine xaU sl34 .none rfl rfl rfl rfl (Pat.cs_at' hg1) rfl ?_;refine ev ?_;refine ab 3005 tz36 ?_;refine so ty36 ?_;refine tv ?_;refine wc zkh (zdc n (p:=y) (by have:=Pats.size_mem (l:=p.kids) (v:=y) (by rw[<-hg1];simp);omega) (Pats.ok_mem hok.2 y (by rw[<-hg1];simp))) rfl rfl ?_;refine si [0] [_] sl34 tz36 ?_;refine ap sl34 zz36 rfl rfl rfl (by intro x hx;(simp at hx;subst hx;rfl)) (by have:=congrArg List.length hg1;simp at this;simp;omega) ?_;refine evd [] [] ?_;refine so ty34 ?_;refine dr ?_;refine ar ?_;refine xah ((pre++[y],rest)) ⟨(by have hz:=hg1;rw[<-hz];simp),(by simp),sx ⟨⟨_,rfl,xaq ?_⟩,trivial⟩ ⟨?_,⟨zab ?_,trivial⟩⟩⟩;focus ((simp;done))
   focus (first|rfl|(simp[getH];done))
   focus ((simp;done))
   have hrest:rest=[]:=by
    rcases rest with _|⟨a,b⟩
    ·rfl
    ·exfalso;have hz:=congrArg List.length (hg1);simp only[xaa,xab,xac] at hz;omega
   subst hrest;refine so ty36 ?_;refine tv ?_;refine rn0 (.cons (.cellA ty36 rfl rfl rfl) .nil) (.agg (.cons (.eqd ?_) (.cons (.eqd ?_) (.cons (.eqd ?_) (.cons (.eqd ?_) (.cons (.eqd ?_) (.cons (.gld ?_) .nil)))))));rotate_left 6;refine sqF ?_;refine so ty34 ?_;refine tv ?_;refine xan 3001 5 7 6 rfl rfl rfl rfl ?_;refine xak (ι:=List (Pat)×List (Pat)) hk (fun x=>[(31,.d (.i (x.1.length:Int)))]) [5,32,33,34,35,36,37,38,39,40,41,42] (fun x=>[(3001,some (.box [.d (.i p.op),.d (.i p.ctor),.d (.i p.n),.d (.i p.m),.d (.i p.var),.gl 7 ((x.1.map zaC).map Pat.cc)])),(7,some (.tok ((x.1.map zaC).map Pat.cc).length 6))]) (fun x=>x.1++x.2=p.kids) (fun x=>x.2.length) ([],p.kids) (by simp) ⟨⟨_,rfl,xaq ?_⟩,trivial⟩ ⟨?_,⟨zab ?_,trivial⟩⟩ (fun x=>rfl) (fun x hg1=>?_);focus (rfl)
   focus (first|rfl|(simp[getH];done))
   focus (rfl)
   obtain⟨pre,rest⟩:=x;dsimp only at hg1 ⊢;refine evc [] [] ?_;refine sq ?_ ?_<;>intro h6 h6p h6s<;>(try simp only[Q,Pat.cs_len] at h6p);rcases rest with _|⟨y,rest⟩
   ·exfalso;simp_all
   refine xaU sl34 .none rfl rfl rfl rfl (Pat.cs_at' hg1) rfl ?_;refine ev ?_;refine ab 3005 tz36 ?_;refine so ty36 ?_;refine tv ?_;refine wc zkh (zdc n (p:=y) (by have:=Pats.size_mem (l:=p.kids) (v:=y) (by rw[<-hg1];simp);omega) (Pats.ok_mem hok.2 y (by rw[<-hg1];simp))) rfl rfl ?_;refine si [0] [_] sl34 tz36 ?_;refine ap sl34 zz36 rfl rfl rfl (by intro x hx;(simp at hx;subst hx;rfl)) (by have:=congrArg List.length hg1;simp at this;simp;omega) ?_;refine evd [] [] ?_;refine so ty34 ?_;refine dr ?_;refine ar ?_;refine xah ((pre++[y],rest)) ⟨(by have hz:=hg1;rw[<-hz];simp),(by simp),sx ⟨⟨_,rfl,xaq ?_⟩,trivial⟩ ⟨?_,⟨zab ?_,trivial⟩⟩⟩;focus ((simp;done))
   focus (first|rfl|(simp[getH];done))
   focus ((simp;done))
   have hrest:rest=[]:=by
    rcases rest with _|⟨a,b⟩
    ·rfl
    ·exfalso;have hz:=congrArg List.length (hg1);simp only[xaa,xab,xac] at hz;omega
   subst hrest;refine so ty36 ?_;refine tv ?_;refine rn0 (.cons (.cellA ty36 rfl rfl rfl) .nil) (.agg (.cons (.eqd ?_) (.cons (.eqd ?_) (.cons (.eqd ?_) (.cons (.eqd ?_) (.cons (.eqd ?_) (.cons (.gld ?_) .nil)))))));rotate_left 6;all_goals (first|rfl|(rw[List.append_nil] at hg1;subst hg1;rw[<-xat];all_goals rfl))
theorem zev:∀(n:Nat){p:Pat},p.size<=n->p.ok->FnD Tryz.prog 220 [.agg [.d (.i p.op),.d (.i p.ctor),.d (.i p.n),.d (.i p.m),.d (.i p.var),.d (zag p.kids)]] [] (.d (.i (cntS p))) []
 |0,p,h,_=>by rw[Pat.size_eq] at h;omega
 |n+1,p,h,hok=>by
  rw[Pat.size_eq] at h;rw[Pat.ok_iff] at hok;have hok1:=hok.1;have hbd:=fun i=>zok (nth p.kids i);by_cases h5:p.op=5
  ·rw[zol,if_pos h5];refine bd Tryz.f220 31 [] [] fun w0 F0 own kept hk=>?_;refine bx 3001 ?_;refine ev ?_;refine sq ?_ ?_<;>intro h1 h1p h1s;refine xak (ι:=Nat×Int) hk (fun x=>[(12,.d (.i (x.1:Int))),(3,.d (.i x.2))]) [5,13,14,15,16,17,18,19,20,21,22,23,24,25,26,27,28,29] (fun x=>[]) (fun x=>x.1<=p.kids.length/\cntO (p.kids.drop x.1) x.2=cntO p.kids 0/\0<=x.2/\x.2<=401) (fun x=>p.kids.length-x.1) (0,0) ⟨by simp,rfl,by simp,by simp⟩ ⟨⟨_,rfl,xaq ?_⟩,⟨⟨_,rfl,xaq ?_⟩,trivial⟩⟩ trivial (fun x=>rfl) (fun x hg1=>?_);iterate 2 focus (rfl)
   refine evc [] [] ?_;refine sq ?_ ?_<;>intro h2 h2p h2s<;>(try simp only[Q,Pat.cs_len] at h2p);refine xaU sl34 .none rfl rfl rfl rfl (zar (by omega)) rfl ?_;refine ev ?_;refine ab 3005 tz36 ?_;refine so ty36 ?_;refine tv ?_;refine sq ?_ ?_<;>intro h3 h3p h3s<;>(try simp only[Q,Pat.cs_len] at h3p);refine wc zmJ (zev n (p:=nth p.kids x.1) (by have:=Pats.size_mem (zae (l:=p.kids) (i:=x.1) (by omega));omega) (Pats.ok_mem hok.2 _ (zae (by omega)))) rfl rfl ?_;refine ev ?_;refine ar ?_ (by(have hb:=hbd x.1;constructor<;>omega));refine xa4 .none rfl rfl rfl ?_;refine ev ?_;refine ar ?_ (by(constructor<;>omega));refine xah ((x.1+1,cap (x.2+cntS (nth p.kids x.1)))) ⟨(by
        have hb:=hbd x.1;have hc:=zmQ (x:=x.2+cntS (nth p.kids x.1)) (by omega);exact⟨by dsimp only;omega,by dsimp only;rw[<-zui (by omega)];exact hg1.2.1,hc.1,hc.2⟩),(by dsimp only;omega),sx ⟨⟨_,rfl,xaq ?_⟩,⟨⟨_,rfl,xaq ?_⟩,trivial⟩⟩ trivial⟩
   iterate 2 focus (rfl)
   exfalso;omega;refine rq ?_;rotate_left;try simp only[Q,Pat.cs_len] at h1p
   exfalso;omega;all_goals (refine congrArg D.i ?_;rw[<-hg1.2.1,List.drop_eq_nil_of_le (by omega)];rfl)
  ·rw[zol,if_neg h5];refine bd Tryz.f220 31 [] [] fun w0 F0 own kept hk=>?_;refine bx 3001 ?_;refine ev ?_;refine sq ?_ ?_<;>intro h1 h1p h1s;try simp only[Q,Pat.cs_len] at h1p
   exfalso;omega;refine xak (ι:=Nat×Int) hk (fun x=>[(12,.d (.i (x.1:Int))),(3,.d (.i x.2))]) [5,13,14,15,16,17,18,19,20,21,22,23,24,25,26,27,28,29] (fun x=>[]) (fun x=>x.1<=p.kids.length/\cntM (p.kids.drop x.1) x.2=cntM p.kids 1/\0<=x.2/\x.2<=401) (fun x=>p.kids.length-x.1) (0,1) ⟨by simp,rfl,by simp,by simp⟩ ⟨⟨_,rfl,xaq ?_⟩,⟨⟨_,rfl,xaq ?_⟩,trivial⟩⟩ trivial (fun x=>rfl) (fun x hg1=>?_);iterate 2 focus (rfl)
   refine evc [] [] ?_;refine sq ?_ ?_<;>intro h2 h2p h2s<;>(try simp only[Q,Pat.cs_len] at h2p);refine xaU sl34 .none rfl rfl rfl rfl (zar (by omega)) rfl ?_;refine ev ?_;refine ab 3005 tz36 ?_;refine so ty36 ?_;refine tv ?_;refine sq ?_ ?_<;>intro h3 h3p h3s;try simp only[Q,Pat.cs_len] at h3p
   exfalso;omega;refine wc zmJ (zev n (p:=nth p.kids x.1) (by have:=Pats.size_mem (zae (l:=p.kids) (i:=x.1) (by omega));omega) (Pats.ok_mem hok.2 _ (zae (by omega)))) rfl rfl ?_;refine ev ?_;refine ar ?_ (by(have hb:=hbd x.1;have h3:=Int.mul_le_mul hg1.2.2.2 hb.2 hb.1 (by omega);have h4:=Int.mul_nonneg hg1.2.2.1 hb.1;constructor<;>omega));refine xa4 .none rfl rfl rfl ?_;refine ev ?_;refine ar ?_ (by(constructor<;>omega));refine xah ((x.1+1,cap (x.2*cntS (nth p.kids x.1)))) ⟨(by
        have hb:=hbd x.1;have hc:=zmQ (x:=x.2*cntS (nth p.kids x.1)) (Int.mul_nonneg hg1.2.2.1 hb.1);exact⟨by dsimp only;omega,by dsimp only;rw[<-zuh (by omega)];exact hg1.2.1,hc.1,hc.2⟩),(by dsimp only;omega),sx ⟨⟨_,rfl,xaq ?_⟩,⟨⟨_,rfl,xaq ?_⟩,trivial⟩⟩ trivial⟩
   iterate 2 focus (rfl)
   refine rq ?_;rotate_left;all_goals (refine congrArg D.i ?_;rw[<-hg1.2.1,List.drop_eq_nil_of_le (by omega)];rfl)
theorem zf1 {xs:List Pat} (hs:xs.length<=1000000000000):FnD Tryz.prog 242 [.d (zag xs)] [] (.gl 77 (Pat.cs xs)) [(77,some (.tok (Pat.cs xs).length 6))]:=by
 refine Fn.body (fn:=Tryz.f242) (n:=8) rfl rfl rfl rfl rfl (fun w0 F0 own kept hk=>?_);refine xam 0 rfl (fun hx0=>?_) ?_;refine evc [2,4] [] ?_;refine asg ?_;refine tv ?_;refine xaS sl34 .none rfl rfl ?_;refine tv ?_;refine sqT ?_;refine xaE 77 6 .none rfl rfl ?_;refine tv ?_;refine rn [(77,some (.tok (Pat.cs xs).length 6))] (r1 rfl) (.glg ?_) ⟨rfl,rfl⟩ (SubH.get ⟨?_,trivial⟩) (zay rfl);rotate_left 2;refine evc [2,4] [] ?_;refine asg ?_;refine tv ?_;refine xaR sl34 .none rfl rfl ?_;refine tv ?_;refine sqF ?_;refine xbh 77 sl34 .none rfl rfl ?_;refine evs [2,4] [] ?_;refine ap sl34 zz36 rfl rfl rfl (by intro y hy;rw[xat] at hy;obtain⟨z,_,rfl⟩:=List.mem_map.1 hy;rfl) (by simp[Pat.cs_len];omega) ?_;refine asg ?_;refine tv ?_;refine rn [(77,some (.tok (Pat.cs xs).length 6))] (r1 rfl) (.glg ?_) ⟨rfl,rfl⟩ (SubH.get ⟨?_,trivial⟩) (zay rfl);rotate_left 2;all_goals (first|((first|rfl|exact hx0.symm|(simp;done));done)|(first|rfl|(simp[hx0];rfl)|(simp;rfl)))
def zdW (C:List Pat) (q:Pat):List Pat:=C.map fun c=> .mk q.op q.ctor q.n q.m q.var (q.kids++[c])
theorem ztc {ls:List (List Pat)}{C:List Pat}{a b c d e:Int}:((zeS ls).map (fun l=>Pat.mk a b c d e l)).flatMap (zdW C)=(zeS (ls++[C])).map (fun l=>Pat.mk a b c d e l):=by
 rw[ztp];unfold zbb zdW;rw[List.flatMap_map,List.map_flatMap];congr 1
 funext q
 simp[zei,zgf,mk_n,mk_m,zi1,zcz]
def zct (p:Pat) (i:Nat):List Pat:=(zeS ((p.kids.take i).map zaD)).map fun l=>Pat.mk p.op p.ctor p.n p.m p.var l
theorem zvo (p:Pat):zct p 0=[.mk p.op p.ctor p.n p.m p.var []]:=by unfold zct;simp[zeS]
theorem zr4 {p:Pat}{i:Nat} (h:i<p.kids.length):(zct p i).flatMap (zdW (zaD (nth p.kids i)))=zct p (i+1):=by
 unfold zct;rw[ztc,List.take_succ_eq_append_getElem h,xaf,<-za1 h];rfl
theorem zta {p:Pat}{i:Nat} (h5:p.op≠5) (h:p.kids.length<=i):zct p i=zaD p:=by
 unfold zct;rw[zd2 h5,List.take_of_length_le h]
theorem ztb {n:Nat}{p:Pat} (h:binP (n+1) p=true) (h5:p.op≠5) (i:Nat):(zct p i).length<=(zaD p).length:=by
 unfold zct;rw[xac];exact zsh h h5 i
theorem zr3 {p:Pat}{i:Nat}{q:Pat} (h:q∈zct p i):q.kids.length<=p.kids.length:=by
 unfold zct at h;obtain⟨l,hl,rfl⟩:=List.mem_map.1 h;obtain⟨q0,hq,r,e,hlr,_⟩:=zkQ _ _ _ hl;rw[List.mem_singleton] at hq;rw[hq,List.nil_append] at e;rw[zcz,e,hlr];simp;omega
theorem zo8 {α β:Type}{f:α->List β}{k:Nat} (hf:∀x,(f x).length<=k):∀l:List α,(l.flatMap f).length<=l.length*k
 | []=>by simp
 |x::r=>by
  rw[List.flatMap_cons,xaa,xab,Nat.succ_mul];have:=hf x;have:=zo8 hf r;omega
theorem ze5:∀(n:Nat){p:Pat},binP n p=true->p.ok->(zaD p).length<=40->FnD Tryz.prog 221 [.agg [.d (.i p.op),.d (.i p.ctor),.d (.i p.n),.d (.i p.m),.d (.i p.var),.d (zag p.kids)]] [] (.gl 9 (Pat.cs (zaD p))) [(9,some (.tok (Pat.cs (zaD p)).length 6))]
 |0,p,h,_,_=>by simp[binP] at h
 |n+1,p,h,hok,hlen=>by
  have hok':=(Pat.ok_iff p).1 hok;have hok1:=hok'.1;by_cases h5:p.op=5
  ·have hl:=zlj h h5;have e5:=zgn h5 hl;have l0:=ziu h (i:=0) (by omega);have l1:=ziu h (i:=1) (by omega);have c0:=ze5 n (zeK h (i:=0) (by omega)) (Pats.ok_mem hok'.2 _ (zae (by omega))) (by omega);have c1:=FnD.glD (ze5 n (zeK h (i:=1) (by omega)) (Pats.ok_mem hok'.2 _ (zae (by omega))) (by omega));rw[e5];refine bd Tryz.f221 70 [] [] fun w0 F0 own kept hk=>?_;refine bx 3001 ?_;refine ev ?_;refine sq ?_ ?_<;>intro h1 h1p h1s<;>(try simp only[Q,Pat.cs_len] at h1p);refine xaU (i:=0) sl34 .none rfl rfl rfl rfl (zar (by omega)) rfl ?_;refine evd [] [] ?_;refine Walk.call (cr:=[9]) zmK (c0) rfl .none rfl rfl (LeL.refl _) trivial rfl rfl rfl ?_;refine evd [] [] ?_;refine xaU (i:=1) sl34 .none rfl rfl rfl rfl (zar (by omega)) rfl ?_;refine evd [] [] ?_;refine wc zmK (c1) rfl rfl ?_;refine ap sl34 zz36 rfl rfl rfl (by intro x hx;exact zcp _ x hx) (by simp[Pat.cs_len];omega) ?_;refine evd [] [] ?_;refine dr ?_;refine rn [(9,some (.tok (Pat.cs (zaD (nth p.kids 0)++zaD (nth p.kids 1))).length 6))] (r1 rfl) (.glg ?_) ⟨rfl,rfl⟩ (SubH.get ⟨?_,trivial⟩) (zay rfl);rotate_left 2;exfalso;omega;all_goals (first|((first|rfl|(simp[xat];done));done)|(first|rfl|(simp[xat];rfl)))
  ·have hfl:=ztb h h5;have hfk:=fun(i:Nat) (q:Pat) (hq:q∈zct p i)=>zr3 hq;have hf0:=zvo p;have hfe:=fun(i:Nat) (hi:p.kids.length<=i)=>zta h5 hi;have hfn:=fun(i:Nat) (hi:i<p.kids.length)=>zr4 hi;have hcal:=fun(i:Nat) (hi:i<p.kids.length)=>FnD.glD (ze5 n (zeK h hi) (Pats.ok_mem hok'.2 _ (zae hi)) (by have:=ziu h hi;omega));have hcl:=fun(i:Nat) (hi:i<p.kids.length)=>ziu h hi;have hgl:=fun(C:List Pat) (q:Pat)=>show(zdW C q).length<=C.length from by unfold zdW;simp
   generalize zaD p=SP at *;refine bd Tryz.f221 70 [8] [10,23] fun w0 F0 own kept hk=>?_;refine bx 3001 ?_;refine evs [8] [] ?_;refine sq ?_ ?_<;>intro h1 h1p h1s<;>(try simp only[Q,Pat.cs_len] at h1p);exfalso;omega;refine so ty34 ?_;refine tv ?_;refine xbj 9 sl34 tz36 rfl (by decide) (ks:=[0]) (xs:=[_]) rfl rfl (by decide) (by decide) .none rfl rfl rfl rfl rfl ?_;refine evs [8] [] ?_;refine xak (ι:=Nat) hk (fun i=>[(35,.d (.i (i:Int))),(4,.gl 9 ((zct p i).map Pat.cc)),(32,.any)]) [6,7,8,10,12,13,36,37,38,39,40,41,42,43,44,45,46,47,48,49,50,51,52,53,54,55,56,57,58,59,60,61,62,63,64,65,66,67,68] (fun i=>[(9,some (.tok (((zct p i).map Pat.cc)).length 6))]) (fun i=>i<=p.kids.length) (fun i=>p.kids.length-i) 0 (by omega) ⟨⟨_,rfl,xaq ?_⟩,⟨⟨_,rfl,LeA.glg ?_⟩,⟨⟨_,rfl,.any _⟩,trivial⟩⟩⟩ ⟨zab ?_,trivial⟩ (fun x=>rfl) (fun i hg1=>?_);iterate 3 focus (rfl)
   refine evc [8] [10,23] ?_;refine sq ?_ ?_<;>intro h2 h2p h2s<;>(try simp only[Q,Pat.cs_len] at h2p);refine xaU sl34 .none rfl rfl rfl rfl (zar (by omega)) rfl ?_;refine evs [8] [] ?_;refine ab 3006 tz36 ?_;refine so ty36 ?_;refine tv ?_;refine wc zmK (hcal i (by omega)) rfl rfl ?_;refine evs [8] [] ?_;refine CWp.tokDrop 4 9 rfl rfl ?_;refine evc [8] [] ?_;refine xaE 3 6 .none rfl rfl ?_;refine tv ?_;refine xak (ι:=List (Pat)×List (Pat)) hk (fun x=>[(43,.d (.i (x.1.length:Int))),(8,.gl 3 ((x.1.flatMap (zdW (zaD (nth p.kids i)))).map Pat.cc))]) [10,12,13,44,45,46,47,48,49,50,51,52,53,54,55,56,57,58,59,60,61,62,63,64,65,66] (fun x=>[(3,some (.tok (((x.1.flatMap (zdW (zaD (nth p.kids i)))).map Pat.cc)).length 6))]) (fun x=>x.1++x.2=zct p i) (fun x=>x.2.length) ([],zct p i) (by simp) ⟨⟨_,rfl,xaq ?_⟩,⟨⟨_,rfl,LeA.glg ?_⟩,trivial⟩⟩ ⟨zab ?_,trivial⟩ (fun x=>rfl) (fun x hg2=>?_);iterate 3 focus (rfl)
   obtain⟨pre2,rest2⟩:=x;dsimp only at hg2 ⊢;refine evc [8] [10,23] ?_;refine sq ?_ ?_<;>intro h3 h3p h3s<;>(try simp only[Q,Pat.cs_len] at h3p);rcases rest2 with _|⟨q,rest2⟩
   ·exfalso;simp_all
   have hqk:=hfk i q (by rw[<-hg2];simp);have hl2:=congrArg List.length hg2;simp only[xaa,xab] at hl2;have hl2b:=hfl i;refine xaU sl34 .none rfl rfl rfl rfl (zaG hg2) rfl ?_;refine evs [8] [] ?_;refine ab 3010 tz36 ?_;refine so ty36 ?_;refine tv ?_;refine xak (ι:=List (Pat)×List (Pat)) hk (fun x=>[(49,.d (.i (x.1.length:Int))),(8,.gl 3 ((pre2.flatMap (zdW (zaD (nth p.kids i)))++zdW x.1 q).map Pat.cc))]) [12,13,50,51,52,53,54,55,56,57,58,59,60,61,62,63,64,65] (fun x=>[(3,some (.tok (((pre2.flatMap (zdW (zaD (nth p.kids i)))++zdW x.1 q).map Pat.cc)).length 6))]) (fun x=>x.1++x.2=zaD (nth p.kids i)) (fun x=>x.2.length) ([],zaD (nth p.kids i)) (by simp) ⟨⟨_,rfl,xaq ?_⟩,⟨⟨_,rfl,LeA.glg ?_⟩,trivial⟩⟩ ⟨zab ?_,trivial⟩ (fun x=>rfl) (fun x hg3=>?_);iterate 3 focus ((simp[zdW];done))
   obtain⟨pre3,rest3⟩:=x;dsimp only at hg3 ⊢;refine evc [8] [10,23] ?_;refine sq ?_ ?_<;>intro h4 h4p h4s<;>(try simp only[Q,Pat.cs_len] at h4p);rcases rest3 with _|⟨y,rest3⟩
   ·exfalso;simp_all
   have hl3:=congrArg List.length hg3;simp only[xaa,xab] at hl3;have hl3b:=hcl i (by omega);refine xaU sl34 .none rfl rfl rfl rfl (Pat.cs_at' hg3) rfl ?_;refine evs [8] [] ?_;refine ab 3012 tz36 ?_;refine so ty36 ?_;refine tv ?_;refine ab 3013 tz36 ?_;refine so ty36 ?_;refine tv ?_;refine Walk.call (cr:=[77]) zqB (zf1 (xs:=q.kids) (by omega)) rfl .none rfl rfl (LeL.refl _) trivial rfl rfl rfl ?_;refine evd [8] [] ?_;refine si [0] [_] sl34 tz36 ?_;refine ap sl34 zz36 rfl rfl rfl (by intro x hx;first|(simp at hx;subst hx;rfl)|exact zhA _ x hx) (by first|(simp;omega)|(simp only[Pat.cs_len,xaa,xab,xai];omega)) ?_;refine evd [8] [] ?_;refine so ty34 ?_;refine dr ?_;refine si [0] [_] sl34 tz36 ?_;refine ap sl34 zz36 rfl rfl rfl (by intro x hx;first|(simp at hx;subst hx;rfl)|exact zcp _ x hx) (by first|(simp;omega)|(have h10:=hgl pre3 q;have h8:=congrArg List.length hg2;have h9:=congrArg List.length hg3;have h7:=zo8 (hgl (zaD (nth p.kids i))) pre2;have h6:=hfl i;have h5:=hcl i (by omega);simp only[xaa,xab,xac,xai] at *;have h4:pre2.length*(zaD (nth p.kids i)).length<=40*40:=Nat.mul_le_mul (by omega) (by omega);omega)) ?_;refine asg ?_;refine tv ?_;refine ar ?_;refine xah ((pre3++[y],rest3)) ⟨(by have hz:=hg3;rw[<-hz];simp),(by simp),sx ⟨⟨_,rfl,xaq ?_⟩,⟨⟨_,rfl,LeA.glg ?_⟩,trivial⟩⟩ ⟨zab ?_,trivial⟩⟩;iterate 3 focus (first|(simp[zdW];omega)|(simp[zdW,zei,zgf,mk_n,mk_m,zi1,zcz,xat];done))
   have hrest3:rest3=[]:=by
    rcases rest3 with _|⟨a,b⟩
    ·rfl
    ·exfalso;have hz:=congrArg List.length (hg3);simp only[xaa,xab,xac] at hz;omega
   subst hrest3;refine ar ?_;refine xah ((pre2++[q],rest2)) ⟨(by have hz:=hg2;rw[<-hz];simp),(by simp),sx ⟨⟨_,rfl,xaq ?_⟩,⟨⟨_,rfl,LeA.glg ?_⟩,trivial⟩⟩ ⟨zab ?_,trivial⟩⟩;iterate 3 focus (first|(simp;done)|(rw[List.append_nil] at hg3;rw[List.flatMap_append,xaf];simp[zdW,<-hg3];done))
   have hrest2:rest2=[]:=by
    rcases rest2 with _|⟨a,b⟩
    ·rfl
    ·exfalso;have hz:=congrArg List.length (hg2);simp only[xaa,xab,xac] at hz;omega
   subst hrest2;refine CWp.tokRen 4 3 9 rfl rfl (by kernel_rfl) ?_;refine evc [8] [] ?_;refine ar ?_;rw[List.append_nil] at hg2;refine xah (i+1) ⟨(by omega),(by omega),sx ⟨⟨_,rfl,xaq ?_⟩,⟨⟨_,rfl,LeA.glg ?_⟩,⟨⟨_,rfl,.any _⟩,trivial⟩⟩⟩ ⟨zab ?_,trivial⟩⟩;iterate 3 focus (first|rfl|(rw[<-hfn i (by omega),<-hg2];done))
   refine rn [(9,some (.tok (Pat.cs SP).length 6))] (r1 rfl) (.glg ?_) ⟨rfl,rfl⟩ (SubH.get ⟨?_,trivial⟩) (zay rfl);rotate_left 2;all_goals ((((rw[<-hfe i (by omega),show Pat.cs (zct p i)=(zct p i).map Pat.cc from xat _];all_goals rfl));done))
def zdb (p:Pat):List Pat:=if (zaD (zaC p)).length<=40 then zaD (zaC p) else []
def zcM (p:Pat):Bool:=decide ((zaD (zaC p)).length<=40)
theorem zpW {w:List Data}{n:Nat}{t:Ty}{p:Pat} (h:zan w n t p=true) (hok:p.ok):FnD Tryz.prog 124 [.agg [.d (.i p.op),.d (.i p.ctor),.d (.i p.n),.d (.i p.m),.d (.i p.var),.d (zag p.kids)]] [] (.tup [.d (zag (zdb p)),.d (.bool (zcM p))]) []:=by
 have hb:=zim n h;have hbo:=zlh p hok;have hce:=(zmU n hb).1;have hbp:=zdc _ (Nat.le_refl _) hok;have hcs:=zev _ (Nat.le_refl _) hbo;have hsp:=fun h40=>FnD.glD (ze5 n hb hbo h40);rw[hce] at hcs;unfold zdb zcM;generalize zaC p=b at *;by_cases h40:(zaD b).length<=40
 ·rw[if_pos h40,decide_eq_true h40];have hc40:cap ((zaD b).length:Int)<=40:=by unfold cap;split<;>omega
  refine bd Tryz.f124 12 [] [] fun w0 F0 own kept hk=>?_;refine bx 3001 ?_;refine ev ?_;refine wc zkh (hbp) rfl rfl ?_;refine ab 3004 tz36 ?_;refine so ty36 ?_;refine tv ?_;refine wc zmJ (hcs) rfl rfl ?_;refine ev ?_;refine sq ?_ ?_<;>intro h1 h1p h1s<;>(try simp only[Q] at h1p);exfalso;omega;refine wc zmK (hsp h40) rfl rfl ?_;refine ev ?_;refine rn0 (r2 rfl rfl) (.tup (.cons (.eqd ?_) (.cons (.eqd ?_) .nil)));rotate_left 2;all_goals (rfl)
 ·rw[if_neg h40,decide_eq_false h40];have hc40:¬cap ((zaD b).length:Int)<=40:=by unfold cap;split<;>omega
  refine bd Tryz.f124 12 [] [] fun w0 F0 own kept hk=>?_;refine bx 3001 ?_;refine ev ?_;refine wc zkh (hbp) rfl rfl ?_;refine ab 3004 tz36 ?_;refine so ty36 ?_;refine tv ?_;refine wc zmJ (hcs) rfl rfl ?_;refine ev ?_;refine sq ?_ ?_<;>intro h1 h1p h1s<;>(try simp only[Q] at h1p);refine rn0 (r2 rfl rfl) (.tup (.cons (.nild ?_) (.cons (.eqd ?_) .nil)));rotate_left 2;exfalso;omega;all_goals (rfl)
structure Spa (w:List Data):Prop where
 dp:Dp w
 ctors:∀t,InS (w.length*4) t->(zal w t).length<=4/\(zal w t).Nodup
 args:∀t c,InS (w.length*4) t->c∈zal w t->(zaa w t c).length<=3
theorem zko (k:Int):∀(l:List Ctor) (i:Nat),(zaX k i l).Pairwise (· < ·)
 | [],_=>by simp[zaX]
 |x::r,i=>by
  unfold zaX;have ih:=zko k r (i+1);split
  ·refine List.pairwise_cons.2 ⟨fun y hy=>?_,ih⟩;obtain⟨j,rfl,h1,_⟩:=zgQ k r (i+1) y hy;omega
  ·exact ih
theorem zh2 {w:List Data} (hs:WSmall w) (hv:za2 w=true):Spa w:=by
 have hd:=zmA hs hv;have hW:=(zcC w).1 hv;refine⟨hd,fun t ht=>?_,fun t c ht hc=>?_⟩
 ·unfold zal;split
  ·simp
  ·rename_i he;refine⟨?_,(zko _ _ _).imp (fun h=>by omega)⟩;rcases ht with h|⟨h1,h2⟩
   ·exact absurd h he
   ·have:=hd.ct _ h1;rw[h2] at this;exact this
 ·have hti:=zbo ht;obtain⟨d,h1,h2,j,h3,h4⟩:=zcH (a:=t.data) (k:=t.index) hti hc;have hco:=hW.ctor _ (zae h2) _ (zae h4);simp only[zbD,xad,decide_eq_true_eq] at hco;unfold zaa;rw[h1,h3];simp only[Int.toNat_natCast,xac];omega
abbrev intQ (n m:Int):Pat:= .mk 3 0 n m 0 []
abbrev zbw (c:Int) (l:List Pat):Pat:= .mk 4 c 0 0 0 l
def zcb (w:List Data) (t:Ty) (c:Int):Pat:=zbw c ((zaa w t c).map fun _=>anyQ)
def lowQ (p:Pat):Int:=if p.op=1 then 0 else p.n
def zcU (p:Pat):Int:=if p.op=1 then 9 else p.m
def minQ (a b:Int):Int:=if b<a then b else a
def maxQ (a b:Int):Int:=if a<b then b else a
def zb1 (n m:Int):List Pat:=if n<=m then [intQ n m] else []
def zb4 (f:Pat->Pat->Option Pat):List Pat->List Pat->List Pat->Option (List Pat)
 |p::r,q::s,acc=>match f p q with
  |none=>none
  |some x=>zb4 f r s (acc++[x])
 |_,_,acc=>some acc
def zaL:Nat->Pat->Pat->Option Pat
 |0,_,_=>none
 |n+1,a,b=>if a.op=1 then some b else if b.op=1 then some a else if a.op=3 then (if maxQ a.n b.n<=minQ a.m b.m then some (intQ (maxQ a.n b.n) (minQ a.m b.m)) else none)
  else if a.ctor=b.ctor then (zb4 (zaL n) a.kids b.kids []).map (zbw a.ctor) else none
def zaR (f:Ty->Pat->Pat->List Pat) (c:Int):List Ty->List Pat->List Pat->List Pat->List Pat
 |u::r,x::s,y::q,front=>(f u x y).map (fun z=>zbw c (front++[z]++s))++(match zaL 11 x y with
  |none=>[]
  |some both=>zaR f c r s q (front++[both]))
 |_,_,_,_=>[]
def zcS (f:Ty->Pat->Pat->List Pat) (w:List Data) (t:Ty) (a b:Pat):List Pat:=if a.ctor=b.ctor then zaR f a.ctor (zaa w t a.ctor) a.kids b.kids [] else [a]
def zez (a b:Pat):List Pat:=zb1 (lowQ a) (minQ (zcU a) (b.n-1))++zb1 (maxQ (lowQ a) (b.m+1)) (zcU a)
def zav (w:List Data):Nat->Ty->Pat->Pat->List Pat
 |0,_,_,_=>[]
 |n+1,t,a,b=>if b.op=1 then [] else if b.op=3 then zez a b else if a.op=1 then (zal w t).flatMap fun c=>zcS (zav w n) w t (zcb w t c) b else zcS (zav w n) w t a b
section
variable {w:List Data}{n:Nat}{t:Ty}{a b:Pat}
theorem zhx (h:b.op=1):zav w (n+1) t a b=[]:=by unfold zav;rw[if_pos h]
theorem zi0 (h:b.op=3):zav w (n+1) t a b=zez a b:=by unfold zav;rw[if_neg (by omega),if_pos h]
theorem zhy (h:b.op=4) (h2:a.op=1):zav w (n+1) t a b=(zal w t).flatMap fun c=>zcS (zav w n) w t (zcb w t c) b:=by
 conv=>lhs;unfold zav
 rw[if_neg (by omega),if_neg (by omega),if_pos h2]
theorem zec (h:b.op=4) (h2:a.op=4):zav w (n+1) t a b=zcS (zav w n) w t a b:=by
 conv=>lhs;unfold zav
 rw[if_neg (by omega),if_neg (by omega),if_neg (by omega)]
theorem zkG (h:a.op=1):zaL (n+1) a b=some b:=by unfold zaL;rw[if_pos h]
theorem zkH (h:a.op≠1) (h2:b.op=1):zaL (n+1) a b=some a:=by unfold zaL;rw[if_neg h,if_pos h2]
theorem zkI (h:a.op=3) (h2:b.op≠1):zaL (n+1) a b=if maxQ a.n b.n<=minQ a.m b.m then some (intQ (maxQ a.n b.n) (minQ a.m b.m)) else none:=by
 conv=>lhs;unfold zaL
 rw[if_neg (by omega),if_neg h2,if_pos h]
theorem zkJ (h:a.op=4) (h2:b.op≠1) (hc:a.ctor=b.ctor):zaL (n+1) a b=(zb4 (zaL n) a.kids b.kids []).map (zbw a.ctor):=by
 conv=>lhs;unfold zaL
 rw[if_neg (by omega),if_neg h2,if_neg (by omega),if_pos hc]
theorem ziZ (h:a.op=4) (h2:b.op≠1) (hc:¬a.ctor=b.ctor):zaL (n+1) a b=none:=by
 conv=>lhs;unfold zaL
 rw[if_neg (by omega),if_neg h2,if_neg (by omega),if_neg hc]
end
theorem zcc {w:List Data}{n:Nat}{t:Ty}{p:Pat} (h:zai w n t p=true) (h3:p.op=3):t.data = -1/\0<=p.n/\p.n<=p.m/\p.m<=9:=by
 have ho:=(zhQ h).1;unfold ownP at ho;have:=(of_decide_eq_true ho).2.2.2.2;omega
theorem zaM {w:List Data}{n:Nat}{t:Ty}{p:Pat} (h:zai w n t p=true) (h4:p.op=4):p.ctor∈zal w t/\t.data≠ -1/\p.kids.length=(zaa w t p.ctor).length/\p=zbw p.ctor p.kids:=by
 obtain⟨ho,hl⟩:=zhQ h;have hm:=zb2 ho h4;refine⟨hm,fun e=>by unfold zal at hm;rw[if_pos e] at hm;simp at hm,by rw[zaU h4] at hl;exact hl, ?_⟩;unfold ownP at ho;have hh:=of_decide_eq_true ho;have h1:=hh.2.1 (by omega);have h2:=hh.2.2.1 (by omega);obtain⟨op,c,m,k,v,ks⟩:=p;change op=4 at h4
 change v=0 at h1
 change m=0/\k=0 at h2
 rw[h4,h1,h2.1,h2.2];rfl
theorem zpi {w:List Data}{n:Nat}{t:Ty}{a b:Int} (ht:t.data = -1) (h0:0<=a) (h1:a<=b) (h2:b<=9):zai w (n+1) t (intQ a b)=true:=by
 unfold zai;have e:zac w t (intQ a b)=[]:=rfl;rw[e];have ho:ownP w t (intQ a b)=true:=by
  unfold ownP;refine decide_eq_true ⟨fun h=>?_,fun _=>rfl,fun h=>absurd rfl h,fun _=>rfl,.inr (.inr (.inr (.inr (.inl ⟨rfl,ht,h0,h1,h2⟩))))⟩;exfalso;change (3:Int)=2\/(3:Int)=6 at h;omega
 rw[ho];rfl
theorem zjk {w:List Data}{n:Nat}{t:Ty}{c:Int}{l:List Pat} (hc:c∈zal w t) (hl:l.length=(zaa w t c).length) (hk:∀i,i<l.length->zai w n (nth (zaa w t c) i) (nth l i)=true):zai w (n+1) t (zbw c l)=true:=by
 unfold zai;have e:zac w t (zbw c l)=zaa w t c:=zaU rfl;have ho:ownP w t (zbw c l)=true:=by
  unfold ownP;refine decide_eq_true ⟨fun h=>?_,fun _=>rfl,fun _=>⟨rfl,rfl⟩,fun h=>absurd rfl h,.inr (.inr (.inr (.inr (.inr ⟨rfl,hc⟩))))⟩;exfalso;change (4:Int)=2\/(4:Int)=6 at h;omega
 rw[ho,e,zcz];exact zbs hl.symm (fun i hi=>hk i (by omega))
theorem zhz {w:List Data}{n m:Nat} (h:n<=m){t:Ty}{p:Pat} (hp:zai w n t p=true):zai w m t p=true:=by
 induction h with
 |refl=>exact hp
 |step _ ih=>exact zgG _ ih
theorem zc2 {w:List Data}{n:Nat}{t:Ty}{c:Int} (hc:c∈zal w t):zai w (n+2) t (zcb w t c)=true:=by
 unfold zcb;refine zjk hc (by simp) (fun i hi=>?_);have e:nth ((zaa w t c).map fun _=>anyQ) i=anyQ:=by
  rw[za1 hi];simp
 rw[e];exact zke
theorem znl {f:Pat->Pat->Option Pat}{a b:List Pat}{i:Nat}{acc:List Pat} (h1:i<a.length) (h2:i<b.length) (h:f (nth a i) (nth b i)=none):zb4 f (a.drop i) (b.drop i) acc=none:=by
 rw[zaH h1,zaH h2,zb4,h]
theorem znm {f:Pat->Pat->Option Pat}{a b:List Pat}{i:Nat}{acc:List Pat}{x:Pat} (h1:i<a.length) (h2:i<b.length) (h:f (nth a i) (nth b i)=some x):zb4 f (a.drop i) (b.drop i) acc=zb4 f (a.drop (i+1)) (b.drop (i+1)) (acc++[x]):=by
 rw[zaH h1,zaH h2,zb4,h]
theorem zfl {f:Pat->Pat->Option Pat}{a b:List Pat}{i:Nat}{acc:List Pat} (h1:a.length<=i):zb4 f (a.drop i) (b.drop i) acc=some acc:=by
 rw[List.drop_eq_nil_of_le h1];cases b.drop i<;>rfl
theorem zjI {f:Pat->Pat->Option Pat}:∀ {a b acc l:List Pat},a.length=b.length->zb4 f a b acc=some l->∃r,l=acc++r/\r.length=a.length/\∀i,i<a.length->f (nth a i) (nth b i)=some (nth r i)
 | [],[],acc,l,_,h=>by
  simp only[zb4,Option.some.injEq] at h;exact⟨[],by simp[h],rfl,fun i hi=>by simp at hi⟩
 |p::r,q::s,acc,l,hl,h=>by
  unfold zb4 at h;cases hf:f p q with
  |none=>rw[hf] at h;cases h
  |some x=>
   rw[hf] at h;obtain⟨z,e,hz,hm⟩:=zjI (a:=r) (b:=s) (by simpa using hl) h;refine⟨x::z,by rw[e];simp,by simp[hz],fun i hi=>?_⟩;cases i with
   |zero=>exact hf
   |succ i=>exact hm i (by simpa using hi)
 | [],_::_,_,_,hl,_=>by simp at hl
 |_::_,[],_,_,hl,_=>by simp at hl
theorem zdk {w:List Data}{n m:Nat}{t:Ty}{a b:Pat} (ha:zai w n t a=true) (hb:zai w m t b=true) (h1:a.op≠1) (h2:b.op≠1):a.op=b.op:=by
 have oa:=zbF ha;have ob:=zbF hb;rcases oa with h|h|h
 ·exact absurd h h1
 ·rcases ob with h' | h' | h'
  ·exact absurd h' h2
  ·omega
  ·exact absurd (zcc ha h).1 (zaM hb h').2.1
 ·rcases ob with h' | h' | h'
  ·exact absurd h' h2
  ·exact absurd (zcc hb h').1 (zaM ha h).2.1
  ·omega
theorem zwP (a b:Int):minQ a b<=a/\minQ a b<=b:=by unfold minQ;split<;>omega
theorem zwN (a b:Int):a<=maxQ a b/\b<=maxQ a b:=by unfold maxQ;split<;>omega
theorem zwQ (a b:Int):minQ a b=a\/minQ a b=b:=by unfold minQ;split<;>omega
theorem zwO (a b:Int):maxQ a b=a\/maxQ a b=b:=by unfold maxQ;split<;>omega
theorem zpp {w:List Data}:∀(n m:Nat){t:Ty}{a b x:Pat},zai w m t a=true->zai w m t b=true->zaL n a b=some x->zai w m t x=true
 |0,m,t,a,b,x,_,_,h=>by simp[zaL] at h
 |n+1,0,t,a,b,x,ha,_,_=>by simp[zai] at ha
 |n+1,m+1,t,a,b,x,ha,hb,h=>by
  by_cases h1:a.op=1
  ·rw[zkG h1] at h;cases h;exact hb
  by_cases h2:b.op=1
  ·rw[zkH h1 h2] at h;cases h;exact ha
  have hs:=zdk ha hb h1 h2;have oa:=zbF ha;by_cases h3:a.op=3
  ·rw[zkI h3 h2] at h;split at h
   ·cases h
    have ia:=zcc ha h3;have ib:=zcc hb (by omega);have q1:=zwQ a.m b.m;have q2:=zwO a.n b.n;refine zpi ia.1 (by omega) (by assumption) (by omega)
   ·cases h
  have h4:a.op=4:=by omega
  by_cases hc:a.ctor=b.ctor
  ·rw[zkJ h4 h2 hc] at h;obtain⟨m1,m2,m3,m4⟩:=zaM ha h4;obtain⟨n1,n2,n3,n4⟩:=zaM hb (by omega);rw[<-hc] at n3;cases hl:zb4 (zaL n) a.kids b.kids [] with
   |none=>rw[hl] at h;cases h
   |some l=>
    rw[hl] at h;simp only[Option.map_some,Option.some.injEq] at h;subst h;obtain⟨r,e,hr,hm⟩:=zjI (by omega) hl;rw[List.nil_append] at e;subst e;refine zjk m1 (by omega) (fun i hi=>?_);have ka:=za4 ha (i:=i) (by omega);have kb:=za4 hb (i:=i) (by omega);rw[zaU h4] at ka;rw[zaU (by omega),<-hc] at kb;exact zpp n m ka kb (hm i (by omega))
  ·rw[ziZ h4 h2 hc] at h;cases h
theorem znA {w:List Data}{n:Nat}{t:Ty}{a b:Int} (ht:t.data = -1) (h0:0<=a) (h2:b<=9):∀x∈zb1 a b,zai w (n+1) t x=true:=by
 intro x hx;unfold zb1 at hx;split at hx
 ·rename_i h1;rw[List.mem_singleton] at hx;rw[hx];exact zpi ht h0 h1 h2
 ·simp at hx
theorem zmc {w:List Data}{n:Nat}{t:Ty}{a:Pat} (ha:zai w n t a=true) (ht:t.data = -1):0<=lowQ a/\zcU a<=9/\lowQ a<=zcU a:=by
 have oa:=zbF ha;unfold lowQ zcU;by_cases h1:a.op=1
 ·rw[if_pos h1,if_pos h1];omega
 ·rw[if_neg h1,if_neg h1];by_cases h3:a.op=3
  ·have:=zcc ha h3;omega
  ·exact absurd ht (zaM ha (by omega)).2.1
theorem ztj (a b:Pat):(zez a b).length<=2:=by
 have h:∀x y,(zb1 x y).length<=1:=fun x y=>by unfold zb1;split<;>simp
 unfold zez;rw[xaa];have:=h (lowQ a) (minQ (zcU a) (b.n-1));have:=h (maxQ (lowQ a) (b.m+1)) (zcU a);omega
theorem zr8 {w:List Data}{f:Ty->Pat->Pat->List Pat}{m:Nat}{t:Ty}{c:Int} (hc:c∈zal w t) (hf:∀u x y,zai w m u x=true->zai w m u y=true->∀z∈f u x y,zai w m u z=true):
  ∀(i:Nat){xs bs front:List Pat},front.length=i->xs.length+i=(zaa w t c).length->bs.length=xs.length->(∀j,j<i->zai w m (nth (zaa w t c) j) (nth front j)=true)->
   (∀j,j<xs.length->zai w m (nth (zaa w t c) (i+j)) (nth xs j)=true/\zai w m (nth (zaa w t c) (i+j)) (nth bs j)=true)->
   ∀x∈zaR f c ((zaa w t c).drop i) xs bs front,zai w (m+1) t x=true:=by
 intro i xs;induction xs generalizing i with
 |nil=>
  intro bs front _ _ _ _ _ x hx;cases hT:(zaa w t c).drop i<;>(rw[hT] at hx;simp[zaR] at hx)
 |cons a0 s ih=>
  intro bs front hfl hal hbl hfr hab x hx;cases bs with
  |nil=>simp at hbl
  |cons b0 q=>
   have hi:i<(zaa w t c).length:=by simp at hal;omega
   rw[zaH hi] at hx;have h0:=hab 0 (by simp);simp only[Nat.add_zero] at h0;have e0:nth (a0::s) 0=a0:=rfl;have e1:nth (b0::q) 0=b0:=rfl;rw[e0,e1] at h0;unfold zaR at hx;have hpiece:∀z,zai w m (nth (zaa w t c) i) z=true->∀j,j<(front++[z]++s).length->zai w m (nth (zaa w t c) j) (nth (front++[z]++s) j)=true:=fun z hz j hj=>by
    by_cases hj1:j<i
    ·have e:nth (front++[z]++s) j=nth front j:=by
      simp only[nth,List.getD,List.append_assoc];rw[List.getElem?_append_left (by omega)]
     rw[e];exact hfr j hj1
    ·by_cases hj2:j=i
     ·have e:nth (front++[z]++s) j=z:=by
       simp only[nth,List.getD,List.append_assoc];rw[List.getElem?_append_right (by omega),show j-front.length=0 by omega];rfl
      rw[e,hj2];exact hz
     ·obtain⟨k,rfl⟩:∃k,j=i+1+k:=⟨j-(i+1),by omega⟩;have e:nth (front++[z]++s) (i+1+k)=nth (a0::s) (k+1):=by
       simp only[nth,List.getD,List.append_assoc];rw[List.getElem?_append_right (by omega),show i+1+k-front.length=k+1 by omega];rfl
      rw[e];have:=(hab (k+1) (by simp at hj ⊢;omega)).1;rwa [show i+(k+1)=i+1+k by omega] at this
   rcases List.mem_append.1 hx with hx|hx
   ·obtain⟨z,hz,rfl⟩:=List.mem_map.1 hx;refine zjk hc (by simp at hal ⊢;omega) (hpiece z (hf _ _ _ h0.1 h0.2 z hz))
   ·cases hm:zaL 11 a0 b0 with
    |none=>rw[hm] at hx;simp at hx
    |some both=>
     rw[hm] at hx;have hbp:=zpp 11 m h0.1 h0.2 hm;refine ih (i+1) (bs:=q) (front:=front++[both]) (by simp[hfl]) (by simp at hal ⊢;omega) (by simpa using hbl) (fun j hj=>?_) (fun j hj=>?_) x hx
     ·have:=hpiece both hbp j (by simp;omega);have e:nth (front++[both]++s) j=nth (front++[both]) j:=by
       simp only[nth,List.getD];rw[List.getElem?_append_left (by simp;omega)]
      rwa [e] at this
     ·have:=hab (j+1) (by simpa using hj);rwa [show i+(j+1)=i+1+j by omega] at this
theorem zfL {w:List Data}:∀(n m:Nat){t:Ty}{a b:Pat},n<m->zai w m t a=true->zai w n t b=true->∀x∈zav w n t a b,zai w m t x=true
 |0,m,t,a,b,_,_,hb=>by simp[zai] at hb
 |n+1,0,t,a,b,hn,_,_=>by omega
 |n+1,m+1,t,a,b,hn,ha,hb=>by
  have ob:=zbF hb;have oa:=zbF ha;have hf:∀u x y,zai w m u x=true->zai w n u y=true->∀z∈zav w n u x y,zai w m u z=true:=fun u x y hx hy=>zfL n m (by omega) hx hy;have hcc:∀a,zai w (m+1) t a=true->a.op=4->b.op=4->∀x∈zcS (zav w n) w t a b,zai w (m+1) t x=true:=fun a ha h4 h4b=>by
   obtain⟨m1,m2,m3,m4⟩:=zaM ha h4;obtain⟨n1,n2,n3,n4⟩:=zaM hb h4b;intro x hx;unfold zcS at hx;split at hx
   ·rename_i hc;have key:=zr8 (w:=w) (f:=fun u x y=>if zai w m u x=true/\zai w n u y=true then zav w n u x y else []) (m:=m) (t:=t) (c:=a.ctor) m1 (fun u x y hx hy z hz=>by
     split at hz
     ·rename_i hh;exact hf u x y hh.1 hh.2 z hz
     ·simp at hz) 0 (xs:=a.kids) (bs:=b.kids) (front:=[]) rfl (by omega) (by rw[hc] at m3;omega) (fun j hj=>by omega) (fun j hj=>by
      have ka:=za4 ha (i:=j) hj;have kb:=za4 hb (i:=j) (by rw[hc] at m3;omega);rw[zaU h4] at ka;rw[zaU h4b,<-hc] at kb;rw[Nat.zero_add];exact⟨ka,zhz (by omega) kb⟩) x
    refine key ?_;have e:∀(ts:List Ty) (xs bs front:List Pat),(∀j,j<ts.length->j<xs.length->j<bs.length->zai w m (nth ts j) (nth xs j)=true/\zai w n (nth ts j) (nth bs j)=true)->
      zaR (fun u x y=>if zai w m u x=true/\zai w n u y=true then zav w n u x y else []) a.ctor ts xs bs front=zaR (zav w n) a.ctor ts xs bs front:=by
     intro ts;induction ts with
     |nil=>intro xs bs front _;simp[zaR]
     |cons u r ih=>
      intro xs bs front h;cases xs with
      |nil=>simp[zaR]
      |cons x s=>
       cases bs with
       |nil=>simp[zaR]
       |cons y q=>
        have h0:=h 0 (by simp) (by simp) (by simp);change zai w m u x=true/\zai w n u y=true at h0
        unfold zaR;rw[if_pos h0];congr 1
        cases hmm:zaL 11 x y with
        |none=>rfl
        |some both=>exact ih s q (front++[both]) (fun j h1 h2 h3=>h (j+1) (by simpa using h1) (by simpa using h2) (by simpa using h3))
    rw[List.drop_zero,e _ _ _ _ (fun j h1 h2 h3=>?_)]
    ·exact hx
    ·have ka:=za4 ha (i:=j) h2;have kb:=za4 hb (i:=j) h3;rw[zaU h4] at ka;rw[zaU h4b,<-hc] at kb;exact⟨ka,kb⟩
   ·rw[List.mem_singleton] at hx;rw[hx];exact ha
  rcases ob with h1|h3|h4
  ·rw[zhx h1];simp
  ·rw[zi0 h3];intro x hx;have hl:=zmc ha (zcc hb h3).1;have ib:=zcc hb h3;have q1:=zwP (zcU a) (b.n-1);have q2:=zwN (lowQ a) (b.m+1);unfold zez at hx;rcases List.mem_append.1 hx with h|h
   ·exact znA ib.1 (by omega) (by omega) x h
   ·exact znA ib.1 (by omega) (by omega) x h
  ·by_cases ha1:a.op=1
   ·rw[zhy h4 ha1];intro x hx;obtain⟨c,hc,hx⟩:=List.mem_flatMap.1 hx;refine hcc _ ?_ rfl h4 x hx;obtain⟨k,rfl⟩:∃k,m=k+1:=⟨m-1,by omega⟩;exact zc2 hc
   ·have ha4:a.op=4:=by
     have:=zdk ha hb ha1 (by omega);omega
    rw[zec h4 ha4];exact hcc a ha ha4 h4
end Go.Proofs.YtlfipehhbdjnjaaGreat
