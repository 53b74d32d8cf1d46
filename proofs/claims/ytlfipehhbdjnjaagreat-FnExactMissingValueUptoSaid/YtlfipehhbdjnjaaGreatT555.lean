/-
  THE ABSTRACT WALK AND THE WALKS, part 5 of 6: the parts F73, F82, F83, F38, F79, F59, F80, F11, F17, F43, F44, F45, F46, F60, F61, F30, F63, F81, F84, F136, F110, F113, F120, G5, F122, F125, F123, F94, F95, F39, F96, F121, F126, F127, F137, F141, F142, G6, F147, F145.
-/
import Derived.Test.YtlfipehhbdjnjaaGreatT554
namespace Go.Proofs.YtlfipehhbdjnjaaGreat
open Go
set_option linter.unusedSimpArgs false
set_option linter.unusedVariables false
set_option maxRecDepth 100000
set_option maxHeartbeats 2000000
abbrev zhN (o:List Pat):List D:=[.sl (Pat.cs o)]
abbrev zi3 (ls:List (List Pat)):D:= .sl (ls.map zhN)
theorem zsj {N:Nat} (acc:List (List Pat)) (l:List Pat):(zbk (acc.take N) l).take N=(zbk acc l).take N:=by
 by_cases h:acc.length<=N
 ·rw[List.take_of_length_le h]
 have e0:∀a:List (List Pat),zbk a []=[]:=fun a=>by unfold zbk;simp
 cases l with
 |nil=>rw[e0,e0]
 |cons c r=>
  have e:zbk acc (c::r)=zbk (acc.take N) (c::r)++zbk (acc.drop N) (c::r):=by
   unfold zbk;rw[<-List.flatMap_append,List.take_append_drop]
  rw[e,zem];rw[zgx,List.length_take,Nat.min_eq_left (by omega),xab];exact Nat.le_mul_of_pos_right _ (by omega)
theorem zsk {N:Nat} (acc:List (List Pat)) (l:List Pat):(zbk acc (l.take N)).take N=(zbk acc l).take N:=by
 by_cases h:l.length<=N
 ·rw[List.take_of_length_le h]
 cases acc with
 |nil=>rfl
 |cons q r=>
  have e:∀l:List Pat,zbk (q::r) l=l.map (fun c=>q++[c])++zbk r l:=fun l=>by unfold zbk;rw[List.flatMap_cons]
  rw[e,e,zem (by rw[xac,List.length_take];omega),zem (by rw[xac];omega),List.map_take,List.take_take,Nat.min_self]
def tupQ (m:Nat) (ls:List (List Pat)):List (List Pat):=ls.foldl (fun acc l=>(zbk acc l).take (m+1)) [[]]
theorem zkO (m:Nat) (ls:List (List Pat)) (l:List Pat):tupQ m (ls++[l])=(zbk (tupQ m ls) l).take (m+1):=by
 unfold tupQ;rw[List.foldl_append];rfl
theorem zq5 (m:Nat):∀(ls:List (List Pat)) (acc:List (List Pat)),(ls.map (List.take (m+1))).foldl (fun acc l=>(zbk acc l).take (m+1)) (acc.take (m+1))=(ls.foldl zbk acc).take (m+1)
 | [],acc=>rfl
 |l::r,acc=>by
  rw[xae,List.foldl_cons,List.foldl_cons,zsk,zsj];exact zq5 m r (zbk acc l)
theorem zu9 (m:Nat) (ls:List (List Pat)):tupQ m (ls.map (List.take (m+1)))=(zeV ls).take (m+1):=by
 have h:=zq5 m ls [[]];have e:([[]]:List (List Pat)).take (m+1)=[[]]:=by simp
 rw[e] at h;exact h
theorem zq3 (m:Nat) (ls:List (List Pat)):(tupQ m ls).length<=m+1:=by
 have key:∀(ls acc:List (List Pat)),acc.length<=m+1->(ls.foldl (fun acc l=>(zbk acc l).take (m+1)) acc).length<=m+1:=by
  intro ls;induction ls with
  |nil=>intro acc h;exact h
  |cons l r ih=>intro acc h;exact ih _ (by rw[List.length_take];omega)
 exact key ls [[]] (by simp)
theorem zq4 (m:Nat){ls:List (List Pat)}{o:List Pat} (h:o∈tupQ m ls):o.length=ls.length:=by
 have key:∀(ls acc:List (List Pat)) (n:Nat),(∀o∈acc,o.length=n)->∀o∈ls.foldl (fun acc l=>(zbk acc l).take (m+1)) acc,o.length=n+ls.length:=by
  intro ls;induction ls with
  |nil=>intro acc n h o ho;exact h o ho
  |cons l r ih=>
   intro acc n h o ho;have:=ih _ (n+1) (fun o' ho'=>by
    have ho':=List.mem_of_mem_take ho';unfold zbk at ho';simp only[List.mem_flatMap,List.mem_map] at ho';obtain⟨p,hp,q,_,rfl⟩:=ho';simp[h p hp]) o ho
   simp only[xab];omega
 have:=key ls [[]] 0 (by simp) o h;simpa using this
def zla (l:List Pat) (o:List Pat):List (List Pat):=l.map fun y=>o++[y]
theorem zog (acc:List (List Pat)) (l:List Pat):zbk acc l=acc.flatMap (zla l):=rfl
theorem zq1 {X:List (List Pat)}{l:List Pat}{o:List Pat}{j m:Nat} (hc:¬j<l.length\/¬((X++(l.take j).map fun y=>o++[y]).take (m+1)).length<=m):
  (X++(l.take j).map fun y=>o++[y]).take (m+1)=(X++zla l o).take (m+1):=zu7 hc
theorem zt7 {α:Type}{N:Nat} (a b:List α):(a.take N++b.take N).take N=(a++b).take N:=by
 by_cases h:a.length<=N
 ·rw[List.take_of_length_le h,List.take_append,List.take_append,List.take_take,Nat.min_eq_left (by omega)]
 ·rw[zem (by rw[List.length_take];omega),zem (by omega),List.take_take,Nat.min_self]
def za8 (p:Pat):List Pat:=(zaJ p).take 401
theorem zt3 {p:Pat} (h:p.op=5) (hk:p.kids.length=2):za8 p=(za8 (nth p.kids 0)++za8 (nth p.kids 1)).take 401:=by
 unfold za8;rw[zhA h hk,zt7]
theorem zt4 {p:Pat} (h:p.op≠5):za8 p=(tupQ 400 (p.kids.map za8)).map fun l=> .mk p.op p.ctor p.n p.m p.var l:=by
 unfold za8;rw[ze3 h,<-List.map_take];congr 1
 have:=zu9 400 (p.kids.map zaJ);rw[List.map_map] at this;exact this.symm
theorem zg8 (p:Pat):(za8 p).length<=401:=by unfold za8;rw[List.length_take];omega
theorem zda:∀(n:Nat){p:Pat},p.size<=n->p.ok->FnD Tryz.prog 64 [.agg [.d (.i p.op),.d (.i p.ctor),.d (.i p.n),.d (.i p.m),.d (.i p.var),.d (zaj p.kids)]] [] (.agg [.d (.i (zaQ p).op),.d (.i (zaQ p).ctor),.d (.i (zaQ p).n),.d (.i (zaQ p).m),.d (.i (zaQ p).var),.d (zaj (zaQ p).kids)]) []
 |0,p,h,_=>by rw[Pat.size_eq] at h;omega
 |n+1,p,h,hok=>by
  rw[Pat.size_eq] at h;rw[Pat.ok_iff] at hok;have hok1:=hok.1;by_cases h2:p.op=2
  ·rw[zrr h2];refine bd Tryz.f64 42 [] [] fun w0 F0 own kept hk=>?_;refine bx 3001 ?_;refine ab 3002 tz36 ?_;refine tv ?_;refine sq ?_ ?_<;>intro h1 h1p h1s<;>(try simp only[Q] at h1p);refine bu [0] [_] st36 ?_;refine so ty36 ?_;refine tv ?_;refine rn0 (.cons (.cellA ty36 rfl rfl rfl) .nil) (.agg (.cons (.eqd ?_) (.cons (.eqd ?_) (.cons (.eqd ?_) (.cons (.eqd ?_) (.cons (.eqd ?_) (.cons (.nild ?_) .nil)))))));rotate_left 6;exfalso;omega;all_goals (rfl)
  by_cases h6:p.op=6/\0<p.kids.length
  ·rw[zrs h6.1 h6.2];refine bd Tryz.f64 42 [] [] fun w0 F0 own kept hk=>?_;refine bx 3001 ?_;refine ab 3002 tz36 ?_;refine tv ?_;refine sq ?_ ?_<;>intro h1 h1p h1s<;>(try simp only[Q,Pat.cs_len] at h1p);exfalso;omega;refine sq ?_ ?_<;>intro h2 h2p h2s<;>(try simp only[Q,Pat.cs_len] at h2p);refine sq ?_ ?_<;>intro h3 h3p h3s<;>(try simp only[Q,Pat.cs_len] at h3p);refine xaP (i:=0) sl34 .none rfl rfl rfl rfl (zas h6.2) rfl ?_;refine ev ?_;refine wc zpq (zda n (p:=nth p.kids 0) (by have:=Pats.size_mem (zai h6.2);omega) (Pats.ok_mem hok.2 _ (zai h6.2))) rfl rfl ?_;refine so ty36 ?_;refine tv ?_;refine rn0 (.cons (.cellA ty36 rfl rfl rfl) .nil) (.agg (.cons (.eqd ?_) (.cons (.eqd ?_) (.cons (.eqd ?_) (.cons (.eqd ?_) (.cons (.eqd ?_) (.cons (.eqd ?_) .nil)))))));rotate_left 6;exfalso;omega;exfalso;omega;all_goals (rfl)
  ·rw[zrt h2 h6];refine bd Tryz.f64 42 [] [] fun w0 F0 own kept hk=>?_;refine bx 3001 ?_;refine ab 3002 tz36 ?_;refine tv ?_;refine sq ?_ ?_<;>intro h1 h1p h1s<;>(try simp only[Q,Pat.cs_len] at h1p);exfalso;omega;refine sq ?_ ?_<;>intro h2 h2p h2s<;>(try simp only[Q,Pat.cs_len] at h2p);refine sq ?_ ?_<;>intro h3 h3p h3s<;>(try simp only[Q,Pat.cs_len] at h3p);exfalso;apply h6;exact⟨by omega,by omega⟩;refine ab 3003 tz36 ?_;refine so ty36 ?_;refine tv ?_;refine so ty34 ?_;refine tv ?_;refine xar 3003 5 7 6 rfl rfl rfl rfl ?_;refine xam (ι:=List (Pat)×List (Pat)) hk (fun x=>[(4,.d (.i (x.1.length:Int)))]) [23,24,25,26,27,28,29,30,31,32,33,34,35,36,37,38,39,40] (fun x=>[(3003,some (.box [.d (.i p.op),.d (.i p.ctor),.d (.i p.n),.d (.i p.m),.d (.i p.var),.gl 7 ((x.1.map zaQ).map Pat.cc)])),(7,some (.tok ((x.1.map zaQ).map Pat.cc).length 6))]) (fun x=>x.1++x.2=p.kids) (fun x=>x.2.length) ([],p.kids) (by simp) ⟨⟨_,rfl,xax ?_⟩,trivial⟩ ⟨?_,⟨zag ?_,trivial⟩⟩ (fun x=>rfl) (fun x hg1=>?_);focus ((simp;done))
   focus (first|rfl|(simp[getH];done))
   focus ((simp;done))
   obtain⟨pre,rest⟩:=x;dsimp only at hg1 ⊢;refine evc [] [] ?_;refine sq ?_ ?_<;>intro h4 h4p h4s<;>(try simp only[Q,Pat.cs_len] at h4p);rcases rest with _|⟨y,rest⟩
   ·exfalso;simp_all
   refine xaP sl34 .none rfl rfl rfl rfl (Pat.cs_at' hg1) rfl ?_;refine evd [] [] ?_;refine wc zpq (zda n (p:=y) (by have:=Pats.size_mem (l:=p.kids) (v:=y) (by rw[<-hg1];simp);omega) (Pats.ok_mem hok.2 y (by rw[<-hg1];simp))) rfl rfl ?_;refine si [0] [_] sl34 tz36 ?_;refine ap sl34 zz36 rfl rfl rfl (by intro x hx;first|(simp at hx;subst hx;rfl)|exact zhg _ x hx) (by have:=congrArg List.length hg1;simp at this;simp;omega) ?_;refine evd [] [] ?_;refine so ty34 ?_;refine dr ?_;refine ar ?_;refine xah ((pre++[y],rest)) ⟨(by have hz:=hg1;rw[<-hz];simp),(by simp),sx ⟨⟨_,rfl,xax ?_⟩,trivial⟩ ⟨?_,⟨zag ?_,trivial⟩⟩⟩;focus ((simp;done))
   focus (first|rfl|(simp[getH];done))
   focus ((simp;done))
   have hrest:rest=[]:=by
    rcases rest with _|⟨a,b⟩
    ·rfl
    ·exfalso;have hz:=congrArg List.length (hg1);simp only[xaa,xab,xac] at hz;omega
   subst hrest;refine so ty36 ?_;refine tv ?_;refine rn0 (.cons (.cellA ty36 rfl rfl rfl) .nil) (.agg (.cons (.eqd ?_) (.cons (.eqd ?_) (.cons (.eqd ?_) (.cons (.eqd ?_) (.cons (.eqd ?_) (.cons (.gld ?_) .nil)))))));rotate_left 6;refine ab 3003 tz36 ?_;refine so ty36 ?_;refine tv ?_;refine so ty34 ?_;refine tv ?_;refine xar 3003 5 7 6 rfl rfl rfl rfl ?_;refine xam (ι:=List (Pat)×List (Pat)) hk (fun x=>[(4,.d (.i (x.1.length:Int)))]) [23,24,25,26,27,28,29,30,31,32,33,34,35,36,37,38,39,40] (fun x=>[(3003,some (.box [.d (.i p.op),.d (.i p.ctor),.d (.i p.n),.d (.i p.m),.d (.i p.var),.gl 7 ((x.1.map zaQ).map Pat.cc)])),(7,some (.tok ((x.1.map zaQ).map Pat.cc).length 6))]) (fun x=>x.1++x.2=p.kids) (fun x=>x.2.length) ([],p.kids) (by simp) ⟨⟨_,rfl,xax ?_⟩,trivial⟩ ⟨?_,⟨zag ?_,trivial⟩⟩ (fun x=>rfl) (fun x hg1=>?_);focus ((simp;done))
   focus (first|rfl|(simp[getH];done))
   focus ((simp;done))
   obtain⟨pre,rest⟩:=x;dsimp only at hg1 ⊢;refine evc [] [] ?_;refine sq ?_ ?_<;>intro h5 h5p h5s<;>(try simp only[Q,Pat.cs_len] at h5p);rcases rest with _|⟨y,rest⟩
   ·exfalso;simp_all
   refine xaP sl34 .none rfl rfl rfl rfl (Pat.cs_at' hg1) rfl ?_;refine evd [] [] ?_;refine wc zpq (zda n (p:=y) (by have:=Pats.size_mem (l:=p.kids) (v:=y) (by rw[<-hg1];simp);omega) (Pats.ok_mem hok.2 y (by rw[<-hg1];simp))) rfl rfl ?_;refine si [0] [_] sl34 tz36 ?_;refine ap sl34 zz36 rfl rfl rfl (by intro x hx;first|(simp at hx;subst hx;rfl)|exact zhg _ x hx) (by have:=congrArg List.length hg1;simp at this;simp;omega) ?_;refine evd [] [] ?_;refine so ty34 ?_;refine dr ?_;refine ar ?_;refine xah ((pre++[y],rest)) ⟨(by have hz:=hg1;rw[<-hz];simp),(by simp),sx ⟨⟨_,rfl,xax ?_⟩,trivial⟩ ⟨?_,⟨zag ?_,trivial⟩⟩⟩;focus ((simp;done))
   focus (first|rfl|(simp[getH];done))
   focus ((simp;done))
   have hrest:rest=[]:=by
    rcases rest with _|⟨a,b⟩
    ·rfl
    ·exfalso;have hz:=congrArg List.length (hg1);simp only[xaa,xab,xac] at hz;omega
   subst hrest;refine so ty36 ?_;refine tv ?_;refine rn0 (.cons (.cellA ty36 rfl rfl rfl) .nil) (.agg (.cons (.eqd ?_) (.cons (.eqd ?_) (.cons (.eqd ?_) (.cons (.eqd ?_) (.cons (.eqd ?_) (.cons (.gld ?_) .nil)))))));rotate_left 6;all_goals (first|rfl|(rw[List.append_nil] at hg1;rw[<-hg1,xaz];done)|(rw[List.append_nil] at hg1;subst hg1;rw[<-xaz];all_goals rfl))
theorem zl4 {ls:List (List Pat)} (hl:ls.length<=1000000000000) (hls:∀l∈ls,l.length<=1000000000000):FnD Tryz.prog 280 [.d (zi3 ls)] [] (.d (zi3 (tupQ 400 ls))) []:=by
 refine bd Tryz.f280 62 [] [] fun w0 F0 own kept hk=>?_;refine xbb sl34 .none rfl ?_;refine si [0] [_] zd2 tz34 ?_;refine ev ?_;refine xam (ι:=List (List Pat)×List (List Pat)) hk (fun x=>[(4,.d (.i (x.1.length:Int))),(3,.d (.sl ((tupQ 400 x.1).map zhN)))]) [5,6,7,10,11,12,13,14,15,16,17,18,19,20,21,22,23,24,25,26,27,28,29,30,31,32,33,34,35,36,37,38,39,40,41,42,43,44,45,46,47,48,49,50,51,52,53,54,55,56,57,58,59,60] (fun x=>[]) (fun x=>x.1++x.2=ls) (fun x=>x.2.length) ([],ls) (by simp) ⟨⟨_,rfl,xax ?_⟩,⟨⟨_,rfl, ?_⟩,trivial⟩⟩ trivial (fun x=>rfl) (fun x hg1=>?_);focus (first|rfl|(simp;done))
 focus (first|exact LeA.refl _|((first|refine LeA.gld ?_|refine LeA.nild ?_);first|rfl|(simp;done)|(rw[zkO,zog,znH (by omega)])))
 obtain⟨pre,rest⟩:=x;dsimp only at hg1 ⊢;refine evc [] [] ?_;refine sq ?_ ?_<;>intro h1 h1p h1s<;>(try simp only[Q,Pat.cs_len,Int.ofNat_lt,Int.ofNat_le] at h1p);rcases rest with _|⟨l,rest⟩
 ·exfalso;simp_all
 have hll:=hls l (by rw[<-hg1];simp);have htl:=zq3 400 pre;refine xbc 3 zd2 .none rfl rfl ?_;refine ev ?_;refine xam (ι:=Nat) hk (fun k=>[(6,.d (.i (k:Int))),(5,.gl 3 (((((tupQ 400 pre).take k).flatMap (zla l)).take (400+1)).map zhN))]) [7,17,18,19,20,21,22,23,24,25,26,27,28,29,30,31,32,33,34,35,36,37,38,39,40,41,42,43,44,45,46,47,48,49,50,51,52,53,54,55,56,57,58,59] (fun k=>[(3,some (.tok ((((((tupQ 400 pre).take k).flatMap (zla l)).take (400+1)).map zhN)).length 1))]) (fun k=>k<=(tupQ 400 pre).length) (fun k=>(tupQ 400 pre).length-k) 0 (by simp) ⟨⟨_,rfl,xax ?_⟩,⟨⟨_,rfl,LeA.glg ?_⟩,trivial⟩⟩ ⟨zag ?_,trivial⟩ (fun x=>rfl) (fun k hg2=>?_);iterate 3 focus (first|rfl|(simp;done))
 refine evc [] [] ?_;refine sq ?_ ?_<;>intro h2 h2p h2s<;>(try simp only[Q,Pat.cs_len,Int.ofNat_lt,Int.ofNat_le] at h2p);refine sq ?_ ?_<;>intro h3 h3p h3s<;>(try simp only[Q,Pat.cs_len,Int.ofNat_lt,Int.ofNat_le] at h3p);refine xam (ι:=Nat) hk (fun j=>[(7,.d (.i (j:Int))),(5,.gl 3 (((((tupQ 400 pre).take k).flatMap (zla l)++(l.take j).map (fun y=>nth (tupQ 400 pre) k++[y])).take (400+1)).map zhN))]) [28,29,30,31,32,33,34,35,36,37,38,39,40,41,42,43,44,45,46,47,48,49,50,51,52,53,54,55,56,57,58,59] (fun j=>[(3,some (.tok ((((((tupQ 400 pre).take k).flatMap (zla l)++(l.take j).map (fun y=>nth (tupQ 400 pre) k++[y])).take (400+1)).map zhN)).length 1))]) (fun j=>j<=l.length) (fun j=>l.length-j) 0 (by simp) ⟨⟨_,rfl,xax ?_⟩,⟨⟨_,rfl,LeA.glg ?_⟩,trivial⟩⟩ ⟨zag ?_,trivial⟩ (fun x=>rfl) (fun j hg3=>?_);iterate 3 focus (first|rfl|(simp;done))
 have hol:=zq4 400 (zai (l:=tupQ 400 pre) (i:=k) (by omega));refine evc [] [] ?_;refine xaP zd2 .none rfl rfl rfl rfl (by first|exact zaN hg1|exact zaz (by omega)) rfl ?_;refine ev ?_;refine sq ?_ ?_<;>intro h4 h4p h4s<;>(try simp only[Q,Pat.cs_len,Int.ofNat_lt,Int.ofNat_le] at h4p);refine sq ?_ ?_<;>intro h5 h5p h5s<;>(try simp only[Q,Pat.cs_len,Int.ofNat_lt,Int.ofNat_le] at h5p);refine xbc 5 sl34 .none rfl rfl ?_;refine evd [] [] ?_;refine xaP zd2 .none rfl rfl rfl rfl (by first|exact zaN hg1|exact zaz (by omega)) rfl ?_;refine evd [] [] ?_;refine ap sl34 zz36 rfl rfl rfl (by intro z hz;first|(rw[xaz] at hz;obtain⟨_,_,rfl⟩:=List.mem_map.1 hz;rfl)|(simp at hz;rw[hz];rfl)) (by first|(simp only[xac,xaa,xab,xai,Pat.cs_len] at *;omega)) ?_;refine evd [] [] ?_;refine xaP zd2 .none rfl rfl rfl rfl (by first|exact zaN hg1|exact zaz (by omega)) rfl ?_;refine evd [] [] ?_;refine xaP sl34 .none rfl rfl rfl rfl (zas (by omega)) rfl ?_;refine evd [] [] ?_;refine si [0] [_] sl34 tz36 ?_;refine ap sl34 zz36 rfl rfl rfl (by intro z hz;first|(rw[xaz] at hz;obtain⟨_,_,rfl⟩:=List.mem_map.1 hz;rfl)|(simp at hz;rw[hz];rfl)) (by first|(simp only[xac,xaa,xab,xai,Pat.cs_len] at *;omega)) ?_;refine si [0] [_] zd2 tz34 ?_;refine ap zd2 zz34 rfl rfl rfl (by intro z hz;first|(rw[xaz] at hz;obtain⟨_,_,rfl⟩:=List.mem_map.1 hz;rfl)|(simp at hz;rw[hz];rfl)) (by first|(simp only[xac,xaa,xab,xai,Pat.cs_len] at *;omega)) ?_;refine evd [] [] ?_;refine dr ?_;refine ar ?_;refine xah (j+1) ⟨?_, ?_,sx ⟨⟨_,rfl,xax ?_⟩,⟨⟨_,rfl,LeA.glg ?_⟩,trivial⟩⟩ ⟨zag ?_,trivial⟩⟩;iterate 2 focus (first|omega|(simp_all;done))
 iterate 3 focus (first|rfl|(simp;done)|(rw[zu8 (by omega) (by omega),xaf];simp[xaz];done))
 refine ar ?_;refine xah (k+1) ⟨?_, ?_,sx ⟨⟨_,rfl,xax ?_⟩,⟨⟨_,rfl,LeA.glg ?_⟩,trivial⟩⟩ ⟨zag ?_,trivial⟩⟩;iterate 2 focus (first|omega|(simp_all;done))
 iterate 3 focus (first|rfl|(simp;done)|(rw[zrC (by omega),zq1 (by omega)]))
 refine sqF ?_;refine ar ?_;refine xah (k+1) ⟨?_, ?_,sx ⟨⟨_,rfl,xax ?_⟩,⟨⟨_,rfl,LeA.glg ?_⟩,trivial⟩⟩ ⟨zag ?_,trivial⟩⟩;iterate 2 focus (first|omega|(simp_all;done))
 iterate 3 focus (first|rfl|(simp;done)|(rw[zrC (by omega),zq1 (by omega)]))
 refine ar ?_;refine xah ((pre++[l],rest)) ⟨(by have hz:=hg1;rw[<-hz];simp),(by simp),sx ⟨⟨_,rfl,xax ?_⟩,⟨⟨_,rfl, ?_⟩,trivial⟩⟩ trivial⟩;focus (first|rfl|(simp;done))
 focus (first|exact LeA.refl _|((first|refine LeA.gld ?_|refine LeA.nild ?_);first|rfl|(simp;done)|(rw[zkO,zog,znH (by omega)])))
 refine sqF ?_;refine ar ?_;refine xah ((pre++[l],rest)) ⟨(by have hz:=hg1;rw[<-hz];simp),(by simp),sx ⟨⟨_,rfl,xax ?_⟩,⟨⟨_,rfl, ?_⟩,trivial⟩⟩ trivial⟩;focus (first|rfl|(simp;done))
 focus (first|exact LeA.refl _|((first|refine LeA.gld ?_|refine LeA.nild ?_);first|rfl|(simp;done)|(rw[zkO,zog,znH (by omega)])))
 have hrest:rest=[]:=by
  rcases rest with _|⟨a,b⟩
  ·rfl
  ·exfalso;have hz:=congrArg List.length (hg1);simp only[xaa,xab,xac] at hz;omega
 subst hrest;refine rq ?_;rotate_left;all_goals ((rw[List.append_nil] at hg1);subst hg1;rfl)
theorem zd3:∀(n:Nat){p:Pat},binP n p=true->p.ok->FnD Tryz.prog 197 [.agg [.d (.i p.op),.d (.i p.ctor),.d (.i p.n),.d (.i p.m),.d (.i p.var),.d (zaj p.kids)]] [] (.gv 9 (Pat.cs (za8 p))) [(9,some (.tok (Pat.cs (za8 p)).length 6))]
 |0,p,h,_=>by simp[binP] at h
 |n+1,p,h,hok=>by
  have hok':=(Pat.ok_iff p).1 hok;have hok1:=hok'.1;by_cases h5:p.op=5
  ·have hl:=zkT h h5;have e5:=zt3 h5 hl;have l0:=zg8 (nth p.kids 0);have l1:=zg8 (nth p.kids 1);have c0:=zd3 n (zes h (i:=0) (by omega)) (Pats.ok_mem hok'.2 _ (zai (by omega)));have c1:=FnD.gvD (zd3 n (zes h (i:=1) (by omega)) (Pats.ok_mem hok'.2 _ (zai (by omega))));rw[e5];generalize za8 (nth p.kids 0)=A at *;generalize za8 (nth p.kids 1)=C at *;by_cases hlen:(A++C).length<=401
   ·rw[List.take_of_length_le hlen];rw[xaa] at hlen;refine bd Tryz.f197 67 [25] [] fun w0 F0 own kept hk=>?_;refine bx 3001 ?_;refine evs [25] [] ?_;refine sq ?_ ?_<;>intro h1 h1p h1s<;>(try simp only[Q,Pat.cs_len,xaa] at h1p);refine xaP (i:=0) sl34 .none rfl rfl rfl rfl (zas (by omega)) rfl ?_;refine evd [25] [] ?_;refine Walk.call (cr:=[9]) ziu (c0) rfl .none rfl rfl (LeL.refl _) trivial rfl rfl rfl ?_;refine evd [25] [] ?_;refine xaP (i:=1) sl34 .none rfl rfl rfl rfl (zas (by omega)) rfl ?_;refine evd [25] [] ?_;refine wc ziu (c1) rfl rfl ?_;refine xaE sl34 zz36 .none rfl rfl rfl rfl (zdY rfl (by(simp;done))) (by intro x hx;exact zcm _ x hx) (by simp[Pat.cs_len];omega) (by simp[Pat.cs_len];omega) ?_;refine evd [25] [] ?_;refine dr ?_;refine Walk.lenV sl34 .none rfl rfl ?_;refine evs [25] [] ?_;refine sq ?_ ?_<;>intro h2 h2p h2s<;>(try simp only[Q,Pat.cs_len,xaa] at h2p);exfalso;omega;refine rn [(9,some (.tok (Pat.cs (A++C)).length 6))] (r1 rfl) (.gvg ?_) ⟨rfl,rfl⟩ (SubH.get ⟨?_,trivial⟩) (zaE rfl);rotate_left 2;exfalso;omega;all_goals (first|((first|rfl|(simp[xaz];done));done)|(first|rfl|(simp[xaz];rfl)))
   ·have c8:=FnD.gvRen 8 c0;rw[xaa] at hlen;refine bd Tryz.f197 67 [25] [] fun w0 F0 own kept hk=>?_;refine bx 3001 ?_;refine evs [25] [] ?_;refine sq ?_ ?_<;>intro h1 h1p h1s<;>(try simp only[Q,Pat.cs_len,xaa] at h1p);refine xaP (i:=0) sl34 .none rfl rfl rfl rfl (zas (by omega)) rfl ?_;refine evd [25] [] ?_;refine Walk.call (cr:=[8]) ziu (c8) rfl .none rfl rfl (LeL.refl _) trivial rfl rfl rfl ?_;refine evd [25] [] ?_;refine xaP (i:=1) sl34 .none rfl rfl rfl rfl (zas (by omega)) rfl ?_;refine evd [25] [] ?_;refine wc ziu (c1) rfl rfl ?_;refine xaE sl34 zz36 .none rfl rfl rfl rfl (zdY rfl (by(simp;done))) (by intro x hx;exact zcm _ x hx) (by simp[Pat.cs_len];omega) (by simp[Pat.cs_len];omega) ?_;refine evd [25] [] ?_;refine dr ?_;refine Walk.lenV sl34 .none rfl rfl ?_;refine evs [25] [] ?_;refine sq ?_ ?_<;>intro h2 h2p h2s<;>(try simp only[Q,Pat.cs_len,xaa] at h2p);refine xaL 9 (b:=401) sl34 .none rfl rfl (zdY rfl (by(simp;done))) rfl rfl (by simp[Pat.cs_len];omega) (by simp[Pat.cs_len];omega) rfl ?_;refine evs [25] [] ?_;refine rn [(9,some (.tok (Pat.cs ((A++C).take 401)).length 6))] (r1 rfl) (.gvg ?_) ⟨rfl,rfl⟩ (SubH.get ⟨?_,trivial⟩) (zaE rfl);rotate_left 2;exfalso;omega;exfalso;omega;all_goals (first|((first|rfl|(simp[xaz];done));done)|(first|rfl|(show some (Res.tok _ _)=some (Res.tok _ _);simp[Pat.cs_len];omega)))
  ·have hts:=zq3 400 (p.kids.map za8);have htm:=fun(i:Nat) (hi:i<(tupQ 400 (p.kids.map za8)).length)=>zq4 400 (zai hi);have ht3:=zl4 (ls:=p.kids.map za8) (by rw[xac];omega) (fun l hl=>by obtain⟨x,_,rfl⟩:=List.mem_map.1 hl;have:=zg8 x;omega);have hcal:=fun(i:Nat) (hi:i<p.kids.length)=>FnD.gvD (zd3 n (zes h hi) (Pats.ok_mem hok'.2 _ (zai hi)));have hpl:=fun(y:Pat) (pre rest:List Pat) (e:pre++y::rest=p.kids)=>(show pre.length<p.kids.length/\nth p.kids pre.length=y from⟨by have:=congrArg List.length e;simp at this;omega,zwl e⟩);have hcal2:=fun(y:Pat) (pre rest:List Pat) (e:pre++y::rest=p.kids)=>show FnD Tryz.prog 197 [.agg [.d (.i y.op),.d (.i y.ctor),.d (.i y.n),.d (.i y.m),.d (.i y.var),.d (zaj y.kids)]] [] (.d (.sl (Pat.cs (za8 y)))) [] from by
    have hq:=hcal pre.length (hpl y pre rest e).1;rw[(hpl y pre rest e).2] at hq;exact hq
   have ht3':=fun(pre:List Pat) (e:pre++[]=p.kids)=>show FnD Tryz.prog 280 [.d (zi3 (pre.map za8))] [] (.d (zi3 (tupQ 400 (p.kids.map za8)))) [] from by
    rw[List.append_nil] at e;rw[e];exact ht3
   rw[zt4 h5];refine bd Tryz.f197 67 [] [] fun w0 F0 own kept hk=>?_;refine bx 3001 ?_;refine ev ?_;refine sq ?_ ?_<;>intro h1 h1p h1s<;>(try simp only[Q,Pat.cs_len] at h1p);exfalso;omega;refine xbc 4 zd2 .none rfl rfl ?_;refine ev ?_;refine xam (ι:=List (Pat)×List (Pat)) hk (fun x=>[(5,.d (.i (x.1.length:Int))),(4,.gl 4 ((x.1.map za8).map zhN))]) [31,32,33,34,35,36,37,38,39,40,41,42,43,44,45,46] (fun x=>[(4,some (.tok (((x.1.map za8).map zhN)).length 1))]) (fun x=>x.1++x.2=p.kids) (fun x=>x.2.length) ([],p.kids) (by simp) ⟨⟨_,rfl,xax ?_⟩,⟨⟨_,rfl,LeA.glg ?_⟩,trivial⟩⟩ ⟨zag ?_,trivial⟩ (fun x=>rfl) (fun x hg1=>?_);iterate 3 focus ((simp;done))
   obtain⟨pre,rest⟩:=x;dsimp only at hg1 ⊢;refine evc [] [] ?_;refine sq ?_ ?_<;>intro h2 h2p h2s<;>(try simp only[Q,Pat.cs_len] at h2p);rcases rest with _|⟨y,rest⟩
   ·exfalso;simp_all
   refine xaP sl34 .none rfl rfl rfl rfl (Pat.cs_at' hg1) rfl ?_;refine ev ?_;refine wc ziu (hcal2 y pre rest hg1) rfl rfl ?_;refine si [0] [_] zd2 tz34 ?_;refine ap zd2 zz34 rfl rfl rfl (by intro x hx;first|(simp at hx;subst hx;rfl)|exact zhg _ x hx) (by first|(have:=congrArg List.length hg1;simp at this;simp;omega)|(simp;omega)) ?_;refine ev ?_;refine ar ?_;refine xah ((pre++[y],rest)) ⟨(by have hz:=hg1;rw[<-hz];simp),(by simp),sx ⟨⟨_,rfl,xax ?_⟩,⟨⟨_,rfl,LeA.glg ?_⟩,trivial⟩⟩ ⟨zag ?_,trivial⟩⟩;iterate 3 focus ((simp;done))
   have hrest:rest=[]:=by
    rcases rest with _|⟨a,b⟩
    ·rfl
    ·exfalso;have hz:=congrArg List.length (hg1);simp only[xaa,xab,xac] at hz;omega
   subst hrest;refine Walk.call (cr:=[]) zvN (ht3' pre hg1) rfl .none rfl rfl (.cons (.gl _ _) .nil) trivial rfl rfl rfl ?_;refine ev ?_;refine xbd 9 sl34 .none rfl rfl ?_;refine ev ?_;refine xam (ι:=Nat) hk (fun k=>[(8,.d (.i (k:Int))),(7,.gv 9 ((((tupQ 400 (p.kids.map za8)).take k).map fun l=>Pat.mk p.op p.ctor p.n p.m p.var l).map Pat.cc))]) [9,50,51,52,53,54,55,56,57,58,59,60,61,62,63,64,65] (fun k=>[(9,some (.tok (((((tupQ 400 (p.kids.map za8)).take k).map fun l=>Pat.mk p.op p.ctor p.n p.m p.var l).map Pat.cc)).length 6))]) (fun k=>k<=(tupQ 400 (p.kids.map za8)).length) (fun k=>(tupQ 400 (p.kids.map za8)).length-k) 0 (by omega) ⟨⟨_,rfl,xax ?_⟩,⟨⟨_,rfl,LeA.gvg ?_⟩,trivial⟩⟩ ⟨zag ?_,trivial⟩ (fun x=>rfl) (fun k hg2=>?_);iterate 3 focus ((simp;done))
   refine evc [] [] ?_;refine sq ?_ ?_<;>intro h3 h3p h3s<;>(try simp only[Q,Pat.cs_len] at h3p);refine ab 3009 tz36 ?_;refine so ty36 ?_;refine tv ?_;refine xaP zd2 .none rfl rfl rfl rfl (zaz (by omega)) rfl ?_;refine ev ?_;refine so ty34 ?_;refine tv ?_;refine si [0] [_] sl34 tz36 ?_;refine xaE sl34 zz36 .none rfl rfl rfl rfl (zdY rfl (by first|rfl|(simp;done))) (by intro x hx;first|(simp at hx;subst hx;rfl)|exact zhg _ x hx) (by first|(have:=congrArg List.length hg1;simp at this;simp;omega)|(simp;omega)) (by first|(have:=congrArg List.length hg1;simp at this;simp;omega)|(simp;omega)) ?_;refine ev ?_;refine ar ?_;refine xah (k+1) ⟨(by omega),(by omega),sx ⟨⟨_,rfl,xax ?_⟩,⟨⟨_,rfl,LeA.gvg ?_⟩,trivial⟩⟩ ⟨zag ?_,trivial⟩⟩;iterate 3 focus (first|(simp;done)|(rw[List.take_succ_eq_append_getElem (by omega),<-zbc (by omega)];simp[zk5,ziL,mk_n,mk_m,zkr,zey];done))
   refine rn [(9,some (.tok (Pat.cs ((tupQ 400 (p.kids.map za8)).map fun l=>Pat.mk p.op p.ctor p.n p.m p.var l)).length 6))] (r1 rfl) (.gvg ?_) ⟨rfl,rfl⟩ (SubH.get ⟨?_,trivial⟩) (zaE rfl);rotate_left 2;all_goals (first|((first|rfl|(obtain rfl:k=(tupQ 400 (p.kids.map za8)).length:=(by omega);rw[List.take_length,show Pat.cs ((tupQ 400 (p.kids.map za8)).map fun l=>Pat.mk p.op p.ctor p.n p.m p.var l)=((tupQ 400 (p.kids.map za8)).map fun l=>Pat.mk p.op p.ctor p.n p.m p.var l).map Pat.cc from xaz _];done));done)|(first|rfl|(obtain rfl:k=(tupQ 400 (p.kids.map za8)).length:=(by omega);rw[List.take_length];simp[xaz];rfl)|(obtain rfl:k=(tupQ 400 (p.kids.map za8)).length:=(by omega);rw[List.take_length,show Pat.cs ((tupQ 400 (p.kids.map za8)).map fun l=>Pat.mk p.op p.ctor p.n p.m p.var l)=((tupQ 400 (p.kids.map za8)).map fun l=>Pat.mk p.op p.ctor p.n p.m p.var l).map Pat.cc from xaz _];rfl)))
theorem znm {w:List Data}{n:Nat}{t:Ty}{p:Pat} (h:zau w n t p=true) (hok:p.ok):FnD Tryz.prog 128 [.agg [.d (.i p.op),.d (.i p.ctor),.d (.i p.n),.d (.i p.m),.d (.i p.var),.d (zaj p.kids)]] [] (.d (zaj (za8 (zaQ p)))) []:=by
 have hbp:=zda _ (Nat.le_refl _) hok;have hsp:=FnD.gvD (zd3 n (zh8 n h) (zkS p hok));generalize zaQ p=b at *;refine bd Tryz.f128 6 [] [] fun w0 F0 own kept hk=>?_;refine bx 3001 ?_;refine ev ?_;refine wc zpq (hbp) rfl rfl ?_;refine wc ziu (hsp) rfl rfl ?_;refine ev ?_;refine rq ?_;rotate_left;all_goals (rfl)
theorem zhz {a b:Pat} (hn:0<=b.n/\b.n<=9) (hm:0<=b.m/\b.m<=9):FnD Tryz.prog 302 [.agg [.d (.i (a).op),.d (.i (a).ctor),.d (.i (a).n),.d (.i (a).m),.d (.i (a).var),.d (zaj (a).kids)],.agg [.d (.i (b).op),.d (.i (b).ctor),.d (.i (b).n),.d (.i (b).m),.d (.i (b).var),.d (zaj (b).kids)]] [] (.d (zaj (zcf a.n (minQ a.m (b.n-1))++zcf (maxQ a.n (b.m+1)) a.m))) []:=by
 refine bd Tryz.f302 58 [] [] fun w0 F0 own kept hk=>?_;refine bx 3002 ?_;refine bx 3003 ?_;refine ev ?_;refine xbc 9 sl34 .none rfl rfl ?_;refine ev ?_;refine bu [0,2,3] [_,_,_] st36 ?_;refine ab 3006 tz36 ?_;refine so ty36 ?_;refine tv ?_;refine ar ?_;refine sq ?_ ?_<;>intro h1 h1p h1s<;>(try simp only[Q] at h1p);refine ar ?_;refine so ty3 ?_;refine tv ?_;refine sq ?_ ?_<;>intro h2 h2p h2s<;>(try simp only[Q] at h2p);refine si [0] [_] sl34 tz36 ?_;refine ap sl34 zz36 rfl rfl rfl (by intro x hx;simp at hx;subst hx;rfl) (by simp) ?_;refine ev ?_;refine bu [0,2,3] [_,_,_] st36 ?_;refine ab 3007 tz36 ?_;refine so ty36 ?_;refine tv ?_;refine ar ?_;refine sq ?_ ?_<;>intro h3 h3p h3s<;>(try simp only[Q] at h3p);refine ar ?_;refine so ty3 ?_;refine tv ?_;refine sq ?_ ?_<;>intro h4 h4p h4s<;>(try simp only[Q] at h4p);refine si [0] [_] sl34 tz36 ?_;refine ap sl34 zz36 rfl rfl rfl (by intro x hx;simp at hx;subst hx;rfl) (by simp) ?_;refine ev ?_;refine rn0 (r1 rfl) (.gld ?_);rotate_left;refine rn0 (r1 rfl) (.gld ?_);rotate_left;refine sq ?_ ?_<;>intro h5 h5p h5s<;>(try simp only[Q] at h5p);refine si [0] [_] sl34 tz36 ?_;refine ap sl34 zz36 rfl rfl rfl (by intro x hx;simp at hx;subst hx;rfl) (by simp) ?_;refine ev ?_;refine rn0 (r1 rfl) (.gld ?_);rotate_left;refine rn0 (r1 rfl) (.gld ?_);rotate_left;refine bu [0,2,3] [_,_,_] st36 ?_;refine ab 3007 tz36 ?_;refine so ty36 ?_;refine tv ?_;refine ar ?_;refine sq ?_ ?_<;>intro h6 h6p h6s<;>(try simp only[Q] at h6p);refine ar ?_;refine so ty3 ?_;refine tv ?_;refine sq ?_ ?_<;>intro h7 h7p h7s<;>(try simp only[Q] at h7p);refine si [0] [_] sl34 tz36 ?_;refine ap sl34 zz36 rfl rfl rfl (by intro x hx;simp at hx;subst hx;rfl) (by simp) ?_;refine ev ?_;refine rn0 (r1 rfl) (.gld ?_);rotate_left;refine rn0 (r1 rfl) (.gld ?_);rotate_left;refine sq ?_ ?_<;>intro h8 h8p h8s<;>(try simp only[Q] at h8p);refine si [0] [_] sl34 tz36 ?_;refine ap sl34 zz36 rfl rfl rfl (by intro x hx;simp at hx;subst hx;rfl) (by simp) ?_;refine ev ?_;refine rn0 (r1 rfl) (.gld ?_);rotate_left;refine rn0 (r1 rfl) (.gld ?_);rotate_left;refine sq ?_ ?_<;>intro h9 h9p h9s<;>(try simp only[Q] at h9p);refine si [0] [_] sl34 tz36 ?_;refine ap sl34 zz36 rfl rfl rfl (by intro x hx;simp at hx;subst hx;rfl) (by simp) ?_;refine ev ?_;refine bu [0,2,3] [_,_,_] st36 ?_;refine ab 3007 tz36 ?_;refine so ty36 ?_;refine tv ?_;refine ar ?_;refine sq ?_ ?_<;>intro h10 h10p h10s<;>(try simp only[Q] at h10p);refine ar ?_;refine so ty3 ?_;refine tv ?_;refine sq ?_ ?_<;>intro h11 h11p h11s<;>(try simp only[Q] at h11p);refine si [0] [_] sl34 tz36 ?_;refine ap sl34 zz36 rfl rfl rfl (by intro x hx;simp at hx;subst hx;rfl) (by simp) ?_;refine ev ?_;refine rn0 (r1 rfl) (.gld ?_);rotate_left;refine rn0 (r1 rfl) (.gld ?_);rotate_left;refine sq ?_ ?_<;>intro h12 h12p h12s<;>(try simp only[Q] at h12p);refine si [0] [_] sl34 tz36 ?_;refine ap sl34 zz36 rfl rfl rfl (by intro x hx;simp at hx;subst hx;rfl) (by simp) ?_;refine ev ?_;refine rn0 (r1 rfl) (.gld ?_);rotate_left;refine rn0 (r1 rfl) (.gld ?_);rotate_left;refine bu [0,2,3] [_,_,_] st36 ?_;refine ab 3007 tz36 ?_;refine so ty36 ?_;refine tv ?_;refine ar ?_;refine sq ?_ ?_<;>intro h13 h13p h13s<;>(try simp only[Q] at h13p);refine ar ?_;refine so ty3 ?_;refine tv ?_;refine sq ?_ ?_<;>intro h14 h14p h14s<;>(try simp only[Q] at h14p);refine si [0] [_] sl34 tz36 ?_;refine ap sl34 zz36 rfl rfl rfl (by intro x hx;simp at hx;subst hx;rfl) (by simp) ?_;refine ev ?_;refine rn0 (r1 rfl) (.gld ?_);rotate_left;refine rn0 (r1 rfl) (.gld ?_);rotate_left;refine sq ?_ ?_<;>intro h15 h15p h15s<;>(try simp only[Q] at h15p);refine si [0] [_] sl34 tz36 ?_;refine ap sl34 zz36 rfl rfl rfl (by intro x hx;simp at hx;subst hx;rfl) (by simp) ?_;refine ev ?_;refine rn0 (r1 rfl) (.gld ?_);rotate_left;refine rn0 (r1 rfl) (.gld ?_);rotate_left;all_goals (unfold minQ maxQ zcf;(repeat' split)<;>first|rfl|(exfalso;omega))
theorem zpl {w:List Data} (hw:WT w){a k c:Int} (ht:TyIn w.length ⟨a,k⟩) (hc:c∈zaA w ⟨a,k⟩) (hl:(zad w ⟨a,k⟩ c).length<=3):FnD Tryz.prog 304 [.d (zao w),.agg [.d (.i a),.d (.i k)],.d (.i c)] []
  (.agg [.d (.i 4),.d (.i c),.d (.i 0),.d (.i 0),.d (.i 0),.d (zaj (zcg w ⟨a,k⟩ c).kids)]) []:=by
 refine bd Tryz.f304 29 [] [] fun w0 F0 own kept hk=>?_;refine bx 3004 ?_;refine ab 3006 tz36 ?_;refine tv ?_;refine bu [0,1] [_,_] st36 ?_;refine ab 3007 tz36 ?_;refine so ty36 ?_;refine tv ?_;refine wc zdO (zbM hw ht hc) rfl rfl ?_;refine ev ?_;refine xar 3007 5 9 6 rfl rfl rfl rfl ?_;refine xam (ι:=List (Ty)×List (Ty)) hk (fun x=>[(9,.d (.i (x.1.length:Int)))]) [16,17,18,19,20,21,22,23,24,25,26,27] (fun x=>[(3007,some (.box [.d (.i 4),.d (.i c),.d (.i 0),.d (.i 0),.d (.i 0),.gl 9 ((x.1.map fun _=>anyQ).map Pat.cc)])),(9,some (.tok ((x.1.map fun _=>anyQ).map Pat.cc).length 6))]) (fun x=>x.1++x.2=zad w ⟨a,k⟩ c) (fun x=>x.2.length) ([],zad w ⟨a,k⟩ c) (by simp) ⟨⟨_,rfl,xax ?_⟩,trivial⟩ ⟨?_,⟨zag ?_,trivial⟩⟩ (fun x=>rfl) (fun x hg1=>?_);focus (rfl)
 focus (rfl)
 focus (rfl)
 obtain⟨pre,rest⟩:=x;dsimp only at hg1 ⊢;refine evc [] [] ?_;refine sq ?_ ?_<;>intro h1 h1p h1s<;>(try simp only[Q] at h1p);rcases rest with _|⟨y,rest⟩
 ·exfalso;simp_all
 refine wc zsn (zjL) rfl rfl ?_;refine si [0] [_] sl34 tz36 ?_;refine ap sl34 zz36 rfl rfl rfl (by intro x hx;(simp at hx;subst hx;rfl)) (by have:=congrArg List.length hg1;simp at this;simp;omega) ?_;refine evd [] [] ?_;refine so ty34 ?_;refine dr ?_;refine ar ?_;refine xah ((pre++[y],rest)) ⟨(by have hz:=hg1;rw[<-hz];simp),(by simp),sx ⟨⟨_,rfl,xax ?_⟩,trivial⟩ ⟨?_,⟨zag ?_,trivial⟩⟩⟩;focus ((simp;done))
 focus ((simp[getH];exact⟨rfl,rfl,rfl,rfl,rfl,rfl⟩))
 focus ((simp;done))
 have hrest:rest=[]:=by
  rcases rest with _|⟨a,b⟩
  ·rfl
  ·exfalso;have hz:=congrArg List.length (hg1);simp only[xaa,xab,xac] at hz;omega
 subst hrest;refine so ty36 ?_;refine tv ?_;refine rn0 (.cons (.cellA ty36 rfl rfl rfl) .nil) (.agg (.cons (.eqd ?_) (.cons (.eqd ?_) (.cons (.eqd ?_) (.cons (.eqd ?_) (.cons (.eqd ?_) (.cons (.gld ?_) .nil)))))));rotate_left 6;all_goals (first|rfl|(rw[List.append_nil] at hg1;subst hg1;rw[<-xaz];all_goals rfl))
def zdJ (n:Nat) (a b:Pat):Pat:=if a.op=3/\b.op≠1 then intQ (maxQ a.n b.n) (minQ a.m b.m) else zcT n a b
theorem zn0 {n:Nat}{a b:Pat} (h:¬(a.op=3/\b.op≠1)):zdJ n a b=zcT n a b:=if_neg h
theorem zqt {n:Nat}{a b:Pat} (h:(zaU n a b).isSome=true):zdJ n a b=zcT n a b:=by
 unfold zdJ;split
 ·rename_i h3;cases n with
  |zero=>simp[zaU] at h
  |succ n=>
   have e:=zmW (n:=n) h3.1 h3.2;rw[e] at h;split at h
   ·rename_i hr;rw[if_pos hr] at e;exact(zcC e).symm
   ·cases h
 ·rfl
theorem ziV {w:List Data} (hs:Spa w):∀(n m:Nat){t:Ty}{a b:Pat},m<=n->InS (w.length*4) t->zaq w m t a=true->zaq w m t b=true->
  FnD Tryz.prog 276 [.agg [.d (.i (a).op),.d (.i (a).ctor),.d (.i (a).n),.d (.i (a).m),.d (.i (a).var),.d (zaj (a).kids)],.agg [.d (.i (b).op),.d (.i (b).ctor),.d (.i (b).n),.d (.i (b).m),.d (.i (b).var),.d (zaj (b).kids)]] [] (.tup [.agg [.d (.i (zdJ n a b).op),.d (.i (zdJ n a b).ctor),.d (.i (zdJ n a b).n),.d (.i (zdJ n a b).m),.d (.i (zdJ n a b).var),.d (zaj (zdJ n a b).kids)],.d (.bool (zaU n a b).isSome)]) []
 |n,0,t,a,b,_,_,ha,_=>by simp[zaq] at ha
 |0,m+1,t,a,b,h,_,_,_=>by omega
 |n+1,m+1,t,a,b,hnm,ht,ha,hb=>by
  by_cases h1:a.op=1
  ·have e:=zmU (n:=n) (b:=b) h1;rw[zn0 (fun h=>by omega),zcC e,e];refine bd Tryz.f276 89 [] [] fun w0 F0 own kept hk=>?_;refine bx 3002 ?_;refine bx 3003 ?_;refine ab 3004 tz36 ?_;refine ev ?_;refine sq ?_ ?_<;>intro h1 h1p h1s<;>(try simp only[Q] at h1p);refine so ty36 ?_;refine ev ?_;refine rn0 (.cons (.cellA ty36 rfl rfl rfl) (.cons (.tmp rfl) .nil)) (.tup (.cons (.agg (.cons (.eqd ?_) (.cons (.eqd ?_) (.cons (.eqd ?_) (.cons (.eqd ?_) (.cons (.eqd ?_) (.cons (.eqd ?_) .nil))))))) (.cons (.eqd ?_) .nil)));rotate_left 7;exfalso;omega;all_goals (rfl)
  by_cases h2:b.op=1
  ·have e:=zmV (n:=n) h1 h2;rw[zn0 (fun h=>h.2 h2),zcC e,e];refine bd Tryz.f276 89 [] [] fun w0 F0 own kept hk=>?_;refine bx 3002 ?_;refine bx 3003 ?_;refine ab 3004 tz36 ?_;refine ev ?_;refine sq ?_ ?_<;>intro h1 h1p h1s<;>(try simp only[Q] at h1p);exfalso;omega;refine sq ?_ ?_<;>intro h2 h2p h2s<;>(try simp only[Q] at h2p);refine so ty36 ?_;refine ev ?_;refine rn0 (.cons (.cellA ty36 rfl rfl rfl) (.cons (.tmp rfl) .nil)) (.tup (.cons (.agg (.cons (.eqd ?_) (.cons (.eqd ?_) (.cons (.eqd ?_) (.cons (.eqd ?_) (.cons (.eqd ?_) (.cons (.eqd ?_) .nil))))))) (.cons (.eqd ?_) .nil)));rotate_left 7;exfalso;omega;all_goals (rfl)
  by_cases h3:a.op=3
  ·have e:=zmW (n:=n) h3 h2;have ez:zdJ (n+1) a b=intQ (maxQ a.n b.n) (minQ a.m b.m):=if_pos ⟨h3,h2⟩;have eb:(zaU (n+1) a b).isSome=decide (maxQ a.n b.n<=minQ a.m b.m):=by
    rw[e];by_cases hr:maxQ a.n b.n<=minQ a.m b.m
    ·rw[if_pos hr,decide_eq_true hr];rfl
    ·rw[if_neg hr,decide_eq_false hr];rfl
   rw[ez,eb];refine bd Tryz.f276 89 [] [] fun w0 F0 own kept hk=>?_;refine bx 3002 ?_;refine bx 3003 ?_;refine ab 3004 tz36 ?_;refine ev ?_;refine sq ?_ ?_<;>intro h1 h1p h1s<;>(try simp only[Q] at h1p);exfalso;omega;refine sq ?_ ?_<;>intro h2 h2p h2s<;>(try simp only[Q] at h2p);exfalso;omega;refine sq ?_ ?_<;>intro h3 h3p h3s<;>(try simp only[Q] at h3p);refine sq ?_ ?_<;>intro h4 h4p h4s<;>(try simp only[Q] at h4p);refine sq ?_ ?_<;>intro h5 h5p h5s<;>(try simp only[Q] at h5p);refine bu [0,2,3] [_,_,_] st36 ?_;refine ev ?_;refine so ty36 ?_;refine ev ?_;refine rn0 (.cons (.cellA ty36 rfl rfl rfl) (.cons (.tmp rfl) .nil)) (.tup (.cons (.agg (.cons (.eqd ?_) (.cons (.eqd ?_) (.cons (.eqd ?_) (.cons (.eqd ?_) (.cons (.eqd ?_) (.cons (.nild ?_) .nil))))))) (.cons (.eqd ?_) .nil)));rotate_left 7;refine bu [0,2,3] [_,_,_] st36 ?_;refine ev ?_;refine so ty36 ?_;refine ev ?_;refine rn0 (.cons (.cellA ty36 rfl rfl rfl) (.cons (.tmp rfl) .nil)) (.tup (.cons (.agg (.cons (.eqd ?_) (.cons (.eqd ?_) (.cons (.eqd ?_) (.cons (.eqd ?_) (.cons (.eqd ?_) (.cons (.nild ?_) .nil))))))) (.cons (.eqd ?_) .nil)));rotate_left 7;refine sq ?_ ?_<;>intro h6 h6p h6s<;>(try simp only[Q] at h6p);refine bu [0,2,3] [_,_,_] st36 ?_;refine ev ?_;refine so ty36 ?_;refine ev ?_;refine rn0 (.cons (.cellA ty36 rfl rfl rfl) (.cons (.tmp rfl) .nil)) (.tup (.cons (.agg (.cons (.eqd ?_) (.cons (.eqd ?_) (.cons (.eqd ?_) (.cons (.eqd ?_) (.cons (.eqd ?_) (.cons (.nild ?_) .nil))))))) (.cons (.eqd ?_) .nil)));rotate_left 7;refine bu [0,2,3] [_,_,_] st36 ?_;refine ev ?_;refine so ty36 ?_;refine ev ?_;refine rn0 (.cons (.cellA ty36 rfl rfl rfl) (.cons (.tmp rfl) .nil)) (.tup (.cons (.agg (.cons (.eqd ?_) (.cons (.eqd ?_) (.cons (.eqd ?_) (.cons (.eqd ?_) (.cons (.eqd ?_) (.cons (.nild ?_) .nil))))))) (.cons (.eqd ?_) .nil)));rotate_left 7;exfalso;omega;all_goals (first|rfl|((try simp only[zk5,ziL,mk_n,mk_m,zkr,zey]);simp only[minQ,maxQ];(repeat' split)<;>first|rfl|(exfalso;omega)))
  have oa:=zcd ha;have h4:a.op=4:=by omega
  have h4b:b.op=4:=by have:=zdS ha hb h1 h2;omega
  have ez:zdJ (n+1) a b=zcT (n+1) a b:=zn0 (fun h=>h3 h.1);by_cases hc:a.ctor=b.ctor
  ·obtain⟨c1,c2,c3,-⟩:=zba ha h4;obtain⟨d1,d2,d3,-⟩:=zba hb h4b;rw[<-hc] at d3;have h3l:=hs.args t a.ctor ht c1;have ka:=fun i (hi:i<a.kids.length)=>zbs ha hi;have kb:=fun i (hi:i<b.kids.length)=>zbs hb hi;rw[zbe h4] at ka;rw[zbe h4b,<-hc] at kb;have e:=zmX (n:=n) h4 h2 hc;have hlen:a.kids.length=b.kids.length:=by omega
   have ih:=fun i (hi:i<a.kids.length)=>ziV hs n m (t:=nth (zad w t a.ctor) i) (a:=nth a.kids i) (b:=nth b.kids i) (by omega) (zbh hs.dp ht c1 _ (zai (by omega))) (ka i (by omega)) (kb i (by omega));have key:∀(i:Nat) (acc:List Pat),i<a.kids.length->(zaU n (nth a.kids i) (nth b.kids i)).isSome=true->zcL (zaU n) (a.kids.drop i) (b.kids.drop i) acc=zcL (zaU n) (a.kids.drop (i+1)) (b.kids.drop (i+1)) (acc++[zdJ n (nth a.kids i) (nth b.kids i)]):=fun i acc hi h=>by
    rw[zqt h];exact zmT hi (by omega) (zn1 h)
   rw[ez];refine bd Tryz.f276 89 [] [] fun w0 F0 own kept hk=>?_;refine bx 3002 ?_;refine bx 3003 ?_;refine ab 3004 tz36 ?_;refine ev ?_;refine sq ?_ ?_<;>intro h1 h1p h1s<;>(try simp only[Q,Pat.cs_len] at h1p);exfalso;omega;refine sq ?_ ?_<;>intro h2 h2p h2s<;>(try simp only[Q,Pat.cs_len] at h2p);exfalso;omega;refine sq ?_ ?_<;>intro h3 h3p h3s<;>(try simp only[Q,Pat.cs_len] at h3p);exfalso;omega;refine sq ?_ ?_<;>intro h4 h4p h4s<;>(try simp only[Q,Pat.cs_len] at h4p);exfalso;omega;refine bu [0,1] [_,_] st36 ?_;refine ab 3008 tz36 ?_;refine so ty36 ?_;refine tv ?_;refine xar 3008 5 9 6 rfl rfl rfl rfl ?_;refine xam (ι:=Nat×List Pat) hk (fun x=>[(9,.d (.i (x.1:Int)))]) [5,10,11,58,59,60,61,62,63,64,65,66,67,68,69,70,71,72,73,74,75,76,77,78,79,80,81,82,83,84,85,86,87] (fun x=>[(3008,some (.box [.d (.i 4),.d (.i a.ctor),.d (.i 0),.d (.i 0),.d (.i 0),.gl 9 (x.2.map Pat.cc)])),(9,some (.tok (x.2.map Pat.cc).length 6))]) (fun x=>x.1<=a.kids.length/\x.2.length=x.1/\zcL (zaU n) (a.kids.drop x.1) (b.kids.drop x.1) x.2=zcL (zaU n) a.kids b.kids []) (fun x=>a.kids.length-x.1) (0,[]) ⟨by simp,rfl,rfl⟩ ⟨⟨_,rfl,xax ?_⟩,trivial⟩ ⟨?_,⟨zag ?_,trivial⟩⟩ (fun x=>rfl) (fun x hg1=>?_);focus (rfl)
   focus (first|rfl|(simp[getH];done))
   focus (rfl)
   refine evc [] [] ?_;refine sq ?_ ?_<;>intro h5 h5p h5s<;>(try simp only[Q,Pat.cs_len] at h5p);refine xaP sl34 .none rfl rfl rfl rfl (zas (by omega)) rfl ?_;refine evd [] [] ?_;refine xaP sl34 .none rfl rfl rfl rfl (zas (by omega)) rfl ?_;refine evd [] [] ?_;refine wc zsM (ih x.1 (by omega)) rfl rfl ?_;refine evd [] [] ?_;refine ab 3010 tz36 ?_;refine so ty36 ?_;refine evd [] [] ?_;refine dr ?_;refine sq ?_ ?_<;>intro h6 h6p h6s<;>(try simp only[Q,Pat.cs_len] at h6p);refine bu [] [] st36 ?_;refine so ty36 ?_;refine ev ?_;refine rn0 (.cons (.cellA ty36 rfl rfl rfl) (.cons (.tmp rfl) .nil)) (.tup (.cons (.agg (.cons (.eqd ?_) (.cons (.eqd ?_) (.cons (.eqd ?_) (.cons (.eqd ?_) (.cons (.eqd ?_) (.cons (.nild ?_) .nil))))))) (.cons (.eqd ?_) .nil)));rotate_left 7;refine si [0] [_] sl34 tz36 ?_;refine ap sl34 zz36 rfl rfl rfl (by intro x hx;(simp at hx;subst hx;rfl)) (by simp;omega) ?_;refine ev ?_;refine so ty34 ?_;refine tv ?_;refine ar ?_;refine xah ((x.1+1,x.2++[zdJ n (nth a.kids x.1) (nth b.kids x.1)])) ⟨⟨by dsimp only;omega,by dsimp only;rw[xaa,hg1.2.1];rfl,by dsimp only;rw[<-key x.1 x.2 (by omega) (by assumption)];exact hg1.2.2⟩,(by dsimp only;omega),sx ⟨⟨_,rfl,xax ?_⟩,trivial⟩ ⟨?_,⟨zag ?_,trivial⟩⟩⟩;focus (rfl)
   focus (first|rfl|(simp[getH];done))
   focus ((simp;done))
   refine so ty36 ?_;refine ev ?_;refine rn0 (.cons (.cellA ty36 rfl rfl rfl) (.cons (.tmp rfl) .nil)) (.tup (.cons (.agg (.cons (.eqd ?_) (.cons (.eqd ?_) (.cons (.eqd ?_) (.cons (.eqd ?_) (.cons (.eqd ?_) (.cons (.gld ?_) .nil))))))) (.cons (.eqd ?_) .nil)));rotate_left 7;all_goals (first|(have e2:zaU (n+1) a b=none:=(by rw[e,<-hg1.2.2,zmS (by omega) (by omega) (zn2 (by assumption))];rfl);(first|rw[zfB e2]|rw[e2]);all_goals rfl)|(have e2:zaU (n+1) a b=some (zbU a.ctor x.2):=(by rw[e,<-hg1.2.2,ze7 (by omega)];rfl);rw[zcC e2,xaz];all_goals rfl)|(have e2:zaU (n+1) a b=some (zbU a.ctor x.2):=(by rw[e,<-hg1.2.2,ze7 (by omega)];rfl);rw[zcC e2];all_goals rfl)|(have e2:zaU (n+1) a b=some (zbU a.ctor x.2):=(by rw[e,<-hg1.2.2,ze7 (by omega)];rfl);rw[e2];all_goals rfl))
  ·skip
   have e:=zk2 (n:=n) h4 h2 hc;rw[ez,zfB e,e];refine bd Tryz.f276 89 [] [] fun w0 F0 own kept hk=>?_;refine bx 3002 ?_;refine bx 3003 ?_;refine ab 3004 tz36 ?_;refine ev ?_;refine sq ?_ ?_<;>intro h1 h1p h1s<;>(try simp only[Q] at h1p);exfalso;omega;refine sq ?_ ?_<;>intro h2 h2p h2s<;>(try simp only[Q] at h2p);exfalso;omega;refine sq ?_ ?_<;>intro h3 h3p h3s<;>(try simp only[Q] at h3p);exfalso;omega;refine sq ?_ ?_<;>intro h4 h4p h4s<;>(try simp only[Q] at h4p);refine bu [] [] st36 ?_;refine so ty36 ?_;refine ev ?_;refine rn0 (.cons (.cellA ty36 rfl rfl rfl) (.cons (.tmp rfl) .nil)) (.tup (.cons (.agg (.cons (.eqd ?_) (.cons (.eqd ?_) (.cons (.eqd ?_) (.cons (.eqd ?_) (.cons (.eqd ?_) (.cons (.nild ?_) .nil))))))) (.cons (.eqd ?_) .nil)));rotate_left 7;exfalso;omega;all_goals (rfl)
theorem zqw {f:Ty->Pat->Pat->List Pat}{c:Int}{ts:List Ty}{xs bs front:List Pat}{i:Nat} (h1:i<ts.length) (h2:i<xs.length) (h3:i<bs.length) (h:(zaU 11 (nth xs i) (nth bs i)).isSome=true):
  zbb f c (ts.drop i) (xs.drop i) (bs.drop i) front=(f (nth ts i) (nth xs i) (nth bs i)).map (fun z=>zbU c (front++[z]++xs.drop (i+1)))++zbb f c (ts.drop (i+1)) (xs.drop (i+1)) (bs.drop (i+1)) (front++[zdJ 11 (nth xs i) (nth bs i)]):=by
 rw[zqt h];exact zlu h1 h2 h3 h
theorem ztG (c:Int) (L:List Pat):Pat.cc (zbU c L)=[D.i 4,D.i c,D.i 0,D.i 0,D.i 0,D.sl (L.map Pat.cc)]:=by
 show [D.i 4,D.i c,D.i 0,D.i 0,D.i 0,D.sl (Pat.cs L)]=_
 rw[xaz]
section
variable {w:List Data}
abbrev MinusSp (w:List Data) (n:Nat) (ta tk:Int) (a b:Pat):Prop:=
 FnD Tryz.prog 232 [.d (zao w),.agg [.d (.i ta),.d (.i tk)],.agg [.d (.i (a).op),.d (.i (a).ctor),.d (.i (a).n),.d (.i (a).m),.d (.i (a).var),.d (zaj (a).kids)],.agg [.d (.i (b).op),.d (.i (b).ctor),.d (.i (b).n),.d (.i (b).m),.d (.i (b).var),.d (zaj (b).kids)]] [] (.d (zaj (zaB w n ⟨ta,tk⟩ a b))) []
theorem zoe (hs:Spa w){n m:Nat} (hn:n+1<=10) (hm:m+1<=11) (hnm:n<m)
  (ih:∀ {ta tk:Int}{a b:Pat},InS (w.length*4) ⟨ta,tk⟩->zaq w m ⟨ta,tk⟩ a=true->zaq w n ⟨ta,tk⟩ b=true->MinusSp w n ta tk a b)
  {ta tk:Int}{a b:Pat} (ht:InS (w.length*4) ⟨ta,tk⟩) (ha:zaq w (m+1) ⟨ta,tk⟩ a=true) (hb:zaq w (n+1) ⟨ta,tk⟩ b=true) (h4:a.op=4) (h4b:b.op=4) (hc:a.ctor=b.ctor):
  FnD Tryz.prog 303 [.d (zao w),.agg [.d (.i ta),.d (.i tk)],.agg [.d (.i (a).op),.d (.i (a).ctor),.d (.i (a).n),.d (.i (a).m),.d (.i (a).var),.d (zaj (a).kids)],.agg [.d (.i (b).op),.d (.i (b).ctor),.d (.i (b).n),.d (.i (b).m),.d (.i (b).var),.d (zaj (b).kids)]] [] (.d (zaj (zaB w (n+1) ⟨ta,tk⟩ a b))) []:=by
 obtain⟨c1,c2,c3,-⟩:=zba ha h4;obtain⟨d1,d2,d3,-⟩:=zba hb h4b;rw[<-hc] at d3;have h3l:=hs.args ⟨ta,tk⟩ a.ctor ht c1;have ka:=fun i (hi:i<a.kids.length)=>zbs ha hi;have kb:=fun i (hi:i<b.kids.length)=>zbs hb hi;rw[zbe h4] at ka;rw[zbe h4b,<-hc] at kb;have hbd:=zf2 hs (n:=n+1) (m:=m+1) (by omega) hn ht ha hb;have e:zaB w (n+1) ⟨ta,tk⟩ a b=zbb (zaB w n) a.ctor (zad w ⟨ta,tk⟩ a.ctor) a.kids b.kids []:=by rw[zex h4b h4];exact if_pos hc
 have hins:=fun i (hi:i<(zad w ⟨ta,tk⟩ a.ctor).length)=>zbh hs.dp ht c1 _ (zai hi);have hmi:∀i,i<(zad w ⟨ta,tk⟩ a.ctor).length->FnD Tryz.prog 232 [.d (zao w),.agg [.d (.i (nth (zad w ⟨ta,tk⟩ a.ctor) i).data),.d (.i (nth (zad w ⟨ta,tk⟩ a.ctor) i).index)],.agg [.d (.i (nth a.kids i).op),.d (.i (nth a.kids i).ctor),.d (.i (nth a.kids i).n),.d (.i (nth a.kids i).m),.d (.i (nth a.kids i).var),.d (zaj (nth a.kids i).kids)],.agg [.d (.i (nth b.kids i).op),.d (.i (nth b.kids i).ctor),.d (.i (nth b.kids i).n),.d (.i (nth b.kids i).m),.d (.i (nth b.kids i).var),.d (zaj (nth b.kids i).kids)]] [] (.d (zaj (zaB w n (nth (zad w ⟨ta,tk⟩ a.ctor) i) (nth a.kids i) (nth b.kids i)))) []:=fun i hi=>ih (ta:=(nth (zad w ⟨ta,tk⟩ a.ctor) i).data) (tk:=(nth (zad w ⟨ta,tk⟩ a.ctor) i).index) (hins i hi) (ka i (by omega)) (kb i (by omega));have hme:=fun i (hi:i<(zad w ⟨ta,tk⟩ a.ctor).length)=>ziV hs 11 m (t:=nth (zad w ⟨ta,tk⟩ a.ctor) i) (by omega) (hins i hi) (ka i (by omega)) (zk6 (by omega) (kb i (by omega)));rw[e] at hbd ⊢;have hT:∀i out front,i<(zad w ⟨ta,tk⟩ a.ctor).length->out++zbb (zaB w n) a.ctor ((zad w ⟨ta,tk⟩ a.ctor).drop i) (a.kids.drop i) (b.kids.drop i) front=zbb (zaB w n) a.ctor (zad w ⟨ta,tk⟩ a.ctor) a.kids b.kids []->
   out.length+(zaB w n (nth (zad w ⟨ta,tk⟩ a.ctor) i) (nth a.kids i) (nth b.kids i)).length<=20000000:=fun i out front hi h=>by
  rw[zhZ hi (by omega) (by omega)] at h;have:=congrArg List.length h;simp only[xaa,xac] at this;omega
 refine bd Tryz.f303 100 [] [] fun w0 F0 own kept hk=>?_;refine bx 3005 ?_;refine bx 3006 ?_;refine bx 3007 ?_;refine ev ?_;refine xbc 9 sl34 .none rfl rfl ?_;refine ev ?_;refine wc zdO (zbM hs.dp.wt (zbE ht) c1) rfl rfl ?_;refine ev ?_;refine xbc 8 sl34 .none rfl rfl ?_;refine ev ?_;refine xam (ι:=Nat×List Pat×List Pat) hk (fun s=>[(12,.d (.i (s.1:Int))),(9,.gl 9 (s.2.1.map Pat.cc)),(11,.gl 8 (s.2.2.map Pat.cc))]) [8,13,14,15,16,17,25,26,27,28,29,30,31,32,33,34,35,36,37,38,39,40,41,42,43,44,45,46,47,48,49,50,51,52,53,54,55,56,57,58,59,60,61,62,63,64,65,66,67,68,69,70,71,72,73,74,75,76,77,78,79,80,81,82,83,84,85,86,87,88,89,90,91,92,93,94,95,96,97,98] (fun s=>[(9,some (.tok ((s.2.1.map Pat.cc)).length 6)),(8,some (.tok ((s.2.2.map Pat.cc)).length 6))]) (fun s=>s.1<=a.kids.length/\s.2.2.length=s.1/\s.2.1++zbb (zaB w n) a.ctor ((zad w ⟨ta,tk⟩ a.ctor).drop s.1) (a.kids.drop s.1) (b.kids.drop s.1) s.2.2=zbb (zaB w n) a.ctor (zad w ⟨ta,tk⟩ a.ctor) a.kids b.kids []) (fun s=>a.kids.length-s.1) (0,[],[]) ⟨by simp,rfl,rfl⟩ ⟨⟨_,rfl,xax ?_⟩,⟨⟨_,rfl,LeA.glg ?_⟩,⟨⟨_,rfl,LeA.glg ?_⟩,trivial⟩⟩⟩ ⟨zag ?_,⟨zag ?_,trivial⟩⟩ (fun x=>rfl) (fun s hg1=>?_);iterate 5 focus (rfl)
 refine evc [] [] ?_;refine sq ?_ ?_<;>intro h1 h1p h1s<;>(try simp only[Q,Pat.cs_len] at h1p);refine xaP zaK .none rfl rfl rfl rfl (zaz (by omega)) rfl ?_;refine evd [] [] ?_;refine xaP sl34 .none rfl rfl rfl rfl (zas (by omega)) rfl ?_;refine evd [] [] ?_;refine xaP sl34 .none rfl rfl rfl rfl (zas (by omega)) rfl ?_;refine evd [] [] ?_;refine wc zpT (hmi s.1 (by omega)) rfl rfl ?_;refine evd [] [] ?_;refine dr ?_;refine xam (ι:=List (Pat)×List (Pat)) hk (fun x=>[(14,.d (.i (x.1.length:Int))),(9,.gl 9 ((s.2.1++x.1.map (fun z=>zbU a.ctor (s.2.2++[z]++a.kids.drop (s.1+1)))).map Pat.cc))]) [15,47,48,49,50,51,52,53,54,55,56,57,58,59,60,61,62,63,64,65,66,67,68,69,70,71,72,73,74,75,76,77] (fun x=>[(9,some (.tok (((s.2.1++x.1.map (fun z=>zbU a.ctor (s.2.2++[z]++a.kids.drop (s.1+1)))).map Pat.cc)).length 6))]) (fun x=>x.1++x.2=(zaB w n (nth (zad w ⟨ta,tk⟩ a.ctor) s.1) (nth a.kids s.1) (nth b.kids s.1))) (fun x=>x.2.length) ([],(zaB w n (nth (zad w ⟨ta,tk⟩ a.ctor) s.1) (nth a.kids s.1) (nth b.kids s.1))) (by simp) ⟨⟨_,rfl,xax ?_⟩,⟨⟨_,rfl,LeA.glg ?_⟩,trivial⟩⟩ ⟨zag ?_,trivial⟩ (fun x=>rfl) (fun x hg2=>?_);iterate 3 focus ((simp;done))
 obtain⟨pre,rest⟩:=x;dsimp only at hg2 ⊢;refine evc [] [] ?_;refine sq ?_ ?_<;>intro h2 h2p h2s<;>(try simp only[Q,Pat.cs_len] at h2p);rcases rest with _|⟨y,rest⟩
 ·exfalso;simp_all
 refine xbc 7 sl34 .none rfl rfl ?_;refine evd [] [] ?_;refine ap sl34 zz36 rfl rfl rfl (by intro x hx;exact zhg _ x hx) (by(simp[Pat.cs_len];omega)) ?_;refine evd [] [] ?_;refine xaP sl34 .none rfl rfl rfl rfl (Pat.cs_at' hg2) rfl ?_;refine evd [] [] ?_;refine si [0] [_] sl34 tz36 ?_;refine ap sl34 zz36 rfl rfl rfl (by intro x hx;(simp at hx;subst hx;rfl)) (by(have h9:=hT s.1 s.2.1 s.2.2 (by omega) hg1.2.2;have h8:=congrArg List.length hg2;simp[Pat.cs_len] at h8 ⊢;omega)) ?_;refine bu [0,1,5] [_,_,_] st36 ?_;refine ab 3015 tz36 ?_;refine so ty36 ?_;refine dr ?_;refine ar ?_ (by(constructor<;>omega));refine xaM (b:=s.1+1) sl34 .none rfl rfl rfl (by intro x hx;exact zcm _ x hx) rfl rfl (by simp only[Pat.cs_len];omega) ?_;refine ap sl34 zz36 rfl rfl rfl (by intro x hx;exact zcm _ x (List.mem_of_mem_drop hx)) (by(have h9:=hT s.1 s.2.1 s.2.2 (by omega) hg1.2.2;have h8:=congrArg List.length hg2;simp[Pat.cs_len] at h8 ⊢;omega)) ?_;refine evd [] [] ?_;refine so ty34 ?_;refine dr ?_;refine si [0] [_] sl34 tz36 ?_;refine ap sl34 zz36 rfl rfl rfl (by intro x hx;(simp at hx;subst hx;rfl)) (by(have h9:=hT s.1 s.2.1 s.2.2 (by omega) hg1.2.2;have h8:=congrArg List.length hg2;simp[Pat.cs_len] at h8 ⊢;omega)) ?_;refine ev ?_;refine ar ?_ (by(have h9:=hT s.1 s.2.1 s.2.2 (by omega) hg1.2.2;have h8:=congrArg List.length hg2;simp only[xaa,xab] at h8;constructor<;>omega));refine xah ((pre++[y],rest)) ⟨(by have hz:=hg2;rw[<-hz];simp),(by simp),sx ⟨⟨_,rfl,xax ?_⟩,⟨⟨_,rfl,LeA.glg ?_⟩,trivial⟩⟩ ⟨zag ?_,trivial⟩⟩;iterate 3 focus (first|(simp;done)|(simp only[xaf,List.append_assoc,xae,List.map_nil,ztG,xaz a.kids,List.map_drop,List.nil_append,xag];done)|(simp;omega))
 have hrest:rest=[]:=by
  rcases rest with _|⟨a,b⟩
  ·rfl
  ·exfalso;have hz:=congrArg List.length (hg2);simp only[xaa,xab,xac] at hz;omega
 subst hrest;refine xaP sl34 .none rfl rfl rfl rfl (zas (by omega)) rfl ?_;refine evd [] [] ?_;refine xaP sl34 .none rfl rfl rfl rfl (zas (by omega)) rfl ?_;refine evd [] [] ?_;refine wc zsM (hme s.1 (by omega)) rfl rfl ?_;refine evd [] [] ?_;refine ab 3016 tz36 ?_;refine so ty36 ?_;refine evd [] [] ?_;refine dr ?_;refine sq ?_ ?_<;>intro h3 h3p h3s;refine rn0 (r1 rfl) (.gld ?_);rotate_left;try simp only[Q,Pat.cs_len] at h3p
 refine si [0] [_] sl34 tz36 ?_;refine ap sl34 zz36 rfl rfl rfl (by intro x hx;(simp at hx;subst hx;rfl)) (by(have h9:=hT s.1 s.2.1 s.2.2 (by omega) hg1.2.2;have h8:=congrArg List.length hg2;simp[Pat.cs_len] at h8 ⊢;omega)) ?_;refine ev ?_;refine ar ?_ (by(constructor<;>omega));refine xah ((s.1+1,s.2.1++(zaB w n (nth (zad w ⟨ta,tk⟩ a.ctor) s.1) (nth a.kids s.1) (nth b.kids s.1)).map (fun z=>zbU a.ctor (s.2.2++[z]++a.kids.drop (s.1+1))),s.2.2++[zdJ 11 (nth a.kids s.1) (nth b.kids s.1)])) ⟨⟨by dsimp only;omega,by dsimp only;rw[xaa,hg1.2.1];rfl,by dsimp only;rw[List.append_assoc,<-zqw (by omega) (by omega) (by omega) (by assumption)];exact hg1.2.2⟩,(by dsimp only;omega),sx ⟨⟨_,rfl,xax ?_⟩,⟨⟨_,rfl,LeA.glg ?_⟩,⟨⟨_,rfl,LeA.glg ?_⟩,trivial⟩⟩⟩ ⟨zag ?_,⟨zag ?_,trivial⟩⟩⟩;iterate 5 focus ((simp_all;done))
 refine rn0 (r1 rfl) (.gld ?_);rotate_left;all_goals (first|(rw[<-hg1.2.2,zmY (by omega),List.append_nil,xaz];done)|(rw[List.append_nil] at hg2;rw[<-hg1.2.2,zlt (by omega) (by omega) (by omega) (by assumption),<-hg2,xaz];all_goals rfl))
theorem zqU {n:Nat}{ta tk:Int}{a b:Pat} (h:b.op=1):MinusSp w (n+1) ta tk a b:=by
 unfold MinusSp;rw[ziJ h];refine bd Tryz.f232 82 [] [] fun w0 F0 own kept hk=>?_;refine bx 3005 ?_;refine bx 3006 ?_;refine bx 3007 ?_;refine ev ?_;refine sq ?_ ?_<;>intro h1 h1p h1s;refine xbb sl34 .none rfl ?_;refine ev ?_;refine rq ?_;rotate_left;try simp only[Q] at h1p
 exfalso;omega;all_goals (rfl)
theorem zqV {n:Nat}{ta tk:Int}{a b:Pat} (h:b.op=3) (ha:a.op=1\/a.op=3) (hbn:0<=b.n/\b.n<=9) (hbm:0<=b.m/\b.m<=9):MinusSp w (n+1) ta tk a b:=by
 unfold MinusSp;rw[zk3 h];by_cases h1:a.op=1
 ·have e:zeP a b=zcf 0 (minQ 9 (b.n-1))++zcf (maxQ 0 (b.m+1)) 9:=by
   have e1:lowQ a=0:=if_pos h1;have e2:zdh a=9:=if_pos h1;unfold zeP;rw[e1,e2]
  have hr:=zhz (a:=intQ 0 9) hbn hbm;rw[e];refine bd Tryz.f232 82 [] [] fun w0 F0 own kept hk=>?_;refine bx 3005 ?_;refine bx 3006 ?_;refine bx 3007 ?_;refine ev ?_;refine sq ?_ ?_<;>intro h1 h1p h1s;try simp only[Q] at h1p
  exfalso;omega;refine sq ?_ ?_<;>intro h2 h2p h2s;refine sq ?_ ?_<;>intro h3 h3p h3s;refine bu [0,3] [_,_] st36 ?_;refine ev ?_;refine Walk.call (cr:=[]) zsQ (hr) rfl .none rfl rfl (.cons (.agg (.cons (.refl _) (.cons (.refl _) (.cons (.refl _) (.cons (.refl _) (.cons (.refl _) (.cons .nil .nil))))))) (.cons (.refl _) .nil)) trivial rfl rfl rfl ?_;refine ev ?_;focus (refine rq ?_;all_goals (rfl))
  focus (exfalso;first|omega|(simp_all;done))
  try simp only[Q] at h2p
  exfalso;omega
 ·have e:zeP a b=zcf a.n (minQ a.m (b.n-1))++zcf (maxQ a.n (b.m+1)) a.m:=by
   have e1:lowQ a=a.n:=if_neg h1;have e2:zdh a=a.m:=if_neg h1;unfold zeP;rw[e1,e2]
  have hr:=zhz (a:=a) hbn hbm;rw[e];refine bd Tryz.f232 82 [] [] fun w0 F0 own kept hk=>?_;refine bx 3005 ?_;refine bx 3006 ?_;refine bx 3007 ?_;refine ev ?_;refine sq ?_ ?_<;>intro h1 h1p h1s;try simp only[Q] at h1p
  exfalso;omega;refine sq ?_ ?_<;>intro h2 h2p h2s;refine sq ?_ ?_<;>intro h3 h3p h3s;focus (exfalso;first|omega|(simp_all;done))
  refine sq ?_ ?_<;>intro h4 h4p h4s;refine wc zsQ (hr) rfl rfl ?_;refine ev ?_;focus (refine rq ?_;all_goals (rfl))
  try simp only[Q] at h4p
  exfalso;omega;try simp only[Q] at h2p
  exfalso;omega
theorem zqY {n:Nat}{ta tk:Int}{a b:Pat} (h4:a.op=4) (h4b:b.op=4) (hc:¬a.ctor=b.ctor):MinusSp w (n+1) ta tk a b:=by
 unfold MinusSp;have e:zaB w (n+1) ⟨ta,tk⟩ a b=[a]:=by rw[zex h4b h4];exact if_neg hc
 rw[e];refine bd Tryz.f232 82 [] [] fun w0 F0 own kept hk=>?_;refine bx 3005 ?_;refine bx 3006 ?_;refine bx 3007 ?_;refine ev ?_;refine sq ?_ ?_<;>intro h1 h1p h1s;try simp only[Q] at h1p
 exfalso;omega;refine sq ?_ ?_<;>intro h2 h2p h2s;try simp only[Q] at h2p
 exfalso;omega;refine sqF ?_;refine sq ?_ ?_<;>intro h4 h4p h4s;try simp only[Q] at h4p
 exfalso;omega;refine sq ?_ ?_<;>intro h5 h5p h5s;refine sq ?_ ?_<;>intro h6 h6p h6s;refine si [0] [_] sl34 tz36 ?_;refine ev ?_;refine rq ?_;rotate_left;focus (exfalso;first|omega|(simp_all;done))
 try simp only[Q] at h5p
 exfalso;omega;all_goals (first|rfl|(cases a;rfl))
theorem zqX (hs:Spa w){n m:Nat} (hn:n+1<=10) (hm:m+1<=11) (hnm:n<m)
  (ih:∀ {ta tk:Int}{a b:Pat},InS (w.length*4) ⟨ta,tk⟩->zaq w m ⟨ta,tk⟩ a=true->zaq w n ⟨ta,tk⟩ b=true->MinusSp w n ta tk a b)
  {ta tk:Int}{a b:Pat} (ht:InS (w.length*4) ⟨ta,tk⟩) (ha:zaq w (m+1) ⟨ta,tk⟩ a=true) (hb:zaq w (n+1) ⟨ta,tk⟩ b=true) (h4:a.op=4) (h4b:b.op=4) (hc:a.ctor=b.ctor):MinusSp w (n+1) ta tk a b:=by
 have hki:=zoe hs hn hm hnm ih ht ha hb h4 h4b hc;clear ih;unfold MinusSp;refine bd Tryz.f232 82 [] [] fun w0 F0 own kept hk=>?_;refine bx 3005 ?_;refine bx 3006 ?_;refine bx 3007 ?_;refine ev ?_;refine sq ?_ ?_<;>intro h1 h1p h1s;try simp only[Q] at h1p
 exfalso;omega;refine sq ?_ ?_<;>intro h2 h2p h2s;try simp only[Q] at h2p
 exfalso;omega;refine sqF ?_;refine sq ?_ ?_<;>intro h4 h4p h4s;try simp only[Q] at h4p
 exfalso;omega;refine sq ?_ ?_<;>intro h5 h5p h5s;refine sq ?_ ?_<;>intro h6 h6p h6s;focus (exfalso;first|omega|(simp_all;done))
 refine sq ?_ ?_<;>intro h7 h7p h7s;refine wc zvQ (hki) rfl rfl ?_;refine ev ?_;focus (refine rq ?_;all_goals (rfl))
 try simp only[Q] at h7p
 exfalso;omega;try simp only[Q] at h5p
 exfalso;omega
theorem zqW (hs:Spa w){n:Nat}{ta tk:Int}{a b:Pat} (ht:InS (w.length*4) ⟨ta,tk⟩) (h1:a.op=1) (h4b:b.op=4) (hbd:(zaB w (n+1) ⟨ta,tk⟩ a b).length<=20000000)
  (hC:∀c∈zaA w ⟨ta,tk⟩,MinusSp w (n+1) ta tk (zcg w ⟨ta,tk⟩ c) b):MinusSp w (n+1) ta tk a b:=by
 have e:zaB w (n+1) ⟨ta,tk⟩ a b=(zaA w ⟨ta,tk⟩).flatMap fun c=>zaB w (n+1) ⟨ta,tk⟩ (zcg w ⟨ta,tk⟩ c) b:=by
  rw[ziK h4b h1];exact congrArg (fun g=>(zaA w ⟨ta,tk⟩).flatMap g) (funext fun c=>(zex h4b rfl).symm)
 unfold MinusSp;rw[e] at hbd ⊢;have hcl:=(hs.ctors _ ht).1;have hpre:∀ {pre rest:List Int}{y:Int},pre++y::rest=zaA w ⟨ta,tk⟩->(pre.flatMap fun c=>zaB w (n+1) ⟨ta,tk⟩ (zcg w ⟨ta,tk⟩ c) b).length+(zaB w (n+1) ⟨ta,tk⟩ (zcg w ⟨ta,tk⟩ y) b).length<=20000000:=fun h=>by
  rw[<-h,List.flatMap_append,List.flatMap_cons] at hbd;simp only[xaa] at hbd;omega
 have hmem:∀ {pre rest:List Int}{y:Int},pre++y::rest=zaA w ⟨ta,tk⟩->y∈zaA w ⟨ta,tk⟩:=fun h=>by rw[<-h];simp
 refine bd Tryz.f232 82 [] [] fun w0 F0 own kept hk=>?_;refine bx 3005 ?_;refine bx 3006 ?_;refine bx 3007 ?_;refine ev ?_;refine sq ?_ ?_<;>intro h1 h1p h1s;try simp only[Q,Pat.cs_len] at h1p
 exfalso;omega;refine sq ?_ ?_<;>intro h2 h2p h2s;try simp only[Q,Pat.cs_len] at h2p
 exfalso;omega;refine sqF ?_;refine sq ?_ ?_<;>intro h4 h4p h4s;try simp only[Q,Pat.cs_len] at h4p
 exfalso;omega;refine sq ?_ ?_<;>intro h5 h5p h5s;try simp only[Q,Pat.cs_len] at h5p
 exfalso;omega;refine sqF ?_;refine sq ?_ ?_<;>intro h7 h7p h7s;try simp only[Q,Pat.cs_len] at h7p
 exfalso;omega;refine xbc 9 sl34 .none rfl rfl ?_;refine ev ?_;refine wc zfl (zcA hs.dp.wt (zbE ht)) rfl rfl ?_;refine ev ?_;refine xam (ι:=List (Int)×List (Int)) hk (fun x=>[(11,.d (.i (x.1.length:Int))),(9,.gl 9 (Pat.cs (x.1.flatMap fun c=>zaB w (n+1) ⟨ta,tk⟩ (zcg w ⟨ta,tk⟩ c) b)))]) [62,63,64,65,66,67,68,69,70,71,72,73,74,75,76,77,78,79,80] (fun x=>[(9,some (.tok ((Pat.cs (x.1.flatMap fun c=>zaB w (n+1) ⟨ta,tk⟩ (zcg w ⟨ta,tk⟩ c) b))).length 6))]) (fun x=>x.1++x.2=zaA w ⟨ta,tk⟩) (fun x=>x.2.length) ([],zaA w ⟨ta,tk⟩) (by simp) ⟨⟨_,rfl,xax ?_⟩,⟨⟨_,rfl,LeA.glg ?_⟩,trivial⟩⟩ ⟨zag ?_,trivial⟩ (fun x=>rfl) (fun x hg1=>?_);iterate 3 focus (rfl)
 obtain⟨pre,rest⟩:=x;dsimp only at hg1 ⊢;refine evc [] [] ?_;refine sq ?_ ?_<;>intro h8 h8p h8s<;>(try simp only[Q,Pat.cs_len] at h8p);rcases rest with _|⟨y,rest⟩
 ·exfalso;simp_all
 refine xaP sl29 .none rfl rfl rfl rfl (zaN hg1) rfl ?_;refine evd [] [] ?_;refine wc zvR (zpl hs.dp.wt (zbE ht) (hmem hg1) (hs.args _ _ ht (hmem hg1))) rfl rfl ?_;refine evd [] [] ?_;refine wc zpT (hC y (hmem hg1)) rfl rfl ?_;refine ap sl34 zz36 rfl rfl rfl (by exact zcm _) (by have h9:=hpre hg1;simp only[Pat.cs_len];omega) ?_;refine evd [] [] ?_;refine dr ?_;refine ar ?_;refine xah ((pre++[y],rest)) ⟨(by have hz:=hg1;rw[<-hz];simp),(by simp),sx ⟨⟨_,rfl,xax ?_⟩,⟨⟨_,rfl,LeA.glg ?_⟩,trivial⟩⟩ ⟨zag ?_,trivial⟩⟩;iterate 3 focus (first|(rw[List.flatMap_append,xaz,xaz,xaz,xaf];simp;done)|(simp[Pat.cs_len];done))
 have hrest:rest=[]:=by
  rcases rest with _|⟨a,b⟩
  ·rfl
  ·exfalso;have hz:=congrArg List.length (hg1);simp only[xaa,xab,xac] at hz;omega
 subst hrest;refine rn0 (r1 rfl) (.gld ?_);rotate_left;all_goals ((rw[List.append_nil] at hg1;rw[hg1];done))
theorem zid (hs:Spa w):∀(n m:Nat){ta tk:Int}{a b:Pat},n<m->n<=10->m<=11->InS (w.length*4) ⟨ta,tk⟩->zaq w m ⟨ta,tk⟩ a=true->zaq w n ⟨ta,tk⟩ b=true->MinusSp w n ta tk a b
 |0,m,ta,tk,a,b,_,_,_,_,_,hb=>by simp[zaq] at hb
 |n+1,0,ta,tk,a,b,h,_,_,_,_,_=>by omega
 |n+1,m+1,ta,tk,a,b,h,hn,hm,ht,ha,hb=>by
  have hC:∀ {a:Pat},zaq w (m+1) ⟨ta,tk⟩ a=true->a.op=4->b.op=4->MinusSp w (n+1) ta tk a b:=fun {a} ha h4 h4b=>by
   by_cases hc:a.ctor=b.ctor
   ·exact zqX hs hn hm (by omega) (fun h1 h2 h3=>zid hs n m (by omega) (by omega) (by omega) h1 h2 h3) ht ha hb h4 h4b hc
   ·exact zqY h4 h4b hc
  rcases zcd hb with h1|h3|h4b
  ·exact zqU h1
  ·have:=zcy hb h3;refine zqV h3 ?_ ⟨by omega,by omega⟩ ⟨by omega,by omega⟩;by_cases h1:a.op=1
   ·exact .inl h1
   ·exact .inr (by have:=zdS ha hb h1 (by omega);omega)
  ·by_cases h1:a.op=1
   ·obtain⟨m',rfl⟩:∃m',m=m'+1:=⟨m-1,by omega⟩;exact zqW hs ht h1 h4b (zf2 hs h hn ht ha hb) (fun c hc=>hC (zdT hc) rfl h4b)
   ·exact hC ha (by have:=zdS ha hb h1 (by omega);omega) h4b
end
section
variable {c:Ctx}{all:Array Oper}{chk:List Rec->Prop}{os:List Oper}{recs:List Rec}{env:Env}{hp:Hp}{Q:St->Prop}
variable {d ty:Nat}{pos:String}{af:Array Edge}{g:Option (Nat×Bool)}{pg:List (Nat×AV)}{t yt:TypeId}{x y:Operand}
theorem Walk.appendM {id k e yb:Nat}{xs ys:List (List D)}{vy:AV}{ids:List Nat} (hkp:KeptIn c.kept ids) (hid:zaZ id ids=false) (hne:xs++ys≠[]) (ht:SlT c.P t e k yb) (hz:ZeroT c.P e k) (hg:GH all env g pg) (hd:Nat.blt d c.n=true)
  (hx:opd env x=some (.gv id xs)) (hy:opd env y=some vy) (hyd:vy.toD=some (.sl ys)) (htok:getH hp id=some (.tok xs.length k)) (hky:∀y,y∈ys->y.length=k)
  (hb:(xs.length+ys.length)*yb<=140737488355328) (hm:xs.length+ys.length<=9223372036854775807)
  (hn:Walk c all chk os (zat (pg++(opF x (.gv id xs)++opF y vy)) [(id,.tok xs.length k)] [] ⟨some (d,.ms id (xs++ys).length),[(id,some (.box ((xs++ys).flatten.map .d)))]⟩::recs)
   ⟨(d,.ms id (xs++ys).length)::env,(id,some (.box ((xs++ys).flatten.map .d)))::hp⟩ Q):
  Walk c all chk (⟨some d,.call ⟨.builtin .append,#[x,y],#[t,t]⟩,ty,pos,af,g⟩::os) recs ⟨env,hp⟩ Q:=by
 refine⟨pg++(opF x (.gv id xs)++opF y vy),[(id,.tok xs.length k)],[],_, ?_,zaD hg.facts (zaD (za2 hx) (za2 hy)),hh1 htok,by simp,hn⟩;intro s a w hrel hp' hh _ K Q' hK;obtain⟨G,hr⟩:=hrel;have e1:=hr.opd (za3 hx (fun p hm=>hp' p (by simp[hm])));have e2:=hr.opd (za3 hy (fun p hm=>hp' p (by simp[hm])));obtain⟨i,z,z1,z2,z3⟩:=hz.out;obtain⟨v',w',G',hrun,hR,hA⟩:=zjX hr ht ⟨i,z1,z2,z3⟩ (hh1' hh) e1 (e2.toD hyd) hky hb hm ty;unfold wpO;rw[if_pos (hg.gf.wanted hr (fun p hm=>hp' p (by simp[hm])))];unfold Oper.wp;have:(execOp a.eval ⟨some d,.call ⟨.builtin .append,#[x,y],#[t,t]⟩,ty,pos,af,g⟩).run c.P w = .ok (.value v') w':=by
  simp only[execOp,resolve,invoke,builtin,Sem.run_bind,Sem.run_pure,Result.andThen_ok,List.map_toArray,xae,List.map_nil,hrun]
 rw[this,Oper.upon_value];have hV:Rel c ⟨(d,.gv id (xs++ys))::s.env,(id,some (.tok (xs.length+ys.length) k))::s.hp⟩ (a.put (some d) v') w':=⟨G',hR.put hA hd⟩;rcases Rel.fixV hkp d id k (xs:=xs++ys) (by simp[getE]) (by rw[zan,if_pos rfl,xaa]) hid hV with ⟨h,_⟩|⟨_,h⟩
 ·exact absurd h hne
 ·refine hK _ _ (h.congr (fun j=>?_) (fun j=>?_))
  ·show getE ((d,_)::s.env) j=getE ((d,_)::(d,_)::s.env) j
   simp only[getE];cases Nat.beq d j<;>rfl
  ·show getH ((id,_)::s.hp) j=getH ((id,_)::(id,_)::s.hp) j
   rw[zan,zan,zan];by_cases hj:j=id
   ·rw[if_pos hj,if_pos hj]
   ·rw[if_neg hj,if_neg hj,if_neg hj]
end
theorem FnD.boxD {P:Program}{f:FuncId}{i n k:Nat}{args:List AV}{cs:List AV}{es:List (List D)} (hc:zcr n k (cs.take (n*k))=some es) (h:FnD P f args [] (.ms i n) [(i,some (.box cs))]):FnD P f args [] (.d (.sl es)) []:=by
 intro G w vals hok;refine(h G w vals hok).mono ?_;rintro e w' ⟨v,r',hp',G',rfl,⟨rfl,rfl⟩,hret⟩
 have gi:getH ([(i,some (Res.box cs))]++[]) i=some (.box cs):=by simp[getH]
 obtain⟨b,us,et,q1,q2,q3,q4,q5⟩:=hret.heap i _ gi;have hown:∀b,b∉zb0 G []:=fun b hb=>by simp[zb0] at hb
 have hnew:w.heap.size<=b:=(hret.new i (by rw[gi];rfl) b (by rw[q1];simp)).resolve_left (hown b);have hlt:b<w'.heap.size:=by
  rcases Nat.lt_or_ge b w'.heap.size with h|h
  ·exact h
  ·rw[Array.getElem?_eq_none h] at q2;cases q2
 let G2:Gh:={ G' with F:=fun x=>bif Nat.beq x b then us.size else G'.F x }
 have hin:G2.F b=us.size:=by simp[G2]
 have hout:∀x,x≠b->G2.F x=G'.F x:=fun x hx=>by
  have:Nat.beq x b=false:=by
   cases h:Nat.beq x b with
   |true=>exact absurd (Nat.eq_of_beq_eq_true h) hx
   |false=>rfl
  simp[G2,this]
 have hle:∀x o,o<G'.F x->o<G2.F x:=fun x o ho=>by
  by_cases hx:x=b
  ·subst hx;rw[q4] at ho;omega
  ·rw[hout x hx];exact ho
 refine⟨v,_,_,G2,rfl,⟨rfl,rfl⟩,zuR hret.res q1 q2 q3 q5 hin (fun y o ho=>⟨hle y o ho,rfl⟩) hc,fun id x hx=>(by cases hx),fun id id' h1=>(by cases h1),fun id h1=>(by cases h1), ?_,fun x hx=>?_,fun id hi=>(by simp[zbK,getH] at hi)⟩
 ·have hf:=hret.frm;exact⟨hf.os,hf.tape,hf.output,hf.size,fun x hx hn=>⟨(hf.block x hx hn).1,by rw[hout x (by omega)];exact(hf.block x hx hn).2⟩,fun x o ho=>⟨hle x o (hf.cell x o ho).1,(hf.cell x o ho).2⟩⟩
 ·rw[hout x (by omega)];exact hret.top x hx
def pd (s:List Pat):List AV:=(s.map Pat.cc).flatten.map .d
theorem zfa (a b:List Pat):pd (a++b)=pd a++pd b:=by simp[pd]
theorem znb (x:Pat):pd [x]=[.d (.i x.op),.d (.i x.ctor),.d (.i x.n),.d (.i x.m),.d (.i x.var),.d (zaj x.kids)]:=rfl
theorem ziN (s:List Pat):(pd s).length=s.length*6:=by
 induction s with
 |nil=>rfl
 |cons x r ih=>rw[show x::r=[x]++r from rfl,zfa,xaa,ih,znb];simp;omega
theorem zqE {s:List Pat}{i:Nat} (h:i<s.length):pd s=pd (s.take i)++(pd [nth s i]++pd (s.drop (i+1))):=by
 rw[<-zfa,<-zfa];congr 1
 rw[show [nth s i]++s.drop (i+1)=nth s i::s.drop (i+1) from rfl,<-zaW h,List.take_append_drop]
theorem ziM (s:List Pat):AV.idsL (pd s)=[]:=by
 unfold pd;induction (s.map Pat.cc).flatten with
 |nil=>rfl
 |cons x r ih=>rw[xae,AV.idsL,ih];rfl
theorem ztk {s:List Pat}{i:Nat} (h:i<s.length):cutC (pd s) (i*6) 6=some [.d (.i (nth s i).op),.d (.i (nth s i).ctor),.d (.i (nth s i).n),.d (.i (nth s i).m),.d (.i (nth s i).var),.d (zaj (nth s i).kids)]:=by
 rw[zqE h,zs1 (by rw[ziN,List.length_take];omega) (r:=pd [nth s i])]
 ·rfl
 ·rw[znb];first|exact zuO|(simp[cutC];done)
theorem zwm {s:List Pat}{i:Nat} (h:i<s.length){t:Pat}:putC (pd s) (i*6) [.d (.i t.op),.d (.i t.ctor),.d (.i t.n),.d (.i t.m),.d (.i t.var),.d (zaj t.kids)]=some (pd (s.set i t)):=by
 rw[zqE h,zoP (by rw[ziN,List.length_take];omega) (B':=pd [t]++pd (s.drop (i+1))) (by rw[znb,znb];simp[putC])];rw[List.set_eq_take_append_cons_drop,if_pos h,<-zfa,<-zfa];rfl
abbrev z6:List AV:=[.d (.i 0),.d (.i 0),.d (.i 0),.d (.i 0),.d (.i 0),.nils]
theorem zu4 {s:List Pat}{i n:Nat} (hn:s.length=n) (h:i<=n):putC (pd s) (i*6) (zaI (n-i) z6)=some (pd (s.take i)++zaI (n-i) z6):=by
 subst hn;have e:pd s=pd (s.take i)++(pd (s.drop i)++[]):=by
  rw[List.append_nil,<-zfa,List.take_append_drop]
 have e2:putC (pd (s.take i)++(pd (s.drop i)++[])) (i*6) (zaI (s.length-i) z6)=some (pd (s.take i)++(zaI (s.length-i) z6++[])):=by
  rw[zqH (by rw[ziN,List.length_take];omega) ?_];rw[ziN,List.length_drop,zeC];rfl
 rw[<-e,List.append_nil] at e2;exact e2
theorem ztW {s:List Pat}{tl:List AV}:zcr s.length 6 ((pd s++tl).take (s.length*6))=some (s.map Pat.cc):=by
 rw[List.take_append_of_le_length (by rw[ziN];exact Nat.le_refl _),List.take_of_length_le (by rw[ziN];exact Nat.le_refl _)];have:=zeL (f:=Pat.cc) (k:=6) (l:=s) (fun _ _=>rfl);rw[<-this];congr 1
 unfold pd;induction s with
 |nil=>rfl
 |cons x r ih=>
  simp only[xae,List.flatten_cons,xaf,List.flatMap_cons];exact congrArg (_++·) (ih (zeL (fun _ _=>rfl)))
theorem Pat.cs_ccs (l:List Pat):Pat.cs l=l.map Pat.cc:=by
 rw[Pat.cs_eq];exact List.map_congr_left (fun v _=>Pat.c_eq v)
theorem Ex.cs_ccs (l:List Ex):Ex.cs l=l.map Ex.cc:=by
 rw[Ex.cs_eq];exact List.map_congr_left (fun v _=>Ex.c_eq v)
theorem zeF {xs:List Pat}{f:Nat}{caps:List AV}{hp:Hp}{p:Pat->Bool} (hs:xs.length<=1000000000000) (hcal:Callee Tryz.prog f)
  (hf:∀t∈xs,FnD Tryz.prog f ([.agg [.d (.i t.op),.d (.i t.ctor),.d (.i t.n),.d (.i t.m),.d (.i t.var),.d (zaj t.kids)]]++caps) hp (.d (.bool (p t))) []) (k1:subH hp hp) (k2:zdK hp=true) (k3:zar hp [] (.d .nilp) []=true):
  FnD Tryz.prog 249 [.d (zaj xs),.fn f caps] hp (.d (.i (idxF p xs 0))) []:=by
 rw[show zaj xs=D.sl (xs.map Pat.cc) by show D.sl (Pat.cs xs)=_;rw[Pat.cs_ccs]];refine bd Tryz.f249 19 [] [] fun w0 F0 own kept hk=>?_;refine xam (ι:=List (Pat)×List (Pat)) hk (fun x=>[(8,.d (.i (x.1.length:Int)))]) [4,5,9,10,11,12,13,14,15,16,17,18] (fun x=>[]) (fun x=>x.1++x.2=xs/\idxF p x.2 x.1.length=idxF p xs 0) (fun x=>x.2.length) ([],xs) ⟨by simp,rfl⟩ ⟨⟨_,rfl,xax ?_⟩,trivial⟩ trivial (fun x=>zgT hp) (fun x hg1=>?_);focus (first|rfl|(simp;done)|(simp_all;done)|omega)
 obtain⟨pre,rest⟩:=x;dsimp only at hg1 ⊢;refine evc [] [] ?_;refine sq ?_ ?_<;>intro h1 h1p h1s<;>(try simp only[Q] at h1p);rcases rest with _|⟨y,rest⟩
 ·exfalso;simp_all
 refine xaP sl34 .none rfl rfl rfl rfl (zaN hg1.1) rfl ?_;refine ev ?_;refine xaJ (cr:=[]) hcal (hf y (by rw[<-hg1.1];simp)) rfl .none rfl rfl rfl (LeL.refl _) k1 k2 (zc5 k3 _) rfl ?_;refine tv ?_;refine sq ?_ ?_<;>intro h2 h2p h2s<;>(try simp only[Q] at h2p);focus (refine rn [] (r1 rfl) (.eqd ?_) ⟨rfl,rfl⟩ (fun _ _ h=>h) (fun _ h=>h);all_goals (rw[<-hg1.2];simp[idxF,h1s,h1p,h2s,h2p]))
 refine ar ?_;refine xah ((pre++[y],rest)) ⟨⟨(by have hz:=hg1.1;rw[<-hz];simp),(by rw[<-hg1.2];simp[idxF,h2s])⟩,(by simp),Sub.x (by kernel_rfl) (by kernel_rfl) ⟨⟨_,rfl,xax ?_⟩,trivial⟩ (by simp) (by simp[zdv]) trivial⟩;focus (first|rfl|(simp;done)|(simp_all;done)|omega)
 have hrest:rest=[]:=by
  rcases rest with _|⟨a,b⟩
  ·rfl
  ·exfalso;have hz:=congrArg List.length (hg1.1);simp only[xaa,xab,xac] at hz;omega
 subst hrest;focus (refine rn [] (r1 rfl) (.eqd ?_) ⟨rfl,rfl⟩ (fun _ _ h=>h) (fun _ h=>h);all_goals (rw[<-hg1.2];simp[idxF,h1s,h1p]))
theorem zgG {xs:List Pat}{f:Nat}{caps:List AV}{hp:Hp}{p:Pat->Bool} (hs:xs.length<=1000000000000) (hcal:Callee Tryz.prog f)
  (hf:∀t∈xs,FnD Tryz.prog f ([.agg [.d (.i t.op),.d (.i t.ctor),.d (.i t.n),.d (.i t.m),.d (.i t.var),.d (zaj t.kids)]]++caps) hp (.d (.bool (p t))) []) (k1:subH hp hp) (k2:zdK hp=true) (k3:zar hp [] (.d .nilp) []=true):
  FnD Tryz.prog 153 [.d (zaj xs),.fn f caps] hp (.d (.bool (xs.any p))) []:=by
 refine bd Tryz.f153 9 [] [] fun w0 F0 own kept hk=>?_;refine Walk.call (cr:=[]) zmh (zeF hs hcal hf k1 k2 k3) rfl .none rfl rfl (LeL.refl _) k1 k2 (zc5 k3 _) rfl ?_;refine ev ?_;refine rn [] (r1 rfl) (.eqd ?_) ⟨rfl,rfl⟩ (fun _ _ h=>h) (fun _ h=>h);rotate_left;all_goals (exact congrArg D.bool (zeX p xs 0))
theorem zeQ {xs:List Pat}{f:Nat}{B2 B3:List AV}{p:Pat->Bool} (hs:xs.length<=1000000000000) (hcal:Callee Tryz.prog f) (hB2:AV.idsL B2=[]) (hB3:AV.idsL B3=[])
  (hf:∀t∈xs,FnD Tryz.prog f [.agg [.d (.i t.op),.d (.i t.ctor),.d (.i t.n),.d (.i t.m),.d (.i t.var),.d (zaj t.kids)],.ref 3003 0,.ref 3004 0] [(3003,some (.box B2)),(3004,some (.box B3))] (.d (.bool (p t))) []):
  FnD Tryz.prog 249 [.ms 1 xs.length,.fn f [.ref 3003 0,.ref 3004 0]] [(1,some (.box (pd xs))),(3003,some (.box B2)),(3004,some (.box B3))] (.d (.i (idxF p xs 0))) []:=by
 refine bd Tryz.f249 19 [15] [] fun w0 F0 own kept hk=>?_;refine xam (ι:=Nat) hk (fun i=>[(8,.d (.i (i:Int)))]) [4,5,9,10,11,12,13,14,15,16,17,18] (fun i=>[]) (fun i=>i<=xs.length/\idxF p (xs.drop i) i=idxF p xs 0) (fun i=>xs.length-i) 0 ⟨by omega,rfl⟩ ⟨⟨_,rfl,xax ?_⟩,trivial⟩ trivial (fun x=>rfl) (fun i hg1=>?_);focus (rfl)
 refine evc [15] [] ?_;refine sq ?_ ?_<;>intro h1 h1p h1s<;>(try simp only[Q] at h1p);refine xaS sl34 .none rfl rfl rfl rfl (by first|omega|(simp ;omega)) ?_;refine xaW ty36 .none rfl rfl rfl ((ztk (by omega))) ?_;refine xaJ (cr:=[]) hcal (hf (nth xs i) (zai (by omega))) rfl .none rfl rfl rfl (LeL.refl _) ⟨rfl,rfl,trivial⟩ rfl (by simp only[zar,List.all_cons,List.all_nil,zaC,zay,AV.idsL,AV.ids,hB2,hB3,xae,List.map_nil];rfl) rfl ?_;refine tv ?_;refine sq ?_ ?_<;>intro h2 h2p h2s<;>(try simp only[Q] at h2p);focus (refine rn [] (r1 rfl) (.eqd ?_) ⟨rfl,rfl⟩ (SubH.get ⟨rfl,⟨rfl,⟨rfl,trivial⟩⟩⟩) (fun _ h=>h);all_goals ((rw[<-hg1.2,zaW (by omega)];simp[idxF,h1s,h1p,h2s,h2p];done)))
 refine ar ?_;refine xah (i+1) ⟨⟨by omega,(by rw[<-hg1.2,zaW (l:=xs) (i:=i) (by omega)];simp_all[idxF])⟩,(by omega),sx ⟨⟨_,rfl,xax ?_⟩,trivial⟩ trivial⟩;focus (rfl)
 focus (refine rn [] (r1 rfl) (.eqd ?_) ⟨rfl,rfl⟩ (SubH.get ⟨rfl,⟨rfl,⟨rfl,trivial⟩⟩⟩) (fun _ h=>h);all_goals ((rw[<-hg1.2,List.drop_eq_nil_of_le (by omega)];rfl)))
theorem zhF {xs:List Pat}{f:Nat}{B2 B3:List AV}{p:Pat->Bool} (hs:xs.length<=1000000000000) (hcal:Callee Tryz.prog f) (hB2:AV.idsL B2=[]) (hB3:AV.idsL B3=[])
  (hf:∀t∈xs,FnD Tryz.prog f [.agg [.d (.i t.op),.d (.i t.ctor),.d (.i t.n),.d (.i t.m),.d (.i t.var),.d (zaj t.kids)],.ref 3003 0,.ref 3004 0] [(3003,some (.box B2)),(3004,some (.box B3))] (.d (.bool (p t))) []):
  ∃tl:List AV,AV.idsL tl=[]/\FnD Tryz.prog 241 [.ms 1 xs.length,.fn f [.ref 3003 0,.ref 3004 0]] [(1,some (.box (pd xs))),(3003,some (.box B2)),(3004,some (.box B3))]
   (.ms 1 (xs.filter fun t=> !p t).length) [(1,some (.box (pd (xs.filter fun t=> !p t)++tl)))]:=by
 have hok3:zar [(1,some (.box (pd xs))),(3003,some (.box B2)),(3004,some (.box B3))] [] (.d .nilp) []=true:=by
  simp only[zar,List.all_cons,List.all_nil,zaC,zay,AV.idsL,AV.ids,ziM,hB2,hB3,xae,List.map_nil];rfl
 rcases zoC p xs 0 with ⟨hi,hall⟩|⟨k,hi,hk1,hk2⟩
 ·have hfil:(xs.filter fun t=> !p t)=xs:=List.filter_eq_self.2 (fun x hx=>by simp[hall x hx]);refine⟨[],rfl, ?_⟩;rw[hfil,List.append_nil];refine bd Tryz.f241 42 [] [] fun w0 F0 own kept hk=>?_;refine Walk.call (cr:=[]) zmh (zeQ hs hcal hB2 hB3 hf) rfl .none rfl rfl (.cons (xay (by first|rfl|(simp;done))) (.cons (.refl _) .nil)) ⟨rfl,rfl,rfl,trivial⟩ rfl (zc5 hok3 _) rfl ?_;refine ev ?_;refine sq ?_ ?_<;>intro h1 h1p h1s<;>(try simp only[Q] at h1p);refine rn [(1,some (.box (pd xs)))] (r1 rfl) (.refl _) ⟨rfl,rfl⟩ (SubO.get ⟨.inr ?_,⟨.inl rfl,⟨.inr rfl,⟨.inr rfl,trivial⟩⟩⟩⟩) (zaE rfl);rotate_left;exfalso;simp[hi] at h1;all_goals (((first|rfl|(simp;done));done))
 ·skip
  have hlen:(xs.filter fun t=> !p t).length<=xs.length:=List.length_filter_le _ _;refine⟨zaI (xs.length-(xs.filter fun t=> !p t).length) z6,zca rfl, ?_⟩;refine bd Tryz.f241 42 [25] [] fun w0 F0 own kept hk=>?_;refine Walk.call (cr:=[]) zmh (zeQ hs hcal hB2 hB3 hf) rfl .none rfl rfl (.cons (xay (by first|rfl|(simp;done))) (.cons (.refl _) .nil)) ⟨rfl,rfl,rfl,trivial⟩ rfl (zc5 hok3 _) rfl ?_;refine evs [25] [] ?_;refine sq ?_ ?_<;>intro h1 h1p h1s<;>(try simp only[Q] at h1p);exfalso;simp[hi] at h1<;>omega;refine ar ?_;refine xam (ι:=List Pat×Nat×Nat) hk (fun x=>[(6,.d (.i (x.2.1:Int))),(5,.d (.i (x.2.2:Int)))]) [7,16,17,18,19,20,21,22,23,24,25,26,27,28,29,30,31,32,33,34,35] (fun x=>[(1,some (.box (pd x.1)))]) (fun x=>x.1.length=xs.length/\x.2.1<=xs.length/\x.2.2<=x.2.1/\x.1.take x.2.2=(xs.take x.2.1).filter (fun t=> !p t)/\x.1.drop x.2.1=xs.drop x.2.1) (fun x=>xs.length-x.2.1) (xs,k+1,k) ⟨rfl,by dsimp only;omega,by dsimp only;omega,hk2.symm,rfl⟩ ⟨⟨_,rfl,xax ?_⟩,⟨⟨_,rfl,xax ?_⟩,trivial⟩⟩ ⟨?_,trivial⟩ (fun x=>rfl) (fun x hg1=>?_);iterate 2 focus ((simp_all;done))
  focus (rfl)
  refine evc [25] [] ?_;refine sq ?_ ?_<;>intro h2 h2p h2s<;>(try simp only[Q] at h2p);refine xaS sl34 .none rfl rfl rfl rfl (by first|omega|(simp ;omega)) ?_;refine xaW ty36 .none rfl rfl rfl (((ztk (s:=x.1) (by omega)).trans (by rw[zrk hg1.2.2.2.2 hg1.1 (by omega)]))) ?_;refine Walk.alloc (id:=3007) tz36 rfl .none rfl (by(simp only[zak,occH,occE,Res.ids,xag,List.nil_append,AV.idsL,AV.ids,zab,zaa,zac,zal,xae,List.map_nil,upC,hB2,hB3,ziM];rfl)) (by(simp only[zak,occH,occE,Res.ids,xag,List.nil_append,AV.idsL,AV.ids,zab,zaa,zac,zal,xae,List.map_nil,upC,hB2,hB3,ziM];rfl)) (by(simp only[zak,occH,occE,Res.ids,xag,List.nil_append,AV.idsL,AV.ids,zab,zaa,zac,zal,xae,List.map_nil,upC,hB2,hB3,ziM];rfl)) ?_;refine so ty36 ?_;refine tv ?_;refine xaJ (cr:=[]) hcal (hf (nth xs x.2.1) (zai (by omega))) rfl .none rfl rfl rfl (LeL.refl _) ⟨rfl,rfl,trivial⟩ rfl (by simp only[zar,List.all_cons,List.all_nil,zaC,zay,AV.idsL,AV.ids,hB2,hB3,xae,List.map_nil];rfl) rfl ?_;refine evs [25] [] ?_;refine sq ?_ ?_<;>intro h3 h3p h3s<;>(try simp only[Q] at h3p);refine xaS sl34 .none rfl rfl rfl rfl (by first|omega|(simp ;omega)) ?_;refine Walk.store ty36 .none rfl rfl rfl rfl rfl rfl (by simp) ((zwm (by omega))) ?_;refine tv ?_;refine ar ?_;refine ar ?_;refine xah ((if p (nth xs x.2.1) then x.1 else x.1.set x.2.2 (nth xs x.2.1),x.2.1+1,if p (nth xs x.2.1) then x.2.2 else x.2.2+1)) ⟨(by
      obtain⟨g1,g2,g3,g4,g5⟩:=hg1;have hlt:x.2.1<xs.length:=by omega
      have h7:=zhm (p:=fun t=> !p t) hlt;refine⟨by dsimp only;split<;>simp[g1],by dsimp only;omega,by dsimp only;split<;>omega, ?_, ?_⟩
      ·dsimp only;rw[h7,<-g4];cases hp:p (nth xs x.2.1) with
       |true=>simp
       |false=>simp only[Bool.false_eq_true,if_false,Bool.not_false,if_true];rw[zjN (by omega)]
      ·dsimp only;split
       ·exact zhM g5
       ·(rw[zo9 g3];exact zhM g5)),(by dsimp only;omega),sx ⟨⟨_,rfl,xax ?_⟩,⟨⟨_,rfl,xax ?_⟩,trivial⟩⟩ ⟨?_,trivial⟩⟩
  iterate 2 focus ((simp_all;done))
  focus ((show some (Res.box _)=some (Res.box _);dsimp only;split<;>first|rfl|(exfalso;simp_all;done)))
  refine ar ?_;refine xah ((if p (nth xs x.2.1) then x.1 else x.1.set x.2.2 (nth xs x.2.1),x.2.1+1,if p (nth xs x.2.1) then x.2.2 else x.2.2+1)) ⟨(by
      obtain⟨g1,g2,g3,g4,g5⟩:=hg1;have hlt:x.2.1<xs.length:=by omega
      have h7:=zhm (p:=fun t=> !p t) hlt;refine⟨by dsimp only;split<;>simp[g1],by dsimp only;omega,by dsimp only;split<;>omega, ?_, ?_⟩
      ·dsimp only;rw[h7,<-g4];cases hp:p (nth xs x.2.1) with
       |true=>simp
       |false=>simp only[Bool.false_eq_true,if_false,Bool.not_false,if_true];rw[zjN (by omega)]
      ·dsimp only;split
       ·exact zhM g5
       ·exact zhM g5),(by dsimp only;omega),sx ⟨⟨_,rfl,xax ?_⟩,⟨⟨_,rfl,xax ?_⟩,trivial⟩⟩ ⟨?_,trivial⟩⟩
  iterate 2 focus ((simp_all;done))
  focus ((show some (Res.box _)=some (Res.box _);dsimp only;split<;>first|rfl|(exfalso;simp_all;done)))
  refine Walk.cutM_l sl34 .none rfl rfl rfl rfl (by omega) ?_;refine Walk.clearB sl34 tz36 rfl (by decide) rfl .none rfl rfl (zu4 hg1.1 (by omega)) ?_;refine tv ?_;refine Walk.cutM_h sl34 .none rfl rfl rfl rfl (by omega) ?_;refine evs [25] [] ?_;refine rn [(1,some (.box (pd (xs.filter fun t=> !p t)++zaI (xs.length-(xs.filter fun t=> !p t).length) z6)))] (r1 rfl) (xay ?_) ⟨rfl,rfl⟩ (SubO.get ⟨.inr ?_,⟨.inl rfl,⟨.inr rfl,⟨.inr rfl,trivial⟩⟩⟩⟩) (zaE rfl);rotate_left 2;all_goals (first|((first|rfl|(obtain⟨g1,g2,g3,g4,g5⟩:=hg1;have e:x.2.1=xs.length:=(by omega);rw[e,List.take_length] at g4;rw[<-g4,List.length_take];omega));done)|((obtain⟨g1,g2,g3,g4,g5⟩:=hg1;have e:x.2.1=xs.length:=(by omega);rw[e,List.take_length] at g4;have e2:(xs.filter fun t=> !p t).length=x.2.2:=(by rw[<-g4,List.length_take];omega);rw[e2,<-g4];rfl)))
theorem zg7 {f:Nat}{caps:List AV}{hp:Hp} (hcal:Callee Tryz.prog f) (k1:subH hp hp) (k2:zdK hp=true) (k3:zar hp [] (.d .nilp) []=true):
  FnD Tryz.prog 241 [.d (.sl []),.fn f caps] hp (.d (.sl [])) []:=by
 have hz:=zeF (xs:=[]) (p:=fun _=>false) (f:=f) (caps:=caps) (hp:=hp) (by simp) hcal (fun t ht=>by simp at ht) k1 k2 k3;refine bd Tryz.f241 42 [] [] fun w0 F0 own kept hk=>?_;refine Walk.call (cr:=[]) zmh (hz) rfl .none rfl rfl (LeL.refl _) k1 k2 (zc5 k3 _) rfl ?_;refine ev ?_;refine sq ?_ ?_<;>intro h1 h1p h1s<;>(try simp only[Q] at h1p);focus (refine rn [] (r1 rfl) (.eqd ?_) ⟨rfl,rfl⟩ (fun _ _ h=>h) (fun _ h=>h);all_goals (rfl))
 exfalso;simp[idxF] at h1
theorem zkE {xs:List Pat} (hs:xs.length<=1000000000000) (hne:xs≠[]):FnD Tryz.prog 242 [.d (zaj xs)] [] (.ms 1 xs.length) [(1,some (.box (pd xs)))]:=by
 have hcs:Pat.cs xs≠[]:=fun h=>hne ((Pat.cs_nil xs).1 h);refine Fn.body (fn:=Tryz.f242) (n:=8) rfl rfl rfl rfl rfl (fun w0 F0 own kept hk=>?_);refine xaq 0 rfl (fun hx0=>?_) ?_;refine evc [4] [] ?_;refine xaO sl34 .none rfl rfl ?_;refine tv ?_;refine sqT ?_;exfalso;exact hcs hx0;refine evc [4] [] ?_;refine xaN sl34 .none rfl rfl ?_;refine tv ?_;refine sqF ?_;refine xbd 1 sl34 .none rfl rfl ?_;refine evs [4] [] ?_;refine Walk.appendM hk rfl (by simp[hcs]) sl34 zz36 .none rfl rfl rfl rfl (zdY rfl (by rfl)) (by intro y hy;rw[xaz] at hy;obtain⟨z,_,rfl⟩:=List.mem_map.1 hy;rfl) (by simp[Pat.cs_len];omega) (by simp[Pat.cs_len];omega) ?_;refine evs [4] [] ?_;refine rn [(1,some (.box (pd xs)))] (r1 rfl) (xay ?_) ⟨rfl,rfl⟩ (SubH.get ⟨?_,trivial⟩) (zaE rfl);rotate_left 2;all_goals (first|((first|rfl|(simp[Pat.cs_len];done));done)|(first|rfl|(show some (Res.box _)=some (Res.box _);unfold pd;rw[<-xaz];rfl)))
theorem zlK {w:List Data} (hs:Spa w){ta tk:Int} (ht:InS (w.length*4) ⟨ta,tk⟩){p:Pat} (hp:zaq w 11 ⟨ta,tk⟩ p=true):
  FnD Tryz.prog 243 [.agg [.d (.i p.op),.d (.i p.ctor),.d (.i p.n),.d (.i p.m),.d (.i p.var),.d (zaj p.kids)],.ref 3003 0,.ref 3004 0] [(3003,some (.box [.d (sPtr w (zam w))])),(3004,some (.box [.d (.i ta),.d (.i tk)]))] (.d (.bool (zax w (zam w) 11 ⟨ta,tk⟩ p))) []:=by
 refine bd Tryz.f243 9 [] [] fun w0 F0 own kept hk=>?_;refine bx 3001 ?_;refine ev ?_;refine wc zdW (zbz hs.dp 11 (zg2 _ hp) ht (zf3 hs 11 ht hp).1) rfl rfl ?_;refine ev ?_;focus (refine rn [] (r1 rfl) (.eqd ?_) ⟨rfl,rfl⟩ (SubH.get ⟨rfl,⟨rfl,trivial⟩⟩) (fun _ h=>h);all_goals (rfl))
theorem ziG {w:List Data} (hs:Spa w){ta tk:Int} (ht:InS (w.length*4) ⟨ta,tk⟩){l:List Pat} (hl:∀a∈l,zaq w 11 ⟨ta,tk⟩ a=true) (hb:l.length<=1000000000000):
  FnD Tryz.prog 151 [.d (sPtr w (zam w)),.agg [.d (.i ta),.d (.i tk)],.d (zaj l)] [] (.d (zaj (l.filter (zbQ w ⟨ta,tk⟩)))) []:=by
 by_cases hne:l=[]
 ·subst hne;have hcl:FnD Tryz.prog 242 [.d (.sl [])] [] (.d (.sl [])) []:=(zfV (xs:=[]) (by simp)).glD;refine bd Tryz.f151 11 [] [] fun w0 F0 own kept hk=>?_;refine bx 3003 ?_;refine bx 3004 ?_;refine ev ?_;refine wc zpW (hcl) rfl rfl ?_;refine xaK (xs:=[_,_]) rfl .none rfl rfl ?_;refine Walk.call (cr:=[]) zsI (zg7 (hp:=[(3003,some (.box [.d (sPtr w (zam w))])),(3004,some (.box [.d (.i ta),.d (.i tk)]))]) zsJ ⟨rfl,rfl,trivial⟩ rfl rfl) rfl .none rfl rfl (LeL.refl _) ⟨rfl,rfl,trivial⟩ rfl rfl rfl ?_;refine ev ?_;focus (refine rq ?_;all_goals (rfl))
 ·obtain⟨tl,htl,hdel⟩:=zhF (xs:=l) (p:=fun a=>zax w (zam w) 11 ⟨ta,tk⟩ a) hb zsJ (B2:=[.d (sPtr w (zam w))]) (B3:=[.d (.i ta),.d (.i tk)]) rfl rfl (fun a ha=>zlK hs ht (hl a ha));have key:FnD Tryz.prog 151 [.d (sPtr w (zam w)),.agg [.d (.i ta),.d (.i tk)],.d (zaj l)] [] (.ms 1 (l.filter (zbQ w ⟨ta,tk⟩)).length) [(1,some (.box (pd (l.filter (zbQ w ⟨ta,tk⟩))++tl)))]:=by
   refine bd Tryz.f151 11 [] [] fun w0 F0 own kept hk=>?_;refine bx 3003 ?_;refine bx 3004 ?_;refine ev ?_;refine Walk.call (cr:=[1]) zpW (zkE hb hne) rfl .none rfl rfl (LeL.refl _) trivial rfl (by simp only[zar,List.all_cons,List.all_nil,zaC,zay,AV.idsL,AV.ids,ziM,zab,htl,xae,List.map_nil];rfl) rfl ?_;refine xaK (xs:=[_,_]) rfl .none rfl rfl ?_;refine Walk.call (cr:=[]) zsI (hdel) rfl .none rfl rfl (.cons (xay (by first|rfl|(simp;done))) (.cons (.refl _) .nil)) ⟨rfl,rfl,rfl,trivial⟩ rfl (by simp only[zar,List.all_cons,List.all_nil,zaC,zay,AV.idsL,AV.ids,ziM,zab,htl,xae,List.map_nil];rfl) rfl ?_;refine ev ?_;refine rn [(1,some (.box (pd (l.filter (zbQ w ⟨ta,tk⟩))++tl)))] (r1 rfl) (xay ?_) ⟨rfl,rfl⟩ (SubH.get ⟨?_,trivial⟩) (zaE rfl);rotate_left 2;all_goals (first|((rfl);done)|(rfl))
  have h2:=key.boxD (k:=6) ztW;rw[<-xaz] at h2;exact h2
structure MatchOk (w:List Data) (n m:Nat) (t:Ty) (p:Pat) (v:Val):Prop where
 shape:zau w n t p=true
 fits:zbt w m t v=true
 pok:p.ok
 vok:v.ok
 psz:p.size<=100
 vsz:v.size<=100
theorem MatchOk.two {w:List Data}{n m:Nat}{t:Ty}{p:Pat}{v:Val} (h:MatchOk w (n+1) m t p v) (h5:p.op=5):
  p.kids.length=2/\MatchOk w n m t (nth p.kids 0) v/\MatchOk w n m t (nth p.kids 1) v:=by
 obtain⟨hl,s0,s1⟩:=zh9 h.shape h5;have hpk:=(Pat.ok_iff p).1 h.pok;have hps:=Pat.size_eq p;have z0:=zfb (l:=p.kids) (i:=0) (by omega);have z1:=zfb (l:=p.kids) (i:=1) (by omega);have hs:=h.psz;exact⟨hl,⟨s0,h.fits,Pats.ok_mem hpk.2 _ (zai (by omega)),h.vok,by omega,h.vsz⟩,⟨s1,h.fits,Pats.ok_mem hpk.2 _ (zai (by omega)),h.vok,by omega,h.vsz⟩⟩
theorem MatchOk.one {w:List Data}{n m:Nat}{t:Ty}{p:Pat}{v:Val} (h:MatchOk w (n+1) m t p v) (h6:p.op=6):
  p.kids.length=1/\MatchOk w n m t (nth p.kids 0) v:=by
 obtain⟨hl,s0⟩:=zcq h.shape h6;have hpk:=(Pat.ok_iff p).1 h.pok;have hps:=Pat.size_eq p;have z0:=zfb (l:=p.kids) (i:=0) (by omega);have hs:=h.psz;exact⟨hl,⟨s0,h.fits,Pats.ok_mem hpk.2 _ (zai (by omega)),h.vok,by omega,h.vsz⟩⟩
structure VarsOk (l:List Bd) (vs:List Vt):Prop where
 len:l.length=vs.length
 nod:(l.map Bd.var).Nodup
 sub:∀x∈l.map Bd.var,x∈vs.map Vt.var
theorem zny {w:List Data}{a k:Int}{l:List Cl} (h:zby w ⟨a,k⟩ l=true):zbJ w ⟨a,k⟩=true/\l.length<=8:=by
 unfold zby at h;simp only[xad,decide_eq_true_eq] at h;exact⟨h.1,by omega⟩
theorem znG {α β:Type}{g:α->List β}{K:Nat}:∀(l:List α),(∀x∈l,(g x).length<=K)->(l.flatMap g).length<=l.length*K
 | [],_=>by simp
 |x::r,h=>by
  have h1:=h x (by simp);have h2:=znG r (fun y hy=>h y (by simp[hy]));rw[List.flatMap_cons,xaa,xab,Nat.add_mul];omega
theorem zgy {w:List Data}{t:Ty}{l away:List Pat}{i:Nat} (h:i<away.length):subL w t l (away.drop i)=if (zch w t l (nth away i)).length<=400 then subL w t (zch w t l (nth away i)) (away.drop (i+1)) else none:=by
 rw[zaW h,subL]
theorem zqZ {w:List Data}{t:Ty}{l away:List Pat}{i:Nat} (h:away.length<=i):subL w t l (away.drop i)=some l:=by
 rw[List.drop_eq_nil_of_le h,subL]
def zbF:List Cl->List Pat->Option (List Pat)
 | [],out=>some out
 |c::r,out=>if c.g.op=0 then (if zc2 c.pat=true then zbF r (out++zdQ c.pat) else none) else zbF r out
theorem zgc {l:List Cl}{out:List Pat}{i:Nat} (h:i<l.length) (hg:¬(nth l i).g.op=0):zbF (l.drop i) out=zbF (l.drop (i+1)) out:=by
 rw[zaW h,zbF,if_neg hg]
theorem zgb {l:List Cl}{out:List Pat}{i:Nat} (h:i<l.length) (hg:(nth l i).g.op=0) (hp:zc2 (nth l i).pat=true):zbF (l.drop i) out=zbF (l.drop (i+1)) (out++zdQ (nth l i).pat):=by
 rw[zaW h,zbF,if_pos hg,if_pos hp]
theorem zmp {l:List Cl}{out:List Pat}{i:Nat} (h:i<l.length) (hg:(nth l i).g.op=0) (hp:zc2 (nth l i).pat=false):zbF (l.drop i) out=none:=by
 rw[zaW h,zbF,if_pos hg,if_neg (by rw[hp];simp)]
theorem zmq {l:List Cl}{out:List Pat}{i:Nat} (h:l.length<=i):zbF (l.drop i) out=some out:=by
 rw[List.drop_eq_nil_of_le h,zbF]
theorem zg3 (p:Pat):(zdQ p).length<=40:=by unfold zdQ;split;assumption;simp
theorem zrl {w:List Data}{t:Ty}{p:Pat} (h:zau w 10 t p=true):∀x∈zdQ p,zaq w 10 t x=true:=fun x hx=>by
 unfold zdQ at hx;split at hx
 ·exact zhw 10 h x hx
 ·simp at hx
theorem zeN {w:List Data}{t:Ty}:∀(l:List Cl) (out r:List Pat),(∀c∈l,zau w 10 t c.pat=true)->(∀x∈out,zaq w 10 t x=true)->zbF l out=some r->r.length<=out.length+40*l.length/\∀x∈r,zaq w 10 t x=true
 | [],out,r,_,ho,h=>by rw[zbF] at h;cases h;exact⟨by simp,ho⟩
 |c::l,out,r,hc,ho,h=>by
  rw[zbF] at h;split at h
  ·split at h
   ·have:=zeN l _ r (fun x hx=>hc x (by simp[hx])) (fun x hx=>by
     rcases List.mem_append.1 hx with hx|hx
     ·exact ho x hx
     ·exact zrl (hc c (by simp)) x hx) h
    have hl:=zg3 c.pat;rw[xaa] at this;exact⟨by rw[xab];omega,this.2⟩
   ·cases h
  ·have:=zeN l _ r (fun x hx=>hc x (by simp[hx])) ho h;exact⟨by rw[xab];omega,this.2⟩
def zd0 (w:List Data) (t:Ty) (l:List Cl):Option (List Pat):=match zbF l [] with
 |none=>none
 |some away=>match zaO w t [anyQ] away with
  |none=>none
  |some r=>if r.all (isP w t)=true then some r else none
def zci (w:List Data) (t:Ty) (l:List Cl):Option (List Pat):=if zby w t l=true then zd0 w t l else none
theorem zeW {w:List Data}{t:Ty}:∀(away l r:List Pat),(∀a∈l,zaq w 11 t a=true)->l.length<=400->(∀b∈away,zaq w 10 t b=true)->subL w t l away=some r->r.length<=400/\∀x∈r,zaq w 11 t x=true
 | [],l,r,hl,hn,_,h=>by rw[subL] at h;cases h;exact⟨hn,hl⟩
 |b::away,l,r,hl,hn,hb,h=>by
  rw[subL] at h;split at h
  ·rename_i h4;exact zeW away _ r (zg0 hl (hb b (by simp))) h4 (fun x hx=>hb x (by simp[hx])) h
  ·cases h
theorem zmE {w:List Data} (hs:Spa w){ta tk:Int} (ht:InS (w.length*4) ⟨ta,tk⟩){l away:List Pat} (hl:∀a∈l,zaq w 11 ⟨ta,tk⟩ a=true) (hb:∀b∈away,zaq w 10 ⟨ta,tk⟩ b=true) (hll:l.length<=400) (hal:away.length<=2000):
  FnD Tryz.prog 75 [.d (sPtr w (zam w)),.agg [.d (.i ta),.d (.i tk)],.d (zaj l),.d (zaj away)] [] (.tup [.d (zaj ((zaO w ⟨ta,tk⟩ l away).getD [])),.d (.bool (zaO w ⟨ta,tk⟩ l away).isSome)]) []:=by
 have hlf:(l.filter (zbQ w ⟨ta,tk⟩)).length<=l.length:=List.length_filter_le _ _;have hmb:∀(c:List Pat) (i:Nat),(∀a∈c,zaq w 11 ⟨ta,tk⟩ a=true)->i<away.length->∀x∈c,(zaB w 10 ⟨ta,tk⟩ x (nth away i)).length<=20000000:=fun c i hc hi x hx=>zf2 hs (by omega) (by omega) ht (hc x hx) (hb _ (zai hi));have hnp:∀(c:List Pat) (i:Nat),(∀a∈c,zaq w 11 ⟨ta,tk⟩ a=true)->i<away.length->∀x∈(c.flatMap fun a=>zaB w 10 ⟨ta,tk⟩ a (nth away i)),zaq w 11 ⟨ta,tk⟩ x=true:=fun c i hc hi x hx=>by
  obtain⟨a,ha,hx⟩:=List.mem_flatMap.1 hx;exact zgZ 10 11 (by omega) (hc a ha) (hb _ (zai hi)) x hx
 have hpre:∀ {pre rest c:List Pat}{y:Pat} (i:Nat),(∀a∈c,zaq w 11 ⟨ta,tk⟩ a=true)->c.length<=400->i<away.length->pre++y::rest=c->(pre.flatMap fun a=>zaB w 10 ⟨ta,tk⟩ a (nth away i)).length<=8000000000/\(zaB w 10 ⟨ta,tk⟩ y (nth away i)).length<=20000000:=fun {pre rest c y} i hc h4 hi h=>by
  have h1:=znG (g:=fun a=>zaB w 10 ⟨ta,tk⟩ a (nth away i)) (K:=20000000) pre (fun x hx=>hmb c i hc hi x (by rw[<-h];simp[hx]));have h2:=hmb c i hc hi y (by rw[<-h];simp);have h3:=congrArg List.length h;simp only[xaa,xab] at h3;exact⟨by omega,h2⟩
 refine bd Tryz.f75 48 [12] [11] fun w0 F0 own kept hk=>?_;refine bx 3005 ?_;refine evs [12] [] ?_;refine wc zst (ziG hs ht hl (by omega)) rfl rfl ?_;refine evs [12] [] ?_;refine xam (ι:=Nat×List Pat) hk (fun s=>[(21,.d (.i (s.1:Int))),(2,.d (zaj s.2))]) [8,9,11,12,14,22,23,24,25,26,27,28,29,30,31,32,33,34,35,36,37,38,39,40,41,42,43,44,45,46] (fun s=>[]) (fun s=>s.1<=away.length/\subL w ⟨ta,tk⟩ s.2 (away.drop s.1)=zaO w ⟨ta,tk⟩ l away/\(∀a∈s.2,zaq w 11 ⟨ta,tk⟩ a=true)/\s.2.length<=400) (fun s=>away.length-s.1) (0,l.filter (zbQ w ⟨ta,tk⟩)) ⟨by simp,rfl,fun a ha=>hl a (List.mem_filter.1 ha).1,by dsimp only;omega⟩ ⟨⟨_,rfl,xax ?_⟩,⟨⟨_,rfl, ?_⟩,trivial⟩⟩ trivial (fun x=>rfl) (fun s hg1=>?_);focus (rfl)
 focus (exact LeA.refl _)
 refine evc [12] [11] ?_;refine sq ?_ ?_<;>intro h1 h1p h1s<;>(try simp only[Q,Pat.cs_len] at h1p);refine xaP sl34 .none rfl rfl rfl rfl (zas (by omega)) rfl ?_;refine evs [12] [] ?_;refine ab 3011 tz36 ?_;refine so ty36 ?_;refine tv ?_;refine xaF 9 6 .none rfl rfl ?_;refine tv ?_;refine xam (ι:=List (Pat)×List (Pat)) hk (fun x=>[(27,.d (.i (x.1.length:Int))),(12,.gl 9 (Pat.cs (x.1.flatMap fun a=>zaB w 10 ⟨ta,tk⟩ a (nth away s.1))))]) [14,28,29,30,31,32,33,34,35,36,37,38] (fun x=>[(9,some (.tok ((Pat.cs (x.1.flatMap fun a=>zaB w 10 ⟨ta,tk⟩ a (nth away s.1)))).length 6))]) (fun x=>x.1++x.2=s.2) (fun x=>x.2.length) ([],s.2) (by simp) ⟨⟨_,rfl,xax ?_⟩,⟨⟨_,rfl,LeA.glg ?_⟩,trivial⟩⟩ ⟨zag ?_,trivial⟩ (fun x=>rfl) (fun x hg2=>?_);iterate 3 focus (rfl)
 obtain⟨pre,rest⟩:=x;dsimp only at hg2 ⊢;refine evc [12] [11] ?_;refine sq ?_ ?_<;>intro h2 h2p h2s<;>(try simp only[Q,Pat.cs_len] at h2p);rcases rest with _|⟨y,rest⟩
 ·exfalso;simp_all
 refine xaP sl34 .none rfl rfl rfl rfl (Pat.cs_at' hg2) rfl ?_;refine evs [12] [] ?_;refine ab 3014 tz36 ?_;refine so ty36 ?_;refine tv ?_;refine wc zpP (zjF hs 10 11 (by omega) (by omega) (by omega) ht (hg1.2.2.1 y (by rw[<-hg2];simp)) (hb _ (zai (by omega)))) rfl rfl ?_;refine ap sl34 zz36 rfl rfl rfl (by exact zcm _) (by have h9:=hpre s.1 hg1.2.2.1 hg1.2.2.2 (by omega) hg2;simp only[Pat.cs_len];omega) ?_;refine asg ?_;refine tv ?_;refine ar ?_;refine xah ((pre++[y],rest)) ⟨(by have hz:=hg2;rw[<-hz];simp),(by simp),sx ⟨⟨_,rfl,xax ?_⟩,⟨⟨_,rfl,LeA.glg ?_⟩,trivial⟩⟩ ⟨zag ?_,trivial⟩⟩;iterate 3 focus (first|(rw[List.flatMap_append,xaz,xaz,xaz,xaf];simp;done)|(simp[Pat.cs_len];done))
 have hrest:rest=[]:=by
  rcases rest with _|⟨a,b⟩
  ·rfl
  ·exfalso;have hz:=congrArg List.length (hg2);simp only[xaa,xab,xac] at hz;omega
 subst hrest;obtain rfl:pre=s.2:=(by simpa using hg2);refine evc [12] [] ?_;refine Walk.call (cr:=[]) zst (ziG hs ht (l:=s.2.flatMap fun a=>zaB w 10 ⟨ta,tk⟩ a (nth away s.1)) (hnp s.2 s.1 hg1.2.2.1 (by omega)) (by have:=znG (g:=fun a=>zaB w 10 ⟨ta,tk⟩ a (nth away s.1)) (K:=20000000) s.2 (hmb s.2 s.1 hg1.2.2.1 (by omega));omega)) rfl .none rfl rfl (.cons (.refl _) (.cons (.refl _) (.cons (.gl _ _) .nil))) trivial rfl rfl rfl ?_;refine evs [12] [] ?_;refine sq ?_ ?_<;>intro h3 h3p h3s<;>(try simp only[Q,Pat.cs_len] at h3p);refine rn0 (r2 rfl rfl) (.tup (.cons (.nild ?_) (.cons (.eqd ?_) .nil)));rotate_left 2;refine ar ?_;refine xah ((s.1+1,zch w ⟨ta,tk⟩ s.2 (nth away s.1))) ⟨(by
    have h4:(zch w ⟨ta,tk⟩ s.2 (nth away s.1)).length<=400:=by unfold zch;omega
    refine⟨by dsimp only;omega, ?_,zg0 hg1.2.2.1 (hb _ (zai (by omega))),h4⟩;have e:=zgy (w:=w) (t:=⟨ta,tk⟩) (l:=s.2) (away:=away) (i:=s.1) (by omega);rw[if_pos h4] at e;dsimp only;rw[<-e];exact hg1.2.1),(by dsimp only;omega),sx ⟨⟨_,rfl,xax ?_⟩,⟨⟨_,rfl, ?_⟩,trivial⟩⟩ trivial⟩
 focus (rfl)
 focus (exact LeA.refl _)
 refine rn0 (r2 rfl rfl) (.tup (.cons (.eqd ?_) (.cons (.eqd ?_) .nil)));rotate_left 2;all_goals (first|(rw[<-hg1.2.1,zgy (by omega),if_neg (by unfold zch;omega)];rfl)|(rw[<-hg1.2.1,zqZ (by omega)];rfl))
theorem zlH {w:List Data}{t:Ty}{l:List Cl} (hl:l.length<=8) (hc:∀c∈l,zau w 10 t c.pat=true/\c.pat.ok):
  FnD Tryz.prog 125 [.d (zbG l)] [] (.tup [.d (zaj ((zbF l []).getD [])),.d (.bool (zbF l []).isSome)]) []:=by
 have hpl:=fun(i:Nat)=>zg3 (nth l i).pat;refine bd Tryz.f125 32 [4] [] fun w0 F0 own kept hk=>?_;refine xaF 9 6 .none rfl rfl ?_;refine tv ?_;refine xam (ι:=Nat×List Pat) hk (fun s=>[(11,.d (.i (s.1:Int))),(4,.gl 9 (Pat.cs s.2))]) [2,3,6,7,8,12,13,14,15,16,17,18,19,20,21,22,23,24,25,26,27,28,29,30] (fun s=>[(9,some (.tok ((Pat.cs s.2)).length 6))]) (fun s=>s.1<=l.length/\zbF (l.drop s.1) s.2=zbF l []/\s.2.length<=40*s.1) (fun s=>l.length-s.1) (0,[]) ⟨by simp,rfl,by simp⟩ ⟨⟨_,rfl,xax ?_⟩,⟨⟨_,rfl,LeA.glg ?_⟩,trivial⟩⟩ ⟨zag ?_,trivial⟩ (fun x=>rfl) (fun s hg1=>?_);iterate 3 focus (rfl)
 refine evc [4] [] ?_;refine sq ?_ ?_<;>intro h1 h1p h1s<;>(try simp only[Q,Pat.cs_len] at h1p);refine xaP sl26 .none rfl rfl rfl rfl (zaz (by omega)) rfl ?_;refine evs [4] [] ?_;refine ab 3006 tz40 ?_;refine so ty40 ?_;refine tv ?_;refine sq ?_ ?_<;>intro h2 h2p h2s<;>(try simp only[Q,Pat.cs_len] at h2p);refine ar ?_;refine xah ((s.1+1,if (nth l s.1).g.op=0 then s.2++zdQ (nth l s.1).pat else s.2)) ⟨(by
    have h9:=hpl s.1;by_cases hz:(nth l s.1).g.op=0
    ·refine⟨by dsimp only;omega, ?_, ?_⟩
     ·dsimp only;rw[if_pos hz,<-zgb (out:=s.2) (by omega) hz (by simp_all)];exact hg1.2.1
     ·dsimp only;rw[if_pos hz,xaa];omega
    ·refine⟨by dsimp only;omega, ?_, ?_⟩
     ·dsimp only;rw[if_neg hz,<-zgc (out:=s.2) (by omega) hz];exact hg1.2.1
     ·dsimp only;rw[if_neg hz];omega),(by dsimp only;omega),sx ⟨⟨_,rfl,xax ?_⟩,⟨⟨_,rfl,LeA.glg ?_⟩,trivial⟩⟩ ⟨zag ?_,trivial⟩⟩
 iterate 3 focus (first|rfl|(rw[if_neg (by assumption)];done))
 refine wc zvg (zpc (hc _ (zai (i:=s.1) (by omega))).1 (hc _ (zai (by omega))).2) rfl rfl ?_;refine evs [4] [] ?_;refine sq ?_ ?_<;>intro h3 h3p h3s<;>(try simp only[Q,Pat.cs_len] at h3p);refine rn0 (r2 rfl rfl) (.tup (.cons (.nild ?_) (.cons (.eqd ?_) .nil)));rotate_left 2;refine ap sl34 zz36 rfl rfl rfl (by exact zcm _) (by have:=hpl s.1;simp only[Pat.cs_len];omega) ?_;refine asg ?_;refine tv ?_;refine ar ?_;refine xah ((s.1+1,if (nth l s.1).g.op=0 then s.2++zdQ (nth l s.1).pat else s.2)) ⟨(by
    have h9:=hpl s.1;by_cases hz:(nth l s.1).g.op=0
    ·refine⟨by dsimp only;omega, ?_, ?_⟩
     ·dsimp only;rw[if_pos hz,<-zgb (out:=s.2) (by omega) hz (by simp_all)];exact hg1.2.1
     ·dsimp only;rw[if_pos hz,xaa];omega
    ·refine⟨by dsimp only;omega, ?_, ?_⟩
     ·dsimp only;rw[if_neg hz,<-zgc (out:=s.2) (by omega) hz];exact hg1.2.1
     ·dsimp only;rw[if_neg hz];omega),(by dsimp only;omega),sx ⟨⟨_,rfl,xax ?_⟩,⟨⟨_,rfl,LeA.glg ?_⟩,trivial⟩⟩ ⟨zag ?_,trivial⟩⟩
 iterate 3 focus (first|(rw[if_pos (by assumption),xaz,xaz,xaz,xaf];done)|(rw[if_pos (by assumption)];simp[Pat.cs_len];done))
 refine rn0 (r2 rfl rfl) (.tup (.cons (.gld ?_) (.cons (.eqd ?_) .nil)));rotate_left 2;all_goals (first|(rw[<-hg1.2.1,zmp (by omega) (by first|assumption|(simp_all;done)) (by assumption)];rfl)|(rw[<-hg1.2.1,zmq (by omega)];rfl))
theorem zlL {w:List Data} (hs:Spa w){f:Nat->Nat}{ta tk:Int} (ht:InS (w.length*4) ⟨ta,tk⟩){p:Pat} (hp:p.ok):
  FnD Tryz.prog 154 [.agg [.d (.i p.op),.d (.i p.ctor),.d (.i p.n),.d (.i p.m),.d (.i p.var),.d (zaj p.kids)],.ref 3004 0,.ref 3005 0] [(3004,some (.box [.d (sPtr w f)])),(3005,some (.box [.d (.i ta),.d (.i tk)]))] (.d (.bool (!isP w ⟨ta,tk⟩ p))) []:=by
 refine bd Tryz.f154 13 [] [] fun w0 F0 own kept hk=>?_;refine bx 3001 ?_;refine ev ?_;refine wc zsr (zgJ hs.dp.wt (zbE ht) hp) rfl rfl ?_;refine evd [] [] ?_;refine dr ?_;refine rn [] (r1 rfl) (.eqd ?_) ⟨rfl,rfl⟩ (SubH.get ⟨rfl,⟨rfl,trivial⟩⟩) (fun _ h=>h);rotate_left;all_goals (rfl)
theorem znM {w:List Data} (hs:Spa w){f:Nat->Nat}{ta tk:Int} (ht:InS (w.length*4) ⟨ta,tk⟩){l:List Pat}{ok:Bool} (hl:∀a∈l,a.ok) (hb:l.length<=1000000000000):
  FnD Tryz.prog 76 [.d (sPtr w f),.agg [.d (.i ta),.d (.i tk)],.d (zaj l),.d (.bool ok)] [] (.tup [.d (zaj (if (ok&&l.all (isP w ⟨ta,tk⟩))=true then l else [])),.d (.bool (ok&&l.all (isP w ⟨ta,tk⟩)))]) []:=by
 have hall:(l.any fun p=> !isP w ⟨ta,tk⟩ p) = !(l.all (isP w ⟨ta,tk⟩)):=by
  induction l with
  |nil=>rfl
  |cons x r ih=>rw[List.any_cons,List.all_cons,ih (fun a ha=>hl a (by simp[ha])) (by simp at hb;omega),Bool.not_and]
 have hcf:=zgG (xs:=l) (p:=fun p=> !isP w ⟨ta,tk⟩ p) (caps:=[.ref 3004 0,.ref 3005 0]) (hp:=[(3004,some (.box [.d (sPtr w f)])),(3005,some (.box [.d (.i ta),.d (.i tk)]))]) hb zvo (fun q hq=>zlL hs ht (hl q hq)) ⟨rfl,rfl,trivial⟩ rfl rfl;rw[hall] at hcf;clear hall;generalize l.all (isP w ⟨ta,tk⟩)=q at hcf ⊢;refine bd Tryz.f76 19 [] [] fun w0 F0 own kept hk=>?_;refine bx 3004 ?_;refine bx 3005 ?_;refine ev ?_;refine sq ?_ ?_<;>intro h1 h1p h1s<;>(try simp only[Q] at h1p);refine sqT ?_;refine rn0 (r2 rfl rfl) (.tup (.cons (.nild ?_) (.cons (.eqd ?_) .nil)));rotate_left 2;refine xaK (xs:=[_,_]) rfl (.some rfl rfl h1) rfl rfl ?_;refine Walk.call (cr:=[]) zvn (hcf) rfl (.some rfl rfl h1) rfl rfl (LeL.refl _) ⟨rfl,rfl,trivial⟩ rfl rfl rfl ?_;refine evs [] [(12,false)] ?_ ⟨⟨_,rfl,h1⟩,trivial⟩;refine sq ?_ ?_<;>intro h3 h3p h3s<;>(try simp only[Q] at h3p);refine rn0 (r2 rfl rfl) (.tup (.cons (.nild ?_) (.cons (.eqd ?_) .nil)));rotate_left 2;refine wc zvp (zjR hb hl) rfl rfl ?_;refine ev ?_;refine rn0 (r2 rfl rfl) (.tup (.cons (.eqd ?_) (.cons (.eqd ?_) .nil)));rotate_left 2;all_goals ((cases ok<;>cases q<;>first|rfl|(exfalso;simp_all;done)))
theorem zj5 {w:List Data}{t:Ty}{l:List Cl} (h:zby w t l=true) (hl:ClsOk l):∀c∈l,zau w 10 t c.pat=true/\c.pat.ok:=fun c hc=>by
 unfold zby at h;simp only[xad,Bool.not_eq_true',List.any_eq_false,Bool.not_eq_true] at h;have h4:clOk w t c=true:=by simpa using h.2.2 c hc
 unfold clOk isP at h4;simp only[xad] at h4;exact⟨h4.1.1,hl.2 c hc⟩
theorem zgn {w:List Data}{t:Ty}:∀a∈[anyQ],zaq w 11 t a=true:=fun a ha=>by
 rw[List.mem_singleton.1 ha];exact zjW
theorem zeE {w:List Data} (hs:WSmall w){a k:Int}{l:List Cl} (hl:ClsOk l):
  FnD Tryz.prog 77 [.d (zao w),.agg [.d (.i a),.d (.i k)],.d (zbG l)] [] (.tup [.d (zaj ((zci w ⟨a,k⟩ l).getD [])),.d (.bool (zci w ⟨a,k⟩ l).isSome)]) []:=by
 have hcv:=zi7 hs (a:=a) (k:=k) hl;by_cases hv:zby w ⟨a,k⟩ l=true
 ·have hm:zci w ⟨a,k⟩ l=zd0 w ⟨a,k⟩ l:=by unfold zci;rw[if_pos hv]
  rw[hm];have htv:=zny hv;have hsp:=zhD hs (zbl htv.1).1;have hsh:=zj5 hv hl;have hin:InS (w.length*4) ⟨a,k⟩:=by
   obtain⟨_,_,h3⟩:=zbl htv.1;by_cases ha:a = -1
   ·exact .inl ha
   ·obtain⟨h4,h5,h6,h7⟩:=h3 ha;have:=zkf (n:=w.length) h5 (j:=k.toNat) (by omega);rwa [Int.toNat_of_nonneg h4,Int.toNat_of_nonneg h6] at this
  have hco:=zlH (w:=w) (t:=⟨a,k⟩) htv.2 hsh;cases hq:zbF l [] with
  |none=>
   have e:zd0 w ⟨a,k⟩ l=none:=by unfold zd0;rw[hq]
   rw[hq] at hco;rw[e];refine bd Tryz.f77 42 [] [] fun w0 F0 own kept hk=>?_;refine bx 3004 ?_;refine ev ?_;refine wc zrY (hcv) rfl rfl ?_;refine ev ?_;refine sq ?_ ?_<;>intro h1 h1p h1s<;>(try simp only[Q] at h1p);exfalso;rw[hv] at h1;exact absurd h1 (by simp);refine wc zsp (hco) rfl rfl ?_;refine ev ?_;refine sq ?_ ?_<;>intro h2 h2p h2s<;>(try simp only[Q] at h2p);refine rn0 (r2 rfl rfl) (.tup (.cons (.nild ?_) (.cons (.eqd ?_) .nil)));rotate_left 2;exfalso;exact absurd h2 (by simp);all_goals (rfl)
  |some away=>
   rw[hq] at hco;obtain⟨p1,p2⟩:=zeN l [] away (fun c hc=>(hsh c hc).1) (by simp) hq;have hwo:=zmE hsp hin (l:=[anyQ]) (away:=away) zgn p2 (by simp) (by simp at p1;omega);have hrl:(zaO w ⟨a,k⟩ [anyQ] away).isSome=true->((zaO w ⟨a,k⟩ [anyQ] away).getD []).length<=400/\∀x∈(zaO w ⟨a,k⟩ [anyQ] away).getD [],zaq w 11 ⟨a,k⟩ x=true:=fun h=>by
    cases hw:zaO w ⟨a,k⟩ [anyQ] away with
    |none=>rw[hw] at h;cases h
    |some r=>exact zeW away _ r (fun x hx=>zgn x (List.mem_filter.1 hx).1) (Nat.le_trans (List.length_filter_le _ _) (by simp)) p2 hw
   have hrl2:((zaO w ⟨a,k⟩ [anyQ] away).getD []).length<=400/\∀x∈(zaO w ⟨a,k⟩ [anyQ] away).getD [],x.ok:=by
    cases hw:zaO w ⟨a,k⟩ [anyQ] away with
    |none=>exact⟨by simp,by simp⟩
    |some r=>
     have:=hrl (by rw[hw];rfl);rw[hw] at this;exact⟨this.1,fun x hx=>(zf3 hsp 11 hin (this.2 x hx)).1⟩
   have hre:=znM hsp (f:=zam w) hin (l:=(zaO w ⟨a,k⟩ [anyQ] away).getD []) (ok:=(zaO w ⟨a,k⟩ [anyQ] away).isSome) hrl2.2 (by omega);have e:zd0 w ⟨a,k⟩ l=if ((zaO w ⟨a,k⟩ [anyQ] away).isSome&&((zaO w ⟨a,k⟩ [anyQ] away).getD []).all (isP w ⟨a,k⟩))=true then some ((zaO w ⟨a,k⟩ [anyQ] away).getD []) else none:=by
    unfold zd0;rw[hq];cases hw:zaO w ⟨a,k⟩ [anyQ] away with
    |none=>simp[hw]
    |some r=>simp[hw]
   rw[e];generalize ((zaO w ⟨a,k⟩ [anyQ] away).isSome&&((zaO w ⟨a,k⟩ [anyQ] away).getD []).all (isP w ⟨a,k⟩))=q at hre ⊢;refine bd Tryz.f77 42 [] [] fun w0 F0 own kept hk=>?_;refine bx 3004 ?_;refine ev ?_;refine wc zrY (hcv) rfl rfl ?_;refine ev ?_;refine sq ?_ ?_<;>intro h1 h1p h1s<;>(try simp only[Q] at h1p);exfalso;rw[hv] at h1;exact absurd h1 (by simp);refine wc zsp (hco) rfl rfl ?_;refine ev ?_;refine sq ?_ ?_<;>intro h2 h2p h2s<;>(try simp only[Q] at h2p);exfalso;exact absurd h2 (by simp);refine wc zps (zeG hsp.dp) rfl rfl ?_;refine ev ?_;refine wc zpQ (zed) rfl rfl ?_;refine si [0] [_] sl34 tz36 ?_;refine evd [] [] ?_;refine wc zwr (hwo) rfl rfl ?_;refine evd [] [] ?_;refine dr ?_;refine wc zws (hre) rfl rfl ?_;refine ev ?_;refine rn0 (r2 rfl rfl) (.tup (.cons (.eqd ?_) (.cons (.eqd ?_) .nil)));rotate_left 2;all_goals (first|rfl|(cases q<;>rfl))
 ·have hv':zby w ⟨a,k⟩ l=false:=by simpa using hv
  have hm:zci w ⟨a,k⟩ l=none:=by unfold zci;rw[if_neg hv]
  rw[hm];rw[hv'] at hcv;refine bd Tryz.f77 42 [] [] fun w0 F0 own kept hk=>?_;refine bx 3004 ?_;refine ev ?_;refine wc zrY (hcv) rfl rfl ?_;refine ev ?_;refine sq ?_ ?_<;>intro h1 h1p h1s<;>(try simp only[Q] at h1p);refine rn0 (r2 rfl rfl) (.tup (.cons (.nild ?_) (.cons (.eqd ?_) .nil)));rotate_left 2;exfalso;exact absurd h1 (by simp);all_goals (rfl)
def zmF (w:List Data) (t:Ty) (b a:Pat):List Pat:=(zaB w 10 t a b).filter (zbQ w t)
def zgi (w:List Data) (t:Ty) (l:List Pat) (b:Pat) (k:Nat):List Pat:=(l.take k).flatMap (zmF w t b)
theorem zm1 {w:List Data}{t:Ty}{l:List Pat}{b:Pat}:zch w t l b=l.flatMap (zmF w t b):=by
 unfold zch;induction l with
 |nil=>rfl
 |cons x r ih=>rw[List.flatMap_cons,List.filter_append,List.flatMap_cons,ih];rfl
theorem ze8 {w:List Data}{t:Ty}{l:List Pat}{b:Pat}{k:Nat} (h:l.length<=k):zgi w t l b k=zch w t l b:=by
 rw[zm1,zgi,List.take_of_length_le h]
theorem zm2 {w:List Data}{t:Ty}{l:List Pat}{b:Pat}{k:Nat} (h:k<l.length):zgi w t l b (k+1)=zgi w t l b k++zmF w t b (nth l k):=by
 unfold zgi;have e:l[k]?=some (nth l k):=by simpa using zaz (f:=id) h
 rw[List.take_add_one,e,List.flatMap_append];simp
theorem ztT {w:List Data}{t:Ty}{l:List Pat}{b:Pat} (k:Nat):(zgi w t l b k).length<=(zch w t l b).length:=by
 rw[zm1,zgi];conv=>rhs;rw[<-List.take_append_drop k l,List.flatMap_append]
 rw[xaa];omega
theorem zic {w:List Data} (hs:Spa w):∀(n:Nat){ta tk:Int}{p:Pat},InS (w.length*4) ⟨ta,tk⟩->zaq w n ⟨ta,tk⟩ p=true->
  FnD Tryz.prog 301 [.d (zao w),.d (zec (w.length*4) (zam w)),.agg [.d (.i ta),.d (.i tk)],.agg [.d (.i (p).op),.d (.i (p).ctor),.d (.i (p).n),.d (.i (p).m),.d (.i (p).var),.d (zaj (p).kids)]] [] (.d (.bool (!zax w (zam w) n ⟨ta,tk⟩ p))) []
 |0,ta,tk,p,_,h=>by simp[zaq] at h
 |n+1,ta,tk,p,ht,h=>by
  have hdp:=zcN (f:=zam w) ht (by have:=hs.dp.four;omega);by_cases h1:p.op=1
  ·rw[ziA h1];refine bd Tryz.f301 45 [] [] fun w0 F0 own kept hk=>?_;refine bx 3006 ?_;refine bx 3007 ?_;refine ev ?_;refine sq ?_ ?_<;>intro h1 h1p h1s;refine wc zgp (hdp) rfl rfl ?_;refine ev ?_;refine rq ?_;rotate_left;try simp only[Q] at h1p
   exfalso;omega;all_goals (refine congrArg D.bool ?_;rw[Bool.eq_iff_iff];simp;omega)
  by_cases h3:p.op=3
  ·rw[znC h h3];refine bd Tryz.f301 45 [] [] fun w0 F0 own kept hk=>?_;refine bx 3006 ?_;refine bx 3007 ?_;refine ev ?_;refine sq ?_ ?_<;>intro h1 h1p h1s;try simp only[Q] at h1p
   exfalso;omega;refine sq ?_ ?_<;>intro h2 h2p h2s;refine rq ?_;rotate_left;try simp only[Q] at h2p
   exfalso;omega;all_goals (rfl)
  have h4:p.op=4:=by have:=zcd h;omega
  obtain⟨c1,c2,c3,-⟩:=zba h h4;have h3l:=hs.args ⟨ta,tk⟩ p.ctor ht c1;have hk:=fun i (hi:i<p.kids.length)=>zbs h hi;rw[zbe h4] at hk;rw[znD h4,Bool.not_not];have ih:=fun i (hi:i<p.kids.length)=>zic hs n (ta:=(nth (zad w ⟨ta,tk⟩ p.ctor) i).data) (tk:=(nth (zad w ⟨ta,tk⟩ p.ctor) i).index) (p:=nth p.kids i) (zbh hs.dp ht c1 _ (zai (by omega))) (hk i hi);refine bd Tryz.f301 45 [] [] fun w0 F0 own kept hk=>?_;refine bx 3006 ?_;refine bx 3007 ?_;refine ev ?_;refine sq ?_ ?_<;>intro h1 h1p h1s;try simp only[Q,Pat.cs_len] at h1p
  exfalso;omega;refine sq ?_ ?_<;>intro h2 h2p h2s;try simp only[Q,Pat.cs_len] at h2p
  exfalso;omega;refine wc zdO (zbM hs.dp.wt (zbE ht) c1) rfl rfl ?_;refine ev ?_;refine xam (ι:=Nat) hk (fun i=>[(10,.d (.i (i:Int)))]) [8,26,27,28,29,30,31,32,33,34,35,36,37,38,39,40,41,42,43,44] (fun i=>[]) (fun i=>i<=(zad w ⟨ta,tk⟩ p.ctor).length/\∀i',i'<i->(!zax w (zam w) n (nth (zad w ⟨ta,tk⟩ p.ctor) i') (nth p.kids i'))=true) (fun i=>(zad w ⟨ta,tk⟩ p.ctor).length-i) 0 ⟨by omega,fun _ h=>absurd h (by omega)⟩ ⟨⟨_,rfl,xax ?_⟩,trivial⟩ trivial (fun x=>rfl) (fun i hg1=>?_);focus (rfl)
  refine evc [] [] ?_;refine sq ?_ ?_<;>intro h3 h3p h3s<;>(try simp only[Q,Pat.cs_len] at h3p);refine xaP zaK .none rfl rfl rfl rfl (zaz (by omega)) rfl ?_;refine evd [] [] ?_;refine xaP sl34 .none rfl rfl rfl rfl (zas (by omega)) rfl ?_;refine evd [] [] ?_;refine wc zsP (ih i (by omega)) rfl rfl ?_;refine evd [] [] ?_;refine dr ?_;refine sq ?_ ?_<;>intro h4 h4p h4s;refine rq ?_;rotate_left;try simp only[Q,Pat.cs_len] at h4p
  refine ar ?_;refine xah (i+1) ⟨⟨by omega,zaM hg1.2 (by(simp;assumption))⟩,(by omega),sx ⟨⟨_,rfl,xax ?_⟩,trivial⟩ trivial⟩;focus (rfl)
  refine rq ?_;rotate_left;all_goals (refine congrArg D.bool ?_;first|(rw[zbm (i:=i) (by omega) (by omega) (by first|assumption|(simp;assumption)|(simp_all;done))];done)|(rw[zbn (by omega) (fun x hx=>hg1.2 x (by omega))];done))
theorem ziU {w:List Data} (hs:Spa w){ta tk:Int} (ht:InS (w.length*4) ⟨ta,tk⟩){l:List Pat} (hl:∀a∈l,zaq w 11 ⟨ta,tk⟩ a=true) (hb:l.length<=20000000):
  FnD Tryz.prog 231 [.d (zao w),.d (zec (w.length*4) (zam w)),.agg [.d (.i ta),.d (.i tk)],.d (zaj l)] [] (.d (zaj (l.filter (zbQ w ⟨ta,tk⟩)))) []:=by
 have hal:∀a∈l,FnD Tryz.prog 301 [.d (zao w),.d (zec (w.length*4) (zam w)),.agg [.d (.i ta),.d (.i tk)],.agg [.d (.i (a).op),.d (.i (a).ctor),.d (.i (a).n),.d (.i (a).m),.d (.i (a).var),.d (zaj (a).kids)]] [] (.d (.bool (zbQ w ⟨ta,tk⟩ a))) []:=fun a ha=>zic hs 11 ht (hl a ha);have hle:∀ {pre rest:List Pat}{y:Pat},pre++y::rest=l->(pre.filter (zbQ w ⟨ta,tk⟩)).length+1<=l.length:=fun {pre rest y} h=>by
  have h1:=List.length_filter_le (zbQ w ⟨ta,tk⟩) pre;have h2:=congrArg List.length h;simp only[xaa,xab] at h2;omega
 refine bd Tryz.f231 34 [] [] fun w0 F0 own kept hk=>?_;refine bx 3006 ?_;refine ev ?_;refine xbc 9 sl34 .none rfl rfl ?_;refine ev ?_;refine xam (ι:=List (Pat)×List (Pat)) hk (fun x=>[(10,.d (.i (x.1.length:Int))),(9,.gl 9 (Pat.cs (x.1.filter (zbQ w ⟨ta,tk⟩))))]) [12,13,14,15,16,17,18,19,20,21,22,23,24,25,26,27,28,29,30,31,32] (fun x=>[(9,some (.tok ((Pat.cs (x.1.filter (zbQ w ⟨ta,tk⟩)))).length 6))]) (fun x=>x.1++x.2=l) (fun x=>x.2.length) ([],l) (by simp) ⟨⟨_,rfl,xax ?_⟩,⟨⟨_,rfl,LeA.glg ?_⟩,trivial⟩⟩ ⟨zag ?_,trivial⟩ (fun x=>rfl) (fun x hg1=>?_);iterate 3 focus (rfl)
 obtain⟨pre,rest⟩:=x;dsimp only at hg1 ⊢;refine evc [] [] ?_;refine sq ?_ ?_<;>intro h1 h1p h1s<;>(try simp only[Q,Pat.cs_len] at h1p);rcases rest with _|⟨y,rest⟩
 ·exfalso;simp_all
 refine xaP sl34 .none rfl rfl rfl rfl (Pat.cs_at' hg1) rfl ?_;refine evd [] [] ?_;refine wc zsP (hal y (by rw[<-hg1];simp)) rfl rfl ?_;refine dr ?_;refine sq ?_ ?_<;>intro h2 h2p h2s<;>(try simp only[Q,Pat.cs_len] at h2p);refine xaP sl34 .none rfl rfl rfl rfl (Pat.cs_at' hg1) rfl ?_;refine ev ?_;refine si [0] [_] sl34 tz36 ?_;refine ap sl34 zz36 rfl rfl rfl (by intro x hx;simp at hx;subst hx;rfl) (by have h9:=hle hg1;simp[Pat.cs_len];omega) ?_;refine ev ?_;refine ar ?_;refine xah ((pre++[y],rest)) ⟨(by have hz:=hg1;rw[<-hz];simp),(by simp),sx ⟨⟨_,rfl,xax ?_⟩,⟨⟨_,rfl,LeA.glg ?_⟩,trivial⟩⟩ ⟨zag ?_,trivial⟩⟩;iterate 3 focus (first|(dsimp only;rw[List.filter_append,List.filter_cons_of_pos (by assumption),List.filter_nil,xaz (List.filter _ _),xaz (_++_),xaf];rfl)|(dsimp only;rw[List.filter_append,List.filter_cons_of_pos (by assumption),List.filter_nil];simp[Pat.cs_len];done)|(simp;done))
 refine ar ?_;refine xah ((pre++[y],rest)) ⟨(by have hz:=hg1;rw[<-hz];simp),(by simp),sx ⟨⟨_,rfl,xax ?_⟩,⟨⟨_,rfl,LeA.glg ?_⟩,trivial⟩⟩ ⟨zag ?_,trivial⟩⟩;iterate 3 focus (first|(dsimp only;rw[List.filter_append,List.filter_cons_of_neg (by simp_all),List.filter_nil,List.append_nil];done)|(simp;done))
 have hrest:rest=[]:=by
  rcases rest with _|⟨a,b⟩
  ·rfl
  ·exfalso;have hz:=congrArg List.length (hg1);simp only[xaa,xab,xac] at hz;omega
 subst hrest;refine rn0 (r1 rfl) (.gld ?_);rotate_left;all_goals ((rw[List.append_nil] at hg1;rw[hg1];done))
theorem zkL {w:List Data} (hs:Spa w){ta tk:Int} (ht:InS (w.length*4) ⟨ta,tk⟩){l away:List Pat} (hl:∀a∈l,zaq w 11 ⟨ta,tk⟩ a=true) (hb:∀b∈away,zaq w 10 ⟨ta,tk⟩ b=true) (hll:l.length<=400) (hal:away.length<=2000):
  FnD Tryz.prog 136 [.d (zao w),.d (zec (w.length*4) (zam w)),.agg [.d (.i ta),.d (.i tk)],.d (zaj l),.d (zaj away)] [] (.tup [.d (zaj ((zaO w ⟨ta,tk⟩ l away).getD [])),.d (.bool (zaO w ⟨ta,tk⟩ l away).isSome)]) []:=by
 have hke:=zts hs ht hl hb;have hmi:∀(c:List Pat) (i k:Nat),(∀a∈c,zaq w 11 ⟨ta,tk⟩ a=true)->i<away.length->k<c.length->(zaB w 10 ⟨ta,tk⟩ (nth c k) (nth away i)).length<=20000000:=fun c i k hc hi hk=>zf2 hs (by omega) (by omega) ht (hc _ (zai hk)) (hb _ (zai hi));have hkb:∀(c:List Pat) (i k:Nat),(∀a∈c,zaq w 11 ⟨ta,tk⟩ a=true)->i<away.length->k<c.length->(zmF w ⟨ta,tk⟩ (nth away i) (nth c k)).length<=20000000:=fun c i k hc hi hk=>Nat.le_trans (List.length_filter_le _ _) (hmi c i k hc hi hk);rw[<-hke];have hno:∀(c:List Pat) (i k:Nat),i<away.length->400<(zgi w ⟨ta,tk⟩ c (nth away i) k).length->subL w ⟨ta,tk⟩ c (away.drop i)=none:=fun c i k hi h=>by
  have:=ztT (w:=w) (t:=⟨ta,tk⟩) (l:=c) (b:=nth away i) k;rw[zgy hi,if_neg (by omega)]
 refine bd Tryz.f136 60 [] [] fun w0 F0 own kept hk=>?_;refine bx 3007 ?_;refine ev ?_;refine xam (ι:=Nat×List Pat) hk (fun s=>[(12,.d (.i (s.1:Int))),(3,.d (zaj s.2))]) [10,11,13,14,15,16,17,18,19,20,21,22,23,24,25,26,27,28,29,30,31,32,33,34,35,36,37,38,39,40,41,42,43,44,45,46,47,48,49,50,51,52,53,54] (fun s=>[]) (fun s=>s.1<=away.length/\subL w ⟨ta,tk⟩ s.2 (away.drop s.1)=subL w ⟨ta,tk⟩ l away/\(∀a∈s.2,zaq w 11 ⟨ta,tk⟩ a=true)/\s.2.length<=400) (fun s=>away.length-s.1) (0,l) ⟨by simp,rfl,hl,hll⟩ ⟨⟨_,rfl,xax ?_⟩,⟨⟨_,rfl, ?_⟩,trivial⟩⟩ trivial (fun x=>rfl) (fun s hg1=>?_);focus (rfl)
 focus (exact LeA.refl _)
 refine evc [] [] ?_;refine sq ?_ ?_<;>intro h1 h1p h1s<;>(try simp only[Q,Pat.cs_len] at h1p);refine xbc 9 sl34 .none rfl rfl ?_;refine ev ?_;refine xam (ι:=Nat) hk (fun k=>[(14,.d (.i (k:Int))),(13,.gl 9 (Pat.cs (zgi w ⟨ta,tk⟩ s.2 (nth away s.1) k)))]) [22,23,24,25,26,27,28,29,30,31,32,33,34,35,36,37,38,39,40,41,42,43,44,45,46,47,48,49] (fun k=>[(9,some (.tok ((Pat.cs (zgi w ⟨ta,tk⟩ s.2 (nth away s.1) k))).length 6))]) (fun k=>k<=s.2.length) (fun k=>s.2.length-k) 0 (by omega) ⟨⟨_,rfl,xax ?_⟩,⟨⟨_,rfl,LeA.glg ?_⟩,trivial⟩⟩ ⟨zag ?_,trivial⟩ (fun x=>rfl) (fun k hg2=>?_);iterate 3 focus (rfl)
 refine evc [] [] ?_;refine sq ?_ ?_<;>intro h2 h2p h2s<;>(try simp only[Q,Pat.cs_len] at h2p);refine sq ?_ ?_<;>intro h3 h3p h3s<;>(try simp only[Q,Pat.cs_len] at h3p);refine xaP sl34 .none rfl rfl rfl rfl (zas (by omega)) rfl ?_;refine evd [] [] ?_;refine xaP sl34 .none rfl rfl rfl rfl (zas (by omega)) rfl ?_;refine evd [] [] ?_;refine wc zpT (zid hs 10 11 (by omega) (by omega) (by omega) ht (hg1.2.2.1 _ (zai (by omega))) (hb _ (zai (by omega)))) rfl rfl ?_;refine wc zsH (show FnD _ _ _ _ (.d (zaj (zmF w ⟨ta,tk⟩ (nth away s.1) (nth s.2 k)))) _ from ziU hs ht (zgZ 10 11 (by omega) (hg1.2.2.1 _ (zai (by omega))) (hb _ (zai (by omega)))) (hmi s.2 s.1 k hg1.2.2.1 (by omega) (by omega))) rfl rfl ?_;refine ap sl34 zz36 rfl rfl rfl (by exact zcm _) (by have h9:=hkb s.2 s.1 k hg1.2.2.1 (by omega) (by omega);simp only[Pat.cs_len];omega) ?_;refine evd [] [] ?_;refine dr ?_;refine ar ?_;refine xah (k+1) ⟨(by omega),(by omega),sx ⟨⟨_,rfl,xax ?_⟩,⟨⟨_,rfl,LeA.glg ?_⟩,trivial⟩⟩ ⟨zag ?_,trivial⟩⟩;iterate 3 focus (first|rfl|(rw[zm2 (by omega),xaz,xaz,xaz,xaf];done)|(rw[zm2 (by omega)];simp[Pat.cs_len];done))
 refine sq ?_ ?_<;>intro h4 h4p h4s<;>(try simp only[Q,Pat.cs_len] at h4p);refine xbb sl34 .none rfl ?_;refine ev ?_;refine rn0 (r2 rfl rfl) (.tup (.cons (.eqd ?_) (.cons (.eqd ?_) .nil)));rotate_left 2;refine ar ?_;refine xah ((s.1+1,zch w ⟨ta,tk⟩ s.2 (nth away s.1))) ⟨(by
    have hk:s.2.length<=k:=by omega
    have h4:(zch w ⟨ta,tk⟩ s.2 (nth away s.1)).length<=400:=by rw[<-ze8 hk];omega
    have e:=zgy (w:=w) (t:=⟨ta,tk⟩) (l:=s.2) (away:=away) (i:=s.1) (by omega);rw[if_pos h4] at e;refine⟨by dsimp only;omega, ?_,zg0 hg1.2.2.1 (hb _ (zai (by omega))),h4⟩;dsimp only;rw[<-e];exact hg1.2.1),(by dsimp only;omega),sx ⟨⟨_,rfl,xax ?_⟩,⟨⟨_,rfl, ?_⟩,trivial⟩⟩ trivial⟩
 focus (rfl)
 focus (((first|refine LeA.gld ?_|refine LeA.nild ?_);first|rfl|(rw[ze8 (by omega)];done)|(dsimp only;rw[ze8 (by omega)];done)|(simp;done)|omega))
 refine sqF ?_;refine sq ?_ ?_<;>intro h6 h6p h6s<;>(try simp only[Q,Pat.cs_len] at h6p);refine xbb sl34 .none rfl ?_;refine ev ?_;refine rn0 (r2 rfl rfl) (.tup (.cons (.eqd ?_) (.cons (.eqd ?_) .nil)));rotate_left 2;refine ar ?_;refine xah ((s.1+1,zch w ⟨ta,tk⟩ s.2 (nth away s.1))) ⟨(by
    have hk:s.2.length<=k:=by omega
    have h4:(zch w ⟨ta,tk⟩ s.2 (nth away s.1)).length<=400:=by rw[<-ze8 hk];omega
    have e:=zgy (w:=w) (t:=⟨ta,tk⟩) (l:=s.2) (away:=away) (i:=s.1) (by omega);rw[if_pos h4] at e;refine⟨by dsimp only;omega, ?_,zg0 hg1.2.2.1 (hb _ (zai (by omega))),h4⟩;dsimp only;rw[<-e];exact hg1.2.1),(by dsimp only;omega),sx ⟨⟨_,rfl,xax ?_⟩,⟨⟨_,rfl, ?_⟩,trivial⟩⟩ trivial⟩
 focus (rfl)
 focus (((first|refine LeA.gld ?_|refine LeA.nild ?_);first|rfl|(rw[ze8 (by omega)];done)|(dsimp only;rw[ze8 (by omega)];done)|(simp;done)|omega))
 refine wc zsH (ziU hs ht hg1.2.2.1 (by omega)) rfl rfl ?_;refine ev ?_;refine rn0 (r2 rfl rfl) (.tup (.cons (.eqd ?_) (.cons (.eqd ?_) .nil)));rotate_left 2;all_goals (first|(rw[<-hg1.2.1,hno s.2 s.1 k (by omega) (by omega)];rfl)|(rw[<-hg1.2.1,zqZ (by omega)];rfl))
theorem ziT:∀(n:Nat){p:Pat},p.size<=n->p.ok->FnD Tryz.prog 187 [.agg [.d (.i (p).op),.d (.i (p).ctor),.d (.i (p).n),.d (.i (p).m),.d (.i (p).var),.d (zaj (p).kids)]] [] (.agg [.d (.i (p).op),.d (.i (p).ctor),.d (.i (p).n),.d (.i (p).m),.d (.i (p).var),.d (zaj (p).kids)]) []
 |0,p,h,_=>by rw[Pat.size_eq] at h;omega
 |n+1,p,h,hok=>by
  rw[Pat.size_eq] at h;rw[Pat.ok_iff] at hok;have hok1:=hok.1;refine bd Tryz.f187 26 [] [] fun w0 F0 own kept hk=>?_;refine bx 3001 ?_;refine ab 3002 tz36 ?_;refine tv ?_;refine ab 3003 tz36 ?_;refine so ty36 ?_;refine tv ?_;refine so ty34 ?_;refine tv ?_;refine xar 3003 5 7 6 rfl rfl rfl rfl ?_;refine xam (ι:=List (Pat)×List (Pat)) hk (fun x=>[(4,.d (.i (x.1.length:Int)))]) [7,8,9,10,11,12,13,14,15,16,17,18,19,20,21,22,23,24] (fun x=>[(3003,some (.box [.d (.i p.op),.d (.i p.ctor),.d (.i p.n),.d (.i p.m),.d (.i p.var),.gl 7 (x.1.map Pat.cc)])),(7,some (.tok (x.1.map Pat.cc).length 6))]) (fun x=>x.1++x.2=p.kids) (fun x=>x.2.length) ([],p.kids) (by simp) ⟨⟨_,rfl,xax ?_⟩,trivial⟩ ⟨?_,⟨zag ?_,trivial⟩⟩ (fun x=>rfl) (fun x hg1=>?_);focus (rfl)
  focus (first|rfl|(simp[getH];done))
  focus (rfl)
  obtain⟨pre,rest⟩:=x;dsimp only at hg1 ⊢;refine evc [] [] ?_;refine sq ?_ ?_<;>intro h1 h1p h1s<;>(try simp only[Q,Pat.cs_len] at h1p);rcases rest with _|⟨y,rest⟩
  ·exfalso;simp_all
  refine xaP sl34 .none rfl rfl rfl rfl (Pat.cs_at' hg1) rfl ?_;refine evd [] [] ?_;refine wc zsA (ziT n (p:=y) (by have:=Pats.size_mem (l:=p.kids) (v:=y) (by rw[<-hg1];simp);omega) (Pats.ok_mem hok.2 y (by rw[<-hg1];simp))) rfl rfl ?_;refine si [0] [_] sl34 tz36 ?_;refine ap sl34 zz36 rfl rfl rfl (by intro x hx;(simp at hx;subst hx;rfl)) (by have:=congrArg List.length hg1;simp at this;simp;omega) ?_;refine evd [] [] ?_;refine so ty34 ?_;refine dr ?_;refine ar ?_;refine xah ((pre++[y],rest)) ⟨(by have hz:=hg1;rw[<-hz];simp),(by simp),sx ⟨⟨_,rfl,xax ?_⟩,trivial⟩ ⟨?_,⟨zag ?_,trivial⟩⟩⟩;focus ((simp;done))
  focus (first|rfl|(simp[getH];done))
  focus ((simp;done))
  have hrest:rest=[]:=by
   rcases rest with _|⟨a,b⟩
   ·rfl
   ·exfalso;have hz:=congrArg List.length (hg1);simp only[xaa,xab,xac] at hz;omega
  subst hrest;refine so ty36 ?_;refine tv ?_;refine rn0 (.cons (.cellA ty36 rfl rfl rfl) .nil) (.agg (.cons (.eqd ?_) (.cons (.eqd ?_) (.cons (.eqd ?_) (.cons (.eqd ?_) (.cons (.eqd ?_) (.cons (.gld ?_) .nil)))))));rotate_left 6;all_goals (first|rfl|(rw[List.append_nil] at hg1;rw[<-hg1,xaz];done))
theorem zpk {l:List Pat} (h:l.length<=1000000000000) (hok:∀p∈l,p.ok):FnD Tryz.prog 233 [.d (zaj l)] [] (.d (zaj l)) []:=by
 refine bd Tryz.f233 21 [] [] fun w0 F0 own kept hk=>?_;refine xbc 1 sl34 .none rfl rfl ?_;refine ev ?_;refine xam (ι:=List (Pat)×List (Pat)) hk (fun x=>[(4,.d (.i (x.1.length:Int))),(3,.gl 1 (x.1.map Pat.cc))]) [6,7,8,9,10,11,12,13,14,15,16,17,18,19] (fun x=>[(1,some (.tok ((x.1.map Pat.cc)).length 6))]) (fun x=>x.1++x.2=l) (fun x=>x.2.length) ([],l) (by simp) ⟨⟨_,rfl,xax ?_⟩,⟨⟨_,rfl,LeA.glg ?_⟩,trivial⟩⟩ ⟨zag ?_,trivial⟩ (fun x=>rfl) (fun x hg1=>?_);iterate 3 focus (rfl)
 obtain⟨pre,rest⟩:=x;dsimp only at hg1 ⊢;refine evc [] [] ?_;refine sq ?_ ?_<;>intro h1 h1p h1s<;>(try simp only[Q,Pat.cs_len] at h1p);rcases rest with _|⟨y,rest⟩
 ·exfalso;simp_all
 refine xaP sl34 .none rfl rfl rfl rfl (Pat.cs_at' hg1) rfl ?_;refine ev ?_;refine wc zsA (ziT _ (Nat.le_refl _) (hok y (by rw[<-hg1];simp))) rfl rfl ?_;refine si [0] [_] sl34 tz36 ?_;refine ap sl34 zz36 rfl rfl rfl (by intro x hx;simp at hx;subst hx;rfl) (by have:=congrArg List.length hg1;simp at this;simp;omega) ?_;refine ev ?_;refine ar ?_;refine xah ((pre++[y],rest)) ⟨(by have hz:=hg1;rw[<-hz];simp),(by simp),sx ⟨⟨_,rfl,xax ?_⟩,⟨⟨_,rfl,LeA.glg ?_⟩,trivial⟩⟩ ⟨zag ?_,trivial⟩⟩;iterate 3 focus ((simp;done))
 have hrest:rest=[]:=by
  rcases rest with _|⟨a,b⟩
  ·rfl
  ·exfalso;have hz:=congrArg List.length (hg1);simp only[xaa,xab,xac] at hz;omega
 subst hrest;refine rn0 (r1 rfl) (.gld ?_);rotate_left;all_goals ((rw[List.append_nil] at hg1;rw[<-hg1,xaz];done))
theorem zoU {p:Pat} (h:zc2 p=true):za8 (zaQ p)=zdQ p:=by
 unfold zc2 at h;have h40:=of_decide_eq_true h;unfold za8 zdQ;rw[if_pos h40,List.take_of_length_le (by omega)]
theorem ztr {p:Pat}:((40:Int)<((za8 (zaQ p)).length:Int))↔zc2 p=false:=by
 unfold zc2 za8;rw[List.length_take,decide_eq_false_iff_not];omega
theorem zno {w:List Data}{t:Ty}{l:List Cl} (hl:l.length<=8) (hc:∀c∈l,zau w 10 t c.pat=true/\c.pat.ok):
  FnD Tryz.prog 228 [.d (zbG l),.d (.i (l.length:Int))] [] (.tup [.d (zaj ((zbF l []).getD [])),.d (.bool (zbF l []).isSome)]) []:=by
 have hpl:=fun(i:Nat)=>zg8 (zaQ (nth l i).pat);have hge:=fun(i:Nat)=>ztr (p:=(nth l i).pat);refine bd Tryz.f228 35 [] [] fun w0 F0 own kept hk=>?_;refine xbc 9 sl34 .none rfl rfl ?_;refine ev ?_;refine xam (ι:=Nat×List Pat) hk (fun s=>[(7,.d (.i (s.1:Int))),(6,.gl 9 (Pat.cs s.2))]) [4,5,8,10,11,12,13,14,15,16,17,18,19,20,21,22,23,24,25,26,27,28,29,30,31,32,33] (fun s=>[(9,some (.tok ((Pat.cs s.2)).length 6))]) (fun s=>s.1<=l.length/\zbF (l.drop s.1) s.2=zbF l []/\s.2.length<=40*s.1) (fun s=>l.length-s.1) (0,[]) ⟨by simp,rfl,by simp⟩ ⟨⟨_,rfl,xax ?_⟩,⟨⟨_,rfl,LeA.glg ?_⟩,trivial⟩⟩ ⟨zag ?_,trivial⟩ (fun x=>rfl) (fun s hg1=>?_);iterate 3 focus (rfl)
 refine evc [] [] ?_;refine sq ?_ ?_<;>intro h1 h1p h1s<;>(try simp only[Q,Pat.cs_len,Int.natCast_inj] at h1p);refine xaP sl26 .none rfl rfl rfl rfl (zaz (by omega)) rfl ?_;refine ev ?_;refine sq ?_ ?_<;>intro h2 h2p h2s<;>(try simp only[Q,Pat.cs_len,Int.natCast_inj] at h2p);refine ar ?_;refine xah ((s.1+1,if (nth l s.1).g.op=0 then s.2++za8 (zaQ (nth l s.1).pat) else s.2)) ⟨(by
    by_cases hz:(nth l s.1).g.op=0
    ·have hp:zc2 (nth l s.1).pat=true:=by
      cases hp:zc2 (nth l s.1).pat with
      |true=>rfl
      |false=>have:=(hge s.1).2 hp;exfalso;first|omega|contradiction
     have h9:=zg3 (nth l s.1).pat;have e:=zoU hp;refine⟨by dsimp only;omega, ?_, ?_⟩
     ·dsimp only;rw[if_pos hz,e,<-zgb (out:=s.2) (by omega) hz hp];exact hg1.2.1
     ·dsimp only;rw[if_pos hz,e,xaa];omega
    ·refine⟨by dsimp only;omega, ?_, ?_⟩
     ·dsimp only;rw[if_neg hz,<-zgc (out:=s.2) (by omega) hz];exact hg1.2.1
     ·dsimp only;rw[if_neg hz];omega),(by dsimp only;omega),sx ⟨⟨_,rfl,xax ?_⟩,⟨⟨_,rfl,LeA.glg ?_⟩,trivial⟩⟩ ⟨zag ?_,trivial⟩⟩
 iterate 3 focus (first|rfl|(dsimp only;rw[if_neg (by assumption)];done))
 refine xaP sl26 .none rfl rfl rfl rfl (zaz (by omega)) rfl ?_;refine ev ?_;refine wc zvi (znm (hc _ (zai (i:=s.1) (by omega))).1 (hc _ (zai (by omega))).2) rfl rfl ?_;refine ev ?_;refine sq ?_ ?_<;>intro h3 h3p h3s<;>(try simp only[Q,Pat.cs_len,Int.natCast_inj] at h3p);refine rn0 (r2 rfl rfl) (.tup (.cons (.nild ?_) (.cons (.eqd ?_) .nil)));rotate_left 2;refine ap sl34 zz36 rfl rfl rfl (by exact zcm _) (by have:=hpl s.1;simp only[Pat.cs_len];omega) ?_;refine ev ?_;refine ar ?_;refine xah ((s.1+1,if (nth l s.1).g.op=0 then s.2++za8 (zaQ (nth l s.1).pat) else s.2)) ⟨(by
    by_cases hz:(nth l s.1).g.op=0
    ·have hp:zc2 (nth l s.1).pat=true:=by
      cases hp:zc2 (nth l s.1).pat with
      |true=>rfl
      |false=>have:=(hge s.1).2 hp;exfalso;first|omega|contradiction
     have h9:=zg3 (nth l s.1).pat;have e:=zoU hp;refine⟨by dsimp only;omega, ?_, ?_⟩
     ·dsimp only;rw[if_pos hz,e,<-zgb (out:=s.2) (by omega) hz hp];exact hg1.2.1
     ·dsimp only;rw[if_pos hz,e,xaa];omega
    ·refine⟨by dsimp only;omega, ?_, ?_⟩
     ·dsimp only;rw[if_neg hz,<-zgc (out:=s.2) (by omega) hz];exact hg1.2.1
     ·dsimp only;rw[if_neg hz];omega),(by dsimp only;omega),sx ⟨⟨_,rfl,xax ?_⟩,⟨⟨_,rfl,LeA.glg ?_⟩,trivial⟩⟩ ⟨zag ?_,trivial⟩⟩
 iterate 3 focus (first|rfl|(dsimp only;rw[if_pos (by assumption),xaz,xaz,xaz,xaf];done)|(dsimp only;rw[if_pos (by assumption)];simp[Pat.cs_len];done))
 refine rn0 (r2 rfl rfl) (.tup (.cons (.gld ?_) (.cons (.eqd ?_) .nil)));rotate_left 2;all_goals (first|(rw[<-hg1.2.1,zmp (by omega) (by assumption) ((hge s.1).1 (by omega))];rfl)|(rw[<-hg1.2.1,zmq (by omega)];rfl))
theorem znn {w:List Data} (hs:Spa w){ta tk:Int} (ht:InS (w.length*4) ⟨ta,tk⟩){l:List Pat}{ok:Bool} (hl:∀a∈l,a.ok/\a.size<=1000000000000) (hb:l.length<=1000000000000):
  FnD Tryz.prog 137 [.d (zao w),.agg [.d (.i ta),.d (.i tk)],.d (zaj l),.d (.bool ok)] [] (.tup [.d (zaj (if l.all (isP w ⟨ta,tk⟩)=true then l else [])),.d (.bool (l.all (isP w ⟨ta,tk⟩)&&ok))]) []:=by
 have hbad:∀i,i<l.length->isP w ⟨ta,tk⟩ (nth l i)=false->l.all (isP w ⟨ta,tk⟩)=false:=fun i hi h=>by
  cases hq:l.all (isP w ⟨ta,tk⟩) with
  |false=>rfl
  |true=>have:=List.all_eq_true.1 hq _ (zai hi);rw[h] at this;cases this
 have hgood:(∀i,i<l.length->isP w ⟨ta,tk⟩ (nth l i)=true)->l.all (isP w ⟨ta,tk⟩)=true:=fun h=>List.all_eq_true.2 fun x hx=>by
  obtain⟨i,hi,rfl⟩:=List.getElem_of_mem hx;have:=h i hi;rwa [zbc hi] at this
 refine bd Tryz.f137 29 [] [] fun w0 F0 own kept hk=>?_;refine bx 3005 ?_;refine ev ?_;refine xam (ι:=Nat) hk (fun i=>[(10,.d (.i (i:Int)))]) [8,9,11,12,13,14,15,16,17,18,19,20,21,22,23,24,25] (fun i=>[]) (fun i=>i<=l.length/\∀i',i'<i->isP w ⟨ta,tk⟩ (nth l i')=true) (fun i=>l.length-i) 0 ⟨by omega,fun _ h=>absurd h (by omega)⟩ ⟨⟨_,rfl,xax ?_⟩,trivial⟩ trivial (fun x=>rfl) (fun i hg1=>?_);focus (rfl)
 refine evc [] [] ?_;refine sq ?_ ?_<;>intro h1 h1p h1s<;>(try simp only[Q,Pat.cs_len] at h1p);refine xaP sl34 .none rfl rfl rfl rfl (zas (by omega)) rfl ?_;refine evd [] [] ?_;refine wc zmg (zfO hs.dp.wt (zbE ht) (hl _ (zai (i:=i) (by omega))).1 (hl _ (zai (by omega))).2) rfl rfl ?_;refine evd [] [] ?_;refine dr ?_;refine sq ?_ ?_<;>intro h2 h2p h2s;refine xbb sl34 .none rfl ?_;refine ev ?_;refine rn0 (r2 rfl rfl) (.tup (.cons (.eqd ?_) (.cons (.eqd ?_) .nil)));rotate_left 2;try simp only[Q,Pat.cs_len] at h2p
 refine ar ?_;refine xah (i+1) ⟨⟨by omega,zaM hg1.2 (by assumption)⟩,(by omega),sx ⟨⟨_,rfl,xax ?_⟩,trivial⟩ trivial⟩;focus (rfl)
 refine wc zvA (zpk hb (fun p hp=>(hl p hp).1)) rfl rfl ?_;refine ev ?_;refine rn0 (r2 rfl rfl) (.tup (.cons (.eqd ?_) (.cons (.eqd ?_) .nil)));rotate_left 2;all_goals (first|(rw[hbad i (by omega) (by assumption)];rfl)|(rw[hgood (fun x hx=>hg1.2 x (by omega))];rfl))
theorem zof {w:List Data} (hsp:Spa w){a k:Int} (hin:InS (w.length*4) ⟨a,k⟩){l:List Cl} (h8:l.length<=8) (hsh:∀c∈l,zau w 10 ⟨a,k⟩ c.pat=true/\c.pat.ok):
  FnD Tryz.prog 131 [.d (zao w),.agg [.d (.i a),.d (.i k)],.d (zaj [anyQ]),.d (zbG l),.d (.i (l.length:Int))] [] (.tup [.d (zaj ((zd0 w ⟨a,k⟩ l).getD [])),.d (.bool (zd0 w ⟨a,k⟩ l).isSome)]) []:=by
 have hco:=zno (w:=w) (t:=⟨a,k⟩) h8 hsh;cases hq:zbF l [] with
 |none=>
  have e:zd0 w ⟨a,k⟩ l=none:=by unfold zd0;rw[hq]
  rw[hq] at hco;rw[e];refine bd Tryz.f131 42 [] [] fun w0 F0 own kept hk=>?_;refine bx 3006 ?_;refine ev ?_;refine wc zsG (hco) rfl rfl ?_;refine ev ?_;refine sq ?_ ?_<;>intro h1 h1p h1s<;>(try simp only[Q] at h1p);refine xbb sl34 .none rfl ?_;refine ev ?_;refine rn0 (r2 rfl rfl) (.tup (.cons (.eqd ?_) (.cons (.eqd ?_) .nil)));rotate_left 2;exfalso;exact absurd h1 (by simp);all_goals (rfl)
 |some away=>
  rw[hq] at hco;obtain⟨p1,p2⟩:=zeN l [] away (fun c hc=>(hsh c hc).1) (by simp) hq;have hwo:=zkL hsp hin (l:=[anyQ]) (away:=away) zgn p2 (by simp) (by simp at p1;omega);have hrl2:((zaO w ⟨a,k⟩ [anyQ] away).getD []).length<=400/\∀x∈(zaO w ⟨a,k⟩ [anyQ] away).getD [],x.ok/\x.size<=1000000000000:=by
   cases hw:zaO w ⟨a,k⟩ [anyQ] away with
   |none=>exact⟨by simp,by simp⟩
   |some r=>
    have:=zeW away _ r (fun x hx=>zgn x (List.mem_filter.1 hx).1) (Nat.le_trans (List.length_filter_le _ _) (by simp)) p2 hw;exact⟨this.1,fun x hx=>⟨(zf3 hsp 11 hin (this.2 x hx)).1,by have:=(zf3 hsp 11 hin (this.2 x hx)).2;have:=zqF (n:=11) (by omega);omega⟩⟩
  have hre:=znn hsp hin (l:=(zaO w ⟨a,k⟩ [anyQ] away).getD []) (ok:=(zaO w ⟨a,k⟩ [anyQ] away).isSome) hrl2.2 (by omega);have hem:(zaO w ⟨a,k⟩ [anyQ] away).isSome=false->(zaO w ⟨a,k⟩ [anyQ] away).getD []=[]:=fun h=>by
   cases hw:zaO w ⟨a,k⟩ [anyQ] away with
   |none=>rfl
   |some r=>rw[hw] at h;cases h
  have e:zd0 w ⟨a,k⟩ l=if (((zaO w ⟨a,k⟩ [anyQ] away).getD []).all (isP w ⟨a,k⟩)&&(zaO w ⟨a,k⟩ [anyQ] away).isSome)=true then some ((zaO w ⟨a,k⟩ [anyQ] away).getD []) else none:=by
   unfold zd0;rw[hq];cases hw:zaO w ⟨a,k⟩ [anyQ] away with
   |none=>simp[hw]
   |some r=>simp[hw]
  rw[e];generalize ((zaO w ⟨a,k⟩ [anyQ] away).getD []).all (isP w ⟨a,k⟩)=q at hre ⊢;generalize (zaO w ⟨a,k⟩ [anyQ] away).isSome=q2 at hre hwo hem ⊢;refine bd Tryz.f131 42 [] [] fun w0 F0 own kept hk=>?_;refine bx 3006 ?_;refine ev ?_;refine wc zsG (hco) rfl rfl ?_;refine ev ?_;refine sq ?_ ?_<;>intro h1 h1p h1s<;>(try simp only[Q] at h1p);exfalso;exact absurd h1 (by simp);refine wc zj0 (zfL hsp.dp) rfl rfl ?_;refine evd [] [] ?_;refine wc zvk (hwo) rfl rfl ?_;refine evd [] [] ?_;refine dr ?_;refine wc zvl (hre) rfl rfl ?_;refine ev ?_;refine rn0 (r2 rfl rfl) (.tup (.cons (.eqd ?_) (.cons (.eqd ?_) .nil)));rotate_left 2;all_goals (first|rfl|(cases q<;>cases q2<;>first|rfl|(rw[hem rfl];rfl)))
theorem zhG {w:List Data} (hs:WSmall w){a k:Int}{l:List Cl} (hl:ClsOk l) (hz:ClsSz l):
  FnD Tryz.prog 78 [.d (zao w),.agg [.d (.i a),.d (.i k)],.d (zbG l)] [] (.tup [.d (zaj ((zci w ⟨a,k⟩ l).getD [])),.d (.bool (zci w ⟨a,k⟩ l).isSome)]) []:=by
 have hcv:=zjq hs (a:=a) (k:=k) hl hz;by_cases hv:zby w ⟨a,k⟩ l=true
 ·have hm:zci w ⟨a,k⟩ l=zd0 w ⟨a,k⟩ l:=by unfold zci;rw[if_pos hv]
  rw[hm];have htv:=zny hv;have hsp:=zhD hs (zbl htv.1).1;have hin:InS (w.length*4) ⟨a,k⟩:=by
   obtain⟨_,_,h3⟩:=zbl htv.1;by_cases ha:a = -1
   ·exact .inl ha
   ·obtain⟨h4,h5,h6,h7⟩:=h3 ha;have:=zkf (n:=w.length) h5 (j:=k.toNat) (by omega);rwa [Int.toNat_of_nonneg h4,Int.toNat_of_nonneg h6] at this
  have hre:=zof hsp hin htv.2 (zj5 hv hl);have e1:zaj [anyQ]=D.sl [[D.i 1,D.i 0,D.i 0,D.i 0,D.i 0,D.sl []]]:=rfl;rw[e1] at hre;rw[<-xac (f:=Cl.c)] at hre;refine bd Tryz.f78 24 [] [] fun w0 F0 own kept hk=>?_;refine bx 3004 ?_;refine ev ?_;refine wc zum (hcv) rfl rfl ?_;refine ev ?_;refine sq ?_ ?_<;>intro h1 h1p h1s<;>(try simp only[Q] at h1p);exfalso;rw[hv] at h1;exact absurd h1 (by simp);refine wc zsn (zjL) rfl rfl ?_;refine si [0] [_] sl34 tz36 ?_;refine evd [] [] ?_;refine wc zvj (hre) rfl rfl ?_;refine evd [] [] ?_;refine dr ?_;refine rn0 (r2 rfl rfl) (.tup (.cons (.eqd ?_) (.cons (.eqd ?_) .nil)));rotate_left 2;all_goals (rfl)
 ·have hv':zby w ⟨a,k⟩ l=false:=by simpa using hv
  have hm:zci w ⟨a,k⟩ l=none:=by unfold zci;rw[if_neg hv]
  rw[hm];rw[hv'] at hcv;refine bd Tryz.f78 24 [] [] fun w0 F0 own kept hk=>?_;refine bx 3004 ?_;refine ev ?_;refine wc zum (hcv) rfl rfl ?_;refine ev ?_;refine sq ?_ ?_<;>intro h1 h1p h1s<;>(try simp only[Q] at h1p);refine xbb sl34 .none rfl ?_;refine ev ?_;refine rn0 (r2 rfl rfl) (.tup (.cons (.eqd ?_) (.cons (.eqd ?_) .nil)));rotate_left 2;exfalso;exact absurd h1 (by simp);all_goals (rfl)
theorem ztL {w:List Data}{f:Nat->Nat}{n:Nat}{t:Ty}{p:Pat} (h:p.op=3) (hk:p.kids=[]):zax w f (n+1) t p=false:=by
 have e:zah w t p=[]:=by unfold zah;rw[if_neg (by omega),if_neg (by omega),if_neg (by omega)]
 rw[za6,if_neg (by omega),if_neg (by omega),e,hk];rfl
theorem zhk {w:List Data}{f:Nat->Nat}{n:Nat}{t:Ty}{p:Pat} (h:p.op=6) (hk:p.kids.length=1):zax w f (n+1) t p=zax w f n t (nth p.kids 0):=by
 have e:zah w t p=[t]:=by unfold zah;rw[if_neg (by omega),if_neg (by omega),if_pos (by omega)]
 rw[za6,if_neg (by omega),if_neg (by omega),e];match hkk:p.kids,hk with
 | [x],_=>
  show(!((!zax w f n t x)&&true))=zax w f n t x
  cases zax w f n t x<;>rfl
theorem zbO {w:List Data} (hs:Spa w):∀(n:Nat){a k:Int}{p:Pat},zau w n ⟨a,k⟩ p=true->InS (w.length*4) ⟨a,k⟩->p.ok->
  FnD Tryz.prog 250 [.d (zao w),.d (zec (w.length*4) (zam w)),.agg [.d (.i a),.d (.i k)],.agg [.d (.i p.op),.d (.i p.ctor),.d (.i p.n),.d (.i p.m),.d (.i p.var),.d (zaj p.kids)]] [] (.d (.bool (!zax w (zam w) n ⟨a,k⟩ p))) []
 |0,a,k,p,h,_,_=>by simp[zau] at h
 |n+1,a,k,p,h,hi,hok=>by
  rw[Pat.ok_iff] at hok;have hd:=hs.dp;have hw:=hd.wt;have hw4:=hd.four;have hdp:=zcN (f:=zam w) hi (by omega);have ht:=zbE hi;have pk:=zh2 (k:=k) h;obtain⟨ho,hlen⟩:=zbg h;have hkid:=fun i (hi:i<p.kids.length)=>zbj h hi;have hops:=pk.ops;have hk1:=pk.one;have hk2:=pk.two;have l5:=pk.len5;by_cases h4:p.op=4
  ·rw[zbe h4] at hlen hkid;have c1:=pk.mem h4;have ih:=fun i (hi2:i<p.kids.length)=>zbO hs n (a:=(nth (zad w ⟨a,k⟩ p.ctor) i).data) (k:=(nth (zad w ⟨a,k⟩ p.ctor) i).index) (p:=nth p.kids i) (hkid i hi2) (zbh hd hi c1 _ (zai (by omega))) (Pats.ok_mem hok.2 _ (zai hi2));have hlb:(zad w ⟨a,k⟩ p.ctor).length<=1000000000000:=by have:=hok.1;omega
   rw[za6,if_neg (by omega),if_neg (by omega),zbe h4,Bool.not_not];refine bd Tryz.f250 76 [] [] fun w0 F0 own kept hk=>?_;refine bx 3006 ?_;refine bx 3007 ?_;refine ev ?_;refine sq ?_ ?_<;>intro h1 h1p h1s<;>(try simp only[Q,Pat.cs_len] at h1p);refine sq ?_ ?_<;>intro h2 h2p h2s<;>(try simp only[Q,Pat.cs_len] at h2p);exfalso;omega;refine sq ?_ ?_<;>intro h3 h3p h3s<;>(try simp only[Q,Pat.cs_len] at h3p);exfalso;omega;refine sq ?_ ?_<;>intro h4 h4p h4s<;>(try simp only[Q,Pat.cs_len] at h4p);exfalso;omega;refine sq ?_ ?_<;>intro h5 h5p h5s<;>(try simp only[Q,Pat.cs_len] at h5p);exfalso;omega;refine wc zdO (zbM hw ht c1) rfl rfl ?_;refine ev ?_;refine xam (ι:=Nat) hk (fun i=>[(10,.d (.i (i:Int)))]) [8,57,58,59,60,61,62,63,64,65,66,67,68,69,70,71,72,73,74,75] (fun i=>[]) (fun i=>i<=(zad w ⟨a,k⟩ p.ctor).length/\∀i',i'<i->(!zax w (zam w) n (nth (zad w ⟨a,k⟩ p.ctor) i') (nth p.kids i'))=true) (fun i=>(zad w ⟨a,k⟩ p.ctor).length-i) 0 ⟨by omega,fun _ h=>absurd h (by omega)⟩ ⟨⟨_,rfl,xax ?_⟩,trivial⟩ trivial (fun x=>rfl) (fun i hg1=>?_);focus (first|rfl|(simp;done)|(simp_all;done)|omega)
   refine evc [] [] ?_;refine sq ?_ ?_<;>intro h6 h6p h6s<;>(try simp only[Q,Pat.cs_len] at h6p);refine xaP zaK .none rfl rfl rfl rfl (zaz (by omega)) rfl ?_;refine evd [] [] ?_;refine xaP sl34 .none rfl rfl rfl rfl (zas (by omega)) rfl ?_;refine evd [] [] ?_;refine wc zd9 (ih i (by omega)) rfl rfl ?_;refine evd [] [] ?_;refine dr ?_;refine sq ?_ ?_<;>intro h7 h7p h7s<;>(try simp only[Q,Pat.cs_len] at h7p);refine rq ?_;rotate_left;refine ar ?_;refine xah (i+1) ⟨⟨by omega,zaM hg1.2 (by first|assumption|(simp;assumption)|(simp_all;done))⟩,(by omega),sx ⟨⟨_,rfl,xax ?_⟩,trivial⟩ trivial⟩;focus (first|rfl|(simp;done)|(simp_all;done)|omega)
   refine rq ?_;rotate_left;refine sq ?_ ?_<;>intro h8 h8p h8s<;>(try simp only[Q,Pat.cs_len] at h8p);exfalso;omega;refine sq ?_ ?_<;>intro h9 h9p h9s<;>(try simp only[Q,Pat.cs_len] at h9p);exfalso;omega;refine sq ?_ ?_<;>intro h10 h10p h10s<;>(try simp only[Q,Pat.cs_len] at h10p);exfalso;omega;refine sq ?_ ?_<;>intro h11 h11p h11s<;>(try simp only[Q,Pat.cs_len] at h11p);exfalso;omega;refine wc zdO (zbM hw ht c1) rfl rfl ?_;refine ev ?_;refine xam (ι:=Nat) hk (fun i=>[(10,.d (.i (i:Int)))]) [8,57,58,59,60,61,62,63,64,65,66,67,68,69,70,71,72,73,74,75] (fun i=>[]) (fun i=>i<=(zad w ⟨a,k⟩ p.ctor).length/\∀i',i'<i->(!zax w (zam w) n (nth (zad w ⟨a,k⟩ p.ctor) i') (nth p.kids i'))=true) (fun i=>(zad w ⟨a,k⟩ p.ctor).length-i) 0 ⟨by omega,fun _ h=>absurd h (by omega)⟩ ⟨⟨_,rfl,xax ?_⟩,trivial⟩ trivial (fun x=>rfl) (fun i hg1=>?_);focus (first|rfl|(simp;done)|(simp_all;done)|omega)
   refine evc [] [] ?_;refine sq ?_ ?_<;>intro h12 h12p h12s<;>(try simp only[Q,Pat.cs_len] at h12p);refine xaP zaK .none rfl rfl rfl rfl (zaz (by omega)) rfl ?_;refine evd [] [] ?_;refine xaP sl34 .none rfl rfl rfl rfl (zas (by omega)) rfl ?_;refine evd [] [] ?_;refine wc zd9 (ih i (by omega)) rfl rfl ?_;refine evd [] [] ?_;refine dr ?_;refine sq ?_ ?_<;>intro h13 h13p h13s<;>(try simp only[Q,Pat.cs_len] at h13p);refine rq ?_;rotate_left;refine ar ?_;refine xah (i+1) ⟨⟨by omega,zaM hg1.2 (by first|assumption|(simp;assumption)|(simp_all;done))⟩,(by omega),sx ⟨⟨_,rfl,xax ?_⟩,trivial⟩ trivial⟩;focus (first|rfl|(simp;done)|(simp_all;done)|omega)
   refine rq ?_;rotate_left;all_goals (refine congrArg D.bool ?_;first|(rw[zbm (i:=i) (by omega) (by omega) (by first|assumption|(simp;assumption)|(simp_all;done))];done)|(rw[zbn (by omega) (fun x hx=>hg1.2 x (by omega))];done))
  ·have hT3:p.op=3->zax w (zam w) (n+1) ⟨a,k⟩ p=false:=fun h3=>ztL h3 (zng h (by omega) (by omega) (by omega));have hT6:p.op=6->zax w (zam w) (n+1) ⟨a,k⟩ p=zax w (zam w) n ⟨a,k⟩ (nth p.kids 0):=fun h6=>zhk h6 (zcq h h6).1;have hT1:p.op=1\/p.op=2->zax w (zam w) (n+1) ⟨a,k⟩ p=decide (dv (zam w) ⟨a,k⟩=0):=fun h1=>by rw[za6,if_pos h1]
   have hT5:p.op=5->zax w (zam w) (n+1) ⟨a,k⟩ p=(zax w (zam w) n ⟨a,k⟩ (nth p.kids 0)&&zax w (zam w) n ⟨a,k⟩ (nth p.kids 1)):=fun h5=>by rw[za6,if_neg (by omega),if_pos h5]
   have hl6:p.op=6->p.kids.length=1:=fun h6=>(zcq h h6).1;have hlb:=hok.1;refine bd Tryz.f250 76 [] [] fun w0 F0 own kept hk=>?_;refine bx 3006 ?_;refine bx 3007 ?_;refine ev ?_;refine sq ?_ ?_<;>intro h1 h1p h1s<;>(try simp only[Q,Pat.cs_len] at h1p);refine sq ?_ ?_<;>intro h2 h2p h2s<;>(try simp only[Q,Pat.cs_len] at h2p);refine wc zgp (hdp) rfl rfl ?_;refine ev ?_;refine rq ?_;rotate_left;refine sq ?_ ?_<;>intro h3 h3p h3s<;>(try simp only[Q,Pat.cs_len] at h3p);refine rq ?_;rotate_left;refine sq ?_ ?_<;>intro h4 h4p h4s<;>(try simp only[Q,Pat.cs_len] at h4p);refine xaP (i:=0) sl34 .none rfl rfl rfl rfl (zas (by omega)) rfl ?_;refine evd [] [] ?_;refine wc zd9 (zbO hs n (hk1 (by omega)) hi (Pats.ok_mem hok.2 _ (zai (i:=0) (by omega)))) rfl rfl ?_;refine evd [] [] ?_;refine sq ?_ ?_<;>intro h5 h5p h5s<;>(try simp only[Q,Pat.cs_len] at h5p);refine dr ?_;refine rq ?_;rotate_left;refine xaP (i:=1) sl34 (.some rfl rfl h5) rfl rfl rfl rfl (zas (by omega)) rfl ?_;refine evd [] [(32,false)] ?_ ⟨⟨_,rfl,h5⟩,trivial⟩;refine Walk.call (cr:=[]) zd9 (zbO hs n (hk2 (by omega)) hi (Pats.ok_mem hok.2 _ (zai (i:=1) (by omega)))) rfl (.some rfl rfl h5) rfl rfl (LeL.refl _) trivial rfl rfl rfl ?_;refine evd [] [(32,false)] ?_ ⟨⟨_,rfl,h5⟩,trivial⟩;refine dr ?_;refine rq ?_;rotate_left;refine sq ?_ ?_<;>intro h6 h6p h6s<;>(try simp only[Q,Pat.cs_len] at h6p);refine xaP (i:=0) sl34 .none rfl rfl rfl rfl (zas (by omega)) rfl ?_;refine evd [] [] ?_;refine wc zd9 (zbO hs n (hk1 (by omega)) hi (Pats.ok_mem hok.2 _ (zai (i:=0) (by omega)))) rfl rfl ?_;refine evd [] [] ?_;refine dr ?_;refine rq ?_;rotate_left;exfalso;omega;refine sq ?_ ?_<;>intro h7 h7p h7s<;>(try simp only[Q,Pat.cs_len] at h7p);refine wc zgp (hdp) rfl rfl ?_;refine ev ?_;refine rq ?_;rotate_left;refine sq ?_ ?_<;>intro h8 h8p h8s<;>(try simp only[Q,Pat.cs_len] at h8p);refine rq ?_;rotate_left;refine sq ?_ ?_<;>intro h9 h9p h9s<;>(try simp only[Q,Pat.cs_len] at h9p);refine xaP (i:=0) sl34 .none rfl rfl rfl rfl (zas (by omega)) rfl ?_;refine evd [] [] ?_;refine wc zd9 (zbO hs n (hk1 (by omega)) hi (Pats.ok_mem hok.2 _ (zai (i:=0) (by omega)))) rfl rfl ?_;refine evd [] [] ?_;refine sq ?_ ?_<;>intro h10 h10p h10s<;>(try simp only[Q,Pat.cs_len] at h10p);refine dr ?_;refine rq ?_;rotate_left;refine xaP (i:=1) sl34 (.some rfl rfl h10) rfl rfl rfl rfl (zas (by omega)) rfl ?_;refine evd [] [(32,false)] ?_ ⟨⟨_,rfl,h10⟩,trivial⟩;refine Walk.call (cr:=[]) zd9 (zbO hs n (hk2 (by omega)) hi (Pats.ok_mem hok.2 _ (zai (i:=1) (by omega)))) rfl (.some rfl rfl h10) rfl rfl (LeL.refl _) trivial rfl rfl rfl ?_;refine evd [] [(32,false)] ?_ ⟨⟨_,rfl,h10⟩,trivial⟩;refine dr ?_;refine rq ?_;rotate_left;refine sq ?_ ?_<;>intro h11 h11p h11s<;>(try simp only[Q,Pat.cs_len] at h11p);refine xaP (i:=0) sl34 .none rfl rfl rfl rfl (zas (by omega)) rfl ?_;refine evd [] [] ?_;refine wc zd9 (zbO hs n (hk1 (by omega)) hi (Pats.ok_mem hok.2 _ (zai (i:=0) (by omega)))) rfl rfl ?_;refine evd [] [] ?_;refine dr ?_;refine rq ?_;rotate_left;exfalso;omega;all_goals (refine congrArg D.bool ?_;first|(rw[hT3 (by omega)];done)|(rw[hT3 (by omega)];rfl)|(rw[hT6 (by omega)];done)|(rw[hT1 (by omega),Bool.eq_iff_iff];simp;omega)|(rw[hT5 (by omega)];simp_all;done)|(rw[hT5 (by omega)];cases zax w (zam w) n ⟨a,k⟩ (nth p.kids 0)<;>cases zax w (zam w) n ⟨a,k⟩ (nth p.kids 1)<;>simp_all))
theorem zjr {w:List Data} (hs:WSmall w){a k:Int}{p:Pat} (hok:p.ok) (hsz:p.size<=1000000000000):
  FnD Tryz.prog 158 [.d (zao w),.agg [.d (.i a),.d (.i k)],.agg [.d (.i p.op),.d (.i p.ctor),.d (.i p.n),.d (.i p.m),.d (.i p.var),.d (zaj p.kids)]] [] (.d (.bool (zqc w a k p))) []:=by
 have hpv:=zfJ hs (a:=a) (k:=k) hok hsz;have pv:=pval hs (a:=a) (k:=k) (p:=p);have hin:zbP w a k p=true->InS (w.length*4) ⟨a,k⟩/\Spa w:=fun hv=>by
  have hv2:zbJ w ⟨a,k⟩=true:=by unfold zbP at hv;rw[xad] at hv;exact hv.1
  refine⟨?_,zhD hs (zbl hv2).1⟩;by_cases ha:a = -1
  ·exact .inl ha
  ·obtain⟨r1,r2,r3,r4⟩:=(pv hv).rng ha;obtain⟨d,rfl⟩:=Int.eq_ofNat_of_zero_le r1;obtain⟨q,rfl⟩:=Int.eq_ofNat_of_zero_le r3;exact zkf (by omega) (by omega)
 unfold zqc;refine bd Tryz.f158 19 [] [] fun w0 F0 own kept hk=>?_;refine bx 3004 ?_;refine bx 3005 ?_;refine ev ?_;refine wc zmd (hpv) rfl rfl ?_;refine ev ?_;refine sq ?_ ?_<;>intro h1 h1p h1s<;>(try simp only[Q] at h1p);refine rq ?_;rotate_left;refine wc zj0 (zfL (pv (by assumption)).dp) rfl rfl ?_;refine evd [] [] ?_;refine wc zd9 (zbO (hin (by assumption)).2 10 (pv (by assumption)).shape (hin (by assumption)).1 hok) rfl rfl ?_;refine evd [] [] ?_;refine dr ?_;refine rq ?_;rotate_left;all_goals (refine congrArg D.bool ?_;simp_all;done)
mutual
def hitP:Pat->Val->Bool
 | .mk op c n m _ ks,v=>if op=3 then zaF v.num n m else if op=4 then decide (c=v.ctor)&&hitL ks v.kids else true
def hitL:List Pat->List Val->Bool
 |p::r,v::s=>hitP p v&&hitL r s
 |_,_=>true
end
theorem zmR {f:Pat->Val->List Bd×Bool}:∀ {a:List Pat}{b:List Val}{acc:List Bd},a.length=b.length->((ziI f a b acc).2=true↔∀i,i<a.length->(f (nth a i) (nth b i)).2=true)
 | [],[],acc,_=>by simp[ziI]
 |p::r,v::s,acc,h=>by
  unfold ziI;by_cases hp:(f p v).2=true
  ·rw[if_pos hp,zmR (a:=r) (b:=s) (by simpa using h)];constructor
   ·intro h1 i hi;cases i with
    |zero=>exact hp
    |succ i=>exact h1 i (by simpa using hi)
   ·intro h1 i hi;exact h1 (i+1) (by simpa using hi)
  ·rw[if_neg hp];constructor
   ·intro h1;cases h1
   ·intro h1;exact absurd (h1 0 (by simp)) hp
 | [],_::_,_,h=>by simp at h
 |_::_,[],_,h=>by simp at h
def one (b:Bool):Nat:=if b=true then 1 else 0
section
variable {w:List Data} (hs:Spa w)
include hs
end
theorem zrj {w:List Data}{t:Ty}{l:List Cl}{ps:List Pat} (hm:zci w t l=some ps):zby w t l=true/\∃away,zbF l []=some away/\zaO w t [anyQ] away=some ps/\ps.all (isP w t)=true:=by
 unfold zci at hm;split at hm
 ·rename_i hv;refine⟨hv, ?_⟩;unfold zd0 at hm;cases hq:zbF l [] with
  |none=>rw[hq] at hm;simp at hm
  |some away=>
   rw[hq] at hm;cases hw:zaO w t [anyQ] away with
   |none=>simp[hw] at hm
   |some r=>
    simp only[hw] at hm;by_cases hr:r.all (isP w t)=true
    ·refine⟨away,rfl, ?_⟩;simp[hr] at hm;subst hm;exact⟨hw,hr⟩
    ·simp[hr] at hm
 ·cases hm
theorem ztH {w:List Data} (hs:WSmall w){a k:Int}{l:List Cl} (hv:zby w ⟨a,k⟩ l=true):Spa w/\InS (w.length*4) ⟨a,k⟩:=by
 have htv:=zny hv;refine⟨zhD hs (zbl htv.1).1, ?_⟩;obtain⟨_,_,h3⟩:=zbl htv.1;by_cases ha:a = -1
 ·exact .inl ha
 ·obtain⟨h4,h5,h6,h7⟩:=h3 ha;have:=zkf (n:=w.length) h5 (j:=k.toNat) (by omega);rwa [Int.toNat_of_nonneg h4,Int.toNat_of_nonneg h6] at this
theorem zmw {w:List Data}:∀(n:Nat){t:Ty}{v:Val},zbt w n t v=true->zbt w (n+1) t v=true
 |0,t,v,h=>by simp[zbt] at h
 |n+1,t,v,h=>by
  rw[zbt] at h ⊢;split
  ·rename_i hd;rw[if_pos hd] at h;exact h
  ·rename_i hd;rw[if_neg hd] at h;split at h
   ·rename_i hc;rw[if_pos hc];exact ziZ (fun x _ y _ hxy=>zmw n hxy) h
   ·cases h
theorem zhn {w:List Data}{n m:Nat} (h:n<=m){t:Ty}{v:Val} (hv:zbt w n t v=true):zbt w m t v=true:=by
 induction h with
 |refl=>exact hv
 |step _ ih=>exact zmw _ ih
def szN:Nat->Nat
 |0=>0
 |n+1=>1+3*szN n
theorem Vals.size_of {m:Nat}:∀ {l:List Val},(∀k∈l,k.size<=m)->Vals.size l<=l.length*m
 | [],_=>by simp[Vals.size]
 |x::r,h=>by
  have h1:=h x (by simp);have h2:=Vals.size_of (l:=r) (fun y hy=>h y (by simp[hy]));simp only[Vals.size,xab,Nat.succ_mul];omega
theorem zos {w:List Data} (hs:Spa w):∀(n:Nat){t:Ty}{v:Val},InS (w.length*4) t->zbt w n t v=true->v.size<=szN n
 |0,t,v,_,h=>by simp[zbt] at h
 |n+1,t,v,ht,h=>by
  rw[Val.size_eq];by_cases hd:t.data = -1
  ·rw[zbt,if_pos hd] at h;simp only[xad,decide_eq_true_eq] at h;rw[List.eq_nil_of_length_eq_zero h.2.2.2];simp[Vals.size,szN]
  ·obtain⟨f1,f2,f3⟩:=zs9 h hd;have h3:=hs.args t _ ht f1;have hz:=Vals.size_of (m:=szN n) (l:=v.kids) (fun k hk=>by
    obtain⟨i,hi,rfl⟩:=List.getElem_of_mem hk;have:=zos hs n (zbh hs.dp ht f1 _ (zai (i:=i) (by omega))) (f3 i hi);rwa [zbc hi] at this)
   have:v.kids.length*szN n<=3*szN n:=Nat.mul_le_mul_right _ (by omega);unfold szN;omega
structure Grid (w:List Data) (t:Ty) (S:Pat->Prop) (V:List Val):Prop where
 meet:∀n a b z,S a->S b->zaU n a b=some z->S z
 minus:∀n a b x,S a->S b->x∈zaB w n t a b->S x
 hit:∀n p,S p->zaq w n t p=true->zax w (zam w) n t p=false->∃v∈V,hitP p v=true
 fits:∃m,∀v∈V,zbt w m t v=true
section
variable {w:List Data} (hs:Spa w){t:Ty} (ht:InS (w.length*4) t)
include hs ht
end
section
variable {w:List Data} (hs:Spa w){t:Ty} (ht:InS (w.length*4) t)
include hs ht
end
end Go.Proofs.YtlfipehhbdjnjaaGreat
namespace Go.Proofs.YtlfipehhbdjnjaaGreat
open Go
set_option linter.unusedSimpArgs false
set_option linter.unusedVariables false
end Go.Proofs.YtlfipehhbdjnjaaGreat
namespace Go.Proofs.YtlfipehhbdjnjaaGreat
open Go
set_option linter.unusedSimpArgs false
set_option linter.unusedVariables false
set_option maxRecDepth 100000
set_option maxHeartbeats 2000000
section
variable {w:List Data} (hs:Spa w){ta tk:Int} (ht:InS (w.length*4) ⟨ta,tk⟩){l:List Pat} (hl:∀a∈l,zaq w 10 ⟨ta,tk⟩ a=true) (hb:l.length<=1600)
include hs ht hl hb
end
structure CaseW (w:List Data):Prop where
 small:WSmall w
 valid:zbC w=true
 one:1<=w.length
 ct:∀k:Int,k=0\/k=1\/k=2->1<=(zaA w ⟨0,k⟩).length
def shal (p:Pat):Prop:=p.op=1\/p.op=3\/∃c l,p=zbU c l/\∀k∈l,k=anyQ
def zpC (p:Pat):Prop:=p.op=1\/p.op=3\/∃c l,p=zbU c l/\∀k∈l,shal k
def PosP (K:Pat->Prop):Prop:=(∀k,K k->shal k)\/∃x,zpC x/\¬shal x/\∀k,K k->k=x
theorem zt2:shal anyQ:= .inl rfl
theorem zwn {p:Pat} (h:shal p):zpC p:=by
 rcases h with h|h|⟨c,l,h1,h2⟩
 ·exact .inl h
 ·exact .inr (.inl h)
 ·exact .inr (.inr ⟨c,l,h1,fun k hk=>by rw[h2 k hk];exact zt2⟩)
theorem PosP.two {K:Pat->Prop} (h:PosP K){k:Pat} (hk:K k):zpC k:=by
 rcases h with h|⟨x,h1,_,h2⟩
 ·exact zwn (h k hk)
 ·rw[h2 k hk];exact h1
theorem PosP.one {K:Pat->Prop} (h:∀k k',K k->K k'->k=k') (h2:∀k,K k->zpC k):PosP K:=by
 by_cases hx:∃k,K k/\¬shal k
 ·obtain⟨k,h3,h4⟩:=hx;exact .inr ⟨k,h2 k h3,h4,fun k' h5=>h k' k h5 h3⟩
 ·exact .inl fun k hk=>Classical.byContradiction fun h3=>hx ⟨k,hk,h3⟩
section
variable {w:List Data} (hs:Spa w)
include hs
end
def Dr:Nat->Pat->Prop
 |0,p=>p=anyQ
 |n+1,p=>p=anyQ\/(p.op=3/\p.kids=[])\/(p.op=5/\p.kids.length=2/\∀k∈p.kids,Dr n k)\/(p.op=4/\∀k∈p.kids,Dr n k)
theorem Dr.any (n:Nat):Dr n anyQ:=by cases n<;>simp[Dr]
theorem Dr.up:∀(n:Nat){p:Pat},Dr n p->Dr (n+1) p
 |0,p,h=> .inl h
 |n+1,p,h=>by
  rcases h with h|h|⟨h1,h2,h3⟩|⟨h1,h2⟩
  ·exact .inl h
  ·exact .inr (.inl h)
  ·exact .inr (.inr (.inl ⟨h1,h2,fun k hk=>Dr.up n (h3 k hk)⟩))
  ·exact .inr (.inr (.inr ⟨h1,fun k hk=>Dr.up n (h2 k hk)⟩))
theorem Dr.le {n m:Nat} (h:n<=m){p:Pat} (hp:Dr n p):Dr m p:=by
 induction h with
 |refl=>exact hp
 |step _ ih=>exact Dr.up _ ih
structure NamB (p r:Pat):Prop where
 bare:zaQ r=p
 kids:(∀k∈r.kids,zaQ k∈p.kids)\/(r.op=6/\r.kids.length=1)
mutual
theorem zqB:∀v:Val,v.size<=1000000000000->v.ok
 | .mk a n ks,h=>by
  have h1:1+Vals.size ks<=1000000000000:=h;exact⟨by have:=zrE ks;omega,zrH ks (by omega)⟩
theorem zrH:∀l:List Val,Vals.size l<=1000000000000->Vals.ok l
 | [],_=>trivial
 |v::r,h=>by
  have h1:v.size+Vals.size r<=1000000000000:=h;exact⟨zqB v (by omega),zrH r (by omega)⟩
theorem zrE:∀l:List Val,l.length<=Vals.size l
 | []=>Nat.zero_le _
 |v::r=>by
  have h1:=zrE r;have h2:=Val.size_eq v;show r.length+1<=v.size+Vals.size r
  omega
end
def hitC (w:List Data) (t:Ty) (c:Int):Bool:=decide (most w (zam w) t c=dv (zam w) t)
def zc4 (w:List Data) (t:Ty):Int:=((zaA w t).find? (hitC w t)).getD 0
def zaL (w:List Data):Nat->Ty->Val
 |0,_=> .mk 0 0 []
 |n+1,t=>if t.data = -1 then .mk (-1) 0 [] else .mk (zc4 w t) 0 ((zad w t (zc4 w t)).map (zaL w n))
structure Dq (w:List Data) (n:Nat) (t:Ty):Prop where
 ins:InS (w.length*4) t
 pos:0<dv (zam w) t
 le:dv (zam w) t<=n
theorem zje {w:List Data} (hd:Dp w){n:Nat}{t:Ty} (h:Dq w n t) (hne:¬t.data = -1):zc4 w t∈zaA w t/\most w (zam w) t (zc4 w t)=dv (zam w) t:=by
 obtain⟨c,hc,h1,h2⟩:=ztf hd h.ins hne h.pos;unfold zc4;cases hf:(zaA w t).find? (hitC w t) with
 |none=>exact absurd (decide_eq_true h2) (List.find?_eq_none.1 hf c hc)
 |some x=>exact⟨List.mem_of_find?_eq_some hf,of_decide_eq_true (show hitC w t x=true from List.find?_some hf)⟩
theorem zkq {w:List Data}{t:Ty}{pre rest:List Int}{y:Int} (h:pre++y::rest=zaA w t) (h1:∀x∈pre,hitC w t x=false) (h2:hitC w t y=true):zc4 w t=y:=by
 unfold zc4;rw[<-h,List.find?_append,List.find?_eq_none.2 (fun x hx=>by rw[h1 x hx];simp),Option.none_or,List.find?_cons_of_pos h2];rfl
theorem zhV {w:List Data} (hd:Dp w){n:Nat}{t:Ty} (h:Dq w (n+1) t) (hne:¬t.data = -1):∀u∈zad w t (zc4 w t),Dq w n u:=by
 intro u hu;obtain⟨h1,h2⟩:=zje hd h hne;have hp:=h.pos;have hl:=h.le;have hin:=zbh hd h.ins h1 u hu;have hs:=(zh0 (f:=zam w) (l:=zad w t (zc4 w t)) (m:=0) (by show 0<most w (zam w) t (zc4 w t);omega)).2 u hu;have hlt:dv (zam w) u<most w (zam w) t (zc4 w t):=hs.2;exact⟨hin,hs.1,by omega⟩
theorem zrB {w:List Data}{n:Nat}{t:Ty}{c:Int}{l:List Val} (hne:¬t.data = -1) (hm:c∈zaA w t) (h:all2 (zbt w n) (zad w t c) l=true):zbt w (n+1) t (.mk c 0 l)=true:=by
 unfold zbt;rw[if_neg hne,if_pos ⟨rfl,zo4 hm⟩];exact h
theorem zqe {w:List Data}{n:Nat}{t:Ty}{i:Int} (h:t.data = -1) (h0:0<=i) (h9:i<=9):zbt w (n+1) t (.mk (-1) i [])=true:=by
 unfold zbt;rw[if_pos h];simp only[xad,decide_eq_true_eq];exact⟨rfl,h0,h9,rfl⟩
theorem zu2 {α β:Type} [Inhabited α] [Inhabited β]{f:α->β}{l:List α}{i:Nat} (h:i<l.length):nth (l.map f) i=f (nth l i):=by
 simp[nth,List.getD,h]
theorem zjf {w:List Data} (hd:Dp w):∀(n:Nat){t:Ty},Dq w n t->zbt w n t (zaL w n t)=true
 |0,t,h=>by have:=h.pos;have:=h.le;omega
 |n+1,t,h=>by
  unfold zaL;by_cases hne:t.data = -1
  ·rw[if_pos hne];exact zqe hne (by omega) (by omega)
  ·rw[if_neg hne];refine zrB hne (zje hd h hne).1 (zbn (by simp) (fun i hi=>?_));rw[zu2 hi];exact zjf hd n (zhV hd h hne _ (zai hi))
def zipV (f:Ty->Pat->Val):List Ty->List Pat->List Val
 |t::r,p::s=>f t p::zipV f r s
 |_,_=>[]
theorem ze4 {f:Ty->Pat->Val}:∀ {a:List Ty}{b:List Pat},a.length=b.length->(zipV f a b).length=a.length
 | [],[],_=>rfl
 |_::r,_::s,h=>by simp only[zipV,xab,ze4 (f:=f) (a:=r) (b:=s) (by simpa using h)]
 | [],_::_,h=>by simp at h
 |_::_,[],h=>by simp at h
theorem zjB {f:Ty->Pat->Val}:∀ {a:List Ty}{b:List Pat}{i:Nat},a.length=b.length->i<a.length->nth (zipV f a b) i=f (nth a i) (nth b i)
 |_::_,_::_,0,_,_=>rfl
 |_::r,_::s,i+1,h,hi=>zjB (f:=f) (a:=r) (b:=s) (i:=i) (by simpa using h) (by simpa using hi)
 | [],[],_,_,hi=>by simp at hi
 | [],_::_,_,h,_=>by simp at h
 |_::_,[],_,h,_=>by simp at h
theorem zkR {f:Ty->Pat->Val}{a:List Ty}{b:List Pat}{i:Nat} (h:a.length=b.length) (hi:i<a.length):(zipV f a b).take (i+1)=(zipV f a b).take i++[f (nth a i) (nth b i)]:=by
 rw[<-zjB (f:=f) h hi,List.take_add_one];have hl:=ze4 (f:=f) h;rw[show(zipV f a b)[i]?=some (nth (zipV f a b) i) from by simpa using zaz (f:=id) (l:=zipV f a b) (i:=i) (by omega)];rfl
def zap (w:List Data):Nat->Ty->Pat->Val
 |0,_,_=> .mk 0 0 []
 |n+1,t,p=>
  if p.op=1\/p.op=2 then zaL w 10 t
  else if p.op=3 then .mk (-1) p.n []
  else if p.op=6 then zap w n t (nth p.kids 0)
  else if p.op=5 then (if zax w (zam w) n t (nth p.kids 0)=true then zap w n t (nth p.kids 1) else zap w n t (nth p.kids 0))
  else .mk p.ctor 0 (zipV (zap w n) (zad w t p.ctor) p.kids)
def zbo (w:List Data):Nat->Ty->Pat->Bool
 |0,_,_=>true
 |n+1,t,p=>if p.op=1\/p.op=2 then decide (10<dv (zam w) t) else !(all2 (fun u q=> !zbo w n u q) (zah w t p) p.kids)
theorem zgW {w:List Data}{n:Nat}{t:Ty}{p:Pat}:zbo w (n+1) t p=if p.op=1\/p.op=2 then decide (10<dv (zam w) t) else !(all2 (fun u q=> !zbo w n u q) (zah w t p) p.kids):=rfl
section
variable {w:List Data}{n:Nat}{t:Ty}{p:Pat}
theorem zhx (h:p.op=1\/p.op=2):zap w (n+1) t p=zaL w 10 t:=by unfold zap;rw[if_pos h]
theorem zjk (h:p.op=3):zap w (n+1) t p = .mk (-1) p.n []:=by unfold zap;rw[if_neg (by omega),if_pos h]
theorem zjm (h:p.op=6):zap w (n+1) t p=zap w n t (nth p.kids 0):=by
 conv=>lhs;unfold zap
 rw[if_neg (by omega),if_neg (by omega),if_pos h]
theorem zh6 (h:p.op=5) (he:zax w (zam w) n t (nth p.kids 0)=true):zap w (n+1) t p=zap w n t (nth p.kids 1):=by
 conv=>lhs;unfold zap
 rw[if_neg (by omega),if_neg (by omega),if_neg (by omega),if_pos h,if_pos he]
theorem zh7 (h:p.op=5) (he:zax w (zam w) n t (nth p.kids 0)=false):zap w (n+1) t p=zap w n t (nth p.kids 0):=by
 conv=>lhs;unfold zap
 rw[if_neg (by omega),if_neg (by omega),if_neg (by omega),if_pos h,if_neg (by rw[he];simp)]
theorem zjl (h:p.op=4):zap w (n+1) t p = .mk p.ctor 0 (zipV (zap w n) (zad w t p.ctor) p.kids):=by
 conv=>lhs;unfold zap
 rw[if_neg (by omega),if_neg (by omega),if_neg (by omega),if_neg (by omega)]
theorem zj8 (h:p.op=1\/p.op=2) (hd:zbo w (n+1) t p=false):dv (zam w) t<=10:=by
 rw[zgW,if_pos h] at hd;have:=of_decide_eq_false hd;omega
theorem zcp (h:¬(p.op=1\/p.op=2)) (hd:zbo w (n+1) t p=false) (hl:(zah w t p).length=p.kids.length):∀i,i<p.kids.length->zbo w n (nth (zah w t p) i) (nth p.kids i)=false:=fun i hi=>by
 rw[zgW,if_neg h] at hd;have ha:all2 (fun u q=> !zbo w n u q) (zah w t p) p.kids=true:=by simpa using hd
 simpa using zd6 hl ha i (by omega)
end
theorem zfe {w:List Data} (hd:Dp w):∀(n:Nat){t:Ty}{p:Pat},zau w n t p=true->InS (w.length*4) t->zax w (zam w) n t p=false->zbo w n t p=false->
  zbt w (n+10) t (zap w n t p)=true/\(zbr n p (zap w n t p)).2=true
 |0,t,p,h,_,_,_=>by simp[zau] at h
 |n+1,t,p,h,ht,he,hp=>by
  obtain⟨ho,hlen⟩:=zbg h;rcases zqQ h with h1|h1|h3|h4|h5|h6
  ·have h8:=zj8 (.inl h1) hp;rw[za6,if_pos (.inl h1)] at he;have:=of_decide_eq_false he;rw[zhx (.inl h1),zuT h1];exact⟨zhn (by omega) (zjf hd 10 ⟨ht,by omega,h8⟩),rfl⟩
  ·have h8:=zj8 (.inr h1) hp;rw[za6,if_pos (.inr h1)] at he;have:=of_decide_eq_false he;rw[zhx (.inr h1),zuU h1];exact⟨zhn (by omega) (zjf hd 10 ⟨ht,by omega,h8⟩),rfl⟩
  ·unfold ownP at ho;have hi:=(of_decide_eq_true ho).2.2.2.2;rw[zjk h3,zuV h3];refine⟨zqe (by omega) (by omega) (by omega), ?_⟩;show zaF p.n p.n p.m=true
   unfold zaF;rw[xad,decide_eq_true_eq,decide_eq_true_eq];omega
  ·have hs:=h;unfold zau at hs;rw[xad,zbe h4] at hs;have hl:=zll hs.2;have hm:=zck hs.1 h4;have hdt:t.data≠ -1:=fun e=>by unfold zaA at hm;rw[if_pos e] at hm;simp at hm
   rw[za6,if_neg (by omega),if_neg (by omega),zbe h4] at he;have ha:all2 (fun u q=> !zax w (zam w) n u q) (zad w t p.ctor) p.kids=true:=by simpa using he
   have hdk:=zcp (by omega) hp hlen.symm;rw[zbe h4] at hdk;have ih:=fun i (hi:i<p.kids.length)=>zfe hd n (zd6 hl hs.2 i (by omega)) (zbh hd ht hm _ (zai (by omega))) (by have:=zd6 hl ha i (by omega);simpa using this) (hdk i hi);rw[zjl h4];refine⟨?_, ?_⟩
   ·rw[show n+1+10=(n+10)+1 by omega];refine zrB hdt hm (zbn (ze4 hl).symm (fun i hi=>?_));rw[zjB hl hi];exact(ih i (by omega)).1
   ·rw[zuW h4 rfl];refine(zmR (by rw[show Val.kids (.mk p.ctor 0 (zipV (zap w n) (zad w t p.ctor) p.kids))=zipV (zap w n) (zad w t p.ctor) p.kids from rfl,ze4 hl];exact hl.symm)).2 (fun i hi=>?_);show(zbr n (nth p.kids i) (nth (zipV (zap w n) (zad w t p.ctor) p.kids) i)).2=true
    rw[zjB hl (by omega)];exact(ih i hi).2
  ·obtain⟨k1,k2,k3⟩:=zh9 h h5;rw[za6,if_neg (by omega),if_pos h5] at he;have e5:zah w t p=[t,t]:=by unfold zah;rw[if_neg (by omega),if_pos h5]
   have hdk:=zcp (by omega) hp hlen.symm;rw[e5] at hdk;have hk0:zbo w n t (nth p.kids 0)=false:=hdk 0 (by omega);have hk1:zbo w n t (nth p.kids 1)=false:=hdk 1 (by omega);cases e0:zax w (zam w) n t (nth p.kids 0) with
   |false=>
    obtain⟨h7,h8⟩:=zfe hd n k2 ht e0 hk0;rw[zh7 h5 e0];exact⟨zhn (by omega) h7,by rw[zqs h5 h8]⟩
   |true=>
    rw[e0,Bool.true_and] at he;obtain⟨h7,h8⟩:=zfe hd n k3 ht he hk1;rw[zh6 h5 e0];refine⟨zhn (by omega) h7, ?_⟩;cases e2:(zbr n (nth p.kids 0) (zap w n t (nth p.kids 1))).2 with
    |true=>rw[zqs h5 e2]
    |false=>rw[ztS h5 e2];exact h8
  ·obtain⟨k1,k2⟩:=zcq h h6;rw[zhk h6 k1] at he;have e6:zah w t p=[t]:=by unfold zah;rw[if_neg (by omega),if_neg (by omega),if_pos (by omega)]
   have hdk:=zcp (by omega) hp hlen.symm;rw[e6] at hdk;obtain⟨h7,h8⟩:=zfe hd n k2 ht he (hdk 0 (by omega));rw[zjm h6];exact⟨zhn (by omega) h7,by rw[zuX h6];exact h8⟩
def zbT (w:List Data) (a k:Int) (p:Pat):Option Val:=
 if zbP w a k p=true/\zax w (zam w) 10 ⟨a,k⟩ p=false/\zbo w 10 ⟨a,k⟩ p=false/\isV w ⟨a,k⟩ (zap w 10 ⟨a,k⟩ p)=true then some (zap w 10 ⟨a,k⟩ p) else none
abbrev optV (o:Option Val):Val:=o.getD (.mk 0 0 [])
theorem zfI {w:List Data} (hs:WSmall w){a k:Int}{p:Pat} (h:zbP w a k p=true):Spa w/\InS (w.length*4) ⟨a,k⟩/\zau w 10 ⟨a,k⟩ p=true/\zbJ w ⟨a,k⟩=true:=by
 unfold zbP at h;rw[xad] at h;have hshape:zau w 10 ⟨a,k⟩ p=true:=by have:=h.2;unfold isP at this;rw[xad] at this;exact this.1
 refine⟨zhD hs (zbl h.1).1, ?_,hshape,h.1⟩;obtain⟨_,_,h3⟩:=zbl h.1;by_cases ha:a = -1
 ·exact .inl ha
 ·obtain⟨h4,h5,h6,h7⟩:=h3 ha;have:=zkf (n:=w.length) h5 (j:=k.toNat) (by omega);rwa [Int.toNat_of_nonneg h4,Int.toNat_of_nonneg h6] at this
theorem zoR {w:List Data} (hs:WSmall w){a k:Int}{p:Pat}{v:Val} (h:zbT w a k p=some v):v=zap w 10 ⟨a,k⟩ p/\isV w ⟨a,k⟩ v=true/\(zbr 10 p v).2=true/\zbP w a k p=true/\zax w (zam w) 10 ⟨a,k⟩ p=false/\zbo w 10 ⟨a,k⟩ p=false:=by
 unfold zbT at h;split at h
 ·rename_i hh;obtain⟨h1,h2,h3,h4⟩:=hh;cases h
  obtain⟨hsp,hin,hsh,_⟩:=zfI hs h1;exact⟨rfl,h4,(zfe hsp.dp 10 hsh hin h2 h3).2,h1,h2,h3⟩
 ·cases h
theorem zqK {w:List Data}{a k:Int}{p:Pat} (h:zbP w a k p=false):zbT w a k p=none:=by unfold zbT;rw[if_neg (fun hh=>by rw[h] at hh;exact absurd hh.1 (by simp))]
theorem zqL {w:List Data}{a k:Int}{p:Pat} (h:¬(zax w (zam w) 10 ⟨a,k⟩ p=false/\zbo w 10 ⟨a,k⟩ p=false)):zbT w a k p=none:=by unfold zbT;rw[if_neg (fun hh=>h ⟨hh.2.1,hh.2.2.1⟩)]
theorem zqM {w:List Data}{a k:Int}{p:Pat} (h1:zbP w a k p=true) (h2:zax w (zam w) 10 ⟨a,k⟩ p=false) (h3:zbo w 10 ⟨a,k⟩ p=false):zbT w a k p=if isV w ⟨a,k⟩ (zap w 10 ⟨a,k⟩ p)=true then some (zap w 10 ⟨a,k⟩ p) else none:=by
 unfold zbT;by_cases h:isV w ⟨a,k⟩ (zap w 10 ⟨a,k⟩ p)=true
 ·rw[if_pos ⟨h1,h2,h3,h⟩,if_pos h]
 ·rw[if_neg (fun hh=>h hh.2.2.2),if_neg h]
theorem zo2 {w:List Data} (hd:Dp w){n:Nat}{a k:Int}{p:Pat} (h:zau w (n+1) ⟨a,k⟩ p=true) (hi:InS (w.length*4) ⟨a,k⟩):∀i,i<(zah w ⟨a,k⟩ p).length->InS (w.length*4) (nth (zah w ⟨a,k⟩ p) i):=fun i hl=>by
 have hm:=zai hl;have pk:=zh2 (k:=k) h;unfold zah at hm ⊢;split
 ·rename_i h4;rw[if_pos h4] at hm;exact zbh hd hi (pk.mem h4) _ hm
 ·rename_i h4;rw[if_neg h4] at hm;split
  ·rename_i h5;rw[if_pos h5] at hm;simp only[List.mem_cons,List.not_mem_nil,or_false,or_self] at hm;rw[hm];exact hi
  ·rename_i h5;rw[if_neg h5] at hm;split
   ·rename_i h6;rw[if_pos h6] at hm;simp only[List.mem_cons,List.not_mem_nil,or_false] at hm;rw[hm];exact hi
   ·rename_i h6;rw[if_neg h6] at hm;simp at hm
theorem zk4 {w:List Data} (hs:WSmall w){a k:Int}{l:List Cl}{ps:List Pat} (hl:ClsOk l) (hm:zci w ⟨a,k⟩ l=some ps):∀x∈ps,x.ok/\x.size<=1000000000000:=fun x hx=>by
 obtain⟨h1,away,h2,h3,h4⟩:=zrj hm;obtain⟨hsp,hin⟩:=ztH hs h1;have hsh:=zj5 h1 hl;obtain⟨p1,p2⟩:=zeN l [] away (fun c hc=>(hsh c hc).1) (by simp) h2;have h5:=(zeW away _ ps (fun x hx=>zgn x (List.mem_filter.1 hx).1) (Nat.le_trans (List.length_filter_le _ _) (by simp)) p2 h3).2 x hx;have h6:=zf3 hsp 11 hin h5;have:(4:Nat) ^ 11<=1000000000000:=by decide
 exact⟨h6.1,by omega⟩
theorem zkD {w:List Data} (hs:Spa w){n:Nat} (hn:n<=10){t:Ty}{p:Pat} (h:zau w n t p=true) (ht:InS (w.length*4) t) (he:zax w (zam w) n t p=false) (hp:zbo w n t p=false):
  (zap w n t p).size<=1000000000000/\(zap w n t p).ok:=by
 have h1:=zos hs (n+10) ht (zfe hs.dp n h ht he hp).1;have h2:∀i,i<=20->szN i<=1000000000000:=by
  have:∀i:Nat,i<21->szN i<=1000000000000:=by decide
  exact fun i hi=>this i (by omega)
 have h3:=h2 (n+10) (by omega);have h4:(zap w n t p).size<=1000000000000:=by omega
 exact⟨h4,zqB _ h4⟩
theorem zqb {w:List Data} (hd:Dp w):∀s,zam w s<=100000:=zn4 hd (k:=w.length*4+1) (s:=0) (by have:=hd.four;omega) (by omega) (pre:=[]) (by simp)
theorem znX {w:List Data}{n:Nat}{t:Ty} (h:t.data = -1):zaL w (n+1) t = .mk (-1) 0 []:=by unfold zaL;rw[if_pos h]
theorem znY {w:List Data}{n:Nat}{t:Ty} (h:¬t.data = -1){c:Int} (hc:zc4 w t=c):zaL w (n+1) t = .mk c 0 ((zad w t c).map (zaL w n)):=by
 conv=>lhs;unfold zaL
 rw[if_neg h,hc]
theorem znJ {w:List Data}{t:Ty}{pre:List Int}{y:Int} (h:∀x∈pre,hitC w t x=false) (h2:¬(most w (zam w) t y:Int)=(dv (zam w) t:Int)):∀x∈pre++[y],hitC w t x=false:=fun x hx=>by
 rcases List.mem_append.1 hx with hx|hx
 ·exact h x hx
 ·rw[List.mem_singleton.1 hx];exact decide_eq_false (fun e=>h2 (by rw[e]))
theorem zlD {w:List Data} (hd:Dp w){n:Nat}{t:Ty} (h:Dq w n t) (hne:¬t.data = -1) (h1:∀x∈zaA w t,hitC w t x=false):False:=by
 obtain⟨h2,h3⟩:=zje hd h hne;have h4:=h1 _ h2;unfold hitC at h4;exact of_decide_eq_false h4 h3
theorem zlE {w:List Data}{t:Ty}{y:Int} (h2:(most w (zam w) t y:Int)=(dv (zam w) t:Int)):hitC w t y=true:=decide_eq_true (by omega)
theorem ziH {w:List Data} (hw:WT w){n:Nat}{f:Nat->Nat}{a k c:Int} (ht:TyIn w.length ⟨a,k⟩) (hc:c∈zaA w ⟨a,k⟩) (hn:n<=16) (hb:∀s,f s<=100000) (hin:∀u∈zad w ⟨a,k⟩ c,InS n u):
  FnD Tryz.prog 235 [.d (dPtr f),.d (zao w),.agg [.d (.i a),.d (.i k)],.d (.i c)] [] (.d (.i (most w f ⟨a,k⟩ c))) []:=by
 have hl:=zfj hw ht hc;have hd:=zpy hb (by omega);refine bd Tryz.f235 33 [] [] fun w0 F0 own kept hk=>?_;refine bx 3006 ?_;refine ev ?_;refine wc zdf (zbp hw ht hc) rfl rfl ?_;refine ev ?_;refine xam (ι:=List (Ty)×List (Ty)×(Nat)) hk (fun x=>[(18,.d (.i (x.1.length:Int))),(9,.d (.i (x.2.2:Int)))]) [8,11,12,19,20,21,22,23,24,25,26,27,28,29,30] (fun x=>[]) (fun x=>x.1++x.2.1=zad w ⟨a,k⟩ c/\x.2.2<=100000/\zbu f x.2.2 x.2.1=zbu f 0 (zad w ⟨a,k⟩ c)) (fun x=>x.2.1.length) ([],zad w ⟨a,k⟩ c,0) ⟨by simp,by simp,rfl⟩ ⟨⟨_,rfl,xax ?_⟩,⟨⟨_,rfl,xax ?_⟩,trivial⟩⟩ trivial (fun x=>rfl) (fun x hg1=>?_);iterate 2 focus (first|rfl|(simp;done)|omega|(dsimp only;omega)|(dsimp only;split<;>omega))
 obtain⟨pre,rest,m⟩:=x;dsimp only at hg1 ⊢;refine evc [] [] ?_;refine sq ?_ ?_<;>intro h1 h1p h1s<;>(try simp only[Q] at h1p);rcases rest with _|⟨y,rest⟩
 ·exfalso;simp_all
 have hdy:=hd y;have hye:dv f ⟨y.data,y.index⟩=dv f y:=rfl;refine xaP zaK .none rfl rfl rfl rfl (zaN hg1.1) rfl ?_;refine ev ?_;refine ab 3011 tz25 ?_;refine so ty25 ?_;refine tv ?_;refine wc zeK (zdI (f:=f) (a:=y.data) (k:=y.index) (hin y (by rw[<-hg1.1];simp)) hn) rfl rfl ?_;refine ev ?_;refine sq ?_ ?_<;>intro h2 h2p h2s<;>(try simp only[Q] at h2p);refine rq ?_;rotate_left;refine xa0 .none rfl rfl rfl ?_;refine ev ?_;refine ar ?_;refine xah ((pre++[y],rest,max m (dv f y))) ⟨⟨(by have hz:=hg1.1;rw[<-hz];simp),⟨(by have:=hd y;dsimp only;omega),(by rw[<-hg1.2.2];simp only[zbu];rw[if_neg (by have:=hd y;omega)])⟩⟩,(by simp),sx ⟨⟨_,rfl,xax ?_⟩,⟨⟨_,rfl,xax ?_⟩,trivial⟩⟩ trivial⟩;iterate 2 focus (first|rfl|(simp;done)|omega|(dsimp only;omega)|(dsimp only;split<;>omega))
 have hrest:rest=[]:=by
  rcases rest with _|⟨a,b⟩
  ·rfl
  ·exfalso;have hz:=congrArg List.length (hg1.1);simp only[xaa,xab,xac] at hz;omega
 subst hrest;refine ar ?_;refine rq ?_;rotate_left;all_goals (refine congrArg D.i ?_;unfold most;rw[<-hg1.2.2];first|(simp only[zbu];rw[if_pos (by omega)];rfl)|(simp only[zbu];omega))
theorem zfM {w:List Data} (hs:Spa w):∀(n:Nat){a k:Int},Dq w n ⟨a,k⟩->FnD Tryz.prog 253 [.d (zao w),.d (zec (w.length*4) (zam w)),.agg [.d (.i a),.d (.i k)]] [] (.agg [.d (.i (zaL w n ⟨a,k⟩).ctor),.d (.i (zaL w n ⟨a,k⟩).num),.d (za9 (zaL w n ⟨a,k⟩).kids)]) []
 |0,a,k,h=>by have:=h.pos;have:=h.le;omega
 |n+1,a,k,h=>by
  have hd:=hs.dp;have ht:=zbE h.ins;have h4:=hd.four;have hfb:=zqb hd;have hcl:=zfQ hd.wt ht;have w1:=znX (w:=w) (n:=n) (t:=⟨a,k⟩);have w2:=fun hne c hc=>znY (w:=w) (n:=n) (t:=⟨a,k⟩) hne (c:=c) hc;have hkid:=fun hne=>zhV hd h hne;have hall:=fun hne=>zlD hd h hne;have hal:=fun c hc=>hs.args ⟨a,k⟩ c h.ins hc;refine bd Tryz.f253 69 [] [] fun w0 F0 own kept hk=>?_;refine bx 3005 ?_;refine ab 3006 tz49 ?_;refine tv ?_;refine sq ?_ ?_<;>intro h1 h1p h1s<;>(try simp only[Q,Int.natCast_inj] at h1p);refine bu [0] [_] st49 ?_;refine so ty49 ?_;refine tv ?_;refine rn0 (.cons (.cellA ty49 rfl rfl rfl) .nil) (.agg (.cons (.eqd ?_) (.cons (.eqd ?_) (.cons (.nild ?_) .nil))));rotate_left 3;refine wc zfl (zcA hd.wt ht) rfl rfl ?_;refine ev ?_;refine xam (ι:=List (Int)×List (Int)) hk (fun x=>[(8,.d (.i (x.1.length:Int)))]) [9,10,11,19,20,21,22,23,24,25,26,27,28,29,30,31,32,33,34,35,36,37,38,39,40,41,42,43,44,45,46,47,48,49,50,51,52,53,54,55,56,57,58,59,60,61,62,63,64,65,66,67] (fun x=>[]) (fun x=>x.1++x.2=zaA w ⟨a,k⟩/\∀q∈x.1,hitC w ⟨a,k⟩ q=false) (fun x=>x.2.length) ([],zaA w ⟨a,k⟩) ⟨by simp,by simp⟩ ⟨⟨_,rfl,xax ?_⟩,trivial⟩ trivial (fun x=>rfl) (fun x hg1=>?_);focus (first|rfl|(simp;done)|omega)
  obtain⟨pre,rest⟩:=x;dsimp only at hg1 ⊢;refine evc [] [] ?_;refine sq ?_ ?_<;>intro h2 h2p h2s<;>(try simp only[Q,Int.natCast_inj] at h2p);rcases rest with _|⟨y,rest⟩
  ·exfalso;simp_all
  refine xaP sl29 .none rfl rfl rfl rfl (zaN hg1.1) rfl ?_;refine evd [] [] ?_;refine wc zsF (zob hd.wt ht (c:=y) (by rw[<-hg1.1];simp) (by omega) hfb (zbh hd h.ins (by rw[<-hg1.1];simp))) rfl rfl ?_;refine evd [] [] ?_;refine wc zgp (zcN h.ins (by omega)) rfl rfl ?_;refine evd [] [] ?_;refine dr ?_;refine sq ?_ ?_<;>intro h3 h3p h3s<;>(try simp only[Q,Int.natCast_inj] at h3p);refine ar ?_;refine xah ((pre++[y],rest)) ⟨⟨(by have hz:=hg1.1;rw[<-hz];simp),(znJ hg1.2 (by omega))⟩,(by simp),sx ⟨⟨_,rfl,xax ?_⟩,trivial⟩ trivial⟩;focus (first|rfl|(simp;done)|omega)
  have hcy:zc4 w ⟨a,k⟩=y:=zkq hg1.1 hg1.2 (zlE (by omega));have hal2:=hal y (by rw[<-hg1.1];simp);refine xaP sl29 .none rfl rfl rfl rfl (zaN hg1.1) rfl ?_;refine ev ?_;refine bu [0] [_] st49 ?_;refine ab 3009 tz49 ?_;refine so ty49 ?_;refine tv ?_;refine xaP sl29 .none rfl rfl rfl rfl (zaN hg1.1) rfl ?_;refine evd [] [] ?_;refine wc zdO (zbM hd.wt ht (by rw[<-hg1.1];simp)) rfl rfl ?_;refine evd [] [] ?_;refine dr ?_;refine xar 3009 2 7 3 rfl rfl rfl rfl ?_;refine xam (ι:=List (Ty)×List (Ty)) hk (fun x=>[(11,.d (.i (x.1.length:Int)))]) [49,50,51,52,53,54,55,56,57,58,59,60,61,62,63,64,65,66] (fun x=>[(3009,some (.box [.d (.i y),.d (.i 0),.gl 7 ((x.1.map (zaL w n)).map Val.cc)])),(7,some (.tok ((x.1.map (zaL w n)).map Val.cc).length 3))]) (fun x=>x.1++x.2=zad w ⟨a,k⟩ y) (fun x=>x.2.length) ([],zad w ⟨a,k⟩ y) (by simp) ⟨⟨_,rfl,xax ?_⟩,trivial⟩ ⟨?_,⟨zag ?_,trivial⟩⟩ (fun x=>rfl) (fun x hg2=>?_);focus (first|rfl|(simp;done)|omega|(simp;omega))
  focus (first|rfl|(simp[getH];done))
  focus (first|rfl|(simp;done)|omega|(simp;omega))
  obtain⟨pre2,rest2⟩:=x;dsimp only at hg2 ⊢;refine evc [] [] ?_;refine sq ?_ ?_<;>intro h4 h4p h4s<;>(try simp only[Q,Int.natCast_inj] at h4p);rcases rest2 with _|⟨z,rest2⟩
  ·exfalso;simp_all
  refine xaP zaK .none rfl rfl rfl rfl (zaN hg2) rfl ?_;refine evd [] [] ?_;refine wc zpY (zfM hs n (a:=z.data) (k:=z.index) (hkid (by omega) z (by rw[hcy,<-hg2];simp))) rfl rfl ?_;refine si [0] [_] sl47 tz49 ?_;refine ap sl47 zz49 rfl rfl rfl (by simp) (by have hz:=congrArg List.length hg2;simp at hz ⊢;omega) ?_;refine evd [] [] ?_;refine so ty47 ?_;refine dr ?_;refine ar ?_;refine xah ((pre2++[z],rest2)) ⟨(by have hz:=hg2;rw[<-hz];simp),(by simp),sx ⟨⟨_,rfl,xax ?_⟩,trivial⟩ ⟨?_,⟨zag ?_,trivial⟩⟩⟩;focus (first|rfl|(simp;done)|omega|(simp;omega))
  focus (first|rfl|(simp[getH];done))
  focus (first|rfl|(simp;done)|omega|(simp;omega))
  have hrest2:rest2=[]:=by
   rcases rest2 with _|⟨a,b⟩
   ·rfl
   ·exfalso;have hz:=congrArg List.length (hg2);simp only[xaa,xab,xac] at hz;omega
  subst hrest2;refine so ty49 ?_;refine tv ?_;refine rn0 (.cons (.cellA ty49 rfl rfl rfl) .nil) (.agg (.cons (.eqd ?_) (.cons (.eqd ?_) (.cons (.gld ?_) .nil))));rotate_left 3;have hrest:rest=[]:=by
   rcases rest with _|⟨a,b⟩
   ·rfl
   ·exfalso;have hz:=congrArg List.length (hg1.1);simp only[xaa,xab,xac] at hz;omega
  subst hrest;refine bu [] [] st49 ?_;refine so ty49 ?_;refine tv ?_;refine rn0 (.cons (.cellA ty49 rfl rfl rfl) .nil) (.agg (.cons (.eqd ?_) (.cons (.eqd ?_) (.cons (.nild ?_) .nil))));rotate_left 3;all_goals (first|(rw[w1 (by omega)];all_goals rfl)|(rw[w2 (by omega) y hcy];all_goals first|rfl|(rw[List.append_nil] at hg2;rw[<-hg2];first|rfl|(rw[Val.cs_cc];rfl)|(rw[Val.cs_cc];done)))|(exfalso;rw[List.append_nil] at hg1;exact hall (by omega) (by rw[<-hg1.1];exact hg1.2)))
theorem zfv {w:List Data} (hd:Dp w):∀(n:Nat){a k:Int}{p:Pat},zau w n ⟨a,k⟩ p=true->InS (w.length*4) ⟨a,k⟩->p.ok->
  FnD Tryz.prog 69 [.d (sPtr w (zam w)),.agg [.d (.i a),.d (.i k)],.agg [.d (.i p.op),.d (.i p.ctor),.d (.i p.n),.d (.i p.m),.d (.i p.var),.d (zaj p.kids)]] [] (.d (.bool (zbo w n ⟨a,k⟩ p))) []
 |0,a,k,p,h,_,_=>by simp[zau] at h
 |n+1,a,k,p,h,hi,hok=>by
  rw[Pat.ok_iff] at hok;have hw4:=hd.four;have ht:=zbE hi;have pk:=zh2 (k:=k) h;obtain⟨ho,hlen⟩:=zbg h;have hkid:=fun i (hi:i<p.kids.length)=>zbj h hi;have hsT:zcu w ⟨a,k⟩ p=zah w ⟨a,k⟩ p:=by
   unfold zcu;rw[if_neg (fun h=>h.2 (pk.mem h.1))]
  have hkt:=zhr hd.wt (p:=p) ht;rw[hsT] at hkt;have hins:=zo2 hd h hi;have htl:(zah w ⟨a,k⟩ p).length<=1000000000000:=by have:=hok.1;omega
  have hops:=pk.ops;refine bd Tryz.f69 46 [] [] fun w0 F0 own kept hk=>?_;refine bx 3004 ?_;refine bx 3005 ?_;refine ev ?_;refine sq ?_ ?_<;>intro h1 h1p h1s<;>(try simp only[Q,Pat.cs_len] at h1p);refine sqT ?_;refine wc zeK (zdI (n:=w.length*4) hi (by omega)) rfl rfl ?_;refine evd [] [] ?_;refine dr ?_;refine rq ?_;rotate_left;refine sq ?_ ?_<;>intro h3 h3p h3s<;>(try simp only[Q,Pat.cs_len] at h3p);refine wc zeK (zdI (n:=w.length*4) hi (by omega)) rfl rfl ?_;refine evd [] [] ?_;refine dr ?_;refine rq ?_;rotate_left;refine wc zpO (hkt) rfl rfl ?_;refine evd [] [] ?_;refine dr ?_;refine xam (ι:=Nat) hk (fun i=>[(32,.d (.i (i:Int)))]) [6,7,8,33,34,35,36,37,38,39,40,41,42,43,44,45] (fun i=>[]) (fun i=>i<=(zah w ⟨a,k⟩ p).length/\∀i',i'<i->zbo w n (nth (zah w ⟨a,k⟩ p) i') (nth p.kids i')=false) (fun i=>(zah w ⟨a,k⟩ p).length-i) 0 ⟨by omega,fun _ h=>absurd h (by omega)⟩ ⟨⟨_,rfl,xax ?_⟩,trivial⟩ trivial (fun x=>rfl) (fun i hg1=>?_);focus (first|rfl|(simp;done)|(simp_all;done)|omega)
  refine evc [] [] ?_;refine sq ?_ ?_<;>intro h4 h4p h4s<;>(try simp only[Q,Pat.cs_len] at h4p);refine xaP zaK .none rfl rfl rfl rfl (zaz (by omega)) rfl ?_;refine ev ?_;refine ab 3008 tz25 ?_;refine ev ?_;refine so ty25 ?_;refine tv ?_;refine xaP sl34 .none rfl rfl rfl rfl (zas (by omega)) rfl ?_;refine evd [] [] ?_;refine wc zpt (zfv hd n (hkid i (by omega)) (hins i (by omega)) (Pats.ok_mem hok.2 _ (zai (by omega)))) rfl rfl ?_;refine dr ?_;refine sq ?_ ?_<;>intro h5 h5p h5s<;>(try simp only[Q,Pat.cs_len] at h5p);refine rq ?_;rotate_left;refine ar ?_;refine xah (i+1) ⟨⟨by omega,zaM hg1.2 (by assumption)⟩,(by omega),sx ⟨⟨_,rfl,xax ?_⟩,trivial⟩ trivial⟩;focus (first|rfl|(simp;done)|(simp_all;done)|omega)
  refine rq ?_;rotate_left;all_goals (refine congrArg D.bool ?_;rw[zgW];first|(rw[if_pos (by omega)];exact decide_eq_decide.2 (by omega))|(rw[if_neg (by omega)];first|(rw[zbm (i:=i) (by omega) (by omega) (by show(!_)=false;rw[Bool.not_eq_false'];assumption)];rfl)|(rw[zbn (by omega) (fun x hx=>by have:=hg1.2 x (by omega);simp_all)];rfl)))
theorem zjM {w:List Data} (hd:Dp w):∀(n:Nat){a k:Int}{p:Pat},zau w n ⟨a,k⟩ p=true->InS (w.length*4) ⟨a,k⟩->p.ok->
  FnD Tryz.prog 159 [.d (zao w),.d (zec (w.length*4) (zam w)),.agg [.d (.i a),.d (.i k)],.agg [.d (.i p.op),.d (.i p.ctor),.d (.i p.n),.d (.i p.m),.d (.i p.var),.d (zaj p.kids)]] [] (.d (.bool (!zbo w n ⟨a,k⟩ p))) []
 |0,a,k,p,h,_,_=>by simp[zau] at h
 |n+1,a,k,p,h,hi,hok=>by
  rw[Pat.ok_iff] at hok;have hw4:=hd.four;have ht:=zbE hi;have pk:=zh2 (k:=k) h;obtain⟨ho,hlen⟩:=zbg h;have hkid:=fun i (hi:i<p.kids.length)=>zbj h hi;have hkt:=zcO hd.wt (p:=p) ht pk.mem;have hins:=zo2 hd h hi;have htl:(zah w ⟨a,k⟩ p).length<=1000000000000:=by have:=hok.1;omega
  have hops:=pk.ops;refine bd Tryz.f159 46 [] [] fun w0 F0 own kept hk=>?_;refine bx 3006 ?_;refine bx 3007 ?_;refine ev ?_;refine sq ?_ ?_<;>intro h1 h1p h1s<;>(try simp only[Q,Pat.cs_len] at h1p);refine sqT ?_;refine wc zgp (zcN hi (by omega)) rfl rfl ?_;refine ev ?_;refine rq ?_;rotate_left;refine sq ?_ ?_<;>intro h3 h3p h3s<;>(try simp only[Q,Pat.cs_len] at h3p);refine wc zgp (zcN hi (by omega)) rfl rfl ?_;refine ev ?_;refine rq ?_;rotate_left;refine wc ziw (hkt) rfl rfl ?_;refine ev ?_;refine xam (ι:=Nat) hk (fun i=>[(10,.d (.i (i:Int)))]) [8,27,28,29,30,31,32,33,34,35,36,37,38,39,40,41,42,43,44,45] (fun i=>[]) (fun i=>i<=(zah w ⟨a,k⟩ p).length/\∀i',i'<i->zbo w n (nth (zah w ⟨a,k⟩ p) i') (nth p.kids i')=false) (fun i=>(zah w ⟨a,k⟩ p).length-i) 0 ⟨by omega,fun _ h=>absurd h (by omega)⟩ ⟨⟨_,rfl,xax ?_⟩,trivial⟩ trivial (fun x=>rfl) (fun i hg1=>?_);focus (first|rfl|(simp;done)|(simp_all;done)|omega)
  refine evc [] [] ?_;refine sq ?_ ?_<;>intro h4 h4p h4s<;>(try simp only[Q,Pat.cs_len] at h4p);refine xaP zaK .none rfl rfl rfl rfl (zaz (by omega)) rfl ?_;refine evd [] [] ?_;refine xaP sl34 .none rfl rfl rfl rfl (zas (by omega)) rfl ?_;refine evd [] [] ?_;refine wc zpR (zjM hd n (hkid i (by omega)) (hins i (by omega)) (Pats.ok_mem hok.2 _ (zai (by omega)))) rfl rfl ?_;refine evd [] [] ?_;refine dr ?_;refine sq ?_ ?_<;>intro h5 h5p h5s<;>(try simp only[Q,Pat.cs_len] at h5p);refine rq ?_;rotate_left;refine ar ?_;refine xah (i+1) ⟨⟨by omega,zaM hg1.2 (by have hq:=h5;rw[Bool.not_not] at hq;exact hq)⟩,(by omega),sx ⟨⟨_,rfl,xax ?_⟩,trivial⟩ trivial⟩;focus (first|rfl|(simp;done)|(simp_all;done)|omega)
  refine rq ?_;rotate_left;all_goals (refine congrArg D.bool ?_;rw[zgW];first|(rw[if_pos (by omega),Bool.eq_iff_iff];simp;omega)|(rw[if_neg (by omega)];first|(rw[zbm (i:=i) (by omega) (by omega) (by rw[Bool.not_eq_false'];have hq:=h5;rw[Bool.not_not] at hq;exact hq)];rfl)|(rw[zbn (by omega) (fun x hx=>by have:=hg1.2 x (by omega);simp_all)];rfl)))
theorem zb1 {w:List Data} (hs:Spa w):∀(n:Nat){a k:Int}{p:Pat},n<=10->zau w n ⟨a,k⟩ p=true->InS (w.length*4) ⟨a,k⟩->p.ok->zax w (zam w) n ⟨a,k⟩ p=false->zbo w n ⟨a,k⟩ p=false->
  FnD Tryz.prog 160 [.d (zao w),.d (zec (w.length*4) (zam w)),.agg [.d (.i a),.d (.i k)],.agg [.d (.i p.op),.d (.i p.ctor),.d (.i p.n),.d (.i p.m),.d (.i p.var),.d (zaj p.kids)]] [] (.agg [.d (.i (zap w n ⟨a,k⟩ p).ctor),.d (.i (zap w n ⟨a,k⟩ p).num),.d (za9 (zap w n ⟨a,k⟩ p).kids)]) []
 |0,a,k,p,_,h,_,_,_,_=>by simp[zau] at h
 |n+1,a,k,p,hn,h,hi,hok,he,hdp=>by
  rw[Pat.ok_iff] at hok;have hd:=hs.dp;have hw4:=hd.four;have ht:=zbE hi;have pk:=zh2 (k:=k) h;obtain⟨ho,hlen⟩:=zbg h;have hkid:=fun i (hi:i<p.kids.length)=>zbj h hi;have hk1:=pk.one;have hk2:=pk.two;have l5:=pk.len5;have hops:=pk.ops;have hl6:p.op=6->p.kids.length=1:=fun h6=>(zcq h h6).1;have hdq:p.op=1\/p.op=2->Dq w 10 ⟨a,k⟩:=fun h1=>by
   have h8:=zj8 h1 hdp;rw[za6,if_pos h1] at he;have:=of_decide_eq_false he;exact⟨hi,by omega,h8⟩
  by_cases h4:p.op=4
  ·have c1:=pk.mem h4;have hdk:=zcp (by omega) hdp hlen.symm;rw[zbe h4] at hlen hkid hdk;rw[za6,if_neg (by omega),if_neg (by omega),zbe h4] at he;have ha:all2 (fun u q=> !zax w (zam w) n u q) (zad w ⟨a,k⟩ p.ctor) p.kids=true:=by simpa using he
   have hek:=fun i (hi2:i<p.kids.length)=>(by have:=zd6 hlen.symm ha i (by omega);simpa using this:zax w (zam w) n (nth (zad w ⟨a,k⟩ p.ctor) i) (nth p.kids i)=false);have ih:=fun i (hi2:i<p.kids.length)=>zb1 hs n (a:=(nth (zad w ⟨a,k⟩ p.ctor) i).data) (k:=(nth (zad w ⟨a,k⟩ p.ctor) i).index) (p:=nth p.kids i) (by omega) (hkid i hi2) (zbh hd hi c1 _ (zai (by omega))) (Pats.ok_mem hok.2 _ (zai hi2)) (hek i hi2) (hdk i hi2);have hal:=hs.args ⟨a,k⟩ p.ctor hi c1;have hzl:=ze4 (f:=zap w n) hlen.symm;have hzt:=fun i (hi2:i<(zad w ⟨a,k⟩ p.ctor).length)=>zkR (f:=zap w n) hlen.symm hi2;have hsv:=zjl (w:=w) (n:=n) (t:=⟨a,k⟩) h4;generalize hZ:zipV (zap w n) (zad w ⟨a,k⟩ p.ctor) p.kids=Z at *;refine bd Tryz.f160 94 [] [] fun w0 F0 own kept hk=>?_;refine bx 3006 ?_;refine bx 3007 ?_;refine ab 3008 tz49 ?_;refine tv ?_;refine sq ?_ ?_<;>intro h1 h1p h1s<;>(try simp only[Q,Pat.cs_len] at h1p);refine sq ?_ ?_<;>intro h2 h2p h2s<;>(try simp only[Q,Pat.cs_len] at h2p);exfalso;omega;refine sq ?_ ?_<;>intro h3 h3p h3s<;>(try simp only[Q,Pat.cs_len] at h3p);exfalso;omega;refine sq ?_ ?_<;>intro h4 h4p h4s<;>(try simp only[Q,Pat.cs_len] at h4p);exfalso;omega;refine sq ?_ ?_<;>intro h5 h5p h5s<;>(try simp only[Q,Pat.cs_len] at h5p);exfalso;omega;refine bu [0] [_] st49 ?_;refine ab 3009 tz49 ?_;refine so ty49 ?_;refine tv ?_;refine wc zdO (zbM hd.wt ht c1) rfl rfl ?_;refine ev ?_;refine xar 3009 2 7 3 rfl rfl rfl rfl ?_;refine xam (ι:=Nat) hk (fun i=>[(11,.d (.i (i:Int)))]) [70,71,72,73,74,75,76,77,78,79,80,81,82,83,84,85,86,87,88,89,90,91,92] (fun i=>[(3009,some (.box [.d (.i p.ctor),.d (.i 0),.gl 7 ((Z.take i).map Val.cc)])),(7,some (.tok ((Z.take i).map Val.cc).length 3))]) (fun i=>i<=(zad w ⟨a,k⟩ p.ctor).length) (fun i=>(zad w ⟨a,k⟩ p.ctor).length-i) 0 (by omega) ⟨⟨_,rfl,xax ?_⟩,trivial⟩ ⟨?_,⟨zag ?_,trivial⟩⟩ (fun x=>rfl) (fun i hg1=>?_);focus (first|rfl|(simp;done)|omega|(rw[hzt i (by omega)];simp;done)|(simp;omega))
   focus (first|rfl|(simp[getH];done)|(rw[hzt i (by omega)];simp[getH];done))
   focus (first|rfl|(simp;done)|omega|(rw[hzt i (by omega)];simp;done)|(simp;omega))
   refine evc [] [] ?_;refine sq ?_ ?_<;>intro h6 h6p h6s<;>(try simp only[Q,Pat.cs_len] at h6p);refine xaP zaK .none rfl rfl rfl rfl (zaz (by omega)) rfl ?_;refine evd [] [] ?_;refine xaP sl34 .none rfl rfl rfl rfl (zas (by omega)) rfl ?_;refine evd [] [] ?_;refine wc zfk (ih i (by omega)) rfl rfl ?_;refine si [0] [_] sl47 tz49 ?_;refine ap sl47 zz49 rfl rfl rfl (by simp) (by simp;omega) ?_;refine evd [] [] ?_;refine so ty47 ?_;refine dr ?_;refine ar ?_;refine xah (i+1) ⟨(by omega),(by omega),sx ⟨⟨_,rfl,xax ?_⟩,trivial⟩ ⟨?_,⟨zag ?_,trivial⟩⟩⟩;focus (first|rfl|(simp;done)|omega|(rw[hzt i (by omega)];simp;done)|(simp;omega))
   focus (first|rfl|(simp[getH];done)|(rw[hzt i (by omega)];simp[getH];done))
   focus (first|rfl|(simp;done)|omega|(rw[hzt i (by omega)];simp;done)|(simp;omega))
   refine so ty49 ?_;refine tv ?_;refine rn0 (.cons (.cellA ty49 rfl rfl rfl) .nil) (.agg (.cons (.eqd ?_) (.cons (.eqd ?_) (.cons (.gld ?_) .nil))));rotate_left 3;refine sq ?_ ?_<;>intro h7 h7p h7s<;>(try simp only[Q,Pat.cs_len] at h7p);exfalso;omega;refine sq ?_ ?_<;>intro h8 h8p h8s<;>(try simp only[Q,Pat.cs_len] at h8p);exfalso;omega;refine sq ?_ ?_<;>intro h9 h9p h9s<;>(try simp only[Q,Pat.cs_len] at h9p);exfalso;omega;refine sq ?_ ?_<;>intro h10 h10p h10s<;>(try simp only[Q,Pat.cs_len] at h10p);exfalso;omega;refine bu [0] [_] st49 ?_;refine ab 3009 tz49 ?_;refine so ty49 ?_;refine tv ?_;refine wc zdO (zbM hd.wt ht c1) rfl rfl ?_;refine ev ?_;refine xar 3009 2 7 3 rfl rfl rfl rfl ?_;refine xam (ι:=Nat) hk (fun i=>[(11,.d (.i (i:Int)))]) [70,71,72,73,74,75,76,77,78,79,80,81,82,83,84,85,86,87,88,89,90,91,92] (fun i=>[(3009,some (.box [.d (.i p.ctor),.d (.i 0),.gl 7 ((Z.take i).map Val.cc)])),(7,some (.tok ((Z.take i).map Val.cc).length 3))]) (fun i=>i<=(zad w ⟨a,k⟩ p.ctor).length) (fun i=>(zad w ⟨a,k⟩ p.ctor).length-i) 0 (by omega) ⟨⟨_,rfl,xax ?_⟩,trivial⟩ ⟨?_,⟨zag ?_,trivial⟩⟩ (fun x=>rfl) (fun i hg1=>?_);focus (first|rfl|(simp;done)|omega|(rw[hzt i (by omega)];simp;done)|(simp;omega))
   focus (first|rfl|(simp[getH];done)|(rw[hzt i (by omega)];simp[getH];done))
   focus (first|rfl|(simp;done)|omega|(rw[hzt i (by omega)];simp;done)|(simp;omega))
   refine evc [] [] ?_;refine sq ?_ ?_<;>intro h11 h11p h11s<;>(try simp only[Q,Pat.cs_len] at h11p);refine xaP zaK .none rfl rfl rfl rfl (zaz (by omega)) rfl ?_;refine evd [] [] ?_;refine xaP sl34 .none rfl rfl rfl rfl (zas (by omega)) rfl ?_;refine evd [] [] ?_;refine wc zfk (ih i (by omega)) rfl rfl ?_;refine si [0] [_] sl47 tz49 ?_;refine ap sl47 zz49 rfl rfl rfl (by simp) (by simp;omega) ?_;refine evd [] [] ?_;refine so ty47 ?_;refine dr ?_;refine ar ?_;refine xah (i+1) ⟨(by omega),(by omega),sx ⟨⟨_,rfl,xax ?_⟩,trivial⟩ ⟨?_,⟨zag ?_,trivial⟩⟩⟩;focus (first|rfl|(simp;done)|omega|(rw[hzt i (by omega)];simp;done)|(simp;omega))
   focus (first|rfl|(simp[getH];done)|(rw[hzt i (by omega)];simp[getH];done))
   focus (first|rfl|(simp;done)|omega|(rw[hzt i (by omega)];simp;done)|(simp;omega))
   refine so ty49 ?_;refine tv ?_;refine rn0 (.cons (.cellA ty49 rfl rfl rfl) .nil) (.agg (.cons (.eqd ?_) (.cons (.eqd ?_) (.cons (.gld ?_) .nil))));rotate_left 3;all_goals (rw[hsv];all_goals first|rfl|(rw[Val.cs_cc,List.take_of_length_le (by omega)];done)|(rw[Val.cs_cc,List.take_of_length_le (by omega)];rfl))
  ·have h3v:=zjk (w:=w) (n:=n) (t:=⟨a,k⟩) (p:=p);have h1v:=zhx (w:=w) (n:=n) (t:=⟨a,k⟩) (p:=p);have h6v:=zjm (w:=w) (n:=n) (t:=⟨a,k⟩) (p:=p);have h5a:=zh6 (w:=w) (n:=n) (t:=⟨a,k⟩) (p:=p);have h5b:=zh7 (w:=w) (n:=n) (t:=⟨a,k⟩) (p:=p);have hT6:p.op=6->zax w (zam w) n ⟨a,k⟩ (nth p.kids 0)=false:=fun h6=>by rw[<-zhk h6 (zcq h h6).1];exact he
   have hT5:p.op=5->zax w (zam w) n ⟨a,k⟩ (nth p.kids 0)=true->zax w (zam w) n ⟨a,k⟩ (nth p.kids 1)=false:=fun h5 e0=>by
    rw[za6,if_neg (by omega),if_pos h5,e0,Bool.true_and] at he;exact he
   have hD5:p.op=5->zbo w n ⟨a,k⟩ (nth p.kids 0)=false/\zbo w n ⟨a,k⟩ (nth p.kids 1)=false:=fun h5=>by
    have e5:zah w ⟨a,k⟩ p=[⟨a,k⟩,⟨a,k⟩]:=by unfold zah;rw[if_neg (by omega),if_pos h5]
    have hdk:=zcp (by omega) hdp hlen.symm;rw[e5] at hdk;have:=l5 h5;exact⟨hdk 0 (by omega),hdk 1 (by omega)⟩
   have hD6:p.op=6->zbo w n ⟨a,k⟩ (nth p.kids 0)=false:=fun h6=>by
    have e6:zah w ⟨a,k⟩ p=[⟨a,k⟩]:=by unfold zah;rw[if_neg (by omega),if_neg (by omega),if_pos (by omega)]
    have hdk:=zcp (by omega) hdp hlen.symm;rw[e6] at hdk;exact hdk 0 (by rw[hl6 h6];omega)
   refine bd Tryz.f160 94 [] [] fun w0 F0 own kept hk=>?_;refine bx 3006 ?_;refine bx 3007 ?_;refine ab 3008 tz49 ?_;refine tv ?_;refine sq ?_ ?_<;>intro h1 h1p h1s<;>(try simp only[Q,Pat.cs_len] at h1p);refine sq ?_ ?_<;>intro h2 h2p h2s<;>(try simp only[Q,Pat.cs_len] at h2p);refine wc zpY (zfM hs 10 (hdq (by omega))) rfl rfl ?_;refine so ty49 ?_;refine tv ?_;refine rn0 (.cons (.cellA ty49 rfl rfl rfl) .nil) (.agg (.cons (.eqd ?_) (.cons (.eqd ?_) (.cons (.eqd ?_) .nil))));rotate_left 3;refine sq ?_ ?_<;>intro h3 h3p h3s<;>(try simp only[Q,Pat.cs_len] at h3p);refine bu [0,1] [_,_] st49 ?_;refine so ty49 ?_;refine tv ?_;refine rn0 (.cons (.cellA ty49 rfl rfl rfl) .nil) (.agg (.cons (.eqd ?_) (.cons (.eqd ?_) (.cons (.nild ?_) .nil))));rotate_left 3;refine sq ?_ ?_<;>intro h4 h4p h4s<;>(try simp only[Q,Pat.cs_len] at h4p);refine xaP (i:=0) sl34 .none rfl rfl rfl rfl (zas (by first|(have:=l5 (by omega);omega)|(have:=hl6 (by omega);omega))) rfl ?_;refine evd [] [] ?_;refine wc zfk (zb1 hs n (by omega) (hk1 (by omega)) hi (Pats.ok_mem hok.2 _ (zai (i:=0) (by have:=hl6 (by omega);omega))) (hT6 (by omega)) (hD6 (by omega))) rfl rfl ?_;refine so ty49 ?_;refine dr ?_;refine rn0 (.cons (.cellA ty49 rfl rfl rfl) .nil) (.agg (.cons (.eqd ?_) (.cons (.eqd ?_) (.cons (.eqd ?_) .nil))));rotate_left 3;refine sq ?_ ?_<;>intro h5 h5p h5s<;>(try simp only[Q,Pat.cs_len] at h5p);refine xaP (i:=0) sl34 .none rfl rfl rfl rfl (zas (by first|(have:=l5 (by omega);omega)|(have:=hl6 (by omega);omega))) rfl ?_;refine evd [] [] ?_;refine wc zd9 (zbO hs n (hk1 (by omega)) hi (Pats.ok_mem hok.2 _ (zai (i:=0) (by omega)))) rfl rfl ?_;refine dr ?_;refine sq ?_ ?_<;>intro h6 h6p h6s<;>(try simp only[Q,Pat.cs_len] at h6p);refine xaP (i:=0) sl34 .none rfl rfl rfl rfl (zas (by first|(have:=l5 (by omega);omega)|(have:=hl6 (by omega);omega))) rfl ?_;refine evd [] [] ?_;refine wc zfk (zb1 hs n (by omega) (hk1 (by omega)) hi (Pats.ok_mem hok.2 _ (zai (i:=0) (by have:=l5 (by omega);omega))) (by simp_all) (hD5 (by omega)).1) rfl rfl ?_;refine so ty49 ?_;refine dr ?_;refine rn0 (.cons (.cellA ty49 rfl rfl rfl) .nil) (.agg (.cons (.eqd ?_) (.cons (.eqd ?_) (.cons (.eqd ?_) .nil))));rotate_left 3;refine xaP (i:=1) sl34 .none rfl rfl rfl rfl (zas (by first|(have:=l5 (by omega);omega)|(have:=hl6 (by omega);omega))) rfl ?_;refine evd [] [] ?_;refine wc zfk (zb1 hs n (by omega) (hk2 (by omega)) hi (Pats.ok_mem hok.2 _ (zai (i:=1) (by have:=l5 (by omega);omega))) (hT5 (by omega) (by simp_all)) (hD5 (by omega)).2) rfl rfl ?_;refine so ty49 ?_;refine dr ?_;refine rn0 (.cons (.cellA ty49 rfl rfl rfl) .nil) (.agg (.cons (.eqd ?_) (.cons (.eqd ?_) (.cons (.eqd ?_) .nil))));rotate_left 3;exfalso;omega;refine sq ?_ ?_<;>intro h7 h7p h7s<;>(try simp only[Q,Pat.cs_len] at h7p);refine wc zpY (zfM hs 10 (hdq (by omega))) rfl rfl ?_;refine so ty49 ?_;refine tv ?_;refine rn0 (.cons (.cellA ty49 rfl rfl rfl) .nil) (.agg (.cons (.eqd ?_) (.cons (.eqd ?_) (.cons (.eqd ?_) .nil))));rotate_left 3;refine sq ?_ ?_<;>intro h8 h8p h8s<;>(try simp only[Q,Pat.cs_len] at h8p);refine bu [0,1] [_,_] st49 ?_;refine so ty49 ?_;refine tv ?_;refine rn0 (.cons (.cellA ty49 rfl rfl rfl) .nil) (.agg (.cons (.eqd ?_) (.cons (.eqd ?_) (.cons (.nild ?_) .nil))));rotate_left 3;refine sq ?_ ?_<;>intro h9 h9p h9s<;>(try simp only[Q,Pat.cs_len] at h9p);refine xaP (i:=0) sl34 .none rfl rfl rfl rfl (zas (by first|(have:=l5 (by omega);omega)|(have:=hl6 (by omega);omega))) rfl ?_;refine evd [] [] ?_;refine wc zfk (zb1 hs n (by omega) (hk1 (by omega)) hi (Pats.ok_mem hok.2 _ (zai (i:=0) (by have:=hl6 (by omega);omega))) (hT6 (by omega)) (hD6 (by omega))) rfl rfl ?_;refine so ty49 ?_;refine dr ?_;refine rn0 (.cons (.cellA ty49 rfl rfl rfl) .nil) (.agg (.cons (.eqd ?_) (.cons (.eqd ?_) (.cons (.eqd ?_) .nil))));rotate_left 3;refine sq ?_ ?_<;>intro h10 h10p h10s<;>(try simp only[Q,Pat.cs_len] at h10p);refine xaP (i:=0) sl34 .none rfl rfl rfl rfl (zas (by first|(have:=l5 (by omega);omega)|(have:=hl6 (by omega);omega))) rfl ?_;refine evd [] [] ?_;refine wc zd9 (zbO hs n (hk1 (by omega)) hi (Pats.ok_mem hok.2 _ (zai (i:=0) (by omega)))) rfl rfl ?_;refine dr ?_;refine sq ?_ ?_<;>intro h11 h11p h11s<;>(try simp only[Q,Pat.cs_len] at h11p);refine xaP (i:=0) sl34 .none rfl rfl rfl rfl (zas (by first|(have:=l5 (by omega);omega)|(have:=hl6 (by omega);omega))) rfl ?_;refine evd [] [] ?_;refine wc zfk (zb1 hs n (by omega) (hk1 (by omega)) hi (Pats.ok_mem hok.2 _ (zai (i:=0) (by have:=l5 (by omega);omega))) (by simp_all) (hD5 (by omega)).1) rfl rfl ?_;refine so ty49 ?_;refine dr ?_;refine rn0 (.cons (.cellA ty49 rfl rfl rfl) .nil) (.agg (.cons (.eqd ?_) (.cons (.eqd ?_) (.cons (.eqd ?_) .nil))));rotate_left 3;refine xaP (i:=1) sl34 .none rfl rfl rfl rfl (zas (by first|(have:=l5 (by omega);omega)|(have:=hl6 (by omega);omega))) rfl ?_;refine evd [] [] ?_;refine wc zfk (zb1 hs n (by omega) (hk2 (by omega)) hi (Pats.ok_mem hok.2 _ (zai (i:=1) (by have:=l5 (by omega);omega))) (hT5 (by omega) (by simp_all)) (hD5 (by omega)).2) rfl rfl ?_;refine so ty49 ?_;refine dr ?_;refine rn0 (.cons (.cellA ty49 rfl rfl rfl) .nil) (.agg (.cons (.eqd ?_) (.cons (.eqd ?_) (.cons (.eqd ?_) .nil))));rotate_left 3;exfalso;omega;all_goals (first|(rw[h3v (by omega)];all_goals rfl)|(rw[h1v (by omega)];all_goals rfl)|(rw[h6v (by omega)];all_goals rfl)|(rw[h5a (by omega) (by simp_all)];all_goals rfl)|(rw[h5b (by omega) (by simp_all)];all_goals rfl))
theorem ziF {w:List Data} (hs:WSmall w){a k:Int}{p:Pat} (hok:p.ok) (hsa0:zbP w a k p=true->zax w (zam w) 10 ⟨a,k⟩ p=false->zbo w 10 ⟨a,k⟩ p=false->FnD Tryz.prog 70 [.d (sPtr w (zam w)),.agg [.d (.i a),.d (.i k)],.agg [.d (.i p.op),.d (.i p.ctor),.d (.i p.n),.d (.i p.m),.d (.i p.var),.d (zaj p.kids)]] [] (.agg [.d (.i (zap w 10 ⟨a,k⟩ p).ctor),.d (.i (zap w 10 ⟨a,k⟩ p).num),.d (za9 (zap w 10 ⟨a,k⟩ p).kids)]) []):
  FnD Tryz.prog 20 [.d (zao w),.agg [.d (.i a),.d (.i k)],.agg [.d (.i p.op),.d (.i p.ctor),.d (.i p.n),.d (.i p.m),.d (.i p.var),.d (zaj p.kids)]] [] (.tup [.agg [.d (.i (optV (zbT w a k p)).ctor),.d (.i (optV (zbT w a k p)).num),.d (za9 (optV (zbT w a k p)).kids)],.d (.bool (zbT w a k p).isSome)]) []:=by
 have hpv:=zft hs (a:=a) (k:=k) hok;have hsf:=zfI hs (a:=a) (k:=k) (p:=p);cases q1:zbP w a k p with
 |false=>
  rw[zqK q1];rw[q1] at hpv;refine bd Tryz.f20 40 [] [] fun w0 F0 own kept hk=>?_;refine bx 3004 ?_;refine bx 3005 ?_;refine ab 3006 tz49 ?_;refine ev ?_;refine wc zpr (hpv) rfl rfl ?_;refine ev ?_;refine sq ?_ ?_<;>intro h1 h1p h1s<;>(try simp only[Q] at h1p);refine bu [] [] st49 ?_;refine so ty49 ?_;refine ev ?_;refine rn0 (.cons (.cellA ty49 rfl rfl rfl) (.cons (.tmp rfl) .nil)) (.tup (.cons (.agg (.cons (.eqd ?_) (.cons (.eqd ?_) (.cons (.nild ?_) .nil)))) (.cons (.eqd ?_) .nil)));rotate_left 4;exfalso;simp at *;all_goals (rfl)
 |true=>
  obtain⟨hsp,hin,hsh,htv⟩:=hsf q1;rw[q1] at hpv;have hn:=zeG hsp.dp;have hem:=zbz hsp.dp (f:=zam w) 10 hsh hin hok;have hde:=zfv hsp.dp 10 hsh hin hok;by_cases q2:zax w (zam w) 10 ⟨a,k⟩ p=false/\zbo w 10 ⟨a,k⟩ p=false
  ·obtain⟨q3,q4⟩:=q2;have hsa:=hsa0 q1 q3 q4;obtain⟨z1,z2⟩:=zkD hsp (Nat.le_refl _) hsh hin q3 q4;have hvo:=zhP (v:=zap w 10 ⟨a,k⟩ p) (zeo hs (zbl htv).1) (zbl htv).2.1 z2;rw[zqM q1 q3 q4];rw[q3] at hem;rw[q4] at hde;generalize zap w 10 ⟨a,k⟩ p=v at *;generalize isV w ⟨a,k⟩ v=b at *;refine bd Tryz.f20 40 [] [] fun w0 F0 own kept hk=>?_;refine bx 3004 ?_;refine bx 3005 ?_;refine ab 3006 tz49 ?_;refine ev ?_;refine wc zpr (hpv) rfl rfl ?_;refine ev ?_;refine sq ?_ ?_<;>intro h1 h1p h1s<;>(try simp only[Q] at h1p);exfalso;simp at *;refine wc zps (hn) rfl rfl ?_;refine ev ?_;refine wc zdW (hem) rfl rfl ?_;refine ev ?_;refine sq ?_ ?_<;>intro h2 h2p h2s<;>(try simp only[Q] at h2p);refine sqT ?_;exfalso;simp at *;refine Walk.call (cr:=[]) zpt (hde) rfl (.some rfl rfl h2) rfl rfl (LeL.refl _) trivial rfl rfl rfl ?_;refine evs [] [(22,false)] ?_ ⟨⟨_,rfl,h2⟩,trivial⟩;refine sq ?_ ?_<;>intro h4 h4p h4s<;>(try simp only[Q] at h4p);exfalso;simp at *;refine wc zc7 (hsa) rfl rfl ?_;refine ab 3009 tz49 ?_;refine so ty49 ?_;refine tv ?_;refine wc zun (hvo) rfl rfl ?_;refine ev ?_;refine sq ?_ ?_<;>intro h5 h5p h5s<;>(try simp only[Q] at h5p);refine bu [] [] st49 ?_;refine so ty49 ?_;refine ev ?_;refine rn0 (.cons (.cellA ty49 rfl rfl rfl) (.cons (.tmp rfl) .nil)) (.tup (.cons (.agg (.cons (.eqd ?_) (.cons (.eqd ?_) (.cons (.nild ?_) .nil)))) (.cons (.eqd ?_) .nil)));rotate_left 4;refine so ty49 ?_;refine ev ?_;refine rn0 (.cons (.cellA ty49 rfl rfl rfl) (.cons (.tmp rfl) .nil)) (.tup (.cons (.agg (.cons (.eqd ?_) (.cons (.eqd ?_) (.cons (.eqd ?_) .nil)))) (.cons (.eqd ?_) .nil)));rotate_left 4;all_goals (cases b<;>first|rfl|(exfalso;simp at *;done))
  ·rw[zqL q2];generalize zax w (zam w) 10 ⟨a,k⟩ p=x at *;generalize zbo w 10 ⟨a,k⟩ p=y at *;refine bd Tryz.f20 40 [] [] fun w0 F0 own kept hk=>?_;refine bx 3004 ?_;refine bx 3005 ?_;refine ab 3006 tz49 ?_;refine ev ?_;refine wc zpr (hpv) rfl rfl ?_;refine ev ?_;refine sq ?_ ?_<;>intro h1 h1p h1s<;>(try simp only[Q] at h1p);exfalso;simp at *;refine wc zps (hn) rfl rfl ?_;refine ev ?_;refine wc zdW (hem) rfl rfl ?_;refine ev ?_;refine sq ?_ ?_<;>intro h2 h2p h2s<;>(try simp only[Q] at h2p);refine sqT ?_;refine bu [] [] st49 ?_;refine so ty49 ?_;refine ev ?_;refine rn0 (.cons (.cellA ty49 rfl rfl rfl) (.cons (.tmp rfl) .nil)) (.tup (.cons (.agg (.cons (.eqd ?_) (.cons (.eqd ?_) (.cons (.nild ?_) .nil)))) (.cons (.eqd ?_) .nil)));rotate_left 4;refine Walk.call (cr:=[]) zpt (hde) rfl (.some rfl rfl h2) rfl rfl (LeL.refl _) trivial rfl rfl rfl ?_;refine evs [] [(22,false)] ?_ ⟨⟨_,rfl,h2⟩,trivial⟩;refine sq ?_ ?_<;>intro h4 h4p h4s<;>(try simp only[Q] at h4p);refine bu [] [] st49 ?_;refine so ty49 ?_;refine ev ?_;refine rn0 (.cons (.cellA ty49 rfl rfl rfl) (.cons (.tmp rfl) .nil)) (.tup (.cons (.agg (.cons (.eqd ?_) (.cons (.eqd ?_) (.cons (.nild ?_) .nil)))) (.cons (.eqd ?_) .nil)));rotate_left 4;exfalso;simp_all;all_goals (rfl)
theorem ziP {w:List Data} (hs:WSmall w){a k:Int}{p:Pat} (hok:p.ok) (hsz:p.size<=1000000000000):
  FnD Tryz.prog 79 [.d (zao w),.agg [.d (.i a),.d (.i k)],.agg [.d (.i p.op),.d (.i p.ctor),.d (.i p.n),.d (.i p.m),.d (.i p.var),.d (zaj p.kids)]] [] (.tup [.agg [.d (.i (optV (zbT w a k p)).ctor),.d (.i (optV (zbT w a k p)).num),.d (za9 (optV (zbT w a k p)).kids)],.d (.bool (zbT w a k p).isSome)]) []:=by
 have hpv:=zfJ hs (a:=a) (k:=k) hok hsz;have hev:=zjr hs (a:=a) (k:=k) hok hsz;have hsf:=zfI hs (a:=a) (k:=k) (p:=p);unfold zqc at hev;cases q1:zbP w a k p with
 |false=>
  rw[zqK q1];rw[q1] at hpv;refine bd Tryz.f79 43 [] [] fun w0 F0 own kept hk=>?_;refine bx 3004 ?_;refine bx 3005 ?_;refine ab 3006 tz49 ?_;refine ev ?_;refine wc zmd (hpv) rfl rfl ?_;refine evd [] [] ?_;refine sq ?_ ?_<;>intro h1 h1p h1s<;>(try simp only[Q] at h1p);refine sqT ?_;refine dr ?_;refine sqT ?_;refine bu [] [] st49 ?_;refine so ty49 ?_;refine ev ?_;refine rn0 (.cons (.cellA ty49 rfl rfl rfl) (.cons (.tmp rfl) .nil)) (.tup (.cons (.agg (.cons (.eqd ?_) (.cons (.eqd ?_) (.cons (.nild ?_) .nil)))) (.cons (.eqd ?_) .nil)));rotate_left 4;exfalso;simp_all;all_goals (rfl)
 |true=>
  obtain⟨hsp,hin,hsh,htv⟩:=hsf q1;rw[q1] at hpv hev;rw[Bool.true_and] at hev;have hn:=zfL hsp.dp;have hde:=zjM hsp.dp 10 hsh hin hok;by_cases q2:zax w (zam w) 10 ⟨a,k⟩ p=false/\zbo w 10 ⟨a,k⟩ p=false
  ·obtain⟨q3,q4⟩:=q2;have hsa:=zb1 hsp 10 (Nat.le_refl _) hsh hin hok q3 q4;obtain⟨z1,z2⟩:=zkD hsp (Nat.le_refl _) hsh hin q3 q4;have hvo:=zqS (v:=zap w 10 ⟨a,k⟩ p) (zeo hs (zbl htv).1) (zbl htv).2.1 z2 z1;rw[zqM q1 q3 q4];rw[q3] at hev;rw[q4] at hde;generalize zap w 10 ⟨a,k⟩ p=v at *;generalize isV w ⟨a,k⟩ v=b at *;refine bd Tryz.f79 43 [] [] fun w0 F0 own kept hk=>?_;refine bx 3004 ?_;refine bx 3005 ?_;refine ab 3006 tz49 ?_;refine ev ?_;refine wc zmd (hpv) rfl rfl ?_;refine evd [] [] ?_;refine sq ?_ ?_<;>intro h1 h1p h1s<;>(try simp only[Q] at h1p);refine sqT ?_;refine dr ?_;refine sqT ?_;exfalso;simp_all;refine Walk.call (cr:=[]) zsu (hev) rfl (.some rfl rfl h1) rfl rfl (LeL.refl _) trivial rfl rfl rfl ?_;refine evd [] [(14,false)] ?_ ⟨⟨_,rfl,h1⟩,trivial⟩;refine sq ?_ ?_<;>intro h3 h3p h3s<;>(try simp only[Q] at h3p);refine dr ?_;refine sqT ?_;exfalso;simp_all;refine Walk.call (cr:=[]) zj0 (hn) rfl (.some rfl rfl h3) rfl rfl (LeL.refl _) trivial rfl rfl rfl ?_;refine evd [] [(20,false)] ?_ ⟨⟨_,rfl,h3⟩,trivial⟩;refine Walk.call (cr:=[]) zpR (hde) rfl (.some rfl rfl h3) rfl rfl (LeL.refl _) trivial rfl rfl rfl ?_;refine evd [] [(20,false)] ?_ ⟨⟨_,rfl,h3⟩,trivial⟩;refine dr ?_;refine sq ?_ ?_<;>intro h5 h5p h5s<;>(try simp only[Q] at h5p);exfalso;simp_all;refine wc zj0 (hn) rfl rfl ?_;refine evd [] [] ?_;refine wc zfk (hsa) rfl rfl ?_;refine ab 3008 tz49 ?_;refine so ty49 ?_;refine dr ?_;refine wc zvc (hvo) rfl rfl ?_;refine ev ?_;refine sq ?_ ?_<;>intro h6 h6p h6s<;>(try simp only[Q] at h6p);refine bu [] [] st49 ?_;refine so ty49 ?_;refine ev ?_;refine rn0 (.cons (.cellA ty49 rfl rfl rfl) (.cons (.tmp rfl) .nil)) (.tup (.cons (.agg (.cons (.eqd ?_) (.cons (.eqd ?_) (.cons (.nild ?_) .nil)))) (.cons (.eqd ?_) .nil)));rotate_left 4;refine so ty49 ?_;refine ev ?_;refine rn0 (.cons (.cellA ty49 rfl rfl rfl) (.cons (.tmp rfl) .nil)) (.tup (.cons (.agg (.cons (.eqd ?_) (.cons (.eqd ?_) (.cons (.eqd ?_) .nil)))) (.cons (.eqd ?_) .nil)));rotate_left 4;all_goals (cases b<;>first|rfl|(exfalso;simp at *;done))
  ·rw[zqL q2];generalize zax w (zam w) 10 ⟨a,k⟩ p=x at *;generalize zbo w 10 ⟨a,k⟩ p=y at *;refine bd Tryz.f79 43 [] [] fun w0 F0 own kept hk=>?_;refine bx 3004 ?_;refine bx 3005 ?_;refine ab 3006 tz49 ?_;refine ev ?_;refine wc zmd (hpv) rfl rfl ?_;refine evd [] [] ?_;refine sq ?_ ?_<;>intro h1 h1p h1s<;>(try simp only[Q] at h1p);refine sqT ?_;refine dr ?_;refine sqT ?_;refine bu [] [] st49 ?_;refine so ty49 ?_;refine ev ?_;refine rn0 (.cons (.cellA ty49 rfl rfl rfl) (.cons (.tmp rfl) .nil)) (.tup (.cons (.agg (.cons (.eqd ?_) (.cons (.eqd ?_) (.cons (.nild ?_) .nil)))) (.cons (.eqd ?_) .nil)));rotate_left 4;refine Walk.call (cr:=[]) zsu (hev) rfl (.some rfl rfl h1) rfl rfl (LeL.refl _) trivial rfl rfl rfl ?_;refine evd [] [(14,false)] ?_ ⟨⟨_,rfl,h1⟩,trivial⟩;refine sq ?_ ?_<;>intro h3 h3p h3s<;>(try simp only[Q] at h3p);refine dr ?_;refine sqT ?_;refine bu [] [] st49 ?_;refine so ty49 ?_;refine ev ?_;refine rn0 (.cons (.cellA ty49 rfl rfl rfl) (.cons (.tmp rfl) .nil)) (.tup (.cons (.agg (.cons (.eqd ?_) (.cons (.eqd ?_) (.cons (.nild ?_) .nil)))) (.cons (.eqd ?_) .nil)));rotate_left 4;refine Walk.call (cr:=[]) zj0 (hn) rfl (.some rfl rfl h3) rfl rfl (LeL.refl _) trivial rfl rfl rfl ?_;refine evd [] [(20,false)] ?_ ⟨⟨_,rfl,h3⟩,trivial⟩;refine Walk.call (cr:=[]) zpR (hde) rfl (.some rfl rfl h3) rfl rfl (LeL.refl _) trivial rfl rfl rfl ?_;refine evd [] [(20,false)] ?_ ⟨⟨_,rfl,h3⟩,trivial⟩;refine dr ?_;refine sq ?_ ?_<;>intro h5 h5p h5s<;>(try simp only[Q] at h5p);refine bu [] [] st49 ?_;refine so ty49 ?_;refine ev ?_;refine rn0 (.cons (.cellA ty49 rfl rfl rfl) (.cons (.tmp rfl) .nil)) (.tup (.cons (.agg (.cons (.eqd ?_) (.cons (.eqd ?_) (.cons (.nild ?_) .nil)))) (.cons (.eqd ?_) .nil)));rotate_left 4;exfalso;simp_all;all_goals (rfl)
def mvV (w:List Data) (a k:Int) (l:List Cl):Option Val:=match zci w ⟨a,k⟩ l with
 |some (x::_)=>zbT w a k x
 |_=>none
theorem zlV {w:List Data}{a k:Int}{l:List Cl} (h:zci w ⟨a,k⟩ l=none):mvV w a k l=none:=by unfold mvV;rw[h]
theorem zn3 {w:List Data}{a k:Int}{l:List Cl} (h:zci w ⟨a,k⟩ l=some []):mvV w a k l=none:=by unfold mvV;rw[h]
theorem zlU {w:List Data}{a k:Int}{l:List Cl}{x:Pat}{r:List Pat} (h:zci w ⟨a,k⟩ l=some (x::r)):mvV w a k l=zbT w a k x:=by unfold mvV;rw[h]
theorem zi8 {w:List Data} (hs:WSmall w){a k:Int}{l:List Cl} (hl:ClsOk l) (hsp0:∀x r,zci w ⟨a,k⟩ l=some (x::r)->FnD Tryz.prog 20 [.d (zao w),.agg [.d (.i a),.d (.i k)],.agg [.d (.i x.op),.d (.i x.ctor),.d (.i x.n),.d (.i x.m),.d (.i x.var),.d (zaj x.kids)]] [] (.tup [.agg [.d (.i (optV (zbT w a k x)).ctor),.d (.i (optV (zbT w a k x)).num),.d (za9 (optV (zbT w a k x)).kids)],.d (.bool (zbT w a k x).isSome)]) []):
  FnD Tryz.prog 24 [.d (zao w),.agg [.d (.i a),.d (.i k)],.d (zbG l)] [] (.tup [.agg [.d (.i (optV (mvV w a k l)).ctor),.d (.i (optV (mvV w a k l)).num),.d (za9 (optV (mvV w a k l)).kids)],.d (.bool (mvV w a k l).isSome)]) []:=by
 have hmp:=zeE hs (a:=a) (k:=k) hl;cases hm:zci w ⟨a,k⟩ l with
 |none=>
  rw[zlV hm];rw[hm] at hmp;refine bd Tryz.f24 33 [] [] fun w0 F0 own kept hk=>?_;refine bx 3004 ?_;refine ab 3006 tz49 ?_;refine ev ?_;refine wc zpu (hmp) rfl rfl ?_;refine ev ?_;refine sq ?_ ?_<;>intro h1 h1p h1s<;>(try simp only[Q,Pat.cs_len] at h1p);refine sqT ?_;refine bu [] [] st49 ?_;refine so ty49 ?_;refine ev ?_;refine rn0 (.cons (.cellA ty49 rfl rfl rfl) (.cons (.tmp rfl) .nil)) (.tup (.cons (.agg (.cons (.eqd ?_) (.cons (.eqd ?_) (.cons (.nild ?_) .nil)))) (.cons (.eqd ?_) .nil)));rotate_left 4;exfalso;simp_all;all_goals (rfl)
 |some ps=>
  cases ps with
  |nil=>
   rw[zn3 hm];rw[hm] at hmp;refine bd Tryz.f24 33 [] [] fun w0 F0 own kept hk=>?_;refine bx 3004 ?_;refine ab 3006 tz49 ?_;refine ev ?_;refine wc zpu (hmp) rfl rfl ?_;refine ev ?_;refine sq ?_ ?_<;>intro h1 h1p h1s<;>(try simp only[Q,Pat.cs_len] at h1p);refine sqT ?_;refine bu [] [] st49 ?_;refine so ty49 ?_;refine ev ?_;refine rn0 (.cons (.cellA ty49 rfl rfl rfl) (.cons (.tmp rfl) .nil)) (.tup (.cons (.agg (.cons (.eqd ?_) (.cons (.eqd ?_) (.cons (.nild ?_) .nil)))) (.cons (.eqd ?_) .nil)));rotate_left 4;refine sq ?_ ?_<;>intro h3 h3p h3s<;>(try simp only[Q,Pat.cs_len] at h3p);refine bu [] [] st49 ?_;refine so ty49 ?_;refine ev ?_;refine rn0 (.cons (.cellA ty49 rfl rfl rfl) (.cons (.tmp rfl) .nil)) (.tup (.cons (.agg (.cons (.eqd ?_) (.cons (.eqd ?_) (.cons (.nild ?_) .nil)))) (.cons (.eqd ?_) .nil)));rotate_left 4;exfalso;simp_all;all_goals (rfl)
  |cons x r=>
   have hx:x.ok/\x.size<=1000000000000:=zk4 hs hl hm x (by simp);have hsp:=hsp0 x r hm;rw[zlU hm];rw[hm] at hmp;generalize zbT w a k x=o at *;refine bd Tryz.f24 33 [] [] fun w0 F0 own kept hk=>?_;refine bx 3004 ?_;refine ab 3006 tz49 ?_;refine ev ?_;refine wc zpu (hmp) rfl rfl ?_;refine ev ?_;refine sq ?_ ?_<;>intro h1 h1p h1s<;>(try simp only[Q,Pat.cs_len] at h1p);refine sqT ?_;focus (exfalso;first|(simp_all;done)|(simp at *;omega))
   refine sq ?_ ?_<;>intro h3 h3p h3s<;>(try simp only[Q,Pat.cs_len] at h3p);focus (exfalso;first|(simp_all;done)|(simp at *;omega))
   refine xaP (i:=0) sl34 .none rfl rfl rfl rfl (zas (l:=x::r) (i:=0) (by simp)) rfl ?_;refine evd [] [] ?_;refine wc zud (hsp) rfl rfl ?_;refine evd [] [] ?_;refine so ty49 ?_;refine evd [] [] ?_;refine dr ?_;refine rn0 (.cons (.cellA ty49 rfl rfl rfl) (.cons (.tmp rfl) .nil)) (.tup (.cons (.agg (.cons (.eqd ?_) (.cons (.eqd ?_) (.cons (.eqd ?_) .nil)))) (.cons (.eqd ?_) .nil)));rotate_left 4;all_goals (rfl)
theorem zjs {w:List Data} (hs:WSmall w){a k:Int}{l:List Cl} (hl:ClsOk l) (hz:ClsSz l):
  FnD Tryz.prog 25 [.d (zao w),.agg [.d (.i a),.d (.i k)],.d (zbG l)] [] (.tup [.agg [.d (.i (optV (mvV w a k l)).ctor),.d (.i (optV (mvV w a k l)).num),.d (za9 (optV (mvV w a k l)).kids)],.d (.bool (mvV w a k l).isSome)]) []:=by
 have hmp:=zhG hs (a:=a) (k:=k) hl hz;cases hm:zci w ⟨a,k⟩ l with
 |none=>
  rw[zlV hm];rw[hm] at hmp;refine bd Tryz.f25 33 [] [] fun w0 F0 own kept hk=>?_;refine bx 3004 ?_;refine ab 3006 tz49 ?_;refine ev ?_;refine wc zrZ (hmp) rfl rfl ?_;refine ev ?_;refine sq ?_ ?_<;>intro h1 h1p h1s<;>(try simp only[Q,Pat.cs_len] at h1p);refine sqT ?_;refine bu [] [] st49 ?_;refine so ty49 ?_;refine ev ?_;refine rn0 (.cons (.cellA ty49 rfl rfl rfl) (.cons (.tmp rfl) .nil)) (.tup (.cons (.agg (.cons (.eqd ?_) (.cons (.eqd ?_) (.cons (.nild ?_) .nil)))) (.cons (.eqd ?_) .nil)));rotate_left 4;exfalso;simp_all;all_goals (rfl)
 |some ps=>
  cases ps with
  |nil=>
   rw[zn3 hm];rw[hm] at hmp;refine bd Tryz.f25 33 [] [] fun w0 F0 own kept hk=>?_;refine bx 3004 ?_;refine ab 3006 tz49 ?_;refine ev ?_;refine wc zrZ (hmp) rfl rfl ?_;refine ev ?_;refine sq ?_ ?_<;>intro h1 h1p h1s<;>(try simp only[Q,Pat.cs_len] at h1p);refine sqT ?_;refine bu [] [] st49 ?_;refine so ty49 ?_;refine ev ?_;refine rn0 (.cons (.cellA ty49 rfl rfl rfl) (.cons (.tmp rfl) .nil)) (.tup (.cons (.agg (.cons (.eqd ?_) (.cons (.eqd ?_) (.cons (.nild ?_) .nil)))) (.cons (.eqd ?_) .nil)));rotate_left 4;refine sq ?_ ?_<;>intro h3 h3p h3s<;>(try simp only[Q,Pat.cs_len] at h3p);refine bu [] [] st49 ?_;refine so ty49 ?_;refine ev ?_;refine rn0 (.cons (.cellA ty49 rfl rfl rfl) (.cons (.tmp rfl) .nil)) (.tup (.cons (.agg (.cons (.eqd ?_) (.cons (.eqd ?_) (.cons (.nild ?_) .nil)))) (.cons (.eqd ?_) .nil)));rotate_left 4;exfalso;simp_all;all_goals (rfl)
  |cons x r=>
   have hx:x.ok/\x.size<=1000000000000:=zk4 hs hl hm x (by simp);have hsp:=ziP hs (a:=a) (k:=k) hx.1 hx.2;rw[zlU hm];rw[hm] at hmp;generalize zbT w a k x=o at *;refine bd Tryz.f25 33 [] [] fun w0 F0 own kept hk=>?_;refine bx 3004 ?_;refine ab 3006 tz49 ?_;refine ev ?_;refine wc zrZ (hmp) rfl rfl ?_;refine ev ?_;refine sq ?_ ?_<;>intro h1 h1p h1s<;>(try simp only[Q,Pat.cs_len] at h1p);refine sqT ?_;focus (exfalso;first|(simp_all;done)|(simp at *;omega))
   refine sq ?_ ?_<;>intro h3 h3p h3s<;>(try simp only[Q,Pat.cs_len] at h3p);focus (exfalso;first|(simp_all;done)|(simp at *;omega))
   refine xaP (i:=0) sl34 .none rfl rfl rfl rfl (zas (l:=x::r) (i:=0) (by simp)) rfl ?_;refine evd [] [] ?_;refine wc zwt (hsp) rfl rfl ?_;refine evd [] [] ?_;refine so ty49 ?_;refine evd [] [] ?_;refine dr ?_;refine rn0 (.cons (.cellA ty49 rfl rfl rfl) (.cons (.tmp rfl) .nil)) (.tup (.cons (.agg (.cons (.eqd ?_) (.cons (.eqd ?_) (.cons (.eqd ?_) .nil)))) (.cons (.eqd ?_) .nil)));rotate_left 4;all_goals (rfl)
end Go.Proofs.YtlfipehhbdjnjaaGreat
namespace Go.Proofs.YtlfipehhbdjnjaaGreat
open Go
set_option linter.unusedSimpArgs false
set_option linter.unusedVariables false
section
variable {P:Program}{f:FuncId}{i k:Nat}{args:List AV}{a b:D}{xs:List (List D)}
theorem zoh {G:Gh}{T:TokF}{w:World}{v:Value}{y:AV} (h:RelA G T w (.agg [.d a,.d b,y]) v):∃v2,RelA G T w y v2/\∀ {G':Gh}{T':TokF}{y':AV},(∀b o,o<G.F b->o<G'.F b)->RelA G' T' w y' v2->RelA G' T' w (.agg [.d a,.d b,y']) v:=by
 cases h with
 | @agg cs ws hn' h'=>
  have hl':ws.size=3:=by simpa using hn'
  refine⟨ws[2],h' 2 (by simp) (by omega),fun {G' T' y'} hF hy=> .agg (by simpa using hl') (fun q hq hv=>?_)⟩;match q,hq with
  |0,_=>exact .d ((h' 0 (by simp) (by omega)).d_inv.mono (fun b o ho=>⟨hF b o ho,rfl⟩))
  |1,_=>exact .d ((h' 1 (by simp) (by omega)).d_inv.mono (fun b o ho=>⟨hF b o ho,rfl⟩))
  |2,_=>exact hy
theorem FnD.gtMs (hx:xs≠[]) (h:FnD P f args [] (.agg [.d a,.d b,.gt i xs]) [(i,some (.tok xs.length k))]):
  FnD P f args [] (.agg [.d a,.d b,.ms i xs.length]) [(i,some (.tree (zaf true xs)))]:=by
 intro G w vals hok;refine(h G w vals hok).mono ?_;rintro e w' ⟨v,r',hp',G',rfl,⟨rfl,rfl⟩,hret⟩
 have gi:getH ([(i,some (Res.tok xs.length k))]++[]) i=some (.tok xs.length k):=by simp[getH]
 have g2:getH ([(i,some (Res.tree (zaf true xs)))]++[]) i=some (.tree (zaf true xs)):=by simp[getH]
 have only:∀ {a id:Nat}{x y:Res},getH ([(a,some x)]++[]) id=some y->id=a/\y=x:=fun {a id x y} h=>by
  have h':getH [(a,some x)] id=some y:=h;rw[zan] at h';split at h'
  ·rename_i e;cases h';exact⟨e,rfl⟩
  ·cases h'
 obtain⟨v2,hv2,back⟩:=zoh hret.res;obtain⟨_,hcl⟩:=hv2.gt_inv;obtain⟨hkx,htip⟩:=(hcl _ _ (zav.2 gi)).2 rfl;rcases htip with ⟨_,h2,_⟩|⟨bl,cap,cs,et,Ss,h1,h2,h3,h4,h5,h6,h7,h8,_⟩
 ·exact absurd (List.eq_nil_of_length_eq_zero h2) hx
 have hlen:(zaf true xs).length=xs.length*k:=zbZ hkx;refine⟨v,_,_,G',rfl,⟨rfl,rfl⟩,back (fun _ _ h=>h) ?_,fun id x hxx=>?_,fun id id' q1 q2 hne=>?_,fun id q1=>?_,hret.frm,hret.top,fun id hi=>(by simp[zbK,getH] at hi)⟩
 ·rw[h2];exact .ms (by rw[h1];rfl) (by unfold tokf;rw[g2]) h5
 ·obtain⟨rfl,rfl⟩:=only hxx;exact⟨bl,cs,et,Ss,by rw[h1,hlen],h3,by rw[hlen];exact Nat.le_trans (Nat.mul_le_mul_right _ h5) h4,h6,fun x hx=>⟨h7 x hx,(hret.heap _ _ gi).bound x hx⟩,TreeOf.cells h8 hkx⟩
 ·obtain⟨x,hx1⟩:=Option.isSome_iff_exists.1 q1;obtain⟨y,hx2⟩:=Option.isSome_iff_exists.1 q2;exact absurd ((only hx1).1.trans (only hx2).1.symm) hne
 ·obtain⟨x,hx1⟩:=Option.isSome_iff_exists.1 q1;obtain⟨rfl,_⟩:=only hx1;exact hret.new _ (by rw[gi];rfl)
theorem FnD.gtD (hk:∀x,x∈xs->x.length=k) (h:FnD P f args [] (.agg [.d a,.d b,.gt i xs]) [(i,some (.tok xs.length k))]):
  FnD P f args [] (.agg [.d a,.d b,.d (.sl xs)]) []:=by
 by_cases hx:xs=[]
 ·subst hx;intro G w vals hok;refine(h G w vals hok).mono ?_;rintro e w' ⟨v,r',hp',G',rfl,⟨rfl,rfl⟩,hret⟩
  have gi:getH ([(i,some (Res.tok ([]:List (List D)).length k))]++[]) i=some (.tok 0 k):=by simp[getH]
  obtain⟨v2,hv2,back⟩:=zoh hret.res;obtain⟨_,hcl⟩:=hv2.gt_inv;obtain⟨hkx,htip⟩:=(hcl _ _ (zav.2 gi)).2 rfl;refine⟨v,_,_,G',rfl,⟨rfl,rfl⟩,back (fun _ _ h=>h) ?_,fun id x hx=>(by cases hx),fun id id' h1=>(by cases h1),fun id h1=>(by cases h1), ?_,hret.top,fun id hi=>(by simp[zbK,getH] at hi)⟩
  ·rcases htip with ⟨_,_,h3⟩|⟨b,cap,cs,et,Ss,h1,h2,_⟩
   ·rw[h3];exact .d .nil
   ·rw[h2];exact .d (.sl [] 0 b 0 cap (fun _=>undef) (by simp) (by simp) (fun n hn=>by simp at hn) (fun i hi=>by simp at hi))
  ·exact hret.frm
 ·exact xat (r:= .agg [.d a,.d b,.ms i xs.length]) (m:=true) hk ⟨trivial,trivial,⟨rfl,rfl⟩,trivial⟩ (FnD.gtMs hx h)
end
end Go.Proofs.YtlfipehhbdjnjaaGreat
namespace Go.Proofs.YtlfipehhbdjnjaaGreat
open Go
set_option linter.unusedSimpArgs false
set_option linter.unusedVariables false
set_option maxRecDepth 100000
set_option maxHeartbeats 2000000
theorem zcx {n:Int}:FnD Tryz.prog 143 [.d (.i n)] [] (.agg [.d (.i (-1)),.d (.i n),.nils]) []:=by
 refine bd Tryz.f143 5 [] [] fun w0 F0 own kept hk=>?_;refine ab 3002 tz49 ?_;refine tv ?_;refine bu [0,1] [_,_] st49 ?_;refine so ty49 ?_;refine tv ?_;refine rn0 (.cons (.cellA ty49 rfl rfl rfl) .nil) (.refl _)
theorem zeS {w:List Data} (hs:Spa w):∀(n:Nat) (s:Bool){a k:Int},Dq w n ⟨a,k⟩->FnD Tryz.prog 142 [.d (zao w),.d (dPtr (zam w)),.agg [.d (.i a),.d (.i k)]] [] (.agg [.d (.i (zaL w n ⟨a,k⟩).ctor),.d (.i (zaL w n ⟨a,k⟩).num),.gt (bif s then 61 else 63) ((zaL w n ⟨a,k⟩).kids.map Val.cc)]) [((bif s then 61 else 63),some (.tok ((zaL w n ⟨a,k⟩).kids.map Val.cc).length 3))]
 |0,s,a,k,h=>by have:=h.pos;have:=h.le;omega
 |n+1,true,a,k,h=>by
  have hd:=hs.dp;have ht:=zbE h.ins;have h4:=hd.four;have hfb:=zqb hd;have hcl:=zfQ hd.wt ht;have w1:=znX (w:=w) (n:=n) (t:=⟨a,k⟩);have w2:=fun hne c hc=>znY (w:=w) (n:=n) (t:=⟨a,k⟩) hne (c:=c) hc;have hkid:=fun hne=>zhV hd h hne;have hall:=fun hne=>zlD hd h hne;have hal:=fun c hc=>hs.args ⟨a,k⟩ c h.ins hc;have hc:∀ {u:Ty},Dq w n u->FnD Tryz.prog 142 [.d (zao w),.d (dPtr (zam w)),.agg [.d (.i u.data),.d (.i u.index)]] [] (.agg [.d (.i (zaL w n u).ctor),.d (.i (zaL w n u).num),.gt 63 ((zaL w n u).kids.map Val.cc)]) [(63,some (.tok ((zaL w n u).kids.map Val.cc).length 3))]:=fun {u} hu=>zeS hs n false (a:=u.data) (k:=u.index) hu;show FnD Tryz.prog 142 _ _ (.agg [.d (.i (zaL w (n+1) ⟨a,k⟩).ctor),.d (.i (zaL w (n+1) ⟨a,k⟩).num),.gt 61 ((zaL w (n+1) ⟨a,k⟩).kids.map Val.cc)]) [(61,some (.tok ((zaL w (n+1) ⟨a,k⟩).kids.map Val.cc).length 3))]
  refine bd Tryz.f142 57 [] [999999] fun w0 F0 own kept hk=>?_;refine bx 3005 ?_;refine ab 3006 tz49 ?_;refine tv ?_;refine sq ?_ ?_<;>intro h1 h1p h1s<;>(try simp only[Q,Int.natCast_inj] at h1p);refine wc zit (zcx (n:=0)) rfl rfl ?_;refine so ty49 ?_;refine tv ?_;refine xas 3006 2 61 3 rfl rfl rfl rfl ?_;refine CWp.ret ?_;refine rn [(61,some (.tok ((zaL w (n+1) ⟨a,k⟩).kids.map Val.cc).length 3))] (.cons (.cellA ty49 rfl rfl rfl) .nil) (.agg (.cons (.eqd ?_) (.cons (.eqd ?_) (.cons (.gtg ?_) .nil)))) ⟨rfl,rfl⟩ (SubH.get ⟨?_,trivial⟩) (zaE rfl);rotate_left 4;refine wc zfm (zc0 hd.wt ht) rfl rfl ?_;refine ev ?_;refine xam (ι:=List (Int)×List (Int)) hk (fun x=>[(20,.d (.i (x.1.length:Int)))]) [8,9,11,21,22,23,24,25,26,27,28,29,30,31,32,33,34,35,36,37,38,39,40,41,42,43,44,45,46,47,48,49,50,51,52,53,54,55] (fun x=>[]) (fun x=>x.1++x.2=zaA w ⟨a,k⟩/\∀q∈x.1,hitC w ⟨a,k⟩ q=false) (fun x=>x.2.length) ([],zaA w ⟨a,k⟩) ⟨by simp,by simp⟩ ⟨⟨_,rfl,xax ?_⟩,trivial⟩ trivial (fun x=>rfl) (fun x hg1=>?_);focus (first|rfl|(simp;done)|omega)
  obtain⟨pre,rest⟩:=x;dsimp only at hg1 ⊢;refine evc [] [999999] ?_;refine sq ?_ ?_<;>intro h2 h2p h2s<;>(try simp only[Q,Int.natCast_inj] at h2p);rcases rest with _|⟨y,rest⟩
  ·exfalso;simp_all
  refine xaP sl29 .none rfl rfl rfl rfl (zaN hg1.1) rfl ?_;refine ev ?_;refine wc zpU (ziH hd.wt ht (c:=y) (by rw[<-hg1.1];simp) (by omega) hfb (zbh hd h.ins (by rw[<-hg1.1];simp))) rfl rfl ?_;refine evd [] [] ?_;refine wc zeK (zdI h.ins (by omega)) rfl rfl ?_;refine evd [] [] ?_;refine dr ?_;refine sq ?_ ?_<;>intro h3 h3p h3s<;>(try simp only[Q,Int.natCast_inj] at h3p);refine ar ?_;refine xah ((pre++[y],rest)) ⟨⟨(by have hz:=hg1.1;rw[<-hz];simp),(znJ hg1.2 (by omega))⟩,(by simp),sx ⟨⟨_,rfl,xax ?_⟩,trivial⟩ trivial⟩;focus (first|rfl|(simp;done)|omega)
  have hcy:zc4 w ⟨a,k⟩=y:=zkq hg1.1 hg1.2 (zlE (by omega));have hal2:=hal y (by rw[<-hg1.1];simp);refine bu [0] [_] st49 ?_;refine ab 3009 tz49 ?_;refine so ty49 ?_;refine tv ?_;refine wc zdf (zbp hd.wt ht (by rw[<-hg1.1];simp)) rfl rfl ?_;refine ev ?_;refine xas 3009 2 61 3 rfl rfl rfl rfl ?_;refine xam (ι:=List (Ty)×List (Ty)) hk (fun x=>[(40,.d (.i (x.1.length:Int)))]) [11,41,42,43,44,45,46,47,48,49,50,51,52,53] (fun x=>[(3009,some (.box [.d (.i y),.d (.i 0),.gt 61 ((x.1.map (zaL w n)).map Val.cc)])),(61,some (.tok ((x.1.map (zaL w n)).map Val.cc).length 3))]) (fun x=>x.1++x.2=zad w ⟨a,k⟩ y) (fun x=>x.2.length) ([],zad w ⟨a,k⟩ y) (by simp) ⟨⟨_,rfl,xax ?_⟩,trivial⟩ ⟨?_,⟨zag ?_,trivial⟩⟩ (fun x=>rfl) (fun x hg2=>?_);focus (first|rfl|(simp;done)|omega|(simp;omega))
  focus (first|rfl|(simp[getH,Val.cs_cc];done))
  focus (first|rfl|(simp;done)|omega|(simp;omega))
  obtain⟨pre2,rest2⟩:=x;dsimp only at hg2 ⊢;refine evc [] [999999] ?_;refine sq ?_ ?_<;>intro h4 h4p h4s<;>(try simp only[Q,Int.natCast_inj] at h4p);rcases rest2 with _|⟨z,rest2⟩
  ·exfalso;simp_all
  refine xaP zaK .none rfl rfl rfl rfl (zaN hg2) rfl ?_;refine ev ?_;refine ab 3011 tz25 ?_;refine so ty25 ?_;refine tv ?_;refine Walk.call (cr:=[63]) zis (hc (u:=z) (hkid (by omega) z (by rw[hcy,<-hg2];simp))) rfl .none rfl rfl (LeL.refl _) trivial rfl (by first|rfl|(simp only[zar,List.all_cons,List.all_nil,zaC,zay,AV.idsL,AV.ids,zab,zaa,xae,List.map_nil];rfl)) (by first|rfl|(simp only[zak,occH,occE,Res.ids,xag,List.nil_append,AV.idsL,AV.ids,zab,zaa,zac,zal,xae,List.map_nil,upC];rfl)) ?_;refine xbe (id:=3050) sl47 tz49 rfl (by decide) (ks:=[0]) (xs:=[_]) rfl rfl (by decide) (by decide) .none rfl rfl rfl rfl rfl rfl rfl ?_;refine xaD hk rfl sl47 zz49 .none rfl rfl rfl rfl (zdY rfl (by first|rfl|(simp;done)|(simp;omega))) rfl (.sc rfl (.sc rfl (.gt rfl (by first|rfl|(simp;done)) .nil))) rfl rfl (by have hz:=congrArg List.length hg2;simp at hz ⊢;omega) (by have hz:=congrArg List.length hg2;simp at hz ⊢;omega) ?_;refine evd [] [] ?_;refine so ty47 ?_;refine dr ?_;refine ar ?_;refine xah ((pre2++[z],rest2)) ⟨(by have hz:=hg2;rw[<-hz];simp),(by simp),sx ⟨⟨_,rfl,xax ?_⟩,trivial⟩ ⟨?_,⟨zag ?_,trivial⟩⟩⟩;focus (first|rfl|(simp;done)|omega|(simp;omega))
  focus (first|rfl|(simp[getH,Val.cs_cc];done))
  focus (first|rfl|(simp;done)|omega|(simp;omega))
  have hrest2:rest2=[]:=by
   rcases rest2 with _|⟨a,b⟩
   ·rfl
   ·exfalso;have hz:=congrArg List.length (hg2);simp only[xaa,xab,xac] at hz;omega
  subst hrest2;refine so ty49 ?_;refine tv ?_;refine CWp.ret ?_;refine rn [(61,some (.tok ((zaL w (n+1) ⟨a,k⟩).kids.map Val.cc).length 3))] (.cons (.cellA ty49 rfl rfl rfl) .nil) (.agg (.cons (.eqd ?_) (.cons (.eqd ?_) (.cons (.gtg ?_) .nil)))) ⟨rfl,rfl⟩ (SubH.get ⟨?_,trivial⟩) (zaE rfl);rotate_left 4;have hrest:rest=[]:=by
   rcases rest with _|⟨a,b⟩
   ·rfl
   ·exfalso;have hz:=congrArg List.length (hg1.1);simp only[xaa,xab,xac] at hz;omega
  subst hrest;refine bu [] [] st49 ?_;refine so ty49 ?_;refine tv ?_;refine xas 3006 2 61 3 rfl rfl rfl rfl ?_;refine CWp.ret ?_;refine rn [(61,some (.tok ((zaL w (n+1) ⟨a,k⟩).kids.map Val.cc).length 3))] (.cons (.cellA ty49 rfl rfl rfl) .nil) (.agg (.cons (.eqd ?_) (.cons (.eqd ?_) (.cons (.gtg ?_) .nil)))) ⟨rfl,rfl⟩ (SubH.get ⟨?_,trivial⟩) (zaE rfl);rotate_left 4;all_goals (first|((first|(rw[w1 (by omega)];all_goals rfl)|(rw[w2 (by omega) y hcy];all_goals first|rfl|(rw[List.append_nil] at hg2;rw[<-hg2];rfl))|(exfalso;rw[List.append_nil] at hg1;exact hall (by omega) (by rw[<-hg1.1];exact hg1.2)));done)|(first|(rw[w1 (by omega)];all_goals rfl)|(rw[w2 (by omega) y hcy];rw[List.append_nil] at hg2;rw[<-hg2];all_goals rfl)|(exfalso;rw[List.append_nil] at hg1;exact hall (by omega) (by rw[<-hg1.1];exact hg1.2))))
 |n+1,false,a,k,h=>by
  have hd:=hs.dp;have ht:=zbE h.ins;have h4:=hd.four;have hfb:=zqb hd;have hcl:=zfQ hd.wt ht;have w1:=znX (w:=w) (n:=n) (t:=⟨a,k⟩);have w2:=fun hne c hc=>znY (w:=w) (n:=n) (t:=⟨a,k⟩) hne (c:=c) hc;have hkid:=fun hne=>zhV hd h hne;have hall:=fun hne=>zlD hd h hne;have hal:=fun c hc=>hs.args ⟨a,k⟩ c h.ins hc;have hc:∀ {u:Ty},Dq w n u->FnD Tryz.prog 142 [.d (zao w),.d (dPtr (zam w)),.agg [.d (.i u.data),.d (.i u.index)]] [] (.agg [.d (.i (zaL w n u).ctor),.d (.i (zaL w n u).num),.gt 61 ((zaL w n u).kids.map Val.cc)]) [(61,some (.tok ((zaL w n u).kids.map Val.cc).length 3))]:=fun {u} hu=>zeS hs n true (a:=u.data) (k:=u.index) hu;show FnD Tryz.prog 142 _ _ (.agg [.d (.i (zaL w (n+1) ⟨a,k⟩).ctor),.d (.i (zaL w (n+1) ⟨a,k⟩).num),.gt 63 ((zaL w (n+1) ⟨a,k⟩).kids.map Val.cc)]) [(63,some (.tok ((zaL w (n+1) ⟨a,k⟩).kids.map Val.cc).length 3))]
  refine bd Tryz.f142 57 [] [999999] fun w0 F0 own kept hk=>?_;refine bx 3005 ?_;refine ab 3006 tz49 ?_;refine tv ?_;refine sq ?_ ?_<;>intro h1 h1p h1s<;>(try simp only[Q,Int.natCast_inj] at h1p);refine wc zit (zcx (n:=0)) rfl rfl ?_;refine so ty49 ?_;refine tv ?_;refine xas 3006 2 63 3 rfl rfl rfl rfl ?_;refine CWp.ret ?_;refine rn [(63,some (.tok ((zaL w (n+1) ⟨a,k⟩).kids.map Val.cc).length 3))] (.cons (.cellA ty49 rfl rfl rfl) .nil) (.agg (.cons (.eqd ?_) (.cons (.eqd ?_) (.cons (.gtg ?_) .nil)))) ⟨rfl,rfl⟩ (SubH.get ⟨?_,trivial⟩) (zaE rfl);rotate_left 4;refine wc zfm (zc0 hd.wt ht) rfl rfl ?_;refine ev ?_;refine xam (ι:=List (Int)×List (Int)) hk (fun x=>[(20,.d (.i (x.1.length:Int)))]) [8,9,11,21,22,23,24,25,26,27,28,29,30,31,32,33,34,35,36,37,38,39,40,41,42,43,44,45,46,47,48,49,50,51,52,53,54,55] (fun x=>[]) (fun x=>x.1++x.2=zaA w ⟨a,k⟩/\∀q∈x.1,hitC w ⟨a,k⟩ q=false) (fun x=>x.2.length) ([],zaA w ⟨a,k⟩) ⟨by simp,by simp⟩ ⟨⟨_,rfl,xax ?_⟩,trivial⟩ trivial (fun x=>rfl) (fun x hg1=>?_);focus (first|rfl|(simp;done)|omega)
  obtain⟨pre,rest⟩:=x;dsimp only at hg1 ⊢;refine evc [] [999999] ?_;refine sq ?_ ?_<;>intro h2 h2p h2s<;>(try simp only[Q,Int.natCast_inj] at h2p);rcases rest with _|⟨y,rest⟩
  ·exfalso;simp_all
  refine xaP sl29 .none rfl rfl rfl rfl (zaN hg1.1) rfl ?_;refine ev ?_;refine wc zpU (ziH hd.wt ht (c:=y) (by rw[<-hg1.1];simp) (by omega) hfb (zbh hd h.ins (by rw[<-hg1.1];simp))) rfl rfl ?_;refine evd [] [] ?_;refine wc zeK (zdI h.ins (by omega)) rfl rfl ?_;refine evd [] [] ?_;refine dr ?_;refine sq ?_ ?_<;>intro h3 h3p h3s<;>(try simp only[Q,Int.natCast_inj] at h3p);refine ar ?_;refine xah ((pre++[y],rest)) ⟨⟨(by have hz:=hg1.1;rw[<-hz];simp),(znJ hg1.2 (by omega))⟩,(by simp),sx ⟨⟨_,rfl,xax ?_⟩,trivial⟩ trivial⟩;focus (first|rfl|(simp;done)|omega)
  have hcy:zc4 w ⟨a,k⟩=y:=zkq hg1.1 hg1.2 (zlE (by omega));have hal2:=hal y (by rw[<-hg1.1];simp);refine bu [0] [_] st49 ?_;refine ab 3009 tz49 ?_;refine so ty49 ?_;refine tv ?_;refine wc zdf (zbp hd.wt ht (by rw[<-hg1.1];simp)) rfl rfl ?_;refine ev ?_;refine xas 3009 2 63 3 rfl rfl rfl rfl ?_;refine xam (ι:=List (Ty)×List (Ty)) hk (fun x=>[(40,.d (.i (x.1.length:Int)))]) [11,41,42,43,44,45,46,47,48,49,50,51,52,53] (fun x=>[(3009,some (.box [.d (.i y),.d (.i 0),.gt 63 ((x.1.map (zaL w n)).map Val.cc)])),(63,some (.tok ((x.1.map (zaL w n)).map Val.cc).length 3))]) (fun x=>x.1++x.2=zad w ⟨a,k⟩ y) (fun x=>x.2.length) ([],zad w ⟨a,k⟩ y) (by simp) ⟨⟨_,rfl,xax ?_⟩,trivial⟩ ⟨?_,⟨zag ?_,trivial⟩⟩ (fun x=>rfl) (fun x hg2=>?_);focus (first|rfl|(simp;done)|omega|(simp;omega))
  focus (first|rfl|(simp[getH,Val.cs_cc];done))
  focus (first|rfl|(simp;done)|omega|(simp;omega))
  obtain⟨pre2,rest2⟩:=x;dsimp only at hg2 ⊢;refine evc [] [999999] ?_;refine sq ?_ ?_<;>intro h4 h4p h4s<;>(try simp only[Q,Int.natCast_inj] at h4p);rcases rest2 with _|⟨z,rest2⟩
  ·exfalso;simp_all
  refine xaP zaK .none rfl rfl rfl rfl (zaN hg2) rfl ?_;refine ev ?_;refine ab 3011 tz25 ?_;refine so ty25 ?_;refine tv ?_;refine Walk.call (cr:=[61]) zis (hc (u:=z) (hkid (by omega) z (by rw[hcy,<-hg2];simp))) rfl .none rfl rfl (LeL.refl _) trivial rfl (by first|rfl|(simp only[zar,List.all_cons,List.all_nil,zaC,zay,AV.idsL,AV.ids,zab,zaa,xae,List.map_nil];rfl)) (by first|rfl|(simp only[zak,occH,occE,Res.ids,xag,List.nil_append,AV.idsL,AV.ids,zab,zaa,zac,zal,xae,List.map_nil,upC];rfl)) ?_;refine xbe (id:=3050) sl47 tz49 rfl (by decide) (ks:=[0]) (xs:=[_]) rfl rfl (by decide) (by decide) .none rfl rfl rfl rfl rfl rfl rfl ?_;refine xaD hk rfl sl47 zz49 .none rfl rfl rfl rfl (zdY rfl (by first|rfl|(simp;done)|(simp;omega))) rfl (.sc rfl (.sc rfl (.gt rfl (by first|rfl|(simp;done)) .nil))) rfl rfl (by have hz:=congrArg List.length hg2;simp at hz ⊢;omega) (by have hz:=congrArg List.length hg2;simp at hz ⊢;omega) ?_;refine evd [] [] ?_;refine so ty47 ?_;refine dr ?_;refine ar ?_;refine xah ((pre2++[z],rest2)) ⟨(by have hz:=hg2;rw[<-hz];simp),(by simp),sx ⟨⟨_,rfl,xax ?_⟩,trivial⟩ ⟨?_,⟨zag ?_,trivial⟩⟩⟩;focus (first|rfl|(simp;done)|omega|(simp;omega))
  focus (first|rfl|(simp[getH,Val.cs_cc];done))
  focus (first|rfl|(simp;done)|omega|(simp;omega))
  have hrest2:rest2=[]:=by
   rcases rest2 with _|⟨a,b⟩
   ·rfl
   ·exfalso;have hz:=congrArg List.length (hg2);simp only[xaa,xab,xac] at hz;omega
  subst hrest2;refine so ty49 ?_;refine tv ?_;refine CWp.ret ?_;refine rn [(63,some (.tok ((zaL w (n+1) ⟨a,k⟩).kids.map Val.cc).length 3))] (.cons (.cellA ty49 rfl rfl rfl) .nil) (.agg (.cons (.eqd ?_) (.cons (.eqd ?_) (.cons (.gtg ?_) .nil)))) ⟨rfl,rfl⟩ (SubH.get ⟨?_,trivial⟩) (zaE rfl);rotate_left 4;have hrest:rest=[]:=by
   rcases rest with _|⟨a,b⟩
   ·rfl
   ·exfalso;have hz:=congrArg List.length (hg1.1);simp only[xaa,xab,xac] at hz;omega
  subst hrest;refine bu [] [] st49 ?_;refine so ty49 ?_;refine tv ?_;refine xas 3006 2 63 3 rfl rfl rfl rfl ?_;refine CWp.ret ?_;refine rn [(63,some (.tok ((zaL w (n+1) ⟨a,k⟩).kids.map Val.cc).length 3))] (.cons (.cellA ty49 rfl rfl rfl) .nil) (.agg (.cons (.eqd ?_) (.cons (.eqd ?_) (.cons (.gtg ?_) .nil)))) ⟨rfl,rfl⟩ (SubH.get ⟨?_,trivial⟩) (zaE rfl);rotate_left 4;all_goals (first|((first|(rw[w1 (by omega)];all_goals rfl)|(rw[w2 (by omega) y hcy];all_goals first|rfl|(rw[List.append_nil] at hg2;rw[<-hg2];rfl))|(exfalso;rw[List.append_nil] at hg1;exact hall (by omega) (by rw[<-hg1.1];exact hg1.2)));done)|(first|(rw[w1 (by omega)];all_goals rfl)|(rw[w2 (by omega) y hcy];rw[List.append_nil] at hg2;rw[<-hg2];all_goals rfl)|(exfalso;rw[List.append_nil] at hg1;exact hall (by omega) (by rw[<-hg1.1];exact hg1.2))))
theorem zc1 {w:List Data} (hs:Spa w):∀(n:Nat) (s:Bool){a k:Int}{p:Pat},n<=10->zau w n ⟨a,k⟩ p=true->InS (w.length*4) ⟨a,k⟩->p.ok->zax w (zam w) n ⟨a,k⟩ p=false->zbo w n ⟨a,k⟩ p=false->
  FnD Tryz.prog 70 [.d (sPtr w (zam w)),.agg [.d (.i a),.d (.i k)],.agg [.d (.i p.op),.d (.i p.ctor),.d (.i p.n),.d (.i p.m),.d (.i p.var),.d (zaj p.kids)]] [] (.agg [.d (.i (zap w n ⟨a,k⟩ p).ctor),.d (.i (zap w n ⟨a,k⟩ p).num),.gt (bif s then 61 else 63) ((zap w n ⟨a,k⟩ p).kids.map Val.cc)]) [((bif s then 61 else 63),some (.tok ((zap w n ⟨a,k⟩ p).kids.map Val.cc).length 3))]
 |0,s,a,k,p,_,h,_,_,_,_=>by simp[zau] at h
 |n+1,true,a,k,p,hn,h,hi,hok,he,hdp=>by
  rw[Pat.ok_iff] at hok;have hd:=hs.dp;have hw4:=hd.four;have ht:=zbE hi;have pk:=zh2 (k:=k) h;obtain⟨ho,hlen⟩:=zbg h;have hkid:=fun i (hi:i<p.kids.length)=>zbj h hi;have hk1:=pk.one;have hk2:=pk.two;have l5:=pk.len5;have hops:=pk.ops;have hl6:p.op=6->p.kids.length=1:=fun h6=>(zcq h h6).1;have hdq:p.op=1\/p.op=2->Dq w 10 ⟨a,k⟩:=fun h1=>by
   have h8:=zj8 h1 hdp;rw[za6,if_pos h1] at he;have:=of_decide_eq_false he;exact⟨hi,by omega,h8⟩
  show FnD Tryz.prog 70 _ _ (.agg [.d (.i (zap w (n+1) ⟨a,k⟩ p).ctor),.d (.i (zap w (n+1) ⟨a,k⟩ p).num),.gt 61 ((zap w (n+1) ⟨a,k⟩ p).kids.map Val.cc)]) [(61,some (.tok ((zap w (n+1) ⟨a,k⟩ p).kids.map Val.cc).length 3))]
  by_cases h4:p.op=4
  ·have c1:=pk.mem h4;have hdk:=zcp (by omega) hdp hlen.symm;rw[zbe h4] at hlen hkid hdk;rw[za6,if_neg (by omega),if_neg (by omega),zbe h4] at he;have ha:all2 (fun u q=> !zax w (zam w) n u q) (zad w ⟨a,k⟩ p.ctor) p.kids=true:=by simpa using he
   have hek:=fun i (hi2:i<p.kids.length)=>(by have:=zd6 hlen.symm ha i (by omega);simpa using this:zax w (zam w) n (nth (zad w ⟨a,k⟩ p.ctor) i) (nth p.kids i)=false);have ih:∀i,i<p.kids.length->FnD Tryz.prog 70 [.d (sPtr w (zam w)),.agg [.d (.i (nth (zad w ⟨a,k⟩ p.ctor) i).data),.d (.i (nth (zad w ⟨a,k⟩ p.ctor) i).index)],.agg [.d (.i (nth p.kids i).op),.d (.i (nth p.kids i).ctor),.d (.i (nth p.kids i).n),.d (.i (nth p.kids i).m),.d (.i (nth p.kids i).var),.d (zaj (nth p.kids i).kids)]] [] (.agg [.d (.i (zap w n (nth (zad w ⟨a,k⟩ p.ctor) i) (nth p.kids i)).ctor),.d (.i (zap w n (nth (zad w ⟨a,k⟩ p.ctor) i) (nth p.kids i)).num),.gt 63 ((zap w n (nth (zad w ⟨a,k⟩ p.ctor) i) (nth p.kids i)).kids.map Val.cc)]) [(63,some (.tok ((zap w n (nth (zad w ⟨a,k⟩ p.ctor) i) (nth p.kids i)).kids.map Val.cc).length 3))]:=fun i hi2=>zc1 hs n false (a:=(nth (zad w ⟨a,k⟩ p.ctor) i).data) (k:=(nth (zad w ⟨a,k⟩ p.ctor) i).index) (p:=nth p.kids i) (by omega) (hkid i hi2) (zbh hd hi c1 _ (zai (by omega))) (Pats.ok_mem hok.2 _ (zai hi2)) (hek i hi2) (hdk i hi2);have hal:=hs.args ⟨a,k⟩ p.ctor hi c1;have hzl:=ze4 (f:=zap w n) hlen.symm;have hzt:=fun i (hi2:i<(zad w ⟨a,k⟩ p.ctor).length)=>zkR (f:=zap w n) hlen.symm hi2;have hsv:=zjl (w:=w) (n:=n) (t:=⟨a,k⟩) h4;generalize hZ:zipV (zap w n) (zad w ⟨a,k⟩ p.ctor) p.kids=Z at *;rw[hsv];show FnD Tryz.prog 70 _ _ (.agg [.d (.i p.ctor),.d (.i 0),.gt 61 (Z.map Val.cc)]) [(61,some (.tok (Z.map Val.cc).length 3))]
   refine bd Tryz.f70 94 [] [] fun w0 F0 own kept hk=>?_;refine bx 3004 ?_;refine bx 3005 ?_;refine ab 3006 tz49 ?_;refine tv ?_;refine sq ?_ ?_<;>intro h1 h1p h1s<;>(try simp only[Q,Pat.cs_len] at h1p);refine sq ?_ ?_<;>intro h2 h2p h2s<;>(try simp only[Q,Pat.cs_len] at h2p);exfalso;omega;refine sq ?_ ?_<;>intro h3 h3p h3s<;>(try simp only[Q,Pat.cs_len] at h3p);exfalso;omega;refine sq ?_ ?_<;>intro h4 h4p h4s<;>(try simp only[Q,Pat.cs_len] at h4p);exfalso;omega;refine sq ?_ ?_<;>intro h5 h5p h5s<;>(try simp only[Q,Pat.cs_len] at h5p);exfalso;omega;refine bu [0] [_] st49 ?_;refine ab 3007 tz49 ?_;refine so ty49 ?_;refine tv ?_;refine wc zdf (zbp hd.wt ht c1) rfl rfl ?_;refine evd [] [] ?_;refine dr ?_;refine xas 3007 2 61 3 rfl rfl rfl rfl ?_;refine xam (ι:=Nat) hk (fun i=>[(74,.d (.i (i:Int)))]) [8,9,75,76,77,78,79,80,81,82,83,84,85,86,87,88,89,90,91,92] (fun i=>[(3007,some (.box [.d (.i p.ctor),.d (.i 0),.gt 61 ((Z.take i).map Val.cc)])),(61,some (.tok ((Z.take i).map Val.cc).length 3))]) (fun i=>i<=(zad w ⟨a,k⟩ p.ctor).length) (fun i=>(zad w ⟨a,k⟩ p.ctor).length-i) 0 (by omega) ⟨⟨_,rfl,xax ?_⟩,trivial⟩ ⟨?_,⟨zag ?_,trivial⟩⟩ (fun x=>rfl) (fun i hg1=>?_);focus (first|rfl|(simp;done)|omega|(rw[hzt i (by omega)];simp;done)|(simp;omega))
   focus (first|rfl|(simp[getH,Val.cs_cc];done)|(rw[hzt i (by omega)];simp[getH,Val.cs_cc];done))
   focus (first|rfl|(simp;done)|omega|(rw[hzt i (by omega)];simp;done)|(simp;omega))
   refine evc [] [] ?_;refine sq ?_ ?_<;>intro h6 h6p h6s<;>(try simp only[Q,Pat.cs_len] at h6p);refine xaP zaK .none rfl rfl rfl rfl (zaz (by omega)) rfl ?_;refine ev ?_;refine ab 3009 tz25 ?_;refine ev ?_;refine so ty25 ?_;refine tv ?_;refine xaP sl34 .none rfl rfl rfl rfl (zas (by omega)) rfl ?_;refine evd [] [] ?_;refine Walk.call (cr:=[63]) zc7 (ih i (by omega)) rfl .none rfl rfl (LeL.refl _) trivial rfl (by first|rfl|(simp only[zar,List.all_cons,List.all_nil,zaC,zay,AV.idsL,AV.ids,zab,zaa,xae,List.map_nil];rfl)) (by first|rfl|(simp only[zak,occH,occE,Res.ids,xag,List.nil_append,AV.idsL,AV.ids,zab,zaa,zac,zal,xae,List.map_nil,upC];rfl)) ?_;refine xbe (id:=3089) sl47 tz49 rfl (by decide) (ks:=[0]) (xs:=[_]) rfl rfl (by decide) (by decide) .none rfl rfl rfl rfl rfl rfl rfl ?_;refine xaD hk rfl sl47 zz49 .none rfl rfl rfl rfl (zdY rfl (by first|rfl|(simp;done)|(simp;omega))) rfl (.sc rfl (.sc rfl (.gt rfl (by first|rfl|(simp;done)) .nil))) rfl rfl (by simp;omega) (by simp;omega) ?_;refine evd [] [] ?_;refine so ty47 ?_;refine dr ?_;refine ar ?_;refine xah (i+1) ⟨(by omega),(by omega),sx ⟨⟨_,rfl,xax ?_⟩,trivial⟩ ⟨?_,⟨zag ?_,trivial⟩⟩⟩;focus (first|rfl|(simp;done)|omega|(rw[hzt i (by omega)];simp;done)|(simp;omega))
   focus (first|rfl|(simp[getH,Val.cs_cc];done)|(rw[hzt i (by omega)];simp[getH,Val.cs_cc];done))
   focus (first|rfl|(simp;done)|omega|(rw[hzt i (by omega)];simp;done)|(simp;omega))
   refine so ty49 ?_;refine tv ?_;refine rn [(61,some (.tok (Z.map Val.cc).length 3))] (.cons (.cellA ty49 rfl rfl rfl) .nil) (.agg (.cons (.eqd ?_) (.cons (.eqd ?_) (.cons (.gtg ?_) .nil)))) ⟨rfl,rfl⟩ (SubH.get ⟨?_,trivial⟩) (zaE rfl);rotate_left 4;refine sq ?_ ?_<;>intro h7 h7p h7s<;>(try simp only[Q,Pat.cs_len] at h7p);exfalso;omega;refine sq ?_ ?_<;>intro h8 h8p h8s<;>(try simp only[Q,Pat.cs_len] at h8p);exfalso;omega;refine sq ?_ ?_<;>intro h9 h9p h9s<;>(try simp only[Q,Pat.cs_len] at h9p);exfalso;omega;refine sq ?_ ?_<;>intro h10 h10p h10s<;>(try simp only[Q,Pat.cs_len] at h10p);exfalso;omega;refine bu [0] [_] st49 ?_;refine ab 3007 tz49 ?_;refine so ty49 ?_;refine tv ?_;refine wc zdf (zbp hd.wt ht c1) rfl rfl ?_;refine evd [] [] ?_;refine dr ?_;refine xas 3007 2 61 3 rfl rfl rfl rfl ?_;refine xam (ι:=Nat) hk (fun i=>[(74,.d (.i (i:Int)))]) [8,9,75,76,77,78,79,80,81,82,83,84,85,86,87,88,89,90,91,92] (fun i=>[(3007,some (.box [.d (.i p.ctor),.d (.i 0),.gt 61 ((Z.take i).map Val.cc)])),(61,some (.tok ((Z.take i).map Val.cc).length 3))]) (fun i=>i<=(zad w ⟨a,k⟩ p.ctor).length) (fun i=>(zad w ⟨a,k⟩ p.ctor).length-i) 0 (by omega) ⟨⟨_,rfl,xax ?_⟩,trivial⟩ ⟨?_,⟨zag ?_,trivial⟩⟩ (fun x=>rfl) (fun i hg1=>?_);focus (first|rfl|(simp;done)|omega|(rw[hzt i (by omega)];simp;done)|(simp;omega))
   focus (first|rfl|(simp[getH,Val.cs_cc];done)|(rw[hzt i (by omega)];simp[getH,Val.cs_cc];done))
   focus (first|rfl|(simp;done)|omega|(rw[hzt i (by omega)];simp;done)|(simp;omega))
   refine evc [] [] ?_;refine sq ?_ ?_<;>intro h11 h11p h11s<;>(try simp only[Q,Pat.cs_len] at h11p);refine xaP zaK .none rfl rfl rfl rfl (zaz (by omega)) rfl ?_;refine ev ?_;refine ab 3009 tz25 ?_;refine ev ?_;refine so ty25 ?_;refine tv ?_;refine xaP sl34 .none rfl rfl rfl rfl (zas (by omega)) rfl ?_;refine evd [] [] ?_;refine Walk.call (cr:=[63]) zc7 (ih i (by omega)) rfl .none rfl rfl (LeL.refl _) trivial rfl (by first|rfl|(simp only[zar,List.all_cons,List.all_nil,zaC,zay,AV.idsL,AV.ids,zab,zaa,xae,List.map_nil];rfl)) (by first|rfl|(simp only[zak,occH,occE,Res.ids,xag,List.nil_append,AV.idsL,AV.ids,zab,zaa,zac,zal,xae,List.map_nil,upC];rfl)) ?_;refine xbe (id:=3089) sl47 tz49 rfl (by decide) (ks:=[0]) (xs:=[_]) rfl rfl (by decide) (by decide) .none rfl rfl rfl rfl rfl rfl rfl ?_;refine xaD hk rfl sl47 zz49 .none rfl rfl rfl rfl (zdY rfl (by first|rfl|(simp;done)|(simp;omega))) rfl (.sc rfl (.sc rfl (.gt rfl (by first|rfl|(simp;done)) .nil))) rfl rfl (by simp;omega) (by simp;omega) ?_;refine evd [] [] ?_;refine so ty47 ?_;refine dr ?_;refine ar ?_;refine xah (i+1) ⟨(by omega),(by omega),sx ⟨⟨_,rfl,xax ?_⟩,trivial⟩ ⟨?_,⟨zag ?_,trivial⟩⟩⟩;focus (first|rfl|(simp;done)|omega|(rw[hzt i (by omega)];simp;done)|(simp;omega))
   focus (first|rfl|(simp[getH,Val.cs_cc];done)|(rw[hzt i (by omega)];simp[getH,Val.cs_cc];done))
   focus (first|rfl|(simp;done)|omega|(rw[hzt i (by omega)];simp;done)|(simp;omega))
   refine so ty49 ?_;refine tv ?_;refine rn [(61,some (.tok (Z.map Val.cc).length 3))] (.cons (.cellA ty49 rfl rfl rfl) .nil) (.agg (.cons (.eqd ?_) (.cons (.eqd ?_) (.cons (.gtg ?_) .nil)))) ⟨rfl,rfl⟩ (SubH.get ⟨?_,trivial⟩) (zaE rfl);rotate_left 4;all_goals (first|((first|rfl|(rw[List.take_of_length_le (by omega)];done));done)|(rw[List.take_of_length_le (by omega)];rfl))
  ·have h3v:=zjk (w:=w) (n:=n) (t:=⟨a,k⟩) (p:=p);have h1v:=zhx (w:=w) (n:=n) (t:=⟨a,k⟩) (p:=p);have h6v:=zjm (w:=w) (n:=n) (t:=⟨a,k⟩) (p:=p);have h5a:=zh6 (w:=w) (n:=n) (t:=⟨a,k⟩) (p:=p);have h5b:=zh7 (w:=w) (n:=n) (t:=⟨a,k⟩) (p:=p);have hT6:p.op=6->zax w (zam w) n ⟨a,k⟩ (nth p.kids 0)=false:=fun h6=>by rw[<-zhk h6 (zcq h h6).1];exact he
   have hT5:p.op=5->zax w (zam w) n ⟨a,k⟩ (nth p.kids 0)=true->zax w (zam w) n ⟨a,k⟩ (nth p.kids 1)=false:=fun h5 e0=>by
    rw[za6,if_neg (by omega),if_pos h5,e0,Bool.true_and] at he;exact he
   have hD5:p.op=5->zbo w n ⟨a,k⟩ (nth p.kids 0)=false/\zbo w n ⟨a,k⟩ (nth p.kids 1)=false:=fun h5=>by
    have e5:zah w ⟨a,k⟩ p=[⟨a,k⟩,⟨a,k⟩]:=by unfold zah;rw[if_neg (by omega),if_pos h5]
    have hdk:=zcp (by omega) hdp hlen.symm;rw[e5] at hdk;have:=l5 h5;exact⟨hdk 0 (by omega),hdk 1 (by omega)⟩
   have hD6:p.op=6->zbo w n ⟨a,k⟩ (nth p.kids 0)=false:=fun h6=>by
    have e6:zah w ⟨a,k⟩ p=[⟨a,k⟩]:=by unfold zah;rw[if_neg (by omega),if_neg (by omega),if_pos (by omega)]
    have hdk:=zcp (by omega) hdp hlen.symm;rw[e6] at hdk;exact hdk 0 (by rw[hl6 h6];omega)
   have hlt:∀ {n:Nat},Dq w n ⟨a,k⟩->FnD Tryz.prog 142 [.d (zao w),.d (dPtr (zam w)),.agg [.d (.i a),.d (.i k)]] [] (.agg [.d (.i (zaL w n ⟨a,k⟩).ctor),.d (.i (zaL w n ⟨a,k⟩).num),.gt 61 ((zaL w n ⟨a,k⟩).kids.map Val.cc)]) [(61,some (.tok ((zaL w n ⟨a,k⟩).kids.map Val.cc).length 3))]:=fun {n} hq=>zeS hs n true hq;have hst:∀ {q:Pat},zau w n ⟨a,k⟩ q=true->q.ok->zax w (zam w) n ⟨a,k⟩ q=false->zbo w n ⟨a,k⟩ q=false->FnD Tryz.prog 70 [.d (sPtr w (zam w)),.agg [.d (.i a),.d (.i k)],.agg [.d (.i q.op),.d (.i q.ctor),.d (.i q.n),.d (.i q.m),.d (.i q.var),.d (zaj q.kids)]] [] (.agg [.d (.i (zap w n ⟨a,k⟩ q).ctor),.d (.i (zap w n ⟨a,k⟩ q).num),.gt 61 ((zap w n ⟨a,k⟩ q).kids.map Val.cc)]) [(61,some (.tok ((zap w n ⟨a,k⟩ q).kids.map Val.cc).length 3))]:=fun {q} u1 u2 u3 u4=>zc1 hs n true (by omega) u1 hi u2 u3 u4;refine bd Tryz.f70 94 [] [999999] fun w0 F0 own kept hk=>?_;refine bx 3004 ?_;refine bx 3005 ?_;refine ab 3006 tz49 ?_;refine tv ?_;refine sq ?_ ?_<;>intro h1 h1p h1s<;>(try simp only[Q,Pat.cs_len] at h1p);refine sq ?_ ?_<;>intro h2 h2p h2s<;>(try simp only[Q,Pat.cs_len] at h2p);refine Walk.call (cr:=[61]) zis (hlt (n:=10) (hdq (by omega))) rfl .none rfl rfl (LeL.refl _) trivial rfl (by first|rfl|(simp only[zar,List.all_cons,List.all_nil,zaC,zay,AV.idsL,AV.ids,zab,zaa,xae,List.map_nil];rfl)) (by first|rfl|(simp only[zak,occH,occE,Res.ids,xag,List.nil_append,AV.idsL,AV.ids,zab,zaa,zac,zal,xae,List.map_nil,upC];rfl)) ?_;refine so ty49 ?_;refine dr ?_;refine CWp.ret ?_;refine rn [(61,some (.tok ((zap w (n+1) ⟨a,k⟩ p).kids.map Val.cc).length 3))] (.cons (.cellA ty49 rfl rfl rfl) .nil) (.agg (.cons (.eqd ?_) (.cons (.eqd ?_) (.cons (.gtg ?_) .nil)))) ⟨rfl,rfl⟩ (SubH.get ⟨?_,trivial⟩) (zaE rfl);rotate_left 4;refine sq ?_ ?_<;>intro h3 h3p h3s<;>(try simp only[Q,Pat.cs_len] at h3p);refine wc zit (zcx (n:=p.n)) rfl rfl ?_;refine so ty49 ?_;refine tv ?_;refine xas 3006 2 61 3 rfl rfl rfl rfl ?_;refine CWp.ret ?_;refine rn [(61,some (.tok ((zap w (n+1) ⟨a,k⟩ p).kids.map Val.cc).length 3))] (.cons (.cellA ty49 rfl rfl rfl) .nil) (.agg (.cons (.eqd ?_) (.cons (.eqd ?_) (.cons (.gtg ?_) .nil)))) ⟨rfl,rfl⟩ (SubH.get ⟨?_,trivial⟩) (zaE rfl);rotate_left 4;refine sq ?_ ?_<;>intro h4 h4p h4s<;>(try simp only[Q,Pat.cs_len] at h4p);refine xaP (i:=0) sl34 .none rfl rfl rfl rfl (zas (by first|(have:=l5 (by omega);omega)|(have:=hl6 (by omega);omega))) rfl ?_;refine evd [] [] ?_;refine Walk.call (cr:=[61]) zc7 (hst (hk1 (by omega)) (Pats.ok_mem hok.2 _ (zai (i:=0) (by have:=hl6 (by omega);omega))) (hT6 (by omega)) (hD6 (by omega))) rfl .none rfl rfl (LeL.refl _) trivial rfl (by first|rfl|(simp only[zar,List.all_cons,List.all_nil,zaC,zay,AV.idsL,AV.ids,zab,zaa,xae,List.map_nil];rfl)) (by first|rfl|(simp only[zak,occH,occE,Res.ids,xag,List.nil_append,AV.idsL,AV.ids,zab,zaa,zac,zal,xae,List.map_nil,upC];rfl)) ?_;refine so ty49 ?_;refine dr ?_;refine CWp.ret ?_;refine rn [(61,some (.tok ((zap w (n+1) ⟨a,k⟩ p).kids.map Val.cc).length 3))] (.cons (.cellA ty49 rfl rfl rfl) .nil) (.agg (.cons (.eqd ?_) (.cons (.eqd ?_) (.cons (.gtg ?_) .nil)))) ⟨rfl,rfl⟩ (SubH.get ⟨?_,trivial⟩) (zaE rfl);rotate_left 4;refine sq ?_ ?_<;>intro h5 h5p h5s<;>(try simp only[Q,Pat.cs_len] at h5p);refine xaP (i:=0) sl34 .none rfl rfl rfl rfl (zas (by first|(have:=l5 (by omega);omega)|(have:=hl6 (by omega);omega))) rfl ?_;refine evd [] [] ?_;refine wc zdW (zbz hd n (hk1 (by omega)) hi (Pats.ok_mem hok.2 _ (zai (i:=0) (by omega)))) rfl rfl ?_;refine dr ?_;refine sq ?_ ?_<;>intro h6 h6p h6s<;>(try simp only[Q,Pat.cs_len] at h6p);refine xaP (i:=1) sl34 .none rfl rfl rfl rfl (zas (by first|(have:=l5 (by omega);omega)|(have:=hl6 (by omega);omega))) rfl ?_;refine evd [] [] ?_;refine Walk.call (cr:=[61]) zc7 (hst (hk2 (by omega)) (Pats.ok_mem hok.2 _ (zai (i:=1) (by have:=l5 (by omega);omega))) (hT5 (by omega) (by simp_all)) (hD5 (by omega)).2) rfl .none rfl rfl (LeL.refl _) trivial rfl (by first|rfl|(simp only[zar,List.all_cons,List.all_nil,zaC,zay,AV.idsL,AV.ids,zab,zaa,xae,List.map_nil];rfl)) (by first|rfl|(simp only[zak,occH,occE,Res.ids,xag,List.nil_append,AV.idsL,AV.ids,zab,zaa,zac,zal,xae,List.map_nil,upC];rfl)) ?_;refine so ty49 ?_;refine dr ?_;refine CWp.ret ?_;refine rn [(61,some (.tok ((zap w (n+1) ⟨a,k⟩ p).kids.map Val.cc).length 3))] (.cons (.cellA ty49 rfl rfl rfl) .nil) (.agg (.cons (.eqd ?_) (.cons (.eqd ?_) (.cons (.gtg ?_) .nil)))) ⟨rfl,rfl⟩ (SubH.get ⟨?_,trivial⟩) (zaE rfl);rotate_left 4;refine xaP (i:=0) sl34 .none rfl rfl rfl rfl (zas (by first|(have:=l5 (by omega);omega)|(have:=hl6 (by omega);omega))) rfl ?_;refine evd [] [] ?_;refine Walk.call (cr:=[61]) zc7 (hst (hk1 (by omega)) (Pats.ok_mem hok.2 _ (zai (i:=0) (by have:=l5 (by omega);omega))) (by simp_all) (hD5 (by omega)).1) rfl .none rfl rfl (LeL.refl _) trivial rfl (by first|rfl|(simp only[zar,List.all_cons,List.all_nil,zaC,zay,AV.idsL,AV.ids,zab,zaa,xae,List.map_nil];rfl)) (by first|rfl|(simp only[zak,occH,occE,Res.ids,xag,List.nil_append,AV.idsL,AV.ids,zab,zaa,zac,zal,xae,List.map_nil,upC];rfl)) ?_;refine so ty49 ?_;refine dr ?_;refine CWp.ret ?_;refine rn [(61,some (.tok ((zap w (n+1) ⟨a,k⟩ p).kids.map Val.cc).length 3))] (.cons (.cellA ty49 rfl rfl rfl) .nil) (.agg (.cons (.eqd ?_) (.cons (.eqd ?_) (.cons (.gtg ?_) .nil)))) ⟨rfl,rfl⟩ (SubH.get ⟨?_,trivial⟩) (zaE rfl);rotate_left 4;exfalso;omega;refine sq ?_ ?_<;>intro h7 h7p h7s<;>(try simp only[Q,Pat.cs_len] at h7p);refine Walk.call (cr:=[61]) zis (hlt (n:=10) (hdq (by omega))) rfl .none rfl rfl (LeL.refl _) trivial rfl (by first|rfl|(simp only[zar,List.all_cons,List.all_nil,zaC,zay,AV.idsL,AV.ids,zab,zaa,xae,List.map_nil];rfl)) (by first|rfl|(simp only[zak,occH,occE,Res.ids,xag,List.nil_append,AV.idsL,AV.ids,zab,zaa,zac,zal,xae,List.map_nil,upC];rfl)) ?_;refine so ty49 ?_;refine dr ?_;refine CWp.ret ?_;refine rn [(61,some (.tok ((zap w (n+1) ⟨a,k⟩ p).kids.map Val.cc).length 3))] (.cons (.cellA ty49 rfl rfl rfl) .nil) (.agg (.cons (.eqd ?_) (.cons (.eqd ?_) (.cons (.gtg ?_) .nil)))) ⟨rfl,rfl⟩ (SubH.get ⟨?_,trivial⟩) (zaE rfl);rotate_left 4;refine sq ?_ ?_<;>intro h8 h8p h8s<;>(try simp only[Q,Pat.cs_len] at h8p);refine wc zit (zcx (n:=p.n)) rfl rfl ?_;refine so ty49 ?_;refine tv ?_;refine xas 3006 2 61 3 rfl rfl rfl rfl ?_;refine CWp.ret ?_;refine rn [(61,some (.tok ((zap w (n+1) ⟨a,k⟩ p).kids.map Val.cc).length 3))] (.cons (.cellA ty49 rfl rfl rfl) .nil) (.agg (.cons (.eqd ?_) (.cons (.eqd ?_) (.cons (.gtg ?_) .nil)))) ⟨rfl,rfl⟩ (SubH.get ⟨?_,trivial⟩) (zaE rfl);rotate_left 4;refine sq ?_ ?_<;>intro h9 h9p h9s<;>(try simp only[Q,Pat.cs_len] at h9p);refine xaP (i:=0) sl34 .none rfl rfl rfl rfl (zas (by first|(have:=l5 (by omega);omega)|(have:=hl6 (by omega);omega))) rfl ?_;refine evd [] [] ?_;refine Walk.call (cr:=[61]) zc7 (hst (hk1 (by omega)) (Pats.ok_mem hok.2 _ (zai (i:=0) (by have:=hl6 (by omega);omega))) (hT6 (by omega)) (hD6 (by omega))) rfl .none rfl rfl (LeL.refl _) trivial rfl (by first|rfl|(simp only[zar,List.all_cons,List.all_nil,zaC,zay,AV.idsL,AV.ids,zab,zaa,xae,List.map_nil];rfl)) (by first|rfl|(simp only[zak,occH,occE,Res.ids,xag,List.nil_append,AV.idsL,AV.ids,zab,zaa,zac,zal,xae,List.map_nil,upC];rfl)) ?_;refine so ty49 ?_;refine dr ?_;refine CWp.ret ?_;refine rn [(61,some (.tok ((zap w (n+1) ⟨a,k⟩ p).kids.map Val.cc).length 3))] (.cons (.cellA ty49 rfl rfl rfl) .nil) (.agg (.cons (.eqd ?_) (.cons (.eqd ?_) (.cons (.gtg ?_) .nil)))) ⟨rfl,rfl⟩ (SubH.get ⟨?_,trivial⟩) (zaE rfl);rotate_left 4;refine sq ?_ ?_<;>intro h10 h10p h10s<;>(try simp only[Q,Pat.cs_len] at h10p);refine xaP (i:=0) sl34 .none rfl rfl rfl rfl (zas (by first|(have:=l5 (by omega);omega)|(have:=hl6 (by omega);omega))) rfl ?_;refine evd [] [] ?_;refine wc zdW (zbz hd n (hk1 (by omega)) hi (Pats.ok_mem hok.2 _ (zai (i:=0) (by omega)))) rfl rfl ?_;refine dr ?_;refine sq ?_ ?_<;>intro h11 h11p h11s<;>(try simp only[Q,Pat.cs_len] at h11p);refine xaP (i:=1) sl34 .none rfl rfl rfl rfl (zas (by first|(have:=l5 (by omega);omega)|(have:=hl6 (by omega);omega))) rfl ?_;refine evd [] [] ?_;refine Walk.call (cr:=[61]) zc7 (hst (hk2 (by omega)) (Pats.ok_mem hok.2 _ (zai (i:=1) (by have:=l5 (by omega);omega))) (hT5 (by omega) (by simp_all)) (hD5 (by omega)).2) rfl .none rfl rfl (LeL.refl _) trivial rfl (by first|rfl|(simp only[zar,List.all_cons,List.all_nil,zaC,zay,AV.idsL,AV.ids,zab,zaa,xae,List.map_nil];rfl)) (by first|rfl|(simp only[zak,occH,occE,Res.ids,xag,List.nil_append,AV.idsL,AV.ids,zab,zaa,zac,zal,xae,List.map_nil,upC];rfl)) ?_;refine so ty49 ?_;refine dr ?_;refine CWp.ret ?_;refine rn [(61,some (.tok ((zap w (n+1) ⟨a,k⟩ p).kids.map Val.cc).length 3))] (.cons (.cellA ty49 rfl rfl rfl) .nil) (.agg (.cons (.eqd ?_) (.cons (.eqd ?_) (.cons (.gtg ?_) .nil)))) ⟨rfl,rfl⟩ (SubH.get ⟨?_,trivial⟩) (zaE rfl);rotate_left 4;refine xaP (i:=0) sl34 .none rfl rfl rfl rfl (zas (by first|(have:=l5 (by omega);omega)|(have:=hl6 (by omega);omega))) rfl ?_;refine evd [] [] ?_;refine Walk.call (cr:=[61]) zc7 (hst (hk1 (by omega)) (Pats.ok_mem hok.2 _ (zai (i:=0) (by have:=l5 (by omega);omega))) (by simp_all) (hD5 (by omega)).1) rfl .none rfl rfl (LeL.refl _) trivial rfl (by first|rfl|(simp only[zar,List.all_cons,List.all_nil,zaC,zay,AV.idsL,AV.ids,zab,zaa,xae,List.map_nil];rfl)) (by first|rfl|(simp only[zak,occH,occE,Res.ids,xag,List.nil_append,AV.idsL,AV.ids,zab,zaa,zac,zal,xae,List.map_nil,upC];rfl)) ?_;refine so ty49 ?_;refine dr ?_;refine CWp.ret ?_;refine rn [(61,some (.tok ((zap w (n+1) ⟨a,k⟩ p).kids.map Val.cc).length 3))] (.cons (.cellA ty49 rfl rfl rfl) .nil) (.agg (.cons (.eqd ?_) (.cons (.eqd ?_) (.cons (.gtg ?_) .nil)))) ⟨rfl,rfl⟩ (SubH.get ⟨?_,trivial⟩) (zaE rfl);rotate_left 4;exfalso;omega;all_goals (first|((first|(rw[h3v (by omega)];all_goals rfl)|(rw[h1v (by omega)];all_goals rfl)|(rw[h6v (by omega)];all_goals rfl)|(rw[h5a (by omega) (by simp_all)];all_goals rfl)|(rw[h5b (by omega) (by simp_all)];all_goals rfl));done)|(first|(rw[h3v (by omega)];all_goals rfl)|(rw[h1v (by omega)];all_goals rfl)|(rw[h6v (by omega)];all_goals rfl)|(rw[h5a (by omega) (by simp_all)];all_goals rfl)|(rw[h5b (by omega) (by simp_all)];all_goals rfl)))
 |n+1,false,a,k,p,hn,h,hi,hok,he,hdp=>by
  rw[Pat.ok_iff] at hok;have hd:=hs.dp;have hw4:=hd.four;have ht:=zbE hi;have pk:=zh2 (k:=k) h;obtain⟨ho,hlen⟩:=zbg h;have hkid:=fun i (hi:i<p.kids.length)=>zbj h hi;have hk1:=pk.one;have hk2:=pk.two;have l5:=pk.len5;have hops:=pk.ops;have hl6:p.op=6->p.kids.length=1:=fun h6=>(zcq h h6).1;have hdq:p.op=1\/p.op=2->Dq w 10 ⟨a,k⟩:=fun h1=>by
   have h8:=zj8 h1 hdp;rw[za6,if_pos h1] at he;have:=of_decide_eq_false he;exact⟨hi,by omega,h8⟩
  show FnD Tryz.prog 70 _ _ (.agg [.d (.i (zap w (n+1) ⟨a,k⟩ p).ctor),.d (.i (zap w (n+1) ⟨a,k⟩ p).num),.gt 63 ((zap w (n+1) ⟨a,k⟩ p).kids.map Val.cc)]) [(63,some (.tok ((zap w (n+1) ⟨a,k⟩ p).kids.map Val.cc).length 3))]
  by_cases h4:p.op=4
  ·have c1:=pk.mem h4;have hdk:=zcp (by omega) hdp hlen.symm;rw[zbe h4] at hlen hkid hdk;rw[za6,if_neg (by omega),if_neg (by omega),zbe h4] at he;have ha:all2 (fun u q=> !zax w (zam w) n u q) (zad w ⟨a,k⟩ p.ctor) p.kids=true:=by simpa using he
   have hek:=fun i (hi2:i<p.kids.length)=>(by have:=zd6 hlen.symm ha i (by omega);simpa using this:zax w (zam w) n (nth (zad w ⟨a,k⟩ p.ctor) i) (nth p.kids i)=false);have ih:∀i,i<p.kids.length->FnD Tryz.prog 70 [.d (sPtr w (zam w)),.agg [.d (.i (nth (zad w ⟨a,k⟩ p.ctor) i).data),.d (.i (nth (zad w ⟨a,k⟩ p.ctor) i).index)],.agg [.d (.i (nth p.kids i).op),.d (.i (nth p.kids i).ctor),.d (.i (nth p.kids i).n),.d (.i (nth p.kids i).m),.d (.i (nth p.kids i).var),.d (zaj (nth p.kids i).kids)]] [] (.agg [.d (.i (zap w n (nth (zad w ⟨a,k⟩ p.ctor) i) (nth p.kids i)).ctor),.d (.i (zap w n (nth (zad w ⟨a,k⟩ p.ctor) i) (nth p.kids i)).num),.gt 61 ((zap w n (nth (zad w ⟨a,k⟩ p.ctor) i) (nth p.kids i)).kids.map Val.cc)]) [(61,some (.tok ((zap w n (nth (zad w ⟨a,k⟩ p.ctor) i) (nth p.kids i)).kids.map Val.cc).length 3))]:=fun i hi2=>zc1 hs n true (a:=(nth (zad w ⟨a,k⟩ p.ctor) i).data) (k:=(nth (zad w ⟨a,k⟩ p.ctor) i).index) (p:=nth p.kids i) (by omega) (hkid i hi2) (zbh hd hi c1 _ (zai (by omega))) (Pats.ok_mem hok.2 _ (zai hi2)) (hek i hi2) (hdk i hi2);have hal:=hs.args ⟨a,k⟩ p.ctor hi c1;have hzl:=ze4 (f:=zap w n) hlen.symm;have hzt:=fun i (hi2:i<(zad w ⟨a,k⟩ p.ctor).length)=>zkR (f:=zap w n) hlen.symm hi2;have hsv:=zjl (w:=w) (n:=n) (t:=⟨a,k⟩) h4;generalize hZ:zipV (zap w n) (zad w ⟨a,k⟩ p.ctor) p.kids=Z at *;rw[hsv];show FnD Tryz.prog 70 _ _ (.agg [.d (.i p.ctor),.d (.i 0),.gt 63 (Z.map Val.cc)]) [(63,some (.tok (Z.map Val.cc).length 3))]
   refine bd Tryz.f70 94 [] [] fun w0 F0 own kept hk=>?_;refine bx 3004 ?_;refine bx 3005 ?_;refine ab 3006 tz49 ?_;refine tv ?_;refine sq ?_ ?_<;>intro h1 h1p h1s<;>(try simp only[Q,Pat.cs_len] at h1p);refine sq ?_ ?_<;>intro h2 h2p h2s<;>(try simp only[Q,Pat.cs_len] at h2p);exfalso;omega;refine sq ?_ ?_<;>intro h3 h3p h3s<;>(try simp only[Q,Pat.cs_len] at h3p);exfalso;omega;refine sq ?_ ?_<;>intro h4 h4p h4s<;>(try simp only[Q,Pat.cs_len] at h4p);exfalso;omega;refine sq ?_ ?_<;>intro h5 h5p h5s<;>(try simp only[Q,Pat.cs_len] at h5p);exfalso;omega;refine bu [0] [_] st49 ?_;refine ab 3007 tz49 ?_;refine so ty49 ?_;refine tv ?_;refine wc zdf (zbp hd.wt ht c1) rfl rfl ?_;refine evd [] [] ?_;refine dr ?_;refine xas 3007 2 63 3 rfl rfl rfl rfl ?_;refine xam (ι:=Nat) hk (fun i=>[(74,.d (.i (i:Int)))]) [8,9,75,76,77,78,79,80,81,82,83,84,85,86,87,88,89,90,91,92] (fun i=>[(3007,some (.box [.d (.i p.ctor),.d (.i 0),.gt 63 ((Z.take i).map Val.cc)])),(63,some (.tok ((Z.take i).map Val.cc).length 3))]) (fun i=>i<=(zad w ⟨a,k⟩ p.ctor).length) (fun i=>(zad w ⟨a,k⟩ p.ctor).length-i) 0 (by omega) ⟨⟨_,rfl,xax ?_⟩,trivial⟩ ⟨?_,⟨zag ?_,trivial⟩⟩ (fun x=>rfl) (fun i hg1=>?_);focus (first|rfl|(simp;done)|omega|(rw[hzt i (by omega)];simp;done)|(simp;omega))
   focus (first|rfl|(simp[getH,Val.cs_cc];done)|(rw[hzt i (by omega)];simp[getH,Val.cs_cc];done))
   focus (first|rfl|(simp;done)|omega|(rw[hzt i (by omega)];simp;done)|(simp;omega))
   refine evc [] [] ?_;refine sq ?_ ?_<;>intro h6 h6p h6s<;>(try simp only[Q,Pat.cs_len] at h6p);refine xaP zaK .none rfl rfl rfl rfl (zaz (by omega)) rfl ?_;refine ev ?_;refine ab 3009 tz25 ?_;refine ev ?_;refine so ty25 ?_;refine tv ?_;refine xaP sl34 .none rfl rfl rfl rfl (zas (by omega)) rfl ?_;refine evd [] [] ?_;refine Walk.call (cr:=[61]) zc7 (ih i (by omega)) rfl .none rfl rfl (LeL.refl _) trivial rfl (by first|rfl|(simp only[zar,List.all_cons,List.all_nil,zaC,zay,AV.idsL,AV.ids,zab,zaa,xae,List.map_nil];rfl)) (by first|rfl|(simp only[zak,occH,occE,Res.ids,xag,List.nil_append,AV.idsL,AV.ids,zab,zaa,zac,zal,xae,List.map_nil,upC];rfl)) ?_;refine xbe (id:=3089) sl47 tz49 rfl (by decide) (ks:=[0]) (xs:=[_]) rfl rfl (by decide) (by decide) .none rfl rfl rfl rfl rfl rfl rfl ?_;refine xaD hk rfl sl47 zz49 .none rfl rfl rfl rfl (zdY rfl (by first|rfl|(simp;done)|(simp;omega))) rfl (.sc rfl (.sc rfl (.gt rfl (by first|rfl|(simp;done)) .nil))) rfl rfl (by simp;omega) (by simp;omega) ?_;refine evd [] [] ?_;refine so ty47 ?_;refine dr ?_;refine ar ?_;refine xah (i+1) ⟨(by omega),(by omega),sx ⟨⟨_,rfl,xax ?_⟩,trivial⟩ ⟨?_,⟨zag ?_,trivial⟩⟩⟩;focus (first|rfl|(simp;done)|omega|(rw[hzt i (by omega)];simp;done)|(simp;omega))
   focus (first|rfl|(simp[getH,Val.cs_cc];done)|(rw[hzt i (by omega)];simp[getH,Val.cs_cc];done))
   focus (first|rfl|(simp;done)|omega|(rw[hzt i (by omega)];simp;done)|(simp;omega))
   refine so ty49 ?_;refine tv ?_;refine rn [(63,some (.tok (Z.map Val.cc).length 3))] (.cons (.cellA ty49 rfl rfl rfl) .nil) (.agg (.cons (.eqd ?_) (.cons (.eqd ?_) (.cons (.gtg ?_) .nil)))) ⟨rfl,rfl⟩ (SubH.get ⟨?_,trivial⟩) (zaE rfl);rotate_left 4;refine sq ?_ ?_<;>intro h7 h7p h7s<;>(try simp only[Q,Pat.cs_len] at h7p);exfalso;omega;refine sq ?_ ?_<;>intro h8 h8p h8s<;>(try simp only[Q,Pat.cs_len] at h8p);exfalso;omega;refine sq ?_ ?_<;>intro h9 h9p h9s<;>(try simp only[Q,Pat.cs_len] at h9p);exfalso;omega;refine sq ?_ ?_<;>intro h10 h10p h10s<;>(try simp only[Q,Pat.cs_len] at h10p);exfalso;omega;refine bu [0] [_] st49 ?_;refine ab 3007 tz49 ?_;refine so ty49 ?_;refine tv ?_;refine wc zdf (zbp hd.wt ht c1) rfl rfl ?_;refine evd [] [] ?_;refine dr ?_;refine xas 3007 2 63 3 rfl rfl rfl rfl ?_;refine xam (ι:=Nat) hk (fun i=>[(74,.d (.i (i:Int)))]) [8,9,75,76,77,78,79,80,81,82,83,84,85,86,87,88,89,90,91,92] (fun i=>[(3007,some (.box [.d (.i p.ctor),.d (.i 0),.gt 63 ((Z.take i).map Val.cc)])),(63,some (.tok ((Z.take i).map Val.cc).length 3))]) (fun i=>i<=(zad w ⟨a,k⟩ p.ctor).length) (fun i=>(zad w ⟨a,k⟩ p.ctor).length-i) 0 (by omega) ⟨⟨_,rfl,xax ?_⟩,trivial⟩ ⟨?_,⟨zag ?_,trivial⟩⟩ (fun x=>rfl) (fun i hg1=>?_);focus (first|rfl|(simp;done)|omega|(rw[hzt i (by omega)];simp;done)|(simp;omega))
   focus (first|rfl|(simp[getH,Val.cs_cc];done)|(rw[hzt i (by omega)];simp[getH,Val.cs_cc];done))
   focus (first|rfl|(simp;done)|omega|(rw[hzt i (by omega)];simp;done)|(simp;omega))
   refine evc [] [] ?_;refine sq ?_ ?_<;>intro h11 h11p h11s<;>(try simp only[Q,Pat.cs_len] at h11p);refine xaP zaK .none rfl rfl rfl rfl (zaz (by omega)) rfl ?_;refine ev ?_;refine ab 3009 tz25 ?_;refine ev ?_;refine so ty25 ?_;refine tv ?_;refine xaP sl34 .none rfl rfl rfl rfl (zas (by omega)) rfl ?_;refine evd [] [] ?_;refine Walk.call (cr:=[61]) zc7 (ih i (by omega)) rfl .none rfl rfl (LeL.refl _) trivial rfl (by first|rfl|(simp only[zar,List.all_cons,List.all_nil,zaC,zay,AV.idsL,AV.ids,zab,zaa,xae,List.map_nil];rfl)) (by first|rfl|(simp only[zak,occH,occE,Res.ids,xag,List.nil_append,AV.idsL,AV.ids,zab,zaa,zac,zal,xae,List.map_nil,upC];rfl)) ?_;refine xbe (id:=3089) sl47 tz49 rfl (by decide) (ks:=[0]) (xs:=[_]) rfl rfl (by decide) (by decide) .none rfl rfl rfl rfl rfl rfl rfl ?_;refine xaD hk rfl sl47 zz49 .none rfl rfl rfl rfl (zdY rfl (by first|rfl|(simp;done)|(simp;omega))) rfl (.sc rfl (.sc rfl (.gt rfl (by first|rfl|(simp;done)) .nil))) rfl rfl (by simp;omega) (by simp;omega) ?_;refine evd [] [] ?_;refine so ty47 ?_;refine dr ?_;refine ar ?_;refine xah (i+1) ⟨(by omega),(by omega),sx ⟨⟨_,rfl,xax ?_⟩,trivial⟩ ⟨?_,⟨zag ?_,trivial⟩⟩⟩;focus (first|rfl|(simp;done)|omega|(rw[hzt i (by omega)];simp;done)|(simp;omega))
   focus (first|rfl|(simp[getH,Val.cs_cc];done)|(rw[hzt i (by omega)];simp[getH,Val.cs_cc];done))
   focus (first|rfl|(simp;done)|omega|(rw[hzt i (by omega)];simp;done)|(simp;omega))
   refine so ty49 ?_;refine tv ?_;refine rn [(63,some (.tok (Z.map Val.cc).length 3))] (.cons (.cellA ty49 rfl rfl rfl) .nil) (.agg (.cons (.eqd ?_) (.cons (.eqd ?_) (.cons (.gtg ?_) .nil)))) ⟨rfl,rfl⟩ (SubH.get ⟨?_,trivial⟩) (zaE rfl);rotate_left 4;all_goals (first|((first|rfl|(rw[List.take_of_length_le (by omega)];done));done)|(rw[List.take_of_length_le (by omega)];rfl))
  ·have h3v:=zjk (w:=w) (n:=n) (t:=⟨a,k⟩) (p:=p);have h1v:=zhx (w:=w) (n:=n) (t:=⟨a,k⟩) (p:=p);have h6v:=zjm (w:=w) (n:=n) (t:=⟨a,k⟩) (p:=p);have h5a:=zh6 (w:=w) (n:=n) (t:=⟨a,k⟩) (p:=p);have h5b:=zh7 (w:=w) (n:=n) (t:=⟨a,k⟩) (p:=p);have hT6:p.op=6->zax w (zam w) n ⟨a,k⟩ (nth p.kids 0)=false:=fun h6=>by rw[<-zhk h6 (zcq h h6).1];exact he
   have hT5:p.op=5->zax w (zam w) n ⟨a,k⟩ (nth p.kids 0)=true->zax w (zam w) n ⟨a,k⟩ (nth p.kids 1)=false:=fun h5 e0=>by
    rw[za6,if_neg (by omega),if_pos h5,e0,Bool.true_and] at he;exact he
   have hD5:p.op=5->zbo w n ⟨a,k⟩ (nth p.kids 0)=false/\zbo w n ⟨a,k⟩ (nth p.kids 1)=false:=fun h5=>by
    have e5:zah w ⟨a,k⟩ p=[⟨a,k⟩,⟨a,k⟩]:=by unfold zah;rw[if_neg (by omega),if_pos h5]
    have hdk:=zcp (by omega) hdp hlen.symm;rw[e5] at hdk;have:=l5 h5;exact⟨hdk 0 (by omega),hdk 1 (by omega)⟩
   have hD6:p.op=6->zbo w n ⟨a,k⟩ (nth p.kids 0)=false:=fun h6=>by
    have e6:zah w ⟨a,k⟩ p=[⟨a,k⟩]:=by unfold zah;rw[if_neg (by omega),if_neg (by omega),if_pos (by omega)]
    have hdk:=zcp (by omega) hdp hlen.symm;rw[e6] at hdk;exact hdk 0 (by rw[hl6 h6];omega)
   have hlt:∀ {n:Nat},Dq w n ⟨a,k⟩->FnD Tryz.prog 142 [.d (zao w),.d (dPtr (zam w)),.agg [.d (.i a),.d (.i k)]] [] (.agg [.d (.i (zaL w n ⟨a,k⟩).ctor),.d (.i (zaL w n ⟨a,k⟩).num),.gt 63 ((zaL w n ⟨a,k⟩).kids.map Val.cc)]) [(63,some (.tok ((zaL w n ⟨a,k⟩).kids.map Val.cc).length 3))]:=fun {n} hq=>zeS hs n false hq;have hst:∀ {q:Pat},zau w n ⟨a,k⟩ q=true->q.ok->zax w (zam w) n ⟨a,k⟩ q=false->zbo w n ⟨a,k⟩ q=false->FnD Tryz.prog 70 [.d (sPtr w (zam w)),.agg [.d (.i a),.d (.i k)],.agg [.d (.i q.op),.d (.i q.ctor),.d (.i q.n),.d (.i q.m),.d (.i q.var),.d (zaj q.kids)]] [] (.agg [.d (.i (zap w n ⟨a,k⟩ q).ctor),.d (.i (zap w n ⟨a,k⟩ q).num),.gt 63 ((zap w n ⟨a,k⟩ q).kids.map Val.cc)]) [(63,some (.tok ((zap w n ⟨a,k⟩ q).kids.map Val.cc).length 3))]:=fun {q} u1 u2 u3 u4=>zc1 hs n false (by omega) u1 hi u2 u3 u4;refine bd Tryz.f70 94 [] [999999] fun w0 F0 own kept hk=>?_;refine bx 3004 ?_;refine bx 3005 ?_;refine ab 3006 tz49 ?_;refine tv ?_;refine sq ?_ ?_<;>intro h1 h1p h1s<;>(try simp only[Q,Pat.cs_len] at h1p);refine sq ?_ ?_<;>intro h2 h2p h2s<;>(try simp only[Q,Pat.cs_len] at h2p);refine Walk.call (cr:=[63]) zis (hlt (n:=10) (hdq (by omega))) rfl .none rfl rfl (LeL.refl _) trivial rfl (by first|rfl|(simp only[zar,List.all_cons,List.all_nil,zaC,zay,AV.idsL,AV.ids,zab,zaa,xae,List.map_nil];rfl)) (by first|rfl|(simp only[zak,occH,occE,Res.ids,xag,List.nil_append,AV.idsL,AV.ids,zab,zaa,zac,zal,xae,List.map_nil,upC];rfl)) ?_;refine so ty49 ?_;refine dr ?_;refine CWp.ret ?_;refine rn [(63,some (.tok ((zap w (n+1) ⟨a,k⟩ p).kids.map Val.cc).length 3))] (.cons (.cellA ty49 rfl rfl rfl) .nil) (.agg (.cons (.eqd ?_) (.cons (.eqd ?_) (.cons (.gtg ?_) .nil)))) ⟨rfl,rfl⟩ (SubH.get ⟨?_,trivial⟩) (zaE rfl);rotate_left 4;refine sq ?_ ?_<;>intro h3 h3p h3s<;>(try simp only[Q,Pat.cs_len] at h3p);refine wc zit (zcx (n:=p.n)) rfl rfl ?_;refine so ty49 ?_;refine tv ?_;refine xas 3006 2 63 3 rfl rfl rfl rfl ?_;refine CWp.ret ?_;refine rn [(63,some (.tok ((zap w (n+1) ⟨a,k⟩ p).kids.map Val.cc).length 3))] (.cons (.cellA ty49 rfl rfl rfl) .nil) (.agg (.cons (.eqd ?_) (.cons (.eqd ?_) (.cons (.gtg ?_) .nil)))) ⟨rfl,rfl⟩ (SubH.get ⟨?_,trivial⟩) (zaE rfl);rotate_left 4;refine sq ?_ ?_<;>intro h4 h4p h4s<;>(try simp only[Q,Pat.cs_len] at h4p);refine xaP (i:=0) sl34 .none rfl rfl rfl rfl (zas (by first|(have:=l5 (by omega);omega)|(have:=hl6 (by omega);omega))) rfl ?_;refine evd [] [] ?_;refine Walk.call (cr:=[63]) zc7 (hst (hk1 (by omega)) (Pats.ok_mem hok.2 _ (zai (i:=0) (by have:=hl6 (by omega);omega))) (hT6 (by omega)) (hD6 (by omega))) rfl .none rfl rfl (LeL.refl _) trivial rfl (by first|rfl|(simp only[zar,List.all_cons,List.all_nil,zaC,zay,AV.idsL,AV.ids,zab,zaa,xae,List.map_nil];rfl)) (by first|rfl|(simp only[zak,occH,occE,Res.ids,xag,List.nil_append,AV.idsL,AV.ids,zab,zaa,zac,zal,xae,List.map_nil,upC];rfl)) ?_;refine so ty49 ?_;refine dr ?_;refine CWp.ret ?_;refine rn [(63,some (.tok ((zap w (n+1) ⟨a,k⟩ p).kids.map Val.cc).length 3))] (.cons (.cellA ty49 rfl rfl rfl) .nil) (.agg (.cons (.eqd ?_) (.cons (.eqd ?_) (.cons (.gtg ?_) .nil)))) ⟨rfl,rfl⟩ (SubH.get ⟨?_,trivial⟩) (zaE rfl);rotate_left 4;refine sq ?_ ?_<;>intro h5 h5p h5s<;>(try simp only[Q,Pat.cs_len] at h5p);refine xaP (i:=0) sl34 .none rfl rfl rfl rfl (zas (by first|(have:=l5 (by omega);omega)|(have:=hl6 (by omega);omega))) rfl ?_;refine evd [] [] ?_;refine wc zdW (zbz hd n (hk1 (by omega)) hi (Pats.ok_mem hok.2 _ (zai (i:=0) (by omega)))) rfl rfl ?_;refine dr ?_;refine sq ?_ ?_<;>intro h6 h6p h6s<;>(try simp only[Q,Pat.cs_len] at h6p);refine xaP (i:=1) sl34 .none rfl rfl rfl rfl (zas (by first|(have:=l5 (by omega);omega)|(have:=hl6 (by omega);omega))) rfl ?_;refine evd [] [] ?_;refine Walk.call (cr:=[63]) zc7 (hst (hk2 (by omega)) (Pats.ok_mem hok.2 _ (zai (i:=1) (by have:=l5 (by omega);omega))) (hT5 (by omega) (by simp_all)) (hD5 (by omega)).2) rfl .none rfl rfl (LeL.refl _) trivial rfl (by first|rfl|(simp only[zar,List.all_cons,List.all_nil,zaC,zay,AV.idsL,AV.ids,zab,zaa,xae,List.map_nil];rfl)) (by first|rfl|(simp only[zak,occH,occE,Res.ids,xag,List.nil_append,AV.idsL,AV.ids,zab,zaa,zac,zal,xae,List.map_nil,upC];rfl)) ?_;refine so ty49 ?_;refine dr ?_;refine CWp.ret ?_;refine rn [(63,some (.tok ((zap w (n+1) ⟨a,k⟩ p).kids.map Val.cc).length 3))] (.cons (.cellA ty49 rfl rfl rfl) .nil) (.agg (.cons (.eqd ?_) (.cons (.eqd ?_) (.cons (.gtg ?_) .nil)))) ⟨rfl,rfl⟩ (SubH.get ⟨?_,trivial⟩) (zaE rfl);rotate_left 4;refine xaP (i:=0) sl34 .none rfl rfl rfl rfl (zas (by first|(have:=l5 (by omega);omega)|(have:=hl6 (by omega);omega))) rfl ?_;refine evd [] [] ?_;refine Walk.call (cr:=[63]) zc7 (hst (hk1 (by omega)) (Pats.ok_mem hok.2 _ (zai (i:=0) (by have:=l5 (by omega);omega))) (by simp_all) (hD5 (by omega)).1) rfl .none rfl rfl (LeL.refl _) trivial rfl (by first|rfl|(simp only[zar,List.all_cons,List.all_nil,zaC,zay,AV.idsL,AV.ids,zab,zaa,xae,List.map_nil];rfl)) (by first|rfl|(simp only[zak,occH,occE,Res.ids,xag,List.nil_append,AV.idsL,AV.ids,zab,zaa,zac,zal,xae,List.map_nil,upC];rfl)) ?_;refine so ty49 ?_;refine dr ?_;refine CWp.ret ?_;refine rn [(63,some (.tok ((zap w (n+1) ⟨a,k⟩ p).kids.map Val.cc).length 3))] (.cons (.cellA ty49 rfl rfl rfl) .nil) (.agg (.cons (.eqd ?_) (.cons (.eqd ?_) (.cons (.gtg ?_) .nil)))) ⟨rfl,rfl⟩ (SubH.get ⟨?_,trivial⟩) (zaE rfl);rotate_left 4;exfalso;omega;refine sq ?_ ?_<;>intro h7 h7p h7s<;>(try simp only[Q,Pat.cs_len] at h7p);refine Walk.call (cr:=[63]) zis (hlt (n:=10) (hdq (by omega))) rfl .none rfl rfl (LeL.refl _) trivial rfl (by first|rfl|(simp only[zar,List.all_cons,List.all_nil,zaC,zay,AV.idsL,AV.ids,zab,zaa,xae,List.map_nil];rfl)) (by first|rfl|(simp only[zak,occH,occE,Res.ids,xag,List.nil_append,AV.idsL,AV.ids,zab,zaa,zac,zal,xae,List.map_nil,upC];rfl)) ?_;refine so ty49 ?_;refine dr ?_;refine CWp.ret ?_;refine rn [(63,some (.tok ((zap w (n+1) ⟨a,k⟩ p).kids.map Val.cc).length 3))] (.cons (.cellA ty49 rfl rfl rfl) .nil) (.agg (.cons (.eqd ?_) (.cons (.eqd ?_) (.cons (.gtg ?_) .nil)))) ⟨rfl,rfl⟩ (SubH.get ⟨?_,trivial⟩) (zaE rfl);rotate_left 4;refine sq ?_ ?_<;>intro h8 h8p h8s<;>(try simp only[Q,Pat.cs_len] at h8p);refine wc zit (zcx (n:=p.n)) rfl rfl ?_;refine so ty49 ?_;refine tv ?_;refine xas 3006 2 63 3 rfl rfl rfl rfl ?_;refine CWp.ret ?_;refine rn [(63,some (.tok ((zap w (n+1) ⟨a,k⟩ p).kids.map Val.cc).length 3))] (.cons (.cellA ty49 rfl rfl rfl) .nil) (.agg (.cons (.eqd ?_) (.cons (.eqd ?_) (.cons (.gtg ?_) .nil)))) ⟨rfl,rfl⟩ (SubH.get ⟨?_,trivial⟩) (zaE rfl);rotate_left 4;refine sq ?_ ?_<;>intro h9 h9p h9s<;>(try simp only[Q,Pat.cs_len] at h9p);refine xaP (i:=0) sl34 .none rfl rfl rfl rfl (zas (by first|(have:=l5 (by omega);omega)|(have:=hl6 (by omega);omega))) rfl ?_;refine evd [] [] ?_;refine Walk.call (cr:=[63]) zc7 (hst (hk1 (by omega)) (Pats.ok_mem hok.2 _ (zai (i:=0) (by have:=hl6 (by omega);omega))) (hT6 (by omega)) (hD6 (by omega))) rfl .none rfl rfl (LeL.refl _) trivial rfl (by first|rfl|(simp only[zar,List.all_cons,List.all_nil,zaC,zay,AV.idsL,AV.ids,zab,zaa,xae,List.map_nil];rfl)) (by first|rfl|(simp only[zak,occH,occE,Res.ids,xag,List.nil_append,AV.idsL,AV.ids,zab,zaa,zac,zal,xae,List.map_nil,upC];rfl)) ?_;refine so ty49 ?_;refine dr ?_;refine CWp.ret ?_;refine rn [(63,some (.tok ((zap w (n+1) ⟨a,k⟩ p).kids.map Val.cc).length 3))] (.cons (.cellA ty49 rfl rfl rfl) .nil) (.agg (.cons (.eqd ?_) (.cons (.eqd ?_) (.cons (.gtg ?_) .nil)))) ⟨rfl,rfl⟩ (SubH.get ⟨?_,trivial⟩) (zaE rfl);rotate_left 4;refine sq ?_ ?_<;>intro h10 h10p h10s<;>(try simp only[Q,Pat.cs_len] at h10p);refine xaP (i:=0) sl34 .none rfl rfl rfl rfl (zas (by first|(have:=l5 (by omega);omega)|(have:=hl6 (by omega);omega))) rfl ?_;refine evd [] [] ?_;refine wc zdW (zbz hd n (hk1 (by omega)) hi (Pats.ok_mem hok.2 _ (zai (i:=0) (by omega)))) rfl rfl ?_;refine dr ?_;refine sq ?_ ?_<;>intro h11 h11p h11s<;>(try simp only[Q,Pat.cs_len] at h11p);refine xaP (i:=1) sl34 .none rfl rfl rfl rfl (zas (by first|(have:=l5 (by omega);omega)|(have:=hl6 (by omega);omega))) rfl ?_;refine evd [] [] ?_;refine Walk.call (cr:=[63]) zc7 (hst (hk2 (by omega)) (Pats.ok_mem hok.2 _ (zai (i:=1) (by have:=l5 (by omega);omega))) (hT5 (by omega) (by simp_all)) (hD5 (by omega)).2) rfl .none rfl rfl (LeL.refl _) trivial rfl (by first|rfl|(simp only[zar,List.all_cons,List.all_nil,zaC,zay,AV.idsL,AV.ids,zab,zaa,xae,List.map_nil];rfl)) (by first|rfl|(simp only[zak,occH,occE,Res.ids,xag,List.nil_append,AV.idsL,AV.ids,zab,zaa,zac,zal,xae,List.map_nil,upC];rfl)) ?_;refine so ty49 ?_;refine dr ?_;refine CWp.ret ?_;refine rn [(63,some (.tok ((zap w (n+1) ⟨a,k⟩ p).kids.map Val.cc).length 3))] (.cons (.cellA ty49 rfl rfl rfl) .nil) (.agg (.cons (.eqd ?_) (.cons (.eqd ?_) (.cons (.gtg ?_) .nil)))) ⟨rfl,rfl⟩ (SubH.get ⟨?_,trivial⟩) (zaE rfl);rotate_left 4;refine xaP (i:=0) sl34 .none rfl rfl rfl rfl (zas (by first|(have:=l5 (by omega);omega)|(have:=hl6 (by omega);omega))) rfl ?_;refine evd [] [] ?_;refine Walk.call (cr:=[63]) zc7 (hst (hk1 (by omega)) (Pats.ok_mem hok.2 _ (zai (i:=0) (by have:=l5 (by omega);omega))) (by simp_all) (hD5 (by omega)).1) rfl .none rfl rfl (LeL.refl _) trivial rfl (by first|rfl|(simp only[zar,List.all_cons,List.all_nil,zaC,zay,AV.idsL,AV.ids,zab,zaa,xae,List.map_nil];rfl)) (by first|rfl|(simp only[zak,occH,occE,Res.ids,xag,List.nil_append,AV.idsL,AV.ids,zab,zaa,zac,zal,xae,List.map_nil,upC];rfl)) ?_;refine so ty49 ?_;refine dr ?_;refine CWp.ret ?_;refine rn [(63,some (.tok ((zap w (n+1) ⟨a,k⟩ p).kids.map Val.cc).length 3))] (.cons (.cellA ty49 rfl rfl rfl) .nil) (.agg (.cons (.eqd ?_) (.cons (.eqd ?_) (.cons (.gtg ?_) .nil)))) ⟨rfl,rfl⟩ (SubH.get ⟨?_,trivial⟩) (zaE rfl);rotate_left 4;exfalso;omega;all_goals (first|((first|(rw[h3v (by omega)];all_goals rfl)|(rw[h1v (by omega)];all_goals rfl)|(rw[h6v (by omega)];all_goals rfl)|(rw[h5a (by omega) (by simp_all)];all_goals rfl)|(rw[h5b (by omega) (by simp_all)];all_goals rfl));done)|(first|(rw[h3v (by omega)];all_goals rfl)|(rw[h1v (by omega)];all_goals rfl)|(rw[h6v (by omega)];all_goals rfl)|(rw[h5a (by omega) (by simp_all)];all_goals rfl)|(rw[h5b (by omega) (by simp_all)];all_goals rfl)))
theorem zrv {l:List Val}:∀x,x∈l.map Val.cc->x.length=3:=by
 intro x hx;rw[<-Val.cs_cc] at hx;exact Val.cs_rows x hx
theorem zpd {w:List Data} (hs:Spa w){n:Nat}{a k:Int}{p:Pat} (hn:n<=10) (h:zau w n ⟨a,k⟩ p=true) (hi:InS (w.length*4) ⟨a,k⟩) (hok:p.ok) (he:zax w (zam w) n ⟨a,k⟩ p=false) (hdp:zbo w n ⟨a,k⟩ p=false):
  FnD Tryz.prog 70 [.d (sPtr w (zam w)),.agg [.d (.i a),.d (.i k)],.agg [.d (.i p.op),.d (.i p.ctor),.d (.i p.n),.d (.i p.m),.d (.i p.var),.d (zaj p.kids)]] [] (.agg [.d (.i (zap w n ⟨a,k⟩ p).ctor),.d (.i (zap w n ⟨a,k⟩ p).num),.d (za9 (zap w n ⟨a,k⟩ p).kids)]) []:=by
 have h1:=FnD.gtD zrv (zc1 hs n true hn h hi hok he hdp);rwa [<-Val.cs_cc] at h1
theorem zi9 {w:List Data} (hs:WSmall w){a k:Int}{p:Pat} (hok:p.ok):
  FnD Tryz.prog 20 [.d (zao w),.agg [.d (.i a),.d (.i k)],.agg [.d (.i p.op),.d (.i p.ctor),.d (.i p.n),.d (.i p.m),.d (.i p.var),.d (zaj p.kids)]] [] (.tup [.agg [.d (.i (optV (zbT w a k p)).ctor),.d (.i (optV (zbT w a k p)).num),.d (za9 (optV (zbT w a k p)).kids)],.d (.bool (zbT w a k p).isSome)]) []:=ziF hs hok fun h1 h3 h4=>by
 obtain⟨hsp,hin,hsh,_⟩:=zfI hs h1;exact zpd hsp (Nat.le_refl _) hsh hin hok h3 h4
theorem zin {w:List Data} (hs:WSmall w){a k:Int}{p:Pat}{v:Val} (hok:p.ok) (hv:zbT w a k p=some v) (hne:v.kids≠[]):
  FnD Tryz.prog 20 [.d (zao w),.agg [.d (.i a),.d (.i k)],.agg [.d (.i p.op),.d (.i p.ctor),.d (.i p.n),.d (.i p.m),.d (.i p.var),.d (zaj p.kids)]] [] (.tup [.agg [.d (.i v.ctor),.d (.i v.num),.ms 61 (v.kids.map Val.cc).length],.d (.bool true)]) [(61,some (.tree (zaf true (v.kids.map Val.cc))))]:=by
 obtain⟨e,q1,q2,q3,q4,q5⟩:=zoR hs hv;obtain⟨hsp,hin,hsh,htv⟩:=zfI hs q3;have hpv:=zft hs (a:=a) (k:=k) hok;have hn:=zeG hsp.dp;have hem:=zbz hsp.dp (f:=zam w) 10 hsh hin hok;have hde:=zfv hsp.dp 10 hsh hin hok;have hz:=zkD hsp (Nat.le_refl _) hsh hin q4 q5;have hvo:=zhP (v:=v) (zeo hs (zbl htv).1) (zbl htv).2.1 (by rw[e];exact hz.2);have hsa:=FnD.gtMs (by rw[<-e];simpa using hne) (zc1 hsp 10 true (Nat.le_refl _) hsh hin hok q4 q5);rw[<-e] at hsa;rw[q1] at hvo;rw[q3] at hpv;rw[q4] at hem;rw[q5] at hde;rw[show za9 v.kids = .sl (v.kids.map Val.cc) from congrArg D.sl (Val.cs_cc _)] at hvo;clear hz e;refine bd Tryz.f20 40 [] [] fun w0 F0 own kept hk=>?_;refine bx 3004 ?_;refine bx 3005 ?_;refine ab 3006 tz49 ?_;refine ev ?_;refine wc zpr (hpv) rfl rfl ?_;refine ev ?_;refine sq ?_ ?_<;>intro h1 h1p h1s<;>(try simp only[Q] at h1p);exfalso;simp at *;refine wc zps (hn) rfl rfl ?_;refine ev ?_;refine wc zdW (hem) rfl rfl ?_;refine ev ?_;refine sq ?_ ?_<;>intro h2 h2p h2s<;>(try simp only[Q] at h2p);refine sqT ?_;exfalso;simp at *;refine Walk.call (cr:=[]) zpt (hde) rfl (.some rfl rfl h2) rfl rfl (LeL.refl _) trivial rfl rfl rfl ?_;refine evs [] [(22,false)] ?_ ⟨⟨_,rfl,h2⟩,trivial⟩;refine sq ?_ ?_<;>intro h4 h4p h4s<;>(try simp only[Q] at h4p);exfalso;simp at *;refine Walk.call (cr:=[61]) zc7 (hsa) rfl .none rfl rfl (LeL.refl _) trivial rfl (by first|rfl|(simp only[zar,List.all_cons,List.all_nil,zaC,zay,AV.idsL,AV.ids,zab,zaa,xae,List.map_nil];rfl)) (by first|rfl|(simp only[zak,occH,occE,Res.ids,xag,List.nil_append,AV.idsL,AV.ids,zab,zaa,zac,zal,xae,List.map_nil,upC];rfl)) ?_;refine Walk.alloc (id:=3009) tz49 rfl .none rfl (by first|rfl|(simp only[zak,occH,occE,Res.ids,xag,List.nil_append,AV.idsL,AV.ids,zab,zaa,zac,zal,xae,List.map_nil,upC];rfl)) (by first|rfl|(simp only[zak,occH,occE,Res.ids,xag,List.nil_append,AV.idsL,AV.ids,zab,zaa,zac,zal,xae,List.map_nil,upC];rfl)) (by first|rfl|(simp only[zak,occH,occE,Res.ids,xag,List.nil_append,AV.idsL,AV.ids,zab,zaa,zac,zal,xae,List.map_nil,upC];rfl)) ?_;refine so ty49 ?_;refine tv ?_;refine xaU (cr:=[]) (lr:=[(61,_)]) zun (hvo) rfl .none rfl rfl (.cons (.le (.refl _)) (.cons (.le (.refl _)) (.cons (.agg (.cons (.le (.refl _)) (.cons (.le (.refl _)) (.cons (.ms (k:=3) List.mem_cons_self zrv (by first|rfl|(simp[zaw,xac];done))) .nil)))) .nil))) ⟨rfl,trivial⟩ rfl (by first|rfl|(simp only[zc6,zcG,zbV,AV.ids];rfl)) (by first|rfl|(simp only[zak,occH,occE,Res.ids,xag,List.nil_append,AV.idsL,AV.ids,zab,zaa,zac,zal,xae,List.map_nil,upC];rfl)) ?_;refine ev ?_;refine sq ?_ ?_<;>intro h5 h5p h5s<;>(try simp only[Q] at h5p);exfalso;simp at *;refine so ty49 ?_;refine ev ?_;refine rn [(61,some (.tree (zaf true (v.kids.map Val.cc))))] (.cons (.cellA ty49 rfl rfl rfl) (.cons (.tmp rfl) .nil)) (.tup (.cons (.agg (.cons (.eqd ?_) (.cons (.eqd ?_) (.cons (xay ?_) .nil)))) (.cons (.eqd ?_) .nil))) ⟨rfl,rfl⟩ (SubH.get ⟨?_,trivial⟩) (zaE rfl);rotate_left 5;all_goals (first|((rfl);done)|(rfl))
theorem zjP {w:List Data} (hs:WSmall w){a k:Int}{l:List Cl} (hl:ClsOk l):
  FnD Tryz.prog 24 [.d (zao w),.agg [.d (.i a),.d (.i k)],.d (zbG l)] [] (.tup [.agg [.d (.i (optV (mvV w a k l)).ctor),.d (.i (optV (mvV w a k l)).num),.d (za9 (optV (mvV w a k l)).kids)],.d (.bool (mvV w a k l).isSome)]) []:=zi8 hs hl fun x r hm=>zi9 hs (zk4 hs hl hm x (by simp)).1
theorem ziE {w:List Data} (hs:WSmall w){a k:Int}{l:List Cl}{v:Val} (hl:ClsOk l) (hv:mvV w a k l=some v) (hne:v.kids≠[]):
  FnD Tryz.prog 24 [.d (zao w),.agg [.d (.i a),.d (.i k)],.d (zbG l)] [] (.tup [.agg [.d (.i v.ctor),.d (.i v.num),.ms 61 (v.kids.map Val.cc).length],.d (.bool true)]) [(61,some (.tree (zaf true (v.kids.map Val.cc))))]:=by
 have hmp:=zeE hs (a:=a) (k:=k) hl;cases hm:zci w ⟨a,k⟩ l with
 |none=>rw[zlV hm] at hv;cases hv
 |some ps=>
  cases ps with
  |nil=>rw[zn3 hm] at hv;cases hv
  |cons x r=>
   rw[zlU hm] at hv;have hsp:=zin hs (zk4 hs hl hm x (by simp)).1 hv hne;rw[hm] at hmp;refine bd Tryz.f24 33 [] [] fun w0 F0 own kept hk=>?_;refine bx 3004 ?_;refine ab 3006 tz49 ?_;refine ev ?_;refine wc zpu (hmp) rfl rfl ?_;refine ev ?_;refine sq ?_ ?_<;>intro h1 h1p h1s<;>(try simp only[Q,Pat.cs_len] at h1p);refine sqT ?_;focus (exfalso;first|(simp_all;done)|(simp at *;omega))
   refine sq ?_ ?_<;>intro h3 h3p h3s<;>(try simp only[Q,Pat.cs_len] at h3p);focus (exfalso;first|(simp_all;done)|(simp at *;omega))
   refine xaP (i:=0) sl34 .none rfl rfl rfl rfl (zas (l:=x::r) (i:=0) (by simp)) rfl ?_;refine evd [] [] ?_;refine Walk.call (cr:=[61]) zud (hsp) rfl .none rfl rfl (LeL.refl _) trivial rfl (by first|rfl|(simp only[zar,List.all_cons,List.all_nil,zaC,zay,AV.idsL,AV.ids,zab,zaa,xae,List.map_nil];rfl)) (by first|rfl|(simp only[zak,occH,occE,Res.ids,xag,List.nil_append,AV.idsL,AV.ids,zab,zaa,zac,zal,xae,List.map_nil,upC];rfl)) ?_;refine evd [] [] ?_;refine so ty49 ?_;refine evd [] [] ?_;refine dr ?_;refine rn [(61,some (.tree (zaf true (v.kids.map Val.cc))))] (.cons (.cellA ty49 rfl rfl rfl) (.cons (.tmp rfl) .nil)) (.tup (.cons (.agg (.cons (.eqd ?_) (.cons (.eqd ?_) (.cons (xay ?_) .nil)))) (.cons (.eqd ?_) .nil))) ⟨rfl,rfl⟩ (SubH.get ⟨?_,trivial⟩) (zaE rfl);rotate_left 5;all_goals (first|((rfl);done)|(rfl))
theorem zqx {pre rest l:List Val}{y:Val}{k:Int} (h:pre++y::rest=l):(Val.cs (mkL Val.one Val.szM k l))[pre.length]?=some (Val.cc (Val.one (k+szL Val.szM pre) y)):=by
 rw[Val.cs_cc];exact zwj h
theorem zgs:∀(n:Nat){l:List Val}{k:Int},Vals.size l<n->0<k->k+szL Val.szM l<=1000000000000->l.length<=1000000000000->Vals.ok l->
  FnD Tryz.prog 92 [.d (za9 (mkL Val.one Val.szM k l)),.d (.i k)] [] (.d (.i (k+szL Val.szM l))) []
 |0,l,k,h,_,_,_,_=>absurd h (Nat.not_lt_zero _)
 |n+1,l,k,h,h0,h1,hl,hok=>by
  have hcall:∀(y:Val) (v:Int) (q:Int),y∈l->v=q->0<v->v+2+szL Val.szM y.kids<=1000000000000->FnD Tryz.prog 92 [.d (za9 (Val.one q y).kids),.d (.i (v+1+1))] [] (.d (.i (v+1+1+szL Val.szM y.kids))) []:=fun y v q hy e h2 h3=>by
   subst e;rw[Val.one_kids];have ho:=(Val.ok_iff y).1 (Vals.ok_mem hok y hy);exact zgs n (by have hm:=Vals.size_mem hy;rw[Val.size_eq] at hm;omega) (by omega) (by omega) ho.1 ho.2
  refine bd Tryz.f92 40 [] [] fun w0 F0 own kept hk=>?_;refine xam (ι:=List (Val)×List (Val)×(Int)) hk (fun x=>[(5,.d (.i (x.1.length:Int))),(1,.d (.i x.2.2))]) [4,6,7,8,9,10,11,12,13,14,15,16,17,18,19,20,21,22,23,24,25,26,27,28,29,30,31,32,33,34,35,36,37,38] (fun x=>[]) (fun x=>x.1++x.2.1=l/\x.2.2=k+szL Val.szM x.1) (fun x=>x.2.1.length) ([],l,k) ⟨by simp,by simp[szL]⟩ ⟨⟨_,rfl,xax ?_⟩,⟨⟨_,rfl,xax ?_⟩,trivial⟩⟩ trivial (fun x=>rfl) (fun x hg1=>?_);iterate 2 focus (first|rfl|(simp;done)|omega|(refine Eq.trans (b:=v+Val.szM y) ?_ rfl;omega))
  obtain⟨pre,rest,v⟩:=x;dsimp only at hg1 ⊢;refine evc [] [] ?_;refine sq ?_ ?_<;>intro h1 h1p h1s<;>(try simp only[Q,zaw,Val.cs_len] at h1p);rcases rest with _|⟨y,rest⟩
  ·exfalso;simp_all
  have hsp:=zel (sz:=Val.szM) hg1.1;have hnn:=zaS (l:=rest) Val.szM_nn;have hnp:=zaS (l:=pre) Val.szM_nn;have hys:=Val.szM_kids y;have hya:=zaS (l:=y.kids) Val.szM_nn;have hv:=hg1.2;refine xaP sl47 .none rfl rfl rfl rfl (zqx hg1.1) rfl ?_;refine ev ?_;refine sq ?_ ?_<;>intro h2 h2p h2s<;>(try simp only[Q,zaw,Val.cs_len] at h2p);exfalso;revert h2;simp[Val.one_sc,hv];refine ar ?_;refine xaP sl47 .none rfl rfl rfl rfl (zqx hg1.1) rfl ?_;refine ev ?_;refine sq ?_ ?_<;>intro h3 h3p h3s<;>(try simp only[Q,zaw,Val.cs_len] at h3p);exfalso;revert h3;simp[Val.one_sc,hv];refine ar ?_;refine xaP sl47 .none rfl rfl rfl rfl (zqx hg1.1) rfl ?_;refine ev ?_;refine wc zus (hcall y v _ (by rw[<-hg1.1];simp) hv (by omega) (by omega)) rfl rfl ?_;refine ev ?_;refine sq ?_ ?_<;>intro h4 h4p h4s<;>(try simp only[Q,zaw,Val.cs_len] at h4p);exfalso;omega;refine ar ?_;refine xah ((pre++[y],rest,v+Val.szM y)) ⟨⟨(by have hz:=hg1.1;rw[<-hz];simp),(by show v+Val.szM y=_;rw[zcQ,hg1.2];omega)⟩,(by simp),sx ⟨⟨_,rfl,xax ?_⟩,⟨⟨_,rfl,xax ?_⟩,trivial⟩⟩ trivial⟩;iterate 2 focus (first|rfl|(simp;done)|omega|(refine Eq.trans (b:=v+Val.szM y) ?_ rfl;omega))
  have hrest:rest=[]:=by
   rcases rest with _|⟨a,b⟩
   ·rfl
   ·exfalso;have hz:=congrArg List.length (hg1.1);simp only[xaa,xab,xac] at hz;omega
  subst hrest;refine rq ?_;rotate_left;all_goals (first|rfl|(obtain⟨hg1,hv⟩:=hg1;rw[List.append_nil] at hg1;subst hg1;rw[hv]))
theorem zeH {v:Val}{k:Int}{c n:Int} (h0:0<k) (h1:k+szL Val.szM v.kids<=1000000000000) (hok:v.ok):
  FnD Tryz.prog 39 [.agg [.d (.i c),.d (.i n),.d (za9 (mkL Val.one Val.szM k v.kids))],.d (.i k)] [] (.d (.i (k+szL Val.szM v.kids))) []:=by
 have hnn:=zaS (l:=v.kids) Val.szM_nn;rw[Val.ok_iff] at hok;refine bd Tryz.f39 12 [] [] fun w0 F0 own kept hk=>?_;refine bx 3002 ?_;refine ev ?_;refine wc zus (zgs _ (Nat.lt_succ_self _) h0 h1 hok.1 hok.2) rfl rfl ?_;refine ev ?_;refine sq ?_ ?_<;>intro h1 h1p h1s<;>(try simp only[Q] at h1p);exfalso;omega;refine rq ?_;rotate_left;all_goals (rfl)
def Bd.szM (b:Bd):Int:=1+b.val.szM
def Bd.one (k:Int) (b:Bd):Bd:=⟨k,Val.one (k+1) b.val⟩
theorem Bd.szM_nn (b:Bd):0<=b.szM:=by have:=Val.szM_nn b.val;unfold Bd.szM;omega
theorem Bd.szM_kids (b:Bd):b.szM=3+szL Val.szM b.val.kids:=by unfold Bd.szM;rw[Val.szM_kids];omega
theorem Bd.rows {l:List Bd}:∀x,x∈l.map Bd.c->x.length=4:=by
 intro x hx;obtain⟨y,_,rfl⟩:=List.mem_map.1 hx;rfl
end Go.Proofs.YtlfipehhbdjnjaaGreat
