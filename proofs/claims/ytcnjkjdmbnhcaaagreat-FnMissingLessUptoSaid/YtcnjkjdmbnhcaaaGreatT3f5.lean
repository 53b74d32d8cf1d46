/-
  THE ABSTRACT WALK AND THE WALKS, part 5 of 7: the parts F33, F34, F35, F36, F37, F82, F83, F38, F79, F59, F80, F60, F61, F30, F63, F81, F84, Ta, F86, F64, F87, F88, F89, F110, F113, F102, F115, F39, F90, F91, F92, F93, F94, F97, F98, F99, F95, F96, F100, F101, F103, F104, F105.
-/
import Derived.Test.YtcnjkjdmbnhcaaaGreatT3f4
namespace Go.Proofs.YtcnjkjdmbnhcaaaGreat
open Go
set_option linter.unusedSimpArgs false
set_option linter.unusedVariables false
set_option maxRecDepth 100000
set_option maxHeartbeats 2000000
def pwL (s:Str):List Str:=cutL 59 [] s
def pwP (s:Str) (i:Nat):List Str:=cutL 61 [] (nth (pwL s) i)
def pwC (s:Str) (i:Nat):List Str:=cutL 124 [] (nth (pwP s i) 1)
def zbs (s:Str):Nat:=if s=[] then 0 else min (pwL s).length 5
def zcI (s:Str) (n:Nat):List Str:=(List.range n).map fun i=>nth (pwP s i) 0
def zkq (s:Str) (i:Nat):Data:=⟨nth (pwP s i) 0,((pwC s i).take 5).map (zcB (zcI s (zbs s)))⟩
def zcV (s:Str) (n:Nat):List Data:=(List.range n).map (zkq s)
def zhJ (s:Str):Bool:=(List.range (zbs s)).all (fun i=>decide ((pwP s i).length=2))&&(za2 (zcV s (zbs s))&&decide (zfk (zcV s (zbs s))=s))
def zdG (s:Str):List Data×Bool:=if zhJ s then (zcV s (zbs s),true) else ([],false)
theorem zq0 (s:Str):zbs s≤(pwL s).length∧zbs s≤5:=by unfold zbs;split<;>omega
theorem zex {s:Str}{i:Nat}:i<zbs s↔(i<(pwL s).length∧i≤4)∧s≠[]:=by
 unfold zbs;split
 ·rename_i h;simp[h]
 ·rename_i h;simp only[h,ne_eq,not_false_eq_true,and_true];omega
theorem zaX (s:Str) (n:Nat):(zcI s n).length=n:=by simp[zcI]
theorem zq1 (s:Str) (n:Nat):zcI s (n+1)=zcI s n++[nth (pwP s n) 0]:=by unfold zcI;rw[List.range_succ,xaf];rfl
theorem zne (s:Str) (n:Nat):zcV s (n+1)=zcV s n++[zkq s n]:=by unfold zcV;rw[List.range_succ,xaf];rfl
theorem zwr {s:Str}{n m:Nat} (h:m<n):((zcI s n).map fun n=>[D.str n])[m]?=some [D.str (nth (pwP s m) 0)]:=by
 simp[zcI,h]
theorem zsd {s:Str}{i:Nat} (h:i<(pwL s).length):(nth (pwL s) i).length≤s.length:=zep h
theorem zkZ {s:Str}{i j:Nat} (h:i<(pwL s).length) (hj:j<(pwP s i).length):(nth (pwP s i) j).length≤s.length:=Nat.le_trans (zep hj) (zsd h)
theorem zww {s:Str}{i k:Nat} (h:k<(pwC s i).length):(nth (pwC s i) k).length≤(nth (pwP s i) 1).length:=zep h
theorem zuv {α:Type}{l:List α}{i:Nat} (h:i=5∨(i≤5∧l.length≤i)):l.take i=l.take 5:=by
 rcases h with rfl|⟨h1,h2⟩
 ·rfl
 ·rw[List.take_of_length_le h2,List.take_of_length_le (by omega)]
theorem zsQ {c:UInt8}{s:Str}:(nth (cutL c [] s) 0).length≤s.length:=zep (zi0 c s [])
theorem zqU {names:List Str}{s:Str}:(zcB names s).name.length≤s.length∧(zcB names s).args.length≤4:=by
 have key:∀(ix:Int) (t:Str),(zhw names ix t).name.length≤t.length∧(zhw names ix t).args.length≤4:=by
  intro ix t;refine⟨zsQ, ?_⟩;unfold zhw;dsimp only;split
  ·simp
  ·simp only[xac,List.length_take];omega
 unfold zcB;split
 ·have:=key (((nth s (s.length-1)).toNat:Int)-48) (s.take (s.length-2));rw[List.length_take] at this;omega
 ·exact key 0 s
theorem zuf {s:Str} (hs:s.length≤1000000) (h2:∀j,j<zbs s→(pwP s j).length=2):WSmall (zcV s (zbs s)):=by
 have hl:=zq0 s;have hd:∀d∈zcV s (zbs s),∃i,i<zbs s∧d=zkq s i:=fun d hd=>by
  obtain⟨i,hi,rfl⟩:=List.mem_map.1 hd;exact⟨i,List.mem_range.1 hi,rfl⟩
 refine⟨by simp only[zcV,xac,List.length_range];omega,fun d hd'=>?_,fun d hd' c hc=>?_⟩
 ·obtain⟨i,hi,rfl⟩:=hd d hd';have:=zkZ (s:=s) (i:=i) (j:=0) (by omega) (by rw[h2 i hi];omega);refine⟨?_, ?_⟩
  ·show(nth (pwP s i) 0).length≤_;omega
  ·simp only[zkq,xac,List.length_take];omega
 ·obtain⟨i,hi,rfl⟩:=hd d hd';obtain⟨t,ht,rfl⟩:=List.mem_map.1 hc;have h3:=zkZ (s:=s) (i:=i) (j:=1) (by omega) (by rw[h2 i hi];omega);have h4:t.length≤(nth (pwP s i) 1).length:=by simpa using ziZ 124 (nth (pwP s i) 1) [] t (List.mem_of_mem_take ht)
  have h5:=zqU (names:=zcI s (zbs s)) (s:=t);omega
theorem zyb {s:Str} (hs:s.length≤1000000):FnD Tryz.prog 208 [.d (.str s),.d (.int .u8 59)] [] (.d (zfc (pwL s))) []:=zct (s:=s) (c:=59) (by omega)
theorem zvG {s:Str}{i:Nat} (hs:s.length≤1000000) (h:i<(pwL s).length):FnD Tryz.prog 208 [.d (.str (nth (pwL s) i)),.d (.int .u8 61)] [] (.d (zfc (pwP s i))) []:=zct (s:=nth (pwL s) i) (c:=61) (by have:=zsd h;omega)
theorem zya {s:Str}{i:Nat} (hs:s.length≤1000000) (h:i<(pwL s).length) (h2:(pwP s i).length=2):FnD Tryz.prog 208 [.d (.str (nth (pwP s i) 1)),.d (.int .u8 124)] [] (.d (zfc (pwC s i))) []:=
 zct (s:=nth (pwP s i) 1) (c:=124) (by have:=zkZ (j:=1) h (by omega);omega)
theorem zlb {w:List Data} (hs:WSmall w):FnD Tryz.prog 150 [.d (zaj w)] [] (.d (.bool (za2 w))) []:=by
 rw[←zgW];exact zgC hs
theorem zr6 {s:Str} (h:zhJ s=false):zdG s=([],false):=by unfold zdG;rw[if_neg (by rw[h];simp)]
theorem zuX {s:Str} (h:zhJ s=true):zdG s=(zcV s (zbs s),true):=by unfold zdG;rw[if_pos h]
theorem zuW {s:Str}{i:Nat} (h:i<zbs s) (h2:¬(pwP s i).length=2):zhJ s=false:=by
 unfold zhJ;rw[zdi h (by simpa using h2),Bool.false_and]
theorem zoV {s:Str} (h:∀j,j<zbs s→(pwP s j).length=2):zhJ s=(za2 (zcV s (zbs s))&&decide (zfk (zcV s (zbs s))=s)):=by
 unfold zhJ;rw[zdE (fun i hi=>by simpa using h i hi),Bool.true_and]
theorem zkF {s:Str} (hs:s.length≤100000):FnD Tryz.prog 141 [.d (.str s)] [] (.tup [.d (zaj (zdG s).1),.d (.bool (zdG s).2)]) []:=by
 have hl:=zq0 s;have hcl:(pwL s).length≤s.length+1:=zeo 59 s [];have hccl:∀i,(pwC s i).length≤(nth (pwP s i) 1).length+1:=fun i=>zeo 124 _ [];have hnl:=zaX s;refine bd Tryz.f141 101 [] [5,17,21] fun w0 F0 own kept hk=>?_;refine xbj 1 sl31 .none rfl rfl ?_;refine ev ?_;refine xbj 2 zbO .none rfl rfl ?_;refine ev ?_;refine wc zgp (zyb (s:=s) (by omega)) rfl rfl ?_;refine ev ?_;refine xaj (ι:=Nat) hk (fun i=>[(7,.d (.i (i:Int))),(5,.gl 2 ((zcI s i).map fun n=>[D.str n]))]) [2,3,8,17,18,19,20,21,22,23,24,25,26,27,28,29,30,31,32,33,34,35,36,37,38,39,40,41,42,43,44,45] (fun i=>[(2,some (.tok (((zcI s i).map fun n=>[D.str n])).length 1))]) (fun i=>i≤zbs s∧∀j,j<i→(pwP s j).length=2) (fun i=>zbs s-i) 0 ⟨by omega,fun j h=>absurd h (by omega)⟩ ⟨⟨_,rfl,xap ?_⟩,⟨⟨_,rfl,LeA.glg ?_⟩,trivial⟩⟩ ⟨zaa ?_,trivial⟩ (fun x=>rfl) (fun i hg1=>?_);iterate 3 focus (rfl)
 refine evc [] [5,17,21] ?_;refine xak ?_;refine xaA 12 [(28,.d (.bool (decide (i<zbs s))))] [17,18,19,20,21,22,23,24,25,26,27] ?_ ?_;refine ev ?_;refine sq ?_ ?_<;>intro h1 h1p h1s;try simp only[Q,zaX] at h1p
 refine sq ?_ ?_<;>intro h2 h2p h2s;try simp only[Q,zaX] at h2p
 focus (exact jn rfl (xao (by(rw[Bool.eq_iff_iff];simp_all[zex];omega))))
 try simp only[Q,zaX] at h2p
 focus (exact jn rfl (xao (by(rw[Bool.eq_iff_iff];simp_all[zex];omega))))
 try simp only[Q,zaX] at h1p
 refine sqF ?_;focus (exact jn rfl (xao (by(rw[Bool.eq_iff_iff];simp_all[zex];omega))))
 refine xaz ?_;refine tv ?_;refine sq ?_ ?_<;>intro h3 h3p h3s;try simp only[Q,zaX] at h3p
 refine xaV zbO .none rfl rfl rfl rfl (zas (by omega)) rfl ?_;refine ev ?_;refine wc zgp (zvG (s:=s) (i:=i) (by omega) (by omega)) rfl rfl ?_;refine ev ?_;refine sq ?_ ?_<;>intro h4 h4p h4s;try simp only[Q,zaX] at h4p
 refine xbi sl31 .none rfl ?_;refine ev ?_;refine rn0 (r2 rfl rfl) (.tup (.cons (.eqd ?_) (.cons (.eqd ?_) .nil)));rotate_left 2;try simp only[Q,zaX] at h4p
 refine xaV (i:=0) zbO .none rfl rfl rfl rfl (zas (by omega)) rfl ?_;refine ev ?_;refine si [0] [_] zbO tz9 ?_;refine ap zbO zz9 rfl rfl rfl (by simp) (by simp[zaX,zcV];omega) ?_;refine ev ?_;refine ar ?_;refine Exists.intro (i+1) ⟨⟨by omega,za6 hg1.2 (by omega)⟩,(by omega),sx ⟨⟨_,rfl,xap ?_⟩,⟨⟨_,rfl,LeA.glg ?_⟩,trivial⟩⟩ ⟨zaa ?_,trivial⟩⟩;iterate 3 focus (first|rfl|(rw[zq1];simp;done))
 try simp only[Q,zaX] at h3p
 obtain rfl:i=zbs s:=(by omega);refine xaj (ι:=Nat) hk (fun m=>[(9,.d (.i (m:Int))),(4,.gl 1 ((zcV s m).map Data.c))]) [10,11,12,46,47,48,49,50,51,52,53,54,55,56,57,58,59,60,61,62,63,64,65,66,67,68,69,70,71,72,73,74,75,76,77,78,79,80,81,82,83,84,85,86,87,88,89] (fun m=>[(1,some (.tok (((zcV s m).map Data.c)).length 2))]) (fun m=>m≤zbs s) (fun m=>zbs s-m) 0 (by omega) ⟨⟨_,rfl,xap ?_⟩,⟨⟨_,rfl,LeA.glg ?_⟩,trivial⟩⟩ ⟨zaa ?_,trivial⟩ (fun x=>rfl) (fun m hg2=>?_);iterate 3 focus (rfl)
 refine evc [] [5,17,21] ?_;refine sq ?_ ?_<;>intro h5 h5p h5s;try simp only[Q,zaX] at h5p
 refine xaV zbO .none rfl rfl rfl rfl (zas (by omega)) rfl ?_;refine ev ?_;refine wc zgp (zvG (s:=s) (i:=m) (by omega) (by omega)) rfl rfl ?_;refine xaV (i:=1) zbO .none rfl rfl rfl rfl (zas (by(rw[hg1.2 m (by omega)];omega))) rfl ?_;refine ev ?_;refine wc zgp (zya (s:=s) (i:=m) (by omega) (by omega) (hg1.2 m (by omega))) rfl rfl ?_;refine ev ?_;refine xaY zbO .none rfl rfl rfl rfl (zwr (by omega)) rfl ?_;refine ev ?_;refine bu [0] [_] st97 ?_;refine ab 3011 tz97 ?_;refine so ty97 ?_;refine tv ?_;refine xam 3011 1 3 3 rfl rfl rfl rfl ?_;refine xaj (ι:=Nat) hk (fun k=>[(12,.d (.i (k:Int)))]) [65,66,67,68,69,70,71,72,73,74,75,76,77,78,79,80,81,82,83,84,85] (fun k=>[(3011,some (.box [.d (.str (nth (pwP s m) 0)),.gl 3 ((((pwC s m).map (zcB (zcI s (zbs s)))).take k).map Ctor.c)])),(3,some (.tok ((((pwC s m).map (zcB (zcI s (zbs s)))).take k).map Ctor.c).length 3))]) (fun k=>k≤5∧k≤(pwC s m).length) (fun k=>5-k) 0 ⟨by omega,by omega⟩ ⟨⟨_,rfl,xap ?_⟩,trivial⟩ ⟨?_,⟨zaa ?_,trivial⟩⟩ (fun x=>rfl) (fun k hg3=>?_);focus (rfl)
 focus (rfl)
 focus (rfl)
 refine evc [] [5,17,21] ?_;refine xak ?_;refine xaA 8 [(72,.d (.bool (decide (k<(pwC s m).length∧k≤4))))] [65,66,67,68,69,70,71] ?_ ?_;refine ev ?_;refine sq ?_ ?_<;>intro h6 h6p h6s;try simp only[Q,zaX] at h6p
 focus (exact jn rfl (xao (by(rw[Bool.eq_iff_iff];simp_all[zex];omega))))
 try simp only[Q,zaX] at h6p
 focus (exact jn rfl (xao (by(rw[Bool.eq_iff_iff];simp_all[zex];omega))))
 refine xaz ?_;refine tv ?_;refine sq ?_ ?_<;>intro h7 h7p h7s;try simp only[Q,zaX] at h7p
 refine xaV zbO .none rfl rfl rfl rfl (zas (by omega)) rfl ?_;refine evd [] [] ?_;refine Walk.call (cr:=[]) zxk (zjK (names:=zcI s (zbs s)) (s:=nth (pwC s m) k) (by rw[hnl];omega) (by have h1:=zkZ (s:=s) (i:=m) (j:=1) (by omega) (by rw[hg1.2 m (by omega)];omega);have h2:=zww (s:=s) (i:=m) (k:=k) (by omega);omega)) rfl .none rfl rfl (.cons (.gl _ _) (.cons (.refl _) .nil)) trivial rfl rfl rfl ?_;refine si [0] [_] sl95 zhe ?_;refine ap sl95 zym rfl rfl rfl (by simp) (by simp[zaX,zcV];omega) ?_;refine evd [] [] ?_;refine so ty95 ?_;refine dr ?_;refine ar ?_;refine Exists.intro (k+1) ⟨⟨by omega,by omega⟩,(by omega),sx ⟨⟨_,rfl,xap ?_⟩,trivial⟩ ⟨?_,⟨zaa ?_,trivial⟩⟩⟩;focus (rfl)
 focus ((show some (Res.box _)=some (Res.box _);rw[zgO (by omega)];simp;done))
 focus ((simp;omega))
 try simp only[Q,zaX] at h7p
 refine si [0] [_] sl31 tz97 ?_;refine ap sl31 zz97 rfl rfl rfl (by simp) (by simp[zaX,zcV];omega) ?_;refine ev ?_;refine ar ?_;refine Exists.intro (m+1) ⟨(by omega),(by omega),sx ⟨⟨_,rfl,xap ?_⟩,⟨⟨_,rfl,LeA.glg ?_⟩,trivial⟩⟩ ⟨zaa ?_,trivial⟩⟩;iterate 3 focus (first|rfl|(rw[zne];simp;done)|(rw[zne,xaf];simp only[xae,List.map_nil,zkq,Data.c];rw[←List.map_take,zuv (by omega)];done))
 try simp only[Q,zaX] at h5p
 obtain rfl:m=zbs s:=(by omega);refine xak ?_;refine xaA 9 [(98,.d (.bool (!(za2 (zcV s (zbs s))&&decide (zfk (zcV s (zbs s))=s)))))] [90,91,92,93,94,95,96,97] ?_ ?_;refine ev ?_;refine Walk.call (cr:=[]) ztj (zlb (zuf (by omega) hg1.2)) rfl .none rfl rfl (.cons (.gl _ _) .nil) trivial rfl rfl rfl ?_;refine ev ?_;refine sq ?_ ?_<;>intro h8 h8p h8s;try simp only[Q,zaX] at h8p
 focus (exact jn rfl (xao (by(rw[Bool.eq_iff_iff];simp_all[zex];done))))
 try simp only[Q,zaX] at h8p
 refine Walk.call (cr:=[]) zxl (zou (zvx (by assumption))) rfl (.some rfl rfl h8) rfl rfl (.cons (.gl _ _) .nil) trivial rfl rfl rfl ?_;refine evs [] [(93,false)] ?_ ⟨⟨_,rfl,h8⟩,trivial⟩;focus (exact jn rfl (xao (by(rw[Bool.eq_iff_iff];simp_all[zex];done))))
 refine xaz ?_;refine tv ?_;refine sq ?_ ?_<;>intro h9 h9p h9s;try simp only[Q,zaX] at h9p
 refine xbi sl31 .none rfl ?_;refine ev ?_;refine rn0 (r2 rfl rfl) (.tup (.cons (.eqd ?_) (.cons (.eqd ?_) .nil)));rotate_left 2;try simp only[Q,zaX] at h9p
 refine rn0 (r2 rfl rfl) (.tup (.cons (.gld ?_) (.cons (.eqd ?_) .nil)));rotate_left 2;all_goals (first|(have hq:=zuW (s:=s) (i:=i) h3p (fun h=>h4p (by omega));rw[zr6 hq];all_goals rfl)|(have hr:=zoV hg1.2;rw[h9s] at hr;rw[zr6 hr];all_goals rfl)|(have hr:=zoV hg1.2;rw[h9s] at hr;rw[zuX hr];all_goals rfl))
def zd2:List Str:=[[76,61,78,105,108,124,67,111,110,115,40,73,44,76,41],
 [66,61,84,114,117,124,70,108,115,59,84,61,76,101,97,102,124,78,111,100,101,40,84,44,66,44,84,41],
 [69,61,78,117,109,40,73,41,58,49,124,66,111,108,40,66,41,58,50,124,65,100,100,40,69,49,44,69,49,41,58,49,124,73,102,40,69,50,44,69,42,44,69,42,41,59,66,61,84,114,117,124,70,108,115],
 [79,61,78,111,110,124,83,111,109,40,73,41,59,80,61,80,97,105,114,40,79,44,79,41],
 [86,61,69,110,100,58,49,124,83,111,109,101,40,73,44,86,49,41,58,50,124,84,119,111,40,86,42,41],
 [78,61,78,101,118,101,114,40,78,41,59,66,61,84,114,117,124,70,108,115,124,77,97,121,40,78,41],
 [83,61,82,101,100,124,71,114,101,101,110,124,66,108,117,101,124,77,105,120,40,83,44,83,41],
 []]
theorem znL:zd2.length=8:=rfl
theorem zrf:∀t∈zd2,t.length≤100:=by decide
theorem zs4 {i:Nat} (h:i<8):(nth zd2 i).length≤100:=zrf _ (zaf h)
def zbC (b:Str) (p:Nat):List Data:=(zdG (nth zd2 (zao b p 7).toNat)).1
theorem zsT (b:Str) (p:Nat):(zao b p 7).toNat<7:=by have:=zcM (b:=b) (p:=p) (n:=7) (by omega);omega
theorem znu:FnD Tryz.prog 142 [] [] (.d (zfc zd2)) []:=by
 refine bd Tryz.f142 2 [] [] fun w0 F0 own kept hk=>?_;refine si [0,1,2,3,4,5,6,7] [_,_,_,_,_,_,_,_] zbO tz9 ?_;refine ev ?_;refine rn0 (r1 rfl) (.eqd ?_);rotate_left;all_goals (rfl)
theorem znw {b:Str}{p:Nat} (hb:b.length≤2000) (hp:p≤1000000):
  FnD Tryz.prog 171 [.ref 900 0] [(900,some (rdB b p))] (.d (zaj (zbC b p))) [(900,some (rdB b (p+1)))]:=by
 have h7:=zsT b p;have ht8:=znL;have hv:=zcM (b:=b) (p:=p) (n:=7) (by omega);have hts:=zs4 (i:=(zao b p 7).toNat) (by omega);refine bd Tryz.f171 20 [] [] fun w0 F0 own kept hk=>?_;refine wc zw5 (znu) rfl rfl ?_;refine ev ?_;refine ar ?_;refine wd zb9 (zaR (n:=7) hb (by omega) (by omega)) rfl rfl ⟨rfl,trivial⟩ ?_;refine xaV (i:=(zao b p 7).toNat) zbO .none rfl rfl rfl (by omega) (zas (by rw[znL];omega)) rfl ?_;refine ev ?_;refine wc zw4 (zkF (s:=nth zd2 (zao b p 7).toNat) (by omega)) rfl rfl ?_;refine ev ?_;refine rn [(900,some (rdB b (p+1)))] (r1 rfl) (.eqd ?_) ⟨rfl,rfl⟩ (SubO.get ⟨.inr ?_,⟨.inl rfl,trivial⟩⟩) (zav rfl);rotate_left 2;all_goals (first|((rfl);done)|(rfl))
def anyP:Pat:=⟨1,0,0,0,0,[]⟩
def dA (f:Ty→Nat→Pat×Nat):List Ty→Nat→List Pat×Nat
 | [],q=>([],q)
 |t::r,q=>((f t q).1::(dA f r (f t q).2).1,(dA f r (f t q).2).2)
def zaH (b:Str) (w:List Data):Nat→Ty→Nat→Pat×Nat
 |0,_,p=>(anyP,p)
 |d+1,t,p=>
  if d=0 then (anyP,p)
  else if zao b p 4=0 then (anyP,p+1)
  else if zao b (p+1) 6=0 then (⟨5,0,0,0,0,[(zaH b w d t (p+2)).1,(zaH b w d t (zaH b w d t (p+2)).2).1]⟩,(zaH b w d t (zaH b w d t (p+2)).2).2)
  else if t.data = -1 then (⟨3,0,zao b (p+2) 10,zao b (p+2) 10+zao b (p+3) (10-zao b (p+2) 10)*zao b (p+4) 2,0,[]⟩,p+5)
  else if (zam w t).length=0 then (anyP,p+2)
  else (⟨4,nth (zam w t) (zao b (p+2) (zam w t).length).toNat,0,0,0,(dA (zaH b w d) (zab w t (nth (zam w t) (zao b (p+2) (zam w t).length).toNat)) (p+3)).1⟩,
   (dA (zaH b w d) (zab w t (nth (zam w t) (zao b (p+2) (zam w t).length).toNat)) (p+3)).2)
def bdP:Nat→Nat
 |0=>0
 |d+1=>5+3*bdP d
def Few (w:List Data):Prop:=∀t c,c∈zam w t→TyIn w.length t→(zab w t c).length≤3∧∀u∈zab w t c,TyIn w.length u
theorem zvH {f:Ty→Nat→Pat×Nat}{k:Nat}:∀(l:List Ty) (q:Nat),(∀t∈l,∀q,(f t q).2≤q+k)→(dA f l q).2≤q+l.length*k
 | [],q,_=>by simp[dA]
 |t::r,q,h=>by
  have h1:=h t (by simp) q;have h2:=zvH r (f t q).2 (fun x hx=>h x (by simp[hx]));simp only[dA,xab,Nat.add_mul];omega
theorem ztP {f:Ty→Nat→Pat×Nat}:∀(l:List Ty) (q:Nat),(dA f l q).1.length=l.length
 | [],q=>rfl
 |t::r,q=>by simp only[dA,xab,ztP r]
theorem zjk {l:List Int}{b:Str}{p:Nat} (h:¬l.length=0):nth l (zao b p l.length).toNat∈l:=by
 have:=zcM (b:=b) (p:=p) (n:=(l.length:Int)) (by omega);exact zaf (by omega)
theorem zi1 {b:Str}{w:List Data} (hf:Few w):∀(d:Nat) (t:Ty) (p:Nat),TyIn w.length t→(zaH b w d t p).2≤p+bdP d
 |0,t,p,_=>by simp[zaH,bdP]
 |d+1,t,p,ht=>by
  have ih:=fun t p ht=>zi1 (b:=b) hf d t p ht;unfold zaH bdP;split
  ·dsimp only;omega
  ·split
   ·dsimp only;omega
   ·split
    ·dsimp only;have h1:=ih t (p+2) ht;have h2:=ih t (zaH b w d t (p+2)).2 ht;omega
    ·split
     ·dsimp only;omega
     ·split
      ·dsimp only;omega
      ·rename_i h5;dsimp only;have hm:=zjk (b:=b) (p:=p+2) h5;have h3:=hf t _ hm ht;have h1:=zvH (f:=zaH b w d) (k:=bdP d) (zab w t (nth (zam w t) (zao b (p+2) (zam w t).length).toNat)) (p+3) (fun u hu q=>ih u q (h3.2 u hu));have h4:(zab w t (nth (zam w t) (zao b (p+2) (zam w t).length).toNat)).length*bdP d≤3*bdP d:=Nat.mul_le_mul_right _ h3.1;omega
theorem zuD {w:List Data} (hs:WSmall w) (hv:za2 w=true):Few w:=by
 have hw:=zhS hs hv;have hW:=(zb8 w).1 hv;rintro ⟨a,k⟩ c hc ht
 obtain⟨d,rfl,h1,j,rfl,h3⟩:=zcz ht hc;refine⟨?_,fun u hu=>zek hw h1 ⟨j,rfl,h3⟩ hu⟩;have hco:=hW.ctor _ (zaf h1) _ (zaf h3);simp only[zbv,xad,decide_eq_true_eq] at hco;simp only[zab,Int.toNat_natCast,xac];omega
theorem Pat.cs_cc (l:List Pat):Pat.cs l=l.map Pat.cc:=by
 rw[Pat.cs_eq];exact List.map_congr_left (fun v _=>Pat.c_eq v)
section
variable {b:Str}{w:List Data}{d p:Nat}{a k:Int}
theorem zrY (h:d=0):zaH b w (d+1) ⟨a,k⟩ p=(anyP,p):=by simp only[zaH];rw[if_pos h]
theorem zrZ (h:¬d=0) (h2:zao b p 4=0):zaH b w (d+1) ⟨a,k⟩ p=(anyP,p+1):=by simp only[zaH];rw[if_neg h,if_pos h2]
theorem zr0 (h:¬d=0) (h2:¬zao b p 4=0) (h3:zao b (p+1) 6=0):zaH b w (d+1) ⟨a,k⟩ p =
  (⟨5,0,0,0,0,[(zaH b w d ⟨a,k⟩ (p+2)).1,(zaH b w d ⟨a,k⟩ (zaH b w d ⟨a,k⟩ (p+2)).2).1]⟩,(zaH b w d ⟨a,k⟩ (zaH b w d ⟨a,k⟩ (p+2)).2).2):=by
 simp only[zaH];rw[if_neg h,if_neg h2,if_pos h3]
theorem zr1 (h:¬d=0) (h2:¬zao b p 4=0) (h3:¬zao b (p+1) 6=0) (h4:a = -1):zaH b w (d+1) ⟨a,k⟩ p =
  (⟨3,0,zao b (p+2) 10,zao b (p+2) 10+zao b (p+3) (10-zao b (p+2) 10)*zao b (p+4) 2,0,[]⟩,p+5):=by
 simp only[zaH];rw[if_neg h,if_neg h2,if_neg h3,if_pos h4]
theorem zr2 (h:¬d=0) (h2:¬zao b p 4=0) (h3:¬zao b (p+1) 6=0) (h4:¬a = -1) (h5:(zam w ⟨a,k⟩).length=0):zaH b w (d+1) ⟨a,k⟩ p=(anyP,p+2):=by
 simp only[zaH];rw[if_neg h,if_neg h2,if_neg h3,if_neg h4,if_pos h5]
theorem zr3 (h:¬d=0) (h2:¬zao b p 4=0) (h3:¬zao b (p+1) 6=0) (h4:¬a = -1) (h5:¬(zam w ⟨a,k⟩).length=0){cc:Int} (hc:nth (zam w ⟨a,k⟩) (zao b (p+2) (zam w ⟨a,k⟩).length).toNat=cc):zaH b w (d+1) ⟨a,k⟩ p =
  (⟨4,cc,0,0,0,(dA (zaH b w d) (zab w ⟨a,k⟩ cc) (p+3)).1⟩,(dA (zaH b w d) (zab w ⟨a,k⟩ cc) (p+3)).2):=by
 simp only[zaH];rw[if_neg h,if_neg h2,if_neg h3,if_neg h4,if_neg h5,hc]
end
theorem zeO {b:Str}{w:List Data} (hb:b.length≤2000) (hw:WT w) (hf:Few w):∀(d:Nat){a k m:Int}{p:Nat},m=d→d≤4→1≤d→p+bdP d≤1000000→TyIn w.length ⟨a,k⟩→
  FnD Tryz.prog 287 [.ref 900 0,.d (zaj w),.agg [.d (.i a),.d (.i k)],.d (.i m)] [(900,some (rdB b p))]
   (.agg [.d (.i (zaH b w d ⟨a,k⟩ p).1.op),.d (.i (zaH b w d ⟨a,k⟩ p).1.ctor),.d (.i (zaH b w d ⟨a,k⟩ p).1.n),.d (.i (zaH b w d ⟨a,k⟩ p).1.m),.d (.i (zaH b w d ⟨a,k⟩ p).1.var),.d (zae (zaH b w d ⟨a,k⟩ p).1.kids)]) [(900,some (rdB b (zaH b w d ⟨a,k⟩ p).2))]
 |0,a,k,m,p,_,_,h1,_,_=>by omega
 |d+1,a,k,m,p,hm,hd4,_,hp,ht=>by
  have hcl:=zhg hw ht;have hbd:bdP (d+1)=5+3*bdP d:=rfl;have ih:=fun(t:Ty) (q:Nat) (ht:TyIn w.length t)=>zi1 (b:=b) hf d t q ht;have v10:=zcM (b:=b) (p:=p+2) (n:=10) (by omega);have v11:=zcM (b:=b) (p:=p+3) (n:=10-zao b (p+2) 10) (by omega);have v12:=zcM (b:=b) (p:=p+4) (n:=2) (by omega);have v13:0≤zao b (p+3) (10-zao b (p+2) 10)*zao b (p+4) 2∧zao b (p+3) (10-zao b (p+2) 10)*zao b (p+4) 2≤10:=by
   have h:zao b (p+4) 2=0∨zao b (p+4) 2=1:=by omega
   rcases h with h|h<;>rw[h]<;>omega
  have hvl:((((zam w ⟨a,k⟩).map fun n=>[D.i n]).length:Nat):Int)=(zam w ⟨a,k⟩).length:=by simp
  have v14:=fun h=>zcM (b:=b) (p:=p+2) (n:=((zam w ⟨a,k⟩).length:Int)) h;have hmem:=fun h=>zjk (l:=zam w ⟨a,k⟩) (b:=b) (p:=p+2) h;generalize hcc:nth (zam w ⟨a,k⟩) (zao b (p+2) (zam w ⟨a,k⟩).length).toNat=cc at *;have hfw:=fun h=>hf ⟨a,k⟩ cc (hmem h) ht;have hat:¬(zam w ⟨a,k⟩).length=0→((zam w ⟨a,k⟩).map fun n=>[D.i n])[(zao b (p+2) (zam w ⟨a,k⟩).length).toNat]?=some [D.i cc]:=fun h=>by
   rw[←hcc];exact zas (by have:=v14 (by omega);omega)
  refine bd Tryz.f287 96 [] [] fun w0 F0 own kept hk=>?_;refine bx 3006 ?_;refine ab 3008 tz56 ?_;refine tv ?_;refine sq ?_ ?_<;>intro h1 h1p h1s;try simp only[Q] at h1p
  refine sqT ?_;refine bu [0] [_] st56 ?_;refine so ty56 ?_;refine tv ?_;refine rn [(900,some (rdB b (zaH b w (d+1) ⟨a,k⟩ p).2))] (.cons (.cellA ty56 rfl rfl rfl) .nil) (.agg (.cons (.eqd ?_) (.cons (.eqd ?_) (.cons (.eqd ?_) (.cons (.eqd ?_) (.cons (.eqd ?_) (.cons (.nild ?_) .nil))))))) ⟨rfl,rfl⟩ (SubO.get ⟨.inr ?_,⟨.inl rfl,trivial⟩⟩) (zav rfl);rotate_left 7;try simp only[Q] at h1p
  refine Walk.call (cr:=[]) zb9 (zaR (p:=p) (n:=4) hb (by omega) (by omega)) rfl (.some rfl rfl h1) rfl rfl (LeL.refl _) ⟨rfl,trivial⟩ rfl rfl rfl ?_;refine evs [] [(16,false)] ?_ ⟨⟨_,rfl,h1⟩,trivial⟩;refine sq ?_ ?_<;>intro h3 h3p h3s;try simp only[Q] at h3p
  refine bu [0] [_] st56 ?_;refine so ty56 ?_;refine tv ?_;refine rn [(900,some (rdB b (zaH b w (d+1) ⟨a,k⟩ p).2))] (.cons (.cellA ty56 rfl rfl rfl) .nil) (.agg (.cons (.eqd ?_) (.cons (.eqd ?_) (.cons (.eqd ?_) (.cons (.eqd ?_) (.cons (.eqd ?_) (.cons (.nild ?_) .nil))))))) ⟨rfl,rfl⟩ (SubO.get ⟨.inr ?_,⟨.inl rfl,trivial⟩⟩) (zav rfl);rotate_left 7;try simp only[Q] at h3p
  refine wd zb9 (zaR (p:=p+1) (n:=6) hb (by omega) (by omega)) rfl rfl ⟨rfl,trivial⟩ ?_;refine ev ?_;refine sq ?_ ?_<;>intro h4 h4p h4s;try simp only[Q] at h4p
  refine ar ?_;refine wd zmr (zeO hb hw hf d (p:=p+2) (by omega) (by omega) (by omega) (by omega) ht) rfl rfl ⟨rfl,trivial⟩ ?_;refine evd [] [] ?_;refine ar ?_;refine wd zmr (zeO hb hw hf d (p:=(zaH b w d ⟨a,k⟩ (p+2)).2) (by omega) (by omega) (by omega) (by have:=ih ⟨a,k⟩ (p+2) ht;omega) ht) rfl rfl ⟨rfl,trivial⟩ ?_;refine si [0,1] [_,_] sl45 tz56 ?_;refine bu [0,5] [_,_] st56 ?_;refine so ty56 ?_;refine dr ?_;refine rn [(900,some (rdB b (zaH b w (d+1) ⟨a,k⟩ p).2))] (.cons (.cellA ty56 rfl rfl rfl) .nil) (.agg (.cons (.eqd ?_) (.cons (.eqd ?_) (.cons (.eqd ?_) (.cons (.eqd ?_) (.cons (.eqd ?_) (.cons (.eqd ?_) .nil))))))) ⟨rfl,rfl⟩ (SubO.get ⟨.inr ?_,⟨.inl rfl,trivial⟩⟩) (zav rfl);rotate_left 7;try simp only[Q] at h4p
  refine sq ?_ ?_<;>intro h5 h5p h5s;try simp only[Q] at h5p
  refine wd zb9 (zaR (p:=p+2) (n:=10) hb (by omega) (by omega)) rfl rfl ⟨rfl,trivial⟩ ?_;refine ev ?_;refine ar ?_;refine wd zb9 (zaR (p:=p+3) (n:=10-zao b (p+2) 10) hb (by omega) (by omega)) rfl rfl ⟨rfl,trivial⟩ ?_;refine ev ?_;refine wd zb9 (zaR (p:=p+4) (n:=2) hb (by omega) (by omega)) rfl rfl ⟨rfl,trivial⟩ ?_;refine ev ?_;refine ar ?_;refine ar ?_;refine bu [0,2,3] [_,_,_] st56 ?_;refine so ty56 ?_;refine tv ?_;refine rn [(900,some (rdB b (zaH b w (d+1) ⟨a,k⟩ p).2))] (.cons (.cellA ty56 rfl rfl rfl) .nil) (.agg (.cons (.eqd ?_) (.cons (.eqd ?_) (.cons (.eqd ?_) (.cons (.eqd ?_) (.cons (.eqd ?_) (.cons (.nild ?_) .nil))))))) ⟨rfl,rfl⟩ (SubO.get ⟨.inr ?_,⟨.inl rfl,trivial⟩⟩) (zav rfl);rotate_left 7;try simp only[Q] at h5p
  refine wc zgo (zb7 hw ht) rfl rfl ?_;refine ev ?_;refine sq ?_ ?_<;>intro h6 h6p h6s;try simp only[Q] at h6p
  refine bu [0] [_] st56 ?_;refine so ty56 ?_;refine tv ?_;refine rn [(900,some (rdB b (zaH b w (d+1) ⟨a,k⟩ p).2))] (.cons (.cellA ty56 rfl rfl rfl) .nil) (.agg (.cons (.eqd ?_) (.cons (.eqd ?_) (.cons (.eqd ?_) (.cons (.eqd ?_) (.cons (.eqd ?_) (.cons (.nild ?_) .nil))))))) ⟨rfl,rfl⟩ (SubO.get ⟨.inr ?_,⟨.inl rfl,trivial⟩⟩) (zav rfl);rotate_left 7;try simp only[Q] at h6p
  refine wd zb9 (zaR (p:=p+2) (n:=((((zam w ⟨a,k⟩).map fun n=>[D.i n]).length:Nat):Int)) hb (by omega) (by omega)) rfl rfl ⟨rfl,trivial⟩ ?_;refine xaV (i:=(zao b (p+2) (zam w ⟨a,k⟩).length).toNat) zaW .none rfl rfl rfl (by rw[hvl];have:=v14 (by omega);omega) (hat (by omega)) rfl ?_;refine ev ?_;refine bu [0,1] [_,_] st56 ?_;refine ab 3011 tz56 ?_;refine so ty56 ?_;refine tv ?_;refine wc zgq (zcm hw ht (hmem (by omega))) rfl rfl ?_;refine ev ?_;refine xam 3011 5 1 6 rfl rfl rfl rfl ?_;refine xaj (ι:=List (Ty)×List (Ty)×(Nat)×(List Pat)) hk (fun x=>[(13,.d (.i (x.1.length:Int)))]) [75,76,77,78,79,80,81,82,83,84,85,86,87,88,89,90,91,92,93,94] (fun x=>[(900,some (.box [.d (zb0 b),.d (.i (x.2.2.1:Int))])),(3011,some (.box [.d (.i 4),.d (.i cc),.d (.i 0),.d (.i 0),.d (.i 0),.gl 1 (x.2.2.2.map Pat.cc)])),(1,some (.tok (x.2.2.2.map Pat.cc).length 6))]) (fun x=>x.1++x.2.1=zab w ⟨a,k⟩ cc∧x.2.2.1≤p+3+x.1.length*bdP d∧x.2.2.2.length=x.1.length∧(x.2.2.2++(dA (zaH b w d) x.2.1 x.2.2.1).1,(dA (zaH b w d) x.2.1 x.2.2.1).2)=dA (zaH b w d) (zab w ⟨a,k⟩ cc) (p+3)) (fun x=>x.2.1.length) ([],zab w ⟨a,k⟩ cc,p+3,[]) ⟨by simp,by simp,by simp,by simp⟩ ⟨⟨_,rfl,xap ?_⟩,trivial⟩ ⟨?_,⟨?_,⟨zaa ?_,trivial⟩⟩⟩ (fun x=>rfl) (fun x hg1=>?_);focus (rfl)
  iterate 2 focus (first|rfl|(simp[getH];done))
  focus (rfl)
  obtain⟨pre,rest,q,ks⟩:=x;dsimp only at hg1 ⊢;refine evc [] [] ?_;refine sq ?_ ?_<;>intro h7 h7p h7s;try simp only[Q] at h7p
  rcases rest with _|⟨y,rest⟩
  ·exfalso;simp_all
  have hpm:pre.length*bdP d≤2*bdP d:=Nat.mul_le_mul_right _ (by have:=(hfw (by omega)).1;omega);refine xaV zaT .none rfl rfl rfl rfl (zaE hg1.1) rfl ?_;refine evd [] [] ?_;refine ar ?_;refine wd zmr (zeO hb hw hf d (a:=y.data) (k:=y.index) (p:=q) (by omega) (by omega) (by omega) (by omega) ((hfw (by omega)).2 y (by rw[←hg1.1];simp))) rfl rfl ⟨rfl,trivial⟩ ?_;refine si [0] [_] sl45 tz56 ?_;refine ap sl45 zz56 rfl rfl rfl (by simp) (by have hz:=congrArg List.length hg1.1;have:=(hfw (by omega)).1;simp at hz ⊢;omega) ?_;refine evd [] [] ?_;refine so ty45 ?_;refine dr ?_;refine ar ?_;refine Exists.intro ((pre++[y],rest,(zaH b w d y q).2,ks++[(zaH b w d y q).1])) ⟨⟨(by have hz:=hg1.1;rw[←hz];simp),⟨(by have:=ih y q ((hfw (by omega)).2 y (by rw[←hg1.1];simp));simp only[xaa,xab,xah,Nat.add_mul];omega),(by simp[hg1.2.2.1]),(by rw[←hg1.2.2.2];simp[dA])⟩⟩,(by simp),sx ⟨⟨_,rfl,xap ?_⟩,trivial⟩ ⟨?_,⟨?_,⟨zaa ?_,trivial⟩⟩⟩⟩;focus ((simp;done))
  iterate 2 focus (first|rfl|(simp[getH];done))
  focus ((simp;done))
  try simp only[Q] at h7p
  have hrest:rest=[]:=by
   rcases rest with _|⟨a,b⟩
   ·rfl
   ·exfalso;have hz:=congrArg List.length (hg1.1);simp only[xaa,xab,xac] at hz;omega
  subst hrest;refine so ty56 ?_;refine tv ?_;refine rn [(900,some (rdB b (zaH b w (d+1) ⟨a,k⟩ p).2))] (.cons (.cellA ty56 rfl rfl rfl) .nil) (.agg (.cons (.eqd ?_) (.cons (.eqd ?_) (.cons (.eqd ?_) (.cons (.eqd ?_) (.cons (.eqd ?_) (.cons (.gld ?_) .nil))))))) ⟨rfl,rfl⟩ (SubO.get ⟨.inr ?_,⟨.inl rfl,trivial⟩⟩) (zav rfl);rotate_left 7;all_goals (((first|(rw[zrY (by omega)];all_goals first|rfl|(show _=D.sl (Pat.cs _);rw[Pat.cs_cc];all_goals rfl)|(show _=Pat.cs _;rw[Pat.cs_cc];all_goals rfl))|(rw[zrZ (by omega) (by omega)];all_goals first|rfl|(show _=D.sl (Pat.cs _);rw[Pat.cs_cc];all_goals rfl)|(show _=Pat.cs _;rw[Pat.cs_cc];all_goals rfl))|(rw[zr0 (by omega) (by omega) (by omega)];all_goals first|rfl|(show _=D.sl (Pat.cs _);rw[Pat.cs_cc];all_goals rfl)|(show _=Pat.cs _;rw[Pat.cs_cc];all_goals rfl))|(rw[zr1 (by omega) (by omega) (by omega) (by omega)];all_goals first|rfl|(show _=D.sl (Pat.cs _);rw[Pat.cs_cc];all_goals rfl)|(show _=Pat.cs _;rw[Pat.cs_cc];all_goals rfl))|(rw[zr2 (by omega) (by omega) (by omega) (by omega) (by omega)];all_goals first|rfl|(show _=D.sl (Pat.cs _);rw[Pat.cs_cc];all_goals rfl)|(show _=Pat.cs _;rw[Pat.cs_cc];all_goals rfl))|(rw[zr3 (by omega) (by omega) (by omega) (by omega) (by omega) hcc];have hfin:=hg1.2.2.2;simp only[dA,List.append_nil] at hfin;rw[←hfin];all_goals first|rfl|(show _=D.sl (Pat.cs _);rw[Pat.cs_cc];all_goals rfl)|(show _=Pat.cs _;rw[Pat.cs_cc];all_goals rfl)));done))
def namL (f:Pat→Int→Nat→Pat×Int×Nat):List Pat→Int→Nat→List Pat×Int×Nat
 | [],m,q=>([],m,q)
 |x::r,m,q=>((f x m q).1::(namL f r (f x m q).2.1 (f x m q).2.2).1,(namL f r (f x m q).2.1 (f x m q).2.2).2)
def namP (b:Str):Nat→Pat→Int→Nat→Pat×Int×Nat
 |0,p,m,q=>(p,m,q)
 |n+1,p,m,q=>
  if 5<m∨p.op=5∨p.op=3 then (p,m,q)
  else if p.op=1∧zao b q 2=0 then (⟨2,0,0,0,m,[]⟩,m+1,q+1)
  else if (namL (namP b n) p.kids m (if p.op=1 then q+1 else q)).2.1≤5 then
   (if zao b (namL (namP b n) p.kids m (if p.op=1 then q+1 else q)).2.2 6=0 then
    (⟨6,0,0,0,(namL (namP b n) p.kids m (if p.op=1 then q+1 else q)).2.1,[⟨p.op,p.ctor,p.n,p.m,p.var,(namL (namP b n) p.kids m (if p.op=1 then q+1 else q)).1⟩]⟩,
     (namL (namP b n) p.kids m (if p.op=1 then q+1 else q)).2.1+1,(namL (namP b n) p.kids m (if p.op=1 then q+1 else q)).2.2+1)
   else (⟨p.op,p.ctor,p.n,p.m,p.var,(namL (namP b n) p.kids m (if p.op=1 then q+1 else q)).1⟩,(namL (namP b n) p.kids m (if p.op=1 then q+1 else q)).2.1,(namL (namP b n) p.kids m (if p.op=1 then q+1 else q)).2.2+1))
  else (⟨p.op,p.ctor,p.n,p.m,p.var,(namL (namP b n) p.kids m (if p.op=1 then q+1 else q)).1⟩,(namL (namP b n) p.kids m (if p.op=1 then q+1 else q)).2.1,(namL (namP b n) p.kids m (if p.op=1 then q+1 else q)).2.2)
section
variable {b:Str}{n:Nat}{p:Pat}{m:Int}{q:Nat}{ks:List Pat}{zm:Int}{zq:Nat}
theorem zvO (h:5<m∨p.op=5∨p.op=3):namP b (n+1) p m q=(p,m,q):=by simp only[namP];rw[if_pos h]
theorem zvP (h:¬(5<m∨p.op=5∨p.op=3)) (h2:p.op=1∧zao b q 2=0):namP b (n+1) p m q=(⟨2,0,0,0,m,[]⟩,m+1,q+1):=by simp only[namP];rw[if_neg h,if_pos h2]
theorem zvQ (h:¬(5<m∨p.op=5∨p.op=3)) (h2:¬(p.op=1∧zao b q 2=0)) (hz:(ks,zm,zq)=namL (namP b n) p.kids m (if p.op=1 then q+1 else q)) (h3:zm≤5) (h4:zao b zq 6=0):
  namP b (n+1) p m q=(⟨6,0,0,0,zm,[⟨p.op,p.ctor,p.n,p.m,p.var,ks⟩]⟩,zm+1,zq+1):=by
 simp only[namP];rw[if_neg h,if_neg h2,←hz];dsimp only;rw[if_pos h3,if_pos h4]
theorem zvR (h:¬(5<m∨p.op=5∨p.op=3)) (h2:¬(p.op=1∧zao b q 2=0)) (hz:(ks,zm,zq)=namL (namP b n) p.kids m (if p.op=1 then q+1 else q)) (h3:zm≤5) (h4:¬zao b zq 6=0):
  namP b (n+1) p m q=(⟨p.op,p.ctor,p.n,p.m,p.var,ks⟩,zm,zq+1):=by
 simp only[namP];rw[if_neg h,if_neg h2,←hz];dsimp only;rw[if_pos h3,if_neg h4]
theorem zvS (h:¬(5<m∨p.op=5∨p.op=3)) (h2:¬(p.op=1∧zao b q 2=0)) (hz:(ks,zm,zq)=namL (namP b n) p.kids m (if p.op=1 then q+1 else q)) (h3:¬zm≤5):
  namP b (n+1) p m q=(⟨p.op,p.ctor,p.n,p.m,p.var,ks⟩,zm,zq):=by
 simp only[namP];rw[if_neg h,if_neg h2,←hz];dsimp only;rw[if_neg h3]
end
def NamOk (p:Pat) (m:Int) (q:Nat) (r:Pat×Int×Nat):Prop:=m≤r.2.1∧r.2.1≤6∧r.2.2≤q+2*p.size∧r.1.size≤2*p.size∧(p.ok→r.1.ok)
theorem zsb {f:Pat→Int→Nat→Pat×Int×Nat}:∀(l:List Pat) (m:Int) (q:Nat),(∀x∈l,∀m q,0≤m→m≤6→NamOk x m q (f x m q))→0≤m→m≤6→
  m≤(namL f l m q).2.1∧(namL f l m q).2.1≤6∧(namL f l m q).2.2≤q+2*Pats.size l∧Pats.size (namL f l m q).1≤2*Pats.size l∧(namL f l m q).1.length=l.length∧(Pats.ok l→Pats.ok (namL f l m q).1)
 | [],m,q,_,_,h6=>by simp[namL,Pats.size,h6]
 |x::r,m,q,h,h0,h6=>by
  obtain⟨a1,a2,a3,a4,a5⟩:=h x (by simp) m q h0 h6;obtain⟨b1,b2,b3,b4,b5,b6⟩:=zsb r (f x m q).2.1 (f x m q).2.2 (fun y hy=>h y (by simp[hy])) (by omega) a2;simp only[namL,Pats.size,xab];refine⟨by omega,by omega,by omega,by omega,by omega,fun ho=>?_⟩;exact⟨a5 ho.1,b6 ho.2⟩
theorem zoh {b:Str}:∀(n:Nat) (p:Pat) (m:Int) (q:Nat),0≤m→m≤6→NamOk p m q (namP b n p m q)
 |0,p,m,q,h0,h6=>⟨by simp[namP],by simp[namP,h6],by simp[namP],by simp[namP];omega,fun h=>h⟩
 |n+1,p,m,q,h0,h6=>by
  have hs:=Pat.size_eq p;by_cases h:5<m∨p.op=5∨p.op=3
  ·rw[zvO h];exact⟨Int.le_refl _,h6,by dsimp only;omega,by dsimp only;omega,fun h=>h⟩
  ·by_cases h2:p.op=1∧zao b q 2=0
   ·rw[zvP h h2];refine⟨by dsimp only;omega,by dsimp only;omega,by dsimp only;omega, ?_,fun _=>?_⟩
    ·show(Pat.mk 2 0 0 0 m []).size≤_;rw[Pat.size_eq];simp only[Pat.kids,Pats.size];omega
    ·show(Pat.mk 2 0 0 0 m []).ok;rw[Pat.ok_iff];exact⟨by simp[Pat.kids],trivial⟩
   ·generalize hz:namL (namP b n) p.kids m (if p.op=1 then q+1 else q)=z;obtain⟨ks,zm,zq⟩:=z;have hq:(if p.op=1 then q+1 else q)≤q+1:=by split<;>omega
    obtain⟨b1,b2,b3,b4,b5,b6⟩:=zsb (f:=namP b n) p.kids m (if p.op=1 then q+1 else q) (fun x _ m q h0 h6=>zoh n x m q h0 h6) h0 h6;rw[hz] at b1 b2 b3 b4 b5 b6;dsimp only at b1 b2 b3 b4 b5 b6;have so:(Pat.mk p.op p.ctor p.n p.m p.var ks).size=1+Pats.size ks:=by rw[Pat.size_eq];rfl
    have ko:p.ok→(Pat.mk p.op p.ctor p.n p.m p.var ks).ok:=fun h=>by
     rw[Pat.ok_iff] at h ⊢;exact⟨by show ks.length≤_;rw[b5];exact h.1,b6 h.2⟩
    by_cases h3:zm≤5
    ·by_cases h4:zao b zq 6=0
     ·rw[zvQ h h2 hz.symm h3 h4];refine⟨by dsimp only;omega,by dsimp only;omega,by dsimp only;omega, ?_,fun hk=>?_⟩
      ·dsimp only;rw[Pat.size_eq];simp only[Pat.kids,Pats.size];rw[so];omega
      ·dsimp only;rw[Pat.ok_iff];exact⟨by simp[Pat.kids],ko hk,trivial⟩
     ·rw[zvR h h2 hz.symm h3 h4];exact⟨b1,b2,by dsimp only;omega,by dsimp only;rw[so];omega,ko⟩
    ·rw[zvS h h2 hz.symm h3];exact⟨b1,b2,by dsimp only;omega,by dsimp only;rw[so];omega,ko⟩
theorem zlR {f:Pat→Int→Nat→Pat×Int×Nat}{ks:List Pat}{zm:Int}{zq:Nat}{z:List Pat×Int×Nat} (h:(ks++(namL f [] zm zq).1,(namL f [] zm zq).2)=z):(ks,zm,zq)=z:=by
 rw[←h];simp[namL]
theorem xau {l:List Pat}{y:Pat}:Pats.size (l++[y])=Pats.size l+y.size:=by
 have:=Pats.size_split (pre:=l) (rest:=[]) (y:=y) rfl;simpa [Pats.size] using this
theorem zf8 {b:Str} (hb:b.length≤2000):∀(n:Nat){p:Pat}{m:Int}{q:Nat},p.size≤n→p.ok→0≤m→m≤6→q+2*p.size≤1000000→
  FnD Tryz.prog 286 [.ref 900 0,.agg [.d (.i p.op),.d (.i p.ctor),.d (.i p.n),.d (.i p.m),.d (.i p.var),.d (zae p.kids)],.d (.i m)] [(900,some (rdB b q))] (.tup [.agg [.d (.i (namP b n p m q).1.op),.d (.i (namP b n p m q).1.ctor),.d (.i (namP b n p m q).1.n),.d (.i (namP b n p m q).1.m),.d (.i (namP b n p m q).1.var),.d (zae (namP b n p m q).1.kids)],.d (.i (namP b n p m q).2.1)]) [(900,some (rdB b (namP b n p m q).2.2))]
 |0,p,m,q,h,_,_,_,_=>by rw[Pat.size_eq] at h;omega
 |n+1,p,m,q,kn,hok,k0,k6,hq=>by
  have hs:=Pat.size_eq p;have hok':=hok;rw[Pat.ok_iff] at hok';have ih:=fun(x:Pat) (m:Int) (q:Nat) (h0:0≤m) (h6:m≤6)=>zoh (b:=b) n x m q h0 h6;have hysz:∀ {pre rest:List Pat}{y:Pat},pre++y::rest=p.kids→y.size+Pats.size pre+Pats.size rest=Pats.size p.kids:=fun h=>by have:=Pats.size_split h;omega
  have hq1:(if p.op=1 then q+1 else q)≤q+1:=by split<;>omega
  generalize hqq:(if p.op=1 then q+1 else q)=q1 at hq1;have hqa:p.op=1→q1=q+1:=fun h=>by rw[←hqq,if_pos h]
  have hqb:¬p.op=1→q1=q:=fun h=>by rw[←hqq,if_neg h]
  refine bd Tryz.f286 82 [] [] fun w0 F0 own kept hk=>?_;refine bx 3004 ?_;refine ab 3006 tz56 ?_;refine ev ?_;refine sq ?_ ?_<;>intro h1 h1p h1s;try simp only[Q,Pat.cs_len] at h1p
  refine sqT ?_;refine sqT ?_;refine so ty56 ?_;refine ev ?_;refine rn [(900,some (rdB b (namP b (n+1) p m q).2.2))] (.cons (.cellA ty56 rfl rfl rfl) (.cons (.tmp rfl) .nil)) (.tup (.cons (.agg (.cons (.eqd ?_) (.cons (.eqd ?_) (.cons (.eqd ?_) (.cons (.eqd ?_) (.cons (.eqd ?_) (.cons (.eqd ?_) .nil))))))) (.cons (.eqd ?_) .nil))) ⟨rfl,rfl⟩ (SubO.get ⟨.inr ?_,⟨.inl rfl,trivial⟩⟩) (zav rfl);rotate_left 8;try simp only[Q,Pat.cs_len] at h1p
  refine sq ?_ ?_<;>intro h3 h3p h3s;try simp only[Q,Pat.cs_len] at h3p
  refine sqT ?_;refine so ty56 ?_;refine ev ?_;refine rn [(900,some (rdB b (namP b (n+1) p m q).2.2))] (.cons (.cellA ty56 rfl rfl rfl) (.cons (.tmp rfl) .nil)) (.tup (.cons (.agg (.cons (.eqd ?_) (.cons (.eqd ?_) (.cons (.eqd ?_) (.cons (.eqd ?_) (.cons (.eqd ?_) (.cons (.eqd ?_) .nil))))))) (.cons (.eqd ?_) .nil))) ⟨rfl,rfl⟩ (SubO.get ⟨.inr ?_,⟨.inl rfl,trivial⟩⟩) (zav rfl);rotate_left 8;try simp only[Q,Pat.cs_len] at h3p
  refine sq ?_ ?_<;>intro h5 h5p h5s;try simp only[Q,Pat.cs_len] at h5p
  refine so ty56 ?_;refine ev ?_;refine rn [(900,some (rdB b (namP b (n+1) p m q).2.2))] (.cons (.cellA ty56 rfl rfl rfl) (.cons (.tmp rfl) .nil)) (.tup (.cons (.agg (.cons (.eqd ?_) (.cons (.eqd ?_) (.cons (.eqd ?_) (.cons (.eqd ?_) (.cons (.eqd ?_) (.cons (.eqd ?_) .nil))))))) (.cons (.eqd ?_) .nil))) ⟨rfl,rfl⟩ (SubO.get ⟨.inr ?_,⟨.inl rfl,trivial⟩⟩) (zav rfl);rotate_left 8;try simp only[Q,Pat.cs_len] at h5p
  refine sq ?_ ?_<;>intro h6 h6p h6s;try simp only[Q,Pat.cs_len] at h6p
  refine Walk.call (cr:=[]) zb9 (zaR (p:=q) (n:=2) hb (by omega) (by omega)) rfl (.some rfl rfl h6) rfl rfl (LeL.refl _) ⟨rfl,trivial⟩ rfl rfl rfl ?_;refine evs [] [(30,true)] ?_ ⟨⟨_,rfl,h6⟩,trivial⟩;refine sq ?_ ?_<;>intro h7 h7p h7s;try simp only[Q,Pat.cs_len] at h7p
  refine bu [0,4] [_,_] st56 ?_;refine ev ?_;refine ar ?_;refine so ty56 ?_;refine ev ?_;refine rn [(900,some (rdB b (namP b (n+1) p m q).2.2))] (.cons (.cellA ty56 rfl rfl rfl) (.cons (.tmp rfl) .nil)) (.tup (.cons (.agg (.cons (.eqd ?_) (.cons (.eqd ?_) (.cons (.eqd ?_) (.cons (.eqd ?_) (.cons (.eqd ?_) (.cons (.nild ?_) .nil))))))) (.cons (.eqd ?_) .nil))) ⟨rfl,rfl⟩ (SubO.get ⟨.inr ?_,⟨.inl rfl,trivial⟩⟩) (zav rfl);rotate_left 8;try simp only[Q,Pat.cs_len] at h7p
  refine ab 3008 tz56 ?_;refine so ty56 ?_;refine tv ?_;refine so ty45 ?_;refine tv ?_;refine xam 3008 5 1 6 rfl rfl rfl rfl ?_;refine xaj (ι:=List (Pat)×List (Pat)×(Int)×(Nat)×(List Pat)) hk (fun x=>[(10,.d (.i (x.1.length:Int))),(9,.d (.i x.2.2.1))]) [11,12,42,43,44,45,46,47,48,49,50,51,52,53,54,55,56,57,58,59,60,61,62,63,64,65,66] (fun x=>[(900,some (.box [.d (zb0 b),.d (.i (x.2.2.2.1:Int))])),(3008,some (.box [.d (.i p.op),.d (.i p.ctor),.d (.i p.n),.d (.i p.m),.d (.i p.var),.gl 1 (x.2.2.2.2.map Pat.cc)])),(1,some (.tok (x.2.2.2.2.map Pat.cc).length 6))]) (fun x=>x.1++x.2.1=p.kids∧0≤x.2.2.1∧x.2.2.1≤6∧x.2.2.2.1≤q1+2*Pats.size x.1∧x.2.2.2.2.length=x.1.length∧(x.2.2.2.2++(namL (namP b n) x.2.1 x.2.2.1 x.2.2.2.1).1,(namL (namP b n) x.2.1 x.2.2.1 x.2.2.2.1).2)=namL (namP b n) p.kids m q1) (fun x=>x.2.1.length) ([],p.kids,m,q1,[]) ⟨by simp,by simpa using k0,by simpa using k6,by simp[Pats.size],by simp,by simp⟩ ⟨⟨_,rfl,xap ?_⟩,⟨⟨_,rfl,xap ?_⟩,trivial⟩⟩ ⟨?_,⟨?_,⟨zaa ?_,trivial⟩⟩⟩ (fun x=>rfl) (fun x hg1=>?_);iterate 2 focus ((simp;done))
  iterate 2 focus (first|(simp[getH];done)|(show some (Res.box _)=some (Res.box _);rw[hqa (by omega)];all_goals rfl))
  focus ((simp;done))
  obtain⟨pre,rest,zm,zq,ks⟩:=x;dsimp only at hg1 ⊢;refine evc [] [] ?_;refine sq ?_ ?_<;>intro h8 h8p h8s;try simp only[Q,Pat.cs_len] at h8p
  rcases rest with _|⟨y,rest⟩
  ·exfalso;simp_all
  have hni:=ih y zm zq hg1.2.1 hg1.2.2.1;have hn1:=hni.1;have hn2:=hni.2.1;have hn3:=hni.2.2.1;refine xaV sl45 .none rfl rfl rfl rfl (Pat.cs_at' hg1.1) rfl ?_;refine ev ?_;refine wd zqd (zf8 hb n (p:=y) (m:=zm) (q:=zq) (by have:=hysz hg1.1;omega) (Pats.ok_mem hok'.2 y (by rw[←hg1.1];simp)) (by omega) (by omega) (by have:=hysz hg1.1;omega)) rfl rfl ⟨rfl,trivial⟩ ?_;refine ev ?_;refine ab 3011 tz56 ?_;refine so ty56 ?_;refine ev ?_;refine si [0] [_] sl45 tz56 ?_;refine ap sl45 zz56 rfl rfl rfl (by simp) (by have hz:=congrArg List.length hg1.1;simp at hz ⊢;omega) ?_;refine ev ?_;refine so ty45 ?_;refine tv ?_;refine ar ?_;refine Exists.intro ((pre++[y],rest,(namP b n y zm zq).2.1,(namP b n y zm zq).2.2,ks++[(namP b n y zm zq).1])) ⟨⟨(by have hz:=hg1.1;rw[←hz];simp),⟨by dsimp only;omega,by dsimp only;omega,(by rw[xau];dsimp only;omega),(by simp[hg1.2.2.2.2.1]),(by rw[←hg1.2.2.2.2.2];simp[namL])⟩⟩,(by simp),sx ⟨⟨_,rfl,xap ?_⟩,⟨⟨_,rfl,xap ?_⟩,trivial⟩⟩ ⟨?_,⟨?_,⟨zaa ?_,trivial⟩⟩⟩⟩;iterate 2 focus ((simp;done))
  iterate 2 focus (first|rfl|(simp[getH];done))
  focus ((simp;done))
  try simp only[Q,Pat.cs_len] at h8p
  have hrest:rest=[]:=by
   rcases rest with _|⟨a,b⟩
   ·rfl
   ·exfalso;have hz:=congrArg List.length (hg1.1);simp only[xaa,xab,xac] at hz;omega
  subst hrest;refine sq ?_ ?_<;>intro h9 h9p h9s;try simp only[Q,Pat.cs_len] at h9p
  refine Walk.call (cr:=[]) zb9 (zaR (p:=zq) (n:=6) hb (by have e:=hg1.1;rw[List.append_nil] at e;rw[←e] at hs;omega) (by omega)) rfl (.some rfl rfl h9) rfl rfl (LeL.refl _) ⟨rfl,trivial⟩ rfl rfl rfl ?_;refine evs [] [(69,true)] ?_ ⟨⟨_,rfl,h9⟩,trivial⟩;refine sq ?_ ?_<;>intro h10 h10p h10s;try simp only[Q,Pat.cs_len] at h10p
  refine si [0] [_] sl45 tz56 ?_;refine bu [0,4,5] [_,_,_] st56 ?_;refine ev ?_;refine ar ?_;refine so ty56 ?_;refine ev ?_;refine rn [(900,some (rdB b (namP b (n+1) p m q).2.2))] (.cons (.cellA ty56 rfl rfl rfl) (.cons (.tmp rfl) .nil)) (.tup (.cons (.agg (.cons (.eqd ?_) (.cons (.eqd ?_) (.cons (.eqd ?_) (.cons (.eqd ?_) (.cons (.eqd ?_) (.cons (.eqd ?_) .nil))))))) (.cons (.eqd ?_) .nil))) ⟨rfl,rfl⟩ (SubO.get ⟨.inr ?_,⟨.inl rfl,trivial⟩⟩) (zav rfl);rotate_left 8;try simp only[Q,Pat.cs_len] at h10p
  refine so ty56 ?_;refine ev ?_;refine rn [(900,some (rdB b (namP b (n+1) p m q).2.2))] (.cons (.cellA ty56 rfl rfl rfl) (.cons (.tmp rfl) .nil)) (.tup (.cons (.agg (.cons (.eqd ?_) (.cons (.eqd ?_) (.cons (.eqd ?_) (.cons (.eqd ?_) (.cons (.eqd ?_) (.cons (.gld ?_) .nil))))))) (.cons (.eqd ?_) .nil))) ⟨rfl,rfl⟩ (SubO.get ⟨.inr ?_,⟨.inl rfl,trivial⟩⟩) (zav rfl);rotate_left 8;try simp only[Q,Pat.cs_len] at h9p
  refine sqF ?_;refine so ty56 ?_;refine ev ?_;refine rn [(900,some (rdB b (namP b (n+1) p m q).2.2))] (.cons (.cellA ty56 rfl rfl rfl) (.cons (.tmp rfl) .nil)) (.tup (.cons (.agg (.cons (.eqd ?_) (.cons (.eqd ?_) (.cons (.eqd ?_) (.cons (.eqd ?_) (.cons (.eqd ?_) (.cons (.gld ?_) .nil))))))) (.cons (.eqd ?_) .nil))) ⟨rfl,rfl⟩ (SubO.get ⟨.inr ?_,⟨.inl rfl,trivial⟩⟩) (zav rfl);rotate_left 8;try simp only[Q,Pat.cs_len] at h6p
  refine sqF ?_;refine ab 3008 tz56 ?_;refine so ty56 ?_;refine tv ?_;refine so ty45 ?_;refine tv ?_;refine xam 3008 5 1 6 rfl rfl rfl rfl ?_;refine xaj (ι:=List (Pat)×List (Pat)×(Int)×(Nat)×(List Pat)) hk (fun x=>[(10,.d (.i (x.1.length:Int))),(9,.d (.i x.2.2.1))]) [11,12,42,43,44,45,46,47,48,49,50,51,52,53,54,55,56,57,58,59,60,61,62,63,64,65,66] (fun x=>[(900,some (.box [.d (zb0 b),.d (.i (x.2.2.2.1:Int))])),(3008,some (.box [.d (.i p.op),.d (.i p.ctor),.d (.i p.n),.d (.i p.m),.d (.i p.var),.gl 1 (x.2.2.2.2.map Pat.cc)])),(1,some (.tok (x.2.2.2.2.map Pat.cc).length 6))]) (fun x=>x.1++x.2.1=p.kids∧0≤x.2.2.1∧x.2.2.1≤6∧x.2.2.2.1≤q1+2*Pats.size x.1∧x.2.2.2.2.length=x.1.length∧(x.2.2.2.2++(namL (namP b n) x.2.1 x.2.2.1 x.2.2.2.1).1,(namL (namP b n) x.2.1 x.2.2.1 x.2.2.2.1).2)=namL (namP b n) p.kids m q1) (fun x=>x.2.1.length) ([],p.kids,m,q1,[]) ⟨by simp,by simpa using k0,by simpa using k6,by simp[Pats.size],by simp,by simp⟩ ⟨⟨_,rfl,xap ?_⟩,⟨⟨_,rfl,xap ?_⟩,trivial⟩⟩ ⟨?_,⟨?_,⟨zaa ?_,trivial⟩⟩⟩ (fun x=>rfl) (fun x hg1=>?_);iterate 2 focus ((simp;done))
  iterate 2 focus (first|(simp[getH];done)|(show some (Res.box _)=some (Res.box _);rw[hqb (by omega)];all_goals rfl))
  focus ((simp;done))
  obtain⟨pre,rest,zm,zq,ks⟩:=x;dsimp only at hg1 ⊢;refine evc [] [] ?_;refine sq ?_ ?_<;>intro h13 h13p h13s;try simp only[Q,Pat.cs_len] at h13p
  rcases rest with _|⟨y,rest⟩
  ·exfalso;simp_all
  have hni:=ih y zm zq hg1.2.1 hg1.2.2.1;have hn1:=hni.1;have hn2:=hni.2.1;have hn3:=hni.2.2.1;refine xaV sl45 .none rfl rfl rfl rfl (Pat.cs_at' hg1.1) rfl ?_;refine ev ?_;refine wd zqd (zf8 hb n (p:=y) (m:=zm) (q:=zq) (by have:=hysz hg1.1;omega) (Pats.ok_mem hok'.2 y (by rw[←hg1.1];simp)) (by omega) (by omega) (by have:=hysz hg1.1;omega)) rfl rfl ⟨rfl,trivial⟩ ?_;refine ev ?_;refine ab 3011 tz56 ?_;refine so ty56 ?_;refine ev ?_;refine si [0] [_] sl45 tz56 ?_;refine ap sl45 zz56 rfl rfl rfl (by simp) (by have hz:=congrArg List.length hg1.1;simp at hz ⊢;omega) ?_;refine ev ?_;refine so ty45 ?_;refine tv ?_;refine ar ?_;refine Exists.intro ((pre++[y],rest,(namP b n y zm zq).2.1,(namP b n y zm zq).2.2,ks++[(namP b n y zm zq).1])) ⟨⟨(by have hz:=hg1.1;rw[←hz];simp),⟨by dsimp only;omega,by dsimp only;omega,(by rw[xau];dsimp only;omega),(by simp[hg1.2.2.2.2.1]),(by rw[←hg1.2.2.2.2.2];simp[namL])⟩⟩,(by simp),sx ⟨⟨_,rfl,xap ?_⟩,⟨⟨_,rfl,xap ?_⟩,trivial⟩⟩ ⟨?_,⟨?_,⟨zaa ?_,trivial⟩⟩⟩⟩;iterate 2 focus ((simp;done))
  iterate 2 focus (first|rfl|(simp[getH];done))
  focus ((simp;done))
  try simp only[Q,Pat.cs_len] at h13p
  have hrest:rest=[]:=by
   rcases rest with _|⟨a,b⟩
   ·rfl
   ·exfalso;have hz:=congrArg List.length (hg1.1);simp only[xaa,xab,xac] at hz;omega
  subst hrest;refine sq ?_ ?_<;>intro h14 h14p h14s;try simp only[Q,Pat.cs_len] at h14p
  refine Walk.call (cr:=[]) zb9 (zaR (p:=zq) (n:=6) hb (by have e:=hg1.1;rw[List.append_nil] at e;rw[←e] at hs;omega) (by omega)) rfl (.some rfl rfl h14) rfl rfl (LeL.refl _) ⟨rfl,trivial⟩ rfl rfl rfl ?_;refine evs [] [(69,true)] ?_ ⟨⟨_,rfl,h14⟩,trivial⟩;refine sq ?_ ?_<;>intro h15 h15p h15s;try simp only[Q,Pat.cs_len] at h15p
  refine si [0] [_] sl45 tz56 ?_;refine bu [0,4,5] [_,_,_] st56 ?_;refine ev ?_;refine ar ?_;refine so ty56 ?_;refine ev ?_;refine rn [(900,some (rdB b (namP b (n+1) p m q).2.2))] (.cons (.cellA ty56 rfl rfl rfl) (.cons (.tmp rfl) .nil)) (.tup (.cons (.agg (.cons (.eqd ?_) (.cons (.eqd ?_) (.cons (.eqd ?_) (.cons (.eqd ?_) (.cons (.eqd ?_) (.cons (.eqd ?_) .nil))))))) (.cons (.eqd ?_) .nil))) ⟨rfl,rfl⟩ (SubO.get ⟨.inr ?_,⟨.inl rfl,trivial⟩⟩) (zav rfl);rotate_left 8;try simp only[Q,Pat.cs_len] at h15p
  refine so ty56 ?_;refine ev ?_;refine rn [(900,some (rdB b (namP b (n+1) p m q).2.2))] (.cons (.cellA ty56 rfl rfl rfl) (.cons (.tmp rfl) .nil)) (.tup (.cons (.agg (.cons (.eqd ?_) (.cons (.eqd ?_) (.cons (.eqd ?_) (.cons (.eqd ?_) (.cons (.eqd ?_) (.cons (.gld ?_) .nil))))))) (.cons (.eqd ?_) .nil))) ⟨rfl,rfl⟩ (SubO.get ⟨.inr ?_,⟨.inl rfl,trivial⟩⟩) (zav rfl);rotate_left 8;try simp only[Q,Pat.cs_len] at h14p
  refine sqF ?_;refine so ty56 ?_;refine ev ?_;refine rn [(900,some (rdB b (namP b (n+1) p m q).2.2))] (.cons (.cellA ty56 rfl rfl rfl) (.cons (.tmp rfl) .nil)) (.tup (.cons (.agg (.cons (.eqd ?_) (.cons (.eqd ?_) (.cons (.eqd ?_) (.cons (.eqd ?_) (.cons (.eqd ?_) (.cons (.gld ?_) .nil))))))) (.cons (.eqd ?_) .nil))) ⟨rfl,rfl⟩ (SubO.get ⟨.inr ?_,⟨.inl rfl,trivial⟩⟩) (zav rfl);rotate_left 8;all_goals ((first|(rw[zvO (by omega)];all_goals first|rfl|(show _=D.sl (Pat.cs _);rw[Pat.cs_cc];all_goals rfl)|(show _=Pat.cs _;rw[Pat.cs_cc];all_goals rfl)|(show _=D.sl [[D.i _,D.i _,D.i _,D.i _,D.i _,D.sl (Pat.cs _)]];rw[Pat.cs_cc];all_goals rfl))|(rw[zvP (by omega) ⟨by omega,by omega⟩];all_goals first|rfl|(show _=D.sl (Pat.cs _);rw[Pat.cs_cc];all_goals rfl)|(show _=Pat.cs _;rw[Pat.cs_cc];all_goals rfl)|(show _=D.sl [[D.i _,D.i _,D.i _,D.i _,D.i _,D.sl (Pat.cs _)]];rw[Pat.cs_cc];all_goals rfl))|(have hz:(ks,zm,zq)=namL (namP b n) p.kids m (if p.op=1 then q+1 else q):=(by rw[hqq];exact zlR hg1.2.2.2.2.2);rw[zvQ (by omega) (fun hh=>by omega) hz (by omega) (by omega)];all_goals first|rfl|(show _=D.sl (Pat.cs _);rw[Pat.cs_cc];all_goals rfl)|(show _=Pat.cs _;rw[Pat.cs_cc];all_goals rfl)|(show _=D.sl [[D.i _,D.i _,D.i _,D.i _,D.i _,D.sl (Pat.cs _)]];rw[Pat.cs_cc];all_goals rfl))|(have hz:(ks,zm,zq)=namL (namP b n) p.kids m (if p.op=1 then q+1 else q):=(by rw[hqq];exact zlR hg1.2.2.2.2.2);rw[zvR (by omega) (fun hh=>by omega) hz (by omega) (by omega)];all_goals first|rfl|(show _=D.sl (Pat.cs _);rw[Pat.cs_cc];all_goals rfl)|(show _=Pat.cs _;rw[Pat.cs_cc];all_goals rfl)|(show _=D.sl [[D.i _,D.i _,D.i _,D.i _,D.i _,D.sl (Pat.cs _)]];rw[Pat.cs_cc];all_goals rfl))|(have hz:(ks,zm,zq)=namL (namP b n) p.kids m (if p.op=1 then q+1 else q):=(by rw[hqq];exact zlR hg1.2.2.2.2.2);rw[zvS (by omega) (fun hh=>by omega) hz (by omega)];all_goals first|rfl|(show _=D.sl (Pat.cs _);rw[Pat.cs_cc];all_goals rfl)|(show _=Pat.cs _;rw[Pat.cs_cc];all_goals rfl)|(show _=D.sl [[D.i _,D.i _,D.i _,D.i _,D.i _,D.sl (Pat.cs _)]];rw[Pat.cs_cc];all_goals rfl))))
def szP:Nat→Nat
 |0=>1
 |d+1=>1+3*szP d
theorem zwA (d:Nat):1≤szP d:=by cases d<;>simp only[szP]<;>omega
theorem ziv:anyP.size=1∧anyP.ok:=⟨by rw[Pat.size_eq];rfl,by rw[Pat.ok_iff];exact⟨by simp[anyP,Pat.kids],trivial⟩⟩
theorem zvI {f:Ty→Nat→Pat×Nat}{k:Nat}:∀(l:List Ty) (q:Nat),(∀t∈l,∀q,(f t q).1.size≤k∧(f t q).1.ok)→Pats.size (dA f l q).1≤l.length*k∧Pats.ok (dA f l q).1
 | [],q,_=>by simp[dA,Pats.size,Pats.ok]
 |t::r,q,h=>by
  have h1:=h t (by simp) q;have h2:=zvI r (f t q).2 (fun x hx=>h x (by simp[hx]));simp only[dA,xab,Nat.add_mul,Pats.size];exact⟨by omega,h1.2,h2.2⟩
theorem zlC {b:Str}{w:List Data} (hf:Few w):∀(d:Nat) (t:Ty) (p:Nat),TyIn w.length t→(zaH b w d t p).1.size≤szP d∧(zaH b w d t p).1.ok
 |0,t,p,_=>by simp only[zaH,szP];have:=ziv;exact⟨by omega,this.2⟩
 |d+1,⟨a,k⟩,p,ht=>by
  have ih:=fun t p ht=>zlC (b:=b) hf d t p ht;have ha:=ziv;have hp:=zwA d;simp only[szP];by_cases c1:d=0
  ·rw[zrY c1];exact⟨by dsimp only;omega,ha.2⟩
  by_cases c2:zao b p 4=0
  ·rw[zrZ c1 c2];exact⟨by dsimp only;omega,ha.2⟩
  by_cases c3:zao b (p+1) 6=0
  ·rw[zr0 c1 c2 c3];have h1:=ih ⟨a,k⟩ (p+2) ht;have h2:=ih ⟨a,k⟩ (zaH b w d ⟨a,k⟩ (p+2)).2 ht;refine⟨?_, ?_⟩
   ·dsimp only;rw[Pat.size_eq];simp only[Pat.kids,Pats.size];omega
   ·dsimp only;rw[Pat.ok_iff];exact⟨by simp[Pat.kids],h1.2,h2.2,trivial⟩
  by_cases c4:a = -1
  ·rw[zr1 c1 c2 c3 c4];refine⟨?_, ?_⟩
   ·dsimp only;rw[Pat.size_eq];simp only[Pat.kids,Pats.size];omega
   ·dsimp only;rw[Pat.ok_iff];exact⟨by simp[Pat.kids],trivial⟩
  by_cases c5:(zam w ⟨a,k⟩).length=0
  ·rw[zr2 c1 c2 c3 c4 c5];exact⟨by dsimp only;omega,ha.2⟩
  ·rw[zr3 c1 c2 c3 c4 c5 rfl];have hm:=zjk (b:=b) (p:=p+2) c5;have h3:=hf ⟨a,k⟩ _ hm ht;have h1:=zvI (f:=zaH b w d) (k:=szP d) _ (p+3) (fun u hu q=>ih u q (h3.2 u hu));have h2:=ztP (f:=zaH b w d) (zab w ⟨a,k⟩ (nth (zam w ⟨a,k⟩) (zao b (p+2) (zam w ⟨a,k⟩).length).toNat)) (p+3);have h4:(zab w ⟨a,k⟩ (nth (zam w ⟨a,k⟩) (zao b (p+2) (zam w ⟨a,k⟩).length).toNat)).length*szP d≤3*szP d:=Nat.mul_le_mul_right _ h3.1;refine⟨?_, ?_⟩
   ·dsimp only;rw[Pat.size_eq];simp only[Pat.kids];omega
   ·dsimp only;rw[Pat.ok_iff];exact⟨by simp only[Pat.kids];omega,h1.2⟩
theorem zlT {b:Str}{p:Nat}{l:List Int} (h:1≤l.length):numV b p l∈l:=by
 have:=zcM (b:=b) (p:=p) (n:=(l.length:Int)) (by omega);exact zaf (by omega)
theorem num4 (b:Str) (p:Nat):1≤numV b p [3,2,4,1]∧numV b p [3,2,4,1]≤4:=by
 have:=zlT (b:=b) (p:=p) (l:=[3,2,4,1]) (by simp);simp only[List.mem_cons,List.not_mem_nil,or_false] at this;omega
theorem zre {d:Nat} (h:d≤4):szP d≤121∧bdP d≤200:=by
 have:d=0∨d=1∨d=2∨d=3∨d=4:=by omega
 rcases this with rfl|rfl|rfl|rfl|rfl<;>decide
def zcC (b:Str) (w:List Data) (t:Ty) (p:Nat):Pat×Int×Nat:=
 namP b (zaH b w (numV b p [3,2,4,1]).toNat t (p+1)).1.size (zaH b w (numV b p [3,2,4,1]).toNat t (p+1)).1 0 (zaH b w (numV b p [3,2,4,1]).toNat t (p+1)).2
def zbI (b:Str) (w:List Data) (t:Ty) (p:Nat):Pat:=if isP w t (zcC b w t p).1 then (zcC b w t p).1 else anyP
theorem zh7 {b:Str}{w:List Data} (hf:Few w){t:Ty} (ht:TyIn w.length t) (p:Nat):(zcC b w t p).2.2≤p+500∧(zcC b w t p).1.size≤242∧(zcC b w t p).1.ok:=by
 have h4:=num4 b p;have hs:=zre (d:=(numV b p [3,2,4,1]).toNat) (by omega);have h1:=zlC (b:=b) hf (numV b p [3,2,4,1]).toNat t (p+1) ht;have h2:=zi1 (b:=b) hf (numV b p [3,2,4,1]).toNat t (p+1) ht;have h3:=zoh (b:=b) (zaH b w (numV b p [3,2,4,1]).toNat t (p+1)).1.size (zaH b w (numV b p [3,2,4,1]).toNat t (p+1)).1 0 (zaH b w (numV b p [3,2,4,1]).toNat t (p+1)).2 (by omega) (by omega);obtain⟨_,_,n3,n4,n5⟩:=h3;exact⟨by unfold zcC;omega,by unfold zcC;omega,n5 h1.2⟩
theorem znl {b:Str}{w:List Data} (hf:Few w){t:Ty} (ht:TyIn w.length t) (p:Nat):(zbI b w t p).size≤242∧(zbI b w t p).ok:=by
 have h:=zh7 (b:=b) hf ht p;have ha:=ziv;unfold zbI;split
 ·exact⟨h.2.1,h.2.2⟩
 ·exact⟨by omega,ha.2⟩
theorem zow {b:Str}{w:List Data} (hb:b.length≤2000) (hw:WT w) (hf:Few w){a k:Int}{p:Nat} (hp:p≤100000) (ht:TyIn w.length ⟨a,k⟩):
  FnD Tryz.prog 239 [.ref 900 0,.d (zaj w),.agg [.d (.i a),.d (.i k)]] [(900,some (rdB b p))]
   (.agg [.d (.i (zbI b w ⟨a,k⟩ p).op),.d (.i (zbI b w ⟨a,k⟩ p).ctor),.d (.i (zbI b w ⟨a,k⟩ p).n),.d (.i (zbI b w ⟨a,k⟩ p).m),.d (.i (zbI b w ⟨a,k⟩ p).var),.d (zae (zbI b w ⟨a,k⟩ p).kids)]) [(900,some (rdB b (zcC b w ⟨a,k⟩ p).2.2))]:=by
 have h4:=num4 b p;have hs:=zre (d:=(numV b p [3,2,4,1]).toNat) (by omega);have h1:=zlC (b:=b) hf (numV b p [3,2,4,1]).toNat ⟨a,k⟩ (p+1) ht;have h2:=zi1 (b:=b) hf (numV b p [3,2,4,1]).toNat ⟨a,k⟩ (p+1) ht;have hr:=zh7 (b:=b) hf ht p;have hnum:=zbN (b:=b) (p:=p) (l:=[3,2,4,1]) hb (by omega) (by simp) (by simp);have hdr:=zeO hb hw hf (numV b p [3,2,4,1]).toNat (a:=a) (k:=k) (m:=numV b p [3,2,4,1]) (p:=p+1) (by omega) (by omega) (by omega) (by omega) ht;have hnm:=zf8 hb (zaH b w (numV b p [3,2,4,1]).toNat ⟨a,k⟩ (p+1)).1.size (m:=0) (q:=(zaH b w (numV b p [3,2,4,1]).toNat ⟨a,k⟩ (p+1)).2) (Nat.le_refl _) h1.2 (by omega) (by omega) (by omega);have hsp:zbI b w ⟨a,k⟩ p=if isP w ⟨a,k⟩ (zcC b w ⟨a,k⟩ p).1 then (zcC b w ⟨a,k⟩ p).1 else anyP:=rfl
 rw[show namP b (zaH b w (numV b p [3,2,4,1]).toNat ⟨a,k⟩ (p+1)).1.size (zaH b w (numV b p [3,2,4,1]).toNat ⟨a,k⟩ (p+1)).1 0 (zaH b w (numV b p [3,2,4,1]).toNat ⟨a,k⟩ (p+1)).2=zcC b w ⟨a,k⟩ p from rfl] at hnm;generalize numV b p [3,2,4,1]=m at *;refine bd Tryz.f239 28 [] [] fun w0 F0 own kept hk=>?_;refine bx 3005 ?_;refine ab 3006 tz56 ?_;refine tv ?_;refine si [0,1,2,3] [_,_,_,_] zaW tz3 ?_;refine wd zdZ (hnum) rfl rfl ⟨rfl,trivial⟩ ?_;refine wd zmr (hdr) rfl rfl ⟨rfl,trivial⟩ ?_;refine wd zqd (hnm) rfl rfl ⟨rfl,trivial⟩ ?_;refine evd [] [] ?_;refine ab 3007 tz56 ?_;refine so ty56 ?_;refine evd [] [] ?_;refine dr ?_;refine wc zmj (zfI hw ht hr.2.2 (by omega)) rfl rfl ?_;refine ev ?_;refine sq ?_ ?_<;>intro h1 h1p h1s;try simp only[Q] at h1p
 refine bu [0] [_] st56 ?_;refine so ty56 ?_;refine tv ?_;refine rn [(900,some (rdB b (zcC b w ⟨a,k⟩ p).2.2))] (.cons (.cellA ty56 rfl rfl rfl) .nil) (.agg (.cons (.eqd ?_) (.cons (.eqd ?_) (.cons (.eqd ?_) (.cons (.eqd ?_) (.cons (.eqd ?_) (.cons (.nild ?_) .nil))))))) ⟨rfl,rfl⟩ (SubO.get ⟨.inr ?_,⟨.inl rfl,trivial⟩⟩) (zav rfl);rotate_left 7;try simp only[Q] at h1p
 refine so ty56 ?_;refine tv ?_;refine rn [(900,some (rdB b (zcC b w ⟨a,k⟩ p).2.2))] (.cons (.cellA ty56 rfl rfl rfl) .nil) (.agg (.cons (.eqd ?_) (.cons (.eqd ?_) (.cons (.eqd ?_) (.cons (.eqd ?_) (.cons (.eqd ?_) (.cons (.eqd ?_) .nil))))))) ⟨rfl,rfl⟩ (SubO.get ⟨.inr ?_,⟨.inl rfl,trivial⟩⟩) (zav rfl);rotate_left 7;all_goals (first|((first|(rw[hsp,if_neg (by rw[h1s];simp)];all_goals rfl)|(rw[hsp,if_pos h1s];all_goals rfl));done)|(rfl))
theorem zgR:FnD Tryz.prog 49 [] [] (.agg [.d (.i 1),.d (.i 0),.d (.i 0),.d (.i 0),.d (.i 0),.d (.sl [])]) []:=by
 refine bd Tryz.f49 2 [] [] fun w0 F0 own kept hk=>?_;refine ab 3000 tz56 ?_;refine tv ?_;refine bu [0] [_] st56 ?_;refine so ty56 ?_;refine tv ?_;focus (refine rn0 (.cons (.cellA ty56 rfl rfl rfl) .nil) (.agg (.cons (.eqd ?_) (.cons (.eqd ?_) (.cons (.eqd ?_) (.cons (.eqd ?_) (.cons (.eqd ?_) (.cons (.nild ?_) .nil)))))));all_goals (rfl))
theorem zhO {a b:Pat} (hn:0≤b.n∧b.n≤9) (hm:0≤b.m∧b.m≤9):FnD Tryz.prog 251 [.agg [.d (.i (a).op),.d (.i (a).ctor),.d (.i (a).n),.d (.i (a).m),.d (.i (a).var),.d (zae (a).kids)],.agg [.d (.i (b).op),.d (.i (b).ctor),.d (.i (b).n),.d (.i (b).m),.d (.i (b).var),.d (zae (b).kids)]] [] (.d (zae (zbP a.n (minQ a.m (b.n-1))++zbP (maxQ a.n (b.m+1)) a.m))) []:=by
 refine bd Tryz.f251 58 [] [] fun w0 F0 own kept hk=>?_;refine bx 3002 ?_;refine bx 3003 ?_;refine ev ?_;refine xbj 9 sl45 .none rfl rfl ?_;refine ev ?_;refine bu [0,2,3] [_,_,_] st56 ?_;refine ab 3006 tz56 ?_;refine so ty56 ?_;refine tv ?_;refine ar ?_;refine sq ?_ ?_<;>intro h1 h1p h1s;try simp only[Q] at h1p
 refine ar ?_;refine so ty3 ?_;refine tv ?_;refine sq ?_ ?_<;>intro h2 h2p h2s;try simp only[Q] at h2p
 refine si [0] [_] sl45 tz56 ?_;refine ap sl45 zz56 rfl rfl rfl (by intro x hx;simp at hx;subst hx;rfl) (by simp) ?_;refine ev ?_;refine bu [0,2,3] [_,_,_] st56 ?_;refine ab 3007 tz56 ?_;refine so ty56 ?_;refine tv ?_;refine ar ?_;refine sq ?_ ?_<;>intro h3 h3p h3s;try simp only[Q] at h3p
 refine ar ?_;refine so ty3 ?_;refine tv ?_;refine sq ?_ ?_<;>intro h4 h4p h4s;try simp only[Q] at h4p
 refine si [0] [_] sl45 tz56 ?_;refine ap sl45 zz56 rfl rfl rfl (by intro x hx;simp at hx;subst hx;rfl) (by simp) ?_;refine ev ?_;refine rn0 (r1 rfl) (.gld ?_);rotate_left;try simp only[Q] at h4p
 refine rn0 (r1 rfl) (.gld ?_);rotate_left;try simp only[Q] at h3p
 refine sq ?_ ?_<;>intro h5 h5p h5s;try simp only[Q] at h5p
 refine si [0] [_] sl45 tz56 ?_;refine ap sl45 zz56 rfl rfl rfl (by intro x hx;simp at hx;subst hx;rfl) (by simp) ?_;refine ev ?_;refine rn0 (r1 rfl) (.gld ?_);rotate_left;try simp only[Q] at h5p
 refine rn0 (r1 rfl) (.gld ?_);rotate_left;try simp only[Q] at h2p
 refine bu [0,2,3] [_,_,_] st56 ?_;refine ab 3007 tz56 ?_;refine so ty56 ?_;refine tv ?_;refine ar ?_;refine sq ?_ ?_<;>intro h6 h6p h6s;try simp only[Q] at h6p
 refine ar ?_;refine so ty3 ?_;refine tv ?_;refine sq ?_ ?_<;>intro h7 h7p h7s;try simp only[Q] at h7p
 refine si [0] [_] sl45 tz56 ?_;refine ap sl45 zz56 rfl rfl rfl (by intro x hx;simp at hx;subst hx;rfl) (by simp) ?_;refine ev ?_;refine rn0 (r1 rfl) (.gld ?_);rotate_left;try simp only[Q] at h7p
 refine rn0 (r1 rfl) (.gld ?_);rotate_left;try simp only[Q] at h6p
 refine sq ?_ ?_<;>intro h8 h8p h8s;try simp only[Q] at h8p
 refine si [0] [_] sl45 tz56 ?_;refine ap sl45 zz56 rfl rfl rfl (by intro x hx;simp at hx;subst hx;rfl) (by simp) ?_;refine ev ?_;refine rn0 (r1 rfl) (.gld ?_);rotate_left;try simp only[Q] at h8p
 refine rn0 (r1 rfl) (.gld ?_);rotate_left;try simp only[Q] at h1p
 refine sq ?_ ?_<;>intro h9 h9p h9s;try simp only[Q] at h9p
 refine si [0] [_] sl45 tz56 ?_;refine ap sl45 zz56 rfl rfl rfl (by intro x hx;simp at hx;subst hx;rfl) (by simp) ?_;refine ev ?_;refine bu [0,2,3] [_,_,_] st56 ?_;refine ab 3007 tz56 ?_;refine so ty56 ?_;refine tv ?_;refine ar ?_;refine sq ?_ ?_<;>intro h10 h10p h10s;try simp only[Q] at h10p
 refine ar ?_;refine so ty3 ?_;refine tv ?_;refine sq ?_ ?_<;>intro h11 h11p h11s;try simp only[Q] at h11p
 refine si [0] [_] sl45 tz56 ?_;refine ap sl45 zz56 rfl rfl rfl (by intro x hx;simp at hx;subst hx;rfl) (by simp) ?_;refine ev ?_;refine rn0 (r1 rfl) (.gld ?_);rotate_left;try simp only[Q] at h11p
 refine rn0 (r1 rfl) (.gld ?_);rotate_left;try simp only[Q] at h10p
 refine sq ?_ ?_<;>intro h12 h12p h12s;try simp only[Q] at h12p
 refine si [0] [_] sl45 tz56 ?_;refine ap sl45 zz56 rfl rfl rfl (by intro x hx;simp at hx;subst hx;rfl) (by simp) ?_;refine ev ?_;refine rn0 (r1 rfl) (.gld ?_);rotate_left;try simp only[Q] at h12p
 refine rn0 (r1 rfl) (.gld ?_);rotate_left;try simp only[Q] at h9p
 refine bu [0,2,3] [_,_,_] st56 ?_;refine ab 3007 tz56 ?_;refine so ty56 ?_;refine tv ?_;refine ar ?_;refine sq ?_ ?_<;>intro h13 h13p h13s;try simp only[Q] at h13p
 refine ar ?_;refine so ty3 ?_;refine tv ?_;refine sq ?_ ?_<;>intro h14 h14p h14s;try simp only[Q] at h14p
 refine si [0] [_] sl45 tz56 ?_;refine ap sl45 zz56 rfl rfl rfl (by intro x hx;simp at hx;subst hx;rfl) (by simp) ?_;refine ev ?_;refine rn0 (r1 rfl) (.gld ?_);rotate_left;try simp only[Q] at h14p
 refine rn0 (r1 rfl) (.gld ?_);rotate_left;try simp only[Q] at h13p
 refine sq ?_ ?_<;>intro h15 h15p h15s;try simp only[Q] at h15p
 refine si [0] [_] sl45 tz56 ?_;refine ap sl45 zz56 rfl rfl rfl (by intro x hx;simp at hx;subst hx;rfl) (by simp) ?_;refine ev ?_;refine rn0 (r1 rfl) (.gld ?_);rotate_left;try simp only[Q] at h15p
 refine rn0 (r1 rfl) (.gld ?_);rotate_left;all_goals (unfold minQ maxQ zbP;(repeat' split)<;>first|rfl|(exfalso;omega))
theorem zpG {w:List Data} (hw:WT w){a k c:Int} (ht:TyIn w.length ⟨a,k⟩) (hc:c∈zam w ⟨a,k⟩) (hl:(zab w ⟨a,k⟩ c).length≤3):FnD Tryz.prog 253 [.d (zaj w),.agg [.d (.i a),.d (.i k)],.d (.i c)] []
  (.agg [.d (.i 4),.d (.i c),.d (.i 0),.d (.i 0),.d (.i 0),.d (zae (zbZ w ⟨a,k⟩ c).kids)]) []:=by
 refine bd Tryz.f253 29 [] [] fun w0 F0 own kept hk=>?_;refine bx 3004 ?_;refine ab 3006 tz56 ?_;refine tv ?_;refine bu [0,1] [_,_] st56 ?_;refine ab 3007 tz56 ?_;refine so ty56 ?_;refine tv ?_;refine wc zgq (zcm hw ht hc) rfl rfl ?_;refine ev ?_;refine xam 3007 5 9 6 rfl rfl rfl rfl ?_;refine xaj (ι:=List (Ty)×List (Ty)) hk (fun x=>[(9,.d (.i (x.1.length:Int)))]) [16,17,18,19,20,21,22,23,24,25,26,27] (fun x=>[(3007,some (.box [.d (.i 4),.d (.i c),.d (.i 0),.d (.i 0),.d (.i 0),.gl 9 ((x.1.map fun _=>anyQ).map Pat.cc)])),(9,some (.tok ((x.1.map fun _=>anyQ).map Pat.cc).length 6))]) (fun x=>x.1++x.2=zab w ⟨a,k⟩ c) (fun x=>x.2.length) ([],zab w ⟨a,k⟩ c) (by simp) ⟨⟨_,rfl,xap ?_⟩,trivial⟩ ⟨?_,⟨zaa ?_,trivial⟩⟩ (fun x=>rfl) (fun x hg1=>?_);focus (rfl)
 focus (rfl)
 focus (rfl)
 obtain⟨pre,rest⟩:=x;dsimp only at hg1 ⊢;refine evc [] [] ?_;refine sq ?_ ?_<;>intro h1 h1p h1s;try simp only[Q] at h1p
 rcases rest with _|⟨y,rest⟩
 ·exfalso;simp_all
 refine wc zsr (zgR) rfl rfl ?_;refine si [0] [_] sl45 tz56 ?_;refine ap sl45 zz56 rfl rfl rfl (by intro x hx;(simp at hx;subst hx;rfl)) (by have:=congrArg List.length hg1;simp at this;simp;omega) ?_;refine evd [] [] ?_;refine so ty45 ?_;refine dr ?_;refine ar ?_;refine Exists.intro ((pre++[y],rest)) ⟨(by have hz:=hg1;rw[←hz];simp),(by simp),sx ⟨⟨_,rfl,xap ?_⟩,trivial⟩ ⟨?_,⟨zaa ?_,trivial⟩⟩⟩;focus ((simp;done))
 focus ((simp[getH];exact⟨rfl,rfl,rfl,rfl,rfl,rfl⟩))
 focus ((simp;done))
 try simp only[Q] at h1p
 have hrest:rest=[]:=by
  rcases rest with _|⟨a,b⟩
  ·rfl
  ·exfalso;have hz:=congrArg List.length (hg1);simp only[xaa,xab,xac] at hz;omega
 subst hrest;refine so ty56 ?_;refine tv ?_;refine rn0 (.cons (.cellA ty56 rfl rfl rfl) .nil) (.agg (.cons (.eqd ?_) (.cons (.eqd ?_) (.cons (.eqd ?_) (.cons (.eqd ?_) (.cons (.eqd ?_) (.cons (.gld ?_) .nil)))))));rotate_left 6;all_goals (first|rfl|(rw[List.append_nil] at hg1;subst hg1;rw[←xas];all_goals rfl))
def zdS (n:Nat) (a b:Pat):Pat:=if a.op=3∧b.op≠1 then intQ (maxQ a.n b.n) (minQ a.m b.m) else zcS n a b
theorem zob {n:Nat}{a b:Pat} (h:¬(a.op=3∧b.op≠1)):zdS n a b=zcS n a b:=if_neg h
theorem zqK {n:Nat}{a b:Pat} (h:(zaM n a b).isSome=true):zdS n a b=zcS n a b:=by
 unfold zdS;split
 ·rename_i h3;cases n with
  |zero=>simp[zaM] at h
  |succ n=>
   have e:=zkg (n:=n) h3.1 h3.2;rw[e] at h;split at h
   ·rename_i hr;rw[if_pos hr] at e;exact(zcw e).symm
   ·cases h
 ·rfl
theorem ziR {w:List Data} (hs:Spa w):∀(n m:Nat){t:Ty}{a b:Pat},m≤n→InS (w.length*4) t→zai w m t a=true→zai w m t b=true→
  FnD Tryz.prog 231 [.agg [.d (.i (a).op),.d (.i (a).ctor),.d (.i (a).n),.d (.i (a).m),.d (.i (a).var),.d (zae (a).kids)],.agg [.d (.i (b).op),.d (.i (b).ctor),.d (.i (b).n),.d (.i (b).m),.d (.i (b).var),.d (zae (b).kids)]] [] (.tup [.agg [.d (.i (zdS n a b).op),.d (.i (zdS n a b).ctor),.d (.i (zdS n a b).n),.d (.i (zdS n a b).m),.d (.i (zdS n a b).var),.d (zae (zdS n a b).kids)],.d (.bool (zaM n a b).isSome)]) []
 |n,0,t,a,b,_,_,ha,_=>by simp[zai] at ha
 |0,m+1,t,a,b,h,_,_,_=>by omega
 |n+1,m+1,t,a,b,hnm,ht,ha,hb=>by
  by_cases h1:a.op=1
  ·have e:=zke (n:=n) (b:=b) h1;rw[zob (fun h=>by omega),zcw e,e];refine bd Tryz.f231 89 [] [] fun w0 F0 own kept hk=>?_;refine bx 3002 ?_;refine bx 3003 ?_;refine ab 3004 tz56 ?_;refine ev ?_;refine sq ?_ ?_<;>intro h1 h1p h1s;try simp only[Q] at h1p
   refine so ty56 ?_;refine ev ?_;refine rn0 (.cons (.cellA ty56 rfl rfl rfl) (.cons (.tmp rfl) .nil)) (.tup (.cons (.agg (.cons (.eqd ?_) (.cons (.eqd ?_) (.cons (.eqd ?_) (.cons (.eqd ?_) (.cons (.eqd ?_) (.cons (.eqd ?_) .nil))))))) (.cons (.eqd ?_) .nil)));rotate_left 7;try simp only[Q] at h1p
   exfalso;omega;all_goals (rfl)
  by_cases h2:b.op=1
  ·have e:=zkf (n:=n) h1 h2;rw[zob (fun h=>h.2 h2),zcw e,e];refine bd Tryz.f231 89 [] [] fun w0 F0 own kept hk=>?_;refine bx 3002 ?_;refine bx 3003 ?_;refine ab 3004 tz56 ?_;refine ev ?_;refine sq ?_ ?_<;>intro h1 h1p h1s;try simp only[Q] at h1p
   exfalso;omega;try simp only[Q] at h1p
   refine sq ?_ ?_<;>intro h2 h2p h2s;try simp only[Q] at h2p
   refine so ty56 ?_;refine ev ?_;refine rn0 (.cons (.cellA ty56 rfl rfl rfl) (.cons (.tmp rfl) .nil)) (.tup (.cons (.agg (.cons (.eqd ?_) (.cons (.eqd ?_) (.cons (.eqd ?_) (.cons (.eqd ?_) (.cons (.eqd ?_) (.cons (.eqd ?_) .nil))))))) (.cons (.eqd ?_) .nil)));rotate_left 7;try simp only[Q] at h2p
   exfalso;omega;all_goals (rfl)
  by_cases h3:a.op=3
  ·have e:=zkg (n:=n) h3 h2;have ez:zdS (n+1) a b=intQ (maxQ a.n b.n) (minQ a.m b.m):=if_pos ⟨h3,h2⟩;have eb:(zaM (n+1) a b).isSome=decide (maxQ a.n b.n≤minQ a.m b.m):=by
    rw[e];by_cases hr:maxQ a.n b.n≤minQ a.m b.m
    ·rw[if_pos hr,decide_eq_true hr];rfl
    ·rw[if_neg hr,decide_eq_false hr];rfl
   rw[ez,eb];refine bd Tryz.f231 89 [] [] fun w0 F0 own kept hk=>?_;refine bx 3002 ?_;refine bx 3003 ?_;refine ab 3004 tz56 ?_;refine ev ?_;refine sq ?_ ?_<;>intro h1 h1p h1s;try simp only[Q] at h1p
   exfalso;omega;try simp only[Q] at h1p
   refine sq ?_ ?_<;>intro h2 h2p h2s;try simp only[Q] at h2p
   exfalso;omega;try simp only[Q] at h2p
   refine sq ?_ ?_<;>intro h3 h3p h3s;try simp only[Q] at h3p
   refine sq ?_ ?_<;>intro h4 h4p h4s;try simp only[Q] at h4p
   refine sq ?_ ?_<;>intro h5 h5p h5s;try simp only[Q] at h5p
   refine bu [0,2,3] [_,_,_] st56 ?_;refine ev ?_;refine so ty56 ?_;refine ev ?_;refine rn0 (.cons (.cellA ty56 rfl rfl rfl) (.cons (.tmp rfl) .nil)) (.tup (.cons (.agg (.cons (.eqd ?_) (.cons (.eqd ?_) (.cons (.eqd ?_) (.cons (.eqd ?_) (.cons (.eqd ?_) (.cons (.nild ?_) .nil))))))) (.cons (.eqd ?_) .nil)));rotate_left 7;try simp only[Q] at h5p
   refine bu [0,2,3] [_,_,_] st56 ?_;refine ev ?_;refine so ty56 ?_;refine ev ?_;refine rn0 (.cons (.cellA ty56 rfl rfl rfl) (.cons (.tmp rfl) .nil)) (.tup (.cons (.agg (.cons (.eqd ?_) (.cons (.eqd ?_) (.cons (.eqd ?_) (.cons (.eqd ?_) (.cons (.eqd ?_) (.cons (.nild ?_) .nil))))))) (.cons (.eqd ?_) .nil)));rotate_left 7;try simp only[Q] at h4p
   refine sq ?_ ?_<;>intro h6 h6p h6s;try simp only[Q] at h6p
   refine bu [0,2,3] [_,_,_] st56 ?_;refine ev ?_;refine so ty56 ?_;refine ev ?_;refine rn0 (.cons (.cellA ty56 rfl rfl rfl) (.cons (.tmp rfl) .nil)) (.tup (.cons (.agg (.cons (.eqd ?_) (.cons (.eqd ?_) (.cons (.eqd ?_) (.cons (.eqd ?_) (.cons (.eqd ?_) (.cons (.nild ?_) .nil))))))) (.cons (.eqd ?_) .nil)));rotate_left 7;try simp only[Q] at h6p
   refine bu [0,2,3] [_,_,_] st56 ?_;refine ev ?_;refine so ty56 ?_;refine ev ?_;refine rn0 (.cons (.cellA ty56 rfl rfl rfl) (.cons (.tmp rfl) .nil)) (.tup (.cons (.agg (.cons (.eqd ?_) (.cons (.eqd ?_) (.cons (.eqd ?_) (.cons (.eqd ?_) (.cons (.eqd ?_) (.cons (.nild ?_) .nil))))))) (.cons (.eqd ?_) .nil)));rotate_left 7;try simp only[Q] at h3p
   exfalso;omega;all_goals (first|rfl|((try simp only[zee,zf1,mk_n,mk_m,ziI,zcr]);simp only[minQ,maxQ];(repeat' split)<;>first|rfl|(exfalso;omega)))
  have oa:=zbw ha;have h4:a.op=4:=by omega
  have h4b:b.op=4:=by have:=zdh ha hb h1 h2;omega
  have ez:zdS (n+1) a b=zcS (n+1) a b:=zob (fun h=>h3 h.1);by_cases hc:a.ctor=b.ctor
  ·obtain⟨c1,c2,c3,-⟩:=zaN ha h4;obtain⟨d1,d2,d3,-⟩:=zaN hb h4b;rw[←hc] at d3;have h3l:=hs.args t a.ctor ht c1;have ka:=fun i (hi:i<a.kids.length)=>za4 ha hi;have kb:=fun i (hi:i<b.kids.length)=>za4 hb hi;rw[zbc h4] at ka;rw[zbc h4b,←hc] at kb;have e:=zkh (n:=n) h4 h2 hc;have hlen:a.kids.length=b.kids.length:=by omega
   have ih:=fun i (hi:i<a.kids.length)=>ziR hs n m (t:=nth (zab w t a.ctor) i) (a:=nth a.kids i) (b:=nth b.kids i) (by omega) (zbx hs.dp ht c1 _ (zaf (by omega))) (ka i (by omega)) (kb i (by omega));have key:∀(i:Nat) (acc:List Pat),i<a.kids.length→(zaM n (nth a.kids i) (nth b.kids i)).isSome=true→zbS (zaM n) (a.kids.drop i) (b.kids.drop i) acc=zbS (zaM n) (a.kids.drop (i+1)) (b.kids.drop (i+1)) (acc++[zdS n (nth a.kids i) (nth b.kids i)]):=fun i acc hi h=>by
    rw[zqK h];exact zm1 hi (by omega) (zoc h)
   rw[ez];refine bd Tryz.f231 89 [] [] fun w0 F0 own kept hk=>?_;refine bx 3002 ?_;refine bx 3003 ?_;refine ab 3004 tz56 ?_;refine ev ?_;refine sq ?_ ?_<;>intro h1 h1p h1s;try simp only[Q,Pat.cs_len] at h1p
   exfalso;omega;try simp only[Q,Pat.cs_len] at h1p
   refine sq ?_ ?_<;>intro h2 h2p h2s;try simp only[Q,Pat.cs_len] at h2p
   exfalso;omega;try simp only[Q,Pat.cs_len] at h2p
   refine sq ?_ ?_<;>intro h3 h3p h3s;try simp only[Q,Pat.cs_len] at h3p
   exfalso;omega;try simp only[Q,Pat.cs_len] at h3p
   refine sq ?_ ?_<;>intro h4 h4p h4s;try simp only[Q,Pat.cs_len] at h4p
   exfalso;omega;try simp only[Q,Pat.cs_len] at h4p
   refine bu [0,1] [_,_] st56 ?_;refine ab 3008 tz56 ?_;refine so ty56 ?_;refine tv ?_;refine xam 3008 5 9 6 rfl rfl rfl rfl ?_;refine xaj (ι:=Nat×List Pat) hk (fun x=>[(9,.d (.i (x.1:Int)))]) [5,10,11,58,59,60,61,62,63,64,65,66,67,68,69,70,71,72,73,74,75,76,77,78,79,80,81,82,83,84,85,86,87] (fun x=>[(3008,some (.box [.d (.i 4),.d (.i a.ctor),.d (.i 0),.d (.i 0),.d (.i 0),.gl 9 (x.2.map Pat.cc)])),(9,some (.tok (x.2.map Pat.cc).length 6))]) (fun x=>x.1≤a.kids.length∧x.2.length=x.1∧zbS (zaM n) (a.kids.drop x.1) (b.kids.drop x.1) x.2=zbS (zaM n) a.kids b.kids []) (fun x=>a.kids.length-x.1) (0,[]) ⟨by simp,rfl,rfl⟩ ⟨⟨_,rfl,xap ?_⟩,trivial⟩ ⟨?_,⟨zaa ?_,trivial⟩⟩ (fun x=>rfl) (fun x hg1=>?_);focus (rfl)
   focus (first|rfl|(simp[getH];done))
   focus (rfl)
   refine evc [] [] ?_;refine sq ?_ ?_<;>intro h5 h5p h5s;try simp only[Q,Pat.cs_len] at h5p
   refine xaV sl45 .none rfl rfl rfl rfl (zaC (by omega)) rfl ?_;refine evd [] [] ?_;refine xaV sl45 .none rfl rfl rfl rfl (zaC (by omega)) rfl ?_;refine evd [] [] ?_;refine wc ztu (ih x.1 (by omega)) rfl rfl ?_;refine evd [] [] ?_;refine ab 3010 tz56 ?_;refine so ty56 ?_;refine evd [] [] ?_;refine dr ?_;refine sq ?_ ?_<;>intro h6 h6p h6s;try simp only[Q,Pat.cs_len] at h6p
   refine bu [] [] st56 ?_;refine so ty56 ?_;refine ev ?_;refine rn0 (.cons (.cellA ty56 rfl rfl rfl) (.cons (.tmp rfl) .nil)) (.tup (.cons (.agg (.cons (.eqd ?_) (.cons (.eqd ?_) (.cons (.eqd ?_) (.cons (.eqd ?_) (.cons (.eqd ?_) (.cons (.nild ?_) .nil))))))) (.cons (.eqd ?_) .nil)));rotate_left 7;try simp only[Q,Pat.cs_len] at h6p
   refine si [0] [_] sl45 tz56 ?_;refine ap sl45 zz56 rfl rfl rfl (by intro x hx;(simp at hx;subst hx;rfl)) (by simp;omega) ?_;refine ev ?_;refine so ty45 ?_;refine tv ?_;refine ar ?_;refine Exists.intro ((x.1+1,x.2++[zdS n (nth a.kids x.1) (nth b.kids x.1)])) ⟨⟨by dsimp only;omega,by dsimp only;rw[xaa,hg1.2.1];rfl,by dsimp only;rw[←key x.1 x.2 (by omega) (by assumption)];exact hg1.2.2⟩,(by dsimp only;omega),sx ⟨⟨_,rfl,xap ?_⟩,trivial⟩ ⟨?_,⟨zaa ?_,trivial⟩⟩⟩;focus (rfl)
   focus (first|rfl|(simp[getH];done))
   focus ((simp;done))
   try simp only[Q,Pat.cs_len] at h5p
   refine so ty56 ?_;refine ev ?_;refine rn0 (.cons (.cellA ty56 rfl rfl rfl) (.cons (.tmp rfl) .nil)) (.tup (.cons (.agg (.cons (.eqd ?_) (.cons (.eqd ?_) (.cons (.eqd ?_) (.cons (.eqd ?_) (.cons (.eqd ?_) (.cons (.gld ?_) .nil))))))) (.cons (.eqd ?_) .nil)));rotate_left 7;all_goals (first|(have e2:zaM (n+1) a b=none:=(by rw[e,←hg1.2.2,zm0 (by omega) (by omega) (zod (by assumption))];rfl);(first|rw[zfz e2]|rw[e2]);all_goals rfl)|(have e2:zaM (n+1) a b=some (zby a.ctor x.2):=(by rw[e,←hg1.2.2,zff (by omega)];rfl);rw[zcw e2,xas];all_goals rfl)|(have e2:zaM (n+1) a b=some (zby a.ctor x.2):=(by rw[e,←hg1.2.2,zff (by omega)];rfl);rw[zcw e2];all_goals rfl)|(have e2:zaM (n+1) a b=some (zby a.ctor x.2):=(by rw[e,←hg1.2.2,zff (by omega)];rfl);rw[e2];all_goals rfl))
  ·skip
   have e:=ziG (n:=n) h4 h2 hc;rw[ez,zfz e,e];refine bd Tryz.f231 89 [] [] fun w0 F0 own kept hk=>?_;refine bx 3002 ?_;refine bx 3003 ?_;refine ab 3004 tz56 ?_;refine ev ?_;refine sq ?_ ?_<;>intro h1 h1p h1s;try simp only[Q] at h1p
   exfalso;omega;try simp only[Q] at h1p
   refine sq ?_ ?_<;>intro h2 h2p h2s;try simp only[Q] at h2p
   exfalso;omega;try simp only[Q] at h2p
   refine sq ?_ ?_<;>intro h3 h3p h3s;try simp only[Q] at h3p
   exfalso;omega;try simp only[Q] at h3p
   refine sq ?_ ?_<;>intro h4 h4p h4s;try simp only[Q] at h4p
   refine bu [] [] st56 ?_;refine so ty56 ?_;refine ev ?_;refine rn0 (.cons (.cellA ty56 rfl rfl rfl) (.cons (.tmp rfl) .nil)) (.tup (.cons (.agg (.cons (.eqd ?_) (.cons (.eqd ?_) (.cons (.eqd ?_) (.cons (.eqd ?_) (.cons (.eqd ?_) (.cons (.nild ?_) .nil))))))) (.cons (.eqd ?_) .nil)));rotate_left 7;try simp only[Q] at h4p
   exfalso;omega;all_goals (rfl)
theorem zqO {f:Ty→Pat→Pat→List Pat}{c:Int}{ts:List Ty}{xs bs front:List Pat}{i:Nat} (h1:i<ts.length) (h2:i<xs.length) (h3:i<bs.length) (h:(zaM 11 (nth xs i) (nth bs i)).isSome=true):
  zaQ f c (ts.drop i) (xs.drop i) (bs.drop i) front=(f (nth ts i) (nth xs i) (nth bs i)).map (fun z=>zby c (front++[z]++xs.drop (i+1)))++zaQ f c (ts.drop (i+1)) (xs.drop (i+1)) (bs.drop (i+1)) (front++[zdS 11 (nth xs i) (nth bs i)]):=by
 rw[zqK h];exact zls h1 h2 h3 h
theorem zuN (c:Int) (L:List Pat):Pat.cc (zby c L)=[D.i 4,D.i c,D.i 0,D.i 0,D.i 0,D.sl (L.map Pat.cc)]:=by
 show [D.i 4,D.i c,D.i 0,D.i 0,D.i 0,D.sl (Pat.cs L)]=_
 rw[xas]
section
variable {w:List Data}
abbrev MinusSp (w:List Data) (n:Nat) (ta tk:Int) (a b:Pat):Prop:=
 FnD Tryz.prog 198 [.d (zaj w),.agg [.d (.i ta),.d (.i tk)],.agg [.d (.i (a).op),.d (.i (a).ctor),.d (.i (a).n),.d (.i (a).m),.d (.i (a).var),.d (zae (a).kids)],.agg [.d (.i (b).op),.d (.i (b).ctor),.d (.i (b).n),.d (.i (b).m),.d (.i (b).var),.d (zae (b).kids)]] [] (.d (zae (zat w n ⟨ta,tk⟩ a b))) []
theorem zoy (hs:Spa w){n m:Nat} (hn:n+1≤10) (hm:m+1≤11) (hnm:n<m)
  (ih:∀ {ta tk:Int}{a b:Pat},InS (w.length*4) ⟨ta,tk⟩→zai w m ⟨ta,tk⟩ a=true→zai w n ⟨ta,tk⟩ b=true→MinusSp w n ta tk a b)
  {ta tk:Int}{a b:Pat} (ht:InS (w.length*4) ⟨ta,tk⟩) (ha:zai w (m+1) ⟨ta,tk⟩ a=true) (hb:zai w (n+1) ⟨ta,tk⟩ b=true) (h4:a.op=4) (h4b:b.op=4) (hc:a.ctor=b.ctor):
  FnD Tryz.prog 252 [.d (zaj w),.agg [.d (.i ta),.d (.i tk)],.agg [.d (.i (a).op),.d (.i (a).ctor),.d (.i (a).n),.d (.i (a).m),.d (.i (a).var),.d (zae (a).kids)],.agg [.d (.i (b).op),.d (.i (b).ctor),.d (.i (b).n),.d (.i (b).m),.d (.i (b).var),.d (zae (b).kids)]] [] (.d (zae (zat w (n+1) ⟨ta,tk⟩ a b))) []:=by
 obtain⟨c1,c2,c3,-⟩:=zaN ha h4;obtain⟨d1,d2,d3,-⟩:=zaN hb h4b;rw[←hc] at d3;have h3l:=hs.args ⟨ta,tk⟩ a.ctor ht c1;have ka:=fun i (hi:i<a.kids.length)=>za4 ha hi;have kb:=fun i (hi:i<b.kids.length)=>za4 hb hi;rw[zbc h4] at ka;rw[zbc h4b,←hc] at kb;have hbd:=zf0 hs (n:=n+1) (m:=m+1) (by omega) hn ht ha hb;have e:zat w (n+1) ⟨ta,tk⟩ a b=zaQ (zat w n) a.ctor (zab w ⟨ta,tk⟩ a.ctor) a.kids b.kids []:=by rw[zd7 h4b h4];exact if_pos hc
 have hins:=fun i (hi:i<(zab w ⟨ta,tk⟩ a.ctor).length)=>zbx hs.dp ht c1 _ (zaf hi);have hmi:∀i,i<(zab w ⟨ta,tk⟩ a.ctor).length→FnD Tryz.prog 198 [.d (zaj w),.agg [.d (.i (nth (zab w ⟨ta,tk⟩ a.ctor) i).data),.d (.i (nth (zab w ⟨ta,tk⟩ a.ctor) i).index)],.agg [.d (.i (nth a.kids i).op),.d (.i (nth a.kids i).ctor),.d (.i (nth a.kids i).n),.d (.i (nth a.kids i).m),.d (.i (nth a.kids i).var),.d (zae (nth a.kids i).kids)],.agg [.d (.i (nth b.kids i).op),.d (.i (nth b.kids i).ctor),.d (.i (nth b.kids i).n),.d (.i (nth b.kids i).m),.d (.i (nth b.kids i).var),.d (zae (nth b.kids i).kids)]] [] (.d (zae (zat w n (nth (zab w ⟨ta,tk⟩ a.ctor) i) (nth a.kids i) (nth b.kids i)))) []:=fun i hi=>ih (ta:=(nth (zab w ⟨ta,tk⟩ a.ctor) i).data) (tk:=(nth (zab w ⟨ta,tk⟩ a.ctor) i).index) (hins i hi) (ka i (by omega)) (kb i (by omega));have hme:=fun i (hi:i<(zab w ⟨ta,tk⟩ a.ctor).length)=>ziR hs 11 m (t:=nth (zab w ⟨ta,tk⟩ a.ctor) i) (by omega) (hins i hi) (ka i (by omega)) (zhp (by omega) (kb i (by omega)));rw[e] at hbd ⊢;have hT:∀i out front,i<(zab w ⟨ta,tk⟩ a.ctor).length→out++zaQ (zat w n) a.ctor ((zab w ⟨ta,tk⟩ a.ctor).drop i) (a.kids.drop i) (b.kids.drop i) front=zaQ (zat w n) a.ctor (zab w ⟨ta,tk⟩ a.ctor) a.kids b.kids []→
   out.length+(zat w n (nth (zab w ⟨ta,tk⟩ a.ctor) i) (nth a.kids i) (nth b.kids i)).length≤20000000:=fun i out front hi h=>by
  rw[zh3 hi (by omega) (by omega)] at h;have:=congrArg List.length h;simp only[xaa,xac] at this;omega
 refine bd Tryz.f252 100 [] [] fun w0 F0 own kept hk=>?_;refine bx 3005 ?_;refine bx 3006 ?_;refine bx 3007 ?_;refine ev ?_;refine xbj 9 sl45 .none rfl rfl ?_;refine ev ?_;refine wc zgq (zcm hs.dp.wt (zb1 ht) c1) rfl rfl ?_;refine ev ?_;refine xbj 8 sl45 .none rfl rfl ?_;refine ev ?_;refine xaj (ι:=Nat×List Pat×List Pat) hk (fun s=>[(12,.d (.i (s.1:Int))),(9,.gl 9 (s.2.1.map Pat.cc)),(11,.gl 8 (s.2.2.map Pat.cc))]) [8,13,14,15,16,17,25,26,27,28,29,30,31,32,33,34,35,36,37,38,39,40,41,42,43,44,45,46,47,48,49,50,51,52,53,54,55,56,57,58,59,60,61,62,63,64,65,66,67,68,69,70,71,72,73,74,75,76,77,78,79,80,81,82,83,84,85,86,87,88,89,90,91,92,93,94,95,96,97,98] (fun s=>[(9,some (.tok ((s.2.1.map Pat.cc)).length 6)),(8,some (.tok ((s.2.2.map Pat.cc)).length 6))]) (fun s=>s.1≤a.kids.length∧s.2.2.length=s.1∧s.2.1++zaQ (zat w n) a.ctor ((zab w ⟨ta,tk⟩ a.ctor).drop s.1) (a.kids.drop s.1) (b.kids.drop s.1) s.2.2=zaQ (zat w n) a.ctor (zab w ⟨ta,tk⟩ a.ctor) a.kids b.kids []) (fun s=>a.kids.length-s.1) (0,[],[]) ⟨by simp,rfl,rfl⟩ ⟨⟨_,rfl,xap ?_⟩,⟨⟨_,rfl,LeA.glg ?_⟩,⟨⟨_,rfl,LeA.glg ?_⟩,trivial⟩⟩⟩ ⟨zaa ?_,⟨zaa ?_,trivial⟩⟩ (fun x=>rfl) (fun s hg1=>?_);iterate 5 focus (rfl)
 refine evc [] [] ?_;refine sq ?_ ?_<;>intro h1 h1p h1s;try simp only[Q,Pat.cs_len] at h1p
 refine xaV zaT .none rfl rfl rfl rfl (zas (by omega)) rfl ?_;refine evd [] [] ?_;refine xaV sl45 .none rfl rfl rfl rfl (zaC (by omega)) rfl ?_;refine evd [] [] ?_;refine xaV sl45 .none rfl rfl rfl rfl (zaC (by omega)) rfl ?_;refine evd [] [] ?_;refine wc zp7 (hmi s.1 (by omega)) rfl rfl ?_;refine evd [] [] ?_;refine dr ?_;refine xaj (ι:=List (Pat)×List (Pat)) hk (fun x=>[(14,.d (.i (x.1.length:Int))),(9,.gl 9 ((s.2.1++x.1.map (fun z=>zby a.ctor (s.2.2++[z]++a.kids.drop (s.1+1)))).map Pat.cc))]) [15,47,48,49,50,51,52,53,54,55,56,57,58,59,60,61,62,63,64,65,66,67,68,69,70,71,72,73,74,75,76,77] (fun x=>[(9,some (.tok (((s.2.1++x.1.map (fun z=>zby a.ctor (s.2.2++[z]++a.kids.drop (s.1+1)))).map Pat.cc)).length 6))]) (fun x=>x.1++x.2=(zat w n (nth (zab w ⟨ta,tk⟩ a.ctor) s.1) (nth a.kids s.1) (nth b.kids s.1))) (fun x=>x.2.length) ([],(zat w n (nth (zab w ⟨ta,tk⟩ a.ctor) s.1) (nth a.kids s.1) (nth b.kids s.1))) (by simp) ⟨⟨_,rfl,xap ?_⟩,⟨⟨_,rfl,LeA.glg ?_⟩,trivial⟩⟩ ⟨zaa ?_,trivial⟩ (fun x=>rfl) (fun x hg2=>?_);iterate 3 focus ((simp;done))
 obtain⟨pre,rest⟩:=x;dsimp only at hg2 ⊢;refine evc [] [] ?_;refine sq ?_ ?_<;>intro h2 h2p h2s;try simp only[Q,Pat.cs_len] at h2p
 rcases rest with _|⟨y,rest⟩
 ·exfalso;simp_all
 refine xbj 7 sl45 .none rfl rfl ?_;refine evd [] [] ?_;refine ap sl45 zz56 rfl rfl rfl (by intro x hx;exact zhq _ x hx) (by(simp[Pat.cs_len];omega)) ?_;refine evd [] [] ?_;refine xaV sl45 .none rfl rfl rfl rfl (Pat.cs_at' hg2) rfl ?_;refine evd [] [] ?_;refine si [0] [_] sl45 tz56 ?_;refine ap sl45 zz56 rfl rfl rfl (by intro x hx;(simp at hx;subst hx;rfl)) (by(have h9:=hT s.1 s.2.1 s.2.2 (by omega) hg1.2.2;have h8:=congrArg List.length hg2;simp[Pat.cs_len] at h8 ⊢;omega)) ?_;refine bu [0,1,5] [_,_,_] st56 ?_;refine ab 3015 tz56 ?_;refine so ty56 ?_;refine dr ?_;refine ar ?_ (by(constructor<;>omega));refine xaQ (b:=s.1+1) sl45 .none rfl rfl rfl (by intro x hx;exact zch _ x hx) rfl rfl (by simp only[Pat.cs_len];omega) ?_;refine ap sl45 zz56 rfl rfl rfl (by intro x hx;exact zch _ x (List.mem_of_mem_drop hx)) (by(have h9:=hT s.1 s.2.1 s.2.2 (by omega) hg1.2.2;have h8:=congrArg List.length hg2;simp[Pat.cs_len] at h8 ⊢;omega)) ?_;refine evd [] [] ?_;refine so ty45 ?_;refine dr ?_;refine si [0] [_] sl45 tz56 ?_;refine ap sl45 zz56 rfl rfl rfl (by intro x hx;(simp at hx;subst hx;rfl)) (by(have h9:=hT s.1 s.2.1 s.2.2 (by omega) hg1.2.2;have h8:=congrArg List.length hg2;simp[Pat.cs_len] at h8 ⊢;omega)) ?_;refine ev ?_;refine ar ?_ (by(have h9:=hT s.1 s.2.1 s.2.2 (by omega) hg1.2.2;have h8:=congrArg List.length hg2;simp only[xaa,xab] at h8;constructor<;>omega));refine Exists.intro ((pre++[y],rest)) ⟨(by have hz:=hg2;rw[←hz];simp),(by simp),sx ⟨⟨_,rfl,xap ?_⟩,⟨⟨_,rfl,LeA.glg ?_⟩,trivial⟩⟩ ⟨zaa ?_,trivial⟩⟩;iterate 3 focus (first|(simp;done)|(simp only[xaf,List.append_assoc,xae,List.map_nil,zuN,xas a.kids,List.map_drop,List.nil_append,xag];done)|(simp;omega))
 try simp only[Q,Pat.cs_len] at h2p
 have hrest:rest=[]:=by
  rcases rest with _|⟨a,b⟩
  ·rfl
  ·exfalso;have hz:=congrArg List.length (hg2);simp only[xaa,xab,xac] at hz;omega
 subst hrest;refine xaV sl45 .none rfl rfl rfl rfl (zaC (by omega)) rfl ?_;refine evd [] [] ?_;refine xaV sl45 .none rfl rfl rfl rfl (zaC (by omega)) rfl ?_;refine evd [] [] ?_;refine wc ztu (hme s.1 (by omega)) rfl rfl ?_;refine evd [] [] ?_;refine ab 3016 tz56 ?_;refine so ty56 ?_;refine evd [] [] ?_;refine dr ?_;refine sq ?_ ?_<;>intro h3 h3p h3s;try simp only[Q,Pat.cs_len] at h3p
 refine rn0 (r1 rfl) (.gld ?_);rotate_left;try simp only[Q,Pat.cs_len] at h3p
 refine si [0] [_] sl45 tz56 ?_;refine ap sl45 zz56 rfl rfl rfl (by intro x hx;(simp at hx;subst hx;rfl)) (by(have h9:=hT s.1 s.2.1 s.2.2 (by omega) hg1.2.2;have h8:=congrArg List.length hg2;simp[Pat.cs_len] at h8 ⊢;omega)) ?_;refine ev ?_;refine ar ?_ (by(constructor<;>omega));refine Exists.intro ((s.1+1,s.2.1++(zat w n (nth (zab w ⟨ta,tk⟩ a.ctor) s.1) (nth a.kids s.1) (nth b.kids s.1)).map (fun z=>zby a.ctor (s.2.2++[z]++a.kids.drop (s.1+1))),s.2.2++[zdS 11 (nth a.kids s.1) (nth b.kids s.1)])) ⟨⟨by dsimp only;omega,by dsimp only;rw[xaa,hg1.2.1];rfl,by dsimp only;rw[List.append_assoc,←zqO (by omega) (by omega) (by omega) (by assumption)];exact hg1.2.2⟩,(by dsimp only;omega),sx ⟨⟨_,rfl,xap ?_⟩,⟨⟨_,rfl,LeA.glg ?_⟩,⟨⟨_,rfl,LeA.glg ?_⟩,trivial⟩⟩⟩ ⟨zaa ?_,⟨zaa ?_,trivial⟩⟩⟩;iterate 5 focus ((simp_all;done))
 try simp only[Q,Pat.cs_len] at h1p
 refine rn0 (r1 rfl) (.gld ?_);rotate_left;all_goals (first|(rw[←hg1.2.2,zm3 (by omega),List.append_nil,xas];done)|(rw[List.append_nil] at hg2;rw[←hg1.2.2,zlr (by omega) (by omega) (by omega) (by assumption),←hg2,xas];all_goals rfl))
theorem zq8 {n:Nat}{ta tk:Int}{a b:Pat} (h:b.op=1):MinusSp w (n+1) ta tk a b:=by
 unfold MinusSp;rw[zhn h];refine bd Tryz.f198 82 [] [] fun w0 F0 own kept hk=>?_;refine bx 3005 ?_;refine bx 3006 ?_;refine bx 3007 ?_;refine ev ?_;refine sq ?_ ?_<;>intro h1 h1p h1s;try simp only[Q] at h1p
 refine xbi sl45 .none rfl ?_;refine ev ?_;refine rn0 (r1 rfl) (.eqd ?_);rotate_left;try simp only[Q] at h1p
 exfalso;omega;all_goals (rfl)
theorem zq9 {n:Nat}{ta tk:Int}{a b:Pat} (h:b.op=3) (ha:a.op=1∨a.op=3) (hbn:0≤b.n∧b.n≤9) (hbm:0≤b.m∧b.m≤9):MinusSp w (n+1) ta tk a b:=by
 unfold MinusSp;rw[ziH h];by_cases h1:a.op=1
 ·have e:zew a b=zbP 0 (minQ 9 (b.n-1))++zbP (maxQ 0 (b.m+1)) 9:=by
   have e1:lowQ a=0:=if_pos h1;have e2:zcQ a=9:=if_pos h1;unfold zew;rw[e1,e2]
  have hr:=zhO (a:=intQ 0 9) hbn hbm;rw[e];refine bd Tryz.f198 82 [] [] fun w0 F0 own kept hk=>?_;refine bx 3005 ?_;refine bx 3006 ?_;refine bx 3007 ?_;refine ev ?_;refine sq ?_ ?_<;>intro h1 h1p h1s;try simp only[Q] at h1p
  exfalso;omega;try simp only[Q] at h1p
  refine sq ?_ ?_<;>intro h2 h2p h2s;try simp only[Q] at h2p
  refine sq ?_ ?_<;>intro h3 h3p h3s;try simp only[Q] at h3p
  refine bu [0,3] [_,_] st56 ?_;refine ev ?_;refine Walk.call (cr:=[]) ztz (hr) rfl .none rfl rfl (.cons (.agg (.cons (.refl _) (.cons (.refl _) (.cons (.refl _) (.cons (.refl _) (.cons (.refl _) (.cons .nil .nil))))))) (.cons (.refl _) .nil)) trivial rfl rfl rfl ?_;refine ev ?_;focus (refine rn0 (r1 rfl) (.eqd ?_);all_goals (rfl))
  try simp only[Q] at h3p
  focus (exfalso;first|omega|(simp_all;done))
  try simp only[Q] at h2p
  exfalso;omega
 ·have e:zew a b=zbP a.n (minQ a.m (b.n-1))++zbP (maxQ a.n (b.m+1)) a.m:=by
   have e1:lowQ a=a.n:=if_neg h1;have e2:zcQ a=a.m:=if_neg h1;unfold zew;rw[e1,e2]
  have hr:=zhO (a:=a) hbn hbm;rw[e];refine bd Tryz.f198 82 [] [] fun w0 F0 own kept hk=>?_;refine bx 3005 ?_;refine bx 3006 ?_;refine bx 3007 ?_;refine ev ?_;refine sq ?_ ?_<;>intro h1 h1p h1s;try simp only[Q] at h1p
  exfalso;omega;try simp only[Q] at h1p
  refine sq ?_ ?_<;>intro h2 h2p h2s;try simp only[Q] at h2p
  refine sq ?_ ?_<;>intro h3 h3p h3s;try simp only[Q] at h3p
  focus (exfalso;first|omega|(simp_all;done))
  try simp only[Q] at h3p
  refine sq ?_ ?_<;>intro h4 h4p h4s;try simp only[Q] at h4p
  refine wc ztz (hr) rfl rfl ?_;refine ev ?_;focus (refine rn0 (r1 rfl) (.eqd ?_);all_goals (rfl))
  try simp only[Q] at h4p
  exfalso;omega;try simp only[Q] at h2p
  exfalso;omega
theorem zrc {n:Nat}{ta tk:Int}{a b:Pat} (h4:a.op=4) (h4b:b.op=4) (hc:¬a.ctor=b.ctor):MinusSp w (n+1) ta tk a b:=by
 unfold MinusSp;have e:zat w (n+1) ⟨ta,tk⟩ a b=[a]:=by rw[zd7 h4b h4];exact if_neg hc
 rw[e];refine bd Tryz.f198 82 [] [] fun w0 F0 own kept hk=>?_;refine bx 3005 ?_;refine bx 3006 ?_;refine bx 3007 ?_;refine ev ?_;refine sq ?_ ?_<;>intro h1 h1p h1s;try simp only[Q] at h1p
 exfalso;omega;try simp only[Q] at h1p
 refine sq ?_ ?_<;>intro h2 h2p h2s;try simp only[Q] at h2p
 exfalso;omega;try simp only[Q] at h2p
 refine sqF ?_;refine sq ?_ ?_<;>intro h4 h4p h4s;try simp only[Q] at h4p
 exfalso;omega;try simp only[Q] at h4p
 refine sq ?_ ?_<;>intro h5 h5p h5s;try simp only[Q] at h5p
 refine sq ?_ ?_<;>intro h6 h6p h6s;try simp only[Q] at h6p
 refine si [0] [_] sl45 tz56 ?_;refine ev ?_;refine rn0 (r1 rfl) (.eqd ?_);rotate_left;try simp only[Q] at h6p
 focus (exfalso;first|omega|(simp_all;done))
 try simp only[Q] at h5p
 exfalso;omega;all_goals (first|rfl|(cases a;rfl))
theorem zrb (hs:Spa w){n m:Nat} (hn:n+1≤10) (hm:m+1≤11) (hnm:n<m)
  (ih:∀ {ta tk:Int}{a b:Pat},InS (w.length*4) ⟨ta,tk⟩→zai w m ⟨ta,tk⟩ a=true→zai w n ⟨ta,tk⟩ b=true→MinusSp w n ta tk a b)
  {ta tk:Int}{a b:Pat} (ht:InS (w.length*4) ⟨ta,tk⟩) (ha:zai w (m+1) ⟨ta,tk⟩ a=true) (hb:zai w (n+1) ⟨ta,tk⟩ b=true) (h4:a.op=4) (h4b:b.op=4) (hc:a.ctor=b.ctor):MinusSp w (n+1) ta tk a b:=by
 have hki:=zoy hs hn hm hnm ih ht ha hb h4 h4b hc;clear ih;unfold MinusSp;refine bd Tryz.f198 82 [] [] fun w0 F0 own kept hk=>?_;refine bx 3005 ?_;refine bx 3006 ?_;refine bx 3007 ?_;refine ev ?_;refine sq ?_ ?_<;>intro h1 h1p h1s;try simp only[Q] at h1p
 exfalso;omega;try simp only[Q] at h1p
 refine sq ?_ ?_<;>intro h2 h2p h2s;try simp only[Q] at h2p
 exfalso;omega;try simp only[Q] at h2p
 refine sqF ?_;refine sq ?_ ?_<;>intro h4 h4p h4s;try simp only[Q] at h4p
 exfalso;omega;try simp only[Q] at h4p
 refine sq ?_ ?_<;>intro h5 h5p h5s;try simp only[Q] at h5p
 refine sq ?_ ?_<;>intro h6 h6p h6s;try simp only[Q] at h6p
 focus (exfalso;first|omega|(simp_all;done))
 try simp only[Q] at h6p
 refine sq ?_ ?_<;>intro h7 h7p h7s;try simp only[Q] at h7p
 refine wc zxr (hki) rfl rfl ?_;refine ev ?_;focus (refine rn0 (r1 rfl) (.eqd ?_);all_goals (rfl))
 try simp only[Q] at h7p
 exfalso;omega;try simp only[Q] at h5p
 exfalso;omega
theorem zra (hs:Spa w){n:Nat}{ta tk:Int}{a b:Pat} (ht:InS (w.length*4) ⟨ta,tk⟩) (h1:a.op=1) (h4b:b.op=4) (hbd:(zat w (n+1) ⟨ta,tk⟩ a b).length≤20000000)
  (hC:∀c∈zam w ⟨ta,tk⟩,MinusSp w (n+1) ta tk (zbZ w ⟨ta,tk⟩ c) b):MinusSp w (n+1) ta tk a b:=by
 have e:zat w (n+1) ⟨ta,tk⟩ a b=(zam w ⟨ta,tk⟩).flatMap fun c=>zat w (n+1) ⟨ta,tk⟩ (zbZ w ⟨ta,tk⟩ c) b:=by
  rw[zho h4b h1];exact congrArg (fun g=>(zam w ⟨ta,tk⟩).flatMap g) (funext fun c=>(zd7 h4b rfl).symm)
 unfold MinusSp;rw[e] at hbd ⊢;have hcl:=(hs.ctors _ ht).1;have hpre:∀ {pre rest:List Int}{y:Int},pre++y::rest=zam w ⟨ta,tk⟩→(pre.flatMap fun c=>zat w (n+1) ⟨ta,tk⟩ (zbZ w ⟨ta,tk⟩ c) b).length+(zat w (n+1) ⟨ta,tk⟩ (zbZ w ⟨ta,tk⟩ y) b).length≤20000000:=fun h=>by
  rw[←h,List.flatMap_append,List.flatMap_cons] at hbd;simp only[xaa] at hbd;omega
 have hmem:∀ {pre rest:List Int}{y:Int},pre++y::rest=zam w ⟨ta,tk⟩→y∈zam w ⟨ta,tk⟩:=fun h=>by rw[←h];simp
 refine bd Tryz.f198 82 [] [] fun w0 F0 own kept hk=>?_;refine bx 3005 ?_;refine bx 3006 ?_;refine bx 3007 ?_;refine ev ?_;refine sq ?_ ?_<;>intro h1 h1p h1s;try simp only[Q,Pat.cs_len] at h1p
 exfalso;omega;try simp only[Q,Pat.cs_len] at h1p
 refine sq ?_ ?_<;>intro h2 h2p h2s;try simp only[Q,Pat.cs_len] at h2p
 exfalso;omega;try simp only[Q,Pat.cs_len] at h2p
 refine sqF ?_;refine sq ?_ ?_<;>intro h4 h4p h4s;try simp only[Q,Pat.cs_len] at h4p
 exfalso;omega;try simp only[Q,Pat.cs_len] at h4p
 refine sq ?_ ?_<;>intro h5 h5p h5s;try simp only[Q,Pat.cs_len] at h5p
 exfalso;omega;try simp only[Q,Pat.cs_len] at h5p
 refine sqF ?_;refine sq ?_ ?_<;>intro h7 h7p h7s;try simp only[Q,Pat.cs_len] at h7p
 exfalso;omega;try simp only[Q,Pat.cs_len] at h7p
 refine xbj 9 sl45 .none rfl rfl ?_;refine ev ?_;refine wc zgo (zb7 hs.dp.wt (zb1 ht)) rfl rfl ?_;refine ev ?_;refine xaj (ι:=List (Int)×List (Int)) hk (fun x=>[(11,.d (.i (x.1.length:Int))),(9,.gl 9 (Pat.cs (x.1.flatMap fun c=>zat w (n+1) ⟨ta,tk⟩ (zbZ w ⟨ta,tk⟩ c) b)))]) [62,63,64,65,66,67,68,69,70,71,72,73,74,75,76,77,78,79,80] (fun x=>[(9,some (.tok ((Pat.cs (x.1.flatMap fun c=>zat w (n+1) ⟨ta,tk⟩ (zbZ w ⟨ta,tk⟩ c) b))).length 6))]) (fun x=>x.1++x.2=zam w ⟨ta,tk⟩) (fun x=>x.2.length) ([],zam w ⟨ta,tk⟩) (by simp) ⟨⟨_,rfl,xap ?_⟩,⟨⟨_,rfl,LeA.glg ?_⟩,trivial⟩⟩ ⟨zaa ?_,trivial⟩ (fun x=>rfl) (fun x hg1=>?_);iterate 3 focus (rfl)
 obtain⟨pre,rest⟩:=x;dsimp only at hg1 ⊢;refine evc [] [] ?_;refine sq ?_ ?_<;>intro h8 h8p h8s;try simp only[Q,Pat.cs_len] at h8p
 rcases rest with _|⟨y,rest⟩
 ·exfalso;simp_all
 refine xaV zaW .none rfl rfl rfl rfl (zaE hg1) rfl ?_;refine evd [] [] ?_;refine wc zxs (zpG hs.dp.wt (zb1 ht) (hmem hg1) (hs.args _ _ ht (hmem hg1))) rfl rfl ?_;refine evd [] [] ?_;refine wc zp7 (hC y (hmem hg1)) rfl rfl ?_;refine ap sl45 zz56 rfl rfl rfl (by exact zch _) (by have h9:=hpre hg1;simp only[Pat.cs_len];omega) ?_;refine evd [] [] ?_;refine dr ?_;refine ar ?_;refine Exists.intro ((pre++[y],rest)) ⟨(by have hz:=hg1;rw[←hz];simp),(by simp),sx ⟨⟨_,rfl,xap ?_⟩,⟨⟨_,rfl,LeA.glg ?_⟩,trivial⟩⟩ ⟨zaa ?_,trivial⟩⟩;iterate 3 focus (first|(rw[List.flatMap_append,xas,xas,xas,xaf];simp;done)|(simp[Pat.cs_len];done))
 try simp only[Q,Pat.cs_len] at h8p
 have hrest:rest=[]:=by
  rcases rest with _|⟨a,b⟩
  ·rfl
  ·exfalso;have hz:=congrArg List.length (hg1);simp only[xaa,xab,xac] at hz;omega
 subst hrest;refine rn0 (r1 rfl) (.gld ?_);rotate_left;all_goals ((rw[List.append_nil] at hg1;rw[hg1];done))
theorem zie (hs:Spa w):∀(n m:Nat){ta tk:Int}{a b:Pat},n<m→n≤10→m≤11→InS (w.length*4) ⟨ta,tk⟩→zai w m ⟨ta,tk⟩ a=true→zai w n ⟨ta,tk⟩ b=true→MinusSp w n ta tk a b
 |0,m,ta,tk,a,b,_,_,_,_,_,hb=>by simp[zai] at hb
 |n+1,0,ta,tk,a,b,h,_,_,_,_,_=>by omega
 |n+1,m+1,ta,tk,a,b,h,hn,hm,ht,ha,hb=>by
  have hC:∀ {a:Pat},zai w (m+1) ⟨ta,tk⟩ a=true→a.op=4→b.op=4→MinusSp w (n+1) ta tk a b:=fun {a} ha h4 h4b=>by
   by_cases hc:a.ctor=b.ctor
   ·exact zrb hs hn hm (by omega) (fun h1 h2 h3=>zie hs n m (by omega) (by omega) (by omega) h1 h2 h3) ht ha hb h4 h4b hc
   ·exact zrc h4 h4b hc
  rcases zbw hb with h1|h3|h4b
  ·exact zq8 h1
  ·have:=zb3 hb h3;refine zq9 h3 ?_ ⟨by omega,by omega⟩ ⟨by omega,by omega⟩;by_cases h1:a.op=1
   ·exact .inl h1
   ·exact .inr (by have:=zdh ha hb h1 (by omega);omega)
  ·by_cases h1:a.op=1
   ·obtain⟨m',rfl⟩:∃m',m=m'+1:=⟨m-1,by omega⟩;exact zra hs ht h1 h4b (zf0 hs h hn ht ha hb) (fun c hc=>hC (zcY hc) rfl h4b)
   ·exact hC ha (by have:=zdh ha hb h1 (by omega);omega) h4b
end
section
variable {c:Ctx}{all:Array Oper}{chk:List Rec→Prop}{os:List Oper}{recs:List Rec}{env:Env}{hp:Hp}{Q:St→Prop}
variable {d ty:Nat}{pos:String}{af:Array Edge}{g:Option (Nat×Bool)}{pg:List (Nat×AV)}{t yt:TypeId}{x y:Operand}
theorem xaB {id k e yb:Nat}{xs ys:List (List D)}{vy:AV}{ids:List Nat} (hkp:KeptIn c.kept ids) (hid:za8 id ids=false) (hne:xs++ys≠[]) (ht:SlT c.P t e k yb) (hz:ZeroT c.P e k) (hg:GH all env g pg) (hd:Nat.blt d c.n=true)
  (hx:opd env x=some (.gv id xs)) (hy:opd env y=some vy) (hyd:vy.toD=some (.sl ys)) (htok:getH hp id=some (.tok xs.length k)) (hky:∀y,y∈ys→y.length=k)
  (hb:(xs.length+ys.length)*yb≤140737488355328) (hm:xs.length+ys.length≤9223372036854775807)
  (hn:Walk c all chk os (zan (pg++(opF x (.gv id xs)++opF y vy)) [(id,.tok xs.length k)] [] ⟨some (d,.ms id (xs++ys).length),[(id,some (.box ((xs++ys).flatten.map .d)))]⟩::recs)
   ⟨(d,.ms id (xs++ys).length)::env,(id,some (.box ((xs++ys).flatten.map .d)))::hp⟩ Q):
  Walk c all chk (⟨some d,.call ⟨.builtin .append,#[x,y],#[t,t]⟩,ty,pos,af,g⟩::os) recs ⟨env,hp⟩ Q:=by
 refine⟨pg++(opF x (.gv id xs)++opF y vy),[(id,.tok xs.length k)],[],_, ?_,zay hg.facts (zay (za9 hx) (za9 hy)),hh1 htok,by simp,hn⟩;intro s a w hrel hp' hh _ K Q' hK;obtain⟨G,hr⟩:=hrel;have e1:=hr.opd (zba hx (fun p hm=>hp' p (by simp[hm])));have e2:=hr.opd (zba hy (fun p hm=>hp' p (by simp[hm])));obtain⟨i,z,z1,z2,z3⟩:=hz.out;obtain⟨v',w',G',hrun,hR,hA⟩:=zjM hr ht ⟨i,z1,z2,z3⟩ (hh1' hh) e1 (e2.toD hyd) hky hb hm ty;unfold wpO;rw[if_pos (hg.gf.wanted hr (fun p hm=>hp' p (by simp[hm])))];unfold Oper.wp;have:(execOp a.eval ⟨some d,.call ⟨.builtin .append,#[x,y],#[t,t]⟩,ty,pos,af,g⟩).run c.P w = .ok (.value v') w':=by
  simp only[execOp,resolve,invoke,builtin,Sem.run_bind,Sem.run_pure,Result.andThen_ok,List.map_toArray,xae,List.map_nil,hrun]
 rw[this,Oper.upon_value];have hV:Rel c ⟨(d,.gv id (xs++ys))::s.env,(id,some (.tok (xs.length+ys.length) k))::s.hp⟩ (a.put (some d) v') w':=⟨G',hR.put hA hd⟩;rcases Rel.fixV hkp d id k (xs:=xs++ys) (by simp[getE]) (by rw[zal,if_pos rfl,xaa]) hid hV with ⟨h,_⟩|⟨_,h⟩
 ·exact absurd h hne
 ·refine hK _ _ (h.congr (fun j=>?_) (fun j=>?_))
  ·show getE ((d,_)::s.env) j=getE ((d,_)::(d,_)::s.env) j
   simp only[getE];cases Nat.beq d j<;>rfl
  ·show getH ((id,_)::s.hp) j=getH ((id,_)::(id,_)::s.hp) j
   rw[zal,zal,zal];by_cases hj:j=id
   ·rw[if_pos hj,if_pos hj]
   ·rw[if_neg hj,if_neg hj,if_neg hj]
end
def zcc:Pat:=⟨2,0,0,0,0,[]⟩
def mutP (b:Str) (p:Pat) (q:Nat):Pat×Nat:=
 if zao b q 30=0 then (⟨numV b (q+1) [0,7,1,2,5],p.ctor,p.n,p.m,p.var,p.kids⟩,q+2)
 else if zao b q 30=1 then (⟨p.op,p.ctor,p.n,p.m,numV b (q+1) [6,-1,1],p.kids⟩,q+2)
 else if zao b q 30=2 then (⟨p.op,numV b (q+1) [9,-1,1],p.n,p.m,p.var,p.kids⟩,q+2)
 else if zao b q 30=3 then (⟨p.op,p.ctor,p.n,p.m,p.var,p.kids++[zcc]⟩,q+1)
 else if zao b q 30=4 then (⟨p.op,p.ctor,p.n,p.m,p.var,p.kids.set 0 zcc⟩,q+1)
 else if zao b q 30=5 then (⟨p.op,p.ctor,numV b (q+1) [10,-1,5],p.m,p.var,p.kids⟩,q+2)
 else (⟨p.op,p.ctor,p.n,p.m,p.var,p.kids⟩,q+1)
theorem put0 {l:List (List D)}{x:List D}{r:List (List D)}{v:List AV} (h:l=x::r) (hx:x.length=v.length):putC (l.flatten.map .d) 0 v=some (v++r.flatten.map .d):=by
 subst h;rw[List.flatten_cons,xaf];have key:∀(a b:List AV),a.length=b.length→∀(c:List AV),putC (a++c) 0 b=some (b++c):=by
  intro a;induction a with
  |nil=>intro b h c;cases b with
   |nil=>cases c<;>rfl
   |cons=>simp at h
  |cons y a ih=>intro b h c;cases b with
   |nil=>simp at h
   |cons z b=>
    have:=ih b (by simpa using h) c;simp only[xag,putC,this]
 exact key _ _ (by simpa using hx) _
theorem zqg {k:Nat}{v:List AV}{vd:List D}{r:List (List D)} (hv:toDL v=some vd) (hk:v.length=k) (hr:∀x∈r,x.length=k):zbK (r.length+1) k (v++r.flatten.map .d)=some (vd::r):=by
 have h1:cutC (v++r.flatten.map .d) 0 k=some v:=zoL hk;have h2:(v++r.flatten.map AV.d).drop k=r.flatten.map .d:=by rw[←hk];simp
 have h3:=zd4 (f:=fun x:List D=>x) (k:=k) (l:=r) hr;have h4:(r.flatMap fun x=>x.map AV.d)=r.flatten.map .d:=by rw[List.map_flatten];rfl
 rw[h4,List.map_id'] at h3;simp only[zbK,h1,hv,h2,h3]
theorem Pat.cs_app (a b:List Pat):Pat.cs (a++b)=Pat.cs a++Pat.cs b:=by
 rw[Pat.cs_cc,Pat.cs_cc,Pat.cs_cc,xaf]
theorem znz {b:Str} (hb:b.length≤2000){p:Pat}{q:Nat} (hq:q≤1000000) (hok:p.ok) (hc4:¬(zao b q 30=4∧p.kids≠[])):
  FnD Tryz.prog 109 [.ref 900 0,.agg [.d (.i p.op),.d (.i p.ctor),.d (.i p.n),.d (.i p.m),.d (.i p.var),.d (zae p.kids)]] [(900,some (rdB b q))]
   (.agg [.d (.i (mutP b p q).1.op),.d (.i (mutP b p q).1.ctor),.d (.i (mutP b p q).1.n),.d (.i (mutP b p q).1.m),.d (.i (mutP b p q).1.var),.d (zae (mutP b p q).1.kids)]) [(900,some (rdB b (mutP b p q).2))]:=by
 rw[Pat.ok_iff] at hok;have hkl:=Pat.cs_len p.kids;refine bd Tryz.f109 57 [] [] fun w0 F0 own kept hk=>?_;refine bx 3003 ?_;refine ab 3004 tz56 ?_;refine tv ?_;refine ab 3005 tz56 ?_;refine so ty56 ?_;refine tv ?_;refine xbj 1 sl45 .none rfl rfl ?_;refine ev ?_;refine ap sl45 zz56 rfl rfl rfl (by(intro x hx;exact Pat.cs_rows x hx)) (by simp[Pat.cs_len];omega) ?_;refine ev ?_;refine so ty45 ?_;refine tv ?_;refine wd zb9 (zaR (p:=q) (n:=30) hb (by omega) (by omega)) rfl rfl ⟨rfl,trivial⟩ ?_;refine tv ?_;refine sq ?_ ?_<;>intro h1 h1p h1s;try simp only[Q,Pat.cs_len] at h1p
 refine si [0,1,2,3,4] [_,_,_,_,_] zaW tz3 ?_;refine wd zdZ (zbN (p:=q+1) (l:=[0,7,1,2,5]) hb (by omega) (by simp) (by simp)) rfl rfl ⟨rfl,trivial⟩ ?_;refine ev ?_;refine so ty3 ?_;refine tv ?_;refine so ty56 ?_;refine tv ?_;refine rn [(900,some (rdB b (mutP b p q).2))] (.cons (.cellA ty56 rfl rfl rfl) .nil) (.agg (.cons (.eqd ?_) (.cons (.eqd ?_) (.cons (.eqd ?_) (.cons (.eqd ?_) (.cons (.eqd ?_) (.cons (.gld ?_) .nil))))))) ⟨rfl,rfl⟩ (SubO.get ⟨.inr ?_,⟨.inl rfl,trivial⟩⟩) (zav rfl);rotate_left 7;try simp only[Q,Pat.cs_len] at h1p
 refine sq ?_ ?_<;>intro h2 h2p h2s;try simp only[Q,Pat.cs_len] at h2p
 refine si [0,1,2] [_,_,_] zaW tz3 ?_;refine wd zdZ (zbN (p:=q+1) (l:=[6,-1,1]) hb (by omega) (by simp) (by simp)) rfl rfl ⟨rfl,trivial⟩ ?_;refine ev ?_;refine so ty3 ?_;refine tv ?_;refine so ty56 ?_;refine tv ?_;refine rn [(900,some (rdB b (mutP b p q).2))] (.cons (.cellA ty56 rfl rfl rfl) .nil) (.agg (.cons (.eqd ?_) (.cons (.eqd ?_) (.cons (.eqd ?_) (.cons (.eqd ?_) (.cons (.eqd ?_) (.cons (.gld ?_) .nil))))))) ⟨rfl,rfl⟩ (SubO.get ⟨.inr ?_,⟨.inl rfl,trivial⟩⟩) (zav rfl);rotate_left 7;try simp only[Q,Pat.cs_len] at h2p
 refine sq ?_ ?_<;>intro h3 h3p h3s;try simp only[Q,Pat.cs_len] at h3p
 refine si [0,1,2] [_,_,_] zaW tz3 ?_;refine wd zdZ (zbN (p:=q+1) (l:=[9,-1,1]) hb (by omega) (by simp) (by simp)) rfl rfl ⟨rfl,trivial⟩ ?_;refine ev ?_;refine so ty3 ?_;refine tv ?_;refine so ty56 ?_;refine tv ?_;refine rn [(900,some (rdB b (mutP b p q).2))] (.cons (.cellA ty56 rfl rfl rfl) .nil) (.agg (.cons (.eqd ?_) (.cons (.eqd ?_) (.cons (.eqd ?_) (.cons (.eqd ?_) (.cons (.eqd ?_) (.cons (.gld ?_) .nil))))))) ⟨rfl,rfl⟩ (SubO.get ⟨.inr ?_,⟨.inl rfl,trivial⟩⟩) (zav rfl);rotate_left 7;try simp only[Q,Pat.cs_len] at h3p
 refine sq ?_ ?_<;>intro h4 h4p h4s;try simp only[Q,Pat.cs_len] at h4p
 refine bu [0] [_] st56 ?_;refine si [0] [_] sl45 tz56 ?_;refine ap sl45 zz56 rfl rfl rfl (by(intro x hx;simp only[List.mem_singleton] at hx;subst hx;rfl)) (by simp[Pat.cs_len];omega) ?_;refine ev ?_;refine so ty45 ?_;refine tv ?_;refine so ty56 ?_;refine tv ?_;refine rn [(900,some (rdB b (mutP b p q).2))] (.cons (.cellA ty56 rfl rfl rfl) .nil) (.agg (.cons (.eqd ?_) (.cons (.eqd ?_) (.cons (.eqd ?_) (.cons (.eqd ?_) (.cons (.eqd ?_) (.cons (.gld ?_) .nil))))))) ⟨rfl,rfl⟩ (SubO.get ⟨.inr ?_,⟨.inl rfl,trivial⟩⟩) (zav rfl);rotate_left 7;try simp only[Q,Pat.cs_len] at h4p
 refine sq ?_ ?_<;>intro h5 h5p h5s;try simp only[Q,Pat.cs_len] at h5p
 refine sq ?_ ?_<;>intro h6 h6p h6s;try simp only[Q,Pat.cs_len] at h6p
 exfalso;apply hc4;refine⟨by omega,fun hh=>?_⟩;rw[hh] at h6p;exact absurd h6p (by decide);try simp only[Q,Pat.cs_len] at h6p
 refine so ty56 ?_;refine tv ?_;refine rn [(900,some (rdB b (mutP b p q).2))] (.cons (.cellA ty56 rfl rfl rfl) .nil) (.agg (.cons (.eqd ?_) (.cons (.eqd ?_) (.cons (.eqd ?_) (.cons (.eqd ?_) (.cons (.eqd ?_) (.cons (.gld ?_) .nil))))))) ⟨rfl,rfl⟩ (SubO.get ⟨.inr ?_,⟨.inl rfl,trivial⟩⟩) (zav rfl);rotate_left 7;try simp only[Q,Pat.cs_len] at h5p
 refine sq ?_ ?_<;>intro h7 h7p h7s;try simp only[Q,Pat.cs_len] at h7p
 refine si [0,1,2] [_,_,_] zaW tz3 ?_;refine wd zdZ (zbN (p:=q+1) (l:=[10,-1,5]) hb (by omega) (by simp) (by simp)) rfl rfl ⟨rfl,trivial⟩ ?_;refine ev ?_;refine so ty3 ?_;refine tv ?_;refine so ty56 ?_;refine tv ?_;refine rn [(900,some (rdB b (mutP b p q).2))] (.cons (.cellA ty56 rfl rfl rfl) .nil) (.agg (.cons (.eqd ?_) (.cons (.eqd ?_) (.cons (.eqd ?_) (.cons (.eqd ?_) (.cons (.eqd ?_) (.cons (.gld ?_) .nil))))))) ⟨rfl,rfl⟩ (SubO.get ⟨.inr ?_,⟨.inl rfl,trivial⟩⟩) (zav rfl);rotate_left 7;try simp only[Q,Pat.cs_len] at h7p
 refine so ty56 ?_;refine tv ?_;refine rn [(900,some (rdB b (mutP b p q).2))] (.cons (.cellA ty56 rfl rfl rfl) .nil) (.agg (.cons (.eqd ?_) (.cons (.eqd ?_) (.cons (.eqd ?_) (.cons (.eqd ?_) (.cons (.eqd ?_) (.cons (.gld ?_) .nil))))))) ⟨rfl,rfl⟩ (SubO.get ⟨.inr ?_,⟨.inl rfl,trivial⟩⟩) (zav rfl);rotate_left 7;all_goals (((unfold mutP;first|(rw[if_pos (by omega)];all_goals first|rfl|(show _=Pat.cs (p.kids++[zcc]);rw[Pat.cs_app];all_goals rfl))|(rw[if_neg (by omega),if_pos (by omega)];all_goals first|rfl|(show _=Pat.cs (p.kids++[zcc]);rw[Pat.cs_app];all_goals rfl))|(rw[if_neg (by omega),if_neg (by omega),if_pos (by omega)];all_goals first|rfl|(show _=Pat.cs (p.kids++[zcc]);rw[Pat.cs_app];all_goals rfl))|(rw[if_neg (by omega),if_neg (by omega),if_neg (by omega),if_pos (by omega)];all_goals first|rfl|(show _=Pat.cs (p.kids++[zcc]);rw[Pat.cs_app];all_goals rfl))|(have hnk:p.kids=[]:=(by rcases hke:p.kids with _|⟨y,r⟩;rfl;exact absurd ⟨by omega,by rw[hke];simp⟩ hc4);rw[if_neg (by omega),if_neg (by omega),if_neg (by omega),if_neg (by omega),if_pos (by omega),hnk];all_goals rfl)|(rw[if_neg (by omega),if_neg (by omega),if_neg (by omega),if_neg (by omega),if_pos (by omega)];all_goals first|rfl|(show _=Pat.cs (p.kids++[zcc]);rw[Pat.cs_app];all_goals rfl))|(rw[if_neg (by omega),if_neg (by omega),if_neg (by omega),if_neg (by omega),if_neg (by omega),if_pos (by omega)];all_goals first|rfl|(show _=Pat.cs (p.kids++[zcc]);rw[Pat.cs_app];all_goals rfl))|(rw[if_neg (by omega),if_neg (by omega),if_neg (by omega),if_neg (by omega),if_neg (by omega),if_neg (by omega)];all_goals first|rfl|(show _=Pat.cs (p.kids++[zcc]);rw[Pat.cs_app];all_goals rfl)));done))
theorem znA {b:Str} (hb:b.length≤2000){p:Pat}{q:Nat} (hq:q≤1000000) (hok:p.ok) (hc4:zao b q 30=4){y:Pat}{r:List Pat} (hk4:p.kids=y::r):
  FnD Tryz.prog 109 [.ref 900 0,.agg [.d (.i p.op),.d (.i p.ctor),.d (.i p.n),.d (.i p.m),.d (.i p.var),.d (zae p.kids)]] [(900,some (rdB b q))]
   (.agg [.d (.i (mutP b p q).1.op),.d (.i (mutP b p q).1.ctor),.d (.i (mutP b p q).1.n),.d (.i (mutP b p q).1.m),.d (.i (mutP b p q).1.var),.d (zae (mutP b p q).1.kids)]) [(900,some (rdB b (mutP b p q).2))]:=by
 rw[Pat.ok_iff] at hok;have hkl:=Pat.cs_len p.kids;have hcs:Pat.cs p.kids=y.cc::Pat.cs r:=by rw[Pat.cs_cc,hk4,xae,←Pat.cs_cc]
 have hrl:(Pat.cs p.kids).length=(Pat.cs r).length+1:=by rw[hcs];rfl
 have hmu:mutP b p q=(⟨p.op,p.ctor,p.n,p.m,p.var,zcc::r⟩,q+1):=by
  unfold mutP;rw[if_neg (by omega),if_neg (by omega),if_neg (by omega),if_neg (by omega),if_pos hc4,hk4];rfl
 refine bd Tryz.f109 57 [] [17] fun w0 F0 own kept hk=>?_;refine bx 3003 ?_;refine ab 3004 tz56 ?_;refine tv ?_;refine ab 3005 tz56 ?_;refine so ty56 ?_;refine tv ?_;refine xbk 1 sl45 .none rfl rfl ?_;refine ev ?_;refine xaB hk rfl (by rw[hcs];simp) sl45 zz56 .none rfl rfl rfl rfl (zdk rfl (by rfl)) (by intro x hx;exact Pat.cs_rows x hx) (by simp[Pat.cs_len];omega) (by simp[Pat.cs_len];omega) ?_;refine ev ?_;refine so ty45 ?_;refine tv ?_;refine wd zb9 (zaR (p:=q) (n:=30) hb (by omega) (by omega)) rfl rfl ⟨rfl,trivial⟩ ?_;refine tv ?_;refine sq ?_ ?_<;>intro h1 h1p h1s;try simp only[Q,Pat.cs_len] at h1p
 exfalso;omega;try simp only[Q,Pat.cs_len] at h1p
 refine sq ?_ ?_<;>intro h2 h2p h2s;try simp only[Q,Pat.cs_len] at h2p
 exfalso;omega;try simp only[Q,Pat.cs_len] at h2p
 refine sq ?_ ?_<;>intro h3 h3p h3s;try simp only[Q,Pat.cs_len] at h3p
 exfalso;omega;try simp only[Q,Pat.cs_len] at h3p
 refine sq ?_ ?_<;>intro h4 h4p h4s;try simp only[Q,Pat.cs_len] at h4p
 exfalso;omega;try simp only[Q,Pat.cs_len] at h4p
 refine sq ?_ ?_<;>intro h5 h5p h5s;try simp only[Q,Pat.cs_len] at h5p
 refine sq ?_ ?_<;>intro h6 h6p h6s;try simp only[Q,Pat.cs_len] at h6p
 refine bu [0] [_] st56 ?_;refine xaZ (i:=0) sl45 .none rfl rfl rfl rfl (by simp;omega) ?_;refine Walk.store ty56 .none rfl rfl rfl rfl rfl rfl (by simp) ((put0 hcs rfl)) ?_;refine tv ?_;refine CWp.frzC hk 3005 5 1 _ 6 rfl rfl rfl rfl rfl (by rw[List.nil_append,hrl];exact zqg rfl rfl (fun x hx=>Pat.cs_rows x hx)) rfl ?_;refine evc [] [] ?_;refine so ty56 ?_;refine tv ?_;refine rn [(900,some (rdB b (mutP b p q).2))] (.cons (.cellA ty56 rfl rfl rfl) .nil) (.agg (.cons (.eqd ?_) (.cons (.eqd ?_) (.cons (.eqd ?_) (.cons (.eqd ?_) (.cons (.eqd ?_) (.cons (.eqd ?_) .nil))))))) ⟨rfl,rfl⟩ (SubO.get ⟨.inr ?_,⟨.inl rfl,trivial⟩⟩) (zav rfl);rotate_left 7;try simp only[Q,Pat.cs_len] at h6p
 exfalso;rw[List.nil_append,hrl] at h6p;omega;try simp only[Q,Pat.cs_len] at h5p
 exfalso;omega;all_goals (((rw[hmu];all_goals rfl);done))
theorem zhN {b:Str} (hb:b.length≤2000){p:Pat}{q:Nat} (hq:q≤1000000) (hok:p.ok):
  FnD Tryz.prog 109 [.ref 900 0,.agg [.d (.i p.op),.d (.i p.ctor),.d (.i p.n),.d (.i p.m),.d (.i p.var),.d (zae p.kids)]] [(900,some (rdB b q))]
   (.agg [.d (.i (mutP b p q).1.op),.d (.i (mutP b p q).1.ctor),.d (.i (mutP b p q).1.n),.d (.i (mutP b p q).1.m),.d (.i (mutP b p q).1.var),.d (zae (mutP b p q).1.kids)]) [(900,some (rdB b (mutP b p q).2))]:=by
 by_cases h:zao b q 30=4∧p.kids≠[]
 ·cases hk:p.kids with
  |nil=>exact absurd hk h.2
  |cons y r=>rw[←hk];exact znA hb hq hok h.1 hk
 ·exact znz hb hq hok h
theorem FnD.boxD {P:Program}{f:FuncId}{i n k:Nat}{args:List AV}{cs:List AV}{es:List (List D)} (hc:zbK n k (cs.take (n*k))=some es) (h:FnD P f args [] (.ms i n) [(i,some (.box cs))]):FnD P f args [] (.d (.sl es)) []:=by
 intro G w vals hok;refine(h G w vals hok).mono ?_;rintro e w' ⟨v,r',hp',G',rfl,⟨rfl,rfl⟩,hret⟩
 have gi:getH ([(i,some (Res.box cs))]++[]) i=some (.box cs):=by simp[getH]
 obtain⟨b,us,et,q1,q2,q3,q4,q5⟩:=hret.heap i _ gi;have hown:∀b,b∉zc6 G []:=fun b hb=>by simp[zc6] at hb
 have hnew:w.heap.size≤b:=(hret.new i (by rw[gi];rfl) b (by rw[q1];simp)).resolve_left (hown b);have hlt:b<w'.heap.size:=by
  rcases Nat.lt_or_ge b w'.heap.size with h|h
  ·exact h
  ·rw[Array.getElem?_eq_none h] at q2;cases q2
 let G2:Gh:={ G' with F:=fun x=>bif Nat.beq x b then us.size else G'.F x }
 have hin:G2.F b=us.size:=by simp[G2]
 have hout:∀x,x≠b→G2.F x=G'.F x:=fun x hx=>by
  have:Nat.beq x b=false:=by
   cases h:Nat.beq x b with
   |true=>exact absurd (Nat.eq_of_beq_eq_true h) hx
   |false=>rfl
  simp[G2,this]
 have hle:∀x o,o<G'.F x→o<G2.F x:=fun x o ho=>by
  by_cases hx:x=b
  ·subst hx;rw[q4] at ho;omega
  ·rw[hout x hx];exact ho
 refine⟨v,_,_,G2,rfl,⟨rfl,rfl⟩,zwh hret.res q1 q2 q3 q5 hin (fun y o ho=>⟨hle y o ho,rfl⟩) hc,fun id x hx=>(by cases hx),fun id id' h1=>(by cases h1),fun id h1=>(by cases h1), ?_,fun x hx=>?_,fun id hi=>(by simp[zcb,getH] at hi)⟩
 ·have hf:=hret.frm;exact⟨hf.os,hf.tape,hf.output,hf.size,fun x hx hn=>⟨(hf.block x hx hn).1,by rw[hout x (by omega)];exact(hf.block x hx hn).2⟩,fun x o ho=>⟨hle x o (hf.cell x o ho).1,(hf.cell x o ho).2⟩⟩
 ·rw[hout x (by omega)];exact hret.top x hx
def pd (s:List Pat):List AV:=(s.map Pat.cc).flatten.map .d
theorem zfi (a b:List Pat):pd (a++b)=pd a++pd b:=by simp[pd]
theorem znd (x:Pat):pd [x]=[.d (.i x.op),.d (.i x.ctor),.d (.i x.n),.d (.i x.m),.d (.i x.var),.d (zae x.kids)]:=rfl
theorem ziK (s:List Pat):(pd s).length=s.length*6:=by
 induction s with
 |nil=>rfl
 |cons x r ih=>rw[show x::r=[x]++r from rfl,zfi,xaa,ih,znd];simp;omega
theorem zqV {s:List Pat}{i:Nat} (h:i<s.length):pd s=pd (s.take i)++(pd [nth s i]++pd (s.drop (i+1))):=by
 rw[←zfi,←zfi];congr 1
 rw[show [nth s i]++s.drop (i+1)=nth s i::s.drop (i+1) from rfl,←zaG h,List.take_append_drop]
theorem ziJ (s:List Pat):AV.idsL (pd s)=[]:=by
 unfold pd;induction (s.map Pat.cc).flatten with
 |nil=>rfl
 |cons x r ih=>rw[xae,AV.idsL,ih];rfl
theorem zua {s:List Pat}{i:Nat} (h:i<s.length):cutC (pd s) (i*6) 6=some [.d (.i (nth s i).op),.d (.i (nth s i).ctor),.d (.i (nth s i).n),.d (.i (nth s i).m),.d (.i (nth s i).var),.d (zae (nth s i).kids)]:=by
 rw[zqV h,ztO (by rw[ziK,List.length_take];omega) (r:=pd [nth s i])]
 ·rfl
 ·rw[znd];first|exact zwc|(simp[cutC];done)
theorem zxZ {s:List Pat}{i:Nat} (h:i<s.length){t:Pat}:putC (pd s) (i*6) [.d (.i t.op),.d (.i t.ctor),.d (.i t.n),.d (.i t.m),.d (.i t.var),.d (zae t.kids)]=some (pd (s.set i t)):=by
 rw[zqV h,zuc (by rw[ziK,List.length_take];omega) (B':=pd [t]++pd (s.drop (i+1))) (by rw[znd,znd];simp[putC])];rw[List.set_eq_take_append_cons_drop,if_pos h,←zfi,←zfi];rfl
abbrev z6:List AV:=[.d (.i 0),.d (.i 0),.d (.i 0),.d (.i 0),.d (.i 0),.nils]
theorem zwu {s:List Pat}{i n:Nat} (hn:s.length=n) (h:i≤n):putC (pd s) (i*6) (za7 (n-i) z6)=some (pd (s.take i)++za7 (n-i) z6):=by
 subst hn;have e:pd s=pd (s.take i)++(pd (s.drop i)++[]):=by
  rw[List.append_nil,←zfi,List.take_append_drop]
 have e2:putC (pd (s.take i)++(pd (s.drop i)++[])) (i*6) (za7 (s.length-i) z6)=some (pd (s.take i)++(za7 (s.length-i) z6++[])):=by
  rw[zvf (by rw[ziK,List.length_take];omega) ?_];rw[ziK,List.length_drop,zeP];rfl
 rw[←e,List.append_nil] at e2;exact e2
theorem zvd {s:List Pat}{tl:List AV}:zbK s.length 6 ((pd s++tl).take (s.length*6))=some (s.map Pat.cc):=by
 rw[List.take_append_of_le_length (by rw[ziK];exact Nat.le_refl _),List.take_of_length_le (by rw[ziK];exact Nat.le_refl _)];have:=zd4 (f:=Pat.cc) (k:=6) (l:=s) (fun _ _=>rfl);rw[←this];congr 1
 unfold pd;induction s with
 |nil=>rfl
 |cons x r ih=>
  simp only[xae,List.flatten_cons,xaf,List.flatMap_cons];exact congrArg (_++·) (ih (zd4 (fun _ _=>rfl)))
theorem Pat.cs_ccs (l:List Pat):Pat.cs l=l.map Pat.cc:=by
 rw[Pat.cs_eq];exact List.map_congr_left (fun v _=>Pat.c_eq v)
theorem Ex.cs_ccs (l:List Ex):Ex.cs l=l.map Ex.cc:=by
 rw[Ex.cs_eq];exact List.map_congr_left (fun v _=>Ex.c_eq v)
theorem zeQ {xs:List Pat}{f:Nat}{caps:List AV}{hp:Hp}{p:Pat→Bool} (hs:xs.length≤1000000000000) (hcal:Callee Tryz.prog f)
  (hf:∀t∈xs,FnD Tryz.prog f ([.agg [.d (.i t.op),.d (.i t.ctor),.d (.i t.n),.d (.i t.m),.d (.i t.var),.d (zae t.kids)]]++caps) hp (.d (.bool (p t))) []) (k1:subH hp hp) (k2:zdT hp=true) (k3:za1 hp [] (.d .nilp) []=true):
  FnD Tryz.prog 191 [.d (zae xs),.fn f caps] hp (.d (.i (idxF p xs 0))) []:=by
 rw[show zae xs=D.sl (xs.map Pat.cc) by show D.sl (Pat.cs xs)=_;rw[Pat.cs_ccs]];refine bd Tryz.f191 19 [] [] fun w0 F0 own kept hk=>?_;refine xaj (ι:=List (Pat)×List (Pat)) hk (fun x=>[(8,.d (.i (x.1.length:Int)))]) [4,5,9,10,11,12,13,14,15,16,17,18] (fun x=>[]) (fun x=>x.1++x.2=xs∧idxF p x.2 x.1.length=idxF p xs 0) (fun x=>x.2.length) ([],xs) ⟨by simp,rfl⟩ ⟨⟨_,rfl,xap ?_⟩,trivial⟩ trivial (fun x=>zgX hp) (fun x hg1=>?_);focus (first|rfl|(simp;done)|(simp_all;done)|omega)
 obtain⟨pre,rest⟩:=x;dsimp only at hg1 ⊢;refine evc [] [] ?_;refine sq ?_ ?_<;>intro h1 h1p h1s;try simp only[Q] at h1p
 rcases rest with _|⟨y,rest⟩
 ·exfalso;simp_all
 refine xaV sl45 .none rfl rfl rfl rfl (zaE hg1.1) rfl ?_;refine ev ?_;refine xaI (cr:=[]) hcal (hf y (by rw[←hg1.1];simp)) rfl .none rfl rfl rfl (LeL.refl _) k1 k2 (zc5 k3 _) rfl ?_;refine tv ?_;refine sq ?_ ?_<;>intro h2 h2p h2s;try simp only[Q] at h2p
 focus (refine rn [] (r1 rfl) (.eqd ?_) ⟨rfl,rfl⟩ (fun _ _ h=>h) (fun _ h=>h);all_goals (rw[←hg1.2];simp[idxF,h1s,h1p,h2s,h2p]))
 try simp only[Q] at h2p
 refine ar ?_;refine Exists.intro ((pre++[y],rest)) ⟨⟨(by have hz:=hg1.1;rw[←hz];simp),(by rw[←hg1.2];simp[idxF,h2s])⟩,(by simp),Sub.x (by kernel_rfl) (by kernel_rfl) ⟨⟨_,rfl,xap ?_⟩,trivial⟩ (by simp) (by simp[zdF]) trivial⟩;focus (first|rfl|(simp;done)|(simp_all;done)|omega)
 try simp only[Q] at h1p
 have hrest:rest=[]:=by
  rcases rest with _|⟨a,b⟩
  ·rfl
  ·exfalso;have hz:=congrArg List.length (hg1.1);simp only[xaa,xab,xac] at hz;omega
 subst hrest;focus (refine rn [] (r1 rfl) (.eqd ?_) ⟨rfl,rfl⟩ (fun _ _ h=>h) (fun _ h=>h);all_goals (rw[←hg1.2];simp[idxF,h1s,h1p]))
theorem zgP {xs:List Pat}{f:Nat}{caps:List AV}{hp:Hp}{p:Pat→Bool} (hs:xs.length≤1000000000000) (hcal:Callee Tryz.prog f)
  (hf:∀t∈xs,FnD Tryz.prog f ([.agg [.d (.i t.op),.d (.i t.ctor),.d (.i t.n),.d (.i t.m),.d (.i t.var),.d (zae t.kids)]]++caps) hp (.d (.bool (p t))) []) (k1:subH hp hp) (k2:zdT hp=true) (k3:za1 hp [] (.d .nilp) []=true):
  FnD Tryz.prog 117 [.d (zae xs),.fn f caps] hp (.d (.bool (xs.any p))) []:=by
 refine bd Tryz.f117 9 [] [] fun w0 F0 own kept hk=>?_;refine Walk.call (cr:=[]) zmi (zeQ hs hcal hf k1 k2 k3) rfl .none rfl rfl (LeL.refl _) k1 k2 (zc5 k3 _) rfl ?_;refine ev ?_;refine rn [] (r1 rfl) (.eqd ?_) ⟨rfl,rfl⟩ (fun _ _ h=>h) (fun _ h=>h);rotate_left;all_goals (exact congrArg D.bool (ze4 p xs 0))
theorem zeW {xs:List Pat}{f:Nat}{B2 B3:List AV}{p:Pat→Bool} (hs:xs.length≤1000000000000) (hcal:Callee Tryz.prog f) (hB2:AV.idsL B2=[]) (hB3:AV.idsL B3=[])
  (hf:∀t∈xs,FnD Tryz.prog f [.agg [.d (.i t.op),.d (.i t.ctor),.d (.i t.n),.d (.i t.m),.d (.i t.var),.d (zae t.kids)],.ref 3003 0,.ref 3004 0] [(3003,some (.box B2)),(3004,some (.box B3))] (.d (.bool (p t))) []):
  FnD Tryz.prog 191 [.ms 1 xs.length,.fn f [.ref 3003 0,.ref 3004 0]] [(1,some (.box (pd xs))),(3003,some (.box B2)),(3004,some (.box B3))] (.d (.i (idxF p xs 0))) []:=by
 refine bd Tryz.f191 19 [15] [] fun w0 F0 own kept hk=>?_;refine xaj (ι:=Nat) hk (fun i=>[(8,.d (.i (i:Int)))]) [4,5,9,10,11,12,13,14,15,16,17,18] (fun i=>[]) (fun i=>i≤xs.length∧idxF p (xs.drop i) i=idxF p xs 0) (fun i=>xs.length-i) 0 ⟨by omega,rfl⟩ ⟨⟨_,rfl,xap ?_⟩,trivial⟩ trivial (fun x=>rfl) (fun i hg1=>?_);focus (rfl)
 refine evc [15] [] ?_;refine sq ?_ ?_<;>intro h1 h1p h1s;try simp only[Q] at h1p
 refine xaZ sl45 .none rfl rfl rfl rfl (by first|omega|(simp ;omega)) ?_;refine xa2 ty56 .none rfl rfl rfl ((zua (by omega))) ?_;refine xaI (cr:=[]) hcal (hf (nth xs i) (zaf (by omega))) rfl .none rfl rfl rfl (LeL.refl _) ⟨rfl,rfl,trivial⟩ rfl (by simp only[za1,List.all_cons,List.all_nil,zbR,zbB,AV.idsL,AV.ids,hB2,hB3,xae,List.map_nil];rfl) rfl ?_;refine tv ?_;refine sq ?_ ?_<;>intro h2 h2p h2s;try simp only[Q] at h2p
 focus (refine rn [] (r1 rfl) (.eqd ?_) ⟨rfl,rfl⟩ (SubH.get ⟨rfl,⟨rfl,⟨rfl,trivial⟩⟩⟩) (fun _ h=>h);all_goals ((rw[←hg1.2,zaG (by omega)];simp[idxF,h1s,h1p,h2s,h2p];done)))
 try simp only[Q] at h2p
 refine ar ?_;refine Exists.intro (i+1) ⟨⟨by omega,(by rw[←hg1.2,zaG (l:=xs) (i:=i) (by omega)];simp_all[idxF])⟩,(by omega),sx ⟨⟨_,rfl,xap ?_⟩,trivial⟩ trivial⟩;focus (rfl)
 try simp only[Q] at h1p
 focus (refine rn [] (r1 rfl) (.eqd ?_) ⟨rfl,rfl⟩ (SubH.get ⟨rfl,⟨rfl,⟨rfl,trivial⟩⟩⟩) (fun _ h=>h);all_goals ((rw[←hg1.2,List.drop_eq_nil_of_le (by omega)];rfl)))
theorem zhT {xs:List Pat}{f:Nat}{B2 B3:List AV}{p:Pat→Bool} (hs:xs.length≤1000000000000) (hcal:Callee Tryz.prog f) (hB2:AV.idsL B2=[]) (hB3:AV.idsL B3=[])
  (hf:∀t∈xs,FnD Tryz.prog f [.agg [.d (.i t.op),.d (.i t.ctor),.d (.i t.n),.d (.i t.m),.d (.i t.var),.d (zae t.kids)],.ref 3003 0,.ref 3004 0] [(3003,some (.box B2)),(3004,some (.box B3))] (.d (.bool (p t))) []):
  ∃tl:List AV,AV.idsL tl=[]∧FnD Tryz.prog 183 [.ms 1 xs.length,.fn f [.ref 3003 0,.ref 3004 0]] [(1,some (.box (pd xs))),(3003,some (.box B2)),(3004,some (.box B3))]
   (.ms 1 (xs.filter fun t=> !p t).length) [(1,some (.box (pd (xs.filter fun t=> !p t)++tl)))]:=by
 have hok3:za1 [(1,some (.box (pd xs))),(3003,some (.box B2)),(3004,some (.box B3))] [] (.d .nilp) []=true:=by
  simp only[za1,List.all_cons,List.all_nil,zbR,zbB,AV.idsL,AV.ids,ziJ,hB2,hB3,xae,List.map_nil];rfl
 rcases zoX p xs 0 with ⟨hi,hall⟩|⟨k,hi,hk1,hk2⟩
 ·have hfil:(xs.filter fun t=> !p t)=xs:=List.filter_eq_self.2 (fun x hx=>by simp[hall x hx]);refine⟨[],rfl, ?_⟩;rw[hfil,List.append_nil];refine bd Tryz.f183 42 [] [] fun w0 F0 own kept hk=>?_;refine Walk.call (cr:=[]) zmi (zeW hs hcal hB2 hB3 hf) rfl .none rfl rfl (.cons (xar (by first|rfl|(simp;done))) (.cons (.refl _) .nil)) ⟨rfl,rfl,rfl,trivial⟩ rfl (zc5 hok3 _) rfl ?_;refine ev ?_;refine sq ?_ ?_<;>intro h1 h1p h1s;try simp only[Q] at h1p
  refine rn [(1,some (.box (pd xs)))] (r1 rfl) (.refl _) ⟨rfl,rfl⟩ (SubO.get ⟨.inr ?_,⟨.inl rfl,⟨.inr rfl,⟨.inr rfl,trivial⟩⟩⟩⟩) (zav rfl);rotate_left;try simp only[Q] at h1p
  exfalso;simp[hi] at h1;all_goals (((first|rfl|(simp;done));done))
 ·skip
  have hlen:(xs.filter fun t=> !p t).length≤xs.length:=List.length_filter_le _ _;refine⟨za7 (xs.length-(xs.filter fun t=> !p t).length) z6,zjt rfl, ?_⟩;refine bd Tryz.f183 42 [25] [] fun w0 F0 own kept hk=>?_;refine Walk.call (cr:=[]) zmi (zeW hs hcal hB2 hB3 hf) rfl .none rfl rfl (.cons (xar (by first|rfl|(simp;done))) (.cons (.refl _) .nil)) ⟨rfl,rfl,rfl,trivial⟩ rfl (zc5 hok3 _) rfl ?_;refine evs [25] [] ?_;refine sq ?_ ?_<;>intro h1 h1p h1s;try simp only[Q] at h1p
  exfalso;simp[hi] at h1<;>omega;try simp only[Q] at h1p
  refine ar ?_;refine xaj (ι:=List Pat×Nat×Nat) hk (fun x=>[(6,.d (.i (x.2.1:Int))),(5,.d (.i (x.2.2:Int)))]) [7,16,17,18,19,20,21,22,23,24,25,26,27,28,29,30,31,32,33,34,35] (fun x=>[(1,some (.box (pd x.1)))]) (fun x=>x.1.length=xs.length∧x.2.1≤xs.length∧x.2.2≤x.2.1∧x.1.take x.2.2=(xs.take x.2.1).filter (fun t=> !p t)∧x.1.drop x.2.1=xs.drop x.2.1) (fun x=>xs.length-x.2.1) (xs,k+1,k) ⟨rfl,by dsimp only;omega,by dsimp only;omega,hk2.symm,rfl⟩ ⟨⟨_,rfl,xap ?_⟩,⟨⟨_,rfl,xap ?_⟩,trivial⟩⟩ ⟨?_,trivial⟩ (fun x=>rfl) (fun x hg1=>?_);iterate 2 focus ((simp_all;done))
  focus (rfl)
  refine evc [25] [] ?_;refine sq ?_ ?_<;>intro h2 h2p h2s;try simp only[Q] at h2p
  refine xaZ sl45 .none rfl rfl rfl rfl (by first|omega|(simp ;omega)) ?_;refine xa2 ty56 .none rfl rfl rfl (((zua (s:=x.1) (by omega)).trans (by rw[zrA hg1.2.2.2.2 hg1.1 (by omega)]))) ?_;refine Walk.alloc (id:=3007) tz56 rfl .none rfl (by(simp only[zax,occH,occE,Res.ids,xag,List.nil_append,AV.idsL,AV.ids,zah,zag,zaq,zaK,xae,List.map_nil,upC,hB2,hB3,ziJ];rfl)) (by(simp only[zax,occH,occE,Res.ids,xag,List.nil_append,AV.idsL,AV.ids,zah,zag,zaq,zaK,xae,List.map_nil,upC,hB2,hB3,ziJ];rfl)) (by(simp only[zax,occH,occE,Res.ids,xag,List.nil_append,AV.idsL,AV.ids,zah,zag,zaq,zaK,xae,List.map_nil,upC,hB2,hB3,ziJ];rfl)) ?_;refine so ty56 ?_;refine tv ?_;refine xaI (cr:=[]) hcal (hf (nth xs x.2.1) (zaf (by omega))) rfl .none rfl rfl rfl (LeL.refl _) ⟨rfl,rfl,trivial⟩ rfl (by simp only[za1,List.all_cons,List.all_nil,zbR,zbB,AV.idsL,AV.ids,hB2,hB3,xae,List.map_nil];rfl) rfl ?_;refine evs [25] [] ?_;refine sq ?_ ?_<;>intro h3 h3p h3s;try simp only[Q] at h3p
  refine xaZ sl45 .none rfl rfl rfl rfl (by first|omega|(simp ;omega)) ?_;refine Walk.store ty56 .none rfl rfl rfl rfl rfl rfl (by simp) ((zxZ (by omega))) ?_;refine tv ?_;refine ar ?_;refine ar ?_;refine Exists.intro ((if p (nth xs x.2.1) then x.1 else x.1.set x.2.2 (nth xs x.2.1),x.2.1+1,if p (nth xs x.2.1) then x.2.2 else x.2.2+1)) ⟨(by
      obtain⟨g1,g2,g3,g4,g5⟩:=hg1;have hlt:x.2.1<xs.length:=by omega
      have h7:=zhy (p:=fun t=> !p t) hlt;refine⟨by dsimp only;split<;>simp[g1],by dsimp only;omega,by dsimp only;split<;>omega, ?_, ?_⟩
      ·dsimp only;rw[h7,←g4];cases hp:p (nth xs x.2.1) with
       |true=>simp
       |false=>simp only[Bool.false_eq_true,if_false,Bool.not_false,if_true];rw[zjC (by omega)]
      ·dsimp only;split
       ·exact zhY g5
       ·(rw[zpx g3];exact zhY g5)),(by dsimp only;omega),sx ⟨⟨_,rfl,xap ?_⟩,⟨⟨_,rfl,xap ?_⟩,trivial⟩⟩ ⟨?_,trivial⟩⟩
  iterate 2 focus ((simp_all;done))
  focus ((show some (Res.box _)=some (Res.box _);dsimp only;split<;>first|rfl|(exfalso;simp_all;done)))
  try simp only[Q] at h3p
  refine ar ?_;refine Exists.intro ((if p (nth xs x.2.1) then x.1 else x.1.set x.2.2 (nth xs x.2.1),x.2.1+1,if p (nth xs x.2.1) then x.2.2 else x.2.2+1)) ⟨(by
      obtain⟨g1,g2,g3,g4,g5⟩:=hg1;have hlt:x.2.1<xs.length:=by omega
      have h7:=zhy (p:=fun t=> !p t) hlt;refine⟨by dsimp only;split<;>simp[g1],by dsimp only;omega,by dsimp only;split<;>omega, ?_, ?_⟩
      ·dsimp only;rw[h7,←g4];cases hp:p (nth xs x.2.1) with
       |true=>simp
       |false=>simp only[Bool.false_eq_true,if_false,Bool.not_false,if_true];rw[zjC (by omega)]
      ·dsimp only;split
       ·exact zhY g5
       ·exact zhY g5),(by dsimp only;omega),sx ⟨⟨_,rfl,xap ?_⟩,⟨⟨_,rfl,xap ?_⟩,trivial⟩⟩ ⟨?_,trivial⟩⟩
  iterate 2 focus ((simp_all;done))
  focus ((show some (Res.box _)=some (Res.box _);dsimp only;split<;>first|rfl|(exfalso;simp_all;done)))
  try simp only[Q] at h2p
  refine Walk.cutM_l sl45 .none rfl rfl rfl rfl (by omega) ?_;refine Walk.clearB sl45 tz56 rfl (by decide) rfl .none rfl rfl (zwu hg1.1 (by omega)) ?_;refine tv ?_;refine Walk.cutM_h sl45 .none rfl rfl rfl rfl (by omega) ?_;refine evs [25] [] ?_;refine rn [(1,some (.box (pd (xs.filter fun t=> !p t)++za7 (xs.length-(xs.filter fun t=> !p t).length) z6)))] (r1 rfl) (xar ?_) ⟨rfl,rfl⟩ (SubO.get ⟨.inr ?_,⟨.inl rfl,⟨.inr rfl,⟨.inr rfl,trivial⟩⟩⟩⟩) (zav rfl);rotate_left 2;all_goals (first|((first|rfl|(obtain⟨g1,g2,g3,g4,g5⟩:=hg1;have e:x.2.1=xs.length:=(by omega);rw[e,List.take_length] at g4;rw[←g4,List.length_take];omega));done)|((obtain⟨g1,g2,g3,g4,g5⟩:=hg1;have e:x.2.1=xs.length:=(by omega);rw[e,List.take_length] at g4;have e2:(xs.filter fun t=> !p t).length=x.2.2:=(by rw[←g4,List.length_take];omega);rw[e2,←g4];rfl)))
theorem zg8 {f:Nat}{caps:List AV}{hp:Hp} (hcal:Callee Tryz.prog f) (k1:subH hp hp) (k2:zdT hp=true) (k3:za1 hp [] (.d .nilp) []=true):
  FnD Tryz.prog 183 [.d (.sl []),.fn f caps] hp (.d (.sl [])) []:=by
 have hz:=zeQ (xs:=[]) (p:=fun _=>false) (f:=f) (caps:=caps) (hp:=hp) (by simp) hcal (fun t ht=>by simp at ht) k1 k2 k3;refine bd Tryz.f183 42 [] [] fun w0 F0 own kept hk=>?_;refine Walk.call (cr:=[]) zmi (hz) rfl .none rfl rfl (LeL.refl _) k1 k2 (zc5 k3 _) rfl ?_;refine ev ?_;refine sq ?_ ?_<;>intro h1 h1p h1s;try simp only[Q] at h1p
 focus (refine rn [] (r1 rfl) (.eqd ?_) ⟨rfl,rfl⟩ (fun _ _ h=>h) (fun _ h=>h);all_goals (rfl))
 try simp only[Q] at h1p
 exfalso;simp[idxF] at h1
theorem zkx {xs:List Pat} (hs:xs.length≤1000000000000) (hne:xs≠[]):FnD Tryz.prog 184 [.d (zae xs)] [] (.ms 1 xs.length) [(1,some (.box (pd xs)))]:=by
 have hcs:Pat.cs xs≠[]:=fun h=>hne ((Pat.cs_nil xs).1 h);refine Fn.body (fn:=Tryz.f184) (n:=8) rfl rfl rfl rfl rfl (fun w0 F0 own kept hk=>?_);refine xal 0 rfl (fun hx0=>?_) ?_;refine evc [4] [] ?_;refine xaT sl45 .none rfl rfl ?_;refine tv ?_;refine sqT ?_;exfalso;exact hcs hx0;refine evc [4] [] ?_;refine xaS sl45 .none rfl rfl ?_;refine tv ?_;refine sqF ?_;refine xbk 1 sl45 .none rfl rfl ?_;refine evs [4] [] ?_;refine xaB hk rfl (by simp[hcs]) sl45 zz56 .none rfl rfl rfl rfl (zdk rfl (by rfl)) (by intro y hy;rw[xas] at hy;obtain⟨z,_,rfl⟩:=List.mem_map.1 hy;rfl) (by simp[Pat.cs_len];omega) (by simp[Pat.cs_len];omega) ?_;refine evs [4] [] ?_;refine rn [(1,some (.box (pd xs)))] (r1 rfl) (xar ?_) ⟨rfl,rfl⟩ (SubH.get ⟨?_,trivial⟩) (zav rfl);rotate_left 2;all_goals (first|((first|rfl|(simp[Pat.cs_len];done));done)|(first|rfl|(show some (Res.box _)=some (Res.box _);unfold pd;rw[←xas];rfl)))
theorem zlL {w:List Data} (hs:Spa w){ta tk:Int} (ht:InS (w.length*4) ⟨ta,tk⟩){p:Pat} (hp:zai w 11 ⟨ta,tk⟩ p=true):
  FnD Tryz.prog 185 [.agg [.d (.i p.op),.d (.i p.ctor),.d (.i p.n),.d (.i p.m),.d (.i p.var),.d (zae p.kids)],.ref 3003 0,.ref 3004 0] [(3003,some (.box [.d (sPtr w (zak w))])),(3004,some (.box [.d (.i ta),.d (.i tk)]))] (.d (.bool (zaZ w (zak w) 11 ⟨ta,tk⟩ p))) []:=by
 refine bd Tryz.f185 9 [] [] fun w0 F0 own kept hk=>?_;refine bx 3001 ?_;refine ev ?_;refine wc zht (zcL hs.dp 11 (zg4 _ hp) ht (zf2 hs 11 ht hp).1) rfl rfl ?_;refine ev ?_;focus (refine rn [] (r1 rfl) (.eqd ?_) ⟨rfl,rfl⟩ (SubH.get ⟨rfl,⟨rfl,trivial⟩⟩) (fun _ h=>h);all_goals (rfl))
theorem ziD {w:List Data} (hs:Spa w){ta tk:Int} (ht:InS (w.length*4) ⟨ta,tk⟩){l:List Pat} (hl:∀a∈l,zai w 11 ⟨ta,tk⟩ a=true) (hb:l.length≤1000000000000):
  FnD Tryz.prog 115 [.d (sPtr w (zak w)),.agg [.d (.i ta),.d (.i tk)],.d (zae l)] [] (.d (zae (l.filter (zbt w ⟨ta,tk⟩)))) []:=by
 by_cases hne:l=[]
 ·subst hne;have hcl:FnD Tryz.prog 184 [.d (.sl [])] [] (.d (.sl [])) []:=(zfN (xs:=[]) (by simp)).glD;refine bd Tryz.f115 11 [] [] fun w0 F0 own kept hk=>?_;refine bx 3003 ?_;refine bx 3004 ?_;refine ev ?_;refine wc zp5 (hcl) rfl rfl ?_;refine xaK (xs:=[_,_]) rfl .none rfl rfl ?_;refine Walk.call (cr:=[]) ztl (zg8 (hp:=[(3003,some (.box [.d (sPtr w (zak w))])),(3004,some (.box [.d (.i ta),.d (.i tk)]))]) ztm ⟨rfl,rfl,trivial⟩ rfl rfl) rfl .none rfl rfl (LeL.refl _) ⟨rfl,rfl,trivial⟩ rfl rfl rfl ?_;refine ev ?_;focus (refine rn0 (r1 rfl) (.eqd ?_);all_goals (rfl))
 ·obtain⟨tl,htl,hdel⟩:=zhT (xs:=l) (p:=fun a=>zaZ w (zak w) 11 ⟨ta,tk⟩ a) hb ztm (B2:=[.d (sPtr w (zak w))]) (B3:=[.d (.i ta),.d (.i tk)]) rfl rfl (fun a ha=>zlL hs ht (hl a ha));have key:FnD Tryz.prog 115 [.d (sPtr w (zak w)),.agg [.d (.i ta),.d (.i tk)],.d (zae l)] [] (.ms 1 (l.filter (zbt w ⟨ta,tk⟩)).length) [(1,some (.box (pd (l.filter (zbt w ⟨ta,tk⟩))++tl)))]:=by
   refine bd Tryz.f115 11 [] [] fun w0 F0 own kept hk=>?_;refine bx 3003 ?_;refine bx 3004 ?_;refine ev ?_;refine Walk.call (cr:=[1]) zp5 (zkx hb hne) rfl .none rfl rfl (LeL.refl _) trivial rfl (by simp only[za1,List.all_cons,List.all_nil,zbR,zbB,AV.idsL,AV.ids,ziJ,zah,htl,xae,List.map_nil];rfl) rfl ?_;refine xaK (xs:=[_,_]) rfl .none rfl rfl ?_;refine Walk.call (cr:=[]) ztl (hdel) rfl .none rfl rfl (.cons (xar (by first|rfl|(simp;done))) (.cons (.refl _) .nil)) ⟨rfl,rfl,rfl,trivial⟩ rfl (by simp only[za1,List.all_cons,List.all_nil,zbR,zbB,AV.idsL,AV.ids,ziJ,zah,htl,xae,List.map_nil];rfl) rfl ?_;refine ev ?_;refine rn [(1,some (.box (pd (l.filter (zbt w ⟨ta,tk⟩))++tl)))] (r1 rfl) (xar ?_) ⟨rfl,rfl⟩ (SubH.get ⟨?_,trivial⟩) (zav rfl);rotate_left 2;all_goals (first|((rfl);done)|(rfl))
  have h2:=key.boxD (k:=6) zvd;rw[←xas] at h2;exact h2
theorem zix {w:List Data}{a k:Int}{l:List Cl} (h:zbg w ⟨a,k⟩ l=true):zbf w ⟨a,k⟩=true∧l.length≤8:=by
 unfold zbg at h;simp only[xad,decide_eq_true_eq] at h;exact⟨h.1,by omega⟩
theorem zn1 {α β:Type}{g:α→List β}{K:Nat}:∀(l:List α),(∀x∈l,(g x).length≤K)→(l.flatMap g).length≤l.length*K
 | [],_=>by simp
 |x::r,h=>by
  have h1:=h x (by simp);have h2:=zn1 r (fun y hy=>h y (by simp[hy]));rw[List.flatMap_cons,xaa,xab,Nat.add_mul];omega
theorem zgE {w:List Data}{t:Ty}{l away:List Pat}{i:Nat} (h:i<away.length):subL w t l (away.drop i)=if (zbT w t l (nth away i)).length≤400 then subL w t (zbT w t l (nth away i)) (away.drop (i+1)) else none:=by
 rw[zaG h,subL]
theorem zrd {w:List Data}{t:Ty}{l away:List Pat}{i:Nat} (h:away.length≤i):subL w t l (away.drop i)=some l:=by
 rw[List.drop_eq_nil_of_le h,subL]
def zbi:List Cl→List Pat→Option (List Pat)
 | [],out=>some out
 |c::r,out=>if c.g.op=0 then (if zcH c.pat=true then zbi r (out++zc7 c.pat) else none) else zbi r out
theorem zgd {l:List Cl}{out:List Pat}{i:Nat} (h:i<l.length) (hg:¬(nth l i).g.op=0):zbi (l.drop i) out=zbi (l.drop (i+1)) out:=by
 rw[zaG h,zbi,if_neg hg]
theorem zgc {l:List Cl}{out:List Pat}{i:Nat} (h:i<l.length) (hg:(nth l i).g.op=0) (hp:zcH (nth l i).pat=true):zbi (l.drop i) out=zbi (l.drop (i+1)) (out++zc7 (nth l i).pat):=by
 rw[zaG h,zbi,if_pos hg,if_pos hp]
theorem zmy {l:List Cl}{out:List Pat}{i:Nat} (h:i<l.length) (hg:(nth l i).g.op=0) (hp:zcH (nth l i).pat=false):zbi (l.drop i) out=none:=by
 rw[zaG h,zbi,if_pos hg,if_neg (by rw[hp];simp)]
theorem zmz {l:List Cl}{out:List Pat}{i:Nat} (h:l.length≤i):zbi (l.drop i) out=some out:=by
 rw[List.drop_eq_nil_of_le h,zbi]
theorem zg5 (p:Pat):(zc7 p).length≤40:=by unfold zc7;split;assumption;simp
theorem zrC {w:List Data}{t:Ty}{p:Pat} (h:zar w 10 t p=true):∀x∈zc7 p,zai w 10 t x=true:=fun x hx=>by
 unfold zc7 at hx;split at hx
 ·exact zhI 10 h x hx
 ·simp at hx
theorem zd6 {w:List Data}{t:Ty}:∀(l:List Cl) (out r:List Pat),(∀c∈l,zar w 10 t c.pat=true)→(∀x∈out,zai w 10 t x=true)→zbi l out=some r→r.length≤out.length+40*l.length∧∀x∈r,zai w 10 t x=true
 | [],out,r,_,ho,h=>by rw[zbi] at h;cases h;exact⟨by simp,ho⟩
 |c::l,out,r,hc,ho,h=>by
  rw[zbi] at h;split at h
  ·split at h
   ·have:=zd6 l _ r (fun x hx=>hc x (by simp[hx])) (fun x hx=>by
     rcases List.mem_append.1 hx with hx|hx
     ·exact ho x hx
     ·exact zrC (hc c (by simp)) x hx) h
    have hl:=zg5 c.pat;rw[xaa] at this;exact⟨by rw[xab];omega,this.2⟩
   ·cases h
  ·have:=zd6 l _ r (fun x hx=>hc x (by simp[hx])) ho h;exact⟨by rw[xab];omega,this.2⟩
def zed (w:List Data) (t:Ty) (l:List Cl):Option (List Pat):=match zbi l [] with
 |none=>none
 |some away=>match zaI w t [anyQ] away with
  |none=>none
  |some r=>if r.all (isP w t)=true then some r else none
def zce (w:List Data) (t:Ty) (l:List Cl):Option (List Pat):=if zbg w t l=true then zed w t l else none
theorem zd3 {w:List Data}{t:Ty}:∀(away l r:List Pat),(∀a∈l,zai w 11 t a=true)→l.length≤400→(∀b∈away,zai w 10 t b=true)→subL w t l away=some r→r.length≤400∧∀x∈r,zai w 11 t x=true
 | [],l,r,hl,hn,_,h=>by rw[subL] at h;cases h;exact⟨hn,hl⟩
 |b::away,l,r,hl,hn,hb,h=>by
  rw[subL] at h;split at h
  ·rename_i h4;exact zd3 away _ r (zfB hl (hb b (by simp))) h4 (fun x hx=>hb x (by simp[hx])) h
  ·cases h
theorem zmT {w:List Data} (hs:Spa w){ta tk:Int} (ht:InS (w.length*4) ⟨ta,tk⟩){l away:List Pat} (hl:∀a∈l,zai w 11 ⟨ta,tk⟩ a=true) (hb:∀b∈away,zai w 10 ⟨ta,tk⟩ b=true) (hll:l.length≤400) (hal:away.length≤2000):
  FnD Tryz.prog 70 [.d (sPtr w (zak w)),.agg [.d (.i ta),.d (.i tk)],.d (zae l),.d (zae away)] [] (.tup [.d (zae ((zaI w ⟨ta,tk⟩ l away).getD [])),.d (.bool (zaI w ⟨ta,tk⟩ l away).isSome)]) []:=by
 have hlf:(l.filter (zbt w ⟨ta,tk⟩)).length≤l.length:=List.length_filter_le _ _;have hmb:∀(c:List Pat) (i:Nat),(∀a∈c,zai w 11 ⟨ta,tk⟩ a=true)→i<away.length→∀x∈c,(zat w 10 ⟨ta,tk⟩ x (nth away i)).length≤20000000:=fun c i hc hi x hx=>zf0 hs (by omega) (by omega) ht (hc x hx) (hb _ (zaf hi));have hnp:∀(c:List Pat) (i:Nat),(∀a∈c,zai w 11 ⟨ta,tk⟩ a=true)→i<away.length→∀x∈(c.flatMap fun a=>zat w 10 ⟨ta,tk⟩ a (nth away i)),zai w 11 ⟨ta,tk⟩ x=true:=fun c i hc hi x hx=>by
  obtain⟨a,ha,hx⟩:=List.mem_flatMap.1 hx;exact zfA 10 11 (by omega) (hc a ha) (hb _ (zaf hi)) x hx
 have hpre:∀ {pre rest c:List Pat}{y:Pat} (i:Nat),(∀a∈c,zai w 11 ⟨ta,tk⟩ a=true)→c.length≤400→i<away.length→pre++y::rest=c→(pre.flatMap fun a=>zat w 10 ⟨ta,tk⟩ a (nth away i)).length≤8000000000∧(zat w 10 ⟨ta,tk⟩ y (nth away i)).length≤20000000:=fun {pre rest c y} i hc h4 hi h=>by
  have h1:=zn1 (g:=fun a=>zat w 10 ⟨ta,tk⟩ a (nth away i)) (K:=20000000) pre (fun x hx=>hmb c i hc hi x (by rw[←h];simp[hx]));have h2:=hmb c i hc hi y (by rw[←h];simp);have h3:=congrArg List.length h;simp only[xaa,xab] at h3;exact⟨by omega,h2⟩
 refine bd Tryz.f70 48 [12] [11] fun w0 F0 own kept hk=>?_;refine bx 3005 ?_;refine evs [12] [] ?_;refine wc ztc (ziD hs ht hl (by omega)) rfl rfl ?_;refine evs [12] [] ?_;refine xaj (ι:=Nat×List Pat) hk (fun s=>[(21,.d (.i (s.1:Int))),(2,.d (zae s.2))]) [8,9,11,12,14,22,23,24,25,26,27,28,29,30,31,32,33,34,35,36,37,38,39,40,41,42,43,44,45,46] (fun s=>[]) (fun s=>s.1≤away.length∧subL w ⟨ta,tk⟩ s.2 (away.drop s.1)=zaI w ⟨ta,tk⟩ l away∧(∀a∈s.2,zai w 11 ⟨ta,tk⟩ a=true)∧s.2.length≤400) (fun s=>away.length-s.1) (0,l.filter (zbt w ⟨ta,tk⟩)) ⟨by simp,rfl,fun a ha=>hl a (List.mem_filter.1 ha).1,by dsimp only;omega⟩ ⟨⟨_,rfl,xap ?_⟩,⟨⟨_,rfl, ?_⟩,trivial⟩⟩ trivial (fun x=>rfl) (fun s hg1=>?_);focus (rfl)
 focus (exact LeA.refl _)
 refine evc [12] [11] ?_;refine sq ?_ ?_<;>intro h1 h1p h1s;try simp only[Q,Pat.cs_len] at h1p
 refine xaV sl45 .none rfl rfl rfl rfl (zaC (by omega)) rfl ?_;refine evs [12] [] ?_;refine ab 3011 tz56 ?_;refine so ty56 ?_;refine tv ?_;refine xaD 9 6 .none rfl rfl ?_;refine tv ?_;refine xaj (ι:=List (Pat)×List (Pat)) hk (fun x=>[(27,.d (.i (x.1.length:Int))),(12,.gl 9 (Pat.cs (x.1.flatMap fun a=>zat w 10 ⟨ta,tk⟩ a (nth away s.1))))]) [14,28,29,30,31,32,33,34,35,36,37,38] (fun x=>[(9,some (.tok ((Pat.cs (x.1.flatMap fun a=>zat w 10 ⟨ta,tk⟩ a (nth away s.1)))).length 6))]) (fun x=>x.1++x.2=s.2) (fun x=>x.2.length) ([],s.2) (by simp) ⟨⟨_,rfl,xap ?_⟩,⟨⟨_,rfl,LeA.glg ?_⟩,trivial⟩⟩ ⟨zaa ?_,trivial⟩ (fun x=>rfl) (fun x hg2=>?_);iterate 3 focus (rfl)
 obtain⟨pre,rest⟩:=x;dsimp only at hg2 ⊢;refine evc [12] [11] ?_;refine sq ?_ ?_<;>intro h2 h2p h2s;try simp only[Q,Pat.cs_len] at h2p
 rcases rest with _|⟨y,rest⟩
 ·exfalso;simp_all
 refine xaV sl45 .none rfl rfl rfl rfl (Pat.cs_at' hg2) rfl ?_;refine evs [12] [] ?_;refine ab 3014 tz56 ?_;refine so ty56 ?_;refine tv ?_;refine wc zp3 (zjx hs 10 11 (by omega) (by omega) (by omega) ht (hg1.2.2.1 y (by rw[←hg2];simp)) (hb _ (zaf (by omega)))) rfl rfl ?_;refine ap sl45 zz56 rfl rfl rfl (by exact zch _) (by have h9:=hpre s.1 hg1.2.2.1 hg1.2.2.2 (by omega) hg2;simp only[Pat.cs_len];omega) ?_;refine asg ?_;refine tv ?_;refine ar ?_;refine Exists.intro ((pre++[y],rest)) ⟨(by have hz:=hg2;rw[←hz];simp),(by simp),sx ⟨⟨_,rfl,xap ?_⟩,⟨⟨_,rfl,LeA.glg ?_⟩,trivial⟩⟩ ⟨zaa ?_,trivial⟩⟩;iterate 3 focus (first|(rw[List.flatMap_append,xas,xas,xas,xaf];simp;done)|(simp[Pat.cs_len];done))
 try simp only[Q,Pat.cs_len] at h2p
 have hrest:rest=[]:=by
  rcases rest with _|⟨a,b⟩
  ·rfl
  ·exfalso;have hz:=congrArg List.length (hg2);simp only[xaa,xab,xac] at hz;omega
 subst hrest;obtain rfl:pre=s.2:=(by simpa using hg2);refine evc [12] [] ?_;refine Walk.call (cr:=[]) ztc (ziD hs ht (l:=s.2.flatMap fun a=>zat w 10 ⟨ta,tk⟩ a (nth away s.1)) (hnp s.2 s.1 hg1.2.2.1 (by omega)) (by have:=zn1 (g:=fun a=>zat w 10 ⟨ta,tk⟩ a (nth away s.1)) (K:=20000000) s.2 (hmb s.2 s.1 hg1.2.2.1 (by omega));omega)) rfl .none rfl rfl (.cons (.refl _) (.cons (.refl _) (.cons (.gl _ _) .nil))) trivial rfl rfl rfl ?_;refine evs [12] [] ?_;refine sq ?_ ?_<;>intro h3 h3p h3s;try simp only[Q,Pat.cs_len] at h3p
 refine rn0 (r2 rfl rfl) (.tup (.cons (.nild ?_) (.cons (.eqd ?_) .nil)));rotate_left 2;try simp only[Q,Pat.cs_len] at h3p
 refine ar ?_;refine Exists.intro ((s.1+1,zbT w ⟨ta,tk⟩ s.2 (nth away s.1))) ⟨(by
    have h4:(zbT w ⟨ta,tk⟩ s.2 (nth away s.1)).length≤400:=by unfold zbT;omega
    refine⟨by dsimp only;omega, ?_,zfB hg1.2.2.1 (hb _ (zaf (by omega))),h4⟩;have e:=zgE (w:=w) (t:=⟨ta,tk⟩) (l:=s.2) (away:=away) (i:=s.1) (by omega);rw[if_pos h4] at e;dsimp only;rw[←e];exact hg1.2.1),(by dsimp only;omega),sx ⟨⟨_,rfl,xap ?_⟩,⟨⟨_,rfl, ?_⟩,trivial⟩⟩ trivial⟩
 focus (rfl)
 focus (exact LeA.refl _)
 try simp only[Q,Pat.cs_len] at h1p
 refine rn0 (r2 rfl rfl) (.tup (.cons (.eqd ?_) (.cons (.eqd ?_) .nil)));rotate_left 2;all_goals (first|(rw[←hg1.2.1,zgE (by omega),if_neg (by unfold zbT;omega)];rfl)|(rw[←hg1.2.1,zrd (by omega)];rfl))
theorem zlI {w:List Data}{t:Ty}{l:List Cl} (hl:l.length≤8) (hc:∀c∈l,zar w 10 t c.pat=true∧c.pat.ok):
  FnD Tryz.prog 68 [.d (zbW l)] [] (.tup [.d (zae ((zbi l []).getD [])),.d (.bool (zbi l []).isSome)]) []:=by
 have hpl:=fun(i:Nat)=>zg5 (nth l i).pat;refine bd Tryz.f68 32 [4] [] fun w0 F0 own kept hk=>?_;refine xaD 9 6 .none rfl rfl ?_;refine tv ?_;refine xaj (ι:=Nat×List Pat) hk (fun s=>[(11,.d (.i (s.1:Int))),(4,.gl 9 (Pat.cs s.2))]) [2,3,6,7,8,12,13,14,15,16,17,18,19,20,21,22,23,24,25,26,27,28,29,30] (fun s=>[(9,some (.tok ((Pat.cs s.2)).length 6))]) (fun s=>s.1≤l.length∧zbi (l.drop s.1) s.2=zbi l []∧s.2.length≤40*s.1) (fun s=>l.length-s.1) (0,[]) ⟨by simp,rfl,by simp⟩ ⟨⟨_,rfl,xap ?_⟩,⟨⟨_,rfl,LeA.glg ?_⟩,trivial⟩⟩ ⟨zaa ?_,trivial⟩ (fun x=>rfl) (fun s hg1=>?_);iterate 3 focus (rfl)
 refine evc [4] [] ?_;refine sq ?_ ?_<;>intro h1 h1p h1s;try simp only[Q,Pat.cs_len] at h1p
 refine xaV sl28 .none rfl rfl rfl rfl (zas (by omega)) rfl ?_;refine evs [4] [] ?_;refine ab 3006 tz60 ?_;refine so ty60 ?_;refine tv ?_;refine sq ?_ ?_<;>intro h2 h2p h2s;try simp only[Q,Pat.cs_len] at h2p
 refine ar ?_;refine Exists.intro ((s.1+1,if (nth l s.1).g.op=0 then s.2++zc7 (nth l s.1).pat else s.2)) ⟨(by
    have h9:=hpl s.1;by_cases hz:(nth l s.1).g.op=0
    ·refine⟨by dsimp only;omega, ?_, ?_⟩
     ·dsimp only;rw[if_pos hz,←zgc (out:=s.2) (by omega) hz (by simp_all)];exact hg1.2.1
     ·dsimp only;rw[if_pos hz,xaa];omega
    ·refine⟨by dsimp only;omega, ?_, ?_⟩
     ·dsimp only;rw[if_neg hz,←zgd (out:=s.2) (by omega) hz];exact hg1.2.1
     ·dsimp only;rw[if_neg hz];omega),(by dsimp only;omega),sx ⟨⟨_,rfl,xap ?_⟩,⟨⟨_,rfl,LeA.glg ?_⟩,trivial⟩⟩ ⟨zaa ?_,trivial⟩⟩
 iterate 3 focus (first|rfl|(rw[if_neg (by assumption)];done))
 try simp only[Q,Pat.cs_len] at h2p
 refine wc zwO (zpA (hc _ (zaf (i:=s.1) (by omega))).1 (hc _ (zaf (by omega))).2) rfl rfl ?_;refine evs [4] [] ?_;refine sq ?_ ?_<;>intro h3 h3p h3s;try simp only[Q,Pat.cs_len] at h3p
 refine rn0 (r2 rfl rfl) (.tup (.cons (.nild ?_) (.cons (.eqd ?_) .nil)));rotate_left 2;try simp only[Q,Pat.cs_len] at h3p
 refine ap sl45 zz56 rfl rfl rfl (by exact zch _) (by have:=hpl s.1;simp only[Pat.cs_len];omega) ?_;refine asg ?_;refine tv ?_;refine ar ?_;refine Exists.intro ((s.1+1,if (nth l s.1).g.op=0 then s.2++zc7 (nth l s.1).pat else s.2)) ⟨(by
    have h9:=hpl s.1;by_cases hz:(nth l s.1).g.op=0
    ·refine⟨by dsimp only;omega, ?_, ?_⟩
     ·dsimp only;rw[if_pos hz,←zgc (out:=s.2) (by omega) hz (by simp_all)];exact hg1.2.1
     ·dsimp only;rw[if_pos hz,xaa];omega
    ·refine⟨by dsimp only;omega, ?_, ?_⟩
     ·dsimp only;rw[if_neg hz,←zgd (out:=s.2) (by omega) hz];exact hg1.2.1
     ·dsimp only;rw[if_neg hz];omega),(by dsimp only;omega),sx ⟨⟨_,rfl,xap ?_⟩,⟨⟨_,rfl,LeA.glg ?_⟩,trivial⟩⟩ ⟨zaa ?_,trivial⟩⟩
 iterate 3 focus (first|(rw[if_pos (by assumption),xas,xas,xas,xaf];done)|(rw[if_pos (by assumption)];simp[Pat.cs_len];done))
 try simp only[Q,Pat.cs_len] at h1p
 refine rn0 (r2 rfl rfl) (.tup (.cons (.gld ?_) (.cons (.eqd ?_) .nil)));rotate_left 2;all_goals (first|(rw[←hg1.2.1,zmy (by omega) (by first|assumption|(simp_all;done)) (by assumption)];rfl)|(rw[←hg1.2.1,zmz (by omega)];rfl))
theorem zlN {w:List Data} (hs:Spa w){f:Nat→Nat}{ta tk:Int} (ht:InS (w.length*4) ⟨ta,tk⟩){p:Pat} (hp:p.ok):
  FnD Tryz.prog 118 [.agg [.d (.i p.op),.d (.i p.ctor),.d (.i p.n),.d (.i p.m),.d (.i p.var),.d (zae p.kids)],.ref 3004 0,.ref 3005 0] [(3004,some (.box [.d (sPtr w f)])),(3005,some (.box [.d (.i ta),.d (.i tk)]))] (.d (.bool (!isP w ⟨ta,tk⟩ p))) []:=by
 refine bd Tryz.f118 13 [] [] fun w0 F0 own kept hk=>?_;refine bx 3001 ?_;refine ev ?_;refine wc ztd (zgS hs.dp.wt (zb1 ht) hp) rfl rfl ?_;refine evd [] [] ?_;refine dr ?_;refine rn [] (r1 rfl) (.eqd ?_) ⟨rfl,rfl⟩ (SubH.get ⟨rfl,⟨rfl,trivial⟩⟩) (fun _ h=>h);rotate_left;all_goals (rfl)
theorem zn9 {w:List Data} (hs:Spa w){f:Nat→Nat}{ta tk:Int} (ht:InS (w.length*4) ⟨ta,tk⟩){l:List Pat}{ok:Bool} (hl:∀a∈l,a.ok) (hb:l.length≤1000000000000):
  FnD Tryz.prog 71 [.d (sPtr w f),.agg [.d (.i ta),.d (.i tk)],.d (zae l),.d (.bool ok)] [] (.tup [.d (zae (if (ok&&l.all (isP w ⟨ta,tk⟩))=true then l else [])),.d (.bool (ok&&l.all (isP w ⟨ta,tk⟩)))]) []:=by
 have hall:(l.any fun p=> !isP w ⟨ta,tk⟩ p) = !(l.all (isP w ⟨ta,tk⟩)):=by
  induction l with
  |nil=>rfl
  |cons x r ih=>rw[List.any_cons,List.all_cons,ih (fun a ha=>hl a (by simp[ha])) (by simp at hb;omega),Bool.not_and]
 have hcf:=zgP (xs:=l) (p:=fun p=> !isP w ⟨ta,tk⟩ p) (caps:=[.ref 3004 0,.ref 3005 0]) (hp:=[(3004,some (.box [.d (sPtr w f)])),(3005,some (.box [.d (.i ta),.d (.i tk)]))]) hb zwR (fun q hq=>zlN hs ht (hl q hq)) ⟨rfl,rfl,trivial⟩ rfl rfl;rw[hall] at hcf;clear hall;generalize l.all (isP w ⟨ta,tk⟩)=q at hcf ⊢;refine bd Tryz.f71 19 [] [] fun w0 F0 own kept hk=>?_;refine bx 3004 ?_;refine bx 3005 ?_;refine ev ?_;refine sq ?_ ?_<;>intro h1 h1p h1s;try simp only[Q] at h1p
 refine sqT ?_;refine rn0 (r2 rfl rfl) (.tup (.cons (.nild ?_) (.cons (.eqd ?_) .nil)));rotate_left 2;try simp only[Q] at h1p
 refine xaK (xs:=[_,_]) rfl (.some rfl rfl h1) rfl rfl ?_;refine Walk.call (cr:=[]) zwQ (hcf) rfl (.some rfl rfl h1) rfl rfl (LeL.refl _) ⟨rfl,rfl,trivial⟩ rfl rfl rfl ?_;refine evs [] [(12,false)] ?_ ⟨⟨_,rfl,h1⟩,trivial⟩;refine sq ?_ ?_<;>intro h3 h3p h3s;try simp only[Q] at h3p
 refine rn0 (r2 rfl rfl) (.tup (.cons (.nild ?_) (.cons (.eqd ?_) .nil)));rotate_left 2;try simp only[Q] at h3p
 refine wc zwS (zjF hb hl) rfl rfl ?_;refine ev ?_;refine rn0 (r2 rfl rfl) (.tup (.cons (.eqd ?_) (.cons (.eqd ?_) .nil)));rotate_left 2;all_goals ((cases ok<;>cases q<;>first|rfl|(exfalso;simp_all;done)))
theorem zhW {w:List Data}{t:Ty}{l:List Cl} (h:zbg w t l=true) (hl:ClsOk l):∀c∈l,zar w 10 t c.pat=true∧c.pat.ok:=fun c hc=>by
 unfold zbg at h;simp only[xad,Bool.not_eq_true',List.any_eq_false,Bool.not_eq_true] at h;have h4:clOk w t c=true:=by simpa using h.2.2 c hc
 unfold clOk isP at h4;simp only[xad] at h4;exact⟨h4.1.1,hl.2 c hc⟩
theorem zej {w:List Data}{t:Ty}:∀a∈[anyQ],zai w 11 t a=true:=fun a ha=>by
 rw[List.mem_singleton.1 ha];exact zjL
theorem zde {w:List Data} (hs:WSmall w){a k:Int}{l:List Cl} (hl:ClsOk l):
  FnD Tryz.prog 26 [.d (zaj w),.agg [.d (.i a),.d (.i k)],.d (zbW l)] [] (.tup [.d (zae ((zce w ⟨a,k⟩ l).getD [])),.d (.bool (zce w ⟨a,k⟩ l).isSome)]) []:=by
 have hcv:=zjb hs (a:=a) (k:=k) hl;by_cases hv:zbg w ⟨a,k⟩ l=true
 ·have hm:zce w ⟨a,k⟩ l=zed w ⟨a,k⟩ l:=by unfold zce;rw[if_pos hv]
  rw[hm];have htv:=zix hv;have hsp:=zl9 hs (zcu htv.1).1;have hsh:=zhW hv hl;have hin:InS (w.length*4) ⟨a,k⟩:=by
   obtain⟨_,_,h3⟩:=zcu htv.1;by_cases ha:a = -1
   ·exact .inl ha
   ·obtain⟨h4,h5,h6,h7⟩:=h3 ha;have:=zqI (n:=w.length) h5 (j:=k.toNat) (by omega);rwa [Int.toNat_of_nonneg h4,Int.toNat_of_nonneg h6] at this
  have hco:=zlI (w:=w) (t:=⟨a,k⟩) htv.2 hsh;cases hq:zbi l [] with
  |none=>
   have e:zed w ⟨a,k⟩ l=none:=by unfold zed;rw[hq]
   rw[hq] at hco;rw[e];refine bd Tryz.f26 42 [] [] fun w0 F0 own kept hk=>?_;refine bx 3004 ?_;refine ev ?_;refine wc zsw (hcv) rfl rfl ?_;refine ev ?_;refine sq ?_ ?_<;>intro h1 h1p h1s;try simp only[Q] at h1p
   exfalso;rw[hv] at h1;exact absurd h1 (by simp);try simp only[Q] at h1p
   refine wc zvC (hco) rfl rfl ?_;refine ev ?_;refine sq ?_ ?_<;>intro h2 h2p h2s;try simp only[Q] at h2p
   refine rn0 (r2 rfl rfl) (.tup (.cons (.nild ?_) (.cons (.eqd ?_) .nil)));rotate_left 2;try simp only[Q] at h2p
   exfalso;exact absurd h2 (by simp);all_goals (rfl)
  |some away=>
   rw[hq] at hco;obtain⟨p1,p2⟩:=zd6 l [] away (fun c hc=>(hsh c hc).1) (by simp) hq;have hwo:=zmT hsp hin (l:=[anyQ]) (away:=away) zej p2 (by simp) (by simp at p1;omega);have hrl:(zaI w ⟨a,k⟩ [anyQ] away).isSome=true→((zaI w ⟨a,k⟩ [anyQ] away).getD []).length≤400∧∀x∈(zaI w ⟨a,k⟩ [anyQ] away).getD [],zai w 11 ⟨a,k⟩ x=true:=fun h=>by
    cases hw:zaI w ⟨a,k⟩ [anyQ] away with
    |none=>rw[hw] at h;cases h
    |some r=>exact zd3 away _ r (fun x hx=>zej x (List.mem_filter.1 hx).1) (Nat.le_trans (List.length_filter_le _ _) (by simp)) p2 hw
   have hrl2:((zaI w ⟨a,k⟩ [anyQ] away).getD []).length≤400∧∀x∈(zaI w ⟨a,k⟩ [anyQ] away).getD [],x.ok:=by
    cases hw:zaI w ⟨a,k⟩ [anyQ] away with
    |none=>exact⟨by simp,by simp⟩
    |some r=>
     have:=hrl (by rw[hw];rfl);rw[hw] at this;exact⟨this.1,fun x hx=>(zf2 hsp 11 hin (this.2 x hx)).1⟩
   have hre:=zn9 hsp (f:=zak w) hin (l:=(zaI w ⟨a,k⟩ [anyQ] away).getD []) (ok:=(zaI w ⟨a,k⟩ [anyQ] away).isSome) hrl2.2 (by omega);have e:zed w ⟨a,k⟩ l=if ((zaI w ⟨a,k⟩ [anyQ] away).isSome&&((zaI w ⟨a,k⟩ [anyQ] away).getD []).all (isP w ⟨a,k⟩))=true then some ((zaI w ⟨a,k⟩ [anyQ] away).getD []) else none:=by
    unfold zed;rw[hq];cases hw:zaI w ⟨a,k⟩ [anyQ] away with
    |none=>simp[hw]
    |some r=>simp[hw]
   rw[e];generalize ((zaI w ⟨a,k⟩ [anyQ] away).isSome&&((zaI w ⟨a,k⟩ [anyQ] away).getD []).all (isP w ⟨a,k⟩))=q at hre ⊢;refine bd Tryz.f26 42 [] [] fun w0 F0 own kept hk=>?_;refine bx 3004 ?_;refine ev ?_;refine wc zsw (hcv) rfl rfl ?_;refine ev ?_;refine sq ?_ ?_<;>intro h1 h1p h1s;try simp only[Q] at h1p
   exfalso;rw[hv] at h1;exact absurd h1 (by simp);try simp only[Q] at h1p
   refine wc zvC (hco) rfl rfl ?_;refine ev ?_;refine sq ?_ ?_<;>intro h2 h2p h2s;try simp only[Q] at h2p
   exfalso;exact absurd h2 (by simp);try simp only[Q] at h2p
   refine wc zx1 (zk7 hsp.dp) rfl rfl ?_;refine ev ?_;refine wc zss (zeq) rfl rfl ?_;refine si [0] [_] sl45 tz56 ?_;refine evd [] [] ?_;refine wc zx2 (hwo) rfl rfl ?_;refine evd [] [] ?_;refine dr ?_;refine wc zx3 (hre) rfl rfl ?_;refine ev ?_;refine rn0 (r2 rfl rfl) (.tup (.cons (.eqd ?_) (.cons (.eqd ?_) .nil)));rotate_left 2;all_goals (first|rfl|(cases q<;>rfl))
 ·have hv':zbg w ⟨a,k⟩ l=false:=by simpa using hv
  have hm:zce w ⟨a,k⟩ l=none:=by unfold zce;rw[if_neg hv]
  rw[hm];rw[hv'] at hcv;refine bd Tryz.f26 42 [] [] fun w0 F0 own kept hk=>?_;refine bx 3004 ?_;refine ev ?_;refine wc zsw (hcv) rfl rfl ?_;refine ev ?_;refine sq ?_ ?_<;>intro h1 h1p h1s;try simp only[Q] at h1p
  refine rn0 (r2 rfl rfl) (.tup (.cons (.nild ?_) (.cons (.eqd ?_) .nil)));rotate_left 2;try simp only[Q] at h1p
  exfalso;exact absurd h1 (by simp);all_goals (rfl)
def zmV (w:List Data) (t:Ty) (b a:Pat):List Pat:=(zat w 10 t a b).filter (zbt w t)
def zgk (w:List Data) (t:Ty) (l:List Pat) (b:Pat) (k:Nat):List Pat:=(l.take k).flatMap (zmV w t b)
theorem zm6 {w:List Data}{t:Ty}{l:List Pat}{b:Pat}:zbT w t l b=l.flatMap (zmV w t b):=by
 unfold zbT;induction l with
 |nil=>rfl
 |cons x r ih=>rw[List.flatMap_cons,List.filter_append,List.flatMap_cons,ih];rfl
theorem zfg {w:List Data}{t:Ty}{l:List Pat}{b:Pat}{k:Nat} (h:l.length≤k):zgk w t l b k=zbT w t l b:=by
 rw[zm6,zgk,List.take_of_length_le h]
theorem zm7 {w:List Data}{t:Ty}{l:List Pat}{b:Pat}{k:Nat} (h:k<l.length):zgk w t l b (k+1)=zgk w t l b k++zmV w t b (nth l k):=by
 unfold zgk;have e:l[k]?=some (nth l k):=by simpa using zas (f:=id) h
 rw[List.take_add_one,e,List.flatMap_append];simp
theorem zu8 {w:List Data}{t:Ty}{l:List Pat}{b:Pat} (k:Nat):(zgk w t l b k).length≤(zbT w t l b).length:=by
 rw[zm6,zgk];conv=>rhs;rw[←List.take_append_drop k l,List.flatMap_append]
 rw[xaa];omega
theorem zid {w:List Data} (hs:Spa w):∀(n:Nat){ta tk:Int}{p:Pat},InS (w.length*4) ⟨ta,tk⟩→zai w n ⟨ta,tk⟩ p=true→
  FnD Tryz.prog 250 [.d (zaj w),.d (zgt (w.length*4) (zak w)),.agg [.d (.i ta),.d (.i tk)],.agg [.d (.i (p).op),.d (.i (p).ctor),.d (.i (p).n),.d (.i (p).m),.d (.i (p).var),.d (zae (p).kids)]] [] (.d (.bool (!zaZ w (zak w) n ⟨ta,tk⟩ p))) []
 |0,ta,tk,p,_,h=>by simp[zai] at h
 |n+1,ta,tk,p,ht,h=>by
  have hdp:=zeh (f:=zak w) ht (by have:=hs.dp.four;omega);by_cases h1:p.op=1
  ·rw[zhi h1];refine bd Tryz.f250 45 [] [] fun w0 F0 own kept hk=>?_;refine bx 3006 ?_;refine bx 3007 ?_;refine ev ?_;refine sq ?_ ?_<;>intro h1 h1p h1s;try simp only[Q] at h1p
   refine wc zjO (hdp) rfl rfl ?_;refine ev ?_;refine rn0 (r1 rfl) (.eqd ?_);rotate_left;try simp only[Q] at h1p
   exfalso;omega;all_goals (refine congrArg D.bool ?_;rw[Bool.eq_iff_iff];simp;omega)
  by_cases h3:p.op=3
  ·rw[zkU h h3];refine bd Tryz.f250 45 [] [] fun w0 F0 own kept hk=>?_;refine bx 3006 ?_;refine bx 3007 ?_;refine ev ?_;refine sq ?_ ?_<;>intro h1 h1p h1s;try simp only[Q] at h1p
   exfalso;omega;try simp only[Q] at h1p
   refine sq ?_ ?_<;>intro h2 h2p h2s;try simp only[Q] at h2p
   refine rn0 (r1 rfl) (.eqd ?_);rotate_left;try simp only[Q] at h2p
   exfalso;omega;all_goals (rfl)
  have h4:p.op=4:=by have:=zbw h;omega
  obtain⟨c1,c2,c3,-⟩:=zaN h h4;have h3l:=hs.args ⟨ta,tk⟩ p.ctor ht c1;have hk:=fun i (hi:i<p.kids.length)=>za4 h hi;rw[zbc h4] at hk;rw[znZ h4,Bool.not_not];have ih:=fun i (hi:i<p.kids.length)=>zid hs n (ta:=(nth (zab w ⟨ta,tk⟩ p.ctor) i).data) (tk:=(nth (zab w ⟨ta,tk⟩ p.ctor) i).index) (p:=nth p.kids i) (zbx hs.dp ht c1 _ (zaf (by omega))) (hk i hi);refine bd Tryz.f250 45 [] [] fun w0 F0 own kept hk=>?_;refine bx 3006 ?_;refine bx 3007 ?_;refine ev ?_;refine sq ?_ ?_<;>intro h1 h1p h1s;try simp only[Q,Pat.cs_len] at h1p
  exfalso;omega;try simp only[Q,Pat.cs_len] at h1p
  refine sq ?_ ?_<;>intro h2 h2p h2s;try simp only[Q,Pat.cs_len] at h2p
  exfalso;omega;try simp only[Q,Pat.cs_len] at h2p
  refine wc zgq (zcm hs.dp.wt (zb1 ht) c1) rfl rfl ?_;refine ev ?_;refine xaj (ι:=Nat) hk (fun i=>[(10,.d (.i (i:Int)))]) [8,26,27,28,29,30,31,32,33,34,35,36,37,38,39,40,41,42,43,44] (fun i=>[]) (fun i=>i≤(zab w ⟨ta,tk⟩ p.ctor).length∧∀i',i'<i→(!zaZ w (zak w) n (nth (zab w ⟨ta,tk⟩ p.ctor) i') (nth p.kids i'))=true) (fun i=>(zab w ⟨ta,tk⟩ p.ctor).length-i) 0 ⟨by omega,fun _ h=>absurd h (by omega)⟩ ⟨⟨_,rfl,xap ?_⟩,trivial⟩ trivial (fun x=>rfl) (fun i hg1=>?_);focus (rfl)
  refine evc [] [] ?_;refine sq ?_ ?_<;>intro h3 h3p h3s;try simp only[Q,Pat.cs_len] at h3p
  refine xaV zaT .none rfl rfl rfl rfl (zas (by omega)) rfl ?_;refine evd [] [] ?_;refine xaV sl45 .none rfl rfl rfl rfl (zaC (by omega)) rfl ?_;refine evd [] [] ?_;refine wc zty (ih i (by omega)) rfl rfl ?_;refine evd [] [] ?_;refine dr ?_;refine sq ?_ ?_<;>intro h4 h4p h4s;try simp only[Q,Pat.cs_len] at h4p
  refine rn0 (r1 rfl) (.eqd ?_);rotate_left;try simp only[Q,Pat.cs_len] at h4p
  refine ar ?_;refine Exists.intro (i+1) ⟨⟨by omega,za6 hg1.2 (by(simp;assumption))⟩,(by omega),sx ⟨⟨_,rfl,xap ?_⟩,trivial⟩ trivial⟩;focus (rfl)
  try simp only[Q,Pat.cs_len] at h3p
  refine rn0 (r1 rfl) (.eqd ?_);rotate_left;all_goals (refine congrArg D.bool ?_;first|(rw[zb4 (i:=i) (by omega) (by omega) (by first|assumption|(simp;assumption)|(simp_all;done))];done)|(rw[zcK (by omega) (fun x hx=>hg1.2 x (by omega))];done))
theorem ziQ {w:List Data} (hs:Spa w){ta tk:Int} (ht:InS (w.length*4) ⟨ta,tk⟩){l:List Pat} (hl:∀a∈l,zai w 11 ⟨ta,tk⟩ a=true) (hb:l.length≤20000000):
  FnD Tryz.prog 197 [.d (zaj w),.d (zgt (w.length*4) (zak w)),.agg [.d (.i ta),.d (.i tk)],.d (zae l)] [] (.d (zae (l.filter (zbt w ⟨ta,tk⟩)))) []:=by
 have hal:∀a∈l,FnD Tryz.prog 250 [.d (zaj w),.d (zgt (w.length*4) (zak w)),.agg [.d (.i ta),.d (.i tk)],.agg [.d (.i (a).op),.d (.i (a).ctor),.d (.i (a).n),.d (.i (a).m),.d (.i (a).var),.d (zae (a).kids)]] [] (.d (.bool (zbt w ⟨ta,tk⟩ a))) []:=fun a ha=>zid hs 11 ht (hl a ha);have hle:∀ {pre rest:List Pat}{y:Pat},pre++y::rest=l→(pre.filter (zbt w ⟨ta,tk⟩)).length+1≤l.length:=fun {pre rest y} h=>by
  have h1:=List.length_filter_le (zbt w ⟨ta,tk⟩) pre;have h2:=congrArg List.length h;simp only[xaa,xab] at h2;omega
 refine bd Tryz.f197 34 [] [] fun w0 F0 own kept hk=>?_;refine bx 3006 ?_;refine ev ?_;refine xbj 9 sl45 .none rfl rfl ?_;refine ev ?_;refine xaj (ι:=List (Pat)×List (Pat)) hk (fun x=>[(10,.d (.i (x.1.length:Int))),(9,.gl 9 (Pat.cs (x.1.filter (zbt w ⟨ta,tk⟩))))]) [12,13,14,15,16,17,18,19,20,21,22,23,24,25,26,27,28,29,30,31,32] (fun x=>[(9,some (.tok ((Pat.cs (x.1.filter (zbt w ⟨ta,tk⟩)))).length 6))]) (fun x=>x.1++x.2=l) (fun x=>x.2.length) ([],l) (by simp) ⟨⟨_,rfl,xap ?_⟩,⟨⟨_,rfl,LeA.glg ?_⟩,trivial⟩⟩ ⟨zaa ?_,trivial⟩ (fun x=>rfl) (fun x hg1=>?_);iterate 3 focus (rfl)
 obtain⟨pre,rest⟩:=x;dsimp only at hg1 ⊢;refine evc [] [] ?_;refine sq ?_ ?_<;>intro h1 h1p h1s;try simp only[Q,Pat.cs_len] at h1p
 rcases rest with _|⟨y,rest⟩
 ·exfalso;simp_all
 refine xaV sl45 .none rfl rfl rfl rfl (Pat.cs_at' hg1) rfl ?_;refine evd [] [] ?_;refine wc zty (hal y (by rw[←hg1];simp)) rfl rfl ?_;refine dr ?_;refine sq ?_ ?_<;>intro h2 h2p h2s;try simp only[Q,Pat.cs_len] at h2p
 refine xaV sl45 .none rfl rfl rfl rfl (Pat.cs_at' hg1) rfl ?_;refine ev ?_;refine si [0] [_] sl45 tz56 ?_;refine ap sl45 zz56 rfl rfl rfl (by intro x hx;simp at hx;subst hx;rfl) (by have h9:=hle hg1;simp[Pat.cs_len];omega) ?_;refine ev ?_;refine ar ?_;refine Exists.intro ((pre++[y],rest)) ⟨(by have hz:=hg1;rw[←hz];simp),(by simp),sx ⟨⟨_,rfl,xap ?_⟩,⟨⟨_,rfl,LeA.glg ?_⟩,trivial⟩⟩ ⟨zaa ?_,trivial⟩⟩;iterate 3 focus (first|(dsimp only;rw[List.filter_append,List.filter_cons_of_pos (by assumption),List.filter_nil,xas (List.filter _ _),xas (_++_),xaf];rfl)|(dsimp only;rw[List.filter_append,List.filter_cons_of_pos (by assumption),List.filter_nil];simp[Pat.cs_len];done)|(simp;done))
 try simp only[Q,Pat.cs_len] at h2p
 refine ar ?_;refine Exists.intro ((pre++[y],rest)) ⟨(by have hz:=hg1;rw[←hz];simp),(by simp),sx ⟨⟨_,rfl,xap ?_⟩,⟨⟨_,rfl,LeA.glg ?_⟩,trivial⟩⟩ ⟨zaa ?_,trivial⟩⟩;iterate 3 focus (first|(dsimp only;rw[List.filter_append,List.filter_cons_of_neg (by simp_all),List.filter_nil,List.append_nil];done)|(simp;done))
 try simp only[Q,Pat.cs_len] at h1p
 have hrest:rest=[]:=by
  rcases rest with _|⟨a,b⟩
  ·rfl
  ·exfalso;have hz:=congrArg List.length (hg1);simp only[xaa,xab,xac] at hz;omega
 subst hrest;refine rn0 (r1 rfl) (.gld ?_);rotate_left;all_goals ((rw[List.append_nil] at hg1;rw[hg1];done))
theorem zkG {w:List Data} (hs:Spa w){ta tk:Int} (ht:InS (w.length*4) ⟨ta,tk⟩){l away:List Pat} (hl:∀a∈l,zai w 11 ⟨ta,tk⟩ a=true) (hb:∀b∈away,zai w 10 ⟨ta,tk⟩ b=true) (hll:l.length≤400) (hal:away.length≤2000):
  FnD Tryz.prog 124 [.d (zaj w),.d (zgt (w.length*4) (zak w)),.agg [.d (.i ta),.d (.i tk)],.d (zae l),.d (zae away)] [] (.tup [.d (zae ((zaI w ⟨ta,tk⟩ l away).getD [])),.d (.bool (zaI w ⟨ta,tk⟩ l away).isSome)]) []:=by
 have hke:=zut hs ht hl hb;have hmi:∀(c:List Pat) (i k:Nat),(∀a∈c,zai w 11 ⟨ta,tk⟩ a=true)→i<away.length→k<c.length→(zat w 10 ⟨ta,tk⟩ (nth c k) (nth away i)).length≤20000000:=fun c i k hc hi hk=>zf0 hs (by omega) (by omega) ht (hc _ (zaf hk)) (hb _ (zaf hi));have hkb:∀(c:List Pat) (i k:Nat),(∀a∈c,zai w 11 ⟨ta,tk⟩ a=true)→i<away.length→k<c.length→(zmV w ⟨ta,tk⟩ (nth away i) (nth c k)).length≤20000000:=fun c i k hc hi hk=>Nat.le_trans (List.length_filter_le _ _) (hmi c i k hc hi hk);rw[←hke];have hno:∀(c:List Pat) (i k:Nat),i<away.length→400<(zgk w ⟨ta,tk⟩ c (nth away i) k).length→subL w ⟨ta,tk⟩ c (away.drop i)=none:=fun c i k hi h=>by
  have:=zu8 (w:=w) (t:=⟨ta,tk⟩) (l:=c) (b:=nth away i) k;rw[zgE hi,if_neg (by omega)]
 refine bd Tryz.f124 60 [] [] fun w0 F0 own kept hk=>?_;refine bx 3007 ?_;refine ev ?_;refine xaj (ι:=Nat×List Pat) hk (fun s=>[(12,.d (.i (s.1:Int))),(3,.d (zae s.2))]) [10,11,13,14,15,16,17,18,19,20,21,22,23,24,25,26,27,28,29,30,31,32,33,34,35,36,37,38,39,40,41,42,43,44,45,46,47,48,49,50,51,52,53,54] (fun s=>[]) (fun s=>s.1≤away.length∧subL w ⟨ta,tk⟩ s.2 (away.drop s.1)=subL w ⟨ta,tk⟩ l away∧(∀a∈s.2,zai w 11 ⟨ta,tk⟩ a=true)∧s.2.length≤400) (fun s=>away.length-s.1) (0,l) ⟨by simp,rfl,hl,hll⟩ ⟨⟨_,rfl,xap ?_⟩,⟨⟨_,rfl, ?_⟩,trivial⟩⟩ trivial (fun x=>rfl) (fun s hg1=>?_);focus (rfl)
 focus (exact LeA.refl _)
 refine evc [] [] ?_;refine sq ?_ ?_<;>intro h1 h1p h1s;try simp only[Q,Pat.cs_len] at h1p
 refine xbj 9 sl45 .none rfl rfl ?_;refine ev ?_;refine xaj (ι:=Nat) hk (fun k=>[(14,.d (.i (k:Int))),(13,.gl 9 (Pat.cs (zgk w ⟨ta,tk⟩ s.2 (nth away s.1) k)))]) [22,23,24,25,26,27,28,29,30,31,32,33,34,35,36,37,38,39,40,41,42,43,44,45,46,47,48,49] (fun k=>[(9,some (.tok ((Pat.cs (zgk w ⟨ta,tk⟩ s.2 (nth away s.1) k))).length 6))]) (fun k=>k≤s.2.length) (fun k=>s.2.length-k) 0 (by omega) ⟨⟨_,rfl,xap ?_⟩,⟨⟨_,rfl,LeA.glg ?_⟩,trivial⟩⟩ ⟨zaa ?_,trivial⟩ (fun x=>rfl) (fun k hg2=>?_);iterate 3 focus (rfl)
 refine evc [] [] ?_;refine sq ?_ ?_<;>intro h2 h2p h2s;try simp only[Q,Pat.cs_len] at h2p
 refine sq ?_ ?_<;>intro h3 h3p h3s;try simp only[Q,Pat.cs_len] at h3p
 refine xaV sl45 .none rfl rfl rfl rfl (zaC (by omega)) rfl ?_;refine evd [] [] ?_;refine xaV sl45 .none rfl rfl rfl rfl (zaC (by omega)) rfl ?_;refine evd [] [] ?_;refine wc zp7 (zie hs 10 11 (by omega) (by omega) (by omega) ht (hg1.2.2.1 _ (zaf (by omega))) (hb _ (zaf (by omega)))) rfl rfl ?_;refine wc zto (show FnD _ _ _ _ (.d (zae (zmV w ⟨ta,tk⟩ (nth away s.1) (nth s.2 k)))) _ from ziQ hs ht (zfA 10 11 (by omega) (hg1.2.2.1 _ (zaf (by omega))) (hb _ (zaf (by omega)))) (hmi s.2 s.1 k hg1.2.2.1 (by omega) (by omega))) rfl rfl ?_;refine ap sl45 zz56 rfl rfl rfl (by exact zch _) (by have h9:=hkb s.2 s.1 k hg1.2.2.1 (by omega) (by omega);simp only[Pat.cs_len];omega) ?_;refine evd [] [] ?_;refine dr ?_;refine ar ?_;refine Exists.intro (k+1) ⟨(by omega),(by omega),sx ⟨⟨_,rfl,xap ?_⟩,⟨⟨_,rfl,LeA.glg ?_⟩,trivial⟩⟩ ⟨zaa ?_,trivial⟩⟩;iterate 3 focus (first|rfl|(rw[zm7 (by omega),xas,xas,xas,xaf];done)|(rw[zm7 (by omega)];simp[Pat.cs_len];done))
 try simp only[Q,Pat.cs_len] at h3p
 refine sq ?_ ?_<;>intro h4 h4p h4s;try simp only[Q,Pat.cs_len] at h4p
 refine xbi sl45 .none rfl ?_;refine ev ?_;refine rn0 (r2 rfl rfl) (.tup (.cons (.eqd ?_) (.cons (.eqd ?_) .nil)));rotate_left 2;try simp only[Q,Pat.cs_len] at h4p
 refine ar ?_;refine Exists.intro ((s.1+1,zbT w ⟨ta,tk⟩ s.2 (nth away s.1))) ⟨(by
    have hk:s.2.length≤k:=by omega
    have h4:(zbT w ⟨ta,tk⟩ s.2 (nth away s.1)).length≤400:=by rw[←zfg hk];omega
    have e:=zgE (w:=w) (t:=⟨ta,tk⟩) (l:=s.2) (away:=away) (i:=s.1) (by omega);rw[if_pos h4] at e;refine⟨by dsimp only;omega, ?_,zfB hg1.2.2.1 (hb _ (zaf (by omega))),h4⟩;dsimp only;rw[←e];exact hg1.2.1),(by dsimp only;omega),sx ⟨⟨_,rfl,xap ?_⟩,⟨⟨_,rfl, ?_⟩,trivial⟩⟩ trivial⟩
 focus (rfl)
 focus (((first|refine LeA.gld ?_|refine LeA.nild ?_);first|rfl|(rw[zfg (by omega)];done)|(dsimp only;rw[zfg (by omega)];done)|(simp;done)|omega))
 try simp only[Q,Pat.cs_len] at h2p
 refine sqF ?_;refine sq ?_ ?_<;>intro h6 h6p h6s;try simp only[Q,Pat.cs_len] at h6p
 refine xbi sl45 .none rfl ?_;refine ev ?_;refine rn0 (r2 rfl rfl) (.tup (.cons (.eqd ?_) (.cons (.eqd ?_) .nil)));rotate_left 2;try simp only[Q,Pat.cs_len] at h6p
 refine ar ?_;refine Exists.intro ((s.1+1,zbT w ⟨ta,tk⟩ s.2 (nth away s.1))) ⟨(by
    have hk:s.2.length≤k:=by omega
    have h4:(zbT w ⟨ta,tk⟩ s.2 (nth away s.1)).length≤400:=by rw[←zfg hk];omega
    have e:=zgE (w:=w) (t:=⟨ta,tk⟩) (l:=s.2) (away:=away) (i:=s.1) (by omega);rw[if_pos h4] at e;refine⟨by dsimp only;omega, ?_,zfB hg1.2.2.1 (hb _ (zaf (by omega))),h4⟩;dsimp only;rw[←e];exact hg1.2.1),(by dsimp only;omega),sx ⟨⟨_,rfl,xap ?_⟩,⟨⟨_,rfl, ?_⟩,trivial⟩⟩ trivial⟩
 focus (rfl)
 focus (((first|refine LeA.gld ?_|refine LeA.nild ?_);first|rfl|(rw[zfg (by omega)];done)|(dsimp only;rw[zfg (by omega)];done)|(simp;done)|omega))
 try simp only[Q,Pat.cs_len] at h1p
 refine wc zto (ziQ hs ht hg1.2.2.1 (by omega)) rfl rfl ?_;refine ev ?_;refine rn0 (r2 rfl rfl) (.tup (.cons (.eqd ?_) (.cons (.eqd ?_) .nil)));rotate_left 2;all_goals (first|(rw[←hg1.2.1,hno s.2 s.1 k (by omega) (by omega)];rfl)|(rw[←hg1.2.1,zrd (by omega)];rfl))
theorem ziP:∀(n:Nat){p:Pat},p.size≤n→p.ok→FnD Tryz.prog 96 [.agg [.d (.i (p).op),.d (.i (p).ctor),.d (.i (p).n),.d (.i (p).m),.d (.i (p).var),.d (zae (p).kids)]] [] (.agg [.d (.i (p).op),.d (.i (p).ctor),.d (.i (p).n),.d (.i (p).m),.d (.i (p).var),.d (zae (p).kids)]) []
 |0,p,h,_=>by rw[Pat.size_eq] at h;omega
 |n+1,p,h,hok=>by
  rw[Pat.size_eq] at h;rw[Pat.ok_iff] at hok;have hok1:=hok.1;refine bd Tryz.f96 26 [] [] fun w0 F0 own kept hk=>?_;refine bx 3001 ?_;refine ab 3002 tz56 ?_;refine tv ?_;refine ab 3003 tz56 ?_;refine so ty56 ?_;refine tv ?_;refine so ty45 ?_;refine tv ?_;refine xam 3003 5 7 6 rfl rfl rfl rfl ?_;refine xaj (ι:=List (Pat)×List (Pat)) hk (fun x=>[(4,.d (.i (x.1.length:Int)))]) [7,8,9,10,11,12,13,14,15,16,17,18,19,20,21,22,23,24] (fun x=>[(3003,some (.box [.d (.i p.op),.d (.i p.ctor),.d (.i p.n),.d (.i p.m),.d (.i p.var),.gl 7 (x.1.map Pat.cc)])),(7,some (.tok (x.1.map Pat.cc).length 6))]) (fun x=>x.1++x.2=p.kids) (fun x=>x.2.length) ([],p.kids) (by simp) ⟨⟨_,rfl,xap ?_⟩,trivial⟩ ⟨?_,⟨zaa ?_,trivial⟩⟩ (fun x=>rfl) (fun x hg1=>?_);focus (rfl)
  focus (first|rfl|(simp[getH];done))
  focus (rfl)
  obtain⟨pre,rest⟩:=x;dsimp only at hg1 ⊢;refine evc [] [] ?_;refine sq ?_ ?_<;>intro h1 h1p h1s;try simp only[Q,Pat.cs_len] at h1p
  rcases rest with _|⟨y,rest⟩
  ·exfalso;simp_all
  refine xaV sl45 .none rfl rfl rfl rfl (Pat.cs_at' hg1) rfl ?_;refine evd [] [] ?_;refine wc zvF (ziP n (p:=y) (by have:=Pats.size_mem (l:=p.kids) (v:=y) (by rw[←hg1];simp);omega) (Pats.ok_mem hok.2 y (by rw[←hg1];simp))) rfl rfl ?_;refine si [0] [_] sl45 tz56 ?_;refine ap sl45 zz56 rfl rfl rfl (by intro x hx;(simp at hx;subst hx;rfl)) (by have:=congrArg List.length hg1;simp at this;simp;omega) ?_;refine evd [] [] ?_;refine so ty45 ?_;refine dr ?_;refine ar ?_;refine Exists.intro ((pre++[y],rest)) ⟨(by have hz:=hg1;rw[←hz];simp),(by simp),sx ⟨⟨_,rfl,xap ?_⟩,trivial⟩ ⟨?_,⟨zaa ?_,trivial⟩⟩⟩;focus ((simp;done))
  focus (first|rfl|(simp[getH];done))
  focus ((simp;done))
  try simp only[Q,Pat.cs_len] at h1p
  have hrest:rest=[]:=by
   rcases rest with _|⟨a,b⟩
   ·rfl
   ·exfalso;have hz:=congrArg List.length (hg1);simp only[xaa,xab,xac] at hz;omega
  subst hrest;refine so ty56 ?_;refine tv ?_;refine rn0 (.cons (.cellA ty56 rfl rfl rfl) .nil) (.agg (.cons (.eqd ?_) (.cons (.eqd ?_) (.cons (.eqd ?_) (.cons (.eqd ?_) (.cons (.eqd ?_) (.cons (.gld ?_) .nil)))))));rotate_left 6;all_goals (first|rfl|(rw[List.append_nil] at hg1;rw[←hg1,xas];done))
theorem zpF {l:List Pat} (h:l.length≤1000000000000) (hok:∀p∈l,p.ok):FnD Tryz.prog 201 [.d (zae l)] [] (.d (zae l)) []:=by
 refine bd Tryz.f201 21 [] [] fun w0 F0 own kept hk=>?_;refine xbj 1 sl45 .none rfl rfl ?_;refine ev ?_;refine xaj (ι:=List (Pat)×List (Pat)) hk (fun x=>[(4,.d (.i (x.1.length:Int))),(3,.gl 1 (x.1.map Pat.cc))]) [6,7,8,9,10,11,12,13,14,15,16,17,18,19] (fun x=>[(1,some (.tok ((x.1.map Pat.cc)).length 6))]) (fun x=>x.1++x.2=l) (fun x=>x.2.length) ([],l) (by simp) ⟨⟨_,rfl,xap ?_⟩,⟨⟨_,rfl,LeA.glg ?_⟩,trivial⟩⟩ ⟨zaa ?_,trivial⟩ (fun x=>rfl) (fun x hg1=>?_);iterate 3 focus (rfl)
 obtain⟨pre,rest⟩:=x;dsimp only at hg1 ⊢;refine evc [] [] ?_;refine sq ?_ ?_<;>intro h1 h1p h1s;try simp only[Q,Pat.cs_len] at h1p
 rcases rest with _|⟨y,rest⟩
 ·exfalso;simp_all
 refine xaV sl45 .none rfl rfl rfl rfl (Pat.cs_at' hg1) rfl ?_;refine ev ?_;refine wc zvF (ziP _ (Nat.le_refl _) (hok y (by rw[←hg1];simp))) rfl rfl ?_;refine si [0] [_] sl45 tz56 ?_;refine ap sl45 zz56 rfl rfl rfl (by intro x hx;simp at hx;subst hx;rfl) (by have:=congrArg List.length hg1;simp at this;simp;omega) ?_;refine ev ?_;refine ar ?_;refine Exists.intro ((pre++[y],rest)) ⟨(by have hz:=hg1;rw[←hz];simp),(by simp),sx ⟨⟨_,rfl,xap ?_⟩,⟨⟨_,rfl,LeA.glg ?_⟩,trivial⟩⟩ ⟨zaa ?_,trivial⟩⟩;iterate 3 focus ((simp;done))
 try simp only[Q,Pat.cs_len] at h1p
 have hrest:rest=[]:=by
  rcases rest with _|⟨a,b⟩
  ·rfl
  ·exfalso;have hz:=congrArg List.length (hg1);simp only[xaa,xab,xac] at hz;omega
 subst hrest;refine rn0 (r1 rfl) (.gld ?_);rotate_left;all_goals ((rw[List.append_nil] at hg1;rw[←hg1,xas];done))
theorem zpi {p:Pat} (h:zcH p=true):za3 (zaF p)=zc7 p:=by
 unfold zcH at h;have h40:=of_decide_eq_true h;unfold za3 zc7;rw[if_pos h40,List.take_of_length_le (by omega)]
theorem zus {p:Pat}:((40:Int)<((za3 (zaF p)).length:Int))↔zcH p=false:=by
 unfold zcH za3;rw[List.length_take,decide_eq_false_iff_not];omega
theorem znH {w:List Data}{t:Ty}{l:List Cl} (hl:l.length≤8) (hc:∀c∈l,zar w 10 t c.pat=true∧c.pat.ok):
  FnD Tryz.prog 123 [.d (zbW l),.d (.i (l.length:Int))] [] (.tup [.d (zae ((zbi l []).getD [])),.d (.bool (zbi l []).isSome)]) []:=by
 have hpl:=fun(i:Nat)=>zha (zaF (nth l i).pat);have hge:=fun(i:Nat)=>zus (p:=(nth l i).pat);refine bd Tryz.f123 35 [] [] fun w0 F0 own kept hk=>?_;refine xbj 9 sl45 .none rfl rfl ?_;refine ev ?_;refine xaj (ι:=Nat×List Pat) hk (fun s=>[(7,.d (.i (s.1:Int))),(6,.gl 9 (Pat.cs s.2))]) [4,5,8,10,11,12,13,14,15,16,17,18,19,20,21,22,23,24,25,26,27,28,29,30,31,32,33] (fun s=>[(9,some (.tok ((Pat.cs s.2)).length 6))]) (fun s=>s.1≤l.length∧zbi (l.drop s.1) s.2=zbi l []∧s.2.length≤40*s.1) (fun s=>l.length-s.1) (0,[]) ⟨by simp,rfl,by simp⟩ ⟨⟨_,rfl,xap ?_⟩,⟨⟨_,rfl,LeA.glg ?_⟩,trivial⟩⟩ ⟨zaa ?_,trivial⟩ (fun x=>rfl) (fun s hg1=>?_);iterate 3 focus (rfl)
 refine evc [] [] ?_;refine sq ?_ ?_<;>intro h1 h1p h1s;try simp only[Q,Pat.cs_len,Int.natCast_inj] at h1p
 refine xaV sl28 .none rfl rfl rfl rfl (zas (by omega)) rfl ?_;refine ev ?_;refine sq ?_ ?_<;>intro h2 h2p h2s;try simp only[Q,Pat.cs_len,Int.natCast_inj] at h2p
 refine ar ?_;refine Exists.intro ((s.1+1,if (nth l s.1).g.op=0 then s.2++za3 (zaF (nth l s.1).pat) else s.2)) ⟨(by
    by_cases hz:(nth l s.1).g.op=0
    ·have hp:zcH (nth l s.1).pat=true:=by
      cases hp:zcH (nth l s.1).pat with
      |true=>rfl
      |false=>have:=(hge s.1).2 hp;exfalso;first|omega|contradiction
     have h9:=zg5 (nth l s.1).pat;have e:=zpi hp;refine⟨by dsimp only;omega, ?_, ?_⟩
     ·dsimp only;rw[if_pos hz,e,←zgc (out:=s.2) (by omega) hz hp];exact hg1.2.1
     ·dsimp only;rw[if_pos hz,e,xaa];omega
    ·refine⟨by dsimp only;omega, ?_, ?_⟩
     ·dsimp only;rw[if_neg hz,←zgd (out:=s.2) (by omega) hz];exact hg1.2.1
     ·dsimp only;rw[if_neg hz];omega),(by dsimp only;omega),sx ⟨⟨_,rfl,xap ?_⟩,⟨⟨_,rfl,LeA.glg ?_⟩,trivial⟩⟩ ⟨zaa ?_,trivial⟩⟩
 iterate 3 focus (first|rfl|(dsimp only;rw[if_neg (by assumption)];done))
 try simp only[Q,Pat.cs_len,Int.natCast_inj] at h2p
 refine xaV sl28 .none rfl rfl rfl rfl (zas (by omega)) rfl ?_;refine ev ?_;refine wc zxg (znF (hc _ (zaf (i:=s.1) (by omega))).1 (hc _ (zaf (by omega))).2) rfl rfl ?_;refine ev ?_;refine sq ?_ ?_<;>intro h3 h3p h3s;try simp only[Q,Pat.cs_len,Int.natCast_inj] at h3p
 refine rn0 (r2 rfl rfl) (.tup (.cons (.nild ?_) (.cons (.eqd ?_) .nil)));rotate_left 2;try simp only[Q,Pat.cs_len,Int.natCast_inj] at h3p
 refine ap sl45 zz56 rfl rfl rfl (by exact zch _) (by have:=hpl s.1;simp only[Pat.cs_len];omega) ?_;refine ev ?_;refine ar ?_;refine Exists.intro ((s.1+1,if (nth l s.1).g.op=0 then s.2++za3 (zaF (nth l s.1).pat) else s.2)) ⟨(by
    by_cases hz:(nth l s.1).g.op=0
    ·have hp:zcH (nth l s.1).pat=true:=by
      cases hp:zcH (nth l s.1).pat with
      |true=>rfl
      |false=>have:=(hge s.1).2 hp;exfalso;first|omega|contradiction
     have h9:=zg5 (nth l s.1).pat;have e:=zpi hp;refine⟨by dsimp only;omega, ?_, ?_⟩
     ·dsimp only;rw[if_pos hz,e,←zgc (out:=s.2) (by omega) hz hp];exact hg1.2.1
     ·dsimp only;rw[if_pos hz,e,xaa];omega
    ·refine⟨by dsimp only;omega, ?_, ?_⟩
     ·dsimp only;rw[if_neg hz,←zgd (out:=s.2) (by omega) hz];exact hg1.2.1
     ·dsimp only;rw[if_neg hz];omega),(by dsimp only;omega),sx ⟨⟨_,rfl,xap ?_⟩,⟨⟨_,rfl,LeA.glg ?_⟩,trivial⟩⟩ ⟨zaa ?_,trivial⟩⟩
 iterate 3 focus (first|rfl|(dsimp only;rw[if_pos (by assumption),xas,xas,xas,xaf];done)|(dsimp only;rw[if_pos (by assumption)];simp[Pat.cs_len];done))
 try simp only[Q,Pat.cs_len,Int.natCast_inj] at h1p
 refine rn0 (r2 rfl rfl) (.tup (.cons (.gld ?_) (.cons (.eqd ?_) .nil)));rotate_left 2;all_goals (first|(rw[←hg1.2.1,zmy (by omega) (by assumption) ((hge s.1).1 (by omega))];rfl)|(rw[←hg1.2.1,zmz (by omega)];rfl))
theorem znG {w:List Data} (hs:Spa w){ta tk:Int} (ht:InS (w.length*4) ⟨ta,tk⟩){l:List Pat}{ok:Bool} (hl:∀a∈l,a.ok∧a.size≤1000000000000) (hb:l.length≤1000000000000):
  FnD Tryz.prog 126 [.d (zaj w),.agg [.d (.i ta),.d (.i tk)],.d (zae l),.d (.bool ok)] [] (.tup [.d (zae (if l.all (isP w ⟨ta,tk⟩)=true then l else [])),.d (.bool (l.all (isP w ⟨ta,tk⟩)&&ok))]) []:=by
 have hbad:∀i,i<l.length→isP w ⟨ta,tk⟩ (nth l i)=false→l.all (isP w ⟨ta,tk⟩)=false:=fun i hi h=>by
  cases hq:l.all (isP w ⟨ta,tk⟩) with
  |false=>rfl
  |true=>have:=List.all_eq_true.1 hq _ (zaf hi);rw[h] at this;cases this
 have hgood:(∀i,i<l.length→isP w ⟨ta,tk⟩ (nth l i)=true)→l.all (isP w ⟨ta,tk⟩)=true:=fun h=>List.all_eq_true.2 fun x hx=>by
  obtain⟨i,hi,rfl⟩:=List.getElem_of_mem hx;have:=h i hi;rwa [za0 hi] at this
 refine bd Tryz.f126 29 [] [] fun w0 F0 own kept hk=>?_;refine bx 3005 ?_;refine ev ?_;refine xaj (ι:=Nat) hk (fun i=>[(10,.d (.i (i:Int)))]) [8,9,11,12,13,14,15,16,17,18,19,20,21,22,23,24,25] (fun i=>[]) (fun i=>i≤l.length∧∀i',i'<i→isP w ⟨ta,tk⟩ (nth l i')=true) (fun i=>l.length-i) 0 ⟨by omega,fun _ h=>absurd h (by omega)⟩ ⟨⟨_,rfl,xap ?_⟩,trivial⟩ trivial (fun x=>rfl) (fun i hg1=>?_);focus (rfl)
 refine evc [] [] ?_;refine sq ?_ ?_<;>intro h1 h1p h1s;try simp only[Q,Pat.cs_len] at h1p
 refine xaV sl45 .none rfl rfl rfl rfl (zaC (by omega)) rfl ?_;refine evd [] [] ?_;refine wc zmj (zfI hs.dp.wt (zb1 ht) (hl _ (zaf (i:=i) (by omega))).1 (hl _ (zaf (by omega))).2) rfl rfl ?_;refine evd [] [] ?_;refine dr ?_;refine sq ?_ ?_<;>intro h2 h2p h2s;try simp only[Q,Pat.cs_len] at h2p
 refine xbi sl45 .none rfl ?_;refine ev ?_;refine rn0 (r2 rfl rfl) (.tup (.cons (.eqd ?_) (.cons (.eqd ?_) .nil)));rotate_left 2;try simp only[Q,Pat.cs_len] at h2p
 refine ar ?_;refine Exists.intro (i+1) ⟨⟨by omega,za6 hg1.2 (by assumption)⟩,(by omega),sx ⟨⟨_,rfl,xap ?_⟩,trivial⟩ trivial⟩;focus (rfl)
 try simp only[Q,Pat.cs_len] at h1p
 refine wc zxh (zpF hb (fun p hp=>(hl p hp).1)) rfl rfl ?_;refine ev ?_;refine rn0 (r2 rfl rfl) (.tup (.cons (.eqd ?_) (.cons (.eqd ?_) .nil)));rotate_left 2;all_goals (first|(rw[hbad i (by omega) (by assumption)];rfl)|(rw[hgood (fun x hx=>hg1.2 x (by omega))];rfl))
theorem zoz {w:List Data} (hsp:Spa w){a k:Int} (hin:InS (w.length*4) ⟨a,k⟩){l:List Cl} (h8:l.length≤8) (hsh:∀c∈l,zar w 10 ⟨a,k⟩ c.pat=true∧c.pat.ok):
  FnD Tryz.prog 73 [.d (zaj w),.agg [.d (.i a),.d (.i k)],.d (zae [anyQ]),.d (zbW l),.d (.i (l.length:Int))] [] (.tup [.d (zae ((zed w ⟨a,k⟩ l).getD [])),.d (.bool (zed w ⟨a,k⟩ l).isSome)]) []:=by
 have hco:=znH (w:=w) (t:=⟨a,k⟩) h8 hsh;cases hq:zbi l [] with
 |none=>
  have e:zed w ⟨a,k⟩ l=none:=by unfold zed;rw[hq]
  rw[hq] at hco;rw[e];refine bd Tryz.f73 42 [] [] fun w0 F0 own kept hk=>?_;refine bx 3006 ?_;refine ev ?_;refine wc zte (hco) rfl rfl ?_;refine ev ?_;refine sq ?_ ?_<;>intro h1 h1p h1s;try simp only[Q] at h1p
  refine xbi sl45 .none rfl ?_;refine ev ?_;refine rn0 (r2 rfl rfl) (.tup (.cons (.eqd ?_) (.cons (.eqd ?_) .nil)));rotate_left 2;try simp only[Q] at h1p
  exfalso;exact absurd h1 (by simp);all_goals (rfl)
 |some away=>
  rw[hq] at hco;obtain⟨p1,p2⟩:=zd6 l [] away (fun c hc=>(hsh c hc).1) (by simp) hq;have hwo:=zkG hsp hin (l:=[anyQ]) (away:=away) zej p2 (by simp) (by simp at p1;omega);have hrl2:((zaI w ⟨a,k⟩ [anyQ] away).getD []).length≤400∧∀x∈(zaI w ⟨a,k⟩ [anyQ] away).getD [],x.ok∧x.size≤1000000000000:=by
   cases hw:zaI w ⟨a,k⟩ [anyQ] away with
   |none=>exact⟨by simp,by simp⟩
   |some r=>
    have:=zd3 away _ r (fun x hx=>zej x (List.mem_filter.1 hx).1) (Nat.le_trans (List.length_filter_le _ _) (by simp)) p2 hw;exact⟨this.1,fun x hx=>⟨(zf2 hsp 11 hin (this.2 x hx)).1,by have:=(zf2 hsp 11 hin (this.2 x hx)).2;have:=zqW (n:=11) (by omega);omega⟩⟩
  have hre:=znG hsp hin (l:=(zaI w ⟨a,k⟩ [anyQ] away).getD []) (ok:=(zaI w ⟨a,k⟩ [anyQ] away).isSome) hrl2.2 (by omega);have hem:(zaI w ⟨a,k⟩ [anyQ] away).isSome=false→(zaI w ⟨a,k⟩ [anyQ] away).getD []=[]:=fun h=>by
   cases hw:zaI w ⟨a,k⟩ [anyQ] away with
   |none=>rfl
   |some r=>rw[hw] at h;cases h
  have e:zed w ⟨a,k⟩ l=if (((zaI w ⟨a,k⟩ [anyQ] away).getD []).all (isP w ⟨a,k⟩)&&(zaI w ⟨a,k⟩ [anyQ] away).isSome)=true then some ((zaI w ⟨a,k⟩ [anyQ] away).getD []) else none:=by
   unfold zed;rw[hq];cases hw:zaI w ⟨a,k⟩ [anyQ] away with
   |none=>simp[hw]
   |some r=>simp[hw]
  rw[e];generalize ((zaI w ⟨a,k⟩ [anyQ] away).getD []).all (isP w ⟨a,k⟩)=q at hre ⊢;generalize (zaI w ⟨a,k⟩ [anyQ] away).isSome=q2 at hre hwo hem ⊢;refine bd Tryz.f73 42 [] [] fun w0 F0 own kept hk=>?_;refine bx 3006 ?_;refine ev ?_;refine wc zte (hco) rfl rfl ?_;refine ev ?_;refine sq ?_ ?_<;>intro h1 h1p h1s;try simp only[Q] at h1p
  exfalso;exact absurd h1 (by simp);try simp only[Q] at h1p
  refine wc ztf (zib hsp.dp) rfl rfl ?_;refine evd [] [] ?_;refine wc zwV (hwo) rfl rfl ?_;refine evd [] [] ?_;refine dr ?_;refine wc zwW (hre) rfl rfl ?_;refine ev ?_;refine rn0 (r2 rfl rfl) (.tup (.cons (.eqd ?_) (.cons (.eqd ?_) .nil)));rotate_left 2;all_goals (first|rfl|(cases q<;>cases q2<;>first|rfl|(rw[hem rfl];rfl)))
theorem zeR {w:List Data} (hs:WSmall w){a k:Int}{l:List Cl} (hl:ClsOk l) (hz:ClsSz l):
  FnD Tryz.prog 27 [.d (zaj w),.agg [.d (.i a),.d (.i k)],.d (zbW l)] [] (.tup [.d (zae ((zce w ⟨a,k⟩ l).getD [])),.d (.bool (zce w ⟨a,k⟩ l).isSome)]) []:=by
 have hcv:=zjo hs (a:=a) (k:=k) hl hz;by_cases hv:zbg w ⟨a,k⟩ l=true
 ·have hm:zce w ⟨a,k⟩ l=zed w ⟨a,k⟩ l:=by unfold zce;rw[if_pos hv]
  rw[hm];have htv:=zix hv;have hsp:=zl9 hs (zcu htv.1).1;have hin:InS (w.length*4) ⟨a,k⟩:=by
   obtain⟨_,_,h3⟩:=zcu htv.1;by_cases ha:a = -1
   ·exact .inl ha
   ·obtain⟨h4,h5,h6,h7⟩:=h3 ha;have:=zqI (n:=w.length) h5 (j:=k.toNat) (by omega);rwa [Int.toNat_of_nonneg h4,Int.toNat_of_nonneg h6] at this
  have hre:=zoz hsp hin htv.2 (zhW hv hl);have e1:zae [anyQ]=D.sl [[D.i 1,D.i 0,D.i 0,D.i 0,D.i 0,D.sl []]]:=rfl;rw[e1] at hre;rw[←xac (f:=Cl.c)] at hre;refine bd Tryz.f27 24 [] [] fun w0 F0 own kept hk=>?_;refine bx 3004 ?_;refine ev ?_;refine wc zvD (hcv) rfl rfl ?_;refine ev ?_;refine sq ?_ ?_<;>intro h1 h1p h1s;try simp only[Q] at h1p
  exfalso;rw[hv] at h1;exact absurd h1 (by simp);try simp only[Q] at h1p
  refine wc zsr (zgR) rfl rfl ?_;refine si [0] [_] sl45 tz56 ?_;refine evd [] [] ?_;refine wc zx4 (hre) rfl rfl ?_;refine evd [] [] ?_;refine dr ?_;refine rn0 (r2 rfl rfl) (.tup (.cons (.eqd ?_) (.cons (.eqd ?_) .nil)));rotate_left 2;all_goals (rfl)
 ·have hv':zbg w ⟨a,k⟩ l=false:=by simpa using hv
  have hm:zce w ⟨a,k⟩ l=none:=by unfold zce;rw[if_neg hv]
  rw[hm];rw[hv'] at hcv;refine bd Tryz.f27 24 [] [] fun w0 F0 own kept hk=>?_;refine bx 3004 ?_;refine ev ?_;refine wc zvD (hcv) rfl rfl ?_;refine ev ?_;refine sq ?_ ?_<;>intro h1 h1p h1s;try simp only[Q] at h1p
  refine xbi sl45 .none rfl ?_;refine ev ?_;refine rn0 (r2 rfl rfl) (.tup (.cons (.eqd ?_) (.cons (.eqd ?_) .nil)));rotate_left 2;try simp only[Q] at h1p
  exfalso;exact absurd h1 (by simp);all_goals (rfl)
end Go.Proofs.YtcnjkjdmbnhcaaaGreat
namespace Go.Proofs.YtcnjkjdmbnhcaaaGreat
open Go
set_option linter.unusedSimpArgs false
set_option linter.unusedVariables false
theorem zt1 (L:List Nat) (hp:Hp) (i:Nat):getH (L.map (fun j=>(j,(none:Option Res)))++hp) i=if i∈L then none else getH hp i:=by
 induction L with
 |nil=>simp
 |cons x r ih=>
  simp only[xae,xag,zal,List.mem_cons];by_cases h:i=x
  ·subst h;simp
  ·simp[h,ih]
section
variable {c:Ctx}
theorem R.drop {G:Gh}{s:St}{a:Act}{w:World} (hr:R c G s a w) (L:List Nat) (hk:∀i l,c.kept i=some l→i∉L):R c G ⟨s.env,L.map (fun j=>(j,none))++s.hp⟩ a w:=by
 have hg:=zt1 L s.hp;have hT:∀i p,tokf (L.map (fun j=>(j,(none:Option Res)))++s.hp) i=some p→tokf s.hp i=some p:=fun i p h=>by
  obtain⟨n,k⟩:=p;have:=zau.1 h;rw[hg] at this;split at this
  ·cases this
  ·exact zau.2 this
 have hm:∀ {x:AV}{v:Value},RelA G (tokf s.hp) w x v→RelA G (tokf (L.map (fun j=>(j,(none:Option Res)))++s.hp)) w x v:=fun hx=>
  hx.mono (fun _ _ ho=>⟨ho,rfl⟩) (fun _ _=> .inl rfl) (fun i _ p hp=>⟨hT i p hp,fun _ _=>⟨rfl,rfl⟩⟩)
 have hs:∀i r,getH (L.map (fun j=>(j,(none:Option Res)))++s.hp) i=some r→getH s.hp i=some r:=fun i r h=>by
  rw[hg] at h;split at h
  ·cases h
  ·exact h
 have hss:∀i,(getH (L.map (fun j=>(j,(none:Option Res)))++s.hp) i).isSome→(getH s.hp i).isSome:=fun i h=>by
  obtain⟨r,hr⟩:=Option.isSome_iff_exists.1 h;rw[hs i r hr];rfl
 refine⟨hr.size,hr.defers,fun i v h=>hm (hr.slots i v h),fun i r h=>?_,fun i j h1 h2=>hr.disj i j (hss i h1) (hss j h2),fun i h=>hr.new i (hss i h),hr.frm,hr.top,fun i l hl=>?_⟩
 ·have hh:=hr.heap i r (hs i r h);cases r with
  |box cs=>
   obtain⟨b,vs,e,h1,h2,h3,h4,h5⟩:=hh;exact⟨b,vs,e,h1,h2,h3,h4,fun j hj hv=>hm (h5 j hj hv)⟩
  |tok m k=>exact hh
  |map ks=>exact hh
  |tree cs=>exact zbm hh rfl (fun _ _=>⟨rfl,rfl⟩) (Nat.le_refl _) (fun _ _ _=>hm)
 ·obtain⟨k1,k2,k3⟩:=hr.kept i l hl;refine⟨k1, ?_, ?_⟩
  ·show(getH (L.map (fun j=>(j,(none:Option Res)))++s.hp) i).isSome
   rw[hg,if_neg (hk i l hl)];exact k2
  ·show tokf (L.map (fun j=>(j,(none:Option Res)))++s.hp) i=none
   cases h:tokf (L.map (fun j=>(j,(none:Option Res)))++s.hp) i with
   |none=>rfl
   |some p=>rw[hT i p h] at k3;cases k3
inductive RowT (hp:Hp):List AV→List D→List (Nat×Nat×Nat)→Prop
 |nil:RowT hp [] [] []
 |sc {x cs ds js} (hs:zk0 x=true) (h:RowT hp cs ds js):RowT hp (.d x::cs) (x::ds) js
 |ni {cs ds js} (h:RowT hp cs ds js):RowT hp (.nils::cs) (.sl []::ds) js
 |gt {j zs n k cs ds js} (hj:getH hp j=some (.tok n k)) (hn:n=zs.length) (h:RowT hp cs ds js):RowT hp (.gt j zs::cs) (.sl zs::ds) ((j,n,k)::js)
theorem RowT.move {hp hp':Hp}{cs:List AV}{ds:List D}{js:List (Nat×Nat×Nat)} (h:RowT hp cs ds js):(∀q,q∈js→getH hp' q.1=some (.tok q.2.1 q.2.2))→RowT hp' cs ds js:=by
 induction h with
 |nil=>intro _;exact .nil
 |sc hs _ ih=>intro h;exact .sc hs (ih h)
 |ni _ ih=>intro h;exact .ni (ih h)
 |gt hj hn _ ih=>intro h;exact .gt (h (_,_,_) List.mem_cons_self) hn (ih fun q hq=>h q (List.mem_cons_of_mem _ hq))
theorem RowT.len {hp:Hp}{cs:List AV}{ds:List D}{js:List (Nat×Nat×Nat)} (h:RowT hp cs ds js):ds.length=cs.length:=by
 induction h with
 |nil=>rfl
 |sc _ _ ih=>simp[ih]
 |ni _ ih=>simp[ih]
 |gt _ _ _ ih=>simp[ih]
end
end Go.Proofs.YtcnjkjdmbnhcaaaGreat
namespace Go.Proofs.YtcnjkjdmbnhcaaaGreat
open Go
set_option linter.unusedSimpArgs false
set_option linter.unusedVariables false
set_option maxRecDepth 100000
set_option maxHeartbeats 2000000
def Cl.szM (c:Cl):Int:=c.pat.szM+3
def Cl.one (k:Int) (c:Cl):Cl:=⟨c.pat.one k,⟨k+1+1+1+1+1+szL Pat.szM c.pat.kids,k+1+1+1+1+1+szL Pat.szM c.pat.kids+1,k+1+1+1+1+1+szL Pat.szM c.pat.kids+1+1⟩⟩
theorem Cl.szM_nn (c:Cl):0≤c.szM:=by have:=Pat.szM_nn c.pat;unfold Cl.szM;omega
theorem Cl.szM_le (c:Cl):c.szM≤8+5*(mCl c:Int):=by have:=Pat.szM_le c.pat;unfold Cl.szM mCl;omega
theorem Cls.szM_le:∀l:List Cl,szL Cl.szM l≤8*(mCls l:Int)
 | []=>by simp[szL,mCls]
 |c::r=>by
  have h1:=Cl.szM_le c;have h2:=Cls.szM_le r;simp only[szL,mCls,xab,xae,List.sum_cons] at *;omega
theorem zqh (l:List Cl):∀x∈l.map Cl.c,x.length=9:=by
 intro x hx;obtain⟨y,_,rfl⟩:=List.mem_map.1 hx;rfl
mutual
def hitP:Pat→Val→Bool
 | .mk op c n m _ ks,v=>if op=3 then zap v.num n m else if op=4 then decide (c=v.ctor)&&hitL ks v.kids else true
def hitL:List Pat→List Val→Bool
 |p::r,v::s=>hitP p v&&hitL r s
 |_,_=>true
end
theorem zn5 (p:Pat) (v:Val):hitP p v=if p.op=3 then zap v.num p.n p.m else if p.op=4 then decide (p.ctor=v.ctor)&&hitL p.kids v.kids else true:=by
 cases p;unfold hitP;rfl
theorem zgY {p:Pat}{v:Val} (h:p.op=1):hitP p v=true:=by rw[zn5,if_neg (by omega),if_neg (by omega)]
theorem zja {p:Pat}{v:Val} (h:p.op=3):hitP p v=zap v.num p.n p.m:=by rw[zn5,if_pos h]
theorem zdy {p:Pat}{v:Val} (h:p.op=4):hitP p v=(decide (p.ctor=v.ctor)&&hitL p.kids v.kids):=by rw[zn5,if_neg (by omega),if_pos h]
theorem zlF:∀ {l:List Pat}{s:List Val},l.length=s.length→(hitL l s=true↔∀i,i<l.length→hitP (nth l i) (nth s i)=true)
 | [],[],_=>by simp[hitL]
 |p::r,v::s,h=>by
  have ih:=zlF (l:=r) (s:=s) (by simpa using h);simp only[hitL,xad,ih];constructor
  ·rintro ⟨h1,h2⟩ i hi
   cases i with
   |zero=>exact h1
   |succ i=>exact h2 i (by simpa using hi)
  ·intro h1;exact⟨h1 0 (by simp),fun i hi=>h1 (i+1) (by simpa using hi)⟩
 | [],_::_,h=>by simp at h
 |_::_,[],h=>by simp at h
theorem zqB {α:Type}:∀(l:List α) (s:List Val),hitL (l.map fun _=>anyQ) s=true
 | [],_=>by simp[hitL]
 |_::_,[]=>by simp[hitL]
 |_::r,v::s=>by simp only[xae,hitL,zqB r s,Bool.and_true];exact zgY rfl
theorem zgu:∀(l:List Pat) (s:List Val) (p:Pat) (v:Val),l.length=s.length→hitL (l++[p]) (s++[v])=(hitL l s&&hitP p v)
 | [],[],p,v,_=>by simp[hitL]
 |q::r,x::s,p,v,h=>by
  simp only[xag,hitL,zgu r s p v (by simpa using h),Bool.and_assoc]
 | [],_::_,_,_,h=>by simp at h
 |_::_,[],_,_,h=>by simp at h
theorem zqC:∀(l:List Pat) (s:List Val) (r:List Pat) (q:List Val),l.length=s.length→hitL (l++r) (s++q)=(hitL l s&&hitL r q)
 | [],[],r,q,_=>by simp[hitL]
 |p::l,x::s,r,q,h=>by
  simp only[xag,hitL,zqC l s r q (by simpa using h),Bool.and_assoc]
 | [],_::_,_,_,h=>by simp at h
 |_::_,[],_,_,h=>by simp at h
theorem zuU {w:List Data}{m:Nat}{t:Ty}{v:Val} (h:zaS w m t v=true) (ht:t.data = -1):0≤v.num∧v.num≤9:=by
 cases m with
 |zero=>simp[zaS] at h
 |succ m=>
  unfold zaS at h;rw[if_pos ht] at h;simp only[xad,decide_eq_true_eq] at h;omega
theorem zqY:∀(ls:List (List Pat)) (vs:List Val) (out:List (List Pat)) (v0:List Val),ls.length=vs.length→(∀q∈out,q.length=v0.length)→
  ((∃l∈ls.foldl zbb out,hitL l (v0++vs)=true)↔(∃q∈out,hitL q v0=true)∧∀i,i<ls.length→∃x∈nth ls i,hitP x (nth vs i)=true)
 | [],[],out,v0,_,_=>by simp
 |l::r,v::s,out,v0,h,ho=>by
  have ih:=zqY r s (zbb out l) (v0++[v]) (by simpa using h) (fun q hq=>by
   unfold zbb at hq;obtain⟨q0,h1,h2⟩:=List.mem_flatMap.1 hq;obtain⟨c,h3,rfl⟩:=List.mem_map.1 h2;simp[ho q0 h1])
  rw[List.append_assoc] at ih;rw[List.foldl_cons,show v0++v::s=v0++([v]++s) from rfl,ih];constructor
  ·rintro ⟨⟨q,hq,hh⟩,h2⟩
   unfold zbb at hq;obtain⟨q0,h3,h4⟩:=List.mem_flatMap.1 hq;obtain⟨c,h5,rfl⟩:=List.mem_map.1 h4;rw[zgu q0 v0 c v (ho q0 h3),xad] at hh;refine⟨⟨q0,h3,hh.1⟩,fun i hi=>?_⟩;cases i with
   |zero=>exact⟨c,h5,hh.2⟩
   |succ i=>exact h2 i (by simpa using hi)
  ·rintro ⟨⟨q,hq,hh⟩,h2⟩
   obtain⟨c,h5,h6⟩:=h2 0 (by simp);refine⟨⟨q++[c], ?_, ?_⟩,fun i hi=>h2 (i+1) (by simpa using hi)⟩
   ·unfold zbb;exact List.mem_flatMap.2 ⟨q,hq,List.mem_map.2 ⟨c,h5,rfl⟩⟩
   ·rw[zgu q v0 c v (ho q hq),hh];exact h6
 | [],_::_,_,_,h,_=>by simp at h
 |_::_,[],_,_,h,_=>by simp at h
theorem zjh {f:Pat→Val→List Bd×Bool}:∀ {a:List Pat}{b:List Val}{acc:List Bd},a.length=b.length→((zbo f a b acc).2=true↔∀i,i<a.length→(f (nth a i) (nth b i)).2=true)
 | [],[],acc,_=>by simp[zbo]
 |p::r,v::s,acc,h=>by
  unfold zbo;by_cases hp:(f p v).2=true
  ·rw[if_pos hp,zjh (a:=r) (b:=s) (by simpa using h)];constructor
   ·intro h1 i hi;cases i with
    |zero=>exact hp
    |succ i=>exact h1 i (by simpa using hi)
   ·intro h1 i hi;exact h1 (i+1) (by simpa using hi)
  ·rw[if_neg hp];constructor
   ·intro h1;cases h1
   ·intro h1;exact absurd (h1 0 (by simp)) hp
 | [],_::_,_,h=>by simp at h
 |_::_,[],_,h=>by simp at h
theorem znJ {p:Pat} (h5:p.op≠5) (hk:p.kids=[]):zaB p=[p]:=by
 rw[zdX h5,hk];cases p
 simp only[zcr] at hk;subst hk;simp[zeM,zee,zf1,mk_n,mk_m,ziI]
theorem zeV {w:List Data}:∀(n m:Nat){t:Ty}{p:Pat}{v:Val},zar w n t p=true→zaS w m t v=true→((zaw n p v).2=true↔∃x∈zaB (zaF p),hitP x v=true)
 |0,m,t,p,v,h,_=>by simp[zar] at h
 |n+1,0,t,p,v,_,h=>by simp[zaS] at h
 |n+1,m+1,t,p,v,h,hv=>by
  rcases zf4 h with h1|h2|h3|h4|h5|h6
  ·have hk:=zjn h (by omega) (by omega) (by omega);rw[zfW h1,zc1,if_neg (by omega),if_neg (by omega),znJ (by rw[zee];omega) (by rw[zcr,hk];rfl)];simp only[List.mem_singleton,exists_eq_left,true_iff];exact zgY h1
  ·rw[zhl h2,zc1,if_pos h2,zmd];simp only[List.mem_singleton,exists_eq_left,true_iff];exact zgY rfl
  ·have hk:=zjn h (by omega) (by omega) (by omega);rw[zfe h3,zc1,if_neg (by omega),if_neg (by omega),znJ (by rw[zee];omega) (by rw[zcr,hk];rfl)];simp only[List.mem_singleton,exists_eq_left];rw[zja (p:= .mk p.op p.ctor p.n p.m p.var (p.kids.map zaF)) h3];exact Iff.rfl
  ·have hs:=h;unfold zar at hs;rw[xad,zbc h4] at hs;have hl:=zgb hs.2;rw[zc1,if_neg (by omega),if_neg (by omega),zdX (by rw[zee];omega)];have hd:t.data≠ -1:=fun e=>by
    have:=zb2 hs.1 h4;unfold zam at this;rw[if_pos e] at this;simp at this
   obtain⟨f1,f2,f3⟩:=zdK hv hd;by_cases hc:p.ctor=v.ctor
   ·rw[zhm h4 hc];rw[hc] at hl hs;have hlen:p.kids.length=v.kids.length:=by omega
    rw[zjh hlen];have hp:=zqY ((p.kids.map zaF).map zaB) v.kids [[]] [] (by simp[hlen]) (by simp);simp only[List.nil_append,List.mem_singleton,exists_eq_left,hitL,true_and,xac] at hp;have hih:∀i,i<p.kids.length→((zaw n (nth p.kids i) (nth v.kids i)).2=true↔∃x∈nth ((p.kids.map zaF).map zaB) i,hitP x (nth v.kids i)=true):=fun i hi=>by
     rw[zeV n m (zfQ hl hs.2 i (by omega)) (f3 i (by omega))];have e:nth ((p.kids.map zaF).map zaB) i=zaB (zaF (nth p.kids i)):=by
      rw[za0 (by simpa using hi),za0 hi];simp
     rw[e]
    constructor
    ·intro h1;obtain⟨l,hl2,hh⟩:=hp.2 (fun i hi=>(hih i hi).1 (h1 i hi));refine⟨_,List.mem_map.2 ⟨l,hl2,rfl⟩, ?_⟩;rw[zdy (by rw[zee];exact h4)];simp only[zf1,zcr,hc,hh,decide_true,Bool.and_self]
    ·rintro ⟨x,hx,hh⟩ i hi
     obtain⟨l,hl2,rfl⟩:=List.mem_map.1 hx;rw[zdy (by rw[zee];exact h4),xad] at hh;exact(hih i hi).2 (hp.1 ⟨l,hl2,hh.2⟩ i hi)
   ·rw[zfX h4 hc];constructor
    ·intro h1;cases h1
    ·rintro ⟨x,hx,hh⟩
     obtain⟨l,hl2,rfl⟩:=List.mem_map.1 hx;rw[zdy (by rw[zee];exact h4),xad] at hh;exact absurd (of_decide_eq_true hh.1) hc
  ·obtain⟨l2,s0,s1⟩:=zgB h h5;have ee:p.kids.map zaF=[zaF (nth p.kids 0),zaF (nth p.kids 1)]:=by
    match hk:p.kids,l2 with
    | [a,b],_=>rfl
   rw[zc1,if_neg (by omega),if_neg (by omega),zga (by rw[zee];exact h5) (by rw[zcr];simpa using l2),zcr,ee];have i0:=zeV n (m+1) s0 hv;have i1:=zeV n (m+1) s1 hv;have e0:nth [zaF (nth p.kids 0),zaF (nth p.kids 1)] 0=zaF (nth p.kids 0):=rfl;have e1:nth [zaF (nth p.kids 0),zaF (nth p.kids 1)] 1=zaF (nth p.kids 1):=rfl;rw[e0,e1];by_cases hm:(zaw n (nth p.kids 0) v).2=true
   ·rw[zhE h5 hm];obtain⟨x,hx,hh⟩:=i0.1 hm;simp only[true_iff];exact⟨x,List.mem_append_left _ hx,hh⟩
   ·rw[zhF h5 (by simpa using hm),i1];constructor
    ·rintro ⟨x,hx,hh⟩
     exact⟨x,List.mem_append_right _ hx,hh⟩
    ·rintro ⟨x,hx,hh⟩
     rcases List.mem_append.1 hx with hx|hx
     ·exact absurd (i0.2 ⟨x,hx,hh⟩) hm
     ·exact⟨x,hx,hh⟩
  ·obtain⟨l1,s0⟩:=zgA h h6;rw[zfY h6,zc1,if_neg (by omega),if_pos ⟨h6,fun e=>by rw[e] at l1;simp at l1⟩];exact zeV n (m+1) s0 hv
theorem zo2 {w:List Data}:∀(n k m:Nat){t:Ty}{p:Pat}{v:Val},zar w n t p=true→zai w k t p=true→zaS w m t v=true→(zaw n p v).2=hitP p v
 |0,k,m,t,p,v,h,_,_=>by simp[zar] at h
 |n+1,0,m,t,p,v,_,h,_=>by simp[zai] at h
 |n+1,k+1,0,t,p,v,_,_,h=>by simp[zaS] at h
 |n+1,k+1,m+1,t,p,v,h,hp,hv=>by
  rcases zbw hp with h1|h3|h4
  ·rw[zfW h1,zgY h1]
  ·rw[zfe h3,zja h3]
  ·have hs:=h;unfold zar at hs;rw[xad,zbc h4] at hs;have hl:=zgb hs.2;obtain⟨m1,m2,m3,m4⟩:=zaN hp h4;obtain⟨f1,f2,f3⟩:=zdK hv m2;rw[zdy h4];by_cases hc:p.ctor=v.ctor
   ·rw[zhm h4 hc,decide_eq_true hc,Bool.true_and,Bool.eq_iff_iff];rw[hc] at hl hs m3;rw[zjh (by omega),zlF (by omega)];have hk:∀i,i<p.kids.length→(zaw n (nth p.kids i) (nth v.kids i)).2=hitP (nth p.kids i) (nth v.kids i):=fun i hi=>by
     have hpk:=za4 hp hi;rw[zbc h4,hc] at hpk;exact zo2 n k m (zfQ hl hs.2 i (by omega)) hpk (f3 i (by omega))
    constructor
    ·intro h1 i hi;rw[←hk i hi];exact h1 i hi
    ·intro h1 i hi;rw[hk i hi];exact h1 i hi
   ·rw[zfX h4 hc,decide_eq_false hc,Bool.false_and]
theorem zo3 {f:Pat→Pat→Option Pat}:∀ {a b:List Pat}{acc:List Pat}{s q:List Val},a.length=b.length→a.length=s.length→acc.length=q.length→
  (∀i,i<a.length→match f (nth a i) (nth b i) with
   |none=>(hitP (nth a i) (nth s i)&&hitP (nth b i) (nth s i))=false
   |some x=>hitP x (nth s i)=(hitP (nth a i) (nth s i)&&hitP (nth b i) (nth s i)))→
  match zbS f a b acc with
   |none=>(hitL a s&&hitL b s)=false
   |some l=>hitL l (q++s)=(hitL acc q&&(hitL a s&&hitL b s))
 | [],[],acc,[],q,_,_,ha,_=>by simp[zbS,hitL]
 |p::r,p2::r2,acc,v::s,q,h1,h2,ha,hf=>by
  have h0:=hf 0 (by simp);have e1:nth (p::r) 0=p:=rfl;have e2:nth (p2::r2) 0=p2:=rfl;have e3:nth (v::s) 0=v:=rfl;rw[e1,e2,e3] at h0;unfold zbS;cases hx:f p p2 with
  |none=>
   rw[hx] at h0;simp only[hitL];dsimp only at h0;cases ha1:hitP p v<;>cases hb1:hitP p2 v<;>simp_all
  |some x=>
   rw[hx] at h0;dsimp only at h0 ⊢;have ih:=zo3 (f:=f) (a:=r) (b:=r2) (acc:=acc++[x]) (s:=s) (q:=q++[v]) (by simpa using h1) (by simpa using h2) (by simp[ha]) (fun i hi=>hf (i+1) (by simpa using hi));cases hm:zbS f r r2 (acc++[x]) with
   |none=>
    rw[hm] at ih;dsimp only at ih ⊢;simp only[hitL];cases ha1:hitP p v<;>cases hb1:hitP p2 v<;>simp_all
   |some l=>
    rw[hm] at ih;dsimp only at ih ⊢;rw[show q++v::s=q++[v]++s by simp,ih,zgu acc q x v ha,h0];simp only[hitL];cases hitL acc q<;>cases hitP p v<;>cases hitP p2 v<;>cases hitL r s<;>cases hitL r2 s<;>rfl
 | [],_::_,_,_,_,h,_,_,_=>by simp at h
 |_::_,[],_,_,_,h,_,_,_=>by simp at h
 | [],[],_,_::_,_,_,h,_,_=>by simp at h
 |_::_,_::_,_,[],_,_,h,_,_=>by simp at h
theorem zrI {x a b c d:Int}:zap x (maxQ a c) (minQ b d)=(zap x a b&&zap x c d):=by
 unfold zap maxQ minQ;rw[Bool.eq_iff_iff];simp only[xad,decide_eq_true_eq];split<;>split<;>omega
theorem zqL {w:List Data}:∀(k m:Nat){t:Ty}{a b:Pat}{v:Val},zai w k t a=true→zai w k t b=true→zaS w m t v=true→∀n,k≤n→match zaM n a b with
  |none=>(hitP a v&&hitP b v)=false
  |some x=>hitP x v=(hitP a v&&hitP b v)
 |0,m,t,a,b,v,ha,_,_,_,_=>by simp[zai] at ha
 |k+1,0,t,a,b,v,_,_,hv,_,_=>by simp[zaS] at hv
 |k+1,m+1,t,a,b,v,_,_,_,0,h=>by omega
 |k+1,m+1,t,a,b,v,ha,hb,hv,n+1,hn=>by
  by_cases h1:a.op=1
  ·rw[zke h1];dsimp only;rw[zgY h1,Bool.true_and]
  by_cases h2:b.op=1
  ·rw[zkf h1 h2];dsimp only;rw[zgY h2,Bool.and_true]
  have hs:=zdh ha hb h1 h2;have oa:=zbw ha;by_cases h3:a.op=3
  ·rw[zkg h3 h2,zja h3,zja (p:=b) (by omega),←zrI];split
   ·rename_i x hx;split at hx
    ·cases hx
    ·unfold zap;simp only[Bool.and_eq_false_iff,decide_eq_false_iff_not];omega
   ·rename_i x hx;split at hx
    ·cases hx;rfl
    ·cases hx
  have h4:a.op=4:=by omega
  have hb4:b.op=4:=by omega
  rw[zdy h4,zdy hb4];obtain⟨m1,m2,m3,m4⟩:=zaN ha h4;obtain⟨n1,n2,n3,n4⟩:=zaN hb hb4;obtain⟨f1,f2,f3⟩:=zdK hv m2;by_cases hc:a.ctor=b.ctor
  ·rw[zkh h4 h2 hc];rw[←hc] at n3 ⊢;by_cases hcv:a.ctor=v.ctor
   ·rw[decide_eq_true hcv];have hl:=zo3 (f:=zaM n) (a:=a.kids) (b:=b.kids) (acc:=[]) (s:=v.kids) (q:=[]) (by omega) (by rw[hcv] at m3;omega) rfl (fun i hi=>by
     have ka:=za4 ha (i:=i) hi;have kb:=za4 hb (i:=i) (by omega);rw[zbc h4,hcv] at ka;rw[zbc hb4,←hc,hcv] at kb;exact zqL k m ka kb (f3 i (by rw[hcv] at m3;omega)) n (by omega))
    cases hx:zbS (zaM n) a.kids b.kids [] with
    |none=>
     rw[hx] at hl;dsimp only[Option.map_none] at hl ⊢;rw[Bool.true_and,Bool.true_and];exact hl
    |some l=>
     rw[hx] at hl;dsimp only[Option.map_some] at hl ⊢;rw[zdy (by rfl)];show(decide (a.ctor=v.ctor)&&hitL l v.kids)=_
     rw[decide_eq_true hcv];simpa [hitL] using hl
   ·rw[decide_eq_false hcv];cases hx:zbS (zaM n) a.kids b.kids [] with
    |none=>rfl
    |some l=>
     dsimp only[Option.map_some];rw[zdy (by rfl)];show(decide (a.ctor=v.ctor)&&hitL l v.kids)=_
     rw[decide_eq_false hcv];rfl
  ·rw[ziG h4 h2 hc];dsimp only;by_cases hcv:a.ctor=v.ctor
   ·rw[decide_eq_false (p:=b.ctor=v.ctor) (by omega)];simp
   ·rw[decide_eq_false hcv];simp
def one (b:Bool):Nat:=if b=true then 1 else 0
theorem zoH {a b:Int}{v:Val}:(zbP a b).countP (fun x=>hitP x v)=one (zap v.num a b):=by
 unfold zbP one;split
 ·rw[List.countP_singleton,zja rfl];rfl
 ·rename_i h;have:zap v.num a b=false:=by unfold zap;simp only[Bool.and_eq_false_iff,decide_eq_false_iff_not];omega
  rw[this];rfl
theorem ztM {c:Int}{pre:List Pat}{s:List Pat}{v0:Val}{vf vs:List Val}{v:Val} (hv:v.kids=vf++v0::vs) (hl:pre.length=vf.length) (l:List Pat):
  (l.map (fun z=>zby c (pre++[z]++s))).countP (fun x=>hitP x v)=one (decide (c=v.ctor)&&(hitL pre vf&&hitL s vs))*l.countP (fun z=>hitP z v0):=by
 rw[List.countP_map];have hz:∀z,hitP (zby c (pre++[z]++s)) v=((decide (c=v.ctor)&&(hitL pre vf&&hitL s vs))&&hitP z v0):=fun z=>by
  rw[zdy rfl];show(decide (c=v.ctor)&&hitL (pre++[z]++s) v.kids)=_
  rw[hv,show vf++v0::vs=vf++([v0]++vs) by simp,List.append_assoc,zqC pre vf _ _ hl];show(decide (c=v.ctor)&&(hitL pre vf&&(hitP z v0&&hitL s vs)))=_
  cases decide (c=v.ctor)<;>cases hitL pre vf<;>cases hitP z v0<;>cases hitL s vs<;>rfl
 cases hb:(decide (c=v.ctor)&&(hitL pre vf&&hitL s vs)) with
 |true=>
  rw[show one true=1 from rfl,Nat.one_mul];congr 1
  funext z
  show hitP (zby c (pre++[z]++s)) v=_
  rw[hz,hb,Bool.true_and]
 |false=>
  rw[show one false=0 from rfl,Nat.zero_mul];rw[List.countP_eq_zero];intro z _;show ¬hitP (zby c (pre++[z]++s)) v=true
  rw[hz,hb];simp
theorem zu1:∀d f x y s b:Bool,one (d&&(f&&s))*one (x&& !y)+one (d&&((f&&(x&&y))&&(s&& !b)))=one (d&&(f&&((x&&s)&& !(y&&b)))):=by decide
theorem zu0:∀d f x y s b:Bool,(x&&y)=false→one (d&&(f&&s))*one (x&& !y)+0=one (d&&(f&&((x&&s)&& !(y&&b)))):=by decide
theorem zt9 {x la ha bn bm:Int} (h:bn≤bm):one (zap x la (minQ ha (bn-1)))+one (zap x (maxQ la (bm+1)) ha)=one (zap x la ha&& !zap x bn bm):=by
 have e1:zap x la (minQ ha (bn-1))=(zap x la ha&&decide (x<bn)):=by
  unfold zap minQ;rw[Bool.eq_iff_iff];simp only[xad,decide_eq_true_eq];split<;>omega
 have e2:zap x (maxQ la (bm+1)) ha=(zap x la ha&&decide (bm<x)):=by
  unfold zap maxQ;rw[Bool.eq_iff_iff];simp only[xad,decide_eq_true_eq];split<;>omega
 have e3:zap x bn bm=(!decide (x<bn)&& !decide (bm<x)):=by
  unfold zap;rw[Bool.eq_iff_iff];simp only[xad,Bool.not_eq_true',decide_eq_true_eq,decide_eq_false_iff_not];omega
 have key:∀q u v:Bool,(u&&v)=false→one (q&&u)+one (q&&v)=one (q&& !(!u&& !v)):=by decide
 rw[e1,e2,e3];refine key _ _ _ ?_;rw[Bool.and_eq_false_iff,decide_eq_false_iff_not,decide_eq_false_iff_not];omega
theorem zm2 {w:List Data}{f:Ty→Pat→Pat→List Pat}{m:Nat}{c:Int}{v:Val}:
  ∀ {us:List Ty}{xs bs front:List Pat}{vf vs:List Val},v.kids=vf++vs→front.length=vf.length→us.length=xs.length→bs.length=xs.length→vs.length=xs.length→
   (∀j,j<xs.length→zai w 11 (nth us j) (nth xs j)=true∧zai w 11 (nth us j) (nth bs j)=true∧zaS w m (nth us j) (nth vs j)=true∧(f (nth us j) (nth xs j) (nth bs j)).countP (fun x=>hitP x (nth vs j))=one (hitP (nth xs j) (nth vs j)&& !hitP (nth bs j) (nth vs j)))→
   (zaQ f c us xs bs front).countP (fun x=>hitP x v)=one (decide (c=v.ctor)&&(hitL front vf&&(hitL xs vs&& !hitL bs vs)))
 | [],[],[],front,vf,[],_,_,_,_,_,_=>by
  simp only[zaQ,List.countP_nil,hitL];cases decide (c=v.ctor)<;>cases hitL front vf<;>rfl
 |u::us,x::xs,y::bs,front,vf,v0::vs,hv,hfl,h1,h2,h3,hf=>by
  have h0:=hf 0 (by simp);have e0:nth (u::us) 0=u:=rfl;have e1:nth (x::xs) 0=x:=rfl;have e2:nth (y::bs) 0=y:=rfl;have e3:nth (v0::vs) 0=v0:=rfl;rw[e0,e1,e2,e3] at h0;unfold zaQ;rw[List.countP_append,ztM hv hfl,h0.2.2.2];have hm:=zqL 11 m h0.1 h0.2.1 h0.2.2.1 11 (Nat.le_refl _);cases hq:zaM 11 x y with
  |none=>
   rw[hq] at hm;dsimp only at hm ⊢;simp only[List.countP_nil,hitL];exact zu0 _ _ _ _ _ _ hm
  |some both=>
   rw[hq] at hm;dsimp only at hm ⊢;have ih:=zm2 (w:=w) (f:=f) (m:=m) (c:=c) (v:=v) (us:=us) (xs:=xs) (bs:=bs) (front:=front++[both]) (vf:=vf++[v0]) (vs:=vs) (by rw[hv];simp) (by simp[hfl]) (by simpa using h1) (by simpa using h2) (by simpa using h3) (fun j hj=>hf (j+1) (by simpa using hj));rw[ih,zgu front vf both v0 hfl,hm];simp only[hitL];exact zu1 _ _ _ _ _ _
 | [],_::_,_,_,_,_,_,_,h,_,_,_=>by simp at h
 |_::_,[],_,_,_,_,_,_,h,_,_,_=>by simp at h
 |_,[],_::_,_,_,_,_,_,_,h,_,_=>by simp at h
 |_,_::_,[],_,_,_,_,_,_,h,_,_=>by simp at h
 |_,[],_,_,_,_::_,_,_,_,_,h,_=>by simp at h
 |_,_::_,_,_,_,[],_,_,_,_,h,_=>by simp at h
theorem zlq {f:Ty→Pat→Pat→List Pat}{c:Int}{x:Pat}:∀ {us:List Ty}{xs bs front:List Pat},x∈zaQ f c us xs bs front→∃l,x=zby c l
 |u::us,a::xs,y::bs,front,h=>by
  unfold zaQ at h;rcases List.mem_append.1 h with h|h
  ·obtain⟨z,_,rfl⟩:=List.mem_map.1 h;exact⟨_,rfl⟩
  ·cases hq:zaM 11 a y with
   |none=>rw[hq] at h;simp at h
   |some b=>rw[hq] at h;exact zlq h
 | [],_,_,_,h=>by simp[zaQ] at h
 |_::_,[],_,_,h=>by simp[zaQ] at h
 |_::_,_::_,[],_,h=>by simp[zaQ] at h
theorem zoG {c0:Int}{g:Int→List Pat}{v:Val}{k:Nat}:∀ {l:List Int},l.Nodup→c0∈l→(∀c∈l,c≠c0→(g c).countP (fun x=>hitP x v)=0)→(g c0).countP (fun x=>hitP x v)=k→(l.flatMap g).countP (fun x=>hitP x v)=k
 | [],_,h,_,_=>by simp at h
 |a::r,hn,hm,hz,hk=>by
  rw[List.flatMap_cons,List.countP_append];have hn':=List.nodup_cons.1 hn;by_cases ha:a=c0
  ·subst ha;have h0:(r.flatMap g).countP (fun x=>hitP x v)=0:=by
    rw[List.countP_eq_zero];intro x hx;obtain⟨c,hc,hx⟩:=List.mem_flatMap.1 hx;have:=hz c (by simp[hc]) (fun e=>hn'.1 (e ▸ hc));rw[List.countP_eq_zero] at this;exact this x hx
   omega
  ·have h1:=hz a (by simp) ha;have h2:=zoG (g:=g) (v:=v) (k:=k) hn'.2 (by simpa [Ne.symm ha] using hm) (fun c hc=>hz c (by simp[hc])) hk;omega
section
variable {w:List Data} (hs:Spa w)
include hs
theorem zo6:∀(n m k:Nat){t:Ty}{a b:Pat}{v:Val},n<m→m≤12→InS (w.length*4) t→zai w m t a=true→zai w n t b=true→zaS w k t v=true→(zat w n t a b).countP (fun x=>hitP x v)=one (hitP a v&& !hitP b v)
 |0,m,k,t,a,b,v,_,_,_,_,hb,_=>by simp[zai] at hb
 |n+1,0,k,t,a,b,v,hn,_,_,_,_,_=>by omega
 |n+1,m+1,0,t,a,b,v,_,_,_,_,_,hv=>by simp[zaS] at hv
 |n+1,m+1,k+1,t,a,b,v,hn,h12,ht,ha,hb,hv=>by
  have hcc:∀a,zai w (m+1) t a=true→a.op=4→b.op=4→(zcN (zat w n) w t a b).countP (fun x=>hitP x v)=one (hitP a v&& !hitP b v):=fun a ha h4 h4b=>by
   obtain⟨m1,m2,m3,m4⟩:=zaN ha h4;obtain⟨n1,n2,n3,n4⟩:=zaN hb h4b;obtain⟨f1,f2,f3⟩:=zdK hv m2;rw[zdy h4,zdy h4b];unfold zcN;split
   ·rename_i hc;by_cases hcv:a.ctor=v.ctor
    ·have:=zm2 (w:=w) (f:=zat w n) (m:=k) (c:=a.ctor) (v:=v) (us:=zab w t a.ctor) (xs:=a.kids) (bs:=b.kids) (front:=[]) (vf:=[]) (vs:=v.kids) rfl rfl m3.symm (by rw[←hc] at n3;omega) (by rw[hcv] at m3;omega) (fun j hj=>by
      have ka:=za4 ha (i:=j) hj;have kb:=za4 hb (i:=j) (by rw[←hc] at n3;omega);rw[zbc h4] at ka;rw[zbc h4b,←hc] at kb;have kv:=f3 j (by rw[hcv] at m3;omega);rw[←hcv] at kv;exact⟨zhp (by omega) ka,zhp (by omega) kb,kv,zo6 n m k (by omega) (by omega) (zbx hs.dp ht m1 _ (zaf (by omega))) ka kb kv⟩)
     rw[this,←hc];simp only[hitL,one];cases decide (a.ctor=v.ctor)<;>cases hitL a.kids v.kids<;>cases hitL b.kids v.kids<;>rfl
    ·have hz:(zaQ (zat w n) a.ctor (zab w t a.ctor) a.kids b.kids []).countP (fun x=>hitP x v)=0:=by
      rw[List.countP_eq_zero];intro x hx;obtain⟨l,rfl⟩:=zlq hx;rw[zdy rfl];show ¬(decide (a.ctor=v.ctor)&&hitL l v.kids)=true
      rw[decide_eq_false hcv];simp
     rw[hz,decide_eq_false hcv];rfl
   ·rename_i hc;rw[List.countP_singleton,zdy h4];by_cases hcv:a.ctor=v.ctor
    ·rw[decide_eq_false (p:=b.ctor=v.ctor) (by omega)];simp only[Bool.false_and,Bool.not_false,Bool.and_true,one]
    ·rw[decide_eq_false hcv];rfl
  rcases zbw hb with h1|h3|h4
  ·rw[zhn h1,zgY h1];simp[one]
  ·have hd:=(zb3 hb h3).1;have hl:=zlP ha hd;have ib:=zb3 hb h3;have fn:=zuU hv hd;rw[ziH h3,zew,List.countP_append,zoH,zoH,zja h3];have hav:hitP a v=zap v.num (lowQ a) (zcQ a):=by
    unfold lowQ zcQ;rcases zbw ha with h|h|h
    ·rw[zgY h,if_pos h,if_pos h];unfold zap;rw[decide_eq_true (p:=0≤v.num) (by omega),decide_eq_true (p:=v.num≤9) (by omega)];rfl
    ·rw[zja h,if_neg (by omega),if_neg (by omega)]
    ·exact absurd hd (zaN ha h).2.1
   rw[hav];exact zt9 ib.2.2.1
  ·by_cases ha1:a.op=1
   ·rw[zho h4 ha1,zgY ha1,Bool.true_and];have hdt:=(zaN hb h4).2.1;obtain⟨f1,f2,f3⟩:=zdK hv hdt;obtain⟨q,rfl⟩:∃q,m=q+1:=⟨m-1,by omega⟩;refine zoG (c0:=v.ctor) (hs.ctors t ht).2 f1 (fun c hc hne=>?_) ?_
    ·rw[hcc _ (zcY hc) rfl h4,zdy rfl];show one ((decide (c=v.ctor)&&_)&&_)=0
     rw[decide_eq_false hne];rfl
    ·rw[hcc _ (zcY f1) rfl h4,zdy (p:=zbZ w t v.ctor) rfl];show one ((decide (v.ctor=v.ctor)&&hitL ((zab w t v.ctor).map fun _=>anyQ) v.kids)&& !hitP b v)=_
     rw[zqB,decide_eq_true rfl];rfl
   ·have ha4:a.op=4:=by have:=zdh ha hb ha1 (by omega);omega
    rw[zd7 h4 ha4];exact hcc a ha ha4 h4
theorem zoW:∀(n m:Nat){t:Ty}{p:Pat}{v:Val},InS (w.length*4) t→zai w n t p=true→zaS w m t v=true→hitP p v=true→zaZ w (zak w) n t p=false
 |0,m,t,p,v,_,h,_,_=>by simp[zai] at h
 |n+1,0,t,p,v,_,_,h,_=>by simp[zaS] at h
 |n+1,m+1,t,p,v,ht,hp,hv,hh=>by
  rcases zbw hp with h1|h3|h4
  ·rw[zhi h1];have:=zwg hs.dp ht hv;exact decide_eq_false (by omega)
  ·exact zkU hp h3
  ·cases he:zaZ w (zak w) (n+1) t p with
   |false=>rfl
   |true=>
    exfalso;obtain⟨i,hi,hd⟩:=zlA hp h4 he;obtain⟨m1,m2,m3,m4⟩:=zaN hp h4;obtain⟨f1,f2,f3⟩:=zdK hv m2;rw[zdy h4,xad] at hh;have hc:=of_decide_eq_true hh.1;rw[hc] at m3;have hk:=(zlF (by omega)).1 hh.2 i hi;have hpk:=za4 hp hi;rw[zbc h4] at hpk;have:=zoW n m (zbx hs.dp ht m1 _ (zaf (by rw[hc];omega))) hpk (by rw[hc];exact f3 i (by omega)) hk;rw[this] at hd;cases hd
theorem zmw {t:Ty}{v:Val}{m:Nat} (ht:InS (w.length*4) t) (hv:zaS w m t v=true){l:List Pat} (hl:∀a∈l,zai w 11 t a=true):(l.filter (zbt w t)).countP (fun x=>hitP x v)=l.countP (fun x=>hitP x v):=by
 rw[List.countP_filter];refine List.countP_congr (fun x hx=>?_);simp only[xad];constructor
 ·exact fun h=>h.1
 ·intro h;refine⟨h, ?_⟩;unfold zbt;rw[zoW hs 11 m ht (hl x hx) hv h];rfl
theorem zu9 {t:Ty}{v:Val}{m:Nat} (ht:InS (w.length*4) t) (hv:zaS w m t v=true){b:Pat} (hb:zai w 10 t b=true){l:List Pat} (hl:∀a∈l,zai w 11 t a=true):
  (zbT w t l b).countP (fun x=>hitP x v)=if hitP b v=true then 0 else l.countP (fun x=>hitP x v):=by
 unfold zbT;rw[zmw hs ht hv (fun x hx=>by
  obtain⟨a,ha,hx⟩:=List.mem_flatMap.1 hx;exact zfA 10 11 (by omega) (hl a ha) hb x hx)]
 induction l with
 |nil=>simp
 |cons a r ih=>
  rw[List.flatMap_cons,List.countP_append,ih (fun x hx=>hl x (by simp[hx])),zo6 hs 10 11 m (by omega) (by omega) ht (hl a (by simp)) hb hv,List.countP_cons];unfold one;cases hitP b v<;>cases hitP a v<;>simp<;>omega
theorem zsi {t:Ty}{v:Val}{m:Nat} (ht:InS (w.length*4) t) (hv:zaS w m t v=true):∀ {away l r:List Pat},(∀b∈away,zai w 10 t b=true)→(∀a∈l,zai w 11 t a=true)→subL w t l away=some r→
  r.countP (fun x=>hitP x v)=if away.any (fun b=>hitP b v)=true then 0 else l.countP (fun x=>hitP x v)
 | [],l,r,_,_,h=>by rw[subL] at h;cases h;simp
 |b::away,l,r,hb,hl,h=>by
  rw[subL] at h;split at h
  ·rw[zsi ht hv (fun x hx=>hb x (by simp[hx])) (zfB hl (hb b (by simp))) h,zu9 hs ht hv (hb b (by simp)) hl,List.any_cons];cases hitP b v<;>cases away.any (fun b=>hitP b v)<;>simp
  ·cases h
theorem zrJ {t:Ty}{v:Val}{m:Nat} (ht:InS (w.length*4) t) (hv:zaS w m t v=true){away l r:List Pat} (hb:∀b∈away,zai w 10 t b=true) (hl:∀a∈l,zai w 11 t a=true) (h:zaI w t l away=some r):
  r.countP (fun x=>hitP x v)=if away.any (fun b=>hitP b v)=true then 0 else l.countP (fun x=>hitP x v):=by
 unfold zaI at h;rw[zsi hs ht hv hb (fun a ha=>hl a (List.mem_filter.1 ha).1) h,zmw hs ht hv hl]
end
def zfR (l:List Cl) (v:Val):Bool:=l.any fun c=>decide (c.g.op=0)&&(zaw 10 c.pat v).2
theorem zjW {w:List Data}{t:Ty}{v:Val}{m:Nat} (hv:zaS w m t v=true):∀(l:List Cl) (out r:List Pat),(∀c∈l,zar w 10 t c.pat=true)→zbi l out=some r→(r.any fun b=>hitP b v)=(out.any (fun b=>hitP b v)||zfR l v)
 | [],out,r,_,h=>by rw[zbi] at h;cases h;simp[zfR]
 |c::l,out,r,hc,h=>by
  rw[zbi] at h;have hm:=zeV 10 m (hc c (by simp)) hv;split at h
  ·rename_i hg;split at h
   ·rename_i hp;rw[zjW hv l _ r (fun x hx=>hc x (by simp[hx])) h,List.any_append];have e:(zc7 c.pat).any (fun b=>hitP b v)=(zaw 10 c.pat v).2:=by
     have e1:zc7 c.pat=zaB (zaF c.pat):=by unfold zc7;unfold zcH at hp;rw[if_pos (of_decide_eq_true hp)]
     rw[e1,Bool.eq_iff_iff,hm,List.any_eq_true]
    rw[e];unfold zfR;rw[List.any_cons,decide_eq_true hg,Bool.true_and,Bool.or_assoc]
   ·cases h
  ·rename_i hg;rw[zjW hv l _ r (fun x hx=>hc x (by simp[hx])) h];unfold zfR;rw[List.any_cons,decide_eq_false hg,Bool.false_and,Bool.false_or]
theorem zio {w:List Data}{t:Ty}{l:List Cl}{ps:List Pat} (hm:zce w t l=some ps):zbg w t l=true∧∃away,zbi l []=some away∧zaI w t [anyQ] away=some ps∧ps.all (isP w t)=true:=by
 unfold zce at hm;split at hm
 ·rename_i hv;refine⟨hv, ?_⟩;unfold zed at hm;cases hq:zbi l [] with
  |none=>rw[hq] at hm;simp at hm
  |some away=>
   rw[hq] at hm;cases hw:zaI w t [anyQ] away with
   |none=>simp[hw] at hm
   |some r=>
    simp only[hw] at hm;by_cases hr:r.all (isP w t)=true
    ·refine⟨away,rfl, ?_⟩;simp[hr] at hm;subst hm;exact⟨hw,hr⟩
    ·simp[hr] at hm
 ·cases hm
theorem zqi {w:List Data} (hs:WSmall w){a k:Int}{l:List Cl} (hv:zbg w ⟨a,k⟩ l=true):Spa w∧InS (w.length*4) ⟨a,k⟩:=by
 have htv:=zix hv;refine⟨zl9 hs (zcu htv.1).1, ?_⟩;obtain⟨_,_,h3⟩:=zcu htv.1;by_cases ha:a = -1
 ·exact .inl ha
 ·obtain⟨h4,h5,h6,h7⟩:=h3 ha;have:=zqI (n:=w.length) h5 (j:=k.toNat) (by omega);rwa [Int.toNat_of_nonneg h4,Int.toNat_of_nonneg h6] at this
theorem zu5 {w:List Data} (hs:WSmall w){a k:Int}{l:List Cl}{ps:List Pat}{v:Val}{m:Nat} (hl:ClsOk l) (hm:zce w ⟨a,k⟩ l=some ps) (hv:zaS w m ⟨a,k⟩ v=true):
  ps.countP (fun x=>hitP x v)=(if zfR l v=true then 0 else 1)∧∀x∈ps,isP w ⟨a,k⟩ x=true∧zai w 11 ⟨a,k⟩ x=true:=by
 obtain⟨h1,away,h2,h3,h4⟩:=zio hm;obtain⟨hsp,hin⟩:=zqi hs h1;have hsh:=zhW h1 hl;obtain⟨p1,p2⟩:=zd6 l [] away (fun c hc=>(hsh c hc).1) (by simp) h2;refine⟨?_,fun x hx=>⟨List.all_eq_true.1 h4 x hx,(zd3 away _ ps (fun x hx=>zej x (List.mem_filter.1 hx).1) (Nat.le_trans (List.length_filter_le _ _) (by simp)) p2 h3).2 x hx⟩⟩;rw[zrJ hsp hin hv p2 zej h3,zjW hv l [] away (fun c hc=>(hsh c hc).1) h2];simp only[List.any_nil,Bool.false_or];rfl
theorem zsP {w:List Data}{a k:Int}{x:Pat}{v:Val}{m:Nat} (h:isP w ⟨a,k⟩ x=true) (hp:zai w 11 ⟨a,k⟩ x=true) (hv:zaS w m ⟨a,k⟩ v=true):(zaw 10 x v).2=hitP x v:=by
 unfold isP at h;rw[xad] at h;exact zo2 10 11 m h.1 hp hv
theorem zmG {w:List Data}{g:Ty→Val→Bool}{F:Ty→List Val} (hF:∀u x,x∈F u→g u x=true):∀(us:List Ty) (vs:List Ty) (acc:List (List Val)),(∀l∈acc,all2 g vs l=true)→
  ∀l∈(us.map F).foldl (fun acc l=>acc.flatMap fun o=>l.map fun y=>o++[y]) acc,all2 g (vs++us) l=true
 | [],vs,acc,h,l,hl=>by rw[List.append_nil];exact h l hl
 |u::us,vs,acc,h,l,hl=>by
  rw[show vs++u::us=vs++[u]++us by simp];refine zmG (w:=w) hF us (vs++[u]) _ (fun q hq=>?_) l hl;obtain⟨o,h1,h2⟩:=List.mem_flatMap.1 hq;obtain⟨y,h3,rfl⟩:=List.mem_map.1 h2;have ho:=h o h1;have hy:=hF u y h3;clear hl hq h2 h1 h;induction vs generalizing o with
  |nil=>
   cases o with
   |nil=>simp[all2,hy]
   |cons a r=>simp[all2] at ho
  |cons b s ih=>
   cases o with
   |nil=>simp[all2] at ho
   |cons a r=>
    simp only[all2,xad,xag] at ho ⊢;exact⟨ho.1,ih r ho.2⟩
theorem zmH {w:List Data}:∀(n:Nat){t:Ty}{v:Val},v∈zaJ w n t→zaS w n t v=true
 |0,t,v,h=>by simp[zaJ] at h
 |n+1,t,v,h=>by
  unfold zaJ at h;unfold zaS;by_cases ht:t.data = -1
  ·rw[if_pos ht] at h ⊢;unfold zmA at h;obtain⟨i,hi,rfl⟩:=List.mem_map.1 h;rw[List.mem_range] at hi;simp only[xad,decide_eq_true_eq];exact⟨rfl,by show(0:Int)≤(i:Int);omega,by show(i:Int)≤9;omega,rfl⟩
  ·rw[if_neg ht] at h ⊢;obtain⟨c,hc,h⟩:=List.mem_flatMap.1 h;obtain⟨l,hl,rfl⟩:=List.mem_map.1 h;rw[if_pos ⟨rfl,hc⟩];have:=zmG (w:=w) (g:=zaS w n) (F:=zaJ w n) (fun u x hx=>zmH n hx) (zab w t c) [] [[]] (by simp[all2]) l hl;exact(by simpa using this:all2 (zaS w n) (zab w t c) l=true)
theorem zmE {w:List Data}:∀(n:Nat){t:Ty}{v:Val},zaS w n t v=true→zaS w (n+1) t v=true
 |0,t,v,h=>by simp[zaS] at h
 |n+1,t,v,h=>by
  rw[zaS] at h ⊢;split
  ·rename_i hd;rw[if_pos hd] at h;exact h
  ·rename_i hd;rw[if_neg hd] at h;split at h
   ·rename_i hc;rw[if_pos hc];exact ziT (fun x _ y _ hxy=>zmE n hxy) h
   ·cases h
theorem zuT {w:List Data}{n m:Nat} (h:n≤m){t:Ty}{v:Val} (hv:zaS w n t v=true):zaS w m t v=true:=by
 induction h with
 |refl=>exact hv
 |step _ ih=>exact zmE _ ih
def szN:Nat→Nat
 |0=>0
 |n+1=>1+3*szN n
theorem Vals.size_of {m:Nat}:∀ {l:List Val},(∀k∈l,k.size≤m)→Vals.size l≤l.length*m
 | [],_=>by simp[Vals.size]
 |x::r,h=>by
  have h1:=h x (by simp);have h2:=Vals.size_of (l:=r) (fun y hy=>h y (by simp[hy]));simp only[Vals.size,xab,Nat.succ_mul];omega
theorem zoN {w:List Data} (hs:Spa w):∀(n:Nat){t:Ty}{v:Val},InS (w.length*4) t→zaS w n t v=true→v.size≤szN n
 |0,t,v,_,h=>by simp[zaS] at h
 |n+1,t,v,ht,h=>by
  rw[Val.size_eq];by_cases hd:t.data = -1
  ·rw[zaS,if_pos hd] at h;simp only[xad,decide_eq_true_eq] at h;rw[List.eq_nil_of_length_eq_zero h.2.2.2];simp[Vals.size,szN]
  ·obtain⟨f1,f2,f3⟩:=zdK h hd;have h3:=hs.args t _ ht f1;have hz:=Vals.size_of (m:=szN n) (l:=v.kids) (fun k hk=>by
    obtain⟨i,hi,rfl⟩:=List.getElem_of_mem hk;have:=zoN hs n (zbx hs.dp ht f1 _ (zaf (i:=i) (by omega))) (f3 i hi);rwa [za0 hi] at this)
   have:v.kids.length*szN n≤3*szN n:=Nat.mul_le_mul_right _ (by omega);unfold szN;omega
theorem zsl {w:List Data} (hs:Spa w){t:Ty} (ht:InS (w.length*4) t){m:Int} (hm:m≤4){v:Val} (h:v∈(vut w t m).1):isV w t v=true∧zaS w 10 t v=true:=by
 unfold vut at h;split at h
 ·have hf:=zmH m.toNat h;have h1:=zoN hs m.toNat ht hf;have h2:m.toNat≤4:=by omega
  have h3:szN m.toNat≤40:=by
   have:∀i:Nat,i≤4→szN i≤40:=by decide
   exact this _ h2
  have h4:=zuT (m:=10) (by omega) hf;refine⟨?_,h4⟩;unfold isV;rw[h4,Bool.true_and];exact decide_eq_true (by omega)
 ·simp at h
theorem zv9 {w:List Data}{a k:Int}{l:List Cl} (h:zbg w ⟨a,k⟩ l=true):∀c∈l,clOk w ⟨a,k⟩ c=true:=by
 unfold zbg at h;simp only[xad,Bool.not_eq_true',List.any_eq_false] at h;intro c hc;simpa using h.2.2 c hc
def zd0 (w:List Data) (a k:Int) (v:Val) (c:Cl):Bool:=(zck w a k c.pat v).2&&decide (c.g.op=0)
theorem zlp {w:List Data}{a k:Int}{p:Pat}{v:Val} (h1:zbf w ⟨a,k⟩=true) (h2:isP w ⟨a,k⟩ p=true) (hv:isV w ⟨a,k⟩ v=true):(zck w a k p v).2=(zaw 10 p v).2:=by
 have hp:zdV w a k p=true:=by unfold zdV;rw[h1,h2];rfl
 unfold zck;rw[if_pos ⟨hp,hv⟩,zrx]
theorem zoK {w:List Data}{a k:Int}{v:Val} (hv:isV w ⟨a,k⟩ v=true):∀ {l:List Cl},zbf w ⟨a,k⟩=true→(∀c∈l,clOk w ⟨a,k⟩ c=true)→l.any (zd0 w a k v)=zfR l v
 | [],_,_=>rfl
 |c::r,h1,h2=>by
  have hc:=h2 c (by simp);unfold clOk at hc;rw[xad] at hc;rw[List.any_cons,zoK hv h1 (fun x hx=>h2 x (by simp[hx]))];unfold zfR;rw[List.any_cons];unfold zd0;rw[zlp h1 hc.1 hv,Bool.and_comm]
structure CaseW (w:List Data):Prop where
 small:WSmall w
 valid:za2 w=true
 one:1≤w.length
 ct:∀k:Int,k=0∨k=1∨k=2→1≤(zam w ⟨0,k⟩).length
theorem xat:∀l:List Pat,l.length≤Pats.size l
 | []=>Nat.zero_le _
 |v::r=>by
  have:=xat r;have h:=Pat.size_eq v;simp only[xab,Pats.size];omega
theorem zsh {x:Pat} (hx:x.ok):∀ {l:List Pat}{i:Nat},Pats.ok l→Pats.ok (l.set i x)
 | [],_,_=>by simp[Pats.ok]
 |y::r,0,h=>⟨hx,h.2⟩
 |y::r,i+1,h=>⟨h.1,zsh hx h.2⟩
theorem zrL {x:Pat} (hx:x.ok):∀ {l:List Pat},Pats.ok l→Pats.ok (l++[x])
 | [],_=>⟨hx,trivial⟩
 |y::r,h=>⟨h.1,zrL hx h.2⟩
theorem zok {x:Pat}:∀ {l:List Pat}{i:Nat},Pats.size (l.set i x)≤Pats.size l+x.size
 | [],_=>by simp[Pats.size]
 |y::r,0=>by simp only[List.set_cons_zero,Pats.size];omega
 |y::r,i+1=>by have:=zok (x:=x) (l:=r) (i:=i);simp only[List.set_cons_succ,Pats.size];omega
theorem zwp {b:Str}{p:Pat}{q:Nat} (hs:p.size≤1000) (hok:p.ok):(mutP b p q).1.size≤2000∧(mutP b p q).1.ok:=by
 have hv:zcc.size=1∧zcc.ok:=⟨by rw[Pat.size_eq];rfl,by rw[Pat.ok_iff];exact⟨by simp[zcc,Pat.kids],trivial⟩⟩;have h0:=Pat.size_eq p;rw[Pat.ok_iff] at hok;have same:∀a c n m v:Int,(Pat.mk a c n m v p.kids).size≤2000∧(Pat.mk a c n m v p.kids).ok:=fun a c n m v=>by
  refine⟨by rw[Pat.size_eq];show 1+Pats.size p.kids≤_;omega,by rw[Pat.ok_iff];exact hok⟩
 unfold mutP;split;exact same _ _ _ _ _
 split;exact same _ _ _ _ _
 split;exact same _ _ _ _ _
 split
 ·refine⟨?_, ?_⟩
  ·dsimp only;rw[Pat.size_eq];show 1+Pats.size (p.kids++[zcc])≤_;rw[xau];omega
  ·dsimp only;rw[Pat.ok_iff];refine⟨?_,zrL hv.2 hok.2⟩;show(p.kids++[zcc]).length≤_
   have:=xat p.kids;simp only[xaa,List.length_singleton];omega
 split
 ·refine⟨?_, ?_⟩
  ·dsimp only;rw[Pat.size_eq];show 1+Pats.size (p.kids.set 0 zcc)≤_;have:=zok (x:=zcc) (l:=p.kids) (i:=0);omega
  ·dsimp only;rw[Pat.ok_iff];exact⟨by show(p.kids.set 0 zcc).length≤_;rw[List.length_set];exact hok.1,zsh hv.2 hok.2⟩
 split;exact same _ _ _ _ _
 exact same _ _ _ _ _
def smB (n:Nat) (w:List Data):Bool:=decide (w.length≤n)&&w.all fun d=>decide (d.name.length≤n)&&(decide (d.ctors.length≤n)&&d.ctors.all fun c=>decide (c.name.length≤n)&&decide (c.args.length≤n))
structure Sm (n:Nat) (w:List Data):Prop where
 len:w.length≤n
 data:∀d∈w,d.name.length≤n∧d.ctors.length≤n
 ctor:∀d∈w,∀c∈d.ctors,c.name.length≤n∧c.args.length≤n
theorem zuo {n:Nat}{w:List Data} (h:smB n w=true):Sm n w:=by
 simp only[smB,xad,decide_eq_true_eq,List.all_eq_true] at h;exact⟨h.1,fun d hd=>⟨(h.2 d hd).1,(h.2 d hd).2.1⟩,fun d hd c hc=>(h.2 d hd).2.2 c hc⟩
theorem Sm.small {n:Nat}{w:List Data} (h:Sm n w) (hn:n≤1000000000000):WSmall w:=
 ⟨Nat.le_trans h.len hn,fun d hd=>⟨Nat.le_trans (h.data d hd).1 hn,Nat.le_trans (h.data d hd).2 hn⟩,fun d hd c hc=>⟨Nat.le_trans (h.ctor d hd c hc).1 hn,Nat.le_trans (h.ctor d hd c hc).2 hn⟩⟩
theorem zs7:((List.range 7).all fun i=>smB 10 (zdG (nth zd2 i)).1&&(za2 (zdG (nth zd2 i)).1&&decide (1≤(zdG (nth zd2 i)).1.length)))=true:=by kernel_rfl
structure WorldD (w:List Data):Prop where
 sm:Sm 10 w
 small:WSmall w
 valid:za2 w=true
 one:1≤w.length
theorem zgH (b:Str) (p:Nat):WorldD (zbC b p):=by
 have h:=List.all_eq_true.1 zs7 (zao b p 7).toNat (List.mem_range.2 (zsT b p));simp only[xad,decide_eq_true_eq] at h;exact⟨zuo h.1,(zuo h.1).small (by omega),h.2.1,h.2.2⟩
theorem zos {w:List Data} (hw:WT w){n:Nat}{f:Nat→Nat}{a k c:Int} (ht:TyIn w.length ⟨a,k⟩) (hc:c∈zam w ⟨a,k⟩) (hn:n≤100) (hb:∀s,f s≤100000) (hin:∀u∈zab w ⟨a,k⟩ c,InS n u):
  FnD Tryz.prog 200 [.d (zaj w),.d (zgt n f),.agg [.d (.i a),.d (.i k)],.d (.i c)] [] (.d (.i (most w f ⟨a,k⟩ c))) []:=by
 have hl:=zhs hw ht hc;have hd:=zpK hb (by omega);refine bd Tryz.f200 37 [] [] fun w0 F0 own kept hk=>?_;refine bx 3006 ?_;refine ev ?_;refine wc zgq (zcm hw ht hc) rfl rfl ?_;refine ev ?_;refine xaj (ι:=List (Ty)×List (Ty)×(Nat)) hk (fun x=>[(11,.d (.i (x.1.length:Int))),(10,.d (.i (x.2.2:Int)))]) [8,12,17,18,19,20,21,22,23,24,25,26,27,28,29,30,31,32,33,34] (fun x=>[]) (fun x=>x.1++x.2.1=zab w ⟨a,k⟩ c∧x.2.2≤100000∧zbr f x.2.2 x.2.1=zbr f 0 (zab w ⟨a,k⟩ c)) (fun x=>x.2.1.length) ([],zab w ⟨a,k⟩ c,0) ⟨by simp,by simp,rfl⟩ ⟨⟨_,rfl,xap ?_⟩,⟨⟨_,rfl,xap ?_⟩,trivial⟩⟩ trivial (fun x=>rfl) (fun x hg1=>?_);iterate 2 focus (first|rfl|(simp;done)|omega|(dsimp only;omega))
 obtain⟨pre,rest,m⟩:=x;dsimp only at hg1 ⊢;refine evc [] [] ?_;refine sq ?_ ?_<;>intro h1 h1p h1s;try simp only[Q] at h1p
 rcases rest with _|⟨y,rest⟩
 ·exfalso;simp_all
 have hdy:=hd y;have hye:dv f ⟨y.data,y.index⟩=dv f y:=rfl;refine xaV zaT .none rfl rfl rfl rfl (zaE hg1.1) rfl ?_;refine ev ?_;refine wc zjO (zeh (f:=f) (a:=y.data) (k:=y.index) (hin y (by rw[←hg1.1];simp)) hn) rfl rfl ?_;refine ev ?_;refine sq ?_ ?_<;>intro h2 h2p h2s;try simp only[Q] at h2p
 refine rn0 (r1 rfl) (.eqd ?_);rotate_left;try simp only[Q] at h2p
 refine sq ?_ ?_<;>intro h3 h3p h3s;try simp only[Q] at h3p
 refine ar ?_;refine Exists.intro ((pre++[y],rest,max m (dv f y))) ⟨⟨(by have hz:=hg1.1;rw[←hz];simp),⟨(by have:=hd y;dsimp only;omega),(by rw[←hg1.2.2];simp only[zbr];rw[if_neg (by have:=hd y;omega)])⟩⟩,(by simp),sx ⟨⟨_,rfl,xap ?_⟩,⟨⟨_,rfl,xap ?_⟩,trivial⟩⟩ trivial⟩;iterate 2 focus (first|rfl|(simp;done)|omega|(dsimp only;omega))
 try simp only[Q] at h3p
 refine ar ?_;refine Exists.intro ((pre++[y],rest,max m (dv f y))) ⟨⟨(by have hz:=hg1.1;rw[←hz];simp),⟨(by have:=hd y;dsimp only;omega),(by rw[←hg1.2.2];simp only[zbr];rw[if_neg (by have:=hd y;omega)])⟩⟩,(by simp),sx ⟨⟨_,rfl,xap ?_⟩,⟨⟨_,rfl,xap ?_⟩,trivial⟩⟩ trivial⟩;iterate 2 focus (first|rfl|(simp;done)|omega|(dsimp only;omega))
 try simp only[Q] at h1p
 have hrest:rest=[]:=by
  rcases rest with _|⟨a,b⟩
  ·rfl
  ·exfalso;have hz:=congrArg List.length (hg1.1);simp only[xaa,xab,xac] at hz;omega
 subst hrest;refine ar ?_;refine rn0 (r1 rfl) (.eqd ?_);rotate_left;all_goals (refine congrArg D.i ?_;unfold most;rw[←hg1.2.2];first|(simp only[zbr];rw[if_pos (by omega)];rfl)|(simp only[zbr];omega))
def hdB (w:List Data):Nat→Ty→Bool
 |0,_=>false
 |d+1,t=>decide (t.data = -1)||(zaL w t).any fun c=>decide (t.data≠ -1)&&(zab w t c).all (hdB w d)
theorem zn4 (w:List Data):∀(d:Nat) (t:Ty),hdB w d t=true↔Hd w d t
 |0,t=>by simp[hdB,Hd]
 |d+1,t=>by
  simp only[hdB,Hd,Bool.or_eq_true,decide_eq_true_eq,List.any_eq_true,xad,List.all_eq_true,zn4 w d]
def Low (w:List Data):Prop:=∀s,zak w s≤3
theorem zxU {w:List Data} (hd:Dp w) (h:(List.range (w.length*4)).all (fun s=> !hdB w 4 (tyS s)||hdB w 3 (tyS s))=true):Low w:=by
 intro s;by_cases hs:s<w.length*4
 ·obtain⟨h1,h2⟩:=zdu hd.cl (w.length*4+1);by_cases h0:zak w s=0
  ·omega
  ·have hh:=h1 s hs (Nat.pos_of_ne_zero h0);have h3:=zj5 hd.cl (d:=3) (by omega) (fun s hs hh=>by
    have:=List.all_eq_true.1 h s (List.mem_range.2 hs);rw[(zn4 w 4 (tyS s)).2 hh] at this;exact(zn4 w 3 _).1 (by simpa using this)) _ s hs hh
   by_cases h4:3≤w.length*4+1
   ·exact(h2 s hs 3 h4 h3).2
   ·omega
 ·have h0:=zjd (w:=w) (i:=s) (by omega) (w.length*4+1);show zbd w (w.length*4+1) s≤3
  omega
theorem zs8:((List.range 7).all fun i=>(List.range ((zdG (nth zd2 i)).1.length*4)).all fun s=> !hdB (zdG (nth zd2 i)).1 4 (tyS s)||hdB (zdG (nth zd2 i)).1 3 (tyS s))=true:=by kernel_rfl
structure WorldL (w:List Data):Prop where
 dp:Dp w
 low:Low w
 few:Few w
theorem zfL (b:Str) (p:Nat):WorldL (zbC b p):=by
 have ho:=zgH b p;have hd:=zl8 ho.small ho.valid;exact⟨hd,zxU hd (List.all_eq_true.1 zs8 (zao b p 7).toNat (List.mem_range.2 (zsT b p))),zuD ho.small ho.valid⟩
theorem zt4 {w:List Data} (hd:Dp w){t:Ty} (ht:InS (w.length*4) t) (hne:¬t.data = -1) (h:0<dv (zak w) t):∃c∈zam w t,0<most w (zak w) t c∧most w (zak w) t c=dv (zak w) t:=by
 obtain⟨h1,h2⟩:Snd w (zak w)∧Cmp w (w.length*4+1) (zak w):=zdu hd.cl (w.length*4+1);have hcmp:∀k,Cmp w k (zak w):=fun k=>by
  have h3:=(zdu hd.cl (max k (w.length*4+1))).2;rw[zkY hd.cl (Nat.le_max_right _ _)] at h3;exact fun s hs d hdk hh=>h3 s hs d (by omega) hh
 have hv:zam w t=zaL w t:=by unfold zam;rw[if_neg hne]
 have hh:Hd w (dv (zak w) t) t:=zpL h1 ht h;rcases hd0:dv (zak w) t with _|e
 ·omega
 rw[hd0] at hh;rcases hh with hh|⟨c,hc,_,hu⟩
 ·exact absurd hh hne
 have hin:=zbx hd ht (c:=c) (by rw[hv];exact hc);have hp:=zki (f:=zak w) (l:=zab w t c) (m:=0) (k:=e) (Nat.zero_le _) (fun u hu'=>zj0 (hcmp e) (hin u hu') (hu u hu'));refine⟨c,by rw[hv];exact hc,hp.1, ?_⟩;have hle:most w (zak w) t c≤e+1:=hp.2;have hpos:0<most w (zak w) t c:=hp.1

 have hsn:=zh4 (f:=zak w) (l:=zab w t c) (m:=0) hp.1;have hH:Hd w (most w (zak w) t c) t:=by
  obtain⟨q,hq⟩:∃q,most w (zak w) t c=q+1:=⟨most w (zak w) t c-1,by omega⟩;rw[hq];refine .inr ⟨c,hc,hne,fun u hu'=>?_⟩;have hx:=hsn.2 u hu';have hlt:dv (zak w) u<most w (zak w) t c:=hx.2;exact Hd_le (by omega) (zpL h1 (hin u hu') hx.1)
 have hge:=(zj0 (hcmp _) ht hH).2;omega
def zeI (w:List Data) (f:Nat→Nat) (t:Ty) (m c:Int):Bool:=decide (0<most w f t c)&&decide ((most w f t c:Int)≤m∨most w f t c=dv f t)
def zca (w:List Data) (f:Nat→Nat) (t:Ty) (m:Int):List Int:=(zam w t).filter (zeI w f t m)
theorem zqu {P:Int→Bool}{pre:List Int}{y:Int} (h:P y=true):((pre++[y]).filter P).map (fun n=>[D.i n])=(pre.filter P).map (fun n=>[D.i n])++[[D.i y]]:=by simp[List.filter_append,h]
theorem zwf {P:Int→Bool}{pre:List Int}{y:Int} (h:P y=false):((pre++[y]).filter P).map (fun n=>[D.i n])=(pre.filter P).map (fun n=>[D.i n]):=by simp[List.filter_append,h]
def dV (f:Ty→Nat→Val×Nat):List Ty→Nat→List Val×Nat
 | [],q=>([],q)
 |t::r,q=>((f t q).1::(dV f r (f t q).2).1,(dV f r (f t q).2).2)
def zbQ (b:Str) (w:List Data) (f:Nat→Nat):Nat→Ty→Int→Nat→Val×Nat
 |0,_,_,p=>(.mk 0 0 [],p)
 |n+1,t,m,p=>
  if t.data = -1 then (.mk (-1) (zao b p 10) [],p+1)
  else (.mk (nth (zca w f t m) (zao b p (zca w f t m).length).toNat) 0 (dV (fun u q=>zbQ b w f n u (m-1) q) (zab w t (nth (zca w f t m) (zao b p (zca w f t m).length).toNat)) (p+1)).1,
   (dV (fun u q=>zbQ b w f n u (m-1) q) (zab w t (nth (zca w f t m) (zao b p (zca w f t m).length).toNat)) (p+1)).2)
abbrev dW (b:Str) (w:List Data) (n:Nat) (m:Int):Ty→Nat→Val×Nat:=fun u x=>zbQ b w (zak w) n u (m-1) x
def bdV:Nat→Nat
 |0=>0
 |d+1=>1+3*bdV d
def szV:Nat→Nat
 |0=>1
 |d+1=>1+3*szV d
theorem zvJ {f:Ty→Nat→Val×Nat}{k:Nat}:∀(l:List Ty) (q:Nat),(∀t∈l,∀q,(f t q).2≤q+k)→(dV f l q).2≤q+l.length*k
 | [],q,_=>by simp[dV]
 |t::r,q,h=>by
  have h1:=h t (by simp) q;have h2:=zvJ r (f t q).2 (fun x hx=>h x (by simp[hx]));simp only[dV,xab,Nat.add_mul];omega
theorem ztQ {f:Ty→Nat→Val×Nat}:∀(l:List Ty) (q:Nat),(dV f l q).1.length=l.length
 | [],q=>rfl
 |t::r,q=>by simp only[dV,xab,ztQ r]
theorem zvK {f:Ty→Nat→Val×Nat}{k:Nat}:∀(l:List Ty) (q:Nat),(∀t∈l,∀q,(f t q).1.size≤k∧(f t q).1.ok)→Vals.size (dV f l q).1≤l.length*k∧Vals.ok (dV f l q).1
 | [],q,_=>by simp[dV,Vals.size,Vals.ok]
 |t::r,q,h=>by
  have h1:=h t (by simp) q;have h2:=zvK r (f t q).2 (fun x hx=>h x (by simp[hx]));simp only[dV,xab,Nat.add_mul,Vals.size,Vals.ok];exact⟨by omega,h1.2,h2.2⟩
theorem zj3 {w:List Data}{f:Nat→Nat}{t:Ty}{m c:Int} (h:c∈zca w f t m):c∈zam w t∧0<most w f t c∧((most w f t c:Int)≤m∨most w f t c=dv f t):=by
 have:=List.mem_filter.1 h;simpa [zeI] using this
structure Deep (w:List Data) (n:Nat) (t:Ty) (m:Int):Prop where
 ins:InS (w.length*4) t
 pos:0<dv (zak w) t
 le:dv (zak w) t≤n
 ml:m≤n
theorem zqt {w:List Data} (hd:Dp w){n:Nat}{t:Ty}{m:Int} (h:Deep w n t m) (hne:¬t.data = -1):1≤(zca w (zak w) t m).length:=by
 obtain⟨c,hc,h1,h2⟩:=zt4 hd h.ins hne h.pos;exact List.length_pos_of_mem (a:=c) (List.mem_filter.2 ⟨hc,by have:=h.pos;simp[zeI,h2,this]⟩)
theorem zqo {w:List Data} (hd:Dp w){n:Nat}{t:Ty}{m c:Int} (h:Deep w (n+1) t m) (hc:c∈zca w (zak w) t m):∀u∈zab w t c,Deep w n u (m-1):=by
 intro u hu;obtain⟨h1,h2,h3⟩:=zj3 hc;have hin:=zbx hd h.ins h1 u hu;have hs:=(zh4 (f:=zak w) (l:=zab w t c) (m:=0) h2).2 u hu;have hlt:dv (zak w) u<most w (zak w) t c:=hs.2;have:=h.le;have:=h.ml;exact⟨hin,hs.1,by rcases h3 with h3|h3<;>omega,by omega⟩
theorem zpd {w:List Data} (hd:Dp w){n:Nat}{t:Ty}{m:Int} (h:Deep w n t m) (hne:¬t.data = -1) (b:Str) (p:Nat):nth (zca w (zak w) t m) (zao b p (zca w (zak w) t m).length).toNat∈zca w (zak w) t m:=
 zjk (by have:=zqt hd h hne;omega)
theorem zi2 {b:Str}{w:List Data} (hd:Dp w) (hf:Few w):∀(n:Nat) (t:Ty) (m:Int) (p:Nat),Deep w n t m→(zbQ b w (zak w) n t m p).2≤p+bdV n∧(zbQ b w (zak w) n t m p).1.size≤szV n∧(zbQ b w (zak w) n t m p).1.ok
 |0,t,m,p,h=>by have:=h.pos;have:=h.le;omega
 |n+1,t,m,p,h=>by
  simp only[zbQ,bdV,szV];split
  ·refine⟨by dsimp only;omega, ?_, ?_⟩
   ·simp only[Val.size,Vals.size];omega
   ·simp[Val.ok,Vals.ok]
  ·rename_i hne;have hm:=zpd hd h hne b p;generalize nth (zca w (zak w) t m) (zao b p (zca w (zak w) t m).length).toNat=c at *;have hk:=zqo hd h hm;have h3:=(hf t c (zj3 hm).1 (zb1 h.ins)).1;have h1:=zvJ (f:=fun u q=>zbQ b w (zak w) n u (m-1) q) (k:=bdV n) (zab w t c) (p+1) (fun u hu q=>(zi2 hd hf n u (m-1) q (hk u hu)).1);have h2:=zvK (f:=fun u q=>zbQ b w (zak w) n u (m-1) q) (k:=szV n) (zab w t c) (p+1) (fun u hu q=>(zi2 hd hf n u (m-1) q (hk u hu)).2);have h4:(zab w t c).length*bdV n≤3*bdV n:=Nat.mul_le_mul_right _ h3;have h5:(zab w t c).length*szV n≤3*szV n:=Nat.mul_le_mul_right _ h3;have h6:=ztQ (f:=fun u q=>zbQ b w (zak w) n u (m-1) q) (zab w t c) (p+1);refine⟨by dsimp only;omega, ?_, ?_⟩
   ·simp only[Val.size];omega
   ·simp only[Val.ok];exact⟨by omega,h2.2⟩
section
variable {b:Str}{w:List Data}{f:Nat→Nat}{n p:Nat}{t:Ty}{m:Int}
theorem zwd (h:t.data = -1):zbQ b w f (n+1) t m p=(.mk (-1) (zao b p 10) [],p+1):=by simp only[zbQ];rw[if_pos h]
theorem zwe (h:¬t.data = -1){c:Int} (hc:nth (zca w f t m) (zao b p (zca w f t m).length).toNat=c):zbQ b w f (n+1) t m p =
  (.mk c 0 (dV (fun u q=>zbQ b w f n u (m-1) q) (zab w t c) (p+1)).1,(dV (fun u q=>zbQ b w f n u (m-1) q) (zab w t c) (p+1)).2):=by
 simp only[zbQ];rw[if_neg h,hc]
end
theorem ziO {b:Str}{w:List Data} (hb:b.length≤2000) (hd:Dp w) (hf:Few w):∀(n:Nat){a k m:Int}{p:Nat},Deep w n ⟨a,k⟩ m→(n:Int)-10≤m→n≤5→p+bdV n≤1000000→
  FnD Tryz.prog 173 [.ref 900 0,.d (zaj w),.d (zgt (w.length*4) (zak w)),.agg [.d (.i a),.d (.i k)],.d (.i m)] [(900,some (rdB b p))]
   (.agg [.d (.i (zbQ b w (zak w) n ⟨a,k⟩ m p).1.ctor),.d (.i (zbQ b w (zak w) n ⟨a,k⟩ m p).1.num),.d (zbH (zbQ b w (zak w) n ⟨a,k⟩ m p).1.kids)]) [(900,some (rdB b (zbQ b w (zak w) n ⟨a,k⟩ m p).2))]
 |0,a,k,m,p,h,_,_,_=>by have:=h.pos;have:=h.le;omega
 |n+1,a,k,m,p,h,hm,hn5,hp=>by
  have ht:=zb1 h.ins;have hml:=h.ml;have h4:=hd.four;have hbd:bdV (n+1)=1+3*bdV n:=rfl;have hfb:∀s,zak w s≤100000:=zoi hd (k:=w.length*4+1) (s:=0) (by omega) (by omega) (pre:=[]) (by simp);have hcl:=zhg hd.wt ht;have hfl:(zca w (zak w) ⟨a,k⟩ m).length≤(zam w ⟨a,k⟩).length:=List.length_filter_le _ _;have hflm:((((zam w ⟨a,k⟩).filter (zeI w (zak w) ⟨a,k⟩ m)).map fun n=>[D.i n]).length:Int)=(zca w (zak w) ⟨a,k⟩ m).length:=by rw[xac];rfl
  have hfp:=fun hne=>zqt hd h hne;have v14:=fun hh=>zcM (b:=b) (p:=p) (n:=((zca w (zak w) ⟨a,k⟩ m).length:Int)) hh;have hmem:=fun hne=>zpd hd h hne b p;have hdm:=zwd (b:=b) (w:=w) (f:=zak w) (n:=n) (p:=p) (t:=⟨a,k⟩) (m:=m);have hdm2:=fun hne=>zwe (b:=b) (w:=w) (f:=zak w) (n:=n) (p:=p) (t:=⟨a,k⟩) (m:=m) hne rfl;generalize hcc:nth (zca w (zak w) ⟨a,k⟩ m) (zao b p (zca w (zak w) ⟨a,k⟩ m).length).toNat=cc at *;have hfm:=fun hne=>zj3 (hmem hne);have hkid:=fun hne=>zqo hd h (hmem hne);have hfw:=fun hne=>(hf ⟨a,k⟩ cc (hfm hne).1 ht).1;have hok:=fun u q hu=>zi2 (b:=b) hd hf n u (m-1) q hu;have hat:¬a = -1→(((zam w ⟨a,k⟩).filter (zeI w (zak w) ⟨a,k⟩ m)).map fun n=>[D.i n])[(zao b p (zca w (zak w) ⟨a,k⟩ m).length).toNat]?=some [D.i cc]:=fun hne=>by
   rw[←hcc];exact zas (l:=zca w (zak w) ⟨a,k⟩ m) (by have:=v14 (by have:=hfp hne;omega);omega)
  refine bd Tryz.f173 98 [] [9,11] fun w0 F0 own kept hk=>?_;refine bx 3008 ?_;refine ab 3010 tz62 ?_;refine tv ?_;refine sq ?_ ?_<;>intro h1 h1p h1s;try simp only[Q] at h1p
  refine wd zb9 (zaR (p:=p) (n:=10) hb (by omega) (by omega)) rfl rfl ⟨rfl,trivial⟩ ?_;refine bu [0,1] [_,_] st62 ?_;refine so ty62 ?_;refine tv ?_;refine rn [(900,some (rdB b (zbQ b w (zak w) (n+1) ⟨a,k⟩ m p).2))] (.cons (.cellA ty62 rfl rfl rfl) .nil) (.agg (.cons (.eqd ?_) (.cons (.eqd ?_) (.cons (.nild ?_) .nil)))) ⟨rfl,rfl⟩ (SubO.get ⟨.inr ?_,⟨.inl rfl,trivial⟩⟩) (zav rfl);rotate_left 4;try simp only[Q] at h1p
  refine wc zgo (zb7 hd.wt ht) rfl rfl ?_;refine ev ?_;refine xbj 5 zaW .none rfl rfl ?_;refine ev ?_;refine xaj (ι:=List (Int)×List (Int)) hk (fun x=>[(13,.d (.i (x.1.length:Int))),(12,.gl 5 ((x.1.filter (zeI w (zak w) ⟨a,k⟩ m)).map fun n=>[D.i n]))]) [14,28,29,30,31,32,33,34,35,36,37,38,39,40,41,42,43,44,45,46,47,48,49,50,51,52,53,54,55,56,57,58,59,60,61,62] (fun x=>[(5,some (.tok (((x.1.filter (zeI w (zak w) ⟨a,k⟩ m)).map fun n=>[D.i n])).length 1))]) (fun x=>x.1++x.2=zam w ⟨a,k⟩) (fun x=>x.2.length) ([],zam w ⟨a,k⟩) (by simp) ⟨⟨_,rfl,xap ?_⟩,⟨⟨_,rfl,LeA.glg ?_⟩,trivial⟩⟩ ⟨zaa ?_,trivial⟩ (fun x=>rfl) (fun x hg1=>?_);iterate 3 focus (rfl)
  obtain⟨pre,rest⟩:=x;dsimp only at hg1 ⊢;refine evc [] [9,11] ?_;refine sq ?_ ?_<;>intro h2 h2p h2s;try simp only[Q] at h2p
  rcases rest with _|⟨y,rest⟩
  ·exfalso;simp_all
  refine xaV zaW .none rfl rfl rfl rfl (zaE hg1) rfl ?_;refine evd [] [] ?_;refine wc ztp (zos hd.wt ht (c:=y) (by rw[←hg1];simp) (by omega) hfb (zbx hd h.ins (by rw[←hg1];simp))) rfl rfl ?_;refine evd [] [] ?_;refine dr ?_;refine xak ?_;refine xaA 14 [(55,.d (.bool (zeI w (zak w) ⟨a,k⟩ m y)))] [42,43,44,45,46,47,48,49,50,51,52,53,54] ?_ ?_;refine ev ?_;refine sq ?_ ?_<;>intro h3 h3p h3s;try simp only[Q] at h3p
  refine sq ?_ ?_<;>intro h4 h4p h4s;try simp only[Q] at h4p
  focus (exact jn rfl (xao (by(unfold zeI;rw[Bool.eq_iff_iff];simp_all;done))))
  try simp only[Q] at h4p
  refine Walk.call (cr:=[]) zjO (zeh h.ins (by omega)) rfl (.some rfl rfl h4) rfl rfl (LeL.refl _) trivial rfl rfl rfl ?_;refine evs [] [(44,true),(48,false)] ?_ ⟨⟨_,rfl,h3⟩,⟨_,rfl,h4⟩,trivial⟩;focus (exact jn rfl (xao (by(unfold zeI;rw[Bool.eq_iff_iff];simp_all;omega))))
  try simp only[Q] at h3p
  focus (exact jn rfl (xao (by(unfold zeI;rw[Bool.eq_iff_iff];simp_all;done))))
  refine xaz ?_;refine tv ?_;refine sq ?_ ?_<;>intro h5 h5p h5s;try simp only[Q] at h5p
  refine xaV zaW .none rfl rfl rfl rfl (zaE hg1) rfl ?_;refine ev ?_;refine si [0] [_] zaW tz3 ?_;refine ap zaW zz3 rfl rfl rfl (by simp) (by(have hz:=congrArg List.length hg1;have hq:=List.length_filter_le (zeI w (zak w) ⟨a,k⟩ m) pre;simp at hz ⊢;omega)) ?_;refine ev ?_;refine ar ?_;refine Exists.intro ((pre++[y],rest)) ⟨(by have hz:=hg1;rw[←hz];simp),(by simp),sx ⟨⟨_,rfl,xap ?_⟩,⟨⟨_,rfl,LeA.glg ?_⟩,trivial⟩⟩ ⟨zaa ?_,trivial⟩⟩;iterate 3 focus (first|(simp;done)|(rw[zqu (by assumption)];all_goals rfl)|(rw[zqu (by assumption)];simp;done))
  try simp only[Q] at h5p
  refine ar ?_;refine Exists.intro ((pre++[y],rest)) ⟨(by have hz:=hg1;rw[←hz];simp),(by simp),sx ⟨⟨_,rfl,xap ?_⟩,⟨⟨_,rfl,LeA.glg ?_⟩,trivial⟩⟩ ⟨zaa ?_,trivial⟩⟩;iterate 3 focus (first|(simp;done)|(rw[zwf (by assumption)];all_goals rfl))
  try simp only[Q] at h2p
  have hrest:rest=[]:=by
   rcases rest with _|⟨a,b⟩
   ·rfl
   ·exfalso;have hz:=congrArg List.length (hg1);simp only[xaa,xab,xac] at hz;omega
  subst hrest;rw[List.append_nil] at hg1;subst hg1;refine evc [] [] ?_;refine wd zb9 (zaR (p:=p) (n:=((((zam w ⟨a,k⟩).filter (zeI w (zak w) ⟨a,k⟩ m)).map fun n=>[D.i n]).length:Int)) hb (by omega) (by omega)) rfl rfl ⟨rfl,trivial⟩ ?_;refine xaY (i:=(zao b p (zca w (zak w) ⟨a,k⟩ m).length).toNat) zaW .none rfl rfl rfl (by rw[hflm];have:=v14 (by have:=hfp (by omega);omega);omega) (hat (by omega)) rfl ?_;refine ev ?_;refine bu [0] [_] st62 ?_;refine ab 3015 tz62 ?_;refine so ty62 ?_;refine tv ?_;refine wc zgq (zcm hd.wt ht (hfm (by omega)).1) rfl rfl ?_;refine ev ?_;refine xam 3015 2 1 3 rfl rfl rfl rfl ?_;refine xaj (ι:=List (Ty)×List (Ty)×(Nat)×(List Val)) hk (fun x=>[(17,.d (.i (x.1.length:Int)))]) [76,77,78,79,80,81,82,83,84,85,86,87,88,89,90,91,92,93,94,95,96] (fun x=>[(900,some (.box [.d (zb0 b),.d (.i (x.2.2.1:Int))])),(3015,some (.box [.d (.i cc),.d (.i 0),.gl 1 (x.2.2.2.map Val.cc)])),(1,some (.tok (x.2.2.2.map Val.cc).length 3))]) (fun x=>x.1++x.2.1=zab w ⟨a,k⟩ cc∧x.2.2.1≤p+1+x.1.length*bdV n∧x.2.2.2.length=x.1.length∧(x.2.2.2++(dV (dW b w n m) x.2.1 x.2.2.1).1,(dV (dW b w n m) x.2.1 x.2.2.1).2)=dV (dW b w n m) (zab w ⟨a,k⟩ cc) (p+1)) (fun x=>x.2.1.length) ([],zab w ⟨a,k⟩ cc,p+1,[]) ⟨by simp,by simp,by simp,by simp⟩ ⟨⟨_,rfl,xap ?_⟩,trivial⟩ ⟨?_,⟨?_,⟨zaa ?_,trivial⟩⟩⟩ (fun x=>rfl) (fun x hg2=>?_);focus (rfl)
  iterate 2 focus (first|rfl|(simp[getH];done))
  focus (rfl)
  obtain⟨pre,rest,q,ks⟩:=x;dsimp only at hg2 ⊢;refine evc [] [9,11] ?_;refine sq ?_ ?_<;>intro h6 h6p h6s;try simp only[Q] at h6p
  rcases rest with _|⟨y,rest⟩
  ·exfalso;simp_all
  have hfw3:=hfw (by omega);have hpm:pre.length*bdV n≤2*bdV n:=Nat.mul_le_mul_right _ (by have hz:=congrArg List.length hg2.1;have:=hfw (by omega);simp at hz;omega);refine xaV zaT .none rfl rfl rfl rfl (zaE hg2.1) rfl ?_;refine evd [] [] ?_;refine ar ?_;refine wd zp4 (ziO hb hd hf n (a:=y.data) (k:=y.index) (m:=m-1) (p:=q) (hkid (by omega) y (by rw[←hg2.1];simp)) (by omega) (by omega) (by omega)) rfl rfl ⟨rfl,trivial⟩ ?_;refine si [0] [_] sl49 tz62 ?_;refine ap sl49 zz62 rfl rfl rfl (by simp) (by(have hz:=congrArg List.length hg2.1;have:=hfw (by omega);simp at hz ⊢;omega)) ?_;refine evd [] [] ?_;refine so ty49 ?_;refine dr ?_;refine ar ?_;refine Exists.intro ((pre++[y],rest,(zbQ b w (zak w) n y (m-1) q).2,ks++[(zbQ b w (zak w) n y (m-1) q).1])) ⟨⟨(by have hz:=hg2.1;rw[←hz];simp),⟨(by have:=(hok y q (hkid (by omega) y (by rw[←hg2.1];simp))).1;simp only[xaa,xab,xah,Nat.add_mul];omega),(by simp[hg2.2.2.1]),(by rw[←hg2.2.2.2];simp[dV])⟩⟩,(by simp),sx ⟨⟨_,rfl,xap ?_⟩,trivial⟩ ⟨?_,⟨?_,⟨zaa ?_,trivial⟩⟩⟩⟩;focus ((simp;done))
  iterate 2 focus (first|rfl|(simp[getH];done))
  focus ((simp;done))
  try simp only[Q] at h6p
  have hrest:rest=[]:=by
   rcases rest with _|⟨a,b⟩
   ·rfl
   ·exfalso;have hz:=congrArg List.length (hg2.1);simp only[xaa,xab,xac] at hz;omega
  subst hrest;refine so ty62 ?_;refine tv ?_;refine rn [(900,some (rdB b (zbQ b w (zak w) (n+1) ⟨a,k⟩ m p).2))] (.cons (.cellA ty62 rfl rfl rfl) .nil) (.agg (.cons (.eqd ?_) (.cons (.eqd ?_) (.cons (.gld ?_) .nil)))) ⟨rfl,rfl⟩ (SubO.get ⟨.inr ?_,⟨.inl rfl,trivial⟩⟩) (zav rfl);rotate_left 4;all_goals (((first|(rw[hdm (by omega)];all_goals rfl)|(rw[hdm2 (by omega)];have hfin:=hg2.2.2.2;simp only[dV,List.append_nil] at hfin;rw[←hfin];all_goals first|rfl|(show _=D.sl (Val.cs _);rw[Val.cs_cc];all_goals rfl)|(show _=Val.cs _;rw[Val.cs_cc];all_goals rfl)));done))
end Go.Proofs.YtcnjkjdmbnhcaaaGreat
namespace Go.Proofs.YtcnjkjdmbnhcaaaGreat
open Go
set_option linter.unusedSimpArgs false
set_option linter.unusedVariables false
set_option maxRecDepth 1000000
end Go.Proofs.YtcnjkjdmbnhcaaaGreat
namespace Go.Proofs.YtcnjkjdmbnhcaaaGreat
open Go
set_option linter.unusedSimpArgs false
set_option linter.unusedVariables false
set_option maxRecDepth 100000
def uv (x:Int):Int:=if x=3 then 1 else if x=0∨x=1 then 0 else -1
def fN (y:Nat):Nat:=(y ^^^ (y / 64)) % 24
def uN (y:Nat):Int:=uv (fN y:Int)
def wS (D:Nat):Nat→Nat→Int
 |0,_=>0
 |n+1,y=>uN y+wS D n (y+D)
theorem znR (D:Nat):∀m n y,wS D (m+n) y=wS D m y+wS D n (y+m*D)
 |0,n,y=>by simp[wS]
 |m+1,n,y=>by
  rw[show m+1+n=(m+n)+1 by omega];simp only[wS];rw[znR D m n (y+D),show y+D+m*D=y+(m+1)*D by rw[Nat.add_mul];omega];omega
def g8 (r:Nat):Nat:=(r % 8) ^^^ (r / 64 % 8)
theorem zxR (y:Nat):fN y % 8=g8 (y % 512):=by
 unfold fN g8;rw[Nat.mod_mod_of_dvd _ (by decide),show(8:Nat)=2 ^ 3 from rfl,Nat.xor_mod_two_pow];congr 1
 ·omega
 ·omega
def um (r:Nat):Int:=if r=3 then 1 else if r=0∨r=1 then 0 else -1
theorem zpU (y:Nat):uN y≤um (g8 (y % 512)):=by
 rw[←zxR];have h:fN y<24:=Nat.mod_lt _ (by omega);unfold uN;generalize fN y=x at *;have key:∀x:Nat,x<24→uv (x:Int)≤um (x % 8):=by decide
 exact key x h
def zyg:Bool:=(List.range 512).all fun r=>[128,384].all fun E=>decide (um (g8 r)+um (g8 ((r+E) % 512))+um (g8 ((r+2*E) % 512))+um (g8 ((r+3*E) % 512))≤ -1)
theorem zvh:zyg=true:=by kernel_rfl
theorem quad {E:Nat} (hE:E % 512=128∨E % 512=384) (y:Nat):uN y+uN (y+E)+uN (y+2*E)+uN (y+3*E)≤ -1:=by
 have h:=List.all_eq_true.1 zvh (y % 512) (List.mem_range.2 (Nat.mod_lt _ (by omega)));have h2:=List.all_eq_true.1 h (E % 512) (by rcases hE with e|e<;>rw[e]<;>simp);have h3:=of_decide_eq_true h2;have a0:=zpU y;have a1:=zpU (y+E);have a2:=zpU (y+2*E);have a3:=zpU (y+3*E);rw[show(y+E) % 512=(y % 512+E % 512) % 512 by omega] at a1;rw[show(y+2*E) % 512=(y % 512+2*(E % 512)) % 512 by omega] at a2;rw[show(y+3*E) % 512=(y % 512+3*(E % 512)) % 512 by omega] at a3;omega
theorem zvU {D E:Nat} (hE:E % 512=128∨E % 512=384):∀n y,wS D n y+wS D n (y+E)+wS D n (y+2*E)+wS D n (y+3*E)≤ -n
 |0,y=>by simp[wS]
 |n+1,y=>by
  have h1:=quad hE y;have h2:=zvU (D:=D) hE n (y+D);simp only[wS];rw[show y+E+D=y+D+E by omega,show y+2*E+D=y+D+2*E by omega,show y+3*E+D=y+D+3*E by omega];omega
theorem four {D h:Nat} (hE:h*D % 512=128∨h*D % 512=384) (y:Nat):wS D (h+(h+(h+h))) y≤ -h:=by
 have:=zvU (D:=D) hE h y;rw[znR,znR,znR,show y+h*D+h*D=y+2*(h*D) by omega,show y+2*(h*D)+h*D=y+3*(h*D) by omega];omega
end Go.Proofs.YtcnjkjdmbnhcaaaGreat
namespace Go.Proofs.YtcnjkjdmbnhcaaaGreat
open Go
set_option linter.unusedSimpArgs false
set_option linter.unusedVariables false
set_option maxRecDepth 100000
set_option maxHeartbeats 2000000
def mutV (b:Str):Nat→Nat→Val→Option (Val×Nat)
 |0,_,_=>none
 |n+1,p,v=>
  if zao b p 24=0 then some (.mk (numV b (p+1) [0,1,-1,9,-2]) v.num v.kids,p+2)
  else if zao b p 24=1 then some (.mk v.ctor (numV b (p+1) [10,-1,1]) v.kids,p+2)
  else if zao b p 24=2 then some (.mk v.ctor v.num (v.kids++[.mk (-1) 0 []]),p+1)
  else if zao b p 24=3 then
   match v.kids with
   | []=>some (.mk v.ctor v.num v.kids,p+1)
   |k::r=>
    match mutV b n (p+1) k with
    |none=>none
    |some (k1,p1)=>
     match mutV b n p1 k1 with
     |none=>none
     |some (k2,p2)=>some (.mk v.ctor v.num (k2::r),p2)
  else some (.mk v.ctor v.num v.kids,p+1)
theorem xax:∀a b:List Val,Vals.size (a++b)=Vals.size a+Vals.size b
 | [],b=>by simp[Vals.size]
 |x::r,b=>by simp only[xag,Vals.size,xax r b];omega
theorem xav (a n:Int) (k:List Val):(Val.mk a n k).size=1+Vals.size k:=rfl
theorem zwq {b:Str}{n p:Nat}{v:Val}{k:Val}{r:List Val} (h:zao b p 24=3) (hk:v.kids=k::r){v':Val}{q:Nat} (hm:mutV b (n+1) p v=some (v',q)):
  ∃k1 p1 k2,mutV b n (p+1) k=some (k1,p1)∧mutV b n p1 k1=some (k2,q)∧v' = .mk v.ctor v.num (k2::r):=by
 simp only[mutV] at hm;rw[if_neg (by omega),if_neg (by omega),if_neg (by omega),if_pos h,hk] at hm;cases h1:mutV b n (p+1) k with
 |none=>simp[h1] at hm
 |some x=>
  obtain⟨k1,p1⟩:=x;cases h2:mutV b n p1 k1 with
  |none=>simp[h1,h2] at hm
  |some y=>
   obtain⟨k2,p2⟩:=y;simp only[h1,h2,Option.some.injEq,Prod.mk.injEq] at hm;obtain⟨rfl,rfl⟩:=hm;exact⟨k1,p1,k2,rfl,h2,rfl⟩
theorem zog {b:Str}:∀ {n:Nat}{p:Nat}{v v':Val}{q:Nat},mutV b n p v=some (v',q)→p<q∧v'.size≤v.size+(q-p)
 |0,p,v,v',q,h=>by simp[mutV] at h
 |n+1,p,v,v',q,h=>by
  have hv:=Val.size_eq v;by_cases h3:zao b p 24=3
  ·cases hk:v.kids with
   |nil=>
    simp only[mutV] at h;rw[if_neg (by omega),if_neg (by omega),if_neg (by omega),if_pos h3,hk] at h;simp only[Option.some.injEq,Prod.mk.injEq] at h;obtain⟨rfl,rfl⟩:=h;rw[xav];simp only[Vals.size];omega
   |cons k r=>
    obtain⟨k1,p1,k2,h1,h2,rfl⟩:=zwq h3 hk h;have a1:=zog h1;have a2:=zog h2;rw[hk] at hv;rw[xav];simp only[Vals.size] at hv ⊢;omega
  ·simp only[mutV] at h;split at h
   ·simp only[Option.some.injEq,Prod.mk.injEq] at h;obtain⟨rfl,rfl⟩:=h;rw[xav];omega
   split at h
   ·simp only[Option.some.injEq,Prod.mk.injEq] at h;obtain⟨rfl,rfl⟩:=h;rw[xav];omega
   split at h
   ·simp only[Option.some.injEq,Prod.mk.injEq] at h;obtain⟨rfl,rfl⟩:=h;rw[xav,xax];simp only[Vals.size,Val.size];omega
   ·simp only[Option.some.injEq,Prod.mk.injEq] at h;obtain⟨rfl,rfl⟩:=h;rw[xav];omega
def zfK (b:Str) (p:Nat):Ty:=⟨zao b (p+1) (zbC b p).length,numV b (p+2) [0,0,1,2]⟩
def typT (b:Str) (p:Nat):Ty:=if dv (zak (zbC b p)) (zfK b p)=0 then ⟨-1,0⟩ else zfK b p
def typV (b:Str) (p:Nat):Val×Nat:=zbQ b (zbC b p) (zak (zbC b p)) 4 (typT b p) (numV b (p+3) [3,2,4,1]) (p+4)
theorem zxT {n:Nat}{a k:Int} (h1:0≤a) (h2:a<n) (h3:0≤k) (h4:k≤3):InS (n*4) ⟨a,k⟩:=by
 refine .inr ⟨?_, ?_⟩
 ·simp only[zcy];omega
 ·obtain⟨i,rfl⟩:=Int.eq_ofNat_of_zero_le h1;obtain⟨m,rfl⟩:=Int.eq_ofNat_of_zero_le h3;simp only[zcy,Int.toNat_natCast];exact zhR (by omega)
theorem zws (b:Str) (p:Nat):0≤numV b p [0,0,1,2]∧numV b p [0,0,1,2]≤3:=by
 have:=zlT (b:=b) (p:=p) (l:=[0,0,1,2]) (by simp);simp only[List.mem_cons,List.not_mem_nil,or_false] at this;omega
theorem zrl (b:Str) (p:Nat):InS ((zbC b p).length*4) (zfK b p):=by
 have h1:=zcM (b:=b) (p:=p+1) (n:=((zbC b p).length:Int)) (by have:=(zgH b p).one;omega);have h2:=zws b (p+2);exact zxT h1.1 h1.2 h2.1 h2.2
theorem zkK (b:Str) (p:Nat):Deep (zbC b p) 4 (typT b p) (numV b (p+3) [3,2,4,1]):=by
 have hl:=zfL b p;have h4:=num4 b (p+3);unfold typT;split
 ·exact⟨.inl rfl,by simp[dv],by simp[dv],by omega⟩
 ·rename_i h;have:=zpK (f:=zak (zbC b p)) (b:=3) hl.low (by omega) (zfK b p);exact⟨zrl b p,by omega,by omega,by omega⟩
theorem zsk (b:Str) (p:Nat):(typV b p).2≤p+44∧(typV b p).1.size≤121∧(typV b p).1.ok:=by
 have hl:=zfL b p;have h:=zi2 (b:=b) hl.dp hl.few 4 (typT b p) (numV b (p+3) [3,2,4,1]) (p+4) (zkK b p);have e1:bdV 4=40:=by decide
 have e2:szV 4=121:=by decide
 unfold typV;exact⟨by omega,by omega,h.2.2⟩
theorem znx {b:Str}{p:Nat} (hb:b.length≤2000) (hp:p≤100000):
  FnD Tryz.prog 106 [.ref 900 0] [(900,some (rdB b p))] (.tup [.d (zaj (zbC b p)),.agg [.d (.i (typT b p).data),.d (.i (typT b p).index)],.agg [.d (.i (typV b p).1.ctor),.d (.i (typV b p).1.num),.d (zbH (typV b p).1.kids)]]) [(900,some (rdB b (typV b p).2))]:=by
 have ho:=zgH b p;have hl:=zfL b p;have h4:=num4 b (p+3);have hin:=zrl b p;have hdeep:=zkK b p;have hT:typT b p=if dv (zak (zbC b p)) (zfK b p)=0 then ⟨-1,0⟩ else zfK b p:=rfl
 have hV:typV b p=zbQ b (zbC b p) (zak (zbC b p)) 4 (typT b p) (numV b (p+3) [3,2,4,1]) (p+4):=rfl;have e1:bdV 4=40:=by decide
 have hwd:=znw (p:=p) hb (by omega);have hpk:=zaR (b:=b) (p:=p+1) (n:=(((zbC b p).map Data.c).length:Int)) hb (by omega) (by have:=ho.small.len;simp;omega);rw[show zao b (p+1) (((zbC b p).map Data.c).length:Int)=(zfK b p).data by rw[xac];rfl] at hpk;have hnu:=zbN (b:=b) (p:=p+2) (l:=[0,0,1,2]) hb (by omega) (by simp) (by simp);rw[show numV b (p+2) [0,0,1,2]=(zfK b p).index from rfl] at hnu;have hdr:=fun(t:Ty) (h:Deep (zbC b p) 4 t (numV b (p+3) [3,2,4,1]))=>ziO hb hl.dp hl.few 4 (a:=t.data) (k:=t.index) (p:=p+4) h (by omega) (by omega) (by omega);have hdp:=zeh (f:=zak (zbC b p)) (a:=(zfK b p).data) (k:=(zfK b p).index) hin (by have:=hl.dp.four;omega);have htb:=zib hl.dp;generalize zbC b p=w at *;generalize zfK b p=t0 at *;obtain⟨a0,k0⟩:=t0;have hdr2:=hdr ⟨-1,0⟩;have hdr3:=hdr ⟨a0,k0⟩;clear hdr;dsimp only at hT hV hdr2 hdr3;refine bd Tryz.f106 35 [] [] fun w0 F0 own kept hk=>?_;refine ab 3003 tz33 ?_;refine ab 3004 tz62 ?_;refine tv ?_;refine wd zw6 (hwd) rfl rfl ⟨rfl,trivial⟩ ?_;refine ev ?_;refine wc ztf (htb) rfl rfl ?_;refine ev ?_;refine wd zb9 (hpk) rfl rfl ⟨rfl,trivial⟩ ?_;refine ev ?_;refine si [0,1,2,3] [_,_,_,_] zaW tz3 ?_;refine wd zdZ (hnu) rfl rfl ⟨rfl,trivial⟩ ?_;refine bu [0,1] [_,_] st33 ?_;refine ab 3007 tz33 ?_;refine so ty33 ?_;refine tv ?_;refine wc zjO (hdp) rfl rfl ?_;refine ev ?_;refine sq ?_ ?_<;>intro h1 h1p h1s;try simp only[Q] at h1p
 have HDR:=hdr2 (by rw[if_pos (by omega)] at hT;rw[←hT];exact hdeep);refine bu [0] [_] st33 ?_;refine so ty33 ?_;refine tv ?_;refine si [0,1,2,3] [_,_,_,_] zaW tz3 ?_;refine wd zdZ (zbN (b:=b) (p:=p+3) (l:=[3,2,4,1]) hb (by omega) (by simp) (by simp)) rfl rfl ⟨rfl,trivial⟩ ?_;refine wd zp4 (HDR) rfl rfl ⟨rfl,trivial⟩ ?_;refine evd [] [] ?_;refine so ty33 ?_;refine so ty62 ?_;refine dr ?_;refine rn [(900,some (rdB b (typV b p).2))] (.cons (.tmp rfl) (.cons (.cellA ty33 rfl rfl rfl) (.cons (.cellA ty62 rfl rfl rfl) .nil))) (.tup (.cons (.eqd ?_) (.cons (.agg (.cons (.eqd ?_) (.cons (.eqd ?_) .nil))) (.cons (.agg (.cons (.eqd ?_) (.cons (.eqd ?_) (.cons (.eqd ?_) .nil)))) .nil)))) ⟨rfl,rfl⟩ (SubO.get ⟨.inr ?_,⟨.inl rfl,trivial⟩⟩) (zav rfl);rotate_left 7;try simp only[Q] at h1p
 have HDR:=hdr3 (by rw[if_neg (by omega)] at hT;rw[←hT];exact hdeep);refine si [0,1,2,3] [_,_,_,_] zaW tz3 ?_;refine wd zdZ (zbN (b:=b) (p:=p+3) (l:=[3,2,4,1]) hb (by omega) (by simp) (by simp)) rfl rfl ⟨rfl,trivial⟩ ?_;refine wd zp4 (HDR) rfl rfl ⟨rfl,trivial⟩ ?_;refine evd [] [] ?_;refine so ty33 ?_;refine so ty62 ?_;refine dr ?_;refine rn [(900,some (rdB b (typV b p).2))] (.cons (.tmp rfl) (.cons (.cellA ty33 rfl rfl rfl) (.cons (.cellA ty62 rfl rfl rfl) .nil))) (.tup (.cons (.eqd ?_) (.cons (.agg (.cons (.eqd ?_) (.cons (.eqd ?_) .nil))) (.cons (.agg (.cons (.eqd ?_) (.cons (.eqd ?_) (.cons (.eqd ?_) .nil)))) .nil)))) ⟨rfl,rfl⟩ (SubO.get ⟨.inr ?_,⟨.inl rfl,trivial⟩⟩) (zav rfl);rotate_left 7;all_goals (first|((first|(rw[if_pos (by omega)] at hT;rw[hV,hT];all_goals rfl)|(rw[if_neg (by omega)] at hT;rw[hV,hT];all_goals rfl)|(rw[if_pos (by omega)] at hT;rw[hT];all_goals rfl)|(rw[if_neg (by omega)] at hT;rw[hT];all_goals rfl)|rfl);done)|(first|(rw[if_pos (by omega)] at hT;rw[hV,hT];all_goals rfl)|(rw[if_neg (by omega)] at hT;rw[hV,hT];all_goals rfl)))
mutual
theorem Val.ok_sz:∀v:Val,v.size≤1000000000000→v.ok
 | .mk a n ks,h=>by
  have h1:1+Vals.size ks≤1000000000000:=h;exact⟨by have:=xaw ks;omega,Vals.ok_sz ks (by omega)⟩
theorem Vals.ok_sz:∀l:List Val,Vals.size l≤1000000000000→Vals.ok l
 | [],_=>trivial
 |v::r,h=>by
  have h1:v.size+Vals.size r≤1000000000000:=h;exact⟨Val.ok_sz v (by omega),Vals.ok_sz r (by omega)⟩
theorem xaw:∀l:List Val,l.length≤Vals.size l
 | []=>Nat.zero_le _
 |v::r=>by
  have h1:=xaw r;have h2:=Val.size_eq v;show r.length+1≤v.size+Vals.size r
  omega
end
theorem Val.cs_app (a b:List Val):Val.cs (a++b)=Val.cs a++Val.cs b:=by rw[Val.cs_eq,Val.cs_eq,Val.cs_eq,xaf]
structure MutOf (b:Str) (p:Nat) (v v':Val) (q:Nat):Prop where
 some_:∃n,mutV b n p v=some (v',q)
 q:q≤3010000
theorem MutOf.size {b:Str}{p:Nat}{v v':Val}{q:Nat} (h:MutOf b p v v' q):v'.size≤v.size+3010000:=by
 obtain⟨n,hn⟩:=h.some_;have:=zog hn;have:=h.q;omega
def g0:Gd:=⟨0,0,0⟩
def zcd (b:Str) (x:Vt) (g:Gd) (q:Nat):Gd×Nat:=if x.ty.data = -1 then (if zao b q 2=0 then (⟨1+zao b (q+1) 2,x.var,zao b (q+2) 10⟩,q+3) else (g,q+1)) else (g,q)
def gdL (b:Str):List Vt→Gd→Nat→Gd×Nat
 | [],g,q=>(g,q)
 |x::r,g,q=>gdL b r (zcd b x g q).1 (zcd b x g q).2
theorem zi6 {b:Str}{x:Vt}{g:Gd}{q:Nat} (h:x.ty.data = -1) (h2:zao b q 2=0):zcd b x g q=(⟨1+zao b (q+1) 2,x.var,zao b (q+2) 10⟩,q+3):=by unfold zcd;rw[if_pos h,if_pos h2]
theorem zi7 {b:Str}{x:Vt}{g:Gd}{q:Nat} (h:x.ty.data = -1) (h2:¬zao b q 2=0):zcd b x g q=(g,q+1):=by unfold zcd;rw[if_pos h,if_neg h2]
theorem zi8 {b:Str}{x:Vt}{g:Gd}{q:Nat} (h:¬x.ty.data = -1):zcd b x g q=(g,q):=by unfold zcd;rw[if_neg h]
theorem zh0 (b:Str) (x:Vt) (g:Gd) (q:Nat):q≤(zcd b x g q).2∧(zcd b x g q).2≤q+3:=by unfold zcd;split;split;all_goals (dsimp only;omega)
theorem zqy (b:Str):∀(l:List Vt) (g:Gd) (q:Nat),(gdL b l g q).2≤q+3*l.length
 | [],g,q=>by simp[gdL]
 |x::r,g,q=>by
  unfold gdL;have h1:=zh0 b x g q;have h2:=zqy b r (zcd b x g q).1 (zcd b x g q).2;simp only[xab];omega
def clD (b:Str) (w:List Data) (t:Ty) (q:Nat):Cl×Nat:=
 (⟨zbI b w t q,(gdL b (zeC w t (zbI b w t q)) g0 (zcC b w t q).2.2).1⟩,(gdL b (zeC w t (zbI b w t q)) g0 (zcC b w t q).2.2).2)
theorem zwj {w:List Data}{t:Ty}:isP w t anyP=true:=by
 have e:zad w t anyP=[]:=by unfold zad;rw[if_neg (by decide),if_neg (by decide),if_neg (by decide)]
 have ho:ownP w t anyP=true:=by simp[ownP,anyP,Pat.op,Pat.n,Pat.m,Pat.var,Pat.ctor]
 have h:zar w 10 t anyP=true:=by
  show(ownP w t anyP&&all2 _ (zad w t anyP) anyP.kids)=true
  rw[e,ho];rfl
 have h2:anyP.size=1:=ziv.1;have h3:linP w 10 t anyP=true:=by
  unfold linP;rw[e];rfl
 unfold isP;rw[h,h3,h2];rfl
theorem zrG (b:Str) (w:List Data) (t:Ty) (q:Nat):isP w t (zbI b w t q)=true:=by
 unfold zbI;split
 ·assumption
 ·exact zwj
theorem ztH {b:Str}{w:List Data} (hf:Few w){t:Ty} (ht:TyIn w.length t) (q:Nat):(clD b w t q).2≤q+518∧(clD b w t q).1.pat.size≤242∧(clD b w t q).1.pat.ok:=by
 have h1:=zh7 (b:=b) hf ht q;have h2:=znl (b:=b) hf ht q;have h3:=zjr w t (zbI b w t q);have h4:=zqy b (zeC w t (zbI b w t q)) g0 (zcC b w t q).2.2;exact⟨by unfold clD;dsimp only;omega,h2⟩
theorem zl2 {b:Str}{w:List Data} (hb:b.length≤2000) (hw:WT w) (hf:Few w){a k:Int}{p:Nat} (hp:p≤100000) (ht:TyIn w.length ⟨a,k⟩):
  FnD Tryz.prog 174 [.ref 900 0,.d (zaj w),.agg [.d (.i a),.d (.i k)]] [(900,some (rdB b p))]
   (.agg [.d (.i (clD b w ⟨a,k⟩ p).1.pat.op),.d (.i (clD b w ⟨a,k⟩ p).1.pat.ctor),.d (.i (clD b w ⟨a,k⟩ p).1.pat.n),.d (.i (clD b w ⟨a,k⟩ p).1.pat.m),.d (.i (clD b w ⟨a,k⟩ p).1.pat.var),.d (zae (clD b w ⟨a,k⟩ p).1.pat.kids),.d (.i (clD b w ⟨a,k⟩ p).1.g.op),.d (.i (clD b w ⟨a,k⟩ p).1.g.var),.d (.i (clD b w ⟨a,k⟩ p).1.g.n)])
   [(900,some (rdB b (clD b w ⟨a,k⟩ p).2))]:=by
 have h1:=zh7 (b:=b) hf ht p;have h2:=znl (b:=b) hf ht p;have h3:=zjr w ⟨a,k⟩ (zbI b w ⟨a,k⟩ p);have hip:=zrG b w ⟨a,k⟩ p;have hsh:zar w 10 ⟨a,k⟩ (zbI b w ⟨a,k⟩ p)=true:=by unfold isP at hip;simp only[xad] at hip;exact hip.1
 have hva:=zdr hw hsh (by omega) ht h2.2 (by omega);rw[←zpr hip] at hva;have hso:=zow hb hw hf hp ht;have hgb:=zqy b;have hpb:=fun q=>zcM (b:=b) (p:=q) (n:=2) (by omega);unfold clD;dsimp only;generalize zbI b w ⟨a,k⟩ p=pt at *;generalize zeC w ⟨a,k⟩ pt=L at *;generalize (zcC b w ⟨a,k⟩ p).2.2=q0 at *;refine bd Tryz.f174 51 [] [] fun w0 F0 own kept hk=>?_;refine bx 3005 ?_;refine ab 3006 tz60 ?_;refine tv ?_;refine wd zxp (hso) rfl rfl ⟨rfl,trivial⟩ ?_;refine bu [0] [_] st60 ?_;refine ab 3007 tz60 ?_;refine so ty60 ?_;refine tv ?_;refine wc zhu (hva) rfl rfl ?_;refine ev ?_;refine xaj (ι:=List (Vt)×List (Vt)×(Nat)×(Gd)) hk (fun x=>[(9,.d (.i (x.1.length:Int)))]) [20,21,22,23,24,25,26,27,28,29,30,31,32,33,34,35,36,37,38,39,40,41,42,43,44,45,46,47,48,49] (fun x=>[(900,some (.box [.d (zb0 b),.d (.i (x.2.2.1:Int))])),(3007,some (.box [.d (.i pt.op),.d (.i pt.ctor),.d (.i pt.n),.d (.i pt.m),.d (.i pt.var),.d (zae pt.kids),.d (.i x.2.2.2.op),.d (.i x.2.2.2.var),.d (.i x.2.2.2.n)]))]) (fun x=>x.1++x.2.1=L∧x.2.2.1≤q0+3*x.1.length∧gdL b x.2.1 x.2.2.2 x.2.2.1=gdL b L g0 q0) (fun x=>x.2.1.length) ([],L,q0,g0) ⟨by simp,by simp,rfl⟩ ⟨⟨_,rfl,xap ?_⟩,trivial⟩ ⟨?_,⟨?_,trivial⟩⟩ (fun x=>rfl) (fun x hg1=>?_);focus (first|rfl|(simp;done)|omega)
 iterate 2 focus (first|rfl|(rw[zi6 (by omega) (by omega)];all_goals rfl)|(rw[zi7 (by omega) (by omega)];all_goals rfl)|(rw[zi8 (by omega)];all_goals rfl))
 obtain⟨pre,rest,q,g⟩:=x;dsimp only at hg1 ⊢;refine evc [] [] ?_;refine sq ?_ ?_<;>intro h1 h1p h1s;try simp only[Q] at h1p
 rcases rest with _|⟨y,rest⟩
 ·exfalso;simp_all
 have hpl:pre.length≤6:=(by have hz:=congrArg List.length hg1.1;simp at hz;omega);refine xaV zdb .none rfl rfl rfl rfl (zaE hg1.1) rfl ?_;refine ev ?_;refine sq ?_ ?_<;>intro h2 h2p h2s;try simp only[Q] at h2p
 refine Walk.call (cr:=[]) zb9 (zaR (p:=q) (n:=2) hb (by omega) (by omega)) rfl (.some rfl rfl h2) rfl rfl (LeL.refl _) ⟨rfl,trivial⟩ rfl rfl rfl ?_;refine evs [] [(33,true)] ?_ ⟨⟨_,rfl,h2⟩,trivial⟩;refine sq ?_ ?_<;>intro h3 h3p h3s;try simp only[Q] at h3p
 refine wd zb9 (zaR (p:=q+1) (n:=2) hb (by omega) (by omega)) rfl rfl ⟨rfl,trivial⟩ ?_;refine evd [] [] ?_;refine ar ?_ (by have:=hpb (q+1);constructor<;>omega);refine xaV zdb .none rfl rfl rfl rfl (zaE hg1.1) rfl ?_;refine evd [] [] ?_;refine wd zb9 (zaR (p:=q+2) (n:=10) hb (by omega) (by omega)) rfl rfl ⟨rfl,trivial⟩ ?_;refine bu [0,1,2] [_,_,_] st58 ?_;refine evd [] [] ?_;refine so ty58 ?_;refine dr ?_;refine ar ?_ (by have:=hpb (q+1);constructor<;>omega);refine Exists.intro ((pre++[y],rest,(zcd b y g q).2,(zcd b y g q).1)) ⟨⟨(by have hz:=hg1.1;rw[←hz];simp),⟨(by have:=zh0 b y g q;simp only[xaa,xab,xah];omega),(by rw[←hg1.2.2];simp[gdL])⟩⟩,(by simp),sx ⟨⟨_,rfl,xap ?_⟩,trivial⟩ ⟨?_,⟨?_,trivial⟩⟩⟩;focus (first|rfl|(simp;done)|omega)
 iterate 2 focus (first|rfl|(rw[zi6 (by omega) (by omega)];all_goals rfl)|(rw[zi7 (by omega) (by omega)];all_goals rfl)|(rw[zi8 (by omega)];all_goals rfl))
 try simp only[Q] at h3p
 refine ar ?_ (by have:=hpb (q+1);constructor<;>omega);refine Exists.intro ((pre++[y],rest,(zcd b y g q).2,(zcd b y g q).1)) ⟨⟨(by have hz:=hg1.1;rw[←hz];simp),⟨(by have:=zh0 b y g q;simp only[xaa,xab,xah];omega),(by rw[←hg1.2.2];simp[gdL])⟩⟩,(by simp),sx ⟨⟨_,rfl,xap ?_⟩,trivial⟩ ⟨?_,⟨?_,trivial⟩⟩⟩;focus (first|rfl|(simp;done)|omega)
 iterate 2 focus (first|rfl|(rw[zi6 (by omega) (by omega)];all_goals rfl)|(rw[zi7 (by omega) (by omega)];all_goals rfl)|(rw[zi8 (by omega)];all_goals rfl))
 try simp only[Q] at h2p
 refine sqF ?_;refine ar ?_ (by have:=hpb (q+1);constructor<;>omega);refine Exists.intro ((pre++[y],rest,(zcd b y g q).2,(zcd b y g q).1)) ⟨⟨(by have hz:=hg1.1;rw[←hz];simp),⟨(by have:=zh0 b y g q;simp only[xaa,xab,xah];omega),(by rw[←hg1.2.2];simp[gdL])⟩⟩,(by simp),sx ⟨⟨_,rfl,xap ?_⟩,trivial⟩ ⟨?_,⟨?_,trivial⟩⟩⟩;focus (first|rfl|(simp;done)|omega)
 iterate 2 focus (first|rfl|(rw[zi6 (by omega) (by omega)];all_goals rfl)|(rw[zi7 (by omega) (by omega)];all_goals rfl)|(rw[zi8 (by omega)];all_goals rfl))
 try simp only[Q] at h1p
 have hrest:rest=[]:=by
  rcases rest with _|⟨a,b⟩
  ·rfl
  ·exfalso;have hz:=congrArg List.length (hg1.1);simp only[xaa,xab,xac] at hz;omega
 subst hrest;refine so ty60 ?_;refine tv ?_;refine rn [(900,some (rdB b (gdL b L g0 q0).2))] (.cons (.cellA ty60 rfl rfl rfl) .nil) (.agg (.cons (.eqd ?_) (.cons (.eqd ?_) (.cons (.eqd ?_) (.cons (.eqd ?_) (.cons (.eqd ?_) (.cons (.eqd ?_) (.cons (.eqd ?_) (.cons (.eqd ?_) (.cons (.eqd ?_) .nil)))))))))) ⟨rfl,rfl⟩ (SubO.get ⟨.inr ?_,⟨.inl rfl,trivial⟩⟩) (zav rfl);rotate_left 10;all_goals (first|((first|rfl|(rw[←hg1.2.2,gdL];all_goals rfl));done)|(first|(rw[←hg1.2.2,gdL];all_goals rfl)|rfl))
def clL (b:Str) (w:List Data) (t:Ty):Nat→Nat→List Cl×Nat
 |0,q=>([],q)
 |n+1,q=>((clD b w t q).1::(clL b w t n (clD b w t q).2).1,(clL b w t n (clD b w t q).2).2)
def CSm (l:List Cl):Prop:=∀c∈l,c.pat.size≤400∧c.pat.ok
theorem ztI {b:Str}{w:List Data} (hf:Few w){t:Ty} (ht:TyIn w.length t):∀(n q:Nat),(clL b w t n q).2≤q+518*n∧(clL b w t n q).1.length=n∧CSm (clL b w t n q).1
 |0,q=>⟨by simp[clL],rfl,fun c hc=>by simp[clL] at hc⟩
 |n+1,q=>by
  have h1:=ztH (b:=b) hf ht q;have h2:=ztI (b:=b) hf ht n (clD b w t q).2;unfold clL;refine⟨by dsimp only;omega,by simp[h2.2.1],fun c hc=>?_⟩;rcases List.mem_cons.1 hc with rfl|hc
  ·exact⟨by omega,h1.2.2⟩
  ·exact h2.2.2 c hc
theorem num6 (b:Str) (p:Nat):0≤numV b p [3,2,4,5,1,0]∧numV b p [3,2,4,5,1,0]≤5:=by
 have:=zlT (b:=b) (p:=p) (l:=[3,2,4,5,1,0]) (by simp);simp only[List.mem_cons,List.not_mem_nil,or_false] at this;omega
def clS (b:Str) (w:List Data) (t:Ty) (q:Nat):List Cl×Nat:=clL b w t (numV b q [3,2,4,5,1,0]).toNat (q+1)
theorem zxK {b:Str}{w:List Data} (hf:Few w){t:Ty} (ht:TyIn w.length t) (q:Nat):(clS b w t q).2≤q+2591∧(clS b w t q).1.length≤5∧CSm (clS b w t q).1:=by
 have h:=ztI (b:=b) hf ht (numV b q [3,2,4,5,1,0]).toNat (q+1);have h2:=num6 b q;unfold clS;exact⟨by omega,by omega,h.2.2⟩
theorem zrm (b:Str) (p:Nat):TyIn (zbC b p).length (typT b p):=zb1 (zkK b p).ins
def rnL (b:Str):List Cl×Nat:=clS b (zbC b 0) (typT b 0) (typV b 0).2
theorem zuk (b:Str):(rnL b).2≤2700∧(rnL b).1.length≤5∧CSm (rnL b).1:=by
 have h1:=(zsk b 0).1;have h2:=zxK (b:=b) (zfL b 0).few (zrm b 0) (typV b 0).2;unfold rnL;exact⟨by omega,h2.2⟩
def anyC:Cl:=⟨⟨1,0,0,0,0,[]⟩,⟨0,0,0⟩⟩
def mutC (b:Str) (l:List Cl) (q:Nat):List Cl×Nat:=
 if zao b q 24=0 then (match l with
  | []=>([],q+1)
  |y::r=>(⟨y.pat,⟨numV b (q+1) [1,2,3,-1],numV b (q+2) [0,5,9],numV b (q+3) [3,10,-1]⟩⟩::r,q+4))
 else if zao b q 24=1 then (match l with
  | []=>([],q+1)
  |y::r=>(⟨(mutP b (mutP b y.pat (q+1)).1 (mutP b y.pat (q+1)).2).1,y.g⟩::r,(mutP b (mutP b y.pat (q+1)).1 (mutP b y.pat (q+1)).2).2))
 else if zao b q 24=2 then (l++List.replicate (9-l.length) anyC,q+1)
 else (l,q+1)
theorem zqR (b:Str) (p:Pat) (q:Nat):(mutP b p q).2≤q+2:=by
 unfold mutP;repeat' split
 all_goals (dsimp only;omega)
theorem zof {b:Str}{p:Pat}{q m:Nat} (hs:p.size≤m) (hm:m≤1000) (hok:p.ok):(mutP b p q).1.size≤m+1∧(mutP b p q).1.ok:=by
 have hv:zcc.size=1∧zcc.ok:=⟨by rw[Pat.size_eq];rfl,by rw[Pat.ok_iff];exact⟨by simp[zcc,Pat.kids],trivial⟩⟩;refine⟨?_,(zwp (by omega) hok).2⟩;have h0:=Pat.size_eq p;have same:∀a c n m' v:Int,(Pat.mk a c n m' v p.kids).size≤m+1:=fun a c n m' v=>by
  rw[Pat.size_eq];show 1+Pats.size p.kids≤_;omega
 unfold mutP;split;exact same _ _ _ _ _
 split;exact same _ _ _ _ _
 split;exact same _ _ _ _ _
 split
 ·dsimp only;rw[Pat.size_eq];show 1+Pats.size (p.kids++[zcc])≤_;rw[xau];omega
 split
 ·dsimp only;rw[Pat.size_eq];show 1+Pats.size (p.kids.set 0 zcc)≤_;have:=zok (x:=zcc) (l:=p.kids) (i:=0);omega
 split;exact same _ _ _ _ _
 exact same _ _ _ _ _
theorem zwo {b:Str}{l:List Cl}{q:Nat} (h:CSm l) (hl:l.length≤6):(mutC b l q).2≤q+5∧(mutC b l q).1.length≤9∧∀c∈(mutC b l q).1,c.pat.size≤4000∧c.pat.ok:=by
 have hs:∀c∈l,c.pat.size≤4000∧c.pat.ok:=fun c hc=>⟨by have:=(h c hc).1;omega,(h c hc).2⟩;unfold mutC;split
 ·cases l with
  |nil=>exact⟨by simp,by simp,by simp⟩
  |cons y r=>
   simp only[xab] at hl;refine⟨by simp,by simp;omega,fun c hc=>?_⟩;rcases List.mem_cons.1 hc with rfl|hc
   ·exact hs y (by simp)
   ·exact hs c (by simp[hc])
 split
 ·cases l with
  |nil=>exact⟨by simp,by simp,by simp⟩
  |cons y r=>
   have h1:=h y (by simp);have h2:=zqR b y.pat (q+1);have h3:=zqR b (mutP b y.pat (q+1)).1 (mutP b y.pat (q+1)).2;simp only[xab] at hl;refine⟨by dsimp only;omega,by simp;omega,fun c hc=>?_⟩;rcases List.mem_cons.1 hc with rfl|hc
   ·have h4:=zof (b:=b) (p:=y.pat) (q:=q+1) (m:=400) h1.1 (by omega) h1.2;have h5:=zof (b:=b) (p:=(mutP b y.pat (q+1)).1) (q:=(mutP b y.pat (q+1)).2) (m:=401) h4.1 (by omega) h4.2;exact⟨by have:=h5.1;dsimp only;omega,h5.2⟩
   ·exact hs c (by simp[hc])
 split
 ·refine⟨by simp,by simp;omega,fun c hc=>?_⟩;rcases List.mem_append.1 hc with hc|hc
  ·exact hs c hc
  ·rw[List.eq_of_mem_replicate hc];have ha:=ziv;exact⟨by show anyP.size≤_;omega,ha.2⟩
 ·exact⟨by simp,by dsimp only;omega,hs⟩
theorem zxV {b:Str}{y:Cl}{r:List Cl}{q:Nat} (h:zao b q 24=0):mutC b (y::r) q=(⟨y.pat,⟨numV b (q+1) [1,2,3,-1],numV b (q+2) [0,5,9],numV b (q+3) [3,10,-1]⟩⟩::r,q+4):=by unfold mutC;rw[if_pos h]
theorem zxW {b:Str}{y:Cl}{r:List Cl}{q:Nat} (h:zao b q 24=1):mutC b (y::r) q=(⟨(mutP b (mutP b y.pat (q+1)).1 (mutP b y.pat (q+1)).2).1,y.g⟩::r,(mutP b (mutP b y.pat (q+1)).1 (mutP b y.pat (q+1)).2).2):=by unfold mutC;rw[if_neg (by omega),if_pos h]
theorem zt5 {b:Str}{l:List Cl}{q:Nat} (h:zao b q 24=2):mutC b l q=(l++List.replicate (9-l.length) anyC,q+1):=by unfold mutC;rw[if_neg (by omega),if_neg (by omega),if_pos h]
theorem zt6 {b:Str}{l:List Cl}{q:Nat} (h0:¬zao b q 24=0) (h1:¬zao b q 24=1) (h2:¬zao b q 24=2):mutC b l q=(l,q+1):=by unfold mutC;rw[if_neg h0,if_neg h1,if_neg h2]
theorem zqQ {b:Str}{l:List Cl}{q:Nat} (h0:zao b q 24=0∨zao b q 24=1) (h:l.length=0):mutC b l q=(l,q+1):=by
 obtain rfl:=List.eq_nil_of_length_eq_zero h;unfold mutC;rcases h0 with h0|h0
 ·rw[if_pos h0]
 ·rw[if_neg (by omega),if_pos h0]
theorem putG {y:Cl}{r:List Cl}{a b c:AV}:putC (((y::r).map Cl.c).flatten.map AV.d) 6 [a,b,c]=some ([.d (.i y.pat.op),.d (.i y.pat.ctor),.d (.i y.pat.n),.d (.i y.pat.m),.d (.i y.pat.var),.d (.sl (Pat.cs y.pat.kids)),a,b,c]++(r.map Cl.c).flatten.map .d):=by
 simp[putC]
theorem zyf {y:Cl}{r:List Cl}{a b c d e f:AV}:putC (((y::r).map Cl.c).flatten.map AV.d) 0 [a,b,c,d,e,f]=some ([a,b,c,d,e,f,.d (.i y.g.op),.d (.i y.g.var),.d (.i y.g.n)]++(r.map Cl.c).flatten.map .d):=by
 simp[putC]
theorem zx9 {y:Cl}{r:List Cl}:cutC (((y::r).map Cl.c).flatten.map AV.d) 0 6=some [.d (.i y.pat.op),.d (.i y.pat.ctor),.d (.i y.pat.n),.d (.i y.pat.m),.d (.i y.pat.var),.d (.sl (Pat.cs y.pat.kids))]:=by
 simp[cutC]
theorem zhh (l:List Cl):∀x∈l.map Cl.c,x.length=9:=by
 intro x hx;obtain⟨y,_,rfl⟩:=List.mem_map.1 hx;rfl
theorem zpY (l:List Cl) (i:Nat):(l++List.replicate i anyC).map Cl.c++[Cl.c anyC]=(l++List.replicate (i+1) anyC).map Cl.c:=by
 rw[List.replicate_succ',←List.append_assoc,xaf (l₁:=l++List.replicate i anyC)];rfl
theorem zic {b:Str} (hb:b.length≤2000){l:List Cl}{q:Nat} (hq:q≤10000) (hl:l.length≤6) (hc:¬((zao b q 24=0∨zao b q 24=1)∧l≠[])):
  FnD Tryz.prog 66 [.ref 900 0,.d (zbW l)] [(900,some (rdB b q))] (.d (zbW (mutC b l q).1)) [(900,some (rdB b (mutC b l q).2))]:=by
 have hnil:l≠[]→zao b q 24≠0∧zao b q 24≠1:=fun h=>by
  constructor
  ·intro h2;exact hc ⟨.inl h2,h⟩
  ·intro h2;exact hc ⟨.inr h2,h⟩
 refine bd Tryz.f66 56 [] [] fun w0 F0 own kept hk=>?_;refine xbj 1 sl28 .none rfl rfl ?_;refine ev ?_;refine Walk.append sl28 zz60 rfl .none rfl rfl rfl rfl (zdk rfl (by first|rfl|(simp;done)|(simp;omega))) (by first|exact zhh _|(intro y hy;simp at hy;subst hy;rfl)) (by simp;omega) (by simp;omega) ?_;refine ev ?_;refine wd zb9 (zaR (p:=q) (n:=24) hb (by omega) (by omega)) rfl rfl ⟨rfl,trivial⟩ ?_;refine tv ?_;refine sq ?_ ?_<;>intro h1 h1p h1s;try simp only[Q,Int.natCast_inj] at h1p
 refine sq ?_ ?_<;>intro h2 h2p h2s;try simp only[Q,Int.natCast_inj] at h2p
 exfalso;have hne:l≠[]:=(fun hh=>by rw[hh] at h2p;exact absurd h2p (by decide));exact(hnil hne).1 (by omega);try simp only[Q,Int.natCast_inj] at h2p
 have hz0:l.length=0:=(by have hq:=h2p;simp only[List.nil_append,xac] at hq;omega);refine rn [(900,some (rdB b (mutC b l q).2))] (r1 rfl) (.gld ?_) ⟨rfl,rfl⟩ (SubO.get ⟨.inr ?_,⟨.inl rfl,trivial⟩⟩) (zav rfl);rotate_left 2;try simp only[Q,Int.natCast_inj] at h1p
 refine sq ?_ ?_<;>intro h3 h3p h3s;try simp only[Q,Int.natCast_inj] at h3p
 refine sq ?_ ?_<;>intro h4 h4p h4s;try simp only[Q,Int.natCast_inj] at h4p
 exfalso;have hne:l≠[]:=(fun hh=>by rw[hh] at h4p;exact absurd h4p (by decide));exact(hnil hne).2 (by omega);try simp only[Q,Int.natCast_inj] at h4p
 have hz0:l.length=0:=(by have hq:=h4p;simp only[List.nil_append,xac] at hq;omega);refine rn [(900,some (rdB b (mutC b l q).2))] (r1 rfl) (.gld ?_) ⟨rfl,rfl⟩ (SubO.get ⟨.inr ?_,⟨.inl rfl,trivial⟩⟩) (zav rfl);rotate_left 2;try simp only[Q,Int.natCast_inj] at h3p
 refine sq ?_ ?_<;>intro h5 h5p h5s;try simp only[Q,Int.natCast_inj] at h5p
 refine xaj (ι:=Nat) hk (fun i=>[(5,.gl 1 ((l++List.replicate i anyC).map Cl.c))]) [47,48,49,50,51,52,53,54] (fun i=>[(1,some (.tok (((l++List.replicate i anyC).map Cl.c)).length 9))]) (fun i=>i≤9-l.length∧zao b q 24=2) (fun i=>9-l.length-i) 0 ⟨by omega,by omega⟩ ⟨⟨_,rfl,LeA.glg ?_⟩,trivial⟩ ⟨zaa ?_,trivial⟩ (fun x=>rfl) (fun i hg1=>?_);iterate 2 focus (first|rfl|omega|(simp;done)|exact zpY l i|(simp;omega))
 refine evc [] [] ?_;refine sq ?_ ?_<;>intro h6 h6p h6s;try simp only[Q,Int.natCast_inj] at h6p
 refine bu [0] [_] st56 ?_;refine bu [0] [_] st60 ?_;refine si [0] [_] sl28 tz60 ?_;refine Walk.append sl28 zz60 rfl .none rfl rfl rfl rfl (zdk rfl (by first|rfl|(simp;done)|(simp;omega))) (by first|exact zhh _|(intro y hy;simp at hy;subst hy;rfl)) (by simp;omega) (by simp;omega) ?_;refine ev ?_;refine Exists.intro (i+1) ⟨⟨by simp at *;omega,hg1.2⟩,(by simp at *;omega),sx ⟨⟨_,rfl,LeA.glg ?_⟩,trivial⟩ ⟨zaa ?_,trivial⟩⟩;iterate 2 focus (first|rfl|omega|(simp;done)|exact zpY l i|(simp;omega))
 try simp only[Q,Int.natCast_inj] at h6p
 refine rn [(900,some (rdB b (mutC b l q).2))] (r1 rfl) (.gld ?_) ⟨rfl,rfl⟩ (SubO.get ⟨.inr ?_,⟨.inl rfl,trivial⟩⟩) (zav rfl);rotate_left 2;try simp only[Q,Int.natCast_inj] at h5p
 refine rn [(900,some (rdB b (mutC b l q).2))] (r1 rfl) (.gld ?_) ⟨rfl,rfl⟩ (SubO.get ⟨.inr ?_,⟨.inl rfl,trivial⟩⟩) (zav rfl);rotate_left 2;all_goals (first|((first|(rw[zqQ (by omega) (by omega)];all_goals rfl)|(rw[zt5 (by omega),show 9-l.length=i by simp at *;omega];all_goals first|rfl|(simp;done))|(rw[zt6 (by omega) (by omega) (by omega)];all_goals rfl));done)|(first|(rw[zqQ (by omega) (by omega)];all_goals rfl)|(rw[zt5 (by omega)];all_goals rfl)|(rw[zt6 (by omega) (by omega) (by omega)];all_goals rfl)))
theorem znC {b:Str} (hb:b.length≤2000){y:Cl}{r:List Cl}{q:Nat} (hq:q≤10000) (hl:(y::r).length≤6) (hc:zao b q 24=0):
  FnD Tryz.prog 66 [.ref 900 0,.d (zbW (y::r))] [(900,some (rdB b q))] (.d (zbW (mutC b (y::r) q).1)) [(900,some (rdB b (mutC b (y::r) q).2))]:=by
 have hrl:((y::r).map Cl.c).length=(r.map Cl.c).length+1:=rfl;rw[zxV hc];refine bd Tryz.f66 56 [] [999999] fun w0 F0 own kept hk=>?_;refine xbk 1 sl28 .none rfl rfl ?_;refine ev ?_;refine xaB hk rfl (by simp) sl28 zz60 .none rfl rfl rfl rfl (zdk rfl (by first|rfl|(simp;done)|(simp;omega))) (by exact zhh _) (by simp at *;omega) (by simp at *;omega) ?_;refine ev ?_;refine wd zb9 (zaR (p:=q) (n:=24) hb (by omega) (by omega)) rfl rfl ⟨rfl,trivial⟩ ?_;refine tv ?_;refine sq ?_ ?_<;>intro h1 h1p h1s;try simp only[Q,Int.natCast_inj] at h1p
 refine sq ?_ ?_<;>intro h2 h2p h2s;try simp only[Q,Int.natCast_inj] at h2p
 refine si [0,1,2,3] [_,_,_,_] zaW tz3 ?_;refine wd zdZ (zbN (p:=q+1) (l:=[1,2,3,-1]) hb (by omega) (by simp) (by simp)) rfl rfl ⟨rfl,trivial⟩ ?_;refine ev ?_;refine si [0,1,2] [_,_,_] zaW tz3 ?_;refine wd zdZ (zbN (p:=q+2) (l:=[0,5,9]) hb (by omega) (by simp) (by simp)) rfl rfl ⟨rfl,trivial⟩ ?_;refine ev ?_;refine si [0,1,2] [_,_,_] zaW tz3 ?_;refine wd zdZ (zbN (p:=q+3) (l:=[3,10,-1]) hb (by omega) (by simp) (by simp)) rfl rfl ⟨rfl,trivial⟩ ?_;refine bu [0,1,2] [_,_,_] st58 ?_;refine xaZ (i:=0) sl28 .none rfl rfl rfl rfl (by first|(simp;done)|(simp;omega)) ?_;refine ev ?_;refine Walk.store ty58 .none rfl rfl rfl rfl rfl rfl (by simp) ((putG)) ?_;refine tv ?_;refine CWp.frz hk 4 1 _ _ rfl rfl (by rw[List.nil_append,hrl];exact zqg rfl rfl (zhh r)) rfl ?_;refine CWp.ret ?_;refine rn [(900,some (rdB b (q+4)))] (r1 rfl) (.eqd ?_) ⟨rfl,rfl⟩ (SubO.get ⟨.inr ?_,⟨.inl rfl,trivial⟩⟩) (zav rfl);rotate_left 2;try simp only[Q,Int.natCast_inj] at h2p
 exfalso;rw[List.nil_append,hrl] at h2p;omega;try simp only[Q,Int.natCast_inj] at h1p
 exfalso;omega;all_goals (first|((rfl);done)|(rfl))
theorem znD {b:Str} (hb:b.length≤2000){y:Cl}{r:List Cl}{q:Nat} (hq:q≤10000) (hl:(y::r).length≤6) (hsm:y.pat.size≤400∧y.pat.ok) (hc:zao b q 24=1):
  FnD Tryz.prog 66 [.ref 900 0,.d (zbW (y::r))] [(900,some (rdB b q))] (.d (zbW (mutC b (y::r) q).1)) [(900,some (rdB b (mutC b (y::r) q).2))]:=by
 have hrl:((y::r).map Cl.c).length=(r.map Cl.c).length+1:=rfl;rw[zxW hc];have h1:=zof (b:=b) (p:=y.pat) (q:=q+1) (m:=400) hsm.1 (by omega) hsm.2;have h2:=zqR b y.pat (q+1);have i1:=zhN hb (p:=y.pat) (q:=q+1) (by omega) hsm.2;have i2:=zhN hb (p:=(mutP b y.pat (q+1)).1) (q:=(mutP b y.pat (q+1)).2) (by omega) h1.2;generalize mutP b y.pat (q+1)=z at *;generalize mutP b z.1 z.2=z2 at *;refine bd Tryz.f66 56 [40] [999999] fun w0 F0 own kept hk=>?_;refine xbk 1 sl28 .none rfl rfl ?_;refine evs [40] [] ?_;refine xaB hk rfl (by simp) sl28 zz60 .none rfl rfl rfl rfl (zdk rfl (by first|rfl|(simp;done)|(simp;omega))) (by exact zhh _) (by simp at *;omega) (by simp at *;omega) ?_;refine evs [40] [] ?_;refine wd zb9 (zaR (p:=q) (n:=24) hb (by omega) (by omega)) rfl rfl ⟨rfl,trivial⟩ ?_;refine tv ?_;refine sq ?_ ?_<;>intro h1 h1p h1s;try simp only[Q,Int.natCast_inj] at h1p
 exfalso;omega;try simp only[Q,Int.natCast_inj] at h1p
 refine sq ?_ ?_<;>intro h2 h2p h2s;try simp only[Q,Int.natCast_inj] at h2p
 refine sq ?_ ?_<;>intro h3 h3p h3s;try simp only[Q,Int.natCast_inj] at h3p
 refine xaZ (i:=0) sl28 .none rfl rfl rfl rfl (by first|(simp;done)|(simp;omega)) ?_;refine evs [40] [] ?_;refine xa2 ty56 .none rfl rfl rfl ((zx9)) ?_;refine wd ztb (i1) rfl rfl ⟨rfl,trivial⟩ ?_;refine wd ztb (i2) rfl rfl ⟨rfl,trivial⟩ ?_;refine xaZ (i:=0) sl28 .none rfl rfl rfl rfl (by first|(simp;done)|(simp;omega)) ?_;refine evs [40] [] ?_;refine Walk.store ty56 .none rfl rfl rfl rfl rfl rfl (by simp) ((zyf)) ?_;refine tv ?_;refine CWp.frz hk 4 1 _ _ rfl rfl (by rw[List.nil_append,hrl];exact zqg rfl rfl (zhh r)) rfl ?_;refine CWp.ret ?_;refine rn [(900,some (rdB b z2.2))] (r1 rfl) (.eqd ?_) ⟨rfl,rfl⟩ (SubO.get ⟨.inr ?_,⟨.inl rfl,trivial⟩⟩) (zav rfl);rotate_left 2;try simp only[Q,Int.natCast_inj] at h3p
 exfalso;rw[List.nil_append,hrl] at h3p;omega;try simp only[Q,Int.natCast_inj] at h2p
 exfalso;omega;all_goals (first|((rfl);done)|(rfl))
theorem zl3 {b:Str} (hb:b.length≤2000){l:List Cl}{q:Nat} (hq:q≤10000) (hl:l.length≤6) (hs:CSm l):
  FnD Tryz.prog 66 [.ref 900 0,.d (zbW l)] [(900,some (rdB b q))] (.d (zbW (mutC b l q).1)) [(900,some (rdB b (mutC b l q).2))]:=by
 cases l with
 |nil=>exact zic hb hq hl (fun h=>h.2 rfl)
 |cons y r=>
  by_cases h0:zao b q 24=0
  ·exact znC hb hq hl h0
  ·by_cases h1:zao b q 24=1
   ·exact znD hb hq hl (hs y (by simp)) h1
   ·exact zic hb hq hl (fun h=>by rcases h.1 with h|h;exact h0 h;exact h1 h)
def rcW (b:Str):List Data:=zbC b 0
def rcT (b:Str):Ty:=typT b 0
end Go.Proofs.YtcnjkjdmbnhcaaaGreat
