/-
  THE LAW FnFunsPrefix: whatever the arguments of bulk at most 1048576 are, the call returns true, and the arguments read as before.
  Conditions: the bulk alone.
-/
import Derived.Test.YtmchfdpleibpdaaGreatT585
namespace Go.Proofs.YtmchfdpleibpdaaGreat
open Go
set_option linter.unusedSimpArgs false
set_option linter.unusedVariables false
set_option maxRecDepth 100000
set_option maxHeartbeats 4000000
theorem znY {α:Type}{k:Nat}:∀ {rows:List (List α)},(∀r∈rows,r.length=k)->rows.flatten.length=rows.length*k
 | [],_=>by simp
 |x::r,h=>by
  rw[List.flatten_cons,xaa,h x (by simp),znY (fun y hy=>h y (by simp[hy])),xab,Nat.add_mul];omega
theorem zjW {α:Type}{k:Nat}:∀ {rows:List (List α)},(∀r∈rows,r.length=k)->∀ {i j:Nat} (hi:i<rows.length),j<k->rows.flatten[i*k+j]?=(rows[i])[j]?
 |x::r,h,0,j,hi,hj=>by
  rw[List.flatten_cons,Nat.zero_mul,Nat.zero_add,List.getElem?_append_left (by rw[h x (by simp)];exact hj)];rfl
 |x::r,h,i+1,j,hi,hj=>by
  have hx:=h x (by simp);rw[List.flatten_cons,Nat.add_mul,Nat.one_mul,List.getElem?_append_right (by omega),show i*k+k+j-x.length=i*k+j by omega];exact zjW (fun y hy=>h y (by simp[hy])) (by simpa using hi) hj
theorem zjX {α:Type}{k:Nat}{u:α}:∀ {rows:List (List α)},(∀r∈rows,r.length=k)->∀ {i j:Nat} (hi:i<rows.length),j<k->rows.flatten.set (i*k+j) u=(rows.set i ((rows[i]).set j u)).flatten
 |x::r,h,0,j,hi,hj=>by
  rw[Nat.zero_mul,Nat.zero_add,List.set_cons_zero,List.flatten_cons,List.flatten_cons,List.set_append_left _ _ (by rw[h x (by simp)];exact hj)];rfl
 |x::r,h,i+1,j,hi,hj=>by
  have hx:=h x (by simp);rw[List.set_cons_succ,List.flatten_cons,List.flatten_cons,Nat.add_mul,Nat.one_mul,List.set_append_right _ _ (by omega),show i*k+k+j-x.length=i*k+j by omega];rw[zjX (fun y hy=>h y (by simp[hy])) (by simpa using hi) hj];rfl
def rowD (y:Fu):List AV:=y.c.map AV.d
def rowV (y:Fu) (v:AV):List AV:=[.d (.i y.ty.arg.data),.d (.i y.ty.arg.index),.d (.i y.ty.res.data),.d (.i y.ty.res.index),.d (zcZ y.cls),v]
def rA (l:List Fu) (f:Nat) (v:AV):List (List AV):=(l.map rowD).set f (rowV (nth l f) v)
def mA (l:List Fu) (f:Nat) (v:AV) (i:Nat):List AV:=((rA l f v).take i).flatten
section
variable {l:List Fu}{f:Nat}{v u:AV}
theorem zhp:(rA l f v).length=l.length:=by simp[rA]
theorem zlC:∀r∈rA l f v,r.length=6:=fun r hr=>by
 rcases List.mem_or_eq_of_mem_set hr with h|h
 ·obtain⟨y,_,rfl⟩:=List.mem_map.1 h;rfl
 ·rw[h];rfl
theorem zmU {i:Nat} (h:i<l.length):(rA l f v)[i]?=some (if f=i then rowV (nth l f) v else rowD (nth l i)):=by
 unfold rA;rw[List.getElem?_set];by_cases e:f=i
 ·rw[if_pos e,if_pos e,if_pos (by simp;omega)]
 ·rw[if_neg e,if_neg e];exact zae h
theorem zdj {i:Nat} (h:i<l.length) (hne:f≠i):mA l f v i++rowD (nth l i)=mA l f v (i+1):=by
 unfold mA;rw[List.take_add_one,zmU h,if_neg hne];simp
theorem zgP {i:Nat} (h:i<l.length) (he:f=i):mA l f v i++rowV (nth l i) v=mA l f v (i+1):=by
 unfold mA;rw[List.take_add_one,zmU h,if_pos he,he];simp
theorem zhm:mA l f v l.length=(rA l f v).flatten:=by
 unfold mA;rw[List.take_of_length_le (by rw[zhp];exact Nat.le_refl _)]
theorem zqa:(mA l f v l.length).length=l.length*6:=by rw[zhm,znY zlC,zhp]
theorem zgz {o:Nat} (eo:o=f*6+5) (h:f<l.length):(mA l f v l.length)[o]?=some v:=by
 subst eo;rw[zhm,zjW zlC (by rw[zhp];exact h) (by omega)];have:=zmU (v:=v) (f:=f) h;rw[if_pos rfl,List.getElem?_eq_getElem (by rw[zhp];exact h)] at this;rw[Option.some.inj this];rfl
theorem zkH {o:Nat} (eo:o=f*6+5) (h:f<l.length):putC (mA l f v l.length) o [u]=some (mA l f u l.length):=by
 subst eo;rw[zho (by rw[zqa];omega),zhm,zhm];congr 1
 rw[zjX zlC (by rw[zhp];exact h) (by omega)];congr 1
 have:=zmU (v:=v) (f:=f) h;rw[if_pos rfl,List.getElem?_eq_getElem (by rw[zhp];exact h)] at this;rw[Option.some.inj this];unfold rA;rw[List.set_set];rfl
theorem zqb {o:Nat} (eo:o=f*6+5) (h:f<l.length):(mA l f v l.length).set o u=mA l f u l.length:=by
 have:=zkH (u:=u) (v:=v) eo h;rw[zho (by rw[zqa];omega)] at this;exact Option.some.inj this
theorem zry {es:List Ex} (h:f<l.length):mA l f (.d (zaX es)) l.length=zaF (l.set f ((nth l f).bod es)):=by
 rw[zhm];unfold rA zaF;rw[List.map_flatten,List.map_map,List.map_set];rfl
end
theorem zfq {l:List Fu}{i:Nat} (h:i<l.length):(l.take i).map Fu.c++[Fu.c (nth l i)]=(l.take (i+1)).map Fu.c:=by
 rw[List.take_add_one,xaf];have e:l[i]?=some (nth l i):=by simpa using zae (f:=id) h
 rw[e];rfl
theorem zoN (l:List Fu) (x:Fu) (i:Nat):(l++List.replicate i x).map Fu.c++[Fu.c x]=(l++List.replicate (i+1) x).map Fu.c:=by
 rw[List.replicate_succ',<-List.append_assoc,xaf (l₁:=l++List.replicate i x)];rfl
theorem zs4 {l:List Fu}{i:Nat} (hne:l≠[]):((l++List.replicate i (nth l 0)).map Fu.c)[0]?=some (Fu.c (nth l 0)):=by
 cases l with
 |nil=>exact absurd rfl hne
 |cons x r=>rfl
theorem zlB {L:List Fu}{f j o:Nat}{u:AV}{y:Fu} (eo:o=f*6+j) (hj:j<6) (h:f<L.length) (hy:(rowD (nth L f)).set j u=rowD y):putC (zaF L) o [u]=some (zaF (L.set f y)):=by
 subst eo;have e:∀l:List Fu,zaF l=(l.map rowD).flatten:=fun l=>by unfold zaF;rw[List.map_flatten,List.map_map];rfl
 have hr:∀r∈L.map rowD,r.length=6:=fun r hr=>by obtain⟨y,_,rfl⟩:=List.mem_map.1 hr;rfl
 rw[zho (by rw[zl0];omega),e,e,zjX hr (by simpa using h) hj];congr 2
 have h2:(L.map rowD)[f]?=some (rowD (nth L f)):=zae h;rw[List.getElem?_eq_getElem (by simpa using h)] at h2;rw[Option.some.inj h2,hy,List.map_set]
theorem zlv {L:List Fu}{f j o:Nat}{u:AV} (eo:o=f*6+j) (hj:j<6) (h:f<L.length) (hy:(rowD (nth L f))[j]?=some u):(zaF L)[o]?=some u:=by
 subst eo;have e:∀l:List Fu,zaF l=(l.map rowD).flatten:=fun l=>by unfold zaF;rw[List.map_flatten,List.map_map];rfl
 have hr:∀r∈L.map rowD,r.length=6:=fun r hr=>by obtain⟨y,_,rfl⟩:=List.mem_map.1 hr;rfl
 rw[e,zjW hr (by simpa using h) hj];have h2:(L.map rowD)[f]?=some (rowD (nth L f)):=zae h;rw[List.getElem?_eq_getElem (by simpa using h)] at h2;rw[Option.some.inj h2,hy]
def tk5 (f i m:Nat):Option Res:=if f<i then some (.tok m 4) else none
def c5 (f i:Nat):List Nat:=if f<i then [5] else []
theorem c5_0 {f i:Nat} (h:i<=f):c5 f i=[]:=if_neg (by omega)
theorem c5_1 {f i:Nat} (h:f<i):c5 f i=[5]:=if_pos h
theorem zeB {f i m:Nat} (h:i<=f):tk5 f i m=none:=if_neg (by omega)
theorem zcl {f i m:Nat} (h:f<i):tk5 f i m=some (.tok m 4):=if_pos h
theorem za6 (l:List Cl):∀x∈l.map Cl.c,x.length=9:=by
 intro x hx;obtain⟨y,_,rfl⟩:=List.mem_map.1 hx;rfl
theorem zks {k:Nat}{v:List AV}{vd:List D} (hv:toDL v=some vd) (hk:v.length=k) (hk0:0<k):∀ {xs:List (List D)},(∀x∈xs,x.length=k)->zbG (xs.length+1) k (xs.flatten.map .d++v)=some (xs++[vd])
 | [],_=>by
  have:=zni (r:=[]) hv hk (by simp);simpa using this
 |x::r,h=>by
  have hx:(x.map AV.d).length=k:=by simp[h x (by simp)]
  have ih:=zks hv hk hk0 (xs:=r) (fun y hy=>h y (by simp[hy]));have e:((x::r).flatten.map AV.d++v)=x.map AV.d++(r.flatten.map .d++v):=by simp
  rw[e,xab,zbG,zeK hx];dsimp only;rw[zj9];dsimp only;rw[List.drop_left' hx,ih];rfl
abbrev zRow:List AV:=[.d (.i 1),.d (.i 0),.d (.i 0),.nils]
theorem zoo {es:List Ex}{o:Nat} (eo:o=(Ex.cs es).length*4):putC ((Ex.cs es++[[D.i 0,D.i 0,D.i 0,D.sl []]]).flatten.map AV.d) o zRow=some ((Ex.cs es).flatten.map AV.d++zRow):=by
 subst eo;have h:=fun x (h:x∈Ex.cs es)=>Ex.cs_rows x h;rw[List.flatten_append,xaf];have h1:((Ex.cs es).flatten.map AV.d).length=(Ex.cs es).length*4:=by rw[xac,zd5 h]
 have:=zrb (a:=(Ex.cs es).flatten.map AV.d) (z:=[AV.d (.i 0),.d (.i 0),.d (.i 0),.d (.sl [])]) (vs:=zRow) (t:=[]) h1 rfl;simpa using this
theorem zpx {es:List Ex}{n:Nat} (hn:n=(Ex.cs es++[[D.i 0,D.i 0,D.i 0,D.sl []]]).length):zbG n 4 ((Ex.cs es).flatten.map AV.d++zRow)=some (Ex.cs (es++[zEx])):=by
 have:=zks (k:=4) (v:=zRow) (vd:=[D.i 1,D.i 0,D.i 0,D.sl []]) rfl rfl (by omega) (xs:=Ex.cs es) Ex.cs_rows;have e:Ex.cs (es++[zEx])=Ex.cs es++[[D.i 1,D.i 0,D.i 0,D.sl []]]:=by rw[Ex.cs_cc,Ex.cs_cc,xaf];rfl
 rw[hn,xaa,e];exact this
theorem zrX {l:List (List D)}{y:Ex}{r:List (List D)} (h:l=y.cc::r):cutC (l.flatten.map AV.d) (0*4) 4=some [.d (.i y.op),.d (.i y.n),.d (.i y.ctor),.d (zaX y.kids)]:=by
 subst h;rw[List.flatten_cons,xaf];exact zeK rfl
theorem zoT {v:Ex}{r:List Ex}:zbG ((Ex.cs r).length+1) 4 ([.d (.i v.op),.d (.i v.n),.d (.i v.ctor),.d (zaX v.kids)]++(Ex.cs r).flatten.map AV.d)=some (Ex.cs (v::r)):=by
 have:=zni (v:=[AV.d (.i v.op),.d (.i v.n),.d (.i v.ctor),.d (zaX v.kids)]) (vd:=[.i v.op,.i v.n,.i v.ctor,zaX v.kids]) (r:=Ex.cs r) (k:=4) rfl rfl Ex.cs_rows;rw[this,Ex.cs_cc,Ex.cs_cc];rfl
theorem ziT {b:Str}{q:Nat}:FnD Tryz.prog 27 [.ref 900 0,.d (zbs [])] [(900,some (rdB b q))] (.d (zbs [])) [(900,some (rdB b q))]:=by
 refine bd Tryz.f27 145 [] [] fun w0 F0 own kept hk=>?_;refine xa6 1 sl24 .none rfl rfl ?_;refine ev ?_;refine xak (ι:=Unit) hk (fun x=>[(6,.d (.i ((0:Nat):Int))),(5,.gl 1 (([]:List Fu).map Fu.c))]) [9,10,11,12,13,14,15,16,17,18,19,20,21,22,23,24,25,26,27,28,29,30,31,32,33,34,35,36,37] (fun x=>[(1,some (.tok ((([]:List Fu).map Fu.c)).length 6))]) (fun x=>True) (fun x=>0) () trivial ⟨⟨_,rfl,xap ?_⟩,⟨⟨_,rfl,LeA.glg ?_⟩,trivial⟩⟩ ⟨zaf ?_,trivial⟩ (fun x=>rfl) (fun x hg1=>?_);iterate 3 focus (first|rfl|(simp;done)|(simp_all;done)|omega|(simp;omega))
 refine evc [] [] ?_;refine sq ?_ ?_<;>intro h1 h1p h1s<;>(try simp only[Q,Int.natCast_inj] at h1p);exfalso;exact absurd h1p (by decide);refine sq ?_ ?_<;>intro h2 h2p h2s<;>(try simp only[Q,Int.natCast_inj] at h2p);refine rn [(900,some (rdB b q))] (r1 rfl) (.gld ?_) ⟨rfl,rfl⟩ (SubO.get ⟨.inr ?_,⟨.inl rfl,trivial⟩⟩) (zaI rfl);rotate_left 2;exfalso;exact absurd rfl h2p;all_goals (first|((rfl);done)|(rfl))
theorem zcK {b:Str} (hb:b.length<=2000){l R:List Fu}{q f:Nat} (hq:q<=100000) (hl:l.length<=5) (hne:l≠[]) (hf:zap b q l.length=(f:Nat)) (hfl:f<l.length) (hg:∀x∈l,x.cls.length<=100/\x.bodies.length<=100)
  (ka:¬zap b (q+1) 24=0) (kb:¬zap b (q+1) 24=1) (kc:zap b (q+1) 24=2->(nth l f).bodies=[]) (kd:zap b (q+1) 24=5->¬1<(nth l f).cls.length)
  (r3:zap b (q+1) 24=3->R=l.take f) (r4:zap b (q+1) 24=4->R=l++List.replicate (5-l.length) (nth l 0)) (r:¬zap b (q+1) 24=3->¬zap b (q+1) 24=4->R=l):
  FnD Tryz.prog 27 [.ref 900 0,.d (zbs l)] [(900,some (rdB b q))] (.d (zbs R)) [(900,some (rdB b (q+2)))]:=by
 have hp1:=zaT (b:=b) (p:=q) (n:=((l.map Fu.c).length:Int)) hb (by omega) (by simp;omega);rw[show zap b q ((l.map Fu.c).length:Int)=(f:Int) by rw[xac];exact hf] at hp1;have hp2:=zaT (b:=b) (p:=q+1) (n:=24) hb (by omega) (by omega);generalize zap b (q+1) 24=K at *;have hgi:=fun(i:Nat) (h:i<l.length)=>hg (nth l i) (zaj h);refine bd Tryz.f27 145 [] [] fun w0 F0 own kept hk=>?_;refine xa6 1 sl24 .none rfl (by first|rfl|(simp only[zai,occH,occE,Res.ids,xag,List.nil_append,AV.idsL,AV.ids,zab,zaa,zac,zan,xae,List.map_nil,upC,List.append_nil];rfl)) ?_;refine ev ?_;refine xak (ι:=Nat) hk (fun i=>[(6,.d (.i (i:Int))),(5,.gl 1 ((l.take i).map Fu.c))]) [9,10,11,12,13,14,15,16,17,18,19,20,21,22,23,24,25,26,27,28,29,30,31,32,33,34,35,36,37] (fun i=>[(1,some (.tok (((l.take i).map Fu.c)).length 6))]) (fun i=>i<=l.length) (fun i=>l.length-i) 0 (by omega) ⟨⟨_,rfl,xap ?_⟩,⟨⟨_,rfl,LeA.glg ?_⟩,trivial⟩⟩ ⟨zaf ?_,trivial⟩ (fun x=>rfl) (fun i hg1=>?_);iterate 3 focus (first|rfl|omega|exact zfq (by omega)|(simp;done)|(simp;omega))
 refine evc [] [] ?_;refine sq ?_ ?_<;>intro h1 h1p h1s<;>(try simp only[Q,Int.natCast_inj,xac] at h1p);refine Walk.idx (i:=i) sl24 .none rfl rfl rfl rfl (zae (by omega)) rfl ?_;refine evd [] [] ?_;refine xa6 2 sl32 .none rfl (by first|rfl|(simp only[zai,occH,occE,Res.ids,xag,List.nil_append,AV.idsL,AV.ids,zab,zaa,zac,zan,xae,List.map_nil,upC,List.append_nil];rfl)) ?_;refine evd [] [] ?_;refine Walk.idx (i:=i) sl24 .none rfl rfl rfl rfl (zae (by omega)) rfl ?_;refine evd [] [] ?_;refine Walk.append sl32 zz78 rfl .none rfl rfl rfl rfl (zaW rfl (by first|rfl|(simp;done)|(simp;omega))) (by first|exact za6 _|exact Ex.cs_rows|exact zaO _|(intro y hy;simp at hy;subst hy;rfl)) (by first|(simp;omega)|(have:=hgi i (by omega);simp[Ex.cs_len];omega)|(have:=hgi f hfl;simp[Ex.cs_len];omega)) (by first|(simp;omega)|(have:=hgi i (by omega);simp[Ex.cs_len];omega)|(have:=hgi f hfl;simp[Ex.cs_len];omega)) ?_;refine xa6 3 sl33 .none rfl (by first|rfl|(simp only[zai,occH,occE,Res.ids,xag,List.nil_append,AV.idsL,AV.ids,zab,zaa,zac,zan,xae,List.map_nil,upC,List.append_nil];rfl)) ?_;refine evd [] [] ?_;refine Walk.idx (i:=i) sl24 .none rfl rfl rfl rfl (zae (by omega)) rfl ?_;refine evd [] [] ?_;refine Walk.append sl33 zz40 rfl .none rfl rfl rfl rfl (zaW rfl (by first|rfl|(simp;done)|(simp;omega))) (by first|exact za6 _|exact Ex.cs_rows|exact zaO _|(intro y hy;simp at hy;subst hy;rfl)) (by first|(simp;omega)|(have:=hgi i (by omega);simp[Ex.cs_len];omega)|(have:=hgi f hfl;simp[Ex.cs_len];omega)) (by first|(simp;omega)|(have:=hgi i (by omega);simp[Ex.cs_len];omega)|(have:=hgi f hfl;simp[Ex.cs_len];omega)) ?_;refine bu [0,1,2] [_,_,_] st35 ?_;refine si [0] [_] sl24 tz35 ?_;refine Walk.append sl24 zz35 rfl .none rfl rfl rfl rfl (zaW rfl (by first|rfl|(simp;done)|(simp;omega))) (by first|exact za6 _|exact Ex.cs_rows|exact zaO _|(intro y hy;simp at hy;subst hy;rfl)) (by first|(simp;omega)|(have:=hgi i (by omega);simp[Ex.cs_len];omega)|(have:=hgi f hfl;simp[Ex.cs_len];omega)) (by first|(simp;omega)|(have:=hgi i (by omega);simp[Ex.cs_len];omega)|(have:=hgi f hfl;simp[Ex.cs_len];omega)) ?_;refine evd [] [] ?_;refine dr2 [2,3] ?_ (by first|rfl|(simp only[zai,occH,occE,Res.ids,xag,List.nil_append,AV.idsL,AV.ids,zab,zaa,zac,zan,xae,List.map_nil,upC,List.append_nil];rfl));refine ar ?_;refine xah (i+1) ⟨(by omega),(by omega),sx ⟨⟨_,rfl,xap ?_⟩,⟨⟨_,rfl,LeA.glg ?_⟩,trivial⟩⟩ ⟨zaf ?_,trivial⟩⟩;iterate 3 focus (first|rfl|omega|exact zfq (by omega)|(simp;done)|(simp;omega))
 obtain rfl:i=l.length:=(by omega);rw[List.take_length];refine sq ?_ ?_<;>intro h2 h2p h2s<;>(try simp only[Q,Int.natCast_inj,xac] at h2p);exfalso;exact hne (List.eq_nil_of_length_eq_zero (by omega));refine wd zch (hp1) rfl rfl ⟨rfl,trivial⟩ ?_;refine ev ?_;refine wd zch (hp2) rfl rfl ⟨rfl,trivial⟩ ?_;refine tv ?_;refine sq ?_ ?_<;>intro h3 h3p h3s<;>(try simp only[Q,Int.natCast_inj,xac] at h3p);exfalso;omega;refine sq ?_ ?_<;>intro h4 h4p h4s<;>(try simp only[Q,Int.natCast_inj,xac] at h4p);exfalso;omega;refine sq ?_ ?_<;>intro h5 h5p h5s<;>(try simp only[Q,Int.natCast_inj,xac] at h5p);refine xaP (i:=f) sl24 .none rfl rfl rfl rfl (zae (by omega)) rfl ?_;refine ev ?_;refine sq ?_ ?_<;>intro h6 h6p h6s<;>(try simp only[Q,Int.natCast_inj,xac] at h6p);exfalso;rw[kc (by omega)] at h6p;exact absurd h6p (by decide);refine rn [(900,some (rdB b (q+2)))] (r1 rfl) (.gld ?_) ⟨rfl,rfl⟩ (SubO.get ⟨.inr ?_,⟨.inl rfl,trivial⟩⟩) (zaI rfl);rotate_left 2;refine sq ?_ ?_<;>intro h7 h7p h7s<;>(try simp only[Q,Int.natCast_inj,xac] at h7p);refine xaK (b:=f) sl24 .none rfl rfl rfl (by first|exact za6 _|exact Ex.cs_rows|exact zaO _|(intro y hy;simp at hy;subst hy;rfl)) rfl rfl (by simp;omega) ?_;refine ev ?_;refine rn [(900,some (rdB b (q+2)))] (r1 rfl) (.eqd ?_) ⟨rfl,rfl⟩ (SubO.get ⟨.inr ?_,⟨.inl rfl,trivial⟩⟩) (zaI rfl);rotate_left 2;refine sq ?_ ?_<;>intro h8 h8p h8s<;>(try simp only[Q,Int.natCast_inj,xac] at h8p);refine xak (ι:=Nat) hk (fun k=>[(5,.gl 1 ((l++List.replicate k (nth l 0)).map Fu.c))]) [106,107,108,109,110,111,112,113,114] (fun k=>[(1,some (.tok (((l++List.replicate k (nth l 0)).map Fu.c)).length 6))]) (fun k=>k<=5-l.length) (fun k=>5-l.length-k) 0 (by omega) ⟨⟨_,rfl,LeA.glg ?_⟩,trivial⟩ ⟨zaf ?_,trivial⟩ (fun x=>rfl) (fun k hg2=>?_);iterate 2 focus (first|rfl|omega|exact zoN _ _ _|(simp;done)|(simp;omega))
 refine evc [] [] ?_;refine sq ?_ ?_<;>intro h9 h9p h9s<;>(try simp only[Q,Int.natCast_inj,xac] at h9p);refine xaP (i:=0) sl24 .none rfl rfl rfl rfl (zs4 hne) rfl ?_;refine ev ?_;refine si [0] [_] sl24 tz35 ?_;refine Walk.append sl24 zz35 rfl .none rfl rfl rfl rfl (zaW rfl (by first|rfl|(simp;done)|(simp;omega))) (by first|exact za6 _|exact Ex.cs_rows|exact zaO _|(intro y hy;simp at hy;subst hy;rfl)) (by first|(simp;omega)|(have:=hgi i (by omega);simp[Ex.cs_len];omega)|(have:=hgi f hfl;simp[Ex.cs_len];omega)) (by first|(simp;omega)|(have:=hgi i (by omega);simp[Ex.cs_len];omega)|(have:=hgi f hfl;simp[Ex.cs_len];omega)) ?_;refine ev ?_;refine xah (k+1) ⟨(by simp at *;omega),(by simp at *;omega),sx ⟨⟨_,rfl,LeA.glg ?_⟩,trivial⟩ ⟨zaf ?_,trivial⟩⟩;iterate 2 focus (first|rfl|omega|exact zoN _ _ _|(simp;done)|(simp;omega))
 refine rn [(900,some (rdB b (q+2)))] (r1 rfl) (.gld ?_) ⟨rfl,rfl⟩ (SubO.get ⟨.inr ?_,⟨.inl rfl,trivial⟩⟩) (zaI rfl);rotate_left 2;refine sq ?_ ?_<;>intro h10 h10p h10s<;>(try simp only[Q,Int.natCast_inj,xac] at h10p);refine xaP (i:=f) sl24 .none rfl rfl rfl rfl (zae (by omega)) rfl ?_;refine ev ?_;refine sq ?_ ?_<;>intro h11 h11p h11s<;>(try simp only[Q,Int.natCast_inj,xac] at h11p);exfalso;have:=kd (by omega);omega;refine rn [(900,some (rdB b (q+2)))] (r1 rfl) (.gld ?_) ⟨rfl,rfl⟩ (SubO.get ⟨.inr ?_,⟨.inl rfl,trivial⟩⟩) (zaI rfl);rotate_left 2;refine rn [(900,some (rdB b (q+2)))] (r1 rfl) (.gld ?_) ⟨rfl,rfl⟩ (SubO.get ⟨.inr ?_,⟨.inl rfl,trivial⟩⟩) (zaI rfl);rotate_left 2;all_goals (first|((first|(rw[r (by omega) (by omega)];all_goals rfl)|(rw[r4 (by omega),show 5-l.length=k by simp at *;omega];all_goals rfl)|(rw[r3 (by omega)];show D.sl _=D.sl ((l.take f).map Fu.c);rw[List.map_take]));done)|(rfl))
theorem zj1 {b:Str} (hb:b.length<=2000){l:List Fu}{q f:Nat} (hq:q<=100000) (hl:l.length<=5) (hne:l≠[]) (hf:zap b q l.length=(f:Nat)) (hfl:f<l.length) (hg:∀x∈l,x.cls.length<=100/\x.bodies.length<=100)
  (hK:zap b (q+1) 24=0):
  FnD Tryz.prog 27 [.ref 900 0,.d (zbs l)] [(900,some (rdB b q))] (.d (zbs (l.set f ((nth l f).idx (numV b (q+2) [1,2,4,0]))))) [(900,some (rdB b (q+3)))]:=by
 have hp1:=zaT (b:=b) (p:=q) (n:=(((l.map Fu.c).length:Nat):Int)) hb (by omega) (by simp;omega);rw[show zap b q (((l.map Fu.c).length:Nat):Int)=(f:Int) by rw[xac];exact hf] at hp1;have hp2:=zaT (b:=b) (p:=q+1) (n:=24) hb (by omega) (by omega);rw[hK] at hp2;have hgi:=fun(i:Nat) (h:i<l.length)=>hg (nth l i) (zaj h);refine bd Tryz.f27 145 [39,44] [11,26] fun w0 F0 own kept hk=>?_;refine xa9 1 sl24 .none rfl (by first|rfl|(simp only[zai,occH,occE,Res.ids,xag,List.nil_append,AV.idsL,AV.ids,zab,zaa,zac,zan,xae,List.map_nil,upC,List.append_nil];rfl)) ?_;refine evs [39,44] [] ?_;refine xak (ι:=Nat) hk (fun i=>[(6,.d (.i (i:Int))),(5,.gv 1 ((l.take i).map Fu.c))]) [9,10,11,12,13,14,15,16,17,18,19,20,21,22,23,24,25,26,27,28,29,30,31,32,33,34,35,36,37] (fun i=>[(1,some (.tok (((l.take i).map Fu.c)).length 6))]) (fun i=>i<=l.length) (fun i=>l.length-i) 0 (by omega) ⟨⟨_,rfl,xap ?_⟩,⟨⟨_,rfl,xas ?_⟩,trivial⟩⟩ ⟨zaf ?_,trivial⟩ (fun x=>rfl) (fun i hg1=>?_);iterate 3 focus (first|rfl|omega|exact zfq (by omega)|(simp;done)|(simp;omega))
 refine evc [39,44] [11,26] ?_;refine sq ?_ ?_<;>intro h1 h1p h1s<;>(try simp only[Q,Int.natCast_inj,xac] at h1p);refine Walk.idx (i:=i) sl24 .none rfl rfl rfl rfl (zae (by omega)) rfl ?_;refine evd [39,44] [] ?_;refine xa6 2 sl32 .none rfl (by first|rfl|(simp only[zai,occH,occE,Res.ids,xag,List.nil_append,AV.idsL,AV.ids,zab,zaa,zac,zan,xae,List.map_nil,upC,List.append_nil];rfl)) ?_;refine evd [39,44] [] ?_;refine Walk.idx (i:=i) sl24 .none rfl rfl rfl rfl (zae (by omega)) rfl ?_;refine evd [39,44] [] ?_;refine Walk.append sl32 zz78 rfl .none rfl rfl rfl rfl (zaW rfl (by first|rfl|(simp;done)|(simp;omega))) (by first|exact za6 _|exact Ex.cs_rows|exact zaO _|(intro y hy;simp at hy;subst hy;rfl)) (by first|(simp;omega)|(have:=hgi i (by omega);simp[Ex.cs_len];omega)|(have:=hgi f hfl;simp[Ex.cs_len];omega)) (by first|(simp;omega)|(have:=hgi i (by omega);simp[Ex.cs_len];omega)|(have:=hgi f hfl;simp[Ex.cs_len];omega)) ?_;refine xa6 3 sl33 .none rfl (by first|rfl|(simp only[zai,occH,occE,Res.ids,xag,List.nil_append,AV.idsL,AV.ids,zab,zaa,zac,zan,xae,List.map_nil,upC,List.append_nil];rfl)) ?_;refine evd [39,44] [] ?_;refine Walk.idx (i:=i) sl24 .none rfl rfl rfl rfl (zae (by omega)) rfl ?_;refine evd [39,44] [] ?_;refine Walk.append sl33 zz40 rfl .none rfl rfl rfl rfl (zaW rfl (by first|rfl|(simp;done)|(simp;omega))) (by first|exact za6 _|exact Ex.cs_rows|exact zaO _|(intro y hy;simp at hy;subst hy;rfl)) (by first|(simp;omega)|(have:=hgi i (by omega);simp[Ex.cs_len];omega)|(have:=hgi f hfl;simp[Ex.cs_len];omega)) (by first|(simp;omega)|(have:=hgi i (by omega);simp[Ex.cs_len];omega)|(have:=hgi f hfl;simp[Ex.cs_len];omega)) ?_;refine bu [0,1,2] [_,_,_] st35 ?_;refine si [0] [_] sl24 tz35 ?_;refine xay sl24 zz35 .none rfl rfl rfl rfl (zaW rfl (by first|rfl|(simp;done)|(simp;omega))) (by first|exact za6 _|exact Ex.cs_rows|exact zaO _|(intro y hy;simp at hy;subst hy;rfl)) (by first|(simp;omega)|(have:=hgi i (by omega);simp[Ex.cs_len];omega)|(have:=hgi f hfl;simp[Ex.cs_len];omega)) (by first|(simp;omega)|(have:=hgi i (by omega);simp[Ex.cs_len];omega)|(have:=hgi f hfl;simp[Ex.cs_len];omega)) ?_;refine evd [39,44] [] ?_;refine dr2 [2,3] ?_ (by first|rfl|(simp only[zai,occH,occE,Res.ids,xag,List.nil_append,AV.idsL,AV.ids,zab,zaa,zac,zan,xae,List.map_nil,upC,List.append_nil];rfl));refine ar ?_;refine xah (i+1) ⟨(by omega),(by omega),sx ⟨⟨_,rfl,xap ?_⟩,⟨⟨_,rfl,xas ?_⟩,trivial⟩⟩ ⟨zaf ?_,trivial⟩⟩;iterate 3 focus (first|rfl|omega|exact zfq (by omega)|(simp;done)|(simp;omega))
 obtain rfl:i=l.length:=(by omega);rw[List.take_length];refine xaT sl24 .none rfl rfl ?_;refine evs [39,44] [] ?_;refine sq ?_ ?_<;>intro h2 h2p h2s<;>(try simp only[Q,Int.natCast_inj,xac] at h2p);exfalso;exact hne (List.eq_nil_of_length_eq_zero (by omega));refine xaT sl24 .none rfl rfl ?_;refine wd zch (hp1) rfl rfl ⟨rfl,trivial⟩ ?_;refine evs [39,44] [] ?_;refine wd zch (hp2) rfl rfl ⟨rfl,trivial⟩ ?_;refine tv ?_;refine sq ?_ ?_<;>intro h3 h3p h3s<;>(try simp only[Q,Int.natCast_inj,xac] at h3p);refine CWp.fixV hk 5 1 6 rfl rfl rfl (fun hx4=>?_) (fun hx4=>?_);exfalso;exact hne (List.map_eq_nil_iff.1 hx4);refine evc [39,44] [] ?_;refine si [0,1,2,3] [_,_,_,_] sl37 tz3 ?_;refine wd zi5 (zdR (p:=q+2) (l:=[1,2,4,0]) hb (by omega) (by simp) (by simp)) rfl rfl ⟨rfl,trivial⟩ ?_;refine xaQ (i:=f) sl24 .none rfl rfl rfl rfl (by simp;omega) ?_;refine evs [39,44] [] ?_;refine Walk.store ty3 .none rfl rfl rfl rfl rfl rfl (by simp) ((zlB (j:=3) (y:=(nth l f).idx (numV b (q+2) [1,2,4,0])) (by omega) (by omega) hfl rfl)) ?_;refine tv ?_;refine CWp.frz hk 5 1 _ 6 (es:=(l.set f ((nth l f).idx (numV b (q+2) [1,2,4,0]))).map Fu.c) rfl rfl (zeC (by simp)) rfl ?_;refine evc [39,44] [] ?_;refine rn [(900,some (rdB b (q+3)))] (r1 rfl) (.eqd ?_) ⟨rfl,rfl⟩ (SubO.get ⟨.inr ?_,⟨.inl rfl,trivial⟩⟩) (zaI rfl);rotate_left 2;exfalso;exact absurd h3 (by decide);all_goals (first|((rfl);done)|(rfl))
theorem zj2 {b:Str} (hb:b.length<=2000){l:List Fu}{q f:Nat} (hq:q<=100000) (hl:l.length<=5) (hne:l≠[]) (hf:zap b q l.length=(f:Nat)) (hfl:f<l.length) (hg:∀x∈l,x.cls.length<=100/\x.bodies.length<=100)
  (hK:zap b (q+1) 24=5) (kc:1<(nth l f).cls.length) (hb1:1<=(nth l f).bodies.length):
  FnD Tryz.prog 27 [.ref 900 0,.d (zbs l)] [(900,some (rdB b q))] (.d (zbs (l.set f (nth l f).cut))) [(900,some (rdB b (q+2)))]:=by
 have hp1:=zaT (b:=b) (p:=q) (n:=(((l.map Fu.c).length:Nat):Int)) hb (by omega) (by simp;omega);rw[show zap b q (((l.map Fu.c).length:Nat):Int)=(f:Int) by rw[xac];exact hf] at hp1;have hp2:=zaT (b:=b) (p:=q+1) (n:=24) hb (by omega) (by omega);rw[hK] at hp2;have hgi:=fun(i:Nat) (h:i<l.length)=>hg (nth l i) (zaj h);have hcl:((nth l f).cls.map Cl.c).drop 1=((nth l f).cls.drop 1).map Cl.c:=List.map_drop.symm;have hbl:(Ex.cs (nth l f).bodies).drop 1=Ex.cs ((nth l f).bodies.drop 1):=by rw[Ex.cs_cc,Ex.cs_cc,List.map_drop]
 refine bd Tryz.f27 145 [39,44,121,130,140] [23,26] fun w0 F0 own kept hk=>?_;refine xa9 1 sl24 .none rfl (by first|rfl|(simp only[zai,occH,occE,Res.ids,xag,List.nil_append,AV.idsL,AV.ids,zab,zaa,zac,zan,xae,List.map_nil,upC,List.append_nil];rfl)) ?_;refine evs [39,44,121,130,140] [] ?_;refine xak (ι:=Nat) hk (fun i=>[(6,.d (.i (i:Int))),(5,.gv 1 ((l.take i).map Fu.c))]) [9,10,11,12,13,14,15,16,17,18,19,20,21,22,23,24,25,26,27,28,29,30,31,32,33,34,35,36,37] (fun i=>[(1,some (.tok (((l.take i).map Fu.c)).length 6))]) (fun i=>i<=l.length) (fun i=>l.length-i) 0 (by omega) ⟨⟨_,rfl,xap ?_⟩,⟨⟨_,rfl,xas ?_⟩,trivial⟩⟩ ⟨zaf ?_,trivial⟩ (fun x=>rfl) (fun i hg1=>?_);iterate 3 focus (first|rfl|omega|exact zfq (by omega)|(simp;done)|(simp;omega))
 refine evc [39,44,121,130,140] [23,26] ?_;refine sq ?_ ?_<;>intro h1 h1p h1s<;>(try simp only[Q,Int.natCast_inj,xac] at h1p);refine Walk.idx (i:=i) sl24 .none rfl rfl rfl rfl (zae (by omega)) rfl ?_;refine evd [39,44,121,130,140] [] ?_;refine xa6 2 sl32 .none rfl (by first|rfl|(simp only[zai,occH,occE,Res.ids,xag,List.nil_append,AV.idsL,AV.ids,zab,zaa,zac,zan,xae,List.map_nil,upC,List.append_nil];rfl)) ?_;refine evd [39,44,121,130,140] [] ?_;refine Walk.idx (i:=i) sl24 .none rfl rfl rfl rfl (zae (by omega)) rfl ?_;refine evd [39,44,121,130,140] [] ?_;refine Walk.append sl32 zz78 rfl .none rfl rfl rfl rfl (zaW rfl (by first|rfl|(simp;done)|(simp;omega))) (by first|exact za6 _|exact Ex.cs_rows|exact zaO _|(intro y hy;simp at hy;subst hy;rfl)) (by first|(simp;omega)|(have:=hgi i (by omega);simp[Ex.cs_len];omega)|(have:=hgi f hfl;simp[Ex.cs_len];omega)) (by first|(simp;omega)|(have:=hgi i (by omega);simp[Ex.cs_len];omega)|(have:=hgi f hfl;simp[Ex.cs_len];omega)) ?_;refine xa6 3 sl33 .none rfl (by first|rfl|(simp only[zai,occH,occE,Res.ids,xag,List.nil_append,AV.idsL,AV.ids,zab,zaa,zac,zan,xae,List.map_nil,upC,List.append_nil];rfl)) ?_;refine evd [39,44,121,130,140] [] ?_;refine Walk.idx (i:=i) sl24 .none rfl rfl rfl rfl (zae (by omega)) rfl ?_;refine evd [39,44,121,130,140] [] ?_;refine Walk.append sl33 zz40 rfl .none rfl rfl rfl rfl (zaW rfl (by first|rfl|(simp;done)|(simp;omega))) (by first|exact za6 _|exact Ex.cs_rows|exact zaO _|(intro y hy;simp at hy;subst hy;rfl)) (by first|(simp;omega)|(have:=hgi i (by omega);simp[Ex.cs_len];omega)|(have:=hgi f hfl;simp[Ex.cs_len];omega)) (by first|(simp;omega)|(have:=hgi i (by omega);simp[Ex.cs_len];omega)|(have:=hgi f hfl;simp[Ex.cs_len];omega)) ?_;refine bu [0,1,2] [_,_,_] st35 ?_;refine si [0] [_] sl24 tz35 ?_;refine xay sl24 zz35 .none rfl rfl rfl rfl (zaW rfl (by first|rfl|(simp;done)|(simp;omega))) (by first|exact za6 _|exact Ex.cs_rows|exact zaO _|(intro y hy;simp at hy;subst hy;rfl)) (by first|(simp;omega)|(have:=hgi i (by omega);simp[Ex.cs_len];omega)|(have:=hgi f hfl;simp[Ex.cs_len];omega)) (by first|(simp;omega)|(have:=hgi i (by omega);simp[Ex.cs_len];omega)|(have:=hgi f hfl;simp[Ex.cs_len];omega)) ?_;refine evd [39,44,121,130,140] [] ?_;refine dr2 [2,3] ?_ (by first|rfl|(simp only[zai,occH,occE,Res.ids,xag,List.nil_append,AV.idsL,AV.ids,zab,zaa,zac,zan,xae,List.map_nil,upC,List.append_nil];rfl));refine ar ?_;refine xah (i+1) ⟨(by omega),(by omega),sx ⟨⟨_,rfl,xap ?_⟩,⟨⟨_,rfl,xas ?_⟩,trivial⟩⟩ ⟨zaf ?_,trivial⟩⟩;iterate 3 focus (first|rfl|omega|exact zfq (by omega)|(simp;done)|(simp;omega))
 obtain rfl:i=l.length:=(by omega);rw[List.take_length];refine xaT sl24 .none rfl rfl ?_;refine evs [39,44,121,130,140] [] ?_;refine sq ?_ ?_<;>intro h2 h2p h2s<;>(try simp only[Q,Int.natCast_inj,xac] at h2p);exfalso;exact hne (List.eq_nil_of_length_eq_zero (by omega));refine xaT sl24 .none rfl rfl ?_;refine wd zch (hp1) rfl rfl ⟨rfl,trivial⟩ ?_;refine evs [39,44,121,130,140] [] ?_;refine wd zch (hp2) rfl rfl ⟨rfl,trivial⟩ ?_;refine tv ?_;refine sq ?_ ?_<;>intro h3 h3p h3s<;>(try simp only[Q,Int.natCast_inj,xac] at h3p);exfalso;omega;refine sq ?_ ?_<;>intro h4 h4p h4s<;>(try simp only[Q,Int.natCast_inj,xac] at h4p);exfalso;omega;refine sq ?_ ?_<;>intro h5 h5p h5s<;>(try simp only[Q,Int.natCast_inj,xac] at h5p);exfalso;omega;refine sq ?_ ?_<;>intro h6 h6p h6s<;>(try simp only[Q,Int.natCast_inj,xac] at h6p);exfalso;omega;refine sq ?_ ?_<;>intro h7 h7p h7s<;>(try simp only[Q,Int.natCast_inj,xac] at h7p);exfalso;omega;refine sq ?_ ?_<;>intro h8 h8p h8s<;>(try simp only[Q,Int.natCast_inj,xac] at h8p);refine CWp.fixV hk 5 1 6 rfl rfl rfl (fun hx9=>?_) (fun hx9=>?_);exfalso;exact hne (List.map_eq_nil_iff.1 hx9);refine evc [39,44,121,130,140] [] ?_;refine xaQ (i:=f) sl24 .none rfl rfl rfl rfl (by simp;omega) ?_;refine evs [39,44,121,130,140] [] ?_;refine xaV ty32 .none rfl rfl rfl ((zlv (j:=4) (by omega) (by omega) hfl rfl)) ?_;refine evs [39,44,121,130,140] [] ?_;refine sq ?_ ?_<;>intro h10 h10p h10s<;>(try simp only[Q,Int.natCast_inj,xac] at h10p);refine xaQ (i:=f) sl24 .none rfl rfl rfl rfl (by simp;omega) ?_;refine evs [39,44,121,130,140] [] ?_;refine xaV ty32 .none rfl rfl rfl ((zlv (j:=4) (by omega) (by omega) hfl rfl)) ?_;refine xaL (b:=1) sl32 .none rfl rfl rfl (by first|exact za6 _|exact Ex.cs_rows|exact zaO _|(intro y hy;simp at hy;subst hy;rfl)) rfl rfl (by first|(simp;omega)|(rw[Ex.cs_len];omega)) ?_;refine xaQ (i:=f) sl24 .none rfl rfl rfl rfl (by simp;omega) ?_;refine evs [39,44,121,130,140] [] ?_;refine Walk.store ty32 .none rfl rfl rfl rfl rfl rfl (by simp) ((zlB (j:=4) (y:=⟨(nth l f).ty,(nth l f).cls.drop 1,(nth l f).bodies⟩) (by omega) (by omega) hfl (by rw[hcl];rfl))) ?_;refine tv ?_;refine xaQ (i:=f) sl24 .none rfl rfl rfl rfl (by simp;omega) ?_;refine evs [39,44,121,130,140] [] ?_;refine xaV ty33 .none rfl rfl rfl ((zlv (f:=f) (L:=l.set f ⟨(nth l f).ty,(nth l f).cls.drop 1,(nth l f).bodies⟩) (j:=5) (u:= .d (zaX (nth l f).bodies)) (by omega) (by omega) (by simp;omega) (by rw[zgQ hfl];rfl))) ?_;refine xaL (b:=1) sl33 .none rfl rfl rfl (by first|exact za6 _|exact Ex.cs_rows|exact zaO _|(intro y hy;simp at hy;subst hy;rfl)) rfl rfl (by first|(simp;omega)|(rw[Ex.cs_len];omega)) ?_;refine xaQ (i:=f) sl24 .none rfl rfl rfl rfl (by simp;omega) ?_;refine evs [39,44,121,130,140] [] ?_;refine Walk.store ty33 .none rfl rfl rfl rfl rfl rfl (by simp) ((zlB (f:=f) (L:=l.set f ⟨(nth l f).ty,(nth l f).cls.drop 1,(nth l f).bodies⟩) (j:=5) (y:=(nth l f).cut) (by omega) (by omega) (by simp;omega) (by rw[zgQ hfl,hbl];rfl))) ?_;refine tv ?_;rw[List.set_set];refine CWp.frz hk 5 1 _ 6 (es:=(l.set f (nth l f).cut).map Fu.c) rfl rfl (zeC (by simp)) rfl ?_;refine evc [39,44,121,130,140] [] ?_;refine rn [(900,some (rdB b (q+2)))] (r1 rfl) (.eqd ?_) ⟨rfl,rfl⟩ (SubO.get ⟨.inr ?_,⟨.inl rfl,trivial⟩⟩) (zaI rfl);rotate_left 2;exfalso;omega;exfalso;exact absurd h8 (by decide);all_goals (first|((rfl);done)|(rfl))
theorem zj3 {b:Str} (hb:b.length<=2000){l:List Fu}{q f:Nat} (hq:q<=100000) (hl:l.length<=5) (hne:l≠[]) (hf:zap b q l.length=(f:Nat)) (hfl:f<l.length) (hg:∀x∈l,x.cls.length<=100/\x.bodies.length<=100)
  (hK:zap b (q+1) 24=1):
  FnD Tryz.prog 27 [.ref 900 0,.d (zbs l)] [(900,some (rdB b q))] (.d (zbs (l.set f ((nth l f).bod ((nth l f).bodies++[zEx]))))) [(900,some (rdB b (q+2)))]:=by
 have hp1:=zaT (b:=b) (p:=q) (n:=((l.length:Nat):Int)) hb (by omega) (by omega);rw[show zap b q ((l.length:Nat):Int)=(f:Int) by exact hf] at hp1;have hp2:=zaT (b:=b) (p:=q+1) (n:=24) hb (by omega) (by omega);rw[hK] at hp2;have hgi:=fun(i:Nat) (h:i<l.length)=>hg (nth l i) (zaj h);refine bd Tryz.f27 145 [39,44,65,67] [5,13,26] fun w0 F0 own kept hk=>?_;refine xa7 1 sl24 .none rfl (by first|rfl|(simp only[zai,occH,occE,Res.ids,xag,List.nil_append,AV.idsL,AV.ids,zab,zaa,zac,zan,xae,List.map_nil,upC,List.append_nil];rfl)) ?_;refine evs [39,44,65,67] [] ?_;refine xak (ι:=Nat) hk (fun i=>[(6,.d (.i (i:Int))),(5,.ga 1 i (c5 f i) (mA l f (.gv 5 (Ex.cs (nth l f).bodies)) i))]) [9,10,11,12,13,14,15,16,17,18,19,20,21,22,23,24,25,26,27,28,29,30,31,32,33,34,35,36,37] (fun i=>[(1,some (.tok i 6)),(5,(tk5 f i (Ex.cs (nth l f).bodies).length))]) (fun i=>i<=l.length) (fun i=>l.length-i) 0 (by omega) ⟨⟨_,rfl,xap ?_⟩,⟨⟨_,rfl,xar ?_⟩,trivial⟩⟩ ⟨zaf ?_,⟨?_,trivial⟩⟩ (fun x=>rfl) (fun i hg1=>?_);iterate 3 focus (first|rfl|omega|exact⟨rfl,rfl,rfl⟩|exact⟨rfl,(c5_0 (by omega)).symm,rfl⟩|exact⟨rfl,(c5_0 (by omega)).symm,zdj (by omega) (by omega)⟩|exact⟨rfl,(c5_1 (by omega)).symm,zdj (by omega) (by omega)⟩|(refine⟨rfl,(c5_1 (by omega)).symm, ?_⟩;subst hif;exact zgP (by omega) rfl)|(simp;done)|(simp;omega))
 focus (first|rfl|(rw[zeB (by omega)];all_goals rfl)|(rw[zcl (by omega)];all_goals rfl)|(subst hif;rw[zcl (by omega)];show some (Res.tok (0+_) 4)=some (Res.tok _ 4);rw[Nat.zero_add]))
 refine evc [39,44,65,67] [5,13,26] ?_;refine sq ?_ ?_<;>intro h1 h1p h1s<;>(try simp only[Q,Int.natCast_inj] at h1p);rcases Nat.lt_trichotomy i f with hif|hif|hif
 rw[zeB (by omega),c5_0 (by omega)];refine evc [39,44,65,67] [] ?_;refine Walk.idx (i:=i) sl24 .none rfl rfl rfl rfl (zae (by omega)) rfl ?_;refine evd [39,44,65,67] [] ?_;refine xa6 2 sl32 .none rfl (by first|rfl|(simp only[zai,occH,occE,Res.ids,xag,List.nil_append,AV.idsL,AV.ids,zab,zaa,zac,zan,xae,List.map_nil,upC,List.append_nil];rfl)) ?_;refine evd [39,44,65,67] [] ?_;refine Walk.idx (i:=i) sl24 .none rfl rfl rfl rfl (zae (by omega)) rfl ?_;refine evd [39,44,65,67] [] ?_;refine Walk.append sl32 zz78 rfl .none rfl rfl rfl rfl (zaW rfl (by first|rfl|(simp;done)|(simp;omega))) (by first|exact za6 _|exact Ex.cs_rows|exact zaO _|(intro y hy;simp at hy;subst hy;rfl)) (by first|(simp;omega)|(have:=hgi i (by omega);simp[Ex.cs_len];omega)|(have:=hgi f hfl;simp[Ex.cs_len];omega)) (by first|(simp;omega)|(have:=hgi i (by omega);simp[Ex.cs_len];omega)|(have:=hgi f hfl;simp[Ex.cs_len];omega)) ?_;refine xa6 3 sl33 .none rfl (by first|rfl|(simp only[zai,occH,occE,Res.ids,xag,List.nil_append,AV.idsL,AV.ids,zab,zaa,zac,zan,xae,List.map_nil,upC,List.append_nil];rfl)) ?_;refine evd [39,44,65,67] [] ?_;refine Walk.idx (i:=i) sl24 .none rfl rfl rfl rfl (zae (by omega)) rfl ?_;refine evd [39,44,65,67] [] ?_;refine Walk.append sl33 zz40 rfl .none rfl rfl rfl rfl (zaW rfl (by first|rfl|(simp;done)|(simp;omega))) (by first|exact za6 _|exact Ex.cs_rows|exact zaO _|(intro y hy;simp at hy;subst hy;rfl)) (by first|(simp;omega)|(have:=hgi i (by omega);simp[Ex.cs_len];omega)|(have:=hgi f hfl;simp[Ex.cs_len];omega)) (by first|(simp;omega)|(have:=hgi i (by omega);simp[Ex.cs_len];omega)|(have:=hgi f hfl;simp[Ex.cs_len];omega)) ?_;refine bu [0,1,2] [_,_,_] st35 ?_;refine xba (id:=3036) sl24 tz35 rfl (by decide) (ks:=[0]) (xs:=[_]) rfl rfl (by decide) (by decide) .none rfl rfl rfl rfl (by first|rfl|(simp only[zai,occH,occE,Res.ids,xag,List.nil_append,AV.idsL,AV.ids,zab,zaa,zac,zan,xae,List.map_nil,upC,List.append_nil];rfl)) (by first|rfl|(simp only[zai,occH,occE,Res.ids,xag,List.nil_append,AV.idsL,AV.ids,zab,zaa,zac,zan,xae,List.map_nil,upC,List.append_nil];rfl)) (by first|rfl|(simp only[zai,occH,occE,Res.ids,xag,List.nil_append,AV.idsL,AV.ids,zab,zaa,zac,zan,xae,List.map_nil,upC,List.append_nil];rfl)) ?_;refine xav [] (.cons (.refl _) (.cons (.refl _) (.cons (.refl _) (.cons (.refl _) (.cons (.gl _ _) (.cons (.gl _ _) .nil)))))) rfl rfl sl24 zz35 .none rfl rfl rfl rfl (zaW rfl (by first|rfl|(simp;done)|(simp;omega))) rfl rfl rfl (by first|(simp;omega)|(have:=hgi i (by omega);simp[Ex.cs_len];omega)|(have:=hgi f hfl;simp[Ex.cs_len];omega)) (by first|(simp;omega)|(have:=hgi i (by omega);simp[Ex.cs_len];omega)|(have:=hgi f hfl;simp[Ex.cs_len];omega)) ?_;refine evd [39,44,65,67] [] ?_;refine dr2 [2,3,3036] ?_ (by first|rfl|(simp only[zai,occH,occE,Res.ids,xag,List.nil_append,AV.idsL,AV.ids,zab,zaa,zac,zan,xae,List.map_nil,upC,List.append_nil];rfl));refine ar ?_;refine xah (i+1) ⟨(by omega),(by omega),sx ⟨⟨_,rfl,xap ?_⟩,⟨⟨_,rfl,xar ?_⟩,trivial⟩⟩ ⟨zaf ?_,⟨?_,trivial⟩⟩⟩;iterate 3 focus (first|rfl|omega|exact⟨rfl,rfl,rfl⟩|exact⟨rfl,(c5_0 (by omega)).symm,rfl⟩|exact⟨rfl,(c5_0 (by omega)).symm,zdj (by omega) (by omega)⟩|exact⟨rfl,(c5_1 (by omega)).symm,zdj (by omega) (by omega)⟩|(refine⟨rfl,(c5_1 (by omega)).symm, ?_⟩;subst hif;exact zgP (by omega) rfl)|(simp;done)|(simp;omega))
 focus (first|rfl|(rw[zeB (by omega)];all_goals rfl)|(rw[zcl (by omega)];all_goals rfl)|(subst hif;rw[zcl (by omega)];show some (Res.tok (0+_) 4)=some (Res.tok _ 4);rw[Nat.zero_add]))
 rw[zeB (by omega),c5_0 (by omega)];refine evc [39,44,65,67] [] ?_;refine Walk.idx (i:=i) sl24 .none rfl rfl rfl rfl (zae (by omega)) rfl ?_;refine evd [39,44,65,67] [] ?_;refine xa6 2 sl32 .none rfl (by first|rfl|(simp only[zai,occH,occE,Res.ids,xag,List.nil_append,AV.idsL,AV.ids,zab,zaa,zac,zan,xae,List.map_nil,upC,List.append_nil];rfl)) ?_;refine evd [39,44,65,67] [] ?_;refine Walk.idx (i:=i) sl24 .none rfl rfl rfl rfl (zae (by omega)) rfl ?_;refine evd [39,44,65,67] [] ?_;refine Walk.append sl32 zz78 rfl .none rfl rfl rfl rfl (zaW rfl (by first|rfl|(simp;done)|(simp;omega))) (by first|exact za6 _|exact Ex.cs_rows|exact zaO _|(intro y hy;simp at hy;subst hy;rfl)) (by first|(simp;omega)|(have:=hgi i (by omega);simp[Ex.cs_len];omega)|(have:=hgi f hfl;simp[Ex.cs_len];omega)) (by first|(simp;omega)|(have:=hgi i (by omega);simp[Ex.cs_len];omega)|(have:=hgi f hfl;simp[Ex.cs_len];omega)) ?_;refine xa9 5 sl33 .none rfl (by first|rfl|(simp only[zai,occH,occE,Res.ids,xag,List.nil_append,AV.idsL,AV.ids,zab,zaa,zac,zan,xae,List.map_nil,upC,List.append_nil];rfl)) ?_;refine evd [39,44,65,67] [] ?_;refine Walk.idx (i:=i) sl24 .none rfl rfl rfl rfl (zae (by omega)) rfl ?_;refine evd [39,44,65,67] [] ?_;refine xay sl33 zz40 .none rfl rfl rfl rfl (zaW rfl (by first|rfl|(simp;done)|(simp;omega))) (by first|exact za6 _|exact Ex.cs_rows|exact zaO _|(intro y hy;simp at hy;subst hy;rfl)) (by first|(simp;omega)|(have:=hgi i (by omega);simp[Ex.cs_len];omega)|(have:=hgi f hfl;simp[Ex.cs_len];omega)) (by first|(simp;omega)|(have:=hgi i (by omega);simp[Ex.cs_len];omega)|(have:=hgi f hfl;simp[Ex.cs_len];omega)) ?_;refine bu [0,1,2] [_,_,_] st35 ?_;refine xba (id:=3036) sl24 tz35 rfl (by decide) (ks:=[0]) (xs:=[_]) rfl rfl (by decide) (by decide) .none rfl rfl rfl rfl (by first|rfl|(simp only[zai,occH,occE,Res.ids,xag,List.nil_append,AV.idsL,AV.ids,zab,zaa,zac,zan,xae,List.map_nil,upC,List.append_nil];rfl)) (by first|rfl|(simp only[zai,occH,occE,Res.ids,xag,List.nil_append,AV.idsL,AV.ids,zab,zaa,zac,zan,xae,List.map_nil,upC,List.append_nil];rfl)) (by first|rfl|(simp only[zai,occH,occE,Res.ids,xag,List.nil_append,AV.idsL,AV.ids,zab,zaa,zac,zan,xae,List.map_nil,upC,List.append_nil];rfl)) ?_;refine xav [5] (.cons (.refl _) (.cons (.refl _) (.cons (.refl _) (.cons (.refl _) (.cons (.gl _ _) (.cons (.refl _) .nil)))))) rfl rfl sl24 zz35 .none rfl rfl rfl rfl (zaW rfl (by first|rfl|(simp;done)|(simp;omega))) rfl rfl rfl (by first|(simp;omega)|(have:=hgi i (by omega);simp[Ex.cs_len];omega)|(have:=hgi f hfl;simp[Ex.cs_len];omega)) (by first|(simp;omega)|(have:=hgi i (by omega);simp[Ex.cs_len];omega)|(have:=hgi f hfl;simp[Ex.cs_len];omega)) ?_;refine evd [39,44,65,67] [] ?_;refine dr2 [2,5,3036] ?_ (by first|rfl|(simp only[zai,occH,occE,Res.ids,xag,List.nil_append,AV.idsL,AV.ids,zab,zaa,zac,zan,xae,List.map_nil,upC,List.append_nil];rfl));refine ar ?_;refine xah (i+1) ⟨(by omega),(by omega),sx ⟨⟨_,rfl,xap ?_⟩,⟨⟨_,rfl,xar ?_⟩,trivial⟩⟩ ⟨zaf ?_,⟨?_,trivial⟩⟩⟩;iterate 3 focus (first|rfl|omega|exact⟨rfl,rfl,rfl⟩|exact⟨rfl,(c5_0 (by omega)).symm,rfl⟩|exact⟨rfl,(c5_0 (by omega)).symm,zdj (by omega) (by omega)⟩|exact⟨rfl,(c5_1 (by omega)).symm,zdj (by omega) (by omega)⟩|(refine⟨rfl,(c5_1 (by omega)).symm, ?_⟩;subst hif;exact zgP (by omega) rfl)|(simp;done)|(simp;omega))
 focus (first|rfl|(rw[zeB (by omega)];all_goals rfl)|(rw[zcl (by omega)];all_goals rfl)|(subst hif;rw[zcl (by omega)];show some (Res.tok (0+_) 4)=some (Res.tok _ 4);rw[Nat.zero_add]))
 rw[zcl (by omega),c5_1 (by omega)];refine evc [39,44,65,67] [] ?_;refine Walk.idx (i:=i) sl24 .none rfl rfl rfl rfl (zae (by omega)) rfl ?_;refine evd [39,44,65,67] [] ?_;refine xa6 2 sl32 .none rfl (by first|rfl|(simp only[zai,occH,occE,Res.ids,xag,List.nil_append,AV.idsL,AV.ids,zab,zaa,zac,zan,xae,List.map_nil,upC,List.append_nil];rfl)) ?_;refine evd [39,44,65,67] [] ?_;refine Walk.idx (i:=i) sl24 .none rfl rfl rfl rfl (zae (by omega)) rfl ?_;refine evd [39,44,65,67] [] ?_;refine Walk.append sl32 zz78 rfl .none rfl rfl rfl rfl (zaW rfl (by first|rfl|(simp;done)|(simp;omega))) (by first|exact za6 _|exact Ex.cs_rows|exact zaO _|(intro y hy;simp at hy;subst hy;rfl)) (by first|(simp;omega)|(have:=hgi i (by omega);simp[Ex.cs_len];omega)|(have:=hgi f hfl;simp[Ex.cs_len];omega)) (by first|(simp;omega)|(have:=hgi i (by omega);simp[Ex.cs_len];omega)|(have:=hgi f hfl;simp[Ex.cs_len];omega)) ?_;refine xa6 3 sl33 .none rfl (by first|rfl|(simp only[zai,occH,occE,Res.ids,xag,List.nil_append,AV.idsL,AV.ids,zab,zaa,zac,zan,xae,List.map_nil,upC,List.append_nil];rfl)) ?_;refine evd [39,44,65,67] [] ?_;refine Walk.idx (i:=i) sl24 .none rfl rfl rfl rfl (zae (by omega)) rfl ?_;refine evd [39,44,65,67] [] ?_;refine Walk.append sl33 zz40 rfl .none rfl rfl rfl rfl (zaW rfl (by first|rfl|(simp;done)|(simp;omega))) (by first|exact za6 _|exact Ex.cs_rows|exact zaO _|(intro y hy;simp at hy;subst hy;rfl)) (by first|(simp;omega)|(have:=hgi i (by omega);simp[Ex.cs_len];omega)|(have:=hgi f hfl;simp[Ex.cs_len];omega)) (by first|(simp;omega)|(have:=hgi i (by omega);simp[Ex.cs_len];omega)|(have:=hgi f hfl;simp[Ex.cs_len];omega)) ?_;refine bu [0,1,2] [_,_,_] st35 ?_;refine xba (id:=3036) sl24 tz35 rfl (by decide) (ks:=[0]) (xs:=[_]) rfl rfl (by decide) (by decide) .none rfl rfl rfl rfl (by first|rfl|(simp only[zai,occH,occE,Res.ids,xag,List.nil_append,AV.idsL,AV.ids,zab,zaa,zac,zan,xae,List.map_nil,upC,List.append_nil];rfl)) (by first|rfl|(simp only[zai,occH,occE,Res.ids,xag,List.nil_append,AV.idsL,AV.ids,zab,zaa,zac,zan,xae,List.map_nil,upC,List.append_nil];rfl)) (by first|rfl|(simp only[zai,occH,occE,Res.ids,xag,List.nil_append,AV.idsL,AV.ids,zab,zaa,zac,zan,xae,List.map_nil,upC,List.append_nil];rfl)) ?_;refine xav [5] (.cons (.refl _) (.cons (.refl _) (.cons (.refl _) (.cons (.refl _) (.cons (.gl _ _) (.cons (.gl _ _) .nil)))))) rfl rfl sl24 zz35 .none rfl rfl rfl rfl (zaW rfl (by first|rfl|(simp;done)|(simp;omega))) rfl rfl rfl (by first|(simp;omega)|(have:=hgi i (by omega);simp[Ex.cs_len];omega)|(have:=hgi f hfl;simp[Ex.cs_len];omega)) (by first|(simp;omega)|(have:=hgi i (by omega);simp[Ex.cs_len];omega)|(have:=hgi f hfl;simp[Ex.cs_len];omega)) ?_;refine evd [39,44,65,67] [] ?_;refine dr2 [2,3,3036] ?_ (by first|rfl|(simp only[zai,occH,occE,Res.ids,xag,List.nil_append,AV.idsL,AV.ids,zab,zaa,zac,zan,xae,List.map_nil,upC,List.append_nil];rfl));refine ar ?_;refine xah (i+1) ⟨(by omega),(by omega),sx ⟨⟨_,rfl,xap ?_⟩,⟨⟨_,rfl,xar ?_⟩,trivial⟩⟩ ⟨zaf ?_,⟨?_,trivial⟩⟩⟩;iterate 3 focus (first|rfl|omega|exact⟨rfl,rfl,rfl⟩|exact⟨rfl,(c5_0 (by omega)).symm,rfl⟩|exact⟨rfl,(c5_0 (by omega)).symm,zdj (by omega) (by omega)⟩|exact⟨rfl,(c5_1 (by omega)).symm,zdj (by omega) (by omega)⟩|(refine⟨rfl,(c5_1 (by omega)).symm, ?_⟩;subst hif;exact zgP (by omega) rfl)|(simp;done)|(simp;omega))
 focus (first|rfl|(rw[zeB (by omega)];all_goals rfl)|(rw[zcl (by omega)];all_goals rfl)|(subst hif;rw[zcl (by omega)];show some (Res.tok (0+_) 4)=some (Res.tok _ 4);rw[Nat.zero_add]))
 obtain rfl:i=l.length:=(by omega);rw[zcl hfl,c5_1 hfl];refine xaS sl24 .none rfl rfl ?_;refine evs [39,44,65,67] [] ?_;refine sq ?_ ?_<;>intro h2 h2p h2s<;>(try simp only[Q,Int.natCast_inj] at h2p);exfalso;exact hne (List.eq_nil_of_length_eq_zero (by omega));refine xaS sl24 .none rfl rfl ?_;refine wd zch (hp1) rfl rfl ⟨rfl,trivial⟩ ?_;refine evs [39,44,65,67] [] ?_;refine wd zch (hp2) rfl rfl ⟨rfl,trivial⟩ ?_;refine tv ?_;refine sq ?_ ?_<;>intro h3 h3p h3s<;>(try simp only[Q,Int.natCast_inj] at h3p);exfalso;omega;refine sq ?_ ?_<;>intro h4 h4p h4s<;>(try simp only[Q,Int.natCast_inj] at h4p);refine CWp.fixA hk 5 1 6 rfl rfl rfl rfl ?_;refine evc [39,44,65,67] [] ?_;refine xaQ (i:=f) sl24 .none rfl rfl rfl rfl (by first|omega|(simp;omega)|(simp;done)) ?_;refine evd [39,44,65,67] [] ?_;refine xaV ty33 .none rfl rfl rfl ((zgz (by omega) hfl)) ?_;refine bu [0] [_] st40 ?_;refine xaT sl33 .none rfl rfl ?_;refine si [0] [_] sl33 tz40 ?_;refine Walk.appendM hk rfl (by simp) sl33 zz40 .none rfl rfl rfl rfl (zaW rfl (by first|rfl|(simp;done)|(simp;omega))) (by first|exact za6 _|exact Ex.cs_rows|exact zaO _|(intro y hy;simp at hy;subst hy;rfl)) (by first|(simp;omega)|(have:=hgi i (by omega);simp[Ex.cs_len];omega)|(have:=hgi f hfl;simp[Ex.cs_len];omega)) (by first|(simp;omega)|(have:=hgi i (by omega);simp[Ex.cs_len];omega)|(have:=hgi f hfl;simp[Ex.cs_len];omega)) ?_;refine xaQ (i:=((Ex.cs (nth l f).bodies).length)) sl33 .none rfl rfl rfl rfl (by first|omega|(simp;omega)|(simp;done)) ?_;refine Walk.store ty40 .none rfl rfl rfl rfl rfl rfl (by simp) ((by first|exact zkH (by omega) hfl|exact zoo rfl)) ?_;refine xaQ (i:=f) sl24 .none rfl rfl rfl rfl (by first|omega|(simp;omega)|(simp;done)) ?_;refine evd [39,44,65,67] [] ?_;refine Walk.store ty33 .none rfl rfl rfl rfl rfl rfl (by simp) ((by first|exact zkH (by omega) hfl|exact zoo rfl)) ?_;refine dr ?_;refine CWp.frzC hk 1 (f*6+5) 5 _ 4 (es:=Ex.cs ((nth l f).bodies++[zEx])) rfl rfl (zgz rfl hfl) (zqb rfl hfl) rfl (zpx rfl) rfl ?_;rw[zry hfl];refine CWp.frz hk 5 1 _ 6 (es:=(l.set f ((nth l f).bod ((nth l f).bodies++[zEx]))).map Fu.c) rfl rfl (zeC (by simp)) rfl ?_;refine evc [39,44,65,67] [] ?_;refine rn [(900,some (rdB b (q+2)))] (r1 rfl) (.eqd ?_) ⟨rfl,rfl⟩ (SubO.get ⟨.inr ?_,⟨.inl rfl,trivial⟩⟩) (zaI rfl);rotate_left 2;exfalso;exact absurd h4 (by decide);all_goals (first|((rfl);done)|(rfl))
theorem zj4 {b:Str} (hb:b.length<=2000){l:List Fu}{q f:Nat} (hq:q<=100000) (hl:l.length<=5) (hne:l≠[]) (hf:zap b q l.length=(f:Nat)) (hfl:f<l.length) (hg:∀x∈l,x.cls.length<=100/\x.bodies.length<=100)
  (hK:zap b (q+1) 24=2){y:Ex}{r:List Ex} (hbo:(nth l f).bodies=y::r){n q1 q2:Nat}{v1 v2:Ex} (a1:mutE b n (q+2) y=some (v1,q1)) (a2:mutE b n q1 v1=some (v2,q2)) (hys:y.size<=10000000) (hq2:q2<=3010000):
  FnD Tryz.prog 27 [.ref 900 0,.d (zbs l)] [(900,some (rdB b q))] (.d (zbs (l.set f ((nth l f).bod (v2::r))))) [(900,some (rdB b (q2)))]:=by
 have hp1:=zaT (b:=b) (p:=q) (n:=((l.length:Nat):Int)) hb (by omega) (by omega);rw[show zap b q ((l.length:Nat):Int)=(f:Int) by exact hf] at hp1;have hp2:=zaT (b:=b) (p:=q+1) (n:=24) hb (by omega) (by omega);rw[hK] at hp2;have hgi:=fun(i:Nat) (h:i<l.length)=>hg (nth l i) (zaj h);have b1:=zcS a1;have b2:=zcS a2;have i1:=zdm hb n a1 (by omega) (by omega);have i2:=zdm hb n a2 (by omega) (by omega);have hcs:Ex.cs (nth l f).bodies=y.cc::Ex.cs r:=by rw[hbo,Ex.cs_cc,Ex.cs_cc];rfl
 have hcl:(Ex.cs (nth l f).bodies).length=(Ex.cs r).length+1:=by rw[hcs];rfl
 refine bd Tryz.f27 145 [39,44,79,86,93,95] [5,15,26] fun w0 F0 own kept hk=>?_;refine xa7 1 sl24 .none rfl (by first|rfl|(simp only[zai,occH,occE,Res.ids,xag,List.nil_append,AV.idsL,AV.ids,zab,zaa,zac,zan,xae,List.map_nil,upC,List.append_nil];rfl)) ?_;refine evs [39,44,79,86,93,95] [] ?_;refine xak (ι:=Nat) hk (fun i=>[(6,.d (.i (i:Int))),(5,.ga 1 i (c5 f i) (mA l f (.gv 5 (Ex.cs (nth l f).bodies)) i))]) [9,10,11,12,13,14,15,16,17,18,19,20,21,22,23,24,25,26,27,28,29,30,31,32,33,34,35,36,37] (fun i=>[(1,some (.tok i 6)),(5,(tk5 f i (Ex.cs (nth l f).bodies).length))]) (fun i=>i<=l.length) (fun i=>l.length-i) 0 (by omega) ⟨⟨_,rfl,xap ?_⟩,⟨⟨_,rfl,xar ?_⟩,trivial⟩⟩ ⟨zaf ?_,⟨?_,trivial⟩⟩ (fun x=>rfl) (fun i hg1=>?_);iterate 3 focus (first|rfl|omega|exact⟨rfl,rfl,rfl⟩|exact⟨rfl,(c5_0 (by omega)).symm,rfl⟩|exact⟨rfl,(c5_0 (by omega)).symm,zdj (by omega) (by omega)⟩|exact⟨rfl,(c5_1 (by omega)).symm,zdj (by omega) (by omega)⟩|(refine⟨rfl,(c5_1 (by omega)).symm, ?_⟩;subst hif;exact zgP (by omega) rfl)|(simp;done)|(simp;omega))
 focus (first|rfl|(rw[zeB (by omega)];all_goals rfl)|(rw[zcl (by omega)];all_goals rfl)|(subst hif;rw[zcl (by omega)];show some (Res.tok (0+_) 4)=some (Res.tok _ 4);rw[Nat.zero_add]))
 refine evc [39,44,79,86,93,95] [5,15,26] ?_;refine sq ?_ ?_<;>intro h1 h1p h1s<;>(try simp only[Q,Int.natCast_inj] at h1p);rcases Nat.lt_trichotomy i f with hif|hif|hif
 rw[zeB (by omega),c5_0 (by omega)];refine evc [39,44,79,86,93,95] [] ?_;refine Walk.idx (i:=i) sl24 .none rfl rfl rfl rfl (zae (by omega)) rfl ?_;refine evd [39,44,79,86,93,95] [] ?_;refine xa6 2 sl32 .none rfl (by first|rfl|(simp only[zai,occH,occE,Res.ids,xag,List.nil_append,AV.idsL,AV.ids,zab,zaa,zac,zan,xae,List.map_nil,upC,List.append_nil];rfl)) ?_;refine evd [39,44,79,86,93,95] [] ?_;refine Walk.idx (i:=i) sl24 .none rfl rfl rfl rfl (zae (by omega)) rfl ?_;refine evd [39,44,79,86,93,95] [] ?_;refine Walk.append sl32 zz78 rfl .none rfl rfl rfl rfl (zaW rfl (by first|rfl|(simp;done)|(simp;omega))) (by first|exact za6 _|exact Ex.cs_rows|exact zaO _|(intro y hy;simp at hy;subst hy;rfl)) (by first|(simp;omega)|(have:=hgi i (by omega);simp[Ex.cs_len];omega)|(have:=hgi f hfl;simp[Ex.cs_len];omega)) (by first|(simp;omega)|(have:=hgi i (by omega);simp[Ex.cs_len];omega)|(have:=hgi f hfl;simp[Ex.cs_len];omega)) ?_;refine xa6 3 sl33 .none rfl (by first|rfl|(simp only[zai,occH,occE,Res.ids,xag,List.nil_append,AV.idsL,AV.ids,zab,zaa,zac,zan,xae,List.map_nil,upC,List.append_nil];rfl)) ?_;refine evd [39,44,79,86,93,95] [] ?_;refine Walk.idx (i:=i) sl24 .none rfl rfl rfl rfl (zae (by omega)) rfl ?_;refine evd [39,44,79,86,93,95] [] ?_;refine Walk.append sl33 zz40 rfl .none rfl rfl rfl rfl (zaW rfl (by first|rfl|(simp;done)|(simp;omega))) (by first|exact za6 _|exact Ex.cs_rows|exact zaO _|(intro y hy;simp at hy;subst hy;rfl)) (by first|(simp;omega)|(have:=hgi i (by omega);simp[Ex.cs_len];omega)|(have:=hgi f hfl;simp[Ex.cs_len];omega)) (by first|(simp;omega)|(have:=hgi i (by omega);simp[Ex.cs_len];omega)|(have:=hgi f hfl;simp[Ex.cs_len];omega)) ?_;refine bu [0,1,2] [_,_,_] st35 ?_;refine xba (id:=3036) sl24 tz35 rfl (by decide) (ks:=[0]) (xs:=[_]) rfl rfl (by decide) (by decide) .none rfl rfl rfl rfl (by first|rfl|(simp only[zai,occH,occE,Res.ids,xag,List.nil_append,AV.idsL,AV.ids,zab,zaa,zac,zan,xae,List.map_nil,upC,List.append_nil];rfl)) (by first|rfl|(simp only[zai,occH,occE,Res.ids,xag,List.nil_append,AV.idsL,AV.ids,zab,zaa,zac,zan,xae,List.map_nil,upC,List.append_nil];rfl)) (by first|rfl|(simp only[zai,occH,occE,Res.ids,xag,List.nil_append,AV.idsL,AV.ids,zab,zaa,zac,zan,xae,List.map_nil,upC,List.append_nil];rfl)) ?_;refine xav [] (.cons (.refl _) (.cons (.refl _) (.cons (.refl _) (.cons (.refl _) (.cons (.gl _ _) (.cons (.gl _ _) .nil)))))) rfl rfl sl24 zz35 .none rfl rfl rfl rfl (zaW rfl (by first|rfl|(simp;done)|(simp;omega))) rfl rfl rfl (by first|(simp;omega)|(have:=hgi i (by omega);simp[Ex.cs_len];omega)|(have:=hgi f hfl;simp[Ex.cs_len];omega)) (by first|(simp;omega)|(have:=hgi i (by omega);simp[Ex.cs_len];omega)|(have:=hgi f hfl;simp[Ex.cs_len];omega)) ?_;refine evd [39,44,79,86,93,95] [] ?_;refine dr2 [2,3,3036] ?_ (by first|rfl|(simp only[zai,occH,occE,Res.ids,xag,List.nil_append,AV.idsL,AV.ids,zab,zaa,zac,zan,xae,List.map_nil,upC,List.append_nil];rfl));refine ar ?_;refine xah (i+1) ⟨(by omega),(by omega),sx ⟨⟨_,rfl,xap ?_⟩,⟨⟨_,rfl,xar ?_⟩,trivial⟩⟩ ⟨zaf ?_,⟨?_,trivial⟩⟩⟩;iterate 3 focus (first|rfl|omega|exact⟨rfl,rfl,rfl⟩|exact⟨rfl,(c5_0 (by omega)).symm,rfl⟩|exact⟨rfl,(c5_0 (by omega)).symm,zdj (by omega) (by omega)⟩|exact⟨rfl,(c5_1 (by omega)).symm,zdj (by omega) (by omega)⟩|(refine⟨rfl,(c5_1 (by omega)).symm, ?_⟩;subst hif;exact zgP (by omega) rfl)|(simp;done)|(simp;omega))
 focus (first|rfl|(rw[zeB (by omega)];all_goals rfl)|(rw[zcl (by omega)];all_goals rfl)|(subst hif;rw[zcl (by omega)];show some (Res.tok (0+_) 4)=some (Res.tok _ 4);rw[Nat.zero_add]))
 rw[zeB (by omega),c5_0 (by omega)];refine evc [39,44,79,86,93,95] [] ?_;refine Walk.idx (i:=i) sl24 .none rfl rfl rfl rfl (zae (by omega)) rfl ?_;refine evd [39,44,79,86,93,95] [] ?_;refine xa6 2 sl32 .none rfl (by first|rfl|(simp only[zai,occH,occE,Res.ids,xag,List.nil_append,AV.idsL,AV.ids,zab,zaa,zac,zan,xae,List.map_nil,upC,List.append_nil];rfl)) ?_;refine evd [39,44,79,86,93,95] [] ?_;refine Walk.idx (i:=i) sl24 .none rfl rfl rfl rfl (zae (by omega)) rfl ?_;refine evd [39,44,79,86,93,95] [] ?_;refine Walk.append sl32 zz78 rfl .none rfl rfl rfl rfl (zaW rfl (by first|rfl|(simp;done)|(simp;omega))) (by first|exact za6 _|exact Ex.cs_rows|exact zaO _|(intro y hy;simp at hy;subst hy;rfl)) (by first|(simp;omega)|(have:=hgi i (by omega);simp[Ex.cs_len];omega)|(have:=hgi f hfl;simp[Ex.cs_len];omega)) (by first|(simp;omega)|(have:=hgi i (by omega);simp[Ex.cs_len];omega)|(have:=hgi f hfl;simp[Ex.cs_len];omega)) ?_;refine xa9 5 sl33 .none rfl (by first|rfl|(simp only[zai,occH,occE,Res.ids,xag,List.nil_append,AV.idsL,AV.ids,zab,zaa,zac,zan,xae,List.map_nil,upC,List.append_nil];rfl)) ?_;refine evd [39,44,79,86,93,95] [] ?_;refine Walk.idx (i:=i) sl24 .none rfl rfl rfl rfl (zae (by omega)) rfl ?_;refine evd [39,44,79,86,93,95] [] ?_;refine xay sl33 zz40 .none rfl rfl rfl rfl (zaW rfl (by first|rfl|(simp;done)|(simp;omega))) (by first|exact za6 _|exact Ex.cs_rows|exact zaO _|(intro y hy;simp at hy;subst hy;rfl)) (by first|(simp;omega)|(have:=hgi i (by omega);simp[Ex.cs_len];omega)|(have:=hgi f hfl;simp[Ex.cs_len];omega)) (by first|(simp;omega)|(have:=hgi i (by omega);simp[Ex.cs_len];omega)|(have:=hgi f hfl;simp[Ex.cs_len];omega)) ?_;refine bu [0,1,2] [_,_,_] st35 ?_;refine xba (id:=3036) sl24 tz35 rfl (by decide) (ks:=[0]) (xs:=[_]) rfl rfl (by decide) (by decide) .none rfl rfl rfl rfl (by first|rfl|(simp only[zai,occH,occE,Res.ids,xag,List.nil_append,AV.idsL,AV.ids,zab,zaa,zac,zan,xae,List.map_nil,upC,List.append_nil];rfl)) (by first|rfl|(simp only[zai,occH,occE,Res.ids,xag,List.nil_append,AV.idsL,AV.ids,zab,zaa,zac,zan,xae,List.map_nil,upC,List.append_nil];rfl)) (by first|rfl|(simp only[zai,occH,occE,Res.ids,xag,List.nil_append,AV.idsL,AV.ids,zab,zaa,zac,zan,xae,List.map_nil,upC,List.append_nil];rfl)) ?_;refine xav [5] (.cons (.refl _) (.cons (.refl _) (.cons (.refl _) (.cons (.refl _) (.cons (.gl _ _) (.cons (.refl _) .nil)))))) rfl rfl sl24 zz35 .none rfl rfl rfl rfl (zaW rfl (by first|rfl|(simp;done)|(simp;omega))) rfl rfl rfl (by first|(simp;omega)|(have:=hgi i (by omega);simp[Ex.cs_len];omega)|(have:=hgi f hfl;simp[Ex.cs_len];omega)) (by first|(simp;omega)|(have:=hgi i (by omega);simp[Ex.cs_len];omega)|(have:=hgi f hfl;simp[Ex.cs_len];omega)) ?_;refine evd [39,44,79,86,93,95] [] ?_;refine dr2 [2,5,3036] ?_ (by first|rfl|(simp only[zai,occH,occE,Res.ids,xag,List.nil_append,AV.idsL,AV.ids,zab,zaa,zac,zan,xae,List.map_nil,upC,List.append_nil];rfl));refine ar ?_;refine xah (i+1) ⟨(by omega),(by omega),sx ⟨⟨_,rfl,xap ?_⟩,⟨⟨_,rfl,xar ?_⟩,trivial⟩⟩ ⟨zaf ?_,⟨?_,trivial⟩⟩⟩;iterate 3 focus (first|rfl|omega|exact⟨rfl,rfl,rfl⟩|exact⟨rfl,(c5_0 (by omega)).symm,rfl⟩|exact⟨rfl,(c5_0 (by omega)).symm,zdj (by omega) (by omega)⟩|exact⟨rfl,(c5_1 (by omega)).symm,zdj (by omega) (by omega)⟩|(refine⟨rfl,(c5_1 (by omega)).symm, ?_⟩;subst hif;exact zgP (by omega) rfl)|(simp;done)|(simp;omega))
 focus (first|rfl|(rw[zeB (by omega)];all_goals rfl)|(rw[zcl (by omega)];all_goals rfl)|(subst hif;rw[zcl (by omega)];show some (Res.tok (0+_) 4)=some (Res.tok _ 4);rw[Nat.zero_add]))
 rw[zcl (by omega),c5_1 (by omega)];refine evc [39,44,79,86,93,95] [] ?_;refine Walk.idx (i:=i) sl24 .none rfl rfl rfl rfl (zae (by omega)) rfl ?_;refine evd [39,44,79,86,93,95] [] ?_;refine xa6 2 sl32 .none rfl (by first|rfl|(simp only[zai,occH,occE,Res.ids,xag,List.nil_append,AV.idsL,AV.ids,zab,zaa,zac,zan,xae,List.map_nil,upC,List.append_nil];rfl)) ?_;refine evd [39,44,79,86,93,95] [] ?_;refine Walk.idx (i:=i) sl24 .none rfl rfl rfl rfl (zae (by omega)) rfl ?_;refine evd [39,44,79,86,93,95] [] ?_;refine Walk.append sl32 zz78 rfl .none rfl rfl rfl rfl (zaW rfl (by first|rfl|(simp;done)|(simp;omega))) (by first|exact za6 _|exact Ex.cs_rows|exact zaO _|(intro y hy;simp at hy;subst hy;rfl)) (by first|(simp;omega)|(have:=hgi i (by omega);simp[Ex.cs_len];omega)|(have:=hgi f hfl;simp[Ex.cs_len];omega)) (by first|(simp;omega)|(have:=hgi i (by omega);simp[Ex.cs_len];omega)|(have:=hgi f hfl;simp[Ex.cs_len];omega)) ?_;refine xa6 3 sl33 .none rfl (by first|rfl|(simp only[zai,occH,occE,Res.ids,xag,List.nil_append,AV.idsL,AV.ids,zab,zaa,zac,zan,xae,List.map_nil,upC,List.append_nil];rfl)) ?_;refine evd [39,44,79,86,93,95] [] ?_;refine Walk.idx (i:=i) sl24 .none rfl rfl rfl rfl (zae (by omega)) rfl ?_;refine evd [39,44,79,86,93,95] [] ?_;refine Walk.append sl33 zz40 rfl .none rfl rfl rfl rfl (zaW rfl (by first|rfl|(simp;done)|(simp;omega))) (by first|exact za6 _|exact Ex.cs_rows|exact zaO _|(intro y hy;simp at hy;subst hy;rfl)) (by first|(simp;omega)|(have:=hgi i (by omega);simp[Ex.cs_len];omega)|(have:=hgi f hfl;simp[Ex.cs_len];omega)) (by first|(simp;omega)|(have:=hgi i (by omega);simp[Ex.cs_len];omega)|(have:=hgi f hfl;simp[Ex.cs_len];omega)) ?_;refine bu [0,1,2] [_,_,_] st35 ?_;refine xba (id:=3036) sl24 tz35 rfl (by decide) (ks:=[0]) (xs:=[_]) rfl rfl (by decide) (by decide) .none rfl rfl rfl rfl (by first|rfl|(simp only[zai,occH,occE,Res.ids,xag,List.nil_append,AV.idsL,AV.ids,zab,zaa,zac,zan,xae,List.map_nil,upC,List.append_nil];rfl)) (by first|rfl|(simp only[zai,occH,occE,Res.ids,xag,List.nil_append,AV.idsL,AV.ids,zab,zaa,zac,zan,xae,List.map_nil,upC,List.append_nil];rfl)) (by first|rfl|(simp only[zai,occH,occE,Res.ids,xag,List.nil_append,AV.idsL,AV.ids,zab,zaa,zac,zan,xae,List.map_nil,upC,List.append_nil];rfl)) ?_;refine xav [5] (.cons (.refl _) (.cons (.refl _) (.cons (.refl _) (.cons (.refl _) (.cons (.gl _ _) (.cons (.gl _ _) .nil)))))) rfl rfl sl24 zz35 .none rfl rfl rfl rfl (zaW rfl (by first|rfl|(simp;done)|(simp;omega))) rfl rfl rfl (by first|(simp;omega)|(have:=hgi i (by omega);simp[Ex.cs_len];omega)|(have:=hgi f hfl;simp[Ex.cs_len];omega)) (by first|(simp;omega)|(have:=hgi i (by omega);simp[Ex.cs_len];omega)|(have:=hgi f hfl;simp[Ex.cs_len];omega)) ?_;refine evd [39,44,79,86,93,95] [] ?_;refine dr2 [2,3,3036] ?_ (by first|rfl|(simp only[zai,occH,occE,Res.ids,xag,List.nil_append,AV.idsL,AV.ids,zab,zaa,zac,zan,xae,List.map_nil,upC,List.append_nil];rfl));refine ar ?_;refine xah (i+1) ⟨(by omega),(by omega),sx ⟨⟨_,rfl,xap ?_⟩,⟨⟨_,rfl,xar ?_⟩,trivial⟩⟩ ⟨zaf ?_,⟨?_,trivial⟩⟩⟩;iterate 3 focus (first|rfl|omega|exact⟨rfl,rfl,rfl⟩|exact⟨rfl,(c5_0 (by omega)).symm,rfl⟩|exact⟨rfl,(c5_0 (by omega)).symm,zdj (by omega) (by omega)⟩|exact⟨rfl,(c5_1 (by omega)).symm,zdj (by omega) (by omega)⟩|(refine⟨rfl,(c5_1 (by omega)).symm, ?_⟩;subst hif;exact zgP (by omega) rfl)|(simp;done)|(simp;omega))
 focus (first|rfl|(rw[zeB (by omega)];all_goals rfl)|(rw[zcl (by omega)];all_goals rfl)|(subst hif;rw[zcl (by omega)];show some (Res.tok (0+_) 4)=some (Res.tok _ 4);rw[Nat.zero_add]))
 obtain rfl:i=l.length:=(by omega);rw[zcl hfl,c5_1 hfl];refine xaS sl24 .none rfl rfl ?_;refine evs [39,44,79,86,93,95] [] ?_;refine sq ?_ ?_<;>intro h2 h2p h2s<;>(try simp only[Q,Int.natCast_inj] at h2p);exfalso;exact hne (List.eq_nil_of_length_eq_zero (by omega));refine xaS sl24 .none rfl rfl ?_;refine wd zch (hp1) rfl rfl ⟨rfl,trivial⟩ ?_;refine evs [39,44,79,86,93,95] [] ?_;refine wd zch (hp2) rfl rfl ⟨rfl,trivial⟩ ?_;refine tv ?_;refine sq ?_ ?_<;>intro h3 h3p h3s<;>(try simp only[Q,Int.natCast_inj] at h3p);exfalso;omega;refine sq ?_ ?_<;>intro h4 h4p h4s<;>(try simp only[Q,Int.natCast_inj] at h4p);exfalso;omega;refine sq ?_ ?_<;>intro h5 h5p h5s<;>(try simp only[Q,Int.natCast_inj] at h5p);refine CWp.fixA hk 5 1 6 rfl rfl rfl rfl ?_;refine CWp.fixVB 1 (f*6+5) 5 4 rfl (zgz rfl hfl) (zkH rfl hfl) rfl rfl (by rw[hcs];simp) ?_;refine evc [39,44,79,86,93,95] [] ?_;refine xaQ (i:=f) sl24 .none rfl rfl rfl rfl (by first|omega|(rw[hcl];omega)) ?_;refine evs [39,44,79,86,93,95] [] ?_;refine xaV ty33 .none rfl rfl rfl ((zgz (by omega) hfl)) ?_;refine evs [39,44,79,86,93,95] [] ?_;refine sq ?_ ?_<;>intro h6 h6p h6s<;>(try simp only[Q,Int.natCast_inj] at h6p);refine xaQ (i:=f) sl24 .none rfl rfl rfl rfl (by first|omega|(rw[hcl];omega)) ?_;refine evd [39,44,79,86,93,95] [] ?_;refine xaV ty33 .none rfl rfl rfl ((zgz (by omega) hfl)) ?_;refine evd [39,44,79,86,93,95] [] ?_;refine xaQ (i:=f) sl24 .none rfl rfl rfl rfl (by first|omega|(rw[hcl];omega)) ?_;refine evd [39,44,79,86,93,95] [] ?_;refine xaV ty33 .none rfl rfl rfl ((zgz (by omega) hfl)) ?_;refine xaQ (i:=0) sl33 .none rfl rfl rfl rfl (by first|omega|(rw[hcl];omega)) ?_;refine xaW ty40 .none rfl rfl rfl ((zrX hcs)) ?_;refine wd zmM (i1) rfl rfl ⟨rfl,trivial⟩ ?_;refine wd zmM (i2) rfl rfl ⟨rfl,trivial⟩ ?_;refine xaQ (i:=0) sl33 .none rfl rfl rfl rfl (by first|omega|(rw[hcl];omega)) ?_;refine Walk.store ty40 .none rfl rfl rfl rfl rfl rfl (by simp) ((put0 hcs rfl)) ?_;refine dr ?_;refine CWp.frzC hk 1 (f*6+5) 5 _ 4 (es:=Ex.cs (v2::r)) rfl rfl (zgz rfl hfl) (zqb rfl hfl) rfl (by rw[hcl];exact zoT) rfl ?_;rw[zry hfl];refine CWp.frz hk 5 1 _ 6 (es:=(l.set f ((nth l f).bod (v2::r))).map Fu.c) rfl rfl (zeC (by simp)) rfl ?_;refine evc [39,44,79,86,93,95] [] ?_;refine rn [(900,some (rdB b q2))] (r1 rfl) (.eqd ?_) ⟨rfl,rfl⟩ (SubO.get ⟨.inr ?_,⟨.inl rfl,trivial⟩⟩) (zaI rfl);rotate_left 2;exfalso;rw[hcl] at h6p;omega;exfalso;exact absurd h5 (by decide);all_goals (first|((rfl);done)|(rfl))
theorem zjq {b:Str} (hb:b.length<=2000){l l':List Fu}{q q':Nat} (hq:q<=3000) (hl:l.length<=5) (hg:∀f∈l,∃m,m<=9/\GoodF m f) (hm:MutF b q l l' q'):
  FnD Tryz.prog 27 [.ref 900 0,.d (zbs l)] [(900,some (rdB b q))] (.d (zbs l')) [(900,some (rdB b q'))]:=by
 rcases hm with ⟨rfl,rfl,rfl⟩|⟨hne,f,hf,hfl,hc⟩
 ·exact ziT
 have h100:∀x∈l,x.cls.length<=100/\x.bodies.length<=100:=fun x hx=>by
  obtain⟨m,h1,h2,h3,_⟩:=hg x hx;omega
 obtain⟨m,hm9,g1,g2,g3,g4⟩:=hg _ (zaj hfl);rcases hc with ⟨hK,rfl,rfl⟩|⟨hK,rfl,rfl⟩|⟨hK,y,r,n,v1,q1,v2,hbo,a1,a2,a3,rfl⟩|⟨hK,hbo,rfl,rfl⟩|⟨hK,rfl,rfl⟩|⟨hK,rfl,rfl⟩|⟨hK,h1,rfl,rfl⟩|⟨hK,h1,rfl,rfl⟩|⟨hK,rfl,rfl⟩
 ·exact zj1 hb (by omega) hl hne hf hfl h100 hK
 ·exact zj3 hb (by omega) hl hne hf hfl h100 hK
 ·exact zj4 hb (by omega) hl hne hf hfl h100 hK hbo a1 a2 ((g4 y (by rw[hbo];simp)).2) a3
 ·exact zcK hb (by omega) hl hne hf hfl h100 (by omega) (by omega) (fun _=>hbo) (by omega) (by omega) (by omega) (fun _ _=>rfl)
 ·exact zcK hb (by omega) hl hne hf hfl h100 (by omega) (by omega) (by omega) (by omega) (fun _=>rfl) (by omega) (by omega)
 ·exact zcK hb (by omega) hl hne hf hfl h100 (by omega) (by omega) (by omega) (by omega) (by omega) (fun _=>rfl) (by omega)
 ·exact zj2 hb (by omega) hl hne hf hfl h100 hK h1 (by omega)
 ·exact zcK hb (by omega) hl hne hf hfl h100 (by omega) (by omega) (by omega) (fun _=>h1) (by omega) (by omega) (fun _ _=>rfl)
 ·exact zcK hb (by omega) hl hne hf hfl h100 (by omega) (by omega) (by omega) (by omega) (by omega) (by omega) (fun _ _=>rfl)
theorem zo0 (b:Str):(zi8 b).length<=5/\∀f∈zi8 b,∃m,m<=9/\GoodF m f:=zq9 (w:=zdA b) (s:=zmQ b) zi3
theorem zhq {b:Str} (hb:b.length<=1000000000000):∃w l,WSmall w/\(l.length<=5/\∀f∈l,GoodU f)/\FnD Tryz.prog 6 [.d (zeD b)] [] (.tup [.d (zak w),.d (zbs l)]) []:=by
 have hop:=zk4 hb;have hb2:(b.take 2000).length<=2000:=by rw[List.length_take];omega
 generalize b.take 2000=e at *;obtain⟨hl,hg⟩:=zo0 e;have hw:=zmx e 0;have hbd:=zr9 e 2 (zdA e);have hmw:=zj7 (p:=2) hb2 (by omega) hw.small hw.one;rw[show zi2 e 0=zdA e from rfl] at hmw;obtain⟨l',q',hm⟩:=zqe hb2 (q:=(mutW e 2 (zdA e)).2) (by omega) (zi8 e);refine⟨(mutW e 2 (zdA e)).1,l',zo7 e 0 2,zqd hm hl hg, ?_⟩;have hdr:=zk1 hb2;have hmu:=zjq hb2 (by omega) hl hg hm;generalize zi8 e=l0 at *;generalize (mutW e 2 (zdA e)).2=q at *;generalize (mutW e 2 (zdA e)).1=w2 at *;generalize zdA e=w at *;refine bd Tryz.f6 20 [] [] fun w0 F0 own kept hk=>?_;refine Walk.call (cr:=[900]) ztD (hop) rfl .none rfl rfl (LeL.refl _) trivial rfl (by first|rfl|(simp only[zaY,List.all_cons,List.all_nil,zbS,zbB,AV.idsL,AV.ids,zab,zaa,xae,List.map_nil];rfl)) (by first|rfl|(simp only[zai,occH,occE,Res.ids,xag,List.nil_append,AV.idsL,AV.ids,zab,zaa,zac,zan,xae,List.map_nil,upC];rfl)) ?_;refine ev ?_;refine wd ztE (hdr) rfl rfl ⟨rfl,trivial⟩ ?_;refine ev ?_;refine wd ztF (hmw) rfl rfl ⟨rfl,trivial⟩ ?_;refine ev ?_;refine wd ztG (hmu) rfl rfl ⟨rfl,trivial⟩ ?_;refine ev ?_;focus (refine rn0 (r2 rfl rfl) (.tup (.cons (.eqd ?_) (.cons (.eqd ?_) .nil)));all_goals (first|rfl|(simp[];done)|(simp_all;done)|(simp_all;omega)|omega))
end Go.Proofs.YtmchfdpleibpdaaGreat
namespace Go.Proofs.YtmchfdpleibpdaaGreat
open Go
set_option linter.unusedSimpArgs false
set_option linter.unusedVariables false
set_option maxRecDepth 100000
set_option maxHeartbeats 2000000
mutual
def zdy:Ex->Nat->Bool
 | .mk op n _ ks,j=>(decide (op=5)&&decide (n=(j:Int)))||zfD ks j
def zfD:List Ex->Nat->Bool
 | [],_=>false
 |x::r,j=>zdy x j||zfD r j
end
theorem znh (e:Ex) (j:Nat):zdy e j=((decide (e.op=5)&&decide (e.n=(j:Int)))||zfD e.kids j):=by cases e;rfl
def zdU (f:Nat->Bool) (e:Ex) (j:Nat):Bool:=f j||zdy e j
def zcr (f:Nat->Bool) (l:List Ex) (j:Nat):Bool:=f j||zfD l j
def zcc (f:Nat->Bool) (e:Ex) (j:Nat):Bool:=f j||(decide (e.op=5)&&decide (e.n=(j:Int)))
theorem zhB (f:Nat->Bool):zcr f []=f:=by funext j;simp[zcr,zfD]
theorem zg0 (f:Nat->Bool) (x:Ex) (r:List Ex):zcr f (x::r)=zcr (zdU f x) r:=by funext j;simp[zcr,zdU,zfD,Bool.or_assoc]
theorem zqP (f:Nat->Bool) (e:Ex):zdU f e=zcr (zcc f e) e.kids:=by funext j;simp[zdU,zcr,zcc,znh,Bool.or_assoc]
theorem zpO {f:Nat->Bool}{e:Ex} (h:e.op≠5):zcc f e=f:=by funext j;simp[zcc,h]
theorem zoV {f:Nat->Bool}{e:Ex} (h:e.op=5):zcc f e=covB f e.n:=by funext j;simp[zcc,covB,h]
theorem zrh {f:Nat->Bool}{n:Int}{m:Nat} (h:n<0\/(m:Int)<=n):tabB m (covB f n)=tabB m f:=by
 unfold tabB;refine List.map_congr_left (fun j hj=>?_);have:=List.mem_range.1 hj;unfold covB;rw[decide_eq_false (by omega),Bool.or_false]
theorem zov:∀l:List Ex,l.length<=Exs.size l
 | []=>by simp
 |x::r=>by have:=zov r;have:=Ex.size_eq x;simp only[xab,Exs.size];omega
theorem zow:∀ {l:List Ex}{x:Ex},x∈l->x.size<=Exs.size l
 |y::r,x,h=>by
  rcases List.mem_cons.1 h with rfl|h
  ·simp only[Exs.size];omega
  ·have:=zow h;simp only[Exs.size];omega
theorem zh8:∀(n:Nat) (e:Ex) (f:Nat->Bool),e.size<=n->e.size<=1000000000000->
  FnD Tryz.prog 38 [.agg [.d (.i e.op),.d (.i e.n),.d (.i e.ctor),.d (zaX e.kids)],.ref 901 0] [(901,some (.box (tabB 4 f)))] (.tup []) [(901,some (.box (tabB 4 (zdU f e))))]
 |0,e,f,h,_=>by have:=Ex.size_eq e;omega
 |n+1,e,f,h,hB=>by
  have hsz:=Ex.size_eq e;have hkl:=zov e.kids;have hl:e.kids.length<=1000000000000:=by omega
  have ih:∀k∈e.kids,∀g,FnD Tryz.prog 38 [.agg [.d (.i k.op),.d (.i k.n),.d (.i k.ctor),.d (zaX k.kids)],.ref 901 0] [(901,some (.box (tabB 4 g)))] (.tup []) [(901,some (.box (tabB 4 (zdU g k))))]:=fun k hk g=>by
   have:=zow hk;exact zh8 n k g (by omega) (by omega)
  rw[zqP];have hN0:e.op≠5->zcc f e=f:=zpO;have hN1:e.op=5->zcc f e=covB f e.n:=zoV;have hfar:(e.n<0\/4<=e.n)->tabB 4 (covB f e.n)=tabB 4 f:=fun h=>zrh (m:=4) h;refine bd Tryz.f38 30 [] [] fun w0 F0 own kept hk=>?_;refine Walk.box (id:=3002) .none rfl rfl rfl (by first|rfl|(simp only[zai,occH,occE,Res.ids,xag,List.nil_append,AV.idsL,AV.ids,zab,zaa,zac,zan,xae,List.map_nil,upC,zbl];rfl)) (by first|rfl|(simp only[zai,occH,occE,Res.ids,xag,List.nil_append,AV.idsL,AV.ids,zab,zaa,zac,zan,xae,List.map_nil,upC,zbl];rfl)) (by first|rfl|(simp only[zai,occH,occE,Res.ids,xag,List.nil_append,AV.idsL,AV.ids,zab,zaa,zac,zan,xae,List.map_nil,upC,zbl];rfl)) (by first|rfl|(simp only[zai,occH,occE,Res.ids,xag,List.nil_append,AV.idsL,AV.ids,zab,zaa,zac,zan,xae,List.map_nil,upC,zbl];rfl)) ?_;refine tv ?_;refine sq ?_ ?_<;>intro h1 h1p h1s<;>(try simp only[Q,Ex.cs_len,zal,Bool.and_eq_false_iff,decide_eq_false_iff_not] at h1p);refine Walk.call (cr:=[]) zdx (za3) rfl (.some rfl rfl h1) rfl rfl (LeL.refl _) trivial rfl (by first|rfl|(simp only[zaY,List.all_cons,List.all_nil,zbS,zbB,AV.idsL,AV.ids,zab,zaa,xae,List.map_nil,zbl];rfl)) (by first|rfl|(simp only[zai,occH,occE,Res.ids,xag,List.nil_append,AV.idsL,AV.ids,zab,zaa,zac,zan,xae,List.map_nil,upC,zbl];rfl)) ?_;refine evs [] [(9,true)] ?_ ⟨⟨_,rfl,h1⟩,trivial⟩;refine sq ?_ ?_<;>intro h2 h2p h2s<;>(try simp only[Q,Ex.cs_len,zal,Bool.and_eq_false_iff,decide_eq_false_iff_not] at h2p);refine xaO (i:=e.n.toNat) ar82 .none rfl rfl rfl (Int.toNat_of_nonneg (by omega)).symm (by omega) ?_;refine Walk.store ty4 .none rfl rfl rfl rfl rfl rfl (by simp) ((zri (b:=e.n) (by simp;done) (by omega) (by omega))) ?_;refine dr ?_;refine xak (ι:=List (Ex)×List (Ex)×((Nat->Bool))) hk (fun x=>[(22,.d (.i (x.1.length:Int)))]) [5,23,24,25,26,27,28,29] (fun x=>[(901,some (.box (tabB 4 x.2.2)))]) (fun x=>x.1++x.2.1=e.kids/\zcr x.2.2 x.2.1=zcr (zcc f e) e.kids) (fun x=>x.2.1.length) ([],e.kids,(zcc f e)) ⟨by simp,rfl⟩ ⟨⟨_,rfl,xap ?_⟩,trivial⟩ ⟨?_,trivial⟩ (fun x=>rfl) (fun x hg1=>?_);focus (first|rfl|(simp;done)|(simp_all;done)|omega)
  focus (first|rfl|(show some (Res.box _)=some (Res.box _);rw[hN1 (by first|omega|simp_all)];all_goals rfl)|(show some (Res.box _)=some (Res.box _);by_cases h5:e.op=5;(rw[hN1 h5,hfar (by omega)]);(rw[hN0 h5])))
  obtain⟨pre,rest,g⟩:=x;dsimp only at hg1 ⊢;refine evc [] [] ?_;refine sq ?_ ?_<;>intro h3 h3p h3s<;>(try simp only[Q,Ex.cs_len,zal,Bool.and_eq_false_iff,decide_eq_false_iff_not] at h3p);rcases rest with _|⟨y,rest⟩
  ·exfalso;simp_all
  refine Walk.idx sl33 .none rfl rfl rfl rfl (Ex.cs_at' hg1.1) rfl ?_;refine ev ?_;refine Walk.alloc (id:=3005) tz40 rfl .none rfl (by first|rfl|(simp only[zai,occH,occE,Res.ids,xag,List.nil_append,AV.idsL,AV.ids,zab,zaa,zac,zan,xae,List.map_nil,upC,zbl];rfl)) (by first|rfl|(simp only[zai,occH,occE,Res.ids,xag,List.nil_append,AV.idsL,AV.ids,zab,zaa,zac,zan,xae,List.map_nil,upC,zbl];rfl)) (by first|rfl|(simp only[zai,occH,occE,Res.ids,xag,List.nil_append,AV.idsL,AV.ids,zab,zaa,zac,zan,xae,List.map_nil,upC,zbl];rfl)) ?_;refine so ty40 ?_;refine tv ?_;refine wd zmL (ih y (by rw[<-hg1.1];simp) g) rfl rfl ⟨rfl,trivial⟩ ?_;refine tv ?_;refine ar ?_;refine xah ((pre++[y],rest,(zdU g y))) ⟨⟨(by have hz:=hg1.1;rw[<-hz];simp),(by rw[<-hg1.2,zg0])⟩,(by simp),sx ⟨⟨_,rfl,xap ?_⟩,trivial⟩ ⟨?_,trivial⟩⟩;focus (first|rfl|(simp;done)|(simp_all;done)|omega)
  focus (first|rfl|(show some (Res.box _)=some (Res.box _);rw[hN1 (by first|omega|simp_all)];all_goals rfl)|(show some (Res.box _)=some (Res.box _);by_cases h5:e.op=5;(rw[hN1 h5,hfar (by omega)]);(rw[hN0 h5])))
  have hrest:rest=[]:=by
   rcases rest with _|⟨a,b⟩
   ·rfl
   ·exfalso;have hz:=congrArg List.length (hg1.1);simp only[xaa,xab,xac] at hz;omega
  subst hrest;focus (refine rn [(901,some (.box (tabB 4 (zcr (zcc f e) e.kids))))] .nil (.refl _) ⟨rfl,rfl⟩ (SubO.get ⟨.inr (by(rw[<-hg1.2,zhB];all_goals rfl)),⟨.inl rfl,trivial⟩⟩) (zaI rfl);all_goals (first|rfl|(simp[h1s,h1p,h2s,h2p,h3s,h3p];done)|(simp_all;done)|(simp_all;omega)|omega))
  refine xak (ι:=List (Ex)×List (Ex)×((Nat->Bool))) hk (fun x=>[(22,.d (.i (x.1.length:Int)))]) [5,23,24,25,26,27,28,29] (fun x=>[(901,some (.box (tabB 4 x.2.2)))]) (fun x=>x.1++x.2.1=e.kids/\zcr x.2.2 x.2.1=zcr (zcc f e) e.kids) (fun x=>x.2.1.length) ([],e.kids,(zcc f e)) ⟨by simp,rfl⟩ ⟨⟨_,rfl,xap ?_⟩,trivial⟩ ⟨?_,trivial⟩ (fun x=>rfl) (fun x hg1=>?_);focus (first|rfl|(simp;done)|(simp_all;done)|omega)
  focus (first|rfl|(show some (Res.box _)=some (Res.box _);rw[hN1 (by first|omega|simp_all)];all_goals rfl)|(show some (Res.box _)=some (Res.box _);by_cases h5:e.op=5;(rw[hN1 h5,hfar (by omega)]);(rw[hN0 h5])))
  obtain⟨pre,rest,g⟩:=x;dsimp only at hg1 ⊢;refine evc [] [] ?_;refine sq ?_ ?_<;>intro h4 h4p h4s<;>(try simp only[Q,Ex.cs_len,zal,Bool.and_eq_false_iff,decide_eq_false_iff_not] at h4p);rcases rest with _|⟨y,rest⟩
  ·exfalso;simp_all
  refine Walk.idx sl33 .none rfl rfl rfl rfl (Ex.cs_at' hg1.1) rfl ?_;refine ev ?_;refine Walk.alloc (id:=3005) tz40 rfl .none rfl (by first|rfl|(simp only[zai,occH,occE,Res.ids,xag,List.nil_append,AV.idsL,AV.ids,zab,zaa,zac,zan,xae,List.map_nil,upC,zbl];rfl)) (by first|rfl|(simp only[zai,occH,occE,Res.ids,xag,List.nil_append,AV.idsL,AV.ids,zab,zaa,zac,zan,xae,List.map_nil,upC,zbl];rfl)) (by first|rfl|(simp only[zai,occH,occE,Res.ids,xag,List.nil_append,AV.idsL,AV.ids,zab,zaa,zac,zan,xae,List.map_nil,upC,zbl];rfl)) ?_;refine so ty40 ?_;refine tv ?_;refine wd zmL (ih y (by rw[<-hg1.1];simp) g) rfl rfl ⟨rfl,trivial⟩ ?_;refine tv ?_;refine ar ?_;refine xah ((pre++[y],rest,(zdU g y))) ⟨⟨(by have hz:=hg1.1;rw[<-hz];simp),(by rw[<-hg1.2,zg0])⟩,(by simp),sx ⟨⟨_,rfl,xap ?_⟩,trivial⟩ ⟨?_,trivial⟩⟩;focus (first|rfl|(simp;done)|(simp_all;done)|omega)
  focus (first|rfl|(show some (Res.box _)=some (Res.box _);rw[hN1 (by first|omega|simp_all)];all_goals rfl)|(show some (Res.box _)=some (Res.box _);by_cases h5:e.op=5;(rw[hN1 h5,hfar (by omega)]);(rw[hN0 h5])))
  have hrest:rest=[]:=by
   rcases rest with _|⟨a,b⟩
   ·rfl
   ·exfalso;have hz:=congrArg List.length (hg1.1);simp only[xaa,xab,xac] at hz;omega
  subst hrest;focus (refine rn [(901,some (.box (tabB 4 (zcr (zcc f e) e.kids))))] .nil (.refl _) ⟨rfl,rfl⟩ (SubO.get ⟨.inr (by(rw[<-hg1.2,zhB];all_goals rfl)),⟨.inl rfl,trivial⟩⟩) (zaI rfl);all_goals (first|rfl|(simp[h1s,h1p,h2s,h2p,h4s,h4p];done)|(simp_all;done)|(simp_all;omega)|omega))
  refine sqF ?_;refine xak (ι:=List (Ex)×List (Ex)×((Nat->Bool))) hk (fun x=>[(22,.d (.i (x.1.length:Int)))]) [5,23,24,25,26,27,28,29] (fun x=>[(901,some (.box (tabB 4 x.2.2)))]) (fun x=>x.1++x.2.1=e.kids/\zcr x.2.2 x.2.1=zcr (zcc f e) e.kids) (fun x=>x.2.1.length) ([],e.kids,(zcc f e)) ⟨by simp,rfl⟩ ⟨⟨_,rfl,xap ?_⟩,trivial⟩ ⟨?_,trivial⟩ (fun x=>rfl) (fun x hg1=>?_);focus (first|rfl|(simp;done)|(simp_all;done)|omega)
  focus (first|rfl|(show some (Res.box _)=some (Res.box _);rw[hN1 (by first|omega|simp_all)];all_goals rfl)|(show some (Res.box _)=some (Res.box _);by_cases h5:e.op=5;(rw[hN1 h5,hfar (by omega)]);(rw[hN0 h5])))
  obtain⟨pre,rest,g⟩:=x;dsimp only at hg1 ⊢;refine evc [] [] ?_;refine sq ?_ ?_<;>intro h6 h6p h6s<;>(try simp only[Q,Ex.cs_len,zal,Bool.and_eq_false_iff,decide_eq_false_iff_not] at h6p);rcases rest with _|⟨y,rest⟩
  ·exfalso;simp_all
  refine Walk.idx sl33 .none rfl rfl rfl rfl (Ex.cs_at' hg1.1) rfl ?_;refine ev ?_;refine Walk.alloc (id:=3005) tz40 rfl .none rfl (by first|rfl|(simp only[zai,occH,occE,Res.ids,xag,List.nil_append,AV.idsL,AV.ids,zab,zaa,zac,zan,xae,List.map_nil,upC,zbl];rfl)) (by first|rfl|(simp only[zai,occH,occE,Res.ids,xag,List.nil_append,AV.idsL,AV.ids,zab,zaa,zac,zan,xae,List.map_nil,upC,zbl];rfl)) (by first|rfl|(simp only[zai,occH,occE,Res.ids,xag,List.nil_append,AV.idsL,AV.ids,zab,zaa,zac,zan,xae,List.map_nil,upC,zbl];rfl)) ?_;refine so ty40 ?_;refine tv ?_;refine wd zmL (ih y (by rw[<-hg1.1];simp) g) rfl rfl ⟨rfl,trivial⟩ ?_;refine tv ?_;refine ar ?_;refine xah ((pre++[y],rest,(zdU g y))) ⟨⟨(by have hz:=hg1.1;rw[<-hz];simp),(by rw[<-hg1.2,zg0])⟩,(by simp),sx ⟨⟨_,rfl,xap ?_⟩,trivial⟩ ⟨?_,trivial⟩⟩;focus (first|rfl|(simp;done)|(simp_all;done)|omega)
  focus (first|rfl|(show some (Res.box _)=some (Res.box _);rw[hN1 (by first|omega|simp_all)];all_goals rfl)|(show some (Res.box _)=some (Res.box _);by_cases h5:e.op=5;(rw[hN1 h5,hfar (by omega)]);(rw[hN0 h5])))
  have hrest:rest=[]:=by
   rcases rest with _|⟨a,b⟩
   ·rfl
   ·exfalso;have hz:=congrArg List.length (hg1.1);simp only[xaa,xab,xac] at hz;omega
  subst hrest;focus (refine rn [(901,some (.box (tabB 4 (zcr (zcc f e) e.kids))))] .nil (.refl _) ⟨rfl,rfl⟩ (SubO.get ⟨.inr (by(rw[<-hg1.2,zhB];all_goals rfl)),⟨.inl rfl,trivial⟩⟩) (zaI rfl);all_goals (first|rfl|(simp[h1s,h1p,h6s,h6p];done)|(simp_all;done)|(simp_all;omega)|omega))
theorem zlT {f:Nat->Bool}{n:Nat}:∀ {m:Nat},n<m->(((n:Int)∈zci f m)↔f n=true)
 |0,h=>by omega
 |m+1,h=>by
  have hno:∀m,m<=n->¬(n:Int)∈zci f m:=by
   intro m;induction m with
   |zero=>intro _;simp[zci]
   |succ m ih=>
    intro hm hh;simp only[zci,List.mem_append] at hh;rcases hh with hh|hh
    ·exact ih (by omega) hh
    ·split at hh
     ·simp only[List.mem_singleton] at hh;omega
     ·simp at hh
  simp only[zci,List.mem_append];by_cases hn:n=m
  ·subst hn;constructor
   ·intro hh;rcases hh with hh|hh
    ·exact absurd hh (hno n (Nat.le_refl _))
    ·split at hh
     ·assumption
     ·simp at hh
   ·intro hf;right;rw[if_pos hf];simp
  ·have ih:=zlT (f:=f) (n:=n) (m:=m) (by omega);rw[<-ih];constructor
   ·intro hh;rcases hh with hh|hh
    ·exact hh
    ·split at hh
     ·simp only[List.mem_singleton] at hh;omega
     ·simp at hh
   ·exact .inl
def zgq (e:Ex):List Int:=zci (zdU (fun _=>false) e) 4
theorem zoX {e:Ex}{n:Nat} (h:n<4):((n:Int)∈zgq e)↔zdy e n=true:=by
 unfold zgq;rw[zlT h];simp[zdU]
theorem zkA {e:Ex} (hB:e.size<=1000000000000):
  FnD Tryz.prog 10 [.agg [.d (.i e.op),.d (.i e.n),.d (.i e.ctor),.d (zaX e.kids)]] [] (.d (zb4 (zgq e))) []:=by
 have hc:=zh8 e.size e (fun _=>false) (Nat.le_refl _) hB;have hV:zgq e=zci (zdU (fun _=>false) e) 4:=rfl;rw[hV];generalize zdU (fun _=>false) e=F at *;refine bd Tryz.f10 21 [4] [] fun w0 F0 own kept hk=>?_;refine Walk.box (id:=3001) .none rfl rfl rfl (by first|rfl|(simp only[zai,occH,occE,Res.ids,xag,List.nil_append,AV.idsL,AV.ids,zab,zaa,zac,zan,xae,List.map_nil,upC,zbl];rfl)) (by first|rfl|(simp only[zai,occH,occE,Res.ids,xag,List.nil_append,AV.idsL,AV.ids,zab,zaa,zac,zan,xae,List.map_nil,upC,zbl];rfl)) (by first|rfl|(simp only[zai,occH,occE,Res.ids,xag,List.nil_append,AV.idsL,AV.ids,zab,zaa,zac,zan,xae,List.map_nil,upC,zbl];rfl)) (by first|rfl|(simp only[zai,occH,occE,Res.ids,xag,List.nil_append,AV.idsL,AV.ids,zab,zaa,zac,zan,xae,List.map_nil,upC,zbl];rfl)) ?_;refine evs [4] [] ?_;refine Walk.alloc (id:=901) tz82 rfl .none rfl (by first|rfl|(simp only[zai,occH,occE,Res.ids,xag,List.nil_append,AV.idsL,AV.ids,zab,zaa,zac,zan,xae,List.map_nil,upC,zbl];rfl)) (by first|rfl|(simp only[zai,occH,occE,Res.ids,xag,List.nil_append,AV.idsL,AV.ids,zab,zaa,zac,zan,xae,List.map_nil,upC,zbl];rfl)) (by first|rfl|(simp only[zai,occH,occE,Res.ids,xag,List.nil_append,AV.idsL,AV.ids,zab,zaa,zac,zan,xae,List.map_nil,upC,zbl];rfl)) ?_;refine tv ?_;refine wd zmL (hc) rfl rfl ⟨rfl,trivial⟩ ?_;refine tv ?_;refine xaz 1 1 .none rfl rfl ?_;refine tv ?_;refine xak (ι:=Nat) hk (fun j=>[(10,.d (.i (j:Int))),(9,.agg (tabB 4 F)),(4,.gl 1 ((zci F j).map fun n=>[D.i n]))]) [5,6,11,12,13,14,15,16,17,18,19] (fun j=>[(1,some (.tok (((zci F j).map fun n=>[D.i n])).length 1))]) (fun j=>j<=4) (fun j=>4-j) 0 (by omega) ⟨⟨_,rfl,xap ?_⟩,⟨⟨_,rfl,LeA.eqa ?_⟩,⟨⟨_,rfl,LeA.glg ?_⟩,trivial⟩⟩⟩ ⟨zaf ?_,trivial⟩ (fun x=>rfl) (fun j hg1=>?_);iterate 4 focus (first|rfl|(simp;done)|(rw[ziu (by assumption)];simp;done)|(rw[zjG (by assumption)];done)|omega|(simp;omega))
 refine evc [4] [] ?_;refine sq ?_ ?_<;>intro h1 h1p h1s<;>(try simp only[Q,Int.natCast_inj] at h1p);refine Walk.idxV (i:=j) ar82 ty4 .none rfl rfl rfl rfl (by omega) (zsn (by omega)) ?_;refine evs [4] [] ?_;refine sq ?_ ?_<;>intro h2 h2p h2s<;>(try simp only[Q,Int.natCast_inj] at h2p);refine si [0] [_] sl37 tz3 ?_;refine ap sl37 zz3 rfl rfl rfl (by simp) (by have:=zit F j;simp;omega) ?_;refine asg ?_;refine tv ?_;refine ar ?_;refine xah (j+1) ⟨(by omega),(by omega),sx ⟨⟨_,rfl,xap ?_⟩,⟨⟨_,rfl,LeA.eqa ?_⟩,⟨⟨_,rfl,LeA.glg ?_⟩,trivial⟩⟩⟩ ⟨zaf ?_,trivial⟩⟩;iterate 4 focus (first|rfl|(simp;done)|(rw[ziu (by assumption)];simp;done)|(rw[zjG (by assumption)];done)|omega|(simp;omega))
 refine ar ?_;refine xah (j+1) ⟨(by omega),(by omega),sx ⟨⟨_,rfl,xap ?_⟩,⟨⟨_,rfl,LeA.eqa ?_⟩,⟨⟨_,rfl,LeA.glg ?_⟩,trivial⟩⟩⟩ ⟨zaf ?_,trivial⟩⟩;iterate 4 focus (first|rfl|(simp;done)|(rw[ziu (by assumption)];simp;done)|(rw[zjG (by assumption)];done)|omega|(simp;omega))
 refine rn0 (r1 rfl) (.gld ?_);rotate_left;all_goals (first|rfl|(have e4:j=4:=(by omega);rw[e4];all_goals rfl))
end Go.Proofs.YtmchfdpleibpdaaGreat
namespace Go.Proofs.YtmchfdpleibpdaaGreat
open Go
set_option linter.unusedSimpArgs false
set_option linter.unusedVariables false
set_option maxRecDepth 100000
theorem zjC {α β:Type}{g g0:α->β->Bool}{c:β->Bool}:∀(a:List α) (b:List β),(∀x y,g x y=true->y∈b->g0 x y = !c y)->all2 g a b=true->all2 g0 a b = !b.any c
 | [],[],_,_=>rfl
 |x::r,y::s,h,hh=>by
  simp only[all2,xad] at hh;simp only[all2,List.any_cons];rw[h x y hh.1 (by simp),zjC r s (fun x y q m=>h x y q (by simp[m])) hh.2,Bool.not_or]
 | [],_::_,_,hh=>by simp[all2] at hh
 |_::_,[],_,hh=>by simp[all2] at hh
theorem zkq (j:Nat):∀l:List Ex,zfD l j=l.any fun e=>zdy e j
 | []=>rfl
 |x::r=>by simp only[zfD,List.any_cons,zkq j r]
theorem zmh {α:Type} [Inhabited α]{l:List α}{i n:Nat} (h:i<n):nth (l.take n) i=nth l i:=by
 unfold nth;simp[List.getD,List.getElem?_take,h]
section
variable {w:List Data}{F:List Ft}{vars:List Vt}{last:Nat}
theorem zoj (hF:F.length=last+1){t:Ty}{e:Ex} (h:zc2 w F vars t e=true):
  (e.op=5/\e.n=(last:Int)/\zc2 w (F.take last) vars t e=false)\/((e.op≠5\/e.n≠(last:Int))/\zc2 w (F.take last) vars t e=true/\zaz w (F.take last) t e=zaz w F t e):=by
 have hT:(F.take last).length=last:=by rw[List.length_take];omega
 by_cases h5:e.op=5
 ·unfold zc2 at h ⊢;rw[xad] at h;obtain⟨h1,h2⟩:=h;rw[ok_5 h5,xad] at h1;have h3:=of_decide_eq_true h1.1;by_cases hn:e.n=(last:Int)
  ·refine .inl ⟨h5,hn, ?_⟩;rw[ok_5 h5,decide_eq_false (by rw[hT];omega)];rfl
  ·have hlt:e.n.toNat<last:=by omega
   have e1:nth (F.take last) e.n.toNat=nth F e.n.toNat:=zmh hlt;have e2:zaz w (F.take last) t e=zaz w F t e:=by
    rw[ty_5 h5 h3,ty_5 h5 (by rw[hT];omega),e1]
   refine .inr ⟨.inr hn, ?_,e2⟩;rw[e2,ok_5 h5,e1,decide_eq_true (by rw[hT];omega),h1.2,h2];rfl
 ·refine .inr ⟨.inl h5, ?_⟩;have e1:okE w (F.take last) vars t e=okE w F vars t e:=by unfold okE;simp only[if_neg h5]
  have e2:zaz w (F.take last) t e=zaz w F t e:=by unfold zaz;simp only[if_neg h5]
  unfold zc2 at h ⊢;rw[e1,e2];exact⟨h,rfl⟩
theorem zjw (hF:F.length=last+1):∀(n:Nat) (t:Ty) (e:Ex),zbr w F vars n t e=true->zbr w (F.take last) vars n t e = !zdy e last
 |0,t,e,h=>by simp[zbr] at h
 |n+1,t,e,h=>by
  simp only[zbr,xad] at h ⊢;rw[znh];rcases zoj hF h.1 with ⟨h5,hn,hf⟩|⟨hn,ht,he⟩
  ·rw[hf,h5,hn];simp
  ·rw[ht,he,Bool.true_and,zjC (c:=fun e=>zdy e last) _ _ (fun x y q _=>zjw hF n x y q) h.2,zkq];have:(decide (e.op=5)&&decide (e.n=(last:Int)))=false:=by
    rcases hn with hn|hn<;>simp[hn]
   rw[this,Bool.false_or]
theorem zp5 (hF:F.length=last+1){t:Ty}{e:Ex} (h:isE w F vars t e=true):isE w (F.take last) vars t e = !zdy e last:=by
 unfold isE at h ⊢;rw[xad] at h;rw[zjw hF 10 t e h.1,h.2,Bool.and_true]
end
def zfE (f:Fu) (j:Nat):Bool:=f.bodies.any fun e=>zdy e j
theorem zl1 {w:List Data}{F:List Ft}{last:Nat} (hF:F.length=last+1){f:Fu} (h:zbD w F f=true):zbD w (F.take last) f = !zfE f last:=by
 unfold zbD at h ⊢;rw[xad] at h;rw[h.1,Bool.true_and];exact zjC (c:=fun e=>zdy e last) f.cls f.bodies (fun x y q _=>zp5 hF q) h.2
theorem zjx {w:List Data}{l:List Fu}{last:Nat} (hl:l.length=last+1) (h:zbe w l=true):zbe w (l.take last) = !(l.take last).any fun f=>zfE f last:=by
 unfold zbe at h ⊢;simp only[xad] at h;obtain⟨h1,h2,h3⟩:=h;have hF:(l.map Fu.ty).length=last+1:=by rw[xac];exact hl
 have hT:(l.take last).map Fu.ty=(l.map Fu.ty).take last:=by rw[List.map_take]
 have h4:zbC w ((l.map Fu.ty).take last)=true:=by
  unfold zbC at h2 ⊢;simp only[xad,decide_eq_true_eq,Bool.not_eq_true',List.any_eq_false] at h2 ⊢;refine⟨?_,fun x hx=>h2.2 x (List.mem_of_mem_take hx)⟩;have:=h2.1;rw[List.length_take];omega
 rw[h1,hT,h4,Bool.true_and,Bool.true_and];rw[Bool.eq_iff_iff];simp only[List.all_eq_true,Bool.not_eq_true',List.any_eq_false];have h5:=List.all_eq_true.1 h3;constructor
 ·intro q x hx hc;have:=q x hx;rw[zl1 hF (h5 x (List.mem_of_mem_take hx))] at this;simp_all
 ·intro q x hx;rw[zl1 hF (h5 x (List.mem_of_mem_take hx))];have:=q x hx;simp_all
end Go.Proofs.YtmchfdpleibpdaaGreat
namespace Go.Proofs.YtmchfdpleibpdaaGreat
open Go
set_option linter.unusedSimpArgs false
set_option linter.unusedVariables false
set_option maxRecDepth 100000
set_option maxHeartbeats 2000000
theorem zoi {l:List Int}{n:Int} (h:l.length<=1000000000000):FnD Tryz.prog 9 [.d (zb4 l),.d (.i n)] [] (.d (.bool (decide (n∈l)))) []:=by
 refine bd Tryz.f9 18 [] [] fun w0 F0 own kept hk=>?_;refine xak (ι:=Nat) hk (fun i=>[(5,.d (.i (i:Int)))]) [4,6,7,8,9,10,11,12,13,14,15,16,17] (fun i=>[]) (fun i=>i<=l.length/\∀i',i'<i->¬nth l i'=n) (fun i=>l.length-i) 0 ⟨by omega,fun _ h=>absurd h (by omega)⟩ ⟨⟨_,rfl,xap ?_⟩,trivial⟩ trivial (fun x=>rfl) (fun i hg1=>?_);focus (first|rfl|(simp;done)|(simp_all;done)|omega)
 refine evc [] [] ?_;refine sq ?_ ?_<;>intro h1 h1p h1s<;>(try simp only[Q] at h1p);refine Walk.idx sl37 .none rfl rfl rfl rfl (zae (by omega)) rfl ?_;refine ev ?_;refine sq ?_ ?_<;>intro h2 h2p h2s<;>(try simp only[Q] at h2p);refine rq ?_;rotate_left;refine ar ?_;refine xah (i+1) ⟨⟨by omega,zaN hg1.2 (by assumption)⟩,(by omega),sx ⟨⟨_,rfl,xap ?_⟩,trivial⟩ trivial⟩;focus (first|rfl|(simp;done)|(simp_all;done)|omega)
 refine rq ?_;rotate_left;all_goals (refine congrArg D.bool ?_;first|(refine(decide_eq_true ?_).symm;have h9:=zaj (l:=l) (i:=i) (by omega);simp_all;done)|(refine(decide_eq_false (fun hm=>?_)).symm;obtain⟨j,hj,e⟩:=List.getElem_of_mem hm;have:=hg1.2 j (by omega);simp_all[nth,List.getD];done))
theorem zpP {f:Fu}{j:Nat} (h:∀k,k<f.bodies.length->zdy (nth f.bodies k) j=false):zfE f j=false:=by
 unfold zfE;rw[List.any_eq_false];intro e he;obtain⟨k,hk,rfl⟩:=List.getElem_of_mem he;have:=h k hk;rw[zaL hk] at this;rw[this];simp
theorem zqp {w:List Data}{l:List Fu}{last:Nat} (hl:l.length=last+1) (h:zbe w l=true){i k:Nat} (hi:i<last) (hk:k<(nth l i).bodies.length) (hc:zdy (nth (nth l i).bodies k) last=true):zbe w (l.take last)=false:=by
 rw[zjx hl h];have h1:nth l i∈l.take last:=by
  have:=zaj (l:=l.take last) (i:=i) (by rw[List.length_take];omega);rwa [zmh hi] at this
 have h2:(l.take last).any (fun f=>zfE f last)=true:=List.any_eq_true.2 ⟨_,h1,List.any_eq_true.2 ⟨_,zaj hk,hc⟩⟩;rw[h2];rfl
theorem zpe {w:List Data}{l:List Fu}{last:Nat} (hl:l.length=last+1) (h:zbe w l=true) (hc:∀i,i<last->zfE (nth l i) last=false):zbe w (l.take last)=true:=by
 rw[zjx hl h];have h2:(l.take last).any (fun f=>zfE f last)=false:=by
  rw[List.any_eq_false];intro f hf;obtain⟨i,hi,rfl⟩:=List.getElem_of_mem hf;rw[List.length_take] at hi;have:=hc i (by omega);rw[zaL (by omega)] at this;rw[List.getElem_take,this];simp
 rw[h2];rfl
theorem zqU {w:List Data}{l:List Fu} (h:zbe w l=true):l.length<=4:=by
 unfold zbe zbC at h;simp only[xad,decide_eq_true_eq,xac] at h;omega
theorem zhL {b:Str} (hb:b.length<=1000000000000):FnD Tryz.prog 3 [.d (zeD b)] [] (.d (.bool true)) []:=by
 obtain⟨w,l,hs,⟨hl5,hg⟩,hdr⟩:=zhq hb;obtain⟨hok,hsz⟩:=zqV hl5 hg;have himp:=zfU hs hok;have hspec:=zct hs hok hsz;cases hv:zbe w l with
 |false=>
  rw[hv] at himp hspec;refine bd Tryz.f3 79 [24,38] [] fun w0 F0 own kept hk=>?_;refine sq ?_ ?_<;>intro h1 h1p h1s<;>(try simp only[Q,xac] at h1p);refine rq ?_;rotate_left;refine wc cal6 (hdr) rfl rfl ?_;refine evs [24,38] [] ?_;refine wc cal7 (himp) rfl rfl ?_;refine evs [24,38] [] ?_;refine wc cal8 (hspec) rfl rfl ?_;refine Walk.neB un4 .none rfl rfl rfl ?_;refine evs [24,38] [] ?_;refine sq ?_ ?_<;>intro h2 h2p h2s<;>(try simp only[Q,xac] at h2p);refine sqT ?_;refine sqT ?_;refine wc cal8 (hspec) rfl rfl ?_;refine xaM un4 .none rfl rfl rfl ?_;refine evs [24,38] [] ?_;refine rq ?_;rotate_left;refine sq ?_ ?_<;>intro h4 h4p h4s<;>(try simp only[Q,xac] at h4p);refine sqT ?_;refine wc cal8 (hspec) rfl rfl ?_;refine xaM un4 .none rfl rfl rfl ?_;refine evs [24,38] [] ?_;refine rq ?_;rotate_left;refine sq ?_ ?_<;>intro h6 h6p h6s<;>(try simp only[Q,xac] at h6p);refine wc cal8 (hspec) rfl rfl ?_;refine xaM un4 .none rfl rfl rfl ?_;refine evs [24,38] [] ?_;refine rq ?_;rotate_left;exfalso;simp_all;all_goals (first|rfl|(simp_all;done))
 |true=>
  rw[hv] at himp hspec;have h4:=zqU hv;cases l with
  |nil=>
   refine bd Tryz.f3 79 [24,38] [] fun w0 F0 own kept hk=>?_;refine sq ?_ ?_<;>intro h1 h1p h1s<;>(try simp only[Q,xac] at h1p);refine rq ?_;rotate_left;refine wc cal6 (hdr) rfl rfl ?_;refine evs [24,38] [] ?_;refine wc cal7 (himp) rfl rfl ?_;refine evs [24,38] [] ?_;refine wc cal8 (hspec) rfl rfl ?_;refine Walk.neB un4 .none rfl rfl rfl ?_;refine evs [24,38] [] ?_;refine sq ?_ ?_<;>intro h2 h2p h2s<;>(try simp only[Q,xac] at h2p);refine sqT ?_;refine sqT ?_;refine wc cal8 (hspec) rfl rfl ?_;refine xaM un4 .none rfl rfl rfl ?_;refine evs [24,38] [] ?_;refine rq ?_;rotate_left;refine sq ?_ ?_<;>intro h4 h4p h4s<;>(try simp only[Q,xac] at h4p);refine sqT ?_;refine wc cal8 (hspec) rfl rfl ?_;refine xaM un4 .none rfl rfl rfl ?_;refine evs [24,38] [] ?_;refine rq ?_;rotate_left;refine sq ?_ ?_<;>intro h6 h6p h6s<;>(try simp only[Q,xac] at h6p);refine wc cal8 (hspec) rfl rfl ?_;refine xaM un4 .none rfl rfl rfl ?_;refine evs [24,38] [] ?_;refine rq ?_;rotate_left;exfalso;simp_all;all_goals (first|rfl|(simp_all;done))
  |cons y r=>
   have hlr:(y::r).length=r.length+1:=rfl;generalize r.length=last at hlr;generalize y::r=l at *;have hN:((l.map Fu.c).length:Int)-1=(last:Int):=by rw[xac];omega
   have hokt:FusOk (l.take last):=⟨by rw[List.length_take];omega,fun f hf=>hok.2 f (List.mem_of_mem_take hf)⟩;have htk:=zfU hs hokt;rw[show zbs (l.take last) = .sl ((l.map Fu.c).take last) by rw[<-List.map_take]] at htk;have q1:=fun(i k:Nat) (hi:i<last) (hk:k<(nth l i).bodies.length) hc=>zqp hlr hv hi hk hc;have q2:=fun hc=>zpe hlr hv hc;generalize zbe w (l.take last)=V at *;have hco:=fun(i k:Nat) (hi:i<l.length) (hk:k<(nth l i).bodies.length)=>zkA (e:=nth (nth l i).bodies k) (by have:=((hg _ (zaj hi)).2.2.2 _ (zaj hk)).2;omega);have hpt:∀e:Ex,FnD Tryz.prog 9 [.d (zb4 (zgq e)),.d (.i (((l.map Fu.c).length:Int)-1))] [] (.d (.bool (zdy e last))) []:=fun e=>by
    have h:=zoi (l:=zgq e) (n:=(last:Int)) (by have:=zit (zdU (fun _=>false) e) 4;show(zci _ 4).length<=_;omega);rw[hN,show zdy e last=decide ((last:Int)∈zgq e) by rw[Bool.eq_iff_iff,decide_eq_true_iff];exact(zoX (by omega)).symm];exact h
   refine bd Tryz.f3 79 [24] [] fun w0 F0 own kept hk=>?_;refine sq ?_ ?_<;>intro h1 h1p h1s<;>(try simp only[Q,xac,Ex.cs_len] at h1p);refine rq ?_;rotate_left;refine wc cal6 (hdr) rfl rfl ?_;refine evs [24] [] ?_;refine wc cal7 (himp) rfl rfl ?_;refine evs [24] [] ?_;refine wc cal8 (hspec) rfl rfl ?_;refine Walk.neB un4 .none rfl rfl rfl ?_;refine evs [24] [] ?_;refine sq ?_ ?_<;>intro h2 h2p h2s<;>(try simp only[Q,xac,Ex.cs_len] at h2p);refine sqT ?_;refine sqT ?_;focus (exfalso;first|omega|(simp_all;done)|(simp_all;omega))
   refine sq ?_ ?_<;>intro h4 h4p h4s<;>(try simp only[Q,xac,Ex.cs_len] at h4p);refine sqT ?_;focus (exfalso;first|omega|(simp_all;done)|(simp_all;omega))
   refine sq ?_ ?_<;>intro h6 h6p h6s<;>(try simp only[Q,xac,Ex.cs_len] at h6p);focus (exfalso;first|omega|(simp_all;done)|(simp_all;omega))
   refine ar ?_;refine xak (ι:=Nat) hk (fun i=>[(7,.d (.i (i:Int)))]) [2,8,42,43,44,45,46,47,48,49,50,51,52,53,54,55,56,57,58,59,60,61,62,63,64,65,66,67,68,69,70,71,72,73] (fun i=>[]) (fun i=>i<=last/\∀i',i'<i->zfE (nth l i') last=false) (fun i=>last-i) 0 ⟨by omega,fun _ h=>absurd h (by omega)⟩ ⟨⟨_,rfl,xap ?_⟩,trivial⟩ trivial (fun x=>rfl) (fun i hg1=>?_);focus (first|rfl|(simp;done)|(simp_all;done)|omega)
   have hb10:=(hg _ (zaj (l:=l) (i:=i) (by omega))).2.1;refine evc [24] [] ?_;refine sq ?_ ?_<;>intro h7 h7p h7s<;>(try simp only[Q,xac,Ex.cs_len] at h7p);refine xak (ι:=Nat) hk (fun k=>[(8,.d (.i (k:Int)))]) [2,47,48,49,50,51,52,53,54,55,56,57,58,59,60,61,62,63,64,65,66,67,68,69,70,71,72,73] (fun k=>[]) (fun k=>k<=(nth l i).bodies.length/\∀k',k'<k->zdy (nth (nth l i).bodies k') last=false) (fun k=>(nth l i).bodies.length-k) 0 ⟨by omega,fun _ h=>absurd h (by omega)⟩ ⟨⟨_,rfl,xap ?_⟩,trivial⟩ trivial (fun x=>rfl) (fun k hg2=>?_);focus (first|rfl|(simp;done)|(simp_all;done)|omega)
   refine evc [24] [] ?_;refine Walk.idx (i:=i) sl24 .none rfl rfl rfl rfl (zae (by omega)) rfl ?_;refine evs [24] [] ?_;refine sq ?_ ?_<;>intro h8 h8p h8s<;>(try simp only[Q,xac,Ex.cs_len] at h8p);refine Walk.idx (i:=i) sl24 .none rfl rfl rfl rfl (zae (by omega)) rfl ?_;refine evs [24] [] ?_;refine Walk.idx (i:=k) sl33 .none rfl rfl rfl rfl (zdL (by omega)) rfl ?_;refine evs [24] [] ?_;refine wc ztC (hco i k (by omega) (by omega)) rfl rfl ?_;refine evs [24] [] ?_;refine wc cal9 (hpt _) rfl rfl ?_;refine tv ?_;refine sq ?_ ?_<;>intro h9 h9p h9s<;>(try simp only[Q,xac,Ex.cs_len] at h9p);refine xaK (b:=last) sl24 .none rfl rfl rfl (by exact zaO _) rfl hN (by simp;omega) ?_;refine wc cal7 (htk) rfl rfl ?_;refine evs [24] [] ?_;refine rq ?_;rotate_left;refine ar ?_;refine xah (k+1) ⟨⟨by omega,zaN hg2.2 (by assumption)⟩,(by omega),sx ⟨⟨_,rfl,xap ?_⟩,trivial⟩ trivial⟩;focus (first|rfl|(simp;done)|(simp_all;done)|omega)
   refine ar ?_;refine xah (i+1) ⟨⟨by omega,zaN hg1.2 (zpP (fun k' h'=>hg2.2 k' (by omega)))⟩,(by omega),sx ⟨⟨_,rfl,xap ?_⟩,trivial⟩ trivial⟩;focus (first|rfl|(simp;done)|(simp_all;done)|omega)
   refine xaK (b:=last) sl24 .none rfl rfl rfl (by exact zaO _) rfl hN (by simp;omega) ?_;refine wc cal7 (htk) rfl rfl ?_;refine evs [24] [] ?_;refine rq ?_;rotate_left;all_goals (first|(rw[q1 i k (by omega) (by omega) (by assumption)];all_goals rfl)|(rw[q2 (fun i' h'=>hg1.2 i' (by omega))];all_goals rfl)|rfl)
end Go.Proofs.YtmchfdpleibpdaaGreat
namespace Go.Proofs.YtmchfdpleibpdaaGreat
open Go Go.ChangeShapes Go.WideShapes Go.ChangeAt Go.RowKit
set_option linter.unusedSimpArgs false
set_option linter.unusedVariables false
set_option linter.unusedVariables false
def FW (W:World) (b:Nat):Nat:=match W.heap[b]? with
 |some (.cells cs _ _)=>cs.size
 |_=>0
theorem FW_cell {W:World}{b o:Nat}{v:Value} (h:W.cell? ⟨b,o,none⟩=some v):o<FW W b:=by
 unfold World.cell? at h;unfold FW;simp only at h;split at h
 ·rename_i c t fr hb;simp only[hb];simp only[Option.isSome_none,Bool.false_eq_true,if_false] at h;exact(Array.getElem?_eq_some_iff.1 h).1
 ·cases h
theorem FW_top {W:World}{b:Nat} (h:W.heap.size<=b):FW W b=0:=by
 unfold FW;rw[Array.getElem?_eq_none h]
structure RelL (W:World) (xs:List D) (cs:List Value):Prop where
 len:xs.length=cs.length
 rel:∀i (h1:i<xs.length) (h2:i<cs.length),RelD (FW W) W xs[i] cs[i]
theorem RelL.append {W:World}{xs ys:List D}{cs ds:List Value} (h:RelL W xs cs) (k:RelL W ys ds):RelL W (xs++ys) (cs++ds):=by
 refine⟨by simp[h.len,k.len],fun i h1 h2=>?_⟩;by_cases hi:i<xs.length
 ·rw[List.getElem_append_left hi,List.getElem_append_left (by rw[<-h.len];exact hi)];exact h.rel i hi (by rw[<-h.len];exact hi)
 ·have hl:=h.len;rw[List.getElem_append_right (by omega),List.getElem_append_right (by omega)];have e:i-xs.length=i-cs.length:=by omega
  have h1':i-xs.length<ys.length:=by simp only[xaa] at h1;omega
  have h2':i-cs.length<ds.length:=by simp only[xaa] at h2;omega
  have:=k.rel (i-xs.length) h1' (by omega);simp only[e] at this ⊢;exact this
def Dec (P:Program) (W:World) (n:Nat) (t:TypeId){α:Type} (f:α->List D) (m:α->Nat) (R:α->Prop):Prop:=
 ∀(H:Type) (enc:TypeId×Value->H) (cs:List Value) (x:DataW H×List MemPlace),DataW.trod enc P W 0 (fun _=>true) true n t cs=some x->
  ∃a,RelL W (f a) cs/\m a+1<=Rows.uptoBulk x.1/\R a
section
variable {P:Program}{W:World}{n:Nat}{t:TypeId}
theorem Dec.zero {α:Type}{f:α->List D}{m:α->Nat}{R:α->Prop}:Dec P W 0 t f m R:=fun H enc cs x h=>by simp[DataW.trod] at h
theorem Dec.map {α β:Type}{f:α->List D}{m:α->Nat}{R:α->Prop}{f':β->List D}{m':β->Nat}{R':β->Prop} (g:α->β) (h:Dec P W n t f m R)
  (h1:∀a,f' (g a)=f a) (h2:∀a,m' (g a)<=m a) (h3:∀a,R a->R' (g a)):Dec P W n t f' m' R':=fun H enc cs x hx=>by
 obtain⟨a,q1,q2,q3⟩:=h H enc cs x hx;exact⟨g a,by rw[h1];exact q1,by have:=h2 a;omega,h3 a q3⟩
theorem RelL.one {x:D}{v:Value} (h:RelD (FW W) W x v):RelL W [x] [v]:=
 ⟨rfl,fun i h1 h2=>by
  have:i=0:=by simp at h1;omega
  subst this;exact h⟩
theorem Dec.int {k:IntKind} (ht:P.underlying t=some (.int k)):Dec P W n t (fun z:Int=>[.int k z]) (fun _=>0) (fun z=>(Lit.int k z).wf=true):=fun H enc cs x h=>by
 obtain⟨z,rfl,rfl,hw⟩:=DataW.trod_int ht h;exact⟨z,.one (.int k z),by simp[Rows.uptoBulk],hw⟩
theorem Dec.bool (ht:P.underlying t=some .bool):Dec P W n t (fun z:Bool=>[.bool z]) (fun _=>0) (fun _=>True):=fun H enc cs x h=>by
 obtain⟨z,rfl,rfl⟩:=DataW.trod_bool ht h;exact⟨z,.one (.bool z),by simp[Rows.uptoBulk],trivial⟩
theorem Dec.str (ht:P.underlying t=some .string):Dec P W n t (fun s:Str=>[.str s]) (fun s=>s.length) (fun _=>True):=fun H enc cs x h=>by
 obtain⟨s,rfl,rfl,hw⟩:=DataW.trod_string ht h;exact⟨s.data.toList,.one (by have:=RelD.str (F:=FW W) (w:=W) s.data.toList;simpa using this),by simp[Rows.uptoBulk],trivial⟩
def sumM {α:Type} (m:α->Nat):List α->Nat
 | []=>0
 |a::r=>m a+1+sumM m r
theorem zn6 {α:Type} (m:α->Nat):∀l:List α,l.length<=sumM m l
 | []=>by simp[sumM]
 |a::r=>by have:=zn6 m r;simp only[sumM,xab];omega
theorem zjs {α β:Type}{Q:Nat->α->β->Prop}:∀(l:List β) (o:Nat),(∀i (h:i<l.length),∃a,Q (o+i) a l[i])->∃zs:List α,zs.length=l.length/\∀i (h:i<l.length) (h':i<zs.length),Q (o+i) zs[i] l[i]
 | [],o,_=>⟨[],rfl,fun i h=>by simp at h⟩
 |b::r,o,h=>by
  obtain⟨a,ha⟩:=h 0 (by simp);obtain⟨zs,h1,h2⟩:=zjs (Q:=Q) r (o+1) (fun i hi=>by
   have:=h (i+1) (by simp;omega);rw[show o+1+i=o+(i+1) by omega];simpa using this)
  refine⟨a::zs,by simp[h1],fun i hi hi'=>?_⟩;cases i with
  |zero=>exact ha
  |succ i=>
   have:=h2 i (by simpa using hi) (by simpa using hi');rw[show o+1+i=o+(i+1) by omega] at this;simpa using this
theorem zm6 {H α:Type}{m:α->Nat}:∀ {zs:List α}{xs:List (DataW H)},zs.length=xs.length->(∀i (h:i<zs.length) (h':i<xs.length),m zs[i]+1<=Rows.uptoBulk xs[i])->sumM m zs<=Rows.uptoBulkAll xs
 | [],[],_,_=>by simp[sumM,Rows.uptoBulkAll]
 |a::zs,x::xs,hl,h=>by
  have h0:=h 0 (by simp) (by simp);have ih:=zm6 (m:=m) (zs:=zs) (xs:=xs) (by simpa using hl) (fun i h1 h2=>by
   have:=h (i+1) (by simp;omega) (by simp;omega);simpa using this)
  simp only[sumM,Rows.uptoBulkAll];simp only[List.getElem_cons_zero] at h0;omega
 | [],_::_,hl,_=>by simp at hl
 |_::_,[],hl,_=>by simp at hl
theorem Dec.sl {α:Type}{f:α->List D}{m:α->Nat}{R:α->Prop}{e:TypeId}{k:Nat} (ht:P.underlying t=some (.slice e)) (hc:P.cellsOf e=k+1) (hk:∀a,(f a).length=k+1) (he:Dec P W n e f m R):
  Dec P W (n+1) t (fun l:List α=>[.sl (l.map f)]) (fun l=>sumM m l) (fun l=>∀a∈l,R a):=fun H enc cs x h=>by
 rcases DataW.trod_slice ht h with ⟨rfl,rfl⟩|⟨a,len,cap,elems,rest,n',hn,rfl,rfl,_,hcap,_,hlen,hel,_,_⟩
 ·exact⟨[],.one .nil,by simp[sumM,Rows.uptoBulk],fun a h=>by simp at h⟩
 obtain rfl:n=n':=by omega
 have each:∀i (hi:i<elems.length),∃y,(∃cs,W.cells? 0 (a.add (i*(k+1))) (k+1)=some cs/\RelL W (f y) cs)/\m y+1<=Rows.uptoBulk (elems[i]).1/\R y:=by
  intro i hi;have:=hel i (by omega);rw[hc,List.getElem?_eq_getElem hi,Option.bind_eq_some_iff] at this;obtain⟨cs,h1,h2⟩:=this;obtain⟨y,h3,h4,h5⟩:=he H enc cs _ h2;exact⟨y,⟨cs,h1,h3⟩,h4,h5⟩
 obtain⟨zs,hal,has⟩:=zjs (Q:=fun i y (el:DataW H×List MemPlace)=>(∃cs,W.cells? 0 (a.add (i*(k+1))) (k+1)=some cs/\RelL W (f y) cs)/\m y+1<=Rows.uptoBulk el.1/\R y) elems 0 (fun i hi=>by simpa using each i hi);refine⟨zs,.one ?_, ?_,fun y hy=>?_⟩
 ·by_cases h0:zs=[]
  ·subst h0;have hz:len=0:=by simp at hal;omega
   subst hz;obtain⟨b,o,s⟩:=a;cases s with
   |none=>exact .sl [] 0 b o cap (fun _=>undef) (by simp) (by simp) (fun n hn=>by simp at hn) (fun i hi=>by simp at hi)
   |some s=>exact .emp b o s cap
  ·have hpos:0<zs.length:=List.length_pos_iff.2 h0;obtain⟨⟨cs0,hc0,hr0⟩,_⟩:=has 0 (by omega) hpos;have hspot:a.spot=none:=by
    have h1:=(World.cells?_some hc0).2.2 0 (by omega);have h2:0<cs0.length:=by have:=(World.cells?_some hc0).2.1;omega
    simp only[Nat.add_zero,Nat.zero_mul,Addr.add,if_true,List.getElem?_eq_getElem h2] at h1;unfold World.cell? at h1;split at h1
    ·cases hs:a.spot with
     |none=>rfl
     |some s=>simp[hs] at h1
    ·cases h1
   obtain⟨b,o,s⟩:=a;simp only at hspot;subst hspot;have hlen':(zs.map f).length=len:=by simp;omega
   have hmulk:∀i j,i<zs.length->j<k+1->i*(k+1)+j<zs.length*(k+1):=fun i j hi hj=>by
    have:(i+1)*(k+1)<=zs.length*(k+1):=Nat.mul_le_mul_right _ (by omega);rw[Nat.add_mul,Nat.one_mul] at this;omega
   have cellAt:∀i (hi:i<zs.length) j (hj:j<(f zs[i]).length),∃v,W.cell? ⟨b,o+(i*(k+1)+j),none⟩=some v/\RelD (FW W) W ((f zs[i])[j]) v:=fun i hi j hj=>by
    obtain⟨⟨cs,hc1,hr1⟩,_⟩:=has i (by omega) hi;have hjk:j<k+1:=by have:=hk zs[i];omega
    obtain⟨_,q1,q2⟩:=World.cells?_some hc1;have q3:=q2 j hjk;rw[List.getElem?_eq_getElem (by omega)] at q3;refine⟨cs[j], ?_,hr1.rel j hj (by omega)⟩;rw[<-q3];congr 1
    simp only[Nat.zero_add,Addr.add];split<;>split<;>simp_all<;>omega
   have hv:((zs.map f).length,cap)=(len,cap):=by rw[hlen']
   have goal:RelD (FW W) W (.sl (zs.map f)) (.slice (some ⟨b,o,none⟩) (zs.map f).length cap):=by
    refine .sl _ (k+1) b o cap (fun q=>(W.cell? ⟨b,o+q,none⟩).getD undef) (fun y hy=>?_) (by omega) (fun q hq=>?_) (fun i hi j hj=>?_)
    ·obtain⟨y',_,rfl⟩:=List.mem_map.1 hy;exact hk y'
    ·have hq':q<zs.length*(k+1):=by simpa using hq
     have hi:q / (k+1)<zs.length:=Nat.div_lt_of_lt_mul (by rw[Nat.mul_comm];exact hq');have hj:q % (k+1)<k+1:=Nat.mod_lt _ (by omega);obtain⟨v,h1,_⟩:=cellAt _ hi (q % (k+1)) (by rw[hk];exact hj);rw[Nat.div_add_mod'] at h1;exact⟨FW_cell h1,by rw[h1];rfl⟩
    ·have hi':i<zs.length:=by simpa using hi
     simp only[List.getElem_map] at hj ⊢;obtain⟨v,h1,h2⟩:=cellAt i hi' j hj;show RelD (FW W) W _ ((W.cell? ⟨b,o+(i*(k+1)+j),none⟩).getD undef)
     rw[h1];exact h2
   rw[hlen'] at goal;exact goal
 ·have:=zm6 (m:=m) (zs:=zs) (xs:=elems.map (·.1)) (by simp[hal]) (fun i h1 h2=>by
   have:=(has i (by simpa using h2) h1).2.1;simpa using this)
  simp only[Rows.uptoBulk];omega
 ·obtain⟨i,hi,rfl⟩:=List.getElem_of_mem hy;exact(has i (by omega) hi).2.2
def DecF (P:Program) (W:World) (n o K:Nat) (fs:List Field){α:Type} (f:α->List D) (m:α->Nat) (R:α->Prop):Prop:=
 ∀(H:Type) (enc:TypeId×Value->H) (cs:List Value) (xs:List (DataW H×List MemPlace)),cs.length=K->xs.length=fs.length->
  (∀(i:Nat) (fd:Field),fs[i]?=some fd->DataW.trod enc P W 0 (fun _=>true) true n fd.type ((cs.drop fd.offset).take (P.cellsOf fd.type))=xs[i]?)->
  ∃a,RelL W (f a) (cs.drop o)/\m a<=Rows.uptoBulkAll (xs.map (·.1))/\R a
theorem DecF.nil {K:Nat}:DecF P W n K K [] (fun _:Unit=>[]) (fun _=>0) (fun _=>True):=fun H enc cs xs h1 h2 _=>
 ⟨(),by rw[List.drop_of_length_le (by omega)];exact⟨rfl,fun i h=>by simp at h⟩,by simp,trivial⟩
theorem DecF.cons {α β:Type}{f:α->List D}{m:α->Nat}{R:α->Prop}{f2:β->List D}{m2:β->Nat}{R2:β->Prop}{o K k:Nat}{fd:Field}{fs:List Field}
  (h1:Dec P W n fd.type f m R) (ho:fd.offset=o) (hc:P.cellsOf fd.type=k) (h2:DecF P W n (o+k) K fs f2 m2 R2):
  DecF P W n o K (fd::fs) (fun p:α×β=>f p.1++f2 p.2) (fun p=>m p.1+1+m2 p.2) (fun p=>R p.1/\R2 p.2):=fun H enc cs xs hK hl hx=>by
 cases xs with
 |nil=>simp at hl
 |cons y ys=>
  have h0:=hx 0 fd (by simp);simp only[List.getElem?_cons_zero] at h0;rw[ho,hc] at h0;obtain⟨a,q1,q2,q3⟩:=h1 H enc _ _ h0;obtain⟨b,r1,r2,r3⟩:=h2 H enc cs ys hK (by simpa using hl) (fun i fd' hi=>by
   have:=hx (i+1) fd' (by simpa using hi);simpa using this)
  refine⟨(a,b), ?_, ?_,q3,r3⟩
  ·have:cs.drop o=(cs.drop o).take k++cs.drop (o+k):=by
    rw[<-List.drop_drop,List.take_append_drop]
   rw[this];exact q1.append r1
  ·simp only[xae,Rows.uptoBulkAll];omega
theorem Dec.struct {α:Type}{f:α->List D}{m:α->Nat}{R:α->Prop}{fs:Array Field} (ht:P.underlying t=some (.struct fs)){K:Nat} (hK:P.cellsOf t=K) (h:DecF P W n 0 K fs.toList f m R):
  Dec P W (n+1) t f m R:=fun H enc cs x hx=>by
 obtain⟨xs,n',hn,rfl,hl,hxl,hf⟩:=DataW.trod_struct ht hx;obtain rfl:n=n':=by omega
 obtain⟨a,q1,q2,q3⟩:=h H enc cs xs (by omega) (by simpa using hxl) (fun i fd hi=>hf i fd (by simpa using hi));refine⟨a,by simpa using q1, ?_,q3⟩;simp only[Rows.uptoBulk];omega
end
section
variable {P:Program}{W:World}{base:Nat}{t:TypeId}{v:Value}{H:Type}{enc:TypeId×Value->H}{d:DataW H}{ps:List MemPlace}
theorem zsv {α:Type}{e:TypeId}{f:α->List D}{m:α->Nat}{R:α->Prop}{k:Nat} (ht:P.underlying t=some (.slice e)) (hc:P.cellsOf e=k+1) (hk:∀a,(f a).length=k+1) (hd:∀n,Dec P W n e f m R)
  (hval:Value.okWide P W .any base t v) (h:DataW.Trod enc P W 0 (fun _=>true) true t v d ps):
  ∃l:List α,(∀G T,G.F=FW W->RelA G T W (.d (.sl (l.map f))) v)/\sumM m l+1<=Rows.uptoBulk d/\∀a∈l,R a:=by
 obtain⟨n,hn⟩:=h;cases n with
 |zero=>simp[DataW.trod] at hn
 |succ n=>
  obtain⟨l,h1,h2,h3⟩:=Dec.sl ht hc hk (hd n) H enc _ _ hn;have hcells:v.cells.toList=[v]:=by
   cases v with
   |agg cs=>simp only[Value.okWide,ht,Cell.okWide,Cell.ok] at hval
   |_=>rfl
  rw[hcells] at h1;exact⟨l,fun G T hG=> .d (by rw[hG];simpa using h1.rel 0 (by simp) (by simp)),h2,h3⟩
end
section
variable {P:Program}{H:Type}{enc:TypeId×Value->H}
theorem zid (hl:laidOutB P=true){W W':World} (hb:Below W.heap.size W W'):∀ {ts:List TypeId}{vs:List Value}{ds:List (DataW H)}{ps:List MemPlace},
  (∀t∈ts,P.readableRec t=true/\t<P.types.size)->DataW.TrodAll enc P W 0 (fun _=>true) true ts vs ds ps->(∀x∈ps,x.block<W.heap.size)->
  DataW.TrodAll enc P W' 0 (fun b=>decide (b<W.heap.size)) true ts vs ds ps
 | [],[],[],ps,_,h,_=>h
 |t::ts,v::vs,d::ds,ps,hr,h,hlt=>by
  obtain⟨p,q,h1,h2,rfl⟩:=h;exact⟨p,q,Below.trod hl (hr t (by simp)).1 (hr t (by simp)).2 h1 hb (fun x hx=>hlt x (by simp[hx])),
   zid hl hb (fun t ht=>hr t (by simp[ht])) h2 (fun x hx=>hlt x (by simp[hx])),rfl⟩
theorem zq1 {f:Func}{s:ChangeSpec}{W W':World}{args:Array Value}{ds gs:List (DataW H)}{before:List MemPlace}{tb:TypeId}
  (hW:DataW.Whole enc P f.params.toList s.vars false W args.toList ds gs before) (hvars:s.vars=[]) (hrt:f.resultTypes = #[tb]) (htb:P.underlying tb=some .bool)
  (hs:s.fn H (ds++gs)={ results:=[.lit (.bool true)],args:=ds }) (hl:laidOutB P=true) (hr:∀t∈f.params.toList,P.readableRec t=true/\t<P.types.size)
  (hb:Below W.heap.size W W'):s.post enc P f false true false false W args (.bool true) W':=by
 have hlt:∀p∈before,p.block<W.heap.size:=fun p hp=>hW.lt p hp;have hW0:=hW;obtain⟨p,q,hA,hV,rfl,hfz,_⟩:=hW;rw[hvars] at hV;cases gs with
 |cons g gs=>exact hV.elim
 |nil=>
  have hq:q=[]:=hV;subst hq;simp only[List.append_nil] at *;refine⟨ds,[],p,[],p,[],by simpa [hvars] using hW0, ?_, ?_, ?_,World.keptBut_mono (fun x hx=>⟨hx,.inr (.inl hx)⟩) (hb.frame (·∈p)),fun h=>by cases h⟩
  ·simp only[List.append_nil,hs,hrt];exact trodAll_cons_mk (shut_bool htb _) trodAll_mk0
  ·simp only[List.append_nil,hs];exact zid hl hb hr hA hlt
  ·simp only[hvars,List.append_nil,hs];rfl
theorem zp6 {f:FuncId}{avs:List AV}{W:World}{args:Array Value}{r:AV} (hf:FnD P f avs [] r [])
  (hargs:∀G T,G.F=FW W->AllR G T W avs args):Calls P f args W fun e W'=>∃v G',e = .returned v/\RelA G' (fun _=>none) W' r v/\Below W.heap.size W W':=by
 let G:Gh:={ F:=FW W,loc:=fun _=>[] }
 refine(hf G W args ⟨hargs G _ rfl,fun id r h=>(by simp[getH] at h),fun id id' h=>(by simp[getH] at h),fun b hb=>FW_top hb⟩).mono ?_;rintro e W' ⟨v,r',hp',G',rfl,⟨rfl,rfl⟩,h⟩
 exact⟨v,G',rfl,h.res,⟨h.frm.os,h.frm.tape,h.frm.output,h.frm.size,fun b hb=>(h.frm.block b hb (by simp[zdr])).1⟩⟩
theorem RelA.bool_true {G:Gh}{T:TokF}{w:World}{v:Value} (h:RelA G T w (.d (.bool true)) v):v = .bool true:=by
 cases h with|d h=>cases h;rfl
theorem zqO {H:Type}{l:List (DataW H)} (hk:Rows.uptoSmall H l=true):Rows.uptoBulkAll l<=1048576:=of_decide_eq_true hk
end
end Go.Proofs.YtmchfdpleibpdaaGreat
namespace Go.Proofs.YtmchfdpleibpdaaGreat
open Go Go.ChangeShapes Go.WideShapes Go.ChangeAt Go.RowKit
set_option linter.unusedSimpArgs false
set_option linter.unusedVariables false
set_option maxRecDepth 100000
theorem zr2 (W:World) (n:Nat):Dec Tryz.prog W n 5 (fun x:UInt8=>[D.int .u8 (x.toNat:Int)]) (fun _=>0) (fun _=>True):=fun H enc cs x hx=>by
 obtain⟨z,q1,q2,q3⟩:=Dec.int (k:= .u8) Tryz.underlying5 H enc cs x hx;have h:0<=z/\z<=255:=by
  simp[Lit.wf,IntKind.wrap,IntKind.signed,IntKind.bits,IntKind.min,IntKind.max] at q3;omega
 refine⟨UInt8.ofNat z.toNat, ?_,q2,trivial⟩;have e:(((UInt8.ofNat z.toNat).toNat:Nat):Int)=z:=by
  rw[UInt8.toNat_ofNat',Nat.mod_eq_of_lt (by omega)];omega
 show RelL W [D.int .u8 (((UInt8.ofNat z.toNat).toNat:Nat):Int)] cs
 rw[e];exact q1
end Go.Proofs.YtmchfdpleibpdaaGreat
namespace Go.Proofs.YtmchfdpleibpdaaGreat.fnFunsPrefix
open Go Go.ChangeShapes Go.WideShapes Go.ChangeAt Go.RowKit
set_option linter.unusedSimpArgs false
set_option linter.unusedVariables false
theorem own:ownKnob Tryz.prog.godebug=none:=by kernel_rfl
theorem laidOut:laidOutB Tryz.prog=true:=by kernel_rfl
set_option maxRecDepth 100000 in
theorem contract (H:Type) (enc:TypeId×Value→H) (W:World) (base:Nat) (args:Array Value) (ds gs:List (DataW H)) (before:List MemPlace)
  (hval:∀(j:Nat) t v,Tryz.f3.params[j]?=some t→args[j]?=some v→Value.okWide Tryz.prog W .any base t v)
  (hW:DataW.Whole enc Tryz.prog Tryz.f3.params.toList Rows.fnFunsPrefixSpec.vars false W args.toList ds gs before) (hk:Rows.uptoSmall H (ds++gs)=true):
  Calls Tryz.prog 3 args W fun e W'=>∃v,e = .returned v∧Rows.fnFunsPrefixSpec.post enc Tryz.prog Tryz.f3 false true false false W args v W':=by
 have hb:=zqO hk
 have hW':=hW
 obtain⟨p,q,hA0,hV,rfl,hfz,hnd⟩:=hW
 have hA:DataW.TrodAll enc Tryz.prog W 0 (fun _=>true) true Tryz.f3.params.toList args.toList ds p:=hA0
 rw[Tryz.params3] at hA hval
 obtain⟨v0,vs0,d0,ds0,p0,q0,hargs,rfl,rfl,h0,r0⟩:=trodAll_cons hA
 obtain⟨rfl,rfl,rfl⟩:=trodAll_nil r0
 obtain rfl:args = #[v0]:=by cases args;simp_all
 obtain⟨rfl,rfl⟩:=trodVars_none hV
 simp only[List.append_nil,Rows.uptoBulkAll] at hb
 obtain⟨code,a0,b0,_⟩:=zsv (k:=0) Tryz.underlying22 (by kernel_rfl) (fun _=>rfl) (zr2 W) (hval 0 _ v0 rfl rfl) h0
 have ln_code:code.length≤1000000000000:=by have:=zn6 (fun _:UInt8=>0) code;omega
 refine(zp6 ((zhL ln_code)) (W:=W) (args:=#[v0]) (fun G T hG=>⟨rfl,fun i hi hv=>?_⟩)).mono ?_
 ·match i,hi with
  |0,_=>exact a0 G T hG
 ·rintro e W' ⟨v,G',rfl,hr,hbelow⟩
  obtain rfl:=hr.bool_true
  exact⟨_,rfl,zq1 hW' rfl rfl Tryz.underlying4 rfl laidOut (fun t ht=>by
   simp only[Tryz.params3,List.mem_cons,List.not_mem_nil,or_false] at ht
   rcases ht with rfl<;>exact⟨by kernel_rfl,of_decide_eq_true (by kernel_rfl)⟩) hbelow⟩
set_option maxRecDepth 100000 in
theorem lifted (os:Os) (started:os.Started) (H:Type) (enc:TypeId×Value→H) (F:Stop.Interp):
  ReturnsInHanded {} Tryz.checked os 3 .any ((Rows.OpenSpec.upto Rows.fnFunsPrefixSpec).pre6 enc Tryz.prog Tryz.f3 Rows.fnFunsPrefixUptoRow.domain false) (((Rows.OpenSpec.upto Rows.fnFunsPrefixSpec).at F).post enc Tryz.prog Tryz.f3 false true false false):=by
 refine returnsInHanded_of_cond (C:=Tryz.checked) (s:=Rows.OpenSpec.upto Rows.fnFunsPrefixSpec) (k:=Rows.uptoSmall) rfl own started (by kernel_rfl) Tryz.func3
  (OpenSpec.witness (enc:=enc) (C:=Tryz.checked) (s:=Rows.OpenSpec.upto Rows.fnFunsPrefixSpec) (k:=Rows.uptoSmall) rfl false ⟨#[],#[.slice none 0 0],[]⟩ 8 (by kernel_rfl) (by kernel_rfl) (by kernel_rfl)
   (x:=([.nil],[],[])) (by kernel_rfl) rfl (by kernel_rfl)) ?_
 intro W base args ds gs before hval hW _ hk _
 exact contract H enc W base args ds gs before hval hW hk
theorem kf1:(Rows.fnFunsPrefixUptoRow.inPlace == Tryz.pinned.checked.prog.inPlace 3)=true:=by kernel_rfl
theorem kf2:(Rows.fnFunsPrefixUptoRow.unfollowed == Tryz.pinned.checked.prog.unfollowed 3)=true:=by kernel_rfl
theorem kf3:(Rows.fnFunsPrefixUptoRow.recurses == Tryz.pinned.checked.prog.recurses 3)=true:=by kernel_rfl
theorem kf4:(Rows.fnFunsPrefixUptoRow.named == Tryz.pinned.checked.prog.varsNamed 3)=true:=by kernel_rfl
theorem kf5:laidOutB Tryz.pinned.checked.prog=true:=by kernel_rfl
theorem kf6:mapsRowed Tryz.pinned.checked.prog=true:=by kernel_rfl
theorem kf7:Tryz.pinned.checked.prog.stopsHeard=true:=by kernel_rfl
theorem kf8:Tryz.pinned.checked.prog.mayEnter=true:=by kernel_rfl
theorem kf9:(Rows.fnFunsPrefixUptoRow.lifted == Tryz.pinned.checked.prog.liftsFinal)=true:=by kernel_rfl
theorem kf0:(Rows.fnFunsPrefixUptoRow.plainKeys == Tryz.pinned.checked.prog.plainKeys)=true:=by kernel_rfl
theorem facts:joinedFacts Tryz.pinned.checked.prog 3 Tryz.f3 (Rows.OpenSpec.upto Rows.fnFunsPrefixSpec).bare Rows.fnFunsPrefixUptoRow=true:=by
 unfold joinedFacts
 rw[kf1,kf2,kf3,kf4,kf5,kf6,kf7,kf8,kf9,kf0]
 kernel_rfl
theorem named:Tryz.pinned.checked.prog.funcNamed Rows.fnFunsPrefixUptoRow.func=some 3:=by kernel_rfl
theorem over:Rows.fnFunsPrefixUptoRow.holds Tryz.pinned (Rows.OpenSpec.upto Rows.fnFunsPrefixSpec):=
 OpenClaim.holds_of_cond 3 Tryz.f3 rfl rfl rfl rfl rfl rfl rfl ⟨rfl,rfl,rfl,rfl,rfl⟩ rfl rfl rfl rfl rfl named Tryz.func3 facts
  (of_decide_eq_true (by as_aux_lemma=>kernel_rfl)) (by as_aux_lemma=>unfold Func.isWrapper;first|(rw[if_pos (by decide +kernel)];kernel_rfl)|(rw[if_neg (by decide +kernel)];exact⟨rfl,rfl⟩))
  (fun os started H enc _ F=>lifted os started H enc F)
theorem proved:Rows.FnFunsPrefixUptoSaid:=over
end Go.Proofs.YtmchfdpleibpdaaGreat.fnFunsPrefix
