/-
  THE LAW FnExactMissingValue: whatever the arguments of bulk at most 1048576 are, the call returns true, and the arguments read as before.
  Conditions: the bulk alone.
-/
import Derived.Test.YtlfipehhbdjnjaaGreatT555
namespace Go.Proofs.YtlfipehhbdjnjaaGreat
open Go
set_option linter.unusedSimpArgs false
set_option linter.unusedVariables false
set_option maxRecDepth 100000
set_option maxHeartbeats 2000000
theorem zqD (m:Bool) (y:Cl) (rest:List Cl):zaf m ((y::rest).map Cl.c) = .d (.i y.pat.op):: .d (.i y.pat.ctor):: .d (.i y.pat.n):: .d (.i y.pat.m):: .d (.i y.pat.var):: .own m (zaj y.pat.kids):: .d (.i y.g.op):: .d (.i y.g.var):: .d (.i y.g.n)::zaf m (rest.map Cl.c):=rfl
theorem zeh (m:Bool) (l:List Cl) (y:Cl):zaf m ((l++[y]).map Cl.c)=zaf m (l.map Cl.c)++[.d (.i y.pat.op),.d (.i y.pat.ctor),.d (.i y.pat.n),.d (.i y.pat.m),.d (.i y.pat.var),.own m (zaj y.pat.kids),.d (.i y.g.op),.d (.i y.g.var),.d (.i y.g.n)]:=by
 rw[xaf,zfC];rfl
theorem Cl.rows {l:List Cl}:∀x,x∈l.map Cl.c->x.length=9:=by
 intro x hx;obtain⟨y,_,rfl⟩:=List.mem_map.1 hx;rfl
theorem zaY (m:Bool) (l:List Cl):(zaf m (l.map Cl.c)).length=l.length*9:=by
 rw[zbZ (k:=9) Cl.rows,xac]
def Cl.szM (c:Cl):Int:=c.pat.szM+3
def Cl.one (k:Int) (c:Cl):Cl:=⟨c.pat.one k,⟨k+1+1+1+1+1+szL Pat.szM c.pat.kids,k+1+1+1+1+1+szL Pat.szM c.pat.kids+1,k+1+1+1+1+1+szL Pat.szM c.pat.kids+1+1⟩⟩
theorem Cl.szM_nn (c:Cl):0<=c.szM:=by have:=Pat.szM_nn c.pat;unfold Cl.szM;omega
theorem Cl.szM_kids (c:Cl):c.szM=5+szL Pat.szM c.pat.kids+3:=by unfold Cl.szM;rw[Pat.szM_kids]
theorem Cl.szM_le (c:Cl):c.szM<=8+5*(mCl c:Int):=by have:=Pat.szM_le c.pat;unfold Cl.szM mCl;omega
theorem Cls.szM_le:∀l:List Cl,szL Cl.szM l<=8*(mCls l:Int)
 | []=>by simp[szL,mCls]
 |c::r=>by
  have h1:=Cl.szM_le c;have h2:=Cls.szM_le r;simp only[szL,mCls,xab,xae,List.sum_cons] at *;omega
theorem zlS {c:Cl} (hok:c.pat.ok):
  FnD Tryz.prog 84 [.agg [.d (.i c.pat.op),.d (.i c.pat.ctor),.d (.i c.pat.n),.d (.i c.pat.m),.d (.i c.pat.var),.d (zaj c.pat.kids),.d (.i c.g.op),.d (.i c.g.var),.d (.i c.g.n)]] [] (.agg [.d (.i c.pat.op),.d (.i c.pat.ctor),.d (.i c.pat.n),.d (.i c.pat.m),.d (.i c.pat.var),.ms 66 c.pat.kids.length,.d (.i c.g.op),.d (.i c.g.var),.d (.i c.g.n)]) [(66,some (.tree (zaf false (Pat.cs c.pat.kids))))]:=by
 refine bd Tryz.f84 13 [] [] fun w0 F0 own kept hk=>?_;refine bx 3001 ?_;refine ab 3002 tz40 ?_;refine tv ?_;refine ab 3003 tz40 ?_;refine tv ?_;refine Walk.call (cr:=[66]) zpS (zeI _ (Nat.le_refl _) hok) rfl .none rfl rfl (LeL.refl _) trivial rfl (by first|rfl|(simp only[zar,List.all_cons,List.all_nil,zaC,zay,AV.idsL,AV.ids,zab,zaa,xae,List.map_nil];rfl)) (by first|rfl|(simp only[zak,occH,occE,Res.ids,xag,List.nil_append,AV.idsL,AV.ids,zab,zaa,zac,zal,xae,List.map_nil,upC];rfl)) ?_;refine ev ?_;refine so ty36 ?_;refine tv ?_;refine wc zsx (zhU) rfl rfl ?_;refine ev ?_;refine so ty38 ?_;refine tv ?_;refine so ty40 ?_;refine tv ?_;focus (refine rn [(66,some (.tree (zaf false (Pat.cs c.pat.kids))))] (.cons (.cellA ty40 rfl rfl rfl) .nil) (.agg (.cons (.eqd ?_) (.cons (.eqd ?_) (.cons (.eqd ?_) (.cons (.eqd ?_) (.cons (.eqd ?_) (.cons (xay ?_) (.cons (.eqd ?_) (.cons (.eqd ?_) (.cons (.eqd ?_) .nil)))))))))) ⟨rfl,rfl⟩ (SubH.get ⟨rfl,trivial⟩) (zaE rfl);all_goals (first|rfl|(simp[];done)|(simp_all;done)|(simp_all;omega)|omega))
theorem zgP {l:List Cl} (hs:ClsOk l):FnD Tryz.prog 32 [.d (zbG l)] [] (.ms 68 l.length) [(68,some (.tree (zaf false (l.map Cl.c))))]:=by
 have h:=hs.1;have hf2:∀c∈l,FnD Tryz.prog 84 [.agg [.d (.i c.pat.op),.d (.i c.pat.ctor),.d (.i c.pat.n),.d (.i c.pat.m),.d (.i c.pat.var),.d (zaj c.pat.kids),.d (.i c.g.op),.d (.i c.g.var),.d (.i c.g.n)]] [] (.agg [.d (.i c.pat.op),.d (.i c.pat.ctor),.d (.i c.pat.n),.d (.i c.pat.m),.d (.i c.pat.var),.ms 67 c.pat.kids.length,.d (.i c.g.op),.d (.i c.g.var),.d (.i c.g.n)]) [(67,some (.tree (zaf false (Pat.cs c.pat.kids))))]:=fun v hv=>xau (zaa _ _) rfl (zlS (hs.2 v hv)) 67;refine bd Tryz.f32 23 [] [2,4] fun w0 F0 own kept hk=>?_;refine xaZ (id:=68) sl26 tz40 rfl (by decide) (zca rfl) .none rfl rfl rfl (by simp;omega) (by simp;omega) rfl rfl rfl ?_;refine ev ?_;refine CWp.boxTree 68 false rfl rfl (zeD _ _ _) ?_;refine evc [] [] ?_;refine xam (ι:=List (Cl)×List (Cl)) hk (fun x=>[(4,.d (.i (x.1.length:Int)))]) [8,9,10,11,12,13,14,15,16,17,18,19,20,21] (fun x=>[(68,some (.tree (zaf false (x.1.map Cl.c)++zaI x.2.length [.d (.i 0),.d (.i 0),.d (.i 0),.d (.i 0),.d (.i 0),.own false (.sl []),.d (.i 0),.d (.i 0),.d (.i 0)])))]) (fun x=>x.1++x.2=l) (fun x=>x.2.length) ([],l) (by simp) ⟨⟨_,rfl,xax ?_⟩,trivial⟩ ⟨?_,trivial⟩ (fun x=>rfl) (fun x hg1=>?_);focus (first|rfl|(simp;done)|(simp_all;done)|omega)
 focus (first|rfl|(show some (Res.tree _)=some (Res.tree _);rw[zeh,List.append_assoc];rfl)|(show some (Res.tree _)=some (Res.tree _);simp[zbi];rfl))
 obtain⟨pre,rest⟩:=x;dsimp only at hg1 ⊢;refine evc [] [2,4] ?_;refine sq ?_ ?_<;>intro h1 h1p h1s<;>(try simp only[Q,Pat.cs_len] at h1p);rcases rest with _|⟨y,rest⟩
 ·exfalso;simp_all
 refine xaP sl62 .none rfl rfl rfl rfl (zaN hg1) rfl ?_;refine ev ?_;refine Walk.call (cr:=[67]) zup (hf2 y (by rw[<-hg1];simp)) rfl .none rfl rfl (LeL.refl _) trivial rfl (by first|rfl|(simp only[zar,List.all_cons,List.all_nil,zaC,zay,AV.idsL,AV.ids,zab,zaa,xae,List.map_nil];rfl)) (by first|rfl|(simp only[zak,occH,occE,Res.ids,xag,List.nil_append,AV.idsL,AV.ids,zab,zaa,zac,zal,xae,List.map_nil,upC];rfl)) ?_;refine xaS sl26 .none rfl rfl rfl rfl (by first|omega|(simp[Pat.cs_len];omega)) ?_;refine xbg ty40 .none rfl rfl rfl rfl rfl rfl (by simp) ((zgw (zaY false _) rfl)) ?_;refine tv ?_;refine CWp.merge hk 68 (pre.length*9+5) 67 6 _ rfl (zaX (zaY false _) rfl) (by simp[zaw,Pat.cs_len]) rfl Pat.cs_rows rfl rfl (zaG (zaY false _) (zcn rfl)) ?_;refine evc [] [] ?_;refine ar ?_;refine xah ((pre++[y],rest)) ⟨(by have hz:=hg1;rw[<-hz];simp),(by simp),sx ⟨⟨_,rfl,xax ?_⟩,trivial⟩ ⟨?_,trivial⟩⟩;focus (first|rfl|(simp;done)|(simp_all;done)|omega)
 focus (first|rfl|(show some (Res.tree _)=some (Res.tree _);rw[zeh,List.append_assoc];rfl)|(show some (Res.tree _)=some (Res.tree _);simp[zbi];rfl))
 have hrest:rest=[]:=by
  rcases rest with _|⟨a,b⟩
  ·rfl
  ·exfalso;have hz:=congrArg List.length (hg1);simp only[xaa,xab,xac] at hz;omega
 subst hrest;refine rn [(68,some (.tree (zaf false (l.map Cl.c))))] (r1 rfl) (xay ?_) ⟨rfl,rfl⟩ (SubH.get ⟨?_,trivial⟩) (zaE rfl);rotate_left 2;all_goals (first|((first|rfl|(simp;done));done)|(first|rfl|(rw[List.append_nil] at hg1;subst hg1;show some (Res.tree _)=some (Res.tree _);simp[zaI];done)))
theorem zmQ {m:Bool}{l:List Pat}{k:Int} (h0:0<k) (h1:k+szL Pat.szM l<=1000000000000) (hl:l.length<=1000000000000) (hok:Pats.ok l):FnD Tryz.prog 90 [.ms 47 l.length,.d (.i k)] [(47,some (.tree (zaf m (Pat.cs l))))]
  (.d (.i (k+szL Pat.szM l))) [(47,some (.tree (zaf false (Pat.cs (mkL Pat.one Pat.szM k l)))))]:=zhu (zjd _ (Nat.le_refl _) h0 h1 hl hok)
theorem zjT {m:Bool}{l:List Cl}{k:Int} (h0:0<k) (h1:k+szL Cl.szM l<=1000000000000) (hok:ClsOk l):FnD Tryz.prog 37 [.ms 48 l.length,.d (.i k)] [(48,some (.tree (zaf m (l.map Cl.c))))]
  (.d (.i (k+szL Cl.szM l))) [(48,some (.tree (zaf false ((mkL Cl.one Cl.szM k l).map Cl.c))))]:=by
 have hl:=hok.1;have hpk:=fun(c:Cl) (hc:c∈l)=>(Pat.ok_iff c.pat).1 (hok.2 c hc);refine bd Tryz.f37 85 [57] [14,15,1000009] fun w0 F0 own kept hk=>?_;refine xam (ι:=List (Cl)×List (Cl)×(Int)) hk (fun x=>[(5,.d (.i (x.1.length:Int))),(1,.d (.i x.2.2))]) [6,7,8,9,10,11,12,13,14,15,16,17,18,19,20,21,22,23,24,25,26,27,28,29,30,31,32,33,34,35,36,37,38,39,40,41,42,43,44,45,46,47,48,49,50,51,52,53,54,55,56,57,58,59,60,61,62,63,64,65,66,67,68,69,70,71,72,73,74,75,76,77,78,79,80,81,82,83] (fun x=>[(48,some (.tree (zaf false ((mkL Cl.one Cl.szM k x.1).map Cl.c)++zaf m (x.2.1.map Cl.c))))]) (fun x=>x.1++x.2.1=l/\x.2.2=k+szL Cl.szM x.1) (fun x=>x.2.1.length) ([],l,k) ⟨by simp,by simp[szL]⟩ ⟨⟨_,rfl,xax ?_⟩,⟨⟨_,rfl,xax ?_⟩,trivial⟩⟩ ⟨?_,trivial⟩ (fun x=>rfl) (fun x hg1=>?_);iterate 2 focus (first|rfl|(simp;done)|omega|(refine Eq.trans (b:=v+Cl.szM y) ?_ rfl;omega))
 focus (first|rfl|(show some (Res.tree _)=some (Res.tree _);rw[zbY,zeh,<-hg1.2];simp only[Cl.one,Pat.one_kids,Pat.one_sc y.pat v,List.append_assoc,xag,List.nil_append];all_goals rfl))
 obtain⟨pre,rest,v⟩:=x;dsimp only at hg1 ⊢;refine evc [57] [14,15,1000009] ?_;refine cq (fun h1 h1p h1s=>?_) fun h1 h1p h1s=>?_;try simp only[Q] at h1p
 rcases rest with _|⟨y,rest⟩
 ·exfalso;simp_all
 have hsp:=zel (sz:=Cl.szM) hg1.1;have hnn:=zaS (l:=rest) Cl.szM_nn;have hnp:=zaS (l:=pre) Cl.szM_nn;have hys:=Cl.szM_kids y;have hya:=zaS (l:=y.pat.kids) Pat.szM_nn;have hv:=hg1.2;refine xao 48 (zaf false ((mkL Cl.one Cl.szM k pre).map Cl.c)++(.d (.i y.pat.op):: .d (.i y.pat.ctor):: .d (.i y.pat.n):: .d (.i y.pat.m):: .d (.i y.pat.var):: .own m (zaj y.pat.kids):: .d (.i y.g.op):: .d (.i y.g.var):: .d (.i y.g.n)::zaf m (rest.map Cl.c))) rfl (by rw[zqD]) ?_;refine evc [57] [14,15,1000009] ?_;refine xaS sl26 .none rfl rfl rfl rfl (by first|omega|(simp[Pat.cs_nil,Pat.cs_len,Pat.cs];omega)) ?_;refine evs [57] [] ?_;refine xbg ty3 .none rfl rfl rfl rfl rfl rfl (by simp) ((zaG ((zaY false _).trans (by rw[zaw];all_goals rfl)) zhh)) ?_;refine tv ?_;refine ar ?_;refine xaS sl26 .none rfl rfl rfl rfl (by first|omega|(simp[Pat.cs_nil,Pat.cs_len,Pat.cs];omega)) ?_;refine evs [57] [] ?_;refine xbg ty3 .none rfl rfl rfl rfl rfl rfl (by simp) ((zaG ((zaY false _).trans (by rw[zaw];all_goals rfl)) zdd)) ?_;refine tv ?_;refine ar ?_;refine xaS sl26 .none rfl rfl rfl rfl (by first|omega|(simp[Pat.cs_nil,Pat.cs_len,Pat.cs];omega)) ?_;refine evs [57] [] ?_;refine xbg ty3 .none rfl rfl rfl rfl rfl rfl (by simp) ((zaG ((zaY false _).trans (by rw[zaw];all_goals rfl)) zfc)) ?_;refine tv ?_;refine ar ?_;refine xaS sl26 .none rfl rfl rfl rfl (by first|omega|(simp[Pat.cs_nil,Pat.cs_len,Pat.cs];omega)) ?_;refine evs [57] [] ?_;refine xbg ty3 .none rfl rfl rfl rfl rfl rfl (by simp) ((zaG ((zaY false _).trans (by rw[zaw];all_goals rfl)) zrJ)) ?_;refine tv ?_;refine ar ?_;refine xaS sl26 .none rfl rfl rfl rfl (by first|omega|(simp[Pat.cs_nil,Pat.cs_len,Pat.cs];omega)) ?_;refine evs [57] [] ?_;refine xbg ty3 .none rfl rfl rfl rfl rfl rfl (by simp) ((zaG ((zaY false _).trans (by rw[zaw];all_goals rfl)) zrK)) ?_;refine tv ?_;refine ar ?_;by_cases hs2:y.pat.kids=[]
 refine xak 48 (pre.length*9+5) rfl (zaX ((zaY false _).trans (by rw[zaw];all_goals rfl)) rfl) (by simp[hs2,Pat.cs_nil,Pat.cs_len,Pat.cs]) (zaG ((zaY false _).trans (by rw[zaw];all_goals rfl)) zfd) ?_;refine evc [57] [] ?_;refine xaS sl26 .none rfl rfl rfl rfl (by first|omega|(simp[Pat.cs_nil,Pat.cs_len,Pat.cs];omega)) ?_;refine evs [57] [] ?_;refine xaY ty34 .none rfl rfl rfl ((by rw[zaX ((zaY false _).trans (by rw[zaw];all_goals rfl)) rfl];rfl)) ?_;refine evs [57] [] ?_;refine Walk.call (cr:=[]) zpv (ze6 hs2) rfl .none rfl rfl (LeL.refl _) trivial rfl (by first|rfl|(simp only[zar,List.all_cons,List.all_nil,zaC,zay,AV.idsL,AV.ids,zab,zaa,xae,List.map_nil];rfl)) (by first|rfl|(simp only[zak,occH,occE,Res.ids,xag,List.nil_append,AV.idsL,AV.ids,zab,zaa,zac,zal,xae,List.map_nil,upC];rfl)) ?_;refine evs [57] [] ?_;refine xal 48 (pre.length*9+5) false rfl (xs:=Pat.cs (mkL Pat.one Pat.szM (v+1+1+1+1+1) y.pat.kids)) rfl (zaX ((zaY false _).trans (by rw[zaw];all_goals rfl)) rfl) (by simp[hs2,mkL,Pat.cs]) (zaG ((zaY false _).trans (by rw[zaw];all_goals rfl)) zfd) ?_;refine evc [57] [] ?_;refine xaS sl26 .none rfl rfl rfl rfl (by first|omega|(simp[Pat.cs_nil,Pat.cs_len,Pat.cs];omega)) ?_;refine evs [57] [] ?_;refine xbg ty3 .none rfl rfl rfl rfl rfl rfl (by simp) ((zaG (o:=pre.length*9) (j:=6) ((zaY false _).trans (by rw[zaw])) zrL)) ?_;refine tv ?_;refine ar ?_;refine xaS sl26 .none rfl rfl rfl rfl (by first|omega|(simp[Pat.cs_nil,Pat.cs_len,Pat.cs];omega)) ?_;refine evs [57] [] ?_;refine xbg ty3 .none rfl rfl rfl rfl rfl rfl (by simp) ((zaG (o:=pre.length*9) (j:=7) ((zaY false _).trans (by rw[zaw])) zrM)) ?_;refine tv ?_;refine ar ?_;refine xaS sl26 .none rfl rfl rfl rfl (by first|omega|(simp[Pat.cs_nil,Pat.cs_len,Pat.cs];omega)) ?_;refine evs [57] [] ?_;refine xbg ty3 .none rfl rfl rfl rfl rfl rfl (by simp) ((zaG (o:=pre.length*9) (j:=8) ((zaY false _).trans (by rw[zaw])) zrN)) ?_;refine tv ?_;refine ar ?_;refine ar ?_;refine xah ((pre++[y],rest,v+Cl.szM y)) ⟨⟨(by have hz:=hg1.1;rw[<-hz];simp),(by show v+Cl.szM y=_;rw[zcQ,hg1.2];omega)⟩,(by simp),sx ⟨⟨_,rfl,xax ?_⟩,⟨⟨_,rfl,xax ?_⟩,trivial⟩⟩ ⟨?_,trivial⟩⟩;iterate 2 focus (first|rfl|(simp;done)|omega|(refine Eq.trans (b:=v+Cl.szM y) ?_ rfl;omega))
 focus (first|rfl|(show some (Res.tree _)=some (Res.tree _);rw[zbY,zeh,<-hg1.2];simp only[Cl.one,Pat.one_kids,Pat.one_sc y.pat v,List.append_assoc,xag,List.nil_append];all_goals rfl))
 refine CWp.split 48 (pre.length*9+5) 47 rfl (zaX ((zaY false _).trans (by rw[zaw];all_goals rfl)) rfl) (by simp[hs2,Pat.cs_nil,Pat.cs_len,Pat.cs]) (by first|rfl|(simp only[zak,occH,occE,Res.ids,xag,List.nil_append,AV.idsL,AV.ids,zab,zaa,zac,zal,xae,List.map_nil,upC];rfl)) (zaG ((zaY false _).trans (by rw[zaw];all_goals rfl)) zfd) ?_;refine evc [57] [] ?_;refine xaS sl26 .none rfl rfl rfl rfl (by first|omega|(simp[Pat.cs_nil,Pat.cs_len,Pat.cs];omega)) ?_;refine evs [57] [] ?_;refine xaY ty34 .none rfl rfl rfl ((by rw[zaX ((zaY false _).trans (by rw[zaw];all_goals rfl)) rfl];rfl)) ?_;refine evs [57] [] ?_;refine Walk.call (cr:=[]) zpv (zmQ (l:=y.pat.kids) (k:=v+1+1+1+1+1) (by omega) (by omega) (hpk y (by rw[<-hg1.1];simp)).1 (hpk y (by rw[<-hg1.1];simp)).2) rfl .none rfl rfl (.cons (xay (by first|rfl|(simp[Pat.cs_nil,Pat.cs_len,Pat.cs];done))) (.cons (.refl _) .nil)) ⟨by first|rfl|(simp;rfl),trivial⟩ rfl (by first|rfl|(simp only[zar,List.all_cons,List.all_nil,zaC,zay,AV.idsL,AV.ids,zab,zaa,xae,List.map_nil];rfl)) (by first|rfl|(simp only[zak,occH,occE,Res.ids,xag,List.nil_append,AV.idsL,AV.ids,zab,zaa,zac,zal,xae,List.map_nil,upC];rfl)) ?_;refine evs [57] [] ?_;refine CWp.merge hk 48 (pre.length*9+5) 47 6 _ rfl (zaX ((zaY false _).trans (by rw[zaw];all_goals rfl)) rfl) (by simp[zaw,Pat.cs_nil,Pat.cs_len,Pat.cs]) rfl Pat.cs_rows rfl rfl (zaG ((zaY false _).trans (by rw[zaw];all_goals rfl)) zfd) ?_;refine evc [57] [] ?_;refine xaS sl26 .none rfl rfl rfl rfl (by first|omega|(simp[Pat.cs_nil,Pat.cs_len,Pat.cs];omega)) ?_;refine evs [57] [] ?_;refine xbg ty3 .none rfl rfl rfl rfl rfl rfl (by simp) ((zaG (o:=pre.length*9) (j:=6) ((zaY false _).trans (by rw[zaw])) zrL)) ?_;refine tv ?_;refine ar ?_;refine xaS sl26 .none rfl rfl rfl rfl (by first|omega|(simp[Pat.cs_nil,Pat.cs_len,Pat.cs];omega)) ?_;refine evs [57] [] ?_;refine xbg ty3 .none rfl rfl rfl rfl rfl rfl (by simp) ((zaG (o:=pre.length*9) (j:=7) ((zaY false _).trans (by rw[zaw])) zrM)) ?_;refine tv ?_;refine ar ?_;refine xaS sl26 .none rfl rfl rfl rfl (by first|omega|(simp[Pat.cs_nil,Pat.cs_len,Pat.cs];omega)) ?_;refine evs [57] [] ?_;refine xbg ty3 .none rfl rfl rfl rfl rfl rfl (by simp) ((zaG (o:=pre.length*9) (j:=8) ((zaY false _).trans (by rw[zaw])) zrN)) ?_;refine tv ?_;refine ar ?_;refine ar ?_;refine xah ((pre++[y],rest,v+Cl.szM y)) ⟨⟨(by have hz:=hg1.1;rw[<-hz];simp),(by show v+Cl.szM y=_;rw[zcQ,hg1.2];omega)⟩,(by simp),sx ⟨⟨_,rfl,xax ?_⟩,⟨⟨_,rfl,xax ?_⟩,trivial⟩⟩ ⟨?_,trivial⟩⟩;iterate 2 focus (first|rfl|(simp;done)|omega|(refine Eq.trans (b:=v+Cl.szM y) ?_ rfl;omega))
 focus (first|rfl|(show some (Res.tree _)=some (Res.tree _);rw[zbY,zeh,<-hg1.2];simp only[Cl.one,Pat.one_kids,Pat.one_sc y.pat v,List.append_assoc,xag,List.nil_append];all_goals rfl))
 try simp only[Q] at h1p
 have hrest:rest=[]:=by
  rcases rest with _|⟨a,b⟩
  ·rfl
  ·exfalso;have hz:=congrArg List.length (hg1.1);simp only[xaa,xab,xac] at hz;omega
 subst hrest;refine evc [57] [14,15,1000009] ?_;refine rn [(48,some (.tree (zaf false ((mkL Cl.one Cl.szM k l).map Cl.c))))] (r1 rfl) (.eqd ?_) ⟨rfl,rfl⟩ (SubO.get ⟨.inr ?_,⟨.inl rfl,trivial⟩⟩) (zaE rfl);rotate_left 2;all_goals (first|((first|rfl|(obtain⟨hg1,hv⟩:=hg1;rw[List.append_nil] at hg1;subst hg1;rw[hv]));done)|(first|rfl|(obtain⟨hg1,_⟩:=hg1;rw[List.append_nil] at hg1;subst hg1;show some (Res.tree _)=some (Res.tree _);simp[zbi];done)))
mutual
theorem zq0:∀v:Val,v.szM<=2*(v.size:Int)
 | .mk a n ks=>by
  have:=zoY ks;simp only[Val.szM,Val.size];omega
theorem zoY:∀l:List Val,Vals.szM l<=2*(Vals.size l:Int)
 | []=>by simp[Vals.szM,Vals.size]
 |v::r=>by
  have h1:=zq0 v;have h2:=zoY r;simp only[Vals.szM,Vals.size];omega
end
theorem zls {l:List Data}{k:Int} (h0:0<k) (h1:k+szL Data.sz l<=1000000000000) (hl:WSmall l):FnD Tryz.prog 36 [.ms 63 l.length,.d (.i k)] [(63,some (.tree (zaf false (l.map Data.c))))]
  (.d (.i (k+szL Data.sz l))) [(63,some (.tree (zaf false ((mkL Data.one Data.sz k l).map Data.c))))]:=FnD.ren rfl (zaa _ _) (zaa _ _) (zle h0 h1 hl) 63
theorem zjH {l:List Cl}{k:Int} (h0:0<k) (h1:k+szL Cl.szM l<=1000000000000) (hok:ClsOk l):FnD Tryz.prog 37 [.ms 68 l.length,.d (.i k)] [(68,some (.tree (zaf false (l.map Cl.c))))]
  (.d (.i (k+szL Cl.szM l))) [(68,some (.tree (zaf false ((mkL Cl.one Cl.szM k l).map Cl.c))))]:=FnD.ren rfl (zaa _ _) (zaa _ _) (zjT h0 h1 hok) 68
theorem zrg {m:Bool}{v:Val}{k:Int} (h0:0<k) (h1:k+szL Val.szM v.kids<=1000000000000) (hok:v.ok):FnD Tryz.prog 38 [.agg [.d (.i v.ctor),.d (.i v.num),.ms 61 v.kids.length],.d (.i k)] [(61,some (.tree (zaf m (Val.cs v.kids))))]
  (.d (.i (k+szL Val.szM v.kids))) [(61,some (.tree (zaf false (Val.cs (mkL Val.one Val.szM k v.kids)))))]:=FnD.ren rfl (zaa _ _) (zaa _ _) (zlg h0 h1 hok) 61
theorem zkn {c n k:Int}:FnD Tryz.prog 38 [.agg [.d (.i c),.d (.i n),.d (.sl [])],.d (.i k)] [] (.d (.i k)) []:=by
 have hm:=zfU (l:=[]) (k:=k) rfl;rw[show k+szL Val.szM []=k from Int.add_zero k] at hm;refine bd Tryz.f38 10 [] [] fun w0 F0 own kept hk=>?_;refine bx 3002 ?_;refine ev ?_;refine wc zpw (hm) rfl rfl ?_;refine ev ?_;refine rq ?_;rotate_left;all_goals (rfl)
theorem zjS {w:List Data} (hs:WSmall w){a k:Int}{cl:List Cl} (hok:ClsOk cl){v:Val} (hvok:v.ok) (hsz:szL Val.szM v.kids<=1000000)
  (hspec:FnD Tryz.prog 25 [.d (zao w),.agg [.d (.i a),.d (.i k)],.d (zbG cl)] [] (.tup [.agg [.d (.i v.ctor),.d (.i v.num),.d (za9 v.kids)],.d (.bool true)]) [])
  (himp:FnD Tryz.prog 24 [.d (zao w),.agg [.d (.i a),.d (.i k)],.d (zbG cl)] [] (.tup [.agg [.d (.i v.ctor),.d (.i v.num),.d (za9 v.kids)],.d (.bool true)]) [])
  (hown:FnD Tryz.prog 24 [.d (zao w),.agg [.d (.i a),.d (.i k)],.d (zbG cl)] [] (.tup [.agg [.d (.i v.ctor),.d (.i v.num),.ms 61 v.kids.length],.d (.bool true)]) [(61,some (.tree (zaf true (Val.cs v.kids))))]):
  FnD Tryz.prog 6 [.d (zao w),.agg [.d (.i a),.d (.i k)],.d (zbG cl)] [] (.d (.bool true)) []:=by
 have z:=zb2 (left:=1048576) (zeO w);have z2:=zb2 (left:=szr 1048576 (zeO w)) (mCls cl);have hbd:=zhC w;have hnn:=zaS (l:=w) Data.sz_nn;have hcb:=Cls.szM_le cl;have hcn:=zaS (l:=cl) Cl.szM_nn;have hpn:=zaS (l:=v.kids) Val.szM_nn;have heq:=zdi (a:=v) (b:=v) v.size (Nat.le_refl _) hvok;rw[zdM] at heq;refine bd Tryz.f6 127 [58,87,117] [] fun w0 F0 own kept hk=>?_;refine bx 3004 ?_;refine evs [58,87,117] [] ?_;refine wc zuf (zhS hs (by omega) (by omega)) rfl rfl ?_;refine evs [58,87,117] [] ?_;refine sq ?_ ?_<;>intro h1 h1p h1s<;>(try simp only[Q] at h1p);refine rq ?_;rotate_left;refine wc zug (zgN hok (by omega) (by omega)) rfl rfl ?_;refine evs [58,87,117] [] ?_;refine sq ?_ ?_<;>intro h2 h2p h2s<;>(try simp only[Q] at h2p);refine rq ?_;rotate_left;refine wc zhJ (zcK hs) rfl rfl ?_;refine evd [58,87,117] [] ?_;refine wc zhK (zcc) rfl rfl ?_;refine evd [58,87,117] [] ?_;refine wc zhL (zco hok) rfl rfl ?_;refine wc zue (hspec) rfl rfl ?_;refine evd [58,87,117] [] ?_;refine ab 3008 tz49 ?_;refine so ty49 ?_;refine evd [58,87,117] [] ?_;refine dr ?_;refine Walk.call (cr:=[63]) zhJ (zhT hs) rfl .none rfl rfl (LeL.refl _) trivial rfl (by first|rfl|(simp only[zar,List.all_cons,List.all_nil,zaC,zay,AV.idsL,AV.ids,zab,zaa,xae,List.map_nil];rfl)) (by first|rfl|(simp only[zak,occH,occE,Res.ids,xag,List.nil_append,AV.idsL,AV.ids,zab,zaa,zac,zal,xae,List.map_nil,upC];rfl)) ?_;refine evs [58,87,117] [] ?_;refine Walk.call (cr:=[68]) zhL (zgP hok) rfl .none rfl rfl (LeL.refl _) trivial rfl (by first|rfl|(simp only[zar,List.all_cons,List.all_nil,zaC,zay,AV.idsL,AV.ids,zab,zaa,xae,List.map_nil];rfl)) (by first|rfl|(simp only[zak,occH,occE,Res.ids,xag,List.nil_append,AV.idsL,AV.ids,zab,zaa,zac,zal,xae,List.map_nil,upC];rfl)) ?_;refine evs [58,87,117] [] ?_;refine Walk.call (cr:=[]) zhK (zcc) rfl .none rfl rfl (LeL.refl _) trivial rfl (by first|rfl|(simp only[zar,List.all_cons,List.all_nil,zaC,zay,AV.idsL,AV.ids,zab,zaa,xae,List.map_nil];rfl)) (by first|rfl|(simp only[zak,occH,occE,Res.ids,xag,List.nil_append,AV.idsL,AV.ids,zab,zaa,zac,zal,xae,List.map_nil,upC];rfl)) ?_;refine evs [58,87,117] [] ?_;refine xaU (cr:=[61]) (lr:=[(63,_),(68,_)]) zpo (hown) rfl .none rfl rfl (.cons (.ms (k:=2) List.mem_cons_self (by intro x hx;obtain⟨y,_,rfl⟩:=List.mem_map.1 hx;rfl) (by first|rfl|(simp[zaw,Val.cs_len];done))) (.cons (.le (.refl _)) (.cons (.ms (k:=9) (List.mem_cons_of_mem _ List.mem_cons_self) Cl.rows (by first|rfl|(simp[zaw,Val.cs_len];done))) .nil))) ⟨rfl,⟨rfl,trivial⟩⟩ rfl (by first|rfl|(simp only[zc6,zcG,zbV,AV.ids];rfl)) (by first|rfl|(simp only[zak,occH,occE,Res.ids,xag,List.nil_append,AV.idsL,AV.ids,zab,zaa,zac,zal,xae,List.map_nil,upC];rfl)) ?_;refine evs [58,87,117] [] ?_;refine Walk.alloc (id:=3012) tz49 rfl .none rfl (by first|rfl|(simp only[zak,occH,occE,Res.ids,xag,List.nil_append,AV.idsL,AV.ids,zab,zaa,zac,zal,xae,List.map_nil,upC];rfl)) (by first|rfl|(simp only[zak,occH,occE,Res.ids,xag,List.nil_append,AV.idsL,AV.ids,zab,zaa,zac,zal,xae,List.map_nil,upC];rfl)) (by first|rfl|(simp only[zak,occH,occE,Res.ids,xag,List.nil_append,AV.idsL,AV.ids,zab,zaa,zac,zal,xae,List.map_nil,upC];rfl)) ?_;refine so ty49 ?_;refine evs [58,87,117] [] ?_;refine xaU (cr:=[]) (lr:=[(61,_)]) zi1 (zdi _ (Nat.le_refl _) hvok) rfl .none rfl rfl (.cons (.agg (.cons (.le (.refl _)) (.cons (.le (.refl _)) (.cons (.ms (k:=3) List.mem_cons_self Val.cs_rows (by first|rfl|(simp[zaw,Val.cs_len];done))) .nil)))) (.cons (.le (.refl _)) .nil)) ⟨rfl,trivial⟩ rfl (by first|rfl|(simp only[zc6,zcG,zbV,AV.ids];rfl)) (by first|rfl|(simp only[zak,occH,occE,Res.ids,xag,List.nil_append,AV.idsL,AV.ids,zab,zaa,zac,zal,xae,List.map_nil,upC];rfl)) ?_;refine evs [58,87,117] [] ?_;refine sq ?_ ?_<;>intro h3 h3p h3s<;>(try simp only[Q] at h3p);refine sqT ?_;refine rq ?_;rotate_left;refine xa5 un4 (.some rfl rfl h3) rfl rfl rfl ?_;refine evs [58,87,117] [(55,false)] ?_ ⟨⟨_,rfl,h3⟩,trivial⟩;refine sq ?_ ?_<;>intro h5 h5p h5s<;>(try simp only[Q] at h5p);refine rq ?_;rotate_left;refine Walk.call (cr:=[]) zhJ (zcK hs) rfl .none rfl rfl (LeL.refl _) trivial rfl (by first|rfl|(simp only[zar,List.all_cons,List.all_nil,zaC,zay,AV.idsL,AV.ids,zab,zaa,xae,List.map_nil];rfl)) (by first|rfl|(simp only[zak,occH,occE,Res.ids,xag,List.nil_append,AV.idsL,AV.ids,zab,zaa,zac,zal,xae,List.map_nil,upC];rfl)) ?_;refine xaU (cr:=[]) (lr:=[(63,_)]) zuh (zhQ hs) rfl .none rfl rfl (.cons (.ms (k:=2) List.mem_cons_self (by intro x hx;obtain⟨y,_,rfl⟩:=List.mem_map.1 hx;rfl) (by first|rfl|(simp[zaw,Val.cs_len];done))) (.cons (.le (.refl _)) .nil)) ⟨rfl,trivial⟩ rfl (by first|rfl|(simp only[zc6,zcG,zbV,AV.ids];rfl)) (by first|rfl|(simp only[zak,occH,occE,Res.ids,xag,List.nil_append,AV.idsL,AV.ids,zab,zaa,zac,zal,xae,List.map_nil,upC];rfl)) ?_;refine evs [58,87,117] [] ?_;refine sq ?_ ?_<;>intro h6 h6p h6s<;>(try simp only[Q] at h6p);refine rq ?_;rotate_left;refine Walk.call (cr:=[]) zhL (zco hok) rfl .none rfl rfl (LeL.refl _) trivial rfl (by first|rfl|(simp only[zar,List.all_cons,List.all_nil,zaC,zay,AV.idsL,AV.ids,zab,zaa,xae,List.map_nil];rfl)) (by first|rfl|(simp only[zak,occH,occE,Res.ids,xag,List.nil_append,AV.idsL,AV.ids,zab,zaa,zac,zal,xae,List.map_nil,upC];rfl)) ?_;refine xaU (cr:=[]) (lr:=[(68,_)]) zui (zgL hok) rfl .none rfl rfl (.cons (.ms (k:=9) List.mem_cons_self Cl.rows (by first|rfl|(simp[zaw,Val.cs_len];done))) (.cons (.le (.refl _)) .nil)) ⟨rfl,trivial⟩ rfl (by first|rfl|(simp only[zc6,zcG,zbV,AV.ids];rfl)) (by first|rfl|(simp only[zak,occH,occE,Res.ids,xag,List.nil_append,AV.idsL,AV.ids,zab,zaa,zac,zal,xae,List.map_nil,upC];rfl)) ?_;refine evs [58,87,117] [] ?_;refine sq ?_ ?_<;>intro h7 h7p h7s<;>(try simp only[Q] at h7p);refine rq ?_;rotate_left;refine Walk.call (cr:=[]) zuj (zls (l:=w) (k:=1) (by omega) (by omega) hs) rfl .none rfl rfl (.cons (xay (by first|rfl|(simp[Val.cs_len];done))) (.cons (.refl _) .nil)) ⟨rfl,trivial⟩ rfl (by first|rfl|(simp only[zar,List.all_cons,List.all_nil,zaC,zay,AV.idsL,AV.ids,zab,zaa,xae,List.map_nil];rfl)) (by first|rfl|(simp only[zak,occH,occE,Res.ids,xag,List.nil_append,AV.idsL,AV.ids,zab,zaa,zac,zal,xae,List.map_nil,upC];rfl)) ?_;refine evs [58,87,117] [] ?_;refine Walk.call (cr:=[]) zuk (zjH (l:=cl) (k:=1+szL Data.sz w) (by omega) (by omega) hok) rfl .none rfl rfl (.cons (xay (by first|rfl|(simp[Val.cs_len];done))) (.cons (.refl _) .nil)) ⟨rfl,trivial⟩ rfl (by first|rfl|(simp only[zar,List.all_cons,List.all_nil,zaC,zay,AV.idsL,AV.ids,zab,zaa,xae,List.map_nil];rfl)) (by first|rfl|(simp only[zak,occH,occE,Res.ids,xag,List.nil_append,AV.idsL,AV.ids,zab,zaa,zac,zal,xae,List.map_nil,upC];rfl)) ?_;refine evs [58,87,117] [] ?_;refine sq ?_ ?_<;>intro h8 h8p h8s<;>(try simp only[Q] at h8p);refine sqT ?_;refine sqT ?_;refine rq ?_;rotate_left;refine xaU (cr:=[]) (lr:=[(61,_)]) zi1 (zdi _ (Nat.le_refl _) hvok) rfl (.some rfl rfl h8) rfl rfl (.cons (.agg (.cons (.le (.refl _)) (.cons (.le (.refl _)) (.cons (.ms (k:=3) List.mem_cons_self Val.cs_rows (by first|rfl|(simp[zaw,Val.cs_len];done))) .nil)))) (.cons (.le (.refl _)) .nil)) ⟨rfl,trivial⟩ rfl (by first|rfl|(simp only[zc6,zcG,zbV,AV.ids];rfl)) (by first|rfl|(simp only[zak,occH,occE,Res.ids,xag,List.nil_append,AV.idsL,AV.ids,zab,zaa,zac,zal,xae,List.map_nil,upC];rfl)) ?_;refine evs [58,87,117] [(78,false)] ?_ ⟨⟨_,rfl,h8⟩,trivial⟩;refine sq ?_ ?_<;>intro h10 h10p h10s<;>(try simp only[Q] at h10p);refine sqT ?_;refine rq ?_;rotate_left;refine xa5 un4 (.some rfl rfl h10) rfl rfl rfl ?_;refine evs [58,87,117] [(84,false)] ?_ ⟨⟨_,rfl,h10⟩,trivial⟩;refine sq ?_ ?_<;>intro h12 h12p h12s<;>(try simp only[Q] at h12p);refine rq ?_;rotate_left;refine Walk.call (cr:=[]) zul (zrg (v:=v) (k:=1) (by omega) (by omega) hvok) rfl .none rfl rfl (.cons (.agg (.cons (.refl _) (.cons (.refl _) (.cons (xay (by first|rfl|(simp[Val.cs_len];done))) .nil)))) (.cons (.refl _) .nil)) ⟨rfl,trivial⟩ rfl (by first|rfl|(simp only[zar,List.all_cons,List.all_nil,zaC,zay,AV.idsL,AV.ids,zab,zaa,xae,List.map_nil];rfl)) (by first|rfl|(simp only[zak,occH,occE,Res.ids,xag,List.nil_append,AV.idsL,AV.ids,zab,zaa,zac,zal,xae,List.map_nil,upC];rfl)) ?_;refine evs [58,87,117] [] ?_;refine xaU (cr:=[]) (lr:=[(61,_)]) zpp (zeH (v:=v) (c:=v.ctor) (n:=v.num) (k:=1) (by omega) (by omega) hvok) rfl .none rfl rfl (.cons (.agg (.cons (.le (.refl _)) (.cons (.le (.refl _)) (.cons (.ms (k:=3) List.mem_cons_self Val.cs_rows (by first|rfl|(simp[zaw,Val.cs_len];done))) .nil)))) (.cons (.le (.refl _)) .nil)) ⟨rfl,trivial⟩ rfl (by first|rfl|(simp only[zc6,zcG,zbV,AV.ids];rfl)) (by first|rfl|(simp only[zak,occH,occE,Res.ids,xag,List.nil_append,AV.idsL,AV.ids,zab,zaa,zac,zal,xae,List.map_nil,upC];rfl)) ?_;refine evs [58,87,117] [] ?_;refine sq ?_ ?_<;>intro h13 h13p h13s<;>(try simp only[Q] at h13p);refine rq ?_;rotate_left;refine sq ?_ ?_<;>intro h14 h14p h14s<;>(try simp only[Q] at h14p);refine rq ?_;rotate_left;refine Walk.call (cr:=[]) zhJ (zcK hs) rfl .none rfl rfl (LeL.refl _) trivial rfl (by first|rfl|(simp only[zar,List.all_cons,List.all_nil,zaC,zay,AV.idsL,AV.ids,zab,zaa,xae,List.map_nil];rfl)) (by first|rfl|(simp only[zak,occH,occE,Res.ids,xag,List.nil_append,AV.idsL,AV.ids,zab,zaa,zac,zal,xae,List.map_nil,upC];rfl)) ?_;refine evd [58,87,117] [] ?_;refine Walk.call (cr:=[]) zhK (zcc) rfl .none rfl rfl (LeL.refl _) trivial rfl (by first|rfl|(simp only[zar,List.all_cons,List.all_nil,zaC,zay,AV.idsL,AV.ids,zab,zaa,xae,List.map_nil];rfl)) (by first|rfl|(simp only[zak,occH,occE,Res.ids,xag,List.nil_append,AV.idsL,AV.ids,zab,zaa,zac,zal,xae,List.map_nil,upC];rfl)) ?_;refine evd [58,87,117] [] ?_;refine Walk.call (cr:=[]) zhL (zco hok) rfl .none rfl rfl (LeL.refl _) trivial rfl (by first|rfl|(simp only[zar,List.all_cons,List.all_nil,zaC,zay,AV.idsL,AV.ids,zab,zaa,xae,List.map_nil];rfl)) (by first|rfl|(simp only[zak,occH,occE,Res.ids,xag,List.nil_append,AV.idsL,AV.ids,zab,zaa,zac,zal,xae,List.map_nil,upC];rfl)) ?_;refine Walk.call (cr:=[]) zpo (himp) rfl .none rfl rfl (LeL.refl _) trivial rfl (by first|rfl|(simp only[zar,List.all_cons,List.all_nil,zaC,zay,AV.idsL,AV.ids,zab,zaa,xae,List.map_nil];rfl)) (by first|rfl|(simp only[zak,occH,occE,Res.ids,xag,List.nil_append,AV.idsL,AV.ids,zab,zaa,zac,zal,xae,List.map_nil,upC];rfl)) ?_;refine evd [58,87,117] [] ?_;refine Walk.alloc (id:=3017) tz49 rfl .none rfl (by first|rfl|(simp only[zak,occH,occE,Res.ids,xag,List.nil_append,AV.idsL,AV.ids,zab,zaa,zac,zal,xae,List.map_nil,upC];rfl)) (by first|rfl|(simp only[zak,occH,occE,Res.ids,xag,List.nil_append,AV.idsL,AV.ids,zab,zaa,zac,zal,xae,List.map_nil,upC];rfl)) (by first|rfl|(simp only[zak,occH,occE,Res.ids,xag,List.nil_append,AV.idsL,AV.ids,zab,zaa,zac,zal,xae,List.map_nil,upC];rfl)) ?_;refine so ty49 ?_;refine evd [58,87,117] [] ?_;refine dr2 [3017] ?_ (by first|rfl|(simp only[zak,occH,occE,Res.ids,xag,List.nil_append,AV.idsL,AV.ids,zab,zaa,zac,zal,xae,List.map_nil,upC];rfl));refine Walk.call (cr:=[]) zi1 (heq) rfl .none rfl rfl (LeL.refl _) trivial rfl (by first|rfl|(simp only[zar,List.all_cons,List.all_nil,zaC,zay,AV.idsL,AV.ids,zab,zaa,xae,List.map_nil];rfl)) (by first|rfl|(simp only[zak,occH,occE,Res.ids,xag,List.nil_append,AV.idsL,AV.ids,zab,zaa,zac,zal,xae,List.map_nil,upC];rfl)) ?_;refine evs [58,87,117] [] ?_;refine sq ?_ ?_<;>intro h15 h15p h15s<;>(try simp only[Q] at h15p);refine sqT ?_;refine rq ?_;rotate_left;refine xa5 un4 (.some rfl rfl h15) rfl rfl rfl ?_;refine evs [58,87,117] [(114,false)] ?_ ⟨⟨_,rfl,h15⟩,trivial⟩;refine sq ?_ ?_<;>intro h17 h17p h17s<;>(try simp only[Q] at h17p);refine rq ?_;rotate_left;refine xaU (cr:=[]) (lr:=[(61,_)]) zpp (zeH (v:=v) (c:=v.ctor) (n:=v.num) (k:=1) (by omega) (by omega) hvok) rfl .none rfl rfl (.cons (.agg (.cons (.le (.refl _)) (.cons (.le (.refl _)) (.cons (.ms (k:=3) List.mem_cons_self Val.cs_rows (by first|rfl|(simp[zaw,Val.cs_len];done))) .nil)))) (.cons (.le (.refl _)) .nil)) ⟨rfl,trivial⟩ rfl (by first|rfl|(simp only[zc6,zcG,zbV,AV.ids];rfl)) (by first|rfl|(simp only[zak,occH,occE,Res.ids,xag,List.nil_append,AV.idsL,AV.ids,zab,zaa,zac,zal,xae,List.map_nil,upC];rfl)) ?_;refine evs [58,87,117] [] ?_;refine sq ?_ ?_<;>intro h18 h18p h18s<;>(try simp only[Q] at h18p);refine rq ?_;rotate_left;refine sq ?_ ?_<;>intro h19 h19p h19s<;>(try simp only[Q] at h19p);refine rq ?_;rotate_left;refine rq ?_;rotate_left;all_goals (first|rfl|(exfalso;simp_all[zgV,zdM];done)|(exfalso;simp[zgV,zdM] at *;omega))
theorem zfT {w:List Data} (hs:WSmall w){a k:Int}{cl:List Cl} (hok:ClsOk cl){c n:Int}{q:Bool}
  (hspec:FnD Tryz.prog 25 [.d (zao w),.agg [.d (.i a),.d (.i k)],.d (zbG cl)] [] (.tup [.agg [.d (.i c),.d (.i n),.d (za9 [])],.d (.bool q)]) [])
  (himp:FnD Tryz.prog 24 [.d (zao w),.agg [.d (.i a),.d (.i k)],.d (zbG cl)] [] (.tup [.agg [.d (.i c),.d (.i n),.d (za9 [])],.d (.bool q)]) []):
  FnD Tryz.prog 6 [.d (zao w),.agg [.d (.i a),.d (.i k)],.d (zbG cl)] [] (.d (.bool true)) []:=by
 have z:=zb2 (left:=1048576) (zeO w);have z2:=zb2 (left:=szr 1048576 (zeO w)) (mCls cl);have hbd:=zhC w;have hnn:=zaS (l:=w) Data.sz_nn;have hcb:=Cls.szM_le cl;have hcn:=zaS (l:=cl) Cl.szM_nn;have hnok:Val.ok (.mk c n []):=⟨by simp,trivial⟩;have heq:=zdi (a:= .mk c n []) (b:= .mk c n []) _ (Nat.le_refl _) hnok;rw[zdM] at heq;have hhe:=zeH (v:= .mk c n []) (c:=c) (n:=n) (k:=1) (by omega) (by simp[szL,Val.kids]) hnok;rw[show(1:Int)+szL Val.szM (Val.mk c n []).kids=1 from rfl] at hhe;refine bd Tryz.f6 127 [58,87,117] [] fun w0 F0 own kept hk=>?_;refine bx 3004 ?_;refine evs [58,87,117] [] ?_;refine wc zuf (zhS hs (by omega) (by omega)) rfl rfl ?_;refine evs [58,87,117] [] ?_;refine sq ?_ ?_<;>intro h1 h1p h1s<;>(try simp only[Q] at h1p);refine rq ?_;rotate_left;refine wc zug (zgN hok (by omega) (by omega)) rfl rfl ?_;refine evs [58,87,117] [] ?_;refine sq ?_ ?_<;>intro h2 h2p h2s<;>(try simp only[Q] at h2p);refine rq ?_;rotate_left;refine wc zhJ (zcK hs) rfl rfl ?_;refine evd [58,87,117] [] ?_;refine wc zhK (zcc) rfl rfl ?_;refine evd [58,87,117] [] ?_;refine wc zhL (zco hok) rfl rfl ?_;refine wc zue (hspec) rfl rfl ?_;refine evd [58,87,117] [] ?_;refine ab 3008 tz49 ?_;refine so ty49 ?_;refine evd [58,87,117] [] ?_;refine dr ?_;refine Walk.call (cr:=[63]) zhJ (zhT hs) rfl .none rfl rfl (LeL.refl _) trivial rfl (by first|rfl|(simp only[zar,List.all_cons,List.all_nil,zaC,zay,AV.idsL,AV.ids,zab,zaa,xae,List.map_nil];rfl)) (by first|rfl|(simp only[zak,occH,occE,Res.ids,xag,List.nil_append,AV.idsL,AV.ids,zab,zaa,zac,zal,xae,List.map_nil,upC];rfl)) ?_;refine evs [58,87,117] [] ?_;refine Walk.call (cr:=[68]) zhL (zgP hok) rfl .none rfl rfl (LeL.refl _) trivial rfl (by first|rfl|(simp only[zar,List.all_cons,List.all_nil,zaC,zay,AV.idsL,AV.ids,zab,zaa,xae,List.map_nil];rfl)) (by first|rfl|(simp only[zak,occH,occE,Res.ids,xag,List.nil_append,AV.idsL,AV.ids,zab,zaa,zac,zal,xae,List.map_nil,upC];rfl)) ?_;refine evs [58,87,117] [] ?_;refine Walk.call (cr:=[]) zhK (zcc) rfl .none rfl rfl (LeL.refl _) trivial rfl (by first|rfl|(simp only[zar,List.all_cons,List.all_nil,zaC,zay,AV.idsL,AV.ids,zab,zaa,xae,List.map_nil];rfl)) (by first|rfl|(simp only[zak,occH,occE,Res.ids,xag,List.nil_append,AV.idsL,AV.ids,zab,zaa,zac,zal,xae,List.map_nil,upC];rfl)) ?_;refine evs [58,87,117] [] ?_;refine xaU (cr:=[]) (lr:=[(63,_),(68,_)]) zpo (himp) rfl .none rfl rfl (.cons (.ms (k:=2) List.mem_cons_self (by intro x hx;obtain⟨y,_,rfl⟩:=List.mem_map.1 hx;rfl) (by first|rfl|(simp[zaw];done))) (.cons (.le (.refl _)) (.cons (.ms (k:=9) (List.mem_cons_of_mem _ List.mem_cons_self) Cl.rows (by first|rfl|(simp[zaw];done))) .nil))) ⟨rfl,⟨rfl,trivial⟩⟩ rfl (by first|rfl|(simp only[zc6,zcG,zbV,AV.ids];rfl)) (by first|rfl|(simp only[zak,occH,occE,Res.ids,xag,List.nil_append,AV.idsL,AV.ids,zab,zaa,zac,zal,xae,List.map_nil,upC];rfl)) ?_;refine evs [58,87,117] [] ?_;refine Walk.alloc (id:=3012) tz49 rfl .none rfl (by first|rfl|(simp only[zak,occH,occE,Res.ids,xag,List.nil_append,AV.idsL,AV.ids,zab,zaa,zac,zal,xae,List.map_nil,upC];rfl)) (by first|rfl|(simp only[zak,occH,occE,Res.ids,xag,List.nil_append,AV.idsL,AV.ids,zab,zaa,zac,zal,xae,List.map_nil,upC];rfl)) (by first|rfl|(simp only[zak,occH,occE,Res.ids,xag,List.nil_append,AV.idsL,AV.ids,zab,zaa,zac,zal,xae,List.map_nil,upC];rfl)) ?_;refine so ty49 ?_;refine evs [58,87,117] [] ?_;refine Walk.call (cr:=[]) zi1 (heq) rfl .none rfl rfl (LeL.refl _) trivial rfl (by first|rfl|(simp only[zar,List.all_cons,List.all_nil,zaC,zay,AV.idsL,AV.ids,zab,zaa,xae,List.map_nil];rfl)) (by first|rfl|(simp only[zak,occH,occE,Res.ids,xag,List.nil_append,AV.idsL,AV.ids,zab,zaa,zac,zal,xae,List.map_nil,upC];rfl)) ?_;refine evs [58,87,117] [] ?_;refine sq ?_ ?_<;>intro h3 h3p h3s<;>(try simp only[Q] at h3p);refine sqT ?_;refine rq ?_;rotate_left;refine xa5 un4 (.some rfl rfl h3) rfl rfl rfl ?_;refine evs [58,87,117] [(55,false)] ?_ ⟨⟨_,rfl,h3⟩,trivial⟩;refine sq ?_ ?_<;>intro h5 h5p h5s<;>(try simp only[Q] at h5p);refine rq ?_;rotate_left;refine Walk.call (cr:=[]) zhJ (zcK hs) rfl .none rfl rfl (LeL.refl _) trivial rfl (by first|rfl|(simp only[zar,List.all_cons,List.all_nil,zaC,zay,AV.idsL,AV.ids,zab,zaa,xae,List.map_nil];rfl)) (by first|rfl|(simp only[zak,occH,occE,Res.ids,xag,List.nil_append,AV.idsL,AV.ids,zab,zaa,zac,zal,xae,List.map_nil,upC];rfl)) ?_;refine xaU (cr:=[]) (lr:=[(63,_)]) zuh (zhQ hs) rfl .none rfl rfl (.cons (.ms (k:=2) List.mem_cons_self (by intro x hx;obtain⟨y,_,rfl⟩:=List.mem_map.1 hx;rfl) (by first|rfl|(simp[zaw];done))) (.cons (.le (.refl _)) .nil)) ⟨rfl,trivial⟩ rfl (by first|rfl|(simp only[zc6,zcG,zbV,AV.ids];rfl)) (by first|rfl|(simp only[zak,occH,occE,Res.ids,xag,List.nil_append,AV.idsL,AV.ids,zab,zaa,zac,zal,xae,List.map_nil,upC];rfl)) ?_;refine evs [58,87,117] [] ?_;refine sq ?_ ?_<;>intro h6 h6p h6s<;>(try simp only[Q] at h6p);refine rq ?_;rotate_left;refine Walk.call (cr:=[]) zhL (zco hok) rfl .none rfl rfl (LeL.refl _) trivial rfl (by first|rfl|(simp only[zar,List.all_cons,List.all_nil,zaC,zay,AV.idsL,AV.ids,zab,zaa,xae,List.map_nil];rfl)) (by first|rfl|(simp only[zak,occH,occE,Res.ids,xag,List.nil_append,AV.idsL,AV.ids,zab,zaa,zac,zal,xae,List.map_nil,upC];rfl)) ?_;refine xaU (cr:=[]) (lr:=[(68,_)]) zui (zgL hok) rfl .none rfl rfl (.cons (.ms (k:=9) List.mem_cons_self Cl.rows (by first|rfl|(simp[zaw];done))) (.cons (.le (.refl _)) .nil)) ⟨rfl,trivial⟩ rfl (by first|rfl|(simp only[zc6,zcG,zbV,AV.ids];rfl)) (by first|rfl|(simp only[zak,occH,occE,Res.ids,xag,List.nil_append,AV.idsL,AV.ids,zab,zaa,zac,zal,xae,List.map_nil,upC];rfl)) ?_;refine evs [58,87,117] [] ?_;refine sq ?_ ?_<;>intro h7 h7p h7s<;>(try simp only[Q] at h7p);refine rq ?_;rotate_left;refine Walk.call (cr:=[]) zuj (zls (l:=w) (k:=1) (by omega) (by omega) hs) rfl .none rfl rfl (.cons (xay (by first|rfl|(simp;done))) (.cons (.refl _) .nil)) ⟨rfl,trivial⟩ rfl (by first|rfl|(simp only[zar,List.all_cons,List.all_nil,zaC,zay,AV.idsL,AV.ids,zab,zaa,xae,List.map_nil];rfl)) (by first|rfl|(simp only[zak,occH,occE,Res.ids,xag,List.nil_append,AV.idsL,AV.ids,zab,zaa,zac,zal,xae,List.map_nil,upC];rfl)) ?_;refine evs [58,87,117] [] ?_;refine Walk.call (cr:=[]) zuk (zjH (l:=cl) (k:=1+szL Data.sz w) (by omega) (by omega) hok) rfl .none rfl rfl (.cons (xay (by first|rfl|(simp;done))) (.cons (.refl _) .nil)) ⟨rfl,trivial⟩ rfl (by first|rfl|(simp only[zar,List.all_cons,List.all_nil,zaC,zay,AV.idsL,AV.ids,zab,zaa,xae,List.map_nil];rfl)) (by first|rfl|(simp only[zak,occH,occE,Res.ids,xag,List.nil_append,AV.idsL,AV.ids,zab,zaa,zac,zal,xae,List.map_nil,upC];rfl)) ?_;refine evs [58,87,117] [] ?_;refine sq ?_ ?_<;>intro h8 h8p h8s<;>(try simp only[Q] at h8p);refine sqT ?_;refine sqT ?_;refine rq ?_;rotate_left;refine Walk.call (cr:=[]) zi1 (heq) rfl (.some rfl rfl h8) rfl rfl (LeL.refl _) trivial rfl (by first|rfl|(simp only[zar,List.all_cons,List.all_nil,zaC,zay,AV.idsL,AV.ids,zab,zaa,xae,List.map_nil];rfl)) (by first|rfl|(simp only[zak,occH,occE,Res.ids,xag,List.nil_append,AV.idsL,AV.ids,zab,zaa,zac,zal,xae,List.map_nil,upC];rfl)) ?_;refine evs [58,87,117] [(78,false)] ?_ ⟨⟨_,rfl,h8⟩,trivial⟩;refine sq ?_ ?_<;>intro h10 h10p h10s<;>(try simp only[Q] at h10p);refine sqT ?_;refine rq ?_;rotate_left;refine xa5 un4 (.some rfl rfl h10) rfl rfl rfl ?_;refine evs [58,87,117] [(84,false)] ?_ ⟨⟨_,rfl,h10⟩,trivial⟩;refine sq ?_ ?_<;>intro h12 h12p h12s<;>(try simp only[Q] at h12p);refine rq ?_;rotate_left;refine Walk.call (cr:=[]) zul (zkn) rfl .none rfl rfl (LeL.refl _) trivial rfl (by first|rfl|(simp only[zar,List.all_cons,List.all_nil,zaC,zay,AV.idsL,AV.ids,zab,zaa,xae,List.map_nil];rfl)) (by first|rfl|(simp only[zak,occH,occE,Res.ids,xag,List.nil_append,AV.idsL,AV.ids,zab,zaa,zac,zal,xae,List.map_nil,upC];rfl)) ?_;refine evs [58,87,117] [] ?_;refine Walk.call (cr:=[]) zpp (hhe) rfl .none rfl rfl (LeL.refl _) trivial rfl (by first|rfl|(simp only[zar,List.all_cons,List.all_nil,zaC,zay,AV.idsL,AV.ids,zab,zaa,xae,List.map_nil];rfl)) (by first|rfl|(simp only[zak,occH,occE,Res.ids,xag,List.nil_append,AV.idsL,AV.ids,zab,zaa,zac,zal,xae,List.map_nil,upC];rfl)) ?_;refine evs [58,87,117] [] ?_;refine sq ?_ ?_<;>intro h13 h13p h13s<;>(try simp only[Q] at h13p);refine rq ?_;rotate_left;refine sq ?_ ?_<;>intro h14 h14p h14s<;>(try simp only[Q] at h14p);refine rq ?_;rotate_left;refine Walk.call (cr:=[]) zhJ (zcK hs) rfl .none rfl rfl (LeL.refl _) trivial rfl (by first|rfl|(simp only[zar,List.all_cons,List.all_nil,zaC,zay,AV.idsL,AV.ids,zab,zaa,xae,List.map_nil];rfl)) (by first|rfl|(simp only[zak,occH,occE,Res.ids,xag,List.nil_append,AV.idsL,AV.ids,zab,zaa,zac,zal,xae,List.map_nil,upC];rfl)) ?_;refine evd [58,87,117] [] ?_;refine Walk.call (cr:=[]) zhK (zcc) rfl .none rfl rfl (LeL.refl _) trivial rfl (by first|rfl|(simp only[zar,List.all_cons,List.all_nil,zaC,zay,AV.idsL,AV.ids,zab,zaa,xae,List.map_nil];rfl)) (by first|rfl|(simp only[zak,occH,occE,Res.ids,xag,List.nil_append,AV.idsL,AV.ids,zab,zaa,zac,zal,xae,List.map_nil,upC];rfl)) ?_;refine evd [58,87,117] [] ?_;refine Walk.call (cr:=[]) zhL (zco hok) rfl .none rfl rfl (LeL.refl _) trivial rfl (by first|rfl|(simp only[zar,List.all_cons,List.all_nil,zaC,zay,AV.idsL,AV.ids,zab,zaa,xae,List.map_nil];rfl)) (by first|rfl|(simp only[zak,occH,occE,Res.ids,xag,List.nil_append,AV.idsL,AV.ids,zab,zaa,zac,zal,xae,List.map_nil,upC];rfl)) ?_;refine Walk.call (cr:=[]) zpo (himp) rfl .none rfl rfl (LeL.refl _) trivial rfl (by first|rfl|(simp only[zar,List.all_cons,List.all_nil,zaC,zay,AV.idsL,AV.ids,zab,zaa,xae,List.map_nil];rfl)) (by first|rfl|(simp only[zak,occH,occE,Res.ids,xag,List.nil_append,AV.idsL,AV.ids,zab,zaa,zac,zal,xae,List.map_nil,upC];rfl)) ?_;refine evd [58,87,117] [] ?_;refine Walk.alloc (id:=3017) tz49 rfl .none rfl (by first|rfl|(simp only[zak,occH,occE,Res.ids,xag,List.nil_append,AV.idsL,AV.ids,zab,zaa,zac,zal,xae,List.map_nil,upC];rfl)) (by first|rfl|(simp only[zak,occH,occE,Res.ids,xag,List.nil_append,AV.idsL,AV.ids,zab,zaa,zac,zal,xae,List.map_nil,upC];rfl)) (by first|rfl|(simp only[zak,occH,occE,Res.ids,xag,List.nil_append,AV.idsL,AV.ids,zab,zaa,zac,zal,xae,List.map_nil,upC];rfl)) ?_;refine so ty49 ?_;refine evd [58,87,117] [] ?_;refine dr2 [3017] ?_ (by first|rfl|(simp only[zak,occH,occE,Res.ids,xag,List.nil_append,AV.idsL,AV.ids,zab,zaa,zac,zal,xae,List.map_nil,upC];rfl));refine Walk.call (cr:=[]) zi1 (heq) rfl .none rfl rfl (LeL.refl _) trivial rfl (by first|rfl|(simp only[zar,List.all_cons,List.all_nil,zaC,zay,AV.idsL,AV.ids,zab,zaa,xae,List.map_nil];rfl)) (by first|rfl|(simp only[zak,occH,occE,Res.ids,xag,List.nil_append,AV.idsL,AV.ids,zab,zaa,zac,zal,xae,List.map_nil,upC];rfl)) ?_;refine evs [58,87,117] [] ?_;refine sq ?_ ?_<;>intro h15 h15p h15s<;>(try simp only[Q] at h15p);refine sqT ?_;refine rq ?_;rotate_left;refine xa5 un4 (.some rfl rfl h15) rfl rfl rfl ?_;refine evs [58,87,117] [(114,false)] ?_ ⟨⟨_,rfl,h15⟩,trivial⟩;refine sq ?_ ?_<;>intro h17 h17p h17s<;>(try simp only[Q] at h17p);refine rq ?_;rotate_left;refine Walk.call (cr:=[]) zpp (hhe) rfl .none rfl rfl (LeL.refl _) trivial rfl (by first|rfl|(simp only[zar,List.all_cons,List.all_nil,zaC,zay,AV.idsL,AV.ids,zab,zaa,xae,List.map_nil];rfl)) (by first|rfl|(simp only[zak,occH,occE,Res.ids,xag,List.nil_append,AV.idsL,AV.ids,zab,zaa,zac,zal,xae,List.map_nil,upC];rfl)) ?_;refine evs [58,87,117] [] ?_;refine sq ?_ ?_<;>intro h18 h18p h18s<;>(try simp only[Q] at h18p);refine rq ?_;rotate_left;refine sq ?_ ?_<;>intro h19 h19p h19s<;>(try simp only[Q] at h19p);refine rq ?_;rotate_left;refine rq ?_;rotate_left;all_goals (first|rfl|(exfalso;simp_all[zgV,zdM,szL];done)|(exfalso;simp[zgV,zdM,szL] at *;omega))
theorem zgr {w:List Data} (hs:WSmall w){a k:Int}{cl:List Cl} (hok:ClsOk cl) (hz:ClsSz cl):
  FnD Tryz.prog 6 [.d (zao w),.agg [.d (.i a),.d (.i k)],.d (zbG cl)] [] (.d (.bool true)) []:=by
 have hspec:=zjs hs (a:=a) (k:=k) hok hz;have himp:=zjP hs (a:=a) (k:=k) hok;cases hm:mvV w a k cl with
 |none=>
  rw[hm] at hspec himp;exact zfT hs hok hspec himp
 |some v=>
  rw[hm] at hspec himp;obtain⟨c,n,ks⟩:=v;by_cases hne:ks=[]
  ·subst hne;exact zfT hs hok hspec himp
  ·have hown:=ziE hs (a:=a) (k:=k) hok hm hne;have h60:(Val.mk c n ks).size<=60:=by
    unfold mvV at hm;split at hm
    ·obtain⟨_,h1,_⟩:=zoR hs hm;unfold isV at h1;rw[xad,decide_eq_true_eq] at h1;omega
    ·cases hm
   have hsz:=zq0 (Val.mk c n ks);rw[Val.szM_kids] at hsz;rw[<-Val.cs_cc,Val.cs_len] at hown;exact zjS hs hok (v:= .mk c n ks) (zqB _ (by omega)) (by omega) hspec himp hown
end Go.Proofs.YtlfipehhbdjnjaaGreat
namespace Go.Proofs.YtlfipehhbdjnjaaGreat
open Go Go.ChangeShapes Go.WideShapes Go.ChangeAt Go.RowKit
set_option linter.unusedSimpArgs false
set_option linter.unusedVariables false
set_option linter.unusedVariables false
def FW (W:World) (b:Nat):Nat:=match W.heap[b]? with
 |some (.cells cs _ _)=>cs.size
 |_=>0
theorem FW_cell {W:World}{b o:Nat}{v:Value} (h:W.cell? ⟨b,o,none⟩=some v):o<FW W b:=by
 unfold World.cell? at h;unfold FW;simp only at h;split at h
 ·rename_i c t fr hb;simp only[hb];simp only[Option.isSome_none,Bool.false_eq_true,if_false] at h;exact(Array.getElem?_eq_some_iff.1 h).1
 ·cases h
theorem FW_top {W:World}{b:Nat} (h:W.heap.size<=b):FW W b=0:=by
 unfold FW;rw[Array.getElem?_eq_none h]
structure RelL (W:World) (xs:List D) (cs:List Value):Prop where
 len:xs.length=cs.length
 rel:∀i (h1:i<xs.length) (h2:i<cs.length),RelD (FW W) W xs[i] cs[i]
theorem RelL.append {W:World}{xs ys:List D}{cs ds:List Value} (h:RelL W xs cs) (k:RelL W ys ds):RelL W (xs++ys) (cs++ds):=by
 refine⟨by simp[h.len,k.len],fun i h1 h2=>?_⟩;by_cases hi:i<xs.length
 ·rw[List.getElem_append_left hi,List.getElem_append_left (by rw[<-h.len];exact hi)];exact h.rel i hi (by rw[<-h.len];exact hi)
 ·have hl:=h.len;rw[List.getElem_append_right (by omega),List.getElem_append_right (by omega)];have e:i-xs.length=i-cs.length:=by omega
  have h1':i-xs.length<ys.length:=by simp only[xaa] at h1;omega
  have h2':i-cs.length<ds.length:=by simp only[xaa] at h2;omega
  have:=k.rel (i-xs.length) h1' (by omega);simp only[e] at this ⊢;exact this
def Dec (P:Program) (W:World) (n:Nat) (t:TypeId){α:Type} (f:α->List D) (m:α->Nat) (R:α->Prop):Prop:=
 ∀(H:Type) (enc:TypeId×Value->H) (cs:List Value) (x:DataW H×List MemPlace),DataW.trod enc P W 0 (fun _=>true) true n t cs=some x->
  ∃a,RelL W (f a) cs/\m a+1<=Rows.uptoBulk x.1/\R a
section
variable {P:Program}{W:World}{n:Nat}{t:TypeId}
theorem Dec.zero {α:Type}{f:α->List D}{m:α->Nat}{R:α->Prop}:Dec P W 0 t f m R:=fun H enc cs x h=>by simp[DataW.trod] at h
theorem Dec.map {α β:Type}{f:α->List D}{m:α->Nat}{R:α->Prop}{f':β->List D}{m':β->Nat}{R':β->Prop} (g:α->β) (h:Dec P W n t f m R)
  (h1:∀a,f' (g a)=f a) (h2:∀a,m' (g a)<=m a) (h3:∀a,R a->R' (g a)):Dec P W n t f' m' R':=fun H enc cs x hx=>by
 obtain⟨a,q1,q2,q3⟩:=h H enc cs x hx;exact⟨g a,by rw[h1];exact q1,by have:=h2 a;omega,h3 a q3⟩
theorem RelL.one {x:D}{v:Value} (h:RelD (FW W) W x v):RelL W [x] [v]:=
 ⟨rfl,fun i h1 h2=>by
  have:i=0:=by simp at h1;omega
  subst this;exact h⟩
theorem Dec.int {k:IntKind} (ht:P.underlying t=some (.int k)):Dec P W n t (fun z:Int=>[.int k z]) (fun _=>0) (fun z=>(Lit.int k z).wf=true):=fun H enc cs x h=>by
 obtain⟨z,rfl,rfl,hw⟩:=DataW.trod_int ht h;exact⟨z,.one (.int k z),by simp[Rows.uptoBulk],hw⟩
theorem Dec.bool (ht:P.underlying t=some .bool):Dec P W n t (fun z:Bool=>[.bool z]) (fun _=>0) (fun _=>True):=fun H enc cs x h=>by
 obtain⟨z,rfl,rfl⟩:=DataW.trod_bool ht h;exact⟨z,.one (.bool z),by simp[Rows.uptoBulk],trivial⟩
theorem Dec.str (ht:P.underlying t=some .string):Dec P W n t (fun s:Str=>[.str s]) (fun s=>s.length) (fun _=>True):=fun H enc cs x h=>by
 obtain⟨s,rfl,rfl,hw⟩:=DataW.trod_string ht h;exact⟨s.data.toList,.one (by have:=RelD.str (F:=FW W) (w:=W) s.data.toList;simpa using this),by simp[Rows.uptoBulk],trivial⟩
def sumM {α:Type} (m:α->Nat):List α->Nat
 | []=>0
 |a::r=>m a+1+sumM m r
theorem zhB {α:Type} (m:α->Nat):∀l:List α,l.length<=sumM m l
 | []=>by simp[sumM]
 |a::r=>by have:=zhB m r;simp only[sumM,xab];omega
theorem zf9 {α:Type}{m:α->Nat}:∀ {l:List α}{a:α},a∈l->m a+1<=sumM m l
 |b::r,a,h=>by
  simp only[sumM];rcases List.mem_cons.1 h with rfl|h
  ·omega
  ·have:=zf9 (m:=m) h;omega
theorem zlm {α β:Type}{Q:Nat->α->β->Prop}:∀(l:List β) (o:Nat),(∀i (h:i<l.length),∃a,Q (o+i) a l[i])->∃zs:List α,zs.length=l.length/\∀i (h:i<l.length) (h':i<zs.length),Q (o+i) zs[i] l[i]
 | [],o,_=>⟨[],rfl,fun i h=>by simp at h⟩
 |b::r,o,h=>by
  obtain⟨a,ha⟩:=h 0 (by simp);obtain⟨zs,h1,h2⟩:=zlm (Q:=Q) r (o+1) (fun i hi=>by
   have:=h (i+1) (by simp;omega);rw[show o+1+i=o+(i+1) by omega];simpa using this)
  refine⟨a::zs,by simp[h1],fun i hi hi'=>?_⟩;cases i with
  |zero=>exact ha
  |succ i=>
   have:=h2 i (by simpa using hi) (by simpa using hi');rw[show o+1+i=o+(i+1) by omega] at this;simpa using this
theorem zpN {H α:Type}{m:α->Nat}:∀ {zs:List α}{xs:List (DataW H)},zs.length=xs.length->(∀i (h:i<zs.length) (h':i<xs.length),m zs[i]+1<=Rows.uptoBulk xs[i])->sumM m zs<=Rows.uptoBulkAll xs
 | [],[],_,_=>by simp[sumM,Rows.uptoBulkAll]
 |a::zs,x::xs,hl,h=>by
  have h0:=h 0 (by simp) (by simp);have ih:=zpN (m:=m) (zs:=zs) (xs:=xs) (by simpa using hl) (fun i h1 h2=>by
   have:=h (i+1) (by simp;omega) (by simp;omega);simpa using this)
  simp only[sumM,Rows.uptoBulkAll];simp only[List.getElem_cons_zero] at h0;omega
 | [],_::_,hl,_=>by simp at hl
 |_::_,[],hl,_=>by simp at hl
theorem Dec.sl {α:Type}{f:α->List D}{m:α->Nat}{R:α->Prop}{e:TypeId}{k:Nat} (ht:P.underlying t=some (.slice e)) (hc:P.cellsOf e=k+1) (hk:∀a,(f a).length=k+1) (he:Dec P W n e f m R):
  Dec P W (n+1) t (fun l:List α=>[.sl (l.map f)]) (fun l=>sumM m l) (fun l=>∀a∈l,R a):=fun H enc cs x h=>by
 rcases DataW.trod_slice ht h with ⟨rfl,rfl⟩|⟨a,len,cap,elems,rest,n',hn,rfl,rfl,_,hcap,_,hlen,hel,_,_⟩
 ·exact⟨[],.one .nil,by simp[sumM,Rows.uptoBulk],fun a h=>by simp at h⟩
 obtain rfl:n=n':=by omega
 have each:∀i (hi:i<elems.length),∃y,(∃cs,W.cells? 0 (a.add (i*(k+1))) (k+1)=some cs/\RelL W (f y) cs)/\m y+1<=Rows.uptoBulk (elems[i]).1/\R y:=by
  intro i hi;have:=hel i (by omega);rw[hc,List.getElem?_eq_getElem hi,Option.bind_eq_some_iff] at this;obtain⟨cs,h1,h2⟩:=this;obtain⟨y,h3,h4,h5⟩:=he H enc cs _ h2;exact⟨y,⟨cs,h1,h3⟩,h4,h5⟩
 obtain⟨zs,hal,has⟩:=zlm (Q:=fun i y (el:DataW H×List MemPlace)=>(∃cs,W.cells? 0 (a.add (i*(k+1))) (k+1)=some cs/\RelL W (f y) cs)/\m y+1<=Rows.uptoBulk el.1/\R y) elems 0 (fun i hi=>by simpa using each i hi);refine⟨zs,.one ?_, ?_,fun y hy=>?_⟩
 ·by_cases h0:zs=[]
  ·subst h0;have hz:len=0:=by simp at hal;omega
   subst hz;obtain⟨b,o,s⟩:=a;cases s with
   |none=>exact .sl [] 0 b o cap (fun _=>undef) (by simp) (by simp) (fun n hn=>by simp at hn) (fun i hi=>by simp at hi)
   |some s=>exact .emp b o s cap
  ·have hpos:0<zs.length:=List.length_pos_iff.2 h0;obtain⟨⟨cs0,hc0,hr0⟩,_⟩:=has 0 (by omega) hpos;have hspot:a.spot=none:=by
    have h1:=(World.cells?_some hc0).2.2 0 (by omega);have h2:0<cs0.length:=by have:=(World.cells?_some hc0).2.1;omega
    simp only[Nat.add_zero,Nat.zero_mul,Addr.add,if_true,List.getElem?_eq_getElem h2] at h1;unfold World.cell? at h1;split at h1
    ·cases hs:a.spot with
     |none=>rfl
     |some s=>simp[hs] at h1
    ·cases h1
   obtain⟨b,o,s⟩:=a;simp only at hspot;subst hspot;have hlen':(zs.map f).length=len:=by simp;omega
   have hmulk:∀i j,i<zs.length->j<k+1->i*(k+1)+j<zs.length*(k+1):=fun i j hi hj=>by
    have:(i+1)*(k+1)<=zs.length*(k+1):=Nat.mul_le_mul_right _ (by omega);rw[Nat.add_mul,Nat.one_mul] at this;omega
   have cellAt:∀i (hi:i<zs.length) j (hj:j<(f zs[i]).length),∃v,W.cell? ⟨b,o+(i*(k+1)+j),none⟩=some v/\RelD (FW W) W ((f zs[i])[j]) v:=fun i hi j hj=>by
    obtain⟨⟨cs,hc1,hr1⟩,_⟩:=has i (by omega) hi;have hjk:j<k+1:=by have:=hk zs[i];omega
    obtain⟨_,q1,q2⟩:=World.cells?_some hc1;have q3:=q2 j hjk;rw[List.getElem?_eq_getElem (by omega)] at q3;refine⟨cs[j], ?_,hr1.rel j hj (by omega)⟩;rw[<-q3];congr 1
    simp only[Nat.zero_add,Addr.add];split<;>split<;>simp_all<;>omega
   have hv:((zs.map f).length,cap)=(len,cap):=by rw[hlen']
   have goal:RelD (FW W) W (.sl (zs.map f)) (.slice (some ⟨b,o,none⟩) (zs.map f).length cap):=by
    refine .sl _ (k+1) b o cap (fun q=>(W.cell? ⟨b,o+q,none⟩).getD undef) (fun y hy=>?_) (by omega) (fun q hq=>?_) (fun i hi j hj=>?_)
    ·obtain⟨y',_,rfl⟩:=List.mem_map.1 hy;exact hk y'
    ·have hq':q<zs.length*(k+1):=by simpa using hq
     have hi:q / (k+1)<zs.length:=Nat.div_lt_of_lt_mul (by rw[Nat.mul_comm];exact hq');have hj:q % (k+1)<k+1:=Nat.mod_lt _ (by omega);obtain⟨v,h1,_⟩:=cellAt _ hi (q % (k+1)) (by rw[hk];exact hj);rw[Nat.div_add_mod'] at h1;exact⟨FW_cell h1,by rw[h1];rfl⟩
    ·have hi':i<zs.length:=by simpa using hi
     simp only[List.getElem_map] at hj ⊢;obtain⟨v,h1,h2⟩:=cellAt i hi' j hj;show RelD (FW W) W _ ((W.cell? ⟨b,o+(i*(k+1)+j),none⟩).getD undef)
     rw[h1];exact h2
   rw[hlen'] at goal;exact goal
 ·have:=zpN (m:=m) (zs:=zs) (xs:=elems.map (·.1)) (by simp[hal]) (fun i h1 h2=>by
   have:=(has i (by simpa using h2) h1).2.1;simpa using this)
  simp only[Rows.uptoBulk];omega
 ·obtain⟨i,hi,rfl⟩:=List.getElem_of_mem hy;exact(has i (by omega) hi).2.2
def DecF (P:Program) (W:World) (n o K:Nat) (fs:List Field){α:Type} (f:α->List D) (m:α->Nat) (R:α->Prop):Prop:=
 ∀(H:Type) (enc:TypeId×Value->H) (cs:List Value) (xs:List (DataW H×List MemPlace)),cs.length=K->xs.length=fs.length->
  (∀(i:Nat) (fd:Field),fs[i]?=some fd->DataW.trod enc P W 0 (fun _=>true) true n fd.type ((cs.drop fd.offset).take (P.cellsOf fd.type))=xs[i]?)->
  ∃a,RelL W (f a) (cs.drop o)/\m a<=Rows.uptoBulkAll (xs.map (·.1))/\R a
theorem DecF.nil {K:Nat}:DecF P W n K K [] (fun _:Unit=>[]) (fun _=>0) (fun _=>True):=fun H enc cs xs h1 h2 _=>
 ⟨(),by rw[List.drop_of_length_le (by omega)];exact⟨rfl,fun i h=>by simp at h⟩,by simp,trivial⟩
theorem DecF.cons {α β:Type}{f:α->List D}{m:α->Nat}{R:α->Prop}{f2:β->List D}{m2:β->Nat}{R2:β->Prop}{o K k:Nat}{fd:Field}{fs:List Field}
  (h1:Dec P W n fd.type f m R) (ho:fd.offset=o) (hc:P.cellsOf fd.type=k) (h2:DecF P W n (o+k) K fs f2 m2 R2):
  DecF P W n o K (fd::fs) (fun p:α×β=>f p.1++f2 p.2) (fun p=>m p.1+1+m2 p.2) (fun p=>R p.1/\R2 p.2):=fun H enc cs xs hK hl hx=>by
 cases xs with
 |nil=>simp at hl
 |cons y ys=>
  have h0:=hx 0 fd (by simp);simp only[List.getElem?_cons_zero] at h0;rw[ho,hc] at h0;obtain⟨a,q1,q2,q3⟩:=h1 H enc _ _ h0;obtain⟨b,r1,r2,r3⟩:=h2 H enc cs ys hK (by simpa using hl) (fun i fd' hi=>by
   have:=hx (i+1) fd' (by simpa using hi);simpa using this)
  refine⟨(a,b), ?_, ?_,q3,r3⟩
  ·have:cs.drop o=(cs.drop o).take k++cs.drop (o+k):=by
    rw[<-List.drop_drop,List.take_append_drop]
   rw[this];exact q1.append r1
  ·simp only[xae,Rows.uptoBulkAll];omega
theorem Dec.struct {α:Type}{f:α->List D}{m:α->Nat}{R:α->Prop}{fs:Array Field} (ht:P.underlying t=some (.struct fs)){K:Nat} (hK:P.cellsOf t=K) (h:DecF P W n 0 K fs.toList f m R):
  Dec P W (n+1) t f m R:=fun H enc cs x hx=>by
 obtain⟨xs,n',hn,rfl,hl,hxl,hf⟩:=DataW.trod_struct ht hx;obtain rfl:n=n':=by omega
 obtain⟨a,q1,q2,q3⟩:=h H enc cs xs (by omega) (by simpa using hxl) (fun i fd hi=>hf i fd (by simpa using hi));refine⟨a,by simpa using q1, ?_,q3⟩;simp only[Rows.uptoBulk];omega
end
section
variable {P:Program}{W:World}{base:Nat}{t:TypeId}{v:Value}{H:Type}{enc:TypeId×Value->H}{d:DataW H}{ps:List MemPlace}
theorem zsm {α:Type}{e:TypeId}{f:α->List D}{m:α->Nat}{R:α->Prop}{k:Nat} (ht:P.underlying t=some (.slice e)) (hc:P.cellsOf e=k+1) (hk:∀a,(f a).length=k+1) (hd:∀n,Dec P W n e f m R)
  (hval:Value.okWide P W .any base t v) (h:DataW.Trod enc P W 0 (fun _=>true) true t v d ps):
  ∃l:List α,(∀G T,G.F=FW W->RelA G T W (.d (.sl (l.map f))) v)/\sumM m l+1<=Rows.uptoBulk d/\∀a∈l,R a:=by
 obtain⟨n,hn⟩:=h;cases n with
 |zero=>simp[DataW.trod] at hn
 |succ n=>
  obtain⟨l,h1,h2,h3⟩:=Dec.sl ht hc hk (hd n) H enc _ _ hn;have hcells:v.cells.toList=[v]:=by
   cases v with
   |agg cs=>simp only[Value.okWide,ht,Cell.okWide,Cell.ok] at hval
   |_=>rfl
  rw[hcells] at h1;exact⟨l,fun G T hG=> .d (by rw[hG];simpa using h1.rel 0 (by simp) (by simp)),h2,h3⟩
theorem zrX {α:Type}{f:α->List D}{m:α->Nat}{R:α->Prop}{fs:Array Field} (ht:P.underlying t=some (.struct fs)) (hd:∀n,Dec P W n t f m R)
  (hval:Value.okWide P W .any base t v) (h:DataW.Trod enc P W 0 (fun _=>true) true t v d ps):
  ∃a:α,(∀G T,G.F=FW W->RelA G T W (.agg ((f a).map .d)) v)/\m a+1<=Rows.uptoBulk d/\R a:=by
 obtain⟨n,hn⟩:=h;obtain⟨a,h1,h2,h3⟩:=hd n H enc _ _ hn;simp only[Value.okWide,ht] at hval;obtain⟨cs,rfl,_,_⟩:=hval;refine⟨a,fun G T hG=> .agg (by have:=h1.len;simp[Value.cells] at this ⊢;omega) (fun i hi hv=>?_),h2,h3⟩;have hi':i<(f a).length:=by simpa using hi
 have:=h1.rel i hi' (by simpa [Value.cells] using hv);simp only[List.getElem_map];exact .d (by rw[hG];simpa [Value.cells] using this)
end
section
variable {P:Program}{H:Type}{enc:TypeId×Value->H}
theorem zjO (hl:laidOutB P=true){W W':World} (hb:Below W.heap.size W W'):∀ {ts:List TypeId}{vs:List Value}{ds:List (DataW H)}{ps:List MemPlace},
  (∀t∈ts,P.readableRec t=true/\t<P.types.size)->DataW.TrodAll enc P W 0 (fun _=>true) true ts vs ds ps->(∀x∈ps,x.block<W.heap.size)->
  DataW.TrodAll enc P W' 0 (fun b=>decide (b<W.heap.size)) true ts vs ds ps
 | [],[],[],ps,_,h,_=>h
 |t::ts,v::vs,d::ds,ps,hr,h,hlt=>by
  obtain⟨p,q,h1,h2,rfl⟩:=h;exact⟨p,q,Below.trod hl (hr t (by simp)).1 (hr t (by simp)).2 h1 hb (fun x hx=>hlt x (by simp[hx])),
   zjO hl hb (fun t ht=>hr t (by simp[ht])) h2 (fun x hx=>hlt x (by simp[hx])),rfl⟩
theorem ztP {f:Func}{s:ChangeSpec}{W W':World}{args:Array Value}{ds gs:List (DataW H)}{before:List MemPlace}{tb:TypeId}
  (hW:DataW.Whole enc P f.params.toList s.vars false W args.toList ds gs before) (hvars:s.vars=[]) (hrt:f.resultTypes = #[tb]) (htb:P.underlying tb=some .bool)
  (hs:s.fn H (ds++gs)={ results:=[.lit (.bool true)],args:=ds }) (hl:laidOutB P=true) (hr:∀t∈f.params.toList,P.readableRec t=true/\t<P.types.size)
  (hb:Below W.heap.size W W'):s.post enc P f false true false false W args (.bool true) W':=by
 have hlt:∀p∈before,p.block<W.heap.size:=fun p hp=>hW.lt p hp;have hW0:=hW;obtain⟨p,q,hA,hV,rfl,hfz,_⟩:=hW;rw[hvars] at hV;cases gs with
 |cons g gs=>exact hV.elim
 |nil=>
  have hq:q=[]:=hV;subst hq;simp only[List.append_nil] at *;refine⟨ds,[],p,[],p,[],by simpa [hvars] using hW0, ?_, ?_, ?_,World.keptBut_mono (fun x hx=>⟨hx,.inr (.inl hx)⟩) (hb.frame (·∈p)),fun h=>by cases h⟩
  ·simp only[List.append_nil,hs,hrt];exact trodAll_cons_mk (shut_bool htb _) trodAll_mk0
  ·simp only[List.append_nil,hs];exact zjO hl hb hr hA hlt
  ·simp only[hvars,List.append_nil,hs];rfl
theorem ztc {f:FuncId}{avs:List AV}{W:World}{args:Array Value}{r:AV} (hf:FnD P f avs [] r [])
  (hargs:∀G T,G.F=FW W->AllR G T W avs args):Calls P f args W fun e W'=>∃v G',e = .returned v/\RelA G' (fun _=>none) W' r v/\Below W.heap.size W W':=by
 let G:Gh:={ F:=FW W,loc:=fun _=>[] }
 refine(hf G W args ⟨hargs G _ rfl,fun id r h=>(by simp[getH] at h),fun id id' h=>(by simp[getH] at h),fun b hb=>FW_top hb⟩).mono ?_;rintro e W' ⟨v,r',hp',G',rfl,⟨rfl,rfl⟩,h⟩
 exact⟨v,G',rfl,h.res,⟨h.frm.os,h.frm.tape,h.frm.output,h.frm.size,fun b hb=>(h.frm.block b hb (by simp[zb0])).1⟩⟩
theorem RelA.bool_true {G:Gh}{T:TokF}{w:World}{v:Value} (h:RelA G T w (.d (.bool true)) v):v = .bool true:=by
 cases h with|d h=>cases h;rfl
theorem ztF {H:Type}{l:List (DataW H)} (hk:Rows.uptoSmall H l=true):Rows.uptoBulkAll l<=1048576:=of_decide_eq_true hk
end
end Go.Proofs.YtlfipehhbdjnjaaGreat
namespace Go.Proofs.YtlfipehhbdjnjaaGreat
open Go Go.ChangeShapes Go.WideShapes Go.ChangeAt Go.RowKit
set_option linter.unusedSimpArgs false
set_option linter.unusedVariables false
set_option maxRecDepth 100000
theorem zeb (W:World) (n:Nat):Dec Tryz.prog W n 3 (fun z:Int=>[.i z]) (fun _=>0) (fun _=>True):=Dec.map (f:=fun z:Int=>[D.i z]) (R:=fun z=>(Lit.int .i64 z).wf=true) id (Dec.int Tryz.underlying3) (fun _=>rfl) (fun _=>Nat.le_refl _) (fun _ _=>trivial)
theorem zs3 (W:World) (n:Nat):Dec Tryz.prog W n 9 (fun s:Str=>[.str s]) (fun s=>s.length) (fun _=>True):=Dec.str Tryz.underlying9
theorem zuu (W:World):∀n,Dec Tryz.prog W n 61 Ty.c (fun _=>0) (fun _=>True)
 |0=>Dec.zero
 |n+1=>Dec.map (fun p:Int×Int×Unit=>(⟨p.1,p.2.1⟩:Ty)) (Dec.struct Tryz.underlying61 (by kernel_rfl) (DecF.cons (k:=1) (zeb W n) rfl (by kernel_rfl) (DecF.cons (k:=1) (zeb W n) rfl (by kernel_rfl) DecF.nil))) (fun _=>rfl) (fun _=>Nat.zero_le _) (fun _ _=>trivial)
theorem zwd (W:World):∀n,Dec Tryz.prog W n 307 (fun l:List Ty=>[zbw l]) (fun l=>l.length) (fun _=>True)
 |0=>Dec.zero
 |n+1=>Dec.map id (Dec.sl (k:=1) Tryz.underlying307 (by kernel_rfl) (fun _=>rfl) (zuu W n)) (fun _=>rfl) (fun l=>zhB _ l) (fun _ _=>trivial)
def zi0 (c:Ctor):Nat:=c.name.length+c.args.length
theorem zuP (W:World):∀n,Dec Tryz.prog W n 309 Ctor.c zi0 (fun _=>True)
 |0=>Dec.zero
 |n+1=>Dec.map (fun p:Str×List Ty×Int×Unit=>(⟨p.1,p.2.1,p.2.2.1⟩:Ctor)) (Dec.struct Tryz.underlying309 (by kernel_rfl) (DecF.cons (k:=1) (zs3 W n) rfl (by kernel_rfl) (DecF.cons (k:=1) (zwd W n) rfl (by kernel_rfl) (DecF.cons (k:=1) (zeb W n) rfl (by kernel_rfl) DecF.nil))))
   (fun _=>rfl) (fun p=>by simp only[zi0];omega) (fun _ _=>trivial)
theorem ztK (W:World):∀n,Dec Tryz.prog W n 120 (fun l:List Ctor=>[zcb l]) (fun l=>sumM zi0 l) (fun _=>True)
 |0=>Dec.zero
 |n+1=>Dec.map id (Dec.sl (k:=2) Tryz.underlying120 (by kernel_rfl) (fun _=>rfl) (zuP W n)) (fun _=>rfl) (fun l=>Nat.le_refl _) (fun _ _=>trivial)
def zhH (d:Data):Nat:=d.name.length+sumM zi0 d.ctors
theorem zuQ (W:World):∀n,Dec Tryz.prog W n 122 Data.c zhH (fun _=>True)
 |0=>Dec.zero
 |n+1=>Dec.map (fun p:Str×List Ctor×Unit=>(⟨p.1,p.2.1⟩:Data)) (Dec.struct Tryz.underlying122 (by kernel_rfl) (DecF.cons (k:=1) (zs3 W n) rfl (by kernel_rfl) (DecF.cons (k:=1) (ztK W n) rfl (by kernel_rfl) DecF.nil)))
   (fun _=>rfl) (fun p=>by simp only[zhH];omega) (fun _ _=>trivial)
theorem ztC {w:List Data}{N:Nat} (h:sumM zhH w+1<=N) (hN:N<=1048576):WSmall w:=by
 refine⟨by have:=zhB zhH w;omega,fun d hd=>?_,fun d hd c hc=>?_⟩
 ·have h1:=zf9 (m:=zhH) hd;have h2:=zhB zi0 d.ctors;simp only[zhH] at h1;omega
 ·have h1:=zf9 (m:=zhH) hd;have h2:=zf9 (m:=zi0) hc;simp only[zhH] at h1;simp only[zi0] at h2;omega
theorem Vals.ok_size:∀(n:Nat) (l:List Val),Vals.size l<=n->n<=1048576->l.length<=1048576/\Vals.ok l:=by
 intro n;induction n with
 |zero=>
  intro l h hn;cases l with
  |nil=>exact⟨by simp,trivial⟩
  |cons x r=>simp only[Vals.size,Val.size_eq] at h;omega
 |succ n ih=>
  intro l;induction l with
  |nil=>intro _ _;exact⟨by simp,trivial⟩
  |cons x r ihr=>
   intro h hn;simp only[Vals.size] at h;have hx:=Val.size_eq x;have h1:=ih x.kids (by omega) (by omega);have h2:=ih r (by omega) (by omega);refine⟨?_,(Val.ok_iff x).2 ⟨by have:=h1.1;omega,h1.2⟩,h2.2⟩;have:∀l:List Val,l.length<=Vals.size l:=by
    intro l;induction l with
    |nil=>simp
    |cons y s ihs=>simp only[Vals.size,xab,Val.size_eq];omega
   have:=this r;simp only[xab];omega
theorem zwc (W:World):∀n,Dec Tryz.prog W n 126 Pat.cc (fun v=>Pats.size v.kids) (fun _=>True):=by
 intro n;induction n using Nat.strongRecOn with
 |_ n ih=>
  cases n with
  |zero=>exact Dec.zero
  |succ n=>
   have hk:Dec Tryz.prog W n 124 (fun l:List Pat=>[.sl (l.map Pat.cc)]) (fun l=>Pats.size l) (fun _=>True):=by
    cases n with
    |zero=>exact Dec.zero
    |succ n=>
     refine Dec.map id (Dec.sl (k:=5) Tryz.underlying124 (by kernel_rfl) (fun _=>rfl) (ih n (by omega))) (fun _=>rfl) (fun l=>?_) (fun _ _=>trivial);have:∀l:List Pat,Pats.size l<=sumM (fun v=>Pats.size v.kids) l:=by
      intro l;induction l with
      |nil=>simp[Pats.size,sumM]
      |cons a r ih2=>simp only[Pats.size,sumM,Pat.size_eq];omega
     exact this l
   refine Dec.map (fun p:Int×Int×Int×Int×Int×List Pat×Unit=>Pat.mk p.1 p.2.1 p.2.2.1 p.2.2.2.1 p.2.2.2.2.1 p.2.2.2.2.2.1) (Dec.struct Tryz.underlying126 (by kernel_rfl) (DecF.cons (k:=1) (zeb W n) rfl (by kernel_rfl) (DecF.cons (k:=1) (zeb W n) rfl (by kernel_rfl) (DecF.cons (k:=1) (zeb W n) rfl (by kernel_rfl) (DecF.cons (k:=1) (zeb W n) rfl (by kernel_rfl) (DecF.cons (k:=1) (zeb W n) rfl (by kernel_rfl) (DecF.cons (k:=1) hk rfl (by kernel_rfl) DecF.nil))))))) (fun p=>?_) (fun p=>?_) (fun _ _=>trivial)
   ·show [D.i _,D.i _,D.i _,D.i _,D.i _,D.sl (Pat.cs _)]=_
    rw[show Pat.cs (Pat.mk p.1 p.2.1 p.2.2.1 p.2.2.2.1 p.2.2.2.2.1 p.2.2.2.2.2.1).kids=p.2.2.2.2.2.1.map Pat.cc by rw[Pat.cs_eq];exact List.map_congr_left (fun v _=>Pat.c_eq v)];rfl
   ·show Pats.size p.2.2.2.2.2.1<=0+1+(0+1+(0+1+(0+1+(0+1+(Pats.size p.2.2.2.2.2.1+1+0)))))
    omega
theorem Pats.ok_size:∀(n:Nat) (l:List Pat),Pats.size l<=n->n<=1048576->l.length<=1048576/\Pats.ok l:=by
 intro n;induction n with
 |zero=>
  intro l h hn;cases l with
  |nil=>exact⟨by simp,trivial⟩
  |cons x r=>simp only[Pats.size,Pat.size_eq] at h;omega
 |succ n ih=>
  intro l;induction l with
  |nil=>intro _ _;exact⟨by simp,trivial⟩
  |cons x r ihr=>
   intro h hn;simp only[Pats.size] at h;have hx:=Pat.size_eq x;have h1:=ih x.kids (by omega) (by omega);have h2:=ih r (by omega) (by omega);refine⟨?_,(Pat.ok_iff x).2 ⟨by have:=h1.1;omega,h1.2⟩,h2.2⟩;have:∀l:List Pat,l.length<=Pats.size l:=by
    intro l;induction l with
    |nil=>simp
    |cons y s ihs=>simp only[Pats.size,xab,Pat.size_eq];omega
   have:=this r;simp only[xab];omega
theorem ztj {v:Pat} (h:Pats.size v.kids<=1048576):v.ok:=by
 have:=Pats.ok_size _ _ (Nat.le_refl _) h;exact(Pat.ok_iff v).2 ⟨by omega,this.2⟩
def bCl (c:Cl):Nat:=Pats.size c.pat.kids
theorem zwA (W:World):∀n,Dec Tryz.prog W n 127 (fun g:Gd=>[.i g.op,.i g.var,.i g.n]) (fun _=>0) (fun _=>True)
 |0=>Dec.zero
 |n+1=>Dec.map (fun p:Int×Int×Int×Unit=>(⟨p.1,p.2.1,p.2.2.1⟩:Gd)) (Dec.struct Tryz.underlying127 (by kernel_rfl) (DecF.cons (k:=1) (zeb W n) rfl (by kernel_rfl) (DecF.cons (k:=1) (zeb W n) rfl (by kernel_rfl) (DecF.cons (k:=1) (zeb W n) rfl (by kernel_rfl) DecF.nil)))) (fun _=>rfl) (fun _=>Nat.zero_le _) (fun _ _=>trivial)
theorem zwz (W:World):∀n,Dec Tryz.prog W n 129 Cl.c bCl (fun _=>True)
 |0=>Dec.zero
 |n+1=>Dec.map (fun p:Pat×Gd×Unit=>(⟨p.1,p.2.1⟩:Cl)) (Dec.struct Tryz.underlying129 (by kernel_rfl) (DecF.cons (k:=6) (zwc W n) rfl (by kernel_rfl) (DecF.cons (k:=3) (zwA W n) rfl (by kernel_rfl) DecF.nil))) (fun _=>rfl) (fun p=>by simp only[bCl];omega) (fun _ _=>trivial)
theorem zsX {l:List Cl} (h:sumM bCl l<=1048576):ClsOk l/\ClsSz l:=by
 refine⟨⟨by have:=zhB bCl l;omega,fun c hc=>?_⟩,fun c hc=>?_⟩
 ·have h1:=zf9 (m:=bCl) hc;simp only[bCl] at h1;exact ztj (by omega)
 ·have h1:=zf9 (m:=bCl) hc;simp only[bCl] at h1;rw[Pat.size_eq];omega
end Go.Proofs.YtlfipehhbdjnjaaGreat
namespace Go.Proofs.YtlfipehhbdjnjaaGreat.fnExactMissingValue
open Go Go.ChangeShapes Go.WideShapes Go.ChangeAt Go.RowKit
set_option linter.unusedSimpArgs false
set_option linter.unusedVariables false
theorem own:ownKnob Tryz.prog.godebug=none:=by kernel_rfl
theorem laidOut:laidOutB Tryz.prog=true:=by kernel_rfl
set_option maxRecDepth 100000 in
theorem contract (H:Type) (enc:TypeId×Value→H) (W:World) (base:Nat) (args:Array Value) (ds gs:List (DataW H)) (before:List MemPlace)
  (hval:∀(j:Nat) t v,Tryz.f6.params[j]?=some t→args[j]?=some v→Value.okWide Tryz.prog W .any base t v)
  (hW:DataW.Whole enc Tryz.prog Tryz.f6.params.toList Rows.fnExactMissingValueSpec.vars false W args.toList ds gs before) (hk:Rows.uptoSmall H (ds++gs)=true):
  Calls Tryz.prog 6 args W fun e W'=>∃v,e = .returned v∧Rows.fnExactMissingValueSpec.post enc Tryz.prog Tryz.f6 false true false false W args v W':=by
 have hb:=ztF hk
 have hW':=hW
 obtain⟨p,q,hA0,hV,rfl,hfz,hnd⟩:=hW
 have hA:DataW.TrodAll enc Tryz.prog W 0 (fun _=>true) true Tryz.f6.params.toList args.toList ds p:=hA0
 rw[Tryz.params6] at hA hval
 obtain⟨v0,vs0,d0,ds0,p0,q0,hargs,rfl,rfl,h0,r0⟩:=trodAll_cons hA
 obtain⟨v1,vs1,d1,ds1,p1,q1,rfl,rfl,rfl,h1,r1⟩:=trodAll_cons r0
 obtain⟨v2,vs2,d2,ds2,p2,q2,rfl,rfl,rfl,h2,r2⟩:=trodAll_cons r1
 obtain⟨rfl,rfl,rfl⟩:=trodAll_nil r2
 obtain rfl:args = #[v0,v1,v2]:=by cases args;simp_all
 obtain⟨rfl,rfl⟩:=trodVars_none hV
 simp only[List.append_nil,Rows.uptoBulkAll] at hb
 obtain⟨w,a0,b0,_⟩:=zsm (k:=1) Tryz.underlying60 (by kernel_rfl) (fun _=>rfl) (zuQ W) (hval 0 _ v0 rfl rfl) h0
 obtain⟨t,a1,b1,_⟩:=zrX Tryz.underlying61 (zuu W) (hval 1 _ v1 rfl rfl) h1
 obtain⟨l,a2,b2,_⟩:=zsm (k:=8) Tryz.underlying62 (by kernel_rfl) (fun _=>rfl) (zwz W) (hval 2 _ v2 rfl rfl) h2
 have hs:WSmall w:=ztC b0 (by omega)
 obtain⟨ok_l,sz_l⟩:=zsX (l:=l) (by omega)
 refine(ztc ((zgr hs (a:=t.data) (k:=t.index) ok_l sz_l)) (W:=W) (args:=#[v0,v1,v2]) (fun G T hG=>⟨rfl,fun i hi hv=>?_⟩)).mono ?_
 ·match i,hi with
  |0,_=>exact a0 G T hG
  |1,_=>exact a1 G T hG
  |2,_=>exact a2 G T hG
 ·rintro e W' ⟨v,G',rfl,hr,hbelow⟩
  obtain rfl:=hr.bool_true
  exact⟨_,rfl,ztP hW' rfl rfl Tryz.underlying4 rfl laidOut (fun t ht=>by
   simp only[Tryz.params6,List.mem_cons,List.not_mem_nil,or_false] at ht
   rcases ht with rfl|rfl|rfl<;>exact⟨by kernel_rfl,of_decide_eq_true (by kernel_rfl)⟩) hbelow⟩
set_option maxRecDepth 100000 in
theorem lifted (os:Os) (started:os.Started) (H:Type) (enc:TypeId×Value→H) (F:Stop.Interp):
  ReturnsInHanded {} Tryz.checked os 6 .any ((Rows.OpenSpec.upto Rows.fnExactMissingValueSpec).pre6 enc Tryz.prog Tryz.f6 Rows.fnExactMissingValueUptoRow.domain false) (((Rows.OpenSpec.upto Rows.fnExactMissingValueSpec).at F).post enc Tryz.prog Tryz.f6 false true false false):=by
 refine returnsInHanded_of_cond (C:=Tryz.checked) (s:=Rows.OpenSpec.upto Rows.fnExactMissingValueSpec) (k:=Rows.uptoSmall) rfl own started (by kernel_rfl) Tryz.func6
  (OpenSpec.witness (enc:=enc) (C:=Tryz.checked) (s:=Rows.OpenSpec.upto Rows.fnExactMissingValueSpec) (k:=Rows.uptoSmall) rfl false ⟨#[],#[.slice none 0 0,.agg #[.int .i64 0,.int .i64 0],.slice none 0 0],[]⟩ 8 (by kernel_rfl) (by kernel_rfl) (by kernel_rfl)
   (x:=([.nil,.agg [.lit (.int .i64 0),.lit (.int .i64 0)],.nil],[],[])) (by kernel_rfl) rfl (by kernel_rfl)) ?_
 intro W base args ds gs before hval hW _ hk _
 exact contract H enc W base args ds gs before hval hW hk
theorem kf1:(Rows.fnExactMissingValueUptoRow.inPlace == Tryz.pinned.checked.prog.inPlace 6)=true:=by kernel_rfl
theorem kf2:(Rows.fnExactMissingValueUptoRow.unfollowed == Tryz.pinned.checked.prog.unfollowed 6)=true:=by kernel_rfl
theorem kf3:(Rows.fnExactMissingValueUptoRow.recurses == Tryz.pinned.checked.prog.recurses 6)=true:=by kernel_rfl
theorem kf4:(Rows.fnExactMissingValueUptoRow.named == Tryz.pinned.checked.prog.varsNamed 6)=true:=by kernel_rfl
theorem kf5:laidOutB Tryz.pinned.checked.prog=true:=by kernel_rfl
theorem kf6:mapsRowed Tryz.pinned.checked.prog=true:=by kernel_rfl
theorem kf7:Tryz.pinned.checked.prog.stopsHeard=true:=by kernel_rfl
theorem kf8:Tryz.pinned.checked.prog.mayEnter=true:=by kernel_rfl
theorem kf9:(Rows.fnExactMissingValueUptoRow.lifted == Tryz.pinned.checked.prog.liftsFinal)=true:=by kernel_rfl
theorem kf0:(Rows.fnExactMissingValueUptoRow.plainKeys == Tryz.pinned.checked.prog.plainKeys)=true:=by kernel_rfl
theorem facts:joinedFacts Tryz.pinned.checked.prog 6 Tryz.f6 (Rows.OpenSpec.upto Rows.fnExactMissingValueSpec).bare Rows.fnExactMissingValueUptoRow=true:=by
 unfold joinedFacts
 rw[kf1,kf2,kf3,kf4,kf5,kf6,kf7,kf8,kf9,kf0]
 kernel_rfl
theorem named:Tryz.pinned.checked.prog.funcNamed Rows.fnExactMissingValueUptoRow.func=some 6:=by kernel_rfl
theorem over:Rows.fnExactMissingValueUptoRow.holds Tryz.pinned (Rows.OpenSpec.upto Rows.fnExactMissingValueSpec):=
 OpenClaim.holds_of_cond 6 Tryz.f6 rfl rfl rfl rfl rfl rfl rfl ⟨rfl,rfl,rfl,rfl,rfl⟩ rfl rfl rfl rfl rfl named Tryz.func6 facts
  (of_decide_eq_true (by as_aux_lemma=>kernel_rfl)) (by as_aux_lemma=>unfold Func.isWrapper;first|(rw[if_pos (by decide +kernel)];kernel_rfl)|(rw[if_neg (by decide +kernel)];exact⟨rfl,rfl⟩))
  (fun os started H enc _ F=>lifted os started H enc F)
theorem proved:Rows.FnExactMissingValueUptoSaid:=over
end Go.Proofs.YtlfipehhbdjnjaaGreat.fnExactMissingValue
