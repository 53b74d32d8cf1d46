/-
  THE ABSTRACT WALK AND THE WALKS, part 5 of 6.
-/
import Derived.Test.YtmchfdpleibpdaaGreatE594
namespace Go.Proofs.YtmchfdpleibpdaaGreat
open Go
set_option linter.unusedSimpArgs false
set_option linter.unusedVariables false
set_option maxRecDepth 100000
set_option maxHeartbeats 4000000
def txtV (ws:List Str):Str:=if ws.length=3 then nth ws 0++[32]++nth ws 1 else nth ws 0
def zgx (ws:List Str):Str:=nth ws (ws.length-1)
def clF (w:List Data) (funs:List Ft) (f:Fu) (s:Str):Fu×Bool:=
 if (wdsV s).length<2\/3<(wdsV s).length then (f,false)
 else match pcV w f.ty.arg (txtV (wdsV s)) with
  |some [c]=>(⟨f.ty,f.cls++[c],f.bodies++[(peV w funs (zbM w f.ty.arg c.pat) f.ty.res (zgx (wdsV s))).getD zef]⟩,(peV w funs (zbM w f.ty.arg c.pat) f.ty.res (zgx (wdsV s))).isSome)
  |_=>(f,false)
theorem zrI {w:List Data} (hs:WSmall w){t:Ty}{s:Str}{l:List Cl} (h:pcV w t s=some l):zaW w t l=true/\∀c∈l,c.pat.ok/\c.pat.size<=10000000:=by
 unfold pcV at h;split at h
 ·rename_i htv;cases e:pcN w t s (zdc s) with
  |none=>rw[e] at h;cases h
  |some r=>
   rw[e] at h;dsimp only at h;split at h
   ·rename_i hc;cases h
    obtain⟨a,k⟩:=t;obtain⟨wv,ht,_⟩:=zcj htv;exact⟨hc.1,(zrG (zjQ hs wv) ht e).2⟩
   ·cases h
 ·cases h
theorem zlN {w:List Data} (hs:WSmall w){funs:List Ft} (hfl:funs.length<=1000000000000){f:Fu} (hc9:f.cls.length<=1000) (hb9:f.bodies.length<=1000){s:Str} (hsl:s.length<=400000):
  FnD Tryz.prog 121 [.d (zaj w),.d (zbG funs),.agg [.d (.i f.ty.arg.data),.d (.i f.ty.arg.index),.d (.i f.ty.res.data),.d (.i f.ty.res.index),.d (zcg f.cls),.d (zbj f.bodies)],.d (.str s)] []
   (.tup [.agg [.d (.i (clF w funs f s).1.ty.arg.data),.d (.i (clF w funs f s).1.ty.arg.index),.d (.i (clF w funs f s).1.ty.res.data),.d (.i (clF w funs f s).1.ty.res.index),.d (zcg (clF w funs f s).1.cls),.d (zbj (clF w funs f s).1.bodies)],.d (.bool (clF w funs f s).2)]) []:=by
 have hcut:FnD Tryz.prog 117 [.d (.str s),.d (.int .u8 32)] [] (.d (zcC (wdsV s))) []:=zbq (s:=s) (c:=32) od;have hwl:∀j,j<(wdsV s).length->(nth (wdsV s) j).length<=400000:=fun j hj=>by have:=zct (c:=32) (s:=s) hj;exact Nat.le_trans this hsl
 have hdef:clF w funs f s=(if (wdsV s).length<2\/3<(wdsV s).length then (f,false) else match pcV w f.ty.arg (txtV (wdsV s)) with
  |some [c]=>(⟨f.ty,f.cls++[c],f.bodies++[(peV w funs (zbM w f.ty.arg c.pat) f.ty.res (zgx (wdsV s))).getD zef]⟩,(peV w funs (zbM w f.ty.arg c.pat) f.ty.res (zgx (wdsV s))).isSome)
  |_=>(f,false)):=rfl
 generalize clF w funs f s=R at *;generalize wdsV s=ws at *;by_cases hb:ws.length<2\/3<ws.length
 ·rw[if_pos hb] at hdef;subst hdef;refine bd Tryz.f121 101 [] [] fun _ _ _ _ hk=>?_;refine bx 3006 ?_;refine ab 3008 tz35 ?_;refine ev (wc zb2 hcut Z Z ?_);refine ev ?_;apply sq<;>intro h1 h1p h1s;refine sqT ?_;refine so ty35 ?_;refine ev ?_;focus (refine rn0 (rc ty35) (.tup (.cons (.agg (qeeeeee ?_ ?_ ?_ ?_ ?_ ?_)) (qe ?_)));all_goals (rfl))
  try simp only[Q,xal,xac] at h1p
  apply sq<;>intro h3 h3p h3s<;>(try simp only[Q,xal,xac] at h3p);refine so ty35 ?_;refine ev ?_;focus (refine rn0 (rc ty35) (.tup (.cons (.agg (qeeeeee ?_ ?_ ?_ ?_ ?_ ?_)) (qe ?_)));all_goals (rfl))
  exfalso;omega
 rw[if_neg hb] at hdef;have hpc:=zjJ hs (a:=f.ty.arg.data) (k:=f.ty.arg.index) (s:=txtV ws) (by
  unfold txtV;split
  ·have h0:=hwl 0 od;have h1:=hwl 1 od;simp only[xaa,xab,xak];omega
  ·have h0:=hwl 0 od;omega)
 have hps:=fun(l:List Cl) (h:pcV w f.ty.arg (txtV ws)=some l)=>zrI hs h;rw[show pcV w ⟨f.ty.arg.data,f.ty.arg.index⟩ (txtV ws)=pcV w f.ty.arg (txtV ws) from rfl] at hpc;have ht3:ws.length=3->txtV ws=nth ws 0++[32]++nth ws 1:=fun h=>by unfold txtV;rw[if_pos h]
 have ht2:¬ws.length=3->txtV ws=nth ws 0:=fun h=>by unfold txtV;rw[if_neg h]
 have hno:∀o:Option (List Cl),pcV w f.ty.arg (txtV ws)=o->(o.isSome=false\/¬(o.getD []).length=1)->R=(f,false):=fun o h h2=>by
  rw[hdef,h];rcases o with _|_|⟨c,_|⟨d,r⟩⟩
  ·rfl
  ·rfl
  ·simp at h2
  ·rfl
 by_cases h1:∃c,pcV w f.ty.arg (txtV ws)=some [c]
 ·obtain⟨c,hc⟩:=h1;obtain⟨cv,co⟩:=hps _ hc;obtain⟨htv,_,hco⟩:=zia cv;have hwv:=(zcj (w:=w) (a:=f.ty.arg.data) (k:=f.ty.arg.index) htv).1;have hw:=zds hs hwv;have hcv:=zgF (hco 0 oi);have hcp:=co c oi;have hvl:=zhq w f.ty.arg c.pat;have hvs:=ze7 hw 10 (a:=f.ty.arg.data) (k:=f.ty.arg.index) (p:=c.pat) (xs:=[]) hcv.2.1 od (zqw htv).1 hcp.1 ot;rw[show([]:List Vt)++zaL w 10 ⟨f.ty.arg.data,f.ty.arg.index⟩ c.pat=zbM w f.ty.arg c.pat from hcv.2.2] at hvs;have hpe:=zlJ hs (funs:=funs) (vars:=zbM w f.ty.arg c.pat) (a:=f.ty.res.data) (k:=f.ty.res.index) (s:=zgx ws) hfl od (by have:=hwl (ws.length-1) od;unfold zgx;omega);rw[hc] at hpc hdef;dsimp only at hdef;subst hdef;rw[show peV w funs (zbM w f.ty.arg c.pat) ⟨f.ty.res.data,f.ty.res.index⟩ (zgx ws)=peV w funs (zbM w f.ty.arg c.pat) f.ty.res (zgx ws) from rfl] at hpe;generalize peV w funs (zbM w f.ty.arg c.pat) f.ty.res (zgx ws)=oe at *;have hcc:([c]:List Cl).map Cl.c=[Cl.c c]:=rfl;unfold zgx at hpe;generalize zbM w f.ty.arg c.pat=vs at *;generalize hT:txtV ws=tx at *;refine bd Tryz.f121 101 [34,38] [] fun _ _ _ _ hk=>?_;refine bx 3006 ?_;refine ab 3008 tz35 ?_;refine evs [34,38] [] (wc zb2 hcut Z Z ?_);refine evs [34,38] [] ?_;apply sq<;>intro h1 h1p h1s;try simp only[Q,xal,xac,xaJ] at h1p
  refine sqT ?_;exfalso;omega;apply sq<;>intro h3 h3p h3s;try simp only[Q,xal,xac,xaJ] at h3p
  exfalso;omega;refine ixq (i:=0) zaO Z Z Z (zah od) Z ?_;refine evs [34,38] [] ?_;apply sq<;>intro h4 h4p h4s<;>(try simp only[Q,xal,xac,xaJ] at h4p);refine xbx .none Z Z Z (by(simp only[xaa,xab,xak];have h0:=hwl 0 od;have h1:=hwl 1 od;omega)) ?_;refine evs [34,38] [] (ixq (i:=1) zaO Z Z Z (zah od) Z ?_);refine evs [34,38] [] (xbx .none Z Z Z (by(simp only[xaa,xab,xak];have h0:=hwl 0 od;have h1:=hwl 1 od;omega)) ?_);refine evs [34,38] [] (wc zmU (by(rw[<-ht3 od];exact hpc)) Z Z ?_);refine evs [34,38] [] ?_;apply sq<;>intro h5 h5p h5s;refine sqT ?_;focus (exfalso;contradiction)
  apply sq<;>intro h7 h7p h7s;focus (exfalso;contradiction)
  refine xb8 5 sl66 .none Z Z (evd [34,38] [] (ixq (i:=0) sl32 Z Z Z (zah (l:=[c]) (i:=0) oi) Z ?_));refine evd [34,38] [] (xbv 8 zg5 hvs Z .none Z Z (.cons (.refl _) (.cons (.refl _) (.cons (.refl _) (.cons (.refl _) .nil)))) Z o8 ?_);refine evd [34,38] [] (ar (ixq (i:=(ws.length-1)) zaO Z Z ot (zah od) Z ?_));refine evd [34,38] [] (Walk.call (cr:=[]) zt8 hpe Z .none Z Z (.cons (.refl _) (.cons (.refl _) (.cons (.gl _ _) (.cons (.refl _) (.cons (.refl _) .nil))))) O Z Z Z (evd [34,38] [] (ab 3014 tz40 ?_)));refine so ty40 ?_;refine evd [34,38] [] (dr (xb8 6 sl32 .none Z Z (evd [34,38] [] (Walk.append sl32 zz78 Z .none Z Z Z Z (za3 Z (by(simp;done))) (by(intro x hx;obtain⟨y,_,rfl⟩:=List.mem_map.1 hx;rfl)) (by(simp[xaJ];omega)) (by(simp[xaJ];omega)) (evd [34,38] [] (ixq (i:=0) sl32 Z Z Z (zah (l:=[c]) (i:=0) oi) Z ?_))))));refine evd [34,38] [] (si [0] [_] sl32 tz78 ?_);refine Walk.append sl32 zz78 Z .none Z Z Z Z (za3 Z ow) (by first|(intro x hx;simp at hx;subst hx;rfl)|(intro x hx;obtain⟨y,_,rfl⟩:=List.mem_map.1 hx;rfl)) (by first|(simp only[xaa,xab,xak];have h0:=hwl 0 od;have h1:=hwl 1 od;omega)|(simp[xaJ];omega)) (by first|(simp only[xaa,xab,xak];have h0:=hwl 0 od;have h1:=hwl 1 od;omega)|(simp[xaJ];omega)) ?_;refine evd [34,38] [] (so ty32 ?_);refine dr (xb8 7 sl33 .none Z Z (evd [34,38] [] (ap sl33 zz40 Z Z Z (by first|(intro x hx;obtain⟨y,_,rfl⟩:=List.mem_map.1 hx;rfl)|(intro x hx;rw[xaH] at hx;obtain⟨y,_,rfl⟩:=List.mem_map.1 hx;rfl)) (by first|(simp[xaJ];omega)|(have h0:=hwl 0 od;simp only[xaa,xab,xak];omega)) ?_)));refine evd [34,38] [] (si [0] [_] sl33 tz40 ?_);refine ap sl33 zz40 Z Z Z (by first|(intro x hx;simp at hx;subst hx;rfl)|(intro x hx;obtain⟨y,_,rfl⟩:=List.mem_map.1 hx;rfl)) (by first|(simp only[xaa,xab,xak];have h0:=hwl 0 od;have h1:=hwl 1 od;omega)|(simp[xaJ];omega)) ?_;refine evd [34,38] [] (so ty33 ?_);refine dr (so ty35 ?_);refine evs [34,38] [] (rn0 (rc ty35) (.tup (.cons (.agg (qeeeegg ?_ ?_ ?_ ?_ ?_ ?_)) (qe ?_))));rotate_left 7;refine wc zmU (by(rw[<-ht2 od];exact hpc)) Z Z ?_;refine evs [34,38] [] ?_;apply sq<;>intro h8 h8p h8s;refine sqT ?_;focus (exfalso;contradiction)
  apply sq<;>intro h10 h10p h10s;focus (exfalso;contradiction)
  refine xb8 5 sl66 .none Z Z (evd [34,38] [] (ixq (i:=0) sl32 Z Z Z (zah (l:=[c]) (i:=0) oi) Z ?_));refine evd [34,38] [] (xbv 8 zg5 hvs Z .none Z Z (.cons (.refl _) (.cons (.refl _) (.cons (.refl _) (.cons (.refl _) .nil)))) Z o8 ?_);refine evd [34,38] [] (ar (ixq (i:=(ws.length-1)) zaO Z Z ot (zah od) Z ?_));refine evd [34,38] [] (Walk.call (cr:=[]) zt8 hpe Z .none Z Z (.cons (.refl _) (.cons (.refl _) (.cons (.gl _ _) (.cons (.refl _) (.cons (.refl _) .nil))))) O Z Z Z (evd [34,38] [] (ab 3014 tz40 ?_)));refine so ty40 ?_;refine evd [34,38] [] (dr (xb8 6 sl32 .none Z Z (evd [34,38] [] (Walk.append sl32 zz78 Z .none Z Z Z Z (za3 Z (by(simp;done))) (by(intro x hx;obtain⟨y,_,rfl⟩:=List.mem_map.1 hx;rfl)) (by(simp[xaJ];omega)) (by(simp[xaJ];omega)) (evd [34,38] [] (ixq (i:=0) sl32 Z Z Z (zah (l:=[c]) (i:=0) oi) Z ?_))))));refine evd [34,38] [] (si [0] [_] sl32 tz78 ?_);refine Walk.append sl32 zz78 Z .none Z Z Z Z (za3 Z ow) (by first|(intro x hx;simp at hx;subst hx;rfl)|(intro x hx;obtain⟨y,_,rfl⟩:=List.mem_map.1 hx;rfl)) (by first|(simp only[xaa,xab,xak];have h0:=hwl 0 od;have h1:=hwl 1 od;omega)|(simp[xaJ];omega)) (by first|(simp only[xaa,xab,xak];have h0:=hwl 0 od;have h1:=hwl 1 od;omega)|(simp[xaJ];omega)) ?_;refine evd [34,38] [] (so ty32 ?_);refine dr (xb8 7 sl33 .none Z Z (evd [34,38] [] (ap sl33 zz40 Z Z Z (by first|(intro x hx;obtain⟨y,_,rfl⟩:=List.mem_map.1 hx;rfl)|(intro x hx;rw[xaH] at hx;obtain⟨y,_,rfl⟩:=List.mem_map.1 hx;rfl)) (by first|(simp[xaJ];omega)|(have h0:=hwl 0 od;simp only[xaa,xab,xak];omega)) ?_)));refine evd [34,38] [] (si [0] [_] sl33 tz40 ?_);refine ap sl33 zz40 Z Z Z (by first|(intro x hx;simp at hx;subst hx;rfl)|(intro x hx;obtain⟨y,_,rfl⟩:=List.mem_map.1 hx;rfl)) (by first|(simp only[xaa,xab,xak];have h0:=hwl 0 od;have h1:=hwl 1 od;omega)|(simp[xaJ];omega)) ?_;refine evd [34,38] [] (so ty33 ?_);refine dr (so ty35 ?_);refine evs [34,38] [] (rn0 (rc ty35) (.tup (.cons (.agg (qeeeegg ?_ ?_ ?_ ?_ ?_ ?_)) (qe ?_))));rotate_left 7;all_goals (first|(simp[nth];done)|(simp[xaH];done))
 ·have hR:R=(f,false):=hno _ rfl (by
   cases e:pcV w f.ty.arg (txtV ws) with
   |none=>exact .inl Z
   |some l=>
    refine .inr (fun hl=>h1 ?_);rcases l with _|⟨c,_|⟨d,r⟩⟩
    ·simp at hl
    ·exact⟨c,e⟩
    ·simp at hl)
  have hb2:(pcV w f.ty.arg (txtV ws)).isSome=true->((pcV w f.ty.arg (txtV ws)).getD []).length=1->False:=fun ha hl=>by
   cases e:pcV w f.ty.arg (txtV ws) with
   |none=>rw[e] at ha;cases ha
   |some l=>
    rw[e] at hl;rcases l with _|⟨c,_|⟨d,r⟩⟩
    ·simp at hl
    ·exact h1 ⟨c,e⟩
    ·simp at hl
  subst hR;clear hdef hno hps h1;generalize pcV w f.ty.arg (txtV ws)=o at *;generalize hT:txtV ws=tx at *;refine bd Tryz.f121 101 [34,38] [] fun _ _ _ _ hk=>?_;refine bx 3006 ?_;refine ab 3008 tz35 ?_;refine evs [34,38] [] (wc zb2 hcut Z Z ?_);refine evs [34,38] [] ?_;apply sq<;>intro h1 h1p h1s;try simp only[Q,xal,xac] at h1p
  refine sqT ?_;exfalso;omega;apply sq<;>intro h3 h3p h3s;try simp only[Q,xal,xac] at h3p
  exfalso;omega;refine ixq (i:=0) zaO Z Z Z (zah od) Z ?_;refine evs [34,38] [] ?_;apply sq<;>intro h4 h4p h4s<;>(try simp only[Q,xal,xac] at h4p);refine xbx .none Z Z Z (by(have h0:=hwl 0 od;have h1:=hwl 1 od;simp only[xaa,xab,xak];omega)) ?_;refine evs [34,38] [] (ixq (i:=1) zaO Z Z Z (zah od) Z ?_);refine evs [34,38] [] (xbx .none Z Z Z (by(have h0:=hwl 0 od;have h1:=hwl 1 od;simp only[xaa,xab,xak];omega)) ?_);refine evs [34,38] [] (wc zmU (by(rw[<-ht3 od];exact hpc)) Z Z ?_);refine evs [34,38] [] ?_;apply sq<;>intro h5 h5p h5s;refine sqT ?_;refine so ty35 ?_;refine evs [34,38] [] ?_;focus (refine rn0 (rc ty35) (.tup (.cons (.agg (qeeeeee ?_ ?_ ?_ ?_ ?_ ?_)) (qe ?_)));all_goals (rfl))
  apply sq<;>intro h7 h7p h7s;refine so ty35 ?_;refine evs [34,38] [] ?_;focus (refine rn0 (rc ty35) (.tup (.cons (.agg (qeeeeee ?_ ?_ ?_ ?_ ?_ ?_)) (qe ?_)));all_goals (rfl))
  try simp only[Q,xal,xac] at h7p
  exfalso;exact hb2 ol od;refine wc zmU (by(rw[<-ht2 od];exact hpc)) Z Z ?_;refine evs [34,38] [] ?_;apply sq<;>intro h8 h8p h8s;refine sqT ?_;refine so ty35 ?_;refine evs [34,38] [] ?_;focus (refine rn0 (rc ty35) (.tup (.cons (.agg (qeeeeee ?_ ?_ ?_ ?_ ?_ ?_)) (qe ?_)));all_goals (rfl))
  apply sq<;>intro h10 h10p h10s;refine so ty35 ?_;refine evs [34,38] [] ?_;focus (refine rn0 (rc ty35) (.tup (.cons (.agg (qeeeeee ?_ ?_ ?_ ?_ ?_ ?_)) (qe ?_)));all_goals (rfl))
  try simp only[Q,xal,xac] at h10p
  exfalso;exact hb2 ol od
section
variable {c:Ctx}{env:Env}{hp:Hp}{K:Kt}{code:Code}{ids:List Nat}
theorem R.gtGl2 {G:Gh}{a:Act}{w:World} (hr:R c G ⟨env,hp⟩ a w){id id2 n k:Nat}{xs:List (List D)}{v:Value} (hv:RelA G (tokf hp) w (.gt id xs) v) (hb:getH hp id=some (.tok n k)) (hn:n=xs.length) (h0:getH hp id2=none) (hocc:zcW id2 ⟨env,hp⟩):
  ∃G',R c G' ⟨env,(id2,some (.tok n k))::(id,none)::hp⟩ a w/\RelA G' (tokf ((id2,some (.tok n k))::(id,none)::hp)) w (.gl id2 xs) v:=by
 have h0':getH hp id2=none:=h0;have hne:id2≠id:=fun e=>by subst e;rw[h0'] at hb;cases hb
 obtain⟨⟨ad,cap0,hv0⟩,hcl⟩:=hv.gt_inv;obtain⟨hkx,htip⟩:=(hcl _ _ (zar.2 hb)).2 hn;have s1:(getH hp id).isSome:=by rw[hb];rfl
 have hbd:=(hr.heap id _ hb).bound;let hd:List Nat:=(G.loc id).take 1
 let G':Gh:={ F:=fun x=>bif zaT x hd then n*k else bif zaT x (G.loc id) then szB w x else G.F x,loc:=fun i=>bif Nat.beq i id2 then hd else G.loc i }
 have hdsub:∀x,x∈hd->x∈G.loc id:=fun x hx=>List.mem_of_mem_take hx;have l1:G'.loc id2=hd:=by simp[G']
 have l3:∀i,i≠id2->G'.loc i=G.loc i:=fun i h2=>by simp[G',zeB h2]
 have nel:∀ {x:Nat}{l:List Nat},x∉l->zaT x l=false:=fun {x l} hx=>by
  cases h:zaT x l with
  |true=>exact absurd (zaM.1 h) hx
  |false=>rfl
 have hout:∀x,x∉G.loc id->G'.F x=G.F x:=fun x hx=>by simp[G',nel hx,nel (fun h=>hx (hdsub x h))]
 have hF0:∀x,x∈G.loc id->G.F x=0:=(zw9 hn hkx htip).2.2;have g1:getH ((id2,some (Res.tok n k))::(id,none)::hp) id2=some (.tok n k):=by rw[zal,if_pos rfl]
 have g2:getH ((id2,some (Res.tok n k))::(id,none)::hp) id=none:=by rw[zal,if_neg (Ne.symm hne),zal,if_pos rfl]
 have t2:tokf ((id2,some (Res.tok n k))::(id,none)::hp) id=none:=by unfold tokf;rw[g2]
 have t1:tokf ((id2,some (Res.tok n k))::(id,none)::hp) id2=some (n,k):=zar.2 g1;have hturn:Turn c G ⟨env,hp⟩ w G' ((id2,some (.tok n k))::(id,none)::hp) [id,id2]:=by
  refine⟨fun i hi=>?_,fun i hi=>?_,fun x hx=>?_,fun x o ho=>?_,fun x hx=>?_,fun i hi=>?_,fun i hi hs x hx=>?_,fun i hi j hj hij h1 h2 x hx=>?_,fun i hi l hl=>?_⟩
  ·simp only[List.mem_cons,xau,or_false,not_or] at hi;rw[zal,if_neg hi.2,zal,if_neg hi.1]
  ·simp only[List.mem_cons,xau,or_false,not_or] at hi;exact l3 i hi.2
  ·exact hout x (hx id oi s1)
  ·by_cases hx:x∈G.loc id
   ·rw[hF0 x hx] at ho;omega
   ·rw[hout x hx];exact ho
  ·by_cases hx':x∈G.loc id
   ·have:=hbd x hx';omega
   ·rw[hout x hx'];exact hr.top x hx
  ·simp only[List.mem_cons,xau,or_false] at hi;rcases hi with rfl|rfl
   ·exact .inr ⟨.inl (l3 i (Ne.symm hne)),fun p hp=>by rw[t2] at hp;cases hp⟩
   ·exact .inl hocc
  ·simp only[List.mem_cons,xau,or_false] at hi;rcases hi with rfl|rfl
   ·rw[g2] at hs;cases hs
   ·rw[l1] at hx;exact⟨id,by simp,s1,hdsub x hx⟩
  ·simp only[List.mem_cons,xau,or_false] at hi hj;rcases hi with rfl|rfl
   ·rw[g2] at h1;cases h1
   ·rcases hj with rfl|rfl
    ·rw[g2] at h2;cases h2
    ·exact absurd Z hij
  ·simp only[List.mem_cons,xau,or_false] at hi;have hk0:=hr.kept i l hl;rcases hi with rfl|rfl
   ·have:=hk0.2.2;rw[show(⟨env,hp⟩:St).hp=hp from rfl,zar.2 hb] at this;cases this
   ·have:=hk0.2.1;rw[show(⟨env,hp⟩:St).hp=hp from rfl,h0'] at this;cases this
 refine⟨G',hturn.fin hr (fun i hi r hri=>?_), ?_⟩
 ·simp only[List.mem_cons,xau,or_false] at hi;rcases hi with rfl|rfl
  ·rw[g2] at hri;cases hri
  ·rw[g1] at hri;cases hri
   intro b hb;rw[l1] at hb;exact hbd b (hdsub b hb)
 ·rcases htip with ⟨e1,e2,e3⟩|⟨b,cap,us,e,Ss,e1,e2,e3,e4,e5,e6,e7,e8,e9⟩
  ·have hz:xs=[]:=List.eq_nil_of_length_eq_zero od;subst hz;rw[e3];refine .gl .nil (fun n' k' hT=>?_);rw[t1] at hT;cases hT;exact⟨by simp,fun _=>⟨hkx,.inl ⟨by rw[l1];simp[hd,e1],e2,rfl⟩⟩⟩
  ·have hhd:hd=[b]:=by simp[hd,e1]
   have hFb:G'.F b=n*k:=by simp[G',hhd,zaT]
   have hbn:∀x,x∈(List.range (n*k)).flatMap Ss->G'.F x=szB w x:=fun x hx=>by
    have hxb:x≠b:=fun e=>by subst e;rw[e1] at e6;exact(List.nodup_cons.1 e6).1 hx
    have h1:zaT x hd=false:=nel (by rw[hhd];simp[hxb]);have h2:zaT x (G.loc id)=true:=zaM.2 (by rw[e1];exact List.mem_cons_of_mem _ hx);simp[G',h1,h2]
   rw[e2];have hle:n*k<=us.size:=Nat.le_trans (xav _ e5) e4;have hrd:RelD G'.F w (.sl xs) (.slice (some ⟨b,0,none⟩) n cap):=by
    subst hn;refine .sl xs k b 0 cap (fun q=>us.getD q undef) hkx e5 (fun q hq=>⟨by rw[hFb];omega, ?_⟩) (fun i hi j hj=>(e8 i hi j hj).toD (fun x hx=>?_))
    ·have:q<us.size:=by omega
     simp[World.cell?,e3,this]
    ·rw[hbn x (List.mem_flatMap.2 ⟨_,List.mem_range.2 (zhs hi (by rw[<-hkx _ (xao hi)];exact hj)),hx⟩)];exact Nat.le_refl _
   refine .gl hrd (fun n' k' hT=>?_);rw[t1] at hT;cases hT;exact⟨by omega,fun _=>⟨hkx,.inr ⟨b,cap,us,e,by rw[l1,hhd],rfl,hFb,e3,e4,e5⟩⟩⟩
end
section
variable {c:Ctx}{all:Array Oper}{chk:List Rec->Prop}{os:List Oper}{recs:List Rec}{env:Env}{hp:Hp}{Q:St->Prop}
variable {d ty:Nat}{pos:String}{af:Array Edge}{g:Option (Nat×Bool)}{pg:List (Nat×AV)}
theorem xbQ {f:FuncId}{args:Array Operand}{ats:Array TypeId}{xs:List Operand}{vs avs:List AV}{lr:List (Nat×Res)}{id id2 k:Nat}{rows:List (List D)} (hc:Callee c.P f) (hf:FnD c.P f avs [] (.gt id rows) [(id,some (.tok rows.length k))])
  (hargs:args=xs.toArray) (hg:GH all env g pg) (hd:Nat.blt d c.n=true) (hx:opdL env xs=some vs) (hle:LentL lr vs avs) (hsub:subR lr hp) (hall:zfx lr=true) (hok:zfh [(id,some (.tok rows.length k))] (.gt id rows) [id,id2]=true)
  (hne:Nat.beq id2 id=false) (hcr:zam env hp [id,id2]=true)
  (hn:Walk c all chk os (zap (pg++opFL xs vs) lr [id,id2] ⟨some (d,.gl id2 rows),[(id2,some (.tok rows.length k)),(id,none),(id,some (.tok rows.length k))]⟩::recs) ⟨(d,.gl id2 rows)::env,[(id2,some (.tok rows.length k)),(id,none),(id,some (.tok rows.length k))]++hp⟩ Q):
  Walk c all chk (⟨some d,.call ⟨.value (.func f),args,ats⟩,ty,pos,af,g⟩::os) recs ⟨env,hp⟩ Q:=by
 subst hargs;refine⟨pg++opFL xs vs,lr,[id,id2],_, ?_,zav hg.facts (zcM hx),zok hsub,zbD hcr,hn⟩;intro s a w hrel hp' hh hcr' K Q' hK;obtain⟨G,hr⟩:=hrel;have hrl:=zdS hr (zcN hx (fun p hm=>hp' p (by simp[hm])));have hall':AllR G (tokf s.hp) w vs (xs.map a.eval).toArray:=by
  refine⟨by simp[hrl.1],fun i hi hv=>?_⟩;have:=hrl.2 i hi (by rw[<-hrl.1];exact hi);simpa using this
 have hcalls:=zuQ hr hh hall hf hall' hle [id,id2] hcr';unfold wpO;rw[if_pos (hg.gf.wanted hr (fun p hm=>hp' p (by simp[hm])))];unfold Oper.wp;have hrun:(execOp a.eval ⟨some d,.call ⟨.value (.func f),xs.toArray,ats⟩,ty,pos,af,g⟩).run c.P w = .ok (.enter f (xs.map a.eval).toArray) w:=by
  have:=hc.run (xs.map a.eval).toArray w;simp only[execOp,resolve,Sem.run_bind,Act.eval,Deferred.ofValue,Sem.run_pure,Result.andThen_ok,invoke];simpa using this
 rw[hrun,Oper.upon_enter];refine hcalls.mono ?_;rintro e w' ⟨v,r',hp1,rfl,⟨rfl,rfl⟩,h⟩
 obtain⟨G',hR,hA⟩:=h hok;obtain⟨f0,f1⟩:=hcr' id2 oi;have hnb:id2≠id:=fun e=>by subst e;simp at hne
 have g0:getH ([(id,some (Res.tok rows.length k))]++s.hp) id2=none:=by
  show getH ((id,some (Res.tok rows.length k))::s.hp) id2=none
  rw[zal,if_neg hnb];exact f0
 have g1:getH ([(id,some (Res.tok rows.length k))]++s.hp) id=some (.tok rows.length k):=by
  show getH ((id,some (Res.tok rows.length k))::s.hp) id=_
  rw[zal,if_pos rfl]
 have hocc2:zcW id2 ⟨s.env,[(id,some (Res.tok rows.length k))]++s.hp⟩:=by
  refine⟨f1.1,fun j r hj=>?_⟩;have hj':getH ((id,some (Res.tok rows.length k))::s.hp) j=some r:=hj;rw[zal] at hj';split at hj'
  ·cases hj';simp[Res.ids]
  ·exact f1.2 j r hj'
 obtain⟨G2,h1,h2⟩:=R.gtGl2 (env:=s.env) (hp:=[(id,some (Res.tok rows.length k))]++s.hp) hR hA g1 rfl g0 hocc2;exact hK _ _ ⟨G2,h1.put h2 hd⟩
end
theorem zpj (l:List Ft):FlatR (l.map Ft.c):=by
 intro x hx y hy;obtain⟨t,_,rfl⟩:=List.mem_map.1 hx;simp only[Ft.c,List.mem_cons,xau,or_false] at hy;rcases hy with rfl|rfl|rfl|rfl<;>rfl
theorem zmD {l:List Fu} (hl:l.length<=1000000000000) (hne:l≠[]):FnD Tryz.prog 34 [.d (zbB l)] [] (.gt 1 ((l.map Fu.ty).map Ft.c)) [(1,some (.tok ((l.map Fu.ty).map Ft.c).length 4))]:=by
 refine bd Tryz.f34 21 [] [6,999999] fun _ _ _ _ hk=>?_;refine xca 1 sl63 .none Z Z (ev (xaB (ι:=List (Fu)×List (Fu)) hk (fun x=>[(4,.d (.i (x.1.length:Int))),(3,.gv 1 ((x.1.map Fu.ty).map Ft.c))]) [6,7,8,9,10,11,12,13,14,15,16,17,18,19] (fun x=>[(1,some (.tok (((x.1.map Fu.ty).map Ft.c)).length 4))]) (fun x=>x.1++x.2=l) (fun x=>x.2.length) ([],l) oi ⟨⟨_,Z,xaU ?_⟩,⟨⟨_,Z,LeA.gvg ?_⟩,O⟩⟩ ⟨zac ?_,O⟩ (fun x=>rfl) (fun x hg1=>?_)));iterate 3 focus (rfl)
 obtain⟨pre,rest⟩:=x;dsimp only at hg1 ⊢;refine evc [] [6,999999] ?_;apply sq<;>intro h1 h1p h1s<;>(try simp only[Q] at h1p);rcases rest with _|⟨y,rest⟩
 ·exfalso;simp_all
 refine ixq sl24 Z Z Z (zaA hg1) Z (ev (si [0] [_] sl63 tz31 ?_));refine xbq sl63 zz31 .none Z Z Z Z (za3 Z o8) ov (by have hz:=xam List.length hg1;simp at hz ⊢;omega) (by have hz:=xam List.length hg1;simp at hz ⊢;omega) ?_;refine ev (ar (xaj ((pre++[y],rest)) ⟨(by have hz:=hg1;rw[<-hz];simp),oi,sx ⟨⟨_,Z,xaU ?_⟩,⟨⟨_,Z,LeA.gvg ?_⟩,O⟩⟩ ⟨zac ?_,O⟩⟩));iterate 3 focus ((simp;done))
 have hrest:rest=[]:=by
  rcases rest with _|⟨a,b⟩
  ·rfl
  ·exfalso;have hz:=xam List.length (hg1);simp only[xaa,xab,xac] at hz;omega
 subst hrest;have hg2:=hg1;refine evc [] [] (CWp.gvGt 2 Z (zpj _) (by rw[xaq] at hg1;subst hg1;simpa using hne) ?_);refine CWp.ret (rn [(1,some (.tok ((l.map Fu.ty).map Ft.c).length 4))] (r1 Z) (.gtg ?_) ⟨Z,Z⟩ (SubH.get ⟨?_,O⟩) (zaQ Z));rotate_left 2;all_goals (((first|rfl|(rw[xaq] at hg1;subst hg1;rfl)|(rw[xaq] at hg1;subst hg1;simp;done));done))
theorem zlP {l:List Fu} (hl:l.length<=1000000000000) (hne:l≠[]):FnD Tryz.prog 34 [.d (zbB l)] [] (.gt 33 ((l.map Fu.ty).map Ft.c)) [(33,some (.tok ((l.map Fu.ty).map Ft.c).length 4))]:=by
 refine bd Tryz.f34 21 [] [6,999999] fun _ _ _ _ hk=>?_;refine xca 33 sl63 .none Z Z (ev (xaB (ι:=List (Fu)×List (Fu)) hk (fun x=>[(4,.d (.i (x.1.length:Int))),(3,.gv 33 ((x.1.map Fu.ty).map Ft.c))]) [6,7,8,9,10,11,12,13,14,15,16,17,18,19] (fun x=>[(33,some (.tok (((x.1.map Fu.ty).map Ft.c)).length 4))]) (fun x=>x.1++x.2=l) (fun x=>x.2.length) ([],l) oi ⟨⟨_,Z,xaU ?_⟩,⟨⟨_,Z,LeA.gvg ?_⟩,O⟩⟩ ⟨zac ?_,O⟩ (fun x=>rfl) (fun x hg1=>?_)));iterate 3 focus (rfl)
 obtain⟨pre,rest⟩:=x;dsimp only at hg1 ⊢;refine evc [] [6,999999] ?_;apply sq<;>intro h1 h1p h1s<;>(try simp only[Q] at h1p);rcases rest with _|⟨y,rest⟩
 ·exfalso;simp_all
 refine ixq sl24 Z Z Z (zaA hg1) Z (ev (si [0] [_] sl63 tz31 ?_));refine xbq sl63 zz31 .none Z Z Z Z (za3 Z o8) ov (by have hz:=xam List.length hg1;simp at hz ⊢;omega) (by have hz:=xam List.length hg1;simp at hz ⊢;omega) ?_;refine ev (ar (xaj ((pre++[y],rest)) ⟨(by have hz:=hg1;rw[<-hz];simp),oi,sx ⟨⟨_,Z,xaU ?_⟩,⟨⟨_,Z,LeA.gvg ?_⟩,O⟩⟩ ⟨zac ?_,O⟩⟩));iterate 3 focus ((simp;done))
 have hrest:rest=[]:=by
  rcases rest with _|⟨a,b⟩
  ·rfl
  ·exfalso;have hz:=xam List.length (hg1);simp only[xaa,xab,xac] at hz;omega
 subst hrest;have hg2:=hg1;refine evc [] [] (CWp.gvGt 2 Z (zpj _) (by rw[xaq] at hg1;subst hg1;simpa using hne) ?_);refine CWp.ret (rn [(33,some (.tok ((l.map Fu.ty).map Ft.c).length 4))] (r1 Z) (.gtg ?_) ⟨Z,Z⟩ (SubH.get ⟨?_,O⟩) (zaQ Z));rotate_left 2;all_goals (((first|rfl|(rw[xaq] at hg1;subst hg1;rfl)|(rw[xaq] at hg1;subst hg1;simp;done));done))
theorem zik {α:Type} [Inhabited α]{l:List α}{i:Nat}{x:α} (h:i<l.length):nth (l.set i x) i=x:=by
 rw[zaJ (by rw[List.length_set];exact h),List.getElem_set,if_pos rfl]
theorem zpI {α:Type} [Inhabited α]{l:List α}{i j:Nat}{x:α} (h:i≠j):nth (l.set i x) j=nth l j:=by
 by_cases hj:j<l.length
 ·rw[zaJ (by rw[List.length_set];exact hj),List.getElem_set,if_neg h,zaJ hj]
 ·unfold nth;rw[List.getD_eq_getElem?_getD,List.getD_eq_getElem?_getD,List.getElem?_eq_none (by rw[List.length_set];omega),List.getElem?_eq_none od]
abbrev zaN (l:List Fu):List AV:=(l.map Fu.c).flatten.map AV.d
theorem zen (l:List Fu):∀x∈l.map Fu.c,x.length=6:=by
 intro x hx;obtain⟨y,_,rfl⟩:=List.mem_map.1 hx;rfl
theorem zpn (l:List Fu):(zaN l).length=l.length*6:=by rw[xac,zeF (zen l),xac]
theorem zuC:∀ {L:List Fu}{i:Nat},i<L.length->cutC (zaN L) (i*6) 6=some ((nth L i).c.map AV.d)
 | [],i,h=>by simp at h
 |x::r,0,_=>by
  have:zaN (x::r)=x.c.map AV.d++zaN r:=by simp[zaN]
  rw[this,Nat.zero_mul];exact zfz Z
 |x::r,i+1,h=>by
  have:zaN (x::r)=x.c.map AV.d++zaN r:=by simp[zaN]
  rw[this,show(i+1)*6=6+i*6 by omega];exact zq5 Z (zuC (by simpa using h))
theorem zu9:∀ {L:List Fu}{i:Nat}{e:Fu},i<L.length->putC (zaN L) (i*6) (e.c.map AV.d)=some (zaN (L.set i e))
 | [],i,e,h=>by simp at h
 |x::r,0,e,_=>by
  have h1:zaN (x::r)=x.c.map AV.d++zaN r:=by simp[zaN]
  have h2:zaN (e::r)=e.c.map AV.d++zaN r:=by simp[zaN]
  rw[h1,List.set_cons_zero,h2,Nat.zero_mul];exact zkL Z
 |x::r,i+1,e,h=>by
  have h1:zaN (x::r)=x.c.map AV.d++zaN r:=by simp[zaN]
  have h2:zaN (x::r.set i e)=x.c.map AV.d++zaN (r.set i e):=by simp[zaN]
  rw[h1,List.set_cons_succ,h2,show(i+1)*6=6+i*6 by omega];exact zrT Z (zu9 (by simpa using h))
def pfL (s:Str):List Str:=cutL 59 [] s
def pfP (s:Str) (i:Nat):List Str:=cutL 47 [] (nth (pfL s) i)
def zbF (s:Str):Nat:=if s=[] then 0 else if (pfL s).length<=5 then (pfL s).length else 5
theorem zu6 {s:Str}{i:Nat}:i<zbF s↔(i<(pfL s).length/\i<=4)/\s≠[]:=by
 unfold zbF;split
 ·rename_i h;simp[h]
 ·rename_i h;split<;>simp[h]<;>omega
def pfT (w:List Data) (s:Str):Nat->Option (List Fu)
 |0=>some []
 |n+1=>match pfT w s n with
  |none=>none
  |some r=>if (ftP w (nth (pfP s n) 0)).2=true then some (r++[⟨(ftP w (nth (pfP s n) 0)).1,[],[]⟩]) else none
def pfK (w:List Data) (funs:List Ft) (P:List Str) (f:Fu):Nat->Option Fu
 |0=>some f
 |k+1=>match pfK w funs P f k with
  |none=>none
  |some g=>if (clF w funs g (nth P (k+1))).2=true then some (clF w funs g (nth P (k+1))).1 else none
def kLim (P:List Str):Nat:=if P.length<=10 then P.length-1 else 9
def pfC (w:List Data) (s:Str) (raw:List Fu):Nat->Option (List Fu)
 |0=>some raw
 |n+1=>match pfC w s raw n with
  |none=>none
  |some l=>match pfK w (raw.map Fu.ty) (pfP s n) (nth l n) (kLim (pfP s n)) with
   |none=>none
   |some g=>some (l.set n g)
def pfV (w:List Data) (s:Str):Option (List Fu):=
 if zaI w=true then (match pfT w s (zbF s) with
  |none=>none
  |some raw=>if zcc w (raw.map Fu.ty)=true then (match pfC w s raw raw.length with
   |none=>none
   |some l=>if zb9 w l=true/\funT w l l.length=s then some l else none) else none) else none
def GoodF (n:Nat) (f:Fu):Prop:=f.cls.length=n/\f.bodies.length=n/\(∀c∈f.cls,c.pat.ok/\c.pat.size<=10000000)/\∀e∈f.bodies,e.ok/\e.size<=10000000
theorem zv0 {w:List Data} (hs:WSmall w){funs:List Ft}{vars:List Vt}{t:Ty}{s:Str}{e:Ex} (h:peV w funs vars t s=some e):e.ok/\e.size<=10000000:=by
 unfold peV at h;split at h
 ·rename_i hc;cases h
  have hR:=hc.1;unfold zgM at hR;rw[xad,xad] at hR;obtain⟨tv,hfo,_⟩:=hR;obtain⟨a,k⟩:=t;obtain⟨wv,ht,_⟩:=zcj tv;have:=zkI (s:=s) (zjQ hs wv) (fun f hm=>(zdj (zgG hfo f hm).1).1) 10 0 ht;exact⟨this.1,Nat.le_trans this.2 om⟩
 ·cases h
theorem zvI {w:List Data} (hs:WSmall w){funs:List Ft}{n:Nat}{f:Fu}{s:Str} (hf:GoodF n f) (h:(clF w funs f s).2=true):GoodF (n+1) (clF w funs f s).1/\(clF w funs f s).1.ty=f.ty:=by
 unfold clF at h ⊢;split
 ·rename_i hb;rw[if_pos hb] at h;cases h
 ·rename_i hb;rw[if_neg hb] at h;split
  ·rename_i c hc;rw[hc] at h;dsimp only at h;obtain⟨e,he⟩:=Option.isSome_iff_exists.1 h;have hce:=zrI hs hc;have hee:=zv0 hs he;rw[he];refine⟨⟨by simp[hf.1],by simp[hf.2.1],fun x hx=>?_,fun x hx=>?_⟩,rfl⟩
   ·rcases List.mem_append.1 hx with hx|hx
    ·exact hf.2.2.1 x hx
    ·rw[List.mem_singleton.1 hx];exact hce.2 c oi
   ·rcases List.mem_append.1 hx with hx|hx
    ·exact hf.2.2.2 x hx
    ·rw[List.mem_singleton.1 hx];exact hee
  ·rename_i hn;exfalso;split at h
   ·rename_i c hc;exact hn c hc
   ·cases h
theorem zrM {w:List Data}{s:Str}:∀ {n:Nat}{r:List Fu},pfT w s n=some r->r.length=n/\∀f∈r,GoodF 0 f
 |0,r,h=>by rw[pfT] at h;cases h;simp
 |n+1,r,h=>by
  rw[pfT] at h;cases e:pfT w s n with
  |none=>rw[e] at h;cases h
  |some r0=>
   rw[e] at h;dsimp only at h;split at h
   ·cases h
    obtain⟨h1,h2⟩:=zrM e;refine⟨by simp[h1],fun f hf=>?_⟩;rcases List.mem_append.1 hf with hf|hf
    ·exact h2 f hf
    ·rw[List.mem_singleton.1 hf];exact⟨rfl,rfl,fun _ h=>by simp at h,fun _ h=>by simp at h⟩
   ·cases h
theorem zs4 {w:List Data}{s:Str}{i:Nat} (hb:(ftP w (nth (pfP s i) 0)).2=false):∀ {n:Nat},i<n->pfT w s n=none
 |0,h=>by omega
 |n+1,h=>by
  rw[pfT];cases e:pfT w s n with
  |none=>rfl
  |some r=>
   by_cases hi:i=n
   ·subst hi;dsimp only;rw[if_neg (by rw[hb];simp)]
   ·rw[zs4 hb (show i<n by omega)] at e;cases e
theorem zrN {w:List Data}{s:Str}{n:Nat}{r:List Fu} (h:pfT w s n=some r) (hb:(ftP w (nth (pfP s n) 0)).2=true):pfT w s (n+1)=some (r++[⟨(ftP w (nth (pfP s n) 0)).1,[],[]⟩]):=by
 rw[pfT,h];dsimp only;rw[if_pos hb]
theorem zrL {w:List Data} (hs:WSmall w){funs:List Ft}{P:List Str}{f:Fu} (hf:GoodF 0 f):∀ {n:Nat}{g:Fu},pfK w funs P f n=some g->GoodF n g/\g.ty=f.ty
 |0,g,h=>by rw[pfK] at h;cases h;exact⟨hf,rfl⟩
 |n+1,g,h=>by
  rw[pfK] at h;cases e:pfK w funs P f n with
  |none=>rw[e] at h;cases h
  |some g0=>
   rw[e] at h;dsimp only at h;split at h
   ·rename_i hc;cases h
    obtain⟨h1,h2⟩:=zrL hs hf e;have:=zvI hs h1 hc;exact⟨this.1,this.2.trans h2⟩
   ·cases h
theorem zs3 {w:List Data}{funs:List Ft}{P:List Str}{f g:Fu}{i:Nat} (hg:pfK w funs P f i=some g) (hb:(clF w funs g (nth P (i+1))).2=false):∀ {n:Nat},i<n->pfK w funs P f n=none
 |0,h=>by omega
 |n+1,h=>by
  rw[pfK];by_cases hi:i=n
  ·subst hi;rw[hg];dsimp only;rw[if_neg (by rw[hb];simp)]
  ·rw[zs3 hg hb (show i<n by omega)]
theorem zmq {w:List Data}{funs:List Ft}{P:List Str}{f g:Fu}{n:Nat} (h:pfK w funs P f n=some g) (hb:(clF w funs g (nth P (n+1))).2=true):pfK w funs P f (n+1)=some (clF w funs g (nth P (n+1))).1:=by
 rw[pfK,h];dsimp only;rw[if_pos hb]
theorem zrK {w:List Data} (hs:WSmall w){s:Str}{raw:List Fu} (hr:∀f∈raw,GoodF 0 f):∀ {n:Nat}{l:List Fu},n<=raw.length->pfC w s raw n=some l->l.length=raw.length/\l.map Fu.ty=raw.map Fu.ty/\(∀i,n<=i->i<raw.length->nth l i=nth raw i)/\∀i,i<raw.length->∃m,m<=9/\GoodF m (nth l i)
 |0,l,_,h=>by
  rw[pfC] at h;cases h;exact⟨rfl,rfl,fun _ _ _=>rfl,fun i hi=>⟨0,by omega,hr _ (zaf hi)⟩⟩
 |n+1,l,hn,h=>by
  rw[pfC] at h;cases e:pfC w s raw n with
  |none=>rw[e] at h;cases h
  |some l0=>
   rw[e] at h;dsimp only at h;obtain⟨h1,h2,h3,h4⟩:=zrK hs hr od e;cases e2:pfK w (raw.map Fu.ty) (pfP s n) (nth l0 n) (kLim (pfP s n)) with
   |none=>rw[e2] at h;cases h
   |some g=>
    rw[e2] at h;cases h
    have hg0:GoodF 0 (nth l0 n):=by rw[h3 n od od];exact hr _ (zaf od)
    obtain⟨k1,k2⟩:=zrL hs hg0 e2;have hkl:kLim (pfP s n)<=9:=by unfold kLim;split<;>omega
    refine⟨by simp[h1], ?_,fun i hi hi2=>?_,fun i hi=>?_⟩
    ·rw[List.map_set,k2,<-h2];refine List.ext_getElem oi (fun i q1 q2=>?_);rw[List.getElem_set];split
     ·rename_i hin;subst hin;rw[List.getElem_map,zaJ od]
     ·rfl
    ·rw[zpI od];exact h3 i od hi2
    ·by_cases hin:i=n
     ·subst hin;rw[zik od];exact⟨_,hkl,k1⟩
     ·rw[zpI od];exact h4 i hi
theorem zox {L:List Fu}{i:Nat}{g:Fu} (h:i<L.length):cutC (zaN (L.set i g)) (i*6) 6=some [.d (.i g.ty.arg.data),.d (.i g.ty.arg.index),.d (.i g.ty.res.data),.d (.i g.ty.res.index),.d (zcg g.cls),.d (zbj g.bodies)]:=by
 rw[zuC (by rw[List.length_set];exact h),zik h];rfl
theorem zoO {L:List Fu}{i:Nat}{g e:Fu} (h:i<L.length):putC (zaN (L.set i g)) (i*6) [.d (.i e.ty.arg.data),.d (.i e.ty.arg.index),.d (.i e.ty.res.data),.d (.i e.ty.res.index),.d (zcg e.cls),.d (zbj e.bodies)]=some (zaN (L.set i e)):=by
 have:=zu9 (L:=L.set i g) (i:=i) (e:=e) (by rw[List.length_set];exact h);rw[List.set_set] at this;exact this
theorem zgm {α:Type} [Inhabited α]{l:List α}{i:Nat} (h:i<l.length):l.set i (nth l i)=l:=by
 rw[zaJ h];exact List.set_getElem_self h
theorem zhx {l:List Fu}{n:Nat} (h:n=l.length):(zaN l).take (n*6)=(l.map Fu.c).flatten.map .d:=by
 subst h;exact List.take_of_length_le (by rw[zpn];exact Nat.le_refl _)
theorem zfr {n:Nat}{l:List Fu} (h:n=l.length):zbS n 6 (zaN l)=some (l.map Fu.c):=by
 subst h;have:=zel (f:=Fu.c) (k:=6) (l:=l) (fun x _=>rfl);rw[show zaN l=l.flatMap fun x=>(Fu.c x).map .d by unfold zaN;rw[List.map_flatten,List.map_map];rfl];exact this
theorem zaD (l:List Fu):AV.idsL (zaN l)=[]:=by
 unfold zaN;generalize (l.map Fu.c).flatten=q;induction q with
 |nil=>rfl
 |cons x r ih=>show AV.ids (.d x)++AV.idsL (r.map AV.d)=[];rw[ih];rfl
theorem ziF {l:List Fu}{F:List Ft} (h:l.map Fu.ty=F) (hl:l.length<=1000000000000) (hne:l≠[]):FnD Tryz.prog 34 [.d (zbB l)] [] (.gt 1 (F.map Ft.c)) [(1,some (.tok (F.map Ft.c).length 4))]:=h ▸ zmD hl hne
theorem zhN {l:List Fu}{F:List Ft} (h:l.map Fu.ty=F) (hl:l.length<=1000000000000) (hne:l≠[]):FnD Tryz.prog 34 [.d (zbB l)] [] (.gt 33 (F.map Ft.c)) [(33,some (.tok (F.map Ft.c).length 4))]:=h ▸ zlP hl hne
theorem zgj {w:List Data}{s:Str}{raw l:List Fu}{n:Nat}{g:Fu} (h:pfC w s raw n=some l) (hk:pfK w (raw.map Fu.ty) (pfP s n) (nth l n) (kLim (pfP s n))=some g):pfC w s raw (n+1)=some (l.set n g):=by
 rw[pfC,h];dsimp only;rw[hk]
theorem zs2 {w:List Data}{s:Str}{raw l:List Fu}{i:Nat} (h:pfC w s raw i=some l) (hk:pfK w (raw.map Fu.ty) (pfP s i) (nth l i) (kLim (pfP s i))=none):∀ {n:Nat},i<n->pfC w s raw n=none
 |0,q=>by omega
 |n+1,q=>by
  rw[pfC];by_cases hi:i=n
  ·subst hi;rw[h];dsimp only;rw[hk]
  ·rw[zs2 h hk (show i<n by omega)]
section
variable {w:List Data}{s:Str}{raw l:List Fu}
theorem zzJ (h:zaI w=false):pfV w s=none:=by unfold pfV;rw[if_neg (by rw[h];simp)]
theorem zzI (h:pfT w s (zbF s)=none):pfV w s=none:=by unfold pfV;rw[h];split<;>rfl
theorem zwA (h:pfT w s (zbF s)=some raw) (h2:zcc w (raw.map Fu.ty)=false):pfV w s=none:=by unfold pfV;rw[h];dsimp only;split;rw[if_neg (by rw[h2];simp)];rfl
theorem zzH (h:pfT w s (zbF s)=some raw) (h2:pfC w s raw raw.length=none):pfV w s=none:=by unfold pfV;rw[h];dsimp only;rw[h2];split;split<;>rfl;rfl
theorem zwB (h:pfT w s (zbF s)=some raw) (h2:pfC w s raw raw.length=some l) (h3:¬(zb9 w l=true/\funT w l l.length=s)):pfV w s=none:=by unfold pfV;rw[h];dsimp only;rw[h2];dsimp only;rw[if_neg h3];split;split<;>rfl;rfl
theorem zwC (h0:zaI w=true) (h:pfT w s (zbF s)=some raw) (h1:zcc w (raw.map Fu.ty)=true) (h2:pfC w s raw raw.length=some l) (h3:zb9 w l=true) (h4:funT w l l.length=s):pfV w s=some l:=by
 unfold pfV;rw[if_pos h0,h];dsimp only;rw[if_pos h1,h2];dsimp only;rw[if_pos ⟨h3,h4⟩]
end
theorem zc3 {P:List Str}{u:Nat}:u<kLim P↔(u+1<P.length/\u+1<=9):=by
 unfold kLim;split<;>omega
theorem zmb {l:List Fu} (hl:l.length<=5) (h:∀i,i<l.length->∃m,m<=9/\GoodF m (nth l i)):FusOk l/\FusSz l/\∀f∈l,∀c∈f.cls,c.pat.size<=10000000:=by
 have h':∀f∈l,∃m,m<=9/\GoodF m f:=fun f hf=>by
  obtain⟨i,hi,rfl⟩:=List.getElem_of_mem hf;rw[<-zaJ hi];exact h i hi
 have hex:∀(es:List Ex),(∀e∈es,e.ok)->Exs.ok es:=by
  intro es;induction es with
  |nil=>intro _;trivial
  |cons x r ih=>intro q;exact⟨q x oi,ih (fun e he=>q e (by simp[he]))⟩
 refine⟨⟨by omega,fun f hf=>?_⟩,fun f hf=>?_,fun f hf c hc=>?_⟩
 ·obtain⟨m,hm,g1,g2,g3,g4⟩:=h' f hf;exact⟨⟨by omega,fun c hc=>(g3 c hc).1⟩,by omega,hex _ (fun e he=>(g4 e he).1)⟩
 ·obtain⟨m,hm,g1,g2,g3,g4⟩:=h' f hf;exact⟨fun c hc=>by have:=(g3 c hc).2;omega,fun e he=>by have:=(g4 e he).2;omega⟩
 ·obtain⟨m,hm,g1,g2,g3,g4⟩:=h' f hf;exact(g3 c hc).2
theorem og{p:Prop}(h:p:=by first|rfl|(simp only[zam,occH,occE,Res.ids,xai,List.nil_append,AV.idsL,AV.ids,zab,zaa,zag,zaq,xaf,List.map_nil,upC,zaD];rfl)):p:=h
theorem oo{p:Prop}(h:p:=by first|rfl|(simp only[zaH,List.all_cons,List.all_nil,zbo,za8,AV.idsL,AV.ids,zab,zaa,xaf,List.map_nil,zaD];rfl)):p:=h
theorem ua{p:Prop}(h:p:=by first|rfl|(simp only[zfh,zcb,AV.ids];rfl)):p:=h
theorem zlK {w:List Data} (hs:WSmall w){s:Str} (hsl:s.length<=400000):
  FnD Tryz.prog 58 [.d (zaj w),.d (.str s)] [] (.tup [.d (zbB ((pfV w s).getD [])),.d (.bool (pfV w s).isSome)]) []:=by
 have hwl:=hs.len;cases hwv:zaI w with
 |false=>
  have h0:=zfd hs;rw[hwv] at h0;rw[zzJ hwv];refine bd Tryz.f58 121 [] [] fun _ _ _ _ hk=>?_;refine xb7 sl24 .none Z (ev (wc zjo h0 Z Z ?_));refine ev ?_;apply sq<;>intro h1 h1p h1s;focus (refine rn0 (r2 Z Z) (.tup (qee ?_ ?_));all_goals (first|rfl|(simp[h1s,h1p];done)))
  exfalso;simp at *
 |true=>
  have h0:=zfd hs;rw[hwv] at h0;have hc1:FnD Tryz.prog 117 [.d (.str s),.d (.int .u8 59)] [] (.d (zcC (pfL s))) []:=zbq (s:=s) (c:=59) od;have hll:∀i,i<(pfL s).length->(nth (pfL s) i).length<=400000:=fun i hi=>Nat.le_trans (zct (c:=59) (s:=s) hi) hsl;have hc2:∀i,i<(pfL s).length->FnD Tryz.prog 117 [.d (.str (nth (pfL s) i)),.d (.int .u8 47)] [] (.d (zcC (pfP s i))) []:=fun i hi=>zbq (s:=nth (pfL s) i) (c:=47) (by have:=hll i hi;omega);have hp1:∀i,1<=(pfP s i).length:=fun i=>zgb 47 _ [];have hpl:∀i,i<(pfL s).length->∀j,j<(pfP s i).length->(nth (pfP s i) j).length<=400000:=fun i hi j hj=>Nat.le_trans (zct (c:=47) (s:=nth (pfL s) i) hj) (hll i hi);have hft:∀i,i<(pfL s).length->FnD Tryz.prog 120 [.d (zaj w),.d (.str (nth (pfP s i) 0))] [] (.tup [.agg [.d (.i (ftP w (nth (pfP s i) 0)).1.arg.data),.d (.i (ftP w (nth (pfP s i) 0)).1.arg.index),.d (.i (ftP w (nth (pfP s i) 0)).1.res.data),.d (.i (ftP w (nth (pfP s i) 0)).1.res.index)],.d (.bool (ftP w (nth (pfP s i) 0)).2)]) []:=fun i hi=>
   zn2 (by have:=ztW hwv;omega) (by have:=hpl i hi 0 (hp1 i);omega)
  have hlim:=fun i=>zu6 (s:=s) (i:=i);have hl5:zbF s<=5:=by
   unfold zbF;split
   ·omega
   ·split<;>omega
  have hno:=fun(i:Nat) (h:i<zbF s) (hb:(ftP w (nth (pfP s i) 0)).2=false)=>zzI (zs4 hb h);have hok:=fun(n:Nat) (r:List Fu) (h:pfT w s n=some r)=>zrM h;have hex:∀i:Nat,i<=zbF s->(¬i<(pfL s).length\/4<(i:Int)\/s=[])->i=zbF s:=fun i h1 h2=>by
   by_cases h3:i<zbF s
   ·obtain⟨⟨q1,q2⟩,q3⟩:=(hlim i).1 h3;rcases h2 with h2|h2|h2
    ·exact absurd q1 h2
    ·omega
    ·exact absurd h2 q3
   ·omega
  cases hT:pfT w s (zbF s) with
  |none=>
   refine bd Tryz.f58 121 [] [] fun _ _ _ _ hk=>?_;refine xb7 sl24 .none Z (ev (wc zjo h0 Z Z ?_));refine ev ?_;apply sq<;>intro h1 h1p h1s;exfalso;simp at *;refine xca 2 sl24 .none Z Z (ev (wc zb2 hc1 Z Z ?_));refine ev (xaB (ι:=Nat×List Fu) hk (fun x=>[(9,.d (.i (x.1:Int))),(7,.gv 2 (x.2.map Fu.c))]) [4,5,10,11,25,26,27,28,29,30,31,32,33,34,35,36,37,38,39,40,41,42,43,44,45,46,47,48,49,50,51,52,53,54,55,56,57,58] (fun x=>[(2,some (.tok ((x.2.map Fu.c)).length 6))]) (fun x=>x.1<=zbF s/\pfT w s x.1=some x.2/\x.2.length<=x.1) (fun x=>zbF s-x.1) (0,[]) ⟨by simp,Z,by simp⟩ ⟨⟨_,Z,xaU ?_⟩,⟨⟨_,Z,LeA.gvg ?_⟩,O⟩⟩ ⟨zac ?_,O⟩ (fun x=>rfl) (fun x hg1=>?_));iterate 3 focus (first|rfl|omega)
   refine evc [] [] ?_;apply sq<;>intro h2 h2p h2s<;>(try simp only[Q,xal,xac] at h2p);apply sq<;>intro h3 h3p h3s<;>(try simp only[Q,xal,xac] at h3p);apply sq<;>intro h4 h4p h4s<;>(try simp only[Q,xal,xac] at h4p);refine ixq zaO Z Z Z (zah (by first|omega|(have:=hp1 x.1;omega))) Z ?_;refine ev (wc zb2 (hc2 x.1 od) Z Z ?_);refine ixq (i:=0) zaO Z Z Z (zah (by first|omega|(have:=hp1 x.1;omega))) Z ?_;refine ev (wc zt1 (hft x.1 od) Z Z ?_);refine ev (ab 3010 tz31 ?_);refine so ty31 ?_;refine ev ?_;apply sq<;>intro h5 h5p h5s<;>(try simp only[Q,xal,xac] at h5p);refine rn0 (r2 Z Z) (.tup (qee ?_ ?_));rotate_left 2;refine bu [0] [_] st35 ?_;refine si [0] [_] sl24 tz35 ?_;refine xbq sl24 zz35 .none Z Z Z Z (za3 Z ow) ov ot ot ?_;refine ev (ar ?_);refine xaj ((x.1+1,x.2++[⟨(ftP w (nth (pfP s x.1) 0)).1,[],[]⟩])) ⟨(by
        have hi:x.1<zbF s:=(hlim x.1).2 ⟨⟨by omega,by omega⟩,by first|assumption|(simp_all;done)⟩;exact⟨by dsimp only;omega,zrN hg1.2.1 ol,by simp;omega⟩),(by
        have hi:x.1<zbF s:=(hlim x.1).2 ⟨⟨by omega,by omega⟩,by first|assumption|(simp_all;done)⟩;dsimp only;omega),sx ⟨⟨_,rfl,xaU ?_⟩,⟨⟨_,rfl,LeA.gvg ?_⟩,trivial⟩⟩ ⟨zac ?_,trivial⟩⟩
   iterate 3 focus (first|rfl|omega|(rw[xag];rfl)|(simp;done))
   exfalso;have e:=hex x.1 hg1.1 (by first|exact .inl od|exact .inr (.inl od)|exact .inr (.inr ol));have h9:=hg1.2.1;rw[e,hT] at h9;cases h9;refine sqF ?_;exfalso;have e:=hex x.1 hg1.1 (by first|exact .inl od|exact .inr (.inl od));have h9:=hg1.2.1;rw[e,hT] at h9;cases h9;refine sqF ?_;refine sqF ?_;exfalso;have e:=hex x.1 hg1.1 (by first|exact .inl od|exact .inr (.inl od));have h9:=hg1.2.1;rw[e,hT] at h9;cases h9;all_goals (first|rfl|(rw[hno x.1 ((hlim x.1).2 ⟨⟨by omega,by omega⟩,by first|assumption|(simp_all;done)⟩) ol];all_goals rfl))
  |some raw=>
   obtain⟨hrl,hrg⟩:=hok _ _ hT;cases raw with
   |nil=>
    have hl0:zbF s=0:=hrl.symm;have hty:=zfu (l:=[]) oi;have hfo:=zez (w:=w) (funs:=[]) od oi;have hfv:=zc9 hs (l:=[]) ⟨by simp,fun _ h=>by simp at h⟩ (fun _ h=>by simp at h);have htx:=fun(h:zb9 w []=true)=>zee hs (l:=[]) ⟨by simp,fun _ h=>by simp at h⟩ (fun _ h=>by simp at h) h;have m1:=zwA (w:=w) (s:=s) hT;have m2:=fun h=>zwB (w:=w) (s:=s) (l:=[]) hT rfl h;have m3:=fun a b c=>zwC (w:=w) (s:=s) (l:=[]) hwv hT a rfl b c;generalize pfV w s=R at *;refine bd Tryz.f58 121 [] [] fun _ _ _ _ hk=>?_;refine xb7 sl24 .none Z (ev (wc zjo h0 Z Z ?_));refine ev ?_;apply sq<;>intro h1 h1p h1s;exfalso;simp at *;refine xb8 2 sl24 .none Z Z (ev (wc zb2 hc1 Z Z ?_));refine ev (xaB (ι:=Unit) hk (fun x=>[(9,.d (.i ((0:Nat):Int))),(7,.gl 2 (([]:List Fu).map Fu.c))]) [4,5,10,11,25,26,27,28,29,30,31,32,33,34,35,36,37,38,39,40,41,42,43,44,45,46,47,48,49,50,51,52,53,54,55,56,57,58] (fun x=>[(2,some (.tok ((([]:List Fu).map Fu.c)).length 6))]) (fun x=>True) (fun x=>0) () O ⟨⟨_,Z,xaU ?_⟩,⟨⟨_,Z,LeA.glg ?_⟩,O⟩⟩ ⟨zac ?_,O⟩ (fun x=>rfl) (fun x hg1=>?_));iterate 3 focus (first|rfl|(simp;done))
    refine evc [] [] ?_;apply sq<;>intro h2 h2p h2s<;>(try simp only[Q,xal,xac] at h2p);apply sq<;>intro h3 h3p h3s<;>(try simp only[Q,xal,xac] at h3p);apply sq<;>intro h4 h4p h4s;try simp only[Q,xal,xac] at h4p
    focus (exfalso;have hi:=(hlim 0).2 ⟨⟨by omega,by omega⟩,by first|assumption|(simp_all;done)⟩;omega)
    refine Walk.call (cr:=[]) zfl hty Z .none Z Z (.cons (.gl _ _) .nil) O Z Z Z (wc zh9 hfo Z Z ?_);refine ev ?_;apply sq<;>intro h5 h5p h5s;refine rn0 (r2 Z Z) (.tup (qee ?_ ?_));rotate_left 2;refine xaB (ι:=Unit) hk (fun x=>[(12,.d (.i ((0:Nat):Int)))]) [4,5,13,14,15,16,65,66,67,68,69,70,71,72,73,74,75,76,77,78,79,80,81,82,83,84,85,86,87,88,89,90,91,92,93,94,95,96,97,98,99,100,101,102,103,104,105,106,107] (fun x=>[]) (fun x=>True) (fun x=>0) () O ⟨⟨_,Z,xaU ?_⟩,O⟩ O (fun x=>rfl) (fun x hg2=>?_);focus (first|rfl|(simp;done))
    refine evc [] [] ?_;apply sq<;>intro h6 h6p h6s;focus (exfalso;first|omega|(simp at h6p;done))
    refine Walk.call (cr:=[]) cal8 hfv Z .none Z Z (.cons (.refl _) (.cons (.gl _ _) .nil)) O Z Z Z (ev ?_);apply sq<;>intro h7 h7p h7s;refine sqT ?_;refine rn0 (r2 Z Z) (.tup (qee ?_ ?_));rotate_left 2;refine Walk.call (cr:=[]) ziN (htx ol) Z (.some Z Z h7) Z Z (.cons (.refl _) (.cons (.gl _ _) .nil)) O Z Z Z ?_;refine evs [] [(112,false)] ?_ ⟨⟨_,Z,h7⟩,O⟩;apply sq<;>intro h9 h9p h9s;refine rn0 (r2 Z Z) (.tup (qee ?_ ?_));rotate_left 2;try simp only[Q,xal,xac] at h9p
    refine rn0 (r2 Z Z) (.tup (qge ?_ ?_));rotate_left 2;refine sqF ?_;refine Walk.call (cr:=[]) zfl hty Z .none Z Z (.cons (.gl _ _) .nil) O Z Z Z (wc zh9 hfo Z Z ?_);refine ev ?_;apply sq<;>intro h11 h11p h11s<;>(try simp only[Q,xal,xac] at h11p);refine rn0 (r2 Z Z) (.tup (qee ?_ ?_));rotate_left 2;refine xaB (ι:=Unit) hk (fun x=>[(12,.d (.i ((0:Nat):Int)))]) [4,5,13,14,15,16,65,66,67,68,69,70,71,72,73,74,75,76,77,78,79,80,81,82,83,84,85,86,87,88,89,90,91,92,93,94,95,96,97,98,99,100,101,102,103,104,105,106,107] (fun x=>[]) (fun x=>True) (fun x=>0) () O ⟨⟨_,Z,xaU ?_⟩,O⟩ O (fun x=>rfl) (fun x hg2=>?_);focus (first|rfl|(simp;done))
    refine evc [] [] ?_;apply sq<;>intro h12 h12p h12s<;>(try simp only[Q,xal,xac] at h12p);focus (exfalso;first|omega|(simp at h12p;done))
    refine Walk.call (cr:=[]) cal8 hfv Z .none Z Z (.cons (.refl _) (.cons (.gl _ _) .nil)) O Z Z Z (ev ?_);apply sq<;>intro h13 h13p h13s<;>(try simp only[Q,xal,xac] at h13p);refine sqT ?_;refine rn0 (r2 Z Z) (.tup (qee ?_ ?_));rotate_left 2;refine Walk.call (cr:=[]) ziN (htx ol) Z (.some Z Z h13) Z Z (.cons (.refl _) (.cons (.gl _ _) .nil)) O Z Z Z ?_;refine evs [] [(112,false)] ?_ ⟨⟨_,Z,h13⟩,O⟩;apply sq<;>intro h15 h15p h15s<;>(try simp only[Q,xal,xac] at h15p);refine rn0 (r2 Z Z) (.tup (qee ?_ ?_));rotate_left 2;refine rn0 (r2 Z Z) (.tup (qge ?_ ?_));rotate_left 2;refine sqF ?_;refine sqF ?_;refine Walk.call (cr:=[]) zfl hty Z .none Z Z (.cons (.gl _ _) .nil) O Z Z Z (wc zh9 hfo Z Z ?_);refine ev ?_;apply sq<;>intro h17 h17p h17s<;>(try simp only[Q,xal,xac] at h17p);refine rn0 (r2 Z Z) (.tup (qee ?_ ?_));rotate_left 2;refine xaB (ι:=Unit) hk (fun x=>[(12,.d (.i ((0:Nat):Int)))]) [4,5,13,14,15,16,65,66,67,68,69,70,71,72,73,74,75,76,77,78,79,80,81,82,83,84,85,86,87,88,89,90,91,92,93,94,95,96,97,98,99,100,101,102,103,104,105,106,107] (fun x=>[]) (fun x=>True) (fun x=>0) () O ⟨⟨_,Z,xaU ?_⟩,O⟩ O (fun x=>rfl) (fun x hg2=>?_);focus (first|rfl|(simp;done))
    refine evc [] [] ?_;apply sq<;>intro h18 h18p h18s<;>(try simp only[Q,xal,xac] at h18p);focus (exfalso;first|omega|(simp at h18p;done))
    refine Walk.call (cr:=[]) cal8 hfv Z .none Z Z (.cons (.refl _) (.cons (.gl _ _) .nil)) O Z Z Z (ev ?_);apply sq<;>intro h19 h19p h19s<;>(try simp only[Q,xal,xac] at h19p);refine sqT ?_;refine rn0 (r2 Z Z) (.tup (qee ?_ ?_));rotate_left 2;refine Walk.call (cr:=[]) ziN (htx ol) Z (.some Z Z h19) Z Z (.cons (.refl _) (.cons (.gl _ _) .nil)) O Z Z Z ?_;refine evs [] [(112,false)] ?_ ⟨⟨_,Z,h19⟩,O⟩;apply sq<;>intro h21 h21p h21s<;>(try simp only[Q,xal,xac] at h21p);refine rn0 (r2 Z Z) (.tup (qee ?_ ?_));rotate_left 2;refine rn0 (r2 Z Z) (.tup (qge ?_ ?_));rotate_left 2;all_goals (first|rfl|(rw[m1 ol];all_goals rfl)|(rw[m3 ol ol ol];all_goals rfl)|(rw[m2 (fun q=>by first|(have q1:=q.1;simp_all;done)|(exact absurd q.2 ol))];all_goals rfl))
   |cons f0 r0=>
    have hne:(f0::r0:List Fu)≠[]:=by simp
    generalize hraw:(f0::r0:List Fu)=raw at *;clear hraw;have hgc:=fun(n:Nat) (l:List Fu) (q:n<=raw.length) (h:pfC w s raw n=some l)=>zrK hs hrg q h;have hll2:raw.length<=(pfL s).length:=by
     rw[hrl];unfold zbF;split
     ·omega
     ·split<;>omega
    have hfo:=zez (w:=w) (funs:=raw.map Fu.ty) od ot;have m0:=zwA (w:=w) (s:=s) hT;have m1:=fun h=>zzH (w:=w) (s:=s) hT h;have m2:=fun(l:List Fu) (h:pfC w s raw raw.length=some l) h3=>zwB (w:=w) (s:=s) (l:=l) hT h h3;have m3:=fun(l:List Fu) a (h:pfC w s raw raw.length=some l) b c=>zwC (w:=w) (s:=s) (l:=l) hwv hT a h b c;have hkk:=fun(P:List Str) (f:Fu) (h:GoodF 0 f) (n:Nat) (g:Fu) (q:pfK w (raw.map Fu.ty) P f n=some g)=>zrL hs h q;have hk9:∀P,kLim P<=9:=fun P=>by unfold kLim;split<;>omega
    have hset:∀(l:List Fu) (i:Nat) (g:Fu),i<l.length->g.ty=(nth l i).ty->l.map Fu.ty=raw.map Fu.ty->(l.set i g).map Fu.ty=raw.map Fu.ty:=fun l i g hi hg hl=>by
     rw[List.map_set,<-hl];refine List.ext_getElem oi (fun j q1 q2=>?_);rw[List.getElem_set];split
     ·rename_i hij;subst hij;rw[List.getElem_map,hg,zaJ hi]
     ·rfl
    have hcl:=fun(g:Fu) (m:Nat) (hm:m<=9) (h:GoodF m g) (t:Str) (q:t.length<=400000)=>zlN hs (funs:=raw.map Fu.ty) (f:=g) (s:=t) ot (by have:=h.1;omega) (by have:=h.2.1;omega) q;generalize pfV w s=R at *;refine bd Tryz.f58 121 [93] [13,22,26] fun _ _ _ _ hk=>?_;refine xb7 sl24 .none Z (evs [93] [] (Walk.call (cr:=[]) zjo h0 Z .none Z Z (LeL.refl _) O Z oo og ?_));refine evs [93] [] ?_;apply sq<;>intro h1 h1p h1s;exfalso;simp at *;refine xca 2 sl24 .none Z og ?_;refine evs [93] [] (Walk.call (cr:=[]) zb2 hc1 Z .none Z Z (LeL.refl _) O Z oo og ?_);refine evs [93] [] (xaB (ι:=Nat×List Fu) hk (fun x=>[(9,.d (.i (x.1:Int))),(7,.gv 2 (x.2.map Fu.c))]) [4,5,10,11,25,26,27,28,29,30,31,32,33,34,35,36,37,38,39,40,41,42,43,44,45,46,47,48,49,50,51,52,53,54,55,56,57,58] (fun x=>[(2,some (.tok ((x.2.map Fu.c)).length 6))]) (fun x=>x.1<=zbF s/\pfT w s x.1=some x.2/\x.2.length<=x.1) (fun x=>zbF s-x.1) (0,[]) ⟨by simp,Z,by simp⟩ ⟨⟨_,Z,xaU ?_⟩,⟨⟨_,Z,LeA.gvg ?_⟩,O⟩⟩ ⟨zac ?_,O⟩ (fun x=>rfl) (fun x hg1=>?_));iterate 3 focus (first|rfl|omega)
    refine evc [93] [13,22,26] ?_;apply sq<;>intro h2 h2p h2s<;>(try simp only[Q,xal,xac] at h2p);apply sq<;>intro h3 h3p h3s<;>(try simp only[Q,xal,xac] at h3p);apply sq<;>intro h4 h4p h4s<;>(try simp only[Q,xal,xac] at h4p);refine ixq zaO Z Z Z (zah (by first|omega|(have:=hp1 x.1;omega))) Z ?_;refine evs [93] [] (Walk.call (cr:=[]) zb2 (hc2 x.1 od) Z .none Z Z (LeL.refl _) O Z oo og ?_);refine ixq (i:=0) zaO Z Z Z (zah (by first|omega|(have:=hp1 x.1;omega))) Z ?_;refine evs [93] [] (Walk.call (cr:=[]) zt1 (hft x.1 od) Z .none Z Z (LeL.refl _) O Z oo og ?_);refine evs [93] [] (Walk.alloc (id:=3010) tz31 Z .none Z og og og ?_);refine so ty31 ?_;refine evs [93] [] ?_;apply sq<;>intro h5 h5p h5s<;>(try simp only[Q,xal,xac] at h5p);refine rn0 (r2 Z Z) (.tup (qee ?_ ?_));rotate_left 2;refine bu [0] [_] st35 ?_;refine si [0] [_] sl24 tz35 ?_;refine xbq sl24 zz35 .none Z Z Z Z (za3 Z ow) (by first|(intro x hx;simp at hx;subst hx;rfl)|exact zen _) ot ot ?_;refine evs [93] [] (ar ?_);refine xaj ((x.1+1,x.2++[⟨(ftP w (nth (pfP s x.1) 0)).1,[],[]⟩])) ⟨(by
         have hi:x.1<zbF s:=((hlim x.1).2 ⟨⟨by omega,by omega⟩,by first|assumption|(simp_all;done)⟩);exact⟨by dsimp only;omega,zrN hg1.2.1 ol,by simp;omega⟩),(by
         have hi:x.1<zbF s:=((hlim x.1).2 ⟨⟨by omega,by omega⟩,by first|assumption|(simp_all;done)⟩);dsimp only;omega),sx ⟨⟨_,rfl,xaU ?_⟩,⟨⟨_,rfl,LeA.gvg ?_⟩,trivial⟩⟩ ⟨zac ?_,trivial⟩⟩
    iterate 3 focus (first|rfl|omega|(rw[xag];rfl)|(simp;done))
    refine xaz hk 7 2 6 Z Z Z (fun hx6=>?_) (fun hx6=>?_);exfalso;have e1:x.1=zbF s:=hex x.1 hg1.1 (by first|exact .inl od|exact .inr (.inl od)|exact .inr (.inr ol));have h9:=hg1.2.1;rw[e1,hT] at h9;have h8:=Option.some.inj h9;exact hne (h8.trans (by simpa using hx6));have e1:x.1=zbF s:=hex x.1 hg1.1 (by first|exact .inl od|exact .inr (.inl od)|exact .inr (.inr ol));have eRaw:x.2=raw:=(by have h9:=hg1.2.1;rw[e1,hT] at h9;exact(Option.some.inj h9).symm);have hx2:x.2.length=raw.length:=(by rw[eRaw]);refine evc [93] [] (xbQ (id:=1) (id2:=30) (lr:=[(2,_)]) zfl (ziF (l:=x.2) (F:=raw.map Fu.ty) (by rw[eRaw]) od (by rw[eRaw];exact hne)) Z .none Z Z (.cons (.msB (k:=6) List.mem_cons_self (zen _) Z (zhx oi)) .nil) ⟨Z,O⟩ Z ua Z og ?_);refine Walk.call (cr:=[]) zh9 hfo Z .none Z Z (.cons (.refl _) (.cons (.gl _ _) .nil)) O Z oo og ?_;refine evs [93] [] ?_;apply sq<;>intro h7 h7p h7s;refine rn0 (r2 Z Z) (.tup (qee ?_ ?_));rotate_left 2;refine xaB (ι:=Nat×List Fu) hk (fun z=>[(12,.d (.i (z.1:Int)))]) [4,5,13,14,15,16,65,66,67,68,69,70,71,72,73,74,75,76,77,78,79,80,81,82,83,84,85,86,87,88,89,90,91,92,93,94,95,96,97,98,99,100,101,102,103,104,105,106,107] (fun z=>[(2,some (.box (zaN z.2)))]) (fun z=>z.1<=raw.length/\pfC w s raw z.1=some z.2) (fun z=>raw.length-z.1) (0,raw) ⟨by simp,Z⟩ ⟨⟨_,Z,xaU ?_⟩,O⟩ ⟨?_,O⟩ (fun x=>rfl) (fun z hg2=>?_);focus (first|rfl|omega)
    focus (first|rfl|exact xam (fun l=>some (Res.box (zaN l))) eRaw)
    refine evc [93] [13,22,26] ?_;apply sq<;>intro h8 h8p h8s<;>(try simp only[Q,xal,xac] at h8p);refine ixq zaO Z Z Z (zah (by first|omega|(have:=hp1 x.1;omega))) Z ?_;refine evs [93] [] (Walk.call (cr:=[]) zb2 (hc2 z.1 od) Z .none Z Z (LeL.refl _) O Z oo og ?_);refine evs [93] [] (xaB (ι:=Nat×Fu) hk (fun u=>[(14,.d (.i ((u.1:Int)+1)))]) [4,5,15,16,76,77,78,79,80,81,82,83,84,85,86,87,88,89,90,91,92,93,94,95,96,97,98,99,100,101,102,103,104,105,106,107] (fun u=>[(2,some (.box (zaN (z.2.set z.1 u.2))))]) (fun u=>u.1<=kLim (pfP s z.1)/\pfK w (raw.map Fu.ty) (pfP s z.1) (nth z.2 z.1) u.1=some u.2) (fun u=>kLim (pfP s z.1)-u.1) (0,nth z.2 z.1) ⟨by simp,Z⟩ ⟨⟨_,Z,xaU ?_⟩,O⟩ ⟨?_,O⟩ (fun x=>rfl) (fun u hg3=>?_));focus (first|rfl|omega)
    focus (first|rfl|exact xam (fun l=>some (Res.box (zaN l))) (zgm (by have:=hgc z.1 z.2 od hg2.2;omega)).symm)
    refine evc [93] [13,22,26] ?_;apply sq<;>intro h9 h9p h9s<;>(try simp only[Q,xal,xac] at h9p);apply sq<;>intro h10 h10p h10s<;>(try simp only[Q,xal,xac] at h10p);have hzr:z.1<raw.length:=od;have hzk:=hgc z.1 z.2 od hg2.2;have hz0:GoodF 0 (nth z.2 z.1):=(by rw[hzk.2.2.1 z.1 od hzr];exact hrg _ (zaf hzr));have huk:=hkk _ _ hz0 _ _ hg3.2;have hk9':=hk9 (pfP s z.1);have hse:=hset z.2 z.1 u.2 od huk.2 hzk.2.1;have hul:u.1<kLim (pfP s z.1):=zc3.2 ⟨by omega,by omega⟩;have hux:=zc3.1 hul;refine evc [93] [] (xbQ (id:=33) (id2:=31) (lr:=[(2,_)]) zfl (zhN (l:=z.2.set z.1 u.2) (F:=raw.map Fu.ty) hse ot (by intro q;have hq:=xam List.length q;rw[List.length_set] at hq;simp only[xak] at hq;omega)) Z .none Z Z (.cons (.msB (k:=6) List.mem_cons_self (zen _) ot (zhx ot)) .nil) ⟨Z,O⟩ Z ua Z og ?_);refine evd [93] [] (xbM (i:=z.1) sl24 .none Z Z Z Z ot ?_);refine xbS ty35 .none Z Z Z ((zox od)) ?_;refine evd [93] [] (Walk.idx (i:=((u.1+1:Nat))) zaO .none Z Z Z od (zah (by first|omega|(have:=hp1 x.1;omega))) Z ?_);refine evd [93] [] (Walk.call (cr:=[]) zqI (hcl u.2 u.1 od huk.1 (nth (pfP s z.1) (u.1+1)) (hpl z.1 od (u.1+1) od)) Z .none Z Z (.cons (.refl _) (.cons (.gl _ _) (.cons (.refl _) (.cons (.refl _) .nil)))) O Z oo og ?_);refine evd [93] [] (Walk.alloc (id:=3015) tz35 Z .none Z og og og ?_);refine so ty35 ?_;refine evd [93] [] (dr2 [33,31,3015] ?_ og);apply sq<;>intro h11 h11p h11s;refine rn0 (r2 Z Z) (.tup (qee ?_ ?_));rotate_left 2;refine xbM (i:=z.1) sl24 .none Z Z Z Z ot ?_;refine Walk.store ty35 .none Z Z Z Z Z Z oi ((zoO od)) ?_;apply tv;refine ar (xaj ((u.1+1,(clF w (raw.map Fu.ty) u.2 (nth (pfP s z.1) (u.1+1))).1)) ⟨⟨by dsimp only;omega,zmq hg3.2 ol⟩,ox,sx ⟨⟨_,Z,xaU ?_⟩,O⟩ ⟨?_,O⟩⟩);focus (first|rfl|omega)
    focus (first|rfl|exact xam (fun l=>some (Res.box (zaN l))) (zgm (by have:=hgc z.1 z.2 od hg2.2;omega)).symm)
    refine ar ?_;refine xaj ((z.1+1,z.2.set z.1 u.2)) ⟨⟨by dsimp only;omega,by
          have hue:u.1=kLim (pfP s z.1):=(by by_cases q:u.1<kLim (pfP s z.1);(have:=zc3.1 q;omega);omega);refine zgj hg2.2 ?_;rw[<-hue];exact hg3.2⟩,ox,sx ⟨⟨_,rfl,xaU ?_⟩,trivial⟩ ⟨?_,trivial⟩⟩
    focus (first|rfl|omega)
    focus (first|rfl|exact xam (fun l=>some (Res.box (zaN l))) eRaw)
    refine sqF ?_;refine ar ?_;refine xaj ((z.1+1,z.2.set z.1 u.2)) ⟨⟨by dsimp only;omega,by
          have hue:u.1=kLim (pfP s z.1):=(by by_cases q:u.1<kLim (pfP s z.1);(have:=zc3.1 q;omega);omega);refine zgj hg2.2 ?_;rw[<-hue];exact hg3.2⟩,ox,sx ⟨⟨_,rfl,xaU ?_⟩,trivial⟩ ⟨?_,trivial⟩⟩
    focus (first|rfl|omega)
    focus (first|rfl|exact xam (fun l=>some (Res.box (zaN l))) eRaw)
    have hze:z.1=raw.length:=od;have hC:pfC w s raw raw.length=some z.2:=(by rw[<-hze];exact hg2.2);have hzk:=hgc _ _ (Nat.le_refl _) hC;have hgd:=zmb (l:=z.2) od (fun i hi=>hzk.2.2.2 i od);refine xaA hk 7 2 _ 6 (es:=z.2.map Fu.c) Z Z (zfr ot) Z ?_;refine evc [93] [] (Walk.call (cr:=[]) cal8 (zc9 hs (l:=z.2) hgd.1 hgd.2.1) Z .none Z Z (LeL.refl _) O Z oo og ?_);refine evs [93] [] ?_;apply sq<;>intro h13 h13p h13s;refine sqT ?_;refine rn0 (r2 Z Z) (.tup (qee ?_ ?_));rotate_left 2;refine Walk.call (cr:=[]) ziN (zee hs (l:=z.2) hgd.1 hgd.2.2 ol) Z (.some Z Z h13) Z Z (LeL.refl _) O Z oo og ?_;refine evs [93] [(112,false)] ?_ ⟨⟨_,Z,h13⟩,O⟩;apply sq<;>intro h15 h15p h15s<;>(try simp only[Q,xal,xac] at h15p);refine rn0 (r2 Z Z) (.tup (qee ?_ ?_));rotate_left 2;refine rn0 (r2 Z Z) (.tup (qee ?_ ?_));rotate_left 2;refine sqF ?_;refine xaz hk 7 2 6 Z Z Z (fun hx17=>?_) (fun hx17=>?_);exfalso;have e1:x.1=zbF s:=hex x.1 hg1.1 (by first|exact .inl od|exact .inr (.inl od));have h9:=hg1.2.1;rw[e1,hT] at h9;have h8:=Option.some.inj h9;exact hne (h8.trans (by simpa using hx17));have e1:x.1=zbF s:=hex x.1 hg1.1 (by first|exact .inl od|exact .inr (.inl od));have eRaw:x.2=raw:=(by have h9:=hg1.2.1;rw[e1,hT] at h9;exact(Option.some.inj h9).symm);have hx2:x.2.length=raw.length:=(by rw[eRaw]);refine evc [93] [] (xbQ (id:=1) (id2:=30) (lr:=[(2,_)]) zfl (ziF (l:=x.2) (F:=raw.map Fu.ty) (by rw[eRaw]) od (by rw[eRaw];exact hne)) Z .none Z Z (.cons (.msB (k:=6) List.mem_cons_self (zen _) Z (zhx oi)) .nil) ⟨Z,O⟩ Z ua Z og ?_);refine Walk.call (cr:=[]) zh9 hfo Z .none Z Z (.cons (.refl _) (.cons (.gl _ _) .nil)) O Z oo og ?_;refine evs [93] [] ?_;apply sq<;>intro h18 h18p h18s<;>(try simp only[Q,xal,xac] at h18p);refine rn0 (r2 Z Z) (.tup (qee ?_ ?_));rotate_left 2;refine xaB (ι:=Nat×List Fu) hk (fun z=>[(12,.d (.i (z.1:Int)))]) [4,5,13,14,15,16,65,66,67,68,69,70,71,72,73,74,75,76,77,78,79,80,81,82,83,84,85,86,87,88,89,90,91,92,93,94,95,96,97,98,99,100,101,102,103,104,105,106,107] (fun z=>[(2,some (.box (zaN z.2)))]) (fun z=>z.1<=raw.length/\pfC w s raw z.1=some z.2) (fun z=>raw.length-z.1) (0,raw) ⟨by simp,Z⟩ ⟨⟨_,Z,xaU ?_⟩,O⟩ ⟨?_,O⟩ (fun x=>rfl) (fun z hg2=>?_);focus (first|rfl|omega)
    focus (first|rfl|exact xam (fun l=>some (Res.box (zaN l))) eRaw)
    refine evc [93] [13,22,26] ?_;apply sq<;>intro h19 h19p h19s<;>(try simp only[Q,xal,xac] at h19p);refine ixq zaO Z Z Z (zah (by first|omega|(have:=hp1 x.1;omega))) Z ?_;refine evs [93] [] (Walk.call (cr:=[]) zb2 (hc2 z.1 od) Z .none Z Z (LeL.refl _) O Z oo og ?_);refine evs [93] [] (xaB (ι:=Nat×Fu) hk (fun u=>[(14,.d (.i ((u.1:Int)+1)))]) [4,5,15,16,76,77,78,79,80,81,82,83,84,85,86,87,88,89,90,91,92,93,94,95,96,97,98,99,100,101,102,103,104,105,106,107] (fun u=>[(2,some (.box (zaN (z.2.set z.1 u.2))))]) (fun u=>u.1<=kLim (pfP s z.1)/\pfK w (raw.map Fu.ty) (pfP s z.1) (nth z.2 z.1) u.1=some u.2) (fun u=>kLim (pfP s z.1)-u.1) (0,nth z.2 z.1) ⟨by simp,Z⟩ ⟨⟨_,Z,xaU ?_⟩,O⟩ ⟨?_,O⟩ (fun x=>rfl) (fun u hg3=>?_));focus (first|rfl|omega)
    focus (first|rfl|exact xam (fun l=>some (Res.box (zaN l))) (zgm (by have:=hgc z.1 z.2 od hg2.2;omega)).symm)
    refine evc [93] [13,22,26] ?_;apply sq<;>intro h20 h20p h20s<;>(try simp only[Q,xal,xac] at h20p);apply sq<;>intro h21 h21p h21s<;>(try simp only[Q,xal,xac] at h21p);have hzr:z.1<raw.length:=od;have hzk:=hgc z.1 z.2 od hg2.2;have hz0:GoodF 0 (nth z.2 z.1):=(by rw[hzk.2.2.1 z.1 od hzr];exact hrg _ (zaf hzr));have huk:=hkk _ _ hz0 _ _ hg3.2;have hk9':=hk9 (pfP s z.1);have hse:=hset z.2 z.1 u.2 od huk.2 hzk.2.1;have hul:u.1<kLim (pfP s z.1):=zc3.2 ⟨by omega,by omega⟩;have hux:=zc3.1 hul;refine evc [93] [] (xbQ (id:=33) (id2:=31) (lr:=[(2,_)]) zfl (zhN (l:=z.2.set z.1 u.2) (F:=raw.map Fu.ty) hse ot (by intro q;have hq:=xam List.length q;rw[List.length_set] at hq;simp only[xak] at hq;omega)) Z .none Z Z (.cons (.msB (k:=6) List.mem_cons_self (zen _) ot (zhx ot)) .nil) ⟨Z,O⟩ Z ua Z og ?_);refine evd [93] [] (xbM (i:=z.1) sl24 .none Z Z Z Z ot ?_);refine xbS ty35 .none Z Z Z ((zox od)) ?_;refine evd [93] [] (Walk.idx (i:=((u.1+1:Nat))) zaO .none Z Z Z od (zah (by first|omega|(have:=hp1 x.1;omega))) Z ?_);refine evd [93] [] (Walk.call (cr:=[]) zqI (hcl u.2 u.1 od huk.1 (nth (pfP s z.1) (u.1+1)) (hpl z.1 od (u.1+1) od)) Z .none Z Z (.cons (.refl _) (.cons (.gl _ _) (.cons (.refl _) (.cons (.refl _) .nil)))) O Z oo og ?_);refine evd [93] [] (Walk.alloc (id:=3015) tz35 Z .none Z og og og ?_);refine so ty35 ?_;refine evd [93] [] (dr2 [33,31,3015] ?_ og);apply sq<;>intro h22 h22p h22s<;>(try simp only[Q,xal,xac] at h22p);refine rn0 (r2 Z Z) (.tup (qee ?_ ?_));rotate_left 2;refine xbM (i:=z.1) sl24 .none Z Z Z Z ot ?_;refine Walk.store ty35 .none Z Z Z Z Z Z oi ((zoO od)) ?_;apply tv;refine ar (xaj ((u.1+1,(clF w (raw.map Fu.ty) u.2 (nth (pfP s z.1) (u.1+1))).1)) ⟨⟨by dsimp only;omega,zmq hg3.2 ol⟩,ox,sx ⟨⟨_,Z,xaU ?_⟩,O⟩ ⟨?_,O⟩⟩);focus (first|rfl|omega)
    focus (first|rfl|exact xam (fun l=>some (Res.box (zaN l))) (zgm (by have:=hgc z.1 z.2 od hg2.2;omega)).symm)
    refine ar ?_;refine xaj ((z.1+1,z.2.set z.1 u.2)) ⟨⟨by dsimp only;omega,by
          have hue:u.1=kLim (pfP s z.1):=(by by_cases q:u.1<kLim (pfP s z.1);(have:=zc3.1 q;omega);omega);refine zgj hg2.2 ?_;rw[<-hue];exact hg3.2⟩,ox,sx ⟨⟨_,rfl,xaU ?_⟩,trivial⟩ ⟨?_,trivial⟩⟩
    focus (first|rfl|omega)
    focus (first|rfl|exact xam (fun l=>some (Res.box (zaN l))) eRaw)
    refine sqF ?_;refine ar ?_;refine xaj ((z.1+1,z.2.set z.1 u.2)) ⟨⟨by dsimp only;omega,by
          have hue:u.1=kLim (pfP s z.1):=(by by_cases q:u.1<kLim (pfP s z.1);(have:=zc3.1 q;omega);omega);refine zgj hg2.2 ?_;rw[<-hue];exact hg3.2⟩,ox,sx ⟨⟨_,rfl,xaU ?_⟩,trivial⟩ ⟨?_,trivial⟩⟩
    focus (first|rfl|omega)
    focus (first|rfl|exact xam (fun l=>some (Res.box (zaN l))) eRaw)
    have hze:z.1=raw.length:=od;have hC:pfC w s raw raw.length=some z.2:=(by rw[<-hze];exact hg2.2);have hzk:=hgc _ _ (Nat.le_refl _) hC;have hgd:=zmb (l:=z.2) od (fun i hi=>hzk.2.2.2 i od);refine xaA hk 7 2 _ 6 (es:=z.2.map Fu.c) Z Z (zfr ot) Z ?_;refine evc [93] [] (Walk.call (cr:=[]) cal8 (zc9 hs (l:=z.2) hgd.1 hgd.2.1) Z .none Z Z (LeL.refl _) O Z oo og ?_);refine evs [93] [] ?_;apply sq<;>intro h24 h24p h24s<;>(try simp only[Q,xal,xac] at h24p);refine sqT ?_;refine rn0 (r2 Z Z) (.tup (qee ?_ ?_));rotate_left 2;refine Walk.call (cr:=[]) ziN (zee hs (l:=z.2) hgd.1 hgd.2.2 ol) Z (.some Z Z h24) Z Z (LeL.refl _) O Z oo og ?_;refine evs [93] [(112,false)] ?_ ⟨⟨_,Z,h24⟩,O⟩;apply sq<;>intro h26 h26p h26s<;>(try simp only[Q,xal,xac] at h26p);refine rn0 (r2 Z Z) (.tup (qee ?_ ?_));rotate_left 2;refine rn0 (r2 Z Z) (.tup (qee ?_ ?_));rotate_left 2;refine sqF ?_;refine sqF ?_;refine xaz hk 7 2 6 Z Z Z (fun hx28=>?_) (fun hx28=>?_);exfalso;have e1:x.1=zbF s:=hex x.1 hg1.1 (by first|exact .inl od|exact .inr (.inl od));have h9:=hg1.2.1;rw[e1,hT] at h9;have h8:=Option.some.inj h9;exact hne (h8.trans (by simpa using hx28));have e1:x.1=zbF s:=hex x.1 hg1.1 (by first|exact .inl od|exact .inr (.inl od));have eRaw:x.2=raw:=(by have h9:=hg1.2.1;rw[e1,hT] at h9;exact(Option.some.inj h9).symm);have hx2:x.2.length=raw.length:=(by rw[eRaw]);refine evc [93] [] (xbQ (id:=1) (id2:=30) (lr:=[(2,_)]) zfl (ziF (l:=x.2) (F:=raw.map Fu.ty) (by rw[eRaw]) od (by rw[eRaw];exact hne)) Z .none Z Z (.cons (.msB (k:=6) List.mem_cons_self (zen _) Z (zhx oi)) .nil) ⟨Z,O⟩ Z ua Z og ?_);refine Walk.call (cr:=[]) zh9 hfo Z .none Z Z (.cons (.refl _) (.cons (.gl _ _) .nil)) O Z oo og ?_;refine evs [93] [] ?_;apply sq<;>intro h29 h29p h29s<;>(try simp only[Q,xal,xac] at h29p);refine rn0 (r2 Z Z) (.tup (qee ?_ ?_));rotate_left 2;refine xaB (ι:=Nat×List Fu) hk (fun z=>[(12,.d (.i (z.1:Int)))]) [4,5,13,14,15,16,65,66,67,68,69,70,71,72,73,74,75,76,77,78,79,80,81,82,83,84,85,86,87,88,89,90,91,92,93,94,95,96,97,98,99,100,101,102,103,104,105,106,107] (fun z=>[(2,some (.box (zaN z.2)))]) (fun z=>z.1<=raw.length/\pfC w s raw z.1=some z.2) (fun z=>raw.length-z.1) (0,raw) ⟨by simp,Z⟩ ⟨⟨_,Z,xaU ?_⟩,O⟩ ⟨?_,O⟩ (fun x=>rfl) (fun z hg2=>?_);focus (first|rfl|omega)
    focus (first|rfl|exact xam (fun l=>some (Res.box (zaN l))) eRaw)
    refine evc [93] [13,22,26] ?_;apply sq<;>intro h30 h30p h30s<;>(try simp only[Q,xal,xac] at h30p);refine ixq zaO Z Z Z (zah (by first|omega|(have:=hp1 x.1;omega))) Z ?_;refine evs [93] [] (Walk.call (cr:=[]) zb2 (hc2 z.1 od) Z .none Z Z (LeL.refl _) O Z oo og ?_);refine evs [93] [] (xaB (ι:=Nat×Fu) hk (fun u=>[(14,.d (.i ((u.1:Int)+1)))]) [4,5,15,16,76,77,78,79,80,81,82,83,84,85,86,87,88,89,90,91,92,93,94,95,96,97,98,99,100,101,102,103,104,105,106,107] (fun u=>[(2,some (.box (zaN (z.2.set z.1 u.2))))]) (fun u=>u.1<=kLim (pfP s z.1)/\pfK w (raw.map Fu.ty) (pfP s z.1) (nth z.2 z.1) u.1=some u.2) (fun u=>kLim (pfP s z.1)-u.1) (0,nth z.2 z.1) ⟨by simp,Z⟩ ⟨⟨_,Z,xaU ?_⟩,O⟩ ⟨?_,O⟩ (fun x=>rfl) (fun u hg3=>?_));focus (first|rfl|omega)
    focus (first|rfl|exact xam (fun l=>some (Res.box (zaN l))) (zgm (by have:=hgc z.1 z.2 od hg2.2;omega)).symm)
    refine evc [93] [13,22,26] ?_;apply sq<;>intro h31 h31p h31s<;>(try simp only[Q,xal,xac] at h31p);apply sq<;>intro h32 h32p h32s<;>(try simp only[Q,xal,xac] at h32p);have hzr:z.1<raw.length:=od;have hzk:=hgc z.1 z.2 od hg2.2;have hz0:GoodF 0 (nth z.2 z.1):=(by rw[hzk.2.2.1 z.1 od hzr];exact hrg _ (zaf hzr));have huk:=hkk _ _ hz0 _ _ hg3.2;have hk9':=hk9 (pfP s z.1);have hse:=hset z.2 z.1 u.2 od huk.2 hzk.2.1;have hul:u.1<kLim (pfP s z.1):=zc3.2 ⟨by omega,by omega⟩;have hux:=zc3.1 hul;refine evc [93] [] (xbQ (id:=33) (id2:=31) (lr:=[(2,_)]) zfl (zhN (l:=z.2.set z.1 u.2) (F:=raw.map Fu.ty) hse ot (by intro q;have hq:=xam List.length q;rw[List.length_set] at hq;simp only[xak] at hq;omega)) Z .none Z Z (.cons (.msB (k:=6) List.mem_cons_self (zen _) ot (zhx ot)) .nil) ⟨Z,O⟩ Z ua Z og ?_);refine evd [93] [] (xbM (i:=z.1) sl24 .none Z Z Z Z ot ?_);refine xbS ty35 .none Z Z Z ((zox od)) ?_;refine evd [93] [] (Walk.idx (i:=((u.1+1:Nat))) zaO .none Z Z Z od (zah (by first|omega|(have:=hp1 x.1;omega))) Z ?_);refine evd [93] [] (Walk.call (cr:=[]) zqI (hcl u.2 u.1 od huk.1 (nth (pfP s z.1) (u.1+1)) (hpl z.1 od (u.1+1) od)) Z .none Z Z (.cons (.refl _) (.cons (.gl _ _) (.cons (.refl _) (.cons (.refl _) .nil)))) O Z oo og ?_);refine evd [93] [] (Walk.alloc (id:=3015) tz35 Z .none Z og og og ?_);refine so ty35 ?_;refine evd [93] [] (dr2 [33,31,3015] ?_ og);apply sq<;>intro h33 h33p h33s<;>(try simp only[Q,xal,xac] at h33p);refine rn0 (r2 Z Z) (.tup (qee ?_ ?_));rotate_left 2;refine xbM (i:=z.1) sl24 .none Z Z Z Z ot ?_;refine Walk.store ty35 .none Z Z Z Z Z Z oi ((zoO od)) ?_;apply tv;refine ar (xaj ((u.1+1,(clF w (raw.map Fu.ty) u.2 (nth (pfP s z.1) (u.1+1))).1)) ⟨⟨by dsimp only;omega,zmq hg3.2 ol⟩,ox,sx ⟨⟨_,Z,xaU ?_⟩,O⟩ ⟨?_,O⟩⟩);focus (first|rfl|omega)
    focus (first|rfl|exact xam (fun l=>some (Res.box (zaN l))) (zgm (by have:=hgc z.1 z.2 od hg2.2;omega)).symm)
    refine ar ?_;refine xaj ((z.1+1,z.2.set z.1 u.2)) ⟨⟨by dsimp only;omega,by
          have hue:u.1=kLim (pfP s z.1):=(by by_cases q:u.1<kLim (pfP s z.1);(have:=zc3.1 q;omega);omega);refine zgj hg2.2 ?_;rw[<-hue];exact hg3.2⟩,ox,sx ⟨⟨_,rfl,xaU ?_⟩,trivial⟩ ⟨?_,trivial⟩⟩
    focus (first|rfl|omega)
    focus (first|rfl|exact xam (fun l=>some (Res.box (zaN l))) eRaw)
    refine sqF ?_;refine ar ?_;refine xaj ((z.1+1,z.2.set z.1 u.2)) ⟨⟨by dsimp only;omega,by
          have hue:u.1=kLim (pfP s z.1):=(by by_cases q:u.1<kLim (pfP s z.1);(have:=zc3.1 q;omega);omega);refine zgj hg2.2 ?_;rw[<-hue];exact hg3.2⟩,ox,sx ⟨⟨_,rfl,xaU ?_⟩,trivial⟩ ⟨?_,trivial⟩⟩
    focus (first|rfl|omega)
    focus (first|rfl|exact xam (fun l=>some (Res.box (zaN l))) eRaw)
    have hze:z.1=raw.length:=od;have hC:pfC w s raw raw.length=some z.2:=(by rw[<-hze];exact hg2.2);have hzk:=hgc _ _ (Nat.le_refl _) hC;have hgd:=zmb (l:=z.2) od (fun i hi=>hzk.2.2.2 i od);refine xaA hk 7 2 _ 6 (es:=z.2.map Fu.c) Z Z (zfr ot) Z ?_;refine evc [93] [] (Walk.call (cr:=[]) cal8 (zc9 hs (l:=z.2) hgd.1 hgd.2.1) Z .none Z Z (LeL.refl _) O Z oo og ?_);refine evs [93] [] ?_;apply sq<;>intro h35 h35p h35s<;>(try simp only[Q,xal,xac] at h35p);refine sqT ?_;refine rn0 (r2 Z Z) (.tup (qee ?_ ?_));rotate_left 2;refine Walk.call (cr:=[]) ziN (zee hs (l:=z.2) hgd.1 hgd.2.2 ol) Z (.some Z Z h35) Z Z (LeL.refl _) O Z oo og ?_;refine evs [93] [(112,false)] ?_ ⟨⟨_,Z,h35⟩,O⟩;apply sq<;>intro h37 h37p h37s<;>(try simp only[Q,xal,xac] at h37p);refine rn0 (r2 Z Z) (.tup (qee ?_ ?_));rotate_left 2;refine rn0 (r2 Z Z) (.tup (qee ?_ ?_));rotate_left 2;all_goals (first|rfl|(rw[hno x.1 ((hlim x.1).2 ⟨⟨by omega,by omega⟩,by first|assumption|(simp_all;done)⟩) ol];all_goals rfl)|(rw[m0 ol];all_goals rfl)|(rw[m1 (zs2 hg2.2 (zs3 hg3.2 ol hul) hzr)];all_goals rfl)|(rw[m3 z.2 ol hC ol ol];all_goals rfl)|(rw[m2 z.2 hC (fun q=>by first|(have q1:=q.1;have q2:zb9 w z.2=false:=ol;rw[q2] at q1;cases q1)|(exact absurd q.2 ol))];all_goals rfl))
def zdp:List (List Str):=[[[76,62,73,47,78,105,108,32,48,47,67,111,110,115,40,97,44,98,41,32,43,40,97,44,35,48,40,98,41,41,59,76,62,76,47,78,105,108,32,78,105,108,47,67,111,110,115,40,97,44,98,41,32,97,60,51,32,35,49,40,98,41,47,67,111,110,115,40,97,44,98,41,32,67,111,110,115,40,43,40,97,44,49,41,44,35,49,40,98,41,41],
  [76,62,76,47,78,105,108,32,78,105,108,47,67,111,110,115,40,97,44,98,41,32,67,111,110,115,40,97,44,35,48,40,98,41,41,59,76,62,73,47,67,111,110,115,40,97,44,95,41,32,97,59,73,62,76,47,97,32,67,111,110,115,40,97,44,35,50,40,97,41,41]],
 [[84,62,73,47,76,101,97,102,32,48,47,78,111,100,101,40,97,44,84,114,117,44,98,41,32,43,40,49,44,43,40,35,48,40,97,41,44,35,48,40,98,41,41,41,47,78,111,100,101,40,97,44,70,108,115,44,98,41,32,43,40,35,48,40,97,41,44,35,48,40,98,41,41,59,66,62,66,47,84,114,117,32,70,108,115,47,70,108,115,32,84,114,117,59,84,62,84,47,76,101,97,102,32,76,101,97,102,47,78,111,100,101,40,97,44,98,44,99,41,32,78,111,100,101,40,35,50,40,99,41,44,35,49,40,98,41,44,35,50,40,97,41,41]],
 [[69,49,62,73,47,78,117,109,40,97,41,32,97,47,65,100,100,40,97,44,98,41,32,43,40,35,48,40,97,41,44,35,48,40,98,41,41,47,73,102,40,97,44,98,44,99,41,32,43,40,35,48,40,98,41,44,35,48,40,99,41,41,59,69,50,62,66,47,66,111,108,40,97,41,32,97,47,73,102,40,97,44,98,44,99,41,32,35,49,40,98,41,59,69,62,73,47,78,117,109,40,97,41,32,97,47,95,32,48],
  [69,49,62,69,49,47,78,117,109,40,97,41,32,78,117,109,40,43,40,97,44,49,41,41,47,65,100,100,40,97,44,98,41,32,65,100,100,40,35,48,40,98,41,44,35,48,40,97,41,41,47,73,102,40,97,44,98,44,99,41,32,73,102,40,97,44,35,48,40,99,41,44,35,48,40,98,41,41]],
 [[79,62,73,47,78,111,110,32,48,47,83,111,109,40,97,41,32,97,59,80,62,73,47,80,97,105,114,40,97,44,98,41,32,43,40,35,48,40,97,41,44,35,48,40,98,41,41,59,73,62,80,47,97,32,97,60,53,32,80,97,105,114,40,83,111,109,40,97,41,44,78,111,110,41,47,97,32,80,97,105,114,40,78,111,110,44,83,111,109,40,97,41,41]],
 [[86,49,62,73,47,69,110,100,32,48,47,84,119,111,40,97,41,32,43,40,35,48,40,97,41,44,50,41,59,86,50,62,73,47,83,111,109,101,40,97,44,98,41,32,43,40,97,44,35,48,40,98,41,41,47,84,119,111,40,97,41,32,35,49,40,97,41]],
 [[66,62,66,47,84,114,117,32,70,108,115,47,70,108,115,32,35,48,40,84,114,117,41]],
 [[83,62,83,47,77,105,120,40,97,44,98,41,32,77,105,120,40,35,48,40,97,41,44,35,48,40,98,41,41,47,97,32,97,59,83,62,73,47,82,101,100,32,49,47,77,105,120,40,97,44,98,41,32,43,40,35,49,40,97,41,44,35,49,40,98,41,41,47,95,32,48]]]
abbrev zzC (l:List (List Str)):D:= .sl (l.map fun r=>[D.sl (r.map fun s=>[D.str s])])
theorem ztG:zdp.length=7:=rfl
theorem zrR:∀r∈zdp,1<=r.length/\r.length<=2/\∀s∈r,s.length<=300:=by decide
theorem zkc:FnD Tryz.prog 55 [] [] (.d (zzC zdp)) []:=by
 refine bd Tryz.f55 9 [] [] fun _ _ _ _ hk=>?_;refine si [0,1] [_,_] zaO tz9 ?_;refine si [0] [_] zaO tz9 ?_;refine si [0,1] [_,_] zaO tz9 ?_;refine si [0] [_] zaO tz9 ?_;refine si [0] [_] zaO tz9 ?_;refine si [0] [_] zaO tz9 ?_;refine si [0] [_] zaO tz9 ?_;refine si [0,1,2,3,4,5,6] [_,_,_,_,_,_,_] zwG zzR ?_;refine ev (rq ?_);rotate_left;all_goals (rfl)
def zg6 (b:Str):List Data:=zvz b 0
def zqp (b:Str):Str:=nth (nth zdp (zax b 0 7).toNat) (zax b 1 (((nth zdp (zax b 0 7).toNat).map fun s=>[D.str s]).length:Int)).toNat
def zlk (b:Str):List Fu:=(pfV (zg6 b) (zqp b)).getD []
theorem zv1 {w:List Data} (hs:WSmall w){s:Str}:(((pfV w s).getD []).length<=5)/\∀f∈(pfV w s).getD [],∃m,m<=9/\GoodF m f:=by
 cases h:pfV w s with
 |none=>exact⟨by simp,fun f hf=>by simp at hf⟩
 |some l=>
  unfold pfV at h;split at h
  ·cases e:pfT w s (zbF s) with
   |none=>rw[e] at h;cases h
   |some raw=>
    rw[e] at h;dsimp only at h;obtain⟨h1,h2⟩:=zrM e;have hl5:zbF s<=5:=by
     unfold zbF;split
     ·omega
     ·split<;>omega
    split at h
    ·cases e2:pfC w s raw raw.length with
     |none=>rw[e2] at h;cases h
     |some l2=>
      rw[e2] at h;dsimp only at h;split at h
      ·cases h
       obtain⟨q1,q2,q3,q4⟩:=zrK hs h2 (Nat.le_refl _) e2;refine⟨by show l.length<=5;omega,fun f hf=>?_⟩;obtain⟨i,hi,rfl⟩:=List.getElem_of_mem (show f∈l from hf);rw[<-zaJ hi];exact q4 i od
      ·cases h
    ·cases h
  ·cases h
theorem zn0 {b:Str} (hb:b.length<=2000):
  FnD Tryz.prog 25 [.ref 900 0] [(900,some (rdB b 0))] (.tup [.d (zaj (zg6 b)),.d (zbB (zlk b))]) [(900,some (rdB b 2))]:=by
 have h7:=zwD b 0;have hlen7:=ztG;have hr:=zrR _ (zaf (l:=zdp) (i:=(zax b 0 7).toNat) od);have hp1:=zbu (b:=b) (p:=0) (n:=7) hb od od;have hp2:=zbu (b:=b) (p:=1) (n:=(((nth zdp (zax b 0 7).toNat).map fun s=>[D.str s]).length:Int)) hb od ot;have hb2:=zhU (b:=b) (p:=1) (n:=(((nth zdp (zax b 0 7).toNat).map fun s=>[D.str s]).length:Int)) ot;have hb1:=zhU (b:=b) (p:=0) (n:=7) od;have hW:zg6 b=(zeL (nth zf4 (zax b 0 7).toNat)).1:=rfl;have hS:zqp b=nth (nth zdp (zax b 0 7).toNat) (zax b 1 (((nth zdp (zax b 0 7).toNat).map fun s=>[D.str s]).length:Int)).toNat:=rfl;have hF:zlk b=(pfV (zg6 b) (zqp b)).getD []:=rfl;rw[hF];have hsm:WSmall (zg6 b):=zh3;obtain⟨n0,hn0⟩:=Int.eq_ofNat_of_zero_le hb1.1;rw[hn0] at hp1 hp2 hb1 hb2 hW hS hr h7;simp only[Int.toNat_natCast] at hp2 hb2 hW hS hr h7;obtain⟨n2,hn2⟩:=Int.eq_ofNat_of_zero_le hb2.1;rw[hn2] at hp2 hb2 hS;simp only[Int.toNat_natCast] at hS;have hb2':n2<(nth zdp n0).length:=by have:=hb2.2;simp at this;omega
 have hpw:=zk1 (s:=nth zf4 n0) (by have:=zol (i:=n0) od;omega);rw[<-hW] at hpw;have hpf:=zlK hsm (s:=nth (nth zdp n0) n2) (by have:=hr.2.2 _ (zaf hb2');omega);rw[<-hS] at hpf;have ht8:=ztQ;have hpr:=zkc;have htx:=zoa;rw[hS] at *;clear hS hW hF hsm hn0 hn2;generalize pfV (zg6 b) (nth (nth zdp n0) n2)=o at *;generalize (zeL (nth zf4 n0)).2=b0 at *;generalize zg6 b=w at *;rw[show(7:Int)=((zdp.map fun r=>[D.sl (r.map fun s=>[D.str s])]).length:Int) from rfl] at hp1;generalize hP:zdp=P at *;generalize hX:zf4=X at *;refine bd Tryz.f25 40 [] [] fun _ _ _ _ hk=>?_;refine wc zwn hpr Z Z ?_;refine ev (wd zd7 hp1 Z Z ⟨Z,O⟩ ?_);refine ev (wc zzk htx Z Z ?_);refine ev (ixq (i:=n0) zaO Z Z Z (zah od) Z ?_);refine ev (wc zzj hpw Z Z ?_);refine ev (wc zwn hpr Z Z ?_);refine ev (ixq (i:=n0) zwG Z Z Z (zah od) Z ?_);refine ev (wd zd7 hp2 Z Z ⟨Z,O⟩ ?_);refine ixq (i:=n2) zaO Z Z Z (zah od) Z ?_;refine ev (wc zzl hpf Z Z ?_);refine ev (rn [(900,some (rdB b 2))] (r2 Z Z) (.tup (qee ?_ ?_)) ⟨Z,Z⟩ (SubO.get ⟨.inr ?_,⟨.inl Z,O⟩⟩) (zaQ Z));rotate_left 3;all_goals (first|((rfl);done)|(rfl))
theorem xaK {l:List Ex}:∀x,x∈Ex.cs l->x.length=4:=by
 intro x hx;rw[xaH] at hx;obtain⟨y,_,rfl⟩:=List.mem_map.1 hx;rfl
def mutE (b:Str):Nat->Nat->Ex->Option (Ex×Nat)
 |0,_,_=>none
 |n+1,p,v=>
  if zax b p 24=0 then some (.mk (numV b (p+1) [0,6,1,2,5]) v.n v.ctor v.kids,p+2)
  else if zax b p 24=1 then some (.mk v.op (numV b (p+1) [10,-1,3]) v.ctor v.kids,p+2)
  else if zax b p 24=2 then some (.mk v.op v.n v.ctor (v.kids++[.mk 1 0 0 []]),p+1)
  else if zax b p 24=3 then
   match v.kids with
   | []=>some (.mk v.op v.n v.ctor v.kids,p+1)
   |k::r=>
    match mutE b n (p+1) k with
    |none=>none
    |some (k1,p1)=>
     match mutE b n p1 k1 with
     |none=>none
     |some (k2,p2)=>some (.mk v.op v.n v.ctor (k2::r),p2)
  else some (.mk v.op v.n v.ctor v.kids,p+1)
theorem xaQ:∀a b:List Ex,Exs.size (a++b)=Exs.size a+Exs.size b
 | [],b=>by simp[Exs.size]
 |x::r,b=>by simp only[xai,Exs.size,xaQ r b];omega
theorem xaN (a n c:Int) (k:List Ex):(Ex.mk a n c k).size=1+Exs.size k:=rfl
theorem zuV {b:Str}{n p:Nat}{v:Ex}{k:Ex}{r:List Ex} (h:zax b p 24=3) (hk:v.kids=k::r){k1 k2:Ex}{p1 p2:Nat} (h1:mutE b n (p+1) k=some (k1,p1)) (h2:mutE b n p1 k1=some (k2,p2)):
  mutE b (n+1) p v=some (.mk v.op v.n v.ctor (k2::r),p2):=by
 simp only[mutE];rw[if_neg od,if_neg od,if_neg od,if_pos h,hk];simp only[h1,h2]
theorem zoN {b:Str}{n p:Nat}{v:Ex}{k:Ex}{r:List Ex} (h:zax b p 24=3) (hk:v.kids=k::r){v':Ex}{q:Nat} (hm:mutE b (n+1) p v=some (v',q)):
  ∃k1 p1 k2,mutE b n (p+1) k=some (k1,p1)/\mutE b n p1 k1=some (k2,q)/\v' = .mk v.op v.n v.ctor (k2::r):=by
 simp only[mutE] at hm;rw[if_neg od,if_neg od,if_neg od,if_pos h,hk] at hm;cases h1:mutE b n (p+1) k with
 |none=>simp[h1] at hm
 |some x=>
  obtain⟨k1,p1⟩:=x;cases h2:mutE b n p1 k1 with
  |none=>simp[h1,h2] at hm
  |some y=>
   obtain⟨k2,p2⟩:=y;simp only[h1,h2,xae,Prod.mk.injEq] at hm;obtain⟨rfl,rfl⟩:=hm;exact⟨k1,p1,k2,rfl,h2,rfl⟩
theorem zfB {b:Str}:∀ {n:Nat}{p:Nat}{v:Ex}{x:Ex×Nat},mutE b n p v=some x->∀m,n<=m->mutE b m p v=some x
 |0,p,v,x,h,m,_=>by simp[mutE] at h
 |n+1,p,v,x,h,0,hm=>by omega
 |n+1,p,v,x,h,m+1,hm=>by
  by_cases h3:zax b p 24=3
  ·cases hk:v.kids with
   |nil=>simp only[mutE] at h ⊢;rw[if_neg od,if_neg od,if_neg od,if_pos h3,hk] at h ⊢;exact h
   |cons k r=>
    obtain⟨v',q⟩:=x;obtain⟨k1,p1,k2,h1,h2,rfl⟩:=zoN h3 hk h;exact zuV h3 hk (zfB h1 m od) (zfB h2 m od)
  ·simp only[mutE] at h ⊢;split at h
   ·rename_i c;rw[if_pos c];exact h
   ·rename_i c;rw[if_neg c];split at h
    ·rename_i c;rw[if_pos c];exact h
    ·rename_i c;rw[if_neg c];split at h
     ·rename_i c;rw[if_pos c];exact h
     ·rename_i c;rw[if_neg c,if_neg h3];exact h
theorem zdy {b:Str}:∀ {n:Nat}{p:Nat}{v v':Ex}{q:Nat},mutE b n p v=some (v',q)->p<q/\v'.size<=v.size+(q-p)
 |0,p,v,v',q,h=>by simp[mutE] at h
 |n+1,p,v,v',q,h=>by
  have hv:=xaM v;by_cases h3:zax b p 24=3
  ·cases hk:v.kids with
   |nil=>
    simp only[mutE] at h;rw[if_neg od,if_neg od,if_neg od,if_pos h3,hk] at h;simp only[xae,Prod.mk.injEq] at h;obtain⟨rfl,rfl⟩:=h;rw[xaN];simp only[Exs.size];omega
   |cons k r=>
    obtain⟨k1,p1,k2,h1,h2,rfl⟩:=zoN h3 hk h;have a1:=zdy h1;have a2:=zdy h2;rw[hk] at hv;rw[xaN];simp only[Exs.size] at hv ⊢;omega
  ·simp only[mutE] at h;split at h
   ·simp only[xae,Prod.mk.injEq] at h;obtain⟨rfl,rfl⟩:=h;rw[xaN];omega
   split at h
   ·simp only[xae,Prod.mk.injEq] at h;obtain⟨rfl,rfl⟩:=h;rw[xaN];omega
   split at h
   ·simp only[xae,Prod.mk.injEq] at h;obtain⟨rfl,rfl⟩:=h;rw[xaN,xaQ];simp only[Exs.size,Ex.size];omega
   ·simp only[xae,Prod.mk.injEq] at h;obtain⟨rfl,rfl⟩:=h;rw[xaN];omega
theorem zpD {b:Str}:∀(m:Nat) (p:Nat) (v:Ex),sU (uP b) p m<= -1->∃n v' q,mutE b n p v=some (v',q)/\q<=p+m/\ -1<=sU (uP b) p (q-p):=by
 intro m;induction m using Nat.strongRecOn with
 |_ m ih=>
  intro p v hm;cases m with
  |zero=>simp[sU] at hm
  |succ m=>
   simp only[sU] at hm;have hu:uP b p=uv (zax b p 24):=rfl;have hub:=zoo (zax b (p+1) 24);by_cases h0:zax b p 24=0\/zax b p 24=1
   ·have hu0:uP b p=0:=by rw[hu];unfold uv;rw[if_neg od,if_pos h0]
    cases m with
    |zero=>simp only[sU] at hm;omega
    |succ m=>
     have hs : -1<=sU (uP b) p (p+2-p):=by
      rw[show p+2-p=2 by omega];show -1<=uP b p+(uP b (p+1)+0)
      have:uP b (p+1)=uv (zax b (p+1) 24):=rfl;omega
     rcases h0 with h0|h0
     ·exact⟨1,_,p+2,by simp only[mutE];rw[if_pos h0],by omega,hs⟩
     ·exact⟨1,_,p+2,by simp only[mutE];rw[if_neg od,if_pos h0],by omega,hs⟩
   ·rw[not_or] at h0;by_cases h3:zax b p 24=3
    ·have hu3:uP b p=1:=by rw[hu];unfold uv;rw[if_pos h3]
     cases hk:v.kids with
     |nil=>
      refine⟨1,_,p+1,by simp only[mutE];rw[if_neg od,if_neg od,if_neg od,if_pos h3,hk],by omega, ?_⟩;rw[show p+1-p=1 by omega];show -1<=uP b p+0
      omega
     |cons k r=>
      obtain⟨n1,k1,p1,a1,a2,a3⟩:=ih m od (p+1) k od;have a4:=(zdy a1).1;have e1:=zhW (uP b) (p1-(p+1)) (p+1+m-p1) (p+1);rw[show p1-(p+1)+(p+1+m-p1)=m by omega,show p+1+(p1-(p+1))=p1 by omega] at e1;obtain⟨n2,k2,p2,b1,b2,b3⟩:=ih (p+1+m-p1) od p1 k1 od;have b4:=(zdy b1).1;refine⟨max n1 n2+1,_,p2,zuV h3 hk (zfB a1 _ (Nat.le_max_left _ _)) (zfB b1 _ (Nat.le_max_right _ _)),by omega, ?_⟩;have e2:=zhW (uP b) (p1-(p+1)) (p2-p1) (p+1);rw[show p+1+(p1-(p+1))=p1 by omega] at e2;rw[show p2-p=(p1-(p+1)+(p2-p1))+1 by omega];simp only[sU];omega
    ·have hs : -1<=sU (uP b) p (p+1-p):=by
      rw[show p+1-p=1 by omega];show -1<=uP b p+0
      have:=(zoo (zax b p 24)).1;omega
     by_cases h2:zax b p 24=2
     ·exact⟨1,_,p+1,by simp only[mutE];rw[if_neg h0.1,if_neg h0.2,if_pos h2],by omega,hs⟩
     ·exact⟨1,_,p+1,by simp only[mutE];rw[if_neg h0.1,if_neg h0.2,if_neg h2,if_neg h3],by omega,hs⟩
mutual
theorem Ex.ok_sz:∀v:Ex,v.size<=1000000000000->v.ok
 | .mk a n c ks,h=>by
  have h1:1+Exs.size ks<=1000000000000:=h;exact⟨by have:=xaO ks;omega,Exs.ok_sz ks od⟩
theorem Exs.ok_sz:∀l:List Ex,Exs.size l<=1000000000000->Exs.ok l
 | [],_=>trivial
 |v::r,h=>by
  have h1:v.size+Exs.size r<=1000000000000:=h;exact⟨Ex.ok_sz v od,Exs.ok_sz r od⟩
theorem xaO:∀l:List Ex,l.length<=Exs.size l
 | []=>Nat.zero_le _
 |v::r=>by
  have h1:=xaO r;have h2:=xaM v;show r.length+1<=v.size+Exs.size r
  omega
end
theorem Ex.cs_app (a b:List Ex):Ex.cs (a++b)=Ex.cs a++Ex.cs b:=by rw[xaI,xaI,xaI,xag]
theorem zdW {b:Str} (hb:b.length<=2000):∀(n:Nat){p:Nat}{v v':Ex}{q:Nat},mutE b n p v=some (v',q)->v.size+(q-p)<=1000000000->q<=1000000000->
  FnD Tryz.prog 62 [.ref 900 0,.agg [.d (.i v.op),.d (.i v.n),.d (.i v.ctor),.d (zbj v.kids)]] [(900,some (rdB b p))] (.agg [.d (.i v'.op),.d (.i v'.n),.d (.i v'.ctor),.d (zbj v'.kids)]) [(900,some (rdB b q))]
 |0,p,v,v',q,h,_,_=>by simp[mutE] at h
 |n+1,p,v,v',q,hm,hsz,hq=>by
  have hpq:=zdy hm;have hvs:=xaM v;have hkl:=xaO v.kids;have hcl:=xaJ v.kids;by_cases hn3:zax b p 24=3/\v.kids≠[]
  ·cases hk:v.kids with
   |nil=>exact absurd hk hn3.2
   |cons y r=>
    obtain⟨k1,p1,k2,h1,h2,rfl⟩:=zoN hn3.1 hk hm;have a1:=zdy h1;have a2:=zdy h2;have hc3:=hn3.1;rw[hk] at hvs hkl hcl;simp only[Exs.size,xab] at hvs hkl hcl;have i1:=zdW hb n h1 od od;have i2:=zdW hb n h2 od od;have hcs:Ex.cs (y::r)=y.cc::Ex.cs r:=by show y.c::Ex.cs r=_;rw[xaG]
    have hrl:(Ex.cs (y::r)).length=(Ex.cs r).length+1:=by rw[hcs];rfl
    clear hm;refine bd Tryz.f62 57 [43,52] [11,12] fun _ _ _ _ hk=>?_;refine bx 3003 ?_;refine ab 3004 tz40 ?_;apply tv;refine xca 1 sl33 .none Z Z (evd [43,52] [] (xbq sl33 zz40 .none Z Z Z Z (za3 Z o8) (by intro x hx;exact xaK x hx) (by simp[xaJ];omega) (by simp[xaJ];omega) ?_));refine bu [0,1,2,3] [_,_,_,_] st40 ?_;refine ab 3005 tz40 ?_;refine so ty40 ?_;refine dr (wd zd7 (zbu (p:=p) (n:=24) hb od od) Z Z ⟨Z,O⟩ ?_);apply tv;apply sq<;>intro h1 h1p h1s;try simp only[Q,xaJ] at h1p
    exfalso;omega;apply sq<;>intro h2 h2p h2s;try simp only[Q,xaJ] at h2p
    exfalso;omega;apply sq<;>intro h3 h3p h3s;try simp only[Q,xaJ] at h3p
    exfalso;omega;apply sq<;>intro h4 h4p h4s;refine xbP sl33 .none Z Z (evs [43,52] [] ?_);apply sq<;>intro h5 h5p h5s;refine CWp.fixVB 3005 3 1 4 Z Z Z Z ow (by rw[hcs];simp) ?_;refine evc [43,52] [] (xbM (i:=0) sl33 .none Z Z Z Z ot ?_);refine xbS ty40 .none Z Z Z ((cut0 hcs Z)) (wd zql i1 Z Z ⟨Z,O⟩ ?_);refine wd zql i2 Z Z ⟨Z,O⟩ ?_;refine xbM (i:=0) sl33 .none Z Z Z Z ot ?_;refine Walk.store ty40 .none Z Z Z Z Z Z oi ((put0 hcs Z)) ?_;refine dr (CWp.frzC hk 3005 3 1 _ 4 Z Z Z Z Z (by rw[List.nil_append,hrl];exact zqY rfl rfl (fun x hx=>xaK x hx)) Z ?_);refine evc [43,52] [] (so ty40 ?_);apply tv;refine rn [(900,some (rdB b q))] (ra ty40) (.agg (qeeee ?_ ?_ ?_ ?_)) ⟨Z,Z⟩ (SubO.get ⟨.inr ?_,⟨.inl Z,O⟩⟩) (zaQ Z);rotate_left 5;try simp only[Q,xaJ] at h5p
    exfalso;rw[List.nil_append,hrl] at h5p;omega;try simp only[Q,xaJ] at h4p
    exfalso;omega;all_goals (((first|rfl|(show D.sl _=D.sl (Ex.cs (k2::r));rw[show Ex.cs (k2::r)=k2.cc::Ex.cs r by show k2.c::Ex.cs r=_;rw[xaG]]));done))
  ·simp only[mutE] at hm;refine bd Tryz.f62 57 [] [] fun _ _ _ _ hk=>?_;refine bx 3003 ?_;refine ab 3004 tz40 ?_;apply tv;refine xb8 1 sl33 .none Z Z (evd [] [] (ap sl33 zz40 Z Z Z (by(intro x hx;exact xaK x hx)) (by simp[xaJ];omega) ?_));refine bu [0,1,2,3] [_,_,_,_] st40 ?_;refine ab 3005 tz40 ?_;refine so ty40 ?_;refine dr (wd zd7 (zbu (p:=p) (n:=24) hb od od) Z Z ⟨Z,O⟩ ?_);apply tv;apply sq<;>intro h1 h1p h1s<;>(try simp only[Q,xaJ] at h1p);rw[if_pos od] at hm;simp only[xae,Prod.mk.injEq] at hm;obtain⟨hv',hq'⟩:=hm;refine si [0,1,2,3,4] [_,_,_,_,_] sl37 tz3 ?_;refine wd ztk (ziM (p:=p+1) (l:=[0,6,1,2,5]) hb od oi oi) Z Z ⟨Z,O⟩ ?_;refine ev (so ty3 ?_);apply tv;refine so ty40 ?_;apply tv;refine rn [(900,some (rdB b q))] (ra ty40) (.agg (qeeeg ?_ ?_ ?_ ?_)) ⟨Z,Z⟩ (SubO.get ⟨.inr ?_,⟨.inl Z,O⟩⟩) (zaQ Z);rotate_left 5;apply sq<;>intro h2 h2p h2s<;>(try simp only[Q,xaJ] at h2p);rw[if_neg od,if_pos od] at hm;simp only[xae,Prod.mk.injEq] at hm;obtain⟨hv',hq'⟩:=hm;refine si [0,1,2] [_,_,_] sl37 tz3 ?_;refine wd ztk (ziM (p:=p+1) (l:=[10,-1,3]) hb od oi oi) Z Z ⟨Z,O⟩ ?_;refine ev (so ty3 ?_);apply tv;refine so ty40 ?_;apply tv;refine rn [(900,some (rdB b q))] (ra ty40) (.agg (qeeeg ?_ ?_ ?_ ?_)) ⟨Z,Z⟩ (SubO.get ⟨.inr ?_,⟨.inl Z,O⟩⟩) (zaQ Z);rotate_left 5;apply sq<;>intro h3 h3p h3s<;>(try simp only[Q,xaJ] at h3p);rw[if_neg od,if_neg od,if_pos od] at hm;simp only[xae,Prod.mk.injEq] at hm;obtain⟨hv',hq'⟩:=hm;refine bu [0] [_] st40 ?_;refine si [0] [_] sl33 tz40 ?_;refine ap sl33 zz40 Z Z Z (by(intro x hx;simp only[List.mem_singleton] at hx;subst hx;rfl)) (by simp[xaJ];omega) ?_;refine ev (so ty33 ?_);apply tv;refine so ty40 ?_;apply tv;refine rn [(900,some (rdB b q))] (ra ty40) (.agg (qeeeg ?_ ?_ ?_ ?_)) ⟨Z,Z⟩ (SubO.get ⟨.inr ?_,⟨.inl Z,O⟩⟩) (zaQ Z);rotate_left 5;apply sq<;>intro h4 h4p h4s<;>(try simp only[Q,xaJ] at h4p);apply sq<;>intro h5 h5p h5s<;>(try simp only[Q,xaJ] at h5p);exfalso;apply hn3;refine⟨by omega,fun hh=>?_⟩;rw[hh] at h5p;exact absurd h5p om;have hk0:v.kids=[]:=by cases hk:v.kids with|nil=>rfl|cons y r=>exact absurd ⟨by omega,by rw[hk];simp⟩ hn3
   rw[if_neg od,if_neg od,if_neg od,if_pos od,hk0] at hm;simp only[xae,Prod.mk.injEq] at hm;obtain⟨hv',hq'⟩:=hm;refine so ty40 ?_;apply tv;refine rn [(900,some (rdB b q))] (ra ty40) (.agg (qeeeg ?_ ?_ ?_ ?_)) ⟨Z,Z⟩ (SubO.get ⟨.inr ?_,⟨.inl Z,O⟩⟩) (zaQ Z);rotate_left 5;rw[if_neg od,if_neg od,if_neg od,if_neg od] at hm;simp only[xae,Prod.mk.injEq] at hm;obtain⟨hv',hq'⟩:=hm;refine so ty40 ?_;apply tv;refine rn [(900,some (rdB b q))] (ra ty40) (.agg (qeeeg ?_ ?_ ?_ ?_)) ⟨Z,Z⟩ (SubO.get ⟨.inr ?_,⟨.inl Z,O⟩⟩) (zaQ Z);rotate_left 5;all_goals (first|((subst hv';first|rfl|(show D.sl _=D.sl (Ex.cs (v.kids++[.mk 1 0 0 []]));rw[Ex.cs_app];rfl)|(show _=Ex.cs (v.kids++[.mk 1 0 0 []]);rw[Ex.cs_app];rfl)|(rw[hk0];rfl));done)|(subst hq';rfl))
section
variable {c:Ctx}
theorem RelA.ga_inv {G:Gh}{T:TokF}{w:World}{id n k:Nat}{js:List Nat}{cs:List AV}{v:Value} (h:RelA G T w (.ga id n js cs) v) (hT:T id=some (n,k)):
  ∃b cap vs e,G.loc id=[b]/\G.F b=0/\w.heap[b]?=some (.cells vs e (0,0))/\cap*k<=vs.size/\n<=cap/\cs.length=n*k/\
   (∀i (hi:i<cs.length) (hv:i<vs.size),RelA G T w cs[i] vs[i])/\(∀x,x∈AV.idsL cs->x∈js)/\v = .slice (some ⟨b,0,none⟩) n cap:=by
 cases h with
 |gaD hv hT'=>exact absurd (hT' n k hT) (Nat.lt_irrefl _)
 |gaL hj hT' hl hF hb hck hn hcs hr=>
  rw[hT] at hT';cases hT'
  exact⟨_,_,_,_,hl,hF,hb,hck,hn,hcs,hr,hj,rfl⟩
theorem xaW {id n n':Nat}{js js':List Nat}{cs cs':List AV} (h:n=n'/\js=js'/\cs=cs'):LeA (.ga id n js cs) (.ga id n' js' cs'):=by
 obtain⟨rfl,rfl,rfl⟩:=h;exact .refl _
theorem LeL.atA {cs ds:List AV} (h:LeL cs ds):∀i (hc:i<cs.length) (hi:i<ds.length),LeA cs[i] ds[i]:=by
 induction cs generalizing ds with
 |nil=>intro i hc;simp at hc
 |cons x r ihr=>
  intro i hc hi;cases h with
  |cons h t=>
   cases i with
   |zero=>exact h
   |succ i=>exact ihr t i (by simpa using hc) (by simpa using hi)
theorem zqC {t:TypeId}{G:Gh}{s:St}{a:Act}{w:World} (hr:R c G s a w){id b0 m n k e yb:Nat}{js js':List Nat}{cs row row':List AV}{v u:Value} (hle:LeL row row') (hjs:js.all (zaT · js')=true) (hjr:(AV.idsL row').all (zaT · js')=true) (ht:SlT c.P t e k yb){z:Value} (hz:∃i,c.P.info? e=some i/\i.zero=some z/\z.cells.size=k)
  (htok:getH s.hp id=some (.tok n k)) (hbox:getH s.hp b0=some (.box row)) (hrk:row.length=k) (hr1:zgD row=true) (hv:RelA G (tokf s.hp) w (.ga id n js cs) v) (hu:RelA G (tokf s.hp) w (.ms b0 m) u) (hm1:m=1)
  (hb:(n+1)*yb<=140737488355328) (hm:n+1<=9223372036854775807) (opt:TypeId):
  ∃v' w' G',(Builtin.append_ #[t,t] opt #[v,u]).run c.P w = .ok v' w'/\
   R c G' ⟨s.env,(id,some (.tok (n+1) k))::s.hp⟩ a w'/\RelA G' (tokf ((id,some (.tok (n+1) k))::s.hp)) w' (.ga id (n+1) js' (cs++row')) v':=by
 subst hm1;obtain⟨i,hi1,hi2,hi3⟩:=ht.inf;obtain⟨i',z1,z2,z3⟩:=hz;rw[hi1] at z1;cases z1
 have hT:tokf s.hp id=some (n,k):=zar.2 htok;have hT':tokf ((id,some (.tok (n+1) k))::s.hp) id=some (n+1,k):=zar.2 (by rw[zal,if_pos rfl]);have hT2:∀i,i≠id->tokf ((id,some (.tok (n+1) k))::s.hp) i=tokf s.hp i:=fun i hi=>by
  unfold tokf;rw[zal,if_neg hi]
 obtain⟨b,cap,vs,et,hl,hF,hat,hck,hncap,hcl,hrel,hj0,rfl⟩:=hv.ga_inv hT;have hj:∀x,x∈AV.idsL (cs++row')->x∈js':=fun x hx=>by
  rw[zab] at hx;rcases List.mem_append.1 hx with h|h
  ·exact zaM.1 (List.all_eq_true.1 hjs x (hj0 x h))
  ·exact zaM.1 (List.all_eq_true.1 hjr x h)

 obtain⟨bb,us,eb,hl0,hat0,hlen0,hF0,hcell0⟩:=hr.heap b0 _ hbox;have hu':∃cap2,u = .slice (some ⟨bb,0,none⟩) 1 cap2/\1<=cap2:=by
  cases hu with
  | @ms _ _ b cap h hT hcap=>
   have:b=bb:=zcD h hl0;subst this;exact⟨cap,rfl,hcap⟩
 obtain⟨cap2,rfl,hcap2⟩:=hu';let news:List Value:=us.toList.take k
 have hks:k<=us.size:=by omega
 have hnl:news.length=k:=by simp[news];omega
 have hnews:∀j u,news[j]?=some u->w.cell? ((⟨bb,0,none⟩:Addr).add j)=some u:=fun j u hj=>by
  obtain⟨hj1,hj2⟩:=List.getElem?_eq_some_iff.1 hj;simp only[news,List.getElem_take] at hj2;have hjs:j<us.size:=by omega
  rw[zcy];simp only[World.cell?,hat0,Option.isSome_none,Bool.false_eq_true,if_false,Nat.zero_add];rw[Array.getElem?_eq_getElem hjs,<-hj2];simp
 have hnr:∀i (hi:i<row.length) (hv:i<news.length),RelA G (tokf s.hp) w row[i] news[i]:=fun i hi hv=>by
  have:=hcell0 i hi od;have e1:news[i]=us[i]' od:=by simp[news]
  rw[e1];exact this
 have hlt:∀b o,o<G.F b->b<w.heap.size:=fun b o ho=>by
  rcases Nat.lt_or_ge b w.heap.size with h|h
  ·exact h
  ·rw[hr.top b h] at ho;omega
 have bound:∀i r,getH s.hp i=some r->∀b,b∈G.loc i->b<w.heap.size:=fun i r h=>(hr.heap i r h).bound;have apart:∀i r,i≠id->getH s.hp i=some r->∀b,b∈G.loc i->b∉G.loc id:=fun i r hi h b hb=>hr.disj i id (by rw[h];rfl) (by rw[htok];rfl) hi b hb;have hbs:b<w.heap.size:=bound id _ htok b (by rw[hl];simp);have hnk:n*k<=vs.size:=Nat.le_trans (xav _ hncap) hck;let olds:List Value:=vs.toList.take (n*k)
 have hol:olds.length=n*k:=by simp[olds];omega
 have hold:∀i (hi:i<cs.length) (hv:i<olds.length),RelA G (tokf s.hp) w cs[i] olds[i]:=fun i hi hv=>by
  have:=hrel i hi od;have e1:olds[i]=vs[i]' od:=by simp[olds]
  rw[e1];exact this
 have hrk':row'.length=k:=by rw[<-hle.len];exact hrk
 have hnr':∀i (hi:i<row'.length) (hv:i<news.length),RelA G (tokf s.hp) w row'[i] news[i]:=fun i hi hv=>
  (hnr i (by rw[hle.len];exact hi) hv).le (hle.atA i (by rw[hle.len];exact hi) hi)
 have both:∀i (hi:i<(cs++row').length) (hv:i<(olds++news).length),RelA G (tokf s.hp) w (cs++row')[i] (olds++news)[i]:=fun i hi hv=>by
  by_cases h:i<cs.length
  ·rw[List.getElem_append_left h,List.getElem_append_left od];exact hold i h od
  ·rw[List.getElem_append_right od,List.getElem_append_right od];have e1:i-cs.length<row'.length:=by simp at hi;omega
   have e2:i-olds.length=i-cs.length:=by omega
   have:=hnr' (i-cs.length) e1 od;simpa only[e2] using this
 have hlen:(olds++news).length=(n+1)*k:=by rw[xaa,hol,hnl,Nat.add_mul,Nat.one_mul]
 have hclen:(cs++row').length=(n+1)*k:=by rw[xaa,hcl,hrk',Nat.add_mul,Nat.one_mul]
 have hone:∀u,u∈news->u.oneCell'=true:=fun u hu=>by
  obtain⟨j,hj,rfl⟩:=List.getElem_of_mem hu;exact(hnr j od hj).one (zg4 hr1 _ (xao _))
 by_cases hroom:n+1<=cap
 ·have hck':(n+1)*k<=vs.size:=Nat.le_trans (xav _ hroom) hck;have hfit:n*i.size+news.length<=vs.size:=by
   rw[hi2,hnl];rw[Nat.add_mul,Nat.one_mul] at hck';exact hck'
  have hrun:=zft (P:=c.P) t opt e i ht.und hi1 b n cap vs et hat ⟨bb,0,none⟩ 1 cap2 news (by rw[hi2,hnl];simp) hnews hone hroom hfit;rw[hi2] at hrun hfit;let row':Array Value:=(vs.toList.take (n*k)++news++vs.toList.drop (n*k+news.length)).toArray
  have hrs:row'.size=vs.size:=by
   simp only[row',List.size_toArray,xaa,List.length_take,List.length_drop,Array.length_toList];omega
  have hcell:∀b' o,o<G.F b'->o<G.F b'/\(w.setRow b row').cell? ⟨b',o,none⟩=w.cell? ⟨b',o,none⟩:=fun b' o ho=>by
   have hbb:b'≠b:=fun e=>by subst e;omega
   exact⟨ho,cell_setRow_other w b row' _ hbb⟩
  have hoth:∀b',b'<w.heap.size->b'∉G.loc id->(w.setRow b row').heap[b']?=w.heap[b']?/\G.F b'=G.F b':=fun b' hb' hn=>by
   have hne:b'≠b:=fun e=>hn (by rw[hl,e];simp);exact⟨setRow_other w b b' row' hne,rfl⟩
  refine⟨_,_,G,hrun,hr.retok (G':=G) htok od hcell (fun _ _=>rfl) hoth (fun x hx=>by rw[hl] at hx;simp at hx;subst hx;simpa using hbs) (fun b' hb'=> .inl hb') rfl rfl rfl oi (fun b' hb'=>?_), ?_⟩
  ·have hb2':w.heap.size<=b':=by simpa using hb'
   exact hr.top b' hb2'
  ·refine .gaL hj hT' hl hF (setRow_heap w b vs row' et _ hat) (by rw[hrs];exact hck) hroom hclen (fun j hj hjv=>?_);have hj2:j<(olds++news).length:=by omega
   have e1:row'[j]=(olds++news)[j]:=by
    simp only[row',List.getElem_toArray];rw[List.getElem_append_left hj2]
   rw[e1];exact(both j hj hj2).retok hcell hT od hT' hT2 (fun _ _=>rfl) (fun i p hi hp b' hb'=>by
    obtain⟨m,q⟩:=p;have h1:=zar.1 hp;exact hoth b' (bound i _ h1 b' hb') (apart i _ hi h1 b' hb'))
 ·
  have hrun:=run_append_grow (P:=c.P) w t opt e i z ht.und hi1 z2 ⟨b,0,none⟩ n cap olds (by rw[hi2];omega)
   (fun j u hj=>by
    rw[zcy];obtain⟨hj1,hj2⟩:=List.getElem?_eq_some_iff.1 hj;simp only[olds,List.getElem_take] at hj2;have hjs:j<vs.size:=by simp[olds] at hj1;omega
    simp only[World.cell?,hat,Option.isSome_none,Bool.false_eq_true,if_false,Nat.zero_add];rw[Array.getElem?_eq_getElem hjs,<-hj2];simp) ⟨bb,0,none⟩ 1 cap2 news (by rw[hi2,hnl];simp) hnews od od (by rw[hi3];exact growslice_fits od hb)
  have hnc:n+1<=grownCap w (n+1) cap e:=by have:=grownCap_ge w (n+1) cap e;omega
  generalize grownCap w (n+1) cap e=nc at hrun hnc;let cells:Array Value:=olds.toArray++news.toArray++Builtin.zeroCells z.cells (nc-(n+1))
  let G':Gh:={ F:=G.F,loc:=fun j=>bif Nat.beq j id then [w.heap.size] else G.loc j }
  have hcs:cells.size=nc*k:=by
   simp only[cells,Array.size_append,List.size_toArray,size_zeroCells,z3,hol,hnl];have:nc*k=(n+1)*k+(nc-(n+1))*k:=by rw[<-Nat.add_mul];congr 1;omega
   rw[this,Nat.add_mul,Nat.one_mul]
  have hcell:∀b o,o<G.F b->o<G'.F b/\(w.drew.alloc (.cells cells e)).cell? ⟨b,o,none⟩=w.cell? ⟨b,o,none⟩:=fun b o ho=>by
   have hb:=hlt b o ho;exact⟨ho,by rw[World.cell?_alloc_lt w.drew _ _ hb];rfl⟩
  have hlocne:∀j,j≠id->G'.loc j=G.loc j:=fun j hj=>by simp[G',zeB hj]
  have hlocid:G'.loc id=[w.heap.size]:=by simp[G']
  have hoth:∀b',b'<w.heap.size->b'∉G.loc id->(w.drew.alloc (.cells cells e)).heap[b']?=w.heap[b']?/\G'.F b'=G.F b':=fun b' hb' _=>⟨zek (w:=w.drew) hb',rfl⟩;refine⟨_,_,G',hrun,hr.retok (G':=G') htok od hcell hlocne hoth (fun b hb=>by rw[hlocid] at hb;simp at hb;subst hb;simp)
   (fun b hb=>by rw[hlocid] at hb;simp at hb;exact .inr od) rfl rfl rfl oi (fun b hb=>?_), ?_⟩
  ·have hb':w.heap.size+1<=b:=by simpa using hb
   exact hr.top b od
  ·refine .gaL hj hT' hlocid (hr.top _ (Nat.le_refl _)) (zd6 (w:=w.drew)) (by rw[hcs];exact Nat.le_refl _) hnc hclen (fun j hj hjv=>?_);have hj2:j<(olds++news).length:=by omega
   have ec:cells=(olds++news++(Builtin.zeroCells z.cells (nc-(n+1))).toList).toArray:=by
    apply Array.ext';simp[cells]
   have e1:cells[j]=(olds++news)[j]:=by
    simp only[ec,List.getElem_toArray];rw[List.getElem_append_left hj2]
   rw[e1];exact(both j hj hj2).retok hcell hT od hT' hT2 hlocne (fun i p hi hp b' hb'=>by
    obtain⟨m,q⟩:=p;have h1:=zar.1 hp;exact hoth b' (bound i _ h1 b' hb') (apart i _ hi h1 b' hb'))
end
section
variable {c:Ctx}{env:Env}{hp:Hp}{K:Kt}{code:Code}{ids:List Nat}
theorem CWp.fixA (hkp:KeptIn c.kept ids) (t id k:Nat){n m:Nat}{js:List Nat}{cs:List AV} (ht:getE env t=some (.ga id n js cs)) (hb:getH hp id=some (.tok m k)) (hm:m=n) (hid:zaT id ids=false)
  (hn:CWp c code ⟨(t,.ms id n)::env,(id,some (.box cs))::hp⟩ K):CWp c code ⟨env,hp⟩ K:=by
 rintro a w ⟨G,hr⟩
 subst hm;obtain⟨b,cap,vs,et,hl,hF,hat,hck,hncap,hcl,hrel,_,hv⟩:=(hr.slots t _ ht).ga_inv (zar.2 hb);have s1:(getH hp id).isSome:=by rw[hb];rfl
 have g1:getH ((id,some (Res.box cs))::hp) id=some (.box cs):=by rw[zal,if_pos rfl]
 have t1:tokf ((id,some (Res.box cs))::hp) id=none:=by unfold tokf;rw[g1]
 have hturn:Turn c G ⟨env,hp⟩ w G ((id,some (.box cs))::hp) [id]:=by
  refine⟨fun i hi=>?_,fun i hi=>rfl,fun _ _=>rfl,fun _ _ h=>h,hr.top,fun i hi=> .inr ⟨.inl rfl, ?_⟩,fun i hi hs x hx=>?_,fun i hi j hj hij=>?_,fun i hi l hl2=>?_⟩<;>
   simp only[List.mem_cons,xau,or_false] at hi
  ·rw[zal,if_neg hi]
  ·subst hi;intro p hp;rw[t1] at hp;cases hp
  ·subst hi;exact⟨i,by simp,s1,hx⟩
  ·simp only[List.mem_cons,xau,or_false] at hj;exact absurd (hi.trans hj.symm) hij
  ·subst hi;have:=zaM.2 (hkp.mem i l hl2);rw[this] at hid;cases hid
 refine hn a w ⟨G, ?_⟩;have hR:R c G ⟨env,(id,some (.box cs))::hp⟩ a w:=hturn.fin hr (fun i hi r hri=>by
  simp only[List.mem_cons,xau,or_false] at hi;subst hi;rw[g1] at hri;cases hri
  have:m*k<=cap*k:=xav _ hncap;refine⟨b,vs,et,hl,hat,by omega,hF,fun j hj hjv=>?_⟩;exact(hrel j hj hjv).mono (fun _ _ ho=>⟨ho,rfl⟩) (fun _ _=> .inl rfl) (fun q _ p hp'=>by
   obtain⟨n',k'⟩:=p;have hq:=zar.1 hp';rw[zal] at hq;split at hq
   ·cases hq
   ·exact⟨zar.2 hq,fun _ _=>⟨rfl,rfl⟩⟩))
 refine hR.slot ?_;rw[hv];exact .ms (zhR hl) t1 hncap
end
section
variable {c:Ctx}{all:Array Oper}{chk:List Rec->Prop}{os:List Oper}{recs:List Rec}{env:Env}{hp:Hp}{Q:St->Prop}
variable {d ty:Nat}{pos:String}{af:Array Edge}{g:Option (Nat×Bool)}{pg:List (Nat×AV)}
variable {t yt:TypeId}{x y:Operand}
theorem xbo {id b0 m n k e yb:Nat}{js:List Nat}{cs row row':List AV} (js':List Nat) (hle:LeL row row') (hjs:js.all (zaT · js')=true) (hjr:(AV.idsL row').all (zaT · js')=true) (ht:SlT c.P t e k yb) (hz:ZeroT c.P e k) (hg:GH all env g pg) (hd:Nat.blt d c.n=true)
  (hx:opd env x=some (.ga id n js cs)) (hy:opd env y=some (.ms b0 m)) (hm1:m=1) (htok:getH hp id=some (.tok n k)) (hbox:getH hp b0=some (.box row)) (hrk:row.length=k) (h1:zgD row=true)
  (hb:(n+1)*yb<=140737488355328) (hm:n+1<=9223372036854775807)
  (hn:Walk c all chk os (zap (pg++(opF x (.ga id n js cs)++opF y (.ms b0 m))) [(id,.tok n k),(b0,.box row)] [] ⟨some (d,.ga id (n+1) js' (cs++row')),[(id,some (.tok (n+1) k))]⟩::recs)
   ⟨(d,.ga id (n+1) js' (cs++row'))::env,(id,some (.tok (n+1) k))::hp⟩ Q):
  Walk c all chk (⟨some d,.call ⟨.builtin .append,#[x,y],#[t,t]⟩,ty,pos,af,g⟩::os) recs ⟨env,hp⟩ Q:=by
 refine⟨pg++(opF x (.ga id n js cs)++opF y (.ms b0 m)),[(id,.tok n k),(b0,.box row)],[],_, ?_,zav hg.facts (zav (za4 hx) (za4 hy)),fun p hm=>?_,by simp,hn⟩
 ·intro s a w hrel hp' hh _ K Q' hK;obtain⟨G,hr⟩:=hrel;have e1:=hr.opd (za5 hx (fun p hm=>hp' p (by simp[hm])));have e2:=hr.opd (za5 hy (fun p hm=>hp' p (by simp[hm])));obtain⟨i,z,z1,z2,z3⟩:=hz.out;obtain⟨v',w',G',hrun,hR,hA⟩:=zqC hr hle hjs hjr ht ⟨i,z1,z2,z3⟩ (hh (id,_) oi) (hh (b0,_) oi) hrk h1 e1 e2 hm1 hb hm ty;unfold wpO;rw[if_pos (hg.gf.wanted hr (fun p hm=>hp' p (by simp[hm])))];unfold Oper.wp;have:(execOp a.eval ⟨some d,.call ⟨.builtin .append,#[x,y],#[t,t]⟩,ty,pos,af,g⟩).run c.P w = .ok (.value v') w':=by
   simp only[execOp,resolve,invoke,builtin,Sem.run_bind,Sem.run_pure,Result.andThen_ok,List.map_toArray,xaf,List.map_nil,hrun]
  rw[this,Oper.upon_value];exact hK _ _ ⟨G',hR.put hA hd⟩
 ·simp only[List.mem_cons,xau,or_false] at hm;rcases hm with rfl|rfl
  ·exact htok
  ·exact hbox
theorem xbO {at_ e k yb id n:Nat}{js:List Nat}{cs:List AV} (ht:SlT c.P at_ e k yb) (hg:GH all env g pg) (hd:Nat.blt d c.n=true) (hx:opd env x=some (.ga id n js cs))
  (hn:Walk c all chk os (zap (pg++opF x (.ga id n js cs)) [] [] ⟨some (d,.d (.i n)),[]⟩::recs) ⟨(d,.d (.i n))::env,hp⟩ Q):
  Walk c all chk (⟨some d,.call ⟨.builtin .len,#[x],#[at_]⟩,ty,pos,af,g⟩::os) recs ⟨env,hp⟩ Q:=
 xb1 hg hd hx (fun a G T w h=>⟨.int .i64 n,by
  obtain⟨ad,cap,he⟩:∃ad cap,a.eval x = .slice ad n cap:=by
   generalize a.eval x=v at *;cases h with
   |gaD hv _=>exact hv
   |gaL=>exact⟨_,_,rfl⟩
  simp[execOp,resolve,invoke,builtin,he,ze5 ht],.d (.int _ _)⟩) hn
theorem xb9 {t:TypeId}{e k yb:Nat} (id:Nat) (ht:SlT c.P t e k yb) (hg:GH all env g pg) (hd:Nat.blt d c.n=true) (hfr:zam env hp [id]=true)
  (hn:Walk c all chk os (zap (pg++opFL [] []) [] [id] ⟨some (d,.ga id 0 [] []),[(id,some (.tok 0 k))]⟩::recs) ⟨(d,.ga id 0 [] [])::env,(id,some (.tok 0 k))::hp⟩ Q):
  Walk c all chk (⟨some d,.buildSlice t 0 #[],ty,pos,af,g⟩::os) recs ⟨env,hp⟩ Q:=by
 refine⟨pg++opFL [] [],[],[id],_, ?_,zav hg.facts (by simp[opFL]),by simp,zbD hfr,hn⟩;intro s a w hrel hp' hh hcr K Q' hK;obtain⟨G,hr⟩:=hrel;obtain⟨h0,hocc⟩:=hcr id oi;obtain⟨ie,hi1,hi2,hi3⟩:=ht.inf;have e1:(execOp a.eval ⟨some d,.buildSlice t 0 #[],ty,pos,af,g⟩).run c.P w = .ok (.value (.slice (some ⟨w.heap.size,0,none⟩) 0 0)) (w.alloc (.cells #[] e)):=by
  simp[execOp,Instr.buildSlice,run_underlying ht.und,sizeOf,zfi hi1,Instr.fill,newRow,Array.range_zero']
 have hr':=(hr.alloc (.cells #[] e) 0).rename h0 hocc [w.heap.size];have hloc:∀i,i≠id->(bif Nat.beq i id then [w.heap.size] else G.loc i)=G.loc i:=fun i h=>by
  cases hb:Nat.beq i id with
  |true=>exact absurd (xap hb) h
  |false=>rfl
 have hR:=hr'.name (r:= .tok 0 k) h0 hocc (fun b hb=>by simp at hb;subst hb;simp) (fun i hi b hb=>by
  have hi':i≠id:=fun e=>by subst e;rw[h0] at hi;cases hi
  have hb':b∈G.loc i:=by have:=hloc i hi';simp only[this] at hb;exact hb
  obtain⟨r,hrr⟩:=Option.isSome_iff_exists.1 hi;have hlt:b<w.heap.size:=(hr.heap i r hrr).bound b hb';simp;omega) (fun b hb=>by
  simp at hb;subst hb;exact .inr hr.frm.size)
 unfold wpO;rw[if_pos (hg.gf.wanted hr (fun p hm=>hp' p (by simp[hm])))];unfold Oper.wp;rw[e1,Oper.upon_value];refine hK _ _ ⟨_,hR.put (v:= .ga id 0 [] []) (.gaL (by simp[AV.idsL]) (k:=k) (vs:=#[]) (e:=e) (b:=w.heap.size) (cap:=0) (zar.2 ?_) oi ?_ zd6 oi (Nat.le_refl _) oi (fun i hi=>by simp at hi)) hd⟩
 ·show getH ((id,some (Res.tok 0 k))::s.hp) id=_
  rw[zal,if_pos rfl]
 ·simp
end
set_option maxHeartbeats 2000000
theorem zv6 {b:Str} (h0:1<=b.length) (hb:b.length<=2000){p:Nat} (hp0:1<=p) (hp:p<=4000):∃m,m<=3000000/\sU (uP b) p m<= -2:=by
 obtain⟨N,n1,n2,hA⟩:=zvV hb;obtain⟨j,j1,j2,j3⟩:∃j,1<=j/\p<=j*b.length/\(j*b.length<=p+b.length/\(b.length=1->j*b.length=p)):=by
  by_cases h1:b.length=1
  ·exact⟨p,hp0,by rw[h1];omega,by rw[h1];omega,fun _=>by rw[h1];omega⟩
  refine⟨p / b.length+1,Nat.le_add_left 1 _, ?_, ?_,fun h=>absurd h h1⟩
  ·have h1:=Nat.div_add_mod p b.length;have h2:=Nat.mod_lt p (show 0<b.length by omega);rw[Nat.add_mul,Nat.mul_comm (p / b.length)];omega
  ·have h1:=Nat.div_mul_le_self p b.length;rw[Nat.add_mul];omega
 have hNL:N*b.length<=1024*2000:=Nat.mul_le_mul n2 hb;refine⟨(j*b.length-p)+N*b.length,by omega, ?_⟩;rw[zhW,show p+(j*b.length-p)=j*b.length by omega,zvf];have h1:=zwF (u:=uP b) (fun k=>(zoo _).2) (j*b.length-p) p;have hj:j*(29*b.length+53)<=441000:=by
  have e:j*(29*b.length+53)=29*(j*b.length)+53*j:=by rw[Nat.mul_add,Nat.mul_left_comm,Nat.mul_comm j 53]
  by_cases hL:7<=b.length
  ·have:j*7<=j*b.length:=Nat.mul_le_mul_left _ hL;omega
  ·have:j<=4007:=by
    have h2:j*1<=j*b.length:=Nat.mul_le_mul_left _ h0;omega
   exact Nat.le_trans (Nat.le_of_eq e) od
 have h2:=zsZ (f:=fun j i=>uP b (j*b.length+i)) (n:=N) (j:=j) (c:= -2) b.length (fun i hi=>by
  rw[zuA h0 hi N j j1 (by rw[Nat.add_mul];omega)];exact hA _ (by have:=zy8 b i od;omega))
 omega
theorem zvW {b:Str} (hb:b.length<=2000){p:Nat} (hp0:1<=p) (hp:p<=4000) (v:Ex):∃n v1 q1 v2 q2,mutE b n p v=some (v1,q1)/\mutE b n q1 v1=some (v2,q2)/\q2<=3010000:=by
 by_cases h0:1<=b.length
 ·obtain⟨m,m1,m2⟩:=zv6 h0 hb hp0 hp;obtain⟨n1,v1,q1,a1,a2,a3⟩:=zpD (b:=b) m p v od;have a4:=(zdy a1).1;have e1:=zhW (uP b) (q1-p) (p+m-q1) p;rw[show q1-p+(p+m-q1)=m by omega,show p+(q1-p)=q1 by omega] at e1;obtain⟨n2,v2,q2,b1,b2,b3⟩:=zpD (b:=b) (p+m-q1) q1 v1 od;exact⟨max n1 n2,v1,q1,v2,q2,zfB a1 _ (Nat.le_max_left _ _),zfB b1 _ (Nat.le_max_right _ _),by omega⟩
 ·have hz:∀p,zax b p 24=0:=fun p=>by unfold zax;rw[if_pos (.inr od)]
  exact⟨1,_,p+2,_,p+2+2,by simp only[mutE];rw[if_pos (hz _)],by simp only[mutE];rw[if_pos (hz _)],by omega⟩
def zEx:Ex:= .mk 1 0 0 []
def Fu.idx (f:Fu) (k:Int):Fu:=⟨⟨f.ty.arg,⟨f.ty.res.data,k⟩⟩,f.cls,f.bodies⟩
def Fu.bod (f:Fu) (e:List Ex):Fu:=⟨f.ty,f.cls,e⟩
def Fu.cut (f:Fu):Fu:=⟨f.ty,f.cls.drop 1,f.bodies.drop 1⟩
def MutF (b:Str) (q:Nat) (l:List Fu) (l':List Fu) (q':Nat):Prop:=
 (l=[]/\l'=[]/\q'=q)\/(l≠[]/\∃f,zax b q l.length=(f:Nat)/\f<l.length/\
  ((zax b (q+1) 24=0/\l'=l.set f ((nth l f).idx (numV b (q+2) [1,2,4,0]))/\q'=q+3)\/
   (zax b (q+1) 24=1/\l'=l.set f ((nth l f).bod ((nth l f).bodies++[zEx]))/\q'=q+2)\/
   (zax b (q+1) 24=2/\∃y r n v1 q1 v2,(nth l f).bodies=y::r/\mutE b n (q+2) y=some (v1,q1)/\mutE b n q1 v1=some (v2,q')/\q'<=3010000/\l'=l.set f ((nth l f).bod (v2::r)))\/
   (zax b (q+1) 24=2/\(nth l f).bodies=[]/\l'=l/\q'=q+2)\/
   (zax b (q+1) 24=3/\l'=l.take f/\q'=q+2)\/
   (zax b (q+1) 24=4/\l'=l++List.replicate (5-l.length) (nth l 0)/\q'=q+2)\/
   (zax b (q+1) 24=5/\1<(nth l f).cls.length/\l'=l.set f (nth l f).cut/\q'=q+2)\/
   (zax b (q+1) 24=5/\¬1<(nth l f).cls.length/\l'=l/\q'=q+2)\/
   ((zax b (q+1) 24<0\/5<zax b (q+1) 24)/\l'=l/\q'=q+2)))
theorem zuX {b:Str} (hb:b.length<=2000){q:Nat} (hq:q<=3000) (l:List Fu):∃l' q',MutF b q l l' q':=by
 by_cases h0:l=[]
 ·exact⟨[],q,.inl ⟨h0,rfl,rfl⟩⟩
 have hl:0<l.length:=List.length_pos_iff.2 h0;have hp:=zhU (b:=b) (p:=q) (n:=(l.length:Int)) od;obtain⟨f,hf⟩:=Int.eq_ofNat_of_zero_le hp.1;have hfl:f<l.length:=by omega
 have mk:∀(P:List Fu->Nat->Prop),(∃l' q',P l' q')->(∀l' q',P l' q'->MutF b q l l' q')->∃l' q',MutF b q l l' q':=fun P h k=>by
  obtain⟨l',q',h⟩:=h;exact⟨l',q',k _ _ h⟩
 by_cases h5:zax b (q+1) 24<0\/5<zax b (q+1) 24
 ·exact⟨_,_,.inr ⟨h0,f,hf,hfl,.inr (.inr (.inr (.inr (.inr (.inr (.inr (.inr ⟨h5,rfl,rfl⟩)))))))⟩⟩
 have hc:zax b (q+1) 24=0\/zax b (q+1) 24=1\/zax b (q+1) 24=2\/zax b (q+1) 24=3\/zax b (q+1) 24=4\/zax b (q+1) 24=5:=by omega
 rcases hc with h|h|h|h|h|h
 ·exact⟨_,_,.inr ⟨h0,f,hf,hfl,.inl ⟨h,rfl,rfl⟩⟩⟩
 ·exact⟨_,_,.inr ⟨h0,f,hf,hfl,.inr (.inl ⟨h,rfl,rfl⟩)⟩⟩
 ·cases hbo:(nth l f).bodies with
  |nil=>exact⟨_,_,.inr ⟨h0,f,hf,hfl,.inr (.inr (.inr (.inl ⟨h,hbo,rfl,rfl⟩)))⟩⟩
  |cons y r=>
   obtain⟨n,v1,q1,v2,q2,a1,a2,a3⟩:=zvW hb (p:=q+2) od od y;exact⟨_,q2,.inr ⟨h0,f,hf,hfl,.inr (.inr (.inl ⟨h,y,r,n,v1,q1,v2,hbo,a1,a2,a3,rfl⟩))⟩⟩
 ·exact⟨_,_,.inr ⟨h0,f,hf,hfl,.inr (.inr (.inr (.inr (.inl ⟨h,rfl,rfl⟩))))⟩⟩
 ·exact⟨_,_,.inr ⟨h0,f,hf,hfl,.inr (.inr (.inr (.inr (.inr (.inl ⟨h,rfl,rfl⟩)))))⟩⟩
 ·by_cases h1:1<(nth l f).cls.length
  ·exact⟨_,_,.inr ⟨h0,f,hf,hfl,.inr (.inr (.inr (.inr (.inr (.inr (.inl ⟨h,h1,rfl,rfl⟩))))))⟩⟩
  ·exact⟨_,_,.inr ⟨h0,f,hf,hfl,.inr (.inr (.inr (.inr (.inr (.inr (.inr (.inl ⟨h,h1,rfl,rfl⟩)))))))⟩⟩
def GoodU (f:Fu):Prop:=f.cls.length<=9/\f.bodies.length<=10/\(∀c∈f.cls,c.pat.ok/\c.pat.size<=10000000)/\∀e∈f.bodies,e.ok/\e.size<=20000000
theorem GoodF.u {m:Nat}{f:Fu} (h:GoodF m f) (hm:m<=9):GoodU f:=⟨by have:=h.1;omega,by have:=h.2.1;omega,h.2.2.1,fun e he=>by have:=h.2.2.2 e he;exact⟨this.1,by omega⟩⟩
theorem zuW {b:Str}{q q':Nat}{l l':List Fu} (hm:MutF b q l l' q') (hl:l.length<=5) (hg:∀f∈l,∃m,m<=9/\GoodF m f):l'.length<=5/\∀f∈l',GoodU f:=by
 have hu:∀f∈l,GoodU f:=fun f hf=>by obtain⟨m,h1,h2⟩:=hg f hf;exact h2.u h1
 have hset:∀f g,GoodU g->∀x∈l.set f g,GoodU x:=fun f g h x hx=>by
  rcases List.mem_or_eq_of_mem_set hx with h1|h1
  ·exact hu x h1
  ·rw[h1];exact h
 rcases hm with ⟨_,rfl,_⟩|⟨h0,f,hf,hfl,hc⟩
 ·exact⟨by simp,by simp⟩
 have hnf:nth l f∈l:=zaf hfl;obtain⟨m,hm9,g1,g2,g3,g4⟩:=hg _ hnf;have gu:=hu _ hnf;rcases hc with ⟨_,rfl,_⟩|⟨_,rfl,_⟩|⟨_,y,r,n,v1,q1,v2,hbo,a1,a2,a3,rfl⟩|⟨_,_,rfl,_⟩|⟨_,rfl,_⟩|⟨_,rfl,_⟩|⟨_,_,rfl,_⟩|⟨_,_,rfl,_⟩|⟨_,rfl,_⟩
 ·exact⟨by simpa using hl,hset _ _ gu⟩
 ·refine⟨by simpa using hl,hset _ _ ⟨gu.1, ?_,gu.2.2.1,fun e he=>?_⟩⟩
  ·show((nth l f).bodies++[zEx]).length<=10
   rw[xaa];simp;omega
  ·rcases List.mem_append.1 (show e∈(nth l f).bodies++[zEx] from he) with h|h
   ·exact gu.2.2.2 e h
   ·simp only[List.mem_singleton] at h;subst h;exact⟨⟨by simp,trivial⟩,by decide⟩
 ·refine⟨by simpa using hl,hset _ _ ⟨gu.1, ?_,gu.2.2.1,fun e he=>?_⟩⟩
  ·show(v2::r).length<=10
   have:=gu.2.1;rw[hbo] at this;simpa using this
  ·rcases List.mem_cons.1 (show e∈v2::r from he) with h|h
   ·subst h;have b1:=zdy a1;have b2:=zdy a2;have b3:=(g4 y (by rw[hbo];simp)).2;have:e.size<=20000000:=by omega
    exact⟨Ex.ok_sz _ od,this⟩
   ·exact gu.2.2.2 e (by rw[hbo];simp[h])
 ·exact⟨hl,hu⟩
 ·exact⟨by rw[List.length_take];omega,fun x hx=>hu x (List.mem_of_mem_take hx)⟩
 ·refine⟨by simp;omega,fun x hx=>?_⟩;rcases List.mem_append.1 hx with h|h
  ·exact hu x h
  ·rw[List.eq_of_mem_replicate h];exact hu _ (zaf od)
 ·refine⟨by simpa using hl,hset _ _ ⟨?_, ?_,fun c hc=>gu.2.2.1 c (List.mem_of_mem_drop hc),fun e he=>gu.2.2.2 e (List.mem_of_mem_drop he)⟩⟩
  ·show((nth l f).cls.drop 1).length<=9
   rw[List.length_drop];have:=gu.1;omega
  ·show((nth l f).bodies.drop 1).length<=10
   rw[List.length_drop];have:=gu.2.1;omega
 ·exact⟨hl,hu⟩
 ·exact⟨hl,hu⟩
theorem zvM {l:List Fu} (hl:l.length<=5) (h:∀f∈l,GoodU f):FusOk l/\FusSz l:=by
 have hex:∀(es:List Ex),(∀e∈es,e.ok)->Exs.ok es:=by
  intro es;induction es with
  |nil=>intro _;trivial
  |cons x r ih=>intro q;exact⟨q x oi,ih (fun e he=>q e (by simp[he]))⟩
 refine⟨⟨by omega,fun f hf=>?_⟩,fun f hf=>?_⟩
 ·obtain⟨g1,g2,g3,g4⟩:=h f hf;exact⟨⟨by omega,fun c hc=>(g3 c hc).1⟩,by omega,hex _ (fun e he=>(g4 e he).1)⟩
 ·obtain⟨g1,g2,g3,g4⟩:=h f hf;exact⟨fun c hc=>by have:=(g3 c hc).2;omega,fun e he=>by have:=(g4 e he).2;omega⟩
set_option maxHeartbeats 4000000
theorem zrY {α:Type}{k:Nat}:∀ {rows:List (List α)},(∀r∈rows,r.length=k)->rows.flatten.length=rows.length*k
 | [],_=>by simp
 |x::r,h=>by
  rw[List.flatten_cons,xaa,h x oi,zrY (fun y hy=>h y (by simp[hy])),xab,Nat.add_mul];omega
theorem zmr {α:Type}{k:Nat}:∀ {rows:List (List α)},(∀r∈rows,r.length=k)->∀ {i j:Nat} (hi:i<rows.length),j<k->rows.flatten[i*k+j]?=(rows[i])[j]?
 |x::r,h,0,j,hi,hj=>by
  rw[List.flatten_cons,Nat.zero_mul,Nat.zero_add,List.getElem?_append_left (by rw[h x oi];exact hj)];rfl
 |x::r,h,i+1,j,hi,hj=>by
  have hx:=h x oi;rw[List.flatten_cons,Nat.add_mul,Nat.one_mul,List.getElem?_append_right od,show i*k+k+j-x.length=i*k+j by omega];exact zmr (fun y hy=>h y (by simp[hy])) (by simpa using hi) hj
theorem zms {α:Type}{k:Nat}{u:α}:∀ {rows:List (List α)},(∀r∈rows,r.length=k)->∀ {i j:Nat} (hi:i<rows.length),j<k->rows.flatten.set (i*k+j) u=(rows.set i ((rows[i]).set j u)).flatten
 |x::r,h,0,j,hi,hj=>by
  rw[Nat.zero_mul,Nat.zero_add,List.set_cons_zero,List.flatten_cons,List.flatten_cons,List.set_append_left _ _ (by rw[h x oi];exact hj)];rfl
 |x::r,h,i+1,j,hi,hj=>by
  have hx:=h x oi;rw[List.set_cons_succ,List.flatten_cons,List.flatten_cons,Nat.add_mul,Nat.one_mul,List.set_append_right _ _ od,show i*k+k+j-x.length=i*k+j by omega];rw[zms (fun y hy=>h y (by simp[hy])) (by simpa using hi) hj];rfl
def rowD (y:Fu):List AV:=y.c.map AV.d
def rowV (y:Fu) (v:AV):List AV:=[.d (.i y.ty.arg.data),.d (.i y.ty.arg.index),.d (.i y.ty.res.data),.d (.i y.ty.res.index),.d (zcg y.cls),v]
def rA (l:List Fu) (f:Nat) (v:AV):List (List AV):=(l.map rowD).set f (rowV (nth l f) v)
def mA (l:List Fu) (f:Nat) (v:AV) (i:Nat):List AV:=((rA l f v).take i).flatten
section
variable {l:List Fu}{f:Nat}{v u:AV}
theorem zi9:(rA l f v).length=l.length:=by simp[rA]
theorem zoQ:∀r∈rA l f v,r.length=6:=fun r hr=>by
 rcases List.mem_or_eq_of_mem_set hr with h|h
 ·obtain⟨y,_,rfl⟩:=List.mem_map.1 h;rfl
 ·rw[h];rfl
theorem zqu {i:Nat} (h:i<l.length):(rA l f v)[i]?=some (if f=i then rowV (nth l f) v else rowD (nth l i)):=by
 unfold rA;rw[List.getElem?_set];by_cases e:f=i
 ·rw[if_pos e,if_pos e,if_pos ot]
 ·rw[if_neg e,if_neg e];exact zah h
theorem zqs {i:Nat} (h:i<l.length) (hne:f≠i):mA l f v i++rowD (nth l i)=mA l f v (i+1):=by
 unfold mA;rw[List.take_add_one,zqu h,if_neg hne];simp
theorem zww {i:Nat} (h:i<l.length) (he:f=i):mA l f v i++rowV (nth l i) v=mA l f v (i+1):=by
 unfold mA;rw[List.take_add_one,zqu h,if_pos he,he];simp
theorem zi2:mA l f v l.length=(rA l f v).flatten:=by
 unfold mA;rw[List.take_of_length_le (by rw[zi9];exact Nat.le_refl _)]
theorem zuT:(mA l f v l.length).length=l.length*6:=by rw[zi2,zrY zoQ,zi9]
theorem zhO {o:Nat} (eo:o=f*6+5) (h:f<l.length):(mA l f v l.length)[o]?=some v:=by
 subst eo;rw[zi2,zmr zoQ (by rw[zi9];exact h) od];have:=zqu (v:=v) (f:=f) h;rw[if_pos rfl,xan (by rw[zi9];exact h)] at this;rw[Option.some.inj this];rfl
theorem znv {o:Nat} (eo:o=f*6+5) (h:f<l.length):putC (mA l f v l.length) o [u]=some (mA l f u l.length):=by
 subst eo;rw[zi8 (by rw[zuT];omega),zi2,zi2];congr 1
 rw[zms zoQ (by rw[zi9];exact h) od];congr 1
 have:=zqu (v:=v) (f:=f) h;rw[if_pos rfl,xan (by rw[zi9];exact h)] at this;rw[Option.some.inj this];unfold rA;rw[List.set_set];rfl
theorem zuU {o:Nat} (eo:o=f*6+5) (h:f<l.length):(mA l f v l.length).set o u=mA l f u l.length:=by
 have:=znv (u:=u) (v:=v) eo h;rw[zi8 (by rw[zuT];omega)] at this;exact Option.some.inj this
theorem zwx {es:List Ex} (h:f<l.length):mA l f (.d (zbj es)) l.length=zaN (l.set f ((nth l f).bod es)):=by
 rw[zi2];unfold rA zaN;rw[List.map_flatten,List.map_map,List.map_set];rfl
end
theorem zmH {l:List Fu}{i:Nat} (h:i<l.length):(l.take i).map Fu.c++[Fu.c (nth l i)]=(l.take (i+1)).map Fu.c:=by
 rw[List.take_add_one,xag];have e:l[i]?=some (nth l i):=by simpa using zah (f:=id) h
 rw[e];rfl
theorem zxs (l:List Fu) (x:Fu) (i:Nat):(l++List.replicate i x).map Fu.c++[Fu.c x]=(l++List.replicate (i+1) x).map Fu.c:=by
 rw[List.replicate_succ',<-xar,xag (l₁:=l++List.replicate i x)];rfl
theorem zyF {l:List Fu}{i:Nat} (hne:l≠[]):((l++List.replicate i (nth l 0)).map Fu.c)[0]?=some (Fu.c (nth l 0)):=by
 cases l with
 |nil=>exact absurd Z hne
 |cons x r=>rfl
theorem zoP {L:List Fu}{f j o:Nat}{u:AV}{y:Fu} (eo:o=f*6+j) (hj:j<6) (h:f<L.length) (hy:(rowD (nth L f)).set j u=rowD y):putC (zaN L) o [u]=some (zaN (L.set f y)):=by
 subst eo;have e:∀l:List Fu,zaN l=(l.map rowD).flatten:=fun l=>by unfold zaN;rw[List.map_flatten,List.map_map];rfl
 have hr:∀r∈L.map rowD,r.length=6:=fun r hr=>by obtain⟨y,_,rfl⟩:=List.mem_map.1 hr;rfl
 rw[zi8 (by rw[zpn];omega),e,e,zms hr (by simpa using h) hj];congr 2
 have h2:(L.map rowD)[f]?=some (rowD (nth L f)):=zah h;rw[xan (by simpa using h)] at h2;rw[Option.some.inj h2,hy,List.map_set]
theorem zoE {L:List Fu}{f j o:Nat}{u:AV} (eo:o=f*6+j) (hj:j<6) (h:f<L.length) (hy:(rowD (nth L f))[j]?=some u):(zaN L)[o]?=some u:=by
 subst eo;have e:∀l:List Fu,zaN l=(l.map rowD).flatten:=fun l=>by unfold zaN;rw[List.map_flatten,List.map_map];rfl
 have hr:∀r∈L.map rowD,r.length=6:=fun r hr=>by obtain⟨y,_,rfl⟩:=List.mem_map.1 hr;rfl
 rw[e,zmr hr (by simpa using h) hj];have h2:(L.map rowD)[f]?=some (rowD (nth L f)):=zah h;rw[xan (by simpa using h)] at h2;rw[Option.some.inj h2,hy]
def tk5 (f i m:Nat):Option Res:=if f<i then some (.tok m 4) else none
def c5 (f i:Nat):List Nat:=if f<i then [5] else []
theorem c5_0 {f i:Nat} (h:i<=f):c5 f i=[]:=if_neg od
theorem c5_1 {f i:Nat} (h:f<i):c5 f i=[5]:=if_pos h
theorem zhn {f i m:Nat} (h:i<=f):tk5 f i m=none:=if_neg od
theorem ziv {f i m:Nat} (h:f<i):tk5 f i m=some (.tok m 4):=if_pos h
theorem zcs (l:List Cl):∀x∈l.map Cl.c,x.length=9:=by
 intro x hx;obtain⟨y,_,rfl⟩:=List.mem_map.1 hx;rfl
theorem zm5 {k:Nat}{v:List AV}{vd:List D} (hv:toDL v=some vd) (hk:v.length=k) (hk0:0<k):∀ {xs:List (List D)},(∀x∈xs,x.length=k)->zbS (xs.length+1) k (xs.flatten.map .d++v)=some (xs++[vd])
 | [],_=>by
  have:=zqY (r:=[]) hv hk oi;simpa using this
 |x::r,h=>by
  have hx:(x.map AV.d).length=k:=by simp[h x oi]
  have ih:=zm5 hv hk hk0 (xs:=r) (fun y hy=>h y (by simp[hy]));have e:((x::r).flatten.map AV.d++v)=x.map AV.d++(r.flatten.map .d++v):=by simp
  rw[e,xab,zbS,zfz hx];dsimp only;rw[zjP];dsimp only;rw[List.drop_left' hx,ih];rfl
abbrev zRow:List AV:=[.d (.i 1),.d (.i 0),.d (.i 0),.nils]
theorem zsI {es:List Ex}{o:Nat} (eo:o=(Ex.cs es).length*4):putC ((Ex.cs es++[[D.i 0,D.i 0,D.i 0,D.sl []]]).flatten.map AV.d) o zRow=some ((Ex.cs es).flatten.map AV.d++zRow):=by
 subst eo;have h:=fun x (h:x∈Ex.cs es)=>xaK x h;rw[List.flatten_append,xag];have h1:((Ex.cs es).flatten.map AV.d).length=(Ex.cs es).length*4:=by rw[xac,zeF h]
 have:=zrS (a:=(Ex.cs es).flatten.map AV.d) (z:=[AV.d (.i 0),.d (.i 0),.d (.i 0),.d (.sl [])]) (vs:=zRow) (t:=[]) h1 rfl;simpa using this
theorem ztZ {es:List Ex}{n:Nat} (hn:n=(Ex.cs es++[[D.i 0,D.i 0,D.i 0,D.sl []]]).length):zbS n 4 ((Ex.cs es).flatten.map AV.d++zRow)=some (Ex.cs (es++[zEx])):=by
 have:=zm5 (k:=4) (v:=zRow) (vd:=[D.i 1,D.i 0,D.i 0,D.sl []]) rfl rfl od (xs:=Ex.cs es) xaK;have e:Ex.cs (es++[zEx])=Ex.cs es++[[D.i 1,D.i 0,D.i 0,D.sl []]]:=by rw[xaH,xaH,xag];rfl
 rw[hn,xaa,e];exact this
theorem zwW {l:List (List D)}{y:Ex}{r:List (List D)} (h:l=y.cc::r):cutC (l.flatten.map AV.d) (0*4) 4=some [.d (.i y.op),.d (.i y.n),.d (.i y.ctor),.d (zbj y.kids)]:=by
 subst h;rw[List.flatten_cons,xag];exact zfz Z
theorem ztg {v:Ex}{r:List Ex}:zbS ((Ex.cs r).length+1) 4 ([.d (.i v.op),.d (.i v.n),.d (.i v.ctor),.d (zbj v.kids)]++(Ex.cs r).flatten.map AV.d)=some (Ex.cs (v::r)):=by
 have:=zqY (v:=[AV.d (.i v.op),.d (.i v.n),.d (.i v.ctor),.d (zbj v.kids)]) (vd:=[.i v.op,.i v.n,.i v.ctor,zbj v.kids]) (r:=Ex.cs r) (k:=4) rfl rfl xaK;rw[this,xaH,xaH];rfl
theorem zk2 {b:Str}{q:Nat}:FnD Tryz.prog 27 [.ref 900 0,.d (zbB [])] [(900,some (rdB b q))] (.d (zbB [])) [(900,some (rdB b q))]:=by
 refine bd Tryz.f27 145 [] [] fun _ _ _ _ hk=>?_;refine xb8 1 sl24 .none Z Z (ev (xaB (ι:=Unit) hk (fun x=>[(6,.d (.i ((0:Nat):Int))),(5,.gl 1 (([]:List Fu).map Fu.c))]) [9,10,11,12,13,14,15,16,17,18,19,20,21,22,23,24,25,26,27,28,29,30,31,32,33,34,35,36,37] (fun x=>[(1,some (.tok ((([]:List Fu).map Fu.c)).length 6))]) (fun x=>True) (fun x=>0) () O ⟨⟨_,Z,xaU ?_⟩,⟨⟨_,Z,LeA.glg ?_⟩,O⟩⟩ ⟨zac ?_,O⟩ (fun x=>rfl) (fun x hg1=>?_)));iterate 3 focus (rfl)
 refine evc [] [] ?_;apply sq<;>intro h1 h1p h1s<;>(try simp only[Q,xal] at h1p);exfalso;exact absurd h1p om;apply sq<;>intro h2 h2p h2s<;>(try simp only[Q,xal] at h2p);refine rn [(900,some (rdB b q))] (r1 Z) (.gld ?_) ⟨Z,Z⟩ (SubO.get ⟨.inr ?_,⟨.inl Z,O⟩⟩) (zaQ Z);rotate_left 2;exfalso;exact absurd Z h2p;all_goals (first|((rfl);done)|(rfl))
theorem o6{p:Prop}(h:p:=by first|exact zcs _|exact xaK):p:=h
theorem zdq {b:Str} (hb:b.length<=2000){l R:List Fu}{q f:Nat} (hq:q<=100000) (hl:l.length<=5) (hne:l≠[]) (hf:zax b q l.length=(f:Nat)) (hfl:f<l.length) (hg:∀x∈l,x.cls.length<=100/\x.bodies.length<=100)
  (ka:¬zax b (q+1) 24=0) (kb:¬zax b (q+1) 24=1) (kc:zax b (q+1) 24=2->(nth l f).bodies=[]) (kd:zax b (q+1) 24=5->¬1<(nth l f).cls.length)
  (r3:zax b (q+1) 24=3->R=l.take f) (r4:zax b (q+1) 24=4->R=l++List.replicate (5-l.length) (nth l 0)) (r:¬zax b (q+1) 24=3->¬zax b (q+1) 24=4->R=l):
  FnD Tryz.prog 27 [.ref 900 0,.d (zbB l)] [(900,some (rdB b q))] (.d (zbB R)) [(900,some (rdB b (q+2)))]:=by
 have hp1:=zbu (b:=b) (p:=q) (n:=((l.map Fu.c).length:Int)) hb od ot;rw[show zax b q ((l.map Fu.c).length:Int)=(f:Int) by rw[xac];exact hf] at hp1;have hp2:=zbu (b:=b) (p:=q+1) (n:=24) hb od od;generalize zax b (q+1) 24=K at *;have hgi:=fun(i:Nat) (h:i<l.length)=>hg (nth l i) (zaf h);refine bd Tryz.f27 145 [] [] fun _ _ _ _ hk=>?_;refine xb8 1 sl24 .none Z o8 ?_;refine ev (xaB (ι:=Nat) hk (fun i=>[(6,.d (.i (i:Int))),(5,.gl 1 ((l.take i).map Fu.c))]) [9,10,11,12,13,14,15,16,17,18,19,20,21,22,23,24,25,26,27,28,29,30,31,32,33,34,35,36,37] (fun i=>[(1,some (.tok (((l.take i).map Fu.c)).length 6))]) (fun i=>i<=l.length) (fun i=>l.length-i) 0 od ⟨⟨_,Z,xaU ?_⟩,⟨⟨_,Z,LeA.glg ?_⟩,O⟩⟩ ⟨zac ?_,O⟩ (fun x=>rfl) (fun i hg1=>?_));iterate 3 focus (rfl)
 refine evc [] [] ?_;apply sq<;>intro h1 h1p h1s<;>(try simp only[Q,xal,xac] at h1p);refine ixq (i:=i) sl24 Z Z Z (zah od) Z ?_;refine evd [] [] (xb8 2 sl32 .none Z o8 ?_);refine evd [] [] (ixq (i:=i) sl24 Z Z Z (zah od) Z ?_);refine evd [] [] (Walk.append sl32 zz78 Z .none Z Z Z Z (za3 Z ow) o6 (by first|(simp;omega)|(have:=hgi i od;simp[xaJ];omega)) (by first|(simp;omega)|(have:=hgi i od;simp[xaJ];omega)) ?_);refine xb8 3 sl33 .none Z o8 ?_;refine evd [] [] (ixq (i:=i) sl24 Z Z Z (zah od) Z ?_);refine evd [] [] (Walk.append sl33 zz40 Z .none Z Z Z Z (za3 Z (by(simp;done))) (by exact xaK) (by(have:=hgi i od;simp[xaJ];omega)) (by(have:=hgi i od;simp[xaJ];omega)) ?_);refine bu [0,1,2] [_,_,_] st35 ?_;refine si [0] [_] sl24 tz35 ?_;refine Walk.append sl24 zz35 Z .none Z Z Z Z (za3 Z o8) (by(intro y hy;simp at hy;subst hy;rfl)) (by(simp;omega)) (by(simp;omega)) ?_;refine evd [] [] (dr2 [2,3] ?_ o8);refine ar (xaj (i+1) ⟨od,od,sx ⟨⟨_,Z,xaU ?_⟩,⟨⟨_,Z,LeA.glg ?_⟩,O⟩⟩ ⟨zac ?_,O⟩⟩);iterate 3 focus (first|rfl|exact zmH od|(simp;omega))
 obtain rfl:i=l.length:=od;rw[List.take_length];apply sq<;>intro h2 h2p h2s;try simp only[Q,xal,xac] at h2p
 exfalso;exact hne (List.eq_nil_of_length_eq_zero od);refine wd zd7 hp1 Z Z ⟨Z,O⟩ ?_;refine ev (wd zd7 hp2 Z Z ⟨Z,O⟩ ?_);apply tv;apply sq<;>intro h3 h3p h3s;try simp only[Q,xal,xac] at h3p
 exfalso;omega;apply sq<;>intro h4 h4p h4s;try simp only[Q,xal,xac] at h4p
 exfalso;omega;apply sq<;>intro h5 h5p h5s;try simp only[Q,xal,xac] at h5p
 refine xbL (i:=f) sl24 .none Z Z Z Z (zah od) Z ?_;refine ev ?_;apply sq<;>intro h6 h6p h6s;try simp only[Q,xal,xac] at h6p
 exfalso;rw[kc od] at h6p;exact absurd h6p om;refine rn [(900,some (rdB b (q+2)))] (r1 Z) (.gld ?_) ⟨Z,Z⟩ (SubO.get ⟨.inr ?_,⟨.inl Z,O⟩⟩) (zaQ Z);rotate_left 2;apply sq<;>intro h7 h7p h7s<;>(try simp only[Q,xal,xac] at h7p);refine xbD (b:=f) sl24 .none Z Z Z (by exact zen _) Z Z ot ?_;refine ev (rn [(900,some (rdB b (q+2)))] (r1 Z) (.eqd ?_) ⟨Z,Z⟩ (SubO.get ⟨.inr ?_,⟨.inl Z,O⟩⟩) (zaQ Z));rotate_left 2;apply sq<;>intro h8 h8p h8s<;>(try simp only[Q,xal,xac] at h8p);refine xaB (ι:=Nat) hk (fun k=>[(5,.gl 1 ((l++List.replicate k (nth l 0)).map Fu.c))]) [106,107,108,109,110,111,112,113,114] (fun k=>[(1,some (.tok (((l++List.replicate k (nth l 0)).map Fu.c)).length 6))]) (fun k=>k<=5-l.length) (fun k=>5-l.length-k) 0 od ⟨⟨_,Z,LeA.glg ?_⟩,O⟩ ⟨zac ?_,O⟩ (fun x=>rfl) (fun k hg2=>?_);iterate 2 focus ((simp;done))
 refine evc [] [] ?_;apply sq<;>intro h9 h9p h9s<;>(try simp only[Q,xal,xac] at h9p);refine xbL (i:=0) sl24 .none Z Z Z Z (zyF hne) Z (ev (si [0] [_] sl24 tz35 ?_));refine Walk.append sl24 zz35 Z .none Z Z Z Z (za3 Z o8) (by(intro y hy;simp at hy;subst hy;rfl)) (by(simp;omega)) (by(simp;omega)) ?_;refine ev (xaj (k+1) ⟨(by simp at *;omega),(by simp at *;omega),sx ⟨⟨_,Z,LeA.glg ?_⟩,O⟩ ⟨zac ?_,O⟩⟩);iterate 2 focus (first|exact zxs _ _ _|(simp;omega))
 refine rn [(900,some (rdB b (q+2)))] (r1 Z) (.gld ?_) ⟨Z,Z⟩ (SubO.get ⟨.inr ?_,⟨.inl Z,O⟩⟩) (zaQ Z);rotate_left 2;apply sq<;>intro h10 h10p h10s<;>(try simp only[Q,xal,xac] at h10p);refine xbL (i:=f) sl24 .none Z Z Z Z (zah od) Z ?_;refine ev ?_;apply sq<;>intro h11 h11p h11s<;>(try simp only[Q,xal,xac] at h11p);exfalso;have:=kd od;omega;refine rn [(900,some (rdB b (q+2)))] (r1 Z) (.gld ?_) ⟨Z,Z⟩ (SubO.get ⟨.inr ?_,⟨.inl Z,O⟩⟩) (zaQ Z);rotate_left 2;refine rn [(900,some (rdB b (q+2)))] (r1 Z) (.gld ?_) ⟨Z,Z⟩ (SubO.get ⟨.inr ?_,⟨.inl Z,O⟩⟩) (zaQ Z);rotate_left 2;all_goals (first|((first|(rw[r od od];all_goals rfl)|(rw[r4 od,show 5-l.length=k by simp at *;omega];all_goals rfl)|(rw[r3 od];show D.sl _=D.sl ((l.take f).map Fu.c);rw[List.map_take]));done)|(rfl))
theorem zmy {b:Str} (hb:b.length<=2000){l:List Fu}{q f:Nat} (hq:q<=100000) (hl:l.length<=5) (hne:l≠[]) (hf:zax b q l.length=(f:Nat)) (hfl:f<l.length) (hg:∀x∈l,x.cls.length<=100/\x.bodies.length<=100)
  (hK:zax b (q+1) 24=0):
  FnD Tryz.prog 27 [.ref 900 0,.d (zbB l)] [(900,some (rdB b q))] (.d (zbB (l.set f ((nth l f).idx (numV b (q+2) [1,2,4,0]))))) [(900,some (rdB b (q+3)))]:=by
 have hp1:=zbu (b:=b) (p:=q) (n:=(((l.map Fu.c).length:Nat):Int)) hb od ot;rw[show zax b q (((l.map Fu.c).length:Nat):Int)=(f:Int) by rw[xac];exact hf] at hp1;have hp2:=zbu (b:=b) (p:=q+1) (n:=24) hb od od;rw[hK] at hp2;have hgi:=fun(i:Nat) (h:i<l.length)=>hg (nth l i) (zaf h);refine bd Tryz.f27 145 [39,44] [11,26] fun _ _ _ _ hk=>?_;refine xca 1 sl24 .none Z o8 ?_;refine evs [39,44] [] (xaB (ι:=Nat) hk (fun i=>[(6,.d (.i (i:Int))),(5,.gv 1 ((l.take i).map Fu.c))]) [9,10,11,12,13,14,15,16,17,18,19,20,21,22,23,24,25,26,27,28,29,30,31,32,33,34,35,36,37] (fun i=>[(1,some (.tok (((l.take i).map Fu.c)).length 6))]) (fun i=>i<=l.length) (fun i=>l.length-i) 0 od ⟨⟨_,Z,xaU ?_⟩,⟨⟨_,Z,LeA.gvg ?_⟩,O⟩⟩ ⟨zac ?_,O⟩ (fun x=>rfl) (fun i hg1=>?_));iterate 3 focus (rfl)
 refine evc [39,44] [11,26] ?_;apply sq<;>intro h1 h1p h1s<;>(try simp only[Q,xal,xac] at h1p);refine ixq (i:=i) sl24 Z Z Z (zah od) Z ?_;refine evd [39,44] [] (xb8 2 sl32 .none Z o8 ?_);refine evd [39,44] [] (ixq (i:=i) sl24 Z Z Z (zah od) Z ?_);refine evd [39,44] [] (Walk.append sl32 zz78 Z .none Z Z Z Z (za3 Z ow) o6 (by first|(simp;omega)|(have:=hgi i od;simp[xaJ];omega)) (by first|(simp;omega)|(have:=hgi i od;simp[xaJ];omega)) ?_);refine xb8 3 sl33 .none Z o8 ?_;refine evd [39,44] [] (ixq (i:=i) sl24 Z Z Z (zah od) Z ?_);refine evd [39,44] [] (Walk.append sl33 zz40 Z .none Z Z Z Z (za3 Z (by(simp;done))) (by exact xaK) (by(have:=hgi i od;simp[xaJ];omega)) (by(have:=hgi i od;simp[xaJ];omega)) ?_);refine bu [0,1,2] [_,_,_] st35 ?_;refine si [0] [_] sl24 tz35 ?_;refine xbq sl24 zz35 .none Z Z Z Z (za3 Z o8) (by(intro y hy;simp at hy;subst hy;rfl)) (by(simp;omega)) (by(simp;omega)) ?_;refine evd [39,44] [] (dr2 [2,3] ?_ o8);refine ar (xaj (i+1) ⟨od,od,sx ⟨⟨_,Z,xaU ?_⟩,⟨⟨_,Z,LeA.gvg ?_⟩,O⟩⟩ ⟨zac ?_,O⟩⟩);iterate 3 focus (first|rfl|exact zmH od|(simp;omega))
 obtain rfl:i=l.length:=od;rw[List.take_length];refine xbP sl24 .none Z Z (evs [39,44] [] ?_);apply sq<;>intro h2 h2p h2s;try simp only[Q,xal,xac] at h2p
 exfalso;exact hne (List.eq_nil_of_length_eq_zero od);refine xbP sl24 .none Z Z (wd zd7 hp1 Z Z ⟨Z,O⟩ ?_);refine evs [39,44] [] (wd zd7 hp2 Z Z ⟨Z,O⟩ ?_);apply tv;apply sq<;>intro h3 h3p h3s;refine xaz hk 5 1 6 Z Z Z (fun hx4=>?_) (fun hx4=>?_);exfalso;exact hne (List.map_eq_nil_iff.1 hx4);refine evc [39,44] [] (si [0,1,2,3] [_,_,_,_] sl37 tz3 ?_);refine wd ztk (ziM (p:=q+2) (l:=[1,2,4,0]) hb od oi oi) Z Z ⟨Z,O⟩ ?_;refine xbM (i:=f) sl24 .none Z Z Z Z ot ?_;refine evs [39,44] [] (Walk.store ty3 .none Z Z Z Z Z Z oi ((zoP (j:=3) (y:=(nth l f).idx (numV b (q+2) [1,2,4,0])) od od hfl Z)) ?_);apply tv;refine xaA hk 5 1 _ 6 (es:=(l.set f ((nth l f).idx (numV b (q+2) [1,2,4,0]))).map Fu.c) Z Z (zfr oi) Z ?_;refine evc [39,44] [] (rn [(900,some (rdB b (q+3)))] (r1 Z) (.eqd ?_) ⟨Z,Z⟩ (SubO.get ⟨.inr ?_,⟨.inl Z,O⟩⟩) (zaQ Z));rotate_left 2;exfalso;exact absurd h3 om;all_goals (first|((rfl);done)|(rfl))
theorem zmz {b:Str} (hb:b.length<=2000){l:List Fu}{q f:Nat} (hq:q<=100000) (hl:l.length<=5) (hne:l≠[]) (hf:zax b q l.length=(f:Nat)) (hfl:f<l.length) (hg:∀x∈l,x.cls.length<=100/\x.bodies.length<=100)
  (hK:zax b (q+1) 24=5) (kc:1<(nth l f).cls.length) (hb1:1<=(nth l f).bodies.length):
  FnD Tryz.prog 27 [.ref 900 0,.d (zbB l)] [(900,some (rdB b q))] (.d (zbB (l.set f (nth l f).cut))) [(900,some (rdB b (q+2)))]:=by
 have hp1:=zbu (b:=b) (p:=q) (n:=(((l.map Fu.c).length:Nat):Int)) hb od ot;rw[show zax b q (((l.map Fu.c).length:Nat):Int)=(f:Int) by rw[xac];exact hf] at hp1;have hp2:=zbu (b:=b) (p:=q+1) (n:=24) hb od od;rw[hK] at hp2;have hgi:=fun(i:Nat) (h:i<l.length)=>hg (nth l i) (zaf h);have hcl:((nth l f).cls.map Cl.c).drop 1=((nth l f).cls.drop 1).map Cl.c:=List.map_drop.symm;have hbl:(Ex.cs (nth l f).bodies).drop 1=Ex.cs ((nth l f).bodies.drop 1):=by rw[xaH,xaH,List.map_drop]
 refine bd Tryz.f27 145 [39,44,121,130,140] [23,26] fun _ _ _ _ hk=>?_;refine xca 1 sl24 .none Z o8 ?_;refine evs [39,44,121,130,140] [] (xaB (ι:=Nat) hk (fun i=>[(6,.d (.i (i:Int))),(5,.gv 1 ((l.take i).map Fu.c))]) [9,10,11,12,13,14,15,16,17,18,19,20,21,22,23,24,25,26,27,28,29,30,31,32,33,34,35,36,37] (fun i=>[(1,some (.tok (((l.take i).map Fu.c)).length 6))]) (fun i=>i<=l.length) (fun i=>l.length-i) 0 od ⟨⟨_,Z,xaU ?_⟩,⟨⟨_,Z,LeA.gvg ?_⟩,O⟩⟩ ⟨zac ?_,O⟩ (fun x=>rfl) (fun i hg1=>?_));iterate 3 focus (rfl)
 refine evc [39,44,121,130,140] [23,26] ?_;apply sq<;>intro h1 h1p h1s<;>(try simp only[Q,xal,xac] at h1p);refine ixq (i:=i) sl24 Z Z Z (zah od) Z ?_;refine evd [39,44,121,130,140] [] (xb8 2 sl32 .none Z o8 ?_);refine evd [39,44,121,130,140] [] (ixq (i:=i) sl24 Z Z Z (zah od) Z ?_);refine evd [39,44,121,130,140] [] (Walk.append sl32 zz78 Z .none Z Z Z Z (za3 Z ow) o6 (by first|(simp;omega)|(have:=hgi i od;simp[xaJ];omega)) (by first|(simp;omega)|(have:=hgi i od;simp[xaJ];omega)) ?_);refine xb8 3 sl33 .none Z o8 ?_;refine evd [39,44,121,130,140] [] (ixq (i:=i) sl24 Z Z Z (zah od) Z ?_);refine evd [39,44,121,130,140] [] (Walk.append sl33 zz40 Z .none Z Z Z Z (za3 Z (by(simp;done))) (by exact xaK) (by(have:=hgi i od;simp[xaJ];omega)) (by(have:=hgi i od;simp[xaJ];omega)) ?_);refine bu [0,1,2] [_,_,_] st35 ?_;refine si [0] [_] sl24 tz35 ?_;refine xbq sl24 zz35 .none Z Z Z Z (za3 Z o8) (by(intro y hy;simp at hy;subst hy;rfl)) (by(simp;omega)) (by(simp;omega)) ?_;refine evd [39,44,121,130,140] [] (dr2 [2,3] ?_ o8);refine ar (xaj (i+1) ⟨od,od,sx ⟨⟨_,Z,xaU ?_⟩,⟨⟨_,Z,LeA.gvg ?_⟩,O⟩⟩ ⟨zac ?_,O⟩⟩);iterate 3 focus (first|rfl|exact zmH od|(simp;omega))
 obtain rfl:i=l.length:=od;rw[List.take_length];refine xbP sl24 .none Z Z (evs [39,44,121,130,140] [] ?_);apply sq<;>intro h2 h2p h2s;try simp only[Q,xal,xac] at h2p
 exfalso;exact hne (List.eq_nil_of_length_eq_zero od);refine xbP sl24 .none Z Z (wd zd7 hp1 Z Z ⟨Z,O⟩ ?_);refine evs [39,44,121,130,140] [] (wd zd7 hp2 Z Z ⟨Z,O⟩ ?_);apply tv;apply sq<;>intro h3 h3p h3s;try simp only[Q,xal,xac] at h3p
 exfalso;omega;apply sq<;>intro h4 h4p h4s;try simp only[Q,xal,xac] at h4p
 exfalso;omega;apply sq<;>intro h5 h5p h5s;try simp only[Q,xal,xac] at h5p
 exfalso;omega;apply sq<;>intro h6 h6p h6s;try simp only[Q,xal,xac] at h6p
 exfalso;omega;apply sq<;>intro h7 h7p h7s;try simp only[Q,xal,xac] at h7p
 exfalso;omega;apply sq<;>intro h8 h8p h8s;refine xaz hk 5 1 6 Z Z Z (fun hx9=>?_) (fun hx9=>?_);exfalso;exact hne (List.map_eq_nil_iff.1 hx9);refine evc [39,44,121,130,140] [] (xbM (i:=f) sl24 .none Z Z Z Z ot ?_);refine evs [39,44,121,130,140] [] (xbR ty32 .none Z Z Z ((zoE (j:=4) od od hfl Z)) ?_);refine evs [39,44,121,130,140] [] ?_;apply sq<;>intro h10 h10p h10s;refine xbM (i:=f) sl24 .none Z Z Z Z ot ?_;refine evs [39,44,121,130,140] [] (xbR ty32 .none Z Z Z ((zoE (j:=4) od od hfl Z)) ?_);refine xbE (b:=1) sl32 .none Z Z Z (by exact zcs _) Z Z (by(simp;omega)) ?_;refine xbM (i:=f) sl24 .none Z Z Z Z ot ?_;refine evs [39,44,121,130,140] [] (Walk.store ty32 .none Z Z Z Z Z Z oi ((zoP (j:=4) (y:=⟨(nth l f).ty,(nth l f).cls.drop 1,(nth l f).bodies⟩) od od hfl (by rw[hcl];rfl))) ?_);apply tv;refine xbM (i:=f) sl24 .none Z Z Z Z ot ?_;refine evs [39,44,121,130,140] [] (xbR ty33 .none Z Z Z ((zoE (f:=f) (L:=l.set f ⟨(nth l f).ty,(nth l f).cls.drop 1,(nth l f).bodies⟩) (j:=5) (u:= .d (zbj (nth l f).bodies)) od od ot (by rw[zik hfl];rfl))) ?_);refine xbE (b:=1) sl33 .none Z Z Z (by exact xaK) Z Z (by(rw[xaJ];omega)) ?_;refine xbM (i:=f) sl24 .none Z Z Z Z ot ?_;refine evs [39,44,121,130,140] [] (Walk.store ty33 .none Z Z Z Z Z Z oi ((zoP (f:=f) (L:=l.set f ⟨(nth l f).ty,(nth l f).cls.drop 1,(nth l f).bodies⟩) (j:=5) (y:=(nth l f).cut) od od ot (by rw[zik hfl,hbl];rfl))) ?_);apply tv;rw[List.set_set];refine xaA hk 5 1 _ 6 (es:=(l.set f (nth l f).cut).map Fu.c) Z Z (zfr oi) Z ?_;refine evc [39,44,121,130,140] [] (rn [(900,some (rdB b (q+2)))] (r1 Z) (.eqd ?_) ⟨Z,Z⟩ (SubO.get ⟨.inr ?_,⟨.inl Z,O⟩⟩) (zaQ Z));rotate_left 2;try simp only[Q,xal,xac] at h10p
 exfalso;omega;exfalso;exact absurd h8 om;all_goals (first|((rfl);done)|(rfl))
theorem oj{p:Prop}(h:p:=by first|rfl|(simp only[zam,occH,occE,Res.ids,xai,List.nil_append,AV.idsL,AV.ids,zab,zaa,zag,zaq,xaf,List.map_nil,upC,xaq];rfl)):p:=h
theorem zmA {b:Str} (hb:b.length<=2000){l:List Fu}{q f:Nat} (hq:q<=100000) (hl:l.length<=5) (hne:l≠[]) (hf:zax b q l.length=(f:Nat)) (hfl:f<l.length) (hg:∀x∈l,x.cls.length<=100/\x.bodies.length<=100)
  (hK:zax b (q+1) 24=1):
  FnD Tryz.prog 27 [.ref 900 0,.d (zbB l)] [(900,some (rdB b q))] (.d (zbB (l.set f ((nth l f).bod ((nth l f).bodies++[zEx]))))) [(900,some (rdB b (q+2)))]:=by
 have hp1:=zbu (b:=b) (p:=q) (n:=((l.length:Nat):Int)) hb od od;rw[show zax b q ((l.length:Nat):Int)=(f:Int) by exact hf] at hp1;have hp2:=zbu (b:=b) (p:=q+1) (n:=24) hb od od;rw[hK] at hp2;have hgi:=fun(i:Nat) (h:i<l.length)=>hg (nth l i) (zaf h);refine bd Tryz.f27 145 [39,44,65,67] [5,13,26] fun _ _ _ _ hk=>?_;refine xb9 1 sl24 .none Z oj ?_;refine evs [39,44,65,67] [] (xaB (ι:=Nat) hk (fun i=>[(6,.d (.i (i:Int))),(5,.ga 1 i (c5 f i) (mA l f (.gv 5 (Ex.cs (nth l f).bodies)) i))]) [9,10,11,12,13,14,15,16,17,18,19,20,21,22,23,24,25,26,27,28,29,30,31,32,33,34,35,36,37] (fun i=>[(1,some (.tok i 6)),(5,(tk5 f i (Ex.cs (nth l f).bodies).length))]) (fun i=>i<=l.length) (fun i=>l.length-i) 0 od ⟨⟨_,Z,xaU ?_⟩,⟨⟨_,Z,xaW ?_⟩,O⟩⟩ ⟨zac ?_,⟨?_,O⟩⟩ (fun x=>rfl) (fun i hg1=>?_));iterate 3 focus (first|rfl|omega|exact⟨rfl,rfl,rfl⟩)
 focus (first|rfl|(rw[zhn od];all_goals rfl))
 refine evc [39,44,65,67] [5,13,26] ?_;apply sq<;>intro h1 h1p h1s<;>(try simp only[Q,xal] at h1p);rcases Nat.lt_trichotomy i f with hif|hif|hif
 rw[zhn od,c5_0 od];refine evc [39,44,65,67] [] (ixq (i:=i) sl24 Z Z Z (zah od) Z ?_);refine evd [39,44,65,67] [] (xb8 2 sl32 .none Z oj ?_);refine evd [39,44,65,67] [] (ixq (i:=i) sl24 Z Z Z (zah od) Z ?_);refine evd [39,44,65,67] [] (Walk.append sl32 zz78 Z .none Z Z Z Z (za3 Z ow) o6 (by first|(simp;omega)|(have:=hgi i od;simp[xaJ];omega)) (by first|(simp;omega)|(have:=hgi i od;simp[xaJ];omega)) ?_);refine xb8 3 sl33 .none Z oj ?_;refine evd [39,44,65,67] [] (ixq (i:=i) sl24 Z Z Z (zah od) Z ?_);refine evd [39,44,65,67] [] (Walk.append sl33 zz40 Z .none Z Z Z Z (za3 Z ow) o6 (by first|(simp;omega)|(have:=hgi i od;simp[xaJ];omega)) (by first|(simp;omega)|(have:=hgi i od;simp[xaJ];omega)) ?_);refine bu [0,1,2] [_,_,_] st35 ?_;refine xcb (id:=3036) sl24 tz35 Z om (ks:=[0]) (xs:=[_]) Z Z om om .none Z Z Z Z oj oj oj ?_;refine xbo [] (.cons (.refl _) (.cons (.refl _) (.cons (.refl _) (.cons (.refl _) (.cons (.gl _ _) (.cons (.gl _ _) .nil)))))) Z Z sl24 zz35 .none Z Z Z Z (za3 Z ow) Z Z Z (by first|(simp;omega)|(have:=hgi i od;simp[xaJ];omega)) (by first|(simp;omega)|(have:=hgi i od;simp[xaJ];omega)) ?_;refine evd [39,44,65,67] [] (dr2 [2,3,3036] ?_ oj);refine ar (xaj (i+1) ⟨od,od,sx ⟨⟨_,Z,xaU ?_⟩,⟨⟨_,Z,xaW ?_⟩,O⟩⟩ ⟨zac ?_,⟨?_,O⟩⟩⟩);iterate 3 focus (first|rfl|omega|exact⟨rfl,(c5_0 od).symm,zqs od od⟩)
 focus (first|rfl|(rw[zhn od];all_goals rfl))
 rw[zhn od,c5_0 od];refine evc [39,44,65,67] [] (ixq (i:=i) sl24 Z Z Z (zah od) Z ?_);refine evd [39,44,65,67] [] (xb8 2 sl32 .none Z oj ?_);refine evd [39,44,65,67] [] (ixq (i:=i) sl24 Z Z Z (zah od) Z ?_);refine evd [39,44,65,67] [] (Walk.append sl32 zz78 Z .none Z Z Z Z (za3 Z ow) o6 (by first|(simp;omega)|(have:=hgi i od;simp[xaJ];omega)) (by first|(simp;omega)|(have:=hgi i od;simp[xaJ];omega)) ?_);refine xca 5 sl33 .none Z oj ?_;refine evd [39,44,65,67] [] (ixq (i:=i) sl24 Z Z Z (zah od) Z ?_);refine evd [39,44,65,67] [] (xbq sl33 zz40 .none Z Z Z Z (za3 Z ow) o6 (by first|(simp;omega)|(have:=hgi i od;simp[xaJ];omega)) (by first|(simp;omega)|(have:=hgi i od;simp[xaJ];omega)) ?_);refine bu [0,1,2] [_,_,_] st35 ?_;refine xcb (id:=3036) sl24 tz35 Z om (ks:=[0]) (xs:=[_]) Z Z om om .none Z Z Z Z oj oj oj ?_;refine xbo [5] (.cons (.refl _) (.cons (.refl _) (.cons (.refl _) (.cons (.refl _) (.cons (.gl _ _) (.cons (.refl _) .nil)))))) Z Z sl24 zz35 .none Z Z Z Z (za3 Z ow) Z Z Z (by first|(simp;omega)|(have:=hgi i od;simp[xaJ];omega)) (by first|(simp;omega)|(have:=hgi i od;simp[xaJ];omega)) ?_;refine evd [39,44,65,67] [] (dr2 [2,5,3036] ?_ oj);refine ar (xaj (i+1) ⟨od,od,sx ⟨⟨_,Z,xaU ?_⟩,⟨⟨_,Z,xaW ?_⟩,O⟩⟩ ⟨zac ?_,⟨?_,O⟩⟩⟩);iterate 3 focus (first|rfl|omega|(refine⟨rfl,(c5_1 od).symm, ?_⟩;subst hif;exact zww od Z))
 focus (first|rfl|(rw[zhn od];all_goals rfl)|(subst hif;rw[ziv od];show some (Res.tok (0+_) 4)=some (Res.tok _ 4);rw[Nat.zero_add]))
 rw[ziv od,c5_1 od];refine evc [39,44,65,67] [] (ixq (i:=i) sl24 Z Z Z (zah od) Z ?_);refine evd [39,44,65,67] [] (xb8 2 sl32 .none Z oj ?_);refine evd [39,44,65,67] [] (ixq (i:=i) sl24 Z Z Z (zah od) Z ?_);refine evd [39,44,65,67] [] (Walk.append sl32 zz78 Z .none Z Z Z Z (za3 Z ow) o6 (by first|(simp;omega)|(have:=hgi i od;simp[xaJ];omega)) (by first|(simp;omega)|(have:=hgi i od;simp[xaJ];omega)) ?_);refine xb8 3 sl33 .none Z oj ?_;refine evd [39,44,65,67] [] (ixq (i:=i) sl24 Z Z Z (zah od) Z ?_);refine evd [39,44,65,67] [] (Walk.append sl33 zz40 Z .none Z Z Z Z (za3 Z ow) o6 (by first|(simp;omega)|(have:=hgi i od;simp[xaJ];omega)) (by first|(simp;omega)|(have:=hgi i od;simp[xaJ];omega)) ?_);refine bu [0,1,2] [_,_,_] st35 ?_;refine xcb (id:=3036) sl24 tz35 Z om (ks:=[0]) (xs:=[_]) Z Z om om .none Z Z Z Z oj oj oj ?_;refine xbo [5] (.cons (.refl _) (.cons (.refl _) (.cons (.refl _) (.cons (.refl _) (.cons (.gl _ _) (.cons (.gl _ _) .nil)))))) Z Z sl24 zz35 .none Z Z Z Z (za3 Z ow) Z Z Z (by first|(simp;omega)|(have:=hgi i od;simp[xaJ];omega)) (by first|(simp;omega)|(have:=hgi i od;simp[xaJ];omega)) ?_;refine evd [39,44,65,67] [] (dr2 [2,3,3036] ?_ oj);refine ar (xaj (i+1) ⟨od,od,sx ⟨⟨_,Z,xaU ?_⟩,⟨⟨_,Z,xaW ?_⟩,O⟩⟩ ⟨zac ?_,⟨?_,O⟩⟩⟩);iterate 3 focus (first|rfl|omega|exact⟨rfl,(c5_1 od).symm,zqs od od⟩)
 focus (first|rfl|(rw[zhn od];all_goals rfl)|(rw[ziv od];all_goals rfl))
 obtain rfl:i=l.length:=od;rw[ziv hfl,c5_1 hfl];refine xbO sl24 .none Z Z (evs [39,44,65,67] [] ?_);apply sq<;>intro h2 h2p h2s;try simp only[Q,xal] at h2p
 exfalso;exact hne (List.eq_nil_of_length_eq_zero od);refine xbO sl24 .none Z Z (wd zd7 hp1 Z Z ⟨Z,O⟩ ?_);refine evs [39,44,65,67] [] (wd zd7 hp2 Z Z ⟨Z,O⟩ ?_);apply tv;apply sq<;>intro h3 h3p h3s;try simp only[Q,xal] at h3p
 exfalso;omega;apply sq<;>intro h4 h4p h4s;refine CWp.fixA hk 5 1 6 Z Z Z Z (evc [39,44,65,67] [] (xbM (i:=f) sl24 .none Z Z Z Z (by first|omega|(simp;omega)) ?_));refine evd [39,44,65,67] [] (xbR ty33 .none Z Z Z ((zhO od hfl)) ?_);refine bu [0] [_] st40 ?_;refine xbP sl33 .none Z Z (si [0] [_] sl33 tz40 ?_);refine xbp hk Z oi sl33 zz40 .none Z Z Z Z (za3 Z (by first|rfl|(simp;done)|(simp;omega))) (by first|exact zcs _|exact xaK|exact zen _|(intro y hy;simp at hy;subst hy;rfl)) (by first|(simp;omega)|(have:=hgi i od;simp[xaJ];omega)|(have:=hgi f hfl;simp[xaJ];omega)) (by first|(simp;omega)|(have:=hgi i od;simp[xaJ];omega)|(have:=hgi f hfl;simp[xaJ];omega)) ?_;refine xbM (i:=((Ex.cs (nth l f).bodies).length)) sl33 .none Z Z Z Z (by first|omega|(simp;omega)|(simp;done)) ?_;refine Walk.store ty40 .none Z Z Z Z Z Z oi ((by first|exact znv od hfl|exact zsI rfl)) ?_;refine xbM (i:=f) sl24 .none Z Z Z Z (by first|omega|(simp;omega)) ?_;refine evd [39,44,65,67] [] (Walk.store ty33 .none Z Z Z Z Z Z oi ((by first|exact znv od hfl|exact zsI rfl)) ?_);refine dr (CWp.frzC hk 1 (f*6+5) 5 _ 4 (es:=Ex.cs ((nth l f).bodies++[zEx])) Z Z (zhO Z hfl) (zuU Z hfl) Z (ztZ Z) Z ?_);rw[zwx hfl];refine xaA hk 5 1 _ 6 (es:=(l.set f ((nth l f).bod ((nth l f).bodies++[zEx]))).map Fu.c) Z Z (zfr oi) Z ?_;refine evc [39,44,65,67] [] (rn [(900,some (rdB b (q+2)))] (r1 Z) (.eqd ?_) ⟨Z,Z⟩ (SubO.get ⟨.inr ?_,⟨.inl Z,O⟩⟩) (zaQ Z));rotate_left 2;exfalso;exact absurd h4 om;all_goals (first|((rfl);done)|(rfl))
theorem zmB {b:Str} (hb:b.length<=2000){l:List Fu}{q f:Nat} (hq:q<=100000) (hl:l.length<=5) (hne:l≠[]) (hf:zax b q l.length=(f:Nat)) (hfl:f<l.length) (hg:∀x∈l,x.cls.length<=100/\x.bodies.length<=100)
  (hK:zax b (q+1) 24=2){y:Ex}{r:List Ex} (hbo:(nth l f).bodies=y::r){n q1 q2:Nat}{v1 v2:Ex} (a1:mutE b n (q+2) y=some (v1,q1)) (a2:mutE b n q1 v1=some (v2,q2)) (hys:y.size<=10000000) (hq2:q2<=3010000):
  FnD Tryz.prog 27 [.ref 900 0,.d (zbB l)] [(900,some (rdB b q))] (.d (zbB (l.set f ((nth l f).bod (v2::r))))) [(900,some (rdB b (q2)))]:=by
 have hp1:=zbu (b:=b) (p:=q) (n:=((l.length:Nat):Int)) hb od od;rw[show zax b q ((l.length:Nat):Int)=(f:Int) by exact hf] at hp1;have hp2:=zbu (b:=b) (p:=q+1) (n:=24) hb od od;rw[hK] at hp2;have hgi:=fun(i:Nat) (h:i<l.length)=>hg (nth l i) (zaf h);have b1:=zdy a1;have b2:=zdy a2;have i1:=zdW hb n a1 od od;have i2:=zdW hb n a2 od od;have hcs:Ex.cs (nth l f).bodies=y.cc::Ex.cs r:=by rw[hbo,xaH,xaH];rfl
 have hcl:(Ex.cs (nth l f).bodies).length=(Ex.cs r).length+1:=by rw[hcs];rfl
 refine bd Tryz.f27 145 [39,44,79,86,93,95] [5,15,26] fun _ _ _ _ hk=>?_;refine xb9 1 sl24 .none Z o8 ?_;refine evs [39,44,79,86,93,95] [] (xaB (ι:=Nat) hk (fun i=>[(6,.d (.i (i:Int))),(5,.ga 1 i (c5 f i) (mA l f (.gv 5 (Ex.cs (nth l f).bodies)) i))]) [9,10,11,12,13,14,15,16,17,18,19,20,21,22,23,24,25,26,27,28,29,30,31,32,33,34,35,36,37] (fun i=>[(1,some (.tok i 6)),(5,(tk5 f i (Ex.cs (nth l f).bodies).length))]) (fun i=>i<=l.length) (fun i=>l.length-i) 0 od ⟨⟨_,Z,xaU ?_⟩,⟨⟨_,Z,xaW ?_⟩,O⟩⟩ ⟨zac ?_,⟨?_,O⟩⟩ (fun x=>rfl) (fun i hg1=>?_));iterate 3 focus (first|rfl|exact⟨rfl,rfl,rfl⟩)
 focus (rfl)
 refine evc [39,44,79,86,93,95] [5,15,26] ?_;apply sq<;>intro h1 h1p h1s<;>(try simp only[Q,xal] at h1p);rcases Nat.lt_trichotomy i f with hif|hif|hif
 rw[zhn od,c5_0 od];refine evc [39,44,79,86,93,95] [] (ixq (i:=i) sl24 Z Z Z (zah od) Z ?_);refine evd [39,44,79,86,93,95] [] (xb8 2 sl32 .none Z o8 ?_);refine evd [39,44,79,86,93,95] [] (ixq (i:=i) sl24 Z Z Z (zah od) Z ?_);refine evd [39,44,79,86,93,95] [] (Walk.append sl32 zz78 Z .none Z Z Z Z (za3 Z ow) o6 (by first|(simp;omega)|(have:=hgi i od;simp[xaJ];omega)) (by first|(simp;omega)|(have:=hgi i od;simp[xaJ];omega)) ?_);refine xb8 3 sl33 .none Z o8 ?_;refine evd [39,44,79,86,93,95] [] (ixq (i:=i) sl24 Z Z Z (zah od) Z ?_);refine evd [39,44,79,86,93,95] [] (Walk.append sl33 zz40 Z .none Z Z Z Z (za3 Z (by(simp;done))) (by exact xaK) (by(have:=hgi i od;simp[xaJ];omega)) (by(have:=hgi i od;simp[xaJ];omega)) ?_);refine bu [0,1,2] [_,_,_] st35 ?_;refine xcb (id:=3036) sl24 tz35 Z om (ks:=[0]) (xs:=[_]) Z Z om om .none Z Z Z Z o8 o8 o8 ?_;refine xbo [] (.cons (.refl _) (.cons (.refl _) (.cons (.refl _) (.cons (.refl _) (.cons (.gl _ _) (.cons (.gl _ _) .nil)))))) Z Z sl24 zz35 .none Z Z Z Z (za3 Z (by(simp;done))) Z Z Z (by(have:=hgi i od;simp[xaJ];omega)) (by(have:=hgi i od;simp[xaJ];omega)) ?_;refine evd [39,44,79,86,93,95] [] (dr2 [2,3,3036] ?_ o8);refine ar (xaj (i+1) ⟨od,od,sx ⟨⟨_,Z,xaU ?_⟩,⟨⟨_,Z,xaW ?_⟩,O⟩⟩ ⟨zac ?_,⟨?_,O⟩⟩⟩);iterate 3 focus (first|rfl|exact⟨rfl,(c5_0 od).symm,zqs od od⟩)
 focus ((rw[zhn od];all_goals rfl))
 rw[zhn od,c5_0 od];refine evc [39,44,79,86,93,95] [] (ixq (i:=i) sl24 Z Z Z (zah od) Z ?_);refine evd [39,44,79,86,93,95] [] (xb8 2 sl32 .none Z o8 ?_);refine evd [39,44,79,86,93,95] [] (ixq (i:=i) sl24 Z Z Z (zah od) Z ?_);refine evd [39,44,79,86,93,95] [] (Walk.append sl32 zz78 Z .none Z Z Z Z (za3 Z ow) o6 (by first|(simp;omega)|(have:=hgi i od;simp[xaJ];omega)) (by first|(simp;omega)|(have:=hgi i od;simp[xaJ];omega)) ?_);refine xca 5 sl33 .none Z o8 ?_;refine evd [39,44,79,86,93,95] [] (ixq (i:=i) sl24 Z Z Z (zah od) Z ?_);refine evd [39,44,79,86,93,95] [] (xbq sl33 zz40 .none Z Z Z Z (za3 Z (by(simp;done))) (by exact xaK) (by(have:=hgi i od;simp[xaJ];omega)) (by(have:=hgi i od;simp[xaJ];omega)) ?_);refine bu [0,1,2] [_,_,_] st35 ?_;refine xcb (id:=3036) sl24 tz35 Z om (ks:=[0]) (xs:=[_]) Z Z om om .none Z Z Z Z o8 o8 o8 ?_;refine xbo [5] (.cons (.refl _) (.cons (.refl _) (.cons (.refl _) (.cons (.refl _) (.cons (.gl _ _) (.cons (.refl _) .nil)))))) Z Z sl24 zz35 .none Z Z Z Z (za3 Z (by(simp;done))) Z Z Z (by(have:=hgi i od;simp[xaJ];omega)) (by(have:=hgi i od;simp[xaJ];omega)) ?_;refine evd [39,44,79,86,93,95] [] (dr2 [2,5,3036] ?_ o8);refine ar (xaj (i+1) ⟨od,od,sx ⟨⟨_,Z,xaU ?_⟩,⟨⟨_,Z,xaW ?_⟩,O⟩⟩ ⟨zac ?_,⟨?_,O⟩⟩⟩);iterate 3 focus (first|rfl|(refine⟨rfl,(c5_1 od).symm, ?_⟩;subst hif;exact zww od Z))
 focus ((subst hif;rw[ziv od];show some (Res.tok (0+_) 4)=some (Res.tok _ 4);rw[Nat.zero_add]))
 rw[ziv od,c5_1 od];refine evc [39,44,79,86,93,95] [] (ixq (i:=i) sl24 Z Z Z (zah od) Z ?_);refine evd [39,44,79,86,93,95] [] (xb8 2 sl32 .none Z o8 ?_);refine evd [39,44,79,86,93,95] [] (ixq (i:=i) sl24 Z Z Z (zah od) Z ?_);refine evd [39,44,79,86,93,95] [] (Walk.append sl32 zz78 Z .none Z Z Z Z (za3 Z ow) o6 (by first|(simp;omega)|(have:=hgi i od;simp[xaJ];omega)) (by first|(simp;omega)|(have:=hgi i od;simp[xaJ];omega)) ?_);refine xb8 3 sl33 .none Z o8 ?_;refine evd [39,44,79,86,93,95] [] (ixq (i:=i) sl24 Z Z Z (zah od) Z ?_);refine evd [39,44,79,86,93,95] [] (Walk.append sl33 zz40 Z .none Z Z Z Z (za3 Z (by(simp;done))) (by exact xaK) (by(have:=hgi i od;simp[xaJ];omega)) (by(have:=hgi i od;simp[xaJ];omega)) ?_);refine bu [0,1,2] [_,_,_] st35 ?_;refine xcb (id:=3036) sl24 tz35 Z om (ks:=[0]) (xs:=[_]) Z Z om om .none Z Z Z Z o8 o8 o8 ?_;refine xbo [5] (.cons (.refl _) (.cons (.refl _) (.cons (.refl _) (.cons (.refl _) (.cons (.gl _ _) (.cons (.gl _ _) .nil)))))) Z Z sl24 zz35 .none Z Z Z Z (za3 Z (by(simp;done))) Z Z Z (by(have:=hgi i od;simp[xaJ];omega)) (by(have:=hgi i od;simp[xaJ];omega)) ?_;refine evd [39,44,79,86,93,95] [] (dr2 [2,3,3036] ?_ o8);refine ar (xaj (i+1) ⟨od,od,sx ⟨⟨_,Z,xaU ?_⟩,⟨⟨_,Z,xaW ?_⟩,O⟩⟩ ⟨zac ?_,⟨?_,O⟩⟩⟩);iterate 3 focus (first|rfl|exact⟨rfl,(c5_1 od).symm,zqs od od⟩)
 focus ((rw[ziv od];all_goals rfl))
 obtain rfl:i=l.length:=od;rw[ziv hfl,c5_1 hfl];refine xbO sl24 .none Z Z (evs [39,44,79,86,93,95] [] ?_);apply sq<;>intro h2 h2p h2s;try simp only[Q,xal] at h2p
 exfalso;exact hne (List.eq_nil_of_length_eq_zero od);refine xbO sl24 .none Z Z (wd zd7 hp1 Z Z ⟨Z,O⟩ ?_);refine evs [39,44,79,86,93,95] [] (wd zd7 hp2 Z Z ⟨Z,O⟩ ?_);apply tv;apply sq<;>intro h3 h3p h3s;try simp only[Q,xal] at h3p
 exfalso;omega;apply sq<;>intro h4 h4p h4s;try simp only[Q,xal] at h4p
 exfalso;omega;apply sq<;>intro h5 h5p h5s;refine CWp.fixA hk 5 1 6 Z Z Z Z (CWp.fixVB 1 (f*6+5) 5 4 Z (zhO Z hfl) (znv Z hfl) Z Z (by rw[hcs];simp) ?_);refine evc [39,44,79,86,93,95] [] (xbM (i:=f) sl24 .none Z Z Z Z (by first|omega|(rw[hcl];omega)) ?_);refine evs [39,44,79,86,93,95] [] (xbR ty33 .none Z Z Z ((zhO od hfl)) ?_);refine evs [39,44,79,86,93,95] [] ?_;apply sq<;>intro h6 h6p h6s;refine xbM (i:=f) sl24 .none Z Z Z Z (by first|omega|(rw[hcl];omega)) ?_;refine evd [39,44,79,86,93,95] [] (xbR ty33 .none Z Z Z ((zhO od hfl)) ?_);refine evd [39,44,79,86,93,95] [] (xbM (i:=f) sl24 .none Z Z Z Z (by first|omega|(rw[hcl];omega)) ?_);refine evd [39,44,79,86,93,95] [] (xbR ty33 .none Z Z Z ((zhO od hfl)) ?_);refine xbM (i:=0) sl33 .none Z Z Z Z (by first|omega|(rw[hcl];omega)) ?_;refine xbS ty40 .none Z Z Z ((zwW hcs)) (wd zql i1 Z Z ⟨Z,O⟩ ?_);refine wd zql i2 Z Z ⟨Z,O⟩ ?_;refine xbM (i:=0) sl33 .none Z Z Z Z (by first|omega|(rw[hcl];omega)) ?_;refine Walk.store ty40 .none Z Z Z Z Z Z oi ((put0 hcs Z)) ?_;refine dr (CWp.frzC hk 1 (f*6+5) 5 _ 4 (es:=Ex.cs (v2::r)) Z Z (zhO Z hfl) (zuU Z hfl) Z (by rw[hcl];exact ztg) Z ?_);rw[zwx hfl];refine xaA hk 5 1 _ 6 (es:=(l.set f ((nth l f).bod (v2::r))).map Fu.c) Z Z (zfr oi) Z ?_;refine evc [39,44,79,86,93,95] [] (rn [(900,some (rdB b q2))] (r1 Z) (.eqd ?_) ⟨Z,Z⟩ (SubO.get ⟨.inr ?_,⟨.inl Z,O⟩⟩) (zaQ Z));rotate_left 2;try simp only[Q,xal] at h6p
 exfalso;rw[hcl] at h6p;omega;exfalso;exact absurd h5 om;all_goals (first|((rfl);done)|(rfl))
theorem zlO {b:Str} (hb:b.length<=2000){l l':List Fu}{q q':Nat} (hq:q<=3000) (hl:l.length<=5) (hg:∀f∈l,∃m,m<=9/\GoodF m f) (hm:MutF b q l l' q'):
  FnD Tryz.prog 27 [.ref 900 0,.d (zbB l)] [(900,some (rdB b q))] (.d (zbB l')) [(900,some (rdB b q'))]:=by
 rcases hm with ⟨rfl,rfl,rfl⟩|⟨hne,f,hf,hfl,hc⟩
 ·exact zk2
 have h100:∀x∈l,x.cls.length<=100/\x.bodies.length<=100:=fun x hx=>by
  obtain⟨m,h1,h2,h3,_⟩:=hg x hx;omega
 obtain⟨m,hm9,g1,g2,g3,g4⟩:=hg _ (zaf hfl);rcases hc with ⟨hK,rfl,rfl⟩|⟨hK,rfl,rfl⟩|⟨hK,y,r,n,v1,q1,v2,hbo,a1,a2,a3,rfl⟩|⟨hK,hbo,rfl,rfl⟩|⟨hK,rfl,rfl⟩|⟨hK,rfl,rfl⟩|⟨hK,h1,rfl,rfl⟩|⟨hK,h1,rfl,rfl⟩|⟨hK,rfl,rfl⟩
 ·exact zmy hb od hl hne hf hfl h100 hK
 ·exact zmA hb od hl hne hf hfl h100 hK
 ·exact zmB hb od hl hne hf hfl h100 hK hbo a1 a2 ((g4 y (by rw[hbo];simp)).2) a3
 ·exact zdq hb od hl hne hf hfl h100 od od (fun _=>hbo) od od od (fun _ _=>rfl)
 ·exact zdq hb od hl hne hf hfl h100 od od od od (fun _=>rfl) od od
 ·exact zdq hb od hl hne hf hfl h100 od od od od od (fun _=>rfl) od
 ·exact zmz hb od hl hne hf hfl h100 hK h1 od
 ·exact zdq hb od hl hne hf hfl h100 od od od (fun _=>h1) od od (fun _ _=>rfl)
 ·exact zdq hb od hl hne hf hfl h100 od od od od od od (fun _ _=>rfl)
theorem ztq (b:Str):(zlk b).length<=5/\∀f∈zlk b,∃m,m<=9/\GoodF m f:=zv1 (w:=zg6 b) (s:=zqp b) zh3
theorem zjb {b:Str} (hb:b.length<=1000000000000):∃l,(l.length<=5/\∀f∈l,GoodU f)/\FnD Tryz.prog 20 [.d (zd9 b)] [] (.tup [.d (zaj (zg6 (b.take 2000))),.d (zbB l)]) []:=by
 have hop:=zn3 hb;have hb2:(b.take 2000).length<=2000:=by rw[List.length_take];omega
 generalize b.take 2000=e at *;obtain⟨hl,hg⟩:=ztq e;obtain⟨l',q',hm⟩:=zuX hb2 (q:=2) od (zlk e);refine⟨l',zuW hm hl hg, ?_⟩;have hdr:=zn0 hb2;have hmu:=zlO hb2 od hl hg hm;generalize zlk e=l0 at *;refine bd Tryz.f20 18 [] [] fun _ _ _ _ hk=>?_;refine Walk.call (cr:=[900]) zy9 hop Z .none Z Z (LeL.refl _) O Z (by first|rfl|(simp only[zaH,List.all_cons,List.all_nil,zbo,za8,AV.idsL,AV.ids,zab,zaa,xaf,List.map_nil];rfl)) (by first|rfl|(simp only[zam,occH,occE,Res.ids,xai,List.nil_append,AV.idsL,AV.ids,zab,zaa,zag,zaq,xaf,List.map_nil,upC];rfl)) ?_;refine ev (wd zza hdr Z Z ⟨Z,O⟩ ?_);refine ev (wd zzb hmu Z Z ⟨Z,O⟩ ?_);refine ev ?_;focus (refine rn0 (r2 Z Z) (.tup (qee ?_ ?_));all_goals (first|rfl|(simp[];done)|(simp_all;done)|(simp_all;omega)|omega))
theorem zp1 {zs:List AV}:∀ {n i j:Nat},i<n->j<zs.length->(zbd n zs)[i*zs.length+j]?=zs[j]?
 |n+1,0,j,_,hj=>by
  simp only[zbd,Nat.zero_mul,Nat.zero_add];rw[List.getElem?_append_left hj]
 |n+1,i+1,j,hi,hj=>by
  simp only[zbd];rw[List.getElem?_append_right (by rw[Nat.add_mul];omega),show(i+1)*zs.length+j-zs.length=i*zs.length+j by rw[Nat.add_mul];omega];exact zp1 od hj
section
variable {c:Ctx}
theorem R.freshV {G:Gh}{s:St}{a:Act}{w:World} (hr:R c G s a w){id k nc:Nat}{es:List (List D)}{cells:Array Value}{e:TypeId} (htok:getH s.hp id=some (.tok 0 k)) (hpos:0<es.length)
  (hk:∀x,x∈es->x.length=k) (hcs:cells.size=nc*k) (hn:es.length<=nc)
  (hrow:∀i (hi:i<es.length) j (hj:j<es[i].length),RelD G.F w es[i][j] (cells.getD (i*k+j) undef)):
  ∃G',R c G' { s with hp:=(id,some (.tok es.length k))::s.hp } a (w.drew.alloc (.cells cells e))/\
   RelA G' (tokf ((id,some (.tok es.length k))::s.hp)) (w.drew.alloc (.cells cells e)) (.gv id es) (.slice (some ⟨w.heap.size,0,none⟩) es.length nc):=by
 let G':Gh:={ F:=G.F,loc:=fun j=>bif Nat.beq j id then [w.heap.size] else G.loc j }
 have hlt:∀b o,o<G.F b->b<w.heap.size:=fun b o ho=>by
  rcases Nat.lt_or_ge b w.heap.size with h|h
  ·exact h
  ·rw[hr.top b h] at ho;omega
 have hcell:∀b o,o<G.F b->o<G'.F b/\(w.drew.alloc (.cells cells e)).cell? ⟨b,o,none⟩=w.cell? ⟨b,o,none⟩:=fun b o ho=>by
  have hb:=hlt b o ho;exact⟨ho,by rw[World.cell?_alloc_lt w.drew _ _ hb];rfl⟩
 have hlocne:∀j,j≠id->G'.loc j=G.loc j:=fun j hj=>by
  have:Nat.beq j id=false:=by
   cases h:Nat.beq j id with
   |true=>exact absurd (xap h) hj
   |false=>rfl
  simp[G',this]
 have hlocid:G'.loc id=[w.heap.size]:=by simp[G']
 have hT':tokf ((id,some (.tok es.length k))::s.hp) id=some (es.length,k):=zar.2 (by rw[zal,if_pos rfl]);refine⟨G',hr.retok (G':=G') htok hpos hcell hlocne (fun b hb _=>⟨zek (w:=w.drew) hb,rfl⟩) (fun b hb=>by rw[hlocid] at hb;simp at hb;subst hb;simp)
  (fun b hb=>by rw[hlocid] at hb;simp at hb;exact .inr od) rfl rfl rfl oi (fun b hb=>?_), ?_⟩
 ·have hb':w.heap.size+1<=b:=by simpa using hb
  exact hr.top b od
 refine .gv ⟨_,_,Z⟩ (fun n' k' hm'=>?_);rw[hT'] at hm';cases hm'
 exact⟨Nat.le_refl _,fun _=>⟨hk,.inr ⟨w.heap.size,nc,cells,e,hlocid,rfl,hr.top _ (Nat.le_refl _),zd6 (w:=w.drew),by rw[hcs];exact Nat.le_refl _,hn,fun i hi j hj=>(hrow i hi j hj).mono hcell⟩⟩⟩
end
section
variable {c:Ctx}{all:Array Oper}{chk:List Rec->Prop}{os:List Oper}{recs:List Rec}{env:Env}{hp:Hp}{Q:St->Prop}
variable {d ty:Nat}{pos:String}{af:Array Edge}{g:Option (Nat×Bool)}{pg:List (Nat×AV)}{t:TypeId}{x y:Operand}
theorem RelA.nils_eq {G:Gh}{T:TokF}{w:World}{v:Value} (h:RelA G T w .nils v):v = .slice none 0 0:=by cases h;rfl
theorem Walk.capN {at_ e k yb:Nat} (ht:SlT c.P at_ e k yb) (hg:GH all env g pg) (hd:Nat.blt d c.n=true) (hx:opd env x=some .nils)
  (hn:Walk c all chk os (zap (pg++opF x .nils) [] [] ⟨some (d,.d (.i 0)),[]⟩::recs) ⟨(d,.d (.i 0))::env,hp⟩ Q):
  Walk c all chk (⟨some d,.call ⟨.builtin .cap,#[x],#[at_]⟩,ty,pos,af,g⟩::os) recs ⟨env,hp⟩ Q:=
 xb1 hg hd hx (fun a G T w h=>⟨.int .i64 (0:Nat),by
  simp[execOp,resolve,invoke,builtin,h.nils_eq,Builtin.cap_,run_underlying ht.und,goInt],.d (.int _ _)⟩) hn
theorem Walk.cutN_h {e k yb:Nat}{o:Operand}{kd:IntKind} (ht:SlT c.P t e k yb) (hg:GH all env g pg) (hd:Nat.blt d c.n=true)
  (hx:opd env x=some .nils) (ho:opd env o=some (.d (.int kd 0)))
  (hn:Walk c all chk os (zap (pg++(opF x .nils++opF o (.d (.int kd 0)))) [] [] ⟨some (d,.nils),[]⟩::recs) ⟨(d,.nils)::env,hp⟩ Q):
  Walk c all chk (⟨some d,.slice t x none (some o) none,ty,pos,af,g⟩::os) recs ⟨env,hp⟩ Q:=by
 refine xb2 hg hd hx ho (fun a G T w h1 h2=>⟨.slice none 0 0, ?_,.nils⟩) hn;have hbd:=ze4 (P:=c.P) (w:=w) true 0 0 (lo:=none) (hi:=some (.int kd (0:Nat))) (a:=0) (b:=0) (.inl ⟨rfl,rfl⟩) (.inr ⟨kd,rfl⟩) (Nat.le_refl _) (Nat.le_refl _);have e2:a.eval o = .int kd ((0:Nat):Int):=h2.int_eq;simp only[execOp,e2,h1.nils_eq,Option.map_none,Option.map_some,Instr.sliceAt,Sem.run_bind,run_underlying ht.und,Result.andThen_ok,Instr.slice,hbd,ht.run_size,Sem.run_pure,Nat.zero_mul,Nat.sub_zero,ite_self]
theorem Walk.growZ {e k yb n:Nat} (id:Nat){zs:List AV}{zr:List D}{tn:TypeId}{kn:IntKind}{m:Int} (ht:SlT c.P t e k yb) (htn:c.P.underlying tn=some (.int kn)) (hz:TyZ c.P e k zs) (hzk:zs.length=k) (hk:0<k) (hzr:toDL zs=some zr)
  (hg:GH all env g pg) (hd:Nat.blt d c.n=true) (hx:opd env x=some .nils) (hy:opd env y=some (.d (.i m))) (hm:m = ↑n) (hn0:0<n) (hb:n*yb<=281474976710656) (h63:(n:Int)<=9223372036854775807) (hf:zam env hp [id]=true)
  (hn:Walk c all chk os (zap (pg++(opF x .nils++opF y (.d (.i m)))) [] [id] ⟨some (d,.gv id (List.replicate n zr)),[(id,some (.tok n k)),(id,some (.tok 0 k))]⟩::recs)
   ⟨(d,.gv id (List.replicate n zr))::env,(id,some (.tok n k))::(id,some (.tok 0 k))::hp⟩ Q):
  Walk c all chk (⟨some d,.call ⟨.builtin .append,#[x,y],#[t,tn]⟩,ty,pos,af,g⟩::os) recs ⟨env,hp⟩ Q:=by
 refine⟨pg++(opF x .nils++opF y (.d (.i m))),[],[id],_, ?_,zav hg.facts (zav (za4 hx) (za4 hy)),by simp,zbD hf,hn⟩;intro s a w hrel hp' hh hcr K Q' hK;obtain⟨G,hr⟩:=hrel;have e1:=(hr.opd (za5 hx (fun p hm=>hp' p (by simp[hm])))).nils_eq;have e2:=(hr.opd (za5 hy (fun p hm=>hp' p (by simp[hm])))).int_eq;obtain⟨h0,hocc⟩:=hcr id oi;obtain⟨G1,hr1,_⟩:=hr.mkTokV k h0 hocc;obtain⟨ie,hi1,hi2,hi3⟩:=ht.inf;obtain⟨i',z,z1,z2,z3,z4⟩:=hz.inf;rw[hi1] at z1;cases z1
 have hrun:=Go.Lib.run_append_nil_zeros (P:=c.P) w t tn ty e ie z .i64 kn ht.und htn hi1 z3 n hn0 od h63 (by rw[hi3];exact hb);have hz0:=zcf (G:=G1) (T:=tokf ((id,some (.tok 0 k))::s.hp)) (w:=w) z4;have hzz:=zfI (by simpa using hz0) n od;obtain⟨c1,c2⟩:=ziw hzr;have hsz:z.cells.size=k:=by have:=hz0.1;simp at this;omega
 have hle:n<=grownCap w n 0 e:=by have:=grownCap_ge w n 0 e;omega
 have ez:Builtin.zeroCells z.cells n=(Array.range (n*zs.length)).map (z.cells[· % z.cells.size]!):=by
  unfold Builtin.zeroCells;rw[hsz,hzk]
 rw[<-ez] at hzz;have hl:(List.replicate n zr).length=n:=List.length_replicate;have hcs:(Builtin.zeroCells z.cells n++Builtin.zeroCells z.cells (grownCap w n 0 e-n)).size=grownCap w n 0 e*k:=by
  simp only[Array.size_append,size_zeroCells,hsz,<-Nat.add_mul];congr 1;omega
 have key:∀i (hi:i<(List.replicate n zr).length) j (hj:j<(List.replicate n zr)[i].length),RelD G1.F w (List.replicate n zr)[i][j] ((Builtin.zeroCells z.cells n++Builtin.zeroCells z.cells (grownCap w n 0 e-n)).getD (i*k+j) undef):=by
  intro i hi j hj;have hi2:i<n:=by simpa using hi
  have hj2:j<zr.length:=by simpa using hj
  have hj3:j<zs.length:=by omega
  have hlt:i*k+j<(Builtin.zeroCells z.cells n).size:=by
   rw[size_zeroCells,hsz];have:(i+1)*k<=n*k:=xav _ od;rw[Nat.add_mul] at this;omega
  have hlz:i*k+j<(zbd n zs).length:=by have:=hzz.1;rw[<-this];exact hlt
  have h5:=hzz.2 (i*k+j) hlz hlt;have h6:=zp1 (zs:=zs) hi2 hj3;rw[hzk,xan hlz,xan hj3] at h6;rw[Option.some.inj h6] at h5;have h7:=h5.toD (c2 j hj3 hj2);have e5:(Builtin.zeroCells z.cells n++Builtin.zeroCells z.cells (grownCap w n 0 e-n)).getD (i*k+j) undef=(Builtin.zeroCells z.cells n)[i*k+j]:=by
   rw[Array.getD_eq_getD_getElem?,Array.getElem?_append_left hlt,Array.getElem?_eq_getElem hlt];rfl
  rw[e5];simp only[List.getElem_replicate];exact h7
 obtain⟨G',hR,hA⟩:=hr1.freshV (nc:=grownCap w n 0 e) (e:=e) (es:=List.replicate n zr) (by rw[zal,if_pos rfl]) (by rw[hl];exact hn0) (fun y hy=>by obtain⟨_,rfl⟩:=List.mem_replicate.1 hy;omega) hcs (by rw[hl];exact hle) key;rw[hl] at hR hA;unfold wpO;rw[if_pos (hg.gf.wanted hr (fun p hm=>hp' p (by simp[hm])))];unfold Oper.wp;have:(execOp a.eval ⟨some d,.call ⟨.builtin .append,#[x,y],#[t,tn]⟩,ty,pos,af,g⟩).run c.P w = .ok (.value (.slice (some ⟨w.heap.size,0,none⟩) n (grownCap w n 0 e))) (w.drew.alloc (.cells (Builtin.zeroCells z.cells n++Builtin.zeroCells z.cells (grownCap w n 0 e-n)) e)):=by
  simp only[execOp,resolve,invoke,builtin,Sem.run_bind,Sem.run_pure,Result.andThen_ok,List.map_toArray,xaf,List.map_nil,e1,e2,hm,hrun]
 rw[this,Oper.upon_value];exact hK _ _ ⟨G',hR.put hA hd⟩
end
set_option maxHeartbeats 2000000
def zeb (C:List Pat) (q:Pat):List Pat:=C.map fun c=> .mk q.op q.ctor q.n q.m q.var (q.kids++[c])
theorem ztv {ls:List (List Pat)}{C:List Pat}{a b c d e:Int}:((zfq ls).map (fun l=>Pat.mk a b c d e l)).flatMap (zeb C)=(zfq (ls++[C])).map (fun l=>Pat.mk a b c d e l):=by
 rw[ztF];unfold zbp zeb;rw[List.flatMap_map,List.map_flatMap];congr 1
 funext q
 simp[zlr,zi5,mk_n,mk_m,zkE,ze2]
def zcx (p:Pat) (i:Nat):List Pat:=(zfq ((p.kids.take i).map zaG)).map fun l=>Pat.mk p.op p.ctor p.n p.m p.var l
theorem zvL (p:Pat):zcx p 0=[.mk p.op p.ctor p.n p.m p.var []]:=by unfold zcx;simp[zfq]
theorem zss {p:Pat}{i:Nat} (h:i<p.kids.length):(zcx p i).flatMap (zeb (zaG (nth p.kids i)))=zcx p (i+1):=by
 unfold zcx;rw[ztv,List.take_succ_eq_append_getElem h,xag,<-zaJ h];rfl
theorem ztt {p:Pat}{i:Nat} (h5:p.op≠5) (h:p.kids.length<=i):zcx p i=zaG p:=by
 unfold zcx;rw[zfw h5,List.take_of_length_le h]
theorem ztu {n:Nat}{p:Pat} (h:binP (n+1) p=true) (h5:p.op≠5) (i:Nat):(zcx p i).length<=(zaG p).length:=by
 unfold zcx;rw[xac];exact zsB h h5 i
theorem zsr {p:Pat}{i:Nat}{q:Pat} (h:q∈zcx p i):q.kids.length<=p.kids.length:=by
 unfold zcx at h;obtain⟨l,hl,rfl⟩:=List.mem_map.1 h;obtain⟨q0,hq,r,e,hlr,_⟩:=zkK _ _ _ hl;rw[List.mem_singleton] at hq;rw[hq,List.nil_append] at e;rw[ze2,e,hlr];simp;omega
theorem zpi {α β:Type}{f:α->List β}{k:Nat} (hf:∀x,(f x).length<=k):∀l:List α,(l.flatMap f).length<=l.length*k
 | []=>by simp
 |x::r=>by
  rw[List.flatMap_cons,xaa,xab,Nat.succ_mul];have:=hf x;have:=zpi hf r;omega
theorem o9{p:Prop}(h:p:=by intro x hx;first|(simp at hx;subst hx;rfl)|exact zhw _ x hx):p:=h
theorem zfo:∀(n:Nat){p:Pat},binP n p=true->p.ok->(zaG p).length<=40->FnD Tryz.prog 151 [.agg [.d (.i p.op),.d (.i p.ctor),.d (.i p.n),.d (.i p.m),.d (.i p.var),.d (zak p.kids)]] [] (.gl 9 (Pat.cs (zaG p))) [(9,some (.tok (Pat.cs (zaG p)).length 6))]
 |0,p,h,_,_=>by simp[binP] at h
 |n+1,p,h,hok,hlen=>by
  have hok':=(xa4 p).1 hok;have hok1:=hok'.1;by_cases h5:p.op=5
  ·have hl:=zlf h h5;have e5:=zh2 h5 hl;have l0:=zit h (i:=0) od;have l1:=zit h (i:=1) od;have c0:=zfo n (zeX h (i:=0) od) (xa6 hok'.2 _ (zaf od)) od;have c1:=FnD.glD (zfo n (zeX h (i:=1) od) (xa6 hok'.2 _ (zaf od)) od);rw[e5];refine bd Tryz.f151 70 [] [] fun _ _ _ _ hk=>?_;refine bx 3001 ?_;refine ev ?_;apply sq<;>intro h1 h1p h1s<;>(try simp only[Q,xa3] at h1p);refine ixq (i:=0) sl72 Z Z Z (zaE od) Z ?_;refine evd [] [] (Walk.call (cr:=[9]) zmR c0 Z .none Z Z (LeL.refl _) O Z Z Z (evd [] [] (ixq (i:=1) sl72 Z Z Z (zaE od) Z ?_)));refine evd [] [] (wc zmR c1 Z Z ?_);refine ap sl72 zz74 Z Z Z (by intro x hx;exact zcv _ x hx) ud ?_;refine evd [] [] (dr (rn [(9,some (.tok (Pat.cs (zaG (nth p.kids 0)++zaG (nth p.kids 1))).length 6))] (r1 Z) (.glg ?_) ⟨Z,Z⟩ (SubH.get ⟨?_,O⟩) (zaQ Z)));rotate_left 2;exfalso;omega;all_goals (first|((first|rfl|(simp[xa1];done));done)|(first|rfl|(simp[xa1];rfl)))
  ·have hfl:=ztu h h5;have hfk:=fun(i:Nat) (q:Pat) (hq:q∈zcx p i)=>zsr hq;have hf0:=zvL p;have hfe:=fun(i:Nat) (hi:p.kids.length<=i)=>ztt h5 hi;have hfn:=fun(i:Nat) (hi:i<p.kids.length)=>zss hi;have hcal:=fun(i:Nat) (hi:i<p.kids.length)=>FnD.glD (zfo n (zeX h hi) (xa6 hok'.2 _ (zaf hi)) (by have:=zit h hi;omega));have hcl:=fun(i:Nat) (hi:i<p.kids.length)=>zit h hi;have hgl:=fun(C:List Pat) (q:Pat)=>show(zeb C q).length<=C.length from by unfold zeb;simp
   generalize zaG p=SP at *;refine bd Tryz.f151 70 [8] [10,23] fun _ _ _ _ hk=>?_;refine bx 3001 ?_;refine evs [8] [] ?_;apply sq<;>intro h1 h1p h1s<;>(try simp only[Q,xa3] at h1p);exfalso;omega;refine so ty72 ?_;apply tv;refine xcc 9 sl72 tz74 Z om (ks:=[0]) (xs:=[_]) Z Z om om .none Z Z Z Z Z ?_;refine evs [8] [] (xaB (ι:=Nat) hk (fun i=>[(35,.d (.i (i:Int))),(4,.gl 9 ((zcx p i).map Pat.cc)),(32,.any)]) [6,7,8,10,12,13,36,37,38,39,40,41,42,43,44,45,46,47,48,49,50,51,52,53,54,55,56,57,58,59,60,61,62,63,64,65,66,67,68] (fun i=>[(9,some (.tok (((zcx p i).map Pat.cc)).length 6))]) (fun i=>i<=p.kids.length) (fun i=>p.kids.length-i) 0 od ⟨⟨_,Z,xaU ?_⟩,⟨⟨_,Z,LeA.glg ?_⟩,⟨⟨_,Z,.any _⟩,O⟩⟩⟩ ⟨zac ?_,O⟩ (fun x=>rfl) (fun i hg1=>?_));iterate 3 focus (rfl)
   refine evc [8] [10,23] ?_;apply sq<;>intro h2 h2p h2s<;>(try simp only[Q,xa3] at h2p);refine ixq sl72 Z Z Z (zaE od) Z ?_;refine evs [8] [] (ab 3006 tz74 ?_);refine so ty74 ?_;apply tv;refine wc zmR (hcal i od) Z Z ?_;refine evs [8] [] (CWp.tokDrop 4 9 Z Z (evc [8] [] (xbr 3 6 .none Z Z ?_)));apply tv;refine xaB (ι:=List (Pat)×List (Pat)) hk (fun x=>[(43,.d (.i (x.1.length:Int))),(8,.gl 3 ((x.1.flatMap (zeb (zaG (nth p.kids i)))).map Pat.cc))]) [10,12,13,44,45,46,47,48,49,50,51,52,53,54,55,56,57,58,59,60,61,62,63,64,65,66] (fun x=>[(3,some (.tok (((x.1.flatMap (zeb (zaG (nth p.kids i)))).map Pat.cc)).length 6))]) (fun x=>x.1++x.2=zcx p i) (fun x=>x.2.length) ([],zcx p i) oi ⟨⟨_,Z,xaU ?_⟩,⟨⟨_,Z,LeA.glg ?_⟩,O⟩⟩ ⟨zac ?_,O⟩ (fun x=>rfl) (fun x hg2=>?_);iterate 3 focus (rfl)
   obtain⟨pre2,rest2⟩:=x;dsimp only at hg2 ⊢;refine evc [8] [10,23] ?_;apply sq<;>intro h3 h3p h3s<;>(try simp only[Q,xa3] at h3p);rcases rest2 with _|⟨q,rest2⟩
   ·exfalso;simp_all
   have hqk:=hfk i q (by rw[<-hg2];simp);have hl2:=xam List.length hg2;simp only[xaa,xab] at hl2;have hl2b:=hfl i;refine ixq sl72 Z Z Z (zaA hg2) Z (evs [8] [] (ab 3010 tz74 ?_));refine so ty74 ?_;apply tv;refine xaB (ι:=List (Pat)×List (Pat)) hk (fun x=>[(49,.d (.i (x.1.length:Int))),(8,.gl 3 ((pre2.flatMap (zeb (zaG (nth p.kids i)))++zeb x.1 q).map Pat.cc))]) [12,13,50,51,52,53,54,55,56,57,58,59,60,61,62,63,64,65] (fun x=>[(3,some (.tok (((pre2.flatMap (zeb (zaG (nth p.kids i)))++zeb x.1 q).map Pat.cc)).length 6))]) (fun x=>x.1++x.2=zaG (nth p.kids i)) (fun x=>x.2.length) ([],zaG (nth p.kids i)) oi ⟨⟨_,Z,xaU ?_⟩,⟨⟨_,Z,LeA.glg ?_⟩,O⟩⟩ ⟨zac ?_,O⟩ (fun x=>rfl) (fun x hg3=>?_);iterate 3 focus ((simp[zeb];done))
   obtain⟨pre3,rest3⟩:=x;dsimp only at hg3 ⊢;refine evc [8] [10,23] ?_;apply sq<;>intro h4 h4p h4s<;>(try simp only[Q,xa3] at h4p);rcases rest3 with _|⟨y,rest3⟩
   ·exfalso;simp_all
   have hl3:=xam List.length hg3;simp only[xaa,xab] at hl3;have hl3b:=hcl i od;refine ixq sl72 Z Z Z (xaZ hg3) Z (evs [8] [] (ab 3012 tz74 ?_));refine so ty74 ?_;apply tv;refine ab 3013 tz74 ?_;refine so ty74 ?_;apply tv;refine Walk.call (cr:=[77]) zqP (zf7 (xs:=q.kids) od) Z .none Z Z (LeL.refl _) O Z Z Z ?_;refine evd [8] [] (si [0] [_] sl72 tz74 ?_);refine ap sl72 zz74 Z Z Z o9 (by first|(simp;omega)|(simp only[xa3,xaa,xab,xak];omega)) ?_;refine evd [8] [] (so ty72 ?_);refine dr (si [0] [_] sl72 tz74 ?_);refine ap sl72 zz74 Z Z Z (by intro x hx;first|(simp at hx;subst hx;rfl)|exact zcv _ x hx) (by first|(simp;omega)|(have h10:=hgl pre3 q;have h8:=xam List.length hg2;have h9:=xam List.length hg3;have h7:=zpi (hgl (zaG (nth p.kids i))) pre2;have h6:=hfl i;have h5:=hcl i od;simp only[xaa,xab,xac,xak] at *;have h4:pre2.length*(zaG (nth p.kids i)).length<=40*40:=Nat.mul_le_mul od od;omega)) ?_;refine asg ?_;apply tv;refine ar (xaj ((pre3++[y],rest3)) ⟨(by have hz:=hg3;rw[<-hz];simp),oi,sx ⟨⟨_,Z,xaU ?_⟩,⟨⟨_,Z,LeA.glg ?_⟩,O⟩⟩ ⟨zac ?_,O⟩⟩);iterate 3 focus (first|(simp[zeb];omega)|(simp[zeb,zlr,zi5,mk_n,mk_m,zkE,ze2,xa1];done))
   have hrest3:rest3=[]:=by
    rcases rest3 with _|⟨a,b⟩
    ·rfl
    ·exfalso;have hz:=xam List.length (hg3);simp only[xaa,xab,xac] at hz;omega
   subst hrest3;refine ar (xaj ((pre2++[q],rest2)) ⟨(by have hz:=hg2;rw[<-hz];simp),oi,sx ⟨⟨_,Z,xaU ?_⟩,⟨⟨_,Z,LeA.glg ?_⟩,O⟩⟩ ⟨zac ?_,O⟩⟩);iterate 3 focus (first|(simp;done)|(rw[xaq] at hg3;rw[List.flatMap_append,xag];simp[zeb,<-hg3];done))
   have hrest2:rest2=[]:=by
    rcases rest2 with _|⟨a,b⟩
    ·rfl
    ·exfalso;have hz:=xam List.length (hg2);simp only[xaa,xab,xac] at hz;omega
   subst hrest2;refine CWp.tokRen 4 3 9 Z Z oq ?_;refine evc [8] [] (ar ?_);rw[xaq] at hg2;refine xaj (i+1) ⟨od,od,sx ⟨⟨_,Z,xaU ?_⟩,⟨⟨_,Z,LeA.glg ?_⟩,⟨⟨_,Z,.any _⟩,O⟩⟩⟩ ⟨zac ?_,O⟩⟩;iterate 3 focus (first|rfl|(rw[<-hfn i od,<-hg2];done))
   refine rn [(9,some (.tok (Pat.cs SP).length 6))] (r1 Z) (.glg ?_) ⟨Z,Z⟩ (SubH.get ⟨?_,O⟩) (zaQ Z);rotate_left 2;all_goals ((((rw[<-hfe i od,show Pat.cs (zcx p i)=(zcx p i).map Pat.cc from xa1 _];all_goals rfl));done))
def zei (p:Pat):List Pat:=if (zaG (zaS p)).length<=40 then zaG (zaS p) else []
def zdm (p:Pat):Bool:=decide ((zaG (zaS p)).length<=40)
theorem zp6 {w:List Data}{n:Nat}{t:Ty}{p:Pat} (h:zat w n t p=true) (hok:p.ok):FnD Tryz.prog 167 [.agg [.d (.i p.op),.d (.i p.ctor),.d (.i p.n),.d (.i p.m),.d (.i p.var),.d (zak p.kids)]] [] (.tup [.d (zak (zei p)),.d (.bool (zdm p))]) []:=by
 have hb:=zin n h;have hbo:=zle p hok;have hce:=(zm9 n hb).1;have hbp:=zdt _ (Nat.le_refl _) hok;have hcs:=zeI _ (Nat.le_refl _) hbo;have hsp:=fun h40=>FnD.glD (zfo n hb hbo h40);rw[hce] at hcs;unfold zei zdm;generalize zaS p=b at *;by_cases h40:(zaG b).length<=40
 ·rw[if_pos h40,xax h40];have hc40:cap ((zaG b).length:Int)<=40:=by unfold cap;split<;>omega
  refine bd Tryz.f167 12 [] [] fun _ _ _ _ hk=>?_;refine bx 3001 ?_;refine ev (wc zkm hbp Z Z ?_);refine ab 3004 tz74 ?_;refine so ty74 ?_;apply tv;refine wc zmQ hcs Z Z ?_;refine ev ?_;apply sq<;>intro h1 h1p h1s<;>(try simp only[Q] at h1p);exfalso;omega;refine wc zmR (hsp h40) Z Z ?_;refine ev (rn0 (r2 Z Z) (.tup (qee ?_ ?_)));rotate_left 2;all_goals (rfl)
 ·rw[if_neg h40,xaw h40];have hc40:¬cap ((zaG b).length:Int)<=40:=by unfold cap;split<;>omega
  refine bd Tryz.f167 12 [] [] fun _ _ _ _ hk=>?_;refine bx 3001 ?_;refine ev (wc zkm hbp Z Z ?_);refine ab 3004 tz74 ?_;refine so ty74 ?_;apply tv;refine wc zmQ hcs Z Z ?_;refine ev ?_;apply sq<;>intro h1 h1p h1s<;>(try simp only[Q] at h1p);refine rn0 (r2 Z Z) (.tup (qne ?_ ?_));rotate_left 2;exfalso;omega;all_goals (rfl)
structure Spa (w:List Data):Prop where
 dp:Dp w
 ctors:∀t,InS (w.length*4) t->(zas w t).length<=4/\(zas w t).Nodup
 args:∀t c,InS (w.length*4) t->c∈zas w t->(zae w t c).length<=3
theorem zkr (k:Int):∀(l:List Ctor) (i:Nat),(za0 k i l).Pairwise (· < ·)
 | [],_=>by simp[za0]
 |x::r,i=>by
  unfold za0;have ih:=zkr k r (i+1);split
  ·refine List.pairwise_cons.2 ⟨fun y hy=>?_,ih⟩;obtain⟨j,rfl,h1,_⟩:=zgU k r (i+1) y hy;omega
  ·exact ih
theorem zsh {w:List Data} (hs:WSmall w) (hv:zaI w=true):Spa w:=by
 have hd:=zwg hs hv;have hW:=(zdo w).1 hv;refine⟨hd,fun t ht=>?_,fun t c ht hc=>?_⟩
 ·unfold zas;split
  ·simp
  ·rename_i he;refine⟨?_,(zkr _ _ _).imp (fun h=>by omega)⟩;rcases ht with h|⟨h1,h2⟩
   ·exact absurd h he
   ·have:=hd.ct _ h1;rw[h2] at this;exact this
 ·have hti:=zc2 ht;obtain⟨d,h1,h2,j,h3,h4⟩:=zbE (a:=t.data) (k:=t.index) hti hc;have hco:=hW.ctor _ (zaf h2) _ (zaf h4);simp only[zbT,xad,xah] at hco;unfold zae;rw[h1,h3];simp only[Int.toNat_natCast,xac];omega
abbrev intQ (n m:Int):Pat:= .mk 3 0 n m 0 []
abbrev zca (c:Int) (l:List Pat):Pat:= .mk 4 c 0 0 0 l
def zco (w:List Data) (t:Ty) (c:Int):Pat:=zca c ((zae w t c).map fun _=>anyQ)
def lowQ (p:Pat):Int:=if p.op=1 then 0 else p.n
def zdG (p:Pat):Int:=if p.op=1 then 9 else p.m
def minQ (a b:Int):Int:=if b<a then b else a
def maxQ (a b:Int):Int:=if a<b then b else a
def zcn (n m:Int):List Pat:=if n<=m then [intQ n m] else []
def zcV (f:Pat->Pat->Option Pat):List Pat->List Pat->List Pat->Option (List Pat)
 |p::r,q::s,acc=>match f p q with
  |none=>none
  |some x=>zcV f r s (acc++[x])
 |_,_,acc=>some acc
def zaV:Nat->Pat->Pat->Option Pat
 |0,_,_=>none
 |n+1,a,b=>if a.op=1 then some b else if b.op=1 then some a else if a.op=3 then (if maxQ a.n b.n<=minQ a.m b.m then some (intQ (maxQ a.n b.n) (minQ a.m b.m)) else none)
  else if a.ctor=b.ctor then (zcV (zaV n) a.kids b.kids []).map (zca a.ctor) else none
def zbb (f:Ty->Pat->Pat->List Pat) (c:Int):List Ty->List Pat->List Pat->List Pat->List Pat
 |u::r,x::s,y::q,front=>(f u x y).map (fun z=>zca c (front++[z]++s))++(match zaV 11 x y with
  |none=>[]
  |some both=>zbb f c r s q (front++[both]))
 |_,_,_,_=>[]
def zdH (f:Ty->Pat->Pat->List Pat) (w:List Data) (t:Ty) (a b:Pat):List Pat:=if a.ctor=b.ctor then zbb f a.ctor (zae w t a.ctor) a.kids b.kids [] else [a]
def zfg (a b:Pat):List Pat:=zcn (lowQ a) (minQ (zdG a) (b.n-1))++zcn (maxQ (lowQ a) (b.m+1)) (zdG a)
def zau (w:List Data):Nat->Ty->Pat->Pat->List Pat
 |0,_,_,_=>[]
 |n+1,t,a,b=>if b.op=1 then [] else if b.op=3 then zfg a b else if a.op=1 then (zas w t).flatMap fun c=>zdH (zau w n) w t (zco w t c) b else zdH (zau w n) w t a b
section
variable {w:List Data}{n:Nat}{t:Ty}{a b:Pat}
theorem zi3 (h:b.op=1):zau w (n+1) t a b=[]:=by unfold zau;rw[if_pos h]
theorem zlq (h:b.op=3):zau w (n+1) t a b=zfg a b:=by unfold zau;rw[if_neg od,if_pos h]
theorem zi4 (h:b.op=4) (h2:a.op=1):zau w (n+1) t a b=(zas w t).flatMap fun c=>zdH (zau w n) w t (zco w t c) b:=by
 conv=>lhs;unfold zau
 rw[if_neg od,if_neg od,if_pos h2]
theorem ze0 (h:b.op=4) (h2:a.op=4):zau w (n+1) t a b=zdH (zau w n) w t a b:=by
 conv=>lhs;unfold zau
 rw[if_neg od,if_neg od,if_neg od]
theorem znA (h:a.op=1):zaV (n+1) a b=some b:=by unfold zaV;rw[if_pos h]
theorem znB (h:a.op≠1) (h2:b.op=1):zaV (n+1) a b=some a:=by unfold zaV;rw[if_neg h,if_pos h2]
theorem znC (h:a.op=3) (h2:b.op≠1):zaV (n+1) a b=if maxQ a.n b.n<=minQ a.m b.m then some (intQ (maxQ a.n b.n) (minQ a.m b.m)) else none:=by
 conv=>lhs;unfold zaV
 rw[if_neg od,if_neg h2,if_pos h]
theorem znD (h:a.op=4) (h2:b.op≠1) (hc:a.ctor=b.ctor):zaV (n+1) a b=(zcV (zaV n) a.kids b.kids []).map (zca a.ctor):=by
 conv=>lhs;unfold zaV
 rw[if_neg od,if_neg h2,if_neg od,if_pos hc]
theorem zlp (h:a.op=4) (h2:b.op≠1) (hc:¬a.ctor=b.ctor):zaV (n+1) a b=none:=by
 conv=>lhs;unfold zaV
 rw[if_neg od,if_neg h2,if_neg od,if_neg hc]
end
theorem zcG {w:List Data}{n:Nat}{t:Ty}{p:Pat} (h:zao w n t p=true) (h3:p.op=3):t.data = -1/\0<=p.n/\p.n<=p.m/\p.m<=9:=by
 have ho:=(zhS h).1;unfold ownP at ho;have:=(xas ho).2.2.2.2;omega
theorem za6 {w:List Data}{n:Nat}{t:Ty}{p:Pat} (h:zao w n t p=true) (h4:p.op=4):p.ctor∈zas w t/\t.data≠ -1/\p.kids.length=(zae w t p.ctor).length/\p=zca p.ctor p.kids:=by
 obtain⟨ho,hl⟩:=zhS h;have hm:=zcF ho h4;refine⟨hm,fun e=>by unfold zas at hm;rw[if_pos e] at hm;simp at hm,by rw[zbP h4] at hl;exact hl, ?_⟩;unfold ownP at ho;have hh:=xas ho;have h1:=hh.2.1 od;have h2:=hh.2.2.1 od;obtain⟨op,c,m,k,v,ks⟩:=p;change op=4 at h4
 change v=0 at h1
 change m=0/\k=0 at h2
 rw[h4,h1,h2.1,h2.2];rfl
theorem zpt {w:List Data}{n:Nat}{t:Ty}{a b:Int} (ht:t.data = -1) (h0:0<=a) (h1:a<=b) (h2:b<=9):zao w (n+1) t (intQ a b)=true:=by
 unfold zao;have e:zai w t (intQ a b)=[]:=rfl;rw[e];have ho:ownP w t (intQ a b)=true:=by
  unfold ownP;refine xax ⟨fun h=>?_,fun _=>rfl,fun h=>absurd Z h,fun _=>rfl,.inr (.inr (.inr (.inr (.inl ⟨Z,ht,h0,h1,h2⟩))))⟩;exfalso;change (3:Int)=2\/(3:Int)=6 at h;omega
 rw[ho];rfl
theorem zjr {w:List Data}{n:Nat}{t:Ty}{c:Int}{l:List Pat} (hc:c∈zas w t) (hl:l.length=(zae w t c).length) (hk:∀i,i<l.length->zao w n (nth (zae w t c) i) (nth l i)=true):zao w (n+1) t (zca c l)=true:=by
 unfold zao;have e:zai w t (zca c l)=zae w t c:=zbP rfl;have ho:ownP w t (zca c l)=true:=by
  unfold ownP;refine xax ⟨fun h=>?_,fun _=>rfl,fun _=>⟨Z,Z⟩,fun h=>absurd Z h,.inr (.inr (.inr (.inr (.inr ⟨Z,hc⟩))))⟩;exfalso;change (4:Int)=2\/(4:Int)=6 at h;omega
 rw[ho,e,ze2];exact zci hl.symm (fun i hi=>hk i od)
theorem zls {w:List Data}{n m:Nat} (h:n<=m){t:Ty}{p:Pat} (hp:zao w n t p=true):zao w m t p=true:=by
 induction h with
 |refl=>exact hp
 |step _ ih=>exact zgK _ ih
theorem zeq {w:List Data}{n:Nat}{t:Ty}{c:Int} (hc:c∈zas w t):zao w (n+2) t (zco w t c)=true:=by
 unfold zco;refine zjr hc oi (fun i hi=>?_);have e:nth ((zae w t c).map fun _=>anyQ) i=anyQ:=by
  rw[zaJ hi];simp
 rw[e];exact zkf
theorem zny {f:Pat->Pat->Option Pat}{a b:List Pat}{i:Nat}{acc:List Pat} (h1:i<a.length) (h2:i<b.length) (h:f (nth a i) (nth b i)=none):zcV f (a.drop i) (b.drop i) acc=none:=by
 rw[zaF h1,zaF h2,zcV,h]
theorem znz {f:Pat->Pat->Option Pat}{a b:List Pat}{i:Nat}{acc:List Pat}{x:Pat} (h1:i<a.length) (h2:i<b.length) (h:f (nth a i) (nth b i)=some x):zcV f (a.drop i) (b.drop i) acc=zcV f (a.drop (i+1)) (b.drop (i+1)) (acc++[x]):=by
 rw[zaF h1,zaF h2,zcV,h]
theorem zfA {f:Pat->Pat->Option Pat}{a b:List Pat}{i:Nat}{acc:List Pat} (h1:a.length<=i):zcV f (a.drop i) (b.drop i) acc=some acc:=by
 rw[List.drop_eq_nil_of_le h1];cases b.drop i<;>rfl
theorem zjE {f:Pat->Pat->Option Pat}:∀ {a b acc l:List Pat},a.length=b.length->zcV f a b acc=some l->∃r,l=acc++r/\r.length=a.length/\∀i,i<a.length->f (nth a i) (nth b i)=some (nth r i)
 | [],[],acc,l,_,h=>by
  simp only[zcV,xae] at h;exact⟨[],by simp[h],rfl,fun i hi=>by simp at hi⟩
 |p::r,q::s,acc,l,hl,h=>by
  unfold zcV at h;cases hf:f p q with
  |none=>rw[hf] at h;cases h
  |some x=>
   rw[hf] at h;obtain⟨z,e,hz,hm⟩:=zjE (a:=r) (b:=s) (by simpa using hl) h;refine⟨x::z,by rw[e];simp,by simp[hz],fun i hi=>?_⟩;cases i with
   |zero=>exact hf
   |succ i=>exact hm i (by simpa using hi)
 | [],_::_,_,_,hl,_=>by simp at hl
 |_::_,[],_,_,hl,_=>by simp at hl
theorem zep {w:List Data}{n m:Nat}{t:Ty}{a b:Pat} (ha:zao w n t a=true) (hb:zao w m t b=true) (h1:a.op≠1) (h2:b.op≠1):a.op=b.op:=by
 have oa:=zcm ha;have ob:=zcm hb;rcases oa with h|h|h
 ·exact absurd h h1
 ·rcases ob with h' | h' | h'
  ·exact absurd h' h2
  ·omega
  ·exact absurd (zcG ha h).1 (za6 hb h').2.1
 ·rcases ob with h' | h' | h'
  ·exact absurd h' h2
  ·exact absurd (zcG hb h').1 (za6 ha h).2.1
  ·omega
theorem zxg (a b:Int):minQ a b<=a/\minQ a b<=b:=by unfold minQ;split<;>omega
theorem zxe (a b:Int):a<=maxQ a b/\b<=maxQ a b:=by unfold maxQ;split<;>omega
theorem zxh (a b:Int):minQ a b=a\/minQ a b=b:=by unfold minQ;split<;>omega
theorem zxf (a b:Int):maxQ a b=a\/maxQ a b=b:=by unfold maxQ;split<;>omega
theorem zpz {w:List Data}:∀(n m:Nat){t:Ty}{a b x:Pat},zao w m t a=true->zao w m t b=true->zaV n a b=some x->zao w m t x=true
 |0,m,t,a,b,x,_,_,h=>by simp[zaV] at h
 |n+1,0,t,a,b,x,ha,_,_=>by simp[zao] at ha
 |n+1,m+1,t,a,b,x,ha,hb,h=>by
  by_cases h1:a.op=1
  ·rw[znA h1] at h;cases h;exact hb
  by_cases h2:b.op=1
  ·rw[znB h1 h2] at h;cases h;exact ha
  have hs:=zep ha hb h1 h2;have oa:=zcm ha;by_cases h3:a.op=3
  ·rw[znC h3 h2] at h;split at h
   ·cases h
    have ia:=zcG ha h3;have ib:=zcG hb od;have q1:=zxh a.m b.m;have q2:=zxf a.n b.n;refine zpt ia.1 od ol od
   ·cases h
  have h4:a.op=4:=by omega
  by_cases hc:a.ctor=b.ctor
  ·rw[znD h4 h2 hc] at h;obtain⟨m1,m2,m3,m4⟩:=za6 ha h4;obtain⟨n1,n2,n3,n4⟩:=za6 hb od;rw[<-hc] at n3;cases hl:zcV (zaV n) a.kids b.kids [] with
   |none=>rw[hl] at h;cases h
   |some l=>
    rw[hl] at h;simp only[Option.map_some,xae] at h;subst h;obtain⟨r,e,hr,hm⟩:=zjE od hl;rw[List.nil_append] at e;subst e;refine zjr m1 od (fun i hi=>?_);have ka:=zbt ha (i:=i) od;have kb:=zbt hb (i:=i) od;rw[zbP h4] at ka;rw[zbP od,<-hc] at kb;exact zpz n m ka kb (hm i od)
  ·rw[zlp h4 h2 hc] at h;cases h
theorem znR {w:List Data}{n:Nat}{t:Ty}{a b:Int} (ht:t.data = -1) (h0:0<=a) (h2:b<=9):∀x∈zcn a b,zao w (n+1) t x=true:=by
 intro x hx;unfold zcn at hx;split at hx
 ·rename_i h1;rw[List.mem_singleton] at hx;rw[hx];exact zpt ht h0 h1 h2
 ·simp at hx
theorem zrw {w:List Data}{n:Nat}{t:Ty}{a:Pat} (ha:zao w n t a=true) (ht:t.data = -1):0<=lowQ a/\zdG a<=9/\lowQ a<=zdG a:=by
 have oa:=zcm ha;unfold lowQ zdG;by_cases h1:a.op=1
 ·rw[if_pos h1,if_pos h1];omega
 ·rw[if_neg h1,if_neg h1];by_cases h3:a.op=3
  ·have:=zcG ha h3;omega
  ·exact absurd ht (za6 ha od).2.1
theorem ztB (a b:Pat):(zfg a b).length<=2:=by
 have h:∀x y,(zcn x y).length<=1:=fun x y=>by unfold zcn;split<;>simp
 unfold zfg;rw[xaa];have:=h (lowQ a) (minQ (zdG a) (b.n-1));have:=h (maxQ (lowQ a) (b.m+1)) (zdG a);omega
theorem zsv {w:List Data}{f:Ty->Pat->Pat->List Pat}{m:Nat}{t:Ty}{c:Int} (hc:c∈zas w t) (hf:∀u x y,zao w m u x=true->zao w m u y=true->∀z∈f u x y,zao w m u z=true):
  ∀(i:Nat){xs bs front:List Pat},front.length=i->xs.length+i=(zae w t c).length->bs.length=xs.length->(∀j,j<i->zao w m (nth (zae w t c) j) (nth front j)=true)->
   (∀j,j<xs.length->zao w m (nth (zae w t c) (i+j)) (nth xs j)=true/\zao w m (nth (zae w t c) (i+j)) (nth bs j)=true)->
   ∀x∈zbb f c ((zae w t c).drop i) xs bs front,zao w (m+1) t x=true:=by
 intro i xs;induction xs generalizing i with
 |nil=>
  intro bs front _ _ _ _ _ x hx;cases hT:(zae w t c).drop i<;>(rw[hT] at hx;simp[zbb] at hx)
 |cons a0 s ih=>
  intro bs front hfl hal hbl hfr hab x hx;cases bs with
  |nil=>simp at hbl
  |cons b0 q=>
   have hi:i<(zae w t c).length:=by simp at hal;omega
   rw[zaF hi] at hx;have h0:=hab 0 oi;simp only[Nat.add_zero] at h0;have e0:nth (a0::s) 0=a0:=rfl;have e1:nth (b0::q) 0=b0:=rfl;rw[e0,e1] at h0;unfold zbb at hx;have hpiece:∀z,zao w m (nth (zae w t c) i) z=true->∀j,j<(front++[z]++s).length->zao w m (nth (zae w t c) j) (nth (front++[z]++s) j)=true:=fun z hz j hj=>by
    by_cases hj1:j<i
    ·have e:nth (front++[z]++s) j=nth front j:=by
      simp only[nth,List.getD,xar];rw[List.getElem?_append_left od]
     rw[e];exact hfr j hj1
    ·by_cases hj2:j=i
     ·have e:nth (front++[z]++s) j=z:=by
       simp only[nth,List.getD,xar];rw[List.getElem?_append_right od,show j-front.length=0 by omega];rfl
      rw[e,hj2];exact hz
     ·obtain⟨k,rfl⟩:∃k,j=i+1+k:=⟨j-(i+1),by omega⟩;have e:nth (front++[z]++s) (i+1+k)=nth (a0::s) (k+1):=by
       simp only[nth,List.getD,xar];rw[List.getElem?_append_right od,show i+1+k-front.length=k+1 by omega];rfl
      rw[e];have:=(hab (k+1) (by simp at hj ⊢;omega)).1;rwa [show i+(k+1)=i+1+k by omega] at this
   rcases List.mem_append.1 hx with hx|hx
   ·obtain⟨z,hz,rfl⟩:=List.mem_map.1 hx;refine zjr hc (by simp at hal ⊢;omega) (hpiece z (hf _ _ _ h0.1 h0.2 z hz))
   ·cases hm:zaV 11 a0 b0 with
    |none=>rw[hm] at hx;simp at hx
    |some both=>
     rw[hm] at hx;have hbp:=zpz 11 m h0.1 h0.2 hm;refine ih (i+1) (bs:=q) (front:=front++[both]) (by simp[hfl]) (by simp at hal ⊢;omega) (by simpa using hbl) (fun j hj=>?_) (fun j hj=>?_) x hx
     ·have:=hpiece both hbp j ot;have e:nth (front++[both]++s) j=nth (front++[both]) j:=by
       simp only[nth,List.getD];rw[List.getElem?_append_left ot]
      rwa [e] at this
     ·have:=hab (j+1) (by simpa using hj);rwa [show i+(j+1)=i+1+j by omega] at this
theorem zg9 {w:List Data}:∀(n m:Nat){t:Ty}{a b:Pat},n<m->zao w m t a=true->zao w n t b=true->∀x∈zau w n t a b,zao w m t x=true
 |0,m,t,a,b,_,_,hb=>by simp[zao] at hb
 |n+1,0,t,a,b,hn,_,_=>by omega
 |n+1,m+1,t,a,b,hn,ha,hb=>by
  have ob:=zcm hb;have oa:=zcm ha;have hf:∀u x y,zao w m u x=true->zao w n u y=true->∀z∈zau w n u x y,zao w m u z=true:=fun u x y hx hy=>zg9 n m od hx hy;have hcc:∀a,zao w (m+1) t a=true->a.op=4->b.op=4->∀x∈zdH (zau w n) w t a b,zao w (m+1) t x=true:=fun a ha h4 h4b=>by
   obtain⟨m1,m2,m3,m4⟩:=za6 ha h4;obtain⟨n1,n2,n3,n4⟩:=za6 hb h4b;intro x hx;unfold zdH at hx;split at hx
   ·rename_i hc;have key:=zsv (w:=w) (f:=fun u x y=>if zao w m u x=true/\zao w n u y=true then zau w n u x y else []) (m:=m) (t:=t) (c:=a.ctor) m1 (fun u x y hx hy z hz=>by
     split at hz
     ·rename_i hh;exact hf u x y hh.1 hh.2 z hz
     ·simp at hz) 0 (xs:=a.kids) (bs:=b.kids) (front:=[]) rfl od (by rw[hc] at m3;omega) (fun j hj=>by omega) (fun j hj=>by
      have ka:=zbt ha (i:=j) hj;have kb:=zbt hb (i:=j) (by rw[hc] at m3;omega);rw[zbP h4] at ka;rw[zbP h4b,<-hc] at kb;rw[Nat.zero_add];exact⟨ka,zls od kb⟩) x
    refine key ?_;have e:∀(ts:List Ty) (xs bs front:List Pat),(∀j,j<ts.length->j<xs.length->j<bs.length->zao w m (nth ts j) (nth xs j)=true/\zao w n (nth ts j) (nth bs j)=true)->
      zbb (fun u x y=>if zao w m u x=true/\zao w n u y=true then zau w n u x y else []) a.ctor ts xs bs front=zbb (zau w n) a.ctor ts xs bs front:=by
     intro ts;induction ts with
     |nil=>intro xs bs front _;simp[zbb]
     |cons u r ih=>
      intro xs bs front h;cases xs with
      |nil=>simp[zbb]
      |cons x s=>
       cases bs with
       |nil=>simp[zbb]
       |cons y q=>
        have h0:=h 0 oi oi oi;change zao w m u x=true/\zao w n u y=true at h0
        unfold zbb;rw[if_pos h0];congr 1
        cases hmm:zaV 11 x y with
        |none=>rfl
        |some both=>exact ih s q (front++[both]) (fun j h1 h2 h3=>h (j+1) (by simpa using h1) (by simpa using h2) (by simpa using h3))
    rw[List.drop_zero,e _ _ _ _ (fun j h1 h2 h3=>?_)]
    ·exact hx
    ·have ka:=zbt ha (i:=j) h2;have kb:=zbt hb (i:=j) h3;rw[zbP h4] at ka;rw[zbP h4b,<-hc] at kb;exact⟨ka,kb⟩
   ·rw[List.mem_singleton] at hx;rw[hx];exact ha
  rcases ob with h1|h3|h4
  ·rw[zi3 h1];simp
  ·rw[zlq h3];intro x hx;have hl:=zrw ha (zcG hb h3).1;have ib:=zcG hb h3;have q1:=zxg (zdG a) (b.n-1);have q2:=zxe (lowQ a) (b.m+1);unfold zfg at hx;rcases List.mem_append.1 hx with h|h
   ·exact znR ib.1 od od x h
   ·exact znR ib.1 od od x h
  ·by_cases ha1:a.op=1
   ·rw[zi4 h4 ha1];intro x hx;obtain⟨c,hc,hx⟩:=List.mem_flatMap.1 hx;refine hcc _ ?_ Z h4 x hx;obtain⟨k,rfl⟩:∃k,m=k+1:=⟨m-1,by omega⟩;exact zeq hc
   ·have ha4:a.op=4:=by
     have:=zep ha hb ha1 od;omega
    rw[ze0 h4 ha4];exact hcc a ha ha4 h4
theorem zhv {w:List Data} (hs:Spa w):∀(n:Nat){t:Ty}{p:Pat},InS (w.length*4) t->zao w n t p=true->p.ok/\p.size<=4 ^ n
 |0,t,p,_,h=>by simp[zao] at h
 |n+1,t,p,ht,h=>by
  have hk:=fun i (hi:i<p.kids.length)=>zbt h hi;have hl:=(zhS h).2;have op:=zcm h;have hpow:4 ^ (n+1)=4 ^ n*4:=rfl;have hpos:0<4 ^ n:=Nat.pow_pos od;by_cases h4:p.op=4
  ·obtain⟨m1,m2,m3,m4⟩:=za6 h h4;have h3:=hs.args t p.ctor ht m1;rw[zbP h4] at hk;have ih:∀k∈p.kids,k.ok/\k.size<=4 ^ n:=fun k hkm=>by
    obtain⟨i,hi,rfl⟩:=List.getElem_of_mem hkm;have e:nth p.kids i=p.kids[i]:=zaJ hi;have:=zhv hs n (zcz hs.dp ht m1 _ (zaf (i:=i) od)) (hk i hi);rwa [e] at this
   have hz:=xa9 (m:=4 ^ n) (fun k hk=>(ih k hk).2);rw[xa4,xa5];refine⟨⟨by omega,xa7 (fun k hk=>(ih k hk).1)⟩, ?_⟩;have:p.kids.length*4 ^ n<=3*4 ^ n:=xav _ od;omega
  ·have hk0:p.kids=[]:=ztK (zhe _ h) h4 od od;rw[xa4,xa5,hk0];exact⟨⟨by simp,trivial⟩,by simp only[Pats.size];omega⟩
theorem zpk {α:Type}{g:Int->List α}{c0:Int}{X:Nat}:∀ {cs:List Int},cs.Nodup->(∀c∈cs,c≠c0->(g c).length<=1)->(g c0).length<=X->(cs.flatMap g).length<=cs.length+X
 | [],_,_,_=>by simp
 |c::r,hn,h1,h2=>by
  obtain⟨n1,n2⟩:=List.nodup_cons.1 hn;rw[List.flatMap_cons,xaa,xab];by_cases hc:c=c0
  ·have key:∀l:List Int,c0∉l->(∀x∈l,x≠c0->(g x).length<=1)->(l.flatMap g).length<=l.length:=by
    intro l;induction l with
    |nil=>intro _ _;simp
    |cons y s ih=>
     intro hm hh;rw[List.flatMap_cons,xaa,xab];have a1:=hh y oi (fun e=>hm (by rw[e];simp));have a2:=ih (fun e=>hm (by simp[e])) (fun x hx=>hh x (by simp[hx]));omega
   have:=key r (by rw[<-hc];exact n1) (fun x hx=>h1 x (by simp[hx]));rw[hc];omega
  ·have a1:=h1 c oi hc;have a2:=zpk (X:=X) n2 (fun x hx=>h1 x (by simp[hx])) h2;omega
theorem znF {f:Ty->Pat->Pat->List Pat}{c:Int} (L:Pat->Nat):∀(ts:List Ty) (xs bs front:List Pat),(∀i,i<ts.length->i<xs.length->i<bs.length->(f (nth ts i) (nth xs i) (nth bs i)).length<=L (nth bs i))->(zbb f c ts xs bs front).length<=(bs.map L).sum
 | [],xs,bs,front,_=>by simp[zbb]
 |_::_,[],bs,front,_=>by simp[zbb]
 |_::_,_::_,[],front,_=>by simp[zbb]
 |u::r,x::s,y::q,front,h=>by
  have h0:=h 0 oi oi oi;change (f u x y).length<=L y at h0
  unfold zbb;rw[xaa,xac,xaf,List.sum_cons];cases hm:zaV 11 x y with
  |none=>simp;omega
  |some both=>
   have:=znF (c:=c) L r s q (front++[both]) (fun i h1 h2 h3=>h (i+1) (by simpa using h1) (by simpa using h2) (by simpa using h3));dsimp only;omega
theorem ztA {w:List Data}{f:Ty->Pat->Pat->List Pat}{t:Ty}{a b:Pat}{L:Pat->Nat} (h:∀i,i<(zae w t a.ctor).length->i<a.kids.length->i<b.kids.length->(f (nth (zae w t a.ctor) i) (nth a.kids i) (nth b.kids i)).length<=L (nth b.kids i)):
  (zdH f w t a b).length<=if a.ctor=b.ctor then (b.kids.map L).sum else 1:=by
 unfold zdH;split
 ·exact znF L _ _ _ _ h
 ·simp
theorem sum4:∀l:List Pat,(l.map fun b=>4*b.size).sum=4*Pats.size l
 | []=>rfl
 |k::r=>by simp only[xaf,List.sum_cons,Pats.size,sum4 r];omega
theorem zpA {w:List Data} (hs:Spa w):∀(n m:Nat){t:Ty}{a b:Pat},n<m->InS (w.length*4) t->zao w m t a=true->zao w n t b=true->(zau w n t a b).length<=4*b.size
 |0,m,t,a,b,_,_,_,hb=>by simp[zao] at hb
 |n+1,0,t,a,b,hn,_,_,_=>by omega
 |n+1,m+1,t,a,b,hn,ht,ha,hb=>by
  have ob:=zcm hb;have hz:=xa5 b;rcases ob with h1|h3|h4
  ·rw[zi3 h1];simp
  ·rw[zlq h3];have:=ztB a b;omega
  ·obtain⟨n1,n2,n3,n4⟩:=za6 hb h4;have hcc:∀a,zao w (m+1) t a=true->a.op=4->(zdH (zau w n) w t a b).length<=if a.ctor=b.ctor then 4*Pats.size b.kids else 1:=fun a ha h4a=>by
    obtain⟨m1,m2,m3,m4⟩:=za6 ha h4a;rw[<-sum4];by_cases hc:a.ctor=b.ctor
    ·have:=ztA (w:=w) (f:=zau w n) (t:=t) (a:=a) (b:=b) (L:=fun b=>4*b.size) (fun i h1 h2 h3=>by
      have ka:=zbt ha (i:=i) h2;have kb:=zbt hb (i:=i) h3;rw[zbP h4a] at ka;rw[zbP h4,<-hc] at kb;exact zpA hs n m od (zcz hs.dp ht m1 _ (zaf h1)) ka kb)
     exact this
    ·unfold zdH;rw[if_neg hc,if_neg hc];simp
   by_cases ha1:a.op=1
   ·rw[zi4 h4 ha1];obtain⟨c1,c2⟩:=hs.ctors t ht;have hw:∀c,c∈zas w t->(zdH (zau w n) w t (zco w t c) b).length<=if c=b.ctor then 4*Pats.size b.kids else 1:=fun c hc=>by
     obtain⟨k,rfl⟩:∃k,m=k+1:=⟨m-1,by omega⟩;exact hcc _ (zeq hc) Z
    have:=zpk (g:=fun c=>zdH (zau w n) w t (zco w t c) b) (c0:=b.ctor) (X:=4*Pats.size b.kids) c2 (fun c hc hne=>by have:=hw c hc;rwa [if_neg hne] at this) (by have:=hw _ n1;rwa [if_pos rfl] at this);omega
   ·have ha4:a.op=4:=by have:=zep ha hb ha1 od;omega
    rw[ze0 h4 ha4];have:=hcc a ha ha4;split at this<;>omega
theorem zmM {α β:Type} [Inhabited α] [Inhabited β]{f:α->β->Bool}:∀ {a:List α}{b:List β},a.length=b.length->all2 f a b=false->∃i,i<a.length/\f (nth a i) (nth b i)=false
 | [],[],_,h=>by simp[all2] at h
 |x::r,y::s,hl,h=>by
  simp only[all2,Bool.and_eq_false_iff] at h;rcases h with h|h
  ·exact⟨0,by simp,h⟩
  ·obtain⟨i,h1,h2⟩:=zmM (by simpa using hl) h;exact⟨i+1,by simpa using h1,h2⟩
 | [],_::_,hl,_=>by simp at hl
 |_::_,[],hl,_=>by simp at hl
theorem ziW {w:List Data}{f:Nat->Nat}{n:Nat}{t:Ty}{p:Pat} (h:p.op=1):za7 w f (n+1) t p=decide (dv f t=0):=by rw[zgs,if_pos (.inl h)]
theorem zoy {w:List Data}{f:Nat->Nat}{n m:Nat}{t:Ty}{p:Pat} (hp:zao w m t p=true) (h:p.op=3):za7 w f (n+1) t p=false:=by
 rw[zgs,if_neg od,if_neg od];have e:zai w t p=[]:=by unfold zai;rw[if_neg od,if_neg od,if_neg od]
 have hl:=(zhS hp).2;rw[e] at hl ⊢;rw[List.eq_nil_of_length_eq_zero hl];rfl
theorem zoz {w:List Data}{f:Nat->Nat}{n:Nat}{t:Ty}{p:Pat} (h:p.op=4):za7 w f (n+1) t p = !(all2 (fun u q=> !za7 w f n u q) (zae w t p.ctor) p.kids):=by
 rw[zgs,if_neg od,if_neg od,zbP h]
theorem zq6 {w:List Data}{f:Nat->Nat}{n m:Nat}{t:Ty}{p:Pat} (hp:zao w m t p=true) (h:p.op=4) (hd:za7 w f (n+1) t p=true):∃i,i<p.kids.length/\za7 w f n (nth (zae w t p.ctor) i) (nth p.kids i)=true:=by
 rw[zoz h] at hd;have hl:=(za6 hp h).2.2.1;obtain⟨i,h1,h2⟩:=zmM (a:=zae w t p.ctor) (b:=p.kids) (f:=fun u q=> !za7 w f n u q) hl.symm (by simpa using hd);exact⟨i,by omega,by simpa using h2⟩
theorem zhM {w:List Data}{f:Nat->Nat}{n:Nat}{t:Ty}{c:Int}{l:List Pat}{i:Nat} (hi:i<l.length) (hl:l.length=(zae w t c).length) (hd:za7 w f n (nth (zae w t c) i) (nth l i)=true):za7 w f (n+1) t (zca c l)=true:=by
 rw[zoz rfl];have:=zbJ (f:=fun u q=> !za7 w f n u q) (a:=zae w t c) (b:=l) (i:=i) od hl.symm (by rw[hd];rfl);show(!all2 (fun u q=> !za7 w f n u q) (zae w t c) l)=true
 rw[this];rfl
theorem zyL {w:List Data} (hd:Dp w){t:Ty}{c:Int} (ht:InS (w.length*4) t) (hc:c∈zas w t) (h0:dv (zaX w) t=0):∃i,i<(zae w t c).length/\dv (zaX w) (nth (zae w t c) i)=0:=by
 by_cases hx:∃i,i<(zae w t c).length/\dv (zaX w) (nth (zae w t c) i)=0
 ·exact hx
 ·exfalso;have a:Snd w (zaX w)/\Cmp w (w.length*4+1) (zaX w):=zgh hd.cl (w.length*4+1);have hdt:t.data≠ -1:=fun e=>by unfold zas at hc;rw[if_pos e] at hc;simp at hc
  have hb:∀u∈zae w t c,Hd w (w.length*4+1) u:=fun u hu=>by
   obtain⟨i,hi,rfl⟩:=List.getElem_of_mem hu;have hpos:0<dv (zaX w) (zae w t c)[i]:=by
    have e:nth (zae w t c) i=(zae w t c)[i]:=zaJ hi;rcases Nat.eq_zero_or_pos (dv (zaX w) (zae w t c)[i]) with h|h
    ·exact absurd ⟨i,hi,by rw[e];exact h⟩ hx
    ·exact h
   have hin:=zcz hd ht hc _ hu;have h1:=zws a.1 hin hpos;rcases hin with h2|⟨h2,h3⟩
   ·exact .inl h2
   ·rw[<-h3] at h1 ⊢;exact zrf hd.cl h2 h1
  have h2:Hd w (w.length*4+2) t:= .inr ⟨c,zvv hc,hdt,hb⟩;rcases ht with h3|⟨h3,h4⟩
  ·exact hdt h3
  ·rw[<-h4] at h2;have h5:=zrf hd.cl h3 h2;rw[h4] at h5;have:=(zuF a.2 (.inr ⟨h3,h4⟩) h5).1;omega
section
variable {w:List Data} (hs:Spa w)
include hs
theorem zks:∀(n:Nat){t:Ty}{p:Pat},InS (w.length*4) t->zao w n t p=true->dv (zaX w) t=0->za7 w (zaX w) n t p=true
 |0,t,p,_,h,_=>by simp[zao] at h
 |n+1,t,p,ht,h,h0=>by
  rcases zcm h with h1|h3|h4
  ·rw[ziW h1];exact xax h0
  ·have:=(zcG h h3).1;unfold dv at h0;rw[if_pos this] at h0;omega
  ·obtain⟨m1,m2,m3,m4⟩:=za6 h h4;obtain⟨i,h5,h6⟩:=zyL hs.dp ht m1 h0;rw[m4];have hk:=zbt h (i:=i) od;rw[zbP h4] at hk;exact zhM od m3 (zks n (zcz hs.dp ht m1 _ (zaf h5)) hk h6)
theorem zpy:∀(n k:Nat){t:Ty}{a b x:Pat},InS (w.length*4) t->zao w n t a=true->zao w n t b=true->za7 w (zaX w) n t a=true->zaV k a b=some x->za7 w (zaX w) n t x=true
 |0,k,t,a,b,x,_,h,_,_,_=>by simp[zao] at h
 |n+1,0,t,a,b,x,_,_,_,_,h=>by simp[zaV] at h
 |n+1,k+1,t,a,b,x,ht,ha,hb,hd,h=>by
  by_cases h1:a.op=1
  ·rw[znA h1] at h;cases h;rw[ziW h1] at hd;exact zks hs (n+1) ht hb (xas hd)
  by_cases h2:b.op=1
  ·rw[znB h1 h2] at h;cases h;exact hd
  by_cases h3:a.op=3
  ·rw[zoy ha h3] at hd;cases hd
  have h4:a.op=4:=by have:=zcm ha;omega
  have hso:=zep ha hb h1 h2;by_cases hc:a.ctor=b.ctor
  ·rw[znD h4 h2 hc] at h;obtain⟨m1,m2,m3,m4⟩:=za6 ha h4;obtain⟨n1,n2,n3,n4⟩:=za6 hb od;rw[<-hc] at n3;cases hl:zcV (zaV k) a.kids b.kids [] with
   |none=>rw[hl] at h;cases h
   |some l=>
    rw[hl] at h;simp only[Option.map_some,xae] at h;subst h;obtain⟨r,e,hr,hm⟩:=zjE od hl;rw[List.nil_append] at e;subst e;obtain⟨i,hi,hde⟩:=zq6 ha h4 hd;have ka:=zbt ha (i:=i) hi;have kb:=zbt hb (i:=i) od;rw[zbP h4] at ka;rw[zbP od,<-hc] at kb;exact zhM (i:=i) od od (zpy n k (zcz hs.dp ht m1 _ (zaf od)) ka kb hde (hm i hi))
  ·rw[zlp h4 h2 hc] at h;cases h
theorem zsu {f:Ty->Pat->Pat->List Pat}{m:Nat}{t:Ty}{c:Int} (ht:InS (w.length*4) t) (hc:c∈zas w t):
  ∀(i:Nat){xs bs front:List Pat},front.length=i->xs.length+i=(zae w t c).length->bs.length=xs.length->
   (∀j,j<xs.length->zao w m (nth (zae w t c) (i+j)) (nth xs j)=true/\zao w m (nth (zae w t c) (i+j)) (nth bs j)=true/\(za7 w (zaX w) m (nth (zae w t c) (i+j)) (nth xs j)=true->∀z∈f (nth (zae w t c) (i+j)) (nth xs j) (nth bs j),za7 w (zaX w) m (nth (zae w t c) (i+j)) z=true))->
   ((∃j,j<i/\za7 w (zaX w) m (nth (zae w t c) j) (nth front j)=true)\/∃j,j<xs.length/\za7 w (zaX w) m (nth (zae w t c) (i+j)) (nth xs j)=true)->
   ∀x∈zbb f c ((zae w t c).drop i) xs bs front,za7 w (zaX w) (m+1) t x=true:=by
 intro i xs;induction xs generalizing i with
 |nil=>
  intro bs front _ _ _ _ _ x hx;cases hT:(zae w t c).drop i<;>(rw[hT] at hx;simp[zbb] at hx)
 |cons a0 s ih=>
  intro bs front hfl hal hbl hab hde x hx;cases bs with
  |nil=>simp at hbl
  |cons b0 q=>
   have hi:i<(zae w t c).length:=by simp at hal;omega
   rw[zaF hi] at hx;have h0:=hab 0 oi;simp only[Nat.add_zero] at h0;have e0:nth (a0::s) 0=a0:=rfl;have e1:nth (b0::q) 0=b0:=rfl;rw[e0,e1] at h0;unfold zbb at hx;have f1:∀z j,j<i->nth (front++[z]++s) j=nth front j:=fun z j hj=>by
    simp only[nth,List.getD,xar];rw[List.getElem?_append_left od]
   have f2:∀z,nth (front++[z]++s) i=z:=fun z=>by
    simp only[nth,List.getD,xar];rw[List.getElem?_append_right od,show i-front.length=0 by omega];rfl
   have f3:∀z k,nth (front++[z]++s) (i+1+k)=nth (a0::s) (k+1):=fun z k=>by
    simp only[nth,List.getD,xar];rw[List.getElem?_append_right od,show i+1+k-front.length=k+1 by omega];rfl
   have hfl2:∀z,(front++[z]++s).length=(zae w t c).length:=fun z=>by simp at hal ⊢;omega
   rcases List.mem_append.1 hx with hx|hx
   ·obtain⟨z,hz,rfl⟩:=List.mem_map.1 hx;rcases hde with ⟨j,hj,hd⟩|⟨j,hj,hd⟩
    ·exact zhM (i:=j) (by rw[hfl2];omega) (hfl2 z) (by rw[f1 z j hj];exact hd)
    ·cases j with
     |zero=>exact zhM (i:=i) (by rw[hfl2];omega) (hfl2 z) (by rw[f2 z];exact h0.2.2 hd z hz)
     |succ k=>exact zhM (i:=i+1+k) (by rw[hfl2];simp at hj;simp at hal;omega) (hfl2 z) (by rw[f3 z k,show i+1+k=i+(k+1) by omega];exact hd)
   ·cases hm:zaV 11 a0 b0 with
    |none=>rw[hm] at hx;simp at hx
    |some both=>
     rw[hm] at hx;refine ih (i+1) (bs:=q) (front:=front++[both]) (by simp[hfl]) (by simp at hal ⊢;omega) (by simpa using hbl) (fun j hj=>?_) ?_ x hx
     ·have:=hab (j+1) (by simpa using hj);rwa [show i+(j+1)=i+1+j by omega] at this
     ·rcases hde with ⟨j,hj,hd⟩|⟨j,hj,hd⟩
      ·refine .inl ⟨j,by omega, ?_⟩;have e:nth (front++[both]) j=nth front j:=by
        simp only[nth,List.getD];rw[List.getElem?_append_left od]
       rw[e];exact hd
      ·cases j with
       |zero=>
        refine .inl ⟨i,by omega, ?_⟩;have e:nth (front++[both]) i=both:=by
         simp only[nth,List.getD];rw[List.getElem?_append_right od,show i-front.length=0 by omega];rfl
        rw[e];exact zpy hs m 11 (zcz hs.dp ht hc _ (zaf hi)) h0.1 h0.2.1 hd hm
       |succ k=>
        refine .inr ⟨k,by simpa using hj, ?_⟩;rw[show i+1+k=i+(k+1) by omega];exact hd
theorem znG:∀(n m:Nat){t:Ty}{a b:Pat},n<m->InS (w.length*4) t->zao w m t a=true->zao w n t b=true->za7 w (zaX w) m t a=true->∀x∈zau w n t a b,za7 w (zaX w) m t x=true
 |0,m,t,a,b,_,_,_,hb,_=>by simp[zao] at hb
 |n+1,0,t,a,b,hn,_,_,_,_=>by omega
 |n+1,m+1,t,a,b,hn,ht,ha,hb,hd=>by
  have hcc:∀a,zao w (m+1) t a=true->a.op=4->b.op=4->za7 w (zaX w) (m+1) t a=true->∀x∈zdH (zau w n) w t a b,za7 w (zaX w) (m+1) t x=true:=fun a ha h4 h4b hd=>by
   obtain⟨m1,m2,m3,m4⟩:=za6 ha h4;obtain⟨n1,n2,n3,n4⟩:=za6 hb h4b;intro x hx;unfold zdH at hx;split at hx
   ·rename_i hc;obtain⟨j,hj,hdj⟩:=zq6 ha h4 hd;refine zsu hs ht m1 0 (xs:=a.kids) (bs:=b.kids) (front:=[]) Z od (by rw[hc] at m3;omega) (fun j hj=>?_) (.inr ⟨j,hj,by rw[Nat.zero_add];exact hdj⟩) x hx;have ka:=zbt ha (i:=j) hj;have kb:=zbt hb (i:=j) (by rw[hc] at m3;omega);rw[zbP h4] at ka;rw[zbP h4b,<-hc] at kb;rw[Nat.zero_add];exact⟨ka,zls od kb,fun hdk z hz=>znG n m od (zcz hs.dp ht m1 _ (zaf od)) ka kb hdk z hz⟩
   ·rw[List.mem_singleton] at hx;rw[hx];exact hd
  rcases zcm hb with h1|h3|h4
  ·rw[zi3 h1];simp
  ·have hl:=zrw ha (zcG hb h3).1;rcases zcm ha with h|h|h
   ·rw[ziW h] at hd;have:=xas hd;unfold dv at this;rw[if_pos (zcG hb h3).1] at this;omega
   ·rw[zoy ha h] at hd;cases hd
   ·exact absurd (zcG hb h3).1 (za6 ha h).2.1
  ·by_cases ha1:a.op=1
   ·rw[zi4 h4 ha1];rw[ziW ha1] at hd;intro x hx;obtain⟨c,hc,hx⟩:=List.mem_flatMap.1 hx;obtain⟨k,rfl⟩:∃k,m=k+1:=⟨m-1,by omega⟩;exact hcc _ (zeq hc) Z h4 (zks hs _ ht (zeq hc) (xas hd)) x hx
   ·have ha4:a.op=4:=by have:=zep ha hb ha1 od;omega
    rw[ze0 h4 ha4];exact hcc a ha ha4 h4 hd
end
def zbW (w:List Data) (t:Ty) (p:Pat):Bool:= !za7 w (zaX w) 11 t p
def zcq (w:List Data) (t:Ty) (l:List Pat) (b:Pat):List Pat:=(l.flatMap fun a=>zau w 10 t a b).filter (zbW w t)
def subL (w:List Data) (t:Ty):List Pat->List Pat->Option (List Pat)
 |l,[]=>some l
 |l,b::r=>if (zcq w t l b).length<=400 then subL w t (zcq w t l b) r else none
def zaR (w:List Data) (t:Ty) (l away:List Pat):Option (List Pat):=subL w t (l.filter (zbW w t)) away
theorem zrC {w:List Data} (hs:Spa w){t:Ty} (ht:InS (w.length*4) t){l:List Pat}{b:Pat} (hl:∀a∈l,zao w 11 t a=true) (hb:zao w 10 t b=true):zcq w t (l.filter (zbW w t)) b=zcq w t l b:=by
 unfold zcq;induction l with
 |nil=>rfl
 |cons a r ih=>
  have ih':=ih (fun x hx=>hl x (by simp[hx]));rw[List.flatMap_cons,List.filter_append];by_cases h:zbW w t a=true
  ·rw[List.filter_cons_of_pos h,List.flatMap_cons,List.filter_append,ih']
  ·rw[List.filter_cons_of_neg h,ih'];have hd:za7 w (zaX w) 11 t a=true:=by unfold zbW at h;simpa using h
   have:(zau w 10 t a b).filter (zbW w t)=[]:=by
    rw[List.filter_eq_nil_iff];intro x hx;have:=znG hs 10 11 od ht (hl a oi) hb hd x hx;unfold zbW;rw[this];simp
   rw[this,List.nil_append]
theorem zlY {w:List Data}{t:Ty}{l:List Pat}{b:Pat}:(zcq w t l b).filter (zbW w t)=zcq w t l b:=by
 unfold zcq;rw[List.filter_filter];simp
theorem zoj {w:List Data}{t:Ty}:∀(away:List Pat){l:List Pat},l.filter (zbW w t)=l->(subL w t l away).map (List.filter (zbW w t))=subL w t l away
 | [],l,h=>by simp only[subL,Option.map_some,h]
 |b::r,l,h=>by
  unfold subL;split
  ·exact zoj r zlY
  ·rfl
theorem zvl {w:List Data} (hs:Spa w){t:Ty} (ht:InS (w.length*4) t){l away:List Pat} (hl:∀a∈l,zao w 11 t a=true) (hb:∀b∈away,zao w 10 t b=true):(subL w t l away).map (List.filter (zbW w t))=zaR w t l away:=by
 unfold zaR;cases away with
 |nil=>rfl
 |cons b r=>
  unfold subL;rw[zrC hs ht hl (hb b oi)];split
  ·exact zoj r zlY
  ·rfl
theorem zha {w:List Data}{t:Ty}{l:List Pat}{b:Pat} (hl:∀a∈l,zao w 11 t a=true) (hb:zao w 10 t b=true):∀x∈zcq w t l b,zao w 11 t x=true:=fun x hx=>by
 unfold zcq at hx;obtain⟨a,ha,hx⟩:=List.mem_flatMap.1 (List.mem_filter.1 hx).1;exact zg9 10 11 od (hl a ha) hb x hx
theorem zmw {n:Nat} (h0:0<n) (hb:n<=1000000):FnD Tryz.prog 261 [.nils,.d (.i (n:Int))] [] (.gv 9 []) [(9,some (.tok 0 6))]:=by
 refine bd Tryz.f261 27 [12,24] [] fun _ _ _ _ hk=>?_;apply sq<;>intro h1 h1p h1s<;>(try simp only[Q] at h1p);exfalso;omega;refine Walk.capN sl72 .none Z Z (evs [12,24] [] (Walk.lenN sl72 .none Z Z (evs [12,24] [] (ar (ar ?_)))));apply sq<;>intro h2 h2p h2s<;>(try simp only[Q] at h2p);refine Walk.capN sl72 .none Z Z (Walk.cutN_h sl72 .none Z Z Z (evs [12,24] [] (Walk.growZ (n:=n) 8 sl72 Tryz.underlying3 tz74 Z om Z .none Z Z Z oi h0 od od Z ?_)));refine evs [12,24] [] (Walk.lenN sl72 .none Z Z (xbC 9 (b:=0) sl72 .none Z Z (za3 Z (by(simp;done))) Z Z (Nat.zero_le _) (by rw[List.length_replicate];exact h0) Z ?_));refine evs [12,24] [] ?_;focus (refine rn [(9,some (.tok 0 6))] (r1 Z) (.gvg ?_) ⟨Z,Z⟩ (SubH.get ⟨Z,O⟩) (zaQ Z);all_goals (rfl))
 focus (exfalso;simp at h2;all_goals omega)
abbrev zwt (ls:List (List Pat)):D:= .sl (ls.map fun l=>[zak l])
theorem zkV {ls:List (List Pat)} (hl:ls.length<=1000) (h0:0<ls.flatten.length) (hb:ls.flatten.length<=1000000):FnD Tryz.prog 222 [.d (zwt ls)] [] (.d (zak ls.flatten)) []:=by
 have key:∀ {pre rest:List (List Pat)}{y:List Pat},pre++y::rest=ls->pre.flatten.length+y.length<=ls.flatten.length:=fun h=>by
  rw[<-h];simp
 refine FnD.gvD (i:=9) (k:=6) (bd Tryz.f222 36 [] [] fun _ _ _ _ hk=>?_);refine xaB (ι:=List (List Pat)×List (List Pat)) hk (fun x=>[(11,.d (.i (x.1.length:Int))),(3,.d (.i (x.1.flatten.length:Int)))]) [5,12,13,14,15,16,17,18,19,20,21,22] (fun x=>[]) (fun x=>x.1++x.2=ls) (fun x=>x.2.length) ([],ls) oi ⟨⟨_,Z,xaU ?_⟩,⟨⟨_,Z,xaU ?_⟩,O⟩⟩ O (fun x=>rfl) (fun x hg1=>?_);iterate 2 focus (rfl)
 obtain⟨pre,rest⟩:=x;dsimp only at hg1 ⊢;refine evc [] [] ?_;apply sq<;>intro h1 h1p h1s<;>(try simp only[Q,xa3] at h1p);rcases rest with _|⟨y,rest⟩
 ·exfalso;simp_all
 refine ixq zex Z Z Z (zaA hg1) Z (ev (ar ?_ (by(have h9:=key hg1;constructor<;>first|omega|(simp only[xa3];omega)))));apply sq<;>intro h2 h2p h2s<;>(try simp only[Q,xa3] at h2p);exfalso;have:=key hg1;omega;refine ar ?_ (by(have h9:=key hg1;constructor<;>first|omega|(simp only[xa3];omega)));refine xaj ((pre++[y],rest)) ⟨(by have hz:=hg1;rw[<-hz];simp),oi,sx ⟨⟨_,Z,xaU ?_⟩,⟨⟨_,Z,xaU ?_⟩,O⟩⟩ O⟩;iterate 2 focus ((simp[xa3];done))
 have hrest:rest=[]:=by
  rcases rest with _|⟨a,b⟩
  ·rfl
  ·exfalso;have hz:=xam List.length (hg1);simp only[xaa,xab,xac] at hz;omega
 subst hrest;refine Walk.call (cr:=[9]) zyr (zmw (n:=pre.flatten.length) (by rw[xaq] at hg1;rw[hg1];exact h0) (by rw[xaq] at hg1;rw[hg1];exact hb)) Z .none Z Z (LeL.refl _) O Z Z Z ?_;refine ev (xaB (ι:=List (List Pat)×List (List Pat)) hk (fun x=>[(27,.d (.i (x.1.length:Int))),(6,.gv 9 (Pat.cs x.1.flatten))]) [8,28,29,30,31,32,33,34] (fun x=>[(9,some (.tok (Pat.cs x.1.flatten).length 6))]) (fun x=>x.1++x.2=ls) (fun x=>x.2.length) ([],ls) oi ⟨⟨_,Z,xaU ?_⟩,⟨⟨_,Z,LeA.gvg ?_⟩,O⟩⟩ ⟨zac ?_,O⟩ (fun x=>rfl) (fun x hg2=>?_));iterate 3 focus (rfl)
 obtain⟨pre,rest⟩:=x;dsimp only at hg2 ⊢;refine evc [] [] ?_;apply sq<;>intro h3 h3p h3s<;>(try simp only[Q,xa3] at h3p);rcases rest with _|⟨y,rest⟩
 ·exfalso;simp_all
 refine ixq zex Z Z Z (zaA hg2) Z (ev (xbq sl72 zz74 .none Z Z Z Z (za3 Z o8) (by exact zcv _) (by have:=key hg2;simp only[xa3];omega) (by have:=key hg2;simp only[xa3];omega) ?_));refine ev (ar ?_ (by(constructor<;>omega)));refine xaj ((pre++[y],rest)) ⟨(by have hz:=hg2;rw[<-hz];simp),oi,sx ⟨⟨_,Z,xaU ?_⟩,⟨⟨_,Z,LeA.gvg ?_⟩,O⟩⟩ ⟨zac ?_,O⟩⟩;iterate 3 focus ((simp[xa1];done))
 have hrest:rest=[]:=by
  rcases rest with _|⟨a,b⟩
  ·rfl
  ·exfalso;have hz:=xam List.length (hg2);simp only[xaa,xab,xac] at hz;omega
 subst hrest;refine rn [(9,some (.tok (Pat.cs ls.flatten).length 6))] (r1 Z) (.gvg ?_) ⟨Z,Z⟩ (SubH.get ⟨?_,O⟩) (zaQ Z);rotate_left 2;all_goals ((rw[xaq] at hg2;subst hg2;rfl))
def zbL (l:List Int):Nat->List Pat
 |0=>[]
 |n+1=>zbL l n++zcn (nth l (2*n)) (nth l (2*n+1))
theorem zkN (l:List Int):∀n,(zbL l n).length<=n
 |0=>by simp[zbL]
 |n+1=>by
  have:=zkN l n;simp only[zbL,zcn,xaa];split<;>simp<;>omega
theorem zkO {l:List Int}{n:Nat} (h:nth l (2*n)<=nth l (2*n+1)):zbL l (n+1)=zbL l n++[intQ (nth l (2*n)) (nth l (2*n+1))]:=by simp[zbL,zcn,h]
theorem zsy {l:List Int}{n:Nat} (h:¬nth l (2*n)<=nth l (2*n+1)):zbL l (n+1)=zbL l n:=by simp only[zbL,zcn,if_neg h,xaq]
theorem zrW (a b:Int):zbL [a,b] 1=zcn a b:=by simp[zbL,nth]
theorem zv3 (a b c d:Int):zbL [a,b,c,d] 2=zcn a b++zcn c d:=by simp[zbL,nth]
theorem znm {p:Pat}:FnD Tryz.prog 219 [.agg [.d (.i p.op),.d (.i p.ctor),.d (.i p.n),.d (.i p.m),.d (.i p.var),.d (zak p.kids)]] [] (.tup [.d (.i (lowQ p)),.d (.i (zdG p))]) []:=by
 by_cases h:p.op=1
 ·have e1:lowQ p=0:=if_pos h;have e2:zdG p=9:=if_pos h;rw[e1,e2];refine bd Tryz.f219 11 [] [] fun _ _ _ _ hk=>?_;refine bx 3001 ?_;refine ev ?_;apply sq<;>intro h1 h1p h1s<;>(try simp only[Q] at h1p);focus (refine rn0 (r2 Z Z) (.tup (qee ?_ ?_));all_goals (rfl))
  exfalso;omega
 ·skip
  have e1:lowQ p=p.n:=if_neg h;have e2:zdG p=p.m:=if_neg h;rw[e1,e2];refine bd Tryz.f219 11 [] [] fun _ _ _ _ hk=>?_;refine bx 3001 ?_;refine ev ?_;apply sq<;>intro h1 h1p h1s<;>(try simp only[Q] at h1p);exfalso;omega;refine dr ?_;focus (refine rn0 (r2 Z Z) (.tup (qee ?_ ?_));all_goals (rfl))
theorem zgf {l:List Int}{n:Nat} (hl:l.length=2*n) (hb:n<=1000):FnD Tryz.prog 220 [.d (zcB l)] [] (.d (zak (zbL l n))) []:=by
 refine bd Tryz.f220 35 [3] [] fun _ _ _ _ hk=>?_;refine xbr 9 6 .none Z Z ?_;apply tv;refine xaB (ι:=Nat) hk (fun i=>[(4,.d (.i ((2*i:Nat):Int))),(3,.gl 9 (Pat.cs (zbL l i)))]) [5,6,7,8,9,10,11,12,13,14,15,16,17,18,19,20,21,22,23,24,25,26,27,28,29,30,31,32,33] (fun i=>[(9,some (.tok ((Pat.cs (zbL l i))).length 6))]) (fun i=>i<=n) (fun i=>n-i) 0 od ⟨⟨_,Z,xaU ?_⟩,⟨⟨_,Z,LeA.glg ?_⟩,O⟩⟩ ⟨zac ?_,O⟩ (fun x=>rfl) (fun i hg1=>?_);iterate 3 focus (rfl)
 refine evc [3] [] ?_;apply sq<;>intro h1 h1p h1s<;>(try simp only[Q] at h1p);refine ixq (i:=2*i) sl37 Z Z Z (zah od) Z ?_;refine evd [3] [] (ar (ixq (i:=2*i+1) sl37 Z Z Z (zah od) Z ?_));refine evd [3] [] (dr ?_);apply sq<;>intro h2 h2p h2s<;>(try simp only[Q] at h2p);refine ixq (i:=2*i) sl37 Z Z Z (zah od) Z ?_;refine evd [3] [] (ar (ixq (i:=2*i+1) sl37 Z Z Z (zah od) Z ?_));refine evd [3] [] (bu [0,2,3] [_,_,_] st74 ?_);refine si [0] [_] sl72 tz74 ?_;refine ap sl72 zz74 Z Z Z (by(intro x hx;simp at hx;subst hx;rfl)) (by have:=zkN l i;simp[xa3];omega) ?_;refine asg ?_;refine dr (ar (xaj (i+1) ⟨od,od,sx ⟨⟨_,Z,xaU ?_⟩,⟨⟨_,Z,LeA.glg ?_⟩,O⟩⟩ ⟨zac ?_,O⟩⟩));iterate 3 focus (first|rfl|(rw[zkO ol,xa1,xa1,xag];rfl)|(rw[zkO ol];simp[xa3];done))
 refine ar (xaj (i+1) ⟨od,od,sx ⟨⟨_,Z,xaU ?_⟩,⟨⟨_,Z,LeA.glg ?_⟩,O⟩⟩ ⟨zac ?_,O⟩⟩);iterate 3 focus (first|rfl|(rw[zsy ol];done))
 refine rn0 (r1 Z) (.gld ?_);rotate_left;all_goals ((have e:i=n:=od;rw[e]))
theorem zp7 {w:List Data} (hw:WT w){f:Nat->Nat}{a k c:Int} (ht:TyIn w.length ⟨a,k⟩) (hc:c∈zas w ⟨a,k⟩) (hl:(zae w ⟨a,k⟩ c).length<=3):FnD Tryz.prog 221 [.d (sPtr w f),.agg [.d (.i a),.d (.i k)],.d (.i c)] []
  (.agg [.d (.i 4),.d (.i c),.d (.i 0),.d (.i 0),.d (.i 0),.d (zak (zco w ⟨a,k⟩ c).kids)]) []:=by
 refine bd Tryz.f221 28 [] [] fun _ _ _ _ hk=>?_;refine bx 3004 ?_;refine ab 3006 tz74 ?_;apply tv;refine bu [0,1] [_,_] st74 ?_;refine ab 3007 tz74 ?_;refine so ty74 ?_;apply tv;refine wc ziP (zcU hw ht hc) Z Z ?_;refine evd [] [] (dr (xaE 3007 5 9 6 Z Z Z Z (xaB (ι:=List (Ty)×List (Ty)) hk (fun x=>[(18,.d (.i (x.1.length:Int)))]) [19,20,21,22,23,24,25,26] (fun x=>[(3007,some (.box [.d (.i 4),.d (.i c),.d (.i 0),.d (.i 0),.d (.i 0),.gl 9 ((x.1.map fun _=>anyQ).map Pat.cc)])),(9,some (.tok ((x.1.map fun _=>anyQ).map Pat.cc).length 6))]) (fun x=>x.1++x.2=zae w ⟨a,k⟩ c) (fun x=>x.2.length) ([],zae w ⟨a,k⟩ c) oi ⟨⟨_,Z,xaU ?_⟩,O⟩ ⟨?_,⟨zac ?_,O⟩⟩ (fun x=>rfl) (fun x hg1=>?_))));focus (rfl)
 focus (rfl)
 focus (rfl)
 obtain⟨pre,rest⟩:=x;dsimp only at hg1 ⊢;refine evc [] [] ?_;apply sq<;>intro h1 h1p h1s<;>(try simp only[Q] at h1p);rcases rest with _|⟨y,rest⟩
 ·exfalso;simp_all
 refine wc zqH zeH Z Z ?_;refine si [0] [_] sl72 tz74 ?_;refine ap sl72 zz74 Z Z Z oy (by have:=xam List.length hg1;simp at this;simp;omega) ?_;refine evd [] [] (so ty72 ?_);refine dr (ar (xaj ((pre++[y],rest)) ⟨(by have hz:=hg1;rw[<-hz];simp),oi,sx ⟨⟨_,Z,xaU ?_⟩,O⟩ ⟨?_,⟨zac ?_,O⟩⟩⟩));focus ((simp;done))
 focus ((simp[getH];exact⟨rfl,rfl,rfl,rfl,rfl,rfl⟩))
 focus ((simp;done))
 have hrest:rest=[]:=by
  rcases rest with _|⟨a,b⟩
  ·rfl
  ·exfalso;have hz:=xam List.length (hg1);simp only[xaa,xab,xac] at hz;omega
 subst hrest;refine so ty74 ?_;apply tv;refine rn0 (ra ty74) (.agg (qeeeeeg ?_ ?_ ?_ ?_ ?_ ?_));rotate_left 6;all_goals (first|rfl|(rw[xaq] at hg1;subst hg1;rw[<-xa1];all_goals rfl))
def zdb (n:Nat) (a b:Pat):Pat:=(zaV n a b).getD ze9
theorem zcK {n:Nat}{a b x:Pat} (h:zaV n a b=some x):zdb n a b=x:=by unfold zdb;rw[h];rfl
theorem zfW {n:Nat}{a b:Pat} (h:zaV n a b=none):zdb n a b=ze9:=by unfold zdb;rw[h];rfl
theorem zoL {n:Nat}{a b:Pat} (h:(zaV n a b).isSome=true):zaV n a b=some (zdb n a b):=by
 unfold zdb;cases e:zaV n a b with
 |none=>rw[e] at h;cases h
 |some x=>rfl
theorem zoM {n:Nat}{a b:Pat} (h:(zaV n a b).isSome=false):zaV n a b=none:=by
 cases e:zaV n a b with
 |none=>rfl
 |some x=>rw[e] at h;cases h
theorem zkw {w:List Data} (hs:Spa w){f:Nat->Nat}:∀(n m:Nat){ta tk:Int}{a b:Pat},m<=n->InS (w.length*4) ⟨ta,tk⟩->zao w m ⟨ta,tk⟩ a=true->zao w m ⟨ta,tk⟩ b=true->
  FnD Tryz.prog 223 [.d (sPtr w f),.agg [.d (.i ta),.d (.i tk)],.agg [.d (.i a.op),.d (.i a.ctor),.d (.i a.n),.d (.i a.m),.d (.i a.var),.d (zak a.kids)],.agg [.d (.i b.op),.d (.i b.ctor),.d (.i b.n),.d (.i b.m),.d (.i b.var),.d (zak b.kids)]] []
   (.tup [.agg [.d (.i (zdb n a b).op),.d (.i (zdb n a b).ctor),.d (.i (zdb n a b).n),.d (.i (zdb n a b).m),.d (.i (zdb n a b).var),.d (zak (zdb n a b).kids)],.d (.bool (zaV n a b).isSome)]) []
 |n,0,ta,tk,a,b,_,_,ha,_=>by simp[zao] at ha
 |0,m+1,ta,tk,a,b,h,_,_,_=>by omega
 |n+1,m+1,ta,tk,a,b,hnm,ht,ha,hb=>by
  by_cases h1:a.op=1
  ·have e:=znA (n:=n) (b:=b) h1;rw[zcK e,e];refine bd Tryz.f223 100 [] [] fun _ _ _ _ hk=>?_;refine bx 3005 ?_;refine bx 3006 ?_;refine bx 3007 ?_;refine ab 3008 tz74 ?_;refine ev ?_;apply sq<;>intro h1 h1p h1s;refine so ty74 ?_;refine ev (rn0 (rc ty74) (.tup (.cons (.agg (qeeeeee ?_ ?_ ?_ ?_ ?_ ?_)) (qe ?_))));rotate_left 7;try simp only[Q] at h1p
   exfalso;omega;all_goals (rfl)
  by_cases h2:b.op=1
  ·have e:=znB (n:=n) h1 h2;rw[zcK e,e];refine bd Tryz.f223 100 [] [] fun _ _ _ _ hk=>?_;refine bx 3005 ?_;refine bx 3006 ?_;refine bx 3007 ?_;refine ab 3008 tz74 ?_;refine ev ?_;apply sq<;>intro h1 h1p h1s;try simp only[Q] at h1p
   exfalso;omega;apply sq<;>intro h2 h2p h2s;refine so ty74 ?_;refine ev (rn0 (rc ty74) (.tup (.cons (.agg (qeeeeee ?_ ?_ ?_ ?_ ?_ ?_)) (qe ?_))));rotate_left 7;try simp only[Q] at h2p
   exfalso;omega;all_goals (rfl)
  by_cases h3:a.op=3
  ·have e:=znC (n:=n) h3 h2;by_cases hr:maxQ a.n b.n<=minQ a.m b.m
   ·rw[if_pos hr] at e;have er:zbL [maxQ a.n b.n,minQ a.m b.m] 1=[intQ (maxQ a.n b.n) (minQ a.m b.m)]:=by rw[zrW];exact if_pos hr
    have hrg:=zgf (l:=[maxQ a.n b.n,minQ a.m b.m]) (n:=1) rfl od;rw[er] at hrg;rw[zcK e,e];refine bd Tryz.f223 100 [] [] fun _ _ _ _ hk=>?_;refine bx 3005 ?_;refine bx 3006 ?_;refine bx 3007 ?_;refine ab 3008 tz74 ?_;refine ev ?_;apply sq<;>intro h1 h1p h1s;try simp only[Q,xa3] at h1p
    exfalso;omega;apply sq<;>intro h2 h2p h2s;try simp only[Q,xa3] at h2p
    exfalso;omega;apply sq<;>intro h3 h3p h3s;refine xbU .none Z Z Z (ev (xbV .none Z Z Z (si [0,1] [_,_] sl37 tz3 ?_)));refine wc zqQ hrg Z Z ?_;refine ev ?_;apply sq<;>intro h4 h4p h4s;exfalso;simp[xa3] at h4;refine ixq (i:=0) sl72 Z Z Z Z Z (ev (so ty74 ?_));refine ev (rn0 (rc ty74) (.tup (.cons (.agg (qeeeeee ?_ ?_ ?_ ?_ ?_ ?_)) (qe ?_))));rotate_left 7;try simp only[Q,xa3] at h3p
    exfalso;omega;all_goals (rfl)
   ·skip
    rw[if_neg hr] at e;have er:zbL [maxQ a.n b.n,minQ a.m b.m] 1=[]:=by rw[zrW];exact if_neg hr
    have hrg:=zgf (l:=[maxQ a.n b.n,minQ a.m b.m]) (n:=1) rfl od;rw[er] at hrg;rw[zfW e,e];refine bd Tryz.f223 100 [] [] fun _ _ _ _ hk=>?_;refine bx 3005 ?_;refine bx 3006 ?_;refine bx 3007 ?_;refine ab 3008 tz74 ?_;refine ev ?_;apply sq<;>intro h1 h1p h1s;try simp only[Q,xa3] at h1p
    exfalso;omega;apply sq<;>intro h2 h2p h2s;try simp only[Q,xa3] at h2p
    exfalso;omega;apply sq<;>intro h3 h3p h3s;refine xbU .none Z Z Z (ev (xbV .none Z Z Z (si [0,1] [_,_] sl37 tz3 ?_)));refine wc zqQ hrg Z Z ?_;refine ev ?_;apply sq<;>intro h4 h4p h4s;refine bu [] [] st74 ?_;refine so ty74 ?_;refine ev (rn0 (rc ty74) (.tup (.cons (.agg (qeeeeen ?_ ?_ ?_ ?_ ?_ ?_)) (qe ?_))));rotate_left 7;exfalso;simp[Pat.cs] at h4;try simp only[Q,xa3] at h3p
    exfalso;omega;all_goals (rfl)
  have oa:=zcm ha;have h4:a.op=4:=by omega
  have h4b:b.op=4:=by have:=zep ha hb h1 h2;omega
  by_cases hc:a.ctor=b.ctor
  ·obtain⟨c1,c2,c3,c4⟩:=za6 ha h4;obtain⟨d1,d2,d3,d4⟩:=za6 hb h4b;rw[<-hc] at d3;have h3l:=hs.args ⟨ta,tk⟩ a.ctor ht c1;have ka:=fun i (hi:i<a.kids.length)=>zbt ha hi;have kb:=fun i (hi:i<b.kids.length)=>zbt hb hi;rw[zbP h4] at ka;rw[zbP h4b,<-hc] at kb;have e:=znD (n:=n) h4 h2 hc;have hlen:a.kids.length=b.kids.length:=by omega
   have ih:=fun i (hi:i<(zae w ⟨ta,tk⟩ a.ctor).length)=>zkw hs n m (f:=f) (ta:=(nth (zae w ⟨ta,tk⟩ a.ctor) i).data) (tk:=(nth (zae w ⟨ta,tk⟩ a.ctor) i).index) (a:=nth a.kids i) (b:=nth b.kids i) od (zcz hs.dp ht c1 _ (zaf hi)) (ka i od) (kb i od);refine bd Tryz.f223 100 [] [] fun _ _ _ _ hk=>?_;refine bx 3005 ?_;refine bx 3006 ?_;refine bx 3007 ?_;refine ab 3008 tz74 ?_;refine ev ?_;apply sq<;>intro h1 h1p h1s;try simp only[Q,xa3] at h1p
   exfalso;omega;apply sq<;>intro h2 h2p h2s;try simp only[Q,xa3] at h2p
   exfalso;omega;apply sq<;>intro h3 h3p h3s;try simp only[Q,xa3] at h3p
   exfalso;omega;apply sq<;>intro h4 h4p h4s;try simp only[Q,xa3] at h4p
   exfalso;omega;refine bu [0,1] [_,_] st74 ?_;refine ab 3011 tz74 ?_;refine so ty74 ?_;apply tv;refine wc ziP (zcU hs.dp.wt (zc2 ht) c1) Z Z ?_;refine evd [] [] (dr (xaE 3011 5 9 6 Z Z Z Z (xaB (ι:=Nat×List Pat) hk (fun x=>[(68,.d (.i (x.1:Int)))]) [9,12,13,14,15,69,70,71,72,73,74,75,76,77,78,79,80,81,82,83,84,85,86,87,88,89,90,91,92,93,94,95,96,97,98] (fun x=>[(3011,some (.box [.d (.i 4),.d (.i a.ctor),.d (.i 0),.d (.i 0),.d (.i 0),.gl 9 (x.2.map Pat.cc)])),(9,some (.tok (x.2.map Pat.cc).length 6))]) (fun x=>x.1<=a.kids.length/\x.2.length=x.1/\zcV (zaV n) (a.kids.drop x.1) (b.kids.drop x.1) x.2=zcV (zaV n) a.kids b.kids []) (fun x=>a.kids.length-x.1) (0,[]) ⟨by simp,Z,Z⟩ ⟨⟨_,Z,xaU ?_⟩,O⟩ ⟨?_,⟨zac ?_,O⟩⟩ (fun x=>rfl) (fun x hg1=>?_))));focus (rfl)
   focus (first|rfl|(simp[getH];done))
   focus (rfl)
   refine evc [] [] ?_;apply sq<;>intro h5 h5p h5s<;>(try simp only[Q,xa3] at h5p);refine ixq zaz Z Z Z (zah od) Z ?_;refine ev (ab 3013 tz29 ?_);refine ev (so ty29 ?_);apply tv;refine ixq sl72 Z Z Z (zaE od) Z ?_;refine evd [] [] (ixq sl72 Z Z Z (zaE od) Z ?_);refine evd [] [] (wc zug (ih x.1 od) Z Z ?_);refine evd [] [] (ab 3014 tz74 ?_);refine so ty74 ?_;refine evd [] [] (dr ?_);apply sq<;>intro h6 h6p h6s;refine bu [] [] st74 ?_;refine so ty74 ?_;refine ev (rn0 (rc ty74) (.tup (.cons (.agg (qeeeeen ?_ ?_ ?_ ?_ ?_ ?_)) (qe ?_))));rotate_left 7;try simp only[Q,xa3] at h6p
   refine si [0] [_] sl72 tz74 ?_;refine ap sl72 zz74 Z Z Z oy ot ?_;refine ev (so ty72 ?_);apply tv;refine ar (xaj ((x.1+1,x.2++[zdb n (nth a.kids x.1) (nth b.kids x.1)])) ⟨⟨by dsimp only;omega,by dsimp only;rw[xaa,hg1.2.1];rfl,by dsimp only;rw[<-znz od od (zoL ol)];exact hg1.2.2⟩,ox,sx ⟨⟨_,Z,xaU ?_⟩,O⟩ ⟨?_,⟨zac ?_,O⟩⟩⟩);focus (rfl)
   focus (first|rfl|(simp[getH];done))
   focus ((simp;done))
   refine so ty74 ?_;refine ev (rn0 (rc ty74) (.tup (.cons (.agg (qeeeeeg ?_ ?_ ?_ ?_ ?_ ?_)) (qe ?_))));rotate_left 7;all_goals (first|(have e2:zaV (n+1) a b=none:=(by rw[e,<-hg1.2.2,zny od od (zoM ol)];rfl);(first|rw[zfW e2]|rw[e2]);all_goals rfl)|(have e2:zaV (n+1) a b=some (zca a.ctor x.2):=(by rw[e,<-hg1.2.2,zfA od];rfl);rw[zcK e2,xa1];all_goals rfl)|(have e2:zaV (n+1) a b=some (zca a.ctor x.2):=(by rw[e,<-hg1.2.2,zfA od];rfl);rw[zcK e2];all_goals rfl)|(have e2:zaV (n+1) a b=some (zca a.ctor x.2):=(by rw[e,<-hg1.2.2,zfA od];rfl);rw[e2];all_goals rfl))
  ·skip
   have e:=zlp (n:=n) h4 h2 hc;rw[zfW e,e];refine bd Tryz.f223 100 [] [] fun _ _ _ _ hk=>?_;refine bx 3005 ?_;refine bx 3006 ?_;refine bx 3007 ?_;refine ab 3008 tz74 ?_;refine ev ?_;apply sq<;>intro h1 h1p h1s;try simp only[Q] at h1p
   exfalso;omega;apply sq<;>intro h2 h2p h2s;try simp only[Q] at h2p
   exfalso;omega;apply sq<;>intro h3 h3p h3s;try simp only[Q] at h3p
   exfalso;omega;apply sq<;>intro h4 h4p h4s;refine bu [] [] st74 ?_;refine so ty74 ?_;refine ev (rn0 (rc ty74) (.tup (.cons (.agg (qeeeeen ?_ ?_ ?_ ?_ ?_ ?_)) (qe ?_))));rotate_left 7;try simp only[Q] at h4p
   exfalso;omega;all_goals (rfl)
theorem zij {f:Ty->Pat->Pat->List Pat}{c:Int}{ts:List Ty}{xs bs front:List Pat}{i:Nat} (h1:i<ts.length) (h2:i<xs.length) (h3:i<bs.length):
  zbb f c (ts.drop i) (xs.drop i) (bs.drop i) front=(f (nth ts i) (nth xs i) (nth bs i)).map (fun z=>zca c (front++[z]++xs.drop (i+1)))++(match zaV 11 (nth xs i) (nth bs i) with
   |none=>[]
   |some both=>zbb f c (ts.drop (i+1)) (xs.drop (i+1)) (bs.drop (i+1)) (front++[both])):=by
 rw[zaF h1,zaF h2,zaF h3,zbb];all_goals (cases zaV 11 (nth xs i) (nth bs i)<;>rfl)
theorem zlX {f:Ty->Pat->Pat->List Pat}{c:Int}{ts:List Ty}{xs bs front:List Pat}{i:Nat} (h1:i<ts.length) (h2:i<xs.length) (h3:i<bs.length) (h:(zaV 11 (nth xs i) (nth bs i)).isSome=true):
  zbb f c (ts.drop i) (xs.drop i) (bs.drop i) front=(f (nth ts i) (nth xs i) (nth bs i)).map (fun z=>zca c (front++[z]++xs.drop (i+1)))++zbb f c (ts.drop (i+1)) (xs.drop (i+1)) (bs.drop (i+1)) (front++[zdb 11 (nth xs i) (nth bs i)]):=by
 rw[zij h1 h2 h3,zoL h]
theorem zlW {f:Ty->Pat->Pat->List Pat}{c:Int}{ts:List Ty}{xs bs front:List Pat}{i:Nat} (h1:i<ts.length) (h2:i<xs.length) (h3:i<bs.length) (h:(zaV 11 (nth xs i) (nth bs i)).isSome=false):
  zbb f c (ts.drop i) (xs.drop i) (bs.drop i) front=(f (nth ts i) (nth xs i) (nth bs i)).map (fun z=>zca c (front++[z]++xs.drop (i+1))):=by
 rw[zij h1 h2 h3,zoM h,xaq]
theorem znE {f:Ty->Pat->Pat->List Pat}{c:Int}{ts:List Ty}{xs bs front:List Pat}{i:Nat} (h1:ts.length<=i):zbb f c (ts.drop i) (xs.drop i) (bs.drop i) front=[]:=by
 rw[List.drop_eq_nil_of_le h1];rfl
theorem zrP {n:Nat} (h:n<=11):4 ^ n<=4194304:=Nat.le_trans (Nat.pow_le_pow_right od h) om
theorem zgi {w:List Data} (hs:Spa w){n m:Nat}{t:Ty}{a b:Pat} (h:n<m) (h10:n<=10) (ht:InS (w.length*4) t) (ha:zao w m t a=true) (hb:zao w n t b=true):(zau w n t a b).length<=20000000:=by
 have h1:=zpA hs n m h ht ha hb;have h2:=(zhv hs n ht hb).2;have h3:=zrP (n:=n) od;omega
theorem zw4 {A B:List Pat}{y:Pat}{xs:List (List D)} (hx:xs=Pat.cs B) (hb:A.length+1+B.length<=1000):
  FnD Tryz.prog 222 [.d (.sl [[.sl (A.map Pat.cc)],[.sl [Pat.cc y]],[.sl xs]])] [] (.d (zak (A++[y]++B))) []:=by
 have h:=zkV (ls:=[A,[y],B]) oi ot ot;have e:[A,[y],B].flatten=A++[y]++B:=by simp
 rw[e] at h;subst hx;have e2:zwt [A,[y],B] = .sl [[.sl (A.map Pat.cc)],[.sl [Pat.cc y]],[.sl (Pat.cs B)]]:=by
  show D.sl [[.sl (Pat.cs A)],[.sl (Pat.cs [y])],[.sl (Pat.cs B)]]=_
  rw[xa1 A,xa1 [y]];rfl
 rw[e2] at h;exact h
section
variable {w:List Data}{f:Nat->Nat}
abbrev MinusFn (w:List Data) (f:Nat->Nat) (n:Nat) (ta tk:Int) (a b:Pat):Prop:=
 FnD Tryz.prog 170 [.d (sPtr w f),.agg [.d (.i ta),.d (.i tk)],.agg [.d (.i a.op),.d (.i a.ctor),.d (.i a.n),.d (.i a.m),.d (.i a.var),.d (zak a.kids)],.agg [.d (.i b.op),.d (.i b.ctor),.d (.i b.n),.d (.i b.m),.d (.i b.var),.d (zak b.kids)]] [] (.d (zak (zau w n ⟨ta,tk⟩ a b))) []
theorem zrj {n:Nat}{ta tk:Int}{a b:Pat} (h:b.op=1):MinusFn w f (n+1) ta tk a b:=by
 unfold MinusFn;rw[zi3 h];refine bd Tryz.f170 159 [] [] fun _ _ _ _ hk=>?_;refine bx 3005 ?_;refine bx 3006 ?_;refine bx 3007 ?_;refine ev ?_;apply sq<;>intro h1 h1p h1s;refine rn0 (r1 Z) (.nild ?_);rotate_left;try simp only[Q] at h1p
 exfalso;omega;all_goals (rfl)
theorem zrk {n:Nat}{ta tk:Int}{a b:Pat} (h:b.op=3) (hbn:0<=b.n/\b.n<=9) (hbm:0<=b.m/\b.m<=9):MinusFn w f (n+1) ta tk a b:=by
 unfold MinusFn;rw[zlq h];have er:zbL [lowQ a,minQ (zdG a) (b.n-1),maxQ (lowQ a) (b.m+1),zdG a] 2=zfg a b:=zv3 _ _ _ _;have hrg:=zgf (l:=[lowQ a,minQ (zdG a) (b.n-1),maxQ (lowQ a) (b.m+1),zdG a]) (n:=2) rfl od;rw[er] at hrg;refine bd Tryz.f170 159 [] [] fun _ _ _ _ hk=>?_;refine bx 3005 ?_;refine bx 3006 ?_;refine bx 3007 ?_;refine ev ?_;apply sq<;>intro h1 h1p h1s;try simp only[Q] at h1p
 exfalso;omega;apply sq<;>intro h2 h2p h2s;refine wc zye znm Z Z ?_;refine ev (ar (xbV .none Z Z Z (ev (ar (xbU .none Z Z Z (ev (si [0,1,2,3] [_,_,_,_] sl37 tz3 ?_)))))));refine wc zqQ hrg Z Z ?_;refine ev ?_;focus (refine rq ?_;all_goals (rfl))
 try simp only[Q] at h2p
 exfalso;omega
theorem zrn {n:Nat}{ta tk:Int}{a b:Pat} (h4:a.op=4) (h4b:b.op=4) (hc:¬a.ctor=b.ctor):MinusFn w f (n+1) ta tk a b:=by
 unfold MinusFn;have e:zau w (n+1) ⟨ta,tk⟩ a b=[a]:=by rw[ze0 h4b h4];exact if_neg hc
 rw[e];refine bd Tryz.f170 159 [] [] fun _ _ _ _ hk=>?_;refine bx 3005 ?_;refine bx 3006 ?_;refine bx 3007 ?_;refine ev ?_;apply sq<;>intro h1 h1p h1s;try simp only[Q] at h1p
 exfalso;omega;apply sq<;>intro h2 h2p h2s;try simp only[Q] at h2p
 exfalso;omega;apply sq<;>intro h3 h3p h3s;try simp only[Q] at h3p
 exfalso;omega;apply sq<;>intro h4 h4p h4s;refine si [0] [_] sl72 tz74 ?_;refine ev (rq ?_);rotate_left;try simp only[Q] at h4p
 exfalso;omega;all_goals (first|rfl|(cases a;rfl))
theorem zrm (hs:Spa w){n m:Nat} (hn:n+1<=10) (hm:m+1<=11) (hnm:n<m)
  (ih:∀ {ta tk:Int}{a b:Pat},InS (w.length*4) ⟨ta,tk⟩->zao w m ⟨ta,tk⟩ a=true->zao w n ⟨ta,tk⟩ b=true->MinusFn w f n ta tk a b)
  {ta tk:Int}{a b:Pat} (ht:InS (w.length*4) ⟨ta,tk⟩) (ha:zao w (m+1) ⟨ta,tk⟩ a=true) (hb:zao w (n+1) ⟨ta,tk⟩ b=true) (h4:a.op=4) (h4b:b.op=4) (hc:a.ctor=b.ctor):MinusFn w f (n+1) ta tk a b:=by
 obtain⟨c1,c2,c3,-⟩:=za6 ha h4;obtain⟨d1,d2,d3,-⟩:=za6 hb h4b;rw[<-hc] at d3;have h3l:=hs.args ⟨ta,tk⟩ a.ctor ht c1;have ka:=fun i (hi:i<a.kids.length)=>zbt ha hi;have kb:=fun i (hi:i<b.kids.length)=>zbt hb hi;rw[zbP h4] at ka;rw[zbP h4b,<-hc] at kb;have hbd:=zgi hs (n:=n+1) (m:=m+1) od hn ht ha hb;have e:zau w (n+1) ⟨ta,tk⟩ a b=zbb (zau w n) a.ctor (zae w ⟨ta,tk⟩ a.ctor) a.kids b.kids []:=by rw[ze0 h4b h4];exact if_pos hc
 have hins:=fun i (hi:i<(zae w ⟨ta,tk⟩ a.ctor).length)=>zcz hs.dp ht c1 _ (zaf hi);have hmi:∀i,i<(zae w ⟨ta,tk⟩ a.ctor).length->FnD Tryz.prog 170 [.d (sPtr w f),.agg [.d (.i (nth (zae w ⟨ta,tk⟩ a.ctor) i).data),.d (.i (nth (zae w ⟨ta,tk⟩ a.ctor) i).index)],.agg [.d (.i (nth a.kids i).op),.d (.i (nth a.kids i).ctor),.d (.i (nth a.kids i).n),.d (.i (nth a.kids i).m),.d (.i (nth a.kids i).var),.d (zak (nth a.kids i).kids)],.agg [.d (.i (nth b.kids i).op),.d (.i (nth b.kids i).ctor),.d (.i (nth b.kids i).n),.d (.i (nth b.kids i).m),.d (.i (nth b.kids i).var),.d (zak (nth b.kids i).kids)]] [] (.d (zak (zau w n (nth (zae w ⟨ta,tk⟩ a.ctor) i) (nth a.kids i) (nth b.kids i)))) []:=fun i hi=>ih (ta:=(nth (zae w ⟨ta,tk⟩ a.ctor) i).data) (tk:=(nth (zae w ⟨ta,tk⟩ a.ctor) i).index) (hins i hi) (ka i od) (kb i od);have hme:=fun i (hi:i<(zae w ⟨ta,tk⟩ a.ctor).length)=>zkw hs 11 m (f:=f) (ta:=(nth (zae w ⟨ta,tk⟩ a.ctor) i).data) (tk:=(nth (zae w ⟨ta,tk⟩ a.ctor) i).index) od (hins i hi) (ka i od) (zls od (kb i od));unfold MinusFn;rw[e] at hbd ⊢;have hT:∀i out front,i<(zae w ⟨ta,tk⟩ a.ctor).length->out++zbb (zau w n) a.ctor ((zae w ⟨ta,tk⟩ a.ctor).drop i) (a.kids.drop i) (b.kids.drop i) front=zbb (zau w n) a.ctor (zae w ⟨ta,tk⟩ a.ctor) a.kids b.kids []->
   out.length+(zau w n (nth (zae w ⟨ta,tk⟩ a.ctor) i) (nth a.kids i) (nth b.kids i)).length<=20000000:=fun i out front hi h=>by
  rw[zij hi od od] at h;have:=xam List.length h;simp only[xaa,xac] at this;omega
 refine bd Tryz.f170 159 [14,15] [] fun _ _ _ _ hk=>?_;refine bx 3005 ?_;refine bx 3006 ?_;refine bx 3007 ?_;refine evs [14,15] [] ?_;apply sq<;>intro h1 h1p h1s;try simp only[Q,xa3] at h1p
 exfalso;omega;apply sq<;>intro h2 h2p h2s;try simp only[Q,xa3] at h2p
 exfalso;omega;apply sq<;>intro h3 h3p h3s;try simp only[Q,xa3] at h3p
 exfalso;omega;apply sq<;>intro h4 h4p h4s;try simp only[Q,xa3] at h4p
 exfalso;omega;refine xbr 9 6 .none Z Z (xbr 8 6 .none Z Z ?_);apply tv;refine wc ziP (zcU hs.dp.wt (zc2 ht) c1) Z Z ?_;refine evd [14,15] [] (dr (xaB (ι:=Nat×List Pat×List Pat) hk (fun s=>[(94,.d (.i (s.1:Int))),(14,.gl 9 (s.2.1.map Pat.cc)),(15,.gl 8 (s.2.2.map Pat.cc))]) [16,17,19,20,21,22,95,96,97,98,99,100,101,102,103,104,105,106,107,108,109,110,111,112,113,114,115,116,117,118,119,120,121,122,123,124,125,126,127,128,129,130,131,132,133,134,135,136,137,138,139,140,141,142,143,144,145,146,147,148,149,150,151,152,153,154,155,156,157] (fun s=>[(9,some (.tok ((s.2.1.map Pat.cc)).length 6)),(8,some (.tok ((s.2.2.map Pat.cc)).length 6))]) (fun s=>s.1<=a.kids.length/\s.2.2.length=s.1/\s.2.1++zbb (zau w n) a.ctor ((zae w ⟨ta,tk⟩ a.ctor).drop s.1) (a.kids.drop s.1) (b.kids.drop s.1) s.2.2=zbb (zau w n) a.ctor (zae w ⟨ta,tk⟩ a.ctor) a.kids b.kids []) (fun s=>a.kids.length-s.1) (0,[],[]) ⟨by simp,Z,Z⟩ ⟨⟨_,Z,xaU ?_⟩,⟨⟨_,Z,LeA.glg ?_⟩,⟨⟨_,Z,LeA.glg ?_⟩,O⟩⟩⟩ ⟨zac ?_,⟨zac ?_,O⟩⟩ (fun x=>rfl) (fun s hg2=>?_)));iterate 5 focus (rfl)
 refine evc [14,15] [] ?_;apply sq<;>intro h5 h5p h5s<;>(try simp only[Q,xa3] at h5p);refine ixq zaz Z Z Z (zah od) Z ?_;refine evs [14,15] [] (ab 3017 tz29 ?_);refine evs [14,15] [] (so ty29 ?_);apply tv;refine ixq sl72 Z Z Z (zaE od) Z ?_;refine evd [14,15] [] (ixq sl72 Z Z Z (zaE od) Z ?_);refine evd [14,15] [] (wc zqL (hmi s.1 od) Z Z ?_);refine evd [14,15] [] (dr (xaB (ι:=List (Pat)×List (Pat)) hk (fun x=>[(113,.d (.i (x.1.length:Int))),(14,.gl 9 ((s.2.1++x.1.map (fun z=>zca a.ctor (s.2.2++[z]++a.kids.drop (s.1+1)))).map Pat.cc))]) [19,20,114,115,116,117,118,119,120,121,122,123,124,125,126,127,128,129,130,131,132,133,134] (fun x=>[(9,some (.tok (((s.2.1++x.1.map (fun z=>zca a.ctor (s.2.2++[z]++a.kids.drop (s.1+1)))).map Pat.cc)).length 6))]) (fun x=>x.1++x.2=(zau w n (nth (zae w ⟨ta,tk⟩ a.ctor) s.1) (nth a.kids s.1) (nth b.kids s.1))) (fun x=>x.2.length) ([],(zau w n (nth (zae w ⟨ta,tk⟩ a.ctor) s.1) (nth a.kids s.1) (nth b.kids s.1))) oi ⟨⟨_,Z,xaU ?_⟩,⟨⟨_,Z,LeA.glg ?_⟩,O⟩⟩ ⟨zac ?_,O⟩ (fun x=>rfl) (fun x hg3=>?_)));iterate 3 focus ((simp;done))
 obtain⟨pre,rest⟩:=x;dsimp only at hg3 ⊢;refine evc [14,15] [] ?_;apply sq<;>intro h6 h6p h6s<;>(try simp only[Q,xa3] at h6p);rcases rest with _|⟨y,rest⟩
 ·exfalso;simp_all
 refine ixq sl72 Z Z Z (xaZ hg3) Z (evs [14,15] [] (ab 3019 tz74 ?_));refine so ty74 ?_;apply tv;refine si [0] [_] sl72 tz74 ?_;refine evd [14,15] [] (ar ?_ (by(constructor<;>omega)));refine xbE (b:=s.1+1) sl72 .none Z Z Z (by intro x hx;exact zcv _ x hx) Z Z (by simp only[xa3];omega) ?_;refine si [0,1,2] [_,_,_] zex tz72 ?_;refine wc zyg (zw4 (A:=s.2.2) (y:=y) (xs:=(Pat.cs a.kids).drop (s.1+1)) (B:=a.kids.drop (s.1+1)) (by rw[xa1,xa1,List.map_drop]) (by rw[List.length_drop];omega)) Z Z ?_;refine evd [14,15] [] (dr (bu [0,1,5] [_,_,_] st74 ?_));refine si [0] [_] sl72 tz74 ?_;refine ap sl72 zz74 Z Z Z oy (by(have h9:=hT s.1 s.2.1 s.2.2 od hg2.2.2;have h8:=xam List.length hg3;simp at h8 ⊢;omega)) ?_;refine asg ?_;apply tv;refine ar ?_ (by(have h9:=hT s.1 s.2.1 s.2.2 od hg2.2.2;have h8:=xam List.length hg3;simp only[xaa,xab] at h8;constructor<;>omega));refine xaj ((pre++[y],rest)) ⟨(by have hz:=hg3;rw[<-hz];simp),oi,sx ⟨⟨_,Z,xaU ?_⟩,⟨⟨_,Z,LeA.glg ?_⟩,O⟩⟩ ⟨zac ?_,O⟩⟩;iterate 3 focus (first|(simp;done)|(simp only[xag,xar,xaf,List.map_nil];rfl)|(simp;omega))
 have hrest:rest=[]:=by
  rcases rest with _|⟨a,b⟩
  ·rfl
  ·exfalso;have hz:=xam List.length (hg3);simp only[xaa,xab,xac] at hz;omega
 subst hrest;refine ixq sl72 Z Z Z (zaE od) Z ?_;refine evd [14,15] [] (ixq sl72 Z Z Z (zaE od) Z ?_);refine evd [14,15] [] (wc zug (hme s.1 od) Z Z ?_);refine evd [14,15] [] (ab 3021 tz74 ?_);refine so ty74 ?_;refine evd [14,15] [] (dr ?_);apply sq<;>intro h7 h7p h7s;refine rn0 (r1 Z) (.gld ?_);rotate_left;try simp only[Q,xa3] at h7p
 refine si [0] [_] sl72 tz74 ?_;refine ap sl72 zz74 Z Z Z oy (by(have h9:=hT s.1 s.2.1 s.2.2 od hg2.2.2;have h8:=xam List.length hg3;simp at h8 ⊢;omega)) ?_;refine asg ?_;apply tv;refine ar ?_ (by(constructor<;>omega));refine xaj ((s.1+1,s.2.1++(zau w n (nth (zae w ⟨ta,tk⟩ a.ctor) s.1) (nth a.kids s.1) (nth b.kids s.1)).map (fun z=>zca a.ctor (s.2.2++[z]++a.kids.drop (s.1+1))),s.2.2++[zdb 11 (nth a.kids s.1) (nth b.kids s.1)])) ⟨⟨by dsimp only;omega,by dsimp only;rw[xaa,hg2.2.1];rfl,by dsimp only;rw[xar,<-zlX od od od ol];exact hg2.2.2⟩,ox,sx ⟨⟨_,Z,xaU ?_⟩,⟨⟨_,Z,LeA.glg ?_⟩,⟨⟨_,Z,LeA.glg ?_⟩,O⟩⟩⟩ ⟨zac ?_,⟨zac ?_,O⟩⟩⟩;iterate 5 focus ((simp_all;done))
 refine rn0 (r1 Z) (.gld ?_);rotate_left;all_goals (first|(rw[<-hg2.2.2,znE od,xaq,xa1];done)|(rw[xaq] at hg3;rw[<-hg2.2.2,zlW od od od ol,<-hg3,xa1];all_goals rfl))
theorem zrl (hs:Spa w){n:Nat}{ta tk:Int}{a b:Pat} (ht:InS (w.length*4) ⟨ta,tk⟩) (h1:a.op=1) (h4b:b.op=4) (hbd:(zau w (n+1) ⟨ta,tk⟩ a b).length<=20000000)
  (hC:∀c∈zas w ⟨ta,tk⟩,MinusFn w f (n+1) ta tk (zco w ⟨ta,tk⟩ c) b):MinusFn w f (n+1) ta tk a b:=by
 have e:zau w (n+1) ⟨ta,tk⟩ a b=(zas w ⟨ta,tk⟩).flatMap fun c=>zau w (n+1) ⟨ta,tk⟩ (zco w ⟨ta,tk⟩ c) b:=by
  rw[zi4 h4b h1];exact xam (fun g=>(zas w ⟨ta,tk⟩).flatMap g) (funext fun c=>(ze0 h4b Z).symm)
 unfold MinusFn;rw[e] at hbd ⊢;have hcl:=(hs.ctors _ ht).1;have hpre:∀ {pre rest:List Int}{y:Int},pre++y::rest=zas w ⟨ta,tk⟩->(pre.flatMap fun c=>zau w (n+1) ⟨ta,tk⟩ (zco w ⟨ta,tk⟩ c) b).length+(zau w (n+1) ⟨ta,tk⟩ (zco w ⟨ta,tk⟩ y) b).length<=20000000:=fun h=>by
  rw[<-h,List.flatMap_append,List.flatMap_cons] at hbd;simp only[xaa] at hbd;omega
 have hmem:∀ {pre rest:List Int}{y:Int},pre++y::rest=zas w ⟨ta,tk⟩->y∈zas w ⟨ta,tk⟩:=fun h=>by rw[<-h];simp
 refine bd Tryz.f170 159 [11] [] fun _ _ _ _ hk=>?_;refine bx 3005 ?_;refine bx 3006 ?_;refine bx 3007 ?_;refine evs [11] [] ?_;apply sq<;>intro h1 h1p h1s;try simp only[Q,xa3] at h1p
 exfalso;omega;apply sq<;>intro h2 h2p h2s;try simp only[Q,xa3] at h2p
 exfalso;omega;apply sq<;>intro h3 h3p h3s;refine xbr 9 6 .none Z Z ?_;apply tv;refine wc ziO (zdl hs.dp.wt (zc2 ht)) Z Z ?_;refine evd [11] [] (dr (xaB (ι:=List (Int)×List (Int)) hk (fun x=>[(61,.d (.i (x.1.length:Int))),(11,.gl 9 (Pat.cs (x.1.flatMap fun c=>zau w (n+1) ⟨ta,tk⟩ (zco w ⟨ta,tk⟩ c) b)))]) [13,62,63,64,65,66,67,68,69,70,71,72,73,74,75] (fun x=>[(9,some (.tok ((Pat.cs (x.1.flatMap fun c=>zau w (n+1) ⟨ta,tk⟩ (zco w ⟨ta,tk⟩ c) b))).length 6))]) (fun x=>x.1++x.2=zas w ⟨ta,tk⟩) (fun x=>x.2.length) ([],zas w ⟨ta,tk⟩) oi ⟨⟨_,Z,xaU ?_⟩,⟨⟨_,Z,LeA.glg ?_⟩,O⟩⟩ ⟨zac ?_,O⟩ (fun x=>rfl) (fun x hg1=>?_)));iterate 3 focus (rfl)
 obtain⟨pre,rest⟩:=x;dsimp only at hg1 ⊢;refine evc [11] [] ?_;apply sq<;>intro h4 h4p h4s<;>(try simp only[Q,xa3] at h4p);rcases rest with _|⟨y,rest⟩
 ·exfalso;simp_all
 refine ixq sl37 Z Z Z (zaA hg1) Z (evs [11] [] (wc zyf (zp7 hs.dp.wt (f:=f) (zc2 ht) (hmem hg1) (hs.args _ _ ht (hmem hg1))) Z Z ?_));refine evd [11] [] (wc zqL (hC y (hmem hg1)) Z Z ?_);refine ap sl72 zz74 Z Z Z (by exact zcv _) (by have h9:=hpre hg1;simp only[xa3];omega) ?_;refine asg ?_;refine dr (ar (xaj ((pre++[y],rest)) ⟨(by have hz:=hg1;rw[<-hz];simp),oi,sx ⟨⟨_,Z,xaU ?_⟩,⟨⟨_,Z,LeA.glg ?_⟩,O⟩⟩ ⟨zac ?_,O⟩⟩));iterate 3 focus (first|(rw[List.flatMap_append,xa1,xa1,xa1,xag];simp;done)|(simp[xa3];done))
 have hrest:rest=[]:=by
  rcases rest with _|⟨a,b⟩
  ·rfl
  ·exfalso;have hz:=xam List.length (hg1);simp only[xaa,xab,xac] at hz;omega
 subst hrest;refine rn0 (r1 Z) (.gld ?_);rotate_left;try simp only[Q,xa3] at h3p
 exfalso;omega;all_goals ((rw[xaq] at hg1;rw[hg1];done))
theorem zjZ (hs:Spa w):∀(n m:Nat){ta tk:Int}{a b:Pat},n<m->n<=10->m<=11->InS (w.length*4) ⟨ta,tk⟩->zao w m ⟨ta,tk⟩ a=true->zao w n ⟨ta,tk⟩ b=true->MinusFn w f n ta tk a b
 |0,m,ta,tk,a,b,_,_,_,_,_,hb=>by simp[zao] at hb
 |n+1,0,ta,tk,a,b,h,_,_,_,_,_=>by omega
 |n+1,m+1,ta,tk,a,b,h,hn,hm,ht,ha,hb=>by
  have hC:∀ {a:Pat},zao w (m+1) ⟨ta,tk⟩ a=true->a.op=4->b.op=4->MinusFn w f (n+1) ta tk a b:=fun {a} ha h4 h4b=>by
   by_cases hc:a.ctor=b.ctor
   ·exact zrm hs hn hm od (fun h1 h2 h3=>zjZ hs n m od od od h1 h2 h3) ht ha hb h4 h4b hc
   ·exact zrn h4 h4b hc
  rcases zcm hb with h1|h3|h4b
  ·exact zrj h1
  ·have:=zcG hb h3;exact zrk h3 ⟨by omega,by omega⟩ ⟨by omega,by omega⟩
  ·by_cases h1:a.op=1
   ·obtain⟨m',rfl⟩:∃m',m=m'+1:=⟨m-1,by omega⟩;exact zrl hs ht h1 h4b (zgi hs h hn ht ha hb) (fun c hc=>hC (zeq hc) Z h4b)
   ·exact hC ha (by have:=zep ha hb h1 od;omega) h4b
end
abbrev zic (o:List Pat):List D:=[.sl (Pat.cs o)]
abbrev zjv (ls:List (List Pat)):D:= .sl (ls.map zic)
theorem ztO {N:Nat} (acc:List (List Pat)) (l:List Pat):(zbp (acc.take N) l).take N=(zbp acc l).take N:=by
 by_cases h:acc.length<=N
 ·rw[List.take_of_length_le h]
 have e0:∀a:List (List Pat),zbp a []=[]:=fun a=>by unfold zbp;simp
 cases l with
 |nil=>rw[e0,e0]
 |cons c r=>
  have e:zbp acc (c::r)=zbp (acc.take N) (c::r)++zbp (acc.drop N) (c::r):=by
   unfold zbp;rw[<-List.flatMap_append,List.take_append_drop]
  rw[e,zeR];rw[zgO,List.length_take,Nat.min_eq_left od,xab];exact Nat.le_mul_of_pos_right _ od
theorem ztP {N:Nat} (acc:List (List Pat)) (l:List Pat):(zbp acc (l.take N)).take N=(zbp acc l).take N:=by
 by_cases h:l.length<=N
 ·rw[List.take_of_length_le h]
 cases acc with
 |nil=>rfl
 |cons q r=>
  have e:∀l:List Pat,zbp (q::r) l=l.map (fun c=>q++[c])++zbp r l:=fun l=>by unfold zbp;rw[List.flatMap_cons]
  rw[e,e,zeR (by rw[xac,List.length_take];omega),zeR (by rw[xac];omega),List.map_take,List.take_take,Nat.min_self]
def tupQ (m:Nat) (ls:List (List Pat)):List (List Pat):=ls.foldl (fun acc l=>(zbp acc l).take (m+1)) [[]]
theorem zk7 (m:Nat) (ls:List (List Pat)) (l:List Pat):tupQ m (ls++[l])=(zbp (tupQ m ls) l).take (m+1):=by
 unfold tupQ;rw[List.foldl_append];rfl
theorem zsg (m:Nat):∀(ls:List (List Pat)) (acc:List (List Pat)),(ls.map (List.take (m+1))).foldl (fun acc l=>(zbp acc l).take (m+1)) (acc.take (m+1))=(ls.foldl zbp acc).take (m+1)
 | [],acc=>rfl
 |l::r,acc=>by
  rw[xaf,List.foldl_cons,List.foldl_cons,ztP,ztO];exact zsg m r (zbp acc l)
theorem zxy (m:Nat) (ls:List (List Pat)):tupQ m (ls.map (List.take (m+1)))=(zfq ls).take (m+1):=by
 have h:=zsg m ls [[]];have e:([[]]:List (List Pat)).take (m+1)=[[]]:=by simp
 rw[e] at h;exact h
theorem zse (m:Nat) (ls:List (List Pat)):(tupQ m ls).length<=m+1:=by
 have key:∀(ls acc:List (List Pat)),acc.length<=m+1->(ls.foldl (fun acc l=>(zbp acc l).take (m+1)) acc).length<=m+1:=by
  intro ls;induction ls with
  |nil=>intro acc h;exact h
  |cons l r ih=>intro acc h;exact ih _ uc
 exact key ls [[]] oi
theorem zsf (m:Nat){ls:List (List Pat)}{o:List Pat} (h:o∈tupQ m ls):o.length=ls.length:=by
 have key:∀(ls acc:List (List Pat)) (n:Nat),(∀o∈acc,o.length=n)->∀o∈ls.foldl (fun acc l=>(zbp acc l).take (m+1)) acc,o.length=n+ls.length:=by
  intro ls;induction ls with
  |nil=>intro acc n h o ho;exact h o ho
  |cons l r ih=>
   intro acc n h o ho;have:=ih _ (n+1) (fun o' ho'=>by
    have ho':=List.mem_of_mem_take ho';unfold zbp at ho';simp only[List.mem_flatMap,List.mem_map] at ho';obtain⟨p,hp,q,_,rfl⟩:=ho';simp[h p hp]) o ho
   simp only[xab];omega
 have:=key ls [[]] 0 oi o h;simpa using this
def zlw (l:List Pat) (o:List Pat):List (List Pat):=l.map fun y=>o++[y]
theorem zo4 (acc:List (List Pat)) (l:List Pat):zbp acc l=acc.flatMap (zlw l):=rfl
theorem zsc {X:List (List Pat)}{l:List Pat}{o:List Pat}{j m:Nat} (hc:¬j<l.length\/¬((X++(l.take j).map fun y=>o++[y]).take (m+1)).length<=m):
  (X++(l.take j).map fun y=>o++[y]).take (m+1)=(X++zlw l o).take (m+1):=zxw hc
theorem zwe {α:Type}{N:Nat} (a b:List α):(a.take N++b.take N).take N=(a++b).take N:=by
 by_cases h:a.length<=N
 ·rw[List.take_of_length_le h,List.take_append,List.take_append,List.take_take,Nat.min_eq_left od]
 ·rw[zeR uc,zeR od,List.take_take,Nat.min_self]
def za2 (p:Pat):List Pat:=(zaG p).take 401
theorem zwa {p:Pat} (h:p.op=5) (hk:p.kids.length=2):za2 p=(za2 (nth p.kids 0)++za2 (nth p.kids 1)).take 401:=by
 unfold za2;rw[zh2 h hk,zwe]
theorem zwb {p:Pat} (h:p.op≠5):za2 p=(tupQ 400 (p.kids.map za2)).map fun l=> .mk p.op p.ctor p.n p.m p.var l:=by
 unfold za2;rw[zfw h,<-List.map_take];congr 1
 have:=zxy 400 (p.kids.map zaG);rw[List.map_map] at this;exact this.symm
theorem zhl (p:Pat):(za2 p).length<=401:=by unfold za2;rw[List.length_take];omega
theorem zdv:∀(n:Nat){p:Pat},p.size<=n->p.ok->FnD Tryz.prog 275 [.agg [.d (.i p.op),.d (.i p.ctor),.d (.i p.n),.d (.i p.m),.d (.i p.var),.d (zak p.kids)]] [] (.agg [.d (.i (zaS p).op),.d (.i (zaS p).ctor),.d (.i (zaS p).n),.d (.i (zaS p).m),.d (.i (zaS p).var),.d (zak (zaS p).kids)]) []
 |0,p,h,_=>by rw[xa5] at h;omega
 |n+1,p,h,hok=>by
  rw[xa5] at h;rw[xa4] at hok;have hok1:=hok.1;by_cases h2:p.op=2
  ·rw[zsE h2];refine bd Tryz.f275 42 [] [] fun _ _ _ _ hk=>?_;refine bx 3001 ?_;refine ab 3002 tz74 ?_;apply tv;apply sq<;>intro h1 h1p h1s<;>(try simp only[Q] at h1p);refine bu [0] [_] st74 ?_;refine so ty74 ?_;apply tv;refine rn0 (ra ty74) (.agg (qeeeeen ?_ ?_ ?_ ?_ ?_ ?_));rotate_left 6;exfalso;omega;all_goals (rfl)
  by_cases h6:p.op=6/\0<p.kids.length
  ·rw[zsF h6.1 h6.2];refine bd Tryz.f275 42 [] [] fun _ _ _ _ hk=>?_;refine bx 3001 ?_;refine ab 3002 tz74 ?_;apply tv;apply sq<;>intro h1 h1p h1s<;>(try simp only[Q,xa3] at h1p);exfalso;omega;apply sq<;>intro h2 h2p h2s<;>(try simp only[Q,xa3] at h2p);apply sq<;>intro h3 h3p h3s<;>(try simp only[Q,xa3] at h3p);refine ixq (i:=0) sl72 Z Z Z (zaE h6.2) Z (ev (wc zm1 (zdv n (p:=nth p.kids 0) (by have:=xa8 (zaf h6.2);omega) (xa6 hok.2 _ (zaf h6.2))) Z Z ?_));refine so ty74 ?_;apply tv;refine rn0 (ra ty74) (.agg (qeeeeee ?_ ?_ ?_ ?_ ?_ ?_));rotate_left 6;exfalso;omega;exfalso;omega;all_goals (rfl)
  ·rw[zsG h2 h6];refine bd Tryz.f275 42 [] [] fun _ _ _ _ hk=>?_;refine bx 3001 ?_;refine ab 3002 tz74 ?_;apply tv;apply sq<;>intro h1 h1p h1s<;>(try simp only[Q,xa3] at h1p);exfalso;omega;apply sq<;>intro h2 h2p h2s<;>(try simp only[Q,xa3] at h2p);apply sq<;>intro h3 h3p h3s<;>(try simp only[Q,xa3] at h3p);exfalso;apply h6;exact⟨by omega,by omega⟩;refine ab 3003 tz74 ?_;refine so ty74 ?_;apply tv;refine so ty72 ?_;apply tv;refine xaE 3003 5 7 6 Z Z Z Z (xaB (ι:=List (Pat)×List (Pat)) hk (fun x=>[(4,.d (.i (x.1.length:Int)))]) [23,24,25,26,27,28,29,30,31,32,33,34,35,36,37,38,39,40] (fun x=>[(3003,some (.box [.d (.i p.op),.d (.i p.ctor),.d (.i p.n),.d (.i p.m),.d (.i p.var),.gl 7 ((x.1.map zaS).map Pat.cc)])),(7,some (.tok ((x.1.map zaS).map Pat.cc).length 6))]) (fun x=>x.1++x.2=p.kids) (fun x=>x.2.length) ([],p.kids) oi ⟨⟨_,Z,xaU ?_⟩,O⟩ ⟨?_,⟨zac ?_,O⟩⟩ (fun x=>rfl) (fun x hg1=>?_));focus ((simp;done))
   focus (first|rfl|(simp[getH];done))
   focus ((simp;done))
   obtain⟨pre,rest⟩:=x;dsimp only at hg1 ⊢;refine evc [] [] ?_;apply sq<;>intro h4 h4p h4s<;>(try simp only[Q,xa3] at h4p);rcases rest with _|⟨y,rest⟩
   ·exfalso;simp_all
   refine ixq sl72 Z Z Z (xaZ hg1) Z (evd [] [] (wc zm1 (zdv n (p:=y) (by have:=xa8 (l:=p.kids) (v:=y) (by rw[<-hg1];simp);omega) (xa6 hok.2 y (by rw[<-hg1];simp))) Z Z ?_));refine si [0] [_] sl72 tz74 ?_;refine ap sl72 zz74 Z Z Z o9 (by have:=xam List.length hg1;simp at this;simp;omega) ?_;refine evd [] [] (so ty72 ?_);refine dr (ar (xaj ((pre++[y],rest)) ⟨(by have hz:=hg1;rw[<-hz];simp),oi,sx ⟨⟨_,Z,xaU ?_⟩,O⟩ ⟨?_,⟨zac ?_,O⟩⟩⟩));focus ((simp;done))
   focus (first|rfl|(simp[getH];done))
   focus ((simp;done))
   have hrest:rest=[]:=by
    rcases rest with _|⟨a,b⟩
    ·rfl
    ·exfalso;have hz:=xam List.length (hg1);simp only[xaa,xab,xac] at hz;omega
   subst hrest;refine so ty74 ?_;apply tv;refine rn0 (ra ty74) (.agg (qeeeeeg ?_ ?_ ?_ ?_ ?_ ?_));rotate_left 6;refine ab 3003 tz74 ?_;refine so ty74 ?_;apply tv;refine so ty72 ?_;apply tv;refine xaE 3003 5 7 6 Z Z Z Z (xaB (ι:=List (Pat)×List (Pat)) hk (fun x=>[(4,.d (.i (x.1.length:Int)))]) [23,24,25,26,27,28,29,30,31,32,33,34,35,36,37,38,39,40] (fun x=>[(3003,some (.box [.d (.i p.op),.d (.i p.ctor),.d (.i p.n),.d (.i p.m),.d (.i p.var),.gl 7 ((x.1.map zaS).map Pat.cc)])),(7,some (.tok ((x.1.map zaS).map Pat.cc).length 6))]) (fun x=>x.1++x.2=p.kids) (fun x=>x.2.length) ([],p.kids) oi ⟨⟨_,Z,xaU ?_⟩,O⟩ ⟨?_,⟨zac ?_,O⟩⟩ (fun x=>rfl) (fun x hg1=>?_));focus ((simp;done))
   focus (first|rfl|(simp[getH];done))
   focus ((simp;done))
   obtain⟨pre,rest⟩:=x;dsimp only at hg1 ⊢;refine evc [] [] ?_;apply sq<;>intro h5 h5p h5s<;>(try simp only[Q,xa3] at h5p);rcases rest with _|⟨y,rest⟩
   ·exfalso;simp_all
   refine ixq sl72 Z Z Z (xaZ hg1) Z (evd [] [] (wc zm1 (zdv n (p:=y) (by have:=xa8 (l:=p.kids) (v:=y) (by rw[<-hg1];simp);omega) (xa6 hok.2 y (by rw[<-hg1];simp))) Z Z ?_));refine si [0] [_] sl72 tz74 ?_;refine ap sl72 zz74 Z Z Z o9 (by have:=xam List.length hg1;simp at this;simp;omega) ?_;refine evd [] [] (so ty72 ?_);refine dr (ar (xaj ((pre++[y],rest)) ⟨(by have hz:=hg1;rw[<-hz];simp),oi,sx ⟨⟨_,Z,xaU ?_⟩,O⟩ ⟨?_,⟨zac ?_,O⟩⟩⟩));focus ((simp;done))
   focus (first|rfl|(simp[getH];done))
   focus ((simp;done))
   have hrest:rest=[]:=by
    rcases rest with _|⟨a,b⟩
    ·rfl
    ·exfalso;have hz:=xam List.length (hg1);simp only[xaa,xab,xac] at hz;omega
   subst hrest;refine so ty74 ?_;apply tv;refine rn0 (ra ty74) (.agg (qeeeeeg ?_ ?_ ?_ ?_ ?_ ?_));rotate_left 6;all_goals (first|rfl|(rw[xaq] at hg1;rw[<-hg1,xa1];done)|(rw[xaq] at hg1;subst hg1;rw[<-xa1];all_goals rfl))
theorem ub{p:Prop}(h:p:=by intro z hz;first|(rw[xa1] at hz;obtain⟨_,_,rfl⟩:=List.mem_map.1 hz;rfl)|(simp at hz;rw[hz];rfl)):p:=h
theorem zmF {ls:List (List Pat)} (hl:ls.length<=1000000000000) (hls:∀l∈ls,l.length<=1000000000000):FnD Tryz.prog 141 [.d (zjv ls)] [] (.d (zjv (tupQ 400 ls))) []:=by
 refine bd Tryz.f141 62 [] [] fun _ _ _ _ hk=>?_;refine xb7 sl72 .none Z (si [0] [_] zex tz72 ?_);refine ev (xaB (ι:=List (List Pat)×List (List Pat)) hk (fun x=>[(4,.d (.i (x.1.length:Int))),(3,.d (.sl ((tupQ 400 x.1).map zic)))]) [5,6,7,10,11,12,13,14,15,16,17,18,19,20,21,22,23,24,25,26,27,28,29,30,31,32,33,34,35,36,37,38,39,40,41,42,43,44,45,46,47,48,49,50,51,52,53,54,55,56,57,58,59,60] (fun x=>[]) (fun x=>x.1++x.2=ls) (fun x=>x.2.length) ([],ls) oi ⟨⟨_,Z,xaU ?_⟩,⟨⟨_,Z, ?_⟩,O⟩⟩ O (fun x=>rfl) (fun x hg1=>?_));focus (first|rfl|(simp;done))
 focus (first|exact LeA.refl _|((first|refine LeA.gld ?_|refine LeA.nild ?_);first|rfl|(simp;done)|(rw[zk7,zo4,zoC od])))
 obtain⟨pre,rest⟩:=x;dsimp only at hg1 ⊢;refine evc [] [] ?_;apply sq<;>intro h1 h1p h1s<;>(try simp only[Q,xa3,Int.ofNat_lt,Int.ofNat_le] at h1p);rcases rest with _|⟨l,rest⟩
 ·exfalso;simp_all
 have hll:=hls l (by rw[<-hg1];simp);have htl:=zse 400 pre;refine xb8 3 zex .none Z Z (ev (xaB (ι:=Nat) hk (fun k=>[(6,.d (.i (k:Int))),(5,.gl 3 (((((tupQ 400 pre).take k).flatMap (zlw l)).take (400+1)).map zic))]) [7,17,18,19,20,21,22,23,24,25,26,27,28,29,30,31,32,33,34,35,36,37,38,39,40,41,42,43,44,45,46,47,48,49,50,51,52,53,54,55,56,57,58,59] (fun k=>[(3,some (.tok ((((((tupQ 400 pre).take k).flatMap (zlw l)).take (400+1)).map zic)).length 1))]) (fun k=>k<=(tupQ 400 pre).length) (fun k=>(tupQ 400 pre).length-k) 0 oi ⟨⟨_,Z,xaU ?_⟩,⟨⟨_,Z,LeA.glg ?_⟩,O⟩⟩ ⟨zac ?_,O⟩ (fun x=>rfl) (fun k hg2=>?_)));iterate 3 focus (first|rfl|(simp;done))
 refine evc [] [] ?_;apply sq<;>intro h2 h2p h2s<;>(try simp only[Q,xa3,Int.ofNat_lt,Int.ofNat_le] at h2p);apply sq<;>intro h3 h3p h3s<;>(try simp only[Q,xa3,Int.ofNat_lt,Int.ofNat_le] at h3p);refine xaB (ι:=Nat) hk (fun j=>[(7,.d (.i (j:Int))),(5,.gl 3 (((((tupQ 400 pre).take k).flatMap (zlw l)++(l.take j).map (fun y=>nth (tupQ 400 pre) k++[y])).take (400+1)).map zic))]) [28,29,30,31,32,33,34,35,36,37,38,39,40,41,42,43,44,45,46,47,48,49,50,51,52,53,54,55,56,57,58,59] (fun j=>[(3,some (.tok ((((((tupQ 400 pre).take k).flatMap (zlw l)++(l.take j).map (fun y=>nth (tupQ 400 pre) k++[y])).take (400+1)).map zic)).length 1))]) (fun j=>j<=l.length) (fun j=>l.length-j) 0 oi ⟨⟨_,Z,xaU ?_⟩,⟨⟨_,Z,LeA.glg ?_⟩,O⟩⟩ ⟨zac ?_,O⟩ (fun x=>rfl) (fun j hg3=>?_);iterate 3 focus (first|rfl|(simp;done))
 have hol:=zsf 400 (zaf (l:=tupQ 400 pre) (i:=k) od);refine evc [] [] (ixq zex Z Z Z (by first|exact zaA hg1|exact zah od) Z ?_);refine ev ?_;apply sq<;>intro h4 h4p h4s<;>(try simp only[Q,xa3,Int.ofNat_lt,Int.ofNat_le] at h4p);apply sq<;>intro h5 h5p h5s<;>(try simp only[Q,xa3,Int.ofNat_lt,Int.ofNat_le] at h5p);refine xb8 5 sl72 .none Z Z (evd [] [] (ixq zex Z Z Z (by first|exact zaA hg1|exact zah od) Z ?_));refine evd [] [] (ap sl72 zz74 Z Z Z ub (by first|(simp only[xac,xaa,xab,xak,xa3] at *;omega)) ?_);refine evd [] [] (ixq zex Z Z Z (by first|exact zaA hg1|exact zah od) Z ?_);refine evd [] [] (ixq sl72 Z Z Z (zaE od) Z ?_);refine evd [] [] (si [0] [_] sl72 tz74 ?_);refine ap sl72 zz74 Z Z Z ub (by first|(simp only[xac,xaa,xab,xak,xa3] at *;omega)) ?_;refine si [0] [_] zex tz72 ?_;refine ap zex zz72 Z Z Z ub (by first|(simp only[xac,xaa,xab,xak,xa3] at *;omega)) ?_;refine evd [] [] (dr (ar (xaj (j+1) ⟨?_, ?_,sx ⟨⟨_,Z,xaU ?_⟩,⟨⟨_,Z,LeA.glg ?_⟩,O⟩⟩ ⟨zac ?_,O⟩⟩)));iterate 2 focus (first|omega|(simp_all;done))
 iterate 3 focus (first|rfl|(simp;done)|(rw[zxx od od,xag];simp[xa1];done))
 refine ar (xaj (k+1) ⟨?_, ?_,sx ⟨⟨_,Z,xaU ?_⟩,⟨⟨_,Z,LeA.glg ?_⟩,O⟩⟩ ⟨zac ?_,O⟩⟩);iterate 2 focus (first|omega|(simp_all;done))
 iterate 3 focus (first|rfl|(simp;done)|(rw[zsQ od,zsc od]))
 refine sqF ?_;refine ar (xaj (k+1) ⟨?_, ?_,sx ⟨⟨_,Z,xaU ?_⟩,⟨⟨_,Z,LeA.glg ?_⟩,O⟩⟩ ⟨zac ?_,O⟩⟩);iterate 2 focus (first|omega|(simp_all;done))
 iterate 3 focus (first|rfl|(simp;done)|(rw[zsQ od,zsc od]))
 refine ar (xaj ((pre++[l],rest)) ⟨(by have hz:=hg1;rw[<-hz];simp),oi,sx ⟨⟨_,Z,xaU ?_⟩,⟨⟨_,Z, ?_⟩,O⟩⟩ O⟩);focus (first|rfl|(simp;done))
 focus (first|exact LeA.refl _|((first|refine LeA.gld ?_|refine LeA.nild ?_);first|rfl|(simp;done)|(rw[zk7,zo4,zoC od])))
 refine sqF ?_;refine ar (xaj ((pre++[l],rest)) ⟨(by have hz:=hg1;rw[<-hz];simp),oi,sx ⟨⟨_,Z,xaU ?_⟩,⟨⟨_,Z, ?_⟩,O⟩⟩ O⟩);focus (first|rfl|(simp;done))
 focus (first|exact LeA.refl _|((first|refine LeA.gld ?_|refine LeA.nild ?_);first|rfl|(simp;done)|(rw[zk7,zo4,zoC od])))
 have hrest:rest=[]:=by
  rcases rest with _|⟨a,b⟩
  ·rfl
  ·exfalso;have hz:=xam List.length (hg1);simp only[xaa,xab,xac] at hz;omega
 subst hrest;refine rq ?_;rotate_left;all_goals ((rw[xaq] at hg1);subst hg1;rfl)
theorem zeA:∀(n:Nat){p:Pat},binP n p=true->p.ok->FnD Tryz.prog 84 [.agg [.d (.i p.op),.d (.i p.ctor),.d (.i p.n),.d (.i p.m),.d (.i p.var),.d (zak p.kids)]] [] (.gv 9 (Pat.cs (za2 p))) [(9,some (.tok (Pat.cs (za2 p)).length 6))]
 |0,p,h,_=>by simp[binP] at h
 |n+1,p,h,hok=>by
  have hok':=(xa4 p).1 hok;have hok1:=hok'.1;by_cases h5:p.op=5
  ·have hl:=zlf h h5;have e5:=zwa h5 hl;have l0:=zhl (nth p.kids 0);have l1:=zhl (nth p.kids 1);have c0:=zeA n (zeX h (i:=0) od) (xa6 hok'.2 _ (zaf od));have c1:=FnD.gvD (zeA n (zeX h (i:=1) od) (xa6 hok'.2 _ (zaf od)));rw[e5];generalize za2 (nth p.kids 0)=A at *;generalize za2 (nth p.kids 1)=C at *;by_cases hlen:(A++C).length<=401
   ·rw[List.take_of_length_le hlen];rw[xaa] at hlen;refine bd Tryz.f84 67 [25] [] fun _ _ _ _ hk=>?_;refine bx 3001 ?_;refine evs [25] [] ?_;apply sq<;>intro h1 h1p h1s<;>(try simp only[Q,xa3,xaa] at h1p);refine ixq (i:=0) sl72 Z Z Z (zaE od) Z ?_;refine evd [25] [] (Walk.call (cr:=[9]) zlh c0 Z .none Z Z (LeL.refl _) O Z Z Z (evd [25] [] (ixq (i:=1) sl72 Z Z Z (zaE od) Z ?_)));refine evd [25] [] (wc zlh c1 Z Z ?_);refine xbq sl72 zz74 .none Z Z Z Z (za3 Z (by(simp;done))) (by intro x hx;exact zcv _ x hx) ud ud ?_;refine evd [25] [] (dr (xbP sl72 .none Z Z (evs [25] [] ?_)));apply sq<;>intro h2 h2p h2s<;>(try simp only[Q,xa3,xaa] at h2p);exfalso;omega;refine rn [(9,some (.tok (Pat.cs (A++C)).length 6))] (r1 Z) (.gvg ?_) ⟨Z,Z⟩ (SubH.get ⟨?_,O⟩) (zaQ Z);rotate_left 2;exfalso;omega;all_goals (first|((first|rfl|(simp[xa1];done));done)|(first|rfl|(simp[xa1];rfl)))
   ·have c8:=FnD.gvRen 8 c0;rw[xaa] at hlen;refine bd Tryz.f84 67 [25] [] fun _ _ _ _ hk=>?_;refine bx 3001 ?_;refine evs [25] [] ?_;apply sq<;>intro h1 h1p h1s<;>(try simp only[Q,xa3,xaa] at h1p);refine ixq (i:=0) sl72 Z Z Z (zaE od) Z ?_;refine evd [25] [] (Walk.call (cr:=[8]) zlh c8 Z .none Z Z (LeL.refl _) O Z Z Z (evd [25] [] (ixq (i:=1) sl72 Z Z Z (zaE od) Z ?_)));refine evd [25] [] (wc zlh c1 Z Z ?_);refine xbq sl72 zz74 .none Z Z Z Z (za3 Z (by(simp;done))) (by intro x hx;exact zcv _ x hx) ud ud ?_;refine evd [25] [] (dr (xbP sl72 .none Z Z (evs [25] [] ?_)));apply sq<;>intro h2 h2p h2s<;>(try simp only[Q,xa3,xaa] at h2p);refine xbC 9 (b:=401) sl72 .none Z Z (za3 Z (by(simp;done))) Z Z ud ud Z ?_;refine evs [25] [] (rn [(9,some (.tok (Pat.cs ((A++C).take 401)).length 6))] (r1 Z) (.gvg ?_) ⟨Z,Z⟩ (SubH.get ⟨?_,O⟩) (zaQ Z));rotate_left 2;exfalso;omega;exfalso;omega;all_goals (first|((first|rfl|(simp[xa1];done));done)|(first|rfl|(show some (Res.tok _ _)=some (Res.tok _ _);simp[xa3];omega)))
  ·have hts:=zse 400 (p.kids.map za2);have htm:=fun(i:Nat) (hi:i<(tupQ 400 (p.kids.map za2)).length)=>zsf 400 (zaf hi);have ht3:=zmF (ls:=p.kids.map za2) (by rw[xac];omega) (fun l hl=>by obtain⟨x,_,rfl⟩:=List.mem_map.1 hl;have:=zhl x;omega);have hcal:=fun(i:Nat) (hi:i<p.kids.length)=>FnD.gvD (zeA n (zeX h hi) (xa6 hok'.2 _ (zaf hi)));have hpl:=fun(y:Pat) (pre rest:List Pat) (e:pre++y::rest=p.kids)=>(show pre.length<p.kids.length/\nth p.kids pre.length=y from⟨by have:=xam List.length e;simp at this;omega,zyM e⟩);have hcal2:=fun(y:Pat) (pre rest:List Pat) (e:pre++y::rest=p.kids)=>show FnD Tryz.prog 84 [.agg [.d (.i y.op),.d (.i y.ctor),.d (.i y.n),.d (.i y.m),.d (.i y.var),.d (zak y.kids)]] [] (.d (.sl (Pat.cs (za2 y)))) [] from by
    have hq:=hcal pre.length (hpl y pre rest e).1;rw[(hpl y pre rest e).2] at hq;exact hq
   have ht3':=fun(pre:List Pat) (e:pre++[]=p.kids)=>show FnD Tryz.prog 141 [.d (zjv (pre.map za2))] [] (.d (zjv (tupQ 400 (p.kids.map za2)))) [] from by
    rw[xaq] at e;rw[e];exact ht3
   rw[zwb h5];refine bd Tryz.f84 67 [] [] fun _ _ _ _ hk=>?_;refine bx 3001 ?_;refine ev ?_;apply sq<;>intro h1 h1p h1s<;>(try simp only[Q,xa3] at h1p);exfalso;omega;refine xb8 4 zex .none Z Z (ev (xaB (ι:=List (Pat)×List (Pat)) hk (fun x=>[(5,.d (.i (x.1.length:Int))),(4,.gl 4 ((x.1.map za2).map zic))]) [31,32,33,34,35,36,37,38,39,40,41,42,43,44,45,46] (fun x=>[(4,some (.tok (((x.1.map za2).map zic)).length 1))]) (fun x=>x.1++x.2=p.kids) (fun x=>x.2.length) ([],p.kids) oi ⟨⟨_,Z,xaU ?_⟩,⟨⟨_,Z,LeA.glg ?_⟩,O⟩⟩ ⟨zac ?_,O⟩ (fun x=>rfl) (fun x hg1=>?_)));iterate 3 focus ((simp;done))
   obtain⟨pre,rest⟩:=x;dsimp only at hg1 ⊢;refine evc [] [] ?_;apply sq<;>intro h2 h2p h2s<;>(try simp only[Q,xa3] at h2p);rcases rest with _|⟨y,rest⟩
   ·exfalso;simp_all
   refine ixq sl72 Z Z Z (xaZ hg1) Z (ev (wc zlh (hcal2 y pre rest hg1) Z Z ?_));refine si [0] [_] zex tz72 ?_;refine ap zex zz72 Z Z Z o9 (by first|(have:=xam List.length hg1;simp at this;simp;omega)|(simp;omega)) ?_;refine ev (ar (xaj ((pre++[y],rest)) ⟨(by have hz:=hg1;rw[<-hz];simp),oi,sx ⟨⟨_,Z,xaU ?_⟩,⟨⟨_,Z,LeA.glg ?_⟩,O⟩⟩ ⟨zac ?_,O⟩⟩));iterate 3 focus ((simp;done))
   have hrest:rest=[]:=by
    rcases rest with _|⟨a,b⟩
    ·rfl
    ·exfalso;have hz:=xam List.length (hg1);simp only[xaa,xab,xac] at hz;omega
   subst hrest;refine Walk.call (cr:=[]) zxW (ht3' pre hg1) Z .none Z Z (.cons (.gl _ _) .nil) O Z Z Z (ev (xca 9 sl72 .none Z Z (ev (xaB (ι:=Nat) hk (fun k=>[(8,.d (.i (k:Int))),(7,.gv 9 ((((tupQ 400 (p.kids.map za2)).take k).map fun l=>Pat.mk p.op p.ctor p.n p.m p.var l).map Pat.cc))]) [9,50,51,52,53,54,55,56,57,58,59,60,61,62,63,64,65] (fun k=>[(9,some (.tok (((((tupQ 400 (p.kids.map za2)).take k).map fun l=>Pat.mk p.op p.ctor p.n p.m p.var l).map Pat.cc)).length 6))]) (fun k=>k<=(tupQ 400 (p.kids.map za2)).length) (fun k=>(tupQ 400 (p.kids.map za2)).length-k) 0 od ⟨⟨_,Z,xaU ?_⟩,⟨⟨_,Z,LeA.gvg ?_⟩,O⟩⟩ ⟨zac ?_,O⟩ (fun x=>rfl) (fun k hg2=>?_)))));iterate 3 focus ((simp;done))
   refine evc [] [] ?_;apply sq<;>intro h3 h3p h3s<;>(try simp only[Q,xa3] at h3p);refine ab 3009 tz74 ?_;refine so ty74 ?_;apply tv;refine ixq zex Z Z Z (zah od) Z ?_;refine ev (so ty72 ?_);apply tv;refine si [0] [_] sl72 tz74 ?_;refine xbq sl72 zz74 .none Z Z Z Z (za3 Z ow) o9 (by first|(have:=xam List.length hg1;simp at this;simp;omega)|(simp;omega)) (by first|(have:=xam List.length hg1;simp at this;simp;omega)|(simp;omega)) ?_;refine ev (ar (xaj (k+1) ⟨od,od,sx ⟨⟨_,Z,xaU ?_⟩,⟨⟨_,Z,LeA.gvg ?_⟩,O⟩⟩ ⟨zac ?_,O⟩⟩));iterate 3 focus (first|(simp;done)|(rw[List.take_succ_eq_append_getElem od,<-zaJ od];simp[zlr,zi5,mk_n,mk_m,zkE,ze2];done))
   refine rn [(9,some (.tok (Pat.cs ((tupQ 400 (p.kids.map za2)).map fun l=>Pat.mk p.op p.ctor p.n p.m p.var l)).length 6))] (r1 Z) (.gvg ?_) ⟨Z,Z⟩ (SubH.get ⟨?_,O⟩) (zaQ Z);rotate_left 2;all_goals (first|((first|rfl|(obtain rfl:k=(tupQ 400 (p.kids.map za2)).length:=od;rw[List.take_length,show Pat.cs ((tupQ 400 (p.kids.map za2)).map fun l=>Pat.mk p.op p.ctor p.n p.m p.var l)=((tupQ 400 (p.kids.map za2)).map fun l=>Pat.mk p.op p.ctor p.n p.m p.var l).map Pat.cc from xa1 _];done));done)|(first|rfl|(obtain rfl:k=(tupQ 400 (p.kids.map za2)).length:=od;rw[List.take_length];simp[xa1];rfl)|(obtain rfl:k=(tupQ 400 (p.kids.map za2)).length:=od;rw[List.take_length,show Pat.cs ((tupQ 400 (p.kids.map za2)).map fun l=>Pat.mk p.op p.ctor p.n p.m p.var l)=((tupQ 400 (p.kids.map za2)).map fun l=>Pat.mk p.op p.ctor p.n p.m p.var l).map Pat.cc from xa1 _];rfl)))
theorem zof {w:List Data}{n:Nat}{t:Ty}{p:Pat} (h:zat w n t p=true) (hok:p.ok):FnD Tryz.prog 255 [.agg [.d (.i p.op),.d (.i p.ctor),.d (.i p.n),.d (.i p.m),.d (.i p.var),.d (zak p.kids)]] [] (.d (zak (za2 (zaS p)))) []:=by
 have hbp:=zdv _ (Nat.le_refl _) hok;have hsp:=FnD.gvD (zeA n (zin n h) (zle p hok));generalize zaS p=b at *;refine bd Tryz.f255 6 [] [] fun _ _ _ _ hk=>?_;refine bx 3001 ?_;refine ev (wc zm1 hbp Z Z ?_);refine wc zlh hsp Z Z ?_;refine ev (rq ?_);rotate_left;all_goals (rfl)
theorem zh1 {a b:Pat} (hn:0<=b.n/\b.n<=9) (hm:0<=b.m/\b.m<=9):FnD Tryz.prog 277 [.agg [.d (.i (a).op),.d (.i (a).ctor),.d (.i (a).n),.d (.i (a).m),.d (.i (a).var),.d (zak (a).kids)],.agg [.d (.i (b).op),.d (.i (b).ctor),.d (.i (b).n),.d (.i (b).m),.d (.i (b).var),.d (zak (b).kids)]] [] (.d (zak (zcn a.n (minQ a.m (b.n-1))++zcn (maxQ a.n (b.m+1)) a.m))) []:=by
 refine bd Tryz.f277 58 [] [] fun _ _ _ _ hk=>?_;refine bx 3002 ?_;refine bx 3003 ?_;refine ev (xb8 9 sl72 .none Z Z (ev (bu [0,2,3] [_,_,_] st74 ?_)));refine ab 3006 tz74 ?_;refine so ty74 ?_;apply tv;refine ar ?_;apply sq<;>intro h1 h1p h1s<;>(try simp only[Q] at h1p);refine ar (so ty3 ?_);apply tv;apply sq<;>intro h2 h2p h2s<;>(try simp only[Q] at h2p);refine si [0] [_] sl72 tz74 ?_;refine ap sl72 zz74 Z Z Z ov oi ?_;refine ev (bu [0,2,3] [_,_,_] st74 ?_);refine ab 3007 tz74 ?_;refine so ty74 ?_;apply tv;refine ar ?_;apply sq<;>intro h3 h3p h3s<;>(try simp only[Q] at h3p);refine ar (so ty3 ?_);apply tv;apply sq<;>intro h4 h4p h4s<;>(try simp only[Q] at h4p);refine si [0] [_] sl72 tz74 ?_;refine ap sl72 zz74 Z Z Z ov oi ?_;refine ev (rn0 (r1 Z) (.gld ?_));rotate_left;refine rn0 (r1 Z) (.gld ?_);rotate_left;apply sq<;>intro h5 h5p h5s<;>(try simp only[Q] at h5p);refine si [0] [_] sl72 tz74 ?_;refine ap sl72 zz74 Z Z Z ov oi ?_;refine ev (rn0 (r1 Z) (.gld ?_));rotate_left;refine rn0 (r1 Z) (.gld ?_);rotate_left;refine bu [0,2,3] [_,_,_] st74 ?_;refine ab 3007 tz74 ?_;refine so ty74 ?_;apply tv;refine ar ?_;apply sq<;>intro h6 h6p h6s<;>(try simp only[Q] at h6p);refine ar (so ty3 ?_);apply tv;apply sq<;>intro h7 h7p h7s<;>(try simp only[Q] at h7p);refine si [0] [_] sl72 tz74 ?_;refine ap sl72 zz74 Z Z Z ov oi ?_;refine ev (rn0 (r1 Z) (.gld ?_));rotate_left;refine rn0 (r1 Z) (.gld ?_);rotate_left;apply sq<;>intro h8 h8p h8s<;>(try simp only[Q] at h8p);refine si [0] [_] sl72 tz74 ?_;refine ap sl72 zz74 Z Z Z ov oi ?_;refine ev (rn0 (r1 Z) (.gld ?_));rotate_left;refine rn0 (r1 Z) (.gld ?_);rotate_left;apply sq<;>intro h9 h9p h9s<;>(try simp only[Q] at h9p);refine si [0] [_] sl72 tz74 ?_;refine ap sl72 zz74 Z Z Z ov oi ?_;refine ev (bu [0,2,3] [_,_,_] st74 ?_);refine ab 3007 tz74 ?_;refine so ty74 ?_;apply tv;refine ar ?_;apply sq<;>intro h10 h10p h10s<;>(try simp only[Q] at h10p);refine ar (so ty3 ?_);apply tv;apply sq<;>intro h11 h11p h11s<;>(try simp only[Q] at h11p);refine si [0] [_] sl72 tz74 ?_;refine ap sl72 zz74 Z Z Z ov oi ?_;refine ev (rn0 (r1 Z) (.gld ?_));rotate_left;refine rn0 (r1 Z) (.gld ?_);rotate_left;apply sq<;>intro h12 h12p h12s<;>(try simp only[Q] at h12p);refine si [0] [_] sl72 tz74 ?_;refine ap sl72 zz74 Z Z Z ov oi ?_;refine ev (rn0 (r1 Z) (.gld ?_));rotate_left;refine rn0 (r1 Z) (.gld ?_);rotate_left;refine bu [0,2,3] [_,_,_] st74 ?_;refine ab 3007 tz74 ?_;refine so ty74 ?_;apply tv;refine ar ?_;apply sq<;>intro h13 h13p h13s<;>(try simp only[Q] at h13p);refine ar (so ty3 ?_);apply tv;apply sq<;>intro h14 h14p h14s<;>(try simp only[Q] at h14p);refine si [0] [_] sl72 tz74 ?_;refine ap sl72 zz74 Z Z Z ov oi ?_;refine ev (rn0 (r1 Z) (.gld ?_));rotate_left;refine rn0 (r1 Z) (.gld ?_);rotate_left;apply sq<;>intro h15 h15p h15s<;>(try simp only[Q] at h15p);refine si [0] [_] sl72 tz74 ?_;refine ap sl72 zz74 Z Z Z ov oi ?_;refine ev (rn0 (r1 Z) (.gld ?_));rotate_left;refine rn0 (r1 Z) (.gld ?_);rotate_left;all_goals (unfold minQ maxQ zcn;(repeat' split)<;>first|rfl|(exfalso;omega))
theorem zqh {w:List Data} (hw:WT w){a k c:Int} (ht:TyIn w.length ⟨a,k⟩) (hc:c∈zas w ⟨a,k⟩) (hl:(zae w ⟨a,k⟩ c).length<=3):FnD Tryz.prog 279 [.d (zaj w),.agg [.d (.i a),.d (.i k)],.d (.i c)] []
  (.agg [.d (.i 4),.d (.i c),.d (.i 0),.d (.i 0),.d (.i 0),.d (zak (zco w ⟨a,k⟩ c).kids)]) []:=by
 refine bd Tryz.f279 29 [] [] fun _ _ _ _ hk=>?_;refine bx 3004 ?_;refine ab 3006 tz74 ?_;apply tv;refine bu [0,1] [_,_] st74 ?_;refine ab 3007 tz74 ?_;refine so ty74 ?_;apply tv;refine wc zbX (zb4 hw ht hc) Z Z ?_;refine ev (xaE 3007 5 9 6 Z Z Z Z (xaB (ι:=List (Ty)×List (Ty)) hk (fun x=>[(9,.d (.i (x.1.length:Int)))]) [16,17,18,19,20,21,22,23,24,25,26,27] (fun x=>[(3007,some (.box [.d (.i 4),.d (.i c),.d (.i 0),.d (.i 0),.d (.i 0),.gl 9 ((x.1.map fun _=>anyQ).map Pat.cc)])),(9,some (.tok ((x.1.map fun _=>anyQ).map Pat.cc).length 6))]) (fun x=>x.1++x.2=zae w ⟨a,k⟩ c) (fun x=>x.2.length) ([],zae w ⟨a,k⟩ c) oi ⟨⟨_,Z,xaU ?_⟩,O⟩ ⟨?_,⟨zac ?_,O⟩⟩ (fun x=>rfl) (fun x hg1=>?_)));focus (rfl)
 focus (rfl)
 focus (rfl)
 obtain⟨pre,rest⟩:=x;dsimp only at hg1 ⊢;refine evc [] [] ?_;apply sq<;>intro h1 h1p h1s<;>(try simp only[Q] at h1p);rcases rest with _|⟨y,rest⟩
 ·exfalso;simp_all
 refine wc zt6 zj5 Z Z ?_;refine si [0] [_] sl72 tz74 ?_;refine ap sl72 zz74 Z Z Z oy (by have:=xam List.length hg1;simp at this;simp;omega) ?_;refine evd [] [] (so ty72 ?_);refine dr (ar (xaj ((pre++[y],rest)) ⟨(by have hz:=hg1;rw[<-hz];simp),oi,sx ⟨⟨_,Z,xaU ?_⟩,O⟩ ⟨?_,⟨zac ?_,O⟩⟩⟩));focus ((simp;done))
 focus ((simp[getH];exact⟨rfl,rfl,rfl,rfl,rfl,rfl⟩))
 focus ((simp;done))
 have hrest:rest=[]:=by
  rcases rest with _|⟨a,b⟩
  ·rfl
  ·exfalso;have hz:=xam List.length (hg1);simp only[xaa,xab,xac] at hz;omega
 subst hrest;refine so ty74 ?_;apply tv;refine rn0 (ra ty74) (.agg (qeeeeeg ?_ ?_ ?_ ?_ ?_ ?_));rotate_left 6;all_goals (first|rfl|(rw[xaq] at hg1;subst hg1;rw[<-xa1];all_goals rfl))
def zec (n:Nat) (a b:Pat):Pat:=if a.op=3/\b.op≠1 then intQ (maxQ a.n b.n) (minQ a.m b.m) else zdb n a b
theorem zoK {n:Nat}{a b:Pat} (h:¬(a.op=3/\b.op≠1)):zec n a b=zdb n a b:=if_neg h
theorem zrx {n:Nat}{a b:Pat} (h:(zaV n a b).isSome=true):zec n a b=zdb n a b:=by
 unfold zec;split
 ·rename_i h3;cases n with
  |zero=>simp[zaV] at h
  |succ n=>
   have e:=znC (n:=n) h3.1 h3.2;rw[e] at h;split at h
   ·rename_i hr;rw[if_pos hr] at e;exact(zcK e).symm
   ·cases h
 ·rfl
theorem zjh {w:List Data} (hs:Spa w):∀(n m:Nat){t:Ty}{a b:Pat},m<=n->InS (w.length*4) t->zao w m t a=true->zao w m t b=true->
  FnD Tryz.prog 282 [.agg [.d (.i (a).op),.d (.i (a).ctor),.d (.i (a).n),.d (.i (a).m),.d (.i (a).var),.d (zak (a).kids)],.agg [.d (.i (b).op),.d (.i (b).ctor),.d (.i (b).n),.d (.i (b).m),.d (.i (b).var),.d (zak (b).kids)]] [] (.tup [.agg [.d (.i (zec n a b).op),.d (.i (zec n a b).ctor),.d (.i (zec n a b).n),.d (.i (zec n a b).m),.d (.i (zec n a b).var),.d (zak (zec n a b).kids)],.d (.bool (zaV n a b).isSome)]) []
 |n,0,t,a,b,_,_,ha,_=>by simp[zao] at ha
 |0,m+1,t,a,b,h,_,_,_=>by omega
 |n+1,m+1,t,a,b,hnm,ht,ha,hb=>by
  by_cases h1:a.op=1
  ·have e:=znA (n:=n) (b:=b) h1;rw[zoK (fun h=>by omega),zcK e,e];refine bd Tryz.f282 89 [] [] fun _ _ _ _ hk=>?_;refine bx 3002 ?_;refine bx 3003 ?_;refine ab 3004 tz74 ?_;refine ev ?_;apply sq<;>intro h1 h1p h1s<;>(try simp only[Q] at h1p);refine so ty74 ?_;refine ev (rn0 (rc ty74) (.tup (.cons (.agg (qeeeeee ?_ ?_ ?_ ?_ ?_ ?_)) (qe ?_))));rotate_left 7;exfalso;omega;all_goals (rfl)
  by_cases h2:b.op=1
  ·have e:=znB (n:=n) h1 h2;rw[zoK (fun h=>h.2 h2),zcK e,e];refine bd Tryz.f282 89 [] [] fun _ _ _ _ hk=>?_;refine bx 3002 ?_;refine bx 3003 ?_;refine ab 3004 tz74 ?_;refine ev ?_;apply sq<;>intro h1 h1p h1s<;>(try simp only[Q] at h1p);exfalso;omega;apply sq<;>intro h2 h2p h2s<;>(try simp only[Q] at h2p);refine so ty74 ?_;refine ev (rn0 (rc ty74) (.tup (.cons (.agg (qeeeeee ?_ ?_ ?_ ?_ ?_ ?_)) (qe ?_))));rotate_left 7;exfalso;omega;all_goals (rfl)
  by_cases h3:a.op=3
  ·have e:=znC (n:=n) h3 h2;have ez:zec (n+1) a b=intQ (maxQ a.n b.n) (minQ a.m b.m):=if_pos ⟨h3,h2⟩;have eb:(zaV (n+1) a b).isSome=decide (maxQ a.n b.n<=minQ a.m b.m):=by
    rw[e];by_cases hr:maxQ a.n b.n<=minQ a.m b.m
    ·rw[if_pos hr,xax hr];rfl
    ·rw[if_neg hr,xaw hr];rfl
   rw[ez,eb];refine bd Tryz.f282 89 [] [] fun _ _ _ _ hk=>?_;refine bx 3002 ?_;refine bx 3003 ?_;refine ab 3004 tz74 ?_;refine ev ?_;apply sq<;>intro h1 h1p h1s<;>(try simp only[Q] at h1p);exfalso;omega;apply sq<;>intro h2 h2p h2s<;>(try simp only[Q] at h2p);exfalso;omega;apply sq<;>intro h3 h3p h3s<;>(try simp only[Q] at h3p);apply sq<;>intro h4 h4p h4s<;>(try simp only[Q] at h4p);apply sq<;>intro h5 h5p h5s<;>(try simp only[Q] at h5p);refine bu [0,2,3] [_,_,_] st74 ?_;refine ev (so ty74 ?_);refine ev (rn0 (rc ty74) (.tup (.cons (.agg (qeeeeen ?_ ?_ ?_ ?_ ?_ ?_)) (qe ?_))));rotate_left 7;refine bu [0,2,3] [_,_,_] st74 ?_;refine ev (so ty74 ?_);refine ev (rn0 (rc ty74) (.tup (.cons (.agg (qeeeeen ?_ ?_ ?_ ?_ ?_ ?_)) (qe ?_))));rotate_left 7;apply sq<;>intro h6 h6p h6s<;>(try simp only[Q] at h6p);refine bu [0,2,3] [_,_,_] st74 ?_;refine ev (so ty74 ?_);refine ev (rn0 (rc ty74) (.tup (.cons (.agg (qeeeeen ?_ ?_ ?_ ?_ ?_ ?_)) (qe ?_))));rotate_left 7;refine bu [0,2,3] [_,_,_] st74 ?_;refine ev (so ty74 ?_);refine ev (rn0 (rc ty74) (.tup (.cons (.agg (qeeeeen ?_ ?_ ?_ ?_ ?_ ?_)) (qe ?_))));rotate_left 7;exfalso;omega;all_goals (first|rfl|((try simp only[zlr,zi5,mk_n,mk_m,zkE,ze2]);simp only[minQ,maxQ];(repeat' split)<;>first|rfl|(exfalso;omega)))
  have oa:=zcm ha;have h4:a.op=4:=by omega
  have h4b:b.op=4:=by have:=zep ha hb h1 h2;omega
  have ez:zec (n+1) a b=zdb (n+1) a b:=zoK (fun h=>h3 h.1);by_cases hc:a.ctor=b.ctor
  ·obtain⟨c1,c2,c3,-⟩:=za6 ha h4;obtain⟨d1,d2,d3,-⟩:=za6 hb h4b;rw[<-hc] at d3;have h3l:=hs.args t a.ctor ht c1;have ka:=fun i (hi:i<a.kids.length)=>zbt ha hi;have kb:=fun i (hi:i<b.kids.length)=>zbt hb hi;rw[zbP h4] at ka;rw[zbP h4b,<-hc] at kb;have e:=znD (n:=n) h4 h2 hc;have hlen:a.kids.length=b.kids.length:=by omega
   have ih:=fun i (hi:i<a.kids.length)=>zjh hs n m (t:=nth (zae w t a.ctor) i) (a:=nth a.kids i) (b:=nth b.kids i) od (zcz hs.dp ht c1 _ (zaf od)) (ka i od) (kb i od);have key:∀(i:Nat) (acc:List Pat),i<a.kids.length->(zaV n (nth a.kids i) (nth b.kids i)).isSome=true->zcV (zaV n) (a.kids.drop i) (b.kids.drop i) acc=zcV (zaV n) (a.kids.drop (i+1)) (b.kids.drop (i+1)) (acc++[zec n (nth a.kids i) (nth b.kids i)]):=fun i acc hi h=>by
    rw[zrx h];exact znz hi od (zoL h)
   rw[ez];refine bd Tryz.f282 89 [] [] fun _ _ _ _ hk=>?_;refine bx 3002 ?_;refine bx 3003 ?_;refine ab 3004 tz74 ?_;refine ev ?_;apply sq<;>intro h1 h1p h1s<;>(try simp only[Q,xa3] at h1p);exfalso;omega;apply sq<;>intro h2 h2p h2s<;>(try simp only[Q,xa3] at h2p);exfalso;omega;apply sq<;>intro h3 h3p h3s<;>(try simp only[Q,xa3] at h3p);exfalso;omega;apply sq<;>intro h4 h4p h4s<;>(try simp only[Q,xa3] at h4p);exfalso;omega;refine bu [0,1] [_,_] st74 ?_;refine ab 3008 tz74 ?_;refine so ty74 ?_;apply tv;refine xaE 3008 5 9 6 Z Z Z Z (xaB (ι:=Nat×List Pat) hk (fun x=>[(9,.d (.i (x.1:Int)))]) [5,10,11,58,59,60,61,62,63,64,65,66,67,68,69,70,71,72,73,74,75,76,77,78,79,80,81,82,83,84,85,86,87] (fun x=>[(3008,some (.box [.d (.i 4),.d (.i a.ctor),.d (.i 0),.d (.i 0),.d (.i 0),.gl 9 (x.2.map Pat.cc)])),(9,some (.tok (x.2.map Pat.cc).length 6))]) (fun x=>x.1<=a.kids.length/\x.2.length=x.1/\zcV (zaV n) (a.kids.drop x.1) (b.kids.drop x.1) x.2=zcV (zaV n) a.kids b.kids []) (fun x=>a.kids.length-x.1) (0,[]) ⟨by simp,Z,Z⟩ ⟨⟨_,Z,xaU ?_⟩,O⟩ ⟨?_,⟨zac ?_,O⟩⟩ (fun x=>rfl) (fun x hg1=>?_));focus (rfl)
   focus (first|rfl|(simp[getH];done))
   focus (rfl)
   refine evc [] [] ?_;apply sq<;>intro h5 h5p h5s<;>(try simp only[Q,xa3] at h5p);refine ixq sl72 Z Z Z (zaE od) Z ?_;refine evd [] [] (ixq sl72 Z Z Z (zaE od) Z ?_);refine evd [] [] (wc zur (ih x.1 od) Z Z ?_);refine evd [] [] (ab 3010 tz74 ?_);refine so ty74 ?_;refine evd [] [] (dr ?_);apply sq<;>intro h6 h6p h6s<;>(try simp only[Q,xa3] at h6p);refine bu [] [] st74 ?_;refine so ty74 ?_;refine ev (rn0 (rc ty74) (.tup (.cons (.agg (qeeeeen ?_ ?_ ?_ ?_ ?_ ?_)) (qe ?_))));rotate_left 7;refine si [0] [_] sl72 tz74 ?_;refine ap sl72 zz74 Z Z Z oy ot ?_;refine ev (so ty72 ?_);apply tv;refine ar (xaj ((x.1+1,x.2++[zec n (nth a.kids x.1) (nth b.kids x.1)])) ⟨⟨by dsimp only;omega,by dsimp only;rw[xaa,hg1.2.1];rfl,by dsimp only;rw[<-key x.1 x.2 od ol];exact hg1.2.2⟩,ox,sx ⟨⟨_,Z,xaU ?_⟩,O⟩ ⟨?_,⟨zac ?_,O⟩⟩⟩);focus (rfl)
   focus (first|rfl|(simp[getH];done))
   focus ((simp;done))
   refine so ty74 ?_;refine ev (rn0 (rc ty74) (.tup (.cons (.agg (qeeeeeg ?_ ?_ ?_ ?_ ?_ ?_)) (qe ?_))));rotate_left 7;all_goals (first|(have e2:zaV (n+1) a b=none:=(by rw[e,<-hg1.2.2,zny od od (zoM ol)];rfl);(first|rw[zfW e2]|rw[e2]);all_goals rfl)|(have e2:zaV (n+1) a b=some (zca a.ctor x.2):=(by rw[e,<-hg1.2.2,zfA od];rfl);rw[zcK e2,xa1];all_goals rfl)|(have e2:zaV (n+1) a b=some (zca a.ctor x.2):=(by rw[e,<-hg1.2.2,zfA od];rfl);rw[zcK e2];all_goals rfl)|(have e2:zaV (n+1) a b=some (zca a.ctor x.2):=(by rw[e,<-hg1.2.2,zfA od];rfl);rw[e2];all_goals rfl))
  ·skip
   have e:=zlp (n:=n) h4 h2 hc;rw[ez,zfW e,e];refine bd Tryz.f282 89 [] [] fun _ _ _ _ hk=>?_;refine bx 3002 ?_;refine bx 3003 ?_;refine ab 3004 tz74 ?_;refine ev ?_;apply sq<;>intro h1 h1p h1s<;>(try simp only[Q] at h1p);exfalso;omega;apply sq<;>intro h2 h2p h2s<;>(try simp only[Q] at h2p);exfalso;omega;apply sq<;>intro h3 h3p h3s<;>(try simp only[Q] at h3p);exfalso;omega;apply sq<;>intro h4 h4p h4s<;>(try simp only[Q] at h4p);refine bu [] [] st74 ?_;refine so ty74 ?_;refine ev (rn0 (rc ty74) (.tup (.cons (.agg (qeeeeen ?_ ?_ ?_ ?_ ?_ ?_)) (qe ?_))));rotate_left 7;exfalso;omega;all_goals (rfl)
end Go.Proofs.YtmchfdpleibpdaaGreat
