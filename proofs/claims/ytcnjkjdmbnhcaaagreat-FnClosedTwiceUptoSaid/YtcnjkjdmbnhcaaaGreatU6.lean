/-
  THE LAW FnClosedTwice: whatever the arguments of bulk at most 1048576 are, the call returns true, and the arguments read as before.
  Conditions: the bulk alone.
-/
import Derived.Test.YtcnjkjdmbnhcaaaGreatU5
namespace Go.Proofs.YtcnjkjdmbnhcaaaGreat
open Go
set_option linter.unusedSimpArgs false
set_option linter.unusedVariables false
set_option maxRecDepth 100000
set_option maxHeartbeats 2000000
theorem zmU {b:Str}{w:List Data} (hb:b.length≤2000) (hw:WT w) (hf:Few w){a k:Int}{p:Nat} (hp:p≤90000) (ht:TyIn w.length ⟨a,k⟩):
  FnD Tryz.prog 107 [.ref 900 0,.d (zal w),.agg [.d (.i a),.d (.i k)]] [(900,some (rdB b p))] (.gl 1 ((clS b w ⟨a,k⟩ p).1.map Cl.c)) [(900,some (rdB b (clS b w ⟨a,k⟩ p).2)),(1,some (.tok ((clS b w ⟨a,k⟩ p).1.map Cl.c).length 9))]:=by
 have h6:=num6 b p
 have hnu:=zbQ (b:=b) (p:=p) (l:=[3,2,4,5,1,0]) hb (by omega) (by simp) (by simp)
 have hok:=fun q=>zrj (b:=b) hf ht q
 unfold clS
 obtain⟨n0,hn0⟩:∃n:Nat,numV b p [3,2,4,5,1,0]=(n:Int):=⟨_,(Int.toNat_of_nonneg h6.1).symm⟩
 rw[hn0] at h6 hnu ⊢
 rw[Int.toNat_natCast]
 refine bd Tryz.f107 25 [] [] fun w0 F0 own kept hk=>?_
 refine Walk.box (id:=3005) .none rfl rfl rfl rfl rfl rfl rfl ?_
 refine ev ?_
 refine Walk.sliceEmptyG 1 sl28 .none rfl rfl ?_
 refine ev ?_
 refine Walk.sliceLit za0 tz3 rfl (by decide) (ks:=[0,1,2,3,4,5]) (xs:=[_,_,_,_,_,_]) rfl rfl (by decide) (by decide) .none rfl rfl rfl rfl ?_
 refine Walk.call (cr:=[]) zdL (hnu) rfl .none rfl rfl (LeL.refl _) ⟨rfl,trivial⟩ rfl rfl rfl ?_
 refine ev ?_
 refine CWp.loopX (ι:=Nat×List Cl×Nat) hk (fun x=>[(8,.d (.i (x.1:Int))),(7,.gl 1 (x.2.1.map Cl.c))]) [13,14,15,16,17,18,19,20,21,22,23] (fun x=>[(900,some (.box [.d (zcw b),.d (.i (x.2.2:Int))])),(1,some (.tok ((x.2.1.map Cl.c)).length 9))]) (fun x=>x.1≤n0∧x.2.2+518*x.1≤p+1+518*n0∧x.2.1.length+x.1≤5∧(x.2.1++(clL b w ⟨a,k⟩ x.1 x.2.2).1,(clL b w ⟨a,k⟩ x.1 x.2.2).2)=clL b w ⟨a,k⟩ n0 (p+1)) (fun x=>x.1) (n0,[],p+1) ⟨by simp,by simp,by simp;omega,by simp⟩ ⟨⟨_,rfl,LeA.eqi ?_⟩,⟨⟨_,rfl,LeA.glg ?_⟩,trivial⟩⟩ ⟨?_,⟨zaa ?_,trivial⟩⟩ (fun x=>rfl) (fun x hg1=>?_)
 iterate 2 focus (first|rfl|omega|(simp;done)|(dsimp only;omega)|(simp;omega))
 focus (first|rfl|(simp[getH];done))
 focus (first|rfl|omega|(simp;done)|(dsimp only;omega)|(simp;omega))
 refine evc [] [] ?_
 refine sq (fun h1 h1p h1s=>?_) fun h1 h1p h1s=>?_
 try simp only[Q,Int.natCast_inj] at h1p
 refine Walk.call (cr:=[]) zt6 (zkA (p:=x.2.2) hb hw hf (by omega) ht) rfl .none rfl rfl (LeL.refl _) ⟨rfl,trivial⟩ rfl rfl rfl ?_
 refine Walk.sliceLit sl28 tz60 rfl (by decide) (ks:=[0]) (xs:=[_]) rfl rfl (by decide) (by decide) .none rfl rfl rfl rfl ?_
 refine Walk.append sl28 zz60 rfl .none rfl rfl rfl rfl (zaw rfl (by first|rfl|(simp;done)|(simp;omega))) (by intro y hy;simp at hy;subst hy;rfl) (by simp;omega) (by simp;omega) ?_
 refine ev ?_
 refine ar ?_
 refine Exists.intro ((x.1-1,x.2.1++[(clD b w ⟨a,k⟩ x.2.2).1],(clD b w ⟨a,k⟩ x.2.2).2)) ⟨⟨by dsimp only;omega,by have:=hok x.2.2;dsimp only;omega,by simp;omega,by rw[←hg1.2.2.2];obtain⟨m,hm⟩:∃m,x.1=m+1:=⟨x.1-1,by omega⟩;dsimp only;rw[hm];simp[clL]⟩,(by dsimp only;omega),sx ⟨⟨_,rfl,LeA.eqi ?_⟩,⟨⟨_,rfl,LeA.glg ?_⟩,trivial⟩⟩ ⟨?_,⟨zaa ?_,trivial⟩⟩⟩
 iterate 2 focus (first|rfl|omega|(simp;done)|(dsimp only;omega)|(simp;omega))
 focus (first|rfl|(simp[getH];done))
 focus (first|rfl|omega|(simp;done)|(dsimp only;omega)|(simp;omega))
 try simp only[Q,Int.natCast_inj] at h1p
 refine rn [(900,some (rdB b (clL b w ⟨a,k⟩ n0 (p+1)).2)),(1,some (.tok ((clL b w ⟨a,k⟩ n0 (p+1)).1.map Cl.c).length 9))] (r1 rfl) (.glg ?_) ⟨rfl,rfl⟩ (SubO.get ⟨.inr ?_,⟨.inr ?_,⟨.inl rfl,trivial⟩⟩⟩) (zaB rfl)
 rotate_left 3
 all_goals (first|((first|rfl|(rw[←hg1.2.2.2,show x.1=0 by omega];simp[clL];done)|(rw[←hg1.2.2.2,show x.1=0 by omega,clL];all_goals rfl)|(have hz:=hg1.2.2.2;rw[show x.1=0 by omega] at hz;simp only[clL,List.append_nil] at hz;rw[←hz];all_goals rfl));done)|(first|rfl|(rw[←hg1.2.2.2,show x.1=0 by omega];simp[clL];done)|(rw[←hg1.2.2.2,show x.1=0 by omega,clL];all_goals rfl)|(have hz:=hg1.2.2.2;rw[show x.1=0 by omega] at hz;simp only[clL,List.append_nil] at hz;rw[←hz];all_goals rfl)))
theorem zlY {b:Str} (hb:b.length≤2000):
  FnD Tryz.prog 64 [.ref 900 0] [(900,some (rdB b 0))] (.tup [.d (zal (zbH b 0)),.agg [.d (.i (typT b 0).data),.d (.i (typT b 0).index)],.gl 1 ((rnL b).1.map Cl.c),.agg [.d (.i (typV b 0).1.ctor),.d (.i (typV b 0).1.num),.d (zjE (typV b 0).1.kids)]]) [(900,some (rdB b (rnL b).2)),(1,some (.tok ((rnL b).1.map Cl.c).length 9))]:=by
 have hl:=zfc b 0
 have hv:=(zp9 b 0).1
 have hty:=zlR (p:=0) hb (by omega)
 have hcl:=zmU (p:=(typV b 0).2) (a:=(typT b 0).data) (k:=(typT b 0).index) hb hl.dp.wt hl.few (by omega) (zpj b 0)
 rw[show clS b (zbH b 0) ⟨(typT b 0).data,(typT b 0).index⟩ (typV b 0).2=rnL b from rfl] at hcl
 generalize rnL b=z at *
 refine bd Tryz.f64 22 [] [] fun w0 F0 own kept hk=>?_
 refine Walk.alloc (id:=3003) tz33 rfl .none rfl rfl rfl rfl ?_
 refine ev ?_
 refine Walk.alloc (id:=3005) tz62 rfl .none rfl rfl rfl rfl ?_
 refine tv ?_
 refine Walk.call (cr:=[]) ztL (hty) rfl .none rfl rfl (LeL.refl _) ⟨rfl,trivial⟩ rfl rfl rfl ?_
 refine ev ?_
 refine Walk.alloc (id:=3007) tz33 rfl .none rfl rfl rfl rfl ?_
 refine Walk.alloc (id:=3008) tz62 rfl .none rfl rfl rfl rfl ?_
 refine ev ?_
 refine Walk.store ty33 .none rfl rfl rfl rfl rfl rfl (by simp) rfl ?_
 refine Walk.store ty62 .none rfl rfl rfl rfl rfl rfl (by simp) rfl ?_
 refine tv ?_
 refine Walk.call (cr:=[1]) ztM (hcl) rfl .none rfl rfl (LeL.refl _) ⟨rfl,trivial⟩ rfl rfl rfl ?_
 refine evd [] [] ?_
 refine Walk.store ty33 .none rfl rfl rfl rfl rfl rfl (by simp) rfl ?_
 refine evd [] [] ?_
 refine Walk.store ty62 .none rfl rfl rfl rfl rfl rfl (by simp) rfl ?_
 refine dr ?_
 focus (refine rn [(900,some (rdB b z.2)),(1,some (.tok (z.1.map Cl.c).length 9))] (.cons (.tmp rfl) (.cons (.cellA ty33 rfl rfl rfl) (.cons (.tmp rfl) (.cons (.cellA ty62 rfl rfl rfl) .nil)))) (.tup (.cons (.eqd ?_) (.cons (.agg (.cons (.eqd ?_) (.cons (.eqd ?_) .nil))) (.cons (.glg ?_) (.cons (.agg (.cons (.eqd ?_) (.cons (.eqd ?_) (.cons (.eqd ?_) .nil)))) .nil))))) ⟨rfl,rfl⟩ (SubO.get ⟨.inr (by rfl),⟨.inr (by rfl),⟨.inl rfl,trivial⟩⟩⟩) (zaB rfl);all_goals (first|rfl|(simp[];done)|(simp_all;done)|(simp_all;omega)|omega))
def dmL (b:Str):List Cl×Nat:=if (rnL b).1.length=0 then rnL b else if zan b (rnL b).2 4=0 then ((rnL b).1++[anyC],(rnL b).2+1) else ((rnL b).1,(rnL b).2+1)
theorem zrt (b:Str):(dmL b).2≤2701∧(dmL b).1.length≤6∧CSm (dmL b).1:=by
 have h:=zrU b
 unfold dmL
 split
 ·exact⟨by omega,by omega,h.2.2⟩
 ·split
  ·refine⟨by dsimp only;omega,by simp;omega,fun c hc=>?_⟩
   rcases List.mem_append.1 hc with hc|hc
   ·exact h.2.2 c hc
   ·rw[List.mem_singleton.1 hc]
    exact⟨by rw[Pat.size_eq];exact(by decide:1+0≤400),by rw[Pat.ok_iff];exact⟨by simp[anyC,Pat.kids],trivial⟩⟩
  ·exact⟨by dsimp only;omega,by dsimp only;omega,h.2.2⟩
def dmC (b:Str):List Cl:=(mutC b (dmL b).1 (dmL b).2).1
theorem zuM (b:Str):(dmC b).length≤9∧∀c∈dmC b,c.pat.size≤4000∧c.pat.ok:=by
 have h:=zrt b
 exact(ztu h.2.2 h.2.1).2
theorem ztl (b:Str):ClsOk (dmC b)∧ClsSz (dmC b):=by
 have h:=zuM b
 exact⟨⟨by have:=h.1;omega,fun c hc=>(h.2 c hc).2⟩,fun c hc=>by have:=(h.2 c hc).1;omega⟩
theorem zfP {b:Str} (hb:b.length≤1000000000000):
  FnD Tryz.prog 25 [.d (zcw b)] [] (.tup [.d (zal (rcW (b.take 2000))),.agg [.d (.i (rcT (b.take 2000)).data),.d (.i (rcT (b.take 2000)).index)],.d (zbg (dmC (b.take 2000)))]) []:=by
 have hop:=zlJ hb
 have hb2:(b.take 2000).length≤2000:=by rw[List.length_take];omega
 generalize b.take 2000=e at *
 have hr:=zrU e
 have hd:=zrt e
 have hty:=zlY hb2
 have hpk:=zaQ (b:=e) (p:=(rnL e).2) (n:=4) hb2 (by omega) (by omega)
 have hmu:=zkB hb2 (l:=(dmL e).1) (q:=(dmL e).2) (by omega) hd.2.1 hd.2.2
 have e0:(rnL e).1.length=0→dmL e=rnL e:=fun h=>by unfold dmL;rw[if_pos h]
 have e1:(rnL e).1.length≠0→zan e (rnL e).2 4=0→dmL e=((rnL e).1++[anyC],(rnL e).2+1):=fun h h2=>by unfold dmL;rw[if_neg h,if_pos h2]
 have e2:(rnL e).1.length≠0→zan e (rnL e).2 4≠0→dmL e=((rnL e).1,(rnL e).2+1):=fun h h2=>by unfold dmL;rw[if_neg h,if_neg h2]
 rw[show(mutC e (dmL e).1 (dmL e).2).1=dmC e from rfl] at hmu
 generalize (mutC e (dmL e).1 (dmL e).2).2=q1 at *
 generalize dmC e=l1 at *
 by_cases h0:(rnL e).1.length=0
 ·rw[e0 h0] at hmu
  clear e0 e1 e2 hd
  generalize rnL e=z at *
  refine bd Tryz.f25 37 [] [] fun w0 F0 own kept hk=>?_
  refine Walk.alloc (id:=3003) tz33 rfl .none rfl rfl rfl rfl ?_
  refine ev ?_
  refine Walk.call (cr:=[900]) zqf (hop) rfl .none rfl rfl (LeL.refl _) trivial rfl (by first|rfl|(simp only[zbe,List.all_cons,List.all_nil,zcm,zbW,AV.idsL,AV.ids,zah,zag,List.map_cons,List.map_nil];rfl)) (by first|rfl|(simp only[zax,occH,occE,Res.ids,List.cons_append,List.nil_append,AV.idsL,AV.ids,zah,zag,zap,zaJ,List.map_cons,List.map_nil,upC];rfl)) ?_
  refine ev ?_
  refine Walk.call (cr:=[1]) zqg (hty) rfl .none rfl rfl (LeL.refl _) ⟨rfl,trivial⟩ rfl rfl rfl ?_
  refine ev ?_
  refine Walk.alloc (id:=3007) tz33 rfl .none rfl rfl rfl rfl ?_
  refine Walk.alloc (id:=3009) tz62 rfl .none rfl rfl rfl rfl ?_
  refine ev ?_
  refine Walk.store ty33 .none rfl rfl rfl rfl rfl rfl (by simp) rfl ?_
  refine ev ?_
  refine Walk.store ty62 .none rfl rfl rfl rfl rfl rfl (by simp) rfl ?_
  refine tv ?_
  refine sq (fun h1 h1p h1s=>?_) fun h1 h1p h1s=>?_
  try simp only[Q,Int.natCast_inj,List.length_map] at h1p
  focus (exfalso;first|omega|(simp at h1p;omega)|(simp_all;done))
  try simp only[Q,Int.natCast_inj,List.length_map] at h1p
  refine sqF ?_
  refine Walk.call (cr:=[]) zqh (hmu) rfl .none rfl rfl (.cons (.refl _) (.cons (.gl _ _) .nil)) ⟨rfl,trivial⟩ rfl rfl rfl ?_
  refine evd [] [] ?_
  refine Walk.store ty33 .none rfl rfl rfl rfl rfl rfl (by simp) rfl ?_
  refine evd [] [] ?_
  refine dr ?_
  focus (refine rn0 (.cons (.tmp rfl) (.cons (.cellA ty33 rfl rfl rfl) (.cons (.tmp rfl) .nil))) (.tup (.cons (.eqd ?_) (.cons (.agg (.cons (.eqd ?_) (.cons (.eqd ?_) .nil))) (.cons (.eqd ?_) .nil))));all_goals (first|rfl|(simp[h1s,h1p];done)|(simp_all;done)|(simp_all;omega)|omega))
 by_cases h1:zan e (rnL e).2 4=0
 ·rw[e1 h0 h1] at hmu
  rw[show zbg ((rnL e).1++[anyC]) = .sl ((rnL e).1.map Cl.c++[Cl.c anyC]) by show D.sl (((rnL e).1++[anyC]).map Cl.c)=_;rw[List.map_append];rfl] at hmu
  clear e0 e1 e2 hd
  generalize rnL e=z at *
  refine bd Tryz.f25 37 [] [] fun w0 F0 own kept hk=>?_
  refine Walk.alloc (id:=3003) tz33 rfl .none rfl rfl rfl rfl ?_
  refine ev ?_
  refine Walk.call (cr:=[900]) zqf (hop) rfl .none rfl rfl (LeL.refl _) trivial rfl (by first|rfl|(simp only[zbe,List.all_cons,List.all_nil,zcm,zbW,AV.idsL,AV.ids,zah,zag,List.map_cons,List.map_nil];rfl)) (by first|rfl|(simp only[zax,occH,occE,Res.ids,List.cons_append,List.nil_append,AV.idsL,AV.ids,zah,zag,zap,zaJ,List.map_cons,List.map_nil,upC];rfl)) ?_
  refine ev ?_
  refine Walk.call (cr:=[1]) zqg (hty) rfl .none rfl rfl (LeL.refl _) ⟨rfl,trivial⟩ rfl rfl rfl ?_
  refine ev ?_
  refine Walk.alloc (id:=3007) tz33 rfl .none rfl rfl rfl rfl ?_
  refine Walk.alloc (id:=3009) tz62 rfl .none rfl rfl rfl rfl ?_
  refine ev ?_
  refine Walk.store ty33 .none rfl rfl rfl rfl rfl rfl (by simp) rfl ?_
  refine ev ?_
  refine Walk.store ty62 .none rfl rfl rfl rfl rfl rfl (by simp) rfl ?_
  refine tv ?_
  refine sq (fun h1 h1p h1s=>?_) fun h1 h1p h1s=>?_
  try simp only[Q,Int.natCast_inj,List.length_map] at h1p
  refine Walk.call (cr:=[]) zcg (hpk) rfl (.some rfl rfl h1) rfl rfl (LeL.refl _) ⟨rfl,trivial⟩ rfl rfl rfl ?_
  refine evs [] [(22,true)] ?_ ⟨⟨_,rfl,h1⟩,trivial⟩
  refine sq (fun h2 h2p h2s=>?_) fun h2 h2p h2s=>?_
  try simp only[Q,Int.natCast_inj,List.length_map] at h2p
  refine wc zkX (zdM) rfl rfl ?_
  refine Walk.build st60 (ks:=[0]) (xs:=[_]) rfl rfl .none rfl rfl rfl ?_
  refine Walk.sliceLit sl28 tz60 rfl (by decide) (ks:=[0]) (xs:=[_]) rfl rfl (by decide) (by decide) .none rfl rfl rfl rfl ?_
  refine Walk.append sl28 zz60 rfl .none rfl rfl rfl rfl (zaw rfl (by first|rfl|(simp;done)|(simp;omega))) (by intro x hx;simp at hx;subst hx;rfl) (by simp;omega) (by simp;omega) ?_
  refine ev ?_
  refine Walk.call (cr:=[]) zqh (hmu) rfl .none rfl rfl (.cons (.refl _) (.cons (.gl _ _) .nil)) ⟨rfl,trivial⟩ rfl rfl rfl ?_
  refine evd [] [] ?_
  refine Walk.store ty33 .none rfl rfl rfl rfl rfl rfl (by simp) rfl ?_
  refine evd [] [] ?_
  refine dr ?_
  focus (refine rn0 (.cons (.tmp rfl) (.cons (.cellA ty33 rfl rfl rfl) (.cons (.tmp rfl) .nil))) (.tup (.cons (.eqd ?_) (.cons (.agg (.cons (.eqd ?_) (.cons (.eqd ?_) .nil))) (.cons (.eqd ?_) .nil))));all_goals (first|rfl|(simp[h1s,h1p,h2s,h2p];done)|(simp_all;done)|(simp_all;omega)|omega))
  try simp only[Q,Int.natCast_inj,List.length_map] at h2p
  exfalso;first|contradiction|omega|(simp at *;omega)
  try simp only[Q,Int.natCast_inj,List.length_map] at h1p
  focus (exfalso;first|omega|(simp at h1p;omega)|(simp_all;done))
 ·rw[e2 h0 h1] at hmu
  clear e0 e1 e2 hd
  generalize rnL e=z at *
  refine bd Tryz.f25 37 [] [] fun w0 F0 own kept hk=>?_
  refine Walk.alloc (id:=3003) tz33 rfl .none rfl rfl rfl rfl ?_
  refine ev ?_
  refine Walk.call (cr:=[900]) zqf (hop) rfl .none rfl rfl (LeL.refl _) trivial rfl (by first|rfl|(simp only[zbe,List.all_cons,List.all_nil,zcm,zbW,AV.idsL,AV.ids,zah,zag,List.map_cons,List.map_nil];rfl)) (by first|rfl|(simp only[zax,occH,occE,Res.ids,List.cons_append,List.nil_append,AV.idsL,AV.ids,zah,zag,zap,zaJ,List.map_cons,List.map_nil,upC];rfl)) ?_
  refine ev ?_
  refine Walk.call (cr:=[1]) zqg (hty) rfl .none rfl rfl (LeL.refl _) ⟨rfl,trivial⟩ rfl rfl rfl ?_
  refine ev ?_
  refine Walk.alloc (id:=3007) tz33 rfl .none rfl rfl rfl rfl ?_
  refine Walk.alloc (id:=3009) tz62 rfl .none rfl rfl rfl rfl ?_
  refine ev ?_
  refine Walk.store ty33 .none rfl rfl rfl rfl rfl rfl (by simp) rfl ?_
  refine ev ?_
  refine Walk.store ty62 .none rfl rfl rfl rfl rfl rfl (by simp) rfl ?_
  refine tv ?_
  refine sq (fun h1 h1p h1s=>?_) fun h1 h1p h1s=>?_
  try simp only[Q,Int.natCast_inj,List.length_map] at h1p
  refine Walk.call (cr:=[]) zcg (hpk) rfl (.some rfl rfl h1) rfl rfl (LeL.refl _) ⟨rfl,trivial⟩ rfl rfl rfl ?_
  refine evs [] [(22,true)] ?_ ⟨⟨_,rfl,h1⟩,trivial⟩
  refine sq (fun h2 h2p h2s=>?_) fun h2 h2p h2s=>?_
  try simp only[Q,Int.natCast_inj,List.length_map] at h2p
  exfalso;first|contradiction|omega|(simp at *;omega)
  try simp only[Q,Int.natCast_inj,List.length_map] at h2p
  refine Walk.call (cr:=[]) zqh (hmu) rfl .none rfl rfl (.cons (.refl _) (.cons (.gl _ _) .nil)) ⟨rfl,trivial⟩ rfl rfl rfl ?_
  refine evd [] [] ?_
  refine Walk.store ty33 .none rfl rfl rfl rfl rfl rfl (by simp) rfl ?_
  refine evd [] [] ?_
  refine dr ?_
  focus (refine rn0 (.cons (.tmp rfl) (.cons (.cellA ty33 rfl rfl rfl) (.cons (.tmp rfl) .nil))) (.tup (.cons (.eqd ?_) (.cons (.agg (.cons (.eqd ?_) (.cons (.eqd ?_) .nil))) (.cons (.eqd ?_) .nil))));all_goals (first|rfl|(simp[h1s,h1p,h2s,h2p];done)|(simp_all;done)|(simp_all;omega)|omega))
  try simp only[Q,Int.natCast_inj,List.length_map] at h1p
  focus (exfalso;first|omega|(simp at h1p;omega)|(simp_all;done))
theorem zgn {b:Str} (hb:b.length≤1000000000000):
  FnD Tryz.prog 23 [.d (zcw b)] [] (.tup [.d (zal (rcW (b.take 2000))),.agg [.d (.i (rcT (b.take 2000)).data),.d (.i (rcT (b.take 2000)).index)],.d (zbg (dmC (b.take 2000)))]) []:=by
 refine bd Tryz.f23 10 [] [] fun w0 F0 own kept hk=>?_
 refine Walk.alloc (id:=3003) tz33 rfl .none rfl rfl rfl rfl ?_
 refine ev ?_
 refine wc zu1 (zfP hb) rfl rfl ?_
 refine ev ?_
 refine Walk.store ty33 .none rfl rfl rfl rfl rfl rfl (by simp) rfl ?_
 refine ev ?_
 refine rn0 (.cons (.tmp rfl) (.cons (.cellA ty33 rfl rfl rfl) (.cons (.tmp rfl) .nil))) (.tup (.cons (.eqd ?_) (.cons (.agg (.cons (.eqd ?_) (.cons (.eqd ?_) .nil))) (.cons (.eqd ?_) .nil))))
 rotate_left 4
 all_goals (rfl)
theorem zsg {w:List Data}{t:Ty}:clOk w t clA=true:=by
 unfold clOk
 rw[show clA.pat=anyP from rfl,zpV]
 rfl
theorem zh2:∀(l:List Cl) (out:List Pat) (c:Cl),c.g.op=0→zcb c.pat=true→zbj (l++[c]) out=(zbj l out).map (·++zcI c.pat)
 | [],out,c,h,hp=>by
  show(if c.g.op=0 then (if zcb c.pat=true then some (out++zcI c.pat) else none) else some out)=_
  rw[if_pos h,if_pos hp];rfl
 |x::r,out,c,h,hp=>by
  rw[List.cons_append,zbj]
  conv=>rhs;rw[zbj]
  split
  ·split
   ·exact zh2 r _ c h hp
   ·rfl
  ·exact zh2 r _ c h hp
theorem zpa {w:List Data}{t:Ty} (b:Pat):∀(away l:List Pat),subL w t l (away++[b])=(subL w t l away).bind fun r=>subL w t r [b]
 | [],l=>by simp[subL]
 |x::r,l=>by
  rw[List.cons_append,subL]
  conv=>rhs;rw[subL]
  split
  ·exact zpa b r _
  ·rfl
theorem zss {w:List Data}{t:Ty} (l:List Pat):zb3 w t l anyQ=[]:=by
 unfold zb3
 have:l.flatMap (fun a=>zav w 10 t a anyQ)=[]:=by
  rw[List.flatMap_eq_nil_iff]
  intro a _
  exact zgz rfl
 rw[this];rfl
theorem znp:zcb anyQ=true∧zcI anyQ=[anyQ]:=by
 have h:zaz (zaM anyQ)=[anyQ]:=by
  rw[zfg,if_neg (by decide),if_neg (by decide)]
  exact zkJ
 unfold zcb zcI
 rw[h]
 exact⟨rfl,rfl⟩
theorem zpz {w:List Data}{a k:Int}{l:List Cl}{ps:List Pat} (hm:zbx w ⟨a,k⟩ l=some ps) (h8:l.length≠8):zbx w ⟨a,k⟩ (l++[clA])=some []:=by
 obtain⟨h1,away,h2,h3,h4⟩:=zpA hm
 have hle:=(zjD h1).2
 have hv:zba w ⟨a,k⟩ (l++[clA])=true:=zpq h1 (fun c hc=>by
  rcases List.mem_append.1 hc with hc|hc
  ·exact ztg h1 c hc
  ·rw[List.mem_singleton.1 hc];exact zsg) (by simp;omega)
 unfold zbx
 rw[if_pos hv]
 unfold zds
 rw[zh2 l [] clA rfl znp.1,h2,show zcI clA.pat=[anyQ] from znp.2]
 dsimp only[Option.map_some]
 unfold zaE at h3 ⊢
 rw[zpa,h3]
 dsimp only[Option.bind_some]
 rw[subL,zss,if_pos (by simp),subL]
 rfl
theorem zom {w:List Data}{a k:Int}{l r:List Cl} (hl:ClsOk l) (h:zbR w ⟨a,k⟩ l=some r):zbR w ⟨a,k⟩ r=some r:=by
 have hx:=h
 unfold zbR at h
 split at h
 ·rename_i hm
  split at h
  ·cases h;exact hx
  ·split at h
   ·cases h
   ·rename_i h8
    cases h
    cases hq:zbx w ⟨a,k⟩ l with
    |none=>rw[hq] at hm;cases hm
    |some ps=>
     have:=zpz hq h8
     unfold zbR exhQ
     rw[this]
     rfl
 ·cases h
theorem zql {w:List Data}{a k:Int}{l r:List Cl} (hl:ClsOk l) (h:zbR w ⟨a,k⟩ l=some r):ClsOk r∧szL Cl.szM r≤szL Cl.szM l+8∧(r=l∨r=l++[clA]):=by
 unfold zbR at h
 split at h
 ·split at h
  ·cases h;exact⟨hl,by omega,.inl rfl⟩
  ·split at h
   ·cases h
   ·cases h
    refine⟨⟨?_, ?_⟩, ?_,.inr rfl⟩
    ·have h5:l.length≤8:=zkr (by assumption)
     simp;omega
    ·intro c hc
     rcases List.mem_append.1 hc with h1|h1
     ·exact hl.2 c h1
     ·rw[List.mem_singleton.1 h1,Pat.ok_iff];exact⟨by simp[clA,Pat.kids],trivial⟩
    ·rw[zsG];show _+(5+0+3:Int)≤_;omega
 ·cases h
theorem zhL {b:Str} (hb:b.length≤1000000000000):FnD Tryz.prog 4 [.d (zcw b)] [] (.d (.bool true)) []:=by
 have hdr:=zgn hb
 have hs:WSmall (rcW (b.take 2000)):=(zht (b.take 2000) 0).small
 have hl:=ztl (b.take 2000)
 have hi:=zeL hs (a:=(rcT (b.take 2000)).data) (k:=(rcT (b.take 2000)).index) hl.1
 have hsp:=zhQ hs (a:=(rcT (b.take 2000)).data) (k:=(rcT (b.take 2000)).index) hl.1 hl.2
 generalize rcW (b.take 2000)=w at *
 generalize (rcT (b.take 2000)).data=a at *
 generalize (rcT (b.take 2000)).index=k at *
 generalize dmC (b.take 2000)=l at *
 cases hc:zbR w ⟨a,k⟩ l with
 |none=>
  rw[hc] at hi hsp
  refine bd Tryz.f4 77 [37,50] [] fun w0 F0 own kept hk=>?_
  refine sq (fun h1 h1p h1s=>?_) fun h1 h1p h1s=>?_
  try simp only[Q] at h1p
  refine rn0 (r1 rfl) (.eqd ?_)
  rotate_left
  try simp only[Q] at h1p
  refine wc zsO (hdr) rfl rfl ?_
  refine evs [37,50] [] ?_
  refine Walk.alloc (id:=3004) tz33 rfl .none rfl rfl rfl rfl ?_
  refine evs [37,50] [] ?_
  refine Walk.store ty33 .none rfl rfl rfl rfl rfl rfl (by simp) rfl ?_
  refine evs [37,50] [] ?_
  refine wc zqd (hi) rfl rfl ?_
  refine evs [37,50] [] ?_
  refine wc zsN (hsp) rfl rfl ?_
  refine evs [37,50] [] ?_
  refine Walk.neB un4 .none rfl rfl rfl ?_
  refine evs [37,50] [] ?_
  refine sq (fun h2 h2p h2s=>?_) fun h2 h2p h2s=>?_
  try simp only[Q] at h2p
  refine sqT ?_
  refine sqT ?_
  refine Walk.eqB un4 .none rfl rfl rfl ?_
  refine evs [37,50] [] ?_
  refine sq (fun h4 h4p h4s=>?_) fun h4 h4p h4s=>?_
  try simp only[Q] at h4p
  refine Walk.call (cr:=[]) zf6 (zbk (l:=[]) ⟨by simp,by simp⟩) rfl (.some rfl rfl h4) rfl rfl (LeL.refl _) trivial rfl rfl rfl ?_
  refine evs [37,50] [(51,true)] ?_ ⟨⟨_,rfl,h4⟩,trivial⟩
  refine rn0 (r1 rfl) (.eqd ?_)
  rotate_left
  try simp only[Q] at h4p
  refine rn0 (r1 rfl) (.eqd ?_)
  rotate_left
  try simp only[Q] at h2p
  refine Walk.call (cr:=[]) zf6 (zbk (l:=[]) ⟨by simp,by simp⟩) rfl (.some rfl rfl h2) rfl rfl (LeL.refl _) trivial rfl rfl rfl ?_
  refine evs [37,50] [(38,false)] ?_ ⟨⟨_,rfl,h2⟩,trivial⟩
  refine sq (fun h5 h5p h5s=>?_) fun h5 h5p h5s=>?_
  try simp only[Q] at h5p
  refine sqT ?_
  refine Walk.eqB un4 .none rfl rfl rfl ?_
  refine evs [37,50] [] ?_
  refine sq (fun h7 h7p h7s=>?_) fun h7 h7p h7s=>?_
  try simp only[Q] at h7p
  refine Walk.call (cr:=[]) zf6 (zbk (l:=[]) ⟨by simp,by simp⟩) rfl (.some rfl rfl h7) rfl rfl (LeL.refl _) trivial rfl rfl rfl ?_
  refine evs [37,50] [(51,true)] ?_ ⟨⟨_,rfl,h7⟩,trivial⟩
  refine rn0 (r1 rfl) (.eqd ?_)
  rotate_left
  try simp only[Q] at h7p
  refine rn0 (r1 rfl) (.eqd ?_)
  rotate_left
  try simp only[Q] at h5p
  refine sq (fun h8 h8p h8s=>?_) fun h8 h8p h8s=>?_
  try simp only[Q] at h8p
  refine Walk.eqB un4 .none rfl rfl rfl ?_
  refine evs [37,50] [] ?_
  refine sq (fun h9 h9p h9s=>?_) fun h9 h9p h9s=>?_
  try simp only[Q] at h9p
  refine Walk.call (cr:=[]) zf6 (zbk (l:=[]) ⟨by simp,by simp⟩) rfl (.some rfl rfl h9) rfl rfl (LeL.refl _) trivial rfl rfl rfl ?_
  refine evs [37,50] [(51,true)] ?_ ⟨⟨_,rfl,h9⟩,trivial⟩
  refine rn0 (r1 rfl) (.eqd ?_)
  rotate_left
  try simp only[Q] at h9p
  refine rn0 (r1 rfl) (.eqd ?_)
  rotate_left
  try simp only[Q] at h8p
  focus (exfalso;first|contradiction|(simp at *;done))
  all_goals (first|rfl|contradiction|(exfalso;simp at *;done))
 |some r=>
  have h2:=zom hl.1 hc
  obtain⟨ra,_,rb⟩:=zql hl.1 hc
  have hi2:=zeL hs (a:=a) (k:=k) ra
  rw[hc] at hi hsp
  rw[h2] at hi2
  have hll:=hl.1.1
  have hrl:r.length≤l.length+1:=by rcases rb with rfl|rfl<;>simp
  clear rb
  refine bd Tryz.f4 77 [37,50] [] fun w0 F0 own kept hk=>?_
  refine sq (fun h1 h1p h1s=>?_) fun h1 h1p h1s=>?_
  try simp only[Q] at h1p
  refine rn0 (r1 rfl) (.eqd ?_)
  rotate_left
  try simp only[Q] at h1p
  refine wc zsO (hdr) rfl rfl ?_
  refine evs [37,50] [] ?_
  refine Walk.alloc (id:=3004) tz33 rfl .none rfl rfl rfl rfl ?_
  refine evs [37,50] [] ?_
  refine Walk.store ty33 .none rfl rfl rfl rfl rfl rfl (by simp) rfl ?_
  refine evs [37,50] [] ?_
  refine wc zqd (hi) rfl rfl ?_
  refine evs [37,50] [] ?_
  refine wc zsN (hsp) rfl rfl ?_
  refine evs [37,50] [] ?_
  refine Walk.neB un4 .none rfl rfl rfl ?_
  refine evs [37,50] [] ?_
  refine sq (fun h2 h2p h2s=>?_) fun h2 h2p h2s=>?_
  try simp only[Q] at h2p
  refine sqT ?_
  refine sqT ?_
  refine Walk.eqB un4 .none rfl rfl rfl ?_
  refine evs [37,50] [] ?_
  refine sq (fun h4 h4p h4s=>?_) fun h4 h4p h4s=>?_
  try simp only[Q] at h4p
  refine Walk.call (cr:=[]) zf6 (zbk ra) rfl (.some rfl rfl h4) rfl rfl (LeL.refl _) trivial rfl rfl rfl ?_
  refine evs [37,50] [(51,true)] ?_ ⟨⟨_,rfl,h4⟩,trivial⟩
  refine rn0 (r1 rfl) (.eqd ?_)
  rotate_left
  try simp only[Q] at h4p
  refine rn0 (r1 rfl) (.eqd ?_)
  rotate_left
  try simp only[Q] at h2p
  refine Walk.call (cr:=[]) zf6 (zbk ra) rfl (.some rfl rfl h2) rfl rfl (LeL.refl _) trivial rfl rfl rfl ?_
  refine evs [37,50] [(38,false)] ?_ ⟨⟨_,rfl,h2⟩,trivial⟩
  refine sq (fun h5 h5p h5s=>?_) fun h5 h5p h5s=>?_
  try simp only[Q] at h5p
  refine sqT ?_
  refine Walk.eqB un4 .none rfl rfl rfl ?_
  refine evs [37,50] [] ?_
  refine sq (fun h7 h7p h7s=>?_) fun h7 h7p h7s=>?_
  try simp only[Q] at h7p
  refine Walk.call (cr:=[]) zf6 (zbk ra) rfl (.some rfl rfl h7) rfl rfl (LeL.refl _) trivial rfl rfl rfl ?_
  refine evs [37,50] [(51,true)] ?_ ⟨⟨_,rfl,h7⟩,trivial⟩
  refine rn0 (r1 rfl) (.eqd ?_)
  rotate_left
  try simp only[Q] at h7p
  refine rn0 (r1 rfl) (.eqd ?_)
  rotate_left
  try simp only[Q] at h5p
  refine sq (fun h8 h8p h8s=>?_) fun h8 h8p h8s=>?_
  try simp only[Q] at h8p
  refine Walk.eqB un4 .none rfl rfl rfl ?_
  refine evs [37,50] [] ?_
  refine sq (fun h9 h9p h9s=>?_) fun h9 h9p h9s=>?_
  try simp only[Q] at h9p
  refine Walk.call (cr:=[]) zf6 (zbk ra) rfl (.some rfl rfl h9) rfl rfl (LeL.refl _) trivial rfl rfl rfl ?_
  refine evs [37,50] [(51,true)] ?_ ⟨⟨_,rfl,h9⟩,trivial⟩
  refine rn0 (r1 rfl) (.eqd ?_)
  rotate_left
  try simp only[Q] at h9p
  refine rn0 (r1 rfl) (.eqd ?_)
  rotate_left
  try simp only[Q] at h8p
  refine wc zqd (hi2) rfl rfl ?_
  refine evs [37,50] [] ?_
  refine sq (fun h10 h10p h10s=>?_) fun h10 h10p h10s=>?_
  try simp only[Q] at h10p
  refine Walk.call (cr:=[]) zf6 (zbk ra) rfl (.some rfl rfl h10) rfl rfl (LeL.refl _) trivial rfl rfl rfl ?_
  refine evs [37,50] [(64,true)] ?_ ⟨⟨_,rfl,h10⟩,trivial⟩
  refine sq (fun h11 h11p h11s=>?_) fun h11 h11p h11s=>?_
  try simp only[Q] at h11p
  refine ar ?_
  refine rn0 (r1 rfl) (.eqd ?_)
  rotate_left
  try simp only[Q] at h11p
  refine rn0 (r1 rfl) (.eqd ?_)
  rotate_left
  try simp only[Q] at h10p
  refine sqF ?_
  refine rn0 (r1 rfl) (.eqd ?_)
  rotate_left
  all_goals (first|rfl|contradiction|(exfalso;simp at *;done)|(simp at *;omega))
end Go.Proofs.YtcnjkjdmbnhcaaaGreat
namespace Go.Proofs.YtcnjkjdmbnhcaaaGreat
open Go Go.ChangeShapes Go.WideShapes Go.ChangeAt Go.RowKit
set_option linter.unusedSimpArgs false
set_option linter.unusedVariables false
set_option linter.unusedVariables false
def FW (W:World) (b:Nat):Nat:=match W.heap[b]? with
 |some (.cells cs _ _)=>cs.size
 |_=>0
theorem FW_cell {W:World}{b o:Nat}{v:Value} (h:W.cell? ⟨b,o,none⟩=some v):o<FW W b:=by
 unfold World.cell? at h
 unfold FW
 simp only at h
 split at h
 ·rename_i c t fr hb
  simp only[hb]
  simp only[Option.isSome_none,Bool.false_eq_true,if_false] at h
  exact(Array.getElem?_eq_some_iff.1 h).1
 ·cases h
theorem FW_top {W:World}{b:Nat} (h:W.heap.size≤b):FW W b=0:=by
 unfold FW
 rw[Array.getElem?_eq_none h]
structure RelL (W:World) (xs:List D) (cs:List Value):Prop where
 len:xs.length=cs.length
 rel:∀i (h1:i<xs.length) (h2:i<cs.length),RelD (FW W) W xs[i] cs[i]
theorem RelL.append {W:World}{xs ys:List D}{cs ds:List Value} (h:RelL W xs cs) (k:RelL W ys ds):RelL W (xs++ys) (cs++ds):=by
 refine⟨by simp[h.len,k.len],fun i h1 h2=>?_⟩
 by_cases hi:i<xs.length
 ·rw[List.getElem_append_left hi,List.getElem_append_left (by rw[←h.len];exact hi)]
  exact h.rel i hi (by rw[←h.len];exact hi)
 ·have hl:=h.len
  rw[List.getElem_append_right (by omega),List.getElem_append_right (by omega)]
  have e:i-xs.length=i-cs.length:=by omega
  have h1':i-xs.length<ys.length:=by simp only[List.length_append] at h1;omega
  have h2':i-cs.length<ds.length:=by simp only[List.length_append] at h2;omega
  have:=k.rel (i-xs.length) h1' (by omega)
  simp only[e] at this ⊢
  exact this
def Dec (P:Program) (W:World) (n:Nat) (t:TypeId){α:Type} (f:α→List D) (m:α→Nat) (R:α→Prop):Prop:=
 ∀(H:Type) (enc:TypeId×Value→H) (cs:List Value) (x:DataW H×List MemPlace),DataW.trod enc P W 0 (fun _=>true) true n t cs=some x→
  ∃a,RelL W (f a) cs∧m a+1≤Rows.uptoBulk x.1∧R a
section
variable {P:Program}{W:World}{n:Nat}{t:TypeId}
theorem Dec.zero {α:Type}{f:α→List D}{m:α→Nat}{R:α→Prop}:Dec P W 0 t f m R:=fun H enc cs x h=>by simp[DataW.trod] at h
theorem Dec.map {α β:Type}{f:α→List D}{m:α→Nat}{R:α→Prop}{f':β→List D}{m':β→Nat}{R':β→Prop} (g:α→β) (h:Dec P W n t f m R)
  (h1:∀a,f' (g a)=f a) (h2:∀a,m' (g a)≤m a) (h3:∀a,R a→R' (g a)):Dec P W n t f' m' R':=fun H enc cs x hx=>by
 obtain⟨a,q1,q2,q3⟩:=h H enc cs x hx
 exact⟨g a,by rw[h1];exact q1,by have:=h2 a;omega,h3 a q3⟩
theorem RelL.one {x:D}{v:Value} (h:RelD (FW W) W x v):RelL W [x] [v]:=
 ⟨rfl,fun i h1 h2=>by
  have:i=0:=by simp at h1;omega
  subst this
  exact h⟩
theorem Dec.int {k:IntKind} (ht:P.underlying t=some (.int k)):Dec P W n t (fun z:Int=>[.int k z]) (fun _=>0) (fun z=>(Lit.int k z).wf=true):=fun H enc cs x h=>by
 obtain⟨z,rfl,rfl,hw⟩:=DataW.trod_int ht h
 exact⟨z,.one (.int k z),by simp[Rows.uptoBulk],hw⟩
theorem Dec.bool (ht:P.underlying t=some .bool):Dec P W n t (fun z:Bool=>[.bool z]) (fun _=>0) (fun _=>True):=fun H enc cs x h=>by
 obtain⟨z,rfl,rfl⟩:=DataW.trod_bool ht h
 exact⟨z,.one (.bool z),by simp[Rows.uptoBulk],trivial⟩
theorem Dec.str (ht:P.underlying t=some .string):Dec P W n t (fun s:Str=>[.str s]) (fun s=>s.length) (fun _=>True):=fun H enc cs x h=>by
 obtain⟨s,rfl,rfl,hw⟩:=DataW.trod_string ht h
 exact⟨s.data.toList,.one (by have:=RelD.str (F:=FW W) (w:=W) s.data.toList;simpa using this),by simp[Rows.uptoBulk],trivial⟩
def sumM {α:Type} (m:α→Nat):List α→Nat
 | []=>0
 |a::r=>m a+1+sumM m r
theorem zpb {α:Type} (m:α→Nat):∀l:List α,l.length≤sumM m l
 | []=>by simp[sumM]
 |a::r=>by have:=zpb m r;simp only[sumM,List.length_cons];omega
theorem zjY {α β:Type}{Q:Nat→α→β→Prop}:∀(l:List β) (o:Nat),(∀i (h:i<l.length),∃a,Q (o+i) a l[i])→∃zs:List α,zs.length=l.length∧∀i (h:i<l.length) (h':i<zs.length),Q (o+i) zs[i] l[i]
 | [],o,_=>⟨[],rfl,fun i h=>by simp at h⟩
 |b::r,o,h=>by
  obtain⟨a,ha⟩:=h 0 (by simp)
  obtain⟨zs,h1,h2⟩:=zjY (Q:=Q) r (o+1) (fun i hi=>by
   have:=h (i+1) (by simp;omega)
   rw[show o+1+i=o+(i+1) by omega]
   simpa using this)
  refine⟨a::zs,by simp[h1],fun i hi hi'=>?_⟩
  cases i with
  |zero=>exact ha
  |succ i=>
   have:=h2 i (by simpa using hi) (by simpa using hi')
   rw[show o+1+i=o+(i+1) by omega] at this
   simpa using this
theorem zn6 {H α:Type}{m:α→Nat}:∀ {zs:List α}{xs:List (DataW H)},zs.length=xs.length→(∀i (h:i<zs.length) (h':i<xs.length),m zs[i]+1≤Rows.uptoBulk xs[i])→sumM m zs≤Rows.uptoBulkAll xs
 | [],[],_,_=>by simp[sumM,Rows.uptoBulkAll]
 |a::zs,x::xs,hl,h=>by
  have h0:=h 0 (by simp) (by simp)
  have ih:=zn6 (m:=m) (zs:=zs) (xs:=xs) (by simpa using hl) (fun i h1 h2=>by
   have:=h (i+1) (by simp;omega) (by simp;omega)
   simpa using this)
  simp only[sumM,Rows.uptoBulkAll]
  simp only[List.getElem_cons_zero] at h0
  omega
 | [],_::_,hl,_=>by simp at hl
 |_::_,[],hl,_=>by simp at hl
theorem Dec.sl {α:Type}{f:α→List D}{m:α→Nat}{R:α→Prop}{e:TypeId}{k:Nat} (ht:P.underlying t=some (.slice e)) (hc:P.cellsOf e=k+1) (hk:∀a,(f a).length=k+1) (he:Dec P W n e f m R):
  Dec P W (n+1) t (fun l:List α=>[.sl (l.map f)]) (fun l=>sumM m l) (fun l=>∀a∈l,R a):=fun H enc cs x h=>by
 rcases DataW.trod_slice ht h with ⟨rfl,rfl⟩|⟨a,len,cap,elems,rest,n',hn,rfl,rfl,_,hcap,_,hlen,hel,_,_⟩
 ·exact⟨[],.one .nil,by simp[sumM,Rows.uptoBulk],fun a h=>by simp at h⟩
 obtain rfl:n=n':=by omega
 have each:∀i (hi:i<elems.length),∃y,(∃cs,W.cells? 0 (a.add (i*(k+1))) (k+1)=some cs∧RelL W (f y) cs)∧m y+1≤Rows.uptoBulk (elems[i]).1∧R y:=by
  intro i hi
  have:=hel i (by omega)
  rw[hc,List.getElem?_eq_getElem hi,Option.bind_eq_some_iff] at this
  obtain⟨cs,h1,h2⟩:=this
  obtain⟨y,h3,h4,h5⟩:=he H enc cs _ h2
  exact⟨y,⟨cs,h1,h3⟩,h4,h5⟩
 obtain⟨zs,hal,has⟩:=zjY (Q:=fun i y (el:DataW H×List MemPlace)=>(∃cs,W.cells? 0 (a.add (i*(k+1))) (k+1)=some cs∧RelL W (f y) cs)∧m y+1≤Rows.uptoBulk el.1∧R y) elems 0 (fun i hi=>by simpa using each i hi)
 refine⟨zs,.one ?_, ?_,fun y hy=>?_⟩
 ·by_cases h0:zs=[]
  ·subst h0
   have hz:len=0:=by simp at hal;omega
   subst hz
   obtain⟨b,o,s⟩:=a
   cases s with
   |none=>exact .sl [] 0 b o cap (fun _=>undef) (by simp) (by simp) (fun n hn=>by simp at hn) (fun i hi=>by simp at hi)
   |some s=>exact .emp b o s cap
  ·have hpos:0<zs.length:=List.length_pos_iff.2 h0
   obtain⟨⟨cs0,hc0,hr0⟩,_⟩:=has 0 (by omega) hpos
   have hspot:a.spot=none:=by
    have h1:=(World.cells?_some hc0).2.2 0 (by omega)
    have h2:0<cs0.length:=by have:=(World.cells?_some hc0).2.1;omega
    simp only[Nat.add_zero,Nat.zero_mul,Addr.add,if_true,List.getElem?_eq_getElem h2] at h1
    unfold World.cell? at h1
    split at h1
    ·cases hs:a.spot with
     |none=>rfl
     |some s=>simp[hs] at h1
    ·cases h1
   obtain⟨b,o,s⟩:=a
   simp only at hspot
   subst hspot
   have hlen':(zs.map f).length=len:=by simp;omega
   have hmulk:∀i j,i<zs.length→j<k+1→i*(k+1)+j<zs.length*(k+1):=fun i j hi hj=>by
    have:(i+1)*(k+1)≤zs.length*(k+1):=Nat.mul_le_mul_right _ (by omega)
    rw[Nat.add_mul,Nat.one_mul] at this
    omega
   have cellAt:∀i (hi:i<zs.length) j (hj:j<(f zs[i]).length),∃v,W.cell? ⟨b,o+(i*(k+1)+j),none⟩=some v∧RelD (FW W) W ((f zs[i])[j]) v:=fun i hi j hj=>by
    obtain⟨⟨cs,hc1,hr1⟩,_⟩:=has i (by omega) hi
    have hjk:j<k+1:=by have:=hk zs[i];omega
    obtain⟨_,q1,q2⟩:=World.cells?_some hc1
    have q3:=q2 j hjk
    rw[List.getElem?_eq_getElem (by omega)] at q3
    refine⟨cs[j], ?_,hr1.rel j hj (by omega)⟩
    rw[←q3]
    congr 1
    simp only[Nat.zero_add,Addr.add]
    split<;>split<;>simp_all<;>omega
   have hv:((zs.map f).length,cap)=(len,cap):=by rw[hlen']
   have goal:RelD (FW W) W (.sl (zs.map f)) (.slice (some ⟨b,o,none⟩) (zs.map f).length cap):=by
    refine .sl _ (k+1) b o cap (fun q=>(W.cell? ⟨b,o+q,none⟩).getD undef) (fun y hy=>?_) (by omega) (fun q hq=>?_) (fun i hi j hj=>?_)
    ·obtain⟨y',_,rfl⟩:=List.mem_map.1 hy;exact hk y'
    ·have hq':q<zs.length*(k+1):=by simpa using hq
     have hi:q / (k+1)<zs.length:=Nat.div_lt_of_lt_mul (by rw[Nat.mul_comm];exact hq')
     have hj:q % (k+1)<k+1:=Nat.mod_lt _ (by omega)
     obtain⟨v,h1,_⟩:=cellAt _ hi (q % (k+1)) (by rw[hk];exact hj)
     rw[Nat.div_add_mod'] at h1
     exact⟨FW_cell h1,by rw[h1];rfl⟩
    ·have hi':i<zs.length:=by simpa using hi
     simp only[List.getElem_map] at hj ⊢
     obtain⟨v,h1,h2⟩:=cellAt i hi' j hj
     show RelD (FW W) W _ ((W.cell? ⟨b,o+(i*(k+1)+j),none⟩).getD undef)
     rw[h1]
     exact h2
   rw[hlen'] at goal
   exact goal
 ·have:=zn6 (m:=m) (zs:=zs) (xs:=elems.map (·.1)) (by simp[hal]) (fun i h1 h2=>by
   have:=(has i (by simpa using h2) h1).2.1
   simpa using this)
  simp only[Rows.uptoBulk]
  omega
 ·obtain⟨i,hi,rfl⟩:=List.getElem_of_mem hy
  exact(has i (by omega) hi).2.2
def DecF (P:Program) (W:World) (n o K:Nat) (fs:List Field){α:Type} (f:α→List D) (m:α→Nat) (R:α→Prop):Prop:=
 ∀(H:Type) (enc:TypeId×Value→H) (cs:List Value) (xs:List (DataW H×List MemPlace)),cs.length=K→xs.length=fs.length→
  (∀(i:Nat) (fd:Field),fs[i]?=some fd→DataW.trod enc P W 0 (fun _=>true) true n fd.type ((cs.drop fd.offset).take (P.cellsOf fd.type))=xs[i]?)→
  ∃a,RelL W (f a) (cs.drop o)∧m a≤Rows.uptoBulkAll (xs.map (·.1))∧R a
theorem DecF.nil {K:Nat}:DecF P W n K K [] (fun _:Unit=>[]) (fun _=>0) (fun _=>True):=fun H enc cs xs h1 h2 _=>
 ⟨(),by rw[List.drop_of_length_le (by omega)];exact⟨rfl,fun i h=>by simp at h⟩,by simp,trivial⟩
theorem DecF.cons {α β:Type}{f:α→List D}{m:α→Nat}{R:α→Prop}{f2:β→List D}{m2:β→Nat}{R2:β→Prop}{o K k:Nat}{fd:Field}{fs:List Field}
  (h1:Dec P W n fd.type f m R) (ho:fd.offset=o) (hc:P.cellsOf fd.type=k) (h2:DecF P W n (o+k) K fs f2 m2 R2):
  DecF P W n o K (fd::fs) (fun p:α×β=>f p.1++f2 p.2) (fun p=>m p.1+1+m2 p.2) (fun p=>R p.1∧R2 p.2):=fun H enc cs xs hK hl hx=>by
 cases xs with
 |nil=>simp at hl
 |cons y ys=>
  have h0:=hx 0 fd (by simp)
  simp only[List.getElem?_cons_zero] at h0
  rw[ho,hc] at h0
  obtain⟨a,q1,q2,q3⟩:=h1 H enc _ _ h0
  obtain⟨b,r1,r2,r3⟩:=h2 H enc cs ys hK (by simpa using hl) (fun i fd' hi=>by
   have:=hx (i+1) fd' (by simpa using hi)
   simpa using this)
  refine⟨(a,b), ?_, ?_,q3,r3⟩
  ·have:cs.drop o=(cs.drop o).take k++cs.drop (o+k):=by
    rw[←List.drop_drop,List.take_append_drop]
   rw[this]
   exact q1.append r1
  ·simp only[List.map_cons,Rows.uptoBulkAll]
   omega
theorem Dec.struct {α:Type}{f:α→List D}{m:α→Nat}{R:α→Prop}{fs:Array Field} (ht:P.underlying t=some (.struct fs)){K:Nat} (hK:P.cellsOf t=K) (h:DecF P W n 0 K fs.toList f m R):
  Dec P W (n+1) t f m R:=fun H enc cs x hx=>by
 obtain⟨xs,n',hn,rfl,hl,hxl,hf⟩:=DataW.trod_struct ht hx
 obtain rfl:n=n':=by omega
 obtain⟨a,q1,q2,q3⟩:=h H enc cs xs (by omega) (by simpa using hxl) (fun i fd hi=>hf i fd (by simpa using hi))
 refine⟨a,by simpa using q1, ?_,q3⟩
 simp only[Rows.uptoBulk]
 omega
end
section
variable {P:Program}{W:World}{base:Nat}{t:TypeId}{v:Value}{H:Type}{enc:TypeId×Value→H}{d:DataW H}{ps:List MemPlace}
theorem ztJ {α:Type}{e:TypeId}{f:α→List D}{m:α→Nat}{R:α→Prop}{k:Nat} (ht:P.underlying t=some (.slice e)) (hc:P.cellsOf e=k+1) (hk:∀a,(f a).length=k+1) (hd:∀n,Dec P W n e f m R)
  (hval:Value.okWide P W .any base t v) (h:DataW.Trod enc P W 0 (fun _=>true) true t v d ps):
  ∃l:List α,(∀G T,G.F=FW W→RelA G T W (.d (.sl (l.map f))) v)∧sumM m l+1≤Rows.uptoBulk d∧∀a∈l,R a:=by
 obtain⟨n,hn⟩:=h
 cases n with
 |zero=>simp[DataW.trod] at hn
 |succ n=>
  obtain⟨l,h1,h2,h3⟩:=Dec.sl ht hc hk (hd n) H enc _ _ hn
  have hcells:v.cells.toList=[v]:=by
   cases v with
   |agg cs=>simp only[Value.okWide,ht,Cell.okWide,Cell.ok] at hval
   |_=>rfl
  rw[hcells] at h1
  exact⟨l,fun G T hG=> .d (by rw[hG];simpa using h1.rel 0 (by simp) (by simp)),h2,h3⟩
end
section
variable {P:Program}{H:Type}{enc:TypeId×Value→H}
theorem ziH (hl:laidOutB P=true){W W':World} (hb:Below W.heap.size W W'):∀ {ts:List TypeId}{vs:List Value}{ds:List (DataW H)}{ps:List MemPlace},
  (∀t∈ts,P.readableRec t=true∧t<P.types.size)→DataW.TrodAll enc P W 0 (fun _=>true) true ts vs ds ps→(∀x∈ps,x.block<W.heap.size)→
  DataW.TrodAll enc P W' 0 (fun b=>decide (b<W.heap.size)) true ts vs ds ps
 | [],[],[],ps,_,h,_=>h
 |t::ts,v::vs,d::ds,ps,hr,h,hlt=>by
  obtain⟨p,q,h1,h2,rfl⟩:=h
  exact⟨p,q,Below.trod hl (hr t (by simp)).1 (hr t (by simp)).2 h1 hb (fun x hx=>hlt x (by simp[hx])),
   ziH hl hb (fun t ht=>hr t (by simp[ht])) h2 (fun x hx=>hlt x (by simp[hx])),rfl⟩
theorem zsq {f:Func}{s:ChangeSpec}{W W':World}{args:Array Value}{ds gs:List (DataW H)}{before:List MemPlace}{tb:TypeId}
  (hW:DataW.Whole enc P f.params.toList s.vars false W args.toList ds gs before) (hvars:s.vars=[]) (hrt:f.resultTypes = #[tb]) (htb:P.underlying tb=some .bool)
  (hs:s.fn H (ds++gs)={ results:=[.lit (.bool true)],args:=ds }) (hl:laidOutB P=true) (hr:∀t∈f.params.toList,P.readableRec t=true∧t<P.types.size)
  (hb:Below W.heap.size W W'):s.post enc P f false true false false W args (.bool true) W':=by
 have hlt:∀p∈before,p.block<W.heap.size:=fun p hp=>hW.lt p hp
 have hW0:=hW
 obtain⟨p,q,hA,hV,rfl,hfz,_⟩:=hW
 rw[hvars] at hV
 cases gs with
 |cons g gs=>exact hV.elim
 |nil=>
  have hq:q=[]:=hV
  subst hq
  simp only[List.append_nil] at *
  refine⟨ds,[],p,[],p,[],by simpa [hvars] using hW0, ?_, ?_, ?_,World.keptBut_mono (fun x hx=>⟨hx,.inr (.inl hx)⟩) (hb.frame (·∈p)),fun h=>by cases h⟩
  ·simp only[List.append_nil,hs,hrt]
   exact trodAll_cons_mk (shut_bool htb _) trodAll_mk0
  ·simp only[List.append_nil,hs]
   exact ziH hl hb hr hA hlt
  ·simp only[hvars,List.append_nil,hs]
   rfl
theorem zrD {f:FuncId}{avs:List AV}{W:World}{args:Array Value}{r:AV} (hf:FnD P f avs [] r [])
  (hargs:∀G T,G.F=FW W→AllR G T W avs args):Calls P f args W fun e W'=>∃v G',e = .returned v∧RelA G' (fun _=>none) W' r v∧Below W.heap.size W W':=by
 let G:Gh:={ F:=FW W,loc:=fun _=>[] }
 refine(hf G W args ⟨hargs G _ rfl,fun id r h=>(by simp[getH] at h),fun id id' h=>(by simp[getH] at h),fun b hb=>FW_top hb⟩).mono ?_
 rintro e W' ⟨v,r',hp',G',rfl,⟨rfl,rfl⟩,h⟩
 exact⟨v,G',rfl,h.res,⟨h.frm.os,h.frm.tape,h.frm.output,h.frm.size,fun b hb=>(h.frm.block b hb (by simp[zc4])).1⟩⟩
theorem RelA.bool_true {G:Gh}{T:TokF}{w:World}{v:Value} (h:RelA G T w (.d (.bool true)) v):v = .bool true:=by
 cases h with|d h=>cases h;rfl
theorem zsf {H:Type}{l:List (DataW H)} (hk:Rows.uptoSmall H l=true):Rows.uptoBulkAll l≤1048576:=of_decide_eq_true hk
end
end Go.Proofs.YtcnjkjdmbnhcaaaGreat
namespace Go.Proofs.YtcnjkjdmbnhcaaaGreat
open Go Go.ChangeShapes Go.WideShapes Go.ChangeAt Go.RowKit
set_option linter.unusedSimpArgs false
set_option linter.unusedVariables false
set_option maxRecDepth 100000
theorem ztk (W:World) (n:Nat):Dec Tryz.prog W n 5 (fun x:UInt8=>[D.int .u8 (x.toNat:Int)]) (fun _=>0) (fun _=>True):=fun H enc cs x hx=>by
 obtain⟨z,q1,q2,q3⟩:=Dec.int (k:= .u8) Tryz.underlying5 H enc cs x hx
 have h:0≤z∧z≤255:=by
  simp[Lit.wf,IntKind.wrap,IntKind.signed,IntKind.bits,IntKind.min,IntKind.max] at q3
  omega
 refine⟨UInt8.ofNat z.toNat, ?_,q2,trivial⟩
 have e:(((UInt8.ofNat z.toNat).toNat:Nat):Int)=z:=by
  rw[UInt8.toNat_ofNat',Nat.mod_eq_of_lt (by omega)];omega
 show RelL W [D.int .u8 (((UInt8.ofNat z.toNat).toNat:Nat):Int)] cs
 rw[e];exact q1
end Go.Proofs.YtcnjkjdmbnhcaaaGreat
namespace Go.Proofs.YtcnjkjdmbnhcaaaGreat.fnClosedTwice
open Go Go.ChangeShapes Go.WideShapes Go.ChangeAt Go.RowKit
set_option linter.unusedSimpArgs false
set_option linter.unusedVariables false
theorem own:ownKnob Tryz.prog.godebug=none:=by kernel_rfl
theorem laidOut:laidOutB Tryz.prog=true:=by kernel_rfl
set_option maxRecDepth 100000 in
theorem contract (H:Type) (enc:TypeId×Value→H) (W:World) (base:Nat) (args:Array Value) (ds gs:List (DataW H)) (before:List MemPlace)
    (hval:∀(j:Nat) t v,Tryz.f4.params[j]?=some t→args[j]?=some v→Value.okWide Tryz.prog W .any base t v)
    (hW:DataW.Whole enc Tryz.prog Tryz.f4.params.toList Rows.fnClosedTwiceSpec.vars false W args.toList ds gs before) (hk:Rows.uptoSmall H (ds++gs)=true):
    Calls Tryz.prog 4 args W fun e W'=>∃v,e = .returned v∧Rows.fnClosedTwiceSpec.post enc Tryz.prog Tryz.f4 false true false false W args v W':=by
  have hb:=zsf hk
  have hW':=hW
  obtain⟨p,q,hA0,hV,rfl,hfz,hnd⟩:=hW
  have hA:DataW.TrodAll enc Tryz.prog W 0 (fun _=>true) true Tryz.f4.params.toList args.toList ds p:=hA0
  rw[Tryz.params4] at hA hval
  obtain⟨v0,vs0,d0,ds0,p0,q0,hargs,rfl,rfl,h0,r0⟩:=trodAll_cons hA
  obtain⟨rfl,rfl,rfl⟩:=trodAll_nil r0
  obtain rfl:args = #[v0]:=by cases args;simp_all
  obtain⟨rfl,rfl⟩:=trodVars_none hV
  simp only[List.append_nil,Rows.uptoBulkAll] at hb
  obtain⟨code,a0,b0,_⟩:=ztJ (k:=0) Tryz.underlying41 (by kernel_rfl) (fun _=>rfl) (ztk W) (hval 0 _ v0 rfl rfl) h0
  have ln_code:code.length≤1000000000000:=by have:=zpb (fun _:UInt8=>0) code;omega
  refine(zrD ((zhL ln_code)) (W:=W) (args:=#[v0]) (fun G T hG=>⟨rfl,fun i hi hv=>?_⟩)).mono ?_
  · match i,hi with
    |0,_=>exact a0 G T hG
  · rintro e W' ⟨v,G',rfl,hr,hbelow⟩
    obtain rfl:=hr.bool_true
    exact⟨_,rfl,zsq hW' rfl rfl Tryz.underlying4 rfl laidOut (fun t ht=>by
      simp only[Tryz.params4,List.mem_cons,List.not_mem_nil,or_false] at ht
      rcases ht with rfl<;>exact⟨by kernel_rfl,of_decide_eq_true (by kernel_rfl)⟩) hbelow⟩
set_option maxRecDepth 100000 in
theorem lifted (os:Os) (started:os.Started) (H:Type) (enc:TypeId×Value→H) (F:Stop.Interp):
    ReturnsInHanded {} Tryz.checked os 4 .any ((Rows.OpenSpec.upto Rows.fnClosedTwiceSpec).pre6 enc Tryz.prog Tryz.f4 Rows.fnClosedTwiceUptoRow.domain false) (((Rows.OpenSpec.upto Rows.fnClosedTwiceSpec).at F).post enc Tryz.prog Tryz.f4 false true false false):=by
  refine returnsInHanded_of_cond (C:=Tryz.checked) (s:=Rows.OpenSpec.upto Rows.fnClosedTwiceSpec) (k:=Rows.uptoSmall) rfl own started (by kernel_rfl) Tryz.func4
    (OpenSpec.witness (enc:=enc) (C:=Tryz.checked) (s:=Rows.OpenSpec.upto Rows.fnClosedTwiceSpec) (k:=Rows.uptoSmall) rfl false ⟨#[],#[.slice none 0 0],[]⟩ 8 (by kernel_rfl) (by kernel_rfl) (by kernel_rfl)
      (x:=([.nil],[],[])) (by kernel_rfl) rfl (by kernel_rfl)) ?_
  intro W base args ds gs before hval hW _ hk _
  exact contract H enc W base args ds gs before hval hW hk
theorem kf1:(Rows.fnClosedTwiceUptoRow.inPlace == Tryz.pinned.checked.prog.inPlace 4)=true:=by kernel_rfl
theorem kf2:(Rows.fnClosedTwiceUptoRow.unfollowed == Tryz.pinned.checked.prog.unfollowed 4)=true:=by kernel_rfl
theorem kf3:(Rows.fnClosedTwiceUptoRow.recurses == Tryz.pinned.checked.prog.recurses 4)=true:=by kernel_rfl
theorem kf4:(Rows.fnClosedTwiceUptoRow.named == Tryz.pinned.checked.prog.varsNamed 4)=true:=by kernel_rfl
theorem kf5:laidOutB Tryz.pinned.checked.prog=true:=by kernel_rfl
theorem kf6:mapsRowed Tryz.pinned.checked.prog=true:=by kernel_rfl
theorem kf7:Tryz.pinned.checked.prog.stopsHeard=true:=by kernel_rfl
theorem kf8:Tryz.pinned.checked.prog.mayEnter=true:=by kernel_rfl
theorem kf9:(Rows.fnClosedTwiceUptoRow.lifted == Tryz.pinned.checked.prog.liftsFinal)=true:=by kernel_rfl
theorem kf0:(Rows.fnClosedTwiceUptoRow.plainKeys == Tryz.pinned.checked.prog.plainKeys)=true:=by kernel_rfl
theorem facts:joinedFacts Tryz.pinned.checked.prog 4 Tryz.f4 (Rows.OpenSpec.upto Rows.fnClosedTwiceSpec).bare Rows.fnClosedTwiceUptoRow=true:=by
  unfold joinedFacts
  rw[kf1,kf2,kf3,kf4,kf5,kf6,kf7,kf8,kf9,kf0]
  kernel_rfl
theorem named:Tryz.pinned.checked.prog.funcNamed Rows.fnClosedTwiceUptoRow.func=some 4:=by kernel_rfl
theorem over:Rows.fnClosedTwiceUptoRow.holds Tryz.pinned (Rows.OpenSpec.upto Rows.fnClosedTwiceSpec):=
  OpenClaim.holds_of_cond 4 Tryz.f4 rfl rfl rfl rfl rfl rfl rfl ⟨rfl,rfl,rfl,rfl,rfl⟩ rfl rfl rfl rfl rfl named Tryz.func4 facts
    (of_decide_eq_true (by as_aux_lemma=>kernel_rfl)) (by as_aux_lemma=>unfold Func.isWrapper;first|(rw[if_pos (by decide +kernel)];kernel_rfl)|(rw[if_neg (by decide +kernel)];exact⟨rfl,rfl⟩))
    (fun os started H enc _ F=>lifted os started H enc F)
theorem proved:Rows.FnClosedTwiceUptoSaid:=over
end Go.Proofs.YtcnjkjdmbnhcaaaGreat.fnClosedTwice
