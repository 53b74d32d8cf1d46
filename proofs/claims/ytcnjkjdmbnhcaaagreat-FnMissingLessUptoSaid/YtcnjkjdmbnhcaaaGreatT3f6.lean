/-
  THE ABSTRACT WALK AND THE WALKS, part 6 of 7: the parts F111, F114, L34, Wrap, Dec, L35.
-/
import Derived.Test.YtcnjkjdmbnhcaaaGreatT3f5
namespace Go.Proofs.YtcnjkjdmbnhcaaaGreat
open Go
set_option linter.unusedSimpArgs false
set_option linter.unusedVariables false
set_option maxRecDepth 100000
set_option maxHeartbeats 2000000
theorem zox {b:Str}{w:List Data} (hb:b.length≤2000) (hw:WT w) (hf:Few w){a k:Int}{p:Nat} (hp:p≤90000) (ht:TyIn w.length ⟨a,k⟩):
  FnD Tryz.prog 107 [.ref 900 0,.d (zaj w),.agg [.d (.i a),.d (.i k)]] [(900,some (rdB b p))] (.gl 1 ((clS b w ⟨a,k⟩ p).1.map Cl.c)) [(900,some (rdB b (clS b w ⟨a,k⟩ p).2)),(1,some (.tok ((clS b w ⟨a,k⟩ p).1.map Cl.c).length 9))]:=by
 have h6:=num6 b p;have hnu:=zbN (b:=b) (p:=p) (l:=[3,2,4,5,1,0]) hb (by omega) (by simp) (by simp);have hok:=fun q=>ztH (b:=b) hf ht q;unfold clS;obtain⟨n0,hn0⟩:∃n:Nat,numV b p [3,2,4,5,1,0]=(n:Int):=⟨_,(Int.toNat_of_nonneg h6.1).symm⟩;rw[hn0] at h6 hnu ⊢;rw[Int.toNat_natCast];refine bd Tryz.f107 25 [] [] fun w0 F0 own kept hk=>?_;refine bx 3005 ?_;refine ev ?_;refine xbj 1 sl28 .none rfl rfl ?_;refine ev ?_;refine si [0,1,2,3,4,5] [_,_,_,_,_,_] zaW tz3 ?_;refine wd zdZ (hnu) rfl rfl ⟨rfl,trivial⟩ ?_;refine ev ?_;refine xaj (ι:=Nat×List Cl×Nat) hk (fun x=>[(8,.d (.i (x.1:Int))),(7,.gl 1 (x.2.1.map Cl.c))]) [13,14,15,16,17,18,19,20,21,22,23] (fun x=>[(900,some (.box [.d (zb0 b),.d (.i (x.2.2:Int))])),(1,some (.tok ((x.2.1.map Cl.c)).length 9))]) (fun x=>x.1≤n0∧x.2.2+518*x.1≤p+1+518*n0∧x.2.1.length+x.1≤5∧(x.2.1++(clL b w ⟨a,k⟩ x.1 x.2.2).1,(clL b w ⟨a,k⟩ x.1 x.2.2).2)=clL b w ⟨a,k⟩ n0 (p+1)) (fun x=>x.1) (n0,[],p+1) ⟨by simp,by simp,by simp;omega,by simp⟩ ⟨⟨_,rfl,xap ?_⟩,⟨⟨_,rfl,LeA.glg ?_⟩,trivial⟩⟩ ⟨?_,⟨zaa ?_,trivial⟩⟩ (fun x=>rfl) (fun x hg1=>?_);iterate 2 focus (first|rfl|omega|(simp;done)|(dsimp only;omega)|(simp;omega))
 focus (first|rfl|(simp[getH];done))
 focus (first|rfl|omega|(simp;done)|(dsimp only;omega)|(simp;omega))
 refine evc [] [] ?_;refine sq ?_ ?_<;>intro h1 h1p h1s;try simp only[Q,Int.natCast_inj] at h1p
 refine wd zw7 (zl2 (p:=x.2.2) hb hw hf (by omega) ht) rfl rfl ⟨rfl,trivial⟩ ?_;refine si [0] [_] sl28 tz60 ?_;refine Walk.append sl28 zz60 rfl .none rfl rfl rfl rfl (zdk rfl (by first|rfl|(simp;done)|(simp;omega))) (by intro y hy;simp at hy;subst hy;rfl) (by simp;omega) (by simp;omega) ?_;refine ev ?_;refine ar ?_;refine Exists.intro ((x.1-1,x.2.1++[(clD b w ⟨a,k⟩ x.2.2).1],(clD b w ⟨a,k⟩ x.2.2).2)) ⟨⟨by dsimp only;omega,by have:=hok x.2.2;dsimp only;omega,by simp;omega,by rw[←hg1.2.2.2];obtain⟨m,hm⟩:∃m,x.1=m+1:=⟨x.1-1,by omega⟩;dsimp only;rw[hm];simp[clL]⟩,(by dsimp only;omega),sx ⟨⟨_,rfl,xap ?_⟩,⟨⟨_,rfl,LeA.glg ?_⟩,trivial⟩⟩ ⟨?_,⟨zaa ?_,trivial⟩⟩⟩;iterate 2 focus (first|rfl|omega|(simp;done)|(dsimp only;omega)|(simp;omega))
 focus (first|rfl|(simp[getH];done))
 focus (first|rfl|omega|(simp;done)|(dsimp only;omega)|(simp;omega))
 try simp only[Q,Int.natCast_inj] at h1p
 refine rn [(900,some (rdB b (clL b w ⟨a,k⟩ n0 (p+1)).2)),(1,some (.tok ((clL b w ⟨a,k⟩ n0 (p+1)).1.map Cl.c).length 9))] (r1 rfl) (.glg ?_) ⟨rfl,rfl⟩ (SubO.get ⟨.inr ?_,⟨.inr ?_,⟨.inl rfl,trivial⟩⟩⟩) (zav rfl);rotate_left 3;all_goals (first|((first|rfl|(rw[←hg1.2.2.2,show x.1=0 by omega];simp[clL];done)|(rw[←hg1.2.2.2,show x.1=0 by omega,clL];all_goals rfl)|(have hz:=hg1.2.2.2;rw[show x.1=0 by omega] at hz;simp only[clL,List.append_nil] at hz;rw[←hz];all_goals rfl));done)|(first|rfl|(rw[←hg1.2.2.2,show x.1=0 by omega];simp[clL];done)|(rw[←hg1.2.2.2,show x.1=0 by omega,clL];all_goals rfl)|(have hz:=hg1.2.2.2;rw[show x.1=0 by omega] at hz;simp only[clL,List.append_nil] at hz;rw[←hz];all_goals rfl)))
theorem znE {b:Str} (hb:b.length≤2000):
  FnD Tryz.prog 64 [.ref 900 0] [(900,some (rdB b 0))] (.tup [.d (zaj (zbC b 0)),.agg [.d (.i (typT b 0).data),.d (.i (typT b 0).index)],.gl 1 ((rnL b).1.map Cl.c),.agg [.d (.i (typV b 0).1.ctor),.d (.i (typV b 0).1.num),.d (zbH (typV b 0).1.kids)]]) [(900,some (rdB b (rnL b).2)),(1,some (.tok ((rnL b).1.map Cl.c).length 9))]:=by
 have hl:=zfL b 0;have hv:=(zsk b 0).1;have hty:=znx (p:=0) hb (by omega);have hcl:=zox (p:=(typV b 0).2) (a:=(typT b 0).data) (k:=(typT b 0).index) hb hl.dp.wt hl.few (by omega) (zrm b 0);rw[show clS b (zbC b 0) ⟨(typT b 0).data,(typT b 0).index⟩ (typV b 0).2=rnL b from rfl] at hcl;generalize rnL b=z at *;refine bd Tryz.f64 22 [] [] fun w0 F0 own kept hk=>?_;refine ab 3003 tz33 ?_;refine ev ?_;refine ab 3005 tz62 ?_;refine tv ?_;refine wd zwJ (hty) rfl rfl ⟨rfl,trivial⟩ ?_;refine ev ?_;refine ab 3007 tz33 ?_;refine ab 3008 tz62 ?_;refine ev ?_;refine so ty33 ?_;refine so ty62 ?_;refine tv ?_;refine Walk.call (cr:=[1]) zwK (hcl) rfl .none rfl rfl (LeL.refl _) ⟨rfl,trivial⟩ rfl rfl rfl ?_;refine evd [] [] ?_;refine so ty33 ?_;refine evd [] [] ?_;refine so ty62 ?_;refine dr ?_;focus (refine rn [(900,some (rdB b z.2)),(1,some (.tok (z.1.map Cl.c).length 9))] (.cons (.tmp rfl) (.cons (.cellA ty33 rfl rfl rfl) (.cons (.tmp rfl) (.cons (.cellA ty62 rfl rfl rfl) .nil)))) (.tup (.cons (.eqd ?_) (.cons (.agg (.cons (.eqd ?_) (.cons (.eqd ?_) .nil))) (.cons (.glg ?_) (.cons (.agg (.cons (.eqd ?_) (.cons (.eqd ?_) (.cons (.eqd ?_) .nil)))) .nil))))) ⟨rfl,rfl⟩ (SubO.get ⟨.inr (by rfl),⟨.inr (by rfl),⟨.inl rfl,trivial⟩⟩⟩) (zav rfl);all_goals (first|rfl|(simp[];done)|(simp_all;done)|(simp_all;omega)|omega))
def dmL (b:Str):List Cl×Nat:=if (rnL b).1.length=0 then rnL b else if zao b (rnL b).2 4=0 then ((rnL b).1++[anyC],(rnL b).2+1) else ((rnL b).1,(rnL b).2+1)
theorem ztS (b:Str):(dmL b).2≤2701∧(dmL b).1.length≤6∧CSm (dmL b).1:=by
 have h:=zuk b;unfold dmL;split
 ·exact⟨by omega,by omega,h.2.2⟩
 ·split
  ·refine⟨by dsimp only;omega,by simp;omega,fun c hc=>?_⟩;rcases List.mem_append.1 hc with hc|hc
   ·exact h.2.2 c hc
   ·rw[List.mem_singleton.1 hc];exact⟨by rw[Pat.size_eq];exact(by decide:1+0≤400),by rw[Pat.ok_iff];exact⟨by simp[anyC,Pat.kids],trivial⟩⟩
  ·exact⟨by dsimp only;omega,by dsimp only;omega,h.2.2⟩
def dmC (b:Str):List Cl:=(mutC b (dmL b).1 (dmL b).2).1
theorem zxO (b:Str):(dmC b).length≤9∧∀c∈dmC b,c.pat.size≤4000∧c.pat.ok:=by
 have h:=ztS b;exact(zwo h.2.2 h.2.1).2
theorem zrX (b:Str):ClsOk (dmC b)∧ClsSz (dmC b):=by
 have h:=zxO b;exact⟨⟨by have:=h.1;omega,fun c hc=>(h.2 c hc).2⟩,fun c hc=>by have:=(h.2 c hc).1;omega⟩
theorem zdN {b:Str} (hb:b.length≤1000000000000):
  FnD Tryz.prog 25 [.d (zb0 b)] [] (.tup [.d (zaj (rcW (b.take 2000))),.agg [.d (.i (rcT (b.take 2000)).data),.d (.i (rcT (b.take 2000)).index)],.d (zbW (dmC (b.take 2000)))]) []:=by
 have hop:=znp hb;have hb2:(b.take 2000).length≤2000:=by rw[List.length_take];omega
 generalize b.take 2000=e at *;have hr:=zuk e;have hd:=ztS e;have hty:=znE hb2;have hpk:=zaR (b:=e) (p:=(rnL e).2) (n:=4) hb2 (by omega) (by omega);have hmu:=zl3 hb2 (l:=(dmL e).1) (q:=(dmL e).2) (by omega) hd.2.1 hd.2.2;have e0:(rnL e).1.length=0→dmL e=rnL e:=fun h=>by unfold dmL;rw[if_pos h]
 have e1:(rnL e).1.length≠0→zao e (rnL e).2 4=0→dmL e=((rnL e).1++[anyC],(rnL e).2+1):=fun h h2=>by unfold dmL;rw[if_neg h,if_pos h2]
 have e2:(rnL e).1.length≠0→zao e (rnL e).2 4≠0→dmL e=((rnL e).1,(rnL e).2+1):=fun h h2=>by unfold dmL;rw[if_neg h,if_neg h2]
 rw[show(mutC e (dmL e).1 (dmL e).2).1=dmC e from rfl] at hmu;generalize (mutC e (dmL e).1 (dmL e).2).2=q1 at *;generalize dmC e=l1 at *;by_cases h0:(rnL e).1.length=0
 ·rw[e0 h0] at hmu;clear e0 e1 e2 hd;generalize rnL e=z at *;refine bd Tryz.f25 37 [] [] fun w0 F0 own kept hk=>?_;refine ab 3003 tz33 ?_;refine ev ?_;refine Walk.call (cr:=[900]) zst (hop) rfl .none rfl rfl (LeL.refl _) trivial rfl (by first|rfl|(simp only[za1,List.all_cons,List.all_nil,zbR,zbB,AV.idsL,AV.ids,zah,zag,xae,List.map_nil];rfl)) (by first|rfl|(simp only[zax,occH,occE,Res.ids,xag,List.nil_append,AV.idsL,AV.ids,zah,zag,zaq,zaK,xae,List.map_nil,upC];rfl)) ?_;refine ev ?_;refine Walk.call (cr:=[1]) zsu (hty) rfl .none rfl rfl (LeL.refl _) ⟨rfl,trivial⟩ rfl rfl rfl ?_;refine ev ?_;refine ab 3007 tz33 ?_;refine ab 3009 tz62 ?_;refine ev ?_;refine so ty33 ?_;refine ev ?_;refine so ty62 ?_;refine tv ?_;refine sq ?_ ?_<;>intro h1 h1p h1s;try simp only[Q,Int.natCast_inj,xac] at h1p
  focus (exfalso;first|omega|(simp at h1p;omega)|(simp_all;done))
  try simp only[Q,Int.natCast_inj,xac] at h1p
  refine sqF ?_;refine Walk.call (cr:=[]) zsv (hmu) rfl .none rfl rfl (.cons (.refl _) (.cons (.gl _ _) .nil)) ⟨rfl,trivial⟩ rfl rfl rfl ?_;refine evd [] [] ?_;refine so ty33 ?_;refine evd [] [] ?_;refine dr ?_;focus (refine rn0 (.cons (.tmp rfl) (.cons (.cellA ty33 rfl rfl rfl) (.cons (.tmp rfl) .nil))) (.tup (.cons (.eqd ?_) (.cons (.agg (.cons (.eqd ?_) (.cons (.eqd ?_) .nil))) (.cons (.eqd ?_) .nil))));all_goals (first|rfl|(simp[h1s,h1p];done)|(simp_all;done)|(simp_all;omega)|omega))
 by_cases h1:zao e (rnL e).2 4=0
 ·rw[e1 h0 h1] at hmu;rw[show zbW ((rnL e).1++[anyC]) = .sl ((rnL e).1.map Cl.c++[Cl.c anyC]) by show D.sl (((rnL e).1++[anyC]).map Cl.c)=_;rw[xaf];rfl] at hmu;clear e0 e1 e2 hd;generalize rnL e=z at *;refine bd Tryz.f25 37 [] [] fun w0 F0 own kept hk=>?_;refine ab 3003 tz33 ?_;refine ev ?_;refine Walk.call (cr:=[900]) zst (hop) rfl .none rfl rfl (LeL.refl _) trivial rfl (by first|rfl|(simp only[za1,List.all_cons,List.all_nil,zbR,zbB,AV.idsL,AV.ids,zah,zag,xae,List.map_nil];rfl)) (by first|rfl|(simp only[zax,occH,occE,Res.ids,xag,List.nil_append,AV.idsL,AV.ids,zah,zag,zaq,zaK,xae,List.map_nil,upC];rfl)) ?_;refine ev ?_;refine Walk.call (cr:=[1]) zsu (hty) rfl .none rfl rfl (LeL.refl _) ⟨rfl,trivial⟩ rfl rfl rfl ?_;refine ev ?_;refine ab 3007 tz33 ?_;refine ab 3009 tz62 ?_;refine ev ?_;refine so ty33 ?_;refine ev ?_;refine so ty62 ?_;refine tv ?_;refine sq ?_ ?_<;>intro h1 h1p h1s;try simp only[Q,Int.natCast_inj,xac] at h1p
  refine Walk.call (cr:=[]) zb9 (hpk) rfl (.some rfl rfl h1) rfl rfl (LeL.refl _) ⟨rfl,trivial⟩ rfl rfl rfl ?_;refine evs [] [(22,true)] ?_ ⟨⟨_,rfl,h1⟩,trivial⟩;refine sq ?_ ?_<;>intro h2 h2p h2s;try simp only[Q,Int.natCast_inj,xac] at h2p
  refine wc zsr (zgR) rfl rfl ?_;refine bu [0] [_] st60 ?_;refine si [0] [_] sl28 tz60 ?_;refine Walk.append sl28 zz60 rfl .none rfl rfl rfl rfl (zdk rfl (by first|rfl|(simp;done)|(simp;omega))) (by intro x hx;simp at hx;subst hx;rfl) (by simp;omega) (by simp;omega) ?_;refine ev ?_;refine Walk.call (cr:=[]) zsv (hmu) rfl .none rfl rfl (.cons (.refl _) (.cons (.gl _ _) .nil)) ⟨rfl,trivial⟩ rfl rfl rfl ?_;refine evd [] [] ?_;refine so ty33 ?_;refine evd [] [] ?_;refine dr ?_;focus (refine rn0 (.cons (.tmp rfl) (.cons (.cellA ty33 rfl rfl rfl) (.cons (.tmp rfl) .nil))) (.tup (.cons (.eqd ?_) (.cons (.agg (.cons (.eqd ?_) (.cons (.eqd ?_) .nil))) (.cons (.eqd ?_) .nil))));all_goals (first|rfl|(simp[h1s,h1p,h2s,h2p];done)|(simp_all;done)|(simp_all;omega)|omega))
  try simp only[Q,Int.natCast_inj,xac] at h2p
  exfalso;first|contradiction|omega|(simp at *;omega)
  try simp only[Q,Int.natCast_inj,xac] at h1p
  focus (exfalso;first|omega|(simp at h1p;omega)|(simp_all;done))
 ·rw[e2 h0 h1] at hmu;clear e0 e1 e2 hd;generalize rnL e=z at *;refine bd Tryz.f25 37 [] [] fun w0 F0 own kept hk=>?_;refine ab 3003 tz33 ?_;refine ev ?_;refine Walk.call (cr:=[900]) zst (hop) rfl .none rfl rfl (LeL.refl _) trivial rfl (by first|rfl|(simp only[za1,List.all_cons,List.all_nil,zbR,zbB,AV.idsL,AV.ids,zah,zag,xae,List.map_nil];rfl)) (by first|rfl|(simp only[zax,occH,occE,Res.ids,xag,List.nil_append,AV.idsL,AV.ids,zah,zag,zaq,zaK,xae,List.map_nil,upC];rfl)) ?_;refine ev ?_;refine Walk.call (cr:=[1]) zsu (hty) rfl .none rfl rfl (LeL.refl _) ⟨rfl,trivial⟩ rfl rfl rfl ?_;refine ev ?_;refine ab 3007 tz33 ?_;refine ab 3009 tz62 ?_;refine ev ?_;refine so ty33 ?_;refine ev ?_;refine so ty62 ?_;refine tv ?_;refine sq ?_ ?_<;>intro h1 h1p h1s;try simp only[Q,Int.natCast_inj,xac] at h1p
  refine Walk.call (cr:=[]) zb9 (hpk) rfl (.some rfl rfl h1) rfl rfl (LeL.refl _) ⟨rfl,trivial⟩ rfl rfl rfl ?_;refine evs [] [(22,true)] ?_ ⟨⟨_,rfl,h1⟩,trivial⟩;refine sq ?_ ?_<;>intro h2 h2p h2s;try simp only[Q,Int.natCast_inj,xac] at h2p
  exfalso;first|contradiction|omega|(simp at *;omega)
  try simp only[Q,Int.natCast_inj,xac] at h2p
  refine Walk.call (cr:=[]) zsv (hmu) rfl .none rfl rfl (.cons (.refl _) (.cons (.gl _ _) .nil)) ⟨rfl,trivial⟩ rfl rfl rfl ?_;refine evd [] [] ?_;refine so ty33 ?_;refine evd [] [] ?_;refine dr ?_;focus (refine rn0 (.cons (.tmp rfl) (.cons (.cellA ty33 rfl rfl rfl) (.cons (.tmp rfl) .nil))) (.tup (.cons (.eqd ?_) (.cons (.agg (.cons (.eqd ?_) (.cons (.eqd ?_) .nil))) (.cons (.eqd ?_) .nil))));all_goals (first|rfl|(simp[h1s,h1p,h2s,h2p];done)|(simp_all;done)|(simp_all;omega)|omega))
  try simp only[Q,Int.natCast_inj,xac] at h1p
  focus (exfalso;first|omega|(simp at h1p;omega)|(simp_all;done))
theorem zjj {w:List Data} (hs:WSmall w){a k:Int}{l:List Cl}{ps:List Pat}{v:Val} (hl:ClsOk l) (hm:zce w ⟨a,k⟩ l=some ps) (hv:isV w ⟨a,k⟩ v=true):
  ps.countP (fun p=>(zck w a k p v).2)=if l.any (zd0 w a k v)=true then 0 else 1:=by
 have h1:=(zio hm).1;have hf:zaS w 10 ⟨a,k⟩ v=true:=by unfold isV at hv;rw[xad] at hv;exact hv.1
 have hc:=zu5 hs hl hm hf;rw[zoK hv (zix h1).1 (zv9 h1),←hc.1];refine List.countP_congr (fun x hx=>?_);obtain⟨h2,h3⟩:=hc.2 x hx;rw[zlp (zix h1).1 h2 hv,zsP h2 h3 hf]
theorem zu6 {w:List Data} (hs:WSmall w){a k:Int}{l:List Cl}{ps:List Pat}{v:Val} (hl:ClsOk l) (hm:zce w ⟨a,k⟩ l=some ps) (hv:isV w ⟨a,k⟩ v=true):
  l.any (zd0 w a k v)=decide (((ps.countP (fun p=>(zck w a k p v).2):Nat):Int)=0):=by
 rw[zjj hs hl hm hv];cases l.any (zd0 w a k v)<;>rfl
theorem zu3 {w:List Data} (hs:WSmall w){a k:Int}{l:List Cl}{ps qs:List Pat}{v:Val}{m:Nat} (hl:ClsOk l) (hm:zce w ⟨a,k⟩ l=some ps) (hq:zce w ⟨a,k⟩ (l.take m)=some qs) (hv:isV w ⟨a,k⟩ v=true):
  ps.countP (fun p=>(zck w a k p v).2)≤qs.countP (fun p=>(zck w a k p v).2):=by
 have hl2:ClsOk (l.take m):=⟨by have:=hl.1;rw[List.length_take];omega,fun c hc=>hl.2 c (List.mem_of_mem_take hc)⟩;rw[zjj hs hl hm hv,zjj hs hl2 hq hv];by_cases h:(l.take m).any (zd0 w a k v)=true
 ·obtain⟨c,hc,h2⟩:=List.any_eq_true.1 h;rw[if_pos h,if_pos (List.any_eq_true.2 ⟨c,List.mem_of_mem_take hc,h2⟩)];omega
 ·rw[if_neg h];split<;>omega
theorem zoe {w:List Data} (hs:WSmall w){a k:Int}{l:List Cl}{ps:List Pat} (hl:ClsOk l) (hm:zce w ⟨a,k⟩ l=some ps):ps.length≤400∧(∀x∈ps,x.ok)∧Spa w∧InS (w.length*4) ⟨a,k⟩:=by
 obtain⟨h1,away,h2,h3,h4⟩:=zio hm;obtain⟨hsp,hin⟩:=zqi hs h1;have hsh:=zhW h1 hl;obtain⟨p1,p2⟩:=zd6 l [] away (fun c hc=>(hsh c hc).1) (by simp) h2;have h5:=zd3 away _ ps (fun x hx=>zej x (List.mem_filter.1 hx).1) (Nat.le_trans (List.length_filter_le _ _) (by simp)) p2 h3;exact⟨h5.1,fun x hx=>(zf2 hsp 11 hin (h5.2 x hx)).1,hsp,hin⟩
theorem zg0 {b c:Str} (hb:b.length≤1000000000000) (hcl:c.length≤1000000000000):FnD Tryz.prog 5 [.d (zb0 b),.d (zb0 c)] [] (.d (.bool true)) []:=by
 have hdr:=zdN hb;have hs:WSmall (rcW (b.take 2000)):=(zgH (b.take 2000) 0).small;have hl:=zrX (b.take 2000);have hi:=zde hs (a:=(rcT (b.take 2000)).data) (k:=(rcT (b.take 2000)).index) hl.1;have hsp:=zeR hs (a:=(rcT (b.take 2000)).data) (k:=(rcT (b.take 2000)).index) hl.1 hl.2;generalize rcW (b.take 2000)=w at *;generalize (rcT (b.take 2000)).data=a at *;generalize (rcT (b.take 2000)).index=k at *;generalize dmC (b.take 2000)=l at *;cases hm:zce w ⟨a,k⟩ l with
 |none=>
  rw[hm] at hi hsp;refine bd Tryz.f5 129 [49,62] [] fun w0 F0 own kept hk=>?_;refine sq ?_ ?_<;>intro h1 h1p h1s;try simp only[Q] at h1p
  refine sqT ?_;refine rn0 (r1 rfl) (.eqd ?_);rotate_left;try simp only[Q] at h1p
  refine sq ?_ ?_<;>intro h3 h3p h3s;try simp only[Q] at h3p
  refine rn0 (r1 rfl) (.eqd ?_);rotate_left;try simp only[Q] at h3p
  refine wc zmn (hdr) rfl rfl ?_;refine evs [49,62] [] ?_;refine ab 3006 tz33 ?_;refine evs [49,62] [] ?_;refine so ty33 ?_;refine evs [49,62] [] ?_;refine wc ziV (hi) rfl rfl ?_;refine evs [49,62] [] ?_;refine wc zmo (hsp) rfl rfl ?_;refine evs [49,62] [] ?_;refine xba un4 .none rfl rfl rfl ?_;refine evs [49,62] [] ?_;refine sq ?_ ?_<;>intro h4 h4p h4s;try simp only[Q] at h4p
  refine sqT ?_;refine sqT ?_;refine xaR un4 .none rfl rfl rfl ?_;refine evs [49,62] [] ?_;refine sq ?_ ?_<;>intro h6 h6p h6s;try simp only[Q] at h6p
  refine Walk.call (cr:=[]) zcF (zaz (l:=[]) (by simp) (by simp)) rfl (.some rfl rfl h6) rfl rfl (LeL.refl _) trivial rfl rfl rfl ?_;refine evs [49,62] [(63,true)] ?_ ⟨⟨_,rfl,h6⟩,trivial⟩;refine rn0 (r1 rfl) (.eqd ?_);rotate_left;try simp only[Q] at h6p
  refine rn0 (r1 rfl) (.eqd ?_);rotate_left;try simp only[Q] at h4p
  refine Walk.call (cr:=[]) zcF (zaz (l:=[]) (by simp) (by simp)) rfl (.some rfl rfl h4) rfl rfl (LeL.refl _) trivial rfl rfl rfl ?_;refine evs [49,62] [(50,false)] ?_ ⟨⟨_,rfl,h4⟩,trivial⟩;refine sq ?_ ?_<;>intro h7 h7p h7s;try simp only[Q] at h7p
  refine sqT ?_;refine xaR un4 .none rfl rfl rfl ?_;refine evs [49,62] [] ?_;refine sq ?_ ?_<;>intro h9 h9p h9s;try simp only[Q] at h9p
  refine Walk.call (cr:=[]) zcF (zaz (l:=[]) (by simp) (by simp)) rfl (.some rfl rfl h9) rfl rfl (LeL.refl _) trivial rfl rfl rfl ?_;refine evs [49,62] [(63,true)] ?_ ⟨⟨_,rfl,h9⟩,trivial⟩;refine rn0 (r1 rfl) (.eqd ?_);rotate_left;try simp only[Q] at h9p
  refine rn0 (r1 rfl) (.eqd ?_);rotate_left;try simp only[Q] at h7p
  refine sq ?_ ?_<;>intro h10 h10p h10s;try simp only[Q] at h10p
  refine xaR un4 .none rfl rfl rfl ?_;refine evs [49,62] [] ?_;refine sq ?_ ?_<;>intro h11 h11p h11s;try simp only[Q] at h11p
  refine Walk.call (cr:=[]) zcF (zaz (l:=[]) (by simp) (by simp)) rfl (.some rfl rfl h11) rfl rfl (LeL.refl _) trivial rfl rfl rfl ?_;refine evs [49,62] [(63,true)] ?_ ⟨⟨_,rfl,h11⟩,trivial⟩;refine rn0 (r1 rfl) (.eqd ?_);rotate_left;try simp only[Q] at h11p
  refine rn0 (r1 rfl) (.eqd ?_);rotate_left;try simp only[Q] at h10p
  focus (exfalso;first|contradiction|(simp at *;done))
  all_goals (first|rfl|contradiction|(exfalso;simp at *;done))
 |some ps=>
  obtain⟨hp1,hp2,hsa,hin⟩:=zoe hs hl.1 hm;rw[hm] at hi hsp;have hmod:0≤((c.map zcE).length:Int) % 3∧((c.map zcE).length:Int) % 3≤2:=by omega
  have hvu:=zgv hs (a:=a) (k:=k) (m:=1+((c.map zcE).length:Int) % 3);have hvl:=zsm w ⟨a,k⟩ (1+((c.map zcE).length:Int) % 3);have hvok:=zuH hs ⟨a,k⟩ (1+((c.map zcE).length:Int) % 3);have hlaw:∀v∈(vut w ⟨a,k⟩ (1+((c.map zcE).length:Int) % 3)).1,l.any (zd0 w a k v)=decide (((ps.countP (fun p=>(zck w a k p v).2):Nat):Int)=0):=fun v hv=>zu6 hs hl.1 hm (zsl hsa hin (by omega) hv).1;generalize (vut w ⟨a,k⟩ (1+((c.map zcE).length:Int) % 3)).1=vs at *;have hl1:=hl.1.1;refine bd Tryz.f5 129 [49,73,128] [] fun w0 F0 own kept hk=>?_;refine sq ?_ ?_<;>intro h1 h1p h1s;try simp only[Q,Int.natCast_inj,Val.cs_len,Pat.cs_len] at h1p
  refine sqT ?_;refine rn0 (r1 rfl) (.eqd ?_);rotate_left;try simp only[Q,Int.natCast_inj,Val.cs_len,Pat.cs_len] at h1p
  refine sq ?_ ?_<;>intro h3 h3p h3s;try simp only[Q,Int.natCast_inj,Val.cs_len,Pat.cs_len] at h3p
  refine rn0 (r1 rfl) (.eqd ?_);rotate_left;try simp only[Q,Int.natCast_inj,Val.cs_len,Pat.cs_len] at h3p
  refine wc zmn (hdr) rfl rfl ?_;refine evs [49,73,128] [] ?_;refine ab 3006 tz33 ?_;refine evs [49,73,128] [] ?_;refine so ty33 ?_;refine evs [49,73,128] [] ?_;refine wc ziV (hi) rfl rfl ?_;refine evs [49,73,128] [] ?_;refine wc zmo (hsp) rfl rfl ?_;refine evs [49,73,128] [] ?_;refine xba un4 .none rfl rfl rfl ?_;refine evs [49,73,128] [] ?_;refine sq ?_ ?_<;>intro h4 h4p h4s;try simp only[Q,Int.natCast_inj,Val.cs_len,Pat.cs_len] at h4p
  refine sqT ?_;refine sqT ?_;focus (exfalso;first|contradiction|(simp at *;done))
  try simp only[Q,Int.natCast_inj,Val.cs_len,Pat.cs_len] at h4p
  refine Walk.call (cr:=[]) zcF (zaz (l:=ps) (by omega) hp2) rfl (.some rfl rfl h4) rfl rfl (LeL.refl _) trivial rfl rfl rfl ?_;refine evs [49,73,128] [(50,false)] ?_ ⟨⟨_,rfl,h4⟩,trivial⟩;refine sq ?_ ?_<;>intro h6 h6p h6s;try simp only[Q,Int.natCast_inj,Val.cs_len,Pat.cs_len] at h6p
  refine sqT ?_;focus (exfalso;first|contradiction|(simp at *;done))
  try simp only[Q,Int.natCast_inj,Val.cs_len,Pat.cs_len] at h6p
  refine sq ?_ ?_<;>intro h8 h8p h8s;try simp only[Q,Int.natCast_inj,Val.cs_len,Pat.cs_len] at h8p
  focus (exfalso;first|contradiction|(simp at *;done))
  try simp only[Q,Int.natCast_inj,Val.cs_len,Pat.cs_len] at h8p
  refine xbh .none rfl rfl rfl (by omega) ?_;refine evs [49,73,128] [] ?_;refine ar ?_;refine wc zsp (hvu) rfl rfl ?_;refine evs [49,73,128] [] ?_;refine xaj (ι:=List (Val)×List (Val)) hk (fun x=>[(14,.d (.i (x.1.length:Int)))]) [4,15,16,17,18,78,79,80,81,82,83,84,85,86,87,88,89,90,91,92,93,94,95,96,97,98,99,100,101,102,103,104,105,106,107,108,109,110,111,112,113,114,115,116,117,118,119,120,121,122,123,124,125,126,127,128] (fun x=>[]) (fun x=>x.1++x.2=vs) (fun x=>x.2.length) ([],vs) (by simp) ⟨⟨_,rfl,xap ?_⟩,trivial⟩ trivial (fun x=>rfl) (fun x hg1=>?_);focus (first|rfl|(simp;done)|(simp_all;done)|omega)
  obtain⟨pre,rest⟩:=x;dsimp only at hg1 ⊢;refine evc [49,73,128] [] ?_;refine sq ?_ ?_<;>intro h9 h9p h9s;try simp only[Q,Int.natCast_inj,Val.cs_len,Pat.cs_len] at h9p
  rcases rest with _|⟨v,rest⟩
  ·exfalso;simp_all
  refine xaj (ι:=List (Cl)×List (Cl)) hk (fun x=>[(16,.d (.i (x.1.length:Int))),(15,.d (.bool (x.1.any (zd0 w a k v))))]) [17,18,84,85,86,87,88,89,90,91,92,93,94,95,96,97,98,99,100,101,102,103,104,105,106,107,108,109,110,111,112,113,114,115,116,117] (fun x=>[]) (fun x=>x.1++x.2=l) (fun x=>x.2.length) ([],l) (by simp) ⟨⟨_,rfl,xap ?_⟩,⟨⟨_,rfl,xao ?_⟩,trivial⟩⟩ trivial (fun x=>rfl) (fun x hg2=>?_);iterate 2 focus (first|rfl|(simp;done)|(simp_all[zd0,List.any_append];done)|omega)
  obtain⟨pre2,rest2⟩:=x;dsimp only at hg2 ⊢;refine evc [49,73,128] [] ?_;refine sq ?_ ?_<;>intro h10 h10p h10s;try simp only[Q,Int.natCast_inj,Val.cs_len,Pat.cs_len] at h10p
  rcases rest2 with _|⟨y,rest2⟩
  ·exfalso;simp_all
  refine xaV sl28 .none rfl rfl rfl rfl (zaE hg2) rfl ?_;refine evd [49,73,128] [] ?_;refine xaV sl49 .none rfl rfl rfl rfl (Val.cs_at hg1) rfl ?_;refine evd [49,73,128] [] ?_;refine wc zvA (zfu hs (hl.1.2 y (by rw[←hg2];simp)) (hvok v (by rw[←hg1];simp))) rfl rfl ?_;refine evd [49,73,128] [] ?_;refine dr ?_;refine sq ?_ ?_<;>intro h11 h11p h11s;try simp only[Q,Int.natCast_inj,Val.cs_len,Pat.cs_len] at h11p
  refine ar ?_;refine Exists.intro ((pre2++[y],rest2)) ⟨(by have hz:=hg2;rw[←hz];simp),(by simp),sx ⟨⟨_,rfl,xap ?_⟩,⟨⟨_,rfl,xao ?_⟩,trivial⟩⟩ trivial⟩;iterate 2 focus (first|rfl|(simp;done)|(simp_all[zd0,List.any_append];done)|omega)
  try simp only[Q,Int.natCast_inj,Val.cs_len,Pat.cs_len] at h11p
  refine sq ?_ ?_<;>intro h12 h12p h12s;try simp only[Q,Int.natCast_inj,Val.cs_len,Pat.cs_len] at h12p
  refine xaV sl28 (.some rfl rfl h12) rfl rfl rfl rfl (zaE hg2) rfl ?_;refine evs [49,73,128] [(106,false),(108,true)] ?_ ⟨⟨_,rfl,h11⟩,⟨_,rfl,h12⟩,trivial⟩;refine ar ?_;refine Exists.intro ((pre2++[y],rest2)) ⟨(by have hz:=hg2;rw[←hz];simp),(by simp),sx ⟨⟨_,rfl,xap ?_⟩,⟨⟨_,rfl,xao ?_⟩,trivial⟩⟩ trivial⟩;iterate 2 focus (first|rfl|(simp;done)|(simp_all[zd0,List.any_append];done)|omega)
  try simp only[Q,Int.natCast_inj,Val.cs_len,Pat.cs_len] at h12p
  refine ar ?_;refine Exists.intro ((pre2++[y],rest2)) ⟨(by have hz:=hg2;rw[←hz];simp),(by simp),sx ⟨⟨_,rfl,xap ?_⟩,⟨⟨_,rfl,xao ?_⟩,trivial⟩⟩ trivial⟩;iterate 2 focus (first|rfl|(simp;done)|(simp_all[zd0,List.any_append];done)|omega)
  try simp only[Q,Int.natCast_inj,Val.cs_len,Pat.cs_len] at h10p
  have hrest2:rest2=[]:=by
   rcases rest2 with _|⟨a,b⟩
   ·rfl
   ·exfalso;have hz:=congrArg List.length (hg2);simp only[xaa,xab,xac] at hz;omega
  subst hrest2;refine xaV sl49 .none rfl rfl rfl rfl (Val.cs_at hg1) rfl ?_;refine evd [49,73,128] [] ?_;refine wc zsq (zeT hs (l:=ps) (by omega) hp2 (hvok v (by rw[←hg1];simp))) rfl rfl ?_;refine evd [49,73,128] [] ?_;refine xba un4 .none rfl rfl rfl ?_;refine dr ?_;refine sq ?_ ?_<;>intro h13 h13p h13s;try simp only[Q,Int.natCast_inj,Val.cs_len,Pat.cs_len] at h13p
  focus (exfalso;rw[List.append_nil] at hg2;subst hg2;have hlw:=hlaw v (by rw[←hg1];simp);first|(simp[hlw] at h13p;done)|(simp_all;done))
  try simp only[Q,Int.natCast_inj,Val.cs_len,Pat.cs_len] at h13p
  refine ar ?_;refine Exists.intro ((pre++[v],rest)) ⟨(by have hz:=hg1;rw[←hz];simp),(by simp),sx ⟨⟨_,rfl,xap ?_⟩,trivial⟩ trivial⟩;focus (first|rfl|(simp;done)|(simp_all;done)|omega)
  try simp only[Q,Int.natCast_inj,Val.cs_len,Pat.cs_len] at h9p
  have hrest:rest=[]:=by
   rcases rest with _|⟨a,b⟩
   ·rfl
   ·exfalso;have hz:=congrArg List.length (hg1);simp only[xaa,xab,xac] at hz;omega
  subst hrest;refine rn0 (r1 rfl) (.eqd ?_);rotate_left;all_goals (first|rfl|contradiction|(exfalso;simp at *;done))
end Go.Proofs.YtcnjkjdmbnhcaaaGreat
namespace Go.Proofs.YtcnjkjdmbnhcaaaGreat
open Go Go.ChangeShapes Go.WideShapes Go.ChangeAt Go.RowKit
set_option linter.unusedSimpArgs false
set_option linter.unusedVariables false
set_option linter.unusedVariables false
def FW (W:World) (b:Nat):Nat:=match W.heap[b]? with
 |some (.cells cs _ _)=>cs.size
 |_=>0
theorem FW_cell {W:World}{b o:Nat}{v:Value} (h:W.cell? ⟨b,o,none⟩=some v):o<FW W b:=by
 unfold World.cell? at h;unfold FW;simp only at h;split at h
 ·rename_i c t fr hb;simp only[hb];simp only[Option.isSome_none,Bool.false_eq_true,if_false] at h;exact(Array.getElem?_eq_some_iff.1 h).1
 ·cases h
theorem FW_top {W:World}{b:Nat} (h:W.heap.size≤b):FW W b=0:=by
 unfold FW;rw[Array.getElem?_eq_none h]
structure RelL (W:World) (xs:List D) (cs:List Value):Prop where
 len:xs.length=cs.length
 rel:∀i (h1:i<xs.length) (h2:i<cs.length),RelD (FW W) W xs[i] cs[i]
theorem RelL.append {W:World}{xs ys:List D}{cs ds:List Value} (h:RelL W xs cs) (k:RelL W ys ds):RelL W (xs++ys) (cs++ds):=by
 refine⟨by simp[h.len,k.len],fun i h1 h2=>?_⟩;by_cases hi:i<xs.length
 ·rw[List.getElem_append_left hi,List.getElem_append_left (by rw[←h.len];exact hi)];exact h.rel i hi (by rw[←h.len];exact hi)
 ·have hl:=h.len;rw[List.getElem_append_right (by omega),List.getElem_append_right (by omega)];have e:i-xs.length=i-cs.length:=by omega
  have h1':i-xs.length<ys.length:=by simp only[xaa] at h1;omega
  have h2':i-cs.length<ds.length:=by simp only[xaa] at h2;omega
  have:=k.rel (i-xs.length) h1' (by omega);simp only[e] at this ⊢;exact this
def Dec (P:Program) (W:World) (n:Nat) (t:TypeId){α:Type} (f:α→List D) (m:α→Nat) (R:α→Prop):Prop:=
 ∀(H:Type) (enc:TypeId×Value→H) (cs:List Value) (x:DataW H×List MemPlace),DataW.trod enc P W 0 (fun _=>true) true n t cs=some x→
  ∃a,RelL W (f a) cs∧m a+1≤Rows.uptoBulk x.1∧R a
section
variable {P:Program}{W:World}{n:Nat}{t:TypeId}
theorem Dec.zero {α:Type}{f:α→List D}{m:α→Nat}{R:α→Prop}:Dec P W 0 t f m R:=fun H enc cs x h=>by simp[DataW.trod] at h
theorem Dec.map {α β:Type}{f:α→List D}{m:α→Nat}{R:α→Prop}{f':β→List D}{m':β→Nat}{R':β→Prop} (g:α→β) (h:Dec P W n t f m R)
  (h1:∀a,f' (g a)=f a) (h2:∀a,m' (g a)≤m a) (h3:∀a,R a→R' (g a)):Dec P W n t f' m' R':=fun H enc cs x hx=>by
 obtain⟨a,q1,q2,q3⟩:=h H enc cs x hx;exact⟨g a,by rw[h1];exact q1,by have:=h2 a;omega,h3 a q3⟩
theorem RelL.one {x:D}{v:Value} (h:RelD (FW W) W x v):RelL W [x] [v]:=
 ⟨rfl,fun i h1 h2=>by
  have:i=0:=by simp at h1;omega
  subst this;exact h⟩
theorem Dec.int {k:IntKind} (ht:P.underlying t=some (.int k)):Dec P W n t (fun z:Int=>[.int k z]) (fun _=>0) (fun z=>(Lit.int k z).wf=true):=fun H enc cs x h=>by
 obtain⟨z,rfl,rfl,hw⟩:=DataW.trod_int ht h;exact⟨z,.one (.int k z),by simp[Rows.uptoBulk],hw⟩
theorem Dec.bool (ht:P.underlying t=some .bool):Dec P W n t (fun z:Bool=>[.bool z]) (fun _=>0) (fun _=>True):=fun H enc cs x h=>by
 obtain⟨z,rfl,rfl⟩:=DataW.trod_bool ht h;exact⟨z,.one (.bool z),by simp[Rows.uptoBulk],trivial⟩
theorem Dec.str (ht:P.underlying t=some .string):Dec P W n t (fun s:Str=>[.str s]) (fun s=>s.length) (fun _=>True):=fun H enc cs x h=>by
 obtain⟨s,rfl,rfl,hw⟩:=DataW.trod_string ht h;exact⟨s.data.toList,.one (by have:=RelD.str (F:=FW W) (w:=W) s.data.toList;simpa using this),by simp[Rows.uptoBulk],trivial⟩
def sumM {α:Type} (m:α→Nat):List α→Nat
 | []=>0
 |a::r=>m a+1+sumM m r
theorem zhQ {α:Type} (m:α→Nat):∀l:List α,l.length≤sumM m l
 | []=>by simp[sumM]
 |a::r=>by have:=zhQ m r;simp only[sumM,xab];omega
theorem zld {α β:Type}{Q:Nat→α→β→Prop}:∀(l:List β) (o:Nat),(∀i (h:i<l.length),∃a,Q (o+i) a l[i])→∃zs:List α,zs.length=l.length∧∀i (h:i<l.length) (h':i<zs.length),Q (o+i) zs[i] l[i]
 | [],o,_=>⟨[],rfl,fun i h=>by simp at h⟩
 |b::r,o,h=>by
  obtain⟨a,ha⟩:=h 0 (by simp);obtain⟨zs,h1,h2⟩:=zld (Q:=Q) r (o+1) (fun i hi=>by
   have:=h (i+1) (by simp;omega);rw[show o+1+i=o+(i+1) by omega];simpa using this)
  refine⟨a::zs,by simp[h1],fun i hi hi'=>?_⟩;cases i with
  |zero=>exact ha
  |succ i=>
   have:=h2 i (by simpa using hi) (by simpa using hi');rw[show o+1+i=o+(i+1) by omega] at this;simpa using this
theorem zp2 {H α:Type}{m:α→Nat}:∀ {zs:List α}{xs:List (DataW H)},zs.length=xs.length→(∀i (h:i<zs.length) (h':i<xs.length),m zs[i]+1≤Rows.uptoBulk xs[i])→sumM m zs≤Rows.uptoBulkAll xs
 | [],[],_,_=>by simp[sumM,Rows.uptoBulkAll]
 |a::zs,x::xs,hl,h=>by
  have h0:=h 0 (by simp) (by simp);have ih:=zp2 (m:=m) (zs:=zs) (xs:=xs) (by simpa using hl) (fun i h1 h2=>by
   have:=h (i+1) (by simp;omega) (by simp;omega);simpa using this)
  simp only[sumM,Rows.uptoBulkAll];simp only[List.getElem_cons_zero] at h0;omega
 | [],_::_,hl,_=>by simp at hl
 |_::_,[],hl,_=>by simp at hl
theorem Dec.sl {α:Type}{f:α→List D}{m:α→Nat}{R:α→Prop}{e:TypeId}{k:Nat} (ht:P.underlying t=some (.slice e)) (hc:P.cellsOf e=k+1) (hk:∀a,(f a).length=k+1) (he:Dec P W n e f m R):
  Dec P W (n+1) t (fun l:List α=>[.sl (l.map f)]) (fun l=>sumM m l) (fun l=>∀a∈l,R a):=fun H enc cs x h=>by
 rcases DataW.trod_slice ht h with ⟨rfl,rfl⟩|⟨a,len,cap,elems,rest,n',hn,rfl,rfl,_,hcap,_,hlen,hel,_,_⟩
 ·exact⟨[],.one .nil,by simp[sumM,Rows.uptoBulk],fun a h=>by simp at h⟩
 obtain rfl:n=n':=by omega
 have each:∀i (hi:i<elems.length),∃y,(∃cs,W.cells? 0 (a.add (i*(k+1))) (k+1)=some cs∧RelL W (f y) cs)∧m y+1≤Rows.uptoBulk (elems[i]).1∧R y:=by
  intro i hi;have:=hel i (by omega);rw[hc,List.getElem?_eq_getElem hi,Option.bind_eq_some_iff] at this;obtain⟨cs,h1,h2⟩:=this;obtain⟨y,h3,h4,h5⟩:=he H enc cs _ h2;exact⟨y,⟨cs,h1,h3⟩,h4,h5⟩
 obtain⟨zs,hal,has⟩:=zld (Q:=fun i y (el:DataW H×List MemPlace)=>(∃cs,W.cells? 0 (a.add (i*(k+1))) (k+1)=some cs∧RelL W (f y) cs)∧m y+1≤Rows.uptoBulk el.1∧R y) elems 0 (fun i hi=>by simpa using each i hi);refine⟨zs,.one ?_, ?_,fun y hy=>?_⟩
 ·by_cases h0:zs=[]
  ·subst h0;have hz:len=0:=by simp at hal;omega
   subst hz;obtain⟨b,o,s⟩:=a;cases s with
   |none=>exact .sl [] 0 b o cap (fun _=>undef) (by simp) (by simp) (fun n hn=>by simp at hn) (fun i hi=>by simp at hi)
   |some s=>exact .emp b o s cap
  ·have hpos:0<zs.length:=List.length_pos_iff.2 h0;obtain⟨⟨cs0,hc0,hr0⟩,_⟩:=has 0 (by omega) hpos;have hspot:a.spot=none:=by
    have h1:=(World.cells?_some hc0).2.2 0 (by omega);have h2:0<cs0.length:=by have:=(World.cells?_some hc0).2.1;omega
    simp only[Nat.add_zero,Nat.zero_mul,Addr.add,if_true,List.getElem?_eq_getElem h2] at h1;unfold World.cell? at h1;split at h1
    ·cases hs:a.spot with
     |none=>rfl
     |some s=>simp[hs] at h1
    ·cases h1
   obtain⟨b,o,s⟩:=a;simp only at hspot;subst hspot;have hlen':(zs.map f).length=len:=by simp;omega
   have hmulk:∀i j,i<zs.length→j<k+1→i*(k+1)+j<zs.length*(k+1):=fun i j hi hj=>by
    have:(i+1)*(k+1)≤zs.length*(k+1):=Nat.mul_le_mul_right _ (by omega);rw[Nat.add_mul,Nat.one_mul] at this;omega
   have cellAt:∀i (hi:i<zs.length) j (hj:j<(f zs[i]).length),∃v,W.cell? ⟨b,o+(i*(k+1)+j),none⟩=some v∧RelD (FW W) W ((f zs[i])[j]) v:=fun i hi j hj=>by
    obtain⟨⟨cs,hc1,hr1⟩,_⟩:=has i (by omega) hi;have hjk:j<k+1:=by have:=hk zs[i];omega
    obtain⟨_,q1,q2⟩:=World.cells?_some hc1;have q3:=q2 j hjk;rw[List.getElem?_eq_getElem (by omega)] at q3;refine⟨cs[j], ?_,hr1.rel j hj (by omega)⟩;rw[←q3];congr 1
    simp only[Nat.zero_add,Addr.add];split<;>split<;>simp_all<;>omega
   have hv:((zs.map f).length,cap)=(len,cap):=by rw[hlen']
   have goal:RelD (FW W) W (.sl (zs.map f)) (.slice (some ⟨b,o,none⟩) (zs.map f).length cap):=by
    refine .sl _ (k+1) b o cap (fun q=>(W.cell? ⟨b,o+q,none⟩).getD undef) (fun y hy=>?_) (by omega) (fun q hq=>?_) (fun i hi j hj=>?_)
    ·obtain⟨y',_,rfl⟩:=List.mem_map.1 hy;exact hk y'
    ·have hq':q<zs.length*(k+1):=by simpa using hq
     have hi:q / (k+1)<zs.length:=Nat.div_lt_of_lt_mul (by rw[Nat.mul_comm];exact hq');have hj:q % (k+1)<k+1:=Nat.mod_lt _ (by omega);obtain⟨v,h1,_⟩:=cellAt _ hi (q % (k+1)) (by rw[hk];exact hj);rw[Nat.div_add_mod'] at h1;exact⟨FW_cell h1,by rw[h1];rfl⟩
    ·have hi':i<zs.length:=by simpa using hi
     simp only[List.getElem_map] at hj ⊢;obtain⟨v,h1,h2⟩:=cellAt i hi' j hj;show RelD (FW W) W _ ((W.cell? ⟨b,o+(i*(k+1)+j),none⟩).getD undef)
     rw[h1];exact h2
   rw[hlen'] at goal;exact goal
 ·have:=zp2 (m:=m) (zs:=zs) (xs:=elems.map (·.1)) (by simp[hal]) (fun i h1 h2=>by
   have:=(has i (by simpa using h2) h1).2.1;simpa using this)
  simp only[Rows.uptoBulk];omega
 ·obtain⟨i,hi,rfl⟩:=List.getElem_of_mem hy;exact(has i (by omega) hi).2.2
def DecF (P:Program) (W:World) (n o K:Nat) (fs:List Field){α:Type} (f:α→List D) (m:α→Nat) (R:α→Prop):Prop:=
 ∀(H:Type) (enc:TypeId×Value→H) (cs:List Value) (xs:List (DataW H×List MemPlace)),cs.length=K→xs.length=fs.length→
  (∀(i:Nat) (fd:Field),fs[i]?=some fd→DataW.trod enc P W 0 (fun _=>true) true n fd.type ((cs.drop fd.offset).take (P.cellsOf fd.type))=xs[i]?)→
  ∃a,RelL W (f a) (cs.drop o)∧m a≤Rows.uptoBulkAll (xs.map (·.1))∧R a
theorem DecF.nil {K:Nat}:DecF P W n K K [] (fun _:Unit=>[]) (fun _=>0) (fun _=>True):=fun H enc cs xs h1 h2 _=>
 ⟨(),by rw[List.drop_of_length_le (by omega)];exact⟨rfl,fun i h=>by simp at h⟩,by simp,trivial⟩
theorem DecF.cons {α β:Type}{f:α→List D}{m:α→Nat}{R:α→Prop}{f2:β→List D}{m2:β→Nat}{R2:β→Prop}{o K k:Nat}{fd:Field}{fs:List Field}
  (h1:Dec P W n fd.type f m R) (ho:fd.offset=o) (hc:P.cellsOf fd.type=k) (h2:DecF P W n (o+k) K fs f2 m2 R2):
  DecF P W n o K (fd::fs) (fun p:α×β=>f p.1++f2 p.2) (fun p=>m p.1+1+m2 p.2) (fun p=>R p.1∧R2 p.2):=fun H enc cs xs hK hl hx=>by
 cases xs with
 |nil=>simp at hl
 |cons y ys=>
  have h0:=hx 0 fd (by simp);simp only[List.getElem?_cons_zero] at h0;rw[ho,hc] at h0;obtain⟨a,q1,q2,q3⟩:=h1 H enc _ _ h0;obtain⟨b,r1,r2,r3⟩:=h2 H enc cs ys hK (by simpa using hl) (fun i fd' hi=>by
   have:=hx (i+1) fd' (by simpa using hi);simpa using this)
  refine⟨(a,b), ?_, ?_,q3,r3⟩
  ·have:cs.drop o=(cs.drop o).take k++cs.drop (o+k):=by
    rw[←List.drop_drop,List.take_append_drop]
   rw[this];exact q1.append r1
  ·simp only[xae,Rows.uptoBulkAll];omega
theorem Dec.struct {α:Type}{f:α→List D}{m:α→Nat}{R:α→Prop}{fs:Array Field} (ht:P.underlying t=some (.struct fs)){K:Nat} (hK:P.cellsOf t=K) (h:DecF P W n 0 K fs.toList f m R):
  Dec P W (n+1) t f m R:=fun H enc cs x hx=>by
 obtain⟨xs,n',hn,rfl,hl,hxl,hf⟩:=DataW.trod_struct ht hx;obtain rfl:n=n':=by omega
 obtain⟨a,q1,q2,q3⟩:=h H enc cs xs (by omega) (by simpa using hxl) (fun i fd hi=>hf i fd (by simpa using hi));refine⟨a,by simpa using q1, ?_,q3⟩;simp only[Rows.uptoBulk];omega
end
section
variable {P:Program}{W:World}{base:Nat}{t:TypeId}{v:Value}{H:Type}{enc:TypeId×Value→H}{d:DataW H}{ps:List MemPlace}
theorem zme {α:Type}{e:TypeId}{f:α→List D}{m:α→Nat}{R:α→Prop}{k:Nat} (ht:P.underlying t=some (.slice e)) (hc:P.cellsOf e=k+1) (hk:∀a,(f a).length=k+1) (hd:∀n,Dec P W n e f m R)
  (hval:Value.okWide P W .any base t v) (h:DataW.Trod enc P W 0 (fun _=>true) true t v d ps):
  ∃l:List α,(∀G T,G.F=FW W→RelA G T W (.d (.sl (l.map f))) v)∧sumM m l+1≤Rows.uptoBulk d∧∀a∈l,R a:=by
 obtain⟨n,hn⟩:=h;cases n with
 |zero=>simp[DataW.trod] at hn
 |succ n=>
  obtain⟨l,h1,h2,h3⟩:=Dec.sl ht hc hk (hd n) H enc _ _ hn;have hcells:v.cells.toList=[v]:=by
   cases v with
   |agg cs=>simp only[Value.okWide,ht,Cell.okWide,Cell.ok] at hval
   |_=>rfl
  rw[hcells] at h1;exact⟨l,fun G T hG=> .d (by rw[hG];simpa using h1.rel 0 (by simp) (by simp)),h2,h3⟩
end
section
variable {P:Program}{H:Type}{enc:TypeId×Value→H}
theorem zjD (hl:laidOutB P=true){W W':World} (hb:Below W.heap.size W W'):∀ {ts:List TypeId}{vs:List Value}{ds:List (DataW H)}{ps:List MemPlace},
  (∀t∈ts,P.readableRec t=true∧t<P.types.size)→DataW.TrodAll enc P W 0 (fun _=>true) true ts vs ds ps→(∀x∈ps,x.block<W.heap.size)→
  DataW.TrodAll enc P W' 0 (fun b=>decide (b<W.heap.size)) true ts vs ds ps
 | [],[],[],ps,_,h,_=>h
 |t::ts,v::vs,d::ds,ps,hr,h,hlt=>by
  obtain⟨p,q,h1,h2,rfl⟩:=h;exact⟨p,q,Below.trod hl (hr t (by simp)).1 (hr t (by simp)).2 h1 hb (fun x hx=>hlt x (by simp[hx])),
   zjD hl hb (fun t ht=>hr t (by simp[ht])) h2 (fun x hx=>hlt x (by simp[hx])),rfl⟩
theorem zqJ {f:Func}{s:ChangeSpec}{W W':World}{args:Array Value}{ds gs:List (DataW H)}{before:List MemPlace}{tb:TypeId}
  (hW:DataW.Whole enc P f.params.toList s.vars false W args.toList ds gs before) (hvars:s.vars=[]) (hrt:f.resultTypes = #[tb]) (htb:P.underlying tb=some .bool)
  (hs:s.fn H (ds++gs)={ results:=[.lit (.bool true)],args:=ds }) (hl:laidOutB P=true) (hr:∀t∈f.params.toList,P.readableRec t=true∧t<P.types.size)
  (hb:Below W.heap.size W W'):s.post enc P f false true false false W args (.bool true) W':=by
 have hlt:∀p∈before,p.block<W.heap.size:=fun p hp=>hW.lt p hp;have hW0:=hW;obtain⟨p,q,hA,hV,rfl,hfz,_⟩:=hW;rw[hvars] at hV;cases gs with
 |cons g gs=>exact hV.elim
 |nil=>
  have hq:q=[]:=hV;subst hq;simp only[List.append_nil] at *;refine⟨ds,[],p,[],p,[],by simpa [hvars] using hW0, ?_, ?_, ?_,World.keptBut_mono (fun x hx=>⟨hx,.inr (.inl hx)⟩) (hb.frame (·∈p)),fun h=>by cases h⟩
  ·simp only[List.append_nil,hs,hrt];exact trodAll_cons_mk (shut_bool htb _) trodAll_mk0
  ·simp only[List.append_nil,hs];exact zjD hl hb hr hA hlt
  ·simp only[hvars,List.append_nil,hs];rfl
theorem zo0 {f:FuncId}{avs:List AV}{W:World}{args:Array Value}{r:AV} (hf:FnD P f avs [] r [])
  (hargs:∀G T,G.F=FW W→AllR G T W avs args):Calls P f args W fun e W'=>∃v G',e = .returned v∧RelA G' (fun _=>none) W' r v∧Below W.heap.size W W':=by
 let G:Gh:={ F:=FW W,loc:=fun _=>[] }
 refine(hf G W args ⟨hargs G _ rfl,fun id r h=>(by simp[getH] at h),fun id id' h=>(by simp[getH] at h),fun b hb=>FW_top hb⟩).mono ?_;rintro e W' ⟨v,r',hp',G',rfl,⟨rfl,rfl⟩,h⟩
 exact⟨v,G',rfl,h.res,⟨h.frm.os,h.frm.tape,h.frm.output,h.frm.size,fun b hb=>(h.frm.block b hb (by simp[zc6])).1⟩⟩
theorem RelA.bool_true {G:Gh}{T:TokF}{w:World}{v:Value} (h:RelA G T w (.d (.bool true)) v):v = .bool true:=by
 cases h with|d h=>cases h;rfl
theorem zp1 {H:Type}{l:List (DataW H)} (hk:Rows.uptoSmall H l=true):Rows.uptoBulkAll l≤1048576:=of_decide_eq_true hk
end
end Go.Proofs.YtcnjkjdmbnhcaaaGreat
namespace Go.Proofs.YtcnjkjdmbnhcaaaGreat
open Go Go.ChangeShapes Go.WideShapes Go.ChangeAt Go.RowKit
set_option linter.unusedSimpArgs false
set_option linter.unusedVariables false
set_option maxRecDepth 100000
theorem zkT (W:World) (n:Nat):Dec Tryz.prog W n 5 (fun x:UInt8=>[D.int .u8 (x.toNat:Int)]) (fun _=>0) (fun _=>True):=fun H enc cs x hx=>by
 obtain⟨z,q1,q2,q3⟩:=Dec.int (k:= .u8) Tryz.underlying5 H enc cs x hx;have h:0≤z∧z≤255:=by
  simp[Lit.wf,IntKind.wrap,IntKind.signed,IntKind.bits,IntKind.min,IntKind.max] at q3;omega
 refine⟨UInt8.ofNat z.toNat, ?_,q2,trivial⟩;have e:(((UInt8.ofNat z.toNat).toNat:Nat):Int)=z:=by
  rw[UInt8.toNat_ofNat',Nat.mod_eq_of_lt (by omega)];omega
 show RelL W [D.int .u8 (((UInt8.ofNat z.toNat).toNat:Nat):Int)] cs
 rw[e];exact q1
end Go.Proofs.YtcnjkjdmbnhcaaaGreat
namespace Go.Proofs.YtcnjkjdmbnhcaaaGreat
open Go
set_option linter.unusedSimpArgs false
set_option linter.unusedVariables false
set_option maxRecDepth 100000
set_option maxHeartbeats 2000000
theorem ziF {b c:Str} (hb:b.length≤1000000000000) (hcl:c.length≤1000000000000):FnD Tryz.prog 6 [.d (zb0 b),.d (zb0 c)] [] (.d (.bool true)) []:=by
 have hdr:=zdN hb;have hs:WSmall (rcW (b.take 2000)):=(zgH (b.take 2000) 0).small;have hl:=zrX (b.take 2000);have hi:=zde hs (a:=(rcT (b.take 2000)).data) (k:=(rcT (b.take 2000)).index) hl.1;have hsp:=zeR hs (a:=(rcT (b.take 2000)).data) (k:=(rcT (b.take 2000)).index) hl.1 hl.2;generalize rcW (b.take 2000)=w at *;generalize (rcT (b.take 2000)).data=a at *;generalize (rcT (b.take 2000)).index=k at *;generalize dmC (b.take 2000)=l at *;cases hm:zce w ⟨a,k⟩ l with
 |none=>
  rw[hm] at hi hsp;refine bd Tryz.f6 118 [47,65] [] fun w0 F0 own kept hk=>?_;refine sq ?_ ?_<;>intro h1 h1p h1s;try simp only[Q] at h1p
  refine sqT ?_;refine rn0 (r1 rfl) (.eqd ?_);rotate_left;try simp only[Q] at h1p
  refine sq ?_ ?_<;>intro h3 h3p h3s;try simp only[Q] at h3p
  refine rn0 (r1 rfl) (.eqd ?_);rotate_left;try simp only[Q] at h3p
  refine wc zmn (hdr) rfl rfl ?_;refine evs [47,65] [] ?_;refine ab 3006 tz33 ?_;refine evs [47,65] [] ?_;refine so ty33 ?_;refine evs [47,65] [] ?_;refine wc ziV (hi) rfl rfl ?_;refine evs [47,65] [] ?_;refine wc zmo (hsp) rfl rfl ?_;refine evs [47,65] [] ?_;refine xba un4 .none rfl rfl rfl ?_;refine evs [47,65] [] ?_;refine sq ?_ ?_<;>intro h4 h4p h4s;try simp only[Q] at h4p
  refine sqT ?_;refine sqT ?_;refine sqT ?_;refine xaR un4 .none rfl rfl rfl ?_;refine evs [47,65] [] ?_;refine sq ?_ ?_<;>intro h6 h6p h6s;try simp only[Q] at h6p
  refine Walk.call (cr:=[]) zcF (zaz (l:=[]) (by simp) (by simp)) rfl (.some rfl rfl h6) rfl rfl (LeL.refl _) trivial rfl rfl rfl ?_;refine evs [47,65] [(66,true)] ?_ ⟨⟨_,rfl,h6⟩,trivial⟩;refine rn0 (r1 rfl) (.eqd ?_);rotate_left;try simp only[Q] at h6p
  refine rn0 (r1 rfl) (.eqd ?_);rotate_left;try simp only[Q] at h4p
  refine Walk.call (cr:=[]) zcF (zaz (l:=[]) (by simp) (by simp)) rfl (.some rfl rfl h4) rfl rfl (LeL.refl _) trivial rfl rfl rfl ?_;refine evs [47,65] [(48,false)] ?_ ⟨⟨_,rfl,h4⟩,trivial⟩;refine sq ?_ ?_<;>intro h7 h7p h7s;try simp only[Q] at h7p
  refine sqT ?_;refine sqT ?_;refine xaR un4 .none rfl rfl rfl ?_;refine evs [47,65] [] ?_;refine sq ?_ ?_<;>intro h9 h9p h9s;try simp only[Q] at h9p
  refine Walk.call (cr:=[]) zcF (zaz (l:=[]) (by simp) (by simp)) rfl (.some rfl rfl h9) rfl rfl (LeL.refl _) trivial rfl rfl rfl ?_;refine evs [47,65] [(66,true)] ?_ ⟨⟨_,rfl,h9⟩,trivial⟩;refine rn0 (r1 rfl) (.eqd ?_);rotate_left;try simp only[Q] at h9p
  refine rn0 (r1 rfl) (.eqd ?_);rotate_left;try simp only[Q] at h7p
  refine sq ?_ ?_<;>intro h10 h10p h10s;try simp only[Q] at h10p
  refine sqT ?_;refine xaR un4 .none rfl rfl rfl ?_;refine evs [47,65] [] ?_;refine sq ?_ ?_<;>intro h12 h12p h12s;try simp only[Q] at h12p
  refine Walk.call (cr:=[]) zcF (zaz (l:=[]) (by simp) (by simp)) rfl (.some rfl rfl h12) rfl rfl (LeL.refl _) trivial rfl rfl rfl ?_;refine evs [47,65] [(66,true)] ?_ ⟨⟨_,rfl,h12⟩,trivial⟩;refine rn0 (r1 rfl) (.eqd ?_);rotate_left;try simp only[Q] at h12p
  refine rn0 (r1 rfl) (.eqd ?_);rotate_left;try simp only[Q] at h10p
  refine sq ?_ ?_<;>intro h13 h13p h13s;try simp only[Q] at h13p
  refine xaR un4 .none rfl rfl rfl ?_;refine evs [47,65] [] ?_;refine sq ?_ ?_<;>intro h14 h14p h14s;try simp only[Q] at h14p
  refine Walk.call (cr:=[]) zcF (zaz (l:=[]) (by simp) (by simp)) rfl (.some rfl rfl h14) rfl rfl (LeL.refl _) trivial rfl rfl rfl ?_;refine evs [47,65] [(66,true)] ?_ ⟨⟨_,rfl,h14⟩,trivial⟩;refine rn0 (r1 rfl) (.eqd ?_);rotate_left;try simp only[Q] at h14p
  refine rn0 (r1 rfl) (.eqd ?_);rotate_left;try simp only[Q] at h13p
  focus (exfalso;first|contradiction|(simp at *;done))
  all_goals (first|rfl|contradiction|(exfalso;simp at *;done))
 |some ps=>
  obtain⟨hp1,hp2,hsa,hin⟩:=zoe hs hl.1 hm;rw[hm] at hi hsp;have hmod:0≤((c.map zcE).length:Int) % 3∧((c.map zcE).length:Int) % 3≤2:=by omega
  have hvu:=zgv hs (a:=a) (k:=k) (m:=1+((c.map zcE).length:Int) % 3);have hvl:=zsm w ⟨a,k⟩ (1+((c.map zcE).length:Int) % 3);have hvok:=zuH hs ⟨a,k⟩ (1+((c.map zcE).length:Int) % 3);have hl1:=hl.1.1;have hl2:ClsOk (l.take (l.length-1)):=⟨by have:=hl.1.1;rw[List.length_take];omega,fun c hc=>hl.1.2 c (List.mem_of_mem_take hc)⟩;have hi2:=zde hs (a:=a) (k:=k) hl2;rw[show zbW (l.take (l.length-1)) = .sl ((l.map Cl.c).take (l.length-1)) by rw[←List.map_take]] at hi2;cases hq:zce w ⟨a,k⟩ (l.take (l.length-1)) with
  |none=>
   rw[hq] at hi2;generalize (vut w ⟨a,k⟩ (1+((c.map zcE).length:Int) % 3)).1=vs at *;refine bd Tryz.f6 118 [47,65,87] [] fun w0 F0 own kept hk=>?_;refine sq ?_ ?_<;>intro h1 h1p h1s;try simp only[Q,Int.natCast_inj,Val.cs_len,Pat.cs_len] at h1p
   refine sqT ?_;refine rn0 (r1 rfl) (.eqd ?_);rotate_left;try simp only[Q,Int.natCast_inj,Val.cs_len,Pat.cs_len] at h1p
   refine sq ?_ ?_<;>intro h3 h3p h3s;try simp only[Q,Int.natCast_inj,Val.cs_len,Pat.cs_len] at h3p
   refine rn0 (r1 rfl) (.eqd ?_);rotate_left;try simp only[Q,Int.natCast_inj,Val.cs_len,Pat.cs_len] at h3p
   refine wc zmn (hdr) rfl rfl ?_;refine evs [47,65,87] [] ?_;refine ab 3006 tz33 ?_;refine evs [47,65,87] [] ?_;refine so ty33 ?_;refine evs [47,65,87] [] ?_;refine wc ziV (hi) rfl rfl ?_;refine evs [47,65,87] [] ?_;refine wc zmo (hsp) rfl rfl ?_;refine evs [47,65,87] [] ?_;refine xba un4 .none rfl rfl rfl ?_;refine evs [47,65,87] [] ?_;refine sq ?_ ?_<;>intro h4 h4p h4s;try simp only[Q,Int.natCast_inj,Val.cs_len,Pat.cs_len] at h4p
   refine sqT ?_;refine sqT ?_;refine sqT ?_;try simp at HP
   refine xaR un4 .none rfl rfl rfl ?_;refine evs [47,65,87] [] ?_;refine sq ?_ ?_<;>intro h6 h6p h6s;try simp only[Q,Int.natCast_inj,Val.cs_len,Pat.cs_len] at h6p
   refine Walk.call (cr:=[]) zcF (zaz (l:=ps) (by omega) hp2) rfl (.some rfl rfl h6) rfl rfl (LeL.refl _) trivial rfl rfl rfl ?_;refine evs [47,65,87] [(66,true)] ?_ ⟨⟨_,rfl,h6⟩,trivial⟩;refine rn0 (r1 rfl) (.eqd ?_);rotate_left;try simp only[Q,Int.natCast_inj,Val.cs_len,Pat.cs_len] at h6p
   refine rn0 (r1 rfl) (.eqd ?_);rotate_left;try simp only[Q,Int.natCast_inj,Val.cs_len,Pat.cs_len] at h4p
   refine Walk.call (cr:=[]) zcF (zaz (l:=ps) (by omega) hp2) rfl (.some rfl rfl h4) rfl rfl (LeL.refl _) trivial rfl rfl rfl ?_;refine evs [47,65,87] [(48,false)] ?_ ⟨⟨_,rfl,h4⟩,trivial⟩;refine sq ?_ ?_<;>intro h7 h7p h7s;try simp only[Q,Int.natCast_inj,Val.cs_len,Pat.cs_len] at h7p
   refine sqT ?_;refine sqT ?_;try simp at HP
   refine xaR un4 .none rfl rfl rfl ?_;refine evs [47,65,87] [] ?_;refine sq ?_ ?_<;>intro h9 h9p h9s;try simp only[Q,Int.natCast_inj,Val.cs_len,Pat.cs_len] at h9p
   refine Walk.call (cr:=[]) zcF (zaz (l:=ps) (by omega) hp2) rfl (.some rfl rfl h9) rfl rfl (LeL.refl _) trivial rfl rfl rfl ?_;refine evs [47,65,87] [(66,true)] ?_ ⟨⟨_,rfl,h9⟩,trivial⟩;refine rn0 (r1 rfl) (.eqd ?_);rotate_left;try simp only[Q,Int.natCast_inj,Val.cs_len,Pat.cs_len] at h9p
   refine rn0 (r1 rfl) (.eqd ?_);rotate_left;try simp only[Q,Int.natCast_inj,Val.cs_len,Pat.cs_len] at h7p
   refine sq ?_ ?_<;>intro h10 h10p h10s;try simp only[Q,Int.natCast_inj,Val.cs_len,Pat.cs_len] at h10p
   refine sqT ?_;try simp at HP
   refine xaR un4 .none rfl rfl rfl ?_;refine evs [47,65,87] [] ?_;refine sq ?_ ?_<;>intro h12 h12p h12s;try simp only[Q,Int.natCast_inj,Val.cs_len,Pat.cs_len] at h12p
   refine Walk.call (cr:=[]) zcF (zaz (l:=ps) (by omega) hp2) rfl (.some rfl rfl h12) rfl rfl (LeL.refl _) trivial rfl rfl rfl ?_;refine evs [47,65,87] [(66,true)] ?_ ⟨⟨_,rfl,h12⟩,trivial⟩;refine rn0 (r1 rfl) (.eqd ?_);rotate_left;try simp only[Q,Int.natCast_inj,Val.cs_len,Pat.cs_len] at h12p
   refine rn0 (r1 rfl) (.eqd ?_);rotate_left;try simp only[Q,Int.natCast_inj,Val.cs_len,Pat.cs_len] at h10p
   refine sq ?_ ?_<;>intro h13 h13p h13s;try simp only[Q,Int.natCast_inj,Val.cs_len,Pat.cs_len] at h13p
   try simp at h13p
   refine xaR un4 .none rfl rfl rfl ?_;refine evs [47,65,87] [] ?_;refine sq ?_ ?_<;>intro h14 h14p h14s;try simp only[Q,Int.natCast_inj,Val.cs_len,Pat.cs_len] at h14p
   refine Walk.call (cr:=[]) zcF (zaz (l:=ps) (by omega) hp2) rfl (.some rfl rfl h14) rfl rfl (LeL.refl _) trivial rfl rfl rfl ?_;refine evs [47,65,87] [(66,true)] ?_ ⟨⟨_,rfl,h14⟩,trivial⟩;refine rn0 (r1 rfl) (.eqd ?_);rotate_left;try simp only[Q,Int.natCast_inj,Val.cs_len,Pat.cs_len] at h14p
   refine rn0 (r1 rfl) (.eqd ?_);rotate_left;try simp only[Q,Int.natCast_inj,Val.cs_len,Pat.cs_len] at h13p
   refine ar ?_;refine xaP (b:=(l.length-1)) sl28 .none rfl rfl rfl (by exact zqh _) rfl (by simp;omega) (by rw[xac];omega) ?_;refine wc ziV (hi2) rfl rfl ?_;refine evd [47,65,87] [] ?_;refine dr ?_;refine xbh .none rfl rfl rfl (by omega) ?_;refine evs [47,65,87] [] ?_;refine ar ?_;refine wc zsp (hvu) rfl rfl ?_;refine evs [47,65,87] [] ?_;refine xaj (ι:=Unit) hk (fun x=>[(16,.d (.i 0))]) [4,92,93,94,95,96,97,98,99,100,101,102,103,104,105,106,107,108,109,110,111,112,113,114,115,116,117] (fun x=>[]) (fun x=>True) (fun x=>0) () trivial ⟨⟨_,rfl,xap ?_⟩,trivial⟩ trivial (fun x=>rfl) (fun x hg1=>?_);focus (first|rfl|(simp;done)|(simp_all;done)|omega)
   refine evc [47,65,87] [] ?_;refine sq ?_ ?_<;>intro h15 h15p h15s;try simp only[Q,Int.natCast_inj,Val.cs_len,Pat.cs_len] at h15p
   refine sq ?_ ?_<;>intro h16 h16p h16s;try simp only[Q,Int.natCast_inj,Val.cs_len,Pat.cs_len] at h16p
   exfalso;simp at h16;try simp only[Q,Int.natCast_inj,Val.cs_len,Pat.cs_len] at h16p
   refine rn0 (r1 rfl) (.eqd ?_);rotate_left;try simp only[Q,Int.natCast_inj,Val.cs_len,Pat.cs_len] at h15p
   refine sqF ?_;refine rn0 (r1 rfl) (.eqd ?_);rotate_left;all_goals (first|rfl|contradiction|(exfalso;simp at *;done))
  |some qs=>
   obtain⟨hq1,hq2,_,_⟩:=zoe hs hl2 hq;rw[hq] at hi2;have hlaw:∀v∈(vut w ⟨a,k⟩ (1+((c.map zcE).length:Int) % 3)).1,ps.countP (fun p=>(zck w a k p v).2)≤qs.countP (fun p=>(zck w a k p v).2):=fun v hv=>zu3 hs hl.1 hm hq (zsl hsa hin (by omega) hv).1;generalize (vut w ⟨a,k⟩ (1+((c.map zcE).length:Int) % 3)).1=vs at *;refine bd Tryz.f6 118 [47,65,87] [] fun w0 F0 own kept hk=>?_;refine sq ?_ ?_<;>intro h1 h1p h1s;try simp only[Q,Int.natCast_inj,Val.cs_len,Pat.cs_len] at h1p
   refine sqT ?_;refine rn0 (r1 rfl) (.eqd ?_);rotate_left;try simp only[Q,Int.natCast_inj,Val.cs_len,Pat.cs_len] at h1p
   refine sq ?_ ?_<;>intro h3 h3p h3s;try simp only[Q,Int.natCast_inj,Val.cs_len,Pat.cs_len] at h3p
   refine rn0 (r1 rfl) (.eqd ?_);rotate_left;try simp only[Q,Int.natCast_inj,Val.cs_len,Pat.cs_len] at h3p
   refine wc zmn (hdr) rfl rfl ?_;refine evs [47,65,87] [] ?_;refine ab 3006 tz33 ?_;refine evs [47,65,87] [] ?_;refine so ty33 ?_;refine evs [47,65,87] [] ?_;refine wc ziV (hi) rfl rfl ?_;refine evs [47,65,87] [] ?_;refine wc zmo (hsp) rfl rfl ?_;refine evs [47,65,87] [] ?_;refine xba un4 .none rfl rfl rfl ?_;refine evs [47,65,87] [] ?_;refine sq ?_ ?_<;>intro h4 h4p h4s;try simp only[Q,Int.natCast_inj,Val.cs_len,Pat.cs_len] at h4p
   refine sqT ?_;refine sqT ?_;refine sqT ?_;refine xaR un4 .none rfl rfl rfl ?_;refine evs [47,65,87] [] ?_;refine sq ?_ ?_<;>intro h6 h6p h6s;try simp only[Q,Int.natCast_inj,Val.cs_len,Pat.cs_len] at h6p
   refine Walk.call (cr:=[]) zcF (zaz (l:=ps) (by omega) hp2) rfl (.some rfl rfl h6) rfl rfl (LeL.refl _) trivial rfl rfl rfl ?_;refine evs [47,65,87] [(66,true)] ?_ ⟨⟨_,rfl,h6⟩,trivial⟩;refine rn0 (r1 rfl) (.eqd ?_);rotate_left;try simp only[Q,Int.natCast_inj,Val.cs_len,Pat.cs_len] at h6p
   refine rn0 (r1 rfl) (.eqd ?_);rotate_left;try simp only[Q,Int.natCast_inj,Val.cs_len,Pat.cs_len] at h4p
   refine Walk.call (cr:=[]) zcF (zaz (l:=ps) (by omega) hp2) rfl (.some rfl rfl h4) rfl rfl (LeL.refl _) trivial rfl rfl rfl ?_;refine evs [47,65,87] [(48,false)] ?_ ⟨⟨_,rfl,h4⟩,trivial⟩;refine sq ?_ ?_<;>intro h7 h7p h7s;try simp only[Q,Int.natCast_inj,Val.cs_len,Pat.cs_len] at h7p
   refine sqT ?_;refine sqT ?_;refine xaR un4 .none rfl rfl rfl ?_;refine evs [47,65,87] [] ?_;refine sq ?_ ?_<;>intro h9 h9p h9s;try simp only[Q,Int.natCast_inj,Val.cs_len,Pat.cs_len] at h9p
   refine Walk.call (cr:=[]) zcF (zaz (l:=ps) (by omega) hp2) rfl (.some rfl rfl h9) rfl rfl (LeL.refl _) trivial rfl rfl rfl ?_;refine evs [47,65,87] [(66,true)] ?_ ⟨⟨_,rfl,h9⟩,trivial⟩;refine rn0 (r1 rfl) (.eqd ?_);rotate_left;try simp only[Q,Int.natCast_inj,Val.cs_len,Pat.cs_len] at h9p
   refine rn0 (r1 rfl) (.eqd ?_);rotate_left;try simp only[Q,Int.natCast_inj,Val.cs_len,Pat.cs_len] at h7p
   refine sq ?_ ?_<;>intro h10 h10p h10s;try simp only[Q,Int.natCast_inj,Val.cs_len,Pat.cs_len] at h10p
   refine sqT ?_;refine xaR un4 .none rfl rfl rfl ?_;refine evs [47,65,87] [] ?_;refine sq ?_ ?_<;>intro h12 h12p h12s;try simp only[Q,Int.natCast_inj,Val.cs_len,Pat.cs_len] at h12p
   refine Walk.call (cr:=[]) zcF (zaz (l:=ps) (by omega) hp2) rfl (.some rfl rfl h12) rfl rfl (LeL.refl _) trivial rfl rfl rfl ?_;refine evs [47,65,87] [(66,true)] ?_ ⟨⟨_,rfl,h12⟩,trivial⟩;refine rn0 (r1 rfl) (.eqd ?_);rotate_left;try simp only[Q,Int.natCast_inj,Val.cs_len,Pat.cs_len] at h12p
   refine rn0 (r1 rfl) (.eqd ?_);rotate_left;try simp only[Q,Int.natCast_inj,Val.cs_len,Pat.cs_len] at h10p
   refine sq ?_ ?_<;>intro h13 h13p h13s;try simp only[Q,Int.natCast_inj,Val.cs_len,Pat.cs_len] at h13p
   refine xaR un4 .none rfl rfl rfl ?_;refine evs [47,65,87] [] ?_;refine sq ?_ ?_<;>intro h14 h14p h14s;try simp only[Q,Int.natCast_inj,Val.cs_len,Pat.cs_len] at h14p
   refine Walk.call (cr:=[]) zcF (zaz (l:=ps) (by omega) hp2) rfl (.some rfl rfl h14) rfl rfl (LeL.refl _) trivial rfl rfl rfl ?_;refine evs [47,65,87] [(66,true)] ?_ ⟨⟨_,rfl,h14⟩,trivial⟩;refine rn0 (r1 rfl) (.eqd ?_);rotate_left;try simp only[Q,Int.natCast_inj,Val.cs_len,Pat.cs_len] at h14p
   refine rn0 (r1 rfl) (.eqd ?_);rotate_left;try simp only[Q,Int.natCast_inj,Val.cs_len,Pat.cs_len] at h13p
   refine ar ?_;refine xaP (b:=(l.length-1)) sl28 .none rfl rfl rfl (by exact zqh _) rfl (by simp;omega) (by rw[xac];omega) ?_;refine wc ziV (hi2) rfl rfl ?_;refine evd [47,65,87] [] ?_;refine dr ?_;refine xbh .none rfl rfl rfl (by omega) ?_;refine evs [47,65,87] [] ?_;refine ar ?_;refine wc zsp (hvu) rfl rfl ?_;refine evs [47,65,87] [] ?_;refine xaj (ι:=List (Val)×List (Val)) hk (fun x=>[(16,.d (.i (x.1.length:Int)))]) [4,92,93,94,95,96,97,98,99,100,101,102,103,104,105,106,107,108,109,110,111,112,113,114,115,116,117] (fun x=>[]) (fun x=>x.1++x.2=vs) (fun x=>x.2.length) ([],vs) (by simp) ⟨⟨_,rfl,xap ?_⟩,trivial⟩ trivial (fun x=>rfl) (fun x hg1=>?_);focus (first|rfl|(simp;done)|(simp_all;done)|omega)
   obtain⟨pre,rest⟩:=x;dsimp only at hg1 ⊢;refine evc [47,65,87] [] ?_;refine sq ?_ ?_<;>intro h15 h15p h15s;try simp only[Q,Int.natCast_inj,Val.cs_len,Pat.cs_len] at h15p
   refine sq ?_ ?_<;>intro h16 h16p h16s;try simp only[Q,Int.natCast_inj,Val.cs_len,Pat.cs_len] at h16p
   rcases rest with _|⟨v,rest⟩
   ·exfalso;simp_all
   refine xaV sl49 .none rfl rfl rfl rfl (Val.cs_at hg1) rfl ?_;refine evd [47,65,87] [] ?_;refine wc zsq (zeT hs (l:=ps) (by omega) hp2 (hvok v (by rw[←hg1];simp))) rfl rfl ?_;refine evd [47,65,87] [] ?_;refine xaV sl49 .none rfl rfl rfl rfl (Val.cs_at hg1) rfl ?_;refine evd [47,65,87] [] ?_;refine wc zsq (zeT hs (l:=qs) (by omega) hq2 (hvok v (by rw[←hg1];simp))) rfl rfl ?_;refine evd [47,65,87] [] ?_;refine dr ?_;refine sq ?_ ?_<;>intro h17 h17p h17s;try simp only[Q,Int.natCast_inj,Val.cs_len,Pat.cs_len] at h17p
   exfalso;have hlw:=hlaw v (by rw[←hg1];simp);omega;try simp only[Q,Int.natCast_inj,Val.cs_len,Pat.cs_len] at h17p
   refine ar ?_;refine Exists.intro ((pre++[v],rest)) ⟨(by have hz:=hg1;rw[←hz];simp),(by simp),sx ⟨⟨_,rfl,xap ?_⟩,trivial⟩ trivial⟩;focus (first|rfl|(simp;done)|(simp_all;done)|omega)
   try simp only[Q,Int.natCast_inj,Val.cs_len,Pat.cs_len] at h16p
   have hrest:rest=[]:=(by rcases rest with _|⟨a,b⟩;exact rfl;exfalso;first|contradiction|(have hz:=congrArg List.length (hg1);simp only[xaa,xab,xac] at hz;omega));subst hrest;refine rn0 (r1 rfl) (.eqd ?_);rotate_left;try simp only[Q,Int.natCast_inj,Val.cs_len,Pat.cs_len] at h15p
   refine sqF ?_;have hrest:rest=[]:=(by rcases rest with _|⟨a,b⟩;exact rfl;exfalso;first|contradiction|(have hz:=congrArg List.length (hg1);simp only[xaa,xab,xac] at hz;omega));subst hrest;refine rn0 (r1 rfl) (.eqd ?_);rotate_left;all_goals (first|rfl|contradiction|(exfalso;simp at *;done))
end Go.Proofs.YtcnjkjdmbnhcaaaGreat
