/-
  THE ABSTRACT WALK AND THE WALKS, part 4 of 5: the parts G9, G10, F173, F70, G3, F71, F72, F73, F179, G11, G12, F178, F174, F61, F30, F63, F180, G4, F74, F75, F76, F77, F78, F18, F19, F31, F32, F33, F34, F35, F36, F37, F38, F79, F59, F80, F81, F110, F113, F181, F182, F186, G13, G14, F187, F188, F183, F184, F189, G15.
-/
import Derived.Test.YtmchfdpleibpdaaGreatU603
namespace Go.Proofs.YtmchfdpleibpdaaGreat
open Go
set_option linter.unusedSimpArgs false
set_option linter.unusedVariables false
section
variable {c:Ctx}{env:Env}{hp:Hp}{K:Kt}{code:Code}{ids:List Nat}
theorem R.mcGv {G:Gh}{a:Act}{w:World} (hr:R c G ⟨env,hp⟩ a w) (hkp:KeptIn c.kept ids){id id2 n k cap:Nat}{xs:List (List D)}{cs:List AV}{v:Value} (hid:zaJ id ids=false) (hv:RelA G (tokf hp) w (.mc id n cap) v) (hb:getH hp id=some (.box cs))
  (hn:n=xs.length) (hkx:∀x,x∈xs->x.length=k) (hl:cs.length=cap*k) (hc:cs.take (n*k)=xs.flatten.map .d) (hf:zaq env hp [id2]=true):
  ∃G',R c G' ⟨env,(id2,some (.tok n k))::(id,none)::hp⟩ a w/\RelA G' (tokf ((id2,some (.tok n k))::(id,none)::hp)) w (.gv id2 xs) v:=by
 obtain⟨h0,hocc⟩:=zbk hf id2 og;have h0':getH hp id2=none:=h0;have hne:id2≠id:=fun e=>by subst e;rw[h0'] at hb;cases hb
 obtain⟨b1,hl1,hv0,hcap⟩:=hv.mc_eq;have s1:(getH hp id).isSome:=by rw[hb];rfl
 obtain⟨b,us,et,e1,e3,e4,e7,e8⟩:=hr.heap id _ hb;have hbb:b1=b:=zcK hl1.1 e1;subst hbb;have hbd:=(hr.heap id _ hb).bound;let G':Gh:={ F:=G.F,loc:=fun i=>bif Nat.beq i id2 then [b1] else G.loc i }
 have l1:G'.loc id2=[b1]:=by simp[G']
 have l3:∀i,i≠id2->G'.loc i=G.loc i:=fun i h2=>by simp[G',zcp h2]
 have hFb:G'.F b1=0:=e7;have hout:∀x,G'.F x=G.F x:=fun _=>rfl;have g1:getH ((id2,some (Res.tok n k))::(id,none)::hp) id2=some (.tok n k):=by rw[zad,if_pos rfl]
 have g2:getH ((id2,some (Res.tok n k))::(id,none)::hp) id=none:=by rw[zad,if_neg (Ne.symm hne),zad,if_pos rfl]
 have t2:tokf ((id2,some (Res.tok n k))::(id,none)::hp) id=none:=by unfold tokf;rw[g2]
 have t1:tokf ((id2,some (Res.tok n k))::(id,none)::hp) id2=some (n,k):=zak.2 g1;have hfle:∀x o,o<G.F x->o<G'.F x:=fun _ _ ho=>ho;have hturn:Turn c G ⟨env,hp⟩ w G' ((id2,some (.tok n k))::(id,none)::hp) [id,id2]:=by
  refine⟨fun i hi=>?_,fun i hi=>?_,fun x hx=>?_,hfle,fun x hx=>?_,fun i hi=>?_,fun i hi hs x hx=>?_,fun i hi j hj hij h1 h2 x hx=>?_,fun i hi l hl=>?_⟩
  ·simp only[List.mem_cons,xau,or_false,not_or] at hi;rw[zad,if_neg hi.2,zad,if_neg hi.1]
  ·simp only[List.mem_cons,xau,or_false,not_or] at hi;exact l3 i hi.2
  ·exact hout x
  ·exact hr.top x hx
  ·simp only[List.mem_cons,xau,or_false] at hi;rcases hi with rfl|rfl
   ·exact .inr ⟨.inl (l3 i (Ne.symm hne)),fun p hp=>by rw[t2] at hp;cases hp⟩
   ·exact .inl hocc
  ·simp only[List.mem_cons,xau,or_false] at hi;rcases hi with rfl|rfl
   ·rw[g2] at hs;cases hs
   ·rw[l1] at hx;exact⟨id,by simp,s1,by rw[e1];exact hx⟩
  ·simp only[List.mem_cons,xau,or_false] at hi hj;rcases hi with rfl|rfl
   ·rw[g2] at h1;cases h1
   ·rcases hj with rfl|rfl
    ·rw[g2] at h2;cases h2
    ·exact absurd Z hij
  ·simp only[List.mem_cons,xau,or_false] at hi;have hk0:=hr.kept i l hl;rcases hi with rfl|rfl
   ·have:=zav.2 (hkp.mem i l hl);rw[this] at hid;cases hid
   ·have:=hk0.2.1;rw[show(⟨env,hp⟩:St).hp=hp from rfl,h0'] at this;cases this
 refine⟨G',hturn.fin hr (fun i hi r hri=>?_), ?_⟩
 ·simp only[List.mem_cons,xau,or_false] at hi;rcases hi with rfl|rfl
  ·rw[g2] at hri;cases hri
  ·rw[g1] at hri;cases hri
   intro b hb;rw[l1] at hb;exact hbd b (by rw[e1];exact hb)
 ·rw[hv0];have hle:n*k<=cap*k:=xav _ hcap;refine .gv ⟨_,cap,by rw[hn]⟩ (fun n' k' hT=>?_);rw[t1] at hT;cases hT;refine⟨by omega,fun _=>⟨hkx,.inr ⟨b1,cap,us,et,l1,rfl,hFb,e3,by omega,hcap,fun i hi j hj=>?_⟩⟩⟩;subst hn;have hj':j<k:=by rw[<-hkx _ (xao hi)];exact hj
  have hq:i*k+j<xs.length*k:=zeX hi hj';have hcs:i*k+j<cs.length:=by omega
  have hus:i*k+j<us.size:=by omega
  have h9:=e8 (i*k+j) hcs hus;have e9:cs[i*k+j]?=some (.d (xs[i][j]'hj)):=by
   have:=zdw hkx hi hj';rw[<-hc,List.getElem?_take_of_lt hq] at this;exact this
  rw[xan hcs] at e9;rw[Option.some.inj e9] at h9;have e2:us.getD (i*k+j) undef=us[i*k+j]:=by simp[Array.getD,hus]
  rw[e2];exact h9.d_inv
theorem CWp.mcGv (hkp:KeptIn c.kept ids) (t id id2 k:Nat){n cap:Nat}{xs:List (List D)}{cs:List AV} (ht:getE env t=some (.mc id n cap)) (hb:getH hp id=some (.box cs)) (hid:zaJ id ids=false)
  (hn:n=xs.length) (hkx:∀x,x∈xs->x.length=k) (hl:cs.length=cap*k) (hc:cs.take (n*k)=xs.flatten.map .d) (hf:zaq env hp [id2]=true)
  (hx:CWp c code ⟨(t,.gv id2 xs)::env,(id2,some (.tok n k))::(id,none)::hp⟩ K):CWp c code ⟨env,hp⟩ K:=by
 rintro a w ⟨G,hr⟩
 obtain⟨G',h1,h2⟩:=hr.mcGv hkp hid (hr.slots t _ ht) hb hn hkx hl hc hf;exact hx a w ⟨G',h1.slot h2⟩
end
theorem RelA.gv_move {G G':Gh}{T T':TokF}{w:World}{i j n k:Nat}{xs:List (List D)}{v:Value} (h:RelA G T w (.gv i xs) v) (hT:T i=some (n,k)) (hF:G'.F=G.F) (hl:G'.loc j=G.loc i) (hT':T' j=some (n,k)):RelA G' T' w (.gv j xs) v:=by
 obtain⟨hv,ht⟩:=h.gv_inv;refine .gv hv (fun n' k' he=>?_);rw[hT'] at he;cases he
 obtain⟨h1,h2⟩:=ht _ _ hT;refine⟨h1,fun hn=>?_⟩;obtain⟨h3,h4⟩:=h2 hn;refine⟨h3, ?_⟩;rcases h4 with ⟨a1,a2,a3⟩|⟨b,cap,cs,e,a1,a2,a3,a4,a5,a6,a7⟩
 ·exact .inl ⟨hl.trans a1,a2,a3⟩
 ·exact .inr ⟨b,cap,cs,e,hl.trans a1,a2,by rw[hF];exact a3,a4,a5,a6,fun q hq r hr=>(a7 q hq r hr).mono (fun x o ho=>⟨by rw[hF];exact ho,Z⟩)⟩
section
variable {c:Ctx}{env:Env}{hp:Hp}{K:Kt}{code:Code}
theorem xaG (t j i:Nat){n k:Nat}{ys:List (List D)} (ht:getE env t=some (.gv j ys)) (hi:getH hp i=none) (hj:getH hp j=some (.tok n k)) (o1:occH i hp=false) (o2:occH j hp=false)
  (hn:CWp c code ⟨(t,.gv i ys)::zdL i j env,(i,some (.tok n k))::(j,none)::hp⟩ K):CWp c code ⟨env,hp⟩ K:=by
 rintro a w ⟨G,hr⟩
 have hne:i≠j:=fun e=>by subst e;rw[hi] at hj;cases hj
 let hp':Hp:=(i,some (.tok n k))::(j,none)::hp
 let G':Gh:={ G with loc:=fun x=>bif Nat.beq x i then G.loc j else G.loc x }
 have l1:G'.loc i=G.loc j:=by simp[G']
 have l2:∀x,x≠i->G'.loc x=G.loc x:=fun x h=>by simp[G',zcp h]
 have g1:getH hp' i=some (.tok n k):=by simp[hp',getH]
 have g2:getH hp' j=none:=by
  show getH ((i,some (.tok n k))::(j,none)::hp) j=none
  rw[zad,if_neg (fun e=>hne e.symm),zad,if_pos rfl]
 have g3:∀x,x≠i->x≠j->getH hp' x=getH hp x:=fun x h1 h2=>by
  show getH ((i,some (.tok n k))::(j,none)::hp) x=_
  rw[zad,if_neg h1,zad,if_neg h2]
 have hTj:tokf hp j=some (n,k):=zak.2 hj;have hTi:tokf hp' i=some (n,k):=zak.2 g1;have hm:∀ {x:AV}{v:Value},i∉x.ids->j∉x.ids->RelA G (tokf hp) w x v->RelA G' (tokf hp') w x v:=fun hx1 hx2 hx=>
  hx.mono (fun _ _ ho=>⟨ho,rfl⟩) (fun id hid=> .inl (l2 id (fun e=>hx1 (e ▸ hid)))) (fun id hid p hp2=>⟨by
   have e1:id≠i:=fun e=>hx1 (e ▸ hid);have e2:id≠j:=fun e=>hx2 (e ▸ hid);unfold tokf at hp2 ⊢;rw[g3 id e1 e2] at hp2;exact hp2,fun _ _=>⟨Z,Z⟩⟩)
 have cases3:∀x (r:Res),getH hp' x=some r->(x=i/\r = .tok n k)\/(x≠i/\x≠j/\getH hp x=some r):=fun x r h=>by
  by_cases e1:x=i
  ·subst e1;rw[g1] at h;cases h;exact .inl ⟨Z,Z⟩
  ·by_cases e2:x=j
   ·subst e2;rw[g2] at h;cases h
   ·rw[g3 x e1 e2] at h;exact .inr ⟨e1,e2,h⟩
 have src:∀x,(getH hp' x).isSome->∃y,(getH hp y).isSome/\G'.loc x=G.loc y/\(y=j/\x=i\/y=x/\x≠j/\x≠i):=fun x h=>by
  obtain⟨r,hx⟩:=Option.isSome_iff_exists.1 h;rcases cases3 x r hx with ⟨rfl,_⟩|⟨e1,e2,h3⟩
  ·exact⟨j,by rw[hj];rfl,l1,.inl ⟨rfl,rfl⟩⟩
  ·exact⟨x,by rw[h3];rfl,l2 x e1,.inr ⟨rfl,e2,e1⟩⟩
 have nocc:∀ {id x:Nat}{r:Res},occH id hp=false->getH hp x=some r->id∉r.ids:=fun h1 h2=>zeG h1 _ _ (zcf h2);refine hn a w ⟨G',hr.size,hr.defers,fun x v hx=>?_,fun x r hx=>?_,fun x y h1 h2 hxy b hb=>?_,fun x h1 b hb=>?_,hr.frm,hr.top,fun x l hl=>?_⟩
 ·have hx':getE ((t,.gv i ys)::zdL i j env) x=some v:=hx;simp only[getE] at hx';cases hb:Nat.beq t x with
  |true=>
   have:=xap hb;subst this;simp only[hb,cond_true,xae] at hx';subst hx';exact(hr.slots t _ ht).gv_move hTj rfl l1 hTi
  |false=>
   simp only[hb,cond_false] at hx';obtain⟨u,h1,h2⟩:=zgK hx';rcases h2 with rfl|⟨rfl,h3,h4⟩
   ·exact .any _
   ·exact hm h3 h4 (hr.slots x _ h1)
 ·rcases cases3 x r hx with ⟨rfl,rfl⟩|⟨e1,e2,h3⟩
  ·intro b hb;rw[l1] at hb;exact hr.heap j _ hj b hb
  ·have hh:=hr.heap x r h3;have n1:=nocc o1 h3;have n2:=nocc o2 h3;cases r with
   |box cs=>
    obtain⟨b,us,e,e1',e2',e3,e4,e5⟩:=hh;exact⟨b,us,e,(l2 x e1).trans e1',e2',e3,e4,fun q hq hv=>hm (fun hid=>n1 (xay (xao hq) hid)) (fun hid=>n2 (xay (xao hq) hid)) (e5 q hq hv)⟩
   |tok n' k'=>intro b hb;rw[l2 x e1] at hb;exact hh b hb
   |map ks=>
    obtain⟨b,es,cl,h5,h6⟩:=hh;exact⟨b,es,cl,(l2 x e1).trans h5,h6⟩
   |tree cs=>exact zaW hh (l2 x e1) (fun _ _=>⟨Z,Z⟩) (Nat.le_refl _) (fun y hy v=>hm (fun hid=>n1 (xay hy hid)) (fun hid=>n2 (xay hy hid)))
 ·obtain⟨x',s1,e1,d1⟩:=src x h1;obtain⟨y',s2,e2,d2⟩:=src y h2;rw[e1] at hb;rw[e2];refine hr.disj x' y' s1 s2 ?_ b hb;rcases d1 with ⟨rfl,rfl⟩|⟨rfl,f1,f2⟩<;>rcases d2 with ⟨rfl,rfl⟩|⟨rfl,f3,f4⟩
  ·exact absurd Z hxy
  ·exact fun e=>f3 e.symm
  ·exact f1
  ·exact hxy
 ·obtain⟨x',s1,e1,d1⟩:=src x h1;rw[e1] at hb;exact hr.new x' s1 b hb
 ·have hk:=hr.kept x l hl;have e1:x≠i:=fun e=>by
   have h1:=hk.2.1;have h2:getH hp x=none:=e ▸ hi;change (getH hp x).isSome=true at h1
   rw[h2] at h1;cases h1
  have e2:x≠j:=fun e=>by
   have h1:=hk.2.2;change tokf hp x=none at h1
   rw[e,hTj] at h1;cases h1
  refine⟨by rw[l2 x e1];exact hk.1, ?_, ?_⟩
  ·show(getH hp' x).isSome=true
   rw[g3 x e1 e2];exact hk.2.1
  ·show tokf hp' x=none
   have:=hk.2.2;unfold tokf at this ⊢;rw[g3 x e1 e2];exact this
end
section
variable {c:Ctx}
theorem zom {G:Gh}{s:St}{a:Act}{w:World} (hr:R c G s a w){f:FuncId}{avs:List AV}{i j n k m:Nat}{ys:List (List D)}{vals:Array Value}
  (hf:FnD c.P f avs [(i,some (.tok n k))] (.gv i ys) [(i,some (.tok m k))]) (hargs:AllR G (tokf s.hp) w avs vals) (hi:getH s.hp i=some (.tok n k)) (hj:getH s.hp j=none) (hocc:zcb j s):
  Calls c.P f vals w fun e w'=>∃v,e = .returned v/\
   ∃G',R c G' { s with hp:=(i,none)::(j,some (.tok m k))::s.hp } a w'/\RelA G' (tokf ((i,none)::(j,some (.tok m k))::s.hp)) w' (.gv j ys) v:=by
 have hne:i≠j:=fun e=>by subst e;rw[hi] at hj;cases hj
 have only:∀ {id:Nat}{x y:Res},getH [(i,some x)] id=some y->id=i/\y=x:=fun {id x y} h=>by
  rw[zad] at h;split at h
  ·rename_i e;cases h;exact⟨e,rfl⟩
  ·cases h
 have gi:getH [(i,some (Res.tok n k))] i=some (.tok n k):=by simp[getH]
 have hok:HOK G w [(i,some (.tok n k))] avs vals:=by
  refine⟨⟨hargs.size,fun q hq hv=>(hargs.rel q hq hv).mono (fun _ _ ho=>⟨ho,rfl⟩) (fun _ _=> .inl rfl) (fun id _ p hp=>⟨?_,fun _ _=>⟨rfl,rfl⟩⟩)⟩,fun id r h=>?_,fun id id' h1 h2 h3=>?_,hr.top⟩
  ·obtain⟨n',k'⟩:=p;obtain⟨rfl,h2⟩:=only (zak.1 hp);cases h2
   exact zak.2 hi
  ·obtain⟨rfl,rfl⟩:=only h;exact hr.heap _ _ hi
  ·obtain⟨x,hx⟩:=Option.isSome_iff_exists.1 h1;obtain⟨y,hy⟩:=Option.isSome_iff_exists.1 h2;exact absurd ((only hx).1.trans (only hy).1.symm) h3
 refine(hf G w vals hok).mono ?_;rintro e w' ⟨v,r,hp0,G',rfl,⟨rfl,rfl⟩,hret⟩
 refine⟨v,rfl, ?_⟩;have gi2:getH ([(i,some (Res.tok m k))]++[(i,some (.tok n k))]) i=some (.tok m k):=by simp[getH]
 have hown:∀b,b∈zbE G [(i,some (Res.tok n k))]->b∈G.loc i:=fun b hb=>by
  obtain⟨id,h1,h2⟩:=zcE.1 hb;obtain⟨x,hx⟩:=Option.isSome_iff_exists.1 h1;rw[(only hx).1] at h2;exact h2
 have hsi:(getH s.hp i).isSome:=by rw[hi];rfl
 let hp':Hp:=(i,none)::(j,some (.tok m k))::s.hp
 let G2:Gh:={ F:=G'.F,loc:=fun x=>bif Nat.beq x j then G'.loc i else G.loc x }
 have l1:G2.loc j=G'.loc i:=by simp[G2]
 have l2:∀x,x≠j->G2.loc x=G.loc x:=fun x h=>by simp[G2,zcp h]
 have g1:getH hp' i=none:=by
  show getH ((i,none)::(j,some (.tok m k))::s.hp) i=none
  rw[zad,if_pos rfl]
 have g2:getH hp' j=some (.tok m k):=by
  show getH ((i,none)::(j,some (.tok m k))::s.hp) j=_
  rw[zad,if_neg (fun e=>hne e.symm),zad,if_pos rfl]
 have g3:∀x,x≠i->x≠j->getH hp' x=getH s.hp x:=fun x h1 h2=>by
  show getH ((i,none)::(j,some (.tok m k))::s.hp) x=_
  rw[zad,if_neg h1,zad,if_neg h2]
 have cases3:∀x (r:Res),getH hp' x=some r->(x=j/\r = .tok m k)\/(x≠i/\x≠j/\getH s.hp x=some r):=fun x r h=>by
  by_cases e1:x=i
  ·subst e1;rw[g1] at h;cases h
  ·by_cases e2:x=j
   ·subst e2;rw[g2] at h;cases h;exact .inl ⟨Z,Z⟩
   ·rw[g3 x e1 e2] at h;exact .inr ⟨e1,e2,h⟩
 have bound:∀x r,getH s.hp x=some r->∀b,b∈G.loc x->b<w.heap.size:=fun x r h=>(hr.heap x r h).bound;have blk:∀x r,x≠i->getH s.hp x=some r->∀b,b∈G.loc x->w'.heap[b]?=w.heap[b]?/\G'.F b=G.F b:=fun x r h1 h2 b hb=>
  hret.frm.block b (bound x r h2 b hb) (fun hm=>hr.disj x i (by rw[h2];rfl) hsi h1 b hb (hown b hm))
 have hm:∀ {x:AV}{v:Value},j∉x.ids->RelA G (tokf s.hp) w x v->RelA G2 (tokf hp') w' x v:=fun hx1 hx=>
  hx.mono hret.frm.cell (fun id hid=> .inl (l2 id (fun e=>hx1 (e ▸ hid)))) (fun id hid p hp2=>by
   have e1:id≠j:=fun e=>hx1 (e ▸ hid);obtain⟨n',k'⟩:=p;have h1:=zak.1 hp2;rcases cases3 id _ h1 with ⟨e,_⟩|⟨e2,_,h3⟩
   ·exact absurd e e1
   ·exact⟨zak.2 h3,blk id _ e2 h3⟩)
 have src:∀x,(getH hp' x).isSome->x=j\/(x≠i/\x≠j/\(getH s.hp x).isSome):=fun x h=>by
  obtain⟨r,hx⟩:=Option.isSome_iff_exists.1 h;rcases cases3 x r hx with ⟨rfl,_⟩|⟨e1,e2,h3⟩
  ·exact .inl Z
  ·exact .inr ⟨e1,e2,by rw[h3];rfl⟩
 have hnew:=hret.new i (by rw[gi2];rfl);have mix:∀x,x≠i->(getH s.hp x).isSome->∀b,b∈G'.loc i->b∉G.loc x:=fun x h1 h2 b hb hbx=>by
  obtain⟨r,hx⟩:=Option.isSome_iff_exists.1 h2;rcases hnew b hb with h|h
  ·exact hr.disj i x hsi h2 (fun e=>h1 e.symm) b (hown b h) hbx
  ·have:=bound x r hx b hbx;omega
 refine⟨G2,⟨hr.size,hr.defers,fun x v hx=>hm (hocc.1 x v hx) (hr.slots x v hx),fun x r hx=>?_,fun x y h1 h2 hxy b hb=>?_,fun x h1 b hb=>?_,hr.frm.trans hret.frm ?_,hret.top,fun x l hl=>?_⟩, ?_⟩
 ·rcases cases3 x r hx with ⟨rfl,rfl⟩|⟨e1,e2,h3⟩
  ·intro b hb;rw[l1] at hb;exact hret.heap i _ gi2 b hb
  ·have hh:=hr.heap x r h3;have n2:=hocc.2 x r h3;have hb0:=blk x r e1 h3;cases r with
   |box cs=>
    obtain⟨b,us,e,e1',e2',e3,e4,e5⟩:=hh;obtain⟨f1,f2⟩:=hb0 b (by simp[e1']);exact⟨b,us,e,(l2 x e2).trans e1',f1.trans e2',e3,f2.trans e4,fun q hq hv=>hm (fun hid=>n2 (xay (xao hq) hid)) (e5 q hq hv)⟩
   |tok n' k'=>intro b hb;rw[l2 x e2] at hb;exact Nat.lt_of_lt_of_le (hh b hb) hret.frm.size
   |map ks=>
    obtain⟨b,es,cl,h5,h6,h7,h8⟩:=hh;obtain⟨f1,f2⟩:=hb0 b (by simp[h5]);exact⟨b,es,cl,(l2 x e2).trans h5,f1.trans h6,f2.trans h7,h8⟩
   |tree cs=>exact zaW hh (l2 x e2) hb0 hret.frm.size (fun y hy v=>hm (fun hid=>n2 (xay hy hid)))
 ·rcases src x h1 with rfl|⟨a1,a2,a3⟩<;>rcases src y h2 with rfl|⟨b1,b2,b3⟩
  ·exact absurd Z hxy
  ·rw[l1] at hb;rw[l2 y b2];exact mix y b1 b3 b hb
  ·rw[l2 x a2] at hb;rw[l1];exact fun h=>mix x a1 a3 b h hb
  ·rw[l2 x a2] at hb;rw[l2 y b2];exact hr.disj x y a3 b3 hxy b hb
 ·rcases src x h1 with rfl|⟨a1,a2,a3⟩
  ·rw[l1] at hb;rcases hnew b hb with h|h
   ·exact hr.new i hsi b (hown b h)
   ·right;have:=hr.frm.size;omega
  ·rw[l2 x a2] at hb;exact hr.new x a3 b hb
 ·intro b hb;exact hr.new i hsi b (hown b hb)
 ·have hk:=hr.kept x l hl;have e1:x≠i:=fun e=>by
   have h1:=hk.2.2;have h2:tokf s.hp x=some (n,k):=e ▸ zak.2 hi;rw[h2] at h1;cases h1
  have e2:x≠j:=fun e=>by
   have h1:=hk.2.1;have h2:getH s.hp x=none:=e ▸ hj;rw[h2] at h1;cases h1
  refine⟨by rw[l2 x e2];exact hk.1, ?_, ?_⟩
  ·show(getH hp' x).isSome=true
   rw[g3 x e1 e2];exact hk.2.1
  ·show tokf hp' x=none
   have:=hk.2.2;unfold tokf at this ⊢;rw[g3 x e1 e2];exact this
 ·exact hret.res.gv_move (G':=G2) (zak.2 gi2) Z l1 (zak.2 g2)
end
section
variable {c:Ctx}{all:Array Oper}{chk:List Rec->Prop}{os:List Oper}{recs:List Rec}{env:Env}{hp:Hp}{Q:St->Prop}
variable {d ty:Nat}{pos:String}{af:Array Edge}{g:Option (Nat×Bool)}{pg:List (Nat×AV)}
theorem xbx {f:FuncId}{args:Array Operand}{ats:Array TypeId}{xs:List Operand}{vs avs:List AV}{i n k m:Nat}{ys:List (List D)} (j:Nat) (hc:Callee c.P f)
  (hf:FnD c.P f avs [(i,some (.tok n k))] (.gv i ys) [(i,some (.tok m k))])
  (hargs:args=xs.toArray) (hg:GH all env g pg) (hd:Nat.blt d c.n=true) (hx:opdL env xs=some vs) (hle:LeL vs avs) (hi:getH hp i=some (.tok n k)) (hcr:zaq env hp [j]=true)
  (hn:Walk c all chk os (zan (pg++opFL xs vs) [(i,.tok n k)] [j] ⟨some (d,.gv j ys),[(i,none),(j,some (.tok m k))]⟩::recs) ⟨(d,.gv j ys)::env,(i,none)::(j,some (.tok m k))::hp⟩ Q):
  Walk c all chk (⟨some d,.call ⟨.value (.func f),args,ats⟩,ty,pos,af,g⟩::os) recs ⟨env,hp⟩ Q:=by
 subst hargs;refine⟨pg++opFL xs vs,[(i,.tok n k)],[j],_, ?_,zaz hg.facts (zbR hx),hh1 hi,zbk hcr,hn⟩;intro s a w hrel hp' hh hcr' K Q' hK;obtain⟨G,hr⟩:=hrel;have hrl:=zcr hr (zbS hx (fun p hm=>hp' p (by simp[hm])));have hle':∀ {l m:List AV},LeL l m->∀i (h1:i<l.length) (h2:i<m.length),LeA l[i] m[i]:=by
  intro l;induction l with
  |nil=>intro m _ i h1;simp at h1
  |cons x r ih=>
   intro m h i h1 h2;cases h with
   |cons h t=>
    cases i with
    |zero=>exact h
    |succ i=>exact ih t i (by simpa using h1) (by simpa using h2)
 have hall:AllR G (tokf s.hp) w avs (xs.map a.eval).toArray:=by
  refine⟨by simp[<-hle.len,hrl.1],fun i hi hv=>?_⟩;have h1:i<vs.length:=by rw[hle.len];exact hi
  have:=(hrl.2 i h1 (by rw[<-hrl.1];exact h1)).le (hle' hle i h1 hi);simpa using this
 have hcalls:=zom hr hf hall (hh1' hh) (hcr' j og).1 (hcr' j og).2;unfold wpO;rw[if_pos (hg.gf.wanted hr (fun p hm=>hp' p (by simp[hm])))];unfold Oper.wp;have hrun:(execOp a.eval ⟨some d,.call ⟨.value (.func f),xs.toArray,ats⟩,ty,pos,af,g⟩).run c.P w = .ok (.enter f (xs.map a.eval).toArray) w:=by
  have:=hc.run (xs.map a.eval).toArray w;simp only[execOp,resolve,Sem.run_bind,Act.eval,Deferred.ofValue,Sem.run_pure,Result.andThen_ok,invoke];simpa using this
 rw[hrun,Oper.upon_enter];refine hcalls.mono ?_;rintro e w' ⟨v,rfl,G',hR,hA⟩
 exact hK _ _ ⟨G',hR.put hA hd⟩
end
set_option maxRecDepth 100000
set_option maxHeartbeats 4000000
theorem zmQ {n:Nat} (ih:∀ {p:Pat}{xs:List Stp}{path:List Int},p.size<=n->asOk n p->p.ok->path.length+n<=1000000->xs.length+p.size<=1000000000000->
   FnD Tryz.prog 142 [.gv 5 (xs.map Stp.c),.agg [.d (.i p.op),.d (.i p.ctor),.d (.i p.n),.d (.i p.m),.d (.i p.var),.d (zau p.kids)],.d (zaH path)] [(5,some (.tok (xs.map Stp.c).length 8))] (.gv 5 ((xs++zas n p path).map Stp.c)) [(5,some (.tok ((xs++zas n p path).map Stp.c).length 8))])
  {p:Pat}{xs:List Stp}{path:List Int} (hz:p.size<=n+1) (has:asOk (n+1) p) (hok:p.ok) (hpa:path.length+(n+1)<=1000000) (hb:xs.length+p.size<=1000000000000):
  FnD Tryz.prog 142 [.gv 5 (xs.map Stp.c),.agg [.d (.i p.op),.d (.i p.ctor),.d (.i p.n),.d (.i p.m),.d (.i p.var),.d (zau p.kids)],.d (zaH path)] [(5,some (.tok (xs.map Stp.c).length 8))] (.gv 5 ((xs++zas (n+1) p path).map Stp.c)) [(5,some (.tok ((xs++zas (n+1) p path).map Stp.c).length 8))]:=by
 rw[xaZ] at hz hb;rw[xaY] at hok;obtain⟨ha6,hak⟩:=has;have hkl:=ziN (path:=path) (zdR n) (p:=p);have hks:=fun i=>zhX p.kids i;have hk1:=fun i (h:i<p.kids.length)=>zdc (l:=p.kids) h;by_cases h6:p.op=6
 ·have e:zas (n+1) p path=zas n (nth p.kids 0) path:=by rw[zas,if_pos h6]
  rw[e];have h0:=ha6 h6;have hsz:=zoR h0;have hc:=ih (p:=nth p.kids 0) (xs:=xs) (path:=path) od (hak _ (zai h0)) (xa0 hok.2 _ (zai h0)) od od;clear ih;refine bd Tryz.f142 61 [] [999999] fun _ _ _ _ hk=>?_;refine bx 3004 ?_;refine ev ?_;apply sq<;>intro h1 h1p h1s<;>(try simp only[Q,xaW,xal] at h1p);refine ixq (i:=0) sl72 Z Z Z (zaS od) Z ?_;refine ev (xbx 6 znl hc Z .none Z Z (.cons (.refl _) (.cons (.refl _) (.cons (.refl _) .nil))) Z oe ?_);refine ev (xaG 6 6 5 Z Z Z Z Z (CWp.ret (rn [(5,some (.tok ((xs++zas n (nth p.kids 0) path).map Stp.c).length 8))] (r1 Z) (.gvg ?_) ⟨Z,Z⟩ (SubO.get ⟨.inr ?_,⟨.inl Z,I⟩⟩) (zaX Z))));rotate_left 2;exfalso;omega;all_goals (first|((first|rfl|(simp;done));done)|(first|rfl|(simp;done)))
 ·have e3:p.op=3->zas (n+1) p path=[⟨1,path,-1,p.n,p.m,0,[],0⟩]:=fun h=>by rw[zas,if_neg h6,if_pos h]
  have e4:p.op=4->zas (n+1) p path=st4 p path::zaV (zas n) p path p.kids.length:=fun h=>by rw[zas,if_neg h6,if_neg od,if_pos h]
  have e0:¬p.op=3->¬p.op=4->zas (n+1) p path=[]:=fun h h'=>by rw[zas,if_neg h6,if_neg h,if_neg h']
  have hcall:∀i (h:i<p.kids.length),FnD Tryz.prog 142 [.gv 5 ((xs++[st4 p path]++zaV (zas n) p path i).map Stp.c),.agg [.d (.i (nth p.kids i).op),.d (.i (nth p.kids i).ctor),.d (.i (nth p.kids i).n),.d (.i (nth p.kids i).m),.d (.i (nth p.kids i).var),.d (zau (nth p.kids i).kids)],.d (zaH (path++[(i:Int)]))] [(5,some (.tok ((xs++[st4 p path]++zaV (zas n) p path i).map Stp.c).length 8))]
    (.gv 5 ((xs++[st4 p path]++zaV (zas n) p path (i+1)).map Stp.c)) [(5,some (.tok ((xs++[st4 p path]++zaV (zas n) p path (i+1)).map Stp.c).length 8))]:=fun i h=>by
   have h1:=hks (i+1);have h2:=hk1 i h;have h3:=hkl i od;have:=ih (p:=nth p.kids i) (xs:=xs++[st4 p path]++zaV (zas n) p path i) (path:=path++[(i:Int)]) od (hak _ (zai h)) (xa0 hok.2 _ (zai h)) ot (by simp only[xaa,xab,xak];omega);rw[zaV,<-xar (xs++[st4 p path])];exact this
  have hkl0:=hkl p.kids.length (Nat.le_refl _);rw[List.take_length] at hkl0;generalize zas (n+1) p path=R at *;clear ih;refine bd Tryz.f142 61 [] [10] fun _ _ _ _ hk=>?_;refine bx 3004 ?_;refine ev ?_;apply sq<;>intro h1 h1p h1s<;>(try simp only[Q,xaW,xal] at h1p);exfalso;omega;apply sq<;>intro h2 h2p h2s<;>(try simp only[Q,xaW,xal] at h2p);refine xbX 2 sl37 .none Z Z (evd [] [] (Walk.append sl37 zz3 Z .none Z Z Z Z (zbG Z oq) (by first|(intro x hx;simp at hx;subst hx;rfl)|(intro x hx;obtain⟨y,_,rfl⟩:=List.mem_map.1 hx;rfl)) oo oo ?_));refine evd [] [] (bu [0,1,2,3,4] [_,_,_,_,_] zeS ?_);refine si [0] [_] sl96 zdS ?_;refine xbr sl96 zeT .none Z Z Z Z (zbG Z oq) (by first|(intro x hx;simp at hx;subst hx;rfl)|(intro x hx;obtain⟨y,_,rfl⟩:=List.mem_map.1 hx;rfl)) oo oo ?_;refine evd [] [] (dr (rn [(5,some (.tok ((xs++R).map Stp.c).length 8))] (r1 Z) (.gvg ?_) ⟨Z,Z⟩ (SubO.get ⟨.inr ?_,⟨.inl Z,I⟩⟩) (zaX Z)));rotate_left 2;apply sq<;>intro h3 h3p h3s<;>(try simp only[Q,xaW,xal] at h3p);refine xbX 3 sl37 .none Z Z (evd [] [] (Walk.append sl37 zz3 Z .none Z Z Z Z (zbG Z oq) (by first|(intro x hx;simp at hx;subst hx;rfl)|(intro x hx;obtain⟨y,_,rfl⟩:=List.mem_map.1 hx;rfl)) oo oo ?_));refine evd [] [] (bu [0,1,2] [_,_,_] zeS ?_);refine si [0] [_] sl96 zdS ?_;refine xbr sl96 zeT .none Z Z Z Z (zbG Z oq) (by first|(intro x hx;simp at hx;subst hx;rfl)|(intro x hx;obtain⟨y,_,rfl⟩:=List.mem_map.1 hx;rfl)) oo oo ?_;refine evd [] [] (dr (xaC 5 6 (ι:=Nat) hk (fun i=>[(0,.gv 5 ((xs++[st4 p path]++zaV (zas n) p path i).map Stp.c)),(7,.d (.i (i:Int)))]) [43,44,45,46,47,48,49,50,51,52,53,54,55,56,57,58,59] (fun i=>[(5,some (.tok ((xs++[st4 p path]++zaV (zas n) p path i).map Stp.c).length 8))]) (fun i=>i<=p.kids.length/\p.op=4) (fun i=>p.kids.length-i) 0 ⟨by omega,by omega⟩ ⟨⟨_,Z,LeA.gvg ?_⟩,⟨⟨_,Z,xaQ ?_⟩,I⟩⟩ ⟨zac ?_,I⟩ (fun x=>rfl) (fun i hg1=>?_)));iterate 3 focus (first|rfl|omega|(simp[zaV];done)|(simp;omega))
  refine evc [] [10] ?_;apply sq<;>intro h4 h4p h4s<;>(try simp only[Q,xaW,xal] at h4p);refine ixq sl72 Z Z Z (zaS od) Z ?_;refine evd [] [] (wc znp (zfb (l:=path) (i:=(i:Int)) od) Z Z ?_);refine xbx 6 znl (hcall i od) Z .none Z Z (.cons (.refl _) (.cons (.refl _) (.cons (.refl _) .nil))) Z oe ?_;refine evd [] [] (dr (xaG 0 6 5 Z Z Z Z Z (evc [] [] (ar (xaj (i+1) ⟨⟨by omega,hg1.2⟩,od,sx ⟨⟨_,Z,LeA.gvg ?_⟩,⟨⟨_,Z,xaQ ?_⟩,I⟩⟩ ⟨zac ?_,I⟩⟩)))));iterate 3 focus (first|rfl|omega|(simp[zaV];done)|(simp;omega))
  refine rn [(5,some (.tok ((xs++R).map Stp.c).length 8))] (r1 Z) (.gvg ?_) ⟨Z,Z⟩ (SubO.get ⟨.inr ?_,⟨.inl Z,I⟩⟩) (zaX Z);rotate_left 2;refine rn [(5,some (.tok ((xs++R).map Stp.c).length 8))] (r1 Z) (.gvg ?_) ⟨Z,Z⟩ (SubO.get ⟨.inr ?_,⟨.inl Z,I⟩⟩) (zaX Z);rotate_left 2;all_goals (first|((first|(rw[e3 od];all_goals first|rfl|(simp;done))|(rw[e4 od,show i=p.kids.length by omega];all_goals first|rfl|(simp;done))|(rw[e0 od od];all_goals first|rfl|(simp;done)));done)|(first|(rw[e3 od];all_goals first|rfl|exact xam (fun n=>some (Res.tok n 8)) og)|(rw[e4 od,show i=p.kids.length by omega];all_goals first|rfl|exact xam (fun n=>some (Res.tok n 8)) og)|(rw[e0 od od];all_goals first|rfl|exact xam (fun n=>some (Res.tok n 8)) og)))
theorem zgw:∀(n:Nat){p:Pat}{xs:List Stp}{path:List Int},p.size<=n->asOk n p->p.ok->path.length+n<=1000000->xs.length+p.size<=1000000000000->
   FnD Tryz.prog 142 [.gv 5 (xs.map Stp.c),.agg [.d (.i p.op),.d (.i p.ctor),.d (.i p.n),.d (.i p.m),.d (.i p.var),.d (zau p.kids)],.d (zaH path)] [(5,some (.tok (xs.map Stp.c).length 8))] (.gv 5 ((xs++zas n p path).map Stp.c)) [(5,some (.tok ((xs++zas n p path).map Stp.c).length 8))]
 |0,p,xs,path,h,_,_,_,_=>by rw[xaZ] at h;omega
 |n+1,p,xs,path,h,has,hok,hp,hb=>zmQ (fun {p xs path} a1 a2 a3 a4 a5=>zgw n a1 a2 a3 a4 a5) h has hok hp hb
set_option maxHeartbeats 2000000
theorem zpu {a b c d e:Int}{l:List Pat}:(Pat.mk a b c d e l).op=a:=rfl
theorem zlW {a b c d e:Int}{l:List Pat}:(Pat.mk a b c d e l).ctor=b:=rfl
theorem mk_n {a b c d e:Int}{l:List Pat}:(Pat.mk a b c d e l).n=c:=rfl
theorem mk_m {a b c d e:Int}{l:List Pat}:(Pat.mk a b c d e l).m=d:=rfl
theorem znL {a b c d e:Int}{l:List Pat}:(Pat.mk a b c d e l).var=e:=rfl
theorem zhn {a b c d e:Int}{l:List Pat}:(Pat.mk a b c d e l).kids=l:=rfl
abbrev anyQ:Pat:= .mk 1 0 0 0 0 []
mutual
def zhv:Pat->Pat
 | .mk op c n m v ks=>if op=2 then anyQ else if op=6/\ks≠[] then zkM ks else .mk op c n m v (zhu ks)
def zkM:List Pat->Pat
 | []=>anyQ
 |k::_=>zhv k
def zhu:List Pat->List Pat
 | []=>[]
 |k::r=>zhv k::zhu r
end
theorem znd:∀l:List Pat,zhu l=l.map zhv
 | []=>rfl
 |k::r=>by simp[zhu,znd r]
def za4 (out:List (List Pat)) (l:List Pat):List (List Pat):=out.flatMap fun q=>l.map fun c=>q++[c]
def zdm (ls:List (List Pat)):List (List Pat):=ls.foldl za4 [[]]
mutual
def zaE:Pat->List Pat
 | .mk op c n m v ks=>if op=5 then ztl ks else (zdm (zju ks)).map fun l=> .mk op c n m v l
def ztl:List Pat->List Pat
 | []=>[]
 |a::r=>zaE a++zso r
def zso:List Pat->List Pat
 | []=>[]
 |b::_=>zaE b
def zju:List Pat->List (List Pat)
 | []=>[]
 |k::r=>zaE k::zju r
end
theorem zlo:∀l:List Pat,zju l=l.map zaE
 | []=>rfl
 |k::r=>by simp[zju,zlo r]
theorem zem {p:Pat} (h:p.op≠5):zaE p=(zdm (p.kids.map zaE)).map fun l=> .mk p.op p.ctor p.n p.m p.var l:=by
 cases p with|mk op c n m v ks=>
 have h':¬op=5:=h;conv=>lhs;unfold zaE
 rw[if_neg h',zlo];rfl
theorem zfc {p:Pat} (h:p.op=5) (hk:p.kids.length=2):zaE p=zaE (nth p.kids 0)++zaE (nth p.kids 1):=by
 cases p with|mk op c n m v ks=>
 have h':op=5:=h;conv=>lhs;unfold zaE
 rw[if_pos h'];have hk':ks.length=2:=hk;match ks,hk' with
 | [a,b],_=>rfl
mutual
def cntS:Pat->Int
 | .mk op _ _ _ _ ks=>if op=5 then cntO ks 0 else cntM ks 1
def cntO:List Pat->Int->Int
 | [],n=>n
 |k::r,n=>cntO r (cap (n+cntS k))
def cntM:List Pat->Int->Int
 | [],n=>n
 |k::r,n=>cntM r (cap (n*cntS k))
end
theorem zlG (p:Pat):cntS p=if p.op=5 then cntO p.kids 0 else cntM p.kids 1:=by
 cases p with|mk op c n m v ks=>
 conv=>lhs;unfold cntS
 rfl
mutual
theorem zlF:∀p:Pat,0<=cntS p/\cntS p<=401
 | .mk op _ _ _ _ ks=>by
  unfold cntS;split
  ·exact zoD ks 0 od od
  ·exact zoB ks 1 od od
theorem zoD:∀(l:List Pat) (n:Int),0<=n->n<=401->0<=cntO l n/\cntO l n<=401
 | [],n,h1,h2=>⟨h1,h2⟩
 |k::r,n,h1,h2=>by
  unfold cntO;have h3:=zlF k;have h4:=zft (x:=n+cntS k) od;exact zoD r _ h4.1 h4.2
theorem zoB:∀(l:List Pat) (n:Int),0<=n->n<=401->0<=cntM l n/\cntM l n<=401
 | [],n,h1,h2=>⟨h1,h2⟩
 |k::r,n,h1,h2=>by
  unfold cntM;have h3:=zlF k;have h4:=zft (x:=n*cntS k) (Int.mul_nonneg h1 h3.1);exact zoB r _ h4.1 h4.2
end
theorem zqe {l:List Pat}{i:Nat}{n:Int} (h:i<l.length):cntO (l.drop i) n=cntO (l.drop (i+1)) (cap (n+cntS (nth l i))):=by
 rw[zb0 h];rfl
theorem zqd {l:List Pat}{i:Nat}{n:Int} (h:i<l.length):cntM (l.drop i) n=cntM (l.drop (i+1)) (cap (n*cntS (nth l i))):=by
 rw[zb0 h];rfl
def binP:Nat->Pat->Bool
 |0,_=>false
 |n+1,p=>decide (p.op=5->p.kids.length=2)&&p.kids.all (binP n)
theorem zdI {n:Nat}{p:Pat} (h:binP (n+1) p=true){i:Nat} (hi:i<p.kids.length):binP n (nth p.kids i)=true:=by
 unfold binP at h;rw[xad,List.all_eq_true] at h;exact h.2 _ (zai hi)
theorem zjj {n:Nat}{p:Pat} (h:binP (n+1) p=true) (h5:p.op=5):p.kids.length=2:=by
 unfold binP at h;rw[xad] at h;exact(xas h.1) h5
theorem zfD (out:List (List Pat)) (l:List Pat):(za4 out l).length=out.length*l.length:=by
 unfold za4;induction out with
 |nil=>simp
 |cons q r ih=>rw[List.flatMap_cons,xaa,ih,xac,xab,Nat.succ_mul];omega
theorem zpx (ls:List (List Pat)) (l:List Pat):zdm (ls++[l])=za4 (zdm ls) l:=by unfold zdm;rw[List.foldl_append];rfl
theorem zsf {a b:Nat}:cap (cap (a:Int)*cap (b:Int))=cap ((a*b:Nat):Int):=by
 unfold cap;rcases Nat.eq_zero_or_pos a with rfl|ha
 ·simp
 rcases Nat.eq_zero_or_pos b with rfl|hb
 ·simp
 have h1:a<=a*b:=Nat.le_mul_of_pos_right a hb;have h2:b<=a*b:=Nat.le_mul_of_pos_left b ha;have hab:((a*b:Nat):Int)=(a:Int)*(b:Int):=by push_cast;rfl
 by_cases ca:401<(a:Int)
 ·rw[if_pos ca];by_cases cb:401<(b:Int)
  ·rw[if_pos cb,if_pos od,if_pos od]
  ·rw[if_neg cb];have h3:(401:Int)*1<=401*(b:Int):=Int.mul_le_mul_of_nonneg_left od od;rw[if_pos (show 401<((a*b:Nat):Int) by omega)];split<;>omega
 ·rw[if_neg ca];by_cases cb:401<(b:Int)
  ·rw[if_pos cb];have h3:(1:Int)*401<=(a:Int)*401:=Int.mul_le_mul_of_nonneg_right od od;rw[if_pos (show 401<((a*b:Nat):Int) by omega)];split<;>omega
  ·rw[if_neg cb,hab]
theorem zsd {a b:Nat}:cap (cap (a:Int)+cap (b:Int))=cap ((a+b:Nat):Int):=by
 unfold cap;push_cast
 split<;>split<;>split<;>(try split)<;>omega
theorem zse {x:Int}:cap (cap x)=cap x:=by unfold cap;split<;>(try split)<;>omega
theorem zoC:∀(l:List Pat) (out:List (List Pat)),(∀k∈l,cntS k=cap ((zaE k).length:Int)/\0<(zaE k).length)->cntM l (cap (out.length:Int))=cap (((l.map zaE).foldl za4 out).length:Int)/\(0<out.length->0<((l.map zaE).foldl za4 out).length)
 | [],out,_=>⟨rfl,fun h=>h⟩
 |k::r,out,h=>by
  have hk:=h k og;unfold cntM;rw[hk.1,zsf];have:=zoC r (za4 out (zaE k)) (fun x hx=>h x (by simp[hx]));rw[zfD] at this;rw[xaf,List.foldl_cons];exact⟨this.1,fun ho=>this.2 (Nat.mul_pos ho hk.2)⟩
theorem zit:∀(n:Nat){p:Pat},binP n p=true->cntS p=cap ((zaE p).length:Int)/\0<(zaE p).length
 |0,p,h=>by simp[binP] at h
 |n+1,p,h=>by
  have ih:=fun i (hi:i<p.kids.length)=>zit n (zdI h hi);rw[zlG];by_cases h5:p.op=5
  ·have hl:=zjj h h5;rw[if_pos h5,zfc h5 hl,xaa];have k0:=ih 0 od;have k1:=ih 1 od;have e:p.kids=[nth p.kids 0,nth p.kids 1]:=by
    match hk:p.kids,hl with
    | [a,b],_=>rfl
   refine⟨?_,by omega⟩;rw[e];simp only[cntO];rw[Int.zero_add,k0.1,zse,k1.1];show cap (cap ((zaE (nth p.kids 0)).length:Int)+cap ((zaE (nth p.kids 1)).length:Int))=_
   rw[zsd];rfl
  ·rw[if_neg h5,zem h5,xac];have:=zoC p.kids [[]] (fun k hk=>by
    obtain⟨i,hi,rfl⟩:=List.getElem_of_mem hk;have:=ih i hi;simpa [nth,List.getD,hi] using this)
   exact⟨this.1,this.2 og⟩
theorem zgo:∀(ls:List (List Pat)) (out:List (List Pat)),(∀l∈ls,0<l.length)->out.length<=(ls.foldl za4 out).length
 | [],out,_=>Nat.le_refl _
 |l::r,out,h=>by
  rw[List.foldl_cons];have h1:=zgo r (za4 out l) (fun x hx=>h x (by simp[hx]));rw[zfD] at h1;have h2:out.length<=out.length*l.length:=Nat.le_mul_of_pos_right _ (h l og);omega
theorem zh6:∀(ls:List (List Pat)) (out:List (List Pat)),(∀l∈ls,0<l.length)->0<out.length->∀l∈ls,l.length<=(ls.foldl za4 out).length
 | [],out,_,_,l,hl=>by simp at hl
 |x::r,out,h,ho,l,hl=>by
  rw[List.foldl_cons];have hx:=h x og;have hp:0<(za4 out x).length:=by rw[zfD];exact Nat.mul_pos ho hx
  rcases List.mem_cons.1 hl with rfl|hl
  ·have h1:=zgo r (za4 out l) (fun y hy=>h y (by simp[hy]));rw[zfD] at h1;have h2:l.length<=out.length*l.length:=Nat.le_mul_of_pos_left _ ho;omega
  ·exact zh6 r (za4 out x) (fun y hy=>h y (by simp[hy])) hp l hl
theorem zgR {n:Nat}{p:Pat} (h:binP (n+1) p=true){i:Nat} (hi:i<p.kids.length):(zaE (nth p.kids i)).length<=(zaE p).length:=by
 by_cases h5:p.op=5
 ·have hl:=zjj h h5;rw[zfc h5 hl,xaa];have:i=0\/i=1:=by omega
  rcases this with rfl|rfl<;>omega
 ·rw[zem h5,xac];refine zh6 _ [[]] (fun l hl=>?_) og _ (List.mem_map.2 ⟨_,zai hi,Z⟩);obtain⟨k,hk,rfl⟩:=List.mem_map.1 hl;obtain⟨j,hj,rfl⟩:=List.getElem_of_mem hk;have:=(zit n (zdI h hj)).2;simpa [nth,List.getD,hj] using this
theorem zov {n:Nat}{p:Pat} (h:binP (n+1) p=true) (h5:p.op≠5) (i:Nat):(zdm ((p.kids.take i).map zaE)).length<=(zaE p).length:=by
 rw[zem h5,xac];have e:p.kids.map zaE=(p.kids.take i).map zaE++(p.kids.drop i).map zaE:=by rw[<-xag,List.take_append_drop]
 unfold zdm;rw[e,List.foldl_append];refine zgo _ _ (fun l hl=>?_);obtain⟨k,hk,rfl⟩:=List.mem_map.1 hl;obtain⟨j,hj,rfl⟩:=List.getElem_of_mem (List.mem_of_mem_drop hk);have:=(zit n (zdI h hj)).2;simpa [nth,List.getD,hj] using this
theorem zjU {α β:Type}{f g:α->β->Bool}:∀ {a:List α}{b:List β},(∀x∈a,∀y∈b,f x y=true->g x y=true)->all2 f a b=true->all2 g a b=true
 | [],[],_,_=>rfl
 |x::r,y::s,h,h2=>by
  simp only[all2,xad] at h2 ⊢;exact⟨h x og y og h2.1,zjU (fun a ha b hb=>h a (by simp[ha]) b (by simp[hb])) h2.2⟩
 | [],_::_,_,h2=>by simp[all2] at h2
 |_::_,[],_,h2=>by simp[all2] at h2
theorem zgM:∀(ls:List (List Pat)) (out:List (List Pat)) (l:List Pat),l∈ls.foldl za4 out->∃q∈out,∃r:List Pat,l=q++r/\r.length=ls.length/\∀i,i<ls.length->nth r i∈nth ls i
 | [],out,l,h=>⟨l,h,[],by simp,rfl,fun i hi=>by simp at hi⟩
 |x::rs,out,l,h=>by
  rw[List.foldl_cons] at h;obtain⟨q,hq,r,e,hl,hm⟩:=zgM rs (za4 out x) l h;unfold za4 at hq;simp only[List.mem_flatMap,List.mem_map] at hq;obtain⟨q0,hq0,c,hc,rfl⟩:=hq;refine⟨q0,hq0,c::r,by rw[e];simp,by simp[hl],fun i hi=>?_⟩;cases i with
  |zero=>exact hc
  |succ i=>exact hm i (by simpa using hi)
theorem xa1:∀ {l:List Pat},(∀k∈l,k.ok)->Pats.ok l
 | [],_=>trivial
 |k::r,h=>⟨h k og,xa1 (fun x hx=>h x (by simp[hx]))⟩
theorem Pats.size_of {m:Nat}:∀ {l:List Pat},(∀k∈l,k.size<=m)->Pats.size l<=l.length*m
 | [],_=>by simp[Pats.size]
 |k::r,h=>by
  have h1:=h k og;have h2:=Pats.size_of (l:=r) (fun x hx=>h x (by simp[hx]));simp only[Pats.size,xab,Nat.succ_mul];omega
mutual
theorem zox:∀p:Pat,p.ok->(zhv p).ok
 | .mk op c n m v ks,h=>by
  unfold zhv;split
  ·exact⟨by simp,trivial⟩
  ·split
   ·exact zrj ks h.2
   ·exact⟨by rw[znd,xac];exact h.1,zne ks h.2⟩
theorem zrj:∀l:List Pat,Pats.ok l->(zkM l).ok
 | [],_=>⟨by simp,trivial⟩
 |k::r,h=>zox k h.1
theorem zne:∀l:List Pat,Pats.ok l->Pats.ok (zhu l)
 | [],_=>trivial
 |k::r,h=>⟨zox k h.1,zne r h.2⟩
end
mutual
theorem zmd:∀p:Pat,(zhv p).size<=p.size
 | .mk op c n m v ks=>by
  unfold zhv;split
  ·simp[anyQ,Pat.size,Pats.size]
  ·split
   ·have:=zpr ks;simp only[Pat.size];omega
   ·have:=zkt ks;simp only[Pat.size];omega
theorem zpr:∀l:List Pat,(zkM l).size<=1+Pats.size l
 | []=>by simp[zkM,anyQ,Pat.size,Pats.size]
 |k::r=>by have:=zmd k;simp only[zkM,Pats.size];omega
theorem zkt:∀l:List Pat,Pats.size (zhu l)<=Pats.size l
 | []=>Nat.le_refl _
 |k::r=>by have:=zmd k;have:=zkt r;simp only[zhu,Pats.size];omega
end
def zfw (env:Env) (hp:Hp) (j:Nat):Bool:=
 (match getH hp j with|none=>true|some _=>false)&&(env.all fun x=>match getE env x.1 with|some v=> !zaJ j v.ids|none=>true)&&(hp.all fun x=>match getH hp x.1 with|some r=> !zaJ j r.ids|none=>true)
theorem znF:∀ {env:Env}{i:Nat}{v:AV},getE env i=some v->∃u,(i,u)∈env
 |(k,x)::r,i,v,h=>by
  simp only[getE] at h;cases hb:Nat.beq k i with
  |true=>obtain rfl:=xap hb;exact⟨x,by simp⟩
  |false=>
   simp only[hb,cond_false] at h;obtain⟨u,hu⟩:=znF h;exact⟨u,List.mem_cons_of_mem _ hu⟩
theorem zdY {env:Env}{hp:Hp}{j:Nat} (h:zfw env hp j=true):getH hp j=none/\zcb j ⟨env,hp⟩:=by
 simp only[zfw,xad,List.all_eq_true] at h;obtain⟨⟨h1,h2⟩,h3⟩:=h;refine⟨?_,fun i v hv hm=>?_,fun i r hr hm=>?_⟩
 ·cases hg:getH hp j with
  |none=>rfl
  |some x=>simp[hg] at h1
 ·obtain⟨u,hu⟩:=znF hv;have:=h2 _ hu;rw[show getE env (i,u).1=some v from hv] at this;change (!zaJ j v.ids)=true at this
  rw[zav.2 hm] at this;cases this
 ·obtain⟨u,hu⟩:=zhD hr;have:=h3 _ hu;rw[show getH hp (i,u).1=some r from hr] at this;change (!zaJ j r.ids)=true at this
  rw[zav.2 hm] at this;cases this
theorem CWp.tokDrop {c:Ctx}{env:Env}{hp:Hp}{K:Kt}{code:Code} (t i:Nat){n k:Nat}{xs:List (List D)} (ht:getE env t=some (.gl i xs)) (hi:getH hp i=some (.tok n k))
  (hn:CWp c code ⟨(t,.d (.sl xs))::env,(i,none)::hp⟩ K):CWp c code ⟨env,hp⟩ K:=by
 rintro a w ⟨G,hr⟩
 have g1:∀x,x≠i->getH ((i,none)::hp) x=getH hp x:=fun x h1=>by rw[zad,if_neg h1]
 have gi:getH ((i,none)::hp) i=none:=by rw[zad,if_pos rfl]
 have Ti:tokf hp i=some (n,k):=zak.2 hi;have Ti':tokf ((i,none)::hp) i=none:=by unfold tokf;rw[gi]
 have hT:Turn c G ⟨env,hp⟩ w G ((i,none)::hp) [i]:=by
  refine⟨fun x hx=>?_,fun x hx=>rfl,fun b _=>rfl,fun b o ho=>ho,hr.top,fun x hx=>?_,fun x hx hs b hb=>?_,fun x hx y hy hxy h1 h2 b hb=>?_,fun x hx l hl=>?_⟩
  ·simp only[List.mem_cons,xau,or_false] at hx;exact g1 x hx
  ·simp only[List.mem_cons,xau,or_false] at hx;subst hx;exact .inr ⟨.inl Z,fun p hp'=>by rw[Ti'] at hp';cases hp'⟩
  ·simp only[List.mem_cons,xau,or_false] at hx;subst hx;rw[gi] at hs;cases hs
  ·simp only[List.mem_cons,xau,or_false] at hx hy;exact absurd (hx.trans hy.symm) hxy
  ·have hk:=hr.kept x l hl;simp only[List.mem_cons,xau,or_false] at hx;subst hx;have:=hk.2.2;rw[show tokf (St.mk env hp).hp x=some (n,k) from Ti] at this;cases this
 have hR:=hT.fin hr (fun x hx r hxr=>by
  simp only[List.mem_cons,xau,or_false] at hx;subst hx;rw[gi] at hxr;cases hxr)
 refine hn a w ⟨G,hR.slot ?_⟩;have hs:=hr.slots t _ ht;cases hs with
 |gl h h2=>exact .d h
theorem R.tokMove {c:Ctx}{G:Gh}{s:St}{a:Act}{w:World} (hr:R c G s a w) (i j:Nat){n k:Nat} (m:Nat) (hi:getH s.hp i=some (.tok n k)) (h0:getH s.hp j=none) (hocc:zcb j s):
  ∃G':Gh,R c G' ⟨s.env,(j,some (.tok m k))::(i,none)::s.hp⟩ a w/\G'.F=G.F/\G'.loc j=G.loc i/\tokf ((j,some (Res.tok m k))::(i,none)::s.hp) j=some (m,k):=by
 have hji:j≠i:=fun e=>by subst e;rw[h0] at hi;cases hi
 have g1:∀x,x≠j->x≠i->getH ((j,some (Res.tok m k))::(i,none)::s.hp) x=getH s.hp x:=fun x h1 h2=>by
  rw[zad,if_neg h1,zad,if_neg h2]
 have gj:getH ((j,some (Res.tok m k))::(i,none)::s.hp) j=some (.tok m k):=by rw[zad,if_pos rfl]
 have gi:getH ((j,some (Res.tok m k))::(i,none)::s.hp) i=none:=by rw[zad,if_neg (fun e=>hji e.symm),zad,if_pos rfl]
 have Ti:tokf s.hp i=some (n,k):=zak.2 hi;have Tj:tokf ((j,some (Res.tok m k))::(i,none)::s.hp) j=some (m,k):=zak.2 gj;have Ti':tokf ((j,some (Res.tok m k))::(i,none)::s.hp) i=none:=by unfold tokf;rw[gi]
 let G':Gh:={ G with loc:=fun x=>bif Nat.beq x j then G.loc i else G.loc x }
 have lj:G'.loc j=G.loc i:=by simp[G']
 have lo:∀x,x≠j->G'.loc x=G.loc x:=fun x h=>by simp[G',zcp h]
 have hsi:(getH s.hp i).isSome:=by rw[hi];rfl
 have hT:Turn c G s w G' ((j,some (Res.tok m k))::(i,none)::s.hp) [i,j]:=by
  refine⟨fun x hx=>?_,fun x hx=>?_,fun b _=>rfl,fun b o ho=>ho,hr.top,fun x hx=>?_,fun x hx hs b hb=>?_,fun x hx y hy hxy h1 h2 b hb=>?_,fun x hx l hl=>?_⟩
  ·simp only[List.mem_cons,xau,or_false,not_or] at hx;exact g1 x hx.2 hx.1
  ·simp only[List.mem_cons,xau,or_false,not_or] at hx;exact lo x hx.2
  ·simp only[List.mem_cons,xau,or_false] at hx;rcases hx with rfl|rfl
   ·exact .inr ⟨.inl (lo _ (fun e=>hji e.symm)),fun p hp'=>by rw[Ti'] at hp';cases hp'⟩
   ·exact .inl hocc
  ·simp only[List.mem_cons,xau,or_false] at hx;rcases hx with rfl|rfl
   ·rw[gi] at hs;cases hs
   ·exact⟨i,by simp,hsi,by rw[lj] at hb;exact hb⟩
  ·simp only[List.mem_cons,xau,or_false] at hx hy;rcases hx with rfl|rfl
   ·rw[gi] at h1;cases h1
   ·rcases hy with rfl|rfl
    ·rw[gi] at h2;cases h2
    ·exact absurd Z hxy
  ·have hk:=hr.kept x l hl;simp only[List.mem_cons,xau,or_false] at hx;rcases hx with rfl|rfl
   ·have:=hk.2.2;rw[Ti] at this;cases this
   ·have:=hk.2.1;rw[h0] at this;cases this
 have hR:=hT.fin hr (fun x hx r hxr=>by
  simp only[List.mem_cons,xau,or_false] at hx;rcases hx with rfl|rfl
  ·rw[gi] at hxr;cases hxr
  ·rw[gj] at hxr;cases hxr;intro b hb;rw[lj] at hb;exact hr.heap i _ hi b hb)
 exact⟨G',hR,rfl,lj,Tj⟩
theorem CWp.tokRen {c:Ctx}{env:Env}{hp:Hp}{K:Kt}{code:Code} (t i j:Nat){n k:Nat}{xs:List (List D)} (ht:getE env t=some (.gl i xs)) (hi:getH hp i=some (.tok n k)) (hf:zfw env hp j=true)
  (hn:CWp c code ⟨(t,.gl j xs)::env,(j,some (.tok n k))::(i,none)::hp⟩ K):CWp c code ⟨env,hp⟩ K:=by
 rintro a w ⟨G,hr⟩
 obtain⟨h0,hocc⟩:=zdY hf;have Ti:tokf hp i=some (n,k):=zak.2 hi;obtain⟨G',hR,hF,lj,Tj⟩:=hr.tokMove i j n hi h0 hocc;refine hn a w ⟨G',hR.slot ?_⟩;have hs:=hr.slots t _ ht;cases hs with
 |gl h h2=>
  refine .gl (by rw[hF];exact h) (fun n' k' hT'=>?_);have hT2:tokf ((j,some (Res.tok n k))::(i,none)::hp) j=some (n',k'):=hT';rw[Tj] at hT2;cases hT2
  obtain⟨q1,q2⟩:=h2 n k Ti;refine⟨q1,fun hn'=>⟨(q2 hn').1, ?_⟩⟩;have:=(q2 hn').2;unfold Tip at this ⊢;rw[lj,hF];exact this
section
variable {c:Ctx}{all:Array Oper}{chk:List Rec->Prop}{os:List Oper}{recs:List Rec}{env:Env}{hp:Hp}{Q:St->Prop}
variable {d ty:Nat}{pos:String}{af:Array Edge}{g:Option (Nat×Bool)}{pg:List (Nat×AV)}{t:TypeId}{x:Operand}
theorem Walk.cutV_h {id e k yb:Nat} (j:Nat){xs:List (List D)}{o:Operand}{kd:IntKind}{n:Int}{b:Nat} (ht:SlT c.P t e k yb) (hg:GH all env g pg) (hd:Nat.blt d c.n=true)
  (hx:opd env x=some (.gv id xs)) (htok:getH hp id=some (.tok xs.length k)) (ho:opd env o=some (.d (.int kd n))) (hi:n = ↑b) (hb:b<=xs.length) (hpos:0<xs.length) (hf:zaq env hp [j]=true)
  (hn:Walk c all chk os (zan (pg++(opF x (.gv id xs)++opF o (.d (.int kd n)))) [(id,.tok xs.length k)] [j] ⟨some (d,.gv j (xs.take b)),[(j,some (.tok b k)),(id,none)]⟩::recs)
   ⟨(d,.gv j (xs.take b))::env,(j,some (.tok b k))::(id,none)::hp⟩ Q):
  Walk c all chk (⟨some d,.slice t x none (some o) none,ty,pos,af,g⟩::os) recs ⟨env,hp⟩ Q:=by
 refine⟨pg++(opF x (.gv id xs)++opF o (.d (.int kd n))),[(id,.tok xs.length k)],[j],_, ?_,zaz hg.facts (zaz (za5 hx) (za5 ho)),hh1 htok,zbk hf,hn⟩;intro s a w hrel hp' hh hcr K Q' hK;obtain⟨G,hr⟩:=hrel;have e1:=hr.opd (za6 hx (fun p hm=>hp' p (by simp[hm])));have e2:=hr.opd (za6 ho (fun p hm=>hp' p (by simp[hm])));have htk:=hh1' hh;obtain⟨h0,hocc⟩:=hcr j og;obtain⟨⟨ad,cap0,hv0⟩,hcl⟩:=e1.gv_inv;have Ti:tokf s.hp id=some (xs.length,k):=zak.2 htk;obtain⟨hkx,htip⟩:=(hcl _ _ Ti).2 rfl;rcases htip with ⟨_,q2,_⟩|⟨bl,cap,cs,et,q1,q2,q3,q4,q5,q6,q7⟩
 ·omega
 obtain⟨G',hR,hF,lj,Tj⟩:=hr.tokMove id j b htk h0 hocc;unfold wpO;rw[if_pos (hg.gf.wanted hr (fun p hm=>hp' p (by simp[hm])))];unfold Oper.wp;have hbd:=zpy (P:=c.P) (w:=w) true xs.length cap (lo:=none) (hi:=some (.int kd b)) (a:=0) (b:=b) (.inl ⟨rfl,rfl⟩) (.inr ⟨kd,rfl⟩) (Nat.zero_le _) od;have hrun:(execOp a.eval ⟨some d,.slice t x none (some o) none,ty,pos,af,g⟩).run c.P w = .ok (.value (.slice (some ⟨bl,0,none⟩) b cap)) w:=by
  simp only[execOp,e2.int_eq,hi,q2,Option.map_none,Option.map_some,Instr.sliceAt,Sem.run_bind,run_underlying ht.und,Result.andThen_ok,Instr.slice,hbd,ht.run_size,Sem.run_pure,Nat.zero_mul,Nat.sub_zero,zde,Nat.zero_add,ite_self]
 rw[hrun,Oper.upon_value];have hl:(xs.take b).length=b:=by rw[List.length_take];omega
 have hA:RelA G' (tokf ((j,some (Res.tok b k))::(id,none)::s.hp)) w (.gv j (xs.take b)) (.slice (some ⟨bl,0,none⟩) b cap):=by
  refine .gv ⟨some ⟨bl,0,none⟩,cap,by rw[hl]⟩ (fun n' k' hT'=>?_);rw[Tj] at hT';cases hT'
  refine⟨by omega,fun _=>⟨fun y hy=>hkx y (List.mem_of_mem_take hy),.inr ⟨bl,cap,cs,et,by rw[lj];exact q1,Z,by rw[hF];exact q3,q4,q5,by omega,fun i hi' jj hj'=>?_⟩⟩⟩;have hix:i<xs.length:=by rw[hl] at hi';omega
  have h9:=q7 i hix jj (by simpa [List.getElem_take] using hj');rw[hF];simpa [List.getElem_take] using h9
 exact hK _ _ ⟨G',hR.put hA hd⟩
end
theorem FnD.glD {P:Program}{f:FuncId}{i n k:Nat}{args:List AV}{xs:List (List D)} (h:FnD P f args [] (.gl i xs) [(i,some (.tok n k))]):FnD P f args [] (.d (.sl xs)) []:=by
 intro G w vals hok;refine(h G w vals hok).mono ?_;rintro e w' ⟨v,r',hp',G',rfl,⟨rfl,rfl⟩,hret⟩
 refine⟨v,_,_,G',rfl,⟨rfl,rfl⟩, ?_,fun id x hx=>(by cases hx),fun id id' h1=>(by cases h1),fun id h1=>(by cases h1),hret.frm,hret.top,fun id hi=>(by simp[zbr,getH] at hi)⟩;have:=hret.res;cases this with
 |gl h1 h2=>exact .d h1
theorem FnD.gvRen {P:Program}{f:FuncId}{i k:Nat} (j:Nat){args:List AV}{xs:List (List D)} (h:FnD P f args [] (.gv i xs) [(i,some (.tok xs.length k))]):FnD P f args [] (.gv j xs) [(j,some (.tok xs.length k))]:=by
 intro G w vals hok;refine(h G w vals hok).mono ?_;rintro e w' ⟨v,r',hp',G',rfl,⟨rfl,rfl⟩,hret⟩
 have gi:getH ([(i,some (Res.tok xs.length k))]++[]) i=some (.tok xs.length k):=by simp[getH]
 have gj:∀x,(getH ([(j,some (Res.tok xs.length k))]++[]) x).isSome->x=j:=fun x hx=>by
  by_cases e:j=x
  ·exact e.symm
  ·simp[getH,zcp e] at hx
 have Ti:tokf ([(i,some (Res.tok xs.length k))]++[]) i=some (xs.length,k):=zak.2 gi;let G2:Gh:={ G' with loc:=fun x=>G'.loc i }
 refine⟨v,_,_,G2,rfl,⟨rfl,rfl⟩, ?_,fun id x hx=>?_,fun id id' h1 h2 hne=>absurd ((gj id h1).trans (gj id' h2).symm) hne,fun id h1 b hb=>hret.new i (by rw[gi];rfl) b hb,hret.frm,hret.top,fun id hi=>(by simp[zbr,getH] at hi)⟩
 ·have:=hret.res;cases this with
  |gv hv h2=>
   refine .gv hv (fun n' k' hT'=>?_);have hT2:=zak.1 hT';have e1:Res.tok xs.length k=Res.tok n' k':=by simp[getH] at hT2;rw[hT2.1,hT2.2]
   cases e1
   obtain⟨q1,q2⟩:=h2 _ _ Ti;refine⟨q1,fun hn'=>⟨(q2 hn').1, ?_⟩⟩;have:=(q2 hn').2;unfold TipV at this ⊢;exact this
 ·have e1:=gj id (by rw[hx];rfl);subst e1;have e2:x=Res.tok xs.length k:=by simp[getH] at hx;exact hx.symm
  subst e2;intro b hb;exact hret.heap i _ gi b hb
theorem xaL {P:Program}{f:FuncId}{i k:Nat}{args:List AV}{xs:List (List D)} (h:FnD P f args [] (.gv i xs) [(i,some (.tok xs.length k))]):FnD P f args [] (.d (.sl xs)) []:=by
 intro G w vals hok;refine(h G w vals hok).mono ?_;rintro e w' ⟨v,r',hp',G',rfl,⟨rfl,rfl⟩,hret⟩
 have gi:getH ([(i,some (Res.tok xs.length k))]++[]) i=some (.tok xs.length k):=by simp[getH]
 have Ti:tokf ([(i,some (Res.tok xs.length k))]++[]) i=some (xs.length,k):=zak.2 gi;have hown:∀b,b∉zbE G []:=fun b hb=>by simp[zbE] at hb
 have hnew:∀b,b∈G'.loc i->w.heap.size<=b:=fun b hb=>(hret.new i (by rw[gi];rfl) b hb).resolve_left (hown b);have hlt:∀b,b∈G'.loc i->b<w'.heap.size:=hret.heap i _ gi;have hres:=hret.res;obtain⟨hv,hcl⟩:=hres.gv_inv;obtain⟨hkx,htip⟩:=(hcl _ _ Ti).2 rfl;rcases htip with ⟨_,q2,q3⟩|⟨bl,cap,cs,et,q1,q2,q3,q4,q5,q6,q7⟩
 ·have hxs:xs=[]:=List.eq_nil_of_length_eq_zero q2;subst hxs;refine⟨v,_,_,G',rfl,⟨rfl,rfl⟩, ?_,fun id x hx=>(by cases hx),fun id id' h1=>(by cases h1),fun id h1=>(by cases h1),hret.frm,hret.top,fun id hi=>(by simp[zbr,getH] at hi)⟩;rw[q3];exact .d .nil
 ·let G2:Gh:={ G' with F:=fun x=>bif Nat.beq x bl then cs.size else G'.F x }
  have hin:G2.F bl=cs.size:=by simp[G2]
  have hout:∀x,x≠bl->G2.F x=G'.F x:=fun x hx=>by simp[G2,zcp hx]
  have hbl:bl∈G'.loc i:=by rw[q1];simp
  have hle:∀b o,o<G'.F b->o<G2.F b:=fun x o ho=>by
   by_cases hx:x=bl
   ·subst hx;rw[q3] at ho;omega
   ·rw[hout x hx];exact ho
  refine⟨v,_,_,G2,rfl,⟨rfl,rfl⟩, ?_,fun id x hx=>(by cases hx),fun id id' h1=>(by cases h1),fun id h1=>(by cases h1), ?_,fun x hx=>?_,fun id hi=>(by simp[zbr,getH] at hi)⟩
  ·rw[q2];have hsz:xs.length*k<=cs.size:=Nat.le_trans (xav _ q6) q5;refine .d (.sl xs k bl 0 cap (fun n=>cs.getD n undef) hkx q6 (fun q hq=>⟨by rw[hin];omega, ?_⟩) (fun q hq jj hj=>?_))
   ·have:q<cs.size:=by omega
    simp[World.cell?,q4,this]
   ·exact(q7 q hq jj hj).mono (fun b o ho=>⟨hle b o ho,rfl⟩)
  ·have hf:=hret.frm;exact⟨hf.os,hf.tape,hf.output,hf.size,fun x hx hn=>⟨(hf.block x hx hn).1,by
    rw[hout x (fun e=>by subst e;have:=hnew x hbl;omega)];exact(hf.block x hx hn).2⟩,fun x o ho=>⟨hle x o (hf.cell x o ho).1,(hf.cell x o ho).2⟩⟩
  ·by_cases hx':x=bl
   ·subst hx';have:=hlt x hbl;omega
   ·rw[hout x hx'];exact hret.top x hx
theorem xaU (l:List Pat):Pat.cs l=l.map Pat.cc:=by
 rw[xaV];exact List.map_congr_left (fun v _=>xaS v)
theorem zhK (l:List Pat):∀x∈Pat.cs l,x.length=6:=xaX
theorem zlZ (l:List Pat):∀x∈l.map Pat.cc,x.length=6:=fun x hx=>by
 obtain⟨y,_,rfl⟩:=List.mem_map.1 hx;rfl
theorem zdx:∀(n:Nat){p:Pat},p.size<=n->p.ok->FnD Tryz.prog 150 [.agg [.d (.i p.op),.d (.i p.ctor),.d (.i p.n),.d (.i p.m),.d (.i p.var),.d (zau p.kids)]] [] (.d (.i (cntS p))) []
 |0,p,h,_=>by rw[xaZ] at h;omega
 |n+1,p,h,hok=>by
  rw[xaZ] at h;rw[xaY] at hok;have hok1:=hok.1;have hbd:=fun i=>zlF (nth p.kids i);by_cases h5:p.op=5
  ·rw[zlG,if_pos h5];refine bd Tryz.f150 31 [] [] fun _ _ _ _ hk=>?_;refine bx 3001 ?_;refine ev ?_;apply sq<;>intro h1 h1p h1s;refine xaD (ι:=Nat×Int) hk (fun x=>[(12,.d (.i (x.1:Int))),(3,.d (.i x.2))]) [5,13,14,15,16,17,18,19,20,21,22,23,24,25,26,27,28,29] (fun x=>[]) (fun x=>x.1<=p.kids.length/\cntO (p.kids.drop x.1) x.2=cntO p.kids 0/\0<=x.2/\x.2<=401) (fun x=>p.kids.length-x.1) (0,0) ⟨by simp,Z,by simp,by simp⟩ ⟨⟨_,Z,xaQ ?_⟩,⟨⟨_,Z,xaQ ?_⟩,I⟩⟩ I (fun x=>rfl) (fun x hg1=>?_);iterate 2 focus (rfl)
   refine evc [] [] ?_;apply sq<;>intro h2 h2p h2s<;>(try simp only[Q,xaW] at h2p);refine ixq sl72 Z Z Z (zaS od) Z ?_;refine ev (ab 3005 tz74 ?_);refine so ty74 ?_;apply tv;apply sq<;>intro h3 h3p h3s<;>(try simp only[Q,xaW] at h3p);refine wc znn (zdx n (p:=nth p.kids x.1) (by have:=xa2 (zai (l:=p.kids) (i:=x.1) od);omega) (xa0 hok.2 _ (zai od))) Z Z ?_;refine ev (ar ?_ (by(have hb:=hbd x.1;constructor<;>omega)));refine xbO .none Z Z Z (ev (ar ?_ (by(constructor<;>omega))));refine xaj ((x.1+1,cap (x.2+cntS (nth p.kids x.1)))) ⟨(by
        have hb:=hbd x.1;have hc:=zft (x:=x.2+cntS (nth p.kids x.1)) od;exact⟨by dsimp only;omega,by dsimp only;rw[<-zqe od];exact hg1.2.1,hc.1,hc.2⟩),(by dsimp only;omega),sx ⟨⟨_,rfl,xaQ ?_⟩,⟨⟨_,rfl,xaQ ?_⟩,trivial⟩⟩ trivial⟩
   iterate 2 focus (rfl)
   exfalso;omega;refine rq ?_;rotate_left;try simp only[Q,xaW] at h1p
   exfalso;omega;all_goals (refine xam D.i ?_;rw[<-hg1.2.1,List.drop_eq_nil_of_le od];rfl)
  ·rw[zlG,if_neg h5];refine bd Tryz.f150 31 [] [] fun _ _ _ _ hk=>?_;refine bx 3001 ?_;refine ev ?_;apply sq<;>intro h1 h1p h1s;try simp only[Q,xaW] at h1p
   exfalso;omega;refine xaD (ι:=Nat×Int) hk (fun x=>[(12,.d (.i (x.1:Int))),(3,.d (.i x.2))]) [5,13,14,15,16,17,18,19,20,21,22,23,24,25,26,27,28,29] (fun x=>[]) (fun x=>x.1<=p.kids.length/\cntM (p.kids.drop x.1) x.2=cntM p.kids 1/\0<=x.2/\x.2<=401) (fun x=>p.kids.length-x.1) (0,1) ⟨by simp,Z,by simp,by simp⟩ ⟨⟨_,Z,xaQ ?_⟩,⟨⟨_,Z,xaQ ?_⟩,I⟩⟩ I (fun x=>rfl) (fun x hg1=>?_);iterate 2 focus (rfl)
   refine evc [] [] ?_;apply sq<;>intro h2 h2p h2s<;>(try simp only[Q,xaW] at h2p);refine ixq sl72 Z Z Z (zaS od) Z ?_;refine ev (ab 3005 tz74 ?_);refine so ty74 ?_;apply tv;apply sq<;>intro h3 h3p h3s;try simp only[Q,xaW] at h3p
   exfalso;omega;refine wc znn (zdx n (p:=nth p.kids x.1) (by have:=xa2 (zai (l:=p.kids) (i:=x.1) od);omega) (xa0 hok.2 _ (zai od))) Z Z ?_;refine ev (ar ?_ (by(have hb:=hbd x.1;have h3:=Int.mul_le_mul hg1.2.2.2 hb.2 hb.1 od;have h4:=Int.mul_nonneg hg1.2.2.1 hb.1;constructor<;>omega)));refine xbO .none Z Z Z (ev (ar ?_ (by(constructor<;>omega))));refine xaj ((x.1+1,cap (x.2*cntS (nth p.kids x.1)))) ⟨(by
        have hb:=hbd x.1;have hc:=zft (x:=x.2*cntS (nth p.kids x.1)) (Int.mul_nonneg hg1.2.2.1 hb.1);exact⟨by dsimp only;omega,by dsimp only;rw[<-zqd od];exact hg1.2.1,hc.1,hc.2⟩),(by dsimp only;omega),sx ⟨⟨_,rfl,xaQ ?_⟩,⟨⟨_,rfl,xaQ ?_⟩,trivial⟩⟩ trivial⟩
   iterate 2 focus (rfl)
   refine rq ?_;rotate_left;all_goals (refine xam D.i ?_;rw[<-hg1.2.1,List.drop_eq_nil_of_le od];rfl)
theorem zih {xs:List Pat} (hs:xs.length<=1000000000000):FnD Tryz.prog 197 [.d (zau xs)] [] (.gl 77 (Pat.cs xs)) [(77,some (.tok (Pat.cs xs).length 6))]:=by
 refine Fn.body (fn:=Tryz.f197) (n:=8) Z Z Z Z Z (fun _ _ _ _ hk=>?_);refine xaH 0 Z (fun hx0=>?_) ?_;refine evc [2,4] [] (asg ?_);apply tv;refine xbC sl72 .none Z Z ?_;apply tv;refine sqT ?_;refine xbs 77 6 .none Z Z ?_;apply tv;refine rn [(77,some (.tok (Pat.cs xs).length 6))] (r1 Z) (.glg ?_) ⟨Z,Z⟩ (SubH.get ⟨?_,I⟩) (zaX Z);rotate_left 2;refine evc [2,4] [] (asg ?_);apply tv;refine xbB sl72 .none Z Z ?_;apply tv;refine sqF ?_;refine xbX 77 sl72 .none Z Z (evs [2,4] [] (ap sl72 zz74 Z Z Z (by intro y hy;rw[xaU] at hy;obtain⟨z,_,rfl⟩:=List.mem_map.1 hy;rfl) o8 ?_));refine asg ?_;apply tv;refine rn [(77,some (.tok (Pat.cs xs).length 6))] (r1 Z) (.glg ?_) ⟨Z,Z⟩ (SubH.get ⟨?_,I⟩) (zaX Z);rotate_left 2;all_goals (first|((first|rfl|exact hx0.symm|(simp;done));done)|(first|rfl|(simp[hx0];rfl)|(simp;rfl)))
def zc7 (C:List Pat) (q:Pat):List Pat:=C.map fun c=> .mk q.op q.ctor q.n q.m q.var (q.kids++[c])
theorem zpq {ls:List (List Pat)}{C:List Pat}{a b c d e:Int}:((zdm ls).map (fun l=>Pat.mk a b c d e l)).flatMap (zc7 C)=(zdm (ls++[C])).map (fun l=>Pat.mk a b c d e l):=by
 rw[zpx];unfold za4 zc7;rw[List.flatMap_map,List.map_flatMap];congr 1
 funext q
 simp[zpu,zlW,mk_n,mk_m,znL,zhn]
def zbY (p:Pat) (i:Nat):List Pat:=(zdm ((p.kids.take i).map zaE)).map fun l=>Pat.mk p.op p.ctor p.n p.m p.var l
theorem zri (p:Pat):zbY p 0=[.mk p.op p.ctor p.n p.m p.var []]:=by unfold zbY;simp[zdm]
theorem zoq {p:Pat}{i:Nat} (h:i<p.kids.length):(zbY p i).flatMap (zc7 (zaE (nth p.kids i)))=zbY p (i+1):=by
 unfold zbY;rw[zpq,List.take_succ_eq_append_getElem h,xag,<-zaD h];rfl
theorem zpo {p:Pat}{i:Nat} (h5:p.op≠5) (h:p.kids.length<=i):zbY p i=zaE p:=by
 unfold zbY;rw[zem h5,List.take_of_length_le h]
theorem zpp {n:Nat}{p:Pat} (h:binP (n+1) p=true) (h5:p.op≠5) (i:Nat):(zbY p i).length<=(zaE p).length:=by
 unfold zbY;rw[xac];exact zov h h5 i
theorem zop {p:Pat}{i:Nat}{q:Pat} (h:q∈zbY p i):q.kids.length<=p.kids.length:=by
 unfold zbY at h;obtain⟨l,hl,rfl⟩:=List.mem_map.1 h;obtain⟨q0,hq,r,e,hlr,_⟩:=zgM _ _ _ hl;rw[List.mem_singleton] at hq;rw[hq,List.nil_append] at e;rw[zhn,e,hlr];simp;omega
theorem zmo {α β:Type}{f:α->List β}{k:Nat} (hf:∀x,(f x).length<=k):∀l:List α,(l.flatMap f).length<=l.length*k
 | []=>by simp
 |x::r=>by
  rw[List.flatMap_cons,xaa,xab,Nat.succ_mul];have:=hf x;have:=zmo hf r;omega
theorem zd9:∀(n:Nat){p:Pat},binP n p=true->p.ok->(zaE p).length<=40->FnD Tryz.prog 151 [.agg [.d (.i p.op),.d (.i p.ctor),.d (.i p.n),.d (.i p.m),.d (.i p.var),.d (zau p.kids)]] [] (.gl 9 (Pat.cs (zaE p))) [(9,some (.tok (Pat.cs (zaE p)).length 6))]
 |0,p,h,_,_=>by simp[binP] at h
 |n+1,p,h,hok,hlen=>by
  have hok':=(xaY p).1 hok;have hok1:=hok'.1;by_cases h5:p.op=5
  ·have hl:=zjj h h5;have e5:=zfc h5 hl;have l0:=zgR h (i:=0) od;have l1:=zgR h (i:=1) od;have c0:=zd9 n (zdI h (i:=0) od) (xa0 hok'.2 _ (zai od)) od;have c1:=FnD.glD (zd9 n (zdI h (i:=1) od) (xa0 hok'.2 _ (zai od)) od);rw[e5];refine bd Tryz.f151 70 [] [] fun _ _ _ _ hk=>?_;refine bx 3001 ?_;refine ev ?_;apply sq<;>intro h1 h1p h1s<;>(try simp only[Q,xaW] at h1p);refine ixq (i:=0) sl72 Z Z Z (zaS od) Z ?_;refine evd [] [] (Walk.call (cr:=[9]) zku c0 Z .none Z Z (LeL.refl _) I Z Z Z (evd [] [] (ixq (i:=1) sl72 Z Z Z (zaS od) Z ?_)));refine evd [] [] (wc zku c1 Z Z ?_);refine ap sl72 zz74 Z Z Z (by intro x hx;exact zhK _ x hx) o8 ?_;refine evd [] [] (dr (rn [(9,some (.tok (Pat.cs (zaE (nth p.kids 0)++zaE (nth p.kids 1))).length 6))] (r1 Z) (.glg ?_) ⟨Z,Z⟩ (SubH.get ⟨?_,I⟩) (zaX Z)));rotate_left 2;exfalso;omega;all_goals (first|((first|rfl|(simp[xaU];done));done)|(first|rfl|(simp[xaU];rfl)))
  ·have hfl:=zpp h h5;have hfk:=fun(i:Nat) (q:Pat) (hq:q∈zbY p i)=>zop hq;have hf0:=zri p;have hfe:=fun(i:Nat) (hi:p.kids.length<=i)=>zpo h5 hi;have hfn:=fun(i:Nat) (hi:i<p.kids.length)=>zoq hi;have hcal:=fun(i:Nat) (hi:i<p.kids.length)=>FnD.glD (zd9 n (zdI h hi) (xa0 hok'.2 _ (zai hi)) (by have:=zgR h hi;omega));have hcl:=fun(i:Nat) (hi:i<p.kids.length)=>zgR h hi;have hgl:=fun(C:List Pat) (q:Pat)=>show(zc7 C q).length<=C.length from by unfold zc7;simp
   generalize zaE p=SP at *;refine bd Tryz.f151 70 [8] [10,23] fun _ _ _ _ hk=>?_;refine bx 3001 ?_;refine evs [8] [] ?_;apply sq<;>intro h1 h1p h1s<;>(try simp only[Q,xaW] at h1p);exfalso;omega;refine so ty72 ?_;apply tv;refine xbZ 9 sl72 tz74 Z oj (ks:=[0]) (xs:=[_]) Z Z oj oj .none Z Z Z Z Z ?_;refine evs [8] [] (xaD (ι:=Nat) hk (fun i=>[(35,.d (.i (i:Int))),(4,.gl 9 ((zbY p i).map Pat.cc)),(32,.any)]) [6,7,8,10,12,13,36,37,38,39,40,41,42,43,44,45,46,47,48,49,50,51,52,53,54,55,56,57,58,59,60,61,62,63,64,65,66,67,68] (fun i=>[(9,some (.tok (((zbY p i).map Pat.cc)).length 6))]) (fun i=>i<=p.kids.length) (fun i=>p.kids.length-i) 0 od ⟨⟨_,Z,xaQ ?_⟩,⟨⟨_,Z,LeA.glg ?_⟩,⟨⟨_,Z,.any _⟩,I⟩⟩⟩ ⟨zac ?_,I⟩ (fun x=>rfl) (fun i hg1=>?_));iterate 3 focus (rfl)
   refine evc [8] [10,23] ?_;apply sq<;>intro h2 h2p h2s<;>(try simp only[Q,xaW] at h2p);refine ixq sl72 Z Z Z (zaS od) Z ?_;refine evs [8] [] (ab 3006 tz74 ?_);refine so ty74 ?_;apply tv;refine wc zku (hcal i od) Z Z ?_;refine evs [8] [] (CWp.tokDrop 4 9 Z Z (evc [8] [] (xbs 3 6 .none Z Z ?_)));apply tv;refine xaD (ι:=List (Pat)×List (Pat)) hk (fun x=>[(43,.d (.i (x.1.length:Int))),(8,.gl 3 ((x.1.flatMap (zc7 (zaE (nth p.kids i)))).map Pat.cc))]) [10,12,13,44,45,46,47,48,49,50,51,52,53,54,55,56,57,58,59,60,61,62,63,64,65,66] (fun x=>[(3,some (.tok (((x.1.flatMap (zc7 (zaE (nth p.kids i)))).map Pat.cc)).length 6))]) (fun x=>x.1++x.2=zbY p i) (fun x=>x.2.length) ([],zbY p i) og ⟨⟨_,Z,xaQ ?_⟩,⟨⟨_,Z,LeA.glg ?_⟩,I⟩⟩ ⟨zac ?_,I⟩ (fun x=>rfl) (fun x hg2=>?_);iterate 3 focus (rfl)
   obtain⟨pre2,rest2⟩:=x;dsimp only at hg2 ⊢;refine evc [8] [10,23] ?_;apply sq<;>intro h3 h3p h3s<;>(try simp only[Q,xaW] at h3p);rcases rest2 with _|⟨q,rest2⟩
   ·exfalso;simp_all
   have hqk:=hfk i q (by rw[<-hg2];simp);have hl2:=xam List.length hg2;simp only[xaa,xab] at hl2;have hl2b:=hfl i;refine ixq sl72 Z Z Z (zaL hg2) Z (evs [8] [] (ab 3010 tz74 ?_));refine so ty74 ?_;apply tv;refine xaD (ι:=List (Pat)×List (Pat)) hk (fun x=>[(49,.d (.i (x.1.length:Int))),(8,.gl 3 ((pre2.flatMap (zc7 (zaE (nth p.kids i)))++zc7 x.1 q).map Pat.cc))]) [12,13,50,51,52,53,54,55,56,57,58,59,60,61,62,63,64,65] (fun x=>[(3,some (.tok (((pre2.flatMap (zc7 (zaE (nth p.kids i)))++zc7 x.1 q).map Pat.cc)).length 6))]) (fun x=>x.1++x.2=zaE (nth p.kids i)) (fun x=>x.2.length) ([],zaE (nth p.kids i)) og ⟨⟨_,Z,xaQ ?_⟩,⟨⟨_,Z,LeA.glg ?_⟩,I⟩⟩ ⟨zac ?_,I⟩ (fun x=>rfl) (fun x hg3=>?_);iterate 3 focus ((simp[zc7];done))
   obtain⟨pre3,rest3⟩:=x;dsimp only at hg3 ⊢;refine evc [8] [10,23] ?_;apply sq<;>intro h4 h4p h4s<;>(try simp only[Q,xaW] at h4p);rcases rest3 with _|⟨y,rest3⟩
   ·exfalso;simp_all
   have hl3:=xam List.length hg3;simp only[xaa,xab] at hl3;have hl3b:=hcl i od;refine ixq sl72 Z Z Z (xaT hg3) Z (evs [8] [] (ab 3012 tz74 ?_));refine so ty74 ?_;apply tv;refine ab 3013 tz74 ?_;refine so ty74 ?_;apply tv;refine Walk.call (cr:=[77]) zs1 (zih (xs:=q.kids) od) Z .none Z Z (LeL.refl _) I Z Z Z ?_;refine evd [8] [] (si [0] [_] sl72 tz74 ?_);refine ap sl72 zz74 Z Z Z (by intro x hx;first|(simp at hx;subst hx;rfl)|exact zlZ _ x hx) (by first|(simp;omega)|(simp only[xaW,xaa,xab,xak];omega)) ?_;refine evd [8] [] (so ty72 ?_);refine dr (si [0] [_] sl72 tz74 ?_);refine ap sl72 zz74 Z Z Z (by intro x hx;first|(simp at hx;subst hx;rfl)|exact zhK _ x hx) (by first|(simp;omega)|(have h10:=hgl pre3 q;have h8:=xam List.length hg2;have h9:=xam List.length hg3;have h7:=zmo (hgl (zaE (nth p.kids i))) pre2;have h6:=hfl i;have h5:=hcl i od;simp only[xaa,xab,xac,xak] at *;have h4:pre2.length*(zaE (nth p.kids i)).length<=40*40:=Nat.mul_le_mul od od;omega)) ?_;refine asg ?_;apply tv;refine ar (xaj ((pre3++[y],rest3)) ⟨(by have hz:=hg3;rw[<-hz];simp),og,sx ⟨⟨_,Z,xaQ ?_⟩,⟨⟨_,Z,LeA.glg ?_⟩,I⟩⟩ ⟨zac ?_,I⟩⟩);iterate 3 focus (first|(simp[zc7];omega)|(simp[zc7,zpu,zlW,mk_n,mk_m,znL,zhn,xaU];done))
   have hrest3:rest3=[]:=by
    rcases rest3 with _|⟨a,b⟩
    ·rfl
    ·exfalso;have hz:=xam List.length (hg3);simp only[xaa,xab,xac] at hz;omega
   subst hrest3;refine ar (xaj ((pre2++[q],rest2)) ⟨(by have hz:=hg2;rw[<-hz];simp),og,sx ⟨⟨_,Z,xaQ ?_⟩,⟨⟨_,Z,LeA.glg ?_⟩,I⟩⟩ ⟨zac ?_,I⟩⟩);iterate 3 focus (first|(simp;done)|(rw[xaq] at hg3;rw[List.flatMap_append,xag];simp[zc7,<-hg3];done))
   have hrest2:rest2=[]:=by
    rcases rest2 with _|⟨a,b⟩
    ·rfl
    ·exfalso;have hz:=xam List.length (hg2);simp only[xaa,xab,xac] at hz;omega
   subst hrest2;refine CWp.tokRen 4 3 9 Z Z oi ?_;refine evc [8] [] (ar ?_);rw[xaq] at hg2;refine xaj (i+1) ⟨od,od,sx ⟨⟨_,Z,xaQ ?_⟩,⟨⟨_,Z,LeA.glg ?_⟩,⟨⟨_,Z,.any _⟩,I⟩⟩⟩ ⟨zac ?_,I⟩⟩;iterate 3 focus (first|rfl|(rw[<-hfn i od,<-hg2];done))
   refine rn [(9,some (.tok (Pat.cs SP).length 6))] (r1 Z) (.glg ?_) ⟨Z,Z⟩ (SubH.get ⟨?_,I⟩) (zaX Z);rotate_left 2;all_goals ((((rw[<-hfe i od,show Pat.cs (zbY p i)=(zbY p i).map Pat.cc from xaU _];all_goals rfl));done))
abbrev zd6 (o:List Pat):List D:=[.sl (Pat.cs o)]
abbrev zgm (ls:List (List Pat)):D:= .sl (ls.map zd6)
theorem zpI {N:Nat} (acc:List (List Pat)) (l:List Pat):(za4 (acc.take N) l).take N=(za4 acc l).take N:=by
 by_cases h:acc.length<=N
 ·rw[List.take_of_length_le h]
 have e0:∀a:List (List Pat),za4 a []=[]:=fun a=>by unfold za4;simp
 cases l with
 |nil=>rw[e0,e0]
 |cons c r=>
  have e:za4 acc (c::r)=za4 (acc.take N) (c::r)++za4 (acc.drop N) (c::r):=by
   unfold za4;rw[<-List.flatMap_append,List.take_append_drop]
  rw[e,zdD];rw[zfD,List.length_take,Nat.min_eq_left od,xab];exact Nat.le_mul_of_pos_right _ od
theorem zpJ {N:Nat} (acc:List (List Pat)) (l:List Pat):(za4 acc (l.take N)).take N=(za4 acc l).take N:=by
 by_cases h:l.length<=N
 ·rw[List.take_of_length_le h]
 cases acc with
 |nil=>rfl
 |cons q r=>
  have e:∀l:List Pat,za4 (q::r) l=l.map (fun c=>q++[c])++za4 r l:=fun l=>by unfold za4;rw[List.flatMap_cons]
  rw[e,e,zdD (by rw[xac,List.length_take];omega),zdD (by rw[xac];omega),List.map_take,List.take_take,Nat.min_self]
def tupQ (m:Nat) (ls:List (List Pat)):List (List Pat):=ls.foldl (fun acc l=>(za4 acc l).take (m+1)) [[]]
theorem zje (m:Nat) (ls:List (List Pat)) (l:List Pat):tupQ m (ls++[l])=(za4 (tupQ m ls) l).take (m+1):=by
 unfold tupQ;rw[List.foldl_append];rfl
theorem zog (m:Nat):∀(ls:List (List Pat)) (acc:List (List Pat)),(ls.map (List.take (m+1))).foldl (fun acc l=>(za4 acc l).take (m+1)) (acc.take (m+1))=(ls.foldl za4 acc).take (m+1)
 | [],acc=>rfl
 |l::r,acc=>by
  rw[xaf,List.foldl_cons,List.foldl_cons,zpJ,zpI];exact zog m r (za4 acc l)
theorem zsq (m:Nat) (ls:List (List Pat)):tupQ m (ls.map (List.take (m+1)))=(zdm ls).take (m+1):=by
 have h:=zog m ls [[]];have e:([[]]:List (List Pat)).take (m+1)=[[]]:=by simp
 rw[e] at h;exact h
theorem zoe (m:Nat) (ls:List (List Pat)):(tupQ m ls).length<=m+1:=by
 have key:∀(ls acc:List (List Pat)),acc.length<=m+1->(ls.foldl (fun acc l=>(za4 acc l).take (m+1)) acc).length<=m+1:=by
  intro ls;induction ls with
  |nil=>intro acc h;exact h
  |cons l r ih=>intro acc h;exact ih _ (by rw[List.length_take];omega)
 exact key ls [[]] og
theorem zof (m:Nat){ls:List (List Pat)}{o:List Pat} (h:o∈tupQ m ls):o.length=ls.length:=by
 have key:∀(ls acc:List (List Pat)) (n:Nat),(∀o∈acc,o.length=n)->∀o∈ls.foldl (fun acc l=>(za4 acc l).take (m+1)) acc,o.length=n+ls.length:=by
  intro ls;induction ls with
  |nil=>intro acc n h o ho;exact h o ho
  |cons l r ih=>
   intro acc n h o ho;have:=ih _ (n+1) (fun o' ho'=>by
    have ho':=List.mem_of_mem_take ho';unfold za4 at ho';simp only[List.mem_flatMap,List.mem_map] at ho';obtain⟨p,hp,q,_,rfl⟩:=ho';simp[h p hp]) o ho
   simp only[xab];omega
 have:=key ls [[]] 0 og o h;simpa using this
def zjv (l:List Pat) (o:List Pat):List (List Pat):=l.map fun y=>o++[y]
theorem zl9 (acc:List (List Pat)) (l:List Pat):za4 acc l=acc.flatMap (zjv l):=rfl
theorem zoa {X:List (List Pat)}{l:List Pat}{o:List Pat}{j m:Nat} (hc:¬j<l.length\/¬((X++(l.take j).map fun y=>o++[y]).take (m+1)).length<=m):
  (X++(l.take j).map fun y=>o++[y]).take (m+1)=(X++zjv l o).take (m+1):=zma hc
theorem zrC {α:Type}{N:Nat} (a b:List α):(a.take N++b.take N).take N=(a++b).take N:=by
 by_cases h:a.length<=N
 ·rw[List.take_of_length_le h,List.take_append,List.take_append,List.take_take,Nat.min_eq_left od]
 ·rw[zdD (by rw[List.length_take];omega),zdD od,List.take_take,Nat.min_self]
def zae (p:Pat):List Pat:=(zaE p).take 401
theorem zrz {p:Pat} (h:p.op=5) (hk:p.kids.length=2):zae p=(zae (nth p.kids 0)++zae (nth p.kids 1)).take 401:=by
 unfold zae;rw[zfc h hk,zrC]
theorem zrA {p:Pat} (h:p.op≠5):zae p=(tupQ 400 (p.kids.map zae)).map fun l=> .mk p.op p.ctor p.n p.m p.var l:=by
 unfold zae;rw[zem h,<-List.map_take];congr 1
 have:=zsq 400 (p.kids.map zaE);rw[List.map_map] at this;exact this.symm
theorem zdQ (p:Pat):(zae p).length<=401:=by unfold zae;rw[List.length_take];omega
theorem o5{p:Prop}(h:p:=by intro z hz;first|(rw[xaU] at hz;obtain⟨_,_,rfl⟩:=List.mem_map.1 hz;rfl)|(simp at hz;rw[hz];rfl)):p:=h
theorem zkk {ls:List (List Pat)} (hl:ls.length<=1000000000000) (hls:∀l∈ls,l.length<=1000000000000):FnD Tryz.prog 141 [.d (zgm ls)] [] (.d (zgm (tupQ 400 ls))) []:=by
 refine bd Tryz.f141 62 [] [] fun _ _ _ _ hk=>?_;refine xbW sl72 .none Z (si [0] [_] zdn tz72 ?_);refine ev (xaD (ι:=List (List Pat)×List (List Pat)) hk (fun x=>[(4,.d (.i (x.1.length:Int))),(3,.d (.sl ((tupQ 400 x.1).map zd6)))]) [5,6,7,10,11,12,13,14,15,16,17,18,19,20,21,22,23,24,25,26,27,28,29,30,31,32,33,34,35,36,37,38,39,40,41,42,43,44,45,46,47,48,49,50,51,52,53,54,55,56,57,58,59,60] (fun x=>[]) (fun x=>x.1++x.2=ls) (fun x=>x.2.length) ([],ls) og ⟨⟨_,Z,xaQ ?_⟩,⟨⟨_,Z, ?_⟩,I⟩⟩ I (fun x=>rfl) (fun x hg1=>?_));focus (first|rfl|(simp;done))
 focus (first|exact LeA.refl _|((first|refine LeA.gld ?_|refine LeA.nild ?_);first|rfl|(simp;done)|(rw[zje,zl9,zbv od])))
 obtain⟨pre,rest⟩:=x;dsimp only at hg1 ⊢;refine evc [] [] ?_;apply sq<;>intro h1 h1p h1s<;>(try simp only[Q,xaW,Int.ofNat_lt,Int.ofNat_le] at h1p);rcases rest with _|⟨l,rest⟩
 ·exfalso;simp_all
 have hll:=hls l (by rw[<-hg1];simp);have htl:=zoe 400 pre;refine xbX 3 zdn .none Z Z (ev (xaD (ι:=Nat) hk (fun k=>[(6,.d (.i (k:Int))),(5,.gl 3 (((((tupQ 400 pre).take k).flatMap (zjv l)).take (400+1)).map zd6))]) [7,17,18,19,20,21,22,23,24,25,26,27,28,29,30,31,32,33,34,35,36,37,38,39,40,41,42,43,44,45,46,47,48,49,50,51,52,53,54,55,56,57,58,59] (fun k=>[(3,some (.tok ((((((tupQ 400 pre).take k).flatMap (zjv l)).take (400+1)).map zd6)).length 1))]) (fun k=>k<=(tupQ 400 pre).length) (fun k=>(tupQ 400 pre).length-k) 0 og ⟨⟨_,Z,xaQ ?_⟩,⟨⟨_,Z,LeA.glg ?_⟩,I⟩⟩ ⟨zac ?_,I⟩ (fun x=>rfl) (fun k hg2=>?_)));iterate 3 focus (first|rfl|(simp;done))
 refine evc [] [] ?_;apply sq<;>intro h2 h2p h2s<;>(try simp only[Q,xaW,Int.ofNat_lt,Int.ofNat_le] at h2p);apply sq<;>intro h3 h3p h3s<;>(try simp only[Q,xaW,Int.ofNat_lt,Int.ofNat_le] at h3p);refine xaD (ι:=Nat) hk (fun j=>[(7,.d (.i (j:Int))),(5,.gl 3 (((((tupQ 400 pre).take k).flatMap (zjv l)++(l.take j).map (fun y=>nth (tupQ 400 pre) k++[y])).take (400+1)).map zd6))]) [28,29,30,31,32,33,34,35,36,37,38,39,40,41,42,43,44,45,46,47,48,49,50,51,52,53,54,55,56,57,58,59] (fun j=>[(3,some (.tok ((((((tupQ 400 pre).take k).flatMap (zjv l)++(l.take j).map (fun y=>nth (tupQ 400 pre) k++[y])).take (400+1)).map zd6)).length 1))]) (fun j=>j<=l.length) (fun j=>l.length-j) 0 og ⟨⟨_,Z,xaQ ?_⟩,⟨⟨_,Z,LeA.glg ?_⟩,I⟩⟩ ⟨zac ?_,I⟩ (fun x=>rfl) (fun j hg3=>?_);iterate 3 focus (first|rfl|(simp;done))
 have hol:=zof 400 (zai (l:=tupQ 400 pre) (i:=k) od);refine evc [] [] (ixq zdn Z Z Z (by first|exact zaL hg1|exact zao od) Z ?_);refine ev ?_;apply sq<;>intro h4 h4p h4s<;>(try simp only[Q,xaW,Int.ofNat_lt,Int.ofNat_le] at h4p);apply sq<;>intro h5 h5p h5s<;>(try simp only[Q,xaW,Int.ofNat_lt,Int.ofNat_le] at h5p);refine xbX 5 sl72 .none Z Z (evd [] [] (ixq zdn Z Z Z (by first|exact zaL hg1|exact zao od) Z ?_));refine evd [] [] (ap sl72 zz74 Z Z Z o5 (by first|(simp only[xac,xaa,xab,xak,xaW] at *;omega)) ?_);refine evd [] [] (ixq zdn Z Z Z (by first|exact zaL hg1|exact zao od) Z ?_);refine evd [] [] (ixq sl72 Z Z Z (zaS od) Z ?_);refine evd [] [] (si [0] [_] sl72 tz74 ?_);refine ap sl72 zz74 Z Z Z o5 (by first|(simp only[xac,xaa,xab,xak,xaW] at *;omega)) ?_;refine si [0] [_] zdn tz72 ?_;refine ap zdn zz72 Z Z Z o5 (by first|(simp only[xac,xaa,xab,xak,xaW] at *;omega)) ?_;refine evd [] [] (dr (ar (xaj (j+1) ⟨?_, ?_,sx ⟨⟨_,Z,xaQ ?_⟩,⟨⟨_,Z,LeA.glg ?_⟩,I⟩⟩ ⟨zac ?_,I⟩⟩)));iterate 2 focus (first|omega|(simp_all;done))
 iterate 3 focus (first|rfl|(simp;done)|(rw[zfe od od,xag];simp[xaU];done))
 refine ar (xaj (k+1) ⟨?_, ?_,sx ⟨⟨_,Z,xaQ ?_⟩,⟨⟨_,Z,LeA.glg ?_⟩,I⟩⟩ ⟨zac ?_,I⟩⟩);iterate 2 focus (first|omega|(simp_all;done))
 iterate 3 focus (first|rfl|(simp;done)|(rw[zcV od,zoa od]))
 refine sqF ?_;refine ar (xaj (k+1) ⟨?_, ?_,sx ⟨⟨_,Z,xaQ ?_⟩,⟨⟨_,Z,LeA.glg ?_⟩,I⟩⟩ ⟨zac ?_,I⟩⟩);iterate 2 focus (first|omega|(simp_all;done))
 iterate 3 focus (first|rfl|(simp;done)|(rw[zcV od,zoa od]))
 refine ar (xaj ((pre++[l],rest)) ⟨(by have hz:=hg1;rw[<-hz];simp),og,sx ⟨⟨_,Z,xaQ ?_⟩,⟨⟨_,Z, ?_⟩,I⟩⟩ I⟩);focus (first|rfl|(simp;done))
 focus (first|exact LeA.refl _|((first|refine LeA.gld ?_|refine LeA.nild ?_);first|rfl|(simp;done)|(rw[zje,zl9,zbv od])))
 refine sqF ?_;refine ar (xaj ((pre++[l],rest)) ⟨(by have hz:=hg1;rw[<-hz];simp),og,sx ⟨⟨_,Z,xaQ ?_⟩,⟨⟨_,Z, ?_⟩,I⟩⟩ I⟩);focus (first|rfl|(simp;done))
 focus (first|exact LeA.refl _|((first|refine LeA.gld ?_|refine LeA.nild ?_);first|rfl|(simp;done)|(rw[zje,zl9,zbv od])))
 have hrest:rest=[]:=by
  rcases rest with _|⟨a,b⟩
  ·rfl
  ·exfalso;have hz:=xam List.length (hg1);simp only[xaa,xab,xac] at hz;omega
 subst hrest;refine rq ?_;rotate_left;all_goals ((rw[xaq] at hg1);subst hg1;rfl)
theorem zcF:∀(n:Nat){p:Pat},binP n p=true->p.ok->FnD Tryz.prog 84 [.agg [.d (.i p.op),.d (.i p.ctor),.d (.i p.n),.d (.i p.m),.d (.i p.var),.d (zau p.kids)]] [] (.gv 9 (Pat.cs (zae p))) [(9,some (.tok (Pat.cs (zae p)).length 6))]
 |0,p,h,_=>by simp[binP] at h
 |n+1,p,h,hok=>by
  have hok':=(xaY p).1 hok;have hok1:=hok'.1;by_cases h5:p.op=5
  ·have hl:=zjj h h5;have e5:=zrz h5 hl;have l0:=zdQ (nth p.kids 0);have l1:=zdQ (nth p.kids 1);have c0:=zcF n (zdI h (i:=0) od) (xa0 hok'.2 _ (zai od));have c1:=xaL (zcF n (zdI h (i:=1) od) (xa0 hok'.2 _ (zai od)));rw[e5];generalize zae (nth p.kids 0)=A at *;generalize zae (nth p.kids 1)=C at *;by_cases hlen:(A++C).length<=401
   ·rw[List.take_of_length_le hlen];rw[xaa] at hlen;refine bd Tryz.f84 67 [25] [] fun _ _ _ _ hk=>?_;refine bx 3001 ?_;refine evs [25] [] ?_;apply sq<;>intro h1 h1p h1s<;>(try simp only[Q,xaW,xaa] at h1p);refine ixq (i:=0) sl72 Z Z Z (zaS od) Z ?_;refine evd [25] [] (Walk.call (cr:=[9]) zhw c0 Z .none Z Z (LeL.refl _) I Z Z Z (evd [25] [] (ixq (i:=1) sl72 Z Z Z (zaS od) Z ?_)));refine evd [25] [] (wc zhw c1 Z Z ?_);refine xbr sl72 zz74 .none Z Z Z Z (zbG Z (by(simp;done))) (by intro x hx;exact zhK _ x hx) o8 o8 ?_;refine evd [25] [] (dr (xbK sl72 .none Z Z (evs [25] [] ?_)));apply sq<;>intro h2 h2p h2s<;>(try simp only[Q,xaW,xaa] at h2p);exfalso;omega;refine rn [(9,some (.tok (Pat.cs (A++C)).length 6))] (r1 Z) (.gvg ?_) ⟨Z,Z⟩ (SubH.get ⟨?_,I⟩) (zaX Z);rotate_left 2;exfalso;omega;all_goals (first|((first|rfl|(simp[xaU];done));done)|(first|rfl|(simp[xaU];rfl)))
   ·have c8:=FnD.gvRen 8 c0;rw[xaa] at hlen;refine bd Tryz.f84 67 [25] [] fun _ _ _ _ hk=>?_;refine bx 3001 ?_;refine evs [25] [] ?_;apply sq<;>intro h1 h1p h1s<;>(try simp only[Q,xaW,xaa] at h1p);refine ixq (i:=0) sl72 Z Z Z (zaS od) Z ?_;refine evd [25] [] (Walk.call (cr:=[8]) zhw c8 Z .none Z Z (LeL.refl _) I Z Z Z (evd [25] [] (ixq (i:=1) sl72 Z Z Z (zaS od) Z ?_)));refine evd [25] [] (wc zhw c1 Z Z ?_);refine xbr sl72 zz74 .none Z Z Z Z (zbG Z (by(simp;done))) (by intro x hx;exact zhK _ x hx) o8 o8 ?_;refine evd [25] [] (dr (xbK sl72 .none Z Z (evs [25] [] ?_)));apply sq<;>intro h2 h2p h2s<;>(try simp only[Q,xaW,xaa] at h2p);refine Walk.cutV_h 9 (b:=401) sl72 .none Z Z (zbG Z (by(simp;done))) Z Z o8 o8 Z ?_;refine evs [25] [] (rn [(9,some (.tok (Pat.cs ((A++C).take 401)).length 6))] (r1 Z) (.gvg ?_) ⟨Z,Z⟩ (SubH.get ⟨?_,I⟩) (zaX Z));rotate_left 2;exfalso;omega;exfalso;omega;all_goals (first|((first|rfl|(simp[xaU];done));done)|(first|rfl|(show some (Res.tok _ _)=some (Res.tok _ _);simp[xaW];omega)))
  ·have hts:=zoe 400 (p.kids.map zae);have htm:=fun(i:Nat) (hi:i<(tupQ 400 (p.kids.map zae)).length)=>zof 400 (zai hi);have ht3:=zkk (ls:=p.kids.map zae) (by rw[xac];omega) (fun l hl=>by obtain⟨x,_,rfl⟩:=List.mem_map.1 hl;have:=zdQ x;omega);have hcal:=fun(i:Nat) (hi:i<p.kids.length)=>xaL (zcF n (zdI h hi) (xa0 hok'.2 _ (zai hi)));have hpl:=fun(y:Pat) (pre rest:List Pat) (e:pre++y::rest=p.kids)=>(show pre.length<p.kids.length/\nth p.kids pre.length=y from⟨by have:=xam List.length e;simp at this;omega,ztk e⟩);have hcal2:=fun(y:Pat) (pre rest:List Pat) (e:pre++y::rest=p.kids)=>show FnD Tryz.prog 84 [.agg [.d (.i y.op),.d (.i y.ctor),.d (.i y.n),.d (.i y.m),.d (.i y.var),.d (zau y.kids)]] [] (.d (.sl (Pat.cs (zae y)))) [] from by
    have hq:=hcal pre.length (hpl y pre rest e).1;rw[(hpl y pre rest e).2] at hq;exact hq
   have ht3':=fun(pre:List Pat) (e:pre++[]=p.kids)=>show FnD Tryz.prog 141 [.d (zgm (pre.map zae))] [] (.d (zgm (tupQ 400 (p.kids.map zae)))) [] from by
    rw[xaq] at e;rw[e];exact ht3
   rw[zrA h5];refine bd Tryz.f84 67 [] [] fun _ _ _ _ hk=>?_;refine bx 3001 ?_;refine ev ?_;apply sq<;>intro h1 h1p h1s<;>(try simp only[Q,xaW] at h1p);exfalso;omega;refine xbX 4 zdn .none Z Z (ev (xaD (ι:=List (Pat)×List (Pat)) hk (fun x=>[(5,.d (.i (x.1.length:Int))),(4,.gl 4 ((x.1.map zae).map zd6))]) [31,32,33,34,35,36,37,38,39,40,41,42,43,44,45,46] (fun x=>[(4,some (.tok (((x.1.map zae).map zd6)).length 1))]) (fun x=>x.1++x.2=p.kids) (fun x=>x.2.length) ([],p.kids) og ⟨⟨_,Z,xaQ ?_⟩,⟨⟨_,Z,LeA.glg ?_⟩,I⟩⟩ ⟨zac ?_,I⟩ (fun x=>rfl) (fun x hg1=>?_)));iterate 3 focus ((simp;done))
   obtain⟨pre,rest⟩:=x;dsimp only at hg1 ⊢;refine evc [] [] ?_;apply sq<;>intro h2 h2p h2s<;>(try simp only[Q,xaW] at h2p);rcases rest with _|⟨y,rest⟩
   ·exfalso;simp_all
   refine ixq sl72 Z Z Z (xaT hg1) Z (ev (wc zhw (hcal2 y pre rest hg1) Z Z ?_));refine si [0] [_] zdn tz72 ?_;refine ap zdn zz72 Z Z Z (by intro x hx;first|(simp at hx;subst hx;rfl)|exact zlZ _ x hx) (by first|(have:=xam List.length hg1;simp at this;simp;omega)|(simp;omega)) ?_;refine ev (ar (xaj ((pre++[y],rest)) ⟨(by have hz:=hg1;rw[<-hz];simp),og,sx ⟨⟨_,Z,xaQ ?_⟩,⟨⟨_,Z,LeA.glg ?_⟩,I⟩⟩ ⟨zac ?_,I⟩⟩));iterate 3 focus ((simp;done))
   have hrest:rest=[]:=by
    rcases rest with _|⟨a,b⟩
    ·rfl
    ·exfalso;have hz:=xam List.length (hg1);simp only[xaa,xab,xac] at hz;omega
   subst hrest;refine Walk.call (cr:=[]) zsL (ht3' pre hg1) Z .none Z Z (.cons (.gl _ _) .nil) I Z Z Z (ev (xbY 9 sl72 .none Z Z (ev (xaD (ι:=Nat) hk (fun k=>[(8,.d (.i (k:Int))),(7,.gv 9 ((((tupQ 400 (p.kids.map zae)).take k).map fun l=>Pat.mk p.op p.ctor p.n p.m p.var l).map Pat.cc))]) [9,50,51,52,53,54,55,56,57,58,59,60,61,62,63,64,65] (fun k=>[(9,some (.tok (((((tupQ 400 (p.kids.map zae)).take k).map fun l=>Pat.mk p.op p.ctor p.n p.m p.var l).map Pat.cc)).length 6))]) (fun k=>k<=(tupQ 400 (p.kids.map zae)).length) (fun k=>(tupQ 400 (p.kids.map zae)).length-k) 0 od ⟨⟨_,Z,xaQ ?_⟩,⟨⟨_,Z,LeA.gvg ?_⟩,I⟩⟩ ⟨zac ?_,I⟩ (fun x=>rfl) (fun k hg2=>?_)))));iterate 3 focus ((simp;done))
   refine evc [] [] ?_;apply sq<;>intro h3 h3p h3s<;>(try simp only[Q,xaW] at h3p);refine ab 3009 tz74 ?_;refine so ty74 ?_;apply tv;refine ixq zdn Z Z Z (zao od) Z ?_;refine ev (so ty72 ?_);apply tv;refine si [0] [_] sl72 tz74 ?_;refine xbr sl72 zz74 .none Z Z Z Z (zbG Z (by first|rfl|(simp;done))) (by intro x hx;first|(simp at hx;subst hx;rfl)|exact zlZ _ x hx) (by first|(have:=xam List.length hg1;simp at this;simp;omega)|(simp;omega)) (by first|(have:=xam List.length hg1;simp at this;simp;omega)|(simp;omega)) ?_;refine ev (ar (xaj (k+1) ⟨od,od,sx ⟨⟨_,Z,xaQ ?_⟩,⟨⟨_,Z,LeA.gvg ?_⟩,I⟩⟩ ⟨zac ?_,I⟩⟩));iterate 3 focus (first|(simp;done)|(rw[List.take_succ_eq_append_getElem od,<-zaD od];simp[zpu,zlW,mk_n,mk_m,znL,zhn];done))
   refine rn [(9,some (.tok (Pat.cs ((tupQ 400 (p.kids.map zae)).map fun l=>Pat.mk p.op p.ctor p.n p.m p.var l)).length 6))] (r1 Z) (.gvg ?_) ⟨Z,Z⟩ (SubH.get ⟨?_,I⟩) (zaX Z);rotate_left 2;all_goals (first|((first|rfl|(obtain rfl:k=(tupQ 400 (p.kids.map zae)).length:=od;rw[List.take_length,show Pat.cs ((tupQ 400 (p.kids.map zae)).map fun l=>Pat.mk p.op p.ctor p.n p.m p.var l)=((tupQ 400 (p.kids.map zae)).map fun l=>Pat.mk p.op p.ctor p.n p.m p.var l).map Pat.cc from xaU _];done));done)|(first|rfl|(obtain rfl:k=(tupQ 400 (p.kids.map zae)).length:=od;rw[List.take_length];simp[xaU];rfl)|(obtain rfl:k=(tupQ 400 (p.kids.map zae)).length:=od;rw[List.take_length,show Pat.cs ((tupQ 400 (p.kids.map zae)).map fun l=>Pat.mk p.op p.ctor p.n p.m p.var l)=((tupQ 400 (p.kids.map zae)).map fun l=>Pat.mk p.op p.ctor p.n p.m p.var l).map Pat.cc from xaU _];rfl)))
theorem zhN {α:Type}{k:Nat}:∀ {rows:List (List α)},(∀r∈rows,r.length=k)->rows.flatten.length=rows.length*k
 | [],_=>by simp
 |x::r,h=>by
  rw[List.flatten_cons,xaa,h x og,zhN (fun y hy=>h y (by simp[hy])),xab,Nat.add_mul];omega
theorem znW {α:Type}{k:Nat}:∀ {rows:List (List α)},(∀r∈rows,r.length=k)->∀ {i j:Nat} (hi:i<rows.length),j<k->rows.flatten[i*k+j]?=(rows[i])[j]?
 |x::r,h,0,j,hi,hj=>by
  rw[List.flatten_cons,Nat.zero_mul,Nat.zero_add,List.getElem?_append_left (by rw[h x og];exact hj)];rfl
 |x::r,h,i+1,j,hi,hj=>by
  have hx:=h x og;rw[List.flatten_cons,Nat.add_mul,Nat.one_mul,List.getElem?_append_right od,show i*k+k+j-x.length=i*k+j by omega];exact znW (fun y hy=>h y (by simp[hy])) (by simpa using hi) hj
theorem znX {α:Type}{k:Nat}{u:α}:∀ {rows:List (List α)},(∀r∈rows,r.length=k)->∀ {i j:Nat} (hi:i<rows.length),j<k->rows.flatten.set (i*k+j) u=(rows.set i ((rows[i]).set j u)).flatten
 |x::r,h,0,j,hi,hj=>by
  rw[Nat.zero_mul,Nat.zero_add,List.set_cons_zero,List.flatten_cons,List.flatten_cons,List.set_append_left _ _ (by rw[h x og];exact hj)];rfl
 |x::r,h,i+1,j,hi,hj=>by
  have hx:=h x og;rw[List.set_cons_succ,List.flatten_cons,List.flatten_cons,Nat.add_mul,Nat.one_mul,List.set_append_right _ _ od,show i*k+k+j-x.length=i*k+j by omega];rw[znX (fun y hy=>h y (by simp[hy])) (by simpa using hi) hj];rfl
section
variable {c:Ctx}
theorem LeL.atA {cs ds:List AV} (h:LeL cs ds):∀i (hc:i<cs.length) (hi:i<ds.length),LeA cs[i] ds[i]:=by
 induction cs generalizing ds with
 |nil=>intro i hc;simp at hc
 |cons x r ihr=>
  intro i hc hi;cases h with
  |cons h t=>
   cases i with
   |zero=>exact h
   |succ i=>exact ihr t i (by simpa using hc) (by simpa using hi)
end
section
variable {c:Ctx}{all:Array Oper}{chk:List Rec->Prop}{os:List Oper}{recs:List Rec}{env:Env}{hp:Hp}{Q:St->Prop}
variable {d ty:Nat}{pos:String}{af:Array Edge}{g:Option (Nat×Bool)}{pg:List (Nat×AV)}
variable {x:Operand}{id:Nat}
theorem xbJ {at_ e k yb n cap:Nat} (ht:SlT c.P at_ e k yb) (hg:GH all env g pg) (hd:Nat.blt d c.n=true) (hx:opd env x=some (.mc id n cap))
  (hn:Walk c all chk os (zan (pg++opF x (.mc id n cap)) [] [] ⟨some (d,.d (.i n)),[]⟩::recs) ⟨(d,.d (.i n))::env,hp⟩ Q):
  Walk c all chk (⟨some d,.call ⟨.builtin .len,#[x],#[at_]⟩,ty,pos,af,g⟩::os) recs ⟨env,hp⟩ Q:=
 xbS hg hd hx (fun a G T w h=>⟨.int .i64 n,by
  obtain⟨b,hl,he,hcap⟩:=h.mc_eq;simp[execOp,resolve,invoke,builtin,he,zeJ ht],.d (.int _ _)⟩) hn
end
set_option maxHeartbeats 4000000
theorem xaM {P:Program}{f:FuncId}{args args':List AV}{hp hp0:Hp}{r:AV} (hle:LeL args' args) (h:FnD P f args hp r hp0):FnD P f args' hp r hp0:=fun G w vals hok=>
 h G w vals ⟨⟨by rw[hok.args.size,hle.len],fun i hi hv=>(hok.args.rel i (by rw[hle.len];exact hi) hv).le (hle.atA i (by rw[hle.len];exact hi) hi)⟩,hok.heap,hok.disj,hok.top⟩
def toS (L:Nat) (s:Stp):Stp:=⟨s.op,s.path,s.ctor,s.n,s.m,s.cl,s.binds,(L:Int)⟩
def patL (c:Nat->Bool) (L:Nat) (l:List Stp):List Stp:=l.mapIdx fun i s=>if c i then toS L s else s
def cN (c:Nat->Bool) (n:Nat) (j:Nat):Bool:=c j&&decide (j<n)
theorem zax (c:Nat->Bool) (L:Nat) (l:List Stp):(patL c L l).length=l.length:=by simp[patL]
theorem zoS {c:Nat->Bool}{L:Nat}{l:List Stp}{i:Nat} (h:i<l.length):nth (patL c L l) i=if c i then toS L (nth l i) else nth l i:=by
 rw[zaD (by rw[zax];exact h)];simp only[patL,List.getElem_mapIdx];rw[zaD h]
theorem znQ {c c':Nat->Bool}{L:Nat}{l:List Stp} (h:∀j,j<l.length->c j=c' j):patL c L l=patL c' L l:=by
 refine List.ext_getElem (by rw[zax,zax]) (fun i h1 h2=>?_);rw[zax] at h1;simp only[patL,List.getElem_mapIdx,h i h1]
theorem zqE {c:Nat->Bool}{L:Nat}{l:List Stp} (h:∀j,j<l.length->c j=false):patL c L l=l:=by
 refine List.ext_getElem (by rw[zax]) (fun i h1 h2=>?_);simp only[patL,List.getElem_mapIdx,h i h2];rfl
theorem zrs {c:Nat->Bool}{L:Nat}{l:List Stp}{i:Nat} (hi:i<l.length) (h:c i=true):(patL (cN c i) L l).set i (toS L (nth l i))=patL (cN c (i+1)) L l:=by
 refine List.ext_getElem (by rw[List.length_set,zax,zax]) (fun j h1 h2=>?_);rw[zax] at h2;rw[List.getElem_set];by_cases e:i=j
 ·subst e;rw[if_pos rfl];simp only[patL,List.getElem_mapIdx,cN,h,Bool.true_and];rw[if_pos og,zaD hi]
 ·rw[if_neg e];have e2:cN c (i+1) j=cN c i j:=by unfold cN;rw[show decide (j<i+1)=decide (j<i) from decide_eq_decide.2 od]
  simp only[patL,List.getElem_mapIdx,e2]
theorem zgi {c:Nat->Bool}{L:Nat}{l:List Stp}{i:Nat} (h:c i=false):patL (cN c (i+1)) L l=patL (cN c i) L l:=by
 refine znQ (fun j hj=>?_);unfold cN;by_cases e:j=i
 ·subst e;rw[h];rfl
 ·rw[show decide (j<i+1)=decide (j<i) from decide_eq_decide.2 od]
theorem znO {c:Nat->Bool}{L n:Nat}{l:List Stp} (h:l.length<=n):patL (cN c n) L l=patL c L l:=znQ (fun j hj=>by unfold cN;rw[xax od,Bool.and_true])
theorem zbT {c:Nat->Bool}{L n:Nat}{l:List Stp} (h:∀j,j<n->c j=false):patL (cN c n) L l=l:=zqE (fun j _=>by
 unfold cN;by_cases hj:j<n
 ·rw[h j hj];rfl
 ·rw[xaw hj,Bool.and_false])
def stB (l:List Stp) (tl:List AV):List AV:=(l.map Stp.c).flatten.map AV.d++tl
theorem zdb (l:List Stp):∀x∈l.map Stp.c,x.length=8:=by
 intro x hx;obtain⟨y,_,rfl⟩:=List.mem_map.1 hx;rfl
def zfz (s:Stp):List AV:=s.c.map AV.d
theorem zhW (l:List Stp) (tl:List AV):stB l tl=(l.map zfz).flatten++tl:=by
 unfold stB;rw[List.map_flatten,List.map_map];rfl
theorem zeH (l:List Stp):∀r∈l.map zfz,r.length=8:=fun r hr=>by obtain⟨y,_,rfl⟩:=List.mem_map.1 hr;rfl
theorem zoZ (l:List Stp) (tl:List AV):(stB l tl).length=l.length*8+tl.length:=by
 rw[zhW,xaa,zhN (zeH l),xac]
theorem zsp {l:List Stp}{tl:List AV}{i o L:Nat}{x:Int} (eo:o=i*8+7) (ex:x=(L:Int)) (h:i<l.length):putC (stB l tl) o [.d (.i x)]=some (stB (l.set i (toS L (nth l i))) tl):=by
 subst eo ex;rw[zoU (by rw[zoZ];omega),zhW,zhW];have hi:i<(l.map zfz).length:=by simpa using h
 rw[List.set_append_left _ _ (by rw[zhN (zeH l),xac];omega),znX (zeH l) hi od];congr 3
 have h2:(l.map zfz)[i]?=some (zfz (nth l i)):=zao h;rw[xan hi] at h2;rw[Option.some.inj h2,List.map_set];rfl
theorem ztm {l:List Stp}{tl:List AV}{i o:Nat} (eo:o=i*8) (h:i<l.length):(stB l tl)[o]?=some (.d (.i (nth l i).op)):=by
 subst eo;have hi:i<(l.map zfz).length:=by simpa using h
 rw[zhW,List.getElem?_append_left (by rw[zhN (zeH l),xac];omega)];have:=znW (zeH l) (j:=0) hi od;rw[Nat.add_zero] at this;rw[this];have h2:(l.map zfz)[i]?=some (zfz (nth l i)):=zao h;rw[xan hi] at h2;rw[Option.some.inj h2];rfl
theorem zbe (q:List D):AV.idsL (q.map AV.d)=[]:=by
 induction q with
 |nil=>rfl
 |cons x r ih=>show AV.ids (.d x)++AV.idsL (r.map AV.d)=[];rw[ih];rfl
theorem zaZ (n:Nat):AV.idsL (List.replicate n AV.any)=[]:=by
 induction n with
 |zero=>rfl
 |succ n ih=>rw[List.replicate_succ];show AV.ids .any++AV.idsL (List.replicate n AV.any)=[];rw[ih];rfl
theorem zaO (l:List Stp) (n:Nat):AV.idsL (stB l (List.replicate n .any))=[]:=by
 unfold stB;rw[zah,zbe,zaZ];rfl
theorem zn8 {l:List Stp}{tl:List AV}{n:Nat} (h:n=l.length):(stB l tl).take (n*8)=(l.map Stp.c).flatten.map AV.d:=by
 subst h;unfold stB;exact List.take_left' (by rw[xac,zb1 (zdb l),xac])
theorem zgx {c:Nat->Bool}{O:List Stp}{tl:List AV}{n o L:Nat}{x:Int} (eo:o=n*8+7) (ex:x=(L:Int)) (h:n<O.length) (hc:c n=true):putC (stB (patL (cN c n) L O) tl) o [.d (.i x)]=some (stB (patL (cN c (n+1)) L O) tl):=by
 rw[zsp eo ex (by rw[zax];exact h),zoS h];have:cN c n n=false:=by unfold cN;rw[xaw od,Bool.and_false]
 rw[this,<-zrs h hc];rfl
theorem zo0 {c:Nat->Bool}{O:List Stp}{tl:List AV}{n o L:Nat} (eo:o=n*8) (h:n<O.length):(stB (patL c L O) tl)[o]?=some (.d (.i (nth O n).op)):=by
 rw[ztm eo (by rw[zax];exact h),zoS h];split<;>rfl
theorem zlV {c:Nat->Bool}{O:List Stp}{tl:List AV}{n m:Nat} (hn:O.length<=n) (hm:m=O.length):(stB (patL (cN c n) O.length O) tl).take (m*8)=((patL c O.length O).map Stp.c).flatten.map AV.d:=by
 rw[znO hn,zn8 (by rw[zax];exact hm)]
theorem zgt {c:Nat->Bool}{O:List Stp}{L m cap:Nat} (hm:m=O.length) (h:m<=cap):(stB (patL c L O) (List.replicate ((cap-m)*8) AV.any)).length=cap*8:=by
 rw[zoZ,zax,List.length_replicate,<-hm,<-Nat.add_mul];congr 1;omega
def zbV (p:Pat):List Pb:=zbK (zar p.size p []) 6
def zdq (i:Nat) (b:List Pb):Stp:=⟨2,[],0,0,0,(i:Int),b,0⟩
def ownS (i:Nat) (out:List Stp) (p:Pat):List Stp:=out++zas p.size p []++[zdq i (zbV p)]
def zci (k j:Nat):Bool:=decide (k<=j)
def zf3 (i:Nat) (out:List Stp) (p:Pat):List Stp:=patL (zci out.length) (ownS i out p).length (ownS i out p)
def zbl (k:Nat) (o:List Stp) (j:Nat):Bool:=decide (k<=j)&&decide ((nth o j).op=2)
def endS (k:Nat) (o:List Stp):List Stp:=patL (zbl k o) o.length o
def zbO (i:Nat) (out:List Stp) (ps:List Pat):List Stp:=ps.foldl (zf3 i) out
def clsS (i:Nat) (out:List Stp) (ps:List Pat):List Stp:=endS out.length (zbO i out ps)
def zam (l:List Cl):Nat->List Stp
 |0=>[]
 |i+1=>clsS i (zam l i) (zae (nth l i).pat)
def zhB:Stp:=⟨3,[],0,0,0,0,[],0⟩
def za7 (l:List Cl):List Stp:=zam l l.length++[zhB]
theorem zrp (i:Nat) (out:List Stp) (p:Pat):(out++zas p.size p []).map Stp.c++[[D.i 2,.sl [],.i 0,.i 0,.i 0,.i (i:Int),zcB (zbV p),.i 0]]=(ownS i out p).map Stp.c:=by
 unfold ownS zdq;rw[xag (l₁:=out++zas p.size p [])];rfl
theorem znN (i:Nat) (out:List Stp) (p:Pat):(ownS i out p).length<=out.length+p.size+1/\out.length<(ownS i out p).length:=by
 have:=zdR p.size p [];unfold ownS;simp only[xaa,xab,xak];omega
theorem zmw (i:Nat) (out:List Stp) (p:Pat):(zf3 i out p).length=(ownS i out p).length:=zax _ _ _
theorem zgG (i:Nat){m:Nat}:∀(ps:List Pat) (out:List Stp),(∀p∈ps,p.size<=m)->(zbO i out ps).length<=out.length+ps.length*(m+1)/\out.length+ps.length<=(zbO i out ps).length
 | [],out,_=>by simp[zbO]
 |p::r,out,h=>by
  have h1:=znN i out p;have h2:=zmw i out p;have h3:=h p og;have ih:=zgG i r (zf3 i out p) (fun q hq=>h q (by simp[hq]));have e:zbO i out (p::r)=zbO i (zf3 i out p) r:=rfl;rw[e,xab,Nat.add_mul];omega
theorem zhx (i:Nat) (out:List Stp) (ps:List Pat):(clsS i out ps).length=(zbO i out ps).length:=zax _ _ _
theorem zfY (i:Nat) (out:List Stp){ps:List Pat}{k:Nat} (h:k<ps.length):zbO i out (ps.take (k+1))=zf3 i (zbO i out (ps.take k)) (nth ps k):=by
 have e:ps[k]?=some (nth ps k):=by simpa using zao (f:=id) h
 unfold zbO;rw[List.take_add_one,e,List.foldl_append];rfl
structure PartsOk (m:Nat) (l:List Cl):Prop where
 ne:∀c∈l,zae c.pat≠[]
 len:l.length<=100
 bin:∀c∈l,(∃n,binP n c.pat=true)/\c.pat.ok
 part:∀c∈l,∀p∈zae c.pat,p.size<=m/\p.ok/\asOk p.size p
theorem zgE {m:Nat}{l:List Cl} (h:PartsOk m l):∀i,i<=l.length->(zam l i).length<=i*(401*(m+1))
 |0,_=>by simp[zam]
 |i+1,hi=>by
  have ih:=zgE h i od;have h1:=zgG i (zae (nth l i).pat) (zam l i) (fun p hp=>(h.part _ (zai od) p hp).1);have h2:=zdQ (nth l i).pat;have h3:(zae (nth l i).pat).length*(m+1)<=401*(m+1):=xav _ h2;rw[zam,zhx,Nat.add_mul];omega
theorem zkS {f:Pat->List Int->List Pb}{p:Pat}{path:List Int}{m:Nat} (hf:∀q path,∀x∈f q path,x.path.length<=path.length+m):∀i,∀x∈zab f p path i,x.path.length<=path.length+(m+1)
 |0,x,h=>by simp[zab] at h
 |i+1,x,h=>by
  rw[zab] at h;rcases List.mem_append.1 h with h|h
  ·exact zkS hf i x h
  ·have h1:=hf _ _ x h;have h2:(zbu p path i).length<=path.length+1:=by unfold zbu;split<;>simp
   omega
theorem zgW:∀(n:Nat) (p:Pat) (path:List Int),∀x∈zar n p path,x.path.length<=path.length+n
 |0,p,path,x,h=>by simp[zar] at h
 |n+1,p,path,x,h=>by
  rw[zar] at h;rcases List.mem_append.1 h with h|h
  ·unfold nmB at h;split at h
   ·simp only[List.mem_singleton] at h;subst h;exact Nat.le_add_right _ _
   ·simp at h
  ·exact zkS (zgW n) _ x h
theorem om{p:Prop}(h:p:=by first|rfl|(simp only[zaq,occH,occE,Res.ids,xai,List.nil_append,AV.idsL,AV.ids,zah,zaj,zal,zaF,xaf,List.map_nil,upC,zaO,zbe,zaZ];rfl)):p:=h
theorem oy{p:Prop}(h:p:=by first|rfl|(simp only[zbi,List.all_cons,List.all_nil,zc5,zcC,AV.idsL,AV.ids,zah,zaj,xaf,List.map_nil,zaO,zbe,zaZ];rfl)):p:=h
theorem oz{p:Prop}(h:p:=by first|rfl|(simp only[occH,Res.ids,zaO,zah,zbe,zaZ,xai,List.nil_append];rfl)):p:=h
theorem o9{p:Prop}(h:p:=by rw[xac]):p:=h
theorem zjG {l:List Cl}{m:Nat} (hm:m<=1000) (h:PartsOk m l):
  FnD Tryz.prog 85 [.d (zbD l)] [] (.gv 5 ((za7 l).map Stp.c)) [(5,some (.tok ((za7 l).map Stp.c).length 8))]:=by
 have hll:=h.len;have hsp:=fun(i:Nat) (hi:i<l.length)=>(h.bin _ (zai hi)).1.elim fun n hn=>xaL (zcF n hn (h.bin _ (zai hi)).2);have hcl:=fun i (hi:i<=l.length)=>zgE h i hi;have hp1:∀i,i<l.length->∀k,k<(zae (nth l i).pat).length->(nth (zae (nth l i).pat) k).size<=m/\(nth (zae (nth l i).pat) k).ok/\asOk (nth (zae (nth l i).pat) k).size (nth (zae (nth l i).pat) k):=fun i hi k hk=>h.part _ (zai hi) _ (zai hk);have hp401:=fun i=>zdQ (nth l i).pat;have hfl:∀i,i<l.length->∀k,k<=(zae (nth l i).pat).length->(zbO i (zam l i) ((zae (nth l i).pat).take k)).length<=100000000/\(zam l i).length+k<=(zbO i (zam l i) ((zae (nth l i).pat).take k)).length:=fun i hi k hk=>by
  have h1:=hcl i od;have h2:=zgG i ((zae (nth l i).pat).take k) (zam l i) (m:=m) (fun p hp=>(h.part _ (zai hi) p (List.mem_of_mem_take hp)).1);have h3:=hp401 i;have h4:i*(401*(m+1))<=100*(401*(m+1)):=xav _ od;have h5:((zae (nth l i).pat).take k).length*(m+1)<=401*(m+1):=xav _ (by rw[List.length_take];omega);have h6:401*(m+1)<=401*1001:=Nat.mul_le_mul_left _ od;rw[List.length_take] at h2;rw[List.length_take] at h5;rw[Nat.min_eq_left hk] at h2 h5;omega
 have hcall:∀(p:Pat) (xs:List Stp),p.size<=m->p.ok->asOk p.size p->xs.length<=200000000->FnD Tryz.prog 142 [.gv 5 (xs.map Stp.c),.agg [.d (.i p.op),.d (.i p.ctor),.d (.i p.n),.d (.i p.m),.d (.i p.var),.d (zau p.kids)],.nils] [(5,some (.tok (xs.map Stp.c).length 8))] (.gv 5 ((xs++zas p.size p []).map Stp.c)) [(5,some (.tok ((xs++zas p.size p []).map Stp.c).length 8))]:=fun p xs h1 h2 h3 h4=>
  xaM (.cons (.refl _) (.cons (.refl _) (.cons .nil .nil))) (zgw p.size (p:=p) (xs:=xs) (path:=[]) (Nat.le_refl _) h3 h2 ot od)
 have hbi:∀(p:Pat),p.size<=m->p.ok->FnD Tryz.prog 144 [.nils,.agg [.d (.i p.op),.d (.i p.ctor),.d (.i p.n),.d (.i p.m),.d (.i p.var),.d (zau p.kids)],.nils] [] (.d (zcB (zar p.size p []))) []:=fun p h1 h2=>
  xaM (.cons (.refl _) (.cons (.refl _) (.cons .nil .nil))) (zkm (n:=p.size) (p:=p) (path:=[]) (Nat.le_refl _) h2 ot)
 have hbs:∀(p:Pat),p.size<=m->FnD Tryz.prog 143 [.d (zcB (zar p.size p []))] [] (.d (zcB (zbV p))) []:=fun p h1=>
  zln (by have:=zeu p.size p [];omega) (fun x hx=>by have:=zgW p.size p [] x hx;simp at this;omega)
 have hc8:(zam l l.length).length<=100000000:=by
  have h1:=hcl l.length (Nat.le_refl _);have h4:l.length*(401*(m+1))<=100*(401*(m+1)):=xav _ od;have h6:401*(m+1)<=401*1001:=Nat.mul_le_mul_left _ od;omega
 have htl:=fun(p:Pat)=>zdR p.size p [];have hV:za7 l=zam l l.length++[zhB]:=rfl;rw[hV];refine bd Tryz.f85 87 [25,33,54,61,67,75,80] [4,9,10,13,17] fun _ _ _ _ hk=>?_;refine xbY 5 sl96 .none Z om ?_;refine evs [25,33,54,61,67,75,80] [] (xaC 5 7 (ι:=Nat) hk (fun i=>[(4,.d (.i (i:Int))),(3,.gv 5 ((zam l i).map Stp.c))]) [5,6,7,8,9,10,12,13,14,15,16,17,18,19,20,21,22,23,24,25,26,27,28,29,30,31,32,33,34,35,36,37,38,39,40,41,42,43,44,45,46,47,48,49,50,51,52,53,54,55,56,57,58,59,60,61,62,63,64,65,66,67,68,69,70,71,72,73,74,75,76,77,78,79,80,81,82] (fun i=>[(5,some (.tok (((zam l i).map Stp.c)).length 8))]) (fun i=>i<=l.length) (fun i=>l.length-i) 0 od ⟨⟨_,Z,xaQ ?_⟩,⟨⟨_,Z,LeA.gvg ?_⟩,I⟩⟩ ⟨zac ?_,I⟩ (fun x=>rfl) (fun i hg1=>?_));iterate 3 focus (first|rfl|omega|(rw[xac,xac,hO2];exact(zhx i (zam l i) (zae (nth l i).pat)).symm)|(simp;omega))
 refine evc [25,33,54,61,67,75,80] [4,9,10,13,17] ?_;apply sq<;>intro h1 h1p h1s<;>(try simp only[Q,xaW,xal,xac] at h1p);refine ixq sl32 Z Z Z (zao od) Z ?_;refine evs [25,33,54,61,67,75,80] [] (Walk.call (cr:=[]) zhw (hsp i od) Z .none Z Z (LeL.refl _) I Z oy om ?_);refine evs [25,33,54,61,67,75,80] [] (xbK sl96 .none Z Z (evs [25,33,54,61,67,75,80] [] (xaC 5 7 (ι:=Nat) hk (fun k=>[(7,.d (.i (k:Int))),(3,.gv 5 ((zbO i (zam l i) ((zae (nth l i).pat).take k)).map Stp.c))]) [8,9,26,27,28,29,30,31,32,33,34,35,36,37,38,39,40,41,42,43,44,45,46,47,48,49,50,51,52,53,54,55,56,57,58,59,60,61,62,63] (fun k=>[(5,some (.tok (((zbO i (zam l i) ((zae (nth l i).pat).take k)).map Stp.c)).length 8))]) (fun k=>k<=(zae (nth l i).pat).length) (fun k=>(zae (nth l i).pat).length-k) 0 od ⟨⟨_,Z,xaQ ?_⟩,⟨⟨_,Z,LeA.gvg ?_⟩,I⟩⟩ ⟨zac ?_,I⟩ (fun x=>rfl) (fun k hg2=>?_))));iterate 3 focus (first|rfl|omega|(rw[zfY i (zam l i) (ps:=zae (nth l i).pat) (k:=k) od,<-hF];done)|(rw[zfY i (zam l i) (ps:=zae (nth l i).pat) (k:=k) od,<-hF,xac,xac,hpl])|(simp;omega))
 refine evc [25,33,54,61,67,75,80] [4,9,10,13,17] ?_;apply sq<;>intro h2 h2p h2s<;>(try simp only[Q,xaW,xal,xac] at h2p);have hpk:=hp1 i od k od;have hfk:=hfl i od k od;obtain⟨F,hF⟩:∃F,F=zbO i (zam l i) ((zae (nth l i).pat).take k):=⟨_,rfl⟩;rw[<-hF] at hfk ⊢;have hol:=znN i F (nth (zae (nth l i).pat) k);have hpl:=zmw i F (nth (zae (nth l i).pat) k);refine evc [25,33,54,61,67,75,80] [] (xbK sl96 .none Z Z (evs [25,33,54,61,67,75,80] [] (ixq sl72 Z Z Z (zaS od) Z ?_)));refine evs [25,33,54,61,67,75,80] [] (xbx 6 znl (hcall (nth (zae (nth l i).pat) k) F hpk.1 hpk.2.1 hpk.2.2 od) Z .none Z Z (.cons (.refl _) (.cons (.refl _) (.cons (.refl _) .nil))) Z om ?_);refine evs [25,33,54,61,67,75,80] [] (ixq sl72 Z Z Z (zaS od) Z ?_);refine evs [25,33,54,61,67,75,80] [] (Walk.call (cr:=[]) zin (hbi (nth (zae (nth l i).pat) k) hpk.1 hpk.2.1) Z .none Z Z (LeL.refl _) I Z oy om ?_);refine Walk.call (cr:=[]) zsM (hbs (nth (zae (nth l i).pat) k) hpk.1) Z .none Z Z (LeL.refl _) I Z oy om ?_;refine bu [0,5,6] [_,_,_] zeS ?_;refine si [0] [_] sl96 zdS ?_;refine xbr sl96 zeT .none Z Z Z Z (zbG Z oq) ou (by first|(simp;omega)|(have:=htl (nth (zae (nth l i).pat) k);simp;omega) ) (by first|(simp;omega)|(have:=htl (nth (zae (nth l i).pat) k);simp;omega) ) ?_;refine evs [25,33,54,61,67,75,80] [] (CWp.fixC hk 3 6 8 Z (zbG Z ot) Z og (fun cap hcap=>?_));rw[zrp] at hcap ⊢;obtain⟨O,hO⟩:∃O,O=ownS i F (nth (zae (nth l i).pat) k):=⟨_,rfl⟩;rw[<-hO] at hcap hol hpl ⊢;rw[xac] at hcap;refine evc [25,33,54,61,67,75,80] [] (xaD (ι:=Nat) hk (fun n=>[(9,.d (.i (n:Int)))]) [52,53,54,55,56,57,58,59,60,61,62,63] (fun n=>[(6,some (.box (stB (patL (cN (zci F.length) n) O.length O) (List.replicate ((cap-(O.map Stp.c).length)*8) .any))))]) (fun n=>F.length<=n/\n<=O.length) (fun n=>O.length-n) F.length ⟨by omega,by omega⟩ ⟨⟨_,Z,xaQ ?_⟩,I⟩ ⟨?_,I⟩ (fun x=>rfl) (fun n hg3=>?_));focus (first|rfl|(simp;done)|(simp_all;done)|omega)
 focus (first|rfl|(show some (Res.box _)=some (Res.box _);rw[zbT (c:=zci F.length) (fun j hj=>xaw od)];rfl))
 refine evc [25,33,54,61,67,75,80] [4,9,10,13,17] (xbJ sl96 .none Z Z (evs [25,33,54,61,67,75,80] [] ?_));apply sq<;>intro h3 h3p h3s<;>(try simp only[Q,xaW,xal,xac] at h3p);refine xbJ sl96 .none Z Z (xbH (i:=n) sl96 .none Z Z Z Z (by rw[xac];omega) ?_);refine evs [25,33,54,61,67,75,80] [] (Walk.store ty3 .none Z Z Z Z Z Z og ((zgx (n:=n) od o9 od (xax od))) ?_);apply tv;refine ar (xaj (n+1) ⟨⟨by omega,by omega⟩,od,sx ⟨⟨_,Z,xaQ ?_⟩,I⟩ ⟨?_,I⟩⟩);focus (first|rfl|(simp;done)|(simp_all;done)|omega)
 focus (first|rfl|(show some (Res.box _)=some (Res.box _);rw[zbT (c:=zci F.length) (fun j hj=>xaw od)];rfl))
 refine CWp.mcGv hk 3 6 7 8 (xs:=(zf3 i F (nth (zae (nth l i).pat) k)).map Stp.c) Z Z Z (by rw[xac,xac,hpl]) (zdb _) (zgt o9 (by rw[xac];exact hcap)) (by rw[zlV od o9,hO];rfl) om ?_;refine xaG 3 7 5 Z Z Z oz oz ?_;refine evc [25,33,54,61,67,75,80] [] (ar (xaj (k+1) ⟨od,od,sx ⟨⟨_,Z,xaQ ?_⟩,⟨⟨_,Z,LeA.gvg ?_⟩,I⟩⟩ ⟨zac ?_,I⟩⟩));iterate 3 focus (first|rfl|omega|(rw[zfY i (zam l i) (ps:=zae (nth l i).pat) (k:=k) od,<-hF];done)|(rw[zfY i (zam l i) (ps:=zae (nth l i).pat) (k:=k) od,<-hF,xac,xac,hpl])|(simp;omega))
 have hk9:k=(zae (nth l i).pat).length:=od;have hne:=List.length_pos_iff.2 (h.ne _ (zai (l:=l) (i:=i) od));have hf2:=hfl i od k od;obtain⟨O2,hO2⟩:∃O2,O2=zbO i (zam l i) ((zae (nth l i).pat).take k):=⟨_,rfl⟩;rw[<-hO2] at hf2 ⊢;refine CWp.fixC hk 3 5 8 Z (zbG Z (by first|rfl|simp)) Z (by intro q;have q2:=xam List.length q;rw[xac] at q2;simp at q2;rw[q2] at hf2;simp at hf2;omega) (fun cap2 hcap2=>?_);rw[xac] at hcap2;rw[hk9,List.take_length] at hO2;refine evc [25,33,54,61,67,75,80] [] (xaD (ι:=Nat) hk (fun n2=>[(10,.d (.i (n2:Int)))]) [65,66,67,68,69,70,71,72,73,74,75,76,77,78,79,80,81,82] (fun n2=>[(5,some (.box (stB (patL (cN (zbl (zam l i).length O2) n2) O2.length O2) (List.replicate ((cap2-(O2.map Stp.c).length)*8) .any))))]) (fun n2=>(zam l i).length<=n2/\n2<=O2.length) (fun n2=>O2.length-n2) (zam l i).length ⟨by omega,by omega⟩ ⟨⟨_,Z,xaQ ?_⟩,I⟩ ⟨?_,I⟩ (fun x=>rfl) (fun n2 hg4=>?_));focus (first|rfl|(simp;done)|(simp_all;done)|omega)
 focus (first|rfl|(show some (Res.box _)=some (Res.box _);rw[zbT (c:=zbl (zam l i).length O2) (fun j hj=>by unfold zbl;rw[xaw od];rfl)];rfl)|(show some (Res.box _)=some (Res.box _);rw[zgi (c:=zbl (zam l i).length O2) (i:=n2) (by unfold zbl;rw[show decide ((nth O2 n2).op=2)=false from xaw ol,Bool.and_false])]))
 refine evc [25,33,54,61,67,75,80] [4,9,10,13,17] (xbJ sl96 .none Z Z (evs [25,33,54,61,67,75,80] [] ?_));apply sq<;>intro h4 h4p h4s<;>(try simp only[Q,xaW,xal,xac] at h4p);refine xbH (i:=n2) sl96 .none Z Z Z Z (by rw[xac];omega) ?_;refine evs [25,33,54,61,67,75,80] [] (xbL ty3 .none Z Z Z ((zo0 (n:=n2) od od)) ?_);refine evs [25,33,54,61,67,75,80] [] ?_;apply sq<;>intro h5 h5p h5s<;>(try simp only[Q,xaW,xal,xac] at h5p);refine xbJ sl96 .none Z Z (xbH (i:=n2) sl96 .none Z Z Z Z (by rw[xac];omega) ?_);refine evs [25,33,54,61,67,75,80] [] (Walk.store ty3 .none Z Z Z Z Z Z og ((zgx (n:=n2) od o9 od (by unfold zbl;rw[xax (show(zam l i).length<=n2 by omega),xax (show(nth O2 n2).op=2 by assumption)];rfl))) ?_);apply tv;refine ar (xaj (n2+1) ⟨⟨by omega,by omega⟩,od,sx ⟨⟨_,Z,xaQ ?_⟩,I⟩ ⟨?_,I⟩⟩);focus (first|rfl|(simp;done)|(simp_all;done)|omega)
 focus (first|rfl|(show some (Res.box _)=some (Res.box _);rw[zbT (c:=zbl (zam l i).length O2) (fun j hj=>by unfold zbl;rw[xaw od];rfl)];rfl)|(show some (Res.box _)=some (Res.box _);rw[zgi (c:=zbl (zam l i).length O2) (i:=n2) (by unfold zbl;rw[show decide ((nth O2 n2).op=2)=false from xaw ol,Bool.and_false])]))
 refine ar (xaj (n2+1) ⟨⟨by omega,by omega⟩,od,sx ⟨⟨_,Z,xaQ ?_⟩,I⟩ ⟨?_,I⟩⟩);focus (first|rfl|(simp;done)|(simp_all;done)|omega)
 focus (first|rfl|(show some (Res.box _)=some (Res.box _);rw[zbT (c:=zbl (zam l i).length O2) (fun j hj=>by unfold zbl;rw[xaw od];rfl)];rfl)|(show some (Res.box _)=some (Res.box _);rw[zgi (c:=zbl (zam l i).length O2) (i:=n2) (by unfold zbl;rw[show decide ((nth O2 n2).op=2)=false from xaw ol,Bool.and_false])]))
 refine CWp.mcGv hk 3 5 7 8 (xs:=(clsS i (zam l i) (zae (nth l i).pat)).map Stp.c) Z Z Z (by rw[xac,xac,zhx,hO2]) (zdb _) (zgt o9 (by rw[xac];exact hcap2)) (by rw[zlV od o9,hO2];rfl) om ?_;refine xaG 3 7 5 Z Z Z oz oz ?_;refine evc [25,33,54,61,67,75,80] [] (ar (xaj (i+1) ⟨od,od,sx ⟨⟨_,Z,xaQ ?_⟩,⟨⟨_,Z,LeA.gvg ?_⟩,I⟩⟩ ⟨zac ?_,I⟩⟩));iterate 3 focus (first|rfl|omega|(rw[xac,xac,hO2];exact(zhx i (zam l i) (zae (nth l i).pat)).symm)|(simp;omega))
 obtain rfl:i=l.length:=od;refine bu [0] [_] zeS ?_;refine si [0] [_] sl96 zdS ?_;refine xbr sl96 zeT .none Z Z Z Z (zbG Z oq) ou (by first|(simp;omega)|(have:=htl (nth (zae (nth l i).pat) k);simp;omega) ) (by first|(simp;omega)|(have:=htl (nth (zae (nth l i).pat) k);simp;omega) ) ?_;refine evs [25,33,54,61,67,75,80] [] (rn [(5,some (.tok ((zam l l.length++[zhB]).map Stp.c).length 8))] (r1 Z) (.gvg ?_) ⟨Z,Z⟩ (SubH.get ⟨?_,I⟩) (zaX Z));rotate_left 2;all_goals (first|((first|rfl|(rw[xag];rfl));done)|(first|rfl|exact xam (fun n=>some (Res.tok n 8)) og))
def runS (l:List Cl) (code:List Stp) (v:Val):Nat->Nat->List (List Int)->Option (Int×List Bd×List (List Int))
 |0,_,_=>none
 |n+1,at_,ps=>
  let x:=nth code at_
  if x.op=3 then some (-1,[],ps)
  else if x.op=2 then (if zb7 (nth l x.cl.toNat).g (zbm x.binds v)=true then some (x.cl,zbm x.binds v,ps) else runS l code v n x.to.toNat ps)
  else if zbA x.ctor x.n x.m (atV x.path v)=true then runS l code v n (at_+1) (ps++[x.path])
  else runS l code v n x.to.toNat (ps++[x.path])
def zaT (l:List Cl) (code:List Stp) (v:Val):Nat->Nat->Prop
 |0,_=>False
 |n+1,at_=>at_<code.length/\((nth code at_).op=3\/
   ((nth code at_).op=2/\(nth code at_).binds.length<=1000000/\(∀x∈(nth code at_).binds,x.path.length<=1000000/\zby x.path v)/\0<=(nth code at_).cl/\(nth code at_).cl.toNat<l.length/\
    (zb7 (nth l (nth code at_).cl.toNat).g (zbm (nth code at_).binds v)=false->0<=(nth code at_).to/\zaT l code v n (nth code at_).to.toNat))\/
   ((nth code at_).op≠3/\(nth code at_).op≠2/\(nth code at_).path.length<=1000000/\zby (nth code at_).path v/\
    (zbA (nth code at_).ctor (nth code at_).n (nth code at_).m (atV (nth code at_).path v)=true->zaT l code v n (at_+1))/\
    (zbA (nth code at_).ctor (nth code at_).n (nth code at_).m (atV (nth code at_).path v)=false->0<=(nth code at_).to/\zaT l code v n (nth code at_).to.toNat)))
abbrev zre (l:List (List Int)):D:= .sl (l.map fun p=>[zaH p])
section
variable {l:List Cl}{code:List Stp}{v:Val}{n at_:Nat}{ps:List (List Int)}
theorem zld (h:(nth code at_).op=3):runS l code v (n+1) at_ ps=some (-1,[],ps):=by rw[runS];rw[if_pos h]
theorem zjs (h:(nth code at_).op=2) (h2:zb7 (nth l (nth code at_).cl.toNat).g (zbm (nth code at_).binds v)=true):runS l code v (n+1) at_ ps=some ((nth code at_).cl,zbm (nth code at_).binds v,ps):=by rw[runS];rw[if_neg od,if_pos h,if_pos h2]
theorem zl2 (h:(nth code at_).op=2) (h2:zb7 (nth l (nth code at_).cl.toNat).g (zbm (nth code at_).binds v)=false):runS l code v (n+1) at_ ps=runS l code v n (nth code at_).to.toNat ps:=by rw[runS];rw[if_neg od,if_pos h,if_neg (by rw[h2];simp)]
theorem zl0 (h3:¬(nth code at_).op=3) (h:¬(nth code at_).op=2) (h2:zbA (nth code at_).ctor (nth code at_).n (nth code at_).m (atV (nth code at_).path v)=true):runS l code v (n+1) at_ ps=runS l code v n (at_+1) (ps++[(nth code at_).path]):=by rw[runS];rw[if_neg h3,if_neg h,if_pos h2]
theorem zl1 (h3:¬(nth code at_).op=3) (h:¬(nth code at_).op=2) (h2:zbA (nth code at_).ctor (nth code at_).n (nth code at_).m (atV (nth code at_).path v)=false):runS l code v (n+1) at_ ps=runS l code v n (nth code at_).to.toNat (ps++[(nth code at_).path]):=by rw[runS];rw[if_neg h3,if_neg h,if_neg (by rw[h2];simp)]
end
def goS (code:List Stp) (v:Val) (z:Nat×Nat×List (List Int)):Nat×Nat×List (List Int):=
 (z.1-1,if (nth code z.2.1).op=2 then (nth code z.2.1).to.toNat else if zbA (nth code z.2.1).ctor (nth code z.2.1).n (nth code z.2.1).m (atV (nth code z.2.1).path v)=true then z.2.1+1 else (nth code z.2.1).to.toNat,
  if (nth code z.2.1).op=2 then z.2.2 else z.2.2++[(nth code z.2.1).path])
section
variable {l:List Cl}{code:List Stp}{v:Val}{n m:Nat}{z:Nat×Nat×List (List Int)}{r:Int×List Bd×List (List Int)}
theorem zfZ:(goS code v z).1=z.1-1:=rfl
theorem zct (h:(nth code z.2.1).op=2):(goS code v z).2.1=(nth code z.2.1).to.toNat/\(goS code v z).2.2=z.2.2:=⟨if_pos h,if_pos h⟩
theorem zgI (h:¬(nth code z.2.1).op=2):(goS code v z).2.2=z.2.2++[(nth code z.2.1).path]:=if_neg h
theorem zdZ (h:¬(nth code z.2.1).op=2) (hp:zbA (nth code z.2.1).ctor (nth code z.2.1).n (nth code z.2.1).m (atV (nth code z.2.1).path v)=true):(goS code v z).2.1=z.2.1+1/\(goS code v z).2.2=z.2.2++[(nth code z.2.1).path]:=⟨(if_neg h).trans (if_pos hp),if_neg h⟩
theorem zd0 (h:¬(nth code z.2.1).op=2) (hp:zbA (nth code z.2.1).ctor (nth code z.2.1).n (nth code z.2.1).m (atV (nth code z.2.1).path v)=false):(goS code v z).2.1=(nth code z.2.1).to.toNat/\(goS code v z).2.2=z.2.2++[(nth code z.2.1).path]:=⟨(if_neg h).trans (if_neg (by rw[hp];simp)),if_neg h⟩
theorem go_2 (hm:z.1=m+1) (hg:zaT l code v z.1 z.2.1/\runS l code v z.1 z.2.1 z.2.2=some r/\z.2.2.length+z.1<=n) (o2:(nth code z.2.1).op=2) (hgf:zb7 (nth l (nth code z.2.1).cl.toNat).g (zbm (nth code z.2.1).binds v)=false)
  (hr:zaT l code v (z.1-1) (nth code z.2.1).to.toNat):zaT l code v (goS code v z).1 (goS code v z).2.1/\runS l code v (goS code v z).1 (goS code v z).2.1 (goS code v z).2.2=some r/\(goS code v z).2.2.length+(goS code v z).1<=n:=by
 have hq:=hg.2.1;have hl:=hg.2.2;rw[hm,zl2 o2 hgf] at hq;rw[zfZ,(zct o2).1,(zct o2).2];rw[show z.1-1=m by omega] at hr ⊢;exact⟨hr,hq,by omega⟩
theorem zjn (hm:z.1=m+1) (hg:zaT l code v z.1 z.2.1/\runS l code v z.1 z.2.1 z.2.2=some r/\z.2.2.length+z.1<=n) (o3:¬(nth code z.2.1).op=3) (o2:¬(nth code z.2.1).op=2) (hp:zbA (nth code z.2.1).ctor (nth code z.2.1).n (nth code z.2.1).m (atV (nth code z.2.1).path v)=true)
  (hr:zaT l code v (z.1-1) (z.2.1+1)):zaT l code v (goS code v z).1 (goS code v z).2.1/\runS l code v (goS code v z).1 (goS code v z).2.1 (goS code v z).2.2=some r/\(goS code v z).2.2.length+(goS code v z).1<=n:=by
 have hq:=hg.2.1;have hl:=hg.2.2;rw[hm,zl0 o3 o2 hp] at hq;rw[zfZ,(zdZ o2 hp).1,(zdZ o2 hp).2];rw[show z.1-1=m by omega] at hr ⊢;exact⟨hr,hq,by simp;omega⟩
theorem zjo (hm:z.1=m+1) (hg:zaT l code v z.1 z.2.1/\runS l code v z.1 z.2.1 z.2.2=some r/\z.2.2.length+z.1<=n) (o3:¬(nth code z.2.1).op=3) (o2:¬(nth code z.2.1).op=2) (hp:zbA (nth code z.2.1).ctor (nth code z.2.1).n (nth code z.2.1).m (atV (nth code z.2.1).path v)=false)
  (hr:zaT l code v (z.1-1) (nth code z.2.1).to.toNat):zaT l code v (goS code v z).1 (goS code v z).2.1/\runS l code v (goS code v z).1 (goS code v z).2.1 (goS code v z).2.2=some r/\(goS code v z).2.2.length+(goS code v z).1<=n:=by
 have hq:=hg.2.1;have hl:=hg.2.2;rw[hm,zl1 o3 o2 hp] at hq;rw[zfZ,(zd0 o2 hp).1,(zd0 o2 hp).2];rw[show z.1-1=m by omega] at hr ⊢;exact⟨hr,hq,by simp;omega⟩
end
theorem zmV {l:List Cl}{code:List Stp}{v:Val} (hl:l.length<=1000000) (hcd:code.length<=1000000) (hok:v.ok){n:Nat} (hn:n<=1000000) (hr:zaT l code v n 0){r:Int×List Bd×List (List Int)} (hR:runS l code v n 0 []=some r):
  FnD Tryz.prog 43 [.d (zbD l),.d (zeZ code),.agg [.d (.i v.ctor),.d (.i v.num),.d (zbg v.kids)]] [] (.tup [.d (.i r.1),.d (zgl r.2.1),.d (zre r.2.2)]) []:=by
 refine bd Tryz.f43 62 [] [3,6,10] fun _ _ _ _ hk=>?_;refine bx 3005 ?_;refine ev (xbX 1 zpC .none Z Z (ev (xaD (ι:=Nat×Nat×List (List Int)) hk (fun z=>[(9,.d (.i (z.2.1:Int))),(10,.gl 1 (z.2.2.map fun p=>[zaH p]))]) [6,7,8,11,12,14,15,16,17,18,19,20,21,22,23,24,25,26,27,28,29,30,31,32,33,34,35,36,37,38,39,40,41,42,43,44,45,46,47,48,49,50,51,52,53,54,55,56,57,58,59] (fun z=>[(1,some (.tok ((z.2.2.map fun p=>[zaH p])).length 1))]) (fun z=>zaT l code v z.1 z.2.1/\runS l code v z.1 z.2.1 z.2.2=some r/\z.2.2.length+z.1<=n) (fun z=>z.1) (n,0,[]) ⟨hr,hR,by simp⟩ ⟨⟨_,Z,xaQ ?_⟩,⟨⟨_,Z,LeA.glg ?_⟩,I⟩⟩ ⟨zac ?_,I⟩ (fun x=>rfl) (fun z hg1=>?_))));iterate 3 focus (first|rfl|(rw[(zct (v:=v) (show(nth code z.2.1).op=2 by omega)).1];have h9:=(ho.2.2.2.2 ol).1;omega)|(rw[(zct (v:=v) (show(nth code z.2.1).op=2 by omega)).2];done)|(rw[(zdZ (show ¬(nth code z.2.1).op=2 by omega) ol).1];omega)|(rw[(zd0 (show ¬(nth code z.2.1).op=2 by omega) ol).1];have h9:=(ht.2.2.2 ol).1;omega)|(rw[zgI (v:=v) (show ¬(nth code z.2.1).op=2 by omega),xag];all_goals first|rfl|(simp;done))|(simp;omega))
 refine evc [] [3,6,10] ?_;obtain⟨m,hm⟩:∃m,z.1=m+1:=(by cases hz:z.1 with|zero=>(have:=hg1.1;rw[hz] at this;exact absurd this (by simp[zaT]))|succ m=>exact⟨m,rfl⟩);have hst:z.2.1<code.length/\_:=(by have:=hg1.1;rw[hm] at this;rw[show m=z.1-1 by omega] at this;simpa only[zaT] using this);refine evc [] [] (ixq sl96 Z Z Z (zao (by first|omega|exact ho.2.2.2.1)) Z ?_);refine ev ?_;apply sq<;>intro h1 h1p h1s<;>(try simp only[Q,xal,xac] at h1p);refine ixq sl96 Z Z Z (zao (by first|omega|exact ho.2.2.2.1)) Z ?_;refine ev (ab 3011 zdS ?_);refine so zr5 ?_;apply tv;apply sq<;>intro h2 h2p h2s<;>(try simp only[Q,xal,xac] at h2p);have ho:(nth code z.2.1).binds.length<=1000000/\(∀x∈(nth code z.2.1).binds,x.path.length<=1000000/\zby x.path v)/\0<=(nth code z.2.1).cl/\(nth code z.2.1).cl.toNat<l.length/\(zb7 (nth l (nth code z.2.1).cl.toNat).g (zbm (nth code z.2.1).binds v)=false->0<=(nth code z.2.1).to/\zaT l code v (z.1-1) (nth code z.2.1).to.toNat):=(by rcases hst.2 with q|q|q;omega;exact q.2;omega);refine evc [] [] (wc ztT (zkl (l:=(nth code z.2.1).binds) (v:=v) ho.1 ho.2.1 hok) Z Z ?_);refine ev (ixq (i:=(nth code z.2.1).cl.toNat) sl32 Z Z (by have:=ho.2.2.1;omega) (zao (by first|omega|exact ho.2.2.2.1)) Z ?_);refine ev (wc ztU (zi8 (g:=(nth l (nth code z.2.1).cl.toNat).g) (l:=zbm (nth code z.2.1).binds v) (by have:=ho.1;simp[zbm];omega)) Z Z ?_);apply tv;apply sq<;>intro h3 h3p h3s<;>(try simp only[Q,xal,xac] at h3p);refine rn0 (.cons (.tmp Z) (.cons (.tmp Z) (.cons (.tmp Z) .nil))) (.tup (qeeg ?_ ?_ ?_));rotate_left 3;refine xaj (goS code v z) ⟨(by first|exact go_2 hm hg1 od ol (ho.2.2.2.2 ol).2|exact zjn hm hg1 od od ol (ht.2.2.1 ol)|exact zjo hm hg1 od od ol (ht.2.2.2 ol).2),(by rw[zfZ];omega),sx ⟨⟨_,Z,xaQ ?_⟩,⟨⟨_,Z,LeA.glg ?_⟩,I⟩⟩ ⟨zac ?_,I⟩⟩;iterate 3 focus (first|rfl|(rw[(zct (v:=v) (show(nth code z.2.1).op=2 by omega)).1];have h9:=(ho.2.2.2.2 ol).1;omega)|(rw[(zct (v:=v) (show(nth code z.2.1).op=2 by omega)).2];done)|(rw[(zdZ (show ¬(nth code z.2.1).op=2 by omega) ol).1];omega)|(rw[(zd0 (show ¬(nth code z.2.1).op=2 by omega) ol).1];have h9:=(ht.2.2.2 ol).1;omega)|(rw[zgI (v:=v) (show ¬(nth code z.2.1).op=2 by omega),xag];all_goals first|rfl|(simp;done))|(simp;omega))
 have ht:(nth code z.2.1).path.length<=1000000/\zby (nth code z.2.1).path v/\(zbA (nth code z.2.1).ctor (nth code z.2.1).n (nth code z.2.1).m (atV (nth code z.2.1).path v)=true->zaT l code v (z.1-1) (z.2.1+1))/\(zbA (nth code z.2.1).ctor (nth code z.2.1).n (nth code z.2.1).m (atV (nth code z.2.1).path v)=false->0<=(nth code z.2.1).to/\zaT l code v (z.1-1) (nth code z.2.1).to.toNat):=(by rcases hst.2 with q|q|q;omega;omega;exact q.2.2);refine evc [] [] (si [0] [_] zpC tz37 ?_);refine ap zpC zz37 Z Z Z ou ot ?_;refine ev (wc zrR (zjc (l:=(nth code z.2.1).path) (v:=v) ht.1 ht.2.1) Z Z ?_);refine wc ztV zkn Z Z ?_;refine dr ?_;apply sq<;>intro h4 h4p h4s<;>(try simp only[Q,xal,xac] at h4p);refine ar (xaj (goS code v z) ⟨(by first|exact go_2 hm hg1 od ol (ho.2.2.2.2 ol).2|exact zjn hm hg1 od od ol (ht.2.2.1 ol)|exact zjo hm hg1 od od ol (ht.2.2.2 ol).2),(by rw[zfZ];omega),sx ⟨⟨_,Z,xaQ ?_⟩,⟨⟨_,Z,LeA.glg ?_⟩,I⟩⟩ ⟨zac ?_,I⟩⟩);iterate 3 focus (first|rfl|(rw[(zct (v:=v) (show(nth code z.2.1).op=2 by omega)).1];have h9:=(ho.2.2.2.2 ol).1;omega)|(rw[(zct (v:=v) (show(nth code z.2.1).op=2 by omega)).2];done)|(rw[(zdZ (show ¬(nth code z.2.1).op=2 by omega) ol).1];omega)|(rw[(zd0 (show ¬(nth code z.2.1).op=2 by omega) ol).1];have h9:=(ht.2.2.2 ol).1;omega)|(rw[zgI (v:=v) (show ¬(nth code z.2.1).op=2 by omega),xag];all_goals first|rfl|(simp;done))|(simp;omega))
 refine xaj (goS code v z) ⟨(by first|exact go_2 hm hg1 od ol (ho.2.2.2.2 ol).2|exact zjn hm hg1 od od ol (ht.2.2.1 ol)|exact zjo hm hg1 od od ol (ht.2.2.2 ol).2),(by rw[zfZ];omega),sx ⟨⟨_,Z,xaQ ?_⟩,⟨⟨_,Z,LeA.glg ?_⟩,I⟩⟩ ⟨zac ?_,I⟩⟩;iterate 3 focus (first|rfl|(rw[(zct (v:=v) (show(nth code z.2.1).op=2 by omega)).1];have h9:=(ho.2.2.2.2 ol).1;omega)|(rw[(zct (v:=v) (show(nth code z.2.1).op=2 by omega)).2];done)|(rw[(zdZ (show ¬(nth code z.2.1).op=2 by omega) ol).1];omega)|(rw[(zd0 (show ¬(nth code z.2.1).op=2 by omega) ol).1];have h9:=(ht.2.2.2 ol).1;omega)|(rw[zgI (v:=v) (show ¬(nth code z.2.1).op=2 by omega),xag];all_goals first|rfl|(simp;done))|(simp;omega))
 refine xbW zeb .none Z (ev (rn0 (.cons (.tmp Z) (.cons (.tmp Z) (.cons (.tmp Z) .nil))) (.tup (qeeg ?_ ?_ ?_))));rotate_left 3;all_goals (first|(have hq:=hg1.2.1;rw[hm,zld od] at hq;rw[<-Option.some.inj hq];all_goals rfl)|(have hq:=hg1.2.1;rw[hm,zjs od ol] at hq;rw[<-Option.some.inj hq];all_goals rfl))
set_option maxHeartbeats 2000000
theorem zhe {w:List Data}{a k:Int}{l:List Cl} (h:zaU w ⟨a,k⟩ l=true):za2 w ⟨a,k⟩=true/\l.length<=8:=by
 unfold zaU at h;simp only[xad,xah] at h;exact⟨h.1,by omega⟩
theorem znP {L:Nat} (a x:List Stp):patL (zci a.length) L (a++x)=a++x.map (toS L):=by
 refine List.ext_getElem (by rw[zax];simp) (fun i h1 h2=>?_);simp only[patL,List.getElem_mapIdx];by_cases h:i<a.length
 ·rw[List.getElem_append_left h,List.getElem_append_left h];have:zci a.length i=false:=xaw od;rw[this];rfl
 ·rw[List.getElem_append_right od,List.getElem_append_right od,List.getElem_map];have:zci a.length i=true:=xax od;rw[this];rfl
def endT (L:Nat) (s:Stp):Stp:=if s.op=2 then toS L s else s
theorem znA (a x:List Stp):endS a.length (a++x)=a++x.map (endT (a++x).length):=by
 unfold endS;refine List.ext_getElem (by rw[zax];simp) (fun i h1 h2=>?_);have hi:i<(a++x).length:=by rw[zax] at h1;exact h1
 simp only[patL,List.getElem_mapIdx];by_cases h:i<a.length
 ·rw[List.getElem_append_left h,List.getElem_append_left h];have:zbl a.length (a++x) i=false:=by unfold zbl;rw[xaw od];rfl
  rw[this];rfl
 ·rw[List.getElem_append_right od,List.getElem_append_right od,List.getElem_map];have e:nth (a++x) i=x[i-a.length]'(by simp at hi;omega):=by rw[zaD hi,List.getElem_append_right od]
  unfold zbl endT;rw[e,xax (show a.length<=i by omega),Bool.true_and];by_cases h2:(x[i-a.length]'(by simp at hi;omega)).op=2
  ·rw[if_pos h2,xax h2];rfl
  ·rw[if_neg h2,xaw h2];rfl
abbrev zaA (p:Pat):List Stp:=zas p.size p []
def segS (i E:Nat):Nat->List Pat->List Stp
 |_,[]=>[]
 |s,p::r=>(zaA p).map (toS (s+(zaA p).length+1))++toS E (zdq i (zbV p))::segS i E (s+(zaA p).length+1) r
def segL:List Pat->Nat
 | []=>0
 |p::r=>(zaA p).length+1+segL r
theorem zn3 (i E:Nat):∀(ps:List Pat) (s:Nat),(segS i E s ps).length=segL ps
 | [],_=>rfl
 |p::r,s=>by rw[segS,xaa,xac,xab,zn3 i E r,segL];omega
def seg0 (i:Nat):Nat->List Pat->List Stp
 |_,[]=>[]
 |s,p::r=>(zaA p++[zdq i (zbV p)]).map (toS (s+(zaA p).length+1))++seg0 i (s+(zaA p).length+1) r
theorem zkg (i:Nat):∀(ps:List Pat) (s:Nat),(seg0 i s ps).length=segL ps
 | [],_=>rfl
 |p::r,s=>by rw[seg0,xaa,xac,xaa,zkg i r,segL];simp
theorem zqD (i:Nat) (out:List Stp) (p:Pat):zf3 i out p=out++(zaA p++[zdq i (zbV p)]).map (toS (out.length+(zaA p).length+1)):=by
 have e:ownS i out p=out++(zaA p++[zdq i (zbV p)]):=by unfold ownS;rw[xar]
 unfold zf3;rw[e,znP];congr 3
 simp;omega
theorem ziB (i:Nat):∀(ps:List Pat) (out:List Stp),zbO i out ps=out++seg0 i out.length ps
 | [],out=>by simp[zbO,seg0]
 |p::r,out=>by
  have e:zbO i out (p::r)=zbO i (zf3 i out p) r:=rfl;rw[e,ziB i r,zqD,seg0,xar];congr 3
  simp;omega
theorem zhY:∀(n:Nat) (p:Pat) (path:List Int),∀x∈zas n p path,x.op=1
 |0,p,path,x,h=>by simp[zas] at h
 |n+1,p,path,x,h=>by
  have key:∀i,∀x∈zaV (zas n) p path i,x.op=1:=by
   intro i;induction i with
   |zero=>intro x h;simp[zaV] at h
   |succ i ih=>
    intro x h;rw[zaV] at h;rcases List.mem_append.1 h with h|h
    ·exact ih x h
    ·exact zhY n _ _ x h
  rw[zas] at h;split at h
  ·exact zhY n _ _ x h
  split at h
  ·simp only[List.mem_singleton] at h;subst h;rfl
  split at h
  ·rcases List.mem_cons.1 h with rfl|h
   ·rfl
   ·exact key _ x h
  ·simp at h
theorem zn1 (i E:Nat):∀(ps:List Pat) (s:Nat),(seg0 i s ps).map (endT E)=segS i E s ps
 | [],_=>rfl
 |p::r,s=>by
  rw[seg0,segS,xag,zn1 i E r,xag,xag,List.map_map];have e1:(zaA p).map (endT E ∘ toS (s+(zaA p).length+1))=(zaA p).map (toS (s+(zaA p).length+1)):=List.map_congr_left (fun x hx=>by
   have h1:(toS (s+(zaA p).length+1) x).op=1:=zhY _ _ _ x hx;show endT E (toS _ x)=toS _ x
   unfold endT;rw[if_neg od])
  rw[e1,xar];rfl
theorem zjX (i:Nat) (out:List Stp) (ps:List Pat):clsS i out ps=out++segS i (out.length+segL ps) out.length ps:=by
 unfold clsS;rw[ziB,znA,zn1];congr 3
 rw[xaa,zkg]
def zf2 (i:Nat) (out:List Stp) (p:Pat):List Stp:=patL (zci out.length) (out.length+(zaA p).length+1) (out++zaA p)++[zdq i (zbV p)]
theorem ziW (i:Nat) (out:List Stp) (p:Pat):zf2 i out p=out++((zaA p).map (toS (out.length+(zaA p).length+1))++[zdq i (zbV p)]):=by
 unfold zf2;rw[znP,xar]
def zc6 (i:Nat) (out:List Stp) (ps:List Pat):List Stp:=ps.foldl (zf2 i) out
def seg1 (i:Nat):Nat->List Pat->List Stp
 |_,[]=>[]
 |s,p::r=>((zaA p).map (toS (s+(zaA p).length+1))++[zdq i (zbV p)])++seg1 i (s+(zaA p).length+1) r
theorem zkh (i:Nat):∀(ps:List Pat) (s:Nat),(seg1 i s ps).length=segL ps
 | [],_=>rfl
 |p::r,s=>by rw[seg1,xaa,xaa,xac,zkh i r,segL];simp
theorem ziA (i:Nat):∀(ps:List Pat) (out:List Stp),zc6 i out ps=out++seg1 i out.length ps
 | [],out=>by simp[zc6,seg1]
 |p::r,out=>by
  have e:zc6 i out (p::r)=zc6 i (zf2 i out p) r:=rfl;rw[e,ziA i r,ziW,seg1,xar];congr 3
  simp;omega
theorem zn2 (i E:Nat):∀(ps:List Pat) (s:Nat),(seg1 i s ps).map (endT E)=segS i E s ps
 | [],_=>rfl
 |p::r,s=>by
  rw[seg1,segS,xag,zn2 i E r,xag,List.map_map];have e1:(zaA p).map (endT E ∘ toS (s+(zaA p).length+1))=(zaA p).map (toS (s+(zaA p).length+1)):=List.map_congr_left (fun x hx=>by
   have h1:(toS (s+(zaA p).length+1) x).op=1:=zhY _ _ _ x hx;show endT E (toS _ x)=toS _ x
   unfold endT;rw[if_neg od])
  rw[e1,xar];rfl
theorem zoz (i:Nat) (out:List Stp) (ps:List Pat):endS out.length (zc6 i out ps)=clsS i out ps:=by
 rw[zjX,ziA,znA,zn2];congr 3
 rw[xaa,zkh]
def zbo (w:List Data):Nat->Ty->Pat->Bool
 |0,_,_=>false
 |n+1,t,p=>(ownP w t p&&decide (p.op≠5))&&all2 (zbo w n) (zag w t p) p.kids
theorem zee {w:List Data}{n:Nat}{t:Ty}{p:Pat} (h:zbo w n t p=true):ownP w t p=true/\p.op≠5/\(zag w t p).length=p.kids.length:=by
 cases n with
 |zero=>simp[zbo] at h
 |succ n=>
  simp only[zbo,xad] at h;exact⟨h.1.1,xas h.1.2,zgV h.2⟩
theorem ze0 {w:List Data}{n:Nat}{t:Ty}{p:Pat} (h:zbo w (n+1) t p=true){i:Nat} (hi:i<p.kids.length):zbo w n (nth (zag w t p) i) (nth p.kids i)=true:=by
 have hl:=(zee h).2.2;simp only[zbo,xad] at h;exact zcI hl h.2 i od
theorem zoI {w:List Data}{n:Nat}{t:Ty}{p:Pat} (h:zbo w n t p=true):p.op=1\/p.op=2\/p.op=6\/(p.op=3/\t.data = -1)\/(p.op=4/\p.ctor∈za0 w t):=by
 obtain⟨h1,h2,_⟩:=zee h;unfold ownP at h1;have:=xas h1;rcases this.2.2.2.2 with q|q|q|q|q|q
 ·exact .inl q
 ·exact .inr (.inl q)
 ·exact absurd q h2
 ·exact .inr (.inr (.inl q))
 ·exact .inr (.inr (.inr (.inl ⟨q.1,q.2.1⟩)))
 ·exact .inr (.inr (.inr (.inr q)))
theorem zeR {w:List Data}:∀(n:Nat){t:Ty}{p:Pat},zaw w n t p=true->∀x∈zaE p,zbo w n t x=true/\x.size<=p.size
 |0,t,p,h,x,hx=>by simp[zaw] at h
 |n+1,t,p,h,x,hx=>by
  have hown:=zck h;simp only[zaw,xad] at h;have hsz:=xaZ p;by_cases h5:p.op=5
  ·have ht:zag w t p=[t,t]:=by unfold zag;rw[if_neg od,if_pos h5]
   have hk:p.kids.length=2:=by rw[hown.2,ht];rfl
   rw[zfc h5 hk] at hx;have up:∀ {m:Nat}{t:Ty}{p:Pat},zbo w m t p=true->zbo w (m+1) t p=true:=by
    intro m;induction m with
    |zero=>intro t p h;simp[zbo] at h
    |succ m ih=>
     intro t p h;simp only[zbo,xad] at h ⊢;exact⟨h.1,zjU (fun a _ b _ hh=>by have:=ih hh;simpa only[zbo,xad] using this) h.2⟩
   have h2:=zcI (by rw[ht,hk];rfl) h.2;rw[ht] at h2;have s0:=xa2 (l:=p.kids) (zai (i:=0) od);have s1:=xa2 (l:=p.kids) (zai (i:=1) od);rcases List.mem_append.1 hx with hx|hx
   ·obtain⟨a,b⟩:=zeR n (h2 0 og) x hx;exact⟨up a,by omega⟩
   ·obtain⟨a,b⟩:=zeR n (h2 1 og) x hx;exact⟨up a,by omega⟩
  ·rw[zem h5] at hx;obtain⟨l,hl,rfl⟩:=List.mem_map.1 hx;unfold zdm at hl;obtain⟨q,hq,r,e,hrl,hm⟩:=zgM _ _ _ hl;simp only[List.mem_singleton] at hq;subst hq;rw[List.nil_append] at e;subst e;rw[xac] at hrl hm;have hkl:(zag w t p).length=p.kids.length:=by rw[hown.2]
   have hkid:∀i,i<p.kids.length->zbo w n (nth (zag w t p) i) (nth l i)=true/\(nth l i).size<=(nth p.kids i).size:=fun i hi=>by
    have h3:=zcI hkl h.2 i od;have h4:=hm i hi;rw[zaD (l:=p.kids.map zaE) (by simpa using hi),List.getElem_map,<-zaD hi] at h4;exact zeR n h3 _ h4
   have hsum:∀(a b:List Pat),a.length=b.length->(∀i,i<b.length->(nth a i).size<=(nth b i).size)->Pats.size a<=Pats.size b:=by
    intro a;induction a with
    |nil=>intro b hb _;cases b with|nil=>exact Nat.le_refl _|cons=>simp at hb
    |cons x r ih=>
     intro b hb hs;cases b with
     |nil=>simp at hb
     |cons y s=>
      have h0:=hs 0 og;have h1:=ih s (by simpa using hb) (fun i hi=>hs (i+1) (by simpa using hi));simp only[Pats.size];have:(nth (x::r) 0).size=x.size:=rfl;have:(nth (y::s) 0).size=y.size:=rfl;omega
   refine⟨?_, ?_⟩
   ·show((ownP w t p&&decide (p.op≠5))&&all2 (zbo w n) (zag w t p) l)=true
    rw[h.1,xax h5,Bool.true_and,Bool.true_and];have key:∀(a:List Ty) (b:List Pat),a.length=b.length->(∀i,i<a.length->zbo w n (nth a i) (nth b i)=true)->all2 (zbo w n) a b=true:=by
     intro a;induction a with
     |nil=>intro b hb _;cases b with|nil=>rfl|cons=>simp at hb
     |cons x r ih=>
      intro b hb hs;cases b with
      |nil=>simp at hb
      |cons y s=>
       have h0:=hs 0 og;have h1:=ih s (by simpa using hb) (fun i hi=>hs (i+1) (by simpa using hi));simp only[all2,xad];exact⟨h0,h1⟩
    exact key _ _ od (fun i hi=>(hkid i od).1)
   ·have:=hsum l p.kids hrl (fun i hi=>(hkid i hi).2);show(Pat.mk p.op p.ctor p.n p.m p.var l).size<=_
    rw[xaZ,hsz,zhn];omega
theorem zoH {w:List Data}:∀(m n:Nat){t:Ty}{p:Pat},zbo w n t p=true->asOk m p
 |0,n,t,p,h=>trivial
 |m+1,0,t,p,h=>by simp[zbo] at h
 |m+1,n+1,t,p,h=>by
  have hl:=(zee h).2.2;refine⟨fun h6=>?_,fun k hk=>?_⟩
  ·rw[<-hl];unfold zag;rw[if_neg od,if_neg od,if_pos h6];simp
  ·obtain⟨i,hi,rfl⟩:=List.getElem_of_mem hk;rw[<-zaD hi];exact zoH m n (ze0 h hi)
section
variable {c:Ctx}{all:Array Oper}{chk:List Rec->Prop}{os:List Oper}{recs:List Rec}{env:Env}{hp:Hp}{Q:St->Prop}
variable {d ty:Nat}{pos:String}{af:Array Edge}{g:Option (Nat×Bool)}{pg:List (Nat×AV)}{t:TypeId}{x y:Operand}
theorem RelA.nils_eq {G:Gh}{T:TokF}{w:World}{v:Value} (h:RelA G T w .nils v):v = .slice none 0 0:=by cases h;rfl
theorem Walk.capN {at_ e k yb:Nat} (ht:SlT c.P at_ e k yb) (hg:GH all env g pg) (hd:Nat.blt d c.n=true) (hx:opd env x=some .nils)
  (hn:Walk c all chk os (zan (pg++opF x .nils) [] [] ⟨some (d,.d (.i 0)),[]⟩::recs) ⟨(d,.d (.i 0))::env,hp⟩ Q):
  Walk c all chk (⟨some d,.call ⟨.builtin .cap,#[x],#[at_]⟩,ty,pos,af,g⟩::os) recs ⟨env,hp⟩ Q:=
 xbS hg hd hx (fun a G T w h=>⟨.int .i64 (0:Nat),by
  simp[execOp,resolve,invoke,builtin,h.nils_eq,Builtin.cap_,run_underlying ht.und,goInt],.d (.int _ _)⟩) hn
end
structure Spa (w:List Data):Prop where
 dp:Dp w
 ctors:∀t,InS (w.length*4) t->(za0 w t).length<=4/\(za0 w t).Nodup
 args:∀t c,InS (w.length*4) t->c∈za0 w t->(zaB w t c).length<=3
theorem ziw (k:Int):∀(l:List Ctor) (i:Nat),(zaQ k i l).Pairwise (· < ·)
 | [],_=>by simp[zaQ]
 |x::r,i=>by
  unfold zaQ;have ih:=ziw k r (i+1);split
  ·refine List.pairwise_cons.2 ⟨fun y hy=>?_,ih⟩;obtain⟨j,rfl,h1,_⟩:=zfI k r (i+1) y hy;omega
  ·exact ih
theorem zrI {w:List Data} (hs:WSmall w) (hv:zbp w=true):Spa w:=by
 have hd:=zrH hs hv;have hW:=(zco w).1 hv;refine⟨hd,fun t ht=>?_,fun t c ht hc=>?_⟩
 ·unfold za0;split
  ·simp
  ·rename_i he;refine⟨?_,(ziw _ _ _).imp (fun h=>by omega)⟩;rcases ht with h|⟨h1,h2⟩
   ·exact absurd h he
   ·have:=hd.ct _ h1;rw[h2] at this;exact this
 ·have hti:=zrk ht;obtain⟨d,h1,h2,j,h3,h4⟩:=zcN (a:=t.data) (k:=t.index) hti hc;have hco:=hW.ctor _ (zai h2) _ (zai h4);simp only[zbw,xad,xah] at hco;unfold zaB;rw[h1,h3];simp only[Int.toNat_natCast,xac];omega
section
variable {w:List Data} (hs:Spa w)
include hs
end
def ztg (s:Str):Prop:=2<s.length/\nth s (s.length-2)=58
instance (s:Str):Decidable (ztg s):=inferInstanceAs (Decidable (_/\_))
structure TB (w:List Data):Prop where
 len:w.length<=4
 dn:∀d∈w,d.name.length<=1/\d.ctors.length<=4
 cn:∀d∈w,∀c∈d.ctors,c.name.length<=5/\c.args.length<=3/\0<=c.index/\c.index<=3
 ar:∀d∈w,∀c∈d.ctors,∀t∈c.args,(t.data = -1\/(0<=t.data/\t.data.toNat<w.length))/\ -1<=t.index/\t.index<=3
theorem Pat.cs_cc (l:List Pat):Pat.cs l=l.map Pat.cc:=by
 rw[xaV];exact List.map_congr_left (fun v _=>xaS v)
mutual
def hitP:Pat->Val->Bool
 | .mk op c n m _ ks,v=>if op=3 then zat v.num n m else if op=4 then decide (c=v.ctor)&&hitL ks v.kids else true
def hitL:List Pat->List Val->Bool
 |p::r,v::s=>hitP p v&&hitL r s
 |_,_=>true
end
def one (b:Bool):Nat:=if b=true then 1 else 0
section
variable {w:List Data} (hs:Spa w)
include hs
end
theorem zkI {w:List Data}{g:Ty->Val->Bool}{F:Ty->List Val} (hF:∀u x,x∈F u->g u x=true):∀(us:List Ty) (vs:List Ty) (acc:List (List Val)),(∀l∈acc,all2 g vs l=true)->
  ∀l∈(us.map F).foldl (fun acc l=>acc.flatMap fun o=>l.map fun y=>o++[y]) acc,all2 g (vs++us) l=true
 | [],vs,acc,h,l,hl=>by rw[xaq];exact h l hl
 |u::us,vs,acc,h,l,hl=>by
  rw[show vs++u::us=vs++[u]++us by simp];refine zkI (w:=w) hF us (vs++[u]) _ (fun q hq=>?_) l hl;obtain⟨o,h1,h2⟩:=List.mem_flatMap.1 hq;obtain⟨y,h3,rfl⟩:=List.mem_map.1 h2;have ho:=h o h1;have hy:=hF u y h3;clear hl hq h2 h1 h;induction vs generalizing o with
  |nil=>
   cases o with
   |nil=>simp[all2,hy]
   |cons a r=>simp[all2] at ho
  |cons b s ih=>
   cases o with
   |nil=>simp[all2] at ho
   |cons a r=>
    simp only[all2,xad,xai] at ho ⊢;exact⟨ho.1,ih r ho.2⟩
theorem zkJ {w:List Data}:∀(n:Nat){t:Ty}{v:Val},v∈zaC w n t->zbz w n t v=true
 |0,t,v,h=>by simp[zaC] at h
 |n+1,t,v,h=>by
  unfold zaC at h;unfold zbz;by_cases ht:t.data = -1
  ·rw[if_pos ht] at h ⊢;unfold zfv at h;obtain⟨i,hi,rfl⟩:=List.mem_map.1 h;rw[List.mem_range] at hi;simp only[xad,xah];exact⟨rfl,by show(0:Int)<=(i:Int);omega,by show(i:Int)<=9;omega,rfl⟩
  ·rw[if_neg ht] at h ⊢;obtain⟨c,hc,h⟩:=List.mem_flatMap.1 h;obtain⟨l,hl,rfl⟩:=List.mem_map.1 h;rw[if_pos ⟨rfl,hc⟩];have:=zkI (w:=w) (g:=zbz w n) (F:=zaC w n) (fun u x hx=>zkJ n hx) (zaB w t c) [] [[]] (by simp[all2]) l hl;exact(by simpa using this:all2 (zbz w n) (zaB w t c) l=true)
theorem zkG {w:List Data}:∀(n:Nat){t:Ty}{v:Val},zbz w n t v=true->zbz w (n+1) t v=true
 |0,t,v,h=>by simp[zbz] at h
 |n+1,t,v,h=>by
  rw[zbz] at h ⊢;split
  ·rename_i hd;rw[if_pos hd] at h;exact h
  ·rename_i hd;rw[if_neg hd] at h;split at h
   ·rename_i hc;rw[if_pos hc];exact zjU (fun x _ y _ hxy=>zkG n hxy) h
   ·cases h
theorem zrh {w:List Data}{n m:Nat} (h:n<=m){t:Ty}{v:Val} (hv:zbz w n t v=true):zbz w m t v=true:=by
 induction h with
 |refl=>exact hv
 |step _ ih=>exact zkG _ ih
def szN:Nat->Nat
 |0=>0
 |n+1=>1+3*szN n
theorem xbm {m:Nat}:∀ {l:List Val},(∀k∈l,k.size<=m)->Vals.size l<=l.length*m
 | [],_=>by simp[Vals.size]
 |x::r,h=>by
  have h1:=h x og;have h2:=xbm (l:=r) (fun y hy=>h y (by simp[hy]));simp only[Vals.size,xab,Nat.succ_mul];omega
theorem zmn {w:List Data} (hs:Spa w):∀(n:Nat){t:Ty}{v:Val},InS (w.length*4) t->zbz w n t v=true->v.size<=szN n
 |0,t,v,_,h=>by simp[zbz] at h
 |n+1,t,v,ht,h=>by
  rw[xbi];by_cases hd:t.data = -1
  ·rw[zbz,if_pos hd] at h;simp only[xad,xah] at h;rw[List.eq_nil_of_length_eq_zero h.2.2.2];simp[Vals.size,szN]
  ·obtain⟨f1,f2,f3⟩:=zqo h hd;have h3:=hs.args t _ ht f1;have hz:=xbm (m:=szN n) (l:=v.kids) (fun k hk=>by
    obtain⟨i,hi,rfl⟩:=List.getElem_of_mem hk;have:=zmn hs n (zq3 hs.dp ht f1 _ (zai (i:=i) od)) (f3 i hi);rwa [zaD hi] at this)
   have:v.kids.length*szN n<=3*szN n:=xav _ od;unfold szN;omega
theorem zss {w:List Data} (hs:Spa w){t:Ty} (ht:InS (w.length*4) t){m:Int} (hm:m<=4){v:Val} (h:v∈(vut w t m).1):isV w t v=true/\zbz w 10 t v=true:=by
 unfold vut at h;split at h
 ·have hf:=zkJ m.toNat h;have h1:=zmn hs m.toNat ht hf;have h2:m.toNat<=4:=by omega
  have h3:szN m.toNat<=40:=by
   have:∀i:Nat,i<=4->szN i<=40:=by decide
   exact this _ h2
  have h4:=zrh (m:=10) od hf;refine⟨?_,h4⟩;unfold isV;rw[h4,Bool.true_and];exact xax od
 ·simp at h
def zb5:Nat->Pat->Val->Bool
 |0,_,_=>true
 |n+1,p,v=>if p.op=6 then zb5 n (nth p.kids 0) v else if p.op=3 then zbA (-1) p.n p.m v
  else if p.op=4 then zbA p.ctor 0 0 v&&(List.range p.kids.length).all (fun i=>zb5 n (nth p.kids i) (nth v.kids i)) else true
theorem zhL:∀(a:List Int) (v:Val) (i:Int),zby a v->0<=i->i.toNat<(atV a v).kids.length->zby (a++[i]) v
 | [],v,i,_,h1,h2=>⟨h1,h2,trivial⟩
 |x::r,v,i,h,h1,h2=>⟨h.1,h.2.1,zhL r _ i h.2.2 h1 h2⟩
theorem zlB:∀(a:List Int) (v:Val) (i:Int),atV (a++[i]) v=nth (atV a v).kids i.toNat
 | [],v,i=>rfl
 |x::r,v,i=>zlB r _ i
theorem zmm {w:List Data}{n:Nat}{t:Ty}{p:Pat}{v:Val} (hp:p.ctor∈za0 w t) (h4:p.op=4) (hv:zbz w (n+1) t v=true) (hc:v.ctor=p.ctor):
  (zag w t p).length=v.kids.length/\∀i,i<v.kids.length->zbz w n (nth (zag w t p) i) (nth v.kids i)=true:=by
 have hd:t.data≠ -1:=fun h=>by unfold za0 at hp;rw[if_pos h] at hp;cases hp
 have ht:zag w t p=zaB w t v.ctor:=by unfold zag;rw[if_pos h4,hc]
 unfold zbz at hv;rw[if_neg hd] at hv;split at hv
 ·have hl:=zgV hv;rw[ht];exact⟨hl,fun i hi=>zcI hl hv i od⟩
 ·cases hv
theorem zmx {c n m:Int}{v:Val} (h:zbA c n m v=true):v.ctor=c:=by
 unfold zbA at h;rw[xad] at h;exact xas h.1
section
variable {l:List Cl}{code:List Stp}{v:Val}
theorem zc9:∀(n at_:Nat),zaT l code v n at_->∀m,n<=m->zaT l code v m at_
 |0,at_,h,m,_=>by simp[zaT] at h
 |n+1,at_,h,0,hm=>by omega
 |n+1,at_,h,m+1,hm=>by
  simp only[zaT] at h ⊢;refine⟨h.1, ?_⟩;rcases h.2 with q|q|q
  ·exact .inl q
  ·exact .inr (.inl ⟨q.1,q.2.1,q.2.2.1,q.2.2.2.1,q.2.2.2.2.1,fun hg=>⟨(q.2.2.2.2.2 hg).1,zc9 n _ (q.2.2.2.2.2 hg).2 m od⟩⟩)
  ·exact .inr (.inr ⟨q.1,q.2.1,q.2.2.1,q.2.2.2.1,fun hg=>zc9 n _ (q.2.2.2.2.1 hg) m od,fun hg=>⟨(q.2.2.2.2.2 hg).1,zc9 n _ (q.2.2.2.2.2 hg).2 m od⟩⟩)
theorem zf4:∀(n at_:Nat) (ps:List (List Int)),zaT l code v n at_->∃r,runS l code v n at_ ps=some r
 |0,at_,ps,h=>by simp[zaT] at h
 |n+1,at_,ps,h=>by
  simp only[zaT] at h;rcases h.2 with q|q|q
  ·exact⟨_,zld q⟩
  ·cases hg:zb7 (nth l (nth code at_).cl.toNat).g (zbm (nth code at_).binds v) with
   |true=>exact⟨_,zjs q.1 hg⟩
   |false=>rw[zl2 q.1 hg];exact zf4 n _ _ (q.2.2.2.2.2 hg).2
  ·cases hp:zbA (nth code at_).ctor (nth code at_).n (nth code at_).m (atV (nth code at_).path v) with
   |true=>rw[zl0 q.1 q.2.1 hp];exact zf4 n _ _ (q.2.2.2.2.1 hp)
   |false=>rw[zl1 q.1 q.2.1 hp];exact zf4 n _ _ (q.2.2.2.2.2 hp).2
theorem zo2 {s e f:Nat}{path:List Int}{ctor a b:Int} (hs:s<code.length) (hc:nth code s=toS e ⟨1,path,ctor,a,b,0,[],0⟩) (hl:path.length<=1000000) (hp:zby path v)
  (he:zaT l code v f e) (hn:zbA ctor a b (atV path v)=true->zaT l code v f (s+1)):zaT l code v (f+1) s:=by
 simp only[zaT];refine⟨hs,.inr (.inr ?_)⟩;rw[hc];exact⟨by show(1:Int)≠3;omega,by show(1:Int)≠2;omega,hl,hp,hn,fun _=>⟨Int.natCast_nonneg e,by rw[show(toS e ⟨1,path,ctor,a,b,0,[],0⟩).to.toNat=e from Int.toNat_natCast e];exact he⟩⟩
def At (code:List Stp) (s e:Nat) (x:List Stp):Prop:=∀j,j<x.length->s+j<code.length/\nth code (s+j)=toS e (nth x j)
theorem o0{p:Prop}(h:p:=by rw[xaa];omega):p:=h
theorem At.left {s e:Nat}{x y:List Stp} (h:At code s e (x++y)):At code s e x:=fun j hj=>by
 have:=h j o0;rw[zaD (l:=x++y) o0,List.getElem_append_left hj,<-zaD hj] at this;exact this
theorem At.right {s e:Nat}{x y:List Stp} (h:At code s e (x++y)):At code (s+x.length) e y:=fun j hj=>by
 have:=h (x.length+j) o0;rw[zaD (l:=x++y) o0,List.getElem_append_right od] at this;simp only[Nat.add_sub_cancel_left] at this;rw[<-zaD hj,<-Nat.add_assoc] at this;exact this
theorem zn4 {w:List Data}:∀(N n k:Nat){t:Ty}{p:Pat}{path:List Int}{s e f:Nat},zbo w n t p=true->p.size<=N->n<=k->path.length+n<=1000000->zby path v->zbz w k t (atV path v)=true->
  At code s e (zas N p path)->zaT l code v f e->(zb5 N p (atV path v)=true->zaT l code v f (s+(zas N p path).length))->zaT l code v (f+(zas N p path).length) s
 |0,n,k,t,p,path,s,e,f,hf,hsz,_,_,_,_,_,_,_=>by have:=xaZ p;omega
 |N+1,0,k,t,p,path,s,e,f,hf,hsz,_,_,_,_,_,_,_=>by simp[zbo] at hf
 |N+1,n+1,0,t,p,path,s,e,f,hf,hsz,hnk,_,_,_,_,_,_=>by omega
 |N+1,n+1,k+1,t,p,path,s,e,f,hf,hsz,hnk,hpl,hpi,hv,ha,he,hn=>by
  have hs1:=xaZ p;have hown:=zee hf;rcases zoI hf with h|h|h|h|h
  ·have e0:zas (N+1) p path=[]:=by rw[zas,if_neg od,if_neg od,if_neg od]
   have e1:zb5 (N+1) p (atV path v)=true:=by rw[zb5,if_neg od,if_neg od,if_neg od]
   rw[e0] at hn ⊢;exact hn e1
  ·have e0:zas (N+1) p path=[]:=by rw[zas,if_neg od,if_neg od,if_neg od]
   have e1:zb5 (N+1) p (atV path v)=true:=by rw[zb5,if_neg od,if_neg od,if_neg od]
   rw[e0] at hn ⊢;exact hn e1
  ·have e0:zas (N+1) p path=zas N (nth p.kids 0) path:=by rw[zas,if_pos h]
   have e1:zb5 (N+1) p (atV path v)=zb5 N (nth p.kids 0) (atV path v):=by rw[zb5,if_pos h]
   have ht:zag w t p=[t]:=by unfold zag;rw[if_neg od,if_neg od,if_pos h]
   have hk:p.kids.length=1:=by rw[<-hown.2.2,ht];rfl
   have hk0:=ze0 hf (i:=0) od;rw[ht] at hk0;have hsz0:=xa2 (l:=p.kids) (zai (i:=0) od);rw[e0] at ha hn ⊢;rw[e1] at hn;exact zn4 N n (k+1) hk0 od od od hpi hv ha he hn
  ·have e0:zas (N+1) p path=[⟨1,path,-1,p.n,p.m,0,[],0⟩]:=by rw[zas,if_neg od,if_pos h.1]
   have e1:zb5 (N+1) p (atV path v)=zbA (-1) p.n p.m (atV path v):=by rw[zb5,if_neg od,if_pos h.1]
   rw[e0] at ha hn ⊢;rw[e1] at hn;have h0:=ha 0 og;exact zo2 h0.1 h0.2 od hpi he hn
  ·obtain⟨h4,hc⟩:=h;have e0:zas (N+1) p path=st4 p path::zaV (zas N) p path p.kids.length:=by rw[zas,if_neg od,if_neg od,if_pos h4]
   have e1:zb5 (N+1) p (atV path v)=(zbA p.ctor 0 0 (atV path v)&&(List.range p.kids.length).all (fun i=>zb5 N (nth p.kids i) (nth (atV path v).kids i))):=by rw[zb5,if_neg od,if_neg od,if_pos h4]
   rw[e0] at ha hn ⊢;rw[e1] at hn;have ha':At code s e ([st4 p path]++zaV (zas N) p path p.kids.length):=ha;have h0:=ha 0 og;rw[xab,<-Nat.add_assoc];refine zo2 h0.1 h0.2 od hpi (zc9 _ _ he _ (Nat.le_add_right _ _)) (fun hpass=>?_);have hct:=zmx hpass;obtain⟨hkl,hkv⟩:=zmm hc h4 hv hct;have hkk:p.kids.length=(atV path v).kids.length:=by rw[<-hkl,hown.2.2]
   have hK:=ha'.right;have hpre:∀d i,i+d=p.kids.length->∃y,zaV (zas N) p path p.kids.length=zaV (zas N) p path i++y:=by
    intro d;induction d with
    |zero=>intro i h;exact⟨[],by rw[<-h];simp⟩
    |succ d ih=>
     intro i h;obtain⟨y,hy⟩:=ih (i+1) od;exact⟨zas N (nth p.kids i) (path++[(i:Int)])++y,by rw[hy,zaV,xar]⟩

   have key:∀d i,i+d=p.kids.length->(∀j,j<i->zb5 N (nth p.kids j) (nth (atV path v).kids j)=true)->
     zaT l code v (f+((zaV (zas N) p path p.kids.length).length-(zaV (zas N) p path i).length)) (s+1+(zaV (zas N) p path i).length):=by
    intro d;induction d with
    |zero=>
     intro i hi hall;have:i=p.kids.length:=by omega
     subst this;rw[Nat.sub_self,Nat.add_zero];have:=hn (by
      rw[hpass,Bool.true_and,List.all_eq_true];intro j hj;exact hall j (List.mem_range.1 hj))
     rw[xab] at this;rw[show s+1+(zaV (zas N) p path p.kids.length).length=s+((zaV (zas N) p path p.kids.length).length+1) by omega];exact this
    |succ d ih=>
     intro i hi hall;have hil:i<p.kids.length:=by omega
     obtain⟨y,hy⟩:=hpre d (i+1) od;rw[zaV] at hy;have hlen:=xam List.length hy;simp only[xaa] at hlen;have hA:At code (s+1+(zaV (zas N) p path i).length) e (zas N (nth p.kids i) (path++[(i:Int)])):=by
      have h2:=hK;rw[hy] at h2;exact h2.left.right
     have hki:=xa2 (l:=p.kids) (zai hil);have hin:zby (path++[(i:Int)]) v:=zhL path v i hpi od (by rw[Int.toNat_natCast];omega);have hat:atV (path++[(i:Int)]) v=nth (atV path v).kids i:=by rw[zlB,Int.toNat_natCast]
     have hnx:=fun(hp:zb5 N (nth p.kids i) (nth (atV path v).kids i)=true)=>ih (i+1) od (fun j hj=>by
      rcases Nat.lt_or_ge j i with h|h
      ·exact hall j h
      ·have:j=i:=by omega
       subst this;exact hp)
     have:=zn4 N n k (f:=f+((zaV (zas N) p path p.kids.length).length-(zaV (zas N) p path (i+1)).length)) (ze0 hf hil) od od ot hin (by rw[hat];exact hkv i od) hA
      (zc9 _ _ he _ (Nat.le_add_right _ _)) (fun hp=>by
       rw[hat] at hp;have h3:=hnx hp;rw[zaV,xaa,<-Nat.add_assoc] at h3;rw[zaV,xaa];exact h3)
     rw[zaV,xaa] at this;rw[show f+((zaV (zas N) p path p.kids.length).length-(zaV (zas N) p path i).length)=f+((zaV (zas N) p path p.kids.length).length-((zaV (zas N) p path i).length+(zas N (nth p.kids i) (path++[(i:Int)])).length))+(zas N (nth p.kids i) (path++[(i:Int)])).length by omega];exact this
   have:=key p.kids.length 0 od (fun j hj=>by omega);simpa [zaV] using this
theorem zjW {w:List Data}:∀(N n k:Nat){t:Ty}{p:Pat}{path:List Int},zbo w n t p=true->p.size<=N->n<=k->zby path v->zbz w k t (atV path v)=true->zb5 N p (atV path v)=true->
  ∀x∈zar N p path,zby x.path v
 |0,n,k,t,p,path,hf,hsz,_,_,_,_=>by have:=xaZ p;omega
 |N+1,0,k,t,p,path,hf,hsz,_,_,_,_=>by simp[zbo] at hf
 |N+1,n+1,0,t,p,path,hf,hsz,hnk,_,_,_=>by omega
 |N+1,n+1,k+1,t,p,path,hf,hsz,hnk,hpi,hv,hp=>by
  have hs1:=xaZ p;have hown:=zee hf;intro x hx;rw[zar] at hx;have hname:∀x∈nmB p path,zby x.path v:=fun x hx=>by
   unfold nmB at hx;split at hx
   ·simp only[List.mem_singleton] at hx;subst hx;exact hpi
   ·simp at hx
  rcases List.mem_append.1 hx with hx|hx
  ·exact hname x hx
  have hkids:∀i,i<=p.kids.length->∀x∈zab (zar N) p path i,∃j,j<i/\x∈zar N (nth p.kids j) (zbu p path j):=by
   intro i;induction i with
   |zero=>intro _ x hx;simp[zab] at hx
   |succ i ih=>
    intro hi x hx;rw[zab] at hx;rcases List.mem_append.1 hx with hx|hx
    ·obtain⟨j,h1,h2⟩:=ih od x hx;exact⟨j,by omega,h2⟩
    ·exact⟨i,by omega,hx⟩
  obtain⟨j,hj,hx⟩:=hkids _ (Nat.le_refl _) x hx;have hkj:=xa2 (l:=p.kids) (zai hj);have hfj:=ze0 hf hj;rcases zoI hf with h|h|h|h|h
  ·have:p.kids.length=0:=by rw[<-hown.2.2];unfold zag;rw[if_neg od,if_neg od,if_neg od];rfl
   omega
  ·have:p.kids.length=0:=by rw[<-hown.2.2];unfold zag;rw[if_neg od,if_neg od,if_neg od];rfl
   omega
  ·have ht:zag w t p=[t]:=by unfold zag;rw[if_neg od,if_neg od,if_pos h]
   have hk:p.kids.length=1:=by rw[<-hown.2.2,ht];rfl
   have hj0:j=0:=by omega
   subst hj0;rw[ht] at hfj;rw[zb5,if_pos h] at hp;have hpk:zbu p path 0=path:=by unfold zbu;rw[if_neg od]
   rw[hpk] at hx;exact zjW N n (k+1) hfj od od hpi hv hp x hx
  ·have:p.kids.length=0:=by rw[<-hown.2.2];unfold zag;rw[if_neg od,if_neg od,if_neg od];rfl
   omega
  ·obtain⟨h4,hc⟩:=h;rw[zb5,if_neg od,if_neg od,if_pos h4,xad,List.all_eq_true] at hp;obtain⟨hkl,hkv⟩:=zmm hc h4 hv (zmx hp.1);have hkk:p.kids.length=(atV path v).kids.length:=by rw[<-hkl,hown.2.2]
   have hpk:zbu p path j=path++[(j:Int)]:=by unfold zbu;rw[if_pos h4]
   rw[hpk] at hx;have hat:atV (path++[(j:Int)]) v=nth (atV path v).kids j:=by rw[zlB,Int.toNat_natCast]
   exact zjW N n k hfj od od (zhL path v j hpi od (by rw[Int.toNat_natCast];omega)) (by rw[hat];exact hkv j od) (by rw[hat];exact hp.2 j (List.mem_range.2 hj)) x hx
end
set_option maxHeartbeats 4000000
def AtC (code:List Stp) (s:Nat) (x:List Stp):Prop:=∀j,j<x.length->s+j<code.length/\nth code (s+j)=nth x j
theorem AtC.left {code:List Stp}{s:Nat}{x y:List Stp} (h:AtC code s (x++y)):AtC code s x:=fun j hj=>by
 have:=h j o0;rw[zaD (l:=x++y) o0,List.getElem_append_left hj,<-zaD hj] at this;exact this
theorem AtC.right {code:List Stp}{s:Nat}{x y:List Stp} (h:AtC code s (x++y)):AtC code (s+x.length) y:=fun j hj=>by
 have:=h (x.length+j) o0;rw[zaD (l:=x++y) o0,List.getElem_append_right od] at this;simp only[Nat.add_sub_cancel_left] at this;rw[<-zaD hj,<-Nat.add_assoc] at this;exact this
theorem AtC.map {code:List Stp}{s e:Nat}{x:List Stp} (h:AtC code s (x.map (toS e))):At code s e x:=fun j hj=>by
 have:=h j (by rw[xac];exact hj);rw[zaD (l:=x.map (toS e)) (by rw[xac];exact hj),List.getElem_map,<-zaD hj] at this;exact this
theorem AtC.self (a x b:List Stp):AtC (a++(x++b)) a.length x:=fun j hj=>by
 refine⟨by simp;omega, ?_⟩;rw[zaD ot,List.getElem_append_right od];simp only[Nat.add_sub_cancel_left];rw[List.getElem_append_left hj,<-zaD hj]
theorem zpR {p:Pat}{x:Pb} (h:x∈zbV p):x∈zar p.size p []:=by
 unfold zbV zbK at h;obtain⟨k,_,h⟩:=List.mem_flatMap.1 h;exact(List.mem_filter.1 h).1
def RunsC (l:List Cl) (code:List Stp) (v:Val) (s:Nat):Prop:=zaT l code v (code.length-s) s
theorem zoX {w:List Data}{l:List Cl}{code:List Stp}{v:Val}{t:Ty}{i E:Nat} (hi:i<l.length) (hE:E<code.length) (hv:zbz w 10 t v=true) (hCE:RunsC l code v E):
  ∀(ps:List Pat) (s:Nat),(∀p∈ps,zbo w 10 t p=true/\p.size<=60)->s+segL ps=E->AtC code s (segS i E s ps)->RunsC l code v s
 | [],s,_,hs,_=>by
  have:s=E:=by simp only[segL] at hs;omega
  rw[this];exact hCE
 |p::r,s,hp,hs,hA=>by
  rw[segL] at hs;obtain⟨hf,hz⟩:=hp p og;have hA0:AtC code s ((zaA p).map (toS (s+(zaA p).length+1))++([toS E (zdq i (zbV p))]++segS i E (s+(zaA p).length+1) r)):=hA;have hT:=hA0.left.map;have h1:=hA0.right;rw[xac] at h1;have hk:=h1.left 0 og;have h2:=h1.right;have ih:=zoX hi hE hv hCE r (s+(zaA p).length+1) (fun q hq=>hp q (by simp[hq])) od h2;have ih':zaT l code v (code.length-(s+(zaA p).length+1)) (s+(zaA p).length+1):=ih;have hbl:=zgX (zar p.size p []) 6;have hbl2:=zeu p.size p [];have hpass:zb5 p.size p (atV [] v)=true->zaT l code v (code.length-(s+(zaA p).length+1)+1) (s+(zaA p).length):=fun hpa=>by
   simp only[zaT];refine⟨hk.1,.inr (.inl ?_)⟩;have e:nth code (s+(zaA p).length)=toS E (zdq i (zbV p)):=hk.2;rw[e];refine⟨rfl,by show(zbV p).length<=_;unfold zbV;omega,fun x hx=>?_,Int.natCast_nonneg i,by rw[show(toS E (zdq i (zbV p))).cl.toNat=i from Int.toNat_natCast i];exact hi,fun _=>⟨Int.natCast_nonneg E, ?_⟩⟩
   ·have hx':=zpR (show x∈zbV p from hx);have h3:=zgW p.size p [] x hx';exact⟨by simp at h3;omega,zjW p.size 10 10 hf (Nat.le_refl _) (Nat.le_refl _) (show zby [] v from trivial) hv hpa x hx'⟩
   ·rw[show(toS E (zdq i (zbV p))).to.toNat=E from Int.toNat_natCast E];exact zc9 _ _ hCE _ od
  have:=zn4 p.size 10 10 (f:=code.length-(s+(zaA p).length+1)+1) hf (Nat.le_refl _) (Nat.le_refl _) og (show zby [] v from trivial) hv hT (zc9 _ _ ih' _ od) hpass;unfold RunsC;have hlt:=hk.1;rw[show code.length-s=code.length-(s+(zaA p).length+1)+1+(zaA p).length by omega];exact this
theorem zmi (l:List Cl):∀d i,i+d=l.length->∃y,zam l l.length=zam l i++y
 |0,i,h=>⟨[],by rw[<-h];simp⟩
 |d+1,i,h=>by
  obtain⟨y,hy⟩:=zmi l d (i+1) od;rw[zam,zjX] at hy;exact⟨_,by rw[hy,xar]⟩
theorem zsj {w:List Data}{l:List Cl}{t:Ty}{v:Val} (hv:zbz w 10 t v=true) (hp:∀c∈l,∀p∈zae c.pat,zbo w 10 t p=true/\p.size<=60):zaT l (za7 l) v (za7 l).length 0:=by
 have hlen:(za7 l).length=(zam l l.length).length+1:=by unfold za7;simp
 have hend:RunsC l (za7 l) v (zam l l.length).length:=by
  unfold RunsC;rw[hlen,show(zam l l.length).length+1-(zam l l.length).length=0+1 by omega];simp only[zaT];refine⟨by omega,.inl ?_⟩;have:nth (za7 l) (zam l l.length).length=zhB:=by
   rw[zaD od];simp[za7]
  rw[this];rfl
 have key:∀d i,i+d=l.length->RunsC l (za7 l) v (zam l i).length:=by
  intro d;induction d with
  |zero=>intro i h;rw[show i=l.length by omega];exact hend
  |succ d ih=>
   intro i h;have hnx:=ih (i+1) od;obtain⟨y,hy⟩:=zmi l d (i+1) od;have e:zam l (i+1)=zam l i++segS i ((zam l i).length+segL (zae (nth l i).pat)) (zam l i).length (zae (nth l i).pat):=by rw[zam,zjX]
   have eL:(zam l (i+1)).length=(zam l i).length+segL (zae (nth l i).pat):=by rw[e,xaa,zn3]
   rw[eL] at hnx;have hyl:=xam List.length hy;rw[xaa] at hyl;refine zoX (i:=i) (E:=(zam l i).length+segL (zae (nth l i).pat)) od od hv hnx _ _ (hp _ (zai od)) Z ?_;have hA:=AtC.self (zam l i) (segS i ((zam l i).length+segL (zae (nth l i).pat)) (zam l i).length (zae (nth l i).pat)) (y++[zhB]);have e2:zam l i++(segS i ((zam l i).length+segL (zae (nth l i).pat)) (zam l i).length (zae (nth l i).pat)++(y++[zhB]))=za7 l:=by
    unfold za7;rw[hy,e,xar,xar]
   rw[e2] at hA;exact hA
 have:=key l.length 0 od;exact this
def fewS (l:List Cl):Bool:=l.all fun c=>decide ((zae c.pat).length<=40)
def zbI (w:List Data) (t:Ty) (l:List Cl):List Stp×Bool:=if zaU w t l=true/\fewS l=true then (za7 l,true) else ([],false)
theorem zhf {w:List Data}{t:Ty}{l:List Cl} (h:zaU w t l=true):∀c∈l,isP w t c.pat=true:=by
 unfold zaU at h;simp only[xad,Bool.not_eq_true',List.any_eq_false] at h;intro c hc;have:=h.2.2 c hc;simp only[Bool.not_eq_true',Bool.not_eq_false] at this;unfold clOk at this;rw[xad] at this;exact this.1
theorem zlp {p x:Pat} (h:x∈zae p):x∈zaE p:=List.mem_of_mem_take h
theorem zir {w:List Data}{t:Ty}{l:List Cl} (h:zaU w t l=true):∀c∈l,∀p∈zae c.pat,zbo w 10 t p=true/\p.size<=60:=fun c hc p hp=>by
 have h1:=zhf h c hc;unfold isP at h1;simp only[xad,xah] at h1;obtain⟨h2,h3⟩:=zeR 10 h1.1 p (zlp hp);exact⟨h2,by omega⟩
theorem zf5 {w:List Data}:∀(n:Nat){t:Ty}{p:Pat},zaw w n t p=true->binP n p=true
 |0,t,p,h=>by simp[zaw] at h
 |n+1,t,p,h=>by
  have hown:=zck h;simp only[zaw,xad] at h;unfold binP;rw[xad,List.all_eq_true];refine⟨xax (fun h5=>?_),fun k hk=>?_⟩
  ·rw[hown.2];unfold zag;rw[if_neg od,if_pos h5];rfl
  ·obtain⟨i,hi,rfl⟩:=List.getElem_of_mem hk;rw[<-zaD hi];exact zf5 n (zcI (by rw[hown.2]) h.2 i (by rw[<-hown.2];exact hi))
theorem znR:∀l:List Pat,l.length<=Pats.size l
 | []=>by simp[Pats.size]
 |x::r=>by have:=znR r;have:=xaZ x;simp only[xab,Pats.size];omega
theorem zoT:∀(n:Nat) (p:Pat),p.size<=n->p.size<=1000000000000->p.ok
 |0,p,h,_=>by have:=xaZ p;omega
 |n+1,p,h,hb=>by
  have hs:=xaZ p;rw[xaY];refine⟨by have:=znR p.kids;omega,xa1 (fun k hk=>?_)⟩;have:=xa2 hk;exact zoT n k od od
theorem zfi {w:List Data}{a k:Int}{l:List Cl} (h:zaU w ⟨a,k⟩ l=true) (hok:ClsOk l):PartsOk 60 l where
 len:=by have:=(zhe h).2;omega
 ne c hc q:=by
  have h1:=zhf h c hc;unfold isP at h1;simp only[xad] at h1;have h2:=(zit 10 (zf5 10 h1.1)).2;unfold zae at q;have h3:=xam List.length q;rw[List.length_take] at h3;simp at h3;rw[h3] at h2;simp at h2
 bin c hc:=by
  have h1:=zhf h c hc;unfold isP at h1;simp only[xad] at h1;exact⟨⟨10,zf5 10 h1.1⟩,hok.2 c hc⟩
 part c hc p hp:=by
  obtain⟨h1,h2⟩:=zir h c hc p hp;exact⟨h2,zoT _ p (Nat.le_refl _) od,zoH _ _ h1⟩
def zcA (l:List Cl):List Val->Int
 | []=>0
 |v::r=>(((runS l (za7 l) v (za7 l).length 0 []).getD (0,[],[])).2.2.length:Int)+zcA l r
set_option maxHeartbeats 2000000
def nmQ (p:Pat):List Int:=if p.op=2\/p.op=6 then [p.var] else []
def bvP:Nat->Pat->List Int
 |0,_=>[]
 |n+1,p=>nmQ p++(p.kids.map (bvP n)).flatten
theorem zrM:∀(n:Nat) (p:Pat) (path:List Int),(zar n p path).map Pb.var=bvP n p
 |0,_,_=>rfl
 |n+1,p,path=>by
  have key:∀i,i<=p.kids.length->(zab (zar n) p path i).map Pb.var=((p.kids.take i).map (bvP n)).flatten:=by
   intro i;induction i with
   |zero=>intro _;simp[zab]
   |succ i ih=>
    intro hi;rw[zab,xag,ih od,zrM n,List.take_add_one,xag,List.flatten_append];congr 1
    rw[xan od,<-zaD od];simp
  rw[zar,bvP,xag,key _ (Nat.le_refl _),List.take_length];congr 1
  unfold nmB nmQ;split<;>rfl
theorem znh {f:Pat->List Int}{g:Ty->Pat->List Vt}:∀(a:List Ty) (b l:List Pat),a.length=b.length->l.length=b.length->(∀i,i<b.length->zbQ (g (nth a i) (nth b i))=true->(f (nth l i)).Nodup/\∀v∈f (nth l i),v∈(g (nth a i) (nth b i)).map Vt.var)->
  ((zaY g a b).map Vt.var).Nodup->(l.map f).flatten.Nodup/\∀v∈(l.map f).flatten,v∈(zaY g a b).map Vt.var
 | [],[],[],_,_,_,_=>by simp
 |t::a,p::b,x::l,h1,h2,h3,h4=>by
  simp only[zaY,xag] at h4 ⊢;obtain⟨n1,n2,n3⟩:=List.nodup_append.1 h4;obtain⟨k1,k2⟩:=h3 0 og (xax n1);obtain⟨m1,m2⟩:=znh (f:=f) (g:=g) a b l (by simpa using h1) (by simpa using h2) (fun i hi=>h3 (i+1) (by simpa using hi)) n2;refine⟨List.nodup_append.2 ⟨k1,m1,fun x hx y hy=>n3 x (k2 x hx) y (m2 y hy)⟩,fun v hv=>?_⟩;rcases List.mem_append.1 hv with h|h
  ·exact List.mem_append_left _ (k2 v h)
  ·exact List.mem_append_right _ (m2 v h)
 | [],_::_,_,h,_,_,_=>by simp at h
 |_::_,[],_,h,_,_,_=>by simp at h
 | [],[],_::_,_,h,_,_=>by simp at h
 |_::_,_::_,[],_,h,_,_=>by simp at h
theorem zf8 {w:List Data}:∀(n:Nat){t:Ty}{p:Pat},zaw w n t p=true->linP w n t p=true->∀x∈zaE p,∀N,(bvP N x).Nodup/\∀v∈bvP N x,v∈(zaI w n t p).map Vt.var
 |0,t,p,h,_,_,_,_=>by simp[zaw] at h
 |n+1,t,p,h,hl,x,hx,0=>by simp[bvP]
 |n+1,t,p,h,hl,x,hx,N+1=>by
  have hnod:=xas (zdA w (n+1) t p h hl);have hown:=zck h;simp only[zaw,xad] at h;simp only[linP,xad] at hl;have hkl:(zag w t p).length=p.kids.length:=by rw[hown.2]
  by_cases h5:p.op=5
  ·have ht:zag w t p=[t,t]:=by unfold zag;rw[if_neg od,if_pos h5]
   have hk:p.kids.length=2:=by rw[hown.2,ht];rfl
   have h2:=zcI (by rw[ht,hk];rfl) h.2;have h3:=zcI (by rw[ht,hk];rfl) hl.1;rw[ht] at h2 h3;have hal:=hl.2;rw[if_pos h5] at hal;rw[zfc h5 hk] at hx;have e2:zaI w (n+1) t p=zaI w n t (nth p.kids 0):=by
    obtain⟨x0,x1,hxy⟩:∃x y,p.kids=[x,y]:=by
     match hp:p.kids,hk with
     | [x,y],_=>exact⟨x,y,rfl⟩
    simp only[zaI,zaN,zcg,ht,hxy,if_pos h5];rw[if_neg od];simp[zaY,nth]
   rw[e2];have s0:zaw w n t (nth p.kids 0)=true:=h2 0 og;have s1:zaw w n t (nth p.kids 1)=true:=h2 1 og;have l0:linP w n t (nth p.kids 0)=true:=h3 0 og;have l1:linP w n t (nth p.kids 1)=true:=h3 1 og;rcases List.mem_append.1 hx with hx|hx
   ·exact zf8 n s0 l0 x hx (N+1)
   ·obtain⟨a,b⟩:=zf8 n s1 l1 x hx (N+1);obtain⟨_,q⟩:=zpO (zdA w n t _ s0 l0) (zdA w n t _ s1 l1) hal;exact⟨a,fun v hv=>q v (b v hv)⟩
  ·rw[zem h5] at hx;obtain⟨l,hpl,rfl⟩:=List.mem_map.1 hx;unfold zdm at hpl;obtain⟨q,hq,r,e,hrl,hm⟩:=zgM _ _ _ hpl;simp only[List.mem_singleton] at hq;subst hq;rw[List.nil_append] at e;subst e;rw[xac] at hrl hm;have hv:zcg w t p=zag w t p:=by unfold zcg;rw[if_neg h5]
   have e2:zaI w (n+1) t p=zaN t p++zaY (zaI w n) (zag w t p) p.kids:=by simp only[zaI,hv]
   rw[e2,xag] at hnod ⊢;obtain⟨n1,n2,n3⟩:=List.nodup_append.1 hnod;obtain⟨k1,k2⟩:=znh (f:=bvP N) (g:=zaI w n) (zag w t p) p.kids l hkl od (fun i hi _=>by
    have h3:=zcI hkl h.2 i od;have h6:=zcI hkl hl.1 i od;have h4:=hm i hi;rw[zaD (l:=p.kids.map zaE) (by simpa using hi),List.getElem_map,<-zaD hi] at h4;exact zf8 n h3 h6 _ h4 N) n2
   have en:nmQ (.mk p.op p.ctor p.n p.m p.var l)=(zaN t p).map Vt.var:=by
    show(if p.op=2\/p.op=6 then [p.var] else [])=_
    unfold zaN;split<;>rfl
   show(nmQ (.mk p.op p.ctor p.n p.m p.var l)++(l.map (bvP N)).flatten).Nodup/\∀v∈nmQ (.mk p.op p.ctor p.n p.m p.var l)++(l.map (bvP N)).flatten,_
   rw[en];refine⟨List.nodup_append.2 ⟨n1,k1,fun a ha b hb=>n3 a ha b (k2 b hb)⟩,fun v hv=>?_⟩;rcases List.mem_append.1 hv with h' | h'
   ·exact List.mem_append_left _ h'
   ·exact List.mem_append_right _ (k2 v h')
theorem zkH {w:List Data}:∀(N n:Nat){t:Ty}{x:Pat},zbo w n t x=true->∀v∈bvP N x,0<=v/\v<=5
 |0,_,_,_,_,v,hv=>by simp[bvP] at hv
 |N+1,0,t,x,h,v,hv=>by simp[zbo] at h
 |N+1,n+1,t,x,h,v,hv=>by
  have hown:=zee h;have h0:=xas hown.1;rw[bvP] at hv;rcases List.mem_append.1 hv with hv|hv
  ·unfold nmQ at hv;split at hv
   ·rename_i q;rw[List.mem_singleton] at hv;subst hv;exact h0.1 q
   ·cases hv
  ·obtain⟨l,hl,hv⟩:=List.mem_flatten.1 hv;obtain⟨k,hk,rfl⟩:=List.mem_map.1 hl;obtain⟨i,hi,rfl⟩:=List.getElem_of_mem hk;rw[<-zaD hi] at hv;exact zkH N n (ze0 h hi) v hv
theorem zpv {w:List Data}{t:Ty}{p x:Pat} (hp:isP w t p=true) (hx:x∈zaE p) (N:Nat) (path:List Int):
  ((zar N x path).map Pb.var).Nodup/\(∀b∈zar N x path,0<=b.var/\b.var<=5)/\(zar N x path).length<=6/\zbK (zar N x path) 6=zfr (zar N x path):=by
 unfold isP at hp;simp only[xad,xah] at hp;have hv:=zf8 10 hp.1 hp.2.2 x hx N;have hr:=zkH N 10 (zeR 10 hp.1 x hx).1;rw[<-zrM N x path] at hv hr;have hr':∀b∈zar N x path,0<=b.var/\b.var<=5:=fun b hb=>hr _ (List.mem_map_of_mem hb);have hlen:(zar N x path).length<=6:=by
  have:=zgL (a:=(zar N x path).map Pb.var) (b:=[0,1,2,3,4,5]) hv.1 (fun y hy=>by
   have:=hr y hy;simp only[List.mem_cons,xau,or_false];omega)
  simpa using this
 exact⟨hv.1,hr',hlen,znf hv.1 hr'⟩
def zjq (hpc hp0:Hp) (tk:List Nat):List Nat:=(hpc.map (·.1)++hp0.map (·.1)).filter fun x=> !zaJ x tk
theorem zqw {hpc hp0:Hp}{tk:List Nat}{id:Nat}:id∈zjq hpc hp0 tk↔(id∈hpc.map (·.1)\/id∈hp0.map (·.1))/\id∉tk:=by
 unfold zjq;rw[List.mem_filter,List.mem_append];have:(!zaJ id tk)=true↔id∉tk:=by
  rw[<-zav];cases zaJ id tk<;>simp
 rw[this]
def zkE (tk K K0:List Nat):Nat×Option Res->Bool
 |(i,some (.box cs))=>zaJ i K0||subB (AV.idsL cs) K
 |(i,some (.tree cs))=>zaJ i K0||subB (AV.idsL cs) K
 |(_,some (.map _))=>true
 |(i,some (.tok _ _))=>zaJ i tk
 |(_,none)=>false
def zrX (tk cr K:List Nat):Nat×Option Res->Bool
 |(_,some (.box cs))=>subB (AV.idsL cs) K
 |(_,some (.tree cs))=>subB (AV.idsL cs) K
 |(_,some (.map _))=>true
 |(i,some (.tok _ _))=>zaJ i cr
 |(i,none)=>zaJ i tk
def zm0:Option Res->Bool
 |some (.tok _ _)=>true
 |_=>false
def zoL:Option Res->Bool
 |none=>true
 |_=>false
def tkB (hpc hp0:Hp) (i:Nat):Bool:=zm0 (getH hpc i)&&(zaJ i (hp0.map (·.1))&&zoL (getH hp0 i))
def zlY (hpc hp0:Hp) (r:AV) (tk cr:List Nat):Bool:=
 tk.all (tkB hpc hp0)&&hpc.all (zkE tk (zjq hpc hp0 tk) (hp0.map (·.1)))&&hp0.all (zrX tk cr (zjq hpc hp0 tk))&&hp0.all (fun p=>zaJ p.1 (hpc.map (·.1))||zaJ p.1 cr)&&subB r.ids (zjq hpc hp0 tk)
theorem zrD {hpc hp0:Hp}{i:Nat} (h:tkB hpc hp0 i=true):zm0 (getH hpc i)=true/\i∈hp0.map (·.1)/\getH hp0 i=none:=by
 unfold tkB at h;simp only[xad] at h;refine⟨h.1,zav.1 h.2.1, ?_⟩;cases hg:getH hp0 i with
 |none=>rfl
 |some x=>rw[hg] at h;exact absurd h.2.2 (by simp[zoL])
theorem zg2 {hp:Hp}{tk K K0:List Nat} (ha:hp.all (zkE tk K K0)=true){id:Nat} (h:id∈hp.map (·.1)):(getH hp id).isSome:=by
 induction hp with
 |nil=>simp at h
 |cons p t ih=>
  obtain⟨i,x⟩:=p;rw[zad];simp only[List.all_cons,xad] at ha;by_cases hi:id=i
  ·rw[if_pos hi];cases x with
   |none=>simp[zkE] at ha
   |some r=>rfl
  ·rw[if_neg hi];refine ih ha.2 ?_;simp only[xaf,List.mem_cons] at h;exact h.resolve_left hi
theorem zor {hp:Hp}{tk cr K:List Nat} (ha:hp.all (zrX tk cr K)=true){id:Nat} (hn:id∉tk) (h:id∈hp.map (·.1)):(getH hp id).isSome:=by
 induction hp with
 |nil=>simp at h
 |cons p t ih=>
  obtain⟨i,x⟩:=p;rw[zad];simp only[List.all_cons,xad] at ha;by_cases hi:id=i
  ·rw[if_pos hi];cases x with
   |none=>subst hi;exact absurd (zav.1 ha.1) hn
   |some r=>rfl
  ·rw[if_neg hi];refine ih ha.2 ?_;simp only[xaf,List.mem_cons] at h;exact h.resolve_left hi
section
variable {c:Ctx}
theorem zpi {G:Gh}{s:St}{a:Act}{w:World} (hr:R c G s a w){f:FuncId}{avs:List AV}{hpc hp0:Hp}{r:AV}{vals:Array Value} (hf:FnD c.P f avs hpc r hp0)
  (hargs:AllR G (tokf s.hp) w avs vals) (hsub:∀id r,getH hpc id=some r->getH s.hp id=some r)
  (tk cr:List Nat) (hcr:∀id,id∈cr->getH s.hp id=none/\zcb id s) (hchk:zlY hpc hp0 r tk cr=true):
  Calls c.P f vals w fun e w'=>∃v,e = .returned v/\∃G',R c G' { s with hp:=hp0++s.hp } a w'/\RelA G' (tokf (hp0++s.hp)) w' r v:=by
 simp only[zlY,xad] at hchk;obtain⟨⟨⟨⟨c0,c1⟩,c2⟩,c3⟩,c4⟩:=hchk;have ctk:=fun id (h:id∈tk)=>zrD (List.all_eq_true.1 c0 id h)

 have hok:HOK G w hpc avs vals:=by
  have hm:∀ {x:AV}{v:Value},RelA G (tokf s.hp) w x v->RelA G (tokf hpc) w x v:=fun hx=>
   hx.mono (fun _ _ ho=>⟨ho,rfl⟩) (fun _ _=> .inl rfl) (fun id _ p hp=>⟨by
    obtain⟨n,k⟩:=p;exact zak.2 (hsub _ _ (zak.1 hp)),fun _ _=>⟨Z,Z⟩⟩)
  have hsome:∀id,(getH hpc id).isSome->(getH s.hp id).isSome:=fun id hi=>by
   obtain⟨x,hx⟩:=Option.isSome_iff_exists.1 hi;rw[hsub _ _ hx];rfl
  refine⟨⟨hargs.size,fun i hi hv=>hm (hargs.rel i hi hv)⟩,fun id r h=>?_,fun id id' h1 h2=>hr.disj id id' (hsome _ h1) (hsome _ h2),hr.top⟩;have:=hr.heap id r (hsub id r h);cases r with
  |box cs=>
   obtain⟨b,us,e,e1,e2,e3,e4,e5⟩:=this;exact⟨b,us,e,e1,e2,e3,e4,fun i hi hv=>hm (e5 i hi hv)⟩
  |tok n k=>exact this
  |map ks=>exact this
  |tree cs=>exact zaW this Z (fun _ _=>⟨Z,Z⟩) (Nat.le_refl _) (fun _ _ _=>hm)
 refine(hf G w vals hok).mono ?_;rintro e w' ⟨v,r',hp1,G',rfl,⟨rfl,rfl⟩,hret⟩
 refine⟨v,rfl, ?_⟩;let keys:=zjq hpc hp1 tk
 have kin:∀id,id∈keys↔(id∈hpc.map (·.1)\/id∈hp1.map (·.1))/\id∉tk:=fun id=>zqw;have hkeys:∀id,id∈keys->(getH (hp1++hpc) id).isSome:=fun id hid=>by
  obtain⟨h1,h2⟩:=(kin id).1 hid;rw[zbf];split
  ·rename_i h;exact zor c2 h2 (zav.1 h)
  ·rename_i h;rcases h1 with h' | h'
   ·exact zg2 c1 h'
   ·exact absurd (zav.2 h') h
 have hget:∀id,id∈keys->getH (hp1++s.hp) id=getH (hp1++hpc) id:=fun id hid=>by
  obtain⟨h1,h2⟩:=(kin id).1 hid;rw[zbf,zbf];split
  ·rfl
  ·rename_i h;have h':id∈hpc.map (·.1):=h1.resolve_right (fun h'=>h (zav.2 h'));obtain⟨x,hx⟩:=Option.isSome_iff_exists.1 (zg2 c1 h');rw[hx,hsub _ _ hx]
 have hgett:∀id,id∈tk->getH (hp1++s.hp) id=none:=fun id hid=>by
  obtain⟨_,h2,h3⟩:=ctk id hid;rw[zbf,if_pos (zav.2 h2)];exact h3
 have hgetn':∀id,id∉keys->id∉tk->getH (hp1++s.hp) id=getH s.hp id:=fun id hid ht=>by
  rw[zbf];split
  ·rename_i h;exact absurd ((kin id).2 ⟨.inr (zav.1 h),ht⟩) hid
  ·rfl
 have hgetn:∀id x,id∉keys->getH (hp1++s.hp) id=some x->getH s.hp id=some x/\id∉hpc.map (·.1):=fun id x hid hx=>by
  by_cases ht:id∈tk
  ·rw[hgett id ht] at hx;cases hx
  ·rw[hgetn' id hid ht] at hx;exact⟨hx,fun h=>hid ((kin id).2 ⟨.inl h,ht⟩)⟩
 have ht0:∀id,id∈keys->id∉cr->tokf (hp1++s.hp) id=none:=fun id hid hncr=>by
  obtain⟨q1,q2⟩:=(kin id).1 hid;cases hT:tokf (hp1++s.hp) id with
  |none=>rfl
  |some p=>
   obtain⟨n,k⟩:=p;have h1:=zak.1 hT;rw[hget id hid,zbf] at h1;split at h1
   ·have:=zb2 h1 c2;exact absurd (zav.1 this) hncr
   ·have:=zb2 h1 c1;exact absurd (zav.1 this) q2
 let G2:Gh:={ F:=G'.F,loc:=fun id=>bif zaJ id keys then G'.loc id else G.loc id }
 have hl1:∀id,id∈keys->G2.loc id=G'.loc id:=fun id hid=>by simp[G2,zav.2 hid]
 have hl2:∀id,id∉keys->G2.loc id=G.loc id:=fun id hid=>by
  have:zaJ id keys=false:=by
   cases h:zaJ id keys with
   |true=>exact absurd (zav.1 h) hid
   |false=>rfl
  simp[G2,this]
 have hboxc:∀id,id∈hpc.map (·.1)->id∉tk->zbr hpc id=true:=fun id hid hnt=>by
  obtain⟨x,hx⟩:=Option.isSome_iff_exists.1 (zg2 c1 hid);unfold zbr;rw[hx];cases x with
  |tok n k=>have:=zb2 hx c1;exact absurd (zav.1 this) hnt
  |_=>rfl

 have hkey:∀id,id∈keys->(id∈hpc.map (·.1)/\(G'.loc id).head?=(G.loc id).head?)\/(id∉hpc.map (·.1)/\id∈cr):=fun id hid=>by
  obtain⟨q1,q2⟩:=(kin id).1 hid;by_cases h:id∈hpc.map (·.1)
  ·exact .inl ⟨h,(hret.kept id (hboxc id h q2)).1⟩
  ·right
   refine⟨h, ?_⟩;have h0:id∈hp1.map (·.1):=q1.resolve_left h;obtain⟨p,hp,rfl⟩:=List.mem_map.1 h0;have:=List.all_eq_true.1 c3 p hp;simp only[Bool.or_eq_true] at this;rcases this with h' | h'
   ·exact absurd (zav.1 h') h
   ·exact zav.1 h'
 have howned:∀b,b∈zbE G hpc->∃id,(getH s.hp id).isSome/\b∈G.loc id/\id∈hpc.map (·.1):=fun b hb=>by
  obtain⟨id,h1,h2⟩:=zcE.1 hb;obtain⟨x,hx⟩:=Option.isSome_iff_exists.1 h1;exact⟨id,by rw[hsub _ _ hx];rfl,h2,List.mem_map.2 ⟨_,zcf hx,rfl⟩⟩
 have bound:∀i r,getH s.hp i=some r->∀b,b∈G.loc i->b<w.heap.size:=fun i r h=>(hr.heap i r h).bound;have away:∀i r,i∉hpc.map (·.1)->getH s.hp i=some r->∀b,b∈G.loc i->b∉zbE G hpc:=fun i r hi h b hb hown=>by
  obtain⟨id,h1,h2,h3⟩:=howned b hown;exact hr.disj i id (by rw[h];rfl) h1 (fun e=>hi (e ▸ h3)) b hb h2
 have hm:∀ {x:AV}{u:Value},(∀id,id∈x.ids->id∉cr)->RelA G (tokf s.hp) w x u->RelA G2 (tokf (hp1++s.hp)) w' x u:=fun hx hxx=>
  hxx.mono hret.frm.cell (fun id hid=>by
   by_cases hk:id∈keys
   ·refine .inr ⟨ht0 id hk (hx id hid), ?_⟩;rw[hl1 id hk];rcases hkey id hk with ⟨_,h⟩|⟨_,h⟩
    ·exact h
    ·exact absurd h (hx id hid)
   ·exact .inl (hl2 id hk)) (fun id hid p hp=>by
   have hk:id∉keys:=fun hk=>by rw[ht0 id hk (hx id hid)] at hp;cases hp
   obtain⟨n,k⟩:=p;obtain⟨h1,hnc⟩:=hgetn id _ hk (zak.1 hp);exact⟨zak.2 h1,fun b hb=>hret.frm.block b (bound id _ h1 b hb) (away id _ hnc h1 b hb)⟩)
 have hm2:∀ {x:AV}{u:Value},(∀id,id∈x.ids->id∈keys)->RelA G' (tokf (hp1++hpc)) w' x u->RelA G2 (tokf (hp1++s.hp)) w' x u:=fun hx hxx=>
  hxx.mono (fun _ _ ho=>⟨ho,rfl⟩) (fun id hid=> .inl (hl1 id (hx id hid))) (fun id hid p hp=>⟨by
   have hk:=hx id hid;unfold tokf at hp ⊢;rw[hget id hk] at hp;exact hp,fun _ _=>⟨Z,Z⟩⟩)
 have hsome:∀id,id∉keys->(getH (hp1++s.hp) id).isSome->(getH s.hp id).isSome/\id∉hpc.map (·.1):=fun id hid h=>by
  obtain⟨x,hx⟩:=Option.isSome_iff_exists.1 h;obtain⟨h1,h2⟩:=hgetn id x hid hx;exact⟨by rw[h1];rfl,h2⟩
 have hsub2:∀id x,id∈keys->getH (hp1++hpc) id=some x->∀j,j∈x.ids->j∈keys:=fun id x hk hx j hj=>by
  rw[zbf] at hx;split at hx
  ·cases x with
   |box cs=>exact zdC (zb2 hx c2) j hj
   |tree cs=>exact zdC (zb2 hx c2) j hj
   |tok n k=>simp[Res.ids] at hj
   |map ks=>simp[Res.ids] at hj
  ·rename_i hn;cases x with
   |box cs=>
    have:=zb2 hx c1;simp only[zkE,Bool.or_eq_true] at this;rcases this with h|h
    ·exact absurd h hn
    ·exact zdC h j hj
   |tree cs=>
    have:=zb2 hx c1;simp only[zkE,Bool.or_eq_true] at this;rcases this with h|h
    ·exact absurd h hn
    ·exact zdC h j hj
   |tok n k=>simp[Res.ids] at hj
   |map ks=>simp[Res.ids] at hj
 refine⟨G2,⟨hr.size,hr.defers,fun i x hx=>?_,fun id x hx=>?_,fun id id' h1 h2 hne b hb=>?_,fun id h1 b hb=>?_,hr.frm.trans hret.frm ?_,hret.top,fun id l hl=>?_⟩, ?_⟩
 ·exact hm (fun id hid hc=>(hcr id hc).2.1 i x hx hid) (hr.slots i x hx)
 ·by_cases hk:id∈keys
  ·have hx':getH (hp1++s.hp) id=some x:=hx;rw[hget id hk] at hx';have hh:=hret.heap id x hx';have hids:=hsub2 id x hk hx';cases x with
   |box cs=>
    obtain⟨b,us,e,e1,e2,e3,e4,e5⟩:=hh;exact⟨b,us,e,(hl1 id hk).trans e1,e2,e3,e4,fun i hi hv=>hm2 (fun j hj=>hids j (xay (xao hi) hj)) (e5 i hi hv)⟩
   |tok n k=>exact fun b e1=>by rw[hl1 id hk] at e1;exact hh b e1
   |map ks=>
    obtain⟨b,es,cl,e1,e2⟩:=hh;exact⟨b,es,cl,(hl1 id hk).trans e1,e2⟩
   |tree cs=>exact zaW hh (hl1 id hk) (fun _ _=>⟨Z,Z⟩) (Nat.le_refl _) (fun x hx v=>hm2 (fun j hj=>hids j (xay hx hj)))
  ·obtain⟨hx',hnc⟩:=hgetn id x hk hx;have hh:=hr.heap id x hx';have hblk:∀b,b∈G.loc id->w'.heap[b]?=w.heap[b]?/\G'.F b=G.F b:=fun b hb=>hret.frm.block b (bound id x hx' b hb) (away id x hnc hx' b hb);cases x with
   |box cs=>
    obtain⟨b,us,e,e1,e2,e3,e4,e5⟩:=hh;obtain⟨f1,f2⟩:=hblk b (by simp[e1]);exact⟨b,us,e,(hl2 id hk).trans e1,f1.trans e2,e3,f2.trans e4,fun i hi hv=>hm (fun j hj hc=>(hcr j hc).2.2 id _ hx' (xay (xao hi) hj)) (e5 i hi hv)⟩
   |tok n k=>exact fun b e1=>by rw[hl2 id hk] at e1;exact Nat.lt_of_lt_of_le (hh b e1) hret.frm.size
   |map ks=>
    obtain⟨b,es,cl,e1,e2,e3,e4⟩:=hh;obtain⟨f1,f2⟩:=hblk b (by simp[e1]);exact⟨b,es,cl,(hl2 id hk).trans e1,f1.trans e2,f2.trans e3,e4⟩
   |tree cs=>exact zaW hh (hl2 id hk) hblk hret.frm.size (fun x hx v=>hm (fun j hj hc=>(hcr j hc).2.2 id _ hx' (xay hx hj)))
 ·have mix:∀i j,i∈keys->j∉keys->(getH (hp1++s.hp) i).isSome->(getH s.hp j).isSome/\j∉hpc.map (·.1)->∀b,b∈G'.loc i->b∉G.loc j:=fun i j hi hj h1 h2 b hb hbj=>by
   obtain⟨x,hx⟩:=Option.isSome_iff_exists.1 h2.1;have hnc:=h2.2;rcases hret.new i (by rw[<-hget i hi];exact h1) b hb with h|h
   ·exact away j x hnc hx b hbj h
   ·have:=bound j x hx b hbj;omega
  by_cases hk:id∈keys<;>by_cases hk':id'∈keys
  ·rw[hl1 id hk] at hb;rw[hl1 id' hk'];exact hret.disj id id' (hkeys id hk) (hkeys id' hk') hne b hb
  ·rw[hl1 id hk] at hb;rw[hl2 id' hk'];exact mix id id' hk hk' h1 (hsome id' hk' h2) b hb
  ·rw[hl2 id hk] at hb;rw[hl1 id' hk'];intro hb';exact mix id' id hk' hk h2 (hsome id hk h1) b hb' hb
  ·rw[hl2 id hk] at hb;rw[hl2 id' hk'];exact hr.disj id id' (hsome id hk h1).1 (hsome id' hk' h2).1 hne b hb
 ·by_cases hk:id∈keys
  ·rw[hl1 id hk] at hb;rcases hret.new id (hkeys id hk) b hb with h|h
   ·obtain⟨j,h2,h3,_⟩:=howned b h;exact hr.new j h2 b h3
   ·right;have:=hr.frm.size;omega
  ·rw[hl2 id hk] at hb;exact hr.new id (hsome id hk h1).1 b hb
 ·intro b hb;obtain⟨j,h2,h3,_⟩:=howned b hb;exact hr.new j h2 b h3
 ·have hk0:=hr.kept id l hl;have hncr:id∉cr:=fun h=>by have:=(hcr id h).1;rw[this] at hk0;simp at hk0
  have hntk:id∉tk:=fun h=>by
   obtain⟨h1,_,_⟩:=ctk id h;cases hg:getH hpc id with
   |none=>rw[hg] at h1;exact absurd h1 (by simp[zm0])
   |some x=>
    rw[hg] at h1;cases x with
    |tok n k=>
     have:=hk0.2.2;rw[show tokf s.hp id=some (n,k) from zak.2 (hsub _ _ hg)] at this;cases this
    |_=>exact absurd h1 (by simp[zm0])
  show(G2.loc id).head?=l.head?/\(getH (hp1++s.hp) id).isSome/\tokf (hp1++s.hp) id=none
  by_cases hk:id∈keys
  ·refine⟨?_,by rw[hget id hk];exact hkeys id hk,ht0 id hk hncr⟩;rw[hl1 id hk];rcases hkey id hk with ⟨_,h⟩|⟨_,h⟩
   ·exact h.trans hk0.1
   ·exact absurd h hncr
  ·exact⟨(xam List.head? (hl2 id hk)).trans hk0.1,by rw[hgetn' id hk hntk];exact hk0.2.1,by
    have:=hk0.2.2;unfold tokf at this ⊢;rw[hgetn' id hk hntk];exact this⟩
 ·exact hm2 (fun j hj=>zdC c4 j hj) hret.res
end
section
variable {c:Ctx}{all:Array Oper}{chk:List Rec->Prop}{os:List Oper}{recs:List Rec}{env:Env}{hp:Hp}{Q:St->Prop}
variable {d ty:Nat}{pos:String}{af:Array Edge}{g:Option (Nat×Bool)}{pg:List (Nat×AV)}
theorem xbv {f:FuncId}{args:Array Operand}{ats:Array TypeId}{xs:List Operand}{vs avs:List AV}{hpc hp0:Hp}{r:AV} (tk cr:List Nat) (hc:Callee c.P f) (hf:FnD c.P f avs hpc r hp0)
  (hargs:args=xs.toArray) (hg:GH all env g pg) (hd:Nat.blt d c.n=true) (hx:opdL env xs=some vs) (hle:LeL vs avs) (hsub:subH hpc hp) (hok:zlY hpc hp0 r tk cr=true)
  (hcr:(cr.all fun i=>zfw env hp i)=true)
  (hn:Walk c all chk os (zan (pg++opFL xs vs) (hpF hpc) cr ⟨some (d,r),hp0⟩::recs) ⟨(d,r)::env,hp0++hp⟩ Q):
  Walk c all chk (⟨some d,.call ⟨.value (.func f),args,ats⟩,ty,pos,af,g⟩::os) recs ⟨env,hp⟩ Q:=by
 subst hargs;refine⟨pg++opFL xs vs,hpF hpc,cr,_, ?_,zaz hg.facts (zbR hx),zga hsub,fun id hi=>zdY (List.all_eq_true.1 hcr id hi),hn⟩;intro s a w hrel hp' hh hcr' K Q' hK;obtain⟨G,hr⟩:=hrel;have hrl:=zcr hr (zbS hx (fun p hm=>hp' p (by simp[hm])));have hle':∀ {l m:List AV},LeL l m->∀i (h1:i<l.length) (h2:i<m.length),LeA l[i] m[i]:=by
  intro l;induction l with
  |nil=>intro m _ i h1;simp at h1
  |cons x r ih=>
   intro m h i h1 h2;cases h with
   |cons h t=>
    cases i with
    |zero=>exact h
    |succ i=>exact ih t i (by simpa using h1) (by simpa using h2)
 have hall:AllR G (tokf s.hp) w avs (xs.map a.eval).toArray:=by
  refine⟨by simp[<-hle.len,hrl.1],fun i hi hv=>?_⟩;have h1:i<vs.length:=by rw[hle.len];exact hi
  have:=(hrl.2 i h1 (by rw[<-hrl.1];exact h1)).le (hle' hle i h1 hi);simpa using this
 have hcalls:=zpi hr hf hall (fun id x hx=>hh (id,x) (zhj (zcf hx))) tk cr hcr' hok;unfold wpO;rw[if_pos (hg.gf.wanted hr (fun p hm=>hp' p (by simp[hm])))];unfold Oper.wp;have hrun:(execOp a.eval ⟨some d,.call ⟨.value (.func f),xs.toArray,ats⟩,ty,pos,af,g⟩).run c.P w = .ok (.enter f (xs.map a.eval).toArray) w:=by
  have:=hc.run (xs.map a.eval).toArray w;simp only[execOp,resolve,Sem.run_bind,Act.eval,Deferred.ofValue,Sem.run_pure,Result.andThen_ok,invoke];simpa using this
 rw[hrun,Oper.upon_enter];refine hcalls.mono ?_;rintro e w' ⟨v,rfl,G',hR,hA⟩
 exact hK _ _ ⟨G',hR.put hA hd⟩
end
section
variable {c:Ctx}{env:Env}{hp:Hp}{K:Kt}{code:Code}{ids:List Nat}
theorem CWp.kill (ks:List Nat) (hn:CWp c code ⟨zbW ks++env,hp⟩ K):CWp c code ⟨env,hp⟩ K:=by
 intro a w hrel;refine hn a w ?_;obtain⟨G,hr⟩:=hrel;refine⟨G,hr.size,hr.defers,fun i v hi=>?_,hr.heap,hr.disj,hr.new,hr.frm,hr.top,hr.kept⟩;have hi':getE (zbW ks++env) i=some v:=hi;by_cases h:i∈zdl (zbW ks)
 ·rw[zdk h] at hi';rw[ziC hi'];exact .any _
 ·rw[zcD h] at hi';exact hr.slots i v hi'
theorem xaI (b off i j:Nat){n k:Nat}{xs:List (List D)}{cs:List AV} (hb:getH hp b=some (.box cs)) (hc:cs[off]?=some (.gv i xs)) (hi:getH hp i=some (.tok n k)) (hf:zfw env hp j=true)
  (hn:CWp c code ⟨env,(b,some (.box (cs.set off (.gv j xs))))::(j,some (.tok n k))::(i,none)::hp⟩ K):CWp c code ⟨env,hp⟩ K:=by
 rintro a w ⟨G,hr⟩
 obtain⟨h0,hocc⟩:=zdY hf;have h0':getH hp j=none:=h0;have hbi:b≠i:=fun e=>by subst e;rw[hb] at hi;cases hi
 have hbj:b≠j:=fun e=>by subst e;rw[h0'] at hb;cases hb
 have hji:j≠i:=fun e=>by subst e;rw[h0'] at hi;cases hi
 have Ti:tokf hp i=some (n,k):=zak.2 hi;let hp':Hp:=(b,some (.box (cs.set off (.gv j xs))))::(j,some (.tok n k))::(i,none)::hp
 let G':Gh:={ G with loc:=fun x=>bif Nat.beq x j then G.loc i else G.loc x }
 have lj:G'.loc j=G.loc i:=by simp[G']
 have lo:∀x,x≠j->G'.loc x=G.loc x:=fun x h=>by simp[G',zcp h]
 have gb:getH hp' b=some (.box (cs.set off (.gv j xs))):=by simp[hp',zad]
 have gj:getH hp' j=some (.tok n k):=by
  show getH ((b,_)::(j,some (.tok n k))::(i,none)::hp) j=_
  rw[zad,if_neg (Ne.symm hbj),zad,if_pos rfl]
 have gi:getH hp' i=none:=by
  show getH ((b,_)::(j,some (.tok n k))::(i,none)::hp) i=_
  rw[zad,if_neg (Ne.symm hbi),zad,if_neg (Ne.symm hji),zad,if_pos rfl]
 have Tj:tokf hp' j=some (n,k):=zak.2 gj;have Ti':tokf hp' i=none:=by unfold tokf;rw[gi]
 have Tb:tokf hp' b=none:=by unfold tokf;rw[gb]
 have sb:(getH hp b).isSome:=by rw[hb];rfl
 have si:(getH hp i).isSome:=by rw[hi];rfl
 have hturn:Turn c G ⟨env,hp⟩ w G' hp' [b,i,j]:=by
  refine⟨fun x hx=>?_,fun x hx=>?_,fun _ _=>rfl,fun _ _ h=>h,hr.top,fun x hx=>?_,fun x hx hs y hy=>?_,fun x hx y hy hxy h1 h2 z hz=>?_,fun x hx l hl=>?_⟩
  ·simp only[List.mem_cons,xau,or_false,not_or] at hx;show getH ((b,_)::(j,some (.tok n k))::(i,none)::hp) x=_
   rw[zad,if_neg hx.1,zad,if_neg hx.2.2,zad,if_neg hx.2.1]
  ·simp only[List.mem_cons,xau,or_false,not_or] at hx;exact lo x hx.2.2
  ·simp only[List.mem_cons,xau,or_false] at hx;rcases hx with rfl|rfl|rfl
   ·exact .inr ⟨.inl (lo _ hbj),fun p hp=>by rw[Tb] at hp;cases hp⟩
   ·exact .inr ⟨.inl (lo _ (Ne.symm hji)),fun p hp=>by rw[Ti'] at hp;cases hp⟩
   ·exact .inl hocc
  ·simp only[List.mem_cons,xau,or_false] at hx;rcases hx with rfl|rfl|rfl
   ·exact⟨x,by simp,sb,by rw[lo _ hbj] at hy;exact hy⟩
   ·rw[gi] at hs;cases hs
   ·exact⟨i,by simp,si,by rw[lj] at hy;exact hy⟩
  ·simp only[List.mem_cons,xau,or_false] at hx hy;rcases hx with rfl|rfl|rfl
   ·rcases hy with rfl|rfl|rfl
    ·exact absurd Z hxy
    ·rw[gi] at h2;cases h2
    ·rw[lo _ hbj] at hz;rw[lj];exact hr.disj _ _ sb si hbi z hz
   ·rw[gi] at h1;cases h1
   ·rcases hy with rfl|rfl|rfl
    ·rw[lj] at hz;rw[lo _ hbj];exact hr.disj _ _ si sb (Ne.symm hbi) z hz
    ·rw[gi] at h2;cases h2
    ·exact absurd Z hxy
  ·simp only[List.mem_cons,xau,or_false] at hx;have hk:=hr.kept x l hl;rcases hx with rfl|rfl|rfl
   ·exact⟨by rw[lo _ hbj];exact hk.1,by rw[gb];rfl,Tb⟩
   ·have:=hk.2.2;rw[show tokf (St.mk env hp).hp x=some (n,k) from Ti] at this;cases this
   ·have:=hk.2.1;rw[show(St.mk env hp).hp=hp from rfl,h0'] at this;cases this
 obtain⟨bl,vs,e,e1,e2,e3,e4,e5⟩:=hr.heap b _ hb;refine hn a w ⟨G',hturn.fin hr (fun x hx r hxr=>?_)⟩;simp only[List.mem_cons,xau,or_false] at hx;rcases hx with rfl|rfl|rfl
 ·rw[gb] at hxr;cases hxr
  refine⟨bl,vs,e,(lo _ hbj).trans e1,e2,by rw[List.length_set];exact e3,e4,fun q hq hv=>?_⟩;have hq':q<cs.length:=by rw[List.length_set] at hq;exact hq
  rw[List.getElem_set];by_cases eo:off=q
  ·subst eo;rw[if_pos rfl];have hx:=e5 off hq' hv;rw[xan hq'] at hc;rw[Option.some.inj hc] at hx;exact hx.gv_move Ti Z lj Tj
  ·rw[if_neg eo];exact hturn.cell hr hb (xao hq') (e5 q hq' hv)
 ·rw[gi] at hxr;cases hxr
 ·rw[gj] at hxr;cases hxr;intro y hy;rw[lj] at hy;exact hr.heap i _ hi y hy
theorem xaA (b off id k:Nat){n:Nat}{xs:List (List D)}{cs:List AV} (hb:getH hp b=some (.box cs)) (hc:cs[off]?=some (.gv id xs)) (ht:getH hp id=some (.tok n k)) (hn:n=xs.length) (hx0:xs≠[])
  (hnx:∀cap,xs.length<=cap->CWp c code ⟨env,(b,some (.box (cs.set off (.mc id xs.length cap))))::(id,some (.box (xs.flatten.map .d++List.replicate ((cap-xs.length)*k) .any)))::hp⟩ K):CWp c code ⟨env,hp⟩ K:=by
 rintro a w ⟨G,hr⟩
 subst hn;have hne:b≠id:=fun e=>by subst e;rw[hb] at ht;cases ht
 obtain⟨bl,vs,e,e1,e2,e3,e4,e5⟩:=hr.heap b _ hb;obtain⟨hlt,hcv⟩:=List.getElem?_eq_some_iff.1 hc;have hlv:off<vs.size:=by omega
 have h0:=e5 off hlt hlv;rw[hcv] at h0;obtain⟨hv0,hcl⟩:=h0.gv_inv;obtain⟨hkx,htip⟩:=(hcl _ _ (zak.2 ht)).2 rfl;rcases htip with ⟨_,h2,_⟩|⟨b1,cap,us,et,h1,h2,h3,h4,h5,h6,h7⟩
 ·exact absurd (List.eq_nil_of_length_eq_zero h2) hx0
 have s1:(getH hp b).isSome:=by rw[hb];rfl
 have s2:(getH hp id).isSome:=by rw[ht];rfl
 let cs':List AV:=cs.set off (.mc id xs.length cap)
 let bx:List AV:=xs.flatten.map .d++List.replicate ((cap-xs.length)*k) .any
 have g1:getH ((b,some (Res.box cs'))::(id,some (.box bx))::hp) b=some (.box cs'):=by rw[zad,if_pos rfl]
 have g2:getH ((b,some (Res.box cs'))::(id,some (.box bx))::hp) id=some (.box bx):=by rw[zad,if_neg (Ne.symm hne),zad,if_pos rfl]
 have t1:tokf ((b,some (Res.box cs'))::(id,some (.box bx))::hp) b=none:=by unfold tokf;rw[g1]
 have t2:tokf ((b,some (Res.box cs'))::(id,some (.box bx))::hp) id=none:=by unfold tokf;rw[g2]
 have hturn:Turn c G ⟨env,hp⟩ w G ((b,some (.box cs'))::(id,some (.box bx))::hp) [b,id]:=by
  refine⟨fun i hi=>?_,fun _ _=>rfl,fun _ _=>rfl,fun _ _ h=>h,hr.top,fun i hi=> .inr ⟨.inl rfl, ?_⟩,fun i hi _ x hx=>?_,fun i hi j hj hij _ _ x hx=>?_,fun i hi l hl=>?_⟩
  ·simp only[List.mem_cons,xau,or_false,not_or] at hi;rw[zad,if_neg hi.1,zad,if_neg hi.2]
  ·simp only[List.mem_cons,xau,or_false] at hi;rcases hi with rfl|rfl
   ·intro p hp;rw[t1] at hp;cases hp
   ·intro p hp;rw[t2] at hp;cases hp
  ·simp only[List.mem_cons,xau,or_false] at hi;rcases hi with rfl|rfl
   ·exact⟨i,by simp,s1,hx⟩
   ·exact⟨i,by simp,s2,hx⟩
  ·simp only[List.mem_cons,xau,or_false] at hi hj;rcases hi with rfl|rfl<;>rcases hj with rfl|rfl
   ·exact absurd Z hij
   ·exact hr.disj _ _ s1 s2 hij x hx
   ·exact hr.disj _ _ s2 s1 hij x hx
   ·exact absurd Z hij
  ·simp only[List.mem_cons,xau,or_false] at hi;have hk0:=hr.kept i l hl;rcases hi with rfl|rfl
   ·exact⟨hk0.1,by rw[g1];rfl,t1⟩
   ·have:=hk0.2.2;rw[show(⟨env,hp⟩:St).hp=hp from rfl,zak.2 ht] at this;cases this
 refine hnx cap h6 a w ⟨G,hturn.fin hr (fun i hi r hri=>?_)⟩;simp only[List.mem_cons,xau,or_false] at hi;rcases hi with rfl|rfl
 ·rw[g1] at hri;cases hri
  refine⟨bl,vs,e,e1,e2,by show(cs.set off _).length<=_;rw[List.length_set];exact e3,e4,fun q hq hv=>?_⟩;have hq':q<cs.length:=by have:q<(cs.set off (AV.mc id xs.length cap)).length:=hq;rw[List.length_set] at this;exact this
  show RelA G _ w ((cs.set off (AV.mc id xs.length cap))[q]'_) _
  rw[List.getElem_set];by_cases eo:off=q
  ·subst eo;rw[if_pos rfl,h2];exact .mc (zej h1) t2 h6
  ·rw[if_neg eo];exact hturn.cell hr hb (xao hq') (e5 q hq' hv)
 ·rw[g2] at hri;cases hri
  have hmul:xs.length*k+(cap-xs.length)*k=cap*k:=by rw[<-Nat.add_mul];congr 1;omega
  refine⟨b1,us,et,h1,h4, ?_,h3,fun j hj hv=>?_⟩
  ·show bx.length<=_
   rw[xaa,xac,zb1 hkx,List.length_replicate];omega
  ·by_cases hi':j<xs.length*k
   ·have hlt':j<(xs.flatten.map AV.d).length:=by rw[xac,zb1 hkx];exact hi'
    show RelA G _ w ((xs.flatten.map AV.d++List.replicate ((cap-xs.length)*k) AV.any)[j]'_) _
    rw[List.getElem_append_left hlt'];have hkpos:0<k:=by
     rcases Nat.eq_zero_or_pos k with h|h
     ·subst h;simp at hi'
     ·exact h
    have hq:j / k<xs.length:=Nat.div_lt_of_lt_mul (by rw[Nat.mul_comm];exact hi');have hrm:j % k<k:=Nat.mod_lt _ hkpos;have e1:=zdw hkx hq hrm;rw[Nat.div_add_mod'] at e1;rw[xan hlt'] at e1;rw[Option.some.inj e1];have h8:=h7 (j / k) hq (j % k) (by rw[hkx _ (xao hq)];exact hrm);rw[Nat.div_add_mod'] at h8;have e2:us.getD j undef=us[j]:=by simp[Array.getD,hv]
    rw[e2] at h8;exact .d h8
   ·have hge:(xs.flatten.map AV.d).length<=j:=by rw[xac,zb1 hkx];omega
    show RelA G _ w ((xs.flatten.map AV.d++List.replicate ((cap-xs.length)*k) AV.any)[j]'_) _
    rw[List.getElem_append_right hge,List.getElem_replicate];exact .any _
theorem CWp.mcGvB (hkp:KeptIn c.kept ids) (b off id id2 k:Nat){n cap:Nat}{xs:List (List D)}{cs bs:List AV} (hbb:getH hp b=some (.box cs)) (hcc:cs[off]?=some (.mc id n cap)) (hb:getH hp id=some (.box bs)) (hid:zaJ id ids=false)
  (hn:n=xs.length) (hkx:∀x,x∈xs->x.length=k) (hl:bs.length=cap*k) (hc:bs.take (n*k)=xs.flatten.map .d) (hf:zfw env ((id,none)::hp) id2=true) (hbid:Nat.beq b id=false) (hne2:Nat.beq id2 id=false) (hbs:AV.idsL bs=[])
  (hx:CWp c code ⟨env,(b,some (.box (cs.set off (.gv id2 xs))))::(id2,some (.tok n k))::(id,none)::hp⟩ K):CWp c code ⟨env,hp⟩ K:=by
 rintro a w ⟨G,hr⟩
 obtain⟨h0q,hoccq⟩:=zdY hf;have hneq:id2≠id:=fun e=>by subst e;simp at hne2
 have h0:getH hp id2=none:=by have:=h0q;rw[zad,if_neg hneq] at this;exact this
 have hocc:zcb id2 ⟨env,hp⟩:=⟨hoccq.1,fun j r hj=>by
  by_cases e:j=id
  ·subst e;have hj':getH hp j=some r:=hj;rw[hb] at hj';cases hj';show id2∉AV.idsL bs
   rw[hbs];simp
  ·exact hoccq.2 j r (by show getH ((id,none)::hp) j=some r;rw[zad,if_neg e];exact hj)⟩
 have h0':getH hp id2=none:=h0;have hne:id2≠id:=fun e=>by subst e;rw[h0'] at hb;cases hb
 have hb2:b≠id2:=fun e=>by subst e;rw[h0'] at hbb;cases hbb
 have hbi:b≠id:=fun e=>by subst e;simp at hbid
 obtain⟨bl,vs,ee,f1,f2,f3,f4,f5⟩:=hr.heap b _ hbb;obtain⟨hlt,hcv⟩:=List.getElem?_eq_some_iff.1 hcc;have hv:=f5 off hlt od;rw[hcv] at hv;obtain⟨b1,hl1,hv0,hcap⟩:=hv.mc_eq;have s1:(getH hp id).isSome:=by rw[hb];rfl
 have sb:(getH hp b).isSome:=by rw[hbb];rfl
 obtain⟨b0,us,et,e1,e3,e4,e7,e8⟩:=hr.heap id _ hb;have hbb0:b1=b0:=zcK hl1.1 e1;subst hbb0;have hbd:=(hr.heap id _ hb).bound;let cs':List AV:=cs.set off (.gv id2 xs)
 let hp':Hp:=(b,some (.box cs'))::(id2,some (.tok n k))::(id,none)::hp
 let G':Gh:={ F:=G.F,loc:=fun i=>bif Nat.beq i id2 then [b1] else G.loc i }
 have l1:G'.loc id2=[b1]:=by simp[G']
 have l3:∀i,i≠id2->G'.loc i=G.loc i:=fun i h2=>by simp[G',zcp h2]
 have gb:getH hp' b=some (.box cs'):=by simp[hp',zad]
 have g1:getH hp' id2=some (.tok n k):=by
  show getH ((b,_)::(id2,some (Res.tok n k))::(id,none)::hp) id2=_
  rw[zad,if_neg (Ne.symm hb2),zad,if_pos rfl]
 have g2:getH hp' id=none:=by
  show getH ((b,_)::(id2,some (Res.tok n k))::(id,none)::hp) id=_
  rw[zad,if_neg (Ne.symm hbi),zad,if_neg (Ne.symm hne),zad,if_pos rfl]
 have tb:tokf hp' b=none:=by unfold tokf;rw[gb]
 have t2:tokf hp' id=none:=by unfold tokf;rw[g2]
 have t1:tokf hp' id2=some (n,k):=zak.2 g1;have hturn:Turn c G ⟨env,hp⟩ w G' hp' [b,id,id2]:=by
  refine⟨fun x hx=>?_,fun x hx=>?_,fun _ _=>rfl,fun _ _ h=>h,hr.top,fun x hx=>?_,fun x hx hs y hy=>?_,fun x hx y hy hxy h1 h2 z hz=>?_,fun x hx l hl=>?_⟩
  ·simp only[List.mem_cons,xau,or_false,not_or] at hx;show getH ((b,_)::(id2,some (.tok n k))::(id,none)::hp) x=_
   rw[zad,if_neg hx.1,zad,if_neg hx.2.2,zad,if_neg hx.2.1]
  ·simp only[List.mem_cons,xau,or_false,not_or] at hx;exact l3 x hx.2.2
  ·simp only[List.mem_cons,xau,or_false] at hx;rcases hx with rfl|rfl|rfl
   ·exact .inr ⟨.inl (l3 _ hb2),fun p hp=>by rw[tb] at hp;cases hp⟩
   ·exact .inr ⟨.inl (l3 _ (Ne.symm hne)),fun p hp=>by rw[t2] at hp;cases hp⟩
   ·exact .inl hocc
  ·simp only[List.mem_cons,xau,or_false] at hx;rcases hx with rfl|rfl|rfl
   ·exact⟨x,by simp,sb,by rw[l3 _ hb2] at hy;exact hy⟩
   ·rw[g2] at hs;cases hs
   ·exact⟨id,by simp,s1,by rw[l1] at hy;rw[e1];exact hy⟩
  ·simp only[List.mem_cons,xau,or_false] at hx hy;rcases hx with rfl|rfl|rfl
   ·rcases hy with rfl|rfl|rfl
    ·exact absurd Z hxy
    ·rw[g2] at h2;cases h2
    ·rw[l3 _ hb2] at hz;rw[l1,<-e1];exact hr.disj _ _ sb s1 hbi z hz
   ·rw[g2] at h1;cases h1
   ·rcases hy with rfl|rfl|rfl
    ·rw[l1,<-e1] at hz;rw[l3 _ hb2];exact hr.disj _ _ s1 sb (Ne.symm hbi) z hz
    ·rw[g2] at h2;cases h2
    ·exact absurd Z hxy
  ·simp only[List.mem_cons,xau,or_false] at hx;have hk:=hr.kept x l hl;rcases hx with rfl|rfl|rfl
   ·exact⟨by rw[l3 _ hb2];exact hk.1,by rw[gb];rfl,tb⟩
   ·have:=zav.2 (hkp.mem x l hl);rw[this] at hid;cases hid
   ·have:=hk.2.1;rw[show(St.mk env hp).hp=hp from rfl,h0'] at this;cases this
 refine hx a w ⟨G',hturn.fin hr (fun x hx r hxr=>?_)⟩;simp only[List.mem_cons,xau,or_false] at hx;rcases hx with rfl|rfl|rfl
 ·rw[gb] at hxr;cases hxr
  refine⟨bl,vs,ee,(l3 _ hb2).trans f1,f2,by show(cs.set off _).length<=_;rw[List.length_set];exact f3,f4,fun q hq hv'=>?_⟩;have hq':q<cs.length:=by have:q<(cs.set off (AV.gv id2 xs)).length:=hq;rw[List.length_set] at this;exact this
  show RelA G' _ w ((cs.set off (AV.gv id2 xs))[q]'_) _
  rw[List.getElem_set];by_cases eo:off=q
  ·subst eo;rw[if_pos rfl,hv0];have hle:n*k<=cap*k:=xav _ hcap;refine .gv ⟨_,cap,by rw[hn]⟩ (fun n' k' hT=>?_);rw[t1] at hT;cases hT;refine⟨by omega,fun _=>⟨hkx,.inr ⟨b1,cap,us,et,l1,rfl,e7,e3,by omega,hcap,fun i hi j hj=>?_⟩⟩⟩;subst hn;have hj':j<k:=by rw[<-hkx _ (xao hi)];exact hj
   have hq:i*k+j<xs.length*k:=zeX hi hj';have hcs:i*k+j<bs.length:=by omega
   have hus:i*k+j<us.size:=by omega
   have h9:=e8 (i*k+j) hcs hus;have e9:bs[i*k+j]?=some (.d (xs[i][j]'hj)):=by
    have:=zdw hkx hi hj';rw[<-hc,List.getElem?_take_of_lt hq] at this;exact this
   rw[xan hcs] at e9;rw[Option.some.inj e9] at h9;have e2:us.getD (i*k+j) undef=us[i*k+j]:=by simp[Array.getD,hus]
   rw[e2];exact h9.d_inv
  ·rw[if_neg eo];exact hturn.cell hr hbb (xao hq') (f5 q hq' hv')
 ·rw[g2] at hxr;cases hxr
 ·rw[g1] at hxr;cases hxr;intro y hy;rw[l1] at hy;exact hbd y (by rw[e1];exact hy)
end
set_option maxHeartbeats 4000000
def stO (p:Pat) (path:List Int):List Stp:=if p.op=3 then [⟨1,path,-1,p.n,p.m,0,[],0⟩] else if p.op=4 then [st4 p path] else []
def zaa (f:Pat->List Int->List Stp) (p:Pat) (path:List Int):Nat->List Stp
 |0=>[]
 |i+1=>zaa f p path i++f (nth p.kids i) (zbu p path i)
def tstI:Nat->Pat->List Int->List Stp
 |0,_,_=>[]
 |n+1,p,path=>stO p path++zaa (tstI n) p path p.kids.length
theorem zo1 (p:Pat) (path:List Int):(stO p path).length<=1:=by unfold stO;split;simp;split<;>simp
theorem ziM {f:Pat->List Int->List Stp}{p:Pat}{path:List Int} (hf:∀q path,(f q path).length<=q.size):∀i,i<=p.kids.length->(zaa f p path i).length<=Pats.size (p.kids.take i)
 |0,_=>by simp[zaa]
 |i+1,h=>by
  have ih:=ziM (p:=p) (path:=path) hf i od;have h0:=hf (nth p.kids i) (zbu p path i);have hs:=zdc (l:=p.kids) (i:=i) od;rw[zaa,xaa];omega
theorem zod:∀(n:Nat) (p:Pat) (path:List Int),(tstI n p path).length<=p.size
 |0,p,path=>by simp[tstI]
 |n+1,p,path=>by
  have h1:=zo1 p path;have h2:=ziM (path:=path) (zod n) (p:=p) p.kids.length (Nat.le_refl _);rw[List.take_length] at h2;rw[tstI,xaa,xaZ];omega
theorem zo3 {w:List Data}:∀(N n:Nat){t:Ty}{p:Pat} (path:List Int),zbo w n t p=true->tstI N p path=zas N p path
 |0,_,_,_,_,_=>rfl
 |N+1,0,t,p,path,h=>by simp[zbo] at h
 |N+1,n+1,t,p,path,h=>by
  have hown:=zee h;have h0:=xas hown.1;have hkid:=fun i (hi:i<p.kids.length) pa=>zo3 N n (t:=nth (zag w t p) i) (p:=nth p.kids i) pa (ze0 h hi);have hl:=hown.2.2;rw[tstI,zas];by_cases h6:p.op=6
  ·have hk:p.kids.length=1:=by rw[<-hl];unfold zag;rw[if_neg od,if_neg od,if_pos h6];rfl
   rw[if_pos h6,hk];unfold stO;rw[if_neg od,if_neg od,List.nil_append];simp only[zaa,List.nil_append];rw[hkid 0 od];unfold zbu;rw[if_neg od]
  rw[if_neg h6];by_cases h4:p.op=4
  ·rw[if_neg od,if_pos h4];have key:∀i,i<=p.kids.length->zaa (tstI N) p path i=zaV (zas N) p path i:=by
    intro i;induction i with
    |zero=>intro _;rfl
    |succ i ih=>
     intro hi;rw[zaa,zaV,ih od,hkid i od];unfold zbu;rw[if_pos h4]
   rw[key _ (Nat.le_refl _)];unfold stO;rw[if_neg od,if_pos h4];rfl
  ·have hk:p.kids.length=0:=by rw[<-hl];unfold zag;rw[if_neg od,if_neg (fun q=>hown.2.1 q),if_neg h6];rfl
   rw[if_neg h4,hk];unfold stO;by_cases h3:p.op=3
   ·rw[if_pos h3,if_pos h3];rfl
   ·rw[if_neg h3,if_neg h4,if_neg h3];rfl
abbrev Ic (n:Int):List D:=[.i n]
theorem zeU {xs:List Int} (hs:xs.length<=1000000):FnD Tryz.prog 152 [.d (zaH xs)] [] (.gl 77 (xs.map Ic)) [(77,some (.tok (xs.map Ic).length 1))]:=by
 refine Fn.body (fn:=Tryz.f152) (n:=8) Z Z Z Z Z (fun _ _ _ _ hk=>?_);refine xaH 0 Z (fun hx0=>?_) ?_;refine evc [2,4] [] (asg ?_);apply tv;refine xbC sl37 .none Z Z ?_;apply tv;refine sqT ?_;refine xbs 77 1 .none Z Z ?_;apply tv;refine rn [(77,some (.tok (xs.map Ic).length 1))] (r1 Z) (.glg ?_) ⟨Z,Z⟩ (SubH.get ⟨?_,I⟩) (zaX Z);rotate_left 2;refine evc [2,4] [] (asg ?_);apply tv;refine xbB sl37 .none Z Z ?_;apply tv;refine sqF ?_;refine xbX 77 sl37 .none Z Z (evs [2,4] [] (ap sl37 zz3 Z Z Z (by intro y hy;obtain⟨z,_,rfl⟩:=List.mem_map.1 hy;rfl) ot ?_));refine asg ?_;apply tv;refine rn [(77,some (.tok (xs.map Ic).length 1))] (r1 Z) (.glg ?_) ⟨Z,Z⟩ (SubH.get ⟨?_,I⟩) (zaX Z);rotate_left 2;all_goals (first|((first|rfl|exact hx0.symm|(simp;done)|(simp at hx0;rw[hx0];rfl));done)|(first|rfl|(simp at hx0;rw[hx0];rfl)|(simp;rfl)))
theorem zi3 {xs:List Int} (hs:xs.length<=1000000):FnD Tryz.prog 152 [.d (zaH xs)] [] (.d (zaH xs)) []:=FnD.glD (zeU hs)
abbrev tsIn (xs:List Stp) (ys:List Pb):Hp:=[(901,some (.box [.gv 5 (xs.map Stp.c)])),(5,some (.tok (xs.map Stp.c).length 8)),(902,some (.box [.gv 6 (ys.map Pb.c)])),(6,some (.tok (ys.map Pb.c).length 2))]
abbrev zlq (xs:List Stp) (ys:List Pb):Hp:=[(901,some (.box [.gv 7 (xs.map Stp.c)])),(7,some (.tok (xs.map Stp.c).length 8)),(902,some (.box [.gv 9 (ys.map Pb.c)])),(9,some (.tok (ys.map Pb.c).length 2)),(5,none),(6,none)]
theorem zkR {n:Nat} (ih:∀ {p:Pat}{xs:List Stp}{ys:List Pb}{path:List Int},p.size<=n->p.ok->path.length+n<=1000000->xs.length+p.size<=1000000000000->ys.length+p.size<=1000000000000->
   FnD Tryz.prog 97 [.agg [.d (.i p.op),.d (.i p.ctor),.d (.i p.n),.d (.i p.m),.d (.i p.var),.d (zau p.kids)],.d (zaH path),.ref 901 0,.ref 902 0] (tsIn xs ys) (.tup []) (zlq (xs++tstI n p path) (ys++zar n p path)))
  {p:Pat}{xs:List Stp}{ys:List Pb}{path:List Int} (hz:p.size<=n+1) (hok:p.ok) (hpa:path.length+(n+1)<=1000000) (hb:xs.length+p.size<=1000000000000) (hb2:ys.length+p.size<=1000000000000):
  FnD Tryz.prog 97 [.agg [.d (.i p.op),.d (.i p.ctor),.d (.i p.n),.d (.i p.m),.d (.i p.var),.d (zau p.kids)],.d (zaH path),.ref 901 0,.ref 902 0] [(901,some (.box [.gv 5 (xs.map Stp.c)])),(5,some (.tok (xs.map Stp.c).length 8)),(902,some (.box [.gv 6 (ys.map Pb.c)])),(6,some (.tok (ys.map Pb.c).length 2))] (.tup []) (zlq (xs++tstI (n+1) p path) (ys++zar (n+1) p path)):=by
 rw[xaZ] at hz hb hb2;rw[xaY] at hok;have hkl:=zgJ (path:=path) (zeu n) (p:=p);have hnl:=zlX p path;have hks:=fun i=>zhX p.kids i;have hk1:=fun i (h:i<p.kids.length)=>zdc (l:=p.kids) h;have hkl2:=ziM (path:=path) (zod n) (p:=p);have hnl2:=zo1 p path;have hpl:∀i,(zbu p path i).length<=path.length+1:=fun i=>by unfold zbu;split<;>simp
 have hp4:∀i,p.op=4->zbu p path i=path++[(i:Int)]:=fun i h=>by unfold zbu;rw[if_pos h]
 have hpn:∀i,¬p.op=4->zbu p path i=path:=fun i h=>by unfold zbu;rw[if_neg h]
 have hn1:(p.op=2\/p.op=6)->nmB p path=[⟨p.var,path⟩]:=fun h=>by unfold nmB;rw[if_pos h]
 have hn0:¬(p.op=2\/p.op=6)->nmB p path=[]:=fun h=>by unfold nmB;rw[if_neg h]
 have ho3:p.op=3->stO p path=[⟨1,path,-1,p.n,p.m,0,[],0⟩]:=fun h=>by unfold stO;rw[if_pos h]
 have ho4:p.op=4->stO p path=[st4 p path]:=fun h=>by unfold stO;rw[if_neg od,if_pos h]
 have ho0:¬p.op=3->¬p.op=4->stO p path=[]:=fun h h'=>by unfold stO;rw[if_neg h,if_neg h']
 have hcall:∀i (h:i<p.kids.length) (q:D),q=zaH (zbu p path i)->FnD Tryz.prog 97 [.agg [.d (.i (nth p.kids i).op),.d (.i (nth p.kids i).ctor),.d (.i (nth p.kids i).n),.d (.i (nth p.kids i).m),.d (.i (nth p.kids i).var),.d (zau (nth p.kids i).kids)],.d q,.ref 901 0,.ref 902 0]
   (tsIn (xs++stO p path++zaa (tstI n) p path i) (ys++nmB p path++zab (zar n) p path i)) (.tup []) (zlq (xs++stO p path++zaa (tstI n) p path (i+1)) (ys++nmB p path++zab (zar n) p path (i+1))):=fun i h q e=>by
  subst e;have h1:=hks (i+1);have h2:=hk1 i h;have h3:=hkl i od;have h3':=hkl2 i od;have h4:=hpl i;have:=ih (p:=nth p.kids i) (xs:=xs++stO p path++zaa (tstI n) p path i) (ys:=ys++nmB p path++zab (zar n) p path i) (path:=zbu p path i) od (xa0 hok.2 _ (zai h)) od (by simp only[xaa];omega) (by simp only[xaa];omega);rw[zab,<-xar (ys++nmB p path),zaa,<-xar (xs++stO p path)];exact this
 have hcl:=zeU (xs:=path) od;have hcd:=zi3 (xs:=path) od;have hfin:zar (n+1) p path=nmB p path++zab (zar n) p path p.kids.length:=rfl;have hfin2:tstI (n+1) p path=stO p path++zaa (tstI n) p path p.kids.length:=rfl;rw[hfin,hfin2];clear ih;refine bd Tryz.f97 81 [] [3,10,16] fun _ _ _ _ hk=>?_;refine bx 3004 ?_;apply tv;refine wc zhd hcd Z Z ?_;refine ev ?_;by_cases h20:p.op=2
 refine evc [] [] ?_;apply sq<;>intro h1 h1p h1s<;>(try simp only[Q,xaW,xal] at h1p);apply sq<;>intro h2 h2p h2s<;>(try simp only[Q,xaW,xal] at h2p);refine bu [0,1] [_,_] zm2 ?_;refine si [0] [_] zcd zlu ?_;refine xbr zcd zm8 .none Z Z Z Z (zbG Z oq) (by first|(intro x hx;simp at hx;subst hx;rfl)|(intro x hx;obtain⟨y,_,rfl⟩:=List.mem_map.1 hx;rfl)) oo oo ?_;refine evd [] [] (so zr4 ?_);refine dr (CWp.kill [22,28,35,43,50,56] ?_);refine xaI 901 0 5 7 Z Z Z Z ?_;refine xaI 902 0 6 9 Z Z Z Z ?_;refine evc [] [] (xaD (ι:=Nat) hk (fun i=>[(61,.d (.i (i:Int)))]) [9,10,11,62,63,64,65,66,67,68,69,70,71,72,73,74,75,76,77,78,79,80] (fun i=>[(901,some (.box [.gv 7 ((xs++stO p path++zaa (tstI n) p path i).map Stp.c)])),(7,some (.tok ((xs++stO p path++zaa (tstI n) p path i).map Stp.c).length 8)),(902,some (.box [.gv 9 ((ys++nmB p path++zab (zar n) p path i).map Pb.c)])),(9,some (.tok ((ys++nmB p path++zab (zar n) p path i).map Pb.c).length 2)),(5,none),(6,none)]) (fun i=>i<=p.kids.length) (fun i=>p.kids.length-i) 0 od ⟨⟨_,Z,xaQ ?_⟩,I⟩ ⟨?_,⟨zac ?_,⟨?_,⟨zac ?_,⟨?_,⟨?_,I⟩⟩⟩⟩⟩⟩ (fun x=>rfl) (fun i hg1=>?_));focus (first|rfl|omega|(rw[ho3 od];simp[zaa];done)|(rw[ho4 od];simp[zaa];done)|(rw[ho0 od od];simp[zaa];done)|(rw[hn1 od];simp[zab];done)|(rw[hn0 od];simp[zab];done)|(simp;omega))
 focus (first|rfl|(rw[ho3 od];show some (Res.box [AV.gv _ _])=some (Res.box [AV.gv _ _]);simp[zab,zaa];done)|(rw[ho4 od];show some (Res.box [AV.gv _ _])=some (Res.box [AV.gv _ _]);simp[zab,zaa];done)|(rw[ho0 od od];show some (Res.box [AV.gv _ _])=some (Res.box [AV.gv _ _]);simp[zab,zaa];done)|(rw[hn1 od];show some (Res.box [AV.gv _ _])=some (Res.box [AV.gv _ _]);simp[zab,zaa];done)|(rw[hn0 od];show some (Res.box [AV.gv _ _])=some (Res.box [AV.gv _ _]);simp[zab,zaa];done))
 focus (first|rfl|omega|(rw[ho3 od];simp[zaa];done)|(rw[ho4 od];simp[zaa];done)|(rw[ho0 od od];simp[zaa];done)|(rw[hn1 od];simp[zab];done)|(rw[hn0 od];simp[zab];done)|(simp;omega))
 focus (first|rfl|(rw[ho3 od];show some (Res.box [AV.gv _ _])=some (Res.box [AV.gv _ _]);simp[zab,zaa];done)|(rw[ho4 od];show some (Res.box [AV.gv _ _])=some (Res.box [AV.gv _ _]);simp[zab,zaa];done)|(rw[ho0 od od];show some (Res.box [AV.gv _ _])=some (Res.box [AV.gv _ _]);simp[zab,zaa];done)|(rw[hn1 od];show some (Res.box [AV.gv _ _])=some (Res.box [AV.gv _ _]);simp[zab,zaa];done)|(rw[hn0 od];show some (Res.box [AV.gv _ _])=some (Res.box [AV.gv _ _]);simp[zab,zaa];done))
 focus (first|rfl|omega|(rw[ho3 od];simp[zaa];done)|(rw[ho4 od];simp[zaa];done)|(rw[ho0 od od];simp[zaa];done)|(rw[hn1 od];simp[zab];done)|(rw[hn0 od];simp[zab];done)|(simp;omega))
 iterate 2 focus (first|rfl|(rw[ho3 od];show some (Res.box [AV.gv _ _])=some (Res.box [AV.gv _ _]);simp[zab,zaa];done)|(rw[ho4 od];show some (Res.box [AV.gv _ _])=some (Res.box [AV.gv _ _]);simp[zab,zaa];done)|(rw[ho0 od od];show some (Res.box [AV.gv _ _])=some (Res.box [AV.gv _ _]);simp[zab,zaa];done)|(rw[hn1 od];show some (Res.box [AV.gv _ _])=some (Res.box [AV.gv _ _]);simp[zab,zaa];done)|(rw[hn0 od];show some (Res.box [AV.gv _ _])=some (Res.box [AV.gv _ _]);simp[zab,zaa];done))
 refine evc [] [3,10,16] ?_;apply sq<;>intro h3 h3p h3s<;>(try simp only[Q,xaW,xal] at h3p);refine ixq sl72 Z Z Z (zaS od) Z ?_;refine ev (Walk.alloc (id:=3010) tz74 Z .none Z oe oe oe ?_);refine ev (so ty74 ?_);apply tv;apply sq<;>intro h4 h4p h4s<;>(try simp only[Q,xaW,xal] at h4p);refine Walk.call (cr:=[77]) zhd hcl Z .none Z Z (LeL.refl _) I Z Z Z (ev (si [0] [_] sl37 tz3 ?_));refine ap sl37 zz3 Z Z Z (by first|(intro x hx;simp at hx;subst hx;rfl)|(intro x hx;obtain⟨y,_,rfl⟩:=List.mem_map.1 hx;rfl)) oo ?_;refine ev (xaI 901 0 7 5 Z Z Z Z ?_);refine xaI 902 0 9 6 Z Z Z Z ?_;refine evc [] [] (xbv [5,6] [7,9] zev (hcall i od _ (by first|(rw[hpn i od];done)|(rw[hp4 i od];simp[zaH];done))) Z .none Z Z (.cons (.refl _) (.cons (.gl _ _) (.cons (.refl _) (.cons (.refl _) .nil)))) ⟨Z,Z,Z,Z,I⟩ Z oe ?_);apply tv;refine ar (xaj (i+1) ⟨od,od,sx ⟨⟨_,Z,xaQ ?_⟩,I⟩ ⟨?_,⟨zac ?_,⟨?_,⟨zac ?_,⟨?_,⟨?_,I⟩⟩⟩⟩⟩⟩⟩);focus (first|rfl|omega|(rw[ho3 od];simp[zaa];done)|(rw[ho4 od];simp[zaa];done)|(rw[ho0 od od];simp[zaa];done)|(rw[hn1 od];simp[zab];done)|(rw[hn0 od];simp[zab];done)|(simp;omega))
 focus (first|rfl|(rw[ho3 od];show some (Res.box [AV.gv _ _])=some (Res.box [AV.gv _ _]);simp[zab,zaa];done)|(rw[ho4 od];show some (Res.box [AV.gv _ _])=some (Res.box [AV.gv _ _]);simp[zab,zaa];done)|(rw[ho0 od od];show some (Res.box [AV.gv _ _])=some (Res.box [AV.gv _ _]);simp[zab,zaa];done)|(rw[hn1 od];show some (Res.box [AV.gv _ _])=some (Res.box [AV.gv _ _]);simp[zab,zaa];done)|(rw[hn0 od];show some (Res.box [AV.gv _ _])=some (Res.box [AV.gv _ _]);simp[zab,zaa];done))
 focus (first|rfl|omega|(rw[ho3 od];simp[zaa];done)|(rw[ho4 od];simp[zaa];done)|(rw[ho0 od od];simp[zaa];done)|(rw[hn1 od];simp[zab];done)|(rw[hn0 od];simp[zab];done)|(simp;omega))
 focus (first|rfl|(rw[ho3 od];show some (Res.box [AV.gv _ _])=some (Res.box [AV.gv _ _]);simp[zab,zaa];done)|(rw[ho4 od];show some (Res.box [AV.gv _ _])=some (Res.box [AV.gv _ _]);simp[zab,zaa];done)|(rw[ho0 od od];show some (Res.box [AV.gv _ _])=some (Res.box [AV.gv _ _]);simp[zab,zaa];done)|(rw[hn1 od];show some (Res.box [AV.gv _ _])=some (Res.box [AV.gv _ _]);simp[zab,zaa];done)|(rw[hn0 od];show some (Res.box [AV.gv _ _])=some (Res.box [AV.gv _ _]);simp[zab,zaa];done))
 focus (first|rfl|omega|(rw[ho3 od];simp[zaa];done)|(rw[ho4 od];simp[zaa];done)|(rw[ho0 od od];simp[zaa];done)|(rw[hn1 od];simp[zab];done)|(rw[hn0 od];simp[zab];done)|(simp;omega))
 iterate 2 focus (first|rfl|(rw[ho3 od];show some (Res.box [AV.gv _ _])=some (Res.box [AV.gv _ _]);simp[zab,zaa];done)|(rw[ho4 od];show some (Res.box [AV.gv _ _])=some (Res.box [AV.gv _ _]);simp[zab,zaa];done)|(rw[ho0 od od];show some (Res.box [AV.gv _ _])=some (Res.box [AV.gv _ _]);simp[zab,zaa];done)|(rw[hn1 od];show some (Res.box [AV.gv _ _])=some (Res.box [AV.gv _ _]);simp[zab,zaa];done)|(rw[hn0 od];show some (Res.box [AV.gv _ _])=some (Res.box [AV.gv _ _]);simp[zab,zaa];done))
 refine xaI 901 0 7 5 Z Z Z Z ?_;refine xaI 902 0 9 6 Z Z Z Z ?_;refine evc [] [] (xbv [5,6] [7,9] zev (hcall i od _ (by first|(rw[hpn i od];done)|(rw[hp4 i od];simp[zaH];done))) Z .none Z Z (LeL.refl _) ⟨Z,Z,Z,Z,I⟩ Z oe ?_);apply tv;refine ar (xaj (i+1) ⟨od,od,sx ⟨⟨_,Z,xaQ ?_⟩,I⟩ ⟨?_,⟨zac ?_,⟨?_,⟨zac ?_,⟨?_,⟨?_,I⟩⟩⟩⟩⟩⟩⟩);focus (first|rfl|omega|(rw[ho3 od];simp[zaa];done)|(rw[ho4 od];simp[zaa];done)|(rw[ho0 od od];simp[zaa];done)|(rw[hn1 od];simp[zab];done)|(rw[hn0 od];simp[zab];done)|(simp;omega))
 focus (first|rfl|(rw[ho3 od];show some (Res.box [AV.gv _ _])=some (Res.box [AV.gv _ _]);simp[zab,zaa];done)|(rw[ho4 od];show some (Res.box [AV.gv _ _])=some (Res.box [AV.gv _ _]);simp[zab,zaa];done)|(rw[ho0 od od];show some (Res.box [AV.gv _ _])=some (Res.box [AV.gv _ _]);simp[zab,zaa];done)|(rw[hn1 od];show some (Res.box [AV.gv _ _])=some (Res.box [AV.gv _ _]);simp[zab,zaa];done)|(rw[hn0 od];show some (Res.box [AV.gv _ _])=some (Res.box [AV.gv _ _]);simp[zab,zaa];done))
 focus (first|rfl|omega|(rw[ho3 od];simp[zaa];done)|(rw[ho4 od];simp[zaa];done)|(rw[ho0 od od];simp[zaa];done)|(rw[hn1 od];simp[zab];done)|(rw[hn0 od];simp[zab];done)|(simp;omega))
 focus (first|rfl|(rw[ho3 od];show some (Res.box [AV.gv _ _])=some (Res.box [AV.gv _ _]);simp[zab,zaa];done)|(rw[ho4 od];show some (Res.box [AV.gv _ _])=some (Res.box [AV.gv _ _]);simp[zab,zaa];done)|(rw[ho0 od od];show some (Res.box [AV.gv _ _])=some (Res.box [AV.gv _ _]);simp[zab,zaa];done)|(rw[hn1 od];show some (Res.box [AV.gv _ _])=some (Res.box [AV.gv _ _]);simp[zab,zaa];done)|(rw[hn0 od];show some (Res.box [AV.gv _ _])=some (Res.box [AV.gv _ _]);simp[zab,zaa];done))
 focus (first|rfl|omega|(rw[ho3 od];simp[zaa];done)|(rw[ho4 od];simp[zaa];done)|(rw[ho0 od od];simp[zaa];done)|(rw[hn1 od];simp[zab];done)|(rw[hn0 od];simp[zab];done)|(simp;omega))
 iterate 2 focus (first|rfl|(rw[ho3 od];show some (Res.box [AV.gv _ _])=some (Res.box [AV.gv _ _]);simp[zab,zaa];done)|(rw[ho4 od];show some (Res.box [AV.gv _ _])=some (Res.box [AV.gv _ _]);simp[zab,zaa];done)|(rw[ho0 od od];show some (Res.box [AV.gv _ _])=some (Res.box [AV.gv _ _]);simp[zab,zaa];done)|(rw[hn1 od];show some (Res.box [AV.gv _ _])=some (Res.box [AV.gv _ _]);simp[zab,zaa];done)|(rw[hn0 od];show some (Res.box [AV.gv _ _])=some (Res.box [AV.gv _ _]);simp[zab,zaa];done))
 refine rn [(901,some (.box [.gv 7 ((xs++(stO p path++zaa (tstI n) p path p.kids.length)).map Stp.c)])),(7,some (.tok ((xs++(stO p path++zaa (tstI n) p path p.kids.length)).map Stp.c).length 8)),(902,some (.box [.gv 9 ((ys++(nmB p path++zab (zar n) p path p.kids.length)).map Pb.c)])),(9,some (.tok ((ys++(nmB p path++zab (zar n) p path p.kids.length)).map Pb.c).length 2)),(5,none),(6,none)] .nil (.refl _) ⟨Z,Z⟩ (SubO.get ⟨.inr ?_,⟨.inr ?_,⟨.inr ?_,⟨.inr ?_,⟨.inr ?_,⟨.inr ?_,⟨.inl Z,⟨.inl Z,⟨.inl Z,⟨.inl Z,I⟩⟩⟩⟩⟩⟩⟩⟩⟩⟩) (zaX Z);rotate_left 6;exfalso;omega;exfalso;omega;refine evc [] [] ?_;apply sq<;>intro h5 h5p h5s<;>(try simp only[Q,xaW,xal] at h5p);exfalso;omega;apply sq<;>intro h6 h6p h6s<;>(try simp only[Q,xaW,xal] at h6p);refine bu [0,1] [_,_] zm2 ?_;refine si [0] [_] zcd zlu ?_;refine xbr zcd zm8 .none Z Z Z Z (zbG Z oq) (by first|(intro x hx;simp at hx;subst hx;rfl)|(intro x hx;obtain⟨y,_,rfl⟩:=List.mem_map.1 hx;rfl)) oo oo ?_;refine evd [] [] (so zr4 ?_);refine dr (CWp.kill [22,28,35,43,50,56] ?_);refine xaI 901 0 5 7 Z Z Z Z ?_;refine xaI 902 0 6 9 Z Z Z Z ?_;refine evc [] [] (xaD (ι:=Nat) hk (fun i=>[(61,.d (.i (i:Int)))]) [9,10,11,62,63,64,65,66,67,68,69,70,71,72,73,74,75,76,77,78,79,80] (fun i=>[(901,some (.box [.gv 7 ((xs++stO p path++zaa (tstI n) p path i).map Stp.c)])),(7,some (.tok ((xs++stO p path++zaa (tstI n) p path i).map Stp.c).length 8)),(902,some (.box [.gv 9 ((ys++nmB p path++zab (zar n) p path i).map Pb.c)])),(9,some (.tok ((ys++nmB p path++zab (zar n) p path i).map Pb.c).length 2)),(5,none),(6,none)]) (fun i=>i<=p.kids.length) (fun i=>p.kids.length-i) 0 od ⟨⟨_,Z,xaQ ?_⟩,I⟩ ⟨?_,⟨zac ?_,⟨?_,⟨zac ?_,⟨?_,⟨?_,I⟩⟩⟩⟩⟩⟩ (fun x=>rfl) (fun i hg1=>?_));focus (first|rfl|omega|(rw[ho3 od];simp[zaa];done)|(rw[ho4 od];simp[zaa];done)|(rw[ho0 od od];simp[zaa];done)|(rw[hn1 od];simp[zab];done)|(rw[hn0 od];simp[zab];done)|(simp;omega))
 focus (first|rfl|(rw[ho3 od];show some (Res.box [AV.gv _ _])=some (Res.box [AV.gv _ _]);simp[zab,zaa];done)|(rw[ho4 od];show some (Res.box [AV.gv _ _])=some (Res.box [AV.gv _ _]);simp[zab,zaa];done)|(rw[ho0 od od];show some (Res.box [AV.gv _ _])=some (Res.box [AV.gv _ _]);simp[zab,zaa];done)|(rw[hn1 od];show some (Res.box [AV.gv _ _])=some (Res.box [AV.gv _ _]);simp[zab,zaa];done)|(rw[hn0 od];show some (Res.box [AV.gv _ _])=some (Res.box [AV.gv _ _]);simp[zab,zaa];done))
 focus (first|rfl|omega|(rw[ho3 od];simp[zaa];done)|(rw[ho4 od];simp[zaa];done)|(rw[ho0 od od];simp[zaa];done)|(rw[hn1 od];simp[zab];done)|(rw[hn0 od];simp[zab];done)|(simp;omega))
 focus (first|rfl|(rw[ho3 od];show some (Res.box [AV.gv _ _])=some (Res.box [AV.gv _ _]);simp[zab,zaa];done)|(rw[ho4 od];show some (Res.box [AV.gv _ _])=some (Res.box [AV.gv _ _]);simp[zab,zaa];done)|(rw[ho0 od od];show some (Res.box [AV.gv _ _])=some (Res.box [AV.gv _ _]);simp[zab,zaa];done)|(rw[hn1 od];show some (Res.box [AV.gv _ _])=some (Res.box [AV.gv _ _]);simp[zab,zaa];done)|(rw[hn0 od];show some (Res.box [AV.gv _ _])=some (Res.box [AV.gv _ _]);simp[zab,zaa];done))
 focus (first|rfl|omega|(rw[ho3 od];simp[zaa];done)|(rw[ho4 od];simp[zaa];done)|(rw[ho0 od od];simp[zaa];done)|(rw[hn1 od];simp[zab];done)|(rw[hn0 od];simp[zab];done)|(simp;omega))
 iterate 2 focus (first|rfl|(rw[ho3 od];show some (Res.box [AV.gv _ _])=some (Res.box [AV.gv _ _]);simp[zab,zaa];done)|(rw[ho4 od];show some (Res.box [AV.gv _ _])=some (Res.box [AV.gv _ _]);simp[zab,zaa];done)|(rw[ho0 od od];show some (Res.box [AV.gv _ _])=some (Res.box [AV.gv _ _]);simp[zab,zaa];done)|(rw[hn1 od];show some (Res.box [AV.gv _ _])=some (Res.box [AV.gv _ _]);simp[zab,zaa];done)|(rw[hn0 od];show some (Res.box [AV.gv _ _])=some (Res.box [AV.gv _ _]);simp[zab,zaa];done))
 refine evc [] [3,10,16] ?_;apply sq<;>intro h7 h7p h7s<;>(try simp only[Q,xaW,xal] at h7p);refine ixq sl72 Z Z Z (zaS od) Z ?_;refine ev (Walk.alloc (id:=3010) tz74 Z .none Z oe oe oe ?_);refine ev (so ty74 ?_);apply tv;apply sq<;>intro h8 h8p h8s<;>(try simp only[Q,xaW,xal] at h8p);refine Walk.call (cr:=[77]) zhd hcl Z .none Z Z (LeL.refl _) I Z Z Z (ev (si [0] [_] sl37 tz3 ?_));refine ap sl37 zz3 Z Z Z (by first|(intro x hx;simp at hx;subst hx;rfl)|(intro x hx;obtain⟨y,_,rfl⟩:=List.mem_map.1 hx;rfl)) oo ?_;refine ev (xaI 901 0 7 5 Z Z Z Z ?_);refine xaI 902 0 9 6 Z Z Z Z ?_;refine evc [] [] (xbv [5,6] [7,9] zev (hcall i od _ (by first|(rw[hpn i od];done)|(rw[hp4 i od];simp[zaH];done))) Z .none Z Z (.cons (.refl _) (.cons (.gl _ _) (.cons (.refl _) (.cons (.refl _) .nil)))) ⟨Z,Z,Z,Z,I⟩ Z oe ?_);apply tv;refine ar (xaj (i+1) ⟨od,od,sx ⟨⟨_,Z,xaQ ?_⟩,I⟩ ⟨?_,⟨zac ?_,⟨?_,⟨zac ?_,⟨?_,⟨?_,I⟩⟩⟩⟩⟩⟩⟩);focus (first|rfl|omega|(rw[ho3 od];simp[zaa];done)|(rw[ho4 od];simp[zaa];done)|(rw[ho0 od od];simp[zaa];done)|(rw[hn1 od];simp[zab];done)|(rw[hn0 od];simp[zab];done)|(simp;omega))
 focus (first|rfl|(rw[ho3 od];show some (Res.box [AV.gv _ _])=some (Res.box [AV.gv _ _]);simp[zab,zaa];done)|(rw[ho4 od];show some (Res.box [AV.gv _ _])=some (Res.box [AV.gv _ _]);simp[zab,zaa];done)|(rw[ho0 od od];show some (Res.box [AV.gv _ _])=some (Res.box [AV.gv _ _]);simp[zab,zaa];done)|(rw[hn1 od];show some (Res.box [AV.gv _ _])=some (Res.box [AV.gv _ _]);simp[zab,zaa];done)|(rw[hn0 od];show some (Res.box [AV.gv _ _])=some (Res.box [AV.gv _ _]);simp[zab,zaa];done))
 focus (first|rfl|omega|(rw[ho3 od];simp[zaa];done)|(rw[ho4 od];simp[zaa];done)|(rw[ho0 od od];simp[zaa];done)|(rw[hn1 od];simp[zab];done)|(rw[hn0 od];simp[zab];done)|(simp;omega))
 focus (first|rfl|(rw[ho3 od];show some (Res.box [AV.gv _ _])=some (Res.box [AV.gv _ _]);simp[zab,zaa];done)|(rw[ho4 od];show some (Res.box [AV.gv _ _])=some (Res.box [AV.gv _ _]);simp[zab,zaa];done)|(rw[ho0 od od];show some (Res.box [AV.gv _ _])=some (Res.box [AV.gv _ _]);simp[zab,zaa];done)|(rw[hn1 od];show some (Res.box [AV.gv _ _])=some (Res.box [AV.gv _ _]);simp[zab,zaa];done)|(rw[hn0 od];show some (Res.box [AV.gv _ _])=some (Res.box [AV.gv _ _]);simp[zab,zaa];done))
 focus (first|rfl|omega|(rw[ho3 od];simp[zaa];done)|(rw[ho4 od];simp[zaa];done)|(rw[ho0 od od];simp[zaa];done)|(rw[hn1 od];simp[zab];done)|(rw[hn0 od];simp[zab];done)|(simp;omega))
 iterate 2 focus (first|rfl|(rw[ho3 od];show some (Res.box [AV.gv _ _])=some (Res.box [AV.gv _ _]);simp[zab,zaa];done)|(rw[ho4 od];show some (Res.box [AV.gv _ _])=some (Res.box [AV.gv _ _]);simp[zab,zaa];done)|(rw[ho0 od od];show some (Res.box [AV.gv _ _])=some (Res.box [AV.gv _ _]);simp[zab,zaa];done)|(rw[hn1 od];show some (Res.box [AV.gv _ _])=some (Res.box [AV.gv _ _]);simp[zab,zaa];done)|(rw[hn0 od];show some (Res.box [AV.gv _ _])=some (Res.box [AV.gv _ _]);simp[zab,zaa];done))
 refine xaI 901 0 7 5 Z Z Z Z ?_;refine xaI 902 0 9 6 Z Z Z Z ?_;refine evc [] [] (xbv [5,6] [7,9] zev (hcall i od _ (by first|(rw[hpn i od];done)|(rw[hp4 i od];simp[zaH];done))) Z .none Z Z (LeL.refl _) ⟨Z,Z,Z,Z,I⟩ Z oe ?_);apply tv;refine ar (xaj (i+1) ⟨od,od,sx ⟨⟨_,Z,xaQ ?_⟩,I⟩ ⟨?_,⟨zac ?_,⟨?_,⟨zac ?_,⟨?_,⟨?_,I⟩⟩⟩⟩⟩⟩⟩);focus (first|rfl|omega|(rw[ho3 od];simp[zaa];done)|(rw[ho4 od];simp[zaa];done)|(rw[ho0 od od];simp[zaa];done)|(rw[hn1 od];simp[zab];done)|(rw[hn0 od];simp[zab];done)|(simp;omega))
 focus (first|rfl|(rw[ho3 od];show some (Res.box [AV.gv _ _])=some (Res.box [AV.gv _ _]);simp[zab,zaa];done)|(rw[ho4 od];show some (Res.box [AV.gv _ _])=some (Res.box [AV.gv _ _]);simp[zab,zaa];done)|(rw[ho0 od od];show some (Res.box [AV.gv _ _])=some (Res.box [AV.gv _ _]);simp[zab,zaa];done)|(rw[hn1 od];show some (Res.box [AV.gv _ _])=some (Res.box [AV.gv _ _]);simp[zab,zaa];done)|(rw[hn0 od];show some (Res.box [AV.gv _ _])=some (Res.box [AV.gv _ _]);simp[zab,zaa];done))
 focus (first|rfl|omega|(rw[ho3 od];simp[zaa];done)|(rw[ho4 od];simp[zaa];done)|(rw[ho0 od od];simp[zaa];done)|(rw[hn1 od];simp[zab];done)|(rw[hn0 od];simp[zab];done)|(simp;omega))
 focus (first|rfl|(rw[ho3 od];show some (Res.box [AV.gv _ _])=some (Res.box [AV.gv _ _]);simp[zab,zaa];done)|(rw[ho4 od];show some (Res.box [AV.gv _ _])=some (Res.box [AV.gv _ _]);simp[zab,zaa];done)|(rw[ho0 od od];show some (Res.box [AV.gv _ _])=some (Res.box [AV.gv _ _]);simp[zab,zaa];done)|(rw[hn1 od];show some (Res.box [AV.gv _ _])=some (Res.box [AV.gv _ _]);simp[zab,zaa];done)|(rw[hn0 od];show some (Res.box [AV.gv _ _])=some (Res.box [AV.gv _ _]);simp[zab,zaa];done))
 focus (first|rfl|omega|(rw[ho3 od];simp[zaa];done)|(rw[ho4 od];simp[zaa];done)|(rw[ho0 od od];simp[zaa];done)|(rw[hn1 od];simp[zab];done)|(rw[hn0 od];simp[zab];done)|(simp;omega))
 iterate 2 focus (first|rfl|(rw[ho3 od];show some (Res.box [AV.gv _ _])=some (Res.box [AV.gv _ _]);simp[zab,zaa];done)|(rw[ho4 od];show some (Res.box [AV.gv _ _])=some (Res.box [AV.gv _ _]);simp[zab,zaa];done)|(rw[ho0 od od];show some (Res.box [AV.gv _ _])=some (Res.box [AV.gv _ _]);simp[zab,zaa];done)|(rw[hn1 od];show some (Res.box [AV.gv _ _])=some (Res.box [AV.gv _ _]);simp[zab,zaa];done)|(rw[hn0 od];show some (Res.box [AV.gv _ _])=some (Res.box [AV.gv _ _]);simp[zab,zaa];done))
 refine rn [(901,some (.box [.gv 7 ((xs++(stO p path++zaa (tstI n) p path p.kids.length)).map Stp.c)])),(7,some (.tok ((xs++(stO p path++zaa (tstI n) p path p.kids.length)).map Stp.c).length 8)),(902,some (.box [.gv 9 ((ys++(nmB p path++zab (zar n) p path p.kids.length)).map Pb.c)])),(9,some (.tok ((ys++(nmB p path++zab (zar n) p path p.kids.length)).map Pb.c).length 2)),(5,none),(6,none)] .nil (.refl _) ⟨Z,Z⟩ (SubO.get ⟨.inr ?_,⟨.inr ?_,⟨.inr ?_,⟨.inr ?_,⟨.inr ?_,⟨.inr ?_,⟨.inl Z,⟨.inl Z,⟨.inl Z,⟨.inl Z,I⟩⟩⟩⟩⟩⟩⟩⟩⟩⟩) (zaX Z);rotate_left 6;apply sq<;>intro h9 h9p h9s<;>(try simp only[Q,xaW,xal] at h9p);refine bu [0,1,2,3,4] [_,_,_,_,_] zeS ?_;refine si [0] [_] sl96 zdS ?_;refine xbr sl96 zeT .none Z Z Z Z (zbG Z oq) (by first|(intro x hx;simp at hx;subst hx;rfl)|(intro x hx;obtain⟨y,_,rfl⟩:=List.mem_map.1 hx;rfl)) oo oo ?_;refine evd [] [] (so ty96 ?_);refine dr (CWp.kill [22,28,35,43,50,56] ?_);refine xaI 901 0 5 7 Z Z Z Z ?_;refine xaI 902 0 6 9 Z Z Z Z ?_;refine evc [] [] (xaD (ι:=Nat) hk (fun i=>[(61,.d (.i (i:Int)))]) [9,10,11,62,63,64,65,66,67,68,69,70,71,72,73,74,75,76,77,78,79,80] (fun i=>[(901,some (.box [.gv 7 ((xs++stO p path++zaa (tstI n) p path i).map Stp.c)])),(7,some (.tok ((xs++stO p path++zaa (tstI n) p path i).map Stp.c).length 8)),(902,some (.box [.gv 9 ((ys++nmB p path++zab (zar n) p path i).map Pb.c)])),(9,some (.tok ((ys++nmB p path++zab (zar n) p path i).map Pb.c).length 2)),(5,none),(6,none)]) (fun i=>i<=p.kids.length) (fun i=>p.kids.length-i) 0 od ⟨⟨_,Z,xaQ ?_⟩,I⟩ ⟨?_,⟨zac ?_,⟨?_,⟨zac ?_,⟨?_,⟨?_,I⟩⟩⟩⟩⟩⟩ (fun x=>rfl) (fun i hg1=>?_));focus (first|rfl|omega|(rw[ho3 od];simp[zaa];done)|(rw[ho4 od];simp[zaa];done)|(rw[ho0 od od];simp[zaa];done)|(rw[hn1 od];simp[zab];done)|(rw[hn0 od];simp[zab];done)|(simp;omega))
 focus (first|rfl|(rw[ho3 od];show some (Res.box [AV.gv _ _])=some (Res.box [AV.gv _ _]);simp[zab,zaa];done)|(rw[ho4 od];show some (Res.box [AV.gv _ _])=some (Res.box [AV.gv _ _]);simp[zab,zaa];done)|(rw[ho0 od od];show some (Res.box [AV.gv _ _])=some (Res.box [AV.gv _ _]);simp[zab,zaa];done)|(rw[hn1 od];show some (Res.box [AV.gv _ _])=some (Res.box [AV.gv _ _]);simp[zab,zaa];done)|(rw[hn0 od];show some (Res.box [AV.gv _ _])=some (Res.box [AV.gv _ _]);simp[zab,zaa];done))
 focus (first|rfl|omega|(rw[ho3 od];simp[zaa];done)|(rw[ho4 od];simp[zaa];done)|(rw[ho0 od od];simp[zaa];done)|(rw[hn1 od];simp[zab];done)|(rw[hn0 od];simp[zab];done)|(simp;omega))
 focus (first|rfl|(rw[ho3 od];show some (Res.box [AV.gv _ _])=some (Res.box [AV.gv _ _]);simp[zab,zaa];done)|(rw[ho4 od];show some (Res.box [AV.gv _ _])=some (Res.box [AV.gv _ _]);simp[zab,zaa];done)|(rw[ho0 od od];show some (Res.box [AV.gv _ _])=some (Res.box [AV.gv _ _]);simp[zab,zaa];done)|(rw[hn1 od];show some (Res.box [AV.gv _ _])=some (Res.box [AV.gv _ _]);simp[zab,zaa];done)|(rw[hn0 od];show some (Res.box [AV.gv _ _])=some (Res.box [AV.gv _ _]);simp[zab,zaa];done))
 focus (first|rfl|omega|(rw[ho3 od];simp[zaa];done)|(rw[ho4 od];simp[zaa];done)|(rw[ho0 od od];simp[zaa];done)|(rw[hn1 od];simp[zab];done)|(rw[hn0 od];simp[zab];done)|(simp;omega))
 iterate 2 focus (first|rfl|(rw[ho3 od];show some (Res.box [AV.gv _ _])=some (Res.box [AV.gv _ _]);simp[zab,zaa];done)|(rw[ho4 od];show some (Res.box [AV.gv _ _])=some (Res.box [AV.gv _ _]);simp[zab,zaa];done)|(rw[ho0 od od];show some (Res.box [AV.gv _ _])=some (Res.box [AV.gv _ _]);simp[zab,zaa];done)|(rw[hn1 od];show some (Res.box [AV.gv _ _])=some (Res.box [AV.gv _ _]);simp[zab,zaa];done)|(rw[hn0 od];show some (Res.box [AV.gv _ _])=some (Res.box [AV.gv _ _]);simp[zab,zaa];done))
 refine evc [] [3,10,16] ?_;apply sq<;>intro h10 h10p h10s<;>(try simp only[Q,xaW,xal] at h10p);refine ixq sl72 Z Z Z (zaS od) Z ?_;refine ev (Walk.alloc (id:=3010) tz74 Z .none Z oe oe oe ?_);refine ev (so ty74 ?_);apply tv;apply sq<;>intro h11 h11p h11s<;>(try simp only[Q,xaW,xal] at h11p);refine Walk.call (cr:=[77]) zhd hcl Z .none Z Z (LeL.refl _) I Z Z Z (ev (si [0] [_] sl37 tz3 ?_));refine ap sl37 zz3 Z Z Z (by first|(intro x hx;simp at hx;subst hx;rfl)|(intro x hx;obtain⟨y,_,rfl⟩:=List.mem_map.1 hx;rfl)) oo ?_;refine ev (xaI 901 0 7 5 Z Z Z Z ?_);refine xaI 902 0 9 6 Z Z Z Z ?_;refine evc [] [] (xbv [5,6] [7,9] zev (hcall i od _ (by first|(rw[hpn i od];done)|(rw[hp4 i od];simp[zaH];done))) Z .none Z Z (.cons (.refl _) (.cons (.gl _ _) (.cons (.refl _) (.cons (.refl _) .nil)))) ⟨Z,Z,Z,Z,I⟩ Z oe ?_);apply tv;refine ar (xaj (i+1) ⟨od,od,sx ⟨⟨_,Z,xaQ ?_⟩,I⟩ ⟨?_,⟨zac ?_,⟨?_,⟨zac ?_,⟨?_,⟨?_,I⟩⟩⟩⟩⟩⟩⟩);focus (first|rfl|omega|(rw[ho3 od];simp[zaa];done)|(rw[ho4 od];simp[zaa];done)|(rw[ho0 od od];simp[zaa];done)|(rw[hn1 od];simp[zab];done)|(rw[hn0 od];simp[zab];done)|(simp;omega))
 focus (first|rfl|(rw[ho3 od];show some (Res.box [AV.gv _ _])=some (Res.box [AV.gv _ _]);simp[zab,zaa];done)|(rw[ho4 od];show some (Res.box [AV.gv _ _])=some (Res.box [AV.gv _ _]);simp[zab,zaa];done)|(rw[ho0 od od];show some (Res.box [AV.gv _ _])=some (Res.box [AV.gv _ _]);simp[zab,zaa];done)|(rw[hn1 od];show some (Res.box [AV.gv _ _])=some (Res.box [AV.gv _ _]);simp[zab,zaa];done)|(rw[hn0 od];show some (Res.box [AV.gv _ _])=some (Res.box [AV.gv _ _]);simp[zab,zaa];done))
 focus (first|rfl|omega|(rw[ho3 od];simp[zaa];done)|(rw[ho4 od];simp[zaa];done)|(rw[ho0 od od];simp[zaa];done)|(rw[hn1 od];simp[zab];done)|(rw[hn0 od];simp[zab];done)|(simp;omega))
 focus (first|rfl|(rw[ho3 od];show some (Res.box [AV.gv _ _])=some (Res.box [AV.gv _ _]);simp[zab,zaa];done)|(rw[ho4 od];show some (Res.box [AV.gv _ _])=some (Res.box [AV.gv _ _]);simp[zab,zaa];done)|(rw[ho0 od od];show some (Res.box [AV.gv _ _])=some (Res.box [AV.gv _ _]);simp[zab,zaa];done)|(rw[hn1 od];show some (Res.box [AV.gv _ _])=some (Res.box [AV.gv _ _]);simp[zab,zaa];done)|(rw[hn0 od];show some (Res.box [AV.gv _ _])=some (Res.box [AV.gv _ _]);simp[zab,zaa];done))
 focus (first|rfl|omega|(rw[ho3 od];simp[zaa];done)|(rw[ho4 od];simp[zaa];done)|(rw[ho0 od od];simp[zaa];done)|(rw[hn1 od];simp[zab];done)|(rw[hn0 od];simp[zab];done)|(simp;omega))
 iterate 2 focus (first|rfl|(rw[ho3 od];show some (Res.box [AV.gv _ _])=some (Res.box [AV.gv _ _]);simp[zab,zaa];done)|(rw[ho4 od];show some (Res.box [AV.gv _ _])=some (Res.box [AV.gv _ _]);simp[zab,zaa];done)|(rw[ho0 od od];show some (Res.box [AV.gv _ _])=some (Res.box [AV.gv _ _]);simp[zab,zaa];done)|(rw[hn1 od];show some (Res.box [AV.gv _ _])=some (Res.box [AV.gv _ _]);simp[zab,zaa];done)|(rw[hn0 od];show some (Res.box [AV.gv _ _])=some (Res.box [AV.gv _ _]);simp[zab,zaa];done))
 refine xaI 901 0 7 5 Z Z Z Z ?_;refine xaI 902 0 9 6 Z Z Z Z ?_;refine evc [] [] (xbv [5,6] [7,9] zev (hcall i od _ (by first|(rw[hpn i od];done)|(rw[hp4 i od];simp[zaH];done))) Z .none Z Z (LeL.refl _) ⟨Z,Z,Z,Z,I⟩ Z oe ?_);apply tv;refine ar (xaj (i+1) ⟨od,od,sx ⟨⟨_,Z,xaQ ?_⟩,I⟩ ⟨?_,⟨zac ?_,⟨?_,⟨zac ?_,⟨?_,⟨?_,I⟩⟩⟩⟩⟩⟩⟩);focus (first|rfl|omega|(rw[ho3 od];simp[zaa];done)|(rw[ho4 od];simp[zaa];done)|(rw[ho0 od od];simp[zaa];done)|(rw[hn1 od];simp[zab];done)|(rw[hn0 od];simp[zab];done)|(simp;omega))
 focus (first|rfl|(rw[ho3 od];show some (Res.box [AV.gv _ _])=some (Res.box [AV.gv _ _]);simp[zab,zaa];done)|(rw[ho4 od];show some (Res.box [AV.gv _ _])=some (Res.box [AV.gv _ _]);simp[zab,zaa];done)|(rw[ho0 od od];show some (Res.box [AV.gv _ _])=some (Res.box [AV.gv _ _]);simp[zab,zaa];done)|(rw[hn1 od];show some (Res.box [AV.gv _ _])=some (Res.box [AV.gv _ _]);simp[zab,zaa];done)|(rw[hn0 od];show some (Res.box [AV.gv _ _])=some (Res.box [AV.gv _ _]);simp[zab,zaa];done))
 focus (first|rfl|omega|(rw[ho3 od];simp[zaa];done)|(rw[ho4 od];simp[zaa];done)|(rw[ho0 od od];simp[zaa];done)|(rw[hn1 od];simp[zab];done)|(rw[hn0 od];simp[zab];done)|(simp;omega))
 focus (first|rfl|(rw[ho3 od];show some (Res.box [AV.gv _ _])=some (Res.box [AV.gv _ _]);simp[zab,zaa];done)|(rw[ho4 od];show some (Res.box [AV.gv _ _])=some (Res.box [AV.gv _ _]);simp[zab,zaa];done)|(rw[ho0 od od];show some (Res.box [AV.gv _ _])=some (Res.box [AV.gv _ _]);simp[zab,zaa];done)|(rw[hn1 od];show some (Res.box [AV.gv _ _])=some (Res.box [AV.gv _ _]);simp[zab,zaa];done)|(rw[hn0 od];show some (Res.box [AV.gv _ _])=some (Res.box [AV.gv _ _]);simp[zab,zaa];done))
 focus (first|rfl|omega|(rw[ho3 od];simp[zaa];done)|(rw[ho4 od];simp[zaa];done)|(rw[ho0 od od];simp[zaa];done)|(rw[hn1 od];simp[zab];done)|(rw[hn0 od];simp[zab];done)|(simp;omega))
 iterate 2 focus (first|rfl|(rw[ho3 od];show some (Res.box [AV.gv _ _])=some (Res.box [AV.gv _ _]);simp[zab,zaa];done)|(rw[ho4 od];show some (Res.box [AV.gv _ _])=some (Res.box [AV.gv _ _]);simp[zab,zaa];done)|(rw[ho0 od od];show some (Res.box [AV.gv _ _])=some (Res.box [AV.gv _ _]);simp[zab,zaa];done)|(rw[hn1 od];show some (Res.box [AV.gv _ _])=some (Res.box [AV.gv _ _]);simp[zab,zaa];done)|(rw[hn0 od];show some (Res.box [AV.gv _ _])=some (Res.box [AV.gv _ _]);simp[zab,zaa];done))
 refine rn [(901,some (.box [.gv 7 ((xs++(stO p path++zaa (tstI n) p path p.kids.length)).map Stp.c)])),(7,some (.tok ((xs++(stO p path++zaa (tstI n) p path p.kids.length)).map Stp.c).length 8)),(902,some (.box [.gv 9 ((ys++(nmB p path++zab (zar n) p path p.kids.length)).map Pb.c)])),(9,some (.tok ((ys++(nmB p path++zab (zar n) p path p.kids.length)).map Pb.c).length 2)),(5,none),(6,none)] .nil (.refl _) ⟨Z,Z⟩ (SubO.get ⟨.inr ?_,⟨.inr ?_,⟨.inr ?_,⟨.inr ?_,⟨.inr ?_,⟨.inr ?_,⟨.inl Z,⟨.inl Z,⟨.inl Z,⟨.inl Z,I⟩⟩⟩⟩⟩⟩⟩⟩⟩⟩) (zaX Z);rotate_left 6;apply sq<;>intro h12 h12p h12s<;>(try simp only[Q,xaW,xal] at h12p);refine bu [0,1,2] [_,_,_] zeS ?_;refine si [0] [_] sl96 zdS ?_;refine xbr sl96 zeT .none Z Z Z Z (zbG Z oq) (by first|(intro x hx;simp at hx;subst hx;rfl)|(intro x hx;obtain⟨y,_,rfl⟩:=List.mem_map.1 hx;rfl)) oo oo ?_;refine evd [] [] (so ty96 ?_);refine dr (CWp.kill [22,28,35,43,50,56] ?_);refine xaI 901 0 5 7 Z Z Z Z ?_;refine xaI 902 0 6 9 Z Z Z Z ?_;refine evc [] [] (xaD (ι:=Nat) hk (fun i=>[(61,.d (.i (i:Int)))]) [9,10,11,62,63,64,65,66,67,68,69,70,71,72,73,74,75,76,77,78,79,80] (fun i=>[(901,some (.box [.gv 7 ((xs++stO p path++zaa (tstI n) p path i).map Stp.c)])),(7,some (.tok ((xs++stO p path++zaa (tstI n) p path i).map Stp.c).length 8)),(902,some (.box [.gv 9 ((ys++nmB p path++zab (zar n) p path i).map Pb.c)])),(9,some (.tok ((ys++nmB p path++zab (zar n) p path i).map Pb.c).length 2)),(5,none),(6,none)]) (fun i=>i<=p.kids.length) (fun i=>p.kids.length-i) 0 od ⟨⟨_,Z,xaQ ?_⟩,I⟩ ⟨?_,⟨zac ?_,⟨?_,⟨zac ?_,⟨?_,⟨?_,I⟩⟩⟩⟩⟩⟩ (fun x=>rfl) (fun i hg1=>?_));focus (first|rfl|omega|(rw[ho3 od];simp[zaa];done)|(rw[ho4 od];simp[zaa];done)|(rw[ho0 od od];simp[zaa];done)|(rw[hn1 od];simp[zab];done)|(rw[hn0 od];simp[zab];done)|(simp;omega))
 focus (first|rfl|(rw[ho3 od];show some (Res.box [AV.gv _ _])=some (Res.box [AV.gv _ _]);simp[zab,zaa];done)|(rw[ho4 od];show some (Res.box [AV.gv _ _])=some (Res.box [AV.gv _ _]);simp[zab,zaa];done)|(rw[ho0 od od];show some (Res.box [AV.gv _ _])=some (Res.box [AV.gv _ _]);simp[zab,zaa];done)|(rw[hn1 od];show some (Res.box [AV.gv _ _])=some (Res.box [AV.gv _ _]);simp[zab,zaa];done)|(rw[hn0 od];show some (Res.box [AV.gv _ _])=some (Res.box [AV.gv _ _]);simp[zab,zaa];done))
 focus (first|rfl|omega|(rw[ho3 od];simp[zaa];done)|(rw[ho4 od];simp[zaa];done)|(rw[ho0 od od];simp[zaa];done)|(rw[hn1 od];simp[zab];done)|(rw[hn0 od];simp[zab];done)|(simp;omega))
 focus (first|rfl|(rw[ho3 od];show some (Res.box [AV.gv _ _])=some (Res.box [AV.gv _ _]);simp[zab,zaa];done)|(rw[ho4 od];show some (Res.box [AV.gv _ _])=some (Res.box [AV.gv _ _]);simp[zab,zaa];done)|(rw[ho0 od od];show some (Res.box [AV.gv _ _])=some (Res.box [AV.gv _ _]);simp[zab,zaa];done)|(rw[hn1 od];show some (Res.box [AV.gv _ _])=some (Res.box [AV.gv _ _]);simp[zab,zaa];done)|(rw[hn0 od];show some (Res.box [AV.gv _ _])=some (Res.box [AV.gv _ _]);simp[zab,zaa];done))
 focus (first|rfl|omega|(rw[ho3 od];simp[zaa];done)|(rw[ho4 od];simp[zaa];done)|(rw[ho0 od od];simp[zaa];done)|(rw[hn1 od];simp[zab];done)|(rw[hn0 od];simp[zab];done)|(simp;omega))
 iterate 2 focus (first|rfl|(rw[ho3 od];show some (Res.box [AV.gv _ _])=some (Res.box [AV.gv _ _]);simp[zab,zaa];done)|(rw[ho4 od];show some (Res.box [AV.gv _ _])=some (Res.box [AV.gv _ _]);simp[zab,zaa];done)|(rw[ho0 od od];show some (Res.box [AV.gv _ _])=some (Res.box [AV.gv _ _]);simp[zab,zaa];done)|(rw[hn1 od];show some (Res.box [AV.gv _ _])=some (Res.box [AV.gv _ _]);simp[zab,zaa];done)|(rw[hn0 od];show some (Res.box [AV.gv _ _])=some (Res.box [AV.gv _ _]);simp[zab,zaa];done))
 refine evc [] [3,10,16] ?_;apply sq<;>intro h13 h13p h13s<;>(try simp only[Q,xaW,xal] at h13p);refine ixq sl72 Z Z Z (zaS od) Z ?_;refine ev (Walk.alloc (id:=3010) tz74 Z .none Z oe oe oe ?_);refine ev (so ty74 ?_);apply tv;apply sq<;>intro h14 h14p h14s<;>(try simp only[Q,xaW,xal] at h14p);refine Walk.call (cr:=[77]) zhd hcl Z .none Z Z (LeL.refl _) I Z Z Z (ev (si [0] [_] sl37 tz3 ?_));refine ap sl37 zz3 Z Z Z (by first|(intro x hx;simp at hx;subst hx;rfl)|(intro x hx;obtain⟨y,_,rfl⟩:=List.mem_map.1 hx;rfl)) oo ?_;refine ev (xaI 901 0 7 5 Z Z Z Z ?_);refine xaI 902 0 9 6 Z Z Z Z ?_;refine evc [] [] (xbv [5,6] [7,9] zev (hcall i od _ (by first|(rw[hpn i od];done)|(rw[hp4 i od];simp[zaH];done))) Z .none Z Z (.cons (.refl _) (.cons (.gl _ _) (.cons (.refl _) (.cons (.refl _) .nil)))) ⟨Z,Z,Z,Z,I⟩ Z oe ?_);apply tv;refine ar (xaj (i+1) ⟨od,od,sx ⟨⟨_,Z,xaQ ?_⟩,I⟩ ⟨?_,⟨zac ?_,⟨?_,⟨zac ?_,⟨?_,⟨?_,I⟩⟩⟩⟩⟩⟩⟩);focus (first|rfl|omega|(rw[ho3 od];simp[zaa];done)|(rw[ho4 od];simp[zaa];done)|(rw[ho0 od od];simp[zaa];done)|(rw[hn1 od];simp[zab];done)|(rw[hn0 od];simp[zab];done)|(simp;omega))
 focus (first|rfl|(rw[ho3 od];show some (Res.box [AV.gv _ _])=some (Res.box [AV.gv _ _]);simp[zab,zaa];done)|(rw[ho4 od];show some (Res.box [AV.gv _ _])=some (Res.box [AV.gv _ _]);simp[zab,zaa];done)|(rw[ho0 od od];show some (Res.box [AV.gv _ _])=some (Res.box [AV.gv _ _]);simp[zab,zaa];done)|(rw[hn1 od];show some (Res.box [AV.gv _ _])=some (Res.box [AV.gv _ _]);simp[zab,zaa];done)|(rw[hn0 od];show some (Res.box [AV.gv _ _])=some (Res.box [AV.gv _ _]);simp[zab,zaa];done))
 focus (first|rfl|omega|(rw[ho3 od];simp[zaa];done)|(rw[ho4 od];simp[zaa];done)|(rw[ho0 od od];simp[zaa];done)|(rw[hn1 od];simp[zab];done)|(rw[hn0 od];simp[zab];done)|(simp;omega))
 focus (first|rfl|(rw[ho3 od];show some (Res.box [AV.gv _ _])=some (Res.box [AV.gv _ _]);simp[zab,zaa];done)|(rw[ho4 od];show some (Res.box [AV.gv _ _])=some (Res.box [AV.gv _ _]);simp[zab,zaa];done)|(rw[ho0 od od];show some (Res.box [AV.gv _ _])=some (Res.box [AV.gv _ _]);simp[zab,zaa];done)|(rw[hn1 od];show some (Res.box [AV.gv _ _])=some (Res.box [AV.gv _ _]);simp[zab,zaa];done)|(rw[hn0 od];show some (Res.box [AV.gv _ _])=some (Res.box [AV.gv _ _]);simp[zab,zaa];done))
 focus (first|rfl|omega|(rw[ho3 od];simp[zaa];done)|(rw[ho4 od];simp[zaa];done)|(rw[ho0 od od];simp[zaa];done)|(rw[hn1 od];simp[zab];done)|(rw[hn0 od];simp[zab];done)|(simp;omega))
 iterate 2 focus (first|rfl|(rw[ho3 od];show some (Res.box [AV.gv _ _])=some (Res.box [AV.gv _ _]);simp[zab,zaa];done)|(rw[ho4 od];show some (Res.box [AV.gv _ _])=some (Res.box [AV.gv _ _]);simp[zab,zaa];done)|(rw[ho0 od od];show some (Res.box [AV.gv _ _])=some (Res.box [AV.gv _ _]);simp[zab,zaa];done)|(rw[hn1 od];show some (Res.box [AV.gv _ _])=some (Res.box [AV.gv _ _]);simp[zab,zaa];done)|(rw[hn0 od];show some (Res.box [AV.gv _ _])=some (Res.box [AV.gv _ _]);simp[zab,zaa];done))
 refine xaI 901 0 7 5 Z Z Z Z ?_;refine xaI 902 0 9 6 Z Z Z Z ?_;refine evc [] [] (xbv [5,6] [7,9] zev (hcall i od _ (by first|(rw[hpn i od];done)|(rw[hp4 i od];simp[zaH];done))) Z .none Z Z (LeL.refl _) ⟨Z,Z,Z,Z,I⟩ Z oe ?_);apply tv;refine ar (xaj (i+1) ⟨od,od,sx ⟨⟨_,Z,xaQ ?_⟩,I⟩ ⟨?_,⟨zac ?_,⟨?_,⟨zac ?_,⟨?_,⟨?_,I⟩⟩⟩⟩⟩⟩⟩);focus (first|rfl|omega|(rw[ho3 od];simp[zaa];done)|(rw[ho4 od];simp[zaa];done)|(rw[ho0 od od];simp[zaa];done)|(rw[hn1 od];simp[zab];done)|(rw[hn0 od];simp[zab];done)|(simp;omega))
 focus (first|rfl|(rw[ho3 od];show some (Res.box [AV.gv _ _])=some (Res.box [AV.gv _ _]);simp[zab,zaa];done)|(rw[ho4 od];show some (Res.box [AV.gv _ _])=some (Res.box [AV.gv _ _]);simp[zab,zaa];done)|(rw[ho0 od od];show some (Res.box [AV.gv _ _])=some (Res.box [AV.gv _ _]);simp[zab,zaa];done)|(rw[hn1 od];show some (Res.box [AV.gv _ _])=some (Res.box [AV.gv _ _]);simp[zab,zaa];done)|(rw[hn0 od];show some (Res.box [AV.gv _ _])=some (Res.box [AV.gv _ _]);simp[zab,zaa];done))
 focus (first|rfl|omega|(rw[ho3 od];simp[zaa];done)|(rw[ho4 od];simp[zaa];done)|(rw[ho0 od od];simp[zaa];done)|(rw[hn1 od];simp[zab];done)|(rw[hn0 od];simp[zab];done)|(simp;omega))
 focus (first|rfl|(rw[ho3 od];show some (Res.box [AV.gv _ _])=some (Res.box [AV.gv _ _]);simp[zab,zaa];done)|(rw[ho4 od];show some (Res.box [AV.gv _ _])=some (Res.box [AV.gv _ _]);simp[zab,zaa];done)|(rw[ho0 od od];show some (Res.box [AV.gv _ _])=some (Res.box [AV.gv _ _]);simp[zab,zaa];done)|(rw[hn1 od];show some (Res.box [AV.gv _ _])=some (Res.box [AV.gv _ _]);simp[zab,zaa];done)|(rw[hn0 od];show some (Res.box [AV.gv _ _])=some (Res.box [AV.gv _ _]);simp[zab,zaa];done))
 focus (first|rfl|omega|(rw[ho3 od];simp[zaa];done)|(rw[ho4 od];simp[zaa];done)|(rw[ho0 od od];simp[zaa];done)|(rw[hn1 od];simp[zab];done)|(rw[hn0 od];simp[zab];done)|(simp;omega))
 iterate 2 focus (first|rfl|(rw[ho3 od];show some (Res.box [AV.gv _ _])=some (Res.box [AV.gv _ _]);simp[zab,zaa];done)|(rw[ho4 od];show some (Res.box [AV.gv _ _])=some (Res.box [AV.gv _ _]);simp[zab,zaa];done)|(rw[ho0 od od];show some (Res.box [AV.gv _ _])=some (Res.box [AV.gv _ _]);simp[zab,zaa];done)|(rw[hn1 od];show some (Res.box [AV.gv _ _])=some (Res.box [AV.gv _ _]);simp[zab,zaa];done)|(rw[hn0 od];show some (Res.box [AV.gv _ _])=some (Res.box [AV.gv _ _]);simp[zab,zaa];done))
 refine rn [(901,some (.box [.gv 7 ((xs++(stO p path++zaa (tstI n) p path p.kids.length)).map Stp.c)])),(7,some (.tok ((xs++(stO p path++zaa (tstI n) p path p.kids.length)).map Stp.c).length 8)),(902,some (.box [.gv 9 ((ys++(nmB p path++zab (zar n) p path p.kids.length)).map Pb.c)])),(9,some (.tok ((ys++(nmB p path++zab (zar n) p path p.kids.length)).map Pb.c).length 2)),(5,none),(6,none)] .nil (.refl _) ⟨Z,Z⟩ (SubO.get ⟨.inr ?_,⟨.inr ?_,⟨.inr ?_,⟨.inr ?_,⟨.inr ?_,⟨.inr ?_,⟨.inl Z,⟨.inl Z,⟨.inl Z,⟨.inl Z,I⟩⟩⟩⟩⟩⟩⟩⟩⟩⟩) (zaX Z);rotate_left 6;refine CWp.kill [22,28,35,43,50,56] ?_;refine xaI 901 0 5 7 Z Z Z Z ?_;refine xaI 902 0 6 9 Z Z Z Z ?_;refine evc [] [] (xaD (ι:=Nat) hk (fun i=>[(61,.d (.i (i:Int)))]) [9,10,11,62,63,64,65,66,67,68,69,70,71,72,73,74,75,76,77,78,79,80] (fun i=>[(901,some (.box [.gv 7 ((xs++stO p path++zaa (tstI n) p path i).map Stp.c)])),(7,some (.tok ((xs++stO p path++zaa (tstI n) p path i).map Stp.c).length 8)),(902,some (.box [.gv 9 ((ys++nmB p path++zab (zar n) p path i).map Pb.c)])),(9,some (.tok ((ys++nmB p path++zab (zar n) p path i).map Pb.c).length 2)),(5,none),(6,none)]) (fun i=>i<=p.kids.length) (fun i=>p.kids.length-i) 0 od ⟨⟨_,Z,xaQ ?_⟩,I⟩ ⟨?_,⟨zac ?_,⟨?_,⟨zac ?_,⟨?_,⟨?_,I⟩⟩⟩⟩⟩⟩ (fun x=>rfl) (fun i hg1=>?_));focus (first|rfl|omega|(rw[ho3 od];simp[zaa];done)|(rw[ho4 od];simp[zaa];done)|(rw[ho0 od od];simp[zaa];done)|(rw[hn1 od];simp[zab];done)|(rw[hn0 od];simp[zab];done)|(simp;omega))
 focus (first|rfl|(rw[ho3 od];show some (Res.box [AV.gv _ _])=some (Res.box [AV.gv _ _]);simp[zab,zaa];done)|(rw[ho4 od];show some (Res.box [AV.gv _ _])=some (Res.box [AV.gv _ _]);simp[zab,zaa];done)|(rw[ho0 od od];show some (Res.box [AV.gv _ _])=some (Res.box [AV.gv _ _]);simp[zab,zaa];done)|(rw[hn1 od];show some (Res.box [AV.gv _ _])=some (Res.box [AV.gv _ _]);simp[zab,zaa];done)|(rw[hn0 od];show some (Res.box [AV.gv _ _])=some (Res.box [AV.gv _ _]);simp[zab,zaa];done))
 focus (first|rfl|omega|(rw[ho3 od];simp[zaa];done)|(rw[ho4 od];simp[zaa];done)|(rw[ho0 od od];simp[zaa];done)|(rw[hn1 od];simp[zab];done)|(rw[hn0 od];simp[zab];done)|(simp;omega))
 focus (first|rfl|(rw[ho3 od];show some (Res.box [AV.gv _ _])=some (Res.box [AV.gv _ _]);simp[zab,zaa];done)|(rw[ho4 od];show some (Res.box [AV.gv _ _])=some (Res.box [AV.gv _ _]);simp[zab,zaa];done)|(rw[ho0 od od];show some (Res.box [AV.gv _ _])=some (Res.box [AV.gv _ _]);simp[zab,zaa];done)|(rw[hn1 od];show some (Res.box [AV.gv _ _])=some (Res.box [AV.gv _ _]);simp[zab,zaa];done)|(rw[hn0 od];show some (Res.box [AV.gv _ _])=some (Res.box [AV.gv _ _]);simp[zab,zaa];done))
 focus (first|rfl|omega|(rw[ho3 od];simp[zaa];done)|(rw[ho4 od];simp[zaa];done)|(rw[ho0 od od];simp[zaa];done)|(rw[hn1 od];simp[zab];done)|(rw[hn0 od];simp[zab];done)|(simp;omega))
 iterate 2 focus (first|rfl|(rw[ho3 od];show some (Res.box [AV.gv _ _])=some (Res.box [AV.gv _ _]);simp[zab,zaa];done)|(rw[ho4 od];show some (Res.box [AV.gv _ _])=some (Res.box [AV.gv _ _]);simp[zab,zaa];done)|(rw[ho0 od od];show some (Res.box [AV.gv _ _])=some (Res.box [AV.gv _ _]);simp[zab,zaa];done)|(rw[hn1 od];show some (Res.box [AV.gv _ _])=some (Res.box [AV.gv _ _]);simp[zab,zaa];done)|(rw[hn0 od];show some (Res.box [AV.gv _ _])=some (Res.box [AV.gv _ _]);simp[zab,zaa];done))
 refine evc [] [3,10,16] ?_;apply sq<;>intro h15 h15p h15s<;>(try simp only[Q,xaW,xal] at h15p);refine ixq sl72 Z Z Z (zaS od) Z ?_;refine ev (Walk.alloc (id:=3010) tz74 Z .none Z oe oe oe ?_);refine ev (so ty74 ?_);apply tv;apply sq<;>intro h16 h16p h16s<;>(try simp only[Q,xaW,xal] at h16p);refine Walk.call (cr:=[77]) zhd hcl Z .none Z Z (LeL.refl _) I Z Z Z (ev (si [0] [_] sl37 tz3 ?_));refine ap sl37 zz3 Z Z Z (by first|(intro x hx;simp at hx;subst hx;rfl)|(intro x hx;obtain⟨y,_,rfl⟩:=List.mem_map.1 hx;rfl)) oo ?_;refine ev (xaI 901 0 7 5 Z Z Z Z ?_);refine xaI 902 0 9 6 Z Z Z Z ?_;refine evc [] [] (xbv [5,6] [7,9] zev (hcall i od _ (by first|(rw[hpn i od];done)|(rw[hp4 i od];simp[zaH];done))) Z .none Z Z (.cons (.refl _) (.cons (.gl _ _) (.cons (.refl _) (.cons (.refl _) .nil)))) ⟨Z,Z,Z,Z,I⟩ Z oe ?_);apply tv;refine ar (xaj (i+1) ⟨od,od,sx ⟨⟨_,Z,xaQ ?_⟩,I⟩ ⟨?_,⟨zac ?_,⟨?_,⟨zac ?_,⟨?_,⟨?_,I⟩⟩⟩⟩⟩⟩⟩);focus (first|rfl|omega|(rw[ho3 od];simp[zaa];done)|(rw[ho4 od];simp[zaa];done)|(rw[ho0 od od];simp[zaa];done)|(rw[hn1 od];simp[zab];done)|(rw[hn0 od];simp[zab];done)|(simp;omega))
 focus (first|rfl|(rw[ho3 od];show some (Res.box [AV.gv _ _])=some (Res.box [AV.gv _ _]);simp[zab,zaa];done)|(rw[ho4 od];show some (Res.box [AV.gv _ _])=some (Res.box [AV.gv _ _]);simp[zab,zaa];done)|(rw[ho0 od od];show some (Res.box [AV.gv _ _])=some (Res.box [AV.gv _ _]);simp[zab,zaa];done)|(rw[hn1 od];show some (Res.box [AV.gv _ _])=some (Res.box [AV.gv _ _]);simp[zab,zaa];done)|(rw[hn0 od];show some (Res.box [AV.gv _ _])=some (Res.box [AV.gv _ _]);simp[zab,zaa];done))
 focus (first|rfl|omega|(rw[ho3 od];simp[zaa];done)|(rw[ho4 od];simp[zaa];done)|(rw[ho0 od od];simp[zaa];done)|(rw[hn1 od];simp[zab];done)|(rw[hn0 od];simp[zab];done)|(simp;omega))
 focus (first|rfl|(rw[ho3 od];show some (Res.box [AV.gv _ _])=some (Res.box [AV.gv _ _]);simp[zab,zaa];done)|(rw[ho4 od];show some (Res.box [AV.gv _ _])=some (Res.box [AV.gv _ _]);simp[zab,zaa];done)|(rw[ho0 od od];show some (Res.box [AV.gv _ _])=some (Res.box [AV.gv _ _]);simp[zab,zaa];done)|(rw[hn1 od];show some (Res.box [AV.gv _ _])=some (Res.box [AV.gv _ _]);simp[zab,zaa];done)|(rw[hn0 od];show some (Res.box [AV.gv _ _])=some (Res.box [AV.gv _ _]);simp[zab,zaa];done))
 focus (first|rfl|omega|(rw[ho3 od];simp[zaa];done)|(rw[ho4 od];simp[zaa];done)|(rw[ho0 od od];simp[zaa];done)|(rw[hn1 od];simp[zab];done)|(rw[hn0 od];simp[zab];done)|(simp;omega))
 iterate 2 focus (first|rfl|(rw[ho3 od];show some (Res.box [AV.gv _ _])=some (Res.box [AV.gv _ _]);simp[zab,zaa];done)|(rw[ho4 od];show some (Res.box [AV.gv _ _])=some (Res.box [AV.gv _ _]);simp[zab,zaa];done)|(rw[ho0 od od];show some (Res.box [AV.gv _ _])=some (Res.box [AV.gv _ _]);simp[zab,zaa];done)|(rw[hn1 od];show some (Res.box [AV.gv _ _])=some (Res.box [AV.gv _ _]);simp[zab,zaa];done)|(rw[hn0 od];show some (Res.box [AV.gv _ _])=some (Res.box [AV.gv _ _]);simp[zab,zaa];done))
 refine xaI 901 0 7 5 Z Z Z Z ?_;refine xaI 902 0 9 6 Z Z Z Z ?_;refine evc [] [] (xbv [5,6] [7,9] zev (hcall i od _ (by first|(rw[hpn i od];done)|(rw[hp4 i od];simp[zaH];done))) Z .none Z Z (LeL.refl _) ⟨Z,Z,Z,Z,I⟩ Z oe ?_);apply tv;refine ar (xaj (i+1) ⟨od,od,sx ⟨⟨_,Z,xaQ ?_⟩,I⟩ ⟨?_,⟨zac ?_,⟨?_,⟨zac ?_,⟨?_,⟨?_,I⟩⟩⟩⟩⟩⟩⟩);focus (first|rfl|omega|(rw[ho3 od];simp[zaa];done)|(rw[ho4 od];simp[zaa];done)|(rw[ho0 od od];simp[zaa];done)|(rw[hn1 od];simp[zab];done)|(rw[hn0 od];simp[zab];done)|(simp;omega))
 focus (first|rfl|(rw[ho3 od];show some (Res.box [AV.gv _ _])=some (Res.box [AV.gv _ _]);simp[zab,zaa];done)|(rw[ho4 od];show some (Res.box [AV.gv _ _])=some (Res.box [AV.gv _ _]);simp[zab,zaa];done)|(rw[ho0 od od];show some (Res.box [AV.gv _ _])=some (Res.box [AV.gv _ _]);simp[zab,zaa];done)|(rw[hn1 od];show some (Res.box [AV.gv _ _])=some (Res.box [AV.gv _ _]);simp[zab,zaa];done)|(rw[hn0 od];show some (Res.box [AV.gv _ _])=some (Res.box [AV.gv _ _]);simp[zab,zaa];done))
 focus (first|rfl|omega|(rw[ho3 od];simp[zaa];done)|(rw[ho4 od];simp[zaa];done)|(rw[ho0 od od];simp[zaa];done)|(rw[hn1 od];simp[zab];done)|(rw[hn0 od];simp[zab];done)|(simp;omega))
 focus (first|rfl|(rw[ho3 od];show some (Res.box [AV.gv _ _])=some (Res.box [AV.gv _ _]);simp[zab,zaa];done)|(rw[ho4 od];show some (Res.box [AV.gv _ _])=some (Res.box [AV.gv _ _]);simp[zab,zaa];done)|(rw[ho0 od od];show some (Res.box [AV.gv _ _])=some (Res.box [AV.gv _ _]);simp[zab,zaa];done)|(rw[hn1 od];show some (Res.box [AV.gv _ _])=some (Res.box [AV.gv _ _]);simp[zab,zaa];done)|(rw[hn0 od];show some (Res.box [AV.gv _ _])=some (Res.box [AV.gv _ _]);simp[zab,zaa];done))
 focus (first|rfl|omega|(rw[ho3 od];simp[zaa];done)|(rw[ho4 od];simp[zaa];done)|(rw[ho0 od od];simp[zaa];done)|(rw[hn1 od];simp[zab];done)|(rw[hn0 od];simp[zab];done)|(simp;omega))
 iterate 2 focus (first|rfl|(rw[ho3 od];show some (Res.box [AV.gv _ _])=some (Res.box [AV.gv _ _]);simp[zab,zaa];done)|(rw[ho4 od];show some (Res.box [AV.gv _ _])=some (Res.box [AV.gv _ _]);simp[zab,zaa];done)|(rw[ho0 od od];show some (Res.box [AV.gv _ _])=some (Res.box [AV.gv _ _]);simp[zab,zaa];done)|(rw[hn1 od];show some (Res.box [AV.gv _ _])=some (Res.box [AV.gv _ _]);simp[zab,zaa];done)|(rw[hn0 od];show some (Res.box [AV.gv _ _])=some (Res.box [AV.gv _ _]);simp[zab,zaa];done))
 refine rn [(901,some (.box [.gv 7 ((xs++(stO p path++zaa (tstI n) p path p.kids.length)).map Stp.c)])),(7,some (.tok ((xs++(stO p path++zaa (tstI n) p path p.kids.length)).map Stp.c).length 8)),(902,some (.box [.gv 9 ((ys++(nmB p path++zab (zar n) p path p.kids.length)).map Pb.c)])),(9,some (.tok ((ys++(nmB p path++zab (zar n) p path p.kids.length)).map Pb.c).length 2)),(5,none),(6,none)] .nil (.refl _) ⟨Z,Z⟩ (SubO.get ⟨.inr ?_,⟨.inr ?_,⟨.inr ?_,⟨.inr ?_,⟨.inr ?_,⟨.inr ?_,⟨.inl Z,⟨.inl Z,⟨.inl Z,⟨.inl Z,I⟩⟩⟩⟩⟩⟩⟩⟩⟩⟩) (zaX Z);rotate_left 6;all_goals (first|((rfl);done)|(first|rfl|(rw[show i=p.kids.length by omega,<-xar,<-xar];rfl)))
theorem zh7:∀(n:Nat){p:Pat}{xs:List Stp}{ys:List Pb}{path:List Int},p.size<=n->p.ok->path.length+n<=1000000->xs.length+p.size<=1000000000000->ys.length+p.size<=1000000000000->
   FnD Tryz.prog 97 [.agg [.d (.i p.op),.d (.i p.ctor),.d (.i p.n),.d (.i p.m),.d (.i p.var),.d (zau p.kids)],.d (zaH path),.ref 901 0,.ref 902 0] (tsIn xs ys) (.tup []) (zlq (xs++tstI n p path) (ys++zar n p path))
 |0,p,xs,ys,path,h,_,_,_,_=>by rw[xaZ] at h;omega
 |n+1,p,xs,ys,path,h,hok,hp,hb,hb2=>zkR (fun {p xs ys path} a1 a2 a3 a4 a5=>zh7 n a1 a2 a3 a4 a5) h hok hp hb hb2
theorem zmC {w:List Data}{t:Ty}{l:List Cl} (h:zaU w t l=false):zbI w t l=([],false):=by unfold zbI;rw[if_neg (by rw[h];simp)]
theorem zow {w:List Data}{t:Ty}{l:List Cl}{i:Nat} (hi:i<l.length) (h:40<(zae (nth l i).pat).length):zbI w t l=([],false):=
 if_neg (fun q=>by
  have:=List.all_eq_true.1 q.2 _ (zai hi);have:=xas this;omega)
theorem zpG {w:List Data}{t:Ty}{l:List Cl} (h:zaU w t l=true) (h2:∀i,i<l.length->(zae (nth l i).pat).length<=40):zbI w t l=(za7 l,true):=
 if_pos ⟨h,List.all_eq_true.2 (fun c hc=>by
  obtain⟨i,hi,rfl⟩:=List.getElem_of_mem hc;have:=h2 i hi;rw[zaD hi] at this;exact xax this)⟩
theorem zn9 {w:List Data}{t:Ty}{l:List Cl} (h:(zbI w t l).2=true):zaU w t l=true/\(zbI w t l).1=za7 l:=by
 unfold zbI at h ⊢;split at h
 ·rename_i q;rw[if_pos q];exact⟨q.1,rfl⟩
 ·cases h
theorem zhV {w:List Data} (hs:WSmall w){a k:Int}{l:List Cl} (hok:ClsOk l) (hsz:ClsSz l):
  FnD Tryz.prog 41 [.d (zap w),.agg [.d (.i a),.d (.i k)],.d (zbD l)] [] (.tup [.d (zeZ (zbI w ⟨a,k⟩ l).1),.d (.bool (zbI w ⟨a,k⟩ l).2)]) []:=by
 have hcv:=zhU hs (a:=a) (k:=k) hok hsz;have hll:=hok.1;cases hv:zaU w ⟨a,k⟩ l with
 |false=>
  rw[hv] at hcv;rw[zmC hv];refine bd Tryz.f41 32 [] [] fun _ _ _ _ hk=>?_;refine bx 3004 ?_;refine ev (wc zrO hcv Z Z ?_);refine ev ?_;apply sq<;>intro h1 h1p h1s<;>(try simp only[Q] at h1p);refine xbW sl96 .none Z (ev ?_);focus (refine rn0 (r2 Z Z) (.tup (qee ?_ ?_));all_goals (first|rfl|(simp[h1s,h1p];done)|(simp_all;done)|(simp_all;omega)|omega))
  exfalso;exact absurd h1 oj
 |true=>
  rw[hv] at hcv;have hpo:=zfi hv hok;have hsp:=fun(i:Nat) (hi:i<l.length)=>(hpo.bin _ (zai hi)).1.elim fun n hn=>xaL (zcF n hn (hpo.bin _ (zai hi)).2);have hco:=xaL (zjG (m:=60) od hpo);have hmany:=fun(i:Nat) (hi:i<l.length) h=>zow (w:=w) (t:=⟨a,k⟩) hi h;have hyes:=zpG (w:=w) (t:=⟨a,k⟩) hv;generalize zbI w ⟨a,k⟩ l=R at *;refine bd Tryz.f41 32 [] [] fun _ _ _ _ hk=>?_;refine bx 3004 ?_;refine ev (wc zrO hcv Z Z ?_);refine ev ?_;apply sq<;>intro h1 h1p h1s<;>(try simp only[Q,xaW,xac] at h1p);exfalso;exact absurd h1 oj;refine xaD (ι:=Nat) hk (fun i=>[(8,.d (.i (i:Int)))]) [6,7,15,16,17,18,19,20,21,22,23,24,25,26,27,28,29] (fun i=>[]) (fun i=>i<=l.length/\∀i',i'<i->(zae (nth l i').pat).length<=40) (fun i=>l.length-i) 0 ⟨by omega,fun _ h=>absurd h od⟩ ⟨⟨_,Z,xaQ ?_⟩,I⟩ I (fun x=>rfl) (fun i hg1=>?_);focus (first|rfl|(simp;done)|(simp_all;done)|omega)
  refine evc [] [] ?_;apply sq<;>intro h2 h2p h2s<;>(try simp only[Q,xaW,xac] at h2p);refine ixq sl32 Z Z Z (zao od) Z ?_;refine ev (wc zhw (hsp i od) Z Z ?_);refine ev ?_;apply sq<;>intro h3 h3p h3s<;>(try simp only[Q,xaW,xac] at h3p);refine xbW sl96 .none Z (ev (rn0 (r2 Z Z) (.tup (qee ?_ ?_))));rotate_left 2;refine ar (xaj (i+1) ⟨⟨by omega,zaR hg1.2 od⟩,od,sx ⟨⟨_,Z,xaQ ?_⟩,I⟩ I⟩);focus (first|rfl|(simp;done)|(simp_all;done)|omega)
  refine wc ztS hco Z Z ?_;refine ev (rn0 (r2 Z Z) (.tup (qee ?_ ?_)));rotate_left 2;all_goals (first|(rw[hmany i od od];all_goals rfl)|(rw[hyes (fun i' h'=>hg1.2 i' od)];all_goals rfl))
theorem zhO {l:List Cl}{code:List Stp}{v:Val}:∀(n at_:Nat) (ps:List (List Int)) (r:Int×List Bd×List (List Int)),runS l code v n at_ ps=some r->r.2.2.length<=ps.length+n
 |0,at_,ps,r,h=>by simp[runS] at h
 |n+1,at_,ps,r,h=>by
  by_cases h3:(nth code at_).op=3
  ·rw[zld h3] at h;cases h;simp
  by_cases h2:(nth code at_).op=2
  ·cases hg:zb7 (nth l (nth code at_).cl.toNat).g (zbm (nth code at_).binds v) with
   |true=>rw[zjs h2 hg] at h;cases h;simp
   |false=>rw[zl2 h2 hg] at h;have:=zhO n _ _ _ h;omega
  ·cases hp:zbA (nth code at_).ctor (nth code at_).n (nth code at_).m (atV (nth code at_).path v) with
   |true=>rw[zl0 h3 h2 hp] at h;have:=zhO n _ _ _ h;simp at this;omega
   |false=>rw[zl1 h3 h2 hp] at h;have:=zhO n _ _ _ h;simp at this;omega
theorem zoh {pre:List Val}{x:Val}{rest xs:List Val} (h:pre++x::rest=xs):(Val.cs xs)[pre.length]?=some x.cc:=by rw[xbf,<-xbc];exact zaL h
abbrev runR (l:List Cl) (v:Val):Int×List Bd×List (List Int):=(runS l (za7 l) v (za7 l).length 0 []).getD (0,[],[])
theorem ziu {w:List Data}{a k:Int}{l:List Cl} (h:zaU w ⟨a,k⟩ l=true) (hok:ClsOk l):(za7 l).length<=1000000:=by
 have hpo:=zfi h hok;have h1:=zgE hpo l.length (Nat.le_refl _);have h2:=(zhe h).2;have h3:l.length*(401*(60+1))<=8*(401*(60+1)):=xav _ h2;unfold za7;rw[xaa];simp;omega
structure RunV (l:List Cl) (v:Val):Prop where
 ok:zaT l (za7 l) v (za7 l).length 0
 val:runS l (za7 l) v (za7 l).length 0 []=some (runR l v)
 len:(runR l v).2.2.length<=1000000
 vok:v.ok
theorem zo4:∀(n:Nat) (v:Val),v.size<=n->v.size<=1000000000000->v.ok
 |0,v,h,_=>by have:=xbi v;omega
 |n+1,v,h,hb=>by
  have hs:=xbi v;have hl:∀l:List Val,l.length<=Vals.size l:=by
   intro l;induction l with
   |nil=>simp[Vals.size]
   |cons x r ih=>have:=xbi x;simp only[xab,Vals.size];omega
  have hof:∀l:List Val,(∀k∈l,k.ok)->Vals.ok l:=by
   intro l;induction l with
   |nil=>intro _;trivial
   |cons x r ih=>intro q;exact⟨q x og,ih (fun e he=>q e (by simp[he]))⟩
  rw[xbh];refine⟨by have:=hl v.kids;omega,hof _ (fun k hk=>?_)⟩;have:=xbl hk;exact zo4 n k od od
theorem zoV {w:List Data} (hs:WSmall w){a k m:Int}{l:List Cl} (hv:zaU w ⟨a,k⟩ l=true) (hok:ClsOk l) (hm:(vut w ⟨a,k⟩ m).2=true):∀v∈(vut w ⟨a,k⟩ m).1,RunV l v:=fun v hvm=>by
 have h1:=zhe hv;have htf:=zgA h1.1;have hsp:=zrI hs htf.1;have hin:InS (w.length*4) ⟨a,k⟩:=by
  by_cases ha:a = -1
  ·exact .inl ha
  ·obtain⟨q1,q2,q3,q4⟩:=htf.2.2 ha;have:=ztj (n:=w.length) (d:=a.toNat) (j:=k.toNat) q2 od;rwa [Int.toNat_of_nonneg q1,Int.toNat_of_nonneg q3] at this
 have hm4:m<=4:=by
  by_cases h:m<=4
  ·exact h
  ·rw[zqZ (.inr (.inr od))] at hm;cases hm
 have hvv:=zss hsp hin hm4 hvm;have hc:=zsj (l:=l) hvv.2 (zir hv);obtain⟨r,hr⟩:=zf4 _ _ [] hc;have hR:runS l (za7 l) v (za7 l).length 0 []=some (runR l v):=by unfold runR;rw[hr];rfl
 have hl:=ziu hv hok;have hlen:=zhO _ _ _ _ hR;have hsz:=hvv.1;unfold isV at hsz;simp only[xad,xah] at hsz;exact⟨hc,hR,by simp at hlen;omega,zo4 _ v (Nat.le_refl _) od⟩
def zfV (w:List Data) (t:Ty) (l:List Cl) (m:Int):Int×Bool:=if (zbI w t l).2=true/\(vut w t m).2=true then (zcA l (vut w t m).1,true) else (0,false)
theorem zhz {w:List Data}{t:Ty}{l:List Cl}{m:Int} (h:(zbI w t l).2=false\/(vut w t m).2=false):zfV w t l m=(0,false):=by
 unfold zfV;rw[if_neg (by intro q;rcases h with h|h<;>simp[h] at q)]
theorem zmj {w:List Data}{t:Ty}{l:List Cl}{m:Int} (h:(zbI w t l).2=true) (h2:(vut w t m).2=true):zfV w t l m=(zcA l (vut w t m).1,true):=by
 unfold zfV;rw[if_pos ⟨h,h2⟩]
theorem zjE {w:List Data} (hs:WSmall w){a k m:Int}{l:List Cl} (hok:ClsOk l) (hsz:ClsSz l):
  FnD Tryz.prog 13 [.d (zap w),.agg [.d (.i a),.d (.i k)],.d (zbD l),.d (.i m)] [] (.tup [.d (.i (zfV w ⟨a,k⟩ l m).1),.d (.bool (zfV w ⟨a,k⟩ l m).2)]) []:=by
 have hco:=zhV hs (a:=a) (k:=k) hok hsz;have hva:=zi9 hs (a:=a) (k:=k) (m:=m);cases h1:(zbI w ⟨a,k⟩ l).2 with
 |false=>
  rw[h1] at hco;rw[zhz (.inl h1)];generalize (zbI w ⟨a,k⟩ l).1=c1 at *;generalize vut w ⟨a,k⟩ m=z at *;refine bd Tryz.f13 61 [] [] fun _ _ _ _ hk=>?_;refine bx 3005 ?_;refine ev (wc zpc hco Z Z ?_);refine ev (wc zpd hva Z Z ?_);refine ev ?_;apply sq<;>intro h1 h1p h1s<;>(try simp only[Q] at h1p);refine sqT ?_;focus (refine rn0 (r2 Z Z) (.tup (qee ?_ ?_));all_goals (first|rfl|(simp[h1s,h1p];done)|(simp_all;done)|(simp_all;omega)|omega))
  apply sq<;>intro h3 h3p h3s<;>(try simp only[Q] at h3p);focus (refine rn0 (r2 Z Z) (.tup (qee ?_ ?_));all_goals (first|rfl|(simp[h1s,h1p,h3s,h3p];done)|(simp_all;done)|(simp_all;omega)|omega))
  exfalso;simp_all
 |true=>
  rw[h1] at hco;obtain⟨hv,hc⟩:=zn9 h1;rw[hc] at hco;cases h2:(vut w ⟨a,k⟩ m).2 with
  |false=>
   rw[h2] at hva;rw[zhz (.inr h2)];generalize (vut w ⟨a,k⟩ m).1=z at *;refine bd Tryz.f13 61 [] [] fun _ _ _ _ hk=>?_;refine bx 3005 ?_;refine ev (wc zpc hco Z Z ?_);refine ev (wc zpd hva Z Z ?_);refine ev ?_;apply sq<;>intro h1 h1p h1s<;>(try simp only[Q] at h1p);refine sqT ?_;focus (refine rn0 (r2 Z Z) (.tup (qee ?_ ?_));all_goals (first|rfl|(simp[h1s,h1p];done)|(simp_all;done)|(simp_all;omega)|omega))
   apply sq<;>intro h3 h3p h3s<;>(try simp only[Q] at h3p);focus (refine rn0 (r2 Z Z) (.tup (qee ?_ ?_));all_goals (first|rfl|(simp[h1s,h1p,h3s,h3p];done)|(simp_all;done)|(simp_all;omega)|omega))
   exfalso;simp_all
  |true=>
   rw[h2] at hva;rw[zmj h1 h2];have hrv:=zoV hs hv hok h2;have hvl:(vut w ⟨a,k⟩ m).1.length<=400:=zo5 _ _ _;have hl8:=(zhe hv).2;have hcl:=ziu hv hok;have hrun:=fun(v:Val) (h:RunV l v)=>zmV (l:=l) (code:=za7 l) (v:=v) od hcl h.vok (n:=(za7 l).length) od h.ok h.val;generalize (vut w ⟨a,k⟩ m).1=vs at *;clear h1 h2 hc;refine bd Tryz.f13 61 [] [] fun _ _ _ _ hk=>?_;refine bx 3005 ?_;refine ev (wc zpc hco Z Z ?_);refine ev (wc zpd hva Z Z ?_);refine ev ?_;apply sq<;>intro h1 h1p h1s<;>(try simp only[Q,xbg,xac] at h1p);refine sqT ?_;exfalso;simp_all;apply sq<;>intro h3 h3p h3s<;>(try simp only[Q,xbg,xac] at h3p);exfalso;simp_all;refine xaD (ι:=List (Val)×List (Val)×(Int)) hk (fun x=>[(15,.d (.i (x.1.length:Int))),(14,.d (.i x.2.2))]) [16,17,18,39,40,41,42,43,44,45,46,47,48,49,50,51,52,53,54,55,56,57,58,59] (fun x=>[]) (fun x=>x.1++x.2.1=vs/\x.2.2+zcA l x.2.1=zcA l vs/\(0<=x.2.2/\x.2.2<=x.1.length*1000000)) (fun x=>x.2.1.length) ([],vs,(0:Int)) ⟨by simp,by simp,by simp⟩ ⟨⟨_,Z,xaQ ?_⟩,⟨⟨_,Z,xaQ ?_⟩,I⟩⟩ I (fun x=>rfl) (fun x hg1=>?_);iterate 2 focus (first|rfl|omega|(simp;done))
   obtain⟨pre,rest,acc⟩:=x;dsimp only at hg1 ⊢;refine evc [] [] ?_;apply sq<;>intro h4 h4p h4s<;>(try simp only[Q,xbg,xac] at h4p);rcases rest with _|⟨y,rest⟩
   ·exfalso;simp_all
   refine ixq sl99 Z Z Z (zoh hg1.1) Z (ev (wc ztA (hrun y (hrv y (by rw[<-hg1.1];simp))) Z Z ?_));refine ev (ar ?_ (by have hy:=(hrv y (by rw[<-hg1.1];simp)).len;have hle:=xam List.length hg1.1;have h9:=hg1.2.2;simp only[xaa,xab] at hle;first|(constructor<;>simp<;>omega)|(constructor<;>omega)));refine ar ?_ (by have hy:=(hrv y (by rw[<-hg1.1];simp)).len;have hle:=xam List.length hg1.1;have h9:=hg1.2.2;simp only[xaa,xab] at hle;first|(constructor<;>simp<;>omega)|(constructor<;>omega));refine xaj ((pre++[y],rest,(acc+((runR l y).2.2.length:Int)))) ⟨⟨(by have hz:=hg1.1;rw[<-hz];simp),⟨by have h9:=hg1.2.1;rw[show zcA l (y::rest)=((runR l y).2.2.length:Int)+zcA l rest from rfl] at h9;show(acc+((runR l y).2.2.length:Int))+zcA l rest=zcA l vs;omega,by have hy:=(hrv y (by rw[<-hg1.1];simp)).len;have h9:=hg1.2.2;simp only[xaa,xab,xak];omega⟩⟩,og,sx ⟨⟨_,Z,xaQ ?_⟩,⟨⟨_,Z,xaQ ?_⟩,I⟩⟩ I⟩;iterate 2 focus (first|rfl|omega|(simp;done))
   have hrest:rest=[]:=by
    rcases rest with _|⟨a,b⟩
    ·rfl
    ·exfalso;have hz:=xam List.length (hg1.1);simp only[xaa,xab,xac] at hz;omega
   subst hrest;refine rn0 (r2 Z Z) (.tup (qee ?_ ?_));rotate_left 2;all_goals (first|rfl|(rw[<-hg1.2.1];simp[zcA];done))
theorem zkP {ctor n m:Int}{v:Val}:FnD Tryz.prog 104 [.d (.i ctor),.d (.i n),.d (.i m),.agg [.d (.i v.ctor),.d (.i v.num),.d (zbg v.kids)]] [] (.d (.bool (zbA ctor n m v))) []:=by
 refine bd Tryz.f104 24 [] [] fun _ _ _ _ hk=>?_;refine bx 3007 ?_;refine ev ?_;apply sq<;>intro h1 h1p h1s<;>(try simp only[Q,zat] at h1p);apply sq<;>intro h2 h2p h2s<;>(try simp only[Q,zat] at h2p);refine rq ?_;rotate_left;refine Walk.call (cr:=[]) zd4 zba Z (.some Z Z h2) Z Z (LeL.refl _) I Z Z Z (evs [] [(13,true),(16,false)] ?_ ⟨⟨_,Z,h1⟩,⟨_,Z,h2⟩,I⟩);refine rq ?_;rotate_left;refine rq ?_;rotate_left;all_goals (refine xam D.bool ?_;unfold zbA;first|(simp_all;done)|(simp_all[zat];done)|(simp_all[zat];omega)|(rw[xat];simp_all[zat];omega))
theorem ziI {l:List Int}{v:Val} (hl:l.length<=1000000) (h:zby l v):
  FnD Tryz.prog 105 [.agg [.d (.i v.ctor),.d (.i v.num),.d (zbg v.kids)],.d (zaH l)] [] (.agg [.d (.i (atV l v).ctor),.d (.i (atV l v).num),.d (zbg (atV l v).kids)]) []:=by
 have hin:=fun k=>ziX l v k h;have hnx:=fun k=>zjV l v k;refine bd Tryz.f105 20 [] [] fun _ _ _ _ hk=>?_;refine bx 3002 ?_;refine ab 3004 zbM ?_;apply tv;refine xaD (ι:=Nat) hk (fun k=>[(9,.d (.i (k:Int)))]) [6,10,11,12,13,14,15,16,17,18] (fun k=>[(3002,some (.box [.d (.i (atV (l.take k) v).ctor),.d (.i (atV (l.take k) v).num),.d (zbg (atV (l.take k) v).kids)]))]) (fun k=>k<=l.length) (fun k=>l.length-k) 0 od ⟨⟨_,Z,xaQ ?_⟩,I⟩ ⟨?_,I⟩ (fun x=>rfl) (fun k hg1=>?_);focus (first|rfl|omega)
 focus (first|rfl|(rw[hnx k od];rfl))
 refine evc [] [] ?_;apply sq<;>intro h1 h1p h1s<;>(try simp only[Q,xal,xac] at h1p);refine ixq sl37 Z Z Z (zao od) Z ?_;refine ev (ixq (i:=(nth l k).toNat) sl99 Z Z (by have:=hin k od;omega) (zmb (hin k od).2) Z ?_);refine ev (so zb6 ?_);apply tv;refine ar (xaj (k+1) ⟨od,od,sx ⟨⟨_,Z,xaQ ?_⟩,I⟩ ⟨?_,I⟩⟩);focus (first|rfl|omega)
 focus (first|rfl|(rw[hnx k od];rfl))
 refine so zb6 ?_;apply tv;refine rn0 (ra zb6) (.agg (qeee ?_ ?_ ?_));rotate_left 3;all_goals (rw[show k=l.length by omega,List.take_length])
theorem zmO {l:List Pb}{v:Val} (hl:l.length<=1000000) (hp:∀x∈l,x.path.length<=1000000/\zby x.path v) (hok:v.ok):
  FnD Tryz.prog 106 [.d (zcB l),.agg [.d (.i v.ctor),.d (.i v.num),.d (zbg v.kids)]] [] (.d (zgl (zbm l v))) []:=by
 refine bd Tryz.f106 27 [5] [] fun _ _ _ _ hk=>?_;refine bx 3003 ?_;refine evs [5] [] (xbs 1 4 .none Z Z ?_);apply tv;refine xaD (ι:=List (Pb)×List (Pb)) hk (fun x=>[(10,.d (.i (x.1.length:Int))),(5,.gl 1 ((zbm x.1 v).map Bd.c))]) [7,11,12,13,14,15,16,17,18,19,20,21,22,23,24,25] (fun x=>[(1,some (.tok (((zbm x.1 v).map Bd.c)).length 4))]) (fun x=>x.1++x.2=l) (fun x=>x.2.length) ([],l) og ⟨⟨_,Z,xaQ ?_⟩,⟨⟨_,Z,LeA.glg ?_⟩,I⟩⟩ ⟨zac ?_,I⟩ (fun x=>rfl) (fun x hg1=>?_);iterate 3 focus (first|rfl|(simp[zbm];done)|(simp[zbm,Bd.c];done)|(simp;omega))
 obtain⟨pre,rest⟩:=x;dsimp only at hg1 ⊢;refine evc [5] [] ?_;apply sq<;>intro h1 h1p h1s<;>(try simp only[Q] at h1p);rcases rest with _|⟨y,rest⟩
 ·exfalso;simp_all
 refine ixq zcd Z Z Z (zaL hg1) Z (evs [5] [] (ab 3007 zlu ?_));refine so zh0 ?_;apply tv;refine wc zpT (ziI (l:=y.path) (v:=v) (hp y (by rw[<-hg1];simp)).1 (hp y (by rw[<-hg1];simp)).2) Z Z ?_;refine wc znj (zeg _ (Nat.le_refl _) (znc y.path v (hp y (by rw[<-hg1];simp)).2 hok)) Z Z ?_;refine bu [0,1] [_,_] zr2 ?_;refine si [0] [_] zeb zr8 ?_;refine Walk.append zeb zsa Z .none Z Z Z Z (zbG Z oq) ou (by have hz:=xam List.length hg1;simp[zbm] at hz ⊢;omega) (by have hz:=xam List.length hg1;simp[zbm] at hz ⊢;omega) ?_;refine asg ?_;refine dr (ar (xaj ((pre++[y],rest)) ⟨(by have hz:=hg1;rw[<-hz];simp),og,sx ⟨⟨_,Z,xaQ ?_⟩,⟨⟨_,Z,LeA.glg ?_⟩,I⟩⟩ ⟨zac ?_,I⟩⟩));iterate 3 focus (first|rfl|(simp[zbm];done)|(simp[zbm,Bd.c];done)|(simp;omega))
 have hrest:rest=[]:=by
  rcases rest with _|⟨a,b⟩
  ·rfl
  ·exfalso;have hz:=xam List.length (hg1);simp only[xaa,xab,xac] at hz;omega
 subst hrest;refine rn0 (r1 Z) (.gld ?_);rotate_left;all_goals (first|rfl|(rw[xaq] at hg1;rw[hg1];all_goals rfl))
def zeQ (l:List Cl):List (List Pat)×Bool:=if fewS l=true then (l.map fun c=>zaE c.pat,true) else ([],false)
theorem zqQ {l:List Cl}{i:Nat} (hi:i<l.length) (h:40<(zae (nth l i).pat).length):zeQ l=([],false):=
 if_neg (fun q=>by
  have:=List.all_eq_true.1 q _ (zai hi);have:=xas this;omega)
theorem zpE {l:List Cl} (h:∀i,i<l.length->(zae (nth l i).pat).length<=40):zeQ l=(l.map fun c=>zaE c.pat,true):=
 if_pos (List.all_eq_true.2 (fun c hc=>by
  obtain⟨i,hi,rfl⟩:=List.getElem_of_mem hc;have:=h i hi;rw[zaD hi] at this;exact xax this))
theorem zoF {n:Nat}{p:Pat} (h:binP n p=true):(cntS p<=40↔(zae p).length<=40)/\((zae p).length<=40->zae p=zaE p/\(zaE p).length<=40):=by
 have h1:=(zit n h).1;have h2:(zae p).length=min 401 (zaE p).length:=by unfold zae;rw[List.length_take]
 unfold cap at h1;refine⟨?_,fun h3=>?_⟩
 ·constructor
  ·intro h3;split at h1<;>omega
  ·intro h3;split at h1<;>omega
 ·have:(zaE p).length<=40:=by omega
  exact⟨by unfold zae;exact List.take_of_length_le od,this⟩
theorem zeC {l:List Cl} (hl:l.length<=1000) (h:∀c∈l,(∃n,binP n c.pat=true)/\c.pat.ok):
  FnD Tryz.prog 96 [.d (zbD l)] [] (.tup [.d (zgm (zeQ l).1),.d (.bool (zeQ l).2)]) []:=by
 have hb:=fun(i:Nat) (hi:i<l.length)=>(h _ (zai hi)).1.elim fun n hn=>zoF hn;have hcs:=fun(i:Nat) (hi:i<l.length)=>zdx _ (p:=(nth l i).pat) (Nat.le_refl _) (h _ (zai hi)).2;have hsp:=fun(i:Nat) (hi:i<l.length) (h3:(zae (nth l i).pat).length<=40)=>(h _ (zai hi)).1.elim fun n hn=>FnD.glD (zd9 n (p:=(nth l i).pat) hn (h _ (zai hi)).2 ((hb i hi).2 h3).2);have hno:=fun(i:Nat) (hi:i<l.length) h=>zqQ (l:=l) hi h;have hyes:=zpE (l:=l);generalize zeQ l=R at *;refine bd Tryz.f96 25 [4] [] fun _ _ _ _ hk=>?_;refine xbs 1 1 .none Z Z ?_;apply tv;refine xaD (ι:=Nat) hk (fun i=>[(9,.d (.i (i:Int))),(4,.gl 1 (((l.take i).map fun c=>zaE c.pat).map zd6))]) [2,3,6,10,11,12,13,14,15,16,17,18,19,20,21,22,23] (fun i=>[(1,some (.tok ((((l.take i).map fun c=>zaE c.pat).map zd6)).length 1))]) (fun i=>i<=l.length/\∀i',i'<i->(zae (nth l i').pat).length<=40) (fun i=>l.length-i) 0 ⟨by omega,fun _ h=>absurd h od⟩ ⟨⟨_,Z,xaQ ?_⟩,⟨⟨_,Z,LeA.glg ?_⟩,I⟩⟩ ⟨zac ?_,I⟩ (fun x=>rfl) (fun i hg1=>?_);iterate 3 focus (first|rfl|omega|(rw[List.take_succ_eq_append_getElem od,<-zaD od];simp;done)|(simp;omega))
 refine evc [4] [] ?_;apply sq<;>intro h1 h1p h1s<;>(try simp only[Q,xal,xac] at h1p);refine ixq sl32 Z Z Z (zao od) Z ?_;refine evs [4] [] (ab 3006 tz78 ?_);refine so ty78 ?_;apply tv;refine wc znn (hcs i od) Z Z ?_;refine evs [4] [] ?_;apply sq<;>intro h2 h2p h2s<;>(try simp only[Q,xal,xac] at h2p);refine rn0 (r2 Z Z) (.tup (qne ?_ ?_));rotate_left 2;refine wc zku (hsp i od ((hb i od).1.1 od)) Z Z ?_;refine si [0] [_] zdn tz72 ?_;refine ap zdn zz72 Z Z Z ou ot ?_;refine asg ?_;apply tv;refine ar (xaj (i+1) ⟨⟨by omega,zaR hg1.2 ((hb i od).1.1 od)⟩,od,sx ⟨⟨_,Z,xaQ ?_⟩,⟨⟨_,Z,LeA.glg ?_⟩,I⟩⟩ ⟨zac ?_,I⟩⟩);iterate 3 focus (first|rfl|omega|(rw[List.take_succ_eq_append_getElem od,<-zaD od];simp;done)|(simp;omega))
 refine rn0 (r2 Z Z) (.tup (qge ?_ ?_));rotate_left 2;all_goals (first|(rw[hno i od (by have:=(hb i od).1;omega)];all_goals rfl)|(rw[hyes (fun i' h'=>hg1.2 i' od)];all_goals first|rfl|(rw[show i=l.length by omega,List.take_length])))
def zea (l:List Stp):Prop:=∀x∈l,x.op=1\/x.op=2\/x.op=3
theorem zea.pat {c:Nat->Bool}{L:Nat}{l:List Stp} (h:zea l):zea (patL c L l):=fun x hx=>by
 unfold patL at hx;obtain⟨i,hi,rfl⟩:=List.mem_mapIdx.1 hx;have:=h l[i] (xao hi);split
 ·exact this
 ·exact this
theorem zjd:∀(n:Nat) (p:Pat) (path:List Int),zea (zas n p path)
 |0,_,_=>fun x hx=>by simp[zas] at hx
 |n+1,p,path=>by
  have key:∀i,zea (zaV (zas n) p path i):=by
   intro i;induction i with
   |zero=>intro x hx;simp[zaV] at hx
   |succ i ih=>
    intro x hx;rw[zaV] at hx;rcases List.mem_append.1 hx with h|h
    ·exact ih x h
    ·exact zjd n _ _ x h
  rw[zas];split
  ·exact zjd n _ _
  split
  ·intro x hx;rw[List.mem_singleton] at hx;subst hx;exact .inl Z
  split
  ·intro x hx;rcases List.mem_cons.1 hx with rfl|h
   ·exact .inl Z
   ·exact key _ x h
  ·intro x hx;cases hx
theorem znD (i:Nat):∀(ps:List Pat) (out:List Stp),zea out->zea (zbO i out ps)
 | [],_,h=>h
 |p::r,out,h=>by
  unfold zbO;rw[List.foldl_cons];refine znD i r _ (zea.pat (fun x hx=>?_));unfold ownS at hx;rcases List.mem_append.1 hx with hx|hx
  ·rcases List.mem_append.1 hx with hx|hx
   ·exact h x hx
   ·exact zjd _ _ _ x hx
  ·rw[List.mem_singleton] at hx;subst hx;exact .inr (.inl Z)
theorem zmh (l:List Cl):∀i,zea (zam l i)
 |0=>fun x hx=>by cases hx
 |i+1=>by
  rw[zam];exact zea.pat (znD i _ _ (zmh l i))
theorem zqf (l:List Cl):zea (za7 l):=fun x hx=>by
 unfold za7 at hx;rcases List.mem_append.1 hx with hx|hx
 ·exact zmh l _ x hx
 ·rw[List.mem_singleton] at hx;subst hx;exact .inr (.inr Z)
abbrev stA (x:Stp):List AV:=[.d (.i x.op),.d (zaH x.path),.d (.i x.ctor),.d (.i x.n),.d (.i x.m),.d (.i x.cl),.d (zcB x.binds),.d (.i x.to)]
theorem zie {x:Stp}:FnD Tryz.prog 49 ([.agg (stA x)]++[]) [] (.tup []) []:=by
 refine bd Tryz.f49 2 [] [] fun _ _ _ _ hk=>?_;refine bx 3001 ?_;apply tv;refine rn0 .nil (.refl _)
theorem zj6 {l:List Cl}{code:List Stp}{v:Val} (hop:zea code) (hl:l.length<=1000000) (hcd:code.length<=1000000) (hok:v.ok){n:Nat} (hn:n<=1000000) (hr:zaT l code v n 0){r:Int×List Bd×List (List Int)} (hR:runS l code v n 0 []=some r):
  FnD Tryz.prog 48 [.d (zeZ code),.d (zbD l),.agg [.d (.i v.ctor),.d (.i v.num),.d (zbg v.kids)],.fn 49 []] [] (.tup [.d (.i r.1),.d (zgl r.2.1),.d (.i (r.2.2.length:Int))]) []:=by
 have hops:=fun i (h:i<code.length)=>hop _ (zai h);refine bd Tryz.f48 65 [] [3,9,12] fun _ _ _ _ hk=>?_;refine bx 3006 ?_;refine ev (xaD (ι:=Nat×Nat×List (List Int)) hk (fun z=>[(12,.d (.i (z.2.1:Int))),(11,.d (.i (z.2.2.length:Int)))]) [8,9,10,13,14,15,16,17,18,19,20,21,22,23,24,25,26,27,28,29,30,31,32,33,34,35,36,37,38,39,40,41,42,43,44,45,46,47,48,49,50,51,52,53,54,55,56,57,58,59,60,61,62,63,64] (fun z=>[]) (fun z=>zaT l code v z.1 z.2.1/\runS l code v z.1 z.2.1 z.2.2=some r/\z.2.2.length+z.1<=n) (fun z=>z.1) (n,0,[]) ⟨hr,hR,by simp⟩ ⟨⟨_,Z,xaQ ?_⟩,⟨⟨_,Z,xaQ ?_⟩,I⟩⟩ I (fun x=>rfl) (fun z hg1=>?_));iterate 2 focus (first|rfl|(rw[(zct (v:=v) (show(nth code z.2.1).op=2 by omega)).1];have h9:=(ho.2.2.2.2 ol).1;omega)|(rw[(zct (v:=v) (show(nth code z.2.1).op=2 by omega)).2];done)|(rw[(zdZ (show ¬(nth code z.2.1).op=2 by omega) ol).1];omega)|(rw[(zd0 (show ¬(nth code z.2.1).op=2 by omega) ol).1];have h9:=(ht.2.2.2 ol).1;omega)|(rw[zgI (v:=v) (show ¬(nth code z.2.1).op=2 by omega)];simp;done))
 refine evc [] [3,9,12] ?_;obtain⟨m,hm⟩:∃m,z.1=m+1:=(by cases hz:z.1 with|zero=>(have:=hg1.1;rw[hz] at this;exact absurd this (by simp[zaT]))|succ m=>exact⟨m,rfl⟩);have hst:z.2.1<code.length/\_:=(by have:=hg1.1;rw[hm] at this;rw[show m=z.1-1 by omega] at this;simpa only[zaT] using this);have hos:=hops _ hst.1;refine evc [] [] (ixq sl96 Z Z Z (zao (by first|omega|exact ho.2.2.2.1|exact hst.1)) Z ?_);refine ev (ab 3013 zdS ?_);refine so zr5 ?_;apply tv;refine ar ?_;apply sq<;>intro h1 h1p h1s<;>(try simp only[Q,xal,xac] at h1p);refine rn0 (.cons (.tmp Z) (.cons (.tmp Z) (.cons (.tmp Z) .nil))) (.tup (qene ?_ ?_ ?_));rotate_left 3;refine xby (cr:=[]) ztE (zie (x:=nth code z.2.1)) Z .none Z Z Z (LeL.refl _) I Z Z Z ?_;apply tv;apply sq<;>intro h2 h2p h2s<;>(try simp only[Q,xal,xac] at h2p);have ht:(nth code z.2.1).path.length<=1000000/\zby (nth code z.2.1).path v/\(zbA (nth code z.2.1).ctor (nth code z.2.1).n (nth code z.2.1).m (atV (nth code z.2.1).path v)=true->zaT l code v (z.1-1) (z.2.1+1))/\(zbA (nth code z.2.1).ctor (nth code z.2.1).n (nth code z.2.1).m (atV (nth code z.2.1).path v)=false->0<=(nth code z.2.1).to/\zaT l code v (z.1-1) (nth code z.2.1).to.toNat):=(by rcases hst.2 with q|q|q;omega;omega;exact q.2.2);refine evc [] [] (ar (wc zpT (ziI (l:=(nth code z.2.1).path) (v:=v) ht.1 ht.2.1) Z Z ?_));refine wc zsx zkP Z Z ?_;refine evd [] [] (dr ?_);apply sq<;>intro h3 h3p h3s<;>(try simp only[Q,xal,xac] at h3p);refine xaj (goS code v z) ⟨(by first|exact go_2 hm hg1 od ol (ho.2.2.2.2 ol).2|exact zjn hm hg1 od od ol (ht.2.2.1 ol)|exact zjo hm hg1 od od ol (ht.2.2.2 ol).2),(by rw[zfZ];omega),sx ⟨⟨_,Z,xaQ ?_⟩,⟨⟨_,Z,xaQ ?_⟩,I⟩⟩ I⟩;iterate 2 focus (first|rfl|(rw[(zct (v:=v) (show(nth code z.2.1).op=2 by omega)).1];have h9:=(ho.2.2.2.2 ol).1;omega)|(rw[(zct (v:=v) (show(nth code z.2.1).op=2 by omega)).2];done)|(rw[(zdZ (show ¬(nth code z.2.1).op=2 by omega) ol).1];omega)|(rw[(zd0 (show ¬(nth code z.2.1).op=2 by omega) ol).1];have h9:=(ht.2.2.2 ol).1;omega)|(rw[zgI (v:=v) (show ¬(nth code z.2.1).op=2 by omega)];simp;done))
 refine xaj (goS code v z) ⟨(by first|exact go_2 hm hg1 od ol (ho.2.2.2.2 ol).2|exact zjn hm hg1 od od ol (ht.2.2.1 ol)|exact zjo hm hg1 od od ol (ht.2.2.2 ol).2),(by rw[zfZ];omega),sx ⟨⟨_,Z,xaQ ?_⟩,⟨⟨_,Z,xaQ ?_⟩,I⟩⟩ I⟩;iterate 2 focus (first|rfl|(rw[(zct (v:=v) (show(nth code z.2.1).op=2 by omega)).1];have h9:=(ho.2.2.2.2 ol).1;omega)|(rw[(zct (v:=v) (show(nth code z.2.1).op=2 by omega)).2];done)|(rw[(zdZ (show ¬(nth code z.2.1).op=2 by omega) ol).1];omega)|(rw[(zd0 (show ¬(nth code z.2.1).op=2 by omega) ol).1];have h9:=(ht.2.2.2 ol).1;omega)|(rw[zgI (v:=v) (show ¬(nth code z.2.1).op=2 by omega)];simp;done))
 have ho:(nth code z.2.1).binds.length<=1000000/\(∀x∈(nth code z.2.1).binds,x.path.length<=1000000/\zby x.path v)/\0<=(nth code z.2.1).cl/\(nth code z.2.1).cl.toNat<l.length/\(zb7 (nth l (nth code z.2.1).cl.toNat).g (zbm (nth code z.2.1).binds v)=false->0<=(nth code z.2.1).to/\zaT l code v (z.1-1) (nth code z.2.1).to.toNat):=(by rcases hst.2 with q|q|q;omega;exact q.2;omega);refine evc [] [] (wc zsy (zmO (l:=(nth code z.2.1).binds) (v:=v) ho.1 ho.2.1 hok) Z Z ?_);refine ev (ixq (i:=(nth code z.2.1).cl.toNat) sl32 Z Z (by have:=ho.2.2.1;omega) (zao (by first|omega|exact ho.2.2.2.1|exact hst.1)) Z ?_);refine ev (wc zsz (ziF (g:=(nth l (nth code z.2.1).cl.toNat).g) (l:=zbm (nth code z.2.1).binds v) (by have:=ho.1;simp[zbm];omega)) Z Z ?_);apply tv;apply sq<;>intro h4 h4p h4s<;>(try simp only[Q,xal,xac] at h4p);refine rn0 (.cons (.tmp Z) (.cons (.tmp Z) (.cons (.tmp Z) .nil))) (.tup (qeee ?_ ?_ ?_));rotate_left 3;refine xaj (goS code v z) ⟨(by first|exact go_2 hm hg1 od ol (ho.2.2.2.2 ol).2|exact zjn hm hg1 od od ol (ht.2.2.1 ol)|exact zjo hm hg1 od od ol (ht.2.2.2 ol).2),(by rw[zfZ];omega),sx ⟨⟨_,Z,xaQ ?_⟩,⟨⟨_,Z,xaQ ?_⟩,I⟩⟩ I⟩;iterate 2 focus (first|rfl|(rw[(zct (v:=v) (show(nth code z.2.1).op=2 by omega)).1];have h9:=(ho.2.2.2.2 ol).1;omega)|(rw[(zct (v:=v) (show(nth code z.2.1).op=2 by omega)).2];done)|(rw[(zdZ (show ¬(nth code z.2.1).op=2 by omega) ol).1];omega)|(rw[(zd0 (show ¬(nth code z.2.1).op=2 by omega) ol).1];have h9:=(ht.2.2.2 ol).1;omega)|(rw[zgI (v:=v) (show ¬(nth code z.2.1).op=2 by omega)];simp;done))
 all_goals (first|(have hq:=hg1.2.1;rw[hm,zld od] at hq;rw[<-Option.some.inj hq];all_goals rfl)|(have hq:=hg1.2.1;rw[hm,zjs od ol] at hq;rw[<-Option.some.inj hq];all_goals rfl))
section
variable {c:Ctx}{env:Env}{hp:Hp}{K:Kt}{code:Code}{ids:List Nat}
theorem CWp.tokBV (b off id k:Nat){cs cs':List AV} (hb:getH hp b=some (.box cs)) (h:cs[off]?=some .nils) (hput:putC cs off [.gv id []]=some cs') (hf:zfw env hp id=true)
  (hn:CWp c code ⟨env,(b,some (.box cs'))::(id,some (.tok 0 k))::hp⟩ K):CWp c code ⟨env,hp⟩ K:=by
 intro a w hrel;obtain⟨G,hr⟩:=hrel;obtain⟨h0,hocc⟩:=zdY hf;obtain⟨G',h1,h2⟩:=hr.mkTokV k h0 hocc;have hne:b≠id:=fun e=>by subst e;have h0':getH hp b=none:=h0;rw[h0'] at hb;cases hb
 have hb':getH ((id,some (Res.tok 0 k))::hp) b=some (.box cs):=by rw[zad,if_neg hne];exact hb
 obtain⟨bl,vs,e,e1,e2,e3,e4,e5⟩:=h1.heap b _ hb';obtain⟨hlt,hv⟩:=List.getElem?_eq_some_iff.1 h;have hlv:off<vs.size:=by omega
 have hval:vs[off] = .slice none 0 0:=by
  have:=e5 off hlt hlv;rw[hv] at this;generalize vs[off]=v at *;cases this;rfl
 have hall:PreR G' (tokf ((id,some (.tok 0 k))::hp)) w cs' vs:=by
  obtain⟨p1,p2,p3⟩:=zb9 hput;refine⟨by omega,fun i hi hvi=>?_⟩;have:=p3 i;rw[xan hi] at this;by_cases hio:i=off
  ·subst hio;rw[if_pos og] at this;simp only[Nat.sub_self,List.getElem?_cons_zero,xae] at this;rw[this,hval];exact h2
  ·rw[if_neg (by simp only[xab,xak];omega)] at this;have hic:i<cs.length:=by omega
   rw[xan hic] at this;rw[Option.some.inj this];exact e5 i hic hvi
 have:=h1.setBox (vs':=vs) hb' e1 e2 e4 hall;have hw:w.setRow bl vs=w:=setRow_self w bl vs e _ e2;rw[hw] at this;exact hn a w ⟨G',this⟩
theorem CWp.fixVC (b off id k:Nat){n:Nat}{xs:List (List D)}{cs:List AV} (hb:getH hp b=some (.box cs)) (hc:cs[off]?=some (.gv id xs)) (ht:getH hp id=some (.tok n k)) (hn:n=xs.length) (hx0:xs≠[])
  (hnx:CWp c code ⟨env,(b,some (.box (cs.set off (.ms id xs.length))))::(id,some (.box (xs.flatten.map .d)))::hp⟩ K):CWp c code ⟨env,hp⟩ K:=by
 rintro a w ⟨G,hr⟩
 subst hn;have hne:b≠id:=fun e=>by subst e;rw[hb] at ht;cases ht
 obtain⟨bl,vs,e,e1,e2,e3,e4,e5⟩:=hr.heap b _ hb;obtain⟨hlt,hcv⟩:=List.getElem?_eq_some_iff.1 hc;have hlv:off<vs.size:=by omega
 have h0:=e5 off hlt hlv;rw[hcv] at h0;obtain⟨hv0,hcl⟩:=h0.gv_inv;obtain⟨hkx,htip⟩:=(hcl _ _ (zak.2 ht)).2 rfl;rcases htip with ⟨_,h2,_⟩|⟨b1,cap,us,et,h1,h2,h3,h4,h5,h6,h7⟩
 ·exact absurd (List.eq_nil_of_length_eq_zero h2) hx0
 have s1:(getH hp b).isSome:=by rw[hb];rfl
 have s2:(getH hp id).isSome:=by rw[ht];rfl
 let cs':List AV:=cs.set off (.ms id xs.length)
 let bx:List AV:=xs.flatten.map .d
 have g1:getH ((b,some (Res.box cs'))::(id,some (.box bx))::hp) b=some (.box cs'):=by rw[zad,if_pos rfl]
 have g2:getH ((b,some (Res.box cs'))::(id,some (.box bx))::hp) id=some (.box bx):=by rw[zad,if_neg (Ne.symm hne),zad,if_pos rfl]
 have t1:tokf ((b,some (Res.box cs'))::(id,some (.box bx))::hp) b=none:=by unfold tokf;rw[g1]
 have t2:tokf ((b,some (Res.box cs'))::(id,some (.box bx))::hp) id=none:=by unfold tokf;rw[g2]
 have hturn:Turn c G ⟨env,hp⟩ w G ((b,some (.box cs'))::(id,some (.box bx))::hp) [b,id]:=by
  refine⟨fun i hi=>?_,fun _ _=>rfl,fun _ _=>rfl,fun _ _ h=>h,hr.top,fun i hi=> .inr ⟨.inl rfl, ?_⟩,fun i hi _ x hx=>?_,fun i hi j hj hij _ _ x hx=>?_,fun i hi l hl=>?_⟩
  ·simp only[List.mem_cons,xau,or_false,not_or] at hi;rw[zad,if_neg hi.1,zad,if_neg hi.2]
  ·simp only[List.mem_cons,xau,or_false] at hi;rcases hi with rfl|rfl
   ·intro p hp;rw[t1] at hp;cases hp
   ·intro p hp;rw[t2] at hp;cases hp
  ·simp only[List.mem_cons,xau,or_false] at hi;rcases hi with rfl|rfl
   ·exact⟨i,by simp,s1,hx⟩
   ·exact⟨i,by simp,s2,hx⟩
  ·simp only[List.mem_cons,xau,or_false] at hi hj;rcases hi with rfl|rfl<;>rcases hj with rfl|rfl
   ·exact absurd Z hij
   ·exact hr.disj _ _ s1 s2 hij x hx
   ·exact hr.disj _ _ s2 s1 hij x hx
   ·exact absurd Z hij
  ·simp only[List.mem_cons,xau,or_false] at hi;have hk0:=hr.kept i l hl;rcases hi with rfl|rfl
   ·exact⟨hk0.1,by rw[g1];rfl,t1⟩
   ·have:=hk0.2.2;rw[show(⟨env,hp⟩:St).hp=hp from rfl,zak.2 ht] at this;cases this
 refine hnx a w ⟨G,hturn.fin hr (fun i hi r hri=>?_)⟩;simp only[List.mem_cons,xau,or_false] at hi;rcases hi with rfl|rfl
 ·rw[g1] at hri;cases hri
  refine⟨bl,vs,e,e1,e2,by show(cs.set off _).length<=_;rw[List.length_set];exact e3,e4,fun q hq hv=>?_⟩;have hq':q<cs.length:=by have:q<(cs.set off (AV.ms id xs.length)).length:=hq;rw[List.length_set] at this;exact this
  show RelA G _ w ((cs.set off (AV.ms id xs.length))[q]'_) _
  rw[List.getElem_set];by_cases eo:off=q
  ·subst eo;rw[if_pos rfl,h2];exact .ms (zej h1) t2 h6
  ·rw[if_neg eo];exact hturn.cell hr hb (xao hq') (e5 q hq' hv)
 ·rw[g2] at hri;cases hri
  have hmul:xs.length*k+(cap-xs.length)*k=cap*k:=by rw[<-Nat.add_mul];congr 1;omega
  refine⟨b1,us,et,h1,h4, ?_,h3,fun j hj hv=>?_⟩
  ·show bx.length<=_
   rw[xac,zb1 hkx];omega
  ·have hi':j<xs.length*k:=by rw[<-zb1 hkx,<-xac (f:=AV.d)];exact hj
   have hlt':j<(xs.flatten.map AV.d).length:=hj;show RelA G _ w ((xs.flatten.map AV.d)[j]'_) _
   have hkpos:0<k:=by
    rcases Nat.eq_zero_or_pos k with h|h
    ·subst h;simp at hi'
    ·exact h
   have hq:j / k<xs.length:=Nat.div_lt_of_lt_mul (by rw[Nat.mul_comm];exact hi');have hrm:j % k<k:=Nat.mod_lt _ hkpos;have e1:=zdw hkx hq hrm;rw[Nat.div_add_mod'] at e1;rw[xan hlt'] at e1;rw[Option.some.inj e1];have h8:=h7 (j / k) hq (j % k) (by rw[hkx _ (xao hq)];exact hrm);rw[Nat.div_add_mod'] at h8;have e2:us.getD j undef=us[j]:=by simp[Array.getD,hv]
   rw[e2] at h8;exact .d h8
theorem xaz (b off id k:Nat){n:Nat}{xs:List (List D)}{cs:List AV} (hb:getH hp b=some (.box cs)) (hc:cs[off]?=some (.gv id xs)) (ht:getH hp id=some (.tok n k)) (hn:n=xs.length) (hx0:xs=[])
  (hnx:CWp c code ⟨env,(b,some (.box (cs.set off (.d (.sl [])))))::(id,none)::hp⟩ K):CWp c code ⟨env,hp⟩ K:=by
 rintro a w ⟨G,hr⟩
 subst hn;have hne:b≠id:=fun e=>by subst e;rw[hb] at ht;cases ht
 obtain⟨bl,vs,e,e1,e2,e3,e4,e5⟩:=hr.heap b _ hb;obtain⟨hlt,hcv⟩:=List.getElem?_eq_some_iff.1 hc;have hlv:off<vs.size:=by omega
 have h0:=e5 off hlt hlv;rw[hcv] at h0;obtain⟨hv0,hcl⟩:=h0.gv_inv;obtain⟨hkx,htip⟩:=(hcl _ _ (zak.2 ht)).2 rfl;have hval:RelD G.F w (.sl []) vs[off]:=by
  rcases htip with ⟨_,_,h2⟩|⟨b1,cap,us,et,h1,h2,h3,h4,h5,h6,h7⟩
  ·rw[h2];exact .nil
  ·rw[h2,hx0];exact .sl [] 0 b1 0 cap (fun _=>undef) og (Nat.zero_le _) og og
 have s1:(getH hp b).isSome:=by rw[hb];rfl
 have s2:(getH hp id).isSome:=by rw[ht];rfl
 let cs':List AV:=cs.set off (.d (.sl []))
 have g1:getH ((b,some (Res.box cs'))::(id,none)::hp) b=some (.box cs'):=by rw[zad,if_pos rfl]
 have g2:getH ((b,some (Res.box cs'))::(id,none)::hp) id=none:=by rw[zad,if_neg (Ne.symm hne),zad,if_pos rfl]
 have t1:tokf ((b,some (Res.box cs'))::(id,none)::hp) b=none:=by unfold tokf;rw[g1]
 have t2:tokf ((b,some (Res.box cs'))::(id,none)::hp) id=none:=by unfold tokf;rw[g2]
 have hturn:Turn c G ⟨env,hp⟩ w G ((b,some (.box cs'))::(id,none)::hp) [b,id]:=by
  refine⟨fun i hi=>?_,fun _ _=>rfl,fun _ _=>rfl,fun _ _ h=>h,hr.top,fun i hi=> .inr ⟨.inl rfl, ?_⟩,fun i hi _ x hx=>?_,fun i hi j hj hij _ _ x hx=>?_,fun i hi l hl=>?_⟩
  ·simp only[List.mem_cons,xau,or_false,not_or] at hi;rw[zad,if_neg hi.1,zad,if_neg hi.2]
  ·simp only[List.mem_cons,xau,or_false] at hi;rcases hi with rfl|rfl
   ·intro p hp;rw[t1] at hp;cases hp
   ·intro p hp;rw[t2] at hp;cases hp
  ·simp only[List.mem_cons,xau,or_false] at hi;rcases hi with rfl|rfl
   ·exact⟨i,by simp,s1,hx⟩
   ·exact⟨i,by simp,s2,hx⟩
  ·simp only[List.mem_cons,xau,or_false] at hi hj;rcases hi with rfl|rfl<;>rcases hj with rfl|rfl
   ·exact absurd Z hij
   ·exact hr.disj _ _ s1 s2 hij x hx
   ·exact hr.disj _ _ s2 s1 hij x hx
   ·exact absurd Z hij
  ·simp only[List.mem_cons,xau,or_false] at hi;have hk0:=hr.kept i l hl;rcases hi with rfl|rfl
   ·exact⟨hk0.1,by rw[g1];rfl,t1⟩
   ·have:=hk0.2.2;rw[show(⟨env,hp⟩:St).hp=hp from rfl,zak.2 ht] at this;cases this
 refine hnx a w ⟨G,hturn.fin hr (fun i hi r hri=>?_)⟩;simp only[List.mem_cons,xau,or_false] at hi;rcases hi with rfl|rfl
 ·rw[g1] at hri;cases hri
  refine⟨bl,vs,e,e1,e2,by show(cs.set off _).length<=_;rw[List.length_set];exact e3,e4,fun q hq hv=>?_⟩;have hq':q<cs.length:=by have:q<(cs.set off (AV.d (.sl []))).length:=hq;rw[List.length_set] at this;exact this
  show RelA G _ w ((cs.set off (AV.d (.sl [])))[q]'_) _
  rw[List.getElem_set];by_cases eo:off=q
  ·subst eo;rw[if_pos rfl];exact .d hval
  ·rw[if_neg eo];exact hturn.cell hr hb (xao hq') (e5 q hq' hv)
 ·rw[g2] at hri;cases hri
theorem xaE (hkp:KeptIn c.kept ids) (b off id id2 k:Nat){n cap:Nat}{xs:List (List D)}{cs bs:List AV} (hbb:getH hp b=some (.box cs)) (hcc:cs[off]?=some (.mc id n cap)) (hb:getH hp id=some (.box bs)) (hid:zaJ id ids=false)
  (hn:n=xs.length) (hkx:∀x,x∈xs->x.length=k) (hl:bs.length=cap*k) (hc:bs.take (n*k)=xs.flatten.map .d) (hf:zfw env ((id,none)::hp) id2=true) (hbid:Nat.beq b id=false) (hne2:Nat.beq id2 id=false) (hbs:AV.idsL bs=[])
  (hx:CWp c code ⟨env,(b,some (.box (cs.set off (.gv id2 xs))))::(id2,some (.tok xs.length k))::(id,none)::hp⟩ K):CWp c code ⟨env,hp⟩ K:=
 CWp.mcGvB hkp b off id id2 k hbb hcc hb hid hn hkx hl hc hf hbid hne2 hbs (by rw[hn];exact hx)
end
end Go.Proofs.YtmchfdpleibpdaaGreat
