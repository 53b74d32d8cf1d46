/-
  THE ABSTRACT WALK AND THE WALKS, part 2 of 4.
-/
import Derived.Test.YtmkipahfpaacgaaGreatDoorT621
namespace Go.Proofs.YtmkipahfpaacgaaGreatDoor
open Go
set_option linter.unusedSimpArgs false
set_option linter.unusedVariables false
def Res.avs:Res->List AV
 | .box cs=>cs
 | .tree cs=>cs
 |_=>[]
theorem Res.avs_ids {r:Res}{x:AV} (hx:x∈r.avs):∀id,id∈x.ids->id∈r.ids:=by
 intro id hid;cases r with
 |box cs=>exact xay hx hid
 |tree cs=>exact xay hx hid
 |_=>simp[Res.avs] at hx
structure Turn (c:Ctx) (G:Gh) (s:St) (w:World) (G':Gh) (hp':Hp) (L:List Nat):Prop where
 get:∀i,i∉L->getH hp' i=getH s.hp i
 loc:∀i,i∉L->G'.loc i=G.loc i
 fro:∀b,(∀j,j∈L->(getH s.hp j).isSome->b∉G.loc j)->G'.F b=G.F b
 fle:∀b o,o<G.F b->o<G'.F b
 ftop:∀b,w.heap.size<=b->G'.F b=0
 occ:∀i,i∈L->zcL i s\/(LocEq (tokf hp') G' G i/\∀p,tokf hp' i=some p->tokf s.hp i=some p/\∀b,b∈G.loc i->G'.F b=G.F b)
 blk:∀i,i∈L->(getH hp' i).isSome->∀b,b∈G'.loc i->∃j,j∈L/\(getH s.hp j).isSome/\b∈G.loc j
 dis:∀i,i∈L->∀j,j∈L->i≠j->(getH hp' i).isSome->(getH hp' j).isSome->∀b,b∈G'.loc i->b∉G'.loc j
 keep:∀i,i∈L->∀l,c.kept i=some l->(G'.loc i).head?=l.head?/\(getH hp' i).isSome/\tokf hp' i=none
section
variable {c:Ctx}{G G':Gh}{s:St}{a:Act}{w:World}{hp':Hp}{L:List Nat}
theorem Turn.away (h:Turn c G s w G' hp' L) (hr:R c G s a w){i:Nat} (hi:i∉L) (hs:(getH s.hp i).isSome):∀b,b∈G.loc i->G'.F b=G.F b:=
 fun b hb=>h.fro b (fun j hj hjs hbj=>hr.disj i j hs hjs (fun e=>hi (e ▸ hj)) b hb hbj)
theorem Turn.rel (h:Turn c G s w G' hp' L) (hr:R c G s a w){x:AV}{v:Value} (hx:∀i,i∈L->zcL i s->i∉x.ids) (hR:RelA G (tokf s.hp) w x v):RelA G' (tokf hp') w x v:=by
 refine hR.mono (fun b o ho=>⟨h.fle b o ho,Z⟩) (fun i hi=>?_) (fun i hi p hp=>?_)
 ·by_cases hL:i∈L
  ·rcases h.occ i hL with ho|ho
   ·exact absurd hi (hx i hL ho)
   ·exact ho.1
  ·exact .inl (h.loc i hL)
 ·by_cases hL:i∈L
  ·rcases h.occ i hL with ho|ho
   ·exact absurd hi (hx i hL ho)
   ·obtain⟨h1,h2⟩:=ho.2 p hp;exact⟨h1,fun b hb=>⟨rfl,h2 b hb⟩⟩
  ·have hT:tokf s.hp i=some p:=by unfold tokf at hp ⊢;rw[h.get i hL] at hp;exact hp
   refine⟨hT,fun b hb=>⟨rfl,h.away hr hL ?_ b hb⟩⟩;obtain⟨n,k⟩:=p;rw[zam.1 hT];rfl
theorem Turn.slot (h:Turn c G s w G' hp' L) (hr:R c G s a w){t:Nat}{x:AV}{v:Value} (ht:getE s.env t=some x) (hR:RelA G (tokf s.hp) w x v):RelA G' (tokf hp') w x v:=
 h.rel hr (fun i _ ho hx=>ho.1 t x ht hx) hR
theorem Turn.cell (h:Turn c G s w G' hp' L) (hr:R c G s a w){j:Nat}{r:Res}{x:AV}{v:Value} (hj:getH s.hp j=some r) (hx:x∈r.avs) (hR:RelA G (tokf s.hp) w x v):RelA G' (tokf hp') w x v:=
 h.rel hr (fun i _ ho hi=>ho.2 j r hj (Res.avs_ids hx i hi)) hR
theorem Turn.fin (h:Turn c G s w G' hp' L) (hr:R c G s a w) (hL:∀i,i∈L->∀r,getH hp' i=some r->RelR G' (tokf hp') w i r):R c G' ⟨s.env,hp'⟩ a w:=by
 have hsome:∀i,i∉L->(getH hp' i).isSome->(getH s.hp i).isSome:=fun i hi hs=>by rw[h.get i hi] at hs;exact hs
 let own1:List Nat:=L.flatMap fun j=>if (getH s.hp j).isSome then G.loc j else []
 have hown:∀b,b∈own1↔∃j,j∈L/\(getH s.hp j).isSome/\b∈G.loc j:=fun b=>by
  simp only[own1,List.mem_flatMap];constructor
  ·rintro ⟨j,hj,hb⟩
   by_cases hs:(getH s.hp j).isSome
   ·rw[if_pos hs] at hb;exact⟨j,hj,hs,hb⟩
   ·rw[if_neg hs] at hb;simp at hb
  ·rintro ⟨j,hj,hs,hb⟩
   exact⟨j,hj,by rw[if_pos hs];exact hb⟩
 refine⟨hr.size,hr.defers,fun i v hi=>h.slot hr hi (hr.slots i v hi),fun i r hi=>?_,fun i j h1 h2 hne b hb=>?_,fun i h1 b hb=>?_,
  hr.frm.trans (own1:=own1) ⟨rfl,rfl,rfl,Nat.le_refl _,fun b _ hb=>⟨rfl,h.fro b (fun j hj hs hbj=>hb ((hown b).2 ⟨j,hj,hs,hbj⟩))⟩,fun b o ho=>⟨h.fle b o ho,rfl⟩⟩ (fun b hb=>?_),h.ftop,fun i l hl=>?_⟩
 ·by_cases hi':i∈L
  ·exact hL i hi' r hi
  ·have hg:getH s.hp i=some r:=by have:=h.get i hi';rw[<-this];exact hi
   have hh:=hr.heap i r hg;have hs:(getH s.hp i).isSome:=by rw[hg];rfl
   have hl:=h.loc i hi';have ha:=h.away hr hi' hs;cases r with
   |box cs=>
    obtain⟨b,vs,e,h1,h2,h3,h4,h5⟩:=hh;exact⟨b,vs,e,hl.trans h1,h2,h3,(ha b (by simp[h1])).trans h4,fun j hj hv=>h.cell hr hg (xao hj) (h5 j hj hv)⟩
   |tok n k=>exact fun b hb=>hh b (by rw[hl] at hb;exact hb)
   |map ks=>
    obtain⟨b,es,cl,h1,h2,h3,h4⟩:=hh;exact⟨b,es,cl,hl.trans h1,h2,(ha b (by simp[h1])).trans h3,h4⟩
   |tree cs=>exact zaV hh hl (fun b hb=>⟨Z,ha b hb⟩) (Nat.le_refl _) (fun x hx v=>h.cell hr hg hx)
 ·have key:∀i j,i∈L->j∉L->(getH hp' i).isSome->(getH hp' j).isSome->∀b,b∈G'.loc i->b∉G'.loc j:=fun i j hi hj h1 h2 b hb hbj=>by
   obtain⟨i2,h3,h4,h5⟩:=h.blk i hi h1 b hb;rw[h.loc j hj] at hbj;exact hr.disj i2 j h4 (hsome j hj h2) (fun e=>hj (e ▸ h3)) b h5 hbj
  by_cases hi:i∈L<;>by_cases hj:j∈L
  ·exact h.dis i hi j hj hne h1 h2 b hb
  ·exact key i j hi hj h1 h2 b hb
  ·exact fun hbj=>key j i hj hi h2 h1 b hbj hb
  ·rw[h.loc i hi] at hb;rw[h.loc j hj];exact hr.disj i j (hsome i hi h1) (hsome j hj h2) hne b hb
 ·by_cases hi:i∈L
  ·obtain⟨j,h3,h4,h5⟩:=h.blk i hi h1 b hb;exact hr.new j h4 b h5
  ·rw[h.loc i hi] at hb;exact hr.new i (hsome i hi h1) b hb
 ·obtain⟨j,h3,h4,h5⟩:=(hown b).1 hb;exact hr.new j h4 b h5
 ·by_cases hi:i∈L
  ·exact h.keep i hi l hl
  ·have hk:=hr.kept i l hl;refine⟨by rw[h.loc i hi];exact hk.1,by rw[h.get i hi];exact hk.2.1, ?_⟩;have:=hk.2.2;unfold tokf at this ⊢;rw[h.get i hi];exact this
theorem R.slot (hr:R c G s a w){t:Nat}{x:AV} (h:RelA G (tokf s.hp) w x (a.tmps.getD t undef)):R c G ⟨(t,x)::s.env,s.hp⟩ a w:=by
 refine⟨hr.size,hr.defers,fun i v hi=>?_,hr.heap,hr.disj,hr.new,hr.frm,hr.top,hr.kept⟩;simp only[getE] at hi;cases hb:Nat.beq t i with
 |true=>
  have:=xap hb;subst this;simp only[hb,cond_true,xae] at hi;subst hi;exact h
 |false=>
  simp only[hb,cond_false] at hi;exact hr.slots i v hi
end
def ownD (m:Bool):D->AV
 | .int k n=> .d (.int k n)
 | .bool b=> .d (.bool b)
 | .str s=> .d (.str s)
 |x=> .own m x
def zao (m:Bool) (xs:List (List D)):List AV:=xs.flatten.map (ownD m)
theorem znw (m:Bool) (x:D):(ownD m x).ids=[]:=by cases x<;>rfl
theorem zcW (m:Bool) (xs:List (List D)):AV.idsL (zao m xs)=[]:=by
 unfold zao;generalize xs.flatten=l;induction l with
 |nil=>rfl
 |cons x l ih=>simp[AV.idsL,znw,ih]
theorem zct {m:Bool}{xs:List (List D)}{k:Nat} (hk:∀x,x∈xs->x.length=k):(zao m xs).length=xs.length*k:=by
 unfold zao;rw[xac,zk2 hk]
theorem zgW (m:Bool):zao m []=[]:=rfl
theorem zi0 (m:Bool) (a b:List (List D)):zao m (a++b)=zao m a++zao m b:=by simp[zao]
theorem zfs {m:Bool}{xs:List (List D)}{k i j:Nat} (hk:∀x,x∈xs->x.length=k) (hi:i<xs.length) (hj:j<xs[i].length):
  (zao m xs)[i*k+j]?=some (ownD m xs[i][j]):=by
 have hjk:j<k:=by rw[<-hk _ (xao hi)];exact hj
 have:=zmV (xs:=xs) hk hi hjk;simp only[zao,List.getElem?_map] at this ⊢;revert this
 cases xs.flatten[i*k+j]? with
 |none=>simp
 |some y=>intro h;simp only[Option.map_some,xae,AV.d.injEq] at h;simp[h]
theorem CellR.ofTree {G:Gh}{T:TokF}{m:Bool}{w:World}{x:D}{v:Value}{S:List Nat} (h:TreeD m w x v S):CellR G T w (ownD m x) v S:=by
 cases h with
 |int k n=>exact⟨rfl,.d (.int _ _)⟩
 |bool b=>exact⟨rfl,.d (.bool _)⟩
 |str s=>exact⟨rfl,.d (.str _)⟩
 |nil=>exact TreeD.nil
 |emp b off s cap hm=>exact TreeD.emp b off s cap hm
 |em0 b off cap hm=>exact TreeD.em0 b off cap hm
 |sl xs k b cap cs e Ss hk hcap hb hc hr hz=>exact TreeD.sl xs k b cap cs e Ss hk hcap hb hc hr hz
def zd1:D->Bool
 | .int _ _=>true
 | .bool _=>true
 | .str _=>true
 | .sl []=>true
 |_=>false
theorem TreeD.ofFlat {m:Bool}{F:Nat->Nat}{w:World}{x:D}{v:Value} (hf:zd1 x=true) (hm:m=false\/x≠ .sl []) (h:RelD F w x v):TreeD m w x v []:=by
 cases h with
 |int k n=>exact .int _ _
 |bool b=>exact .bool _
 |str s=>exact .str _
 |nil=>exact .nil
 |emp b off s cap=>exact .emp b off s cap (hm.resolve_right (fun h=>h Z))
 |sl xs k b off cap c hk hcap hc hr=>
  cases xs with
  |nil=>exact .em0 b off cap (hm.resolve_right (fun h=>h Z))
  |cons x r=>simp[zd1] at hf
 |ptr cs b o off c hc hr=>simp[zd1] at hf
 |nilp=>simp[zd1] at hf
theorem xaZ {m:Bool}{w:World}{x:D}{v:Value}{S:List Nat} (h:TreeD m w x v S):TreeD false w x v S:=by
 induction h with
 |int k n=>exact .int _ _
 |bool b=>exact .bool _
 |str s=>exact .str _
 |nil=>exact .nil
 |emp b off s cap _=>exact .emp b off s cap Z
 |em0 b off cap _=>exact .em0 b off cap Z
 |sl xs k b cap cs e Ss hk hcap hb hc hr hz ih=>
  refine .sl xs k b cap cs e Ss hk hcap hb ?_ ih (fun h=>by cases h);refine Nat.le_trans (xav _ ?_) hc;cases m
  ·exact Nat.le_refl _
  ·exact hcap
def TreeOf (m:Bool) (w:World) (xs:List (List D)) (k:Nat) (vs:Array Value) (Ss:Nat->List Nat):Prop:=
 ∀i (hi:i<xs.length) j (hj:j<xs[i].length),TreeD m w xs[i][j] (vs.getD (i*k+j) undef) (Ss (i*k+j))
theorem zmQ {i n k:Nat} (h:i<n*k):i / k<n/\i % k<k/\i / k*k+i % k=i:=by
 have hk:0<k:=by
  rcases Nat.eq_zero_or_pos k with h0|h0
  ·subst h0;simp at h
  ·exact h0
 exact⟨Nat.div_lt_of_lt_mul (by rw[Nat.mul_comm];exact h),Nat.mod_lt _ hk,Nat.div_add_mod' _ _⟩
theorem zjw {vs:Array Value}{i:Nat} (h:i<vs.size):vs.getD i undef=vs[i]:=by simp[Array.getD,h]
theorem TreeOf.cells {G:Gh}{T:TokF}{m:Bool}{w:World}{xs:List (List D)}{k:Nat}{vs:Array Value}{Ss:Nat->List Nat} (h:TreeOf m w xs k vs Ss) (hk:∀x,x∈xs->x.length=k):
  ∀i (hi:i<(zao m xs).length) (hv:i<vs.size),CellR G T w (zao m xs)[i] vs[i] (Ss i):=by
 intro i hi hv;rw[zct hk] at hi;obtain⟨h1,h2,h3⟩:=zmQ hi;have hj:i % k<xs[i / k].length:=by rw[hk _ (xao h1)];exact h2
 have h4:=h (i / k) h1 (i % k) hj;have h5:=zfs (m:=m) hk h1 hj;rw[h3] at h4 h5;rw[xan (by rw[zct hk];exact hi)] at h5;rw[zjw hv] at h4;rw[Option.some.inj h5];exact .ofTree h4
theorem zdc {Ss Ss':Nat->List Nat}:∀ {l:List Nat},(l.flatMap Ss).Nodup->(∀i,i∈l->(Ss' i).Sublist (Ss i))->((l.flatMap Ss').Sublist (l.flatMap Ss))
 | [],_,_=> .slnil
 |x::l,h,hs=>by
  simp only[List.flatMap_cons] at h ⊢;exact(hs x oe).append (zdc (List.nodup_append.1 h).2.1 (fun i hi=>hs i (by simp[hi])))
theorem zge {Ss:Nat->List Nat}:∀ {l:List Nat} (hl:l.Nodup),(l.flatMap Ss).Nodup->∀i j,i∈l->j∈l->i≠j->∀b,b∈Ss i->b∉Ss j
 | [],_,_,i,j,hi,_,_=>by simp at hi
 |x::l,hl,h,i,j,hi,hj,hne=>by
  simp only[List.flatMap_cons,List.nodup_append,List.mem_flatMap] at h;obtain⟨h1,h2,h3⟩:=h;intro b hb hbj;rcases List.mem_cons.1 hi with e1|e1
  ·rcases List.mem_cons.1 hj with e2|e2
   ·exact hne (e1.trans e2.symm)
   ·exact h3 b (e1 ▸ hb) b ⟨j,e2,hbj⟩ Z
  ·rcases List.mem_cons.1 hj with e2|e2
   ·exact h3 b (e2 ▸ hbj) b ⟨i,e1,hb⟩ Z
   ·exact zge (List.nodup_cons.1 hl).2 h2 i j e1 e2 hne b hb hbj
theorem ziW {Ss:Nat->List Nat}:∀ {l:List Nat},(l.flatMap Ss).Nodup->∀i,i∈l->(Ss i).Nodup
 |x::l,h,i,hi=>by
  simp only[List.flatMap_cons,List.nodup_append] at h;rcases List.mem_cons.1 hi with rfl|hi
  ·exact h.1
  ·exact ziW h.2.1 i hi
theorem zeq {Ss:Nat->List Nat}{S:List Nat}{off:Nat}:∀ {l:List Nat},l.Nodup->(l.flatMap Ss).Nodup->S.Nodup->(∀b,b∈S->∀i,i∈l->i≠off->b∉Ss i)->
  (l.flatMap fun i=>if i=off then S else Ss i).Nodup
 | [],_,_,_,_=>by simp
 |x::l,hl,h,hS,hd=>by
  simp only[List.flatMap_cons,List.nodup_append,List.mem_flatMap] at h ⊢;obtain⟨h1,h2,h3⟩:=h;have hl':=List.nodup_cons.1 hl;refine⟨?_,zeq hl'.2 h2 hS (fun b hb i hi=>hd b hb i (by simp[hi])),fun b hb b' hb'=>?_⟩
  ·split
   ·exact hS
   ·exact h1
  ·rintro rfl
   obtain⟨j,hj,hbj⟩:=hb';have hxj:x≠j:=fun e=>hl'.1 (e ▸ hj);by_cases hx:x=off
   ·rw[if_pos hx] at hb;rw[if_neg (fun e=>hxj (hx.trans e.symm))] at hbj;exact hd b hb j (by simp[hj]) (fun e=>hxj (hx.trans e.symm)) hbj
   ·rw[if_neg hx] at hb;by_cases hjo:j=off
    ·rw[if_pos hjo] at hbj;exact hd b hbj x oe hx hb
    ·rw[if_neg hjo] at hbj;exact h3 b hb b ⟨j,hj,hbj⟩ Z
section
variable {c:Ctx}{env:Env}{hp:Hp}{K:Kt}{code:Code}{ids:List Nat}
theorem zeM {i j:Nat} (h:i≠j):Nat.beq i j=false:=by
 cases hb:Nat.beq i j with
 |true=>exact absurd (xap hb) h
 |false=>rfl
theorem R.split {G:Gh}{a:Act}{w:World} (hr:R c G ⟨env,hp⟩ a w){id off id':Nat}{m:Bool}{xs:List (List D)}{cs cs':List AV} (hb:getH hp id=some (.tree cs)) (hc:cs[off]?=some (.own m (.sl xs))) (hx:xs≠[])
  (hf:zbC env hp [id']=true) (hput:putC cs off [.ms id' xs.length]=some cs'):∃G',R c G' ⟨env,(id',some (.tree (zao m xs)))::(id,some (.tree cs'))::hp⟩ a w:=by
 obtain⟨h0,hocc⟩:=zbw hf id' oe;obtain⟨b,vs,e,Ss,hT⟩:=hr.heap id _ hb;obtain⟨hoff,hcv⟩:=List.getElem?_eq_some_iff.1 hc;have hov:off<vs.size:=by have:=hT.len;omega
 have hcell:=hT.cell off hoff hov;rw[hcv] at hcell;have hne:id≠id':=fun e=>by subst e;have h0':getH hp id=none:=h0;rw[h0'] at hb;cases hb
 obtain⟨p1,p2,p3⟩:=zcd hput;have hTD:TreeD m w (.sl xs) vs[off] (Ss off):=hcell;generalize hv:vs[off]=v at hTD;generalize hSo:Ss off=So at hTD;cases hTD with
 |nil=>exact absurd Z hx
 |emp _ _ _ _ _=>exact absurd Z hx
 |em0 _ _ _ _=>exact absurd Z hx
 |sl _ k b1 cap cs1 e1 Ss1 hk hcap hb1 hc1 hr1 hz1=>
  let Ss':Nat->List Nat:=fun i=>if i=off then [] else Ss i
  let G':Gh:={ G with loc:=fun i=>bif Nat.beq i id' then Ss off else bif Nat.beq i id then b::(List.range cs'.length).flatMap Ss' else G.loc i }
  have l1:G'.loc id'=Ss off:=by simp[G']
  have l2:G'.loc id=b::(List.range cs'.length).flatMap Ss':=by simp[G',zeM hne]
  have l3:∀i,i≠id'->i≠id->G'.loc i=G.loc i:=fun i h1 h2=>by simp[G',zeM h1,zeM h2]
  have hnd:=hT.nodup;rw[hT.loc] at hnd;have hnd':=List.nodup_cons.1 hnd;have hsubS:∀x,x∈Ss off->x∈G.loc id:=fun x hx=>by
   rw[hT.loc];exact List.mem_cons_of_mem _ (List.mem_flatMap.2 ⟨off,List.mem_range.2 hoff,hx⟩)
  have hsubl:((List.range cs'.length).flatMap Ss').Sublist ((List.range cs.length).flatMap Ss):=by
   rw[p1];refine zdc hnd'.2 (fun i hi=>?_);simp only[Ss'];split
   ·exact List.nil_sublist _
   ·exact List.Sublist.refl _
  have hsub2:∀x,x∈G'.loc id->x∈G.loc id:=fun x hx=>by
   rw[l2] at hx;rw[hT.loc];rcases List.mem_cons.1 hx with h|h
   ·simp[h]
   ·exact List.mem_cons_of_mem _ (hsubl.subset h)
  have g1:getH ((id',some (Res.tree (zao m xs)))::(id,some (.tree cs'))::hp) id'=some (.tree (zao m xs)):=by rw[zag,if_pos rfl]
  have g2:getH ((id',some (Res.tree (zao m xs)))::(id,some (.tree cs'))::hp) id=some (.tree cs'):=by rw[zag,if_neg hne,zag,if_pos rfl]
  have hturn:Turn c G ⟨env,hp⟩ w G' ((id',some (.tree (zao m xs)))::(id,some (.tree cs'))::hp) [id,id']:=by
   refine⟨fun i hi=>?_,fun i hi=>?_,fun _ _=>rfl,fun _ _ h=>h,hr.top,fun i hi=>?_,fun i hi hs x hx=>?_,fun i hi j hj hij _ _ x hx=>?_,fun i hi l hl=>?_⟩
   ·simp only[List.mem_cons,xau,or_false,not_or] at hi;rw[zag,if_neg hi.2,zag,if_neg hi.1]
   ·simp only[List.mem_cons,xau,or_false,not_or] at hi;exact l3 i hi.2 hi.1
   ·simp only[List.mem_cons,xau,or_false] at hi;rcases hi with rfl|rfl
    ·right
     have ht:tokf ((id',some (Res.tree (zao m xs)))::(i,some (.tree cs'))::hp) i=none:=by unfold tokf;rw[g2]
     refine⟨.inr ⟨ht,by rw[l2,hT.loc];rfl⟩,fun p hp=>by rw[ht] at hp;cases hp⟩
    ·exact .inl hocc
   ·simp only[List.mem_cons,xau,or_false] at hi;have hs':(getH hp id).isSome:=by rw[hb];rfl
    rcases hi with rfl|rfl
    ·exact⟨i,by simp,hs',hsub2 x hx⟩
    ·rw[l1] at hx;exact⟨id,by simp,hs',hsubS x hx⟩
   ·simp only[List.mem_cons,xau,or_false] at hi hj;have key:∀x,x∈Ss off->x∉G'.loc id:=by
     intro x hx hx2;rw[l2] at hx2;rcases List.mem_cons.1 hx2 with h|h
     ·exact hnd'.1 (List.mem_flatMap.2 ⟨off,List.mem_range.2 hoff,h ▸ hx⟩)
     ·obtain⟨j,hj,hxj⟩:=List.mem_flatMap.1 h;simp only[Ss'] at hxj;split at hxj
      ·simp at hxj
      ·rename_i hjo;exact zge List.nodup_range hnd'.2 off j (List.mem_range.2 hoff) (by rw[p1] at hj;exact hj) (Ne.symm hjo) x hx hxj
    rcases hi with rfl|rfl<;>rcases hj with rfl|rfl
    ·exact absurd Z hij
    ·rw[l1];exact fun h=>key x h hx
    ·rw[l1] at hx;exact key x hx
    ·exact absurd Z hij
   ·simp only[List.mem_cons,xau,or_false] at hi;have hk0:=hr.kept i l hl;rcases hi with rfl|rfl
    ·refine⟨?_,by rw[g2];rfl,by unfold tokf;rw[g2]⟩;rw[l2,<-hk0.1,hT.loc];rfl
    ·have h0':getH hp i=none:=h0;have:=hk0.2.1;rw[show(⟨env,hp⟩:St).hp=hp from rfl,h0'] at this;cases this
  refine⟨G',hturn.fin hr (fun i hi r hri=>?_)⟩;simp only[List.mem_cons,xau,or_false] at hi;rcases hi with rfl|rfl
  ·rw[g2] at hri;cases hri
   refine⟨b,vs,e,Ss',l2,hT.at_,by rw[p1];exact hT.len, ?_,fun x hx=>hT.mine x (hsub2 x hx),fun j hj hjv=>?_⟩
   ·rw[l2];exact List.nodup_cons.2 ⟨fun h=>hnd'.1 (hsubl.subset h),hsubl.nodup hnd'.2⟩
   ·have h3:=p3 j;rw[xan hj] at h3;by_cases hjo:j=off
    ·subst hjo;rw[if_pos oe] at h3;simp only[Nat.sub_self,List.getElem?_cons_zero,xae] at h3;rw[h3,hv];refine⟨by simp[Ss'],.ms (b:=b1) ?_ ?_ hcap⟩
     ·rw[l1,hSo];rfl
     ·unfold tokf;rw[g1]
    ·rw[if_neg (by simp only[xab,xak];omega)] at h3;have hjc:j<cs.length:=by omega
     rw[xan hjc] at h3;rw[Option.some.inj h3];have h4:=hT.cell j hjc hjv;have h5:Ss' j=Ss j:=by simp[Ss',hjo]
     rw[h5];exact h4.map (hturn.cell hr hb (xao hjc)) (fun _ _=>rfl)
  ·rw[g1] at hri;cases hri
   have hlen:(zao m xs).length=xs.length*k:=zct hk;have hle:xs.length*k<=cs1.size:=by
    refine Nat.le_trans (xav _ ?_) hc1;cases m
    ·exact Nat.le_refl _
    ·exact hcap
   refine⟨b1,cs1,e1,Ss1,by rw[l1,hSo,hlen],hb1,by rw[hlen];exact hle, ?_,fun x hx=>?_,TreeOf.cells hr1 hk⟩
   ·rw[l1];exact ziW hnd'.2 off (List.mem_range.2 hoff)
   ·rw[l1] at hx;exact hT.mine x (hsubS x hx)
theorem CWp.split (id off id':Nat){m:Bool}{xs:List (List D)}{cs cs':List AV} (hb:getH hp id=some (.tree cs)) (hc:cs[off]?=some (.own m (.sl xs))) (hx:xs≠[])
  (hf:zbC env hp [id']=true) (hput:putC cs off [.ms id' xs.length]=some cs')
  (hn:CWp c code ⟨env,(id',some (.tree (zao m xs)))::(id,some (.tree cs'))::hp⟩ K):CWp c code ⟨env,hp⟩ K:=by
 rintro a w ⟨G,hr⟩
 obtain⟨G',h⟩:=hr.split hb hc hx hf hput;exact hn a w ⟨G',h⟩
theorem R.merge {G:Gh}{a:Act}{w:World} (hr:R c G ⟨env,hp⟩ a w) (hkp:KeptIn c.kept ids){id off id' k n:Nat}{m:Bool}{xs:List (List D)}{cs cs':List AV} (hb:getH hp id=some (.tree cs)) (hc:cs[off]?=some (.ms id' n)) (hn:n=xs.length)
  (hb':getH hp id'=some (.tree (zao m xs))) (hk:∀x,x∈xs->x.length=k) (hne:Nat.beq id id'=false) (hid:zaJ id' ids=false) (hput:putC cs off [.own false (.sl xs)]=some cs'):
  ∃G',R c G' ⟨env,(id',none)::(id,some (.tree cs'))::hp⟩ a w:=by
 subst hn;have hne:id≠id':=fun e=>by subst e;simp at hne
 obtain⟨b,vs,e,Ss,hT⟩:=hr.heap id _ hb;obtain⟨b1,cs1,e1,Ss1,hT1⟩:=hr.heap id' _ hb';obtain⟨hoff,hcv⟩:=List.getElem?_eq_some_iff.1 hc;have hov:off<vs.size:=by have:=hT.len;omega
 have hcell:=hT.cell off hoff hov;rw[hcv] at hcell;obtain⟨hS0,hms⟩:=hcell;obtain⟨b2,cap,hl2,he2,hcap⟩:=hms.ms_eq;obtain rfl:b1=b2:=by have:=hl2.1;rw[hT1.loc] at this;exact Option.some.inj this
 obtain⟨p1,p2,p3⟩:=zcd hput;have hlen1:(zao m xs).length=xs.length*k:=zct hk;have hTr:TreeD false w (.sl xs) vs[off] (G.loc id'):=by
  rw[he2,hT1.loc,hlen1];refine .sl xs k b1 cap cs1 e1 Ss1 hk hcap hT1.at_ (by have:=hT1.len;rw[hlen1] at this;exact this) (fun i hi j hj=>?_) (fun h=>by cases h);have hjk:j<k:=by rw[<-hk _ (xao hi)];exact hj
  have hlt:i*k+j<(zao m xs).length:=by rw[hlen1];exact zeI hi hjk
  have hlv:i*k+j<cs1.size:=Nat.lt_of_lt_of_le hlt hT1.len;have h1:=hT1.cell (i*k+j) hlt hlv;have h2:=zfs (m:=m) hk hi hj;rw[xan hlt] at h2;rw[Option.some.inj h2] at h1;rw[zjw hlv];generalize xs[i][j]=y at h1;cases y with
  |sl ys=>exact xaZ h1
  |int kd q=>obtain⟨g1,g2⟩:=h1;rw[g1];exact .ofFlat Z (.inl Z) g2.d_inv
  |bool q=>obtain⟨g1,g2⟩:=h1;rw[g1];exact .ofFlat Z (.inl Z) g2.d_inv
  |str q=>obtain⟨g1,g2⟩:=h1;rw[g1];exact .ofFlat Z (.inl Z) g2.d_inv
  |ptr q r=>exact xaZ h1
  |nilp=>exact xaZ h1
 let Ss':Nat->List Nat:=fun i=>if i=off then G.loc id' else Ss i
 let G':Gh:={ G with loc:=fun i=>bif Nat.beq i id then b::(List.range cs'.length).flatMap Ss' else G.loc i }
 have l1:G'.loc id=b::(List.range cs'.length).flatMap Ss':=by simp[G']
 have l3:∀i,i≠id->G'.loc i=G.loc i:=fun i h2=>by simp[G',zeM h2]
 have hnd:=hT.nodup;rw[hT.loc] at hnd;have hnd':=List.nodup_cons.1 hnd;have s1:(getH hp id).isSome:=by rw[hb];rfl
 have s2:(getH hp id').isSome:=by rw[hb'];rfl
 have hapart:∀x,x∈G.loc id->x∉G.loc id':=hr.disj id id' s1 s2 hne;have hmem:∀x,x∈G'.loc id->x∈G.loc id\/x∈G.loc id':=fun x hx=>by
  rw[l1] at hx;rcases List.mem_cons.1 hx with h|h
  ·left;rw[hT.loc,h];simp
  ·obtain⟨j,hj,hxj⟩:=List.mem_flatMap.1 h;simp only[Ss'] at hxj;split at hxj
   ·exact .inr hxj
   ·left
    rw[hT.loc];rw[p1] at hj;exact List.mem_cons_of_mem _ (List.mem_flatMap.2 ⟨j,hj,hxj⟩)
 have g1:getH ((id',none)::(id,some (Res.tree cs'))::hp) id'=none:=by rw[zag,if_pos rfl]
 have g2:getH ((id',none)::(id,some (Res.tree cs'))::hp) id=some (.tree cs'):=by rw[zag,if_neg hne,zag,if_pos rfl]
 have t1:tokf ((id',none)::(id,some (Res.tree cs'))::hp) id'=none:=by unfold tokf;rw[g1]
 have t2:tokf ((id',none)::(id,some (Res.tree cs'))::hp) id=none:=by unfold tokf;rw[g2]
 have hturn:Turn c G ⟨env,hp⟩ w G' ((id',none)::(id,some (.tree cs'))::hp) [id,id']:=by
  refine⟨fun i hi=>?_,fun i hi=>?_,fun _ _=>rfl,fun _ _ h=>h,hr.top,fun i hi=>?_,fun i hi hs x hx=>?_,fun i hi j hj hij h1 h2 x hx=>?_,fun i hi l hl=>?_⟩
  ·simp only[List.mem_cons,xau,or_false,not_or] at hi;rw[zag,if_neg hi.2,zag,if_neg hi.1]
  ·simp only[List.mem_cons,xau,or_false,not_or] at hi;exact l3 i hi.1
  ·simp only[List.mem_cons,xau,or_false] at hi;right
   rcases hi with rfl|rfl
   ·exact⟨.inr ⟨t2,by rw[l1,hT.loc];rfl⟩,fun p hp=>by rw[t2] at hp;cases hp⟩
   ·exact⟨.inl (l3 i (Ne.symm hne)),fun p hp=>by rw[t1] at hp;cases hp⟩
  ·simp only[List.mem_cons,xau,or_false] at hi;rcases hi with rfl|rfl
   ·rcases hmem x hx with h|h
    ·exact⟨i,by simp,s1,h⟩
    ·exact⟨id',by simp,s2,h⟩
   ·rw[g1] at hs;cases hs
  ·simp only[List.mem_cons,xau,or_false] at hi hj;rcases hi with rfl|rfl
   ·rcases hj with rfl|rfl
    ·exact absurd Z hij
    ·rw[g1] at h2;cases h2
   ·rw[g1] at h1;cases h1
  ·simp only[List.mem_cons,xau,or_false] at hi;have hk0:=hr.kept i l hl;rcases hi with rfl|rfl
   ·refine⟨?_,by rw[g2];rfl,t2⟩;rw[l1,<-hk0.1,hT.loc];rfl
   ·have:=zaz.2 (hkp.mem i l hl);rw[this] at hid;cases hid
 refine⟨G',hturn.fin hr (fun i hi r hri=>?_)⟩;simp only[List.mem_cons,xau,or_false] at hi;rcases hi with rfl|rfl
 ·rw[g2] at hri;cases hri
  refine⟨b,vs,e,Ss',l1,hT.at_,by rw[p1];exact hT.len, ?_,fun x hx=>?_,fun j hj hjv=>?_⟩
  ·rw[l1,List.nodup_cons];constructor
   ·intro h;obtain⟨j,hj,hxj⟩:=List.mem_flatMap.1 h;rw[p1] at hj;simp only[Ss'] at hxj;split at hxj
    ·exact hapart b (by rw[hT.loc];simp) hxj
    ·exact hnd'.1 (List.mem_flatMap.2 ⟨j,hj,hxj⟩)
   ·rw[p1];refine zeq List.nodup_range hnd'.2 hT1.nodup (fun x hx j hj _ hxj=>?_);exact hapart x (by rw[hT.loc];exact List.mem_cons_of_mem _ (List.mem_flatMap.2 ⟨j,hj,hxj⟩)) hx
  ·rcases hmem x hx with h|h
   ·exact hT.mine x h
   ·exact hT1.mine x h
  ·have h3:=p3 j;rw[xan hj] at h3;by_cases hjo:j=off
   ·subst hjo;rw[if_pos oe] at h3;simp only[Nat.sub_self,List.getElem?_cons_zero,xae] at h3;rw[h3];have h5:Ss' j=G.loc id':=by simp[Ss']
    rw[h5];exact hTr
   ·rw[if_neg (by simp only[xab,xak];omega)] at h3;have hjc:j<cs.length:=by omega
    rw[xan hjc] at h3;rw[Option.some.inj h3];have h4:=hT.cell j hjc hjv;have h5:Ss' j=Ss j:=by simp[Ss',hjo]
    rw[h5];exact h4.map (hturn.cell hr hb (xao hjc)) (fun _ _=>rfl)
 ·rw[g1] at hri;cases hri
theorem CWp.merge (hkp:KeptIn c.kept ids) (id off id' k n:Nat){m:Bool}{xs:List (List D)}{cs cs':List AV} (hb:getH hp id=some (.tree cs)) (hc:cs[off]?=some (.ms id' n)) (hn:n=xs.length)
  (hb':getH hp id'=some (.tree (zao m xs))) (hk:∀x,x∈xs->x.length=k) (hne:Nat.beq id id'=false) (hid:zaJ id' ids=false) (hput:putC cs off [.own false (.sl xs)]=some cs')
  (hnx:CWp c code ⟨env,(id',none)::(id,some (.tree cs'))::hp⟩ K):CWp c code ⟨env,hp⟩ K:=by
 rintro a w ⟨G,hr⟩
 obtain⟨G',h⟩:=hr.merge hkp hb hc hn hb' hk hne hid hput;exact hnx a w ⟨G',h⟩
def upC (m:Bool):AV->AV
 | .d (.sl [])=> .own m (.sl [])
 | .nils=> .own m (.sl [])
 |x=>x
theorem R.boxTree {G:Gh}{a:Act}{w:World} (hr:R c G ⟨env,hp⟩ a w){id:Nat}{cs:List AV} (m:Bool) (hm:m=false) (hb:getH hp id=some (.box cs)):R c G ⟨env,(id,some (.tree (cs.map (upC m))))::hp⟩ a w:=by
 obtain⟨b,vs,e,h1,h2,h3,h4,h5⟩:=hr.heap id _ hb;have g2:getH ((id,some (Res.tree (cs.map (upC m))))::hp) id=some (.tree (cs.map (upC m))):=by rw[zag,if_pos rfl]
 have t2:tokf ((id,some (Res.tree (cs.map (upC m))))::hp) id=none:=by unfold tokf;rw[g2]
 have s1:(getH hp id).isSome:=by rw[hb];rfl
 have hbd:=(hr.heap id _ hb).bound;have hturn:Turn c G ⟨env,hp⟩ w G ((id,some (.tree (cs.map (upC m))))::hp) [id]:=by
  refine⟨fun i hi=>?_,fun i hi=>rfl,fun _ _=>rfl,fun _ _ h=>h,hr.top,fun i hi=> .inr ⟨.inl rfl, ?_⟩,fun i hi hs x hx=>?_,fun i hi j hj hij=>?_,fun i hi l hl=>?_⟩<;>
   simp only[List.mem_cons,xau,or_false] at hi
  ·rw[zag,if_neg hi]
  ·subst hi;intro p hp;rw[t2] at hp;cases hp
  ·subst hi;exact⟨i,by simp,s1,hx⟩
  ·simp only[List.mem_cons,xau,or_false] at hj;exact absurd (hi.trans hj.symm) hij
  ·subst hi;exact⟨(hr.kept i l hl).1,by rw[g2];rfl,t2⟩
 refine hturn.fin hr (fun i hi r hri=>?_);simp only[List.mem_cons,xau,or_false] at hi;subst hi;rw[g2] at hri;cases hri
 refine⟨b,vs,e,fun _=>[], ?_,h2,by simpa using h3,by rw[h1];simp,fun x hx=>⟨?_,hbd x hx⟩,fun j hj hjv=>?_⟩
 ·rw[h1];simp
 ·rw[h1] at hx;simp at hx;subst hx;exact h4
 ·simp only[xac] at hj;have h6:=h5 j hj hjv;simp only[List.getElem_map];have h7:RelA G (tokf ((i,some (Res.tree (cs.map (upC m))))::hp)) w cs[j] vs[j]:=hturn.cell hr hb (xao hj) h6;generalize cs[j]=x at h7;generalize vs[j]=v at h7;cases h7 with
  |d h=>
   rename_i y;by_cases hy:y = .sl []
   ·subst hy;exact TreeD.ofFlat Z (.inl hm) h
   ·have:upC m (.d y) = .d y:=by
     unfold upC;split
     ·rename_i he;cases he;exact absurd Z hy
     ·rename_i he;cases he
     ·rfl
    rw[this];exact⟨rfl,.d h⟩
  |nils=>exact TreeD.nil
  |gl h ht=>exact⟨rfl,.gl h ht⟩
  |gv h ht=>exact⟨rfl,.gv h ht⟩
  |gt h ht=>exact⟨rfl,.gt h ht⟩
  |ref h hT=>exact⟨rfl,.ref h hT⟩
  |ms h hT hc=>exact⟨rfl,.ms h hT hc⟩
  |mo h hT hc ho=>exact⟨rfl,.mo h hT hc ho⟩
  |mc h hT hc=>exact⟨rfl,.mc h hT hc⟩
  |gaD hv hT=>exact⟨rfl,.gaD hv hT⟩
  |gaL hj hT hl hF hb hck hn hcs hr=>exact⟨rfl,.gaL hj hT hl hF hb hck hn hcs hr⟩
  |gpD hv hT=>exact⟨rfl,.gpD hv hT⟩
  |gpL hj hT hl hF hb hs hr=>exact⟨rfl,.gpL hj hT hl hF hb hs hr⟩
  |ght hv h=>exact⟨rfl,.ght hv h⟩
  |gh hv h=>exact⟨rfl,.gh hv h⟩
  |mapr h hT=>exact⟨rfl,.mapr h hT⟩
  |fn hn h=>exact⟨rfl,.fn hn h⟩
  |agg hn h=>exact⟨rfl,.agg hn h⟩
  |tup hn h=>exact⟨rfl,.tup hn h⟩
  |sn h hn=>exact⟨rfl,.sn h hn⟩
  |any v=>exact⟨rfl,.any v⟩
theorem CWp.boxTree (id:Nat){cs cs':List AV} (m:Bool) (hm:m=false) (hb:getH hp id=some (.box cs)) (hu:cs.map (upC m)=cs') (hn:CWp c code ⟨env,(id,some (.tree cs'))::hp⟩ K):CWp c code ⟨env,hp⟩ K:=by
 subst hu;rintro a w ⟨G,hr⟩
 exact hn a w ⟨G,hr.boxTree m hm hb⟩
end
section
variable {c:Ctx}{all:Array Oper}{chk:List Rec->Prop}{os:List Oper}{recs:List Rec}{env:Env}{hp:Hp}{Q:St->Prop}
variable {d ty:Nat}{pos:String}{af:Array Edge}{g:Option (Nat×Bool)}{pg:List (Nat×AV)}
variable {t k id off:Nat}{x y:Operand}
theorem TreeR.head {G:Gh}{T:TokF}{w:World}{id:Nat}{cs:List AV}{b b':Nat}{vs:Array Value}{e:TypeId}{Ss:Nat->List Nat} (h:TreeR G T w id cs b vs e Ss) (h2:(G.loc id).head?=some b'):b'=b:=by
 rw[h.loc] at h2;exact(Option.some.inj h2).symm
end
section
variable {c:Ctx}
theorem R.setTree {G:Gh}{s:St}{a:Act}{w:World} (hr:R c G s a w){id b:Nat}{cs cs':List AV}{vs vs':Array Value}{e:TypeId}{Ss Ss':Nat->List Nat} (hb:getH s.hp id=some (.tree cs))
  (hT:TreeR G (tokf s.hp) w id cs b vs e Ss) (hlen:cs'.length=cs.length) (hsz:vs'.size=vs.size) (hsub:∀i,i<cs.length->(Ss' i).Sublist (Ss i))
  (hcell:∀i (hi:i<cs'.length) (hv:i<vs'.size),CellR G (tokf s.hp) w cs'[i] vs'[i] (Ss' i)):
  ∃G',R c G' ⟨s.env,(id,some (.tree cs'))::s.hp⟩ a (w.setRow b vs')/\G'.F=G.F:=by
 have htok:tokf ((id,some (.tree cs'))::s.hp)=tokf s.hp:=by
  funext i
  unfold tokf;rw[zag];by_cases h:i=id
  ·subst h;rw[if_pos rfl,hb]
  ·rw[if_neg h]
 have hTn:tokf s.hp id=none:=by unfold tokf;rw[hb]
 have hother:∀k,k≠b->(w.setRow b vs').heap[k]?=w.heap[k]?:=fun k hk=>setRow_other w b k vs' hk;have hbl:b∈G.loc id:=by rw[hT.loc];simp
 have hF:=(hT.mine b hbl).1;have hnd:=hT.nodup;rw[hT.loc] at hnd;have hnd':=List.nodup_cons.1 hnd;let G':Gh:={ G with loc:=fun i=>bif Nat.beq i id then b::(List.range cs'.length).flatMap Ss' else G.loc i }
 have l1:G'.loc id=b::(List.range cs'.length).flatMap Ss':=by simp[G']
 have l3:∀i,i≠id->G'.loc i=G.loc i:=fun i h2=>by simp[G',zeM h2]
 have hsubl:((List.range cs'.length).flatMap Ss').Sublist ((List.range cs.length).flatMap Ss):=by
  rw[hlen];exact zdc hnd'.2 (fun i hi=>hsub i (by simpa using hi))
 have hsub2:∀x,x∈G'.loc id->x∈G.loc id:=fun x hx=>by
  rw[l1] at hx;rw[hT.loc];rcases List.mem_cons.1 hx with h|h
  ·simp[h]
  ·exact List.mem_cons_of_mem _ (hsubl.subset h)
 have hsub3:∀i x,x∈G'.loc i->x∈G.loc i:=fun i x hx=>by
  by_cases hi:i=id
  ·subst hi;exact hsub2 x hx
  ·rw[l3 i hi] at hx;exact hx
 have hcl:∀b' o,o<G.F b'->o<G.F b'/\(w.setRow b vs').cell? ⟨b',o,none⟩=w.cell? ⟨b',o,none⟩:=fun b' o ho=>by
  have hne:b'≠b:=fun e=>by subst e;rw[hF] at ho;omega
  exact⟨ho,cell_setRow_other w b vs' _ hne⟩
 have hs0:(getH s.hp id).isSome:=by rw[hb];rfl
 have hne:∀i,(getH s.hp i).isSome->i≠id->∀b',b'∈G.loc i->b'≠b:=fun i hi hne b' hb' e=>by
  subst e;exact hr.disj i id hi hs0 hne b' hb' hbl
 have hm:∀ {x:AV}{v:Value},RelA G (tokf s.hp) w x v->RelA G' (tokf s.hp) (w.setRow b vs') x v:=fun hx=>
  hx.mono hcl (fun i _=>by
   by_cases hi:i=id
   ·subst hi;exact .inr ⟨hTn,by rw[l1,hT.loc];rfl⟩
   ·exact .inl (l3 i hi)) (fun i _ p hp=>⟨hp,fun b' hb'=>⟨hother b' (hne i ?_ ?_ b' hb'),rfl⟩⟩)
 ·have hget:∀i,(getH ((id,some (Res.tree cs'))::s.hp) i).isSome->(getH s.hp i).isSome:=fun i h=>by
   rw[zag] at h;split at h
   ·rename_i e;subst e;exact hs0
   ·exact h
  have hbnew:=hr.new id hs0 b hbl;refine⟨G',⟨hr.size,hr.defers,fun i v h=>by rw[htok];exact hm (hr.slots i v h),fun i r h=>?_,fun i j h1 h2 h3 x hx hx2=>hr.disj i j (hget i h1) (hget j h2) h3 x (hsub3 i x hx) (hsub3 j x hx2),
   fun i h x hx=>hr.new i (hget i h) x (hsub3 i x hx),
   hr.frm.trans (own1:=[b]) ⟨rfl,rfl,rfl,by simp,fun k _ hk=>⟨hother k (fun e=>hk (by simp[e])),rfl⟩,hcl⟩ (fun k hk=>by simp only[List.mem_singleton] at hk;subst hk;exact hbnew),
   fun k hk=>hr.top k (by simpa using hk),fun i l hl'=>?_⟩,rfl⟩
  ·rw[htok];have h':getH ((id,some (Res.tree cs'))::s.hp) i=some r:=h;rw[zag] at h';by_cases hi:i=id
   ·subst hi;rw[if_pos rfl] at h';cases h'
    refine⟨b,vs',e,Ss',l1,setRow_heap w b vs vs' e _ hT.at_,by rw[hlen,hsz];exact hT.len, ?_,fun x hx=>?_,fun j hj hv=>(hcell j hj hv).map hm (fun x hx=>hother x (fun e=>?_))⟩
    ·rw[l1];exact List.nodup_cons.2 ⟨fun h=>hnd'.1 (hsubl.subset h),hsubl.nodup hnd'.2⟩
    ·have:=hT.mine x (hsub2 x hx);exact⟨this.1,by simpa using this.2⟩
    ·subst e;exact hnd'.1 (List.mem_flatMap.2 ⟨j,List.mem_range.2 oc,(hsub j oc).subset hx⟩)
   ·rw[if_neg hi] at h';have hh:=hr.heap i r h';have hs:(getH s.hp i).isSome:=by rw[h'];rfl
    have hne':=hne i hs hi;have hl:=l3 i hi;cases r with
    |box cs2=>
     obtain⟨b2,vs2,e2,h1,h2,h3,h4,h5⟩:=hh;exact⟨b2,vs2,e2,hl.trans h1,(hother b2 (hne' b2 (by simp[h1]))).trans h2,h3,h4,fun j hj hv=>hm (h5 j hj hv)⟩
    |tok n k=>exact fun b2 h1=>by rw[hl] at h1;simpa using hh b2 h1
    |map ks=>
     obtain⟨b2,es,cl,h1,h2,h3⟩:=hh;exact⟨b2,es,cl,hl.trans h1,(hother b2 (hne' b2 (by simp[h1]))).trans h2,h3⟩
    |tree cs2=>exact zaV hh hl (fun b' hb'=>⟨hother b' (hne' b' hb'),Z⟩) oe (fun _ _ _=>hm)
  ·have hk:=hr.kept i l hl';show(G'.loc i).head?=l.head?/\(getH ((id,some (Res.tree cs'))::s.hp) i).isSome/\tokf ((id,some (Res.tree cs'))::s.hp) i=none
   refine⟨?_, ?_,by rw[htok];exact hk.2.2⟩
   ·by_cases hi:i=id
    ·subst hi;rw[l1,<-hk.1,hT.loc];rfl
    ·rw[l3 i hi];exact hk.1
   ·rw[zag];split
    ·rfl
    ·exact hk.2.1
 ·obtain⟨n,q⟩:=p;rw[zam.1 hp];rfl
 ·rintro rfl
  rw[hTn] at hp;cases hp
end
section
variable {c:Ctx}{all:Array Oper}{chk:List Rec->Prop}{os:List Oper}{recs:List Rec}{env:Env}{hp:Hp}{Q:St->Prop}
variable {d ty:Nat}{pos:String}{af:Array Edge}{g:Option (Nat×Bool)}{pg:List (Nat×AV)}
variable {t yt:TypeId}{x y:Operand}
theorem Walk.storeT {id off k:Nat}{b:Bool}{v:AV}{cs vs cs':List AV} (ht:TyS c.P t k b) (hg:GH all env g pg) (hx:opd env x=some (.ref id off)) (hy:opd env y=some v)
  (hb:getH hp id=some (.tree cs)) (hv:zaQ v=some vs) (hk:vs.length=k) (h1:zfw vs=true) (hne:vs≠[]) (hput:putC cs off vs=some cs')
  (hn:Walk c all chk os (zah (pg++(opF x (.ref id off)++opF y v)) [(id,.tree cs)] [] ⟨none,[(id,some (.tree cs'))]⟩::recs) ⟨env,(id,some (.tree cs'))::hp⟩ Q):
  Walk c all chk (⟨none,.store t x y,ty,pos,af,g⟩::os) recs ⟨env,hp⟩ Q:=by
 refine⟨pg++(opF x (.ref id off)++opF y v),[(id,.tree cs)],[],_, ?_,zar hg.facts (zar (zaY hx) (zaY hy)),hh1 hb,by simp,hn⟩;intro s a w hrel hp' hh _ K Q' hK;obtain⟨G,hr⟩:=hrel;have hbx:=hh1' hh;have e1:=hr.opd (zaZ hx (fun p hm=>hp' p (by simp[hm])));have e2:=hr.opd (zaZ hy (fun p hm=>hp' p (by simp[hm])));obtain⟨bl,hl,he⟩:=e1.ref_eq;obtain⟨b',us,e,Ss,hT⟩:=hr.heap id _ hbx;obtain rfl:=hT.head hl.1;have hvr:=zet e2 hv;obtain⟨p1,p2,p3⟩:=zcd hput;have p2':=p2.resolve_left hne;have hsz:=hvr.size;have h4:=hT.len;let vl:=(a.eval y).cells.toList
 have hvl:vl.length=vs.length:=by simp[vl,hsz]
 have hst:=run_storeCells_at c.P bl off e vl 0 us w hT.at_ oc (fun u hu=>by
  obtain⟨i,hi,rfl⟩:=List.getElem_of_mem hu;have hi':i<vs.length:=by omega
  have:=hvr.rel i hi' (by simpa [vl] using hi);simpa [vl] using this.one (zfL h1 _ (xao hi')))
 simp only[Nat.add_zero] at hst;let row:Array Value:=(us.toList.take off++vl++us.toList.drop (off+vl.length)).toArray
 have hrs:row.size=us.size:=by
  simp only[row,List.size_toArray,xaa,List.length_take,List.length_drop,Array.length_toList];omega
 have hrow:∀i,row[i]?=if off<=i/\i<off+vl.length then vl[i-off]? else us[i]?:=fun i=>by
  simp only[row,List.getElem?_toArray];rw[xar,List.getElem?_append];simp only[List.length_take,Array.length_toList];by_cases hi:i<off
  ·rw[if_pos oc,if_neg oc];simp[hi]
  ·rw[if_neg oc,List.getElem?_append];have hm:min off us.size=off:=by omega
   rw[hm];by_cases hi2:i<off+vl.length
   ·rw[if_pos oc,if_pos oc]
   ·rw[if_neg oc,if_neg oc];rw[List.getElem?_drop,show off+vl.length+(i-off-vl.length)=i by omega];simp
 let Ss':Nat->List Nat:=fun i=>if off<=i/\i<off+vs.length then [] else Ss i
 obtain⟨G',hR,_⟩:=hr.setTree (cs':=cs') (vs':=row) (Ss':=Ss') hbx hT p1 hrs (fun i hi=>by
  simp only[Ss'];split
  ·exact List.nil_sublist _
  ·exact List.Sublist.refl _) (fun i hi hvi=>by
  have q1:=p3 i;have q2:=hrow i;rw[xan hi] at q1;rw[Array.getElem?_eq_getElem hvi,hvl] at q2;by_cases hc:off<=i/\i<off+vs.length
  ·rw[if_pos hc] at q1 q2;have hlt:i-off<vs.length:=by omega
   have hlt':i-off<(a.eval y).cells.size:=by omega
   rw[xan hlt] at q1;have q3:vl[i-off]?=some (a.eval y).cells[i-off]:=by simp[vl,hlt']
   rw[q3] at q2;have h5:Ss' i=[]:=by simp[Ss',hc]
   rw[h5,Option.some.inj q1,Option.some.inj q2];have h6:=hvr.rel (i-off) hlt hlt';revert h6
   generalize vs[i-off]=z;intro h6;cases z with
   |own m y=>cases h6
   |_=>exact⟨rfl,h6⟩
  ·rw[if_neg hc] at q1 q2;have hlt:i<cs.length:=by omega
   have hlt':i<us.size:=by omega
   rw[xan hlt] at q1;rw[Array.getElem?_eq_getElem hlt'] at q2;have h5:Ss' i=Ss i:=by simp only[Ss'];rw[if_neg hc]
   rw[h5,Option.some.inj q1,Option.some.inj q2];exact hT.cell i hlt hlt')
 unfold wpO;rw[if_pos (hg.gf.wanted hr (fun p hm=>hp' p (by simp[hm])))];unfold Oper.wp;have hrun:(execOp a.eval ⟨none,.store t x y,ty,pos,af,g⟩).run c.P w = .ok .skip (w.setRow bl row):=by
  have hsz2:(a.eval y).cells.size=k:=by omega
  simp only[execOp,he,Instr.storeAt,Instr.sureAddr,Sem.run_bind,Sem.run_pure,Result.andThen_ok,storeVar,ht.run_size];simp only[hsz2,ne_eq,not_true_eq_false,if_false];have hst':=hst;simp only[vl] at hst';simp only[Result.andThen_ok,hst',row,vl]
 rw[hrun,Oper.upon_skip];exact hK _ _ ⟨G',hR.putNone⟩
end
def zbI:AV->Bool
 | .d x=>zd1 x
 | .nils=>true
 | .ref _ _=>true
 | .ms _ _=>true
 | .gt _ _=>true
 | .tup vs=>flatL vs
 | .agg vs=>flatL vs
 | .any=>true
 |_=>false
where flatL:List AV->Bool
 | []=>true
 |x::r=>zbI x&&flatL r
theorem zhO:∀ {l:List AV},zbI.flatL l=true->∀i (hi:i<l.length),zbI l[i]=true
 |x::r,h,i,hi=>by
  simp only[zbI.flatL,xad] at h;cases i with
  |zero=>exact h.1
  |succ i=>exact zhO h.2 i (by simpa using hi)
theorem RelD.flat {F F':Nat->Nat}{w w':World}{x:D}{v:Value} (hf:zd1 x=true) (h:RelD F w x v):RelD F' w' x v:=by
 cases h with
 |int k n=>exact .int _ _
 |bool b=>exact .bool _
 |str s=>exact .str _
 |nil=>exact .nil
 |emp b off s cap=>exact .emp b off s cap
 |sl xs k b off cap c hk hcap hc hr=>
  cases xs with
  |nil=>exact .sl [] k b off cap c hk hcap (fun n hn=>by simp at hn) (fun i hi=>by simp at hi)
  |cons x r=>simp[zd1] at hf
 |ptr cs b o off c hc hr=>simp[zd1] at hf
 |nilp=>simp[zd1] at hf
theorem RelA.flat {G G':Gh}{T:TokF}{w:World}{x:AV}{v:Value} (h:RelA G T w x v):zbI x=true->(∀id,id∈x.ids->G'.loc id=G.loc id)->(∀id,id∈x.ids->∀b,b∈G.loc id->G'.F b=G.F b)->RelA G' T w x v:=by
 induction h with
 |d h=>intro hf _ _;exact .d (h.flat hf)
 |gl h ht=>intro hf;simp[zbI] at hf
 |gv hv ht=>intro hf;simp[zbI] at hf
 | @gt id xs v hv ht=>
  intro hf hl hF;refine .gt hv (fun n k hT=>⟨(ht n k hT).1,fun hn=>?_⟩);obtain⟨h1,h2⟩:=(ht n k hT).2 hn;exact⟨h1,h2.mono hn h1 (hl id oi) (fun b hb=>⟨rfl,hF id oi b hb⟩)⟩
 |ref h hT=>intro hf hl _;exact .ref (by rw[hl _ oi];exact h) hT
 |ms h hT hcap=>intro hf hl _;exact .ms (by rw[hl _ oi];exact h) hT hcap
 |mo h hT hcap ho=>intro hf;simp[zbI] at hf
 |mc h hT hcap=>intro hf;simp[zbI] at hf
 |gaD hv hT=>intro hf;simp[zbI] at hf
 |gpD hv hT=>intro hf;simp[zbI] at hf
 |gpL hj hT hl hF hb hs hr ih=>intro hf;simp[zbI] at hf
 |ght hv h=>intro hf;simp[zbI] at hf
 |gh hv h=>intro hf;simp[zbI] at hf
 |gaL hj hT hl hF hb hck hn hcs hr ih=>intro hf;simp[zbI] at hf
 |mapr h hT=>intro hf;simp[zbI] at hf
 |fn hn h ih=>intro hf;simp[zbI] at hf
 | @agg cs vs hn h ih=>
  intro hf hl hF;simp only[zbI] at hf;exact .agg hn (fun i hi hv=>ih i hi hv (zhO hf i hi) (fun id hid=>hl id (by simp only[AV.ids];exact xay (xao hi) hid)) (fun id hid=>hF id (by simp only[AV.ids];exact xay (xao hi) hid)))
 | @tup cs vs hn h ih=>
  intro hf hl hF;simp only[zbI] at hf;exact .tup hn (fun i hi hv=>ih i hi hv (zhO hf i hi) (fun id hid=>hl id (by simp only[AV.ids];exact xay (xao hi) hid)) (fun id hid=>hF id (by simp only[AV.ids];exact xay (xao hi) hid)))
 |nils=>intro _ _ _;exact .nils
 |sn h hn=>intro hf;simp[zbI] at hf
 |any v=>intro _ _ _;exact .any v
mutual
inductive Lent (lr:List (Nat×Res)):AV->AV->Prop
 |le {x y} (h:LeA x y):Lent lr x y
 |ms {id n m k}{xs:List (List D)} (hb:(id,.tree (zao m xs))∈lr) (hk:∀x,x∈xs->x.length=k) (hn:n=xs.length):Lent lr (.ms id n) (.d (.sl xs))
 |msB {id n k}{cs:List AV}{xs:List (List D)} (hb:(id,.box cs)∈lr) (hk:∀x,x∈xs->x.length=k) (hn:n=xs.length) (hc:cs.take (n*k)=xs.flatten.map .d):Lent lr (.ms id n) (.d (.sl xs))
 |agg {cs ds} (h:LentL lr cs ds):Lent lr (.agg cs) (.agg ds)
inductive LentL (lr:List (Nat×Res)):List AV->List AV->Prop
 |nil:LentL lr [] []
 |cons {x y l m} (h:Lent lr x y) (t:LentL lr l m):LentL lr (x::l) (y::m)
end
theorem LentL.len {lr:List (Nat×Res)}:∀ {cs ds:List AV},LentL lr cs ds->cs.length=ds.length
 | [],_,h=>by cases h;rfl
 |x::r,_,h=>by cases h with|cons h t=>simp[t.len]
theorem LentL.at {lr:List (Nat×Res)}:∀ {cs ds:List AV},LentL lr cs ds->∀i (hi:i<cs.length) (hj:i<ds.length),Lent lr cs[i] ds[i]
 | [],_,_,i,hi,_=>by simp at hi
 |x::r,_,h,i,hi,hj=>by
  cases h with
  |cons h t=>
   cases i with
   |zero=>exact h
   |succ i=>exact LentL.at t i (by simpa using hi) (by simpa using hj)
def zhm:D->Bool
 | .int _ _=>true
 | .bool _=>true
 | .str _=>true
 |_=>false
theorem zi6 {x:D} (h:zhm x=true):zd1 x=true/\x≠ .sl []:=by
 cases x with
 |sl _=>simp[zhm] at h
 |ptr _ _=>simp[zhm] at h
 |nilp=>simp[zhm] at h
 |_=>exact⟨rfl,fun h=>by cases h⟩
def FlatR (xs:List (List D)):Prop:=∀x,x∈xs->∀y,y∈x->zhm y=true
theorem TipV.tree {G:Gh}{w:World}{id n k:Nat}{v:Value}{xs:List (List D)} (hf:FlatR xs) (hne:n≠0) (hk:∀x,x∈xs->x.length=k) (h:TipV G w id n k v xs):TipT G w id n k v xs:=by
 rcases h with ⟨h1,h2,h3⟩|⟨b,cap,cs,e,h1,h2,h3,h4,h5,h6,h7⟩
 ·exact .inl ⟨h1,h2,h3⟩
 ·refine .inr ⟨b,cap,cs,e,fun _=>[],by rw[h1];simp,h2,h4,h5,h6,by rw[h1];simp,fun b' hb'=>?_,fun i hi j hj=> .ofFlat (zi6 (hf _ (xao hi) _ (xao hj))).1 (.inr (zi6 (hf _ (xao hi) _ (xao hj))).2) (h7 i hi j hj),fun h=>absurd h hne⟩;rw[h1] at hb';simp only[List.mem_singleton] at hb';rw[hb'];exact h3
theorem zlj {α:Type}{o j:Nat}:∀ {A B B' vs:List α},A.length=o->putC B j vs=some B'->putC (A++B) (o+j) vs=some (A++B'):=by
 intro A B B' vs ha h;subst ha;induction A with
 |nil=>simpa using h
 |cons x r ih=>
  cases vs with
  |nil=>
   have e:B'=B:=by cases B<;>simp only[putC,xae] at h<;>exact h.symm
   subst e;simp[putC]
  |cons v vs=>
   have:(x::r).length+j=r.length+j+1:=by simp;omega
   rw[this];simp only[xai,putC,ih]
theorem zno {α:Type}{o j:Nat}{A B:List α}{v:α} (ha:A.length=o) (h:B[j]?=some v):(A++B)[o+j]?=some v:=by
 subst ha;rw[List.getElem?_append_right oc];simpa using h
theorem zm9 {α:Type}{o:Nat}{A B B' vs:List α} (h1:A.length=o) (h2:putC B 0 vs=some B'):putC (A++B) o vs=some (A++B'):=zlj (j:=0) h1 h2
theorem zm8 {α:Type}{o:Nat}{A vs zs:List AV}{y:α}{rest:List α} (h1:A.length=o) (h2:zs.length=vs.length):putC (A++zaD (y::rest).length zs) o vs=some (A++(vs++zaD rest.length zs)):=
 zm9 (B:=zs++zaD rest.length zs) h1 (zgY h2)
theorem zlk {α:Type}{v x:α}:∀ {B:List α}{j:Nat},B[j]?=some x->putC B j [v]=some (B.set j v)
 | [],j,h=>by simp at h
 |y::r,0,_=>by simp only[putC,List.set_cons_zero]
 |y::r,j+1,h=>by simp only[putC,List.set_cons_succ,zlk (B:=r) (j:=j) (by simpa using h)]
def SubO:List Nat->Hp->Hp->Prop
 |_,[],_=>True
 |seen,(i,r)::t,hp=>(zaJ i seen=true\/getH hp i=r)/\SubO (i::seen) t hp
theorem SubO.get':∀ {l hp:Hp}{seen:List Nat},SubO seen l hp->∀id r,id∉seen->getH l id=some r->getH hp id=some r
 | [],hp,seen,_,id,r,_,h=>by cases h
 |(i,x)::t,hp,seen,h,id,r,hns,hg=>by
  rw[zag] at hg;by_cases hi:id=i
  ·subst hi;rw[if_pos rfl] at hg;rcases h.1 with h1|h1
   ·exact absurd (zaz.1 h1) hns
   ·rw[h1];exact hg
  ·rw[if_neg hi] at hg;exact SubO.get' h.2 id r (by simp[hi,hns]) hg
theorem SubO.get {l hp:Hp} (h:SubO [] l hp):HSub l hp:=fun id r hg=>SubO.get' h id r oe hg
theorem HSub.over {i:Nat}{r r':Option Res}{hp:Hp} (h:getH hp i=r'):HSub ([(i,r')]++[(i,r)]) hp:=fun id x hx=>by
 have hx':getH ((i,r')::[(i,r)]) id=some x:=hx;rw[zag] at hx';by_cases hi:id=i
 ·subst hi;rw[if_pos rfl] at hx';rw[h];exact hx'
 ·rw[if_neg hi,zag,if_neg hi] at hx';cases hx'
theorem zhL (n:Nat) (zs:List AV):AV.idsL (zaD n zs)=(List.replicate n (AV.idsL zs)).flatten:=by
 induction n with
 |zero=>rfl
 |succ n ih=>simp only[zaD,zci,ih,List.replicate_succ,List.flatten_cons]
theorem znb (n:Nat):(List.replicate n ([]:List Nat)).flatten=[]:=by
 induction n with
 |zero=>rfl
 |succ n ih=>simp only[List.replicate_succ,List.flatten_cons,ih,List.nil_append]
theorem LeA.msn {id n n':Nat} (h:n=n'):LeA (.ms id n) (.ms id n'):=h ▸ .refl _
theorem zjp (f:AV->AV) (zs:List AV):∀n,(zaD n zs).map f=zaD n (zs.map f)
 |0=>rfl
 |n+1=>by simp[zaD,zjp f zs n]
def mkL {α:Type} (one:Int->α->α) (sz:α->Int):Int->List α->List α
 |_,[]=>[]
 |k,x::r=>one k x::mkL one sz (k+sz x) r
def szL {α:Type} (sz:α->Int):List α->Int
 | []=>0
 |x::r=>sz x+szL sz r
theorem zlP {α:Type}{one:Int->α->α}{sz:α->Int}:∀ {a:List α}{k:Int},(mkL one sz k a).length=a.length
 | [],_=>rfl
 |x::r,k=>by simp only[mkL,xab,zlP (a:=r)]
def zfd:List (List D)->Option (List Int)
 | []=>some []
 | [.int .u8 n]::r=>match zfd r with|some l=>some (n::l)|none=>none
 |_=>none
theorem ziY:∀ {xs:List (List D)}{ns:List Int},zfd xs=some ns->xs=ns.map fun n=>[.int .u8 n]
 | [],ns,h=>by simp only[zfd,xae] at h;subst h;rfl
 |x::r,ns,h=>by
  unfold zfd at h;split at h
  ·cases ‹_::_=[]›
  ·rename_i n r' he;cases he
   cases hr:zfd r with
   |none=>simp[hr] at h
   |some l=>
    simp only[hr,xae] at h;subst h;rw[ziY hr];rfl
  ·cases h
theorem zfe:∀(bs:List UInt8),zfd (bs.map fun b=>[.int .u8 (b.toNat:Int)])=some (bs.map fun b=>(b.toNat:Int))
 | []=>rfl
 |b::r=>by simp only[xaf,zfd,zfe r]
def strN (ns:List Int):List UInt8:=ns.map fun n=>UInt8.ofNat n.toNat
section
variable {c:Ctx}{all:Array Oper}{chk:List Rec->Prop}{os:List Oper}{recs:List Rec}{env:Env}{hp:Hp}{Q:St->Prop}
variable {d ty:Nat}{pos:String}{af:Array Edge}{g:Option (Nat×Bool)}{pg:List (Nat×AV)}
variable {t yt:TypeId}{x y:Operand}
theorem xba {e yb:Nat}{xs:List (List D)}{ns:List Int}{vx:AV} (ht:SlT c.P t e 1 yb) (hyt:c.P.underlying yt=some .string) (hu:c.P.underlying e=some (.int .u8)) (hg:GH all env g pg) (hd:Nat.blt d c.n=true)
  (hx:opd env x=some vx) (hv:vx.toD=some (.sl xs)) (hns:zfd xs=some ns)
  (hn:Walk c all chk os (zah (pg++opF x vx) [] [] ⟨some (d,.d (.str (strN ns))),[]⟩::recs) ⟨(d,.d (.str (strN ns)))::env,hp⟩ Q):
  Walk c all chk (⟨some d,.convert t yt x,ty,pos,af,g⟩::os) recs ⟨env,hp⟩ Q:=
 xbq hg hd hx (fun a G T w h=>⟨.string ⟨(strN ns).toArray⟩,by
  have h1:=h.toD hv;have hxs:=ziY hns;subst hxs;rcases h1.sl_cells (k:=1) (by intro e he;obtain⟨n,_,rfl⟩:=List.mem_map.1 he;rfl) with ⟨oa,cap,h2,h3,h4⟩|⟨b,off,cap,news,h2,h3,h4,h5,h6,h7⟩
  ·have hn0:ns=[]:=by simpa using h3
   subst hn0;cases oa with
   |none=>
    have:=run_convert_bytes_nil (P:=c.P) w t e ht.und hu 0 cap yt hyt;simp only[execOp,h2,Sem.run_bind,this,Result.andThen_ok,Sem.run_pure];rfl
   |some ad=>
    have h8:(loadCells ad 0).run c.P w = .ok (([]:List Int).map (Value.int .u8)).toArray w:=run_loadCells_list (P:=c.P) w ad [] (fun j v hj=>by simp at hj);have h9:=run_bytesToString (P:=c.P) w ad 0 cap [] h8;have:=run_convert_bytes_string (P:=c.P) w t yt e (some ad) 0 cap ht.und hu hyt;rw[h9] at this;simp only[execOp,h2,Sem.run_bind,this,Result.andThen_ok,Sem.run_pure];rfl
  ·have hlen:ns.length=(ns.map fun n=>[D.int .u8 n]).length:=by simp
   have:=run_convert_bytes_arg (P:=c.P) w t e ht.und hu b off _ cap ns hlen (fun i hi=>by
    have hi':i<ns.length:=by simpa using hi
    have hin:i<news.length:=by rw[h4];simpa using hi'
    have h8:=(h5 i _ (xan hin)).2;rw[h8];have h9:=h7 i hi 0 oe (by simpa using hin);simp only[List.getElem_map,List.getElem_cons_zero,Nat.mul_one,Nat.add_zero] at h9;generalize news[i]=u at h9;cases h9
    simp[List.getD,xan hi']) yt hyt
   simp only[execOp,h2,Sem.run_bind,this,Result.andThen_ok,Sem.run_pure];rfl,.d (.str _)⟩) hn
end
mutual
def renA (i j:Nat):AV->AV
 | .ms a n=>if a=i then .ms j n else .ms a n
 | .agg cs=> .agg (renL i j cs)
 | .tup cs=> .tup (renL i j cs)
 |x=>x
def renL (i j:Nat):List AV->List AV
 | []=>[]
 |x::r=>renA i j x::renL i j r
end
def zas (i:Nat):AV->Bool
 | .ms a _=>Nat.beq a i
 | .d _=>true
 | .nils=>true
 | .agg cs=>soleL cs
 | .tup cs=>soleL cs
 |_=>false
where soleL:List AV->Bool
 | []=>true
 |x::r=>zas i x&&soleL r
theorem zdl (i j:Nat):∀l:List AV,(renL i j l).length=l.length
 | []=>rfl
 |x::r=>by simp[renL,zdl i j r]
theorem zhl (i j:Nat):∀(l:List AV) (q:Nat) (h:q<l.length) (h':q<(renL i j l).length),(renL i j l)[q]=renA i j l[q]
 |x::r,0,_,_=>rfl
 |x::r,q+1,h,h'=>by simp only[renL,List.getElem_cons_succ];exact zhl i j r q (by simpa using h) (by simpa [renL] using h')
theorem zf2 (i:Nat):∀ {l:List AV},zas.soleL i l=true->∀q (h:q<l.length),zas i l[q]=true
 |x::r,hs,q,h=>by
  simp only[zas.soleL,xad] at hs;cases q with
  |zero=>exact hs.1
  |succ q=>exact zf2 i hs.2 q (by simpa using h)
theorem RelA.ren {G G':Gh}{T T':TokF}{w:World}{i j:Nat}{x:AV}{v:Value} (h:RelA G T w x v) (hF:G'.F=G.F) (hl:G'.loc j=G.loc i) (hT:T' j=none):zas i x=true->RelA G' T' w (renA i j x) v:=by
 induction h with
 |d h=>intro _;exact .d (h.mono (fun b o ho=>⟨by rw[hF];exact ho,Z⟩))
 | @ms a n b cap h _ hc=>
  intro hs;simp only[zas] at hs;obtain rfl:=xap hs;simp only[renA,if_true];exact .ms (by rw[hl];exact h) hT hc
 | @agg cs vs hn h ih=>
  intro hs;simp only[zas] at hs;simp only[renA];exact .agg (by rw[zdl];exact hn) (fun q hq hv=>by
   have hq':q<cs.length:=by rw[zdl] at hq;exact hq
   rw[zhl i j cs q hq' hq];exact ih q hq' hv (zf2 i hs q hq'))
 | @tup cs vs hn h ih=>
  intro hs;simp only[zas] at hs;simp only[renA];exact .tup (by rw[zdl];exact hn) (fun q hq hv=>by
   have hq':q<cs.length:=by rw[zdl] at hq;exact hq
   rw[zhl i j cs q hq' hq];exact ih q hq' hv (zf2 i hs q hq'))
 |nils=>intro _;exact .nils
 |_=>intro hs;simp[zas] at hs
theorem FnD.out_ren {P:Program}{f:FuncId}{i:Nat}{args:List AV}{r:AV}{cs:List AV} (hc:AV.idsL cs=[]) (hs:zas i r=true) (h:FnD P f args [] r [(i,some (.tree cs))]) (j:Nat):
  FnD P f args [] (renA i j r) [(j,some (.tree cs))]:=by
 intro G w vals hok;refine(h G w vals hok).mono ?_;rintro e w' ⟨v,r',hp',G',rfl,⟨rfl,rfl⟩,hret⟩
 have gi:getH ([(i,some (Res.tree cs))]++[]) i=some (.tree cs):=by simp[getH]
 have gj:getH ([(j,some (Res.tree cs))]++[]) j=some (.tree cs):=by simp[getH]
 have only:∀ {a id:Nat}{x y:Res},getH ([(a,some x)]++[]) id=some y->id=a/\y=x:=fun {a id x y} h=>by
  have h':getH [(a,some x)] id=some y:=h;rw[zag] at h';split at h'
  ·rename_i e;cases h';exact⟨e,rfl⟩
  ·cases h'
 let G2:Gh:={ G' with loc:=fun x=>G'.loc i }
 have hown:∀b,b∉zbE G []:=fun b hb=>by simp[zbE] at hb
 refine⟨v,_,_,G2,rfl,⟨rfl,rfl⟩,hret.res.ren rfl rfl (by unfold tokf;rw[gj]) hs,fun id x hx=>?_,fun id id' h1 h2 hne=>?_,fun id h1 b hb=>hret.new i (by rw[gi];rfl) b hb,hret.frm,hret.top,fun id hi=>?_⟩
 ·obtain⟨rfl,rfl⟩:=only hx;obtain⟨bl,vs,e,Ss,h1,h2,h3,h4,h5,h6⟩:=hret.heap i _ gi;refine⟨bl,vs,e,Ss,h1,h2,h3,h4,h5,fun q hq hv=>(h6 q hq hv).map (fun hx=>?_) (fun _ _=>rfl)⟩;have hn:∀a,a∉(cs[q]).ids:=fun a ha=>by
   have:=xay (xao hq) ha;rw[hc] at this;simp at this
  exact hx.mono (fun _ _ ho=>⟨ho,Z⟩) (fun a ha=>(hn a ha).elim) (fun a ha=>(hn a ha).elim)
 ·obtain⟨x,hx⟩:=Option.isSome_iff_exists.1 h1;obtain⟨y,hy⟩:=Option.isSome_iff_exists.1 h2;exact absurd ((only hx).1.trans (only hy).1.symm) hne
 ·unfold zbg at hi;simp[getH] at hi
mutual
theorem zj9 (i j:Nat):∀ {x:AV},zas i x=true->renA j i (renA i j x)=x
 | .ms a n,h=>by
  simp only[zas] at h;have:=xap h;subst this;simp[renA]
 | .d _,_=>rfl
 | .nils,_=>rfl
 | .agg cs,h=>by
  simp only[zas] at h;simp only[renA,zgZ i j h]
 | .tup cs,h=>by
  simp only[zas] at h;simp only[renA,zgZ i j h]
 | .sn _,h=>by simp[zas] at h
 | .gl _ _,h=>by simp[zas] at h
 | .gv _ _,h=>by simp[zas] at h
 | .gt _ _,h=>by simp[zas] at h
 | .ref _ _,h=>by simp[zas] at h
 | .mo _ _ _,h=>by simp[zas] at h
 | .mc _ _ _,h=>by simp[zas] at h
 | .ga _ _ _ _,h=>by simp[zas] at h
 | .gp _ _ _ _ _ _,h=>by simp[zas] at h
 | .ght _ _,h=>by simp[zas] at h
 | .gh _ _,h=>by simp[zas] at h
 | .mapr _,h=>by simp[zas] at h
 | .fn _ _,h=>by simp[zas] at h
 | .own _ _,h=>by simp[zas] at h
 | .any,h=>by simp[zas] at h
theorem zgZ (i j:Nat):∀ {l:List AV},zas.soleL i l=true->renL j i (renL i j l)=l
 | [],_=>rfl
 |x::r,h=>by
  simp only[zas.soleL,xad] at h;simp only[renL,zj9 i j h.1,zgZ i j h.2]
end
mutual
theorem zkc (i j:Nat):∀ {x:AV},zas i x=true->zas j (renA i j x)=true
 | .ms a n,h=>by
  simp only[zas] at h;have:=xap h;subst this;simp[renA,zas]
 | .d _,_=>rfl
 | .nils,_=>rfl
 | .agg cs,h=>by
  simp only[zas] at h;simp only[renA,zas,zg2 i j h]
 | .tup cs,h=>by
  simp only[zas] at h;simp only[renA,zas,zg2 i j h]
 | .sn _,h=>by simp[zas] at h
 | .gl _ _,h=>by simp[zas] at h
 | .gv _ _,h=>by simp[zas] at h
 | .gt _ _,h=>by simp[zas] at h
 | .ref _ _,h=>by simp[zas] at h
 | .mo _ _ _,h=>by simp[zas] at h
 | .mc _ _ _,h=>by simp[zas] at h
 | .ga _ _ _ _,h=>by simp[zas] at h
 | .gp _ _ _ _ _ _,h=>by simp[zas] at h
 | .ght _ _,h=>by simp[zas] at h
 | .gh _ _,h=>by simp[zas] at h
 | .mapr _,h=>by simp[zas] at h
 | .fn _ _,h=>by simp[zas] at h
 | .own _ _,h=>by simp[zas] at h
 | .any,h=>by simp[zas] at h
theorem zg2 (i j:Nat):∀ {l:List AV},zas.soleL i l=true->zas.soleL j (renL i j l)=true
 | [],_=>rfl
 |x::r,h=>by
  simp only[zas.soleL,xad] at h;simp only[renL,zas.soleL,zkc i j h.1,zg2 i j h.2,Bool.and_self]
end
theorem zkf {G0 G2:Gh}{w0:World}{a b:Nat}{cs:List AV}{T T':TokF} (hF:G2.F=G0.F) (hl:G2.loc b=G0.loc a) (hcs:AV.idsL cs=[]) (h:RelR G0 T w0 a (.tree cs)):RelR G2 T' w0 b (.tree cs):=by
 obtain⟨bl,vs,e,Ss,h1,h2,h3,h4,h5,h6⟩:=h;refine⟨bl,vs,e,Ss,hl.trans h1,h2,h3,by rw[hl];exact h4,fun x hx=>?_,fun q hq hv=>(h6 q hq hv).map (fun hx=>?_) (fun _ _=>rfl)⟩
 ·rw[hl] at hx;rw[hF];exact h5 x hx
 ·have hn:∀id,id∉(cs[q]).ids:=fun id hid=>by
   have:=xay (xao hq) hid;rw[hcs] at this;simp at this
  exact hx.mono (fun _ _ ho=>⟨by rw[hF];exact ho,Z⟩) (fun id hid=>(hn id hid).elim) (fun id hid=>(hn id hid).elim)
theorem FnD.ren {P:Program}{f:FuncId}{i:Nat}{args:List AV}{r:D}{cs cs':List AV} (hs:zas.soleL i args=true) (hc:AV.idsL cs=[]) (hc':AV.idsL cs'=[]) (h:FnD P f args [(i,some (.tree cs))] (.d r) [(i,some (.tree cs'))]) (j:Nat):
  FnD P f (renL i j args) [(j,some (.tree cs))] (.d r) [(j,some (.tree cs'))]:=by
 intro G w vals hok;let G1:Gh:={ G with loc:=fun x=>G.loc j }
 have gj:∀(x:Res),getH [(j,some x)] j=some x:=fun x=>by simp[getH]
 have gi:∀(x:Res),getH [(i,some x)] i=some x:=fun x=>by simp[getH]
 have only:∀ {a id:Nat}{x y:Res},getH [(a,some x)] id=some y->id=a/\y=x:=fun {a id x y} h=>by
  rw[zag] at h;split at h
  ·rename_i e;cases h;exact⟨e,rfl⟩
  ·cases h
 have hsz:=hok.args.size;rw[zdl] at hsz;have hok1:HOK G1 w [(i,some (.tree cs))] args vals:=by
  refine⟨⟨hsz,fun q hq hv=>?_⟩,fun id x hx=>?_,fun id id' h1 h2 hne=>?_,hok.top⟩
  ·have hq':q<(renL i j args).length:=by rw[zdl];exact hq
   have h1:=hok.args.rel q hq' hv;rw[zhl i j args q hq hq'] at h1;have h2:=zf2 i hs q hq;have h3:=h1.ren (G':=G1) (T':=tokf [(i,some (Res.tree cs))]) (i:=j) (j:=i) rfl rfl (by unfold tokf;rw[gi]) (zkc i j h2);rw[zj9 i j h2] at h3;exact h3
  ·obtain⟨rfl,rfl⟩:=only hx;exact zkf (G0:=G) (G2:=G1) (a:=j) Z Z hc (hok.heap j _ (gj _))
  ·obtain⟨x,hx⟩:=Option.isSome_iff_exists.1 h1;obtain⟨y,hy⟩:=Option.isSome_iff_exists.1 h2;exact absurd ((only hx).1.trans (only hy).1.symm) hne
 have own1:∀b,b∈zbE G1 [(i,some (.tree cs))]↔b∈zbE G [(j,some (.tree cs))]:=fun b=>by
  rw[zc9,zc9];constructor
  ·rintro ⟨id,_,hb⟩;exact⟨j,by rw[gj];rfl,hb⟩
  ·rintro ⟨id,h1,hb⟩
   obtain⟨x,hx⟩:=Option.isSome_iff_exists.1 h1;rw[(only hx).1] at hb;exact⟨i,by rw[gi];rfl,hb⟩
 refine(h G1 w vals hok1).mono ?_;rintro e w' ⟨v,r',hp',G',rfl,⟨rfl,rfl⟩,hret⟩
 have gi2:getH ([(i,some (Res.tree cs'))]++[(i,some (.tree cs))]) i=some (.tree cs'):=by simp[getH]
 have gj2:getH ([(j,some (Res.tree cs'))]++[(j,some (.tree cs))]) j=some (.tree cs'):=by simp[getH]
 have only2:∀ {a id:Nat}{x y z:Res},getH ([(a,some x)]++[(a,some y)]) id=some z->id=a/\z=x:=fun {a id x y z} h=>by
  have h':getH ((a,some x)::[(a,some y)]) id=some z:=h;rw[zag] at h';split at h'
  ·rename_i e;cases h';exact⟨e,rfl⟩
  ·rename_i hne;rw[zag,if_neg hne] at h';cases h'
 let G2:Gh:={ G' with loc:=fun x=>G'.loc i }
 refine⟨v,_,_,G2,rfl,⟨rfl,rfl⟩,.d hret.res.d_inv,fun id x hx=>?_,fun id id' h1 h2 hne=>?_,fun id h1 b hb=>?_, ?_,hret.top,fun id hi=>?_⟩
 ·obtain⟨rfl,rfl⟩:=only2 hx;exact zkf (G0:=G') (a:=i) Z Z hc' (hret.heap i _ gi2)
 ·obtain⟨x,hx⟩:=Option.isSome_iff_exists.1 h1;obtain⟨y,hy⟩:=Option.isSome_iff_exists.1 h2;exact absurd ((only2 hx).1.trans (only2 hy).1.symm) hne
 ·exact(hret.new i (by rw[gi2];rfl) b hb).imp_left (own1 b).1
 ·have hf:=hret.frm;exact⟨hf.os,hf.tape,hf.output,hf.size,fun b hb hn=>hf.block b hb (fun hm=>hn ((own1 b).1 hm)),hf.cell⟩
 ·have hib:zbg [(i,some (Res.tree cs))] i=true:=by unfold zbg;rw[gi]
  have hk:=hret.kept i hib;unfold zbg at hi;cases hg:getH [(j,some (Res.tree cs))] id with
  |none=>rw[hg] at hi;cases hi
  |some x=>
   obtain⟨rfl,_⟩:=only hg;exact⟨hk.1,by rw[gj2];rfl,by unfold tokf;rw[gj2]⟩
mutual
def frzA (x:D):AV->AV
 | .ms _ _=> .d x
 | .agg cs=> .agg (frzL x cs)
 | .tup cs=> .tup (frzL x cs)
 |y=>y
def frzL (x:D):List AV->List AV
 | []=>[]
 |y::r=>frzA x y::frzL x r
end
theorem zeS (x:D):∀l:List AV,(frzL x l).length=l.length
 | []=>rfl
 |y::r=>by simp[frzL,zeS x r]
theorem zjv (x:D):∀(l:List AV) (q:Nat) (h:q<l.length) (h':q<(frzL x l).length),(frzL x l)[q]=frzA x l[q]
 |y::r,0,_,_=>rfl
 |y::r,q+1,h,h'=>by simp only[frzL,List.getElem_cons_succ];exact zjv x r q (by simpa using h) (by simpa [frzL] using h')
def zf3 (i n:Nat):AV->Prop
 | .ms a m=>a=i/\m=n
 | .d _=>True
 | .nils=>True
 | .agg cs=>soleNL i n cs
 | .tup cs=>soleNL i n cs
 |_=>False
where soleNL (i n:Nat):List AV->Prop
 | []=>True
 |x::r=>zf3 i n x/\soleNL i n r
theorem zg3 (i n:Nat):∀ {l:List AV},zf3.soleNL i n l->∀q (h:q<l.length),zf3 i n l[q]
 |x::r,hs,q,h=>by
  cases q with
  |zero=>exact hs.1
  |succ q=>exact zg3 i n hs.2 q (by simpa using h)
theorem RelA.frz {G G':Gh}{T T':TokF}{w:World}{i n:Nat}{x:AV}{v:Value}{d:D} (h:RelA G T w x v) (hF:∀b o,o<G.F b->o<G'.F b) (hms:∀v,RelA G T w (.ms i n) v->RelD G'.F w d v):zf3 i n x->RelA G' T' w (frzA d x) v:=by
 induction h with
 |d h=>intro _;exact .d (h.mono (fun b o ho=>⟨hF b o ho,Z⟩))
 | @ms a m b cap h hT hc=>
  intro hs;obtain⟨rfl,rfl⟩:=hs;exact .d (hms _ (.ms h hT hc))
 | @agg cs vs hn h ih=>
  intro hs;simp only[frzA];exact .agg (by rw[zeS];exact hn) (fun q hq hv=>by
   have hq':q<cs.length:=by rw[zeS] at hq;exact hq
   rw[zjv d cs q hq' hq];exact ih q hq' hv (zg3 i n hs q hq'))
 | @tup cs vs hn h ih=>
  intro hs;simp only[frzA];exact .tup (by rw[zeS];exact hn) (fun q hq hv=>by
   have hq':q<cs.length:=by rw[zeS] at hq;exact hq
   rw[zjv d cs q hq' hq];exact ih q hq' hv (zg3 i n hs q hq'))
 |nils=>intro _;exact .nils
 |_=>intro hs;exact hs.elim
theorem FnD.out_frz {P:Program}{f:FuncId}{i k:Nat}{m:Bool}{args:List AV}{r:AV}{xs:List (List D)} (hk:∀x,x∈xs->x.length=k) (hs:zf3 i xs.length r) (h:FnD P f args [] r [(i,some (.tree (zao m xs)))]):
  FnD P f args [] (frzA (.sl xs) r) []:=by
 intro G w vals hok;refine(h G w vals hok).mono ?_;rintro e w' ⟨v,r',hp',G',rfl,⟨rfl,rfl⟩,hret⟩
 have gi:getH ([(i,some (Res.tree (zao m xs)))]++[]) i=some (.tree (zao m xs)):=by simp[getH]
 obtain⟨b,us,et,Ss,hT⟩:=hret.heap i _ gi;have hown:∀b,b∉zbE G []:=fun b hb=>by simp[zbE] at hb
 have hnew:∀b,b∈G'.loc i->w.heap.size<=b:=fun b hb=>(hret.new i (by rw[gi];rfl) b hb).resolve_left (hown b);let G2:Gh:={ G' with F:=fun x=>bif zaJ x (G'.loc i) then szB w' x else G'.F x }
 have hin:∀x,x∈G'.loc i->G2.F x=szB w' x:=fun x hx=>by simp[G2,zaz.2 hx]
 have hout:∀x,x∉G'.loc i->G2.F x=G'.F x:=fun x hx=>by
  have:zaJ x (G'.loc i)=false:=by
   cases h:zaJ x (G'.loc i) with
   |true=>exact absurd (zaz.1 h) hx
   |false=>rfl
  simp[G2,this]
 have hle:∀b o,o<G'.F b->o<G2.F b:=fun x o ho=>by
  by_cases hx:x∈G'.loc i
  ·rw[(hT.mine x hx).1] at ho;omega
  ·rw[hout x hx];exact ho
 refine⟨v,_,_,G2,rfl,⟨rfl,rfl⟩,hret.res.frz hle (fun u hu=>?_) hs,fun id x hx=>(by cases hx),fun id id' h1=>(by cases h1),fun id h1=>(by cases h1), ?_,fun x hx=>?_,fun id hi=>(by simp[zbg,getH] at hi)⟩
 ·obtain⟨b',cap,hl,he,hcap⟩:=hu.ms_eq;obtain rfl:=hT.head hl.1;have hbl:b'∈G'.loc i:=by rw[hT.loc];simp
  have hlen:(zao m xs).length=xs.length*k:=zct hk;have hle':xs.length*k<=us.size:=by have:=hT.len;omega
  have hsz:szB w' b'=us.size:=by simp[szB,hT.at_]
  rw[he];refine .sl xs k b' 0 cap (fun n=>us.getD n undef) hk hcap (fun q hq=>⟨by rw[hin b' hbl];omega, ?_⟩) (fun q hq j hj=>?_)
  ·have:q<us.size:=by omega
   simp[World.cell?,hT.at_,this]
  ·have hjk:j<k:=by rw[<-hk _ (xao hq)];exact hj
   have hlt:q*k+j<(zao m xs).length:=by rw[hlen];exact zeI hq hjk
   have hlv:q*k+j<us.size:=Nat.lt_of_lt_of_le hlt hT.len;have h1:=hT.cell (q*k+j) hlt hlv;have h2:=zfs (m:=m) hk hq hj;rw[xan hlt] at h2;rw[Option.some.inj h2] at h1;rw[zjw hlv];have hsub:∀x,x∈Ss (q*k+j)->x∈G'.loc i:=fun x hx=>by
    rw[hT.loc];exact List.mem_cons_of_mem _ (List.mem_flatMap.2 ⟨_,List.mem_range.2 hlt,hx⟩)
   have tr:∀ {y:D}{u:Value},TreeD m w' y u (Ss (q*k+j))->RelD G2.F w' y u:=fun h=>h.toD (fun x hx=>by rw[hin x (hsub x hx)];exact Nat.le_refl _);generalize xs[q][j]=y at h1;cases y with
   |int kd q=>exact h1.2.d_inv.flat Z
   |bool q=>exact h1.2.d_inv.flat Z
   |str q=>exact h1.2.d_inv.flat Z
   |sl ys=>exact tr h1
   |ptr q r=>exact tr h1
   |nilp=>exact tr h1
 ·have hf:=hret.frm;exact⟨hf.os,hf.tape,hf.output,hf.size,fun x hx hn=>⟨(hf.block x hx hn).1,by
   rw[hout x (fun hm=>by have:=hnew x hm;omega)];exact(hf.block x hx hn).2⟩,fun x o ho=>⟨hle x o (hf.cell x o ho).1,(hf.cell x o ho).2⟩⟩
 ·by_cases hx':x∈G'.loc i
  ·have:=(hT.mine x hx').2;omega
  ·rw[hout x hx'];exact hret.top x hx
def zdz (i j:Nat):Env->Env
 | []=>[]
 |(k,v)::r=>(k,bif zaJ i v.ids then .any else bif zaJ j v.ids then .any else v)::zdz i j r
theorem zgP {i j:Nat}:∀ {l:Env}{t:Nat}{v:AV},getE (zdz i j l) t=some v->∃u,getE l t=some u/\(v = .any\/(v=u/\i∉u.ids/\j∉u.ids))
 | [],_,_,h=>by simp[zdz,getE] at h
 |(k,x)::r,t,v,h=>by
  simp only[zdz,getE] at h ⊢;cases hb:Nat.beq k t with
  |true=>
   simp only[hb,cond_true,xae] at h;refine⟨x,by simp, ?_⟩;cases h1:zaJ i x.ids with
   |true=>left;rw[h1] at h;exact h.symm
   |false=>
    cases h2:zaJ j x.ids with
    |true=>left;rw[h1,h2] at h;exact h.symm
    |false=>
     right
     rw[h1,h2] at h;refine⟨h.symm,fun hm=>?_,fun hm=>?_⟩
     ·rw[zaz.2 hm] at h1;cases h1
     ·rw[zaz.2 hm] at h2;cases h2
  |false=>
   simp only[hb,cond_false] at h;obtain⟨u,h1,h2⟩:=zgP h;exact⟨u,by simpa using h1,h2⟩
theorem RelA.gl_move {G G':Gh}{T T':TokF}{w:World}{i j n k:Nat}{xs:List (List D)}{v:Value} (h:RelA G T w (.gl i xs) v) (hT:T i=some (n,k)) (hF:G'.F=G.F) (hl:G'.loc j=G.loc i) (hT':T' j=some (n,k)):RelA G' T' w (.gl j xs) v:=by
 generalize hx:AV.gl i xs=x at h;cases h with
 | @gl id ys v h ht=>
  cases hx
  refine .gl (h.mono (fun b o ho=>⟨by rw[hF];exact ho,Z⟩)) (fun n' k' he=>?_);rw[hT'] at he;cases he
  obtain⟨h1,h2⟩:=ht _ _ hT;refine⟨h1,fun hn=>?_⟩;obtain⟨h3,h4⟩:=h2 hn;refine⟨h3, ?_⟩;rcases h4 with ⟨a1,a2,a3⟩|⟨b,cap,cs,e,a1,a2,a3,a4⟩
  ·exact .inl ⟨hl.trans a1,a2,a3⟩
  ·exact .inr ⟨b,cap,cs,e,hl.trans a1,a2,by rw[hF];exact a3,a4⟩
 |_=>cases hx
section
variable {c:Ctx}{env:Env}{hp:Hp}{K:Kt}{code:Code}
theorem CWp.retok (t j i:Nat){n k:Nat}{ys:List (List D)} (ht:getE env t=some (.gl j ys)) (hi:getH hp i=none) (hj:getH hp j=some (.tok n k)) (o1:occH i hp=false) (o2:occH j hp=false)
  (hn:CWp c code ⟨(t,.gl i ys)::zdz i j env,(i,some (.tok n k))::(j,none)::hp⟩ K):CWp c code ⟨env,hp⟩ K:=by
 rintro a w ⟨G,hr⟩
 have hne:i≠j:=fun e=>by subst e;rw[hi] at hj;cases hj
 let hp':Hp:=(i,some (.tok n k))::(j,none)::hp
 let G':Gh:={ G with loc:=fun x=>bif Nat.beq x i then G.loc j else G.loc x }
 have l1:G'.loc i=G.loc j:=by simp[G']
 have l2:∀x,x≠i->G'.loc x=G.loc x:=fun x h=>by simp[G',zeM h]
 have g1:getH hp' i=some (.tok n k):=by simp[hp',getH]
 have g2:getH hp' j=none:=by
  show getH ((i,some (.tok n k))::(j,none)::hp) j=none
  rw[zag,if_neg (fun e=>hne e.symm),zag,if_pos rfl]
 have g3:∀x,x≠i->x≠j->getH hp' x=getH hp x:=fun x h1 h2=>by
  show getH ((i,some (.tok n k))::(j,none)::hp) x=_
  rw[zag,if_neg h1,zag,if_neg h2]
 have hTj:tokf hp j=some (n,k):=zam.2 hj;have hTi:tokf hp' i=some (n,k):=zam.2 g1;have hm:∀ {x:AV}{v:Value},i∉x.ids->j∉x.ids->RelA G (tokf hp) w x v->RelA G' (tokf hp') w x v:=fun hx1 hx2 hx=>
  hx.mono (fun _ _ ho=>⟨ho,rfl⟩) (fun id hid=> .inl (l2 id (fun e=>hx1 (e ▸ hid)))) (fun id hid p hp2=>⟨by
   have e1:id≠i:=fun e=>hx1 (e ▸ hid);have e2:id≠j:=fun e=>hx2 (e ▸ hid);unfold tokf at hp2 ⊢;rw[g3 id e1 e2] at hp2;exact hp2,fun _ _=>⟨Z,Z⟩⟩)
 have cases3:∀x (r:Res),getH hp' x=some r->(x=i/\r = .tok n k)\/(x≠i/\x≠j/\getH hp x=some r):=fun x r h=>by
  by_cases e1:x=i
  ·subst e1;rw[g1] at h;cases h;exact .inl ⟨Z,Z⟩
  ·by_cases e2:x=j
   ·subst e2;rw[g2] at h;cases h
   ·rw[g3 x e1 e2] at h;exact .inr ⟨e1,e2,h⟩
 have src:∀x,(getH hp' x).isSome->∃y,(getH hp y).isSome/\G'.loc x=G.loc y/\(y=j/\x=i\/y=x/\x≠j/\x≠i):=fun x h=>by
  obtain⟨r,hx⟩:=Option.isSome_iff_exists.1 h;rcases cases3 x r hx with ⟨rfl,_⟩|⟨e1,e2,h3⟩
  ·exact⟨j,by rw[hj];rfl,l1,.inl ⟨rfl,rfl⟩⟩
  ·exact⟨x,by rw[h3];rfl,l2 x e1,.inr ⟨rfl,e2,e1⟩⟩
 have nocc:∀ {id x:Nat}{r:Res},occH id hp=false->getH hp x=some r->id∉r.ids:=fun h1 h2=>zex h1 _ _ (zcA h2);refine hn a w ⟨G',hr.size,hr.defers,fun x v hx=>?_,fun x r hx=>?_,fun x y h1 h2 hxy b hb=>?_,fun x h1 b hb=>?_,hr.frm,hr.top,fun x l hl=>?_⟩
 ·have hx':getE ((t,.gl i ys)::zdz i j env) x=some v:=hx;simp only[getE] at hx';cases hb:Nat.beq t x with
  |true=>
   have:=xap hb;subst this;simp only[hb,cond_true,xae] at hx';subst hx';exact(hr.slots t _ ht).gl_move hTj rfl l1 hTi
  |false=>
   simp only[hb,cond_false] at hx';obtain⟨u,h1,h2⟩:=zgP hx';rcases h2 with rfl|⟨rfl,h3,h4⟩
   ·exact .any _
   ·exact hm h3 h4 (hr.slots x _ h1)
 ·rcases cases3 x r hx with ⟨rfl,rfl⟩|⟨e1,e2,h3⟩
  ·intro b hb;rw[l1] at hb;exact hr.heap j _ hj b hb
  ·have hh:=hr.heap x r h3;have n1:=nocc o1 h3;have n2:=nocc o2 h3;cases r with
   |box cs=>
    obtain⟨b,us,e,e1',e2',e3,e4,e5⟩:=hh;exact⟨b,us,e,(l2 x e1).trans e1',e2',e3,e4,fun q hq hv=>hm (fun hid=>n1 (xay (xao hq) hid)) (fun hid=>n2 (xay (xao hq) hid)) (e5 q hq hv)⟩
   |tok n' k'=>intro b hb;rw[l2 x e1] at hb;exact hh b hb
   |map ks=>
    obtain⟨b,es,cl,h5,h6⟩:=hh;exact⟨b,es,cl,(l2 x e1).trans h5,h6⟩
   |tree cs=>exact zaV hh (l2 x e1) (fun _ _=>⟨Z,Z⟩) (Nat.le_refl _) (fun y hy v=>hm (fun hid=>n1 (xay hy hid)) (fun hid=>n2 (xay hy hid)))
 ·obtain⟨x',s1,e1,d1⟩:=src x h1;obtain⟨y',s2,e2,d2⟩:=src y h2;rw[e1] at hb;rw[e2];refine hr.disj x' y' s1 s2 ?_ b hb;rcases d1 with ⟨rfl,rfl⟩|⟨rfl,f1,f2⟩<;>rcases d2 with ⟨rfl,rfl⟩|⟨rfl,f3,f4⟩
  ·exact absurd Z hxy
  ·exact fun e=>f3 e.symm
  ·exact f1
  ·exact hxy
 ·obtain⟨x',s1,e1,d1⟩:=src x h1;rw[e1] at hb;exact hr.new x' s1 b hb
 ·have hk:=hr.kept x l hl;have e1:x≠i:=fun e=>by
   have h1:=hk.2.1;have h2:getH hp x=none:=e ▸ hi;change (getH hp x).isSome=true at h1
   rw[h2] at h1;cases h1
  have e2:x≠j:=fun e=>by
   have h1:=hk.2.2;change tokf hp x=none at h1
   rw[e,hTj] at h1;cases h1
  refine⟨by rw[l2 x e1];exact hk.1, ?_, ?_⟩
  ·show(getH hp' x).isSome=true
   rw[g3 x e1 e2];exact hk.2.1
  ·show tokf hp' x=none
   have:=hk.2.2;unfold tokf at this ⊢;rw[g3 x e1 e2];exact this
end
section
variable {c:Ctx}
theorem zl2 {G:Gh}{s:St}{a:Act}{w:World} (hr:R c G s a w){f:FuncId}{avs:List AV}{i j n k m:Nat}{ys:List (List D)}{vals:Array Value}
  (hf:FnD c.P f avs [(i,some (.tok n k))] (.gl i ys) [(i,some (.tok m k))]) (hargs:AllR G (tokf s.hp) w avs vals) (hi:getH s.hp i=some (.tok n k)) (hj:getH s.hp j=none) (hocc:zcL j s):
  Calls c.P f vals w fun e w'=>∃v,e = .returned v/\
   ∃G',R c G' { s with hp:=(i,none)::(j,some (.tok m k))::s.hp } a w'/\RelA G' (tokf ((i,none)::(j,some (.tok m k))::s.hp)) w' (.gl j ys) v:=by
 have hne:i≠j:=fun e=>by subst e;rw[hi] at hj;cases hj
 have only:∀ {id:Nat}{x y:Res},getH [(i,some x)] id=some y->id=i/\y=x:=fun {id x y} h=>by
  rw[zag] at h;split at h
  ·rename_i e;cases h;exact⟨e,rfl⟩
  ·cases h
 have gi:getH [(i,some (Res.tok n k))] i=some (.tok n k):=by simp[getH]
 have hok:HOK G w [(i,some (.tok n k))] avs vals:=by
  refine⟨⟨hargs.size,fun q hq hv=>(hargs.rel q hq hv).mono (fun _ _ ho=>⟨ho,rfl⟩) (fun _ _=> .inl rfl) (fun id _ p hp=>⟨?_,fun _ _=>⟨rfl,rfl⟩⟩)⟩,fun id r h=>?_,fun id id' h1 h2 h3=>?_,hr.top⟩
  ·obtain⟨n',k'⟩:=p;obtain⟨rfl,h2⟩:=only (zam.1 hp);cases h2
   exact zam.2 hi
  ·obtain⟨rfl,rfl⟩:=only h;exact hr.heap _ _ hi
  ·obtain⟨x,hx⟩:=Option.isSome_iff_exists.1 h1;obtain⟨y,hy⟩:=Option.isSome_iff_exists.1 h2;exact absurd ((only hx).1.trans (only hy).1.symm) h3
 refine(hf G w vals hok).mono ?_;rintro e w' ⟨v,r,hp0,G',rfl,⟨rfl,rfl⟩,hret⟩
 refine⟨v,rfl, ?_⟩;have gi2:getH ([(i,some (Res.tok m k))]++[(i,some (.tok n k))]) i=some (.tok m k):=by simp[getH]
 have hown:∀b,b∈zbE G [(i,some (Res.tok n k))]->b∈G.loc i:=fun b hb=>by
  obtain⟨id,h1,h2⟩:=zc9.1 hb;obtain⟨x,hx⟩:=Option.isSome_iff_exists.1 h1;rw[(only hx).1] at h2;exact h2
 have hsi:(getH s.hp i).isSome:=by rw[hi];rfl
 let hp':Hp:=(i,none)::(j,some (.tok m k))::s.hp
 let G2:Gh:={ F:=G'.F,loc:=fun x=>bif Nat.beq x j then G'.loc i else G.loc x }
 have l1:G2.loc j=G'.loc i:=by simp[G2]
 have l2:∀x,x≠j->G2.loc x=G.loc x:=fun x h=>by simp[G2,zeM h]
 have g1:getH hp' i=none:=by
  show getH ((i,none)::(j,some (.tok m k))::s.hp) i=none
  rw[zag,if_pos rfl]
 have g2:getH hp' j=some (.tok m k):=by
  show getH ((i,none)::(j,some (.tok m k))::s.hp) j=_
  rw[zag,if_neg (fun e=>hne e.symm),zag,if_pos rfl]
 have g3:∀x,x≠i->x≠j->getH hp' x=getH s.hp x:=fun x h1 h2=>by
  show getH ((i,none)::(j,some (.tok m k))::s.hp) x=_
  rw[zag,if_neg h1,zag,if_neg h2]
 have cases3:∀x (r:Res),getH hp' x=some r->(x=j/\r = .tok m k)\/(x≠i/\x≠j/\getH s.hp x=some r):=fun x r h=>by
  by_cases e1:x=i
  ·subst e1;rw[g1] at h;cases h
  ·by_cases e2:x=j
   ·subst e2;rw[g2] at h;cases h;exact .inl ⟨Z,Z⟩
   ·rw[g3 x e1 e2] at h;exact .inr ⟨e1,e2,h⟩
 have bound:∀x r,getH s.hp x=some r->∀b,b∈G.loc x->b<w.heap.size:=fun x r h=>(hr.heap x r h).bound;have blk:∀x r,x≠i->getH s.hp x=some r->∀b,b∈G.loc x->w'.heap[b]?=w.heap[b]?/\G'.F b=G.F b:=fun x r h1 h2 b hb=>
  hret.frm.block b (bound x r h2 b hb) (fun hm=>hr.disj x i (by rw[h2];rfl) hsi h1 b hb (hown b hm))
 have hm:∀ {x:AV}{v:Value},j∉x.ids->RelA G (tokf s.hp) w x v->RelA G2 (tokf hp') w' x v:=fun hx1 hx=>
  hx.mono hret.frm.cell (fun id hid=> .inl (l2 id (fun e=>hx1 (e ▸ hid)))) (fun id hid p hp2=>by
   have e1:id≠j:=fun e=>hx1 (e ▸ hid);obtain⟨n',k'⟩:=p;have h1:=zam.1 hp2;rcases cases3 id _ h1 with ⟨e,_⟩|⟨e2,_,h3⟩
   ·exact absurd e e1
   ·exact⟨zam.2 h3,blk id _ e2 h3⟩)
 have src:∀x,(getH hp' x).isSome->x=j\/(x≠i/\x≠j/\(getH s.hp x).isSome):=fun x h=>by
  obtain⟨r,hx⟩:=Option.isSome_iff_exists.1 h;rcases cases3 x r hx with ⟨rfl,_⟩|⟨e1,e2,h3⟩
  ·exact .inl Z
  ·exact .inr ⟨e1,e2,by rw[h3];rfl⟩
 have hnew:=hret.new i (by rw[gi2];rfl);have mix:∀x,x≠i->(getH s.hp x).isSome->∀b,b∈G'.loc i->b∉G.loc x:=fun x h1 h2 b hb hbx=>by
  obtain⟨r,hx⟩:=Option.isSome_iff_exists.1 h2;rcases hnew b hb with h|h
  ·exact hr.disj i x hsi h2 (fun e=>h1 e.symm) b (hown b h) hbx
  ·have:=bound x r hx b hbx;omega
 refine⟨G2,⟨hr.size,hr.defers,fun x v hx=>hm (hocc.1 x v hx) (hr.slots x v hx),fun x r hx=>?_,fun x y h1 h2 hxy b hb=>?_,fun x h1 b hb=>?_,hr.frm.trans hret.frm ?_,hret.top,fun x l hl=>?_⟩, ?_⟩
 ·rcases cases3 x r hx with ⟨rfl,rfl⟩|⟨e1,e2,h3⟩
  ·intro b hb;rw[l1] at hb;exact hret.heap i _ gi2 b hb
  ·have hh:=hr.heap x r h3;have n2:=hocc.2 x r h3;have hb0:=blk x r e1 h3;cases r with
   |box cs=>
    obtain⟨b,us,e,e1',e2',e3,e4,e5⟩:=hh;obtain⟨f1,f2⟩:=hb0 b (by simp[e1']);exact⟨b,us,e,(l2 x e2).trans e1',f1.trans e2',e3,f2.trans e4,fun q hq hv=>hm (fun hid=>n2 (xay (xao hq) hid)) (e5 q hq hv)⟩
   |tok n' k'=>intro b hb;rw[l2 x e2] at hb;exact Nat.lt_of_lt_of_le (hh b hb) hret.frm.size
   |map ks=>
    obtain⟨b,es,cl,h5,h6,h7,h8⟩:=hh;obtain⟨f1,f2⟩:=hb0 b (by simp[h5]);exact⟨b,es,cl,(l2 x e2).trans h5,f1.trans h6,f2.trans h7,h8⟩
   |tree cs=>exact zaV hh (l2 x e2) hb0 hret.frm.size (fun y hy v=>hm (fun hid=>n2 (xay hy hid)))
 ·rcases src x h1 with rfl|⟨a1,a2,a3⟩<;>rcases src y h2 with rfl|⟨b1,b2,b3⟩
  ·exact absurd Z hxy
  ·rw[l1] at hb;rw[l2 y b2];exact mix y b1 b3 b hb
  ·rw[l2 x a2] at hb;rw[l1];exact fun h=>mix x a1 a3 b h hb
  ·rw[l2 x a2] at hb;rw[l2 y b2];exact hr.disj x y a3 b3 hxy b hb
 ·rcases src x h1 with rfl|⟨a1,a2,a3⟩
  ·rw[l1] at hb;rcases hnew b hb with h|h
   ·exact hr.new i hsi b (hown b h)
   ·right;have:=hr.frm.size;omega
  ·rw[l2 x a2] at hb;exact hr.new x a3 b hb
 ·intro b hb;exact hr.new i hsi b (hown b hb)
 ·have hk:=hr.kept x l hl;have e1:x≠i:=fun e=>by
   have h1:=hk.2.2;have h2:tokf s.hp x=some (n,k):=e ▸ zam.2 hi;rw[h2] at h1;cases h1
  have e2:x≠j:=fun e=>by
   have h1:=hk.2.1;have h2:getH s.hp x=none:=e ▸ hj;rw[h2] at h1;cases h1
  refine⟨by rw[l2 x e2];exact hk.1, ?_, ?_⟩
  ·show(getH hp' x).isSome=true
   rw[g3 x e1 e2];exact hk.2.1
  ·show tokf hp' x=none
   have:=hk.2.2;unfold tokf at this ⊢;rw[g3 x e1 e2];exact this
 ·exact hret.res.gl_move (G':=G2) (zam.2 gi2) Z l1 (zam.2 g2)
end
section
variable {c:Ctx}{all:Array Oper}{chk:List Rec->Prop}{os:List Oper}{recs:List Rec}{env:Env}{hp:Hp}{Q:St->Prop}
variable {d ty:Nat}{pos:String}{af:Array Edge}{g:Option (Nat×Bool)}{pg:List (Nat×AV)}
theorem xbb {f:FuncId}{args:Array Operand}{ats:Array TypeId}{xs:List Operand}{vs avs:List AV}{i n k m:Nat}{ys:List (List D)} (j:Nat) (hc:Callee c.P f)
  (hf:FnD c.P f avs [(i,some (.tok n k))] (.gl i ys) [(i,some (.tok m k))])
  (hargs:args=xs.toArray) (hg:GH all env g pg) (hd:Nat.blt d c.n=true) (hx:opdL env xs=some vs) (hle:LeL vs avs) (hi:getH hp i=some (.tok n k)) (hcr:zbC env hp [j]=true)
  (hn:Walk c all chk os (zah (pg++opFL xs vs) [(i,.tok n k)] [j] ⟨some (d,.gl j ys),[(i,none),(j,some (.tok m k))]⟩::recs) ⟨(d,.gl j ys)::env,(i,none)::(j,some (.tok m k))::hp⟩ Q):
  Walk c all chk (⟨some d,.call ⟨.value (.func f),args,ats⟩,ty,pos,af,g⟩::os) recs ⟨env,hp⟩ Q:=by
 subst hargs;refine⟨pg++opFL xs vs,[(i,.tok n k)],[j],_, ?_,zar hg.facts (zcb hx),hh1 hi,zbw hcr,hn⟩;intro s a w hrel hp' hh hcr' K Q' hK;obtain⟨G,hr⟩:=hrel;have hrl:=zcV hr (zcc hx (fun p hm=>hp' p (by simp[hm])));have hle':∀ {l m:List AV},LeL l m->∀i (h1:i<l.length) (h2:i<m.length),LeA l[i] m[i]:=by
  intro l;induction l with
  |nil=>intro m _ i h1;simp at h1
  |cons x r ih=>
   intro m h i h1 h2;cases h with
   |cons h t=>
    cases i with
    |zero=>exact h
    |succ i=>exact ih t i (by simpa using h1) (by simpa using h2)
 have hall:AllR G (tokf s.hp) w avs (xs.map a.eval).toArray:=by
  refine⟨by simp[<-hle.len,hrl.1],fun i hi hv=>?_⟩;have h1:i<vs.length:=by rw[hle.len];exact hi
  have:=(hrl.2 i h1 (by rw[<-hrl.1];exact h1)).le (hle' hle i h1 hi);simpa using this
 have hcalls:=zl2 hr hf hall (hh1' hh) (hcr' j oe).1 (hcr' j oe).2;unfold wpO;rw[if_pos (hg.gf.wanted hr (fun p hm=>hp' p (by simp[hm])))];unfold Oper.wp;have hrun:(execOp a.eval ⟨some d,.call ⟨.value (.func f),xs.toArray,ats⟩,ty,pos,af,g⟩).run c.P w = .ok (.enter f (xs.map a.eval).toArray) w:=by
  have:=hc.run (xs.map a.eval).toArray w;simp only[execOp,resolve,Sem.run_bind,Act.eval,Deferred.ofValue,Sem.run_pure,Result.andThen_ok,invoke];simpa using this
 rw[hrun,Oper.upon_enter];refine hcalls.mono ?_;rintro e w' ⟨v,rfl,G',hR,hA⟩
 exact hK _ _ ⟨G',hR.put hA hd⟩
end
section
variable {c:Ctx}{all:Array Oper}{K:Kt}
theorem zkm {Q:St->Prop}{Q':Exit->Act->World->Prop}{l2:List Nat} (hQ:∀s a w,Rel c s a w->Q s->wpOps c.P all Q' l2 a w):
  ∀(l:List Nat) (os:List Oper) (recs:List Rec) (s:St) (a:Act) (w:World),l.filterMap (all[·]?)=os->(∀i,i∈l->i<all.size)->
   Walk c all (fun _=>True) os recs s Q->Rel c s a w->wpOps c.P all Q' (l++l2) a w
 | [],os,recs,s,a,w,hl,_,hw,hr=>by
  simp only[List.filterMap_nil] at hl;subst hl;exact hQ s a w hr hw.2
 |i::l,os,recs,s,a,w,hl,hlt,hw,hr=>by
  have hi:i<all.size:=hlt i oe;have ho:all[i]?=some all[i]:=by simp[hi]
  rw[List.filterMap_cons] at hl;simp only[ho] at hl;subst hl;obtain⟨pre,prh,cr,u,hrule,h1,h2,h3,hrest⟩:=hw;rw[xai,wpOps_cons];unfold wpOp;simp only[ho];have:=hrule s a w hr h1 h2 h3 (wpOps c.P all Q' (l++l2)) Q' (fun a' w' hr'=>
   zkm hQ l _ _ _ a' w' rfl (fun j hj=>hlt j (by simp[hj])) hrest hr')
  unfold wpO at this;split
  ·rename_i hw;simp only[hw,if_true] at this;exact .inl this
  ·rename_i hw;simp only[hw] at this;exact this
theorem zna (all:Array Oper):(List.range all.size).filterMap (all[·]?)=all.toList:=by
 have h1:(List.range all.size).filterMap (all[·]?)=(List.range all.toList.length).filterMap (all.toList[·]?):=by simp
 rw[h1];generalize all.toList=l;induction l with
 |nil=>rfl
 |cons x l ih=>
  rw[xab,List.range_succ_eq_map,List.filterMap_cons];simp only[List.getElem?_cons_zero,List.filterMap_map];exact xam (List.cons x) ih
theorem zej {all:Array Oper}:∀ {l:List Nat},(∀i,i∈l->i<all.size)->l.filterMap (all[·]?)=l.map (fun i=>all[i]!)
 | [],_=>rfl
 |i::r,h=>by
  have hi:i<all.size:=h i oe;have ho:all[i]?=some all[i]:=by simp[hi]
  rw[List.filterMap_cons];simp only[ho,xaf];rw[zej (fun j hj=>h j (by simp[hj]))];simp[hi]
theorem zlI (all:Array Oper) (k j:Nat):(((List.range all.size).drop k).take j).filterMap (all[·]?)=(all.toList.drop k).take j:=by
 have h0:=zna all;rw[zej (fun i hi=>by simpa using hi)] at h0;rw[zej (fun i hi=>by simpa using List.mem_of_mem_drop (List.mem_of_mem_take hi)),<-h0,List.map_take,List.map_drop]
def WRest (c:Ctx) (all:Array Oper) (k:Nat) (s:St) (K:Kt):Prop:=∀a w,Rel c s a w->wpOps c.P all (K.post c) ((List.range all.size).drop k) a w
theorem xaA {id:Nat}{s:St} (h:WRest c all 0 s K):CWp c (.region id all false) s K:=by
 intro a w hr;have:=h a w hr;rw[List.drop_zero] at this;exact wp_region this
theorem xa5 {k:Nat}{s:St} (h:Walk c all (fun _=>True) (all.toList.drop k) [] s K.n):WRest c all k s K:=by
 intro a w hr;have e:=zlI all k (all.size-k);rw[List.take_of_length_le oe,List.take_of_length_le oe] at e;exact zic (Q:=K.n) (fun s a w hr hq=>⟨s,hr,hq⟩) _ _ [] s a w e (fun i hi=>by simpa using List.mem_of_mem_drop hi) h hr
theorem xa6 {k:Nat}{env:Env}{hp:Hp} (j:Nat) (E:Env) (ks:List Nat)
  (h1:Walk c all (fun _=>True) ((all.toList.drop k).take j) [] ⟨env,hp⟩ (fun s1=>Sub ⟨E++(zbq ks++env),[]++hp⟩ s1))
  (h2:WRest c all (k+j) ⟨E++(zbq ks++env),hp⟩ K):WRest c all k ⟨env,hp⟩ K:=by
 intro a w hr;have hk:∀id l,c.kept id=some l->(getH hp id).isSome:=by
  obtain⟨G,hg⟩:=hr;exact fun id l hl=>(hg.kept id l hl).2.1
 have e:(List.range all.size).drop k=((List.range all.size).drop k).take j++(List.range all.size).drop (k+j):=by
  conv=>lhs;rw[<-List.take_append_drop j ((List.range all.size).drop k),List.drop_drop]
 rw[e];exact zkm (fun s1 a1 w1 hr1 hs=>h2 a1 w1 (hr1.sub hs hk)) _ _ [] _ a w (zlI all k j) (fun i hi=>by simpa using List.mem_of_mem_drop (List.mem_of_mem_take hi)) h1 hr
end
theorem zj4 {i j:Nat}{b:Env}{t:Nat}{v:AV}:∀ {a:Env},getE (a++zdz i j b) t=some v->∃u,getE (a++b) t=some u/\(v = .any\/v=u)
 | [],h=>by
  obtain⟨u,h1,h2⟩:=zgP (l:=b) h;exact⟨u,h1,h2.imp_right (fun h=>h.1)⟩
 |(k,x)::r,h=>by
  simp only[xai,getE] at h ⊢;cases hb:Nat.beq k t with
  |true=>simp only[hb,cond_true,xae] at h;exact⟨x,by simp,.inr h.symm⟩
  |false=>
   simp only[hb,cond_false] at h;obtain⟨u,h1,h2⟩:=zj4 (a:=r) h;exact⟨u,by simpa using h1,h2⟩
theorem Sub.kill {i j:Nat}{a b:Env}{hp:Hp}{s:St} (h:Sub ⟨a++b,hp⟩ s):Sub ⟨a++zdz i j b,hp⟩ s:=by
 refine⟨fun t v hv=>?_,h.hp⟩;obtain⟨u,h1,h2⟩:=zj4 hv;rcases h2 with rfl|rfl
 ·exact .inl Z
 ·exact h.env t v h1
section
variable {c:Ctx}{K:Kt}
theorem CWp.loopT (i j:Nat){ι:Type}{body:Code}{env:Env}{hp:Hp}{ids:List Nat} (hkp:KeptIn c.kept ids) (E:ι->Env) (ks:List Nat) (H:ι->Hp) (good:ι->Prop) (μ:ι->Nat) (x0:ι) (h0:good x0)
  (he0:SubE (E x0) env) (hh0:SubH (H x0) hp) (hk:∀x,ids.all (fun id=>(getH (H x++hp) id).isSome)=true)
  (hround:∀x,good x->CWp c body ⟨E x++(zbq ks++zdz i j env),H x++hp⟩ (K.with fun s'=>∃x',good x'/\μ x'<μ x/\Sub ⟨E x'++(zbq ks++zdz i j env),H x'++hp⟩ s')):
  CWp c (.loop body) ⟨env,hp⟩ K:=by
 refine CWp.loop (fun x=>⟨E x++(zbq ks++zdz i j env),H x++hp⟩) good μ x0 h0 ?_ (fun x=>hkp.ok (hk x)) hround;have h:Sub ⟨E x0++(zbq ks++env),H x0++hp⟩ ⟨env,hp⟩:=Sub.x oe (by simp[zdu]) he0 oe (by simp[zcq]) hh0;rw[<-xar] at h;have:=h.kill (i:=i) (j:=j);rw[xar] at this;exact this
end
theorem FnD.nilTok {P:Program}{f:FuncId}{i k m:Nat}{rest:List AV}{ys:List (List D)} (hrest:AV.idsL rest=[]) (h:FnD P f (.gl i []::rest) [(i,some (.tok 0 k))] (.gl i ys) [(i,some (.tok m k))]):
  FnD P f (.nils::rest) [] (.d (.sl ys)) []:=by
 intro G w vals hok;let G1:Gh:={ G with loc:=fun _=>[] }
 have only:∀ {id:Nat}{x y:Res},getH [(i,some x)] id=some y->id=i/\y=x:=fun {id x y} h=>by
  rw[zag] at h;split at h
  ·rename_i e;cases h;exact⟨e,rfl⟩
  ·cases h
 have gi:getH [(i,some (Res.tok 0 k))] i=some (.tok 0 k):=by simp[getH]
 have hok1:HOK G1 w [(i,some (.tok 0 k))] (.gl i []::rest) vals:=by
  refine⟨⟨hok.args.size,fun q hq hv=>?_⟩,fun id r hx=>?_,fun id id' h1 h2 h3=>?_,hok.top⟩
  ·have h1:=hok.args.rel q hq hv;cases q with
   |zero=>
    simp only[List.getElem_cons_zero] at h1 ⊢;generalize vals[0]=v at *;cases h1
    refine .gl .nil (fun n k' hT=>?_);have:=(only (zam.1 hT)).2;cases this
    exact⟨Nat.le_refl _,fun _=>⟨by simp,.inl ⟨rfl,rfl,rfl⟩⟩⟩
   |succ q=>
    simp only[List.getElem_cons_succ] at h1 ⊢;have hn:∀id,id∉(rest[q]'(by simpa using hq)).ids:=fun id hid=>by
     have:=xay (xao _) hid;rw[hrest] at this;simp at this
    exact h1.mono (fun _ _ ho=>⟨ho,Z⟩) (fun id hid=>(hn id hid).elim) (fun id hid=>(hn id hid).elim)
  ·obtain⟨rfl,rfl⟩:=only hx;intro b hb;simp[G1] at hb
  ·obtain⟨x,hx⟩:=Option.isSome_iff_exists.1 h1;obtain⟨y,hy⟩:=Option.isSome_iff_exists.1 h2;exact absurd ((only hx).1.trans (only hy).1.symm) h3
 refine(h G1 w vals hok1).mono ?_;rintro e w' ⟨v,r,hp',G',rfl,⟨rfl,rfl⟩,hret⟩
 have own1:∀b,b∉zbE G1 [(i,some (Res.tok 0 k))]:=fun b hb=>by
  obtain⟨id,_,h2⟩:=zc9.1 hb;simp[G1] at h2
 have hres:RelD G'.F w' (.sl ys) v:=by
  have h1:=hret.res;generalize hx:AV.gl i ys=x at h1;cases h1 with
  |gl h _=>cases hx;exact h
  |_=>cases hx
 refine⟨v,_,_,G',rfl,⟨rfl,rfl⟩,.d hres,fun id x hx=>?_,fun id id' h1=>?_,fun id h1=>?_, ?_,hret.top,fun id hi=>?_⟩
 ·simp[getH] at hx
 ·simp[getH] at h1
 ·simp[getH] at h1
 ·have hf:=hret.frm;exact⟨hf.os,hf.tape,hf.output,hf.size,fun b hb hn=>hf.block b hb (own1 b),hf.cell⟩
 ·simp[zbg,getH] at hi
theorem zfB {P:Program}{w:World}{G:Gh}{T:TokF}:∀ {d:Nat}{fs:List Field}{i:Nat}{xs ys:List AV}{b:Bool}{us vs:Array Value},zcR P i fs=true->eqC xs ys=some b->fs.length=xs.length->
  (∀j (h:j<xs.length),∃u,us[i+j]?=some u/\RelA G T w xs[j] u)->(∀j (h:j<ys.length),∃u,vs[i+j]?=some u/\RelA G T w ys[j] u)->
  (Op.eqFields (d+1) us vs fs).run P w = .ok b w
 |d,[],i,[],[],b,us,vs,_,h,_,_,_=>by simp only[eqC,xae] at h;subst h;simp[Op.eqFields]
 |d,[],i,[],_::_,b,us,vs,_,h,_,_,_=>by simp[eqC] at h
 |d,[],i,_::_,_,b,us,vs,_,_,h,_,_=>by simp at h
 |d,f::fs,i,[],_,b,us,vs,_,_,h,_,_=>by simp at h
 |d,f::fs,i,x::xs,ys,b,us,vs,hf,he,hl,hx,hy=>by
  cases ys with
  |nil=>unfold eqC at he;split at he<;>simp_all
  |cons y ys=>
   unfold eqC at he;split at he
   ·rename_i h1 h2;simp at h1
   ·rename_i a r b' s h1 h2;simp only[List.cons.injEq] at h1 h2;obtain⟨rfl,rfl⟩:=h1;obtain⟨rfl,rfl⟩:=h2;split at he
    ·rename_i t ht;simp only[xae] at he;subst he;simp only[zcR,xad,bne_iff_ne] at hf;obtain⟨⟨⟨f1,f2⟩,f3⟩,f4⟩:=hf;have f2':=xap f2;obtain⟨u,hu,hru⟩:=hx 0 oe;obtain⟨v,hv,hrv⟩:=hy 0 oe;have hu':=hru.int_eq;have hv':=hrv.int_eq;subst hu' hv';have ih:=zfB (P:=P) (w:=w) (d:=d) (us:=us) (vs:=vs) f4 ht (by simpa using hl)
      (fun j h=>by obtain⟨u,h1,h2⟩:=hx (j+1) (by simpa using h);exact⟨u,by rw[show i+1+j=i+(j+1) by omega];exact h1,by simpa using h2⟩)
      (fun j h=>by obtain⟨u,h1,h2⟩:=hy (j+1) (by simpa using h);exact⟨u,by rw[show i+1+j=i+(j+1) by omega];exact h1,by simpa using h2⟩)
     split at f3
     ·rename_i kd hk;have p1:(part f.type us f.offset).run P w = .ok (.int .i64 a) w:=by
       have hu0:us[i]?=some (.int .i64 a):=by simpa using hu
       simp only[part,isAgg,Sem.run_bind,run_underlying hk,Result.andThen_ok,Sem.run_pure,f2',hu0,Bool.false_eq_true,if_false]
      have p2:(part f.type vs f.offset).run P w = .ok (.int .i64 b') w:=by
       have hv0:vs[i]?=some (.int .i64 b'):=by simpa using hv
       simp only[part,isAgg,Sem.run_bind,run_underlying hk,Result.andThen_ok,Sem.run_pure,f2',hv0,Bool.false_eq_true,if_false]
      simp only[Op.eqFields];rw[if_pos f1];simp only[Sem.run_bind,p1,p2,Result.andThen_ok,run_equalIn_int w d f.type .i64 kd a b' hk];by_cases hab:a=b'
      ·subst hab;simp[ih]
      ·simp[hab]
     ·cases f3
    ·cases he
   ·cases he
def subF (P:Program) (f:Field):Nat:=match P.underlying f.type with
 |some (.int _)=>1
 |some (.struct _)=>(P.fieldsOf f.type).size
 |_=>0
def zir (P:Program):List Field->Nat
 | []=>0
 |f::r=>subF P f+zir P r
def zeu (P:Program):Nat->List Field->Bool
 |_,[]=>true
 |i,f::r=>(f.name != "_")&&Nat.beq f.offset i&&(match P.underlying f.type with
  |some (.int _)=>true
  |some (.struct _)=>(match P.stoodInHeld f.type with|true=>false|false=>true)&&zcR P 0 (P.fieldsOf f.type).toList&&(match zkC P f.type with|some (k,true)=>Nat.beq k (P.fieldsOf f.type).size|_=>false)
  |_=>false)&&zeu P (i+subF P f) r
structure EqT2 (P:Program) (t k:Nat):Prop where
 und:P.underlying t=some (.struct (P.fieldsOf t))
 held:P.stoodInHeld t=false
 grd:P.eqGuardType P.depth t=false
 fld:zeu P 0 (P.fieldsOf t).toList=true
 len:zir P (P.fieldsOf t).toList=k
theorem zmS {k:Nat}:∀ {xs ys:List AV}{b:Bool},eqC xs ys=some b->k<=xs.length->∃b1 b2,eqC (xs.take k) (ys.take k)=some b1/\eqC (xs.drop k) (ys.drop k)=some b2/\b=(b1&&b2):=by
 induction k with
 |zero=>intro xs ys b h _;exact⟨true,b,by simp[eqC],by simpa using h,by simp⟩
 |succ k ih=>
  intro xs ys b h hk;cases xs with
  |nil=>simp at hk
  |cons x r=>
   cases ys with
   |nil=>unfold eqC at h;split at h<;>simp_all
   |cons y s=>
    unfold eqC at h;split at h
    ·rename_i h1 h2;simp at h1
    ·rename_i a r' b' s' h1 h2;simp only[List.cons.injEq] at h1 h2;obtain⟨rfl,rfl⟩:=h1;obtain⟨rfl,rfl⟩:=h2;split at h
     ·rename_i t ht;simp only[xae] at h;subst h;obtain⟨b1,b2,e1,e2,e3⟩:=ih ht (by simpa using hk);refine⟨decide (a=b')&&b1,b2,by simp[eqC,e1],by simpa using e2,by rw[e3,Bool.and_assoc]⟩
     ·cases h
    ·cases h
theorem zfA {P:Program}{w:World}{G:Gh}{T:TokF}:∀ {fs:List Field}{i:Nat}{xs ys:List AV}{b:Bool}{us vs:Array Value},zeu P i fs=true->eqC xs ys=some b->zir P fs=xs.length->
  (∀j (h:j<xs.length),∃u,us[i+j]?=some u/\RelA G T w xs[j] u)->(∀j (h:j<ys.length),∃u,vs[i+j]?=some u/\RelA G T w ys[j] u)->
  (Op.eqFields 9999 us vs fs).run P w = .ok b w
 | [],i,xs,ys,b,us,vs,_,h,hl,_,_=>by
  have e:xs=[]:=List.eq_nil_of_length_eq_zero hl.symm;subst e;have e2:=zjs h;have e:ys=[]:=List.eq_nil_of_length_eq_zero e2.symm;subst e;simp only[eqC,xae] at h;subst h;simp[Op.eqFields]
 |f::fs,i,xs,ys,b,us,vs,hf,he,hl,hx,hy=>by
  have hlen:=zjs he;simp only[zir] at hl;simp only[zeu,xad,bne_iff_ne] at hf;obtain⟨⟨⟨f1,f2⟩,f3⟩,f4⟩:=hf;have f2':=xap f2;obtain⟨b1,b2,e1,e2,e3⟩:=zmS (k:=subF P f) he oc;have ih:=zfA (P:=P) (w:=w) (us:=us) (vs:=vs) f4 e2 (by rw[List.length_drop];omega)
   (fun j h=>by
    rw[List.length_drop] at h;obtain⟨u,h1,h2⟩:=hx (subF P f+j) oc;exact⟨u,by rw[Nat.add_assoc];exact h1,by rw[List.getElem_drop];exact h2⟩)
   (fun j h=>by
    rw[List.length_drop] at h;obtain⟨u,h1,h2⟩:=hy (subF P f+j) oc;exact⟨u,by rw[Nat.add_assoc];exact h1,by rw[List.getElem_drop];exact h2⟩)
  have key:∃u v,(part f.type us f.offset).run P w = .ok u w/\(part f.type vs f.offset).run P w = .ok v w/\(Op.equalIn 9999 f.type u v).run P w = .ok b1 w:=by
   split at f3
   ·rename_i kd hk;have hs:subF P f=1:=by unfold subF;rw[hk]
    rw[hs] at e1 hl;obtain⟨u,hu,hru⟩:=hx 0 oc;obtain⟨v,hv,hrv⟩:=hy 0 oc;rcases xs with _|⟨x,xr⟩
    ·simp at hl
    rcases ys with _|⟨y,yr⟩
    ·simp at hlen
    simp only[List.getElem_cons_zero] at hru hrv;simp only[List.take_succ_cons,List.take_zero] at e1;unfold eqC at e1;split at e1
    ·rename_i h1 _;simp at h1
    ·rename_i a r b' s h1 h2;simp only[List.cons.injEq] at h1 h2;obtain⟨rfl,rfl⟩:=h1;obtain⟨rfl,rfl⟩:=h2;simp only[eqC,Bool.and_true,xae] at e1;have hu':=hru.int_eq;have hv':=hrv.int_eq;subst hu' hv';refine⟨.int .i64 a,.int .i64 b', ?_, ?_, ?_⟩
     ·have hu0:us[i]?=some (.int .i64 a):=by simpa using hu
      simp only[part,isAgg,Sem.run_bind,run_underlying hk,Result.andThen_ok,Sem.run_pure,f2',hu0,Bool.false_eq_true,if_false]
     ·have hv0:vs[i]?=some (.int .i64 b'):=by simpa using hv
      simp only[part,isAgg,Sem.run_bind,run_underlying hk,Result.andThen_ok,Sem.run_pure,f2',hv0,Bool.false_eq_true,if_false]
     ·rw[show(9999:Nat)=9998+1 from rfl,run_equalIn_int w 9998 f.type .i64 kd a b' hk,<-e1];congr 1
    ·cases e1
   ·rename_i fs' hk;simp only[xad] at f3;obtain⟨⟨g1,g2⟩,g3⟩:=f3;have hheld:P.stoodInHeld f.type=false:=by
     split at g1
     ·cases g1
     ·assumption
    have hund:P.underlying f.type=some (.struct (P.fieldsOf f.type)):=by rw[hk];simp[Program.fieldsOf,hk]
    have hs:subF P f=(P.fieldsOf f.type).size:=by unfold subF;rw[hk]
    have hty:TyS P f.type (P.fieldsOf f.type).size true:=by
     split at g3
     ·rename_i k hg;rw[<-xap g3];exact xa0 hg
     ·cases g3
    have hpart:∀cs:Array Value,(part f.type cs f.offset).run P w = .ok (.agg (cs.extract i (i+(P.fieldsOf f.type).size))) w:=fun cs=>by
     simp only[part,Sem.run_bind,hty.run_agg,hty.run_size,Result.andThen_ok,Sem.run_pure,f2',if_true]
    refine⟨_,_,hpart us,hpart vs, ?_⟩;rw[show(9999:Nat)=9998+1 from rfl,run_equalIn_agg w 9998 f.type _ _ hund hheld];refine zfB (d:=9997) (G:=G) (T:=T) (i:=0) g2 e1 (by rw[List.length_take,Array.length_toList,hs];omega) (fun j h=>?_) (fun j h=>?_)
    ·rw[List.length_take] at h;obtain⟨u,h1,h2⟩:=hx j oc;refine⟨u, ?_,by rw[List.getElem_take];exact h2⟩;rw[Array.getElem?_extract,if_pos (by have:=(Array.getElem?_eq_some_iff.1 h1).1;omega),Nat.zero_add];exact h1
    ·rw[List.length_take] at h;obtain⟨u,h1,h2⟩:=hy j oc;refine⟨u, ?_,by rw[List.getElem_take];exact h2⟩;rw[Array.getElem?_extract,if_pos (by have:=(Array.getElem?_eq_some_iff.1 h1).1;omega),Nat.zero_add];exact h1
   ·cases f3
  obtain⟨u,v,p1,p2,p3⟩:=key;simp only[Op.eqFields];rw[if_pos f1];simp only[Sem.run_bind,p1,p2,Result.andThen_ok,p3];subst e3;cases b1 with
  |true=>simp[ih]
  |false=>simp
theorem znA {P:Program}{w:World}{G:Gh}{T:TokF}{t:TypeId}{xs ys:List AV}{b:Bool}{u v:Value}{k:Nat} (ht:EqT2 P t k) (hl0:xs.length=k) (he:eqC xs ys=some b) (hu:RelA G T w (.agg xs) u) (hv:RelA G T w (.agg ys) v):
  ∃us vs,u = .agg us/\v = .agg vs/\(Op.equalIn 10000 t (.agg us) (.agg vs)).run P w = .ok b w:=by
 cases hu with
 |agg h1 h2=>
  cases hv with
  |agg h3 h4=>
   refine⟨_,_,rfl,rfl, ?_⟩;rw[show(10000:Nat)=9999+1 from rfl,run_equalIn_agg w 9999 t _ _ ht.und ht.held];refine zfA (G:=G) (T:=T) (i:=0) ht.fld he (ht.len.trans hl0.symm) (fun j h=>?_) (fun j h=>?_)
   ·rename_i us vs;have hj:j<us.size:=by rw[h1];exact h
    exact⟨us[j],by rw[Nat.zero_add,Array.getElem?_eq_getElem hj],h2 j h hj⟩
   ·rename_i us vs;have hj:j<vs.size:=by rw[h3];exact h
    exact⟨vs[j],by rw[Nat.zero_add,Array.getElem?_eq_getElem hj],h4 j h hj⟩
section
variable {c:Ctx}{all:Array Oper}{chk:List Rec->Prop}{os:List Oper}{recs:List Rec}{env:Env}{hp:Hp}{Q:St->Prop}
variable {d ty:Nat}{pos:String}{af:Array Edge}{g:Option (Nat×Bool)}{pg:List (Nat×AV)}
variable {t yt:TypeId}{x y:Operand}
theorem Walk.eqV2 {xs ys:List AV}{b:Bool}{k:Nat} (ht:EqT2 c.P t k) (hg:GH all env g pg) (hd:Nat.blt d c.n=true) (hx:opd env x=some (.agg xs)) (hy:opd env y=some (.agg ys)) (he:eqC xs ys=some b) (hl:xs.length=k)
  (hn:Walk c all chk os (zah (pg++(opF x (.agg xs)++opF y (.agg ys))) [] [] ⟨some (d,.d (.bool b)),[]⟩::recs) ⟨(d,.d (.bool b))::env,hp⟩ Q):
  Walk c all chk (⟨some d,.binOp .eql t x y yt,ty,pos,af,g⟩::os) recs ⟨env,hp⟩ Q:=by
 refine xbr hg hd hx hy (fun a G T w h1 h2=>⟨.bool b, ?_,.d (.bool _)⟩) hn;obtain⟨us,vs,e1,e2,e3⟩:=znA ht hl he h1 h2;simp only[execOp,e1,e2];simp only[Sem.run_bind,run_eqGuard_agg w .eql t x y us vs ht.grd,Result.andThen_ok,run_eql_struct,e3,Sem.run_pure]
end
structure Tabs where
 ty:Nat->Option (Nat×Bool)
 sl:Nat->Bool
 st:Nat->Bool
 fd:Nat->Nat->Option Nat
structure TabsOK (P:Program) (T:Tabs):Prop where
 ty:∀t k b,T.ty t=some (k,b)->TyS P t k b
 sl:∀t,T.sl t=true->∃e k y,SlT P t e k y
 st:∀t,T.st t=true->P.underlying t=some .string
 fd:∀t f o,T.fd t f=some o->Fd P t f o
structure Sp (b:Bool) (X Y:Prop):Prop where
 t:b=true->X
 f:b=false->Y
structure Ar (n:Int) (X:Prop):Prop where
 b:I64 n
 k:X
def kget:List (Nat×Bool)->Nat->Option Bool
 | [],_=>none
 |(k,v)::r,i=>bif Nat.beq k i then some v else kget r i
def kdel:List (Nat×Bool)->Nat->List (Nat×Bool)
 | [],_=>[]
 |(k,v)::r,i=>bif Nat.beq k i then kdel r i else (k,v)::kdel r i
def memN:List Nat->Nat->Bool
 | [],_=>false
 |k::r,i=>bif Nat.beq k i then true else memN r i
def KN (env:Env):List (Nat×Bool)->Prop
 | []=>True
 |(e,v)::r=>(∃b,getE env e=some (.d (.bool b))/\b=v)/\KN env r
abbrev Cont:=List (Nat×AV)->List (Nat×Res)->AV->Prop
def evB (op:BinOp) (u v:D) (k:D->Prop) (stuck:Prop):Prop:=
 match u,v with
 | .int a m,.int b n=>match a,b with
  | .i64,.i64=>match op with
   | .eql=>k (.bool (decide (m=n)))
   | .neq=>k (.bool (!decide (m=n)))
   | .lss=>k (.bool (decide (m<n)))
   | .leq=>k (.bool (decide (m<=n)))
   | .gtr=>k (.bool (decide (n<m)))
   | .geq=>k (.bool (decide (n<=m)))
   | .add=>Ar (m+n) (k (.int .i64 (m+n)))
   | .sub=>Ar (m-n) (k (.int .i64 (m-n)))
   | .mul=>Ar (m*n) (k (.int .i64 (m*n)))
   |_=>stuck
  | .u8,.u8=>match op with
   | .eql=>k (.bool (decide (m=n)))
   | .neq=>k (.bool (!decide (m=n)))
   | .lss=>k (.bool (decide (m<n)))
   | .leq=>k (.bool (decide (m<=n)))
   | .gtr=>k (.bool (decide (n<m)))
   | .geq=>k (.bool (decide (n<=m)))
   |_=>stuck
  |_,_=>stuck
 | .str l,.str m=>match op with
  | .eql=>k (.bool (decide (l=m)))
  | .neq=>k (.bool (!decide (l=m)))
  |_=>stuck
 |_,_=>stuck
def evV (T:Tabs) (env:Env) (hp:Hp) (kn:List (Nat×Bool)) (k:Cont) (stuck:Prop) (op:Op):Prop:=
 match op with
 | .move x=>match opd env x with
  |some v=>k (opF x v) [] v
  |none=>stuck
 | .assign x=>match opd env x with
  |some v=>k (opF x v) [] v
  |none=>stuck
 | .pick (.tmp t) y z=>match getE env t with
  |some (.d (.bool b))=>match kget kn t with
   |some true=>match opd env y with
    |some v=>k (opF (.tmp t) (.d (.bool b))++opF y v) [] v
    |none=>stuck
   |some false=>match opd env z with
    |some v=>k (opF (.tmp t) (.d (.bool b))++opF z v) [] v
    |none=>stuck
   |none=>stuck
  |_=>stuck
 | .binOp op _ x y _=>match opd env x,opd env y with
  |some (.d u),some (.d v)=>evB op u v (fun r=>k (opF x (.d u)++opF y (.d v)) [] (.d r)) stuck
  |_,_=>stuck
 | .unOp .not _ x=>match opd env x with
  |some (.d (.bool b))=>k (opF x (.d (.bool b))) [] (.d (.bool (!b)))
  |_=>stuck
 | .load t x=>match opd env x with
  |some (.ref id off)=>match getH hp id with
   |some (.box cs)=>match T.ty t with
    |some (_,false)=>match cs[off]? with
     |some v=>k (opF x (.ref id off)) [(id,.box cs)] v
     |none=>stuck
    |some (n,true)=>match cutC cs off n with
     |some r=>k (opF x (.ref id off)) [(id,.box cs)] (.agg r)
     |none=>stuck
    |none=>stuck
   |_=>stuck
  |some (.d (.ptr cs off))=>match T.ty t with
   |some (_,false)=>match cs[off]? with
    |some v=>k (opF x (.d (.ptr cs off))) [] (.d v)
    |none=>stuck
   |some (n,true)=>match cutC cs off n with
    |some r=>match mapD r with
     |some r'=>k (opF x (.d (.ptr cs off))) [] (.agg r')
     |none=>stuck
    |none=>stuck
   |none=>stuck
  |_=>stuck
 | .fieldAddr t x f=>match opd env x with
  |some (.ref id off)=>match T.fd t f with
   |some o=>k (opF x (.ref id off)) [] (.ref id (off+o))
   |none=>stuck
  |some (.d (.ptr cs off))=>match T.fd t f with
   |some o=>k (opF x (.d (.ptr cs off))) [] (.d (.ptr cs (off+o)))
   |none=>stuck
  |_=>stuck
 | .extract x i=>match opd env x with
  |some (.tup vs)=>match vs[i]? with
   |some v=>k (opF x (.tup vs)) [] v
   |none=>stuck
  |_=>stuck
 | .nilCheck x=>match opd env x with
  |some (.ref id off)=>k (opF x (.ref id off)) [] (.ref id off)
  |some (.d (.ptr cs off))=>k (opF x (.d (.ptr cs off))) [] (.d (.ptr cs off))
  |_=>stuck
 | .call ⟨.builtin .len,⟨[x]⟩,⟨[at_]⟩⟩=>match opd env x with
  |some (.d (.str l))=>match T.st at_ with
   |true=>k (opF x (.d (.str l))) [] (.d (.i l.length))
   |false=>stuck
  |some (.d (.sl xs))=>match T.sl at_ with
   |true=>k (opF x (.d (.sl xs))) [] (.d (.i xs.length))
   |false=>stuck
  |some (.gl id xs)=>match T.sl at_ with
   |true=>k (opF x (.gl id xs)) [] (.d (.i xs.length))
   |false=>stuck
  |some (.ms id n)=>match T.sl at_ with
   |true=>k (opF x (.ms id n)) [] (.d (.i n))
   |false=>stuck
  |_=>stuck
 |_=>stuck
section
variable {T:Tabs}{c:Ctx}{all:Array Oper}{chk:List Rec->Prop}{os:List Oper}{recs:List Rec}{env:Env}{hp:Hp}{Q:St->Prop}
variable {d ty:Nat}{pos:String}{af:Array Edge}{g:Option (Nat×Bool)}{pg:List (Nat×AV)}{kn:List (Nat×Bool)}
theorem zdk:∀ {kn:List (Nat×Bool)}{e:Nat}{v:Bool},KN env kn->kget kn e=some v->∃b,getE env e=some (.d (.bool b))/\b=v
 |(k,u)::r,e,v,h,hk=>by
  simp only[kget] at hk;cases hb:Nat.beq k e with
  |true=>simp only[hb,cond_true,xae] at hk;subst hk;obtain rfl:=xap hb;exact h.1
  |false=>simp only[hb,cond_false] at hk;exact zdk h.2 hk
theorem zeJ {v:AV}:∀ {kn:List (Nat×Bool)},KN env kn->KN ((d,v)::env) (kdel kn d)
 | [],_=>trivial
 |(k,u)::r,h=>by
  simp only[kdel];cases hb:Nat.beq k d with
  |true=>exact zeJ h.2
  |false=>
   have hb':Nat.beq d k=false:=by
    cases hd:Nat.beq d k with
    |false=>rfl
    |true=>obtain rfl:=xap hd;rw[hd] at hb;cases hb
   refine⟨?_,zeJ h.2⟩;simp only[getE,hb',cond_false];exact h.1
theorem zpt {u v:D}{op:BinOp}{t yt:TypeId}{x y:Operand}{k:D->Prop}{stuck W:Prop}
  (hs:stuck->W) (hg:GH all env g pg) (hd:Nat.blt d c.n=true) (hx:opd env x=some (.d u)) (hy:opd env y=some (.d v))
  (hk:∀r,k r->Walk c all chk os (zah (pg++(opF x (.d u)++opF y (.d v))) [] [] ⟨some (d,.d r),[]⟩::recs) ⟨(d,.d r)::env,hp⟩ Q)
  (hW:W=Walk c all chk (⟨some d,.binOp op t x y yt,ty,pos,af,g⟩::os) recs ⟨env,hp⟩ Q)
  (h:evB op u v k stuck):W:=by
 unfold evB at h;split at h
 ·split at h
  ·split at h
   ·exact hW ▸ Walk.eqI hg hd hx hy (hk _ h)
   ·exact hW ▸ Walk.neI hg hd hx hy (hk _ h)
   ·exact hW ▸ Walk.ltI hg hd hx hy (hk _ h)
   ·exact hW ▸ Walk.leI hg hd hx hy (hk _ h)
   ·exact hW ▸ Walk.gtI hg hd hx hy (hk _ h)
   ·exact hW ▸ Walk.geI hg hd hx hy (hk _ h)
   ·exact hW ▸ Walk.addI hg hd hx hy h.b (hk _ h.k)
   ·exact hW ▸ Walk.subI hg hd hx hy h.b (hk _ h.k)
   ·exact hW ▸ Walk.mulI hg hd hx hy h.b (hk _ h.k)
   ·exact hs h
  ·split at h
   ·exact hW ▸ Walk.eqI hg hd hx hy (hk _ h)
   ·exact hW ▸ Walk.neI hg hd hx hy (hk _ h)
   ·exact hW ▸ Walk.ltI hg hd hx hy (hk _ h)
   ·exact hW ▸ Walk.leI hg hd hx hy (hk _ h)
   ·exact hW ▸ Walk.gtI hg hd hx hy (hk _ h)
   ·exact hW ▸ Walk.geI hg hd hx hy (hk _ h)
   ·exact hs h
  ·exact hs h
 ·split at h
  ·exact hW ▸ Walk.eqS hg hd hx hy (hk _ h)
  ·exact hW ▸ Walk.neS hg hd hx hy (hk _ h)
  ·exact hs h
 ·exact hs h
theorem zmT (hT:TabsOK c.P T){op:Op}{k:Cont} (hkn:KN env kn) (hg:GH all env g pg) (hd:Nat.blt d c.n=true)
  (hk:∀pre prh v,k pre prh v->Walk c all chk os (zah (pg++pre) prh [] ⟨some (d,v),[]⟩::recs) ⟨(d,v)::env,hp⟩ Q)
  (h:evV T env hp kn k (Walk c all chk (⟨some d,op,ty,pos,af,g⟩::os) recs ⟨env,hp⟩ Q) op):
  Walk c all chk (⟨some d,op,ty,pos,af,g⟩::os) recs ⟨env,hp⟩ Q:=by
 unfold evV at h;split at h
 ·split at h
  ·rename_i hx;exact Walk.move hg hd hx (hk _ _ _ h)
  ·exact h
 ·split at h
  ·rename_i hx;exact Walk.assign hg hd hx (hk _ _ _ h)
  ·exact h
 ·split at h
  ·rename_i b hx;split at h
   ·rename_i hkt;obtain⟨b',h1,h2⟩:=zdk hkn hkt;rw[hx] at h1;cases h1;split at h
    ·rename_i hy;exact Walk.pickT (x:= .tmp _) hg hd hx h2 hy (hk _ _ _ h)
    ·exact h
   ·rename_i hkt;obtain⟨b',h1,h2⟩:=zdk hkn hkt;rw[hx] at h1;cases h1;split at h
    ·rename_i hy;exact Walk.pickF (x:= .tmp _) hg hd hx h2 hy (hk _ _ _ h)
    ·exact h
   ·exact h
  ·exact h
 ·split at h
  ·rename_i hx hy;exact zpt id hg hd hx hy (fun r hr=>hk _ _ _ hr) Z h
  ·exact h
 ·split at h
  ·rename_i hx;exact Walk.not hg hd hx (hk _ _ _ h)
  ·exact h
 ·split at h
  ·rename_i hx;split at h
   ·rename_i hh;split at h
    ·rename_i ht;split at h
     ·rename_i hv;exact xbm (hT.ty _ _ _ ht) hg hd hx hh hv (hk _ _ _ h)
     ·exact h
    ·rename_i ht;split at h
     ·rename_i hv;exact Walk.loadBA (hT.ty _ _ _ ht) hg hd hx hh hv (hk _ _ _ h)
     ·exact h
    ·exact h
   ·exact h
  ·rename_i hx;split at h
   ·rename_i ht;split at h
    ·rename_i hv;exact Walk.loadP (hT.ty _ _ _ ht) hg hd hx hv (hk _ _ _ h)
    ·exact h
   ·rename_i ht;split at h
    ·rename_i hv;split at h
     ·rename_i hm;exact Walk.loadPA (hT.ty _ _ _ ht) hg hd hx hv hm (hk _ _ _ h)
     ·exact h
    ·exact h
   ·exact h
  ·exact h
 ·split at h
  ·rename_i hx;split at h
   ·rename_i hf;exact Walk.fieldB (hT.fd _ _ _ hf) hg hd hx (hk _ _ _ h)
   ·exact h
  ·rename_i hx;split at h
   ·rename_i hf;exact Walk.fieldP (hT.fd _ _ _ hf) hg hd hx (hk _ _ _ h)
   ·exact h
  ·exact h
 ·split at h
  ·rename_i hx;split at h
   ·rename_i hv;exact Walk.extract hg hd hx hv (hk _ _ _ h)
   ·exact h
  ·exact h
 ·split at h
  ·rename_i hx;exact Walk.nilCheck (.inl ⟨_,_,Z⟩) hg hd hx (hk _ _ _ h)
  ·rename_i hx;exact Walk.nilCheck (.inr ⟨_,_,Z⟩) hg hd hx (hk _ _ _ h)
  ·exact h
 ·split at h
  ·rename_i hx;split at h
   ·rename_i ht;exact Walk.lenS (hT.st _ ht) hg hd hx (hk _ _ _ h)
   ·exact h
  ·rename_i hx;split at h
   ·rename_i ht;obtain⟨_,_,_,ht⟩:=hT.sl _ ht;exact Walk.len ht hg hd hx (hk _ _ _ h)
   ·exact h
  ·rename_i hx;split at h
   ·rename_i ht;obtain⟨_,_,_,ht⟩:=hT.sl _ ht;exact Walk.lenG ht hg hd hx (hk _ _ _ h)
   ·exact h
  ·rename_i hx;split at h
   ·rename_i ht;obtain⟨_,_,_,ht⟩:=hT.sl _ ht;exact Walk.lenM ht hg hd hx (hk _ _ _ h)
   ·exact h
  ·exact h
 ·exact h
end
def evGo (T:Tabs) (stop:List Nat) (c:Ctx) (all:Array Oper) (chk:List Rec->Prop) (Q:St->Prop) (o:Oper) (os:List Oper) (recs:List Rec) (env:Env) (hp:Hp)
  (ih:List Rec->Env->Hp->List (Nat×Bool)->Prop) (d e:Nat) (b:Bool) (kn:List (Nat×Bool)) (op:Op):Prop:=
 match memN stop d with
 |true=>Walk c all chk (o::os) recs ⟨env,hp⟩ Q
 |false=>evV T env hp kn (fun pre prh v=>ih (zah ([(e,.d (.bool b))]++pre) prh [] ⟨some (d,v),[]⟩::recs) ((d,v)::env) hp (kdel kn d)) (Walk c all chk (o::os) recs ⟨env,hp⟩ Q) op
def zk0 (T:Tabs) (stop:List Nat) (c:Ctx) (all:Array Oper) (chk:List Rec->Prop) (Q:St->Prop) (o:Oper) (os:List Oper) (ih:List Rec->Env->Hp->List (Nat×Bool)->Prop)
  (recs:List Rec) (env:Env) (hp:Hp) (kn:List (Nat×Bool)):Prop:=
 match o.dst with
  |none=>match o.guard with
   |none=>Walk c all chk (o::os) recs ⟨env,hp⟩ Q
   |some (j,want)=>match (all[j]?).bind (·.dst) with
    |none=>Walk c all chk (o::os) recs ⟨env,hp⟩ Q
    |some e=>match getE env e with
     |some (.tup [])=>ih (zah [(e,.tup [])] [] [] ⟨none,[]⟩::recs) env hp kn
     |some (.d (.bool b))=>match kget kn e,want with
      |some true,true=>Walk c all chk (o::os) recs ⟨env,hp⟩ Q
      |some false,false=>Walk c all chk (o::os) recs ⟨env,hp⟩ Q
      |some _,_=>ih (zah [(e,.d (.bool b))] [] [] ⟨none,[]⟩::recs) env hp kn
      |none,true=>Sp b (Walk c all chk (o::os) recs ⟨env,hp⟩ Q) (ih (zah [(e,.d (.bool b))] [] [] ⟨none,[]⟩::recs) env hp ((e,false)::kn))
      |none,false=>Sp b (ih (zah [(e,.d (.bool b))] [] [] ⟨none,[]⟩::recs) env hp ((e,true)::kn)) (Walk c all chk (o::os) recs ⟨env,hp⟩ Q)
     |_=>Walk c all chk (o::os) recs ⟨env,hp⟩ Q
  |some d=>match Nat.blt d c.n with
   |false=>Walk c all chk (o::os) recs ⟨env,hp⟩ Q
   |true=>match o.guard with
    |none=>match memN stop d with
     |true=>Walk c all chk (o::os) recs ⟨env,hp⟩ Q
     |false=>evV T env hp kn (fun pre prh v=>ih (zah ([]++pre) prh [] ⟨some (d,v),[]⟩::recs) ((d,v)::env) hp (kdel kn d))
       (Walk c all chk (o::os) recs ⟨env,hp⟩ Q) o.op
    |some (j,want)=>match (all[j]?).bind (·.dst) with
     |none=>Walk c all chk (o::os) recs ⟨env,hp⟩ Q
     |some e=>match getE env e with
      |some (.tup [])=>ih (zah [(e,.tup [])] [] [] ⟨some (d,.tup []),[]⟩::recs) ((d,.tup [])::env) hp (kdel kn d)
      |some (.d (.bool b))=>match kget kn e,want with
       |some true,true=>evGo T stop c all chk Q o os recs env hp ih d e b kn o.op
       |some false,false=>evGo T stop c all chk Q o os recs env hp ih d e b kn o.op
       |some _,_=>ih (zah [(e,.d (.bool b))] [] [] ⟨some (d,.tup []),[]⟩::recs) ((d,.tup [])::env) hp (kdel kn d)
       |none,true=>Sp b (evGo T stop c all chk Q o os recs env hp ih d e b ((e,true)::kn) o.op) (ih (zah [(e,.d (.bool b))] [] [] ⟨some (d,.tup []),[]⟩::recs) ((d,.tup [])::env) hp (kdel ((e,false)::kn) d))
       |none,false=>Sp b (ih (zah [(e,.d (.bool b))] [] [] ⟨some (d,.tup []),[]⟩::recs) ((d,.tup [])::env) hp (kdel ((e,true)::kn) d)) (evGo T stop c all chk Q o os recs env hp ih d e b ((e,false)::kn) o.op)
      |_=>Walk c all chk (o::os) recs ⟨env,hp⟩ Q
noncomputable def evW (T:Tabs) (stop:List Nat) (c:Ctx) (all:Array Oper) (chk:List Rec->Prop) (Q:St->Prop) (fin:List Rec->Env->Hp->Prop) (os:List Oper):List Rec->Env->Hp->List (Nat×Bool)->Prop:=
 List.rec (motive:=fun _=>List Rec->Env->Hp->List (Nat×Bool)->Prop) (fun recs env hp _=>fin recs env hp) (fun o os ih=>zk0 T stop c all chk Q o os ih) os
section
variable {T:Tabs}{c:Ctx}{all:Array Oper}{chk:List Rec->Prop}{Q:St->Prop}{stop:List Nat}{fin:List Rec->Env->Hp->Prop}
theorem zeK {env:Env}{e:Nat}{b v:Bool}{kn:List (Nat×Bool)} (he:getE env e=some (.d (.bool b))) (hb:b=v) (hk:KN env kn):KN env ((e,v)::kn):=⟨⟨b,he,hb⟩,hk⟩
theorem zgB (hT:TabsOK c.P T) (hfin:∀recs env hp,fin recs env hp->chk recs/\Q ⟨env,hp⟩):∀ {os:List Oper}{recs:List Rec}{env:Env}{hp:Hp}{kn:List (Nat×Bool)},
  KN env kn->evW T stop c all chk Q fin os recs env hp kn->Walk c all chk os recs ⟨env,hp⟩ Q
 | [],recs,env,hp,kn,hkn,h=>by
  unfold evW at h;exact hfin _ _ _ h
 |⟨dst,op,ty,pos,af,g⟩::os,recs,env,hp,kn,hkn,h=>by
  have ih:=fun {recs:List Rec}{env:Env}{hp:Hp}{kn:List (Nat×Bool)}=>@zgB hT hfin os recs env hp kn;replace h:zk0 T stop c all chk Q ⟨dst,op,ty,pos,af,g⟩ os (evW T stop c all chk Q fin os) recs env hp kn:=h
  generalize evW T stop c all chk Q fin os=ihf at h ih;unfold zk0 at h;cases dst with
  |none=>
   simp only at h;cases g with
   |none=>exact h
   |some g=>
    obtain⟨j,want⟩:=g;simp only at h;split at h
    ·exact h
    ·rename_i e he;split at h
     ·rename_i hu;exact Walk.passU0 Z he hu Z (ih hkn h)
     ·rename_i b hb;have pass:∀ {kn':List (Nat×Bool)},b = !want->KN env kn'->ihf (zah [(e,.d (.bool b))] [] [] ⟨none,[]⟩::recs) env hp kn'->
        Walk c all chk (⟨none,op,ty,pos,af,some (j,want)⟩::os) recs ⟨env,hp⟩ Q:=fun h2 hk h=>Walk.pass0 rfl he hb h2 rfl (ih hk h)
      split at h
      ·exact h
      ·exact h
      ·rename_i w1 x1 w2 v hv h1 h2;obtain⟨b',h3,h4⟩:=zdk hkn hv;rw[hb] at h3;cases h3;refine pass ?_ hkn h;cases w1<;>cases v<;>simp_all
      ·exact Walk.split hb (fun hb'=>h.t hb') (fun hb'=>pass hb' (zeK hb hb' hkn) (h.f hb'))
      ·exact Walk.split hb (fun hb'=>pass hb' (zeK hb hb' hkn) (h.t hb')) (fun hb'=>h.f hb')
     ·exact h
  |some d=>
   simp only at h;split at h
   ·exact h
   ·rename_i hd;cases g with
    |none=>
     simp only at h;split at h
     ·exact h
     ·exact zmT hT hkn .none hd (fun pre prh v hk=>ih (zeJ hkn) hk) h
    |some g=>
     obtain⟨j,want⟩:=g;simp only at h;split at h
     ·exact h
     ·rename_i e he;split at h
      ·rename_i hu;exact Walk.passU Z he hu Z hd (ih (zeJ hkn) h)
      ·rename_i b hb;have go:∀ {kn':List (Nat×Bool)},b=want->KN env kn'->evGo T stop c all chk Q ⟨some d,op,ty,pos,af,some (j,want)⟩ os recs env hp ihf d e b kn' op->
         Walk c all chk (⟨some d,op,ty,pos,af,some (j,want)⟩::os) recs ⟨env,hp⟩ Q:=by
        intro kn' h2 hk h;unfold evGo at h;split at h
        ·exact h
        ·exact zmT hT hk (.some he hb h2) hd (fun pre prh v hk'=>ih (zeJ hk) hk') h
       have pass:∀ {kn':List (Nat×Bool)},b = !want->KN env kn'->ihf (zah [(e,.d (.bool b))] [] [] ⟨some (d,.tup []),[]⟩::recs) ((d,.tup [])::env) hp (kdel kn' d)->
         Walk c all chk (⟨some d,op,ty,pos,af,some (j,want)⟩::os) recs ⟨env,hp⟩ Q:=fun h2 hk h=>Walk.pass rfl he hb h2 rfl hd (ih (zeJ hk) h)
       split at h
       ·rename_i hv;obtain⟨b',h3,h4⟩:=zdk hkn hv;rw[hb] at h3;cases h3;exact go h4 hkn h
       ·rename_i hv;obtain⟨b',h3,h4⟩:=zdk hkn hv;rw[hb] at h3;cases h3;exact go h4 hkn h
       ·rename_i w1 x1 w2 v hv h1 h2;obtain⟨b',h3,h4⟩:=zdk hkn hv;rw[hb] at h3;cases h3;refine pass ?_ hkn h;cases w1<;>cases v<;>simp_all
       ·exact Walk.split hb (fun hb'=>go hb' (zeK hb hb' hkn) (h.t hb')) (fun hb'=>pass hb' (zeK hb hb' hkn) (h.f hb'))
       ·exact Walk.split hb (fun hb'=>pass hb' (zeK hb hb' hkn) (h.t hb')) (fun hb'=>go hb' (zeK hb hb' hkn) (h.f hb'))
      ·exact h
end
noncomputable def evC (T:Tabs) (stop rs:List Nat) (c:Ctx) (x:Code):St->Kt->Prop:=
 Code.rec (motive:=fun _=>St->Kt->Prop)
  (fun s K=>K.n s)
  (fun id all draw s K=>match memN rs id with
   |true=>CWp c (.region id all draw) s K
   |false=>match draw with
    |false=>evW T stop c all (fun _=>True) K.n (fun _ env hp=>K.n ⟨env,hp⟩) all.toList [] s.env s.hp []
    |true=>evW T stop c all (fun recs=>chkB all.toList s recs.reverse=true) K.n (fun recs env hp=>chkB all.toList s recs.reverse=true/\K.n ⟨env,hp⟩) all.toList [] s.env s.hp [])
  (fun _ _ ihx ihy s K=>ihx s (K.with fun s'=>ihy s' K))
  (fun x t e iht ihe s K=>match x with
   | .tmp i=>match memN rs (1000000+i) with
    |true=>CWp c (.cond (.tmp i) t e) s K
    |false=>match getE s.env i with
     |some (.d (.bool b))=>Sp b (iht s K) (ihe s K)
     |_=>CWp c (.cond (.tmp i) t e) s K
   |x=>CWp c (.cond x t e) s K)
  (fun id _ ih s K=>ih s (K.blk id))
  (fun x _ s K=>CWp c (.loop x) s K)
  (fun f p a b _ _ s K=>CWp c (.rangeFunc f p a b) s K)
  (fun id s K=>K.ex id s)
  (fun x _ s K=>CWp c (.scope x) s K)
  (fun _ s K=>K.n s)
  (fun l s K=>CWp c (.goto l) s K)
  (fun s K=>match memN rs 999999 with|true=>CWp c .ret s K|false=>K.rt s)
  (fun w s K=>CWp c (.refuse w) s K) x
theorem CWp.mono {c:Ctx}{x:Code}{s:St}{K K':Kt} (h:CWp c x s K) (h1:∀s,K.n s->K'.n s) (h2:∀i s,K.ex i s->K'.ex i s) (h3:∀s,K.rt s->K'.rt s):CWp c x s K':=by
 intro a w hr;refine wp_mono (h a w hr) ?_;intro e a' w' hq;cases e with
 |normal=>obtain⟨s',hr',hn⟩:=hq;exact⟨s',hr',h1 _ hn⟩
 |exit id=>obtain⟨s',hr',hn⟩:=hq;exact⟨s',hr',h2 _ _ hn⟩
 |ret=>obtain⟨s',hr',hn⟩:=hq;exact⟨s',hr',h3 _ hn⟩
 |goto l=>exact hq.elim
 |panic ch=>exact hq.elim
 |outgrown=>exact hq.elim
theorem zeQ {T:Tabs}{stop rs:List Nat}{c:Ctx} (hT:TabsOK c.P T) (hm:c.P.follows .mixedOrders=true):∀ {x:Code}{s:St}{K:Kt},evC T stop rs c x s K->CWp c x s K
 | .skip,s,K,h=>CWp.skip h
 | .exit id,s,K,h=>CWp.exit h
 | .ret,s,K,h=>by
  unfold evC at h;simp only at h;split at h
  ·exact h
  ·exact CWp.ret h
 | .label _,s,K,h=>CWp.label h
 | .seq x y,s,K,h=>CWp.seq ((zeQ (x:=x) (s:=s) (K:=K.with fun s'=>evC T stop rs c y s' K) hT hm h).mono (fun _ h'=>zeQ (x:=y) hT hm h') (fun _ _ h=>h) (fun _ h=>h))
 | .block id x,s,K,h=>CWp.block (zeQ (x:=x) (K:=K.blk id) hT hm h)
 | .cond x t e,s,K,h=>by
  have ht:∀ {s:St}{K:Kt},evC T stop rs c t s K->CWp c t s K:=zeQ hT hm;have he:∀ {s:St}{K:Kt},evC T stop rs c e s K->CWp c e s K:=zeQ hT hm;cases x with
  |tmp i=>
   unfold evC at h ht he;simp only at h;split at h
   ·exact h
   ·split at h
    ·rename_i hc;exact CWp.cond hc (fun hb=>ht (h.t hb)) (fun hb=>he (h.f hb))
    ·exact h
  |_=>exact h
 | .region id all draw,s,K,h=>by
  unfold evC at h;simp only at h;split at h
  ·exact h
  ·cases draw with
   |false=>exact CWp.region Z (zgB (kn:=[]) hT (fun _ _ _ h=>⟨O,h⟩) O h)
   |true=>exact CWp.drawn hm Z (zgB (kn:=[]) hT (fun _ _ _ h=>h) O h)
 | .loop _,s,K,h=>h
 | .rangeFunc ..,s,K,h=>h
 | .scope _,s,K,h=>h
 | .goto _,s,K,h=>h
 | .refuse _,s,K,h=>h
def lk {α:Type}:List (Nat×α)->Nat->Option α
 | [],_=>none
 |(k,v)::r,i=>bif Nat.beq k i then some v else lk r i
def lk2:List (Nat×Nat×Nat)->Nat->Nat->Option Nat
 | [],_,_=>none
 |(k,j,v)::r,i,f=>bif Nat.beq k i&&Nat.beq j f then some v else lk2 r i f
theorem zm3 {α:Type}{v:α}:∀ {l:List (Nat×α)}{i:Nat},lk l i=some v->(i,v)∈l
 |(k,u)::r,i,h=>by
  simp only[lk] at h;cases hb:Nat.beq k i with
  |true=>simp only[hb,cond_true,xae] at h;subst h;obtain rfl:=xap hb;simp
  |false=>simp only[hb,cond_false] at h;exact List.mem_cons_of_mem _ (zm3 h)
theorem zlL {v:Nat}:∀ {l:List (Nat×Nat×Nat)}{i f:Nat},lk2 l i f=some v->(i,f,v)∈l
 |(k,j,u)::r,i,f,h=>by
  simp only[lk2] at h;cases hb:Nat.beq k i&&Nat.beq j f with
  |true=>
   simp only[hb,cond_true,xae] at h;obtain⟨h1,h2⟩:=xad _ _ ▸ hb;obtain rfl:=xap h1;obtain rfl:=xap h2;subst h;simp
  |false=>simp only[hb,cond_false] at h;exact List.mem_cons_of_mem _ (zlL h)
theorem zhZ:∀ {l:List Nat}{i:Nat},memN l i=true->i∈l
 |k::r,i,h=>by
  simp only[memN] at h;cases hb:Nat.beq k i with
  |true=>obtain rfl:=xap hb;simp
  |false=>simp only[hb,cond_false] at h;exact List.mem_cons_of_mem _ (zhZ h)
def strB:Option TypeDesc->Bool
 |some .string=>true
 |_=>false
theorem TabsOK.of {P:Program}{ty:List (Nat×Nat×Bool)}{sl st:List Nat}{fd:List (Nat×Nat×Nat)}
  (h1:ty.map (fun p=>zkC P p.1)=ty.map (fun p=>some p.2)) (h2:sl.all (fun t=>(zmg P t).isSome)=true)
  (h3:st.all (fun t=>strB (P.underlying t))=true) (h4:fd.map (fun p=>zl7 P p.1 p.2.1)=fd.map (fun p=>some (p.2.2,false))):TabsOK P ⟨lk ty,memN sl,memN st,lk2 fd⟩:=by
 refine⟨fun t k b h=>xa0 ?_,fun t h=>?_,fun t h=>?_,fun t f o h=>Fd.of ?_⟩
 ·exact List.map_inj_left.1 h1 _ (zm3 h)
 ·have:=List.all_eq_true.1 h2 t (zhZ h);obtain⟨⟨e,k,y⟩,h⟩:=Option.isSome_iff_exists.1 this;exact⟨e,k,y,xaY h⟩
 ·have:=List.all_eq_true.1 h3 t (zhZ h);revert this
  cases P.underlying t with
  |none=>intro h;cases h
  |some d=>cases d<;>intro h<;>first|rfl|cases h
 ·exact List.map_inj_left.1 h4 _ (zlL h)
set_option maxRecDepth 100000
theorem ty3:TyS Tryz.prog 3 1 false:=xa0 od
theorem ty4:TyS Tryz.prog 4 1 false:=xa0 od
theorem ty5:TyS Tryz.prog 5 1 false:=xa0 od
theorem ty9:TyS Tryz.prog 9 1 false:=xa0 od
theorem ty38:TyS Tryz.prog 38 2 true:=xa0 od
theorem ty39:TyS Tryz.prog 39 1 false:=xa0 od
theorem ty41:TyS Tryz.prog 41 4 true:=xa0 od
theorem ty58:TyS Tryz.prog 58 1 false:=xa0 od
theorem ty60:TyS Tryz.prog 60 6 true:=xa0 od
theorem ty74:TyS Tryz.prog 74 1 false:=xa0 od
theorem ty91:TyS Tryz.prog 91 4 true:=xa0 od
theorem ty93:TyS Tryz.prog 93 6 true:=xa0 od
theorem ty98:TyS Tryz.prog 98 3 true:=xa0 od
theorem zmi:TyS Tryz.prog 101 3 true:=xa0 od
theorem zjj:TyS Tryz.prog 103 9 true:=xa0 od
theorem zqb:TyS Tryz.prog 132 1 false:=xa0 od
theorem zkB:TyS Tryz.prog 134 2 true:=xa0 od
theorem zqc:TyS Tryz.prog 175 1 false:=xa0 od
theorem zf7:TyS Tryz.prog 177 3 true:=xa0 od
theorem znX:TyS Tryz.prog 191 3 true:=xa0 od
theorem sl22:SlT Tryz.prog 22 5 1 1:=xaY od
theorem sl23:SlT Tryz.prog 23 134 2 40:=xaY od
theorem sl24:SlT Tryz.prog 24 93 6 80:=xaY od
theorem sl35:SlT Tryz.prog 35 91 4 32:=xaY od
theorem sl36:SlT Tryz.prog 36 191 3 24:=xaY od
theorem sl39:SlT Tryz.prog 39 41 4 48:=xaY od
theorem sl51:SlT Tryz.prog 51 131 2 40:=xaY od
theorem sl58:SlT Tryz.prog 58 60 6 64:=xaY od
theorem sl70:SlT Tryz.prog 70 157 6 80:=xaY od
theorem sl74:SlT Tryz.prog 74 103 9 88:=xaY od
theorem sl84:SlT Tryz.prog 84 9 1 16:=xaY od
theorem znR:SlT Tryz.prog 129 298 3 48:=xaY od
theorem zbr:SlT Tryz.prog 132 177 3 48:=xaY od
theorem znS:SlT Tryz.prog 154 313 9 88:=xaY od
theorem znT:SlT Tryz.prog 155 316 4 48:=xaY od
theorem zau:SlT Tryz.prog 175 38 2 16:=xaY od
theorem zdg:SlT Tryz.prog 212 3 1 8:=xaY od
theorem zp8:SlT Tryz.prog 296 151 2 16:=xaY od
theorem znU:SlT Tryz.prog 308 310 6 64:=xaY od
theorem tz3:TyZ Tryz.prog 3 1 [.d (.int .i64 0)]:=xa1 od
theorem tz5:TyZ Tryz.prog 5 1 [.d (.int .u8 0)]:=xa1 od
theorem tz9:TyZ Tryz.prog 9 1 [.d (.str [])]:=xa1 od
theorem tz38:TyZ Tryz.prog 38 2 [.d (.int .i64 0),.d (.int .i64 0)]:=xa1 od
theorem tz41:TyZ Tryz.prog 41 4 [.d (.int .i64 0),.d (.int .i64 0),.d (.int .i64 0),.nils]:=xa1 od
theorem tz60:TyZ Tryz.prog 60 6 [.d (.int .i64 0),.d (.int .i64 0),.d (.int .i64 0),.d (.int .i64 0),.d (.int .i64 0),.nils]:=xa1 od
theorem tz91:TyZ Tryz.prog 91 4 [.d (.int .i64 0),.d (.int .i64 0),.d (.int .i64 0),.d (.int .i64 0)]:=xa1 od
theorem tz93:TyZ Tryz.prog 93 6 [.d (.int .i64 0),.d (.int .i64 0),.d (.int .i64 0),.d (.int .i64 0),.nils,.nils]:=xa1 od
theorem tz98:TyZ Tryz.prog 98 3 [.nils,.nils,.nils]:=xa1 od
theorem zn0:TyZ Tryz.prog 101 3 [.d (.int .i64 0),.d (.int .i64 0),.d (.int .i64 0)]:=xa1 od
theorem zho:TyZ Tryz.prog 103 9 [.d (.int .i64 0),.d (.int .i64 0),.d (.int .i64 0),.d (.int .i64 0),.d (.int .i64 0),.nils,.d (.int .i64 0),.d (.int .i64 0),.d (.int .i64 0)]:=xa1 od
theorem zkD:TyZ Tryz.prog 134 2 [.d (.str []),.nils]:=xa1 od
theorem zf8:TyZ Tryz.prog 177 3 [.d (.str []),.nils,.d (.int .i64 0)]:=xa1 od
theorem zmj:TyZ Tryz.prog 189 6 [.d (.bool false),.d (.bool false),.d (.bool false),.d (.bool false),.d (.bool false),.d (.bool false)]:=xa1 od
theorem zkE:TyZ Tryz.prog 191 3 [.d (.int .i64 0),.d (.int .i64 0),.d (.int .i64 0)]:=xa1 od
theorem zz3:ZeroT Tryz.prog 3 1:=xbw od
theorem zz9:ZeroT Tryz.prog 9 1:=xbw od
theorem zz38:ZeroT Tryz.prog 38 2:=xbw od
theorem zz91:ZeroT Tryz.prog 91 4:=xbw od
theorem zkF:ZeroT Tryz.prog 191 3:=xbw od
theorem st38:StT Tryz.prog 38 [(0,1),(1,1)] [.d (.int .i64 0),.d (.int .i64 0)]:=StT.of od
theorem st98:StT Tryz.prog 98 [(0,1),(1,1),(2,1)] [.nils,.nils,.nils]:=StT.of od
theorem zp9:StT Tryz.prog 101 [(0,1),(1,1),(2,1)] [.d (.int .i64 0),.d (.int .i64 0),.d (.int .i64 0)]:=StT.of od
theorem zmh:StT Tryz.prog 191 [(0,1),(1,2)] [.d (.int .i64 0),.d (.int .i64 0),.d (.int .i64 0)]:=StT.of od
theorem zkx:ArT Tryz.prog 189 6 4 1:=ArT.of od
theorem un3:Tryz.prog.underlying 3=some (.int .i64):=by kernel_rfl
theorem un5:Tryz.prog.underlying 5=some (.int .u8):=by kernel_rfl
theorem un9:Tryz.prog.underlying 9=some (.string):=by kernel_rfl
theorem zkz:MapT Tryz.prog 173:=MapT.of od
theorem eq38:EqT Tryz.prog 38 2:=⟨by kernel_rfl,by kernel_rfl,by kernel_rfl,by kernel_rfl,by kernel_rfl⟩
theorem zp2:EqT Tryz.prog 101 3:=⟨by kernel_rfl,by kernel_rfl,by kernel_rfl,by kernel_rfl,by kernel_rfl⟩
theorem zp3:EqT2 Tryz.prog 191 3:=⟨by kernel_rfl,by kernel_rfl,by kernel_rfl,by kernel_rfl,by kernel_rfl⟩
theorem zpD:Callee Tryz.prog 10:=⟨fun args w=>zab (fn:=Tryz.f10) rfl rfl og args w⟩
theorem znG:Callee Tryz.prog 12:=⟨fun args w=>zab (fn:=Tryz.f12) rfl rfl og args w⟩
theorem zpE:Callee Tryz.prog 13:=⟨fun args w=>zab (fn:=Tryz.f13) rfl rfl og args w⟩
theorem znH:Callee Tryz.prog 14:=⟨fun args w=>zab (fn:=Tryz.f14) rfl rfl og args w⟩
theorem zpF:Callee Tryz.prog 27:=⟨fun args w=>zab (fn:=Tryz.f27) rfl rfl og args w⟩
theorem zlX:Callee Tryz.prog 28:=⟨fun args w=>zab (fn:=Tryz.f28) rfl rfl og args w⟩
theorem zpG:Callee Tryz.prog 29:=⟨fun args w=>zab (fn:=Tryz.f29) rfl rfl og args w⟩
theorem zpH:Callee Tryz.prog 30:=⟨fun args w=>zab (fn:=Tryz.f30) rfl rfl og args w⟩
theorem zpI:Callee Tryz.prog 43:=⟨fun args w=>zab (fn:=Tryz.f43) rfl rfl og args w⟩
theorem zlY:Callee Tryz.prog 44:=⟨fun args w=>zab (fn:=Tryz.f44) rfl rfl og args w⟩
theorem zpJ:Callee Tryz.prog 48:=⟨fun args w=>zab (fn:=Tryz.f48) rfl rfl og args w⟩
theorem znI:Callee Tryz.prog 50:=⟨fun args w=>zab (fn:=Tryz.f50) rfl rfl og args w⟩
theorem zpK:Callee Tryz.prog 55:=⟨fun args w=>zab (fn:=Tryz.f55) rfl rfl og args w⟩
theorem znJ:Callee Tryz.prog 56:=⟨fun args w=>zab (fn:=Tryz.f56) rfl rfl og args w⟩
theorem znK:Callee Tryz.prog 60:=⟨fun args w=>zab (fn:=Tryz.f60) rfl rfl og args w⟩
theorem znL:Callee Tryz.prog 62:=⟨fun args w=>zab (fn:=Tryz.f62) rfl rfl og args w⟩
theorem zpL:Callee Tryz.prog 64:=⟨fun args w=>zab (fn:=Tryz.f64) rfl rfl og args w⟩
theorem zpM:Callee Tryz.prog 65:=⟨fun args w=>zab (fn:=Tryz.f65) rfl rfl og args w⟩
theorem zpN:Callee Tryz.prog 66:=⟨fun args w=>zab (fn:=Tryz.f66) rfl rfl og args w⟩
theorem zlZ:Callee Tryz.prog 67:=⟨fun args w=>zab (fn:=Tryz.f67) rfl rfl og args w⟩
theorem znM:Callee Tryz.prog 68:=⟨fun args w=>zab (fn:=Tryz.f68) rfl rfl og args w⟩
theorem zpO:Callee Tryz.prog 69:=⟨fun args w=>zab (fn:=Tryz.f69) rfl rfl og args w⟩
theorem zpP:Callee Tryz.prog 70:=⟨fun args w=>zab (fn:=Tryz.f70) rfl rfl og args w⟩
theorem zl0:Callee Tryz.prog 78:=⟨fun args w=>zab (fn:=Tryz.f78) rfl rfl og args w⟩
theorem zpQ:Callee Tryz.prog 79:=⟨fun args w=>zab (fn:=Tryz.f79) rfl rfl og args w⟩
theorem zhd:Callee Tryz.prog 80:=⟨fun args w=>zab (fn:=Tryz.f80) rfl rfl og args w⟩
theorem zpR:Callee Tryz.prog 82:=⟨fun args w=>zab (fn:=Tryz.f82) rfl rfl og args w⟩
theorem zpS:Callee Tryz.prog 87:=⟨fun args w=>zab (fn:=Tryz.f87) rfl rfl og args w⟩
theorem zpT:Callee Tryz.prog 88:=⟨fun args w=>zab (fn:=Tryz.f88) rfl rfl og args w⟩
theorem zpU:Callee Tryz.prog 89:=⟨fun args w=>zab (fn:=Tryz.f89) rfl rfl og args w⟩
theorem zpV:Callee Tryz.prog 90:=⟨fun args w=>zab (fn:=Tryz.f90) rfl rfl og args w⟩
theorem zl1:Callee Tryz.prog 98:=⟨fun args w=>zab (fn:=Tryz.f98) rfl rfl og args w⟩
theorem zfx:Callee Tryz.prog 100:=⟨fun args w=>zab (fn:=Tryz.f100) rfl rfl og args w⟩
theorem zom:Callee Tryz.prog 102:=⟨fun args w=>zab (fn:=Tryz.f102) rfl rfl og args w⟩
theorem zmp:Callee Tryz.prog 103:=⟨fun args w=>zab (fn:=Tryz.f103) rfl rfl og args w⟩
theorem zon:Callee Tryz.prog 107:=⟨fun args w=>zab (fn:=Tryz.f107) rfl rfl og args w⟩
theorem zoo:Callee Tryz.prog 108:=⟨fun args w=>zab (fn:=Tryz.f108) rfl rfl og args w⟩
theorem zop:Callee Tryz.prog 110:=⟨fun args w=>zab (fn:=Tryz.f110) rfl rfl og args w⟩
theorem zoq:Callee Tryz.prog 112:=⟨fun args w=>zab (fn:=Tryz.f112) rfl rfl og args w⟩
theorem zor:Callee Tryz.prog 113:=⟨fun args w=>zab (fn:=Tryz.f113) rfl rfl og args w⟩
theorem zos:Callee Tryz.prog 114:=⟨fun args w=>zab (fn:=Tryz.f114) rfl rfl og args w⟩
theorem zot:Callee Tryz.prog 116:=⟨fun args w=>zab (fn:=Tryz.f116) rfl rfl og args w⟩
theorem zmq:Callee Tryz.prog 123:=⟨fun args w=>zab (fn:=Tryz.f123) rfl rfl og args w⟩
theorem zkJ:Callee Tryz.prog 124:=⟨fun args w=>zab (fn:=Tryz.f124) rfl rfl og args w⟩
theorem zb4:Callee Tryz.prog 125:=⟨fun args w=>zab (fn:=Tryz.f125) rfl rfl og args w⟩
theorem zou:Callee Tryz.prog 126:=⟨fun args w=>zab (fn:=Tryz.f126) rfl rfl og args w⟩
theorem zmr:Callee Tryz.prog 131:=⟨fun args w=>zab (fn:=Tryz.f131) rfl rfl og args w⟩
theorem zov:Callee Tryz.prog 133:=⟨fun args w=>zab (fn:=Tryz.f133) rfl rfl og args w⟩
theorem zow:Callee Tryz.prog 134:=⟨fun args w=>zab (fn:=Tryz.f134) rfl rfl og args w⟩
theorem zkK:Callee Tryz.prog 135:=⟨fun args w=>zab (fn:=Tryz.f135) rfl rfl og args w⟩
theorem zih:Callee Tryz.prog 136:=⟨fun args w=>zab (fn:=Tryz.f136) rfl rfl og args w⟩
theorem zms:Callee Tryz.prog 137:=⟨fun args w=>zab (fn:=Tryz.f137) rfl rfl og args w⟩
theorem zmt:Callee Tryz.prog 138:=⟨fun args w=>zab (fn:=Tryz.f138) rfl rfl og args w⟩
theorem zox:Callee Tryz.prog 139:=⟨fun args w=>zab (fn:=Tryz.f139) rfl rfl og args w⟩
theorem zoy:Callee Tryz.prog 140:=⟨fun args w=>zab (fn:=Tryz.f140) rfl rfl og args w⟩
theorem zoz:Callee Tryz.prog 141:=⟨fun args w=>zab (fn:=Tryz.f141) rfl rfl og args w⟩
theorem zkL:Callee Tryz.prog 142:=⟨fun args w=>zab (fn:=Tryz.f142) rfl rfl og args w⟩
theorem zeN:Callee Tryz.prog 143:=⟨fun args w=>zab (fn:=Tryz.f143) rfl rfl og args w⟩
theorem zii:Callee Tryz.prog 153:=⟨fun args w=>zab (fn:=Tryz.f153) rfl rfl og args w⟩
theorem zea:Callee Tryz.prog 154:=⟨fun args w=>zab (fn:=Tryz.f154) rfl rfl og args w⟩
theorem zgt:Callee Tryz.prog 155:=⟨fun args w=>zab (fn:=Tryz.f155) rfl rfl og args w⟩
theorem zij:Callee Tryz.prog 156:=⟨fun args w=>zab (fn:=Tryz.f156) rfl rfl og args w⟩
theorem zeb:Callee Tryz.prog 157:=⟨fun args w=>zab (fn:=Tryz.f157) rfl rfl og args w⟩
theorem zgu:Callee Tryz.prog 158:=⟨fun args w=>zab (fn:=Tryz.f158) rfl rfl og args w⟩
theorem zik:Callee Tryz.prog 159:=⟨fun args w=>zab (fn:=Tryz.f159) rfl rfl og args w⟩
theorem zmu:Callee Tryz.prog 161:=⟨fun args w=>zab (fn:=Tryz.f161) rfl rfl og args w⟩
theorem zmv:Callee Tryz.prog 162:=⟨fun args w=>zab (fn:=Tryz.f162) rfl rfl og args w⟩
theorem zil:Callee Tryz.prog 165:=⟨fun args w=>zab (fn:=Tryz.f165) rfl rfl og args w⟩
theorem zoA:Callee Tryz.prog 172:=⟨fun args w=>zab (fn:=Tryz.f172) rfl rfl og args w⟩
theorem zoB:Callee Tryz.prog 173:=⟨fun args w=>zab (fn:=Tryz.f173) rfl rfl og args w⟩
theorem zoC:Callee Tryz.prog 174:=⟨fun args w=>zab (fn:=Tryz.f174) rfl rfl og args w⟩
theorem zoD:Callee Tryz.prog 175:=⟨fun args w=>zab (fn:=Tryz.f175) rfl rfl og args w⟩
theorem zmw:Callee Tryz.prog 176:=⟨fun args w=>zab (fn:=Tryz.f176) rfl rfl og args w⟩
theorem zoE:Callee Tryz.prog 177:=⟨fun args w=>zab (fn:=Tryz.f177) rfl rfl og args w⟩
theorem zmx:Callee Tryz.prog 183:=⟨fun args w=>zab (fn:=Tryz.f183) rfl rfl og args w⟩
theorem zoF:Callee Tryz.prog 184:=⟨fun args w=>zab (fn:=Tryz.f184) rfl rfl og args w⟩
theorem zkM:Callee Tryz.prog 186:=⟨fun args w=>zab (fn:=Tryz.f186) rfl rfl og args w⟩
theorem zkN:Callee Tryz.prog 187:=⟨fun args w=>zab (fn:=Tryz.f187) rfl rfl og args w⟩
theorem zim:Callee Tryz.prog 188:=⟨fun args w=>zab (fn:=Tryz.f188) rfl rfl og args w⟩
theorem zoG:Callee Tryz.prog 193:=⟨fun args w=>zab (fn:=Tryz.f193) rfl rfl og args w⟩
theorem zmy:Callee Tryz.prog 194:=⟨fun args w=>zab (fn:=Tryz.f194) rfl rfl og args w⟩
theorem zoH:Callee Tryz.prog 195:=⟨fun args w=>zab (fn:=Tryz.f195) rfl rfl og args w⟩
theorem zoI:Callee Tryz.prog 196:=⟨fun args w=>zab (fn:=Tryz.f196) rfl rfl og args w⟩
theorem zmz:Callee Tryz.prog 197:=⟨fun args w=>zab (fn:=Tryz.f197) rfl rfl og args w⟩
theorem zoJ:Callee Tryz.prog 199:=⟨fun args w=>zab (fn:=Tryz.f199) rfl rfl og args w⟩
theorem zoK:Callee Tryz.prog 200:=⟨fun args w=>zab (fn:=Tryz.f200) rfl rfl og args w⟩
theorem zoL:Callee Tryz.prog 201:=⟨fun args w=>zab (fn:=Tryz.f201) rfl rfl og args w⟩
theorem zoM:Callee Tryz.prog 202:=⟨fun args w=>zab (fn:=Tryz.f202) rfl rfl og args w⟩
theorem zoN:Callee Tryz.prog 203:=⟨fun args w=>zab (fn:=Tryz.f203) rfl rfl og args w⟩
theorem zoO:Callee Tryz.prog 209:=⟨fun args w=>zab (fn:=Tryz.f209) rfl rfl og args w⟩
theorem zoP:Callee Tryz.prog 210:=⟨fun args w=>zab (fn:=Tryz.f210) rfl rfl og args w⟩
theorem zoQ:Callee Tryz.prog 211:=⟨fun args w=>zab (fn:=Tryz.f211) rfl rfl og args w⟩
theorem zoR:Callee Tryz.prog 212:=⟨fun args w=>zab (fn:=Tryz.f212) rfl rfl og args w⟩
theorem zkO:Callee Tryz.prog 217:=⟨fun args w=>zab (fn:=Tryz.f217) rfl rfl og args w⟩
theorem zoS:Callee Tryz.prog 224:=⟨fun args w=>zab (fn:=Tryz.f224) rfl rfl og args w⟩
theorem zmA:Callee Tryz.prog 225:=⟨fun args w=>zab (fn:=Tryz.f225) rfl rfl og args w⟩
theorem zmB:Callee Tryz.prog 226:=⟨fun args w=>zab (fn:=Tryz.f226) rfl rfl og args w⟩
theorem zoT:Callee Tryz.prog 227:=⟨fun args w=>zab (fn:=Tryz.f227) rfl rfl og args w⟩
theorem zmC:Callee Tryz.prog 228:=⟨fun args w=>zab (fn:=Tryz.f228) rfl rfl og args w⟩
theorem zgv:Callee Tryz.prog 229:=⟨fun args w=>zab (fn:=Tryz.f229) rfl rfl og args w⟩
theorem zmD:Callee Tryz.prog 233:=⟨fun args w=>zab (fn:=Tryz.f233) rfl rfl og args w⟩
theorem zin:Callee Tryz.prog 234:=⟨fun args w=>zab (fn:=Tryz.f234) rfl rfl og args w⟩
theorem zio:Callee Tryz.prog 235:=⟨fun args w=>zab (fn:=Tryz.f235) rfl rfl og args w⟩
theorem ziq:Callee Tryz.prog 236:=⟨fun args w=>zab (fn:=Tryz.f236) rfl rfl og args w⟩
theorem zmE:Callee Tryz.prog 237:=⟨fun args w=>zab (fn:=Tryz.f237) rfl rfl og args w⟩
theorem zoU:Callee Tryz.prog 239:=⟨fun args w=>zab (fn:=Tryz.f239) rfl rfl og args w⟩
theorem zgw:Callee Tryz.prog 240:=⟨fun args w=>zab (fn:=Tryz.f240) rfl rfl og args w⟩
theorem zkP:Callee Tryz.prog 241:=⟨fun args w=>zab (fn:=Tryz.f241) rfl rfl og args w⟩
theorem zfy:Callee Tryz.prog 243:=⟨fun args w=>zab (fn:=Tryz.f243) rfl rfl og args w⟩
theorem zoV:Callee Tryz.prog 246:=⟨fun args w=>zab (fn:=Tryz.f246) rfl rfl og args w⟩
theorem zoW:Callee Tryz.prog 247:=⟨fun args w=>zab (fn:=Tryz.f247) rfl rfl og args w⟩
theorem zkQ:Callee Tryz.prog 248:=⟨fun args w=>zab (fn:=Tryz.f248) rfl rfl og args w⟩
theorem zoX:Callee Tryz.prog 249:=⟨fun args w=>zab (fn:=Tryz.f249) rfl rfl og args w⟩
theorem zoY:Callee Tryz.prog 250:=⟨fun args w=>zab (fn:=Tryz.f250) rfl rfl og args w⟩
theorem zoZ:Callee Tryz.prog 251:=⟨fun args w=>zab (fn:=Tryz.f251) rfl rfl og args w⟩
theorem zkR:Callee Tryz.prog 252:=⟨fun args w=>zab (fn:=Tryz.f252) rfl rfl og args w⟩
theorem zkS:Callee Tryz.prog 256:=⟨fun args w=>zab (fn:=Tryz.f256) rfl rfl og args w⟩
theorem zo0:Callee Tryz.prog 257:=⟨fun args w=>zab (fn:=Tryz.f257) rfl rfl og args w⟩
theorem zo1:Callee Tryz.prog 260:=⟨fun args w=>zab (fn:=Tryz.f260) rfl rfl og args w⟩
theorem zo2:Callee Tryz.prog 261:=⟨fun args w=>zab (fn:=Tryz.f261) rfl rfl og args w⟩
theorem zkT:Callee Tryz.prog 262:=⟨fun args w=>zab (fn:=Tryz.f262) rfl rfl og args w⟩
theorem zo3:Callee Tryz.prog 263:=⟨fun args w=>zab (fn:=Tryz.f263) rfl rfl og args w⟩
theorem zo4:Callee Tryz.prog 264:=⟨fun args w=>zab (fn:=Tryz.f264) rfl rfl og args w⟩
theorem zmF:Callee Tryz.prog 265:=⟨fun args w=>zab (fn:=Tryz.f265) rfl rfl og args w⟩
theorem zo5:Callee Tryz.prog 269:=⟨fun args w=>zab (fn:=Tryz.f269) rfl rfl og args w⟩
theorem zmG:Callee Tryz.prog 277:=⟨fun args w=>zab (fn:=Tryz.f277) rfl rfl og args w⟩
theorem zo6:Callee Tryz.prog 279:=⟨fun args w=>zab (fn:=Tryz.f279) rfl rfl og args w⟩
theorem zo7:Callee Tryz.prog 280:=⟨fun args w=>zab (fn:=Tryz.f280) rfl rfl og args w⟩
theorem zmH:Callee Tryz.prog 282:=⟨fun args w=>zab (fn:=Tryz.f282) rfl rfl og args w⟩
theorem zo8:Callee Tryz.prog 283:=⟨fun args w=>zab (fn:=Tryz.f283) rfl rfl og args w⟩
theorem zo9:Callee Tryz.prog 284:=⟨fun args w=>zab (fn:=Tryz.f284) rfl rfl og args w⟩
theorem zfz:Callee Tryz.prog 286:=⟨fun args w=>zab (fn:=Tryz.f286) rfl rfl og args w⟩
theorem zpa:Callee Tryz.prog 287:=⟨fun args w=>zab (fn:=Tryz.f287) rfl rfl og args w⟩
theorem zpb:Callee Tryz.prog 288:=⟨fun args w=>zab (fn:=Tryz.f288) rfl rfl og args w⟩
theorem zpc:Callee Tryz.prog 289:=⟨fun args w=>zab (fn:=Tryz.f289) rfl rfl og args w⟩
theorem zmI:Callee Tryz.prog 290:=⟨fun args w=>zab (fn:=Tryz.f290) rfl rfl og args w⟩
theorem zpd:Callee Tryz.prog 291:=⟨fun args w=>zab (fn:=Tryz.f291) rfl rfl og args w⟩
theorem zpe:Callee Tryz.prog 292:=⟨fun args w=>zab (fn:=Tryz.f292) rfl rfl og args w⟩
theorem zcO:Callee Tryz.prog 293:=⟨fun args w=>zab (fn:=Tryz.f293) rfl rfl og args w⟩
theorem zmJ:Callee Tryz.prog 294:=⟨fun args w=>zab (fn:=Tryz.f294) rfl rfl og args w⟩
theorem zmK:Callee Tryz.prog 295:=⟨fun args w=>zab (fn:=Tryz.f295) rfl rfl og args w⟩
theorem zpf:Callee Tryz.prog 296:=⟨fun args w=>zab (fn:=Tryz.f296) rfl rfl og args w⟩
theorem zpg:Callee Tryz.prog 297:=⟨fun args w=>zab (fn:=Tryz.f297) rfl rfl og args w⟩
theorem zph:Callee Tryz.prog 303:=⟨fun args w=>zab (fn:=Tryz.f303) rfl rfl og args w⟩
theorem zpi:Callee Tryz.prog 304:=⟨fun args w=>zab (fn:=Tryz.f304) rfl rfl og args w⟩
theorem zpj:Callee Tryz.prog 309:=⟨fun args w=>zab (fn:=Tryz.f309) rfl rfl og args w⟩
theorem zpk:Callee Tryz.prog 310:=⟨fun args w=>zab (fn:=Tryz.f310) rfl rfl og args w⟩
theorem zpl:Callee Tryz.prog 311:=⟨fun args w=>zab (fn:=Tryz.f311) rfl rfl og args w⟩
theorem mixed:Tryz.prog.follows .mixedOrders=true:=by kernel_rfl
def evT:Tabs:=⟨lk [(3,1,false),(4,1,false),(5,1,false),(9,1,false),(22,1,false),(23,1,false),(35,1,false),(36,1,false),(38,2,true),(39,1,false),(41,4,true),(58,1,false),(60,6,true),(74,1,false),(84,1,false),(91,4,true),(93,6,true),(98,3,true),(101,3,true),(103,9,true),(129,1,false),(131,2,true),(132,1,false),(134,2,true),(143,1,false),(145,3,true),(151,2,true),(153,4,true),(154,1,false),(155,1,false),(157,6,true),(175,1,false),(177,3,true),(183,1,false),(191,3,true),(296,1,false),(298,3,true),(308,1,false),(310,6,true),(311,3,true),(313,9,true),(316,4,true)],memN [22,23,24,35,36,39,51,58,70,74,83,84,129,132,143,154,155,175,212,296,308],memN [9],lk2 [(38,0,0),(38,1,1),(41,0,0),(41,1,1),(41,2,2),(41,3,3),(60,0,0),(60,1,1),(60,2,2),(60,3,3),(60,4,4),(60,5,5),(91,0,0),(91,1,2),(93,0,0),(93,1,4),(93,2,5),(98,0,0),(98,1,1),(98,2,2),(101,0,0),(101,1,1),(101,2,2),(103,0,0),(103,1,6),(131,0,0),(131,1,1),(134,0,0),(134,1,1),(145,0,0),(145,1,1),(145,2,2),(151,0,0),(151,1,1),(153,0,0),(153,1,2),(157,0,0),(157,1,4),(157,2,5),(177,0,0),(177,1,1),(177,2,2),(185,0,0),(185,1,1),(185,2,2),(191,0,0),(191,1,1),(201,0,0),(201,1,1),(298,0,0),(298,1,1),(298,2,2),(310,0,0),(310,1,1),(310,2,2),(310,3,3),(310,4,4),(310,5,5),(311,0,0),(311,1,1),(311,2,2),(313,0,0),(313,1,6),(316,0,0),(316,1,1),(316,2,2),(316,3,3)]⟩
theorem zgA:TabsOK Tryz.prog evT:=TabsOK.of od od od od
theorem sx {E e' env:Env}{H h' hp:Hp}{ks:List Nat} (hE:SubE E e') (hH:SubH H h') (he:e'.drop (e'.length-env.length)=env:=by kernel_rfl) (hc:zdu (zcK E++ks) (e'.take (e'.length-env.length))=true:=by kernel_rfl)
    (hh:h'.drop (h'.length-hp.length)=hp:=by kernel_rfl) (hhc:zcq (zb0 H) (zb0 hp) (h'.take (h'.length-hp.length))=true:=by kernel_rfl):Sub ⟨E++(zbq ks++env),H++hp⟩ ⟨e',h'⟩:=Sub.x he hc hE hh hhc hH
section
variable {c:Ctx}{all:Array Oper}{chk:List Rec->Prop}{os:List Oper}{recs:List Rec}{env:Env}{hp:Hp}{Q:St->Prop}{d ty:Nat}{pos:String}{af:Array Edge}
theorem wc {f:FuncId}{args:Array Operand}{ats:Array TypeId}{xs:List Operand}{vs:List AV}{hpc hp0:Hp}{r:AV} (hc:Callee c.P f) (hf:FnD c.P f vs hpc r hp0) (hargs:args=xs.toArray) (hx:opdL env xs=some vs)
    (hn:Walk c all chk os (zah ([]++opFL xs vs) (hpF hpc) [] ⟨some (d,r),hp0⟩::recs) ⟨(d,r)::env,hp0++hp⟩ Q)
    (hd:Nat.blt d c.n=true:=by exact rfl) (hsub:subH hpc hp:=by first|exact trivial|exact⟨rfl,trivial⟩) (hnt:zcM hpc=true:=by exact rfl) (hok:zbs hpc hp0 r []=true:=by exact rfl)
    (hcr:zbC env hp []=true:=by exact rfl):Walk c all chk (⟨some d,.call ⟨.value (.func f),args,ats⟩,ty,pos,af,none⟩::os) recs ⟨env,hp⟩ Q:=
  Walk.call (cr:=[]) hc hf hargs .none hd hx (LeL.refl _) hsub hnt hok hcr hn
theorem wd {f:FuncId}{args:Array Operand}{ats:Array TypeId}{xs:List Operand}{vs:List AV}{hpc hp0:Hp}{r:AV} (hc:Callee c.P f) (hf:FnD c.P f vs hpc r hp0) (hargs:args=xs.toArray) (hx:opdL env xs=some vs) (hsub:subH hpc hp)
    (hn:Walk c all chk os (zah ([]++opFL xs vs) (hpF hpc) [] ⟨some (d,r),hp0⟩::recs) ⟨(d,r)::env,hp0++hp⟩ Q)
    (hd:Nat.blt d c.n=true:=by exact rfl) (hnt:zcM hpc=true:=by exact rfl) (hok:zbs hpc hp0 r []=true:=by exact rfl)
    (hcr:zbC env hp []=true:=by exact rfl):Walk c all chk (⟨some d,.call ⟨.value (.func f),args,ats⟩,ty,pos,af,none⟩::os) recs ⟨env,hp⟩ Q:=
  Walk.call (cr:=[]) hc hf hargs .none hd hx (LeL.refl _) hsub hnt hok hcr hn
variable {t:TypeId}{x y:Operand}
theorem so {id off k:Nat}{b:Bool}{v:AV}{cs vs cs':List AV} (ht:TyS c.P t k b)
    (hn:Walk c all chk os (zah ([]++(opF x (.ref id off)++opF y v)) [(id,.box cs)] [] ⟨none,[(id,some (.box cs'))]⟩::recs) ⟨env,(id,some (.box cs'))::hp⟩ Q)
    (hx:opd env x=some (.ref id off):=by exact rfl) (hy:opd env y=some v:=by exact rfl) (hb:getH hp id=some (.box cs):=by exact rfl) (hv:zaQ v=some vs:=by exact rfl) (hk:vs.length=k:=by exact rfl)
    (h1:zfw vs=true:=by exact rfl) (hne:vs≠[]:=by simp) (hput:putC cs off vs=some cs':=by exact rfl):Walk c all chk (⟨none,.store t x y,ty,pos,af,none⟩::os) recs ⟨env,hp⟩ Q:=
  Walk.store ht .none hx hy hb hv hk h1 hne hput hn
theorem bx (id:Nat){v:AV}{cs:List AV}
    (hn:Walk c all chk os (zah ([]++opFL [x] [v]) [] [id] ⟨some (d,.ref id 0),[(id,some (.box cs))]⟩::recs) ⟨(d,.ref id 0)::env,(id,some (.box cs))::hp⟩ Q)
    (hd:Nat.blt d c.n=true:=by exact rfl) (hx:opd env x=some v:=by exact rfl) (hc:zaQ v=some cs:=by exact rfl)
    (h0:getH hp id=none:=by exact rfl) (ho1:occE id env=false:=by exact rfl) (ho2:occH id hp=false:=by exact rfl) (hid:zaJ id (AV.idsL cs)=false:=by exact rfl):
    Walk c all chk (⟨some d,.box t x,ty,pos,af,none⟩::os) recs ⟨env,hp⟩ Q:=Walk.box .none hd hx hc h0 ho1 ho2 hid hn
theorem ab (id:Nat){k:Nat}{zs:List AV} (ht:TyZ c.P t k zs)
    (hn:Walk c all chk os (zah ([]++[]) [] [id] ⟨some (d,.ref id 0),[(id,some (.box zs))]⟩::recs) ⟨(d,.ref id 0)::env,(id,some (.box zs))::hp⟩ Q)
    (hz:AV.idsL zs=[]:=by exact rfl) (hd:Nat.blt d c.n=true:=by exact rfl) (h0:getH hp id=none:=by exact rfl) (ho1:occE id env=false:=by exact rfl) (ho2:occH id hp=false:=by exact rfl):
    Walk c all chk (⟨some d,.alloc t,ty,pos,af,none⟩::os) recs ⟨env,hp⟩ Q:=Walk.alloc ht hz .none hd h0 ho1 ho2 hn
theorem bu (ks:List Nat) (xs:List Operand){parts:Array (Nat×Operand)}{vs zs r:List AV}{places:List (Nat×Nat)} (ht:StT c.P t places zs)
    (hn:Walk c all chk os (zah ([]++opFL xs vs) [] [] ⟨some (d,.agg r),[]⟩::recs) ⟨(d,.agg r)::env,hp⟩ Q)
    (hparts:parts=(ks.zip xs).toArray:=by exact rfl) (hlen:ks.length=xs.length:=by exact rfl) (hd:Nat.blt d c.n=true:=by exact rfl) (hx:opdL env xs=some vs:=by exact rfl)
    (hf:ze4 (places[·]?) zs (ks.zip vs)=some r:=by exact rfl):Walk c all chk (⟨some d,.build t parts,ty,pos,af,none⟩::os) recs ⟨env,hp⟩ Q:=Walk.build ht hparts hlen .none hd hx hf hn
theorem si (ks:List Nat) (xs:List Operand){parts:Array (Nat×Operand)}{n:Nat}{vs zs r:List AV}{es:List (List D)}{e k yb:Nat} (ht:SlT c.P t e k yb) (hz:TyZ c.P e k zs)
    (hn:Walk c all chk os (zah ([]++opFL xs vs) [] [] ⟨some (d,.d (.sl es)),[]⟩::recs) ⟨(d,.d (.sl es))::env,hp⟩ Q) (hzk:zs.length=k:=by exact rfl) (hk:0<k:=by decide)
    (hparts:parts=(ks.zip xs).toArray:=by exact rfl) (hlen:ks.length=xs.length:=by exact rfl) (hsmall:n*k<=16777216:=by decide) (hpos:0<n:=by decide) (hd:Nat.blt d c.n=true:=by exact rfl) (hx:opdL env xs=some vs:=by exact rfl)
    (hf:ze4 (fun i=>some (i*k,k)) (zaD n zs) (ks.zip vs)=some r:=by exact rfl) (hc:zcp n k r=some es:=by exact rfl):
    Walk c all chk (⟨some d,.buildSlice t n parts,ty,pos,af,none⟩::os) recs ⟨env,hp⟩ Q:=Walk.sliceLit ht hz hzk hk hparts hlen hsmall hpos .none hd hx hf hc hn
theorem ap {id k e yb:Nat}{xs ys:List (List D)}{vy:AV} (ht:SlT c.P t e k yb) (hz:ZeroT c.P e k) (hx:opd env x=some (.gl id xs)) (hy:opd env y=some vy) (hyd:vy.toD=some (.sl ys))
    (hky:∀y,y∈ys->y.length=k) (hb:(xs.length+ys.length)*70<=140737488355328)
    (hn:Walk c all chk os (zah ([]++(opF x (.gl id xs)++opF y vy)) [(id,.tok xs.length k)] [] ⟨some (d,.gl id (xs++ys)),[(id,some (.tok (xs.length+ys.length) k))]⟩::recs)
      ⟨(d,.gl id (xs++ys))::env,(id,some (.tok (xs.length+ys.length) k))::hp⟩ Q) (hk:Nat.blt 0 k=true:=by exact rfl) (hd:Nat.blt d c.n=true:=by exact rfl)
    (htok:getH hp id=some (.tok xs.length k):=by exact zp4 Z (by first|rfl|(simp;done)|(simp;omega))) (hyb:Nat.ble yb 70=true:=by exact rfl):
    Walk c all chk (⟨some d,.call ⟨.builtin .append,#[x,y],#[t,t]⟩,ty,pos,af,none⟩::os) recs ⟨env,hp⟩ Q:=
  Walk.append ht hz hk .none hd hx hy hyd htok hky (Nat.le_trans (Nat.mul_le_mul_left _ (Nat.le_of_ble_eq_true hyb)) hb) oc hn
end
section
variable {c:Ctx}{all:Array Oper}{chk:List Rec->Prop}{os:List Oper}{recs:List Rec}{env:Env}{hp:Hp}{Q:St->Prop}
theorem evs (stop:List Nat) (kn:List (Nat×Bool)) (h:evW evT stop c all (fun _=>True) Q (fun _ env hp=>Q ⟨env,hp⟩) os recs env hp kn) (hk:KN env kn:=by exact trivial) (hT:TabsOK c.P evT:=by exact zgA):Walk c all (fun _=>True) os recs ⟨env,hp⟩ Q:=
  zgB hT (fun _ _ _ h=>⟨trivial,h⟩) hk h
theorem evd (stop:List Nat) (kn:List (Nat×Bool)) (h:evW evT stop c all chk Q (fun recs env hp=>chk recs/\Q ⟨env,hp⟩) os recs env hp kn) (hk:KN env kn:=by exact trivial) (hT:TabsOK c.P evT:=by exact zgA):Walk c all chk os recs ⟨env,hp⟩ Q:=
  zgB hT (fun _ _ _ h=>h) hk h
theorem ev (h:evW evT [] c all (fun _=>True) Q (fun _ env hp=>Q ⟨env,hp⟩) os recs env hp []) (hT:TabsOK c.P evT:=by exact zgA):Walk c all (fun _=>True) os recs ⟨env,hp⟩ Q:=
  evs [] [] h trivial hT
theorem evc (stop rs:List Nat){x:Code}{s:St}{K:Kt} (h:evC evT stop rs c x s K) (hT:TabsOK c.P evT:=by exact zgA) (hm:c.P.follows .mixedOrders=true:=by exact mixed):CWp c x s K:=zeQ hT hm h
end
theorem bd (fn:Func) (n:Nat) (stop rs:List Nat){f:Nat}{code:Code}{rv:List ResultVar}{args:List AV}{hp:Hp}{Post:AV->Hp->Prop}
    (h:∀w0 F0 own kept,KeptIn kept (zd9 hp)->evC evT stop rs ⟨Tryz.prog,n,w0,F0,own,kept⟩ code ⟨zfS 0 args,hp⟩ ⟨Fin Tryz.prog rv hp Post,fun _ _=>False,Fin Tryz.prog rv hp Post⟩)
    (hf:(Tryz.prog).funcs[f]?=some fn:=by exact rfl) (hb:fn.body=some code:=by exact rfl) (hnn:fn.ntmps=n:=by exact rfl) (hrs:fn.results.toList=rv:=by exact rfl) (hn:Nat.ble args.length n=true:=by exact rfl):
    Fn Tryz.prog f args hp Post:=Fn.body hf hb hnn hrs hn (fun w0 F0 own kept hk=>zeQ zgA mixed (h w0 F0 own kept hk))
theorem ar {n:Int}{X:Prop} (k:X) (b:I64 n:=by first|(constructor<;>omega)|(constructor<;>simp<;>omega)):Ar n X:=⟨b,k⟩
class Nz (p:Prop) (q:outParam Prop):Prop where
  nz:p->q
instance (priority:=low){p:Prop}:Nz p p:=⟨id⟩
instance {b:Bool}{q:Prop} [h:Nz (b=false) q]:Nz ((!b)=true) q:=⟨fun hb=>h.nz (by simpa using hb)⟩
instance {b:Bool}{q:Prop} [h:Nz (b=true) q]:Nz ((!b)=false) q:=⟨fun hb=>h.nz (by simpa using hb)⟩
theorem sq {b:Bool}{X Y q r:Prop} [h1:Nz (b=true) q] [h2:Nz (b=false) r] (t:b=true->b=true->q->X) (f:b=false->b=false->r->Y):Sp b X Y:=⟨fun h=>t h h (h1.nz h),fun h=>f h h (h2.nz h)⟩
theorem sqT {b:Bool}{X Y:Prop} (h:X) (hb:b=true:=by exact rfl):Sp b X Y:=⟨fun _=>h,fun h2=>absurd (h2.symm.trans hb) og⟩
theorem sqF {b:Bool}{X Y:Prop} (h:Y) (hb:b=false:=by exact rfl):Sp b X Y:=⟨fun h2=>absurd (h2.symm.trans hb) og,fun _=>h⟩
theorem dr {X Y:Prop} (h:Y) (hc:X:=by show _=_;kernel_rfl):X/\Y:=⟨hc,h⟩
section
variable {P:Program}{rs:List ResultVar}{hp:Hp}{s:St}{vs:List AV}{r:AV}
theorem rn {Post:AV->Hp->Prop} (hp':Hp) (h1:ResL P s rs vs) (h2:LeA (zf0 vs) r) (h3:Post r hp') (h4:HSub (hp'++hp) s.hp) (h5:∀id,zbg hp id=true->zbg (hp'++hp) id=true):Fin P rs hp Post s:=⟨vs,r,hp',h1,h2,h3,h4,h5⟩
theorem rn0 (h1:ResL P s rs vs) (h2:LeA (zf0 vs) r):Fin P rs [] (fun x y=>x=r/\y=[]) s:=⟨vs,r,[],h1,h2,⟨rfl,rfl⟩,HSub.nil,zp5⟩
theorem r1 {i:Nat}{v:AV} (h:getE s.env i=some v):ResL P s [.tmp i] [v]:= .cons (.tmp h) .nil
theorem rq{i:Nat}{x y:D} (e:x=y) (h:getE s.env i=some (.d x):=by exact rfl):Fin P [.tmp i] [] (fun a b=>a=.d y/\b=[]) s:=rn0 (r1 h) (.eqd e)
theorem r2 {i j:Nat}{v w:AV} (h:getE s.env i=some v) (h':getE s.env j=some w):ResL P s [.tmp i,.tmp j] [v,w]:= .cons (.tmp h) (.cons (.tmp h') .nil)
theorem rc{a t id off k i:Nat}{cs r:List AV}{v:AV} (ht:TyS P t k true) (h:getE s.env a=some (.ref id off):=by exact rfl) (hb:getH s.hp id=some (.box cs):=by exact rfl) (hv:cutC cs off k=some r:=by exact rfl) (h2:getE s.env i=some v:=by exact rfl):ResL P s [.cell a t,.tmp i] [.agg r,v]:=.cons (.cellA ht h hb hv) (.cons (.tmp h2) .nil)
theorem ra{a t id off k:Nat}{cs r:List AV} (ht:TyS P t k true) (h:getE s.env a=some (.ref id off):=by exact rfl) (hb:getH s.hp id=some (.box cs):=by exact rfl) (hv:cutC cs off k=some r:=by exact rfl):ResL P s [.cell a t] [.agg r]:=.cons (.cellA ht h hb hv) .nil
end
section
variable {env e':Env}{hp h':Hp}{ks:List Nat}{n:Nat}{u v:AV}{p q:Bool}
theorem jn (hu:getE e' n=some u) (le:LeA u v) (he:e'.drop (e'.length-env.length)=env:=by kernel_rfl) (hc:zdu (zcK [(n,v)]++ks) (e'.take (e'.length-env.length))=true:=by kernel_rfl)
    (hh:h'.drop (h'.length-hp.length)=hp:=by kernel_rfl) (hhc:zcq (zb0 []) (zb0 hp) (h'.take (h'.length-hp.length))=true:=by kernel_rfl):Sub ⟨[(n,v)]++(zbq ks++env),[]++hp⟩ ⟨e',h'⟩:=
  Sub.x he hc ⟨⟨_,hu,le⟩,trivial⟩ hh hhc trivial
theorem jnb (hu:getE e' n=some (.d (.bool p))) (hpq:p=q:=by first|rfl|(rw[xat];(try simp only[BQ])<;>first|omega|(simp_all;done)|(simp_all;omega)))
    (he:e'.drop (e'.length-env.length)=env:=by kernel_rfl) (hc:zdu (zcK [(n,.d (.bool q))]++ks) (e'.take (e'.length-env.length))=true:=by kernel_rfl)
    (hh:h'.drop (h'.length-hp.length)=hp:=by kernel_rfl) (hhc:zcq (zb0 []) (zb0 hp) (h'.take (h'.length-hp.length))=true:=by kernel_rfl):Sub ⟨[(n,.d (.bool q))]++(zbq ks++env),[]++hp⟩ ⟨e',h'⟩:=
  jn hu (xaK hpq) he hc hh hhc
end
end Go.Proofs.YtmkipahfpaacgaaGreatDoor
namespace Go.Proofs.YtmkipahfpaacgaaGreatDoor
set_option linter.unusedSimpArgs false
set_option linter.unusedVariables false
abbrev Str:=List UInt8
structure Ty where
 data:Int
 index:Int
 deriving DecidableEq,Inhabited
structure Ctor where
 name:Str
 args:List Ty
 index:Int
 deriving DecidableEq,Inhabited
structure Data where
 name:Str
 ctors:List Ctor
 deriving DecidableEq,Inhabited
inductive Val where
 |mk (ctor n:Int) (kids:List Val)
 deriving Inhabited
inductive Pat where
 |mk (op ctor n m var:Int) (kids:List Pat)
 deriving Inhabited
abbrev Ty.c (t:Ty):List D:=[.i t.data,.i t.index]
abbrev zaR (l:List Ty):D:= .sl (l.map Ty.c)
abbrev Ctor.c (x:Ctor):List D:=[.str x.name,zaR x.args,.i x.index]
abbrev zbK (l:List Ctor):D:= .sl (l.map Ctor.c)
abbrev Data.c (x:Data):List D:=[.str x.name,zbK x.ctors]
abbrev zae (l:List Data):D:= .sl (l.map Data.c)
abbrev zcr (l:List Int):D:= .sl (l.map fun n=>[.i n])
abbrev zlJ (l:List Str):D:= .sl (l.map fun n=>[.str n])
mutual
def Val.c:Val->List D
 | .mk ctor n kids=>[.i ctor,.i n,.sl (Val.cs kids)]
def Val.cs:List Val->List (List D)
 | []=>[]
 |v::r=>v.c::Val.cs r
end
abbrev zoc (l:List Val):D:= .sl (Val.cs l)
mutual
def Pat.c:Pat->List D
 | .mk op ctor n m var kids=>[.i op,.i ctor,.i n,.i m,.i var,.sl (Pat.cs kids)]
def Pat.cs:List Pat->List (List D)
 | []=>[]
 |v::r=>v.c::Pat.cs r
end
abbrev zal (l:List Pat):D:= .sl (Pat.cs l)
theorem xa2:∀l:List Val,Val.cs l=l.map Val.c
 | []=>rfl
 |v::r=>by simp[Val.cs,xa2 r]
theorem xaO:∀l:List Pat,Pat.cs l=l.map Pat.c
 | []=>rfl
 |v::r=>by simp[Pat.cs,xaO r]
theorem zaE {α β:Type}{f:α->β}{pre:List α}{x:α}{rest xs:List α} (h:pre++x::rest=xs):(xs.map f)[pre.length]?=some (f x):=by
 subst h;simp
def Val.ctor:Val->Int | .mk a _ _=>a
def Val.num:Val->Int | .mk _ n _=>n
def Val.kids:Val->List Val | .mk _ _ k=>k
abbrev Val.cc (v:Val):List D:=[.i v.ctor,.i v.num,.sl (Val.cs v.kids)]
theorem Val.c_eq (v:Val):v.c=v.cc:=by cases v;rfl
theorem Val.eta (v:Val):Val.mk v.ctor v.num v.kids=v:=by cases v;rfl
theorem Val.cs_len (l:List Val):(Val.cs l).length=l.length:=by simp[xa2]
theorem xaP (l:List Pat):(Pat.cs l).length=l.length:=by simp[xaO]
end Go.Proofs.YtmkipahfpaacgaaGreatDoor
namespace Go.Proofs.YtmkipahfpaacgaaGreatDoor
open Go
set_option linter.unusedSimpArgs false
set_option linter.unusedVariables false
def zac (n lo hi:Int):Bool:=decide (lo<=n)&&decide (n<=hi)
def zcv (b:UInt8):Bool:=decide (65<=(b.toNat:Int))&&decide ((b.toNat:Int)<=90)
def zee (b:UInt8):Bool:=decide (97<=(b.toNat:Int))&&decide ((b.toNat:Int)<=122)
def zcj (s:Str):Bool:=s.all zee
def zca (s:Str):Bool:=zac s.length 1 5&&(match s with | []=>false|b::r=>zcv b&&zcj r)
def za9 (n:Nat) (t:Ty):Bool:=(decide (t.data = -1)&&(decide (t.index=0)&&true))||(zac t.data 0 (n-1)&&zac t.index (-1) 3)
def za4 (n:Nat) (c:Ctor):Bool:=zca c.name&&(decide ((c.args.length:Int)<=3)&&(zac c.index 0 3&& !(c.args.any fun t=> !za9 n t)))
def zaI (n:Nat) (t:Ty):Bool:=(decide (t.data = -1)&&(decide (t.index=0)&&true))||(zac t.data 0 (n-1)&&zac t.index 0 3)
def zaK (s:Str):Bool:=decide ((s.length:Int)=1)&&(zcv (s.getD 0 0)&& !decide (s=[73]))
def zb1 (n:Nat) (met:List Str):List Ctor->Option (List Str)
 | []=>some met
 |c::r=>if za4 n c&& !decide (c.name∈met) then zb1 n (met++[c.name]) r else none
def za0 (n:Nat) (met datas:List Str):List Data->Bool
 | []=>true
 |d::r=>zaK d.name&& !decide (d.name∈datas)&&zac d.ctors.length 1 4&&
  (match zb1 n met d.ctors with
   |some met'=>za0 n met' (datas++[d.name]) r
   |none=>false)
def zaM (w:List Data):Bool:=decide ((w.length:Int)<=4)&&za0 w.length [] [] w
def zbe (w:List Data) (t:Ty):Bool:=zaM w&&zaI w.length t
structure WSmall (w:List Data):Prop where
 len:w.length<=1000000000000
 data:∀d∈w,d.name.length<=1000000000000/\d.ctors.length<=1000000000000
 ctor:∀d∈w,∀c∈d.ctors,c.name.length<=1000000000000/\c.args.length<=1000000000000
def nth {α:Type} [Inhabited α] (l:List α) (i:Nat):α:=l.getD i default
theorem zaf {α β:Type} [Inhabited α]{f:α->β}{l:List α}{i:Nat} (h:i<l.length):(l.map f)[i]?=some (f (nth l i)):=by
 simp[nth,List.getD,h]
theorem zad {α:Type} [Inhabited α]{l:List α}{i:Nat} (h:i<l.length):nth l i∈l:=by
 simp[nth,List.getD,h]
theorem WSmall.ctors {w:List Data} (h:WSmall w) (i:Nat):(nth w i).ctors.length<=1000000000000:=by
 by_cases hi:i<w.length
 ·exact(h.data _ (zad hi)).2
 ·have:nth w i=default:=by simp[nth,List.getD,List.getElem?_eq_none (Nat.le_of_not_lt hi)]
  rw[this];exact Nat.zero_le _
def za7 (w:List Data) (d k i j:Nat):Bool:=(decide (i<d)||decide (j<k))&&(decide (k<(nth w d).ctors.length)&&decide ((nth (nth w i).ctors j).name=(nth (nth w d).ctors k).name))
def zck (w:List Data) (d k i:Nat):Bool:=(decide (i<d)&&decide ((nth w i).name=(nth w d).name))||(List.range (nth w i).ctors.length).any (za7 w d k i)
def zji (w:List Data) (d k:Nat):Bool:=(List.range (d+1)).any (zck w d k)
def zcY (w:List Data) (d k:Nat):Bool:=za4 w.length (nth (nth w d).ctors k)&& !zji w d k
def zbv (w:List Data) (d:Nat):Bool:=zaK (nth w d).name&&(decide (1<=(nth w d).ctors.length)&&(decide ((nth w d).ctors.length<=4)&&(List.range (nth w d).ctors.length).all (zcY w d)))
def zaP (w:List Data):Bool:=decide (w.length<=4)&&(List.range w.length).all (zbv w)
theorem zdt {n:Nat}{p:Nat->Bool} (h:∀i,i<n->p i=false):(List.range n).any p=false:=by
 rw[List.any_eq_false];intro i hi;rw[h i (List.mem_range.1 hi)];simp
theorem zbV {n:Nat}{p:Nat->Bool}{i:Nat} (hi:i<n) (h:p i=true):(List.range n).any p=true:=
 List.any_eq_true.2 ⟨i,List.mem_range.2 hi,h⟩
theorem zcI {n:Nat}{p:Nat->Bool}{i:Nat} (hi:i<n) (h:p i=false):(List.range n).all p=false:=
 List.all_eq_false.2 ⟨i,List.mem_range.2 hi,by simp[h]⟩
theorem zc2 {n:Nat}{p:Nat->Bool} (h:∀i,i<n->p i=true):(List.range n).all p=true:=by
 rw[List.all_eq_true];intro i hi;exact h i (List.mem_range.1 hi)
theorem zaw {P:Nat->Prop}{i:Nat} (h:∀j,j<i->P j) (hi:P i):∀j,j<i+1->P j:=fun j hj=>by
 rcases Nat.lt_or_eq_of_le (Nat.le_of_lt_succ hj) with h1|h1
 ·exact h j h1
 ·exact h1 ▸ hi
theorem zff {w:List Data}{d k i j:Nat} (h1:(decide (i<d)&&decide ((nth w i).name=(nth w d).name))=false) (h2:∀j',j'<j->za7 w d k i j'=false)
  (h3:j<(nth w i).ctors.length->d<=i/\k<=j):zck w d k i=false:=by
 unfold zck;rw[h1,Bool.false_or];refine zdt (fun j' hj'=>?_);by_cases h:j'<j
 ·exact h2 j' h
 ·have:=h3 oc;have e1:decide (i<d)=false:=xaw oc;have e2:decide (j'<k)=false:=xaw oc;simp only[za7,e1,e2,Bool.or_self,Bool.false_and]
set_option maxRecDepth 100000
set_option maxHeartbeats 2000000
theorem zaH {n lo hi:Int}:FnD Tryz.prog 125 [.d (.i n),.d (.i lo),.d (.i hi)] [] (.d (.bool (zac n lo hi))) []:=by
 refine bd Tryz.f125 15 [] [] fun _ _ _ _ hk=>?_;apply sq<;>intro h1 h1p h1s;focus (refine rq ?_;all_goals ((simp[zac,h1s,h1p];done)))
 focus (refine rq ?_;all_goals ((simp[zac,h1s,h1p];done)))
theorem zbn {s:Str} (h:0<s.length):zca s=(zac s.length 1 5&&(zcv s[0]&&zcj (s.drop 1))):=by
 rcases s with _|⟨b,r⟩
 ·simp at h
 ·simp[zca]
theorem zgh {s:Str} (h:s.length=0\/5<s.length):zca s=false:=by
 have:zac s.length 1 5=false:=by
  simp only[zac,Bool.and_eq_false_iff,decide_eq_false_iff_not];omega
 simp[zca,this]
theorem zb2 {s:Str}{i:Nat} (h:i<s.length):zcj (s.drop i)=(zee s[i]&&zcj (s.drop (i+1))):=by
 unfold zcj;rw[List.drop_eq_getElem_cons h,List.all_cons]
theorem zgU {s:Str}{i:Nat} (h:s.length<=i):zcj (s.drop i)=true:=by
 rw[List.drop_eq_nil_of_le h];rfl
theorem zhq {s:Str} (hs:s.length<=1000000000000):FnD Tryz.prog 209 [.d (.str s)] [] (.d (.bool (zca s))) []:=by
 refine bd Tryz.f209 34 [] [] fun _ _ _ _ hk=>?_;refine wc zb4 zaH Z Z ?_;refine ev ?_;apply sq<;>intro h1 h1p h1s;refine sqT ?_;refine sqT ?_;focus (refine rq ?_;all_goals ((simp[zca,h1s,h1p];done)))
 try simp only[Q,zac] at h1p
 refine xbl (i:=0) un9 (.some Z Z h1) Z Z Z Z (xan oc) ?_;refine evs [] [(8,false)] ?_ ⟨⟨_,Z,h1⟩,O⟩;apply sq<;>intro h3 h3p h3s<;>(try simp only[Q,zac] at h3p);refine sqT ?_;focus (refine rq ?_;all_goals ((rw[zbn oc];simp[zcv];omega)))
 refine xbl (i:=0) un9 (.some Z Z h3) Z Z Z Z (xan oc) ?_;refine evs [] [(13,false)] ?_ ⟨⟨_,Z,h3⟩,O⟩;apply sq<;>intro h5 h5p h5s<;>(try simp only[Q,zac] at h5p);focus (refine rq ?_;all_goals ((rw[zbn oc];simp[zcv];omega)))
 refine xaz (ι:=Nat) hk (fun i=>[(3,.d (.i (i:Int)))]) [2,18,19,20,21,22,23,24,25,26,27,28,29,30,31,32,33] (fun i=>[]) (fun i=>1<=i/\i<=s.length/\zcj (s.drop i)=zcj (s.drop 1)) (fun i=>s.length-i) 1 ⟨by omega,by omega,Z⟩ ⟨⟨_,Z,xaL ?_⟩,O⟩ O (fun x=>rfl) (fun i hg1=>?_);focus (rfl)
 refine evc [] [] ?_;apply sq<;>intro h6 h6p h6s<;>(try simp only[Q,zac] at h6p);refine xbl un9 .none Z Z Z Z (xan oc) ?_;refine ev ?_;apply sq<;>intro h7 h7p h7s<;>(try simp only[Q,zac] at h7p);refine sqT ?_;focus (refine rq ?_;all_goals ((rw[zbn oc,<-hg1.2.2,zb2 oc];simp[zee];omega)))
 refine xbl un9 (.some Z Z h7) Z Z Z Z (xan oc) ?_;refine evs [] [(28,false)] ?_ ⟨⟨_,Z,h7⟩,O⟩;apply sq<;>intro h9 h9p h9s<;>(try simp only[Q,zac] at h9p);focus (refine rq ?_;all_goals ((rw[zbn oc,<-hg1.2.2,zb2 oc];simp[zee];omega)))
 refine ar (xaj (i+1) ⟨⟨by omega,by omega,by rw[<-hg1.2.2,zb2 (i:=i) oc];simp[zee];omega⟩, ?_,sx ⟨⟨_,Z,xaL ?_⟩,O⟩ O⟩);focus (omega)
 focus (rfl)
 focus (refine rq ?_;all_goals ((rw[zbn oc,<-hg1.2.2,zgU oc];simp[zac,zcv];omega)))
theorem zes (hp:Hp):(zd9 hp).all (fun id=>(getH ([]++hp) id).isSome)=true:=by
 rw[List.all_eq_true];intro id h;simp only[zd9,List.mem_filter] at h;exact(zdx h.2).1
def idxF {α:Type} (p:α->Bool):List α->Nat->Int
 | [],_=> -1
 |x::r,i=>if p x then (i:Int) else idxF p r (i+1)
theorem zdj {α:Type} (p:α->Bool):∀(l:List α) (i:Nat),decide (0<=idxF p l i)=l.any p
 | [],_=>by simp[idxF]
 |x::r,i=>by
  unfold idxF;cases h:p x with
  |true=>simp[h]
  |false=>simp[h,zdj p r (i+1)]
theorem zcU {hp:Hp} (h:zbs hp [] (.d .nilp) []=true) (x:D):zbs hp [] (.d x) []=true:=h
theorem zfv {xs:List Ty}{f:Nat}{caps:List AV}{hp:Hp}{p:Ty->Bool} (hs:xs.length<=1000000000000) (hcal:Callee Tryz.prog f)
  (hf:∀t∈xs,FnD Tryz.prog f ([.agg [.d (.i t.data),.d (.i t.index)]]++caps) hp (.d (.bool (p t))) []) (k1:subH hp hp) (k2:zcM hp=true) (k3:zbs hp [] (.d .nilp) []=true):
  FnD Tryz.prog 269 [.d (zaR xs),.fn f caps] hp (.d (.i (idxF p xs 0))) []:=by
 refine bd Tryz.f269 19 [] [] fun _ _ _ _ hk=>?_;refine xaz (ι:=List (Ty)×List (Ty)) hk (fun x=>[(8,.d (.i (x.1.length:Int)))]) [4,5,9,10,11,12,13,14,15,16,17,18] (fun x=>[]) (fun x=>x.1++x.2=xs/\idxF p x.2 x.1.length=idxF p xs 0) (fun x=>x.2.length) ([],xs) ⟨by simp,Z⟩ ⟨⟨_,Z,xaL ?_⟩,O⟩ O (fun x=>zes hp) (fun x hg1=>?_);focus (rfl)
 obtain⟨pre,rest⟩:=x;dsimp only at hg1 ⊢;refine evc [] [] ?_;apply sq<;>intro h1 h1p h1s<;>(try simp only[Q] at h1p);rcases rest with _|⟨y,rest⟩
 ·exfalso;simp_all
 refine ixq zau Z Z Z (zaE hg1.1) Z (ev (xbc (cr:=[]) hcal (hf y (by rw[<-hg1.1];simp)) Z .none Z Z Z (LeL.refl _) k1 k2 (zcU k3 _) Z ?_));apply tv;apply sq<;>intro h2 h2p h2s<;>(try simp only[Q] at h2p);focus (refine rn [] (r1 Z) (.eqd ?_) ⟨Z,Z⟩ (fun _ _ h=>h) (fun _ h=>h);all_goals (rw[<-hg1.2];simp[idxF,h1s,h1p,h2s,h2p]))
 refine ar (xaj ((pre++[y],rest)) ⟨⟨(by have hz:=hg1.1;rw[<-hz];simp),(by rw[<-hg1.2];simp[idxF,h2s])⟩,oe,Sub.x od od ⟨⟨_,Z,xaL ?_⟩,O⟩ oe (by simp[zcq]) O⟩);focus ((simp;done))
 have hrest:rest=[]:=by
  rcases rest with _|⟨a,b⟩
  ·rfl
  ·exfalso;have hz:=xam List.length (hg1.1);simp only[xaa,xab,xac] at hz;omega
 subst hrest;focus (refine rn [] (r1 Z) (.eqd ?_) ⟨Z,Z⟩ (fun _ _ h=>h) (fun _ h=>h);all_goals (rw[<-hg1.2];simp[idxF,h1s,h1p]))
theorem zeA {xs:List Ty}{f:Nat}{caps:List AV}{hp:Hp}{p:Ty->Bool} (hs:xs.length<=1000000000000) (hcal:Callee Tryz.prog f)
  (hf:∀t∈xs,FnD Tryz.prog f ([.agg [.d (.i t.data),.d (.i t.index)]]++caps) hp (.d (.bool (p t))) []) (k1:subH hp hp) (k2:zcM hp=true) (k3:zbs hp [] (.d .nilp) []=true):
  FnD Tryz.prog 210 [.d (zaR xs),.fn f caps] hp (.d (.bool (xs.any p))) []:=by
 refine bd Tryz.f210 9 [] [] fun _ _ _ _ hk=>?_;refine Walk.call (cr:=[]) zo5 (zfv hs hcal hf k1 k2 k3) Z .none Z Z (LeL.refl _) k1 k2 (zcU k3 _) Z (ev (rn [] (r1 Z) (.eqd ?_) ⟨Z,Z⟩ (fun _ _ h=>h) (fun _ h=>h)));rotate_left;all_goals (exact xam D.bool (zdj p xs 0))
theorem zkp {w:List Data}{a b:Int} (hs:w.length<=1000000000000):FnD Tryz.prog 212 [.d (zae w),.agg [.d (.i a),.d (.i b)]] [] (.d (.bool (za9 w.length ⟨a,b⟩))) []:=by
 refine bd Tryz.f212 21 [7] [] fun _ _ _ _ hk=>?_;refine bx 3003 ?_;refine evs [7] [] (bu [0] [_] st38 ?_);refine xbg eq38 .none Z Z Z Z Z (evs [7] [] ?_);apply sq<;>intro h1 h1p h1s;try simp only[Q] at h1p
 focus (refine rq ?_;all_goals ((simp[za9,h1s,h1p];done)))
 refine ar ?_ (by constructor<;>simp<;>omega);refine Walk.call (cr:=[]) zb4 zaH Z (.some Z Z h1) Z Z (LeL.refl _) O Z Z Z (evs [7] [(8,false)] ?_ ⟨⟨_,Z,h1⟩,O⟩);apply sq<;>intro h2 h2p h2s;refine Walk.call (cr:=[]) zb4 zaH Z (.some Z Z h2) Z Z (LeL.refl _) O Z Z Z (evs [7] [(8,false),(15,true)] ?_ ⟨⟨_,Z,h1⟩,⟨_,Z,h2⟩,O⟩);focus (refine rq ?_;all_goals ((simp_all[za9];done)))
 focus (refine rq ?_;all_goals ((simp_all[za9];done)))
theorem zdQ {w:List Data}{a b:Int} (hs:w.length<=1000000000000):FnD Tryz.prog 135 [.d (zae w),.agg [.d (.i a),.d (.i b)]] [] (.d (.bool (zaI w.length ⟨a,b⟩))) []:=by
 refine bd Tryz.f135 21 [7] [] fun _ _ _ _ hk=>?_;refine bx 3003 ?_;refine evs [7] [] (bu [0] [_] st38 ?_);refine xbg eq38 .none Z Z Z Z Z (evs [7] [] ?_);apply sq<;>intro h1 h1p h1s;try simp only[Q] at h1p
 focus (refine rq ?_;all_goals ((simp[zaI,h1s,h1p];done)))
 refine ar ?_ (by constructor<;>simp<;>omega);refine Walk.call (cr:=[]) zb4 zaH Z (.some Z Z h1) Z Z (LeL.refl _) O Z Z Z (evs [7] [(8,false)] ?_ ⟨⟨_,Z,h1⟩,O⟩);apply sq<;>intro h2 h2p h2s;refine Walk.call (cr:=[]) zb4 zaH Z (.some Z Z h2) Z Z (LeL.refl _) O Z Z Z (evs [7] [(8,false),(15,true)] ?_ ⟨⟨_,Z,h1⟩,⟨_,Z,h2⟩,O⟩);focus (refine rq ?_;all_goals ((simp_all[zaI];done)))
 focus (refine rq ?_;all_goals ((simp_all[zaI];done)))
theorem zhT {w:List Data}{a b:Int} (hs:w.length<=1000000000000):FnD Tryz.prog 211 [.agg [.d (.i a),.d (.i b)],.ref 1002 0] [(1002,some (.box [.d (zae w)]))] (.d (.bool (!za9 w.length ⟨a,b⟩))) []:=by
 refine bd Tryz.f211 8 [] [] fun _ _ _ _ hk=>?_;refine bx 3002 ?_;refine ev (wc zoR (zkp hs) Z Z ?_);refine ev ?_;focus (refine rn [] (r1 Z) (.eqd ?_) ⟨Z,Z⟩ (SubH.get ⟨Z,O⟩) (fun _ h=>h);all_goals (rfl))
theorem zjx {w:List Data}{s:Str}{args:List Ty}{k:Int} (hs:w.length<=1000000000000) (hn:s.length<=1000000000000) (ha:args.length<=1000000000000):FnD Tryz.prog 126 [.d (zae w),.agg [.d (.str s),.d (zaR args),.d (.i k)]] [] (.d (.bool (za4 w.length ⟨s,args,k⟩))) []:=by
 refine bd Tryz.f126 26 [] [] fun _ _ _ _ hk=>?_;refine bx 1002 ?_;refine bx 3003 ?_;refine ev (wc zoO (zhq hn) Z Z ?_);refine ev ?_;apply sq<;>intro h1 h1p h1s;apply sq<;>intro h2 h2p h2s<;>(try simp only[Q] at h2p);refine Walk.call (cr:=[]) zb4 zaH Z (.some Z Z h2) Z Z (LeL.refl _) O Z Z Z (evs [] [(14,true)] ?_ ⟨⟨_,Z,h2⟩,O⟩);apply sq<;>intro h3 h3p h3s;try simp only[Q] at h3p
 refine xbe (xs:=[_]) Z (.some Z Z h3) Z Z (Walk.call (cr:=[]) zoP (zeA (p:=fun t=> !za9 w.length t) ha zoQ (fun t _=>zhT hs) ⟨Z,O⟩ Z Z) Z (.some Z Z h3) Z Z (LeL.refl _) ⟨Z,O⟩ Z Z Z (evs [] [(19,true)] ?_ ⟨⟨_,Z,h3⟩,O⟩));focus (refine rq ?_;all_goals ((simp[za4,h1s,h1p,h2s,h2p,h3s,h3p];done)))
 focus (refine rq ?_;all_goals ((simp[za4,h1s,h1p,h2s,h2p,h3s,h3p];done)))
 refine sqF ?_;focus (refine rq ?_;all_goals ((simp[za4,h1s,h1p,h2s,h2p];done)))
 refine sqF ?_;refine sqF ?_;focus (refine rq ?_;all_goals ((simp[za4,h1s,h1p];done)))
theorem ziz {s:Str} (h:0<s.length):s.getD 0 0=s[0]:=by
 rcases s with _|⟨b,r⟩
 ·simp at h
 ·rfl
theorem xaB (c:Ctor):Ctor.mk c.name c.args c.index=c:=rfl
theorem Ty.eta (c:Ty):Ty.mk c.data c.index=c:=rfl
theorem Data.eta (c:Data):Data.mk c.name c.ctors=c:=rfl
theorem zok {w:List Data}{met datas:List Str} (h4:(w.length:Int)<=4) (h:za0 w.length met datas []=za0 w.length [] [] w):D.bool true=D.bool (zaM w):=by
 unfold zaM;rw[<-h,xax h4];rfl
theorem zc1 {w rest:List Data}{met datas:List Str} (h:za0 w.length met datas rest=za0 w.length [] [] w) (h2:za0 w.length met datas rest=false):D.bool false=D.bool (zaM w):=by
 unfold zaM;rw[<-h,h2,Bool.and_false]
theorem zed {w:List Data} (hs:WSmall w):FnD Tryz.prog 56 [.d (zae w)] [] (.d (.bool (zaM w))) []:=by
 have hs1:=hs.len;refine bd Tryz.f56 79 [] [] fun _ _ _ _ hk=>?_;apply sq<;>intro h1 h1p h1s<;>(try simp only[Q] at h1p);focus (refine rq ?_;all_goals ((simp[zaM];omega)))
 refine Walk.makeMap (id:=3012) .none Z Z (ev (Walk.makeMap (id:=3013) .none Z Z (ev (xaz (ι:=List (Data)×List (Data)×(List Str)×(List Str)) hk (fun x=>[(16,.d (.i (x.1.length:Int))),(3,.mapr 3012),(4,.mapr 3013)]) [2,6,8,17,18,19,20,21,22,23,24,25,26,27,28,29,30,31,32,33,34,35,36,37,38,39,40,41,42,43,44,45,46,47,48,49,50,51,52,53,54,55,56,57,58,59,60,61,62,63,64,65,66,67,68,69,70,71,72,73,74,75,76,77,78] (fun x=>[(3012,some (.map x.2.2.1)),(3013,some (.map x.2.2.2))]) (fun x=>x.1++x.2.1=w/\za0 w.length x.2.2.1 x.2.2.2 x.2.1=za0 w.length [] [] w) (fun x=>x.2.1.length) ([],w,[],[]) ⟨by simp,Z⟩ ⟨⟨_,Z,xaL ?_⟩,⟨⟨_,Z, ?_⟩,⟨⟨_,Z, ?_⟩,O⟩⟩⟩ ⟨?_,⟨?_,O⟩⟩ (fun x=>rfl) (fun x hg1=>?_)))));focus (rfl)
 iterate 2 focus (exact LeA.refl _)
 iterate 2 focus (first|rfl|(simp[getH];done))
 obtain⟨pre,rest,met,datas⟩:=x;dsimp only at hg1 ⊢;refine evc [] [] ?_;apply sq<;>intro h2 h2p h2s<;>(try simp only[Q] at h2p);rcases rest with _|⟨d,rest⟩
 ·exfalso;simp_all
 refine ixq sl23 Z Z Z (zaE hg1.1) Z (ev (ab 3006 zkD ?_));refine so zkB ?_;apply tv;apply sq<;>intro h3 h3p h3s<;>(try simp only[Q] at h3p);refine sqT ?_;refine sqT ?_;refine sqT ?_;refine sqT ?_;refine sqT ?_;focus (refine rq ?_;all_goals ((refine zc1 hg1.2 ?_;simp[za0,zaK,h1s,h1p,h2s,h2p,h3s,h3p];done)))
 refine xbl (i:=0) un9 (.some Z Z h3) Z Z Z Z (xan oc) ?_;refine evs [] [(24,false)] ?_ ⟨⟨_,Z,h3⟩,O⟩;apply sq<;>intro h5 h5p h5s<;>(try simp only[Q] at h5p);refine sqT ?_;refine sqT ?_;refine sqT ?_;refine sqT ?_;focus (refine rq ?_;all_goals ((refine zc1 hg1.2 ?_;simp only[za0,zaK,ziz (s:=d.name) oc,zcv];simp[h1s,h1p,h2s,h2p,h3s,h3p,h5s,h5p];omega)))
 refine xbl (i:=0) un9 (.some Z Z h5) Z Z Z Z (xan oc) ?_;refine evs [] [(30,false)] ?_ ⟨⟨_,Z,h5⟩,O⟩;apply sq<;>intro h7 h7p h7s<;>(try simp only[Q] at h7p);refine sqT ?_;refine sqT ?_;refine sqT ?_;focus (refine rq ?_;all_goals ((refine zc1 hg1.2 ?_;simp only[za0,zaK,ziz (s:=d.name) oc,zcv];simp[h1s,h1p,h2s,h2p,h3s,h3p,h5s,h5p,h7s,h7p];omega)))
 apply sq<;>intro h9 h9p h9s<;>(try simp only[Q] at h9p);refine sqT ?_;refine sqT ?_;focus (refine rq ?_;all_goals ((refine zc1 hg1.2 ?_;simp[za0,zaK,h1s,h1p,h2s,h2p,h3s,h3p,h5s,h5p,h7s,h7p,h9s,h9p];done)))
 refine Walk.lookup zkz (.some Z Z h9) Z Z Z Z (evs [] [(41,false)] ?_ ⟨⟨_,Z,h9⟩,O⟩);apply sq<;>intro h11 h11p h11s<;>(try simp only[Q] at h11p);refine sqT ?_;focus (refine rq ?_;all_goals ((refine zc1 hg1.2 ?_;simp[za0,zaK,h1s,h1p,h2s,h2p,h3s,h3p,h5s,h5p,h7s,h7p,h9s,h9p,h11s,h11p];done)))
 refine Walk.call (cr:=[]) zb4 zaH Z (.some Z Z h11) Z Z (LeL.refl _) O Z Z Z (evs [] [(47,false)] ?_ ⟨⟨_,Z,h11⟩,O⟩);apply sq<;>intro h13 h13p h13s<;>(try simp only[Q] at h13p);focus (refine rq ?_;all_goals ((refine zc1 hg1.2 ?_;simp[za0,zaK,h1s,h1p,h2s,h2p,h3s,h3p,h5s,h5p,h7s,h7p,h9s,h9p,h11s,h11p,h13s,h13p];done)))
 refine Walk.mapUpdate zkz .none Z Z Z Z ol ?_;apply tv;refine xaz (ι:=List (Ctor)×List (Ctor)×(List Str)) hk (fun x=>[(60,.d (.i (x.1.length:Int)))]) [2,8,61,62,63,64,65,66,67,68,69,70,71,72,73,74,75,76,77] (fun x=>[(3012,some (.map x.2.2))]) (fun x=>x.1++x.2.1=d.ctors/\zb1 w.length x.2.2 x.2.1=zb1 w.length met d.ctors) (fun x=>x.2.1.length) ([],d.ctors,met) ⟨by simp,Z⟩ ⟨⟨_,Z,xaL ?_⟩,O⟩ ⟨?_,O⟩ (fun x=>rfl) (fun x hg2=>?_);focus (rfl)
 focus (first|rfl|(simp[getH];done))
 obtain⟨pre2,rest2,met2⟩:=x;dsimp only at hg2 ⊢;have hb:=(hs.data d (by rw[<-hg1.1];simp)).2;refine evc [] [] ?_;apply sq<;>intro h14 h14p h14s<;>(try simp only[Q] at h14p);rcases rest2 with _|⟨y,rest2⟩
 ·exfalso;simp_all
 refine ixq zbr Z Z Z (zaE hg2.1) Z (ev (ab 3008 zf8 ?_));refine so zf7 ?_;apply tv;refine wc zou (zjx hs1 (hs.ctor d (by rw[<-hg1.1];simp) y (by rw[<-hg2.1];simp)).1 (hs.ctor d (by rw[<-hg1.1];simp) y (by rw[<-hg2.1];simp)).2) Z Z ?_;refine ev ?_;apply sq<;>intro h15 h15p h15s<;>(try simp only[Q] at h15p);refine sqT ?_;focus (refine rq ?_;all_goals ((refine zc1 hg1.2 ?_;rw[za0,<-hg2.2];simp[zb1,h1s,h1p,h2s,h2p,h3s,h3p,h5s,h5p,h7s,h7p,h9s,h9p,h11s,h11p,h13s,h13p,h14s,h14p,h15s,h15p];done)))
 refine Walk.lookup zkz (.some Z Z h15) Z Z Z Z (evs [] [(68,false)] ?_ ⟨⟨_,Z,h15⟩,O⟩);apply sq<;>intro h17 h17p h17s<;>(try simp only[Q] at h17p);focus (refine rq ?_;all_goals ((refine zc1 hg1.2 ?_;rw[za0,<-hg2.2];simp[zb1,h1s,h1p,h2s,h2p,h3s,h3p,h5s,h5p,h7s,h7p,h9s,h9p,h11s,h11p,h13s,h13p,h14s,h14p,h15s,h15p,h17s,h17p];done)))
 refine Walk.mapUpdate zkz .none Z Z Z Z ol ?_;apply tv;refine ar (xaj ((pre2++[y],rest2,met2++[y.name])) ⟨⟨(by have hz:=hg2.1;rw[<-hz];simp),(by rw[<-hg2.2];simp[zb1,h1s,h1p,h2s,h2p,h3s,h3p,h5s,h5p,h7s,h7p,h9s,h9p,h11s,h11p,h13s,h13p,h14s,h14p,h15s,h15p,h17s,h17p])⟩,oe,sx ⟨⟨_,Z,xaL ?_⟩,O⟩ ⟨?_,O⟩⟩);focus ((simp;done))
 focus (first|rfl|(simp[getH];done))
 have hrest2:rest2=[]:=by
  rcases rest2 with _|⟨a,b⟩
  ·rfl
  ·exfalso;have hz:=xam List.length (hg2.1);simp only[xaa,xab,xac] at hz;omega
 subst hrest2;refine ar (xaj ((pre++[d],rest,met2,datas++[d.name])) ⟨⟨(by have hz:=hg1.1;rw[<-hz];simp),(by rw[<-hg1.2,za0,<-hg2.2];simp only[zaK,ziz (s:=d.name) oc,zcv];simp[zb1,h1s,h1p,h2s,h2p,h3s,h3p,h5s,h5p,h7s,h7p,h9s,h9p,h11s,h11p,h13s,h13p,h14s,h14p];omega)⟩,oe,sx ⟨⟨_,Z,xaL ?_⟩,⟨⟨_,Z, ?_⟩,⟨⟨_,Z, ?_⟩,O⟩⟩⟩ ⟨?_,⟨?_,O⟩⟩⟩);focus ((simp;done))
 iterate 2 focus (exact LeA.refl _)
 iterate 2 focus (first|rfl|(simp[getH];done))
 have hrest:rest=[]:=by
  rcases rest with _|⟨a,b⟩
  ·rfl
  ·exfalso;have hz:=xam List.length (hg1.1);simp only[xaa,xab,xac] at hz;omega
 subst hrest;focus (refine rq ?_;all_goals ((exact zok oc hg1.2)))
theorem zhr {w:List Data}{a b:Int} (hs:WSmall w):FnD Tryz.prog 79 [.d (zae w),.agg [.d (.i a),.d (.i b)]] [] (.d (.bool (zbe w ⟨a,b⟩))) []:=by
 refine bd Tryz.f79 12 [] [] fun _ _ _ _ hk=>?_;refine bx 3003 ?_;refine ev (wc znJ (zed hs) Z Z ?_);refine ev ?_;apply sq<;>intro h1 h1p h1s;refine Walk.call (cr:=[]) zkK (zdQ hs.len) Z (.some Z Z h1) Z Z (LeL.refl _) O Z Z Z (evs [] [(7,true)] ?_ ⟨⟨_,Z,h1⟩,O⟩);focus (refine rq ?_;all_goals ((simp[zbe,h1s,h1p];done)))
 focus (refine rq ?_;all_goals ((simp[zbe,h1s,h1p];done)))
def zbG (n:Int):Bool:=decide (65<=n)&&decide (n<=90)
theorem zgk {n:Int}:FnD Tryz.prog 226 [.d (.int .u8 n)] [] (.d (.bool (zbG n))) []:=by
 refine bd Tryz.f226 9 [] [] fun _ _ _ _ hk=>?_;apply sq<;>intro h1 h1p h1s;focus (refine rq ?_;all_goals ((simp[zbG,h1s,h1p];done)))
 focus (refine rq ?_;all_goals ((simp[zbG,h1s,h1p];done)))
theorem zhB {s:Str} (hs:s.length<=1000000000000):FnD Tryz.prog 227 [.d (.str s)] [] (.d (.bool (zca s))) []:=by
 refine bd Tryz.f227 34 [] [] fun _ _ _ _ hk=>?_;apply sq<;>intro h1 h1p h1s<;>(try simp only[Q,zbG] at h1p);refine sqT ?_;refine sqT ?_;focus (refine rq ?_;all_goals ((rw[zgh oc];done)))
 apply sq<;>intro h3 h3p h3s<;>(try simp only[Q,zbG] at h3p);refine sqT ?_;focus (refine rq ?_;all_goals ((rw[zgh oc];done)))
 refine xbl (i:=0) un9 (.some Z Z h3) Z Z Z Z (xan oc) ?_;refine Walk.call (cr:=[]) zmB zgk Z (.some Z Z h3) Z Z (LeL.refl _) O Z Z Z (evs [] [(12,false)] ?_ ⟨⟨_,Z,h3⟩,O⟩);apply sq<;>intro h5 h5p h5s<;>(try simp only[Q,zbG] at h5p);focus (refine rq ?_;all_goals ((rw[zbn oc];simp only[zcv,h1s,h1p,h3s,h3p,h5s,h5p];simp;done)))
 refine xaz (ι:=Nat) hk (fun i=>[(3,.d (.i (i:Int)))]) [2,18,19,20,21,22,23,24,25,26,27,28,29,30,31,32,33] (fun i=>[]) (fun i=>1<=i/\i<=s.length/\zcj (s.drop i)=zcj (s.drop 1)) (fun i=>s.length-i) 1 ⟨by omega,by omega,Z⟩ ⟨⟨_,Z,xaL ?_⟩,O⟩ O (fun x=>rfl) (fun i hg1=>?_);focus (rfl)
 refine evc [] [] ?_;apply sq<;>intro h6 h6p h6s<;>(try simp only[Q,zbG] at h6p);refine xbl un9 .none Z Z Z Z (xan oc) ?_;refine ev ?_;apply sq<;>intro h7 h7p h7s<;>(try simp only[Q,zbG] at h7p);refine sqT ?_;focus (refine rq ?_;all_goals ((rw[zbn oc,<-hg1.2.2,zb2 oc];simp[zee];omega)))
 refine xbl un9 (.some Z Z h7) Z Z Z Z (xan oc) ?_;refine evs [] [(28,false)] ?_ ⟨⟨_,Z,h7⟩,O⟩;apply sq<;>intro h9 h9p h9s<;>(try simp only[Q,zbG] at h9p);focus (refine rq ?_;all_goals ((rw[zbn oc,<-hg1.2.2,zb2 oc];simp[zee];omega)))
 refine ar (xaj (i+1) ⟨⟨by omega,by omega,by rw[<-hg1.2.2,zb2 (i:=i) oc];simp[zee];omega⟩, ?_,sx ⟨⟨_,Z,xaL ?_⟩,O⟩ O⟩);focus (omega)
 focus (rfl)
 focus (refine rq ?_;all_goals ((rw[zbn oc,<-hg1.2.2,zgU oc];simp[zac,zcv];omega)))
theorem zjM {s:Str} (hs:s.length<=1000000000000):FnD Tryz.prog 139 [.d (.str s)] [] (.d (.bool (zaK s))) []:=by
 refine bd Tryz.f139 15 [] [] fun _ _ _ _ hk=>?_;apply sq<;>intro h1 h1p h1s;try simp only[Q] at h1p
 refine xbl (i:=0) un9 (.some Z Z h1) Z Z Z Z (xan oc) ?_;refine Walk.call (cr:=[]) zmB zgk Z (.some Z Z h1) Z Z (LeL.refl _) O Z Z Z (evs [] [(6,true)] ?_ ⟨⟨_,Z,h1⟩,O⟩);apply sq<;>intro h2 h2p h2s;try simp only[Q] at h2p
 focus (refine rq ?_;all_goals ((simp only[zaK,ziz (s:=s) oc,zcv];simp only[zbG,xad,xah] at *;simp[*];done)))
 focus (refine rq ?_;all_goals ((simp only[zaK,ziz (s:=s) oc,zcv];simp only[zbG,xad,xah] at *;simp[*];done)))
 refine sqF ?_;focus (refine rq ?_;all_goals ((simp[zaK,h1s,h1p];done)))
theorem zgj {n:Nat}{a b:Int}:FnD Tryz.prog 228 [.d (.i n),.agg [.d (.i a),.d (.i b)]] [] (.d (.bool (za9 n ⟨a,b⟩))) []:=by
 refine bd Tryz.f228 30 [] [] fun _ _ _ _ hk=>?_;refine bx 3003 ?_;refine ev ?_;apply sq<;>intro h1 h1p h1s;try simp only[Q] at h1p
 focus (refine rq ?_;all_goals ((simp[za9,zac,h1s,h1p];done)))
 apply sq<;>intro h2 h2p h2s;try simp only[Q] at h2p
 apply sq<;>intro h3 h3p h3s<;>(try simp only[Q] at h3p);apply sq<;>intro h4 h4p h4s;try simp only[Q] at h4p
 focus (refine rq ?_;all_goals ((apply xam D.bool;rw[xat];simp[za9,zac];omega)))
 focus (refine rq ?_;all_goals ((simp[za9,zac,h1s,h1p,h2s,h2p,h3s,h3p,h4s,h4p];done)))
 refine sqF ?_;focus (refine rq ?_;all_goals ((apply xam D.bool;rw[xat];simp[za9,zac];omega)))
 refine sqF ?_;refine sqF ?_;focus (refine rq ?_;all_goals ((simp[za9,zac,h1s,h1p,h2s,h2p];done)))
theorem zjL {n:Nat}{s:Str}{args:List Ty}{k:Int} (hn:s.length<=1000000000000) (ha:args.length<=1000000000000):FnD Tryz.prog 140 [.d (.i n),.agg [.d (.str s),.d (zaR args),.d (.i k)]] [] (.d (.bool (za4 n ⟨s,args,k⟩))) []:=by
 refine bd Tryz.f140 41 [] [] fun _ _ _ _ hk=>?_;refine bx 3003 ?_;refine ev (wc zoT (zhB hn) Z Z ?_);refine ev ?_;apply sq<;>intro h1 h1p h1s;refine sqT ?_;refine sqT ?_;refine sqT ?_;focus (refine rq ?_;all_goals ((simp[za4,h1s,h1p];done)))
 apply sq<;>intro h3 h3p h3s<;>(try simp only[Q] at h3p);refine sqT ?_;refine sqT ?_;focus (refine rq ?_;all_goals ((apply xam D.bool;simp[za4,zac];omega)))
 apply sq<;>intro h5 h5p h5s<;>(try simp only[Q] at h5p);refine sqT ?_;focus (refine rq ?_;all_goals ((apply xam D.bool;simp[za4,zac];omega)))
 apply sq<;>intro h7 h7p h7s<;>(try simp only[Q] at h7p);focus (refine rq ?_;all_goals ((apply xam D.bool;simp[za4,zac];omega)))
 refine xaz (ι:=List (Ty)×List (Ty)) hk (fun x=>[(5,.d (.i (x.1.length:Int)))]) [4,26,27,28,29,30,31,32,33,34,35,36,37,38,39,40] (fun x=>[]) (fun x=>x.1++x.2=args/\(x.2.any fun t=> !za9 n t)=args.any fun t=> !za9 n t) (fun x=>x.2.length) ([],args) ⟨by simp,Z⟩ ⟨⟨_,Z,xaL ?_⟩,O⟩ O (fun x=>rfl) (fun x hg1=>?_);focus (rfl)
 obtain⟨pre,rest⟩:=x;dsimp only at hg1 ⊢;refine evc [] [] ?_;apply sq<;>intro h8 h8p h8s<;>(try simp only[Q] at h8p);rcases rest with _|⟨y,rest⟩
 ·exfalso;simp_all
 refine ixq zau Z Z Z (zaE hg1.1) Z (ev (wc zmC zgj Z Z ?_));refine ev ?_;apply sq<;>intro h9 h9p h9s<;>(try simp only[Q] at h9p);focus (refine rq ?_;all_goals ((simp only[za4];rw[<-hg1.2];simp[zac,h1s,h1p,h3s,h3p,h5s,h5p,h7s,h7p,h8s,h8p,h9s,h9p];done)))
 refine ar (xaj ((pre++[y],rest)) ⟨⟨(by have hz:=hg1.1;rw[<-hz];simp),(by rw[<-hg1.2];simp[Ty.eta,h1s,h1p,h3s,h3p,h5s,h5p,h7s,h7p,h8s,h8p,h9s,h9p])⟩,oe,sx ⟨⟨_,Z,xaL ?_⟩,O⟩ O⟩);focus ((simp;done))
 have hrest:rest=[]:=by
  rcases rest with _|⟨a,b⟩
  ·rfl
  ·exfalso;have hz:=xam List.length (hg1.1);simp only[xaa,xab,xac] at hz;omega
 subst hrest;focus (refine rq ?_;all_goals ((simp only[za4];rw[<-hg1.2];simp[zac,h1s,h1p,h3s,h3p,h5s,h5p,h7s,h7p,h8s,h8p];omega)))
theorem zjf {w:List Data}{d k:Nat} (hs:WSmall w) (hd:d<w.length):FnD Tryz.prog 141 [.d (zae w),.d (.i d),.d (.i k)] [] (.d (.bool (zji w d k))) []:=by
 have hw:=hs.len;refine bd Tryz.f141 79 [] [] fun _ _ _ _ hk=>?_;refine xaz (ι:=Nat) hk (fun i=>[(7,.d (.i (i:Int)))]) [6,8,9,10,11,12,13,14,15,16,17,18,19,20,21,22,23,24,25,26,27,28,29,30,31,32,33,34,35,36,37,38,39,40,41,42,43,44,45,46,47,48,49,50,51,52,53,54,55,56,57,58,59,60,61,62,63,64,65,66,67,68,69,70,71,72,73,74,75,76,77,78] (fun i=>[]) (fun i=>i<=d+1/\∀i',i'<i->zck w d k i'=false) (fun i=>d+1-i) 0 ⟨by omega,fun _ h=>absurd h oc⟩ ⟨⟨_,Z,xaL ?_⟩,O⟩ O (fun x=>rfl) (fun i hg1=>?_);focus (rfl)
 refine evc [] [] ?_;apply sq<;>intro h1 h1p h1s<;>(try simp only[Q,Int.ofNat_lt,Int.ofNat_le] at h1p);apply sq<;>intro h2 h2p h2s<;>(try simp only[Q,Int.ofNat_lt,Int.ofNat_le] at h2p);refine xbh sl23 (.some Z Z h2) Z Z Z Z (zaf oc) Z ?_;refine evd [] [(17,true)] ?_ ⟨⟨_,Z,h2⟩,O⟩;refine xbh sl23 (.some Z Z h2) Z Z Z Z (zaf oc) Z ?_;refine evd [] [(17,true)] ?_ ⟨⟨_,Z,h2⟩,O⟩;refine dr ?_;apply sq<;>intro h3 h3p h3s<;>(try simp only[Q,Int.ofNat_lt,Int.ofNat_le] at h3p);focus (refine rq ?_;all_goals ((refine xam D.bool (zbV (i:=i) oc ?_).symm;simp[zck,h1s,h1p,h2s,h2p,h3s,h3p];done)))
 refine xaz (ι:=Nat) hk (fun j=>[(8,.d (.i (j:Int)))]) [6,30,31,32,33,34,35,36,37,38,39,40,41,42,43,44,45,46,47,48,49,50,51,52,53,54,55,56,57,58,59,60,61,62,63,64,65,66,67,68,69,70,71,72,73,74,75,76,77,78] (fun j=>[]) (fun j=>j<=(nth w i).ctors.length/\∀j',j'<j->za7 w d k i j'=false) (fun j=>(nth w i).ctors.length-j) 0 ⟨by omega,fun _ h=>absurd h oc⟩ ⟨⟨_,Z,xaL ?_⟩,O⟩ O (fun x=>rfl) (fun j hg2=>?_);focus (rfl)
 have hb:=hs.ctors i;refine evc [] [] (ixq sl23 Z Z Z (zaf oc) Z ?_);refine ev ?_;apply sq<;>intro h4 h4p h4s<;>(try simp only[Q,Int.ofNat_lt,Int.ofNat_le] at h4p);apply sq<;>intro h5 h5p h5s<;>(try simp only[Q,Int.ofNat_lt,Int.ofNat_le] at h5p);refine sqT ?_;refine ixq sl23 Z Z Z (zaf oc) Z ?_;refine evd [] [] ?_;apply sq<;>intro h7 h7p h7s<;>(try simp only[Q,Int.ofNat_lt,Int.ofNat_le] at h7p);refine xbh sl23 (.some Z Z h7) Z Z Z Z (zaf oc) Z ?_;refine evd [] [(58,true)] ?_ ⟨⟨_,Z,h7⟩,O⟩;refine xbh zbr (.some Z Z h7) Z Z Z Z (zaf oc) Z ?_;refine evd [] [(58,true)] ?_ ⟨⟨_,Z,h7⟩,O⟩;refine xbh sl23 (.some Z Z h7) Z Z Z Z (zaf oc) Z ?_;refine evd [] [(58,true)] ?_ ⟨⟨_,Z,h7⟩,O⟩;refine xbh zbr (.some Z Z h7) Z Z Z Z (zaf oc) Z ?_;refine evd [] [(58,true)] ?_ ⟨⟨_,Z,h7⟩,O⟩;refine dr ?_;apply sq<;>intro h8 h8p h8s<;>(try simp only[Q,Int.ofNat_lt,Int.ofNat_le] at h8p);focus (refine rq ?_;all_goals ((refine xam D.bool (zbV (i:=i) oc ?_).symm;unfold zck;rw[zbV (i:=j) oc (by simp[za7,h1s,h1p,h2s,h2p,h3s,h3p,h4s,h4p,h5s,h5p,h7s,h7p,h8s,h8p])];simp;done)))
 refine ar (xaj (j+1) ⟨⟨by omega,zaw hg2.2 (by simp[za7,h1s,h1p,h2s,h2p,h3s,h3p,h4s,h4p,h5s,h5p,h7s,h7p,h8s,h8p];done)⟩,oc,sx ⟨⟨_,Z,xaL ?_⟩,O⟩ O⟩);focus (rfl)
 refine dr (sqF ?_);refine ar (xaj (j+1) ⟨⟨by omega,zaw hg2.2 (by simp[za7,h1s,h1p,h2s,h2p,h3s,h3p,h4s,h4p,h5s,h5p,h7s,h7p];done)⟩,oc,sx ⟨⟨_,Z,xaL ?_⟩,O⟩ O⟩);focus (rfl)
 apply sq<;>intro h10 h10p h10s<;>(try simp only[Q,Int.ofNat_lt,Int.ofNat_le] at h10p);refine ixq sl23 Z Z Z (zaf oc) Z ?_;refine evd [] [] ?_;apply sq<;>intro h11 h11p h11s<;>(try simp only[Q,Int.ofNat_lt,Int.ofNat_le] at h11p);refine xbh sl23 (.some Z Z h11) Z Z Z Z (zaf oc) Z ?_;refine evd [] [(58,true)] ?_ ⟨⟨_,Z,h11⟩,O⟩;refine xbh zbr (.some Z Z h11) Z Z Z Z (zaf oc) Z ?_;refine evd [] [(58,true)] ?_ ⟨⟨_,Z,h11⟩,O⟩;refine xbh sl23 (.some Z Z h11) Z Z Z Z (zaf oc) Z ?_;refine evd [] [(58,true)] ?_ ⟨⟨_,Z,h11⟩,O⟩;refine xbh zbr (.some Z Z h11) Z Z Z Z (zaf oc) Z ?_;refine evd [] [(58,true)] ?_ ⟨⟨_,Z,h11⟩,O⟩;refine dr ?_;apply sq<;>intro h12 h12p h12s<;>(try simp only[Q,Int.ofNat_lt,Int.ofNat_le] at h12p);focus (refine rq ?_;all_goals ((exfalso;omega)))
 refine ar (xaj (j+1) ⟨⟨by omega,zaw hg2.2 (by simp[za7,h1s,h1p,h2s,h2p,h3s,h3p,h4s,h4p,h5s,h5p,h10s,h10p,h11s,h11p,h12s,h12p];done)⟩,oc,sx ⟨⟨_,Z,xaL ?_⟩,O⟩ O⟩);focus (rfl)
 refine dr (sqF ?_);refine ar (xaj (j+1) ⟨⟨by omega,zaw hg2.2 (by simp[za7,h1s,h1p,h2s,h2p,h3s,h3p,h4s,h4p,h5s,h5p,h10s,h10p,h11s,h11p];done)⟩,oc,sx ⟨⟨_,Z,xaL ?_⟩,O⟩ O⟩);focus (rfl)
 refine ar (xaj (i+1) ⟨⟨by omega,zaw hg1.2 (zff (by simp[h1s,h1p,h2s,h2p,h3s,h3p,h4s,h4p,h5s,h5p,h10s,h10p]) hg2.2 (fun hj=>by omega))⟩,oc,sx ⟨⟨_,Z,xaL ?_⟩,O⟩ O⟩);focus (rfl)
 refine sqF ?_;refine ar (xaj (i+1) ⟨⟨by omega,zaw hg1.2 (zff (by simp[h1s,h1p,h2s,h2p,h3s,h3p,h4s,h4p]) hg2.2 (fun hj=>by omega))⟩,oc,sx ⟨⟨_,Z,xaL ?_⟩,O⟩ O⟩);focus (rfl)
 refine dr (sqF ?_);refine xaz (ι:=Nat) hk (fun j=>[(8,.d (.i (j:Int)))]) [6,30,31,32,33,34,35,36,37,38,39,40,41,42,43,44,45,46,47,48,49,50,51,52,53,54,55,56,57,58,59,60,61,62,63,64,65,66,67,68,69,70,71,72,73,74,75,76,77,78] (fun j=>[]) (fun j=>j<=(nth w i).ctors.length/\∀j',j'<j->za7 w d k i j'=false) (fun j=>(nth w i).ctors.length-j) 0 ⟨by omega,fun _ h=>absurd h oc⟩ ⟨⟨_,Z,xaL ?_⟩,O⟩ O (fun x=>rfl) (fun j hg2=>?_);focus (rfl)
 have hb:=hs.ctors i;refine evc [] [] (ixq sl23 Z Z Z (zaf oc) Z ?_);refine ev ?_;apply sq<;>intro h16 h16p h16s<;>(try simp only[Q,Int.ofNat_lt,Int.ofNat_le] at h16p);apply sq<;>intro h17 h17p h17s<;>(try simp only[Q,Int.ofNat_lt,Int.ofNat_le] at h17p);refine sqT ?_;refine ixq sl23 Z Z Z (zaf oc) Z ?_;refine evd [] [] ?_;apply sq<;>intro h19 h19p h19s<;>(try simp only[Q,Int.ofNat_lt,Int.ofNat_le] at h19p);refine xbh sl23 (.some Z Z h19) Z Z Z Z (zaf oc) Z ?_;refine evd [] [(58,true)] ?_ ⟨⟨_,Z,h19⟩,O⟩;refine xbh zbr (.some Z Z h19) Z Z Z Z (zaf oc) Z ?_;refine evd [] [(58,true)] ?_ ⟨⟨_,Z,h19⟩,O⟩;refine xbh sl23 (.some Z Z h19) Z Z Z Z (zaf oc) Z ?_;refine evd [] [(58,true)] ?_ ⟨⟨_,Z,h19⟩,O⟩;refine xbh zbr (.some Z Z h19) Z Z Z Z (zaf oc) Z ?_;refine evd [] [(58,true)] ?_ ⟨⟨_,Z,h19⟩,O⟩;refine dr ?_;apply sq<;>intro h20 h20p h20s<;>(try simp only[Q,Int.ofNat_lt,Int.ofNat_le] at h20p);focus (refine rq ?_;all_goals ((exfalso;omega)))
 refine ar (xaj (j+1) ⟨⟨by omega,zaw hg2.2 (by simp[za7,h1s,h1p,h2s,h2p,h16s,h16p,h17s,h17p,h19s,h19p,h20s,h20p];done)⟩,oc,sx ⟨⟨_,Z,xaL ?_⟩,O⟩ O⟩);focus (rfl)
 refine dr (sqF ?_);refine ar (xaj (j+1) ⟨⟨by omega,zaw hg2.2 (by simp[za7,h1s,h1p,h2s,h2p,h16s,h16p,h17s,h17p,h19s,h19p];done)⟩,oc,sx ⟨⟨_,Z,xaL ?_⟩,O⟩ O⟩);focus (rfl)
 apply sq<;>intro h22 h22p h22s<;>(try simp only[Q,Int.ofNat_lt,Int.ofNat_le] at h22p);refine ixq sl23 Z Z Z (zaf oc) Z ?_;refine evd [] [] ?_;apply sq<;>intro h23 h23p h23s<;>(try simp only[Q,Int.ofNat_lt,Int.ofNat_le] at h23p);refine xbh sl23 (.some Z Z h23) Z Z Z Z (zaf oc) Z ?_;refine evd [] [(58,true)] ?_ ⟨⟨_,Z,h23⟩,O⟩;refine xbh zbr (.some Z Z h23) Z Z Z Z (zaf oc) Z ?_;refine evd [] [(58,true)] ?_ ⟨⟨_,Z,h23⟩,O⟩;refine xbh sl23 (.some Z Z h23) Z Z Z Z (zaf oc) Z ?_;refine evd [] [(58,true)] ?_ ⟨⟨_,Z,h23⟩,O⟩;refine xbh zbr (.some Z Z h23) Z Z Z Z (zaf oc) Z ?_;refine evd [] [(58,true)] ?_ ⟨⟨_,Z,h23⟩,O⟩;refine dr ?_;apply sq<;>intro h24 h24p h24s<;>(try simp only[Q,Int.ofNat_lt,Int.ofNat_le] at h24p);focus (refine rq ?_;all_goals ((refine xam D.bool (zbV (i:=i) oc ?_).symm;unfold zck;rw[zbV (i:=j) oc (by simp[za7,h1s,h1p,h2s,h2p,h16s,h16p,h17s,h17p,h22s,h22p,h23s,h23p,h24s,h24p])];simp;done)))
 refine ar (xaj (j+1) ⟨⟨by omega,zaw hg2.2 (by simp[za7,h1s,h1p,h2s,h2p,h16s,h16p,h17s,h17p,h22s,h22p,h23s,h23p,h24s,h24p];done)⟩,oc,sx ⟨⟨_,Z,xaL ?_⟩,O⟩ O⟩);focus (rfl)
 refine dr (sqF ?_);refine ar (xaj (j+1) ⟨⟨by omega,zaw hg2.2 (by simp[za7,h1s,h1p,h2s,h2p,h16s,h16p,h17s,h17p,h22s,h22p,h23s,h23p];done)⟩,oc,sx ⟨⟨_,Z,xaL ?_⟩,O⟩ O⟩);focus (rfl)
 refine ar (xaj (i+1) ⟨⟨by omega,zaw hg1.2 (zff (by simp[h1s,h1p,h2s,h2p,h16s,h16p,h17s,h17p,h22s,h22p]) hg2.2 (fun hj=>by omega))⟩,oc,sx ⟨⟨_,Z,xaL ?_⟩,O⟩ O⟩);focus (rfl)
 refine sqF ?_;refine ar (xaj (i+1) ⟨⟨by omega,zaw hg1.2 (zff (by simp[h1s,h1p,h2s,h2p,h16s,h16p]) hg2.2 (fun hj=>by omega))⟩,oc,sx ⟨⟨_,Z,xaL ?_⟩,O⟩ O⟩);focus (rfl)
 focus (refine rq ?_;all_goals ((refine xam D.bool (zdt (fun x hx=>hg1.2 x (Nat.lt_of_lt_of_le hx ?_))).symm;omega)))
theorem znE {w:List Data} (h:w.length<=4) (h2:∀i,i<w.length->zbv w i=true):zaP w=true:=by
 unfold zaP;rw[zc2 h2];simp[h]
theorem zol {w:List Data} (h:4<w.length):zaP w=false:=by
 unfold zaP;rw[xaw oc];rfl
theorem zeh {w:List Data}{i:Nat} (h:i<w.length) (h2:zbv w i=false):zaP w=false:=by
 unfold zaP;rw[zcI h h2];simp
theorem zku {w:List Data}{d:Nat} (h:zaK (nth w d).name=true) (h1:1<=(nth w d).ctors.length) (h2:(nth w d).ctors.length<=4) (h3:∀k,k<(nth w d).ctors.length->zcY w d k=true):zbv w d=true:=by
 unfold zbv;rw[h,zc2 h3];simp[h1,h2]
theorem zeg {w:List Data} (hs:WSmall w):FnD Tryz.prog 68 [.d (zae w)] [] (.d (.bool (zaP w))) []:=by
 have hw:=hs.len;refine bd Tryz.f68 67 [] [] fun _ _ _ _ hk=>?_;apply sq<;>intro h1 h1p h1s<;>(try simp only[Q,Int.ofNat_lt,Int.ofNat_le] at h1p);focus (refine rq ?_;all_goals ((refine xam D.bool (zol ?_).symm;omega)))
 refine xaz (ι:=Nat) hk (fun i=>[(3,.d (.i (i:Int)))]) [2,4,8,9,10,11,12,13,14,15,16,17,18,19,20,21,22,23,24,25,26,27,28,29,30,31,32,33,34,35,36,37,38,39,40,41,42,43,44,45,46,47,48,49,50,51,52,53,54,55,56,57,58,59,60,61,62,63,64,65,66] (fun i=>[]) (fun i=>i<=w.length/\∀i',i'<i->zbv w i'=true) (fun i=>w.length-i) 0 ⟨by omega,fun _ h=>absurd h oc⟩ ⟨⟨_,Z,xaL ?_⟩,O⟩ O (fun x=>rfl) (fun i hg1=>?_);focus (rfl)
 refine evc [] [] ?_;apply sq<;>intro h2 h2p h2s<;>(try simp only[Q,Int.ofNat_lt,Int.ofNat_le] at h2p);refine ixq sl23 Z Z Z (zaf oc) Z ?_;refine ev (wc zox (zjM (hs.data _ (zad oc)).1) Z Z ?_);refine ev ?_;apply sq<;>intro h3 h3p h3s<;>(try simp only[Q,Int.ofNat_lt,Int.ofNat_le] at h3p);refine sqT ?_;refine sqT ?_;focus (refine rq ?_;all_goals ((refine xam D.bool (zeh (i:=i) oc ?_).symm;simp[zbv,h1s,h1p,h2s,h2p,h3s,h3p];done)))
 refine xbh sl23 (.some Z Z h3) Z Z Z Z (zaf oc) Z ?_;refine evs [] [(21,false)] ?_ ⟨⟨_,Z,h3⟩,O⟩;apply sq<;>intro h5 h5p h5s<;>(try simp only[Q,Int.ofNat_lt,Int.ofNat_le] at h5p);refine sqT ?_;focus (refine rq ?_;all_goals ((refine xam D.bool (zeh (i:=i) oc ?_).symm;unfold zbv;rw[xaw (p:=1<=(nth w i).ctors.length) oc];simp;done)))
 refine xbh sl23 (.some Z Z h5) Z Z Z Z (zaf oc) Z ?_;refine evs [] [(30,false)] ?_ ⟨⟨_,Z,h5⟩,O⟩;apply sq<;>intro h7 h7p h7s<;>(try simp only[Q,Int.ofNat_lt,Int.ofNat_le] at h7p);focus (refine rq ?_;all_goals ((refine xam D.bool (zeh (i:=i) oc ?_).symm;unfold zbv;rw[xaw (p:=(nth w i).ctors.length<=4) oc];simp;done)))
 refine xaz (ι:=Nat) hk (fun k=>[(4,.d (.i (k:Int)))]) [2,39,40,41,42,43,44,45,46,47,48,49,50,51,52,53,54,55,56,57,58,59,60,61,62,63,64,65,66] (fun k=>[]) (fun k=>k<=(nth w i).ctors.length/\∀k',k'<k->zcY w i k'=true) (fun k=>(nth w i).ctors.length-k) 0 ⟨by omega,fun _ h=>absurd h oc⟩ ⟨⟨_,Z,xaL ?_⟩,O⟩ O (fun x=>rfl) (fun k hg2=>?_);focus (rfl)
 have hb:=hs.ctors i;refine evc [] [] (ixq sl23 Z Z Z (zaf oc) Z ?_);refine ev ?_;apply sq<;>intro h8 h8p h8s<;>(try simp only[Q,Int.ofNat_lt,Int.ofNat_le] at h8p);refine ixq sl23 Z Z Z (zaf oc) Z ?_;refine ev (ixq zbr Z Z Z (zaf oc) Z ?_);refine ev (wc zoy (zjL (hs.ctor _ (zad (i:=i) oc) _ (zad (i:=k) oc)).1 (hs.ctor _ (zad (i:=i) oc) _ (zad (i:=k) oc)).2) Z Z ?_);refine ev ?_;apply sq<;>intro h9 h9p h9s<;>(try simp only[Q,Int.ofNat_lt,Int.ofNat_le] at h9p);refine sqT ?_;focus (refine rq ?_;all_goals ((refine xam D.bool (zeh (i:=i) oc ?_).symm;unfold zbv;rw[zcI (i:=k) oc (by simp[zcY,xaB,h1s,h1p,h2s,h2p,h3s,h3p,h5s,h5p,h7s,h7p,h8s,h8p,h9s,h9p])];simp;done)))
 refine Walk.call (cr:=[]) zoz (zjf hs oc) Z (.some Z Z h9) Z Z (LeL.refl _) O Z Z Z ?_;refine evs [] [(61,false)] ?_ ⟨⟨_,Z,h9⟩,O⟩;apply sq<;>intro h11 h11p h11s<;>(try simp only[Q,Int.ofNat_lt,Int.ofNat_le] at h11p);focus (refine rq ?_;all_goals ((refine xam D.bool (zeh (i:=i) oc ?_).symm;unfold zbv;rw[zcI (i:=k) oc (by simp[zcY,xaB,h1s,h1p,h2s,h2p,h3s,h3p,h5s,h5p,h7s,h7p,h8s,h8p,h9s,h9p,h11s,h11p])];simp;done)))
 refine ar (xaj (k+1) ⟨⟨by omega,zaw hg2.2 (by simp[zcY,xaB,h1s,h1p,h2s,h2p,h3s,h3p,h5s,h5p,h7s,h7p,h8s,h8p,h9s,h9p,h11s,h11p];done)⟩,oc,sx ⟨⟨_,Z,xaL ?_⟩,O⟩ O⟩);focus (rfl)
 refine ar (xaj (i+1) ⟨⟨by omega,zaw hg1.2 (zku (by simp[h1s,h1p,h2s,h2p,h3s,h3p,h5s,h5p,h7s,h7p,h8s,h8p]) oc oc (fun x hx=>hg2.2 x oc))⟩,oc,sx ⟨⟨_,Z,xaL ?_⟩,O⟩ O⟩);focus (rfl)
 focus (refine rq ?_;all_goals ((refine xam D.bool (znE ?_ (fun x hx=>hg1.2 x (Nat.lt_of_lt_of_le hx ?_))).symm<;>omega)))
def szr (left:Int) (m:Nat):Int:=if left<m then -1 else left-m
theorem zaN {left:Int} (m:Nat):(left<m/\szr left m = -1)\/((m:Int)<=left/\szr left m=left-m):=by
 unfold szr;split<;>omega
def mTys (l:List Ty):Nat:=l.length
def zd5 (c:Ctor):Nat:=c.name.length+mTys c.args
def zgT (l:List Ctor):Nat:=l.length+(l.map zd5).sum
def zd6 (c:Data):Nat:=c.name.length+zgT c.ctors
def ziU (l:List Data):Nat:=l.length+(l.map zd6).sum
structure CSmall (l:List Ctor):Prop where
 len:l.length<=1000000000000
 ctor:∀c∈l,c.name.length<=1000000000000/\c.args.length<=1000000000000
theorem WSmall.cs {w:List Data} (h:WSmall w){d:Data} (hd:d∈w):CSmall d.ctors:=⟨(h.data d hd).2,h.ctor d hd⟩
theorem ziP {l:List Ty}{left:Int} (h:l.length<=1000000000000) (k0:0<=left) (k1:left<=1000000000000):FnD Tryz.prog 288 [.d (zaR l),.d (.i left)] [] (.d (.i (szr left (mTys l)))) []:=by
 have z:=zaN (left:=left) (mTys l);refine bd Tryz.f288 12 [] [] fun _ _ _ _ hk=>?_;refine ar ?_;apply sq<;>intro h1 h1p h1s<;>(try simp only[Q] at h1p);refine rq ?_;rotate_left;refine rq ?_;rotate_left;all_goals (refine xam D.i ?_;simp only[mTys,xac] at *;omega)
theorem zjB {s:Str}{args:List Ty}{k left:Int} (h:s.length<=1000000000000) (h':args.length<=1000000000000) (k0:0<=left) (k1:left<=1000000000000):FnD Tryz.prog 246 [.agg [.d (.str s),.d (zaR args),.d (.i k)],.d (.i left)] [] (.d (.i (szr left (zd5 ⟨s,args,k⟩)))) []:=by
 have z:=zaN (left:=left) (zd5 ⟨s,args,k⟩);have z2:=zaN (left:=left-s.length) (mTys args);simp only[zd5] at z z2 ⊢;refine bd Tryz.f246 19 [] [] fun _ _ _ _ hk=>?_;refine bx 3002 ?_;refine ev (ar ?_);apply sq<;>intro h1 h1p h1s<;>(try simp only[Q] at h1p);refine rq ?_;rotate_left;refine wc zpb (ziP h' oc oc) Z Z ?_;refine ev ?_;apply sq<;>intro h2 h2p h2s<;>(try simp only[Q] at h2p);refine rq ?_;rotate_left;refine rq ?_;rotate_left;all_goals (refine xam D.i ?_;omega)
theorem zbp {α:Type}{f:α->Nat}{pre rest l:List α}{y:α} (h:pre++y::rest=l):(l.map f).sum=(pre.map f).sum+f y+(rest.map f).sum:=by
 subst h;simp;omega
theorem ziM {l:List Ctor}{left:Int} (hs:CSmall l) (k0:0<=left) (k1:left<=1000000000000):FnD Tryz.prog 172 [.d (zbK l),.d (.i left)] [] (.d (.i (szr left (zgT l)))) []:=by
 have h:=hs.len;have z:=zaN (left:=left) (zgT l);simp only[zgT] at z ⊢;refine bd Tryz.f172 27 [] [] fun _ _ _ _ hk=>?_;refine ar ?_;apply sq<;>intro h1 h1p h1s<;>(try simp only[Q] at h1p);refine rq ?_;rotate_left;refine xaz (ι:=List (Ctor)×List (Ctor)×(Int)) hk (fun x=>[(5,.d (.i (x.1.length:Int))),(1,.d (.i x.2.2))]) [4,12,13,14,15,16,17,18,19,20,21,22,23,24,25] (fun x=>[]) (fun x=>x.1++x.2.1=l/\x.2.2=left-l.length-(x.1.map zd5).sum/\0<=x.2.2) (fun x=>x.2.1.length) ([],l,left-l.length) ⟨by simp,by simp,by simp at *;omega⟩ ⟨⟨_,Z,xaL ?_⟩,⟨⟨_,Z,xaL ?_⟩,O⟩⟩ O (fun x=>rfl) (fun x hg1=>?_);iterate 2 focus (first|rfl|(simp;done))
 obtain⟨pre,rest,v⟩:=x;dsimp only at hg1 ⊢;refine evc [] [] ?_;apply sq<;>intro h2 h2p h2s<;>(try simp only[Q] at h2p);rcases rest with _|⟨y,rest⟩
 ·exfalso;simp_all
 refine ixq znR Z Z Z (zaE hg1.1) Z (ev (wc zoV (zjB (hs.ctor y (by rw[<-hg1.1];simp)).1 (hs.ctor y (by rw[<-hg1.1];simp)).2 oc oc) Z Z ?_));refine ev ?_;apply sq<;>intro h3 h3p h3s<;>(try simp only[Q] at h3p);refine rq ?_;rotate_left;refine ar (xaj ((pre++[y],rest,szr v (zd5 y))) ⟨⟨(by have hz:=hg1.1;rw[<-hz];simp),(by have e:=zbp (f:=zd5) hg1.1;have z3:=zaN (left:=v) (zd5 y);simp only[xaB] at *;simp;omega)⟩,oe,sx ⟨⟨_,Z,xaL ?_⟩,⟨⟨_,Z,xaL ?_⟩,O⟩⟩ O⟩);iterate 2 focus (first|rfl|(simp;done))
 have hrest:rest=[]:=by
  rcases rest with _|⟨a,b⟩
  ·rfl
  ·exfalso;have hz:=xam List.length (hg1.1);simp only[xaa,xab,xac] at hz;omega
 subst hrest;refine rq ?_;rotate_left;all_goals (refine xam D.i ?_;first|omega|(have e:=zbp (f:=zd5) hg1.1;have z3:=zaN (left:=v) (zd5 y);simp only[xaB] at *;omega)|(rw[xaq] at hg1;rw[hg1.1] at hg1;omega))
theorem zdT {a b:Int}:FnD Tryz.prog 262 [.agg [.d (.i a),.d (.i b)]] [] (.agg [.d (.i a),.d (.i b)]) []:=by
 refine bd Tryz.f262 11 [] [] fun _ _ _ _ hk=>?_;refine bx 3001 ?_;refine ab 3002 tz38 ?_;apply tv;refine ab 3003 tz38 ?_;apply tv;refine so ty3 ?_;apply tv;refine so ty3 ?_;apply tv;refine so ty38 ?_;apply tv;focus (refine rn0 (ra ty38) (.agg (qee ?_ ?_));all_goals (first|rfl|(simp[];done)|(simp_all;done)|(simp_all;omega)|omega))
theorem oo{p:Prop}(h:p:=by intro x _;rfl):p:=h
theorem ziT {l:List Ty} (h:l.length<=1000000000000):FnD Tryz.prog 289 [.d (zaR l)] [] (.d (zaR l)) []:=by
 refine bd Tryz.f289 23 [] [999999] fun _ _ _ _ hk=>?_;refine xbn (id:=3007) zau tz38 Z og (zcg Z) .none Z Z Z oj oj Z Z Z ?_;refine ev (xaz (ι:=List (Ty)×List (Ty)) hk (fun x=>[(4,.d (.i (x.1.length:Int)))]) [8,9,10,11,12,13,14,15,16,17,18,19,20,21] (fun x=>[(3007,some (.box ((x.1.flatMap fun x=>(Ty.c x).map AV.d)++zaD x.2.length [.d (.i 0),.d (.i 0)])))]) (fun x=>x.1++x.2=l) (fun x=>x.2.length) ([],l) oe ⟨⟨_,Z,xaL ?_⟩,O⟩ ⟨?_,O⟩ (fun x=>rfl) (fun x hg1=>?_));focus (first|rfl|(simp;done)|(simp_all;done)|omega)
 focus (first|rfl|(show some (Res.box _)=some (Res.box _);simp;done))
 obtain⟨pre,rest⟩:=x;dsimp only at hg1 ⊢;refine evc [] [999999] ?_;apply sq<;>intro h1 h1p h1s<;>(try simp only[Q] at h1p);rcases rest with _|⟨y,rest⟩
 ·exfalso;simp_all
 refine ixq zp8 Z Z Z (zaE hg1) Z (ev (wc zkT zdT Z Z ?_));refine xbk zau .none Z Z Z Z (by first|omega|(simp ;omega)) ?_;refine Walk.store ty38 .none Z Z Z Z Z Z oe ((zdq (k:=2) oo (by first|rfl|simp) Z)) ?_;apply tv;refine ar (xaj ((pre++[y],rest)) ⟨(by have hz:=hg1;rw[<-hz];simp),oe,sx ⟨⟨_,Z,xaL ?_⟩,O⟩ ⟨?_,O⟩⟩);focus (first|rfl|(simp;done)|(simp_all;done)|omega)
 focus (first|rfl|(show some (Res.box _)=some (Res.box _);simp;done))
 have hrest:rest=[]:=by
  rcases rest with _|⟨a,b⟩
  ·rfl
  ·exfalso;have hz:=xam List.length (hg1);simp only[xaa,xab,xac] at hz;omega
 subst hrest;refine CWp.frz hk 2 3007 _ _ Z Z (zcD (f:=Ty.c) (k:=2) hg1 oe oo) Z ?_;refine CWp.ret ?_;focus (refine rq ?_;all_goals (first|rfl|(simp[h1s,h1p];done)|(simp_all;done)|(simp_all;omega)|omega))
theorem zjE {s:Str}{args:List Ty}{k:Int} (h:args.length<=1000000000000):FnD Tryz.prog 247 [.agg [.d (.str s),.d (zaR args),.d (.i k)]] [] (.agg [.d (.str s),.d (zaR args),.d (.i k)]) []:=by
 refine bd Tryz.f247 15 [] [] fun _ _ _ _ hk=>?_;refine bx 3001 ?_;refine ab 3002 zf8 ?_;apply tv;refine ab 3003 zf8 ?_;apply tv;refine so ty9 ?_;apply tv;refine wc zpc (ziT h) Z Z ?_;refine ev (so zqc ?_);apply tv;refine so ty3 ?_;apply tv;refine so zf7 ?_;apply tv;focus (refine rn0 (ra zf7) (.agg (qeee ?_ ?_ ?_));all_goals (first|rfl|(simp[];done)|(simp_all;done)|(simp_all;omega)|omega))
theorem ziQ {l:List Ctor} (hs:CSmall l):FnD Tryz.prog 173 [.d (zbK l)] [] (.d (zbK l)) []:=by
 have h:=hs.len;refine bd Tryz.f173 23 [] [999999] fun _ _ _ _ hk=>?_;refine xbn (id:=3007) zbr zf8 Z og (zcg Z) .none Z Z Z oj oj Z Z Z ?_;refine ev (xaz (ι:=List (Ctor)×List (Ctor)) hk (fun x=>[(4,.d (.i (x.1.length:Int)))]) [8,9,10,11,12,13,14,15,16,17,18,19,20,21] (fun x=>[(3007,some (.box ((x.1.flatMap fun x=>(Ctor.c x).map AV.d)++zaD x.2.length [.d (.str []),.nils,.d (.i 0)])))]) (fun x=>x.1++x.2=l) (fun x=>x.2.length) ([],l) oe ⟨⟨_,Z,xaL ?_⟩,O⟩ ⟨?_,O⟩ (fun x=>rfl) (fun x hg1=>?_));focus (first|rfl|(simp;done)|(simp_all;done)|omega)
 focus (first|rfl|(show some (Res.box _)=some (Res.box _);simp;done))
 obtain⟨pre,rest⟩:=x;dsimp only at hg1 ⊢;refine evc [] [999999] ?_;apply sq<;>intro h1 h1p h1s<;>(try simp only[Q] at h1p);rcases rest with _|⟨y,rest⟩
 ·exfalso;simp_all
 refine ixq znR Z Z Z (zaE hg1) Z (ev (wc zoW (zjE (hs.ctor y (by rw[<-hg1];simp)).2) Z Z ?_));refine xbk zbr .none Z Z Z Z (by first|omega|(simp ;omega)) ?_;refine Walk.store zf7 .none Z Z Z Z Z Z oe ((zdq (k:=3) oo (by first|rfl|simp) Z)) ?_;apply tv;refine ar (xaj ((pre++[y],rest)) ⟨(by have hz:=hg1;rw[<-hz];simp),oe,sx ⟨⟨_,Z,xaL ?_⟩,O⟩ ⟨?_,O⟩⟩);focus (first|rfl|(simp;done)|(simp_all;done)|omega)
 focus (first|rfl|(show some (Res.box _)=some (Res.box _);simp;done))
 have hrest:rest=[]:=by
  rcases rest with _|⟨a,b⟩
  ·rfl
  ·exfalso;have hz:=xam List.length (hg1);simp only[xaa,xab,xac] at hz;omega
 subst hrest;refine CWp.frz hk 2 3007 _ _ Z Z (zcD (f:=Ctor.c) (k:=3) hg1 oe oo) Z ?_;refine CWp.ret ?_;focus (refine rq ?_;all_goals (first|rfl|(simp[h1s,h1p];done)|(simp_all;done)|(simp_all;omega)|omega))
theorem zjF {s:Str}{cs:List Ctor} (h:CSmall cs):FnD Tryz.prog 88 [.agg [.d (.str s),.d (zbK cs)]] [] (.agg [.d (.str s),.d (zbK cs)]) []:=by
 refine bd Tryz.f88 12 [] [] fun _ _ _ _ hk=>?_;refine bx 3001 ?_;refine ab 3002 zkD ?_;apply tv;refine ab 3003 zkD ?_;apply tv;refine so ty9 ?_;apply tv;refine wc zoB (ziQ h) Z Z ?_;refine ev (so zqb ?_);apply tv;refine so zkB ?_;apply tv;focus (refine rn0 (ra zkB) (.agg (qee ?_ ?_));all_goals (first|rfl|(simp[];done)|(simp_all;done)|(simp_all;omega)|omega))
theorem zdA {l:List Data} (hs:WSmall l):FnD Tryz.prog 28 [.d (zae l)] [] (.d (zae l)) []:=by
 have h:=hs.len;refine bd Tryz.f28 23 [] [999999] fun _ _ _ _ hk=>?_;refine xbn (id:=3007) sl23 zkD Z og (zcg Z) .none Z Z Z oj oj Z Z Z ?_;refine ev (xaz (ι:=List (Data)×List (Data)) hk (fun x=>[(4,.d (.i (x.1.length:Int)))]) [8,9,10,11,12,13,14,15,16,17,18,19,20,21] (fun x=>[(3007,some (.box ((x.1.flatMap fun x=>(Data.c x).map AV.d)++zaD x.2.length [.d (.str []),.nils])))]) (fun x=>x.1++x.2=l) (fun x=>x.2.length) ([],l) oe ⟨⟨_,Z,xaL ?_⟩,O⟩ ⟨?_,O⟩ (fun x=>rfl) (fun x hg1=>?_));focus (first|rfl|(simp;done)|(simp_all;done)|omega)
 focus (first|rfl|(show some (Res.box _)=some (Res.box _);simp;done))
 obtain⟨pre,rest⟩:=x;dsimp only at hg1 ⊢;refine evc [] [999999] ?_;apply sq<;>intro h1 h1p h1s<;>(try simp only[Q] at h1p);rcases rest with _|⟨y,rest⟩
 ·exfalso;simp_all
 refine ixq sl51 Z Z Z (zaE hg1) Z (ev (wc zpT (zjF (hs.cs (d:=y) (by rw[<-hg1];simp))) Z Z ?_));refine xbk sl23 .none Z Z Z Z (by first|omega|(simp ;omega)) ?_;refine Walk.store zkB .none Z Z Z Z Z Z oe ((zdq (k:=2) oo (by first|rfl|simp) Z)) ?_;apply tv;refine ar (xaj ((pre++[y],rest)) ⟨(by have hz:=hg1;rw[<-hz];simp),oe,sx ⟨⟨_,Z,xaL ?_⟩,O⟩ ⟨?_,O⟩⟩);focus (first|rfl|(simp;done)|(simp_all;done)|omega)
 focus (first|rfl|(show some (Res.box _)=some (Res.box _);simp;done))
 have hrest:rest=[]:=by
  rcases rest with _|⟨a,b⟩
  ·rfl
  ·exfalso;have hz:=xam List.length (hg1);simp only[xaa,xab,xac] at hz;omega
 subst hrest;refine CWp.frz hk 2 3007 _ _ Z Z (zcD (f:=Data.c) (k:=2) hg1 oe oo) Z ?_;refine CWp.ret ?_;focus (refine rq ?_;all_goals (first|rfl|(simp[h1s,h1p];done)|(simp_all;done)|(simp_all;omega)|omega))
theorem zjC {s:Str}{cs:List Ctor}{left:Int} (h:s.length<=1000000000000) (hc:CSmall cs) (k0:0<=left) (k1:left<=1000000000000):FnD Tryz.prog 87 [.agg [.d (.str s),.d (zbK cs)],.d (.i left)] [] (.d (.i (szr left (zd6 ⟨s,cs⟩)))) []:=by
 have z:=zaN (left:=left) (zd6 ⟨s,cs⟩);have z2:=zaN (left:=left-s.length) (zgT cs);simp only[zd6] at z z2 ⊢;refine bd Tryz.f87 19 [] [] fun _ _ _ _ hk=>?_;refine bx 3002 ?_;refine ev (ar ?_);apply sq<;>intro h1 h1p h1s<;>(try simp only[Q] at h1p);refine rq ?_;rotate_left;refine wc zoA (ziM hc oc oc) Z Z ?_;refine ev ?_;apply sq<;>intro h2 h2p h2s<;>(try simp only[Q] at h2p);refine rq ?_;rotate_left;refine rq ?_;rotate_left;all_goals (refine xam D.i ?_;omega)
theorem ziN {l:List Data}{left:Int} (hs:WSmall l) (k0:0<=left) (k1:left<=1000000000000):FnD Tryz.prog 27 [.d (zae l),.d (.i left)] [] (.d (.i (szr left (ziU l)))) []:=by
 have h:=hs.len;have z:=zaN (left:=left) (ziU l);simp only[ziU] at z ⊢;refine bd Tryz.f27 27 [] [] fun _ _ _ _ hk=>?_;refine ar ?_;apply sq<;>intro h1 h1p h1s<;>(try simp only[Q] at h1p);refine rq ?_;rotate_left;refine xaz (ι:=List (Data)×List (Data)×(Int)) hk (fun x=>[(5,.d (.i (x.1.length:Int))),(1,.d (.i x.2.2))]) [4,12,13,14,15,16,17,18,19,20,21,22,23,24,25] (fun x=>[]) (fun x=>x.1++x.2.1=l/\x.2.2=left-l.length-(x.1.map zd6).sum/\0<=x.2.2) (fun x=>x.2.1.length) ([],l,left-l.length) ⟨by simp,by simp,by simp at *;omega⟩ ⟨⟨_,Z,xaL ?_⟩,⟨⟨_,Z,xaL ?_⟩,O⟩⟩ O (fun x=>rfl) (fun x hg1=>?_);iterate 2 focus (first|rfl|(simp;done))
 obtain⟨pre,rest,v⟩:=x;dsimp only at hg1 ⊢;refine evc [] [] ?_;apply sq<;>intro h2 h2p h2s<;>(try simp only[Q] at h2p);rcases rest with _|⟨y,rest⟩
 ·exfalso;simp_all
 refine ixq sl51 Z Z Z (zaE hg1.1) Z (ev (wc zpS (zjC (hs.data y (by rw[<-hg1.1];simp)).1 (hs.cs (d:=y) (by rw[<-hg1.1];simp)) oc oc) Z Z ?_));refine ev ?_;apply sq<;>intro h3 h3p h3s<;>(try simp only[Q] at h3p);refine rq ?_;rotate_left;refine ar (xaj ((pre++[y],rest,szr v (zd6 y))) ⟨⟨(by have hz:=hg1.1;rw[<-hz];simp),(by have e:=zbp (f:=zd6) hg1.1;have z3:=zaN (left:=v) (zd6 y);simp only[Data.eta] at *;simp;omega)⟩,oe,sx ⟨⟨_,Z,xaL ?_⟩,⟨⟨_,Z,xaL ?_⟩,O⟩⟩ O⟩);iterate 2 focus (first|rfl|(simp;done))
 have hrest:rest=[]:=by
  rcases rest with _|⟨a,b⟩
  ·rfl
  ·exfalso;have hz:=xam List.length (hg1.1);simp only[xaa,xab,xac] at hz;omega
 subst hrest;refine rq ?_;rotate_left;all_goals (refine xam D.i ?_;first|omega|(have e:=zbp (f:=zd6) hg1.1;have z3:=zaN (left:=v) (zd6 y);simp only[Data.eta] at *;omega)|(rw[xaq] at hg1;rw[hg1.1] at hg1;omega))
theorem zju {α:Type} [Inhabited α]{l m:List α} (h:l.length=m.length) (h2:∀i,i<l.length->nth l i=nth m i):l=m:=by
 refine List.ext_getElem h (fun i h3 h4=>?_);have:=h2 i h3;simpa [nth,List.getD,h3,h4] using this
theorem zdR {a b a' b':Int}:FnD Tryz.prog 248 [.agg [.d (.i a),.d (.i b)],.agg [.d (.i a'),.d (.i b')]] [] (.d (.bool (decide ((⟨a,b⟩:Ty)=⟨a',b'⟩)))) []:=by
 refine bd Tryz.f248 15 [] [] fun _ _ _ _ hk=>?_;refine bx 3002 ?_;refine bx 3003 ?_;refine ev ?_;apply sq<;>intro h1 h1p h1s<;>(try simp only[Q] at h1p);focus (refine rq ?_;all_goals (refine xam D.bool ?_;simp[h1s,h1p]))
 apply sq<;>intro h2 h2p h2s<;>(try simp only[Q] at h2p);focus (refine rq ?_;all_goals (refine xam D.bool ?_;simp[h1s,h1p,h2s,h2p]))
 focus (refine rq ?_;all_goals (refine xam D.bool ?_;simp[h1s,h1p,h2s,h2p]))
theorem ziL {l m:List Ty} (h:l.length<=1000000000000):FnD Tryz.prog 292 [.d (zaR l),.d (zaR m)] [] (.d (.bool (decide (l=m)))) []:=by
 refine bd Tryz.f292 27 [] [] fun _ _ _ _ hk=>?_;apply sq<;>intro h1 h1p h1s<;>(try simp only[Q,xal] at h1p);refine rq ?_;rotate_left;refine xaz (ι:=Nat) hk (fun i=>[(5,.d (.i (i:Int)))]) [4,11,12,13,14,15,16,17,18,19,20,21,22,23,24,25,26] (fun i=>[]) (fun i=>i<=l.length/\∀i',i'<i->nth l i'=nth m i') (fun i=>l.length-i) 0 ⟨by omega,fun _ h=>absurd h oc⟩ ⟨⟨_,Z,xaL ?_⟩,O⟩ O (fun x=>rfl) (fun i hg1=>?_);focus (first|rfl|(simp;done)|(simp_all;done)|omega)
 refine evc [] [] ?_;apply sq<;>intro h2 h2p h2s<;>(try simp only[Q,xal] at h2p);refine ixq zau Z Z Z (zaf oc) Z ?_;refine evd [] [] (ixq zau Z Z Z (zaf oc) Z ?_);refine evd [] [] (wc zkQ zdR Z Z ?_);refine evd [] [] (dr ?_);apply sq<;>intro h3 h3p h3s<;>(try simp only[Q,xal] at h3p);refine rq ?_;rotate_left;refine ar (xaj (i+1) ⟨⟨by omega,zaw hg1.2 (by simp only[Ty.eta] at *;assumption)⟩,oc,sx ⟨⟨_,Z,xaL ?_⟩,O⟩ O⟩);focus (first|rfl|(simp;done)|(simp_all;done)|omega)
 refine rq ?_;rotate_left;all_goals (refine xam D.bool ?_;first|(refine(xaw (fun e=>?_)).symm;subst e;omega)|(refine(xaw (fun e=>?_)).symm;subst e;simp_all;done)|(refine(xax (zju oc (fun x hx=>hg1.2 x oc))).symm))
theorem zjy {s s':Str}{l l':List Ty}{k k':Int} (h:l.length<=1000000000000):FnD Tryz.prog 251 [.agg [.d (.str s),.d (zaR l),.d (.i k)],.agg [.d (.str s'),.d (zaR l'),.d (.i k')]] [] (.d (.bool (decide ((⟨s,l,k⟩:Ctor)=⟨s',l',k'⟩)))) []:=by
 refine bd Tryz.f251 21 [] [] fun _ _ _ _ hk=>?_;refine bx 3002 ?_;refine bx 3003 ?_;refine ev ?_;apply sq<;>intro h1 h1p h1s<;>(try simp only[Q] at h1p);focus (refine rq ?_;all_goals (refine xam D.bool ?_;simp[h1s,h1p]))
 refine wc zpe (ziL h) Z Z ?_;refine ev ?_;apply sq<;>intro h2 h2p h2s<;>(try simp only[Q] at h2p);focus (refine rq ?_;all_goals (refine xam D.bool ?_;simp[h1s,h1p,h2s,h2p]))
 apply sq<;>intro h3 h3p h3s<;>(try simp only[Q] at h3p);focus (refine rq ?_;all_goals (refine xam D.bool ?_;simp[h1s,h1p,h2s,h2p,h3s,h3p]))
 focus (refine rq ?_;all_goals (refine xam D.bool ?_;simp[h1s,h1p,h2s,h2p,h3s,h3p]))
theorem ziH {l m:List Ctor} (hs:CSmall l):FnD Tryz.prog 177 [.d (zbK l),.d (zbK m)] [] (.d (.bool (decide (l=m)))) []:=by
 have h:=hs.len;refine bd Tryz.f177 27 [] [] fun _ _ _ _ hk=>?_;apply sq<;>intro h1 h1p h1s<;>(try simp only[Q,xal] at h1p);refine rq ?_;rotate_left;refine xaz (ι:=Nat) hk (fun i=>[(5,.d (.i (i:Int)))]) [4,11,12,13,14,15,16,17,18,19,20,21,22,23,24,25,26] (fun i=>[]) (fun i=>i<=l.length/\∀i',i'<i->nth l i'=nth m i') (fun i=>l.length-i) 0 ⟨by omega,fun _ h=>absurd h oc⟩ ⟨⟨_,Z,xaL ?_⟩,O⟩ O (fun x=>rfl) (fun i hg1=>?_);focus (first|rfl|(simp;done)|(simp_all;done)|omega)
 refine evc [] [] ?_;apply sq<;>intro h2 h2p h2s<;>(try simp only[Q,xal] at h2p);refine ixq zbr Z Z Z (zaf oc) Z ?_;refine evd [] [] (ixq zbr Z Z Z (zaf oc) Z ?_);refine evd [] [] (wc zoZ (zjy (hs.ctor _ (zad (i:=i) oc)).2) Z Z ?_);refine evd [] [] (dr ?_);apply sq<;>intro h3 h3p h3s<;>(try simp only[Q,xal] at h3p);refine rq ?_;rotate_left;refine ar (xaj (i+1) ⟨⟨by omega,zaw hg1.2 (by simp only[xaB] at *;assumption)⟩,oc,sx ⟨⟨_,Z,xaL ?_⟩,O⟩ O⟩);focus (first|rfl|(simp;done)|(simp_all;done)|omega)
 refine rq ?_;rotate_left;all_goals (refine xam D.bool ?_;first|(refine(xaw (fun e=>?_)).symm;subst e;omega)|(refine(xaw (fun e=>?_)).symm;subst e;simp_all;done)|(refine(xax (zju oc (fun x hx=>hg1.2 x oc))).symm))
theorem zjz {s s':Str}{l l':List Ctor} (h:CSmall l):FnD Tryz.prog 90 [.agg [.d (.str s),.d (zbK l)],.agg [.d (.str s'),.d (zbK l')]] [] (.d (.bool (decide ((⟨s,l⟩:Data)=⟨s',l'⟩)))) []:=by
 refine bd Tryz.f90 16 [] [] fun _ _ _ _ hk=>?_;refine bx 3002 ?_;refine bx 3003 ?_;refine ev ?_;apply sq<;>intro h1 h1p h1s<;>(try simp only[Q] at h1p);focus (refine rq ?_;all_goals (refine xam D.bool ?_;simp[h1s,h1p]))
 refine wc zoE (ziH h) Z Z ?_;refine ev ?_;apply sq<;>intro h2 h2p h2s<;>(try simp only[Q] at h2p);focus (refine rq ?_;all_goals (refine xam D.bool ?_;simp[h1s,h1p,h2s,h2p]))
 focus (refine rq ?_;all_goals (refine xam D.bool ?_;simp[h1s,h1p,h2s,h2p]))
theorem ziI {l m:List Data} (hs:WSmall l):FnD Tryz.prog 30 [.d (zae l),.d (zae m)] [] (.d (.bool (decide (l=m)))) []:=by
 have h:=hs.len;refine bd Tryz.f30 27 [] [] fun _ _ _ _ hk=>?_;apply sq<;>intro h1 h1p h1s<;>(try simp only[Q,xal] at h1p);refine rq ?_;rotate_left;refine xaz (ι:=Nat) hk (fun i=>[(5,.d (.i (i:Int)))]) [4,11,12,13,14,15,16,17,18,19,20,21,22,23,24,25,26] (fun i=>[]) (fun i=>i<=l.length/\∀i',i'<i->nth l i'=nth m i') (fun i=>l.length-i) 0 ⟨by omega,fun _ h=>absurd h oc⟩ ⟨⟨_,Z,xaL ?_⟩,O⟩ O (fun x=>rfl) (fun i hg1=>?_);focus (first|rfl|(simp;done)|(simp_all;done)|omega)
 refine evc [] [] ?_;apply sq<;>intro h2 h2p h2s<;>(try simp only[Q,xal] at h2p);refine ixq sl23 Z Z Z (zaf oc) Z ?_;refine evd [] [] (ixq sl23 Z Z Z (zaf oc) Z ?_);refine evd [] [] (wc zpV (zjz (hs.cs (zad (i:=i) oc))) Z Z ?_);refine evd [] [] (dr ?_);apply sq<;>intro h3 h3p h3s<;>(try simp only[Q,xal] at h3p);refine rq ?_;rotate_left;refine ar (xaj (i+1) ⟨⟨by omega,zaw hg1.2 (by simp only[Data.eta] at *;assumption)⟩,oc,sx ⟨⟨_,Z,xaL ?_⟩,O⟩ O⟩);focus (first|rfl|(simp;done)|(simp_all;done)|omega)
 refine rq ?_;rotate_left;all_goals (refine xam D.bool ?_;first|(refine(xaw (fun e=>?_)).symm;subst e;omega)|(refine(xaw (fun e=>?_)).symm;subst e;simp_all;done)|(refine(xax (zju oc (fun x hx=>hg1.2 x oc))).symm))
def fits (c:Ctor) (k:Int):Bool:=decide (k=0)||(decide (c.index=0)||decide (c.index=k))
def zaC (k:Int):Nat->List Ctor->List Int
 |_,[]=>[]
 |i,c::r=>if fits c k then (i:Int)::zaC k (i+1) r else zaC k (i+1) r
def zbZ (k:Int) (t:Ty):Ty:=if t.index = -1 then ⟨t.data,k⟩ else t
def zbQ (c:Ctor) (k:Int):Int:=if c.index=0 then k else c.index
theorem zgb (k:Int):∀(l:List Ctor) (i:Nat),(zaC k i l).length<=l.length
 | [],_=>by simp[zaC]
 |c::r,i=>by
  have:=zgb k r (i+1);unfold zaC;split<;>simp<;>omega
theorem zgn {w:List Data}{k:Int}:FnD Tryz.prog 236 [.d (zae w),.agg [.d (.i (-1)),.d (.i k)]] [] (.d (zcr [])) []:=by
 refine bd Tryz.f236 44 [5] [] fun _ _ _ _ hk=>?_;refine bx 3003 ?_;refine evs [5] [] (xa7 1 1 .none Z Z ?_);apply tv;apply sq<;>intro h1 h1p h1s<;>(try simp only[Q] at h1p);exact absurd h1 oe

 focus (refine rn0 (r1 Z) (.gld ?_);all_goals (rfl))
theorem ziB {w:List Data}{d:Nat}{k:Int} (hs:WSmall w) (hd:d<w.length):FnD Tryz.prog 236 [.d (zae w),.agg [.d (.i d),.d (.i k)]] [] (.d (zcr (zaC k 0 (nth w d).ctors))) []:=by
 have hb:=hs.ctors d;refine bd Tryz.f236 44 [5] [] fun _ _ _ _ hk=>?_;refine bx 3003 ?_;refine evs [5] [] (xa7 1 1 .none Z Z ?_);apply tv;apply sq<;>intro h1 h1p h1s<;>(try simp only[Q] at h1p);refine ixq sl23 Z Z Z (zaf hd) Z (evs [5] [] (xaz (ι:=List (Ctor)×List (Ctor)×(List Int)) hk (fun x=>[(18,.d (.i (x.1.length:Int))),(5,.gl 1 (x.2.2.map fun n=>[D.i n]))]) [6,7,19,20,21,22,23,24,25,26,27,28,29,30,31,32,33,34,35,36,37,38,39,40,41,42] (fun x=>[(1,some (.tok ((x.2.2.map fun n=>[D.i n])).length 1))]) (fun x=>x.1++x.2.1=(nth w d).ctors/\x.2.2++zaC k x.1.length x.2.1=zaC k 0 (nth w d).ctors/\x.2.2.length<=x.1.length) (fun x=>x.2.1.length) ([],(nth w d).ctors,[]) ⟨by simp,by simp,by simp⟩ ⟨⟨_,Z,xaL ?_⟩,⟨⟨_,Z,LeA.glg ?_⟩,O⟩⟩ ⟨zai ?_,O⟩ (fun x=>rfl) (fun x hg1=>?_)));iterate 3 focus (rfl)
 obtain⟨pre,rest,acc⟩:=x;dsimp only at hg1 ⊢;refine evc [5] [] ?_;apply sq<;>intro h2 h2p h2s<;>(try simp only[Q] at h2p);rcases rest with _|⟨y,rest⟩
 ·exfalso;simp_all
 refine ixq zbr Z Z Z (zaE hg1.1) Z (evs [5] [] (ab 3007 zf8 ?_));refine evs [5] [] (so zf7 ?_);apply tv;apply sq<;>intro h3 h3p h3s<;>(try simp only[Q] at h3p);refine sqT ?_;refine sqT ?_;refine si [0] [_] zdg tz3 ?_;refine ap zdg zz3 Z Z Z oe (by have hl:=hg1.2.2;simp;omega) ?_;refine asg ?_;apply tv;refine ar (xaj ((pre++[y],rest,if fits y k then acc++[(pre.length:Int)] else acc)) ⟨⟨(by have hz:=hg1.1;rw[<-hz];simp),⟨by rw[<-hg1.2.1];by_cases hf:fits y k=true<;>simp[zaC,hf],by split<;>simp<;>omega⟩⟩,oe,sx ⟨⟨_,Z,xaL ?_⟩,⟨⟨_,Z,LeA.glg ?_⟩,O⟩⟩ ⟨zai ?_,O⟩⟩);iterate 3 focus ((simp[fits,h1s,h1p,h2s,h2p,h3s,h3p];done))
 apply sq<;>intro h5 h5p h5s<;>(try simp only[Q] at h5p);refine sqT ?_;refine si [0] [_] zdg tz3 ?_;refine ap zdg zz3 Z Z Z oe (by have hl:=hg1.2.2;simp;omega) ?_;refine asg ?_;apply tv;refine ar (xaj ((pre++[y],rest,if fits y k then acc++[(pre.length:Int)] else acc)) ⟨⟨(by have hz:=hg1.1;rw[<-hz];simp),⟨by rw[<-hg1.2.1];by_cases hf:fits y k=true<;>simp[zaC,hf],by split<;>simp<;>omega⟩⟩,oe,sx ⟨⟨_,Z,xaL ?_⟩,⟨⟨_,Z,LeA.glg ?_⟩,O⟩⟩ ⟨zai ?_,O⟩⟩);iterate 3 focus ((simp[fits,h1s,h1p,h2s,h2p,h3s,h3p,h5s,h5p];done))
 apply sq<;>intro h7 h7p h7s<;>(try simp only[Q] at h7p);refine si [0] [_] zdg tz3 ?_;refine ap zdg zz3 Z Z Z oe (by have hl:=hg1.2.2;simp;omega) ?_;refine asg ?_;apply tv;refine ar (xaj ((pre++[y],rest,if fits y k then acc++[(pre.length:Int)] else acc)) ⟨⟨(by have hz:=hg1.1;rw[<-hz];simp),⟨by rw[<-hg1.2.1];by_cases hf:fits y k=true<;>simp[zaC,hf],by split<;>simp<;>omega⟩⟩,oe,sx ⟨⟨_,Z,xaL ?_⟩,⟨⟨_,Z,LeA.glg ?_⟩,O⟩⟩ ⟨zai ?_,O⟩⟩);iterate 3 focus ((simp[fits,h1s,h1p,h2s,h2p,h3s,h3p,h5s,h5p,h7s,h7p];done))
 refine ar (xaj ((pre++[y],rest,if fits y k then acc++[(pre.length:Int)] else acc)) ⟨⟨(by have hz:=hg1.1;rw[<-hz];simp),⟨by rw[<-hg1.2.1];by_cases hf:fits y k=true<;>simp[zaC,hf],by split<;>simp<;>omega⟩⟩,oe,sx ⟨⟨_,Z,xaL ?_⟩,⟨⟨_,Z,LeA.glg ?_⟩,O⟩⟩ ⟨zai ?_,O⟩⟩);iterate 3 focus ((simp[fits,h1s,h1p,h2s,h2p,h3s,h3p,h5s,h5p,h7s,h7p];done))
 have hrest:rest=[]:=by
  rcases rest with _|⟨a,b⟩
  ·rfl
  ·exfalso;have hz:=xam List.length (hg1.1);simp only[xaa,xab,xac] at hz;omega
 subst hrest;refine rn0 (r1 Z) (.gld ?_);rotate_left;exfalso;simp at h1<;>omega;all_goals (have e:=hg1.2.1;simp only[zaC,xaq] at e;rw[e])
theorem zjN {s:Str}{l:List Ty}{i k:Int}:FnD Tryz.prog 287 [.agg [.d (.str s),.d (zaR l),.d (.i i)],.d (.i k)] [] (.d (.bool (fits ⟨s,l,i⟩ k))) []:=by
 refine bd Tryz.f287 18 [] [] fun _ _ _ _ hk=>?_;refine bx 3002 ?_;refine ev ?_;apply sq<;>intro h1 h1p h1s<;>(try simp only[Q] at h1p);refine sqT ?_;focus (refine rq ?_;all_goals (refine xam D.bool ?_;simp[fits,h1s,h1p]))
 apply sq<;>intro h2 h2p h2s<;>(try simp only[Q] at h2p);focus (refine rq ?_;all_goals (refine xam D.bool ?_;simp[fits,h1s,h1p,h2s,h2p]))
 focus (refine rq ?_;all_goals (refine xam D.bool ?_;simp[fits,h1s,h1p,h2s,h2p]))
theorem zgq {w:List Data}{k:Int}:FnD Tryz.prog 243 [.d (zae w),.agg [.d (.i (-1)),.d (.i k)]] [] (.d (zcr [])) []:=by
 refine bd Tryz.f243 40 [] [] fun _ _ _ _ hk=>?_;refine bx 3003 ?_;refine ev (xbv 1 zdg .none Z Z (ev ?_));apply sq<;>intro h1 h1p h1s<;>(try simp only[Q] at h1p)

 focus (refine rn0 (r1 Z) (.gld ?_);all_goals (rfl))
 exact absurd h1 oe
theorem zjc {w:List Data}{d:Nat}{k:Int} (hs:WSmall w) (hd:d<w.length):FnD Tryz.prog 243 [.d (zae w),.agg [.d (.i d),.d (.i k)]] [] (.d (zcr (zaC k 0 (nth w d).ctors))) []:=by
 have hb:=hs.ctors d;refine bd Tryz.f243 40 [] [] fun _ _ _ _ hk=>?_;refine bx 3003 ?_;refine ev (xbv 1 zdg .none Z Z (ev ?_));apply sq<;>intro h1 h1p h1s<;>(try simp only[Q] at h1p);exfalso;simp at h1<;>omega;refine xaz (ι:=List (Ctor)×List (Ctor)×(List Int)) hk (fun x=>[(6,.d (.i (x.1.length:Int))),(5,.gl 1 (x.2.2.map fun n=>[D.i n]))]) [12,13,14,15,16,17,18,19,20,21,22,23,24,25,26,27,28,29,30,31,32,33,34,35,36,37,38] (fun x=>[(1,some (.tok ((x.2.2.map fun n=>[D.i n])).length 1))]) (fun x=>x.1++x.2.1=(nth w d).ctors/\x.2.2++zaC k x.1.length x.2.1=zaC k 0 (nth w d).ctors/\x.2.2.length<=x.1.length) (fun x=>x.2.1.length) ([],(nth w d).ctors,[]) ⟨by simp,by simp,by simp⟩ ⟨⟨_,Z,xaL ?_⟩,⟨⟨_,Z,LeA.glg ?_⟩,O⟩⟩ ⟨zai ?_,O⟩ (fun x=>rfl) (fun x hg1=>?_);iterate 3 focus (rfl)
 obtain⟨pre,rest,acc⟩:=x;dsimp only at hg1 ⊢;refine evc [] [] (ixq sl23 Z Z Z (zaf hd) Z (ev ?_));apply sq<;>intro h2 h2p h2s<;>(try simp only[Q] at h2p);rcases rest with _|⟨y,rest⟩
 ·exfalso;simp_all
 refine ixq sl23 Z Z Z (zaf hd) Z (evd [] [] (ixq zbr Z Z Z (zaE hg1.1) Z (evd [] [] (wc zpa zjN Z Z ?_))));refine dr ?_;apply sq<;>intro h3 h3p h3s<;>(try simp only[Q] at h3p);refine si [0] [_] zdg tz3 ?_;refine ap zdg zz3 Z Z Z oe (by have hl:=hg1.2.2;simp;omega) ?_;refine ev (ar (xaj ((pre++[y],rest,if fits y k then acc++[(pre.length:Int)] else acc)) ⟨⟨(by have hz:=hg1.1;rw[<-hz];simp),⟨by rw[<-hg1.2.1];by_cases hf:fits y k=true<;>simp[zaC,hf],by split<;>simp<;>omega⟩⟩,oe,sx ⟨⟨_,Z,xaL ?_⟩,⟨⟨_,Z,LeA.glg ?_⟩,O⟩⟩ ⟨zai ?_,O⟩⟩));iterate 3 focus ((simp[xaB,h1s,h1p,h2s,h2p,h3s,h3p];done))
 refine ar (xaj ((pre++[y],rest,if fits y k then acc++[(pre.length:Int)] else acc)) ⟨⟨(by have hz:=hg1.1;rw[<-hz];simp),⟨by rw[<-hg1.2.1];by_cases hf:fits y k=true<;>simp[zaC,hf],by split<;>simp<;>omega⟩⟩,oe,sx ⟨⟨_,Z,xaL ?_⟩,⟨⟨_,Z,LeA.glg ?_⟩,O⟩⟩ ⟨zai ?_,O⟩⟩);iterate 3 focus ((simp[xaB,h1s,h1p,h2s,h2p,h3s,h3p];done))
 have hrest:rest=[]:=by
  rcases rest with _|⟨a,b⟩
  ·rfl
  ·exfalso;have hz:=xam List.length (hg1.1);simp only[xaa,xab,xac] at hz;omega
 subst hrest;refine rn0 (r1 Z) (.gld ?_);rotate_left;all_goals (have e:=hg1.2.1;simp only[zaC,xaq] at e;rw[e])
theorem zia {s:Str}{l:List Ty}{i k:Int}:FnD Tryz.prog 239 [.agg [.d (.str s),.d (zaR l),.d (.i i)],.d (.i k)] [] (.d (.i (zbQ ⟨s,l,i⟩ k))) []:=by
 refine bd Tryz.f239 11 [] [] fun _ _ _ _ hk=>?_;refine bx 3002 ?_;refine ev ?_;apply sq<;>intro h1 h1p h1s<;>(try simp only[Q] at h1p);focus (refine rq ?_;all_goals (refine xam D.i ?_;simp[zbQ,h1s,h1p]))
 focus (refine rq ?_;all_goals (refine xam D.i ?_;simp[zbQ,h1s,h1p]))
theorem zhQ {w:List Data}{d c:Nat}{k:Int} (hs:WSmall w) (hd:d<w.length) (hc:c<(nth w d).ctors.length):FnD Tryz.prog 237 [.d (zae w),.agg [.d (.i d),.d (.i k)],.d (.i c)] [] (.d (zaR ((nth (nth w d).ctors c).args.map (zbZ (zbQ (nth (nth w d).ctors c) k))))) []:=by
 have hb:=(hs.ctor _ (zad hd) _ (zad hc)).2;refine bd Tryz.f237 45 [9] [] fun _ _ _ _ hk=>?_;refine bx 3004 ?_;refine evs [9] [] (ixq sl23 Z Z Z (zaf hd) Z (evs [9] [] (ixq zbr Z Z Z (zaf hc) Z (evs [9] [] (ab 3007 zf8 ?_)))));refine so zf7 ?_;apply tv;apply sq<;>intro h1 h1p h1s<;>(try simp only[Q] at h1p);refine xa7 1 2 .none Z Z ?_;apply tv;refine xaz (ι:=List (Ty)×List (Ty)) hk (fun x=>[(30,.d (.i (x.1.length:Int))),(9,.gl 1 ((x.1.map (zbZ (zbQ (nth (nth w d).ctors c) k))).map Ty.c))]) [11,31,32,33,34,35,36,37,38,39,40,41,42,43] (fun x=>[(1,some (.tok (((x.1.map (zbZ (zbQ (nth (nth w d).ctors c) k))).map Ty.c)).length 2))]) (fun x=>x.1++x.2=(nth (nth w d).ctors c).args) (fun x=>x.2.length) ([],(nth (nth w d).ctors c).args) oe ⟨⟨_,Z,xaL ?_⟩,⟨⟨_,Z,LeA.glg ?_⟩,O⟩⟩ ⟨zai ?_,O⟩ (fun x=>rfl) (fun x hg1=>?_);iterate 3 focus (rfl)
 obtain⟨pre,rest⟩:=x;dsimp only at hg1 ⊢;refine evc [9] [] ?_;apply sq<;>intro h2 h2p h2s<;>(try simp only[Q] at h2p);rcases rest with _|⟨y,rest⟩
 ·exfalso;simp_all
 refine ixq zau Z Z Z (zaE hg1) Z (evs [9] [] (ab 3011 tz38 ?_));refine so ty38 ?_;apply tv;apply sq<;>intro h3 h3p h3s<;>(try simp only[Q] at h3p);refine so ty3 ?_;apply tv;refine si [0] [_] zau tz38 ?_;refine ap zau zz38 Z Z Z oe (by have hl:=xam List.length hg1;simp at hl;simp;omega) ?_;refine asg ?_;apply tv;refine ar (xaj ((pre++[y],rest)) ⟨(by have hz:=hg1;rw[<-hz];simp),oe,sx ⟨⟨_,Z,xaL ?_⟩,⟨⟨_,Z,LeA.glg ?_⟩,O⟩⟩ ⟨zai ?_,O⟩⟩);iterate 3 focus ((simp[zbZ,zbQ,h1s,h1p,h2s,h2p,h3s,h3p];done))
 refine si [0] [_] zau tz38 ?_;refine ap zau zz38 Z Z Z oe (by have hl:=xam List.length hg1;simp at hl;simp;omega) ?_;refine asg ?_;apply tv;refine ar (xaj ((pre++[y],rest)) ⟨(by have hz:=hg1;rw[<-hz];simp),oe,sx ⟨⟨_,Z,xaL ?_⟩,⟨⟨_,Z,LeA.glg ?_⟩,O⟩⟩ ⟨zai ?_,O⟩⟩);iterate 3 focus ((simp[zbZ,zbQ,h1s,h1p,h2s,h2p,h3s,h3p];done))
 have hrest:rest=[]:=by
  rcases rest with _|⟨a,b⟩
  ·rfl
  ·exfalso;have hz:=xam List.length (hg1);simp only[xaa,xab,xac] at hz;omega
 subst hrest;focus (refine rn0 (r1 Z) (.gld ?_);all_goals (simp[<-hg1,zbQ,h1s,h1p,h2s,h2p]))
 refine xa7 1 2 .none Z Z ?_;apply tv;refine xaz (ι:=List (Ty)×List (Ty)) hk (fun x=>[(30,.d (.i (x.1.length:Int))),(9,.gl 1 ((x.1.map (zbZ (zbQ (nth (nth w d).ctors c) k))).map Ty.c))]) [11,31,32,33,34,35,36,37,38,39,40,41,42,43] (fun x=>[(1,some (.tok (((x.1.map (zbZ (zbQ (nth (nth w d).ctors c) k))).map Ty.c)).length 2))]) (fun x=>x.1++x.2=(nth (nth w d).ctors c).args) (fun x=>x.2.length) ([],(nth (nth w d).ctors c).args) oe ⟨⟨_,Z,xaL ?_⟩,⟨⟨_,Z,LeA.glg ?_⟩,O⟩⟩ ⟨zai ?_,O⟩ (fun x=>rfl) (fun x hg1=>?_);iterate 3 focus (rfl)
 obtain⟨pre,rest⟩:=x;dsimp only at hg1 ⊢;refine evc [9] [] ?_;apply sq<;>intro h4 h4p h4s<;>(try simp only[Q] at h4p);rcases rest with _|⟨y,rest⟩
 ·exfalso;simp_all
 refine ixq zau Z Z Z (zaE hg1) Z (evs [9] [] (ab 3011 tz38 ?_));refine so ty38 ?_;apply tv;apply sq<;>intro h5 h5p h5s<;>(try simp only[Q] at h5p);refine so ty3 ?_;apply tv;refine si [0] [_] zau tz38 ?_;refine ap zau zz38 Z Z Z oe (by have hl:=xam List.length hg1;simp at hl;simp;omega) ?_;refine asg ?_;apply tv;refine ar (xaj ((pre++[y],rest)) ⟨(by have hz:=hg1;rw[<-hz];simp),oe,sx ⟨⟨_,Z,xaL ?_⟩,⟨⟨_,Z,LeA.glg ?_⟩,O⟩⟩ ⟨zai ?_,O⟩⟩);iterate 3 focus ((simp[zbZ,zbQ,h1s,h1p,h4s,h4p,h5s,h5p];done))
 refine si [0] [_] zau tz38 ?_;refine ap zau zz38 Z Z Z oe (by have hl:=xam List.length hg1;simp at hl;simp;omega) ?_;refine asg ?_;apply tv;refine ar (xaj ((pre++[y],rest)) ⟨(by have hz:=hg1;rw[<-hz];simp),oe,sx ⟨⟨_,Z,xaL ?_⟩,⟨⟨_,Z,LeA.glg ?_⟩,O⟩⟩ ⟨zai ?_,O⟩⟩);iterate 3 focus ((simp[zbZ,zbQ,h1s,h1p,h4s,h4p,h5s,h5p];done))
 have hrest:rest=[]:=by
  rcases rest with _|⟨a,b⟩
  ·rfl
  ·exfalso;have hz:=xam List.length (hg1);simp only[xaa,xab,xac] at hz;omega
 subst hrest;focus (refine rn0 (r1 Z) (.gld ?_);all_goals (simp[<-hg1,zbQ,h1s,h1p,h4s,h4p]))
theorem zjJ {w:List Data}{d c:Nat}{k:Int} (hs:WSmall w) (hd:d<w.length) (hc:c<(nth w d).ctors.length):FnD Tryz.prog 159 [.d (zae w),.agg [.d (.i d),.d (.i k)],.d (.i c)] [] (.d (zaR ((nth (nth w d).ctors c).args.map (zbZ (zbQ (nth (nth w d).ctors c) k))))) []:=by
 have hb:=(hs.ctor _ (zad hd) _ (zad hc)).2;refine bd Tryz.f159 46 [] [] fun _ _ _ _ hk=>?_;refine bx 3004 ?_;refine ev (xbv 1 zau .none Z Z (ev (ixq sl23 Z Z Z (zaf hd) Z (ev (ixq zbr Z Z Z (zaf hc) Z (ev (ab 3008 zf8 ?_)))))));refine so zf7 ?_;apply tv;refine xaz (ι:=List (Ty)×List (Ty)) hk (fun x=>[(9,.d (.i (x.1.length:Int))),(7,.gl 1 ((x.1.map (zbZ (zbQ (nth (nth w d).ctors c) k))).map Ty.c))]) [10,21,22,23,24,25,26,27,28,29,30,31,32,33,34,35,36,37,38,39,40,41,42,43,44] (fun x=>[(1,some (.tok (((x.1.map (zbZ (zbQ (nth (nth w d).ctors c) k))).map Ty.c)).length 2))]) (fun x=>x.1++x.2=(nth (nth w d).ctors c).args) (fun x=>x.2.length) ([],(nth (nth w d).ctors c).args) oe ⟨⟨_,Z,xaL ?_⟩,⟨⟨_,Z,LeA.glg ?_⟩,O⟩⟩ ⟨zai ?_,O⟩ (fun x=>rfl) (fun x hg1=>?_);iterate 3 focus (rfl)
 obtain⟨pre,rest⟩:=x;dsimp only at hg1 ⊢;refine evc [] [] ?_;apply sq<;>intro h1 h1p h1s<;>(try simp only[Q] at h1p);rcases rest with _|⟨y,rest⟩
 ·exfalso;simp_all
 refine ixq zau Z Z Z (zaE hg1) Z (ev (ab 3010 tz38 ?_));refine so ty38 ?_;apply tv;apply sq<;>intro h2 h2p h2s<;>(try simp only[Q] at h2p);refine wc zoU zia Z Z ?_;refine ev (so ty3 ?_);apply tv;refine si [0] [_] zau tz38 ?_;refine ap zau zz38 Z Z Z oe (by have hl:=xam List.length hg1;simp at hl;simp;omega) ?_;refine ev (ar (xaj ((pre++[y],rest)) ⟨(by have hz:=hg1;rw[<-hz];simp),oe,sx ⟨⟨_,Z,xaL ?_⟩,⟨⟨_,Z,LeA.glg ?_⟩,O⟩⟩ ⟨zai ?_,O⟩⟩));iterate 3 focus ((simp[zbZ,xaB,h1s,h1p,h2s,h2p];done))
 refine si [0] [_] zau tz38 ?_;refine ap zau zz38 Z Z Z oe (by have hl:=xam List.length hg1;simp at hl;simp;omega) ?_;refine ev (ar (xaj ((pre++[y],rest)) ⟨(by have hz:=hg1;rw[<-hz];simp),oe,sx ⟨⟨_,Z,xaL ?_⟩,⟨⟨_,Z,LeA.glg ?_⟩,O⟩⟩ ⟨zai ?_,O⟩⟩));iterate 3 focus ((simp[zbZ,xaB,h1s,h1p,h2s,h2p];done))
 have hrest:rest=[]:=by
  rcases rest with _|⟨a,b⟩
  ·rfl
  ·exfalso;have hz:=xam List.length (hg1);simp only[xaa,xab,xac] at hz;omega
 subst hrest;focus (refine rn0 (r1 Z) (.gld ?_);all_goals (simp[<-hg1,zbQ,h1s,h1p]))
mutual
def zmk:Val->Val->Bool
 | .mk a n ks,.mk b m ls=>decide (a=b)&&(decide (n=m)&&zjl ks ls)
def zjl:List Val->List Val->Bool
 | [],[]=>true
 |x::r,y::s=>zmk x y&&zjl r s
 |_,_=>false
end
mutual
def Val.ok:Val->Prop
 | .mk _ _ ks=>ks.length<=1000000000000/\Vals.ok ks
def Vals.ok:List Val->Prop
 | []=>True
 |v::r=>v.ok/\Vals.ok r
end
theorem Vals.ok_mem:∀ {l:List Val},Vals.ok l->∀v,v∈l->v.ok
 |x::r,h,v,hv=>by
  simp only[Vals.ok] at h;rcases List.mem_cons.1 hv with rfl|hv
  ·exact h.1
  ·exact Vals.ok_mem h.2 v hv
mutual
def Val.size:Val->Nat
 | .mk _ _ ks=>1+Vals.size ks
def Vals.size:List Val->Nat
 | []=>0
 |v::r=>v.size+Vals.size r
end
theorem Vals.size_mem:∀ {l:List Val}{v:Val},v∈l->v.size<=Vals.size l
 |x::r,v,hv=>by
  simp only[Vals.size];rcases List.mem_cons.1 hv with rfl|hv
  ·omega
  ·have:=Vals.size_mem hv;omega
theorem Val.ok_iff (v:Val):v.ok↔v.kids.length<=1000000000000/\Vals.ok v.kids:=by cases v;rfl
theorem Val.size_eq (v:Val):v.size=1+Vals.size v.kids:=by cases v;rfl
theorem zg6 {w:List Data}{a b:Int}:FnD Tryz.prog 142 [.d (zae w),.agg [.d (.i a),.d (.i b)]] [] (.d (.bool (za9 w.length ⟨a,b⟩&&decide (0<=b)))) []:=by
 refine bd Tryz.f142 14 [] [] fun _ _ _ _ hk=>?_;refine bx 3003 ?_;refine ev (wc zmC zgj Z Z ?_);refine ev ?_;apply sq<;>intro h1 h1p h1s<;>(try simp only[Q] at h1p);focus (refine rq ?_;all_goals ((simp[h1s,h1p];done)))
 focus (refine rq ?_;all_goals ((simp[h1s,h1p];done)))
theorem zhC {w:List Data}{a b:Int} (hs:WSmall w):FnD Tryz.prog 102 [.d (zae w),.agg [.d (.i a),.d (.i b)]] [] (.d (.bool (zaP w&&(za9 w.length ⟨a,b⟩&&decide (0<=b))))) []:=by
 refine bd Tryz.f102 12 [] [] fun _ _ _ _ hk=>?_;refine bx 3003 ?_;refine ev (wc znM (zeg hs) Z Z ?_);refine ev ?_;apply sq<;>intro h1 h1p h1s<;>(try simp only[Q] at h1p);refine Walk.call (cr:=[]) zkL zg6 Z (.some Z Z h1) Z Z (LeL.refl _) O Z Z Z (evs [] [(7,true)] ?_ ⟨⟨_,Z,h1⟩,O⟩);focus (refine rq ?_;all_goals ((simp[h1s,h1p];done)))
 focus (refine rq ?_;all_goals ((simp[h1s,h1p];done)))
def TyIn (n:Nat) (t:Ty):Prop:=t.data = -1\/∃d:Nat,t.data=d/\d<n
structure WT (w:List Data):Prop where
 small:WSmall w
 arg:∀d∈w,∀c∈d.ctors,∀t∈c.args,TyIn w.length t
def zan (w:List Data) (t:Ty) (c:Int):List Ty:=
 let x:=nth (nth w t.data.toNat).ctors c.toNat
 x.args.map (zbZ (zbQ x t.index))
def zcF (w:List Data) (t:Ty):List Int:=zaC t.index 0 (nth w t.data.toNat).ctors
def cap (x:Int):Int:=if 401<x then 401 else x
theorem zmL {x:Int} (h:0<=x):0<=cap x/\cap x<=401:=by unfold cap;split<;>omega
theorem zgc (k:Int):∀(l:List Ctor) (i:Nat) (c:Int),c∈zaC k i l->∃j:Nat,c=(j:Int)/\i<=j/\j<i+l.length
 | [],i,c,h=>by simp[zaC] at h
 |x::r,i,c,h=>by
  unfold zaC at h;have go:c∈zaC k (i+1) r->∃j:Nat,c=(j:Int)/\i<=j/\j<i+(x::r).length:=fun h=>by
   obtain⟨j,h1,h2,h3⟩:=zgc k r (i+1) c h;exact⟨j,h1,by omega,by simp;omega⟩
  split at h
  ·rcases List.mem_cons.1 h with h|h
   ·exact⟨i,h,by omega,by simp⟩
   ·exact go h
  ·exact go h
theorem znm {n:Nat}{k:Int}{t:Ty} (h:TyIn n t):TyIn n (zbZ k t):=by
 unfold zbZ;split
 ·exact h
 ·exact h
def PlaceIn (w:List Data) (d:Nat) (c:Int):Prop:=∃j:Nat,c=j/\j<(nth w d).ctors.length
theorem zny {w:List Data}{d:Nat}{k c:Int} (h:c∈zcF w ⟨d,k⟩):PlaceIn w d c:=by
 obtain⟨j,h1,_,h3⟩:=zgc _ _ _ _ h;exact⟨j,h1,by simpa using h3⟩
theorem zjR {w:List Data} (hw:WT w){d:Nat} (hd:d<w.length){k c:Int} (hc:PlaceIn w d c){t:Ty} (ht:t∈zan w ⟨d,k⟩ c):TyIn w.length t:=by
 obtain⟨j,rfl,hj⟩:=hc;simp only[zan,Int.toNat_natCast,List.mem_map] at ht;obtain⟨x,hx,rfl⟩:=ht;exact znm (hw.arg _ (zad hd) _ (zad hj) x hx)
theorem zie {w:List Data} (hw:WT w){d:Nat} (hd:d<w.length){k c:Int} (hc:PlaceIn w d c):(zan w ⟨d,k⟩ c).length<=1000000000000:=by
 obtain⟨j,rfl,hj⟩:=hc;simp only[zan,Int.toNat_natCast,xac];exact(hw.small.ctor _ (zad hd) _ (zad hj)).2
theorem zlz {w:List Data} (hw:WT w){d:Nat}{k:Int}:(zcF w ⟨d,k⟩).length<=1000000000000:=by
 have:=zgb k (nth w d).ctors 0;have:=hw.small.ctors d;simp only[zcF,Int.toNat_natCast];omega
theorem zhR {w:List Data} (hw:WT w){d:Nat} (hd:d<w.length){k c:Int} (hc:PlaceIn w d c):FnD Tryz.prog 237 [.d (zae w),.agg [.d (.i d),.d (.i k)],.d (.i c)] [] (.d (zaR (zan w ⟨d,k⟩ c))) []:=by
 obtain⟨j,rfl,hj⟩:=hc;exact zhQ hw.small hd hj
theorem ziC {w:List Data} (hw:WT w){d:Nat} (hd:d<w.length){k:Int}:FnD Tryz.prog 236 [.d (zae w),.agg [.d (.i d),.d (.i k)]] [] (.d (zcr (zcF w ⟨d,k⟩))) []:=ziB hw.small hd
theorem zjK {w:List Data} (hw:WT w){d:Nat} (hd:d<w.length){k c:Int} (hc:PlaceIn w d c):FnD Tryz.prog 159 [.d (zae w),.agg [.d (.i d),.d (.i k)],.d (.i c)] [] (.d (zaR (zan w ⟨d,k⟩ c))) []:=by
 obtain⟨j,rfl,hj⟩:=hc;exact zjJ hw.small hd hj
theorem zjd {w:List Data} (hw:WT w){d:Nat} (hd:d<w.length){k:Int}:FnD Tryz.prog 243 [.d (zae w),.agg [.d (.i d),.d (.i k)]] [] (.d (zcr (zcF w ⟨d,k⟩))) []:=zjc hw.small hd
def zcx (w:List Data):List Str:=w.flatMap fun d=>d.ctors.map (·.name)
structure WV (w:List Data):Prop where
 len:w.length<=4
 data:∀d∈w,zaK d.name=true/\1<=d.ctors.length/\d.ctors.length<=4
 ctor:∀d∈w,∀c∈d.ctors,za4 w.length c=true
 names:(w.map (·.name)).Nodup
 cnames:(zcx w).Nodup
theorem zfo (n:Nat):∀(l:List Ctor) (met met':List Str),zb1 n met l=some met'↔met'=met++l.map (·.name)/\(∀c∈l,za4 n c=true)/\(l.map (·.name)).Nodup/\∀c∈l,c.name∉met
 | [],met,met'=>by
  unfold zb1;simp only[xae,List.map_nil,xaq];exact⟨fun h=>⟨h.symm,by simp,by simp,by simp⟩,fun h=>h.1.symm⟩
 |c::r,met,met'=>by
  unfold zb1;by_cases h:(za4 n c&& !decide (c.name∈met))=true
  ·rw[if_pos h,zfo n r];simp only[xad,Bool.not_eq_true',decide_eq_false_iff_not] at h;obtain⟨h1,h2⟩:=h;constructor
   ·rintro ⟨rfl,q1,q2,q3⟩
    refine⟨by simp,fun x hx=>?_, ?_,fun x hx=>?_⟩
    ·rcases List.mem_cons.1 hx with rfl|hx
     ·exact h1
     ·exact q1 x hx
    ·simp only[xaf,List.nodup_cons];refine⟨fun hm=>?_,q2⟩;obtain⟨x,hx,he⟩:=List.mem_map.1 hm;exact q3 x hx (by rw[he];simp)
    ·rcases List.mem_cons.1 hx with rfl|hx
     ·exact h2
     ·intro hm;exact q3 x hx (by simp[hm])
   ·rintro ⟨rfl,q1,q2,q3⟩
    simp only[xaf,List.nodup_cons] at q2;refine⟨by simp,fun x hx=>q1 x (List.mem_cons_of_mem _ hx),q2.2,fun x hx hm=>?_⟩;simp only[List.mem_append,List.mem_singleton] at hm;rcases hm with hm|hm
    ·exact q3 x (List.mem_cons_of_mem _ hx) hm
    ·exact q2.1 (hm ▸ List.mem_map.2 ⟨x,hx,Z⟩)
  ·rw[if_neg h];constructor
   ·intro h';cases h'
   ·rintro ⟨_,q1,_,q3⟩
    exfalso;apply h;simp[q1 c oe,q3 c oe]
theorem zfp (n:Nat):∀(l:List Data) (met datas:List Str),za0 n met datas l=true↔
  (∀d∈l,zaK d.name=true/\1<=d.ctors.length/\d.ctors.length<=4)/\(∀d∈l,∀c∈d.ctors,za4 n c=true)/\(l.map (·.name)).Nodup/\(∀d∈l,d.name∉datas)/\
   (zcx l).Nodup/\∀s∈zcx l,s∉met
 | [],met,datas=>by simp[za0,zcx]
 |d::r,met,datas=>by
  have hcn:zcx (d::r)=d.ctors.map (·.name)++zcx r:=rfl;have hw:zac d.ctors.length 1 4=true↔1<=d.ctors.length/\d.ctors.length<=4:=by simp[zac];omega
  unfold za0;simp only[xad,Bool.not_eq_true',decide_eq_false_iff_not,hw];constructor
  ·rintro ⟨⟨⟨h1,h2⟩,h3⟩,h4⟩
   split at h4
   ·rename_i met' hm;obtain⟨rfl,c1,c2,c3⟩:=(zfo n _ _ _).1 hm;obtain⟨q1,q2,q3,q4,q5,q6⟩:=(zfp n r _ _).1 h4;refine⟨fun x hx=>?_,fun x hx=>?_, ?_,fun x hx=>?_, ?_,fun s hs=>?_⟩
    ·rcases List.mem_cons.1 hx with rfl|hx
     ·exact⟨h1,h3⟩
     ·exact q1 x hx
    ·rcases List.mem_cons.1 hx with rfl|hx
     ·exact c1
     ·exact q2 x hx
    ·simp only[xaf,List.nodup_cons];refine⟨fun hm=>?_,q3⟩;obtain⟨x,hx,he⟩:=List.mem_map.1 hm;exact q4 x hx (by rw[he];simp)
    ·rcases List.mem_cons.1 hx with rfl|hx
     ·exact h2
     ·intro hm;exact q4 x hx (by simp[hm])
    ·rw[hcn,List.nodup_append];refine⟨c2,q5,fun a ha b hb he=>?_⟩;subst he;exact q6 a hb (by simp only[List.mem_append];exact .inr ha)
    ·rw[hcn] at hs;rcases List.mem_append.1 hs with hs|hs
     ·obtain⟨c,hc,rfl⟩:=List.mem_map.1 hs;exact c3 c hc
     ·intro hm;exact q6 s hs (by simp[hm])
   ·cases h4
  ·rintro ⟨q1,q2,q3,q4,q5,q6⟩
   rw[hcn] at q5 q6;rw[List.nodup_append] at q5;simp only[xaf,List.nodup_cons] at q3;have hd:=q1 d oe;have hm:zb1 n met d.ctors=some (met++d.ctors.map (·.name)):=(zfo n _ _ _).2 ⟨rfl,q2 d oe,q5.1,fun c hc=>q6 _ (List.mem_append.2 (.inl (List.mem_map.2 ⟨c,hc,rfl⟩)))⟩;refine⟨⟨⟨hd.1,q4 d oe⟩,hd.2⟩, ?_⟩;rw[hm];refine(zfp n r _ _).2 ⟨fun x hx=>q1 x (List.mem_cons_of_mem _ hx),fun x hx=>q2 x (List.mem_cons_of_mem _ hx),q3.2,fun x hx hmem=>?_,q5.2.1,fun s hs hmem=>?_⟩
   ·simp only[List.mem_append,List.mem_singleton] at hmem;rcases hmem with hmem|hmem
    ·exact q4 x (List.mem_cons_of_mem _ hx) hmem
    ·exact q3.1 (hmem ▸ List.mem_map.2 ⟨x,hx,Z⟩)
   ·rcases List.mem_append.1 hmem with hmem|hmem
    ·exact q6 s (List.mem_append.2 (.inr hs)) hmem
    ·exact q5.2.2 s hmem s hs Z
theorem zdb (w:List Data):zaM w=true↔WV w:=by
 unfold zaM;rw[xad,zfp];constructor
 ·rintro ⟨h1,q1,q2,q3,_,q5,_⟩
  exact⟨by have:=xas h1;omega,q1,q2,q3,q5⟩
 ·rintro ⟨h1,q1,q2,q3,q5⟩
  exact⟨xax oc,q1,q2,q3,by simp,q5,by simp⟩
theorem zkt {l:List Str}:l.Nodup↔∀i j,i<j->j<l.length->nth l i≠nth l j:=by
 unfold List.Nodup;rw[List.pairwise_iff_getElem];constructor
 ·intro h i j hij hj;have:=h i j oc hj hij;simpa [nth,List.getD,hj,(by omega:i<l.length)] using this
 ·intro h i j hi hj hij;have:=h i j hij hj;simpa [nth,List.getD,hj,hi] using this
theorem zaB {α:Type} [Inhabited α]{l:List α}{i:Nat} (h:i<l.length):nth l i=l[i]:=by simp[nth,List.getD,h]
theorem zis (w:List Data):(zcx w).Nodup↔(∀d,d<w.length->∀j k,j<k->k<(nth w d).ctors.length->(nth (nth w d).ctors j).name≠(nth (nth w d).ctors k).name)/\
  ∀i d,i<d->d<w.length->∀j k,j<(nth w i).ctors.length->k<(nth w d).ctors.length->(nth (nth w i).ctors j).name≠(nth (nth w d).ctors k).name:=by
 unfold zcx List.Nodup;rw[List.pairwise_flatMap];constructor
 ·rintro ⟨h1,h2⟩
  refine⟨fun d hd j k hjk hk=>?_,fun i d hid hd j k hj hk=>?_⟩
  ·have:=h1 (nth w d) (zad hd);rw[List.pairwise_iff_getElem] at this;have:=this j k oj (by simpa using hk) hjk;simpa [zaB hk,zaB (show j<(nth w d).ctors.length by omega)] using this
  ·rw[List.pairwise_iff_getElem] at h2;have:=h2 i d oc hd hid;rw[<-zaB hd,<-zaB (show i<w.length by omega)] at this;exact this _ (List.mem_map.2 ⟨_,zad hj,Z⟩) _ (List.mem_map.2 ⟨_,zad hk,Z⟩)
 ·rintro ⟨h1,h2⟩
  refine⟨fun x hx=>?_, ?_⟩
  ·obtain⟨d,hd,rfl⟩:=List.getElem_of_mem hx;rw[List.pairwise_iff_getElem];intro j k hj hk hjk;have hk':k<(nth w d).ctors.length:=by rw[zaB hd];simpa using hk
   have:=h1 d hd j k hjk hk';rw[zaB hk',zaB (show j<(nth w d).ctors.length by omega)] at this;simp only[zaB hd] at this;simpa using this
  ·rw[List.pairwise_iff_getElem];intro i d hi hd hid x hx y hy;obtain⟨a,ha,rfl⟩:=List.mem_map.1 hx;obtain⟨b,hb,rfl⟩:=List.mem_map.1 hy;obtain⟨j,hj,rfl⟩:=List.getElem_of_mem ha;obtain⟨k,hk,rfl⟩:=List.getElem_of_mem hb;have hj':j<(nth w i).ctors.length:=by rw[zaB hi];exact hj
   have hk':k<(nth w d).ctors.length:=by rw[zaB hd];exact hk
   have:=h2 i d hid hd j k hj' hk';rw[zaB hj',zaB hk'] at this;simpa only[zaB hi,zaB hd] using this
theorem zj5 (w:List Data):(w.map (·.name)).Nodup↔∀i d,i<d->d<w.length->(nth w i).name≠(nth w d).name:=by
 rw[zkt];have e:∀i,i<w.length->nth (w.map (·.name)) i=(nth w i).name:=fun i hi=>by simp[nth,List.getD,hi]
 constructor
 ·intro h i d hid hd;have:=h i d hid (by simpa using hd);rwa [e i oc,e d hd] at this
 ·intro h i d hid hd;have hd':d<w.length:=by simpa using hd
  rw[e i oc,e d hd'];exact h i d hid hd'
theorem zkg (w:List Data) (d k:Nat):zji w d k=false↔(∀i,i<d->(nth w i).name≠(nth w d).name)/\
  ∀i j,i<=d->j<(nth w i).ctors.length->(i<d\/j<k)->k<(nth w d).ctors.length->(nth (nth w i).ctors j).name≠(nth (nth w d).ctors k).name:=by
 unfold zji;rw[List.any_eq_false];constructor
 ·intro h;refine⟨fun i hi he=>?_,fun i j hi hj hij hk he=>?_⟩
  ·apply h i (List.mem_range.2 oc);unfold zck;simp[hi,he]
  ·apply h i (List.mem_range.2 oc);unfold zck;rw[zbV hj (by unfold za7;simp[hk,he];omega)];simp
 ·rintro ⟨h1,h2⟩ i hi
  have hi':=List.mem_range.1 hi;unfold zck;simp only[Bool.or_eq_true,xad,xah,not_or,not_and];refine⟨fun hid=>h1 i hid, ?_⟩;rw[zdt (fun j hj=>?_)]
  ·simp
  ·unfold za7;cases hc:((decide (i<d)||decide (j<k))&&(decide (k<(nth w d).ctors.length)&&decide ((nth (nth w i).ctors j).name=(nth (nth w d).ctors k).name))) with
   |false=>rfl
   |true=>
    simp only[xad,Bool.or_eq_true,xah] at hc;exact absurd hc.2.2 (h2 i j oc hj hc.1 hc.2.1)
theorem zg4 (w:List Data):zaP w=true↔WV w:=by
 unfold zaP;rw[xad,xah,List.all_eq_true];have hs:∀d,zbv w d=true↔zaK (nth w d).name=true/\1<=(nth w d).ctors.length/\(nth w d).ctors.length<=4/\∀k,k<(nth w d).ctors.length->za4 w.length (nth (nth w d).ctors k)=true/\zji w d k=false:=fun d=>by
  unfold zbv;simp only[xad,xah,List.all_eq_true,List.mem_range,zcY,Bool.not_eq_true']
 constructor
 ·rintro ⟨h1,h2⟩
  have h3:∀d,d<w.length->_:=fun d hd=>(hs d).1 (h2 d (List.mem_range.2 hd));have h4:∀d,d<w.length->∀k,k<(nth w d).ctors.length->_:=fun d hd k hk=>(zkg w d k).1 ((h3 d hd).2.2.2 k hk).2;refine⟨h1,fun d hd=>?_,fun d hd c hc=>?_,(zj5 w).2 (fun i d hid hd=>?_),(zis w).2 ⟨fun d hd j k hjk hk=>?_,fun i d hid hd j k hj hk=>?_⟩⟩
  ·obtain⟨i,hi,rfl⟩:=List.getElem_of_mem hd;have:=h3 i hi;rw[zaB hi] at this;exact⟨this.1,this.2.1,this.2.2.1⟩
  ·obtain⟨i,hi,rfl⟩:=List.getElem_of_mem hd;obtain⟨k,hk,rfl⟩:=List.getElem_of_mem hc;have hk':k<(nth w i).ctors.length:=by rw[zaB hi];exact hk
   have:=((h3 i hi).2.2.2 k hk').1;rw[zaB hk'] at this;simpa only[zaB hi] using this
  ·exact(h4 d hd 0 (by have:=(h3 d hd).2.1;omega)).1 i hid
  ·exact(h4 d hd k hk).2 d j (Nat.le_refl _) oc (.inr hjk) hk
  ·exact(h4 d hd k hk).2 i j oc hj (.inl hid) hk
 ·intro h;refine⟨h.len,fun d hd=>?_⟩;have hd':=List.mem_range.1 hd;have hm:=zad hd';have hn:=(zj5 w).1 h.names;have hc:=(zis w).1 h.cnames;refine(hs d).2 ⟨(h.data _ hm).1,(h.data _ hm).2.1,(h.data _ hm).2.2,fun k hk=>⟨h.ctor _ hm _ (zad hk),(zkg w d k).2 ⟨fun i hi=>hn i d hi hd',fun i j hi hj hij hk'=>?_⟩⟩⟩;by_cases hid:i<d
  ·exact hc.2 i d hid hd' j k hj hk'
  ·have:i=d:=by omega
   subst this;exact hc.1 i hd' j k oc hk'
theorem zer (w:List Data):zaP w=zaM w:=by
 rw[xat,zg4,zdb]
theorem znl {n:Nat}{t:Ty} (h:za9 n t=true):TyIn n t:=by
 unfold za9 at h;simp only[Bool.or_eq_true,xad,xah,zac] at h;rcases h with h|h
 ·exact .inl h.1
 ·exact .inr ⟨t.data.toNat,by omega,by omega⟩
theorem zfi {n:Nat}{t:Ty} (h:zaI n t=true):TyIn n t:=by
 unfold zaI at h;simp only[Bool.or_eq_true,xad,xah,zac] at h;rcases h with h|h
 ·exact .inl h.1
 ·exact .inr ⟨t.data.toNat,by omega,by omega⟩
theorem WV.wt {w:List Data} (hs:WSmall w) (h:WV w):WT w:=⟨hs,fun d hd c hc t ht=>by
 have:=h.ctor d hd c hc;unfold za4 at this;simp only[xad,Bool.not_eq_true',List.any_eq_false,Bool.not_eq_true,Bool.not_eq_false] at this;exact znl (by have:=this.2.2.2 t ht;simpa using this)⟩
theorem zoh (w:List Data) (t:Ty):(zaP w&&(za9 w.length t&&decide (0<=t.index)))=zbe w t:=by
 rw[zer];unfold zbe;congr 1
 rw[xat];unfold za9 zaI zac;simp;omega
theorem zbh {α:Type} [Inhabited α]{l:List α}{i:Nat} (h:i<l.length):l.drop i=nth l i::l.drop (i+1):=by
 rw[zaB h];exact List.drop_eq_getElem_cons h
def all2 {α β:Type} (f:α->β->Bool):List α->List β->Bool
 | [],[]=>true
 |a::r,b::s=>f a b&&all2 f r s
 |_,_=>false
theorem zdi {α β:Type}{f:α->β->Bool}:∀ {a:List α}{b:List β},a.length≠b.length->all2 f a b=false
 | [],[],h=>by simp at h
 | [],_::_,_=>rfl
 |_::_,[],_=>rfl
 |x::r,y::s,h=>by simp[all2,zdi (a:=r) (b:=s) (by simpa using h)]
theorem za8 {α β:Type} [Inhabited α] [Inhabited β]{f:α->β->Bool}{a:List α}{b:List β}{i:Nat} (h:i<a.length) (hl:a.length=b.length) (h2:f (nth a i) (nth b i)=false):all2 f a b=false:=by
 induction i generalizing a b with
 |zero=>
  cases a with
  |nil=>simp at h
  |cons x r=>
   cases b with
   |nil=>simp[all2]
   |cons y s=>simp[nth] at h2;simp[all2,h2]
 |succ i ih=>
  cases a with
  |nil=>simp at h
  |cons x r=>
   cases b with
   |nil=>simp[all2]
   |cons y s=>simp only[all2];rw[ih (a:=r) (b:=s) (by simpa using h) (by simpa using hl) (by simpa [nth] using h2)];simp
theorem zbJ {α β:Type} [Inhabited α] [Inhabited β]{f:α->β->Bool}{a:List α}{b:List β} (hl:a.length=b.length) (h:∀i,i<a.length->f (nth a i) (nth b i)=true):all2 f a b=true:=by
 induction a generalizing b with
 |nil=>cases b with
  |nil=>simp[all2]
  |cons y s=>simp at hl
 |cons x r ih=>cases b with
  |nil=>simp at hl
  |cons y s=>
   have h0:=h 0 oe;simp only[all2];rw[ih (by simpa using hl) (fun i hi=>by simpa [nth] using h (i+1) (by simpa using hi))];simpa [nth] using h0
def idxI (l:List Int) (v:Int):Int:=idxF (fun x=>decide (v=x)) l 0
theorem zgp {l:List Int}{v:Int} (h:l.length<=1000000000000):FnD Tryz.prog 284 [.d (zcr l),.d (.i v)] [] (.d (.i (idxI l v))) []:=by
 refine bd Tryz.f284 19 [] [] fun _ _ _ _ hk=>?_;refine xaz (ι:=List (Int)×List (Int)) hk (fun x=>[(8,.d (.i (x.1.length:Int)))]) [4,5,9,10,11,12,13,14,15,16,17,18] (fun x=>[]) (fun x=>x.1++x.2=l/\idxF (fun x=>decide (v=x)) x.2 x.1.length=idxF (fun x=>decide (v=x)) l 0) (fun x=>x.2.length) ([],l) ⟨by simp,Z⟩ ⟨⟨_,Z,xaL ?_⟩,O⟩ O (fun x=>rfl) (fun x hg1=>?_);focus (first|rfl|(simp;done)|(simp_all;done)|omega)
 obtain⟨pre,rest⟩:=x;dsimp only at hg1 ⊢;refine evc [] [] ?_;apply sq<;>intro h1 h1p h1s<;>(try simp only[Q] at h1p);rcases rest with _|⟨y,rest⟩
 ·exfalso;simp_all
 refine ixq zdg Z Z Z (zaE hg1.1) Z (ev ?_);apply sq<;>intro h2 h2p h2s<;>(try simp only[Q] at h2p);focus (refine rq ?_;all_goals (unfold idxI;rw[<-hg1.2];simp[idxF,h1s,h1p,h2s,h2p]))
 refine ar (xaj ((pre++[y],rest)) ⟨⟨(by have hz:=hg1.1;rw[<-hz];simp),(by rw[<-hg1.2];simp[idxF,h2p])⟩,oe,sx ⟨⟨_,Z,xaL ?_⟩,O⟩ O⟩);focus (first|rfl|(simp;done)|(simp_all;done)|omega)
 have hrest:rest=[]:=by
  rcases rest with _|⟨a,b⟩
  ·rfl
  ·exfalso;have hz:=xam List.length (hg1.1);simp only[xaa,xab,xac] at hz;omega
 subst hrest;focus (refine rq ?_;all_goals (unfold idxI;rw[<-hg1.2];simp[idxF,h1s,h1p]))
theorem zbA {l:List Int}{v:Int} (h:l.length<=1000000000000):FnD Tryz.prog 235 [.d (zcr l),.d (.i v)] [] (.d (.bool (decide (v∈l)))) []:=by
 refine bd Tryz.f235 9 [] [] fun _ _ _ _ hk=>?_;refine wc zo9 (zgp h) Z Z ?_;refine ev (rq ?_);rotate_left;all_goals (refine xam D.bool ?_;rw[show idxI l v=idxF (fun x=>decide (v=x)) l 0 from rfl,zdj];simp[List.any_eq,eq_comm])
theorem zb3 {l:List Int}{v:Int} (h:l.length<=1000000000000):FnD Tryz.prog 286 [.d (zcr l),.d (.i v)] [] (.d (.bool (decide (v∈l)))) []:=by
 refine bd Tryz.f286 18 [] [] fun _ _ _ _ hk=>?_;refine xaz (ι:=List (Int)×List (Int)) hk (fun x=>[(5,.d (.i (x.1.length:Int)))]) [4,6,7,8,9,10,11,12,13,14,15,16,17] (fun x=>[]) (fun x=>x.1++x.2=l/\v∉x.1) (fun x=>x.2.length) ([],l) ⟨by simp,by simp⟩ ⟨⟨_,Z,xaL ?_⟩,O⟩ O (fun x=>rfl) (fun x hg1=>?_);focus (first|rfl|(simp;done)|(simp_all;done)|omega)
 obtain⟨pre,rest⟩:=x;dsimp only at hg1 ⊢;refine evc [] [] ?_;apply sq<;>intro h1 h1p h1s<;>(try simp only[Q] at h1p);rcases rest with _|⟨y,rest⟩
 ·exfalso;simp_all
 refine ixq zdg Z Z Z (zaE hg1.1) Z (ev ?_);apply sq<;>intro h2 h2p h2s<;>(try simp only[Q] at h2p);focus (refine rq ?_;all_goals (refine xam D.bool ?_;first|(symm;rw[xah,<-hg1.1];simp[h1s,h1p,h2s,h2p];done)|(symm;rw[decide_eq_false_iff_not,<-hg1.1];intro hm;simp at hm;exact absurd hm (by simpa using hg1.2))))
 refine ar (xaj ((pre++[y],rest)) ⟨⟨(by have hz:=hg1.1;rw[<-hz];simp),(by have:=hg1.2;simp[this,eq_comm];omega)⟩,oe,sx ⟨⟨_,Z,xaL ?_⟩,O⟩ O⟩);focus (first|rfl|(simp;done)|(simp_all;done)|omega)
 have hrest:rest=[]:=by
  rcases rest with _|⟨a,b⟩
  ·rfl
  ·exfalso;have hz:=xam List.length (hg1.1);simp only[xaa,xab,xac] at hz;omega
 subst hrest;focus (refine rq ?_;all_goals (refine xam D.bool ?_;first|(symm;rw[xah,<-hg1.1];simp[h1s,h1p];done)|(symm;rw[decide_eq_false_iff_not,<-hg1.1];intro hm;simp at hm;exact absurd hm (by simpa using hg1.2))))
def zps (s:Str):Prop:=2<s.length/\nth s (s.length-2)=58
instance (s:Str):Decidable (zps s):=inferInstanceAs (Decidable (_/\_))
def decV (n:Int):Str:=strN [IntKind.u8.wrap (48+n)]
theorem za5 (n:Int):(decV n).length=1:=rfl
def zcC (n:Int):Str:=if n=0 then [] else if n = -1 then [42] else decV n
theorem ziG (n:Int):(zcC n).length<=1:=by unfold zcC;split;simp;split;simp;rw[za5];omega
def zbF (w:List Data) (t:Ty):Str:=if t.data = -1 then [73] else (nth w t.data.toNat).name++zcC t.index
structure TB (w:List Data):Prop where
 len:w.length<=4
 dn:∀d∈w,d.name.length<=1/\d.ctors.length<=4
 cn:∀d∈w,∀c∈d.ctors,c.name.length<=5/\c.args.length<=3/\0<=c.index/\c.index<=3
 ar:∀d∈w,∀c∈d.ctors,∀t∈c.args,(t.data = -1\/(0<=t.data/\t.data.toNat<w.length))/\ -1<=t.index/\t.index<=3
theorem zlu {w:List Data} (hv:zaM w=true):TB w:=by
 have hW:=(zdb w).1 hv;refine⟨hW.len,fun d hd=>?_,fun d hd c hc=>?_,fun d hd c hc t ht=>?_⟩
 ·have h:=hW.data d hd;have h1:=h.1;simp only[zaK,xad,xah] at h1;omega
 ·have h:=hW.ctor d hd c hc;simp only[za4,zca,zac,xad,xah] at h;omega
 ·have h:=hW.ctor d hd c hc;simp only[za4,xad,Bool.not_eq_true',List.any_eq_false] at h;have hax:za9 w.length t=true:=by
   have:=h.2.2.2 t ht;cases h:za9 w.length t with
   |true=>rfl
   |false=>rw[h] at this;exact absurd Z this
  simp only[za9,zac,Bool.or_eq_true,xad,xah,and_true] at hax;omega
theorem zeC {w:List Data} (hb:TB w){t:Ty} (ht:t.data = -1\/(0<=t.data/\t.data.toNat<w.length)):(zbF w t).length<=2:=by
 unfold zbF;split
 ·simp
 ·rename_i h;have h1:=(hb.dn _ (zad (l:=w) (i:=t.data.toNat) oc)).1;have h2:=ziG t.index;simp only[xaa];omega
theorem zbj {n:Int} (h0:0<=n) (h9:n<=9):FnD Tryz.prog 157 [.d (.i n)] [] (.d (.str (decV n))) []:=by
 refine bd Tryz.f157 31 [30] [] fun _ _ _ _ hk=>?_;apply sq<;>intro h1 h1p h1s<;>(try simp only[Q] at h1p);exfalso;omega;apply sq<;>intro h2 h2p h2s<;>(try simp only[Q] at h2p);exfalso;omega;refine xaz (ι:=Unit) hk (fun x=>[(0,.d (.i n)),(3,.d (.str []))]) [12,13,14,15,16,17,18,19,20,21,22,23] (fun x=>[]) (fun x=>True) (fun x=>0) () O ⟨⟨_,Z,xaL ?_⟩,⟨⟨_,Z,xaM ?_⟩,O⟩⟩ O (fun x=>rfl) (fun x hg1=>?_);iterate 2 focus (first|rfl|omega)
 refine evc [30] [] ?_;apply sq<;>intro h3 h3p h3s<;>(try simp only[Q] at h3p);exfalso;omega;refine ar (xbf (by rw[un3];rfl) un5 .none Z Z ?_);refine si [0] [_] sl22 tz5 ?_;refine xba sl22 un9 od .none Z Z Z (by first|rfl|exact zfe _) ?_;refine evs [30] [] (xbd .none Z Z Z (by simp[strN]) ?_);refine evs [30] [] (rq ?_);rotate_left;all_goals (rfl)
theorem zje {n:Int} (h0 : -1<=n) (h9:n<=9):FnD Tryz.prog 279 [.d (.i n)] [] (.d (.str (zcC n))) []:=by
 refine bd Tryz.f279 10 [] [] fun _ _ _ _ hk=>?_;apply sq<;>intro h1 h1p h1s<;>(try simp only[Q] at h1p);refine rq ?_;rotate_left;apply sq<;>intro h2 h2p h2s<;>(try simp only[Q] at h2p);refine rq ?_;rotate_left;refine wc zeb (zbj oc oc) Z Z ?_;refine ev (rq ?_);rotate_left;all_goals (refine xam D.str ?_;unfold zcC;first|(rw[if_pos oc];done)|(rw[if_neg oc,if_pos oc];done)|(rw[if_neg oc,if_neg oc];done)|(rw[if_pos oc];rfl))
theorem zfH {w:List Data} (hb:TB w){a k:Int} (ha:a = -1\/(0<=a/\a.toNat<w.length)) (hk : -1<=k/\k<=3):FnD Tryz.prog 225 [.d (zae w),.agg [.d (.i a),.d (.i k)]] [] (.d (.str (zbF w ⟨a,k⟩))) []:=by
 have hl:=ziG k;have hdn:a≠ -1->(nth w a.toNat).name.length<=1:=fun h=>(hb.dn _ (zad (l:=w) (i:=a.toNat) oc)).1;refine bd Tryz.f225 18 [17] [] fun _ _ _ _ hk=>?_;refine bx 3003 ?_;refine evs [17] [] ?_;apply sq<;>intro h1 h1p h1s<;>(try simp only[Q] at h1p);refine rq ?_;rotate_left;refine ixq (i:=a.toNat) sl23 Z Z oc (zaf oc) Z ?_;refine evd [17] [] (wc zo6 (zje oc oc) Z Z ?_);refine xbd .none Z Z Z (by have:=hdn h1p;omega) ?_;refine evd [17] [] (dr (rq ?_));rotate_left;all_goals (refine xam D.str ?_;unfold zbF;first|(rw[if_pos oh];done)|(rw[if_neg oh];done))
def zp1 (n:Nat):UInt8:=UInt8.ofNat (IntKind.u8.wrap (48+(n:Int) % 10)).toNat
def digs (n:Nat):Str:=if n=0 then [] else digs (n / 10)++[zp1 n]
def zlO (n:Nat):Str:=109::digs n
def Ty.one (k:Int) (_:Ty):Ty:=⟨k,k+1⟩
def Ty.sz (_:Ty):Int:=2
def Ctor.one (k:Int) (x:Ctor):Ctor:=⟨zlO k.toNat,mkL Ty.one Ty.sz (k+1) x.args,k+1+szL Ty.sz x.args⟩
def Ctor.sz (x:Ctor):Int:=2+szL Ty.sz x.args
def Data.one (k:Int) (x:Data):Data:=⟨zlO k.toNat,mkL Ctor.one Ctor.sz (k+1) x.ctors⟩
def Data.sz (x:Data):Int:=1+szL Ctor.sz x.ctors
def ren (i j:Nat):AV->AV
 | .ms a n=>if a=i then .ms j n else .ms a n
 |x=>x
def Pat.op:Pat->Int | .mk a0 _ _ _ _ _=>a0
def Pat.ctor:Pat->Int | .mk _ a1 _ _ _ _=>a1
def Pat.n:Pat->Int | .mk _ _ a2 _ _ _=>a2
def Pat.m:Pat->Int | .mk _ _ _ a3 _ _=>a3
def Pat.var:Pat->Int | .mk _ _ _ _ a4 _=>a4
def Pat.kids:Pat->List Pat | .mk _ _ _ _ _ k=>k
abbrev Pat.cc (v:Pat):List D:=[.i v.op,.i v.ctor,.i v.n,.i v.m,.i v.var,.sl (Pat.cs v.kids)]
theorem Pat.c_eq (v:Pat):v.c=v.cc:=by cases v;rfl
theorem Pat.eta (v:Pat):Pat.mk v.op v.ctor v.n v.m v.var v.kids=v:=by cases v;rfl
theorem xaN {pre:List Pat}{x:Pat}{rest xs:List Pat} (h:pre++x::rest=xs):(Pat.cs xs)[pre.length]?=some x.cc:=by rw[xaO,<-Pat.c_eq];exact zaE h
mutual
def zd7:Pat->Pat->Bool
 | .mk a0 a1 a2 a3 a4 ks,.mk b0 b1 b2 b3 b4 ls=>decide (a0=b0)&&(decide (a1=b1)&&(decide (a2=b2)&&(decide (a3=b3)&&(decide (a4=b4)&&zbt ks ls))))
def zbt:List Pat->List Pat->Bool
 | [],[]=>true
 |x::r,y::s=>zd7 x y&&zbt r s
 |_,_=>false
end
mutual
def Pat.ok:Pat->Prop
 | .mk _ _ _ _ _ ks=>ks.length<=1000000000000/\Pats.ok ks
def Pats.ok:List Pat->Prop
 | []=>True
 |v::r=>v.ok/\Pats.ok r
end
theorem xaT:∀ {l:List Pat},Pats.ok l->∀v,v∈l->v.ok
 |x::r,h,v,hv=>by
  simp only[Pats.ok] at h;rcases List.mem_cons.1 hv with rfl|hv
  ·exact h.1
  ·exact xaT h.2 v hv
mutual
def Pat.size:Pat->Nat
 | .mk _ _ _ _ _ ks=>1+Pats.size ks
def Pats.size:List Pat->Nat
 | []=>0
 |v::r=>v.size+Pats.size r
end
theorem xaU:∀ {l:List Pat}{v:Pat},v∈l->v.size<=Pats.size l
 |x::r,v,hv=>by
  simp only[Pats.size];rcases List.mem_cons.1 hv with rfl|hv
  ·omega
  ·have:=xaU hv;omega
theorem zi2:∀ {a b:List Pat},a.length≠b.length->zbt a b=false
 | [],[],h=>by simp at h
 | [],_::_,_=>by simp[zbt]
 |_::_,[],_=>by simp[zbt]
 |x::r,y::s,h=>by simp[zbt,zi2 (a:=r) (b:=s) (by simpa using h)]
theorem zba {l:List Pat}{i:Nat} (h:i<l.length):(Pat.cs l)[i]?=some (nth l i).cc:=by
 rw[xaO,<-Pat.c_eq];exact zaf h
theorem xaR (v:Pat):v.ok↔v.kids.length<=1000000000000/\Pats.ok v.kids:=by cases v;rfl
theorem xaS (v:Pat):v.size=1+Pats.size v.kids:=by cases v;rfl
theorem znx (v w:Pat):zd7 v w=(decide (v.op=w.op)&&(decide (v.ctor=w.ctor)&&(decide (v.n=w.n)&&(decide (v.m=w.m)&&(decide (v.var=w.var)&&zbt v.kids w.kids))))):=by cases v;cases w;rfl
theorem zh3 {a b:List Pat}{i:Nat} (h:i<a.length) (h2:zd7 (nth a i) (nth b i)=false):zbt a b=false:=by
 induction i generalizing a b with
 |zero=>
  cases a with
  |nil=>simp at h
  |cons x r=>
   cases b with
   |nil=>simp[zbt]
   |cons y s=>simp[nth] at h2;simp[zbt,h2]
 |succ i ih=>
  cases a with
  |nil=>simp at h
  |cons x r=>
   cases b with
   |nil=>simp[zbt]
   |cons y s=>simp only[zbt];rw[ih (a:=r) (b:=s) (by simpa using h) (by simpa [nth] using h2)];simp
theorem zi3 {a b:List Pat} (hl:a.length=b.length) (h:∀i,i<a.length->zd7 (nth a i) (nth b i)=true):zbt a b=true:=by
 induction a generalizing b with
 |nil=>cases b with
  |nil=>simp[zbt]
  |cons y s=>simp at hl
 |cons x r ih=>cases b with
  |nil=>simp at hl
  |cons y s=>
   have h0:=h 0 oe;simp only[zbt];rw[ih (by simpa using hl) (fun i hi=>by simpa [nth] using h (i+1) (by simpa using hi))];simpa [nth] using h0
mutual
theorem zi1:∀v:Pat,zd7 v v=true
 | .mk _ _ _ _ _ ks=>by simp[zd7,zhI ks]
theorem zhI:∀l:List Pat,zbt l l=true
 | []=>rfl
 |v::r=>by simp[zbt,zi1 v,zhI r]
end
theorem zgi (m:Bool) (l:List Pat) (y:Pat):zao m (Pat.cs (l++[y]))=zao m (Pat.cs l)++[.d (.i y.op),.d (.i y.ctor),.d (.i y.n),.d (.i y.m),.d (.i y.var),.own m (zal y.kids)]:=by
 rw[xaO,xag,<-xaO,zi0];congr 1
 cases y;rfl
theorem Pat.c_len (v:Pat):v.c.length=6:=by cases v;rfl
theorem xaQ {l:List Pat}:∀x,x∈Pat.cs l->x.length=6:=by
 intro x hx;rw[xaO] at hx;obtain⟨y,_,rfl⟩:=List.mem_map.1 hx;exact y.c_len
theorem zeX (m:Bool) (l:List Pat):(zao m (Pat.cs l)).length=l.length*6:=by
 rw[zct (k:=6) xaQ,xaP]
mutual
def mPat:Pat->Nat
 | .mk _ _ _ _ _ ks=>zdB ks
def zdB:List Pat->Nat
 | []=>0
 |v::r=>1+mPat v+zdB r
end
theorem zoe (v:Pat):mPat v=zdB v.kids:=by cases v;rfl
theorem zle:∀l:List Pat,zdB l=l.length+(l.map mPat).sum
 | []=>rfl
 |v::r=>by simp only[zdB,zle r,xab,xaf,List.sum_cons];omega
theorem zgR {l:List Pat}{left:Int} (h:l.length<=1000000000000) (k0:0<=left) (k1:left<=1000000000000)
  (hf:∀v∈l,∀q:Int,0<=q->q<=1000000000000->FnD Tryz.prog 294 [.agg [.d (.i v.op),.d (.i v.ctor),.d (.i v.n),.d (.i v.m),.d (.i v.var),.d (zal v.kids)],.d (.i q)] [] (.d (.i (szr q (mPat v)))) []):
  FnD Tryz.prog 310 [.d (zal l),.d (.i left)] [] (.d (.i (szr left (zdB l)))) []:=by
 have z:=zaN (left:=left) (zdB l);rw[zle] at z ⊢;refine bd Tryz.f310 27 [] [] fun _ _ _ _ hk=>?_;refine ar ?_ (by first|(constructor<;>omega)|(constructor<;>simp[xaP]<;>omega));apply sq<;>intro h1 h1p h1s<;>(try simp only[Q,xaP] at h1p);refine rq ?_;rotate_left;refine xaz (ι:=List (Pat)×List (Pat)×(Int)) hk (fun x=>[(5,.d (.i (x.1.length:Int))),(1,.d (.i x.2.2))]) [4,12,13,14,15,16,17,18,19,20,21,22,23,24,25] (fun x=>[]) (fun x=>x.1++x.2.1=l/\x.2.2=left-l.length-(x.1.map mPat).sum/\0<=x.2.2) (fun x=>x.2.1.length) ([],l,left-l.length) ⟨by simp,by simp,by simp[xaP] at *;omega⟩ ⟨⟨_,Z,xaL ?_⟩,⟨⟨_,Z,xaL ?_⟩,O⟩⟩ O (fun x=>rfl) (fun x hg1=>?_);iterate 2 focus (first|rfl|(simp;done)|(simp[xaP];done))
 obtain⟨pre,rest,v⟩:=x;dsimp only at hg1 ⊢;refine evc [] [] ?_;apply sq<;>intro h2 h2p h2s<;>(try simp only[Q,xaP] at h2p);rcases rest with _|⟨y,rest⟩
 ·exfalso;simp_all
 refine ixq znU Z Z Z (xaN hg1.1) Z (ev (wc zmJ (hf y (by rw[<-hg1.1];simp) _ oc oc) Z Z ?_));refine ev ?_;apply sq<;>intro h3 h3p h3s<;>(try simp only[Q,xaP] at h3p);refine rq ?_;rotate_left;refine ar ?_ (by first|(constructor<;>omega)|(constructor<;>simp[xaP]<;>omega));refine xaj ((pre++[y],rest,szr v (mPat y))) ⟨⟨(by have hz:=hg1.1;rw[<-hz];simp),(by have e:=zbp (f:=mPat) hg1.1;have z3:=zaN (left:=v) (mPat y);simp;omega)⟩,oe,sx ⟨⟨_,Z,xaL ?_⟩,⟨⟨_,Z,xaL ?_⟩,O⟩⟩ O⟩;iterate 2 focus (first|rfl|(simp;done)|(simp[xaP];done))
 have hrest:rest=[]:=by
  rcases rest with _|⟨a,b⟩
  ·rfl
  ·exfalso;have hz:=xam List.length (hg1.1);simp only[xaa,xab,xac] at hz;omega
 subst hrest;refine rq ?_;rotate_left;all_goals (refine xam D.i ?_;first|omega|(have e:=zbp (f:=mPat) hg1.1;have z3:=zaN (left:=v) (mPat y);simp only[xaP] at *;omega)|(rw[xaq] at hg1;rw[hg1.1] at hg1;simp only[xaP] at *;omega)|(simp only[xaP] at *;omega))
theorem zeo:∀(n:Nat){v:Pat}{left:Int},v.size<=n->v.ok->0<=left->left<=1000000000000->FnD Tryz.prog 294 [.agg [.d (.i v.op),.d (.i v.ctor),.d (.i v.n),.d (.i v.m),.d (.i v.var),.d (zal v.kids)],.d (.i left)] [] (.d (.i (szr left (mPat v)))) []
 |0,v,left,h,_,_,_=>by rw[xaS] at h;omega
 |n+1,v,left,h,hok,k0,k1=>by
  rw[xaS] at h;rw[xaR] at hok;rw[zoe];have z:=zaN (left:=left) (zdB v.kids);refine bd Tryz.f294 12 [] [] fun _ _ _ _ hk=>?_;refine bx 3002 ?_;refine ev (wc zpk (zgR hok.1 k0 k1 (fun x hx q q0 q1=>zeo n (by have:=xaU hx;omega) (xaT hok.2 x hx) q0 q1)) Z Z ?_);refine ev ?_;apply sq<;>intro h1 h1p h1s<;>(try simp only[Q] at h1p);refine rq ?_;rotate_left;refine rq ?_;rotate_left;all_goals (refine xam D.i ?_;omega)
theorem zgS {l:List Pat} (h:l.length<=1000000000000)
  (hf:∀v∈l,FnD Tryz.prog 295 [.agg [.d (.i v.op),.d (.i v.ctor),.d (.i v.n),.d (.i v.m),.d (.i v.var),.d (zal v.kids)]] [] (.agg [.d (.i v.op),.d (.i v.ctor),.d (.i v.n),.d (.i v.m),.d (.i v.var),.ms 66 v.kids.length]) [(66,some (.tree (zao false (Pat.cs v.kids))))]):
  FnD Tryz.prog 311 [.d (zal l)] [] (.ms 66 l.length) [(66,some (.tree (zao false (Pat.cs l))))]:=by
 have hf2:∀v∈l,FnD Tryz.prog 295 [.agg [.d (.i v.op),.d (.i v.ctor),.d (.i v.n),.d (.i v.m),.d (.i v.var),.d (zal v.kids)]] [] (.agg [.d (.i v.op),.d (.i v.ctor),.d (.i v.n),.d (.i v.m),.d (.i v.var),.ms 67 v.kids.length]) [(67,some (.tree (zao false (Pat.cs v.kids))))]:=fun v hv=>FnD.out_ren (zcW _ _) rfl (hf v hv) 67;refine bd Tryz.f311 23 [] [2,4] fun _ _ _ _ hk=>?_;refine xbn (id:=66) sl58 tz60 Z og (zcg Z) .none Z Z Z (by simp[xaP];omega) (by simp[xaP];omega) Z Z Z ?_;refine ev (CWp.boxTree 66 false Z Z (zjp _ _ _) (evc [] [] (xaz (ι:=List (Pat)×List (Pat)) hk (fun x=>[(4,.d (.i (x.1.length:Int)))]) [8,9,10,11,12,13,14,15,16,17,18,19,20,21] (fun x=>[(66,some (.tree (zao false (Pat.cs x.1)++zaD x.2.length [.d (.i 0),.d (.i 0),.d (.i 0),.d (.i 0),.d (.i 0),.own false (.sl [])])))]) (fun x=>x.1++x.2=l) (fun x=>x.2.length) ([],l) oe ⟨⟨_,Z,xaL ?_⟩,O⟩ ⟨?_,O⟩ (fun x=>rfl) (fun x hg1=>?_))));focus (first|rfl|(simp;done)|(simp_all;done)|omega)
 focus (first|rfl|(show some (Res.tree _)=some (Res.tree _);rw[zgi,xar];rfl)|(show some (Res.tree _)=some (Res.tree _);simp[zgW,xaP];rfl))
 obtain⟨pre,rest⟩:=x;dsimp only at hg1 ⊢;refine evc [] [2,4] ?_;apply sq<;>intro h1 h1p h1s<;>(try simp only[Q,xaP] at h1p);rcases rest with _|⟨y,rest⟩
 ·exfalso;simp_all
 refine ixq znU Z Z Z (xaN hg1) Z (ev (Walk.call (cr:=[67]) zmK (hf2 y (by rw[<-hg1];simp)) Z .none Z Z (LeL.refl _) O Z (by first|rfl|(simp only[zbs,List.all_cons,List.all_nil,zhh,zgz,AV.idsL,AV.ids,zci,zcW,xaf,List.map_nil];rfl)) (by first|rfl|(simp only[zbC,occH,occE,Res.ids,xai,List.nil_append,AV.idsL,AV.ids,zci,zcW,zhL,znb,xaf,List.map_nil,upC];rfl)) ?_));refine xbk sl58 .none Z Z Z Z (by first|omega|(simp[xaP];omega)) ?_;refine Walk.storeT ty60 .none Z Z Z Z Z Z oe ((zm8 (zeX false _) Z)) ?_;apply tv;refine CWp.merge hk 66 (pre.length*6+5) 67 6 _ Z (zno (zeX false _) Z) (by simp[zlP,xaP]) Z xaQ Z Z (zlj (zeX false _) (zlk Z)) ?_;refine evc [] [] (ar (xaj ((pre++[y],rest)) ⟨(by have hz:=hg1;rw[<-hz];simp),oe,sx ⟨⟨_,Z,xaL ?_⟩,O⟩ ⟨?_,O⟩⟩));focus (first|rfl|(simp;done)|(simp_all;done)|omega)
 focus (first|rfl|(show some (Res.tree _)=some (Res.tree _);rw[zgi,xar];rfl)|(show some (Res.tree _)=some (Res.tree _);simp[zgW,xaP];rfl))
 have hrest:rest=[]:=by
  rcases rest with _|⟨a,b⟩
  ·rfl
  ·exfalso;have hz:=xam List.length (hg1);simp only[xaa,xab,xac] at hz;omega
 subst hrest;refine rn [(66,some (.tree (zao false (Pat.cs l))))] (r1 Z) (LeA.msn ?_) ⟨Z,Z⟩ (SubH.get ⟨?_,O⟩) (zbk Z);rotate_left 2;all_goals (first|((first|rfl|(simp[xaP];done));done)|(first|rfl|(rw[xaq] at hg1;subst hg1;show some (Res.tree _)=some (Res.tree _);simp[zaD];done)))
theorem zep:∀(n:Nat){v:Pat},v.size<=n->v.ok->FnD Tryz.prog 295 [.agg [.d (.i v.op),.d (.i v.ctor),.d (.i v.n),.d (.i v.m),.d (.i v.var),.d (zal v.kids)]] [] (.agg [.d (.i v.op),.d (.i v.ctor),.d (.i v.n),.d (.i v.m),.d (.i v.var),.ms 66 v.kids.length]) [(66,some (.tree (zao false (Pat.cs v.kids))))]
 |0,v,h,_=>by rw[xaS] at h;omega
 |n+1,v,h,hok=>by
  rw[xaS] at h;rw[xaR] at hok;refine bd Tryz.f295 24 [] [] fun _ _ _ _ hk=>?_;refine bx 3001 ?_;refine ab 3002 tz60 ?_;apply tv;refine ab 3003 tz60 ?_;apply tv;refine so ty3 ?_;apply tv;refine so ty3 ?_;apply tv;refine so ty3 ?_;apply tv;refine so ty3 ?_;apply tv;refine so ty3 ?_;apply tv;refine Walk.call (cr:=[66]) zpl (zgS hok.1 (fun x hx=>zep n (by have:=xaU hx;omega) (xaT hok.2 x hx))) Z .none Z Z (LeL.refl _) O Z (by first|rfl|(simp only[zbs,List.all_cons,List.all_nil,zhh,zgz,AV.idsL,AV.ids,zci,zcW,xaf,List.map_nil];rfl)) (by first|rfl|(simp only[zbC,occH,occE,Res.ids,xai,List.nil_append,AV.idsL,AV.ids,zci,zcW,zhL,znb,xaf,List.map_nil,upC];rfl)) ?_;refine ev (so ty58 ?_);apply tv;refine so ty60 ?_;apply tv;focus (refine rn [(66,some (.tree (zao false (Pat.cs v.kids))))] (ra ty60) (.agg (.cons (.eqd ?_) (.cons (.eqd ?_) (.cons (.eqd ?_) (.cons (.eqd ?_) (.cons (.eqd ?_) (.cons (LeA.msn ?_) .nil))))))) ⟨Z,Z⟩ (SubH.get ⟨Z,O⟩) (zbk Z);all_goals (first|rfl|(simp[];done)|(simp_all;done)|(simp_all;omega)|omega))
theorem zhz {v:Pat} (hok:v.ok):FnD Tryz.prog 295 [.agg [.d (.i v.op),.d (.i v.ctor),.d (.i v.n),.d (.i v.m),.d (.i v.var),.d (zal v.kids)]] [] (.agg [.d (.i v.op),.d (.i v.ctor),.d (.i v.n),.d (.i v.m),.d (.i v.var),.d (zal v.kids)]) []:=
 FnD.out_frz (k:=6) xaQ (by simp[zf3,zf3.soleNL,xaP]) (zep _ (Nat.le_refl _) hok)
theorem zgQ {l m:List Pat} (h:l.length<=1000000000000)
  (hf:∀a∈l,∀b:Pat,FnD Tryz.prog 290 [.agg [.d (.i a.op),.d (.i a.ctor),.d (.i a.n),.d (.i a.m),.d (.i a.var),.d (zal a.kids)],.agg [.d (.i b.op),.d (.i b.ctor),.d (.i b.n),.d (.i b.m),.d (.i b.var),.d (zal b.kids)]] [] (.d (.bool (zd7 a b))) []):
  FnD Tryz.prog 309 [.d (zal l),.d (zal m)] [] (.d (.bool (zbt l m))) []:=by
 refine bd Tryz.f309 27 [] [] fun _ _ _ _ hk=>?_;apply sq<;>intro h1 h1p h1s<;>(try simp only[Q,xal,xaP] at h1p);refine rq ?_;rotate_left;refine xaz (ι:=Nat) hk (fun i=>[(5,.d (.i (i:Int)))]) [4,11,12,13,14,15,16,17,18,19,20,21,22,23,24,25,26] (fun i=>[]) (fun i=>i<=l.length/\∀i',i'<i->zd7 (nth l i') (nth m i')=true) (fun i=>l.length-i) 0 ⟨by omega,fun _ h=>absurd h oc⟩ ⟨⟨_,Z,xaL ?_⟩,O⟩ O (fun x=>rfl) (fun i hg1=>?_);focus (first|rfl|(simp;done)|(simp_all;done)|omega)
 refine evc [] [] ?_;apply sq<;>intro h2 h2p h2s<;>(try simp only[Q,xal,xaP] at h2p);refine ixq sl58 Z Z Z (zba oc) Z ?_;refine evd [] [] (ixq sl58 Z Z Z (zba oc) Z ?_);refine evd [] [] (wc zmI (hf _ (zad oc) _) Z Z ?_);refine evd [] [] (dr ?_);apply sq<;>intro h3 h3p h3s<;>(try simp only[Q,xal,xaP] at h3p);refine rq ?_;rotate_left;refine ar (xaj (i+1) ⟨⟨by omega,zaw hg1.2 oh⟩,oc,sx ⟨⟨_,Z,xaL ?_⟩,O⟩ O⟩);focus (first|rfl|(simp;done)|(simp_all;done)|omega)
 refine rq ?_;rotate_left;all_goals (refine xam D.bool ?_;first|(refine(zi2 ?_).symm;omega)|(refine(zi3 oc (fun x hx=>hg1.2 x oc)).symm)|(refine(zh3 (i:=i) oc ?_).symm;assumption))
theorem zen:∀(n:Nat){a b:Pat},a.size<=n->a.ok->FnD Tryz.prog 290 [.agg [.d (.i a.op),.d (.i a.ctor),.d (.i a.n),.d (.i a.m),.d (.i a.var),.d (zal a.kids)],.agg [.d (.i b.op),.d (.i b.ctor),.d (.i b.n),.d (.i b.m),.d (.i b.var),.d (zal b.kids)]] [] (.d (.bool (zd7 a b))) []
 |0,a,b,h,_=>by rw[xaS] at h;omega
 |n+1,a,b,h,hok=>by
  rw[xaS] at h;rw[xaR] at hok;rw[znx];refine bd Tryz.f290 36 [] [] fun _ _ _ _ hk=>?_;refine bx 3002 ?_;refine bx 3003 ?_;refine ev ?_;apply sq<;>intro h1 h1p h1s<;>(try simp only[Q] at h1p);focus (refine rq ?_;all_goals (refine xam D.bool ?_;simp[h1s,h1p]))
  apply sq<;>intro h2 h2p h2s<;>(try simp only[Q] at h2p);focus (refine rq ?_;all_goals (refine xam D.bool ?_;simp[h1s,h1p,h2s,h2p]))
  apply sq<;>intro h3 h3p h3s<;>(try simp only[Q] at h3p);focus (refine rq ?_;all_goals (refine xam D.bool ?_;simp[h1s,h1p,h2s,h2p,h3s,h3p]))
  apply sq<;>intro h4 h4p h4s<;>(try simp only[Q] at h4p);focus (refine rq ?_;all_goals (refine xam D.bool ?_;simp[h1s,h1p,h2s,h2p,h3s,h3p,h4s,h4p]))
  apply sq<;>intro h5 h5p h5s<;>(try simp only[Q] at h5p);focus (refine rq ?_;all_goals (refine xam D.bool ?_;simp[h1s,h1p,h2s,h2p,h3s,h3p,h4s,h4p,h5s,h5p]))
  refine wc zpj (zgQ hok.1 (fun x hx y=>zen n (by have:=xaU hx;omega) (xaT hok.2 x hx))) Z Z ?_;refine ev ?_;apply sq<;>intro h6 h6p h6s<;>(try simp only[Q] at h6p);focus (refine rq ?_;all_goals (refine xam D.bool ?_;simp[h1s,h1p,h2s,h2p,h3s,h3p,h4s,h4p,h5s,h5p,h6s,h6p]))
  focus (refine rq ?_;all_goals (refine xam D.bool ?_;simp[h1s,h1p,h2s,h2p,h3s,h3p,h4s,h4p,h5s,h5p,h6s,h6p]))
mutual
def Pat.szM:Pat->Int
 | .mk _ _ _ _ _ ks=>5+Pats.szM ks
def Pats.szM:List Pat->Int
 | []=>0
 |v::r=>v.szM+Pats.szM r
end
mutual
def Pat.one (k:Int):Pat->Pat
 | .mk _ _ _ _ _ ks=> .mk k (k+1) (k+1+1) (k+1+1+1) (k+1+1+1+1) (Pats.one (k+1+1+1+1+1) ks)
def Pats.one (k:Int):List Pat->List Pat
 | []=>[]
 |v::r=>v.one k::Pats.one (k+v.szM) r
end
mutual
theorem Pat.szM_nn:∀v:Pat,0<=v.szM
 | .mk _ _ _ _ _ ks=>by have:=xaX ks;simp only[Pat.szM];omega
theorem xaX:∀l:List Pat,0<=Pats.szM l
 | []=>by simp[Pats.szM]
 |v::r=>by have:=Pat.szM_nn v;have:=xaX r;simp only[Pats.szM];omega
end
mutual
theorem Pat.szM_le:∀v:Pat,v.szM<=5+5*(mPat v:Int)
 | .mk _ _ _ _ _ ks=>by have:=xaW ks;simp only[Pat.szM,mPat];omega
theorem xaW:∀l:List Pat,Pats.szM l<=5*(zdB l:Int)
 | []=>by simp[Pats.szM,zdB]
 |v::r=>by have:=Pat.szM_le v;have:=xaW r;simp only[Pats.szM,zdB];omega
end
structure Vt where
 var:Int
 ty:Ty
 deriving DecidableEq,Inhabited
abbrev Vt.c (t:Vt):List D:=[.i t.var,.i t.ty.data,.i t.ty.index]
abbrev zaU (l:List Vt):D:= .sl (l.map Vt.c)
def zaA (w:List Data) (t:Ty):List Int:=if t.data = -1 then [] else zcF w t
def zaa (w:List Data) (t:Ty) (p:Pat):List Ty:=if p.op=4 then zan w t p.ctor else if p.op=5 then [t,t] else if p.op=6 then [t] else []
def ownP (w:List Data) (t:Ty) (p:Pat):Bool:=decide (((p.op=2\/p.op=6)->0<=p.var/\p.var<=5)/\(¬(p.op=2\/p.op=6)->p.var=0)/\(p.op≠3->p.n=0/\p.m=0)/\(p.op≠4->p.ctor=0)/\
 (p.op=1\/p.op=2\/p.op=5\/p.op=6\/(p.op=3/\t.data = -1/\0<=p.n/\p.n<=p.m/\p.m<=9)\/(p.op=4/\p.ctor∈zaA w t)))
def okP (w:List Data) (t:Ty) (p:Pat):Bool:=ownP w t p&&decide (p.kids.length=(zaa w t p).length)
def zbP (w:List Data) (t:Ty) (p:Pat):List Ty:=if p.op=4/\p.ctor∉zaA w t then [] else zaa w t p
def zaj (w:List Data):Nat->Ty->Pat->Bool
 |0,_,_=>false
 |n+1,t,p=>ownP w t p&&all2 (zaj w n) (zaa w t p) p.kids
def zax (t:Ty) (p:Pat):List Vt:=if p.op=2\/p.op=6 then [⟨p.var,t⟩] else []
def zaG (f:Ty->Pat->List Vt):List Ty->List Pat->List Vt
 |a::r,b::s=>f a b++zaG f r s
 |_,_=>[]
def zbY (w:List Data) (t:Ty) (p:Pat):List Ty:=if p.op=5 then (zaa w t p).take 1 else zaa w t p
def zaq (w:List Data):Nat->Ty->Pat->List Vt
 |0,_,_=>[]
 |n+1,t,p=>zax t p++zaG (zaq w n) (zbY w t p) p.kids
def zaF (l:List Vt) (n:Int):Int:=idxF (fun v=>decide (v.var=n)) l 0
def zcB (a b:List Vt):Bool:=a.all (fun v=>decide (0<=zaF b v.var/\(nth b (zaF b v.var).toNat).ty=v.ty))&&decide (a.length=b.length)
def zky (l:List Vt):Bool:=(List.range l.length).all fun(i:Nat)=>decide (zaF l (nth l i).var=(i:Int))
def zcX (a b:List Vt):Bool:=decide (a.length=b.length)&& !a.any fun v=> !decide (v∈b)
def zbO (l:List Vt):Bool:=decide (l.map Vt.var).Nodup
def linP (w:List Data):Nat->Ty->Pat->Bool
 |0,_,_=>true
 |n+1,t,p=>all2 (linP w n) (zaa w t p) p.kids&&(if p.op=5 then zcB (zaq w n t (nth p.kids 0)) (zaq w n t (nth p.kids 1)) else zky (zaq w (n+1) t p))
theorem zc4 (l:List Vt) (n:Int):(zaF l n = -1/\∀v∈l,v.var≠n)\/∃k:Nat,zaF l n=k/\k<l.length/\(nth l k).var=n/\∀j,j<k->(nth l j).var≠n:=by
 have key:∀(l:List Vt) (i:Nat),(idxF (fun v=>decide (v.var=n)) l i = -1/\∀v∈l,v.var≠n)\/∃k:Nat,idxF (fun v=>decide (v.var=n)) l i=((i+k:Nat):Int)/\k<l.length/\(nth l k).var=n/\∀j,j<k->(nth l j).var≠n:=by
  intro l;induction l with
  |nil=>intro i;exact .inl ⟨Z,by simp⟩
  |cons x r ih=>
   intro i;unfold idxF;by_cases h:x.var=n
   ·exact .inr ⟨0,by simp[h],by simp,by simpa [nth] using h,fun j hj=>absurd hj oc⟩
   ·rcases ih (i+1) with ⟨h1,h2⟩|⟨k,h1,h2,h3,h4⟩
    ·exact .inl ⟨by simpa [h] using h1,fun v hv=>by rcases List.mem_cons.1 hv with rfl|hv;exact h;exact h2 v hv⟩
    ·refine .inr ⟨k+1, ?_,by simpa using h2,by simpa [nth] using h3,fun j hj=>?_⟩
     ·simp only[h,decide_false,Bool.false_eq_true,if_false];rw[h1];congr 1;omega
     ·cases j with
      |zero=>simpa [nth] using h
      |succ j=>simpa [nth] using h4 j oc
 rcases key l 0 with h|⟨k,h1,h2⟩
 ·exact .inl h
 ·exact .inr ⟨k,by unfold zaF;simpa using h1,h2⟩
theorem zj6 {l:List Vt}:(l.map Vt.var).Nodup↔∀i j,i<j->j<l.length->(nth l i).var≠(nth l j).var:=by
 unfold List.Nodup;rw[List.pairwise_iff_getElem];constructor
 ·intro h i j hij hj;have:=h i j oj (by simpa using hj) hij;simp only[List.getElem_map] at this;rw[zaB oc,zaB hj];exact this
 ·intro h i j hi hj hij;simp only[xac] at hi hj;simp only[List.getElem_map];rw[<-zaB hi,<-zaB hj];exact h i j hij hj
theorem zgV {l:List Vt} (h:(l.map Vt.var).Nodup){i j:Nat} (hi:i<l.length) (hj:j<l.length) (he:(nth l i).var=(nth l j).var):i=j:=by
 have h1:=zj6.1 h;rcases Nat.lt_trichotomy i j with h2|h2|h2
 ·exact absurd he (h1 i j h2 hj)
 ·exact h2
 ·exact absurd he.symm (h1 j i h2 hi)
theorem zkZ (l:List Vt):zky l=zbO l:=by
 unfold zbO;by_cases h:(l.map Vt.var).Nodup
 ·rw[xax h];refine zc2 (fun i hi=>xax ?_);rcases zc4 l (nth l i).var with ⟨_,h2⟩|⟨k,h1,h2,h3,h4⟩
  ·exact absurd Z (h2 _ (zad hi))
  ·rw[h1,zgV h h2 hi h3]
 ·rw[xaw h];cases hd:zky l with
  |false=>rfl
  |true=>
   refine absurd ?_ h;rw[zj6];intro i j hij hj he;have h1:=List.all_eq_true.1 hd i (List.mem_range.2 oc);have h2:=List.all_eq_true.1 hd j (List.mem_range.2 hj);simp only[xah] at h1 h2;rw[he,h2] at h1;omega
theorem zlV {a b:List Vt} (hb:zbO b=true):zcB a b=zcX a b:=by
 unfold zbO at hb;simp only[xah] at hb;unfold zcB zcX;rw[Bool.and_comm];congr 1
 rw[xat];simp only[List.all_eq_true,Bool.not_eq_true',List.any_eq_false,xah,Bool.not_eq_true,decide_eq_false_iff_not,Decidable.not_not];refine forall_congr' fun v=>forall_congr' fun hv=>?_;rcases zc4 b v.var with ⟨h1,h2⟩|⟨k,h1,h2,h3,h4⟩
 ·rw[h1];exact⟨fun h=>absurd h.1 oc,fun h=>absurd rfl (h2 v h)⟩
 ·rw[h1];simp only[Int.toNat_natCast];constructor
  ·rintro ⟨_,h⟩
   have:nth b k=v:=by
    have e:∀x y:Vt,x.var=y.var->x.ty=y.ty->x=y:=fun x y h1 h2=>by cases x;cases y;simp_all
    exact e _ _ h3 h
   rw[<-this];exact zad h2
  ·intro h;refine⟨by omega, ?_⟩;obtain⟨j,hj,he⟩:=List.getElem_of_mem h;have h5:nth b j=v:=by rw[zaB hj];exact he
   have:=zgV hb h2 hj (by rw[h3,h5]);rw[this,h5]
def zaO (g:Ty->Pat->Int->Option (List Vt)×Int) (or:Bool):List Ty->List Pat->Nat->List Vt->Int->Option (List Vt)×Int
 |a::r,b::s,i,acc,c=>match (g a b c).1 with
  |none=>(none,(g a b c).2)
  |some l=>if or=true/\i=1 then (if zcX acc l=true then zaO g or r s (i+1) acc (g a b c).2 else (none,(g a b c).2)) else zaO g or r s (i+1) (acc++l) (g a b c).2
 |_,_,_,acc,c=>(some acc,c)
def finV (r:Option (List Vt)×Int):Option (List Vt)×Int:=match r.1 with
 |none=>r
 |some l=>if zbO l=true then r else (none,r.2)
def zat (w:List Data):Nat->Ty->Pat->Int->Option (List Vt)×Int
 |0,_,_,c=>(none,c+1)
 |n+1,t,p,c=>if 60<c+1 then (none,c+1) else if okP w t p=true then finV (zaO (zat w n) (decide (p.op=5)) (zaa w t p) p.kids 0 (zax t p) (c+1)) else (none,c+1)
def zbb (w:List Data) (n:Nat) (t:Ty) (p:Pat) (c:Int):Bool:=zaj w n t p&&(decide (c+(p.size:Int)<=60)&&linP w n t p)
theorem zfc (w:List Data):∀(n:Nat) (t:Ty) (p:Pat),zaj w n t p=true->linP w n t p=true->zbO (zaq w n t p)=true
 |0,t,p,h,_=>by simp[zaj] at h
 |n+1,t,p,h,hl=>by
  by_cases h5:p.op=5
  ·simp only[zaj,linP,xad,if_pos h5] at h hl;have e1:zaa w t p=[t,t]:=by unfold zaa;rw[if_neg oc,if_pos h5]
   rw[e1] at h hl;rcases hk:p.kids with _|⟨x,_|⟨y,_|⟨z,r⟩⟩⟩
   ·rw[hk] at h;simp[all2] at h
   ·rw[hk] at h;simp[all2] at h
   ·rw[hk] at h hl;simp only[all2,xad,and_true] at h hl;have:=zfc w n t x h.2.1 hl.1.1;have e2:zaq w (n+1) t p=zaq w n t x:=by
     simp only[zaq,zax,zbY,e1,hk,if_pos h5];rw[if_neg oc];simp[zaG]
    rw[e2];exact this
   ·rw[hk] at h;simp[all2] at h
  ·simp only[linP,if_neg h5,xad] at hl;rw[<-zkZ];exact hl.2
theorem zln {w:List Data}{n:Nat} (ih:∀t p c,((zat w n t p c).1=if zbb w n t p c=true then some (zaq w n t p) else none)/\(zbb w n t p c=true->(zat w n t p c).2=c+p.size)):
  ∀(a:List Ty) (b:List Pat) (i:Nat) (acc:List Vt) (c:Int),a.length=b.length->c<=60->
   ((zaO (zat w n) false a b i acc c).1=if (all2 (zaj w n) a b&&(decide (c+(Pats.size b:Int)<=60)&&all2 (linP w n) a b))=true then some (acc++zaG (zaq w n) a b) else none)/\
   ((all2 (zaj w n) a b&&(decide (c+(Pats.size b:Int)<=60)&&all2 (linP w n) a b))=true->(zaO (zat w n) false a b i acc c).2=c+Pats.size b)
 | [],[],i,acc,c,_,hc=>by simp[zaO,all2,Pats.size,zaG,hc]
 |x::r,y::s,i,acc,c,hl,hc=>by
  obtain⟨h1,h2⟩:=ih x y c;have hps:Pats.size (y::s)=y.size+Pats.size s:=rfl;simp only[zaO,zaG];by_cases hw:zbb w n x y c=true
  ·have h3:=h2 hw;rw[if_pos hw] at h1;rw[h1];simp only[Bool.false_eq_true,false_and,if_false];have h4:=hw;simp only[zbb,xad,xah] at h4;obtain⟨h5,h6⟩:=zln ih r s (i+1) (acc++zaq w n x y) (zat w n x y c).2 (by simpa using hl) oc;have e:(all2 (zaj w n) (x::r) (y::s)&&(decide (c+(Pats.size (y::s):Int)<=60)&&all2 (linP w n) (x::r) (y::s)))=(all2 (zaj w n) r s&&(decide ((zat w n x y c).2+(Pats.size s:Int)<=60)&&all2 (linP w n) r s)):=by
    rw[all2,all2,h4.1,h4.2.2,h3];simp only[Bool.true_and];congr 2
    exact decide_eq_decide.2 oc
   rw[e];refine⟨?_,fun hx=>?_⟩
   ·rw[h5,xar]
   ·rw[h6 hx,h3];omega
  ·rw[if_neg hw] at h1;rw[h1];simp only;have hf:¬(all2 (zaj w n) (x::r) (y::s)&&(decide (c+(Pats.size (y::s):Int)<=60)&&all2 (linP w n) (x::r) (y::s)))=true:=fun h=>by
    simp only[all2,xad,xah] at h;refine hw ?_;simp only[zbb,xad,xah];refine⟨h.1.1, ?_,h.2.2.1⟩;have:=h.2.1;omega
   rw[if_neg hf];exact⟨rfl,fun h=>absurd h hf⟩
 | [],_::_,_,_,_,hl,_=>by simp at hl
 |_::_,[],_,_,_,hl,_=>by simp at hl
theorem zdV (w:List Data):∀(n:Nat) (t:Ty) (p:Pat) (c:Int),((zat w n t p c).1=if zbb w n t p c=true then some (zaq w n t p) else none)/\(zbb w n t p c=true->(zat w n t p c).2=c+p.size)
 |0,t,p,c=>by simp[zat,zbb,zaj]
 |n+1,t,p,c=>by
  have hsz:=xaS p;unfold zat;by_cases h1:60<c+1
  ·have hf:¬zbb w (n+1) t p c=true:=fun h=>by
    simp only[zbb,xad,xah] at h;omega
   rw[if_pos h1,if_neg hf];exact⟨rfl,fun h=>absurd h hf⟩
  rw[if_neg h1];by_cases h2:okP w t p=true
  ·rw[if_pos h2];have h2':=h2;simp only[okP,xad,xah] at h2';by_cases h5:p.op=5
   ·have e1:zaa w t p=[t,t]:=by unfold zaa;rw[if_neg oc,if_pos h5]
    have e3:zax t p=[]:=by unfold zax;rw[if_neg oc]
    rw[e1] at h2';rcases hk:p.kids with _|⟨x,_|⟨y,_|⟨z,r⟩⟩⟩
    ·rw[hk] at h2';simp at h2'
    ·rw[hk] at h2';simp at h2'
    ·have e4:zaq w (n+1) t p=zaq w n t x:=by
      simp only[zaq,zbY,e1,hk,if_pos h5,e3];simp[zaG]
     have e5:zbb w (n+1) t p c=((zaj w n t x&&zaj w n t y)&&(decide (c+1+(x.size:Int)+y.size<=60)&&((linP w n t x&&linP w n t y)&&zcB (zaq w n t x) (zaq w n t y)))):=by
      simp only[zbb,zaj,linP,h2'.1,e1,hk,all2,if_pos h5,Bool.and_true,Bool.true_and,nth,List.getD_cons_zero,List.getD_cons_succ];congr 2
      refine decide_eq_decide.2 ?_;rw[hsz,hk];simp only[Pats.size];push_cast;omega
     rw[e4,e5,e1,e3];obtain⟨a1,a2⟩:=zdV w n t x (c+1);simp only[zaO,h5,decide_true];by_cases w1:zbb w n t x (c+1)=true
     ·have a3:=a2 w1;rw[if_pos w1] at a1;have b1:=w1;simp only[zbb,xad,xah] at b1;obtain⟨d1,d2⟩:=zdV w n t y (zat w n t x (c+1)).2;rw[a1];simp only[true_and,Nat.zero_ne_one,if_false,List.nil_append];by_cases w2:zbb w n t y (zat w n t x (c+1)).2=true
      ·have d3:=d2 w2;rw[if_pos w2] at d1;have b2:=w2;simp only[zbb,xad,xah] at b2;rw[d1];simp only[Nat.zero_add,if_true];have n1:=zfc w n t x b1.1 b1.2.2;have n2:=zfc w n t y b2.1 b2.2.2;have e6:((zaj w n t x&&zaj w n t y)&&(decide (c+1+(x.size:Int)+y.size<=60)&&((linP w n t x&&linP w n t y)&&zcB (zaq w n t x) (zaq w n t y))))=zcX (zaq w n t x) (zaq w n t y):=by
        rw[b1.1,b2.1,b1.2.2,b2.2.2,zlV n2,xax oc];simp
       rw[e6];by_cases hs:zcX (zaq w n t x) (zaq w n t y)=true
       ·rw[if_pos hs,if_pos hs];simp only[finV,n1,if_true];refine⟨trivial,fun _=>?_⟩;rw[d3,a3,hsz,hk];simp only[Pats.size];push_cast;omega
       ·rw[if_neg hs,if_neg hs];simp only[finV];exact⟨trivial,fun h=>absurd h hs⟩
      ·rw[if_neg w2] at d1;rw[d1];simp only[finV];have hf:¬((zaj w n t x&&zaj w n t y)&&(decide (c+1+(x.size:Int)+y.size<=60)&&((linP w n t x&&linP w n t y)&&zcB (zaq w n t x) (zaq w n t y))))=true:=fun h=>by
        simp only[xad,xah] at h;refine w2 ?_;simp only[zbb,xad,xah];exact⟨h.1.2,by omega,h.2.2.1.2⟩
       rw[if_neg hf];exact⟨rfl,fun h=>absurd h hf⟩
     ·rw[if_neg w1] at a1;rw[a1];simp only[finV];have hf:¬((zaj w n t x&&zaj w n t y)&&(decide (c+1+(x.size:Int)+y.size<=60)&&((linP w n t x&&linP w n t y)&&zcB (zaq w n t x) (zaq w n t y))))=true:=fun h=>by
       simp only[xad,xah] at h;refine w1 ?_;simp only[zbb,xad,xah];exact⟨h.1.1,by omega,h.2.2.1.1⟩
      rw[if_neg hf];exact⟨rfl,fun h=>absurd h hf⟩
    ·rw[hk] at h2';simp at h2'
   ·have e0:(decide (p.op=5))=false:=xaw h5;rw[e0];obtain⟨a1,a2⟩:=zln (fun t p c=>zdV w n t p c) (zaa w t p) p.kids 0 (zax t p) (c+1) h2'.2.symm oc;have e4:zaq w (n+1) t p=zax t p++zaG (zaq w n) (zaa w t p) p.kids:=by simp only[zaq,zbY,if_neg h5]
    have e5:zbb w (n+1) t p c=((all2 (zaj w n) (zaa w t p) p.kids&&(decide (c+1+(Pats.size p.kids:Int)<=60)&&all2 (linP w n) (zaa w t p) p.kids))&&zbO (zaq w (n+1) t p)):=by
     have:decide (c+(p.size:Int)<=60)=decide (c+1+(Pats.size p.kids:Int)<=60):=decide_eq_decide.2 oc;simp only[zbb,zaj,linP,h2'.1,if_neg h5,Bool.true_and,zkZ,this,Bool.and_assoc]
    rw[e5];by_cases hw:(all2 (zaj w n) (zaa w t p) p.kids&&(decide (c+1+(Pats.size p.kids:Int)<=60)&&all2 (linP w n) (zaa w t p) p.kids))=true
    ·rw[if_pos hw,<-e4] at a1;have a3:=a2 hw;rw[hw,Bool.true_and];unfold finV;rw[a1];by_cases hn:zbO (zaq w (n+1) t p)=true
     ·simp only[hn,if_true];exact⟨a1,fun _=>by rw[a3];omega⟩
     ·simp only[hn,Bool.false_eq_true,if_false];exact⟨trivial,fun h=>absurd h oe⟩
    ·rw[if_neg hw] at a1;have hw':(all2 (zaj w n) (zaa w t p) p.kids&&(decide (c+1+(Pats.size p.kids:Int)<=60)&&all2 (linP w n) (zaa w t p) p.kids))=false:=by simpa using hw
     rw[hw',Bool.false_and];unfold finV;rw[a1];simp[a1]
  ·have hf:¬zbb w (n+1) t p c=true:=fun h=>by
    simp only[zbb,zaj,xad,xah] at h;refine h2 ?_;simp only[okP,xad,xah];refine⟨h.1.1, ?_⟩;by_cases hl:(zaa w t p).length=p.kids.length
    ·exact hl.symm
    ·have:=zdi (f:=zaj w n) hl;rw[this] at h;simp at h
   rw[if_neg h2,if_neg hf];exact⟨rfl,fun h=>absurd h hf⟩
mutual
def cntP (m:Int):Pat->Int
 | .mk _ _ _ _ _ ks=>zb6 m 1 ks
def zb6 (m n:Int):List Pat->Int
 | []=>n
 |k::r=>if n<=m then zb6 m (n+cntP (m-n) k) r else n
end
theorem zn9 (m:Int) (v:Pat):cntP m v=zb6 m 1 v.kids:=by cases v;rfl
theorem ziu {m n:Int}{l:List Pat} (h:¬n<=m):zb6 m n l=n:=by cases l<;>simp[zb6,h]
mutual
theorem zhg:∀(v:Pat) (m:Int),1<=cntP m v/\cntP m v<=v.size
 | .mk _ _ _ _ _ ks,m=>by
  have:=zhN ks m 1 oc;simp only[cntP,Pat.size];push_cast;omega
theorem zhN:∀(l:List Pat) (m n:Int),1<=n->1<=zb6 m n l/\zb6 m n l<=n+Pats.size l
 | [],m,n,h=>by simp[zb6,Pats.size];omega
 |k::r,m,n,h=>by
  have h1:=zhg k (m-n);have h2:=zhN r m (n+cntP (m-n) k) oc;simp only[zb6,Pats.size];split
  ·push_cast;omega
  ·push_cast;omega
end
mutual
theorem zkX:∀(v:Pat) (m:Int),(cntP m v<=m↔(v.size:Int)<=m)/\(cntP m v<=m->cntP m v=v.size)
 | .mk _ _ _ _ _ ks,m=>by
  have:=zjW ks m 1;simp only[cntP,Pat.size];push_cast;exact this
theorem zjW:∀(l:List Pat) (m n:Int),(zb6 m n l<=m↔n+(Pats.size l:Int)<=m)/\(zb6 m n l<=m->zb6 m n l=n+Pats.size l)
 | [],m,n=>by simp[zb6,Pats.size]
 |k::r,m,n=>by
  have h1:=zkX k (m-n);have h2:=zjW r m (n+cntP (m-n) k);have h3:=zhN r m (n+cntP (m-n) k);have h4:=zhg k (m-n);simp only[zb6,Pats.size];push_cast
  by_cases hn:n<=m
  ·rw[if_pos hn];by_cases h5:cntP (m-n) k<=m-n
   ·have h6:=h1.2 h5;rw[h6] at h2 ⊢;constructor
    ·rw[h2.1];constructor<;>intro h<;>omega
    ·intro h;rw[h2.2 h];omega
   ·have h7:¬(k.size:Int)<=m-n:=fun h=>h5 (h1.1.2 h);have h8:¬n+cntP (m-n) k<=m:=by omega
    rw[ziu h8];constructor
    ·constructor<;>intro h<;>omega
    ·intro h;omega
  ·rw[if_neg hn];constructor
   ·constructor<;>intro h<;>omega
   ·intro h;omega
end
theorem xaV {pre rest l:List Pat}{y:Pat} (h:pre++y::rest=l):Pats.size l=Pats.size pre+y.size+Pats.size rest:=by
 subst h;induction pre with
 |nil=>simp[Pats.size]
 |cons x r ih=>simp only[xai,Pats.size,ih];omega
theorem zdp {l:List Pat}{i:Nat} (h:i<l.length):(nth l i).size<=Pats.size l:=xaU (zad h)
theorem zi4 {l:List Pat}{i:Nat} (h:i<l.length):Pats.size (l.drop i)=(nth l i).size+Pats.size (l.drop (i+1)):=by
 rw[zbh h];rfl
theorem zdF:∀(n:Nat){v:Pat}{m:Int},v.size<=n->v.size<=1000000000000->v.ok->0<=m->m<=1000000000000->FnD Tryz.prog 187 [.agg [.d (.i v.op),.d (.i v.ctor),.d (.i v.n),.d (.i v.m),.d (.i v.var),.d (zal v.kids)],.d (.i m)] [] (.d (.i (cntP m v))) []
 |0,v,m,h,_,_,_,_=>by rw[xaS] at h;omega
 |n+1,v,m,h,hb,hok,m0,m1=>by
  rw[xaS] at h hb;rw[xaR] at hok;rw[zn9];refine bd Tryz.f187 31 [] [] fun _ _ _ _ hk=>?_;refine bx 3002 ?_;refine ev (xaz (ι:=Nat×Int) hk (fun x=>[(6,.d (.i (x.1:Int))),(5,.d (.i x.2))]) [7,8,9,10,11,12,13,14,15,16,17,18,19,20,21,22,23,24,25,26,27,28,29] (fun x=>[]) (fun x=>x.1<=v.kids.length/\zb6 m x.2 (v.kids.drop x.1)=zb6 m 1 v.kids/\1<=x.2/\x.2+Pats.size (v.kids.drop x.1)<=1+Pats.size v.kids) (fun x=>v.kids.length-x.1) (0,1) ⟨by simp,by simp,by simp,by simp⟩ ⟨⟨_,Z,xaL ?_⟩,⟨⟨_,Z,xaL ?_⟩,O⟩⟩ O (fun x=>rfl) (fun x hg1=>?_));iterate 2 focus (rfl)
  refine evc [] [] ?_;apply sq<;>intro h1 h1p h1s<;>(try simp only[Q,xaP] at h1p);apply sq<;>intro h2 h2p h2s<;>(try simp only[Q,xaP] at h2p);refine ixq sl58 Z Z Z (zba oc) Z ?_;refine ev (ar ?_ (by(constructor<;>omega)));refine wc zkN (zdF n (v:=nth v.kids x.1) (by have:=zdp (l:=v.kids) (i:=x.1) oc;omega) (by have:=zdp (l:=v.kids) (i:=x.1) oc;omega) (xaT hok.2 _ (zad oc)) oc oc) Z Z ?_;refine ev (ar ?_ (by(have hz:=zhg (nth v.kids x.1) (m-x.2);have hs:=zi4 (l:=v.kids) (i:=x.1) oc;constructor<;>omega)));refine ar ?_ (by(constructor<;>omega));refine xaj ((x.1+1,x.2+cntP (m-x.2) (nth v.kids x.1))) ⟨(by
      have hz:=zhg (nth v.kids x.1) (m-x.2);have hs:=zi4 (l:=v.kids) (i:=x.1) oc;refine⟨by dsimp only;omega, ?_,by dsimp only;omega,by dsimp only;omega⟩;rw[<-hg1.2.1,zbh (l:=v.kids) (i:=x.1) oc,zb6,if_pos oc]),(by dsimp only;omega),sx ⟨⟨_,rfl,xaL ?_⟩,⟨⟨_,rfl,xaL ?_⟩,trivial⟩⟩ trivial⟩
  iterate 2 focus (rfl)
  refine rq ?_;rotate_left;refine sqF ?_;refine rq ?_;rotate_left;all_goals (refine xam D.i ?_;rw[<-hg1.2.1];first|(rw[List.drop_eq_nil_of_le oc];rfl)|(rw[ziu oc]))
end Go.Proofs.YtmkipahfpaacgaaGreatDoor
