/-
  THE ABSTRACT WALK AND THE WALKS, part 4 of 5.
-/
import Derived.Test.YtcjojgpodcjfcaaGreatDoorT613
namespace Go.Proofs.YtcjojgpodcjfcaaGreatDoor
open Go
set_option linter.unusedSimpArgs false
set_option linter.unusedVariables false
theorem zff (L:List Nat) (hp:Hp) (i:Nat):getH (L.map (fun j=>(j,(none:Option Res)))++hp) i=if i∈L then none else getH hp i:=by
 induction L with
 |nil=>simp
 |cons x r ih=>
  simp only[xaf,xai,zac,List.mem_cons];by_cases h:i=x
  ·subst h;simp
  ·simp[h,ih]
section
variable {c:Ctx}
theorem R.drop {G:Gh}{s:St}{a:Act}{w:World} (hr:R c G s a w) (L:List Nat) (hk:∀i l,c.kept i=some l->i∉L):R c G ⟨s.env,L.map (fun j=>(j,none))++s.hp⟩ a w:=by
 have hg:=zff L s.hp;have hT:∀i p,tokf (L.map (fun j=>(j,(none:Option Res)))++s.hp) i=some p->tokf s.hp i=some p:=fun i p h=>by
  obtain⟨n,k⟩:=p;have:=zaj.1 h;rw[hg] at this;split at this
  ·cases this
  ·exact zaj.2 this
 have hm:∀ {x:AV}{v:Value},RelA G (tokf s.hp) w x v->RelA G (tokf (L.map (fun j=>(j,(none:Option Res)))++s.hp)) w x v:=fun hx=>
  hx.mono (fun _ _ ho=>⟨ho,rfl⟩) (fun _ _=> .inl rfl) (fun i _ p hp=>⟨hT i p hp,fun _ _=>⟨rfl,rfl⟩⟩)
 have hs:∀i r,getH (L.map (fun j=>(j,(none:Option Res)))++s.hp) i=some r->getH s.hp i=some r:=fun i r h=>by
  rw[hg] at h;split at h
  ·cases h
  ·exact h
 have hss:∀i,(getH (L.map (fun j=>(j,(none:Option Res)))++s.hp) i).isSome->(getH s.hp i).isSome:=fun i h=>by
  obtain⟨r,hr⟩:=Option.isSome_iff_exists.1 h;rw[hs i r hr];rfl
 refine⟨hr.size,hr.defers,fun i v h=>hm (hr.slots i v h),fun i r h=>?_,fun i j h1 h2=>hr.disj i j (hss i h1) (hss j h2),fun i h=>hr.new i (hss i h),hr.frm,hr.top,fun i l hl=>?_⟩
 ·have hh:=hr.heap i r (hs i r h);cases r with
  |box cs=>
   obtain⟨b,vs,e,h1,h2,h3,h4,h5⟩:=hh;exact⟨b,vs,e,h1,h2,h3,h4,fun j hj hv=>hm (h5 j hj hv)⟩
  |tok m k=>exact hh
  |map ks=>exact hh
  |tree cs=>exact za6 hh I (fun _ _=>⟨I,I⟩) (Nat.le_refl _) (fun _ _ _=>hm)
 ·obtain⟨k1,k2,k3⟩:=hr.kept i l hl;refine⟨k1, ?_, ?_⟩
  ·show(getH (L.map (fun j=>(j,(none:Option Res)))++s.hp) i).isSome
   rw[hg,if_neg (hk i l hl)];exact k2
  ·show tokf (L.map (fun j=>(j,(none:Option Res)))++s.hp) i=none
   cases h:tokf (L.map (fun j=>(j,(none:Option Res)))++s.hp) i with
   |none=>rfl
   |some p=>rw[hT i p h] at k3;cases k3
theorem R.retokG {G G':Gh}{s:St}{a:Act}{w w':World} (hr:R c G s a w){id n n' k:Nat} (htok:getH s.hp id=some (.tok n k)) (hlt:n<n'/\n'<2 ^ 70)
  (hF:∀b o,o<G.F b->o<G'.F b/\w'.cell? ⟨b,o,none⟩=w.cell? ⟨b,o,none⟩) (hloc:∀i,i≠id->G'.loc i=G.loc i)
  (hoth:∀b,b<w.heap.size->b∉G.loc id->w'.heap[b]?=w.heap[b]?/\G'.F b=G.F b)
  (hid:∀b,b∈G'.loc id->b<w'.heap.size) (hnew:∀b,b∈G'.loc id->b∈G.loc id\/w.heap.size<=b\/((b∈c.own\/c.w0.heap.size<=b)/\∀i,i≠id->(getH s.hp i).isSome->b∉G.loc i))
  (hos:w'.os=w.os) (htp:w'.tape=w.tape) (hou:w'.output=w.output) (hsz:w.heap.size<=w'.heap.size) (htop:∀b,w'.heap.size<=b->G'.F b=0):
  R c G' { s with hp:=(id,some (.tok n' k))::s.hp } a w':=by
 have hT:tokf s.hp id=some (n,k):=zaj.2 htok;have hT1:tokf ((id,some (.tok n' k))::s.hp) id=some (n',k):=zaj.2 o6;have hT2:∀i,i≠id->tokf ((id,some (.tok n' k))::s.hp) i=tokf s.hp i:=fun i hi=>by
  unfold tokf;rw[zac,if_neg hi]
 have bound:∀i r,getH s.hp i=some r->∀b,b∈G.loc i->b<w.heap.size:=fun i r h=>(hr.heap i r h).bound;have apart:∀i r,i≠id->getH s.hp i=some r->∀b,b∈G.loc i->b∉G.loc id:=fun i r hi h b hb=>hr.disj i id (by rw[h];rfl) (by rw[htok];rfl) hi b hb;have hm:∀ {x:AV}{v:Value},RelA G (tokf s.hp) w x v->RelA G' (tokf ((id,some (.tok n' k))::s.hp)) w' x v:=fun hx=>
  hx.retok hF hT hlt.1 hT1 hT2 hloc (fun i p hi hp b hb=>by
   obtain⟨m,k'⟩:=p;have h1:=zaj.1 hp;exact hoth b (bound i _ h1 b hb) (apart i _ hi h1 b hb)) ⟨fun _ _ h=>h.gh_small hlt.2 hT1,fun _ _ h=>h.ght_small hlt.2 hT1⟩
 have hsome:∀i,(getH ((id,some (.tok n' k))::s.hp) i).isSome->(getH s.hp i).isSome:=fun i h=>by
  rw[zac] at h;split at h
  ·rename_i e;subst e;rw[htok];rfl
  ·exact h
 have hidnew:=hr.new id (by rw[htok];rfl);have far:∀b,b∈G'.loc id->∀i r,i≠id->getH s.hp i=some r->b∉G.loc i:=fun b hb i r hi h hbj=>by
  rcases hnew b hb with h1|h1|h1
  ·exact apart i r hi h b hbj h1
  ·have:=bound i r h b hbj;omega
  ·exact h1.2 i hi (by rw[h];rfl) hbj
 refine⟨hr.size,hr.defers,fun i v h=>hm (hr.slots i v h),fun i r h=>?_,fun i j h1 h2 h3 b hb=>?_,fun i h b hb=>?_,
  hr.frm.trans (own1:=G.loc id) ⟨hos,htp,hou,hsz,hoth,hF⟩ hidnew,htop,fun i l hl=>?_⟩
 ·rw[zac] at h;by_cases hi:i=id
  ·subst hi;rw[if_pos rfl] at h;cases h
   exact hid
  ·rw[if_neg hi] at h;have hh:=hr.heap i r h;have ho:∀b,b∈G.loc i->w'.heap[b]?=w.heap[b]?/\G'.F b=G.F b:=fun b hb=>hoth b (bound i r h b hb) (apart i r hi h b hb);cases r with
   |box cs=>
    obtain⟨b,vs,e,h1,h2,h3,h4,h5⟩:=hh;obtain⟨o1,o2⟩:=ho b (by simp[h1]);exact⟨b,vs,e,(hloc i hi).trans h1,o1.trans h2,h3,o2.trans h4,fun j hj hv=>hm (h5 j hj hv)⟩
   |tok m k'=>exact fun b h1=>Nat.lt_of_lt_of_le (hh b (by rw[hloc i hi] at h1;exact h1)) oe
   |map ks=>
    obtain⟨b,es,cl,h1,h2,h3,h4⟩:=hh;obtain⟨o1,o2⟩:=ho b (by simp[h1]);exact⟨b,es,cl,(hloc i hi).trans h1,o1.trans h2,o2.trans h3,h4⟩
   |tree cs=>exact za6 hh (hloc i hi) ho oe (fun _ _ _=>hm)
 ·have s1:=hsome i h1;have s2:=hsome j h2;obtain⟨r1,hr1⟩:=Option.isSome_iff_exists.1 s1;obtain⟨r2,hr2⟩:=Option.isSome_iff_exists.1 s2;by_cases hi:i=id
  ·subst hi;rw[hloc j (Ne.symm h3)];exact far b hb j r2 (Ne.symm h3) hr2
  ·rw[hloc i hi] at hb;by_cases hj:j=id
   ·subst hj;exact fun hbj=>far b hbj i r1 hi hr1 hb
   ·rw[hloc j hj];exact hr.disj i j s1 s2 h3 b hb
 ·have s1:=hsome i h;by_cases hi:i=id
  ·subst hi;rcases hnew b hb with h' | h' | h'
   ·exact hidnew b h'
   ·right;have:=hr.frm.size;omega
   ·exact h'.1
  ·rw[hloc i hi] at hb;exact hr.new i s1 b hb
 ·have hk:=hr.kept i l hl;have hi:i≠id:=fun e=>by subst e;rw[hT] at hk;simp at hk
  refine⟨(xam List.head? (hloc i hi)).trans hk.1, ?_,(hT2 i hi).trans hk.2.2⟩;show(getH ((id,some (.tok n' k))::s.hp) i).isSome
  rw[zac,if_neg hi];exact hk.2.1
inductive RowT (hp:Hp):List AV->List D->List (Nat×Nat×Nat)->Prop
 |nil:RowT hp [] [] []
 |sc {x cs ds js} (hs:ziQ x=true) (h:RowT hp cs ds js):RowT hp (.d x::cs) (x::ds) js
 |ni {cs ds js} (h:RowT hp cs ds js):RowT hp (.nils::cs) (.sl []::ds) js
 |gt {j zs n k cs ds js} (hj:getH hp j=some (.tok n k)) (hn:n=zs.length) (h:RowT hp cs ds js):RowT hp (.gt j zs::cs) (.sl zs::ds) ((j,n,k)::js)
theorem RowT.toks {hp:Hp}{cs:List AV}{ds:List D}{js:List (Nat×Nat×Nat)} (h:RowT hp cs ds js):∀q,q∈js->getH hp q.1=some (.tok q.2.1 q.2.2):=by
 induction h with
 |nil=>intro q hq;simp at hq
 |sc _ _ ih=>exact ih
 |ni _ ih=>exact ih
 |gt hj _ _ ih=>
  intro q hq;rcases List.mem_cons.1 hq with rfl|hq
  ·exact hj
  ·exact ih q hq
theorem RowT.move {hp hp':Hp}{cs:List AV}{ds:List D}{js:List (Nat×Nat×Nat)} (h:RowT hp cs ds js):(∀q,q∈js->getH hp' q.1=some (.tok q.2.1 q.2.2))->RowT hp' cs ds js:=by
 induction h with
 |nil=>intro _;exact .nil
 |sc hs _ ih=>intro h;exact .sc hs (ih h)
 |ni _ ih=>intro h;exact .ni (ih h)
 |gt hj hn _ ih=>intro h;exact .gt (h (_,_,_) List.mem_cons_self) hn (ih fun q hq=>h q (List.mem_cons_of_mem _ hq))
theorem RowT.len {hp:Hp}{cs:List AV}{ds:List D}{js:List (Nat×Nat×Nat)} (h:RowT hp cs ds js):ds.length=cs.length:=by
 induction h with
 |nil=>rfl
 |sc _ _ ih=>simp[ih]
 |ni _ ih=>simp[ih]
 |gt _ _ _ ih=>simp[ih]
theorem RowT.trees {G:Gh}{hp:Hp}{w:World}{cs:List AV}{ds:List D}{js:List (Nat×Nat×Nat)} (h:RowT hp cs ds js):∀ {vs:List Value},vs.length=cs.length->
  (∀i (hi:i<cs.length) (hv:i<vs.length),RelA G (tokf hp) w cs[i] vs[i])->
  ∃Sl:List (List Nat),Sl.length=cs.length/\(∀i (hi:i<ds.length) (hv:i<vs.length) (hs:i<Sl.length),TreeD true w ds[i] vs[i] Sl[i])/\Sl.flatten=js.flatMap (fun q=>G.loc q.1)/\
   (∀u,u∈vs->u.oneCell'=true)/\∀q,q∈js->(G.loc q.1).Nodup/\∀b,b∈G.loc q.1->G.F b=0:=by
 induction h with
 |nil=>
  intro vs hl _;have:vs=[]:=List.eq_nil_of_length_eq_zero hl;subst this;exact⟨[],rfl,fun i hi=>by simp at hi,rfl,by simp,by simp⟩
 | @sc x cs ds js hs h ih=>
  intro vs hl hrel;match vs,hl with
  |v::vs,hl=>
   obtain⟨Sl,h1,h2,h3,h4,h5⟩:=ih (vs:=vs) (by simpa using hl) (fun i hi hv=>hrel (i+1) (by simpa using hi) (by simpa using hv));have h0:=(hrel 0 oh oh).d_inv;simp only[List.getElem_cons_zero] at h0;obtain⟨f1,f2⟩:=zhr hs;refine⟨[]::Sl,by simp[h1],fun i hi hv hs'=>?_,by simpa using h3,fun u hu=>?_,h5⟩
   ·cases i with
    |zero=>exact TreeD.ofFlat f1 (.inr f2) h0
    |succ i=>exact h2 i (by simpa using hi) (by simpa using hv) (by simpa using hs')
   ·rcases List.mem_cons.1 hu with rfl|hu
    ·exact h0.one
    ·exact h4 u hu
 | @ni cs ds js h ih=>
  intro vs hl hrel;match vs,hl with
  |v::vs,hl=>
   obtain⟨Sl,h1,h2,h3,h4,h5⟩:=ih (vs:=vs) (by simpa using hl) (fun i hi hv=>hrel (i+1) (by simpa using hi) (by simpa using hv));have h0:=hrel 0 oh oh;simp only[List.getElem_cons_zero] at h0;have hv:v = .slice none 0 0:=by cases h0;rfl
   subst hv;refine⟨[]::Sl,by simp[h1],fun i hi hv hs'=>?_,by simpa using h3,fun u hu=>?_,h5⟩
   ·cases i with
    |zero=>exact .nil
    |succ i=>exact h2 i (by simpa using hi) (by simpa using hv) (by simpa using hs')
   ·rcases List.mem_cons.1 hu with rfl|hu
    ·rfl
    ·exact h4 u hu
 | @gt j zs n k cs ds js hj hn h ih=>
  intro vs hl hrel;match vs,hl with
  |v::vs,hl=>
   obtain⟨Sl,h1,h2,h3,h4,h5⟩:=ih (vs:=vs) (by simpa using hl) (fun i hi hv=>hrel (i+1) (by simpa using hi) (by simpa using hv));have h0:=hrel 0 oh oh;simp only[List.getElem_cons_zero] at h0;obtain⟨⟨ad,cap0,hv0⟩,hcl⟩:=h0.gt_inv;obtain⟨hkx,htip⟩:=(hcl n k (zaj.2 hj)).2 hn;have key:TreeD true w (.sl zs) v (G.loc j)/\(G.loc j).Nodup/\∀b,b∈G.loc j->G.F b=0:=by
    rcases htip with ⟨e1,e2,e3⟩|⟨b,cap,us,e,Ss,e1,e2,e3,e4,e5,e6,e7,e8⟩
    ·have hz:zs=[]:=List.eq_nil_of_length_eq_zero oe;subst hz;rw[e1,e3];exact⟨.nil,by simp,by simp⟩
    ·refine⟨?_,e6,e7⟩;subst hn;rw[e1,e2];exact TreeD.sl (m:=true) zs k b cap us e Ss hkx e5 e3 e4 e8.1 (fun _ hz=>e8.2 (by rw[hz];rfl))
   refine⟨G.loc j::Sl,by simp[h1],fun i hi hv hs'=>?_,by simp[h3],fun u hu=>?_,fun q hq=>?_⟩
   ·cases i with
    |zero=>exact key.1
    |succ i=>exact h2 i (by simpa using hi) (by simpa using hv) (by simpa using hs')
   ·rcases List.mem_cons.1 hu with rfl|hu
    ·rw[hv0];rfl
    ·exact h4 u hu
   ·rcases List.mem_cons.1 hq with rfl|hq
    ·exact key.2
    ·exact h5 q hq
def ndB:List Nat->Bool
 | []=>true
 |x::r=> !zaH x r&&ndB r
theorem zic:∀ {l:List Nat},ndB l=true->l.Nodup
 | [],_=> .nil
 |x::r,h=>by
  simp only[ndB,xad,Bool.not_eq_true'] at h;refine List.nodup_cons.2 ⟨fun hm=>?_,zic h.2⟩;rw[zat.2 hm] at h;cases h.1
theorem zho {loc:Nat->List Nat}:∀ {l:List Nat},l.Nodup->(∀j,j∈l->(loc j).Nodup)->(∀i j,i∈l->j∈l->i≠j->∀b,b∈loc i->b∉loc j)->(l.flatMap loc).Nodup
 | [],_,_,_=>by simp
 |x::r,h,h1,h2=>by
  have hn:=List.nodup_cons.1 h;simp only[List.flatMap_cons,List.nodup_append,List.mem_flatMap];refine⟨h1 x oh,zho hn.2 (fun j hj=>h1 j (by simp[hj])) (fun i j hi hj=>h2 i j (by simp[hi]) (by simp[hj])),fun b hb b' hb' e=>?_⟩;obtain⟨j,hj,hbj⟩:=hb';subst e;exact h2 x j oh (by simp[hj]) (fun e=>by subst e;exact hn.1 hj) b hb hbj
theorem zcv {α:Type}{f:Nat->List α} (n m:Nat):(List.range (n+m)).flatMap f=(List.range n).flatMap f++(List.range m).flatMap (fun i=>f (n+i)):=by
 rw[List.range_add,List.flatMap_append];congr 1
 simp[List.flatMap_map]
theorem zeA {α:Type}:∀(l:List (List α)),(List.range l.length).flatMap (fun i=>l.getD i [])=l.flatten
 | []=>rfl
 |x::r=>by
  rw[xab,show r.length+1=1+r.length by omega,zcv];simp only[List.flatten_cons,<-zeA r];congr 1
  ·simp[List.range_succ]
  ·congr 1;funext i;rw[show 1+i=i+1 by omega];rfl
theorem zcD {α:Type}{f g:Nat->List α} (n:Nat) (h:∀i,i<n->f i=g i):(List.range n).flatMap f=(List.range n).flatMap g:=by
 induction n with
 |zero=>rfl
 |succ n ih=>rw[zcv,zcv,ih (fun i hi=>h i oe)];simp[h n oe]
theorem zl6 {t:TypeId}{G:Gh}{s:St}{a:Act}{w:World}{hp1:Hp} (hr:R c G ⟨s.env,hp1⟩ a w){id m k e yb cap2:Nat}{xs ys:List (List D)}{v:Value}{a0:Addr}{news:List Value}{Sl:List (List Nat)} (ht:SlT c.P t e k yb){z:Value} (hz:∃i,c.P.info? e=some i/\i.zero=some z/\z.cells.size=k)
  (htok1:getH hp1 id=some (.tok xs.length k)) (hkx:∀x,x∈xs->x.length=k) (htip:TipT G w id xs.length k v xs) (hky:∀y,y∈ys->y.length=k) (hym:ys.length=m) (hmpos:0<m)
  (hnl:news.length=m*k) (hnews:∀j u,news[j]?=some u->w.cell? (a0.add j)=some u) (hone:∀u,u∈news->u.oneCell'=true) (hSl:Sl.length=m*k)
  (htr:∀i (hi:i<ys.length) j (hj:j<ys[i].length) (hv:i*k+j<news.length),TreeD true w ys[i][j] news[i*k+j] (Sl.getD (i*k+j) []))
  (newNodup:Sl.flatten.Nodup) (newF:∀b,b∈Sl.flatten->G.F b=0) (newLt:∀b,b∈Sl.flatten->b<w.heap.size) (newOwn:∀b,b∈Sl.flatten->b∈c.own\/c.w0.heap.size<=b)
  (newApart1:∀b,b∈Sl.flatten->∀i,i≠id->(getH hp1 i).isSome->b∉G.loc i) (newNe:∀x,x∈Sl.flatten->x∉G.loc id)
  (hb:(xs.length+m)*yb<=140737488355328) (hm:xs.length+m<=9223372036854775807) (opt:TypeId):
  ∃v' w' G',(Builtin.append_ #[t,t] opt #[v,.slice (some a0) m cap2]).run c.P w = .ok v' w'/\
   R c G' ⟨s.env,(id,some (.tok (xs.length+m) k))::hp1⟩ a w'/\
   RelA G' (tokf ((id,some (.tok (xs.length+m) k))::hp1)) w' (.gt id (xs++ys)) v':=by
 obtain⟨i,hi1,hi2,hi3⟩:=ht.inf;obtain⟨i',z1,z2,z3⟩:=hz;rw[hi1] at z1;cases z1
 have hT':tokf ((id,some (.tok (xs.length+m) k))::hp1) id=some (xs.length+m,k):=zaj.2 o6;have hlt:∀b o,o<G.F b->b<w.heap.size:=fun b o ho=>by
  rcases Nat.lt_or_ge b w.heap.size with h|h
  ·exact h
  ·rw[hr.top b h] at ho;omega
 have hkx':∀x,x∈xs++ys->x.length=k:=fun x hx=>by
  rcases List.mem_append.1 hx with h|h
  ·exact hkx x h
  ·exact hky x h
 have hmul1:(xs.length+m)*k=xs.length*k+m*k:=by rw[Nat.add_mul]
 have hlen':(xs++ys).length=xs.length+m:=by rw[xaa,hym]
 let Sn:(Nat->List Nat)->Nat->List Nat:=fun Ss q=>if q<xs.length*k then Ss q else Sl.getD (q-xs.length*k) []
 have hSn:∀Ss,(List.range ((xs.length+m)*k)).flatMap (Sn Ss)=(List.range (xs.length*k)).flatMap Ss++Sl.flatten:=fun Ss=>by
  rw[hmul1,zcv];congr 1
  ·exact zcD _ (fun i hi=>by simp[Sn,hi])
  ·rw[<-zeA Sl,hSl];refine zcD _ (fun i hi=>?_);simp only[Sn];rw[if_neg oe,show xs.length*k+i-xs.length*k=i by omega]

 have trees:∀(Ss:Nat->List Nat) (olds:List Value) (tail:List Value) (w':World),olds.length=xs.length*k->(∀b,b∈(List.range (xs.length*k)).flatMap Ss++Sl.flatten->w'.heap[b]?=w.heap[b]?)->
   (∀i (hi:i<xs.length) j (hj:j<xs[i].length),TreeD true w xs[i][j] (olds.getD (i*k+j) undef) (Ss (i*k+j)))->
   ∀i (hi:i<(xs++ys).length) j (hj:j<(xs++ys)[i].length),TreeD true w' (xs++ys)[i][j] ((olds++news++tail).toArray.getD (i*k+j) undef) (Sn Ss (i*k+j)):=by
  intro Ss olds tail w' hol hw hold i hi j hj;by_cases hix:i<xs.length
  ·have e0:(xs++ys)[i]=xs[i]:=List.getElem_append_left hix;have hj':j<xs[i].length:=by rw[<-e0];exact hj
   have h1:xs[i].length=k:=hkx _ (xao hix);have hlt':i*k+j<xs.length*k:=zb7 hix oe;have e1:(olds++news++tail).toArray.getD (i*k+j) undef=olds.getD (i*k+j) undef:=by
    simp[List.getD,xar,List.getElem?_append_left (show i*k+j<olds.length by omega)]
   have e2:Sn Ss (i*k+j)=Ss (i*k+j):=by simp[Sn,hlt']
   rw[e1,e2];have e3:(xs++ys)[i][j]=xs[i][j]:=by congr 1
   rw[e3];refine(hold i hix j hj').mono (fun b hb=>hw b ?_);exact List.mem_append_left _ (List.mem_flatMap.2 ⟨i*k+j,List.mem_range.2 hlt',hb⟩)
  ·have hiy:i-xs.length<ys.length:=by omega
   have e0:(xs++ys)[i]=ys[i-xs.length]:=List.getElem_append_right oe;have hj':j<ys[i-xs.length].length:=by rw[<-e0];exact hj
   have e3:(xs++ys)[i][j]=ys[i-xs.length][j]:=by congr 1
   have hjk:j<k:=by rw[<-hky _ (xao hiy)];exact hj'
   have hq:(i-xs.length)*k+j<m*k:=zb7 oe hjk;have hpos:i*k+j=xs.length*k+((i-xs.length)*k+j):=by
    rw[show i*k=xs.length*k+(i-xs.length)*k by rw[<-Nat.add_mul];congr 1;omega];omega
   have hjn:(i-xs.length)*k+j<news.length:=by omega
   have e1:(olds++news++tail).toArray.getD (i*k+j) undef=news[(i-xs.length)*k+j]:=by
    rw[hpos,<-hol];simp[List.getD,xar,List.getElem?_append_right,List.getElem?_append_left hjn,hjn]
   have hjs:(i-xs.length)*k+j<Sl.length:=by omega
   have e2:Sn Ss (i*k+j)=Sl.getD ((i-xs.length)*k+j) []:=by
    simp only[Sn];rw[hpos,if_neg oe,show xs.length*k+((i-xs.length)*k+j)-xs.length*k=(i-xs.length)*k+j by omega]
   rw[e1,e2,e3];refine(htr _ hiy j hj' hjn).mono (fun b hb=>hw b ?_);have e4:Sl.getD ((i-xs.length)*k+j) []=Sl[(i-xs.length)*k+j]:=by simp[List.getD,hjs]
   rw[e4] at hb;exact List.mem_append_right _ (List.mem_flatten.2 ⟨_,xao hjs,hb⟩)
 have hidlt:∀b,b∈G.loc id->b<w.heap.size:=(hr.heap id _ htok1).bound

 have fresh:∀(Ss:Nat->List Nat) (olds:List Value) (nc:Nat),olds.length=xs.length*k->xs.length+m<=nc->
   ((List.range (xs.length*k)).flatMap Ss).Nodup->(∀b,b∈(List.range (xs.length*k)).flatMap Ss->b∈G.loc id/\G.F b=0)->
   (∀i (hi:i<xs.length) j (hj:j<xs[i].length),TreeD true w xs[i][j] (olds.getD (i*k+j) undef) (Ss (i*k+j)))->
   ∃G',R c G' ⟨s.env,(id,some (.tok (xs.length+m) k))::hp1⟩ a (w.drew.alloc (.cells (olds.toArray++news.toArray++Builtin.zeroCells z.cells (nc-(xs.length+m))) e))/\
    RelA G' (tokf ((id,some (.tok (xs.length+m) k))::hp1)) (w.drew.alloc (.cells (olds.toArray++news.toArray++Builtin.zeroCells z.cells (nc-(xs.length+m))) e))
     (.gt id (xs++ys)) (.slice (some ⟨w.heap.size,0,none⟩) (xs.length+m) nc):=by
  intro Ss olds nc hol hnc' hndS hSin hold;let cs':Array Value:=olds.toArray++news.toArray++Builtin.zeroCells z.cells (nc-(xs.length+m))
  let G':Gh:={ F:=G.F,loc:=fun j=>bif Nat.beq j id then w.heap.size::(List.range ((xs.length+m)*k)).flatMap (Sn Ss) else G.loc j }
  have hcs:cs'.size=nc*k:=by
   simp only[cs',Array.size_append,List.size_toArray,size_zeroCells,z3,hol,hnl];rw[<-hmul1,<-Nat.add_mul];congr 1;omega
  have hcell:∀b o,o<G.F b->o<G'.F b/\(w.drew.alloc (.cells cs' e)).cell? ⟨b,o,none⟩=w.cell? ⟨b,o,none⟩:=fun b o ho=>by
   have hb:=hlt b o ho;exact⟨ho,by rw[World.cell?_alloc_lt w.drew _ _ hb];rfl⟩
  have hlocne:∀j,j≠id->G'.loc j=G.loc j:=fun j hj=>by simp[G',zcK hj]
  have hlocid:G'.loc id=w.heap.size::(List.range ((xs.length+m)*k)).flatMap (Sn Ss):=by simp[G']
  have hlocid':G'.loc id=w.heap.size::((List.range (xs.length*k)).flatMap Ss++Sl.flatten):=by rw[hlocid,hSn]
  have hmem:∀b,b∈(List.range (xs.length*k)).flatMap Ss++Sl.flatten->b<w.heap.size:=fun b hb=>by
   rcases List.mem_append.1 hb with h|h
   ·exact hidlt b (hSin b h).1
   ·exact newLt b h
  refine⟨G',hr.retokG (G':=G') htok1 oe hcell hlocne (fun b hb _=>⟨zdp (w:=w.drew) hb,rfl⟩) (fun b hb=>?_) (fun b hb=>?_) rfl rfl rfl oh (fun b hb=>?_), ?_⟩
  ·rw[hlocid'] at hb;have hsz1:(w.drew.alloc (.cells cs' e)).heap.size=w.heap.size+1:=by simp
   show b<(w.drew.alloc (.cells cs' e)).heap.size
   rw[hsz1];rcases List.mem_cons.1 hb with rfl|hb
   ·exact Nat.lt_succ_self _
   ·exact Nat.lt_succ_of_lt (hmem b hb)
  ·rw[hlocid'] at hb;rcases List.mem_cons.1 hb with rfl|hb
   ·exact .inr (.inl (Nat.le_refl _))
   ·rcases List.mem_append.1 hb with h|h
    ·exact .inl (hSin b h).1
    ·exact .inr (.inr ⟨newOwn b h,newApart1 b h⟩)
  ·have hb':w.heap.size+1<=b:=by simpa using hb
   exact hr.top b oe
  refine .gt ⟨_,_,by rw[hlen']⟩ (fun n' k' hm'=>?_);rw[hT'] at hm';cases hm'
  have hnodup:(G'.loc id).Nodup:=by
   rw[hlocid'];refine List.nodup_cons.2 ⟨fun h=>absurd (hmem _ h) (Nat.lt_irrefl _),List.nodup_append.2 ⟨hndS,newNodup,fun b hb b' hb' e=>?_⟩⟩;subst e;exact newNe b hb' (hSin b hb).1
  refine⟨by rw[hlen'];exact Nat.le_refl _,fun _=>⟨hkx',.inr ⟨w.heap.size,nc,cs',e,Sn Ss,hlocid,I,zd2 (w:=w.drew),by rw[hcs];exact Nat.le_refl _,hnc',hnodup,fun b hb=>?_, ?_,fun h=>by omega⟩⟩⟩
  ·rw[hlocid'] at hb;rcases List.mem_cons.1 hb with rfl|hb
   ·exact hr.top _ (Nat.le_refl _)
   ·rcases List.mem_append.1 hb with h|h
    ·exact(hSin b h).2
    ·exact newF b h
  ·have:=trees Ss olds (Builtin.zeroCells z.cells (nc-(xs.length+m))).toList (w.drew.alloc (.cells cs' e)) hol (fun b hb=>zdp (w:=w.drew) (hmem b hb)) hold;have ec:cs'=(olds++news++(Builtin.zeroCells z.cells (nc-(xs.length+m))).toList).toArray:=by
    apply Array.ext';simp[cs']
   intro i hi j hj;rw[ec];exact this i hi j hj
 rcases htip with ⟨h1,h2,h3⟩|⟨b,cap,cs,et,Ss,h1,h2,h3,h4,h5,h6,h7,h8,_⟩
 ·
  have hx0:xs=[]:=List.eq_nil_of_length_eq_zero h2;subst hx0;subst h3;have hm':m<=9223372036854775807:=by simpa using hm
  have hb':m*yb<=140737488355328:=by simpa using hb
  have hrun:=run_append_nil (P:=c.P) w t opt e i z ht.und hi1 z2 a0 m cap2 news (by rw[hi2,hnl]) hnews hmpos oe (by rw[hi3];omega);obtain⟨G',hR,hA⟩:=fresh (fun _=>[]) [] (grownCap w m 0 e) oh (by
   have:=grownCap_ge w m 0 e;simpa using this) oh (fun b hb=>by simp at hb) (fun i hi=>by simp at hi)
  simp only[List.nil_append,xak,Nat.zero_add,Array.empty_append] at hR hA hrun ⊢;exact⟨_,_,G',hrun,hR,hA⟩
 ·subst h2;have hmul:xs.length*k<=cs.size:=Nat.le_trans (xav _ h5) h4;have hold:∀i (hi:i<xs.length) j (hj:j<xs[i].length),TreeD true w xs[i][j] ((cs.toList.take (xs.length*k)).getD (i*k+j) undef) (Ss (i*k+j)):=fun i hi j hj=>by
   have h9:xs[i].length=k:=hkx _ (xao hi);have hlt':i*k+j<xs.length*k:=zb7 hi oe;have e1:(cs.toList.take (xs.length*k)).getD (i*k+j) undef=cs.getD (i*k+j) undef:=by
    have hs:i*k+j<cs.size:=by omega
    simp[List.getD,List.getElem?_take,hlt',Array.getD,hs]
   rw[e1];exact h8 i hi j hj
  have hbl:b∈G.loc id:=by rw[h1];simp
  have hbs:b<w.heap.size:=hidlt b hbl;have h1n:(b::(List.range (xs.length*k)).flatMap Ss).Nodup:=by rw[<-h1];exact h6
  have hin:∀x,x∈(List.range (xs.length*k)).flatMap Ss->x∈G.loc id/\G.F x=0:=fun x hx=>by
   have:x∈G.loc id:=by rw[h1];exact List.mem_cons_of_mem _ hx
   exact⟨this,h7 x this⟩
  by_cases hroom:xs.length+m<=cap
  ·
   have hfit:xs.length*i.size+news.length<=cs.size:=by
    rw[hi2,hnl,<-hmul1];exact Nat.le_trans (xav _ hroom) h4
   have hrun:=zd5 (P:=c.P) t opt e i ht.und hi1 b xs.length cap cs et h3 a0 m cap2 news (by rw[hi2,hnl]) hnews hone hroom hfit;rw[hi2] at hrun hfit;let rw':Array Value:=(cs.toList.take (xs.length*k)++news++cs.toList.drop (xs.length*k+news.length)).toArray
   have hrs:rw'.size=cs.size:=by
    simp only[rw',List.size_toArray,xaa,List.length_take,List.length_drop,Array.length_toList];omega
   let G':Gh:={ F:=G.F,loc:=fun j=>bif Nat.beq j id then b::(List.range ((xs.length+m)*k)).flatMap (Sn Ss) else G.loc j }
   have hlocne:∀j,j≠id->G'.loc j=G.loc j:=fun j hj=>by simp[G',zcK hj]
   have hlocid:G'.loc id=b::(List.range ((xs.length+m)*k)).flatMap (Sn Ss):=by simp[G']
   have hlocid':G'.loc id=b::((List.range (xs.length*k)).flatMap Ss++Sl.flatten):=by rw[hlocid,hSn]
   have hFb:G.F b=0:=h7 b hbl;have hcell:∀b' o,o<G.F b'->o<G'.F b'/\(w.setRow b rw').cell? ⟨b',o,none⟩=w.cell? ⟨b',o,none⟩:=fun b' o ho=>by
    have hbb:b'≠b:=fun e=>by subst e;omega
    exact⟨ho,cell_setRow_other w b rw' _ hbb⟩
   have hmem:∀x,x∈(List.range (xs.length*k)).flatMap Ss++Sl.flatten->x<w.heap.size/\x≠b:=fun x hx=>by
    rcases List.mem_append.1 hx with h|h
    ·exact⟨hidlt x (hin x h).1,fun e=>by subst e;exact(List.nodup_cons.1 h1n).1 h⟩
    ·exact⟨newLt x h,fun e=>by subst e;exact newNe x h hbl⟩
   refine⟨_,_,G',hrun,hr.retokG (G':=G') htok1 oe hcell hlocne (fun b' hb' hn=>?_) (fun x hx=>?_) (fun x hx=>?_) rfl rfl rfl oh (fun b' hb'=>?_), ?_⟩
   ·have hne:b'≠b:=fun e=>hn (by rw[e];exact hbl);exact⟨setRow_other w b b' rw' hne,rfl⟩
   ·rw[hlocid'] at hx;have:(w.setRow b rw').heap.size=w.heap.size:=by simp
    rw[this];rcases List.mem_cons.1 hx with rfl|hx
    ·exact hbs
    ·exact(hmem x hx).1
   ·rw[hlocid'] at hx;rcases List.mem_cons.1 hx with rfl|hx
    ·exact .inl hbl
    ·rcases List.mem_append.1 hx with h|h
     ·exact .inl (hin x h).1
     ·exact .inr (.inr ⟨newOwn x h,newApart1 x h⟩)
   ·have hb2':w.heap.size<=b':=by simpa using hb'
    exact hr.top b' hb2'
   ·refine .gt ⟨_,_,by rw[hlen']⟩ (fun n' k' hm'=>?_);rw[hT'] at hm';cases hm'
    have hnodup:(G'.loc id).Nodup:=by
     rw[hlocid'];refine List.nodup_cons.2 ⟨fun h=>absurd I (hmem _ h).2,List.nodup_append.2 ⟨(List.nodup_cons.1 h1n).2,newNodup,fun x hx x' hx' e=>?_⟩⟩;subst e;exact newNe x hx' (hin x hx).1
    refine⟨by rw[hlen'];exact Nat.le_refl _,fun _=>⟨hkx',.inr ⟨b,cap,rw',et,Sn Ss,hlocid,I,setRow_heap w b cs rw' et _ h3,by rw[hrs];exact h4,hroom,hnodup,fun x hx=>?_, ?_,fun h=>by omega⟩⟩⟩
    ·rw[hlocid'] at hx;rcases List.mem_cons.1 hx with rfl|hx
     ·exact hFb
     ·rcases List.mem_append.1 hx with h|h
      ·exact(hin x h).2
      ·exact newF x h
    ·exact trees Ss (cs.toList.take (xs.length*k)) _ (w.setRow b rw') ot (fun x hx=>setRow_other w b x rw' (hmem x hx).2) hold
  ·
   have hrun:=run_append_grow (P:=c.P) w t opt e i z ht.und hi1 z2 ⟨b,0,none⟩ xs.length cap (cs.toList.take (xs.length*k)) (by rw[hi2];simp;omega)
    (fun j u hj=>by
     rw[zcH];obtain⟨hj1,hj2⟩:=List.getElem?_eq_some_iff.1 hj;simp only[List.getElem_take] at hj2;have hjs:j<cs.size:=by simp at hj1;omega
     simp only[World.cell?,h3,Option.isSome_none,Bool.false_eq_true,if_false,Nat.zero_add];rw[Array.getElem?_eq_getElem hjs,<-hj2];simp) a0 m cap2 news (by rw[hi2,hnl]) hnews oe oe (by rw[hi3];exact growslice_fits oe hb)
   obtain⟨G',hR,hA⟩:=fresh Ss (cs.toList.take (xs.length*k)) (grownCap w (xs.length+m) cap e) ot (by have:=grownCap_ge w (xs.length+m) cap e;omega) (List.nodup_cons.1 h1n).2 hin hold;exact⟨_,_,G',hrun,hR,hA⟩
theorem zhT {t:TypeId}{G:Gh}{s:St}{a:Act}{w:World} (hr:R c G s a w){id b0 m k e yb:Nat}{xs:List (List D)}{cells:List AV}{row:List D}{js:List (Nat×Nat×Nat)}{v u:Value} (ht:SlT c.P t e k yb){z:Value} (hz:∃i,c.P.info? e=some i/\i.zero=some z/\z.cells.size=k)
  (hkb:∀l,c.kept b0≠some l) (htok:getH s.hp id=some (.tok xs.length k)) (hbox:getH s.hp b0=some (.box cells)) (hrow:RowT s.hp cells row js) (hck:cells.length=k) (hnd:ndB (id::js.map (·.1))=true)
  (hv:RelA G (tokf s.hp) w (.gt id xs) v) (hu:RelA G (tokf s.hp) w (.ms b0 m) u) (hm1:m=1)
  (hb:(xs.length+1)*yb<=140737488355328) (hm:xs.length+1<=9223372036854775807) (opt:TypeId):
  ∃v' w' G',(Builtin.append_ #[t,t] opt #[v,u]).run c.P w = .ok v' w'/\
   R c G' ⟨s.env,(id,some (.tok (xs.length+1) k))::((b0::js.map (·.1)).map (fun j=>(j,none))++s.hp)⟩ a w'/\
   RelA G' (tokf ((id,some (.tok (xs.length+1) k))::((b0::js.map (·.1)).map (fun j=>(j,none))++s.hp))) w' (.gt id (xs++[row])) v':=by
 subst hm1;obtain⟨⟨base,cap0,hv0⟩,hcl⟩:=hv.gt_inv;have hT:tokf s.hp id=some (xs.length,k):=zaj.2 htok;obtain⟨hkx,htip⟩:=(hcl _ _ hT).2 rfl

 obtain⟨bb,us,eb,hl0,hat0,hlen0,hF0,hcell0⟩:=hr.heap b0 _ hbox;have hu':∃cap2,u = .slice (some ⟨bb,0,none⟩) 1 cap2/\1<=cap2:=by
  cases hu with
  | @ms _ _ b cap h hT hcap=>
   have:b=bb:=zcS h hl0;subst this;exact⟨cap,rfl,hcap⟩
 obtain⟨cap2,rfl,hcap2⟩:=hu';let news:List Value:=us.toList.take k
 have hks:k<=us.size:=by omega
 have hnl:news.length=k:=by simp[news];omega
 have hnews:∀j u,news[j]?=some u->w.cell? ((⟨bb,0,none⟩:Addr).add j)=some u:=fun j u hj=>by
  obtain⟨hj1,hj2⟩:=List.getElem?_eq_some_iff.1 hj;simp only[news,List.getElem_take] at hj2;have hjs:j<us.size:=by omega
  rw[zcH];simp only[World.cell?,hat0,Option.isSome_none,Bool.false_eq_true,if_false,Nat.zero_add];rw[Array.getElem?_eq_getElem hjs,<-hj2];simp
 have hrel:∀i (hi:i<cells.length) (hv:i<news.length),RelA G (tokf s.hp) w cells[i] news[i]:=fun i hi hv=>by
  have:=hcell0 i hi oe;have e1:news[i]=us[i]' oe:=by simp[news]
  rw[e1];exact this
 obtain⟨Sl,hSl,htr,hfl,hone,hjn⟩:=hrow.trees (by rw[hnl,hck]) hrel;have hrl:row.length=k:=by rw[hrow.len,hck]
 have hnd':=zic hnd;have hnd2:=List.nodup_cons.1 hnd';have htoks:=hrow.toks;have tokJ:∀j,j∈js.map (·.1)->∃n q,getH s.hp j=some (.tok n q):=fun j hj=>by
  obtain⟨q,hq,rfl⟩:=List.mem_map.1 hj;exact⟨_,_,htoks q hq⟩
 have hflm:js.flatMap (fun q=>G.loc q.1)=(js.map (·.1)).flatMap G.loc:=by rw[List.flatMap_map]
 rw[hflm] at hfl;have newIn:∀b,b∈Sl.flatten->∃j,j∈js.map (·.1)/\b∈G.loc j:=fun b hb=>by rw[hfl] at hb;exact List.mem_flatMap.1 hb
 have hdr:=hr.drop (b0::js.map (·.1)) (fun i l hk hm=>by
  rcases List.mem_cons.1 hm with rfl|hm
  ·exact hkb l hk
  ·obtain⟨n,q,h⟩:=tokJ i hm;have:=(hr.kept i l hk).2.2;rw[zaj.2 h] at this;cases this)
 have hidb:id∉b0::js.map (·.1):=fun hm=>by
  rcases List.mem_cons.1 hm with rfl|hm
  ·rw[htok] at hbox;cases hbox
  ·exact hnd2.1 hm
 have hg1:∀i,getH ((b0::js.map (·.1)).map (fun j=>(j,(none:Option Res)))++s.hp) i=if i∈b0::js.map (·.1) then none else getH s.hp i:=fun i=>zff _ _ _
 exact zl6 (s:=s) hdr (m:=1) (ys:=[row]) (Sl:=Sl) (news:=news) ht hz (by rw[hg1,if_neg hidb];exact htok) hkx htip (fun y hy=>by simp only[List.mem_singleton] at hy;rw[hy];exact hrl) I oe
  oe hnews hone (by rw[hSl,hck];omega)
  (fun i hi j hj hvn=>by
   have:i=0:=by simpa using hi
   subst this;simp only[Nat.zero_mul,Nat.zero_add] at hvn ⊢;have hj':j<row.length:=hj;have hjs:j<Sl.length:=by omega
   have e4:Sl.getD j []=Sl[j]:=by simp[List.getD,hjs]
   rw[e4];exact htr j hj' hvn hjs)
  (by
   rw[hfl];refine zho hnd2.2 (fun j hj=>?_) (fun i j hi hj hne=>?_)
   ·obtain⟨q,hq,rfl⟩:=List.mem_map.1 hj;exact(hjn q hq).1
   ·obtain⟨n1,q1,h1⟩:=tokJ i hi;obtain⟨n2,q2,h2⟩:=tokJ j hj;exact hr.disj i j (by rw[h1];rfl) (by rw[h2];rfl) hne)
  (fun b hb=>by
   obtain⟨j,hj,hbj⟩:=newIn b hb;obtain⟨q,hq,rfl⟩:=List.mem_map.1 hj;exact(hjn q hq).2 b hbj)
  (fun b hb=>by
   obtain⟨j,hj,hbj⟩:=newIn b hb;obtain⟨n1,q1,h1⟩:=tokJ j hj;exact(hr.heap j _ h1).bound b hbj)
  (fun b hb=>by
   obtain⟨j,hj,hbj⟩:=newIn b hb;obtain⟨n1,q1,h1⟩:=tokJ j hj;exact hr.new j (by rw[h1];rfl) b hbj)
  (fun b hb i _ hs=>by
   rw[hg1] at hs;split at hs
   ·cases hs
   ·rename_i hni;intro hbi;obtain⟨j,hj,hbj⟩:=newIn b hb;obtain⟨n1,q1,h1⟩:=tokJ j hj;exact hr.disj j i (by rw[h1];rfl) hs (fun e=>by subst e;exact hni (List.mem_cons_of_mem _ hj)) b hbj hbi)
  (fun b hb hbi=>by
   obtain⟨j,hj,hbj⟩:=newIn b hb;obtain⟨n1,q1,h1⟩:=tokJ j hj;exact hr.disj j id (by rw[h1];rfl) (by rw[htok];rfl) (fun e=>by subst e;exact hnd2.1 hj) b hbj hbi) hb hm opt
theorem R.mkTokT {G:Gh}{s:St}{a:Act}{w:World} (hr:R c G s a w){id:Nat} (k:Nat) (h0:getH s.hp id=none) (hocc:zbV id s):
  ∃G',R c G' { s with hp:=(id,some (.tok 0 k))::s.hp } a w/\RelA G' (tokf ((id,some (.tok 0 k))::s.hp)) w (.gt id []) (.slice none 0 0):=by
 have h1:=hr.rename h0 hocc [];have hl:(fun i=>bif Nat.beq i id then ([]:List Nat) else G.loc i) id=[]:=by simp
 refine⟨_,h1.name h0 hocc (fun b hb=>by simp at hb) (fun i _ b _ hb=>by simp at hb) (fun b hb=>by simp at hb), ?_⟩;refine .gt ⟨none,0,I⟩ (fun n k' hT=>?_);have:=zaj.1 hT;rw[zac,if_pos rfl] at this;cases this
 exact⟨Nat.le_refl _,fun _=>⟨by simp,.inl ⟨hl,rfl,rfl⟩⟩⟩
end
section
variable {c:Ctx}{all:Array Oper}{chk:List Rec->Prop}{os:List Oper}{recs:List Rec}{env:Env}{hp:Hp}{Q:St->Prop}
variable {d ty:Nat}{pos:String}{af:Array Edge}{g:Option (Nat×Bool)}{pg:List (Nat×AV)}
variable {t yt:TypeId}{x y:Operand}
theorem xbv {ids:List Nat}{id b0 m k e yb:Nat}{xs:List (List D)}{cells:List AV}{row:List D}{js:List (Nat×Nat×Nat)} (hkp:KeptIn c.kept ids) (hkb:zaH b0 ids=false) (ht:SlT c.P t e k yb) (hz:ZeroT c.P e k) (hg:GH all env g pg) (hd:Nat.blt d c.n=true)
  (hx:opd env x=some (.gt id xs)) (hy:opd env y=some (.ms b0 m)) (hm1:m=1) (htok:getH hp id=some (.tok xs.length k)) (hbox:getH hp b0=some (.box cells)) (hrow:RowT hp cells row js) (hck:cells.length=k) (hnd:ndB (id::js.map (·.1))=true)
  (hb:(xs.length+1)*yb<=140737488355328) (hm:xs.length+1<=9223372036854775807)
  (hn:Walk c all chk os (zak (pg++(opF x (.gt id xs)++opF y (.ms b0 m))) ((id,.tok xs.length k)::(b0,.box cells)::js.map (fun q=>(q.1,.tok q.2.1 q.2.2))) [] ⟨some (d,.gt id (xs++[row])),(id,some (.tok (xs.length+1) k))::(b0::js.map (·.1)).map (fun j=>(j,none))⟩::recs)
   ⟨(d,.gt id (xs++[row]))::env,(id,some (.tok (xs.length+1) k))::((b0::js.map (·.1)).map (fun j=>(j,none))++hp)⟩ Q):
  Walk c all chk (⟨some d,.call ⟨.builtin .append,#[x,y],#[t,t]⟩,ty,pos,af,g⟩::os) recs ⟨env,hp⟩ Q:=by
 refine⟨pg++(opF x (.gt id xs)++opF y (.ms b0 m)),(id,.tok xs.length k)::(b0,.box cells)::js.map (fun q=>(q.1,.tok q.2.1 q.2.2)),[],_, ?_,zap hg.facts (zap (zaR hx) (zaR hy)),fun p hm=>?_,by simp,hn⟩
 ·intro s a w hrel hp' hh _ K Q' hK;obtain⟨G,hr⟩:=hrel;have e1:=hr.opd (zaT hx (fun p hm=>hp' p (by simp[hm])));have e2:=hr.opd (zaT hy (fun p hm=>hp' p (by simp[hm])));obtain⟨i,z,z1,z2,z3⟩:=hz.out;obtain⟨v',w',G',hrun,hR,hA⟩:=zhT hr ht ⟨i,z1,z2,z3⟩ (fun l hl=>by have:=zat.2 (hkp.mem _ l hl);rw[this] at hkb;cases hkb) (hh (id,_) oh) (hh (b0,_) oh)
   (hrow.move (fun q hq=>hh (q.1,.tok q.2.1 q.2.2) (by simp only[List.mem_cons,List.mem_map];exact .inr (.inr ⟨q,hq,I⟩)))) hck hnd e1 e2 hm1 hb hm ty
  unfold wpO;rw[if_pos (hg.gf.wanted hr (fun p hm=>hp' p (by simp[hm])))];unfold Oper.wp;have:(execOp a.eval ⟨some d,.call ⟨.builtin .append,#[x,y],#[t,t]⟩,ty,pos,af,g⟩).run c.P w = .ok (.value v') w':=by
   simp only[execOp,resolve,invoke,builtin,Sem.run_bind,Sem.run_pure,Result.andThen_ok,List.map_toArray,xaf,List.map_nil,hrun]
  rw[this,Oper.upon_value];exact hK _ _ ⟨G',hR.put hA hd⟩
 ·rcases List.mem_cons.1 hm with rfl|hm
  ·exact htok
  rcases List.mem_cons.1 hm with rfl|hm
  ·exact hbox
  ·obtain⟨q,hq,rfl⟩:=List.mem_map.1 hm;exact hrow.toks q hq
end
section
variable {c:Ctx}{env:Env}{hp:Hp}{K:Kt}{code:Code}{ids:List Nat}
theorem xaH (b off id k:Nat){cs cs':List AV} (hb:getH hp b=some (.box cs)) (h:cs[off]?=some .nils) (hput:putC cs off [.gt id []]=some cs') (hf:zae env hp [id]=true)
  (hn:CWp c code ⟨env,(b,some (.box cs'))::(id,some (.tok 0 k))::hp⟩ K):CWp c code ⟨env,hp⟩ K:=by
 intro a w hrel;obtain⟨G,hr⟩:=hrel;obtain⟨h0,hocc⟩:=zbq hf id oh;obtain⟨G',h1,h2⟩:=hr.mkTokT k h0 hocc;have hne:b≠id:=fun e=>by subst e;have h0':getH hp b=none:=h0;rw[h0'] at hb;cases hb
 have hb':getH ((id,some (Res.tok 0 k))::hp) b=some (.box cs):=by rw[zac,if_neg hne];exact hb
 obtain⟨bl,vs,e,e1,e2,e3,e4,e5⟩:=h1.heap b _ hb';obtain⟨hlt,hv⟩:=List.getElem?_eq_some_iff.1 h;have hlv:off<vs.size:=by omega
 have hval:vs[off] = .slice none 0 0:=by
  have:=e5 off hlt hlv;rw[hv] at this;generalize vs[off]=v at *;cases this;rfl
 have hall:PreR G' (tokf ((id,some (.tok 0 k))::hp)) w cs' vs:=by
  obtain⟨p1,p2,p3⟩:=zb0 hput;refine⟨by omega,fun i hi hvi=>?_⟩;have:=p3 i;rw[xan hi] at this;by_cases hio:i=off
  ·subst hio;rw[if_pos oh] at this;simp only[Nat.sub_self,List.getElem?_cons_zero,xae] at this;rw[this,hval];exact h2
  ·rw[if_neg (by simp only[xab,xak];omega)] at this;have hic:i<cs.length:=by omega
   rw[xan hic] at this;rw[Option.some.inj this];exact e5 i hic hvi
 have:=h1.setBox (vs':=vs) hb' e1 e2 e4 hall;have hw:w.setRow bl vs=w:=setRow_self w bl vs e _ e2;rw[hw] at this;exact hn a w ⟨G',this⟩
theorem CWp.tokT (t id k:Nat) (h:getE env t=some .nils) (hf:zae env hp [id]=true)
  (hn:CWp c code ⟨(t,.gt id [])::env,(id,some (.tok 0 k))::hp⟩ K):CWp c code ⟨env,hp⟩ K:=by
 intro a w hrel;obtain⟨G,hr⟩:=hrel;obtain⟨h0,hocc⟩:=zbq hf id oh;obtain⟨G',h1,h2⟩:=hr.mkTokT k h0 hocc;have hv:a.tmps.getD t undef = .slice none 0 0:=by
  have:=hr.slots t _ h;revert this
  generalize a.tmps.getD t undef=v;intro this;cases this;rfl
 exact hn a w ⟨G',h1.slot (by rw[hv];exact h2)⟩
end
section
variable {c:Ctx}{all:Array Oper}{chk:List Rec->Prop}{os:List Oper}{recs:List Rec}{env:Env}{hp:Hp}{Q:St->Prop}
variable {d ty:Nat}{pos:String}{af:Array Edge}{g:Option (Nat×Bool)}{pg:List (Nat×AV)}
variable {t yt:TypeId}{x y:Operand}
theorem Walk.lenGt {xs:List (List D)}{at_ e k yb id:Nat} (ht:SlT c.P at_ e k yb) (hg:GH all env g pg) (hd:Nat.blt d c.n=true) (hx:opd env x=some (.gt id xs))
  (hn:Walk c all chk os (zak (pg++opF x (.gt id xs)) [] [] ⟨some (d,.d (.i xs.length)),[]⟩::recs) ⟨(d,.d (.i xs.length))::env,hp⟩ Q):
  Walk c all chk (⟨some d,.call ⟨.builtin .len,#[x],#[at_]⟩,ty,pos,af,g⟩::os) recs ⟨env,hp⟩ Q:=
 xbY hg hd hx (fun a G T w h=>⟨.int .i64 xs.length,by
  obtain⟨⟨ad,cap,he⟩,_⟩:=h.gt_inv;simp[execOp,resolve,invoke,builtin,he,zeD ht],.d (.int _ _)⟩) hn
theorem xb4 {parts:Array (Nat×Operand)}{n:Nat}{ks:List Nat}{xs:List Operand}{vs zs r:List AV}{e k yb id:Nat} (ht:SlT c.P t e k yb) (hz:TyZ c.P e k zs) (hzk:zs.length=k) (hk:0<k)
  (hparts:parts=(ks.zip xs).toArray) (hlen:ks.length=xs.length) (hsmall:n*k<=16777216) (hpos:0<n) (hg:GH all env g pg) (hd:Nat.blt d c.n=true) (hx:opdL env xs=some vs)
  (hf:ze4 (fun i=>some (i*k,k)) (zaV n zs) (ks.zip vs)=some r) (hid:zaH id (AV.idsL r)=false) (h0:getH hp id=none) (ho1:occE id env=false) (ho2:occH id hp=false)
  (hn:Walk c all chk os (zak (pg++opFL xs vs) [] [id] ⟨some (d,.ms id n),[(id,some (.box r))]⟩::recs) ⟨(d,.ms id n)::env,(id,some (.box r))::hp⟩ Q):
  Walk c all chk (⟨some d,.buildSlice t n parts,ty,pos,af,g⟩::os) recs ⟨env,hp⟩ Q:=by
 subst hparts;refine xbV hg hd hx h0 ho1 ho2 hid (fun a G T w h=>?_) hn;obtain⟨ie,hi1,hi2,hi3⟩:=ht.inf;obtain⟨i',z,z1,z2,z3,z4⟩:=hz.inf;rw[hi1] at z1;cases z1
 have hz0:=zcw (G:=G) (T:=T) (w:=w) z4;have hzr:=zgD (by simpa using hz0) n oe;obtain⟨lv,hlv,hal⟩:=zel (ks.zip vs) (ks.zip (xs.map a.eval)) _ r _ hf hzr (by simp[h.1]) (zl4 h hlen);have hpos':¬n*ie.size=0:=by rw[hi2];exact Nat.ne_of_gt (Nat.mul_pos hpos hk)
 have hrun:=run_buildSlice (P:=c.P) w t e n ((ks.zip xs).toArray.map fun(i,x)=>(i,a.eval x)) lv ie z ht.und hi1 z3 (by rw[hi2];omega) hpos' (by
  rw[hi2,<-hlv];congr 1
  ·rw[hzk]
  ·simp[List.zip_map_right,Prod.map])
 refine⟨_,lv,e, ?_,hal,fun G' T' w' hl hT=> .ms (by rw[hl];rfl) hT (Nat.le_refl _)⟩;simp only[execOp,Sem.run_bind,hrun,Result.andThen_ok,Sem.run_pure]
end
theorem RelA.gv_move {G G':Gh}{T T':TokF}{w:World}{i j n k:Nat}{xs:List (List D)}{v:Value} (h:RelA G T w (.gv i xs) v) (hT:T i=some (n,k)) (hF:G'.F=G.F) (hl:G'.loc j=G.loc i) (hT':T' j=some (n,k)):RelA G' T' w (.gv j xs) v:=by
 obtain⟨hv,ht⟩:=h.gv_inv;refine .gv hv (fun n' k' he=>?_);rw[hT'] at he;cases he
 obtain⟨h1,h2⟩:=ht _ _ hT;refine⟨h1,fun hn=>?_⟩;obtain⟨h3,h4⟩:=h2 hn;refine⟨h3, ?_⟩;rcases h4 with ⟨a1,a2,a3⟩|⟨b,cap,cs,e,a1,a2,a3,a4,a5,a6,a7⟩
 ·exact .inl ⟨hl.trans a1,a2,a3⟩
 ·exact .inr ⟨b,cap,cs,e,hl.trans a1,a2,by rw[hF];exact a3,a4,a5,a6,fun q hq r hr=>(a7 q hq r hr).mono (fun x o ho=>⟨by rw[hF];exact ho,I⟩)⟩
def ziI (hpc hp0:Hp) (tk:List Nat):List Nat:=(hpc.map (·.1)++hp0.map (·.1)).filter fun x=> !zaH x tk
theorem zoG {hpc hp0:Hp}{tk:List Nat}{id:Nat}:id∈ziI hpc hp0 tk↔(id∈hpc.map (·.1)\/id∈hp0.map (·.1))/\id∉tk:=by
 unfold ziI;rw[List.mem_filter,List.mem_append];have:(!zaH id tk)=true↔id∉tk:=by
  rw[<-zat];cases zaH id tk<;>simp
 rw[this]
def zjL (tk K K0:List Nat):Nat×Option Res->Bool
 |(i,some (.box cs))=>zaH i K0||subB (AV.idsL cs) K
 |(i,some (.tree cs))=>zaH i K0||subB (AV.idsL cs) K
 |(_,some (.map _))=>true
 |(i,some (.tok _ _))=>zaH i tk
 |(_,none)=>false
def zqi (tk cr K:List Nat):Nat×Option Res->Bool
 |(_,some (.box cs))=>subB (AV.idsL cs) K
 |(_,some (.tree cs))=>subB (AV.idsL cs) K
 |(_,some (.map _))=>true
 |(i,some (.tok _ _))=>zaH i cr
 |(i,none)=>zaH i tk
def zlW:Option Res->Bool
 |some (.tok _ _)=>true
 |_=>false
def znj:Option Res->Bool
 |none=>true
 |_=>false
def tkB (hpc hp0:Hp) (i:Nat):Bool:=zlW (getH hpc i)&&(zaH i (hp0.map (·.1))&&znj (getH hp0 i))
def ziK (hpc hp0:Hp) (r:AV) (tk cr:List Nat):Bool:=
 tk.all (tkB hpc hp0)&&hpc.all (zjL tk (ziI hpc hp0 tk) (hp0.map (·.1)))&&hp0.all (zqi tk cr (ziI hpc hp0 tk))&&hp0.all (fun p=>zaH p.1 (hpc.map (·.1))||zaH p.1 cr)&&subB r.ids (ziI hpc hp0 tk)
theorem zpN {hpc hp0:Hp}{i:Nat} (h:tkB hpc hp0 i=true):zlW (getH hpc i)=true/\i∈hp0.map (·.1)/\getH hp0 i=none:=by
 unfold tkB at h;simp only[xad] at h;refine⟨h.1,zat.1 h.2.1, ?_⟩;cases hg:getH hp0 i with
 |none=>rfl
 |some x=>rw[hg] at h;exact absurd h.2.2 (by simp[znj])
theorem zgK {hp:Hp}{tk K K0:List Nat} (ha:hp.all (zjL tk K K0)=true){id:Nat} (h:id∈hp.map (·.1)):(getH hp id).isSome:=by
 induction hp with
 |nil=>simp at h
 |cons p t ih=>
  obtain⟨i,x⟩:=p;rw[zac];simp only[List.all_cons,xad] at ha;by_cases hi:id=i
  ·rw[if_pos hi];cases x with
   |none=>simp[zjL] at ha
   |some r=>rfl
  ·rw[if_neg hi];refine ih ha.2 ?_;simp only[xaf,List.mem_cons] at h;exact h.resolve_left hi
theorem zm7 {hp:Hp}{tk cr K:List Nat} (ha:hp.all (zqi tk cr K)=true){id:Nat} (hn:id∉tk) (h:id∈hp.map (·.1)):(getH hp id).isSome:=by
 induction hp with
 |nil=>simp at h
 |cons p t ih=>
  obtain⟨i,x⟩:=p;rw[zac];simp only[List.all_cons,xad] at ha;by_cases hi:id=i
  ·rw[if_pos hi];cases x with
   |none=>subst hi;exact absurd (zat.1 ha.1) hn
   |some r=>rfl
  ·rw[if_neg hi];refine ih ha.2 ?_;simp only[xaf,List.mem_cons] at h;exact h.resolve_left hi
section
variable {c:Ctx}
theorem zjF {G:Gh}{s:St}{a:Act}{w:World} (hr:R c G s a w){f:FuncId}{avs:List AV}{hpc hp0:Hp}{r:AV}{vals:Array Value} (hf:FnD c.P f avs hpc r hp0)
  (hargs:AllR G (tokf s.hp) w avs vals) (hsub:∀id r,getH hpc id=some r->getH s.hp id=some r)
  (tk cr:List Nat) (hcr:∀id,id∈cr->getH s.hp id=none/\zbV id s) (hchk:ziK hpc hp0 r tk cr=true):
  Calls c.P f vals w fun e w'=>∃v,e = .returned v/\∃G',R c G' { s with hp:=hp0++s.hp } a w'/\RelA G' (tokf (hp0++s.hp)) w' r v:=by
 simp only[ziK,xad] at hchk;obtain⟨⟨⟨⟨c0,c1⟩,c2⟩,c3⟩,c4⟩:=hchk;have ctk:=fun id (h:id∈tk)=>zpN (List.all_eq_true.1 c0 id h)

 have hok:HOK G w hpc avs vals:=by
  have hm:∀ {x:AV}{v:Value},RelA G (tokf s.hp) w x v->RelA G (tokf hpc) w x v:=fun hx=>
   hx.mono (fun _ _ ho=>⟨ho,rfl⟩) (fun _ _=> .inl rfl) (fun id _ p hp=>⟨by
    obtain⟨n,k⟩:=p;exact zaj.2 (hsub _ _ (zaj.1 hp)),fun _ _=>⟨I,I⟩⟩)
  have hsome:∀id,(getH hpc id).isSome->(getH s.hp id).isSome:=fun id hi=>by
   obtain⟨x,hx⟩:=Option.isSome_iff_exists.1 hi;rw[hsub _ _ hx];rfl
  refine⟨⟨hargs.size,fun i hi hv=>hm (hargs.rel i hi hv)⟩,fun id r h=>?_,fun id id' h1 h2=>hr.disj id id' (hsome _ h1) (hsome _ h2),hr.top⟩;have:=hr.heap id r (hsub id r h);cases r with
  |box cs=>
   obtain⟨b,us,e,e1,e2,e3,e4,e5⟩:=this;exact⟨b,us,e,e1,e2,e3,e4,fun i hi hv=>hm (e5 i hi hv)⟩
  |tok n k=>exact this
  |map ks=>exact this
  |tree cs=>exact za6 this I (fun _ _=>⟨I,I⟩) (Nat.le_refl _) (fun _ _ _=>hm)
 refine(hf G w vals hok).mono ?_;rintro e w' ⟨v,r',hp1,G',rfl,⟨rfl,rfl⟩,hret⟩
 refine⟨v,rfl, ?_⟩;let keys:=ziI hpc hp1 tk
 have kin:∀id,id∈keys↔(id∈hpc.map (·.1)\/id∈hp1.map (·.1))/\id∉tk:=fun id=>zoG;have hkeys:∀id,id∈keys->(getH (hp1++hpc) id).isSome:=fun id hid=>by
  obtain⟨h1,h2⟩:=(kin id).1 hid;rw[zbr];split
  ·rename_i h;exact zm7 c2 h2 (zat.1 h)
  ·rename_i h;rcases h1 with h' | h'
   ·exact zgK c1 h'
   ·exact absurd (zat.2 h') h
 have hget:∀id,id∈keys->getH (hp1++s.hp) id=getH (hp1++hpc) id:=fun id hid=>by
  obtain⟨h1,h2⟩:=(kin id).1 hid;rw[zbr,zbr];split
  ·rfl
  ·rename_i h;have h':id∈hpc.map (·.1):=h1.resolve_right (fun h'=>h (zat.2 h'));obtain⟨x,hx⟩:=Option.isSome_iff_exists.1 (zgK c1 h');rw[hx,hsub _ _ hx]
 have hgett:∀id,id∈tk->getH (hp1++s.hp) id=none:=fun id hid=>by
  obtain⟨_,h2,h3⟩:=ctk id hid;rw[zbr,if_pos (zat.2 h2)];exact h3
 have hgetn':∀id,id∉keys->id∉tk->getH (hp1++s.hp) id=getH s.hp id:=fun id hid ht=>by
  rw[zbr];split
  ·rename_i h;exact absurd ((kin id).2 ⟨.inr (zat.1 h),ht⟩) hid
  ·rfl
 have hgetn:∀id x,id∉keys->getH (hp1++s.hp) id=some x->getH s.hp id=some x/\id∉hpc.map (·.1):=fun id x hid hx=>by
  by_cases ht:id∈tk
  ·rw[hgett id ht] at hx;cases hx
  ·rw[hgetn' id hid ht] at hx;exact⟨hx,fun h=>hid ((kin id).2 ⟨.inl h,ht⟩)⟩
 have ht0:∀id,id∈keys->id∉cr->tokf (hp1++s.hp) id=none:=fun id hid hncr=>by
  obtain⟨q1,q2⟩:=(kin id).1 hid;cases hT:tokf (hp1++s.hp) id with
  |none=>rfl
  |some p=>
   obtain⟨n,k⟩:=p;have h1:=zaj.1 hT;rw[hget id hid,zbr] at h1;split at h1
   ·have:=zb8 h1 c2;exact absurd (zat.1 this) hncr
   ·have:=zb8 h1 c1;exact absurd (zat.1 this) q2
 let G2:Gh:={ F:=G'.F,loc:=fun id=>bif zaH id keys then G'.loc id else G.loc id }
 have hl1:∀id,id∈keys->G2.loc id=G'.loc id:=fun id hid=>by simp[G2,zat.2 hid]
 have hl2:∀id,id∉keys->G2.loc id=G.loc id:=fun id hid=>by
  have:zaH id keys=false:=by
   cases h:zaH id keys with
   |true=>exact absurd (zat.1 h) hid
   |false=>rfl
  simp[G2,this]
 have hboxc:∀id,id∈hpc.map (·.1)->id∉tk->zbR hpc id=true:=fun id hid hnt=>by
  obtain⟨x,hx⟩:=Option.isSome_iff_exists.1 (zgK c1 hid);unfold zbR;rw[hx];cases x with
  |tok n k=>have:=zb8 hx c1;exact absurd (zat.1 this) hnt
  |_=>rfl

 have hkey:∀id,id∈keys->(id∈hpc.map (·.1)/\(G'.loc id).head?=(G.loc id).head?)\/(id∉hpc.map (·.1)/\id∈cr):=fun id hid=>by
  obtain⟨q1,q2⟩:=(kin id).1 hid;by_cases h:id∈hpc.map (·.1)
  ·exact .inl ⟨h,(hret.kept id (hboxc id h q2)).1⟩
  ·right
   refine⟨h, ?_⟩;have h0:id∈hp1.map (·.1):=q1.resolve_left h;obtain⟨p,hp,rfl⟩:=List.mem_map.1 h0;have:=List.all_eq_true.1 c3 p hp;simp only[Bool.or_eq_true] at this;rcases this with h' | h'
   ·exact absurd (zat.1 h') h
   ·exact zat.1 h'
 have howned:∀b,b∈zbY G hpc->∃id,(getH s.hp id).isSome/\b∈G.loc id/\id∈hpc.map (·.1):=fun b hb=>by
  obtain⟨id,h1,h2⟩:=zdh.1 hb;obtain⟨x,hx⟩:=Option.isSome_iff_exists.1 h1;exact⟨id,by rw[hsub _ _ hx];rfl,h2,List.mem_map.2 ⟨_,zci hx,rfl⟩⟩
 have bound:∀i r,getH s.hp i=some r->∀b,b∈G.loc i->b<w.heap.size:=fun i r h=>(hr.heap i r h).bound;have away:∀i r,i∉hpc.map (·.1)->getH s.hp i=some r->∀b,b∈G.loc i->b∉zbY G hpc:=fun i r hi h b hb hown=>by
  obtain⟨id,h1,h2,h3⟩:=howned b hown;exact hr.disj i id (by rw[h];rfl) h1 (fun e=>hi (e ▸ h3)) b hb h2
 have hm:∀ {x:AV}{u:Value},(∀id,id∈x.ids->id∉cr)->RelA G (tokf s.hp) w x u->RelA G2 (tokf (hp1++s.hp)) w' x u:=fun hx hxx=>
  hxx.mono hret.frm.cell (fun id hid=>by
   by_cases hk:id∈keys
   ·refine .inr ⟨ht0 id hk (hx id hid), ?_⟩;rw[hl1 id hk];rcases hkey id hk with ⟨_,h⟩|⟨_,h⟩
    ·exact h
    ·exact absurd h (hx id hid)
   ·exact .inl (hl2 id hk)) (fun id hid p hp=>by
   have hk:id∉keys:=fun hk=>by rw[ht0 id hk (hx id hid)] at hp;cases hp
   obtain⟨n,k⟩:=p;obtain⟨h1,hnc⟩:=hgetn id _ hk (zaj.1 hp);exact⟨zaj.2 h1,fun b hb=>hret.frm.block b (bound id _ h1 b hb) (away id _ hnc h1 b hb)⟩)
 have hm2:∀ {x:AV}{u:Value},(∀id,id∈x.ids->id∈keys)->RelA G' (tokf (hp1++hpc)) w' x u->RelA G2 (tokf (hp1++s.hp)) w' x u:=fun hx hxx=>
  hxx.mono (fun _ _ ho=>⟨ho,rfl⟩) (fun id hid=> .inl (hl1 id (hx id hid))) (fun id hid p hp=>⟨by
   have hk:=hx id hid;unfold tokf at hp ⊢;rw[hget id hk] at hp;exact hp,fun _ _=>⟨I,I⟩⟩)
 have hsome:∀id,id∉keys->(getH (hp1++s.hp) id).isSome->(getH s.hp id).isSome/\id∉hpc.map (·.1):=fun id hid h=>by
  obtain⟨x,hx⟩:=Option.isSome_iff_exists.1 h;obtain⟨h1,h2⟩:=hgetn id x hid hx;exact⟨by rw[h1];rfl,h2⟩
 have hsub2:∀id x,id∈keys->getH (hp1++hpc) id=some x->∀j,j∈x.ids->j∈keys:=fun id x hk hx j hj=>by
  rw[zbr] at hx;split at hx
  ·cases x with
   |box cs=>exact zdk (zb8 hx c2) j hj
   |tree cs=>exact zdk (zb8 hx c2) j hj
   |tok n k=>simp[Res.ids] at hj
   |map ks=>simp[Res.ids] at hj
  ·rename_i hn;cases x with
   |box cs=>
    have:=zb8 hx c1;simp only[zjL,Bool.or_eq_true] at this;rcases this with h|h
    ·exact absurd h hn
    ·exact zdk h j hj
   |tree cs=>
    have:=zb8 hx c1;simp only[zjL,Bool.or_eq_true] at this;rcases this with h|h
    ·exact absurd h hn
    ·exact zdk h j hj
   |tok n k=>simp[Res.ids] at hj
   |map ks=>simp[Res.ids] at hj
 refine⟨G2,⟨hr.size,hr.defers,fun i x hx=>?_,fun id x hx=>?_,fun id id' h1 h2 hne b hb=>?_,fun id h1 b hb=>?_,hr.frm.trans hret.frm ?_,hret.top,fun id l hl=>?_⟩, ?_⟩
 ·exact hm (fun id hid hc=>(hcr id hc).2.1 i x hx hid) (hr.slots i x hx)
 ·by_cases hk:id∈keys
  ·have hx':getH (hp1++s.hp) id=some x:=hx;rw[hget id hk] at hx';have hh:=hret.heap id x hx';have hids:=hsub2 id x hk hx';cases x with
   |box cs=>
    obtain⟨b,us,e,e1,e2,e3,e4,e5⟩:=hh;exact⟨b,us,e,(hl1 id hk).trans e1,e2,e3,e4,fun i hi hv=>hm2 (fun j hj=>hids j (xay (xao hi) hj)) (e5 i hi hv)⟩
   |tok n k=>exact fun b e1=>by rw[hl1 id hk] at e1;exact hh b e1
   |map ks=>
    obtain⟨b,es,cl,e1,e2⟩:=hh;exact⟨b,es,cl,(hl1 id hk).trans e1,e2⟩
   |tree cs=>exact za6 hh (hl1 id hk) (fun _ _=>⟨I,I⟩) (Nat.le_refl _) (fun x hx v=>hm2 (fun j hj=>hids j (xay hx hj)))
  ·obtain⟨hx',hnc⟩:=hgetn id x hk hx;have hh:=hr.heap id x hx';have hblk:∀b,b∈G.loc id->w'.heap[b]?=w.heap[b]?/\G'.F b=G.F b:=fun b hb=>hret.frm.block b (bound id x hx' b hb) (away id x hnc hx' b hb);cases x with
   |box cs=>
    obtain⟨b,us,e,e1,e2,e3,e4,e5⟩:=hh;obtain⟨f1,f2⟩:=hblk b (by simp[e1]);exact⟨b,us,e,(hl2 id hk).trans e1,f1.trans e2,e3,f2.trans e4,fun i hi hv=>hm (fun j hj hc=>(hcr j hc).2.2 id _ hx' (xay (xao hi) hj)) (e5 i hi hv)⟩
   |tok n k=>exact fun b e1=>by rw[hl2 id hk] at e1;exact Nat.lt_of_lt_of_le (hh b e1) hret.frm.size
   |map ks=>
    obtain⟨b,es,cl,e1,e2,e3,e4⟩:=hh;obtain⟨f1,f2⟩:=hblk b (by simp[e1]);exact⟨b,es,cl,(hl2 id hk).trans e1,f1.trans e2,f2.trans e3,e4⟩
   |tree cs=>exact za6 hh (hl2 id hk) hblk hret.frm.size (fun x hx v=>hm (fun j hj hc=>(hcr j hc).2.2 id _ hx' (xay hx hj)))
 ·have mix:∀i j,i∈keys->j∉keys->(getH (hp1++s.hp) i).isSome->(getH s.hp j).isSome/\j∉hpc.map (·.1)->∀b,b∈G'.loc i->b∉G.loc j:=fun i j hi hj h1 h2 b hb hbj=>by
   obtain⟨x,hx⟩:=Option.isSome_iff_exists.1 h2.1;have hnc:=h2.2;rcases hret.new i (by rw[<-hget i hi];exact h1) b hb with h|h
   ·exact away j x hnc hx b hbj h
   ·have:=bound j x hx b hbj;omega
  by_cases hk:id∈keys<;>by_cases hk':id'∈keys
  ·rw[hl1 id hk] at hb;rw[hl1 id' hk'];exact hret.disj id id' (hkeys id hk) (hkeys id' hk') hne b hb
  ·rw[hl1 id hk] at hb;rw[hl2 id' hk'];exact mix id id' hk hk' h1 (hsome id' hk' h2) b hb
  ·rw[hl2 id hk] at hb;rw[hl1 id' hk'];intro hb';exact mix id' id hk' hk h2 (hsome id hk h1) b hb' hb
  ·rw[hl2 id hk] at hb;rw[hl2 id' hk'];exact hr.disj id id' (hsome id hk h1).1 (hsome id' hk' h2).1 hne b hb
 ·by_cases hk:id∈keys
  ·rw[hl1 id hk] at hb;rcases hret.new id (hkeys id hk) b hb with h|h
   ·obtain⟨j,h2,h3,_⟩:=howned b h;exact hr.new j h2 b h3
   ·right;have:=hr.frm.size;omega
  ·rw[hl2 id hk] at hb;exact hr.new id (hsome id hk h1).1 b hb
 ·intro b hb;obtain⟨j,h2,h3,_⟩:=howned b hb;exact hr.new j h2 b h3
 ·have hk0:=hr.kept id l hl;have hncr:id∉cr:=fun h=>by have:=(hcr id h).1;rw[this] at hk0;simp at hk0
  have hntk:id∉tk:=fun h=>by
   obtain⟨h1,_,_⟩:=ctk id h;cases hg:getH hpc id with
   |none=>rw[hg] at h1;exact absurd h1 (by simp[zlW])
   |some x=>
    rw[hg] at h1;cases x with
    |tok n k=>
     have:=hk0.2.2;rw[show tokf s.hp id=some (n,k) from zaj.2 (hsub _ _ hg)] at this;cases this
    |_=>exact absurd h1 (by simp[zlW])
  show(G2.loc id).head?=l.head?/\(getH (hp1++s.hp) id).isSome/\tokf (hp1++s.hp) id=none
  by_cases hk:id∈keys
  ·refine⟨?_,by rw[hget id hk];exact hkeys id hk,ht0 id hk hncr⟩;rw[hl1 id hk];rcases hkey id hk with ⟨_,h⟩|⟨_,h⟩
   ·exact h.trans hk0.1
   ·exact absurd h hncr
  ·exact⟨(xam List.head? (hl2 id hk)).trans hk0.1,by rw[hgetn' id hk hntk];exact hk0.2.1,by
    have:=hk0.2.2;unfold tokf at this ⊢;rw[hgetn' id hk hntk];exact this⟩
 ·exact hm2 (fun j hj=>zdk c4 j hj) hret.res
end
section
variable {c:Ctx}{all:Array Oper}{chk:List Rec->Prop}{os:List Oper}{recs:List Rec}{env:Env}{hp:Hp}{Q:St->Prop}
variable {d ty:Nat}{pos:String}{af:Array Edge}{g:Option (Nat×Bool)}{pg:List (Nat×AV)}
theorem xbA {f:FuncId}{args:Array Operand}{ats:Array TypeId}{xs:List Operand}{vs avs:List AV}{hpc hp0:Hp}{r:AV} (tk cr:List Nat) (hc:Callee c.P f) (hf:FnD c.P f avs hpc r hp0)
  (hargs:args=xs.toArray) (hg:GH all env g pg) (hd:Nat.blt d c.n=true) (hx:opdL env xs=some vs) (hle:LeL vs avs) (hsub:subH hpc hp) (hok:ziK hpc hp0 r tk cr=true)
  (hcr:(cr.all fun i=>zdS env hp i)=true)
  (hn:Walk c all chk os (zak (pg++opFL xs vs) (hpF hpc) cr ⟨some (d,r),hp0⟩::recs) ⟨(d,r)::env,hp0++hp⟩ Q):
  Walk c all chk (⟨some d,.call ⟨.value (.func f),args,ats⟩,ty,pos,af,g⟩::os) recs ⟨env,hp⟩ Q:=by
 subst hargs;refine⟨pg++opFL xs vs,hpF hpc,cr,_, ?_,zap hg.facts (zbH hx),zeH hsub,fun id hi=>zcq (List.all_eq_true.1 hcr id hi),hn⟩;intro s a w hrel hp' hh hcr' K Q' hK;obtain⟨G,hr⟩:=hrel;have hrl:=zb9 hr (zbI hx (fun p hm=>hp' p (by simp[hm])));have hle':∀ {l m:List AV},LeL l m->∀i (h1:i<l.length) (h2:i<m.length),LeA l[i] m[i]:=by
  intro l;induction l with
  |nil=>intro m _ i h1;simp at h1
  |cons x r ih=>
   intro m h i h1 h2;cases h with
   |cons h t=>
    cases i with
    |zero=>exact h
    |succ i=>exact ih t i (by simpa using h1) (by simpa using h2)
 have hall:AllR G (tokf s.hp) w avs (xs.map a.eval).toArray:=by
  refine⟨by simp[<-hle.len,hrl.1],fun i hi hv=>?_⟩;have h1:i<vs.length:=by rw[hle.len];exact hi
  have:=(hrl.2 i h1 (by rw[<-hrl.1];exact h1)).le (hle' hle i h1 hi);simpa using this
 have hcalls:=zjF hr hf hall (fun id x hx=>hh (id,x) (zfO (zci hx))) tk cr hcr' hok;unfold wpO;rw[if_pos (hg.gf.wanted hr (fun p hm=>hp' p (by simp[hm])))];unfold Oper.wp;have hrun:(execOp a.eval ⟨some d,.call ⟨.value (.func f),xs.toArray,ats⟩,ty,pos,af,g⟩).run c.P w = .ok (.enter f (xs.map a.eval).toArray) w:=by
  have:=hc.run (xs.map a.eval).toArray w;simp only[execOp,resolve,Sem.run_bind,Act.eval,Deferred.ofValue,Sem.run_pure,Result.andThen_ok,invoke];simpa using this
 rw[hrun,Oper.upon_enter];refine hcalls.mono ?_;rintro e w' ⟨v,rfl,G',hR,hA⟩
 exact hK _ _ ⟨G',hR.put hA hd⟩
end
section
variable {c:Ctx}{env:Env}{hp:Hp}{K:Kt}{code:Code}{ids:List Nat}
theorem CWp.kill (ks:List Nat) (hn:CWp c code ⟨zb4 ks++env,hp⟩ K):CWp c code ⟨env,hp⟩ K:=by
 intro a w hrel;refine hn a w ?_;obtain⟨G,hr⟩:=hrel;refine⟨G,hr.size,hr.defers,fun i v hi=>?_,hr.heap,hr.disj,hr.new,hr.frm,hr.top,hr.kept⟩;have hi':getE (zb4 ks++env) i=some v:=hi;by_cases h:i∈zdx (zb4 ks)
 ·rw[zdw h] at hi';rw[zh0 hi'];exact .any _
 ·rw[zcM h] at hi';exact hr.slots i v hi'
theorem xaJ (b off i j:Nat){n k:Nat}{xs:List (List D)}{cs:List AV} (hb:getH hp b=some (.box cs)) (hc:cs[off]?=some (.gv i xs)) (hi:getH hp i=some (.tok n k)) (hf:zdS env hp j=true)
  (hn:CWp c code ⟨env,(b,some (.box (cs.set off (.gv j xs))))::(j,some (.tok n k))::(i,none)::hp⟩ K):CWp c code ⟨env,hp⟩ K:=by
 rintro a w ⟨G,hr⟩
 obtain⟨h0,hocc⟩:=zcq hf;have h0':getH hp j=none:=h0;have hbi:b≠i:=fun e=>by subst e;rw[hb] at hi;cases hi
 have hbj:b≠j:=fun e=>by subst e;rw[h0'] at hb;cases hb
 have hji:j≠i:=fun e=>by subst e;rw[h0'] at hi;cases hi
 have Ti:tokf hp i=some (n,k):=zaj.2 hi;let hp':Hp:=(b,some (.box (cs.set off (.gv j xs))))::(j,some (.tok n k))::(i,none)::hp
 let G':Gh:={ G with loc:=fun x=>bif Nat.beq x j then G.loc i else G.loc x }
 have lj:G'.loc j=G.loc i:=by simp[G']
 have lo:∀x,x≠j->G'.loc x=G.loc x:=fun x h=>by simp[G',zcK h]
 have gb:getH hp' b=some (.box (cs.set off (.gv j xs))):=by simp[hp',zac]
 have gj:getH hp' j=some (.tok n k):=by
  show getH ((b,_)::(j,some (.tok n k))::(i,none)::hp) j=_
  rw[zac,if_neg (Ne.symm hbj),zac,if_pos rfl]
 have gi:getH hp' i=none:=by
  show getH ((b,_)::(j,some (.tok n k))::(i,none)::hp) i=_
  rw[zac,if_neg (Ne.symm hbi),zac,if_neg (Ne.symm hji),zac,if_pos rfl]
 have Tj:tokf hp' j=some (n,k):=zaj.2 gj;have Ti':tokf hp' i=none:=by unfold tokf;rw[gi]
 have Tb:tokf hp' b=none:=by unfold tokf;rw[gb]
 have sb:(getH hp b).isSome:=by rw[hb];rfl
 have si:(getH hp i).isSome:=by rw[hi];rfl
 have hturn:Turn c G ⟨env,hp⟩ w G' hp' [b,i,j]:=by
  refine⟨fun x hx=>?_,fun x hx=>?_,fun _ _=>rfl,fun _ _ h=>h,hr.top,fun x hx=>?_,fun x hx hs y hy=>?_,fun x hx y hy hxy h1 h2 z hz=>?_,fun x hx l hl=>?_⟩
  ·simp only[List.mem_cons,xau,or_false,not_or] at hx;show getH ((b,_)::(j,some (.tok n k))::(i,none)::hp) x=_
   rw[zac,if_neg hx.1,zac,if_neg hx.2.2,zac,if_neg hx.2.1]
  ·simp only[List.mem_cons,xau,or_false,not_or] at hx;exact lo x hx.2.2
  ·simp only[List.mem_cons,xau,or_false] at hx;rcases hx with rfl|rfl|rfl
   ·exact .inr ⟨.inl (lo _ hbj),fun p hp=>by rw[Tb] at hp;cases hp⟩
   ·exact .inr ⟨.inl (lo _ (Ne.symm hji)),fun p hp=>by rw[Ti'] at hp;cases hp⟩
   ·exact .inl hocc
  ·simp only[List.mem_cons,xau,or_false] at hx;rcases hx with rfl|rfl|rfl
   ·exact⟨x,by simp,sb,by rw[lo _ hbj] at hy;exact hy⟩
   ·rw[gi] at hs;cases hs
   ·exact⟨i,by simp,si,by rw[lj] at hy;exact hy⟩
  ·simp only[List.mem_cons,xau,or_false] at hx hy;rcases hx with rfl|rfl|rfl
   ·rcases hy with rfl|rfl|rfl
    ·exact absurd I hxy
    ·rw[gi] at h2;cases h2
    ·rw[lo _ hbj] at hz;rw[lj];exact hr.disj _ _ sb si hbi z hz
   ·rw[gi] at h1;cases h1
   ·rcases hy with rfl|rfl|rfl
    ·rw[lj] at hz;rw[lo _ hbj];exact hr.disj _ _ si sb (Ne.symm hbi) z hz
    ·rw[gi] at h2;cases h2
    ·exact absurd I hxy
  ·simp only[List.mem_cons,xau,or_false] at hx;have hk:=hr.kept x l hl;rcases hx with rfl|rfl|rfl
   ·exact⟨by rw[lo _ hbj];exact hk.1,by rw[gb];rfl,Tb⟩
   ·have:=hk.2.2;rw[show tokf (St.mk env hp).hp x=some (n,k) from Ti] at this;cases this
   ·have:=hk.2.1;rw[show(St.mk env hp).hp=hp from rfl,h0'] at this;cases this
 obtain⟨bl,vs,e,e1,e2,e3,e4,e5⟩:=hr.heap b _ hb;refine hn a w ⟨G',hturn.fin hr (fun x hx r hxr=>?_)⟩;simp only[List.mem_cons,xau,or_false] at hx;rcases hx with rfl|rfl|rfl
 ·rw[gb] at hxr;cases hxr
  refine⟨bl,vs,e,(lo _ hbj).trans e1,e2,by rw[List.length_set];exact e3,e4,fun q hq hv=>?_⟩;have hq':q<cs.length:=by rw[List.length_set] at hq;exact hq
  rw[List.getElem_set];by_cases eo:off=q
  ·subst eo;rw[if_pos rfl];have hx:=e5 off hq' hv;rw[xan hq'] at hc;rw[Option.some.inj hc] at hx;exact hx.gv_move Ti I lj Tj
  ·rw[if_neg eo];exact hturn.cell hr hb (xao hq') (e5 q hq' hv)
 ·rw[gi] at hxr;cases hxr
 ·rw[gj] at hxr;cases hxr;intro y hy;rw[lj] at hy;exact hr.heap i _ hi y hy
end
section
variable {c:Ctx}{env:Env}{hp:Hp}{K:Kt}{code:Code}{ids:List Nat}
theorem xaI (b off id k:Nat){cs cs':List AV} (hb:getH hp b=some (.box cs)) (h:cs[off]?=some .nils) (hput:putC cs off [.gv id []]=some cs') (hf:zdS env hp id=true)
  (hn:CWp c code ⟨env,(b,some (.box cs'))::(id,some (.tok 0 k))::hp⟩ K):CWp c code ⟨env,hp⟩ K:=by
 intro a w hrel;obtain⟨G,hr⟩:=hrel;obtain⟨h0,hocc⟩:=zcq hf;obtain⟨G',h1,h2⟩:=hr.mkTokV k h0 hocc;have hne:b≠id:=fun e=>by subst e;have h0':getH hp b=none:=h0;rw[h0'] at hb;cases hb
 have hb':getH ((id,some (Res.tok 0 k))::hp) b=some (.box cs):=by rw[zac,if_neg hne];exact hb
 obtain⟨bl,vs,e,e1,e2,e3,e4,e5⟩:=h1.heap b _ hb';obtain⟨hlt,hv⟩:=List.getElem?_eq_some_iff.1 h;have hlv:off<vs.size:=by omega
 have hval:vs[off] = .slice none 0 0:=by
  have:=e5 off hlt hlv;rw[hv] at this;generalize vs[off]=v at *;cases this;rfl
 have hall:PreR G' (tokf ((id,some (.tok 0 k))::hp)) w cs' vs:=by
  obtain⟨p1,p2,p3⟩:=zb0 hput;refine⟨by omega,fun i hi hvi=>?_⟩;have:=p3 i;rw[xan hi] at this;by_cases hio:i=off
  ·subst hio;rw[if_pos oh] at this;simp only[Nat.sub_self,List.getElem?_cons_zero,xae] at this;rw[this,hval];exact h2
  ·rw[if_neg (by simp only[xab,xak];omega)] at this;have hic:i<cs.length:=by omega
   rw[xan hic] at this;rw[Option.some.inj this];exact e5 i hic hvi
 have:=h1.setBox (vs':=vs) hb' e1 e2 e4 hall;have hw:w.setRow bl vs=w:=setRow_self w bl vs e _ e2;rw[hw] at this;exact hn a w ⟨G',this⟩
theorem CWp.fixVC (b off id k:Nat){n:Nat}{xs:List (List D)}{cs:List AV} (hb:getH hp b=some (.box cs)) (hc:cs[off]?=some (.gv id xs)) (ht:getH hp id=some (.tok n k)) (hn:n=xs.length) (hx0:xs≠[])
  (hnx:CWp c code ⟨env,(b,some (.box (cs.set off (.ms id xs.length))))::(id,some (.box (xs.flatten.map .d)))::hp⟩ K):CWp c code ⟨env,hp⟩ K:=by
 rintro a w ⟨G,hr⟩
 subst hn;have hne:b≠id:=fun e=>by subst e;rw[hb] at ht;cases ht
 obtain⟨bl,vs,e,e1,e2,e3,e4,e5⟩:=hr.heap b _ hb;obtain⟨hlt,hcv⟩:=List.getElem?_eq_some_iff.1 hc;have hlv:off<vs.size:=by omega
 have h0:=e5 off hlt hlv;rw[hcv] at h0;obtain⟨hv0,hcl⟩:=h0.gv_inv;obtain⟨hkx,htip⟩:=(hcl _ _ (zaj.2 ht)).2 rfl;rcases htip with ⟨_,h2,_⟩|⟨b1,cap,us,et,h1,h2,h3,h4,h5,h6,h7⟩
 ·exact absurd (List.eq_nil_of_length_eq_zero h2) hx0
 have s1:(getH hp b).isSome:=by rw[hb];rfl
 have s2:(getH hp id).isSome:=by rw[ht];rfl
 let cs':List AV:=cs.set off (.ms id xs.length)
 let bx:List AV:=xs.flatten.map .d
 have g1:getH ((b,some (Res.box cs'))::(id,some (.box bx))::hp) b=some (.box cs'):=by rw[zac,if_pos rfl]
 have g2:getH ((b,some (Res.box cs'))::(id,some (.box bx))::hp) id=some (.box bx):=by rw[zac,if_neg (Ne.symm hne),zac,if_pos rfl]
 have t1:tokf ((b,some (Res.box cs'))::(id,some (.box bx))::hp) b=none:=by unfold tokf;rw[g1]
 have t2:tokf ((b,some (Res.box cs'))::(id,some (.box bx))::hp) id=none:=by unfold tokf;rw[g2]
 have hturn:Turn c G ⟨env,hp⟩ w G ((b,some (.box cs'))::(id,some (.box bx))::hp) [b,id]:=by
  refine⟨fun i hi=>?_,fun _ _=>rfl,fun _ _=>rfl,fun _ _ h=>h,hr.top,fun i hi=> .inr ⟨.inl rfl, ?_⟩,fun i hi _ x hx=>?_,fun i hi j hj hij _ _ x hx=>?_,fun i hi l hl=>?_⟩
  ·simp only[List.mem_cons,xau,or_false,not_or] at hi;rw[zac,if_neg hi.1,zac,if_neg hi.2]
  ·simp only[List.mem_cons,xau,or_false] at hi;rcases hi with rfl|rfl
   ·intro p hp;rw[t1] at hp;cases hp
   ·intro p hp;rw[t2] at hp;cases hp
  ·simp only[List.mem_cons,xau,or_false] at hi;rcases hi with rfl|rfl
   ·exact⟨i,by simp,s1,hx⟩
   ·exact⟨i,by simp,s2,hx⟩
  ·simp only[List.mem_cons,xau,or_false] at hi hj;rcases hi with rfl|rfl<;>rcases hj with rfl|rfl
   ·exact absurd I hij
   ·exact hr.disj _ _ s1 s2 hij x hx
   ·exact hr.disj _ _ s2 s1 hij x hx
   ·exact absurd I hij
  ·simp only[List.mem_cons,xau,or_false] at hi;have hk0:=hr.kept i l hl;rcases hi with rfl|rfl
   ·exact⟨hk0.1,by rw[g1];rfl,t1⟩
   ·have:=hk0.2.2;rw[show(⟨env,hp⟩:St).hp=hp from rfl,zaj.2 ht] at this;cases this
 refine hnx a w ⟨G,hturn.fin hr (fun i hi r hri=>?_)⟩;simp only[List.mem_cons,xau,or_false] at hi;rcases hi with rfl|rfl
 ·rw[g1] at hri;cases hri
  refine⟨bl,vs,e,e1,e2,by show(cs.set off _).length<=_;rw[List.length_set];exact e3,e4,fun q hq hv=>?_⟩;have hq':q<cs.length:=by have:q<(cs.set off (AV.ms id xs.length)).length:=hq;rw[List.length_set] at this;exact this
  show RelA G _ w ((cs.set off (AV.ms id xs.length))[q]'_) _
  rw[List.getElem_set];by_cases eo:off=q
  ·subst eo;rw[if_pos rfl,h2];exact .ms (zhp h1) t2 h6
  ·rw[if_neg eo];exact hturn.cell hr hb (xao hq') (e5 q hq' hv)
 ·rw[g2] at hri;cases hri
  have hmul:xs.length*k+(cap-xs.length)*k=cap*k:=by rw[<-Nat.add_mul];congr 1;omega
  refine⟨b1,us,et,h1,h4, ?_,h3,fun j hj hv=>?_⟩
  ·show bx.length<=_
   rw[xac,zeO hkx];omega
  ·have hi':j<xs.length*k:=by rw[<-zeO hkx,<-xac (f:=AV.d)];exact hj
   have hlt':j<(xs.flatten.map AV.d).length:=hj;show RelA G _ w ((xs.flatten.map AV.d)[j]'_) _
   have hkpos:0<k:=by
    rcases Nat.eq_zero_or_pos k with h|h
    ·subst h;simp at hi'
    ·exact h
   have hq:j / k<xs.length:=Nat.div_lt_of_lt_mul (by rw[Nat.mul_comm];exact hi');have hrm:j % k<k:=Nat.mod_lt _ hkpos;have e1:=zgk hkx hq hrm;rw[Nat.div_add_mod'] at e1;rw[xan hlt'] at e1;rw[Option.some.inj e1];have h8:=h7 (j / k) hq (j % k) (by rw[hkx _ (xao hq)];exact hrm);rw[Nat.div_add_mod'] at h8;have e2:us.getD j undef=us[j]:=by simp[Array.getD,hv]
   rw[e2] at h8;exact .d h8
theorem CWp.dropVB (b off id k:Nat){n:Nat}{xs:List (List D)}{cs:List AV} (hb:getH hp b=some (.box cs)) (hc:cs[off]?=some (.gv id xs)) (ht:getH hp id=some (.tok n k)) (hn:n=xs.length) (hx0:xs=[])
  (hnx:CWp c code ⟨env,(b,some (.box (cs.set off (.d (.sl [])))))::(id,none)::hp⟩ K):CWp c code ⟨env,hp⟩ K:=by
 rintro a w ⟨G,hr⟩
 subst hn;have hne:b≠id:=fun e=>by subst e;rw[hb] at ht;cases ht
 obtain⟨bl,vs,e,e1,e2,e3,e4,e5⟩:=hr.heap b _ hb;obtain⟨hlt,hcv⟩:=List.getElem?_eq_some_iff.1 hc;have hlv:off<vs.size:=by omega
 have h0:=e5 off hlt hlv;rw[hcv] at h0;obtain⟨hv0,hcl⟩:=h0.gv_inv;obtain⟨hkx,htip⟩:=(hcl _ _ (zaj.2 ht)).2 rfl;have hval:RelD G.F w (.sl []) vs[off]:=by
  rcases htip with ⟨_,_,h2⟩|⟨b1,cap,us,et,h1,h2,h3,h4,h5,h6,h7⟩
  ·rw[h2];exact .nil
  ·rw[h2,hx0];exact .sl [] 0 b1 0 cap (fun _=>undef) oh (Nat.zero_le _) oh oh
 have s1:(getH hp b).isSome:=by rw[hb];rfl
 have s2:(getH hp id).isSome:=by rw[ht];rfl
 let cs':List AV:=cs.set off (.d (.sl []))
 have g1:getH ((b,some (Res.box cs'))::(id,none)::hp) b=some (.box cs'):=by rw[zac,if_pos rfl]
 have g2:getH ((b,some (Res.box cs'))::(id,none)::hp) id=none:=by rw[zac,if_neg (Ne.symm hne),zac,if_pos rfl]
 have t1:tokf ((b,some (Res.box cs'))::(id,none)::hp) b=none:=by unfold tokf;rw[g1]
 have t2:tokf ((b,some (Res.box cs'))::(id,none)::hp) id=none:=by unfold tokf;rw[g2]
 have hturn:Turn c G ⟨env,hp⟩ w G ((b,some (.box cs'))::(id,none)::hp) [b,id]:=by
  refine⟨fun i hi=>?_,fun _ _=>rfl,fun _ _=>rfl,fun _ _ h=>h,hr.top,fun i hi=> .inr ⟨.inl rfl, ?_⟩,fun i hi _ x hx=>?_,fun i hi j hj hij _ _ x hx=>?_,fun i hi l hl=>?_⟩
  ·simp only[List.mem_cons,xau,or_false,not_or] at hi;rw[zac,if_neg hi.1,zac,if_neg hi.2]
  ·simp only[List.mem_cons,xau,or_false] at hi;rcases hi with rfl|rfl
   ·intro p hp;rw[t1] at hp;cases hp
   ·intro p hp;rw[t2] at hp;cases hp
  ·simp only[List.mem_cons,xau,or_false] at hi;rcases hi with rfl|rfl
   ·exact⟨i,by simp,s1,hx⟩
   ·exact⟨i,by simp,s2,hx⟩
  ·simp only[List.mem_cons,xau,or_false] at hi hj;rcases hi with rfl|rfl<;>rcases hj with rfl|rfl
   ·exact absurd I hij
   ·exact hr.disj _ _ s1 s2 hij x hx
   ·exact hr.disj _ _ s2 s1 hij x hx
   ·exact absurd I hij
  ·simp only[List.mem_cons,xau,or_false] at hi;have hk0:=hr.kept i l hl;rcases hi with rfl|rfl
   ·exact⟨hk0.1,by rw[g1];rfl,t1⟩
   ·have:=hk0.2.2;rw[show(⟨env,hp⟩:St).hp=hp from rfl,zaj.2 ht] at this;cases this
 refine hnx a w ⟨G,hturn.fin hr (fun i hi r hri=>?_)⟩;simp only[List.mem_cons,xau,or_false] at hi;rcases hi with rfl|rfl
 ·rw[g1] at hri;cases hri
  refine⟨bl,vs,e,e1,e2,by show(cs.set off _).length<=_;rw[List.length_set];exact e3,e4,fun q hq hv=>?_⟩;have hq':q<cs.length:=by have:q<(cs.set off (AV.d (.sl []))).length:=hq;rw[List.length_set] at this;exact this
  show RelA G _ w ((cs.set off (AV.d (.sl [])))[q]'_) _
  rw[List.getElem_set];by_cases eo:off=q
  ·subst eo;rw[if_pos rfl];exact .d hval
  ·rw[if_neg eo];exact hturn.cell hr hb (xao hq') (e5 q hq' hv)
 ·rw[g2] at hri;cases hri
end
structure Ext2 (P:Program) (f:FuncId) (x y v:D):Prop where
 run:∀(F:Nat->Nat) (w:World) (a b:Value),RelD F w x a->RelD F w y b->∃z,(callFunc f #[a,b]).run P w = .ok (.value z) w/\RelD F w v z
theorem Ext2.index {P:Program}{f:FuncId}{fn:Func} (hf:P.funcs[f]?=some fn) (hname:(fn.name == "runtime.NumGoroutine")=false)
  (hb:fn.body.isNone=true) (hn:Extern.findNext fn=none) (he:Extern.find fn=some Extern.BytealgIndexByte.indexByte){s:List UInt8}{b:UInt8}:
  Ext2 P f (.str s) (.int .u8 (b.toNat:Int)) (.i (Lib.indexByte s b)):=⟨fun F w x y h1 h2=>by
 cases h1;cases h2
 refine⟨_, ?_,.int _ _⟩;rw[run_callFunc_extern hf hname hb hn he,Lib.run_indexByteString];simp only[Result.andThen,Int.toNat_natCast];rw[show b.toNat.toUInt8=b from UInt8.ofNat_toNat]⟩
theorem Ext2.count {P:Program}{f:FuncId}{fn:Func} (hf:P.funcs[f]?=some fn) (hname:(fn.name == "runtime.NumGoroutine")=false)
  (hb:fn.body.isNone=true) (hn:Extern.findNext fn=none) (he:Extern.find fn=some Extern.BytealgCount.count){s:List UInt8}{b:UInt8}:
  Ext2 P f (.str s) (.int .u8 (b.toNat:Int)) (.i ((Lib.countByte s b:Nat):Int)):=⟨fun F w x y h1 h2=>by
 cases h1;cases h2
 refine⟨_, ?_,.int _ _⟩;rw[run_callFunc_extern hf hname hb hn he,Lib.run_countString];simp only[Result.andThen,Int.toNat_natCast];rw[show b.toNat.toUInt8=b from UInt8.ofNat_toNat]⟩
section
variable {c:Ctx}{all:Array Oper}{chk:List Rec->Prop}{os:List Oper}{recs:List Rec}{env:Env}{hp:Hp}{Q:St->Prop}
variable {d ty:Nat}{pos:String}{af:Array Edge}{g:Option (Nat×Bool)}{pg:List (Nat×AV)}
theorem RelA.d_rel {G:Gh}{T:TokF}{w:World}{x:D}{v:Value} (h:RelA G T w (.d x) v):RelD G.F w x v:=by
 cases h with|d h=>exact h
theorem Walk.ext2 {f:FuncId}{args:Array Operand}{ats:Array TypeId}{x y:Operand}{vx vy v:D} (hc:Ext2 c.P f vx vy v)
  (hargs:args = #[x,y]) (hg:GH all env g pg) (hd:Nat.blt d c.n=true) (hx:opd env x=some (.d vx)) (hy:opd env y=some (.d vy))
  (hn:Walk c all chk os (zak (pg++(opF x (.d vx)++opF y (.d vy))) [] [] ⟨some (d,.d v),[]⟩::recs) ⟨(d,.d v)::env,hp⟩ Q):
  Walk c all chk (⟨some d,.call ⟨.value (.func f),args,ats⟩,ty,pos,af,g⟩::os) recs ⟨env,hp⟩ Q:=by
 subst hargs;refine xbZ hg hd hx hy (fun a G T w h1 h2=>?_) hn;obtain⟨z,hz,hr⟩:=hc.run G.F w _ _ h1.d_rel h2.d_rel;refine⟨z, ?_,.d hr⟩;have h3:(callFunc f (#[a.eval x,a.eval y]++#[])).run c.P w = .ok (.value z) w:=by simpa using hz
 simp only[execOp,resolve,Sem.run_bind,Act.eval,Deferred.ofValue,Sem.run_pure,Result.andThen_ok,invoke];simpa using h3
theorem xbD {f:FuncId}{args:Array Operand}{ats:Array TypeId}{x:Operand}{xs:List Operand}{caps vs avs:List AV}{hpc hp0:Hp}{r:AV} (tk cr:List Nat) (hc:Callee c.P f) (hf:FnD c.P f avs hpc r hp0)
  (hargs:args=xs.toArray) (hg:GH all env g pg) (hd:Nat.blt d c.n=true) (hfx:opd env x=some (.fn f caps)) (hx:opdL env xs=some vs) (hle:LeL (vs++caps) avs) (hsub:subH hpc hp) (hok:ziK hpc hp0 r tk cr=true)
  (hcr:(cr.all fun i=>zdS env hp i)=true)
  (hn:Walk c all chk os (zak (pg++(opF x (.fn f caps)++opFL xs vs)) (hpF hpc) cr ⟨some (d,r),hp0⟩::recs) ⟨(d,r)::env,hp0++hp⟩ Q):
  Walk c all chk (⟨some d,.call ⟨.value x,args,ats⟩,ty,pos,af,g⟩::os) recs ⟨env,hp⟩ Q:=by
 subst hargs;refine⟨pg++(opF x (.fn f caps)++opFL xs vs),hpF hpc,cr,_, ?_,zap hg.facts (zap (zaR hfx) (zbH hx)),zeH hsub,fun id hi=>zcq (List.all_eq_true.1 hcr id hi),hn⟩;intro s a w hrel hp' hh hcr' K Q' hK;obtain⟨G,hr⟩:=hrel;have hfr:=hr.opd (zaT hfx (fun p hm=>hp' p (by simp[hm])));obtain⟨us,hfe,hus,hur⟩:=hfr.fn_eq;have hrl:=zb9 hr (zbI hx (fun p hm=>hp' p (by simp[hm])));have hall:AllR G (tokf s.hp) w avs ((xs.map a.eval).toArray++us):=by
  have hlen:=hle.len;simp only[xaa] at hlen;refine⟨by simp[<-hlen,hrl.1,hus],fun i hi hv=>?_⟩;have h1:i<(vs++caps).length:=by rw[hle.len];exact hi
  have hA:=LeL.get hle i h1 hi;by_cases hiv:i<vs.length
  ·have h2:=hrl.2 i hiv (by rw[<-hrl.1];exact hiv);have e1:(vs++caps)[i]=vs[i]:=List.getElem_append_left hiv;rw[e1] at hA;have e2:((xs.map a.eval).toArray++us)[i]=a.eval (xs[i]'(by rw[<-hrl.1];exact hiv)):=by
    rw[Array.getElem_append_left (by simp;rw[<-hrl.1];exact hiv)];simp
   rw[e2];exact h2.le hA
  ·have hic:i-vs.length<caps.length:=by simp only[xaa] at h1;omega
   have e1:(vs++caps)[i]=caps[i-vs.length]:=List.getElem_append_right oe;rw[e1] at hA;have e2:((xs.map a.eval).toArray++us)[i]=us[i-vs.length]' oe:=by
    rw[Array.getElem_append_right ot];simp[hrl.1]
   rw[e2];exact(hur _ hic oe).le hA
 have hcalls:=zjF hr hf hall (fun id x hx=>hh (id,x) (zfO (zci hx))) tk cr hcr' hok;unfold wpO;rw[if_pos (hg.gf.wanted hr (fun p hm=>hp' p (by simp[hm])))];unfold Oper.wp;have hrun:(execOp a.eval ⟨some d,.call ⟨.value x,xs.toArray,ats⟩,ty,pos,af,g⟩).run c.P w = .ok (.enter f ((xs.map a.eval).toArray++us)) w:=by
  have:=hc.run ((xs.map a.eval).toArray++us) w;simp only[execOp,resolve,Sem.run_bind,hfe,Deferred.ofValue,Sem.run_pure,Result.andThen_ok,invoke];simpa using this
 rw[hrun,Oper.upon_enter];refine hcalls.mono ?_;rintro e w' ⟨v,rfl,G',hR,hA⟩
 exact hK _ _ ⟨G',hR.put hA hd⟩
end
theorem zpu (n m:Nat):¬zaD n+1=zaD m:=by unfold zaD;omega
theorem zoE {n m:Nat} (h:zaD n=zaD m):n=m:=by unfold zaD at h;omega
section
variable {c:Ctx}{env:Env}{hp:Hp}{K:Kt}{code:Code}{ids:List Nat}
theorem R.tokMoveN {G:Gh}{a:Act}{w:World} (hr:R c G ⟨env,hp⟩ a w){i j n k:Nat} (n2 k2:Nat) (hi:getH hp i=some (.tok n k)) (h0:getH hp j=none) (hocc:zbV j ⟨env,hp⟩):
  ∃G',R c G' ⟨env,(j,some (.tok n2 k2))::(i,none)::hp⟩ a w/\G'.F=G.F/\G'.loc j=G.loc i/\∀x,x≠j->G'.loc x=G.loc x:=by
 have hji:j≠i:=fun e=>by subst e;rw[h0] at hi;cases hi
 have Ti:tokf hp i=some (n,k):=zaj.2 hi;let hp':Hp:=(j,some (.tok n2 k2))::(i,none)::hp
 let G':Gh:={ G with loc:=fun x=>bif Nat.beq x j then G.loc i else G.loc x }
 have lj:G'.loc j=G.loc i:=by simp[G']
 have lo:∀x,x≠j->G'.loc x=G.loc x:=fun x h=>by simp[G',zcK h]
 have gj:getH hp' j=some (.tok n2 k2):=by
  show getH ((j,some (.tok n2 k2))::(i,none)::hp) j=_
  rw[zac,if_pos rfl]
 have gi:getH hp' i=none:=by
  show getH ((j,some (.tok n2 k2))::(i,none)::hp) i=_
  rw[zac,if_neg (Ne.symm hji),zac,if_pos rfl]
 have Ti':tokf hp' i=none:=by unfold tokf;rw[gi]
 have si:(getH hp i).isSome:=by rw[hi];rfl
 have hturn:Turn c G ⟨env,hp⟩ w G' hp' [i,j]:=by
  refine⟨fun x hx=>?_,fun x hx=>?_,fun _ _=>rfl,fun _ _ h=>h,hr.top,fun x hx=>?_,fun x hx hs y hy=>?_,fun x hx y hy hxy h1 h2 z hz=>?_,fun x hx l hl=>?_⟩
  ·simp only[List.mem_cons,xau,or_false,not_or] at hx;show getH ((j,_)::(i,none)::hp) x=_
   rw[zac,if_neg hx.2,zac,if_neg hx.1]
  ·simp only[List.mem_cons,xau,or_false,not_or] at hx;exact lo x hx.2
  ·simp only[List.mem_cons,xau,or_false] at hx;rcases hx with rfl|rfl
   ·exact .inr ⟨.inl (lo _ (Ne.symm hji)),fun p hp=>by rw[Ti'] at hp;cases hp⟩
   ·exact .inl hocc
  ·simp only[List.mem_cons,xau,or_false] at hx;rcases hx with rfl|rfl
   ·rw[gi] at hs;cases hs
   ·exact⟨i,by simp,si,by rw[lj] at hy;exact hy⟩
  ·simp only[List.mem_cons,xau,or_false] at hx hy;rcases hx with rfl|rfl
   ·rw[gi] at h1;cases h1
   ·rcases hy with rfl|rfl
    ·rw[gi] at h2;cases h2
    ·exact absurd I hxy
  ·simp only[List.mem_cons,xau,or_false] at hx;have hk:=hr.kept x l hl;rcases hx with rfl|rfl
   ·have:=hk.2.2;rw[show tokf (St.mk env hp).hp x=some (n,k) from Ti] at this;cases this
   ·have:=hk.2.1;rw[show(St.mk env hp).hp=hp from rfl,h0] at this;cases this
 refine⟨G',hturn.fin hr (fun x hx r hxr=>?_),rfl,lj,lo⟩;simp only[List.mem_cons,xau,or_false] at hx;rcases hx with rfl|rfl
 ·rw[gi] at hxr;cases hxr
 ·rw[gj] at hxr;cases hxr;intro y hy;rw[lj] at hy;exact hr.heap i _ hi y hy
theorem RelA.gh_hole {G:Gh}{T:TokF}{w:World}{id k m:Nat}{xs:List (List D)}{v:Value} (h:RelA G T w (.gh id xs) v) (hT:T id=some (m,k)) (he:m=zaD xs.length\/m=zaD xs.length+1):Hole G w id k v xs:=by
 cases h with|gh hv h=>exact h m k hT he
theorem RelA.gp_at {G:Gh}{T:TokF}{w:World}{id k n off len:Nat}{js:List Nat}{cs:List AV}{v:Value} (h:RelA G T w (.gp id n off len js cs) v) (hT:T id=some (n,k)):
  ∃b us e,v = .pointer (some ⟨b,off,none⟩)/\(G.loc id).head?=some b/\G.F b=0/\w.heap[b]?=some (.cells us e (0,0))/\off+len<=us.size/\∀i (hi:i<cs.length) (hv:off+i<us.size),RelA G T w cs[i] us[off+i]:=by
 cases h with
 |gpD hv hT'=>exact absurd (hT' n k hT) (Nat.lt_irrefl _)
 |gpL hj hT' hl hF hb hs hr=>exact⟨_,_,_,rfl,hl,hF,hb,hs,hr⟩
theorem zqJ {G G':Gh}{T T':TokF}{w:World}{id id2 k m:Nat}{js:List Nat}{xs:List (List D)}{ys:List D}{v u:Value} (hk:ys.length=k) (h1:Hole G w id k v xs) (h2:RelA G T w (.gp id m (xs.length*k) k js (ys.map .d)) u) (hTi:T id=some (m,k)) (hF:G'.F=G.F) (hl:G'.loc id2=G.loc id) (hT:T' id2=some (xs.length+1,k)):
  RelA G' T' w (.gv id2 (xs++[ys])) v:=by
 obtain⟨hkx,b,cap,cs,e,p1,p2,p3,p4,p5,p6,p7⟩:=h1;obtain⟨b',us,e',_,q1,q4,q3,q5,q6⟩:=h2.gp_at hTi;rw[p1] at q1;cases q1;rw[p4] at q3;cases q3;refine .gv ⟨_,cap,by rw[p2,xaa];rfl⟩ (fun m k' hm=>?_);rw[hT] at hm;cases hm;refine⟨by simp,fun _=>⟨fun x hx=>?_,.inr ⟨b,cap,cs,e,hl.trans p1,p2,by rw[hF];exact p3,p4,p5,p6,fun i hi j hj=>?_⟩⟩⟩
 ·rcases List.mem_append.1 hx with h|h
  ·exact hkx x h
  ·rw[List.mem_singleton.1 h];exact hk
 ·rw[hF];by_cases hin:i<xs.length
  ·have e1:(xs++[ys])[i]=xs[i]:=List.getElem_append_left hin;have:=p7 i hin j (by rw[<-e1];exact hj);simp only[e1];exact this
  ·have ei:i=xs.length:=by simp at hi;omega
   subst ei;have e1:(xs++[ys])[xs.length]=ys:=by simp
   have hj':j<ys.length:=by rw[<-e1];exact hj
   have hlt:xs.length*k+j<cs.size:=by omega
   have:=(q6 j (by rw[xac];exact hj') hlt);rw[List.getElem_map] at this;simp only[e1];have e2:cs.getD (xs.length*k+j) undef=cs[xs.length*k+j]:=by simp[Array.getD,hlt]
   rw[e2];exact this.d_inv
theorem Rel.holeGv (b t0 off i j:Nat){a:Act}{w:World}{k:Nat}{js:List Nat}{xs:List (List D)} (ys:List D){cs:List AV} (hb:getH hp b=some (.box cs)) (hc:cs[off]?=some (.gh i xs)) (ht:getE env t0=some (.gp i (zaD xs.length+1) (xs.length*k) k js (ys.map .d))) (hk:ys.length=k)
  (hi:getH hp i=some (.tok (zaD xs.length+1) k)) (hf:zdS env hp j=true)
  (hrel:Rel c ⟨env,hp⟩ a w):Rel c ⟨env,(b,some (.box (cs.set off (.gv j (xs++[ys])))))::(j,some (.tok (xs.length+1) k))::(i,none)::hp⟩ a w:=by
 obtain⟨G,hr⟩:=hrel;obtain⟨h0,hocc⟩:=zcq hf;have h0':getH hp j=none:=h0;have hbi:b≠i:=fun e=>by subst e;rw[hb] at hi;cases hi
 have hbj:b≠j:=fun e=>by subst e;rw[h0'] at hb;cases hb
 have hji:j≠i:=fun e=>by subst e;rw[h0'] at hi;cases hi
 have Ti:tokf hp i=some (zaD xs.length+1,k):=zaj.2 hi;let hp':Hp:=(b,some (.box (cs.set off (.gv j (xs++[ys])))))::(j,some (.tok (xs.length+1) k))::(i,none)::hp
 let G':Gh:={ G with loc:=fun x=>bif Nat.beq x j then G.loc i else G.loc x }
 have lj:G'.loc j=G.loc i:=by simp[G']
 have lo:∀x,x≠j->G'.loc x=G.loc x:=fun x h=>by simp[G',zcK h]
 have gb:getH hp' b=some (.box (cs.set off (.gv j (xs++[ys])))):=by simp[hp',zac]
 have gj:getH hp' j=some (.tok (xs.length+1) k):=by
  show getH ((b,_)::(j,some (.tok (xs.length+1) k))::(i,none)::hp) j=_
  rw[zac,if_neg (Ne.symm hbj),zac,if_pos rfl]
 have gi:getH hp' i=none:=by
  show getH ((b,_)::(j,some (.tok (xs.length+1) k))::(i,none)::hp) i=_
  rw[zac,if_neg (Ne.symm hbi),zac,if_neg (Ne.symm hji),zac,if_pos rfl]
 have Tj:tokf hp' j=some (xs.length+1,k):=zaj.2 gj;have Ti':tokf hp' i=none:=by unfold tokf;rw[gi]
 have Tb:tokf hp' b=none:=by unfold tokf;rw[gb]
 have sb:(getH hp b).isSome:=by rw[hb];rfl
 have si:(getH hp i).isSome:=by rw[hi];rfl
 have hturn:Turn c G ⟨env,hp⟩ w G' hp' [b,i,j]:=by
  refine⟨fun x hx=>?_,fun x hx=>?_,fun _ _=>rfl,fun _ _ h=>h,hr.top,fun x hx=>?_,fun x hx hs y hy=>?_,fun x hx y hy hxy h1 h2 z hz=>?_,fun x hx l hl=>?_⟩
  ·simp only[List.mem_cons,xau,or_false,not_or] at hx;show getH ((b,_)::(j,some (.tok (xs.length+1) k))::(i,none)::hp) x=_
   rw[zac,if_neg hx.1,zac,if_neg hx.2.2,zac,if_neg hx.2.1]
  ·simp only[List.mem_cons,xau,or_false,not_or] at hx;exact lo x hx.2.2
  ·simp only[List.mem_cons,xau,or_false] at hx;rcases hx with rfl|rfl|rfl
   ·exact .inr ⟨.inl (lo _ hbj),fun p hp=>by rw[Tb] at hp;cases hp⟩
   ·exact .inr ⟨.inl (lo _ (Ne.symm hji)),fun p hp=>by rw[Ti'] at hp;cases hp⟩
   ·exact .inl hocc
  ·simp only[List.mem_cons,xau,or_false] at hx;rcases hx with rfl|rfl|rfl
   ·exact⟨x,by simp,sb,by rw[lo _ hbj] at hy;exact hy⟩
   ·rw[gi] at hs;cases hs
   ·exact⟨i,by simp,si,by rw[lj] at hy;exact hy⟩
  ·simp only[List.mem_cons,xau,or_false] at hx hy;rcases hx with rfl|rfl|rfl
   ·rcases hy with rfl|rfl|rfl
    ·exact absurd I hxy
    ·rw[gi] at h2;cases h2
    ·rw[lo _ hbj] at hz;rw[lj];exact hr.disj _ _ sb si hbi z hz
   ·rw[gi] at h1;cases h1
   ·rcases hy with rfl|rfl|rfl
    ·rw[lj] at hz;rw[lo _ hbj];exact hr.disj _ _ si sb (Ne.symm hbi) z hz
    ·rw[gi] at h2;cases h2
    ·exact absurd I hxy
  ·simp only[List.mem_cons,xau,or_false] at hx;have hk:=hr.kept x l hl;rcases hx with rfl|rfl|rfl
   ·exact⟨by rw[lo _ hbj];exact hk.1,by rw[gb];rfl,Tb⟩
   ·have:=hk.2.2;rw[show tokf (St.mk env hp).hp x=some (zaD xs.length+1,k) from Ti] at this;cases this
   ·have:=hk.2.1;rw[show(St.mk env hp).hp=hp from rfl,h0'] at this;cases this
 obtain⟨bl,vs,e,e1,e2,e3,e4,e5⟩:=hr.heap b _ hb;have hat:=hr.slots t0 _ ht;refine⟨G',hturn.fin hr (fun x hx r hxr=>?_)⟩;simp only[List.mem_cons,xau,or_false] at hx;rcases hx with rfl|rfl|rfl
 ·rw[gb] at hxr;cases hxr
  refine⟨bl,vs,e,(lo _ hbj).trans e1,e2,by rw[List.length_set];exact e3,e4,fun q hq hv=>?_⟩;have hq':q<cs.length:=by rw[List.length_set] at hq;exact hq
  rw[List.getElem_set];by_cases eo:off=q
  ·subst eo;rw[if_pos rfl];have hx:=e5 off hq' hv;rw[xan hq'] at hc;rw[Option.some.inj hc] at hx;exact zqJ hk (hx.gh_hole Ti (.inr I)) hat Ti I lj Tj
  ·rw[if_neg eo];exact hturn.cell hr hb (xao hq') (e5 q hq' hv)
 ·rw[gi] at hxr;cases hxr
 ·rw[gj] at hxr;cases hxr;intro y hy;rw[lj] at hy;exact hr.heap i _ hi y hy
theorem CWp.thn {x:Code}{s:St} (h:CWp c x s (K.with fun s'=>∀a w,Rel c s' a w->∃s2,Rel c s2 a w/\K.n s2)):CWp c x s K:=by
 intro a w hr;refine wp_mono (h a w hr) ?_;intro e a' w' hq;cases e with
 |normal=>
  obtain⟨s',hr',hn⟩:=hq;exact hn a' w' hr'
 |exit id=>exact hq
 |ret=>exact hq
 |goto l=>exact hq.elim
 |panic ch=>exact hq.elim
 |outgrown=>exact hq.elim
end
section
variable {c:Ctx}{all:Array Oper}{chk:List Rec->Prop}{os:List Oper}{recs:List Rec}{env:Env}{hp:Hp}{Q:St->Prop}
variable {d ty:Nat}{pos:String}{af:Array Edge}{g:Option (Nat×Bool)}{pg:List (Nat×AV)}{t yt:TypeId}{x y:Operand}
theorem Walk.appendH {id k e yb:Nat}{xs:List (List D)}{z:List D}{vy:AV} (id2:Nat) (ht:SlT c.P t e k yb) (hz:ZeroT c.P e k) (hg:GH all env g pg) (hd:Nat.blt d c.n=true)
  (hx:opd env x=some (.gv id xs)) (hy:opd env y=some vy) (hyd:vy.toD=some (.sl [z])) (htok:getH hp id=some (.tok xs.length k)) (hkz:z.length=k)
  (hb:(xs.length+1)*yb<=140737488355328) (hm:xs.length+1<=9223372036854775807) (hfr:zae env hp [id2]=true) (hid2:Nat.beq id2 id=false)
  (hn:Walk c all chk os (zak (pg++(opF x (.gv id xs)++opF y vy)) [(id,.tok xs.length k)] [id2] ⟨some (d,.gh id2 xs),[(id2,some (.tok (zaD xs.length) k)),(id,none)]⟩::recs)
   ⟨(d,.gh id2 xs)::env,(id2,some (.tok (zaD xs.length) k))::(id,none)::hp⟩ Q):
  Walk c all chk (⟨some d,.call ⟨.builtin .append,#[x,y],#[t,t]⟩,ty,pos,af,g⟩::os) recs ⟨env,hp⟩ Q:=by
 refine⟨pg++(opF x (.gv id xs)++opF y vy),[(id,.tok xs.length k)],[id2],_, ?_,zap hg.facts (zap (zaR hx) (zaR hy)),hh1 htok,zbq hfr,hn⟩;intro s a w hrel hp' hh hcr K Q' hK;obtain⟨f0,focc⟩:=hcr id2 oh;obtain⟨G,hr⟩:=hrel;have hne2:id2≠id:=fun e=>by subst e;simp at hid2
 have e1:=hr.opd (zaT hx (fun p hm=>hp' p (by simp[hm])));have e2:=hr.opd (zaT hy (fun p hm=>hp' p (by simp[hm])));obtain⟨i,z0,z1,z2,z3⟩:=hz.out;obtain⟨v',w',G',hrun,hR,hA⟩:=zl7 hr ht ⟨i,z1,z2,z3⟩ (hh1' hh) e1 (e2.toD hyd) (by intro y hy;rw[List.mem_singleton.1 hy];exact hkz) (by simpa using hb) (by simpa using hm) ty;unfold wpO;rw[if_pos (hg.gf.wanted hr (fun p hm=>hp' p (by simp[hm])))];unfold Oper.wp;have:(execOp a.eval ⟨some d,.call ⟨.builtin .append,#[x,y],#[t,t]⟩,ty,pos,af,g⟩).run c.P w = .ok (.value v') w':=by
  simp only[execOp,resolve,invoke,builtin,Sem.run_bind,Sem.run_pure,Result.andThen_ok,List.map_toArray,xaf,List.map_nil,hrun]
 rw[this,Oper.upon_value];have hT:tokf ((id,some (Res.tok (xs.length+[z].length) k))::s.hp) id=some (xs.length+1,k):=zaj.2 (by rw[zac,if_pos rfl];rfl);obtain⟨⟨ad,cap0,hv0⟩,hcl⟩:=hA.gv_inv;obtain⟨hkx,htip⟩:=(hcl _ _ hT).2 oh;obtain⟨G2,q1,q2,q3,_⟩:=hR.tokMoveN (j:=id2) (zaD xs.length) k o6 (by show getH ((id,_)::s.hp) id2=none;rw[zac,if_neg hne2];exact f0) ⟨focc.1,fun j r hj=>by
  have hj':getH ((id,some (Res.tok (xs.length+[z].length) k))::s.hp) j=some r:=hj;rw[zac] at hj';split at hj'
  ·cases hj';simp[Res.ids]
  ·exact focc.2 j r hj'⟩
 have hgh:RelA G2 (tokf ((id2,some (.tok (zaD xs.length) k))::(id,none)::(id,some (.tok (xs.length+[z].length) k))::s.hp)) w' (.gh id2 xs) v':=by
  refine .gh ⟨ad,cap0,by rw[hv0,xaa];rfl⟩ (fun m k' hm he=>?_);rw[show tokf ((id2,some (Res.tok (zaD xs.length) k))::(id,none)::(id,some (Res.tok (xs.length+[z].length) k))::s.hp) id2=some (zaD xs.length,k) from zaj.2 o6] at hm;cases hm
  rcases htip with ⟨_,h2,_⟩|⟨b,cap,cs,et,h1,h2,h3,h4,h5,h6,h7⟩
  ·omega
  refine⟨fun x hx=>hkx x (by simp[hx]),b,cap,cs,et,q3.trans h1,h2,by rw[q2];exact h3,h4,h5,h6,fun i hi j hj=>?_⟩;have e1:(xs++[z])[i]' ot=xs[i]:=List.getElem_append_left hi;have:=h7 i ot j (by rw[e1];exact hj);simp only[e1] at this;rw[q2];exact this
 refine hK _ _ (Rel.congr ⟨G2,q1.put hgh hd⟩ (fun j=>rfl) (fun j=>?_));show getH ((id2,_)::(id,none)::s.hp) j=getH ((id2,_)::(id,none)::(id,_)::s.hp) j
 rw[zac,zac,zac,zac,zac];by_cases h1:j=id2
 ·rw[if_pos h1,if_pos h1]
 ·rw[if_neg h1,if_neg h1];by_cases h2:j=id
  ·rw[if_pos h2,if_pos h2]
  ·rw[if_neg h2,if_neg h2,if_neg h2]
theorem Walk.idxH {id e k yb:Nat}{xs:List (List D)}{kd:IntKind}{n:Int} (ht:SlT c.P t e k yb) (hg:GH all env g pg) (hd:Nat.blt d c.n=true)
  (hx:opd env x=some (.gh id xs)) (hy:opd env y=some (.d (.int kd n))) (htok:getH hp id=some (.tok (zaD xs.length) k)) (hi:n = ↑xs.length)
  (hn:Walk c all chk os (zak (pg++(opF x (.gh id xs)++opF y (.d (.int kd n)))) [(id,.tok (zaD xs.length) k)] [] ⟨some (d,.gp id (zaD xs.length) (xs.length*k) k [] []),[]⟩::recs) ⟨(d,.gp id (zaD xs.length) (xs.length*k) k [] [])::env,hp⟩ Q):
  Walk c all chk (⟨some d,.indexAddr t x y,ty,pos,af,g⟩::os) recs ⟨env,hp⟩ Q:=by
 refine⟨pg++(opF x (.gh id xs)++opF y (.d (.int kd n))),[(id,.tok (zaD xs.length) k)],[],_, ?_,zap hg.facts (zap (zaR hx) (zaR hy)),hh1 htok,by simp,hn⟩;intro s a w hrel hp' hh _ K Q' hK;obtain⟨G,hr⟩:=hrel;have hT:tokf s.hp id=some (zaD xs.length,k):=zaj.2 (hh1' hh);have e1:=hr.opd (zaT hx (fun p hm=>hp' p (by simp[hm])));have e2:=hr.opd (zaT hy (fun p hm=>hp' p (by simp[hm])));obtain⟨hkx,b,cap,cs,et,h1,h2,h3,h4,h5,h6,h7⟩:=e1.gh_hole hT (.inl rfl);unfold wpO;rw[if_pos (hg.gf.wanted hr (fun p hm=>hp' p (by simp[hm])))];unfold Oper.wp;have:(execOp a.eval ⟨some d,.indexAddr t x y,ty,pos,af,g⟩).run c.P w = .ok (.value (.pointer (some ⟨b,0+xs.length*k,none⟩))) w:=by
  simp only[execOp,h2,e2.int_eq,hi,Sem.run_bind,zc4 ht (show xs.length<xs.length+1 by omega),Result.andThen_ok,Sem.run_pure]
 rw[this,Oper.upon_value];refine hK _ _ ⟨G,hr.put (v:= .gp id (zaD xs.length) (xs.length*k) k [] []) (by
  rw[Nat.zero_add];refine .gpL (by simp[AV.idsL]) hT (by rw[h1];rfl) h3 h4 ?_ (fun i hi=>by simp at hi);have h8:(xs.length+1)*k<=cap*k:=xav _ h6;rw[Nat.add_mul,Nat.one_mul] at h8;exact Nat.le_trans h8 h5) hd⟩
theorem Walk.putH {id n k t0:Nat}{b0:Bool}{v:AV}{vs:List AV} (js:List Nat) (ht:TyS c.P t k b0) (hg:GH all env g pg) (hxt:x = .tmp t0)
  (hx:opd env x=some (.gp id (zaD n) (n*k) k [] [])) (hy:opd env y=some v) (htok:getH hp id=some (.tok (zaD n) k)) (hv:zbk v=some vs) (hk:vs.length=k) (ho:zfW vs=true) (hne:vs≠[]) (hjs:(AV.idsL vs).all (zaH · js)=true)
  (hn:Walk c all chk os (zak (pg++(opF x (.gp id (zaD n) (n*k) k [] [])++opF y v)) [(id,.tok (zaD n) k)] [] ⟨some (t0,.gp id (zaD n+1) (n*k) k js vs),[(id,some (.tok (zaD n+1) k))]⟩::recs)
   ⟨(t0,.gp id (zaD n+1) (n*k) k js vs)::env,(id,some (.tok (zaD n+1) k))::hp⟩ Q):
  Walk c all chk (⟨none,.store t x y,ty,pos,af,g⟩::os) recs ⟨env,hp⟩ Q:=by
 subst hxt;refine⟨pg++(opF (.tmp t0) (.gp id (zaD n) (n*k) k [] [])++opF y v),[(id,.tok (zaD n) k)],[],_, ?_,zap hg.facts (zap (zaR hx) (zaR hy)),hh1 htok,by simp,hn⟩;intro s a w hrel hp' hh _ K Q' hK;obtain⟨G,hr⟩:=hrel;have hbx:=hh1' hh;have hT:tokf s.hp id=some (zaD n,k):=zaj.2 hbx;have s0:getE s.env t0=some (.gp id (zaD n) (n*k) k [] []):=hp' (t0,_) (by simp[opF]);have e1:=hr.slots t0 _ s0;have e2:=hr.opd (zaT hy (fun p hm=>hp' p (by simp[hm])));obtain⟨b,us,e,he,h1,h4,h3,h5,_⟩:=e1.gp_at hT;have hbm:b∈G.loc id:=by
  cases hq:G.loc id with
  |nil=>rw[hq] at h1;cases h1
  |cons x r=>rw[hq] at h1;cases h1;simp
 have he':a.eval (.tmp t0) = .pointer (some ⟨b,n*k,none⟩):=he;have hvr:=zej e2 hv;have hsz:=hvr.size;let vl:=(a.eval y).cells.toList
 have hvl:vl.length=vs.length:=by simp only[vl,Array.length_toList];exact hsz
 have hst:=run_storeCells_at c.P b (n*k) e vl 0 us w h3 oe (fun u hu=>by
  obtain⟨j,hj,rfl⟩:=List.getElem_of_mem hu;have hj':j<vs.length:=by omega
  have:=hvr.rel j hj' (by simpa [vl] using hj);simpa [vl] using this.one (zfz ho _ (xao hj')))
 simp only[Nat.add_zero] at hst;let row:Array Value:=(us.toList.take (n*k)++vl++us.toList.drop (n*k+vl.length)).toArray
 have hrs:row.size=us.size:=by
  simp only[row,List.size_toArray,xaa,List.length_take,List.length_drop,Array.length_toList];omega
 have hother:∀q,q≠b->(w.setRow b row).heap[q]?=w.heap[q]?:=fun q hq=>setRow_other w b q row hq;have hcell:∀b' o,o<G.F b'->o<G.F b'/\(w.setRow b row).cell? ⟨b',o,none⟩=w.cell? ⟨b',o,none⟩:=fun b' o ho=>by
  have hne:b'≠b:=fun e=>by subst e;rw[h4] at ho;omega
  exact⟨ho,cell_setRow_other w b row _ hne⟩
 have hnew:(w.setRow b row).heap[b]?=some (.cells row e (0,0)):=setRow_heap w b us row e _ h3;have hbound:∀i r,getH s.hp i=some r->∀b,b∈G.loc i->b<w.heap.size:=fun i r h=>(hr.heap i r h).bound;have hlow:∀q,q<n*k->row.getD q undef=us.getD q undef:=fun q hq=>by
  have h1:q<us.size:=by omega
  have h2:q<row.size:=by omega
  have e1:row.getD q undef=row[q]:=by simp[Array.getD,h2]
  have e2:us.getD q undef=us[q]:=by simp[Array.getD,h1]
  rw[e1,e2];simp only[row,List.getElem_toArray];rw[List.getElem_append_left ot,List.getElem_append_left ot,List.getElem_take,Array.getElem_toList]
 have hmid:∀j (hj2:j<vl.length) (h2:n*k+j<row.size),row[n*k+j]=vl[j]:=fun j hj2 h2=>by
  simp only[row,List.getElem_toArray];have hm:min (n*k) us.size=n*k:=by omega
  rw[List.getElem_append_left ot,List.getElem_append_right ot];simp only[List.length_take,Array.length_toList,hm,Nat.add_sub_cancel_left]
 have hT1:tokf ((id,some (Res.tok (zaD n+1) k))::s.hp) id=some (zaD n+1,k):=zaj.2 o6;have hT2:∀i,i≠id->tokf ((id,some (Res.tok (zaD n+1) k))::s.hp) i=tokf s.hp i:=fun i hi=>by
  unfold tokf;rw[zac,if_neg hi]
 have hpar:∀(m:Nat),(zaD n+1=zaD m\/zaD n+1=zaD m+1)->n=m/\zaD n=zaD m:=fun m he=>by
  rcases he with he|he
  ·exact absurd he (zpu _ _)
  ·have:zaD n=zaD m:=by omega
   exact⟨zoE this,this⟩
 have hgh:(∀xs v,RelA G (tokf s.hp) w (.gh id xs) v->RelA G (tokf ((id,some (.tok (zaD n+1) k))::s.hp)) (w.setRow b row) (.gh id xs) v)/\∀xs v,RelA G (tokf s.hp) w (.ght id xs) v->RelA G (tokf ((id,some (.tok (zaD n+1) k))::s.hp)) (w.setRow b row) (.ght id xs) v:=by
  refine⟨fun xs v hx=>?_,fun xs v hx=>?_⟩
  ·cases hx with
   |gh hv0 hgh=>
    refine .gh hv0 (fun m k' hm he=>?_);rw[hT1] at hm;cases hm;obtain⟨hxl,hxn⟩:=hpar _ he;obtain⟨r1,b2,cap,cs,e2,r2,r3,r4,r5,r6,r7,r8⟩:=hgh _ _ hT (.inl hxn);rw[r2] at h1;cases h1;rw[h3] at r5;cases r5;refine⟨r1,b,cap,row,e,r2,r3,h4,hnew,by rw[hrs];exact r6,r7,fun i hi j hj=>?_⟩;have hq:i*k+j<n*k:=by rw[hxl];exact zb7 hi (by rw[<-r1 _ (xao hi)];exact hj)
    rw[hlow _ hq];exact(r8 i hi j hj).mono hcell
  ·cases hx with
   |ght hv0 hgh=>
    refine .ght hv0 (fun m k' hm he=>?_);rw[hT1] at hm;cases hm;obtain⟨hxl,hxn⟩:=hpar _ he;obtain⟨r1,b2,cap,cs,e2,Ss,extra,r2,r3,r5,r6,r7,rn,r4,r8⟩:=hgh _ _ hT (.inl hxn);have hb2:b2=b:=by rw[r2] at h1;cases h1;rfl
    subst hb2;rw[h3] at r5;cases r5;refine⟨r1,b2,cap,row,e,Ss,extra,r2,r3,hnew,by rw[hrs];exact r6,r7,rn,r4,fun i hi j hj=>?_⟩;have hjk:j<k:=by rw[<-r1 _ (xao hi)];exact hj
    have hq:i*k+j<n*k:=by rw[hxl];exact zb7 hi hjk
    rw[hlow _ hq];refine(r8 i hi j hj).mono (fun b' hb'=>hother b' (fun e=>?_));subst e;rw[r2] at rn;exact(List.nodup_cons.1 rn).1 (List.mem_append_left _ (List.mem_flatMap.2 ⟨i*k+j,List.mem_range.2 (by rw[<-hxl];exact hq),hb'⟩))
 have hR:=hr.retokH (G':=G) (w':=w.setRow b row) (n':=zaD n+1) hbx oe hgh hcell (fun _ _=>rfl)
  (fun b' _ hb'=>⟨hother b' (fun e=>hb' (by rw[e];exact hbm)),rfl⟩) (fun b' hb'=>by simpa using hbound id _ hbx b' hb') (fun b' hb'=> .inl hb') rfl rfl rfl oh (fun b' hb'=>hr.top b' (by simpa using hb'))
 unfold wpO;rw[if_pos (hg.gf.wanted hr (fun p hm=>hp' p (by simp[hm])))];unfold Oper.wp;have hrun:(execOp a.eval ⟨none,.store t (.tmp t0) y,ty,pos,af,g⟩).run c.P w = .ok .skip (w.setRow b row):=by
  have hsz2:(a.eval y).cells.size=k:=by omega
  simp only[execOp,he',Instr.storeAt,Instr.sureAddr,Sem.run_bind,Sem.run_pure,Result.andThen_ok,storeVar,ht.run_size];simp only[hsz2,ne_eq,not_true_eq_false,if_false];have hst':=hst;simp only[vl] at hst';simp only[Result.andThen_ok,hst',vl,row]
 rw[hrun,Oper.upon_skip];have hslot:RelA G (tokf ((id,some (Res.tok (zaD n+1) k))::s.hp)) (w.setRow b row) (.gp id (zaD n+1) (n*k) k js vs) (a.tmps.getD t0 undef):=by
  have he2:a.tmps.getD t0 undef = .pointer (some ⟨b,n*k,none⟩):=he;rw[he2];refine .gpL (fun x hx=>zat.1 (List.all_eq_true.1 hjs x hx)) hT1 h1 h4 hnew oe (fun j hj hv=>?_);have hj2:j<vl.length:=by omega
  rw[hmid j hj2 hv];have h9:=hvr.rel j hj (by simpa [vl] using hj2);have h10:=h9.retok (T':=tokf ((id,some (Res.tok (zaD n+1) k))::s.hp)) (w':=w.setRow b row) hcell hT oe hT1 hT2 (fun _ _=>rfl) (fun i p hi hp b' hb'=>by
   obtain⟨m,q⟩:=p;have hq:=zaj.1 hp;refine⟨hother b' (fun e=>?_),rfl⟩;subst e;exact hr.disj i id (by rw[hq];rfl) (by rw[hbx];rfl) hi b' hb' hbm) hgh
  simpa [vl] using h10
 exact hK _ _ ⟨G,(hR.slot hslot).putNone⟩
end
set_option maxRecDepth 100000
set_option maxHeartbeats 2000000
theorem zpb {r:Rd} (h:r.bad=true){b:UInt8} (hb:b≠0):zaP r b=r:=by
 obtain⟨s,bad⟩:=r;have h':bad=true:=h;subst h';have e:=zeb (r:=⟨s,true⟩) (.inl rfl);unfold zaP;rw[zoS e];show Rd.mk s (_||true)=_
 rw[Bool.or_true]
theorem zli {ts:List Ty}{r:Rd} (h:r.bad=true):zb3 ts r=r:=by
 unfold zb3;split
 ·exact zpb h oi
 ·rfl
def sgR (i:Nat):UInt8:=if i=0 then 40 else 44
theorem zn6 {f:Ty->Rd->Pat×Rd}{ts:List Ty}{i:Nat}{r:Rd} (hi:i<ts.length) (hb:r.bad=false):
  zbe f (decide (i=0)) (ts.drop i) r=((f (nth ts i) (zaP r (sgR i))).1::(zbe f (decide (i+1=0)) (ts.drop (i+1)) (f (nth ts i) (zaP r (sgR i))).2).1,(zbe f (decide (i+1=0)) (ts.drop (i+1)) (f (nth ts i) (zaP r (sgR i))).2).2):=by
 rw[zbm hi,zbe,if_neg (by rw[hb];simp)];have e:(if decide (i=0)=true then (40:UInt8) else 44)=sgR i:=by unfold sgR;by_cases h:i=0<;>simp[h]
 rw[e,show decide (i+1=0)=false from xaw oe]
def kidG (f:Ty->Rd->Pat×Rd) (ts:List Ty) (K:List Pat×Rd) (i:Nat) (acc:List Pat) (r:Rd):Prop:=
 K=(acc++(zbe f (decide (i=0)) (ts.drop i) r).1,(zbe f (decide (i=0)) (ts.drop i) r).2)
theorem zlg {f:Ty->Rd->Pat×Rd}{ts:List Ty}{K:List Pat×Rd}{i:Nat}{acc:List Pat}{r:Rd} (h:kidG f ts K i acc r) (hi:i<ts.length) (hb:r.bad=false):
  kidG f ts K (i+1) (acc++[(f (nth ts i) (zaP r (sgR i))).1]) (f (nth ts i) (zaP r (sgR i))).2:=by
 unfold kidG at h ⊢;rw[h,zn6 hi hb];simp
theorem zmz {f:Ty->Rd->Pat×Rd}{ts:List Ty}{K:List Pat×Rd}{i:Nat}{acc:List Pat}{r:Rd} (h:kidG f ts K i acc r) (hi:i<ts.length) (hb:r.bad=true):K=(acc,r):=by
 unfold kidG at h;rw[h,zbm hi,zbe,if_pos hb];simp
theorem zmA {f:Ty->Rd->Pat×Rd}{ts:List Ty}{K:List Pat×Rd}{i:Nat}{acc:List Pat}{r:Rd} (h:kidG f ts K i acc r) (hi:ts.length<=i):K=(acc,r):=by
 unfold kidG at h;rw[h,List.drop_eq_nil_of_le hi,zbe];simp
abbrev kIn (w:List Data) (c deep:Int) (acc:List Pat) (r:Rd):Hp:=[(901,some (.box (rdC w r))),(902,some (.box [.d (.i 4),.d (.i c),.d (.i 0),.d (.i 0),.d (.i 0),.gv 5 (acc.map Pat.cc)])),(5,some (.tok (acc.map Pat.cc).length 6)),(903,some (.box [.ref 901 0])),(904,some (.box [.d (.i deep)]))]
abbrev kOut (w:List Data) (c:Int) (acc:List Pat) (r:Rd):Hp:=[(901,some (.box (rdC w r))),(902,some (.box [.d (.i 4),.d (.i c),.d (.i 0),.d (.i 0),.d (.i 0),.gv 7 (acc.map Pat.cc)])),(7,some (.tok (acc.map Pat.cc).length 6)),(5,none)]
theorem zhM {w:List Data}{c deep:Int}{ts:List Ty} (hl:ts.length<=3){r:Rd} (hs:r.s.length<=1000000000000){f:Ty->Rd->Pat×Rd} (hfl:∀t r,(f t r).2.s.length<=r.s.length)
  (hpart:∀t∈ts,∀(acc:List Pat) (r:Rd),acc.length<=3->r.s.length<=1000000000000->FnD Tryz.prog 88 [.agg [.d (.i t.data),.d (.i t.index)],.ref 902 0,.ref 903 0,.ref 904 0] (kIn w c deep acc r) (.tup []) (kOut w c (acc++[(f t r).1]) (f t r).2)):
  FnD Tryz.prog 86 [.ref 901 0,.d (za9 ts),.fn 88 [.ref 902 0,.ref 903 0,.ref 904 0]]
   [(901,some (.box (rdC w r))),(902,some (.box [.d (.i 4),.d (.i c),.d (.i 0),.d (.i 0),.d (.i 0),.gv 5 []])),(5,some (.tok 0 6)),(903,some (.box [.ref 901 0])),(904,some (.box [.d (.i deep)]))] (.tup []) (kOut w c (zbe f true ts r).1 (zb3 ts (zbe f true ts r).2)):=by
 have hg0:kidG f ts (zbe f true ts r) 0 [] r:=rfl;generalize zbe f true ts r=K at *;have hnext:=fun(i:Nat) (acc:List Pat) (r:Rd)=>zlg (f:=f) (ts:=ts) (K:=K) (i:=i) (acc:=acc) (r:=r);have hbad:=fun(i:Nat) (acc:List Pat) (r:Rd)=>zmz (f:=f) (ts:=ts) (K:=K) (i:=i) (acc:=acc) (r:=r);have hend:=fun(i:Nat) (acc:List Pat) (r:Rd)=>zmA (f:=f) (ts:=ts) (K:=K) (i:=i) (acc:=acc) (r:=r);have hsl:=zde;have hs0:∀i,i=0->sgR i=40:=fun i h=>if_pos h;have hs1:∀i,¬i=0->sgR i=44:=fun i h=>if_neg h;have hk1:∀r,0<ts.length->zb3 ts r=zaP r 41:=fun r h=>if_pos h;have hk0:∀r,¬0<ts.length->zb3 ts r=r:=fun r h=>if_neg h;refine bd Tryz.f86 34 [] [0,7] fun _ _ _ _ hk=>?_;refine xaJ 902 5 5 7 I I I I (evc [] [] (xaD (ι:=Nat×List Pat×Rd) hk (fun x=>[(10,.d (.i (x.1:Int)))]) [6,7,11,12,13,14,15,16,17,18,19,20,21,22,23,24,25,26,27,28] (fun x=>[(901,some (.box (rdC w x.2.2))),(902,some (.box [.d (.i 4),.d (.i c),.d (.i 0),.d (.i 0),.d (.i 0),.gv 7 (x.2.1.map Pat.cc)])),(7,some (.tok (x.2.1.map Pat.cc).length 6)),(5,none)]) (fun x=>x.1<=ts.length/\x.2.1.length<=x.1/\x.2.2.s.length<=1000000000000/\kidG f ts K x.1 x.2.1 x.2.2) (fun x=>ts.length-x.1) (0,[],r) ⟨Nat.zero_le _,by simp,hs,hg0⟩ ⟨⟨_,I,xaT ?_⟩,O⟩ ⟨?_,⟨?_,⟨zar ?_,⟨?_,O⟩⟩⟩⟩ (fun x=>rfl) (fun x hg1=>?_)));focus (first|rfl|(simp;done)|omega|(simp;omega))
 iterate 2 focus (first|rfl|(rw[hs0 x.1 oe];all_goals rfl)|(rw[hs1 x.1 oe];all_goals rfl))
 focus (first|rfl|(simp;done)|omega|(simp;omega))
 focus (first|rfl|(rw[hs0 x.1 oe];all_goals rfl)|(rw[hs1 x.1 oe];all_goals rfl))
 refine evc [] [0,7] ?_;apply sq<;>intro h1 h1p h1s<;>(try simp only[Q,xal,xac] at h1p);refine ixq sl78 I I I (zau oe) I ?_;refine ev (Walk.alloc (id:=3007) tz31 I .none I od od od ?_);refine ev (so ty31 ?_);apply tv;apply sq<;>intro h2 h2p h2s<;>(try simp only[Q,xal,xac] at h2p);refine rn [(901,some (.box (rdC w (zb3 ts K.2)))),(902,some (.box [.d (.i 4),.d (.i c),.d (.i 0),.d (.i 0),.d (.i 0),.gv 7 (K.1.map Pat.cc)])),(7,some (.tok (K.1.map Pat.cc).length 6)),(5,none)] .nil (.refl _) ⟨I,I⟩ (SubO.get ⟨.inr ?_,⟨.inr ?_,⟨.inr ?_,⟨.inr ?_,⟨.inl I,⟨.inl I,⟨.inl I,⟨.inr I,⟨.inr I,O⟩⟩⟩⟩⟩⟩⟩⟩⟩) (zao I);rotate_left 4;apply sq<;>intro h3 h3p h3s<;>(try simp only[Q,xal,xac] at h3p);refine Walk.call (cr:=[]) zb2 (zaz (w:=w) (r:=x.2.2) (b:=40)) I .none I I (LeL.refl _) ⟨I,O⟩ I og od ?_;apply tv;refine xaJ 902 5 7 5 I I I I (evc [] [] (xbD [5] [7] zlS (hpart (nth ts x.1) (zaq oe) x.2.1 (zaP x.2.2 _) oe (by have:=hsl x.2.2;first|exact Nat.le_trans (this _) hg1.2.2.1)) I .none I I I (LeL.refl _) ⟨I,I,I,I,I,O⟩ I od ?_));apply tv;refine ar (xaj ((x.1+1,x.2.1++[(f (nth ts x.1) (zaP x.2.2 (sgR x.1))).1],(f (nth ts x.1) (zaP x.2.2 (sgR x.1))).2)) ⟨⟨by dsimp only;omega,by simp;omega,Nat.le_trans (hfl _ _) (Nat.le_trans (hsl _ _) hg1.2.2.1),hnext x.1 x.2.1 x.2.2 hg1.2.2.2 oe oq⟩,(by dsimp only;omega),sx ⟨⟨_,I,xaT ?_⟩,O⟩ ⟨?_,⟨?_,⟨zar ?_,⟨?_,O⟩⟩⟩⟩⟩);focus (first|rfl|(simp;done)|omega|(simp;omega))
 iterate 2 focus (first|rfl|(rw[hs0 x.1 oe];all_goals rfl)|(rw[hs1 x.1 oe];all_goals rfl))
 focus (first|rfl|(simp;done)|omega|(simp;omega))
 focus (first|rfl|(rw[hs0 x.1 oe];all_goals rfl)|(rw[hs1 x.1 oe];all_goals rfl))
 refine Walk.call (cr:=[]) zb2 (zaz (w:=w) (r:=x.2.2) (b:=44)) I .none I I (LeL.refl _) ⟨I,O⟩ I og od ?_;apply tv;refine xaJ 902 5 7 5 I I I I (evc [] [] (xbD [5] [7] zlS (hpart (nth ts x.1) (zaq oe) x.2.1 (zaP x.2.2 _) oe (by have:=hsl x.2.2;first|exact Nat.le_trans (this _) hg1.2.2.1)) I .none I I I (LeL.refl _) ⟨I,I,I,I,I,O⟩ I od ?_));apply tv;refine ar (xaj ((x.1+1,x.2.1++[(f (nth ts x.1) (zaP x.2.2 (sgR x.1))).1],(f (nth ts x.1) (zaP x.2.2 (sgR x.1))).2)) ⟨⟨by dsimp only;omega,by simp;omega,Nat.le_trans (hfl _ _) (Nat.le_trans (hsl _ _) hg1.2.2.1),hnext x.1 x.2.1 x.2.2 hg1.2.2.2 oe oq⟩,(by dsimp only;omega),sx ⟨⟨_,I,xaT ?_⟩,O⟩ ⟨?_,⟨?_,⟨zar ?_,⟨?_,O⟩⟩⟩⟩⟩);focus (first|rfl|(simp;done)|omega|(simp;omega))
 iterate 2 focus (first|rfl|(rw[hs0 x.1 oe];all_goals rfl)|(rw[hs1 x.1 oe];all_goals rfl))
 focus (first|rfl|(simp;done)|omega|(simp;omega))
 focus (first|rfl|(rw[hs0 x.1 oe];all_goals rfl)|(rw[hs1 x.1 oe];all_goals rfl))
 apply sq<;>intro h4 h4p h4s<;>(try simp only[Q,xal,xac] at h4p);refine Walk.call (cr:=[]) zb2 (zaz (w:=w) (r:=x.2.2) (b:=41)) I .none I I (LeL.refl _) ⟨I,O⟩ I og od ?_;apply tv;refine rn [(901,some (.box (rdC w (zb3 ts K.2)))),(902,some (.box [.d (.i 4),.d (.i c),.d (.i 0),.d (.i 0),.d (.i 0),.gv 7 (K.1.map Pat.cc)])),(7,some (.tok (K.1.map Pat.cc).length 6)),(5,none)] .nil (.refl _) ⟨I,I⟩ (SubO.get ⟨.inr ?_,⟨.inr ?_,⟨.inr ?_,⟨.inr ?_,⟨.inl I,⟨.inl I,⟨.inl I,⟨.inr I,⟨.inr I,O⟩⟩⟩⟩⟩⟩⟩⟩⟩) (zao I);rotate_left 4;refine rn [(901,some (.box (rdC w (zb3 ts K.2)))),(902,some (.box [.d (.i 4),.d (.i c),.d (.i 0),.d (.i 0),.d (.i 0),.gv 7 (K.1.map Pat.cc)])),(7,some (.tok (K.1.map Pat.cc).length 6)),(5,none)] .nil (.refl _) ⟨I,I⟩ (SubO.get ⟨.inr ?_,⟨.inr ?_,⟨.inr ?_,⟨.inr ?_,⟨.inl I,⟨.inl I,⟨.inl I,⟨.inr I,⟨.inr I,O⟩⟩⟩⟩⟩⟩⟩⟩⟩) (zao I);rotate_left 4;all_goals (first|((rfl);done)|((first|rw[hbad x.1 x.2.1 x.2.2 hg1.2.2.2 oe oq]|rw[hend x.1 x.2.1 x.2.2 hg1.2.2.2 oe]);first|rfl|(rw[hk0 x.2.2 oe];all_goals rfl)|(rw[hk1 x.2.2 oe];all_goals rfl)|(rw[zli oq];all_goals rfl)))
set_option maxHeartbeats 4000000
theorem zpK {α:Type} (l:List α) (z y:α):(l++[z]).set l.length y=l++[y]:=by simp
theorem zgd {w:List Data}{c deep:Int} (hd:0<=deep/\deep<=1000){a k:Int}{acc:List Pat} (hl:acc.length<=3){r:Rd} (z:Pat×Rd)
  (ih:FnD Tryz.prog 50 [.ref 901 0,.agg [.d (.i a),.d (.i k)],.d (.i (deep+1))] [(901,some (.box (rdC w r)))] (.agg [.d (.i z.1.op),.d (.i z.1.ctor),.d (.i z.1.n),.d (.i z.1.m),.d (.i z.1.var),.d (zaC z.1.kids)]) [(901,some (.box (rdC w z.2)))]):
  FnD Tryz.prog 88 [.agg [.d (.i a),.d (.i k)],.ref 902 0,.ref 903 0,.ref 904 0] (kIn w c deep acc r) (.tup []) (kOut w c (acc++[z.1]) z.2):=by
 have hset:=zpK (acc.map Pat.cc) (nth [[.i 0,.i 0,.i 0,.i 0,.i 0,.sl []]] 0) z.1.cc;rw[xac] at hset;refine Fn.body (fn:=Tryz.f88) (n:=17) I I I I I (fun _ _ _ _ hk=>?_);refine sr (bx 3004 ?_);apply tv;refine CWp.thn ?_;refine CWp.drawn zlX I ?_;refine xbK zjO .none I I (xbR ty45 .none I I I I (xbR ty89 .none I I I I (xbS ty31 .none I I I I (xbR ty3 .none I I I I (xbu .none I I I (by first|(constructor<;>omega)|(constructor<;>simp<;>omega)) ?_)))));refine wd zb1 ih I I ⟨I,O⟩ ?_;refine Walk.lenV sl45 .none I I (si [0] [_] sl45 tz47 ?_);refine Walk.appendH 9 sl45 zz47 .none I I I I (ze5 I ua) I ot ot I I ?_;refine Walk.idxH sl45 .none I I I I I (Walk.putH [] ty47 .none I I I I I I I oh I ?_);refine xbK zjO .none I I (so ty45 ?_);refine⟨by show _=_;kernel_rfl, ?_⟩;refine fun aZ wZ hrZ=>⟨_,Rel.holeGv (k:=6) 902 15 5 9 7 z.1.cc I I I I I I hrZ, ?_⟩;refine⟨_,_,[(901,some (.box (rdC w z.2))),(902,some (.box [.d (.i 4),.d (.i c),.d (.i 0),.d (.i 0),.d (.i 0),.gv 7 ((acc++[z.1]).map Pat.cc)])),(7,some (.tok ((acc++[z.1]).map Pat.cc).length 6)),(5,none)],.nil,(.refl _),⟨rfl,rfl⟩,(SubO.get ⟨.inr ?_,⟨.inr ?_,⟨.inr ?_,⟨.inr ?_,⟨.inl rfl,⟨.inl rfl,⟨.inl rfl,⟨.inr rfl,⟨.inr rfl,trivial⟩⟩⟩⟩⟩⟩⟩⟩⟩),(zao rfl)⟩;rotate_left 4;all_goals (first|((rfl);done)|(first|rfl|(rw[xag];all_goals rfl)|(show some (Res.tok _ _)=some (Res.tok _ _);simp;done)))
section
variable {c:Ctx}
theorem RelA.ga_inv {G:Gh}{T:TokF}{w:World}{id n k:Nat}{js:List Nat}{cs:List AV}{v:Value} (h:RelA G T w (.ga id n js cs) v) (hT:T id=some (n,k)):
  ∃b cap vs e,G.loc id=[b]/\G.F b=0/\w.heap[b]?=some (.cells vs e (0,0))/\cap*k<=vs.size/\n<=cap/\cs.length=n*k/\
   (∀i (hi:i<cs.length) (hv:i<vs.size),RelA G T w cs[i] vs[i])/\(∀x,x∈AV.idsL cs->x∈js)/\v = .slice (some ⟨b,0,none⟩) n cap:=by
 cases h with
 |gaD hv hT'=>exact absurd (hT' n k hT) (Nat.lt_irrefl _)
 |gaL hj hT' hl hF hb hck hn hcs hr=>
  rw[hT] at hT';cases hT'
  exact⟨_,_,_,_,hl,hF,hb,hck,hn,hcs,hr,hj,rfl⟩
end
theorem RelA.ght_hole {G:Gh}{T:TokF}{w:World}{id k m:Nat}{xs:List (List D)}{v:Value} (h:RelA G T w (.ght id xs) v) (hT:T id=some (m,k)) (he:m=zaD xs.length\/m=zaD xs.length+1):HoleT G w id k v xs:=by
 cases h with|ght hv h=>exact h m k hT he
section
variable {c:Ctx}{all:Array Oper}{chk:List Rec->Prop}{os:List Oper}{recs:List Rec}{env:Env}{hp:Hp}{Q:St->Prop}
variable {d ty:Nat}{pos:String}{af:Array Edge}{g:Option (Nat×Bool)}{pg:List (Nat×AV)}{t yt:TypeId}{x y:Operand}
theorem Walk.appendHT {ids:List Nat}{id b0 m k e yb:Nat}{xs:List (List D)}{cells:List AV}{row:List D} (id2:Nat) (hkp:KeptIn c.kept ids) (hkb:zaH b0 ids=false) (ht:SlT c.P t e k yb) (hz:ZeroT c.P e k) (hg:GH all env g pg) (hd:Nat.blt d c.n=true)
  (hx:opd env x=some (.gt id xs)) (hy:opd env y=some (.ms b0 m)) (hm1:m=1) (htok:getH hp id=some (.tok xs.length k)) (hbox:getH hp b0=some (.box cells)) (hrow:RowT hp cells row []) (hck:cells.length=k)
  (hb:(xs.length+1)*yb<=140737488355328) (hm:xs.length+1<=9223372036854775807) (hfr:zae env hp [id2]=true) (hid2:Nat.beq id2 id=false) (hib:Nat.beq b0 id=false)
  (hn:Walk c all chk os (zak (pg++(opF x (.gt id xs)++opF y (.ms b0 m))) [(id,.tok xs.length k),(b0,.box cells)] [id2] ⟨some (d,.ght id2 xs),[(id2,some (.tok (zaD xs.length) k)),(id,none),(b0,none)]⟩::recs)
   ⟨(d,.ght id2 xs)::env,(id2,some (.tok (zaD xs.length) k))::(id,none)::(b0,none)::hp⟩ Q):
  Walk c all chk (⟨some d,.call ⟨.builtin .append,#[x,y],#[t,t]⟩,ty,pos,af,g⟩::os) recs ⟨env,hp⟩ Q:=by
 refine⟨pg++(opF x (.gt id xs)++opF y (.ms b0 m)),[(id,.tok xs.length k),(b0,.box cells)],[id2],_, ?_,zap hg.facts (zap (zaR hx) (zaR hy)),fun p hm=>?_,zbq hfr,hn⟩
 ·intro s a w hrel hp' hh hcr K Q' hK;obtain⟨f0,focc⟩:=hcr id2 oh;obtain⟨G,hr⟩:=hrel;have hne2:id2≠id:=fun e=>by subst e;simp at hid2
  have hneb:b0≠id:=fun e=>by subst e;simp at hib
  have hbx:=hh (b0,.box cells) oh;have hne3:id2≠b0:=fun e=>by
   subst e;have h1:getH s.hp id2=some (.box cells):=hbx;have h2:getH s.hp id2=none:=f0;rw[h2] at h1;cases h1
  have e1:=hr.opd (zaT hx (fun p hm=>hp' p (by simp[hm])));have e2:=hr.opd (zaT hy (fun p hm=>hp' p (by simp[hm])));obtain⟨i,z,z1,z2,z3⟩:=hz.out;obtain⟨v',w',G',hrun,hR,hA⟩:=zhT hr ht ⟨i,z1,z2,z3⟩ (fun l hl=>by have:=zat.2 (hkp.mem _ l hl);rw[this] at hkb;cases hkb) (hh (id,.tok xs.length k) oh) hbx
   (hrow.move (fun q hq=>by simp at hq)) hck (js:=[]) rfl e1 e2 hm1 hb hm ty
  unfold wpO;rw[if_pos (hg.gf.wanted hr (fun p hm=>hp' p (by simp[hm])))];unfold Oper.wp;have:(execOp a.eval ⟨some d,.call ⟨.builtin .append,#[x,y],#[t,t]⟩,ty,pos,af,g⟩).run c.P w = .ok (.value v') w':=by
   simp only[execOp,resolve,invoke,builtin,Sem.run_bind,Sem.run_pure,Result.andThen_ok,List.map_toArray,xaf,List.map_nil,hrun]
  rw[this,Oper.upon_value];have hT:tokf ((id,some (Res.tok (xs.length+1) k))::([b0].map (fun j=>(j,(none:Option Res)))++s.hp)) id=some (xs.length+1,k):=zaj.2 o6;obtain⟨⟨ad,cap0,hv0⟩,hcl⟩:=hA.gt_inv;obtain⟨hkx,htip⟩:=(hcl _ _ hT).2 oh;obtain⟨G2,q1,q2,q3,_⟩:=hR.tokMoveN (j:=id2) (zaD xs.length) k o6 (by
   show getH ((id,_)::(b0,none)::s.hp) id2=none
   rw[zac,if_neg hne2,zac,if_neg hne3];exact f0) ⟨focc.1,fun j r hj=>by
   have hj':getH ((id,some (Res.tok (xs.length+1) k))::(b0,none)::s.hp) j=some r:=hj;rw[zac] at hj';split at hj'
   ·cases hj';simp[Res.ids]
   ·rw[zac] at hj';split at hj'
    ·cases hj'
    ·exact focc.2 j r hj'⟩
  have hgh:RelA G2 (tokf ((id2,some (.tok (zaD xs.length) k))::(id,none)::(id,some (.tok (xs.length+1) k))::([b0].map (fun j=>(j,(none:Option Res)))++s.hp))) w' (.ght id2 xs) v':=by
   refine .ght ⟨ad,cap0,by rw[hv0,xaa];rfl⟩ (fun m k' hm he=>?_);rw[show tokf ((id2,some (Res.tok (zaD xs.length) k))::(id,none)::(id,some (Res.tok (xs.length+1) k))::([b0].map (fun j=>(j,(none:Option Res)))++s.hp)) id2=some (zaD xs.length,k) from zaj.2 o6] at hm;cases hm
   rcases htip with ⟨_,h2,_⟩|⟨b,cap,cs,et,Ss,h1,h2,h3,h4,h5,h6,h7,h8,_⟩
   ·omega
   refine⟨fun x hx=>hkx x (by simp[hx]),b,cap,cs,et,Ss,(List.range k).flatMap (fun i=>Ss (xs.length*k+i)), ?_,h2,h3,h4,h5,by rw[q3];exact h6,fun b' hb'=>by rw[q2];exact h7 b' (by rw[<-q3];exact hb'),fun i hi j hj=>?_⟩
   ·rw[q3,h1,Nat.add_mul,Nat.one_mul,zcv]
   ·have e1:(xs++[row])[i]' ot=xs[i]:=List.getElem_append_left hi;have:=h8 i ot j (by rw[e1];exact hj);simp only[e1] at this;exact this
  refine hK _ _ (Rel.congr ⟨G2,q1.put hgh hd⟩ (fun j=>rfl) (fun j=>?_));show getH ((id2,_)::(id,none)::(b0,none)::s.hp) j=getH ((id2,_)::(id,none)::(id,_)::(b0,none)::s.hp) j
  rw[zac,zac,zac,zac,zac,zac,zac];by_cases h1:j=id2
  ·rw[if_pos h1,if_pos h1]
  ·rw[if_neg h1,if_neg h1];by_cases h2:j=id
   ·rw[if_pos h2,if_pos h2]
   ·rw[if_neg h2,if_neg h2,if_neg h2]
 ·rcases List.mem_cons.1 hm with rfl|hm
  ·exact htok
  ·rw[List.mem_singleton.1 hm];exact hbox
theorem Walk.idxHT {id e k yb:Nat}{xs:List (List D)}{kd:IntKind}{n:Int} (ht:SlT c.P t e k yb) (hg:GH all env g pg) (hd:Nat.blt d c.n=true)
  (hx:opd env x=some (.ght id xs)) (hy:opd env y=some (.d (.int kd n))) (htok:getH hp id=some (.tok (zaD xs.length) k)) (hi:n = ↑xs.length)
  (hn:Walk c all chk os (zak (pg++(opF x (.ght id xs)++opF y (.d (.int kd n)))) [(id,.tok (zaD xs.length) k)] [] ⟨some (d,.gp id (zaD xs.length) (xs.length*k) k [] []),[]⟩::recs) ⟨(d,.gp id (zaD xs.length) (xs.length*k) k [] [])::env,hp⟩ Q):
  Walk c all chk (⟨some d,.indexAddr t x y,ty,pos,af,g⟩::os) recs ⟨env,hp⟩ Q:=by
 refine⟨pg++(opF x (.ght id xs)++opF y (.d (.int kd n))),[(id,.tok (zaD xs.length) k)],[],_, ?_,zap hg.facts (zap (zaR hx) (zaR hy)),hh1 htok,by simp,hn⟩;intro s a w hrel hp' hh _ K Q' hK;obtain⟨G,hr⟩:=hrel;have hT:tokf s.hp id=some (zaD xs.length,k):=zaj.2 (hh1' hh);have e1:=hr.opd (zaT hx (fun p hm=>hp' p (by simp[hm])));have e2:=hr.opd (zaT hy (fun p hm=>hp' p (by simp[hm])));obtain⟨hkx,b,cap,cs,et,Ss,extra,h1,h2,h4,h5,h6,_,h3,h7⟩:=e1.ght_hole hT (.inl rfl);unfold wpO;rw[if_pos (hg.gf.wanted hr (fun p hm=>hp' p (by simp[hm])))];unfold Oper.wp;have:(execOp a.eval ⟨some d,.indexAddr t x y,ty,pos,af,g⟩).run c.P w = .ok (.value (.pointer (some ⟨b,0+xs.length*k,none⟩))) w:=by
  simp only[execOp,h2,e2.int_eq,hi,Sem.run_bind,zc4 ht (show xs.length<xs.length+1 by omega),Result.andThen_ok,Sem.run_pure]
 rw[this,Oper.upon_value];refine hK _ _ ⟨G,hr.put (v:= .gp id (zaD xs.length) (xs.length*k) k [] []) (by
  rw[Nat.zero_add];refine .gpL (by simp[AV.idsL]) hT (by rw[h1];rfl) (h3 b (by rw[h1];simp)) h4 ?_ (fun i hi=>by simp at hi);have h8:(xs.length+1)*k<=cap*k:=xav _ h6;rw[Nat.add_mul,Nat.one_mul] at h8;exact Nat.le_trans h8 h5) hd⟩
end
section
variable {c:Ctx}{env:Env}{hp:Hp}{K:Kt}{code:Code}{ids:List Nat}
theorem zqH {rows:List (List D)}{k:Nat} (hk:∀x,x∈rows->x.length=k){i j:Nat} (hi:i<rows.length) (hj:j<rows[i].length) (h:i*k+j<rows.flatten.length):rows.flatten[i*k+j]=rows[i][j]:=by
 have h1:j<k:=by rw[<-hk _ (xao hi)];exact hj
 have e:=zgk hk hi h1;rw[xan (by rw[xac];exact h),List.getElem_map] at e;have e2:=Option.some.inj e;exact(AV.d.inj e2)
theorem R.absorb {G:Gh}{a:Act}{w:World} (hr:R c G ⟨env,hp⟩ a w){id id2 k c0 k0 m b cap:Nat}{xs rows:List (List D)}{cells:List AV}{js:List (Nat×Nat×Nat)}{us:Array Value}{e:TypeId}{Ss:Nat->List Nat}{extra:List Nat}
  (hk0:∀i l,c.kept i=some l->i∉id::js.map (·.1)) (hnd:ndB (id::js.map (·.1))=true) (htok:getH hp id=some (.tok c0 k0))
  (hloc:G.loc id=b::((List.range (xs.length*k)).flatMap Ss++extra)) (hndl:(G.loc id).Nodup) (hF:∀b',b'∈G.loc id->G.F b'=0) (hheap:w.heap[b]?=some (.cells us e (0,0))) (hcap:cap*k<=us.size)
  (hkx:∀x,x∈xs->x.length=k) (hxs:∀i (hi:i<xs.length) j (hj:j<xs[i].length),TreeD true w xs[i][j] (us.getD (i*k+j) undef) (Ss (i*k+j)))
  (hrow:RowT hp cells rows.flatten js) (hm:rows.length=m) (hkr:∀x,x∈rows->x.length=k)
  (hrel:∀i (hi:i<cells.length) (hv:xs.length*k+i<us.size),RelA G (tokf hp) w cells[i] us[xs.length*k+i])
  (h0:getH hp id2=none) (hocc:zbV id2 ⟨env,hp⟩) (hpos:0<xs.length+m) (hle:xs.length+m<=cap):
  ∃G',R c G' ⟨env,(id2,some (.tok (xs.length+m) k))::((id::js.map (·.1)).map (fun j=>(j,none))++hp)⟩ a w/\G'.F=G.F/\(∀i,i≠id2->G'.loc i=G.loc i)/\
   RelA G' (tokf ((id2,some (.tok (xs.length+m) k))::((id::js.map (·.1)).map (fun j=>(j,none))++hp))) w (.gt id2 (xs++rows)) (.slice (some ⟨b,0,none⟩) (xs.length+m) cap):=by
 have hnd':=List.nodup_cons.1 (zic hnd);have hrf:rows.flatten.length=m*k:=by rw[zeO hkr,hm]
 have hck:cells.length=m*k:=by rw[<-hrow.len,hrf]
 have hmul:(xs.length+m)*k=xs.length*k+m*k:=Nat.add_mul ..;have hfit:xs.length*k+m*k<=us.size:=by rw[<-hmul];exact Nat.le_trans (xav _ hle) hcap
 let news:List Value:=(us.toList.drop (xs.length*k)).take (m*k)
 have hnl:news.length=m*k:=by simp[news];omega
 have hnews:∀i (hi:i<news.length) (hv:xs.length*k+i<us.size),news[i]=us[xs.length*k+i]:=fun i hi hv=>by simp[news]
 obtain⟨Sl,hSl,htr,hfl,_,hjn⟩:=hrow.trees (by rw[hnl,hck]) (fun i hi hv=>by
  rw[hnews i hv oe];exact hrel i hi oe)
 rw[hck] at hSl;have hflm:js.flatMap (fun q=>G.loc q.1)=(js.map (·.1)).flatMap G.loc:=by rw[List.flatMap_map]
 rw[hflm] at hfl;have tokJ:∀j,j∈js.map (·.1)->(getH hp j).isSome:=fun j hj=>by
  obtain⟨q,hq,rfl⟩:=List.mem_map.1 hj;rw[hrow.toks q hq];rfl
 have sid:(getH hp id).isSome:=by rw[htok];rfl
 have locJ:∀j,j∈js.map (·.1)->(G.loc j).Nodup/\∀b,b∈G.loc j->G.F b=0:=fun j hj=>by
  obtain⟨q,hq,rfl⟩:=List.mem_map.1 hj;exact hjn q hq
 have newIn:∀x,x∈Sl.flatten->∃j,j∈js.map (·.1)/\x∈G.loc j:=fun x hx=>by rw[hfl] at hx;exact List.mem_flatMap.1 hx
 have hdj:∀j,j∈js.map (·.1)->∀x,x∈G.loc j->x∉G.loc id:=fun j hj x hx=>hr.disj j id (tokJ j hj) sid (fun e=>hnd'.1 (e ▸ hj)) x hx;have newNodup:Sl.flatten.Nodup:=by
  rw[hfl];exact zho hnd'.2 (fun j hj=>(locJ j hj).1) (fun i j hi hj hij=>hr.disj i j (tokJ i hi) (tokJ j hj) hij)
 have bound:∀i,(getH hp i).isSome->∀x,x∈G.loc i->x<w.heap.size:=fun i hi x hx=>by
  obtain⟨r,hrr⟩:=Option.isSome_iff_exists.1 hi;exact(hr.heap i r hrr).bound x hx
 let Sn:Nat->List Nat:=fun q=>if q<xs.length*k then Ss q else Sl.getD (q-xs.length*k) []
 have hSn:(List.range ((xs.length+m)*k)).flatMap Sn=(List.range (xs.length*k)).flatMap Ss++Sl.flatten:=by
  rw[hmul,zcv];congr 1
  ·exact zcD _ (fun i hi=>by simp[Sn,hi])
  ·rw[<-zeA Sl,hSl];refine zcD _ (fun i hi=>?_);simp only[Sn];rw[if_neg oe,show xs.length*k+i-xs.length*k=i by omega]
 let LL:List Nat:=b::(List.range ((xs.length+m)*k)).flatMap Sn
 have hLL:LL=b::((List.range (xs.length*k)).flatMap Ss++Sl.flatten):=by simp only[LL];rw[hSn]
 have inOld:∀x,x∈(List.range (xs.length*k)).flatMap Ss->x∈G.loc id:=fun x hx=>by rw[hloc];exact List.mem_cons_of_mem _ (List.mem_append_left _ hx)
 have inB:b∈G.loc id:=by rw[hloc];simp
 have cls:∀x,x∈LL->(x∈G.loc id)\/∃j,j∈js.map (·.1)/\x∈G.loc j:=fun x hx=>by
  rw[hLL] at hx;rcases List.mem_cons.1 hx with rfl|hx
  ·exact .inl inB
  ·rcases List.mem_append.1 hx with h|h
   ·exact .inl (inOld x h)
   ·exact .inr (newIn x h)
 have hdr:=hr.drop (id::js.map (·.1)) hk0;have hgd:=zff (id::js.map (·.1)) hp;have h0':getH ((id::js.map (·.1)).map (fun j=>(j,(none:Option Res)))++hp) id2=none:=by rw[hgd];split;rfl;exact h0
 have hocc':zbV id2 ⟨env,(id::js.map (·.1)).map (fun j=>(j,(none:Option Res)))++hp⟩:=⟨hocc.1,fun j r hj=>by
  have hj':getH ((id::js.map (·.1)).map (fun j=>(j,(none:Option Res)))++hp) j=some r:=hj;rw[hgd] at hj';split at hj'
  ·cases hj'
  ·exact hocc.2 j r hj'⟩
 have hR1:=hdr.rename h0' hocc' LL;have hlocne:∀i,i≠id2->(bif Nat.beq i id2 then LL else G.loc i)=G.loc i:=fun i h=>by rw[zcK h];rfl
 have hlid:(bif Nat.beq id2 id2 then LL else G.loc id2)=LL:=by simp
 have hR2:=hR1.name (r:= .tok (xs.length+m) k) h0' hocc' (fun x hx=>by
   have hx':x∈LL:=by rw[<-hlid];exact hx
   rcases cls x hx' with h|⟨j,hj,h⟩
   ·exact bound id sid x h
   ·exact bound j (tokJ j hj) x h)
  (fun i hi x hx=>by
   have hi':(getH ((id::js.map (·.1)).map (fun j=>(j,(none:Option Res)))++hp) i).isSome:=hi;have hin:i≠id2:=fun e=>by subst e;rw[h0'] at hi';cases hi'
   have hx':x∈G.loc i:=by have:=hlocne i hin;simp only[this] at hx;exact hx
   rw[hgd] at hi';split at hi'
   ·cases hi'
   ·rename_i hni;intro hq;have hq':x∈LL:=by rw[<-hlid];exact hq
    rcases cls x hq' with h|⟨j,hj,h⟩
    ·exact hr.disj i id hi' sid (fun e=>hni (by rw[e];simp)) x hx' h
    ·exact hr.disj i j hi' (tokJ j hj) (fun e=>hni (by rw[e];exact List.mem_cons_of_mem _ hj)) x hx' h)
  (fun x hx=>by
   have hx':x∈LL:=by rw[<-hlid];exact hx
   rcases cls x hx' with h|⟨j,hj,h⟩
   ·exact hr.new id sid x h
   ·exact hr.new j (tokJ j hj) x h)
 refine⟨_,hR2,rfl,hlocne, ?_⟩;refine .gt ⟨_,cap,by rw[xaa,hm]⟩ (fun n' k' hT=>?_);have hT2:=zaj.1 hT;rw[zac,if_pos rfl] at hT2;cases hT2
 have hkall:∀x,x∈xs++rows->x.length=k:=fun x hx=>by
  rcases List.mem_append.1 hx with h|h
  ·exact hkx x h
  ·exact hkr x h
 refine⟨by rw[xaa,hm];exact Nat.le_refl _,fun _=>⟨hkall,.inr ⟨b,cap,us,e,Sn,hlid,I,hheap,hcap,hle, ?_,fun x hx=>?_,fun i hi j hj=>?_,fun h=>by omega⟩⟩⟩
 ·show(bif Nat.beq id2 id2 then LL else G.loc id2).Nodup
  rw[hlid,hLL];rw[hloc] at hndl;have h1:=List.nodup_cons.1 hndl;have h2:=List.nodup_append.1 h1.2;refine List.nodup_cons.2 ⟨fun h=>?_,List.nodup_append.2 ⟨h2.1,newNodup,fun x hx y hy e=>?_⟩⟩
  ·rcases List.mem_append.1 h with h|h
   ·exact h1.1 (List.mem_append_left _ h)
   ·obtain⟨j,hj,hx⟩:=newIn b h;exact hdj j hj b hx inB
  ·subst e;obtain⟨j,hj,hx2⟩:=newIn x hy;exact hdj j hj x hx2 (inOld x hx)
 ·have hx':x∈LL:=by rw[<-hlid];exact hx
  rcases cls x hx' with h|⟨j,hj,h⟩
  ·exact hF x h
  ·exact(locJ j hj).2 x h
 ·by_cases hix:i<xs.length
  ·have e0:(xs++rows)[i]=xs[i]:=List.getElem_append_left hix;have hj':j<xs[i].length:=by rw[<-e0];exact hj
   have e3:(xs++rows)[i][j]=xs[i][j]:=by congr 1
   have h1:xs[i].length=k:=hkx _ (xao hix);have hlt':i*k+j<xs.length*k:=zb7 hix oe;have e2:Sn (i*k+j)=Ss (i*k+j):=by simp[Sn,hlt']
   rw[e3,e2];exact hxs i hix j hj'
  ·have hiy:i-xs.length<rows.length:=by rw[xaa] at hi;omega
   have e0:(xs++rows)[i]=rows[i-xs.length]:=List.getElem_append_right oe;have hj':j<rows[i-xs.length].length:=by rw[<-e0];exact hj
   have e3:(xs++rows)[i][j]=rows[i-xs.length][j]:=by congr 1
   have hjk:j<k:=by rw[<-hkr _ (xao hiy)];exact hj'
   have hq:(i-xs.length)*k+j<m*k:=zb7 oe hjk;have hpos':i*k+j=xs.length*k+((i-xs.length)*k+j):=by
    rw[show i*k=xs.length*k+(i-xs.length)*k by rw[<-Nat.add_mul];congr 1;omega];omega
   have hus:xs.length*k+((i-xs.length)*k+j)<us.size:=by omega
   have e2:Sn (i*k+j)=Sl.getD ((i-xs.length)*k+j) []:=by
    simp only[Sn];rw[hpos',if_neg oe,show xs.length*k+((i-xs.length)*k+j)-xs.length*k=(i-xs.length)*k+j by omega]
   have e4:Sl.getD ((i-xs.length)*k+j) []=Sl[(i-xs.length)*k+j]' oe:=by simp[List.getD,show(i-xs.length)*k+j<Sl.length by omega]
   have e5:us.getD (i*k+j) undef=news[(i-xs.length)*k+j]' oe:=by
    rw[hnews _ oe hus,hpos'];simp[Array.getD,hus]
   rw[e3,e2,e4,e5,<-zqH hkr hiy hj' (by rw[hrf];exact hq)];exact htr _ (by rw[hrf];exact hq) oe oe
theorem R.reBox {G:Gh}{a:Act}{w:World} (hr:R c G ⟨env,hp⟩ a w){b off:Nat}{x:AV}{cs:List AV} (hb:getH hp b=some (.box cs)) (hx:∀bl us e,G.loc b=[bl]->w.heap[bl]?=some (.cells us e (0,0))->RelA G (tokf hp) w x (us.getD off undef)):
  R c G ⟨env,(b,some (.box (cs.set off x)))::hp⟩ a w:=by
 obtain⟨bl,vs,e,e1,e2,e3,e4,e5⟩:=hr.heap b _ hb;have hall:PreR G (tokf hp) w (cs.set off x) vs:=⟨by rw[List.length_set];exact e3,fun i hi hv=>by
  have hi':i<cs.length:=by rw[List.length_set] at hi;exact hi
  rw[List.getElem_set];split
  ·rename_i h;subst h;have:=hx bl vs e e1 e2;have e6:vs.getD off undef=vs[off]:=by simp[Array.getD,hv]
   rw[e6] at this;exact this
  ·exact e5 i hi' hv⟩
 have:=hr.setBox (vs':=vs) hb e1 e2 e4 hall;rw[setRow_self w bl vs e _ e2] at this;exact this
end
theorem RelA.mono' {G:Gh}{T T':TokF}{w:World}{x:AV}{v:Value} (h:RelA G T w x v) (hT:∀i,i∈x.ids->T' i=T i):RelA G T' w x v:=
 h.mono (fun _ _ ho=>⟨ho,rfl⟩) (fun _ _=> .inl rfl) (fun i hi p hp=>⟨by rw[<-hT i hi];exact hp,fun _ _=>⟨I,I⟩⟩)
section
variable {c:Ctx}{env:Env}{hp:Hp}{K:Kt}{code:Code}{ids:List Nat}
theorem R.boxTok {G:Gh}{a:Act}{w:World}{id:Nat}{cs:List AV} (hr:R c G ⟨env,(id,some (.box cs))::hp⟩ a w) (hocc:zbV id ⟨env,hp⟩) (hk:∀l,c.kept id≠some l) (n k:Nat):R c G ⟨env,(id,some (.tok n k))::hp⟩ a w:=by
 have hT:∀i,i≠id->tokf ((id,some (Res.tok n k))::hp) i=tokf ((id,some (Res.box cs))::hp) i:=fun i hi=>by
  unfold tokf;rw[zac,if_neg hi,zac,if_neg hi]
 have hm:∀ {x:AV}{v:Value},id∉x.ids->RelA G (tokf ((id,some (Res.box cs))::hp)) w x v->RelA G (tokf ((id,some (Res.tok n k))::hp)) w x v:=fun hx hxx=>
  hxx.mono' (fun i hi=>hT i (fun e=>hx (e ▸ hi)))
 have hs:∀i,(getH ((id,some (Res.tok n k))::hp) i).isSome->(getH ((id,some (Res.box cs))::hp) i).isSome:=fun i h=>by
  rw[zac] at h ⊢;split at h
  ·rename_i e;rw[if_pos e];rfl
  ·rename_i e;rw[if_neg e];exact h
 refine⟨hr.size,hr.defers,fun i v h=>hm (hocc.1 i v h) (hr.slots i v h),fun i r h=>?_,fun i j h1 h2=>hr.disj i j (hs i h1) (hs j h2),fun i h=>hr.new i (hs i h),hr.frm,hr.top,fun i l hl=>?_⟩
 ·have h':getH ((id,some (Res.tok n k))::hp) i=some r:=h;rw[zac] at h';split at h'
  ·rename_i e;subst e;cases h'
   exact(hr.heap i (.box cs) (by show getH ((i,_)::hp) i=_;rw[zac,if_pos rfl])).bound
  ·rename_i e;have hh:=hr.heap i r (by show getH ((id,_)::hp) i=_;rw[zac,if_neg e];exact h');have ho:=hocc.2 i r h';cases r with
   |box cs2=>
    obtain⟨b,vs,e,h1,h2,h3,h4,h5⟩:=hh;exact⟨b,vs,e,h1,h2,h3,h4,fun j hj hv=>hm (fun hq=>ho (xay (xao hj) hq)) (h5 j hj hv)⟩
   |tok m q=>exact hh
   |map ks=>exact hh
   |tree cs2=>exact za6 hh I (fun _ _=>⟨I,I⟩) (Nat.le_refl _) (fun x hx v hv=>hm (fun hq=>ho (xay hx hq)) hv)
 ·have hi:i≠id:=fun e=>by subst e;exact hk l hl
  obtain⟨k1,k2,k3⟩:=hr.kept i l hl;refine⟨k1, ?_,by rw[show(St.mk env ((id,some (.tok n k))::hp)).hp=(id,some (.tok n k))::hp from rfl,hT i hi];exact k3⟩;show(getH ((id,some (Res.tok n k))::hp) i).isSome
  have k2':(getH ((id,some (Res.box cs))::hp) i).isSome:=k2;rw[zac,if_neg hi] at k2' ⊢;exact k2'
end
section
variable {c:Ctx}{all:Array Oper}{chk:List Rec->Prop}{os:List Oper}{recs:List Rec}{env:Env}{hp:Hp}{Q:St->Prop}
variable {d ty:Nat}{pos:String}{af:Array Edge}{g:Option (Nat×Bool)}{pg:List (Nat×AV)}{t yt:TypeId}{x y:Operand}
theorem xb5 {parts:Array (Nat×Operand)}{n:Nat}{ks:List Nat}{xs:List Operand}{vs zs r:List AV}{e k yb:Nat} (id:Nat) (js:List Nat) (ht:SlT c.P t e k yb) (hz:TyZ c.P e k zs) (hzk:zs.length=k) (hk:0<k)
  (hparts:parts=(ks.zip xs).toArray) (hlen:ks.length=xs.length) (hsmall:n*k<=16777216) (hpos:0<n) (hg:GH all env g pg) (hd:Nat.blt d c.n=true) (hx:opdL env xs=some vs)
  (hf:ze4 (fun i=>some (i*k,k)) (zaV n zs) (ks.zip vs)=some r) (hjs:(AV.idsL r).all (zaH · js)=true) (hid:zaH id js=false) (hrl:r.length=n*k) (hfr:zae env hp [id]=true)
  (hn:Walk c all chk os (zak (pg++opFL xs vs) [] [id] ⟨some (d,.ga id n js r),[(id,some (.tok n k))]⟩::recs) ⟨(d,.ga id n js r)::env,(id,some (.tok n k))::hp⟩ Q):
  Walk c all chk (⟨some d,.buildSlice t n parts,ty,pos,af,g⟩::os) recs ⟨env,hp⟩ Q:=by
 subst hparts;refine⟨pg++opFL xs vs,[],[id],_, ?_,zap hg.facts (zbH hx),by simp,zbq hfr,hn⟩;intro s a w hrel hp' hh hcr K Q' hK;obtain⟨h0,hocc⟩:=hcr id oh;obtain⟨senv,shp⟩:=s;obtain⟨G,hr⟩:=hrel;have h:=zb9 hr (zbI hx (fun p hm=>hp' p (by simp[hm])));have hjs':∀x,x∈AV.idsL r->x∈js:=fun x hx=>zat.1 (List.all_eq_true.1 hjs x hx);have hidr:id∉AV.idsL r:=fun hm=>by
  have:=zat.2 (hjs' id hm);rw[this] at hid;cases hid
 obtain⟨ie,hi1,hi2,hi3⟩:=ht.inf;obtain⟨i',z,z1,z2,z3,z4⟩:=hz.inf;rw[hi1] at z1;cases z1
 have hz0:=zcw (G:=G) (T:=tokf shp) (w:=w) z4;have hzr:=zgD (by simpa using hz0) n oe;obtain⟨lv,hlv,hal⟩:=zel (ks.zip vs) (ks.zip (xs.map a.eval)) _ r _ hf hzr (by simp[h.1]) (zl4 h hlen);have hpos':¬n*ie.size=0:=by rw[hi2];exact Nat.ne_of_gt (Nat.mul_pos hpos hk)
 have hrun:=run_buildSlice (P:=c.P) w t e n ((ks.zip xs).toArray.map fun(i,x)=>(i,a.eval x)) lv ie z ht.und hi1 z3 (by rw[hi2];omega) hpos' (by
  rw[hi2,<-hlv];congr 1
  ·rw[hzk]
  ·simp[List.zip_map_right,Prod.map])
 obtain⟨G',hR,hl⟩:=hr.allocBox (e:=e) h0 hocc hal hidr;have hkid:∀l,c.kept id≠some l:=fun l hl=>by
  have:=(hr.kept id l hl).2.1;have h0':getH shp id=none:=h0;rw[show(St.mk senv shp).hp=shp from rfl,h0'] at this;cases this
 have hbox:=hR.heap id (.box r) (by show getH ((id,_)::shp) id=_;rw[zac,if_pos rfl]);obtain⟨b,us,e',e1,e2,e3,e4,e5⟩:=hbox;rw[hl] at e1;cases e1;have hus:us=lv:=by rw[zd2] at e2;cases e2;rfl
 subst hus;have hR2:=hR.boxTok hocc hkid n k;unfold wpO;rw[if_pos (hg.gf.wanted hr (fun p hm=>hp' p (by simp[hm])))];unfold Oper.wp;have:(execOp a.eval ⟨some d,.buildSlice t n (ks.zip xs).toArray,ty,pos,af,g⟩).run c.P w = .ok (.value (.slice (some ⟨w.heap.size,0,none⟩) n n)) (w.alloc (.cells us e)):=by
  simp only[execOp,Sem.run_bind,hrun,Result.andThen_ok,Sem.run_pure]
 rw[this,Oper.upon_value];have hT:tokf ((id,some (Res.tok n k))::shp) id=some (n,k):=zaj.2 o6;refine hK _ _ ⟨G',hR2.put (v:= .ga id n js r) (.gaL hjs' hT hl e4 e2 (by rw[hal.size,hrl];exact Nat.le_refl _) (Nat.le_refl _) hrl (fun i hi hv=>?_)) hd⟩;refine(e5 i hi hv).mono' (fun q hq=>?_);have hqi:q≠id:=fun e=>hidr (by rw[<-e];exact xay (xao hi) hq);unfold tokf;rw[zac,if_neg hqi,zac,if_neg hqi]
end
section
variable {c:Ctx}{env:Env}{hp:Hp}{K:Kt}{code:Code}{ids:List Nat}
theorem Rel.holeGt (hkp:KeptIn c.kept ids) (b t0 off i j:Nat){a:Act}{w:World}{k:Nat}{js0:List Nat}{xs:List (List D)}{cells:List AV}{row:List D}{js:List (Nat×Nat×Nat)}{cs:List AV} (hb:getH hp b=some (.box cs)) (hc:cs[off]?=some (.ght i xs)) (ht:getE env t0=some (.gp i (zaD xs.length+1) (xs.length*k) k js0 cells))
  (hrow:RowT hp cells row js) (hck:cells.length=k) (hi:getH hp i=some (.tok (zaD xs.length+1) k)) (hnd:ndB (i::js.map (·.1))=true) (hid:((i::js.map (·.1)).all fun q=> !zaH q ids)=true) (hf:zdS env hp j=true)
  (hrel:Rel c ⟨env,hp⟩ a w):Rel c ⟨env,(b,some (.box (cs.set off (.gt j (xs++[row])))))::(j,some (.tok (xs.length+1) k))::((i::js.map (·.1)).map (fun q=>(q,none))++hp)⟩ a w:=by
 obtain⟨G,hr⟩:=hrel;obtain⟨h0,hocc⟩:=zcq hf;have Ti:tokf hp i=some (zaD xs.length+1,k):=zaj.2 hi;obtain⟨bl,vs,e,e1,e2,e3,e4,e5⟩:=hr.heap b _ hb;obtain⟨hlt,hcv⟩:=List.getElem?_eq_some_iff.1 hc;have hx:=e5 off hlt oe;rw[hcv] at hx;obtain⟨hkx,b1,cap,us,et,Ss,extra,p1,p2,p3,p4,p5,p6,p7,p8⟩:=hx.ght_hole Ti (.inr rfl);obtain⟨b2,us2,et2,_,q1,q2,q3,q4,q5⟩:=(hr.slots t0 _ ht).gp_at Ti;have hbb:b2=b1:=by rw[p1] at q1;cases q1;rfl
 subst hbb;rw[p3] at q3;cases q3;have hrl:row.length=k:=by rw[hrow.len,hck]
 have hid':∀q,q∈i::js.map (·.1)->q∉ids:=fun q hq hm=>by
  have:=List.all_eq_true.1 hid q hq;rw[zat.2 hm] at this;simp at this
 obtain⟨G2,r1,r2,r3,r4⟩:=hr.absorb (id2:=j) (k:=k) (m:=1) (rows:=[row]) (fun q l hl hm=>hid' q hm (hkp.mem q l hl)) hnd hi p1 p6 p7 p3 p4 hkx p8 (by simpa using hrow) rfl (by intro x hx;rw[List.mem_singleton.1 hx];exact hrl) q5 h0 hocc oe p5;have hbne:b∉i::js.map (·.1):=fun hm=>by
  rcases List.mem_cons.1 hm with rfl|hm
  ·rw[hb] at hi;cases hi
  ·obtain⟨q,hq,rfl⟩:=List.mem_map.1 hm;have:=hrow.toks q hq;rw[hb] at this;cases this
 have hbj:b≠j:=fun e=>by subst e;rw[show getH (St.mk env hp).hp b=getH hp b from rfl,hb] at h0;cases h0
 refine⟨G2,r1.reBox (by rw[zac,if_neg hbj,zff,if_neg hbne];exact hb) (fun bl' us' e' l1 l2=>?_)⟩;rw[r3 b hbj,e1] at l1;cases l1;rw[e2] at l2;cases l2;have e6:vs.getD off undef=vs[off]' oe:=by simp[Array.getD,show off<vs.size by omega]
 rw[e6,p2];exact r4
theorem xaC (hkp:KeptIn c.kept ids) (b off i j:Nat){n k:Nat}{js0:List Nat}{cells:List AV} (rows:List (List D)){js:List (Nat×Nat×Nat)}{cs:List AV} (hb:getH hp b=some (.box cs)) (hc:cs[off]?=some (.ga i n js0 cells))
  (hrow:RowT hp cells rows.flatten js) (hm:rows.length=n) (hkr:∀x,x∈rows->x.length=k) (hi:getH hp i=some (.tok n k)) (hpos:0<n) (hnd:ndB (i::js.map (·.1))=true) (hid:((i::js.map (·.1)).all fun q=> !zaH q ids)=true) (hf:zdS env hp j=true)
  (hn:CWp c code ⟨env,(b,some (.box (cs.set off (.gt j rows))))::(j,some (.tok n k))::((i::js.map (·.1)).map (fun q=>(q,none))++hp)⟩ K):CWp c code ⟨env,hp⟩ K:=by
 rintro a w ⟨G,hr⟩
 obtain⟨h0,hocc⟩:=zcq hf;have Ti:tokf hp i=some (n,k):=zaj.2 hi;obtain⟨bl,vs,e,e1,e2,e3,e4,e5⟩:=hr.heap b _ hb;obtain⟨hlt,hcv⟩:=List.getElem?_eq_some_iff.1 hc;have hx:=e5 off hlt oe;rw[hcv] at hx;obtain⟨b1,cap,us,et,p1,p2,p3,p4,p5,p6,p7,_,p8⟩:=hx.ga_inv Ti;have hid':∀q,q∈i::js.map (·.1)->q∉ids:=fun q hq hm=>by
  have:=List.all_eq_true.1 hid q hq;rw[zat.2 hm] at this;simp at this
 obtain⟨G2,r1,r2,r3,r4⟩:=hr.absorb (id:=i) (id2:=j) (k:=k) (c0:=n) (k0:=k) (m:=n) (cap:=cap) (xs:=[]) (extra:=[]) (Ss:=fun _=>[]) (rows:=rows) (fun q l hl hm=>hid' q hm (hkp.mem q l hl)) hnd hi (by rw[p1];simp) (by rw[p1];simp) (fun b' hb'=>by rw[p1] at hb';rw[List.mem_singleton.1 hb'];exact p2) p3 p4 (fun x hx=>by simp at hx) (fun i hi=>by simp at hi) hrow hm hkr
  (fun q hq hv=>by
   have h1:q<us.size:=by simpa using hv
   have:=p7 q hq h1;have e1:us[([]:List (List D)).length*k+q]=us[q]:=by congr 1;simp
   rw[e1];exact this) h0 hocc (by simpa using hpos) (by simpa using p5)
 simp only[xak,Nat.zero_add,List.nil_append] at r1 r4;have hbne:b∉i::js.map (·.1):=fun hm=>by
  rcases List.mem_cons.1 hm with rfl|hm
  ·rw[hb] at hi;cases hi
  ·obtain⟨q,hq,rfl⟩:=List.mem_map.1 hm;have:=hrow.toks q hq;rw[hb] at this;cases this
 have hbj:b≠j:=fun e=>by subst e;rw[show getH (St.mk env hp).hp b=getH hp b from rfl,hb] at h0;cases h0
 refine hn a w ⟨G2,r1.reBox (by rw[zac,if_neg hbj,zff,if_neg hbne];exact hb) (fun bl' us' e' l1 l2=>?_)⟩;rw[r3 b hbj,e1] at l1;cases l1;rw[e2] at l2;cases l2;have e6:vs.getD off undef=vs[off]' oe:=by simp[Array.getD,show off<vs.size by omega]
 rw[e6,p8];exact r4
theorem RelA.gt_move {G G':Gh}{T T':TokF}{w:World}{i j n k:Nat}{xs:List (List D)}{v:Value} (h:RelA G T w (.gt i xs) v) (hi:T i=some (n,k)) (hF:G'.F=G.F) (hl:G'.loc j=G.loc i) (hT:T' j=some (n,k)):RelA G' T' w (.gt j xs) v:=by
 obtain⟨hv,hcl⟩:=h.gt_inv;refine .gt hv (fun n' k' hT'=>?_);rw[hT] at hT';cases hT';obtain⟨q1,q2⟩:=hcl _ _ hi;refine⟨q1,fun hq=>?_⟩;obtain⟨q3,q4⟩:=q2 hq;refine⟨q3, ?_⟩;rcases q4 with ⟨z1,z2,z3⟩|⟨b,cap,cs,e,Ss,z1,z2,z3,z4,z5,z6,z7,z8,z9⟩
 ·exact .inl ⟨hl.trans z1,z2,z3⟩
 ·exact .inr ⟨b,cap,cs,e,Ss,hl.trans z1,z2,z3,z4,z5,by rw[hl];exact z6,fun b' hb'=>by rw[hF];exact z7 b' (by rw[<-hl];exact hb'),z8,z9⟩
theorem xaK (b off i j:Nat){n k:Nat}{xs:List (List D)}{cs:List AV} (hb:getH hp b=some (.box cs)) (hc:cs[off]?=some (.gt i xs)) (hi:getH hp i=some (.tok n k)) (hf:zdS env hp j=true)
  (hn:CWp c code ⟨env,(b,some (.box (cs.set off (.gt j xs))))::(j,some (.tok n k))::(i,none)::hp⟩ K):CWp c code ⟨env,hp⟩ K:=by
 rintro a w ⟨G,hr⟩
 obtain⟨h0,hocc⟩:=zcq hf;have h0':getH hp j=none:=h0;have hbi:b≠i:=fun e=>by subst e;rw[hb] at hi;cases hi
 have hbj:b≠j:=fun e=>by subst e;rw[h0'] at hb;cases hb
 have Ti:tokf hp i=some (n,k):=zaj.2 hi;obtain⟨bl,vs,e,e1,e2,e3,e4,e5⟩:=hr.heap b _ hb;obtain⟨hlt,hcv⟩:=List.getElem?_eq_some_iff.1 hc;have hx:=e5 off hlt oe;rw[hcv] at hx;obtain⟨G2,r1,r2,r3,r4⟩:=hr.tokMoveN (j:=j) n k hi h0 hocc;refine hn a w ⟨G2,r1.reBox (by rw[zac,if_neg hbj,zac,if_neg hbi];exact hb) (fun bl' us' e' l1 l2=>?_)⟩;rw[r4 b hbj,e1] at l1;cases l1;rw[e2] at l2;cases l2;have e6:vs.getD off undef=vs[off]' oe:=by simp[Array.getD,show off<vs.size by omega]
 rw[e6];exact hx.gt_move Ti r2 r3 (zaj.2 o6)
end
abbrev kInT (w:List Data) (c deep:Int) (acc:List Pat) (r:Rd):Hp:=[(901,some (.box (rdC w r))),(902,some (.box [.d (.i 4),.d (.i c),.d (.i 0),.d (.i 0),.d (.i 0),.gt 5 (acc.map Pat.cc)])),(5,some (.tok (acc.map Pat.cc).length 6)),(903,some (.box [.ref 901 0])),(904,some (.box [.d (.i deep)]))]
abbrev zn5 (w:List Data) (c:Int) (acc:List Pat) (r:Rd):Hp:=[(901,some (.box (rdC w r))),(902,some (.box [.d (.i 4),.d (.i c),.d (.i 0),.d (.i 0),.d (.i 0),.gt 7 (acc.map Pat.cc)])),(7,some (.tok (acc.map Pat.cc).length 6)),(5,none)]
abbrev patT (p:Pat):AV:= .agg [.d (.i p.op),.d (.i p.ctor),.d (.i p.n),.d (.i p.m),.d (.i p.var),.gt 61 (p.kids.map Pat.cc)]
abbrev patO (w:List Data) (p:Pat) (r:Rd):Hp:=[(901,some (.box (rdC w r))),(61,some (.tok (p.kids.map Pat.cc).length 6))]
theorem zky (acc:List Pat) (p:Pat):(acc++[p]).map Pat.cc=acc.map Pat.cc++[[.i p.op,.i p.ctor,.i p.n,.i p.m,.i p.var,.sl (p.kids.map Pat.cc)]]:=by
 rw[xag,<-xaW p.kids];rfl
theorem zge {w:List Data}{c deep:Int} (hd:0<=deep/\deep<=1000){a k:Int}{acc:List Pat} (hl:acc.length<=3){r:Rd} (z:Pat×Rd)
  (ih:FnD Tryz.prog 50 [.ref 901 0,.agg [.d (.i a),.d (.i k)],.d (.i (deep+1))] [(901,some (.box (rdC w r)))] (patT z.1) (patO w z.1 z.2)):
  FnD Tryz.prog 88 [.agg [.d (.i a),.d (.i k)],.ref 902 0,.ref 903 0,.ref 904 0] (kInT w c deep acc r) (.tup []) (zn5 w c (acc++[z.1]) z.2):=by
 refine Fn.body (fn:=Tryz.f88) (n:=17) I I I I I (fun _ _ _ _ hk=>?_);refine sr (bx 3004 ?_);apply tv;refine CWp.thn ?_;refine CWp.drawn zlX I ?_;refine xbK zjO .none I I (xbR ty45 .none I I I I (xbR ty89 .none I I I I (xbS ty31 .none I I I I (xbR ty3 .none I I I I (xbu .none I I I (by first|(constructor<;>omega)|(constructor<;>simp<;>omega)) ?_)))));refine Walk.call (cr:=[61]) zb1 ih I .none I I (LeL.refl _) ⟨I,O⟩ I og od ?_;refine Walk.lenGt sl45 .none I I (xb4 (id:=3013) sl45 tz47 I oi (ks:=[0]) (xs:=[_]) I I oi oi .none I I I I od od od ?_);refine Walk.appendHT 9 hk I sl45 zz47 .none I I I I (ze5 I ua) I (.sc I (.sc I (.sc I (.sc I (.sc I (.ni .nil)))))) I ot ot I I I ?_;refine Walk.idxHT sl45 .none I I I I I (Walk.putH [61] ty47 .none I I I I I I I oh I ?_);refine xbK zjO .none I I (so ty45 ?_);refine⟨by show _=_;kernel_rfl, ?_⟩;refine fun aZ wZ hrZ=>⟨_,Rel.holeGt (k:=6) hk 902 15 5 9 7 I I I (.sc I (.sc I (.sc I (.sc I (.sc I (.gt I I .nil)))))) I I I I I hrZ, ?_⟩;refine⟨_,_,[(901,some (.box (rdC w z.2))),(902,some (.box [.d (.i 4),.d (.i c),.d (.i 0),.d (.i 0),.d (.i 0),.gt 7 ((acc++[z.1]).map Pat.cc)])),(7,some (.tok ((acc++[z.1]).map Pat.cc).length 6)),(5,none)],.nil,(.refl _),⟨rfl,rfl⟩,(SubO.get ⟨.inr ?_,⟨.inr ?_,⟨.inr ?_,⟨.inr ?_,⟨.inl rfl,⟨.inl rfl,⟨.inl rfl,⟨.inr rfl,⟨.inr rfl,trivial⟩⟩⟩⟩⟩⟩⟩⟩⟩),(zao rfl)⟩;rotate_left 4;all_goals (first|((rfl);done)|(first|rfl|(rw[zky];all_goals rfl)|(show some (Res.tok _ _)=some (Res.tok _ _);simp;done)))
set_option maxHeartbeats 2000000
theorem zhN {w:List Data}{c deep:Int}{ts:List Ty} (hl:ts.length<=3){r:Rd} (hs:r.s.length<=1000000000000){f:Ty->Rd->Pat×Rd} (hfl:∀t r,(f t r).2.s.length<=r.s.length)
  (hpart:∀t∈ts,∀(acc:List Pat) (r:Rd),acc.length<=3->r.s.length<=1000000000000->FnD Tryz.prog 88 [.agg [.d (.i t.data),.d (.i t.index)],.ref 902 0,.ref 903 0,.ref 904 0] (kInT w c deep acc r) (.tup []) (zn5 w c (acc++[(f t r).1]) (f t r).2)):
  FnD Tryz.prog 86 [.ref 901 0,.d (za9 ts),.fn 88 [.ref 902 0,.ref 903 0,.ref 904 0]]
   [(901,some (.box (rdC w r))),(902,some (.box [.d (.i 4),.d (.i c),.d (.i 0),.d (.i 0),.d (.i 0),.gt 5 []])),(5,some (.tok 0 6)),(903,some (.box [.ref 901 0])),(904,some (.box [.d (.i deep)]))] (.tup []) (zn5 w c (zbe f true ts r).1 (zb3 ts (zbe f true ts r).2)):=by
 have hg0:kidG f ts (zbe f true ts r) 0 [] r:=rfl;generalize zbe f true ts r=K at *;have hnext:=fun(i:Nat) (acc:List Pat) (r:Rd)=>zlg (f:=f) (ts:=ts) (K:=K) (i:=i) (acc:=acc) (r:=r);have hbad:=fun(i:Nat) (acc:List Pat) (r:Rd)=>zmz (f:=f) (ts:=ts) (K:=K) (i:=i) (acc:=acc) (r:=r);have hend:=fun(i:Nat) (acc:List Pat) (r:Rd)=>zmA (f:=f) (ts:=ts) (K:=K) (i:=i) (acc:=acc) (r:=r);have hsl:=zde;have hs0:∀i,i=0->sgR i=40:=fun i h=>if_pos h;have hs1:∀i,¬i=0->sgR i=44:=fun i h=>if_neg h;have hk1:∀r,0<ts.length->zb3 ts r=zaP r 41:=fun r h=>if_pos h;have hk0:∀r,¬0<ts.length->zb3 ts r=r:=fun r h=>if_neg h;refine bd Tryz.f86 34 [] [0,7] fun _ _ _ _ hk=>?_;refine xaK 902 5 5 7 I I I I (evc [] [] (xaD (ι:=Nat×List Pat×Rd) hk (fun x=>[(10,.d (.i (x.1:Int)))]) [6,7,11,12,13,14,15,16,17,18,19,20,21,22,23,24,25,26,27,28] (fun x=>[(901,some (.box (rdC w x.2.2))),(902,some (.box [.d (.i 4),.d (.i c),.d (.i 0),.d (.i 0),.d (.i 0),.gt 7 (x.2.1.map Pat.cc)])),(7,some (.tok (x.2.1.map Pat.cc).length 6)),(5,none)]) (fun x=>x.1<=ts.length/\x.2.1.length<=x.1/\x.2.2.s.length<=1000000000000/\kidG f ts K x.1 x.2.1 x.2.2) (fun x=>ts.length-x.1) (0,[],r) ⟨Nat.zero_le _,by simp,hs,hg0⟩ ⟨⟨_,I,xaT ?_⟩,O⟩ ⟨?_,⟨?_,⟨zar ?_,⟨?_,O⟩⟩⟩⟩ (fun x=>rfl) (fun x hg1=>?_)));focus (first|rfl|(simp;done)|omega|(simp;omega))
 iterate 2 focus (first|rfl|(rw[hs0 x.1 oe];all_goals rfl)|(rw[hs1 x.1 oe];all_goals rfl))
 focus (first|rfl|(simp;done)|omega|(simp;omega))
 focus (first|rfl|(rw[hs0 x.1 oe];all_goals rfl)|(rw[hs1 x.1 oe];all_goals rfl))
 refine evc [] [0,7] ?_;apply sq<;>intro h1 h1p h1s<;>(try simp only[Q,xal,xac] at h1p);refine ixq sl78 I I I (zau oe) I ?_;refine ev (Walk.alloc (id:=3007) tz31 I .none I od od od ?_);refine ev (so ty31 ?_);apply tv;apply sq<;>intro h2 h2p h2s<;>(try simp only[Q,xal,xac] at h2p);refine rn [(901,some (.box (rdC w (zb3 ts K.2)))),(902,some (.box [.d (.i 4),.d (.i c),.d (.i 0),.d (.i 0),.d (.i 0),.gt 7 (K.1.map Pat.cc)])),(7,some (.tok (K.1.map Pat.cc).length 6)),(5,none)] .nil (.refl _) ⟨I,I⟩ (SubO.get ⟨.inr ?_,⟨.inr ?_,⟨.inr ?_,⟨.inr ?_,⟨.inl I,⟨.inl I,⟨.inl I,⟨.inr I,⟨.inr I,O⟩⟩⟩⟩⟩⟩⟩⟩⟩) (zao I);rotate_left 4;apply sq<;>intro h3 h3p h3s<;>(try simp only[Q,xal,xac] at h3p);refine Walk.call (cr:=[]) zb2 (zaz (w:=w) (r:=x.2.2) (b:=40)) I .none I I (LeL.refl _) ⟨I,O⟩ I og od ?_;apply tv;refine xaK 902 5 7 5 I I I I (evc [] [] (xbD [5] [7] zlS (hpart (nth ts x.1) (zaq oe) x.2.1 (zaP x.2.2 _) oe (by have:=hsl x.2.2;first|exact Nat.le_trans (this _) hg1.2.2.1)) I .none I I I (LeL.refl _) ⟨I,I,I,I,I,O⟩ I od ?_));apply tv;refine ar (xaj ((x.1+1,x.2.1++[(f (nth ts x.1) (zaP x.2.2 (sgR x.1))).1],(f (nth ts x.1) (zaP x.2.2 (sgR x.1))).2)) ⟨⟨by dsimp only;omega,by simp;omega,Nat.le_trans (hfl _ _) (Nat.le_trans (hsl _ _) hg1.2.2.1),hnext x.1 x.2.1 x.2.2 hg1.2.2.2 oe oq⟩,(by dsimp only;omega),sx ⟨⟨_,I,xaT ?_⟩,O⟩ ⟨?_,⟨?_,⟨zar ?_,⟨?_,O⟩⟩⟩⟩⟩);focus (first|rfl|(simp;done)|omega|(simp;omega))
 iterate 2 focus (first|rfl|(rw[hs0 x.1 oe];all_goals rfl)|(rw[hs1 x.1 oe];all_goals rfl))
 focus (first|rfl|(simp;done)|omega|(simp;omega))
 focus (first|rfl|(rw[hs0 x.1 oe];all_goals rfl)|(rw[hs1 x.1 oe];all_goals rfl))
 refine Walk.call (cr:=[]) zb2 (zaz (w:=w) (r:=x.2.2) (b:=44)) I .none I I (LeL.refl _) ⟨I,O⟩ I og od ?_;apply tv;refine xaK 902 5 7 5 I I I I (evc [] [] (xbD [5] [7] zlS (hpart (nth ts x.1) (zaq oe) x.2.1 (zaP x.2.2 _) oe (by have:=hsl x.2.2;first|exact Nat.le_trans (this _) hg1.2.2.1)) I .none I I I (LeL.refl _) ⟨I,I,I,I,I,O⟩ I od ?_));apply tv;refine ar (xaj ((x.1+1,x.2.1++[(f (nth ts x.1) (zaP x.2.2 (sgR x.1))).1],(f (nth ts x.1) (zaP x.2.2 (sgR x.1))).2)) ⟨⟨by dsimp only;omega,by simp;omega,Nat.le_trans (hfl _ _) (Nat.le_trans (hsl _ _) hg1.2.2.1),hnext x.1 x.2.1 x.2.2 hg1.2.2.2 oe oq⟩,(by dsimp only;omega),sx ⟨⟨_,I,xaT ?_⟩,O⟩ ⟨?_,⟨?_,⟨zar ?_,⟨?_,O⟩⟩⟩⟩⟩);focus (first|rfl|(simp;done)|omega|(simp;omega))
 iterate 2 focus (first|rfl|(rw[hs0 x.1 oe];all_goals rfl)|(rw[hs1 x.1 oe];all_goals rfl))
 focus (first|rfl|(simp;done)|omega|(simp;omega))
 focus (first|rfl|(rw[hs0 x.1 oe];all_goals rfl)|(rw[hs1 x.1 oe];all_goals rfl))
 apply sq<;>intro h4 h4p h4s<;>(try simp only[Q,xal,xac] at h4p);refine Walk.call (cr:=[]) zb2 (zaz (w:=w) (r:=x.2.2) (b:=41)) I .none I I (LeL.refl _) ⟨I,O⟩ I og od ?_;apply tv;refine rn [(901,some (.box (rdC w (zb3 ts K.2)))),(902,some (.box [.d (.i 4),.d (.i c),.d (.i 0),.d (.i 0),.d (.i 0),.gt 7 (K.1.map Pat.cc)])),(7,some (.tok (K.1.map Pat.cc).length 6)),(5,none)] .nil (.refl _) ⟨I,I⟩ (SubO.get ⟨.inr ?_,⟨.inr ?_,⟨.inr ?_,⟨.inr ?_,⟨.inl I,⟨.inl I,⟨.inl I,⟨.inr I,⟨.inr I,O⟩⟩⟩⟩⟩⟩⟩⟩⟩) (zao I);rotate_left 4;refine rn [(901,some (.box (rdC w (zb3 ts K.2)))),(902,some (.box [.d (.i 4),.d (.i c),.d (.i 0),.d (.i 0),.d (.i 0),.gt 7 (K.1.map Pat.cc)])),(7,some (.tok (K.1.map Pat.cc).length 6)),(5,none)] .nil (.refl _) ⟨I,I⟩ (SubO.get ⟨.inr ?_,⟨.inr ?_,⟨.inr ?_,⟨.inr ?_,⟨.inl I,⟨.inl I,⟨.inl I,⟨.inr I,⟨.inr I,O⟩⟩⟩⟩⟩⟩⟩⟩⟩) (zao I);rotate_left 4;all_goals (first|((rfl);done)|((first|rw[hbad x.1 x.2.1 x.2.2 hg1.2.2.2 oe oq]|rw[hend x.1 x.2.1 x.2.2 hg1.2.2.2 oe]);first|rfl|(rw[hk0 x.2.2 oe];all_goals rfl)|(rw[hk1 x.2.2 oe];all_goals rfl)|(rw[zli oq];all_goals rfl)))
theorem znX {k:Nat}{xs:List (List D)} (hk:∀x,x∈xs->x.length=k):zcl xs.length k (xs.flatten.map .d)=some xs:=by
 have h:=ze2 (f:=fun x:List D=>x) (l:=xs) hk;have e:(xs.flatMap fun x=>x.map AV.d)=xs.flatten.map AV.d:=by
  clear hk h;induction xs with
  |nil=>rfl
  |cons x r ih=>rw[List.flatMap_cons,ih,List.flatten_cons,xag]
 rw[e] at h;simpa using h
section
variable {c:Ctx}{env:Env}{hp:Hp}{K:Kt}{code:Code}{ids:List Nat}
theorem xaA (hkp:KeptIn c.kept ids) (b off id k:Nat){n:Nat}{xs:List (List D)}{cs:List AV} (hb:getH hp b=some (.box cs)) (hc:cs[off]?=some (.gv id xs)) (ht:getH hp id=some (.tok n k)) (hn:n=xs.length)
  (hkx:∀x,x∈xs->x.length=k) (hid:zaH id ids=false) (hne:Nat.beq b id=false)
  (hnx:CWp c code ⟨env,(b,some (.box (cs.set off (.d (.sl xs)))))::(id,none)::hp⟩ K):CWp c code ⟨env,hp⟩ K:=by
 by_cases hx0:xs=[]
 ·exact CWp.dropVB b off id k hb hc ht hn hx0 (by rw[hx0] at hnx;exact hnx)
 ·refine CWp.fixVC b off id k hb hc ht hn hx0 ?_;obtain⟨hlt,_⟩:=List.getElem?_eq_some_iff.1 hc;have hbi:b≠id:=fun e=>by subst e;rw[Nat.beq_refl] at hne;cases hne
  refine CWp.frzC hkp b off id xs.length k (cs0':=cs.set off (.d (.sl xs))) o6 hne (by simp[hlt]) (by rw[List.set_set]) (by rw[zac,if_neg (Ne.symm hbi),zac,if_pos rfl]) (znX hkx) hid ?_;intro a w hr;refine hnx a w (hr.congr (fun _=>rfl) (fun j=>?_));show getH ((b,_)::(id,none)::hp) j=getH ((b,_)::(id,none)::(b,_)::(id,_)::hp) j
  rw[zac,zac,zac,zac,zac,zac];by_cases h1:j=b
  ·rw[if_pos h1,if_pos h1]
  ·rw[if_neg h1,if_neg h1];by_cases h2:j=id
   ·rw[if_pos h2,if_pos h2]
   ·rw[if_neg h2,if_neg h2,if_neg h1,if_neg h2]
end
set_option maxHeartbeats 4000000
section
variable {w:List Data}{n:Nat}{t:Ty}{r:Rd}
theorem pr_0 (h:((zaw r).toNat:Int)=0):patR w (n+1) t r=(zcP,⟨r.s,true⟩):=by
 rw[patR,if_pos (show zaw r=0 from b_eq (k:=0) oe h)]
theorem zqo (h:((zaw r).toNat:Int)=95):patR w (n+1) t r=(.mk 1 0 0 0 0 [],oneR r):=by
 rw[patR,if_neg (b_ne (by show ¬((zaw r).toNat:Int)=0;omega)),if_pos (show zaw r=95 from b_eq (k:=95) oe h)]
theorem znu (h1:97<=((zaw r).toNat:Int)) (h2:((zaw r).toNat:Int)<=122) (h3:((zaw (oneR r)).toNat:Int)=64):
  patR w (n+1) t r=(.mk 6 0 0 0 (((zaw r).toNat:Int)-97) [(patR w n t (oneR (oneR r))).1],(patR w n t (oneR (oneR r))).2):=by
 rw[patR,if_neg (b_ne (by show ¬((zaw r).toNat:Int)=0;omega)),if_neg (b_ne (by show ¬((zaw r).toNat:Int)=95;omega)),if_pos (ze9 h1 h2),if_pos (show zaw (oneR r)=64 from b_eq (k:=64) oe h3)]
theorem znv (h1:97<=((zaw r).toNat:Int)) (h2:((zaw r).toNat:Int)<=122) (h3:¬((zaw (oneR r)).toNat:Int)=64):
  patR w (n+1) t r=(.mk 2 0 0 0 (((zaw r).toNat:Int)-97) [],oneR r):=by
 rw[patR,if_neg (b_ne (by show ¬((zaw r).toNat:Int)=0;omega)),if_neg (b_ne (by show ¬((zaw r).toNat:Int)=95;omega)),if_pos (ze9 h1 h2),if_neg (b_ne h3)]
theorem znt (h1:48<=((zaw r).toNat:Int)) (h2:((zaw r).toNat:Int)<=57) (h3:((zaw (digR r)).toNat:Int)=45):
  patR w (n+1) t r=(.mk 3 0 (zcX r) (zcX (oneR (digR r))) 0 [],⟨(digR (oneR (digR r))).s,(digR (oneR (digR r))).bad||decide (zcX (oneR (digR r))=zcX r)⟩):=by
 rw[patR,if_neg (b_ne (by show ¬((zaw r).toNat:Int)=0;omega)),if_neg (b_ne (by show ¬((zaw r).toNat:Int)=95;omega)),if_neg (zhm oe),if_pos (zhd h1 h2),if_pos (show zaw (digR r)=45 from b_eq (k:=45) oe h3)]
theorem zo0 (h1:48<=((zaw r).toNat:Int)) (h2:((zaw r).toNat:Int)<=57) (h3:¬((zaw (digR r)).toNat:Int)=45):
  patR w (n+1) t r=(.mk 3 0 (zcX r) (zcX r) 0 [],digR r):=by
 rw[patR,if_neg (b_ne (by show ¬((zaw r).toNat:Int)=0;omega)),if_neg (b_ne (by show ¬((zaw r).toNat:Int)=95;omega)),if_neg (zhm oe),if_pos (zhd h1 h2),if_neg (b_ne h3)]
theorem zqp (h:((zaw r).toNat:Int)=40):patR w (n+1) t r=(.mk 5 0 0 0 0 [(patR w n t (oneR r)).1,(patR w n t (zaP (patR w n t (oneR r)).2 124)).1],zaP (patR w n t (zaP (patR w n t (oneR r)).2 124)).2 41):=by
 rw[patR,if_neg (b_ne (by show ¬((zaw r).toNat:Int)=0;omega)),if_neg (b_ne (by show ¬((zaw r).toNat:Int)=95;omega)),if_neg (zhm oe),if_neg (ziE oe),if_pos (show zaw r=40 from b_eq (k:=40) oe h)]
variable (h0:¬((zaw r).toNat:Int)=0) (h1:¬((zaw r).toNat:Int)=95) (h2:¬(97<=((zaw r).toNat:Int)/\((zaw r).toNat:Int)<=122)) (h3:¬(48<=((zaw r).toNat:Int)/\((zaw r).toNat:Int)<=57)) (h4:¬((zaw r).toNat:Int)=40)
include h0 h1 h2 h3 h4
theorem zoY (h:(zbt w t r).bad=true):patR w (n+1) t r=(.mk 4 (zbg w t r) 0 0 0 [],zbt w t r):=by
 rw[patR,if_neg (b_ne h0),if_neg (b_ne h1),if_neg (zhm h2),if_neg (ziE h3),if_neg (b_ne h4),if_pos h]
theorem zoZ (h:(zbt w t r).bad=false):patR w (n+1) t r=(.mk 4 (zbg w t r) 0 0 0 (zbe (patR w n) true (zan w t (zbg w t r)) (zbt w t r)).1,zb3 (zan w t (zbg w t r)) (zbe (patR w n) true (zan w t (zbg w t r)) (zbt w t r)).2):=by
 rw[patR,if_neg (b_ne h0),if_neg (b_ne h1),if_neg (zhm h2),if_neg (ziE h3),if_neg (b_ne h4),if_neg (by rw[h];simp)]
end
theorem ziT:FnD Tryz.prog 82 [] [] (.agg [.d (.i 1),.d (.i 0),.d (.i 0),.d (.i 0),.d (.i 0),.d (.sl [])]) []:=by
 refine bd Tryz.f82 2 [] [] fun _ _ _ _ hk=>?_;refine ab 3000 tz47 ?_;apply tv;refine bu [0] [_] st47 ?_;refine so ty47 ?_;apply tv;focus (refine rn0 (ra ty47) (.agg (qeeeeen ?_ ?_ ?_ ?_ ?_ ?_));all_goals (first|rfl|(simp[];done)|(simp_all;done)|(simp_all;omega)|omega))
theorem zdT {w:List Data} (hw:WT w) (hA3:A3 w):∀(n:Nat){a k:Int}{r:Rd},n<=10->TyIn w.length ⟨a,k⟩->r.s.length<=1000000000000->
  FnD Tryz.prog 50 [.ref 901 0,.agg [.d (.i a),.d (.i k)],.d (.i (11-(n:Int)))] [(901,some (.box (rdC w r)))]
   (.agg [.d (.i (patR w n ⟨a,k⟩ r).1.op),.d (.i (patR w n ⟨a,k⟩ r).1.ctor),.d (.i (patR w n ⟨a,k⟩ r).1.n),.d (.i (patR w n ⟨a,k⟩ r).1.m),.d (.i (patR w n ⟨a,k⟩ r).1.var),.d (zaC (patR w n ⟨a,k⟩ r).1.kids)]) [(901,some (.box (rdC w (patR w n ⟨a,k⟩ r).2)))]
 |0,a,k,r,_,_,_=>by
  have e0:((zaw ⟨r.s,true⟩).toNat:Int)=0:=by rw[zeb (r:=⟨r.s,true⟩) (.inl rfl)];rfl
  rw[show patR w 0 ⟨a,k⟩ r=(zcP,⟨r.s,true⟩) from rfl];refine bd Tryz.f50 138 [] [] fun _ _ _ _ hk=>?_;refine bx 903 ?_;refine bx 3004 ?_;refine bx 904 ?_;refine ab 3006 tz47 ?_;apply tv;apply sq<;>intro h1 h1p h1s<;>(try simp only[Q] at h1p);refine so ty4 ?_;apply tv;refine wd zei (za2 (w:=w) (r:=⟨r.s,true⟩)) I I ⟨I,O⟩ ?_;refine ev ?_;apply sq<;>intro h2 h2p h2s<;>(try simp only[Q] at h2p);refine so ty4 ?_;apply tv;refine bu [] [] st47 ?_;refine so ty47 ?_;apply tv;refine rn [(901,some (.box (rdC w ⟨r.s,true⟩)))] (ra ty47) (.agg (qeeeeen ?_ ?_ ?_ ?_ ?_ ?_)) ⟨I,I⟩ (SubO.get ⟨.inr ?_,⟨.inl I,O⟩⟩) (zao I);rotate_left 7;exfalso;omega;focus (exfalso;first|omega|(simp at h1p;done))
  all_goals (first|((rfl);done)|(rfl))
 |n+1,a,k,r,hn,ht,hs=>by
  have hdp:(11:Int)-((n+1:Nat):Int)+1=11-(n:Int):=by omega
  have hih:∀ {a k:Int}{r:Rd},TyIn w.length ⟨a,k⟩->r.s.length<=1000000000000->FnD Tryz.prog 50 [.ref 901 0,.agg [.d (.i a),.d (.i k)],.d (.i (11-((n+1:Nat):Int)+1))] [(901,some (.box (rdC w r)))]
   (.agg [.d (.i (patR w n ⟨a,k⟩ r).1.op),.d (.i (patR w n ⟨a,k⟩ r).1.ctor),.d (.i (patR w n ⟨a,k⟩ r).1.n),.d (.i (patR w n ⟨a,k⟩ r).1.m),.d (.i (patR w n ⟨a,k⟩ r).1.var),.d (zaC (patR w n ⟨a,k⟩ r).1.kids)]) [(901,some (.box (rdC w (patR w n ⟨a,k⟩ r).2)))]:=fun {a k r} h1 h2=>by
   rw[hdp];exact zdT hw hA3 n oe h1 h2
  have hmem:=fun(h:(zbt w ⟨a,k⟩ r).bad=false)=>(ze3 h).2.2.1;have hkids:=fun(h:(zbt w ⟨a,k⟩ r).bad=false)=>zhM (w:=w) (c:=zbg w ⟨a,k⟩ r) (deep:=11-((n+1:Nat):Int)) (ts:=zan w ⟨a,k⟩ (zbg w ⟨a,k⟩ r)) (hA3 _ _ ht (hmem h)).1 (r:=zbt w ⟨a,k⟩ r) (Nat.le_trans (zgj _ _ _) hs) (f:=patR w n) (fun t r=>zf8 w n t r)
   (fun t ht' acc r hl hs'=>zgd (a:=t.data) (k:=t.index) oe hl (patR w n t r) (hih ((hA3 _ _ ht (hmem h)).2 t ht') hs'))
  have hag:=fun(h:(zbt w ⟨a,k⟩ r).bad=false)=>zeq hw ht (hmem h);have hct:=zeJ hw ht (r:=r) hs;have l1:=zcj r;have l2:=zcj (oneR r);have l3:=zde (patR w n ⟨a,k⟩ (oneR r)).2 124;have l4:=zf8 w n ⟨a,k⟩ (oneR r);have p1:=hih (a:=a) (k:=k) (r:=oneR (oneR r)) ht oe;have p2:=hih (a:=a) (k:=k) (r:=oneR r) ht oe;have p3:=hih (a:=a) (k:=k) (r:=zaP (patR w n ⟨a,k⟩ (oneR r)).2 124) ht oe;have q0:=pr_0 (w:=w) (n:=n) (t:=⟨a,k⟩) (r:=r);have q1:=zqo (w:=w) (n:=n) (t:=⟨a,k⟩) (r:=r);have q2:=znu (w:=w) (n:=n) (t:=⟨a,k⟩) (r:=r);have q3:=znv (w:=w) (n:=n) (t:=⟨a,k⟩) (r:=r);have q4:=znt (w:=w) (n:=n) (t:=⟨a,k⟩) (r:=r);have q5:=zo0 (w:=w) (n:=n) (t:=⟨a,k⟩) (r:=r);have q6:=zqp (w:=w) (n:=n) (t:=⟨a,k⟩) (r:=r);have q7:=zoY (w:=w) (n:=n) (t:=⟨a,k⟩) (r:=r);have q8:=zoZ (w:=w) (n:=n) (t:=⟨a,k⟩) (r:=r);generalize patR w (n+1) ⟨a,k⟩ r=R at *;generalize hK:zbe (patR w n) true (zan w ⟨a,k⟩ (zbg w ⟨a,k⟩ r)) (zbt w ⟨a,k⟩ r)=Kq at *;generalize zb3 (zan w ⟨a,k⟩ (zbg w ⟨a,k⟩ r)) Kq.2=ke at *;generalize zan w ⟨a,k⟩ (zbg w ⟨a,k⟩ r)=ts at *;clear hK hih;refine bd Tryz.f50 138 [63] [6,7] fun _ _ _ _ hk=>?_;refine bx 903 ?_;refine bx 3004 ?_;refine bx 904 ?_;refine ab 3006 tz47 ?_;apply tv;apply sq<;>intro h1 h1p h1s<;>(try simp only[Q,xal] at h1p);exfalso;first|omega|(simp at h1p;omega)
  refine wd zei (za2 (w:=w) (r:=r)) I I ⟨I,O⟩ ?_;refine evs [63] [] ?_;apply sq<;>intro h2 h2p h2s<;>(try simp only[Q,xal] at h2p);refine so ty4 ?_;apply tv;refine bu [] [] st47 ?_;refine so ty47 ?_;apply tv;refine rn [(901,some (.box (rdC w R.2)))] (ra ty47) (.agg (qeeeeen ?_ ?_ ?_ ?_ ?_ ?_)) ⟨I,I⟩ (SubO.get ⟨.inr ?_,⟨.inl I,O⟩⟩) (zao I);rotate_left 7;apply sq<;>intro h3 h3p h3s<;>(try simp only[Q,xal] at h3p);refine wd zcf (zaE (w:=w) (r:=r)) I I ⟨I,O⟩ ?_;apply tv;refine wc zqe ziT I I ?_;refine so ty47 ?_;apply tv;refine rn [(901,some (.box (rdC w R.2)))] (ra ty47) (.agg (qeeeeee ?_ ?_ ?_ ?_ ?_ ?_)) ⟨I,I⟩ (SubO.get ⟨.inr ?_,⟨.inl I,O⟩⟩) (zao I);rotate_left 7;apply sq<;>intro h4 h4p h4s<;>(try simp only[Q,xal] at h4p);apply sq<;>intro h5 h5p h5s<;>(try simp only[Q,xal] at h5p);refine wd zcf (zaE (w:=w) (r:=r)) I I ⟨I,O⟩ ?_;refine xb7 .none I I I (xbG o9 un3 .none I I ?_);refine bu [0,4] [_,_] st47 ?_;refine ab 3008 tz47 ?_;refine so ty47 ?_;apply tv;refine wd zei (za2 (w:=w) (r:=oneR r)) I I ⟨I,O⟩ ?_;refine evs [63] [] ?_;apply sq<;>intro h6 h6p h6s<;>(try simp only[Q,xal] at h6p);refine wd zcf (zaE (w:=w) (r:=oneR r)) I I ⟨I,O⟩ ?_;apply tv;refine ar (wd zb1 p1 I I ⟨I,O⟩ ?_);refine si [0] [_] sl45 tz47 ?_;refine evs [63] [] (so ty3 ?_);refine evs [63] [] (so ty45 ?_);apply tv;refine so ty47 ?_;apply tv;refine rn [(901,some (.box (rdC w R.2)))] (ra ty47) (.agg (qeeeeee ?_ ?_ ?_ ?_ ?_ ?_)) ⟨I,I⟩ (SubO.get ⟨.inr ?_,⟨.inl I,O⟩⟩) (zao I);rotate_left 7;refine so ty47 ?_;apply tv;refine rn [(901,some (.box (rdC w R.2)))] (ra ty47) (.agg (qeeeeen ?_ ?_ ?_ ?_ ?_ ?_)) ⟨I,I⟩ (SubO.get ⟨.inr ?_,⟨.inl I,O⟩⟩) (zao I);rotate_left 7;apply sq<;>intro h7 h7p h7s<;>(try simp only[Q,xal] at h7p);apply sq<;>intro h8 h8p h8s<;>(try simp only[Q,xal] at h8p);refine wd zgg (zbp (w:=w) (r:=r)) I I ⟨I,O⟩ ?_;refine evs [63] [] (bu [0,2,3] [_,_,_] st47 ?_);refine ab 3010 tz47 ?_;refine so ty47 ?_;apply tv;refine wd zei (za2 (w:=w) (r:=digR r)) I I ⟨I,O⟩ ?_;refine evs [63] [] ?_;apply sq<;>intro h9 h9p h9s<;>(try simp only[Q,xal] at h9p);refine wd zcf (zaE (w:=w) (r:=digR r)) I I ⟨I,O⟩ ?_;apply tv;refine wd zgg (zbp (w:=w) (r:=oneR (digR r))) I I ⟨I,O⟩ ?_;refine evs [63] [] (so ty3 ?_);apply tv;apply sq<;>intro h10 h10p h10s<;>(try simp only[Q,xal] at h10p);refine so ty4 ?_;refine dr (so ty47 ?_);apply tv;refine rn [(901,some (.box (rdC w R.2)))] (ra ty47) (.agg (qeeeeen ?_ ?_ ?_ ?_ ?_ ?_)) ⟨I,I⟩ (SubO.get ⟨.inr ?_,⟨.inl I,O⟩⟩) (zao I);rotate_left 7;refine so ty4 ?_;refine dr (so ty47 ?_);apply tv;refine rn [(901,some (.box (rdC w R.2)))] (ra ty47) (.agg (qeeeeen ?_ ?_ ?_ ?_ ?_ ?_)) ⟨I,I⟩ (SubO.get ⟨.inr ?_,⟨.inl I,O⟩⟩) (zao I);rotate_left 7;refine so ty47 ?_;apply tv;refine rn [(901,some (.box (rdC w R.2)))] (ra ty47) (.agg (qeeeeen ?_ ?_ ?_ ?_ ?_ ?_)) ⟨I,I⟩ (SubO.get ⟨.inr ?_,⟨.inl I,O⟩⟩) (zao I);rotate_left 7;apply sq<;>intro h11 h11p h11s<;>(try simp only[Q,xal] at h11p);refine wd zcf (zaE (w:=w) (r:=r)) I I ⟨I,O⟩ ?_;apply tv;refine ar (wd zb1 p2 I I ⟨I,O⟩ ?_);refine ab 3011 tz47 ?_;refine so ty47 ?_;apply tv;refine wd zb2 (zaz (w:=w) (r:=(patR w n ⟨a,k⟩ (oneR r)).2) (b:=124)) I I ⟨I,O⟩ ?_;apply tv;refine ar (wd zb1 p3 I I ⟨I,O⟩ ?_);refine ab 3012 tz47 ?_;refine so ty47 ?_;apply tv;refine wd zb2 (zaz (w:=w) (r:=(patR w n ⟨a,k⟩ (zaP (patR w n ⟨a,k⟩ (oneR r)).2 124)).2) (b:=41)) I I ⟨I,O⟩ ?_;apply tv;refine si [0,1] [_,_] sl45 tz47 ?_;refine bu [0,5] [_,_] st47 ?_;refine so ty47 ?_;apply tv;refine rn [(901,some (.box (rdC w R.2)))] (ra ty47) (.agg (qeeeeee ?_ ?_ ?_ ?_ ?_ ?_)) ⟨I,I⟩ (SubO.get ⟨.inr ?_,⟨.inl I,O⟩⟩) (zao I);rotate_left 7;refine wd zgh hct I I ⟨I,O⟩ ?_;refine bu [0,1] [_,_] st47 ?_;refine ab 902 tz47 ?_;refine so ty47 ?_;apply tv;apply sq<;>intro h12 h12p h12s<;>(try simp only[Q,xal] at h12p);refine xaI 902 5 5 6 I I I I (evc [63] [] (Walk.call (cr:=[]) zfA (hag ol) I .none I I (LeL.refl _) O I og od ?_));refine xbF (xs:=[_,_,_]) I .none I I (xbA [5] [7] zgi (hkids ol) I .none I I (LeL.refl _) ⟨I,I,I,I,I,O⟩ I od ?_);refine dr ?_;first|(refine xaA hk 902 5 7 6 I I I I (zed _) I I ?_)|skip
  refine evc [63] [] (so ty47 ?_);apply tv;refine rn [(901,some (.box (rdC w R.2)))] (ra ty47) (.agg (qeeeeee ?_ ?_ ?_ ?_ ?_ ?_)) ⟨I,I⟩ (SubO.get ⟨.inr ?_,⟨.inl I,O⟩⟩) (zao I);rotate_left 7;first|(refine xaA hk 902 5 7 6 I I I I (zed _) I I ?_)|skip
  refine evc [63] [] (so ty47 ?_);apply tv;refine rn [(901,some (.box (rdC w R.2)))] (ra ty47) (.agg (qeeeeen ?_ ?_ ?_ ?_ ?_ ?_)) ⟨I,I⟩ (SubO.get ⟨.inr ?_,⟨.inl I,O⟩⟩) (zao I);rotate_left 7;refine sqF ?_;apply sq<;>intro h14 h14p h14s<;>(try simp only[Q,xal] at h14p);refine wd zcf (zaE (w:=w) (r:=r)) I I ⟨I,O⟩ ?_;apply tv;refine ar (wd zb1 p2 I I ⟨I,O⟩ ?_);refine ab 3011 tz47 ?_;refine so ty47 ?_;apply tv;refine wd zb2 (zaz (w:=w) (r:=(patR w n ⟨a,k⟩ (oneR r)).2) (b:=124)) I I ⟨I,O⟩ ?_;apply tv;refine ar (wd zb1 p3 I I ⟨I,O⟩ ?_);refine ab 3012 tz47 ?_;refine so ty47 ?_;apply tv;refine wd zb2 (zaz (w:=w) (r:=(patR w n ⟨a,k⟩ (zaP (patR w n ⟨a,k⟩ (oneR r)).2 124)).2) (b:=41)) I I ⟨I,O⟩ ?_;apply tv;refine si [0,1] [_,_] sl45 tz47 ?_;refine bu [0,5] [_,_] st47 ?_;refine so ty47 ?_;apply tv;refine rn [(901,some (.box (rdC w R.2)))] (ra ty47) (.agg (qeeeeee ?_ ?_ ?_ ?_ ?_ ?_)) ⟨I,I⟩ (SubO.get ⟨.inr ?_,⟨.inl I,O⟩⟩) (zao I);rotate_left 7;refine wd zgh hct I I ⟨I,O⟩ ?_;refine bu [0,1] [_,_] st47 ?_;refine ab 902 tz47 ?_;refine so ty47 ?_;apply tv;apply sq<;>intro h15 h15p h15s<;>(try simp only[Q,xal] at h15p);refine xaI 902 5 5 6 I I I I (evc [63] [] (Walk.call (cr:=[]) zfA (hag ol) I .none I I (LeL.refl _) O I og od ?_));refine xbF (xs:=[_,_,_]) I .none I I (xbA [5] [7] zgi (hkids ol) I .none I I (LeL.refl _) ⟨I,I,I,I,I,O⟩ I od ?_);refine dr ?_;first|(refine xaA hk 902 5 7 6 I I I I (zed _) I I ?_)|skip
  refine evc [63] [] (so ty47 ?_);apply tv;refine rn [(901,some (.box (rdC w R.2)))] (ra ty47) (.agg (qeeeeee ?_ ?_ ?_ ?_ ?_ ?_)) ⟨I,I⟩ (SubO.get ⟨.inr ?_,⟨.inl I,O⟩⟩) (zao I);rotate_left 7;first|(refine xaA hk 902 5 7 6 I I I I (zed _) I I ?_)|skip
  refine evc [63] [] (so ty47 ?_);apply tv;refine rn [(901,some (.box (rdC w R.2)))] (ra ty47) (.agg (qeeeeen ?_ ?_ ?_ ?_ ?_ ?_)) ⟨I,I⟩ (SubO.get ⟨.inr ?_,⟨.inl I,O⟩⟩) (zao I);rotate_left 7;refine sqF ?_;apply sq<;>intro h17 h17p h17s<;>(try simp only[Q,xal] at h17p);apply sq<;>intro h18 h18p h18s<;>(try simp only[Q,xal] at h18p);refine wd zgg (zbp (w:=w) (r:=r)) I I ⟨I,O⟩ ?_;refine evs [63] [] (bu [0,2,3] [_,_,_] st47 ?_);refine ab 3010 tz47 ?_;refine so ty47 ?_;apply tv;refine wd zei (za2 (w:=w) (r:=digR r)) I I ⟨I,O⟩ ?_;refine evs [63] [] ?_;apply sq<;>intro h19 h19p h19s<;>(try simp only[Q,xal] at h19p);refine wd zcf (zaE (w:=w) (r:=digR r)) I I ⟨I,O⟩ ?_;apply tv;refine wd zgg (zbp (w:=w) (r:=oneR (digR r))) I I ⟨I,O⟩ ?_;refine evs [63] [] (so ty3 ?_);apply tv;apply sq<;>intro h20 h20p h20s<;>(try simp only[Q,xal] at h20p);refine so ty4 ?_;refine dr (so ty47 ?_);apply tv;refine rn [(901,some (.box (rdC w R.2)))] (ra ty47) (.agg (qeeeeen ?_ ?_ ?_ ?_ ?_ ?_)) ⟨I,I⟩ (SubO.get ⟨.inr ?_,⟨.inl I,O⟩⟩) (zao I);rotate_left 7;refine so ty4 ?_;refine dr (so ty47 ?_);apply tv;refine rn [(901,some (.box (rdC w R.2)))] (ra ty47) (.agg (qeeeeen ?_ ?_ ?_ ?_ ?_ ?_)) ⟨I,I⟩ (SubO.get ⟨.inr ?_,⟨.inl I,O⟩⟩) (zao I);rotate_left 7;refine so ty47 ?_;apply tv;refine rn [(901,some (.box (rdC w R.2)))] (ra ty47) (.agg (qeeeeen ?_ ?_ ?_ ?_ ?_ ?_)) ⟨I,I⟩ (SubO.get ⟨.inr ?_,⟨.inl I,O⟩⟩) (zao I);rotate_left 7;apply sq<;>intro h21 h21p h21s<;>(try simp only[Q,xal] at h21p);refine wd zcf (zaE (w:=w) (r:=r)) I I ⟨I,O⟩ ?_;apply tv;refine ar (wd zb1 p2 I I ⟨I,O⟩ ?_);refine ab 3011 tz47 ?_;refine so ty47 ?_;apply tv;refine wd zb2 (zaz (w:=w) (r:=(patR w n ⟨a,k⟩ (oneR r)).2) (b:=124)) I I ⟨I,O⟩ ?_;apply tv;refine ar (wd zb1 p3 I I ⟨I,O⟩ ?_);refine ab 3012 tz47 ?_;refine so ty47 ?_;apply tv;refine wd zb2 (zaz (w:=w) (r:=(patR w n ⟨a,k⟩ (zaP (patR w n ⟨a,k⟩ (oneR r)).2 124)).2) (b:=41)) I I ⟨I,O⟩ ?_;apply tv;refine si [0,1] [_,_] sl45 tz47 ?_;refine bu [0,5] [_,_] st47 ?_;refine so ty47 ?_;apply tv;refine rn [(901,some (.box (rdC w R.2)))] (ra ty47) (.agg (qeeeeee ?_ ?_ ?_ ?_ ?_ ?_)) ⟨I,I⟩ (SubO.get ⟨.inr ?_,⟨.inl I,O⟩⟩) (zao I);rotate_left 7;refine wd zgh hct I I ⟨I,O⟩ ?_;refine bu [0,1] [_,_] st47 ?_;refine ab 902 tz47 ?_;refine so ty47 ?_;apply tv;apply sq<;>intro h22 h22p h22s<;>(try simp only[Q,xal] at h22p);refine xaI 902 5 5 6 I I I I (evc [63] [] (Walk.call (cr:=[]) zfA (hag ol) I .none I I (LeL.refl _) O I og od ?_));refine xbF (xs:=[_,_,_]) I .none I I (xbA [5] [7] zgi (hkids ol) I .none I I (LeL.refl _) ⟨I,I,I,I,I,O⟩ I od ?_);refine dr ?_;first|(refine xaA hk 902 5 7 6 I I I I (zed _) I I ?_)|skip
  refine evc [63] [] (so ty47 ?_);apply tv;refine rn [(901,some (.box (rdC w R.2)))] (ra ty47) (.agg (qeeeeee ?_ ?_ ?_ ?_ ?_ ?_)) ⟨I,I⟩ (SubO.get ⟨.inr ?_,⟨.inl I,O⟩⟩) (zao I);rotate_left 7;first|(refine xaA hk 902 5 7 6 I I I I (zed _) I I ?_)|skip
  refine evc [63] [] (so ty47 ?_);apply tv;refine rn [(901,some (.box (rdC w R.2)))] (ra ty47) (.agg (qeeeeen ?_ ?_ ?_ ?_ ?_ ?_)) ⟨I,I⟩ (SubO.get ⟨.inr ?_,⟨.inl I,O⟩⟩) (zao I);rotate_left 7;refine sqF ?_;apply sq<;>intro h24 h24p h24s<;>(try simp only[Q,xal] at h24p);refine wd zcf (zaE (w:=w) (r:=r)) I I ⟨I,O⟩ ?_;apply tv;refine ar (wd zb1 p2 I I ⟨I,O⟩ ?_);refine ab 3011 tz47 ?_;refine so ty47 ?_;apply tv;refine wd zb2 (zaz (w:=w) (r:=(patR w n ⟨a,k⟩ (oneR r)).2) (b:=124)) I I ⟨I,O⟩ ?_;apply tv;refine ar (wd zb1 p3 I I ⟨I,O⟩ ?_);refine ab 3012 tz47 ?_;refine so ty47 ?_;apply tv;refine wd zb2 (zaz (w:=w) (r:=(patR w n ⟨a,k⟩ (zaP (patR w n ⟨a,k⟩ (oneR r)).2 124)).2) (b:=41)) I I ⟨I,O⟩ ?_;apply tv;refine si [0,1] [_,_] sl45 tz47 ?_;refine bu [0,5] [_,_] st47 ?_;refine so ty47 ?_;apply tv;refine rn [(901,some (.box (rdC w R.2)))] (ra ty47) (.agg (qeeeeee ?_ ?_ ?_ ?_ ?_ ?_)) ⟨I,I⟩ (SubO.get ⟨.inr ?_,⟨.inl I,O⟩⟩) (zao I);rotate_left 7;refine wd zgh hct I I ⟨I,O⟩ ?_;refine bu [0,1] [_,_] st47 ?_;refine ab 902 tz47 ?_;refine so ty47 ?_;apply tv;apply sq<;>intro h25 h25p h25s<;>(try simp only[Q,xal] at h25p);refine xaI 902 5 5 6 I I I I (evc [63] [] (Walk.call (cr:=[]) zfA (hag ol) I .none I I (LeL.refl _) O I og od ?_));refine xbF (xs:=[_,_,_]) I .none I I (xbA [5] [7] zgi (hkids ol) I .none I I (LeL.refl _) ⟨I,I,I,I,I,O⟩ I od ?_);refine dr ?_;first|(refine xaA hk 902 5 7 6 I I I I (zed _) I I ?_)|skip
  refine evc [63] [] (so ty47 ?_);apply tv;refine rn [(901,some (.box (rdC w R.2)))] (ra ty47) (.agg (qeeeeee ?_ ?_ ?_ ?_ ?_ ?_)) ⟨I,I⟩ (SubO.get ⟨.inr ?_,⟨.inl I,O⟩⟩) (zao I);rotate_left 7;first|(refine xaA hk 902 5 7 6 I I I I (zed _) I I ?_)|skip
  refine evc [63] [] (so ty47 ?_);apply tv;refine rn [(901,some (.box (rdC w R.2)))] (ra ty47) (.agg (qeeeeen ?_ ?_ ?_ ?_ ?_ ?_)) ⟨I,I⟩ (SubO.get ⟨.inr ?_,⟨.inl I,O⟩⟩) (zao I);rotate_left 7;all_goals (first|((first|(rw[q0 oe];all_goals rfl)|(rw[q1 oe];all_goals rfl)|(rw[q2 oe oe oe];all_goals first|rfl|(rw[zba oe oe];all_goals rfl)|exact xam D.sl (xaW _).symm|(show D.sl _=D.sl _;rw[xaW];done)|(show D.sl _=D.sl _;rw[xaW];rfl))|(rw[q3 oe oe oe];all_goals first|rfl|(rw[zba oe oe];all_goals rfl)|exact xam D.sl (xaW _).symm|(show D.sl _=D.sl _;rw[xaW];done)|(show D.sl _=D.sl _;rw[xaW];rfl))|(rw[q4 oe oe oe];all_goals first|rfl|(show some (Res.box [_,_,_])=some (Res.box [_,_,_]);simp[*];done)|(show some (Res.box [_,_,_])=some (Res.box [_,_,_]);simp_all;done))|(rw[q5 oe oe oe];all_goals rfl)|(rw[q6 oe];all_goals first|rfl|exact xam D.sl (xaW _).symm|(show D.sl _=D.sl _;rw[xaW];done)|(show D.sl _=D.sl _;rw[xaW];rfl))|(rw[q7 oe oe oe oe oe ol];all_goals rfl)|(rw[q8 oe oe oe oe oe ol];all_goals first|rfl|exact(xaW _).symm|exact xam D.sl (xaW _).symm|(show D.sl _=D.sl _;rw[xaW];done)|(show D.sl _=D.sl _;rw[xaW];rfl)));done)|(first|(rw[q0 oe];all_goals rfl)|(rw[q1 oe];all_goals rfl)|(rw[q2 oe oe oe];all_goals first|rfl|(rw[zba oe oe];all_goals rfl)|exact xam D.sl (xaW _).symm|(show D.sl _=D.sl _;rw[xaW];done)|(show D.sl _=D.sl _;rw[xaW];rfl))|(rw[q3 oe oe oe];all_goals first|rfl|(rw[zba oe oe];all_goals rfl)|exact xam D.sl (xaW _).symm|(show D.sl _=D.sl _;rw[xaW];done)|(show D.sl _=D.sl _;rw[xaW];rfl))|(rw[q4 oe oe oe];all_goals first|rfl|(show some (Res.box [_,_,_])=some (Res.box [_,_,_]);simp[*];done)|(show some (Res.box [_,_,_])=some (Res.box [_,_,_]);simp_all;done))|(rw[q5 oe oe oe];all_goals rfl)|(rw[q6 oe];all_goals first|rfl|exact xam D.sl (xaW _).symm|(show D.sl _=D.sl _;rw[xaW];done)|(show D.sl _=D.sl _;rw[xaW];rfl))|(rw[q7 oe oe oe oe oe ol];all_goals rfl)|(rw[q8 oe oe oe oe oe ol];all_goals first|rfl|exact(xaW _).symm|exact xam D.sl (xaW _).symm|(show D.sl _=D.sl _;rw[xaW];done)|(show D.sl _=D.sl _;rw[xaW];rfl))))
theorem za1 (p:Pat):[p].map Pat.cc=[[.i p.op,.i p.ctor,.i p.n,.i p.m,.i p.var,.sl (p.kids.map Pat.cc)]]:=zky [] p
theorem za4 (p q:Pat):[p,q].map Pat.cc=[[.i p.op,.i p.ctor,.i p.n,.i p.m,.i p.var,.sl (p.kids.map Pat.cc)],[.i q.op,.i q.ctor,.i q.n,.i q.m,.i q.var,.sl (q.kids.map Pat.cc)]]:=by
 rw[show [p,q]=[p]++[q] from rfl,zky,za1];rfl
theorem ziS:FnD Tryz.prog 82 [] [] (.agg [.d (.i 1),.d (.i 0),.d (.i 0),.d (.i 0),.d (.i 0),.nils]) []:=by
 refine bd Tryz.f82 2 [] [] fun _ _ _ _ hk=>?_;refine ab 3000 tz47 ?_;apply tv;refine bu [0] [_] st47 ?_;refine so ty47 ?_;apply tv;focus (refine rn0 (ra ty47) (.agg (.cons (.eqd ?_) (.cons (.eqd ?_) (.cons (.eqd ?_) (.cons (.eqd ?_) (.cons (.eqd ?_) (.cons (.refl _) .nil)))))));all_goals (first|rfl|(simp[];done)|(simp_all;done)|(simp_all;omega)|omega))
theorem om{p:Prop}(h:p:=by intro x hx;rcases List.mem_cons.1 hx with rfl|hx;rfl;rw[List.mem_singleton.1 hx];rfl):p:=h
theorem zdU {w:List Data} (hw:WT w) (hA3:A3 w):∀(n:Nat){a k:Int}{r:Rd},n<=10->TyIn w.length ⟨a,k⟩->r.s.length<=1000000000000->
  FnD Tryz.prog 50 [.ref 901 0,.agg [.d (.i a),.d (.i k)],.d (.i (11-(n:Int)))] [(901,some (.box (rdC w r)))]
   (patT (patR w n ⟨a,k⟩ r).1) (patO w (patR w n ⟨a,k⟩ r).1 (patR w n ⟨a,k⟩ r).2)
 |0,a,k,r,_,_,_=>by
  have e0:((zaw ⟨r.s,true⟩).toNat:Int)=0:=by rw[zeb (r:=⟨r.s,true⟩) (.inl rfl)];rfl
  rw[show patR w 0 ⟨a,k⟩ r=(zcP,⟨r.s,true⟩) from rfl];refine bd Tryz.f50 138 [] [999999] fun _ _ _ _ hk=>?_;refine bx 903 ?_;refine bx 3004 ?_;refine bx 904 ?_;refine ab 3006 tz47 ?_;apply tv;apply sq<;>intro h1 h1p h1s<;>(try simp only[Q] at h1p);refine so ty4 ?_;apply tv;refine wd zei (za2 (w:=w) (r:=⟨r.s,true⟩)) I I ⟨I,O⟩ ?_;refine ev ?_;apply sq<;>intro h2 h2p h2s<;>(try simp only[Q] at h2p);refine so ty4 ?_;apply tv;refine bu [] [] st47 ?_;refine so ty47 ?_;apply tv;refine xaH 3006 5 61 6 I I I I (CWp.ret (rn [(901,some (.box (rdC w ⟨r.s,true⟩))),(61,some (.tok (zcP.kids.map Pat.cc).length 6))] (ra ty47) (.agg (.cons (.eqd ?_) (.cons (.eqd ?_) (.cons (.eqd ?_) (.cons (.eqd ?_) (.cons (.eqd ?_) (.cons (.gtg ?_) .nil))))))) ⟨I,I⟩ (SubO.get ⟨.inr ?_,⟨.inr ?_,⟨.inl I,O⟩⟩⟩) (zao I)));rotate_left 8;exfalso;omega;focus (exfalso;first|omega|(simp at h1p;done))
  all_goals (first|((rfl);done)|(rfl))
 |n+1,a,k,r,hn,ht,hs=>by
  have hdp:(11:Int)-((n+1:Nat):Int)+1=11-(n:Int):=by omega
  have hih:∀ {a k:Int}{r:Rd},TyIn w.length ⟨a,k⟩->r.s.length<=1000000000000->FnD Tryz.prog 50 [.ref 901 0,.agg [.d (.i a),.d (.i k)],.d (.i (11-((n+1:Nat):Int)+1))] [(901,some (.box (rdC w r)))]
   (patT (patR w n ⟨a,k⟩ r).1) (patO w (patR w n ⟨a,k⟩ r).1 (patR w n ⟨a,k⟩ r).2):=fun {a k r} h1 h2=>by
   rw[hdp];exact zdU hw hA3 n oe h1 h2
  have hmem:=fun(h:(zbt w ⟨a,k⟩ r).bad=false)=>(ze3 h).2.2.1;have hkids:=fun(h:(zbt w ⟨a,k⟩ r).bad=false)=>zhN (w:=w) (c:=zbg w ⟨a,k⟩ r) (deep:=11-((n+1:Nat):Int)) (ts:=zan w ⟨a,k⟩ (zbg w ⟨a,k⟩ r)) (hA3 _ _ ht (hmem h)).1 (r:=zbt w ⟨a,k⟩ r) (Nat.le_trans (zgj _ _ _) hs) (f:=patR w n) (fun t r=>zf8 w n t r)
   (fun t ht' acc r hl hs'=>zge (a:=t.data) (k:=t.index) oe hl (patR w n t r) (hih ((hA3 _ _ ht (hmem h)).2 t ht') hs'))
  have hag:=fun(h:(zbt w ⟨a,k⟩ r).bad=false)=>zeq hw ht (hmem h);have hct:=zeJ hw ht (r:=r) hs;have l1:=zcj r;have l2:=zcj (oneR r);have l3:=zde (patR w n ⟨a,k⟩ (oneR r)).2 124;have l4:=zf8 w n ⟨a,k⟩ (oneR r);have p1:=hih (a:=a) (k:=k) (r:=oneR (oneR r)) ht oe;have p2:=hih (a:=a) (k:=k) (r:=oneR r) ht oe;have p3:=hih (a:=a) (k:=k) (r:=zaP (patR w n ⟨a,k⟩ (oneR r)).2 124) ht oe;have q0:=pr_0 (w:=w) (n:=n) (t:=⟨a,k⟩) (r:=r);have q1:=zqo (w:=w) (n:=n) (t:=⟨a,k⟩) (r:=r);have q2:=znu (w:=w) (n:=n) (t:=⟨a,k⟩) (r:=r);have q3:=znv (w:=w) (n:=n) (t:=⟨a,k⟩) (r:=r);have q4:=znt (w:=w) (n:=n) (t:=⟨a,k⟩) (r:=r);have q5:=zo0 (w:=w) (n:=n) (t:=⟨a,k⟩) (r:=r);have q6:=zqp (w:=w) (n:=n) (t:=⟨a,k⟩) (r:=r);have q7:=zoY (w:=w) (n:=n) (t:=⟨a,k⟩) (r:=r);have q8:=zoZ (w:=w) (n:=n) (t:=⟨a,k⟩) (r:=r);generalize patR w (n+1) ⟨a,k⟩ r=R at *;generalize hK:zbe (patR w n) true (zan w ⟨a,k⟩ (zbg w ⟨a,k⟩ r)) (zbt w ⟨a,k⟩ r)=Kq at *;generalize zb3 (zan w ⟨a,k⟩ (zbg w ⟨a,k⟩ r)) Kq.2=ke at *;generalize zan w ⟨a,k⟩ (zbg w ⟨a,k⟩ r)=ts at *;clear hK hih;refine bd Tryz.f50 138 [63] [6,7,18,30,32,999999] fun _ _ _ _ hk=>?_;refine bx 903 ?_;refine bx 3004 ?_;refine bx 904 ?_;refine ab 3006 tz47 ?_;apply tv;apply sq<;>intro h1 h1p h1s<;>(try simp only[Q,xal] at h1p);exfalso;first|omega|(simp at h1p;omega)
  refine wd zei (za2 (w:=w) (r:=r)) I I ⟨I,O⟩ ?_;refine evs [63] [] ?_;apply sq<;>intro h2 h2p h2s<;>(try simp only[Q,xal] at h2p);refine so ty4 ?_;apply tv;refine bu [] [] st47 ?_;refine so ty47 ?_;apply tv;first|(refine xaH 3006 5 61 6 I I I I ?_)|(refine xaK 3006 5 62 61 I I I I ?_)|(refine xaC hk 3006 5 63 61 [[.i _,.i _,.i _,.i _,.i _,.sl _],[.i _,.i _,.i _,.i _,.i _,.sl _]] I I (.sc I (.sc I (.sc I (.sc I (.sc I (.gt I I (.sc I (.sc I (.sc I (.sc I (.sc I (.gt I I .nil)))))))))))) I om I oi I I I ?_)
  refine CWp.ret (rn [(901,some (.box (rdC w R.2))),(61,some (.tok (R.1.kids.map Pat.cc).length 6))] (ra ty47) (.agg (.cons (.eqd ?_) (.cons (.eqd ?_) (.cons (.eqd ?_) (.cons (.eqd ?_) (.cons (.eqd ?_) (.cons (.gtg ?_) .nil))))))) ⟨I,I⟩ (SubO.get ⟨.inr ?_,⟨.inr ?_,⟨.inl I,O⟩⟩⟩) (zao I));rotate_left 8;apply sq<;>intro h3 h3p h3s<;>(try simp only[Q,xal] at h3p);refine wd zcf (zaE (w:=w) (r:=r)) I I ⟨I,O⟩ ?_;apply tv;refine wc zqe ziS I I ?_;refine so ty47 ?_;apply tv;first|(refine xaH 3006 5 61 6 I I I I ?_)|(refine xaK 3006 5 62 61 I I I I ?_)|(refine xaC hk 3006 5 63 61 [[.i _,.i _,.i _,.i _,.i _,.sl _],[.i _,.i _,.i _,.i _,.i _,.sl _]] I I (.sc I (.sc I (.sc I (.sc I (.sc I (.gt I I (.sc I (.sc I (.sc I (.sc I (.sc I (.gt I I .nil)))))))))))) I om I oi I I I ?_)
  refine CWp.ret (rn [(901,some (.box (rdC w R.2))),(61,some (.tok (R.1.kids.map Pat.cc).length 6))] (ra ty47) (.agg (.cons (.eqd ?_) (.cons (.eqd ?_) (.cons (.eqd ?_) (.cons (.eqd ?_) (.cons (.eqd ?_) (.cons (.gtg ?_) .nil))))))) ⟨I,I⟩ (SubO.get ⟨.inr ?_,⟨.inr ?_,⟨.inl I,O⟩⟩⟩) (zao I));rotate_left 8;apply sq<;>intro h4 h4p h4s<;>(try simp only[Q,xal] at h4p);apply sq<;>intro h5 h5p h5s<;>(try simp only[Q,xal] at h5p);refine wd zcf (zaE (w:=w) (r:=r)) I I ⟨I,O⟩ ?_;refine xb7 .none I I I (xbG o9 un3 .none I I ?_);refine bu [0,4] [_,_] st47 ?_;refine ab 3008 tz47 ?_;refine so ty47 ?_;apply tv;refine wd zei (za2 (w:=w) (r:=oneR r)) I I ⟨I,O⟩ ?_;refine evs [63] [] ?_;apply sq<;>intro h6 h6p h6s<;>(try simp only[Q,xal] at h6p);refine wd zcf (zaE (w:=w) (r:=oneR r)) I I ⟨I,O⟩ ?_;apply tv;refine ar (Walk.call (cr:=[61]) zb1 p1 I .none I I (LeL.refl _) ⟨I,O⟩ I og od ?_);refine xb5 63 [61] sl45 tz47 I oi (ks:=[0]) (xs:=[_]) I I oi oi .none I I I I I I od ?_;refine evs [63] [] (so ty3 ?_);refine evs [63] [] (so ty45 ?_);apply tv;first|(refine xaC hk 3008 5 63 62 [[.i _,.i _,.i _,.i _,.i _,.sl _]] I I (.sc I (.sc I (.sc I (.sc I (.sc I (.gt I I .nil)))))) I (by intro x hx;rw[List.mem_singleton.1 hx];rfl) I oi I I I ?_;refine CWp.kill [75,76] ?_)|skip
  refine evc [63] [] (so ty47 ?_);apply tv;first|(refine xaH 3006 5 61 6 I I I I ?_)|(refine xaK 3006 5 62 61 I I I I ?_)|(refine xaC hk 3006 5 63 61 [[.i _,.i _,.i _,.i _,.i _,.sl _],[.i _,.i _,.i _,.i _,.i _,.sl _]] I I (.sc I (.sc I (.sc I (.sc I (.sc I (.gt I I (.sc I (.sc I (.sc I (.sc I (.sc I (.gt I I .nil)))))))))))) I om I oi I I I ?_)
  refine CWp.ret (rn [(901,some (.box (rdC w R.2))),(61,some (.tok (R.1.kids.map Pat.cc).length 6))] (ra ty47) (.agg (.cons (.eqd ?_) (.cons (.eqd ?_) (.cons (.eqd ?_) (.cons (.eqd ?_) (.cons (.eqd ?_) (.cons (.gtg ?_) .nil))))))) ⟨I,I⟩ (SubO.get ⟨.inr ?_,⟨.inr ?_,⟨.inl I,O⟩⟩⟩) (zao I));rotate_left 8;first|(refine xaC hk 3008 5 63 62 [[.i _,.i _,.i _,.i _,.i _,.sl _]] I I (.sc I (.sc I (.sc I (.sc I (.sc I (.gt I I .nil)))))) I (by intro x hx;rw[List.mem_singleton.1 hx];rfl) I oi I I I ?_;refine CWp.kill [75,76] ?_)|skip
  refine evc [63] [] (so ty47 ?_);apply tv;first|(refine xaH 3006 5 61 6 I I I I ?_)|(refine xaK 3006 5 62 61 I I I I ?_)|(refine xaC hk 3006 5 63 61 [[.i _,.i _,.i _,.i _,.i _,.sl _],[.i _,.i _,.i _,.i _,.i _,.sl _]] I I (.sc I (.sc I (.sc I (.sc I (.sc I (.gt I I (.sc I (.sc I (.sc I (.sc I (.sc I (.gt I I .nil)))))))))))) I om I oi I I I ?_)
  refine CWp.ret (rn [(901,some (.box (rdC w R.2))),(61,some (.tok (R.1.kids.map Pat.cc).length 6))] (ra ty47) (.agg (.cons (.eqd ?_) (.cons (.eqd ?_) (.cons (.eqd ?_) (.cons (.eqd ?_) (.cons (.eqd ?_) (.cons (.gtg ?_) .nil))))))) ⟨I,I⟩ (SubO.get ⟨.inr ?_,⟨.inr ?_,⟨.inl I,O⟩⟩⟩) (zao I));rotate_left 8;apply sq<;>intro h7 h7p h7s<;>(try simp only[Q,xal] at h7p);apply sq<;>intro h8 h8p h8s<;>(try simp only[Q,xal] at h8p);refine wd zgg (zbp (w:=w) (r:=r)) I I ⟨I,O⟩ ?_;refine evs [63] [] (bu [0,2,3] [_,_,_] st47 ?_);refine ab 3010 tz47 ?_;refine so ty47 ?_;apply tv;refine wd zei (za2 (w:=w) (r:=digR r)) I I ⟨I,O⟩ ?_;refine evs [63] [] ?_;apply sq<;>intro h9 h9p h9s<;>(try simp only[Q,xal] at h9p);refine wd zcf (zaE (w:=w) (r:=digR r)) I I ⟨I,O⟩ ?_;apply tv;refine wd zgg (zbp (w:=w) (r:=oneR (digR r))) I I ⟨I,O⟩ ?_;refine evs [63] [] (so ty3 ?_);apply tv;apply sq<;>intro h10 h10p h10s<;>(try simp only[Q,xal] at h10p);refine so ty4 ?_;refine dr (so ty47 ?_);apply tv;first|(refine xaH 3006 5 61 6 I I I I ?_)|(refine xaK 3006 5 62 61 I I I I ?_)|(refine xaC hk 3006 5 63 61 [[.i _,.i _,.i _,.i _,.i _,.sl _],[.i _,.i _,.i _,.i _,.i _,.sl _]] I I (.sc I (.sc I (.sc I (.sc I (.sc I (.gt I I (.sc I (.sc I (.sc I (.sc I (.sc I (.gt I I .nil)))))))))))) I om I oi I I I ?_)
  refine CWp.ret (rn [(901,some (.box (rdC w R.2))),(61,some (.tok (R.1.kids.map Pat.cc).length 6))] (ra ty47) (.agg (.cons (.eqd ?_) (.cons (.eqd ?_) (.cons (.eqd ?_) (.cons (.eqd ?_) (.cons (.eqd ?_) (.cons (.gtg ?_) .nil))))))) ⟨I,I⟩ (SubO.get ⟨.inr ?_,⟨.inr ?_,⟨.inl I,O⟩⟩⟩) (zao I));rotate_left 8;refine so ty4 ?_;refine dr (so ty47 ?_);apply tv;first|(refine xaH 3006 5 61 6 I I I I ?_)|(refine xaK 3006 5 62 61 I I I I ?_)|(refine xaC hk 3006 5 63 61 [[.i _,.i _,.i _,.i _,.i _,.sl _],[.i _,.i _,.i _,.i _,.i _,.sl _]] I I (.sc I (.sc I (.sc I (.sc I (.sc I (.gt I I (.sc I (.sc I (.sc I (.sc I (.sc I (.gt I I .nil)))))))))))) I om I oi I I I ?_)
  refine CWp.ret (rn [(901,some (.box (rdC w R.2))),(61,some (.tok (R.1.kids.map Pat.cc).length 6))] (ra ty47) (.agg (.cons (.eqd ?_) (.cons (.eqd ?_) (.cons (.eqd ?_) (.cons (.eqd ?_) (.cons (.eqd ?_) (.cons (.gtg ?_) .nil))))))) ⟨I,I⟩ (SubO.get ⟨.inr ?_,⟨.inr ?_,⟨.inl I,O⟩⟩⟩) (zao I));rotate_left 8;refine so ty47 ?_;apply tv;first|(refine xaH 3006 5 61 6 I I I I ?_)|(refine xaK 3006 5 62 61 I I I I ?_)|(refine xaC hk 3006 5 63 61 [[.i _,.i _,.i _,.i _,.i _,.sl _],[.i _,.i _,.i _,.i _,.i _,.sl _]] I I (.sc I (.sc I (.sc I (.sc I (.sc I (.gt I I (.sc I (.sc I (.sc I (.sc I (.sc I (.gt I I .nil)))))))))))) I om I oi I I I ?_)
  refine CWp.ret (rn [(901,some (.box (rdC w R.2))),(61,some (.tok (R.1.kids.map Pat.cc).length 6))] (ra ty47) (.agg (.cons (.eqd ?_) (.cons (.eqd ?_) (.cons (.eqd ?_) (.cons (.eqd ?_) (.cons (.eqd ?_) (.cons (.gtg ?_) .nil))))))) ⟨I,I⟩ (SubO.get ⟨.inr ?_,⟨.inr ?_,⟨.inl I,O⟩⟩⟩) (zao I));rotate_left 8;apply sq<;>intro h11 h11p h11s<;>(try simp only[Q,xal] at h11p);refine wd zcf (zaE (w:=w) (r:=r)) I I ⟨I,O⟩ ?_;apply tv;refine ar (Walk.call (cr:=[61]) zb1 p2 I .none I I (LeL.refl _) ⟨I,O⟩ I og od ?_);refine Walk.alloc (id:=3011) tz47 I .none I od od od ?_;refine so ty47 ?_;apply tv;refine CWp.kill [123] ?_;refine xaK 3011 5 61 62 I I I I ?_;refine evc [63] [] (Walk.call (cr:=[]) zb2 (zaz (w:=w) (r:=(patR w n ⟨a,k⟩ (oneR r)).2) (b:=124)) I .none I I (LeL.refl _) ⟨I,O⟩ I og od ?_);apply tv;refine ar (xbA [] [61] zb1 p3 I .none I I (LeL.refl _) ⟨I,O⟩ I od ?_);refine Walk.alloc (id:=3012) tz47 I .none I od od od ?_;refine so ty47 ?_;apply tv;refine CWp.kill [130] ?_;refine xaK 3012 5 61 65 I I I I ?_;refine evc [63] [] (Walk.call (cr:=[]) zb2 (zaz (w:=w) (r:=(patR w n ⟨a,k⟩ (zaP (patR w n ⟨a,k⟩ (oneR r)).2 124)).2) (b:=41)) I .none I I (LeL.refl _) ⟨I,O⟩ I og od ?_);apply tv;refine xb5 63 [62,65] sl45 tz47 I oi (ks:=[0,1]) (xs:=[_,_]) I I oi oi .none I I I I I I od ?_;refine bu [0,5] [_,_] st47 ?_;refine so ty47 ?_;apply tv;first|(refine xaH 3006 5 61 6 I I I I ?_)|(refine xaK 3006 5 62 61 I I I I ?_)|(refine xaC hk 3006 5 63 61 [[.i _,.i _,.i _,.i _,.i _,.sl _],[.i _,.i _,.i _,.i _,.i _,.sl _]] I I (.sc I (.sc I (.sc I (.sc I (.sc I (.gt I I (.sc I (.sc I (.sc I (.sc I (.sc I (.gt I I .nil)))))))))))) I om I oi I I I ?_)
  refine CWp.ret (rn [(901,some (.box (rdC w R.2))),(61,some (.tok (R.1.kids.map Pat.cc).length 6))] (ra ty47) (.agg (.cons (.eqd ?_) (.cons (.eqd ?_) (.cons (.eqd ?_) (.cons (.eqd ?_) (.cons (.eqd ?_) (.cons (.gtg ?_) .nil))))))) ⟨I,I⟩ (SubO.get ⟨.inr ?_,⟨.inr ?_,⟨.inl I,O⟩⟩⟩) (zao I));rotate_left 8;refine wd zgh hct I I ⟨I,O⟩ ?_;refine bu [0,1] [_,_] st47 ?_;refine ab 902 tz47 ?_;refine so ty47 ?_;apply tv;apply sq<;>intro h12 h12p h12s<;>(try simp only[Q,xal] at h12p);refine xaH 902 5 5 6 I I I I (evc [63] [] (Walk.call (cr:=[]) zfA (hag ol) I .none I I (LeL.refl _) O I og od ?_));refine xbF (xs:=[_,_,_]) I .none I I (xbA [5] [7] zgi (hkids ol) I .none I I (LeL.refl _) ⟨I,I,I,I,I,O⟩ I od ?_);refine dr ?_;first|(refine xaK 902 5 7 61 I I I I ?_)|(refine xaH 902 5 61 6 I I I I ?_)
  refine evc [63] [] (so ty47 ?_);apply tv;refine CWp.ret (rn [(901,some (.box (rdC w R.2))),(61,some (.tok (R.1.kids.map Pat.cc).length 6))] (ra ty47) (.agg (.cons (.eqd ?_) (.cons (.eqd ?_) (.cons (.eqd ?_) (.cons (.eqd ?_) (.cons (.eqd ?_) (.cons (.gtg ?_) .nil))))))) ⟨I,I⟩ (SubO.get ⟨.inr ?_,⟨.inr ?_,⟨.inl I,O⟩⟩⟩) (zao I));rotate_left 8;first|(refine xaK 902 5 7 61 I I I I ?_)|(refine xaH 902 5 61 6 I I I I ?_)
  refine evc [63] [] (so ty47 ?_);apply tv;refine CWp.ret (rn [(901,some (.box (rdC w R.2))),(61,some (.tok (R.1.kids.map Pat.cc).length 6))] (ra ty47) (.agg (.cons (.eqd ?_) (.cons (.eqd ?_) (.cons (.eqd ?_) (.cons (.eqd ?_) (.cons (.eqd ?_) (.cons (.gtg ?_) .nil))))))) ⟨I,I⟩ (SubO.get ⟨.inr ?_,⟨.inr ?_,⟨.inl I,O⟩⟩⟩) (zao I));rotate_left 8;refine sqF ?_;apply sq<;>intro h14 h14p h14s<;>(try simp only[Q,xal] at h14p);refine wd zcf (zaE (w:=w) (r:=r)) I I ⟨I,O⟩ ?_;apply tv;refine ar (Walk.call (cr:=[61]) zb1 p2 I .none I I (LeL.refl _) ⟨I,O⟩ I og od ?_);refine Walk.alloc (id:=3011) tz47 I .none I od od od ?_;refine so ty47 ?_;apply tv;refine CWp.kill [123] ?_;refine xaK 3011 5 61 62 I I I I ?_;refine evc [63] [] (Walk.call (cr:=[]) zb2 (zaz (w:=w) (r:=(patR w n ⟨a,k⟩ (oneR r)).2) (b:=124)) I .none I I (LeL.refl _) ⟨I,O⟩ I og od ?_);apply tv;refine ar (xbA [] [61] zb1 p3 I .none I I (LeL.refl _) ⟨I,O⟩ I od ?_);refine Walk.alloc (id:=3012) tz47 I .none I od od od ?_;refine so ty47 ?_;apply tv;refine CWp.kill [130] ?_;refine xaK 3012 5 61 65 I I I I ?_;refine evc [63] [] (Walk.call (cr:=[]) zb2 (zaz (w:=w) (r:=(patR w n ⟨a,k⟩ (zaP (patR w n ⟨a,k⟩ (oneR r)).2 124)).2) (b:=41)) I .none I I (LeL.refl _) ⟨I,O⟩ I og od ?_);apply tv;refine xb5 63 [62,65] sl45 tz47 I oi (ks:=[0,1]) (xs:=[_,_]) I I oi oi .none I I I I I I od ?_;refine bu [0,5] [_,_] st47 ?_;refine so ty47 ?_;apply tv;first|(refine xaH 3006 5 61 6 I I I I ?_)|(refine xaK 3006 5 62 61 I I I I ?_)|(refine xaC hk 3006 5 63 61 [[.i _,.i _,.i _,.i _,.i _,.sl _],[.i _,.i _,.i _,.i _,.i _,.sl _]] I I (.sc I (.sc I (.sc I (.sc I (.sc I (.gt I I (.sc I (.sc I (.sc I (.sc I (.sc I (.gt I I .nil)))))))))))) I om I oi I I I ?_)
  refine CWp.ret (rn [(901,some (.box (rdC w R.2))),(61,some (.tok (R.1.kids.map Pat.cc).length 6))] (ra ty47) (.agg (.cons (.eqd ?_) (.cons (.eqd ?_) (.cons (.eqd ?_) (.cons (.eqd ?_) (.cons (.eqd ?_) (.cons (.gtg ?_) .nil))))))) ⟨I,I⟩ (SubO.get ⟨.inr ?_,⟨.inr ?_,⟨.inl I,O⟩⟩⟩) (zao I));rotate_left 8;refine wd zgh hct I I ⟨I,O⟩ ?_;refine bu [0,1] [_,_] st47 ?_;refine ab 902 tz47 ?_;refine so ty47 ?_;apply tv;apply sq<;>intro h15 h15p h15s<;>(try simp only[Q,xal] at h15p);refine xaH 902 5 5 6 I I I I (evc [63] [] (Walk.call (cr:=[]) zfA (hag ol) I .none I I (LeL.refl _) O I og od ?_));refine xbF (xs:=[_,_,_]) I .none I I (xbA [5] [7] zgi (hkids ol) I .none I I (LeL.refl _) ⟨I,I,I,I,I,O⟩ I od ?_);refine dr ?_;first|(refine xaK 902 5 7 61 I I I I ?_)|(refine xaH 902 5 61 6 I I I I ?_)
  refine evc [63] [] (so ty47 ?_);apply tv;refine CWp.ret (rn [(901,some (.box (rdC w R.2))),(61,some (.tok (R.1.kids.map Pat.cc).length 6))] (ra ty47) (.agg (.cons (.eqd ?_) (.cons (.eqd ?_) (.cons (.eqd ?_) (.cons (.eqd ?_) (.cons (.eqd ?_) (.cons (.gtg ?_) .nil))))))) ⟨I,I⟩ (SubO.get ⟨.inr ?_,⟨.inr ?_,⟨.inl I,O⟩⟩⟩) (zao I));rotate_left 8;first|(refine xaK 902 5 7 61 I I I I ?_)|(refine xaH 902 5 61 6 I I I I ?_)
  refine evc [63] [] (so ty47 ?_);apply tv;refine CWp.ret (rn [(901,some (.box (rdC w R.2))),(61,some (.tok (R.1.kids.map Pat.cc).length 6))] (ra ty47) (.agg (.cons (.eqd ?_) (.cons (.eqd ?_) (.cons (.eqd ?_) (.cons (.eqd ?_) (.cons (.eqd ?_) (.cons (.gtg ?_) .nil))))))) ⟨I,I⟩ (SubO.get ⟨.inr ?_,⟨.inr ?_,⟨.inl I,O⟩⟩⟩) (zao I));rotate_left 8;refine sqF ?_;apply sq<;>intro h17 h17p h17s<;>(try simp only[Q,xal] at h17p);apply sq<;>intro h18 h18p h18s<;>(try simp only[Q,xal] at h18p);refine wd zgg (zbp (w:=w) (r:=r)) I I ⟨I,O⟩ ?_;refine evs [63] [] (bu [0,2,3] [_,_,_] st47 ?_);refine ab 3010 tz47 ?_;refine so ty47 ?_;apply tv;refine wd zei (za2 (w:=w) (r:=digR r)) I I ⟨I,O⟩ ?_;refine evs [63] [] ?_;apply sq<;>intro h19 h19p h19s<;>(try simp only[Q,xal] at h19p);refine wd zcf (zaE (w:=w) (r:=digR r)) I I ⟨I,O⟩ ?_;apply tv;refine wd zgg (zbp (w:=w) (r:=oneR (digR r))) I I ⟨I,O⟩ ?_;refine evs [63] [] (so ty3 ?_);apply tv;apply sq<;>intro h20 h20p h20s<;>(try simp only[Q,xal] at h20p);refine so ty4 ?_;refine dr (so ty47 ?_);apply tv;first|(refine xaH 3006 5 61 6 I I I I ?_)|(refine xaK 3006 5 62 61 I I I I ?_)|(refine xaC hk 3006 5 63 61 [[.i _,.i _,.i _,.i _,.i _,.sl _],[.i _,.i _,.i _,.i _,.i _,.sl _]] I I (.sc I (.sc I (.sc I (.sc I (.sc I (.gt I I (.sc I (.sc I (.sc I (.sc I (.sc I (.gt I I .nil)))))))))))) I om I oi I I I ?_)
  refine CWp.ret (rn [(901,some (.box (rdC w R.2))),(61,some (.tok (R.1.kids.map Pat.cc).length 6))] (ra ty47) (.agg (.cons (.eqd ?_) (.cons (.eqd ?_) (.cons (.eqd ?_) (.cons (.eqd ?_) (.cons (.eqd ?_) (.cons (.gtg ?_) .nil))))))) ⟨I,I⟩ (SubO.get ⟨.inr ?_,⟨.inr ?_,⟨.inl I,O⟩⟩⟩) (zao I));rotate_left 8;refine so ty4 ?_;refine dr (so ty47 ?_);apply tv;first|(refine xaH 3006 5 61 6 I I I I ?_)|(refine xaK 3006 5 62 61 I I I I ?_)|(refine xaC hk 3006 5 63 61 [[.i _,.i _,.i _,.i _,.i _,.sl _],[.i _,.i _,.i _,.i _,.i _,.sl _]] I I (.sc I (.sc I (.sc I (.sc I (.sc I (.gt I I (.sc I (.sc I (.sc I (.sc I (.sc I (.gt I I .nil)))))))))))) I om I oi I I I ?_)
  refine CWp.ret (rn [(901,some (.box (rdC w R.2))),(61,some (.tok (R.1.kids.map Pat.cc).length 6))] (ra ty47) (.agg (.cons (.eqd ?_) (.cons (.eqd ?_) (.cons (.eqd ?_) (.cons (.eqd ?_) (.cons (.eqd ?_) (.cons (.gtg ?_) .nil))))))) ⟨I,I⟩ (SubO.get ⟨.inr ?_,⟨.inr ?_,⟨.inl I,O⟩⟩⟩) (zao I));rotate_left 8;refine so ty47 ?_;apply tv;first|(refine xaH 3006 5 61 6 I I I I ?_)|(refine xaK 3006 5 62 61 I I I I ?_)|(refine xaC hk 3006 5 63 61 [[.i _,.i _,.i _,.i _,.i _,.sl _],[.i _,.i _,.i _,.i _,.i _,.sl _]] I I (.sc I (.sc I (.sc I (.sc I (.sc I (.gt I I (.sc I (.sc I (.sc I (.sc I (.sc I (.gt I I .nil)))))))))))) I om I oi I I I ?_)
  refine CWp.ret (rn [(901,some (.box (rdC w R.2))),(61,some (.tok (R.1.kids.map Pat.cc).length 6))] (ra ty47) (.agg (.cons (.eqd ?_) (.cons (.eqd ?_) (.cons (.eqd ?_) (.cons (.eqd ?_) (.cons (.eqd ?_) (.cons (.gtg ?_) .nil))))))) ⟨I,I⟩ (SubO.get ⟨.inr ?_,⟨.inr ?_,⟨.inl I,O⟩⟩⟩) (zao I));rotate_left 8;apply sq<;>intro h21 h21p h21s<;>(try simp only[Q,xal] at h21p);refine wd zcf (zaE (w:=w) (r:=r)) I I ⟨I,O⟩ ?_;apply tv;refine ar (Walk.call (cr:=[61]) zb1 p2 I .none I I (LeL.refl _) ⟨I,O⟩ I og od ?_);refine Walk.alloc (id:=3011) tz47 I .none I od od od ?_;refine so ty47 ?_;apply tv;refine CWp.kill [123] ?_;refine xaK 3011 5 61 62 I I I I ?_;refine evc [63] [] (Walk.call (cr:=[]) zb2 (zaz (w:=w) (r:=(patR w n ⟨a,k⟩ (oneR r)).2) (b:=124)) I .none I I (LeL.refl _) ⟨I,O⟩ I og od ?_);apply tv;refine ar (xbA [] [61] zb1 p3 I .none I I (LeL.refl _) ⟨I,O⟩ I od ?_);refine Walk.alloc (id:=3012) tz47 I .none I od od od ?_;refine so ty47 ?_;apply tv;refine CWp.kill [130] ?_;refine xaK 3012 5 61 65 I I I I ?_;refine evc [63] [] (Walk.call (cr:=[]) zb2 (zaz (w:=w) (r:=(patR w n ⟨a,k⟩ (zaP (patR w n ⟨a,k⟩ (oneR r)).2 124)).2) (b:=41)) I .none I I (LeL.refl _) ⟨I,O⟩ I og od ?_);apply tv;refine xb5 63 [62,65] sl45 tz47 I oi (ks:=[0,1]) (xs:=[_,_]) I I oi oi .none I I I I I I od ?_;refine bu [0,5] [_,_] st47 ?_;refine so ty47 ?_;apply tv;first|(refine xaH 3006 5 61 6 I I I I ?_)|(refine xaK 3006 5 62 61 I I I I ?_)|(refine xaC hk 3006 5 63 61 [[.i _,.i _,.i _,.i _,.i _,.sl _],[.i _,.i _,.i _,.i _,.i _,.sl _]] I I (.sc I (.sc I (.sc I (.sc I (.sc I (.gt I I (.sc I (.sc I (.sc I (.sc I (.sc I (.gt I I .nil)))))))))))) I om I oi I I I ?_)
  refine CWp.ret (rn [(901,some (.box (rdC w R.2))),(61,some (.tok (R.1.kids.map Pat.cc).length 6))] (ra ty47) (.agg (.cons (.eqd ?_) (.cons (.eqd ?_) (.cons (.eqd ?_) (.cons (.eqd ?_) (.cons (.eqd ?_) (.cons (.gtg ?_) .nil))))))) ⟨I,I⟩ (SubO.get ⟨.inr ?_,⟨.inr ?_,⟨.inl I,O⟩⟩⟩) (zao I));rotate_left 8;refine wd zgh hct I I ⟨I,O⟩ ?_;refine bu [0,1] [_,_] st47 ?_;refine ab 902 tz47 ?_;refine so ty47 ?_;apply tv;apply sq<;>intro h22 h22p h22s<;>(try simp only[Q,xal] at h22p);refine xaH 902 5 5 6 I I I I (evc [63] [] (Walk.call (cr:=[]) zfA (hag ol) I .none I I (LeL.refl _) O I og od ?_));refine xbF (xs:=[_,_,_]) I .none I I (xbA [5] [7] zgi (hkids ol) I .none I I (LeL.refl _) ⟨I,I,I,I,I,O⟩ I od ?_);refine dr ?_;first|(refine xaK 902 5 7 61 I I I I ?_)|(refine xaH 902 5 61 6 I I I I ?_)
  refine evc [63] [] (so ty47 ?_);apply tv;refine CWp.ret (rn [(901,some (.box (rdC w R.2))),(61,some (.tok (R.1.kids.map Pat.cc).length 6))] (ra ty47) (.agg (.cons (.eqd ?_) (.cons (.eqd ?_) (.cons (.eqd ?_) (.cons (.eqd ?_) (.cons (.eqd ?_) (.cons (.gtg ?_) .nil))))))) ⟨I,I⟩ (SubO.get ⟨.inr ?_,⟨.inr ?_,⟨.inl I,O⟩⟩⟩) (zao I));rotate_left 8;first|(refine xaK 902 5 7 61 I I I I ?_)|(refine xaH 902 5 61 6 I I I I ?_)
  refine evc [63] [] (so ty47 ?_);apply tv;refine CWp.ret (rn [(901,some (.box (rdC w R.2))),(61,some (.tok (R.1.kids.map Pat.cc).length 6))] (ra ty47) (.agg (.cons (.eqd ?_) (.cons (.eqd ?_) (.cons (.eqd ?_) (.cons (.eqd ?_) (.cons (.eqd ?_) (.cons (.gtg ?_) .nil))))))) ⟨I,I⟩ (SubO.get ⟨.inr ?_,⟨.inr ?_,⟨.inl I,O⟩⟩⟩) (zao I));rotate_left 8;refine sqF ?_;apply sq<;>intro h24 h24p h24s<;>(try simp only[Q,xal] at h24p);refine wd zcf (zaE (w:=w) (r:=r)) I I ⟨I,O⟩ ?_;apply tv;refine ar (Walk.call (cr:=[61]) zb1 p2 I .none I I (LeL.refl _) ⟨I,O⟩ I og od ?_);refine Walk.alloc (id:=3011) tz47 I .none I od od od ?_;refine so ty47 ?_;apply tv;refine CWp.kill [123] ?_;refine xaK 3011 5 61 62 I I I I ?_;refine evc [63] [] (Walk.call (cr:=[]) zb2 (zaz (w:=w) (r:=(patR w n ⟨a,k⟩ (oneR r)).2) (b:=124)) I .none I I (LeL.refl _) ⟨I,O⟩ I og od ?_);apply tv;refine ar (xbA [] [61] zb1 p3 I .none I I (LeL.refl _) ⟨I,O⟩ I od ?_);refine Walk.alloc (id:=3012) tz47 I .none I od od od ?_;refine so ty47 ?_;apply tv;refine CWp.kill [130] ?_;refine xaK 3012 5 61 65 I I I I ?_;refine evc [63] [] (Walk.call (cr:=[]) zb2 (zaz (w:=w) (r:=(patR w n ⟨a,k⟩ (zaP (patR w n ⟨a,k⟩ (oneR r)).2 124)).2) (b:=41)) I .none I I (LeL.refl _) ⟨I,O⟩ I og od ?_);apply tv;refine xb5 63 [62,65] sl45 tz47 I oi (ks:=[0,1]) (xs:=[_,_]) I I oi oi .none I I I I I I od ?_;refine bu [0,5] [_,_] st47 ?_;refine so ty47 ?_;apply tv;first|(refine xaH 3006 5 61 6 I I I I ?_)|(refine xaK 3006 5 62 61 I I I I ?_)|(refine xaC hk 3006 5 63 61 [[.i _,.i _,.i _,.i _,.i _,.sl _],[.i _,.i _,.i _,.i _,.i _,.sl _]] I I (.sc I (.sc I (.sc I (.sc I (.sc I (.gt I I (.sc I (.sc I (.sc I (.sc I (.sc I (.gt I I .nil)))))))))))) I om I oi I I I ?_)
  refine CWp.ret (rn [(901,some (.box (rdC w R.2))),(61,some (.tok (R.1.kids.map Pat.cc).length 6))] (ra ty47) (.agg (.cons (.eqd ?_) (.cons (.eqd ?_) (.cons (.eqd ?_) (.cons (.eqd ?_) (.cons (.eqd ?_) (.cons (.gtg ?_) .nil))))))) ⟨I,I⟩ (SubO.get ⟨.inr ?_,⟨.inr ?_,⟨.inl I,O⟩⟩⟩) (zao I));rotate_left 8;refine wd zgh hct I I ⟨I,O⟩ ?_;refine bu [0,1] [_,_] st47 ?_;refine ab 902 tz47 ?_;refine so ty47 ?_;apply tv;apply sq<;>intro h25 h25p h25s<;>(try simp only[Q,xal] at h25p);refine xaH 902 5 5 6 I I I I (evc [63] [] (Walk.call (cr:=[]) zfA (hag ol) I .none I I (LeL.refl _) O I og od ?_));refine xbF (xs:=[_,_,_]) I .none I I (xbA [5] [7] zgi (hkids ol) I .none I I (LeL.refl _) ⟨I,I,I,I,I,O⟩ I od ?_);refine dr ?_;first|(refine xaK 902 5 7 61 I I I I ?_)|(refine xaH 902 5 61 6 I I I I ?_)
  refine evc [63] [] (so ty47 ?_);apply tv;refine CWp.ret (rn [(901,some (.box (rdC w R.2))),(61,some (.tok (R.1.kids.map Pat.cc).length 6))] (ra ty47) (.agg (.cons (.eqd ?_) (.cons (.eqd ?_) (.cons (.eqd ?_) (.cons (.eqd ?_) (.cons (.eqd ?_) (.cons (.gtg ?_) .nil))))))) ⟨I,I⟩ (SubO.get ⟨.inr ?_,⟨.inr ?_,⟨.inl I,O⟩⟩⟩) (zao I));rotate_left 8;first|(refine xaK 902 5 7 61 I I I I ?_)|(refine xaH 902 5 61 6 I I I I ?_)
  refine evc [63] [] (so ty47 ?_);apply tv;refine CWp.ret (rn [(901,some (.box (rdC w R.2))),(61,some (.tok (R.1.kids.map Pat.cc).length 6))] (ra ty47) (.agg (.cons (.eqd ?_) (.cons (.eqd ?_) (.cons (.eqd ?_) (.cons (.eqd ?_) (.cons (.eqd ?_) (.cons (.gtg ?_) .nil))))))) ⟨I,I⟩ (SubO.get ⟨.inr ?_,⟨.inr ?_,⟨.inl I,O⟩⟩⟩) (zao I));rotate_left 8;all_goals (first|((first|(rw[q0 oe];all_goals first|rfl|exact(za1 _).symm|exact(za4 _ _).symm|exact⟨rfl,(za1 _).symm⟩|exact⟨rfl,(za4 _ _).symm⟩|(rw[zba oe oe];all_goals rfl)|(show some (Res.box [_,_,_])=some (Res.box [_,_,_]);simp[*];done)|(show some (Res.box [_,_,_])=some (Res.box [_,_,_]);simp_all;done))|(rw[q1 oe];all_goals first|rfl|exact(za1 _).symm|exact(za4 _ _).symm|exact⟨rfl,(za1 _).symm⟩|exact⟨rfl,(za4 _ _).symm⟩|(rw[zba oe oe];all_goals rfl)|(show some (Res.box [_,_,_])=some (Res.box [_,_,_]);simp[*];done)|(show some (Res.box [_,_,_])=some (Res.box [_,_,_]);simp_all;done))|(rw[q2 oe oe oe];all_goals first|rfl|exact(za1 _).symm|exact(za4 _ _).symm|exact⟨rfl,(za1 _).symm⟩|exact⟨rfl,(za4 _ _).symm⟩|(rw[zba oe oe];all_goals rfl)|(show some (Res.box [_,_,_])=some (Res.box [_,_,_]);simp[*];done)|(show some (Res.box [_,_,_])=some (Res.box [_,_,_]);simp_all;done))|(rw[q3 oe oe oe];all_goals first|rfl|exact(za1 _).symm|exact(za4 _ _).symm|exact⟨rfl,(za1 _).symm⟩|exact⟨rfl,(za4 _ _).symm⟩|(rw[zba oe oe];all_goals rfl)|(show some (Res.box [_,_,_])=some (Res.box [_,_,_]);simp[*];done)|(show some (Res.box [_,_,_])=some (Res.box [_,_,_]);simp_all;done))|(rw[q4 oe oe oe];all_goals first|rfl|exact(za1 _).symm|exact(za4 _ _).symm|exact⟨rfl,(za1 _).symm⟩|exact⟨rfl,(za4 _ _).symm⟩|(rw[zba oe oe];all_goals rfl)|(show some (Res.box [_,_,_])=some (Res.box [_,_,_]);simp[*];done)|(show some (Res.box [_,_,_])=some (Res.box [_,_,_]);simp_all;done))|(rw[q5 oe oe oe];all_goals first|rfl|exact(za1 _).symm|exact(za4 _ _).symm|exact⟨rfl,(za1 _).symm⟩|exact⟨rfl,(za4 _ _).symm⟩|(rw[zba oe oe];all_goals rfl)|(show some (Res.box [_,_,_])=some (Res.box [_,_,_]);simp[*];done)|(show some (Res.box [_,_,_])=some (Res.box [_,_,_]);simp_all;done))|(rw[q6 oe];all_goals first|rfl|exact(za1 _).symm|exact(za4 _ _).symm|exact⟨rfl,(za1 _).symm⟩|exact⟨rfl,(za4 _ _).symm⟩|(rw[zba oe oe];all_goals rfl)|(show some (Res.box [_,_,_])=some (Res.box [_,_,_]);simp[*];done)|(show some (Res.box [_,_,_])=some (Res.box [_,_,_]);simp_all;done))|(rw[q7 oe oe oe oe oe ol];all_goals first|rfl|exact(za1 _).symm|exact(za4 _ _).symm|exact⟨rfl,(za1 _).symm⟩|exact⟨rfl,(za4 _ _).symm⟩|(rw[zba oe oe];all_goals rfl)|(show some (Res.box [_,_,_])=some (Res.box [_,_,_]);simp[*];done)|(show some (Res.box [_,_,_])=some (Res.box [_,_,_]);simp_all;done))|(rw[q8 oe oe oe oe oe ol];all_goals first|rfl|exact(za1 _).symm|exact(za4 _ _).symm|exact⟨rfl,(za1 _).symm⟩|exact⟨rfl,(za4 _ _).symm⟩|(rw[zba oe oe];all_goals rfl)|(show some (Res.box [_,_,_])=some (Res.box [_,_,_]);simp[*];done)|(show some (Res.box [_,_,_])=some (Res.box [_,_,_]);simp_all;done)));done)|(first|(rw[q0 oe];all_goals first|rfl|exact(za1 _).symm|exact(za4 _ _).symm|exact⟨rfl,(za1 _).symm⟩|exact⟨rfl,(za4 _ _).symm⟩|(rw[zba oe oe];all_goals rfl)|(show some (Res.box [_,_,_])=some (Res.box [_,_,_]);simp[*];done)|(show some (Res.box [_,_,_])=some (Res.box [_,_,_]);simp_all;done))|(rw[q1 oe];all_goals first|rfl|exact(za1 _).symm|exact(za4 _ _).symm|exact⟨rfl,(za1 _).symm⟩|exact⟨rfl,(za4 _ _).symm⟩|(rw[zba oe oe];all_goals rfl)|(show some (Res.box [_,_,_])=some (Res.box [_,_,_]);simp[*];done)|(show some (Res.box [_,_,_])=some (Res.box [_,_,_]);simp_all;done))|(rw[q2 oe oe oe];all_goals first|rfl|exact(za1 _).symm|exact(za4 _ _).symm|exact⟨rfl,(za1 _).symm⟩|exact⟨rfl,(za4 _ _).symm⟩|(rw[zba oe oe];all_goals rfl)|(show some (Res.box [_,_,_])=some (Res.box [_,_,_]);simp[*];done)|(show some (Res.box [_,_,_])=some (Res.box [_,_,_]);simp_all;done))|(rw[q3 oe oe oe];all_goals first|rfl|exact(za1 _).symm|exact(za4 _ _).symm|exact⟨rfl,(za1 _).symm⟩|exact⟨rfl,(za4 _ _).symm⟩|(rw[zba oe oe];all_goals rfl)|(show some (Res.box [_,_,_])=some (Res.box [_,_,_]);simp[*];done)|(show some (Res.box [_,_,_])=some (Res.box [_,_,_]);simp_all;done))|(rw[q4 oe oe oe];all_goals first|rfl|exact(za1 _).symm|exact(za4 _ _).symm|exact⟨rfl,(za1 _).symm⟩|exact⟨rfl,(za4 _ _).symm⟩|(rw[zba oe oe];all_goals rfl)|(show some (Res.box [_,_,_])=some (Res.box [_,_,_]);simp[*];done)|(show some (Res.box [_,_,_])=some (Res.box [_,_,_]);simp_all;done))|(rw[q5 oe oe oe];all_goals first|rfl|exact(za1 _).symm|exact(za4 _ _).symm|exact⟨rfl,(za1 _).symm⟩|exact⟨rfl,(za4 _ _).symm⟩|(rw[zba oe oe];all_goals rfl)|(show some (Res.box [_,_,_])=some (Res.box [_,_,_]);simp[*];done)|(show some (Res.box [_,_,_])=some (Res.box [_,_,_]);simp_all;done))|(rw[q6 oe];all_goals first|rfl|exact(za1 _).symm|exact(za4 _ _).symm|exact⟨rfl,(za1 _).symm⟩|exact⟨rfl,(za4 _ _).symm⟩|(rw[zba oe oe];all_goals rfl)|(show some (Res.box [_,_,_])=some (Res.box [_,_,_]);simp[*];done)|(show some (Res.box [_,_,_])=some (Res.box [_,_,_]);simp_all;done))|(rw[q7 oe oe oe oe oe ol];all_goals first|rfl|exact(za1 _).symm|exact(za4 _ _).symm|exact⟨rfl,(za1 _).symm⟩|exact⟨rfl,(za4 _ _).symm⟩|(rw[zba oe oe];all_goals rfl)|(show some (Res.box [_,_,_])=some (Res.box [_,_,_]);simp[*];done)|(show some (Res.box [_,_,_])=some (Res.box [_,_,_]);simp_all;done))|(rw[q8 oe oe oe oe oe ol];all_goals first|rfl|exact(za1 _).symm|exact(za4 _ _).symm|exact⟨rfl,(za1 _).symm⟩|exact⟨rfl,(za4 _ _).symm⟩|(rw[zba oe oe];all_goals rfl)|(show some (Res.box [_,_,_])=some (Res.box [_,_,_]);simp[*];done)|(show some (Res.box [_,_,_])=some (Res.box [_,_,_]);simp_all;done))))
theorem zfP (x c:UInt8) (r:Str):Lib.indexByte (x::r) c=if x=c then 0 else if Lib.indexByte r c = -1 then -1 else Lib.indexByte r c+1:=by
 have e:Lib.indexByte (x::r) c=if (x == c)=true then 0 else if (Lib.indexByte r c == -1)=true then -1 else Lib.indexByte r c+1:=rfl
 rw[e];by_cases h:x=c
 ·simp[h]
 ·rw[if_neg (by simpa using h),if_neg h];by_cases h2:Lib.indexByte r c = -1
  ·rw[if_pos (by simpa using h2),if_pos h2]
  ·rw[if_neg (by simpa using h2),if_neg h2]
theorem ziD (c:UInt8):∀(s cur:Str),(Lib.indexByte s c = -1/\cutL c cur s=[cur++s]/\Lib.countByte s c=0)\/
  ∃k:Nat,Lib.indexByte s c=(k:Int)/\k<s.length/\cutL c cur s=(cur++s.take k)::cutL c [] (s.drop (k+1))/\Lib.countByte s c=Lib.countByte (s.drop (k+1)) c+1
 | [],cur=> .inl ⟨rfl,by simp[cutL],rfl⟩
 |x::r,cur=>by
  rw[zfP];by_cases h:x=c
  ·right
   refine⟨0,by rw[if_pos h];rfl,by simp,by rw[cutL,if_pos h];simp, ?_⟩;unfold Lib.countByte;rw[List.count_cons];simp[h]
  ·rw[if_neg h,cutL,if_neg h];have hc:Lib.countByte (x::r) c=Lib.countByte r c:=by
    unfold Lib.countByte;rw[List.count_cons,if_neg (by simpa using h),Nat.add_zero]
   rw[hc];rcases ziD c r (cur++[x]) with ⟨h1,h2,h3⟩|⟨k,h1,h2,h3,h4⟩
   ·exact .inl ⟨by rw[if_pos h1],by rw[h2];simp,h3⟩
   ·refine .inr ⟨k+1, ?_,by simp;omega,by rw[h3];simp,by rw[h4];simp⟩;rw[if_neg oe,h1];omega
theorem zor (c:UInt8) (s:Str):Lib.countByte s c<=s.length:=List.count_le_length
def spB (n:Nat) (done:List Str):List AV:=done.map (fun s=> .d (.str s))++List.replicate (n-done.length) (.d (.str []))
theorem zeX (n:Nat) (done:List Str):AV.idsL (spB n done)=[]:=by
 unfold spB;induction done with
 |nil=>
  simp only[List.map_nil,List.nil_append,xak,Nat.sub_zero];induction n with
  |zero=>rfl
  |succ n ih=>rw[List.replicate_succ,AV.idsL,ih];rfl
 |cons x r ih=>
  simp only[xaf,xai,AV.idsL,AV.ids,List.nil_append];have key:∀(l:List Str) (m:Nat),AV.idsL (l.map (fun s=>AV.d (.str s))++List.replicate m (.d (.str [])))=[]:=fun l m=>by
   induction l with
   |nil=>induction m with
    |zero=>rfl
    |succ n ih=>rw[List.map_nil,List.nil_append] at ih ⊢;rw[List.replicate_succ,AV.idsL,ih];rfl
   |cons x r ih=>rw[xaf,xai,AV.idsL,ih];rfl
  exact key _ _
theorem zoe:∀(n:Nat),zaV n [.d (.str [])]=spB n []
 |0=>rfl
 |n+1=>by
  have ih:=zoe n;unfold spB at ih ⊢;simp only[List.map_nil,List.nil_append,xak,Nat.sub_zero] at ih ⊢;rw[zaV,ih,List.replicate_succ];rfl
theorem znF {n i:Nat}{done:List Str}{p:Str} (hi:i=done.length) (h:i<n):putC (spB n done) i [.d (.str p)]=some (spB n (done++[p])):=by
 subst hi;unfold spB;have e:n-done.length=(n-(done++[p]).length)+1:=by simp;omega
 rw[e,List.replicate_succ,xag,xar];have key:∀(a b:List AV) (x v:AV),putC (a++x::b) a.length [v]=some (a++v::b):=by
  intro a;induction a with
  |nil=>intro b x v;simp only[List.nil_append,xak,putC]
  |cons y r ih=>intro b x v;simp only[xai,xab,putC,ih]
 have:=key (done.map fun s=>AV.d (.str s)) (List.replicate (n-(done++[p]).length) (.d (.str []))) (.d (.str [])) (.d (.str p));rw[xac] at this;exact this
theorem zpc {n m:Nat}{done:List Str} (hn:n=done.length) (hm:m=done.length):zcl m 1 (spB n done)=some (done.map fun s=>[.str s]):=by
 subst hn hm;unfold spB;rw[Nat.sub_self,List.replicate_zero,xaq];have h:=ze2 (f:=fun s:Str=>[D.str s]) (k:=1) (l:=done) (fun _ _=>rfl);have e:(done.flatMap fun x=>([D.str x]).map AV.d)=done.map fun s=>AV.d (.str s):=by
  clear h;induction done with
  |nil=>rfl
  |cons x r ih=>rw[List.flatMap_cons,ih];rfl
 rw[e] at h;exact h
def cutB (c:UInt8) (s:Str):Str×Str×Bool:=if Lib.indexByte s c<0 then (s,[],false) else (s.take (Lib.indexByte s c).toNat,s.drop ((Lib.indexByte s c).toNat+1),true)
theorem zkA {c:UInt8}{s:Str} (h:Lib.indexByte s c<0):cutB c s=(s,[],false):=if_pos h
theorem zja {c:UInt8}{s:Str}{k:Nat} (h:Lib.indexByte s c=(k:Int)):cutB c s=(s.take k,s.drop (k+1),true):=by
 unfold cutB;rw[if_neg oe,h];rfl
theorem zhI {s:Str}{c:UInt8}:Ext2 Tryz.prog 124 (.str s) (.int .u8 (c.toNat:Int)) (.i (Lib.indexByte s c)):=
 Ext2.index (fn:=Tryz.f124) rfl oi rfl oj oj
theorem zjN {s:Str}{c:UInt8}:Ext2 Tryz.prog 109 (.str s) (.int .u8 (c.toNat:Int)) (.i ((Lib.countByte s c:Nat):Int)):=
 Ext2.count (fn:=Tryz.f109) rfl oi rfl oj oj
theorem zga {s:Str}{c:UInt8}:FnD Tryz.prog 110 [.d (.str s),.d (.int .u8 (c.toNat:Int))] [] (.d (.i (Lib.indexByte s c))) []:=by
 refine bd Tryz.f110 8 [] [] fun _ _ _ _ hk=>?_;refine Walk.ext2 zhI I .none I I I (ev ?_);focus (refine rq ?_;all_goals (first|rfl|(simp[];done)|(simp_all;done)|(simp_all;omega)|omega))
theorem zqK {c:UInt8}:Lib.indexByte [c] c=0:=by rw[zfP,if_pos rfl]
theorem zdt {s q:Str}{c:UInt8} (hq:q.length=1) (h0:q[0]?=some c):FnD Tryz.prog 79 [.d (.str s),.d (.str q)] [] (.d (.i (Lib.indexByte s c))) []:=by
 have hs:q=s->Lib.indexByte s c=0:=fun e=>by
  subst e;match q,hq,h0 with
  | [x],_,h=>simp at h;subst h;exact zqK
 refine bd Tryz.f79 143 [] [] fun _ _ _ _ hk=>?_;apply sq<;>intro h1 h1p h1s<;>(try simp only[Q] at h1p);exfalso;omega;apply sq<;>intro h2 h2p h2s<;>(try simp only[Q] at h2p);refine rq ?_;rotate_left;apply sq<;>intro h3 h3p h3s<;>(try simp only[Q] at h3p);refine xbO (i:=0) un9 .none I I I I h0 (wc zq3 zga I I ?_);refine ev (rq ?_);rotate_left;exfalso;omega;all_goals (first|rfl|(rw[hs ol];done))
theorem zkq {s q:Str}{c:UInt8} (hq:q.length=1) (h0:q[0]?=some c):FnD Tryz.prog 78 [.d (.str s),.d (.str q)] [] (.d (.i (Lib.indexByte s c))) []:=by
 refine bd Tryz.f78 8 [] [] fun _ _ _ _ hk=>?_;refine wc znT (zdt hq h0) I I ?_;refine ev ?_;focus (refine rq ?_;all_goals (first|rfl|(simp[];done)|(simp_all;done)|(simp_all;omega)|omega))
theorem zkp {s q:Str}{c:UInt8} (hq:q.length=1) (h0:q[0]?=some c):FnD Tryz.prog 77 [.d (.str s),.d (.str q)] [] (.d (.i ((Lib.countByte s c:Nat):Int))) []:=by
 refine bd Tryz.f77 34 [] [] fun _ _ _ _ hk=>?_;apply sq<;>intro h1 h1p h1s<;>(try simp only[Q] at h1p);exfalso;omega;apply sq<;>intro h2 h2p h2s<;>(try simp only[Q] at h2p);refine xbO (i:=0) un9 .none I I I I h0 (Walk.ext2 zjN I .none I I I (ev ?_));focus (refine rq ?_;all_goals (first|rfl|(simp[h1s,h1p,h2s,h2p];done)|(simp_all;done)|(simp_all;omega)|omega))
 exfalso;omega
theorem ov{p:Prop}(h:p:=by first|rfl|(simp only[zae,occH,occE,Res.ids,xai,List.nil_append,AV.idsL,AV.ids,zab,zaa,zad,zai,xaf,List.map_nil,upC,zeX];rfl)):p:=h
theorem ziu {s q:Str}{c:UInt8} (hs:s.length<=1048576) (hq:q.length=1) (h0:q[0]?=some c) (hne:¬q=[]):FnD Tryz.prog 48 [.d (.str s),.d (.str q),.d (.i 0),.d (.i (-1))] [] (.d (zeN (cutL c [] s))) []:=by
 have hci:=fun(s:Str)=>ziD c s [];have hcl:=zor c s;generalize hN:Lib.countByte s c=N at *;have hct:=zkp (s:=s) hq h0;rw[hN] at hct;have hk5:∀x:List Str×Str,x.1.length+Lib.countByte x.2 c=N->(¬Lib.indexByte x.2 c<0\/x.1.length<N)->∃k:Nat,Lib.indexByte x.2 c=(k:Int)/\k<x.2.length/\cutL c [] x.2=x.2.take k::cutL c [] (x.2.drop (k+1))/\Lib.countByte x.2 c=Lib.countByte (x.2.drop (k+1)) c+1:=fun x h h2=>by
  rcases hci x.2 with ⟨e1,e2,e3⟩|⟨k,e1,e2,e3,e4⟩
  ·exfalso;omega
  ·exact⟨k,e1,e2,e3,e4⟩
 have hk0:∀x:List Str×Str,x.1.length+Lib.countByte x.2 c=N->¬x.1.length<N->cutL c [] x.2=[x.2]:=fun x h h2=>by
  rcases hci x.2 with ⟨e1,e2,e3⟩|⟨k,e1,e2,e3,e4⟩
  ·exact e2
  ·exfalso;omega
 clear hci;have hmin:(if (s.length:Int)+1<(N:Int)+1 then (s.length:Int)+1 else (N:Int)+1)=((N+1:Nat):Int):=by rw[if_neg oe];rfl
 refine bd Tryz.f48 66 [] [999999] fun _ _ _ _ hk=>?_;apply sq<;>intro h1 h1p h1s<;>(try simp only[Q,hmin] at h1p);exfalso;omega;apply sq<;>intro h2 h2p h2s<;>(try simp only[Q,hmin] at h2p);exfalso;exact absurd ol hne;apply sq<;>intro h3 h3p h3s<;>(try simp only[Q,hmin] at h3p);refine Walk.call (cr:=[]) zrT hct I .none I I (LeL.refl _) O I (by first|rfl|(simp only[zas,List.all_cons,List.all_nil,zaG,zay,AV.idsL,AV.ids,zab,zaa,xaf,List.map_nil,zeX];rfl)) ov ?_;refine ev (ar (ar (Walk.minI .none I I I (ev (xbU (id:=70) (m:=N+1) sl43 tz9 I oi (zcQ I) .none I (xam (fun z:Int=>some (AV.d (D.i z))) hmin) (xam (fun z:Int=>some (AV.d (D.i z))) hmin) ou ou ov ov ov ?_)))));refine ev (ar (xaD (ι:=List Str×Str) hk (fun x=>[(10,.d (.i (x.1.length:Int))),(0,.d (.str x.2))]) [11,34,35,36,37,38,39,40,41,42,43,44,45,46,47,48,49,50,51,52,53,54,55,56,57] (fun x=>[(70,some (.box (spB (N+1) x.1)))]) (fun x=>x.1.length+Lib.countByte x.2 c=N/\cutL c [] s=x.1++cutL c [] x.2/\x.2.length<=s.length) (fun x=>x.2.length) ([],s) ⟨by simpa using hN,by simp,Nat.le_refl _⟩ ⟨⟨_,I,xaT ?_⟩,⟨⟨_,I,xaU ?_⟩,O⟩⟩ ⟨?_,O⟩ (fun x=>rfl) (fun x hg1=>?_)));iterate 2 focus (first|rfl|(simp;done)|(simp_all;done)|omega)
 focus (first|rfl|(show some (Res.box _)=some (Res.box _);rw[zoe];all_goals rfl))
 refine evc [] [999999] ?_;apply sq<;>intro h4 h4p h4s<;>(try simp only[Q,hmin] at h4p);refine Walk.call (cr:=[]) zrU (zkq (s:=x.2) hq h0) I .none I I (LeL.refl _) O I (by first|rfl|(simp only[zas,List.all_cons,List.all_nil,zaG,zay,AV.idsL,AV.ids,zab,zaa,xaf,List.map_nil,zeX];rfl)) ov ?_;refine ev ?_;apply sq<;>intro h5 h5p h5s<;>(try simp only[Q,hmin] at h5p);exfalso;obtain⟨k,e1,e2,e3,e4⟩:=hk5 x hg1.1 (.inr oe);omega;obtain⟨k,e1,e2,e3,e4⟩:=hk5 x hg1.1 (.inl ol);refine ar (xbH (b:=k) un9 .none I I I oe oe ?_);refine xbN sl43 .none I I I I oe ?_;refine Walk.store ty9 .none I I I I I I oh ((znF (by simp;done) oe)) ?_;apply tv;refine ar (xbI (b:=k+1) un9 .none I I I oe oe ?_);refine ev (ar (xaj ((x.1++[x.2.take k],x.2.drop (k+1))) ⟨⟨by simp;omega,by rw[hg1.2.1,e3];simp,by simp;omega⟩,ot,sx ⟨⟨_,I,xaT ?_⟩,⟨⟨_,I,xaU ?_⟩,O⟩⟩ ⟨?_,O⟩⟩));iterate 2 focus (first|rfl|(simp;done)|(simp_all;done)|omega)
 focus (first|rfl|(show some (Res.box _)=some (Res.box _);rw[zoe];all_goals rfl))
 refine xbN sl43 .none I I I I oe ?_;refine Walk.store ty9 .none I I I I I I oh ((znF (by simp;done) oe)) ?_;apply tv;refine ar (Walk.cutM_h (b:=x.1.length+1) sl43 .none I I I oe oe ?_);refine ev (CWp.frz hk 8 70 _ _ I I (zpc ot (by simp;done)) I ?_);refine CWp.ret (rq ?_);rotate_left;exfalso;omega;all_goals (rw[hg1.2.1,hk0 x hg1.1 oe])
theorem zf9 {s:Str}{c:UInt8} (hs:s.length<=1048576):FnD Tryz.prog 23 [.d (.str s),.d (.str [c])] [] (.d (zeN (cutL c [] s))) []:=by
 refine bd Tryz.f23 8 [] [] fun _ _ _ _ hk=>?_;refine wc zrF (ziu hs I I oh) I I ?_;refine ev ?_;focus (refine rq ?_;all_goals (first|rfl|(simp[];done)|(simp_all;done)|(simp_all;omega)|omega))
theorem zi0 {s q:Str}{c:UInt8} (hs:s.length<=1048576) (hq:q.length=1) (h0:q[0]?=some c):FnD Tryz.prog 49 [.d (.str s),.d (.str q)] [] (.tup [.d (.str (cutB c s).1),.d (.str (cutB c s).2.1),.d (.bool (cutB c s).2.2)]) []:=by
 rcases ziD c s [] with ⟨e1,e2,e3⟩|⟨k,e1,e2,e3,e4⟩
 ·rw[zkA oe];refine bd Tryz.f49 23 [] [] fun _ _ _ _ hk=>?_;refine wc znT (zdt hq h0) I I ?_;refine ev ?_;apply sq<;>intro h1 h1p h1s<;>(try simp only[Q] at h1p);exfalso;omega;refine rn0 (.cons (.tmp I) (.cons (.tmp I) (.cons (.tmp I) .nil))) (.tup (qeee ?_ ?_ ?_));rotate_left 3;all_goals (rfl)
 ·rw[zja e1];refine bd Tryz.f49 23 [] [] fun _ _ _ _ hk=>?_;refine wc znT (zdt hq h0) I I ?_;refine ev ?_;apply sq<;>intro h1 h1p h1s<;>(try simp only[Q] at h1p);refine xbH (b:=k) un9 .none I I I oe oe ?_;refine evd [] [] (ar (xbI (b:=k+1) un9 .none I I I oe oe ?_));refine evd [] [] (dr (rn0 (.cons (.tmp I) (.cons (.tmp I) (.cons (.tmp I) .nil))) (.tup (qeee ?_ ?_ ?_))));rotate_left 3;exfalso;omega;all_goals (rfl)
theorem zg3 {s:Str}{c:UInt8} (hs:s.length<=1048576):FnD Tryz.prog 24 [.d (.str s),.d (.str [c])] [] (.tup [.d (.str (cutB c s).1),.d (.str (cutB c s).2.1),.d (.bool (cutB c s).2.2)]) []:=by
 refine bd Tryz.f24 13 [] [] fun _ _ _ _ hk=>?_;refine wc zrG (zi0 hs I I) I I ?_;refine ev (rn0 (.cons (.tmp I) (.cons (.tmp I) (.cons (.tmp I) .nil))) (.tup (qeee ?_ ?_ ?_)));rotate_left 3;all_goals (rfl)
def letV (n:Int):Str:=strN [IntKind.u8.wrap (97+IntKind.u8.wrap n)]
theorem zeT (n:Int):(letV n).length=1:=rfl
def zbD {α:Type} (f:Ty->α->Str):Bool->List Ty->List α->Str
 |b,t::ts,p::ps=>((if b=true then [40] else [44])++f t p)++zbD f false ts ps
 |_,_,_=>[]
theorem zks {α:Type} [Inhabited α]{f:Ty->α->Str}:∀(i:Nat){b:Bool}{ts:List Ty}{ks:List α},i<ts.length->i<ks.length->
  zbD f b (ts.take (i+1)) (ks.take (i+1))=zbD f b (ts.take i) (ks.take i)++((if b=true/\i=0 then [40] else [44])++f (nth ts i) (nth ks i))
 |_,_,[],_,h,_=>by simp at h
 |_,_,_::_,[],_,h=>by simp at h
 |0,b,t::ts,k::ks,_,_=>by
  simp only[List.take_succ_cons,List.take_zero,zbD,xaq,List.nil_append,and_true];rfl
 |i+1,b,t::ts,k::ks,h1,h2=>by
  have ih:=zks (f:=f) i (b:=false) (ts:=ts) (ks:=ks) (by simpa using h1) (by simpa using h2);rw[if_neg (fun h=>absurd h.1 oh)] at ih;have e:(if b=true/\i+1=0 then ([40]:Str) else [44])=[44]:=if_neg oe;rw[List.take_succ_cons,List.take_succ_cons,zbD,ih,List.take_succ_cons,List.take_succ_cons,zbD,e,xar ((if b=true then [40] else [44])++f t k)];rfl
theorem zlv:∀(l:List Pat) (i:Nat),Pats.size (l.take i)<=Pats.size l
 | [],i=>by simp
 |x::r,0=>by simp[Pats.size]
 |x::r,i+1=>by
  have:=zlv r i;rw[List.take_succ_cons,Pats.size,Pats.size];omega
theorem ziw {f:Ty->Pat->Str}:∀(b:Bool) (ts:List Ty) (ks:List Pat),(∀i,i<ts.length->i<ks.length->(f (nth ts i) (nth ks i)).length<=10*(nth ks i).size)->(zbD f b ts ks).length<=ks.length+10*Pats.size ks
 |_,[],ks,_=>by simp[zbD]
 |_,_::_,[],_=>by simp[zbD]
 |b,t::ts,k::ks,h=>by
  have ih:=ziw false ts ks (fun i h1 h2=>h (i+1) (by simpa using h1) (by simpa using h2));have h0:=h 0 oh oh;have h0':(f t k).length<=10*k.size:=h0;have h3:(if b=true then [(40:UInt8)] else [44]).length=1:=by split<;>rfl
  rw[zbD,xaa,xaa,Pats.size,h3];simp only[xab];omega
def zax (w:List Data):Nat->Ty->Pat->Str
 |0,_,_=>[]
 |n+1,t,p=>
  if p.op=1 then [95]
  else if p.op=2 then letV p.var
  else if p.op=3 then (if p.n=p.m then decV p.n else decV p.n++[45]++decV p.m)
  else if p.op=5 then [40]++zax w n t (nth p.kids 0)++[124]++zax w n t (nth p.kids 1)++[41]
  else if p.op=6 then letV p.var++[64]++zax w n t (nth p.kids 0)
  else (zbj w t p.ctor++zbD (zax w n) true (zan w t p.ctor) p.kids)++(if 0<(zan w t p.ctor).length then [41] else [])
theorem zjo {w:List Data} (hw:WT w) (hb:TB w){a k c:Int} (ht:TyIn w.length ⟨a,k⟩) (hc:c∈zaW w ⟨a,k⟩):(zbj w ⟨a,k⟩ c).length<=5/\(zan w ⟨a,k⟩ c).length<=3:=by
 obtain⟨d,rfl,hd,j,rfl,hj⟩:=zbw ht hc;have:=hb.cn (nth w d) (zaq hd) (nth (nth w d).ctors j) (zaq hj);refine⟨this.1, ?_⟩;unfold zan;simp only[xac];exact this.2.1
theorem zoU {w:List Data}{t:Ty}{p:Pat} (h:ownP w t p=true):(p.op=1\/p.op=2\/p.op=3\/p.op=5\/p.op=6\/p.op=4)/\((p.op=2\/p.op=6)->0<=p.var/\p.var<=5)/\(p.op=3->0<=p.n/\p.n<=p.m/\p.m<=9)/\(p.op=4->p.ctor∈zaW w t):=by
 unfold ownP at h;have h':=xas h;refine⟨?_,h'.1,fun h3=>?_,fun h4=>?_⟩
 ·rcases h'.2.2.2.2 with h|h|h|h|h|h<;>omega
 ·rcases h'.2.2.2.2 with h|h|h|h|h|h<;>omega
 ·rcases h'.2.2.2.2 with h|h|h|h|h|h
  all_goals first|exact h.2|omega
theorem zg4 {w:List Data}{t:Ty}{p:Pat} (h:p.op=4):zaf w t p=zan w t p.ctor:=by unfold zaf;rw[if_pos h]
theorem ze0 {w:List Data}{t:Ty}{p:Pat} (h:p.op=5):zaf w t p=[t,t]:=by unfold zaf;rw[if_neg oe,if_pos h]
theorem zg5 {w:List Data}{t:Ty}{p:Pat} (h:p.op=6):zaf w t p=[t]:=by unfold zaf;rw[if_neg oe,if_neg oe,if_pos h]
theorem zmC {l:List Pat}{i:Nat} (h:i<l.length):(nth l i).size<=Pats.size l:=xbb (zaq h)
theorem zfm {w:List Data} (hw:WT w) (hb:TB w):∀(n:Nat){a k:Int}{p:Pat},zav w n ⟨a,k⟩ p=true->TyIn w.length ⟨a,k⟩->(zax w n ⟨a,k⟩ p).length<=10*p.size
 |0,a,k,p,h,_=>by simp[zav] at h
 |n+1,a,k,p,h,ht=>by
  obtain⟨ho,hl⟩:=zcc h;have hin:=zdf hw ht ho;obtain⟨o1,o2,o3,o4⟩:=zoU ho;have hk:∀i,i<p.kids.length->(zax w n (nth (zaf w ⟨a,k⟩ p) i) (nth p.kids i)).length<=10*(nth p.kids i).size:=fun i hi=>
   zfm hw hb n (a:=(nth (zaf w ⟨a,k⟩ p) i).data) (k:=(nth (zaf w ⟨a,k⟩ p) i).index) (zbC h hi) (hin _ (zaq oe))
  rw[xa4];unfold zax;split
  ·simp;omega
  split
  ·rw[zeT];omega
  split
  ·split
   ·rw[zeM];omega
   ·simp only[xaa,zeM,xab,xak];omega
  split
  ·rename_i h5;rw[ze0 h5] at hl hk;have hl2:p.kids.length=2:=hl;have k0:=hk 0 oe;have k1:=hk 1 oe;have k0':(zax w n ⟨a,k⟩ (nth p.kids 0)).length<=10*(nth p.kids 0).size:=k0;have k1':(zax w n ⟨a,k⟩ (nth p.kids 1)).length<=10*(nth p.kids 1).size:=k1;have hs:(nth p.kids 0).size+(nth p.kids 1).size=Pats.size p.kids:=by
    generalize p.kids=l at *;rcases l with _|⟨x,_|⟨y,_|⟨z,r⟩⟩⟩
    ·simp at hl2
    ·simp at hl2
    ·simp[Pats.size,nth]
    ·simp at hl2
   simp only[xaa,xab,xak];omega
  split
  ·rename_i h6;rw[zg5 h6] at hl hk;have hl2:p.kids.length=1:=hl;have k0':(zax w n ⟨a,k⟩ (nth p.kids 0)).length<=10*(nth p.kids 0).size:=hk 0 oe;have:=zmC (l:=p.kids) (i:=0) oe;simp only[xaa,zeT,xab,xak];omega
  ·have h4:p.op=4:=by omega
   rw[zg4 h4] at hl hk;have:=zjo hw hb ht (o4 h4);have h1:=ziw (f:=zax w n) true (zan w ⟨a,k⟩ p.ctor) p.kids (fun i h1 h2=>hk i h2);have h3:(if 0<(zan w ⟨a,k⟩ p.ctor).length then [(41:UInt8)] else []).length<=1:=by split<;>simp
   simp only[xaa];omega
theorem zdj {n:Int}:FnD Tryz.prog 71 [.d (.i n)] [] (.d (.str (letV n))) []:=by
 refine bd Tryz.f71 8 [5] [] fun _ _ _ _ hk=>?_;refine xbG (by rw[un3];rfl) un5 .none I I ?_;refine Walk.addW .none I I I (si [0] [_] sl79 tz5 ?_);refine xbz sl79 un9 oj .none I I I (by first|rfl|exact zgt _) ?_;refine evs [5] [] ?_;focus (refine rq ?_;all_goals (rfl))
section
variable {w:List Data}{n:Nat}{t:Ty}{p:Pat}
theorem tx1 (h:p.op=1):zax w (n+1) t p=[95]:=by unfold zax;rw[if_pos h]
theorem tx2 (h:p.op=2):zax w (n+1) t p=letV p.var:=by unfold zax;rw[if_neg oe,if_pos h]
theorem tx3a (h:p.op=3) (h2:p.n=p.m):zax w (n+1) t p=decV p.n:=by unfold zax;rw[if_neg oe,if_neg oe,if_pos h,if_pos h2]
theorem tx3b (h:p.op=3) (h2:¬p.n=p.m):zax w (n+1) t p=decV p.n++[45]++decV p.m:=by unfold zax;rw[if_neg oe,if_neg oe,if_pos h,if_neg h2]
theorem tx5 (h:p.op=5):zax w (n+1) t p=[40]++zax w n t (nth p.kids 0)++[124]++zax w n t (nth p.kids 1)++[41]:=by rw[zax];rw[if_neg oe,if_neg oe,if_neg oe,if_pos h]
theorem tx6 (h:p.op=6):zax w (n+1) t p=letV p.var++[64]++zax w n t (nth p.kids 0):=by rw[zax];rw[if_neg oe,if_neg oe,if_neg oe,if_neg oe,if_pos h]
theorem tx4 (h:p.op=4):zax w (n+1) t p=(zbj w t p.ctor++zbD (zax w n) true (zan w t p.ctor) p.kids)++(if 0<(zan w t p.ctor).length then [41] else []):=by rw[zax];rw[if_neg oe,if_neg oe,if_neg oe,if_neg oe,if_neg oe]
end
theorem zg1 {w:List Data} (hw:WT w) (hb:TB w):∀(n:Nat){a k:Int}{p:Pat},zav w n ⟨a,k⟩ p=true->TyIn w.length ⟨a,k⟩->p.ok->p.size<=10000000->
  FnD Tryz.prog 70 [.d (zam w),.agg [.d (.i a),.d (.i k)],.agg [.d (.i p.op),.d (.i p.ctor),.d (.i p.n),.d (.i p.m),.d (.i p.var),.d (zaC p.kids)]] [] (.d (.str (zax w n ⟨a,k⟩ p))) []
 |0,a,k,p,h,_,_,_=>by simp[zav] at h
 |n+1,a,k,p,h,ht,hok,hsz=>by
  obtain⟨ho,hl⟩:=zcc h;have hin:=zdf hw ht ho;obtain⟨o1,o2,o3,o4⟩:=zoU ho;rw[xa4] at hsz;rw[xa1] at hok;have hkid:∀i,i<p.kids.length->∀t,t=nth (zaf w ⟨a,k⟩ p) i->FnD Tryz.prog 70 [.d (zam w),.agg [.d (.i t.data),.d (.i t.index)],.agg [.d (.i (nth p.kids i).op),.d (.i (nth p.kids i).ctor),.d (.i (nth p.kids i).n),.d (.i (nth p.kids i).m),.d (.i (nth p.kids i).var),.d (zaC (nth p.kids i).kids)]] [] (.d (.str (zax w n t (nth p.kids i)))) []:=fun i hi t e=>by
   subst e;exact zg1 hw hb n (a:=(nth (zaf w ⟨a,k⟩ p) i).data) (k:=(nth (zaf w ⟨a,k⟩ p) i).index) (zbC h hi) (hin _ (zaq oe)) (xa9 hok.2 _ (zaq hi)) (by have:=zmC hi;omega)
  have hlen:∀i,i<p.kids.length->∀t,t=nth (zaf w ⟨a,k⟩ p) i->(zax w n t (nth p.kids i)).length<=100000000:=fun i hi t e=>by
   subst e;have:=zfm hw hb n (a:=(nth (zaf w ⟨a,k⟩ p) i).data) (k:=(nth (zaf w ⟨a,k⟩ p) i).index) (zbC h hi) (hin _ (zaq oe));have h2:=zmC hi;have h3:(zax w n (nth (zaf w ⟨a,k⟩ p) i) (nth p.kids i)).length<=10*(nth p.kids i).size:=this;omega
  by_cases h4:p.op=4
  ·rw[zg4 h4] at hl hkid hlen;have hc:=o4 h4;obtain⟨n1,n2⟩:=zjo hw hb ht hc;have hag:=zfs hw ht hc;obtain⟨d,rfl,hd,j,hj0,hj⟩:=zbw ht hc;have hnm:zbj w ⟨(d:Int),k⟩ p.ctor=(nth (nth w d).ctors j).name:=by unfold zbj;rw[hj0];rfl
   have hnx:=fun i=>zks (f:=zax w n) i (b:=true) (ts:=zan w ⟨(d:Int),k⟩ p.ctor) (ks:=p.kids);have htl:∀i,i<=3->(zbD (zax w n) true ((zan w ⟨(d:Int),k⟩ p.ctor).take i) (p.kids.take i)).length<=1000000000:=fun i hi=>by
    have h1:=ziw (f:=zax w n) true ((zan w ⟨(d:Int),k⟩ p.ctor).take i) (p.kids.take i) (fun i' q1 q2=>by
     rw[List.length_take] at q1 q2;have e1:nth ((zan w ⟨(d:Int),k⟩ p.ctor).take i) i'=nth (zan w ⟨(d:Int),k⟩ p.ctor) i':=by rw[zaY (by rw[List.length_take];omega),zaY oe,List.getElem_take]
     have e2:nth (p.kids.take i) i'=nth p.kids i':=by rw[zaY (by rw[List.length_take];omega),zaY oe,List.getElem_take]
     rw[e1,e2];have:=zfm hw hb n (a:=(nth (zaf w ⟨(d:Int),k⟩ p) i').data) (k:=(nth (zaf w ⟨(d:Int),k⟩ p) i').index) (zbC h (i:=i') oe) (hin _ (zaq (by rw[zg4 h4];omega)));rw[zg4 h4] at this;exact this)
    have h2:=zlv p.kids i;rw[List.length_take] at h1;omega
   rw[tx4 h4,hnm];have hfin:=List.take_length (l:=zan w ⟨(d:Int),k⟩ p.ctor);have hfin2:=List.take_length (l:=p.kids);generalize zan w ⟨(d:Int),k⟩ p.ctor=ts at *;refine bd Tryz.f70 118 [96,98,111,116] [] fun _ _ _ _ hk=>?_;refine bx 3004 ?_;refine bx 3005 ?_;refine evs [96,98,111,116] [] ?_;apply sq<;>intro h1 h1p h1s;try simp only[Q,xal,xaY,xac] at h1p
   exfalso;omega;apply sq<;>intro h2 h2p h2s;try simp only[Q,xal,xaY,xac] at h2p
   exfalso;omega;apply sq<;>intro h3 h3p h3s;try simp only[Q,xal,xaY,xac] at h3p
   exfalso;omega;apply sq<;>intro h4 h4p h4s;try simp only[Q,xal,xaY,xac] at h4p
   exfalso;omega;apply sq<;>intro h5 h5p h5s;try simp only[Q,xal,xaY,xac] at h5p
   exfalso;omega;refine ixq sl29 I I I (zau hd) I (evd [96,98,111,116] [] (ixq (i:=j) sl57 I I hj0 (zau hj) I (evd [96,98,111,116] [] (dr (wc zdv hag I I ?_)))));refine evs [96,98,111,116] [] (xaD (ι:=Nat) hk (fun i=>[(9,.d (.i (i:Int))),(7,.d (.str ((nth (nth w d).ctors j).name++zbD (zax w n) true (ts.take i) (p.kids.take i))))]) [87,88,89,90,91,92,93,94,95,96,97,98,99,100,101,102,103,104,105,106,107,108,109,110,111] (fun i=>[]) (fun i=>i<=ts.length) (fun i=>ts.length-i) 0 oe ⟨⟨_,I,xaT ?_⟩,⟨⟨_,I,xaU ?_⟩,O⟩⟩ O (fun x=>rfl) (fun i hg1=>?_));iterate 2 focus ((simp[zbD];done))
   refine evc [96,98,111,116] [] ?_;apply sq<;>intro h6 h6p h6s<;>(try simp only[Q,xal,xaY,xac] at h6p);apply sq<;>intro h7 h7p h7s<;>(try simp only[Q,xal,xaY,xac] at h7p);refine xbE .none I I I (by rw[hnm] at n1;have:=htl i oe;(have:=hlen i oe (nth ts i) rfl;simp only[xaa,xab,xak];omega)) ?_;refine evs [96,98,111,116] [] (ixq sl78 I I I (zau oe) I ?_);refine evd [96,98,111,116] [] (ixq sl45 I I I (zbQ oe) I ?_);refine evd [96,98,111,116] [] (wc ziA (hkid i oe (nth ts i) I) I I ?_);refine xbE .none I I I (by rw[hnm] at n1;have:=htl i oe;(have:=hlen i oe (nth ts i) rfl;simp only[xaa,xab,xak];omega)) ?_;refine evd [96,98,111,116] [] (dr (ar (xaj (i+1) ⟨oe,oe,sx ⟨⟨_,I,xaT ?_⟩,⟨⟨_,I,xaU ?_⟩,O⟩⟩ O⟩)));iterate 2 focus (first|rfl|(rw[hnx i oe oe,if_pos ⟨rfl,by omega⟩];simp;done))
   refine xbE .none I I I (by rw[hnm] at n1;have:=htl i oe;(have:=hlen i oe (nth ts i) rfl;simp only[xaa,xab,xak];omega)) ?_;refine evs [96,98,111,116] [] (ixq sl78 I I I (zau oe) I ?_);refine evd [96,98,111,116] [] (ixq sl45 I I I (zbQ oe) I ?_);refine evd [96,98,111,116] [] (wc ziA (hkid i oe (nth ts i) I) I I ?_);refine xbE .none I I I (by rw[hnm] at n1;have:=htl i oe;(have:=hlen i oe (nth ts i) rfl;simp only[xaa,xab,xak];omega)) ?_;refine evd [96,98,111,116] [] (dr (ar (xaj (i+1) ⟨oe,oe,sx ⟨⟨_,I,xaT ?_⟩,⟨⟨_,I,xaU ?_⟩,O⟩⟩ O⟩)));iterate 2 focus (first|rfl|(rw[hnx i oe oe,if_neg oe];simp;done))
   apply sq<;>intro h8 h8p h8s<;>(try simp only[Q,xal,xaY,xac] at h8p);refine xbE .none I I I (by rw[hnm] at n1;have:=htl i oe;(simp only[xaa,xab,xak];omega)) ?_;refine evs [96,98,111,116] [] (rq ?_);rotate_left;refine rq ?_;rotate_left;all_goals (have e1:i=ts.length:=oe;subst e1;rw[hfin,show ts.length=p.kids.length by omega,hfin2];first|(rw[if_pos oe];done)|(rw[if_neg oe,xaq];done))
  ·have e5:p.op=5->p.kids.length=2:=fun h=>by rw[ze0 h] at hl;exact hl
   have e6:p.op=6->p.kids.length=1:=fun h=>by rw[zg5 h] at hl;exact hl
   have hk0:=fun(h:p.op=5\/p.op=6)=>hkid 0 (by rcases h with h|h;rw[e5 h];omega;rw[e6 h];omega) ⟨a,k⟩ (by rcases h with h|h;rw[ze0 h];rfl;rw[zg5 h];rfl);have hk1:=fun(h:p.op=5)=>hkid 1 (by rw[e5 h];omega) ⟨a,k⟩ (by rw[ze0 h];rfl);have hn0:=fun(h:p.op=5\/p.op=6)=>hlen 0 (by rcases h with h|h;rw[e5 h];omega;rw[e6 h];omega) ⟨a,k⟩ (by rcases h with h|h;rw[ze0 h];rfl;rw[zg5 h];rfl);have hn1:=fun(h:p.op=5)=>hlen 1 (by rw[e5 h];omega) ⟨a,k⟩ (by rw[ze0 h];rfl);have hdl:=zeM;have hll:=zeT p.var;refine bd Tryz.f70 118 [32,36,46,47,55,56,62,70] [] fun _ _ _ _ hk=>?_;refine bx 3004 ?_;refine bx 3005 ?_;refine evs [32,36,46,47,55,56,62,70] [] ?_;apply sq<;>intro h1 h1p h1s<;>(try simp only[Q,xal,xaY] at h1p);refine rq ?_;rotate_left;apply sq<;>intro h2 h2p h2s<;>(try simp only[Q,xal,xaY] at h2p);refine wc zlR (zdj (n:=p.var)) I I ?_;refine evs [32,36,46,47,55,56,62,70] [] (rq ?_);rotate_left;apply sq<;>intro h3 h3p h3s<;>(try simp only[Q,xal,xaY] at h3p);apply sq<;>intro h4 h4p h4s<;>(try simp only[Q,xal,xaY] at h4p);refine wc zjE (zc7 (n:=p.n) (by have:=o3 oe;omega) (by have:=o3 oe;omega)) I I ?_;refine evs [32,36,46,47,55,56,62,70] [] (rq ?_);rotate_left;refine wc zjE (zc7 (n:=p.n) (by have:=o3 oe;omega) (by have:=o3 oe;omega)) I I ?_;refine xbE .none I I I (by(simp only[xaa,xab,xak,hdl];omega)) (evd [32,36,46,47,55,56,62,70] [] (wc zjE (zc7 (n:=p.m) (by have:=o3 oe;omega) (by have:=o3 oe;omega)) I I ?_));refine xbE .none I I I (by(simp only[xaa,xab,xak,hdl];omega)) (evd [32,36,46,47,55,56,62,70] [] (dr (rq ?_)));rotate_left;apply sq<;>intro h5 h5p h5s<;>(try simp only[Q,xal,xaY] at h5p);refine ixq (i:=0) sl45 I I I (zbQ (by(rw[e5 oe];omega))) I ?_;refine evd [32,36,46,47,55,56,62,70] [] (wc ziA (hk0 oe) I I ?_);refine xbE .none I I I (by(have:=hn0 (.inl oe);have:=hn1 oe;simp only[xaa,xab,xak];omega)) ?_;refine xbE .none I I I (by(have:=hn0 (.inl oe);have:=hn1 oe;simp only[xaa,xab,xak];omega)) ?_;refine evd [32,36,46,47,55,56,62,70] [] (ixq (i:=1) sl45 I I I (zbQ (by(rw[e5 oe];omega))) I ?_);refine evd [32,36,46,47,55,56,62,70] [] (wc ziA (hk1 oe) I I ?_);refine xbE .none I I I (by(have:=hn0 (.inl oe);have:=hn1 oe;simp only[xaa,xab,xak];omega)) ?_;refine xbE .none I I I (by(have:=hn0 (.inl oe);have:=hn1 oe;simp only[xaa,xab,xak];omega)) ?_;refine evd [32,36,46,47,55,56,62,70] [] (dr (rq ?_));rotate_left;apply sq<;>intro h6 h6p h6s<;>(try simp only[Q,xal,xaY] at h6p);refine wc zlR (zdj (n:=p.var)) I I ?_;refine xbE .none I I I (by(have:=hn0 (.inr oe);simp only[xaa,xab,xak];omega)) ?_;refine evd [32,36,46,47,55,56,62,70] [] (ixq (i:=0) sl45 I I I (zbQ (by(rw[e6 oe];omega))) I ?_);refine evd [32,36,46,47,55,56,62,70] [] (wc ziA (hk0 oe) I I ?_);refine xbE .none I I I (by(have:=hn0 (.inr oe);simp only[xaa,xab,xak];omega)) ?_;refine evd [32,36,46,47,55,56,62,70] [] (dr (rq ?_));rotate_left;exfalso;omega;all_goals (first|(rw[tx1 oe];done)|(rw[tx2 oe];done)|(rw[tx3a oe oe];done)|(rw[tx3b oe oe];done)|(rw[tx5 oe];done)|(rw[tx6 oe];done))
set_option maxHeartbeats 2000000
structure MatchOk (w:List Data) (n m:Nat) (t:Ty) (p:Pat) (v:Val):Prop where
 shape:zav w n t p=true
 fits:zqj w m t v=true
 pok:p.ok
 vok:v.ok
 psz:p.size<=100
 vsz:v.size<=100
theorem MatchOk.two {w:List Data}{n m:Nat}{t:Ty}{p:Pat}{v:Val} (h:MatchOk w (n+1) m t p v) (h5:p.op=5):
  p.kids.length=2/\MatchOk w n m t (nth p.kids 0) v/\MatchOk w n m t (nth p.kids 1) v:=by
 obtain⟨hl,s0,s1⟩:=zo9 h.shape h5;have hpk:=(xa1 p).1 h.pok;have hps:=xa4 p;have z0:=zee (l:=p.kids) (i:=0) oe;have z1:=zee (l:=p.kids) (i:=1) oe;have hs:=h.psz;exact⟨hl,⟨s0,h.fits,xa9 hpk.2 _ (zaq oe),h.vok,by omega,h.vsz⟩,⟨s1,h.fits,xa9 hpk.2 _ (zaq oe),h.vok,by omega,h.vsz⟩⟩
theorem MatchOk.one {w:List Data}{n m:Nat}{t:Ty}{p:Pat}{v:Val} (h:MatchOk w (n+1) m t p v) (h6:p.op=6):
  p.kids.length=1/\MatchOk w n m t (nth p.kids 0) v:=by
 obtain⟨hl,s0⟩:=zo8 h.shape h6;have hpk:=(xa1 p).1 h.pok;have hps:=xa4 p;have z0:=zee (l:=p.kids) (i:=0) oe;have hs:=h.psz;exact⟨hl,⟨s0,h.fits,xa9 hpk.2 _ (zaq oe),h.vok,by omega,h.vsz⟩⟩
structure VarsOk (l:List Bd) (vs:List Vt):Prop where
 len:l.length=vs.length
 nod:(l.map Bd.var).Nodup
 sub:∀x∈l.map Bd.var,x∈vs.map Vt.var
set_option maxHeartbeats 4000000
def zcm (s:Str):Gd:=if s.length=3 then ⟨if nth s 1=60 then 1 else if nth s 1=61 then 2 else -1,((nth s 0).toNat:Int)-97,((nth s 2).toNat:Int)-48⟩ else ⟨-1,0,0⟩
theorem zhw {s:Str} (hs:s.length<=1000000000000):FnD Tryz.prog 18 [.d (.str s)] [] (.agg [.d (.i (zcm s).op),.d (.i (zcm s).var),.d (.i (zcm s).n)]) []:=by
 have v0:=zgC (nth s 0);have v2:=zgC (nth s 2);have b0:=(nth s 0).toNat_lt;have b2:=(nth s 2).toNat_lt;by_cases h3:s.length=3
 ·have g60:((nth s 1).toNat:Int)=60->zcm s=⟨1,((nth s 0).toNat:Int)-97,((nth s 2).toNat:Int)-48⟩:=fun h=>by unfold zcm;rw[if_pos h3,if_pos (show nth s 1=60 from b_eq (k:=60) oe h)]
  have g61:((nth s 1).toNat:Int)=61->zcm s=⟨2,((nth s 0).toNat:Int)-97,((nth s 2).toNat:Int)-48⟩:=fun h=>by unfold zcm;rw[if_pos h3,if_neg (show ¬nth s 1=60 from b_ne (by show ¬((nth s 1).toNat:Int)=60;omega)),if_pos (show nth s 1=61 from b_eq (k:=61) oe h)]
  have gno:¬((nth s 1).toNat:Int)=60->¬((nth s 1).toNat:Int)=61->zcm s=⟨-1,((nth s 0).toNat:Int)-97,((nth s 2).toNat:Int)-48⟩:=fun h h'=>by unfold zcm;rw[if_pos h3,if_neg (show ¬nth s 1=60 from b_ne (by show ¬((nth s 1).toNat:Int)=60;omega)),if_neg (show ¬nth s 1=61 from b_ne (by show ¬((nth s 1).toNat:Int)=61;omega))]
  generalize zcm s=g at *;refine bd Tryz.f18 26 [] [] fun _ _ _ _ hk=>?_;refine ab 3002 tz51 ?_;apply tv;apply sq<;>intro h1 h1p h1s;try simp only[Q,xal] at h1p
  exfalso;omega;refine xbO (i:=0) un9 .none I I I I (zaZ oe) ?_;refine xbG o9 un3 .none I I ?_;refine evd [] [] (ar (xbO (i:=2) un9 .none I I I I (zaZ oe) ?_));refine xbG o9 un3 .none I I ?_;refine evd [] [] (ar (bu [0,1,2] [_,_,_] st51 ?_));refine ab 3003 tz51 ?_;refine so ty51 ?_;refine dr (xbO (i:=1) un9 .none I I I I (zaZ oe) ?_);apply tv;apply sq<;>intro h2 h2p h2s<;>(try simp only[Q,xal] at h2p);refine so ty3 ?_;apply tv;refine so ty51 ?_;apply tv;refine rn0 (ra ty51) (.agg (qeee ?_ ?_ ?_));rotate_left 3;apply sq<;>intro h3 h3p h3s<;>(try simp only[Q,xal] at h3p);refine so ty3 ?_;apply tv;refine so ty51 ?_;apply tv;refine rn0 (ra ty51) (.agg (qeee ?_ ?_ ?_));rotate_left 3;refine so ty51 ?_;apply tv;refine rn0 (ra ty51) (.agg (qeee ?_ ?_ ?_));rotate_left 3;all_goals (first|(rw[g60 oe];all_goals first|rfl|exact xam D.i (by rw[v0])|exact xam D.i (by rw[v2]))|(rw[g61 oe];all_goals first|rfl|exact xam D.i (by rw[v0])|exact xam D.i (by rw[v2]))|(rw[gno oe oe];all_goals first|rfl|exact xam D.i (by rw[v0])|exact xam D.i (by rw[v2])))
 ·have e:zcm s=⟨-1,0,0⟩:=by unfold zcm;rw[if_neg h3]
  rw[e];refine bd Tryz.f18 26 [] [] fun _ _ _ _ hk=>?_;refine ab 3002 tz51 ?_;apply tv;apply sq<;>intro h1 h1p h1s;refine bu [0] [_] st51 ?_;refine so ty51 ?_;apply tv;focus (refine rn0 (ra ty51) (.agg (qeee ?_ ?_ ?_));all_goals (rfl))
  try simp only[Q,xal] at h1p
  exfalso;omega
def zbE (w:List Data) (t:Ty) (c:Cl):Str:=
 if c.g.op=1 then zax w 10 t c.pat++[32]++letV c.g.var++[60]++decV c.g.n
 else if c.g.op=2 then zax w 10 t c.pat++[32]++letV c.g.var++[61]++decV c.g.n
 else zax w 10 t c.pat
theorem gd_n {w:List Data}{t:Ty}{c:Cl} (h:clOk w t c=true):c.g.op=1\/c.g.op=2->0<=c.g.n/\c.g.n<=9:=fun hop=>by
 unfold clOk at h;rw[xad] at h;have h2:=h.2;unfold gdOk at h2;rw[if_neg oe,xad] at h2;have h3:=xas h2.1;exact⟨h3.2.2.1,h3.2.2.2⟩
theorem zpd {w:List Data} (hw:WT w) (hb:TB w){a k:Int}{c:Cl} (ht:TyIn w.length ⟨a,k⟩) (h:clOk w ⟨a,k⟩ c=true) (hsz:c.pat.size<=10000000):(zbE w ⟨a,k⟩ c).length<=100000010:=by
 have h1:=zfm hw hb 10 (zfe h).2.1 ht;unfold zbE;split
 ·simp only[xaa,zeT,zeM,xab,xak];omega
 split
 ·simp only[xaa,zeT,zeM,xab,xak];omega
 ·omega
theorem zg2 {w:List Data} (hw:WT w) (hb:TB w){a k:Int}{c:Cl} (ht:TyIn w.length ⟨a,k⟩) (h:clOk w ⟨a,k⟩ c=true) (hok:c.pat.ok) (hsz:c.pat.size<=10000000):
  FnD Tryz.prog 44 [.d (zam w),.agg [.d (.i a),.d (.i k)],.agg [.d (.i c.pat.op),.d (.i c.pat.ctor),.d (.i c.pat.n),.d (.i c.pat.m),.d (.i c.pat.var),.d (zaC c.pat.kids),.d (.i c.g.op),.d (.i c.g.var),.d (.i c.g.n)]] [] (.d (.str (zbE w ⟨a,k⟩ c))) []:=by
 have hn:=gd_n h;have hl:=zfm hw hb 10 (zfe h).2.1 ht;have ht1:=zg1 hw hb 10 (zfe h).2.1 ht hok hsz;have e1:c.g.op=1->zbE w ⟨a,k⟩ c=zax w 10 ⟨a,k⟩ c.pat++[32]++letV c.g.var++[60]++decV c.g.n:=fun h=>by unfold zbE;rw[if_pos h]
 have e2:c.g.op=2->zbE w ⟨a,k⟩ c=zax w 10 ⟨a,k⟩ c.pat++[32]++letV c.g.var++[61]++decV c.g.n:=fun h=>by unfold zbE;rw[if_neg oe,if_pos h]
 have e3:¬c.g.op=1->¬c.g.op=2->zbE w ⟨a,k⟩ c=zax w 10 ⟨a,k⟩ c.pat:=fun h h'=>by unfold zbE;rw[if_neg h,if_neg h']
 have hd:=zeM c.g.n;have hv:=zeT c.g.var;generalize zbE w ⟨a,k⟩ c=R at *;generalize zax w 10 ⟨a,k⟩ c.pat=T at *;refine bd Tryz.f44 47 [19,24,25,30,34,39,40,45] [] fun _ _ _ _ hk=>?_;refine bx 3004 ?_;refine bx 3005 ?_;refine evs [19,24,25,30,34,39,40,45] [] (wc ziA ht1 I I ?_);refine evs [19,24,25,30,34,39,40,45] [] ?_;apply sq<;>intro h1 h1p h1s<;>(try simp only[Q,xal] at h1p);refine xbE .none I I I (by simp only[xaa,xab,xak,hd,hv];omega) ?_;refine evd [19,24,25,30,34,39,40,45] [] (wc zlR (zdj (n:=c.g.var)) I I ?_);refine xbE .none I I I (by simp only[xaa,xab,xak,hd,hv];omega) ?_;refine xbE .none I I I (by simp only[xaa,xab,xak,hd,hv];omega) ?_;refine evd [19,24,25,30,34,39,40,45] [] (wc zjE (zc7 (n:=c.g.n) (hn oe).1 (hn oe).2) I I ?_);refine xbE .none I I I (by simp only[xaa,xab,xak,hd,hv];omega) ?_;refine evd [19,24,25,30,34,39,40,45] [] (dr (rq ?_));rotate_left;apply sq<;>intro h2 h2p h2s<;>(try simp only[Q,xal] at h2p);refine xbE .none I I I (by simp only[xaa,xab,xak,hd,hv];omega) ?_;refine evd [19,24,25,30,34,39,40,45] [] (wc zlR (zdj (n:=c.g.var)) I I ?_);refine xbE .none I I I (by simp only[xaa,xab,xak,hd,hv];omega) ?_;refine xbE .none I I I (by simp only[xaa,xab,xak,hd,hv];omega) ?_;refine evd [19,24,25,30,34,39,40,45] [] (wc zjE (zc7 (n:=c.g.n) (hn oe).1 (hn oe).2) I I ?_);refine xbE .none I I I (by simp only[xaa,xab,xak,hd,hv];omega) ?_;refine evd [19,24,25,30,34,39,40,45] [] (dr (rq ?_));rotate_left;refine rq ?_;rotate_left;all_goals (first|(rw[e1 oe];done)|(rw[e2 oe];done)|(rw[e3 oe oe];done))
def zct (w:List Data) (t:Ty):Bool->List Cl->Str
 |_,[]=>[]
 |b,c::r=>((if b=true then [] else [47])++zbE w t c)++zct w t false r
theorem zko {w:List Data} (hs:WSmall w){a k:Int}{l:List Cl} (hl:ClsOk l) (hz:∀c∈l,c.pat.size<=10000000) (hv:za8 w ⟨a,k⟩ l=true):
  FnD Tryz.prog 20 [.d (zam w),.agg [.d (.i a),.d (.i k)],.d (zcx l)] [] (.d (.str (zct w ⟨a,k⟩ true l))) []:=by
 obtain⟨tv,hl8,hc⟩:=zk7 hv;obtain⟨wv,ht,_⟩:=zcU tv;have hw:=zdH hs wv;have hb:=zm0 wv;have hc':∀c∈l,clOk w ⟨a,k⟩ c=true:=fun c hm=>by
  obtain⟨i,hi,rfl⟩:=List.getElem_of_mem hm;rw[<-zaY hi];exact hc i hi
 have hlen:=fun(c:Cl) (hm:c∈l)=>zpd hw hb ht (hc' c hm) (hz c hm);refine bd Tryz.f20 29 [18,27] [] fun _ _ _ _ hk=>?_;refine bx 3004 ?_;refine evs [18,27] [] (xaD (ι:=List (Cl)×List (Cl)×(Str)) hk (fun x=>[(8,.d (.i (x.1.length:Int))),(7,.d (.str x.2.2))]) [9,10,11,12,13,14,15,16,17,18,19,20,21,22,23,24,25,26,27] (fun x=>[]) (fun x=>x.1++x.2.1=l/\x.2.2.length<=100000020*x.1.length/\x.2.2++zct w ⟨a,k⟩ (decide (x.1.length=0)) x.2.1=zct w ⟨a,k⟩ true l) (fun x=>x.2.1.length) ([],l,[]) ⟨by simp,by simp,by simp⟩ ⟨⟨_,I,xaT ?_⟩,⟨⟨_,I,xaU ?_⟩,O⟩⟩ O (fun x=>rfl) (fun x hg1=>?_));iterate 2 focus (rfl)
 obtain⟨pre,rest,o⟩:=x;dsimp only at hg1 ⊢;refine evc [18,27] [] ?_;apply sq<;>intro h1 h1p h1s;rcases rest with _|⟨y,rest⟩
 ·exfalso;simp_all
 have hym:y∈l:=(by rw[<-hg1.1];simp);have hyl:=hlen y hym;have hpl:pre.length<l.length:=(by rw[<-hg1.1];simp);apply sq<;>intro h2 h2p h2s<;>(try simp only[Q,xal,xac] at h2p);refine xbE .none I I I (by(try simp only[xaa,xab,xak]);omega) (evs [18,27] [] (ixq sl26 I I I (zbd hg1.1) I (evd [18,27] [] (wc zp6 (zg2 hw hb ht (hc' y hym) (hl.2 y hym) (hz y hym)) I I ?_))));refine xbE .none I I I (by(try simp only[xaa,xab,xak]);omega) (evd [18,27] [] (dr (ar (xaj ((pre++[y],rest,o++((if pre.length=0 then [] else [47])++zbE w ⟨a,k⟩ y))) ⟨⟨(by have hz:=hg1.1;rw[<-hz];simp),⟨(by have h3:(if pre.length=0 then ([]:Str) else [47]).length<=1:=(by split<;>simp);simp only[xaa,xab,xak];omega),(by rw[<-hg1.2.2];simp[zct])⟩⟩,oh,sx ⟨⟨_,I,xaT ?_⟩,⟨⟨_,I,xaU ?_⟩,O⟩⟩ O⟩))));iterate 2 focus (first|(simp;done)|(dsimp only;rw[if_neg oe];simp;done))
 refine ixq sl26 I I I (zbd hg1.1) I (evd [18,27] [] (wc zp6 (zg2 hw hb ht (hc' y hym) (hl.2 y hym) (hz y hym)) I I ?_));refine xbE .none I I I (by(try simp only[xaa,xab,xak]);omega) (evd [18,27] [] (dr (ar (xaj ((pre++[y],rest,o++((if pre.length=0 then [] else [47])++zbE w ⟨a,k⟩ y))) ⟨⟨(by have hz:=hg1.1;rw[<-hz];simp),⟨(by have h3:(if pre.length=0 then ([]:Str) else [47]).length<=1:=(by split<;>simp);simp only[xaa,xab,xak];omega),(by rw[<-hg1.2.2];simp[zct])⟩⟩,oh,sx ⟨⟨_,I,xaT ?_⟩,⟨⟨_,I,xaU ?_⟩,O⟩⟩ O⟩))));iterate 2 focus (first|(simp;done)|(dsimp only;rw[if_pos oe];simp;done))
 try simp only[Q,xal,xac] at h1p
 have hrest:rest=[]:=by
  rcases rest with _|⟨a,b⟩
  ·rfl
  ·exfalso;have hz:=xam List.length (hg1.1);simp only[xaa,xab,xac] at hz;omega
 subst hrest;refine rq ?_;rotate_left;all_goals (refine xam D.str ?_;have hfin:=hg1.2.2;simp only[zct,xaq] at hfin;exact hfin)
theorem zgc {w:List Data} (hs:WSmall w) (hv:zbu w=true):A3 w:=fun t c ht hc=>by
 obtain⟨a,k⟩:=t;have hw:=zdH hs hv;refine⟨(zjo hw (zm0 hv) ht hc).2,fun u hu=>?_⟩;obtain⟨d,rfl,hd,hp⟩:=zbw ht hc;exact zk4 hw hd hp hu
theorem znl {f:Ty->Int->Pat×Int}{s:Str}{M:Nat}:∀(ts:List Ty) (sg:List UInt8) (a:Int),(∀t∈ts,∀b,(f t b).1.ok/\(f t b).1.size<=M)->∀r,kidL f s ts sg a=some r->Pats.ok r.1/\Pats.size r.1<=ts.length*M/\r.1.length=ts.length
 | [],_,a,_,r,h=>by rw[kidL] at h;cases h;exact⟨trivial,by simp[Pats.size],rfl⟩
 |_::_,[],_,_,r,h=>by rw[kidL] at h;cases h
 |t::ts,c::cs,a,hf,r,h=>by
  rw[kidL] at h;split at h
  ·cases e:kidL f s ts cs (f t (a+1)).2 with
   |none=>rw[e] at h;cases h
   |some r2=>
    rw[e] at h;cases h;obtain⟨h1,h2,h3⟩:=znl ts cs _ (fun u hu=>hf u (by simp[hu])) r2 e;have h0:=hf t oh (a+1);refine⟨⟨h0.1,h1⟩, ?_,by simp[h3]⟩;show(f t (a+1)).1.size+Pats.size r2.1<=(ts.length+1)*M
    rw[Nat.add_mul];omega
  ·cases h
theorem zqL {f:Ty->Int->Pat×Int}{s:Str}{M:Nat}{ts:List Ty}{sg:List UInt8}{a:Int} (hl:ts.length<=3) (hf:∀t∈ts,∀b,(f t b).1.ok/\(f t b).1.size<=M):Pats.ok (kidV f s ts sg a).1/\Pats.size (kidV f s ts sg a).1<=3*M/\(kidV f s ts sg a).1.length<=3:=by
 unfold kidV;cases e:kidL f s ts sg a with
 |none=>exact⟨trivial,by simp[Pats.size,Option.getD],by simp[Option.getD]⟩
 |some r=>
  obtain⟨h1,h2,h3⟩:=znl ts sg a hf r e;refine⟨h1, ?_,by show r.1.length<=3;omega⟩;have:ts.length*M<=3*M:=xav _ hl;show Pats.size r.1<=3*M
  omega
theorem zlr {w:List Data}{s:Str} (hA:A3 w):∀(n:Nat){t:Ty} (a:Int),TyIn w.length t->(zaB w s n t a).1.ok/\(zaB w s n t a).1.size<=4 ^ n
 |0,t,a,_=>⟨by rw[xa1];exact⟨by simp[zaB,Pat.kids],trivial⟩,by rw[xa4];simp[zaB,Pat.kids,Pats.size]⟩
 |n+1,t,a,ht=>by
  have ih:=fun {t:Ty} (b:Int) (h:TyIn w.length t)=>zlr hA (s:=s) n b h;have hp:1<=4 ^ n:=Nat.pow_pos oe;have he:4 ^ (n+1)=4*4 ^ n:=by rw[Nat.pow_succ];omega
  have leaf:∀ {x1 x2 x3 x4 x5:Int},(Pat.mk x1 x2 x3 x4 x5 []).ok/\(Pat.mk x1 x2 x3 x4 x5 []).size<=4 ^ (n+1):=fun {x1 x2 x3 x4 x5}=>⟨by rw[xa1];exact⟨by simp[Pat.kids],trivial⟩,by rw[xa4];simp[Pat.kids,Pats.size];omega⟩;have node:∀ {x1 x2 x3 x4 x5:Int}{ts:List Ty}{sg:List UInt8}{b:Int},ts.length<=3->(∀u∈ts,TyIn w.length u)->(Pat.mk x1 x2 x3 x4 x5 (kidV (zaB w s n) s ts sg b).1).ok/\(Pat.mk x1 x2 x3 x4 x5 (kidV (zaB w s n) s ts sg b).1).size<=4 ^ (n+1):=fun {x1 x2 x3 x4 x5 ts sg b} h1 h2=>by
   obtain⟨k1,k2,k3⟩:=zqL (f:=zaB w s n) (sg:=sg) (a:=b) (s:=s) h1 (fun u hu b=>ih b (h2 u hu));refine⟨by rw[xa1];exact⟨by show(kidV (zaB w s n) s ts sg b).1.length<=_;omega,k1⟩, ?_⟩;rw[xa4];show 1+Pats.size (kidV (zaB w s n) s ts sg b).1<=_
   omega
  have h2:∀u∈[t,t],TyIn w.length u:=by intro u hu;simp at hu;subst hu;exact ht
  have h1:∀u∈[t],TyIn w.length u:=by intro u hu;simp at hu;subst hu;exact ht
  unfold zaB;split
  ·exact leaf
  split
  ·exact leaf
  split
  ·unfold intP;split
   ·exact leaf
   ·exact leaf
  split
  ·split
   ·exact node oh h2
   ·exact leaf
  split
  ·exact node oh h1
  split
  ·exact leaf
  split
  ·exact leaf
  rename_i hc;have hA':=hA t _ ht (zfS hc);split
  ·exact node hA'.1 hA'.2
  split
  ·exact node hA'.1 hA'.2
  ·exact leaf
def wdsV (p:Str):List Str:=cutL 32 [] p
def prV (w:List Data) (t:Ty) (p:Str):Pat×Int:=zaB w (nth (wdsV p) 0) 10 t 0
def zez (w:List Data) (t:Ty) (p:Str):Bool:= !decide ((prV w t p).2=((nth (wdsV p) 0).length:Int))||(decide (nth (wdsV p) 0=[])||decide (2<(wdsV p).length))
def pcC (w:List Data) (t:Ty) (p:Str):Cl:=⟨(prV w t p).1,if (wdsV p).length=2 then zcm (nth (wdsV p) 1) else ⟨0,0,0⟩⟩
theorem zr6 {w:List Data}{t:Ty}{p:Str} (h:(wdsV p).length=2):pcC w t p=⟨(prV w t p).1,zcm (nth (wdsV p) 1)⟩:=by unfold pcC;rw[if_pos h]
theorem zr5 {w:List Data}{t:Ty}{p:Str} (h:¬(wdsV p).length=2):pcC w t p=⟨(prV w t p).1,⟨0,0,0⟩⟩:=by unfold pcC;rw[if_neg h]
def pcP (s:Str):List Str:=cutL 47 [] s
def zb5 (s:Str):Nat:=if s=[] then 0 else if (pcP s).length<=9 then (pcP s).length else 9
theorem zoV {s:Str}{i:Nat}:i<zb5 s↔(i<(pcP s).length/\i<=8)/\s≠[]:=by
 unfold zb5;split
 ·rename_i h;simp[h]
 ·rename_i h;split<;>simp[h]<;>omega
def pcN (w:List Data) (t:Ty) (s:Str):Nat->Option (List Cl)
 |0=>some []
 |n+1=>match pcN w t s n with
  |none=>none
  |some r=>if zez w t (nth (pcP s) n)=true then none else some (r++[pcC w t (nth (pcP s) n)])
theorem zjt {w:List Data}{t:Ty}{s:Str}{n:Nat}{r:List Cl} (h:pcN w t s n=some r) (hb:zez w t (nth (pcP s) n)=false):pcN w t s (n+1)=some (r++[pcC w t (nth (pcP s) n)]):=by
 rw[pcN,h];dsimp only;rw[if_neg (by rw[hb];simp)]
theorem zns {w:List Data}{t:Ty}{s:Str}{i:Nat} (hb:zez w t (nth (pcP s) i)=true):∀ {n:Nat},i<n->pcN w t s n=none
 |0,h=>by omega
 |n+1,h=>by
  rw[pcN];cases e:pcN w t s n with
  |none=>rfl
  |some r=>
   by_cases hi:i=n
   ·subst hi;dsimp only;rw[if_pos hb]
   ·rw[zns hb (show i<n by omega)] at e;cases e
theorem zoW {w:List Data}{t:Ty}{s:Str} (hA:A3 w) (ht:TyIn w.length t):∀ {n:Nat}{r:List Cl},pcN w t s n=some r->r.length=n/\∀c∈r,c.pat.ok/\c.pat.size<=10000000
 |0,r,h=>by rw[pcN] at h;cases h;simp
 |n+1,r,h=>by
  rw[pcN] at h;cases e:pcN w t s n with
  |none=>rw[e] at h;cases h
  |some r0=>
   rw[e] at h;dsimp only at h;split at h
   ·cases h
   ·cases h
    obtain⟨h1,h2⟩:=zoW hA ht e;refine⟨by simp[h1],fun c hc=>?_⟩;rcases List.mem_append.1 hc with hc|hc
    ·exact h2 c hc
    ·rw[List.mem_singleton.1 hc];have:=zlr (s:=nth (wdsV (nth (pcP s) n)) 0) hA 10 (t:=t) 0 ht;exact⟨this.1,Nat.le_trans this.2 oi⟩
def pcV (w:List Data) (t:Ty) (s:Str):Option (List Cl):=
 if zaO w t=true then (match pcN w t s (zb5 s) with|none=>none|some l=>if za8 w t l=true/\zct w t true l=s then some l else none) else none
theorem zoX {w:List Data}{t:Ty}{s:Str} (h:zaO w t=false):pcV w t s=none:=by unfold pcV;rw[if_neg (by rw[h];simp)]
theorem zqP {w:List Data}{t:Ty}{s:Str} (h:pcN w t s (zb5 s)=none):pcV w t s=none:=by unfold pcV;rw[h];split<;>rfl
theorem zkT {w:List Data}{t:Ty}{s:Str}{l:List Cl} (h0:zaO w t=true) (h:pcN w t s (zb5 s)=some l) (h1:za8 w t l=true) (h2:zct w t true l=s):pcV w t s=some l:=by unfold pcV;rw[if_pos h0,h];dsimp only;rw[if_pos ⟨h1,h2⟩]
theorem zqQ {w:List Data}{t:Ty}{s:Str}{l:List Cl} (h:pcN w t s (zb5 s)=some l) (h1:za8 w t l=false):pcV w t s=none:=by unfold pcV;rw[h];dsimp only;split;rw[if_neg (fun h=>by rw[h1] at h;simp at h)];rfl
theorem zqR {w:List Data}{t:Ty}{s:Str}{l:List Cl} (h:pcN w t s (zb5 s)=some l) (h2:¬zct w t true l=s):pcV w t s=none:=by unfold pcV;rw[h];dsimp only;split;rw[if_neg (fun h=>h2 h.2)];rfl
theorem znL (p:Str):1<=(wdsV p).length:=zjb 32 p []
theorem zhv {w:List Data} (hs:WSmall w){a k:Int}{s:Str} (hsl:s.length<=1048576):
  FnD Tryz.prog 5 [.d (zam w),.agg [.d (.i a),.d (.i k)],.d (.str s)] [] (.tup [.d (zcx ((pcV w ⟨a,k⟩ s).getD [])),.d (.bool (pcV w ⟨a,k⟩ s).isSome)]) []:=by
 cases htv:zaO w ⟨a,k⟩ with
 |false=>
  have h0:=zd6 hs (a:=a) (b:=k);rw[htv] at h0;rw[zoX htv];refine bd Tryz.f5 98 [] [] fun _ _ _ _ hk=>?_;refine bx 3004 ?_;refine ev (xb2 sl26 .none I (ev (wc znP h0 I I ?_)));refine ev ?_;apply sq<;>intro h1 h1p h1s;focus (refine rn0 (r2 I I) (.tup (qee ?_ ?_));all_goals (rfl))
  exfalso;simp at *
 |true=>
  have h0:=zd6 hs (a:=a) (b:=k);rw[htv] at h0;obtain⟨wv,ht,_⟩:=zcU htv;have hw:=zdH hs wv;have hA:=zgc hs wv;have hc1:FnD Tryz.prog 16 [.d (.str s),.d (.int .u8 47)] [] (.d (zeN (pcP s))) []:=zg0 (s:=s) (c:=47) oe;have hpl:∀i,i<(pcP s).length->(nth (pcP s) i).length<=1048576:=fun i hi=>by have:=zmm (c:=47) (s:=s) hi;exact Nat.le_trans this hsl
  have hc2:∀i,i<(pcP s).length->FnD Tryz.prog 16 [.d (.str (nth (pcP s) i)),.d (.int .u8 32)] [] (.d (zeN (wdsV (nth (pcP s) i)))) []:=fun i hi=>zg0 (s:=nth (pcP s) i) (c:=32) (by have:=hpl i hi;omega);have hwl:∀i,i<(pcP s).length->∀j,j<(wdsV (nth (pcP s) i)).length->(nth (wdsV (nth (pcP s) i)) j).length<=1048576:=fun i hi j hj=>by have:=zmm (c:=32) (s:=nth (pcP s) i) hj;exact Nat.le_trans this (hpl i hi)
  have hpp:∀i,i<(pcP s).length->FnD Tryz.prog 17 [.d (zam w),.agg [.d (.i a),.d (.i k)],.d (.str (nth (wdsV (nth (pcP s) i)) 0)),.d (.i 0),.d (.i 10)] [] (.tup [.agg [.d (.i (prV w ⟨a,k⟩ (nth (pcP s) i)).1.op),.d (.i (prV w ⟨a,k⟩ (nth (pcP s) i)).1.ctor),.d (.i (prV w ⟨a,k⟩ (nth (pcP s) i)).1.n),.d (.i (prV w ⟨a,k⟩ (nth (pcP s) i)).1.m),.d (.i (prV w ⟨a,k⟩ (nth (pcP s) i)).1.var),.d (zaC (prV w ⟨a,k⟩ (nth (pcP s) i)).1.kids)],.d (.i (prV w ⟨a,k⟩ (nth (pcP s) i)).2)]) []:=fun i hi=>
   zgx hw hA (s:=nth (wdsV (nth (pcP s) i)) 0) (by have:=hwl i hi 0 (znL _);omega) 10 oe ht ⟨by omega,by omega⟩
  have hlim:=fun i=>zoV (s:=s) (i:=i);have hll:zb5 s<=9:=by
   unfold zb5;split
   ·omega
   ·split<;>omega
  have hwd:=fun p:Str=>znL p;have hbd:∀i,zez w ⟨a,k⟩ (nth (pcP s) i)=(!decide ((prV w ⟨a,k⟩ (nth (pcP s) i)).2=((nth (wdsV (nth (pcP s) i)) 0).length:Int))||(decide (nth (wdsV (nth (pcP s) i)) 0=[])||decide (2<(wdsV (nth (pcP s) i)).length))):=fun _=>rfl;have hby:∀i,(¬(prV w ⟨a,k⟩ (nth (pcP s) i)).2=((nth (wdsV (nth (pcP s) i)) 0).length:Int)\/nth (wdsV (nth (pcP s) i)) 0=[]\/2<(wdsV (nth (pcP s) i)).length)->zez w ⟨a,k⟩ (nth (pcP s) i)=true:=fun i h=>by
   rw[hbd];rcases h with h|h|h
   ·rw[xaw h];rfl
   ·rw[xax h];simp
   ·rw[xax h];simp
  have hbn:∀i,(prV w ⟨a,k⟩ (nth (pcP s) i)).2=((nth (wdsV (nth (pcP s) i)) 0).length:Int)->¬nth (wdsV (nth (pcP s) i)) 0=[]->¬2<(wdsV (nth (pcP s) i)).length->zez w ⟨a,k⟩ (nth (pcP s) i)=false:=fun i h h1 h2=>by
   rw[hbd,xax h,xaw h1,xaw h2];rfl
  have hno:=fun(i:Nat) (h:i<zb5 s) (hb:zez w ⟨a,k⟩ (nth (pcP s) i)=true)=>zqP (zns hb h);have hok:=fun(n:Nat) (r:List Cl) (h:pcN w ⟨a,k⟩ s n=some r)=>zoW hA ht h;have hcv:=fun(n:Nat) (r:List Cl) (hn:n<=9) (h:pcN w ⟨a,k⟩ s n=some r)=>zhu hs (a:=a) (k:=k) (l:=r) ⟨by have:=(hok n r h).1;omega,fun c hc=>((hok n r h).2 c hc).1⟩ (fun c hc=>by have:=((hok n r h).2 c hc).2;omega);have htx:=fun(n:Nat) (r:List Cl) (hn:n<=9) (h:pcN w ⟨a,k⟩ s n=some r) (hv:za8 w ⟨a,k⟩ r=true)=>zko hs (l:=r) ⟨by have:=(hok n r h).1;omega,fun c hc=>((hok n r h).2 c hc).1⟩ (fun c hc=>((hok n r h).2 c hc).2) hv;refine bd Tryz.f5 98 [] [] fun _ _ _ _ hk=>?_;refine bx 3004 ?_;refine ev (xb3 1 sl26 .none I I (ev (wc znP h0 I I ?_)));refine ev ?_;apply sq<;>intro h1 h1p h1s;exfalso;simp at *;refine wc zpV hc1 I I ?_;refine ev (xaD (ι:=Nat×List Cl) hk (fun x=>[(10,.d (.i (x.1:Int))),(8,.gl 1 (x.2.map Cl.c))]) [6,7,11,12,13,14,23,24,25,26,27,28,29,30,31,32,33,34,35,36,37,38,39,40,41,42,43,44,45,46,47,48,49,50,51,52,53,54,55,56,57,58,59,60,61,62,63,64,65,66,67,68,69,70,71,72,73,74,75,76,77,78,79,80,81,82] (fun x=>[(1,some (.tok ((x.2.map Cl.c)).length 9))]) (fun x=>x.1<=zb5 s/\pcN w ⟨a,k⟩ s x.1=some x.2/\x.2.length<=x.1) (fun x=>zb5 s-x.1) (0,[]) ⟨by simp,I,by simp⟩ ⟨⟨_,I,xaT ?_⟩,⟨⟨_,I,LeA.glg ?_⟩,O⟩⟩ ⟨zar ?_,O⟩ (fun x=>rfl) (fun x hg1=>?_));iterate 3 focus (rfl)
  refine evc [] [] ?_;apply sq<;>intro h2 h2p h2s<;>(try simp only[Q,xal,xac] at h2p);apply sq<;>intro h3 h3p h3s<;>(try simp only[Q,xal,xac] at h3p);apply sq<;>intro h4 h4p h4s<;>(try simp only[Q,xal,xac] at h4p);refine ixq sl43 I I I (zau oe) I ?_;refine ev (wc zpV (hc2 x.1 oe) I I ?_);refine ev (ixq (i:=0) sl43 I I I (zau (by(have:=hwd (nth (pcP s) x.1);omega))) I (evd [] [] (wc zpW (hpp x.1 oe) I I ?_)));refine evd [] [] (ab 3012 tz47 ?_);refine so ty47 ?_;refine evd [] [] (dr (ixq (i:=0) sl43 I I I (zau (by(have:=hwd (nth (pcP s) x.1);omega))) I (ev ?_)));apply sq<;>intro h5 h5p h5s<;>(try simp only[Q,xal,xac] at h5p);refine sqT ?_;refine sqT ?_;refine xb2 sl26 .none I (ev (rn0 (r2 I I) (.tup (qee ?_ ?_))));rotate_left 2;refine xbL (i:=0) sl43 (.some I I h5) I I I I (zau (by(have:=hwd (nth (pcP s) x.1);omega))) I (evs [] [(57,false)] ?_ ⟨⟨_,I,h5⟩,O⟩);apply sq<;>intro h7 h7p h7s<;>(try simp only[Q,xal,xac] at h7p);refine sqT ?_;refine xb2 sl26 .none I (ev (rn0 (r2 I I) (.tup (qee ?_ ?_))));rotate_left 2;apply sq<;>intro h9 h9p h9s<;>(try simp only[Q,xal,xac] at h9p);refine xb2 sl26 .none I (ev (rn0 (r2 I I) (.tup (qee ?_ ?_))));rotate_left 2;refine bu [0] [_] st53 ?_;refine ab 3014 tz53 ?_;refine so ty53 ?_;apply tv;apply sq<;>intro h10 h10p h10s<;>(try simp only[Q,xal,xac] at h10p);refine ixq (i:=1) sl43 I I I (zau oe) I ?_;refine ev (wc zrv (zhw (s:=nth (wdsV (nth (pcP s) x.1)) 1) (by have:=hwl x.1 oe 1 oe;omega)) I I ?_);refine ev (so ty51 ?_);apply tv;refine si [0] [_] sl26 tz53 ?_;refine Walk.append sl26 zz53 I .none I I I I (ze5 I (by rfl)) (by intro x hx;simp at hx;subst hx;rfl) ot ot ?_;refine ev (ar ?_);refine xaj ((x.1+1,x.2++[pcC w ⟨a,k⟩ (nth (pcP s) x.1)])) ⟨(by
      have hi:x.1<zb5 s:=(hlim x.1).2 ⟨⟨by omega,by omega⟩,by first|assumption|(simp_all;done)⟩;exact⟨by dsimp only;omega,zjt hg1.2.1 (hbn x.1 oe ol oe),by simp;omega⟩),(by
      have hi:x.1<zb5 s:=(hlim x.1).2 ⟨⟨by omega,by omega⟩,by first|assumption|(simp_all;done)⟩;dsimp only;omega),sx ⟨⟨_,rfl,xaT ?_⟩,⟨⟨_,rfl,LeA.glg ?_⟩,trivial⟩⟩ ⟨zar ?_,trivial⟩⟩
  iterate 3 focus (first|(rw[zr6 oe,xag];rfl)|(simp;done))
  refine si [0] [_] sl26 tz53 ?_;refine Walk.append sl26 zz53 I .none I I I I (ze5 I (by rfl)) (by intro x hx;simp at hx;subst hx;rfl) ot ot ?_;refine ev (ar ?_);refine xaj ((x.1+1,x.2++[pcC w ⟨a,k⟩ (nth (pcP s) x.1)])) ⟨(by
      have hi:x.1<zb5 s:=(hlim x.1).2 ⟨⟨by omega,by omega⟩,by first|assumption|(simp_all;done)⟩;exact⟨by dsimp only;omega,zjt hg1.2.1 (hbn x.1 oe ol oe),by simp;omega⟩),(by
      have hi:x.1<zb5 s:=(hlim x.1).2 ⟨⟨by omega,by omega⟩,by first|assumption|(simp_all;done)⟩;dsimp only;omega),sx ⟨⟨_,rfl,xaT ?_⟩,⟨⟨_,rfl,LeA.glg ?_⟩,trivial⟩⟩ ⟨zar ?_,trivial⟩⟩
  iterate 3 focus (first|(rw[zr5 oe,xag];rfl)|(simp;done))
  refine Walk.call (cr:=[]) znQ (hcv x.1 x.2 oe hg1.2.1) I .none I I (.cons (.refl _) (.cons (.refl _) (.cons (.gl _ _) .nil))) O I I I ?_;refine ev ?_;apply sq<;>intro h11 h11p h11s<;>(try simp only[Q,xal,xac] at h11p);refine sqT ?_;refine xb2 sl26 .none I (ev (rn0 (r2 I I) (.tup (qee ?_ ?_))));rotate_left 2;refine Walk.call (cr:=[]) znR (htx x.1 x.2 oe hg1.2.1 ol) I (.some I I h11) I I (.cons (.refl _) (.cons (.refl _) (.cons (.gl _ _) .nil))) O I I I ?_;refine evs [] [(88,false)] ?_ ⟨⟨_,I,h11⟩,O⟩;apply sq<;>intro h13 h13p h13s<;>(try simp only[Q,xal,xac] at h13p);refine xb2 sl26 .none I (ev (rn0 (r2 I I) (.tup (qee ?_ ?_))));rotate_left 2;refine rn0 (r2 I I) (.tup (qge ?_ ?_));rotate_left 2;refine sqF ?_;refine Walk.call (cr:=[]) znQ (hcv x.1 x.2 oe hg1.2.1) I .none I I (.cons (.refl _) (.cons (.refl _) (.cons (.gl _ _) .nil))) O I I I ?_;refine ev ?_;apply sq<;>intro h15 h15p h15s<;>(try simp only[Q,xal,xac] at h15p);refine sqT ?_;refine xb2 sl26 .none I (ev (rn0 (r2 I I) (.tup (qee ?_ ?_))));rotate_left 2;refine Walk.call (cr:=[]) znR (htx x.1 x.2 oe hg1.2.1 ol) I (.some I I h15) I I (.cons (.refl _) (.cons (.refl _) (.cons (.gl _ _) .nil))) O I I I ?_;refine evs [] [(88,false)] ?_ ⟨⟨_,I,h15⟩,O⟩;apply sq<;>intro h17 h17p h17s<;>(try simp only[Q,xal,xac] at h17p);refine xb2 sl26 .none I (ev (rn0 (r2 I I) (.tup (qee ?_ ?_))));rotate_left 2;refine rn0 (r2 I I) (.tup (qge ?_ ?_));rotate_left 2;refine sqF ?_;refine sqF ?_;refine Walk.call (cr:=[]) znQ (hcv x.1 x.2 oe hg1.2.1) I .none I I (.cons (.refl _) (.cons (.refl _) (.cons (.gl _ _) .nil))) O I I I ?_;refine ev ?_;apply sq<;>intro h19 h19p h19s<;>(try simp only[Q,xal,xac] at h19p);refine sqT ?_;refine xb2 sl26 .none I (ev (rn0 (r2 I I) (.tup (qee ?_ ?_))));rotate_left 2;refine Walk.call (cr:=[]) znR (htx x.1 x.2 oe hg1.2.1 ol) I (.some I I h19) I I (.cons (.refl _) (.cons (.refl _) (.cons (.gl _ _) .nil))) O I I I ?_;refine evs [] [(88,false)] ?_ ⟨⟨_,I,h19⟩,O⟩;apply sq<;>intro h21 h21p h21s<;>(try simp only[Q,xal,xac] at h21p);refine xb2 sl26 .none I (ev (rn0 (r2 I I) (.tup (qee ?_ ?_))));rotate_left 2;refine rn0 (r2 I I) (.tup (qge ?_ ?_));rotate_left 2;all_goals (first|(rw[hno x.1 ((hlim x.1).2 ⟨⟨by omega,by omega⟩,by first|assumption|(simp_all;done)⟩) (hby x.1 (by first|exact .inl oe|exact .inr (.inl ol)|exact .inr (.inr oe)))];rfl)|(have e:x.1=zb5 s:=(by have h9:=(hlim x.1);by_cases hi:x.1<zb5 s;(exfalso;have h8:=h9.1 hi;first|omega|exact h8.2 ol|(simp_all;done));omega);have hN:=hg1.2.1;rw[e] at hN;first|(rw[zkT htv hN ol ol];all_goals rfl)|(rw[zqQ hN ol];all_goals rfl)|(rw[zqR hN ol];all_goals rfl)))
def rpR (w:List Data) (t:Ty) (s:Str):Pat×Rd:=patR w 10 t ⟨s,false⟩
def rpOk (w:List Data) (t:Ty) (s:Str):Bool:= !(rpR w t s).2.bad&&(decide ((rpR w t s).2.s=[])&&isP w t (rpR w t s).1)
def zeB (s:Str):Prop:=¬s.length=3\/((nth s 0).toNat:Int)<97\/122<((nth s 0).toNat:Int)\/((nth s 2).toNat:Int)<48\/57<((nth s 2).toNat:Int)
instance (s:Str):Decidable (zeB s):=by unfold zeB;infer_instance
def rgV (s:Str):Gd:=if zeB s then ⟨0,0,0⟩ else ⟨if ((nth s 1).toNat:Int)=61 then 2 else 1,((nth s 0).toNat:Int)-97,((nth s 2).toNat:Int)-48⟩
def rgOk (s:Str):Bool:=if zeB s then false else decide (((nth s 1).toNat:Int)=60)||decide (((nth s 1).toNat:Int)=61)
def zcG (w:List Data) (t:Ty) (p:Str):Bool:= !rpOk w t (cutB 32 p).1||((cutB 32 p).2.2&& !rgOk (cutB 32 p).2.1)
def piC (w:List Data) (t:Ty) (p:Str):Cl:=⟨(rpR w t (cutB 32 p).1).1,if (cutB 32 p).2.2=true then rgV (cutB 32 p).2.1 else ⟨0,0,0⟩⟩
def pcI (w:List Data) (t:Ty) (s:Str):Option (List Cl):=
 if zaO w t=false then none else if s=[] then some [] else if 8<(pcP s).length then none else if (pcP s).any (zcG w t)=true then none
 else if za8 w t ((pcP s).map (piC w t))=true then some ((pcP s).map (piC w t)) else none
theorem zml (c:UInt8) (s:Str):(cutB c s).1.length<=s.length/\(cutB c s).2.1.length<=s.length:=by
 unfold cutB;split
 ·simp
 ·simp;omega
theorem zhK {w:List Data} (hw:WT w) (hA3:A3 w){a k:Int} (ht:TyIn w.length ⟨a,k⟩){s:Str} (hs:s.length<=1000000000000):
  FnD Tryz.prog 25 [.d (zam w),.agg [.d (.i a),.d (.i k)],.d (.str s)] [] (.tup [.agg [.d (.i (rpR w ⟨a,k⟩ s).1.op),.d (.i (rpR w ⟨a,k⟩ s).1.ctor),.d (.i (rpR w ⟨a,k⟩ s).1.n),.d (.i (rpR w ⟨a,k⟩ s).1.m),.d (.i (rpR w ⟨a,k⟩ s).1.var),.d (zaC (rpR w ⟨a,k⟩ s).1.kids)],.d (.bool (rpOk w ⟨a,k⟩ s))]) []:=by
 have hp:=zdT hw hA3 10 (a:=a) (k:=k) (r:=⟨s,false⟩) (Nat.le_refl _) ht hs;have hok:=zfT hA3 10 (t:=⟨a,k⟩) ⟨s,false⟩ ht;rw[show(11:Int)-((10:Nat):Int)=1 from by decide] at hp;have hv:=zfv hw ht hok.1;have e1:rpOk w ⟨a,k⟩ s=(!(patR w 10 ⟨a,k⟩ ⟨s,false⟩).2.bad&&(decide ((patR w 10 ⟨a,k⟩ ⟨s,false⟩).2.s=[])&&isP w ⟨a,k⟩ (patR w 10 ⟨a,k⟩ ⟨s,false⟩).1)):=rfl;rw[e1,show rpR w ⟨a,k⟩ s=patR w 10 ⟨a,k⟩ ⟨s,false⟩ from rfl];generalize patR w 10 ⟨a,k⟩ ⟨s,false⟩=z at *;refine bd Tryz.f25 36 [] [] fun _ _ _ _ hk=>?_;refine bx 3004 ?_;refine ab 3006 tz47 ?_;refine ev (bu [0,1] [_,_] st91 ?_);refine bx 901 ?_;refine ev (wd zb1 hp I I ⟨I,O⟩ ?_);refine ab 3009 tz47 ?_;refine so ty47 ?_;apply tv;apply sq<;>intro h1 h1p h1s<;>(try simp only[Q] at h1p);apply sq<;>intro h2 h2p h2s<;>(try simp only[Q] at h2p);refine Walk.call (cr:=[]) zp8 hv I (.some I I h2) I I (LeL.refl _) O I I I (evd [] [(30,true)] ?_ ⟨⟨_,I,h2⟩,O⟩);refine so ty47 ?_;refine evd [] [] (dr (rn0 (rc ty47) (.tup (.cons (.agg (qeeeeee ?_ ?_ ?_ ?_ ?_ ?_)) (qe ?_)))));rotate_left 7;refine so ty47 ?_;refine evd [] [] (dr (rn0 (rc ty47) (.tup (.cons (.agg (qeeeeee ?_ ?_ ?_ ?_ ?_ ?_)) (qe ?_)))));rotate_left 7;refine sqF ?_;refine so ty47 ?_;refine evd [] [] (dr (rn0 (rc ty47) (.tup (.cons (.agg (qeeeeee ?_ ?_ ?_ ?_ ?_ ?_)) (qe ?_)))));rotate_left 7;all_goals (first|rfl|(simp_all;done))
theorem zmX {x k:Int} (h1:k<=x) (h2:x<=255) (hk:0<=k):IntKind.i64.wrap (IntKind.u8.wrap (x-k))=x-k:=by
 rw[zfU,zdl oe];omega
theorem zo5 {s:Str} (h:zeB s):rgV s=⟨0,0,0⟩/\rgOk s=false:=⟨if_pos h,if_pos h⟩
theorem zoa {s:Str} (h:¬zeB s) (h1:((nth s 1).toNat:Int)=61):rgV s=⟨2,((nth s 0).toNat:Int)-97,((nth s 2).toNat:Int)-48⟩/\rgOk s=true:=by
 unfold rgV rgOk;rw[if_neg h,if_neg h,if_pos h1];exact⟨rfl,by rw[xax h1,Bool.or_true]⟩
theorem zlZ {s:Str} (h:¬zeB s) (h1:¬((nth s 1).toNat:Int)=61):rgV s=⟨1,((nth s 0).toNat:Int)-97,((nth s 2).toNat:Int)-48⟩/\rgOk s=decide (((nth s 1).toNat:Int)=60):=by
 unfold rgV rgOk;rw[if_neg h,if_neg h,if_neg h1];exact⟨rfl,by rw[xaw h1,Bool.or_false]⟩
theorem zfw {s:Str} (hs:s.length<=1000000000000):FnD Tryz.prog 26 [.d (.str s)] [] (.tup [.agg [.d (.i (rgV s).op),.d (.i (rgV s).var),.d (.i (rgV s).n)],.d (.bool (rgOk s))]) []:=by
 have v0:=zgC (nth s 0);have v2:=zgC (nth s 2);have b0:=(nth s 0).toNat_lt;have b2:=(nth s 2).toNat_lt;have q0:(¬s.length=3\/((nth s 0).toNat:Int)<97\/122<((nth s 0).toNat:Int)\/((nth s 2).toNat:Int)<48\/57<((nth s 2).toNat:Int))->rgV s=⟨0,0,0⟩/\rgOk s=false:=zo5;have q1:¬(¬s.length=3\/((nth s 0).toNat:Int)<97\/122<((nth s 0).toNat:Int)\/((nth s 2).toNat:Int)<48\/57<((nth s 2).toNat:Int))->((nth s 1).toNat:Int)=61->rgV s=⟨2,((nth s 0).toNat:Int)-97,((nth s 2).toNat:Int)-48⟩/\rgOk s=true:=zoa;have q2:¬(¬s.length=3\/((nth s 0).toNat:Int)<97\/122<((nth s 0).toNat:Int)\/((nth s 2).toNat:Int)<48\/57<((nth s 2).toNat:Int))->¬((nth s 1).toNat:Int)=61->rgV s=⟨1,((nth s 0).toNat:Int)-97,((nth s 2).toNat:Int)-48⟩/\rgOk s=decide (((nth s 1).toNat:Int)=60):=zlZ;generalize rgV s=g at *;generalize rgOk s=o at *;refine bd Tryz.f26 51 [31,35] [] fun _ _ _ _ hk=>?_;refine ab 3002 tz51 ?_;refine evs [31,35] [] ?_;apply sq<;>intro h1 h1p h1s<;>(try simp only[Q,xal] at h1p);refine sqT ?_;refine sqT ?_;refine sqT ?_;refine sqT ?_;refine bu [] [] st51 ?_;refine so ty51 ?_;refine evs [31,35] [] (rn0 (rc ty51) (.tup (.cons (.agg (qeee ?_ ?_ ?_)) (qe ?_))));rotate_left 4;refine xbO (i:=0) un9 (.some I I h1) I I I I (zaZ oe) ?_;refine evs [31,35] [(8,false)] ?_ ⟨⟨_,I,h1⟩,O⟩;apply sq<;>intro h3 h3p h3s<;>(try simp only[Q,xal] at h3p);refine sqT ?_;refine sqT ?_;refine sqT ?_;refine bu [] [] st51 ?_;refine so ty51 ?_;refine evs [31,35] [] (rn0 (rc ty51) (.tup (.cons (.agg (qeee ?_ ?_ ?_)) (qe ?_))));rotate_left 4;refine xbO (i:=0) un9 (.some I I h3) I I I I (zaZ oe) ?_;refine evs [31,35] [(13,false)] ?_ ⟨⟨_,I,h3⟩,O⟩;apply sq<;>intro h5 h5p h5s<;>(try simp only[Q,xal] at h5p);refine sqT ?_;refine sqT ?_;refine bu [] [] st51 ?_;refine so ty51 ?_;refine evs [31,35] [] (rn0 (rc ty51) (.tup (.cons (.agg (qeee ?_ ?_ ?_)) (qe ?_))));rotate_left 4;refine xbO (i:=2) un9 (.some I I h5) I I I I (zaZ oe) ?_;refine evs [31,35] [(18,false)] ?_ ⟨⟨_,I,h5⟩,O⟩;apply sq<;>intro h7 h7p h7s<;>(try simp only[Q,xal] at h7p);refine sqT ?_;refine bu [] [] st51 ?_;refine so ty51 ?_;refine evs [31,35] [] (rn0 (rc ty51) (.tup (.cons (.agg (qeee ?_ ?_ ?_)) (qe ?_))));rotate_left 4;refine xbO (i:=2) un9 (.some I I h7) I I I I (zaZ oe) ?_;refine evs [31,35] [(23,false)] ?_ ⟨⟨_,I,h7⟩,O⟩;apply sq<;>intro h9 h9p h9s<;>(try simp only[Q,xal] at h9p);refine bu [] [] st51 ?_;refine so ty51 ?_;refine evs [31,35] [] (rn0 (rc ty51) (.tup (.cons (.agg (qeee ?_ ?_ ?_)) (qe ?_))));rotate_left 4;refine xbO (i:=0) un9 .none I I I I (zaZ oe) ?_;refine xb7 .none I I I (xbG o9 un3 .none I I ?_);refine evd [31,35] [] (xbO (i:=2) un9 .none I I I I (zaZ oe) ?_);refine xb7 .none I I I (xbG o9 un3 .none I I ?_);refine bu [0,1,2] [_,_,_] st51 ?_;refine ab 3004 tz51 ?_;refine so ty51 ?_;refine dr (xbO (i:=1) un9 .none I I I I (zaZ oe) ?_);refine evs [31,35] [] ?_;apply sq<;>intro h10 h10p h10s<;>(try simp only[Q,xal] at h10p);refine so ty3 ?_;apply tv;refine xbO (i:=1) un9 .none I I I I (zaZ oe) ?_;refine evd [31,35] [] ?_;apply sq<;>intro h11 h11p h11s<;>(try simp only[Q,xal] at h11p);refine so ty51 ?_;refine evd [31,35] [] (dr (rn0 (rc ty51) (.tup (.cons (.agg (qeee ?_ ?_ ?_)) (qe ?_)))));rotate_left 4;refine xbO (i:=1) un9 (.some I I h11) I I I I (zaZ oe) ?_;refine evd [31,35] [(46,false)] ?_ ⟨⟨_,I,h11⟩,O⟩;refine so ty51 ?_;refine evd [31,35] [] (dr (rn0 (rc ty51) (.tup (.cons (.agg (qeee ?_ ?_ ?_)) (qe ?_)))));rotate_left 4;refine xbO (i:=1) un9 .none I I I I (zaZ oe) ?_;refine evd [31,35] [] ?_;apply sq<;>intro h12 h12p h12s<;>(try simp only[Q,xal] at h12p);refine so ty51 ?_;refine evd [31,35] [] (dr (rn0 (rc ty51) (.tup (.cons (.agg (qeee ?_ ?_ ?_)) (qe ?_)))));rotate_left 4;refine xbO (i:=1) un9 (.some I I h12) I I I I (zaZ oe) ?_;refine evd [31,35] [(46,false)] ?_ ⟨⟨_,I,h12⟩,O⟩;refine so ty51 ?_;refine evd [31,35] [] (dr (rn0 (rc ty51) (.tup (.cons (.agg (qeee ?_ ?_ ?_)) (qe ?_)))));rotate_left 4;all_goals (first|(exfalso;omega)|(rw[(q0 oe).1];all_goals rfl)|(rw[(q0 oe).2];all_goals rfl)|(rw[(q1 oe oe).1];all_goals first|rfl|exact xam D.i (zmX oe oe oe))|(rw[(q1 oe oe).2];all_goals first|rfl|exact xam D.bool (xax oe).symm|exact xam D.bool (xax oe)|exact xam D.bool (decide_eq_decide.2 oe))|(rw[(q2 oe oe).1];all_goals first|rfl|exact xam D.i (zmX oe oe oe))|(rw[(q2 oe oe).2];all_goals first|rfl|exact xam D.bool (xax oe).symm|exact xam D.bool (xax oe)|exact xam D.bool (decide_eq_decide.2 oe)))
theorem zkS {w:List Data}{t:Ty}{s:Str} (h0:zaO w t=true) (h1:¬s=[]){y:Str} (hy:y∈pcP s) (hb:zcG w t y=true):pcI w t s=none:=by
 unfold pcI;rw[if_neg (by rw[h0];simp),if_neg h1];split
 ·rfl
 ·rw[if_pos (List.any_eq_true.2 ⟨y,hy,hb⟩)]
theorem zjs {w:List Data}{t:Ty}{s:Str} (h0:zaO w t=true) (h1:¬s=[]) (h2:8<(pcP s).length):pcI w t s=none:=by
 unfold pcI;rw[if_neg (by rw[h0];simp),if_neg h1,if_pos h2]
theorem ziN {w:List Data}{t:Ty} (h0:zaO w t=true):pcI w t []=some []:=by
 unfold pcI;rw[if_neg (by rw[h0];simp),if_pos rfl]
theorem zke {w:List Data}{t:Ty}{s:Str} (h0:zaO w t=false):pcI w t s=none:=if_pos h0
theorem ziM {w:List Data}{t:Ty}{s:Str} (h0:zaO w t=true) (h1:¬s=[]) (h2:¬8<(pcP s).length) (h3:∀y∈pcP s,zcG w t y=false):
  pcI w t s=if za8 w t ((pcP s).map (piC w t))=true then some ((pcP s).map (piC w t)) else none:=by
 unfold pcI;rw[if_neg (by rw[h0];simp),if_neg h1,if_neg h2,if_neg (by rw[List.any_eq_true];rintro ⟨y,hy,hb⟩;rw[h3 y hy] at hb;cases hb)]
theorem zhg {w:List Data} (hs:WSmall w){a k:Int}{s:Str} (hsl:s.length<=1048576):
  FnD Tryz.prog 8 [.d (zam w),.agg [.d (.i a),.d (.i k)],.d (.str s)] [] (.tup [.d (zcx ((pcI w ⟨a,k⟩ s).getD [])),.d (.bool (pcI w ⟨a,k⟩ s).isSome)]) []:=by
 have h0:=zdO hs (a:=a) (b:=k);cases htv:zaO w ⟨a,k⟩ with
 |false=>
  rw[htv] at h0;rw[zke htv];refine bd Tryz.f8 75 [] [] fun _ _ _ _ hk=>?_;refine bx 3004 ?_;refine ev (wc zjC h0 I I ?_);refine ev ?_;apply sq<;>intro h1 h1p h1s<;>(try simp only[Q] at h1p);refine rn0 (r2 I I) (.tup (qne ?_ ?_));rotate_left 2;exfalso;simp at *;all_goals (rfl)
 |true=>
  rw[htv] at h0;obtain⟨wv,ht,_⟩:=zcU htv;have hw:=zdH hs wv;have hA:=zgc hs wv;have q1:=fun y=>zkS (s:=s) (y:=y) htv;have q2:=zjs (s:=s) htv;have q3:=ziN htv;have q4:=ziM (s:=s) htv;have hpl:∀y∈pcP s,y.length<=s.length:=fun y hy=>by have:=zfZ 47 s [] y hy;simpa using this
  have hcl:=fun y:Str=>zml 32 y;have hspl:FnD Tryz.prog 23 [.d (.str s),.d (.str [47])] [] (.d (zeN (pcP s))) []:=zf9 hsl;have hcut:=fun(y:Str) (hy:y∈pcP s)=>zg3 (s:=y) (c:=32) (by have:=hpl y hy;omega);have hrp:=fun(y:Str) (hy:y∈pcP s)=>zhK hw hA ht (s:=(cutB 32 y).1) (by have:=hpl y hy;have:=(hcl y).1;omega);have hrg:=fun(y:Str) (hy:y∈pcP s)=>zfw (s:=(cutB 32 y).2.1) (by have:=hpl y hy;have:=(hcl y).2;omega);have hpb:∀y,zcG w ⟨a,k⟩ y=(!rpOk w ⟨a,k⟩ (cutB 32 y).1||((cutB 32 y).2.2&& !rgOk (cutB 32 y).2.1)):=fun _=>rfl;have hpc1:∀y,(cutB 32 y).2.2=true->piC w ⟨a,k⟩ y=⟨(rpR w ⟨a,k⟩ (cutB 32 y).1).1,rgV (cutB 32 y).2.1⟩:=fun y h=>by unfold piC;rw[if_pos h]
  have hpc0:∀y,(cutB 32 y).2.2=false->piC w ⟨a,k⟩ y=⟨(rpR w ⟨a,k⟩ (cutB 32 y).1).1,⟨0,0,0⟩⟩:=fun y h=>by unfold piC;rw[if_neg (by rw[h];simp)]
  have hpok:∀y,(piC w ⟨a,k⟩ y).pat.ok:=fun y=>(zfT hA 10 (t:=⟨a,k⟩) ⟨(cutB 32 y).1,false⟩ ht).1;have hcv:=fun(l:List Str) (hl:l.length<=8)=>zep hs (a:=a) (k:=k) (l:=l.map (piC w ⟨a,k⟩)) ⟨by rw[xac];omega,fun c hc=>by obtain⟨y,_,rfl⟩:=List.mem_map.1 hc;exact hpok y⟩;have hpbT:∀y,(rpOk w ⟨a,k⟩ (cutB 32 y).1=false\/((cutB 32 y).2.2=true/\rgOk (cutB 32 y).2.1=false))->zcG w ⟨a,k⟩ y=true:=fun y h=>by
   rw[hpb];rcases h with h|⟨h1,h2⟩
   ·rw[h];rfl
   ·rw[h1,h2];simp
  have hpbF:∀y,rpOk w ⟨a,k⟩ (cutB 32 y).1=true->((cutB 32 y).2.2=false\/rgOk (cutB 32 y).2.1=true)->zcG w ⟨a,k⟩ y=false:=fun y h1 h=>by
   rw[hpb,h1];rcases h with h|h
   ·rw[h];rfl
   ·rw[h];simp
  generalize pcP s=P at *;by_cases hsn:s=[]
  ·subst hsn;rw[q3];refine bd Tryz.f8 75 [] [] fun _ _ _ _ hk=>?_;refine bx 3004 ?_;refine ev (wc zjC h0 I I ?_);refine ev ?_;apply sq<;>intro h1 h1p h1s<;>(try simp only[Q] at h1p);exfalso;simp at *;apply sq<;>intro h2 h2p h2s<;>(try simp only[Q] at h2p);refine rn0 (r2 I I) (.tup (qne ?_ ?_));rotate_left 2;exfalso;simp at *;all_goals (rfl)
  refine bd Tryz.f8 75 [9] [] fun _ _ _ _ hk=>?_;refine bx 3004 ?_;refine evs [9] [] (wc zjC h0 I I ?_);refine evs [9] [] ?_;apply sq<;>intro h1 h1p h1s<;>(try simp only[Q,xal,xac] at h1p);exfalso;simp at *;apply sq<;>intro h2 h2p h2s<;>(try simp only[Q,xal,xac] at h2p);exfalso;exact hsn ol;refine wc zpY hspl I I ?_;refine evs [9] [] ?_;apply sq<;>intro h3 h3p h3s<;>(try simp only[Q,xal,xac] at h3p);refine rn0 (r2 I I) (.tup (qne ?_ ?_));rotate_left 2;refine xbw 1 9 .none I I ?_;apply tv;refine xaD (ι:=List (Str)×List (Str)) hk (fun x=>[(32,.d (.i (x.1.length:Int))),(9,.gl 1 ((x.1.map (piC w ⟨a,k⟩)).map Cl.c))]) [6,7,11,12,13,14,15,16,17,18,33,34,35,36,37,38,39,40,41,42,43,44,45,46,47,48,49,50,51,52,53,54,55,56,57,58,59,60,61,62,63,64,65,66,67,68] (fun x=>[(1,some (.tok (((x.1.map (piC w ⟨a,k⟩)).map Cl.c)).length 9))]) (fun x=>x.1++x.2=P/\∀z∈x.1,zcG w ⟨a,k⟩ z=false) (fun x=>x.2.length) ([],P) ⟨by simp,by simp⟩ ⟨⟨_,I,xaT ?_⟩,⟨⟨_,I,LeA.glg ?_⟩,O⟩⟩ ⟨zar ?_,O⟩ (fun x=>rfl) (fun x hg1=>?_);iterate 3 focus (first|rfl|(simp;done)|omega|(simp only[xag,xaf,List.map_nil];rw[hpc1 y oq];done)|(simp only[xag,xaf,List.map_nil];rw[hpc0 y oq];done)|(simp;omega))
  obtain⟨pre,rest⟩:=x;dsimp only at hg1 ⊢;refine evc [9] [] ?_;apply sq<;>intro h4 h4p h4s<;>(try simp only[Q,xal,xac] at h4p);rcases rest with _|⟨y,rest⟩
  ·exfalso;simp_all
  refine ixq sl43 I I I (zbd hg1.1) I (evs [9] [] (wc zpZ (hcut y (by rw[<-hg1.1];simp)) I I ?_));refine evs [9] [] (wc zp0 (hrp y (by rw[<-hg1.1];simp)) I I ?_);refine evs [9] [] (ab 3015 tz47 ?_);refine so ty47 ?_;refine evs [9] [] (bu [0] [_] st53 ?_);refine ab 3017 tz53 ?_;refine so ty53 ?_;apply tv;apply sq<;>intro h5 h5p h5s<;>(try simp only[Q,xal,xac] at h5p);refine wc zp1 (hrg y (by rw[<-hg1.1];simp)) I I ?_;refine evs [9] [] (so ty51 ?_);refine evs [9] [] ?_;apply sq<;>intro h6 h6p h6s<;>(try simp only[Q,xal,xac] at h6p);refine sqT ?_;refine rn0 (r2 I I) (.tup (qne ?_ ?_));rotate_left 2;apply sq<;>intro h8 h8p h8s<;>(try simp only[Q,xal,xac] at h8p);refine rn0 (r2 I I) (.tup (qne ?_ ?_));rotate_left 2;refine si [0] [_] sl26 tz53 ?_;refine Walk.append sl26 zz53 I .none I I I I (ze5 I ua) (by intro x hx;simp at hx;subst hx;rfl) ot ot ?_;refine asg ?_;apply tv;refine ar (xaj ((pre++[y],rest)) ⟨⟨(by have hz:=hg1.1;rw[<-hz];simp),(by intro z hz;rcases List.mem_append.1 hz with hz|hz;exact hg1.2 z hz;rw[List.mem_singleton.1 hz];exact hpbF y oq (by first|exact .inl ol|exact .inr ol|exact .inl o8|exact .inr o8))⟩,oh,sx ⟨⟨_,I,xaT ?_⟩,⟨⟨_,I,LeA.glg ?_⟩,O⟩⟩ ⟨zar ?_,O⟩⟩);iterate 3 focus (first|rfl|(simp;done)|omega|(simp only[xag,xaf,List.map_nil];rw[hpc1 y oq];done)|(simp only[xag,xaf,List.map_nil];rw[hpc0 y oq];done)|(simp;omega))
  apply sq<;>intro h9 h9p h9s<;>(try simp only[Q,xal,xac] at h9p);refine sqT ?_;refine rn0 (r2 I I) (.tup (qne ?_ ?_));rotate_left 2;apply sq<;>intro h11 h11p h11s<;>(try simp only[Q,xal,xac] at h11p);refine rn0 (r2 I I) (.tup (qne ?_ ?_));rotate_left 2;refine si [0] [_] sl26 tz53 ?_;refine Walk.append sl26 zz53 I .none I I I I (ze5 I ua) (by intro x hx;simp at hx;subst hx;rfl) ot ot ?_;refine asg ?_;apply tv;refine ar (xaj ((pre++[y],rest)) ⟨⟨(by have hz:=hg1.1;rw[<-hz];simp),(by intro z hz;rcases List.mem_append.1 hz with hz|hz;exact hg1.2 z hz;rw[List.mem_singleton.1 hz];exact hpbF y oq (by first|exact .inl ol|exact .inr ol|exact .inl o8|exact .inr o8))⟩,oh,sx ⟨⟨_,I,xaT ?_⟩,⟨⟨_,I,LeA.glg ?_⟩,O⟩⟩ ⟨zar ?_,O⟩⟩);iterate 3 focus (first|rfl|(simp;done)|omega|(simp only[xag,xaf,List.map_nil];rw[hpc1 y oq];done)|(simp only[xag,xaf,List.map_nil];rw[hpc0 y oq];done)|(simp;omega))
  have hrest:rest=[]:=by
   rcases rest with _|⟨a,b⟩
   ·rfl
   ·exfalso;have hz:=xam List.length (hg1.1);simp only[xaa,xab,xac] at hz;omega
  subst hrest;refine Walk.call (cr:=[]) zp2 (hcv pre (by have h9:=xam List.length hg1.1;simp only[xaq] at h9;omega)) I .none I I (.cons (.refl _) (.cons (.refl _) (.cons (.gl _ _) .nil))) O I I I ?_;refine evs [9] [] ?_;apply sq<;>intro h12 h12p h12s<;>(try simp only[Q,xal,xac] at h12p);refine rn0 (r2 I I) (.tup (qne ?_ ?_));rotate_left 2;refine rn0 (r2 I I) (.tup (qge ?_ ?_));rotate_left 2;all_goals (first|contradiction|(rw[q2 hsn oe];all_goals rfl)|(rw[q1 y hsn (by rw[<-hg1.1];simp) (hpbT y (by first|exact .inl ol|exact .inr ⟨by assumption,by assumption⟩))];all_goals rfl)|(have h9:pre=P:=(by have h8:=hg1.1;simpa using h8);subst h9;rw[q4 hsn oe hg1.2];first|(rw[if_pos ol];all_goals rfl)|(rw[if_neg (ne_true_of_eq_false ol)];all_goals rfl)))
mutual
inductive LentT (id n:Nat):AV->AV->Prop
 |le {x y} (h:LeA x y):LentT id n x y
 |gt {xs:List (List D)} (hn:n=xs.length):LentT id n (.gt id xs) (.d (.sl xs))
 |agg {cs ds} (h:LentTL id n cs ds):LentT id n (.agg cs) (.agg ds)
inductive LentTL (id n:Nat):List AV->List AV->Prop
 |nil:LentTL id n [] []
 |cons {x y l m} (h:LentT id n x y) (t:LentTL id n l m):LentTL id n (x::l) (y::m)
end
theorem LentTL.len {id n:Nat}:∀ {cs ds:List AV},LentTL id n cs ds->cs.length=ds.length
 | [],_,h=>by cases h;rfl
 |x::r,_,h=>by cases h with|cons h t=>simp[t.len]
theorem LentTL.at {id n:Nat}:∀ {cs ds:List AV},LentTL id n cs ds->∀i (hi:i<cs.length) (hj:i<ds.length),LentT id n cs[i] ds[i]
 | [],_,_,i,hi,_=>by simp at hi
 |x::r,_,h,i,hi,hj=>by
  cases h with
  |cons h t=>
   cases i with
   |zero=>exact h
   |succ i=>exact LentTL.at t i (by simpa using hi) (by simpa using hj)
inductive Has (id:Nat) (zs:List (List D)):AV->Prop
 |here:Has id zs (.gt id zs)
 |agg {cs:List AV}{x:AV} (i:Nat) (h:cs[i]?=some x) (hx:Has id zs x):Has id zs (.agg cs)
theorem RelA.has {G:Gh}{T:TokF}{w:World}{id:Nat}{zs:List (List D)}{x:AV} (hx:Has id zs x):∀ {v:Value},RelA G T w x v->∃u,RelA G T w (.gt id zs) u:=by
 induction hx with
 |here=>exact fun h=>⟨_,h⟩
 |agg i h _ ih=>
  intro v hv;cases hv with
  |agg hn hr=>
   obtain⟨hi,e⟩:=List.getElem?_eq_some_iff.1 h;have:=hr i hi oe;rw[e] at this;exact ih this
section
variable {c:Ctx}{G:Gh}{s:St}{a:Act}{w:World}{id n k:Nat}
theorem zqI (hr:R c G s a w) (hh:getH s.hp id=some (.tok n k)){zs:List (List D)}{u:Value} (hu:RelA G (tokf s.hp) w (.gt id zs) u) (hn:n=zs.length){r:Res}{b:Nat} (hb:zch G [(id,r)] b=true):G.F b=0/\b<w.heap.size:=by
 obtain⟨p,hp,hbp⟩:=zfh.1 hb;rw[List.mem_singleton.1 hp] at hbp;have hbd:=hr.heap id _ hh b hbp;obtain⟨_,hcl⟩:=hu.gt_inv;obtain⟨_,htip⟩:=(hcl _ _ (zaj.2 hh)).2 hn;rcases htip with ⟨h1,_⟩|⟨b0,cap,cs,e,Ss,h1,h2,h3,h4,h5,h6,h7,_⟩
 ·rw[h1] at hbp;simp at hbp
 ·exact⟨h7 b hbp,hbd⟩
theorem zoK (hr:R c G s a w) (hh:getH s.hp id=some (.tok n k)){r:Res} (hle:∀b o,o<G.F b->o<(zbK G w [(id,r)]).F b/\w.cell? ⟨b,o,none⟩=w.cell? ⟨b,o,none⟩){x:AV}{v:Value} (hR:RelA G (tokf s.hp) w x v):
  ∀ {y:AV},LentT id n x y->RelA (zbK G w [(id,r)]) (fun _=>none) w y v:=by
 have base:∀ {x:AV}{v:Value},RelA G (tokf s.hp) w x v->RelA (zbK G w [(id,r)]) (fun _=>none) w x v:=fun h=>
  h.mono hle (fun _ _=> .inl rfl) (fun _ _ p hp=>by cases hp)
 induction hR with
 | @gt id2 xs v hv ht=>
  intro y hy;cases hy with
  |le h=>exact(base (.gt hv ht)).le h
  |gt hn=>
   obtain⟨hk,htip⟩:=(ht _ _ (zaj.2 hh)).2 hn;rcases htip with ⟨h1,h2,h3⟩|⟨b,cap,cs,e,Ss,h1,h2,h3,h4,h5,h6,h7,h8,h9⟩
   ·have:xs=[]:=List.eq_nil_of_length_eq_zero oe;subst this;rw[h3];exact .d .nil
   ·subst hn;have hS:∀x,x∈G.loc id->szB w x<=(zbK G w [(id,r)]).F x:=fun x hx=>by
     have hl:zch G [(id,r)] x=true:=zfh.2 ⟨(id,r),by simp,hx⟩;simp only[zbK,hl,cond_true];exact Nat.le_refl _
    have hbl:b∈G.loc id:=by rw[h1];simp
    have hsz:szB w b=cs.size:=by simp[szB,h3]
    have hcs:xs.length*k<=cs.size:=Nat.le_trans (xav _ h5) h4;rw[h2];refine .d (.sl xs k b 0 cap (fun n=>cs.getD n undef) hk h5 (fun q hq=>⟨by have:=hS b hbl;omega, ?_⟩) (fun i hi j hj=>?_))
    ·have:q<cs.size:=by omega
     simp[World.cell?,h3,this]
    ·have hjk:j<k:=by rw[<-hk _ (xao hi)];exact hj
     refine(h8 i hi j hj).toD (fun x hx=>hS x ?_);rw[h1];exact List.mem_cons_of_mem _ (List.mem_flatMap.2 ⟨i*k+j,List.mem_range.2 (zb7 hi hjk),hx⟩)
 | @agg cs vs hn h ih=>
  intro y hy;cases hy with
  |le hle=>exact(base (.agg hn h)).le hle
  |agg hl=>
   refine .agg (by rw[hn,hl.len]) (fun i hi hv=>?_);have hc:i<cs.length:=by rw[hl.len];exact hi
   exact ih i hc hv (hl.at i hc hi)
 |d h=>intro y hy;cases hy with|le hle=>exact(base (.d h)).le hle
 |gl h ht=>intro y hy;cases hy with|le hle=>exact(base (.gl h ht)).le hle
 |gv h ht=>intro y hy;cases hy with|le hle=>exact(base (.gv h ht)).le hle
 |ms h ht hc=>intro y hy;cases hy with|le hle=>exact(base (.ms h ht hc)).le hle
 |ref h ht=>intro y hy;cases hy with|le hle=>exact(base (.ref h ht)).le hle
 |mo h hT hc ho=>intro y hy;cases hy with|le hle=>exact(base (.mo h hT hc ho)).le hle
 |mc h hT hc=>intro y hy;cases hy with|le hle=>exact(base (.mc h hT hc)).le hle
 |gaD hv hT=>intro y hy;cases hy with|le hle=>exact(base (.gaD hv hT)).le hle
 |gpD hv hT=>intro y hy;cases hy with|le hle=>exact(base (.gpD hv hT)).le hle
 |gpL hj hT hl hF hb hs hr ih=>intro y hy;cases hy with|le hle=>exact(base (.gpL hj hT hl hF hb hs hr)).le hle
 |ght hv h=>intro y hy;cases hy with|le hle=>exact(base (.ght hv h)).le hle
 |gh hv h=>intro y hy;cases hy with|le hle=>exact(base (.gh hv h)).le hle
 |gaL hj hT hl hF hb hck hn hcs hr ih=>intro y hy;cases hy with|le hle=>exact(base (.gaL hj hT hl hF hb hck hn hcs hr)).le hle
 |mapr h ht=>intro y hy;cases hy with|le hle=>exact(base (.mapr h ht)).le hle
 |fn hn h ih=>intro y hy;cases hy with|le hle=>exact(base (.fn hn h)).le hle
 |tup hn h ih=>intro y hy;cases hy with|le hle=>exact(base (.tup hn h)).le hle
 |nils=>intro y hy;cases hy with|le hle=>exact(base .nils).le hle
 |sn h hn=>intro y hy;cases hy with|le hle=>exact(base (.sn h hn)).le hle
 |any v=>intro y hy;cases hy with|le hle=>exact(base (.any v)).le hle
theorem zn7 {lr:List (Nat×Res)} (hr:R c G s a w) (hz:∀ {b:Nat},zch G lr b=true->G.F b=0/\b<w.heap.size){f:FuncId}{avs:List AV}{r:AV}{vals:Array Value} (hf:FnD c.P f avs [] r [])
  (hargs:AllR (zbK G w lr) (fun _=>none) w avs vals) (hfl:(zbs r&&r.ids.isEmpty)=true):
  Calls c.P f vals w fun e w'=>∃v,e = .returned v/\∃G',R c G' s a w'/\RelA G' (tokf s.hp) w' r v:=by
 have hTn:tokf []=fun _=>none:=by funext i;rfl
 have hok:HOK (zbK G w lr) w [] avs vals:=by
  refine⟨by rw[hTn];exact hargs,fun id r h=>(by cases h),fun id id' h1=>(by cases h1),fun b hb=>?_⟩;simp only[zbK];cases hb':zch G lr b with
  |true=>have:=(hz hb').2;omega
  |false=>exact hr.top b hb
 refine(hf _ w vals hok).mono ?_;rintro e w' ⟨v,r',hp0,G',rfl,⟨rfl,rfl⟩,hret⟩
 refine⟨v,rfl, ?_⟩;have hown:∀b,b∉zbY (zbK G w lr) []:=fun b hb=>by simp[zbY] at hb
 let F2:Nat->Nat:=fun b=>bif zch G lr b then 0 else G'.F b
 have hnl:∀b,w.heap.size<=b->zch G lr b=false:=fun b hb=>by
  cases hb':zch G lr b with
  |true=>have:=(hz hb').2;omega
  |false=>rfl
 have hr2:R c ⟨F2,G.loc⟩ s a w':=by
  refine hr.grow (fun b hb=>?_) I hret.frm.os hret.frm.tape hret.frm.output hret.frm.size (fun b hb=>?_)
  ·obtain⟨h1,h2⟩:=hret.frm.block b hb (hown b);refine⟨h1, ?_⟩;simp only[F2];cases hb':zch G lr b with
   |true=>exact(hz hb').1.symm
   |false=>simp only[cond_false,h2,zbK,hb']
  ·have:=hret.frm.size;simp only[F2,hnl b oe,cond_false];exact hret.top b hb
 simp only[xad,List.isEmpty_iff] at hfl;refine⟨_,hr2, ?_⟩;have hi:∀id,id∈r'.ids->False:=fun id hid=>by rw[hfl.2] at hid;simp at hid
 exact(hret.res.flat (G':=⟨F2,G'.loc⟩) hfl.1 (fun _ _=>rfl) (fun id hid=>(hi id hid).elim)).mono (fun _ _ ho=>⟨ho,rfl⟩) (fun id hid=>(hi id hid).elim) (fun id hid=>(hi id hid).elim)
end
section
variable {c:Ctx}{all:Array Oper}{chk:List Rec->Prop}{os:List Oper}{recs:List Rec}{env:Env}{hp:Hp}{Q:St->Prop}
variable {d ty:Nat}{pos:String}{af:Array Edge}{g:Option (Nat×Bool)}{pg:List (Nat×AV)}
theorem xbQ {f:FuncId}{args:Array Operand}{ats:Array TypeId}{xs:List Operand}{vs avs:List AV}{r:AV}{id n k:Nat}{zs:List (List D)}{x0:AV} (j:Nat) (hc:Callee c.P f) (hf:FnD c.P f avs [] r [])
  (hargs:args=xs.toArray) (hg:GH all env g pg) (hd:Nat.blt d c.n=true) (hx:opdL env xs=some vs) (hle:LentTL id n vs avs) (htok:getH hp id=some (.tok n k)) (hj:vs[j]?=some x0) (hhas:Has id zs x0) (hn0:n=zs.length) (hfl:(zbs r&&r.ids.isEmpty)=true)
  (hn:Walk c all chk os (zak (pg++opFL xs vs) [(id,.tok n k)] [] ⟨some (d,r),[]⟩::recs) ⟨(d,r)::env,hp⟩ Q):
  Walk c all chk (⟨some d,.call ⟨.value (.func f),args,ats⟩,ty,pos,af,g⟩::os) recs ⟨env,hp⟩ Q:=by
 subst hargs;refine⟨pg++opFL xs vs,[(id,.tok n k)],[],_, ?_,zap hg.facts (zbH hx),hh1 htok,by simp,hn⟩;intro s a w hrel hp' hh hcr' K Q' hK;obtain⟨G,hr⟩:=hrel;have hrl:=zb9 hr (zbI hx (fun p hm=>hp' p (by simp[hm])));have hall':∀i (hi:i<vs.length) (hv:i<(xs.map a.eval).toArray.size),RelA G (tokf s.hp) w vs[i] (xs.map a.eval).toArray[i]:=fun i hi hv=>by
  have:=hrl.2 i hi (by rw[<-hrl.1];exact hi);simpa using this
 have hbx:getH s.hp id=some (.tok n k):=hh1' hh;obtain⟨hjl,hje⟩:=List.getElem?_eq_some_iff.1 hj;obtain⟨u,hu⟩:=(by have:=hall' j hjl (by simp[<-hrl.1];exact hjl);rw[hje] at this;exact RelA.has hhas this:∃u,RelA G (tokf s.hp) w (.gt id zs) u);have hz:∀ {b:Nat},zch G [(id,Res.tok n k)] b=true->G.F b=0/\b<w.heap.size:=fun hb=>zqI hr hbx hu hn0 hb;have hle':∀b o,o<G.F b->o<(zbK G w [(id,Res.tok n k)]).F b/\w.cell? ⟨b,o,none⟩=w.cell? ⟨b,o,none⟩:=fun b o ho=>by
  refine⟨?_,rfl⟩;simp only[zbK];cases hb:zch G [(id,Res.tok n k)] b with
  |true=>rw[(hz hb).1] at ho;omega
  |false=>exact ho
 have hcalls:=zn7 (lr:=[(id,Res.tok n k)]) hr hz hf (vals:=(xs.map a.eval).toArray) ⟨by simp[<-hle.len,hrl.1],fun i hi hv=>by
  have hc:i<vs.length:=by rw[hle.len];exact hi
  exact zoK hr hbx hle' (hall' i hc hv) (hle.at i hc hi)⟩ hfl
 unfold wpO;rw[if_pos (hg.gf.wanted hr (fun p hm=>hp' p (by simp[hm])))];unfold Oper.wp;have hrun:(execOp a.eval ⟨some d,.call ⟨.value (.func f),xs.toArray,ats⟩,ty,pos,af,g⟩).run c.P w = .ok (.enter f (xs.map a.eval).toArray) w:=by
  have:=hc.run (xs.map a.eval).toArray w;simp only[execOp,resolve,Sem.run_bind,Act.eval,Deferred.ofValue,Sem.run_pure,Result.andThen_ok,invoke];simpa using this
 rw[hrun,Oper.upon_enter];refine hcalls.mono ?_;rintro e w' ⟨v,rfl,G',hR,hA⟩
 exact hK _ _ ⟨G',hR.put hA hd⟩
end
end Go.Proofs.YtcjojgpodcjfcaaGreatDoor
