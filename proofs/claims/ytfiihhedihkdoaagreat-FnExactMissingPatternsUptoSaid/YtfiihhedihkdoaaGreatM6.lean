/-
  THE LAW FnExactMissingPatterns: whatever the arguments of bulk at most 1048576 are, the call returns true, and the arguments read as before.
  Conditions: the bulk alone.
-/
import Derived.Test.YtfiihhedihkdoaaGreatM5
namespace Go.Proofs.YtfiihhedihkdoaaGreat
open Go
set_option linter.unusedSimpArgs false
set_option linter.unusedVariables false
theorem zm0 (L:List Nat) (hp:Hp) (i:Nat):getH (L.map (fun j=>(j,(none:Option Res)))++hp) i=if i∈L then none else getH hp i:=by
 induction L with
 |nil=>simp
 |cons x r ih=>
  simp only[List.map_cons,List.cons_append,zai,List.mem_cons]
  by_cases h:i=x
  ·subst h;simp
  ·simp[h,ih]
section
variable {c:Ctx}
theorem R.drop {G:Gh}{s:St}{a:Act}{w:World} (hr:R c G s a w) (L:List Nat) (hk:∀i l,c.kept i=some l→i∉L):R c G ⟨s.env,L.map (fun j=>(j,none))++s.hp⟩ a w:=by
 have hg:=zm0 L s.hp
 have hT:∀i p,tokf (L.map (fun j=>(j,(none:Option Res)))++s.hp) i=some p→tokf s.hp i=some p:=fun i p h=>by
  obtain⟨n,k⟩:=p
  have:=zap.1 h
  rw[hg] at this
  split at this
  ·cases this
  ·exact zap.2 this
 have hm:∀ {x:AV}{v:Value},RelA G (tokf s.hp) w x v→RelA G (tokf (L.map (fun j=>(j,(none:Option Res)))++s.hp)) w x v:=fun hx=>
  hx.mono (fun _ _ ho=>⟨ho,rfl⟩) (fun _ _=> .inl rfl) (fun i _ p hp=>⟨hT i p hp,fun _ _=>⟨rfl,rfl⟩⟩)
 have hs:∀i r,getH (L.map (fun j=>(j,(none:Option Res)))++s.hp) i=some r→getH s.hp i=some r:=fun i r h=>by
  rw[hg] at h
  split at h
  ·cases h
  ·exact h
 have hss:∀i,(getH (L.map (fun j=>(j,(none:Option Res)))++s.hp) i).isSome→(getH s.hp i).isSome:=fun i h=>by
  obtain⟨r,hr⟩:=Option.isSome_iff_exists.1 h
  rw[hs i r hr];rfl
 refine⟨hr.size,hr.defers,fun i v h=>hm (hr.slots i v h),fun i r h=>?_,fun i j h1 h2=>hr.disj i j (hss i h1) (hss j h2),fun i h=>hr.new i (hss i h),hr.frm,hr.top,fun i l hl=>?_⟩
 ·have hh:=hr.heap i r (hs i r h)
  cases r with
  |box cs=>
   obtain⟨b,vs,e,h1,h2,h3,h4,h5⟩:=hh
   exact⟨b,vs,e,h1,h2,h3,h4,fun j hj hv=>hm (h5 j hj hv)⟩
  |tok m k=>exact hh
  |map ks=>exact hh
  |tree cs=>exact zbx hh rfl (fun _ _=>⟨rfl,rfl⟩) (Nat.le_refl _) (fun _ _ _=>hm)
 ·obtain⟨k1,k2,k3⟩:=hr.kept i l hl
  refine⟨k1, ?_, ?_⟩
  ·show(getH (L.map (fun j=>(j,(none:Option Res)))++s.hp) i).isSome
   rw[hg,if_neg (hk i l hl)];exact k2
  ·show tokf (L.map (fun j=>(j,(none:Option Res)))++s.hp) i=none
   cases h:tokf (L.map (fun j=>(j,(none:Option Res)))++s.hp) i with
   |none=>rfl
   |some p=>rw[hT i p h] at k3;cases k3
theorem R.retokG {G G':Gh}{s:St}{a:Act}{w w':World} (hr:R c G s a w){id n n' k:Nat} (htok:getH s.hp id=some (.tok n k)) (hlt:n<n')
  (hF:∀b o,o<G.F b→o<G'.F b∧w'.cell? ⟨b,o,none⟩=w.cell? ⟨b,o,none⟩) (hloc:∀i,i≠id→G'.loc i=G.loc i)
  (hoth:∀b,b<w.heap.size→b∉G.loc id→w'.heap[b]?=w.heap[b]?∧G'.F b=G.F b)
  (hid:∀b,b∈G'.loc id→b<w'.heap.size) (hnew:∀b,b∈G'.loc id→b∈G.loc id∨w.heap.size≤b∨((b∈c.own∨c.w0.heap.size≤b)∧∀i,i≠id→(getH s.hp i).isSome→b∉G.loc i))
  (hos:w'.os=w.os) (htp:w'.tape=w.tape) (hou:w'.output=w.output) (hsz:w.heap.size≤w'.heap.size) (htop:∀b,w'.heap.size≤b→G'.F b=0):
  R c G' { s with hp:=(id,some (.tok n' k))::s.hp } a w':=by
 have hT:tokf s.hp id=some (n,k):=zap.2 htok
 have hT1:tokf ((id,some (.tok n' k))::s.hp) id=some (n',k):=zap.2 (by rw[zai,if_pos rfl])
 have hT2:∀i,i≠id→tokf ((id,some (.tok n' k))::s.hp) i=tokf s.hp i:=fun i hi=>by
  unfold tokf
  rw[zai,if_neg hi]
 have bound:∀i r,getH s.hp i=some r→∀b,b∈G.loc i→b<w.heap.size:=fun i r h=>(hr.heap i r h).bound
 have apart:∀i r,i≠id→getH s.hp i=some r→∀b,b∈G.loc i→b∉G.loc id:=fun i r hi h b hb=>hr.disj i id (by rw[h];rfl) (by rw[htok];rfl) hi b hb
 have hm:∀ {x:AV}{v:Value},RelA G (tokf s.hp) w x v→RelA G' (tokf ((id,some (.tok n' k))::s.hp)) w' x v:=fun hx=>
  hx.retok hF hT hlt hT1 hT2 hloc (fun i p hi hp b hb=>by
   obtain⟨m,k'⟩:=p
   have h1:=zap.1 hp
   exact hoth b (bound i _ h1 b hb) (apart i _ hi h1 b hb))
 have hsome:∀i,(getH ((id,some (.tok n' k))::s.hp) i).isSome→(getH s.hp i).isSome:=fun i h=>by
  rw[zai] at h
  split at h
  ·rename_i e;subst e;rw[htok];rfl
  ·exact h
 have hidnew:=hr.new id (by rw[htok];rfl)
 have far:∀b,b∈G'.loc id→∀i r,i≠id→getH s.hp i=some r→b∉G.loc i:=fun b hb i r hi h hbj=>by
  rcases hnew b hb with h1|h1|h1
  ·exact apart i r hi h b hbj h1
  ·have:=bound i r h b hbj;omega
  ·exact h1.2 i hi (by rw[h];rfl) hbj
 refine⟨hr.size,hr.defers,fun i v h=>hm (hr.slots i v h),fun i r h=>?_,fun i j h1 h2 h3 b hb=>?_,fun i h b hb=>?_,
  hr.frm.trans (own1:=G.loc id) ⟨hos,htp,hou,hsz,hoth,hF⟩ hidnew,htop,fun i l hl=>?_⟩
 ·rw[zai] at h
  by_cases hi:i=id
  ·subst hi
   rw[if_pos rfl] at h
   cases h
   exact hid
  ·rw[if_neg hi] at h
   have hh:=hr.heap i r h
   have ho:∀b,b∈G.loc i→w'.heap[b]?=w.heap[b]?∧G'.F b=G.F b:=fun b hb=>hoth b (bound i r h b hb) (apart i r hi h b hb)
   cases r with
   |box cs=>
    obtain⟨b,vs,e,h1,h2,h3,h4,h5⟩:=hh
    obtain⟨o1,o2⟩:=ho b (by simp[h1])
    exact⟨b,vs,e,(hloc i hi).trans h1,o1.trans h2,h3,o2.trans h4,fun j hj hv=>hm (h5 j hj hv)⟩
   |tok m k'=>exact fun b h1=>Nat.lt_of_lt_of_le (hh b (by rw[hloc i hi] at h1;exact h1)) (by omega)
   |map ks=>
    obtain⟨b,es,cl,h1,h2,h3,h4⟩:=hh
    obtain⟨o1,o2⟩:=ho b (by simp[h1])
    exact⟨b,es,cl,(hloc i hi).trans h1,o1.trans h2,o2.trans h3,h4⟩
   |tree cs=>exact zbx hh (hloc i hi) ho (by omega) (fun _ _ _=>hm)
 ·have s1:=hsome i h1
  have s2:=hsome j h2
  obtain⟨r1,hr1⟩:=Option.isSome_iff_exists.1 s1
  obtain⟨r2,hr2⟩:=Option.isSome_iff_exists.1 s2
  by_cases hi:i=id
  ·subst hi
   rw[hloc j (Ne.symm h3)]
   exact far b hb j r2 (Ne.symm h3) hr2
  ·rw[hloc i hi] at hb
   by_cases hj:j=id
   ·subst hj
    exact fun hbj=>far b hbj i r1 hi hr1 hb
   ·rw[hloc j hj]
    exact hr.disj i j s1 s2 h3 b hb
 ·have s1:=hsome i h
  by_cases hi:i=id
  ·subst hi
   rcases hnew b hb with h' | h' | h'
   ·exact hidnew b h'
   ·right;have:=hr.frm.size;omega
   ·exact h'.1
  ·rw[hloc i hi] at hb
   exact hr.new i s1 b hb
 ·have hk:=hr.kept i l hl
  have hi:i≠id:=fun e=>by subst e;rw[hT] at hk;simp at hk
  refine⟨(congrArg List.head? (hloc i hi)).trans hk.1, ?_,(hT2 i hi).trans hk.2.2⟩
  show(getH ((id,some (.tok n' k))::s.hp) i).isSome
  rw[zai,if_neg hi]
  exact hk.2.1
inductive RowT (hp:Hp):List AV→List D→List (Nat×Nat×Nat)→Prop
 |nil:RowT hp [] [] []
 |sc {x cs ds js} (hs:zjP x=true) (h:RowT hp cs ds js):RowT hp (.d x::cs) (x::ds) js
 |ni {cs ds js} (h:RowT hp cs ds js):RowT hp (.nils::cs) (.sl []::ds) js
 |gt {j zs n k cs ds js} (hj:getH hp j=some (.tok n k)) (hn:n=zs.length) (h:RowT hp cs ds js):RowT hp (.gt j zs::cs) (.sl zs::ds) ((j,n,k)::js)
theorem RowT.toks {hp:Hp}{cs:List AV}{ds:List D}{js:List (Nat×Nat×Nat)} (h:RowT hp cs ds js):∀q,q∈js→getH hp q.1=some (.tok q.2.1 q.2.2):=by
 induction h with
 |nil=>intro q hq;simp at hq
 |sc _ _ ih=>exact ih
 |ni _ ih=>exact ih
 |gt hj _ _ ih=>
  intro q hq
  rcases List.mem_cons.1 hq with rfl|hq
  ·exact hj
  ·exact ih q hq
theorem RowT.move {hp hp':Hp}{cs:List AV}{ds:List D}{js:List (Nat×Nat×Nat)} (h:RowT hp cs ds js):(∀q,q∈js→getH hp' q.1=some (.tok q.2.1 q.2.2))→RowT hp' cs ds js:=by
 induction h with
 |nil=>intro _;exact .nil
 |sc hs _ ih=>intro h;exact .sc hs (ih h)
 |ni _ ih=>intro h;exact .ni (ih h)
 |gt hj hn _ ih=>intro h;exact .gt (h (_,_,_) List.mem_cons_self) hn (ih fun q hq=>h q (List.mem_cons_of_mem _ hq))
theorem RowT.len {hp:Hp}{cs:List AV}{ds:List D}{js:List (Nat×Nat×Nat)} (h:RowT hp cs ds js):ds.length=cs.length:=by
 induction h with
 |nil=>rfl
 |sc _ _ ih=>simp[ih]
 |ni _ ih=>simp[ih]
 |gt _ _ _ ih=>simp[ih]
theorem RowT.trees {G:Gh}{hp:Hp}{w:World}{cs:List AV}{ds:List D}{js:List (Nat×Nat×Nat)} (h:RowT hp cs ds js):∀ {vs:List Value},vs.length=cs.length→
  (∀i (hi:i<cs.length) (hv:i<vs.length),RelA G (tokf hp) w cs[i] vs[i])→
  ∃Sl:List (List Nat),Sl.length=cs.length∧(∀i (hi:i<ds.length) (hv:i<vs.length) (hs:i<Sl.length),TreeD true w ds[i] vs[i] Sl[i])∧Sl.flatten=js.flatMap (fun q=>G.loc q.1)∧
   (∀u,u∈vs→u.oneCell'=true)∧∀q,q∈js→(G.loc q.1).Nodup∧∀b,b∈G.loc q.1→G.F b=0:=by
 induction h with
 |nil=>
  intro vs hl _
  have:vs=[]:=List.eq_nil_of_length_eq_zero hl
  subst this
  exact⟨[],rfl,fun i hi=>by simp at hi,rfl,by simp,by simp⟩
 | @sc x cs ds js hs h ih=>
  intro vs hl hrel
  match vs,hl with
  |v::vs,hl=>
   obtain⟨Sl,h1,h2,h3,h4,h5⟩:=ih (vs:=vs) (by simpa using hl) (fun i hi hv=>hrel (i+1) (by simpa using hi) (by simpa using hv))
   have h0:=(hrel 0 (by simp) (by simp)).d_inv
   simp only[List.getElem_cons_zero] at h0
   obtain⟨f1,f2⟩:=zim hs
   refine⟨[]::Sl,by simp[h1],fun i hi hv hs'=>?_,by simpa using h3,fun u hu=>?_,h5⟩
   ·cases i with
    |zero=>exact TreeD.ofFlat f1 (.inr f2) h0
    |succ i=>exact h2 i (by simpa using hi) (by simpa using hv) (by simpa using hs')
   ·rcases List.mem_cons.1 hu with rfl|hu
    ·exact h0.one
    ·exact h4 u hu
 | @ni cs ds js h ih=>
  intro vs hl hrel
  match vs,hl with
  |v::vs,hl=>
   obtain⟨Sl,h1,h2,h3,h4,h5⟩:=ih (vs:=vs) (by simpa using hl) (fun i hi hv=>hrel (i+1) (by simpa using hi) (by simpa using hv))
   have h0:=hrel 0 (by simp) (by simp)
   simp only[List.getElem_cons_zero] at h0
   have hv:v = .slice none 0 0:=by cases h0;rfl
   subst hv
   refine⟨[]::Sl,by simp[h1],fun i hi hv hs'=>?_,by simpa using h3,fun u hu=>?_,h5⟩
   ·cases i with
    |zero=>exact .nil
    |succ i=>exact h2 i (by simpa using hi) (by simpa using hv) (by simpa using hs')
   ·rcases List.mem_cons.1 hu with rfl|hu
    ·rfl
    ·exact h4 u hu
 | @gt j zs n k cs ds js hj hn h ih=>
  intro vs hl hrel
  match vs,hl with
  |v::vs,hl=>
   obtain⟨Sl,h1,h2,h3,h4,h5⟩:=ih (vs:=vs) (by simpa using hl) (fun i hi hv=>hrel (i+1) (by simpa using hi) (by simpa using hv))
   have h0:=hrel 0 (by simp) (by simp)
   simp only[List.getElem_cons_zero] at h0
   obtain⟨⟨ad,cap0,hv0⟩,hcl⟩:=h0.gt_inv
   obtain⟨hkx,htip⟩:=(hcl n k (zap.2 hj)).2 hn
   have key:TreeD true w (.sl zs) v (G.loc j)∧(G.loc j).Nodup∧∀b,b∈G.loc j→G.F b=0:=by
    rcases htip with ⟨e1,e2,e3⟩|⟨b,cap,us,e,Ss,e1,e2,e3,e4,e5,e6,e7,e8⟩
    ·have hz:zs=[]:=List.eq_nil_of_length_eq_zero (by omega)
     subst hz
     rw[e1,e3]
     exact⟨.nil,by simp,by simp⟩
    ·refine⟨?_,e6,e7⟩
     subst hn
     rw[e1,e2]
     exact TreeD.sl (m:=true) zs k b cap us e Ss hkx e5 e3 e4 e8.1 (fun _ hz=>e8.2 (by rw[hz];rfl))
   refine⟨G.loc j::Sl,by simp[h1],fun i hi hv hs'=>?_,by simp[h3],fun u hu=>?_,fun q hq=>?_⟩
   ·cases i with
    |zero=>exact key.1
    |succ i=>exact h2 i (by simpa using hi) (by simpa using hv) (by simpa using hs')
   ·rcases List.mem_cons.1 hu with rfl|hu
    ·rw[hv0];rfl
    ·exact h4 u hu
   ·rcases List.mem_cons.1 hq with rfl|hq
    ·exact key.2
    ·exact h5 q hq
def ndB:List Nat→Bool
 | []=>true
 |x::r=> !zaM x r&&ndB r
theorem znd:∀ {l:List Nat},ndB l=true→l.Nodup
 | [],_=> .nil
 |x::r,h=>by
  simp only[ndB,Bool.and_eq_true,Bool.not_eq_true'] at h
  refine List.nodup_cons.2 ⟨fun hm=>?_,znd h.2⟩
  rw[zaF.2 hm] at h;cases h.1
theorem zlE {loc:Nat→List Nat}:∀ {l:List Nat},l.Nodup→(∀j,j∈l→(loc j).Nodup)→(∀i j,i∈l→j∈l→i≠j→∀b,b∈loc i→b∉loc j)→(l.flatMap loc).Nodup
 | [],_,_,_=>by simp
 |x::r,h,h1,h2=>by
  have hn:=List.nodup_cons.1 h
  simp only[List.flatMap_cons,List.nodup_append,List.mem_flatMap]
  refine⟨h1 x (by simp),zlE hn.2 (fun j hj=>h1 j (by simp[hj])) (fun i j hi hj=>h2 i j (by simp[hi]) (by simp[hj])),fun b hb b' hb' e=>?_⟩
  obtain⟨j,hj,hbj⟩:=hb'
  subst e
  exact h2 x j (by simp) (by simp[hj]) (fun e=>by subst e;exact hn.1 hj) b hb hbj
theorem zer {α:Type}{f:Nat→List α} (n m:Nat):(List.range (n+m)).flatMap f=(List.range n).flatMap f++(List.range m).flatMap (fun i=>f (n+i)):=by
 rw[List.range_add,List.flatMap_append]
 congr 1
 simp[List.flatMap_map]
theorem zhp {α:Type}:∀(l:List (List α)),(List.range l.length).flatMap (fun i=>l.getD i [])=l.flatten
 | []=>rfl
 |x::r=>by
  rw[List.length_cons,show r.length+1=1+r.length by omega,zer]
  simp only[List.flatten_cons,←zhp r]
  congr 1
  ·simp[List.range_succ]
  ·congr 1;funext i;rw[show 1+i=i+1 by omega];rfl
theorem zfs {α:Type}{f g:Nat→List α} (n:Nat) (h:∀i,i<n→f i=g i):(List.range n).flatMap f=(List.range n).flatMap g:=by
 induction n with
 |zero=>rfl
 |succ n ih=>rw[zer,zer,ih (fun i hi=>h i (by omega))];simp[h n (by omega)]
theorem znU {t:TypeId}{G:Gh}{s:St}{a:Act}{w:World}{hp1:Hp} (hr:R c G ⟨s.env,hp1⟩ a w){id m k e yb cap2:Nat}{xs ys:List (List D)}{v:Value}{a0:Addr}{news:List Value}{Sl:List (List Nat)} (ht:SlT c.P t e k yb){z:Value} (hz:∃i,c.P.info? e=some i∧i.zero=some z∧z.cells.size=k)
  (htok1:getH hp1 id=some (.tok xs.length k)) (hkx:∀x,x∈xs→x.length=k) (htip:TipT G w id xs.length k v xs) (hky:∀y,y∈ys→y.length=k) (hym:ys.length=m) (hmpos:0<m)
  (hnl:news.length=m*k) (hnews:∀j u,news[j]?=some u→w.cell? (a0.add j)=some u) (hone:∀u,u∈news→u.oneCell'=true) (hSl:Sl.length=m*k)
  (htr:∀i (hi:i<ys.length) j (hj:j<ys[i].length) (hv:i*k+j<news.length),TreeD true w ys[i][j] news[i*k+j] (Sl.getD (i*k+j) []))
  (newNodup:Sl.flatten.Nodup) (newF:∀b,b∈Sl.flatten→G.F b=0) (newLt:∀b,b∈Sl.flatten→b<w.heap.size) (newOwn:∀b,b∈Sl.flatten→b∈c.own∨c.w0.heap.size≤b)
  (newApart1:∀b,b∈Sl.flatten→∀i,i≠id→(getH hp1 i).isSome→b∉G.loc i) (newNe:∀x,x∈Sl.flatten→x∉G.loc id)
  (hb:(xs.length+m)*yb≤140737488355328) (hm:xs.length+m≤9223372036854775807) (opt:TypeId):
  ∃v' w' G',(Builtin.append_ #[t,t] opt #[v,.slice (some a0) m cap2]).run c.P w = .ok v' w'∧
   R c G' ⟨s.env,(id,some (.tok (xs.length+m) k))::hp1⟩ a w'∧
   RelA G' (tokf ((id,some (.tok (xs.length+m) k))::hp1)) w' (.gt id (xs++ys)) v':=by
 obtain⟨i,hi1,hi2,hi3⟩:=ht.inf
 obtain⟨i',z1,z2,z3⟩:=hz
 rw[hi1] at z1
 cases z1
 have hT':tokf ((id,some (.tok (xs.length+m) k))::hp1) id=some (xs.length+m,k):=zap.2 (by rw[zai,if_pos rfl])
 have hlt:∀b o,o<G.F b→b<w.heap.size:=fun b o ho=>by
  rcases Nat.lt_or_ge b w.heap.size with h|h
  ·exact h
  ·rw[hr.top b h] at ho;omega
 have hkx':∀x,x∈xs++ys→x.length=k:=fun x hx=>by
  rcases List.mem_append.1 hx with h|h
  ·exact hkx x h
  ·exact hky x h
 have hmul1:(xs.length+m)*k=xs.length*k+m*k:=by rw[Nat.add_mul]
 have hlen':(xs++ys).length=xs.length+m:=by rw[List.length_append,hym]
 let Sn:(Nat→List Nat)→Nat→List Nat:=fun Ss q=>if q<xs.length*k then Ss q else Sl.getD (q-xs.length*k) []
 have hSn:∀Ss,(List.range ((xs.length+m)*k)).flatMap (Sn Ss)=(List.range (xs.length*k)).flatMap Ss++Sl.flatten:=fun Ss=>by
  rw[hmul1,zer]
  congr 1
  ·exact zfs _ (fun i hi=>by simp[Sn,hi])
  ·rw[←zhp Sl,hSl]
   refine zfs _ (fun i hi=>?_)
   simp only[Sn]
   rw[if_neg (by omega),show xs.length*k+i-xs.length*k=i by omega]

 have trees:∀(Ss:Nat→List Nat) (olds:List Value) (tail:List Value) (w':World),olds.length=xs.length*k→(∀b,b∈(List.range (xs.length*k)).flatMap Ss++Sl.flatten→w'.heap[b]?=w.heap[b]?)→
   (∀i (hi:i<xs.length) j (hj:j<xs[i].length),TreeD true w xs[i][j] (olds.getD (i*k+j) undef) (Ss (i*k+j)))→
   ∀i (hi:i<(xs++ys).length) j (hj:j<(xs++ys)[i].length),TreeD true w' (xs++ys)[i][j] ((olds++news++tail).toArray.getD (i*k+j) undef) (Sn Ss (i*k+j)):=by
  intro Ss olds tail w' hol hw hold i hi j hj
  by_cases hix:i<xs.length
  ·have e0:(xs++ys)[i]=xs[i]:=List.getElem_append_left hix
   have hj':j<xs[i].length:=by rw[←e0];exact hj
   have h1:xs[i].length=k:=hkx _ (List.getElem_mem hix)
   have hlt':i*k+j<xs.length*k:=zdy hix (by omega)
   have e1:(olds++news++tail).toArray.getD (i*k+j) undef=olds.getD (i*k+j) undef:=by
    simp[List.getD,List.append_assoc,List.getElem?_append_left (show i*k+j<olds.length by omega)]
   have e2:Sn Ss (i*k+j)=Ss (i*k+j):=by simp[Sn,hlt']
   rw[e1,e2]
   have e3:(xs++ys)[i][j]=xs[i][j]:=by congr 1
   rw[e3]
   refine(hold i hix j hj').mono (fun b hb=>hw b ?_)
   exact List.mem_append_left _ (List.mem_flatMap.2 ⟨i*k+j,List.mem_range.2 hlt',hb⟩)
  ·have hiy:i-xs.length<ys.length:=by omega
   have e0:(xs++ys)[i]=ys[i-xs.length]:=List.getElem_append_right (by omega)
   have hj':j<ys[i-xs.length].length:=by rw[←e0];exact hj
   have e3:(xs++ys)[i][j]=ys[i-xs.length][j]:=by congr 1
   have hjk:j<k:=by rw[←hky _ (List.getElem_mem hiy)];exact hj'
   have hq:(i-xs.length)*k+j<m*k:=zdy (by omega) hjk
   have hpos:i*k+j=xs.length*k+((i-xs.length)*k+j):=by
    rw[show i*k=xs.length*k+(i-xs.length)*k by rw[←Nat.add_mul];congr 1;omega];omega
   have hjn:(i-xs.length)*k+j<news.length:=by omega
   have e1:(olds++news++tail).toArray.getD (i*k+j) undef=news[(i-xs.length)*k+j]:=by
    rw[hpos,←hol]
    simp[List.getD,List.append_assoc,List.getElem?_append_right,List.getElem?_append_left hjn,hjn]
   have hjs:(i-xs.length)*k+j<Sl.length:=by omega
   have e2:Sn Ss (i*k+j)=Sl.getD ((i-xs.length)*k+j) []:=by
    simp only[Sn]
    rw[hpos,if_neg (by omega),show xs.length*k+((i-xs.length)*k+j)-xs.length*k=(i-xs.length)*k+j by omega]
   rw[e1,e2,e3]
   refine(htr _ hiy j hj' hjn).mono (fun b hb=>hw b ?_)
   have e4:Sl.getD ((i-xs.length)*k+j) []=Sl[(i-xs.length)*k+j]:=by simp[List.getD,hjs]
   rw[e4] at hb
   exact List.mem_append_right _ (List.mem_flatten.2 ⟨_,List.getElem_mem hjs,hb⟩)
 have hidlt:∀b,b∈G.loc id→b<w.heap.size:=(hr.heap id _ htok1).bound

 have fresh:∀(Ss:Nat→List Nat) (olds:List Value) (nc:Nat),olds.length=xs.length*k→xs.length+m≤nc→
   ((List.range (xs.length*k)).flatMap Ss).Nodup→(∀b,b∈(List.range (xs.length*k)).flatMap Ss→b∈G.loc id∧G.F b=0)→
   (∀i (hi:i<xs.length) j (hj:j<xs[i].length),TreeD true w xs[i][j] (olds.getD (i*k+j) undef) (Ss (i*k+j)))→
   ∃G',R c G' ⟨s.env,(id,some (.tok (xs.length+m) k))::hp1⟩ a (w.drew.alloc (.cells (olds.toArray++news.toArray++Builtin.zeroCells z.cells (nc-(xs.length+m))) e))∧
    RelA G' (tokf ((id,some (.tok (xs.length+m) k))::hp1)) (w.drew.alloc (.cells (olds.toArray++news.toArray++Builtin.zeroCells z.cells (nc-(xs.length+m))) e))
     (.gt id (xs++ys)) (.slice (some ⟨w.heap.size,0,none⟩) (xs.length+m) nc):=by
  intro Ss olds nc hol hnc' hndS hSin hold
  let cs':Array Value:=olds.toArray++news.toArray++Builtin.zeroCells z.cells (nc-(xs.length+m))
  let G':Gh:={ F:=G.F,loc:=fun j=>bif Nat.beq j id then w.heap.size::(List.range ((xs.length+m)*k)).flatMap (Sn Ss) else G.loc j }
  have hcs:cs'.size=nc*k:=by
   simp only[cs',Array.size_append,List.size_toArray,size_zeroCells,z3,hol,hnl]
   rw[←hmul1,←Nat.add_mul]
   congr 1;omega
  have hcell:∀b o,o<G.F b→o<G'.F b∧(w.drew.alloc (.cells cs' e)).cell? ⟨b,o,none⟩=w.cell? ⟨b,o,none⟩:=fun b o ho=>by
   have hb:=hlt b o ho
   exact⟨ho,by rw[World.cell?_alloc_lt w.drew _ _ hb];rfl⟩
  have hlocne:∀j,j≠id→G'.loc j=G.loc j:=fun j hj=>by simp[G',zda hj]
  have hlocid:G'.loc id=w.heap.size::(List.range ((xs.length+m)*k)).flatMap (Sn Ss):=by simp[G']
  have hlocid':G'.loc id=w.heap.size::((List.range (xs.length*k)).flatMap Ss++Sl.flatten):=by rw[hlocid,hSn]
  have hmem:∀b,b∈(List.range (xs.length*k)).flatMap Ss++Sl.flatten→b<w.heap.size:=fun b hb=>by
   rcases List.mem_append.1 hb with h|h
   ·exact hidlt b (hSin b h).1
   ·exact newLt b h
  refine⟨G',hr.retokG (G':=G') htok1 (by omega) hcell hlocne (fun b hb _=>⟨zdi (w:=w.drew) hb,rfl⟩) (fun b hb=>?_) (fun b hb=>?_) rfl rfl rfl (by simp) (fun b hb=>?_), ?_⟩
  ·rw[hlocid'] at hb
   have hsz1:(w.drew.alloc (.cells cs' e)).heap.size=w.heap.size+1:=by simp
   show b<(w.drew.alloc (.cells cs' e)).heap.size
   rw[hsz1]
   rcases List.mem_cons.1 hb with rfl|hb
   ·exact Nat.lt_succ_self _
   ·exact Nat.lt_succ_of_lt (hmem b hb)
  ·rw[hlocid'] at hb
   rcases List.mem_cons.1 hb with rfl|hb
   ·exact .inr (.inl (Nat.le_refl _))
   ·rcases List.mem_append.1 hb with h|h
    ·exact .inl (hSin b h).1
    ·exact .inr (.inr ⟨newOwn b h,newApart1 b h⟩)
  ·have hb':w.heap.size+1≤b:=by simpa using hb
   exact hr.top b (by omega)
  refine .gt ⟨_,_,by rw[hlen']⟩ (fun n' k' hm'=>?_)
  rw[hT'] at hm'
  cases hm'
  have hnodup:(G'.loc id).Nodup:=by
   rw[hlocid']
   refine List.nodup_cons.2 ⟨fun h=>absurd (hmem _ h) (Nat.lt_irrefl _),List.nodup_append.2 ⟨hndS,newNodup,fun b hb b' hb' e=>?_⟩⟩
   subst e
   exact newNe b hb' (hSin b hb).1
  refine⟨by rw[hlen'];exact Nat.le_refl _,fun _=>⟨hkx',.inr ⟨w.heap.size,nc,cs',e,Sn Ss,hlocid,rfl,zd6 (w:=w.drew),by rw[hcs];exact Nat.le_refl _,hnc',hnodup,fun b hb=>?_, ?_,fun h=>by omega⟩⟩⟩
  ·rw[hlocid'] at hb
   rcases List.mem_cons.1 hb with rfl|hb
   ·exact hr.top _ (Nat.le_refl _)
   ·rcases List.mem_append.1 hb with h|h
    ·exact(hSin b h).2
    ·exact newF b h
  ·have:=trees Ss olds (Builtin.zeroCells z.cells (nc-(xs.length+m))).toList (w.drew.alloc (.cells cs' e)) hol (fun b hb=>zdi (w:=w.drew) (hmem b hb)) hold
   have ec:cs'=(olds++news++(Builtin.zeroCells z.cells (nc-(xs.length+m))).toList).toArray:=by
    apply Array.ext';simp[cs']
   intro i hi j hj
   rw[ec]
   exact this i hi j hj
 rcases htip with ⟨h1,h2,h3⟩|⟨b,cap,cs,et,Ss,h1,h2,h3,h4,h5,h6,h7,h8,_⟩
 ·
  have hx0:xs=[]:=List.eq_nil_of_length_eq_zero h2
  subst hx0
  subst h3
  have hm':m≤9223372036854775807:=by simpa using hm
  have hb':m*yb≤140737488355328:=by simpa using hb
  have hrun:=run_append_nil (P:=c.P) w t opt e i z ht.und hi1 z2 a0 m cap2 news (by rw[hi2,hnl]) hnews hmpos (by omega) (by rw[hi3];omega)
  obtain⟨G',hR,hA⟩:=fresh (fun _=>[]) [] (grownCap w m 0 e) (by simp) (by
   have:=grownCap_ge w m 0 e;simpa using this) (by simp) (fun b hb=>by simp at hb) (fun i hi=>by simp at hi)
  simp only[List.nil_append,List.length_nil,Nat.zero_add,Array.empty_append] at hR hA hrun ⊢
  exact⟨_,_,G',hrun,hR,hA⟩
 ·subst h2
  have hmul:xs.length*k≤cs.size:=Nat.le_trans (Nat.mul_le_mul_right _ h5) h4
  have hold:∀i (hi:i<xs.length) j (hj:j<xs[i].length),TreeD true w xs[i][j] ((cs.toList.take (xs.length*k)).getD (i*k+j) undef) (Ss (i*k+j)):=fun i hi j hj=>by
   have h9:xs[i].length=k:=hkx _ (List.getElem_mem hi)
   have hlt':i*k+j<xs.length*k:=zdy hi (by omega)
   have e1:(cs.toList.take (xs.length*k)).getD (i*k+j) undef=cs.getD (i*k+j) undef:=by
    have hs:i*k+j<cs.size:=by omega
    simp[List.getD,List.getElem?_take,hlt',Array.getD,hs]
   rw[e1];exact h8 i hi j hj
  have hbl:b∈G.loc id:=by rw[h1];simp
  have hbs:b<w.heap.size:=hidlt b hbl
  have h1n:(b::(List.range (xs.length*k)).flatMap Ss).Nodup:=by rw[←h1];exact h6
  have hin:∀x,x∈(List.range (xs.length*k)).flatMap Ss→x∈G.loc id∧G.F x=0:=fun x hx=>by
   have:x∈G.loc id:=by rw[h1];exact List.mem_cons_of_mem _ hx
   exact⟨this,h7 x this⟩
  by_cases hroom:xs.length+m≤cap
  ·
   have hfit:xs.length*i.size+news.length≤cs.size:=by
    rw[hi2,hnl,←hmul1]
    exact Nat.le_trans (Nat.mul_le_mul_right _ hroom) h4
   have hrun:=zeQ (P:=c.P) t opt e i ht.und hi1 b xs.length cap cs et h3 a0 m cap2 news (by rw[hi2,hnl]) hnews hone hroom hfit
   rw[hi2] at hrun hfit
   let rw':Array Value:=(cs.toList.take (xs.length*k)++news++cs.toList.drop (xs.length*k+news.length)).toArray
   have hrs:rw'.size=cs.size:=by
    simp only[rw',List.size_toArray,List.length_append,List.length_take,List.length_drop,Array.length_toList];omega
   let G':Gh:={ F:=G.F,loc:=fun j=>bif Nat.beq j id then b::(List.range ((xs.length+m)*k)).flatMap (Sn Ss) else G.loc j }
   have hlocne:∀j,j≠id→G'.loc j=G.loc j:=fun j hj=>by simp[G',zda hj]
   have hlocid:G'.loc id=b::(List.range ((xs.length+m)*k)).flatMap (Sn Ss):=by simp[G']
   have hlocid':G'.loc id=b::((List.range (xs.length*k)).flatMap Ss++Sl.flatten):=by rw[hlocid,hSn]
   have hFb:G.F b=0:=h7 b hbl
   have hcell:∀b' o,o<G.F b'→o<G'.F b'∧(w.setRow b rw').cell? ⟨b',o,none⟩=w.cell? ⟨b',o,none⟩:=fun b' o ho=>by
    have hbb:b'≠b:=fun e=>by subst e;omega
    exact⟨ho,cell_setRow_other w b rw' _ hbb⟩
   have hmem:∀x,x∈(List.range (xs.length*k)).flatMap Ss++Sl.flatten→x<w.heap.size∧x≠b:=fun x hx=>by
    rcases List.mem_append.1 hx with h|h
    ·exact⟨hidlt x (hin x h).1,fun e=>by subst e;exact(List.nodup_cons.1 h1n).1 h⟩
    ·exact⟨newLt x h,fun e=>by subst e;exact newNe x h hbl⟩
   refine⟨_,_,G',hrun,hr.retokG (G':=G') htok1 (by omega) hcell hlocne (fun b' hb' hn=>?_) (fun x hx=>?_) (fun x hx=>?_) rfl rfl rfl (by simp) (fun b' hb'=>?_), ?_⟩
   ·have hne:b'≠b:=fun e=>hn (by rw[e];exact hbl)
    exact⟨setRow_other w b b' rw' hne,rfl⟩
   ·rw[hlocid'] at hx
    have:(w.setRow b rw').heap.size=w.heap.size:=by simp
    rw[this]
    rcases List.mem_cons.1 hx with rfl|hx
    ·exact hbs
    ·exact(hmem x hx).1
   ·rw[hlocid'] at hx
    rcases List.mem_cons.1 hx with rfl|hx
    ·exact .inl hbl
    ·rcases List.mem_append.1 hx with h|h
     ·exact .inl (hin x h).1
     ·exact .inr (.inr ⟨newOwn x h,newApart1 x h⟩)
   ·have hb2':w.heap.size≤b':=by simpa using hb'
    exact hr.top b' hb2'
   ·refine .gt ⟨_,_,by rw[hlen']⟩ (fun n' k' hm'=>?_)
    rw[hT'] at hm'
    cases hm'
    have hnodup:(G'.loc id).Nodup:=by
     rw[hlocid']
     refine List.nodup_cons.2 ⟨fun h=>absurd rfl (hmem _ h).2,List.nodup_append.2 ⟨(List.nodup_cons.1 h1n).2,newNodup,fun x hx x' hx' e=>?_⟩⟩
     subst e
     exact newNe x hx' (hin x hx).1
    refine⟨by rw[hlen'];exact Nat.le_refl _,fun _=>⟨hkx',.inr ⟨b,cap,rw',et,Sn Ss,hlocid,rfl,setRow_heap w b cs rw' et _ h3,by rw[hrs];exact h4,hroom,hnodup,fun x hx=>?_, ?_,fun h=>by omega⟩⟩⟩
    ·rw[hlocid'] at hx
     rcases List.mem_cons.1 hx with rfl|hx
     ·exact hFb
     ·rcases List.mem_append.1 hx with h|h
      ·exact(hin x h).2
      ·exact newF x h
    ·exact trees Ss (cs.toList.take (xs.length*k)) _ (w.setRow b rw') (by simp;omega) (fun x hx=>setRow_other w b x rw' (hmem x hx).2) hold
  ·
   have hrun:=run_append_grow (P:=c.P) w t opt e i z ht.und hi1 z2 ⟨b,0,none⟩ xs.length cap (cs.toList.take (xs.length*k)) (by rw[hi2];simp;omega)
    (fun j u hj=>by
     rw[zcy]
     obtain⟨hj1,hj2⟩:=List.getElem?_eq_some_iff.1 hj
     simp only[List.getElem_take] at hj2
     have hjs:j<cs.size:=by simp at hj1;omega
     simp only[World.cell?,h3,Option.isSome_none,Bool.false_eq_true,if_false,Nat.zero_add]
     rw[Array.getElem?_eq_getElem hjs,←hj2]
     simp) a0 m cap2 news (by rw[hi2,hnl]) hnews (by omega) (by omega) (by rw[hi3];exact growslice_fits (by omega) hb)
   obtain⟨G',hR,hA⟩:=fresh Ss (cs.toList.take (xs.length*k)) (grownCap w (xs.length+m) cap e) (by simp;omega) (by have:=grownCap_ge w (xs.length+m) cap e;omega) (List.nodup_cons.1 h1n).2 hin hold
   exact⟨_,_,G',hrun,hR,hA⟩
theorem znV {t:TypeId}{G:Gh}{s:St}{a:Act}{w:World} (hr:R c G s a w){id b0 m k e yb:Nat}{xs:List (List D)}{cells:List AV}{row:List D}{js:List (Nat×Nat×Nat)}{v u:Value} (ht:SlT c.P t e k yb){z:Value} (hz:∃i,c.P.info? e=some i∧i.zero=some z∧z.cells.size=k)
  (hkb:∀l,c.kept b0≠some l) (htok:getH s.hp id=some (.tok xs.length k)) (hbox:getH s.hp b0=some (.box cells)) (hrow:RowT s.hp cells row js) (hck:cells.length=k) (hnd:ndB (id::js.map (·.1))=true)
  (hv:RelA G (tokf s.hp) w (.gt id xs) v) (hu:RelA G (tokf s.hp) w (.ms b0 m) u) (hm1:m=1)
  (hb:(xs.length+1)*yb≤140737488355328) (hm:xs.length+1≤9223372036854775807) (opt:TypeId):
  ∃v' w' G',(Builtin.append_ #[t,t] opt #[v,u]).run c.P w = .ok v' w'∧
   R c G' ⟨s.env,(id,some (.tok (xs.length+1) k))::((b0::js.map (·.1)).map (fun j=>(j,none))++s.hp)⟩ a w'∧
   RelA G' (tokf ((id,some (.tok (xs.length+1) k))::((b0::js.map (·.1)).map (fun j=>(j,none))++s.hp))) w' (.gt id (xs++[row])) v':=by
 subst hm1
 obtain⟨⟨base,cap0,hv0⟩,hcl⟩:=hv.gt_inv
 have hT:tokf s.hp id=some (xs.length,k):=zap.2 htok
 obtain⟨hkx,htip⟩:=(hcl _ _ hT).2 rfl

 obtain⟨bb,us,eb,hl0,hat0,hlen0,hF0,hcell0⟩:=hr.heap b0 _ hbox
 have hu':∃cap2,u = .slice (some ⟨bb,0,none⟩) 1 cap2∧1≤cap2:=by
  cases hu with
  | @ms _ _ b cap h hT hcap=>
   have:b=bb:=zcP h hl0
   subst this
   exact⟨cap,rfl,hcap⟩
 obtain⟨cap2,rfl,hcap2⟩:=hu'
 let news:List Value:=us.toList.take k
 have hks:k≤us.size:=by omega
 have hnl:news.length=k:=by simp[news];omega
 have hnews:∀j u,news[j]?=some u→w.cell? ((⟨bb,0,none⟩:Addr).add j)=some u:=fun j u hj=>by
  obtain⟨hj1,hj2⟩:=List.getElem?_eq_some_iff.1 hj
  simp only[news,List.getElem_take] at hj2
  have hjs:j<us.size:=by omega
  rw[zcy]
  simp only[World.cell?,hat0,Option.isSome_none,Bool.false_eq_true,if_false,Nat.zero_add]
  rw[Array.getElem?_eq_getElem hjs,←hj2]
  simp
 have hrel:∀i (hi:i<cells.length) (hv:i<news.length),RelA G (tokf s.hp) w cells[i] news[i]:=fun i hi hv=>by
  have:=hcell0 i hi (by omega)
  have e1:news[i]=us[i]'(by omega):=by simp[news]
  rw[e1];exact this
 obtain⟨Sl,hSl,htr,hfl,hone,hjn⟩:=hrow.trees (by rw[hnl,hck]) hrel
 have hrl:row.length=k:=by rw[hrow.len,hck]
 have hnd':=znd hnd
 have hnd2:=List.nodup_cons.1 hnd'
 have htoks:=hrow.toks
 have tokJ:∀j,j∈js.map (·.1)→∃n q,getH s.hp j=some (.tok n q):=fun j hj=>by
  obtain⟨q,hq,rfl⟩:=List.mem_map.1 hj
  exact⟨_,_,htoks q hq⟩
 have hflm:js.flatMap (fun q=>G.loc q.1)=(js.map (·.1)).flatMap G.loc:=by rw[List.flatMap_map]
 rw[hflm] at hfl
 have newIn:∀b,b∈Sl.flatten→∃j,j∈js.map (·.1)∧b∈G.loc j:=fun b hb=>by rw[hfl] at hb;exact List.mem_flatMap.1 hb
 have hdr:=hr.drop (b0::js.map (·.1)) (fun i l hk hm=>by
  rcases List.mem_cons.1 hm with rfl|hm
  ·exact hkb l hk
  ·obtain⟨n,q,h⟩:=tokJ i hm
   have:=(hr.kept i l hk).2.2
   rw[zap.2 h] at this;cases this)
 have hidb:id∉b0::js.map (·.1):=fun hm=>by
  rcases List.mem_cons.1 hm with rfl|hm
  ·rw[htok] at hbox;cases hbox
  ·exact hnd2.1 hm
 have hg1:∀i,getH ((b0::js.map (·.1)).map (fun j=>(j,(none:Option Res)))++s.hp) i=if i∈b0::js.map (·.1) then none else getH s.hp i:=fun i=>zm0 _ _ _
 exact znU (s:=s) hdr (m:=1) (ys:=[row]) (Sl:=Sl) (news:=news) ht hz (by rw[hg1,if_neg hidb];exact htok) hkx htip (fun y hy=>by simp only[List.mem_singleton] at hy;rw[hy];exact hrl) rfl (by omega)
  (by omega) hnews hone (by rw[hSl,hck];omega)
  (fun i hi j hj hvn=>by
   have:i=0:=by simpa using hi
   subst this
   simp only[Nat.zero_mul,Nat.zero_add] at hvn ⊢
   have hj':j<row.length:=hj
   have hjs:j<Sl.length:=by omega
   have e4:Sl.getD j []=Sl[j]:=by simp[List.getD,hjs]
   rw[e4]
   exact htr j hj' hvn hjs)
  (by
   rw[hfl]
   refine zlE hnd2.2 (fun j hj=>?_) (fun i j hi hj hne=>?_)
   ·obtain⟨q,hq,rfl⟩:=List.mem_map.1 hj
    exact(hjn q hq).1
   ·obtain⟨n1,q1,h1⟩:=tokJ i hi
    obtain⟨n2,q2,h2⟩:=tokJ j hj
    exact hr.disj i j (by rw[h1];rfl) (by rw[h2];rfl) hne)
  (fun b hb=>by
   obtain⟨j,hj,hbj⟩:=newIn b hb
   obtain⟨q,hq,rfl⟩:=List.mem_map.1 hj
   exact(hjn q hq).2 b hbj)
  (fun b hb=>by
   obtain⟨j,hj,hbj⟩:=newIn b hb
   obtain⟨n1,q1,h1⟩:=tokJ j hj
   exact(hr.heap j _ h1).bound b hbj)
  (fun b hb=>by
   obtain⟨j,hj,hbj⟩:=newIn b hb
   obtain⟨n1,q1,h1⟩:=tokJ j hj
   exact hr.new j (by rw[h1];rfl) b hbj)
  (fun b hb i _ hs=>by
   rw[hg1] at hs
   split at hs
   ·cases hs
   ·rename_i hni
    intro hbi
    obtain⟨j,hj,hbj⟩:=newIn b hb
    obtain⟨n1,q1,h1⟩:=tokJ j hj
    exact hr.disj j i (by rw[h1];rfl) hs (fun e=>by subst e;exact hni (List.mem_cons_of_mem _ hj)) b hbj hbi)
  (fun b hb hbi=>by
   obtain⟨j,hj,hbj⟩:=newIn b hb
   obtain⟨n1,q1,h1⟩:=tokJ j hj
   exact hr.disj j id (by rw[h1];rfl) (by rw[htok];rfl) (fun e=>by subst e;exact hnd2.1 hj) b hbj hbi) hb hm opt
theorem R.mkTokT {G:Gh}{s:St}{a:Act}{w:World} (hr:R c G s a w){id:Nat} (k:Nat) (h0:getH s.hp id=none) (hocc:zcW id s):
  ∃G',R c G' { s with hp:=(id,some (.tok 0 k))::s.hp } a w∧RelA G' (tokf ((id,some (.tok 0 k))::s.hp)) w (.gt id []) (.slice none 0 0):=by
 have h1:=hr.rename h0 hocc []
 have hl:(fun i=>bif Nat.beq i id then ([]:List Nat) else G.loc i) id=[]:=by simp
 refine⟨_,h1.name h0 hocc (fun b hb=>by simp at hb) (fun i _ b _ hb=>by simp at hb) (fun b hb=>by simp at hb), ?_⟩
 refine .gt ⟨none,0,rfl⟩ (fun n k' hT=>?_)
 have:=zap.1 hT
 rw[zai,if_pos rfl] at this
 cases this
 exact⟨Nat.le_refl _,fun _=>⟨by simp,.inl ⟨hl,rfl,rfl⟩⟩⟩
end
section
variable {c:Ctx}{all:Array Oper}{chk:List Rec→Prop}{os:List Oper}{recs:List Rec}{env:Env}{hp:Hp}{Q:St→Prop}
variable {d ty:Nat}{pos:String}{af:Array Edge}{g:Option (Nat×Bool)}{pg:List (Nat×AV)}
variable {t yt:TypeId}{x y:Operand}
theorem Walk.appendT {ids:List Nat}{id b0 m k e yb:Nat}{xs:List (List D)}{cells:List AV}{row:List D}{js:List (Nat×Nat×Nat)} (hkp:KeptIn c.kept ids) (hkb:zaM b0 ids=false) (ht:SlT c.P t e k yb) (hz:ZeroT c.P e k) (hg:GH all env g pg) (hd:Nat.blt d c.n=true)
  (hx:opd env x=some (.gt id xs)) (hy:opd env y=some (.ms b0 m)) (hm1:m=1) (htok:getH hp id=some (.tok xs.length k)) (hbox:getH hp b0=some (.box cells)) (hrow:RowT hp cells row js) (hck:cells.length=k) (hnd:ndB (id::js.map (·.1))=true)
  (hb:(xs.length+1)*yb≤140737488355328) (hm:xs.length+1≤9223372036854775807)
  (hn:Walk c all chk os (zaq (pg++(opF x (.gt id xs)++opF y (.ms b0 m))) ((id,.tok xs.length k)::(b0,.box cells)::js.map (fun q=>(q.1,.tok q.2.1 q.2.2))) [] ⟨some (d,.gt id (xs++[row])),(id,some (.tok (xs.length+1) k))::(b0::js.map (·.1)).map (fun j=>(j,none))⟩::recs)
   ⟨(d,.gt id (xs++[row]))::env,(id,some (.tok (xs.length+1) k))::((b0::js.map (·.1)).map (fun j=>(j,none))++hp)⟩ Q):
  Walk c all chk (⟨some d,.call ⟨.builtin .append,#[x,y],#[t,t]⟩,ty,pos,af,g⟩::os) recs ⟨env,hp⟩ Q:=by
 refine⟨pg++(opF x (.gt id xs)++opF y (.ms b0 m)),(id,.tok xs.length k)::(b0,.box cells)::js.map (fun q=>(q.1,.tok q.2.1 q.2.2)),[],_, ?_,zax hg.facts (zax (za4 hx) (za4 hy)),fun p hm=>?_,by simp,hn⟩
 ·intro s a w hrel hp' hh _ K Q' hK
  obtain⟨G,hr⟩:=hrel
  have e1:=hr.opd (za5 hx (fun p hm=>hp' p (by simp[hm])))
  have e2:=hr.opd (za5 hy (fun p hm=>hp' p (by simp[hm])))
  obtain⟨i,z,z1,z2,z3⟩:=hz.out
  obtain⟨v',w',G',hrun,hR,hA⟩:=znV hr ht ⟨i,z1,z2,z3⟩ (fun l hl=>by have:=zaF.2 (hkp.mem _ l hl);rw[this] at hkb;cases hkb) (hh (id,_) (by simp)) (hh (b0,_) (by simp))
   (hrow.move (fun q hq=>hh (q.1,.tok q.2.1 q.2.2) (by simp only[List.mem_cons,List.mem_map];exact .inr (.inr ⟨q,hq,rfl⟩)))) hck hnd e1 e2 hm1 hb hm ty
  unfold wpO
  rw[if_pos (hg.gf.wanted hr (fun p hm=>hp' p (by simp[hm])))]
  unfold Oper.wp
  have:(execOp a.eval ⟨some d,.call ⟨.builtin .append,#[x,y],#[t,t]⟩,ty,pos,af,g⟩).run c.P w = .ok (.value v') w':=by
   simp only[execOp,resolve,invoke,builtin,Sem.run_bind,Sem.run_pure,Result.andThen_ok,List.map_toArray,List.map_cons,List.map_nil,hrun]
  rw[this,Oper.upon_value]
  exact hK _ _ ⟨G',hR.put hA hd⟩
 ·rcases List.mem_cons.1 hm with rfl|hm
  ·exact htok
  rcases List.mem_cons.1 hm with rfl|hm
  ·exact hbox
  ·obtain⟨q,hq,rfl⟩:=List.mem_map.1 hm
   exact hrow.toks q hq
end
section
variable {c:Ctx}{env:Env}{hp:Hp}{K:Kt}{code:Code}{ids:List Nat}
theorem zsz {G:Gh}{w:World}{id n k:Nat}{xs:List (List D)}{v:Value} (hn:n=xs.length) (hk:∀x,x∈xs→x.length=k) (h:TipT G w id n k v xs):
  TreeD true w (.sl xs) v (G.loc id)∧(G.loc id).Nodup∧∀b,b∈G.loc id→G.F b=0:=by
 rcases h with ⟨e1,e2,e3⟩|⟨b,cap,us,e,Ss,e1,e2,e3,e4,e5,e6,e7,e8⟩
 ·have hz:xs=[]:=List.eq_nil_of_length_eq_zero (by omega)
  subst hz
  rw[e1,e3]
  exact⟨.nil,by simp,by simp⟩
 ·refine⟨?_,e6,e7⟩
  subst hn
  rw[e1,e2]
  exact TreeD.sl (m:=true) xs k b cap us e Ss hk e5 e3 e4 e8.1 (fun _ hz=>e8.2 (by rw[hz];rfl))
theorem CWp.tokBT (b off id k:Nat){cs cs':List AV} (hb:getH hp b=some (.box cs)) (h:cs[off]?=some .nils) (hput:putC cs off [.gt id []]=some cs') (hf:zak env hp [id]=true)
  (hn:CWp c code ⟨env,(b,some (.box cs'))::(id,some (.tok 0 k))::hp⟩ K):CWp c code ⟨env,hp⟩ K:=by
 intro a w hrel
 obtain⟨G,hr⟩:=hrel
 obtain⟨h0,hocc⟩:=zbt hf id (by simp)
 obtain⟨G',h1,h2⟩:=hr.mkTokT k h0 hocc
 have hne:b≠id:=fun e=>by subst e;have h0':getH hp b=none:=h0;rw[h0'] at hb;cases hb
 have hb':getH ((id,some (Res.tok 0 k))::hp) b=some (.box cs):=by rw[zai,if_neg hne];exact hb
 obtain⟨bl,vs,e,e1,e2,e3,e4,e5⟩:=h1.heap b _ hb'
 obtain⟨hlt,hv⟩:=List.getElem?_eq_some_iff.1 h
 have hlv:off<vs.size:=by omega
 have hval:vs[off] = .slice none 0 0:=by
  have:=e5 off hlt hlv
  rw[hv] at this
  generalize vs[off]=v at *
  cases this;rfl
 have hall:PreR G' (tokf ((id,some (.tok 0 k))::hp)) w cs' vs:=by
  obtain⟨p1,p2,p3⟩:=zcl hput
  refine⟨by omega,fun i hi hvi=>?_⟩
  have:=p3 i
  rw[List.getElem?_eq_getElem hi] at this
  by_cases hio:i=off
  ·subst hio
   rw[if_pos (by simp)] at this
   simp only[Nat.sub_self,List.getElem?_cons_zero,Option.some.injEq] at this
   rw[this,hval]
   exact h2
  ·rw[if_neg (by simp only[List.length_cons,List.length_nil];omega)] at this
   have hic:i<cs.length:=by omega
   rw[List.getElem?_eq_getElem hic] at this
   rw[Option.some.inj this]
   exact e5 i hic hvi
 have:=h1.setBox (vs':=vs) hb' e1 e2 e4 hall
 have hw:w.setRow bl vs=w:=setRow_self w bl vs e _ e2
 rw[hw] at this
 exact hn a w ⟨G',this⟩
theorem CWp.tokT (t id k:Nat) (h:getE env t=some .nils) (hf:zak env hp [id]=true)
  (hn:CWp c code ⟨(t,.gt id [])::env,(id,some (.tok 0 k))::hp⟩ K):CWp c code ⟨env,hp⟩ K:=by
 intro a w hrel
 obtain⟨G,hr⟩:=hrel
 obtain⟨h0,hocc⟩:=zbt hf id (by simp)
 obtain⟨G',h1,h2⟩:=hr.mkTokT k h0 hocc
 have hv:a.tmps.getD t undef = .slice none 0 0:=by
  have:=hr.slots t _ h
  revert this
  generalize a.tmps.getD t undef=v
  intro this;cases this;rfl
 exact hn a w ⟨G',h1.slot (by rw[hv];exact h2)⟩
theorem R.gtGl {G:Gh}{a:Act}{w:World} (hr:R c G ⟨env,hp⟩ a w){id id2 n k:Nat}{xs:List (List D)}{v:Value} (hv:RelA G (tokf hp) w (.gt id xs) v) (hb:getH hp id=some (.tok n k)) (hn:n=xs.length) (hf:zak env hp [id2]=true):
  ∃G',R c G' ⟨env,(id2,some (.tok n k))::(id,none)::hp⟩ a w∧RelA G' (tokf ((id2,some (.tok n k))::(id,none)::hp)) w (.gl id2 xs) v:=by
 obtain⟨h0,hocc⟩:=zbt hf id2 (by simp)
 have h0':getH hp id2=none:=h0
 have hne:id2≠id:=fun e=>by subst e;rw[h0'] at hb;cases hb
 obtain⟨⟨ad,cap0,hv0⟩,hcl⟩:=hv.gt_inv
 obtain⟨hkx,htip⟩:=(hcl _ _ (zap.2 hb)).2 hn
 have s1:(getH hp id).isSome:=by rw[hb];rfl
 have hbd:=(hr.heap id _ hb).bound
 let hd:List Nat:=(G.loc id).take 1
 let G':Gh:={ F:=fun x=>bif zaM x hd then n*k else bif zaM x (G.loc id) then szB w x else G.F x,loc:=fun i=>bif Nat.beq i id2 then hd else G.loc i }
 have hdsub:∀x,x∈hd→x∈G.loc id:=fun x hx=>List.mem_of_mem_take hx
 have l1:G'.loc id2=hd:=by simp[G']
 have l3:∀i,i≠id2→G'.loc i=G.loc i:=fun i h2=>by simp[G',zda h2]
 have nel:∀ {x:Nat}{l:List Nat},x∉l→zaM x l=false:=fun {x l} hx=>by
  cases h:zaM x l with
  |true=>exact absurd (zaF.1 h) hx
  |false=>rfl
 have hout:∀x,x∉G.loc id→G'.F x=G.F x:=fun x hx=>by simp[G',nel hx,nel (fun h=>hx (hdsub x h))]
 have hF0:∀x,x∈G.loc id→G.F x=0:=(zsz hn hkx htip).2.2
 have g1:getH ((id2,some (Res.tok n k))::(id,none)::hp) id2=some (.tok n k):=by rw[zai,if_pos rfl]
 have g2:getH ((id2,some (Res.tok n k))::(id,none)::hp) id=none:=by rw[zai,if_neg (Ne.symm hne),zai,if_pos rfl]
 have t2:tokf ((id2,some (Res.tok n k))::(id,none)::hp) id=none:=by unfold tokf;rw[g2]
 have t1:tokf ((id2,some (Res.tok n k))::(id,none)::hp) id2=some (n,k):=zap.2 g1
 have hturn:Turn c G ⟨env,hp⟩ w G' ((id2,some (.tok n k))::(id,none)::hp) [id,id2]:=by
  refine⟨fun i hi=>?_,fun i hi=>?_,fun x hx=>?_,fun x o ho=>?_,fun x hx=>?_,fun i hi=>?_,fun i hi hs x hx=>?_,fun i hi j hj hij h1 h2 x hx=>?_,fun i hi l hl=>?_⟩
  ·simp only[List.mem_cons,List.not_mem_nil,or_false,not_or] at hi
   rw[zai,if_neg hi.2,zai,if_neg hi.1]
  ·simp only[List.mem_cons,List.not_mem_nil,or_false,not_or] at hi
   exact l3 i hi.2
  ·exact hout x (hx id (by simp) s1)
  ·by_cases hx:x∈G.loc id
   ·rw[hF0 x hx] at ho;omega
   ·rw[hout x hx];exact ho
  ·by_cases hx':x∈G.loc id
   ·have:=hbd x hx';omega
   ·rw[hout x hx'];exact hr.top x hx
  ·simp only[List.mem_cons,List.not_mem_nil,or_false] at hi
   rcases hi with rfl|rfl
   ·exact .inr ⟨.inl (l3 i (Ne.symm hne)),fun p hp=>by rw[t2] at hp;cases hp⟩
   ·exact .inl hocc
  ·simp only[List.mem_cons,List.not_mem_nil,or_false] at hi
   rcases hi with rfl|rfl
   ·rw[g2] at hs;cases hs
   ·rw[l1] at hx;exact⟨id,by simp,s1,hdsub x hx⟩
  ·simp only[List.mem_cons,List.not_mem_nil,or_false] at hi hj
   rcases hi with rfl|rfl
   ·rw[g2] at h1;cases h1
   ·rcases hj with rfl|rfl
    ·rw[g2] at h2;cases h2
    ·exact absurd rfl hij
  ·simp only[List.mem_cons,List.not_mem_nil,or_false] at hi
   have hk0:=hr.kept i l hl
   rcases hi with rfl|rfl
   ·have:=hk0.2.2
    rw[show(⟨env,hp⟩:St).hp=hp from rfl,zap.2 hb] at this;cases this
   ·have:=hk0.2.1
    rw[show(⟨env,hp⟩:St).hp=hp from rfl,h0'] at this;cases this
 refine⟨G',hturn.fin hr (fun i hi r hri=>?_), ?_⟩
 ·simp only[List.mem_cons,List.not_mem_nil,or_false] at hi
  rcases hi with rfl|rfl
  ·rw[g2] at hri;cases hri
  ·rw[g1] at hri
   cases hri
   intro b hb;rw[l1] at hb;exact hbd b (hdsub b hb)
 ·rcases htip with ⟨e1,e2,e3⟩|⟨b,cap,us,e,Ss,e1,e2,e3,e4,e5,e6,e7,e8,e9⟩
  ·have hz:xs=[]:=List.eq_nil_of_length_eq_zero (by omega)
   subst hz
   rw[e3]
   refine .gl .nil (fun n' k' hT=>?_)
   rw[t1] at hT;cases hT
   exact⟨by simp,fun _=>⟨hkx,.inl ⟨by rw[l1];simp[hd,e1],e2,rfl⟩⟩⟩
  ·have hhd:hd=[b]:=by simp[hd,e1]
   have hFb:G'.F b=n*k:=by simp[G',hhd,zaM]
   have hbn:∀x,x∈(List.range (n*k)).flatMap Ss→G'.F x=szB w x:=fun x hx=>by
    have hxb:x≠b:=fun e=>by subst e;rw[e1] at e6;exact(List.nodup_cons.1 e6).1 hx
    have h1:zaM x hd=false:=nel (by rw[hhd];simp[hxb])
    have h2:zaM x (G.loc id)=true:=zaF.2 (by rw[e1];exact List.mem_cons_of_mem _ hx)
    simp[G',h1,h2]
   rw[e2]
   have hle:n*k≤us.size:=Nat.le_trans (Nat.mul_le_mul_right _ e5) e4
   have hrd:RelD G'.F w (.sl xs) (.slice (some ⟨b,0,none⟩) n cap):=by
    subst hn
    refine .sl xs k b 0 cap (fun q=>us.getD q undef) hkx e5 (fun q hq=>⟨by rw[hFb];omega, ?_⟩) (fun i hi j hj=>(e8 i hi j hj).toD (fun x hx=>?_))
    ·have:q<us.size:=by omega
     simp[World.cell?,e3,this]
    ·rw[hbn x (List.mem_flatMap.2 ⟨_,List.mem_range.2 (zdy hi (by rw[←hkx _ (List.getElem_mem hi)];exact hj)),hx⟩)]
     exact Nat.le_refl _
   refine .gl hrd (fun n' k' hT=>?_)
   rw[t1] at hT;cases hT
   exact⟨by omega,fun _=>⟨hkx,.inr ⟨b,cap,us,e,by rw[l1,hhd],rfl,hFb,e3,e4,e5⟩⟩⟩
theorem CWp.gtGl (t id id2 k:Nat){n:Nat}{xs:List (List D)} (ht:getE env t=some (.gt id xs)) (hb:getH hp id=some (.tok n k)) (hn:n=xs.length) (hf:zak env hp [id2]=true)
  (hx:CWp c code ⟨(t,.gl id2 xs)::env,(id2,some (.tok n k))::(id,none)::hp⟩ K):CWp c code ⟨env,hp⟩ K:=by
 rintro a w ⟨G,hr⟩
 obtain⟨G',h1,h2⟩:=hr.gtGl (hr.slots t _ ht) hb hn hf
 exact hx a w ⟨G',h1.slot h2⟩
end
section
variable {c:Ctx}{all:Array Oper}{chk:List Rec→Prop}{os:List Oper}{recs:List Rec}{env:Env}{hp:Hp}{Q:St→Prop}
variable {d ty:Nat}{pos:String}{af:Array Edge}{g:Option (Nat×Bool)}{pg:List (Nat×AV)}
variable {t yt:TypeId}{x y:Operand}
theorem Walk.sliceLitB {parts:Array (Nat×Operand)}{n:Nat}{ks:List Nat}{xs:List Operand}{vs zs r:List AV}{e k yb id:Nat} (ht:SlT c.P t e k yb) (hz:TyZ c.P e k zs) (hzk:zs.length=k) (hk:0<k)
  (hparts:parts=(ks.zip xs).toArray) (hlen:ks.length=xs.length) (hsmall:n*k≤16777216) (hpos:0<n) (hg:GH all env g pg) (hd:Nat.blt d c.n=true) (hx:opdL env xs=some vs)
  (hf:zhb (fun i=>some (i*k,k)) (zaD n zs) (ks.zip vs)=some r) (hid:zaM id (AV.idsL r)=false) (h0:getH hp id=none) (ho1:occE id env=false) (ho2:occH id hp=false)
  (hn:Walk c all chk os (zaq (pg++opFL xs vs) [] [id] ⟨some (d,.ms id n),[(id,some (.box r))]⟩::recs) ⟨(d,.ms id n)::env,(id,some (.box r))::hp⟩ Q):
  Walk c all chk (⟨some d,.buildSlice t n parts,ty,pos,af,g⟩::os) recs ⟨env,hp⟩ Q:=by
 subst hparts
 refine Walk.mkBox hg hd hx h0 ho1 ho2 hid (fun a G T w h=>?_) hn
 obtain⟨ie,hi1,hi2,hi3⟩:=ht.inf
 obtain⟨i',z,z1,z2,z3,z4⟩:=hz.inf
 rw[hi1] at z1
 cases z1
 have hz0:=zca (G:=G) (T:=T) (w:=w) z4
 have hzr:=ze5 (by simpa using hz0) n (by omega)
 obtain⟨lv,hlv,hal⟩:=ze6 (ks.zip vs) (ks.zip (xs.map a.eval)) _ r _ hf hzr (by simp[h.1]) (znS h hlen)
 have hpos':¬n*ie.size=0:=by rw[hi2];exact Nat.ne_of_gt (Nat.mul_pos hpos hk)
 have hrun:=run_buildSlice (P:=c.P) w t e n ((ks.zip xs).toArray.map fun(i,x)=>(i,a.eval x)) lv ie z ht.und hi1 z3 (by rw[hi2];omega) hpos' (by
  rw[hi2,←hlv]
  congr 1
  ·rw[hzk]
  ·simp[List.zip_map_right,Prod.map])
 refine⟨_,lv,e, ?_,hal,fun G' T' w' hl hT=> .ms (by rw[hl];rfl) hT (Nat.le_refl _)⟩
 simp only[execOp,Sem.run_bind,hrun,Result.andThen_ok,Sem.run_pure]
end
end Go.Proofs.YtfiihhedihkdoaaGreat
namespace Go.Proofs.YtfiihhedihkdoaaGreat
open Go
set_option linter.unusedSimpArgs false
set_option linter.unusedVariables false
set_option maxRecDepth 100000
set_option maxHeartbeats 2000000
theorem zea:∀(n:Nat) (s:Bool){p:Pat},p.size≤n→p.ok→FnD Tryz.prog 136 [.agg [.d (.i p.op),.d (.i p.ctor),.d (.i p.n),.d (.i p.m),.d (.i p.var),.d (zad p.kids)]] []
  (.agg [.d (.i p.op),.d (.i p.ctor),.d (.i p.n),.d (.i p.m),.d (.i p.var),.gt (bif s then 61 else 63) (p.kids.map Pat.cc)]) [(bif s then 61 else 63,some (.tok (p.kids.map Pat.cc).length 6))]
 |0,_,p,h,_=>by rw[Pat.size_eq] at h;omega
 |n+1,true,p,h,hok=>by
  rw[Pat.size_eq] at h
  rw[Pat.ok_iff] at hok
  have hok1:=hok.1
  have hc:∀y∈p.kids,FnD Tryz.prog 136 [.agg [.d (.i y.op),.d (.i y.ctor),.d (.i y.n),.d (.i y.m),.d (.i y.var),.d (zad y.kids)]] []
    (.agg [.d (.i y.op),.d (.i y.ctor),.d (.i y.n),.d (.i y.m),.d (.i y.var),.gt 63 (y.kids.map Pat.cc)]) [(63,some (.tok (y.kids.map Pat.cc).length 6))]:=fun y hy=>zea n false (p:=y) (by have:=Pats.size_mem hy;omega) (Pats.ok_mem hok.2 y hy)
  show FnD Tryz.prog 136 _ _ (.agg [.d (.i p.op),.d (.i p.ctor),.d (.i p.n),.d (.i p.m),.d (.i p.var),.gt 61 (p.kids.map Pat.cc)]) [(61,some (.tok (p.kids.map Pat.cc).length 6))]
  refine bd Tryz.f136 24 [] [] fun w0 F0 own kept hk=>?_
  refine Walk.box (id:=3001) .none rfl rfl rfl rfl rfl rfl rfl ?_
  refine Walk.alloc (id:=3002) tz77 rfl .none rfl rfl rfl rfl ?_
  refine tv ?_
  refine Walk.store ty28 .none rfl rfl rfl rfl rfl rfl (by simp) rfl ?_
  refine tv ?_
  refine CWp.tokBT 3001 5 61 6 rfl rfl rfl rfl ?_
  refine CWp.loopX (ι:=List (Pat)×List (Pat)) hk (fun x=>[(11,.d (.i (x.1.length:Int)))]) [5,12,13,14,15,16,17,18,19,20,21,22] (fun x=>[(3001,some (.box [.d (.i p.op),.d (.i p.ctor),.d (.i p.n),.d (.i p.m),.d (.i p.var),.gt 61 (x.1.map Pat.cc)])),(61,some (.tok (x.1.map Pat.cc).length 6))]) (fun x=>x.1++x.2=p.kids) (fun x=>x.2.length) ([],p.kids) (by simp) ⟨⟨_,rfl,(LeA.eqi (by first|rfl|(simp[Pat.cs_cd];done)))⟩,trivial⟩ ⟨(by first|rfl|(simp[getH,Pat.cs_cd];done)),⟨zae (by first|rfl|(simp;done)|(simp;omega)|(first|rfl|(simp[Pat.cs_cd];done))),trivial⟩⟩ (fun x=>rfl) (fun x hg1=>?_)
  obtain⟨pre,rest⟩:=x
  dsimp only at hg1 ⊢
  refine evc [] [] ?_
  refine sq (fun h1 h1p h1s=>?_) fun h1 h1p h1s=>?_
  try simp only[Q,Pat.cs_len] at h1p
  rcases rest with _|⟨y,rest⟩
  ·exfalso;simp_all
  refine Walk.idx sl28 .none rfl rfl rfl rfl (Pat.cs_at' hg1) rfl ?_
  refine ev ?_
  refine Walk.alloc (id:=3005) tz77 rfl .none rfl rfl rfl rfl ?_
  refine Walk.store ty77 .none rfl rfl rfl rfl rfl rfl (by simp) rfl ?_
  refine tv ?_
  refine Walk.call (cr:=[63]) ziV (hc y (by rw[←hg1];simp)) rfl .none rfl rfl (LeL.refl _) trivial rfl (by first|rfl|(simp only[zat,List.all_cons,List.all_nil,zaE,zaz,AV.idsL,AV.ids,zab,zaa,List.map_cons,List.map_nil];rfl)) (by first|rfl|(simp only[zak,occH,occE,Res.ids,List.cons_append,List.nil_append,AV.idsL,AV.ids,zab,zaa,zac,zan,List.map_cons,List.map_nil,upC];rfl)) ?_
  refine Walk.sliceLitB (id:=3019) sl28 tz77 rfl (by decide) (ks:=[0]) (xs:=[_]) rfl rfl (by decide) (by decide) .none rfl rfl rfl rfl rfl rfl rfl ?_
  refine Walk.appendT hk rfl sl28 zz77 .none rfl rfl rfl rfl (zaG rfl (by first|rfl|(simp;done)|(simp;omega))) rfl (.sc rfl (.sc rfl (.sc rfl (.sc rfl (.sc rfl (.gt rfl (by first|rfl|(simp;done)) .nil)))))) rfl rfl (by have:=congrArg List.length hg1;simp at this;simp;omega) (by have:=congrArg List.length hg1;simp at this;simp;omega) ?_
  refine evd [] [] ?_
  refine Walk.store ty28 .none rfl rfl rfl rfl rfl rfl (by simp) rfl ?_
  refine dr ?_
  refine ar ?_
  refine Exists.intro ((pre++[y],rest)) ⟨(by have hz:=hg1;rw[←hz];simp),(by simp),Sub.x (by kernel_rfl) (by kernel_rfl) ⟨⟨_,rfl,(LeA.eqi (by first|rfl|(simp[Pat.cs_cd];done)))⟩,trivial⟩ (by kernel_rfl) (by kernel_rfl) ⟨(by first|rfl|(simp[getH,Pat.cs_cd];done)),⟨zae (by first|rfl|(simp;done)|(simp;omega)|(first|rfl|(simp[Pat.cs_cd];done))),trivial⟩⟩⟩
  try simp only[Q,Pat.cs_len] at h1p
  have hrest:rest=[]:=by
   rcases rest with _|⟨a,b⟩
   ·rfl
   ·exfalso;have hz:=congrArg List.length (hg1);simp only[List.length_append,List.length_cons,List.length_map] at hz;omega
  subst hrest
  refine Walk.store ty77 .none rfl rfl rfl rfl rfl rfl (by simp) rfl ?_
  refine tv ?_
  refine rn [(61,some (.tok (p.kids.map Pat.cc).length 6))] (.cons (.cellA ty77 rfl rfl rfl) .nil) (.agg (.cons (.eqd ?_) (.cons (.eqd ?_) (.cons (.eqd ?_) (.cons (.eqd ?_) (.cons (.eqd ?_) (.cons (.gtg ?_) .nil))))))) ⟨rfl,rfl⟩ (SubH.get ⟨?_,trivial⟩) (zbj rfl)
  rotate_left 7
  all_goals (first|((first|rfl|(rw[List.append_nil] at hg1;subst hg1;rfl));done)|(rw[List.append_nil] at hg1;subst hg1;rfl))
 |n+1,false,p,h,hok=>by
  rw[Pat.size_eq] at h
  rw[Pat.ok_iff] at hok
  have hok1:=hok.1
  have hc:∀y∈p.kids,FnD Tryz.prog 136 [.agg [.d (.i y.op),.d (.i y.ctor),.d (.i y.n),.d (.i y.m),.d (.i y.var),.d (zad y.kids)]] []
    (.agg [.d (.i y.op),.d (.i y.ctor),.d (.i y.n),.d (.i y.m),.d (.i y.var),.gt 61 (y.kids.map Pat.cc)]) [(61,some (.tok (y.kids.map Pat.cc).length 6))]:=fun y hy=>zea n true (p:=y) (by have:=Pats.size_mem hy;omega) (Pats.ok_mem hok.2 y hy)
  show FnD Tryz.prog 136 _ _ (.agg [.d (.i p.op),.d (.i p.ctor),.d (.i p.n),.d (.i p.m),.d (.i p.var),.gt 63 (p.kids.map Pat.cc)]) [(63,some (.tok (p.kids.map Pat.cc).length 6))]
  refine bd Tryz.f136 24 [] [] fun w0 F0 own kept hk=>?_
  refine Walk.box (id:=3001) .none rfl rfl rfl rfl rfl rfl rfl ?_
  refine Walk.alloc (id:=3002) tz77 rfl .none rfl rfl rfl rfl ?_
  refine tv ?_
  refine Walk.store ty28 .none rfl rfl rfl rfl rfl rfl (by simp) rfl ?_
  refine tv ?_
  refine CWp.tokBT 3001 5 63 6 rfl rfl rfl rfl ?_
  refine CWp.loopX (ι:=List (Pat)×List (Pat)) hk (fun x=>[(11,.d (.i (x.1.length:Int)))]) [5,12,13,14,15,16,17,18,19,20,21,22] (fun x=>[(3001,some (.box [.d (.i p.op),.d (.i p.ctor),.d (.i p.n),.d (.i p.m),.d (.i p.var),.gt 63 (x.1.map Pat.cc)])),(63,some (.tok (x.1.map Pat.cc).length 6))]) (fun x=>x.1++x.2=p.kids) (fun x=>x.2.length) ([],p.kids) (by simp) ⟨⟨_,rfl,(LeA.eqi (by first|rfl|(simp[Pat.cs_cd];done)))⟩,trivial⟩ ⟨(by first|rfl|(simp[getH,Pat.cs_cd];done)),⟨zae (by first|rfl|(simp;done)|(simp;omega)|(first|rfl|(simp[Pat.cs_cd];done))),trivial⟩⟩ (fun x=>rfl) (fun x hg1=>?_)
  obtain⟨pre,rest⟩:=x
  dsimp only at hg1 ⊢
  refine evc [] [] ?_
  refine sq (fun h1 h1p h1s=>?_) fun h1 h1p h1s=>?_
  try simp only[Q,Pat.cs_len] at h1p
  rcases rest with _|⟨y,rest⟩
  ·exfalso;simp_all
  refine Walk.idx sl28 .none rfl rfl rfl rfl (Pat.cs_at' hg1) rfl ?_
  refine ev ?_
  refine Walk.alloc (id:=3005) tz77 rfl .none rfl rfl rfl rfl ?_
  refine Walk.store ty77 .none rfl rfl rfl rfl rfl rfl (by simp) rfl ?_
  refine tv ?_
  refine Walk.call (cr:=[61]) ziV (hc y (by rw[←hg1];simp)) rfl .none rfl rfl (LeL.refl _) trivial rfl (by first|rfl|(simp only[zat,List.all_cons,List.all_nil,zaE,zaz,AV.idsL,AV.ids,zab,zaa,List.map_cons,List.map_nil];rfl)) (by first|rfl|(simp only[zak,occH,occE,Res.ids,List.cons_append,List.nil_append,AV.idsL,AV.ids,zab,zaa,zac,zan,List.map_cons,List.map_nil,upC];rfl)) ?_
  refine Walk.sliceLitB (id:=3019) sl28 tz77 rfl (by decide) (ks:=[0]) (xs:=[_]) rfl rfl (by decide) (by decide) .none rfl rfl rfl rfl rfl rfl rfl ?_
  refine Walk.appendT hk rfl sl28 zz77 .none rfl rfl rfl rfl (zaG rfl (by first|rfl|(simp;done)|(simp;omega))) rfl (.sc rfl (.sc rfl (.sc rfl (.sc rfl (.sc rfl (.gt rfl (by first|rfl|(simp;done)) .nil)))))) rfl rfl (by have:=congrArg List.length hg1;simp at this;simp;omega) (by have:=congrArg List.length hg1;simp at this;simp;omega) ?_
  refine evd [] [] ?_
  refine Walk.store ty28 .none rfl rfl rfl rfl rfl rfl (by simp) rfl ?_
  refine dr ?_
  refine ar ?_
  refine Exists.intro ((pre++[y],rest)) ⟨(by have hz:=hg1;rw[←hz];simp),(by simp),Sub.x (by kernel_rfl) (by kernel_rfl) ⟨⟨_,rfl,(LeA.eqi (by first|rfl|(simp[Pat.cs_cd];done)))⟩,trivial⟩ (by kernel_rfl) (by kernel_rfl) ⟨(by first|rfl|(simp[getH,Pat.cs_cd];done)),⟨zae (by first|rfl|(simp;done)|(simp;omega)|(first|rfl|(simp[Pat.cs_cd];done))),trivial⟩⟩⟩
  try simp only[Q,Pat.cs_len] at h1p
  have hrest:rest=[]:=by
   rcases rest with _|⟨a,b⟩
   ·rfl
   ·exfalso;have hz:=congrArg List.length (hg1);simp only[List.length_append,List.length_cons,List.length_map] at hz;omega
  subst hrest
  refine Walk.store ty77 .none rfl rfl rfl rfl rfl rfl (by simp) rfl ?_
  refine tv ?_
  refine rn [(63,some (.tok (p.kids.map Pat.cc).length 6))] (.cons (.cellA ty77 rfl rfl rfl) .nil) (.agg (.cons (.eqd ?_) (.cons (.eqd ?_) (.cons (.eqd ?_) (.cons (.eqd ?_) (.cons (.eqd ?_) (.cons (.gtg ?_) .nil))))))) ⟨rfl,rfl⟩ (SubH.get ⟨?_,trivial⟩) (zbj rfl)
  rotate_left 7
  all_goals (first|((first|rfl|(rw[List.append_nil] at hg1;subst hg1;rfl));done)|(rw[List.append_nil] at hg1;subst hg1;rfl))
theorem ziK {l:List Pat} (h:l.length≤1000000000000) (hok:∀p∈l,p.ok):FnD Tryz.prog 76 [.d (zad l)] [] (.gt 62 (l.map Pat.cc)) [(62,some (.tok (l.map Pat.cc).length 6))]:=by
 have hc:∀y∈l,FnD Tryz.prog 136 [.agg [.d (.i y.op),.d (.i y.ctor),.d (.i y.n),.d (.i y.m),.d (.i y.var),.d (zad y.kids)]] []
    (.agg [.d (.i y.op),.d (.i y.ctor),.d (.i y.n),.d (.i y.m),.d (.i y.var),.gt 61 (y.kids.map Pat.cc)]) [(61,some (.tok (y.kids.map Pat.cc).length 6))]:=fun y hy=>zea _ true (p:=y) (Nat.le_refl _) (hok y hy)
 refine bd Tryz.f76 19 [] [2] fun w0 F0 own kept hk=>?_
 refine CWp.tokT 3 62 6 rfl rfl ?_
 refine evc [] [] ?_
 refine CWp.loopX (ι:=List (Pat)×List (Pat)) hk (fun x=>[(8,.d (.i (x.1.length:Int))),(3,.gt 62 (x.1.map Pat.cc))]) [5,9,10,11,12,13,14,15,16,17] (fun x=>[(62,some (.tok ((x.1.map Pat.cc)).length 6))]) (fun x=>x.1++x.2=l) (fun x=>x.2.length) ([],l) (by simp) ⟨⟨_,rfl,(LeA.eqi (by first|rfl|(simp[Pat.cs_cd];done)))⟩,⟨⟨_,rfl,(LeA.gtg (by first|rfl|(simp[Pat.cs_cd];done)))⟩,trivial⟩⟩ ⟨zae (by first|rfl|(simp;done)|(simp;omega)|(first|rfl|(simp[Pat.cs_cd];done))),trivial⟩ (fun x=>rfl) (fun x hg1=>?_)
 obtain⟨pre,rest⟩:=x
 dsimp only at hg1 ⊢
 refine evc [] [2] ?_
 refine sq (fun h1 h1p h1s=>?_) fun h1 h1p h1s=>?_
 try simp only[Q,Pat.cs_len] at h1p
 rcases rest with _|⟨y,rest⟩
 ·exfalso;simp_all
 refine Walk.idx sl28 .none rfl rfl rfl rfl (Pat.cs_at' hg1) rfl ?_
 refine ev ?_
 refine Walk.alloc (id:=3005) tz77 rfl .none rfl rfl rfl rfl ?_
 refine Walk.store ty77 .none rfl rfl rfl rfl rfl rfl (by simp) rfl ?_
 refine tv ?_
 refine Walk.call (cr:=[61]) ziV (hc y (by rw[←hg1];simp)) rfl .none rfl rfl (LeL.refl _) trivial rfl (by first|rfl|(simp only[zat,List.all_cons,List.all_nil,zaE,zaz,AV.idsL,AV.ids,zab,zaa,List.map_cons,List.map_nil];rfl)) (by first|rfl|(simp only[zak,occH,occE,Res.ids,List.cons_append,List.nil_append,AV.idsL,AV.ids,zab,zaa,zac,zan,List.map_cons,List.map_nil,upC];rfl)) ?_
 refine Walk.sliceLitB (id:=3015) sl28 tz77 rfl (by decide) (ks:=[0]) (xs:=[_]) rfl rfl (by decide) (by decide) .none rfl rfl rfl rfl rfl rfl rfl ?_
 refine Walk.appendT hk rfl sl28 zz77 .none rfl rfl rfl rfl (zaG rfl (by first|rfl|(simp;done)|(simp;omega))) rfl (.sc rfl (.sc rfl (.sc rfl (.sc rfl (.sc rfl (.gt rfl (by first|rfl|(simp;done)) .nil)))))) rfl rfl (by have:=congrArg List.length hg1;simp at this;simp;omega) (by have:=congrArg List.length hg1;simp at this;simp;omega) ?_
 refine ev ?_
 refine ar ?_
 refine Exists.intro ((pre++[y],rest)) ⟨(by have hz:=hg1;rw[←hz];simp),(by simp),Sub.x (by kernel_rfl) (by kernel_rfl) ⟨⟨_,rfl,(LeA.eqi (by first|rfl|(simp[Pat.cs_cd];done)))⟩,⟨⟨_,rfl,(LeA.gtg (by first|rfl|(simp[Pat.cs_cd];done)))⟩,trivial⟩⟩ (by kernel_rfl) (by kernel_rfl) ⟨zae (by first|rfl|(simp;done)|(simp;omega)|(first|rfl|(simp[Pat.cs_cd];done))),trivial⟩⟩
 try simp only[Q,Pat.cs_len] at h1p
 have hrest:rest=[]:=by
  rcases rest with _|⟨a,b⟩
  ·rfl
  ·exfalso;have hz:=congrArg List.length (hg1);simp only[List.length_append,List.length_cons,List.length_map] at hz;omega
 subst hrest
 refine rn [(62,some (.tok (l.map Pat.cc).length 6))] (r1 rfl) (.gtg ?_) ⟨rfl,rfl⟩ (SubH.get ⟨?_,trivial⟩) (zbj rfl)
 rotate_left 2
 all_goals (first|((first|rfl|(rw[List.append_nil] at hg1;subst hg1;rfl));done)|(rw[List.append_nil] at hg1;subst hg1;rfl))
theorem zml {w:List Data} (hs:Spa w){f:Nat→Nat}{ta tk:Int} (ht:InS (w.length*4) ⟨ta,tk⟩){l:List Pat} (hl:∀a∈l,a.ok) (hb:l.length≤1000000000000) (hq:l.all (isP w ⟨ta,tk⟩)=true):
  FnD Tryz.prog 39 [.d (sPtr w f),.agg [.d (.i ta),.d (.i tk)],.d (zad l),.d (.bool true)] [] (.tup [.gt 62 (l.map Pat.cc),.d (.bool true)]) [(62,some (.tok (l.map Pat.cc).length 6))]:=by
 have hall:(l.any fun p=> !isP w ⟨ta,tk⟩ p)=false:=by
  rw[List.any_eq_false]
  intro x hx
  rw[List.all_eq_true.1 hq x hx];simp
 have hcf:=zdQ (xs:=l) (p:=fun p=> !isP w ⟨ta,tk⟩ p) (caps:=[.ref 3004 0,.ref 3005 0]) (hp:=[(3004,some (.box [.d (sPtr w f)])),(3005,some (.box [.d (.i ta),.d (.i tk)]))]) hb zr5 (fun q hq=>zgQ hs ht (hl q hq)) ⟨rfl,rfl,trivial⟩ rfl rfl
 rw[hall] at hcf
 clear hall
 refine bd Tryz.f39 19 [] [] fun w0 F0 own kept hk=>?_
 refine Walk.box (id:=3004) .none rfl rfl rfl rfl rfl rfl rfl ?_
 refine Walk.box (id:=3005) .none rfl rfl rfl rfl rfl rfl rfl ?_
 refine ev ?_
 refine sq (fun h1 h1p h1s=>?_) fun h1 h1p h1s=>?_
 try simp only[Q] at h1p
 refine sqT ?_
 exfalso;first|contradiction|(simp at *;done)
 try simp only[Q] at h1p
 refine Walk.closure (xs:=[_,_]) rfl (.some rfl rfl h1) rfl rfl ?_
 refine Walk.call (cr:=[]) zr4 (hcf) rfl (.some rfl rfl h1) rfl rfl (LeL.refl _) ⟨rfl,rfl,trivial⟩ rfl rfl rfl ?_
 refine evs [] [(12,false)] ?_ ⟨⟨_,rfl,h1⟩,trivial⟩
 refine sq (fun h3 h3p h3s=>?_) fun h3 h3p h3s=>?_
 try simp only[Q] at h3p
 exfalso;first|contradiction|(simp at *;done)
 try simp only[Q] at h3p
 refine Walk.call (cr:=[62]) zr6 (ziK hb hl) rfl .none rfl rfl (LeL.refl _) trivial rfl (by first|rfl|(simp only[zat,List.all_cons,List.all_nil,zaE,zaz,AV.idsL,AV.ids,zab,zaa,List.map_cons,List.map_nil];rfl)) (by first|rfl|(simp only[zak,occH,occE,Res.ids,List.cons_append,List.nil_append,AV.idsL,AV.ids,zab,zaa,zac,zan,List.map_cons,List.map_nil,upC];rfl)) ?_
 refine ev ?_
 refine rn [(62,some (.tok (l.map Pat.cc).length 6))] (r2 rfl rfl) (.tup (.cons (.gtg ?_) (.cons (.eqd ?_) .nil))) ⟨rfl,rfl⟩ (SubH.get ⟨?_,trivial⟩) (zbj rfl)
 rotate_left 3
 all_goals (first|((rfl);done)|(rfl))
theorem zqQ {w:List Data}{a k:Int}{l:List Cl}{ps:List Pat} (hm:zdr w ⟨a,k⟩ l=some ps):zbD w ⟨a,k⟩ l=true∧∃away,zbG l []=some away∧zaN w ⟨a,k⟩ [anyQ] away=some ps∧ps.all (isP w ⟨a,k⟩)=true:=by
 unfold zdr at hm
 split at hm
 ·rename_i hv
  refine⟨hv, ?_⟩
  unfold zd1 at hm
  cases hq:zbG l [] with
  |none=>rw[hq] at hm;simp at hm
  |some away=>
   rw[hq] at hm
   cases hw:zaN w ⟨a,k⟩ [anyQ] away with
   |none=>simp[hw] at hm
   |some r=>
    simp only[hw] at hm
    by_cases hr:r.all (isP w ⟨a,k⟩)=true
    ·refine⟨away,rfl, ?_⟩
     simp[hr] at hm
     subst hm
     exact⟨hw,hr⟩
    ·simp[hr] at hm
 ·cases hm
theorem zgO {w:List Data} (hs:WSmall w){a k:Int}{l:List Cl} (hl:ClsOk l){ps:List Pat} (hm:zdr w ⟨a,k⟩ l=some ps):
  (ps.length≤400∧∀x∈ps,x.ok∧isP w ⟨a,k⟩ x=true)∧FnD Tryz.prog 12 [.d (zao w),.agg [.d (.i a),.d (.i k)],.d (zbM l)] [] (.tup [.gt 62 (ps.map Pat.cc),.d (.bool true)]) [(62,some (.tok (ps.map Pat.cc).length 6))]:=by
 obtain⟨hv,away,hq,hw,hall⟩:=zqQ hm
 have hcv:=zfb hs (a:=a) (k:=k) hl
 have htv:=zl8 hv
 have hsp:=zkK hs (zdo htv.1).1
 have hsh:=zi0 hv hl
 have hin:InS (w.length*4) ⟨a,k⟩:=by
  obtain⟨_,_,h3⟩:=zdo htv.1
  by_cases ha:a = -1
  ·exact .inl ha
  ·obtain⟨h4,h5,h6,h7⟩:=h3 ha
   have:=zor (n:=w.length) h5 (j:=k.toNat) (by omega)
   rwa [Int.toNat_of_nonneg h4,Int.toNat_of_nonneg h6] at this
 have hco:=zgP (w:=w) (t:=⟨a,k⟩) htv.2 hsh
 rw[hq] at hco
 obtain⟨p1,p2⟩:=zeA l [] away (fun c hc=>(hsh c hc).1) (by simp) hq
 have hwo:=zhd hsp hin (l:=[anyQ]) (away:=away) zeU p2 (by simp) (by simp at p1;omega)
 have hrl:=zeM away _ ps (fun x hx=>zeU x (List.mem_filter.1 hx).1) (Nat.le_trans (List.length_filter_le _ _) (by simp)) p2 hw
 have hrl2:∀x∈ps,x.ok:=fun x hx=>(zfC hsp 11 hin (hrl.2 x hx)).1
 rw[hw] at hwo
 have hre:=zml hsp (f:=zaZ w) hin hrl2 (by omega) hall
 refine⟨⟨hrl.1,fun x hx=>⟨hrl2 x hx,List.all_eq_true.1 hall x hx⟩⟩, ?_⟩
 clear hrl hrl2
 refine bd Tryz.f12 42 [] [] fun w0 F0 own kept hk=>?_
 refine Walk.box (id:=3004) .none rfl rfl rfl rfl rfl rfl rfl ?_
 refine ev ?_
 refine Walk.call (cr:=[]) znK (hcv) rfl .none rfl rfl (LeL.refl _) trivial rfl rfl rfl ?_
 refine ev ?_
 refine sq (fun h1 h1p h1s=>?_) fun h1 h1p h1s=>?_
 try simp only[Q] at h1p
 exfalso;rw[hv] at h1;exact absurd h1 (by simp)
 try simp only[Q] at h1p
 refine Walk.call (cr:=[]) zpK (hco) rfl .none rfl rfl (LeL.refl _) trivial rfl rfl rfl ?_
 refine ev ?_
 refine sq (fun h2 h2p h2s=>?_) fun h2 h2p h2s=>?_
 try simp only[Q] at h2p
 exfalso;exact absurd h2 (by simp)
 try simp only[Q] at h2p
 refine Walk.call (cr:=[]) zrT (zga hsp.dp) rfl .none rfl rfl (LeL.refl _) trivial rfl rfl rfl ?_
 refine ev ?_
 refine Walk.call (cr:=[]) znL (zdd) rfl .none rfl rfl (LeL.refl _) trivial rfl rfl rfl ?_
 refine Walk.sliceLit sl28 tz77 rfl (by decide) (ks:=[0]) (xs:=[_]) rfl rfl (by decide) (by decide) .none rfl rfl rfl rfl ?_
 refine evd [] [] ?_
 refine Walk.call (cr:=[]) zrU (hwo) rfl .none rfl rfl (LeL.refl _) trivial rfl rfl rfl ?_
 refine evd [] [] ?_
 refine dr ?_
 refine Walk.call (cr:=[62]) zrV (hre) rfl .none rfl rfl (LeL.refl _) trivial rfl (by first|rfl|(simp only[zat,List.all_cons,List.all_nil,zaE,zaz,AV.idsL,AV.ids,zab,zaa,List.map_cons,List.map_nil];rfl)) (by first|rfl|(simp only[zak,occH,occE,Res.ids,List.cons_append,List.nil_append,AV.idsL,AV.ids,zab,zaa,zac,zan,List.map_cons,List.map_nil,upC];rfl)) ?_
 refine ev ?_
 refine rn [(62,some (.tok (ps.map Pat.cc).length 6))] (r2 rfl rfl) (.tup (.cons (.gtg ?_) (.cons (.eqd ?_) .nil))) ⟨rfl,rfl⟩ (SubH.get ⟨?_,trivial⟩) (zbj rfl)
 rotate_left 3
 all_goals (first|((rfl);done)|(rfl))
theorem zoC (m:Bool) (y:Cl) (rest:List Cl):zah m ((y::rest).map Cl.c) = .d (.i y.pat.op):: .d (.i y.pat.ctor):: .d (.i y.pat.n):: .d (.i y.pat.m):: .d (.i y.pat.var):: .own m (zad y.pat.kids):: .d (.i y.g.op):: .d (.i y.g.var):: .d (.i y.g.n)::zah m (rest.map Cl.c):=rfl
theorem zec (m:Bool) (l:List Cl) (y:Cl):zah m ((l++[y]).map Cl.c)=zah m (l.map Cl.c)++[.d (.i y.pat.op),.d (.i y.pat.ctor),.d (.i y.pat.n),.d (.i y.pat.m),.d (.i y.pat.var),.own m (zad y.pat.kids),.d (.i y.g.op),.d (.i y.g.var),.d (.i y.g.n)]:=by
 rw[List.map_append,zhn]
 rfl
theorem Cl.rows {l:List Cl}:∀x,x∈l.map Cl.c→x.length=9:=by
 intro x hx
 obtain⟨y,_,rfl⟩:=List.mem_map.1 hx
 rfl
theorem za1 (m:Bool) (l:List Cl):(zah m (l.map Cl.c)).length=l.length*9:=by
 rw[zcc (k:=9) Cl.rows,List.length_map]
def Cl.szM (c:Cl):Int:=c.pat.szM+3
def Cl.one (k:Int) (c:Cl):Cl:=⟨c.pat.one k,⟨k+1+1+1+1+1+szL Pat.szM c.pat.kids,k+1+1+1+1+1+szL Pat.szM c.pat.kids+1,k+1+1+1+1+1+szL Pat.szM c.pat.kids+1+1⟩⟩
theorem Cl.szM_nn (c:Cl):0≤c.szM:=by have:=Pat.szM_nn c.pat;unfold Cl.szM;omega
theorem Cl.szM_kids (c:Cl):c.szM=5+szL Pat.szM c.pat.kids+3:=by unfold Cl.szM;rw[Pat.szM_kids]
theorem Cl.szM_le (c:Cl):c.szM≤8+5*(mCl c:Int):=by have:=Pat.szM_le c.pat;unfold Cl.szM mCl;omega
theorem Cls.szM_le:∀l:List Cl,szL Cl.szM l≤8*(mCls l:Int)
 | []=>by simp[szL,mCls]
 |c::r=>by
  have h1:=Cl.szM_le c
  have h2:=Cls.szM_le r
  simp only[szL,mCls,List.length_cons,List.map_cons,List.sum_cons] at *
  omega
theorem zkw {c:Cl} (hok:c.pat.ok):
  FnD Tryz.prog 33 [.agg [.d (.i c.pat.op),.d (.i c.pat.ctor),.d (.i c.pat.n),.d (.i c.pat.m),.d (.i c.pat.var),.d (zad c.pat.kids),.d (.i c.g.op),.d (.i c.g.var),.d (.i c.g.n)]] [] (.agg [.d (.i c.pat.op),.d (.i c.pat.ctor),.d (.i c.pat.n),.d (.i c.pat.m),.d (.i c.pat.var),.ms 66 c.pat.kids.length,.d (.i c.g.op),.d (.i c.g.var),.d (.i c.g.n)]) [(66,some (.tree (zah false (Pat.cs c.pat.kids))))]:=by
 refine bd Tryz.f33 13 [] [] fun w0 F0 own kept hk=>?_
 refine Walk.box (id:=3001) .none rfl rfl rfl rfl rfl rfl rfl ?_
 refine Walk.alloc (id:=3002) tz85 rfl .none rfl rfl rfl rfl ?_
 refine tv ?_
 refine Walk.alloc (id:=3003) tz85 rfl .none rfl rfl rfl rfl ?_
 refine tv ?_
 refine Walk.call (cr:=[66]) zpL (zew _ (Nat.le_refl _) hok) rfl .none rfl rfl (LeL.refl _) trivial rfl (by first|rfl|(simp only[zat,List.all_cons,List.all_nil,zaE,zaz,AV.idsL,AV.ids,zab,zaa,List.map_cons,List.map_nil];rfl)) (by first|rfl|(simp only[zak,occH,occE,Res.ids,List.cons_append,List.nil_append,AV.idsL,AV.ids,zab,zaa,zac,zan,List.map_cons,List.map_nil,upC];rfl)) ?_
 refine ev ?_
 refine Walk.store ty77 .none rfl rfl rfl rfl rfl rfl (by simp) rfl ?_
 refine tv ?_
 refine Walk.call (cr:=[]) zr2 (zhi) rfl .none rfl rfl (LeL.refl _) trivial rfl rfl rfl ?_
 refine ev ?_
 refine Walk.store ty83 .none rfl rfl rfl rfl rfl rfl (by simp) rfl ?_
 refine tv ?_
 refine Walk.store ty85 .none rfl rfl rfl rfl rfl rfl (by simp) rfl ?_
 refine tv ?_
 focus (refine rn [(66,some (.tree (zah false (Pat.cs c.pat.kids))))] (.cons (.cellA ty85 rfl rfl rfl) .nil) (.agg (.cons (.eqd ?_) (.cons (.eqd ?_) (.cons (.eqd ?_) (.cons (.eqd ?_) (.cons (.eqd ?_) (.cons (LeA.msn ?_) (.cons (.eqd ?_) (.cons (.eqd ?_) (.cons (.eqd ?_) .nil)))))))))) ⟨rfl,rfl⟩ (SubH.get ⟨rfl,trivial⟩) (zbj rfl);all_goals (first|rfl|(simp[];done)|(simp_all;done)|(simp_all;omega)|omega))
theorem zge {l:List Cl} (hs:ClsOk l):FnD Tryz.prog 11 [.d (zbM l)] [] (.ms 68 l.length) [(68,some (.tree (zah false (l.map Cl.c))))]:=by
 have h:=hs.1
 have hf2:∀c∈l,FnD Tryz.prog 33 [.agg [.d (.i c.pat.op),.d (.i c.pat.ctor),.d (.i c.pat.n),.d (.i c.pat.m),.d (.i c.pat.var),.d (zad c.pat.kids),.d (.i c.g.op),.d (.i c.g.var),.d (.i c.g.n)]] [] (.agg [.d (.i c.pat.op),.d (.i c.pat.ctor),.d (.i c.pat.n),.d (.i c.pat.m),.d (.i c.pat.var),.ms 67 c.pat.kids.length,.d (.i c.g.op),.d (.i c.g.var),.d (.i c.g.n)]) [(67,some (.tree (zah false (Pat.cs c.pat.kids))))]:=fun v hv=>FnD.out_ren (zaa _ _) rfl (zkw (hs.2 v hv)) 67
 refine bd Tryz.f11 23 [] [2,4] fun w0 F0 own kept hk=>?_
 refine Walk.make (id:=68) sl35 tz85 rfl (by decide) (zce rfl) .none rfl rfl rfl (by simp;omega) (by simp;omega) rfl rfl rfl ?_
 refine ev ?_
 refine CWp.boxTree 68 false rfl rfl (zet _ _ _) ?_
 refine evc [] [] ?_
 refine CWp.loopX (ι:=List (Cl)×List (Cl)) hk (fun x=>[(4,.d (.i (x.1.length:Int)))]) [8,9,10,11,12,13,14,15,16,17,18,19,20,21] (fun x=>[(68,some (.tree (zah false (x.1.map Cl.c)++zaD x.2.length [.d (.i 0),.d (.i 0),.d (.i 0),.d (.i 0),.d (.i 0),.own false (.sl []),.d (.i 0),.d (.i 0),.d (.i 0)])))]) (fun x=>x.1++x.2=l) (fun x=>x.2.length) ([],l) (by simp) ⟨⟨_,rfl,(LeA.eqi (by first|rfl|(simp;done)|(simp_all;done)|omega))⟩,trivial⟩ ⟨(by first|rfl|(show some (Res.tree _)=some (Res.tree _);rw[zec,List.append_assoc];rfl)|(show some (Res.tree _)=some (Res.tree _);simp[zbv];rfl)),trivial⟩ (fun x=>rfl) (fun x hg1=>?_)
 obtain⟨pre,rest⟩:=x
 dsimp only at hg1 ⊢
 refine evc [] [2,4] ?_
 refine sq (fun h1 h1p h1s=>?_) fun h1 h1p h1s=>?_
 try simp only[Q,Pat.cs_len] at h1p
 rcases rest with _|⟨y,rest⟩
 ·exfalso;simp_all
 refine Walk.idx sl25 .none rfl rfl rfl rfl (za0 hg1) rfl ?_
 refine ev ?_
 refine Walk.call (cr:=[67]) zrS (hf2 y (by rw[←hg1];simp)) rfl .none rfl rfl (LeL.refl _) trivial rfl (by first|rfl|(simp only[zat,List.all_cons,List.all_nil,zaE,zaz,AV.idsL,AV.ids,zab,zaa,List.map_cons,List.map_nil];rfl)) (by first|rfl|(simp only[zak,occH,occE,Res.ids,List.cons_append,List.nil_append,AV.idsL,AV.ids,zab,zaa,zac,zan,List.map_cons,List.map_nil,upC];rfl)) ?_
 refine Walk.idxM sl35 .none rfl rfl rfl rfl (by first|omega|(simp[Pat.cs_len];omega)) ?_
 refine Walk.storeT ty85 .none rfl rfl rfl rfl rfl rfl (by simp) ((zf2 (za1 false _) rfl)) ?_
 refine tv ?_
 refine CWp.merge hk 68 (pre.length*9+5) 67 6 _ rfl (zbl (za1 false _) rfl) (by simp[zas,Pat.cs_len]) rfl Pat.cs_rows rfl rfl (zaH (za1 false _) (zct rfl)) ?_
 refine evc [] [] ?_
 refine ar ?_
 refine Exists.intro ((pre++[y],rest)) ⟨(by have hz:=hg1;rw[←hz];simp),(by simp),Sub.x (by kernel_rfl) (by kernel_rfl) ⟨⟨_,rfl,(LeA.eqi (by first|rfl|(simp;done)|(simp_all;done)|omega))⟩,trivial⟩ (by kernel_rfl) (by kernel_rfl) ⟨(by first|rfl|(show some (Res.tree _)=some (Res.tree _);rw[zec,List.append_assoc];rfl)|(show some (Res.tree _)=some (Res.tree _);simp[zbv];rfl)),trivial⟩⟩
 try simp only[Q,Pat.cs_len] at h1p
 have hrest:rest=[]:=by
  rcases rest with _|⟨a,b⟩
  ·rfl
  ·exfalso;have hz:=congrArg List.length (hg1);simp only[List.length_append,List.length_cons,List.length_map] at hz;omega
 subst hrest
 refine rn [(68,some (.tree (zah false (l.map Cl.c))))] (r1 rfl) (LeA.msn ?_) ⟨rfl,rfl⟩ (SubH.get ⟨?_,trivial⟩) (zbj rfl)
 rotate_left 2
 all_goals (first|((first|rfl|(simp;done));done)|(first|rfl|(rw[List.append_nil] at hg1;subst hg1;show some (Res.tree _)=some (Res.tree _);simp[zaD];done)))
theorem zls {l:List Pat}{k:Int} (h0:0<k) (h1:k+szL Pat.szM l≤1000000000000) (hl:l.length≤1000000000000) (hok:Pats.ok l):FnD Tryz.prog 18 [.ms 47 l.length,.d (.i k)] [(47,some (.tree (zah false (Pat.cs l))))]
  (.d (.i (k+szL Pat.szM l))) [(47,some (.tree (zah false (Pat.cs (mkL Pat.one Pat.szM k l)))))]:=zgT (zfg _ (Nat.le_refl _) h0 h1 hl hok)
theorem ziL {l:List Cl}{k:Int} (h0:0<k) (h1:k+szL Cl.szM l≤1000000000000) (hok:ClsOk l):FnD Tryz.prog 17 [.ms 48 l.length,.d (.i k)] [(48,some (.tree (zah false (l.map Cl.c))))]
  (.d (.i (k+szL Cl.szM l))) [(48,some (.tree (zah false ((mkL Cl.one Cl.szM k l).map Cl.c))))]:=by
 have hl:=hok.1
 have hpk:=fun(c:Cl) (hc:c∈l)=>(Pat.ok_iff c.pat).1 (hok.2 c hc)
 refine bd Tryz.f17 85 [57] [14,15,1000009] fun w0 F0 own kept hk=>?_
 refine CWp.loopX (ι:=List (Cl)×List (Cl)×(Int)) hk (fun x=>[(5,.d (.i (x.1.length:Int))),(1,.d (.i x.2.2))]) [6,7,8,9,10,11,12,13,14,15,16,17,18,19,20,21,22,23,24,25,26,27,28,29,30,31,32,33,34,35,36,37,38,39,40,41,42,43,44,45,46,47,48,49,50,51,52,53,54,55,56,57,58,59,60,61,62,63,64,65,66,67,68,69,70,71,72,73,74,75,76,77,78,79,80,81,82,83] (fun x=>[(48,some (.tree (zah false ((mkL Cl.one Cl.szM k x.1).map Cl.c)++zah false (x.2.1.map Cl.c))))]) (fun x=>x.1++x.2.1=l∧x.2.2=k+szL Cl.szM x.1) (fun x=>x.2.1.length) ([],l,k) ⟨by simp,by simp[szL]⟩ ⟨⟨_,rfl,(LeA.eqi (by first|rfl|(simp;done)|omega|(refine Eq.trans (b:=v+Cl.szM y) ?_ rfl;omega)))⟩,⟨⟨_,rfl,(LeA.eqi (by first|rfl|(simp;done)|omega|(refine Eq.trans (b:=v+Cl.szM y) ?_ rfl;omega)))⟩,trivial⟩⟩ ⟨(by first|rfl|(show some (Res.tree _)=some (Res.tree _);rw[zcr,zec,←hg1.2];simp only[Cl.one,Pat.one_kids,Pat.one_sc y.pat v,List.append_assoc,List.cons_append,List.nil_append];all_goals rfl)),trivial⟩ (fun x=>rfl) (fun x hg1=>?_)
 obtain⟨pre,rest,v⟩:=x
 dsimp only at hg1 ⊢
 refine evc [57] [14,15,1000009] ?_
 refine cq (fun h1 h1p h1s=>?_) fun h1 h1p h1s=>?_
 try simp only[Q] at h1p
 rcases rest with _|⟨y,rest⟩
 ·exfalso;simp_all
 have hsp:=ze4 (sz:=Cl.szM) hg1.1;have hnn:=za8 (l:=rest) Cl.szM_nn;have hnp:=za8 (l:=pre) Cl.szM_nn;have hys:=Cl.szM_kids y;have hya:=za8 (l:=y.pat.kids) Pat.szM_nn;have hv:=hg1.2
 refine CWp.reTree 48 (zah false ((mkL Cl.one Cl.szM k pre).map Cl.c)++(.d (.i y.pat.op):: .d (.i y.pat.ctor):: .d (.i y.pat.n):: .d (.i y.pat.m):: .d (.i y.pat.var):: .own false (zad y.pat.kids):: .d (.i y.g.op):: .d (.i y.g.var):: .d (.i y.g.n)::zah false (rest.map Cl.c))) rfl (by rw[zoC]) ?_
 refine evc [57] [14,15,1000009] ?_
 refine Walk.idxM sl35 .none rfl rfl rfl rfl (by first|omega|(simp[Pat.cs_nil,Pat.cs_len,Pat.cs];omega)) ?_
 refine evs [57] [] ?_
 refine Walk.storeT ty3 .none rfl rfl rfl rfl rfl rfl (by simp) ((zaH ((za1 false _).trans (by rw[zas];all_goals rfl)) zhX)) ?_
 refine tv ?_
 refine ar ?_
 refine Walk.idxM sl35 .none rfl rfl rfl rfl (by first|omega|(simp[Pat.cs_nil,Pat.cs_len,Pat.cs];omega)) ?_
 refine evs [57] [] ?_
 refine Walk.storeT ty3 .none rfl rfl rfl rfl rfl rfl (by simp) ((zaH ((za1 false _).trans (by rw[zas];all_goals rfl)) zdA)) ?_
 refine tv ?_
 refine ar ?_
 refine Walk.idxM sl35 .none rfl rfl rfl rfl (by first|omega|(simp[Pat.cs_nil,Pat.cs_len,Pat.cs];omega)) ?_
 refine evs [57] [] ?_
 refine Walk.storeT ty3 .none rfl rfl rfl rfl rfl rfl (by simp) ((zaH ((za1 false _).trans (by rw[zas];all_goals rfl)) zjN)) ?_
 refine tv ?_
 refine ar ?_
 refine Walk.idxM sl35 .none rfl rfl rfl rfl (by first|omega|(simp[Pat.cs_nil,Pat.cs_len,Pat.cs];omega)) ?_
 refine evs [57] [] ?_
 refine Walk.storeT ty3 .none rfl rfl rfl rfl rfl rfl (by simp) ((zaH ((za1 false _).trans (by rw[zas];all_goals rfl)) zpu)) ?_
 refine tv ?_
 refine ar ?_
 refine Walk.idxM sl35 .none rfl rfl rfl rfl (by first|omega|(simp[Pat.cs_nil,Pat.cs_len,Pat.cs];omega)) ?_
 refine evs [57] [] ?_
 refine Walk.storeT ty3 .none rfl rfl rfl rfl rfl rfl (by simp) ((zaH ((za1 false _).trans (by rw[zas];all_goals rfl)) zpv)) ?_
 refine tv ?_
 refine ar ?_
 by_cases hs2:y.pat.kids=[]
 refine CWp.emptyCell 48 (pre.length*9+5) rfl (zbl ((za1 false _).trans (by rw[zas];all_goals rfl)) rfl) (by simp[hs2,Pat.cs_nil,Pat.cs_len,Pat.cs]) (zaH ((za1 false _).trans (by rw[zas];all_goals rfl)) ze1) ?_
 refine evc [57] [] ?_
 refine Walk.idxM sl35 .none rfl rfl rfl rfl (by first|omega|(simp[Pat.cs_nil,Pat.cs_len,Pat.cs];omega)) ?_
 refine evs [57] [] ?_
 refine Walk.loadT ty28 .none rfl rfl rfl ((by rw[zbl ((za1 false _).trans (by rw[zas];all_goals rfl)) rfl];rfl)) ?_
 refine evs [57] [] ?_
 refine Walk.call (cr:=[]) zjD (zdz hs2) rfl .none rfl rfl (LeL.refl _) trivial rfl (by first|rfl|(simp only[zat,List.all_cons,List.all_nil,zaE,zaz,AV.idsL,AV.ids,zab,zaa,List.map_cons,List.map_nil];rfl)) (by first|rfl|(simp only[zak,occH,occE,Res.ids,List.cons_append,List.nil_append,AV.idsL,AV.ids,zab,zaa,zac,zan,List.map_cons,List.map_nil,upC];rfl)) ?_
 refine evs [57] [] ?_
 refine CWp.fullCell 48 (pre.length*9+5) false rfl (xs:=Pat.cs (mkL Pat.one Pat.szM (v+1+1+1+1+1) y.pat.kids)) rfl (zbl ((za1 false _).trans (by rw[zas];all_goals rfl)) rfl) (by simp[hs2,mkL,Pat.cs]) (zaH ((za1 false _).trans (by rw[zas];all_goals rfl)) ze1) ?_
 refine evc [57] [] ?_
 refine Walk.idxM sl35 .none rfl rfl rfl rfl (by first|omega|(simp[Pat.cs_nil,Pat.cs_len,Pat.cs];omega)) ?_
 refine evs [57] [] ?_
 refine Walk.storeT ty3 .none rfl rfl rfl rfl rfl rfl (by simp) ((zaH (o:=pre.length*9) (j:=6) ((za1 false _).trans (by rw[zas])) zpw)) ?_
 refine tv ?_
 refine ar ?_
 refine Walk.idxM sl35 .none rfl rfl rfl rfl (by first|omega|(simp[Pat.cs_nil,Pat.cs_len,Pat.cs];omega)) ?_
 refine evs [57] [] ?_
 refine Walk.storeT ty3 .none rfl rfl rfl rfl rfl rfl (by simp) ((zaH (o:=pre.length*9) (j:=7) ((za1 false _).trans (by rw[zas])) zpx)) ?_
 refine tv ?_
 refine ar ?_
 refine Walk.idxM sl35 .none rfl rfl rfl rfl (by first|omega|(simp[Pat.cs_nil,Pat.cs_len,Pat.cs];omega)) ?_
 refine evs [57] [] ?_
 refine Walk.storeT ty3 .none rfl rfl rfl rfl rfl rfl (by simp) ((zaH (o:=pre.length*9) (j:=8) ((za1 false _).trans (by rw[zas])) zpy)) ?_
 refine tv ?_
 refine ar ?_
 refine ar ?_
 refine Exists.intro ((pre++[y],rest,v+Cl.szM y)) ⟨⟨(by have hz:=hg1.1;rw[←hz];simp),(by show v+Cl.szM y=_;rw[zdn,hg1.2];omega)⟩,(by simp),Sub.x (by kernel_rfl) (by kernel_rfl) ⟨⟨_,rfl,(LeA.eqi (by first|rfl|(simp;done)|omega|(refine Eq.trans (b:=v+Cl.szM y) ?_ rfl;omega)))⟩,⟨⟨_,rfl,(LeA.eqi (by first|rfl|(simp;done)|omega|(refine Eq.trans (b:=v+Cl.szM y) ?_ rfl;omega)))⟩,trivial⟩⟩ (by kernel_rfl) (by kernel_rfl) ⟨(by first|rfl|(show some (Res.tree _)=some (Res.tree _);rw[zcr,zec,←hg1.2];simp only[Cl.one,Pat.one_kids,Pat.one_sc y.pat v,List.append_assoc,List.cons_append,List.nil_append];all_goals rfl)),trivial⟩⟩
 refine CWp.split 48 (pre.length*9+5) 47 rfl (zbl ((za1 false _).trans (by rw[zas];all_goals rfl)) rfl) (by simp[hs2,Pat.cs_nil,Pat.cs_len,Pat.cs]) (by first|rfl|(simp only[zak,occH,occE,Res.ids,List.cons_append,List.nil_append,AV.idsL,AV.ids,zab,zaa,zac,zan,List.map_cons,List.map_nil,upC];rfl)) (zaH ((za1 false _).trans (by rw[zas];all_goals rfl)) ze1) ?_
 refine evc [57] [] ?_
 refine Walk.idxM sl35 .none rfl rfl rfl rfl (by first|omega|(simp[Pat.cs_nil,Pat.cs_len,Pat.cs];omega)) ?_
 refine evs [57] [] ?_
 refine Walk.loadT ty28 .none rfl rfl rfl ((by rw[zbl ((za1 false _).trans (by rw[zas];all_goals rfl)) rfl];rfl)) ?_
 refine evs [57] [] ?_
 refine Walk.call (cr:=[]) zjD (zls (l:=y.pat.kids) (k:=v+1+1+1+1+1) (by omega) (by omega) (hpk y (by rw[←hg1.1];simp)).1 (hpk y (by rw[←hg1.1];simp)).2) rfl .none rfl rfl (.cons (LeA.msn (by first|rfl|(simp[Pat.cs_nil,Pat.cs_len,Pat.cs];done))) (.cons (.refl _) .nil)) ⟨by first|rfl|(simp;rfl),trivial⟩ rfl (by first|rfl|(simp only[zat,List.all_cons,List.all_nil,zaE,zaz,AV.idsL,AV.ids,zab,zaa,List.map_cons,List.map_nil];rfl)) (by first|rfl|(simp only[zak,occH,occE,Res.ids,List.cons_append,List.nil_append,AV.idsL,AV.ids,zab,zaa,zac,zan,List.map_cons,List.map_nil,upC];rfl)) ?_
 refine evs [57] [] ?_
 refine CWp.merge hk 48 (pre.length*9+5) 47 6 _ rfl (zbl ((za1 false _).trans (by rw[zas];all_goals rfl)) rfl) (by simp[zas,Pat.cs_nil,Pat.cs_len,Pat.cs]) rfl Pat.cs_rows rfl rfl (zaH ((za1 false _).trans (by rw[zas];all_goals rfl)) ze1) ?_
 refine evc [57] [] ?_
 refine Walk.idxM sl35 .none rfl rfl rfl rfl (by first|omega|(simp[Pat.cs_nil,Pat.cs_len,Pat.cs];omega)) ?_
 refine evs [57] [] ?_
 refine Walk.storeT ty3 .none rfl rfl rfl rfl rfl rfl (by simp) ((zaH (o:=pre.length*9) (j:=6) ((za1 false _).trans (by rw[zas])) zpw)) ?_
 refine tv ?_
 refine ar ?_
 refine Walk.idxM sl35 .none rfl rfl rfl rfl (by first|omega|(simp[Pat.cs_nil,Pat.cs_len,Pat.cs];omega)) ?_
 refine evs [57] [] ?_
 refine Walk.storeT ty3 .none rfl rfl rfl rfl rfl rfl (by simp) ((zaH (o:=pre.length*9) (j:=7) ((za1 false _).trans (by rw[zas])) zpx)) ?_
 refine tv ?_
 refine ar ?_
 refine Walk.idxM sl35 .none rfl rfl rfl rfl (by first|omega|(simp[Pat.cs_nil,Pat.cs_len,Pat.cs];omega)) ?_
 refine evs [57] [] ?_
 refine Walk.storeT ty3 .none rfl rfl rfl rfl rfl rfl (by simp) ((zaH (o:=pre.length*9) (j:=8) ((za1 false _).trans (by rw[zas])) zpy)) ?_
 refine tv ?_
 refine ar ?_
 refine ar ?_
 refine Exists.intro ((pre++[y],rest,v+Cl.szM y)) ⟨⟨(by have hz:=hg1.1;rw[←hz];simp),(by show v+Cl.szM y=_;rw[zdn,hg1.2];omega)⟩,(by simp),Sub.x (by kernel_rfl) (by kernel_rfl) ⟨⟨_,rfl,(LeA.eqi (by first|rfl|(simp;done)|omega|(refine Eq.trans (b:=v+Cl.szM y) ?_ rfl;omega)))⟩,⟨⟨_,rfl,(LeA.eqi (by first|rfl|(simp;done)|omega|(refine Eq.trans (b:=v+Cl.szM y) ?_ rfl;omega)))⟩,trivial⟩⟩ (by kernel_rfl) (by kernel_rfl) ⟨(by first|rfl|(show some (Res.tree _)=some (Res.tree _);rw[zcr,zec,←hg1.2];simp only[Cl.one,Pat.one_kids,Pat.one_sc y.pat v,List.append_assoc,List.cons_append,List.nil_append];all_goals rfl)),trivial⟩⟩
 try simp only[Q] at h1p
 have hrest:rest=[]:=by
  rcases rest with _|⟨a,b⟩
  ·rfl
  ·exfalso;have hz:=congrArg List.length (hg1.1);simp only[List.length_append,List.length_cons,List.length_map] at hz;omega
 subst hrest
 refine evc [57] [14,15,1000009] ?_
 refine rn [(48,some (.tree (zah false ((mkL Cl.one Cl.szM k l).map Cl.c))))] (r1 rfl) (.eqd ?_) ⟨rfl,rfl⟩ (SubO.get ⟨.inr ?_,⟨.inl rfl,trivial⟩⟩) (zbj rfl)
 rotate_left 2
 all_goals (first|((first|rfl|(obtain⟨hg1,hv⟩:=hg1;rw[List.append_nil] at hg1;subst hg1;rw[hv]));done)|(first|rfl|(obtain⟨hg1,_⟩:=hg1;rw[List.append_nil] at hg1;subst hg1;show some (Res.tree _)=some (Res.tree _);simp[zbv];done)))
theorem zhU {pre rest l:List Pat}{y:Pat}{k:Int} (h:pre++y::rest=l):(Pat.cs (mkL Pat.one Pat.szM k l))[pre.length]?=some (Pat.cc (Pat.one (k+szL Pat.szM pre) y)):=by
 rw[Pat.cs_cd];exact ztB h
theorem zcq:∀(n:Nat){l:List Pat}{k:Int},Pats.size l<n→0<k→k+szL Pat.szM l≤1000000000000→l.length≤1000000000000→Pats.ok l→
  FnD Tryz.prog 19 [.d (zad (mkL Pat.one Pat.szM k l)),.d (.i k)] [] (.d (.i (k+szL Pat.szM l))) []
 |0,l,k,h,_,_,_,_=>absurd h (Nat.not_lt_zero _)
 |n+1,l,k,h,h0,h1,hl,hok=>by
  have hcall:∀(y:Pat) (v:Int) (q:Int),y∈l→v=q→0<v→v+5+szL Pat.szM y.kids≤1000000000000→FnD Tryz.prog 19 [.d (zad (Pat.one q y).kids),.d (.i (v+1+1+1+1+1))] [] (.d (.i (v+1+1+1+1+1+szL Pat.szM y.kids))) []:=fun y v q hy e h2 h3=>by
   subst e
   rw[Pat.one_kids]
   have ho:=(Pat.ok_iff y).1 (Pats.ok_mem hok y hy)
   exact zcq n (by have hm:=Pats.size_mem hy;rw[Pat.size_eq] at hm;omega) (by omega) (by omega) ho.1 ho.2
  refine bd Tryz.f19 67 [] [] fun w0 F0 own kept hk=>?_
  refine CWp.loopX (ι:=List (Pat)×List (Pat)×(Int)) hk (fun x=>[(5,.d (.i (x.1.length:Int))),(1,.d (.i x.2.2))]) [4,6,7,8,9,10,11,12,13,14,15,16,17,18,19,20,21,22,23,24,25,26,27,28,29,30,31,32,33,34,35,36,37,38,39,40,41,42,43,44,45,46,47,48,49,50,51,52,53,54,55,56,57,58,59,60,61,62,63,64,65] (fun x=>[]) (fun x=>x.1++x.2.1=l∧x.2.2=k+szL Pat.szM x.1) (fun x=>x.2.1.length) ([],l,k) ⟨by simp,by simp[szL]⟩ ⟨⟨_,rfl,(LeA.eqi (by first|rfl|(simp;done)|omega|(refine Eq.trans (b:=v+Pat.szM y) ?_ rfl;omega)))⟩,⟨⟨_,rfl,(LeA.eqi (by first|rfl|(simp;done)|omega|(refine Eq.trans (b:=v+Pat.szM y) ?_ rfl;omega)))⟩,trivial⟩⟩ trivial (fun x=>rfl) (fun x hg1=>?_)
  obtain⟨pre,rest,v⟩:=x
  dsimp only at hg1 ⊢
  refine evc [] [] ?_
  refine sq (fun h1 h1p h1s=>?_) fun h1 h1p h1s=>?_
  try simp only[Q,zas,Pat.cs_len] at h1p
  rcases rest with _|⟨y,rest⟩
  ·exfalso;simp_all
  have hsp:=ze4 (sz:=Pat.szM) hg1.1;have hnn:=za8 (l:=rest) Pat.szM_nn;have hnp:=za8 (l:=pre) Pat.szM_nn;have hys:=Pat.szM_kids y;have hya:=za8 (l:=y.kids) Pat.szM_nn;have hv:=hg1.2
  refine Walk.idx sl28 .none rfl rfl rfl rfl (zhU hg1.1) rfl ?_
  refine ev ?_
  refine sq (fun h2 h2p h2s=>?_) fun h2 h2p h2s=>?_
  try simp only[Q,zas,Pat.cs_len] at h2p
  exfalso;revert h2;simp[Pat.one_sc,hv]
  try simp only[Q,zas,Pat.cs_len] at h2p
  refine ar ?_
  refine Walk.idx sl28 .none rfl rfl rfl rfl (zhU hg1.1) rfl ?_
  refine ev ?_
  refine sq (fun h3 h3p h3s=>?_) fun h3 h3p h3s=>?_
  try simp only[Q,zas,Pat.cs_len] at h3p
  exfalso;revert h3;simp[Pat.one_sc,hv]
  try simp only[Q,zas,Pat.cs_len] at h3p
  refine ar ?_
  refine Walk.idx sl28 .none rfl rfl rfl rfl (zhU hg1.1) rfl ?_
  refine ev ?_
  refine sq (fun h4 h4p h4s=>?_) fun h4 h4p h4s=>?_
  try simp only[Q,zas,Pat.cs_len] at h4p
  exfalso;revert h4;simp[Pat.one_sc,hv]
  try simp only[Q,zas,Pat.cs_len] at h4p
  refine ar ?_
  refine Walk.idx sl28 .none rfl rfl rfl rfl (zhU hg1.1) rfl ?_
  refine ev ?_
  refine sq (fun h5 h5p h5s=>?_) fun h5 h5p h5s=>?_
  try simp only[Q,zas,Pat.cs_len] at h5p
  exfalso;revert h5;simp[Pat.one_sc,hv]
  try simp only[Q,zas,Pat.cs_len] at h5p
  refine ar ?_
  refine Walk.idx sl28 .none rfl rfl rfl rfl (zhU hg1.1) rfl ?_
  refine ev ?_
  refine sq (fun h6 h6p h6s=>?_) fun h6 h6p h6s=>?_
  try simp only[Q,zas,Pat.cs_len] at h6p
  exfalso;revert h6;simp[Pat.one_sc,hv]
  try simp only[Q,zas,Pat.cs_len] at h6p
  refine ar ?_
  refine Walk.idx sl28 .none rfl rfl rfl rfl (zhU hg1.1) rfl ?_
  refine ev ?_
  refine Walk.call (cr:=[]) zkX (hcall y v _ (by rw[←hg1.1];simp) hv (by omega) (by omega)) rfl .none rfl rfl (LeL.refl _) trivial rfl rfl rfl ?_
  refine ev ?_
  refine sq (fun h7 h7p h7s=>?_) fun h7 h7p h7s=>?_
  try simp only[Q,zas,Pat.cs_len] at h7p
  exfalso;omega
  try simp only[Q,zas,Pat.cs_len] at h7p
  refine ar ?_
  refine Exists.intro ((pre++[y],rest,v+Pat.szM y)) ⟨⟨(by have hz:=hg1.1;rw[←hz];simp),(by show v+Pat.szM y=_;rw[zdn,hg1.2];omega)⟩,(by simp),Sub.x (by kernel_rfl) (by kernel_rfl) ⟨⟨_,rfl,(LeA.eqi (by first|rfl|(simp;done)|omega|(refine Eq.trans (b:=v+Pat.szM y) ?_ rfl;omega)))⟩,⟨⟨_,rfl,(LeA.eqi (by first|rfl|(simp;done)|omega|(refine Eq.trans (b:=v+Pat.szM y) ?_ rfl;omega)))⟩,trivial⟩⟩ (by kernel_rfl) (by kernel_rfl) trivial⟩
  try simp only[Q,zas,Pat.cs_len] at h1p
  have hrest:rest=[]:=by
   rcases rest with _|⟨a,b⟩
   ·rfl
   ·exfalso;have hz:=congrArg List.length (hg1.1);simp only[List.length_append,List.length_cons,List.length_map] at hz;omega
  subst hrest
  refine rn0 (r1 rfl) (.eqd ?_)
  rotate_left
  all_goals (first|rfl|(obtain⟨hg1,hv⟩:=hg1;rw[List.append_nil] at hg1;subst hg1;rw[hv]))
mutual
theorem Pat.szM_size:∀v:Pat,v.szM=5*(v.size:Int)
 | .mk _ _ _ _ _ ks=>by
  have h:=Pats.szM_size ks
  rw[Pat.size_eq]
  simp only[Pat.szM,Pat.kids];omega
theorem Pats.szM_size:∀l:List Pat,Pats.szM l=5*(Pats.size l:Int)
 | []=>by simp[Pats.szM,Pats.size]
 |v::r=>by
  have h1:=Pat.szM_size v
  have h2:=Pats.szM_size r
  simp only[Pats.szM,Pats.size];omega
end
theorem zkd {k:Nat}:∀l:List Pat,(∀x∈l,x.ok∧x.size≤k)→(l.length≤400→Pats.ok l)∧Pats.size l≤l.length*k
 | [],_=>⟨fun _=>trivial,by simp[Pats.size]⟩
 |x::r,h=>by
  have h1:=h x (by simp)
  have h2:=zkd r (fun y hy=>h y (by simp[hy]))
  refine⟨fun hl=>⟨h1.1,h2.1 (by simp at hl;omega)⟩, ?_⟩
  simp only[Pats.size,List.length_cons,Nat.succ_mul];omega
theorem zj9 {l:List Data}{k:Int} (h0:0<k) (h1:k+szL Data.sz l≤1000000000000) (hl:WSmall l):FnD Tryz.prog 16 [.ms 63 l.length,.d (.i k)] [(63,some (.tree (zah false (l.map Data.c))))]
  (.d (.i (k+szL Data.sz l))) [(63,some (.tree (zah false ((mkL Data.one Data.sz k l).map Data.c))))]:=FnD.ren rfl (zaa _ _) (zaa _ _) (zjX h0 h1 hl) 63
theorem ziC {l:List Cl}{k:Int} (h0:0<k) (h1:k+szL Cl.szM l≤1000000000000) (hok:ClsOk l):FnD Tryz.prog 17 [.ms 68 l.length,.d (.i k)] [(68,some (.tree (zah false (l.map Cl.c))))]
  (.d (.i (k+szL Cl.szM l))) [(68,some (.tree (zah false ((mkL Cl.one Cl.szM k l).map Cl.c))))]:=FnD.ren rfl (zaa _ _) (zaa _ _) (ziL h0 h1 hok) 68
theorem zmx {m:Bool}{l:List Pat}{k:Int} (h0:0<k) (h1:k+szL Pat.szM l≤1000000000000) (hl:l.length≤1000000000000) (hok:Pats.ok l):FnD Tryz.prog 18 [.ms 62 l.length,.d (.i k)] [(62,some (.tree (zah m (Pat.cs l))))]
  (.d (.i (k+szL Pat.szM l))) [(62,some (.tree (zah false (Pat.cs (mkL Pat.one Pat.szM k l)))))]:=FnD.ren rfl (zaa _ _) (zaa _ _) (zfg _ (Nat.le_refl _) h0 h1 hl hok) 62
theorem zhC {w:List Data} (hs:WSmall w){a k:Int}{cl:List Cl} (hok:ClsOk cl){ps:List Pat} (hne:ps≠[]) (hpl:ps.length≤400) (hpo:Pats.ok ps) (hpz:szL Pat.szM ps≤10000000)
  (hspec:FnD Tryz.prog 8 [.d (zao w),.agg [.d (.i a),.d (.i k)],.d (zbM cl)] [] (.tup [.d (zad ps),.d (.bool true)]) [])
  (himp:FnD Tryz.prog 12 [.d (zao w),.agg [.d (.i a),.d (.i k)],.d (zbM cl)] [] (.tup [.d (zad ps),.d (.bool true)]) [])
  (hown:FnD Tryz.prog 12 [.d (zao w),.agg [.d (.i a),.d (.i k)],.d (zbM cl)] [] (.tup [.gt 62 (Pat.cs ps),.d (.bool true)]) [(62,some (.tok (Pat.cs ps).length 6))]):
  FnD Tryz.prog 3 [.d (zao w),.agg [.d (.i a),.d (.i k)],.d (zbM cl)] [] (.d (.bool true)) []:=by
 have z:=zbX (left:=1048576) (zeC w)
 have z2:=zbX (left:=szr 1048576 (zeC w)) (mCls cl)
 have hbd:=zg1 w
 have hnn:=za8 (l:=w) Data.sz_nn
 have hcb:=Cls.szM_le cl
 have hcn:=za8 (l:=cl) Cl.szM_nn
 have hpn:=za8 (l:=ps) Pat.szM_nn
 have heq:=fun m=>zcJ (l:=ps) (m:=m) (by omega) (fun x hx y=>zev _ (Nat.le_refl _) (Pats.ok_mem hpo x hx))
 refine bd Tryz.f3 127 [58,87,117] [12] fun w0 F0 own kept hk=>?_
 refine Walk.box (id:=3004) .none rfl rfl rfl rfl rfl rfl rfl ?_
 refine evs [58,87,117] [] ?_
 refine Walk.call (cr:=[]) cal6 (zhg hs (by omega) (by omega)) rfl .none rfl rfl (LeL.refl _) trivial rfl rfl rfl ?_
 refine evs [58,87,117] [] ?_
 refine sq (fun h1 h1p h1s=>?_) fun h1 h1p h1s=>?_
 try simp only[Q] at h1p
 refine rn0 (r1 rfl) (.eqd ?_)
 rotate_left
 try simp only[Q] at h1p
 refine Walk.call (cr:=[]) cal7 (zgc hok (by omega) (by omega)) rfl .none rfl rfl (LeL.refl _) trivial rfl rfl rfl ?_
 refine evs [58,87,117] [] ?_
 refine sq (fun h2 h2p h2s=>?_) fun h2 h2p h2s=>?_
 try simp only[Q] at h2p
 refine rn0 (r1 rfl) (.eqd ?_)
 rotate_left
 try simp only[Q] at h2p
 refine Walk.call (cr:=[]) cal9 (zcM hs) rfl .none rfl rfl (LeL.refl _) trivial rfl rfl rfl ?_
 refine evd [58,87,117] [] ?_
 refine Walk.call (cr:=[]) zg8 (zci) rfl .none rfl rfl (LeL.refl _) trivial rfl rfl rfl ?_
 refine evd [58,87,117] [] ?_
 refine Walk.call (cr:=[]) zg9 (zcu hok) rfl .none rfl rfl (LeL.refl _) trivial rfl rfl rfl ?_
 refine Walk.call (cr:=[]) cal8 (hspec) rfl .none rfl rfl (LeL.refl _) trivial rfl rfl rfl ?_
 refine evd [58,87,117] [] ?_
 refine dr ?_
 refine Walk.call (cr:=[63]) cal9 (zhh hs) rfl .none rfl rfl (LeL.refl _) trivial rfl (by first|rfl|(simp only[zat,List.all_cons,List.all_nil,zaE,zaz,AV.idsL,AV.ids,zab,zaa,List.map_cons,List.map_nil];rfl)) (by first|rfl|(simp only[zak,occH,occE,Res.ids,List.cons_append,List.nil_append,AV.idsL,AV.ids,zab,zaa,zac,zan,List.map_cons,List.map_nil,upC];rfl)) ?_
 refine evs [58,87,117] [] ?_
 refine Walk.call (cr:=[68]) zg9 (zge hok) rfl .none rfl rfl (LeL.refl _) trivial rfl (by first|rfl|(simp only[zat,List.all_cons,List.all_nil,zaE,zaz,AV.idsL,AV.ids,zab,zaa,List.map_cons,List.map_nil];rfl)) (by first|rfl|(simp only[zak,occH,occE,Res.ids,List.cons_append,List.nil_append,AV.idsL,AV.ids,zab,zaa,zac,zan,List.map_cons,List.map_nil,upC];rfl)) ?_
 refine evs [58,87,117] [] ?_
 refine Walk.call (cr:=[]) zg8 (zci) rfl .none rfl rfl (LeL.refl _) trivial rfl (by first|rfl|(simp only[zat,List.all_cons,List.all_nil,zaE,zaz,AV.idsL,AV.ids,zab,zaa,List.map_cons,List.map_nil];rfl)) (by first|rfl|(simp only[zak,occH,occE,Res.ids,List.cons_append,List.nil_append,AV.idsL,AV.ids,zab,zaa,zac,zan,List.map_cons,List.map_nil,upC];rfl)) ?_
 refine evs [58,87,117] [] ?_
 refine Walk.lend (cr:=[62]) (lr:=[(63,_),(68,_)]) znJ (hown) rfl .none rfl rfl (.cons (.ms (k:=2) List.mem_cons_self (by intro x hx;obtain⟨y,_,rfl⟩:=List.mem_map.1 hx;rfl) (by first|rfl|(simp[zas,Pat.cs_len];done))) (.cons (.le (.refl _)) (.cons (.ms (k:=9) (List.mem_cons_of_mem _ List.mem_cons_self) Cl.rows (by first|rfl|(simp[zas,Pat.cs_len];done))) .nil))) ⟨rfl,⟨rfl,trivial⟩⟩ rfl (by first|rfl|(simp only[zdg,zcY,zb0,AV.ids];rfl)) (by first|rfl|(simp only[zak,occH,occE,Res.ids,List.cons_append,List.nil_append,AV.idsL,AV.ids,zab,zaa,zac,zan,List.map_cons,List.map_nil,upC];rfl)) ?_
 refine evs [58,87,117] [] ?_
 refine CWp.fixT hk 12 62 6 rfl rfl rfl (fun hx3=>?_) (fun hx3=>?_)
 exact absurd ((Pat.cs_nil _).1 hx3) hne
 refine evc [58,87,117] [] ?_
 refine Walk.lend (cr:=[]) (lr:=[(62,_)]) zh7 (heq ps) rfl .none rfl rfl (.cons (.ms (k:=6) List.mem_cons_self Pat.cs_rows (by first|rfl|(simp[zas,Pat.cs_len];done))) (.cons (.le (.refl _)) .nil)) ⟨rfl,trivial⟩ rfl (by first|rfl|(simp only[zdg,zcY,zb0,AV.ids];rfl)) (by first|rfl|(simp only[zak,occH,occE,Res.ids,List.cons_append,List.nil_append,AV.idsL,AV.ids,zab,zaa,zac,zan,List.map_cons,List.map_nil,upC];rfl)) ?_
 refine evs [58,87,117] [] ?_
 refine sq (fun h4 h4p h4s=>?_) fun h4 h4p h4s=>?_
 try simp only[Q] at h4p
 refine sqT ?_
 refine rn0 (r1 rfl) (.eqd ?_)
 rotate_left
 try simp only[Q] at h4p
 refine Walk.neB un4 (.some rfl rfl h4) rfl rfl rfl ?_
 refine evs [58,87,117] [(55,false)] ?_ ⟨⟨_,rfl,h4⟩,trivial⟩
 refine sq (fun h6 h6p h6s=>?_) fun h6 h6p h6s=>?_
 try simp only[Q] at h6p
 refine rn0 (r1 rfl) (.eqd ?_)
 rotate_left
 try simp only[Q] at h6p
 refine Walk.call (cr:=[]) cal9 (zcM hs) rfl .none rfl rfl (LeL.refl _) trivial rfl (by first|rfl|(simp only[zat,List.all_cons,List.all_nil,zaE,zaz,AV.idsL,AV.ids,zab,zaa,List.map_cons,List.map_nil];rfl)) (by first|rfl|(simp only[zak,occH,occE,Res.ids,List.cons_append,List.nil_append,AV.idsL,AV.ids,zab,zaa,zac,zan,List.map_cons,List.map_nil,upC];rfl)) ?_
 refine Walk.lend (cr:=[]) (lr:=[(63,_)]) zrL (zhe hs) rfl .none rfl rfl (.cons (.ms (k:=2) List.mem_cons_self (by intro x hx;obtain⟨y,_,rfl⟩:=List.mem_map.1 hx;rfl) (by first|rfl|(simp[zas,Pat.cs_len];done))) (.cons (.le (.refl _)) .nil)) ⟨rfl,trivial⟩ rfl (by first|rfl|(simp only[zdg,zcY,zb0,AV.ids];rfl)) (by first|rfl|(simp only[zak,occH,occE,Res.ids,List.cons_append,List.nil_append,AV.idsL,AV.ids,zab,zaa,zac,zan,List.map_cons,List.map_nil,upC];rfl)) ?_
 refine evs [58,87,117] [] ?_
 refine sq (fun h7 h7p h7s=>?_) fun h7 h7p h7s=>?_
 try simp only[Q] at h7p
 refine rn0 (r1 rfl) (.eqd ?_)
 rotate_left
 try simp only[Q] at h7p
 refine Walk.call (cr:=[]) zg9 (zcu hok) rfl .none rfl rfl (LeL.refl _) trivial rfl (by first|rfl|(simp only[zat,List.all_cons,List.all_nil,zaE,zaz,AV.idsL,AV.ids,zab,zaa,List.map_cons,List.map_nil];rfl)) (by first|rfl|(simp only[zak,occH,occE,Res.ids,List.cons_append,List.nil_append,AV.idsL,AV.ids,zab,zaa,zac,zan,List.map_cons,List.map_nil,upC];rfl)) ?_
 refine Walk.lend (cr:=[]) (lr:=[(68,_)]) zrM (zgb hok) rfl .none rfl rfl (.cons (.ms (k:=9) List.mem_cons_self Cl.rows (by first|rfl|(simp[zas,Pat.cs_len];done))) (.cons (.le (.refl _)) .nil)) ⟨rfl,trivial⟩ rfl (by first|rfl|(simp only[zdg,zcY,zb0,AV.ids];rfl)) (by first|rfl|(simp only[zak,occH,occE,Res.ids,List.cons_append,List.nil_append,AV.idsL,AV.ids,zab,zaa,zac,zan,List.map_cons,List.map_nil,upC];rfl)) ?_
 refine evs [58,87,117] [] ?_
 refine sq (fun h8 h8p h8s=>?_) fun h8 h8p h8s=>?_
 try simp only[Q] at h8p
 refine rn0 (r1 rfl) (.eqd ?_)
 rotate_left
 try simp only[Q] at h8p
 refine Walk.call (cr:=[]) zrN (zj9 (l:=w) (k:=1) (by omega) (by omega) hs) rfl .none rfl rfl (.cons (LeA.msn (by first|rfl|(simp[Pat.cs_len];done))) (.cons (.refl _) .nil)) ⟨rfl,trivial⟩ rfl (by first|rfl|(simp only[zat,List.all_cons,List.all_nil,zaE,zaz,AV.idsL,AV.ids,zab,zaa,List.map_cons,List.map_nil];rfl)) (by first|rfl|(simp only[zak,occH,occE,Res.ids,List.cons_append,List.nil_append,AV.idsL,AV.ids,zab,zaa,zac,zan,List.map_cons,List.map_nil,upC];rfl)) ?_
 refine evs [58,87,117] [] ?_
 refine Walk.call (cr:=[]) zrO (ziC (l:=cl) (k:=1+szL Data.sz w) (by omega) (by omega) hok) rfl .none rfl rfl (.cons (LeA.msn (by first|rfl|(simp[Pat.cs_len];done))) (.cons (.refl _) .nil)) ⟨rfl,trivial⟩ rfl (by first|rfl|(simp only[zat,List.all_cons,List.all_nil,zaE,zaz,AV.idsL,AV.ids,zab,zaa,List.map_cons,List.map_nil];rfl)) (by first|rfl|(simp only[zak,occH,occE,Res.ids,List.cons_append,List.nil_append,AV.idsL,AV.ids,zab,zaa,zac,zan,List.map_cons,List.map_nil,upC];rfl)) ?_
 refine evs [58,87,117] [] ?_
 refine sq (fun h9 h9p h9s=>?_) fun h9 h9p h9s=>?_
 try simp only[Q] at h9p
 refine sqT ?_
 refine sqT ?_
 refine rn0 (r1 rfl) (.eqd ?_)
 rotate_left
 try simp only[Q] at h9p
 refine Walk.lend (cr:=[]) (lr:=[(62,_)]) zh7 (heq ps) rfl (.some rfl rfl h9) rfl rfl (.cons (.ms (k:=6) List.mem_cons_self Pat.cs_rows (by first|rfl|(simp[zas,Pat.cs_len];done))) (.cons (.le (.refl _)) .nil)) ⟨rfl,trivial⟩ rfl (by first|rfl|(simp only[zdg,zcY,zb0,AV.ids];rfl)) (by first|rfl|(simp only[zak,occH,occE,Res.ids,List.cons_append,List.nil_append,AV.idsL,AV.ids,zab,zaa,zac,zan,List.map_cons,List.map_nil,upC];rfl)) ?_
 refine evs [58,87,117] [(78,false)] ?_ ⟨⟨_,rfl,h9⟩,trivial⟩
 refine sq (fun h11 h11p h11s=>?_) fun h11 h11p h11s=>?_
 try simp only[Q] at h11p
 refine sqT ?_
 refine rn0 (r1 rfl) (.eqd ?_)
 rotate_left
 try simp only[Q] at h11p
 refine Walk.neB un4 (.some rfl rfl h11) rfl rfl rfl ?_
 refine evs [58,87,117] [(84,false)] ?_ ⟨⟨_,rfl,h11⟩,trivial⟩
 refine sq (fun h13 h13p h13s=>?_) fun h13 h13p h13s=>?_
 try simp only[Q] at h13p
 refine rn0 (r1 rfl) (.eqd ?_)
 rotate_left
 try simp only[Q] at h13p
 refine Walk.call (cr:=[]) zjD (zmx (m:=true) (l:=ps) (k:=1) (by omega) (by omega) (by omega) hpo) rfl .none rfl rfl (.cons (LeA.msn (by first|rfl|(simp[Pat.cs_len];done))) (.cons (.refl _) .nil)) ⟨rfl,trivial⟩ rfl (by first|rfl|(simp only[zat,List.all_cons,List.all_nil,zaE,zaz,AV.idsL,AV.ids,zab,zaa,List.map_cons,List.map_nil];rfl)) (by first|rfl|(simp only[zak,occH,occE,Res.ids,List.cons_append,List.nil_append,AV.idsL,AV.ids,zab,zaa,zac,zan,List.map_cons,List.map_nil,upC];rfl)) ?_
 refine evs [58,87,117] [] ?_
 refine Walk.lend (cr:=[]) (lr:=[(62,_)]) zkX (zcq _ (l:=ps) (k:=1) (Nat.lt_succ_self _) (by omega) (by omega) (by omega) hpo) rfl .none rfl rfl (.cons (.ms (k:=6) List.mem_cons_self Pat.cs_rows (by first|rfl|(simp[zas,Pat.cs_len];done))) (.cons (.le (.refl _)) .nil)) ⟨rfl,trivial⟩ rfl (by first|rfl|(simp only[zdg,zcY,zb0,AV.ids];rfl)) (by first|rfl|(simp only[zak,occH,occE,Res.ids,List.cons_append,List.nil_append,AV.idsL,AV.ids,zab,zaa,zac,zan,List.map_cons,List.map_nil,upC];rfl)) ?_
 refine evs [58,87,117] [] ?_
 refine sq (fun h14 h14p h14s=>?_) fun h14 h14p h14s=>?_
 try simp only[Q] at h14p
 refine rn0 (r1 rfl) (.eqd ?_)
 rotate_left
 try simp only[Q] at h14p
 refine sq (fun h15 h15p h15s=>?_) fun h15 h15p h15s=>?_
 try simp only[Q] at h15p
 refine rn0 (r1 rfl) (.eqd ?_)
 rotate_left
 try simp only[Q] at h15p
 refine Walk.call (cr:=[]) cal9 (zcM hs) rfl .none rfl rfl (LeL.refl _) trivial rfl (by first|rfl|(simp only[zat,List.all_cons,List.all_nil,zaE,zaz,AV.idsL,AV.ids,zab,zaa,List.map_cons,List.map_nil];rfl)) (by first|rfl|(simp only[zak,occH,occE,Res.ids,List.cons_append,List.nil_append,AV.idsL,AV.ids,zab,zaa,zac,zan,List.map_cons,List.map_nil,upC];rfl)) ?_
 refine evd [58,87,117] [] ?_
 refine Walk.call (cr:=[]) zg8 (zci) rfl .none rfl rfl (LeL.refl _) trivial rfl (by first|rfl|(simp only[zat,List.all_cons,List.all_nil,zaE,zaz,AV.idsL,AV.ids,zab,zaa,List.map_cons,List.map_nil];rfl)) (by first|rfl|(simp only[zak,occH,occE,Res.ids,List.cons_append,List.nil_append,AV.idsL,AV.ids,zab,zaa,zac,zan,List.map_cons,List.map_nil,upC];rfl)) ?_
 refine evd [58,87,117] [] ?_
 refine Walk.call (cr:=[]) zg9 (zcu hok) rfl .none rfl rfl (LeL.refl _) trivial rfl (by first|rfl|(simp only[zat,List.all_cons,List.all_nil,zaE,zaz,AV.idsL,AV.ids,zab,zaa,List.map_cons,List.map_nil];rfl)) (by first|rfl|(simp only[zak,occH,occE,Res.ids,List.cons_append,List.nil_append,AV.idsL,AV.ids,zab,zaa,zac,zan,List.map_cons,List.map_nil,upC];rfl)) ?_
 refine Walk.call (cr:=[]) znJ (himp) rfl .none rfl rfl (LeL.refl _) trivial rfl (by first|rfl|(simp only[zat,List.all_cons,List.all_nil,zaE,zaz,AV.idsL,AV.ids,zab,zaa,List.map_cons,List.map_nil];rfl)) (by first|rfl|(simp only[zak,occH,occE,Res.ids,List.cons_append,List.nil_append,AV.idsL,AV.ids,zab,zaa,zac,zan,List.map_cons,List.map_nil,upC];rfl)) ?_
 refine evd [58,87,117] [] ?_
 refine dr ?_
 refine Walk.call (cr:=[]) zh7 (heq ps) rfl .none rfl rfl (LeL.refl _) trivial rfl (by first|rfl|(simp only[zat,List.all_cons,List.all_nil,zaE,zaz,AV.idsL,AV.ids,zab,zaa,List.map_cons,List.map_nil];rfl)) (by first|rfl|(simp only[zak,occH,occE,Res.ids,List.cons_append,List.nil_append,AV.idsL,AV.ids,zab,zaa,zac,zan,List.map_cons,List.map_nil,upC];rfl)) ?_
 refine evs [58,87,117] [] ?_
 refine sq (fun h16 h16p h16s=>?_) fun h16 h16p h16s=>?_
 try simp only[Q] at h16p
 refine sqT ?_
 refine rn0 (r1 rfl) (.eqd ?_)
 rotate_left
 try simp only[Q] at h16p
 refine Walk.neB un4 (.some rfl rfl h16) rfl rfl rfl ?_
 refine evs [58,87,117] [(114,false)] ?_ ⟨⟨_,rfl,h16⟩,trivial⟩
 refine sq (fun h18 h18p h18s=>?_) fun h18 h18p h18s=>?_
 try simp only[Q] at h18p
 refine rn0 (r1 rfl) (.eqd ?_)
 rotate_left
 try simp only[Q] at h18p
 refine Walk.lend (cr:=[]) (lr:=[(62,_)]) zkX (zcq _ (l:=ps) (k:=1) (Nat.lt_succ_self _) (by omega) (by omega) (by omega) hpo) rfl .none rfl rfl (.cons (.ms (k:=6) List.mem_cons_self Pat.cs_rows (by first|rfl|(simp[zas,Pat.cs_len];done))) (.cons (.le (.refl _)) .nil)) ⟨rfl,trivial⟩ rfl (by first|rfl|(simp only[zdg,zcY,zb0,AV.ids];rfl)) (by first|rfl|(simp only[zak,occH,occE,Res.ids,List.cons_append,List.nil_append,AV.idsL,AV.ids,zab,zaa,zac,zan,List.map_cons,List.map_nil,upC];rfl)) ?_
 refine evs [58,87,117] [] ?_
 refine sq (fun h19 h19p h19s=>?_) fun h19 h19p h19s=>?_
 try simp only[Q] at h19p
 refine rn0 (r1 rfl) (.eqd ?_)
 rotate_left
 try simp only[Q] at h19p
 refine sq (fun h20 h20p h20s=>?_) fun h20 h20p h20s=>?_
 try simp only[Q] at h20p
 refine rn0 (r1 rfl) (.eqd ?_)
 rotate_left
 try simp only[Q] at h20p
 refine rn0 (r1 rfl) (.eqd ?_)
 rotate_left
 all_goals (first|rfl|(exfalso;simp_all[zgk,zdT];done)|(exfalso;simp[zgk,zdT] at *;omega))
theorem zeB {w:List Data} (hs:WSmall w){a k:Int}{cl:List Cl} (hok:ClsOk cl){q:Bool}
  (hspec:FnD Tryz.prog 8 [.d (zao w),.agg [.d (.i a),.d (.i k)],.d (zbM cl)] [] (.tup [.d (zad []),.d (.bool q)]) [])
  (himp:FnD Tryz.prog 12 [.d (zao w),.agg [.d (.i a),.d (.i k)],.d (zbM cl)] [] (.tup [.d (zad []),.d (.bool q)]) []):
  FnD Tryz.prog 3 [.d (zao w),.agg [.d (.i a),.d (.i k)],.d (zbM cl)] [] (.d (.bool true)) []:=by
 have z:=zbX (left:=1048576) (zeC w)
 have z2:=zbX (left:=szr 1048576 (zeC w)) (mCls cl)
 have hbd:=zg1 w
 have hnn:=za8 (l:=w) Data.sz_nn
 have hcb:=Cls.szM_le cl
 have hcn:=za8 (l:=cl) Cl.szM_nn
 refine bd Tryz.f3 127 [58,87,117] [] fun w0 F0 own kept hk=>?_
 refine Walk.box (id:=3004) .none rfl rfl rfl rfl rfl rfl rfl ?_
 refine evs [58,87,117] [] ?_
 refine Walk.call (cr:=[]) cal6 (zhg hs (by omega) (by omega)) rfl .none rfl rfl (LeL.refl _) trivial rfl rfl rfl ?_
 refine evs [58,87,117] [] ?_
 refine sq (fun h1 h1p h1s=>?_) fun h1 h1p h1s=>?_
 try simp only[Q] at h1p
 refine rn0 (r1 rfl) (.eqd ?_)
 rotate_left
 try simp only[Q] at h1p
 refine Walk.call (cr:=[]) cal7 (zgc hok (by omega) (by omega)) rfl .none rfl rfl (LeL.refl _) trivial rfl rfl rfl ?_
 refine evs [58,87,117] [] ?_
 refine sq (fun h2 h2p h2s=>?_) fun h2 h2p h2s=>?_
 try simp only[Q] at h2p
 refine rn0 (r1 rfl) (.eqd ?_)
 rotate_left
 try simp only[Q] at h2p
 refine Walk.call (cr:=[]) cal9 (zcM hs) rfl .none rfl rfl (LeL.refl _) trivial rfl rfl rfl ?_
 refine evd [58,87,117] [] ?_
 refine Walk.call (cr:=[]) zg8 (zci) rfl .none rfl rfl (LeL.refl _) trivial rfl rfl rfl ?_
 refine evd [58,87,117] [] ?_
 refine Walk.call (cr:=[]) zg9 (zcu hok) rfl .none rfl rfl (LeL.refl _) trivial rfl rfl rfl ?_
 refine Walk.call (cr:=[]) cal8 (hspec) rfl .none rfl rfl (LeL.refl _) trivial rfl rfl rfl ?_
 refine evd [58,87,117] [] ?_
 refine dr ?_
 refine Walk.call (cr:=[63]) cal9 (zhh hs) rfl .none rfl rfl (LeL.refl _) trivial rfl (by first|rfl|(simp only[zat,List.all_cons,List.all_nil,zaE,zaz,AV.idsL,AV.ids,zab,zaa,List.map_cons,List.map_nil];rfl)) (by first|rfl|(simp only[zak,occH,occE,Res.ids,List.cons_append,List.nil_append,AV.idsL,AV.ids,zab,zaa,zac,zan,List.map_cons,List.map_nil,upC];rfl)) ?_
 refine evs [58,87,117] [] ?_
 refine Walk.call (cr:=[68]) zg9 (zge hok) rfl .none rfl rfl (LeL.refl _) trivial rfl (by first|rfl|(simp only[zat,List.all_cons,List.all_nil,zaE,zaz,AV.idsL,AV.ids,zab,zaa,List.map_cons,List.map_nil];rfl)) (by first|rfl|(simp only[zak,occH,occE,Res.ids,List.cons_append,List.nil_append,AV.idsL,AV.ids,zab,zaa,zac,zan,List.map_cons,List.map_nil,upC];rfl)) ?_
 refine evs [58,87,117] [] ?_
 refine Walk.call (cr:=[]) zg8 (zci) rfl .none rfl rfl (LeL.refl _) trivial rfl (by first|rfl|(simp only[zat,List.all_cons,List.all_nil,zaE,zaz,AV.idsL,AV.ids,zab,zaa,List.map_cons,List.map_nil];rfl)) (by first|rfl|(simp only[zak,occH,occE,Res.ids,List.cons_append,List.nil_append,AV.idsL,AV.ids,zab,zaa,zac,zan,List.map_cons,List.map_nil,upC];rfl)) ?_
 refine evs [58,87,117] [] ?_
 refine Walk.lend (cr:=[]) (lr:=[(63,_),(68,_)]) znJ (himp) rfl .none rfl rfl (.cons (.ms (k:=2) List.mem_cons_self (by intro x hx;obtain⟨y,_,rfl⟩:=List.mem_map.1 hx;rfl) (by first|rfl|(simp[zas,Pat.cs_len];done))) (.cons (.le (.refl _)) (.cons (.ms (k:=9) (List.mem_cons_of_mem _ List.mem_cons_self) Cl.rows (by first|rfl|(simp[zas,Pat.cs_len];done))) .nil))) ⟨rfl,⟨rfl,trivial⟩⟩ rfl (by first|rfl|(simp only[zdg,zcY,zb0,AV.ids];rfl)) (by first|rfl|(simp only[zak,occH,occE,Res.ids,List.cons_append,List.nil_append,AV.idsL,AV.ids,zab,zaa,zac,zan,List.map_cons,List.map_nil,upC];rfl)) ?_
 refine evs [58,87,117] [] ?_
 refine Walk.call (cr:=[]) zh7 (zcJ (l:=[]) (m:=[]) (by simp) (by simp)) rfl .none rfl rfl (LeL.refl _) trivial rfl (by first|rfl|(simp only[zat,List.all_cons,List.all_nil,zaE,zaz,AV.idsL,AV.ids,zab,zaa,List.map_cons,List.map_nil];rfl)) (by first|rfl|(simp only[zak,occH,occE,Res.ids,List.cons_append,List.nil_append,AV.idsL,AV.ids,zab,zaa,zac,zan,List.map_cons,List.map_nil,upC];rfl)) ?_
 refine evs [58,87,117] [] ?_
 refine sq (fun h3 h3p h3s=>?_) fun h3 h3p h3s=>?_
 try simp only[Q] at h3p
 refine sqT ?_
 refine rn0 (r1 rfl) (.eqd ?_)
 rotate_left
 try simp only[Q] at h3p
 refine Walk.neB un4 (.some rfl rfl h3) rfl rfl rfl ?_
 refine evs [58,87,117] [(55,false)] ?_ ⟨⟨_,rfl,h3⟩,trivial⟩
 refine sq (fun h5 h5p h5s=>?_) fun h5 h5p h5s=>?_
 try simp only[Q] at h5p
 refine rn0 (r1 rfl) (.eqd ?_)
 rotate_left
 try simp only[Q] at h5p
 refine Walk.call (cr:=[]) cal9 (zcM hs) rfl .none rfl rfl (LeL.refl _) trivial rfl (by first|rfl|(simp only[zat,List.all_cons,List.all_nil,zaE,zaz,AV.idsL,AV.ids,zab,zaa,List.map_cons,List.map_nil];rfl)) (by first|rfl|(simp only[zak,occH,occE,Res.ids,List.cons_append,List.nil_append,AV.idsL,AV.ids,zab,zaa,zac,zan,List.map_cons,List.map_nil,upC];rfl)) ?_
 refine Walk.lend (cr:=[]) (lr:=[(63,_)]) zrL (zhe hs) rfl .none rfl rfl (.cons (.ms (k:=2) List.mem_cons_self (by intro x hx;obtain⟨y,_,rfl⟩:=List.mem_map.1 hx;rfl) (by first|rfl|(simp[zas,Pat.cs_len];done))) (.cons (.le (.refl _)) .nil)) ⟨rfl,trivial⟩ rfl (by first|rfl|(simp only[zdg,zcY,zb0,AV.ids];rfl)) (by first|rfl|(simp only[zak,occH,occE,Res.ids,List.cons_append,List.nil_append,AV.idsL,AV.ids,zab,zaa,zac,zan,List.map_cons,List.map_nil,upC];rfl)) ?_
 refine evs [58,87,117] [] ?_
 refine sq (fun h6 h6p h6s=>?_) fun h6 h6p h6s=>?_
 try simp only[Q] at h6p
 refine rn0 (r1 rfl) (.eqd ?_)
 rotate_left
 try simp only[Q] at h6p
 refine Walk.call (cr:=[]) zg9 (zcu hok) rfl .none rfl rfl (LeL.refl _) trivial rfl (by first|rfl|(simp only[zat,List.all_cons,List.all_nil,zaE,zaz,AV.idsL,AV.ids,zab,zaa,List.map_cons,List.map_nil];rfl)) (by first|rfl|(simp only[zak,occH,occE,Res.ids,List.cons_append,List.nil_append,AV.idsL,AV.ids,zab,zaa,zac,zan,List.map_cons,List.map_nil,upC];rfl)) ?_
 refine Walk.lend (cr:=[]) (lr:=[(68,_)]) zrM (zgb hok) rfl .none rfl rfl (.cons (.ms (k:=9) List.mem_cons_self Cl.rows (by first|rfl|(simp[zas,Pat.cs_len];done))) (.cons (.le (.refl _)) .nil)) ⟨rfl,trivial⟩ rfl (by first|rfl|(simp only[zdg,zcY,zb0,AV.ids];rfl)) (by first|rfl|(simp only[zak,occH,occE,Res.ids,List.cons_append,List.nil_append,AV.idsL,AV.ids,zab,zaa,zac,zan,List.map_cons,List.map_nil,upC];rfl)) ?_
 refine evs [58,87,117] [] ?_
 refine sq (fun h7 h7p h7s=>?_) fun h7 h7p h7s=>?_
 try simp only[Q] at h7p
 refine rn0 (r1 rfl) (.eqd ?_)
 rotate_left
 try simp only[Q] at h7p
 refine Walk.call (cr:=[]) zrN (zj9 (l:=w) (k:=1) (by omega) (by omega) hs) rfl .none rfl rfl (.cons (LeA.msn (by first|rfl|(simp[Pat.cs_len];done))) (.cons (.refl _) .nil)) ⟨rfl,trivial⟩ rfl (by first|rfl|(simp only[zat,List.all_cons,List.all_nil,zaE,zaz,AV.idsL,AV.ids,zab,zaa,List.map_cons,List.map_nil];rfl)) (by first|rfl|(simp only[zak,occH,occE,Res.ids,List.cons_append,List.nil_append,AV.idsL,AV.ids,zab,zaa,zac,zan,List.map_cons,List.map_nil,upC];rfl)) ?_
 refine evs [58,87,117] [] ?_
 refine Walk.call (cr:=[]) zrO (ziC (l:=cl) (k:=1+szL Data.sz w) (by omega) (by omega) hok) rfl .none rfl rfl (.cons (LeA.msn (by first|rfl|(simp[Pat.cs_len];done))) (.cons (.refl _) .nil)) ⟨rfl,trivial⟩ rfl (by first|rfl|(simp only[zat,List.all_cons,List.all_nil,zaE,zaz,AV.idsL,AV.ids,zab,zaa,List.map_cons,List.map_nil];rfl)) (by first|rfl|(simp only[zak,occH,occE,Res.ids,List.cons_append,List.nil_append,AV.idsL,AV.ids,zab,zaa,zac,zan,List.map_cons,List.map_nil,upC];rfl)) ?_
 refine evs [58,87,117] [] ?_
 refine sq (fun h8 h8p h8s=>?_) fun h8 h8p h8s=>?_
 try simp only[Q] at h8p
 refine sqT ?_
 refine sqT ?_
 refine rn0 (r1 rfl) (.eqd ?_)
 rotate_left
 try simp only[Q] at h8p
 refine Walk.call (cr:=[]) zh7 (zcJ (l:=[]) (m:=[]) (by simp) (by simp)) rfl (.some rfl rfl h8) rfl rfl (LeL.refl _) trivial rfl (by first|rfl|(simp only[zat,List.all_cons,List.all_nil,zaE,zaz,AV.idsL,AV.ids,zab,zaa,List.map_cons,List.map_nil];rfl)) (by first|rfl|(simp only[zak,occH,occE,Res.ids,List.cons_append,List.nil_append,AV.idsL,AV.ids,zab,zaa,zac,zan,List.map_cons,List.map_nil,upC];rfl)) ?_
 refine evs [58,87,117] [(78,false)] ?_ ⟨⟨_,rfl,h8⟩,trivial⟩
 refine sq (fun h10 h10p h10s=>?_) fun h10 h10p h10s=>?_
 try simp only[Q] at h10p
 refine sqT ?_
 refine rn0 (r1 rfl) (.eqd ?_)
 rotate_left
 try simp only[Q] at h10p
 refine Walk.neB un4 (.some rfl rfl h10) rfl rfl rfl ?_
 refine evs [58,87,117] [(84,false)] ?_ ⟨⟨_,rfl,h10⟩,trivial⟩
 refine sq (fun h12 h12p h12s=>?_) fun h12 h12p h12s=>?_
 try simp only[Q] at h12p
 refine rn0 (r1 rfl) (.eqd ?_)
 rotate_left
 try simp only[Q] at h12p
 refine Walk.call (cr:=[]) zjD (zdz (l:=[]) rfl) rfl .none rfl rfl (LeL.refl _) trivial rfl (by first|rfl|(simp only[zat,List.all_cons,List.all_nil,zaE,zaz,AV.idsL,AV.ids,zab,zaa,List.map_cons,List.map_nil];rfl)) (by first|rfl|(simp only[zak,occH,occE,Res.ids,List.cons_append,List.nil_append,AV.idsL,AV.ids,zab,zaa,zac,zan,List.map_cons,List.map_nil,upC];rfl)) ?_
 refine evs [58,87,117] [] ?_
 refine Walk.call (cr:=[]) zkX (zcq 1 (l:=[]) (k:=1) (by simp[Pats.size]) (by omega) (by simp[szL]) (by simp) trivial) rfl .none rfl rfl (LeL.refl _) trivial rfl (by first|rfl|(simp only[zat,List.all_cons,List.all_nil,zaE,zaz,AV.idsL,AV.ids,zab,zaa,List.map_cons,List.map_nil];rfl)) (by first|rfl|(simp only[zak,occH,occE,Res.ids,List.cons_append,List.nil_append,AV.idsL,AV.ids,zab,zaa,zac,zan,List.map_cons,List.map_nil,upC];rfl)) ?_
 refine evs [58,87,117] [] ?_
 refine sq (fun h13 h13p h13s=>?_) fun h13 h13p h13s=>?_
 try simp only[Q] at h13p
 refine rn0 (r1 rfl) (.eqd ?_)
 rotate_left
 try simp only[Q] at h13p
 refine sq (fun h14 h14p h14s=>?_) fun h14 h14p h14s=>?_
 try simp only[Q] at h14p
 refine rn0 (r1 rfl) (.eqd ?_)
 rotate_left
 try simp only[Q] at h14p
 refine Walk.call (cr:=[]) cal9 (zcM hs) rfl .none rfl rfl (LeL.refl _) trivial rfl (by first|rfl|(simp only[zat,List.all_cons,List.all_nil,zaE,zaz,AV.idsL,AV.ids,zab,zaa,List.map_cons,List.map_nil];rfl)) (by first|rfl|(simp only[zak,occH,occE,Res.ids,List.cons_append,List.nil_append,AV.idsL,AV.ids,zab,zaa,zac,zan,List.map_cons,List.map_nil,upC];rfl)) ?_
 refine evd [58,87,117] [] ?_
 refine Walk.call (cr:=[]) zg8 (zci) rfl .none rfl rfl (LeL.refl _) trivial rfl (by first|rfl|(simp only[zat,List.all_cons,List.all_nil,zaE,zaz,AV.idsL,AV.ids,zab,zaa,List.map_cons,List.map_nil];rfl)) (by first|rfl|(simp only[zak,occH,occE,Res.ids,List.cons_append,List.nil_append,AV.idsL,AV.ids,zab,zaa,zac,zan,List.map_cons,List.map_nil,upC];rfl)) ?_
 refine evd [58,87,117] [] ?_
 refine Walk.call (cr:=[]) zg9 (zcu hok) rfl .none rfl rfl (LeL.refl _) trivial rfl (by first|rfl|(simp only[zat,List.all_cons,List.all_nil,zaE,zaz,AV.idsL,AV.ids,zab,zaa,List.map_cons,List.map_nil];rfl)) (by first|rfl|(simp only[zak,occH,occE,Res.ids,List.cons_append,List.nil_append,AV.idsL,AV.ids,zab,zaa,zac,zan,List.map_cons,List.map_nil,upC];rfl)) ?_
 refine Walk.call (cr:=[]) znJ (himp) rfl .none rfl rfl (LeL.refl _) trivial rfl (by first|rfl|(simp only[zat,List.all_cons,List.all_nil,zaE,zaz,AV.idsL,AV.ids,zab,zaa,List.map_cons,List.map_nil];rfl)) (by first|rfl|(simp only[zak,occH,occE,Res.ids,List.cons_append,List.nil_append,AV.idsL,AV.ids,zab,zaa,zac,zan,List.map_cons,List.map_nil,upC];rfl)) ?_
 refine evd [58,87,117] [] ?_
 refine dr ?_
 refine Walk.call (cr:=[]) zh7 (zcJ (l:=[]) (m:=[]) (by simp) (by simp)) rfl .none rfl rfl (LeL.refl _) trivial rfl (by first|rfl|(simp only[zat,List.all_cons,List.all_nil,zaE,zaz,AV.idsL,AV.ids,zab,zaa,List.map_cons,List.map_nil];rfl)) (by first|rfl|(simp only[zak,occH,occE,Res.ids,List.cons_append,List.nil_append,AV.idsL,AV.ids,zab,zaa,zac,zan,List.map_cons,List.map_nil,upC];rfl)) ?_
 refine evs [58,87,117] [] ?_
 refine sq (fun h15 h15p h15s=>?_) fun h15 h15p h15s=>?_
 try simp only[Q] at h15p
 refine sqT ?_
 refine rn0 (r1 rfl) (.eqd ?_)
 rotate_left
 try simp only[Q] at h15p
 refine Walk.neB un4 (.some rfl rfl h15) rfl rfl rfl ?_
 refine evs [58,87,117] [(114,false)] ?_ ⟨⟨_,rfl,h15⟩,trivial⟩
 refine sq (fun h17 h17p h17s=>?_) fun h17 h17p h17s=>?_
 try simp only[Q] at h17p
 refine rn0 (r1 rfl) (.eqd ?_)
 rotate_left
 try simp only[Q] at h17p
 refine Walk.call (cr:=[]) zkX (zcq 1 (l:=[]) (k:=1) (by simp[Pats.size]) (by omega) (by simp[szL]) (by simp) trivial) rfl .none rfl rfl (LeL.refl _) trivial rfl (by first|rfl|(simp only[zat,List.all_cons,List.all_nil,zaE,zaz,AV.idsL,AV.ids,zab,zaa,List.map_cons,List.map_nil];rfl)) (by first|rfl|(simp only[zak,occH,occE,Res.ids,List.cons_append,List.nil_append,AV.idsL,AV.ids,zab,zaa,zac,zan,List.map_cons,List.map_nil,upC];rfl)) ?_
 refine evs [58,87,117] [] ?_
 refine sq (fun h18 h18p h18s=>?_) fun h18 h18p h18s=>?_
 try simp only[Q] at h18p
 refine rn0 (r1 rfl) (.eqd ?_)
 rotate_left
 try simp only[Q] at h18p
 refine sq (fun h19 h19p h19s=>?_) fun h19 h19p h19s=>?_
 try simp only[Q] at h19p
 refine rn0 (r1 rfl) (.eqd ?_)
 rotate_left
 try simp only[Q] at h19p
 refine rn0 (r1 rfl) (.eqd ?_)
 rotate_left
 all_goals (first|rfl|(exfalso;simp_all[zgk,zdT,szL];done)|(exfalso;simp[zgk,zdT,szL] at *;omega))
theorem zff {w:List Data} (hs:WSmall w){a k:Int}{cl:List Cl} (hok:ClsOk cl) (hz:ClsSz cl):
  FnD Tryz.prog 3 [.d (zao w),.agg [.d (.i a),.d (.i k)],.d (zbM cl)] [] (.d (.bool true)) []:=by
 have hspec:=zg5 hs (a:=a) (k:=k) hok hz
 have himp:=zg3 hs (a:=a) (k:=k) hok
 cases hm:zdr w ⟨a,k⟩ cl with
 |none=>
  rw[hm] at hspec himp
  exact zeB hs hok hspec himp
 |some ps=>
  obtain⟨⟨h1,h2⟩,hown⟩:=zgO hs hok hm
  rw[hm] at hspec himp
  by_cases hne:ps=[]
  ·subst hne
   exact zeB hs hok hspec himp
  ·have h3:=zkd (k:=60) ps (fun x hx=>⟨(h2 x hx).1,by have h4:=(h2 x hx).2;unfold isP at h4;simp only[Bool.and_eq_true,decide_eq_true_eq] at h4;omega⟩)
   have h5:=Pats.szM_size ps
   rw[Pats.szM_eq] at h5
   have h6:ps.length*60≤400*60:=Nat.mul_le_mul_right _ h1
   exact zhC hs hok hne h1 (h3.1 h1) (by omega) hspec himp (by rw[Pat.cs_cd];exact hown)
end Go.Proofs.YtfiihhedihkdoaaGreat
namespace Go.Proofs.YtfiihhedihkdoaaGreat
open Go Go.ChangeShapes Go.WideShapes Go.ChangeAt Go.RowKit
set_option linter.unusedSimpArgs false
set_option linter.unusedVariables false
set_option linter.unusedVariables false
def FW (W:World) (b:Nat):Nat:=match W.heap[b]? with
 |some (.cells cs _ _)=>cs.size
 |_=>0
theorem FW_cell {W:World}{b o:Nat}{v:Value} (h:W.cell? ⟨b,o,none⟩=some v):o<FW W b:=by
 unfold World.cell? at h
 unfold FW
 simp only at h
 split at h
 ·rename_i c t fr hb
  simp only[hb]
  simp only[Option.isSome_none,Bool.false_eq_true,if_false] at h
  exact(Array.getElem?_eq_some_iff.1 h).1
 ·cases h
theorem FW_top {W:World}{b:Nat} (h:W.heap.size≤b):FW W b=0:=by
 unfold FW
 rw[Array.getElem?_eq_none h]
structure RelL (W:World) (xs:List D) (cs:List Value):Prop where
 len:xs.length=cs.length
 rel:∀i (h1:i<xs.length) (h2:i<cs.length),RelD (FW W) W xs[i] cs[i]
theorem RelL.append {W:World}{xs ys:List D}{cs ds:List Value} (h:RelL W xs cs) (k:RelL W ys ds):RelL W (xs++ys) (cs++ds):=by
 refine⟨by simp[h.len,k.len],fun i h1 h2=>?_⟩
 by_cases hi:i<xs.length
 ·rw[List.getElem_append_left hi,List.getElem_append_left (by rw[←h.len];exact hi)]
  exact h.rel i hi (by rw[←h.len];exact hi)
 ·have hl:=h.len
  rw[List.getElem_append_right (by omega),List.getElem_append_right (by omega)]
  have e:i-xs.length=i-cs.length:=by omega
  have h1':i-xs.length<ys.length:=by simp only[List.length_append] at h1;omega
  have h2':i-cs.length<ds.length:=by simp only[List.length_append] at h2;omega
  have:=k.rel (i-xs.length) h1' (by omega)
  simp only[e] at this ⊢
  exact this
def Dec (P:Program) (W:World) (n:Nat) (t:TypeId){α:Type} (f:α→List D) (m:α→Nat) (R:α→Prop):Prop:=
 ∀(H:Type) (enc:TypeId×Value→H) (cs:List Value) (x:DataW H×List MemPlace),DataW.trod enc P W 0 (fun _=>true) true n t cs=some x→
  ∃a,RelL W (f a) cs∧m a+1≤Rows.uptoBulk x.1∧R a
section
variable {P:Program}{W:World}{n:Nat}{t:TypeId}
theorem Dec.zero {α:Type}{f:α→List D}{m:α→Nat}{R:α→Prop}:Dec P W 0 t f m R:=fun H enc cs x h=>by simp[DataW.trod] at h
theorem Dec.map {α β:Type}{f:α→List D}{m:α→Nat}{R:α→Prop}{f':β→List D}{m':β→Nat}{R':β→Prop} (g:α→β) (h:Dec P W n t f m R)
  (h1:∀a,f' (g a)=f a) (h2:∀a,m' (g a)≤m a) (h3:∀a,R a→R' (g a)):Dec P W n t f' m' R':=fun H enc cs x hx=>by
 obtain⟨a,q1,q2,q3⟩:=h H enc cs x hx
 exact⟨g a,by rw[h1];exact q1,by have:=h2 a;omega,h3 a q3⟩
theorem RelL.one {x:D}{v:Value} (h:RelD (FW W) W x v):RelL W [x] [v]:=
 ⟨rfl,fun i h1 h2=>by
  have:i=0:=by simp at h1;omega
  subst this
  exact h⟩
theorem Dec.int {k:IntKind} (ht:P.underlying t=some (.int k)):Dec P W n t (fun z:Int=>[.int k z]) (fun _=>0) (fun z=>(Lit.int k z).wf=true):=fun H enc cs x h=>by
 obtain⟨z,rfl,rfl,hw⟩:=DataW.trod_int ht h
 exact⟨z,.one (.int k z),by simp[Rows.uptoBulk],hw⟩
theorem Dec.bool (ht:P.underlying t=some .bool):Dec P W n t (fun z:Bool=>[.bool z]) (fun _=>0) (fun _=>True):=fun H enc cs x h=>by
 obtain⟨z,rfl,rfl⟩:=DataW.trod_bool ht h
 exact⟨z,.one (.bool z),by simp[Rows.uptoBulk],trivial⟩
theorem Dec.str (ht:P.underlying t=some .string):Dec P W n t (fun s:Str=>[.str s]) (fun s=>s.length) (fun _=>True):=fun H enc cs x h=>by
 obtain⟨s,rfl,rfl,hw⟩:=DataW.trod_string ht h
 exact⟨s.data.toList,.one (by have:=RelD.str (F:=FW W) (w:=W) s.data.toList;simpa using this),by simp[Rows.uptoBulk],trivial⟩
def sumM {α:Type} (m:α→Nat):List α→Nat
 | []=>0
 |a::r=>m a+1+sumM m r
theorem zg0 {α:Type} (m:α→Nat):∀l:List α,l.length≤sumM m l
 | []=>by simp[sumM]
 |a::r=>by have:=zg0 m r;simp only[sumM,List.length_cons];omega
theorem zfH {α:Type}{m:α→Nat}:∀ {l:List α}{a:α},a∈l→m a+1≤sumM m l
 |b::r,a,h=>by
  simp only[sumM]
  rcases List.mem_cons.1 h with rfl|h
  ·omega
  ·have:=zfH (m:=m) h;omega
theorem zj3 {α β:Type}{Q:Nat→α→β→Prop}:∀(l:List β) (o:Nat),(∀i (h:i<l.length),∃a,Q (o+i) a l[i])→∃zs:List α,zs.length=l.length∧∀i (h:i<l.length) (h':i<zs.length),Q (o+i) zs[i] l[i]
 | [],o,_=>⟨[],rfl,fun i h=>by simp at h⟩
 |b::r,o,h=>by
  obtain⟨a,ha⟩:=h 0 (by simp)
  obtain⟨zs,h1,h2⟩:=zj3 (Q:=Q) r (o+1) (fun i hi=>by
   have:=h (i+1) (by simp;omega)
   rw[show o+1+i=o+(i+1) by omega]
   simpa using this)
  refine⟨a::zs,by simp[h1],fun i hi hi'=>?_⟩
  cases i with
  |zero=>exact ha
  |succ i=>
   have:=h2 i (by simpa using hi) (by simpa using hi')
   rw[show o+1+i=o+(i+1) by omega] at this
   simpa using this
theorem znY {H α:Type}{m:α→Nat}:∀ {zs:List α}{xs:List (DataW H)},zs.length=xs.length→(∀i (h:i<zs.length) (h':i<xs.length),m zs[i]+1≤Rows.uptoBulk xs[i])→sumM m zs≤Rows.uptoBulkAll xs
 | [],[],_,_=>by simp[sumM,Rows.uptoBulkAll]
 |a::zs,x::xs,hl,h=>by
  have h0:=h 0 (by simp) (by simp)
  have ih:=znY (m:=m) (zs:=zs) (xs:=xs) (by simpa using hl) (fun i h1 h2=>by
   have:=h (i+1) (by simp;omega) (by simp;omega)
   simpa using this)
  simp only[sumM,Rows.uptoBulkAll]
  simp only[List.getElem_cons_zero] at h0
  omega
 | [],_::_,hl,_=>by simp at hl
 |_::_,[],hl,_=>by simp at hl
theorem Dec.sl {α:Type}{f:α→List D}{m:α→Nat}{R:α→Prop}{e:TypeId}{k:Nat} (ht:P.underlying t=some (.slice e)) (hc:P.cellsOf e=k+1) (hk:∀a,(f a).length=k+1) (he:Dec P W n e f m R):
  Dec P W (n+1) t (fun l:List α=>[.sl (l.map f)]) (fun l=>sumM m l) (fun l=>∀a∈l,R a):=fun H enc cs x h=>by
 rcases DataW.trod_slice ht h with ⟨rfl,rfl⟩|⟨a,len,cap,elems,rest,n',hn,rfl,rfl,_,hcap,_,hlen,hel,_,_⟩
 ·exact⟨[],.one .nil,by simp[sumM,Rows.uptoBulk],fun a h=>by simp at h⟩
 obtain rfl:n=n':=by omega
 have each:∀i (hi:i<elems.length),∃y,(∃cs,W.cells? 0 (a.add (i*(k+1))) (k+1)=some cs∧RelL W (f y) cs)∧m y+1≤Rows.uptoBulk (elems[i]).1∧R y:=by
  intro i hi
  have:=hel i (by omega)
  rw[hc,List.getElem?_eq_getElem hi,Option.bind_eq_some_iff] at this
  obtain⟨cs,h1,h2⟩:=this
  obtain⟨y,h3,h4,h5⟩:=he H enc cs _ h2
  exact⟨y,⟨cs,h1,h3⟩,h4,h5⟩
 obtain⟨zs,hal,has⟩:=zj3 (Q:=fun i y (el:DataW H×List MemPlace)=>(∃cs,W.cells? 0 (a.add (i*(k+1))) (k+1)=some cs∧RelL W (f y) cs)∧m y+1≤Rows.uptoBulk el.1∧R y) elems 0 (fun i hi=>by simpa using each i hi)
 refine⟨zs,.one ?_, ?_,fun y hy=>?_⟩
 ·by_cases h0:zs=[]
  ·subst h0
   have hz:len=0:=by simp at hal;omega
   subst hz
   obtain⟨b,o,s⟩:=a
   cases s with
   |none=>exact .sl [] 0 b o cap (fun _=>undef) (by simp) (by simp) (fun n hn=>by simp at hn) (fun i hi=>by simp at hi)
   |some s=>exact .emp b o s cap
  ·have hpos:0<zs.length:=List.length_pos_iff.2 h0
   obtain⟨⟨cs0,hc0,hr0⟩,_⟩:=has 0 (by omega) hpos
   have hspot:a.spot=none:=by
    have h1:=(World.cells?_some hc0).2.2 0 (by omega)
    have h2:0<cs0.length:=by have:=(World.cells?_some hc0).2.1;omega
    simp only[Nat.add_zero,Nat.zero_mul,Addr.add,if_true,List.getElem?_eq_getElem h2] at h1
    unfold World.cell? at h1
    split at h1
    ·cases hs:a.spot with
     |none=>rfl
     |some s=>simp[hs] at h1
    ·cases h1
   obtain⟨b,o,s⟩:=a
   simp only at hspot
   subst hspot
   have hlen':(zs.map f).length=len:=by simp;omega
   have hmulk:∀i j,i<zs.length→j<k+1→i*(k+1)+j<zs.length*(k+1):=fun i j hi hj=>by
    have:(i+1)*(k+1)≤zs.length*(k+1):=Nat.mul_le_mul_right _ (by omega)
    rw[Nat.add_mul,Nat.one_mul] at this
    omega
   have cellAt:∀i (hi:i<zs.length) j (hj:j<(f zs[i]).length),∃v,W.cell? ⟨b,o+(i*(k+1)+j),none⟩=some v∧RelD (FW W) W ((f zs[i])[j]) v:=fun i hi j hj=>by
    obtain⟨⟨cs,hc1,hr1⟩,_⟩:=has i (by omega) hi
    have hjk:j<k+1:=by have:=hk zs[i];omega
    obtain⟨_,q1,q2⟩:=World.cells?_some hc1
    have q3:=q2 j hjk
    rw[List.getElem?_eq_getElem (by omega)] at q3
    refine⟨cs[j], ?_,hr1.rel j hj (by omega)⟩
    rw[←q3]
    congr 1
    simp only[Nat.zero_add,Addr.add]
    split<;>split<;>simp_all<;>omega
   have hv:((zs.map f).length,cap)=(len,cap):=by rw[hlen']
   have goal:RelD (FW W) W (.sl (zs.map f)) (.slice (some ⟨b,o,none⟩) (zs.map f).length cap):=by
    refine .sl _ (k+1) b o cap (fun q=>(W.cell? ⟨b,o+q,none⟩).getD undef) (fun y hy=>?_) (by omega) (fun q hq=>?_) (fun i hi j hj=>?_)
    ·obtain⟨y',_,rfl⟩:=List.mem_map.1 hy;exact hk y'
    ·have hq':q<zs.length*(k+1):=by simpa using hq
     have hi:q / (k+1)<zs.length:=Nat.div_lt_of_lt_mul (by rw[Nat.mul_comm];exact hq')
     have hj:q % (k+1)<k+1:=Nat.mod_lt _ (by omega)
     obtain⟨v,h1,_⟩:=cellAt _ hi (q % (k+1)) (by rw[hk];exact hj)
     rw[Nat.div_add_mod'] at h1
     exact⟨FW_cell h1,by rw[h1];rfl⟩
    ·have hi':i<zs.length:=by simpa using hi
     simp only[List.getElem_map] at hj ⊢
     obtain⟨v,h1,h2⟩:=cellAt i hi' j hj
     show RelD (FW W) W _ ((W.cell? ⟨b,o+(i*(k+1)+j),none⟩).getD undef)
     rw[h1]
     exact h2
   rw[hlen'] at goal
   exact goal
 ·have:=znY (m:=m) (zs:=zs) (xs:=elems.map (·.1)) (by simp[hal]) (fun i h1 h2=>by
   have:=(has i (by simpa using h2) h1).2.1
   simpa using this)
  simp only[Rows.uptoBulk]
  omega
 ·obtain⟨i,hi,rfl⟩:=List.getElem_of_mem hy
  exact(has i (by omega) hi).2.2
def DecF (P:Program) (W:World) (n o K:Nat) (fs:List Field){α:Type} (f:α→List D) (m:α→Nat) (R:α→Prop):Prop:=
 ∀(H:Type) (enc:TypeId×Value→H) (cs:List Value) (xs:List (DataW H×List MemPlace)),cs.length=K→xs.length=fs.length→
  (∀(i:Nat) (fd:Field),fs[i]?=some fd→DataW.trod enc P W 0 (fun _=>true) true n fd.type ((cs.drop fd.offset).take (P.cellsOf fd.type))=xs[i]?)→
  ∃a,RelL W (f a) (cs.drop o)∧m a≤Rows.uptoBulkAll (xs.map (·.1))∧R a
theorem DecF.nil {K:Nat}:DecF P W n K K [] (fun _:Unit=>[]) (fun _=>0) (fun _=>True):=fun H enc cs xs h1 h2 _=>
 ⟨(),by rw[List.drop_of_length_le (by omega)];exact⟨rfl,fun i h=>by simp at h⟩,by simp,trivial⟩
theorem DecF.cons {α β:Type}{f:α→List D}{m:α→Nat}{R:α→Prop}{f2:β→List D}{m2:β→Nat}{R2:β→Prop}{o K k:Nat}{fd:Field}{fs:List Field}
  (h1:Dec P W n fd.type f m R) (ho:fd.offset=o) (hc:P.cellsOf fd.type=k) (h2:DecF P W n (o+k) K fs f2 m2 R2):
  DecF P W n o K (fd::fs) (fun p:α×β=>f p.1++f2 p.2) (fun p=>m p.1+1+m2 p.2) (fun p=>R p.1∧R2 p.2):=fun H enc cs xs hK hl hx=>by
 cases xs with
 |nil=>simp at hl
 |cons y ys=>
  have h0:=hx 0 fd (by simp)
  simp only[List.getElem?_cons_zero] at h0
  rw[ho,hc] at h0
  obtain⟨a,q1,q2,q3⟩:=h1 H enc _ _ h0
  obtain⟨b,r1,r2,r3⟩:=h2 H enc cs ys hK (by simpa using hl) (fun i fd' hi=>by
   have:=hx (i+1) fd' (by simpa using hi)
   simpa using this)
  refine⟨(a,b), ?_, ?_,q3,r3⟩
  ·have:cs.drop o=(cs.drop o).take k++cs.drop (o+k):=by
    rw[←List.drop_drop,List.take_append_drop]
   rw[this]
   exact q1.append r1
  ·simp only[List.map_cons,Rows.uptoBulkAll]
   omega
theorem Dec.struct {α:Type}{f:α→List D}{m:α→Nat}{R:α→Prop}{fs:Array Field} (ht:P.underlying t=some (.struct fs)){K:Nat} (hK:P.cellsOf t=K) (h:DecF P W n 0 K fs.toList f m R):
  Dec P W (n+1) t f m R:=fun H enc cs x hx=>by
 obtain⟨xs,n',hn,rfl,hl,hxl,hf⟩:=DataW.trod_struct ht hx
 obtain rfl:n=n':=by omega
 obtain⟨a,q1,q2,q3⟩:=h H enc cs xs (by omega) (by simpa using hxl) (fun i fd hi=>hf i fd (by simpa using hi))
 refine⟨a,by simpa using q1, ?_,q3⟩
 simp only[Rows.uptoBulk]
 omega
end
section
variable {P:Program}{W:World}{base:Nat}{t:TypeId}{v:Value}{H:Type}{enc:TypeId×Value→H}{d:DataW H}{ps:List MemPlace}
theorem zqa {α:Type}{e:TypeId}{f:α→List D}{m:α→Nat}{R:α→Prop}{k:Nat} (ht:P.underlying t=some (.slice e)) (hc:P.cellsOf e=k+1) (hk:∀a,(f a).length=k+1) (hd:∀n,Dec P W n e f m R)
  (hval:Value.okWide P W .any base t v) (h:DataW.Trod enc P W 0 (fun _=>true) true t v d ps):
  ∃l:List α,(∀G T,G.F=FW W→RelA G T W (.d (.sl (l.map f))) v)∧sumM m l+1≤Rows.uptoBulk d∧∀a∈l,R a:=by
 obtain⟨n,hn⟩:=h
 cases n with
 |zero=>simp[DataW.trod] at hn
 |succ n=>
  obtain⟨l,h1,h2,h3⟩:=Dec.sl ht hc hk (hd n) H enc _ _ hn
  have hcells:v.cells.toList=[v]:=by
   cases v with
   |agg cs=>simp only[Value.okWide,ht,Cell.okWide,Cell.ok] at hval
   |_=>rfl
  rw[hcells] at h1
  exact⟨l,fun G T hG=> .d (by rw[hG];simpa using h1.rel 0 (by simp) (by simp)),h2,h3⟩
theorem zpJ {α:Type}{f:α→List D}{m:α→Nat}{R:α→Prop}{fs:Array Field} (ht:P.underlying t=some (.struct fs)) (hd:∀n,Dec P W n t f m R)
  (hval:Value.okWide P W .any base t v) (h:DataW.Trod enc P W 0 (fun _=>true) true t v d ps):
  ∃a:α,(∀G T,G.F=FW W→RelA G T W (.agg ((f a).map .d)) v)∧m a+1≤Rows.uptoBulk d∧R a:=by
 obtain⟨n,hn⟩:=h
 obtain⟨a,h1,h2,h3⟩:=hd n H enc _ _ hn
 simp only[Value.okWide,ht] at hval
 obtain⟨cs,rfl,_,_⟩:=hval
 refine⟨a,fun G T hG=> .agg (by have:=h1.len;simp[Value.cells] at this ⊢;omega) (fun i hi hv=>?_),h2,h3⟩
 have hi':i<(f a).length:=by simpa using hi
 have:=h1.rel i hi' (by simpa [Value.cells] using hv)
 simp only[List.getElem_map]
 exact .d (by rw[hG];simpa [Value.cells] using this)
end
section
variable {P:Program}{H:Type}{enc:TypeId×Value→H}
theorem ziH (hl:laidOutB P=true){W W':World} (hb:Below W.heap.size W W'):∀ {ts:List TypeId}{vs:List Value}{ds:List (DataW H)}{ps:List MemPlace},
  (∀t∈ts,P.readableRec t=true∧t<P.types.size)→DataW.TrodAll enc P W 0 (fun _=>true) true ts vs ds ps→(∀x∈ps,x.block<W.heap.size)→
  DataW.TrodAll enc P W' 0 (fun b=>decide (b<W.heap.size)) true ts vs ds ps
 | [],[],[],ps,_,h,_=>h
 |t::ts,v::vs,d::ds,ps,hr,h,hlt=>by
  obtain⟨p,q,h1,h2,rfl⟩:=h
  exact⟨p,q,Below.trod hl (hr t (by simp)).1 (hr t (by simp)).2 h1 hb (fun x hx=>hlt x (by simp[hx])),
   ziH hl hb (fun t ht=>hr t (by simp[ht])) h2 (fun x hx=>hlt x (by simp[hx])),rfl⟩
theorem zrq {f:Func}{s:ChangeSpec}{W W':World}{args:Array Value}{ds gs:List (DataW H)}{before:List MemPlace}{tb:TypeId}
  (hW:DataW.Whole enc P f.params.toList s.vars false W args.toList ds gs before) (hvars:s.vars=[]) (hrt:f.resultTypes = #[tb]) (htb:P.underlying tb=some .bool)
  (hs:s.fn H (ds++gs)={ results:=[.lit (.bool true)],args:=ds }) (hl:laidOutB P=true) (hr:∀t∈f.params.toList,P.readableRec t=true∧t<P.types.size)
  (hb:Below W.heap.size W W'):s.post enc P f false true false false W args (.bool true) W':=by
 have hlt:∀p∈before,p.block<W.heap.size:=fun p hp=>hW.lt p hp
 have hW0:=hW
 obtain⟨p,q,hA,hV,rfl,hfz,_⟩:=hW
 rw[hvars] at hV
 cases gs with
 |cons g gs=>exact hV.elim
 |nil=>
  have hq:q=[]:=hV
  subst hq
  simp only[List.append_nil] at *
  refine⟨ds,[],p,[],p,[],by simpa [hvars] using hW0, ?_, ?_, ?_,World.keptBut_mono (fun x hx=>⟨hx,.inr (.inl hx)⟩) (hb.frame (·∈p)),fun h=>by cases h⟩
  ·simp only[List.append_nil,hs,hrt]
   exact trodAll_cons_mk (shut_bool htb _) trodAll_mk0
  ·simp only[List.append_nil,hs]
   exact ziH hl hb hr hA hlt
  ·simp only[hvars,List.append_nil,hs]
   rfl
theorem zqN {f:FuncId}{avs:List AV}{W:World}{args:Array Value}{r:AV} (hf:FnD P f avs [] r [])
  (hargs:∀G T,G.F=FW W→AllR G T W avs args):Calls P f args W fun e W'=>∃v G',e = .returned v∧RelA G' (fun _=>none) W' r v∧Below W.heap.size W W':=by
 let G:Gh:={ F:=FW W,loc:=fun _=>[] }
 refine(hf G W args ⟨hargs G _ rfl,fun id r h=>(by simp[getH] at h),fun id id' h=>(by simp[getH] at h),fun b hb=>FW_top hb⟩).mono ?_
 rintro e W' ⟨v,r',hp',G',rfl,⟨rfl,rfl⟩,h⟩
 exact⟨v,G',rfl,h.res,⟨h.frm.os,h.frm.tape,h.frm.output,h.frm.size,fun b hb=>(h.frm.block b hb (by simp[zbW])).1⟩⟩
theorem RelA.bool_true {G:Gh}{T:TokF}{w:World}{v:Value} (h:RelA G T w (.d (.bool true)) v):v = .bool true:=by
 cases h with|d h=>cases h;rfl
theorem zri {H:Type}{l:List (DataW H)} (hk:Rows.uptoSmall H l=true):Rows.uptoBulkAll l≤1048576:=of_decide_eq_true hk
end
end Go.Proofs.YtfiihhedihkdoaaGreat
namespace Go.Proofs.YtfiihhedihkdoaaGreat
open Go Go.ChangeShapes Go.WideShapes Go.ChangeAt Go.RowKit
set_option linter.unusedSimpArgs false
set_option linter.unusedVariables false
set_option maxRecDepth 100000
theorem zd8 (W:World) (n:Nat):Dec Tryz.prog W n 3 (fun z:Int=>[.i z]) (fun _=>0) (fun _=>True):=Dec.map (f:=fun z:Int=>[D.i z]) (R:=fun z=>(Lit.int .i64 z).wf=true) id (Dec.int Tryz.underlying3) (fun _=>rfl) (fun _=>Nat.le_refl _) (fun _ _=>trivial)
theorem zqE (W:World) (n:Nat):Dec Tryz.prog W n 9 (fun s:Str=>[.str s]) (fun s=>s.length) (fun _=>True):=Dec.str Tryz.underlying9
theorem zr9 (W:World):∀n,Dec Tryz.prog W n 24 Ty.c (fun _=>0) (fun _=>True)
 |0=>Dec.zero
 |n+1=>Dec.map (fun p:Int×Int×Unit=>(⟨p.1,p.2.1⟩:Ty)) (Dec.struct Tryz.underlying24 (by kernel_rfl) (DecF.cons (k:=1) (zd8 W n) rfl (by kernel_rfl) (DecF.cons (k:=1) (zd8 W n) rfl (by kernel_rfl) DecF.nil))) (fun _=>rfl) (fun _=>Nat.zero_le _) (fun _ _=>trivial)
theorem ztv (W:World):∀n,Dec Tryz.prog W n 173 (fun l:List Ty=>[zby l]) (fun l=>l.length) (fun _=>True)
 |0=>Dec.zero
 |n+1=>Dec.map id (Dec.sl (k:=1) Tryz.underlying173 (by kernel_rfl) (fun _=>rfl) (zr9 W n)) (fun _=>rfl) (fun l=>zg0 _ l) (fun _ _=>trivial)
def zh6 (c:Ctor):Nat:=c.name.length+c.args.length
theorem zsv (W:World):∀n,Dec Tryz.prog W n 175 Ctor.c zh6 (fun _=>True)
 |0=>Dec.zero
 |n+1=>Dec.map (fun p:Str×List Ty×Int×Unit=>(⟨p.1,p.2.1,p.2.2.1⟩:Ctor)) (Dec.struct Tryz.underlying175 (by kernel_rfl) (DecF.cons (k:=1) (zqE W n) rfl (by kernel_rfl) (DecF.cons (k:=1) (ztv W n) rfl (by kernel_rfl) (DecF.cons (k:=1) (zd8 W n) rfl (by kernel_rfl) DecF.nil))))
   (fun _=>rfl) (fun p=>by simp only[zh6];omega) (fun _ _=>trivial)
theorem zrm (W:World):∀n,Dec Tryz.prog W n 63 (fun l:List Ctor=>[zcf l]) (fun l=>sumM zh6 l) (fun _=>True)
 |0=>Dec.zero
 |n+1=>Dec.map id (Dec.sl (k:=2) Tryz.underlying63 (by kernel_rfl) (fun _=>rfl) (zsv W n)) (fun _=>rfl) (fun l=>Nat.le_refl _) (fun _ _=>trivial)
def zg6 (d:Data):Nat:=d.name.length+sumM zh6 d.ctors
theorem zsw (W:World):∀n,Dec Tryz.prog W n 65 Data.c zg6 (fun _=>True)
 |0=>Dec.zero
 |n+1=>Dec.map (fun p:Str×List Ctor×Unit=>(⟨p.1,p.2.1⟩:Data)) (Dec.struct Tryz.underlying65 (by kernel_rfl) (DecF.cons (k:=1) (zqE W n) rfl (by kernel_rfl) (DecF.cons (k:=1) (zrm W n) rfl (by kernel_rfl) DecF.nil)))
   (fun _=>rfl) (fun p=>by simp only[zg6];omega) (fun _ _=>trivial)
theorem zre {w:List Data}{N:Nat} (h:sumM zg6 w+1≤N) (hN:N≤1048576):WSmall w:=by
 refine⟨by have:=zg0 zg6 w;omega,fun d hd=>?_,fun d hd c hc=>?_⟩
 ·have h1:=zfH (m:=zg6) hd
  have h2:=zg0 zh6 d.ctors
  simp only[zg6] at h1
  omega
 ·have h1:=zfH (m:=zg6) hd
  have h2:=zfH (m:=zh6) hc
  simp only[zg6] at h1
  simp only[zh6] at h2
  omega
theorem ztu (W:World):∀n,Dec Tryz.prog W n 69 Pat.cc (fun v=>Pats.size v.kids) (fun _=>True):=by
 intro n
 induction n using Nat.strongRecOn with
 |_ n ih=>
  cases n with
  |zero=>exact Dec.zero
  |succ n=>
   have hk:Dec Tryz.prog W n 67 (fun l:List Pat=>[.sl (l.map Pat.cc)]) (fun l=>Pats.size l) (fun _=>True):=by
    cases n with
    |zero=>exact Dec.zero
    |succ n=>
     refine Dec.map id (Dec.sl (k:=5) Tryz.underlying67 (by kernel_rfl) (fun _=>rfl) (ih n (by omega))) (fun _=>rfl) (fun l=>?_) (fun _ _=>trivial)
     have:∀l:List Pat,Pats.size l≤sumM (fun v=>Pats.size v.kids) l:=by
      intro l
      induction l with
      |nil=>simp[Pats.size,sumM]
      |cons a r ih2=>simp only[Pats.size,sumM,Pat.size_eq];omega
     exact this l
   refine Dec.map (fun p:Int×Int×Int×Int×Int×List Pat×Unit=>Pat.mk p.1 p.2.1 p.2.2.1 p.2.2.2.1 p.2.2.2.2.1 p.2.2.2.2.2.1) (Dec.struct Tryz.underlying69 (by kernel_rfl) (DecF.cons (k:=1) (zd8 W n) rfl (by kernel_rfl) (DecF.cons (k:=1) (zd8 W n) rfl (by kernel_rfl) (DecF.cons (k:=1) (zd8 W n) rfl (by kernel_rfl) (DecF.cons (k:=1) (zd8 W n) rfl (by kernel_rfl) (DecF.cons (k:=1) (zd8 W n) rfl (by kernel_rfl) (DecF.cons (k:=1) hk rfl (by kernel_rfl) DecF.nil))))))) (fun p=>?_) (fun p=>?_) (fun _ _=>trivial)
   ·show [D.i _,D.i _,D.i _,D.i _,D.i _,D.sl (Pat.cs _)]=_
    rw[show Pat.cs (Pat.mk p.1 p.2.1 p.2.2.1 p.2.2.2.1 p.2.2.2.2.1 p.2.2.2.2.2.1).kids=p.2.2.2.2.2.1.map Pat.cc by rw[Pat.cs_eq];exact List.map_congr_left (fun v _=>Pat.c_eq v)]
    rfl
   ·show Pats.size p.2.2.2.2.2.1≤0+1+(0+1+(0+1+(0+1+(0+1+(Pats.size p.2.2.2.2.2.1+1+0)))))
    omega
theorem Pats.ok_size:∀(n:Nat) (l:List Pat),Pats.size l≤n→n≤1048576→l.length≤1048576∧Pats.ok l:=by
 intro n
 induction n with
 |zero=>
  intro l h hn
  cases l with
  |nil=>exact⟨by simp,trivial⟩
  |cons x r=>simp only[Pats.size,Pat.size_eq] at h;omega
 |succ n ih=>
  intro l
  induction l with
  |nil=>intro _ _;exact⟨by simp,trivial⟩
  |cons x r ihr=>
   intro h hn
   simp only[Pats.size] at h
   have hx:=Pat.size_eq x
   have h1:=ih x.kids (by omega) (by omega)
   have h2:=ih r (by omega) (by omega)
   refine⟨?_,(Pat.ok_iff x).2 ⟨by have:=h1.1;omega,h1.2⟩,h2.2⟩
   have:∀l:List Pat,l.length≤Pats.size l:=by
    intro l
    induction l with
    |nil=>simp
    |cons y s ihs=>simp only[Pats.size,List.length_cons,Pat.size_eq];omega
   have:=this r
   simp only[List.length_cons];omega
theorem zqU {v:Pat} (h:Pats.size v.kids≤1048576):v.ok:=by
 have:=Pats.ok_size _ _ (Nat.le_refl _) h
 exact(Pat.ok_iff v).2 ⟨by omega,this.2⟩
def bCl (c:Cl):Nat:=Pats.size c.pat.kids
theorem zt5 (W:World):∀n,Dec Tryz.prog W n 71 (fun g:Gd=>[.i g.op,.i g.var,.i g.n]) (fun _=>0) (fun _=>True)
 |0=>Dec.zero
 |n+1=>Dec.map (fun p:Int×Int×Int×Unit=>(⟨p.1,p.2.1,p.2.2.1⟩:Gd)) (Dec.struct Tryz.underlying71 (by kernel_rfl) (DecF.cons (k:=1) (zd8 W n) rfl (by kernel_rfl) (DecF.cons (k:=1) (zd8 W n) rfl (by kernel_rfl) (DecF.cons (k:=1) (zd8 W n) rfl (by kernel_rfl) DecF.nil)))) (fun _=>rfl) (fun _=>Nat.zero_le _) (fun _ _=>trivial)
theorem zt4 (W:World):∀n,Dec Tryz.prog W n 73 Cl.c bCl (fun _=>True)
 |0=>Dec.zero
 |n+1=>Dec.map (fun p:Pat×Gd×Unit=>(⟨p.1,p.2.1⟩:Cl)) (Dec.struct Tryz.underlying73 (by kernel_rfl) (DecF.cons (k:=6) (ztu W n) rfl (by kernel_rfl) (DecF.cons (k:=3) (zt5 W n) rfl (by kernel_rfl) DecF.nil))) (fun _=>rfl) (fun p=>by simp only[bCl];omega) (fun _ _=>trivial)
theorem zqx {l:List Cl} (h:sumM bCl l≤1048576):ClsOk l∧ClsSz l:=by
 refine⟨⟨by have:=zg0 bCl l;omega,fun c hc=>?_⟩,fun c hc=>?_⟩
 ·have h1:=zfH (m:=bCl) hc
  simp only[bCl] at h1
  exact zqU (by omega)
 ·have h1:=zfH (m:=bCl) hc
  simp only[bCl] at h1
  rw[Pat.size_eq];omega
theorem Exs.ok_size:∀(n:Nat) (l:List Ex),Exs.size l≤n→n≤1048576→l.length≤1048576∧Exs.ok l:=by
 intro n
 induction n with
 |zero=>
  intro l h hn
  cases l with
  |nil=>exact⟨by simp,trivial⟩
  |cons x r=>simp only[Exs.size,Ex.size_eq] at h;omega
 |succ n ih=>
  intro l
  induction l with
  |nil=>intro _ _;exact⟨by simp,trivial⟩
  |cons x r ihr=>
   intro h hn
   simp only[Exs.size] at h
   have hx:=Ex.size_eq x
   have h1:=ih x.kids (by omega) (by omega)
   have h2:=ih r (by omega) (by omega)
   refine⟨?_,(Ex.ok_iff x).2 ⟨by have:=h1.1;omega,h1.2⟩,h2.2⟩
   have:∀l:List Ex,l.length≤Exs.size l:=by
    intro l
    induction l with
    |nil=>simp
    |cons y s ihs=>simp only[Exs.size,List.length_cons,Ex.size_eq];omega
   have:=this r
   simp only[List.length_cons];omega
end Go.Proofs.YtfiihhedihkdoaaGreat
namespace Go.Proofs.YtfiihhedihkdoaaGreat.fnExactMissingPatterns
open Go Go.ChangeShapes Go.WideShapes Go.ChangeAt Go.RowKit
set_option linter.unusedSimpArgs false
set_option linter.unusedVariables false
theorem own:ownKnob Tryz.prog.godebug=none:=by kernel_rfl
theorem laidOut:laidOutB Tryz.prog=true:=by kernel_rfl
set_option maxRecDepth 100000 in
theorem contract (H:Type) (enc:TypeId×Value→H) (W:World) (base:Nat) (args:Array Value) (ds gs:List (DataW H)) (before:List MemPlace)
  (hval:∀(j:Nat) t v,Tryz.f3.params[j]?=some t→args[j]?=some v→Value.okWide Tryz.prog W .any base t v)
  (hW:DataW.Whole enc Tryz.prog Tryz.f3.params.toList Rows.fnExactMissingPatternsSpec.vars false W args.toList ds gs before) (hk:Rows.uptoSmall H (ds++gs)=true):
  Calls Tryz.prog 3 args W fun e W'=>∃v,e = .returned v∧Rows.fnExactMissingPatternsSpec.post enc Tryz.prog Tryz.f3 false true false false W args v W':=by
 have hb:=zri hk
 have hW':=hW
 obtain⟨p,q,hA0,hV,rfl,hfz,hnd⟩:=hW
 have hA:DataW.TrodAll enc Tryz.prog W 0 (fun _=>true) true Tryz.f3.params.toList args.toList ds p:=hA0
 rw[Tryz.params3] at hA hval
 obtain⟨v0,vs0,d0,ds0,p0,q0,hargs,rfl,rfl,h0,r0⟩:=trodAll_cons hA
 obtain⟨v1,vs1,d1,ds1,p1,q1,rfl,rfl,rfl,h1,r1⟩:=trodAll_cons r0
 obtain⟨v2,vs2,d2,ds2,p2,q2,rfl,rfl,rfl,h2,r2⟩:=trodAll_cons r1
 obtain⟨rfl,rfl,rfl⟩:=trodAll_nil r2
 obtain rfl:args = #[v0,v1,v2]:=by cases args;simp_all
 obtain⟨rfl,rfl⟩:=trodVars_none hV
 simp only[List.append_nil,Rows.uptoBulkAll] at hb
 obtain⟨w,a0,b0,_⟩:=zqa (k:=1) Tryz.underlying22 (by kernel_rfl) (fun _=>rfl) (zsw W) (hval 0 _ v0 rfl rfl) h0
 obtain⟨t,a1,b1,_⟩:=zpJ Tryz.underlying24 (zr9 W) (hval 1 _ v1 rfl rfl) h1
 obtain⟨l,a2,b2,_⟩:=zqa (k:=8) Tryz.underlying25 (by kernel_rfl) (fun _=>rfl) (zt4 W) (hval 2 _ v2 rfl rfl) h2
 have hs:WSmall w:=zre b0 (by omega)
 obtain⟨ok_l,sz_l⟩:=zqx (l:=l) (by omega)
 refine(zqN ((zff hs (a:=t.data) (k:=t.index) ok_l sz_l)) (W:=W) (args:=#[v0,v1,v2]) (fun G T hG=>⟨rfl,fun i hi hv=>?_⟩)).mono ?_
 ·match i,hi with
  |0,_=>exact a0 G T hG
  |1,_=>exact a1 G T hG
  |2,_=>exact a2 G T hG
 ·rintro e W' ⟨v,G',rfl,hr,hbelow⟩
  obtain rfl:=hr.bool_true
  exact⟨_,rfl,zrq hW' rfl rfl Tryz.underlying4 rfl laidOut (fun t ht=>by
   simp only[Tryz.params3,List.mem_cons,List.not_mem_nil,or_false] at ht
   rcases ht with rfl|rfl|rfl<;>exact⟨by kernel_rfl,of_decide_eq_true (by kernel_rfl)⟩) hbelow⟩
set_option maxRecDepth 100000 in
theorem lifted (os:Os) (started:os.Started) (H:Type) (enc:TypeId×Value→H) (F:Stop.Interp):
  ReturnsInHanded {} Tryz.checked os 3 .any ((Rows.OpenSpec.upto Rows.fnExactMissingPatternsSpec).pre6 enc Tryz.prog Tryz.f3 Rows.fnExactMissingPatternsUptoRow.domain false) (((Rows.OpenSpec.upto Rows.fnExactMissingPatternsSpec).at F).post enc Tryz.prog Tryz.f3 false true false false):=by
 refine returnsInHanded_of_cond (C:=Tryz.checked) (s:=Rows.OpenSpec.upto Rows.fnExactMissingPatternsSpec) (k:=Rows.uptoSmall) rfl own started (by kernel_rfl) Tryz.func3
  (OpenSpec.witness (enc:=enc) (C:=Tryz.checked) (s:=Rows.OpenSpec.upto Rows.fnExactMissingPatternsSpec) (k:=Rows.uptoSmall) rfl false ⟨#[],#[.slice none 0 0,.agg #[.int .i64 0,.int .i64 0],.slice none 0 0],[]⟩ 8 (by kernel_rfl) (by kernel_rfl) (by kernel_rfl)
   (x:=([.nil,.agg [.lit (.int .i64 0),.lit (.int .i64 0)],.nil],[],[])) (by kernel_rfl) rfl (by kernel_rfl)) ?_
 intro W base args ds gs before hval hW _ hk _
 exact contract H enc W base args ds gs before hval hW hk
theorem kf1:(Rows.fnExactMissingPatternsUptoRow.inPlace == Tryz.pinned.checked.prog.inPlace 3)=true:=by kernel_rfl
theorem kf2:(Rows.fnExactMissingPatternsUptoRow.unfollowed == Tryz.pinned.checked.prog.unfollowed 3)=true:=by kernel_rfl
theorem kf3:(Rows.fnExactMissingPatternsUptoRow.recurses == Tryz.pinned.checked.prog.recurses 3)=true:=by kernel_rfl
theorem kf4:(Rows.fnExactMissingPatternsUptoRow.named == Tryz.pinned.checked.prog.varsNamed 3)=true:=by kernel_rfl
theorem kf5:laidOutB Tryz.pinned.checked.prog=true:=by kernel_rfl
theorem kf6:mapsRowed Tryz.pinned.checked.prog=true:=by kernel_rfl
theorem kf7:Tryz.pinned.checked.prog.stopsHeard=true:=by kernel_rfl
theorem kf8:Tryz.pinned.checked.prog.mayEnter=true:=by kernel_rfl
theorem kf9:(Rows.fnExactMissingPatternsUptoRow.lifted == Tryz.pinned.checked.prog.liftsFinal)=true:=by kernel_rfl
theorem kf0:(Rows.fnExactMissingPatternsUptoRow.plainKeys == Tryz.pinned.checked.prog.plainKeys)=true:=by kernel_rfl
theorem facts:joinedFacts Tryz.pinned.checked.prog 3 Tryz.f3 (Rows.OpenSpec.upto Rows.fnExactMissingPatternsSpec).bare Rows.fnExactMissingPatternsUptoRow=true:=by
 unfold joinedFacts
 rw[kf1,kf2,kf3,kf4,kf5,kf6,kf7,kf8,kf9,kf0]
 kernel_rfl
theorem named:Tryz.pinned.checked.prog.funcNamed Rows.fnExactMissingPatternsUptoRow.func=some 3:=by kernel_rfl
theorem over:Rows.fnExactMissingPatternsUptoRow.holds Tryz.pinned (Rows.OpenSpec.upto Rows.fnExactMissingPatternsSpec):=
 OpenClaim.holds_of_cond 3 Tryz.f3 rfl rfl rfl rfl rfl rfl rfl ⟨rfl,rfl,rfl,rfl,rfl⟩ rfl rfl rfl rfl rfl named Tryz.func3 facts
  (of_decide_eq_true (by as_aux_lemma=>kernel_rfl)) (by as_aux_lemma=>unfold Func.isWrapper;first|(rw[if_pos (by decide +kernel)];kernel_rfl)|(rw[if_neg (by decide +kernel)];exact⟨rfl,rfl⟩))
  (fun os started H enc _ F=>lifted os started H enc F)
theorem proved:Rows.FnExactMissingPatternsUptoSaid:=over
end Go.Proofs.YtfiihhedihkdoaaGreat.fnExactMissingPatterns
