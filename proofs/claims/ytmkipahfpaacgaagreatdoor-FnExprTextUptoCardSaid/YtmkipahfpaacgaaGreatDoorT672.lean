/-
  THE ABSTRACT WALK AND THE WALKS, part 2 of 5.
-/
import Derived.Test.YtmkipahfpaacgaaGreatDoorT671
namespace Go.Proofs.YtmkipahfpaacgaaGreatDoor
open Go
set_option linter.unusedSimpArgs false
set_option linter.unusedVariables false
section
variable {c:Ctx}
theorem CWp.frzS {env:Env}{hp:Hp}{s':St}{K:Kt}{code:Code}{ids:List Nat} (hkp:KeptIn c.kept ids) (id:Nat){cs:List AV} (hb:getH hp id=some (.box cs)) (Conv:AV->AV->Prop)
  (hs:∀i v,getE s'.env i=some v->∃u,getE env i=some u/\(u=v\/Conv u v))
  (hh:∀i r,getH s'.hp i=some r->i≠id/\(getH hp i=some r\/∃cs1 cs2,getH hp i=some (.box cs1)/\r = .box cs2/\cs2.length=cs1.length/\∀j (h1:j<cs1.length) (h2:j<cs2.length),cs1[j]=cs2[j]\/Conv cs1[j] cs2[j]))
  (hko:∀i,i≠id->(getH hp i).isSome->(getH s'.hp i).isSome)
  (hsl:∀(G G':Gh) (T T':TokF) (w:World) (b:Nat) (us:Array Value) (e:TypeId) (u v:AV) (x:Value),Conv u v->RelA G T w u x->G.loc id=[b]->w.heap[b]?=some (.cells us e (0,0))->cs.length<=us.size->
   (∀i (hi:i<cs.length) (hv:i<us.size),RelA G T w cs[i] us[i])->G'.F b=us.size->(∀y o,o<G.F y->o<G'.F y/\w.cell? ⟨y,o,none⟩=w.cell? ⟨y,o,none⟩)->RelA G' T' w v x)
  (hid:zaG id ids=false) (hn:CWp c code s' K):CWp c code ⟨env,hp⟩ K:=by
 intro a w hrel;obtain⟨G,hr⟩:=hrel;obtain⟨b,us,e,h1,h2,h3,h4,h5⟩:=hr.heap id _ hb;let G':Gh:={ G with F:=fun x=>bif Nat.beq x b then us.size else G.F x }
 have hF:∀x,x≠b->G'.F x=G.F x:=fun x hx=>by
  have:Nat.beq x b=false:=by
   cases hh:Nat.beq x b with
   |true=>exact absurd (xap hh) hx
   |false=>rfl
  simp[G',this]
 have hFb:G'.F b=us.size:=by simp[G']
 have hother:∀i,(getH hp i).isSome->i≠id->∀x,x∈G.loc i->x≠b:=fun i hi hne x hx e=>by
  subst e;exact hr.disj i id hi (by rw[hb];rfl) hne x hx (by simp[h1])
 have htok:∀i p,tokf s'.hp i=some p->tokf hp i=some p/\i≠id:=by
  rintro i ⟨m,q⟩ hp'
  obtain⟨q1,q2⟩:=hh i _ (zak.1 hp');rcases q2 with q2|⟨_,_,_,q3,_⟩
  ·exact⟨zak.2 q2,q1⟩
  ·cases q3
 have hcell:∀x o,o<G.F x->o<G'.F x/\w.cell? ⟨x,o,none⟩=w.cell? ⟨x,o,none⟩:=fun x o ho=>by
  refine⟨?_,rfl⟩;by_cases hx:x=b
  ·subst hx;rw[h4] at ho;omega
  ·rw[hF x hx];exact ho
 have hm:∀ {x:AV}{v:Value},RelA G (tokf hp) w x v->RelA G' (tokf s'.hp) w x v:=fun hx=>
  hx.mono hcell (fun _ _=> .inl rfl) (fun i _ p hp'=>by
   obtain⟨q1,q2⟩:=htok i p hp';refine⟨q1,fun x hx=>⟨rfl,hF x (hother i ?_ q2 x hx)⟩⟩;obtain⟨m,q⟩:=p;rw[zak.1 q1];rfl)
 have hc:∀ {x y:AV}{v:Value},(x=y\/Conv x y)->RelA G (tokf hp) w x v->RelA G' (tokf s'.hp) w y v:=fun hxy hx=>by
  rcases hxy with rfl|hxy
  ·exact hm hx
  ·exact hsl _ _ _ _ _ _ _ _ _ _ _ hxy hx h1 h2 h3 h5 hFb hcell
 have hsome:∀i,(getH s'.hp i).isSome->(getH hp i).isSome/\i≠id:=fun i hi=>by
  obtain⟨r,hr'⟩:=Option.isSome_iff_exists.1 hi;obtain⟨q1,q2⟩:=hh i r hr';refine⟨?_,q1⟩;rcases q2 with q2|⟨_,_,q2,_⟩<;>rw[q2]<;>rfl
 have hbnew:=hr.new id (by rw[hb];rfl) b (by simp[h1]);have hblt:b<w.heap.size:=(hr.heap id _ hb).bound b (by simp[h1]);refine hn a w ⟨G',hr.size,hr.defers,fun i v hi=>?_,fun i r hi=>?_,fun i j q1 q2=>hr.disj i j (hsome i q1).1 (hsome j q2).1,fun i q1=>hr.new i (hsome i q1).1, ?_,fun x hx=>?_,fun i l hk=>?_⟩
 ·obtain⟨u,q1,q2⟩:=hs i v hi;exact hc q2 (hr.slots i u q1)
 ·obtain⟨hne,q⟩:=hh i r hi;rcases q with hi' | ⟨cs1,cs2,hi',rfl,hl,hcc⟩
  ·have hh:=hr.heap i r hi';have hs:(getH hp i).isSome:=by rw[hi'];rfl
   cases r with
   |box cs2=>
    obtain⟨b2,vs2,e2,q1,q2,q3,q4,q5⟩:=hh;exact⟨b2,vs2,e2,q1,q2,q3,(hF b2 (hother i hs hne b2 (by simp[q1]))).trans q4,fun j hj hv=>hm (q5 j hj hv)⟩
   |tok m q=>exact hh
   |map ks=>
    obtain⟨b2,es2,cl,q1,q2,q3,q4⟩:=hh;exact⟨b2,es2,cl,q1,q2,(hF b2 (hother i hs hne b2 (by simp[q1]))).trans q3,q4⟩
   |tree cs2=>exact zbh hh I (fun x hx=>⟨I,hF x (hother i hs hne x hx)⟩) (Nat.le_refl _) (fun _ _ _=>hm)
  ·have hs:(getH hp i).isSome:=by rw[hi'];rfl
   obtain⟨b2,vs2,e2,q1,q2,q3,q4,q5⟩:=hr.heap i _ hi';exact⟨b2,vs2,e2,q1,q2,by omega,(hF b2 (hother i hs hne b2 (by simp[q1]))).trans q4,fun j hj hv=>hc (hcc j od hj) (q5 j od hv)⟩
 ·refine hr.frm.trans (own1:=[b]) ⟨I,I,I,Nat.le_refl _,fun x _ hx=>⟨I,hF x (fun e=>hx (by simp[e]))⟩,hcell⟩ (fun x hx=>?_);simp only[List.mem_singleton] at hx;subst hx;exact hbnew
 ·rw[hF x od];exact hr.top x hx
 ·have:=hr.kept i l hk;have hne:i≠id:=fun e=>by
   subst e;have:=zaw.2 (hkp.mem i l hk);rw[this] at hid;cases hid
  refine⟨this.1,hko i hne this.2.1, ?_⟩;cases hT:tokf s'.hp i with
  |none=>rfl
  |some p=>rw[(htok i p hT).1] at this;exact absurd this.2.2 og
theorem CWp.frzG {env:Env}{hp:Hp}{K:Kt}{code:Code}{ids:List Nat} (hkp:KeptIn c.kept ids) (t id:Nat){u v:AV}{cs:List AV} (ht:getE env t=some u) (hb:getH hp id=some (.box cs))
  (hsl:∀(G G':Gh) (T T':TokF) (w:World) (b:Nat) (us:Array Value) (e:TypeId) (x:Value),RelA G T w u x->G.loc id=[b]->w.heap[b]?=some (.cells us e (0,0))->cs.length<=us.size->
   (∀i (hi:i<cs.length) (hv:i<us.size),RelA G T w cs[i] us[i])->G'.F b=us.size->(∀y o,o<G.F y->o<G'.F y/\w.cell? ⟨y,o,none⟩=w.cell? ⟨y,o,none⟩)->RelA G' T' w v x)
  (hid:zaG id ids=false) (hn:CWp c code ⟨(t,v)::env,(id,none)::hp⟩ K):CWp c code ⟨env,hp⟩ K:=by
 refine CWp.frzS hkp id hb (fun x y=>x=u/\y=v) (fun i x hi=>?_) (fun i r hi=>?_) (fun i hne hi=>?_) (fun G G' T T' w b us e x y z hxy=>?_) hid hn
 ·have hi':getE ((t,v)::env) i=some x:=hi;simp only[getE] at hi';cases hti:Nat.beq t i with
  |true=>
   obtain rfl:=xap hti;simp only[hti,cond_true,xae] at hi';exact⟨u,ht,.inr ⟨rfl,hi'.symm⟩⟩
  |false=>simp only[hti,cond_false] at hi';exact⟨x,hi',.inl rfl⟩
 ·have hi':getH ((id,none)::hp) i=some r:=hi;rw[zaa] at hi';split at hi'
  ·cases hi'
  ·rename_i hne;exact⟨hne,.inl hi'⟩
 ·show(getH ((id,none)::hp) i).isSome
  rw[zaa,if_neg hne];exact hi
 ·obtain⟨rfl,rfl⟩:=hxy;exact hsl G G' T T' w b us e z
theorem zpd {G G':Gh}{T T':TokF}{w:World}{id n k b:Nat}{us:Array Value}{e:TypeId}{x:Value}{cs:List AV}{es:List (List D)} (hx:RelA G T w (.ms id n) x) (h1:G.loc id=[b]) (h2:w.heap[b]?=some (.cells us e (0,0))) (h3:cs.length<=us.size)
  (h5:∀i (hi:i<cs.length) (hv:i<us.size),RelA G T w cs[i] us[i]) (hFb:G'.F b=us.size) (hcell:∀y o,o<G.F y->o<G'.F y/\w.cell? ⟨y,o,none⟩=w.cell? ⟨y,o,none⟩) (hc:zbY n k cs=some es):RelA G' T' w (.d (.sl es)) x:=by
 obtain⟨c1,c2,c3,c4⟩:=zeH hc;obtain⟨b',cap,hl,he,hcap⟩:=hx.ms_eq;obtain rfl:=(zdr hl.1 h1).symm;rw[he];refine .d ?_;have hn':n=es.length:=c1.symm;rw[hn'];refine .sl es k b 0 cap (fun x=>us.getD x undef) c2 od (fun x hx=>?_) (fun i hi j hj=>?_)
 ·have h3':x<cs.length:=by rw[c3,<-c1];exact hx
  have hxs:x<us.size:=Nat.lt_of_lt_of_le h3' h3;refine⟨by rw[hFb];omega, ?_⟩;simp[World.cell?,h2,hxs]
 ·have hjk:j<k:=by rw[<-c2 _ (xao hi)];exact hj
  have hlt:i*k+j<cs.length:=by
   rw[c3,<-c1];have:(i+1)*k<=es.length*k:=xav _ od;rw[Nat.add_mul] at this;omega
  have hlu:i*k+j<us.size:=by omega
  have h6:=(h5 _ hlt hlu).toD (c4 i hi j hj hlt);have h7:us.getD (i*k+j) undef=us[i*k+j]:=by simp[Array.getD,hlu]
  rw[h7];exact h6.mono hcell
theorem CWp.frz {env:Env}{hp:Hp}{K:Kt}{code:Code}{ids:List Nat} (hkp:KeptIn c.kept ids) (t id n k:Nat){cs:List AV}{es:List (List D)} (ht:getE env t=some (.ms id n)) (hb:getH hp id=some (.box cs))
  (hc:zbY n k cs=some es) (hid:zaG id ids=false) (hn:CWp c code ⟨(t,.d (.sl es))::env,(id,none)::hp⟩ K):CWp c code ⟨env,hp⟩ K:=by
 refine CWp.frzG hkp t id ht hb (fun G G' T T' w b us e x hx h1 h2 h3 h5 hFb hcell=>zpd hx h1 h2 h3 h5 hFb hcell hc) hid hn
theorem CWp.frzC {env:Env}{hp:Hp}{K:Kt}{code:Code}{ids:List Nat} (hkp:KeptIn c.kept ids) (b0 off id n k:Nat){cs0 cs0' cs:List AV}{es:List (List D)} (h0:getH hp b0=some (.box cs0)) (hne:Nat.beq b0 id=false)
  (ho:cs0[off]?=some (.ms id n)) (hp0:cs0.set off (.d (.sl es))=cs0') (hb:getH hp id=some (.box cs))
  (hc:zbY n k cs=some es) (hid:zaG id ids=false) (hn:CWp c code ⟨env,(b0,some (.box cs0'))::(id,none)::hp⟩ K):CWp c code ⟨env,hp⟩ K:=by
 have hbne:b0≠id:=fun e=>by subst e;rw[Nat.beq_refl] at hne;cases hne
 refine CWp.frzS hkp id hb (fun x y=>x = .ms id n/\y = .d (.sl es)) (fun i x hi=>⟨x,hi,.inl I⟩) (fun i r hi=>?_) (fun i hne hi=>?_) (fun G G' T T' w b us e u v x hxy hx h1 h2 h3 h5 hFb hcell=>?_) hid hn
 ·have hi':getH ((b0,some (Res.box cs0'))::(id,none)::hp) i=some r:=hi;rw[zaa] at hi';split at hi'
  ·rename_i he;subst he;simp only[xae] at hi';subst hi';refine⟨hbne,.inr ⟨cs0,cs0',h0,rfl,by rw[<-hp0];simp,fun j q1 q2=>?_⟩⟩;subst hp0;rw[List.getElem_set];split
   ·rename_i he;subst he;rw[xan q1] at ho;exact .inr ⟨Option.some.inj ho,I⟩
   ·exact .inl I
  ·rw[zaa] at hi';split at hi'
   ·cases hi'
   ·rename_i hne;exact⟨hne,.inl hi'⟩
 ·show(getH ((b0,some (Res.box cs0'))::(id,none)::hp) i).isSome
  rw[zaa];split
  ·rfl
  ·rw[zaa,if_neg hne];exact hi
 ·obtain⟨rfl,rfl⟩:=hxy;exact zpd hx h1 h2 h3 h5 hFb hcell hc
end
theorem zai:∀a b:List AV,AV.idsL (a++b)=AV.idsL a++AV.idsL b
 | [],_=>rfl
 |x::r,b=>by simp[AV.idsL,zai r b]
theorem zkk {zs:List AV} (h:AV.idsL zs=[]):∀ {n:Nat},AV.idsL (zbI n zs)=[]
 |0=>rfl
 |n+1=>by simp[zbI,zai,h,zkk h]
theorem zhx {k:Nat}:∀ {h t:List AV},h.length=k->cutC (h++t) 0 k=some h:=by
 intro h t hk;subst hk;induction h with
 |nil=>cases t<;>simp[cutC]
 |cons x r ih=>simp[cutC,ih]
theorem zmX:∀l:List D,toDL (l.map .d)=some l
 | []=>rfl
 |x::r=>by simp[toDL,AV.toD,zmX r]
theorem zeG {α:Type}{f:α->List D}{k:Nat}:∀ {l:List α},(∀x,x∈l->(f x).length=k)->zbY l.length k (l.flatMap fun x=>(f x).map .d)=some (l.map f)
 | [],_=>rfl
 |x::r,h=>by
  have hx:((f x).map AV.d).length=k:=by simp[h x og]
  simp only[xab,List.flatMap_cons,xaf,zbY,zhx hx,zmX];have:(((f x).map AV.d)++r.flatMap fun x=>(f x).map AV.d).drop k=r.flatMap fun x=>(f x).map AV.d:=by
   rw[<-hx];simp
  rw[this,zeG (fun y hy=>h y (by simp[hy]))]
section
variable {c:Ctx}
theorem RelA.gv_inv {G:Gh}{T:TokF}{w:World}{id:Nat}{xs:List (List D)}{v:Value} (h:RelA G T w (.gv id xs) v):
  (∃a cap,v = .slice a xs.length cap)/\∀n k,T id=some (n,k)->xs.length<=n/\(n=xs.length->(∀x,x∈xs->x.length=k)/\TipV G w id n k v xs):=by
 cases h with|gv hv ht=>exact⟨hv,ht⟩
theorem zjw {hp:Hp}{id n n' k:Nat} (h:getH hp id=some (.tok n' k)) (e:n'=n):getH hp id=some (.tok n k):=e ▸ h
theorem zna {F:Nat->Nat}{w:World}{xs ys:List (List D)}{k:Nat}{us:Array Value} 
  (hx:∀i (hi:i<xs.length) j (hj:j<xs[i].length),RelD F w xs[i][j] (us.getD (i*k+j) undef))
  (hy:∀i (hi:i<ys.length) j (hj:j<ys[i].length),RelD F w ys[i][j] (us.getD ((xs.length+i)*k+j) undef)):
  ∀i (hi:i<(xs++ys).length) j (hj:j<(xs++ys)[i].length),RelD F w (xs++ys)[i][j] (us.getD (i*k+j) undef):=by
 intro i hi j hj;by_cases h:i<xs.length
 ·have e2:(xs++ys)[i]=xs[i]:=List.getElem_append_left h;have:=hx i h j (by rw[<-e2];exact hj);simpa only[e2] using this
 ·have h2:i-xs.length<ys.length:=by simp only[xaa] at hi;omega
  have e2:(xs++ys)[i]=ys[i-xs.length]:=List.getElem_append_right od;have e3:xs.length+(i-xs.length)=i:=by omega
  have:=hy (i-xs.length) h2 j (by rw[<-e2];exact hj);simp only[e3] at this;simpa only[e2] using this
theorem zhn {t:TypeId}{G:Gh}{s:St}{a:Act}{w:World} (hr:R c G s a w){id k e yb:Nat}{xs ys:List (List D)}{v u:Value} (ht:SlT c.P t e k yb){z:Value} (hz:∃i,c.P.info? e=some i/\i.zero=some z/\z.cells.size=k)
  (htok:getH s.hp id=some (.tok xs.length k)) (hv:RelA G (tokf s.hp) w (.gv id xs) v) (hu:RelD G.F w (.sl ys) u) (hky:∀y,y∈ys->y.length=k)
  (hb:(xs.length+ys.length)*yb<=140737488355328) (hm:xs.length+ys.length<=9223372036854775807) (opt:TypeId):
  ∃v' w' G',(Builtin.append_ #[t,t] opt #[v,u]).run c.P w = .ok v' w'/\
   R c G' { s with hp:=(id,some (.tok (xs.length+ys.length) k))::s.hp } a w'/\
   RelA G' (tokf ((id,some (.tok (xs.length+ys.length) k))::s.hp)) w' (.gv id (xs++ys)) v':=by
 obtain⟨i,hi1,hi2,hi3⟩:=ht.inf;obtain⟨i',z1,z2,z3⟩:=hz;rw[hi1] at z1;cases z1
 obtain⟨⟨base,cap0,hv0⟩,hcl⟩:=hv.gv_inv;have hT:tokf s.hp id=some (xs.length,k):=zak.2 htok;obtain⟨hkx,htip⟩:=(hcl _ _ hT).2 rfl;have hT':tokf ((id,some (.tok (xs.length+ys.length) k))::s.hp) id=some (xs.length+ys.length,k):=zak.2 o0;have hle:∃base cap,v = .slice base xs.length cap/\xs.length<=cap:=by
  rcases htip with ⟨h1,h2,h3⟩|⟨b,cap,cs,et,h1,h2,h3,h4,h5,h6,h7⟩
  ·exact⟨none,0,by rw[h2];exact h3,by omega⟩
  ·exact⟨_,cap,h2,h6⟩
 by_cases hm0:ys=[]
 ·subst hm0;obtain⟨base,cap,rfl,hle⟩:=hle;obtain⟨oa,oc,rfl⟩:∃oa oc,u = .slice oa 0 oc:=by obtain⟨oa,oc,h⟩:=hu.sl_len;exact⟨oa,oc,h⟩
  refine⟨_,w,G,zei t opt e i ht.und hi1 base xs.length cap hle oa oc,hr.same htok, ?_⟩;show RelA G (tokf ((id,some (.tok xs.length k))::s.hp)) w (.gv id (xs++[])) _
  rw[zf7 htok,xaq];exact hv
 obtain⟨oa0,cap0',_,h0,_⟩|⟨b2,off2,cap2,news,rfl,hcap2,hnl,hnc,hn1,hnr⟩:=hu.sl_cells hky
 ·exact absurd h0 hm0
 have hmpos:0<ys.length:=List.length_pos_iff.2 hm0;have hnews:∀j u,news[j]?=some u->w.cell? ((⟨b2,off2,none⟩:Addr).add j)=some u:=fun j u hj=>by rw[zcR];exact(hnc j u hj).2
 have hnl':news.length=ys.length*i.size:=by rw[hi2];exact hnl
 have hky':∀e,e∈xs++ys->e.length=k:=fun e he=>by
  rcases List.mem_append.1 he with h|h
  ·exact hkx e h
  ·exact hky e h
 have hlt:∀b o,o<G.F b->b<w.heap.size:=fun b o ho=>by
  rcases Nat.lt_or_ge b w.heap.size with h|h
  ·exact h
  ·rw[hr.top b h] at ho;omega

 have atNew:∀(olds:List Value),olds.length=xs.length*k->∀(tail:List Value) (F':Nat->Nat) (w':World),(∀x v,RelD G.F w x v->RelD F' w' x v)->
   (∀i (hi:i<xs.length) j (hj:j<xs[i].length),RelD G.F w xs[i][j] (olds.getD (i*k+j) undef))->
   ∀i (hi:i<(xs++ys).length) j (hj:j<(xs++ys)[i].length),RelD F' w' (xs++ys)[i][j] ((olds++news++tail).toArray.getD (i*k+j) undef):=by
  intro olds hol tail F' w' hmo hold;refine zna (fun i hi j hj=>?_) (fun i hi j hj=>?_)
  ·have hlt':i*k+j<olds.length:=by
    have h1:xs[i].length=k:=hkx _ (xao hi);have:(i+1)*k<=xs.length*k:=xav _ od;rw[Nat.add_mul] at this;omega
   have e1:(olds++news++tail).toArray.getD (i*k+j) undef=olds.getD (i*k+j) undef:=by
    simp[List.getD,xar,List.getElem?_append_left hlt']
   rw[e1];exact hmo _ _ (hold i hi j hj)
  ·have h1:ys[i].length=k:=hky _ (xao hi);have hlt':i*k+j<news.length:=by
    have:(i+1)*k<=ys.length*k:=xav _ od;rw[Nat.add_mul] at this;omega
   have e0:(xs.length+i)*k+j=olds.length+(i*k+j):=by rw[hol,Nat.add_mul];omega
   have e1:(olds++news++tail).toArray.getD ((xs.length+i)*k+j) undef=news[i*k+j]:=by
    rw[e0];simp[List.getD,xar,List.getElem?_append_right,List.getElem?_append_left hlt',hlt']
   rw[e1];exact hmo _ _ (hnr i hi j hj hlt')
 have fresh:∀(olds:List Value) (nc:Nat),olds.length=xs.length*k->xs.length+ys.length<=nc->
   (∀i (hi:i<xs.length) j (hj:j<xs[i].length),RelD G.F w xs[i][j] (olds.getD (i*k+j) undef))->
   ∃G',R c G' { s with hp:=(id,some (.tok (xs.length+ys.length) k))::s.hp } a (w.drew.alloc (.cells (olds.toArray++news.toArray++Builtin.zeroCells z.cells (nc-(xs.length+ys.length))) e))/\
    RelA G' (tokf ((id,some (.tok (xs.length+ys.length) k))::s.hp)) (w.drew.alloc (.cells (olds.toArray++news.toArray++Builtin.zeroCells z.cells (nc-(xs.length+ys.length))) e))
     (.gv id (xs++ys)) (.slice (some ⟨w.heap.size,0,none⟩) (xs.length+ys.length) nc):=by
  intro olds nc hol hnc' hold;let cells:Array Value:=olds.toArray++news.toArray++Builtin.zeroCells z.cells (nc-(xs.length+ys.length))
  let G':Gh:={ F:=G.F,loc:=fun j=>bif Nat.beq j id then [w.heap.size] else G.loc j }
  have hcs:cells.size=nc*k:=by
   simp only[cells,Array.size_append,List.size_toArray,size_zeroCells,z3,hol,hnl,<-Nat.add_mul];congr 1;omega
  have hcell:∀b o,o<G.F b->o<G'.F b/\(w.drew.alloc (.cells cells e)).cell? ⟨b,o,none⟩=w.cell? ⟨b,o,none⟩:=fun b o ho=>by
   have hb:=hlt b o ho;exact⟨ho,by rw[World.cell?_alloc_lt w.drew _ _ hb];rfl⟩
  have hlocne:∀j,j≠id->G'.loc j=G.loc j:=fun j hj=>by
   have:Nat.beq j id=false:=by
    cases h:Nat.beq j id with
    |true=>exact absurd (xap h) hj
    |false=>rfl
   simp[G',this]
  have hlocid:G'.loc id=[w.heap.size]:=by simp[G']
  refine⟨G',hr.retok (G':=G') htok od hcell hlocne (fun b hb _=>⟨zeF (w:=w.drew) hb,rfl⟩) (fun b hb=>by rw[hlocid] at hb;simp at hb;subst hb;simp)
   (fun b hb=>by rw[hlocid] at hb;simp at hb;exact .inr od) rfl rfl rfl og (fun b hb=>?_), ?_⟩
  ·have hb':w.heap.size+1<=b:=by simpa using hb
   exact hr.top b od
  refine .gv ⟨_,_,by rw[xaa]⟩ (fun n' k' hm'=>?_);rw[hT'] at hm';cases hm'
  refine⟨by simp,fun _=>⟨hky',.inr ⟨w.heap.size,nc,cells,e,hlocid,rfl,hr.top _ (Nat.le_refl _),zew (w:=w.drew),by rw[hcs];exact Nat.le_refl _,hnc', ?_⟩⟩⟩;have:=atNew olds hol (Builtin.zeroCells z.cells (nc-(xs.length+ys.length))).toList G.F (w.drew.alloc (.cells cells e)) (fun x v h=>h.mono hcell) hold;have ec:cells=(olds++news++(Builtin.zeroCells z.cells (nc-(xs.length+ys.length))).toList).toArray:=by
   apply Array.ext';simp[cells]
  intro i hi j hj;rw[ec];exact this i hi j hj
 rcases htip with ⟨h1,h2,h3⟩|⟨b,cap,cs,et,h1,h2,h3,h4,h5,h6,h7⟩
 ·
  have hx0:xs=[]:=List.eq_nil_of_length_eq_zero h2;subst hx0;subst h3;simp only[xak,Nat.zero_add] at hb hm fresh ⊢;have hrun:=run_append_nil (P:=c.P) w t opt e i z ht.und hi1 z2 ⟨b2,off2,none⟩ ys.length cap2 news hnl' hnews hmpos od (by rw[hi3];omega);obtain⟨G',hR,hA⟩:=fresh [] (grownCap w ys.length 0 e) og (by
   have:=grownCap_ge w ys.length 0 e;omega) (fun j hj=>by simp at hj)
  simp only[List.nil_append,Array.empty_append] at hR hA hrun ⊢;exact⟨_,_,G',hrun,hR,hA⟩
 ·subst h2;have hmul:xs.length*k<=cs.size:=Nat.le_trans (xav _ h6) h5;have hold:∀i (hi:i<xs.length) j (hj:j<xs[i].length),RelD G.F w xs[i][j] ((cs.toList.take (xs.length*k)).getD (i*k+j) undef):=fun i hi j hj=>by
   have h8:xs[i].length=k:=hkx _ (xao hi);have hlt':i*k+j<xs.length*k:=by
    have:(i+1)*k<=xs.length*k:=xav _ od;rw[Nat.add_mul] at this;omega
   have:=h7 i hi j hj;have e1:(cs.toList.take (xs.length*k)).getD (i*k+j) undef=cs.getD (i*k+j) undef:=by
    have hs:i*k+j<cs.size:=by omega
    simp[List.getD,List.getElem?_take,hlt',Array.getD,hs]
   rw[e1];exact this
  by_cases hroom:xs.length+ys.length<=cap
  ·
   have hfit:xs.length*i.size+news.length<=cs.size:=by
    rw[hi2,hnl,<-Nat.add_mul];exact Nat.le_trans (xav _ hroom) h5
   have hrun:=zfI (P:=c.P) t opt e i ht.und hi1 b xs.length cap cs et h4 ⟨b2,off2,none⟩ ys.length cap2 news hnl' hnews hn1 hroom hfit;rw[hi2] at hrun hfit;let row:Array Value:=(cs.toList.take (xs.length*k)++news++cs.toList.drop (xs.length*k+news.length)).toArray
   have hrs:row.size=cs.size:=by
    simp only[row,List.size_toArray,xaa,List.length_take,List.length_drop,Array.length_toList];omega
   have hcell:∀b' o,o<G.F b'->o<G.F b'/\(w.setRow b row).cell? ⟨b',o,none⟩=w.cell? ⟨b',o,none⟩:=fun b' o ho=>by
    have hbb:b'≠b:=fun e=>by subst e;omega
    exact⟨ho,cell_setRow_other w b row _ hbb⟩
   have hbs:b<w.heap.size:=by
    rcases Nat.lt_or_ge b w.heap.size with h|h
    ·exact h
    ·rw[Array.getElem?_eq_none h] at h4;cases h4
   refine⟨_,_,G,hrun,hr.retok (G':=G) htok od hcell (fun _ _=>rfl) (fun b' hb' hn=>?_) (fun x hx=>by rw[h1] at hx;simp at hx;subst hx;simpa using hbs) (fun b' hb'=> .inl hb') rfl rfl rfl og (fun b' hb'=>?_), ?_⟩
   ·have hne:b'≠b:=fun e=>hn (by rw[h1,e];simp);exact⟨setRow_other w b b' row hne,rfl⟩
   ·have hb2':w.heap.size<=b':=by simpa using hb'
    exact hr.top b' hb2'
   ·refine .gv ⟨_,_,by rw[xaa]⟩ (fun n' k' hm'=>?_);rw[hT'] at hm';cases hm'
    refine⟨by simp,fun _=>⟨hky',.inr ⟨b,cap,row,et,h1,rfl,h3,setRow_heap w b cs row et _ h4,by rw[hrs];exact h5,hroom, ?_⟩⟩⟩;exact atNew (cs.toList.take (xs.length*k)) oq _ G.F (w.setRow b row) (fun x v h=>h.mono hcell) hold
  ·
   have hrun:=run_append_grow (P:=c.P) w t opt e i z ht.und hi1 z2 ⟨b,0,none⟩ xs.length cap (cs.toList.take (xs.length*k)) (by rw[hi2];simp;omega)
    (fun j u hj=>by
     rw[zcR];obtain⟨hj1,hj2⟩:=List.getElem?_eq_some_iff.1 hj;simp only[List.getElem_take] at hj2;have hjs:j<cs.size:=by simp at hj1;omega
     simp only[World.cell?,h4,Option.isSome_none,Bool.false_eq_true,if_false,Nat.zero_add];rw[Array.getElem?_eq_getElem hjs,<-hj2];simp) ⟨b2,off2,none⟩ ys.length cap2 news hnl' hnews od od (by rw[hi3];exact growslice_fits od hb)
   obtain⟨G',hR,hA⟩:=fresh (cs.toList.take (xs.length*k)) (grownCap w (xs.length+ys.length) cap e) oq (by have:=grownCap_ge w (xs.length+ys.length) cap e;omega) hold;exact⟨_,_,G',hrun,hR,hA⟩
theorem R.mkTokV {G:Gh}{s:St}{a:Act}{w:World} (hr:R c G s a w){id:Nat} (k:Nat) (h0:getH s.hp id=none) (hocc:zcx id s):
  ∃G',R c G' { s with hp:=(id,some (.tok 0 k))::s.hp } a w/\RelA G' (tokf ((id,some (.tok 0 k))::s.hp)) w (.gv id []) (.slice none 0 0):=by
 have h1:=hr.rename h0 hocc [];have hl:(fun i=>bif Nat.beq i id then ([]:List Nat) else G.loc i) id=[]:=by simp
 refine⟨_,h1.name h0 hocc (fun b hb=>by simp at hb) (fun i _ b _ hb=>by simp at hb) (fun b hb=>by simp at hb), ?_⟩;refine .gv ⟨none,0,I⟩ (fun n k' hT=>?_);have:=zak.1 hT;rw[zaa,if_pos rfl] at this;cases this
 exact⟨Nat.le_refl _,fun _=>⟨by simp,.inl ⟨hl,rfl,rfl⟩⟩⟩
theorem zhA {xs:List (List D)}{k:Nat} (hk:∀x,x∈xs->x.length=k){i:Nat} (hi:i<xs.length){j:Nat} (hj:j<k):(xs.flatten.map AV.d)[i*k+j]?=some (.d (xs[i][j]'(by rw[hk _ (xao hi)];exact hj))):=by
 have:=zmq hk i hi j hj;rw[List.getElem?_map,this,xan (by rw[hk _ (xao hi)];exact hj)];rfl
end
section
variable {c:Ctx}{all:Array Oper}{chk:List Rec->Prop}{os:List Oper}{recs:List Rec}{env:Env}{hp:Hp}{Q:St->Prop}
variable {d ty:Nat}{pos:String}{af:Array Edge}{g:Option (Nat×Bool)}{pg:List (Nat×AV)}
variable {t yt:TypeId}{x y:Operand}
theorem Walk.appendV {id k e yb:Nat}{xs ys:List (List D)}{vy:AV} (ht:SlT c.P t e k yb) (hz:ZeroT c.P e k) (hg:GH all env g pg) (hd:Nat.blt d c.n=true)
  (hx:opd env x=some (.gv id xs)) (hy:opd env y=some vy) (hyd:vy.toD=some (.sl ys)) (htok:getH hp id=some (.tok xs.length k)) (hky:∀y,y∈ys->y.length=k)
  (hb:(xs.length+ys.length)*yb<=140737488355328) (hm:xs.length+ys.length<=9223372036854775807)
  (hn:Walk c all chk os (zam (pg++(opF x (.gv id xs)++opF y vy)) [(id,.tok xs.length k)] [] ⟨some (d,.gv id (xs++ys)),[(id,some (.tok (xs.length+ys.length) k))]⟩::recs)
   ⟨(d,.gv id (xs++ys))::env,(id,some (.tok (xs.length+ys.length) k))::hp⟩ Q):
  Walk c all chk (⟨some d,.call ⟨.builtin .append,#[x,y],#[t,t]⟩,ty,pos,af,g⟩::os) recs ⟨env,hp⟩ Q:=by
 refine⟨pg++(opF x (.gv id xs)++opF y vy),[(id,.tok xs.length k)],[],_, ?_,zat hg.facts (zat (zaU hx) (zaU hy)),hh1 htok,by simp,hn⟩;intro s a w hrel hp' hh _ K Q' hK;obtain⟨G,hr⟩:=hrel;have e1:=hr.opd (zaX hx (fun p hm=>hp' p (by simp[hm])));have e2:=hr.opd (zaX hy (fun p hm=>hp' p (by simp[hm])));obtain⟨i,z,z1,z2,z3⟩:=hz.out;obtain⟨v',w',G',hrun,hR,hA⟩:=zhn hr ht ⟨i,z1,z2,z3⟩ (hh1' hh) e1 (e2.toD hyd) hky hb hm ty;unfold wpO;rw[if_pos (hg.gf.wanted hr (fun p hm=>hp' p (by simp[hm])))];unfold Oper.wp;have:(execOp a.eval ⟨some d,.call ⟨.builtin .append,#[x,y],#[t,t]⟩,ty,pos,af,g⟩).run c.P w = .ok (.value v') w':=by
  simp only[execOp,resolve,invoke,builtin,Sem.run_bind,Sem.run_pure,Result.andThen_ok,List.map_toArray,xaf,List.map_nil,hrun]
 rw[this,Oper.upon_value];exact hK _ _ ⟨G',hR.put hA hd⟩
theorem Walk.lenV {xs:List (List D)}{at_ e k yb id:Nat} (ht:SlT c.P at_ e k yb) (hg:GH all env g pg) (hd:Nat.blt d c.n=true) (hx:opd env x=some (.gv id xs))
  (hn:Walk c all chk os (zam (pg++opF x (.gv id xs)) [] [] ⟨some (d,.d (.i xs.length)),[]⟩::recs) ⟨(d,.d (.i xs.length))::env,hp⟩ Q):
  Walk c all chk (⟨some d,.call ⟨.builtin .len,#[x],#[at_]⟩,ty,pos,af,g⟩::os) recs ⟨env,hp⟩ Q:=
 xbK hg hd hx (fun a G T w h=>⟨.int .i64 xs.length,by
  obtain⟨⟨ad,cap,he⟩,_⟩:=h.gv_inv;simp[execOp,resolve,invoke,builtin,he,zfc ht],.d (.int _ _)⟩) hn
theorem xbI {op:Op}{xs:List Operand}{vs:List AV}{es:List (List D)}{k:Nat} (id:Nat) (hg:GH all env g pg) (hd:Nat.blt d c.n=true) (hx:opdL env xs=some vs) (hk:∀e,e∈es->e.length=k)
  (hf:zax env hp [id]=true)
  (h:∀(a:Act) (G:Gh) (T:TokF) (w:World),(vs.length=xs.length/\∀i (hi:i<vs.length) (hx:i<xs.length),RelA G T w vs[i] (a.eval xs[i]))->
   ∃us e,(execOp a.eval ⟨some d,op,ty,pos,af,g⟩).run c.P w = .ok (.value (.slice (some ⟨w.heap.size,0,none⟩) es.length es.length)) (w.alloc (.cells us e))/\us.size=es.length*k/\
    ∀i (hi:i<es.length) j (hj:j<es[i].length) (hu:i*k+j<us.size),RelD G.F w es[i][j] us[i*k+j])
  (hn:Walk c all chk os (zam (pg++opFL xs vs) [] [id] ⟨some (d,.gv id es),[(id,some (.tok es.length k))]⟩::recs) ⟨(d,.gv id es)::env,(id,some (.tok es.length k))::hp⟩ Q):
  Walk c all chk (⟨some d,op,ty,pos,af,g⟩::os) recs ⟨env,hp⟩ Q:=by
 refine⟨pg++opFL xs vs,[],[id],_, ?_,zat hg.facts (zb9 hx),by simp,zbw hf,hn⟩;intro s a w hrel hp' hh hcr K Q' hK;obtain⟨G,hr⟩:=hrel;obtain⟨h0,hocc⟩:=hcr id og;obtain⟨us,e,e1,e2,e3⟩:=h a G (tokf s.hp) w (zcJ hr (zca hx (fun p hm=>hp' p (by simp[hm]))));have hr':=(hr.alloc (.cells us e) 0).rename h0 hocc [w.heap.size];have hloc:∀i,i≠id->(bif Nat.beq i id then [w.heap.size] else G.loc i)=G.loc i:=fun i h=>by
  cases hb:Nat.beq i id with
  |true=>exact absurd (xap hb) h
  |false=>rfl
 have hR:=hr'.name (r:= .tok es.length k) h0 hocc (fun b hb=>by simp at hb;subst hb;simp) (fun i hi b hb=>by
  have hi':i≠id:=fun e=>by subst e;rw[h0] at hi;cases hi
  have hb':b∈G.loc i:=by have:=hloc i hi';simp only[this] at hb;exact hb
  obtain⟨r,hrr⟩:=Option.isSome_iff_exists.1 hi;have hlt:b<w.heap.size:=(hr.heap i r hrr).bound b hb';simp;omega) (fun b hb=>by
  simp at hb;subst hb;exact .inr hr.frm.size)
 unfold wpO;rw[if_pos (hg.gf.wanted hr (fun p hm=>hp' p (by simp[hm])))];unfold Oper.wp;rw[e1,Oper.upon_value];refine hK _ _ ⟨_,hR.put (v:= .gv id es) (.gv ⟨_,_,I⟩ (fun n k' hT=>?_)) hd⟩;have:=zak.1 hT;have h2:getH ((id,some (Res.tok es.length k))::s.hp) id=some (.tok n k'):=this;rw[zaa,if_pos rfl] at h2;cases h2
 refine⟨Nat.le_refl _,fun _=>⟨hk,.inr ⟨w.heap.size,es.length,us,e,by simp,rfl,by simp,zew,by rw[e2];exact Nat.le_refl _,Nat.le_refl _,fun i hi j hj=>?_⟩⟩⟩;have hjk:j<k:=by rw[<-hk _ (xao hi)];exact hj
 have hlt:i*k+j<us.size:=by
  have:(i+1)*k<=es.length*k:=xav _ od;rw[Nat.add_mul] at this;omega
 have h4:=e3 i hi j hj hlt;have h5:us.getD (i*k+j) undef=us[i*k+j]:=by simp[Array.getD,hlt]
 rw[h5];refine h4.mono (fun b o ho=>?_);have hb:b<w.heap.size:=by
  rcases Nat.lt_or_ge b w.heap.size with h|h
  ·exact h
  ·rw[hr.top b h] at ho;omega
 have:Nat.beq b w.heap.size=false:=by
  cases h:Nat.beq b w.heap.size with
  |true=>have:=xap h;omega
  |false=>rfl
 exact⟨by simpa [this] using ho,World.cell?_alloc_lt w _ _ hb⟩
theorem xbS {t:TypeId}{e k yb:Nat} (id:Nat) (ht:SlT c.P t e k yb) (hg:GH all env g pg) (hd:Nat.blt d c.n=true) (hfr:zax env hp [id]=true)
  (hn:Walk c all chk os (zam (pg++opFL [] []) [] [id] ⟨some (d,.gv id []),[(id,some (.tok 0 k))]⟩::recs) ⟨(d,.gv id [])::env,(id,some (.tok 0 k))::hp⟩ Q):
  Walk c all chk (⟨some d,.buildSlice t 0 #[],ty,pos,af,g⟩::os) recs ⟨env,hp⟩ Q:=by
 refine xbI (xs:=[]) (vs:=[]) (es:=[]) (k:=k) id hg hd I og hfr (fun a G T w h=>?_) hn;obtain⟨ie,hi1,hi2,hi3⟩:=ht.inf;refine⟨#[],e, ?_,by simp,fun i hi=>by simp at hi⟩;simp[execOp,Instr.buildSlice,run_underlying ht.und,sizeOf,zel hi1,Instr.fill,newRow,Array.range_zero']
end
def Res.avs:Res->List AV
 | .box cs=>cs
 | .tree cs=>cs
 |_=>[]
theorem Res.avs_ids {r:Res}{x:AV} (hx:x∈r.avs):∀id,id∈x.ids->id∈r.ids:=by
 intro id hid;cases r with
 |box cs=>exact xay hx hid
 |tree cs=>exact xay hx hid
 |_=>simp[Res.avs] at hx
structure Turn (c:Ctx) (G:Gh) (s:St) (w:World) (G':Gh) (hp':Hp) (L:List Nat):Prop where
 get:∀i,i∉L->getH hp' i=getH s.hp i
 loc:∀i,i∉L->G'.loc i=G.loc i
 fro:∀b,(∀j,j∈L->(getH s.hp j).isSome->b∉G.loc j)->G'.F b=G.F b
 fle:∀b o,o<G.F b->o<G'.F b
 ftop:∀b,w.heap.size<=b->G'.F b=0
 occ:∀i,i∈L->zcx i s\/(LocEq (tokf hp') G' G i/\∀p,tokf hp' i=some p->tokf s.hp i=some p/\∀b,b∈G.loc i->G'.F b=G.F b)
 blk:∀i,i∈L->(getH hp' i).isSome->∀b,b∈G'.loc i->∃j,j∈L/\(getH s.hp j).isSome/\b∈G.loc j
 dis:∀i,i∈L->∀j,j∈L->i≠j->(getH hp' i).isSome->(getH hp' j).isSome->∀b,b∈G'.loc i->b∉G'.loc j
 keep:∀i,i∈L->∀l,c.kept i=some l->(G'.loc i).head?=l.head?/\(getH hp' i).isSome/\tokf hp' i=none
section
variable {c:Ctx}{G G':Gh}{s:St}{a:Act}{w:World}{hp':Hp}{L:List Nat}
theorem Turn.away (h:Turn c G s w G' hp' L) (hr:R c G s a w){i:Nat} (hi:i∉L) (hs:(getH s.hp i).isSome):∀b,b∈G.loc i->G'.F b=G.F b:=
 fun b hb=>h.fro b (fun j hj hjs hbj=>hr.disj i j hs hjs (fun e=>hi (e ▸ hj)) b hb hbj)
theorem Turn.rel (h:Turn c G s w G' hp' L) (hr:R c G s a w){x:AV}{v:Value} (hx:∀i,i∈L->zcx i s->i∉x.ids) (hR:RelA G (tokf s.hp) w x v):RelA G' (tokf hp') w x v:=by
 refine hR.mono (fun b o ho=>⟨h.fle b o ho,I⟩) (fun i hi=>?_) (fun i hi p hp=>?_)
 ·by_cases hL:i∈L
  ·rcases h.occ i hL with ho|ho
   ·exact absurd hi (hx i hL ho)
   ·exact ho.1
  ·exact .inl (h.loc i hL)
 ·by_cases hL:i∈L
  ·rcases h.occ i hL with ho|ho
   ·exact absurd hi (hx i hL ho)
   ·obtain⟨h1,h2⟩:=ho.2 p hp;exact⟨h1,fun b hb=>⟨rfl,h2 b hb⟩⟩
  ·have hT:tokf s.hp i=some p:=by unfold tokf at hp ⊢;rw[h.get i hL] at hp;exact hp
   refine⟨hT,fun b hb=>⟨rfl,h.away hr hL ?_ b hb⟩⟩;obtain⟨n,k⟩:=p;rw[zak.1 hT];rfl
theorem Turn.slot (h:Turn c G s w G' hp' L) (hr:R c G s a w){t:Nat}{x:AV}{v:Value} (ht:getE s.env t=some x) (hR:RelA G (tokf s.hp) w x v):RelA G' (tokf hp') w x v:=
 h.rel hr (fun i _ ho hx=>ho.1 t x ht hx) hR
theorem Turn.cell (h:Turn c G s w G' hp' L) (hr:R c G s a w){j:Nat}{r:Res}{x:AV}{v:Value} (hj:getH s.hp j=some r) (hx:x∈r.avs) (hR:RelA G (tokf s.hp) w x v):RelA G' (tokf hp') w x v:=
 h.rel hr (fun i _ ho hi=>ho.2 j r hj (Res.avs_ids hx i hi)) hR
theorem Turn.fin (h:Turn c G s w G' hp' L) (hr:R c G s a w) (hL:∀i,i∈L->∀r,getH hp' i=some r->RelR G' (tokf hp') w i r):R c G' ⟨s.env,hp'⟩ a w:=by
 have hsome:∀i,i∉L->(getH hp' i).isSome->(getH s.hp i).isSome:=fun i hi hs=>by rw[h.get i hi] at hs;exact hs
 let own1:List Nat:=L.flatMap fun j=>if (getH s.hp j).isSome then G.loc j else []
 have hown:∀b,b∈own1↔∃j,j∈L/\(getH s.hp j).isSome/\b∈G.loc j:=fun b=>by
  simp only[own1,List.mem_flatMap];constructor
  ·rintro ⟨j,hj,hb⟩
   by_cases hs:(getH s.hp j).isSome
   ·rw[if_pos hs] at hb;exact⟨j,hj,hs,hb⟩
   ·rw[if_neg hs] at hb;simp at hb
  ·rintro ⟨j,hj,hs,hb⟩
   exact⟨j,hj,by rw[if_pos hs];exact hb⟩
 refine⟨hr.size,hr.defers,fun i v hi=>h.slot hr hi (hr.slots i v hi),fun i r hi=>?_,fun i j h1 h2 hne b hb=>?_,fun i h1 b hb=>?_,
  hr.frm.trans (own1:=own1) ⟨rfl,rfl,rfl,Nat.le_refl _,fun b _ hb=>⟨rfl,h.fro b (fun j hj hs hbj=>hb ((hown b).2 ⟨j,hj,hs,hbj⟩))⟩,fun b o ho=>⟨h.fle b o ho,rfl⟩⟩ (fun b hb=>?_),h.ftop,fun i l hl=>?_⟩
 ·by_cases hi':i∈L
  ·exact hL i hi' r hi
  ·have hg:getH s.hp i=some r:=by have:=h.get i hi';rw[<-this];exact hi
   have hh:=hr.heap i r hg;have hs:(getH s.hp i).isSome:=by rw[hg];rfl
   have hl:=h.loc i hi';have ha:=h.away hr hi' hs;cases r with
   |box cs=>
    obtain⟨b,vs,e,h1,h2,h3,h4,h5⟩:=hh;exact⟨b,vs,e,hl.trans h1,h2,h3,(ha b (by simp[h1])).trans h4,fun j hj hv=>h.cell hr hg (xao hj) (h5 j hj hv)⟩
   |tok n k=>exact fun b hb=>hh b (by rw[hl] at hb;exact hb)
   |map ks=>
    obtain⟨b,es,cl,h1,h2,h3,h4⟩:=hh;exact⟨b,es,cl,hl.trans h1,h2,(ha b (by simp[h1])).trans h3,h4⟩
   |tree cs=>exact zbh hh hl (fun b hb=>⟨I,ha b hb⟩) (Nat.le_refl _) (fun x hx v=>h.cell hr hg hx)
 ·have key:∀i j,i∈L->j∉L->(getH hp' i).isSome->(getH hp' j).isSome->∀b,b∈G'.loc i->b∉G'.loc j:=fun i j hi hj h1 h2 b hb hbj=>by
   obtain⟨i2,h3,h4,h5⟩:=h.blk i hi h1 b hb;rw[h.loc j hj] at hbj;exact hr.disj i2 j h4 (hsome j hj h2) (fun e=>hj (e ▸ h3)) b h5 hbj
  by_cases hi:i∈L<;>by_cases hj:j∈L
  ·exact h.dis i hi j hj hne h1 h2 b hb
  ·exact key i j hi hj h1 h2 b hb
  ·exact fun hbj=>key j i hj hi h2 h1 b hbj hb
  ·rw[h.loc i hi] at hb;rw[h.loc j hj];exact hr.disj i j (hsome i hi h1) (hsome j hj h2) hne b hb
 ·by_cases hi:i∈L
  ·obtain⟨j,h3,h4,h5⟩:=h.blk i hi h1 b hb;exact hr.new j h4 b h5
  ·rw[h.loc i hi] at hb;exact hr.new i (hsome i hi h1) b hb
 ·obtain⟨j,h3,h4,h5⟩:=(hown b).1 hb;exact hr.new j h4 b h5
 ·by_cases hi:i∈L
  ·exact h.keep i hi l hl
  ·have hk:=hr.kept i l hl;refine⟨by rw[h.loc i hi];exact hk.1,by rw[h.get i hi];exact hk.2.1, ?_⟩;have:=hk.2.2;unfold tokf at this ⊢;rw[h.get i hi];exact this
theorem R.slot (hr:R c G s a w){t:Nat}{x:AV} (h:RelA G (tokf s.hp) w x (a.tmps.getD t undef)):R c G ⟨(t,x)::s.env,s.hp⟩ a w:=by
 refine⟨hr.size,hr.defers,fun i v hi=>?_,hr.heap,hr.disj,hr.new,hr.frm,hr.top,hr.kept⟩;simp only[getE] at hi;cases hb:Nat.beq t i with
 |true=>
  have:=xap hb;subst this;simp only[hb,cond_true,xae] at hi;subst hi;exact h
 |false=>
  simp only[hb,cond_false] at hi;exact hr.slots i v hi
end
def ownD (m:Bool):D->AV
 | .int k n=> .d (.int k n)
 | .bool b=> .d (.bool b)
 | .str s=> .d (.str s)
 |x=> .own m x
def zbD (m:Bool) (xs:List (List D)):List AV:=xs.flatten.map (ownD m)
theorem zqz (m:Bool) (x:D):(ownD m x).ids=[]:=by cases x<;>rfl
theorem zah (m:Bool) (xs:List (List D)):AV.idsL (zbD m xs)=[]:=by
 unfold zbD;generalize xs.flatten=l;induction l with
 |nil=>rfl
 |cons x l ih=>simp[AV.idsL,zqz,ih]
theorem zfG {m:Bool}{xs:List (List D)}{k:Nat} (hk:∀x,x∈xs->x.length=k):(zbD m xs).length=xs.length*k:=by
 unfold zbD;rw[xac,zfw hk]
theorem zm8 {m:Bool}{xs:List (List D)}{k i j:Nat} (hk:∀x,x∈xs->x.length=k) (hi:i<xs.length) (hj:j<xs[i].length):
  (zbD m xs)[i*k+j]?=some (ownD m xs[i][j]):=by
 have hjk:j<k:=by rw[<-hk _ (xao hi)];exact hj
 have:=zhA (xs:=xs) hk hi hjk;simp only[zbD,List.getElem?_map] at this ⊢;revert this
 cases xs.flatten[i*k+j]? with
 |none=>simp
 |some y=>intro h;simp only[Option.map_some,xae,AV.d.injEq] at h;simp[h]
theorem CellR.ofTree {G:Gh}{T:TokF}{m:Bool}{w:World}{x:D}{v:Value}{S:List Nat} (h:TreeD m w x v S):CellR G T w (ownD m x) v S:=by
 cases h with
 |int k n=>exact⟨rfl,.d (.int _ _)⟩
 |bool b=>exact⟨rfl,.d (.bool _)⟩
 |str s=>exact⟨rfl,.d (.str _)⟩
 |nil=>exact TreeD.nil
 |emp b off s cap hm=>exact TreeD.emp b off s cap hm
 |em0 b off cap hm=>exact TreeD.em0 b off cap hm
 |sl xs k b cap cs e Ss hk hcap hb hc hr hz=>exact TreeD.sl xs k b cap cs e Ss hk hcap hb hc hr hz
def zjt:D->Bool
 | .int _ _=>true
 | .bool _=>true
 | .str _=>true
 | .sl []=>true
 |_=>false
theorem TreeD.ofFlat {m:Bool}{F:Nat->Nat}{w:World}{x:D}{v:Value} (hf:zjt x=true) (hm:m=false\/x≠ .sl []) (h:RelD F w x v):TreeD m w x v []:=by
 cases h with
 |int k n=>exact .int _ _
 |bool b=>exact .bool _
 |str s=>exact .str _
 |nil=>exact .nil
 |emp b off s cap=>exact .emp b off s cap (hm.resolve_right (fun h=>h I))
 |sl xs k b off cap c hk hcap hc hr=>
  cases xs with
  |nil=>exact .em0 b off cap (hm.resolve_right (fun h=>h I))
  |cons x r=>simp[zjt] at hf
 |ptr cs b o off c hc hr=>simp[zjt] at hf
 |nilp=>simp[zjt] at hf
theorem TreeD.weak {m:Bool}{w:World}{x:D}{v:Value}{S:List Nat} (h:TreeD m w x v S):TreeD false w x v S:=by
 induction h with
 |int k n=>exact .int _ _
 |bool b=>exact .bool _
 |str s=>exact .str _
 |nil=>exact .nil
 |emp b off s cap _=>exact .emp b off s cap I
 |em0 b off cap _=>exact .em0 b off cap I
 |sl xs k b cap cs e Ss hk hcap hb hc hr hz ih=>
  refine .sl xs k b cap cs e Ss hk hcap hb ?_ ih (fun h=>by cases h);refine Nat.le_trans (xav _ ?_) hc;cases m
  ·exact Nat.le_refl _
  ·exact hcap
def TreeOf (m:Bool) (w:World) (xs:List (List D)) (k:Nat) (vs:Array Value) (Ss:Nat->List Nat):Prop:=
 ∀i (hi:i<xs.length) j (hj:j<xs[i].length),TreeD m w xs[i][j] (vs.getD (i*k+j) undef) (Ss (i*k+j))
theorem zk2 {i n k:Nat} (h:i<n*k):i / k<n/\i % k<k/\i / k*k+i % k=i:=by
 have hk:0<k:=by
  rcases Nat.eq_zero_or_pos k with h0|h0
  ·subst h0;simp at h
  ·exact h0
 exact⟨Nat.div_lt_of_lt_mul (by rw[Nat.mul_comm];exact h),Nat.mod_lt _ hk,Nat.div_add_mod' _ _⟩
theorem znu {vs:Array Value}{i:Nat} (h:i<vs.size):vs.getD i undef=vs[i]:=by simp[Array.getD,h]
theorem TreeOf.cells {G:Gh}{T:TokF}{m:Bool}{w:World}{xs:List (List D)}{k:Nat}{vs:Array Value}{Ss:Nat->List Nat} (h:TreeOf m w xs k vs Ss) (hk:∀x,x∈xs->x.length=k):
  ∀i (hi:i<(zbD m xs).length) (hv:i<vs.size),CellR G T w (zbD m xs)[i] vs[i] (Ss i):=by
 intro i hi hv;rw[zfG hk] at hi;obtain⟨h1,h2,h3⟩:=zk2 hi;have hj:i % k<xs[i / k].length:=by rw[hk _ (xao h1)];exact h2
 have h4:=h (i / k) h1 (i % k) hj;have h5:=zm8 (m:=m) hk h1 hj;rw[h3] at h4 h5;rw[xan (by rw[zfG hk];exact hi)] at h5;rw[znu hv] at h4;rw[Option.some.inj h5];exact .ofTree h4
theorem ze4 {Ss Ss':Nat->List Nat}:∀ {l:List Nat},(l.flatMap Ss).Nodup->(∀i,i∈l->(Ss' i).Sublist (Ss i))->((l.flatMap Ss').Sublist (l.flatMap Ss))
 | [],_,_=> .slnil
 |x::l,h,hs=>by
  simp only[List.flatMap_cons] at h ⊢;exact(hs x og).append (ze4 (List.nodup_append.1 h).2.1 (fun i hi=>hs i (by simp[hi])))
theorem zg9 {Ss:Nat->List Nat}:∀ {l:List Nat} (hl:l.Nodup),(l.flatMap Ss).Nodup->∀i j,i∈l->j∈l->i≠j->∀b,b∈Ss i->b∉Ss j
 | [],_,_,i,j,hi,_,_=>by simp at hi
 |x::l,hl,h,i,j,hi,hj,hne=>by
  simp only[List.flatMap_cons,List.nodup_append,List.mem_flatMap] at h;obtain⟨h1,h2,h3⟩:=h;intro b hb hbj;rcases List.mem_cons.1 hi with e1|e1
  ·rcases List.mem_cons.1 hj with e2|e2
   ·exact hne (e1.trans e2.symm)
   ·exact h3 b (e1 ▸ hb) b ⟨j,e2,hbj⟩ I
  ·rcases List.mem_cons.1 hj with e2|e2
   ·exact h3 b (e2 ▸ hbj) b ⟨i,e1,hb⟩ I
   ·exact zg9 (List.nodup_cons.1 hl).2 h2 i j e1 e2 hne b hb hbj
theorem zjH {Ss:Nat->List Nat}:∀ {l:List Nat},(l.flatMap Ss).Nodup->∀i,i∈l->(Ss i).Nodup
 |x::l,h,i,hi=>by
  simp only[List.flatMap_cons,List.nodup_append] at h;rcases List.mem_cons.1 hi with rfl|hi
  ·exact h.1
  ·exact zjH h.2.1 i hi
section
variable {c:Ctx}{env:Env}{hp:Hp}{K:Kt}{code:Code}{ids:List Nat}
theorem zed {i j:Nat} (h:i≠j):Nat.beq i j=false:=by
 cases hb:Nat.beq i j with
 |true=>exact absurd (xap hb) h
 |false=>rfl
theorem R.split {G:Gh}{a:Act}{w:World} (hr:R c G ⟨env,hp⟩ a w){id off id':Nat}{m:Bool}{xs:List (List D)}{cs cs':List AV} (hb:getH hp id=some (.tree cs)) (hc:cs[off]?=some (.own m (.sl xs))) (hx:xs≠[])
  (hf:zax env hp [id']=true) (hput:putC cs off [.ms id' xs.length]=some cs'):∃G',R c G' ⟨env,(id',some (.tree (zbD m xs)))::(id,some (.tree cs'))::hp⟩ a w:=by
 obtain⟨h0,hocc⟩:=zbw hf id' og;obtain⟨b,vs,e,Ss,hT⟩:=hr.heap id _ hb;obtain⟨hoff,hcv⟩:=List.getElem?_eq_some_iff.1 hc;have hov:off<vs.size:=by have:=hT.len;omega
 have hcell:=hT.cell off hoff hov;rw[hcv] at hcell;have hne:id≠id':=fun e=>by subst e;have h0':getH hp id=none:=h0;rw[h0'] at hb;cases hb
 obtain⟨p1,p2,p3⟩:=zcn hput;have hTD:TreeD m w (.sl xs) vs[off] (Ss off):=hcell;generalize hv:vs[off]=v at hTD;generalize hSo:Ss off=So at hTD;cases hTD with
 |nil=>exact absurd I hx
 |emp _ _ _ _ _=>exact absurd I hx
 |em0 _ _ _ _=>exact absurd I hx
 |sl _ k b1 cap cs1 e1 Ss1 hk hcap hb1 hc1 hr1 hz1=>
  let Ss':Nat->List Nat:=fun i=>if i=off then [] else Ss i
  let G':Gh:={ G with loc:=fun i=>bif Nat.beq i id' then Ss off else bif Nat.beq i id then b::(List.range cs'.length).flatMap Ss' else G.loc i }
  have l1:G'.loc id'=Ss off:=by simp[G']
  have l2:G'.loc id=b::(List.range cs'.length).flatMap Ss':=by simp[G',zed hne]
  have l3:∀i,i≠id'->i≠id->G'.loc i=G.loc i:=fun i h1 h2=>by simp[G',zed h1,zed h2]
  have hnd:=hT.nodup;rw[hT.loc] at hnd;have hnd':=List.nodup_cons.1 hnd;have hsubS:∀x,x∈Ss off->x∈G.loc id:=fun x hx=>by
   rw[hT.loc];exact List.mem_cons_of_mem _ (List.mem_flatMap.2 ⟨off,List.mem_range.2 hoff,hx⟩)
  have hsubl:((List.range cs'.length).flatMap Ss').Sublist ((List.range cs.length).flatMap Ss):=by
   rw[p1];refine ze4 hnd'.2 (fun i hi=>?_);simp only[Ss'];split
   ·exact List.nil_sublist _
   ·exact List.Sublist.refl _
  have hsub2:∀x,x∈G'.loc id->x∈G.loc id:=fun x hx=>by
   rw[l2] at hx;rw[hT.loc];rcases List.mem_cons.1 hx with h|h
   ·simp[h]
   ·exact List.mem_cons_of_mem _ (hsubl.subset h)
  have g1:getH ((id',some (Res.tree (zbD m xs)))::(id,some (.tree cs'))::hp) id'=some (.tree (zbD m xs)):=by rw[zaa,if_pos rfl]
  have g2:getH ((id',some (Res.tree (zbD m xs)))::(id,some (.tree cs'))::hp) id=some (.tree cs'):=by rw[zaa,if_neg hne,zaa,if_pos rfl]
  have hturn:Turn c G ⟨env,hp⟩ w G' ((id',some (.tree (zbD m xs)))::(id,some (.tree cs'))::hp) [id,id']:=by
   refine⟨fun i hi=>?_,fun i hi=>?_,fun _ _=>rfl,fun _ _ h=>h,hr.top,fun i hi=>?_,fun i hi hs x hx=>?_,fun i hi j hj hij _ _ x hx=>?_,fun i hi l hl=>?_⟩
   ·simp only[List.mem_cons,xau,or_false,not_or] at hi;rw[zaa,if_neg hi.2,zaa,if_neg hi.1]
   ·simp only[List.mem_cons,xau,or_false,not_or] at hi;exact l3 i hi.2 hi.1
   ·simp only[List.mem_cons,xau,or_false] at hi;rcases hi with rfl|rfl
    ·right
     have ht:tokf ((id',some (Res.tree (zbD m xs)))::(i,some (.tree cs'))::hp) i=none:=by unfold tokf;rw[g2]
     refine⟨.inr ⟨ht,by rw[l2,hT.loc];rfl⟩,fun p hp=>by rw[ht] at hp;cases hp⟩
    ·exact .inl hocc
   ·simp only[List.mem_cons,xau,or_false] at hi;have hs':(getH hp id).isSome:=by rw[hb];rfl
    rcases hi with rfl|rfl
    ·exact⟨i,by simp,hs',hsub2 x hx⟩
    ·rw[l1] at hx;exact⟨id,by simp,hs',hsubS x hx⟩
   ·simp only[List.mem_cons,xau,or_false] at hi hj;have key:∀x,x∈Ss off->x∉G'.loc id:=by
     intro x hx hx2;rw[l2] at hx2;rcases List.mem_cons.1 hx2 with h|h
     ·exact hnd'.1 (List.mem_flatMap.2 ⟨off,List.mem_range.2 hoff,h ▸ hx⟩)
     ·obtain⟨j,hj,hxj⟩:=List.mem_flatMap.1 h;simp only[Ss'] at hxj;split at hxj
      ·simp at hxj
      ·rename_i hjo;exact zg9 List.nodup_range hnd'.2 off j (List.mem_range.2 hoff) (by rw[p1] at hj;exact hj) (Ne.symm hjo) x hx hxj
    rcases hi with rfl|rfl<;>rcases hj with rfl|rfl
    ·exact absurd I hij
    ·rw[l1];exact fun h=>key x h hx
    ·rw[l1] at hx;exact key x hx
    ·exact absurd I hij
   ·simp only[List.mem_cons,xau,or_false] at hi;have hk0:=hr.kept i l hl;rcases hi with rfl|rfl
    ·refine⟨?_,by rw[g2];rfl,by unfold tokf;rw[g2]⟩;rw[l2,<-hk0.1,hT.loc];rfl
    ·have h0':getH hp i=none:=h0;have:=hk0.2.1;rw[show(⟨env,hp⟩:St).hp=hp from rfl,h0'] at this;cases this
  refine⟨G',hturn.fin hr (fun i hi r hri=>?_)⟩;simp only[List.mem_cons,xau,or_false] at hi;rcases hi with rfl|rfl
  ·rw[g2] at hri;cases hri
   refine⟨b,vs,e,Ss',l2,hT.at_,by rw[p1];exact hT.len, ?_,fun x hx=>hT.mine x (hsub2 x hx),fun j hj hjv=>?_⟩
   ·rw[l2];exact List.nodup_cons.2 ⟨fun h=>hnd'.1 (hsubl.subset h),hsubl.nodup hnd'.2⟩
   ·have h3:=p3 j;rw[xan hj] at h3;by_cases hjo:j=off
    ·subst hjo;rw[if_pos og] at h3;simp only[Nat.sub_self,List.getElem?_cons_zero,xae] at h3;rw[h3,hv];refine⟨by simp[Ss'],.ms (b:=b1) ?_ ?_ hcap⟩
     ·rw[l1,hSo];rfl
     ·unfold tokf;rw[g1]
    ·rw[if_neg (by simp only[xab,xak];omega)] at h3;have hjc:j<cs.length:=by omega
     rw[xan hjc] at h3;rw[Option.some.inj h3];have h4:=hT.cell j hjc hjv;have h5:Ss' j=Ss j:=by simp[Ss',hjo]
     rw[h5];exact h4.map (hturn.cell hr hb (xao hjc)) (fun _ _=>rfl)
  ·rw[g1] at hri;cases hri
   have hlen:(zbD m xs).length=xs.length*k:=zfG hk;have hle:xs.length*k<=cs1.size:=by
    refine Nat.le_trans (xav _ ?_) hc1;cases m
    ·exact Nat.le_refl _
    ·exact hcap
   refine⟨b1,cs1,e1,Ss1,by rw[l1,hSo,hlen],hb1,by rw[hlen];exact hle, ?_,fun x hx=>?_,TreeOf.cells hr1 hk⟩
   ·rw[l1];exact zjH hnd'.2 off (List.mem_range.2 hoff)
   ·rw[l1] at hx;exact hT.mine x (hsubS x hx)
theorem CWp.split (id off id':Nat){m:Bool}{xs:List (List D)}{cs cs':List AV} (hb:getH hp id=some (.tree cs)) (hc:cs[off]?=some (.own m (.sl xs))) (hx:xs≠[])
  (hf:zax env hp [id']=true) (hput:putC cs off [.ms id' xs.length]=some cs')
  (hn:CWp c code ⟨env,(id',some (.tree (zbD m xs)))::(id,some (.tree cs'))::hp⟩ K):CWp c code ⟨env,hp⟩ K:=by
 rintro a w ⟨G,hr⟩
 obtain⟨G',h⟩:=hr.split hb hc hx hf hput;exact hn a w ⟨G',h⟩
def upC (m:Bool):AV->AV
 | .d (.sl [])=> .own m (.sl [])
 | .nils=> .own m (.sl [])
 |x=>x
end
section
variable {c:Ctx}{all:Array Oper}{chk:List Rec->Prop}{os:List Oper}{recs:List Rec}{env:Env}{hp:Hp}{Q:St->Prop}
variable {d ty:Nat}{pos:String}{af:Array Edge}{g:Option (Nat×Bool)}{pg:List (Nat×AV)}
variable {t k id off:Nat}{x y:Operand}
theorem TreeR.head {G:Gh}{T:TokF}{w:World}{id:Nat}{cs:List AV}{b b':Nat}{vs:Array Value}{e:TypeId}{Ss:Nat->List Nat} (h:TreeR G T w id cs b vs e Ss) (h2:(G.loc id).head?=some b'):b'=b:=by
 rw[h.loc] at h2;exact(Option.some.inj h2).symm
end
mutual
inductive Lent (lr:List (Nat×Res)):AV->AV->Prop
 |le {x y} (h:LeA x y):Lent lr x y
 |ms {id n m k}{xs:List (List D)} (hb:(id,.tree (zbD m xs))∈lr) (hk:∀x,x∈xs->x.length=k) (hn:n=xs.length):Lent lr (.ms id n) (.d (.sl xs))
 |msB {id n k}{cs:List AV}{xs:List (List D)} (hb:(id,.box cs)∈lr) (hk:∀x,x∈xs->x.length=k) (hn:n=xs.length) (hc:cs.take (n*k)=xs.flatten.map .d):Lent lr (.ms id n) (.d (.sl xs))
 |agg {cs ds} (h:LentL lr cs ds):Lent lr (.agg cs) (.agg ds)
inductive LentL (lr:List (Nat×Res)):List AV->List AV->Prop
 |nil:LentL lr [] []
 |cons {x y l m} (h:Lent lr x y) (t:LentL lr l m):LentL lr (x::l) (y::m)
end
theorem LentL.len {lr:List (Nat×Res)}:∀ {cs ds:List AV},LentL lr cs ds->cs.length=ds.length
 | [],_,h=>by cases h;rfl
 |x::r,_,h=>by cases h with|cons h t=>simp[t.len]
theorem LentL.at {lr:List (Nat×Res)}:∀ {cs ds:List AV},LentL lr cs ds->∀i (hi:i<cs.length) (hj:i<ds.length),Lent lr cs[i] ds[i]
 | [],_,_,i,hi,_=>by simp at hi
 |x::r,_,h,i,hi,hj=>by
  cases h with
  |cons h t=>
   cases i with
   |zero=>exact h
   |succ i=>exact LentL.at t i (by simpa using hi) (by simpa using hj)
def zio:D->Bool
 | .int _ _=>true
 | .bool _=>true
 | .str _=>true
 |_=>false
theorem zjS {x:D} (h:zio x=true):zjt x=true/\x≠ .sl []:=by
 cases x with
 |sl _=>simp[zio] at h
 |ptr _ _=>simp[zio] at h
 |nilp=>simp[zio] at h
 |_=>exact⟨rfl,fun h=>by cases h⟩
def FlatR (xs:List (List D)):Prop:=∀x,x∈xs->∀y,y∈x->zio y=true
theorem TipV.tree {G:Gh}{w:World}{id n k:Nat}{v:Value}{xs:List (List D)} (hf:FlatR xs) (hne:n≠0) (hk:∀x,x∈xs->x.length=k) (h:TipV G w id n k v xs):TipT G w id n k v xs:=by
 rcases h with ⟨h1,h2,h3⟩|⟨b,cap,cs,e,h1,h2,h3,h4,h5,h6,h7⟩
 ·exact .inl ⟨h1,h2,h3⟩
 ·refine .inr ⟨b,cap,cs,e,fun _=>[],by rw[h1];simp,h2,h4,h5,h6,by rw[h1];simp,fun b' hb'=>?_,fun i hi j hj=> .ofFlat (zjS (hf _ (xao hi) _ (xao hj))).1 (.inr (zjS (hf _ (xao hi) _ (xao hj))).2) (h7 i hi j hj),fun h=>absurd h hne⟩;rw[h1] at hb';simp only[List.mem_singleton] at hb';rw[hb'];exact h3
def SubO:List Nat->Hp->Hp->Prop
 |_,[],_=>True
 |seen,(i,r)::t,hp=>(zaG i seen=true\/getH hp i=r)/\SubO (i::seen) t hp
theorem SubO.get':∀ {l hp:Hp}{seen:List Nat},SubO seen l hp->∀id r,id∉seen->getH l id=some r->getH hp id=some r
 | [],hp,seen,_,id,r,_,h=>by cases h
 |(i,x)::t,hp,seen,h,id,r,hns,hg=>by
  rw[zaa] at hg;by_cases hi:id=i
  ·subst hi;rw[if_pos rfl] at hg;rcases h.1 with h1|h1
   ·exact absurd (zaw.1 h1) hns
   ·rw[h1];exact hg
  ·rw[if_neg hi] at hg;exact SubO.get' h.2 id r (by simp[hi,hns]) hg
theorem SubO.get {l hp:Hp} (h:SubO [] l hp):HSub l hp:=fun id r hg=>SubO.get' h id r og hg
theorem HSub.over {i:Nat}{r r':Option Res}{hp:Hp} (h:getH hp i=r'):HSub ([(i,r')]++[(i,r)]) hp:=fun id x hx=>by
 have hx':getH ((i,r')::[(i,r)]) id=some x:=hx;rw[zaa] at hx';by_cases hi:id=i
 ·subst hi;rw[if_pos rfl] at hx';rw[h];exact hx'
 ·rw[if_neg hi,zaa,if_neg hi] at hx';cases hx'
theorem zar (n:Nat) (zs:List AV):AV.idsL (zbI n zs)=(List.replicate n (AV.idsL zs)).flatten:=by
 induction n with
 |zero=>rfl
 |succ n ih=>simp only[zbI,zai,ih,List.replicate_succ,List.flatten_cons]
theorem zaO (n:Nat):(List.replicate n ([]:List Nat)).flatten=[]:=by
 induction n with
 |zero=>rfl
 |succ n ih=>simp only[List.replicate_succ,List.flatten_cons,ih,List.nil_append]
theorem LeA.msn {id n n':Nat} (h:n=n'):LeA (.ms id n) (.ms id n'):=h ▸ .refl _
def mkL {α:Type} (one:Int->α->α) (sz:α->Int):Int->List α->List α
 |_,[]=>[]
 |k,x::r=>one k x::mkL one sz (k+sz x) r
def szL {α:Type} (sz:α->Int):List α->Int
 | []=>0
 |x::r=>sz x+szL sz r
def zfZ:List (List D)->Option (List Int)
 | []=>some []
 | [.int .u8 n]::r=>match zfZ r with|some l=>some (n::l)|none=>none
 |_=>none
theorem zjJ:∀ {xs:List (List D)}{ns:List Int},zfZ xs=some ns->xs=ns.map fun n=>[.int .u8 n]
 | [],ns,h=>by simp only[zfZ,xae] at h;subst h;rfl
 |x::r,ns,h=>by
  unfold zfZ at h;split at h
  ·cases ‹_::_=[]›
  ·rename_i n r' he;cases he
   cases hr:zfZ r with
   |none=>simp[hr] at h
   |some l=>
    simp only[hr,xae] at h;subst h;rw[zjJ hr];rfl
  ·cases h
theorem zf0:∀(bs:List UInt8),zfZ (bs.map fun b=>[.int .u8 (b.toNat:Int)])=some (bs.map fun b=>(b.toNat:Int))
 | []=>rfl
 |b::r=>by simp only[xaf,zfZ,zf0 r]
def strN (ns:List Int):List UInt8:=ns.map fun n=>UInt8.ofNat n.toNat
section
variable {c:Ctx}{all:Array Oper}{chk:List Rec->Prop}{os:List Oper}{recs:List Rec}{env:Env}{hp:Hp}{Q:St->Prop}
variable {d ty:Nat}{pos:String}{af:Array Edge}{g:Option (Nat×Bool)}{pg:List (Nat×AV)}
variable {t yt:TypeId}{x y:Operand}
theorem xbo {e yb:Nat}{xs:List (List D)}{ns:List Int}{vx:AV} (ht:SlT c.P t e 1 yb) (hyt:c.P.underlying yt=some .string) (hu:c.P.underlying e=some (.int .u8)) (hg:GH all env g pg) (hd:Nat.blt d c.n=true)
  (hx:opd env x=some vx) (hv:vx.toD=some (.sl xs)) (hns:zfZ xs=some ns)
  (hn:Walk c all chk os (zam (pg++opF x vx) [] [] ⟨some (d,.d (.str (strN ns))),[]⟩::recs) ⟨(d,.d (.str (strN ns)))::env,hp⟩ Q):
  Walk c all chk (⟨some d,.convert t yt x,ty,pos,af,g⟩::os) recs ⟨env,hp⟩ Q:=
 xbK hg hd hx (fun a G T w h=>⟨.string ⟨(strN ns).toArray⟩,by
  have h1:=h.toD hv;have hxs:=zjJ hns;subst hxs;rcases h1.sl_cells (k:=1) (by intro e he;obtain⟨n,_,rfl⟩:=List.mem_map.1 he;rfl) with ⟨oa,cap,h2,h3,h4⟩|⟨b,off,cap,news,h2,h3,h4,h5,h6,h7⟩
  ·have hn0:ns=[]:=by simpa using h3
   subst hn0;cases oa with
   |none=>
    have:=run_convert_bytes_nil (P:=c.P) w t e ht.und hu 0 cap yt hyt;simp only[execOp,h2,Sem.run_bind,this,Result.andThen_ok,Sem.run_pure];rfl
   |some ad=>
    have h8:(loadCells ad 0).run c.P w = .ok (([]:List Int).map (Value.int .u8)).toArray w:=run_loadCells_list (P:=c.P) w ad [] (fun j v hj=>by simp at hj);have h9:=run_bytesToString (P:=c.P) w ad 0 cap [] h8;have:=run_convert_bytes_string (P:=c.P) w t yt e (some ad) 0 cap ht.und hu hyt;rw[h9] at this;simp only[execOp,h2,Sem.run_bind,this,Result.andThen_ok,Sem.run_pure];rfl
  ·have hlen:ns.length=(ns.map fun n=>[D.int .u8 n]).length:=by simp
   have:=run_convert_bytes_arg (P:=c.P) w t e ht.und hu b off _ cap ns hlen (fun i hi=>by
    have hi':i<ns.length:=by simpa using hi
    have hin:i<news.length:=by rw[h4];simpa using hi'
    have h8:=(h5 i _ (xan hin)).2;rw[h8];have h9:=h7 i hi 0 og (by simpa using hin);simp only[List.getElem_map,List.getElem_cons_zero,Nat.mul_one,Nat.add_zero] at h9;generalize news[i]=u at h9;cases h9
    simp[List.getD,xan hi']) yt hyt
   simp only[execOp,h2,Sem.run_bind,this,Result.andThen_ok,Sem.run_pure];rfl,.d (.str _)⟩) hn
theorem xbT {t:TypeId}{parts:Array (Nat×Operand)}{n:Nat}{ks:List Nat}{xs:List Operand}{vs zs r:List AV}{es:List (List D)}{e k yb:Nat} (id:Nat) (ht:SlT c.P t e k yb) (hz:TyZ c.P e k zs) (hzk:zs.length=k) (hk:0<k)
  (hparts:parts=(ks.zip xs).toArray) (hlen:ks.length=xs.length) (hsmall:n*k<=16777216) (hpos:0<n) (hg:GH all env g pg) (hd:Nat.blt d c.n=true) (hx:opdL env xs=some vs)
  (hf:ze8 (fun i=>some (i*k,k)) (zbI n zs) (ks.zip vs)=some r) (hc:zbY n k r=some es) (hfr:zax env hp [id]=true)
  (hn:Walk c all chk os (zam (pg++opFL xs vs) [] [id] ⟨some (d,.gv id es),[(id,some (.tok es.length k))]⟩::recs) ⟨(d,.gv id es)::env,(id,some (.tok es.length k))::hp⟩ Q):
  Walk c all chk (⟨some d,.buildSlice t n parts,ty,pos,af,g⟩::os) recs ⟨env,hp⟩ Q:=by
 subst hparts;obtain⟨c1,c2,c3,c4⟩:=zeH hc;refine xbI id hg hd hx c2 hfr (fun a G T w h=>?_) hn;obtain⟨ie,hi1,hi2,hi3⟩:=ht.inf;obtain⟨i',z,z1,z2,z3,z4⟩:=hz.inf;rw[hi1] at z1;cases z1
 have hz0:=zcS (G:=G) (T:=T) (w:=w) z4;have hzr:=zib (by simpa using hz0) n od;obtain⟨lv,hlv,hal⟩:=ze9 (ks.zip vs) (ks.zip (xs.map a.eval)) _ r _ hf hzr (by simp[h.1]) (zoB h hlen);have hpos':¬n*ie.size=0:=by rw[hi2];exact Nat.ne_of_gt (Nat.mul_pos hpos hk)
 have hrun:=run_buildSlice (P:=c.P) w t e n ((ks.zip xs).toArray.map fun(i,x)=>(i,a.eval x)) lv ie z ht.und hi1 z3 (by rw[hi2];omega) hpos' (by
  rw[hi2,<-hlv];congr 1
  ·rw[hzk]
  ·simp[List.zip_map_right,Prod.map])
 refine⟨lv,e, ?_,by rw[hal.size,c3,c1],fun i hi j hj hu=>?_⟩
 ·rw[c1];simp only[execOp,Sem.run_bind,hrun,Result.andThen_ok,Sem.run_pure]
 ·have hl:i*k+j<r.length:=by rw[<-hal.size];exact hu
  exact(hal.rel _ hl hu).toD (c4 i hi j hj hl)
end
mutual
def renA (i j:Nat):AV->AV
 | .ms a n=>if a=i then .ms j n else .ms a n
 | .agg cs=> .agg (renL i j cs)
 | .tup cs=> .tup (renL i j cs)
 |x=>x
def renL (i j:Nat):List AV->List AV
 | []=>[]
 |x::r=>renA i j x::renL i j r
end
def zaT (i:Nat):AV->Bool
 | .ms a _=>Nat.beq a i
 | .d _=>true
 | .nils=>true
 | .agg cs=>soleL cs
 | .tup cs=>soleL cs
 |_=>false
where soleL:List AV->Bool
 | []=>true
 |x::r=>zaT i x&&soleL r
mutual
theorem zpK (i j:Nat):∀ {x:AV},zaT i x=true->renA j i (renA i j x)=x
 | .ms a n,h=>by
  simp only[zaT] at h;have:=xap h;subst this;simp[renA]
 | .d _,_=>rfl
 | .nils,_=>rfl
 | .agg cs,h=>by
  simp only[zaT] at h;simp only[renA,zhY i j h]
 | .tup cs,h=>by
  simp only[zaT] at h;simp only[renA,zhY i j h]
 | .sn _,h=>by simp[zaT] at h
 | .gl _ _,h=>by simp[zaT] at h
 | .gv _ _,h=>by simp[zaT] at h
 | .gt _ _,h=>by simp[zaT] at h
 | .ref _ _,h=>by simp[zaT] at h
 | .mo _ _ _,h=>by simp[zaT] at h
 | .mc _ _ _,h=>by simp[zaT] at h
 | .ga _ _ _ _,h=>by simp[zaT] at h
 | .gp _ _ _ _ _ _,h=>by simp[zaT] at h
 | .ght _ _,h=>by simp[zaT] at h
 | .gh _ _,h=>by simp[zaT] at h
 | .mapr _,h=>by simp[zaT] at h
 | .fn _ _,h=>by simp[zaT] at h
 | .own _ _,h=>by simp[zaT] at h
 | .any,h=>by simp[zaT] at h
theorem zhY (i j:Nat):∀ {l:List AV},zaT.soleL i l=true->renL j i (renL i j l)=l
 | [],_=>rfl
 |x::r,h=>by
  simp only[zaT.soleL,xad] at h;simp only[renL,zpK i j h.1,zhY i j h.2]
end
mutual
theorem zpU (i j:Nat):∀ {x:AV},zaT i x=true->zaT j (renA i j x)=true
 | .ms a n,h=>by
  simp only[zaT] at h;have:=xap h;subst this;simp[renA,zaT]
 | .d _,_=>rfl
 | .nils,_=>rfl
 | .agg cs,h=>by
  simp only[zaT] at h;simp only[renA,zaT,zh2 i j h]
 | .tup cs,h=>by
  simp only[zaT] at h;simp only[renA,zaT,zh2 i j h]
 | .sn _,h=>by simp[zaT] at h
 | .gl _ _,h=>by simp[zaT] at h
 | .gv _ _,h=>by simp[zaT] at h
 | .gt _ _,h=>by simp[zaT] at h
 | .ref _ _,h=>by simp[zaT] at h
 | .mo _ _ _,h=>by simp[zaT] at h
 | .mc _ _ _,h=>by simp[zaT] at h
 | .ga _ _ _ _,h=>by simp[zaT] at h
 | .gp _ _ _ _ _ _,h=>by simp[zaT] at h
 | .ght _ _,h=>by simp[zaT] at h
 | .gh _ _,h=>by simp[zaT] at h
 | .mapr _,h=>by simp[zaT] at h
 | .fn _ _,h=>by simp[zaT] at h
 | .own _ _,h=>by simp[zaT] at h
 | .any,h=>by simp[zaT] at h
theorem zh2 (i j:Nat):∀ {l:List AV},zaT.soleL i l=true->zaT.soleL j (renL i j l)=true
 | [],_=>rfl
 |x::r,h=>by
  simp only[zaT.soleL,xad] at h;simp only[renL,zaT.soleL,zpU i j h.1,zh2 i j h.2,Bool.and_self]
end
mutual
def frzA (x:D):AV->AV
 | .ms _ _=> .d x
 | .agg cs=> .agg (frzL x cs)
 | .tup cs=> .tup (frzL x cs)
 |y=>y
def frzL (x:D):List AV->List AV
 | []=>[]
 |y::r=>frzA x y::frzL x r
end
theorem zfy (x:D):∀l:List AV,(frzL x l).length=l.length
 | []=>rfl
 |y::r=>by simp[frzL,zfy x r]
theorem zkr (x:D):∀(l:List AV) (q:Nat) (h:q<l.length) (h':q<(frzL x l).length),(frzL x l)[q]=frzA x l[q]
 |y::r,0,_,_=>rfl
 |y::r,q+1,h,h'=>by simp only[frzL,List.getElem_cons_succ];exact zkr x r q (by simpa using h) (by simpa [frzL] using h')
def zlS (i n:Nat):AV->Prop
 | .ms a m=>a=i/\m=n
 | .d _=>True
 | .nils=>True
 | .agg cs=>soleNL i n cs
 | .tup cs=>soleNL i n cs
 |_=>False
where soleNL (i n:Nat):List AV->Prop
 | []=>True
 |x::r=>zlS i n x/\soleNL i n r
theorem zh3 (i n:Nat):∀ {l:List AV},zlS.soleNL i n l->∀q (h:q<l.length),zlS i n l[q]
 |x::r,hs,q,h=>by
  cases q with
  |zero=>exact hs.1
  |succ q=>exact zh3 i n hs.2 q (by simpa using h)
theorem RelA.frz {G G':Gh}{T T':TokF}{w:World}{i n:Nat}{x:AV}{v:Value}{d:D} (h:RelA G T w x v) (hF:∀b o,o<G.F b->o<G'.F b) (hms:∀v,RelA G T w (.ms i n) v->RelD G'.F w d v):zlS i n x->RelA G' T' w (frzA d x) v:=by
 induction h with
 |d h=>intro _;exact .d (h.mono (fun b o ho=>⟨hF b o ho,I⟩))
 | @ms a m b cap h hT hc=>
  intro hs;obtain⟨rfl,rfl⟩:=hs;exact .d (hms _ (.ms h hT hc))
 | @agg cs vs hn h ih=>
  intro hs;simp only[frzA];exact .agg (by rw[zfy];exact hn) (fun q hq hv=>by
   have hq':q<cs.length:=by rw[zfy] at hq;exact hq
   rw[zkr d cs q hq' hq];exact ih q hq' hv (zh3 i n hs q hq'))
 | @tup cs vs hn h ih=>
  intro hs;simp only[frzA];exact .tup (by rw[zfy];exact hn) (fun q hq hv=>by
   have hq':q<cs.length:=by rw[zfy] at hq;exact hq
   rw[zkr d cs q hq' hq];exact ih q hq' hv (zh3 i n hs q hq'))
 |nils=>intro _;exact .nils
 |_=>intro hs;exact hs.elim
def xorV (m n:Int):Int:=IntKind.i64.wrap ((BitVec.ofInt 64 m ^^^ BitVec.ofInt 64 n).toNat:Int)
theorem zr4 {m n:Int} (hm:0<=m/\m<4611686018427387904) (hn:0<=n/\n<4611686018427387904):0<=xorV m n/\xorV m n<4611686018427387904:=by
 obtain⟨a,rfl⟩:=Int.eq_ofNat_of_zero_le hm.1;obtain⟨b,rfl⟩:=Int.eq_ofNat_of_zero_le hn.1;have ha:a<2 ^ 62:=by have:=hm.2;omega
 have hb:b<2 ^ 62:=by have:=hn.2;omega
 have h1:(BitVec.ofInt 64 (a:Int) ^^^ BitVec.ofInt 64 (b:Int)).toNat=a ^^^ b:=by
  rw[BitVec.toNat_xor,BitVec.toNat_ofInt,BitVec.toNat_ofInt];have e1:((a:Int) % ((2 ^ 64:Nat):Int)).toNat=a:=by
   have:(a:Int) % ((2 ^ 64:Nat):Int)=a:=Int.emod_eq_of_lt od od;rw[this];simp
  have e2:((b:Int) % ((2 ^ 64:Nat):Int)).toNat=b:=by
   have:(b:Int) % ((2 ^ 64:Nat):Int)=b:=Int.emod_eq_of_lt od od;rw[this];simp
  rw[e1,e2]
 have h2:a ^^^ b<2 ^ 62:=Nat.xor_lt_two_pow ha hb;unfold xorV;rw[h1,zbU od];omega
section
variable {c:Ctx}{all:Array Oper}{chk:List Rec->Prop}{os:List Oper}{recs:List Rec}{env:Env}{hp:Hp}{Q:St->Prop}
variable {d ty:Nat}{pos:String}{af:Array Edge}{g:Option (Nat×Bool)}{pg:List (Nat×AV)}
variable {t yt:TypeId}{x y:Operand}{m n:Int}
theorem Walk.xorI (hg:GH all env g pg) (hd:Nat.blt d c.n=true) (hx:opd env x=some (.d (.int .i64 m))) (hy:opd env y=some (.d (.int .i64 n)))
  (hn:Walk c all chk os (zam (pg++(opF x (.d (.int .i64 m))++opF y (.d (.int .i64 n)))) [] [] ⟨some (d,.d (.int .i64 (xorV m n))),[]⟩::recs) ⟨(d,.d (.int .i64 (xorV m n)))::env,hp⟩ Q):
  Walk c all chk (⟨some d,.binOp .xor t x y yt,ty,pos,af,g⟩::os) recs ⟨env,hp⟩ Q:=
 xbm hg hd hx hy (fun w=>⟨.int .i64 (xorV m n),by rw[binOp_xor];rfl,fun F=> .int _ _⟩) hn
end
def zii (i j:Nat):Env->Env
 | []=>[]
 |(k,v)::r=>(k,bif zaG i v.ids then .any else bif zaG j v.ids then .any else v)::zii i j r
theorem zlf {i j:Nat}:∀ {l:Env}{t:Nat}{v:AV},getE (zii i j l) t=some v->∃u,getE l t=some u/\(v = .any\/(v=u/\i∉u.ids/\j∉u.ids))
 | [],_,_,h=>by simp[zii,getE] at h
 |(k,x)::r,t,v,h=>by
  simp only[zii,getE] at h ⊢;cases hb:Nat.beq k t with
  |true=>
   simp only[hb,cond_true,xae] at h;refine⟨x,by simp, ?_⟩;cases h1:zaG i x.ids with
   |true=>left;rw[h1] at h;exact h.symm
   |false=>
    cases h2:zaG j x.ids with
    |true=>left;rw[h1,h2] at h;exact h.symm
    |false=>
     right
     rw[h1,h2] at h;refine⟨h.symm,fun hm=>?_,fun hm=>?_⟩
     ·rw[zaw.2 hm] at h1;cases h1
     ·rw[zaw.2 hm] at h2;cases h2
  |false=>
   simp only[hb,cond_false] at h;obtain⟨u,h1,h2⟩:=zlf h;exact⟨u,by simpa using h1,h2⟩
theorem RelA.gl_move {G G':Gh}{T T':TokF}{w:World}{i j n k:Nat}{xs:List (List D)}{v:Value} (h:RelA G T w (.gl i xs) v) (hT:T i=some (n,k)) (hF:G'.F=G.F) (hl:G'.loc j=G.loc i) (hT':T' j=some (n,k)):RelA G' T' w (.gl j xs) v:=by
 generalize hx:AV.gl i xs=x at h;cases h with
 | @gl id ys v h ht=>
  cases hx
  refine .gl (h.mono (fun b o ho=>⟨by rw[hF];exact ho,I⟩)) (fun n' k' he=>?_);rw[hT'] at he;cases he
  obtain⟨h1,h2⟩:=ht _ _ hT;refine⟨h1,fun hn=>?_⟩;obtain⟨h3,h4⟩:=h2 hn;refine⟨h3, ?_⟩;rcases h4 with ⟨a1,a2,a3⟩|⟨b,cap,cs,e,a1,a2,a3,a4⟩
  ·exact .inl ⟨hl.trans a1,a2,a3⟩
  ·exact .inr ⟨b,cap,cs,e,hl.trans a1,a2,by rw[hF];exact a3,a4⟩
 |_=>cases hx
section
variable {c:Ctx}{env:Env}{hp:Hp}{K:Kt}{code:Code}
theorem CWp.retok (t j i:Nat){n k:Nat}{ys:List (List D)} (ht:getE env t=some (.gl j ys)) (hi:getH hp i=none) (hj:getH hp j=some (.tok n k)) (o1:occH i hp=false) (o2:occH j hp=false)
  (hn:CWp c code ⟨(t,.gl i ys)::zii i j env,(i,some (.tok n k))::(j,none)::hp⟩ K):CWp c code ⟨env,hp⟩ K:=by
 rintro a w ⟨G,hr⟩
 have hne:i≠j:=fun e=>by subst e;rw[hi] at hj;cases hj
 let hp':Hp:=(i,some (.tok n k))::(j,none)::hp
 let G':Gh:={ G with loc:=fun x=>bif Nat.beq x i then G.loc j else G.loc x }
 have l1:G'.loc i=G.loc j:=by simp[G']
 have l2:∀x,x≠i->G'.loc x=G.loc x:=fun x h=>by simp[G',zed h]
 have g1:getH hp' i=some (.tok n k):=by simp[hp',getH]
 have g2:getH hp' j=none:=by
  show getH ((i,some (.tok n k))::(j,none)::hp) j=none
  rw[zaa,if_neg (fun e=>hne e.symm),zaa,if_pos rfl]
 have g3:∀x,x≠i->x≠j->getH hp' x=getH hp x:=fun x h1 h2=>by
  show getH ((i,some (.tok n k))::(j,none)::hp) x=_
  rw[zaa,if_neg h1,zaa,if_neg h2]
 have hTj:tokf hp j=some (n,k):=zak.2 hj;have hTi:tokf hp' i=some (n,k):=zak.2 g1;have hm:∀ {x:AV}{v:Value},i∉x.ids->j∉x.ids->RelA G (tokf hp) w x v->RelA G' (tokf hp') w x v:=fun hx1 hx2 hx=>
  hx.mono (fun _ _ ho=>⟨ho,rfl⟩) (fun id hid=> .inl (l2 id (fun e=>hx1 (e ▸ hid)))) (fun id hid p hp2=>⟨by
   have e1:id≠i:=fun e=>hx1 (e ▸ hid);have e2:id≠j:=fun e=>hx2 (e ▸ hid);unfold tokf at hp2 ⊢;rw[g3 id e1 e2] at hp2;exact hp2,fun _ _=>⟨I,I⟩⟩)
 have cases3:∀x (r:Res),getH hp' x=some r->(x=i/\r = .tok n k)\/(x≠i/\x≠j/\getH hp x=some r):=fun x r h=>by
  by_cases e1:x=i
  ·subst e1;rw[g1] at h;cases h;exact .inl ⟨I,I⟩
  ·by_cases e2:x=j
   ·subst e2;rw[g2] at h;cases h
   ·rw[g3 x e1 e2] at h;exact .inr ⟨e1,e2,h⟩
 have src:∀x,(getH hp' x).isSome->∃y,(getH hp y).isSome/\G'.loc x=G.loc y/\(y=j/\x=i\/y=x/\x≠j/\x≠i):=fun x h=>by
  obtain⟨r,hx⟩:=Option.isSome_iff_exists.1 h;rcases cases3 x r hx with ⟨rfl,_⟩|⟨e1,e2,h3⟩
  ·exact⟨j,by rw[hj];rfl,l1,.inl ⟨rfl,rfl⟩⟩
  ·exact⟨x,by rw[h3];rfl,l2 x e1,.inr ⟨rfl,e2,e1⟩⟩
 have nocc:∀ {id x:Nat}{r:Res},occH id hp=false->getH hp x=some r->id∉r.ids:=fun h1 h2=>zfb h1 _ _ (zch h2);refine hn a w ⟨G',hr.size,hr.defers,fun x v hx=>?_,fun x r hx=>?_,fun x y h1 h2 hxy b hb=>?_,fun x h1 b hb=>?_,hr.frm,hr.top,fun x l hl=>?_⟩
 ·have hx':getE ((t,.gl i ys)::zii i j env) x=some v:=hx;simp only[getE] at hx';cases hb:Nat.beq t x with
  |true=>
   have:=xap hb;subst this;simp only[hb,cond_true,xae] at hx';subst hx';exact(hr.slots t _ ht).gl_move hTj rfl l1 hTi
  |false=>
   simp only[hb,cond_false] at hx';obtain⟨u,h1,h2⟩:=zlf hx';rcases h2 with rfl|⟨rfl,h3,h4⟩
   ·exact .any _
   ·exact hm h3 h4 (hr.slots x _ h1)
 ·rcases cases3 x r hx with ⟨rfl,rfl⟩|⟨e1,e2,h3⟩
  ·intro b hb;rw[l1] at hb;exact hr.heap j _ hj b hb
  ·have hh:=hr.heap x r h3;have n1:=nocc o1 h3;have n2:=nocc o2 h3;cases r with
   |box cs=>
    obtain⟨b,us,e,e1',e2',e3,e4,e5⟩:=hh;exact⟨b,us,e,(l2 x e1).trans e1',e2',e3,e4,fun q hq hv=>hm (fun hid=>n1 (xay (xao hq) hid)) (fun hid=>n2 (xay (xao hq) hid)) (e5 q hq hv)⟩
   |tok n' k'=>intro b hb;rw[l2 x e1] at hb;exact hh b hb
   |map ks=>
    obtain⟨b,es,cl,h5,h6⟩:=hh;exact⟨b,es,cl,(l2 x e1).trans h5,h6⟩
   |tree cs=>exact zbh hh (l2 x e1) (fun _ _=>⟨I,I⟩) (Nat.le_refl _) (fun y hy v=>hm (fun hid=>n1 (xay hy hid)) (fun hid=>n2 (xay hy hid)))
 ·obtain⟨x',s1,e1,d1⟩:=src x h1;obtain⟨y',s2,e2,d2⟩:=src y h2;rw[e1] at hb;rw[e2];refine hr.disj x' y' s1 s2 ?_ b hb;rcases d1 with ⟨rfl,rfl⟩|⟨rfl,f1,f2⟩<;>rcases d2 with ⟨rfl,rfl⟩|⟨rfl,f3,f4⟩
  ·exact absurd I hxy
  ·exact fun e=>f3 e.symm
  ·exact f1
  ·exact hxy
 ·obtain⟨x',s1,e1,d1⟩:=src x h1;rw[e1] at hb;exact hr.new x' s1 b hb
 ·have hk:=hr.kept x l hl;have e1:x≠i:=fun e=>by
   have h1:=hk.2.1;have h2:getH hp x=none:=e ▸ hi;change (getH hp x).isSome=true at h1
   rw[h2] at h1;cases h1
  have e2:x≠j:=fun e=>by
   have h1:=hk.2.2;change tokf hp x=none at h1
   rw[e,hTj] at h1;cases h1
  refine⟨by rw[l2 x e1];exact hk.1, ?_, ?_⟩
  ·show(getH hp' x).isSome=true
   rw[g3 x e1 e2];exact hk.2.1
  ·show tokf hp' x=none
   have:=hk.2.2;unfold tokf at this ⊢;rw[g3 x e1 e2];exact this
end
section
variable {c:Ctx}{all:Array Oper}{K:Kt}
theorem zly {Q:St->Prop}{Q':Exit->Act->World->Prop}{l2:List Nat} (hQ:∀s a w,Rel c s a w->Q s->wpOps c.P all Q' l2 a w):
  ∀(l:List Nat) (os:List Oper) (recs:List Rec) (s:St) (a:Act) (w:World),l.filterMap (all[·]?)=os->(∀i,i∈l->i<all.size)->
   Walk c all (fun _=>True) os recs s Q->Rel c s a w->wpOps c.P all Q' (l++l2) a w
 | [],os,recs,s,a,w,hl,_,hw,hr=>by
  simp only[List.filterMap_nil] at hl;subst hl;exact hQ s a w hr hw.2
 |i::l,os,recs,s,a,w,hl,hlt,hw,hr=>by
  have hi:i<all.size:=hlt i og;have ho:all[i]?=some all[i]:=by simp[hi]
  rw[List.filterMap_cons] at hl;simp only[ho] at hl;subst hl;obtain⟨pre,prh,cr,u,hrule,h1,h2,h3,hrest⟩:=hw;rw[xai,wpOps_cons];unfold wpOp;simp only[ho];have:=hrule s a w hr h1 h2 h3 (wpOps c.P all Q' (l++l2)) Q' (fun a' w' hr'=>
   zly hQ l _ _ _ a' w' rfl (fun j hj=>hlt j (by simp[hj])) hrest hr')
  unfold wpO at this;split
  ·rename_i hw;simp only[hw,if_true] at this;exact .inl this
  ·rename_i hw;simp only[hw] at this;exact this
theorem zpF (all:Array Oper):(List.range all.size).filterMap (all[·]?)=all.toList:=by
 have h1:(List.range all.size).filterMap (all[·]?)=(List.range all.toList.length).filterMap (all.toList[·]?):=by simp
 rw[h1];generalize all.toList=l;induction l with
 |nil=>rfl
 |cons x l ih=>
  rw[xab,List.range_succ_eq_map,List.filterMap_cons];simp only[List.getElem?_cons_zero,List.filterMap_map];exact xam (List.cons x) ih
theorem zeW {all:Array Oper}:∀ {l:List Nat},(∀i,i∈l->i<all.size)->l.filterMap (all[·]?)=l.map (fun i=>all[i]!)
 | [],_=>rfl
 |i::r,h=>by
  have hi:i<all.size:=h i og;have ho:all[i]?=some all[i]:=by simp[hi]
  rw[List.filterMap_cons];simp only[ho,xaf];rw[zeW (fun j hj=>h j (by simp[hj]))];simp[hi]
theorem znk (all:Array Oper) (k j:Nat):(((List.range all.size).drop k).take j).filterMap (all[·]?)=(all.toList.drop k).take j:=by
 have h0:=zpF all;rw[zeW (fun i hi=>by simpa using hi)] at h0;rw[zeW (fun i hi=>by simpa using List.mem_of_mem_drop (List.mem_of_mem_take hi)),<-h0,List.map_take,List.map_drop]
def WRest (c:Ctx) (all:Array Oper) (k:Nat) (s:St) (K:Kt):Prop:=∀a w,Rel c s a w->wpOps c.P all (K.post c) ((List.range all.size).drop k) a w
theorem xaB {id:Nat}{s:St} (h:WRest c all 0 s K):CWp c (.region id all false) s K:=by
 intro a w hr;have:=h a w hr;rw[List.drop_zero] at this;exact wp_region this
theorem xbj {k:Nat}{s:St} (h:Walk c all (fun _=>True) (all.toList.drop k) [] s K.n):WRest c all k s K:=by
 intro a w hr;have e:=znk all k (all.size-k);rw[List.take_of_length_le og,List.take_of_length_le og] at e;exact zi6 (Q:=K.n) (fun s a w hr hq=>⟨s,hr,hq⟩) _ _ [] s a w e (fun i hi=>by simpa using List.mem_of_mem_drop hi) h hr
theorem xbk {k:Nat}{env:Env}{hp:Hp} (j:Nat) (E:Env) (ks:List Nat)
  (h1:Walk c all (fun _=>True) ((all.toList.drop k).take j) [] ⟨env,hp⟩ (fun s1=>Sub ⟨E++(zc4 ks++env),[]++hp⟩ s1))
  (h2:WRest c all (k+j) ⟨E++(zc4 ks++env),hp⟩ K):WRest c all k ⟨env,hp⟩ K:=by
 intro a w hr;have hk:∀id l,c.kept id=some l->(getH hp id).isSome:=by
  obtain⟨G,hg⟩:=hr;exact fun id l hl=>(hg.kept id l hl).2.1
 have e:(List.range all.size).drop k=((List.range all.size).drop k).take j++(List.range all.size).drop (k+j):=by
  conv=>lhs;rw[<-List.take_append_drop j ((List.range all.size).drop k),List.drop_drop]
 rw[e];exact zly (fun s1 a1 w1 hr1 hs=>h2 a1 w1 (hr1.sub hs hk)) _ _ [] _ a w (znk all k j) (fun i hi=>by simpa using List.mem_of_mem_drop (List.mem_of_mem_take hi)) h1 hr
end
def subF (P:Program) (f:Field):Nat:=match P.underlying f.type with
 |some (.int _)=>1
 |some (.struct _)=>(P.fieldsOf f.type).size
 |_=>0
def zoU (P:Program):List Field->Nat
 | []=>0
 |f::r=>subF P f+zoU P r
def zjA (P:Program):Nat->List Field->Bool
 |_,[]=>true
 |i,f::r=>(f.name != "_")&&Nat.beq f.offset i&&(match P.underlying f.type with
  |some (.int _)=>true
  |some (.struct _)=>(match P.stoodInHeld f.type with|true=>false|false=>true)&&zeQ P 0 (P.fieldsOf f.type).toList&&(match zlV P f.type with|some (k,true)=>Nat.beq k (P.fieldsOf f.type).size|_=>false)
  |_=>false)&&zjA P (i+subF P f) r
structure EqT2 (P:Program) (t k:Nat):Prop where
 und:P.underlying t=some (.struct (P.fieldsOf t))
 held:P.stoodInHeld t=false
 grd:P.eqGuardType P.depth t=false
 fld:zjA P 0 (P.fieldsOf t).toList=true
 len:zoU P (P.fieldsOf t).toList=k
structure Tabs where
 ty:Nat->Option (Nat×Bool)
 sl:Nat->Bool
 st:Nat->Bool
 fd:Nat->Nat->Option Nat
structure TabsOK (P:Program) (T:Tabs):Prop where
 ty:∀t k b,T.ty t=some (k,b)->TyS P t k b
 sl:∀t,T.sl t=true->∃e k y,SlT P t e k y
 st:∀t,T.st t=true->P.underlying t=some .string
 fd:∀t f o,T.fd t f=some o->Fd P t f o
structure Sp (b:Bool) (X Y:Prop):Prop where
 t:b=true->X
 f:b=false->Y
structure Ar (n:Int) (X:Prop):Prop where
 b:I64 n
 k:X
def kget:List (Nat×Bool)->Nat->Option Bool
 | [],_=>none
 |(k,v)::r,i=>bif Nat.beq k i then some v else kget r i
def kdel:List (Nat×Bool)->Nat->List (Nat×Bool)
 | [],_=>[]
 |(k,v)::r,i=>bif Nat.beq k i then kdel r i else (k,v)::kdel r i
def memN:List Nat->Nat->Bool
 | [],_=>false
 |k::r,i=>bif Nat.beq k i then true else memN r i
def KN (env:Env):List (Nat×Bool)->Prop
 | []=>True
 |(e,v)::r=>(∃b,getE env e=some (.d (.bool b))/\b=v)/\KN env r
abbrev Cont:=List (Nat×AV)->List (Nat×Res)->AV->Prop
def evB (op:BinOp) (u v:D) (k:D->Prop) (stuck:Prop):Prop:=
 match u,v with
 | .int a m,.int b n=>match a,b with
  | .i64,.i64=>match op with
   | .eql=>k (.bool (decide (m=n)))
   | .neq=>k (.bool (!decide (m=n)))
   | .lss=>k (.bool (decide (m<n)))
   | .leq=>k (.bool (decide (m<=n)))
   | .gtr=>k (.bool (decide (n<m)))
   | .geq=>k (.bool (decide (n<=m)))
   | .add=>Ar (m+n) (k (.int .i64 (m+n)))
   | .sub=>Ar (m-n) (k (.int .i64 (m-n)))
   | .mul=>Ar (m*n) (k (.int .i64 (m*n)))
   |_=>stuck
  | .u8,.u8=>match op with
   | .eql=>k (.bool (decide (m=n)))
   | .neq=>k (.bool (!decide (m=n)))
   | .lss=>k (.bool (decide (m<n)))
   | .leq=>k (.bool (decide (m<=n)))
   | .gtr=>k (.bool (decide (n<m)))
   | .geq=>k (.bool (decide (n<=m)))
   |_=>stuck
  |_,_=>stuck
 | .str l,.str m=>match op with
  | .eql=>k (.bool (decide (l=m)))
  | .neq=>k (.bool (!decide (l=m)))
  |_=>stuck
 |_,_=>stuck
def evV (T:Tabs) (env:Env) (hp:Hp) (kn:List (Nat×Bool)) (k:Cont) (stuck:Prop) (op:Op):Prop:=
 match op with
 | .move x=>match opd env x with
  |some v=>k (opF x v) [] v
  |none=>stuck
 | .assign x=>match opd env x with
  |some v=>k (opF x v) [] v
  |none=>stuck
 | .pick (.tmp t) y z=>match getE env t with
  |some (.d (.bool b))=>match kget kn t with
   |some true=>match opd env y with
    |some v=>k (opF (.tmp t) (.d (.bool b))++opF y v) [] v
    |none=>stuck
   |some false=>match opd env z with
    |some v=>k (opF (.tmp t) (.d (.bool b))++opF z v) [] v
    |none=>stuck
   |none=>stuck
  |_=>stuck
 | .binOp op _ x y _=>match opd env x,opd env y with
  |some (.d u),some (.d v)=>evB op u v (fun r=>k (opF x (.d u)++opF y (.d v)) [] (.d r)) stuck
  |_,_=>stuck
 | .unOp .not _ x=>match opd env x with
  |some (.d (.bool b))=>k (opF x (.d (.bool b))) [] (.d (.bool (!b)))
  |_=>stuck
 | .load t x=>match opd env x with
  |some (.ref id off)=>match getH hp id with
   |some (.box cs)=>match T.ty t with
    |some (_,false)=>match cs[off]? with
     |some v=>k (opF x (.ref id off)) [(id,.box cs)] v
     |none=>stuck
    |some (n,true)=>match cutC cs off n with
     |some r=>k (opF x (.ref id off)) [(id,.box cs)] (.agg r)
     |none=>stuck
    |none=>stuck
   |_=>stuck
  |some (.d (.ptr cs off))=>match T.ty t with
   |some (_,false)=>match cs[off]? with
    |some v=>k (opF x (.d (.ptr cs off))) [] (.d v)
    |none=>stuck
   |some (n,true)=>match cutC cs off n with
    |some r=>match mapD r with
     |some r'=>k (opF x (.d (.ptr cs off))) [] (.agg r')
     |none=>stuck
    |none=>stuck
   |none=>stuck
  |_=>stuck
 | .fieldAddr t x f=>match opd env x with
  |some (.ref id off)=>match T.fd t f with
   |some o=>k (opF x (.ref id off)) [] (.ref id (off+o))
   |none=>stuck
  |some (.d (.ptr cs off))=>match T.fd t f with
   |some o=>k (opF x (.d (.ptr cs off))) [] (.d (.ptr cs (off+o)))
   |none=>stuck
  |_=>stuck
 | .extract x i=>match opd env x with
  |some (.tup vs)=>match vs[i]? with
   |some v=>k (opF x (.tup vs)) [] v
   |none=>stuck
  |_=>stuck
 | .nilCheck x=>match opd env x with
  |some (.ref id off)=>k (opF x (.ref id off)) [] (.ref id off)
  |some (.d (.ptr cs off))=>k (opF x (.d (.ptr cs off))) [] (.d (.ptr cs off))
  |_=>stuck
 | .call ⟨.builtin .len,⟨[x]⟩,⟨[at_]⟩⟩=>match opd env x with
  |some (.d (.str l))=>match T.st at_ with
   |true=>k (opF x (.d (.str l))) [] (.d (.i l.length))
   |false=>stuck
  |some (.d (.sl xs))=>match T.sl at_ with
   |true=>k (opF x (.d (.sl xs))) [] (.d (.i xs.length))
   |false=>stuck
  |some (.gl id xs)=>match T.sl at_ with
   |true=>k (opF x (.gl id xs)) [] (.d (.i xs.length))
   |false=>stuck
  |some (.ms id n)=>match T.sl at_ with
   |true=>k (opF x (.ms id n)) [] (.d (.i n))
   |false=>stuck
  |_=>stuck
 |_=>stuck
section
variable {T:Tabs}{c:Ctx}{all:Array Oper}{chk:List Rec->Prop}{os:List Oper}{recs:List Rec}{env:Env}{hp:Hp}{Q:St->Prop}
variable {d ty:Nat}{pos:String}{af:Array Edge}{g:Option (Nat×Bool)}{pg:List (Nat×AV)}{kn:List (Nat×Bool)}
theorem zdZ:∀ {kn:List (Nat×Bool)}{e:Nat}{v:Bool},KN env kn->kget kn e=some v->∃b,getE env e=some (.d (.bool b))/\b=v
 |(k,u)::r,e,v,h,hk=>by
  simp only[kget] at hk;cases hb:Nat.beq k e with
  |true=>simp only[hb,cond_true,xae] at hk;subst hk;obtain rfl:=xap hb;exact h.1
  |false=>simp only[hb,cond_false] at hk;exact zdZ h.2 hk
theorem zfm {v:AV}:∀ {kn:List (Nat×Bool)},KN env kn->KN ((d,v)::env) (kdel kn d)
 | [],_=>trivial
 |(k,u)::r,h=>by
  simp only[kdel];cases hb:Nat.beq k d with
  |true=>exact zfm h.2
  |false=>
   have hb':Nat.beq d k=false:=by
    cases hd:Nat.beq d k with
    |false=>rfl
    |true=>obtain rfl:=xap hd;rw[hd] at hb;cases hb
   refine⟨?_,zfm h.2⟩;simp only[getE,hb',cond_false];exact h.1
theorem zsP {u v:D}{op:BinOp}{t yt:TypeId}{x y:Operand}{k:D->Prop}{stuck W:Prop}
  (hs:stuck->W) (hg:GH all env g pg) (hd:Nat.blt d c.n=true) (hx:opd env x=some (.d u)) (hy:opd env y=some (.d v))
  (hk:∀r,k r->Walk c all chk os (zam (pg++(opF x (.d u)++opF y (.d v))) [] [] ⟨some (d,.d r),[]⟩::recs) ⟨(d,.d r)::env,hp⟩ Q)
  (hW:W=Walk c all chk (⟨some d,.binOp op t x y yt,ty,pos,af,g⟩::os) recs ⟨env,hp⟩ Q)
  (h:evB op u v k stuck):W:=by
 unfold evB at h;split at h
 ·split at h
  ·split at h
   ·exact hW ▸ Walk.eqI hg hd hx hy (hk _ h)
   ·exact hW ▸ Walk.neI hg hd hx hy (hk _ h)
   ·exact hW ▸ Walk.ltI hg hd hx hy (hk _ h)
   ·exact hW ▸ Walk.leI hg hd hx hy (hk _ h)
   ·exact hW ▸ Walk.gtI hg hd hx hy (hk _ h)
   ·exact hW ▸ Walk.geI hg hd hx hy (hk _ h)
   ·exact hW ▸ Walk.addI hg hd hx hy h.b (hk _ h.k)
   ·exact hW ▸ Walk.subI hg hd hx hy h.b (hk _ h.k)
   ·exact hW ▸ Walk.mulI hg hd hx hy h.b (hk _ h.k)
   ·exact hs h
  ·split at h
   ·exact hW ▸ Walk.eqI hg hd hx hy (hk _ h)
   ·exact hW ▸ Walk.neI hg hd hx hy (hk _ h)
   ·exact hW ▸ Walk.ltI hg hd hx hy (hk _ h)
   ·exact hW ▸ Walk.leI hg hd hx hy (hk _ h)
   ·exact hW ▸ Walk.gtI hg hd hx hy (hk _ h)
   ·exact hW ▸ Walk.geI hg hd hx hy (hk _ h)
   ·exact hs h
  ·exact hs h
 ·split at h
  ·exact hW ▸ Walk.eqS hg hd hx hy (hk _ h)
  ·exact hW ▸ Walk.neS hg hd hx hy (hk _ h)
  ·exact hs h
 ·exact hs h
theorem zo9 (hT:TabsOK c.P T){op:Op}{k:Cont} (hkn:KN env kn) (hg:GH all env g pg) (hd:Nat.blt d c.n=true)
  (hk:∀pre prh v,k pre prh v->Walk c all chk os (zam (pg++pre) prh [] ⟨some (d,v),[]⟩::recs) ⟨(d,v)::env,hp⟩ Q)
  (h:evV T env hp kn k (Walk c all chk (⟨some d,op,ty,pos,af,g⟩::os) recs ⟨env,hp⟩ Q) op):
  Walk c all chk (⟨some d,op,ty,pos,af,g⟩::os) recs ⟨env,hp⟩ Q:=by
 unfold evV at h;split at h
 ·split at h
  ·rename_i hx;exact Walk.move hg hd hx (hk _ _ _ h)
  ·exact h
 ·split at h
  ·rename_i hx;exact Walk.assign hg hd hx (hk _ _ _ h)
  ·exact h
 ·split at h
  ·rename_i b hx;split at h
   ·rename_i hkt;obtain⟨b',h1,h2⟩:=zdZ hkn hkt;rw[hx] at h1;cases h1;split at h
    ·rename_i hy;exact Walk.pickT (x:= .tmp _) hg hd hx h2 hy (hk _ _ _ h)
    ·exact h
   ·rename_i hkt;obtain⟨b',h1,h2⟩:=zdZ hkn hkt;rw[hx] at h1;cases h1;split at h
    ·rename_i hy;exact Walk.pickF (x:= .tmp _) hg hd hx h2 hy (hk _ _ _ h)
    ·exact h
   ·exact h
  ·exact h
 ·split at h
  ·rename_i hx hy;exact zsP id hg hd hx hy (fun r hr=>hk _ _ _ hr) I h
  ·exact h
 ·split at h
  ·rename_i hx;exact Walk.not hg hd hx (hk _ _ _ h)
  ·exact h
 ·split at h
  ·rename_i hx;split at h
   ·rename_i hh;split at h
    ·rename_i ht;split at h
     ·rename_i hv;exact xbE (hT.ty _ _ _ ht) hg hd hx hh hv (hk _ _ _ h)
     ·exact h
    ·rename_i ht;split at h
     ·rename_i hv;exact xbF (hT.ty _ _ _ ht) hg hd hx hh hv (hk _ _ _ h)
     ·exact h
    ·exact h
   ·exact h
  ·rename_i hx;split at h
   ·rename_i ht;split at h
    ·rename_i hv;exact Walk.loadP (hT.ty _ _ _ ht) hg hd hx hv (hk _ _ _ h)
    ·exact h
   ·rename_i ht;split at h
    ·rename_i hv;split at h
     ·rename_i hm;exact Walk.loadPA (hT.ty _ _ _ ht) hg hd hx hv hm (hk _ _ _ h)
     ·exact h
    ·exact h
   ·exact h
  ·exact h
 ·split at h
  ·rename_i hx;split at h
   ·rename_i hf;exact xbA (hT.fd _ _ _ hf) hg hd hx (hk _ _ _ h)
   ·exact h
  ·rename_i hx;split at h
   ·rename_i hf;exact Walk.fieldP (hT.fd _ _ _ hf) hg hd hx (hk _ _ _ h)
   ·exact h
  ·exact h
 ·split at h
  ·rename_i hx;split at h
   ·rename_i hv;exact Walk.extract hg hd hx hv (hk _ _ _ h)
   ·exact h
  ·exact h
 ·split at h
  ·rename_i hx;exact Walk.nilCheck (.inl ⟨_,_,I⟩) hg hd hx (hk _ _ _ h)
  ·rename_i hx;exact Walk.nilCheck (.inr ⟨_,_,I⟩) hg hd hx (hk _ _ _ h)
  ·exact h
 ·split at h
  ·rename_i hx;split at h
   ·rename_i ht;exact Walk.lenS (hT.st _ ht) hg hd hx (hk _ _ _ h)
   ·exact h
  ·rename_i hx;split at h
   ·rename_i ht;obtain⟨_,_,_,ht⟩:=hT.sl _ ht;exact Walk.len ht hg hd hx (hk _ _ _ h)
   ·exact h
  ·rename_i hx;split at h
   ·rename_i ht;obtain⟨_,_,_,ht⟩:=hT.sl _ ht;exact Walk.lenG ht hg hd hx (hk _ _ _ h)
   ·exact h
  ·rename_i hx;split at h
   ·rename_i ht;obtain⟨_,_,_,ht⟩:=hT.sl _ ht;exact Walk.lenM ht hg hd hx (hk _ _ _ h)
   ·exact h
  ·exact h
 ·exact h
end
def evGo (T:Tabs) (stop:List Nat) (c:Ctx) (all:Array Oper) (chk:List Rec->Prop) (Q:St->Prop) (o:Oper) (os:List Oper) (recs:List Rec) (env:Env) (hp:Hp)
  (ih:List Rec->Env->Hp->List (Nat×Bool)->Prop) (d e:Nat) (b:Bool) (kn:List (Nat×Bool)) (op:Op):Prop:=
 match memN stop d with
 |true=>Walk c all chk (o::os) recs ⟨env,hp⟩ Q
 |false=>evV T env hp kn (fun pre prh v=>ih (zam ([(e,.d (.bool b))]++pre) prh [] ⟨some (d,v),[]⟩::recs) ((d,v)::env) hp (kdel kn d)) (Walk c all chk (o::os) recs ⟨env,hp⟩ Q) op
def zmi (T:Tabs) (stop:List Nat) (c:Ctx) (all:Array Oper) (chk:List Rec->Prop) (Q:St->Prop) (o:Oper) (os:List Oper) (ih:List Rec->Env->Hp->List (Nat×Bool)->Prop)
  (recs:List Rec) (env:Env) (hp:Hp) (kn:List (Nat×Bool)):Prop:=
 match o.dst with
  |none=>match o.guard with
   |none=>Walk c all chk (o::os) recs ⟨env,hp⟩ Q
   |some (j,want)=>match (all[j]?).bind (·.dst) with
    |none=>Walk c all chk (o::os) recs ⟨env,hp⟩ Q
    |some e=>match getE env e with
     |some (.tup [])=>ih (zam [(e,.tup [])] [] [] ⟨none,[]⟩::recs) env hp kn
     |some (.d (.bool b))=>match kget kn e,want with
      |some true,true=>Walk c all chk (o::os) recs ⟨env,hp⟩ Q
      |some false,false=>Walk c all chk (o::os) recs ⟨env,hp⟩ Q
      |some _,_=>ih (zam [(e,.d (.bool b))] [] [] ⟨none,[]⟩::recs) env hp kn
      |none,true=>Sp b (Walk c all chk (o::os) recs ⟨env,hp⟩ Q) (ih (zam [(e,.d (.bool b))] [] [] ⟨none,[]⟩::recs) env hp ((e,false)::kn))
      |none,false=>Sp b (ih (zam [(e,.d (.bool b))] [] [] ⟨none,[]⟩::recs) env hp ((e,true)::kn)) (Walk c all chk (o::os) recs ⟨env,hp⟩ Q)
     |_=>Walk c all chk (o::os) recs ⟨env,hp⟩ Q
  |some d=>match Nat.blt d c.n with
   |false=>Walk c all chk (o::os) recs ⟨env,hp⟩ Q
   |true=>match o.guard with
    |none=>match memN stop d with
     |true=>Walk c all chk (o::os) recs ⟨env,hp⟩ Q
     |false=>evV T env hp kn (fun pre prh v=>ih (zam ([]++pre) prh [] ⟨some (d,v),[]⟩::recs) ((d,v)::env) hp (kdel kn d))
       (Walk c all chk (o::os) recs ⟨env,hp⟩ Q) o.op
    |some (j,want)=>match (all[j]?).bind (·.dst) with
     |none=>Walk c all chk (o::os) recs ⟨env,hp⟩ Q
     |some e=>match getE env e with
      |some (.tup [])=>ih (zam [(e,.tup [])] [] [] ⟨some (d,.tup []),[]⟩::recs) ((d,.tup [])::env) hp (kdel kn d)
      |some (.d (.bool b))=>match kget kn e,want with
       |some true,true=>evGo T stop c all chk Q o os recs env hp ih d e b kn o.op
       |some false,false=>evGo T stop c all chk Q o os recs env hp ih d e b kn o.op
       |some _,_=>ih (zam [(e,.d (.bool b))] [] [] ⟨some (d,.tup []),[]⟩::recs) ((d,.tup [])::env) hp (kdel kn d)
       |none,true=>Sp b (evGo T stop c all chk Q o os recs env hp ih d e b ((e,true)::kn) o.op) (ih (zam [(e,.d (.bool b))] [] [] ⟨some (d,.tup []),[]⟩::recs) ((d,.tup [])::env) hp (kdel ((e,false)::kn) d))
       |none,false=>Sp b (ih (zam [(e,.d (.bool b))] [] [] ⟨some (d,.tup []),[]⟩::recs) ((d,.tup [])::env) hp (kdel ((e,true)::kn) d)) (evGo T stop c all chk Q o os recs env hp ih d e b ((e,false)::kn) o.op)
      |_=>Walk c all chk (o::os) recs ⟨env,hp⟩ Q
noncomputable def evW (T:Tabs) (stop:List Nat) (c:Ctx) (all:Array Oper) (chk:List Rec->Prop) (Q:St->Prop) (fin:List Rec->Env->Hp->Prop) (os:List Oper):List Rec->Env->Hp->List (Nat×Bool)->Prop:=
 List.rec (motive:=fun _=>List Rec->Env->Hp->List (Nat×Bool)->Prop) (fun recs env hp _=>fin recs env hp) (fun o os ih=>zmi T stop c all chk Q o os ih) os
section
variable {T:Tabs}{c:Ctx}{all:Array Oper}{chk:List Rec->Prop}{Q:St->Prop}{stop:List Nat}{fin:List Rec->Env->Hp->Prop}
theorem zfn {env:Env}{e:Nat}{b v:Bool}{kn:List (Nat×Bool)} (he:getE env e=some (.d (.bool b))) (hb:b=v) (hk:KN env kn):KN env ((e,v)::kn):=⟨⟨b,he,hb⟩,hk⟩
theorem zhz (hT:TabsOK c.P T) (hfin:∀recs env hp,fin recs env hp->chk recs/\Q ⟨env,hp⟩):∀ {os:List Oper}{recs:List Rec}{env:Env}{hp:Hp}{kn:List (Nat×Bool)},
  KN env kn->evW T stop c all chk Q fin os recs env hp kn->Walk c all chk os recs ⟨env,hp⟩ Q
 | [],recs,env,hp,kn,hkn,h=>by
  unfold evW at h;exact hfin _ _ _ h
 |⟨dst,op,ty,pos,af,g⟩::os,recs,env,hp,kn,hkn,h=>by
  have ih:=fun {recs:List Rec}{env:Env}{hp:Hp}{kn:List (Nat×Bool)}=>@zhz hT hfin os recs env hp kn;replace h:zmi T stop c all chk Q ⟨dst,op,ty,pos,af,g⟩ os (evW T stop c all chk Q fin os) recs env hp kn:=h
  generalize evW T stop c all chk Q fin os=ihf at h ih;unfold zmi at h;cases dst with
  |none=>
   simp only at h;cases g with
   |none=>exact h
   |some g=>
    obtain⟨j,want⟩:=g;simp only at h;split at h
    ·exact h
    ·rename_i e he;split at h
     ·rename_i hu;exact Walk.passU0 I he hu I (ih hkn h)
     ·rename_i b hb;have pass:∀ {kn':List (Nat×Bool)},b = !want->KN env kn'->ihf (zam [(e,.d (.bool b))] [] [] ⟨none,[]⟩::recs) env hp kn'->
        Walk c all chk (⟨none,op,ty,pos,af,some (j,want)⟩::os) recs ⟨env,hp⟩ Q:=fun h2 hk h=>Walk.pass0 rfl he hb h2 rfl (ih hk h)
      split at h
      ·exact h
      ·exact h
      ·rename_i w1 x1 w2 v hv h1 h2;obtain⟨b',h3,h4⟩:=zdZ hkn hv;rw[hb] at h3;cases h3;refine pass ?_ hkn h;cases w1<;>cases v<;>simp_all
      ·exact Walk.split hb (fun hb'=>h.t hb') (fun hb'=>pass hb' (zfn hb hb' hkn) (h.f hb'))
      ·exact Walk.split hb (fun hb'=>pass hb' (zfn hb hb' hkn) (h.t hb')) (fun hb'=>h.f hb')
     ·exact h
  |some d=>
   simp only at h;split at h
   ·exact h
   ·rename_i hd;cases g with
    |none=>
     simp only at h;split at h
     ·exact h
     ·exact zo9 hT hkn .none hd (fun pre prh v hk=>ih (zfm hkn) hk) h
    |some g=>
     obtain⟨j,want⟩:=g;simp only at h;split at h
     ·exact h
     ·rename_i e he;split at h
      ·rename_i hu;exact Walk.passU I he hu I hd (ih (zfm hkn) h)
      ·rename_i b hb;have go:∀ {kn':List (Nat×Bool)},b=want->KN env kn'->evGo T stop c all chk Q ⟨some d,op,ty,pos,af,some (j,want)⟩ os recs env hp ihf d e b kn' op->
         Walk c all chk (⟨some d,op,ty,pos,af,some (j,want)⟩::os) recs ⟨env,hp⟩ Q:=by
        intro kn' h2 hk h;unfold evGo at h;split at h
        ·exact h
        ·exact zo9 hT hk (.some he hb h2) hd (fun pre prh v hk'=>ih (zfm hk) hk') h
       have pass:∀ {kn':List (Nat×Bool)},b = !want->KN env kn'->ihf (zam [(e,.d (.bool b))] [] [] ⟨some (d,.tup []),[]⟩::recs) ((d,.tup [])::env) hp (kdel kn' d)->
         Walk c all chk (⟨some d,op,ty,pos,af,some (j,want)⟩::os) recs ⟨env,hp⟩ Q:=fun h2 hk h=>Walk.pass rfl he hb h2 rfl hd (ih (zfm hk) h)
       split at h
       ·rename_i hv;obtain⟨b',h3,h4⟩:=zdZ hkn hv;rw[hb] at h3;cases h3;exact go h4 hkn h
       ·rename_i hv;obtain⟨b',h3,h4⟩:=zdZ hkn hv;rw[hb] at h3;cases h3;exact go h4 hkn h
       ·rename_i w1 x1 w2 v hv h1 h2;obtain⟨b',h3,h4⟩:=zdZ hkn hv;rw[hb] at h3;cases h3;refine pass ?_ hkn h;cases w1<;>cases v<;>simp_all
       ·exact Walk.split hb (fun hb'=>go hb' (zfn hb hb' hkn) (h.t hb')) (fun hb'=>pass hb' (zfn hb hb' hkn) (h.f hb'))
       ·exact Walk.split hb (fun hb'=>pass hb' (zfn hb hb' hkn) (h.t hb')) (fun hb'=>go hb' (zfn hb hb' hkn) (h.f hb'))
      ·exact h
end
noncomputable def evC (T:Tabs) (stop rs:List Nat) (c:Ctx) (x:Code):St->Kt->Prop:=
 Code.rec (motive:=fun _=>St->Kt->Prop)
  (fun s K=>K.n s)
  (fun id all draw s K=>match memN rs id with
   |true=>CWp c (.region id all draw) s K
   |false=>match draw with
    |false=>evW T stop c all (fun _=>True) K.n (fun _ env hp=>K.n ⟨env,hp⟩) all.toList [] s.env s.hp []
    |true=>evW T stop c all (fun recs=>chkB all.toList s recs.reverse=true) K.n (fun recs env hp=>chkB all.toList s recs.reverse=true/\K.n ⟨env,hp⟩) all.toList [] s.env s.hp [])
  (fun _ _ ihx ihy s K=>ihx s (K.with fun s'=>ihy s' K))
  (fun x t e iht ihe s K=>match x with
   | .tmp i=>match memN rs (1000000+i) with
    |true=>CWp c (.cond (.tmp i) t e) s K
    |false=>match getE s.env i with
     |some (.d (.bool b))=>Sp b (iht s K) (ihe s K)
     |_=>CWp c (.cond (.tmp i) t e) s K
   |x=>CWp c (.cond x t e) s K)
  (fun id _ ih s K=>ih s (K.blk id))
  (fun x _ s K=>CWp c (.loop x) s K)
  (fun f p a b _ _ s K=>CWp c (.rangeFunc f p a b) s K)
  (fun id s K=>K.ex id s)
  (fun x _ s K=>CWp c (.scope x) s K)
  (fun _ s K=>K.n s)
  (fun l s K=>CWp c (.goto l) s K)
  (fun s K=>match memN rs 999999 with|true=>CWp c .ret s K|false=>K.rt s)
  (fun w s K=>CWp c (.refuse w) s K) x
theorem CWp.mono {c:Ctx}{x:Code}{s:St}{K K':Kt} (h:CWp c x s K) (h1:∀s,K.n s->K'.n s) (h2:∀i s,K.ex i s->K'.ex i s) (h3:∀s,K.rt s->K'.rt s):CWp c x s K':=by
 intro a w hr;refine wp_mono (h a w hr) ?_;intro e a' w' hq;cases e with
 |normal=>obtain⟨s',hr',hn⟩:=hq;exact⟨s',hr',h1 _ hn⟩
 |exit id=>obtain⟨s',hr',hn⟩:=hq;exact⟨s',hr',h2 _ _ hn⟩
 |ret=>obtain⟨s',hr',hn⟩:=hq;exact⟨s',hr',h3 _ hn⟩
 |goto l=>exact hq.elim
 |panic ch=>exact hq.elim
 |outgrown=>exact hq.elim
theorem zfv {T:Tabs}{stop rs:List Nat}{c:Ctx} (hT:TabsOK c.P T) (hm:c.P.follows .mixedOrders=true):∀ {x:Code}{s:St}{K:Kt},evC T stop rs c x s K->CWp c x s K
 | .skip,s,K,h=>CWp.skip h
 | .exit id,s,K,h=>CWp.exit h
 | .ret,s,K,h=>by
  unfold evC at h;simp only at h;split at h
  ·exact h
  ·exact CWp.ret h
 | .label _,s,K,h=>CWp.label h
 | .seq x y,s,K,h=>CWp.seq ((zfv (x:=x) (s:=s) (K:=K.with fun s'=>evC T stop rs c y s' K) hT hm h).mono (fun _ h'=>zfv (x:=y) hT hm h') (fun _ _ h=>h) (fun _ h=>h))
 | .block id x,s,K,h=>CWp.block (zfv (x:=x) (K:=K.blk id) hT hm h)
 | .cond x t e,s,K,h=>by
  have ht:∀ {s:St}{K:Kt},evC T stop rs c t s K->CWp c t s K:=zfv hT hm;have he:∀ {s:St}{K:Kt},evC T stop rs c e s K->CWp c e s K:=zfv hT hm;cases x with
  |tmp i=>
   unfold evC at h ht he;simp only at h;split at h
   ·exact h
   ·split at h
    ·rename_i hc;exact CWp.cond hc (fun hb=>ht (h.t hb)) (fun hb=>he (h.f hb))
    ·exact h
  |_=>exact h
 | .region id all draw,s,K,h=>by
  unfold evC at h;simp only at h;split at h
  ·exact h
  ·cases draw with
   |false=>exact CWp.region I (zhz (kn:=[]) hT (fun _ _ _ h=>⟨O,h⟩) O h)
   |true=>exact CWp.drawn hm I (zhz (kn:=[]) hT (fun _ _ _ h=>h) O h)
 | .loop _,s,K,h=>h
 | .rangeFunc ..,s,K,h=>h
 | .scope _,s,K,h=>h
 | .goto _,s,K,h=>h
 | .refuse _,s,K,h=>h
def lk {α:Type}:List (Nat×α)->Nat->Option α
 | [],_=>none
 |(k,v)::r,i=>bif Nat.beq k i then some v else lk r i
def lk2:List (Nat×Nat×Nat)->Nat->Nat->Option Nat
 | [],_,_=>none
 |(k,j,v)::r,i,f=>bif Nat.beq k i&&Nat.beq j f then some v else lk2 r i f
theorem zpt {α:Type}{v:α}:∀ {l:List (Nat×α)}{i:Nat},lk l i=some v->(i,v)∈l
 |(k,u)::r,i,h=>by
  simp only[lk] at h;cases hb:Nat.beq k i with
  |true=>simp only[hb,cond_true,xae] at h;subst h;obtain rfl:=xap hb;simp
  |false=>simp only[hb,cond_false] at h;exact List.mem_cons_of_mem _ (zpt h)
theorem znA {v:Nat}:∀ {l:List (Nat×Nat×Nat)}{i f:Nat},lk2 l i f=some v->(i,f,v)∈l
 |(k,j,u)::r,i,f,h=>by
  simp only[lk2] at h;cases hb:Nat.beq k i&&Nat.beq j f with
  |true=>
   simp only[hb,cond_true,xae] at h;obtain⟨h1,h2⟩:=xad _ _ ▸ hb;obtain rfl:=xap h1;obtain rfl:=xap h2;subst h;simp
  |false=>simp only[hb,cond_false] at h;exact List.mem_cons_of_mem _ (znA h)
theorem ziV:∀ {l:List Nat}{i:Nat},memN l i=true->i∈l
 |k::r,i,h=>by
  simp only[memN] at h;cases hb:Nat.beq k i with
  |true=>obtain rfl:=xap hb;simp
  |false=>simp only[hb,cond_false] at h;exact List.mem_cons_of_mem _ (ziV h)
def strB:Option TypeDesc->Bool
 |some .string=>true
 |_=>false
theorem TabsOK.of {P:Program}{ty:List (Nat×Nat×Bool)}{sl st:List Nat}{fd:List (Nat×Nat×Nat)}
  (h1:ty.map (fun p=>zlV P p.1)=ty.map (fun p=>some p.2)) (h2:sl.all (fun t=>(zop P t).isSome)=true)
  (h3:st.all (fun t=>strB (P.underlying t))=true) (h4:fd.map (fun p=>zn6 P p.1 p.2.1)=fd.map (fun p=>some (p.2.2,false))):TabsOK P ⟨lk ty,memN sl,memN st,lk2 fd⟩:=by
 refine⟨fun t k b h=>xa7 ?_,fun t h=>?_,fun t h=>?_,fun t f o h=>Fd.of ?_⟩
 ·exact List.map_inj_left.1 h1 _ (zpt h)
 ·have:=List.all_eq_true.1 h2 t (ziV h);obtain⟨⟨e,k,y⟩,h⟩:=Option.isSome_iff_exists.1 this;exact⟨e,k,y,xa5 h⟩
 ·have:=List.all_eq_true.1 h3 t (ziV h);revert this
  cases P.underlying t with
  |none=>intro h;cases h
  |some d=>cases d<;>intro h<;>first|rfl|cases h
 ·exact List.map_inj_left.1 h4 _ (znA h)
set_option maxRecDepth 100000
theorem ty3:TyS Tryz.prog 3 1 false:=xa7 oj
theorem ty4:TyS Tryz.prog 4 1 false:=xa7 oj
theorem ty9:TyS Tryz.prog 9 1 false:=xa7 oj
theorem ty38:TyS Tryz.prog 38 2 true:=xa7 oj
theorem ty39:TyS Tryz.prog 39 1 false:=xa7 oj
theorem ty41:TyS Tryz.prog 41 4 true:=xa7 oj
theorem ty98:TyS Tryz.prog 98 3 true:=xa7 oj
theorem ztw:TyS Tryz.prog 132 1 false:=xa7 oj
theorem zri:TyS Tryz.prog 134 2 true:=xa7 oj
theorem ztx:TyS Tryz.prog 143 1 false:=xa7 oj
theorem zdT:TyS Tryz.prog 145 3 true:=xa7 oj
theorem zrj:TyS Tryz.prog 175 1 false:=xa7 oj
theorem zcy:TyS Tryz.prog 177 3 true:=xa7 oj
theorem zty:TyS Tryz.prog 183 1 false:=xa7 oj
theorem ztz:TyS Tryz.prog 191 3 true:=xa7 oj
theorem sl22:SlT Tryz.prog 22 5 1 1:=xa5 oj
theorem sl23:SlT Tryz.prog 23 134 2 40:=xa5 oj
theorem sl35:SlT Tryz.prog 35 91 4 32:=xa5 oj
theorem sl36:SlT Tryz.prog 36 191 3 24:=xa5 oj
theorem sl39:SlT Tryz.prog 39 41 4 48:=xa5 oj
theorem sl84:SlT Tryz.prog 84 9 1 16:=xa5 oj
theorem zbN:SlT Tryz.prog 132 177 3 48:=xa5 oj
theorem zoo:SlT Tryz.prog 143 145 3 40:=xa5 oj
theorem zaJ:SlT Tryz.prog 175 38 2 16:=xa5 oj
theorem zbd:SlT Tryz.prog 212 3 1 8:=xa5 oj
theorem tz3:TyZ Tryz.prog 3 1 [.d (.int .i64 0)]:=xa8 oj
theorem tz5:TyZ Tryz.prog 5 1 [.d (.int .u8 0)]:=xa8 oj
theorem tz9:TyZ Tryz.prog 9 1 [.d (.str [])]:=xa8 oj
theorem tz38:TyZ Tryz.prog 38 2 [.d (.int .i64 0),.d (.int .i64 0)]:=xa8 oj
theorem tz41:TyZ Tryz.prog 41 4 [.d (.int .i64 0),.d (.int .i64 0),.d (.int .i64 0),.nils]:=xa8 oj
theorem tz91:TyZ Tryz.prog 91 4 [.d (.int .i64 0),.d (.int .i64 0),.d (.int .i64 0),.d (.int .i64 0)]:=xa8 oj
theorem tz98:TyZ Tryz.prog 98 3 [.nils,.nils,.nils]:=xa8 oj
theorem zou:TyZ Tryz.prog 134 2 [.d (.str []),.nils]:=xa8 oj
theorem zg6:TyZ Tryz.prog 145 3 [.d (.int .i64 0),.d (.int .i64 0),.nils]:=xa8 oj
theorem zfg:TyZ Tryz.prog 177 3 [.d (.str []),.nils,.d (.int .i64 0)]:=xa8 oj
theorem ztA:TyZ Tryz.prog 189 6 [.d (.bool false),.d (.bool false),.d (.bool false),.d (.bool false),.d (.bool false),.d (.bool false)]:=xa8 oj
theorem zov:TyZ Tryz.prog 191 3 [.d (.int .i64 0),.d (.int .i64 0),.d (.int .i64 0)]:=xa8 oj
theorem zz3:ZeroT Tryz.prog 3 1:=xbV oj
theorem zz9:ZeroT Tryz.prog 9 1:=xbV oj
theorem zz38:ZeroT Tryz.prog 38 2:=xbV oj
theorem zz41:ZeroT Tryz.prog 41 4:=xbV oj
theorem zz91:ZeroT Tryz.prog 91 4:=xbV oj
theorem ztB:ZeroT Tryz.prog 134 2:=xbV oj
theorem ztC:ZeroT Tryz.prog 145 3:=xbV oj
theorem ztD:ZeroT Tryz.prog 177 3:=xbV oj
theorem ztE:ZeroT Tryz.prog 191 3:=xbV oj
theorem st38:StT Tryz.prog 38 [(0,1),(1,1)] [.d (.int .i64 0),.d (.int .i64 0)]:=xa6 oj
theorem st41:StT Tryz.prog 41 [(0,1),(1,1),(2,1),(3,1)] [.d (.int .i64 0),.d (.int .i64 0),.d (.int .i64 0),.nils]:=xa6 oj
theorem st91:StT Tryz.prog 91 [(0,2),(2,2)] [.d (.int .i64 0),.d (.int .i64 0),.d (.int .i64 0),.d (.int .i64 0)]:=xa6 oj
theorem st98:StT Tryz.prog 98 [(0,1),(1,1),(2,1)] [.nils,.nils,.nils]:=xa6 oj
theorem ztt:StT Tryz.prog 134 [(0,1),(1,1)] [.d (.str []),.nils]:=xa6 oj
theorem zre:StT Tryz.prog 145 [(0,1),(1,1),(2,1)] [.d (.int .i64 0),.d (.int .i64 0),.nils]:=xa6 oj
theorem zrf:StT Tryz.prog 177 [(0,1),(1,1),(2,1)] [.d (.str []),.nils,.d (.int .i64 0)]:=xa6 oj
theorem ztu:StT Tryz.prog 185 [(0,1),(1,1),(2,1)] [.nils,.d (.str []),.d (.bool false)]:=xa6 oj
theorem zlT:StT Tryz.prog 191 [(0,1),(1,2)] [.d (.int .i64 0),.d (.int .i64 0),.d (.int .i64 0)]:=xa6 oj
theorem zrg:StT Tryz.prog 201 [(0,1),(1,1)] [.nils,.d (.int .i64 0)]:=xa6 oj
theorem zpc:Fd Tryz.prog 41 3 3:=Fd.of oj
theorem zqR:ArT Tryz.prog 189 6 4 1:=ArT.of oj
theorem un3:Tryz.prog.underlying 3=some (.int .i64):=by kernel_rfl
theorem un4:Tryz.prog.underlying 4=some (.bool):=by kernel_rfl
theorem un5:Tryz.prog.underlying 5=some (.int .u8):=by kernel_rfl
theorem un9:Tryz.prog.underlying 9=some (.string):=by kernel_rfl
theorem zlR:MapT Tryz.prog 173:=MapT.of oj
theorem eq38:EqT Tryz.prog 38 2:=⟨by kernel_rfl,by kernel_rfl,by kernel_rfl,by kernel_rfl,by kernel_rfl⟩
theorem zqT:Callee Tryz.prog 18:=⟨fun args w=>zad (fn:=Tryz.f18) rfl rfl ol args w⟩
theorem zjc:Callee Tryz.prog 19:=⟨fun args w=>zad (fn:=Tryz.f19) rfl rfl ol args w⟩
theorem zjd:Callee Tryz.prog 20:=⟨fun args w=>zad (fn:=Tryz.f20) rfl rfl ol args w⟩
theorem zlJ:Callee Tryz.prog 21:=⟨fun args w=>zad (fn:=Tryz.f21) rfl rfl ol args w⟩
theorem zqU:Callee Tryz.prog 22:=⟨fun args w=>zad (fn:=Tryz.f22) rfl rfl ol args w⟩
theorem zlK:Callee Tryz.prog 23:=⟨fun args w=>zad (fn:=Tryz.f23) rfl rfl ol args w⟩
theorem zjg:Callee Tryz.prog 24:=⟨fun args w=>zad (fn:=Tryz.f24) rfl rfl ol args w⟩
theorem znX:Callee Tryz.prog 25:=⟨fun args w=>zad (fn:=Tryz.f25) rfl rfl ol args w⟩
theorem znY:Callee Tryz.prog 26:=⟨fun args w=>zad (fn:=Tryz.f26) rfl rfl ol args w⟩
theorem zta:Callee Tryz.prog 56:=⟨fun args w=>zad (fn:=Tryz.f56) rfl rfl ol args w⟩
theorem ztb:Callee Tryz.prog 63:=⟨fun args w=>zad (fn:=Tryz.f63) rfl rfl ol args w⟩
theorem zlL:Callee Tryz.prog 64:=⟨fun args w=>zad (fn:=Tryz.f64) rfl rfl ol args w⟩
theorem zqV:Callee Tryz.prog 65:=⟨fun args w=>zad (fn:=Tryz.f65) rfl rfl ol args w⟩
theorem zqW:Callee Tryz.prog 68:=⟨fun args w=>zad (fn:=Tryz.f68) rfl rfl ol args w⟩
theorem ztc:Callee Tryz.prog 69:=⟨fun args w=>zad (fn:=Tryz.f69) rfl rfl ol args w⟩
theorem zqX:Callee Tryz.prog 71:=⟨fun args w=>zad (fn:=Tryz.f71) rfl rfl ol args w⟩
theorem ztd:Callee Tryz.prog 73:=⟨fun args w=>zad (fn:=Tryz.f73) rfl rfl ol args w⟩
theorem zfT:Callee Tryz.prog 74:=⟨fun args w=>zad (fn:=Tryz.f74) rfl rfl ol args w⟩
theorem zte:Callee Tryz.prog 77:=⟨fun args w=>zad (fn:=Tryz.f77) rfl rfl ol args w⟩
theorem znZ:Callee Tryz.prog 78:=⟨fun args w=>zad (fn:=Tryz.f78) rfl rfl ol args w⟩
theorem zlM:Callee Tryz.prog 79:=⟨fun args w=>zad (fn:=Tryz.f79) rfl rfl ol args w⟩
theorem zgE:Callee Tryz.prog 80:=⟨fun args w=>zad (fn:=Tryz.f80) rfl rfl ol args w⟩
theorem zn0:Callee Tryz.prog 81:=⟨fun args w=>zad (fn:=Tryz.f81) rfl rfl ol args w⟩
theorem zqY:Callee Tryz.prog 82:=⟨fun args w=>zad (fn:=Tryz.f82) rfl rfl ol args w⟩
theorem ztf:Callee Tryz.prog 83:=⟨fun args w=>zad (fn:=Tryz.f83) rfl rfl ol args w⟩
theorem zqZ:Callee Tryz.prog 84:=⟨fun args w=>zad (fn:=Tryz.f84) rfl rfl ol args w⟩
theorem zdQ:Callee Tryz.prog 85:=⟨fun args w=>zad (fn:=Tryz.f85) rfl rfl ol args w⟩
theorem zn1:Callee Tryz.prog 86:=⟨fun args w=>zad (fn:=Tryz.f86) rfl rfl ol args w⟩
theorem zr5:Callee Tryz.prog 102:=⟨fun args w=>zad (fn:=Tryz.f102) rfl rfl ol args w⟩
theorem zr6:Callee Tryz.prog 124:=⟨fun args w=>zad (fn:=Tryz.f124) rfl rfl ol args w⟩
theorem zc8:Callee Tryz.prog 125:=⟨fun args w=>zad (fn:=Tryz.f125) rfl rfl ol args w⟩
theorem zr7:Callee Tryz.prog 126:=⟨fun args w=>zad (fn:=Tryz.f126) rfl rfl ol args w⟩
theorem zoF:Callee Tryz.prog 132:=⟨fun args w=>zad (fn:=Tryz.f132) rfl rfl ol args w⟩
theorem zr8:Callee Tryz.prog 133:=⟨fun args w=>zad (fn:=Tryz.f133) rfl rfl ol args w⟩
theorem zr9:Callee Tryz.prog 134:=⟨fun args w=>zad (fn:=Tryz.f134) rfl rfl ol args w⟩
theorem zi8:Callee Tryz.prog 135:=⟨fun args w=>zad (fn:=Tryz.f135) rfl rfl ol args w⟩
theorem zsa:Callee Tryz.prog 136:=⟨fun args w=>zad (fn:=Tryz.f136) rfl rfl ol args w⟩
theorem zoG:Callee Tryz.prog 137:=⟨fun args w=>zad (fn:=Tryz.f137) rfl rfl ol args w⟩
theorem zsb:Callee Tryz.prog 139:=⟨fun args w=>zad (fn:=Tryz.f139) rfl rfl ol args w⟩
theorem zsc:Callee Tryz.prog 140:=⟨fun args w=>zad (fn:=Tryz.f140) rfl rfl ol args w⟩
theorem zsd:Callee Tryz.prog 141:=⟨fun args w=>zad (fn:=Tryz.f141) rfl rfl ol args w⟩
theorem zi9:Callee Tryz.prog 142:=⟨fun args w=>zad (fn:=Tryz.f142) rfl rfl ol args w⟩
theorem zbl:Callee Tryz.prog 144:=⟨fun args w=>zad (fn:=Tryz.f144) rfl rfl ol args w⟩
theorem zse:Callee Tryz.prog 146:=⟨fun args w=>zad (fn:=Tryz.f146) rfl rfl ol args w⟩
theorem zsf:Callee Tryz.prog 147:=⟨fun args w=>zad (fn:=Tryz.f147) rfl rfl ol args w⟩
theorem zsg:Callee Tryz.prog 148:=⟨fun args w=>zad (fn:=Tryz.f148) rfl rfl ol args w⟩
theorem zoH:Callee Tryz.prog 150:=⟨fun args w=>zad (fn:=Tryz.f150) rfl rfl ol args w⟩
theorem zl2:Callee Tryz.prog 151:=⟨fun args w=>zad (fn:=Tryz.f151) rfl rfl ol args w⟩
theorem zfq:Callee Tryz.prog 152:=⟨fun args w=>zad (fn:=Tryz.f152) rfl rfl ol args w⟩
theorem zci:Callee Tryz.prog 153:=⟨fun args w=>zad (fn:=Tryz.f153) rfl rfl ol args w⟩
theorem zoI:Callee Tryz.prog 154:=⟨fun args w=>zad (fn:=Tryz.f154) rfl rfl ol args w⟩
theorem zsh:Callee Tryz.prog 155:=⟨fun args w=>zad (fn:=Tryz.f155) rfl rfl ol args w⟩
theorem zl3:Callee Tryz.prog 156:=⟨fun args w=>zad (fn:=Tryz.f156) rfl rfl ol args w⟩
theorem zhq:Callee Tryz.prog 157:=⟨fun args w=>zad (fn:=Tryz.f157) rfl rfl ol args w⟩
theorem zsi:Callee Tryz.prog 158:=⟨fun args w=>zad (fn:=Tryz.f158) rfl rfl ol args w⟩
theorem zdm:Callee Tryz.prog 159:=⟨fun args w=>zad (fn:=Tryz.f159) rfl rfl ol args w⟩
theorem zsj:Callee Tryz.prog 160:=⟨fun args w=>zad (fn:=Tryz.f160) rfl rfl ol args w⟩
theorem zoJ:Callee Tryz.prog 161:=⟨fun args w=>zad (fn:=Tryz.f161) rfl rfl ol args w⟩
theorem zoK:Callee Tryz.prog 162:=⟨fun args w=>zad (fn:=Tryz.f162) rfl rfl ol args w⟩
theorem zsk:Callee Tryz.prog 163:=⟨fun args w=>zad (fn:=Tryz.f163) rfl rfl ol args w⟩
theorem zhr:Callee Tryz.prog 164:=⟨fun args w=>zad (fn:=Tryz.f164) rfl rfl ol args w⟩
theorem zc9:Callee Tryz.prog 165:=⟨fun args w=>zad (fn:=Tryz.f165) rfl rfl ol args w⟩
theorem zeL:Callee Tryz.prog 166:=⟨fun args w=>zad (fn:=Tryz.f166) rfl rfl ol args w⟩
theorem zdn:Callee Tryz.prog 167:=⟨fun args w=>zad (fn:=Tryz.f167) rfl rfl ol args w⟩
theorem zcs:Callee Tryz.prog 168:=⟨fun args w=>zad (fn:=Tryz.f168) rfl rfl ol args w⟩
theorem zda:Callee Tryz.prog 169:=⟨fun args w=>zad (fn:=Tryz.f169) rfl rfl ol args w⟩
theorem zja:Callee Tryz.prog 170:=⟨fun args w=>zad (fn:=Tryz.f170) rfl rfl ol args w⟩
theorem zjb:Callee Tryz.prog 171:=⟨fun args w=>zad (fn:=Tryz.f171) rfl rfl ol args w⟩
theorem zl4:Callee Tryz.prog 192:=⟨fun args w=>zad (fn:=Tryz.f192) rfl rfl ol args w⟩
theorem zsl:Callee Tryz.prog 209:=⟨fun args w=>zad (fn:=Tryz.f209) rfl rfl ol args w⟩
theorem zsm:Callee Tryz.prog 210:=⟨fun args w=>zad (fn:=Tryz.f210) rfl rfl ol args w⟩
theorem zsn:Callee Tryz.prog 211:=⟨fun args w=>zad (fn:=Tryz.f211) rfl rfl ol args w⟩
theorem zso:Callee Tryz.prog 212:=⟨fun args w=>zad (fn:=Tryz.f212) rfl rfl ol args w⟩
theorem zhs:Callee Tryz.prog 218:=⟨fun args w=>zad (fn:=Tryz.f218) rfl rfl ol args w⟩
theorem zht:Callee Tryz.prog 219:=⟨fun args w=>zad (fn:=Tryz.f219) rfl rfl ol args w⟩
theorem zdb:Callee Tryz.prog 220:=⟨fun args w=>zad (fn:=Tryz.f220) rfl rfl ol args w⟩
theorem zje:Callee Tryz.prog 221:=⟨fun args w=>zad (fn:=Tryz.f221) rfl rfl ol args w⟩
theorem zdc:Callee Tryz.prog 222:=⟨fun args w=>zad (fn:=Tryz.f222) rfl rfl ol args w⟩
theorem zoL:Callee Tryz.prog 223:=⟨fun args w=>zad (fn:=Tryz.f223) rfl rfl ol args w⟩
theorem zsp:Callee Tryz.prog 224:=⟨fun args w=>zad (fn:=Tryz.f224) rfl rfl ol args w⟩
theorem zoM:Callee Tryz.prog 225:=⟨fun args w=>zad (fn:=Tryz.f225) rfl rfl ol args w⟩
theorem zl5:Callee Tryz.prog 226:=⟨fun args w=>zad (fn:=Tryz.f226) rfl rfl ol args w⟩
theorem zsq:Callee Tryz.prog 227:=⟨fun args w=>zad (fn:=Tryz.f227) rfl rfl ol args w⟩
theorem zoN:Callee Tryz.prog 228:=⟨fun args w=>zad (fn:=Tryz.f228) rfl rfl ol args w⟩
theorem zsr:Callee Tryz.prog 230:=⟨fun args w=>zad (fn:=Tryz.f230) rfl rfl ol args w⟩
theorem zss:Callee Tryz.prog 231:=⟨fun args w=>zad (fn:=Tryz.f231) rfl rfl ol args w⟩
theorem zst:Callee Tryz.prog 232:=⟨fun args w=>zad (fn:=Tryz.f232) rfl rfl ol args w⟩
theorem zoO:Callee Tryz.prog 233:=⟨fun args w=>zad (fn:=Tryz.f233) rfl rfl ol args w⟩
theorem zjf:Callee Tryz.prog 234:=⟨fun args w=>zad (fn:=Tryz.f234) rfl rfl ol args w⟩
theorem zoP:Callee Tryz.prog 235:=⟨fun args w=>zad (fn:=Tryz.f235) rfl rfl ol args w⟩
theorem zl6:Callee Tryz.prog 236:=⟨fun args w=>zad (fn:=Tryz.f236) rfl rfl ol args w⟩
theorem zsu:Callee Tryz.prog 237:=⟨fun args w=>zad (fn:=Tryz.f237) rfl rfl ol args w⟩
theorem zsv:Callee Tryz.prog 239:=⟨fun args w=>zad (fn:=Tryz.f239) rfl rfl ol args w⟩
theorem zl7:Callee Tryz.prog 240:=⟨fun args w=>zad (fn:=Tryz.f240) rfl rfl ol args w⟩
theorem zl8:Callee Tryz.prog 241:=⟨fun args w=>zad (fn:=Tryz.f241) rfl rfl ol args w⟩
theorem zsw:Callee Tryz.prog 242:=⟨fun args w=>zad (fn:=Tryz.f242) rfl rfl ol args w⟩
theorem zhu:Callee Tryz.prog 243:=⟨fun args w=>zad (fn:=Tryz.f243) rfl rfl ol args w⟩
theorem zoQ:Callee Tryz.prog 244:=⟨fun args w=>zad (fn:=Tryz.f244) rfl rfl ol args w⟩
theorem zoR:Callee Tryz.prog 245:=⟨fun args w=>zad (fn:=Tryz.f245) rfl rfl ol args w⟩
theorem zl9:Callee Tryz.prog 254:=⟨fun args w=>zad (fn:=Tryz.f254) rfl rfl ol args w⟩
theorem zsx:Callee Tryz.prog 269:=⟨fun args w=>zad (fn:=Tryz.f269) rfl rfl ol args w⟩
theorem zsy:Callee Tryz.prog 278:=⟨fun args w=>zad (fn:=Tryz.f278) rfl rfl ol args w⟩
theorem zsz:Callee Tryz.prog 279:=⟨fun args w=>zad (fn:=Tryz.f279) rfl rfl ol args w⟩
theorem zjh:Callee Tryz.prog 281:=⟨fun args w=>zad (fn:=Tryz.f281) rfl rfl ol args w⟩
theorem zsA:Callee Tryz.prog 282:=⟨fun args w=>zad (fn:=Tryz.f282) rfl rfl ol args w⟩
theorem zsB:Callee Tryz.prog 283:=⟨fun args w=>zad (fn:=Tryz.f283) rfl rfl ol args w⟩
theorem zsC:Callee Tryz.prog 284:=⟨fun args w=>zad (fn:=Tryz.f284) rfl rfl ol args w⟩
theorem zoS:Callee Tryz.prog 286:=⟨fun args w=>zad (fn:=Tryz.f286) rfl rfl ol args w⟩
theorem zsD:Callee Tryz.prog 287:=⟨fun args w=>zad (fn:=Tryz.f287) rfl rfl ol args w⟩
theorem mixed:Tryz.prog.follows .mixedOrders=true:=by kernel_rfl
def evT:Tabs:=⟨lk [(3,1,false),(4,1,false),(5,1,false),(9,1,false),(22,1,false),(23,1,false),(35,1,false),(36,1,false),(38,2,true),(39,1,false),(41,4,true),(58,1,false),(60,6,true),(74,1,false),(84,1,false),(91,4,true),(93,6,true),(98,3,true),(101,3,true),(103,9,true),(129,1,false),(131,2,true),(132,1,false),(134,2,true),(143,1,false),(145,3,true),(151,2,true),(153,4,true),(154,1,false),(155,1,false),(157,6,true),(175,1,false),(177,3,true),(183,1,false),(191,3,true),(296,1,false),(298,3,true),(308,1,false),(310,6,true),(311,3,true),(313,9,true),(316,4,true)],memN [22,23,24,35,36,39,51,58,70,74,83,84,129,132,143,154,155,175,212,296,308],memN [9],lk2 [(38,0,0),(38,1,1),(41,0,0),(41,1,1),(41,2,2),(41,3,3),(60,0,0),(60,1,1),(60,2,2),(60,3,3),(60,4,4),(60,5,5),(91,0,0),(91,1,2),(93,0,0),(93,1,4),(93,2,5),(98,0,0),(98,1,1),(98,2,2),(101,0,0),(101,1,1),(101,2,2),(103,0,0),(103,1,6),(131,0,0),(131,1,1),(134,0,0),(134,1,1),(145,0,0),(145,1,1),(145,2,2),(151,0,0),(151,1,1),(153,0,0),(153,1,2),(157,0,0),(157,1,4),(157,2,5),(177,0,0),(177,1,1),(177,2,2),(185,0,0),(185,1,1),(185,2,2),(191,0,0),(191,1,1),(201,0,0),(201,1,1),(298,0,0),(298,1,1),(298,2,2),(310,0,0),(310,1,1),(310,2,2),(310,3,3),(310,4,4),(310,5,5),(311,0,0),(311,1,1),(311,2,2),(313,0,0),(313,1,6),(316,0,0),(316,1,1),(316,2,2),(316,3,3)]⟩
theorem zhy:TabsOK Tryz.prog evT:=TabsOK.of oj oj oj oj
theorem sx {E e' env:Env}{H h' hp:Hp}{ks:List Nat} (hE:SubE E e') (hH:SubH H h') (he:e'.drop (e'.length-env.length)=env:=by kernel_rfl) (hc:zeM (zdF E++ks) (e'.take (e'.length-env.length))=true:=by kernel_rfl)
    (hh:h'.drop (h'.length-hp.length)=hp:=by kernel_rfl) (hhc:zdo (zcw H) (zcw hp) (h'.take (h'.length-hp.length))=true:=by kernel_rfl):Sub ⟨E++(zc4 ks++env),H++hp⟩ ⟨e',h'⟩:=Sub.x he hc hE hh hhc hH
section
variable {c:Ctx}{all:Array Oper}{chk:List Rec->Prop}{os:List Oper}{recs:List Rec}{env:Env}{hp:Hp}{Q:St->Prop}{d ty:Nat}{pos:String}{af:Array Edge}
theorem wc {f:FuncId}{args:Array Operand}{ats:Array TypeId}{xs:List Operand}{vs:List AV}{hpc hp0:Hp}{r:AV} (hc:Callee c.P f) (hf:FnD c.P f vs hpc r hp0) (hargs:args=xs.toArray) (hx:opdL env xs=some vs)
    (hn:Walk c all chk os (zam ([]++opFL xs vs) (hpF hpc) [] ⟨some (d,r),hp0⟩::recs) ⟨(d,r)::env,hp0++hp⟩ Q)
    (hd:Nat.blt d c.n=true:=by exact rfl) (hsub:subH hpc hp:=by first|exact trivial|exact⟨rfl,trivial⟩) (hnt:zeh hpc=true:=by exact rfl) (hok:zbs hpc hp0 r []=true:=by exact rfl)
    (hcr:zax env hp []=true:=by exact rfl):Walk c all chk (⟨some d,.call ⟨.value (.func f),args,ats⟩,ty,pos,af,none⟩::os) recs ⟨env,hp⟩ Q:=
  Walk.call (cr:=[]) hc hf hargs .none hd hx (LeL.refl _) hsub hnt hok hcr hn
theorem wd {f:FuncId}{args:Array Operand}{ats:Array TypeId}{xs:List Operand}{vs:List AV}{hpc hp0:Hp}{r:AV} (hc:Callee c.P f) (hf:FnD c.P f vs hpc r hp0) (hargs:args=xs.toArray) (hx:opdL env xs=some vs) (hsub:subH hpc hp)
    (hn:Walk c all chk os (zam ([]++opFL xs vs) (hpF hpc) [] ⟨some (d,r),hp0⟩::recs) ⟨(d,r)::env,hp0++hp⟩ Q)
    (hd:Nat.blt d c.n=true:=by exact rfl) (hnt:zeh hpc=true:=by exact rfl) (hok:zbs hpc hp0 r []=true:=by exact rfl)
    (hcr:zax env hp []=true:=by exact rfl):Walk c all chk (⟨some d,.call ⟨.value (.func f),args,ats⟩,ty,pos,af,none⟩::os) recs ⟨env,hp⟩ Q:=
  Walk.call (cr:=[]) hc hf hargs .none hd hx (LeL.refl _) hsub hnt hok hcr hn
variable {t:TypeId}{x y:Operand}
theorem so {id off k:Nat}{b:Bool}{v:AV}{cs vs cs':List AV} (ht:TyS c.P t k b)
    (hn:Walk c all chk os (zam ([]++(opF x (.ref id off)++opF y v)) [(id,.box cs)] [] ⟨none,[(id,some (.box cs'))]⟩::recs) ⟨env,(id,some (.box cs'))::hp⟩ Q)
    (hx:opd env x=some (.ref id off):=by exact rfl) (hy:opd env y=some v:=by exact rfl) (hb:getH hp id=some (.box cs):=by exact rfl) (hv:zbg v=some vs:=by exact rfl) (hk:vs.length=k:=by exact rfl)
    (h1:zgk vs=true:=by exact rfl) (hne:vs≠[]:=by simp) (hput:putC cs off vs=some cs':=by exact rfl):Walk c all chk (⟨none,.store t x y,ty,pos,af,none⟩::os) recs ⟨env,hp⟩ Q:=
  Walk.store ht .none hx hy hb hv hk h1 hne hput hn
theorem bx (id:Nat){v:AV}{cs:List AV}
    (hn:Walk c all chk os (zam ([]++opFL [x] [v]) [] [id] ⟨some (d,.ref id 0),[(id,some (.box cs))]⟩::recs) ⟨(d,.ref id 0)::env,(id,some (.box cs))::hp⟩ Q)
    (hd:Nat.blt d c.n=true:=by exact rfl) (hx:opd env x=some v:=by exact rfl) (hc:zbg v=some cs:=by exact rfl)
    (h0:getH hp id=none:=by exact rfl) (ho1:occE id env=false:=by exact rfl) (ho2:occH id hp=false:=by exact rfl) (hid:zaG id (AV.idsL cs)=false:=by exact rfl):
    Walk c all chk (⟨some d,.box t x,ty,pos,af,none⟩::os) recs ⟨env,hp⟩ Q:=Walk.box .none hd hx hc h0 ho1 ho2 hid hn
theorem ab (id:Nat){k:Nat}{zs:List AV} (ht:TyZ c.P t k zs)
    (hn:Walk c all chk os (zam ([]++[]) [] [id] ⟨some (d,.ref id 0),[(id,some (.box zs))]⟩::recs) ⟨(d,.ref id 0)::env,(id,some (.box zs))::hp⟩ Q)
    (hz:AV.idsL zs=[]:=by exact rfl) (hd:Nat.blt d c.n=true:=by exact rfl) (h0:getH hp id=none:=by exact rfl) (ho1:occE id env=false:=by exact rfl) (ho2:occH id hp=false:=by exact rfl):
    Walk c all chk (⟨some d,.alloc t,ty,pos,af,none⟩::os) recs ⟨env,hp⟩ Q:=Walk.alloc ht hz .none hd h0 ho1 ho2 hn
theorem bu (ks:List Nat) (xs:List Operand){parts:Array (Nat×Operand)}{vs zs r:List AV}{places:List (Nat×Nat)} (ht:StT c.P t places zs)
    (hn:Walk c all chk os (zam ([]++opFL xs vs) [] [] ⟨some (d,.agg r),[]⟩::recs) ⟨(d,.agg r)::env,hp⟩ Q)
    (hparts:parts=(ks.zip xs).toArray:=by exact rfl) (hlen:ks.length=xs.length:=by exact rfl) (hd:Nat.blt d c.n=true:=by exact rfl) (hx:opdL env xs=some vs:=by exact rfl)
    (hf:ze8 (places[·]?) zs (ks.zip vs)=some r:=by exact rfl):Walk c all chk (⟨some d,.build t parts,ty,pos,af,none⟩::os) recs ⟨env,hp⟩ Q:=Walk.build ht hparts hlen .none hd hx hf hn
theorem si (ks:List Nat) (xs:List Operand){parts:Array (Nat×Operand)}{n:Nat}{vs zs r:List AV}{es:List (List D)}{e k yb:Nat} (ht:SlT c.P t e k yb) (hz:TyZ c.P e k zs)
    (hn:Walk c all chk os (zam ([]++opFL xs vs) [] [] ⟨some (d,.d (.sl es)),[]⟩::recs) ⟨(d,.d (.sl es))::env,hp⟩ Q) (hzk:zs.length=k:=by exact rfl) (hk:0<k:=by decide)
    (hparts:parts=(ks.zip xs).toArray:=by exact rfl) (hlen:ks.length=xs.length:=by exact rfl) (hsmall:n*k<=16777216:=by decide) (hpos:0<n:=by decide) (hd:Nat.blt d c.n=true:=by exact rfl) (hx:opdL env xs=some vs:=by exact rfl)
    (hf:ze8 (fun i=>some (i*k,k)) (zbI n zs) (ks.zip vs)=some r:=by exact rfl) (hc:zbY n k r=some es:=by exact rfl):
    Walk c all chk (⟨some d,.buildSlice t n parts,ty,pos,af,none⟩::os) recs ⟨env,hp⟩ Q:=Walk.sliceLit ht hz hzk hk hparts hlen hsmall hpos .none hd hx hf hc hn
theorem ap {id k e yb:Nat}{xs ys:List (List D)}{vy:AV} (ht:SlT c.P t e k yb) (hz:ZeroT c.P e k) (hx:opd env x=some (.gl id xs)) (hy:opd env y=some vy) (hyd:vy.toD=some (.sl ys))
    (hky:∀y,y∈ys->y.length=k) (hb:(xs.length+ys.length)*70<=140737488355328)
    (hn:Walk c all chk os (zam ([]++(opF x (.gl id xs)++opF y vy)) [(id,.tok xs.length k)] [] ⟨some (d,.gl id (xs++ys)),[(id,some (.tok (xs.length+ys.length) k))]⟩::recs)
      ⟨(d,.gl id (xs++ys))::env,(id,some (.tok (xs.length+ys.length) k))::hp⟩ Q) (hk:Nat.blt 0 k=true:=by exact rfl) (hd:Nat.blt d c.n=true:=by exact rfl)
    (htok:getH hp id=some (.tok xs.length k):=by exact zjw I (by first|rfl|(simp;done)|(simp;omega))) (hyb:Nat.ble yb 70=true:=by exact rfl):
    Walk c all chk (⟨some d,.call ⟨.builtin .append,#[x,y],#[t,t]⟩,ty,pos,af,none⟩::os) recs ⟨env,hp⟩ Q:=
  Walk.append ht hz hk .none hd hx hy hyd htok hky (Nat.le_trans (Nat.mul_le_mul_left _ (Nat.le_of_ble_eq_true hyb)) hb) od hn
end
section
variable {c:Ctx}{all:Array Oper}{chk:List Rec->Prop}{os:List Oper}{recs:List Rec}{env:Env}{hp:Hp}{Q:St->Prop}
theorem evs (stop:List Nat) (kn:List (Nat×Bool)) (h:evW evT stop c all (fun _=>True) Q (fun _ env hp=>Q ⟨env,hp⟩) os recs env hp kn) (hk:KN env kn:=by exact trivial) (hT:TabsOK c.P evT:=by exact zhy):Walk c all (fun _=>True) os recs ⟨env,hp⟩ Q:=
  zhz hT (fun _ _ _ h=>⟨trivial,h⟩) hk h
theorem evd (stop:List Nat) (kn:List (Nat×Bool)) (h:evW evT stop c all chk Q (fun recs env hp=>chk recs/\Q ⟨env,hp⟩) os recs env hp kn) (hk:KN env kn:=by exact trivial) (hT:TabsOK c.P evT:=by exact zhy):Walk c all chk os recs ⟨env,hp⟩ Q:=
  zhz hT (fun _ _ _ h=>h) hk h
theorem ev (h:evW evT [] c all (fun _=>True) Q (fun _ env hp=>Q ⟨env,hp⟩) os recs env hp []) (hT:TabsOK c.P evT:=by exact zhy):Walk c all (fun _=>True) os recs ⟨env,hp⟩ Q:=
  evs [] [] h trivial hT
theorem evc (stop rs:List Nat){x:Code}{s:St}{K:Kt} (h:evC evT stop rs c x s K) (hT:TabsOK c.P evT:=by exact zhy) (hm:c.P.follows .mixedOrders=true:=by exact mixed):CWp c x s K:=zfv hT hm h
end
theorem bd (fn:Func) (n:Nat) (stop rs:List Nat){f:Nat}{code:Code}{rv:List ResultVar}{args:List AV}{hp:Hp}{Post:AV->Hp->Prop}
    (h:∀w0 F0 own kept,KeptIn kept (zeK hp)->evC evT stop rs ⟨Tryz.prog,n,w0,F0,own,kept⟩ code ⟨zgK 0 args,hp⟩ ⟨Fin Tryz.prog rv hp Post,fun _ _=>False,Fin Tryz.prog rv hp Post⟩)
    (hf:(Tryz.prog).funcs[f]?=some fn:=by exact rfl) (hb:fn.body=some code:=by exact rfl) (hnn:fn.ntmps=n:=by exact rfl) (hrs:fn.results.toList=rv:=by exact rfl) (hn:Nat.ble args.length n=true:=by exact rfl):
    Fn Tryz.prog f args hp Post:=Fn.body hf hb hnn hrs hn (fun w0 F0 own kept hk=>zfv zhy mixed (h w0 F0 own kept hk))
theorem ar {n:Int}{X:Prop} (k:X) (b:I64 n:=by first|(constructor<;>omega)|(constructor<;>simp<;>omega)):Ar n X:=⟨b,k⟩
class Nz (p:Prop) (q:outParam Prop):Prop where
  nz:p->q
instance (priority:=low){p:Prop}:Nz p p:=⟨id⟩
instance {b:Bool}{q:Prop} [h:Nz (b=false) q]:Nz ((!b)=true) q:=⟨fun hb=>h.nz (by simpa using hb)⟩
instance {b:Bool}{q:Prop} [h:Nz (b=true) q]:Nz ((!b)=false) q:=⟨fun hb=>h.nz (by simpa using hb)⟩
theorem sq {b:Bool}{X Y q r:Prop} [h1:Nz (b=true) q] [h2:Nz (b=false) r] (t:b=true->b=true->q->X) (f:b=false->b=false->r->Y):Sp b X Y:=⟨fun h=>t h h (h1.nz h),fun h=>f h h (h2.nz h)⟩
theorem sqT {b:Bool}{X Y:Prop} (h:X) (hb:b=true:=by exact rfl):Sp b X Y:=⟨fun _=>h,fun h2=>absurd (h2.symm.trans hb) ol⟩
theorem sqF {b:Bool}{X Y:Prop} (h:Y) (hb:b=false:=by exact rfl):Sp b X Y:=⟨fun h2=>absurd (h2.symm.trans hb) ol,fun _=>h⟩
theorem dr {X Y:Prop} (h:Y) (hc:X:=by show _=_;kernel_rfl):X/\Y:=⟨hc,h⟩
section
variable {P:Program}{rs:List ResultVar}{hp:Hp}{s:St}{vs:List AV}{r:AV}
theorem rn {Post:AV->Hp->Prop} (hp':Hp) (h1:ResL P s rs vs) (h2:LeA (zg2 vs) r) (h3:Post r hp') (h4:HSub (hp'++hp) s.hp) (h5:∀id,zb8 hp id=true->zb8 (hp'++hp) id=true):Fin P rs hp Post s:=⟨vs,r,hp',h1,h2,h3,h4,h5⟩
theorem rn0 (h1:ResL P s rs vs) (h2:LeA (zg2 vs) r):Fin P rs [] (fun x y=>x=r/\y=[]) s:=⟨vs,r,[],h1,h2,⟨rfl,rfl⟩,HSub.nil,ztp⟩
theorem r1 {i:Nat}{v:AV} (h:getE s.env i=some v):ResL P s [.tmp i] [v]:= .cons (.tmp h) .nil
theorem rq{i:Nat}{x y:D} (e:x=y) (h:getE s.env i=some (.d x):=by exact rfl):Fin P [.tmp i] [] (fun a b=>a=.d y/\b=[]) s:=rn0 (r1 h) (.eqd e)
theorem r2 {i j:Nat}{v w:AV} (h:getE s.env i=some v) (h':getE s.env j=some w):ResL P s [.tmp i,.tmp j] [v,w]:= .cons (.tmp h) (.cons (.tmp h') .nil)
theorem rc{a t id off k i:Nat}{cs r:List AV}{v:AV} (ht:TyS P t k true) (h:getE s.env a=some (.ref id off):=by exact rfl) (hb:getH s.hp id=some (.box cs):=by exact rfl) (hv:cutC cs off k=some r:=by exact rfl) (h2:getE s.env i=some v:=by exact rfl):ResL P s [.cell a t,.tmp i] [.agg r,v]:=.cons (.cellA ht h hb hv) (.cons (.tmp h2) .nil)
theorem ra{a t id off k:Nat}{cs r:List AV} (ht:TyS P t k true) (h:getE s.env a=some (.ref id off):=by exact rfl) (hb:getH s.hp id=some (.box cs):=by exact rfl) (hv:cutC cs off k=some r:=by exact rfl):ResL P s [.cell a t] [.agg r]:=.cons (.cellA ht h hb hv) .nil
end
section
variable {env e':Env}{hp h':Hp}{ks:List Nat}{n:Nat}{u v:AV}{p q:Bool}
theorem jn (hu:getE e' n=some u) (le:LeA u v) (he:e'.drop (e'.length-env.length)=env:=by kernel_rfl) (hc:zeM (zdF [(n,v)]++ks) (e'.take (e'.length-env.length))=true:=by kernel_rfl)
    (hh:h'.drop (h'.length-hp.length)=hp:=by kernel_rfl) (hhc:zdo (zcw []) (zcw hp) (h'.take (h'.length-hp.length))=true:=by kernel_rfl):Sub ⟨[(n,v)]++(zc4 ks++env),[]++hp⟩ ⟨e',h'⟩:=
  Sub.x he hc ⟨⟨_,hu,le⟩,trivial⟩ hh hhc trivial
theorem jnb (hu:getE e' n=some (.d (.bool p))) (hpq:p=q:=by first|rfl|(rw[xat];(try simp only[BQ])<;>first|omega|(simp_all;done)|(simp_all;omega)))
    (he:e'.drop (e'.length-env.length)=env:=by kernel_rfl) (hc:zeM (zdF [(n,.d (.bool q))]++ks) (e'.take (e'.length-env.length))=true:=by kernel_rfl)
    (hh:h'.drop (h'.length-hp.length)=hp:=by kernel_rfl) (hhc:zdo (zcw []) (zcw hp) (h'.take (h'.length-hp.length))=true:=by kernel_rfl):Sub ⟨[(n,.d (.bool q))]++(zc4 ks++env),[]++hp⟩ ⟨e',h'⟩:=
  jn hu (xaU hpq) he hc hh hhc
end
end Go.Proofs.YtmkipahfpaacgaaGreatDoor
namespace Go.Proofs.YtmkipahfpaacgaaGreatDoor
set_option linter.unusedSimpArgs false
set_option linter.unusedVariables false
abbrev Str:=List UInt8
structure Ty where
 data:Int
 index:Int
 deriving DecidableEq,Inhabited
structure Ctor where
 name:Str
 args:List Ty
 index:Int
 deriving DecidableEq,Inhabited
structure Data where
 name:Str
 ctors:List Ctor
 deriving DecidableEq,Inhabited
inductive Val where
 |mk (ctor n:Int) (kids:List Val)
 deriving Inhabited
inductive Pat where
 |mk (op ctor n m var:Int) (kids:List Pat)
 deriving Inhabited
abbrev Ty.c (t:Ty):List D:=[.i t.data,.i t.index]
abbrev zbH (l:List Ty):D:= .sl (l.map Ty.c)
abbrev Ctor.c (x:Ctor):List D:=[.str x.name,zbH x.args,.i x.index]
abbrev zqi (l:List Ctor):D:= .sl (l.map Ctor.c)
abbrev Data.c (x:Data):List D:=[.str x.name,zqi x.ctors]
abbrev zae (l:List Data):D:= .sl (l.map Data.c)
abbrev zcq (l:List Int):D:= .sl (l.map fun n=>[.i n])
abbrev zcA (l:List Str):D:= .sl (l.map fun n=>[.str n])
mutual
def Val.c:Val->List D
 | .mk ctor n kids=>[.i ctor,.i n,.sl (Val.cs kids)]
def Val.cs:List Val->List (List D)
 | []=>[]
 |v::r=>v.c::Val.cs r
end
abbrev zif (l:List Val):D:= .sl (Val.cs l)
mutual
def Pat.c:Pat->List D
 | .mk op ctor n m var kids=>[.i op,.i ctor,.i n,.i m,.i var,.sl (Pat.cs kids)]
def Pat.cs:List Pat->List (List D)
 | []=>[]
 |v::r=>v.c::Pat.cs r
end
theorem xba:∀l:List Val,Val.cs l=l.map Val.c
 | []=>rfl
 |v::r=>by simp[Val.cs,xba r]
theorem xaY:∀l:List Pat,Pat.cs l=l.map Pat.c
 | []=>rfl
 |v::r=>by simp[Pat.cs,xaY r]
theorem zaM {α β:Type}{f:α->β}{pre:List α}{x:α}{rest xs:List α} (h:pre++x::rest=xs):(xs.map f)[pre.length]?=some (f x):=by
 subst h;simp
def Val.ctor:Val->Int | .mk a _ _=>a
def Val.num:Val->Int | .mk _ n _=>n
def Val.kids:Val->List Val | .mk _ _ k=>k
abbrev Val.cc (v:Val):List D:=[.i v.ctor,.i v.num,.sl (Val.cs v.kids)]
theorem Val.c_eq (v:Val):v.c=v.cc:=by cases v;rfl
theorem Val.eta (v:Val):Val.mk v.ctor v.num v.kids=v:=by cases v;rfl
theorem xbb (l:List Val):(Val.cs l).length=l.length:=by simp[xba]
theorem Pat.cs_len (l:List Pat):(Pat.cs l).length=l.length:=by simp[xaY]
end Go.Proofs.YtmkipahfpaacgaaGreatDoor
namespace Go.Proofs.YtmkipahfpaacgaaGreatDoor
open Go
set_option linter.unusedSimpArgs false
set_option linter.unusedVariables false
def zaf (n lo hi:Int):Bool:=decide (lo<=n)&&decide (n<=hi)
def zbb (b:UInt8):Bool:=decide (65<=(b.toNat:Int))&&decide ((b.toNat:Int)<=90)
def zaN (b:UInt8):Bool:=decide (97<=(b.toNat:Int))&&decide ((b.toNat:Int)<=122)
def zbQ (s:Str):Bool:=s.all zaN
def zcm (s:Str):Bool:=zaf s.length 1 5&&(match s with | []=>false|b::r=>zbb b&&zbQ r)
def zbc (n:Nat) (t:Ty):Bool:=(decide (t.data = -1)&&(decide (t.index=0)&&true))||(zaf t.data 0 (n-1)&&zaf t.index (-1) 3)
def zbp (n:Nat) (c:Ctor):Bool:=zcm c.name&&(decide ((c.args.length:Int)<=3)&&(zaf c.index 0 3&& !(c.args.any fun t=> !zbc n t)))
def zaR (n:Nat) (t:Ty):Bool:=(decide (t.data = -1)&&(decide (t.index=0)&&true))||(zaf t.data 0 (n-1)&&zaf t.index 0 3)
def za9 (s:Str):Bool:=decide ((s.length:Int)=1)&&(zbb (s.getD 0 0)&& !decide (s=[73]))
def zcz (n:Nat) (met:List Str):List Ctor->Option (List Str)
 | []=>some met
 |c::r=>if zbp n c&& !decide (c.name∈met) then zcz n (met++[c.name]) r else none
def zbv (n:Nat) (met datas:List Str):List Data->Bool
 | []=>true
 |d::r=>za9 d.name&& !decide (d.name∈datas)&&zaf d.ctors.length 1 4&&
  (match zcz n met d.ctors with
   |some met'=>zbv n met' (datas++[d.name]) r
   |none=>false)
def zaL (w:List Data):Bool:=decide ((w.length:Int)<=4)&&zbv w.length [] [] w
def zbm (w:List Data) (t:Ty):Bool:=zaL w&&zaR w.length t
structure WSmall (w:List Data):Prop where
 len:w.length<=1000000000000
 data:∀d∈w,d.name.length<=1000000000000/\d.ctors.length<=1000000000000
 ctor:∀d∈w,∀c∈d.ctors,c.name.length<=1000000000000/\c.args.length<=1000000000000
def nth {α:Type} [Inhabited α] (l:List α) (i:Nat):α:=l.getD i default
theorem zag {α β:Type} [Inhabited α]{f:α->β}{l:List α}{i:Nat} (h:i<l.length):(l.map f)[i]?=some (f (nth l i)):=by
 simp[nth,List.getD,h]
theorem zao {α:Type} [Inhabited α]{l:List α}{i:Nat} (h:i<l.length):nth l i∈l:=by
 simp[nth,List.getD,h]
theorem WSmall.ctors {w:List Data} (h:WSmall w) (i:Nat):(nth w i).ctors.length<=1000000000000:=by
 by_cases hi:i<w.length
 ·exact(h.data _ (zao hi)).2
 ·have:nth w i=default:=by simp[nth,List.getD,List.getElem?_eq_none (Nat.le_of_not_lt hi)]
  rw[this];exact Nat.zero_le _
def zbC (w:List Data) (d k i j:Nat):Bool:=(decide (i<d)||decide (j<k))&&(decide (k<(nth w d).ctors.length)&&decide ((nth (nth w i).ctors j).name=(nth (nth w d).ctors k).name))
def zcL (w:List Data) (d k i:Nat):Bool:=(decide (i<d)&&decide ((nth w i).name=(nth w d).name))||(List.range (nth w i).ctors.length).any (zbC w d k i)
def zkc (w:List Data) (d k:Nat):Bool:=(List.range (d+1)).any (zcL w d k)
def zdw (w:List Data) (d k:Nat):Bool:=zbp w.length (nth (nth w d).ctors k)&& !zkc w d k
def zb4 (w:List Data) (d:Nat):Bool:=za9 (nth w d).name&&(decide (1<=(nth w d).ctors.length)&&(decide ((nth w d).ctors.length<=4)&&(List.range (nth w d).ctors.length).all (zdw w d)))
def zbf (w:List Data):Bool:=decide (w.length<=4)&&(List.range w.length).all (zb4 w)
theorem zeb {n:Nat}{p:Nat->Bool} (h:∀i,i<n->p i=false):(List.range n).any p=false:=by
 rw[List.any_eq_false];intro i hi;rw[h i (List.mem_range.1 hi)];simp
theorem zco {n:Nat}{p:Nat->Bool}{i:Nat} (hi:i<n) (h:p i=true):(List.range n).any p=true:=
 List.any_eq_true.2 ⟨i,List.mem_range.2 hi,h⟩
theorem zdi {n:Nat}{p:Nat->Bool}{i:Nat} (hi:i<n) (h:p i=false):(List.range n).all p=false:=
 List.all_eq_false.2 ⟨i,List.mem_range.2 hi,by simp[h]⟩
theorem zev {n:Nat}{p:Nat->Bool} (h:∀i,i<n->p i=true):(List.range n).all p=true:=by
 rw[List.all_eq_true];intro i hi;exact h i (List.mem_range.1 hi)
theorem zbq {P:Nat->Prop}{i:Nat} (h:∀j,j<i->P j) (hi:P i):∀j,j<i+1->P j:=fun j hj=>by
 rcases Nat.lt_or_eq_of_le (Nat.le_of_lt_succ hj) with h1|h1
 ·exact h j h1
 ·exact h1 ▸ hi
theorem zf2 {w:List Data}{d k i j:Nat} (h1:(decide (i<d)&&decide ((nth w i).name=(nth w d).name))=false) (h2:∀j',j'<j->zbC w d k i j'=false)
  (h3:j<(nth w i).ctors.length->d<=i/\k<=j):zcL w d k i=false:=by
 unfold zcL;rw[h1,Bool.false_or];refine zeb (fun j' hj'=>?_);by_cases h:j'<j
 ·exact h2 j' h
 ·have:=h3 od;have e1:decide (i<d)=false:=xaw od;have e2:decide (j'<k)=false:=xaw od;simp only[zbC,e1,e2,Bool.or_self,Bool.false_and]
set_option maxRecDepth 100000
set_option maxHeartbeats 2000000
theorem zbe {n lo hi:Int}:FnD Tryz.prog 125 [.d (.i n),.d (.i lo),.d (.i hi)] [] (.d (.bool (zaf n lo hi))) []:=by
 refine bd Tryz.f125 15 [] [] fun _ _ _ _ hk=>?_;apply sq<;>intro h1 h1p h1s;focus (refine rq ?_;all_goals ((simp[zaf,h1s,h1p];done)))
 focus (refine rq ?_;all_goals ((simp[zaf,h1s,h1p];done)))
theorem zbR {s:Str} (h:0<s.length):zcm s=(zaf s.length 1 5&&(zbb s[0]&&zbQ (s.drop 1))):=by
 rcases s with _|⟨b,r⟩
 ·simp at h
 ·simp[zcm]
theorem zha {s:Str} (h:s.length=0\/5<s.length):zcm s=false:=by
 have:zaf s.length 1 5=false:=by
  simp only[zaf,Bool.and_eq_false_iff,decide_eq_false_iff_not];omega
 simp[zcm,this]
theorem zcB {s:Str}{i:Nat} (h:i<s.length):zbQ (s.drop i)=(zaN s[i]&&zbQ (s.drop (i+1))):=by
 unfold zbQ;rw[List.drop_eq_getElem_cons h,List.all_cons]
theorem zhP {s:Str}{i:Nat} (h:s.length<=i):zbQ (s.drop i)=true:=by
 rw[List.drop_eq_nil_of_le h];rfl
theorem zir {s:Str} (hs:s.length<=1000000000000):FnD Tryz.prog 209 [.d (.str s)] [] (.d (.bool (zcm s))) []:=by
 refine bd Tryz.f209 34 [] [] fun _ _ _ _ hk=>?_;refine wc zc8 zbe I I ?_;refine ev ?_;apply sq<;>intro h1 h1p h1s;refine sqT ?_;refine sqT ?_;focus (refine rq ?_;all_goals ((simp[zcm,h1s,h1p];done)))
 try simp only[Q,zaf] at h1p
 refine xbD (i:=0) un9 (.some I I h1) I I I I (xan od) ?_;refine evs [] [(8,false)] ?_ ⟨⟨_,I,h1⟩,O⟩;apply sq<;>intro h3 h3p h3s<;>(try simp only[Q,zaf] at h3p);refine sqT ?_;focus (refine rq ?_;all_goals ((rw[zbR od];simp[zbb];omega)))
 refine xbD (i:=0) un9 (.some I I h3) I I I I (xan od) ?_;refine evs [] [(13,false)] ?_ ⟨⟨_,I,h3⟩,O⟩;apply sq<;>intro h5 h5p h5s<;>(try simp only[Q,zaf] at h5p);focus (refine rq ?_;all_goals ((rw[zbR od];simp[zbb];omega)))
 refine xaA (ι:=Nat) hk (fun i=>[(3,.d (.i (i:Int)))]) [2,18,19,20,21,22,23,24,25,26,27,28,29,30,31,32,33] (fun i=>[]) (fun i=>1<=i/\i<=s.length/\zbQ (s.drop i)=zbQ (s.drop 1)) (fun i=>s.length-i) 1 ⟨by omega,by omega,I⟩ ⟨⟨_,I,xaV ?_⟩,O⟩ O (fun x=>rfl) (fun i hg1=>?_);focus (rfl)
 refine evc [] [] ?_;apply sq<;>intro h6 h6p h6s<;>(try simp only[Q,zaf] at h6p);refine xbD un9 .none I I I I (xan od) ?_;refine ev ?_;apply sq<;>intro h7 h7p h7s<;>(try simp only[Q,zaf] at h7p);refine sqT ?_;focus (refine rq ?_;all_goals ((rw[zbR od,<-hg1.2.2,zcB od];simp[zaN];omega)))
 refine xbD un9 (.some I I h7) I I I I (xan od) ?_;refine evs [] [(28,false)] ?_ ⟨⟨_,I,h7⟩,O⟩;apply sq<;>intro h9 h9p h9s<;>(try simp only[Q,zaf] at h9p);focus (refine rq ?_;all_goals ((rw[zbR od,<-hg1.2.2,zcB od];simp[zaN];omega)))
 refine ar (xaj (i+1) ⟨⟨by omega,by omega,by rw[<-hg1.2.2,zcB (i:=i) od];simp[zaN];omega⟩, ?_,sx ⟨⟨_,I,xaV ?_⟩,O⟩ O⟩);focus (omega)
 focus (rfl)
 focus (refine rq ?_;all_goals ((rw[zbR od,<-hg1.2.2,zhP od];simp[zaf,zbb];omega)))
theorem zgC (hp:Hp):(zeK hp).all (fun id=>(getH ([]++hp) id).isSome)=true:=by
 rw[List.all_eq_true];intro id h;simp only[zeK,List.mem_filter] at h;exact(zeg h.2).1
def idxF {α:Type} (p:α->Bool):List α->Nat->Int
 | [],_=> -1
 |x::r,i=>if p x then (i:Int) else idxF p r (i+1)
theorem zgP {α:Type} (p:α->Bool):∀(l:List α) (i:Nat),decide (0<=idxF p l i)=l.any p
 | [],_=>by simp[idxF]
 |x::r,i=>by
  unfold idxF;cases h:p x with
  |true=>simp[h]
  |false=>simp[h,zgP p r (i+1)]
theorem zfE {hp:Hp} (h:zbs hp [] (.d .nilp) []=true) (x:D):zbs hp [] (.d x) []=true:=h
theorem zgh {xs:List Ty}{f:Nat}{caps:List AV}{hp:Hp}{p:Ty->Bool} (hs:xs.length<=1000000000000) (hcal:Callee Tryz.prog f)
  (hf:∀t∈xs,FnD Tryz.prog f ([.agg [.d (.i t.data),.d (.i t.index)]]++caps) hp (.d (.bool (p t))) []) (k1:subH hp hp) (k2:zeh hp=true) (k3:zbs hp [] (.d .nilp) []=true):
  FnD Tryz.prog 269 [.d (zbH xs),.fn f caps] hp (.d (.i (idxF p xs 0))) []:=by
 refine bd Tryz.f269 19 [] [] fun _ _ _ _ hk=>?_;refine xaA (ι:=List (Ty)×List (Ty)) hk (fun x=>[(8,.d (.i (x.1.length:Int)))]) [4,5,9,10,11,12,13,14,15,16,17,18] (fun x=>[]) (fun x=>x.1++x.2=xs/\idxF p x.2 x.1.length=idxF p xs 0) (fun x=>x.2.length) ([],xs) ⟨by simp,I⟩ ⟨⟨_,I,xaV ?_⟩,O⟩ O (fun x=>zgC hp) (fun x hg1=>?_);focus (rfl)
 obtain⟨pre,rest⟩:=x;dsimp only at hg1 ⊢;refine evc [] [] ?_;apply sq<;>intro h1 h1p h1s<;>(try simp only[Q] at h1p);rcases rest with _|⟨y,rest⟩
 ·exfalso;simp_all
 refine ixq zaJ I I I (zaM hg1.1) I (ev (xbq (cr:=[]) hcal (hf y (by rw[<-hg1.1];simp)) I .none I I I (LeL.refl _) k1 k2 (zfE k3 _) I ?_));apply tv;apply sq<;>intro h2 h2p h2s<;>(try simp only[Q] at h2p);focus (refine rn [] (r1 I) (.eqd ?_) ⟨I,I⟩ (fun _ _ h=>h) (fun _ h=>h);all_goals (rw[<-hg1.2];simp[idxF,h1s,h1p,h2s,h2p]))
 refine ar (xaj ((pre++[y],rest)) ⟨⟨(by have hz:=hg1.1;rw[<-hz];simp),(by rw[<-hg1.2];simp[idxF,h2s])⟩,og,Sub.x oj oj ⟨⟨_,I,xaV ?_⟩,O⟩ og (by simp[zdo]) O⟩);focus ((simp;done))
 have hrest:rest=[]:=by
  rcases rest with _|⟨a,b⟩
  ·rfl
  ·exfalso;have hz:=xam List.length (hg1.1);simp only[xaa,xab,xac] at hz;omega
 subst hrest;focus (refine rn [] (r1 I) (.eqd ?_) ⟨I,I⟩ (fun _ _ h=>h) (fun _ h=>h);all_goals (rw[<-hg1.2];simp[idxF,h1s,h1p]))
theorem zfe {xs:List Ty}{f:Nat}{caps:List AV}{hp:Hp}{p:Ty->Bool} (hs:xs.length<=1000000000000) (hcal:Callee Tryz.prog f)
  (hf:∀t∈xs,FnD Tryz.prog f ([.agg [.d (.i t.data),.d (.i t.index)]]++caps) hp (.d (.bool (p t))) []) (k1:subH hp hp) (k2:zeh hp=true) (k3:zbs hp [] (.d .nilp) []=true):
  FnD Tryz.prog 210 [.d (zbH xs),.fn f caps] hp (.d (.bool (xs.any p))) []:=by
 refine bd Tryz.f210 9 [] [] fun _ _ _ _ hk=>?_;refine Walk.call (cr:=[]) zsx (zgh hs hcal hf k1 k2 k3) I .none I I (LeL.refl _) k1 k2 (zfE k3 _) I (ev (rn [] (r1 I) (.eqd ?_) ⟨I,I⟩ (fun _ _ h=>h) (fun _ h=>h)));rotate_left;all_goals (exact xam D.bool (zgP p xs 0))
theorem zlC {w:List Data}{a b:Int} (hs:w.length<=1000000000000):FnD Tryz.prog 212 [.d (zae w),.agg [.d (.i a),.d (.i b)]] [] (.d (.bool (zbc w.length ⟨a,b⟩))) []:=by
 refine bd Tryz.f212 21 [7] [] fun _ _ _ _ hk=>?_;refine bx 3003 ?_;refine evs [7] [] (bu [0] [_] st38 ?_);refine xbz eq38 .none I I I I I (evs [7] [] ?_);apply sq<;>intro h1 h1p h1s;try simp only[Q] at h1p
 focus (refine rq ?_;all_goals ((simp[zbc,h1s,h1p];done)))
 refine ar ?_ (by constructor<;>simp<;>omega);refine Walk.call (cr:=[]) zc8 zbe I (.some I I h1) I I (LeL.refl _) O I I I (evs [7] [(8,false)] ?_ ⟨⟨_,I,h1⟩,O⟩);apply sq<;>intro h2 h2p h2s;refine Walk.call (cr:=[]) zc8 zbe I (.some I I h2) I I (LeL.refl _) O I I I (evs [7] [(8,false),(15,true)] ?_ ⟨⟨_,I,h1⟩,⟨_,I,h2⟩,O⟩);focus (refine rq ?_;all_goals ((simp_all[zbc];done)))
 focus (refine rq ?_;all_goals ((simp_all[zbc];done)))
theorem zdE {w:List Data}{a b:Int} (hs:w.length<=1000000000000):FnD Tryz.prog 135 [.d (zae w),.agg [.d (.i a),.d (.i b)]] [] (.d (.bool (zaR w.length ⟨a,b⟩))) []:=by
 refine bd Tryz.f135 21 [7] [] fun _ _ _ _ hk=>?_;refine bx 3003 ?_;refine evs [7] [] (bu [0] [_] st38 ?_);refine xbz eq38 .none I I I I I (evs [7] [] ?_);apply sq<;>intro h1 h1p h1s;try simp only[Q] at h1p
 focus (refine rq ?_;all_goals ((simp[zaR,h1s,h1p];done)))
 refine ar ?_ (by constructor<;>simp<;>omega);refine Walk.call (cr:=[]) zc8 zbe I (.some I I h1) I I (LeL.refl _) O I I I (evs [7] [(8,false)] ?_ ⟨⟨_,I,h1⟩,O⟩);apply sq<;>intro h2 h2p h2s;refine Walk.call (cr:=[]) zc8 zbe I (.some I I h2) I I (LeL.refl _) O I I I (evs [7] [(8,false),(15,true)] ?_ ⟨⟨_,I,h1⟩,⟨_,I,h2⟩,O⟩);focus (refine rq ?_;all_goals ((simp_all[zaR];done)))
 focus (refine rq ?_;all_goals ((simp_all[zaR];done)))
theorem ziT {w:List Data}{a b:Int} (hs:w.length<=1000000000000):FnD Tryz.prog 211 [.agg [.d (.i a),.d (.i b)],.ref 1002 0] [(1002,some (.box [.d (zae w)]))] (.d (.bool (!zbc w.length ⟨a,b⟩))) []:=by
 refine bd Tryz.f211 8 [] [] fun _ _ _ _ hk=>?_;refine bx 3002 ?_;refine ev (wc zso (zlC hs) I I ?_);refine ev ?_;focus (refine rn [] (r1 I) (.eqd ?_) ⟨I,I⟩ (SubH.get ⟨I,O⟩) (fun _ h=>h);all_goals (rfl))
theorem zkv {w:List Data}{s:Str}{args:List Ty}{k:Int} (hs:w.length<=1000000000000) (hn:s.length<=1000000000000) (ha:args.length<=1000000000000):FnD Tryz.prog 126 [.d (zae w),.agg [.d (.str s),.d (zbH args),.d (.i k)]] [] (.d (.bool (zbp w.length ⟨s,args,k⟩))) []:=by
 refine bd Tryz.f126 26 [] [] fun _ _ _ _ hk=>?_;refine bx 1002 ?_;refine bx 3003 ?_;refine ev (wc zsl (zir hn) I I ?_);refine ev ?_;apply sq<;>intro h1 h1p h1s;apply sq<;>intro h2 h2p h2s<;>(try simp only[Q] at h2p);refine Walk.call (cr:=[]) zc8 zbe I (.some I I h2) I I (LeL.refl _) O I I I (evs [] [(14,true)] ?_ ⟨⟨_,I,h2⟩,O⟩);apply sq<;>intro h3 h3p h3s;try simp only[Q] at h3p
 refine xbt (xs:=[_]) I (.some I I h3) I I (Walk.call (cr:=[]) zsm (zfe (p:=fun t=> !zbc w.length t) ha zsn (fun t _=>ziT hs) ⟨I,O⟩ I I) I (.some I I h3) I I (LeL.refl _) ⟨I,O⟩ I I I (evs [] [(19,true)] ?_ ⟨⟨_,I,h3⟩,O⟩));focus (refine rq ?_;all_goals ((simp[zbp,h1s,h1p,h2s,h2p,h3s,h3p];done)))
 focus (refine rq ?_;all_goals ((simp[zbp,h1s,h1p,h2s,h2p,h3s,h3p];done)))
 refine sqF ?_;focus (refine rq ?_;all_goals ((simp[zbp,h1s,h1p,h2s,h2p];done)))
 refine sqF ?_;refine sqF ?_;focus (refine rq ?_;all_goals ((simp[zbp,h1s,h1p];done)))
theorem zju {s:Str} (h:0<s.length):s.getD 0 0=s[0]:=by
 rcases s with _|⟨b,r⟩
 ·simp at h
 ·rfl
theorem xaF (c:Ctor):Ctor.mk c.name c.args c.index=c:=rfl
theorem Ty.eta (c:Ty):Ty.mk c.data c.index=c:=rfl
theorem Data.eta (c:Data):Data.mk c.name c.ctors=c:=rfl
theorem zr2 {w:List Data}{met datas:List Str} (h4:(w.length:Int)<=4) (h:zbv w.length met datas []=zbv w.length [] [] w):D.bool true=D.bool (zaL w):=by
 unfold zaL;rw[<-h,xax h4];rfl
theorem zdz {w rest:List Data}{met datas:List Str} (h:zbv w.length met datas rest=zbv w.length [] [] w) (h2:zbv w.length met datas rest=false):D.bool false=D.bool (zaL w):=by
 unfold zaL;rw[<-h,h2,Bool.and_false]
theorem zhE {w:List Data} (hs:WSmall w):FnD Tryz.prog 56 [.d (zae w)] [] (.d (.bool (zaL w))) []:=by
 have hs1:=hs.len;refine bd Tryz.f56 79 [] [] fun _ _ _ _ hk=>?_;apply sq<;>intro h1 h1p h1s<;>(try simp only[Q] at h1p);focus (refine rq ?_;all_goals ((simp[zaL];omega)))
 refine Walk.makeMap (id:=3012) .none I I (ev (Walk.makeMap (id:=3013) .none I I (ev (xaA (ι:=List (Data)×List (Data)×(List Str)×(List Str)) hk (fun x=>[(16,.d (.i (x.1.length:Int))),(3,.mapr 3012),(4,.mapr 3013)]) [2,6,8,17,18,19,20,21,22,23,24,25,26,27,28,29,30,31,32,33,34,35,36,37,38,39,40,41,42,43,44,45,46,47,48,49,50,51,52,53,54,55,56,57,58,59,60,61,62,63,64,65,66,67,68,69,70,71,72,73,74,75,76,77,78] (fun x=>[(3012,some (.map x.2.2.1)),(3013,some (.map x.2.2.2))]) (fun x=>x.1++x.2.1=w/\zbv w.length x.2.2.1 x.2.2.2 x.2.1=zbv w.length [] [] w) (fun x=>x.2.1.length) ([],w,[],[]) ⟨by simp,I⟩ ⟨⟨_,I,xaV ?_⟩,⟨⟨_,I, ?_⟩,⟨⟨_,I, ?_⟩,O⟩⟩⟩ ⟨?_,⟨?_,O⟩⟩ (fun x=>rfl) (fun x hg1=>?_)))));focus (rfl)
 iterate 2 focus (exact LeA.refl _)
 iterate 2 focus (first|rfl|(simp[getH];done))
 obtain⟨pre,rest,met,datas⟩:=x;dsimp only at hg1 ⊢;refine evc [] [] ?_;apply sq<;>intro h2 h2p h2s<;>(try simp only[Q] at h2p);rcases rest with _|⟨d,rest⟩
 ·exfalso;simp_all
 refine ixq sl23 I I I (zaM hg1.1) I (ev (ab 3006 zou ?_));refine so zri ?_;apply tv;apply sq<;>intro h3 h3p h3s<;>(try simp only[Q] at h3p);refine sqT ?_;refine sqT ?_;refine sqT ?_;refine sqT ?_;refine sqT ?_;focus (refine rq ?_;all_goals ((refine zdz hg1.2 ?_;simp[zbv,za9,h1s,h1p,h2s,h2p,h3s,h3p];done)))
 refine xbD (i:=0) un9 (.some I I h3) I I I I (xan od) ?_;refine evs [] [(24,false)] ?_ ⟨⟨_,I,h3⟩,O⟩;apply sq<;>intro h5 h5p h5s<;>(try simp only[Q] at h5p);refine sqT ?_;refine sqT ?_;refine sqT ?_;refine sqT ?_;focus (refine rq ?_;all_goals ((refine zdz hg1.2 ?_;simp only[zbv,za9,zju (s:=d.name) od,zbb];simp[h1s,h1p,h2s,h2p,h3s,h3p,h5s,h5p];omega)))
 refine xbD (i:=0) un9 (.some I I h5) I I I I (xan od) ?_;refine evs [] [(30,false)] ?_ ⟨⟨_,I,h5⟩,O⟩;apply sq<;>intro h7 h7p h7s<;>(try simp only[Q] at h7p);refine sqT ?_;refine sqT ?_;refine sqT ?_;focus (refine rq ?_;all_goals ((refine zdz hg1.2 ?_;simp only[zbv,za9,zju (s:=d.name) od,zbb];simp[h1s,h1p,h2s,h2p,h3s,h3p,h5s,h5p,h7s,h7p];omega)))
 apply sq<;>intro h9 h9p h9s<;>(try simp only[Q] at h9p);refine sqT ?_;refine sqT ?_;focus (refine rq ?_;all_goals ((refine zdz hg1.2 ?_;simp[zbv,za9,h1s,h1p,h2s,h2p,h3s,h3p,h5s,h5p,h7s,h7p,h9s,h9p];done)))
 refine Walk.lookup zlR (.some I I h9) I I I I (evs [] [(41,false)] ?_ ⟨⟨_,I,h9⟩,O⟩);apply sq<;>intro h11 h11p h11s<;>(try simp only[Q] at h11p);refine sqT ?_;focus (refine rq ?_;all_goals ((refine zdz hg1.2 ?_;simp[zbv,za9,h1s,h1p,h2s,h2p,h3s,h3p,h5s,h5p,h7s,h7p,h9s,h9p,h11s,h11p];done)))
 refine Walk.call (cr:=[]) zc8 zbe I (.some I I h11) I I (LeL.refl _) O I I I (evs [] [(47,false)] ?_ ⟨⟨_,I,h11⟩,O⟩);apply sq<;>intro h13 h13p h13s<;>(try simp only[Q] at h13p);focus (refine rq ?_;all_goals ((refine zdz hg1.2 ?_;simp[zbv,za9,h1s,h1p,h2s,h2p,h3s,h3p,h5s,h5p,h7s,h7p,h9s,h9p,h11s,h11p,h13s,h13p];done)))
 refine Walk.mapUpdate zlR .none I I I I ox ?_;apply tv;refine xaA (ι:=List (Ctor)×List (Ctor)×(List Str)) hk (fun x=>[(60,.d (.i (x.1.length:Int)))]) [2,8,61,62,63,64,65,66,67,68,69,70,71,72,73,74,75,76,77] (fun x=>[(3012,some (.map x.2.2))]) (fun x=>x.1++x.2.1=d.ctors/\zcz w.length x.2.2 x.2.1=zcz w.length met d.ctors) (fun x=>x.2.1.length) ([],d.ctors,met) ⟨by simp,I⟩ ⟨⟨_,I,xaV ?_⟩,O⟩ ⟨?_,O⟩ (fun x=>rfl) (fun x hg2=>?_);focus (rfl)
 focus (first|rfl|(simp[getH];done))
 obtain⟨pre2,rest2,met2⟩:=x;dsimp only at hg2 ⊢;have hb:=(hs.data d (by rw[<-hg1.1];simp)).2;refine evc [] [] ?_;apply sq<;>intro h14 h14p h14s<;>(try simp only[Q] at h14p);rcases rest2 with _|⟨y,rest2⟩
 ·exfalso;simp_all
 refine ixq zbN I I I (zaM hg2.1) I (ev (ab 3008 zfg ?_));refine so zcy ?_;apply tv;refine wc zr7 (zkv hs1 (hs.ctor d (by rw[<-hg1.1];simp) y (by rw[<-hg2.1];simp)).1 (hs.ctor d (by rw[<-hg1.1];simp) y (by rw[<-hg2.1];simp)).2) I I ?_;refine ev ?_;apply sq<;>intro h15 h15p h15s<;>(try simp only[Q] at h15p);refine sqT ?_;focus (refine rq ?_;all_goals ((refine zdz hg1.2 ?_;rw[zbv,<-hg2.2];simp[zcz,h1s,h1p,h2s,h2p,h3s,h3p,h5s,h5p,h7s,h7p,h9s,h9p,h11s,h11p,h13s,h13p,h14s,h14p,h15s,h15p];done)))
 refine Walk.lookup zlR (.some I I h15) I I I I (evs [] [(68,false)] ?_ ⟨⟨_,I,h15⟩,O⟩);apply sq<;>intro h17 h17p h17s<;>(try simp only[Q] at h17p);focus (refine rq ?_;all_goals ((refine zdz hg1.2 ?_;rw[zbv,<-hg2.2];simp[zcz,h1s,h1p,h2s,h2p,h3s,h3p,h5s,h5p,h7s,h7p,h9s,h9p,h11s,h11p,h13s,h13p,h14s,h14p,h15s,h15p,h17s,h17p];done)))
 refine Walk.mapUpdate zlR .none I I I I ox ?_;apply tv;refine ar (xaj ((pre2++[y],rest2,met2++[y.name])) ⟨⟨(by have hz:=hg2.1;rw[<-hz];simp),(by rw[<-hg2.2];simp[zcz,h1s,h1p,h2s,h2p,h3s,h3p,h5s,h5p,h7s,h7p,h9s,h9p,h11s,h11p,h13s,h13p,h14s,h14p,h15s,h15p,h17s,h17p])⟩,og,sx ⟨⟨_,I,xaV ?_⟩,O⟩ ⟨?_,O⟩⟩);focus ((simp;done))
 focus (first|rfl|(simp[getH];done))
 have hrest2:rest2=[]:=by
  rcases rest2 with _|⟨a,b⟩
  ·rfl
  ·exfalso;have hz:=xam List.length (hg2.1);simp only[xaa,xab,xac] at hz;omega
 subst hrest2;refine ar (xaj ((pre++[d],rest,met2,datas++[d.name])) ⟨⟨(by have hz:=hg1.1;rw[<-hz];simp),(by rw[<-hg1.2,zbv,<-hg2.2];simp only[za9,zju (s:=d.name) od,zbb];simp[zcz,h1s,h1p,h2s,h2p,h3s,h3p,h5s,h5p,h7s,h7p,h9s,h9p,h11s,h11p,h13s,h13p,h14s,h14p];omega)⟩,og,sx ⟨⟨_,I,xaV ?_⟩,⟨⟨_,I, ?_⟩,⟨⟨_,I, ?_⟩,O⟩⟩⟩ ⟨?_,⟨?_,O⟩⟩⟩);focus ((simp;done))
 iterate 2 focus (exact LeA.refl _)
 iterate 2 focus (first|rfl|(simp[getH];done))
 have hrest:rest=[]:=by
  rcases rest with _|⟨a,b⟩
  ·rfl
  ·exfalso;have hz:=xam List.length (hg1.1);simp only[xaa,xab,xac] at hz;omega
 subst hrest;focus (refine rq ?_;all_goals ((exact zr2 od hg1.2)))
theorem ze1 {w:List Data}{a b:Int} (hs:WSmall w):FnD Tryz.prog 79 [.d (zae w),.agg [.d (.i a),.d (.i b)]] [] (.d (.bool (zbm w ⟨a,b⟩))) []:=by
 refine bd Tryz.f79 12 [] [] fun _ _ _ _ hk=>?_;refine bx 3003 ?_;refine ev (wc zta (zhE hs) I I ?_);refine ev ?_;apply sq<;>intro h1 h1p h1s;refine Walk.call (cr:=[]) zi8 (zdE hs.len) I (.some I I h1) I I (LeL.refl _) O I I I (evs [] [(7,true)] ?_ ⟨⟨_,I,h1⟩,O⟩);focus (refine rq ?_;all_goals ((simp[zbm,h1s,h1p];done)))
 focus (refine rq ?_;all_goals ((simp[zbm,h1s,h1p];done)))
abbrev zgD (x:UInt8):List D:=[.int .u8 (x.toNat:Int)]
abbrev za7 (b:Str):D:= .sl (b.map zgD)
abbrev rdB (b:Str) (p:Nat):Res:= .box [.d (za7 b),.d (.i p)]
theorem zkm (u:UInt8):0<=IntKind.i64.wrap (u.toNat:Int)/\IntKind.i64.wrap (u.toNat:Int)<=255:=by
 have h:u.toNat<256:=u.toNat_lt;rw[zbU od];omega
def zeJ (b:Str) (p:Nat):Int:=
 IntKind.i64.wrap ((nth b (p % b.length)).toNat:Int)*131+IntKind.i64.wrap ((nth b ((p*7+3) % b.length)).toNat:Int)*1117+((p:Int)+1-1)*29+((p:Int)+1-1) / ((b.map zgD).length:Int)*53
def zan (b:Str) (p:Nat) (n:Int):Int:=
 if n<1\/b.length=0 then 0
 else if p<b.length then IntKind.i64.wrap ((nth b p).toNat:Int) % n
 else xorV (zeJ b p) (zeJ b p / 64) % n
theorem zaK {b:Str}{p:Nat}{n:Int} (h:1<=n):0<=zan b p n/\zan b p n<n:=by
 unfold zan;split
 ·omega
 ·split
  ·exact⟨Int.emod_nonneg _ od,Int.emod_lt_of_pos _ od⟩
  ·exact⟨Int.emod_nonneg _ od,Int.emod_lt_of_pos _ od⟩
theorem oy{p:Prop}(h:p:=by rw[un5];rfl):p:=h
theorem zaC {b:Str}{p:Nat}{n:Int} (hb:b.length<=2000) (hp:p<=1000000000000) (hn:n<=1000000000000):
  FnD Tryz.prog 144 [.ref 900 0,.d (.i n)] [(900,some (rdB b p))] (.d (.i (zan b p n))) [(900,some (rdB b (p+1)))]:=by
 have w1:=zkm (nth b (p % b.length));have w2:=zkm (nth b ((p*7+3) % b.length));have w3:=zkm (nth b p);have hlen:((b.map zgD).length:Int)=b.length:=by simp
 have d1:0<=((p:Int)+1-1) / ((b.map zgD).length:Int):=Int.ediv_nonneg od od;have d2:((p:Int)+1-1) / ((b.map zgD).length:Int)<=(p:Int)+1-1:=Int.ediv_le_self _ od;have hx:0<=zeJ b p/\zeJ b p<=100*1000000000000:=by unfold zeJ;omega
 have hx2:=zr4 (m:=zeJ b p) (n:=zeJ b p / 64) od od;have k1:(p:Int)+1-1=(p:Int):=by omega
 have hx3:=hx2;have hx4:=hx;unfold zeJ at hx3 hx4;refine bd Tryz.f144 99 [46,57,74,89,94,95,98] [] fun _ _ _ _ hk=>?_;refine ar (so ty3 ?_);apply tv;apply sq<;>intro h1 h1p h1s<;>(try simp only[Q] at h1p);refine sqT ?_;refine rn [(900,some (rdB b (p+1)))] (r1 I) (.eqd ?_) ⟨I,I⟩ (SubO.get ⟨.inr ?_,⟨.inl I,O⟩⟩) (zaj I);rotate_left 2;apply sq<;>intro h3 h3p h3s<;>(try simp only[Q] at h3p);refine rn [(900,some (rdB b (p+1)))] (r1 I) (.eqd ?_) ⟨I,I⟩ (SubO.get ⟨.inr ?_,⟨.inl I,O⟩⟩) (zaj I);rotate_left 2;refine ar ?_;apply sq<;>intro h4 h4p h4s<;>(try simp only[Q] at h4p);refine ixq (i:=p) sl22 I I od (zag od) I ?_;refine evs [46,57,74,89,94,95,98] [] (xbu oy un3 .none I I ?_);refine evs [46,57,74,89,94,95,98] [] (xbP .none I I I od ?_);refine evs [46,57,74,89,94,95,98] [] (rn [(900,some (rdB b (p+1)))] (r1 I) (.eqd ?_) ⟨I,I⟩ (SubO.get ⟨.inr ?_,⟨.inl I,O⟩⟩) (zaj I));rotate_left 2;refine xbP .none I I I od ?_;refine ixq (i:=p % b.length) sl22 I I (by rw[k1,hlen];rfl) (zag (Nat.mod_lt _ od)) I ?_;refine evd [46,57,74,89,94,95,98] [] (xbu oy un3 .none I I ?_);refine evd [46,57,74,89,94,95,98] [] (ar (ar (ar (xbP .none I I I od ?_))));refine ixq (i:=(p*7+3) % b.length) sl22 I I (by rw[k1,hlen];rfl) (zag (Nat.mod_lt _ od)) I ?_;refine evd [46,57,74,89,94,95,98] [] (xbu oy un3 .none I I ?_);refine evd [46,57,74,89,94,95,98] [] (ar (ar (ar (ar (xbN .none I I I od ?_)))));refine evd [46,57,74,89,94,95,98] [] (ar (ar (dr (xbN .none I I I od ?_))));refine Walk.xorI .none I I I (evs [46,57,74,89,94,95,98] [] (xbP .none I I I od ?_));refine evs [46,57,74,89,94,95,98] [] (rn [(900,some (rdB b (p+1)))] (r1 I) (.eqd ?_) ⟨I,I⟩ (SubO.get ⟨.inr ?_,⟨.inl I,O⟩⟩) (zaj I));rotate_left 2;all_goals (first|((refine xam D.i ?_;unfold zan;first|(rw[if_pos od];done)|(rw[if_neg od,if_pos od];done)|(rw[if_neg od,if_neg od];rfl));done)|(rfl))
def numV (b:Str) (p:Nat) (l:List Int):Int:=nth l (zan b p l.length).toNat
theorem zcM {b:Str}{p:Nat}{l:List Int} (hb:b.length<=2000) (hp:p<=1000000000000) (hl:1<=l.length) (hl2:l.length<=1000):
  FnD Tryz.prog 152 [.ref 900 0,.d (zcq l)] [(900,some (rdB b p))] (.d (.i (numV b p l))) [(900,some (rdB b (p+1)))]:=by
 have hv:=zaK (b:=b) (p:=p) (n:=((l.map fun n=>[D.i n]).length:Int)) oq;have hlen:((l.map fun n=>[D.i n]).length:Int)=l.length:=by simp
 refine bd Tryz.f152 12 [] [] fun _ _ _ _ hk=>?_;refine wd zbl (zaC hb hp oq) I I ⟨I,O⟩ ?_;refine xbB (i:=(zan b p ((l.map fun n=>[D.i n]).length:Int)).toNat) zbd .none I I I od (zag od) I ?_;refine ev (rn [(900,some (rdB b (p+1)))] (r1 I) (.eqd ?_) ⟨I,I⟩ (SubO.get ⟨.inr ?_,⟨.inl I,O⟩⟩) (zaj I));rotate_left 2;all_goals (first|((refine xam D.i ?_;unfold numV;rw[hlen]);done)|(rfl))
def ofV (b:Str) (p:Nat) (l:List Str):Str:=nth l (zan b p l.length).toNat
theorem zos {b:Str}{p:Nat}{l:List Str} (hb:b.length<=2000) (hp:p<=1000000000000) (hl:1<=l.length) (hl2:l.length<=1000):
  FnD Tryz.prog 148 [.ref 900 0,.d (zcA l)] [(900,some (rdB b p))] (.d (.str (ofV b p l))) [(900,some (rdB b (p+1)))]:=by
 have hv:=zaK (b:=b) (p:=p) (n:=((l.map fun n=>[D.str n]).length:Int)) oq;have hlen:((l.map fun n=>[D.str n]).length:Int)=l.length:=by simp
 refine bd Tryz.f148 12 [] [] fun _ _ _ _ hk=>?_;refine wd zbl (zaC hb hp oq) I I ⟨I,O⟩ ?_;refine xbB (i:=(zan b p ((l.map fun n=>[D.str n]).length:Int)).toNat) sl84 .none I I I od (zag od) I ?_;refine ev (rn [(900,some (rdB b (p+1)))] (r1 I) (.eqd ?_) ⟨I,I⟩ (SubO.get ⟨.inr ?_,⟨.inl I,O⟩⟩) (zaj I));rotate_left 2;all_goals (first|((refine xam D.str ?_;unfold ofV;rw[hlen]);done)|(rfl))
theorem zf3 {b:Str} (hb:b.length<=1000000000000):FnD Tryz.prog 71 [.d (za7 b)] [] (.ref 900 0) [(900,some (rdB (b.take 2000) 0))]:=by
 refine bd Tryz.f71 11 [] [] fun _ _ _ _ hk=>?_;apply sq<;>intro h1 h1p h1s<;>(try simp only[Q] at h1p);refine Walk.cut_h (b:=2000) sl22 .none I I I (by intro x hx;obtain⟨y,_,rfl⟩:=List.mem_map.1 hx;rfl) I I (by simp at *;omega) ?_;refine ev (bu [0] [_] zrg ?_);refine bx 900 ?_;refine ev ?_;focus (refine rn [(900,some (rdB (b.take 2000) 0))] (r1 I) (.refl _) ⟨I,I⟩ (SubH.get ⟨(by(simp[getH,rdB,za7,List.map_take];done)),O⟩) (zaj I);all_goals (rfl))
 refine bu [0] [_] zrg ?_;refine bx 900 ?_;refine ev ?_;focus (refine rn [(900,some (rdB (b.take 2000) 0))] (r1 I) (.refl _) ⟨I,I⟩ (SubH.get ⟨(by(show some (Res.box _)=some (Res.box _);rw[List.take_of_length_le (by simp at *;omega)];rfl)),O⟩) (zaj I);all_goals ((simp[h1s,h1p];done)))
def zcd (n:Int):Bool:=decide (65<=n)&&decide (n<=90)
theorem zeY {n:Int}:FnD Tryz.prog 226 [.d (.int .u8 n)] [] (.d (.bool (zcd n))) []:=by
 refine bd Tryz.f226 9 [] [] fun _ _ _ _ hk=>?_;apply sq<;>intro h1 h1p h1s;focus (refine rq ?_;all_goals ((simp[zcd,h1s,h1p];done)))
 focus (refine rq ?_;all_goals ((simp[zcd,h1s,h1p];done)))
theorem zit {s:Str} (hs:s.length<=1000000000000):FnD Tryz.prog 227 [.d (.str s)] [] (.d (.bool (zcm s))) []:=by
 refine bd Tryz.f227 34 [] [] fun _ _ _ _ hk=>?_;apply sq<;>intro h1 h1p h1s<;>(try simp only[Q,zcd] at h1p);refine sqT ?_;refine sqT ?_;focus (refine rq ?_;all_goals ((rw[zha od];done)))
 apply sq<;>intro h3 h3p h3s<;>(try simp only[Q,zcd] at h3p);refine sqT ?_;focus (refine rq ?_;all_goals ((rw[zha od];done)))
 refine xbD (i:=0) un9 (.some I I h3) I I I I (xan od) ?_;refine Walk.call (cr:=[]) zl5 zeY I (.some I I h3) I I (LeL.refl _) O I I I (evs [] [(12,false)] ?_ ⟨⟨_,I,h3⟩,O⟩);apply sq<;>intro h5 h5p h5s<;>(try simp only[Q,zcd] at h5p);focus (refine rq ?_;all_goals ((rw[zbR od];simp only[zbb,h1s,h1p,h3s,h3p,h5s,h5p];simp;done)))
 refine xaA (ι:=Nat) hk (fun i=>[(3,.d (.i (i:Int)))]) [2,18,19,20,21,22,23,24,25,26,27,28,29,30,31,32,33] (fun i=>[]) (fun i=>1<=i/\i<=s.length/\zbQ (s.drop i)=zbQ (s.drop 1)) (fun i=>s.length-i) 1 ⟨by omega,by omega,I⟩ ⟨⟨_,I,xaV ?_⟩,O⟩ O (fun x=>rfl) (fun i hg1=>?_);focus (rfl)
 refine evc [] [] ?_;apply sq<;>intro h6 h6p h6s<;>(try simp only[Q,zcd] at h6p);refine xbD un9 .none I I I I (xan od) ?_;refine ev ?_;apply sq<;>intro h7 h7p h7s<;>(try simp only[Q,zcd] at h7p);refine sqT ?_;focus (refine rq ?_;all_goals ((rw[zbR od,<-hg1.2.2,zcB od];simp[zaN];omega)))
 refine xbD un9 (.some I I h7) I I I I (xan od) ?_;refine evs [] [(28,false)] ?_ ⟨⟨_,I,h7⟩,O⟩;apply sq<;>intro h9 h9p h9s<;>(try simp only[Q,zcd] at h9p);focus (refine rq ?_;all_goals ((rw[zbR od,<-hg1.2.2,zcB od];simp[zaN];omega)))
 refine ar (xaj (i+1) ⟨⟨by omega,by omega,by rw[<-hg1.2.2,zcB (i:=i) od];simp[zaN];omega⟩, ?_,sx ⟨⟨_,I,xaV ?_⟩,O⟩ O⟩);focus (omega)
 focus (rfl)
 focus (refine rq ?_;all_goals ((rw[zbR od,<-hg1.2.2,zhP od];simp[zaf,zbb];omega)))
theorem zkJ {s:Str} (hs:s.length<=1000000000000):FnD Tryz.prog 139 [.d (.str s)] [] (.d (.bool (za9 s))) []:=by
 refine bd Tryz.f139 15 [] [] fun _ _ _ _ hk=>?_;apply sq<;>intro h1 h1p h1s;try simp only[Q] at h1p
 refine xbD (i:=0) un9 (.some I I h1) I I I I (xan od) ?_;refine Walk.call (cr:=[]) zl5 zeY I (.some I I h1) I I (LeL.refl _) O I I I (evs [] [(6,true)] ?_ ⟨⟨_,I,h1⟩,O⟩);apply sq<;>intro h2 h2p h2s;try simp only[Q] at h2p
 focus (refine rq ?_;all_goals ((simp only[za9,zju (s:=s) od,zbb];simp only[zcd,xad,xah] at *;simp[*];done)))
 focus (refine rq ?_;all_goals ((simp only[za9,zju (s:=s) od,zbb];simp only[zcd,xad,xah] at *;simp[*];done)))
 refine sqF ?_;focus (refine rq ?_;all_goals ((simp[za9,h1s,h1p];done)))
theorem zhc {n:Nat}{a b:Int}:FnD Tryz.prog 228 [.d (.i n),.agg [.d (.i a),.d (.i b)]] [] (.d (.bool (zbc n ⟨a,b⟩))) []:=by
 refine bd Tryz.f228 30 [] [] fun _ _ _ _ hk=>?_;refine bx 3003 ?_;refine ev ?_;apply sq<;>intro h1 h1p h1s;try simp only[Q] at h1p
 focus (refine rq ?_;all_goals ((simp[zbc,zaf,h1s,h1p];done)))
 apply sq<;>intro h2 h2p h2s;try simp only[Q] at h2p
 apply sq<;>intro h3 h3p h3s<;>(try simp only[Q] at h3p);apply sq<;>intro h4 h4p h4s;try simp only[Q] at h4p
 focus (refine rq ?_;all_goals ((apply xam D.bool;rw[xat];simp[zbc,zaf];omega)))
 focus (refine rq ?_;all_goals ((simp[zbc,zaf,h1s,h1p,h2s,h2p,h3s,h3p,h4s,h4p];done)))
 refine sqF ?_;focus (refine rq ?_;all_goals ((apply xam D.bool;rw[xat];simp[zbc,zaf];omega)))
 refine sqF ?_;refine sqF ?_;focus (refine rq ?_;all_goals ((simp[zbc,zaf,h1s,h1p,h2s,h2p];done)))
theorem zkH {n:Nat}{s:Str}{args:List Ty}{k:Int} (hn:s.length<=1000000000000) (ha:args.length<=1000000000000):FnD Tryz.prog 140 [.d (.i n),.agg [.d (.str s),.d (zbH args),.d (.i k)]] [] (.d (.bool (zbp n ⟨s,args,k⟩))) []:=by
 refine bd Tryz.f140 41 [] [] fun _ _ _ _ hk=>?_;refine bx 3003 ?_;refine ev (wc zsq (zit hn) I I ?_);refine ev ?_;apply sq<;>intro h1 h1p h1s;refine sqT ?_;refine sqT ?_;refine sqT ?_;focus (refine rq ?_;all_goals ((simp[zbp,h1s,h1p];done)))
 apply sq<;>intro h3 h3p h3s<;>(try simp only[Q] at h3p);refine sqT ?_;refine sqT ?_;focus (refine rq ?_;all_goals ((apply xam D.bool;simp[zbp,zaf];omega)))
 apply sq<;>intro h5 h5p h5s<;>(try simp only[Q] at h5p);refine sqT ?_;focus (refine rq ?_;all_goals ((apply xam D.bool;simp[zbp,zaf];omega)))
 apply sq<;>intro h7 h7p h7s<;>(try simp only[Q] at h7p);focus (refine rq ?_;all_goals ((apply xam D.bool;simp[zbp,zaf];omega)))
 refine xaA (ι:=List (Ty)×List (Ty)) hk (fun x=>[(5,.d (.i (x.1.length:Int)))]) [4,26,27,28,29,30,31,32,33,34,35,36,37,38,39,40] (fun x=>[]) (fun x=>x.1++x.2=args/\(x.2.any fun t=> !zbc n t)=args.any fun t=> !zbc n t) (fun x=>x.2.length) ([],args) ⟨by simp,I⟩ ⟨⟨_,I,xaV ?_⟩,O⟩ O (fun x=>rfl) (fun x hg1=>?_);focus (rfl)
 obtain⟨pre,rest⟩:=x;dsimp only at hg1 ⊢;refine evc [] [] ?_;apply sq<;>intro h8 h8p h8s<;>(try simp only[Q] at h8p);rcases rest with _|⟨y,rest⟩
 ·exfalso;simp_all
 refine ixq zaJ I I I (zaM hg1.1) I (ev (wc zoN zhc I I ?_));refine ev ?_;apply sq<;>intro h9 h9p h9s<;>(try simp only[Q] at h9p);focus (refine rq ?_;all_goals ((simp only[zbp];rw[<-hg1.2];simp[zaf,h1s,h1p,h3s,h3p,h5s,h5p,h7s,h7p,h8s,h8p,h9s,h9p];done)))
 refine ar (xaj ((pre++[y],rest)) ⟨⟨(by have hz:=hg1.1;rw[<-hz];simp),(by rw[<-hg1.2];simp[Ty.eta,h1s,h1p,h3s,h3p,h5s,h5p,h7s,h7p,h8s,h8p,h9s,h9p])⟩,og,sx ⟨⟨_,I,xaV ?_⟩,O⟩ O⟩);focus ((simp;done))
 have hrest:rest=[]:=by
  rcases rest with _|⟨a,b⟩
  ·rfl
  ·exfalso;have hz:=xam List.length (hg1.1);simp only[xaa,xab,xac] at hz;omega
 subst hrest;focus (refine rq ?_;all_goals ((simp only[zbp];rw[<-hg1.2];simp[zaf,h1s,h1p,h3s,h3p,h5s,h5p,h7s,h7p,h8s,h8p];omega)))
theorem zj5 {w:List Data}{d k:Nat} (hs:WSmall w) (hd:d<w.length):FnD Tryz.prog 141 [.d (zae w),.d (.i d),.d (.i k)] [] (.d (.bool (zkc w d k))) []:=by
 have hw:=hs.len;refine bd Tryz.f141 79 [] [] fun _ _ _ _ hk=>?_;refine xaA (ι:=Nat) hk (fun i=>[(7,.d (.i (i:Int)))]) [6,8,9,10,11,12,13,14,15,16,17,18,19,20,21,22,23,24,25,26,27,28,29,30,31,32,33,34,35,36,37,38,39,40,41,42,43,44,45,46,47,48,49,50,51,52,53,54,55,56,57,58,59,60,61,62,63,64,65,66,67,68,69,70,71,72,73,74,75,76,77,78] (fun i=>[]) (fun i=>i<=d+1/\∀i',i'<i->zcL w d k i'=false) (fun i=>d+1-i) 0 ⟨by omega,fun _ h=>absurd h od⟩ ⟨⟨_,I,xaV ?_⟩,O⟩ O (fun x=>rfl) (fun i hg1=>?_);focus (rfl)
 refine evc [] [] ?_;apply sq<;>intro h1 h1p h1s<;>(try simp only[Q,Int.ofNat_lt,Int.ofNat_le] at h1p);apply sq<;>intro h2 h2p h2s<;>(try simp only[Q,Int.ofNat_lt,Int.ofNat_le] at h2p);refine xbB sl23 (.some I I h2) I I I I (zag od) I ?_;refine evd [] [(17,true)] ?_ ⟨⟨_,I,h2⟩,O⟩;refine xbB sl23 (.some I I h2) I I I I (zag od) I ?_;refine evd [] [(17,true)] ?_ ⟨⟨_,I,h2⟩,O⟩;refine dr ?_;apply sq<;>intro h3 h3p h3s<;>(try simp only[Q,Int.ofNat_lt,Int.ofNat_le] at h3p);focus (refine rq ?_;all_goals ((refine xam D.bool (zco (i:=i) od ?_).symm;simp[zcL,h1s,h1p,h2s,h2p,h3s,h3p];done)))
 refine xaA (ι:=Nat) hk (fun j=>[(8,.d (.i (j:Int)))]) [6,30,31,32,33,34,35,36,37,38,39,40,41,42,43,44,45,46,47,48,49,50,51,52,53,54,55,56,57,58,59,60,61,62,63,64,65,66,67,68,69,70,71,72,73,74,75,76,77,78] (fun j=>[]) (fun j=>j<=(nth w i).ctors.length/\∀j',j'<j->zbC w d k i j'=false) (fun j=>(nth w i).ctors.length-j) 0 ⟨by omega,fun _ h=>absurd h od⟩ ⟨⟨_,I,xaV ?_⟩,O⟩ O (fun x=>rfl) (fun j hg2=>?_);focus (rfl)
 have hb:=hs.ctors i;refine evc [] [] (ixq sl23 I I I (zag od) I ?_);refine ev ?_;apply sq<;>intro h4 h4p h4s<;>(try simp only[Q,Int.ofNat_lt,Int.ofNat_le] at h4p);apply sq<;>intro h5 h5p h5s<;>(try simp only[Q,Int.ofNat_lt,Int.ofNat_le] at h5p);refine sqT ?_;refine ixq sl23 I I I (zag od) I ?_;refine evd [] [] ?_;apply sq<;>intro h7 h7p h7s<;>(try simp only[Q,Int.ofNat_lt,Int.ofNat_le] at h7p);refine xbB sl23 (.some I I h7) I I I I (zag od) I ?_;refine evd [] [(58,true)] ?_ ⟨⟨_,I,h7⟩,O⟩;refine xbB zbN (.some I I h7) I I I I (zag od) I ?_;refine evd [] [(58,true)] ?_ ⟨⟨_,I,h7⟩,O⟩;refine xbB sl23 (.some I I h7) I I I I (zag od) I ?_;refine evd [] [(58,true)] ?_ ⟨⟨_,I,h7⟩,O⟩;refine xbB zbN (.some I I h7) I I I I (zag od) I ?_;refine evd [] [(58,true)] ?_ ⟨⟨_,I,h7⟩,O⟩;refine dr ?_;apply sq<;>intro h8 h8p h8s<;>(try simp only[Q,Int.ofNat_lt,Int.ofNat_le] at h8p);focus (refine rq ?_;all_goals ((refine xam D.bool (zco (i:=i) od ?_).symm;unfold zcL;rw[zco (i:=j) od (by simp[zbC,h1s,h1p,h2s,h2p,h3s,h3p,h4s,h4p,h5s,h5p,h7s,h7p,h8s,h8p])];simp;done)))
 refine ar (xaj (j+1) ⟨⟨by omega,zbq hg2.2 (by simp[zbC,h1s,h1p,h2s,h2p,h3s,h3p,h4s,h4p,h5s,h5p,h7s,h7p,h8s,h8p];done)⟩,od,sx ⟨⟨_,I,xaV ?_⟩,O⟩ O⟩);focus (rfl)
 refine dr (sqF ?_);refine ar (xaj (j+1) ⟨⟨by omega,zbq hg2.2 (by simp[zbC,h1s,h1p,h2s,h2p,h3s,h3p,h4s,h4p,h5s,h5p,h7s,h7p];done)⟩,od,sx ⟨⟨_,I,xaV ?_⟩,O⟩ O⟩);focus (rfl)
 apply sq<;>intro h10 h10p h10s<;>(try simp only[Q,Int.ofNat_lt,Int.ofNat_le] at h10p);refine ixq sl23 I I I (zag od) I ?_;refine evd [] [] ?_;apply sq<;>intro h11 h11p h11s<;>(try simp only[Q,Int.ofNat_lt,Int.ofNat_le] at h11p);refine xbB sl23 (.some I I h11) I I I I (zag od) I ?_;refine evd [] [(58,true)] ?_ ⟨⟨_,I,h11⟩,O⟩;refine xbB zbN (.some I I h11) I I I I (zag od) I ?_;refine evd [] [(58,true)] ?_ ⟨⟨_,I,h11⟩,O⟩;refine xbB sl23 (.some I I h11) I I I I (zag od) I ?_;refine evd [] [(58,true)] ?_ ⟨⟨_,I,h11⟩,O⟩;refine xbB zbN (.some I I h11) I I I I (zag od) I ?_;refine evd [] [(58,true)] ?_ ⟨⟨_,I,h11⟩,O⟩;refine dr ?_;apply sq<;>intro h12 h12p h12s<;>(try simp only[Q,Int.ofNat_lt,Int.ofNat_le] at h12p);focus (refine rq ?_;all_goals ((exfalso;omega)))
 refine ar (xaj (j+1) ⟨⟨by omega,zbq hg2.2 (by simp[zbC,h1s,h1p,h2s,h2p,h3s,h3p,h4s,h4p,h5s,h5p,h10s,h10p,h11s,h11p,h12s,h12p];done)⟩,od,sx ⟨⟨_,I,xaV ?_⟩,O⟩ O⟩);focus (rfl)
 refine dr (sqF ?_);refine ar (xaj (j+1) ⟨⟨by omega,zbq hg2.2 (by simp[zbC,h1s,h1p,h2s,h2p,h3s,h3p,h4s,h4p,h5s,h5p,h10s,h10p,h11s,h11p];done)⟩,od,sx ⟨⟨_,I,xaV ?_⟩,O⟩ O⟩);focus (rfl)
 refine ar (xaj (i+1) ⟨⟨by omega,zbq hg1.2 (zf2 (by simp[h1s,h1p,h2s,h2p,h3s,h3p,h4s,h4p,h5s,h5p,h10s,h10p]) hg2.2 (fun hj=>by omega))⟩,od,sx ⟨⟨_,I,xaV ?_⟩,O⟩ O⟩);focus (rfl)
 refine sqF ?_;refine ar (xaj (i+1) ⟨⟨by omega,zbq hg1.2 (zf2 (by simp[h1s,h1p,h2s,h2p,h3s,h3p,h4s,h4p]) hg2.2 (fun hj=>by omega))⟩,od,sx ⟨⟨_,I,xaV ?_⟩,O⟩ O⟩);focus (rfl)
 refine dr (sqF ?_);refine xaA (ι:=Nat) hk (fun j=>[(8,.d (.i (j:Int)))]) [6,30,31,32,33,34,35,36,37,38,39,40,41,42,43,44,45,46,47,48,49,50,51,52,53,54,55,56,57,58,59,60,61,62,63,64,65,66,67,68,69,70,71,72,73,74,75,76,77,78] (fun j=>[]) (fun j=>j<=(nth w i).ctors.length/\∀j',j'<j->zbC w d k i j'=false) (fun j=>(nth w i).ctors.length-j) 0 ⟨by omega,fun _ h=>absurd h od⟩ ⟨⟨_,I,xaV ?_⟩,O⟩ O (fun x=>rfl) (fun j hg2=>?_);focus (rfl)
 have hb:=hs.ctors i;refine evc [] [] (ixq sl23 I I I (zag od) I ?_);refine ev ?_;apply sq<;>intro h16 h16p h16s<;>(try simp only[Q,Int.ofNat_lt,Int.ofNat_le] at h16p);apply sq<;>intro h17 h17p h17s<;>(try simp only[Q,Int.ofNat_lt,Int.ofNat_le] at h17p);refine sqT ?_;refine ixq sl23 I I I (zag od) I ?_;refine evd [] [] ?_;apply sq<;>intro h19 h19p h19s<;>(try simp only[Q,Int.ofNat_lt,Int.ofNat_le] at h19p);refine xbB sl23 (.some I I h19) I I I I (zag od) I ?_;refine evd [] [(58,true)] ?_ ⟨⟨_,I,h19⟩,O⟩;refine xbB zbN (.some I I h19) I I I I (zag od) I ?_;refine evd [] [(58,true)] ?_ ⟨⟨_,I,h19⟩,O⟩;refine xbB sl23 (.some I I h19) I I I I (zag od) I ?_;refine evd [] [(58,true)] ?_ ⟨⟨_,I,h19⟩,O⟩;refine xbB zbN (.some I I h19) I I I I (zag od) I ?_;refine evd [] [(58,true)] ?_ ⟨⟨_,I,h19⟩,O⟩;refine dr ?_;apply sq<;>intro h20 h20p h20s<;>(try simp only[Q,Int.ofNat_lt,Int.ofNat_le] at h20p);focus (refine rq ?_;all_goals ((exfalso;omega)))
 refine ar (xaj (j+1) ⟨⟨by omega,zbq hg2.2 (by simp[zbC,h1s,h1p,h2s,h2p,h16s,h16p,h17s,h17p,h19s,h19p,h20s,h20p];done)⟩,od,sx ⟨⟨_,I,xaV ?_⟩,O⟩ O⟩);focus (rfl)
 refine dr (sqF ?_);refine ar (xaj (j+1) ⟨⟨by omega,zbq hg2.2 (by simp[zbC,h1s,h1p,h2s,h2p,h16s,h16p,h17s,h17p,h19s,h19p];done)⟩,od,sx ⟨⟨_,I,xaV ?_⟩,O⟩ O⟩);focus (rfl)
 apply sq<;>intro h22 h22p h22s<;>(try simp only[Q,Int.ofNat_lt,Int.ofNat_le] at h22p);refine ixq sl23 I I I (zag od) I ?_;refine evd [] [] ?_;apply sq<;>intro h23 h23p h23s<;>(try simp only[Q,Int.ofNat_lt,Int.ofNat_le] at h23p);refine xbB sl23 (.some I I h23) I I I I (zag od) I ?_;refine evd [] [(58,true)] ?_ ⟨⟨_,I,h23⟩,O⟩;refine xbB zbN (.some I I h23) I I I I (zag od) I ?_;refine evd [] [(58,true)] ?_ ⟨⟨_,I,h23⟩,O⟩;refine xbB sl23 (.some I I h23) I I I I (zag od) I ?_;refine evd [] [(58,true)] ?_ ⟨⟨_,I,h23⟩,O⟩;refine xbB zbN (.some I I h23) I I I I (zag od) I ?_;refine evd [] [(58,true)] ?_ ⟨⟨_,I,h23⟩,O⟩;refine dr ?_;apply sq<;>intro h24 h24p h24s<;>(try simp only[Q,Int.ofNat_lt,Int.ofNat_le] at h24p);focus (refine rq ?_;all_goals ((refine xam D.bool (zco (i:=i) od ?_).symm;unfold zcL;rw[zco (i:=j) od (by simp[zbC,h1s,h1p,h2s,h2p,h16s,h16p,h17s,h17p,h22s,h22p,h23s,h23p,h24s,h24p])];simp;done)))
 refine ar (xaj (j+1) ⟨⟨by omega,zbq hg2.2 (by simp[zbC,h1s,h1p,h2s,h2p,h16s,h16p,h17s,h17p,h22s,h22p,h23s,h23p,h24s,h24p];done)⟩,od,sx ⟨⟨_,I,xaV ?_⟩,O⟩ O⟩);focus (rfl)
 refine dr (sqF ?_);refine ar (xaj (j+1) ⟨⟨by omega,zbq hg2.2 (by simp[zbC,h1s,h1p,h2s,h2p,h16s,h16p,h17s,h17p,h22s,h22p,h23s,h23p];done)⟩,od,sx ⟨⟨_,I,xaV ?_⟩,O⟩ O⟩);focus (rfl)
 refine ar (xaj (i+1) ⟨⟨by omega,zbq hg1.2 (zf2 (by simp[h1s,h1p,h2s,h2p,h16s,h16p,h17s,h17p,h22s,h22p]) hg2.2 (fun hj=>by omega))⟩,od,sx ⟨⟨_,I,xaV ?_⟩,O⟩ O⟩);focus (rfl)
 refine sqF ?_;refine ar (xaj (i+1) ⟨⟨by omega,zbq hg1.2 (zf2 (by simp[h1s,h1p,h2s,h2p,h16s,h16p]) hg2.2 (fun hj=>by omega))⟩,od,sx ⟨⟨_,I,xaV ?_⟩,O⟩ O⟩);focus (rfl)
 focus (refine rq ?_;all_goals ((refine xam D.bool (zeb (fun x hx=>hg1.2 x (Nat.lt_of_lt_of_le hx ?_))).symm;omega)))
theorem zqO {w:List Data} (h:w.length<=4) (h2:∀i,i<w.length->zb4 w i=true):zbf w=true:=by
 unfold zbf;rw[zev h2];simp[h]
theorem zr3 {w:List Data} (h:4<w.length):zbf w=false:=by
 unfold zbf;rw[xaw od];rfl
theorem zeT {w:List Data}{i:Nat} (h:i<w.length) (h2:zb4 w i=false):zbf w=false:=by
 unfold zbf;rw[zdi h h2];simp
theorem zlH {w:List Data}{d:Nat} (h:za9 (nth w d).name=true) (h1:1<=(nth w d).ctors.length) (h2:(nth w d).ctors.length<=4) (h3:∀k,k<(nth w d).ctors.length->zdw w d k=true):zb4 w d=true:=by
 unfold zb4;rw[h,zev h3];simp[h1,h2]
theorem zeR {w:List Data} (hs:WSmall w):FnD Tryz.prog 68 [.d (zae w)] [] (.d (.bool (zbf w))) []:=by
 have hw:=hs.len;refine bd Tryz.f68 67 [] [] fun _ _ _ _ hk=>?_;apply sq<;>intro h1 h1p h1s<;>(try simp only[Q,Int.ofNat_lt,Int.ofNat_le] at h1p);focus (refine rq ?_;all_goals ((refine xam D.bool (zr3 ?_).symm;omega)))
 refine xaA (ι:=Nat) hk (fun i=>[(3,.d (.i (i:Int)))]) [2,4,8,9,10,11,12,13,14,15,16,17,18,19,20,21,22,23,24,25,26,27,28,29,30,31,32,33,34,35,36,37,38,39,40,41,42,43,44,45,46,47,48,49,50,51,52,53,54,55,56,57,58,59,60,61,62,63,64,65,66] (fun i=>[]) (fun i=>i<=w.length/\∀i',i'<i->zb4 w i'=true) (fun i=>w.length-i) 0 ⟨by omega,fun _ h=>absurd h od⟩ ⟨⟨_,I,xaV ?_⟩,O⟩ O (fun x=>rfl) (fun i hg1=>?_);focus (rfl)
 refine evc [] [] ?_;apply sq<;>intro h2 h2p h2s<;>(try simp only[Q,Int.ofNat_lt,Int.ofNat_le] at h2p);refine ixq sl23 I I I (zag od) I ?_;refine ev (wc zsb (zkJ (hs.data _ (zao od)).1) I I ?_);refine ev ?_;apply sq<;>intro h3 h3p h3s<;>(try simp only[Q,Int.ofNat_lt,Int.ofNat_le] at h3p);refine sqT ?_;refine sqT ?_;focus (refine rq ?_;all_goals ((refine xam D.bool (zeT (i:=i) od ?_).symm;simp[zb4,h1s,h1p,h2s,h2p,h3s,h3p];done)))
 refine xbB sl23 (.some I I h3) I I I I (zag od) I ?_;refine evs [] [(21,false)] ?_ ⟨⟨_,I,h3⟩,O⟩;apply sq<;>intro h5 h5p h5s<;>(try simp only[Q,Int.ofNat_lt,Int.ofNat_le] at h5p);refine sqT ?_;focus (refine rq ?_;all_goals ((refine xam D.bool (zeT (i:=i) od ?_).symm;unfold zb4;rw[xaw (p:=1<=(nth w i).ctors.length) od];simp;done)))
 refine xbB sl23 (.some I I h5) I I I I (zag od) I ?_;refine evs [] [(30,false)] ?_ ⟨⟨_,I,h5⟩,O⟩;apply sq<;>intro h7 h7p h7s<;>(try simp only[Q,Int.ofNat_lt,Int.ofNat_le] at h7p);focus (refine rq ?_;all_goals ((refine xam D.bool (zeT (i:=i) od ?_).symm;unfold zb4;rw[xaw (p:=(nth w i).ctors.length<=4) od];simp;done)))
 refine xaA (ι:=Nat) hk (fun k=>[(4,.d (.i (k:Int)))]) [2,39,40,41,42,43,44,45,46,47,48,49,50,51,52,53,54,55,56,57,58,59,60,61,62,63,64,65,66] (fun k=>[]) (fun k=>k<=(nth w i).ctors.length/\∀k',k'<k->zdw w i k'=true) (fun k=>(nth w i).ctors.length-k) 0 ⟨by omega,fun _ h=>absurd h od⟩ ⟨⟨_,I,xaV ?_⟩,O⟩ O (fun x=>rfl) (fun k hg2=>?_);focus (rfl)
 have hb:=hs.ctors i;refine evc [] [] (ixq sl23 I I I (zag od) I ?_);refine ev ?_;apply sq<;>intro h8 h8p h8s<;>(try simp only[Q,Int.ofNat_lt,Int.ofNat_le] at h8p);refine ixq sl23 I I I (zag od) I ?_;refine ev (ixq zbN I I I (zag od) I ?_);refine ev (wc zsc (zkH (hs.ctor _ (zao (i:=i) od) _ (zao (i:=k) od)).1 (hs.ctor _ (zao (i:=i) od) _ (zao (i:=k) od)).2) I I ?_);refine ev ?_;apply sq<;>intro h9 h9p h9s<;>(try simp only[Q,Int.ofNat_lt,Int.ofNat_le] at h9p);refine sqT ?_;focus (refine rq ?_;all_goals ((refine xam D.bool (zeT (i:=i) od ?_).symm;unfold zb4;rw[zdi (i:=k) od (by simp[zdw,xaF,h1s,h1p,h2s,h2p,h3s,h3p,h5s,h5p,h7s,h7p,h8s,h8p,h9s,h9p])];simp;done)))
 refine Walk.call (cr:=[]) zsd (zj5 hs od) I (.some I I h9) I I (LeL.refl _) O I I I ?_;refine evs [] [(61,false)] ?_ ⟨⟨_,I,h9⟩,O⟩;apply sq<;>intro h11 h11p h11s<;>(try simp only[Q,Int.ofNat_lt,Int.ofNat_le] at h11p);focus (refine rq ?_;all_goals ((refine xam D.bool (zeT (i:=i) od ?_).symm;unfold zb4;rw[zdi (i:=k) od (by simp[zdw,xaF,h1s,h1p,h2s,h2p,h3s,h3p,h5s,h5p,h7s,h7p,h8s,h8p,h9s,h9p,h11s,h11p])];simp;done)))
 refine ar (xaj (k+1) ⟨⟨by omega,zbq hg2.2 (by simp[zdw,xaF,h1s,h1p,h2s,h2p,h3s,h3p,h5s,h5p,h7s,h7p,h8s,h8p,h9s,h9p,h11s,h11p];done)⟩,od,sx ⟨⟨_,I,xaV ?_⟩,O⟩ O⟩);focus (rfl)
 refine ar (xaj (i+1) ⟨⟨by omega,zbq hg1.2 (zlH (by simp[h1s,h1p,h2s,h2p,h3s,h3p,h5s,h5p,h7s,h7p,h8s,h8p]) od od (fun x hx=>hg2.2 x od))⟩,od,sx ⟨⟨_,I,xaV ?_⟩,O⟩ O⟩);focus (rfl)
 focus (refine rq ?_;all_goals ((refine xam D.bool (zqO ?_ (fun x hx=>hg1.2 x (Nat.lt_of_lt_of_le hx ?_))).symm<;>omega)))
structure CSmall (l:List Ctor):Prop where
 len:l.length<=1000000000000
 ctor:∀c∈l,c.name.length<=1000000000000/\c.args.length<=1000000000000
theorem WSmall.cs {w:List Data} (h:WSmall w){d:Data} (hd:d∈w):CSmall d.ctors:=⟨(h.data d hd).2,h.ctor d hd⟩
def fits (c:Ctor) (k:Int):Bool:=decide (k=0)||(decide (c.index=0)||decide (c.index=k))
def zaV (k:Int):Nat->List Ctor->List Int
 |_,[]=>[]
 |i,c::r=>if fits c k then (i:Int)::zaV k (i+1) r else zaV k (i+1) r
def zcj (k:Int) (t:Ty):Ty:=if t.index = -1 then ⟨t.data,k⟩ else t
def zcg (c:Ctor) (k:Int):Int:=if c.index=0 then k else c.index
theorem zeV (k:Int):∀(l:List Ctor) (i:Nat),(zaV k i l).length<=l.length
 | [],_=>by simp[zaV]
 |c::r,i=>by
  have:=zeV k r (i+1);unfold zaV;split<;>simp<;>omega
theorem zhg {w:List Data}{k:Int}:FnD Tryz.prog 236 [.d (zae w),.agg [.d (.i (-1)),.d (.i k)]] [] (.d (zcq [])) []:=by
 refine bd Tryz.f236 44 [5] [] fun _ _ _ _ hk=>?_;refine bx 3003 ?_;refine evs [5] [] (xbl 1 1 .none I I ?_);apply tv;apply sq<;>intro h1 h1p h1s<;>(try simp only[Q] at h1p);exact absurd h1 og

 focus (refine rn0 (r1 I) (.gld ?_);all_goals (rfl))
theorem zjy {w:List Data}{d:Nat}{k:Int} (hs:WSmall w) (hd:d<w.length):FnD Tryz.prog 236 [.d (zae w),.agg [.d (.i d),.d (.i k)]] [] (.d (zcq (zaV k 0 (nth w d).ctors))) []:=by
 have hb:=hs.ctors d;refine bd Tryz.f236 44 [5] [] fun _ _ _ _ hk=>?_;refine bx 3003 ?_;refine evs [5] [] (xbl 1 1 .none I I ?_);apply tv;apply sq<;>intro h1 h1p h1s<;>(try simp only[Q] at h1p);refine ixq sl23 I I I (zag hd) I (evs [5] [] (xaA (ι:=List (Ctor)×List (Ctor)×(List Int)) hk (fun x=>[(18,.d (.i (x.1.length:Int))),(5,.gl 1 (x.2.2.map fun n=>[D.i n]))]) [6,7,19,20,21,22,23,24,25,26,27,28,29,30,31,32,33,34,35,36,37,38,39,40,41,42] (fun x=>[(1,some (.tok ((x.2.2.map fun n=>[D.i n])).length 1))]) (fun x=>x.1++x.2.1=(nth w d).ctors/\x.2.2++zaV k x.1.length x.2.1=zaV k 0 (nth w d).ctors/\x.2.2.length<=x.1.length) (fun x=>x.2.1.length) ([],(nth w d).ctors,[]) ⟨by simp,by simp,by simp⟩ ⟨⟨_,I,xaV ?_⟩,⟨⟨_,I,LeA.glg ?_⟩,O⟩⟩ ⟨zaq ?_,O⟩ (fun x=>rfl) (fun x hg1=>?_)));iterate 3 focus (rfl)
 obtain⟨pre,rest,acc⟩:=x;dsimp only at hg1 ⊢;refine evc [5] [] ?_;apply sq<;>intro h2 h2p h2s<;>(try simp only[Q] at h2p);rcases rest with _|⟨y,rest⟩
 ·exfalso;simp_all
 refine ixq zbN I I I (zaM hg1.1) I (evs [5] [] (ab 3007 zfg ?_));refine evs [5] [] (so zcy ?_);apply tv;apply sq<;>intro h3 h3p h3s<;>(try simp only[Q] at h3p);refine sqT ?_;refine sqT ?_;refine si [0] [_] zbd tz3 ?_;refine ap zbd zz3 I I I og (by have hl:=hg1.2.2;simp;omega) ?_;refine asg ?_;apply tv;refine ar (xaj ((pre++[y],rest,if fits y k then acc++[(pre.length:Int)] else acc)) ⟨⟨(by have hz:=hg1.1;rw[<-hz];simp),⟨by rw[<-hg1.2.1];by_cases hf:fits y k=true<;>simp[zaV,hf],by split<;>simp<;>omega⟩⟩,og,sx ⟨⟨_,I,xaV ?_⟩,⟨⟨_,I,LeA.glg ?_⟩,O⟩⟩ ⟨zaq ?_,O⟩⟩);iterate 3 focus ((simp[fits,h1s,h1p,h2s,h2p,h3s,h3p];done))
 apply sq<;>intro h5 h5p h5s<;>(try simp only[Q] at h5p);refine sqT ?_;refine si [0] [_] zbd tz3 ?_;refine ap zbd zz3 I I I og (by have hl:=hg1.2.2;simp;omega) ?_;refine asg ?_;apply tv;refine ar (xaj ((pre++[y],rest,if fits y k then acc++[(pre.length:Int)] else acc)) ⟨⟨(by have hz:=hg1.1;rw[<-hz];simp),⟨by rw[<-hg1.2.1];by_cases hf:fits y k=true<;>simp[zaV,hf],by split<;>simp<;>omega⟩⟩,og,sx ⟨⟨_,I,xaV ?_⟩,⟨⟨_,I,LeA.glg ?_⟩,O⟩⟩ ⟨zaq ?_,O⟩⟩);iterate 3 focus ((simp[fits,h1s,h1p,h2s,h2p,h3s,h3p,h5s,h5p];done))
 apply sq<;>intro h7 h7p h7s<;>(try simp only[Q] at h7p);refine si [0] [_] zbd tz3 ?_;refine ap zbd zz3 I I I og (by have hl:=hg1.2.2;simp;omega) ?_;refine asg ?_;apply tv;refine ar (xaj ((pre++[y],rest,if fits y k then acc++[(pre.length:Int)] else acc)) ⟨⟨(by have hz:=hg1.1;rw[<-hz];simp),⟨by rw[<-hg1.2.1];by_cases hf:fits y k=true<;>simp[zaV,hf],by split<;>simp<;>omega⟩⟩,og,sx ⟨⟨_,I,xaV ?_⟩,⟨⟨_,I,LeA.glg ?_⟩,O⟩⟩ ⟨zaq ?_,O⟩⟩);iterate 3 focus ((simp[fits,h1s,h1p,h2s,h2p,h3s,h3p,h5s,h5p,h7s,h7p];done))
 refine ar (xaj ((pre++[y],rest,if fits y k then acc++[(pre.length:Int)] else acc)) ⟨⟨(by have hz:=hg1.1;rw[<-hz];simp),⟨by rw[<-hg1.2.1];by_cases hf:fits y k=true<;>simp[zaV,hf],by split<;>simp<;>omega⟩⟩,og,sx ⟨⟨_,I,xaV ?_⟩,⟨⟨_,I,LeA.glg ?_⟩,O⟩⟩ ⟨zaq ?_,O⟩⟩);iterate 3 focus ((simp[fits,h1s,h1p,h2s,h2p,h3s,h3p,h5s,h5p,h7s,h7p];done))
 have hrest:rest=[]:=by
  rcases rest with _|⟨a,b⟩
  ·rfl
  ·exfalso;have hz:=xam List.length (hg1.1);simp only[xaa,xab,xac] at hz;omega
 subst hrest;refine rn0 (r1 I) (.gld ?_);rotate_left;exfalso;simp at h1<;>omega;all_goals (have e:=hg1.2.1;simp only[zaV,xaq] at e;rw[e])
theorem zkL {s:Str}{l:List Ty}{i k:Int}:FnD Tryz.prog 287 [.agg [.d (.str s),.d (zbH l),.d (.i i)],.d (.i k)] [] (.d (.bool (fits ⟨s,l,i⟩ k))) []:=by
 refine bd Tryz.f287 18 [] [] fun _ _ _ _ hk=>?_;refine bx 3002 ?_;refine ev ?_;apply sq<;>intro h1 h1p h1s<;>(try simp only[Q] at h1p);refine sqT ?_;focus (refine rq ?_;all_goals (refine xam D.bool ?_;simp[fits,h1s,h1p]))
 apply sq<;>intro h2 h2p h2s<;>(try simp only[Q] at h2p);focus (refine rq ?_;all_goals (refine xam D.bool ?_;simp[fits,h1s,h1p,h2s,h2p]))
 focus (refine rq ?_;all_goals (refine xam D.bool ?_;simp[fits,h1s,h1p,h2s,h2p]))
theorem zhl {w:List Data}{k:Int}:FnD Tryz.prog 243 [.d (zae w),.agg [.d (.i (-1)),.d (.i k)]] [] (.d (zcq [])) []:=by
 refine bd Tryz.f243 40 [] [] fun _ _ _ _ hk=>?_;refine bx 3003 ?_;refine ev (xbR 1 zbd .none I I (ev ?_));apply sq<;>intro h1 h1p h1s<;>(try simp only[Q] at h1p)

 focus (refine rn0 (r1 I) (.gld ?_);all_goals (rfl))
 exact absurd h1 og
theorem zj0 {w:List Data}{d:Nat}{k:Int} (hs:WSmall w) (hd:d<w.length):FnD Tryz.prog 243 [.d (zae w),.agg [.d (.i d),.d (.i k)]] [] (.d (zcq (zaV k 0 (nth w d).ctors))) []:=by
 have hb:=hs.ctors d;refine bd Tryz.f243 40 [] [] fun _ _ _ _ hk=>?_;refine bx 3003 ?_;refine ev (xbR 1 zbd .none I I (ev ?_));apply sq<;>intro h1 h1p h1s<;>(try simp only[Q] at h1p);exfalso;simp at h1<;>omega;refine xaA (ι:=List (Ctor)×List (Ctor)×(List Int)) hk (fun x=>[(6,.d (.i (x.1.length:Int))),(5,.gl 1 (x.2.2.map fun n=>[D.i n]))]) [12,13,14,15,16,17,18,19,20,21,22,23,24,25,26,27,28,29,30,31,32,33,34,35,36,37,38] (fun x=>[(1,some (.tok ((x.2.2.map fun n=>[D.i n])).length 1))]) (fun x=>x.1++x.2.1=(nth w d).ctors/\x.2.2++zaV k x.1.length x.2.1=zaV k 0 (nth w d).ctors/\x.2.2.length<=x.1.length) (fun x=>x.2.1.length) ([],(nth w d).ctors,[]) ⟨by simp,by simp,by simp⟩ ⟨⟨_,I,xaV ?_⟩,⟨⟨_,I,LeA.glg ?_⟩,O⟩⟩ ⟨zaq ?_,O⟩ (fun x=>rfl) (fun x hg1=>?_);iterate 3 focus (rfl)
 obtain⟨pre,rest,acc⟩:=x;dsimp only at hg1 ⊢;refine evc [] [] (ixq sl23 I I I (zag hd) I (ev ?_));apply sq<;>intro h2 h2p h2s<;>(try simp only[Q] at h2p);rcases rest with _|⟨y,rest⟩
 ·exfalso;simp_all
 refine ixq sl23 I I I (zag hd) I (evd [] [] (ixq zbN I I I (zaM hg1.1) I (evd [] [] (wc zsD zkL I I ?_))));refine dr ?_;apply sq<;>intro h3 h3p h3s<;>(try simp only[Q] at h3p);refine si [0] [_] zbd tz3 ?_;refine ap zbd zz3 I I I og (by have hl:=hg1.2.2;simp;omega) ?_;refine ev (ar (xaj ((pre++[y],rest,if fits y k then acc++[(pre.length:Int)] else acc)) ⟨⟨(by have hz:=hg1.1;rw[<-hz];simp),⟨by rw[<-hg1.2.1];by_cases hf:fits y k=true<;>simp[zaV,hf],by split<;>simp<;>omega⟩⟩,og,sx ⟨⟨_,I,xaV ?_⟩,⟨⟨_,I,LeA.glg ?_⟩,O⟩⟩ ⟨zaq ?_,O⟩⟩));iterate 3 focus ((simp[xaF,h1s,h1p,h2s,h2p,h3s,h3p];done))
 refine ar (xaj ((pre++[y],rest,if fits y k then acc++[(pre.length:Int)] else acc)) ⟨⟨(by have hz:=hg1.1;rw[<-hz];simp),⟨by rw[<-hg1.2.1];by_cases hf:fits y k=true<;>simp[zaV,hf],by split<;>simp<;>omega⟩⟩,og,sx ⟨⟨_,I,xaV ?_⟩,⟨⟨_,I,LeA.glg ?_⟩,O⟩⟩ ⟨zaq ?_,O⟩⟩);iterate 3 focus ((simp[xaF,h1s,h1p,h2s,h2p,h3s,h3p];done))
 have hrest:rest=[]:=by
  rcases rest with _|⟨a,b⟩
  ·rfl
  ·exfalso;have hz:=xam List.length (hg1.1);simp only[xaa,xab,xac] at hz;omega
 subst hrest;refine rn0 (r1 I) (.gld ?_);rotate_left;all_goals (have e:=hg1.2.1;simp only[zaV,xaq] at e;rw[e])
theorem zi0 {s:Str}{l:List Ty}{i k:Int}:FnD Tryz.prog 239 [.agg [.d (.str s),.d (zbH l),.d (.i i)],.d (.i k)] [] (.d (.i (zcg ⟨s,l,i⟩ k))) []:=by
 refine bd Tryz.f239 11 [] [] fun _ _ _ _ hk=>?_;refine bx 3002 ?_;refine ev ?_;apply sq<;>intro h1 h1p h1s<;>(try simp only[Q] at h1p);focus (refine rq ?_;all_goals (refine xam D.i ?_;simp[zcg,h1s,h1p]))
 focus (refine rq ?_;all_goals (refine xam D.i ?_;simp[zcg,h1s,h1p]))
theorem ziR {w:List Data}{d c:Nat}{k:Int} (hs:WSmall w) (hd:d<w.length) (hc:c<(nth w d).ctors.length):FnD Tryz.prog 237 [.d (zae w),.agg [.d (.i d),.d (.i k)],.d (.i c)] [] (.d (zbH ((nth (nth w d).ctors c).args.map (zcj (zcg (nth (nth w d).ctors c) k))))) []:=by
 have hb:=(hs.ctor _ (zao hd) _ (zao hc)).2;refine bd Tryz.f237 45 [9] [] fun _ _ _ _ hk=>?_;refine bx 3004 ?_;refine evs [9] [] (ixq sl23 I I I (zag hd) I (evs [9] [] (ixq zbN I I I (zag hc) I (evs [9] [] (ab 3007 zfg ?_)))));refine so zcy ?_;apply tv;apply sq<;>intro h1 h1p h1s<;>(try simp only[Q] at h1p);refine xbl 1 2 .none I I ?_;apply tv;refine xaA (ι:=List (Ty)×List (Ty)) hk (fun x=>[(30,.d (.i (x.1.length:Int))),(9,.gl 1 ((x.1.map (zcj (zcg (nth (nth w d).ctors c) k))).map Ty.c))]) [11,31,32,33,34,35,36,37,38,39,40,41,42,43] (fun x=>[(1,some (.tok (((x.1.map (zcj (zcg (nth (nth w d).ctors c) k))).map Ty.c)).length 2))]) (fun x=>x.1++x.2=(nth (nth w d).ctors c).args) (fun x=>x.2.length) ([],(nth (nth w d).ctors c).args) og ⟨⟨_,I,xaV ?_⟩,⟨⟨_,I,LeA.glg ?_⟩,O⟩⟩ ⟨zaq ?_,O⟩ (fun x=>rfl) (fun x hg1=>?_);iterate 3 focus (rfl)
 obtain⟨pre,rest⟩:=x;dsimp only at hg1 ⊢;refine evc [9] [] ?_;apply sq<;>intro h2 h2p h2s<;>(try simp only[Q] at h2p);rcases rest with _|⟨y,rest⟩
 ·exfalso;simp_all
 refine ixq zaJ I I I (zaM hg1) I (evs [9] [] (ab 3011 tz38 ?_));refine so ty38 ?_;apply tv;apply sq<;>intro h3 h3p h3s<;>(try simp only[Q] at h3p);refine so ty3 ?_;apply tv;refine si [0] [_] zaJ tz38 ?_;refine ap zaJ zz38 I I I og (by have hl:=xam List.length hg1;simp at hl;simp;omega) ?_;refine asg ?_;apply tv;refine ar (xaj ((pre++[y],rest)) ⟨(by have hz:=hg1;rw[<-hz];simp),og,sx ⟨⟨_,I,xaV ?_⟩,⟨⟨_,I,LeA.glg ?_⟩,O⟩⟩ ⟨zaq ?_,O⟩⟩);iterate 3 focus ((simp[zcj,zcg,h1s,h1p,h2s,h2p,h3s,h3p];done))
 refine si [0] [_] zaJ tz38 ?_;refine ap zaJ zz38 I I I og (by have hl:=xam List.length hg1;simp at hl;simp;omega) ?_;refine asg ?_;apply tv;refine ar (xaj ((pre++[y],rest)) ⟨(by have hz:=hg1;rw[<-hz];simp),og,sx ⟨⟨_,I,xaV ?_⟩,⟨⟨_,I,LeA.glg ?_⟩,O⟩⟩ ⟨zaq ?_,O⟩⟩);iterate 3 focus ((simp[zcj,zcg,h1s,h1p,h2s,h2p,h3s,h3p];done))
 have hrest:rest=[]:=by
  rcases rest with _|⟨a,b⟩
  ·rfl
  ·exfalso;have hz:=xam List.length (hg1);simp only[xaa,xab,xac] at hz;omega
 subst hrest;focus (refine rn0 (r1 I) (.gld ?_);all_goals (simp[<-hg1,zcg,h1s,h1p,h2s,h2p]))
 refine xbl 1 2 .none I I ?_;apply tv;refine xaA (ι:=List (Ty)×List (Ty)) hk (fun x=>[(30,.d (.i (x.1.length:Int))),(9,.gl 1 ((x.1.map (zcj (zcg (nth (nth w d).ctors c) k))).map Ty.c))]) [11,31,32,33,34,35,36,37,38,39,40,41,42,43] (fun x=>[(1,some (.tok (((x.1.map (zcj (zcg (nth (nth w d).ctors c) k))).map Ty.c)).length 2))]) (fun x=>x.1++x.2=(nth (nth w d).ctors c).args) (fun x=>x.2.length) ([],(nth (nth w d).ctors c).args) og ⟨⟨_,I,xaV ?_⟩,⟨⟨_,I,LeA.glg ?_⟩,O⟩⟩ ⟨zaq ?_,O⟩ (fun x=>rfl) (fun x hg1=>?_);iterate 3 focus (rfl)
 obtain⟨pre,rest⟩:=x;dsimp only at hg1 ⊢;refine evc [9] [] ?_;apply sq<;>intro h4 h4p h4s<;>(try simp only[Q] at h4p);rcases rest with _|⟨y,rest⟩
 ·exfalso;simp_all
 refine ixq zaJ I I I (zaM hg1) I (evs [9] [] (ab 3011 tz38 ?_));refine so ty38 ?_;apply tv;apply sq<;>intro h5 h5p h5s<;>(try simp only[Q] at h5p);refine so ty3 ?_;apply tv;refine si [0] [_] zaJ tz38 ?_;refine ap zaJ zz38 I I I og (by have hl:=xam List.length hg1;simp at hl;simp;omega) ?_;refine asg ?_;apply tv;refine ar (xaj ((pre++[y],rest)) ⟨(by have hz:=hg1;rw[<-hz];simp),og,sx ⟨⟨_,I,xaV ?_⟩,⟨⟨_,I,LeA.glg ?_⟩,O⟩⟩ ⟨zaq ?_,O⟩⟩);iterate 3 focus ((simp[zcj,zcg,h1s,h1p,h4s,h4p,h5s,h5p];done))
 refine si [0] [_] zaJ tz38 ?_;refine ap zaJ zz38 I I I og (by have hl:=xam List.length hg1;simp at hl;simp;omega) ?_;refine asg ?_;apply tv;refine ar (xaj ((pre++[y],rest)) ⟨(by have hz:=hg1;rw[<-hz];simp),og,sx ⟨⟨_,I,xaV ?_⟩,⟨⟨_,I,LeA.glg ?_⟩,O⟩⟩ ⟨zaq ?_,O⟩⟩);iterate 3 focus ((simp[zcj,zcg,h1s,h1p,h4s,h4p,h5s,h5p];done))
 have hrest:rest=[]:=by
  rcases rest with _|⟨a,b⟩
  ·rfl
  ·exfalso;have hz:=xam List.length (hg1);simp only[xaa,xab,xac] at hz;omega
 subst hrest;focus (refine rn0 (r1 I) (.gld ?_);all_goals (simp[<-hg1,zcg,h1s,h1p,h4s,h4p]))
theorem zkE {w:List Data}{d c:Nat}{k:Int} (hs:WSmall w) (hd:d<w.length) (hc:c<(nth w d).ctors.length):FnD Tryz.prog 159 [.d (zae w),.agg [.d (.i d),.d (.i k)],.d (.i c)] [] (.d (zbH ((nth (nth w d).ctors c).args.map (zcj (zcg (nth (nth w d).ctors c) k))))) []:=by
 have hb:=(hs.ctor _ (zao hd) _ (zao hc)).2;refine bd Tryz.f159 46 [] [] fun _ _ _ _ hk=>?_;refine bx 3004 ?_;refine ev (xbR 1 zaJ .none I I (ev (ixq sl23 I I I (zag hd) I (ev (ixq zbN I I I (zag hc) I (ev (ab 3008 zfg ?_)))))));refine so zcy ?_;apply tv;refine xaA (ι:=List (Ty)×List (Ty)) hk (fun x=>[(9,.d (.i (x.1.length:Int))),(7,.gl 1 ((x.1.map (zcj (zcg (nth (nth w d).ctors c) k))).map Ty.c))]) [10,21,22,23,24,25,26,27,28,29,30,31,32,33,34,35,36,37,38,39,40,41,42,43,44] (fun x=>[(1,some (.tok (((x.1.map (zcj (zcg (nth (nth w d).ctors c) k))).map Ty.c)).length 2))]) (fun x=>x.1++x.2=(nth (nth w d).ctors c).args) (fun x=>x.2.length) ([],(nth (nth w d).ctors c).args) og ⟨⟨_,I,xaV ?_⟩,⟨⟨_,I,LeA.glg ?_⟩,O⟩⟩ ⟨zaq ?_,O⟩ (fun x=>rfl) (fun x hg1=>?_);iterate 3 focus (rfl)
 obtain⟨pre,rest⟩:=x;dsimp only at hg1 ⊢;refine evc [] [] ?_;apply sq<;>intro h1 h1p h1s<;>(try simp only[Q] at h1p);rcases rest with _|⟨y,rest⟩
 ·exfalso;simp_all
 refine ixq zaJ I I I (zaM hg1) I (ev (ab 3010 tz38 ?_));refine so ty38 ?_;apply tv;apply sq<;>intro h2 h2p h2s<;>(try simp only[Q] at h2p);refine wc zsv zi0 I I ?_;refine ev (so ty3 ?_);apply tv;refine si [0] [_] zaJ tz38 ?_;refine ap zaJ zz38 I I I og (by have hl:=xam List.length hg1;simp at hl;simp;omega) ?_;refine ev (ar (xaj ((pre++[y],rest)) ⟨(by have hz:=hg1;rw[<-hz];simp),og,sx ⟨⟨_,I,xaV ?_⟩,⟨⟨_,I,LeA.glg ?_⟩,O⟩⟩ ⟨zaq ?_,O⟩⟩));iterate 3 focus ((simp[zcj,xaF,h1s,h1p,h2s,h2p];done))
 refine si [0] [_] zaJ tz38 ?_;refine ap zaJ zz38 I I I og (by have hl:=xam List.length hg1;simp at hl;simp;omega) ?_;refine ev (ar (xaj ((pre++[y],rest)) ⟨(by have hz:=hg1;rw[<-hz];simp),og,sx ⟨⟨_,I,xaV ?_⟩,⟨⟨_,I,LeA.glg ?_⟩,O⟩⟩ ⟨zaq ?_,O⟩⟩));iterate 3 focus ((simp[zcj,xaF,h1s,h1p,h2s,h2p];done))
 have hrest:rest=[]:=by
  rcases rest with _|⟨a,b⟩
  ·rfl
  ·exfalso;have hz:=xam List.length (hg1);simp only[xaa,xab,xac] at hz;omega
 subst hrest;focus (refine rn0 (r1 I) (.gld ?_);all_goals (simp[<-hg1,zcg,h1s,h1p]))
mutual
def zox:Val->Val->Bool
 | .mk a n ks,.mk b m ls=>decide (a=b)&&(decide (n=m)&&zkg ks ls)
def zkg:List Val->List Val->Bool
 | [],[]=>true
 |x::r,y::s=>zox x y&&zkg r s
 |_,_=>false
end
mutual
def Val.ok:Val->Prop
 | .mk _ _ ks=>ks.length<=1000000000000/\Vals.ok ks
def Vals.ok:List Val->Prop
 | []=>True
 |v::r=>v.ok/\Vals.ok r
end
theorem Vals.ok_mem:∀ {l:List Val},Vals.ok l->∀v,v∈l->v.ok
 |x::r,h,v,hv=>by
  simp only[Vals.ok] at h;rcases List.mem_cons.1 hv with rfl|hv
  ·exact h.1
  ·exact Vals.ok_mem h.2 v hv
mutual
def Val.size:Val->Nat
 | .mk _ _ ks=>1+Vals.size ks
def Vals.size:List Val->Nat
 | []=>0
 |v::r=>v.size+Vals.size r
end
theorem Vals.size_mem:∀ {l:List Val}{v:Val},v∈l->v.size<=Vals.size l
 |x::r,v,hv=>by
  simp only[Vals.size];rcases List.mem_cons.1 hv with rfl|hv
  ·omega
  ·have:=Vals.size_mem hv;omega
theorem Val.ok_iff (v:Val):v.ok↔v.kids.length<=1000000000000/\Vals.ok v.kids:=by cases v;rfl
theorem xbc (v:Val):v.size=1+Vals.size v.kids:=by cases v;rfl
theorem zfR {w:List Data}{a b:Int}:FnD Tryz.prog 142 [.d (zae w),.agg [.d (.i a),.d (.i b)]] [] (.d (.bool (zbc w.length ⟨a,b⟩&&decide (0<=b)))) []:=by
 refine bd Tryz.f142 14 [] [] fun _ _ _ _ hk=>?_;refine bx 3003 ?_;refine ev (wc zoN zhc I I ?_);refine ev ?_;apply sq<;>intro h1 h1p h1s<;>(try simp only[Q] at h1p);focus (refine rq ?_;all_goals ((simp[h1s,h1p];done)))
 focus (refine rq ?_;all_goals ((simp[h1s,h1p];done)))
theorem ziv {w:List Data}{a b:Int} (hs:WSmall w):FnD Tryz.prog 102 [.d (zae w),.agg [.d (.i a),.d (.i b)]] [] (.d (.bool (zbf w&&(zbc w.length ⟨a,b⟩&&decide (0<=b))))) []:=by
 refine bd Tryz.f102 12 [] [] fun _ _ _ _ hk=>?_;refine bx 3003 ?_;refine ev (wc zqW (zeR hs) I I ?_);refine ev ?_;apply sq<;>intro h1 h1p h1s<;>(try simp only[Q] at h1p);refine Walk.call (cr:=[]) zi9 zfR I (.some I I h1) I I (LeL.refl _) O I I I (evs [] [(7,true)] ?_ ⟨⟨_,I,h1⟩,O⟩);focus (refine rq ?_;all_goals ((simp[h1s,h1p];done)))
 focus (refine rq ?_;all_goals ((simp[h1s,h1p];done)))
def TyIn (n:Nat) (t:Ty):Prop:=t.data = -1\/∃d:Nat,t.data=d/\d<n
structure WT (w:List Data):Prop where
 small:WSmall w
 arg:∀d∈w,∀c∈d.ctors,∀t∈c.args,TyIn w.length t
def zac (w:List Data) (t:Ty) (c:Int):List Ty:=
 let x:=nth (nth w t.data.toNat).ctors c.toNat
 x.args.map (zcj (zcg x t.index))
def za3 (w:List Data) (t:Ty):List Int:=zaV t.index 0 (nth w t.data.toNat).ctors
def cap (x:Int):Int:=if 401<x then 401 else x
theorem zoT {x:Int} (h:0<=x):0<=cap x/\cap x<=401:=by unfold cap;split<;>omega
theorem zg7 (k:Int):∀(l:List Ctor) (i:Nat) (c:Int),c∈zaV k i l->∃j:Nat,c=(j:Int)/\i<=j/\j<i+l.length
 | [],i,c,h=>by simp[zaV] at h
 |x::r,i,c,h=>by
  unfold zaV at h;have go:c∈zaV k (i+1) r->∃j:Nat,c=(j:Int)/\i<=j/\j<i+(x::r).length:=fun h=>by
   obtain⟨j,h1,h2,h3⟩:=zg7 k r (i+1) c h;exact⟨j,h1,by omega,by simp;omega⟩
  split at h
  ·rcases List.mem_cons.1 h with h|h
   ·exact⟨i,h,by omega,by simp⟩
   ·exact go h
  ·exact go h
theorem zqb {n:Nat}{k:Int}{t:Ty} (h:TyIn n t):TyIn n (zcj k t):=by
 unfold zcj;split
 ·exact h
 ·exact h
def PlaceIn (w:List Data) (d:Nat) (c:Int):Prop:=∃j:Nat,c=j/\j<(nth w d).ctors.length
theorem zmK {w:List Data}{d:Nat}{k c:Int} (h:c∈za3 w ⟨d,k⟩):PlaceIn w d c:=by
 obtain⟨j,h1,_,h3⟩:=zg7 _ _ _ _ h;exact⟨j,h1,by simpa using h3⟩
theorem zho {w:List Data} (hw:WT w){d:Nat} (hd:d<w.length){k c:Int} (hc:PlaceIn w d c){t:Ty} (ht:t∈zac w ⟨d,k⟩ c):TyIn w.length t:=by
 obtain⟨j,rfl,hj⟩:=hc;simp only[zac,Int.toNat_natCast,List.mem_map] at ht;obtain⟨x,hx,rfl⟩:=ht;exact zqb (hw.arg _ (zao hd) _ (zao hj) x hx)
theorem znW {w:List Data} (hw:WT w){d:Nat} (hd:d<w.length){k c:Int} (hc:PlaceIn w d c):(zac w ⟨d,k⟩ c).length<=1000000000000:=by
 obtain⟨j,rfl,hj⟩:=hc;simp only[zac,Int.toNat_natCast,xac];exact(hw.small.ctor _ (zao hd) _ (zao hj)).2
theorem zm6 {w:List Data} (hw:WT w){d:Nat}{k:Int}:(za3 w ⟨d,k⟩).length<=1000000000000:=by
 have:=zeV k (nth w d).ctors 0;have:=hw.small.ctors d;simp only[za3,Int.toNat_natCast];omega
theorem ziS {w:List Data} (hw:WT w){d:Nat} (hd:d<w.length){k c:Int} (hc:PlaceIn w d c):FnD Tryz.prog 237 [.d (zae w),.agg [.d (.i d),.d (.i k)],.d (.i c)] [] (.d (zbH (zac w ⟨d,k⟩ c))) []:=by
 obtain⟨j,rfl,hj⟩:=hc;exact ziR hw.small hd hj
theorem zjz {w:List Data} (hw:WT w){d:Nat} (hd:d<w.length){k:Int}:FnD Tryz.prog 236 [.d (zae w),.agg [.d (.i d),.d (.i k)]] [] (.d (zcq (za3 w ⟨d,k⟩))) []:=zjy hw.small hd
theorem zkF {w:List Data} (hw:WT w){d:Nat} (hd:d<w.length){k c:Int} (hc:PlaceIn w d c):FnD Tryz.prog 159 [.d (zae w),.agg [.d (.i d),.d (.i k)],.d (.i c)] [] (.d (zbH (zac w ⟨d,k⟩ c))) []:=by
 obtain⟨j,rfl,hj⟩:=hc;exact zkE hw.small hd hj
theorem zj1 {w:List Data} (hw:WT w){d:Nat} (hd:d<w.length){k:Int}:FnD Tryz.prog 243 [.d (zae w),.agg [.d (.i d),.d (.i k)]] [] (.d (zcq (za3 w ⟨d,k⟩))) []:=zj0 hw.small hd
def zcY (w:List Data):List Str:=w.flatMap fun d=>d.ctors.map (·.name)
structure WV (w:List Data):Prop where
 len:w.length<=4
 data:∀d∈w,za9 d.name=true/\1<=d.ctors.length/\d.ctors.length<=4
 ctor:∀d∈w,∀c∈d.ctors,zbp w.length c=true
 names:(w.map (·.name)).Nodup
 cnames:(zcY w).Nodup
theorem zgb (n:Nat):∀(l:List Ctor) (met met':List Str),zcz n met l=some met'↔met'=met++l.map (·.name)/\(∀c∈l,zbp n c=true)/\(l.map (·.name)).Nodup/\∀c∈l,c.name∉met
 | [],met,met'=>by
  unfold zcz;simp only[xae,List.map_nil,xaq];exact⟨fun h=>⟨h.symm,by simp,by simp,by simp⟩,fun h=>h.1.symm⟩
 |c::r,met,met'=>by
  unfold zcz;by_cases h:(zbp n c&& !decide (c.name∈met))=true
  ·rw[if_pos h,zgb n r];simp only[xad,Bool.not_eq_true',decide_eq_false_iff_not] at h;obtain⟨h1,h2⟩:=h;constructor
   ·rintro ⟨rfl,q1,q2,q3⟩
    refine⟨by simp,fun x hx=>?_, ?_,fun x hx=>?_⟩
    ·rcases List.mem_cons.1 hx with rfl|hx
     ·exact h1
     ·exact q1 x hx
    ·simp only[xaf,List.nodup_cons];refine⟨fun hm=>?_,q2⟩;obtain⟨x,hx,he⟩:=List.mem_map.1 hm;exact q3 x hx (by rw[he];simp)
    ·rcases List.mem_cons.1 hx with rfl|hx
     ·exact h2
     ·intro hm;exact q3 x hx (by simp[hm])
   ·rintro ⟨rfl,q1,q2,q3⟩
    simp only[xaf,List.nodup_cons] at q2;refine⟨by simp,fun x hx=>q1 x (List.mem_cons_of_mem _ hx),q2.2,fun x hx hm=>?_⟩;simp only[List.mem_append,List.mem_singleton] at hm;rcases hm with hm|hm
    ·exact q3 x (List.mem_cons_of_mem _ hx) hm
    ·exact q2.1 (hm ▸ List.mem_map.2 ⟨x,hx,I⟩)
  ·rw[if_neg h];constructor
   ·intro h';cases h'
   ·rintro ⟨_,q1,_,q3⟩
    exfalso;apply h;simp[q1 c og,q3 c og]
theorem zgc (n:Nat):∀(l:List Data) (met datas:List Str),zbv n met datas l=true↔
  (∀d∈l,za9 d.name=true/\1<=d.ctors.length/\d.ctors.length<=4)/\(∀d∈l,∀c∈d.ctors,zbp n c=true)/\(l.map (·.name)).Nodup/\(∀d∈l,d.name∉datas)/\
   (zcY l).Nodup/\∀s∈zcY l,s∉met
 | [],met,datas=>by simp[zbv,zcY]
 |d::r,met,datas=>by
  have hcn:zcY (d::r)=d.ctors.map (·.name)++zcY r:=rfl;have hw:zaf d.ctors.length 1 4=true↔1<=d.ctors.length/\d.ctors.length<=4:=by simp[zaf];omega
  unfold zbv;simp only[xad,Bool.not_eq_true',decide_eq_false_iff_not,hw];constructor
  ·rintro ⟨⟨⟨h1,h2⟩,h3⟩,h4⟩
   split at h4
   ·rename_i met' hm;obtain⟨rfl,c1,c2,c3⟩:=(zgb n _ _ _).1 hm;obtain⟨q1,q2,q3,q4,q5,q6⟩:=(zgc n r _ _).1 h4;refine⟨fun x hx=>?_,fun x hx=>?_, ?_,fun x hx=>?_, ?_,fun s hs=>?_⟩
    ·rcases List.mem_cons.1 hx with rfl|hx
     ·exact⟨h1,h3⟩
     ·exact q1 x hx
    ·rcases List.mem_cons.1 hx with rfl|hx
     ·exact c1
     ·exact q2 x hx
    ·simp only[xaf,List.nodup_cons];refine⟨fun hm=>?_,q3⟩;obtain⟨x,hx,he⟩:=List.mem_map.1 hm;exact q4 x hx (by rw[he];simp)
    ·rcases List.mem_cons.1 hx with rfl|hx
     ·exact h2
     ·intro hm;exact q4 x hx (by simp[hm])
    ·rw[hcn,List.nodup_append];refine⟨c2,q5,fun a ha b hb he=>?_⟩;subst he;exact q6 a hb (by simp only[List.mem_append];exact .inr ha)
    ·rw[hcn] at hs;rcases List.mem_append.1 hs with hs|hs
     ·obtain⟨c,hc,rfl⟩:=List.mem_map.1 hs;exact c3 c hc
     ·intro hm;exact q6 s hs (by simp[hm])
   ·cases h4
  ·rintro ⟨q1,q2,q3,q4,q5,q6⟩
   rw[hcn] at q5 q6;rw[List.nodup_append] at q5;simp only[xaf,List.nodup_cons] at q3;have hd:=q1 d og;have hm:zcz n met d.ctors=some (met++d.ctors.map (·.name)):=(zgb n _ _ _).2 ⟨rfl,q2 d og,q5.1,fun c hc=>q6 _ (List.mem_append.2 (.inl (List.mem_map.2 ⟨c,hc,rfl⟩)))⟩;refine⟨⟨⟨hd.1,q4 d og⟩,hd.2⟩, ?_⟩;rw[hm];refine(zgc n r _ _).2 ⟨fun x hx=>q1 x (List.mem_cons_of_mem _ hx),fun x hx=>q2 x (List.mem_cons_of_mem _ hx),q3.2,fun x hx hmem=>?_,q5.2.1,fun s hs hmem=>?_⟩
   ·simp only[List.mem_append,List.mem_singleton] at hmem;rcases hmem with hmem|hmem
    ·exact q4 x (List.mem_cons_of_mem _ hx) hmem
    ·exact q3.1 (hmem ▸ List.mem_map.2 ⟨x,hx,I⟩)
   ·rcases List.mem_append.1 hmem with hmem|hmem
    ·exact q6 s (List.mem_append.2 (.inr hs)) hmem
    ·exact q5.2.2 s hmem s hs I
theorem zb7 (w:List Data):zaL w=true↔WV w:=by
 unfold zaL;rw[xad,zgc];constructor
 ·rintro ⟨h1,q1,q2,q3,_,q5,_⟩
  exact⟨by have:=xas h1;omega,q1,q2,q3,q5⟩
 ·rintro ⟨h1,q1,q2,q3,q5⟩
  exact⟨xax od,q1,q2,q3,by simp,q5,by simp⟩
theorem zlG {l:List Str}:l.Nodup↔∀i j,i<j->j<l.length->nth l i≠nth l j:=by
 unfold List.Nodup;rw[List.pairwise_iff_getElem];constructor
 ·intro h i j hij hj;have:=h i j od hj hij;simpa [nth,List.getD,hj,(by omega:i<l.length)] using this
 ·intro h i j hi hj hij;have:=h i j hij hj;simpa [nth,List.getD,hj,hi] using this
theorem zaY {α:Type} [Inhabited α]{l:List α}{i:Nat} (h:i<l.length):nth l i=l[i]:=by simp[nth,List.getD,h]
theorem zjj (w:List Data):(zcY w).Nodup↔(∀d,d<w.length->∀j k,j<k->k<(nth w d).ctors.length->(nth (nth w d).ctors j).name≠(nth (nth w d).ctors k).name)/\
  ∀i d,i<d->d<w.length->∀j k,j<(nth w i).ctors.length->k<(nth w d).ctors.length->(nth (nth w i).ctors j).name≠(nth (nth w d).ctors k).name:=by
 unfold zcY List.Nodup;rw[List.pairwise_flatMap];constructor
 ·rintro ⟨h1,h2⟩
  refine⟨fun d hd j k hjk hk=>?_,fun i d hid hd j k hj hk=>?_⟩
  ·have:=h1 (nth w d) (zao hd);rw[List.pairwise_iff_getElem] at this;have:=this j k oq (by simpa using hk) hjk;simpa [zaY hk,zaY (show j<(nth w d).ctors.length by omega)] using this
  ·rw[List.pairwise_iff_getElem] at h2;have:=h2 i d od hd hid;rw[<-zaY hd,<-zaY (show i<w.length by omega)] at this;exact this _ (List.mem_map.2 ⟨_,zao hj,I⟩) _ (List.mem_map.2 ⟨_,zao hk,I⟩)
 ·rintro ⟨h1,h2⟩
  refine⟨fun x hx=>?_, ?_⟩
  ·obtain⟨d,hd,rfl⟩:=List.getElem_of_mem hx;rw[List.pairwise_iff_getElem];intro j k hj hk hjk;have hk':k<(nth w d).ctors.length:=by rw[zaY hd];simpa using hk
   have:=h1 d hd j k hjk hk';rw[zaY hk',zaY (show j<(nth w d).ctors.length by omega)] at this;simp only[zaY hd] at this;simpa using this
  ·rw[List.pairwise_iff_getElem];intro i d hi hd hid x hx y hy;obtain⟨a,ha,rfl⟩:=List.mem_map.1 hx;obtain⟨b,hb,rfl⟩:=List.mem_map.1 hy;obtain⟨j,hj,rfl⟩:=List.getElem_of_mem ha;obtain⟨k,hk,rfl⟩:=List.getElem_of_mem hb;have hj':j<(nth w i).ctors.length:=by rw[zaY hi];exact hj
   have hk':k<(nth w d).ctors.length:=by rw[zaY hd];exact hk
   have:=h2 i d hid hd j k hj' hk';rw[zaY hj',zaY hk'] at this;simpa only[zaY hi,zaY hd] using this
theorem zll (w:List Data):(w.map (·.name)).Nodup↔∀i d,i<d->d<w.length->(nth w i).name≠(nth w d).name:=by
 rw[zlG];have e:∀i,i<w.length->nth (w.map (·.name)) i=(nth w i).name:=fun i hi=>by simp[nth,List.getD,hi]
 constructor
 ·intro h i d hid hd;have:=h i d hid (by simpa using hd);rwa [e i od,e d hd] at this
 ·intro h i d hid hd;have hd':d<w.length:=by simpa using hd
  rw[e i od,e d hd'];exact h i d hid hd'
theorem zlv (w:List Data) (d k:Nat):zkc w d k=false↔(∀i,i<d->(nth w i).name≠(nth w d).name)/\
  ∀i j,i<=d->j<(nth w i).ctors.length->(i<d\/j<k)->k<(nth w d).ctors.length->(nth (nth w i).ctors j).name≠(nth (nth w d).ctors k).name:=by
 unfold zkc;rw[List.any_eq_false];constructor
 ·intro h;refine⟨fun i hi he=>?_,fun i j hi hj hij hk he=>?_⟩
  ·apply h i (List.mem_range.2 od);unfold zcL;simp[hi,he]
  ·apply h i (List.mem_range.2 od);unfold zcL;rw[zco hj (by unfold zbC;simp[hk,he];omega)];simp
 ·rintro ⟨h1,h2⟩ i hi
  have hi':=List.mem_range.1 hi;unfold zcL;simp only[Bool.or_eq_true,xad,xah,not_or,not_and];refine⟨fun hid=>h1 i hid, ?_⟩;rw[zeb (fun j hj=>?_)]
  ·simp
  ·unfold zbC;cases hc:((decide (i<d)||decide (j<k))&&(decide (k<(nth w d).ctors.length)&&decide ((nth (nth w i).ctors j).name=(nth (nth w d).ctors k).name))) with
   |false=>rfl
   |true=>
    simp only[xad,Bool.or_eq_true,xah] at hc;exact absurd hc.2.2 (h2 i j od hj hc.1 hc.2.1)
theorem zh4 (w:List Data):zbf w=true↔WV w:=by
 unfold zbf;rw[xad,xah,List.all_eq_true];have hs:∀d,zb4 w d=true↔za9 (nth w d).name=true/\1<=(nth w d).ctors.length/\(nth w d).ctors.length<=4/\∀k,k<(nth w d).ctors.length->zbp w.length (nth (nth w d).ctors k)=true/\zkc w d k=false:=fun d=>by
  unfold zb4;simp only[xad,xah,List.all_eq_true,List.mem_range,zdw,Bool.not_eq_true']
 constructor
 ·rintro ⟨h1,h2⟩
  have h3:∀d,d<w.length->_:=fun d hd=>(hs d).1 (h2 d (List.mem_range.2 hd));have h4:∀d,d<w.length->∀k,k<(nth w d).ctors.length->_:=fun d hd k hk=>(zlv w d k).1 ((h3 d hd).2.2.2 k hk).2;refine⟨h1,fun d hd=>?_,fun d hd c hc=>?_,(zll w).2 (fun i d hid hd=>?_),(zjj w).2 ⟨fun d hd j k hjk hk=>?_,fun i d hid hd j k hj hk=>?_⟩⟩
  ·obtain⟨i,hi,rfl⟩:=List.getElem_of_mem hd;have:=h3 i hi;rw[zaY hi] at this;exact⟨this.1,this.2.1,this.2.2.1⟩
  ·obtain⟨i,hi,rfl⟩:=List.getElem_of_mem hd;obtain⟨k,hk,rfl⟩:=List.getElem_of_mem hc;have hk':k<(nth w i).ctors.length:=by rw[zaY hi];exact hk
   have:=((h3 i hi).2.2.2 k hk').1;rw[zaY hk'] at this;simpa only[zaY hi] using this
  ·exact(h4 d hd 0 (by have:=(h3 d hd).2.1;omega)).1 i hid
  ·exact(h4 d hd k hk).2 d j (Nat.le_refl _) od (.inr hjk) hk
  ·exact(h4 d hd k hk).2 i j od hj (.inl hid) hk
 ·intro h;refine⟨h.len,fun d hd=>?_⟩;have hd':=List.mem_range.1 hd;have hm:=zao hd';have hn:=(zll w).1 h.names;have hc:=(zjj w).1 h.cnames;refine(hs d).2 ⟨(h.data _ hm).1,(h.data _ hm).2.1,(h.data _ hm).2.2,fun k hk=>⟨h.ctor _ hm _ (zao hk),(zlv w d k).2 ⟨fun i hi=>hn i d hi hd',fun i j hi hj hij hk'=>?_⟩⟩⟩;by_cases hid:i<d
  ·exact hc.2 i d hid hd' j k hj hk'
  ·have:i=d:=by omega
   subst this;exact hc.1 i hd' j k od hk'
theorem ze5 (w:List Data):zbf w=zaL w:=by
 rw[xat,zh4,zb7]
theorem zqa {n:Nat}{t:Ty} (h:zbc n t=true):TyIn n t:=by
 unfold zbc at h;simp only[Bool.or_eq_true,xad,xah,zaf] at h;rcases h with h|h
 ·exact .inl h.1
 ·exact .inr ⟨t.data.toNat,by omega,by omega⟩
theorem zp2 {n:Nat}{t:Ty} (h:zaR n t=true):TyIn n t:=by
 unfold zaR at h;simp only[Bool.or_eq_true,xad,xah,zaf] at h;rcases h with h|h
 ·exact .inl h.1
 ·exact .inr ⟨t.data.toNat,by omega,by omega⟩
theorem WV.wt {w:List Data} (hs:WSmall w) (h:WV w):WT w:=⟨hs,fun d hd c hc t ht=>by
 have:=h.ctor d hd c hc;unfold zbp at this;simp only[xad,Bool.not_eq_true',List.any_eq_false,Bool.not_eq_true,Bool.not_eq_false] at this;exact zqa (by have:=this.2.2.2 t ht;simpa using this)⟩
theorem zrU (w:List Data) (t:Ty):(zbf w&&(zbc w.length t&&decide (0<=t.index)))=zbm w t:=by
 rw[ze5];unfold zbm;congr 1
 rw[xat];unfold zbc zaR zaf;simp;omega
theorem zaZ {α:Type} [Inhabited α]{l:List α}{i:Nat} (h:i<l.length):l.drop i=nth l i::l.drop (i+1):=by
 rw[zaY h];exact List.drop_eq_getElem_cons h
def all2 {α β:Type} (f:α->β->Bool):List α->List β->Bool
 | [],[]=>true
 |a::r,b::s=>f a b&&all2 f r s
 |_,_=>false
theorem zlX {α β:Type}{f:α->β->Bool}:∀ {a:List α}{b:List β},a.length≠b.length->all2 f a b=false
 | [],[],h=>by simp at h
 | [],_::_,_=>rfl
 |_::_,[],_=>rfl
 |x::r,y::s,h=>by simp[all2,zlX (a:=r) (b:=s) (by simpa using h)]
theorem zeu {α β:Type} [Inhabited α] [Inhabited β]{f:α->β->Bool}{a:List α}{b:List β}{i:Nat} (h:i<a.length) (hl:a.length=b.length) (h2:f (nth a i) (nth b i)=false):all2 f a b=false:=by
 induction i generalizing a b with
 |zero=>
  cases a with
  |nil=>simp at h
  |cons x r=>
   cases b with
   |nil=>simp[all2]
   |cons y s=>simp[nth] at h2;simp[all2,h2]
 |succ i ih=>
  cases a with
  |nil=>simp at h
  |cons x r=>
   cases b with
   |nil=>simp[all2]
   |cons y s=>simp only[all2];rw[ih (a:=r) (b:=s) (by simpa using h) (by simpa using hl) (by simpa [nth] using h2)];simp
theorem zlA {α β:Type} [Inhabited α] [Inhabited β]{f:α->β->Bool}{a:List α}{b:List β} (hl:a.length=b.length) (h:∀i,i<a.length->f (nth a i) (nth b i)=true):all2 f a b=true:=by
 induction a generalizing b with
 |nil=>cases b with
  |nil=>simp[all2]
  |cons y s=>simp at hl
 |cons x r ih=>cases b with
  |nil=>simp at hl
  |cons y s=>
   have h0:=h 0 og;simp only[all2];rw[ih (by simpa using hl) (fun i hi=>by simpa [nth] using h (i+1) (by simpa using hi))];simpa [nth] using h0
def idxI (l:List Int) (v:Int):Int:=idxF (fun x=>decide (v=x)) l 0
theorem zhk {l:List Int}{v:Int} (h:l.length<=1000000000000):FnD Tryz.prog 284 [.d (zcq l),.d (.i v)] [] (.d (.i (idxI l v))) []:=by
 refine bd Tryz.f284 19 [] [] fun _ _ _ _ hk=>?_;refine xaA (ι:=List (Int)×List (Int)) hk (fun x=>[(8,.d (.i (x.1.length:Int)))]) [4,5,9,10,11,12,13,14,15,16,17,18] (fun x=>[]) (fun x=>x.1++x.2=l/\idxF (fun x=>decide (v=x)) x.2 x.1.length=idxF (fun x=>decide (v=x)) l 0) (fun x=>x.2.length) ([],l) ⟨by simp,I⟩ ⟨⟨_,I,xaV ?_⟩,O⟩ O (fun x=>rfl) (fun x hg1=>?_);focus (first|rfl|(simp;done)|(simp_all;done)|omega)
 obtain⟨pre,rest⟩:=x;dsimp only at hg1 ⊢;refine evc [] [] ?_;apply sq<;>intro h1 h1p h1s<;>(try simp only[Q] at h1p);rcases rest with _|⟨y,rest⟩
 ·exfalso;simp_all
 refine ixq zbd I I I (zaM hg1.1) I (ev ?_);apply sq<;>intro h2 h2p h2s<;>(try simp only[Q] at h2p);focus (refine rq ?_;all_goals (unfold idxI;rw[<-hg1.2];simp[idxF,h1s,h1p,h2s,h2p]))
 refine ar (xaj ((pre++[y],rest)) ⟨⟨(by have hz:=hg1.1;rw[<-hz];simp),(by rw[<-hg1.2];simp[idxF,h2p])⟩,og,sx ⟨⟨_,I,xaV ?_⟩,O⟩ O⟩);focus (first|rfl|(simp;done)|(simp_all;done)|omega)
 have hrest:rest=[]:=by
  rcases rest with _|⟨a,b⟩
  ·rfl
  ·exfalso;have hz:=xam List.length (hg1.1);simp only[xaa,xab,xac] at hz;omega
 subst hrest;focus (refine rq ?_;all_goals (unfold idxI;rw[<-hg1.2];simp[idxF,h1s,h1p]))
theorem zdO {l:List Int}{v:Int} (h:l.length<=1000000000000):FnD Tryz.prog 235 [.d (zcq l),.d (.i v)] [] (.d (.bool (decide (v∈l)))) []:=by
 refine bd Tryz.f235 9 [] [] fun _ _ _ _ hk=>?_;refine wc zsC (zhk h) I I ?_;refine ev (rq ?_);rotate_left;all_goals (refine xam D.bool ?_;rw[show idxI l v=idxF (fun x=>decide (v=x)) l 0 from rfl,zgP];simp[List.any_eq,eq_comm])
theorem zhd {l:List Int}{v:Int} (h:l.length<=1000000000000):FnD Tryz.prog 286 [.d (zcq l),.d (.i v)] [] (.d (.bool (decide (v∈l)))) []:=by
 refine bd Tryz.f286 18 [] [] fun _ _ _ _ hk=>?_;refine xaA (ι:=List (Int)×List (Int)) hk (fun x=>[(5,.d (.i (x.1.length:Int)))]) [4,6,7,8,9,10,11,12,13,14,15,16,17] (fun x=>[]) (fun x=>x.1++x.2=l/\v∉x.1) (fun x=>x.2.length) ([],l) ⟨by simp,by simp⟩ ⟨⟨_,I,xaV ?_⟩,O⟩ O (fun x=>rfl) (fun x hg1=>?_);focus (first|rfl|(simp;done)|(simp_all;done)|omega)
 obtain⟨pre,rest⟩:=x;dsimp only at hg1 ⊢;refine evc [] [] ?_;apply sq<;>intro h1 h1p h1s<;>(try simp only[Q] at h1p);rcases rest with _|⟨y,rest⟩
 ·exfalso;simp_all
 refine ixq zbd I I I (zaM hg1.1) I (ev ?_);apply sq<;>intro h2 h2p h2s<;>(try simp only[Q] at h2p);focus (refine rq ?_;all_goals (refine xam D.bool ?_;first|(symm;rw[xah,<-hg1.1];simp[h1s,h1p,h2s,h2p];done)|(symm;rw[decide_eq_false_iff_not,<-hg1.1];intro hm;simp at hm;exact absurd hm (by simpa using hg1.2))))
 refine ar (xaj ((pre++[y],rest)) ⟨⟨(by have hz:=hg1.1;rw[<-hz];simp),(by have:=hg1.2;simp[this,eq_comm];omega)⟩,og,sx ⟨⟨_,I,xaV ?_⟩,O⟩ O⟩);focus (first|rfl|(simp;done)|(simp_all;done)|omega)
 have hrest:rest=[]:=by
  rcases rest with _|⟨a,b⟩
  ·rfl
  ·exfalso;have hz:=xam List.length (hg1.1);simp only[xaa,xab,xac] at hz;omega
 subst hrest;focus (refine rq ?_;all_goals (refine xam D.bool ?_;first|(symm;rw[xah,<-hg1.1];simp[h1s,h1p];done)|(symm;rw[decide_eq_false_iff_not,<-hg1.1];intro hm;simp at hm;exact absurd hm (by simpa using hg1.2))))
def cutL (c:UInt8):Str->Str->List Str
 |cur,[]=>[cur]
 |cur,x::r=>if x=c then cur::cutL c [] r else cutL c (cur++[x]) r
theorem zdp (c:UInt8):∀(s cur:Str),(cutL c cur s).length<=s.length+1
 | [],cur=>by simp[cutL]
 |x::r,cur=>by
  simp only[cutL];split
  ·have:=zdp c r [];simp only[xab];omega
  ·have:=zdp c r (cur++[x]);simp only[xab];omega
theorem zgH (c:UInt8):∀(s cur:Str),1<=(cutL c cur s).length
 | [],cur=>by simp[cutL]
 |x::r,cur=>by
  simp only[cutL];split
  ·simp
  ·exact zgH c r (cur++[x])
theorem zgG (c:UInt8):∀(s cur:Str) (t:Str),t∈cutL c cur s->t.length<=cur.length+s.length
 | [],cur,t,h=>by simp only[cutL,List.mem_singleton] at h;subst h;simp
 |x::r,cur,t,h=>by
  simp only[cutL] at h;split at h
  ·rcases List.mem_cons.1 h with rfl|h
   ·simp
   ·have:=zgG c r [] t h;simp only[xab,xak] at this ⊢;omega
  ·have:=zgG c r (cur++[x]) t h;simp only[xaa,xab,xak] at this ⊢;omega
theorem za0 {s:Str}{i:Nat} (h:i<s.length):s[i]?=some (nth s i):=by rw[zaY h];exact xan h
theorem ziM {s:Str}{f i:Nat} (hf:f<=i) (h:i<s.length):(s.take (i+1)).drop f=(s.take i).drop f++[nth s i]:=by
 rw[List.take_add_one,xan h,List.drop_append_of_le_length oq,zaY h];rfl
theorem ziN {s:Str}{f i:Nat}:(s.drop f).take (i-f)=(s.take i).drop f:=by rw[List.drop_take]
theorem zb5 {s:Str}{c:UInt8} (hs:s.length<=1000000000000):FnD Tryz.prog 74 [.d (.str s),.d (.int .u8 (c.toNat:Int))] [] (.d (zcA (cutL c [] s))) []:=by
 have hu:∀a:UInt8,((a.toNat:Int)=(c.toNat:Int))↔a=c:=fun a=>by rw[xal];exact UInt8.toNat_inj
 refine bd Tryz.f74 36 [] [] fun _ _ _ _ hk=>?_;refine xbR 1 sl84 .none I I (ev (xaA (ι:=Nat×Nat×List Str) hk (fun x=>[(7,.d (.i (x.1:Int))),(6,.d (.i (x.2.1:Int))),(5,.gl 1 (x.2.2.map fun n=>[D.str n]))]) [9,10,11,12,13,14,15,16,17,18,19,20,21,22,23,24,25,26,27,28,29,30,31,32,33,34] (fun x=>[(1,some (.tok ((x.2.2.map fun n=>[D.str n])).length 1))]) (fun x=>x.1<=s.length+1/\x.2.2.length<=x.1/\if x.1=s.length+1 then x.2.2=cutL c [] s else x.2.1<=x.1/\x.2.2++cutL c ((s.take x.1).drop x.2.1) (s.drop x.1)=cutL c [] s) (fun x=>s.length+1-x.1) (0,0,[]) ⟨by simp,by simp,by rw[if_neg og];simp⟩ ⟨⟨_,I,xaV ?_⟩,⟨⟨_,I,xaV ?_⟩,⟨⟨_,I,LeA.glg ?_⟩,O⟩⟩⟩ ⟨zaq ?_,O⟩ (fun x=>rfl) (fun x hg1=>?_)));iterate 4 focus (rfl)
 refine evc [] [] ?_;apply sq<;>intro h1 h1p h1s<;>(try simp only[Q,hu] at h1p);have hne:¬x.1=s.length+1:=od;have hcond:=hg1.2.2;rw[if_neg hne] at hcond;have hle:=hcond.1;apply sq<;>intro h2 h2p h2s<;>(try simp only[Q,hu] at h2p);refine sqT ?_;refine xbx un9 .none I I I I I I od od ?_;refine si [0] [_] sl84 tz9 ?_;refine ap sl84 zz9 I I I og oq ?_;refine ev (ar (ar ?_));refine xaj (if x.1=s.length\/nth s x.1=c then (x.1+1,x.1+1,x.2.2++[(s.take x.1).drop x.2.1]) else (x.1+1,x.2.1,x.2.2)) ⟨(by
    have hne:¬x.1=s.length+1:=by omega
    rw[if_neg hne] at hg1;obtain⟨g1,g2,g3,g4⟩:=hg1;by_cases he:x.1=s.length
    ·rw[if_pos (.inl he)];refine⟨by dsimp only;omega,by simp;omega, ?_⟩;dsimp only;rw[if_pos od,<-g4,he,List.drop_length];rfl
    ·have hlt:x.1<s.length:=by omega
     rw[zaZ hlt] at g4;by_cases hc:nth s x.1=c
     ·rw[if_pos (.inr hc)];refine⟨by dsimp only;omega,by simp;omega, ?_⟩;dsimp only;rw[if_neg od];refine⟨by omega, ?_⟩;rw[<-g4,cutL,if_pos hc,xar];simp
     ·rw[if_neg (by simp[he,hc])];refine⟨by dsimp only;omega,by dsimp only;omega, ?_⟩;dsimp only;rw[if_neg od];refine⟨by omega, ?_⟩;rw[<-g4,cutL,if_neg hc,ziM g3 hlt]),(by split<;>(dsimp only;omega)),sx ⟨⟨_,rfl,xaV ?_⟩,⟨⟨_,rfl,xaV ?_⟩,⟨⟨_,rfl,LeA.glg ?_⟩,trivial⟩⟩⟩ ⟨zaq ?_,trivial⟩⟩
 iterate 4 focus ((split<;>first|(simp[ziN];done)|(simp;done)|(exfalso;simp_all;done)|(exfalso;simp_all;omega)))
 refine xbD un9 (.some I I h2) I I I I (za0 od) ?_;refine evs [] [(19,false)] ?_ ⟨⟨_,I,h2⟩,O⟩;apply sq<;>intro h4 h4p h4s<;>(try simp only[Q,hu] at h4p);refine xbx un9 .none I I I I I I od od ?_;refine si [0] [_] sl84 tz9 ?_;refine ap sl84 zz9 I I I og oq ?_;refine ev (ar (ar ?_));refine xaj (if x.1=s.length\/nth s x.1=c then (x.1+1,x.1+1,x.2.2++[(s.take x.1).drop x.2.1]) else (x.1+1,x.2.1,x.2.2)) ⟨(by
    have hne:¬x.1=s.length+1:=by omega
    rw[if_neg hne] at hg1;obtain⟨g1,g2,g3,g4⟩:=hg1;by_cases he:x.1=s.length
    ·rw[if_pos (.inl he)];refine⟨by dsimp only;omega,by simp;omega, ?_⟩;dsimp only;rw[if_pos od,<-g4,he,List.drop_length];rfl
    ·have hlt:x.1<s.length:=by omega
     rw[zaZ hlt] at g4;by_cases hc:nth s x.1=c
     ·rw[if_pos (.inr hc)];refine⟨by dsimp only;omega,by simp;omega, ?_⟩;dsimp only;rw[if_neg od];refine⟨by omega, ?_⟩;rw[<-g4,cutL,if_pos hc,xar];simp
     ·rw[if_neg (by simp[he,hc])];refine⟨by dsimp only;omega,by dsimp only;omega, ?_⟩;dsimp only;rw[if_neg od];refine⟨by omega, ?_⟩;rw[<-g4,cutL,if_neg hc,ziM g3 hlt]),(by split<;>(dsimp only;omega)),sx ⟨⟨_,rfl,xaV ?_⟩,⟨⟨_,rfl,xaV ?_⟩,⟨⟨_,rfl,LeA.glg ?_⟩,trivial⟩⟩⟩ ⟨zaq ?_,trivial⟩⟩
 iterate 4 focus ((split<;>first|(simp[ziN];done)|(simp;done)|(exfalso;simp_all;done)|(exfalso;simp_all;omega)))
 refine ar ?_;refine xaj (if x.1=s.length\/nth s x.1=c then (x.1+1,x.1+1,x.2.2++[(s.take x.1).drop x.2.1]) else (x.1+1,x.2.1,x.2.2)) ⟨(by
    have hne:¬x.1=s.length+1:=by omega
    rw[if_neg hne] at hg1;obtain⟨g1,g2,g3,g4⟩:=hg1;by_cases he:x.1=s.length
    ·rw[if_pos (.inl he)];refine⟨by dsimp only;omega,by simp;omega, ?_⟩;dsimp only;rw[if_pos od,<-g4,he,List.drop_length];rfl
    ·have hlt:x.1<s.length:=by omega
     rw[zaZ hlt] at g4;by_cases hc:nth s x.1=c
     ·rw[if_pos (.inr hc)];refine⟨by dsimp only;omega,by simp;omega, ?_⟩;dsimp only;rw[if_neg od];refine⟨by omega, ?_⟩;rw[<-g4,cutL,if_pos hc,xar];simp
     ·rw[if_neg (by simp[he,hc])];refine⟨by dsimp only;omega,by dsimp only;omega, ?_⟩;dsimp only;rw[if_neg od];refine⟨by omega, ?_⟩;rw[<-g4,cutL,if_neg hc,ziM g3 hlt]),(by split<;>(dsimp only;omega)),sx ⟨⟨_,rfl,xaV ?_⟩,⟨⟨_,rfl,xaV ?_⟩,⟨⟨_,rfl,LeA.glg ?_⟩,trivial⟩⟩⟩ ⟨zaq ?_,trivial⟩⟩
 iterate 4 focus ((split<;>first|rfl|(exfalso;simp_all;done)|(exfalso;simp_all;omega)))
 refine rn0 (r1 I) (.gld ?_);rotate_left;all_goals (have e:x.1=s.length+1:=od;rw[if_pos e] at hg1;rw[hg1.2.2])
def zn7 (names:List Str) (s:Str):Int:=if s=[73] then -1 else if s∈names then idxF (fun n=>decide (n=s)) names 0 else -2
theorem zkK {names:List Str}{s:Str} (hn:names.length<=1000000000000):FnD Tryz.prog 232 [.d (zcA names),.d (.str s)] [] (.d (.i (zn7 names s))) []:=by
 refine bd Tryz.f232 21 [] [] fun _ _ _ _ hk=>?_;apply sq<;>intro h1 h1p h1s<;>(try simp only[Q] at h1p);refine rq ?_;rotate_left;refine xaA (ι:=List (Str)×List (Str)) hk (fun x=>[(5,.d (.i (x.1.length:Int)))]) [4,8,9,10,11,12,13,14,15,16,17,18,19,20] (fun x=>[]) (fun x=>x.1++x.2=names/\s∉x.1/\idxF (fun n=>decide (n=s)) x.2 x.1.length=idxF (fun n=>decide (n=s)) names 0) (fun x=>x.2.length) ([],names) ⟨by simp,by simp,I⟩ ⟨⟨_,I,xaV ?_⟩,O⟩ O (fun x=>rfl) (fun x hg1=>?_);focus (rfl)
 obtain⟨pre,rest⟩:=x;dsimp only at hg1 ⊢;refine evc [] [] ?_;apply sq<;>intro h2 h2p h2s<;>(try simp only[Q] at h2p);rcases rest with _|⟨y,rest⟩
 ·exfalso;simp_all
 refine ixq sl84 I I I (zaM hg1.1) I (ev ?_);apply sq<;>intro h3 h3p h3s<;>(try simp only[Q] at h3p);refine rq ?_;rotate_left;refine ar (xaj ((pre++[y],rest)) ⟨⟨(by have hz:=hg1.1;rw[<-hz];simp),⟨(by have h1:=hg1.2.1;simp_all[eq_comm]),(by rw[<-hg1.2.2];simp_all[idxF])⟩⟩,og,sx ⟨⟨_,I,xaV ?_⟩,O⟩ O⟩);focus ((simp;done))
 have hrest:rest=[]:=by
  rcases rest with _|⟨a,b⟩
  ·rfl
  ·exfalso;have hz:=xam List.length (hg1.1);simp only[xaa,xab,xac] at hz;omega
 subst hrest;refine rq ?_;rotate_left;all_goals (refine xam D.i ?_;unfold zn7;by_cases hz:s=[73]<;>by_cases hm:s∈names<;>simp only[hz,hm,if_true,if_false];all_goals first|(exfalso;simp_all;done)|(exfalso;apply hm;subst h3p;rw[<-hg1.1];simp;done)|(exfalso;apply hg1.2.1;rw[<-hg1.1,xaq] at hm;exact hm)|(rw[<-hg1.2.2];simp_all[idxF];done))
def zd3 (names:List Str) (s:Str):Ty:=
 if s=[] then ⟨-2,0⟩
 else ⟨zn7 names (s.take 1),if s.drop 1=[42] then -1 else if s.length=2/\48<=(nth s 1).toNat/\(nth s 1).toNat<=57 then ((nth s 1).toNat:Int)-48 else 0⟩
theorem zjo {b:UInt8} (h1:48<=b.toNat) (h2:b.toNat<=57):IntKind.i64.wrap (IntKind.u8.wrap ((b.toNat:Int)-48))=(b.toNat:Int)-48:=by
 rw[zea,zbU od];omega
theorem zet {names:List Str}{s:Str} (hn:names.length<=1000000000000) (hs:s.length<=1000000000000):
  FnD Tryz.prog 150 [.d (zcA names),.d (.str s)] [] (.agg [.d (.i (zd3 names s).data),.d (.i (zd3 names s).index)]) []:=by
 have hlen:s≠[]->1<=s.length:=fun h=>by rcases s with _|⟨a,r⟩;exact absurd I h;simp
 refine bd Tryz.f150 39 [35] [] fun _ _ _ _ hk=>?_;refine ab 3004 tz38 ?_;apply tv;apply sq<;>intro h1 h1p h1s<;>(try simp only[Q] at h1p);refine bu [0] [_] st38 ?_;refine so ty38 ?_;apply tv;refine rn0 (ra ty38) (.agg (qee ?_ ?_));rotate_left 2;refine xbv (b:=1) un9 .none I I I I (by have:=hlen ox;omega) ?_;refine wc zst (zkK (names:=names) (s:=s.take 1) hn) I I ?_;refine bu [0] [_] st38 ?_;refine ab 3005 tz38 ?_;refine so ty38 ?_;apply tv;refine xbw (b:=1) un9 .none I I I I (by have:=hlen ox;omega) ?_;refine evs [35] [] ?_;apply sq<;>intro h2 h2p h2s<;>(try simp only[Q] at h2p);refine so ty3 ?_;apply tv;refine so ty38 ?_;apply tv;refine rn0 (ra ty38) (.agg (qee ?_ ?_));rotate_left 2;apply sq<;>intro h3 h3p h3s<;>(try simp only[Q] at h3p);refine xbD (i:=1) un9 (.some I I h3) I I I I (za0 (by simp_all;omega)) ?_;refine evs [35] [(23,true)] ?_ ⟨⟨_,I,h3⟩,O⟩;apply sq<;>intro h4 h4p h4s<;>(try simp only[Q] at h4p);refine xbD (i:=1) un9 (.some I I h4) I I I I (za0 (by simp_all;omega)) ?_;refine evs [35] [(28,true)] ?_ ⟨⟨_,I,h4⟩,O⟩;apply sq<;>intro h5 h5p h5s<;>(try simp only[Q] at h5p);refine xbD (i:=1) un9 .none I I I I (za0 (by simp_all;omega)) ?_;refine xbU .none I I I (xbu oy un3 .none I I ?_);refine evs [35] [] (so ty3 ?_);apply tv;refine so ty38 ?_;apply tv;refine rn0 (ra ty38) (.agg (qee ?_ ?_));rotate_left 2;refine so ty38 ?_;apply tv;refine rn0 (ra ty38) (.agg (qee ?_ ?_));rotate_left 2;refine sqF ?_;refine so ty38 ?_;apply tv;refine rn0 (ra ty38) (.agg (qee ?_ ?_));rotate_left 2;refine sqF ?_;refine sqF ?_;refine so ty38 ?_;apply tv;refine rn0 (ra ty38) (.agg (qee ?_ ?_));rotate_left 2;all_goals (unfold zd3;first|(rw[zjo (b:=nth s 1) od od,if_neg h1p];dsimp only;rw[if_neg h2p,if_pos ⟨by omega,by omega,by omega⟩];done)|(rw[if_pos h1p];done)|(rw[if_neg h1p];done)|(rw[if_neg h1p];dsimp only;rw[if_pos h2p];done)|(rw[if_neg h1p];dsimp only;rw[if_neg h2p,if_neg (fun hh=>by omega)];done))
def zmh (s:Str):Prop:=2<s.length/\nth s (s.length-2)=58
instance (s:Str):Decidable (zmh s):=inferInstanceAs (Decidable (_/\_))
def zft (names:List Str) (ix:Int) (s:Str):Ctor:=
 let parts:=cutL 40 [] s
 ⟨nth parts 0,if parts.length<2\/(nth parts 1).length=0 then [] else ((cutL 44 [] ((nth parts 1).take ((nth parts 1).length-1))).take 4).map (zd3 names),ix⟩
def zcc (names:List Str) (s:Str):Ctor:=
 if zmh s then zft names (((nth s (s.length-1)).toNat:Int)-48) (s.take (s.length-2)) else zft names 0 s
theorem zeX {α β:Type} [Inhabited α]{f:α->β}{l:List α}{i:Nat} (h:i<l.length):(l.map f).take (i+1)=(l.map f).take i++[f (nth l i)]:=by
 rw[List.take_add_one,List.getElem?_map,xan h];simp[nth,List.getD,h]
theorem zls {α:Type}{l:List α}{i:Nat} (h:i=4\/(i<=4/\l.length<=i)):l.take i=l.take 4:=by
 rcases h with rfl|⟨h1,h2⟩
 ·rfl
 ·rw[List.take_of_length_le h2,List.take_of_length_le od]
theorem zow {a b:UInt8}:((a.toNat:Int)=(b.toNat:Int))↔a=b:=by rw[xal];exact UInt8.toNat_inj
theorem zp8 (a:UInt8):IntKind.i64.wrap (a.toNat:Int)=(a.toNat:Int):=by have:=a.toNat_lt;exact zbU od
theorem zdq {c:UInt8}{s:Str}{i:Nat} (h:i<(cutL c [] s).length):(nth (cutL c [] s) i).length<=s.length:=by
 have:=zgG c s [] _ (zao h);simpa using this
theorem oo{p:Prop}(h:p:=by first|omega|(simp;omega)):p:=h
theorem zhm {names:List Str}{s:Str} (hn:names.length<=1000000000000) (hs:s.length<=1000000):
  FnD Tryz.prog 230 [.d (zcA names),.d (.str s)] [] (.agg [.d (.str (zcc names s).name),.d (zbH (zcc names s).args),.d (.i (zcc names s).index)]) []:=by
 have hwb:=zp8 (nth s (s.length-1));have hwl:=(nth s (s.length-1)).toNat_lt;by_cases hc:zmh s
 ·have hc1:=hc.1;have hct:(s.take (s.length-2)).length=s.length-2:=by rw[List.length_take];omega
  have hcl:=zdp 40 (s.take (s.length-2)) [];have hcp:=zgH 40 (s.take (s.length-2)) [];have hn1:=fun h=>zdq (c:=40) (s:=s.take (s.length-2)) (i:=1) h;have hal:=zdp 44 ((nth (cutL 40 [] (s.take (s.length-2))) 1).take ((nth (cutL 40 [] (s.take (s.length-2))) 1).length-1)) [];refine bd Tryz.f230 83 [] [2,7] fun _ _ _ _ hk=>?_;refine ab 3004 zfg ?_;apply tv;refine bu [] [] zrf ?_;refine ab 3005 zfg ?_;refine so zcy ?_;apply tv;refine xaB (xbk 11 [(20,.d (.bool true))] [10,11,12,13,14,15,16,17,18,19] ?_ ?_);refine ev ?_;apply sq<;>intro h1 h1p h1s;refine ar (xbD (i:=s.length-2) un9 (.some I I h1) I I I od (za0 od) ?_);refine evs [] [(13,true)] ?_ ⟨⟨_,I,h1⟩,O⟩;exact jn I (xaU (by(exact xax (xam (fun z:UInt8=>(z.toNat:Int)) hc.2))));try simp only[Q,List.length_take] at h1p
  exact jn I (xaU (by(exfalso;omega)));refine xbj ?_;apply tv;apply sq<;>intro h2 h2p h2s;refine ar (xbD (i:=s.length-1) un9 .none I I I od (za0 od) ?_);refine xbu oy un3 .none I I ?_;refine ev (ar (so ty3 ?_));apply tv;refine ar (xbv (b:=s.length-2) un9 .none I I I od od ?_);refine ev (wc zfT (zb5 (s:=s.take (s.length-2)) (c:=40) oo) I I ?_);refine ev (ixq (i:=0) sl84 I I I (zag od) I ?_);refine ev (so ty9 ?_);apply tv;refine xaB (xbk 10 [(49,.d (.bool (decide ((cutL 40 [] (s.take (s.length-2))).length<2\/(nth (cutL 40 [] (s.take (s.length-2))) 1).length=0))))] [40,41,42,43,44,45,46,47,48] ?_ ?_);refine ev ?_;apply sq<;>intro h3 h3p h3s<;>(try simp only[Q,List.length_take] at h3p);exact jn I (xaU (by(refine(xax ?_).symm;omega)));refine xbB (i:=1) sl84 (.some I I h3) I I I I (zag od) I ?_;refine evs [] [(43,false)] ?_ ⟨⟨_,I,h3⟩,O⟩;exact jn I (xaU (by(refine decide_eq_decide.2 ?_;omega)));refine xbj ?_;apply tv;apply sq<;>intro h4 h4p h4s;refine so zcy ?_;apply tv;refine rn0 (ra zcy) (.agg (qene ?_ ?_ ?_));rotate_left 3;try simp only[Q,List.length_take] at h4p
  refine ixq (i:=1) sl84 I I I (zag od) I ?_;refine evd [] [] (ixq (i:=1) sl84 I I I (zag od) I ?_);refine evd [] [] (ar (xbv (b:=(nth (cutL 40 [] (s.take (s.length-2))) 1).length-1) un9 .none I I I od od ?_));refine wc zfT (zb5 (s:=(nth (cutL 40 [] (s.take (s.length-2))) 1).take ((nth (cutL 40 [] (s.take (s.length-2))) 1).length-1)) (c:=44) oq) I I ?_;refine evd [] [] (dr (xaC 3005 1 1 2 I I I I (xaA (ι:=Nat) hk (fun i=>[(8,.d (.i (i:Int)))]) [61,62,63,64,65,66,67,68,69,70,71,72,73,74,75,76,77,78,79,80,81] (fun i=>[(3005,some (.box [.d (.str (nth (cutL 40 [] (s.take (s.length-2))) 0)),.gl 1 (((((cutL 44 [] ((nth (cutL 40 [] (s.take (s.length-2))) 1).take ((nth (cutL 40 [] (s.take (s.length-2))) 1).length-1))).map (zd3 names)).take i)).map Ty.c),.d (.i (((nth s (s.length-1)).toNat:Int)-48))])),(1,some (.tok (((((cutL 44 [] ((nth (cutL 40 [] (s.take (s.length-2))) 1).take ((nth (cutL 40 [] (s.take (s.length-2))) 1).length-1))).map (zd3 names)).take i)).map Ty.c).length 2))]) (fun i=>i<=4/\i<=(cutL 44 [] ((nth (cutL 40 [] (s.take (s.length-2))) 1).take ((nth (cutL 40 [] (s.take (s.length-2))) 1).length-1))).length) (fun i=>4-i) 0 ⟨by omega,by omega⟩ ⟨⟨_,I,xaV ?_⟩,O⟩ ⟨?_,⟨zaq ?_,O⟩⟩ (fun x=>rfl) (fun i hg1=>?_))));focus (rfl)
  focus ((show some (Res.box _)=some (Res.box _);rw[hwb];rfl))
  focus (rfl)
  refine evc [] [2,7] ?_;apply sq<;>intro h5 h5p h5s<;>(try simp only[Q,List.length_take] at h5p);apply sq<;>intro h6 h6p h6s<;>(try simp only[Q,List.length_take] at h6p);refine ixq sl84 I I I (zag od) I ?_;refine evd [] [] (wc zoH (zet (names:=names) (s:=nth (cutL 44 [] ((nth (cutL 40 [] (s.take (s.length-2))) 1).take ((nth (cutL 40 [] (s.take (s.length-2))) 1).length-1))) i) hn (by have:=zdq (c:=44) (s:=(nth (cutL 40 [] (s.take (s.length-2))) 1).take ((nth (cutL 40 [] (s.take (s.length-2))) 1).length-1)) (i:=i) od;simp at this;omega)) I I ?_);refine si [0] [_] zaJ tz38 ?_;refine ap zaJ zz38 I I I og oq ?_;refine evd [] [] (so zrj ?_);refine dr (ar (xaj (i+1) ⟨⟨by omega,by omega⟩,od,sx ⟨⟨_,I,xaV ?_⟩,O⟩ ⟨?_,⟨zaq ?_,O⟩⟩⟩));focus (rfl)
  focus ((show some (Res.box _)=some (Res.box _);rw[zeX od];simp;done))
  focus ((simp;omega))
  refine so zcy ?_;apply tv;refine rn0 (ra zcy) (.agg (qege ?_ ?_ ?_));rotate_left 3;refine sqF ?_;refine so zcy ?_;apply tv;refine rn0 (ra zcy) (.agg (qege ?_ ?_ ?_));rotate_left 3;try simp only[Q,List.length_take] at h2p
  exact absurd h2 og;all_goals (unfold zcc;rw[if_pos hc];first|rfl|(rw[hwb];rfl)|(unfold zft;dsimp only;by_cases hq:(cutL 40 [] (s.take (s.length-2))).length<2\/(nth (cutL 40 [] (s.take (s.length-2))) 1).length=0;all_goals first|(exfalso;exact(of_decide_eq_false h4) hq)|(exfalso;exact hq (xas h4))|(rw[if_pos hq];done)|(rw[if_pos hq];rfl)|(rw[if_neg hq,<-List.map_take,zls od];done)))
 ·skip
  have hcl:=zdp 40 (s) [];have hcp:=zgH 40 (s) [];have hn1:=fun h=>zdq (c:=40) (s:=s) (i:=1) h;have hal:=zdp 44 ((nth (cutL 40 [] (s)) 1).take ((nth (cutL 40 [] (s)) 1).length-1)) [];refine bd Tryz.f230 83 [] [2,7] fun _ _ _ _ hk=>?_;refine ab 3004 zfg ?_;apply tv;refine bu [] [] zrf ?_;refine ab 3005 zfg ?_;refine so zcy ?_;apply tv;refine xaB (xbk 11 [(20,.d (.bool false))] [10,11,12,13,14,15,16,17,18,19] ?_ ?_);refine ev ?_;apply sq<;>intro h1 h1p h1s;try simp only[Q,List.length_take] at h1p
  refine ar (xbD (i:=s.length-2) un9 (.some I I h1) I I I od (za0 od) ?_);refine evs [] [(13,true)] ?_ ⟨⟨_,I,h1⟩,O⟩;exact jn I (xaU (by(exact xaw (fun hh=>hc ⟨by omega,(zow (b:=58)).1 hh⟩))));exact jn I (xaU (by rfl));refine xbj ?_;apply tv;apply sq<;>intro h2 h2p h2s;exact absurd h2 og;refine wc zfT (zb5 (s:=s) (c:=40) oo) I I ?_;refine ev (ixq (i:=0) sl84 I I I (zag od) I ?_);refine ev (so ty9 ?_);apply tv;refine xaB (xbk 10 [(49,.d (.bool (decide ((cutL 40 [] s).length<2\/(nth (cutL 40 [] s) 1).length=0))))] [40,41,42,43,44,45,46,47,48] ?_ ?_);refine ev ?_;apply sq<;>intro h3 h3p h3s<;>(try simp only[Q,List.length_take] at h3p);exact jn I (xaU (by(refine(xax ?_).symm;omega)));refine xbB (i:=1) sl84 (.some I I h3) I I I I (zag od) I ?_;refine evs [] [(43,false)] ?_ ⟨⟨_,I,h3⟩,O⟩;exact jn I (xaU (by(refine decide_eq_decide.2 ?_;omega)));refine xbj ?_;apply tv;apply sq<;>intro h4 h4p h4s;refine so zcy ?_;apply tv;refine rn0 (ra zcy) (.agg (qene ?_ ?_ ?_));rotate_left 3;try simp only[Q,List.length_take] at h4p
  refine ixq (i:=1) sl84 I I I (zag od) I ?_;refine evd [] [] (ixq (i:=1) sl84 I I I (zag od) I ?_);refine evd [] [] (ar (xbv (b:=(nth (cutL 40 [] s) 1).length-1) un9 .none I I I od od ?_));refine wc zfT (zb5 (s:=(nth (cutL 40 [] s) 1).take ((nth (cutL 40 [] s) 1).length-1)) (c:=44) oq) I I ?_;refine evd [] [] (dr (xaC 3005 1 1 2 I I I I (xaA (ι:=Nat) hk (fun i=>[(8,.d (.i (i:Int)))]) [61,62,63,64,65,66,67,68,69,70,71,72,73,74,75,76,77,78,79,80,81] (fun i=>[(3005,some (.box [.d (.str (nth (cutL 40 [] (s)) 0)),.gl 1 (((((cutL 44 [] ((nth (cutL 40 [] (s)) 1).take ((nth (cutL 40 [] (s)) 1).length-1))).map (zd3 names)).take i)).map Ty.c),.d (.i (0))])),(1,some (.tok (((((cutL 44 [] ((nth (cutL 40 [] (s)) 1).take ((nth (cutL 40 [] (s)) 1).length-1))).map (zd3 names)).take i)).map Ty.c).length 2))]) (fun i=>i<=4/\i<=(cutL 44 [] ((nth (cutL 40 [] (s)) 1).take ((nth (cutL 40 [] (s)) 1).length-1))).length) (fun i=>4-i) 0 ⟨by omega,by omega⟩ ⟨⟨_,I,xaV ?_⟩,O⟩ ⟨?_,⟨zaq ?_,O⟩⟩ (fun x=>rfl) (fun i hg1=>?_))));focus (rfl)
  focus (rfl)
  focus (rfl)
  refine evc [] [2,7] ?_;apply sq<;>intro h5 h5p h5s<;>(try simp only[Q,List.length_take] at h5p);apply sq<;>intro h6 h6p h6s<;>(try simp only[Q,List.length_take] at h6p);refine ixq sl84 I I I (zag od) I ?_;refine evd [] [] (wc zoH (zet (names:=names) (s:=nth (cutL 44 [] ((nth (cutL 40 [] s) 1).take ((nth (cutL 40 [] s) 1).length-1))) i) hn (by have:=zdq (c:=44) (s:=(nth (cutL 40 [] (s)) 1).take ((nth (cutL 40 [] (s)) 1).length-1)) (i:=i) od;simp at this;omega)) I I ?_);refine si [0] [_] zaJ tz38 ?_;refine ap zaJ zz38 I I I og oq ?_;refine evd [] [] (so zrj ?_);refine dr (ar (xaj (i+1) ⟨⟨by omega,by omega⟩,od,sx ⟨⟨_,I,xaV ?_⟩,O⟩ ⟨?_,⟨zaq ?_,O⟩⟩⟩));focus (rfl)
  focus ((show some (Res.box _)=some (Res.box _);rw[zeX od];simp;done))
  focus ((simp;omega))
  refine so zcy ?_;apply tv;refine rn0 (ra zcy) (.agg (qege ?_ ?_ ?_));rotate_left 3;refine sqF ?_;refine so zcy ?_;apply tv;refine rn0 (ra zcy) (.agg (qege ?_ ?_ ?_));rotate_left 3;all_goals (unfold zcc;rw[if_neg hc];first|rfl|(unfold zft;dsimp only;by_cases hq:(cutL 40 [] (s)).length<2\/(nth (cutL 40 [] (s)) 1).length=0;all_goals first|(exfalso;exact(of_decide_eq_false h4) hq)|(exfalso;exact hq (xas h4))|(rw[if_pos hq];done)|(rw[if_pos hq];rfl)|(rw[if_neg hq,<-List.map_take,zls od];done)))
def decV (n:Int):Str:=strN [IntKind.u8.wrap (48+n)]
theorem zdX (n:Int):(decV n).length=1:=rfl
def zhH (n:Int):Str:=if n=0 then [] else if n = -1 then [42] else decV n
theorem zjC (n:Int):(zhH n).length<=1:=by unfold zhH;split;simp;split;simp;rw[zdX];omega
def zeS (w:List Data) (t:Ty):Str:=if t.data = -1 then [73] else (nth w t.data.toNat).name++zhH t.index
def zcH (w:List Data):Bool->List Ty->Str
 |_,[]=>[]
 |b,t::r=>((if b then [40] else [44])++zeS w t)++zcH w false r
def zb1 (w:List Data) (c:Ctor):Str:=
 let o:=c.name++zcH w true c.args
 let p:=if 0<c.args.length then o++[41] else o
 if 0<c.index then (p++[58])++decV c.index else p
def zbL (w:List Data):Bool->List Ctor->Str
 |_,[]=>[]
 |b,c::r=>((if b then [] else [124])++zb1 w c)++zbL w false r
def zgm (w:List Data):Bool->List Data->Str
 |_,[]=>[]
 |b,d::r=>((if b then [] else [59])++(d.name++[61])++zbL w true d.ctors)++zgm w false r
def zd9 (w:List Data):Str:=zgm w true w
structure TB (w:List Data):Prop where
 len:w.length<=4
 dn:∀d∈w,d.name.length<=1/\d.ctors.length<=4
 cn:∀d∈w,∀c∈d.ctors,c.name.length<=5/\c.args.length<=3/\0<=c.index/\c.index<=3
 ar:∀d∈w,∀c∈d.ctors,∀t∈c.args,(t.data = -1\/(0<=t.data/\t.data.toNat<w.length))/\ -1<=t.index/\t.index<=3
theorem zd0 {w:List Data} (hv:zaL w=true):TB w:=by
 have hW:=(zb7 w).1 hv;refine⟨hW.len,fun d hd=>?_,fun d hd c hc=>?_,fun d hd c hc t ht=>?_⟩
 ·have h:=hW.data d hd;have h1:=h.1;simp only[za9,xad,xah] at h1;omega
 ·have h:=hW.ctor d hd c hc;simp only[zbp,zcm,zaf,xad,xah] at h;omega
 ·have h:=hW.ctor d hd c hc;simp only[zbp,xad,Bool.not_eq_true',List.any_eq_false] at h;have hax:zbc w.length t=true:=by
   have:=h.2.2.2 t ht;cases h:zbc w.length t with
   |true=>rfl
   |false=>rw[h] at this;exact absurd I this
  simp only[zbc,zaf,Bool.or_eq_true,xad,xah,and_true] at hax;omega
theorem zff {w:List Data} (hb:TB w){t:Ty} (ht:t.data = -1\/(0<=t.data/\t.data.toNat<w.length)):(zeS w t).length<=2:=by
 unfold zeS;split
 ·simp
 ·rename_i h;have h1:=(hb.dn _ (zao (l:=w) (i:=t.data.toNat) od)).1;have h2:=zjC t.index;simp only[xaa];omega
theorem zfp {w:List Data} (hb:TB w):∀(l:List Ty) (b:Bool),(∀t∈l,t.data = -1\/(0<=t.data/\t.data.toNat<w.length))->(zcH w b l).length<=3*l.length
 | [],_,_=>by simp[zcH]
 |t::r,b,h=>by
  have h1:=zff hb (h t og);have h2:=zfp hb r false (fun x hx=>h x (by simp[hx]));simp only[zcH,xaa,xab];have h3:(if b=true then [(40:UInt8)] else [44]).length=1:=by split<;>rfl
  omega
theorem zme {w:List Data} (hb:TB w){c:Ctor} (h1:c.name.length<=5/\c.args.length<=3) (h2:∀t∈c.args,t.data = -1\/(0<=t.data/\t.data.toNat<w.length)):(zb1 w c).length<=20:=by
 have h3:=zfp hb c.args true h2;unfold zb1;dsimp only;have h4:=zdX c.index;split<;>split<;>simp only[xaa,xab,xak]<;>omega
theorem ziA {w:List Data}:∀(l:List Ctor) (b:Bool),(∀c∈l,(zb1 w c).length<=20)->(zbL w b l).length<=21*l.length
 | [],_,_=>by simp[zbL]
 |c::r,b,h=>by
  have h1:=h c og;have h2:=ziA r false (fun x hx=>h x (by simp[hx]));simp only[zbL,xaa,xab];have h3:(if b=true then ([]:Str) else [124]).length<=1:=by split<;>simp
  omega
theorem zcV {n:Int} (h0:0<=n) (h9:n<=9):FnD Tryz.prog 157 [.d (.i n)] [] (.d (.str (decV n))) []:=by
 refine bd Tryz.f157 31 [30] [] fun _ _ _ _ hk=>?_;apply sq<;>intro h1 h1p h1s<;>(try simp only[Q] at h1p);exfalso;omega;apply sq<;>intro h2 h2p h2s<;>(try simp only[Q] at h2p);exfalso;omega;refine xaA (ι:=Unit) hk (fun x=>[(0,.d (.i n)),(3,.d (.str []))]) [12,13,14,15,16,17,18,19,20,21,22,23] (fun x=>[]) (fun x=>True) (fun x=>0) () O ⟨⟨_,I,xaV ?_⟩,⟨⟨_,I,xaW ?_⟩,O⟩⟩ O (fun x=>rfl) (fun x hg1=>?_);iterate 2 focus (first|rfl|omega)
 refine evc [30] [] ?_;apply sq<;>intro h3 h3p h3s<;>(try simp only[Q] at h3p);exfalso;omega;refine ar (xbu (by rw[un3];rfl) un5 .none I I ?_);refine si [0] [_] sl22 tz5 ?_;refine xbo sl22 un9 oj .none I I I (by first|rfl|exact zf0 _) ?_;refine evs [30] [] (xbs .none I I I (by simp[strN]) ?_);refine evs [30] [] (rq ?_);rotate_left;all_goals (rfl)
theorem zj3 {n:Int} (h0 : -1<=n) (h9:n<=9):FnD Tryz.prog 279 [.d (.i n)] [] (.d (.str (zhH n))) []:=by
 refine bd Tryz.f279 10 [] [] fun _ _ _ _ hk=>?_;apply sq<;>intro h1 h1p h1s<;>(try simp only[Q] at h1p);refine rq ?_;rotate_left;apply sq<;>intro h2 h2p h2s<;>(try simp only[Q] at h2p);refine rq ?_;rotate_left;refine wc zhq (zcV od od) I I ?_;refine ev (rq ?_);rotate_left;all_goals (refine xam D.str ?_;unfold zhH;first|(rw[if_pos od];done)|(rw[if_neg od,if_pos od];done)|(rw[if_neg od,if_neg od];done)|(rw[if_pos od];rfl))
theorem zgv {w:List Data} (hb:TB w){a k:Int} (ha:a = -1\/(0<=a/\a.toNat<w.length)) (hk : -1<=k/\k<=3):FnD Tryz.prog 225 [.d (zae w),.agg [.d (.i a),.d (.i k)]] [] (.d (.str (zeS w ⟨a,k⟩))) []:=by
 have hl:=zjC k;have hdn:a≠ -1->(nth w a.toNat).name.length<=1:=fun h=>(hb.dn _ (zao (l:=w) (i:=a.toNat) od)).1;refine bd Tryz.f225 18 [17] [] fun _ _ _ _ hk=>?_;refine bx 3003 ?_;refine evs [17] [] ?_;apply sq<;>intro h1 h1p h1s<;>(try simp only[Q] at h1p);refine rq ?_;rotate_left;refine ixq (i:=a.toNat) sl23 I I od (zag od) I ?_;refine evd [17] [] (wc zsz (zj3 od od) I I ?_);refine xbs .none I I I (by have:=hdn h1p;omega) ?_;refine evd [17] [] (dr (rq ?_));rotate_left;all_goals (refine xam D.str ?_;unfold zeS;first|(rw[if_pos oh];done)|(rw[if_neg oh];done))
theorem zcF {w:List Data} (hb:TB w){s:Str}{l:List Ty}{k:Int} (hs:s.length<=5) (hl:l.length<=3) (hk:0<=k/\k<=3)
  (hl2:∀t∈l,(t.data = -1\/(0<=t.data/\t.data.toNat<w.length))/\ -1<=t.index/\t.index<=3):
  FnD Tryz.prog 281 [.d (zae w),.agg [.d (.str s),.d (zbH l),.d (.i k)]] [] (.d (.str (zb1 w ⟨s,l,k⟩))) []:=by
 have hall:=zfp hb l true (fun t ht=>(hl2 t ht).1);have hdl:=zdX k;refine bd Tryz.f281 47 [19,21,30,36,41,45] [] fun _ _ _ _ hk=>?_;refine bx 3003 ?_;refine evs [19,21,30,36,41,45] [] (xaA (ι:=List (Ty)×List (Ty)×(Str)) hk (fun x=>[(6,.d (.i (x.1.length:Int))),(5,.d (.str x.2.2))]) [9,10,11,12,13,14,15,16,17,18,19,20,21,22,23,24,25,26,27,28,29,30] (fun x=>[]) (fun x=>x.1++x.2.1=l/\x.2.2.length<=5+3*x.1.length/\x.2.2++zcH w (decide (x.1.length=0)) x.2.1=s++zcH w true l) (fun x=>x.2.1.length) ([],l,s) ⟨by simp,by simp;omega,by simp⟩ ⟨⟨_,I,xaV ?_⟩,⟨⟨_,I,xaW ?_⟩,O⟩⟩ O (fun x=>rfl) (fun x hg1=>?_));iterate 2 focus (first|rfl|(dsimp only;rw[if_pos od,xar];done))
 obtain⟨pre,rest,o⟩:=x;dsimp only at hg1 ⊢;refine evc [19,21,30,36,41,45] [] ?_;apply sq<;>intro h1 h1p h1s<;>(try simp only[Q] at h1p);rcases rest with _|⟨y,rest⟩
 ·exfalso;simp_all
 have hq:(zeS w ⟨y.data,y.index⟩).length<=2:=zff hb (hl2 y (by rw[<-hg1.1];simp)).1;apply sq<;>intro h2 h2p h2s<;>(try simp only[Q] at h2p);refine xbs .none I I I (by have hz:=xam List.length hg1.1;simp only[xaa,xab,xak] at hz ⊢;omega) ?_;refine evs [19,21,30,36,41,45] [] (ixq zaJ I I I (zaM hg1.1) I (evs [19,21,30,36,41,45] [] (wc zoM (zgv hb (a:=y.data) (k:=y.index) (hl2 y (by rw[<-hg1.1];simp)).1 (hl2 y (by rw[<-hg1.1];simp)).2) I I ?_)));refine xbs .none I I I (by have hz:=xam List.length hg1.1;simp only[xaa,xab,xak] at hz ⊢;omega) ?_;refine evs [19,21,30,36,41,45] [] (ar (xaj ((pre++[y],rest,o++((if pre.length=0 then [40] else [44])++zeS w y))) ⟨⟨(by have hz:=hg1.1;rw[<-hz];simp),⟨(by have hq:=zff hb (hl2 y (by rw[<-hg1.1];simp)).1;have h3:(if pre.length=0 then [(40:UInt8)] else [44]).length=1:=(by split<;>rfl);simp only[xaa,xab,xak];omega),(by rw[<-hg1.2.2];simp[zcH])⟩⟩,og,sx ⟨⟨_,I,xaV ?_⟩,⟨⟨_,I,xaW ?_⟩,O⟩⟩ O⟩));iterate 2 focus (first|(simp;done)|(dsimp only;rw[if_pos od,xar];done))
 refine xbs .none I I I (by have hz:=xam List.length hg1.1;simp only[xaa,xab,xak] at hz ⊢;omega) ?_;refine evs [19,21,30,36,41,45] [] (ixq zaJ I I I (zaM hg1.1) I (evs [19,21,30,36,41,45] [] (wc zoM (zgv hb (a:=y.data) (k:=y.index) (hl2 y (by rw[<-hg1.1];simp)).1 (hl2 y (by rw[<-hg1.1];simp)).2) I I ?_)));refine xbs .none I I I (by have hz:=xam List.length hg1.1;simp only[xaa,xab,xak] at hz ⊢;omega) ?_;refine evs [19,21,30,36,41,45] [] (ar (xaj ((pre++[y],rest,o++((if pre.length=0 then [40] else [44])++zeS w y))) ⟨⟨(by have hz:=hg1.1;rw[<-hz];simp),⟨(by have hq:=zff hb (hl2 y (by rw[<-hg1.1];simp)).1;have h3:(if pre.length=0 then [(40:UInt8)] else [44]).length=1:=(by split<;>rfl);simp only[xaa,xab,xak];omega),(by rw[<-hg1.2.2];simp[zcH])⟩⟩,og,sx ⟨⟨_,I,xaV ?_⟩,⟨⟨_,I,xaW ?_⟩,O⟩⟩ O⟩));iterate 2 focus (first|(simp;done)|(dsimp only;rw[if_pos od,xar];done)|(dsimp only;rw[if_neg od,xar];done))
 have hrest:rest=[]:=by
  rcases rest with _|⟨a,b⟩
  ·rfl
  ·exfalso;have hz:=xam List.length (hg1.1);simp only[xaa,xab,xac] at hz;omega
 subst hrest;apply sq<;>intro h3 h3p h3s<;>(try simp only[Q] at h3p);refine xbs .none I I I (by have hz:=xam List.length hg1.1;simp only[xaa,xab,xak] at hz ⊢;omega) ?_;refine evs [19,21,30,36,41,45] [] ?_;apply sq<;>intro h4 h4p h4s<;>(try simp only[Q] at h4p);refine xbs .none I I I (by have hz:=xam List.length hg1.1;simp only[xaa,xab,xak] at hz ⊢;omega) ?_;refine evs [19,21,30,36,41,45] [] (wc zhq (zcV od od) I I ?_);refine xbs .none I I I (by have hz:=xam List.length hg1.1;simp only[xaa,xab,xak] at hz ⊢;omega) ?_;refine evs [19,21,30,36,41,45] [] (rq ?_);rotate_left;refine rq ?_;rotate_left;apply sq<;>intro h5 h5p h5s<;>(try simp only[Q] at h5p);refine xbs .none I I I (by have hz:=xam List.length hg1.1;simp only[xaa,xab,xak] at hz ⊢;omega) ?_;refine evs [19,21,30,36,41,45] [] (wc zhq (zcV od od) I I ?_);refine xbs .none I I I (by have hz:=xam List.length hg1.1;simp only[xaa,xab,xak] at hz ⊢;omega) ?_;refine evs [19,21,30,36,41,45] [] (rq ?_);rotate_left;refine rq ?_;rotate_left;all_goals (refine xam D.str ?_;have hfin:=hg1.2.2;simp only[zcH,xaq] at hfin;unfold zb1;dsimp only;rw[<-hfin];first|(rw[if_pos od,if_pos (by simp at *;omega)];done)|(rw[if_pos od,if_neg (by simp at *;omega)];done)|(rw[if_neg od,if_pos (by simp at *;omega)];done)|(rw[if_neg od,if_neg (by simp at *;omega)];done))
theorem zkO {w:List Data} (hb:TB w):FnD Tryz.prog 231 [.d (zae w)] [] (.d (.str (zd9 w))) []:=by
 have hwl:=hb.len;have hct:∀d∈w,∀c∈d.ctors,(zb1 w c).length<=20:=fun d hd c hc=>zme hb ⟨(hb.cn d hd c hc).1,(hb.cn d hd c hc).2.1⟩ (fun t ht=>(hb.ar d hd c hc t ht).1);refine bd Tryz.f231 51 [15,22,23,37,49] [] fun _ _ _ _ hk=>?_;refine xaA (ι:=List (Data)×List (Data)×(Str)) hk (fun x=>[(4,.d (.i (x.1.length:Int))),(3,.d (.str x.2.2))]) [5,6,7,8,9,10,11,12,13,14,15,16,17,18,19,20,21,22,23,24,25,26,27,28,29,30,31,32,33,34,35,36,37,38,39,40,41,42,43,44,45,46,47,48,49] (fun x=>[]) (fun x=>x.1++x.2.1=w/\x.2.2.length<=100*x.1.length/\x.2.2++zgm w (decide (x.1.length=0)) x.2.1=zd9 w) (fun x=>x.2.1.length) ([],w,[]) ⟨by simp,by simp,by simp[zd9]⟩ ⟨⟨_,I,xaV ?_⟩,⟨⟨_,I,xaW ?_⟩,O⟩⟩ O (fun x=>rfl) (fun x hg1=>?_);iterate 2 focus (first|rfl|(rw[hfin];simp;done))
 obtain⟨pre,rest,o⟩:=x;dsimp only at hg1 ⊢;refine evc [15,22,23,37,49] [] ?_;apply sq<;>intro h1 h1p h1s<;>(try simp only[Q] at h1p);rcases rest with _|⟨y,rest⟩
 ·exfalso;simp_all
 have hym:y∈w:=(by rw[<-hg1.1];simp);have hyd:=hb.dn y hym;have hpl:pre.length<4:=od;have hcl:=ziA (w:=w) y.ctors true (hct y hym);apply sq<;>intro h2 h2p h2s<;>(try simp only[Q] at h2p);refine xbs .none I I I (by(try simp only[xaa,xab,xak]);omega) (evs [15,22,23,37,49] [] (ixq sl23 I I I (zaM hg1.1) I (evs [15,22,23,37,49] [] (xbs .none I I I (by(try simp only[xaa,xab,xak]);omega) (xbs .none I I I (by(try simp only[xaa,xab,xak]);omega) (evs [15,22,23,37,49] [] (xaA (ι:=List (Ctor)×List (Ctor)×(Str)) hk (fun x=>[(5,.d (.i (x.1.length:Int))),(3,.d (.str x.2.2))]) [24,25,26,27,28,29,30,31,32,33,34,35,36,37,38,39,40,41,42,43,44,45,46,47,48,49] (fun x=>[]) (fun x=>x.1++x.2.1=y.ctors/\x.2.2.length<=100*pre.length+4+21*x.1.length/\x.2.2++zbL w (decide (x.1.length=0)) x.2.1=(o++((if pre.length=0 then [] else [59])++(y.name++[61])))++zbL w true y.ctors) (fun x=>x.2.1.length) ([],y.ctors,o++((if pre.length=0 then [] else [59])++(y.name++[61]))) ⟨by simp,(by have h3:(if pre.length=0 then ([]:Str) else [59]).length<=1:=(by split<;>simp);simp only[xaa,xab,xak];omega),by simp⟩ ⟨⟨_,I,xaV ?_⟩,⟨⟨_,I,xaW ?_⟩,O⟩⟩ O (fun x=>rfl) (fun x hg2=>?_))))))));iterate 2 focus (first|rfl|(rw[if_neg od];simp;done))
 obtain⟨pre2,rest2,q⟩:=x;dsimp only at hg2 ⊢;refine evc [15,22,23,37,49] [] (ixq sl23 I I I (zaM hg1.1) I (evs [15,22,23,37,49] [] ?_));apply sq<;>intro h3 h3p h3s<;>(try simp only[Q] at h3p);rcases rest2 with _|⟨c,rest2⟩
 ·exfalso;simp_all
 have hcm:=hct y hym c (by rw[<-hg2.1];simp);have hce:(zb1 w ⟨c.name,c.args,c.index⟩).length<=20:=hcm;have hp2:=xam List.length hg2.1;simp only[xaa,xab] at hp2;apply sq<;>intro h4 h4p h4s<;>(try simp only[Q] at h4p);refine xbs .none I I I (by(try simp only[xaa,xab,xak]);omega) (evs [15,22,23,37,49] [] (ixq sl23 I I I (zaM hg1.1) I (evs [15,22,23,37,49] [] (ixq zbN I I I (zaM hg2.1) I (evs [15,22,23,37,49] [] (wc zjh (zcF hb (s:=c.name) (l:=c.args) (k:=c.index) (hb.cn y hym c (by rw[<-hg2.1];simp)).1 (hb.cn y hym c (by rw[<-hg2.1];simp)).2.1 (hb.cn y hym c (by rw[<-hg2.1];simp)).2.2 (hb.ar y hym c (by rw[<-hg2.1];simp))) I I ?_))))));refine xbs .none I I I (by(try simp only[xaa,xab,xak]);omega) (evs [15,22,23,37,49] [] (ar (xaj ((pre2++[c],rest2,q++((if pre2.length=0 then [] else [124])++zb1 w c))) ⟨⟨(by have hz:=hg2.1;rw[<-hz];simp),⟨(by have h3:(if pre2.length=0 then ([]:Str) else [124]).length<=1:=(by split<;>simp);simp only[xaa,xab,xak];omega),(by rw[<-hg2.2.2];simp[zbL])⟩⟩,og,sx ⟨⟨_,I,xaV ?_⟩,⟨⟨_,I,xaW ?_⟩,O⟩⟩ O⟩)));iterate 2 focus (first|rfl|(rw[if_neg od];simp;done))
 refine ixq sl23 I I I (zaM hg1.1) I (evs [15,22,23,37,49] [] (ixq zbN I I I (zaM hg2.1) I (evs [15,22,23,37,49] [] (wc zjh (zcF hb (s:=c.name) (l:=c.args) (k:=c.index) (hb.cn y hym c (by rw[<-hg2.1];simp)).1 (hb.cn y hym c (by rw[<-hg2.1];simp)).2.1 (hb.cn y hym c (by rw[<-hg2.1];simp)).2.2 (hb.ar y hym c (by rw[<-hg2.1];simp))) I I ?_))));refine xbs .none I I I (by(try simp only[xaa,xab,xak]);omega) (evs [15,22,23,37,49] [] (ar (xaj ((pre2++[c],rest2,q++((if pre2.length=0 then [] else [124])++zb1 w c))) ⟨⟨(by have hz:=hg2.1;rw[<-hz];simp),⟨(by have h3:(if pre2.length=0 then ([]:Str) else [124]).length<=1:=(by split<;>simp);simp only[xaa,xab,xak];omega),(by rw[<-hg2.2.2];simp[zbL])⟩⟩,og,sx ⟨⟨_,I,xaV ?_⟩,⟨⟨_,I,xaW ?_⟩,O⟩⟩ O⟩)));iterate 2 focus (first|rfl|(rw[if_neg od];simp;done)|(rw[if_pos od];simp;done))
 have hrest2:rest2=[]:=by
  rcases rest2 with _|⟨a,b⟩
  ·rfl
  ·exfalso;have hz:=xam List.length (hg2.1);simp only[xaa,xab,xac] at hz;omega
 subst hrest2;refine ar ?_;have hfin:=hg2.2.2;simp only[zbL,xaq] at hfin;refine xaj ((pre++[y],rest,o++((if pre.length=0 then [] else [59])++(y.name++[61])++zbL w true y.ctors))) ⟨⟨(by have hz:=hg1.1;rw[<-hz];simp),⟨(by have h3:(if pre.length=0 then ([]:Str) else [59]).length<=1:=(by split<;>simp);simp only[xaa,xab,xak];omega),(by rw[<-hg1.2.2];simp[zgm])⟩⟩,og,sx ⟨⟨_,I,xaV ?_⟩,⟨⟨_,I,xaW ?_⟩,O⟩⟩ O⟩;iterate 2 focus (first|rfl|(simp;done)|(rw[hfin];simp;done))
 refine ixq sl23 I I I (zaM hg1.1) I (evs [15,22,23,37,49] [] (xbs .none I I I (by(try simp only[xaa,xab,xak]);omega) (xbs .none I I I (by(try simp only[xaa,xab,xak]);omega) (evs [15,22,23,37,49] [] (xaA (ι:=List (Ctor)×List (Ctor)×(Str)) hk (fun x=>[(5,.d (.i (x.1.length:Int))),(3,.d (.str x.2.2))]) [24,25,26,27,28,29,30,31,32,33,34,35,36,37,38,39,40,41,42,43,44,45,46,47,48,49] (fun x=>[]) (fun x=>x.1++x.2.1=y.ctors/\x.2.2.length<=100*pre.length+4+21*x.1.length/\x.2.2++zbL w (decide (x.1.length=0)) x.2.1=(o++((if pre.length=0 then [] else [59])++(y.name++[61])))++zbL w true y.ctors) (fun x=>x.2.1.length) ([],y.ctors,o++((if pre.length=0 then [] else [59])++(y.name++[61]))) ⟨by simp,(by have h3:(if pre.length=0 then ([]:Str) else [59]).length<=1:=(by split<;>simp);simp only[xaa,xab,xak];omega),by simp⟩ ⟨⟨_,I,xaV ?_⟩,⟨⟨_,I,xaW ?_⟩,O⟩⟩ O (fun x=>rfl) (fun x hg2=>?_))))));iterate 2 focus (first|rfl|(rw[if_neg od];simp;done)|(rw[if_pos od];simp;done))
 obtain⟨pre2,rest2,q⟩:=x;dsimp only at hg2 ⊢;refine evc [15,22,23,37,49] [] (ixq sl23 I I I (zaM hg1.1) I (evs [15,22,23,37,49] [] ?_));apply sq<;>intro h5 h5p h5s<;>(try simp only[Q] at h5p);rcases rest2 with _|⟨c,rest2⟩
 ·exfalso;simp_all
 have hcm:=hct y hym c (by rw[<-hg2.1];simp);have hce:(zb1 w ⟨c.name,c.args,c.index⟩).length<=20:=hcm;have hp2:=xam List.length hg2.1;simp only[xaa,xab] at hp2;apply sq<;>intro h6 h6p h6s<;>(try simp only[Q] at h6p);refine xbs .none I I I (by(try simp only[xaa,xab,xak]);omega) (evs [15,22,23,37,49] [] (ixq sl23 I I I (zaM hg1.1) I (evs [15,22,23,37,49] [] (ixq zbN I I I (zaM hg2.1) I (evs [15,22,23,37,49] [] (wc zjh (zcF hb (s:=c.name) (l:=c.args) (k:=c.index) (hb.cn y hym c (by rw[<-hg2.1];simp)).1 (hb.cn y hym c (by rw[<-hg2.1];simp)).2.1 (hb.cn y hym c (by rw[<-hg2.1];simp)).2.2 (hb.ar y hym c (by rw[<-hg2.1];simp))) I I ?_))))));refine xbs .none I I I (by(try simp only[xaa,xab,xak]);omega) (evs [15,22,23,37,49] [] (ar (xaj ((pre2++[c],rest2,q++((if pre2.length=0 then [] else [124])++zb1 w c))) ⟨⟨(by have hz:=hg2.1;rw[<-hz];simp),⟨(by have h3:(if pre2.length=0 then ([]:Str) else [124]).length<=1:=(by split<;>simp);simp only[xaa,xab,xak];omega),(by rw[<-hg2.2.2];simp[zbL])⟩⟩,og,sx ⟨⟨_,I,xaV ?_⟩,⟨⟨_,I,xaW ?_⟩,O⟩⟩ O⟩)));iterate 2 focus (first|rfl|(rw[if_neg od];simp;done))
 refine ixq sl23 I I I (zaM hg1.1) I (evs [15,22,23,37,49] [] (ixq zbN I I I (zaM hg2.1) I (evs [15,22,23,37,49] [] (wc zjh (zcF hb (s:=c.name) (l:=c.args) (k:=c.index) (hb.cn y hym c (by rw[<-hg2.1];simp)).1 (hb.cn y hym c (by rw[<-hg2.1];simp)).2.1 (hb.cn y hym c (by rw[<-hg2.1];simp)).2.2 (hb.ar y hym c (by rw[<-hg2.1];simp))) I I ?_))));refine xbs .none I I I (by(try simp only[xaa,xab,xak]);omega) (evs [15,22,23,37,49] [] (ar (xaj ((pre2++[c],rest2,q++((if pre2.length=0 then [] else [124])++zb1 w c))) ⟨⟨(by have hz:=hg2.1;rw[<-hz];simp),⟨(by have h3:(if pre2.length=0 then ([]:Str) else [124]).length<=1:=(by split<;>simp);simp only[xaa,xab,xak];omega),(by rw[<-hg2.2.2];simp[zbL])⟩⟩,og,sx ⟨⟨_,I,xaV ?_⟩,⟨⟨_,I,xaW ?_⟩,O⟩⟩ O⟩)));iterate 2 focus (first|rfl|(rw[if_neg od];simp;done)|(rw[if_pos od];simp;done))
 have hrest2:rest2=[]:=by
  rcases rest2 with _|⟨a,b⟩
  ·rfl
  ·exfalso;have hz:=xam List.length (hg2.1);simp only[xaa,xab,xac] at hz;omega
 subst hrest2;refine ar ?_;have hfin:=hg2.2.2;simp only[zbL,xaq] at hfin;refine xaj ((pre++[y],rest,o++((if pre.length=0 then [] else [59])++(y.name++[61])++zbL w true y.ctors))) ⟨⟨(by have hz:=hg1.1;rw[<-hz];simp),⟨(by have h3:(if pre.length=0 then ([]:Str) else [59]).length<=1:=(by split<;>simp);simp only[xaa,xab,xak];omega),(by rw[<-hg1.2.2];simp[zgm])⟩⟩,og,sx ⟨⟨_,I,xaV ?_⟩,⟨⟨_,I,xaW ?_⟩,O⟩⟩ O⟩;iterate 2 focus (first|rfl|(simp;done)|(rw[hfin];simp;done))
 have hrest:rest=[]:=by
  rcases rest with _|⟨a,b⟩
  ·rfl
  ·exfalso;have hz:=xam List.length (hg1.1);simp only[xaa,xab,xac] at hz;omega
 subst hrest;refine rq ?_;rotate_left;all_goals (refine xam D.str ?_;have hfin:=hg1.2.2;simp only[zgm,xaq] at hfin;exact hfin)
def pwL (s:Str):List Str:=cutL 59 [] s
def pwP (s:Str) (i:Nat):List Str:=cutL 61 [] (nth (pwL s) i)
def pwC (s:Str) (i:Nat):List Str:=cutL 124 [] (nth (pwP s i) 1)
def zbn (s:Str):Nat:=if s=[] then 0 else min (pwL s).length 5
def zcf (s:Str) (n:Nat):List Str:=(List.range n).map fun i=>nth (pwP s i) 0
def zhU (s:Str) (i:Nat):Data:=⟨nth (pwP s i) 0,((pwC s i).take 5).map (zcc (zcf s (zbn s)))⟩
def zck (s:Str) (n:Nat):List Data:=(List.range n).map (zhU s)
def zfH (s:Str):Bool:=(List.range (zbn s)).all (fun i=>decide ((pwP s i).length=2))&&(zaL (zck s (zbn s))&&decide (zd9 (zck s (zbn s))=s))
def zcU (s:Str):List Data×Bool:=if zfH s then (zck s (zbn s),true) else ([],false)
theorem zmM (s:Str):zbn s<=(pwL s).length/\zbn s<=5:=by unfold zbn;split<;>omega
theorem zdv {s:Str}{i:Nat}:i<zbn s↔(i<(pwL s).length/\i<=4)/\s≠[]:=by
 unfold zbn;split
 ·rename_i h;simp[h]
 ·rename_i h;simp only[h,ne_eq,not_false_eq_true,and_true];omega
theorem zaQ (s:Str) (n:Nat):(zcf s n).length=n:=by simp[zcf]
theorem zmN (s:Str) (n:Nat):zcf s (n+1)=zcf s n++[nth (pwP s n) 0]:=by unfold zcf;rw[List.range_succ,xag];rfl
theorem zjN (s:Str) (n:Nat):zck s (n+1)=zck s n++[zhU s n]:=by unfold zck;rw[List.range_succ,xag];rfl
theorem zrI {s:Str}{n m:Nat} (h:m<n):((zcf s n).map fun n=>[D.str n])[m]?=some [D.str (nth (pwP s m) 0)]:=by
 simp[zcf,h]
theorem znG {s:Str}{i:Nat} (h:i<(pwL s).length):(nth (pwL s) i).length<=s.length:=zdq h
theorem zim {s:Str}{i j:Nat} (h:i<(pwL s).length) (hj:j<(pwP s i).length):(nth (pwP s i) j).length<=s.length:=Nat.le_trans (zdq hj) (znG h)
theorem zrM {s:Str}{i k:Nat} (h:k<(pwC s i).length):(nth (pwC s i) k).length<=(nth (pwP s i) 1).length:=zdq h
theorem zpY {α:Type}{l:List α}{i:Nat} (h:i=5\/(i<=5/\l.length<=i)):l.take i=l.take 5:=by
 rcases h with rfl|⟨h1,h2⟩
 ·rfl
 ·rw[List.take_of_length_le h2,List.take_of_length_le od]
theorem zoh {c:UInt8}{s:Str}:(nth (cutL c [] s) 0).length<=s.length:=zdq (zgH c s [])
theorem zmF {names:List Str}{s:Str}:(zcc names s).name.length<=s.length/\(zcc names s).args.length<=4:=by
 have key:∀(ix:Int) (t:Str),(zft names ix t).name.length<=t.length/\(zft names ix t).args.length<=4:=by
  intro ix t;refine⟨zoh, ?_⟩;unfold zft;dsimp only;split
  ·simp
  ·simp only[xac,List.length_take];omega
 unfold zcc;split
 ·have:=key (((nth s (s.length-1)).toNat:Int)-48) (s.take (s.length-2));rw[List.length_take] at this;omega
 ·exact key 0 s
theorem zpG {s:Str} (hs:s.length<=1000000) (h2:∀j,j<zbn s->(pwP s j).length=2):WSmall (zck s (zbn s)):=by
 have hl:=zmM s;have hd:∀d∈zck s (zbn s),∃i,i<zbn s/\d=zhU s i:=fun d hd=>by
  obtain⟨i,hi,rfl⟩:=List.mem_map.1 hd;exact⟨i,List.mem_range.1 hi,rfl⟩
 refine⟨by simp only[zck,xac,List.length_range];omega,fun d hd'=>?_,fun d hd' c hc=>?_⟩
 ·obtain⟨i,hi,rfl⟩:=hd d hd';have:=zim (s:=s) (i:=i) (j:=0) od (by rw[h2 i hi];omega);refine⟨?_, ?_⟩
  ·show(nth (pwP s i) 0).length<=_;omega
  ·simp only[zhU,xac,List.length_take];omega
 ·obtain⟨i,hi,rfl⟩:=hd d hd';obtain⟨t,ht,rfl⟩:=List.mem_map.1 hc;have h3:=zim (s:=s) (i:=i) (j:=1) od (by rw[h2 i hi];omega);have h4:t.length<=(nth (pwP s i) 1).length:=by simpa using zgG 124 (nth (pwP s i) 1) [] t (List.mem_of_mem_take ht)
  have h5:=zmF (names:=zcf s (zbn s)) (s:=t);omega
theorem ztk {s:Str} (hs:s.length<=1000000):FnD Tryz.prog 74 [.d (.str s),.d (.int .u8 59)] [] (.d (zcA (pwL s))) []:=zb5 (s:=s) (c:=59) od
theorem zq0 {s:Str}{i:Nat} (hs:s.length<=1000000) (h:i<(pwL s).length):FnD Tryz.prog 74 [.d (.str (nth (pwL s) i)),.d (.int .u8 61)] [] (.d (zcA (pwP s i))) []:=zb5 (s:=nth (pwL s) i) (c:=61) (by have:=znG h;omega)
theorem ztj {s:Str}{i:Nat} (hs:s.length<=1000000) (h:i<(pwL s).length) (h2:(pwP s i).length=2):FnD Tryz.prog 74 [.d (.str (nth (pwP s i) 1)),.d (.int .u8 124)] [] (.d (zcA (pwC s i))) []:=
 zb5 (s:=nth (pwP s i) 1) (c:=124) (by have:=zim (j:=1) h od;omega)
theorem ziw {w:List Data} (hs:WSmall w):FnD Tryz.prog 68 [.d (zae w)] [] (.d (.bool (zaL w))) []:=by
 rw[<-ze5];exact zeR hs
theorem znv {s:Str} (h:zfH s=false):zcU s=([],false):=by unfold zcU;rw[if_neg (by rw[h];simp)]
theorem zqk {s:Str} (h:zfH s=true):zcU s=(zck s (zbn s),true):=by unfold zcU;rw[if_pos h]
theorem zqj {s:Str}{i:Nat} (h:i<zbn s) (h2:¬(pwP s i).length=2):zfH s=false:=by
 unfold zfH;rw[zdi h (by simpa using h2),Bool.false_and]
theorem zlb {s:Str} (h:∀j,j<zbn s->(pwP s j).length=2):zfH s=(zaL (zck s (zbn s))&&decide (zd9 (zck s (zbn s))=s)):=by
 unfold zfH;rw[zev (fun i hi=>by simpa using h i hi),Bool.true_and]
theorem zh6 {s:Str} (hs:s.length<=100000):FnD Tryz.prog 146 [.d (.str s)] [] (.tup [.d (zae (zcU s).1),.d (.bool (zcU s).2)]) []:=by
 have hl:=zmM s;have hcl:(pwL s).length<=s.length+1:=zdp 59 s [];have hccl:∀i,(pwC s i).length<=(nth (pwP s i) 1).length+1:=fun i=>zdp 124 _ [];have hnl:=zaQ s;refine bd Tryz.f146 101 [] [5,17,21] fun _ _ _ _ hk=>?_;refine xbR 1 sl23 .none I I (ev (xbR 2 sl84 .none I I (ev (wc zfT (ztk (s:=s) od) I I ?_))));refine ev (xaA (ι:=Nat) hk (fun i=>[(7,.d (.i (i:Int))),(5,.gl 2 ((zcf s i).map fun n=>[D.str n]))]) [2,3,8,17,18,19,20,21,22,23,24,25,26,27,28,29,30,31,32,33,34,35,36,37,38,39,40,41,42,43,44,45] (fun i=>[(2,some (.tok (((zcf s i).map fun n=>[D.str n])).length 1))]) (fun i=>i<=zbn s/\∀j,j<i->(pwP s j).length=2) (fun i=>zbn s-i) 0 ⟨by omega,fun j h=>absurd h od⟩ ⟨⟨_,I,xaV ?_⟩,⟨⟨_,I,LeA.glg ?_⟩,O⟩⟩ ⟨zaq ?_,O⟩ (fun x=>rfl) (fun i hg1=>?_));iterate 3 focus (rfl)
 refine evc [] [5,17,21] (xaB (xbk 12 [(28,.d (.bool (decide (i<zbn s))))] [17,18,19,20,21,22,23,24,25,26,27] ?_ ?_));refine ev ?_;apply sq<;>intro h1 h1p h1s<;>(try simp only[Q,zaQ] at h1p);apply sq<;>intro h2 h2p h2s<;>(try simp only[Q,zaQ] at h2p);focus (exact jn I (xaU (by(rw[xat];simp_all[zdv];omega))))
 focus (exact jn I (xaU (by(rw[xat];simp_all[zdv];omega))))
 refine sqF ?_;focus (exact jn I (xaU (by(rw[xat];simp_all[zdv];omega))))
 refine xbj ?_;apply tv;apply sq<;>intro h3 h3p h3s<;>(try simp only[Q,zaQ] at h3p);refine ixq sl84 I I I (zag od) I ?_;refine ev (wc zfT (zq0 (s:=s) (i:=i) od od) I I ?_);refine ev ?_;apply sq<;>intro h4 h4p h4s<;>(try simp only[Q,zaQ] at h4p);refine xbQ sl23 .none I (ev (rn0 (r2 I I) (.tup (qee ?_ ?_))));rotate_left 2;refine ixq (i:=0) sl84 I I I (zag od) I ?_;refine ev (si [0] [_] sl84 tz9 ?_);refine ap sl84 zz9 I I I og (by simp[zaQ,zck];omega) ?_;refine ev (ar (xaj (i+1) ⟨⟨by omega,zbq hg1.2 od⟩,od,sx ⟨⟨_,I,xaV ?_⟩,⟨⟨_,I,LeA.glg ?_⟩,O⟩⟩ ⟨zaq ?_,O⟩⟩));iterate 3 focus (first|rfl|(rw[zmN];simp;done))
 obtain rfl:i=zbn s:=od;refine xaA (ι:=Nat) hk (fun m=>[(9,.d (.i (m:Int))),(4,.gl 1 ((zck s m).map Data.c))]) [10,11,12,46,47,48,49,50,51,52,53,54,55,56,57,58,59,60,61,62,63,64,65,66,67,68,69,70,71,72,73,74,75,76,77,78,79,80,81,82,83,84,85,86,87,88,89] (fun m=>[(1,some (.tok (((zck s m).map Data.c)).length 2))]) (fun m=>m<=zbn s) (fun m=>zbn s-m) 0 od ⟨⟨_,I,xaV ?_⟩,⟨⟨_,I,LeA.glg ?_⟩,O⟩⟩ ⟨zaq ?_,O⟩ (fun x=>rfl) (fun m hg2=>?_);iterate 3 focus (rfl)
 refine evc [] [5,17,21] ?_;apply sq<;>intro h5 h5p h5s<;>(try simp only[Q,zaQ] at h5p);refine ixq sl84 I I I (zag od) I ?_;refine ev (wc zfT (zq0 (s:=s) (i:=m) od od) I I ?_);refine ixq (i:=1) sl84 I I I (zag (by(rw[hg1.2 m od];omega))) I ?_;refine ev (wc zfT (ztj (s:=s) (i:=m) od od (hg1.2 m od)) I I ?_);refine ev (Walk.idxG sl84 .none I I I I (zrI od) I ?_);refine ev (bu [0] [_] ztt ?_);refine ab 3011 zou ?_;refine so zri ?_;apply tv;refine xaC 3011 1 3 3 I I I I (xaA (ι:=Nat) hk (fun k=>[(12,.d (.i (k:Int)))]) [65,66,67,68,69,70,71,72,73,74,75,76,77,78,79,80,81,82,83,84,85] (fun k=>[(3011,some (.box [.d (.str (nth (pwP s m) 0)),.gl 3 ((((pwC s m).map (zcc (zcf s (zbn s)))).take k).map Ctor.c)])),(3,some (.tok ((((pwC s m).map (zcc (zcf s (zbn s)))).take k).map Ctor.c).length 3))]) (fun k=>k<=5/\k<=(pwC s m).length) (fun k=>5-k) 0 ⟨by omega,by omega⟩ ⟨⟨_,I,xaV ?_⟩,O⟩ ⟨?_,⟨zaq ?_,O⟩⟩ (fun x=>rfl) (fun k hg3=>?_));focus (rfl)
 focus (rfl)
 focus (rfl)
 refine evc [] [5,17,21] (xaB (xbk 8 [(72,.d (.bool (decide (k<(pwC s m).length/\k<=4))))] [65,66,67,68,69,70,71] ?_ ?_));refine ev ?_;apply sq<;>intro h6 h6p h6s<;>(try simp only[Q,zaQ] at h6p);focus (exact jn I (xaU (by(rw[xat];simp_all[zdv];omega))))
 focus (exact jn I (xaU (by(rw[xat];simp_all[zdv];omega))))
 refine xbj ?_;apply tv;apply sq<;>intro h7 h7p h7s<;>(try simp only[Q,zaQ] at h7p);refine ixq sl84 I I I (zag od) I ?_;refine evd [] [] (Walk.call (cr:=[]) zsr (zhm (names:=zcf s (zbn s)) (s:=nth (pwC s m) k) (by rw[hnl];omega) (by have h1:=zim (s:=s) (i:=m) (j:=1) od (by rw[hg1.2 m od];omega);have h2:=zrM (s:=s) (i:=m) (k:=k) od;omega)) I .none I I (.cons (.gl _ _) (.cons (.refl _) .nil)) O I I I ?_);refine si [0] [_] zbN zfg ?_;refine ap zbN ztD I I I og (by simp[zaQ,zck];omega) ?_;refine evd [] [] (so ztw ?_);refine dr (ar (xaj (k+1) ⟨⟨by omega,by omega⟩,od,sx ⟨⟨_,I,xaV ?_⟩,O⟩ ⟨?_,⟨zaq ?_,O⟩⟩⟩));focus (rfl)
 focus ((show some (Res.box _)=some (Res.box _);rw[zeX od];simp;done))
 focus ((simp;omega))
 refine si [0] [_] sl23 zou ?_;refine ap sl23 ztB I I I og (by simp[zaQ,zck];omega) ?_;refine ev (ar (xaj (m+1) ⟨od,od,sx ⟨⟨_,I,xaV ?_⟩,⟨⟨_,I,LeA.glg ?_⟩,O⟩⟩ ⟨zaq ?_,O⟩⟩));iterate 3 focus (first|rfl|(rw[zjN];simp;done)|(rw[zjN,xag];simp only[xaf,List.map_nil,zhU,Data.c];rw[<-List.map_take,zpY od];done))
 obtain rfl:m=zbn s:=od;refine xaB (xbk 9 [(98,.d (.bool (!(zaL (zck s (zbn s))&&decide (zd9 (zck s (zbn s))=s)))))] [90,91,92,93,94,95,96,97] ?_ ?_);refine ev (Walk.call (cr:=[]) zqW (ziw (zpG od hg1.2)) I .none I I (.cons (.gl _ _) .nil) O I I I ?_);refine ev ?_;apply sq<;>intro h8 h8p h8s<;>(try simp only[Q,zaQ] at h8p);focus (exact jn I (xaU (by(rw[xat];simp_all[zdv];done))))
 refine Walk.call (cr:=[]) zss (zkO (zd0 oh)) I (.some I I h8) I I (.cons (.gl _ _) .nil) O I I I ?_;refine evs [] [(93,false)] ?_ ⟨⟨_,I,h8⟩,O⟩;focus (exact jn I (xaU (by(rw[xat];simp_all[zdv];done))))
 refine xbj ?_;apply tv;apply sq<;>intro h9 h9p h9s<;>(try simp only[Q,zaQ] at h9p);refine xbQ sl23 .none I (ev (rn0 (r2 I I) (.tup (qee ?_ ?_))));rotate_left 2;refine rn0 (r2 I I) (.tup (qge ?_ ?_));rotate_left 2;all_goals (first|(have hq:=zqj (s:=s) (i:=i) h3p (fun h=>h4p od);rw[znv hq];all_goals rfl)|(have hr:=zlb hg1.2;rw[h9s] at hr;rw[znv hr];all_goals rfl)|(have hr:=zlb hg1.2;rw[h9s] at hr;rw[zqk hr];all_goals rfl))
def ztl (n:Nat):UInt8:=UInt8.ofNat (IntKind.u8.wrap (48+(n:Int) % 10)).toNat
def digs (n:Nat):Str:=if n=0 then [] else digs (n / 10)++[ztl n]
def znD (n:Nat):Str:=109::digs n
def Ty.one (k:Int) (_:Ty):Ty:=⟨k,k+1⟩
def Ty.sz (_:Ty):Int:=2
def Ctor.one (k:Int) (x:Ctor):Ctor:=⟨znD k.toNat,mkL Ty.one Ty.sz (k+1) x.args,k+1+szL Ty.sz x.args⟩
def Ctor.sz (x:Ctor):Int:=2+szL Ty.sz x.args
def Data.one (k:Int) (x:Data):Data:=⟨znD k.toNat,mkL Ctor.one Ctor.sz (k+1) x.ctors⟩
def Data.sz (x:Data):Int:=1+szL Ctor.sz x.ctors
def Pat.op:Pat->Int | .mk a0 _ _ _ _ _=>a0
def Pat.ctor:Pat->Int | .mk _ a1 _ _ _ _=>a1
def Pat.n:Pat->Int | .mk _ _ a2 _ _ _=>a2
def Pat.m:Pat->Int | .mk _ _ _ a3 _ _=>a3
def Pat.var:Pat->Int | .mk _ _ _ _ a4 _=>a4
def Pat.kids:Pat->List Pat | .mk _ _ _ _ _ k=>k
abbrev Pat.cc (v:Pat):List D:=[.i v.op,.i v.ctor,.i v.n,.i v.m,.i v.var,.sl (Pat.cs v.kids)]
theorem Pat.c_eq (v:Pat):v.c=v.cc:=by cases v;rfl
theorem Pat.eta (v:Pat):Pat.mk v.op v.ctor v.n v.m v.var v.kids=v:=by cases v;rfl
theorem Pat.cs_at' {pre:List Pat}{x:Pat}{rest xs:List Pat} (h:pre++x::rest=xs):(Pat.cs xs)[pre.length]?=some x.cc:=by rw[xaY,<-Pat.c_eq];exact zaM h
mutual
def zoi:Pat->Pat->Bool
 | .mk a0 a1 a2 a3 a4 ks,.mk b0 b1 b2 b3 b4 ls=>decide (a0=b0)&&(decide (a1=b1)&&(decide (a2=b2)&&(decide (a3=b3)&&(decide (a4=b4)&&zjM ks ls))))
def zjM:List Pat->List Pat->Bool
 | [],[]=>true
 |x::r,y::s=>zoi x y&&zjM r s
 |_,_=>false
end
mutual
def Pat.ok:Pat->Prop
 | .mk _ _ _ _ _ ks=>ks.length<=1000000000000/\Pats.ok ks
def Pats.ok:List Pat->Prop
 | []=>True
 |v::r=>v.ok/\Pats.ok r
end
theorem xa1:∀ {l:List Pat},Pats.ok l->∀v,v∈l->v.ok
 |x::r,h,v,hv=>by
  simp only[Pats.ok] at h;rcases List.mem_cons.1 hv with rfl|hv
  ·exact h.1
  ·exact xa1 h.2 v hv
mutual
def Pat.size:Pat->Nat
 | .mk _ _ _ _ _ ks=>1+Pats.size ks
def Pats.size:List Pat->Nat
 | []=>0
 |v::r=>v.size+Pats.size r
end
theorem xa2:∀ {l:List Pat}{v:Pat},v∈l->v.size<=Pats.size l
 |x::r,v,hv=>by
  simp only[Pats.size];rcases List.mem_cons.1 hv with rfl|hv
  ·omega
  ·have:=xa2 hv;omega
theorem xaZ (v:Pat):v.ok↔v.kids.length<=1000000000000/\Pats.ok v.kids:=by cases v;rfl
theorem xa0 (v:Pat):v.size=1+Pats.size v.kids:=by cases v;rfl
mutual
theorem zoj:∀v:Pat,zoi v v=true
 | .mk _ _ _ _ _ ks=>by simp[zoi,ziB ks]
theorem ziB:∀l:List Pat,zjM l l=true
 | []=>rfl
 |v::r=>by simp[zjM,zoj v,ziB r]
end
theorem Pat.c_len (v:Pat):v.c.length=6:=by cases v;rfl
theorem Pat.cs_rows {l:List Pat}:∀x,x∈Pat.cs l->x.length=6:=by
 intro x hx;rw[xaY] at hx;obtain⟨y,_,rfl⟩:=List.mem_map.1 hx;exact y.c_len
mutual
def mPat:Pat->Nat
 | .mk _ _ _ _ _ ks=>zjE ks
def zjE:List Pat->Nat
 | []=>0
 |v::r=>1+mPat v+zjE r
end
mutual
def Pat.szM:Pat->Int
 | .mk _ _ _ _ _ ks=>5+Pats.szM ks
def Pats.szM:List Pat->Int
 | []=>0
 |v::r=>v.szM+Pats.szM r
end
mutual
def Pat.one (k:Int):Pat->Pat
 | .mk _ _ _ _ _ ks=> .mk k (k+1) (k+1+1) (k+1+1+1) (k+1+1+1+1) (Pats.one (k+1+1+1+1+1) ks)
def Pats.one (k:Int):List Pat->List Pat
 | []=>[]
 |v::r=>v.one k::Pats.one (k+v.szM) r
end
theorem Pats.one_eq:∀(l:List Pat) (k:Int),Pats.one k l=mkL Pat.one Pat.szM k l
 | [],_=>rfl
 |v::r,k=>by simp only[Pats.one,mkL,Pats.one_eq r]
mutual
theorem Pat.szM_nn:∀v:Pat,0<=v.szM
 | .mk _ _ _ _ _ ks=>by have:=xa4 ks;simp only[Pat.szM];omega
theorem xa4:∀l:List Pat,0<=Pats.szM l
 | []=>by simp[Pats.szM]
 |v::r=>by have:=Pat.szM_nn v;have:=xa4 r;simp only[Pats.szM];omega
end
mutual
theorem Pat.szM_le:∀v:Pat,v.szM<=5+5*(mPat v:Int)
 | .mk _ _ _ _ _ ks=>by have:=xa3 ks;simp only[Pat.szM,mPat];omega
theorem xa3:∀l:List Pat,Pats.szM l<=5*(zjE l:Int)
 | []=>by simp[Pats.szM,zjE]
 |v::r=>by have:=Pat.szM_le v;have:=xa3 r;simp only[Pats.szM,zjE];omega
end
structure Vt where
 var:Int
 ty:Ty
 deriving DecidableEq,Inhabited
abbrev Vt.c (t:Vt):List D:=[.i t.var,.i t.ty.data,.i t.ty.index]
abbrev zaP (l:List Vt):D:= .sl (l.map Vt.c)
def zau (w:List Data) (t:Ty):List Int:=if t.data = -1 then [] else za3 w t
def zbt (w:List Data) (t:Ty) (p:Pat):List Ty:=if p.op=4 then zac w t p.ctor else if p.op=5 then [t,t] else if p.op=6 then [t] else []
def ownP (w:List Data) (t:Ty) (p:Pat):Bool:=decide (((p.op=2\/p.op=6)->0<=p.var/\p.var<=5)/\(¬(p.op=2\/p.op=6)->p.var=0)/\(p.op≠3->p.n=0/\p.m=0)/\(p.op≠4->p.ctor=0)/\
 (p.op=1\/p.op=2\/p.op=5\/p.op=6\/(p.op=3/\t.data = -1/\0<=p.n/\p.n<=p.m/\p.m<=9)\/(p.op=4/\p.ctor∈zau w t)))
def okP (w:List Data) (t:Ty) (p:Pat):Bool:=ownP w t p&&decide (p.kids.length=(zbt w t p).length)
def zb0 (w:List Data):Nat->Ty->Pat->Bool
 |0,_,_=>false
 |n+1,t,p=>ownP w t p&&all2 (zb0 w n) (zbt w t p) p.kids
def zjG (t:Ty) (p:Pat):List Vt:=if p.op=2\/p.op=6 then [⟨p.var,t⟩] else []
def zbr (l:List Vt) (n:Int):Int:=idxF (fun v=>decide (v.var=n)) l 0
def zmR (a b:List Vt):Bool:=decide (a.length=b.length)&& !a.any fun v=> !decide (v∈b)
def zgq (l:List Vt):Bool:=decide (l.map Vt.var).Nodup
theorem zgL (l:List Vt) (n:Int):(zbr l n = -1/\∀v∈l,v.var≠n)\/∃k:Nat,zbr l n=k/\k<l.length/\(nth l k).var=n/\∀j,j<k->(nth l j).var≠n:=by
 have key:∀(l:List Vt) (i:Nat),(idxF (fun v=>decide (v.var=n)) l i = -1/\∀v∈l,v.var≠n)\/∃k:Nat,idxF (fun v=>decide (v.var=n)) l i=((i+k:Nat):Int)/\k<l.length/\(nth l k).var=n/\∀j,j<k->(nth l j).var≠n:=by
  intro l;induction l with
  |nil=>intro i;exact .inl ⟨I,by simp⟩
  |cons x r ih=>
   intro i;unfold idxF;by_cases h:x.var=n
   ·exact .inr ⟨0,by simp[h],by simp,by simpa [nth] using h,fun j hj=>absurd hj od⟩
   ·rcases ih (i+1) with ⟨h1,h2⟩|⟨k,h1,h2,h3,h4⟩
    ·exact .inl ⟨by simpa [h] using h1,fun v hv=>by rcases List.mem_cons.1 hv with rfl|hv;exact h;exact h2 v hv⟩
    ·refine .inr ⟨k+1, ?_,by simpa using h2,by simpa [nth] using h3,fun j hj=>?_⟩
     ·simp only[h,decide_false,Bool.false_eq_true,if_false];rw[h1];congr 1;omega
     ·cases j with
      |zero=>simpa [nth] using h
      |succ j=>simpa [nth] using h4 j od
 rcases key l 0 with h|⟨k,h1,h2⟩
 ·exact .inl h
 ·exact .inr ⟨k,by unfold zbr;simpa using h1,h2⟩
def zdk (g:Ty->Pat->Int->Option (List Vt)×Int) (or:Bool):List Ty->List Pat->Nat->List Vt->Int->Option (List Vt)×Int
 |a::r,b::s,i,acc,c=>match (g a b c).1 with
  |none=>(none,(g a b c).2)
  |some l=>if or=true/\i=1 then (if zmR acc l=true then zdk g or r s (i+1) acc (g a b c).2 else (none,(g a b c).2)) else zdk g or r s (i+1) (acc++l) (g a b c).2
 |_,_,_,acc,c=>(some acc,c)
def finV (r:Option (List Vt)×Int):Option (List Vt)×Int:=match r.1 with
 |none=>r
 |some l=>if zgq l=true then r else (none,r.2)
def zem (w:List Data):Nat->Ty->Pat->Int->Option (List Vt)×Int
 |0,_,_,c=>(none,c+1)
 |n+1,t,p,c=>if 60<c+1 then (none,c+1) else if okP w t p=true then finV (zdk (zem w n) (decide (p.op=5)) (zbt w t p) p.kids 0 (zjG t p) (c+1)) else (none,c+1)
mutual
def cntP (m:Int):Pat->Int
 | .mk _ _ _ _ _ ks=>zdA m 1 ks
def zdA (m n:Int):List Pat->Int
 | []=>n
 |k::r=>if n<=m then zdA m (n+cntP (m-n) k) r else n
end
theorem zn3 {m n:Int}{l:List Pat} (h:¬n<=m):zdA m n l=n:=by cases l<;>simp[zdA,h]
mutual
theorem znh:∀(v:Pat) (m:Int),1<=cntP m v/\cntP m v<=v.size
 | .mk _ _ _ _ _ ks,m=>by
  have:=ziL ks m 1 od;simp only[cntP,Pat.size];push_cast;omega
theorem ziL:∀(l:List Pat) (m n:Int),1<=n->1<=zdA m n l/\zdA m n l<=n+Pats.size l
 | [],m,n,h=>by simp[zdA,Pats.size];omega
 |k::r,m,n,h=>by
  have h1:=znh k (m-n);have h2:=ziL r m (n+cntP (m-n) k) od;simp only[zdA,Pats.size];split
  ·push_cast;omega
  ·push_cast;omega
end
mutual
theorem zqe:∀(v:Pat) (m:Int),(cntP m v<=m↔(v.size:Int)<=m)/\(cntP m v<=m->cntP m v=v.size)
 | .mk _ _ _ _ _ ks,m=>by
  have:=zkY ks m 1;simp only[cntP,Pat.size];push_cast;exact this
theorem zkY:∀(l:List Pat) (m n:Int),(zdA m n l<=m↔n+(Pats.size l:Int)<=m)/\(zdA m n l<=m->zdA m n l=n+Pats.size l)
 | [],m,n=>by simp[zdA,Pats.size]
 |k::r,m,n=>by
  have h1:=zqe k (m-n);have h2:=zkY r m (n+cntP (m-n) k);have h3:=ziL r m (n+cntP (m-n) k);have h4:=znh k (m-n);simp only[zdA,Pats.size];push_cast
  by_cases hn:n<=m
  ·rw[if_pos hn];by_cases h5:cntP (m-n) k<=m-n
   ·have h6:=h1.2 h5;rw[h6] at h2 ⊢;constructor
    ·rw[h2.1];constructor<;>intro h<;>omega
    ·intro h;rw[h2.2 h];omega
   ·have h7:¬(k.size:Int)<=m-n:=fun h=>h5 (h1.1.2 h);have h8:¬n+cntP (m-n) k<=m:=by omega
    rw[zn3 h8];constructor
    ·constructor<;>intro h<;>omega
    ·intro h;omega
  ·rw[if_neg hn];constructor
   ·constructor<;>intro h<;>omega
   ·intro h;omega
end
theorem zhS {l:List Pat}{i:Nat} (h:i<l.length):(nth l i).size<=Pats.size l:=xa2 (zao h)
set_option maxHeartbeats 4000000
theorem zf9 {w:List Data}{d:Nat}{k:Int}:zau w ⟨d,k⟩=za3 w ⟨d,k⟩:=by unfold zau;rw[if_neg (by simp only;omega)]
theorem zfh {w:List Data}{k:Int}:zau w ⟨-1,k⟩=[]:=by unfold zau;rw[if_pos rfl]
theorem zer {w:List Data} (hw:WT w){a k:Int} (ht:TyIn w.length ⟨a,k⟩):(zau w ⟨a,k⟩).length<=1000000000000:=by
 rcases ht with ha|⟨d,hd,hlt⟩
 ·simp only at ha;subst ha;rw[zfh];exact Nat.zero_le _
 ·simp only at hd;subst hd;rw[zf9];exact zm6 hw
theorem za4 {w:List Data}{a k c:Int} (ht:TyIn w.length ⟨a,k⟩) (h:c∈zau w ⟨a,k⟩):∃d:Nat,a=d/\d<w.length/\PlaceIn w d c:=by
 rcases ht with ha|⟨d,hd,hlt⟩
 ·simp only at ha;subst ha;rw[zfh] at h;simp at h
 ·simp only at hd;subst hd;rw[zf9] at h;exact⟨d,rfl,hlt,zmK h⟩
theorem zcW {w:List Data} (hw:WT w){a k:Int} (ht:TyIn w.length ⟨a,k⟩):FnD Tryz.prog 243 [.d (zae w),.agg [.d (.i a),.d (.i k)]] [] (.d (zcq (zau w ⟨a,k⟩))) []:=by
 rcases ht with ha|⟨d,hd,hlt⟩
 ·simp only at ha;subst ha;rw[zfh];exact zhl
 ·simp only at hd;subst hd;rw[zf9];exact zj1 hw hlt
theorem zbW {w:List Data} (hw:WT w){a k c:Int} (ht:TyIn w.length ⟨a,k⟩) (hc:c∈zau w ⟨a,k⟩):FnD Tryz.prog 159 [.d (zae w),.agg [.d (.i a),.d (.i k)],.d (.i c)] [] (.d (zbH (zac w ⟨a,k⟩ c))) []:=by
 obtain⟨d,rfl,h1,h2⟩:=za4 ht hc;exact zkF hw h1 h2
theorem zg4 {w:List Data}{n:Nat}{t:Ty}{p:Pat} (h:zb0 w (n+1) t p=true):ownP w t p=true/\p.kids.length=(zbt w t p).length:=by
 simp only[zb0,xad] at h;refine⟨h.1, ?_⟩;by_cases hl:(zbt w t p).length=p.kids.length
 ·exact hl.symm
 ·rw[zlX hl] at h;simp at h
theorem zeE {l:List Vt}{n:Int} (h:l.length<=1000000000000):FnD Tryz.prog 240 [.d (zaP l),.d (.i n)] [] (.d (.i (zbr l n))) []:=by
 refine bd Tryz.f240 20 [] [] fun _ _ _ _ hk=>?_;refine xaA (ι:=List (Vt)×List (Vt)) hk (fun x=>[(5,.d (.i (x.1.length:Int)))]) [4,6,7,8,9,10,11,12,13,14,15,16,17,18,19] (fun x=>[]) (fun x=>x.1++x.2=l/\idxF (fun v=>decide (v.var=n)) x.2 x.1.length=idxF (fun v=>decide (v.var=n)) l 0) (fun x=>x.2.length) ([],l) ⟨by simp,I⟩ ⟨⟨_,I,xaV ?_⟩,O⟩ O (fun x=>rfl) (fun x hg1=>?_);focus (rfl)
 obtain⟨pre,rest⟩:=x;dsimp only at hg1 ⊢;refine evc [] [] ?_;apply sq<;>intro h1 h1p h1s<;>(try simp only[Q] at h1p);rcases rest with _|⟨y,rest⟩
 ·exfalso;simp_all
 refine ixq sl36 I I I (zaM hg1.1) I (ev ?_);apply sq<;>intro h2 h2p h2s<;>(try simp only[Q] at h2p);focus (refine rq ?_;all_goals (refine xam D.i ?_;unfold zbr;rw[<-hg1.2];simp[idxF,h1s,h1p,h2s,h2p]))
 refine ar (xaj ((pre++[y],rest)) ⟨⟨(by have hz:=hg1.1;rw[<-hz];simp),(by rw[<-hg1.2];simp_all[idxF])⟩,og,sx ⟨⟨_,I,xaV ?_⟩,O⟩ O⟩);focus ((simp;done))
 have hrest:rest=[]:=by
  rcases rest with _|⟨a,b⟩
  ·rfl
  ·exfalso;have hz:=xam List.length (hg1.1);simp only[xaa,xab,xac] at hz;omega
 subst hrest;focus (refine rq ?_;all_goals (refine xam D.i ?_;unfold zbr;rw[<-hg1.2];simp[idxF,h1s,h1p]))
theorem zmm {l:List Vt}{n:Int} (h:0<=zbr l n):(zbr l n).toNat<l.length/\((zbr l n).toNat:Int)=zbr l n:=by
 rcases zgL l n with ⟨h1,_⟩|⟨k,h1,h2,_⟩
 ·omega
 ·rw[h1];simpa using h2
theorem zjU {w:List Data}{n:Nat}{t:Ty}{p:Pat} (h:zb0 w (n+1) t p=true){i:Nat} (hi:i<p.kids.length):zb0 w n (nth (zbt w t p) i) (nth p.kids i)=true:=by
 have hl:=(zg4 h).2;cases hs:zb0 w n (nth (zbt w t p) i) (nth p.kids i) with
 |true=>rfl
 |false=>
  have:=zeu (f:=zb0 w n) (a:=zbt w t p) (b:=p.kids) (i:=i) od hl.symm hs;simp only[zb0,this,Bool.and_false] at h;cases h
set_option maxHeartbeats 2000000
inductive Ex where
 |mk (op n ctor:Int) (kids:List Ex)
 deriving Inhabited
mutual
def Ex.c:Ex->List D
 | .mk op n ctor kids=>[.i op,.i n,.i ctor,.sl (Ex.cs kids)]
def Ex.cs:List Ex->List (List D)
 | []=>[]
 |v::r=>v.c::Ex.cs r
end
abbrev zaE (l:List Ex):D:= .sl (Ex.cs l)
theorem xaI:∀l:List Ex,Ex.cs l=l.map Ex.c
 | []=>rfl
 |v::r=>by simp[Ex.cs,xaI r]
theorem xaJ (l:List Ex):(Ex.cs l).length=l.length:=by simp[xaI]
def Ex.op:Ex->Int | .mk a0 _ _ _=>a0
def Ex.n:Ex->Int | .mk _ a1 _ _=>a1
def Ex.ctor:Ex->Int | .mk _ _ a2 _=>a2
def Ex.kids:Ex->List Ex | .mk _ _ _ k=>k
abbrev Ex.cc (v:Ex):List D:=[.i v.op,.i v.n,.i v.ctor,.sl (Ex.cs v.kids)]
theorem xaG (v:Ex):v.c=v.cc:=by cases v;rfl
theorem Ex.eta (v:Ex):Ex.mk v.op v.n v.ctor v.kids=v:=by cases v;rfl
theorem Ex.cs_at' {pre:List Ex}{x:Ex}{rest xs:List Ex} (h:pre++x::rest=xs):(Ex.cs xs)[pre.length]?=some x.cc:=by rw[xaI,<-xaG];exact zaM h
mutual
def exEq:Ex->Ex->Bool
 | .mk a0 a1 a2 ks,.mk b0 b1 b2 ls=>decide (a0=b0)&&(decide (a1=b1)&&(decide (a2=b2)&&zlO ks ls))
def zlO:List Ex->List Ex->Bool
 | [],[]=>true
 |x::r,y::s=>exEq x y&&zlO r s
 |_,_=>false
end
mutual
def Ex.ok:Ex->Prop
 | .mk _ _ _ ks=>ks.length<=1000000000000/\Exs.ok ks
def Exs.ok:List Ex->Prop
 | []=>True
 |v::r=>v.ok/\Exs.ok r
end
theorem xaQ:∀ {l:List Ex},Exs.ok l->∀v,v∈l->v.ok
 |x::r,h,v,hv=>by
  simp only[Exs.ok] at h;rcases List.mem_cons.1 hv with rfl|hv
  ·exact h.1
  ·exact xaQ h.2 v hv
mutual
def Ex.size:Ex->Nat
 | .mk _ _ _ ks=>1+Exs.size ks
def Exs.size:List Ex->Nat
 | []=>0
 |v::r=>v.size+Exs.size r
end
theorem xaS:∀ {l:List Ex}{v:Ex},v∈l->v.size<=Exs.size l
 |x::r,v,hv=>by
  simp only[Exs.size];rcases List.mem_cons.1 hv with rfl|hv
  ·omega
  ·have:=xaS hv;omega
theorem zdL {l:List Ex}{i:Nat} (h:i<l.length):(Ex.cs l)[i]?=some (nth l i).cc:=by
 rw[xaI,<-xaG];exact zag h
theorem xaL (v:Ex):v.ok↔v.kids.length<=1000000000000/\Exs.ok v.kids:=by cases v;rfl
theorem xaN (v:Ex):v.size=1+Exs.size v.kids:=by cases v;rfl
mutual
theorem zpa:∀v:Ex,exEq v v=true
 | .mk _ _ _ ks=>by simp[exEq,zjr ks]
theorem zjr:∀l:List Ex,zlO l l=true
 | []=>rfl
 |v::r=>by simp[zlO,zpa v,zjr r]
end
theorem xaH (l:List Ex):Ex.cs l=l.map Ex.cc:=by
 rw[xaI];exact List.map_congr_left (fun v _=>xaG v)
mutual
def mEx:Ex->Nat
 | .mk _ _ _ ks=>mExs ks
def mExs:List Ex->Nat
 | []=>0
 |v::r=>1+mEx v+mExs r
end
structure Gd where
 op:Int
 var:Int
 n:Int
 deriving Inhabited
structure Cl where
 pat:Pat
 g:Gd
 deriving Inhabited
structure Ft where
 arg:Ty
 res:Ty
 deriving Inhabited
structure Fu where
 ty:Ft
 cls:List Cl
 bodies:List Ex
 deriving Inhabited
abbrev Cl.c (x:Cl):List D:=[.i x.pat.op,.i x.pat.ctor,.i x.pat.n,.i x.pat.m,.i x.pat.var,.sl (Pat.cs x.pat.kids),.i x.g.op,.i x.g.var,.i x.g.n]
abbrev zsK (l:List Cl):D:= .sl (l.map Cl.c)
abbrev Ft.c (x:Ft):List D:=[.i x.arg.data,.i x.arg.index,.i x.res.data,.i x.res.index]
abbrev zaF (l:List Ft):D:= .sl (l.map Ft.c)
abbrev Fu.c (x:Fu):List D:=[.i x.ty.arg.data,.i x.ty.arg.index,.i x.ty.res.data,.i x.ty.res.index,zsK x.cls,zaE x.bodies]
theorem zcN {w:List Data} (hs:WSmall w) (hv:zaL w=true):WT w:=WV.wt hs ((zb7 w).1 hv)
set_option maxHeartbeats 4000000
theorem zlD {v:Int}:FnD Tryz.prog 136 [.d (.i v)] [] (.d (.bool (zaf v 0 5))) []:=by
 refine bd Tryz.f136 5 [] [] fun _ _ _ _ hk=>?_;refine wc zc8 zbe I I ?_;refine ev (rq ?_);rotate_left;all_goals (rfl)
theorem zeA {w:List Data} (hw:WT w){a k:Int} (ht:TyIn w.length ⟨a,k⟩):FnD Tryz.prog 236 [.d (zae w),.agg [.d (.i a),.d (.i k)]] [] (.d (zcq (zau w ⟨a,k⟩))) []:=by
 rcases ht with ha|⟨d,hd,hlt⟩
 ·simp only at ha;subst ha;rw[zfh];exact zhg
 ·simp only at hd;subst hd;rw[zf9];exact zjz hw hlt
theorem zjx {w:List Data} (hw:WT w){a k c:Int} (ht:TyIn w.length ⟨a,k⟩) (hc:c∈zau w ⟨a,k⟩):FnD Tryz.prog 237 [.d (zae w),.agg [.d (.i a),.d (.i k)],.d (.i c)] [] (.d (zbH (zac w ⟨a,k⟩ c))) []:=by
 obtain⟨d,rfl,h1,h2⟩:=za4 ht hc;exact ziS hw h1 h2
theorem zgi {xs:List Vt}{f:Nat}{caps:List AV}{hp:Hp}{p:Vt->Bool} (hs:xs.length<=1000000000000) (hcal:Callee Tryz.prog f)
  (hf:∀t∈xs,FnD Tryz.prog f ([.agg [.d (.i t.var),.d (.i t.ty.data),.d (.i t.ty.index)]]++caps) hp (.d (.bool (p t))) []) (k1:subH hp hp) (k2:zeh hp=true) (k3:zbs hp [] (.d .nilp) []=true):
  FnD Tryz.prog 282 [.d (zaP xs),.fn f caps] hp (.d (.i (idxF p xs 0))) []:=by
 refine bd Tryz.f282 19 [] [] fun _ _ _ _ hk=>?_;refine xaA (ι:=List (Vt)×List (Vt)) hk (fun x=>[(8,.d (.i (x.1.length:Int)))]) [4,5,9,10,11,12,13,14,15,16,17,18] (fun x=>[]) (fun x=>x.1++x.2=xs/\idxF p x.2 x.1.length=idxF p xs 0) (fun x=>x.2.length) ([],xs) ⟨by simp,I⟩ ⟨⟨_,I,xaV ?_⟩,O⟩ O (fun x=>zgC hp) (fun x hg1=>?_);focus (first|rfl|omega)
 obtain⟨pre,rest⟩:=x;dsimp only at hg1 ⊢;refine evc [] [] ?_;apply sq<;>intro h1 h1p h1s<;>(try simp only[Q] at h1p);rcases rest with _|⟨y,rest⟩
 ·exfalso;simp_all
 refine ixq sl36 I I I (zaM hg1.1) I (ev (xbq (cr:=[]) hcal (hf y (by rw[<-hg1.1];simp)) I .none I I I (LeL.refl _) k1 k2 (zfE k3 _) I ?_));apply tv;apply sq<;>intro h2 h2p h2s<;>(try simp only[Q] at h2p);focus (refine rn [] (r1 I) (.eqd ?_) ⟨I,I⟩ (fun _ _ h=>h) (fun _ h=>h);all_goals (rw[<-hg1.2];simp[idxF,h1s,h1p,h2s,h2p]))
 refine ar (xaj ((pre++[y],rest)) ⟨⟨(by have hz:=hg1.1;rw[<-hz];simp),(by rw[<-hg1.2];simp[idxF,h2s])⟩,og,Sub.x oj oj ⟨⟨_,I,xaV ?_⟩,O⟩ og (by simp[zdo]) O⟩);focus (first|rfl|(simp;done)|omega)
 have hrest:rest=[]:=by
  rcases rest with _|⟨a,b⟩
  ·rfl
  ·exfalso;have hz:=xam List.length (hg1.1);simp only[xaa,xab,xac] at hz;omega
 subst hrest;focus (refine rn [] (r1 I) (.eqd ?_) ⟨I,I⟩ (fun _ _ h=>h) (fun _ h=>h);all_goals (rw[<-hg1.2];simp[idxF,h1s,h1p]))
def metA (s:List Int):List AV:=(List.range 6).map fun(i:Nat)=> .d (.bool (decide ((i:Int)∈s)))
theorem zqt {s:List Int}{v:Int} (h0:0<=v) (h1:v<=5):(metA s)[v.toNat]?=some (.d (.bool (decide (v∈s)))):=by
 unfold metA;rw[List.getElem?_map,List.getElem?_range od];simp only[Option.map_some];rw[Int.toNat_of_nonneg h0]
theorem zqu {s:List Int}{v:Int} (h0:0<=v) (h1:v<=5):putC (metA s) v.toNat [.d (.bool true)]=some (metA (s++[v])):=by
 have e:v=0\/v=1\/v=2\/v=3\/v=4\/v=5:=by omega
 rcases e with rfl|rfl|rfl|rfl|rfl|rfl<;>simp[metA,putC,List.range_succ]
def InR (l:List Vt):Prop:=∀v∈l,0<=v.var/\v.var<=5
def zor (o:Option (List Vt)):List Vt:=o.getD []
theorem zon {g:Ty->Pat->Int->Option (List Vt)×Int}{or:Bool}{a:List Ty}{b:List Pat}{i:Nat}{acc:List Vt}{c:Int} (ha:i<a.length) (hl:b.length=a.length) (h:(g (nth a i) (nth b i) c).1.isSome=false):
  zdk g or (a.drop i) (b.drop i) i acc c=(none,(g (nth a i) (nth b i) c).2):=by
 rw[zaZ ha,zaZ (l:=b) od,zdk];cases hh:(g (nth a i) (nth b i) c).1 with
 |none=>rfl
 |some l=>rw[hh] at h;cases h
theorem zpN {g:Ty->Pat->Int->Option (List Vt)×Int}{or:Bool}{a:List Ty}{b:List Pat}{i:Nat}{acc:List Vt}{c:Int} (ha:i<a.length) (hl:b.length=a.length) (h:(g (nth a i) (nth b i) c).1.isSome=true) (ho:or=true/\i=1) (hs:zmR acc (zor (g (nth a i) (nth b i) c).1)=false):
  zdk g or (a.drop i) (b.drop i) i acc c=(none,(g (nth a i) (nth b i) c).2):=by
 rw[zaZ ha,zaZ (l:=b) od,zdk];cases hh:(g (nth a i) (nth b i) c).1 with
 |none=>rfl
 |some l=>rw[hh] at hs;simp only[zor,Option.getD_some] at hs;simp only[if_pos ho,hs,Bool.false_eq_true,if_false]
theorem zpO {g:Ty->Pat->Int->Option (List Vt)×Int}{or:Bool}{a:List Ty}{b:List Pat}{i:Nat}{acc:List Vt}{c:Int} (ha:a.length<=i):zdk g or (a.drop i) (b.drop i) i acc c=(some acc,c):=by
 rw[List.drop_eq_nil_of_le ha,zdk];intro a r b s h;cases h
structure GoodS (w:List Data) (n:Nat) (t:Ty) (p:Pat) (c:Int) (x:Nat×List Vt×Int):Prop where
 le:x.1<=p.kids.length
 eq:zdk (zem w n) (decide (p.op=5)) ((zbt w t p).drop x.1) (p.kids.drop x.1) x.1 x.2.1 x.2.2=zdk (zem w n) (decide (p.op=5)) (zbt w t p) p.kids 0 (zjG t p) (c+1)
 lc:(x.1:Int)<=x.2.2
 c0:0<=x.2.2
 c1:x.2.2<=60
 len:x.2.1.length<=1+6*x.1
 inr:InR x.2.1
theorem GoodS.none {w:List Data}{n:Nat}{t:Ty}{p:Pat}{c:Int}{x:Nat×List Vt×Int} (hl:p.kids.length=(zbt w t p).length) (hg:GoodS w n t p c x) (hlt:x.1<p.kids.length)
  (hz:(zem w n (nth (zbt w t p) x.1) (nth p.kids x.1) x.2.2).1.isSome=false):
  finV (zdk (zem w n) (decide (p.op=5)) (zbt w t p) p.kids 0 (zjG t p) (c+1))=(none,(zem w n (nth (zbt w t p) x.1) (nth p.kids x.1) x.2.2).2):=by
 rw[<-hg.eq,zon od hl hz];rfl
theorem GoodS.bad {w:List Data}{n:Nat}{t:Ty}{p:Pat}{c:Int}{x:Nat×List Vt×Int} (hl:p.kids.length=(zbt w t p).length) (hg:GoodS w n t p c x) (hlt:x.1<p.kids.length)
  (hz:(zem w n (nth (zbt w t p) x.1) (nth p.kids x.1) x.2.2).1.isSome=true) (ho:p.op=5/\x.1=1) (hs:zmR x.2.1 (zor (zem w n (nth (zbt w t p) x.1) (nth p.kids x.1) x.2.2).1)=false):
  finV (zdk (zem w n) (decide (p.op=5)) (zbt w t p) p.kids 0 (zjG t p) (c+1))=(Option.none,(zem w n (nth (zbt w t p) x.1) (nth p.kids x.1) x.2.2).2):=by
 rw[<-hg.eq,zpN od hl hz (by simpa using ho) hs];rfl
theorem GoodS.fin {w:List Data}{n:Nat}{t:Ty}{p:Pat}{c:Int}{x:Nat×List Vt×Int} (hl:p.kids.length=(zbt w t p).length) (hg:GoodS w n t p c x) (hge:p.kids.length<=x.1):
  finV (zdk (zem w n) (decide (p.op=5)) (zbt w t p) p.kids 0 (zjG t p) (c+1))=(if zgq x.2.1=true then some x.2.1 else Option.none,x.2.2):=by
 rw[<-hg.eq,zpO od];unfold finV;simp only;split<;>rfl
theorem zog {pre:List Vt}{y:Vt} (h:(pre.map Vt.var).Nodup) (hm:y.var∉pre.map Vt.var):((pre++[y]).map Vt.var).Nodup:=by
 rw[xag,List.nodup_append];exact⟨h,by simp,fun a ha b hb=>by simp at hb;subst hb;exact fun e=>hm (e ▸ ha)⟩
end Go.Proofs.YtmkipahfpaacgaaGreatDoor
