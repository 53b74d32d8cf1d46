/-
  THE ABSTRACT WALK AND THE WALKS, part 2 of 6.
-/
import Derived.Test.YtmchfdpleibpdaaGreatE591
namespace Go.Proofs.YtmchfdpleibpdaaGreat
open Go
set_option linter.unusedSimpArgs false
set_option linter.unusedVariables false
section
variable {c:Ctx}
theorem CWp.frzS {env:Env}{hp:Hp}{s':St}{K:Kt}{code:Code}{ids:List Nat} (hkp:KeptIn c.kept ids) (id:Nat){cs:List AV} (hb:getH hp id=some (.box cs)) (Conv:AV->AV->Prop)
  (hs:∀i v,getE s'.env i=some v->∃u,getE env i=some u/\(u=v\/Conv u v))
  (hh:∀i r,getH s'.hp i=some r->i≠id/\(getH hp i=some r\/∃cs1 cs2,getH hp i=some (.box cs1)/\r = .box cs2/\cs2.length=cs1.length/\∀j (h1:j<cs1.length) (h2:j<cs2.length),cs1[j]=cs2[j]\/Conv cs1[j] cs2[j]))
  (hko:∀i,i≠id->(getH hp i).isSome->(getH s'.hp i).isSome)
  (hsl:∀(G G':Gh) (T T':TokF) (w:World) (b:Nat) (us:Array Value) (e:TypeId) (u v:AV) (x:Value),Conv u v->RelA G T w u x->G.loc id=[b]->w.heap[b]?=some (.cells us e (0,0))->cs.length<=us.size->
   (∀i (hi:i<cs.length) (hv:i<us.size),RelA G T w cs[i] us[i])->G'.F b=us.size->(∀y o,o<G.F y->o<G'.F y/\w.cell? ⟨y,o,none⟩=w.cell? ⟨y,o,none⟩)->RelA G' T' w v x)
  (hid:zaT id ids=false) (hn:CWp c code s' K):CWp c code ⟨env,hp⟩ K:=by
 intro a w hrel;obtain⟨G,hr⟩:=hrel;obtain⟨b,us,e,h1,h2,h3,h4,h5⟩:=hr.heap id _ hb;let G':Gh:={ G with F:=fun x=>bif Nat.beq x b then us.size else G.F x }
 have hF:∀x,x≠b->G'.F x=G.F x:=fun x hx=>by
  have:Nat.beq x b=false:=by
   cases hh:Nat.beq x b with
   |true=>exact absurd (xap hh) hx
   |false=>rfl
  simp[G',this]
 have hFb:G'.F b=us.size:=by simp[G']
 have hother:∀i,(getH hp i).isSome->i≠id->∀x,x∈G.loc i->x≠b:=fun i hi hne x hx e=>by
  subst e;exact hr.disj i id hi (by rw[hb];rfl) hne x hx (by simp[h1])
 have htok:∀i p,tokf s'.hp i=some p->tokf hp i=some p/\i≠id:=by
  rintro i ⟨m,q⟩ hp'
  obtain⟨q1,q2⟩:=hh i _ (zar.1 hp');rcases q2 with q2|⟨_,_,_,q3,_⟩
  ·exact⟨zar.2 q2,q1⟩
  ·cases q3
 have hcell:∀x o,o<G.F x->o<G'.F x/\w.cell? ⟨x,o,none⟩=w.cell? ⟨x,o,none⟩:=fun x o ho=>by
  refine⟨?_,rfl⟩;by_cases hx:x=b
  ·subst hx;rw[h4] at ho;omega
  ·rw[hF x hx];exact ho
 have hm:∀ {x:AV}{v:Value},RelA G (tokf hp) w x v->RelA G' (tokf s'.hp) w x v:=fun hx=>
  hx.mono hcell (fun _ _=> .inl rfl) (fun i _ p hp'=>by
   obtain⟨q1,q2⟩:=htok i p hp';refine⟨q1,fun x hx=>⟨rfl,hF x (hother i ?_ q2 x hx)⟩⟩;obtain⟨m,q⟩:=p;rw[zar.1 q1];rfl)
 have hc:∀ {x y:AV}{v:Value},(x=y\/Conv x y)->RelA G (tokf hp) w x v->RelA G' (tokf s'.hp) w y v:=fun hxy hx=>by
  rcases hxy with rfl|hxy
  ·exact hm hx
  ·exact hsl _ _ _ _ _ _ _ _ _ _ _ hxy hx h1 h2 h3 h5 hFb hcell
 have hsome:∀i,(getH s'.hp i).isSome->(getH hp i).isSome/\i≠id:=fun i hi=>by
  obtain⟨r,hr'⟩:=Option.isSome_iff_exists.1 hi;obtain⟨q1,q2⟩:=hh i r hr';refine⟨?_,q1⟩;rcases q2 with q2|⟨_,_,q2,_⟩<;>rw[q2]<;>rfl
 have hbnew:=hr.new id (by rw[hb];rfl) b (by simp[h1]);have hblt:b<w.heap.size:=(hr.heap id _ hb).bound b (by simp[h1]);refine hn a w ⟨G',hr.size,hr.defers,fun i v hi=>?_,fun i r hi=>?_,fun i j q1 q2=>hr.disj i j (hsome i q1).1 (hsome j q2).1,fun i q1=>hr.new i (hsome i q1).1, ?_,fun x hx=>?_,fun i l hk=>?_⟩
 ·obtain⟨u,q1,q2⟩:=hs i v hi;exact hc q2 (hr.slots i u q1)
 ·obtain⟨hne,q⟩:=hh i r hi;rcases q with hi' | ⟨cs1,cs2,hi',rfl,hl,hcc⟩
  ·have hh:=hr.heap i r hi';have hs:(getH hp i).isSome:=by rw[hi'];rfl
   cases r with
   |box cs2=>
    obtain⟨b2,vs2,e2,q1,q2,q3,q4,q5⟩:=hh;exact⟨b2,vs2,e2,q1,q2,q3,(hF b2 (hother i hs hne b2 (by simp[q1]))).trans q4,fun j hj hv=>hm (q5 j hj hv)⟩
   |tok m q=>exact hh
   |map ks=>
    obtain⟨b2,es2,cl,q1,q2,q3,q4⟩:=hh;exact⟨b2,es2,cl,q1,q2,(hF b2 (hother i hs hne b2 (by simp[q1]))).trans q3,q4⟩
   |tree cs2=>exact zbI hh Z (fun x hx=>⟨Z,hF x (hother i hs hne x hx)⟩) (Nat.le_refl _) (fun _ _ _=>hm)
  ·have hs:(getH hp i).isSome:=by rw[hi'];rfl
   obtain⟨b2,vs2,e2,q1,q2,q3,q4,q5⟩:=hr.heap i _ hi';exact⟨b2,vs2,e2,q1,q2,by omega,(hF b2 (hother i hs hne b2 (by simp[q1]))).trans q4,fun j hj hv=>hc (hcc j od hj) (q5 j od hv)⟩
 ·refine hr.frm.trans (own1:=[b]) ⟨Z,Z,Z,Nat.le_refl _,fun x _ hx=>⟨Z,hF x (fun e=>hx (by simp[e]))⟩,hcell⟩ (fun x hx=>?_);simp only[List.mem_singleton] at hx;subst hx;exact hbnew
 ·rw[hF x od];exact hr.top x hx
 ·have:=hr.kept i l hk;have hne:i≠id:=fun e=>by
   subst e;have:=zaM.2 (hkp.mem i l hk);rw[this] at hid;cases hid
  refine⟨this.1,hko i hne this.2.1, ?_⟩;cases hT:tokf s'.hp i with
  |none=>rfl
  |some p=>rw[(htok i p hT).1] at this;exact absurd this.2.2 oi
theorem CWp.frzG {env:Env}{hp:Hp}{K:Kt}{code:Code}{ids:List Nat} (hkp:KeptIn c.kept ids) (t id:Nat){u v:AV}{cs:List AV} (ht:getE env t=some u) (hb:getH hp id=some (.box cs))
  (hsl:∀(G G':Gh) (T T':TokF) (w:World) (b:Nat) (us:Array Value) (e:TypeId) (x:Value),RelA G T w u x->G.loc id=[b]->w.heap[b]?=some (.cells us e (0,0))->cs.length<=us.size->
   (∀i (hi:i<cs.length) (hv:i<us.size),RelA G T w cs[i] us[i])->G'.F b=us.size->(∀y o,o<G.F y->o<G'.F y/\w.cell? ⟨y,o,none⟩=w.cell? ⟨y,o,none⟩)->RelA G' T' w v x)
  (hid:zaT id ids=false) (hn:CWp c code ⟨(t,v)::env,(id,none)::hp⟩ K):CWp c code ⟨env,hp⟩ K:=by
 refine CWp.frzS hkp id hb (fun x y=>x=u/\y=v) (fun i x hi=>?_) (fun i r hi=>?_) (fun i hne hi=>?_) (fun G G' T T' w b us e x y z hxy=>?_) hid hn
 ·have hi':getE ((t,v)::env) i=some x:=hi;simp only[getE] at hi';cases hti:Nat.beq t i with
  |true=>
   obtain rfl:=xap hti;simp only[hti,cond_true,xae] at hi';exact⟨u,ht,.inr ⟨rfl,hi'.symm⟩⟩
  |false=>simp only[hti,cond_false] at hi';exact⟨x,hi',.inl rfl⟩
 ·have hi':getH ((id,none)::hp) i=some r:=hi;rw[zal] at hi';split at hi'
  ·cases hi'
  ·rename_i hne;exact⟨hne,.inl hi'⟩
 ·show(getH ((id,none)::hp) i).isSome
  rw[zal,if_neg hne];exact hi
 ·obtain⟨rfl,rfl⟩:=hxy;exact hsl G G' T T' w b us e z
theorem zuJ {G G':Gh}{T T':TokF}{w:World}{id n k b:Nat}{us:Array Value}{e:TypeId}{x:Value}{cs:List AV}{es:List (List D)} (hx:RelA G T w (.ms id n) x) (h1:G.loc id=[b]) (h2:w.heap[b]?=some (.cells us e (0,0))) (h3:cs.length<=us.size)
  (h5:∀i (hi:i<cs.length) (hv:i<us.size),RelA G T w cs[i] us[i]) (hFb:G'.F b=us.size) (hcell:∀y o,o<G.F y->o<G'.F y/\w.cell? ⟨y,o,none⟩=w.cell? ⟨y,o,none⟩) (hc:zbS n k cs=some es):RelA G' T' w (.d (.sl es)) x:=by
 obtain⟨c1,c2,c3,c4⟩:=zff hc;obtain⟨b',cap,hl,he,hcap⟩:=hx.ms_eq;obtain rfl:=(zcD hl.1 h1).symm;rw[he];refine .d ?_;have hn':n=es.length:=c1.symm;rw[hn'];refine .sl es k b 0 cap (fun x=>us.getD x undef) c2 od (fun x hx=>?_) (fun i hi j hj=>?_)
 ·have h3':x<cs.length:=by rw[c3,<-c1];exact hx
  have hxs:x<us.size:=Nat.lt_of_lt_of_le h3' h3;refine⟨by rw[hFb];omega, ?_⟩;simp[World.cell?,h2,hxs]
 ·have hjk:j<k:=by rw[<-c2 _ (xao hi)];exact hj
  have hlt:i*k+j<cs.length:=by
   rw[c3,<-c1];have:(i+1)*k<=es.length*k:=xav _ od;rw[Nat.add_mul] at this;omega
  have hlu:i*k+j<us.size:=by omega
  have h6:=(h5 _ hlt hlu).toD (c4 i hi j hj hlt);have h7:us.getD (i*k+j) undef=us[i*k+j]:=by simp[Array.getD,hlu]
  rw[h7];exact h6.mono hcell
theorem xaA {env:Env}{hp:Hp}{K:Kt}{code:Code}{ids:List Nat} (hkp:KeptIn c.kept ids) (t id n k:Nat){cs:List AV}{es:List (List D)} (ht:getE env t=some (.ms id n)) (hb:getH hp id=some (.box cs))
  (hc:zbS n k cs=some es) (hid:zaT id ids=false) (hn:CWp c code ⟨(t,.d (.sl es))::env,(id,none)::hp⟩ K):CWp c code ⟨env,hp⟩ K:=by
 refine CWp.frzG hkp t id ht hb (fun G G' T T' w b us e x hx h1 h2 h3 h5 hFb hcell=>zuJ hx h1 h2 h3 h5 hFb hcell hc) hid hn
theorem CWp.frzB {env:Env}{hp:Hp}{K:Kt}{code:Code}{ids:List Nat} (hkp:KeptIn c.kept ids) (t id off:Nat){cs:List AV}{ds:List D} (ht:getE env t=some (.ref id off)) (hb:getH hp id=some (.box cs))
  (hc:toDL cs=some ds) (hid:zaT id ids=false) (hn:CWp c code ⟨(t,.d (.ptr ds off))::env,(id,none)::hp⟩ K):CWp c code ⟨env,hp⟩ K:=by
 refine CWp.frzG hkp t id ht hb (fun G G' T T' w b us e x hx h1 h2 h3 h5 hFb hcell=>?_) hid hn;obtain⟨c1,c2⟩:=ziw hc;obtain⟨b',hl,he⟩:=hx.ref_eq;obtain rfl:=(zcD hl.1 h1).symm;rw[he];refine .d ?_;have:=RelD.ptr (F:=G'.F) (w:=w) ds b 0 off (fun x=>us.getD x undef) (fun n hn=>?_) (fun n hn=>?_)
 ·rwa [Nat.zero_add] at this
 ·have hxs:n<us.size:=by omega
  refine⟨by rw[hFb];omega, ?_⟩;simp[World.cell?,h2,hxs]
 ·have hlu:n<us.size:=by omega
  have h6:=(h5 n od hlu).toD (c2 n od hn);have h7:us.getD n undef=us[n]:=by simp[Array.getD,hlu]
  rw[h7];exact h6.mono hcell
theorem CWp.frzC {env:Env}{hp:Hp}{K:Kt}{code:Code}{ids:List Nat} (hkp:KeptIn c.kept ids) (b0 off id n k:Nat){cs0 cs0' cs:List AV}{es:List (List D)} (h0:getH hp b0=some (.box cs0)) (hne:Nat.beq b0 id=false)
  (ho:cs0[off]?=some (.ms id n)) (hp0:cs0.set off (.d (.sl es))=cs0') (hb:getH hp id=some (.box cs))
  (hc:zbS n k cs=some es) (hid:zaT id ids=false) (hn:CWp c code ⟨env,(b0,some (.box cs0'))::(id,none)::hp⟩ K):CWp c code ⟨env,hp⟩ K:=by
 have hbne:b0≠id:=fun e=>by subst e;rw[Nat.beq_refl] at hne;cases hne
 refine CWp.frzS hkp id hb (fun x y=>x = .ms id n/\y = .d (.sl es)) (fun i x hi=>⟨x,hi,.inl Z⟩) (fun i r hi=>?_) (fun i hne hi=>?_) (fun G G' T T' w b us e u v x hxy hx h1 h2 h3 h5 hFb hcell=>?_) hid hn
 ·have hi':getH ((b0,some (Res.box cs0'))::(id,none)::hp) i=some r:=hi;rw[zal] at hi';split at hi'
  ·rename_i he;subst he;simp only[xae] at hi';subst hi';refine⟨hbne,.inr ⟨cs0,cs0',h0,rfl,by rw[<-hp0];simp,fun j q1 q2=>?_⟩⟩;subst hp0;rw[List.getElem_set];split
   ·rename_i he;subst he;rw[xan q1] at ho;exact .inr ⟨Option.some.inj ho,Z⟩
   ·exact .inl Z
  ·rw[zal] at hi';split at hi'
   ·cases hi'
   ·rename_i hne;exact⟨hne,.inl hi'⟩
 ·show(getH ((b0,some (Res.box cs0'))::(id,none)::hp) i).isSome
  rw[zal];split
  ·rfl
  ·rw[zal,if_neg hne];exact hi
 ·obtain⟨rfl,rfl⟩:=hxy;exact zuJ hx h1 h2 h3 h5 hFb hcell hc
end
theorem zab:∀a b:List AV,AV.idsL (a++b)=AV.idsL a++AV.idsL b
 | [],_=>rfl
 |x::r,b=>by simp[AV.idsL,zab r b]
theorem zjV {zs:List AV} (h:AV.idsL zs=[]):∀ {n:Nat},AV.idsL (zbd n zs)=[]
 |0=>rfl
 |n+1=>by simp[zbd,zab,h,zjV h]
theorem zfz {k:Nat}:∀ {h t:List AV},h.length=k->cutC (h++t) 0 k=some h:=by
 intro h t hk;subst hk;induction h with
 |nil=>cases t<;>simp[cutC]
 |cons x r ih=>simp[cutC,ih]
theorem zjP:∀l:List D,toDL (l.map .d)=some l
 | []=>rfl
 |x::r=>by simp[toDL,AV.toD,zjP r]
theorem zel {α:Type}{f:α->List D}{k:Nat}:∀ {l:List α},(∀x,x∈l->(f x).length=k)->zbS l.length k (l.flatMap fun x=>(f x).map .d)=some (l.map f)
 | [],_=>rfl
 |x::r,h=>by
  have hx:((f x).map AV.d).length=k:=by simp[h x oi]
  simp only[xab,List.flatMap_cons,xaf,zbS,zfz hx,zjP];have:(((f x).map AV.d)++r.flatMap fun x=>(f x).map AV.d).drop k=r.flatMap fun x=>(f x).map AV.d:=by
   rw[<-hx];simp
  rw[this,zel (fun y hy=>h y (by simp[hy]))]
theorem zkL {α:Type}:∀ {vs z t:List α},z.length=vs.length->putC (z++t) 0 vs=some (vs++t)
 | [],[],t,_=>by cases t<;>rfl
 |v::vs,y::z,t,h=>by
  simp only[xai,putC];rw[zkL (by simpa using h)]
 | [],_::_,_,h=>by simp at h
 |_::_,[],_,h=>by simp at h
theorem zrS {α:Type}{o:Nat}:∀ {a z t vs:List α},a.length=o->z.length=vs.length->putC (a++(z++t)) o vs=some (a++(vs++t)):=by
 intro a z t vs ha hz;subst ha;induction a with
 |nil=>exact zkL hz
 |cons x r ih=>
  cases vs with
  |nil=>
   have:z=[]:=by simpa using hz
   subst this;simp[putC]
  |cons v vs=>simp only[xai,xab,putC,ih]
section
variable {c:Ctx}
theorem RelA.gv_inv {G:Gh}{T:TokF}{w:World}{id:Nat}{xs:List (List D)}{v:Value} (h:RelA G T w (.gv id xs) v):
  (∃a cap,v = .slice a xs.length cap)/\∀n k,T id=some (n,k)->xs.length<=n/\(n=xs.length->(∀x,x∈xs->x.length=k)/\TipV G w id n k v xs):=by
 cases h with|gv hv ht=>exact⟨hv,ht⟩
theorem za3 {hp:Hp}{id n n' k:Nat} (h:getH hp id=some (.tok n' k)) (e:n'=n):getH hp id=some (.tok n k):=e ▸ h
theorem LeA.gvg {id:Nat}{xs ys:List (List D)} (h:xs=ys):LeA (.gv id xs) (.gv id ys):=h ▸ .refl _
theorem zsA {F:Nat->Nat}{w:World}{xs ys:List (List D)}{k:Nat}{us:Array Value} 
  (hx:∀i (hi:i<xs.length) j (hj:j<xs[i].length),RelD F w xs[i][j] (us.getD (i*k+j) undef))
  (hy:∀i (hi:i<ys.length) j (hj:j<ys[i].length),RelD F w ys[i][j] (us.getD ((xs.length+i)*k+j) undef)):
  ∀i (hi:i<(xs++ys).length) j (hj:j<(xs++ys)[i].length),RelD F w (xs++ys)[i][j] (us.getD (i*k+j) undef):=by
 intro i hi j hj;by_cases h:i<xs.length
 ·have e2:(xs++ys)[i]=xs[i]:=List.getElem_append_left h;have:=hx i h j (by rw[<-e2];exact hj);simpa only[e2] using this
 ·have h2:i-xs.length<ys.length:=by simp only[xaa] at hi;omega
  have e2:(xs++ys)[i]=ys[i-xs.length]:=List.getElem_append_right od;have e3:xs.length+(i-xs.length)=i:=by omega
  have:=hy (i-xs.length) h2 j (by rw[<-e2];exact hj);simp only[e3] at this;simpa only[e2] using this
theorem zkg {t:TypeId}{G:Gh}{s:St}{a:Act}{w:World} (hr:R c G s a w){id k e yb:Nat}{xs ys:List (List D)}{v u:Value} (ht:SlT c.P t e k yb){z:Value} (hz:∃i,c.P.info? e=some i/\i.zero=some z/\z.cells.size=k)
  (htok:getH s.hp id=some (.tok xs.length k)) (hv:RelA G (tokf s.hp) w (.gv id xs) v) (hu:RelD G.F w (.sl ys) u) (hky:∀y,y∈ys->y.length=k)
  (hb:(xs.length+ys.length)*yb<=140737488355328) (hm:xs.length+ys.length<=9223372036854775807) (opt:TypeId):
  ∃v' w' G',(Builtin.append_ #[t,t] opt #[v,u]).run c.P w = .ok v' w'/\
   R c G' { s with hp:=(id,some (.tok (xs.length+ys.length) k))::s.hp } a w'/\
   RelA G' (tokf ((id,some (.tok (xs.length+ys.length) k))::s.hp)) w' (.gv id (xs++ys)) v':=by
 obtain⟨i,hi1,hi2,hi3⟩:=ht.inf;obtain⟨i',z1,z2,z3⟩:=hz;rw[hi1] at z1;cases z1
 obtain⟨⟨base,cap0,hv0⟩,hcl⟩:=hv.gv_inv;have hT:tokf s.hp id=some (xs.length,k):=zar.2 htok;obtain⟨hkx,htip⟩:=(hcl _ _ hT).2 rfl;have hT':tokf ((id,some (.tok (xs.length+ys.length) k))::s.hp) id=some (xs.length+ys.length,k):=zar.2 (by rw[zal,if_pos rfl]);have hle:∃base cap,v = .slice base xs.length cap/\xs.length<=cap:=by
  rcases htip with ⟨h1,h2,h3⟩|⟨b,cap,cs,et,h1,h2,h3,h4,h5,h6,h7⟩
  ·exact⟨none,0,by rw[h2];exact h3,by omega⟩
  ·exact⟨_,cap,h2,h6⟩
 by_cases hm0:ys=[]
 ·subst hm0;obtain⟨base,cap,rfl,hle⟩:=hle;obtain⟨oa,oc,rfl⟩:∃oa oc,u = .slice oa 0 oc:=by obtain⟨oa,oc,h⟩:=hu.sl_len;exact⟨oa,oc,h⟩
  refine⟨_,w,G,zfY t opt e i ht.und hi1 base xs.length cap hle oa oc,hr.same htok, ?_⟩;show RelA G (tokf ((id,some (.tok xs.length k))::s.hp)) w (.gv id (xs++[])) _
  rw[zix htok,xaq];exact hv
 obtain⟨oa0,cap0',_,h0,_⟩|⟨b2,off2,cap2,news,rfl,hcap2,hnl,hnc,hn1,hnr⟩:=hu.sl_cells hky
 ·exact absurd h0 hm0
 have hmpos:0<ys.length:=List.length_pos_iff.2 hm0;have hnews:∀j u,news[j]?=some u->w.cell? ((⟨b2,off2,none⟩:Addr).add j)=some u:=fun j u hj=>by rw[zcy];exact(hnc j u hj).2
 have hnl':news.length=ys.length*i.size:=by rw[hi2];exact hnl
 have hky':∀e,e∈xs++ys->e.length=k:=fun e he=>by
  rcases List.mem_append.1 he with h|h
  ·exact hkx e h
  ·exact hky e h
 have hlt:∀b o,o<G.F b->b<w.heap.size:=fun b o ho=>by
  rcases Nat.lt_or_ge b w.heap.size with h|h
  ·exact h
  ·rw[hr.top b h] at ho;omega

 have atNew:∀(olds:List Value),olds.length=xs.length*k->∀(tail:List Value) (F':Nat->Nat) (w':World),(∀x v,RelD G.F w x v->RelD F' w' x v)->
   (∀i (hi:i<xs.length) j (hj:j<xs[i].length),RelD G.F w xs[i][j] (olds.getD (i*k+j) undef))->
   ∀i (hi:i<(xs++ys).length) j (hj:j<(xs++ys)[i].length),RelD F' w' (xs++ys)[i][j] ((olds++news++tail).toArray.getD (i*k+j) undef):=by
  intro olds hol tail F' w' hmo hold;refine zsA (fun i hi j hj=>?_) (fun i hi j hj=>?_)
  ·have hlt':i*k+j<olds.length:=by
    have h1:xs[i].length=k:=hkx _ (xao hi);have:(i+1)*k<=xs.length*k:=xav _ od;rw[Nat.add_mul] at this;omega
   have e1:(olds++news++tail).toArray.getD (i*k+j) undef=olds.getD (i*k+j) undef:=by
    simp[List.getD,xar,List.getElem?_append_left hlt']
   rw[e1];exact hmo _ _ (hold i hi j hj)
  ·have h1:ys[i].length=k:=hky _ (xao hi);have hlt':i*k+j<news.length:=by
    have:(i+1)*k<=ys.length*k:=xav _ od;rw[Nat.add_mul] at this;omega
   have e0:(xs.length+i)*k+j=olds.length+(i*k+j):=by rw[hol,Nat.add_mul];omega
   have e1:(olds++news++tail).toArray.getD ((xs.length+i)*k+j) undef=news[i*k+j]:=by
    rw[e0];simp[List.getD,xar,List.getElem?_append_right,List.getElem?_append_left hlt',hlt']
   rw[e1];exact hmo _ _ (hnr i hi j hj hlt')
 have fresh:∀(olds:List Value) (nc:Nat),olds.length=xs.length*k->xs.length+ys.length<=nc->
   (∀i (hi:i<xs.length) j (hj:j<xs[i].length),RelD G.F w xs[i][j] (olds.getD (i*k+j) undef))->
   ∃G',R c G' { s with hp:=(id,some (.tok (xs.length+ys.length) k))::s.hp } a (w.drew.alloc (.cells (olds.toArray++news.toArray++Builtin.zeroCells z.cells (nc-(xs.length+ys.length))) e))/\
    RelA G' (tokf ((id,some (.tok (xs.length+ys.length) k))::s.hp)) (w.drew.alloc (.cells (olds.toArray++news.toArray++Builtin.zeroCells z.cells (nc-(xs.length+ys.length))) e))
     (.gv id (xs++ys)) (.slice (some ⟨w.heap.size,0,none⟩) (xs.length+ys.length) nc):=by
  intro olds nc hol hnc' hold;let cells:Array Value:=olds.toArray++news.toArray++Builtin.zeroCells z.cells (nc-(xs.length+ys.length))
  let G':Gh:={ F:=G.F,loc:=fun j=>bif Nat.beq j id then [w.heap.size] else G.loc j }
  have hcs:cells.size=nc*k:=by
   simp only[cells,Array.size_append,List.size_toArray,size_zeroCells,z3,hol,hnl,<-Nat.add_mul];congr 1;omega
  have hcell:∀b o,o<G.F b->o<G'.F b/\(w.drew.alloc (.cells cells e)).cell? ⟨b,o,none⟩=w.cell? ⟨b,o,none⟩:=fun b o ho=>by
   have hb:=hlt b o ho;exact⟨ho,by rw[World.cell?_alloc_lt w.drew _ _ hb];rfl⟩
  have hlocne:∀j,j≠id->G'.loc j=G.loc j:=fun j hj=>by
   have:Nat.beq j id=false:=by
    cases h:Nat.beq j id with
    |true=>exact absurd (xap h) hj
    |false=>rfl
   simp[G',this]
  have hlocid:G'.loc id=[w.heap.size]:=by simp[G']
  refine⟨G',hr.retok (G':=G') htok od hcell hlocne (fun b hb _=>⟨zek (w:=w.drew) hb,rfl⟩) (fun b hb=>by rw[hlocid] at hb;simp at hb;subst hb;simp)
   (fun b hb=>by rw[hlocid] at hb;simp at hb;exact .inr od) rfl rfl rfl oi (fun b hb=>?_), ?_⟩
  ·have hb':w.heap.size+1<=b:=by simpa using hb
   exact hr.top b od
  refine .gv ⟨_,_,by rw[xaa]⟩ (fun n' k' hm'=>?_);rw[hT'] at hm';cases hm'
  refine⟨by simp,fun _=>⟨hky',.inr ⟨w.heap.size,nc,cells,e,hlocid,rfl,hr.top _ (Nat.le_refl _),zd6 (w:=w.drew),by rw[hcs];exact Nat.le_refl _,hnc', ?_⟩⟩⟩;have:=atNew olds hol (Builtin.zeroCells z.cells (nc-(xs.length+ys.length))).toList G.F (w.drew.alloc (.cells cells e)) (fun x v h=>h.mono hcell) hold;have ec:cells=(olds++news++(Builtin.zeroCells z.cells (nc-(xs.length+ys.length))).toList).toArray:=by
   apply Array.ext';simp[cells]
  intro i hi j hj;rw[ec];exact this i hi j hj
 rcases htip with ⟨h1,h2,h3⟩|⟨b,cap,cs,et,h1,h2,h3,h4,h5,h6,h7⟩
 ·
  have hx0:xs=[]:=List.eq_nil_of_length_eq_zero h2;subst hx0;subst h3;simp only[xak,Nat.zero_add] at hb hm fresh ⊢;have hrun:=run_append_nil (P:=c.P) w t opt e i z ht.und hi1 z2 ⟨b2,off2,none⟩ ys.length cap2 news hnl' hnews hmpos od (by rw[hi3];omega);obtain⟨G',hR,hA⟩:=fresh [] (grownCap w ys.length 0 e) oi (by
   have:=grownCap_ge w ys.length 0 e;omega) (fun j hj=>by simp at hj)
  simp only[List.nil_append,Array.empty_append] at hR hA hrun ⊢;exact⟨_,_,G',hrun,hR,hA⟩
 ·subst h2;have hmul:xs.length*k<=cs.size:=Nat.le_trans (xav _ h6) h5;have hold:∀i (hi:i<xs.length) j (hj:j<xs[i].length),RelD G.F w xs[i][j] ((cs.toList.take (xs.length*k)).getD (i*k+j) undef):=fun i hi j hj=>by
   have h8:xs[i].length=k:=hkx _ (xao hi);have hlt':i*k+j<xs.length*k:=by
    have:(i+1)*k<=xs.length*k:=xav _ od;rw[Nat.add_mul] at this;omega
   have:=h7 i hi j hj;have e1:(cs.toList.take (xs.length*k)).getD (i*k+j) undef=cs.getD (i*k+j) undef:=by
    have hs:i*k+j<cs.size:=by omega
    simp[List.getD,List.getElem?_take,hlt',Array.getD,hs]
   rw[e1];exact this
  by_cases hroom:xs.length+ys.length<=cap
  ·
   have hfit:xs.length*i.size+news.length<=cs.size:=by
    rw[hi2,hnl,<-Nat.add_mul];exact Nat.le_trans (xav _ hroom) h5
   have hrun:=zft (P:=c.P) t opt e i ht.und hi1 b xs.length cap cs et h4 ⟨b2,off2,none⟩ ys.length cap2 news hnl' hnews hn1 hroom hfit;rw[hi2] at hrun hfit;let row:Array Value:=(cs.toList.take (xs.length*k)++news++cs.toList.drop (xs.length*k+news.length)).toArray
   have hrs:row.size=cs.size:=by
    simp only[row,List.size_toArray,xaa,List.length_take,List.length_drop,Array.length_toList];omega
   have hcell:∀b' o,o<G.F b'->o<G.F b'/\(w.setRow b row).cell? ⟨b',o,none⟩=w.cell? ⟨b',o,none⟩:=fun b' o ho=>by
    have hbb:b'≠b:=fun e=>by subst e;omega
    exact⟨ho,cell_setRow_other w b row _ hbb⟩
   have hbs:b<w.heap.size:=by
    rcases Nat.lt_or_ge b w.heap.size with h|h
    ·exact h
    ·rw[Array.getElem?_eq_none h] at h4;cases h4
   refine⟨_,_,G,hrun,hr.retok (G':=G) htok od hcell (fun _ _=>rfl) (fun b' hb' hn=>?_) (fun x hx=>by rw[h1] at hx;simp at hx;subst hx;simpa using hbs) (fun b' hb'=> .inl hb') rfl rfl rfl oi (fun b' hb'=>?_), ?_⟩
   ·have hne:b'≠b:=fun e=>hn (by rw[h1,e];simp);exact⟨setRow_other w b b' row hne,rfl⟩
   ·have hb2':w.heap.size<=b':=by simpa using hb'
    exact hr.top b' hb2'
   ·refine .gv ⟨_,_,by rw[xaa]⟩ (fun n' k' hm'=>?_);rw[hT'] at hm';cases hm'
    refine⟨by simp,fun _=>⟨hky',.inr ⟨b,cap,row,et,h1,rfl,h3,setRow_heap w b cs row et _ h4,by rw[hrs];exact h5,hroom, ?_⟩⟩⟩;exact atNew (cs.toList.take (xs.length*k)) ot _ G.F (w.setRow b row) (fun x v h=>h.mono hcell) hold
  ·
   have hrun:=run_append_grow (P:=c.P) w t opt e i z ht.und hi1 z2 ⟨b,0,none⟩ xs.length cap (cs.toList.take (xs.length*k)) (by rw[hi2];simp;omega)
    (fun j u hj=>by
     rw[zcy];obtain⟨hj1,hj2⟩:=List.getElem?_eq_some_iff.1 hj;simp only[List.getElem_take] at hj2;have hjs:j<cs.size:=by simp at hj1;omega
     simp only[World.cell?,h4,Option.isSome_none,Bool.false_eq_true,if_false,Nat.zero_add];rw[Array.getElem?_eq_getElem hjs,<-hj2];simp) ⟨b2,off2,none⟩ ys.length cap2 news hnl' hnews od od (by rw[hi3];exact growslice_fits od hb)
   obtain⟨G',hR,hA⟩:=fresh (cs.toList.take (xs.length*k)) (grownCap w (xs.length+ys.length) cap e) ot (by have:=grownCap_ge w (xs.length+ys.length) cap e;omega) hold;exact⟨_,_,G',hrun,hR,hA⟩
theorem R.mkTokV {G:Gh}{s:St}{a:Act}{w:World} (hr:R c G s a w){id:Nat} (k:Nat) (h0:getH s.hp id=none) (hocc:zcW id s):
  ∃G',R c G' { s with hp:=(id,some (.tok 0 k))::s.hp } a w/\RelA G' (tokf ((id,some (.tok 0 k))::s.hp)) w (.gv id []) (.slice none 0 0):=by
 have h1:=hr.rename h0 hocc [];have hl:(fun i=>bif Nat.beq i id then ([]:List Nat) else G.loc i) id=[]:=by simp
 refine⟨_,h1.name h0 hocc (fun b hb=>by simp at hb) (fun i _ b _ hb=>by simp at hb) (fun b hb=>by simp at hb), ?_⟩;refine .gv ⟨none,0,Z⟩ (fun n k' hT=>?_);have:=zar.1 hT;rw[zal,if_pos rfl] at this;cases this
 exact⟨Nat.le_refl _,fun _=>⟨by simp,.inl ⟨hl,rfl,rfl⟩⟩⟩
theorem zie {xs:List (List D)}{k:Nat} (hk:∀x,x∈xs->x.length=k){i:Nat} (hi:i<xs.length){j:Nat} (hj:j<k):(xs.flatten.map AV.d)[i*k+j]?=some (.d (xs[i][j]'(by rw[hk _ (xao hi)];exact hj))):=by
 have:=zra hk i hi j hj;rw[List.getElem?_map,this,xan (by rw[hk _ (xao hi)];exact hj)];rfl
theorem Rel.fixV {env:Env}{hp:Hp}{ids:List Nat} (hkp:KeptIn c.kept ids) (t id k:Nat){xs:List (List D)} (ht:getE env t=some (.gv id xs)) (hb:getH hp id=some (.tok xs.length k)) (hid:zaT id ids=false){a:Act}{w:World} (hrel:Rel c ⟨env,hp⟩ a w):
  (xs=[]/\Rel c ⟨(t,.d (.sl []))::env,(id,none)::hp⟩ a w)\/(xs≠[]/\Rel c ⟨(t,.ms id xs.length)::env,(id,some (.box (xs.flatten.map .d)))::hp⟩ a w):=by
 obtain⟨G,hr⟩:=hrel;have hT:tokf hp id=some (xs.length,k):=zar.2 hb;have hsl:=hr.slots t _ ht;obtain⟨⟨ad,cap0,hv0⟩,hcl⟩:=hsl.gv_inv;obtain⟨hkx,htip⟩:=(hcl _ _ hT).2 rfl;have hkne:∀i l,c.kept i=some l->i≠id:=fun i l hk e=>by
  subst e;have:=zaM.2 (hkp.mem i l hk);rw[this] at hid;cases hid

 have hm:∀(r:Option Res),(∀n k,r≠some (.tok n k))->∀ {x:AV}{v:Value},RelA G (tokf hp) w x v->(r.isSome->id∉x.ids->True)->RelA G (tokf ((id,r)::hp)) w x v:=by
  intro r hnr x v hx _;refine hx.mono (fun _ _ ho=>⟨ho,Z⟩) (fun _ _=> .inl Z) (fun i _ p hp'=>?_);obtain⟨n,q⟩:=p;have:=zar.1 hp';rw[zal] at this;split at this
  ·exact absurd this (hnr n q)
  ·exact⟨zar.2 this,fun _ _=>⟨rfl,rfl⟩⟩
 have base:∀(r:Option Res) (v:AV),(∀n k,r≠some (.tok n k))->RelA G (tokf ((id,r)::hp)) w v (a.tmps.getD t undef)->(∀x,r=some x->RelR G (tokf ((id,r)::hp)) w id x)->
   Rel c ⟨(t,v)::env,(id,r)::hp⟩ a w:=by
  intro r v hnr hv hrr;have hsome:∀i,(getH ((id,r)::hp) i).isSome->(getH hp i).isSome:=fun i hi=>by
   rw[zal] at hi;split at hi
   ·rename_i e;subst e;rw[hb];rfl
   ·exact hi
  refine⟨G,hr.size,hr.defers,fun i x hi=>?_,fun i x hi=>?_,fun i j q1 q2=>hr.disj i j (hsome i q1) (hsome j q2),fun i q1=>hr.new i (hsome i q1),hr.frm,hr.top,fun i l hk=>?_⟩
  ·simp only[getE] at hi;cases hti:Nat.beq t i with
   |true=>
    have:=xap hti;subst this;simp only[hti,cond_true,xae] at hi;subst hi;exact hv
   |false=>
    simp only[hti,cond_false] at hi;exact hm r hnr (hr.slots i x hi) (fun _ _=>trivial)
  ·have hi':getH ((id,r)::hp) i=some x:=hi;rw[zal] at hi';split at hi'
   ·rename_i e;subst e;exact hrr x hi'
   ·have hh:=hr.heap i x hi';cases x with
    |box cs2=>
     obtain⟨b2,vs2,e2,q1,q2,q3,q4,q5⟩:=hh;exact⟨b2,vs2,e2,q1,q2,q3,q4,fun j hj hv=>hm r hnr (q5 j hj hv) (fun _ _=>trivial)⟩
    |tok m q=>exact hh
    |map ks=>exact hh
    |tree cs2=>exact zbI hh Z (fun _ _=>⟨Z,Z⟩) (Nat.le_refl _) (fun _ _ _ h=>hm r hnr h (fun _ _=>trivial))
  ·have hk':=hr.kept i l hk;have hne:=hkne i l hk;show(G.loc i).head?=l.head?/\(getH ((id,r)::hp) i).isSome/\tokf ((id,r)::hp) i=none
   have hg:getH ((id,r)::hp) i=getH hp i:=by rw[zal,if_neg hne]
   refine⟨hk'.1,by rw[hg];exact hk'.2.1, ?_⟩;have h2:=hk'.2.2;unfold tokf at h2 ⊢;rw[hg];exact h2
 by_cases hx0:xs=[]
 ·refine .inl ⟨hx0,base none _ (fun _ _=>by simp) ?_ (fun x h=>by cases h)⟩;subst hx0;rw[hv0];cases ad with
  |none=>
   rcases htip with ⟨h1,h2,h3⟩|⟨b,cap,cs,et,h1,h2,_⟩
   ·rw[hv0] at h3;rw[h3];exact .d .nil
   ·rw[hv0] at h2;cases h2
  |some ad=>
   obtain⟨b,o,sp⟩:=ad;cases sp with
   |none=>exact .d (.sl [] 0 b o cap0 (fun _=>undef) oi oi (fun n hn=>by simp at hn) (fun i hi=>by simp at hi))
   |some s=>exact .d (.emp b o s cap0)
 ·rcases htip with ⟨h1,h2,h3⟩|⟨b,cap,cs,et,h1,h2,h3,h4,h5,h6,h7⟩
  ·exact absurd (List.eq_nil_of_length_eq_zero h2) hx0
  ·have hnt:tokf ((id,some (Res.box (xs.flatten.map .d)))::hp) id=none:=by
    unfold tokf;rw[zal,if_pos rfl]
   refine .inr ⟨hx0,base (some (.box (xs.flatten.map .d))) _ (fun _ _=>by simp) ?_ (fun x h=>?_)⟩
   ·have hv1:a.tmps.getD t undef = .slice (some ⟨b,0,none⟩) xs.length cap:=h2;rw[hv1];exact .ms (zhR h1) hnt h6
   ·cases h
    refine⟨b,cs,et,h1,h4, ?_,h3,fun i hi hv=>?_⟩
    ·rw[xac,zeF hkx];exact Nat.le_trans (xav _ h6) h5
    ·have hi':i<xs.length*k:=by rw[xac,zeF hkx] at hi;exact hi
     have hkpos:0<k:=by
      rcases Nat.eq_zero_or_pos k with h|h
      ·subst h;simp at hi'
      ·exact h
     have hq:i / k<xs.length:=Nat.div_lt_of_lt_mul (by rw[Nat.mul_comm];exact hi');have hrm:i % k<k:=Nat.mod_lt _ hkpos;have e1:=zie hkx hq hrm;rw[Nat.div_add_mod'] at e1;rw[xan hi] at e1;rw[Option.some.inj e1];have h8:=h7 (i / k) hq (i % k) (by rw[hkx _ (xao hq)];exact hrm);rw[Nat.div_add_mod'] at h8;have e2:cs.getD i undef=cs[i]:=by simp[Array.getD,hv]
     rw[e2] at h8;exact .d h8
theorem xaz {env:Env}{hp:Hp}{K:Kt}{code:Code}{ids:List Nat} (hkp:KeptIn c.kept ids) (t id k:Nat){xs:List (List D)} (ht:getE env t=some (.gv id xs)) (hb:getH hp id=some (.tok xs.length k)) (hid:zaT id ids=false)
  (h0:xs=[]->CWp c code ⟨(t,.d (.sl []))::env,(id,none)::hp⟩ K)
  (hn:xs≠[]->CWp c code ⟨(t,.ms id xs.length)::env,(id,some (.box (xs.flatten.map .d)))::hp⟩ K):CWp c code ⟨env,hp⟩ K:=by
 intro a w hrel;rcases Rel.fixV hkp t id k ht hb hid hrel with ⟨h,hr⟩|⟨h,hr⟩
 ·exact h0 h a w hr
 ·exact hn h a w hr
end
section
variable {c:Ctx}{all:Array Oper}{chk:List Rec->Prop}{os:List Oper}{recs:List Rec}{env:Env}{hp:Hp}{Q:St->Prop}
variable {d ty:Nat}{pos:String}{af:Array Edge}{g:Option (Nat×Bool)}{pg:List (Nat×AV)}
variable {t yt:TypeId}{x y:Operand}
theorem xbq {id k e yb:Nat}{xs ys:List (List D)}{vy:AV} (ht:SlT c.P t e k yb) (hz:ZeroT c.P e k) (hg:GH all env g pg) (hd:Nat.blt d c.n=true)
  (hx:opd env x=some (.gv id xs)) (hy:opd env y=some vy) (hyd:vy.toD=some (.sl ys)) (htok:getH hp id=some (.tok xs.length k)) (hky:∀y,y∈ys->y.length=k)
  (hb:(xs.length+ys.length)*yb<=140737488355328) (hm:xs.length+ys.length<=9223372036854775807)
  (hn:Walk c all chk os (zap (pg++(opF x (.gv id xs)++opF y vy)) [(id,.tok xs.length k)] [] ⟨some (d,.gv id (xs++ys)),[(id,some (.tok (xs.length+ys.length) k))]⟩::recs)
   ⟨(d,.gv id (xs++ys))::env,(id,some (.tok (xs.length+ys.length) k))::hp⟩ Q):
  Walk c all chk (⟨some d,.call ⟨.builtin .append,#[x,y],#[t,t]⟩,ty,pos,af,g⟩::os) recs ⟨env,hp⟩ Q:=by
 refine⟨pg++(opF x (.gv id xs)++opF y vy),[(id,.tok xs.length k)],[],_, ?_,zav hg.facts (zav (za4 hx) (za4 hy)),hh1 htok,by simp,hn⟩;intro s a w hrel hp' hh _ K Q' hK;obtain⟨G,hr⟩:=hrel;have e1:=hr.opd (za5 hx (fun p hm=>hp' p (by simp[hm])));have e2:=hr.opd (za5 hy (fun p hm=>hp' p (by simp[hm])));obtain⟨i,z,z1,z2,z3⟩:=hz.out;obtain⟨v',w',G',hrun,hR,hA⟩:=zkg hr ht ⟨i,z1,z2,z3⟩ (hh1' hh) e1 (e2.toD hyd) hky hb hm ty;unfold wpO;rw[if_pos (hg.gf.wanted hr (fun p hm=>hp' p (by simp[hm])))];unfold Oper.wp;have:(execOp a.eval ⟨some d,.call ⟨.builtin .append,#[x,y],#[t,t]⟩,ty,pos,af,g⟩).run c.P w = .ok (.value v') w':=by
  simp only[execOp,resolve,invoke,builtin,Sem.run_bind,Sem.run_pure,Result.andThen_ok,List.map_toArray,xaf,List.map_nil,hrun]
 rw[this,Oper.upon_value];exact hK _ _ ⟨G',hR.put hA hd⟩
theorem xbP {xs:List (List D)}{at_ e k yb id:Nat} (ht:SlT c.P at_ e k yb) (hg:GH all env g pg) (hd:Nat.blt d c.n=true) (hx:opd env x=some (.gv id xs))
  (hn:Walk c all chk os (zap (pg++opF x (.gv id xs)) [] [] ⟨some (d,.d (.i xs.length)),[]⟩::recs) ⟨(d,.d (.i xs.length))::env,hp⟩ Q):
  Walk c all chk (⟨some d,.call ⟨.builtin .len,#[x],#[at_]⟩,ty,pos,af,g⟩::os) recs ⟨env,hp⟩ Q:=
 xb1 hg hd hx (fun a G T w h=>⟨.int .i64 xs.length,by
  obtain⟨⟨ad,cap,he⟩,_⟩:=h.gv_inv;simp[execOp,resolve,invoke,builtin,he,ze5 ht],.d (.int _ _)⟩) hn
theorem Walk.mkRowGV {op:Op}{xs:List Operand}{vs:List AV}{es:List (List D)}{k:Nat} (id:Nat) (hg:GH all env g pg) (hd:Nat.blt d c.n=true) (hx:opdL env xs=some vs) (hk:∀e,e∈es->e.length=k)
  (hf:zam env hp [id]=true)
  (h:∀(a:Act) (G:Gh) (T:TokF) (w:World),(vs.length=xs.length/\∀i (hi:i<vs.length) (hx:i<xs.length),RelA G T w vs[i] (a.eval xs[i]))->
   ∃us e,(execOp a.eval ⟨some d,op,ty,pos,af,g⟩).run c.P w = .ok (.value (.slice (some ⟨w.heap.size,0,none⟩) es.length es.length)) (w.alloc (.cells us e))/\us.size=es.length*k/\
    ∀i (hi:i<es.length) j (hj:j<es[i].length) (hu:i*k+j<us.size),RelD G.F w es[i][j] us[i*k+j])
  (hn:Walk c all chk os (zap (pg++opFL xs vs) [] [id] ⟨some (d,.gv id es),[(id,some (.tok es.length k))]⟩::recs) ⟨(d,.gv id es)::env,(id,some (.tok es.length k))::hp⟩ Q):
  Walk c all chk (⟨some d,op,ty,pos,af,g⟩::os) recs ⟨env,hp⟩ Q:=by
 refine⟨pg++opFL xs vs,[],[id],_, ?_,zav hg.facts (zcM hx),by simp,zbD hf,hn⟩;intro s a w hrel hp' hh hcr K Q' hK;obtain⟨G,hr⟩:=hrel;obtain⟨h0,hocc⟩:=hcr id oi;obtain⟨us,e,e1,e2,e3⟩:=h a G (tokf s.hp) w (zdS hr (zcN hx (fun p hm=>hp' p (by simp[hm]))));have hr':=(hr.alloc (.cells us e) 0).rename h0 hocc [w.heap.size];have hloc:∀i,i≠id->(bif Nat.beq i id then [w.heap.size] else G.loc i)=G.loc i:=fun i h=>by
  cases hb:Nat.beq i id with
  |true=>exact absurd (xap hb) h
  |false=>rfl
 have hR:=hr'.name (r:= .tok es.length k) h0 hocc (fun b hb=>by simp at hb;subst hb;simp) (fun i hi b hb=>by
  have hi':i≠id:=fun e=>by subst e;rw[h0] at hi;cases hi
  have hb':b∈G.loc i:=by have:=hloc i hi';simp only[this] at hb;exact hb
  obtain⟨r,hrr⟩:=Option.isSome_iff_exists.1 hi;have hlt:b<w.heap.size:=(hr.heap i r hrr).bound b hb';simp;omega) (fun b hb=>by
  simp at hb;subst hb;exact .inr hr.frm.size)
 unfold wpO;rw[if_pos (hg.gf.wanted hr (fun p hm=>hp' p (by simp[hm])))];unfold Oper.wp;rw[e1,Oper.upon_value];refine hK _ _ ⟨_,hR.put (v:= .gv id es) (.gv ⟨_,_,Z⟩ (fun n k' hT=>?_)) hd⟩;have:=zar.1 hT;have h2:getH ((id,some (Res.tok es.length k))::s.hp) id=some (.tok n k'):=this;rw[zal,if_pos rfl] at h2;cases h2
 refine⟨Nat.le_refl _,fun _=>⟨hk,.inr ⟨w.heap.size,es.length,us,e,by simp,rfl,by simp,zd6,by rw[e2];exact Nat.le_refl _,Nat.le_refl _,fun i hi j hj=>?_⟩⟩⟩;have hjk:j<k:=by rw[<-hk _ (xao hi)];exact hj
 have hlt:i*k+j<us.size:=by
  have:(i+1)*k<=es.length*k:=xav _ od;rw[Nat.add_mul] at this;omega
 have h4:=e3 i hi j hj hlt;have h5:us.getD (i*k+j) undef=us[i*k+j]:=by simp[Array.getD,hlt]
 rw[h5];refine h4.mono (fun b o ho=>?_);have hb:b<w.heap.size:=by
  rcases Nat.lt_or_ge b w.heap.size with h|h
  ·exact h
  ·rw[hr.top b h] at ho;omega
 have:Nat.beq b w.heap.size=false:=by
  cases h:Nat.beq b w.heap.size with
  |true=>have:=xap h;omega
  |false=>rfl
 exact⟨by simpa [this] using ho,World.cell?_alloc_lt w _ _ hb⟩
theorem zg3 {P:Program}{op:BinOp}{t:TypeId}{x y:Operand}{a:Option Addr}{n c:Nat}{w:World}:(eqGuard op t x y (.slice a n c) (.slice none 0 0)).run P w = .ok () w:=by
 cases op<;>rfl
theorem xbH {e k yb:Nat} (ht:SlT c.P t e k yb) (hg:GH all env g pg) (hd:Nat.blt d c.n=true) (hx:opd env x=some .nils)
  (hn:Walk c all chk os (zap (pg++opF x .nils) [] [] ⟨some (d,.d (.bool true)),[]⟩::recs) ⟨(d,.d (.bool true))::env,hp⟩ Q):
  Walk c all chk (⟨some d,.binOp .eql t x (.const (.slice none 0 0)) yt,ty,pos,af,g⟩::os) recs ⟨env,hp⟩ Q:=
 xb1 hg hd hx (fun a G T w h=>⟨.bool true,by
  have hv:a.eval x = .slice none 0 0:=by
   generalize a.eval x=v at *;cases h;rfl
  have hcn:a.eval (.const (.slice none 0 0)) = .slice none 0 0:=rfl;simp only[execOp,hv,hcn];simp only[Sem.run_bind,zg3,Result.andThen_ok,run_eql_slice_nil w t e none 0 0 ht.und,Sem.run_pure,Option.isNone_none],.d (.bool _)⟩) hn
theorem xbG {xs:List (List D)}{e k yb:Nat} (ht:SlT c.P t e k yb) (hg:GH all env g pg) (hd:Nat.blt d c.n=true) (hx:opd env x=some (.sn xs))
  (hn:Walk c all chk os (zap (pg++opF x (.sn xs)) [] [] ⟨some (d,.d (.bool false)),[]⟩::recs) ⟨(d,.d (.bool false))::env,hp⟩ Q):
  Walk c all chk (⟨some d,.binOp .eql t x (.const (.slice none 0 0)) yt,ty,pos,af,g⟩::os) recs ⟨env,hp⟩ Q:=
 xb1 hg hd hx (fun a G T w h=>⟨.bool false,by
  obtain⟨ad,n,cp,hv⟩:∃ad n cp,a.eval x = .slice (some ad) n cp:=by
   generalize a.eval x=v at *;cases h with|sn h hn=>exact hn
  have hcn:a.eval (.const (.slice none 0 0)) = .slice none 0 0:=rfl;simp only[execOp,hv,hcn];simp only[Sem.run_bind,zg3,Result.andThen_ok,run_eql_slice_nil w t e (some ad) n cp ht.und,Sem.run_pure,Option.isNone_some],.d (.bool _)⟩) hn
theorem xaD {K:Kt}{code:Code} (i:Nat){xs:List (List D)} (h:getE env i=some (.d (.sl xs)))
  (h1:xs=[]->CWp c code ⟨(i,.nils)::env,hp⟩ K) (h2:CWp c code ⟨(i,.sn xs)::env,hp⟩ K):CWp c code ⟨env,hp⟩ K:=by
 intro a w hrel;obtain⟨G,hr⟩:=hrel;have base:∀v,RelA G (tokf hp) w v (a.tmps.getD i undef)->Rel c ⟨(i,v)::env,hp⟩ a w:=fun v hv=>
  ⟨G,hr.size,hr.defers,fun j x hj=>by
   simp only[getE] at hj;cases hti:Nat.beq i j with
   |true=>
    have:=xap hti;subst this;simp only[hti,cond_true,xae] at hj;subst hj;exact hv
   |false=>
    simp only[hti,cond_false] at hj;exact hr.slots j x hj,hr.heap,hr.disj,hr.new,hr.frm,hr.top,hr.kept⟩
 have hd:=(hr.slots i _ h).d_inv;generalize hv:a.tmps.getD i undef=v at hd base;cases hd with
 |nil=>exact h1 Z a w (base _ .nils)
 |emp b off s cap=>exact h2 a w (base _ (.sn (.emp b off s cap) ⟨_,_,_,Z⟩))
 |sl _ k b off cap cf hk hcap hc hr=>exact h2 a w (base _ (.sn (.sl _ k b off cap cf hk hcap hc hr) ⟨_,_,_,Z⟩))
theorem xca {t:TypeId}{e k yb:Nat} (id:Nat) (ht:SlT c.P t e k yb) (hg:GH all env g pg) (hd:Nat.blt d c.n=true) (hfr:zam env hp [id]=true)
  (hn:Walk c all chk os (zap (pg++opFL [] []) [] [id] ⟨some (d,.gv id []),[(id,some (.tok 0 k))]⟩::recs) ⟨(d,.gv id [])::env,(id,some (.tok 0 k))::hp⟩ Q):
  Walk c all chk (⟨some d,.buildSlice t 0 #[],ty,pos,af,g⟩::os) recs ⟨env,hp⟩ Q:=by
 refine Walk.mkRowGV (xs:=[]) (vs:=[]) (es:=[]) (k:=k) id hg hd Z oi hfr (fun a G T w h=>?_) hn;obtain⟨ie,hi1,hi2,hi3⟩:=ht.inf;refine⟨#[],e, ?_,by simp,fun i hi=>by simp at hi⟩;simp[execOp,Instr.buildSlice,run_underlying ht.und,sizeOf,zfi hi1,Instr.fill,newRow,Array.range_zero']
end
def Res.avs:Res->List AV
 | .box cs=>cs
 | .tree cs=>cs
 |_=>[]
theorem Res.avs_ids {r:Res}{x:AV} (hx:x∈r.avs):∀id,id∈x.ids->id∈r.ids:=by
 intro id hid;cases r with
 |box cs=>exact xay hx hid
 |tree cs=>exact xay hx hid
 |_=>simp[Res.avs] at hx
structure Turn (c:Ctx) (G:Gh) (s:St) (w:World) (G':Gh) (hp':Hp) (L:List Nat):Prop where
 get:∀i,i∉L->getH hp' i=getH s.hp i
 loc:∀i,i∉L->G'.loc i=G.loc i
 fro:∀b,(∀j,j∈L->(getH s.hp j).isSome->b∉G.loc j)->G'.F b=G.F b
 fle:∀b o,o<G.F b->o<G'.F b
 ftop:∀b,w.heap.size<=b->G'.F b=0
 occ:∀i,i∈L->zcW i s\/(LocEq (tokf hp') G' G i/\∀p,tokf hp' i=some p->tokf s.hp i=some p/\∀b,b∈G.loc i->G'.F b=G.F b)
 blk:∀i,i∈L->(getH hp' i).isSome->∀b,b∈G'.loc i->∃j,j∈L/\(getH s.hp j).isSome/\b∈G.loc j
 dis:∀i,i∈L->∀j,j∈L->i≠j->(getH hp' i).isSome->(getH hp' j).isSome->∀b,b∈G'.loc i->b∉G'.loc j
 keep:∀i,i∈L->∀l,c.kept i=some l->(G'.loc i).head?=l.head?/\(getH hp' i).isSome/\tokf hp' i=none
section
variable {c:Ctx}{G G':Gh}{s:St}{a:Act}{w:World}{hp':Hp}{L:List Nat}
theorem Turn.away (h:Turn c G s w G' hp' L) (hr:R c G s a w){i:Nat} (hi:i∉L) (hs:(getH s.hp i).isSome):∀b,b∈G.loc i->G'.F b=G.F b:=
 fun b hb=>h.fro b (fun j hj hjs hbj=>hr.disj i j hs hjs (fun e=>hi (e ▸ hj)) b hb hbj)
theorem Turn.rel (h:Turn c G s w G' hp' L) (hr:R c G s a w){x:AV}{v:Value} (hx:∀i,i∈L->zcW i s->i∉x.ids) (hR:RelA G (tokf s.hp) w x v):RelA G' (tokf hp') w x v:=by
 refine hR.mono (fun b o ho=>⟨h.fle b o ho,Z⟩) (fun i hi=>?_) (fun i hi p hp=>?_)
 ·by_cases hL:i∈L
  ·rcases h.occ i hL with ho|ho
   ·exact absurd hi (hx i hL ho)
   ·exact ho.1
  ·exact .inl (h.loc i hL)
 ·by_cases hL:i∈L
  ·rcases h.occ i hL with ho|ho
   ·exact absurd hi (hx i hL ho)
   ·obtain⟨h1,h2⟩:=ho.2 p hp;exact⟨h1,fun b hb=>⟨rfl,h2 b hb⟩⟩
  ·have hT:tokf s.hp i=some p:=by unfold tokf at hp ⊢;rw[h.get i hL] at hp;exact hp
   refine⟨hT,fun b hb=>⟨rfl,h.away hr hL ?_ b hb⟩⟩;obtain⟨n,k⟩:=p;rw[zar.1 hT];rfl
theorem Turn.slot (h:Turn c G s w G' hp' L) (hr:R c G s a w){t:Nat}{x:AV}{v:Value} (ht:getE s.env t=some x) (hR:RelA G (tokf s.hp) w x v):RelA G' (tokf hp') w x v:=
 h.rel hr (fun i _ ho hx=>ho.1 t x ht hx) hR
theorem Turn.cell (h:Turn c G s w G' hp' L) (hr:R c G s a w){j:Nat}{r:Res}{x:AV}{v:Value} (hj:getH s.hp j=some r) (hx:x∈r.avs) (hR:RelA G (tokf s.hp) w x v):RelA G' (tokf hp') w x v:=
 h.rel hr (fun i _ ho hi=>ho.2 j r hj (Res.avs_ids hx i hi)) hR
theorem Turn.fin (h:Turn c G s w G' hp' L) (hr:R c G s a w) (hL:∀i,i∈L->∀r,getH hp' i=some r->RelR G' (tokf hp') w i r):R c G' ⟨s.env,hp'⟩ a w:=by
 have hsome:∀i,i∉L->(getH hp' i).isSome->(getH s.hp i).isSome:=fun i hi hs=>by rw[h.get i hi] at hs;exact hs
 let own1:List Nat:=L.flatMap fun j=>if (getH s.hp j).isSome then G.loc j else []
 have hown:∀b,b∈own1↔∃j,j∈L/\(getH s.hp j).isSome/\b∈G.loc j:=fun b=>by
  simp only[own1,List.mem_flatMap];constructor
  ·rintro ⟨j,hj,hb⟩
   by_cases hs:(getH s.hp j).isSome
   ·rw[if_pos hs] at hb;exact⟨j,hj,hs,hb⟩
   ·rw[if_neg hs] at hb;simp at hb
  ·rintro ⟨j,hj,hs,hb⟩
   exact⟨j,hj,by rw[if_pos hs];exact hb⟩
 refine⟨hr.size,hr.defers,fun i v hi=>h.slot hr hi (hr.slots i v hi),fun i r hi=>?_,fun i j h1 h2 hne b hb=>?_,fun i h1 b hb=>?_,
  hr.frm.trans (own1:=own1) ⟨rfl,rfl,rfl,Nat.le_refl _,fun b _ hb=>⟨rfl,h.fro b (fun j hj hs hbj=>hb ((hown b).2 ⟨j,hj,hs,hbj⟩))⟩,fun b o ho=>⟨h.fle b o ho,rfl⟩⟩ (fun b hb=>?_),h.ftop,fun i l hl=>?_⟩
 ·by_cases hi':i∈L
  ·exact hL i hi' r hi
  ·have hg:getH s.hp i=some r:=by have:=h.get i hi';rw[<-this];exact hi
   have hh:=hr.heap i r hg;have hs:(getH s.hp i).isSome:=by rw[hg];rfl
   have hl:=h.loc i hi';have ha:=h.away hr hi' hs;cases r with
   |box cs=>
    obtain⟨b,vs,e,h1,h2,h3,h4,h5⟩:=hh;exact⟨b,vs,e,hl.trans h1,h2,h3,(ha b (by simp[h1])).trans h4,fun j hj hv=>h.cell hr hg (xao hj) (h5 j hj hv)⟩
   |tok n k=>exact fun b hb=>hh b (by rw[hl] at hb;exact hb)
   |map ks=>
    obtain⟨b,es,cl,h1,h2,h3,h4⟩:=hh;exact⟨b,es,cl,hl.trans h1,h2,(ha b (by simp[h1])).trans h3,h4⟩
   |tree cs=>exact zbI hh hl (fun b hb=>⟨Z,ha b hb⟩) (Nat.le_refl _) (fun x hx v=>h.cell hr hg hx)
 ·have key:∀i j,i∈L->j∉L->(getH hp' i).isSome->(getH hp' j).isSome->∀b,b∈G'.loc i->b∉G'.loc j:=fun i j hi hj h1 h2 b hb hbj=>by
   obtain⟨i2,h3,h4,h5⟩:=h.blk i hi h1 b hb;rw[h.loc j hj] at hbj;exact hr.disj i2 j h4 (hsome j hj h2) (fun e=>hj (e ▸ h3)) b h5 hbj
  by_cases hi:i∈L<;>by_cases hj:j∈L
  ·exact h.dis i hi j hj hne h1 h2 b hb
  ·exact key i j hi hj h1 h2 b hb
  ·exact fun hbj=>key j i hj hi h2 h1 b hbj hb
  ·rw[h.loc i hi] at hb;rw[h.loc j hj];exact hr.disj i j (hsome i hi h1) (hsome j hj h2) hne b hb
 ·by_cases hi:i∈L
  ·obtain⟨j,h3,h4,h5⟩:=h.blk i hi h1 b hb;exact hr.new j h4 b h5
  ·rw[h.loc i hi] at hb;exact hr.new i (hsome i hi h1) b hb
 ·obtain⟨j,h3,h4,h5⟩:=(hown b).1 hb;exact hr.new j h4 b h5
 ·by_cases hi:i∈L
  ·exact h.keep i hi l hl
  ·have hk:=hr.kept i l hl;refine⟨by rw[h.loc i hi];exact hk.1,by rw[h.get i hi];exact hk.2.1, ?_⟩;have:=hk.2.2;unfold tokf at this ⊢;rw[h.get i hi];exact this
theorem R.slot (hr:R c G s a w){t:Nat}{x:AV} (h:RelA G (tokf s.hp) w x (a.tmps.getD t undef)):R c G ⟨(t,x)::s.env,s.hp⟩ a w:=by
 refine⟨hr.size,hr.defers,fun i v hi=>?_,hr.heap,hr.disj,hr.new,hr.frm,hr.top,hr.kept⟩;simp only[getE] at hi;cases hb:Nat.beq t i with
 |true=>
  have:=xap hb;subst this;simp only[hb,cond_true,xae] at hi;subst hi;exact h
 |false=>
  simp only[hb,cond_false] at hi;exact hr.slots i v hi
end
def ownD (m:Bool):D->AV
 | .int k n=> .d (.int k n)
 | .bool b=> .d (.bool b)
 | .str s=> .d (.str s)
 |x=> .own m x
def zbQ (m:Bool) (xs:List (List D)):List AV:=xs.flatten.map (ownD m)
theorem zvY (m:Bool) (x:D):(ownD m x).ids=[]:=by cases x<;>rfl
theorem zaa (m:Bool) (xs:List (List D)):AV.idsL (zbQ m xs)=[]:=by
 unfold zbQ;generalize xs.flatten=l;induction l with
 |nil=>rfl
 |cons x l ih=>simp[AV.idsL,zvY,ih]
theorem zfX {m:Bool}{xs:List (List D)}{k:Nat} (hk:∀x,x∈xs->x.length=k):(zbQ m xs).length=xs.length*k:=by
 unfold zbQ;rw[xac,zeF hk]
theorem zlZ {m:Bool}{xs:List (List D)}{k i j:Nat} (hk:∀x,x∈xs->x.length=k) (hi:i<xs.length) (hj:j<xs[i].length):
  (zbQ m xs)[i*k+j]?=some (ownD m xs[i][j]):=by
 have hjk:j<k:=by rw[<-hk _ (xao hi)];exact hj
 have:=zie (xs:=xs) hk hi hjk;simp only[zbQ,List.getElem?_map] at this ⊢;revert this
 cases xs.flatten[i*k+j]? with
 |none=>simp
 |some y=>intro h;simp only[Option.map_some,xae,AV.d.injEq] at h;simp[h]
theorem CellR.ofTree {G:Gh}{T:TokF}{m:Bool}{w:World}{x:D}{v:Value}{S:List Nat} (h:TreeD m w x v S):CellR G T w (ownD m x) v S:=by
 cases h with
 |int k n=>exact⟨rfl,.d (.int _ _)⟩
 |bool b=>exact⟨rfl,.d (.bool _)⟩
 |str s=>exact⟨rfl,.d (.str _)⟩
 |nil=>exact TreeD.nil
 |emp b off s cap hm=>exact TreeD.emp b off s cap hm
 |em0 b off cap hm=>exact TreeD.em0 b off cap hm
 |sl xs k b cap cs e Ss hk hcap hb hc hr hz=>exact TreeD.sl xs k b cap cs e Ss hk hcap hb hc hr hz
def zfP:D->Bool
 | .int _ _=>true
 | .bool _=>true
 | .str _=>true
 | .sl []=>true
 |_=>false
theorem TreeD.ofFlat {m:Bool}{F:Nat->Nat}{w:World}{x:D}{v:Value} (hf:zfP x=true) (hm:m=false\/x≠ .sl []) (h:RelD F w x v):TreeD m w x v []:=by
 cases h with
 |int k n=>exact .int _ _
 |bool b=>exact .bool _
 |str s=>exact .str _
 |nil=>exact .nil
 |emp b off s cap=>exact .emp b off s cap (hm.resolve_right (fun h=>h Z))
 |sl xs k b off cap c hk hcap hc hr=>
  cases xs with
  |nil=>exact .em0 b off cap (hm.resolve_right (fun h=>h Z))
  |cons x r=>simp[zfP] at hf
 |ptr cs b o off c hc hr=>simp[zfP] at hf
 |nilp=>simp[zfP] at hf
theorem TreeD.weak {m:Bool}{w:World}{x:D}{v:Value}{S:List Nat} (h:TreeD m w x v S):TreeD false w x v S:=by
 induction h with
 |int k n=>exact .int _ _
 |bool b=>exact .bool _
 |str s=>exact .str _
 |nil=>exact .nil
 |emp b off s cap _=>exact .emp b off s cap Z
 |em0 b off cap _=>exact .em0 b off cap Z
 |sl xs k b cap cs e Ss hk hcap hb hc hr hz ih=>
  refine .sl xs k b cap cs e Ss hk hcap hb ?_ ih (fun h=>by cases h);refine Nat.le_trans (xav _ ?_) hc;cases m
  ·exact Nat.le_refl _
  ·exact hcap
def TreeOf (m:Bool) (w:World) (xs:List (List D)) (k:Nat) (vs:Array Value) (Ss:Nat->List Nat):Prop:=
 ∀i (hi:i<xs.length) j (hj:j<xs[i].length),TreeD m w xs[i][j] (vs.getD (i*k+j) undef) (Ss (i*k+j))
theorem zpf {i n k:Nat} (h:i<n*k):i / k<n/\i % k<k/\i / k*k+i % k=i:=by
 have hk:0<k:=by
  rcases Nat.eq_zero_or_pos k with h0|h0
  ·subst h0;simp at h
  ·exact h0
 exact⟨Nat.div_lt_of_lt_mul (by rw[Nat.mul_comm];exact h),Nat.mod_lt _ hk,Nat.div_add_mod' _ _⟩
theorem zll {vs:Array Value}{i:Nat} (h:i<vs.size):vs.getD i undef=vs[i]:=by simp[Array.getD,h]
theorem TreeOf.cells {G:Gh}{T:TokF}{m:Bool}{w:World}{xs:List (List D)}{k:Nat}{vs:Array Value}{Ss:Nat->List Nat} (h:TreeOf m w xs k vs Ss) (hk:∀x,x∈xs->x.length=k):
  ∀i (hi:i<(zbQ m xs).length) (hv:i<vs.size),CellR G T w (zbQ m xs)[i] vs[i] (Ss i):=by
 intro i hi hv;rw[zfX hk] at hi;obtain⟨h1,h2,h3⟩:=zpf hi;have hj:i % k<xs[i / k].length:=by rw[hk _ (xao h1)];exact h2
 have h4:=h (i / k) h1 (i % k) hj;have h5:=zlZ (m:=m) hk h1 hj;rw[h3] at h4 h5;rw[xan (by rw[zfX hk];exact hi)] at h5;rw[zll hv] at h4;rw[Option.some.inj h5];exact .ofTree h4
theorem zg2 {Ss Ss':Nat->List Nat}:∀ {l:List Nat},(l.flatMap Ss).Nodup->(∀i,i∈l->(Ss' i).Sublist (Ss i))->((l.flatMap Ss').Sublist (l.flatMap Ss))
 | [],_,_=> .slnil
 |x::l,h,hs=>by
  simp only[List.flatMap_cons] at h ⊢;exact(hs x oi).append (zg2 (List.nodup_append.1 h).2.1 (fun i hi=>hs i (by simp[hi])))
theorem zjX {Ss:Nat->List Nat}:∀ {l:List Nat} (hl:l.Nodup),(l.flatMap Ss).Nodup->∀i j,i∈l->j∈l->i≠j->∀b,b∈Ss i->b∉Ss j
 | [],_,_,i,j,hi,_,_=>by simp at hi
 |x::l,hl,h,i,j,hi,hj,hne=>by
  simp only[List.flatMap_cons,List.nodup_append,List.mem_flatMap] at h;obtain⟨h1,h2,h3⟩:=h;intro b hb hbj;rcases List.mem_cons.1 hi with e1|e1
  ·rcases List.mem_cons.1 hj with e2|e2
   ·exact hne (e1.trans e2.symm)
   ·exact h3 b (e1 ▸ hb) b ⟨j,e2,hbj⟩ Z
  ·rcases List.mem_cons.1 hj with e2|e2
   ·exact h3 b (e2 ▸ hbj) b ⟨i,e1,hb⟩ Z
   ·exact zjX (List.nodup_cons.1 hl).2 h2 i j e1 e2 hne b hb hbj
theorem znJ {Ss:Nat->List Nat}:∀ {l:List Nat},(l.flatMap Ss).Nodup->∀i,i∈l->(Ss i).Nodup
 |x::l,h,i,hi=>by
  simp only[List.flatMap_cons,List.nodup_append] at h;rcases List.mem_cons.1 hi with rfl|hi
  ·exact h.1
  ·exact znJ h.2.1 i hi
section
variable {c:Ctx}{env:Env}{hp:Hp}{K:Kt}{code:Code}{ids:List Nat}
theorem zeB {i j:Nat} (h:i≠j):Nat.beq i j=false:=by
 cases hb:Nat.beq i j with
 |true=>exact absurd (xap hb) h
 |false=>rfl
theorem R.split {G:Gh}{a:Act}{w:World} (hr:R c G ⟨env,hp⟩ a w){id off id':Nat}{m:Bool}{xs:List (List D)}{cs cs':List AV} (hb:getH hp id=some (.tree cs)) (hc:cs[off]?=some (.own m (.sl xs))) (hx:xs≠[])
  (hf:zam env hp [id']=true) (hput:putC cs off [.ms id' xs.length]=some cs'):∃G',R c G' ⟨env,(id',some (.tree (zbQ m xs)))::(id,some (.tree cs'))::hp⟩ a w:=by
 obtain⟨h0,hocc⟩:=zbD hf id' oi;obtain⟨b,vs,e,Ss,hT⟩:=hr.heap id _ hb;obtain⟨hoff,hcv⟩:=List.getElem?_eq_some_iff.1 hc;have hov:off<vs.size:=by have:=hT.len;omega
 have hcell:=hT.cell off hoff hov;rw[hcv] at hcell;have hne:id≠id':=fun e=>by subst e;have h0':getH hp id=none:=h0;rw[h0'] at hb;cases hb
 obtain⟨p1,p2,p3⟩:=zdi hput;have hTD:TreeD m w (.sl xs) vs[off] (Ss off):=hcell;generalize hv:vs[off]=v at hTD;generalize hSo:Ss off=So at hTD;cases hTD with
 |nil=>exact absurd Z hx
 |emp _ _ _ _ _=>exact absurd Z hx
 |em0 _ _ _ _=>exact absurd Z hx
 |sl _ k b1 cap cs1 e1 Ss1 hk hcap hb1 hc1 hr1 hz1=>
  let Ss':Nat->List Nat:=fun i=>if i=off then [] else Ss i
  let G':Gh:={ G with loc:=fun i=>bif Nat.beq i id' then Ss off else bif Nat.beq i id then b::(List.range cs'.length).flatMap Ss' else G.loc i }
  have l1:G'.loc id'=Ss off:=by simp[G']
  have l2:G'.loc id=b::(List.range cs'.length).flatMap Ss':=by simp[G',zeB hne]
  have l3:∀i,i≠id'->i≠id->G'.loc i=G.loc i:=fun i h1 h2=>by simp[G',zeB h1,zeB h2]
  have hnd:=hT.nodup;rw[hT.loc] at hnd;have hnd':=List.nodup_cons.1 hnd;have hsubS:∀x,x∈Ss off->x∈G.loc id:=fun x hx=>by
   rw[hT.loc];exact List.mem_cons_of_mem _ (List.mem_flatMap.2 ⟨off,List.mem_range.2 hoff,hx⟩)
  have hsubl:((List.range cs'.length).flatMap Ss').Sublist ((List.range cs.length).flatMap Ss):=by
   rw[p1];refine zg2 hnd'.2 (fun i hi=>?_);simp only[Ss'];split
   ·exact List.nil_sublist _
   ·exact List.Sublist.refl _
  have hsub2:∀x,x∈G'.loc id->x∈G.loc id:=fun x hx=>by
   rw[l2] at hx;rw[hT.loc];rcases List.mem_cons.1 hx with h|h
   ·simp[h]
   ·exact List.mem_cons_of_mem _ (hsubl.subset h)
  have g1:getH ((id',some (Res.tree (zbQ m xs)))::(id,some (.tree cs'))::hp) id'=some (.tree (zbQ m xs)):=by rw[zal,if_pos rfl]
  have g2:getH ((id',some (Res.tree (zbQ m xs)))::(id,some (.tree cs'))::hp) id=some (.tree cs'):=by rw[zal,if_neg hne,zal,if_pos rfl]
  have hturn:Turn c G ⟨env,hp⟩ w G' ((id',some (.tree (zbQ m xs)))::(id,some (.tree cs'))::hp) [id,id']:=by
   refine⟨fun i hi=>?_,fun i hi=>?_,fun _ _=>rfl,fun _ _ h=>h,hr.top,fun i hi=>?_,fun i hi hs x hx=>?_,fun i hi j hj hij _ _ x hx=>?_,fun i hi l hl=>?_⟩
   ·simp only[List.mem_cons,xau,or_false,not_or] at hi;rw[zal,if_neg hi.2,zal,if_neg hi.1]
   ·simp only[List.mem_cons,xau,or_false,not_or] at hi;exact l3 i hi.2 hi.1
   ·simp only[List.mem_cons,xau,or_false] at hi;rcases hi with rfl|rfl
    ·right
     have ht:tokf ((id',some (Res.tree (zbQ m xs)))::(i,some (.tree cs'))::hp) i=none:=by unfold tokf;rw[g2]
     refine⟨.inr ⟨ht,by rw[l2,hT.loc];rfl⟩,fun p hp=>by rw[ht] at hp;cases hp⟩
    ·exact .inl hocc
   ·simp only[List.mem_cons,xau,or_false] at hi;have hs':(getH hp id).isSome:=by rw[hb];rfl
    rcases hi with rfl|rfl
    ·exact⟨i,by simp,hs',hsub2 x hx⟩
    ·rw[l1] at hx;exact⟨id,by simp,hs',hsubS x hx⟩
   ·simp only[List.mem_cons,xau,or_false] at hi hj;have key:∀x,x∈Ss off->x∉G'.loc id:=by
     intro x hx hx2;rw[l2] at hx2;rcases List.mem_cons.1 hx2 with h|h
     ·exact hnd'.1 (List.mem_flatMap.2 ⟨off,List.mem_range.2 hoff,h ▸ hx⟩)
     ·obtain⟨j,hj,hxj⟩:=List.mem_flatMap.1 h;simp only[Ss'] at hxj;split at hxj
      ·simp at hxj
      ·rename_i hjo;exact zjX List.nodup_range hnd'.2 off j (List.mem_range.2 hoff) (by rw[p1] at hj;exact hj) (Ne.symm hjo) x hx hxj
    rcases hi with rfl|rfl<;>rcases hj with rfl|rfl
    ·exact absurd Z hij
    ·rw[l1];exact fun h=>key x h hx
    ·rw[l1] at hx;exact key x hx
    ·exact absurd Z hij
   ·simp only[List.mem_cons,xau,or_false] at hi;have hk0:=hr.kept i l hl;rcases hi with rfl|rfl
    ·refine⟨?_,by rw[g2];rfl,by unfold tokf;rw[g2]⟩;rw[l2,<-hk0.1,hT.loc];rfl
    ·have h0':getH hp i=none:=h0;have:=hk0.2.1;rw[show(⟨env,hp⟩:St).hp=hp from rfl,h0'] at this;cases this
  refine⟨G',hturn.fin hr (fun i hi r hri=>?_)⟩;simp only[List.mem_cons,xau,or_false] at hi;rcases hi with rfl|rfl
  ·rw[g2] at hri;cases hri
   refine⟨b,vs,e,Ss',l2,hT.at_,by rw[p1];exact hT.len, ?_,fun x hx=>hT.mine x (hsub2 x hx),fun j hj hjv=>?_⟩
   ·rw[l2];exact List.nodup_cons.2 ⟨fun h=>hnd'.1 (hsubl.subset h),hsubl.nodup hnd'.2⟩
   ·have h3:=p3 j;rw[xan hj] at h3;by_cases hjo:j=off
    ·subst hjo;rw[if_pos oi] at h3;simp only[Nat.sub_self,List.getElem?_cons_zero,xae] at h3;rw[h3,hv];refine⟨by simp[Ss'],.ms (b:=b1) ?_ ?_ hcap⟩
     ·rw[l1,hSo];rfl
     ·unfold tokf;rw[g1]
    ·rw[if_neg (by simp only[xab,xak];omega)] at h3;have hjc:j<cs.length:=by omega
     rw[xan hjc] at h3;rw[Option.some.inj h3];have h4:=hT.cell j hjc hjv;have h5:Ss' j=Ss j:=by simp[Ss',hjo]
     rw[h5];exact h4.map (hturn.cell hr hb (xao hjc)) (fun _ _=>rfl)
  ·rw[g1] at hri;cases hri
   have hlen:(zbQ m xs).length=xs.length*k:=zfX hk;have hle:xs.length*k<=cs1.size:=by
    refine Nat.le_trans (xav _ ?_) hc1;cases m
    ·exact Nat.le_refl _
    ·exact hcap
   refine⟨b1,cs1,e1,Ss1,by rw[l1,hSo,hlen],hb1,by rw[hlen];exact hle, ?_,fun x hx=>?_,TreeOf.cells hr1 hk⟩
   ·rw[l1];exact znJ hnd'.2 off (List.mem_range.2 hoff)
   ·rw[l1] at hx;exact hT.mine x (hsubS x hx)
theorem CWp.split (id off id':Nat){m:Bool}{xs:List (List D)}{cs cs':List AV} (hb:getH hp id=some (.tree cs)) (hc:cs[off]?=some (.own m (.sl xs))) (hx:xs≠[])
  (hf:zam env hp [id']=true) (hput:putC cs off [.ms id' xs.length]=some cs')
  (hn:CWp c code ⟨env,(id',some (.tree (zbQ m xs)))::(id,some (.tree cs'))::hp⟩ K):CWp c code ⟨env,hp⟩ K:=by
 rintro a w ⟨G,hr⟩
 obtain⟨G',h⟩:=hr.split hb hc hx hf hput;exact hn a w ⟨G',h⟩
def upC (m:Bool):AV->AV
 | .d (.sl [])=> .own m (.sl [])
 | .nils=> .own m (.sl [])
 |x=>x
end
section
variable {c:Ctx}{all:Array Oper}{chk:List Rec->Prop}{os:List Oper}{recs:List Rec}{env:Env}{hp:Hp}{Q:St->Prop}
variable {d ty:Nat}{pos:String}{af:Array Edge}{g:Option (Nat×Bool)}{pg:List (Nat×AV)}
variable {t k id off:Nat}{x y:Operand}
theorem TreeR.head {G:Gh}{T:TokF}{w:World}{id:Nat}{cs:List AV}{b b':Nat}{vs:Array Value}{e:TypeId}{Ss:Nat->List Nat} (h:TreeR G T w id cs b vs e Ss) (h2:(G.loc id).head?=some b'):b'=b:=by
 rw[h.loc] at h2;exact(Option.some.inj h2).symm
end
def zcb:AV->Bool
 | .d x=>zfP x
 | .nils=>true
 | .ref _ _=>true
 | .ms _ _=>true
 | .gt _ _=>true
 | .tup vs=>flatL vs
 | .agg vs=>flatL vs
 | .any=>true
 |_=>false
where flatL:List AV->Bool
 | []=>true
 |x::r=>zcb x&&flatL r
theorem zma:∀ {l:List AV},zcb.flatL l=true->∀i (hi:i<l.length),zcb l[i]=true
 |x::r,h,i,hi=>by
  simp only[zcb.flatL,xad] at h;cases i with
  |zero=>exact h.1
  |succ i=>exact zma h.2 i (by simpa using hi)
theorem RelD.flat {F F':Nat->Nat}{w w':World}{x:D}{v:Value} (hf:zfP x=true) (h:RelD F w x v):RelD F' w' x v:=by
 cases h with
 |int k n=>exact .int _ _
 |bool b=>exact .bool _
 |str s=>exact .str _
 |nil=>exact .nil
 |emp b off s cap=>exact .emp b off s cap
 |sl xs k b off cap c hk hcap hc hr=>
  cases xs with
  |nil=>exact .sl [] k b off cap c hk hcap (fun n hn=>by simp at hn) (fun i hi=>by simp at hi)
  |cons x r=>simp[zfP] at hf
 |ptr cs b o off c hc hr=>simp[zfP] at hf
 |nilp=>simp[zfP] at hf
theorem RelA.flat {G G':Gh}{T:TokF}{w:World}{x:AV}{v:Value} (h:RelA G T w x v):zcb x=true->(∀id,id∈x.ids->G'.loc id=G.loc id)->(∀id,id∈x.ids->∀b,b∈G.loc id->G'.F b=G.F b)->RelA G' T w x v:=by
 induction h with
 |d h=>intro hf _ _;exact .d (h.flat hf)
 |gl h ht=>intro hf;simp[zcb] at hf
 |gv hv ht=>intro hf;simp[zcb] at hf
 | @gt id xs v hv ht=>
  intro hf hl hF;refine .gt hv (fun n k hT=>⟨(ht n k hT).1,fun hn=>?_⟩);obtain⟨h1,h2⟩:=(ht n k hT).2 hn;exact⟨h1,h2.mono hn h1 (hl id o0) (fun b hb=>⟨rfl,hF id o0 b hb⟩)⟩
 |ref h hT=>intro hf hl _;exact .ref (by rw[hl _ o0];exact h) hT
 |ms h hT hcap=>intro hf hl _;exact .ms (by rw[hl _ o0];exact h) hT hcap
 |mo h hT hcap ho=>intro hf;simp[zcb] at hf
 |mc h hT hcap=>intro hf;simp[zcb] at hf
 |gaD hv hT=>intro hf;simp[zcb] at hf
 |gaL hj hT hl hF hb hck hn hcs hr ih=>intro hf;simp[zcb] at hf
 |mapr h hT=>intro hf;simp[zcb] at hf
 |fn hn h ih=>intro hf;simp[zcb] at hf
 | @agg cs vs hn h ih=>
  intro hf hl hF;simp only[zcb] at hf;exact .agg hn (fun i hi hv=>ih i hi hv (zma hf i hi) (fun id hid=>hl id (by simp only[AV.ids];exact xay (xao hi) hid)) (fun id hid=>hF id (by simp only[AV.ids];exact xay (xao hi) hid)))
 | @tup cs vs hn h ih=>
  intro hf hl hF;simp only[zcb] at hf;exact .tup hn (fun i hi hv=>ih i hi hv (zma hf i hi) (fun id hid=>hl id (by simp only[AV.ids];exact xay (xao hi) hid)) (fun id hid=>hF id (by simp only[AV.ids];exact xay (xao hi) hid)))
 |nils=>intro _ _ _;exact .nils
 |sn h hn=>intro hf;simp[zcb] at hf
 |any v=>intro _ _ _;exact .any v
mutual
inductive Lent (lr:List (Nat×Res)):AV->AV->Prop
 |le {x y} (h:LeA x y):Lent lr x y
 |ms {id n m k}{xs:List (List D)} (hb:(id,.tree (zbQ m xs))∈lr) (hk:∀x,x∈xs->x.length=k) (hn:n=xs.length):Lent lr (.ms id n) (.d (.sl xs))
 |msB {id n k}{cs:List AV}{xs:List (List D)} (hb:(id,.box cs)∈lr) (hk:∀x,x∈xs->x.length=k) (hn:n=xs.length) (hc:cs.take (n*k)=xs.flatten.map .d):Lent lr (.ms id n) (.d (.sl xs))
 |agg {cs ds} (h:LentL lr cs ds):Lent lr (.agg cs) (.agg ds)
inductive LentL (lr:List (Nat×Res)):List AV->List AV->Prop
 |nil:LentL lr [] []
 |cons {x y l m} (h:Lent lr x y) (t:LentL lr l m):LentL lr (x::l) (y::m)
end
theorem LentL.len {lr:List (Nat×Res)}:∀ {cs ds:List AV},LentL lr cs ds->cs.length=ds.length
 | [],_,h=>by cases h;rfl
 |x::r,_,h=>by cases h with|cons h t=>simp[t.len]
theorem LentL.at {lr:List (Nat×Res)}:∀ {cs ds:List AV},LentL lr cs ds->∀i (hi:i<cs.length) (hj:i<ds.length),Lent lr cs[i] ds[i]
 | [],_,_,i,hi,_=>by simp at hi
 |x::r,_,h,i,hi,hj=>by
  cases h with
  |cons h t=>
   cases i with
   |zero=>exact h
   |succ i=>exact LentL.at t i (by simpa using hi) (by simpa using hj)
def zgy (G:Gh) (lr:List (Nat×Res)) (b:Nat):Bool:=lr.any fun p=>zaT b (G.loc p.1)
theorem zkD {G:Gh}{lr:List (Nat×Res)}{b:Nat}:zgy G lr b=true↔∃p,p∈lr/\b∈G.loc p.1:=by
 simp only[zgy,List.any_eq_true,zaM]
def zfx:List (Nat×Res)->Bool
 | []=>true
 |(_,.tree _)::r=>zfx r
 |(_,.box _)::r=>zfx r
 |_=>false
theorem zjk:∀ {lr:List (Nat×Res)},zfx lr=true->∀p,p∈lr->(∃cs,p.2 = .tree cs)\/∃cs,p.2 = .box cs
 |(i,.tree cs)::r,h,p,hp=>by
  rcases List.mem_cons.1 hp with rfl|hp
  ·exact .inl ⟨cs,Z⟩
  ·exact zjk (lr:=r) h p hp
 |(i,.box cs)::r,h,p,hp=>by
  rcases List.mem_cons.1 hp with rfl|hp
  ·exact .inr ⟨cs,Z⟩
  ·exact zjk (lr:=r) h p hp
def zew (G:Gh) (w:World) (lr:List (Nat×Res)):Gh:={ G with F:=fun b=>bif zgy G lr b then szB w b else G.F b }
section
variable {c:Ctx}{G:Gh}{s:St}{a:Act}{w:World}{lr:List (Nat×Res)}
theorem zig (hr:R c G s a w) (hh:∀p,p∈lr->getH s.hp p.1=some p.2) (hall:zfx lr=true){b:Nat} (hb:zgy G lr b=true):G.F b=0/\b<w.heap.size:=by
 obtain⟨p,hp,hbp⟩:=zkD.1 hb;have:=hr.heap p.1 _ (hh p hp);rcases zjk hall p hp with ⟨cs,hcs⟩|⟨cs,hcs⟩
 ·rw[hcs] at this;obtain⟨b',vs,e,Ss,hT⟩:=this;exact hT.mine b hbp
 ·rw[hcs] at this;have hbd:=this.bound b hbp;obtain⟨b',vs,e,h1,h2,h3,h4,h5⟩:=this;rw[h1,List.mem_singleton] at hbp;subst hbp;exact⟨h4,hbd⟩
theorem zru (hr:R c G s a w) (hh:∀p,p∈lr->getH s.hp p.1=some p.2) (hall:zfx lr=true):∀b o,o<G.F b->o<(zew G w lr).F b/\w.cell? ⟨b,o,none⟩=w.cell? ⟨b,o,none⟩:=by
 intro b o ho;refine⟨?_,rfl⟩;simp only[zew];cases hb:zgy G lr b with
 |true=>rw[(zig hr hh hall hb).1] at ho;omega
 |false=>exact ho
theorem zvU (hr:R c G s a w) (hh:∀p,p∈lr->getH s.hp p.1=some p.2) (hall:zfx lr=true){x:AV}{v:Value} (hR:RelA G (tokf s.hp) w x v):
  ∀ {y:AV},Lent lr x y->RelA (zew G w lr) (fun _=>none) w y v:=by
 have base:∀ {x:AV}{v:Value},RelA G (tokf s.hp) w x v->RelA (zew G w lr) (fun _=>none) w x v:=fun h=>
  h.mono (zru hr hh hall) (fun _ _=> .inl rfl) (fun _ _ p hp=>by cases hp)
 induction hR with
 | @ms id n b cap h hT hcap=>
  intro y hy;cases hy with
  |le h=>exact(base (.ms ol hT hcap)).le h
  | @ms _ _ m k xs hb hk hn=>
   subst hn;obtain⟨b',vs,e,Ss,hTr⟩:=hr.heap id _ (hh _ hb);obtain rfl:=hTr.head h;have hlen:(zbQ m xs).length=xs.length*k:=zfX hk;have hle:xs.length*k<=vs.size:=by have:=hTr.len;omega
   have hS:∀x,x∈G.loc id->szB w x<=(zew G w lr).F x:=fun x hx=>by
    simp only[zew,zkD.2 ⟨_,hb,hx⟩,cond_true];exact Nat.le_refl _
   have hbl:b∈G.loc id:=by rw[hTr.loc];simp
   have hsz:szB w b=vs.size:=by simp[szB,hTr.at_]
   refine .d (.sl xs k b 0 cap (fun n=>vs.getD n undef) hk hcap (fun n hn=>⟨by have:=hS b hbl;omega, ?_⟩) (fun i hi j hj=>?_))
   ·have:n<vs.size:=by omega
    simp[World.cell?,hTr.at_,this]
   ·have hjk:j<k:=by rw[<-hk _ (xao hi)];exact hj
    have hlt:i*k+j<(zbQ m xs).length:=by rw[hlen];exact zhs hi hjk
    have hlv:i*k+j<vs.size:=Nat.lt_of_lt_of_le hlt hTr.len;have h1:=hTr.cell (i*k+j) hlt hlv;have h2:=zlZ (m:=m) hk hi hj;rw[xan hlt] at h2;rw[Option.some.inj h2] at h1;rw[zll hlv];have hsub:∀x,x∈Ss (i*k+j)->x∈G.loc id:=fun x hx=>by
     rw[hTr.loc];exact List.mem_cons_of_mem _ (List.mem_flatMap.2 ⟨_,List.mem_range.2 hlt,hx⟩)
    have tr:∀ {y:D}{u:Value},TreeD m w y u (Ss (i*k+j))->RelD (zew G w lr).F w y u:=fun h=>h.toD (fun x hx=>hS x (hsub x hx));have pl:∀ {y:D}{u:Value},zfP y=true->RelA G (tokf s.hp) w (.d y) u->RelD (zew G w lr).F w y u:=fun hf h=>h.d_inv.flat hf;generalize xs[i][j]=y at h1;cases y with
    |int kd q=>exact pl Z h1.2
    |bool q=>exact pl Z h1.2
    |str q=>exact pl Z h1.2
    |sl ys=>exact tr h1
    |ptr q r=>exact tr h1
    |nilp=>exact tr h1
  | @msB _ _ k cs xs hb hk hn hc=>
   subst hn;obtain⟨b',vs,e,h1,h2,h3,h4,h5⟩:=hr.heap id _ (hh _ hb);obtain rfl:=zcD h h1;have hlen:(xs.flatten.map AV.d).length=xs.length*k:=by rw[xac,zeF hk]
   have hlc:xs.length*k<=cs.length:=by
    have:=xam List.length hc;rw[List.length_take,hlen] at this;omega
   have hsz:szB w b=vs.size:=by simp[szB,h2]
   have hF:(zew G w lr).F b=vs.size:=by
    simp only[zew,zkD.2 ⟨_,hb,(show b∈G.loc id by rw[h1];simp)⟩,cond_true];exact hsz
   refine .d (.sl xs k b 0 cap (fun n=>vs.getD n undef) hk hcap (fun n hn=>⟨by rw[hF];omega, ?_⟩) (fun i hi j hj=>?_))
   ·have:n<vs.size:=by omega
    simp[World.cell?,h2,this]
   ·have hjk:j<k:=by rw[<-hk _ (xao hi)];exact hj
    have hq:i*k+j<xs.length*k:=zhs hi hjk;have hcs:i*k+j<cs.length:=by omega
    have hus:i*k+j<vs.size:=by omega
    have h9:=h5 (i*k+j) hcs hus;have e9:cs[i*k+j]?=some (.d (xs[i][j]'hj)):=by
     have:=zie hk hi hjk;rw[<-hc,List.getElem?_take_of_lt hq] at this;exact this
    rw[xan hcs] at e9;rw[Option.some.inj e9] at h9;rw[zll hus];exact h9.d_inv.mono (zru hr hh hall)
 | @agg cs vs hn h ih=>
  intro y hy;cases hy with
  |le hle=>exact(base (.agg hn h)).le hle
  |agg hl=>
   refine .agg (by rw[hn,hl.len]) (fun i hi hv=>?_);have hc:i<cs.length:=by rw[hl.len];exact hi
   exact ih i hc hv (hl.at i hc hi)
 |d h=>intro y hy;cases hy with|le hle=>exact(base (.d h)).le hle
 |gl h ht=>intro y hy;cases hy with|le hle=>exact(base (.gl h ht)).le hle
 |gv h ht=>intro y hy;cases hy with|le hle=>exact(base (.gv h ht)).le hle
 |gt h ht=>intro y hy;cases hy with|le hle=>exact(base (.gt h ht)).le hle
 |ref h ht=>intro y hy;cases hy with|le hle=>exact(base (.ref h ht)).le hle
 |mo h hT hc ho=>intro y hy;cases hy with|le hle=>exact(base (.mo h hT hc ho)).le hle
 |mc h hT hc=>intro y hy;cases hy with|le hle=>exact(base (.mc h hT hc)).le hle
 |gaD hv hT=>intro y hy;cases hy with|le hle=>exact(base (.gaD hv hT)).le hle
 |gaL hj hT hl hF hb hck hn hcs hr ih=>intro y hy;cases hy with|le hle=>exact(base (.gaL hj hT hl hF hb hck hn hcs hr)).le hle
 |mapr h ht=>intro y hy;cases hy with|le hle=>exact(base (.mapr h ht)).le hle
 |fn hn h ih=>intro y hy;cases hy with|le hle=>exact(base (.fn hn h)).le hle
 |tup hn h ih=>intro y hy;cases hy with|le hle=>exact(base (.tup hn h)).le hle
 |nils=>intro y hy;cases hy with|le hle=>exact(base .nils).le hle
 |sn h hn=>intro y hy;cases hy with|le hle=>exact(base (.sn h hn)).le hle
 |any v=>intro y hy;cases hy with|le hle=>exact(base (.any v)).le hle
def zqr:Res->Bool
 | .tok _ _=>true
 | .tree cs=>cs.all (fun x=>match x with | .own _ _=>true|x=>zcb x)&&(AV.idsL cs).isEmpty
 |_=>false
def zfh (hp0:Hp) (r:AV) (cr:List Nat):Bool:=match hp0 with
 | []=>zcb r&&r.ids.isEmpty
 | [(id,some x)]=>zaT id cr&&zcb r&&subB r.ids [id]&&zqr x
 |_=>false
theorem zuQ (hr:R c G s a w) (hh:∀p,p∈lr->getH s.hp p.1=some p.2) (hall:zfx lr=true){f:FuncId}{vs avs:List AV}{Post:AV->Hp->Prop}{vals:Array Value} (hf:Fn c.P f avs [] Post)
  (hargs:AllR G (tokf s.hp) w vs vals) (hl:LentL lr vs avs) (cr:List Nat) (hcr:∀id,id∈cr->getH s.hp id=none/\zcW id s):
  Calls c.P f vals w fun e w'=>∃v r hp0,e = .returned v/\Post r hp0/\(zfh hp0 r cr=true->
   ∃G',R c G' { s with hp:=hp0++s.hp } a w'/\RelA G' (tokf (hp0++s.hp)) w' r v):=by
 have hTn:tokf []=fun _=>none:=by funext i;rfl
 have hok:HOK (zew G w lr) w [] avs vals:=by
  refine⟨⟨by rw[hargs.size,hl.len],fun i hi hv=>?_⟩,fun id r h=>(by cases h),fun id id' h1=>(by cases h1),fun b hb=>?_⟩
  ·have hc:i<vs.length:=by rw[hl.len];exact hi
   rw[hTn];exact zvU hr hh hall (hargs.rel i hc hv) (hl.at i hc hi)
  ·simp only[zew];cases hb':zgy G lr b with
   |true=>have:=(zig hr hh hall hb').2;omega
   |false=>exact hr.top b hb
 refine(hf _ w vals hok).mono ?_;rintro e w' ⟨v,r,hp0,G',rfl,hP,hret⟩
 refine⟨v,r,hp0,rfl,hP,fun hchk=>?_⟩;have hown:∀b,b∉zcQ (zew G w lr) []:=fun b hb=>by simp[zcQ] at hb
 have hnew:∀id,(getH (hp0++[]) id).isSome->∀b,b∈G'.loc id->w.heap.size<=b:=fun id h b hb=>(hret.new id h b hb).resolve_left (hown b);let F2:Nat->Nat:=fun b=>bif zgy G lr b then 0 else G'.F b
 have hnl:∀b,w.heap.size<=b->zgy G lr b=false:=fun b hb=>by
  cases hb':zgy G lr b with
  |true=>have:=(zig hr hh hall hb').2;omega
  |false=>rfl
 have hr2:R c ⟨F2,G.loc⟩ s a w':=by
  refine hr.grow (fun b hb=>?_) Z hret.frm.os hret.frm.tape hret.frm.output hret.frm.size (fun b hb=>?_)
  ·obtain⟨h1,h2⟩:=hret.frm.block b hb (hown b);refine⟨h1, ?_⟩;simp only[F2];cases hb':zgy G lr b with
   |true=>exact(zig hr hh hall hb').1.symm
   |false=>simp only[cond_false,h2,zew,hb']
  ·have:=hret.frm.size;simp only[F2,hnl b od,cond_false];exact hret.top b hb
 match hp0,hchk,hret,hnew,hP with
 | [],hchk,hret,hnew,hP=>
  simp only[zfh,xad,List.isEmpty_iff] at hchk;refine⟨_,hr2, ?_⟩;have hi:∀id,id∈r.ids->False:=fun id hid=>by rw[hchk.2] at hid;simp at hid
  exact(hret.res.flat (G':=⟨F2,G'.loc⟩) hchk.1 (fun _ _=>rfl) (fun id hid=>(hi id hid).elim)).mono (fun _ _ ho=>⟨ho,rfl⟩) (fun id hid=>(hi id hid).elim) (fun id hid=>(hi id hid).elim)
 | [(id,some x)],hchk,hret,hnew,hP=>
  simp only[zfh,xad] at hchk;obtain⟨⟨⟨k1,k2⟩,k3⟩,k4⟩:=hchk;obtain⟨h0,hocc⟩:=hcr id (zaM.1 k1);have hid:(getH ([(id,some x)]++[]) id).isSome:=by simp[getH]
  have hr3:=hr2.rename h0 hocc (G'.loc id);let G3:Gh:={ F:=F2,loc:=fun i=>bif Nat.beq i id then G'.loc id else G.loc i }
  have l1:G3.loc id=G'.loc id:=by simp[G3]
  have l3:∀i,i≠id->G3.loc i=G.loc i:=fun i h2=>by simp[G3,zeB h2]
  have hFid:∀b,b∈G'.loc id->F2 b=G'.F b:=fun b hb=>by simp only[F2,hnl b (hnew id hid b hb),cond_false]
  have hx:=hret.heap id x (by simp[getH]);have hxr:RelR G3 (tokf ((id,some x)::s.hp)) w' id x:=by
   cases x with
   |tok n k=>exact fun b hb=>by rw[l1] at hb;exact hx b hb
   |tree cs=>
    simp only[zqr,xad,List.isEmpty_iff] at k4;obtain⟨b,us,e,Ss,hT⟩:=hx;refine⟨b,us,e,Ss,l1.trans hT.loc,hT.at_,hT.len,by rw[l1];exact hT.nodup,fun b' hb'=>?_,fun i hi hv=>?_⟩
    ·rw[l1] at hb';exact⟨(hFid b' hb').trans (hT.mine b' hb').1,(hT.mine b' hb').2⟩
    ·have h6:=hT.cell i hi hv;have h7:=List.all_eq_true.1 k4.1 _ (xao hi);have h8:∀j,j∈(cs[i]).ids->False:=fun j hj=>by
      have:=xay (xao hi) hj;rw[k4.2] at this;simp at this
     revert h6 h7 h8
     generalize cs[i]=z;intro h6 h7 h8;have conv:zcb z=true->RelA G' (tokf ([(id,some (Res.tree cs))]++[])) w' z us[i]->RelA G3 (tokf ((id,some (Res.tree cs))::s.hp)) w' z us[i]:=fun hf hz=>
      (hz.flat (G':=⟨F2,G'.loc⟩) hf (fun _ _=>rfl) (fun j hj=>(h8 j hj).elim)).mono (fun _ _ ho=>⟨ho,rfl⟩) (fun j hj=>(h8 j hj).elim) (fun j hj=>(h8 j hj).elim)
     cases z with
     |own m y=>exact h6
     |_=>exact⟨h6.1,conv h7 h6.2⟩
   |box cs=>simp[zqr] at k4
   |map ks=>simp[zqr] at k4
  refine⟨G3,hr3.name h0 hocc hxr (fun i hi b hb hb2=>?_) (fun b hb=>?_), ?_⟩
  ·have hne:i≠id:=fun e=>by subst e;rw[h0] at hi;cases hi
   have hb3:b∈G.loc i:=by have:=l3 i hne;rw[<-this];exact hb
   have hb4:b∈G'.loc id:=by rw[<-l1];exact hb2
   obtain⟨r',hr'⟩:=Option.isSome_iff_exists.1 hi;have:=(hr.heap i r' hr').bound b hb3;have:=hnew id hid b hb4;omega
  ·have hb4:b∈G'.loc id:=by rw[<-l1];exact hb
   have:=hnew id hid b hb4;have:=hr.frm.size;right;omega
  ·have hsub:∀j,j∈r.ids->j=id:=fun j hj=>by simpa using zjL k3 j hj
   refine(hret.res.flat (G':=⟨F2,G'.loc⟩) k2 (fun _ _=>rfl) (fun j hj b hb=>?_)).mono (fun _ _ ho=>⟨ho,rfl⟩) (fun j hj=> .inl ?_) (fun j hj p hp=>?_)
   ·rw[hsub j hj] at hb;exact hFid b hb
   ·rw[hsub j hj];exact l1
   ·rw[hsub j hj] at hp ⊢;refine⟨?_,fun _ _=>⟨rfl,rfl⟩⟩;have e1:getH ([(id,some x)]++s.hp) id=some x:=by simp[getH]
    have e2:getH ([(id,some x)]++[]) id=some x:=by simp[getH]
    unfold tokf at hp ⊢;rw[e1] at hp;rw[e2];exact hp
end
section
variable {c:Ctx}{all:Array Oper}{chk:List Rec->Prop}{os:List Oper}{recs:List Rec}{env:Env}{hp:Hp}{Q:St->Prop}
variable {d ty:Nat}{pos:String}{af:Array Edge}{g:Option (Nat×Bool)}{pg:List (Nat×AV)}
def subR:List (Nat×Res)->Hp->Prop
 | [],_=>True
 |(i,r)::t,hp=>getH hp i=some r/\subR t hp
theorem zok:∀ {lr:List (Nat×Res)}{hp:Hp},subR lr hp->∀p,p∈lr->getH hp p.1=some p.2
 | [],_,_,p,h=>by simp at h
 |(i,r)::t,hp,hs,p,h=>by
  rcases List.mem_cons.1 h with rfl|h
  ·exact hs.1
  ·exact zok hs.2 p h
end
def zlu:D->Bool
 | .int _ _=>true
 | .bool _=>true
 | .str _=>true
 |_=>false
theorem znU {x:D} (h:zlu x=true):zfP x=true/\x≠ .sl []:=by
 cases x with
 |sl _=>simp[zlu] at h
 |ptr _ _=>simp[zlu] at h
 |nilp=>simp[zlu] at h
 |_=>exact⟨rfl,fun h=>by cases h⟩
def FlatR (xs:List (List D)):Prop:=∀x,x∈xs->∀y,y∈x->zlu y=true
theorem RelA.gt_inv {G:Gh}{T:TokF}{w:World}{id:Nat}{xs:List (List D)}{v:Value} (h:RelA G T w (.gt id xs) v):
  (∃a cap,v = .slice a xs.length cap)/\∀n k,T id=some (n,k)->xs.length<=n/\(n=xs.length->(∀x,x∈xs->x.length=k)/\TipT G w id n k v xs):=by
 cases h with|gt hv ht=>exact⟨hv,ht⟩
theorem TipV.tree {G:Gh}{w:World}{id n k:Nat}{v:Value}{xs:List (List D)} (hf:FlatR xs) (hne:n≠0) (hk:∀x,x∈xs->x.length=k) (h:TipV G w id n k v xs):TipT G w id n k v xs:=by
 rcases h with ⟨h1,h2,h3⟩|⟨b,cap,cs,e,h1,h2,h3,h4,h5,h6,h7⟩
 ·exact .inl ⟨h1,h2,h3⟩
 ·refine .inr ⟨b,cap,cs,e,fun _=>[],by rw[h1];simp,h2,h4,h5,h6,by rw[h1];simp,fun b' hb'=>?_,fun i hi j hj=> .ofFlat (znU (hf _ (xao hi) _ (xao hj))).1 (.inr (znU (hf _ (xao hi) _ (xao hj))).2) (h7 i hi j hj),fun h=>absurd h hne⟩;rw[h1] at hb';simp only[List.mem_singleton] at hb';rw[hb'];exact h3
section
variable {c:Ctx}{env:Env}{hp:Hp}{K:Kt}{code:Code}{ids:List Nat}
theorem CWp.gvGt (t:Nat){id:Nat}{xs:List (List D)} (ht:getE env t=some (.gv id xs)) (hf:FlatR xs) (hne:xs≠[]) (hn:CWp c code ⟨(t,.gt id xs)::env,hp⟩ K):CWp c code ⟨env,hp⟩ K:=by
 rintro a w ⟨G,hr⟩
 refine hn a w ⟨G,hr.slot ?_⟩;obtain⟨hv,hcl⟩:=(hr.slots t _ ht).gv_inv;exact .gt hv (fun n k hT=>⟨(hcl n k hT).1,fun hn=>⟨((hcl n k hT).2 hn).1,((hcl n k hT).2 hn).2.tree hf (by rw[hn];exact fun h=>hne (List.eq_nil_of_length_eq_zero h)) ((hcl n k hT).2 hn).1⟩⟩)
end
theorem zrT {α:Type}{o j:Nat}:∀ {A B B' vs:List α},A.length=o->putC B j vs=some B'->putC (A++B) (o+j) vs=some (A++B'):=by
 intro A B B' vs ha h;subst ha;induction A with
 |nil=>simpa using h
 |cons x r ih=>
  cases vs with
  |nil=>
   have e:B'=B:=by cases B<;>simp only[putC,xae] at h<;>exact h.symm
   subst e;simp[putC]
  |cons v vs=>
   have:(x::r).length+j=r.length+j+1:=by simp;omega
   rw[this];simp only[xai,putC,ih]
theorem zq5 {α:Type}{o j k:Nat}:∀ {A B r:List α},A.length=o->cutC B j k=some r->cutC (A++B) (o+j) k=some r:=by
 intro A B r ha h;subst ha;cases k with
 |zero=>
  have e:r=[]:=by cases B<;>simp only[cutC,xae] at h<;>exact h.symm
  subst e;cases A++B<;>rfl
 |succ k=>
  induction A with
  |nil=>simpa using h
  |cons x t ih=>
   have:(x::t).length+j=t.length+j+1:=by simp;omega
   rw[this];simp only[xai,cutC];exact ih
theorem zu8 {α:Type}{o:Nat}{A B B' vs:List α} (h1:A.length=o) (h2:putC B 0 vs=some B'):putC (A++B) o vs=some (A++B'):=zrT (j:=0) h1 h2
theorem zuB {α:Type}{o k:Nat}{A B r:List α} (h1:A.length=o) (h2:cutC B 0 k=some r):cutC (A++B) o k=some r:=zq5 (j:=0) h1 h2
theorem zw5 {α:Type}{x0 x1 x2 x3 x4 x5:α}{t:List α}:cutC (x0::x1::x2::x3::x4::x5::t) 0 6=some [x0,x1,x2,x3,x4,x5]:=by simp[cutC]
def SubO:List Nat->Hp->Hp->Prop
 |_,[],_=>True
 |seen,(i,r)::t,hp=>(zaT i seen=true\/getH hp i=r)/\SubO (i::seen) t hp
theorem SubO.get':∀ {l hp:Hp}{seen:List Nat},SubO seen l hp->∀id r,id∉seen->getH l id=some r->getH hp id=some r
 | [],hp,seen,_,id,r,_,h=>by cases h
 |(i,x)::t,hp,seen,h,id,r,hns,hg=>by
  rw[zal] at hg;by_cases hi:id=i
  ·subst hi;rw[if_pos rfl] at hg;rcases h.1 with h1|h1
   ·exact absurd (zaM.1 h1) hns
   ·rw[h1];exact hg
  ·rw[if_neg hi] at hg;exact SubO.get' h.2 id r (by simp[hi,hns]) hg
theorem SubO.get {l hp:Hp} (h:SubO [] l hp):HSub l hp:=fun id r hg=>SubO.get' h id r oi hg
theorem HSub.over {i:Nat}{r r':Option Res}{hp:Hp} (h:getH hp i=r'):HSub ([(i,r')]++[(i,r)]) hp:=fun id x hx=>by
 have hx':getH ((i,r')::[(i,r)]) id=some x:=hx;rw[zal] at hx';by_cases hi:id=i
 ·subst hi;rw[if_pos rfl] at hx';rw[h];exact hx'
 ·rw[if_neg hi,zal,if_neg hi] at hx';cases hx'
theorem zag (n:Nat) (zs:List AV):AV.idsL (zbd n zs)=(List.replicate n (AV.idsL zs)).flatten:=by
 induction n with
 |zero=>rfl
 |succ n ih=>simp only[zbd,zab,ih,List.replicate_succ,List.flatten_cons]
theorem zaq (n:Nat):(List.replicate n ([]:List Nat)).flatten=[]:=by
 induction n with
 |zero=>rfl
 |succ n ih=>simp only[List.replicate_succ,List.flatten_cons,ih,List.nil_append]
theorem LeA.gtg {id:Nat}{xs ys:List (List D)} (h:xs=ys):LeA (.gt id xs) (.gt id ys):=h ▸ .refl _
theorem xaX {id n n':Nat} (h:n=n'):LeA (.ms id n) (.ms id n'):=h ▸ .refl _
def mkL {α:Type} (one:Int->α->α) (sz:α->Int):Int->List α->List α
 |_,[]=>[]
 |k,x::r=>one k x::mkL one sz (k+sz x) r
def szL {α:Type} (sz:α->Int):List α->Int
 | []=>0
 |x::r=>sz x+szL sz r
def zil:List (List D)->Option (List Int)
 | []=>some []
 | [.int .u8 n]::r=>match zil r with|some l=>some (n::l)|none=>none
 |_=>none
theorem znL:∀ {xs:List (List D)}{ns:List Int},zil xs=some ns->xs=ns.map fun n=>[.int .u8 n]
 | [],ns,h=>by simp only[zil,xae] at h;subst h;rfl
 |x::r,ns,h=>by
  unfold zil at h;split at h
  ·cases ‹_::_=[]›
  ·rename_i n r' he;cases he
   cases hr:zil r with
   |none=>simp[hr] at h
   |some l=>
    simp only[hr,xae] at h;subst h;rw[znL hr];rfl
  ·cases h
theorem zkH:∀(bs:List UInt8),zil (bs.map fun b=>[.int .u8 (b.toNat:Int)])=some (bs.map fun b=>(b.toNat:Int))
 | []=>rfl
 |b::r=>by simp only[xaf,zil,zkH r]
def strN (ns:List Int):List UInt8:=ns.map fun n=>UInt8.ofNat n.toNat
section
variable {c:Ctx}{all:Array Oper}{chk:List Rec->Prop}{os:List Oper}{recs:List Rec}{env:Env}{hp:Hp}{Q:St->Prop}
variable {d ty:Nat}{pos:String}{af:Array Edge}{g:Option (Nat×Bool)}{pg:List (Nat×AV)}
variable {t yt:TypeId}{x y:Operand}
theorem xbu {e yb:Nat}{xs:List (List D)}{ns:List Int}{vx:AV} (ht:SlT c.P t e 1 yb) (hyt:c.P.underlying yt=some .string) (hu:c.P.underlying e=some (.int .u8)) (hg:GH all env g pg) (hd:Nat.blt d c.n=true)
  (hx:opd env x=some vx) (hv:vx.toD=some (.sl xs)) (hns:zil xs=some ns)
  (hn:Walk c all chk os (zap (pg++opF x vx) [] [] ⟨some (d,.d (.str (strN ns))),[]⟩::recs) ⟨(d,.d (.str (strN ns)))::env,hp⟩ Q):
  Walk c all chk (⟨some d,.convert t yt x,ty,pos,af,g⟩::os) recs ⟨env,hp⟩ Q:=
 xb1 hg hd hx (fun a G T w h=>⟨.string ⟨(strN ns).toArray⟩,by
  have h1:=h.toD hv;have hxs:=znL hns;subst hxs;rcases h1.sl_cells (k:=1) (by intro e he;obtain⟨n,_,rfl⟩:=List.mem_map.1 he;rfl) with ⟨oa,cap,h2,h3,h4⟩|⟨b,off,cap,news,h2,h3,h4,h5,h6,h7⟩
  ·have hn0:ns=[]:=by simpa using h3
   subst hn0;cases oa with
   |none=>
    have:=run_convert_bytes_nil (P:=c.P) w t e ht.und hu 0 cap yt hyt;simp only[execOp,h2,Sem.run_bind,this,Result.andThen_ok,Sem.run_pure];rfl
   |some ad=>
    have h8:(loadCells ad 0).run c.P w = .ok (([]:List Int).map (Value.int .u8)).toArray w:=run_loadCells_list (P:=c.P) w ad [] (fun j v hj=>by simp at hj);have h9:=run_bytesToString (P:=c.P) w ad 0 cap [] h8;have:=run_convert_bytes_string (P:=c.P) w t yt e (some ad) 0 cap ht.und hu hyt;rw[h9] at this;simp only[execOp,h2,Sem.run_bind,this,Result.andThen_ok,Sem.run_pure];rfl
  ·have hlen:ns.length=(ns.map fun n=>[D.int .u8 n]).length:=by simp
   have:=run_convert_bytes_arg (P:=c.P) w t e ht.und hu b off _ cap ns hlen (fun i hi=>by
    have hi':i<ns.length:=by simpa using hi
    have hin:i<news.length:=by rw[h4];simpa using hi'
    have h8:=(h5 i _ (xan hin)).2;rw[h8];have h9:=h7 i hi 0 oi (by simpa using hin);simp only[List.getElem_map,List.getElem_cons_zero,Nat.mul_one,Nat.add_zero] at h9;generalize news[i]=u at h9;cases h9
    simp[List.getD,xan hi']) yt hyt
   simp only[execOp,h2,Sem.run_bind,this,Result.andThen_ok,Sem.run_pure];rfl,.d (.str _)⟩) hn
theorem RelA.mo_eq {G:Gh}{T:TokF}{w:World}{id off n:Nat}{v:Value} (h:RelA G T w (.mo id off n) v):∃b o cap,((G.loc id).head?=some b/\T id=none)/\v = .slice (some ⟨b,o,none⟩) n cap/\n<=cap/\(n=0\/o=off):=by
 cases h with|mo h hT hcap ho=>exact⟨_,_,_,⟨h,hT⟩,rfl,hcap,ho⟩
theorem Walk.cutM_h {e k yb id m:Nat}{o:Operand}{kd:IntKind}{n:Int}{b:Nat} (ht:SlT c.P t e k yb) (hg:GH all env g pg) (hd:Nat.blt d c.n=true)
  (hx:opd env x=some (.ms id m)) (ho:opd env o=some (.d (.int kd n))) (hi:n = ↑b) (hb:b<=m)
  (hn:Walk c all chk os (zap (pg++(opF x (.ms id m)++opF o (.d (.int kd n)))) [] [] ⟨some (d,.ms id b),[]⟩::recs) ⟨(d,.ms id b)::env,hp⟩ Q):
  Walk c all chk (⟨some d,.slice t x none (some o) none,ty,pos,af,g⟩::os) recs ⟨env,hp⟩ Q:=
 xb2 hg hd hx ho (fun a G T w h1 h2=>by
  obtain⟨bl,cap,hl,he,hcap⟩:=h1.ms_eq;have hbd:=ze4 (P:=c.P) (w:=w) true m cap (lo:=none) (hi:=some (.int kd b)) (a:=0) (b:=b) (.inl ⟨rfl,rfl⟩) (.inr ⟨kd,rfl⟩) (Nat.zero_le _) od;refine⟨.slice (some ⟨bl,0,none⟩) b cap, ?_,.ms hl.1 hl.2 od⟩;simp only[execOp,h2.int_eq,hi,he,Option.map_none,Option.map_some,Instr.sliceAt,Sem.run_bind,run_underlying ht.und,Result.andThen_ok,Instr.slice,hbd,ht.run_size,Sem.run_pure,Nat.zero_mul,Nat.sub_zero,zcy,Nat.zero_add,ite_self]) hn
theorem Walk.cutM_l {e k yb id m:Nat}{o:Operand}{kd:IntKind}{n:Int}{b:Nat} (ht:SlT c.P t e k yb) (hg:GH all env g pg) (hd:Nat.blt d c.n=true)
  (hx:opd env x=some (.ms id m)) (ho:opd env o=some (.d (.int kd n))) (hi:n = ↑b) (hb:b<=m)
  (hn:Walk c all chk os (zap (pg++(opF x (.ms id m)++opF o (.d (.int kd n)))) [] [] ⟨some (d,.mo id (b*k) (m-b)),[]⟩::recs) ⟨(d,.mo id (b*k) (m-b))::env,hp⟩ Q):
  Walk c all chk (⟨some d,.slice t x (some o) none none,ty,pos,af,g⟩::os) recs ⟨env,hp⟩ Q:=
 xb2 hg hd hx ho (fun a G T w h1 h2=>by
  obtain⟨bl,cap,hl,he,hcap⟩:=h1.ms_eq;have hbd:=ze4 (P:=c.P) (w:=w) true m cap (lo:=some (.int kd b)) (hi:=none) (a:=b) (b:=m) (.inr ⟨kd,rfl⟩) (.inl ⟨rfl,rfl⟩) hb od;refine⟨.slice (some ⟨bl,if cap=b then 0 else b*k,none⟩) (m-b) (cap-b), ?_,.mo hl.1 hl.2 od ?_⟩
  ·simp only[execOp,h2.int_eq,hi,he,Option.map_none,Option.map_some,Instr.sliceAt,Sem.run_bind,run_underlying ht.und,Result.andThen_ok,Instr.slice,hbd,ht.run_size,Sem.run_pure,zcy,Nat.zero_add];by_cases h:cap=b
   ·simp[h]
   ·simp[h]
  ·by_cases h:cap=b
   ·left;omega
   ·right;rw[if_neg h]) hn
end
mutual
def renA (i j:Nat):AV->AV
 | .ms a n=>if a=i then .ms j n else .ms a n
 | .agg cs=> .agg (renL i j cs)
 | .tup cs=> .tup (renL i j cs)
 |x=>x
def renL (i j:Nat):List AV->List AV
 | []=>[]
 |x::r=>renA i j x::renL i j r
end
def zbi (i:Nat):AV->Bool
 | .ms a _=>Nat.beq a i
 | .d _=>true
 | .nils=>true
 | .agg cs=>soleL cs
 | .tup cs=>soleL cs
 |_=>false
where soleL:List AV->Bool
 | []=>true
 |x::r=>zbi i x&&soleL r
mutual
theorem zve (i j:Nat):∀ {x:AV},zbi i x=true->renA j i (renA i j x)=x
 | .ms a n,h=>by
  simp only[zbi] at h;have:=xap h;subst this;simp[renA]
 | .d _,_=>rfl
 | .nils,_=>rfl
 | .agg cs,h=>by
  simp only[zbi] at h;simp only[renA,zkQ i j h]
 | .tup cs,h=>by
  simp only[zbi] at h;simp only[renA,zkQ i j h]
 | .sn _,h=>by simp[zbi] at h
 | .gl _ _,h=>by simp[zbi] at h
 | .gv _ _,h=>by simp[zbi] at h
 | .gt _ _,h=>by simp[zbi] at h
 | .ref _ _,h=>by simp[zbi] at h
 | .mo _ _ _,h=>by simp[zbi] at h
 | .mc _ _ _,h=>by simp[zbi] at h
 | .ga _ _ _ _,h=>by simp[zbi] at h
 | .mapr _,h=>by simp[zbi] at h
 | .fn _ _,h=>by simp[zbi] at h
 | .own _ _,h=>by simp[zbi] at h
 | .any,h=>by simp[zbi] at h
theorem zkQ (i j:Nat):∀ {l:List AV},zbi.soleL i l=true->renL j i (renL i j l)=l
 | [],_=>rfl
 |x::r,h=>by
  simp only[zbi.soleL,xad] at h;simp only[renL,zve i j h.1,zkQ i j h.2]
end
mutual
theorem zvj (i j:Nat):∀ {x:AV},zbi i x=true->zbi j (renA i j x)=true
 | .ms a n,h=>by
  simp only[zbi] at h;have:=xap h;subst this;simp[renA,zbi]
 | .d _,_=>rfl
 | .nils,_=>rfl
 | .agg cs,h=>by
  simp only[zbi] at h;simp only[renA,zbi,zkX i j h]
 | .tup cs,h=>by
  simp only[zbi] at h;simp only[renA,zbi,zkX i j h]
 | .sn _,h=>by simp[zbi] at h
 | .gl _ _,h=>by simp[zbi] at h
 | .gv _ _,h=>by simp[zbi] at h
 | .gt _ _,h=>by simp[zbi] at h
 | .ref _ _,h=>by simp[zbi] at h
 | .mo _ _ _,h=>by simp[zbi] at h
 | .mc _ _ _,h=>by simp[zbi] at h
 | .ga _ _ _ _,h=>by simp[zbi] at h
 | .mapr _,h=>by simp[zbi] at h
 | .fn _ _,h=>by simp[zbi] at h
 | .own _ _,h=>by simp[zbi] at h
 | .any,h=>by simp[zbi] at h
theorem zkX (i j:Nat):∀ {l:List AV},zbi.soleL i l=true->zbi.soleL j (renL i j l)=true
 | [],_=>rfl
 |x::r,h=>by
  simp only[zbi.soleL,xad] at h;simp only[renL,zbi.soleL,zvj i j h.1,zkX i j h.2,Bool.and_self]
end
mutual
def frzA (x:D):AV->AV
 | .ms _ _=> .d x
 | .agg cs=> .agg (frzL x cs)
 | .tup cs=> .tup (frzL x cs)
 |y=>y
def frzL (x:D):List AV->List AV
 | []=>[]
 |y::r=>frzA x y::frzL x r
end
theorem zhJ (x:D):∀l:List AV,(frzL x l).length=l.length
 | []=>rfl
 |y::r=>by simp[frzL,zhJ x r]
theorem zoD (x:D):∀(l:List AV) (q:Nat) (h:q<l.length) (h':q<(frzL x l).length),(frzL x l)[q]=frzA x l[q]
 |y::r,0,_,_=>rfl
 |y::r,q+1,h,h'=>by simp only[frzL,List.getElem_cons_succ];exact zoD x r q (by simpa using h) (by simpa [frzL] using h')
def zqv (i n:Nat):AV->Prop
 | .ms a m=>a=i/\m=n
 | .d _=>True
 | .nils=>True
 | .agg cs=>soleNL i n cs
 | .tup cs=>soleNL i n cs
 |_=>False
where soleNL (i n:Nat):List AV->Prop
 | []=>True
 |x::r=>zqv i n x/\soleNL i n r
theorem zkY (i n:Nat):∀ {l:List AV},zqv.soleNL i n l->∀q (h:q<l.length),zqv i n l[q]
 |x::r,hs,q,h=>by
  cases q with
  |zero=>exact hs.1
  |succ q=>exact zkY i n hs.2 q (by simpa using h)
theorem RelA.frz {G G':Gh}{T T':TokF}{w:World}{i n:Nat}{x:AV}{v:Value}{d:D} (h:RelA G T w x v) (hF:∀b o,o<G.F b->o<G'.F b) (hms:∀v,RelA G T w (.ms i n) v->RelD G'.F w d v):zqv i n x->RelA G' T' w (frzA d x) v:=by
 induction h with
 |d h=>intro _;exact .d (h.mono (fun b o ho=>⟨hF b o ho,Z⟩))
 | @ms a m b cap h hT hc=>
  intro hs;obtain⟨rfl,rfl⟩:=hs;exact .d (hms _ (.ms h hT hc))
 | @agg cs vs hn h ih=>
  intro hs;simp only[frzA];exact .agg (by rw[zhJ];exact hn) (fun q hq hv=>by
   have hq':q<cs.length:=by rw[zhJ] at hq;exact hq
   rw[zoD d cs q hq' hq];exact ih q hq' hv (zkY i n hs q hq'))
 | @tup cs vs hn h ih=>
  intro hs;simp only[frzA];exact .tup (by rw[zhJ];exact hn) (fun q hq hv=>by
   have hq':q<cs.length:=by rw[zhJ] at hq;exact hq
   rw[zoD d cs q hq' hq];exact ih q hq' hv (zkY i n hs q hq'))
 |nils=>intro _;exact .nils
 |_=>intro hs;exact hs.elim
def xorV (m n:Int):Int:=IntKind.i64.wrap ((BitVec.ofInt 64 m ^^^ BitVec.ofInt 64 n).toNat:Int)
theorem zxF {m n:Int} (hm:0<=m/\m<4611686018427387904) (hn:0<=n/\n<4611686018427387904):0<=xorV m n/\xorV m n<4611686018427387904:=by
 obtain⟨a,rfl⟩:=Int.eq_ofNat_of_zero_le hm.1;obtain⟨b,rfl⟩:=Int.eq_ofNat_of_zero_le hn.1;have ha:a<2 ^ 62:=by have:=hm.2;omega
 have hb:b<2 ^ 62:=by have:=hn.2;omega
 have h1:(BitVec.ofInt 64 (a:Int) ^^^ BitVec.ofInt 64 (b:Int)).toNat=a ^^^ b:=by
  rw[BitVec.toNat_xor,BitVec.toNat_ofInt,BitVec.toNat_ofInt];have e1:((a:Int) % ((2 ^ 64:Nat):Int)).toNat=a:=by
   have:(a:Int) % ((2 ^ 64:Nat):Int)=a:=Int.emod_eq_of_lt od od;rw[this];simp
  have e2:((b:Int) % ((2 ^ 64:Nat):Int)).toNat=b:=by
   have:(b:Int) % ((2 ^ 64:Nat):Int)=b:=Int.emod_eq_of_lt od od;rw[this];simp
  rw[e1,e2]
 have h2:a ^^^ b<2 ^ 62:=Nat.xor_lt_two_pow ha hb;unfold xorV;rw[h1,zcI od];omega
section
variable {c:Ctx}{all:Array Oper}{chk:List Rec->Prop}{os:List Oper}{recs:List Rec}{env:Env}{hp:Hp}{Q:St->Prop}
variable {d ty:Nat}{pos:String}{af:Array Edge}{g:Option (Nat×Bool)}{pg:List (Nat×AV)}
variable {t yt:TypeId}{x y:Operand}{m n:Int}
theorem Walk.xorI (hg:GH all env g pg) (hd:Nat.blt d c.n=true) (hx:opd env x=some (.d (.int .i64 m))) (hy:opd env y=some (.d (.int .i64 n)))
  (hn:Walk c all chk os (zap (pg++(opF x (.d (.int .i64 m))++opF y (.d (.int .i64 n)))) [] [] ⟨some (d,.d (.int .i64 (xorV m n))),[]⟩::recs) ⟨(d,.d (.int .i64 (xorV m n)))::env,hp⟩ Q):
  Walk c all chk (⟨some d,.binOp .xor t x y yt,ty,pos,af,g⟩::os) recs ⟨env,hp⟩ Q:=
 xbs hg hd hx hy (fun w=>⟨.int .i64 (xorV m n),by rw[binOp_xor];rfl,fun F=> .int _ _⟩) hn
end
def zfV (i j:Nat):Env->Env
 | []=>[]
 |(k,v)::r=>(k,bif zaT i v.ids then .any else bif zaT j v.ids then .any else v)::zfV i j r
theorem zkC {i j:Nat}:∀ {l:Env}{t:Nat}{v:AV},getE (zfV i j l) t=some v->∃u,getE l t=some u/\(v = .any\/(v=u/\i∉u.ids/\j∉u.ids))
 | [],_,_,h=>by simp[zfV,getE] at h
 |(k,x)::r,t,v,h=>by
  simp only[zfV,getE] at h ⊢;cases hb:Nat.beq k t with
  |true=>
   simp only[hb,cond_true,xae] at h;refine⟨x,by simp, ?_⟩;cases h1:zaT i x.ids with
   |true=>left;rw[h1] at h;exact h.symm
   |false=>
    cases h2:zaT j x.ids with
    |true=>left;rw[h1,h2] at h;exact h.symm
    |false=>
     right
     rw[h1,h2] at h;refine⟨h.symm,fun hm=>?_,fun hm=>?_⟩
     ·rw[zaM.2 hm] at h1;cases h1
     ·rw[zaM.2 hm] at h2;cases h2
  |false=>
   simp only[hb,cond_false] at h;obtain⟨u,h1,h2⟩:=zkC h;exact⟨u,by simpa using h1,h2⟩
theorem RelA.gl_move {G G':Gh}{T T':TokF}{w:World}{i j n k:Nat}{xs:List (List D)}{v:Value} (h:RelA G T w (.gl i xs) v) (hT:T i=some (n,k)) (hF:G'.F=G.F) (hl:G'.loc j=G.loc i) (hT':T' j=some (n,k)):RelA G' T' w (.gl j xs) v:=by
 generalize hx:AV.gl i xs=x at h;cases h with
 | @gl id ys v h ht=>
  cases hx
  refine .gl (h.mono (fun b o ho=>⟨by rw[hF];exact ho,Z⟩)) (fun n' k' he=>?_);rw[hT'] at he;cases he
  obtain⟨h1,h2⟩:=ht _ _ hT;refine⟨h1,fun hn=>?_⟩;obtain⟨h3,h4⟩:=h2 hn;refine⟨h3, ?_⟩;rcases h4 with ⟨a1,a2,a3⟩|⟨b,cap,cs,e,a1,a2,a3,a4⟩
  ·exact .inl ⟨hl.trans a1,a2,a3⟩
  ·exact .inr ⟨b,cap,cs,e,hl.trans a1,a2,by rw[hF];exact a3,a4⟩
 |_=>cases hx
section
variable {c:Ctx}{env:Env}{hp:Hp}{K:Kt}{code:Code}
theorem CWp.retok (t j i:Nat){n k:Nat}{ys:List (List D)} (ht:getE env t=some (.gl j ys)) (hi:getH hp i=none) (hj:getH hp j=some (.tok n k)) (o1:occH i hp=false) (o2:occH j hp=false)
  (hn:CWp c code ⟨(t,.gl i ys)::zfV i j env,(i,some (.tok n k))::(j,none)::hp⟩ K):CWp c code ⟨env,hp⟩ K:=by
 rintro a w ⟨G,hr⟩
 have hne:i≠j:=fun e=>by subst e;rw[hi] at hj;cases hj
 let hp':Hp:=(i,some (.tok n k))::(j,none)::hp
 let G':Gh:={ G with loc:=fun x=>bif Nat.beq x i then G.loc j else G.loc x }
 have l1:G'.loc i=G.loc j:=by simp[G']
 have l2:∀x,x≠i->G'.loc x=G.loc x:=fun x h=>by simp[G',zeB h]
 have g1:getH hp' i=some (.tok n k):=by simp[hp',getH]
 have g2:getH hp' j=none:=by
  show getH ((i,some (.tok n k))::(j,none)::hp) j=none
  rw[zal,if_neg (fun e=>hne e.symm),zal,if_pos rfl]
 have g3:∀x,x≠i->x≠j->getH hp' x=getH hp x:=fun x h1 h2=>by
  show getH ((i,some (.tok n k))::(j,none)::hp) x=_
  rw[zal,if_neg h1,zal,if_neg h2]
 have hTj:tokf hp j=some (n,k):=zar.2 hj;have hTi:tokf hp' i=some (n,k):=zar.2 g1;have hm:∀ {x:AV}{v:Value},i∉x.ids->j∉x.ids->RelA G (tokf hp) w x v->RelA G' (tokf hp') w x v:=fun hx1 hx2 hx=>
  hx.mono (fun _ _ ho=>⟨ho,rfl⟩) (fun id hid=> .inl (l2 id (fun e=>hx1 (e ▸ hid)))) (fun id hid p hp2=>⟨by
   have e1:id≠i:=fun e=>hx1 (e ▸ hid);have e2:id≠j:=fun e=>hx2 (e ▸ hid);unfold tokf at hp2 ⊢;rw[g3 id e1 e2] at hp2;exact hp2,fun _ _=>⟨Z,Z⟩⟩)
 have cases3:∀x (r:Res),getH hp' x=some r->(x=i/\r = .tok n k)\/(x≠i/\x≠j/\getH hp x=some r):=fun x r h=>by
  by_cases e1:x=i
  ·subst e1;rw[g1] at h;cases h;exact .inl ⟨Z,Z⟩
  ·by_cases e2:x=j
   ·subst e2;rw[g2] at h;cases h
   ·rw[g3 x e1 e2] at h;exact .inr ⟨e1,e2,h⟩
 have src:∀x,(getH hp' x).isSome->∃y,(getH hp y).isSome/\G'.loc x=G.loc y/\(y=j/\x=i\/y=x/\x≠j/\x≠i):=fun x h=>by
  obtain⟨r,hx⟩:=Option.isSome_iff_exists.1 h;rcases cases3 x r hx with ⟨rfl,_⟩|⟨e1,e2,h3⟩
  ·exact⟨j,by rw[hj];rfl,l1,.inl ⟨rfl,rfl⟩⟩
  ·exact⟨x,by rw[h3];rfl,l2 x e1,.inr ⟨rfl,e2,e1⟩⟩
 have nocc:∀ {id x:Nat}{r:Res},occH id hp=false->getH hp x=some r->id∉r.ids:=fun h1 h2=>zhb h1 _ _ (zea h2);refine hn a w ⟨G',hr.size,hr.defers,fun x v hx=>?_,fun x r hx=>?_,fun x y h1 h2 hxy b hb=>?_,fun x h1 b hb=>?_,hr.frm,hr.top,fun x l hl=>?_⟩
 ·have hx':getE ((t,.gl i ys)::zfV i j env) x=some v:=hx;simp only[getE] at hx';cases hb:Nat.beq t x with
  |true=>
   have:=xap hb;subst this;simp only[hb,cond_true,xae] at hx';subst hx';exact(hr.slots t _ ht).gl_move hTj rfl l1 hTi
  |false=>
   simp only[hb,cond_false] at hx';obtain⟨u,h1,h2⟩:=zkC hx';rcases h2 with rfl|⟨rfl,h3,h4⟩
   ·exact .any _
   ·exact hm h3 h4 (hr.slots x _ h1)
 ·rcases cases3 x r hx with ⟨rfl,rfl⟩|⟨e1,e2,h3⟩
  ·intro b hb;rw[l1] at hb;exact hr.heap j _ hj b hb
  ·have hh:=hr.heap x r h3;have n1:=nocc o1 h3;have n2:=nocc o2 h3;cases r with
   |box cs=>
    obtain⟨b,us,e,e1',e2',e3,e4,e5⟩:=hh;exact⟨b,us,e,(l2 x e1).trans e1',e2',e3,e4,fun q hq hv=>hm (fun hid=>n1 (xay (xao hq) hid)) (fun hid=>n2 (xay (xao hq) hid)) (e5 q hq hv)⟩
   |tok n' k'=>intro b hb;rw[l2 x e1] at hb;exact hh b hb
   |map ks=>
    obtain⟨b,es,cl,h5,h6⟩:=hh;exact⟨b,es,cl,(l2 x e1).trans h5,h6⟩
   |tree cs=>exact zbI hh (l2 x e1) (fun _ _=>⟨Z,Z⟩) (Nat.le_refl _) (fun y hy v=>hm (fun hid=>n1 (xay hy hid)) (fun hid=>n2 (xay hy hid)))
 ·obtain⟨x',s1,e1,d1⟩:=src x h1;obtain⟨y',s2,e2,d2⟩:=src y h2;rw[e1] at hb;rw[e2];refine hr.disj x' y' s1 s2 ?_ b hb;rcases d1 with ⟨rfl,rfl⟩|⟨rfl,f1,f2⟩<;>rcases d2 with ⟨rfl,rfl⟩|⟨rfl,f3,f4⟩
  ·exact absurd Z hxy
  ·exact fun e=>f3 e.symm
  ·exact f1
  ·exact hxy
 ·obtain⟨x',s1,e1,d1⟩:=src x h1;rw[e1] at hb;exact hr.new x' s1 b hb
 ·have hk:=hr.kept x l hl;have e1:x≠i:=fun e=>by
   have h1:=hk.2.1;have h2:getH hp x=none:=e ▸ hi;change (getH hp x).isSome=true at h1
   rw[h2] at h1;cases h1
  have e2:x≠j:=fun e=>by
   have h1:=hk.2.2;change tokf hp x=none at h1
   rw[e,hTj] at h1;cases h1
  refine⟨by rw[l2 x e1];exact hk.1, ?_, ?_⟩
  ·show(getH hp' x).isSome=true
   rw[g3 x e1 e2];exact hk.2.1
  ·show tokf hp' x=none
   have:=hk.2.2;unfold tokf at this ⊢;rw[g3 x e1 e2];exact this
end
section
variable {c:Ctx}
theorem ztn {G:Gh}{s:St}{a:Act}{w:World} (hr:R c G s a w){f:FuncId}{avs:List AV}{i j n k m:Nat}{ys:List (List D)}{vals:Array Value}
  (hf:FnD c.P f avs [(i,some (.tok n k))] (.gl i ys) [(i,some (.tok m k))]) (hargs:AllR G (tokf s.hp) w avs vals) (hi:getH s.hp i=some (.tok n k)) (hj:getH s.hp j=none) (hocc:zcW j s):
  Calls c.P f vals w fun e w'=>∃v,e = .returned v/\
   ∃G',R c G' { s with hp:=(i,none)::(j,some (.tok m k))::s.hp } a w'/\RelA G' (tokf ((i,none)::(j,some (.tok m k))::s.hp)) w' (.gl j ys) v:=by
 have hne:i≠j:=fun e=>by subst e;rw[hi] at hj;cases hj
 have only:∀ {id:Nat}{x y:Res},getH [(i,some x)] id=some y->id=i/\y=x:=fun {id x y} h=>by
  rw[zal] at h;split at h
  ·rename_i e;cases h;exact⟨e,rfl⟩
  ·cases h
 have gi:getH [(i,some (Res.tok n k))] i=some (.tok n k):=by simp[getH]
 have hok:HOK G w [(i,some (.tok n k))] avs vals:=by
  refine⟨⟨hargs.size,fun q hq hv=>(hargs.rel q hq hv).mono (fun _ _ ho=>⟨ho,rfl⟩) (fun _ _=> .inl rfl) (fun id _ p hp=>⟨?_,fun _ _=>⟨rfl,rfl⟩⟩)⟩,fun id r h=>?_,fun id id' h1 h2 h3=>?_,hr.top⟩
  ·obtain⟨n',k'⟩:=p;obtain⟨rfl,h2⟩:=only (zar.1 hp);cases h2
   exact zar.2 hi
  ·obtain⟨rfl,rfl⟩:=only h;exact hr.heap _ _ hi
  ·obtain⟨x,hx⟩:=Option.isSome_iff_exists.1 h1;obtain⟨y,hy⟩:=Option.isSome_iff_exists.1 h2;exact absurd ((only hx).1.trans (only hy).1.symm) h3
 refine(hf G w vals hok).mono ?_;rintro e w' ⟨v,r,hp0,G',rfl,⟨rfl,rfl⟩,hret⟩
 refine⟨v,rfl, ?_⟩;have gi2:getH ([(i,some (Res.tok m k))]++[(i,some (.tok n k))]) i=some (.tok m k):=by simp[getH]
 have hown:∀b,b∈zcQ G [(i,some (Res.tok n k))]->b∈G.loc i:=fun b hb=>by
  obtain⟨id,h1,h2⟩:=zhc.1 hb;obtain⟨x,hx⟩:=Option.isSome_iff_exists.1 h1;rw[(only hx).1] at h2;exact h2
 have hsi:(getH s.hp i).isSome:=by rw[hi];rfl
 let hp':Hp:=(i,none)::(j,some (.tok m k))::s.hp
 let G2:Gh:={ F:=G'.F,loc:=fun x=>bif Nat.beq x j then G'.loc i else G.loc x }
 have l1:G2.loc j=G'.loc i:=by simp[G2]
 have l2:∀x,x≠j->G2.loc x=G.loc x:=fun x h=>by simp[G2,zeB h]
 have g1:getH hp' i=none:=by
  show getH ((i,none)::(j,some (.tok m k))::s.hp) i=none
  rw[zal,if_pos rfl]
 have g2:getH hp' j=some (.tok m k):=by
  show getH ((i,none)::(j,some (.tok m k))::s.hp) j=_
  rw[zal,if_neg (fun e=>hne e.symm),zal,if_pos rfl]
 have g3:∀x,x≠i->x≠j->getH hp' x=getH s.hp x:=fun x h1 h2=>by
  show getH ((i,none)::(j,some (.tok m k))::s.hp) x=_
  rw[zal,if_neg h1,zal,if_neg h2]
 have cases3:∀x (r:Res),getH hp' x=some r->(x=j/\r = .tok m k)\/(x≠i/\x≠j/\getH s.hp x=some r):=fun x r h=>by
  by_cases e1:x=i
  ·subst e1;rw[g1] at h;cases h
  ·by_cases e2:x=j
   ·subst e2;rw[g2] at h;cases h;exact .inl ⟨Z,Z⟩
   ·rw[g3 x e1 e2] at h;exact .inr ⟨e1,e2,h⟩
 have bound:∀x r,getH s.hp x=some r->∀b,b∈G.loc x->b<w.heap.size:=fun x r h=>(hr.heap x r h).bound;have blk:∀x r,x≠i->getH s.hp x=some r->∀b,b∈G.loc x->w'.heap[b]?=w.heap[b]?/\G'.F b=G.F b:=fun x r h1 h2 b hb=>
  hret.frm.block b (bound x r h2 b hb) (fun hm=>hr.disj x i (by rw[h2];rfl) hsi h1 b hb (hown b hm))
 have hm:∀ {x:AV}{v:Value},j∉x.ids->RelA G (tokf s.hp) w x v->RelA G2 (tokf hp') w' x v:=fun hx1 hx=>
  hx.mono hret.frm.cell (fun id hid=> .inl (l2 id (fun e=>hx1 (e ▸ hid)))) (fun id hid p hp2=>by
   have e1:id≠j:=fun e=>hx1 (e ▸ hid);obtain⟨n',k'⟩:=p;have h1:=zar.1 hp2;rcases cases3 id _ h1 with ⟨e,_⟩|⟨e2,_,h3⟩
   ·exact absurd e e1
   ·exact⟨zar.2 h3,blk id _ e2 h3⟩)
 have src:∀x,(getH hp' x).isSome->x=j\/(x≠i/\x≠j/\(getH s.hp x).isSome):=fun x h=>by
  obtain⟨r,hx⟩:=Option.isSome_iff_exists.1 h;rcases cases3 x r hx with ⟨rfl,_⟩|⟨e1,e2,h3⟩
  ·exact .inl Z
  ·exact .inr ⟨e1,e2,by rw[h3];rfl⟩
 have hnew:=hret.new i (by rw[gi2];rfl);have mix:∀x,x≠i->(getH s.hp x).isSome->∀b,b∈G'.loc i->b∉G.loc x:=fun x h1 h2 b hb hbx=>by
  obtain⟨r,hx⟩:=Option.isSome_iff_exists.1 h2;rcases hnew b hb with h|h
  ·exact hr.disj i x hsi h2 (fun e=>h1 e.symm) b (hown b h) hbx
  ·have:=bound x r hx b hbx;omega
 refine⟨G2,⟨hr.size,hr.defers,fun x v hx=>hm (hocc.1 x v hx) (hr.slots x v hx),fun x r hx=>?_,fun x y h1 h2 hxy b hb=>?_,fun x h1 b hb=>?_,hr.frm.trans hret.frm ?_,hret.top,fun x l hl=>?_⟩, ?_⟩
 ·rcases cases3 x r hx with ⟨rfl,rfl⟩|⟨e1,e2,h3⟩
  ·intro b hb;rw[l1] at hb;exact hret.heap i _ gi2 b hb
  ·have hh:=hr.heap x r h3;have n2:=hocc.2 x r h3;have hb0:=blk x r e1 h3;cases r with
   |box cs=>
    obtain⟨b,us,e,e1',e2',e3,e4,e5⟩:=hh;obtain⟨f1,f2⟩:=hb0 b (by simp[e1']);exact⟨b,us,e,(l2 x e2).trans e1',f1.trans e2',e3,f2.trans e4,fun q hq hv=>hm (fun hid=>n2 (xay (xao hq) hid)) (e5 q hq hv)⟩
   |tok n' k'=>intro b hb;rw[l2 x e2] at hb;exact Nat.lt_of_lt_of_le (hh b hb) hret.frm.size
   |map ks=>
    obtain⟨b,es,cl,h5,h6,h7,h8⟩:=hh;obtain⟨f1,f2⟩:=hb0 b (by simp[h5]);exact⟨b,es,cl,(l2 x e2).trans h5,f1.trans h6,f2.trans h7,h8⟩
   |tree cs=>exact zbI hh (l2 x e2) hb0 hret.frm.size (fun y hy v=>hm (fun hid=>n2 (xay hy hid)))
 ·rcases src x h1 with rfl|⟨a1,a2,a3⟩<;>rcases src y h2 with rfl|⟨b1,b2,b3⟩
  ·exact absurd Z hxy
  ·rw[l1] at hb;rw[l2 y b2];exact mix y b1 b3 b hb
  ·rw[l2 x a2] at hb;rw[l1];exact fun h=>mix x a1 a3 b h hb
  ·rw[l2 x a2] at hb;rw[l2 y b2];exact hr.disj x y a3 b3 hxy b hb
 ·rcases src x h1 with rfl|⟨a1,a2,a3⟩
  ·rw[l1] at hb;rcases hnew b hb with h|h
   ·exact hr.new i hsi b (hown b h)
   ·right;have:=hr.frm.size;omega
  ·rw[l2 x a2] at hb;exact hr.new x a3 b hb
 ·intro b hb;exact hr.new i hsi b (hown b hb)
 ·have hk:=hr.kept x l hl;have e1:x≠i:=fun e=>by
   have h1:=hk.2.2;have h2:tokf s.hp x=some (n,k):=e ▸ zar.2 hi;rw[h2] at h1;cases h1
  have e2:x≠j:=fun e=>by
   have h1:=hk.2.1;have h2:getH s.hp x=none:=e ▸ hj;rw[h2] at h1;cases h1
  refine⟨by rw[l2 x e2];exact hk.1, ?_, ?_⟩
  ·show(getH hp' x).isSome=true
   rw[g3 x e1 e2];exact hk.2.1
  ·show tokf hp' x=none
   have:=hk.2.2;unfold tokf at this ⊢;rw[g3 x e1 e2];exact this
 ·exact hret.res.gl_move (G':=G2) (zar.2 gi2) Z l1 (zar.2 g2)
end
section
variable {c:Ctx}{all:Array Oper}{chk:List Rec->Prop}{os:List Oper}{recs:List Rec}{env:Env}{hp:Hp}{Q:St->Prop}
variable {d ty:Nat}{pos:String}{af:Array Edge}{g:Option (Nat×Bool)}{pg:List (Nat×AV)}
theorem xbv {f:FuncId}{args:Array Operand}{ats:Array TypeId}{xs:List Operand}{vs avs:List AV}{i n k m:Nat}{ys:List (List D)} (j:Nat) (hc:Callee c.P f)
  (hf:FnD c.P f avs [(i,some (.tok n k))] (.gl i ys) [(i,some (.tok m k))])
  (hargs:args=xs.toArray) (hg:GH all env g pg) (hd:Nat.blt d c.n=true) (hx:opdL env xs=some vs) (hle:LeL vs avs) (hi:getH hp i=some (.tok n k)) (hcr:zam env hp [j]=true)
  (hn:Walk c all chk os (zap (pg++opFL xs vs) [(i,.tok n k)] [j] ⟨some (d,.gl j ys),[(i,none),(j,some (.tok m k))]⟩::recs) ⟨(d,.gl j ys)::env,(i,none)::(j,some (.tok m k))::hp⟩ Q):
  Walk c all chk (⟨some d,.call ⟨.value (.func f),args,ats⟩,ty,pos,af,g⟩::os) recs ⟨env,hp⟩ Q:=by
 subst hargs;refine⟨pg++opFL xs vs,[(i,.tok n k)],[j],_, ?_,zav hg.facts (zcM hx),hh1 hi,zbD hcr,hn⟩;intro s a w hrel hp' hh hcr' K Q' hK;obtain⟨G,hr⟩:=hrel;have hrl:=zdS hr (zcN hx (fun p hm=>hp' p (by simp[hm])));have hle':∀ {l m:List AV},LeL l m->∀i (h1:i<l.length) (h2:i<m.length),LeA l[i] m[i]:=by
  intro l;induction l with
  |nil=>intro m _ i h1;simp at h1
  |cons x r ih=>
   intro m h i h1 h2;cases h with
   |cons h t=>
    cases i with
    |zero=>exact h
    |succ i=>exact ih t i (by simpa using h1) (by simpa using h2)
 have hall:AllR G (tokf s.hp) w avs (xs.map a.eval).toArray:=by
  refine⟨by simp[<-hle.len,hrl.1],fun i hi hv=>?_⟩;have h1:i<vs.length:=by rw[hle.len];exact hi
  have:=(hrl.2 i h1 (by rw[<-hrl.1];exact h1)).le (hle' hle i h1 hi);simpa using this
 have hcalls:=ztn hr hf hall (hh1' hh) (hcr' j oi).1 (hcr' j oi).2;unfold wpO;rw[if_pos (hg.gf.wanted hr (fun p hm=>hp' p (by simp[hm])))];unfold Oper.wp;have hrun:(execOp a.eval ⟨some d,.call ⟨.value (.func f),xs.toArray,ats⟩,ty,pos,af,g⟩).run c.P w = .ok (.enter f (xs.map a.eval).toArray) w:=by
  have:=hc.run (xs.map a.eval).toArray w;simp only[execOp,resolve,Sem.run_bind,Act.eval,Deferred.ofValue,Sem.run_pure,Result.andThen_ok,invoke];simpa using this
 rw[hrun,Oper.upon_enter];refine hcalls.mono ?_;rintro e w' ⟨v,rfl,G',hR,hA⟩
 exact hK _ _ ⟨G',hR.put hA hd⟩
end
section
variable {c:Ctx}{all:Array Oper}{K:Kt}
theorem zp0 {Q:St->Prop}{Q':Exit->Act->World->Prop}{l2:List Nat} (hQ:∀s a w,Rel c s a w->Q s->wpOps c.P all Q' l2 a w):
  ∀(l:List Nat) (os:List Oper) (recs:List Rec) (s:St) (a:Act) (w:World),l.filterMap (all[·]?)=os->(∀i,i∈l->i<all.size)->
   Walk c all (fun _=>True) os recs s Q->Rel c s a w->wpOps c.P all Q' (l++l2) a w
 | [],os,recs,s,a,w,hl,_,hw,hr=>by
  simp only[List.filterMap_nil] at hl;subst hl;exact hQ s a w hr hw.2
 |i::l,os,recs,s,a,w,hl,hlt,hw,hr=>by
  have hi:i<all.size:=hlt i oi;have ho:all[i]?=some all[i]:=by simp[hi]
  rw[List.filterMap_cons] at hl;simp only[ho] at hl;subst hl;obtain⟨pre,prh,cr,u,hrule,h1,h2,h3,hrest⟩:=hw;rw[xai,wpOps_cons];unfold wpOp;simp only[ho];have:=hrule s a w hr h1 h2 h3 (wpOps c.P all Q' (l++l2)) Q' (fun a' w' hr'=>
   zp0 hQ l _ _ _ a' w' rfl (fun j hj=>hlt j (by simp[hj])) hrest hr')
  unfold wpO at this;split
  ·rename_i hw;simp only[hw,if_true] at this;exact .inl this
  ·rename_i hw;simp only[hw] at this;exact this
theorem zva (all:Array Oper):(List.range all.size).filterMap (all[·]?)=all.toList:=by
 have h1:(List.range all.size).filterMap (all[·]?)=(List.range all.toList.length).filterMap (all.toList[·]?):=by simp
 rw[h1];generalize all.toList=l;induction l with
 |nil=>rfl
 |cons x l ih=>
  rw[xab,List.range_succ_eq_map,List.filterMap_cons];simp only[List.getElem?_cons_zero,List.filterMap_map];exact xam (List.cons x) ih
theorem zgV {all:Array Oper}:∀ {l:List Nat},(∀i,i∈l->i<all.size)->l.filterMap (all[·]?)=l.map (fun i=>all[i]!)
 | [],_=>rfl
 |i::r,h=>by
  have hi:i<all.size:=h i oi;have ho:all[i]?=some all[i]:=by simp[hi]
  rw[List.filterMap_cons];simp only[ho,xaf];rw[zgV (fun j hj=>h j (by simp[hj]))];simp[hi]
theorem zsO (all:Array Oper) (k j:Nat):(((List.range all.size).drop k).take j).filterMap (all[·]?)=(all.toList.drop k).take j:=by
 have h0:=zva all;rw[zgV (fun i hi=>by simpa using hi)] at h0;rw[zgV (fun i hi=>by simpa using List.mem_of_mem_drop (List.mem_of_mem_take hi)),<-h0,List.map_take,List.map_drop]
def WRest (c:Ctx) (all:Array Oper) (k:Nat) (s:St) (K:Kt):Prop:=∀a w,Rel c s a w->wpOps c.P all (K.post c) ((List.range all.size).drop k) a w
theorem xaC {id:Nat}{s:St} (h:WRest c all 0 s K):CWp c (.region id all false) s K:=by
 intro a w hr;have:=h a w hr;rw[List.drop_zero] at this;exact wp_region this
theorem xbm {k:Nat}{s:St} (h:Walk c all (fun _=>True) (all.toList.drop k) [] s K.n):WRest c all k s K:=by
 intro a w hr;have e:=zsO all k (all.size-k);rw[List.take_of_length_le oi,List.take_of_length_le oi] at e;exact zmL (Q:=K.n) (fun s a w hr hq=>⟨s,hr,hq⟩) _ _ [] s a w e (fun i hi=>by simpa using List.mem_of_mem_drop hi) h hr
theorem xbn {k:Nat}{env:Env}{hp:Hp} (j:Nat) (E:Env) (ks:List Nat)
  (h1:Walk c all (fun _=>True) ((all.toList.drop k).take j) [] ⟨env,hp⟩ (fun s1=>Sub ⟨E++(zda ks++env),[]++hp⟩ s1))
  (h2:WRest c all (k+j) ⟨E++(zda ks++env),hp⟩ K):WRest c all k ⟨env,hp⟩ K:=by
 intro a w hr;have hk:∀id l,c.kept id=some l->(getH hp id).isSome:=by
  obtain⟨G,hg⟩:=hr;exact fun id l hl=>(hg.kept id l hl).2.1
 have e:(List.range all.size).drop k=((List.range all.size).drop k).take j++(List.range all.size).drop (k+j):=by
  conv=>lhs;rw[<-List.take_append_drop j ((List.range all.size).drop k),List.drop_drop]
 rw[e];exact zp0 (fun s1 a1 w1 hr1 hs=>h2 a1 w1 (hr1.sub hs hk)) _ _ [] _ a w (zsO all k j) (fun i hi=>by simpa using List.mem_of_mem_drop (List.mem_of_mem_take hi)) h1 hr
end
theorem zpv {i j:Nat}{b:Env}{t:Nat}{v:AV}:∀ {a:Env},getE (a++zfV i j b) t=some v->∃u,getE (a++b) t=some u/\(v = .any\/v=u)
 | [],h=>by
  obtain⟨u,h1,h2⟩:=zkC (l:=b) h;exact⟨u,h1,h2.imp_right (fun h=>h.1)⟩
 |(k,x)::r,h=>by
  simp only[xai,getE] at h ⊢;cases hb:Nat.beq k t with
  |true=>simp only[hb,cond_true,xae] at h;exact⟨x,by simp,.inr h.symm⟩
  |false=>
   simp only[hb,cond_false] at h;obtain⟨u,h1,h2⟩:=zpv (a:=r) h;exact⟨u,by simpa using h1,h2⟩
theorem Sub.kill {i j:Nat}{a b:Env}{hp:Hp}{s:St} (h:Sub ⟨a++b,hp⟩ s):Sub ⟨a++zfV i j b,hp⟩ s:=by
 refine⟨fun t v hv=>?_,h.hp⟩;obtain⟨u,h1,h2⟩:=zpv hv;rcases h2 with rfl|rfl
 ·exact .inl Z
 ·exact h.env t v h1
section
variable {c:Ctx}{K:Kt}
theorem CWp.loopT (i j:Nat){ι:Type}{body:Code}{env:Env}{hp:Hp}{ids:List Nat} (hkp:KeptIn c.kept ids) (E:ι->Env) (ks:List Nat) (H:ι->Hp) (good:ι->Prop) (μ:ι->Nat) (x0:ι) (h0:good x0)
  (he0:SubE (E x0) env) (hh0:SubH (H x0) hp) (hk:∀x,ids.all (fun id=>(getH (H x++hp) id).isSome)=true)
  (hround:∀x,good x->CWp c body ⟨E x++(zda ks++zfV i j env),H x++hp⟩ (K.with fun s'=>∃x',good x'/\μ x'<μ x/\Sub ⟨E x'++(zda ks++zfV i j env),H x'++hp⟩ s')):
  CWp c (.loop body) ⟨env,hp⟩ K:=by
 refine CWp.loop (fun x=>⟨E x++(zda ks++zfV i j env),H x++hp⟩) good μ x0 h0 ?_ (fun x=>hkp.ok (hk x)) hround;have h:Sub ⟨E x0++(zda ks++env),H x0++hp⟩ ⟨env,hp⟩:=Sub.x oi (by simp[zfM]) he0 oi (by simp[zdE]) hh0;rw[<-xar] at h;have:=h.kill (i:=i) (j:=j);rw[xar] at this;exact this
end
theorem FnD.nilTok {P:Program}{f:FuncId}{i k m:Nat}{rest:List AV}{ys:List (List D)} (hrest:AV.idsL rest=[]) (h:FnD P f (.gl i []::rest) [(i,some (.tok 0 k))] (.gl i ys) [(i,some (.tok m k))]):
  FnD P f (.nils::rest) [] (.d (.sl ys)) []:=by
 intro G w vals hok;let G1:Gh:={ G with loc:=fun _=>[] }
 have only:∀ {id:Nat}{x y:Res},getH [(i,some x)] id=some y->id=i/\y=x:=fun {id x y} h=>by
  rw[zal] at h;split at h
  ·rename_i e;cases h;exact⟨e,rfl⟩
  ·cases h
 have gi:getH [(i,some (Res.tok 0 k))] i=some (.tok 0 k):=by simp[getH]
 have hok1:HOK G1 w [(i,some (.tok 0 k))] (.gl i []::rest) vals:=by
  refine⟨⟨hok.args.size,fun q hq hv=>?_⟩,fun id r hx=>?_,fun id id' h1 h2 h3=>?_,hok.top⟩
  ·have h1:=hok.args.rel q hq hv;cases q with
   |zero=>
    simp only[List.getElem_cons_zero] at h1 ⊢;generalize vals[0]=v at *;cases h1
    refine .gl .nil (fun n k' hT=>?_);have:=(only (zar.1 hT)).2;cases this
    exact⟨Nat.le_refl _,fun _=>⟨by simp,.inl ⟨rfl,rfl,rfl⟩⟩⟩
   |succ q=>
    simp only[List.getElem_cons_succ] at h1 ⊢;have hn:∀id,id∉(rest[q]'(by simpa using hq)).ids:=fun id hid=>by
     have:=xay (xao _) hid;rw[hrest] at this;simp at this
    exact h1.mono (fun _ _ ho=>⟨ho,Z⟩) (fun id hid=>(hn id hid).elim) (fun id hid=>(hn id hid).elim)
  ·obtain⟨rfl,rfl⟩:=only hx;intro b hb;simp[G1] at hb
  ·obtain⟨x,hx⟩:=Option.isSome_iff_exists.1 h1;obtain⟨y,hy⟩:=Option.isSome_iff_exists.1 h2;exact absurd ((only hx).1.trans (only hy).1.symm) h3
 refine(h G1 w vals hok1).mono ?_;rintro e w' ⟨v,r,hp',G',rfl,⟨rfl,rfl⟩,hret⟩
 have own1:∀b,b∉zcQ G1 [(i,some (Res.tok 0 k))]:=fun b hb=>by
  obtain⟨id,_,h2⟩:=zhc.1 hb;simp[G1] at h2
 have hres:RelD G'.F w' (.sl ys) v:=by
  have h1:=hret.res;generalize hx:AV.gl i ys=x at h1;cases h1 with
  |gl h _=>cases hx;exact h
  |_=>cases hx
 refine⟨v,_,_,G',rfl,⟨rfl,rfl⟩,.d hres,fun id x hx=>?_,fun id id' h1=>?_,fun id h1=>?_, ?_,hret.top,fun id hi=>?_⟩
 ·simp[getH] at hx
 ·simp[getH] at h1
 ·simp[getH] at h1
 ·have hf:=hret.frm;exact⟨hf.os,hf.tape,hf.output,hf.size,fun b hb hn=>hf.block b hb (own1 b),hf.cell⟩
 ·simp[zcp,getH] at hi
theorem ziZ {P:Program}{w:World}{G:Gh}{T:TokF}:∀ {d:Nat}{fs:List Field}{i:Nat}{xs ys:List AV}{b:Bool}{us vs:Array Value},zeJ P i fs=true->eqC xs ys=some b->fs.length=xs.length->
  (∀j (h:j<xs.length),∃u,us[i+j]?=some u/\RelA G T w xs[j] u)->(∀j (h:j<ys.length),∃u,vs[i+j]?=some u/\RelA G T w ys[j] u)->
  (Op.eqFields (d+1) us vs fs).run P w = .ok b w
 |d,[],i,[],[],b,us,vs,_,h,_,_,_=>by simp only[eqC,xae] at h;subst h;simp[Op.eqFields]
 |d,[],i,[],_::_,b,us,vs,_,h,_,_,_=>by simp[eqC] at h
 |d,[],i,_::_,_,b,us,vs,_,_,h,_,_=>by simp at h
 |d,f::fs,i,[],_,b,us,vs,_,_,h,_,_=>by simp at h
 |d,f::fs,i,x::xs,ys,b,us,vs,hf,he,hl,hx,hy=>by
  cases ys with
  |nil=>unfold eqC at he;split at he<;>simp_all
  |cons y ys=>
   unfold eqC at he;split at he
   ·rename_i h1 h2;simp at h1
   ·rename_i a r b' s h1 h2;simp only[List.cons.injEq] at h1 h2;obtain⟨rfl,rfl⟩:=h1;obtain⟨rfl,rfl⟩:=h2;split at he
    ·rename_i t ht;simp only[xae] at he;subst he;simp only[zeJ,xad,bne_iff_ne] at hf;obtain⟨⟨⟨f1,f2⟩,f3⟩,f4⟩:=hf;have f2':=xap f2;obtain⟨u,hu,hru⟩:=hx 0 oi;obtain⟨v,hv,hrv⟩:=hy 0 oi;have hu':=hru.int_eq;have hv':=hrv.int_eq;subst hu' hv';have ih:=ziZ (P:=P) (w:=w) (d:=d) (us:=us) (vs:=vs) f4 ht (by simpa using hl)
      (fun j h=>by obtain⟨u,h1,h2⟩:=hx (j+1) (by simpa using h);exact⟨u,by rw[show i+1+j=i+(j+1) by omega];exact h1,by simpa using h2⟩)
      (fun j h=>by obtain⟨u,h1,h2⟩:=hy (j+1) (by simpa using h);exact⟨u,by rw[show i+1+j=i+(j+1) by omega];exact h1,by simpa using h2⟩)
     split at f3
     ·rename_i kd hk;have p1:(part f.type us f.offset).run P w = .ok (.int .i64 a) w:=by
       have hu0:us[i]?=some (.int .i64 a):=by simpa using hu
       simp only[part,isAgg,Sem.run_bind,run_underlying hk,Result.andThen_ok,Sem.run_pure,f2',hu0,Bool.false_eq_true,if_false]
      have p2:(part f.type vs f.offset).run P w = .ok (.int .i64 b') w:=by
       have hv0:vs[i]?=some (.int .i64 b'):=by simpa using hv
       simp only[part,isAgg,Sem.run_bind,run_underlying hk,Result.andThen_ok,Sem.run_pure,f2',hv0,Bool.false_eq_true,if_false]
      simp only[Op.eqFields];rw[if_pos f1];simp only[Sem.run_bind,p1,p2,Result.andThen_ok,run_equalIn_int w d f.type .i64 kd a b' hk];by_cases hab:a=b'
      ·subst hab;simp[ih]
      ·simp[hab]
     ·cases f3
    ·cases he
   ·cases he
def subF (P:Program) (f:Field):Nat:=match P.underlying f.type with
 |some (.int _)=>1
 |some (.struct _)=>(P.fieldsOf f.type).size
 |_=>0
def zm4 (P:Program):List Field->Nat
 | []=>0
 |f::r=>subF P f+zm4 P r
def zg7 (P:Program):Nat->List Field->Bool
 |_,[]=>true
 |i,f::r=>(f.name != "_")&&Nat.beq f.offset i&&(match P.underlying f.type with
  |some (.int _)=>true
  |some (.struct _)=>(match P.stoodInHeld f.type with|true=>false|false=>true)&&zeJ P 0 (P.fieldsOf f.type).toList&&(match zqx P f.type with|some (k,true)=>Nat.beq k (P.fieldsOf f.type).size|_=>false)
  |_=>false)&&zg7 P (i+subF P f) r
structure EqT2 (P:Program) (t k:Nat):Prop where
 und:P.underlying t=some (.struct (P.fieldsOf t))
 held:P.stoodInHeld t=false
 grd:P.eqGuardType P.depth t=false
 fld:zg7 P 0 (P.fieldsOf t).toList=true
 len:zm4 P (P.fieldsOf t).toList=k
theorem zuG {k:Nat}:∀ {xs ys:List AV}{b:Bool},eqC xs ys=some b->k<=xs.length->∃b1 b2,eqC (xs.take k) (ys.take k)=some b1/\eqC (xs.drop k) (ys.drop k)=some b2/\b=(b1&&b2):=by
 induction k with
 |zero=>intro xs ys b h _;exact⟨true,b,by simp[eqC],by simpa using h,by simp⟩
 |succ k ih=>
  intro xs ys b h hk;cases xs with
  |nil=>simp at hk
  |cons x r=>
   cases ys with
   |nil=>unfold eqC at h;split at h<;>simp_all
   |cons y s=>
    unfold eqC at h;split at h
    ·rename_i h1 h2;simp at h1
    ·rename_i a r' b' s' h1 h2;simp only[List.cons.injEq] at h1 h2;obtain⟨rfl,rfl⟩:=h1;obtain⟨rfl,rfl⟩:=h2;split at h
     ·rename_i t ht;simp only[xae] at h;subst h;obtain⟨b1,b2,e1,e2,e3⟩:=ih ht (by simpa using hk);refine⟨decide (a=b')&&b1,b2,by simp[eqC,e1],by simpa using e2,by rw[e3,Bool.and_assoc]⟩
     ·cases h
    ·cases h
theorem ziY {P:Program}{w:World}{G:Gh}{T:TokF}:∀ {fs:List Field}{i:Nat}{xs ys:List AV}{b:Bool}{us vs:Array Value},zg7 P i fs=true->eqC xs ys=some b->zm4 P fs=xs.length->
  (∀j (h:j<xs.length),∃u,us[i+j]?=some u/\RelA G T w xs[j] u)->(∀j (h:j<ys.length),∃u,vs[i+j]?=some u/\RelA G T w ys[j] u)->
  (Op.eqFields 9999 us vs fs).run P w = .ok b w
 | [],i,xs,ys,b,us,vs,_,h,hl,_,_=>by
  have e:xs=[]:=List.eq_nil_of_length_eq_zero hl.symm;subst e;have e2:=zoA h;have e:ys=[]:=List.eq_nil_of_length_eq_zero e2.symm;subst e;simp only[eqC,xae] at h;subst h;simp[Op.eqFields]
 |f::fs,i,xs,ys,b,us,vs,hf,he,hl,hx,hy=>by
  have hlen:=zoA he;simp only[zm4] at hl;simp only[zg7,xad,bne_iff_ne] at hf;obtain⟨⟨⟨f1,f2⟩,f3⟩,f4⟩:=hf;have f2':=xap f2;obtain⟨b1,b2,e1,e2,e3⟩:=zuG (k:=subF P f) he od;have ih:=ziY (P:=P) (w:=w) (us:=us) (vs:=vs) f4 e2 (by rw[List.length_drop];omega)
   (fun j h=>by
    rw[List.length_drop] at h;obtain⟨u,h1,h2⟩:=hx (subF P f+j) od;exact⟨u,by rw[Nat.add_assoc];exact h1,by rw[List.getElem_drop];exact h2⟩)
   (fun j h=>by
    rw[List.length_drop] at h;obtain⟨u,h1,h2⟩:=hy (subF P f+j) od;exact⟨u,by rw[Nat.add_assoc];exact h1,by rw[List.getElem_drop];exact h2⟩)
  have key:∃u v,(part f.type us f.offset).run P w = .ok u w/\(part f.type vs f.offset).run P w = .ok v w/\(Op.equalIn 9999 f.type u v).run P w = .ok b1 w:=by
   split at f3
   ·rename_i kd hk;have hs:subF P f=1:=by unfold subF;rw[hk]
    rw[hs] at e1 hl;obtain⟨u,hu,hru⟩:=hx 0 od;obtain⟨v,hv,hrv⟩:=hy 0 od;rcases xs with _|⟨x,xr⟩
    ·simp at hl
    rcases ys with _|⟨y,yr⟩
    ·simp at hlen
    simp only[List.getElem_cons_zero] at hru hrv;simp only[List.take_succ_cons,List.take_zero] at e1;unfold eqC at e1;split at e1
    ·rename_i h1 _;simp at h1
    ·rename_i a r b' s h1 h2;simp only[List.cons.injEq] at h1 h2;obtain⟨rfl,rfl⟩:=h1;obtain⟨rfl,rfl⟩:=h2;simp only[eqC,Bool.and_true,xae] at e1;have hu':=hru.int_eq;have hv':=hrv.int_eq;subst hu' hv';refine⟨.int .i64 a,.int .i64 b', ?_, ?_, ?_⟩
     ·have hu0:us[i]?=some (.int .i64 a):=by simpa using hu
      simp only[part,isAgg,Sem.run_bind,run_underlying hk,Result.andThen_ok,Sem.run_pure,f2',hu0,Bool.false_eq_true,if_false]
     ·have hv0:vs[i]?=some (.int .i64 b'):=by simpa using hv
      simp only[part,isAgg,Sem.run_bind,run_underlying hk,Result.andThen_ok,Sem.run_pure,f2',hv0,Bool.false_eq_true,if_false]
     ·rw[show(9999:Nat)=9998+1 from rfl,run_equalIn_int w 9998 f.type .i64 kd a b' hk,<-e1];congr 1
    ·cases e1
   ·rename_i fs' hk;simp only[xad] at f3;obtain⟨⟨g1,g2⟩,g3⟩:=f3;have hheld:P.stoodInHeld f.type=false:=by
     split at g1
     ·cases g1
     ·assumption
    have hund:P.underlying f.type=some (.struct (P.fieldsOf f.type)):=by rw[hk];simp[Program.fieldsOf,hk]
    have hs:subF P f=(P.fieldsOf f.type).size:=by unfold subF;rw[hk]
    have hty:TyS P f.type (P.fieldsOf f.type).size true:=by
     split at g3
     ·rename_i k hg;rw[<-xap g3];exact xbf hg
     ·cases g3
    have hpart:∀cs:Array Value,(part f.type cs f.offset).run P w = .ok (.agg (cs.extract i (i+(P.fieldsOf f.type).size))) w:=fun cs=>by
     simp only[part,Sem.run_bind,hty.run_agg,hty.run_size,Result.andThen_ok,Sem.run_pure,f2',if_true]
    refine⟨_,_,hpart us,hpart vs, ?_⟩;rw[show(9999:Nat)=9998+1 from rfl,run_equalIn_agg w 9998 f.type _ _ hund hheld];refine ziZ (d:=9997) (G:=G) (T:=T) (i:=0) g2 e1 (by rw[List.length_take,Array.length_toList,hs];omega) (fun j h=>?_) (fun j h=>?_)
    ·rw[List.length_take] at h;obtain⟨u,h1,h2⟩:=hx j od;refine⟨u, ?_,by rw[List.getElem_take];exact h2⟩;rw[Array.getElem?_extract,if_pos (by have:=(Array.getElem?_eq_some_iff.1 h1).1;omega),Nat.zero_add];exact h1
    ·rw[List.length_take] at h;obtain⟨u,h1,h2⟩:=hy j od;refine⟨u, ?_,by rw[List.getElem_take];exact h2⟩;rw[Array.getElem?_extract,if_pos (by have:=(Array.getElem?_eq_some_iff.1 h1).1;omega),Nat.zero_add];exact h1
   ·cases f3
  obtain⟨u,v,p1,p2,p3⟩:=key;simp only[Op.eqFields];rw[if_pos f1];simp only[Sem.run_bind,p1,p2,Result.andThen_ok,p3];subst e3;cases b1 with
  |true=>simp[ih]
  |false=>simp
theorem zv5 {P:Program}{w:World}{G:Gh}{T:TokF}{t:TypeId}{xs ys:List AV}{b:Bool}{u v:Value}{k:Nat} (ht:EqT2 P t k) (hl0:xs.length=k) (he:eqC xs ys=some b) (hu:RelA G T w (.agg xs) u) (hv:RelA G T w (.agg ys) v):
  ∃us vs,u = .agg us/\v = .agg vs/\(Op.equalIn 10000 t (.agg us) (.agg vs)).run P w = .ok b w:=by
 cases hu with
 |agg h1 h2=>
  cases hv with
  |agg h3 h4=>
   refine⟨_,_,rfl,rfl, ?_⟩;rw[show(10000:Nat)=9999+1 from rfl,run_equalIn_agg w 9999 t _ _ ht.und ht.held];refine ziY (G:=G) (T:=T) (i:=0) ht.fld he (ht.len.trans hl0.symm) (fun j h=>?_) (fun j h=>?_)
   ·rename_i us vs;have hj:j<us.size:=by rw[h1];exact h
    exact⟨us[j],by rw[Nat.zero_add,Array.getElem?_eq_getElem hj],h2 j h hj⟩
   ·rename_i us vs;have hj:j<vs.size:=by rw[h3];exact h
    exact⟨vs[j],by rw[Nat.zero_add,Array.getElem?_eq_getElem hj],h4 j h hj⟩
section
variable {c:Ctx}{all:Array Oper}{chk:List Rec->Prop}{os:List Oper}{recs:List Rec}{env:Env}{hp:Hp}{Q:St->Prop}
variable {d ty:Nat}{pos:String}{af:Array Edge}{g:Option (Nat×Bool)}{pg:List (Nat×AV)}
variable {t yt:TypeId}{x y:Operand}
theorem Walk.eqV2 {xs ys:List AV}{b:Bool}{k:Nat} (ht:EqT2 c.P t k) (hg:GH all env g pg) (hd:Nat.blt d c.n=true) (hx:opd env x=some (.agg xs)) (hy:opd env y=some (.agg ys)) (he:eqC xs ys=some b) (hl:xs.length=k)
  (hn:Walk c all chk os (zap (pg++(opF x (.agg xs)++opF y (.agg ys))) [] [] ⟨some (d,.d (.bool b)),[]⟩::recs) ⟨(d,.d (.bool b))::env,hp⟩ Q):
  Walk c all chk (⟨some d,.binOp .eql t x y yt,ty,pos,af,g⟩::os) recs ⟨env,hp⟩ Q:=by
 refine xb2 hg hd hx hy (fun a G T w h1 h2=>⟨.bool b, ?_,.d (.bool _)⟩) hn;obtain⟨us,vs,e1,e2,e3⟩:=zv5 ht hl he h1 h2;simp only[execOp,e1,e2];simp only[Sem.run_bind,run_eqGuard_agg w .eql t x y us vs ht.grd,Result.andThen_ok,run_eql_struct,e3,Sem.run_pure]
end
structure Tabs where
 ty:Nat->Option (Nat×Bool)
 sl:Nat->Bool
 st:Nat->Bool
 fd:Nat->Nat->Option Nat
structure TabsOK (P:Program) (T:Tabs):Prop where
 ty:∀t k b,T.ty t=some (k,b)->TyS P t k b
 sl:∀t,T.sl t=true->∃e k y,SlT P t e k y
 st:∀t,T.st t=true->P.underlying t=some .string
 fd:∀t f o,T.fd t f=some o->Fd P t f o
structure Sp (b:Bool) (X Y:Prop):Prop where
 t:b=true->X
 f:b=false->Y
structure Ar (n:Int) (X:Prop):Prop where
 b:I64 n
 k:X
def kget:List (Nat×Bool)->Nat->Option Bool
 | [],_=>none
 |(k,v)::r,i=>bif Nat.beq k i then some v else kget r i
def kdel:List (Nat×Bool)->Nat->List (Nat×Bool)
 | [],_=>[]
 |(k,v)::r,i=>bif Nat.beq k i then kdel r i else (k,v)::kdel r i
def memN:List Nat->Nat->Bool
 | [],_=>false
 |k::r,i=>bif Nat.beq k i then true else memN r i
def KN (env:Env):List (Nat×Bool)->Prop
 | []=>True
 |(e,v)::r=>(∃b,getE env e=some (.d (.bool b))/\b=v)/\KN env r
abbrev Cont:=List (Nat×AV)->List (Nat×Res)->AV->Prop
def evB (op:BinOp) (u v:D) (k:D->Prop) (stuck:Prop):Prop:=
 match u,v with
 | .int a m,.int b n=>match a,b with
  | .i64,.i64=>match op with
   | .eql=>k (.bool (decide (m=n)))
   | .neq=>k (.bool (!decide (m=n)))
   | .lss=>k (.bool (decide (m<n)))
   | .leq=>k (.bool (decide (m<=n)))
   | .gtr=>k (.bool (decide (n<m)))
   | .geq=>k (.bool (decide (n<=m)))
   | .add=>Ar (m+n) (k (.int .i64 (m+n)))
   | .sub=>Ar (m-n) (k (.int .i64 (m-n)))
   | .mul=>Ar (m*n) (k (.int .i64 (m*n)))
   |_=>stuck
  | .u8,.u8=>match op with
   | .eql=>k (.bool (decide (m=n)))
   | .neq=>k (.bool (!decide (m=n)))
   | .lss=>k (.bool (decide (m<n)))
   | .leq=>k (.bool (decide (m<=n)))
   | .gtr=>k (.bool (decide (n<m)))
   | .geq=>k (.bool (decide (n<=m)))
   |_=>stuck
  |_,_=>stuck
 | .str l,.str m=>match op with
  | .eql=>k (.bool (decide (l=m)))
  | .neq=>k (.bool (!decide (l=m)))
  |_=>stuck
 |_,_=>stuck
def evV (T:Tabs) (env:Env) (hp:Hp) (kn:List (Nat×Bool)) (k:Cont) (stuck:Prop) (op:Op):Prop:=
 match op with
 | .move x=>match opd env x with
  |some v=>k (opF x v) [] v
  |none=>stuck
 | .assign x=>match opd env x with
  |some v=>k (opF x v) [] v
  |none=>stuck
 | .pick (.tmp t) y z=>match getE env t with
  |some (.d (.bool b))=>match kget kn t with
   |some true=>match opd env y with
    |some v=>k (opF (.tmp t) (.d (.bool b))++opF y v) [] v
    |none=>stuck
   |some false=>match opd env z with
    |some v=>k (opF (.tmp t) (.d (.bool b))++opF z v) [] v
    |none=>stuck
   |none=>stuck
  |_=>stuck
 | .binOp op _ x y _=>match opd env x,opd env y with
  |some (.d u),some (.d v)=>evB op u v (fun r=>k (opF x (.d u)++opF y (.d v)) [] (.d r)) stuck
  |_,_=>stuck
 | .unOp .not _ x=>match opd env x with
  |some (.d (.bool b))=>k (opF x (.d (.bool b))) [] (.d (.bool (!b)))
  |_=>stuck
 | .load t x=>match opd env x with
  |some (.ref id off)=>match getH hp id with
   |some (.box cs)=>match T.ty t with
    |some (_,false)=>match cs[off]? with
     |some v=>k (opF x (.ref id off)) [(id,.box cs)] v
     |none=>stuck
    |some (n,true)=>match cutC cs off n with
     |some r=>k (opF x (.ref id off)) [(id,.box cs)] (.agg r)
     |none=>stuck
    |none=>stuck
   |_=>stuck
  |some (.d (.ptr cs off))=>match T.ty t with
   |some (_,false)=>match cs[off]? with
    |some v=>k (opF x (.d (.ptr cs off))) [] (.d v)
    |none=>stuck
   |some (n,true)=>match cutC cs off n with
    |some r=>match mapD r with
     |some r'=>k (opF x (.d (.ptr cs off))) [] (.agg r')
     |none=>stuck
    |none=>stuck
   |none=>stuck
  |_=>stuck
 | .fieldAddr t x f=>match opd env x with
  |some (.ref id off)=>match T.fd t f with
   |some o=>k (opF x (.ref id off)) [] (.ref id (off+o))
   |none=>stuck
  |some (.d (.ptr cs off))=>match T.fd t f with
   |some o=>k (opF x (.d (.ptr cs off))) [] (.d (.ptr cs (off+o)))
   |none=>stuck
  |_=>stuck
 | .extract x i=>match opd env x with
  |some (.tup vs)=>match vs[i]? with
   |some v=>k (opF x (.tup vs)) [] v
   |none=>stuck
  |_=>stuck
 | .nilCheck x=>match opd env x with
  |some (.ref id off)=>k (opF x (.ref id off)) [] (.ref id off)
  |some (.d (.ptr cs off))=>k (opF x (.d (.ptr cs off))) [] (.d (.ptr cs off))
  |_=>stuck
 | .call ⟨.builtin .len,⟨[x]⟩,⟨[at_]⟩⟩=>match opd env x with
  |some (.d (.str l))=>match T.st at_ with
   |true=>k (opF x (.d (.str l))) [] (.d (.i l.length))
   |false=>stuck
  |some (.d (.sl xs))=>match T.sl at_ with
   |true=>k (opF x (.d (.sl xs))) [] (.d (.i xs.length))
   |false=>stuck
  |some (.gl id xs)=>match T.sl at_ with
   |true=>k (opF x (.gl id xs)) [] (.d (.i xs.length))
   |false=>stuck
  |some (.ms id n)=>match T.sl at_ with
   |true=>k (opF x (.ms id n)) [] (.d (.i n))
   |false=>stuck
  |_=>stuck
 |_=>stuck
section
variable {T:Tabs}{c:Ctx}{all:Array Oper}{chk:List Rec->Prop}{os:List Oper}{recs:List Rec}{env:Env}{hp:Hp}{Q:St->Prop}
variable {d ty:Nat}{pos:String}{af:Array Edge}{g:Option (Nat×Bool)}{pg:List (Nat×AV)}{kn:List (Nat×Bool)}
theorem zfs:∀ {kn:List (Nat×Bool)}{e:Nat}{v:Bool},KN env kn->kget kn e=some v->∃b,getE env e=some (.d (.bool b))/\b=v
 |(k,u)::r,e,v,h,hk=>by
  simp only[kget] at hk;cases hb:Nat.beq k e with
  |true=>simp only[hb,cond_true,xae] at hk;subst hk;obtain rfl:=xap hb;exact h.1
  |false=>simp only[hb,cond_false] at hk;exact zfs h.2 hk
theorem zht {v:AV}:∀ {kn:List (Nat×Bool)},KN env kn->KN ((d,v)::env) (kdel kn d)
 | [],_=>trivial
 |(k,u)::r,h=>by
  simp only[kdel];cases hb:Nat.beq k d with
  |true=>exact zht h.2
  |false=>
   have hb':Nat.beq d k=false:=by
    cases hd:Nat.beq d k with
    |false=>rfl
    |true=>obtain rfl:=xap hd;rw[hd] at hb;cases hb
   refine⟨?_,zht h.2⟩;simp only[getE,hb',cond_false];exact h.1
theorem zyG {u v:D}{op:BinOp}{t yt:TypeId}{x y:Operand}{k:D->Prop}{stuck W:Prop}
  (hs:stuck->W) (hg:GH all env g pg) (hd:Nat.blt d c.n=true) (hx:opd env x=some (.d u)) (hy:opd env y=some (.d v))
  (hk:∀r,k r->Walk c all chk os (zap (pg++(opF x (.d u)++opF y (.d v))) [] [] ⟨some (d,.d r),[]⟩::recs) ⟨(d,.d r)::env,hp⟩ Q)
  (hW:W=Walk c all chk (⟨some d,.binOp op t x y yt,ty,pos,af,g⟩::os) recs ⟨env,hp⟩ Q)
  (h:evB op u v k stuck):W:=by
 unfold evB at h;split at h
 ·split at h
  ·split at h
   ·exact hW ▸ Walk.eqI hg hd hx hy (hk _ h)
   ·exact hW ▸ Walk.neI hg hd hx hy (hk _ h)
   ·exact hW ▸ Walk.ltI hg hd hx hy (hk _ h)
   ·exact hW ▸ Walk.leI hg hd hx hy (hk _ h)
   ·exact hW ▸ Walk.gtI hg hd hx hy (hk _ h)
   ·exact hW ▸ Walk.geI hg hd hx hy (hk _ h)
   ·exact hW ▸ Walk.addI hg hd hx hy h.b (hk _ h.k)
   ·exact hW ▸ Walk.subI hg hd hx hy h.b (hk _ h.k)
   ·exact hW ▸ Walk.mulI hg hd hx hy h.b (hk _ h.k)
   ·exact hs h
  ·split at h
   ·exact hW ▸ Walk.eqI hg hd hx hy (hk _ h)
   ·exact hW ▸ Walk.neI hg hd hx hy (hk _ h)
   ·exact hW ▸ Walk.ltI hg hd hx hy (hk _ h)
   ·exact hW ▸ Walk.leI hg hd hx hy (hk _ h)
   ·exact hW ▸ Walk.gtI hg hd hx hy (hk _ h)
   ·exact hW ▸ Walk.geI hg hd hx hy (hk _ h)
   ·exact hs h
  ·exact hs h
 ·split at h
  ·exact hW ▸ Walk.eqS hg hd hx hy (hk _ h)
  ·exact hW ▸ Walk.neS hg hd hx hy (hk _ h)
  ·exact hs h
 ·exact hs h
theorem zuH (hT:TabsOK c.P T){op:Op}{k:Cont} (hkn:KN env kn) (hg:GH all env g pg) (hd:Nat.blt d c.n=true)
  (hk:∀pre prh v,k pre prh v->Walk c all chk os (zap (pg++pre) prh [] ⟨some (d,v),[]⟩::recs) ⟨(d,v)::env,hp⟩ Q)
  (h:evV T env hp kn k (Walk c all chk (⟨some d,op,ty,pos,af,g⟩::os) recs ⟨env,hp⟩ Q) op):
  Walk c all chk (⟨some d,op,ty,pos,af,g⟩::os) recs ⟨env,hp⟩ Q:=by
 unfold evV at h;split at h
 ·split at h
  ·rename_i hx;exact Walk.move hg hd hx (hk _ _ _ h)
  ·exact h
 ·split at h
  ·rename_i hx;exact Walk.assign hg hd hx (hk _ _ _ h)
  ·exact h
 ·split at h
  ·rename_i b hx;split at h
   ·rename_i hkt;obtain⟨b',h1,h2⟩:=zfs hkn hkt;rw[hx] at h1;cases h1;split at h
    ·rename_i hy;exact Walk.pickT (x:= .tmp _) hg hd hx h2 hy (hk _ _ _ h)
    ·exact h
   ·rename_i hkt;obtain⟨b',h1,h2⟩:=zfs hkn hkt;rw[hx] at h1;cases h1;split at h
    ·rename_i hy;exact Walk.pickF (x:= .tmp _) hg hd hx h2 hy (hk _ _ _ h)
    ·exact h
   ·exact h
  ·exact h
 ·split at h
  ·rename_i hx hy;exact zyG id hg hd hx hy (fun r hr=>hk _ _ _ hr) Z h
  ·exact h
 ·split at h
  ·rename_i hx;exact Walk.not hg hd hx (hk _ _ _ h)
  ·exact h
 ·split at h
  ·rename_i hx;split at h
   ·rename_i hh;split at h
    ·rename_i ht;split at h
     ·rename_i hv;exact xbR (hT.ty _ _ _ ht) hg hd hx hh hv (hk _ _ _ h)
     ·exact h
    ·rename_i ht;split at h
     ·rename_i hv;exact xbS (hT.ty _ _ _ ht) hg hd hx hh hv (hk _ _ _ h)
     ·exact h
    ·exact h
   ·exact h
  ·rename_i hx;split at h
   ·rename_i ht;split at h
    ·rename_i hv;exact xbT (hT.ty _ _ _ ht) hg hd hx hv (hk _ _ _ h)
    ·exact h
   ·rename_i ht;split at h
    ·rename_i hv;split at h
     ·rename_i hm;exact Walk.loadPA (hT.ty _ _ _ ht) hg hd hx hv hm (hk _ _ _ h)
     ·exact h
    ·exact h
   ·exact h
  ·exact h
 ·split at h
  ·rename_i hx;split at h
   ·rename_i hf;exact Walk.fieldB (hT.fd _ _ _ hf) hg hd hx (hk _ _ _ h)
   ·exact h
  ·rename_i hx;split at h
   ·rename_i hf;exact Walk.fieldP (hT.fd _ _ _ hf) hg hd hx (hk _ _ _ h)
   ·exact h
  ·exact h
 ·split at h
  ·rename_i hx;split at h
   ·rename_i hv;exact Walk.extract hg hd hx hv (hk _ _ _ h)
   ·exact h
  ·exact h
 ·split at h
  ·rename_i hx;exact Walk.nilCheck (.inl ⟨_,_,Z⟩) hg hd hx (hk _ _ _ h)
  ·rename_i hx;exact Walk.nilCheck (.inr ⟨_,_,Z⟩) hg hd hx (hk _ _ _ h)
  ·exact h
 ·split at h
  ·rename_i hx;split at h
   ·rename_i ht;exact Walk.lenS (hT.st _ ht) hg hd hx (hk _ _ _ h)
   ·exact h
  ·rename_i hx;split at h
   ·rename_i ht;obtain⟨_,_,_,ht⟩:=hT.sl _ ht;exact Walk.len ht hg hd hx (hk _ _ _ h)
   ·exact h
  ·rename_i hx;split at h
   ·rename_i ht;obtain⟨_,_,_,ht⟩:=hT.sl _ ht;exact Walk.lenG ht hg hd hx (hk _ _ _ h)
   ·exact h
  ·rename_i hx;split at h
   ·rename_i ht;obtain⟨_,_,_,ht⟩:=hT.sl _ ht;exact Walk.lenM ht hg hd hx (hk _ _ _ h)
   ·exact h
  ·exact h
 ·exact h
end
def evGo (T:Tabs) (stop:List Nat) (c:Ctx) (all:Array Oper) (chk:List Rec->Prop) (Q:St->Prop) (o:Oper) (os:List Oper) (recs:List Rec) (env:Env) (hp:Hp)
  (ih:List Rec->Env->Hp->List (Nat×Bool)->Prop) (d e:Nat) (b:Bool) (kn:List (Nat×Bool)) (op:Op):Prop:=
 match memN stop d with
 |true=>Walk c all chk (o::os) recs ⟨env,hp⟩ Q
 |false=>evV T env hp kn (fun pre prh v=>ih (zap ([(e,.d (.bool b))]++pre) prh [] ⟨some (d,v),[]⟩::recs) ((d,v)::env) hp (kdel kn d)) (Walk c all chk (o::os) recs ⟨env,hp⟩ Q) op
def zq9 (T:Tabs) (stop:List Nat) (c:Ctx) (all:Array Oper) (chk:List Rec->Prop) (Q:St->Prop) (o:Oper) (os:List Oper) (ih:List Rec->Env->Hp->List (Nat×Bool)->Prop)
  (recs:List Rec) (env:Env) (hp:Hp) (kn:List (Nat×Bool)):Prop:=
 match o.dst with
  |none=>match o.guard with
   |none=>Walk c all chk (o::os) recs ⟨env,hp⟩ Q
   |some (j,want)=>match (all[j]?).bind (·.dst) with
    |none=>Walk c all chk (o::os) recs ⟨env,hp⟩ Q
    |some e=>match getE env e with
     |some (.tup [])=>ih (zap [(e,.tup [])] [] [] ⟨none,[]⟩::recs) env hp kn
     |some (.d (.bool b))=>match kget kn e,want with
      |some true,true=>Walk c all chk (o::os) recs ⟨env,hp⟩ Q
      |some false,false=>Walk c all chk (o::os) recs ⟨env,hp⟩ Q
      |some _,_=>ih (zap [(e,.d (.bool b))] [] [] ⟨none,[]⟩::recs) env hp kn
      |none,true=>Sp b (Walk c all chk (o::os) recs ⟨env,hp⟩ Q) (ih (zap [(e,.d (.bool b))] [] [] ⟨none,[]⟩::recs) env hp ((e,false)::kn))
      |none,false=>Sp b (ih (zap [(e,.d (.bool b))] [] [] ⟨none,[]⟩::recs) env hp ((e,true)::kn)) (Walk c all chk (o::os) recs ⟨env,hp⟩ Q)
     |_=>Walk c all chk (o::os) recs ⟨env,hp⟩ Q
  |some d=>match Nat.blt d c.n with
   |false=>Walk c all chk (o::os) recs ⟨env,hp⟩ Q
   |true=>match o.guard with
    |none=>match memN stop d with
     |true=>Walk c all chk (o::os) recs ⟨env,hp⟩ Q
     |false=>evV T env hp kn (fun pre prh v=>ih (zap ([]++pre) prh [] ⟨some (d,v),[]⟩::recs) ((d,v)::env) hp (kdel kn d))
       (Walk c all chk (o::os) recs ⟨env,hp⟩ Q) o.op
    |some (j,want)=>match (all[j]?).bind (·.dst) with
     |none=>Walk c all chk (o::os) recs ⟨env,hp⟩ Q
     |some e=>match getE env e with
      |some (.tup [])=>ih (zap [(e,.tup [])] [] [] ⟨some (d,.tup []),[]⟩::recs) ((d,.tup [])::env) hp (kdel kn d)
      |some (.d (.bool b))=>match kget kn e,want with
       |some true,true=>evGo T stop c all chk Q o os recs env hp ih d e b kn o.op
       |some false,false=>evGo T stop c all chk Q o os recs env hp ih d e b kn o.op
       |some _,_=>ih (zap [(e,.d (.bool b))] [] [] ⟨some (d,.tup []),[]⟩::recs) ((d,.tup [])::env) hp (kdel kn d)
       |none,true=>Sp b (evGo T stop c all chk Q o os recs env hp ih d e b ((e,true)::kn) o.op) (ih (zap [(e,.d (.bool b))] [] [] ⟨some (d,.tup []),[]⟩::recs) ((d,.tup [])::env) hp (kdel ((e,false)::kn) d))
       |none,false=>Sp b (ih (zap [(e,.d (.bool b))] [] [] ⟨some (d,.tup []),[]⟩::recs) ((d,.tup [])::env) hp (kdel ((e,true)::kn) d)) (evGo T stop c all chk Q o os recs env hp ih d e b ((e,false)::kn) o.op)
      |_=>Walk c all chk (o::os) recs ⟨env,hp⟩ Q
noncomputable def evW (T:Tabs) (stop:List Nat) (c:Ctx) (all:Array Oper) (chk:List Rec->Prop) (Q:St->Prop) (fin:List Rec->Env->Hp->Prop) (os:List Oper):List Rec->Env->Hp->List (Nat×Bool)->Prop:=
 List.rec (motive:=fun _=>List Rec->Env->Hp->List (Nat×Bool)->Prop) (fun recs env hp _=>fin recs env hp) (fun o os ih=>zq9 T stop c all chk Q o os ih) os
section
variable {T:Tabs}{c:Ctx}{all:Array Oper}{chk:List Rec->Prop}{Q:St->Prop}{stop:List Nat}{fin:List Rec->Env->Hp->Prop}
theorem zhu {env:Env}{e:Nat}{b v:Bool}{kn:List (Nat×Bool)} (he:getE env e=some (.d (.bool b))) (hb:b=v) (hk:KN env kn):KN env ((e,v)::kn):=⟨⟨b,he,hb⟩,hk⟩
theorem zku (hT:TabsOK c.P T) (hfin:∀recs env hp,fin recs env hp->chk recs/\Q ⟨env,hp⟩):∀ {os:List Oper}{recs:List Rec}{env:Env}{hp:Hp}{kn:List (Nat×Bool)},
  KN env kn->evW T stop c all chk Q fin os recs env hp kn->Walk c all chk os recs ⟨env,hp⟩ Q
 | [],recs,env,hp,kn,hkn,h=>by
  unfold evW at h;exact hfin _ _ _ h
 |⟨dst,op,ty,pos,af,g⟩::os,recs,env,hp,kn,hkn,h=>by
  have ih:=fun {recs:List Rec}{env:Env}{hp:Hp}{kn:List (Nat×Bool)}=>@zku hT hfin os recs env hp kn;replace h:zq9 T stop c all chk Q ⟨dst,op,ty,pos,af,g⟩ os (evW T stop c all chk Q fin os) recs env hp kn:=h
  generalize evW T stop c all chk Q fin os=ihf at h ih;unfold zq9 at h;cases dst with
  |none=>
   simp only at h;cases g with
   |none=>exact h
   |some g=>
    obtain⟨j,want⟩:=g;simp only at h;split at h
    ·exact h
    ·rename_i e he;split at h
     ·rename_i hu;exact Walk.passU0 Z he hu Z (ih hkn h)
     ·rename_i b hb;have pass:∀ {kn':List (Nat×Bool)},b = !want->KN env kn'->ihf (zap [(e,.d (.bool b))] [] [] ⟨none,[]⟩::recs) env hp kn'->
        Walk c all chk (⟨none,op,ty,pos,af,some (j,want)⟩::os) recs ⟨env,hp⟩ Q:=fun h2 hk h=>Walk.pass0 rfl he hb h2 rfl (ih hk h)
      split at h
      ·exact h
      ·exact h
      ·rename_i w1 x1 w2 v hv h1 h2;obtain⟨b',h3,h4⟩:=zfs hkn hv;rw[hb] at h3;cases h3;refine pass ?_ hkn h;cases w1<;>cases v<;>simp_all
      ·exact Walk.split hb (fun hb'=>h.t hb') (fun hb'=>pass hb' (zhu hb hb' hkn) (h.f hb'))
      ·exact Walk.split hb (fun hb'=>pass hb' (zhu hb hb' hkn) (h.t hb')) (fun hb'=>h.f hb')
     ·exact h
  |some d=>
   simp only at h;split at h
   ·exact h
   ·rename_i hd;cases g with
    |none=>
     simp only at h;split at h
     ·exact h
     ·exact zuH hT hkn .none hd (fun pre prh v hk=>ih (zht hkn) hk) h
    |some g=>
     obtain⟨j,want⟩:=g;simp only at h;split at h
     ·exact h
     ·rename_i e he;split at h
      ·rename_i hu;exact Walk.passU Z he hu Z hd (ih (zht hkn) h)
      ·rename_i b hb;have go:∀ {kn':List (Nat×Bool)},b=want->KN env kn'->evGo T stop c all chk Q ⟨some d,op,ty,pos,af,some (j,want)⟩ os recs env hp ihf d e b kn' op->
         Walk c all chk (⟨some d,op,ty,pos,af,some (j,want)⟩::os) recs ⟨env,hp⟩ Q:=by
        intro kn' h2 hk h;unfold evGo at h;split at h
        ·exact h
        ·exact zuH hT hk (.some he hb h2) hd (fun pre prh v hk'=>ih (zht hk) hk') h
       have pass:∀ {kn':List (Nat×Bool)},b = !want->KN env kn'->ihf (zap [(e,.d (.bool b))] [] [] ⟨some (d,.tup []),[]⟩::recs) ((d,.tup [])::env) hp (kdel kn' d)->
         Walk c all chk (⟨some d,op,ty,pos,af,some (j,want)⟩::os) recs ⟨env,hp⟩ Q:=fun h2 hk h=>Walk.pass rfl he hb h2 rfl hd (ih (zht hk) h)
       split at h
       ·rename_i hv;obtain⟨b',h3,h4⟩:=zfs hkn hv;rw[hb] at h3;cases h3;exact go h4 hkn h
       ·rename_i hv;obtain⟨b',h3,h4⟩:=zfs hkn hv;rw[hb] at h3;cases h3;exact go h4 hkn h
       ·rename_i w1 x1 w2 v hv h1 h2;obtain⟨b',h3,h4⟩:=zfs hkn hv;rw[hb] at h3;cases h3;refine pass ?_ hkn h;cases w1<;>cases v<;>simp_all
       ·exact Walk.split hb (fun hb'=>go hb' (zhu hb hb' hkn) (h.t hb')) (fun hb'=>pass hb' (zhu hb hb' hkn) (h.f hb'))
       ·exact Walk.split hb (fun hb'=>pass hb' (zhu hb hb' hkn) (h.t hb')) (fun hb'=>go hb' (zhu hb hb' hkn) (h.f hb'))
      ·exact h
end
noncomputable def evC (T:Tabs) (stop rs:List Nat) (c:Ctx) (x:Code):St->Kt->Prop:=
 Code.rec (motive:=fun _=>St->Kt->Prop)
  (fun s K=>K.n s)
  (fun id all draw s K=>match memN rs id with
   |true=>CWp c (.region id all draw) s K
   |false=>match draw with
    |false=>evW T stop c all (fun _=>True) K.n (fun _ env hp=>K.n ⟨env,hp⟩) all.toList [] s.env s.hp []
    |true=>evW T stop c all (fun recs=>chkB all.toList s recs.reverse=true) K.n (fun recs env hp=>chkB all.toList s recs.reverse=true/\K.n ⟨env,hp⟩) all.toList [] s.env s.hp [])
  (fun _ _ ihx ihy s K=>ihx s (K.with fun s'=>ihy s' K))
  (fun x t e iht ihe s K=>match x with
   | .tmp i=>match memN rs (1000000+i) with
    |true=>CWp c (.cond (.tmp i) t e) s K
    |false=>match getE s.env i with
     |some (.d (.bool b))=>Sp b (iht s K) (ihe s K)
     |_=>CWp c (.cond (.tmp i) t e) s K
   |x=>CWp c (.cond x t e) s K)
  (fun id _ ih s K=>ih s (K.blk id))
  (fun x _ s K=>CWp c (.loop x) s K)
  (fun f p a b _ _ s K=>CWp c (.rangeFunc f p a b) s K)
  (fun id s K=>K.ex id s)
  (fun x _ s K=>CWp c (.scope x) s K)
  (fun _ s K=>K.n s)
  (fun l s K=>CWp c (.goto l) s K)
  (fun s K=>match memN rs 999999 with|true=>CWp c .ret s K|false=>K.rt s)
  (fun w s K=>CWp c (.refuse w) s K) x
theorem CWp.mono {c:Ctx}{x:Code}{s:St}{K K':Kt} (h:CWp c x s K) (h1:∀s,K.n s->K'.n s) (h2:∀i s,K.ex i s->K'.ex i s) (h3:∀s,K.rt s->K'.rt s):CWp c x s K':=by
 intro a w hr;refine wp_mono (h a w hr) ?_;intro e a' w' hq;cases e with
 |normal=>obtain⟨s',hr',hn⟩:=hq;exact⟨s',hr',h1 _ hn⟩
 |exit id=>obtain⟨s',hr',hn⟩:=hq;exact⟨s',hr',h2 _ _ hn⟩
 |ret=>obtain⟨s',hr',hn⟩:=hq;exact⟨s',hr',h3 _ hn⟩
 |goto l=>exact hq.elim
 |panic ch=>exact hq.elim
 |outgrown=>exact hq.elim
theorem zhF {T:Tabs}{stop rs:List Nat}{c:Ctx} (hT:TabsOK c.P T) (hm:c.P.follows .mixedOrders=true):∀ {x:Code}{s:St}{K:Kt},evC T stop rs c x s K->CWp c x s K
 | .skip,s,K,h=>CWp.skip h
 | .exit id,s,K,h=>CWp.exit h
 | .ret,s,K,h=>by
  unfold evC at h;simp only at h;split at h
  ·exact h
  ·exact CWp.ret h
 | .label _,s,K,h=>CWp.label h
 | .seq x y,s,K,h=>CWp.seq ((zhF (x:=x) (s:=s) (K:=K.with fun s'=>evC T stop rs c y s' K) hT hm h).mono (fun _ h'=>zhF (x:=y) hT hm h') (fun _ _ h=>h) (fun _ h=>h))
 | .block id x,s,K,h=>CWp.block (zhF (x:=x) (K:=K.blk id) hT hm h)
 | .cond x t e,s,K,h=>by
  have ht:∀ {s:St}{K:Kt},evC T stop rs c t s K->CWp c t s K:=zhF hT hm;have he:∀ {s:St}{K:Kt},evC T stop rs c e s K->CWp c e s K:=zhF hT hm;cases x with
  |tmp i=>
   unfold evC at h ht he;simp only at h;split at h
   ·exact h
   ·split at h
    ·rename_i hc;exact CWp.cond hc (fun hb=>ht (h.t hb)) (fun hb=>he (h.f hb))
    ·exact h
  |_=>exact h
 | .region id all draw,s,K,h=>by
  unfold evC at h;simp only at h;split at h
  ·exact h
  ·cases draw with
   |false=>exact CWp.region Z (zku (kn:=[]) hT (fun _ _ _ h=>⟨O,h⟩) O h)
   |true=>exact CWp.drawn hm Z (zku (kn:=[]) hT (fun _ _ _ h=>h) O h)
 | .loop _,s,K,h=>h
 | .rangeFunc ..,s,K,h=>h
 | .scope _,s,K,h=>h
 | .goto _,s,K,h=>h
 | .refuse _,s,K,h=>h
def lk {α:Type}:List (Nat×α)->Nat->Option α
 | [],_=>none
 |(k,v)::r,i=>bif Nat.beq k i then some v else lk r i
def lk2:List (Nat×Nat×Nat)->Nat->Nat->Option Nat
 | [],_,_=>none
 |(k,j,v)::r,i,f=>bif Nat.beq k i&&Nat.beq j f then some v else lk2 r i f
theorem zuS {α:Type}{v:α}:∀ {l:List (Nat×α)}{i:Nat},lk l i=some v->(i,v)∈l
 |(k,u)::r,i,h=>by
  simp only[lk] at h;cases hb:Nat.beq k i with
  |true=>simp only[hb,cond_true,xae] at h;subst h;obtain rfl:=xap hb;simp
  |false=>simp only[hb,cond_false] at h;exact List.mem_cons_of_mem _ (zuS h)
theorem zsV {v:Nat}:∀ {l:List (Nat×Nat×Nat)}{i f:Nat},lk2 l i f=some v->(i,f,v)∈l
 |(k,j,u)::r,i,f,h=>by
  simp only[lk2] at h;cases hb:Nat.beq k i&&Nat.beq j f with
  |true=>
   simp only[hb,cond_true,xae] at h;obtain⟨h1,h2⟩:=xad _ _ ▸ hb;obtain rfl:=xap h1;obtain rfl:=xap h2;subst h;simp
  |false=>simp only[hb,cond_false] at h;exact List.mem_cons_of_mem _ (zsV h)
theorem zmo:∀ {l:List Nat}{i:Nat},memN l i=true->i∈l
 |k::r,i,h=>by
  simp only[memN] at h;cases hb:Nat.beq k i with
  |true=>obtain rfl:=xap hb;simp
  |false=>simp only[hb,cond_false] at h;exact List.mem_cons_of_mem _ (zmo h)
def strB:Option TypeDesc->Bool
 |some .string=>true
 |_=>false
theorem TabsOK.of {P:Program}{ty:List (Nat×Nat×Bool)}{sl st:List Nat}{fd:List (Nat×Nat×Nat)}
  (h1:ty.map (fun p=>zqx P p.1)=ty.map (fun p=>some p.2)) (h2:sl.all (fun t=>(ztL P t).isSome)=true)
  (h3:st.all (fun t=>strB (P.underlying t))=true) (h4:fd.map (fun p=>ztr P p.1 p.2.1)=fd.map (fun p=>some (p.2.2,false))):TabsOK P ⟨lk ty,memN sl,memN st,lk2 fd⟩:=by
 refine⟨fun t k b h=>xbf ?_,fun t h=>?_,fun t h=>?_,fun t f o h=>Fd.of ?_⟩
 ·exact List.map_inj_left.1 h1 _ (zuS h)
 ·have:=List.all_eq_true.1 h2 t (zmo h);obtain⟨⟨e,k,y⟩,h⟩:=Option.isSome_iff_exists.1 this;exact⟨e,k,y,xbd h⟩
 ·have:=List.all_eq_true.1 h3 t (zmo h);revert this
  cases P.underlying t with
  |none=>intro h;cases h
  |some d=>cases d<;>intro h<;>first|rfl|cases h
 ·exact List.map_inj_left.1 h4 _ (zsV h)
set_option maxRecDepth 100000
theorem ty3:TyS Tryz.prog 3 1 false:=xbf oq
theorem ty4:TyS Tryz.prog 4 1 false:=xbf oq
theorem ty5:TyS Tryz.prog 5 1 false:=xbf oq
theorem ty9:TyS Tryz.prog 9 1 false:=xbf oq
theorem ty29:TyS Tryz.prog 29 2 true:=xbf oq
theorem ty31:TyS Tryz.prog 31 4 true:=xbf oq
theorem ty32:TyS Tryz.prog 32 1 false:=xbf oq
theorem ty33:TyS Tryz.prog 33 1 false:=xbf oq
theorem ty35:TyS Tryz.prog 35 6 true:=xbf oq
theorem ty40:TyS Tryz.prog 40 4 true:=xbf oq
theorem ty68:TyS Tryz.prog 68 3 true:=xbf oq
theorem ty72:TyS Tryz.prog 72 1 false:=xbf oq
theorem ty74:TyS Tryz.prog 74 6 true:=xbf oq
theorem ty76:TyS Tryz.prog 76 3 true:=xbf oq
theorem ty78:TyS Tryz.prog 78 9 true:=xbf oq
theorem zzQ:TyS Tryz.prog 108 1 false:=xbf oq
theorem zwK:TyS Tryz.prog 110 2 true:=xbf oq
theorem zwL:TyS Tryz.prog 136 1 false:=xbf oq
theorem zdw:TyS Tryz.prog 138 3 true:=xbf oq
theorem zwM:TyS Tryz.prog 149 3 true:=xbf oq
theorem sl22:SlT Tryz.prog 22 5 1 1:=xbd oq
theorem sl23:SlT Tryz.prog 23 110 2 40:=xbd oq
theorem sl24:SlT Tryz.prog 24 35 6 80:=xbd oq
theorem sl32:SlT Tryz.prog 32 78 9 88:=xbd oq
theorem sl33:SlT Tryz.prog 33 40 4 48:=xbd oq
theorem sl37:SlT Tryz.prog 37 3 1 8:=xbd oq
theorem sl63:SlT Tryz.prog 63 31 4 32:=xbd oq
theorem sl66:SlT Tryz.prog 66 149 3 24:=xbd oq
theorem sl72:SlT Tryz.prog 72 74 6 64:=xbd oq
theorem zcw:SlT Tryz.prog 108 138 3 48:=xbd oq
theorem zwG:SlT Tryz.prog 126 130 1 24:=xbd oq
theorem zaO:SlT Tryz.prog 130 9 1 16:=xbd oq
theorem zaz:SlT Tryz.prog 136 29 2 16:=xbd oq
theorem zex:SlT Tryz.prog 176 72 1 24:=xbd oq
theorem tz3:TyZ Tryz.prog 3 1 [.d (.int .i64 0)]:=xbg oq
theorem tz5:TyZ Tryz.prog 5 1 [.d (.int .u8 0)]:=xbg oq
theorem tz9:TyZ Tryz.prog 9 1 [.d (.str [])]:=xbg oq
theorem tz29:TyZ Tryz.prog 29 2 [.d (.int .i64 0),.d (.int .i64 0)]:=xbg oq
theorem tz31:TyZ Tryz.prog 31 4 [.d (.int .i64 0),.d (.int .i64 0),.d (.int .i64 0),.d (.int .i64 0)]:=xbg oq
theorem tz35:TyZ Tryz.prog 35 6 [.d (.int .i64 0),.d (.int .i64 0),.d (.int .i64 0),.d (.int .i64 0),.nils,.nils]:=xbg oq
theorem tz40:TyZ Tryz.prog 40 4 [.d (.int .i64 0),.d (.int .i64 0),.d (.int .i64 0),.nils]:=xbg oq
theorem tz68:TyZ Tryz.prog 68 3 [.nils,.nils,.nils]:=xbg oq
theorem tz72:TyZ Tryz.prog 72 1 [.nils]:=xbg oq
theorem tz74:TyZ Tryz.prog 74 6 [.d (.int .i64 0),.d (.int .i64 0),.d (.int .i64 0),.d (.int .i64 0),.d (.int .i64 0),.nils]:=xbg oq
theorem tz76:TyZ Tryz.prog 76 3 [.d (.int .i64 0),.d (.int .i64 0),.d (.int .i64 0)]:=xbg oq
theorem tz78:TyZ Tryz.prog 78 9 [.d (.int .i64 0),.d (.int .i64 0),.d (.int .i64 0),.d (.int .i64 0),.d (.int .i64 0),.nils,.d (.int .i64 0),.d (.int .i64 0),.d (.int .i64 0)]:=xbg oq
theorem ztR:TyZ Tryz.prog 110 2 [.d (.str []),.nils]:=xbg oq
theorem zzR:TyZ Tryz.prog 130 1 [.nils]:=xbg oq
theorem zhp:TyZ Tryz.prog 138 3 [.d (.str []),.nils,.d (.int .i64 0)]:=xbg oq
theorem ztS:TyZ Tryz.prog 147 6 [.d (.bool false),.d (.bool false),.d (.bool false),.d (.bool false),.d (.bool false),.d (.bool false)]:=xbg oq
theorem zqy:TyZ Tryz.prog 149 3 [.d (.int .i64 0),.d (.int .i64 0),.d (.int .i64 0)]:=xbg oq
theorem zzS:TyZ Tryz.prog 300 16 [.d (.int .i64 0),.d (.int .i64 0),.d (.int .i64 0),.d (.int .i64 0),.d (.int .i64 0),.d (.int .i64 0),.d (.int .i64 0),.d (.int .i64 0),.d (.int .i64 0),.d (.int .i64 0),.d (.int .i64 0),.d (.int .i64 0),.d (.int .i64 0),.d (.int .i64 0),.d (.int .i64 0),.d (.int .i64 0)]:=xbg oq
theorem zz3:ZeroT Tryz.prog 3 1:=xce oq
theorem zz9:ZeroT Tryz.prog 9 1:=xce oq
theorem zz29:ZeroT Tryz.prog 29 2:=xce oq
theorem zz31:ZeroT Tryz.prog 31 4:=xce oq
theorem zz35:ZeroT Tryz.prog 35 6:=xce oq
theorem zz40:ZeroT Tryz.prog 40 4:=xce oq
theorem zz72:ZeroT Tryz.prog 72 1:=xce oq
theorem zz74:ZeroT Tryz.prog 74 6:=xce oq
theorem zz78:ZeroT Tryz.prog 78 9:=xce oq
theorem zzT:ZeroT Tryz.prog 110 2:=xce oq
theorem zzU:ZeroT Tryz.prog 138 3:=xce oq
theorem zqB:ZeroT Tryz.prog 149 3:=xce oq
theorem st29:StT Tryz.prog 29 [(0,1),(1,1)] [.d (.int .i64 0),.d (.int .i64 0)]:=xbe oq
theorem st31:StT Tryz.prog 31 [(0,2),(2,2)] [.d (.int .i64 0),.d (.int .i64 0),.d (.int .i64 0),.d (.int .i64 0)]:=xbe oq
theorem st35:StT Tryz.prog 35 [(0,4),(4,1),(5,1)] [.d (.int .i64 0),.d (.int .i64 0),.d (.int .i64 0),.d (.int .i64 0),.nils,.nils]:=xbe oq
theorem st40:StT Tryz.prog 40 [(0,1),(1,1),(2,1),(3,1)] [.d (.int .i64 0),.d (.int .i64 0),.d (.int .i64 0),.nils]:=xbe oq
theorem st68:StT Tryz.prog 68 [(0,1),(1,1),(2,1)] [.nils,.nils,.nils]:=xbe oq
theorem st74:StT Tryz.prog 74 [(0,1),(1,1),(2,1),(3,1),(4,1),(5,1)] [.d (.int .i64 0),.d (.int .i64 0),.d (.int .i64 0),.d (.int .i64 0),.d (.int .i64 0),.nils]:=xbe oq
theorem st76:StT Tryz.prog 76 [(0,1),(1,1),(2,1)] [.d (.int .i64 0),.d (.int .i64 0),.d (.int .i64 0)]:=xbe oq
theorem st78:StT Tryz.prog 78 [(0,6),(6,3)] [.d (.int .i64 0),.d (.int .i64 0),.d (.int .i64 0),.d (.int .i64 0),.d (.int .i64 0),.nils,.d (.int .i64 0),.d (.int .i64 0),.d (.int .i64 0)]:=xbe oq
theorem zzO:StT Tryz.prog 110 [(0,1),(1,1)] [.d (.str []),.nils]:=xbe oq
theorem zwH:StT Tryz.prog 124 [(0,1),(1,1)] [.nils,.d (.int .i64 0)]:=xbe oq
theorem zwI:StT Tryz.prog 138 [(0,1),(1,1),(2,1)] [.d (.str []),.nils,.d (.int .i64 0)]:=xbe oq
theorem ztN:StT Tryz.prog 149 [(0,1),(1,2)] [.d (.int .i64 0),.d (.int .i64 0),.d (.int .i64 0)]:=xbe oq
theorem zzP:StT Tryz.prog 253 [(0,1),(1,1)] [.nils,.d .nilp]:=xbe oq
theorem zqi:ArT Tryz.prog 147 6 4 1:=ArT.of oq
theorem ztf:ArT Tryz.prog 298 4 3 1:=ArT.of oq
theorem zqj:ArT Tryz.prog 300 4 298 4:=ArT.of oq
theorem un3:Tryz.prog.underlying 3=some (.int .i64):=by kernel_rfl
theorem un4:Tryz.prog.underlying 4=some (.bool):=by kernel_rfl
theorem un5:Tryz.prog.underlying 5=some (.int .u8):=by kernel_rfl
theorem un9:Tryz.prog.underlying 9=some (.string):=by kernel_rfl
theorem zqt:MapT Tryz.prog 141:=MapT.of oq
theorem eq29:EqT Tryz.prog 29 2:=⟨by kernel_rfl,by kernel_rfl,by kernel_rfl,by kernel_rfl,by kernel_rfl⟩
theorem eq76:EqT Tryz.prog 76 3:=⟨by kernel_rfl,by kernel_rfl,by kernel_rfl,by kernel_rfl,by kernel_rfl⟩
theorem zzD:EqT2 Tryz.prog 149 3:=⟨by kernel_rfl,by kernel_rfl,by kernel_rfl,by kernel_rfl,by kernel_rfl⟩
theorem cal7:Callee Tryz.prog 7:=⟨fun args w=>zad (fn:=Tryz.f7) rfl rfl om args w⟩
theorem cal8:Callee Tryz.prog 8:=⟨fun args w=>zad (fn:=Tryz.f8) rfl rfl om args w⟩
theorem zth:Callee Tryz.prog 20:=⟨fun args w=>zad (fn:=Tryz.f20) rfl rfl om args w⟩
theorem zti:Callee Tryz.prog 21:=⟨fun args w=>zad (fn:=Tryz.f21) rfl rfl om args w⟩
theorem ztj:Callee Tryz.prog 22:=⟨fun args w=>zad (fn:=Tryz.f22) rfl rfl om args w⟩
theorem zwl:Callee Tryz.prog 23:=⟨fun args w=>zad (fn:=Tryz.f23) rfl rfl om args w⟩
theorem zy9:Callee Tryz.prog 24:=⟨fun args w=>zad (fn:=Tryz.f24) rfl rfl om args w⟩
theorem zza:Callee Tryz.prog 25:=⟨fun args w=>zad (fn:=Tryz.f25) rfl rfl om args w⟩
theorem zzb:Callee Tryz.prog 27:=⟨fun args w=>zad (fn:=Tryz.f27) rfl rfl om args w⟩
theorem zzc:Callee Tryz.prog 28:=⟨fun args w=>zad (fn:=Tryz.f28) rfl rfl om args w⟩
theorem zwm:Callee Tryz.prog 29:=⟨fun args w=>zad (fn:=Tryz.f29) rfl rfl om args w⟩
theorem zzd:Callee Tryz.prog 30:=⟨fun args w=>zad (fn:=Tryz.f30) rfl rfl om args w⟩
theorem zqk:Callee Tryz.prog 31:=⟨fun args w=>zad (fn:=Tryz.f31) rfl rfl om args w⟩
theorem zze:Callee Tryz.prog 32:=⟨fun args w=>zad (fn:=Tryz.f32) rfl rfl om args w⟩
theorem zzf:Callee Tryz.prog 33:=⟨fun args w=>zad (fn:=Tryz.f33) rfl rfl om args w⟩
theorem zfl:Callee Tryz.prog 34:=⟨fun args w=>zad (fn:=Tryz.f34) rfl rfl om args w⟩
theorem zjo:Callee Tryz.prog 35:=⟨fun args w=>zad (fn:=Tryz.f35) rfl rfl om args w⟩
theorem zh9:Callee Tryz.prog 36:=⟨fun args w=>zad (fn:=Tryz.f36) rfl rfl om args w⟩
theorem zzg:Callee Tryz.prog 37:=⟨fun args w=>zad (fn:=Tryz.f37) rfl rfl om args w⟩
theorem zzh:Callee Tryz.prog 52:=⟨fun args w=>zad (fn:=Tryz.f52) rfl rfl om args w⟩
theorem zzi:Callee Tryz.prog 53:=⟨fun args w=>zad (fn:=Tryz.f53) rfl rfl om args w⟩
theorem zd7:Callee Tryz.prog 54:=⟨fun args w=>zad (fn:=Tryz.f54) rfl rfl om args w⟩
theorem zwn:Callee Tryz.prog 55:=⟨fun args w=>zad (fn:=Tryz.f55) rfl rfl om args w⟩
theorem zzj:Callee Tryz.prog 56:=⟨fun args w=>zad (fn:=Tryz.f56) rfl rfl om args w⟩
theorem zzk:Callee Tryz.prog 57:=⟨fun args w=>zad (fn:=Tryz.f57) rfl rfl om args w⟩
theorem zzl:Callee Tryz.prog 58:=⟨fun args w=>zad (fn:=Tryz.f58) rfl rfl om args w⟩
theorem ztk:Callee Tryz.prog 61:=⟨fun args w=>zad (fn:=Tryz.f61) rfl rfl om args w⟩
theorem zql:Callee Tryz.prog 62:=⟨fun args w=>zad (fn:=Tryz.f62) rfl rfl om args w⟩
theorem zeu:Callee Tryz.prog 63:=⟨fun args w=>zad (fn:=Tryz.f63) rfl rfl om args w⟩
theorem zzm:Callee Tryz.prog 64:=⟨fun args w=>zad (fn:=Tryz.f64) rfl rfl om args w⟩
theorem zzn:Callee Tryz.prog 65:=⟨fun args w=>zad (fn:=Tryz.f65) rfl rfl om args w⟩
theorem zzo:Callee Tryz.prog 66:=⟨fun args w=>zad (fn:=Tryz.f66) rfl rfl om args w⟩
theorem ztl:Callee Tryz.prog 67:=⟨fun args w=>zad (fn:=Tryz.f67) rfl rfl om args w⟩
theorem zqm:Callee Tryz.prog 68:=⟨fun args w=>zad (fn:=Tryz.f68) rfl rfl om args w⟩
theorem zzp:Callee Tryz.prog 69:=⟨fun args w=>zad (fn:=Tryz.f69) rfl rfl om args w⟩
theorem zzq:Callee Tryz.prog 70:=⟨fun args w=>zad (fn:=Tryz.f70) rfl rfl om args w⟩
theorem zzr:Callee Tryz.prog 71:=⟨fun args w=>zad (fn:=Tryz.f71) rfl rfl om args w⟩
theorem zzs:Callee Tryz.prog 72:=⟨fun args w=>zad (fn:=Tryz.f72) rfl rfl om args w⟩
theorem ztm:Callee Tryz.prog 73:=⟨fun args w=>zad (fn:=Tryz.f73) rfl rfl om args w⟩
theorem zwo:Callee Tryz.prog 74:=⟨fun args w=>zad (fn:=Tryz.f74) rfl rfl om args w⟩
theorem zzt:Callee Tryz.prog 75:=⟨fun args w=>zad (fn:=Tryz.f75) rfl rfl om args w⟩
theorem zzu:Callee Tryz.prog 76:=⟨fun args w=>zad (fn:=Tryz.f76) rfl rfl om args w⟩
theorem zzv:Callee Tryz.prog 77:=⟨fun args w=>zad (fn:=Tryz.f77) rfl rfl om args w⟩
theorem zlg:Callee Tryz.prog 78:=⟨fun args w=>zad (fn:=Tryz.f78) rfl rfl om args w⟩
theorem zjp:Callee Tryz.prog 79:=⟨fun args w=>zad (fn:=Tryz.f79) rfl rfl om args w⟩
theorem zg5:Callee Tryz.prog 80:=⟨fun args w=>zad (fn:=Tryz.f80) rfl rfl om args w⟩
theorem zwp:Callee Tryz.prog 81:=⟨fun args w=>zad (fn:=Tryz.f81) rfl rfl om args w⟩
theorem zlh:Callee Tryz.prog 84:=⟨fun args w=>zad (fn:=Tryz.f84) rfl rfl om args w⟩
theorem zqn:Callee Tryz.prog 86:=⟨fun args w=>zad (fn:=Tryz.f86) rfl rfl om args w⟩
theorem zxH:Callee Tryz.prog 111:=⟨fun args w=>zad (fn:=Tryz.f111) rfl rfl om args w⟩
theorem zt0:Callee Tryz.prog 112:=⟨fun args w=>zad (fn:=Tryz.f112) rfl rfl om args w⟩
theorem zxI:Callee Tryz.prog 113:=⟨fun args w=>zad (fn:=Tryz.f113) rfl rfl om args w⟩
theorem zxJ:Callee Tryz.prog 114:=⟨fun args w=>zad (fn:=Tryz.f114) rfl rfl om args w⟩
theorem zqH:Callee Tryz.prog 115:=⟨fun args w=>zad (fn:=Tryz.f115) rfl rfl om args w⟩
theorem zxK:Callee Tryz.prog 116:=⟨fun args w=>zad (fn:=Tryz.f116) rfl rfl om args w⟩
theorem zb2:Callee Tryz.prog 117:=⟨fun args w=>zad (fn:=Tryz.f117) rfl rfl om args w⟩
theorem zxL:Callee Tryz.prog 118:=⟨fun args w=>zad (fn:=Tryz.f118) rfl rfl om args w⟩
theorem zxM:Callee Tryz.prog 119:=⟨fun args w=>zad (fn:=Tryz.f119) rfl rfl om args w⟩
theorem zt1:Callee Tryz.prog 120:=⟨fun args w=>zad (fn:=Tryz.f120) rfl rfl om args w⟩
theorem zqI:Callee Tryz.prog 121:=⟨fun args w=>zad (fn:=Tryz.f121) rfl rfl om args w⟩
theorem ziN:Callee Tryz.prog 122:=⟨fun args w=>zad (fn:=Tryz.f122) rfl rfl om args w⟩
theorem zxN:Callee Tryz.prog 123:=⟨fun args w=>zad (fn:=Tryz.f123) rfl rfl om args w⟩
theorem zxO:Callee Tryz.prog 124:=⟨fun args w=>zad (fn:=Tryz.f124) rfl rfl om args w⟩
theorem zxP:Callee Tryz.prog 125:=⟨fun args w=>zad (fn:=Tryz.f125) rfl rfl om args w⟩
theorem zxQ:Callee Tryz.prog 126:=⟨fun args w=>zad (fn:=Tryz.f126) rfl rfl om args w⟩
theorem zxR:Callee Tryz.prog 127:=⟨fun args w=>zad (fn:=Tryz.f127) rfl rfl om args w⟩
theorem zxS:Callee Tryz.prog 128:=⟨fun args w=>zad (fn:=Tryz.f128) rfl rfl om args w⟩
theorem zxT:Callee Tryz.prog 129:=⟨fun args w=>zad (fn:=Tryz.f129) rfl rfl om args w⟩
theorem zqJ:Callee Tryz.prog 130:=⟨fun args w=>zad (fn:=Tryz.f130) rfl rfl om args w⟩
theorem zt2:Callee Tryz.prog 131:=⟨fun args w=>zad (fn:=Tryz.f131) rfl rfl om args w⟩
theorem zqK:Callee Tryz.prog 132:=⟨fun args w=>zad (fn:=Tryz.f132) rfl rfl om args w⟩
theorem zxU:Callee Tryz.prog 133:=⟨fun args w=>zad (fn:=Tryz.f133) rfl rfl om args w⟩
theorem zt3:Callee Tryz.prog 134:=⟨fun args w=>zad (fn:=Tryz.f134) rfl rfl om args w⟩
theorem zxV:Callee Tryz.prog 135:=⟨fun args w=>zad (fn:=Tryz.f135) rfl rfl om args w⟩
theorem zkl:Callee Tryz.prog 136:=⟨fun args w=>zad (fn:=Tryz.f136) rfl rfl om args w⟩
theorem zt4:Callee Tryz.prog 137:=⟨fun args w=>zad (fn:=Tryz.f137) rfl rfl om args w⟩
theorem zt5:Callee Tryz.prog 138:=⟨fun args w=>zad (fn:=Tryz.f138) rfl rfl om args w⟩
theorem zxW:Callee Tryz.prog 141:=⟨fun args w=>zad (fn:=Tryz.f141) rfl rfl om args w⟩
theorem zfL:Callee Tryz.prog 145:=⟨fun args w=>zad (fn:=Tryz.f145) rfl rfl om args w⟩
theorem zbX:Callee Tryz.prog 146:=⟨fun args w=>zad (fn:=Tryz.f146) rfl rfl om args w⟩
theorem zmQ:Callee Tryz.prog 150:=⟨fun args w=>zad (fn:=Tryz.f150) rfl rfl om args w⟩
theorem zmR:Callee Tryz.prog 151:=⟨fun args w=>zad (fn:=Tryz.f151) rfl rfl om args w⟩
theorem ziO:Callee Tryz.prog 156:=⟨fun args w=>zad (fn:=Tryz.f156) rfl rfl om args w⟩
theorem ziP:Callee Tryz.prog 157:=⟨fun args w=>zad (fn:=Tryz.f157) rfl rfl om args w⟩
theorem zxX:Callee Tryz.prog 165:=⟨fun args w=>zad (fn:=Tryz.f165) rfl rfl om args w⟩
theorem zt6:Callee Tryz.prog 166:=⟨fun args w=>zad (fn:=Tryz.f166) rfl rfl om args w⟩
theorem zxY:Callee Tryz.prog 167:=⟨fun args w=>zad (fn:=Tryz.f167) rfl rfl om args w⟩
theorem zxZ:Callee Tryz.prog 168:=⟨fun args w=>zad (fn:=Tryz.f168) rfl rfl om args w⟩
theorem zt7:Callee Tryz.prog 169:=⟨fun args w=>zad (fn:=Tryz.f169) rfl rfl om args w⟩
theorem zqL:Callee Tryz.prog 170:=⟨fun args w=>zad (fn:=Tryz.f170) rfl rfl om args w⟩
theorem zx0:Callee Tryz.prog 171:=⟨fun args w=>zad (fn:=Tryz.f171) rfl rfl om args w⟩
theorem zx1:Callee Tryz.prog 172:=⟨fun args w=>zad (fn:=Tryz.f172) rfl rfl om args w⟩
theorem zx2:Callee Tryz.prog 173:=⟨fun args w=>zad (fn:=Tryz.f173) rfl rfl om args w⟩
theorem zx3:Callee Tryz.prog 174:=⟨fun args w=>zad (fn:=Tryz.f174) rfl rfl om args w⟩
theorem zmS:Callee Tryz.prog 175:=⟨fun args w=>zad (fn:=Tryz.f175) rfl rfl om args w⟩
theorem zmT:Callee Tryz.prog 176:=⟨fun args w=>zad (fn:=Tryz.f176) rfl rfl om args w⟩
theorem zx4:Callee Tryz.prog 177:=⟨fun args w=>zad (fn:=Tryz.f177) rfl rfl om args w⟩
theorem zmU:Callee Tryz.prog 178:=⟨fun args w=>zad (fn:=Tryz.f178) rfl rfl om args w⟩
theorem zt8:Callee Tryz.prog 179:=⟨fun args w=>zad (fn:=Tryz.f179) rfl rfl om args w⟩
theorem zt9:Callee Tryz.prog 180:=⟨fun args w=>zad (fn:=Tryz.f180) rfl rfl om args w⟩
theorem zx5:Callee Tryz.prog 181:=⟨fun args w=>zad (fn:=Tryz.f181) rfl rfl om args w⟩
theorem zua:Callee Tryz.prog 182:=⟨fun args w=>zad (fn:=Tryz.f182) rfl rfl om args w⟩
theorem zqM:Callee Tryz.prog 183:=⟨fun args w=>zad (fn:=Tryz.f183) rfl rfl om args w⟩
theorem zub:Callee Tryz.prog 184:=⟨fun args w=>zad (fn:=Tryz.f184) rfl rfl om args w⟩
theorem zuc:Callee Tryz.prog 185:=⟨fun args w=>zad (fn:=Tryz.f185) rfl rfl om args w⟩
theorem zmV:Callee Tryz.prog 186:=⟨fun args w=>zad (fn:=Tryz.f186) rfl rfl om args w⟩
theorem zmW:Callee Tryz.prog 187:=⟨fun args w=>zad (fn:=Tryz.f187) rfl rfl om args w⟩
theorem zqN:Callee Tryz.prog 188:=⟨fun args w=>zad (fn:=Tryz.f188) rfl rfl om args w⟩
theorem zx6:Callee Tryz.prog 189:=⟨fun args w=>zad (fn:=Tryz.f189) rfl rfl om args w⟩
theorem zx7:Callee Tryz.prog 190:=⟨fun args w=>zad (fn:=Tryz.f190) rfl rfl om args w⟩
theorem zqO:Callee Tryz.prog 191:=⟨fun args w=>zad (fn:=Tryz.f191) rfl rfl om args w⟩
theorem zx8:Callee Tryz.prog 194:=⟨fun args w=>zad (fn:=Tryz.f194) rfl rfl om args w⟩
theorem zx9:Callee Tryz.prog 195:=⟨fun args w=>zad (fn:=Tryz.f195) rfl rfl om args w⟩
theorem zqP:Callee Tryz.prog 197:=⟨fun args w=>zad (fn:=Tryz.f197) rfl rfl om args w⟩
theorem zud:Callee Tryz.prog 209:=⟨fun args w=>zad (fn:=Tryz.f209) rfl rfl om args w⟩
theorem zya:Callee Tryz.prog 210:=⟨fun args w=>zad (fn:=Tryz.f210) rfl rfl om args w⟩
theorem zyb:Callee Tryz.prog 211:=⟨fun args w=>zad (fn:=Tryz.f211) rfl rfl om args w⟩
theorem zyc:Callee Tryz.prog 212:=⟨fun args w=>zad (fn:=Tryz.f212) rfl rfl om args w⟩
theorem zkm:Callee Tryz.prog 213:=⟨fun args w=>zad (fn:=Tryz.f213) rfl rfl om args w⟩
theorem zyd:Callee Tryz.prog 214:=⟨fun args w=>zad (fn:=Tryz.f214) rfl rfl om args w⟩
theorem zkn:Callee Tryz.prog 215:=⟨fun args w=>zad (fn:=Tryz.f215) rfl rfl om args w⟩
theorem zue:Callee Tryz.prog 216:=⟨fun args w=>zad (fn:=Tryz.f216) rfl rfl om args w⟩
theorem zuf:Callee Tryz.prog 217:=⟨fun args w=>zad (fn:=Tryz.f217) rfl rfl om args w⟩
theorem zhC:Callee Tryz.prog 218:=⟨fun args w=>zad (fn:=Tryz.f218) rfl rfl om args w⟩
theorem zye:Callee Tryz.prog 219:=⟨fun args w=>zad (fn:=Tryz.f219) rfl rfl om args w⟩
theorem zqQ:Callee Tryz.prog 220:=⟨fun args w=>zad (fn:=Tryz.f220) rfl rfl om args w⟩
theorem zyf:Callee Tryz.prog 221:=⟨fun args w=>zad (fn:=Tryz.f221) rfl rfl om args w⟩
theorem zyg:Callee Tryz.prog 222:=⟨fun args w=>zad (fn:=Tryz.f222) rfl rfl om args w⟩
theorem zug:Callee Tryz.prog 223:=⟨fun args w=>zad (fn:=Tryz.f223) rfl rfl om args w⟩
theorem zmX:Callee Tryz.prog 224:=⟨fun args w=>zad (fn:=Tryz.f224) rfl rfl om args w⟩
theorem zuh:Callee Tryz.prog 225:=⟨fun args w=>zad (fn:=Tryz.f225) rfl rfl om args w⟩
theorem zyh:Callee Tryz.prog 226:=⟨fun args w=>zad (fn:=Tryz.f226) rfl rfl om args w⟩
theorem zmY:Callee Tryz.prog 227:=⟨fun args w=>zad (fn:=Tryz.f227) rfl rfl om args w⟩
theorem zfe:Callee Tryz.prog 228:=⟨fun args w=>zad (fn:=Tryz.f228) rfl rfl om args w⟩
theorem zui:Callee Tryz.prog 229:=⟨fun args w=>zad (fn:=Tryz.f229) rfl rfl om args w⟩
theorem zyi:Callee Tryz.prog 230:=⟨fun args w=>zad (fn:=Tryz.f230) rfl rfl om args w⟩
theorem zqR:Callee Tryz.prog 231:=⟨fun args w=>zad (fn:=Tryz.f231) rfl rfl om args w⟩
theorem zuj:Callee Tryz.prog 232:=⟨fun args w=>zad (fn:=Tryz.f232) rfl rfl om args w⟩
theorem zqS:Callee Tryz.prog 233:=⟨fun args w=>zad (fn:=Tryz.f233) rfl rfl om args w⟩
theorem zqT:Callee Tryz.prog 234:=⟨fun args w=>zad (fn:=Tryz.f234) rfl rfl om args w⟩
theorem ziQ:Callee Tryz.prog 235:=⟨fun args w=>zad (fn:=Tryz.f235) rfl rfl om args w⟩
theorem zyj:Callee Tryz.prog 236:=⟨fun args w=>zad (fn:=Tryz.f236) rfl rfl om args w⟩
theorem zeC:Callee Tryz.prog 237:=⟨fun args w=>zad (fn:=Tryz.f237) rfl rfl om args w⟩
theorem zyk:Callee Tryz.prog 238:=⟨fun args w=>zad (fn:=Tryz.f238) rfl rfl om args w⟩
theorem zyl:Callee Tryz.prog 239:=⟨fun args w=>zad (fn:=Tryz.f239) rfl rfl om args w⟩
theorem zuk:Callee Tryz.prog 240:=⟨fun args w=>zad (fn:=Tryz.f240) rfl rfl om args w⟩
theorem zym:Callee Tryz.prog 241:=⟨fun args w=>zad (fn:=Tryz.f241) rfl rfl om args w⟩
theorem zyn:Callee Tryz.prog 242:=⟨fun args w=>zad (fn:=Tryz.f242) rfl rfl om args w⟩
theorem zqU:Callee Tryz.prog 243:=⟨fun args w=>zad (fn:=Tryz.f243) rfl rfl om args w⟩
theorem zqV:Callee Tryz.prog 244:=⟨fun args w=>zad (fn:=Tryz.f244) rfl rfl om args w⟩
theorem zmZ:Callee Tryz.prog 245:=⟨fun args w=>zad (fn:=Tryz.f245) rfl rfl om args w⟩
theorem ziR:Callee Tryz.prog 246:=⟨fun args w=>zad (fn:=Tryz.f246) rfl rfl om args w⟩
theorem zm0:Callee Tryz.prog 247:=⟨fun args w=>zad (fn:=Tryz.f247) rfl rfl om args w⟩
theorem ziS:Callee Tryz.prog 248:=⟨fun args w=>zad (fn:=Tryz.f248) rfl rfl om args w⟩
theorem zyo:Callee Tryz.prog 255:=⟨fun args w=>zad (fn:=Tryz.f255) rfl rfl om args w⟩
theorem zul:Callee Tryz.prog 256:=⟨fun args w=>zad (fn:=Tryz.f256) rfl rfl om args w⟩
theorem zqW:Callee Tryz.prog 257:=⟨fun args w=>zad (fn:=Tryz.f257) rfl rfl om args w⟩
theorem zyp:Callee Tryz.prog 258:=⟨fun args w=>zad (fn:=Tryz.f258) rfl rfl om args w⟩
theorem zyq:Callee Tryz.prog 259:=⟨fun args w=>zad (fn:=Tryz.f259) rfl rfl om args w⟩
theorem zum:Callee Tryz.prog 260:=⟨fun args w=>zad (fn:=Tryz.f260) rfl rfl om args w⟩
theorem zyr:Callee Tryz.prog 261:=⟨fun args w=>zad (fn:=Tryz.f261) rfl rfl om args w⟩
theorem zys:Callee Tryz.prog 262:=⟨fun args w=>zad (fn:=Tryz.f262) rfl rfl om args w⟩
theorem zyt:Callee Tryz.prog 263:=⟨fun args w=>zad (fn:=Tryz.f263) rfl rfl om args w⟩
theorem zc4:Callee Tryz.prog 264:=⟨fun args w=>zad (fn:=Tryz.f264) rfl rfl om args w⟩
theorem zb7:Callee Tryz.prog 265:=⟨fun args w=>zad (fn:=Tryz.f265) rfl rfl om args w⟩
theorem zc5:Callee Tryz.prog 266:=⟨fun args w=>zad (fn:=Tryz.f266) rfl rfl om args w⟩
theorem zc6:Callee Tryz.prog 267:=⟨fun args w=>zad (fn:=Tryz.f267) rfl rfl om args w⟩
theorem zyu:Callee Tryz.prog 268:=⟨fun args w=>zad (fn:=Tryz.f268) rfl rfl om args w⟩
theorem zeh:Callee Tryz.prog 269:=⟨fun args w=>zad (fn:=Tryz.f269) rfl rfl om args w⟩
theorem ziT:Callee Tryz.prog 270:=⟨fun args w=>zad (fn:=Tryz.f270) rfl rfl om args w⟩
theorem zko:Callee Tryz.prog 271:=⟨fun args w=>zad (fn:=Tryz.f271) rfl rfl om args w⟩
theorem zqX:Callee Tryz.prog 272:=⟨fun args w=>zad (fn:=Tryz.f272) rfl rfl om args w⟩
theorem zyv:Callee Tryz.prog 273:=⟨fun args w=>zad (fn:=Tryz.f273) rfl rfl om args w⟩
theorem zm1:Callee Tryz.prog 275:=⟨fun args w=>zad (fn:=Tryz.f275) rfl rfl om args w⟩
theorem zun:Callee Tryz.prog 276:=⟨fun args w=>zad (fn:=Tryz.f276) rfl rfl om args w⟩
theorem zuo:Callee Tryz.prog 277:=⟨fun args w=>zad (fn:=Tryz.f277) rfl rfl om args w⟩
theorem zyw:Callee Tryz.prog 278:=⟨fun args w=>zad (fn:=Tryz.f278) rfl rfl om args w⟩
theorem zyx:Callee Tryz.prog 279:=⟨fun args w=>zad (fn:=Tryz.f279) rfl rfl om args w⟩
theorem zup:Callee Tryz.prog 280:=⟨fun args w=>zad (fn:=Tryz.f280) rfl rfl om args w⟩
theorem zuq:Callee Tryz.prog 281:=⟨fun args w=>zad (fn:=Tryz.f281) rfl rfl om args w⟩
theorem zur:Callee Tryz.prog 282:=⟨fun args w=>zad (fn:=Tryz.f282) rfl rfl om args w⟩
theorem zus:Callee Tryz.prog 283:=⟨fun args w=>zad (fn:=Tryz.f283) rfl rfl om args w⟩
theorem zwy:Tryz.prog.follows .mixedOrders=true:=by kernel_rfl
def evT:Tabs:=⟨lk [(3,1,false),(4,1,false),(5,1,false),(9,1,false),(22,1,false),(23,1,false),(29,2,true),(31,4,true),(32,1,false),(33,1,false),(35,6,true),(37,1,false),(40,4,true),(43,2,true),(63,1,false),(66,1,false),(68,3,true),(72,1,false),(74,6,true),(76,3,true),(78,9,true),(82,4,true),(86,1,false),(88,2,true),(90,1,false),(92,6,true),(93,3,true),(95,9,true),(96,1,false),(99,1,false),(107,3,true),(108,1,false),(110,2,true),(115,1,false),(117,8,true),(130,1,false),(136,1,false),(138,3,true),(149,3,true),(184,2,true),(194,1,false),(221,1,false),(223,3,true),(234,4,true),(250,1,false),(333,1,false)],memN [22,23,24,32,33,37,42,44,63,66,72,86,90,96,99,102,103,108,115,126,130,136,176,221,231],memN [9],lk2 [(29,0,0),(29,1,1),(31,0,0),(31,1,2),(35,0,0),(35,1,4),(35,2,5),(40,0,0),(40,1,1),(40,2,2),(40,3,3),(43,0,0),(43,1,1),(68,0,0),(68,1,1),(68,2,2),(74,0,0),(74,1,1),(74,2,2),(74,3,3),(74,4,4),(74,5,5),(76,0,0),(76,1,1),(76,2,2),(78,0,0),(78,1,6),(88,0,0),(88,1,1),(92,0,0),(92,1,1),(92,2,2),(92,3,3),(92,4,4),(92,5,5),(93,0,0),(93,1,1),(93,2,2),(95,0,0),(95,1,6),(107,0,0),(107,1,1),(107,2,2),(110,0,0),(110,1,1),(117,0,0),(117,1,1),(117,2,2),(117,3,3),(117,4,4),(117,5,5),(117,6,6),(117,7,7),(124,0,0),(124,1,1),(138,0,0),(138,1,1),(138,2,2),(149,0,0),(149,1,1),(184,0,0),(184,1,1),(223,0,0),(223,1,1),(223,2,2),(234,0,0),(234,1,1),(253,0,0),(253,1,1)]⟩
theorem zkt:TabsOK Tryz.prog evT:=TabsOK.of oq oq oq oq
theorem sx {E e' env:Env}{H h' hp:Hp}{ks:List Nat} (hE:SubE E e') (hH:SubH H h') (he:e'.drop (e'.length-env.length)=env:=by kernel_rfl) (hc:zfM (zeZ E++ks) (e'.take (e'.length-env.length))=true:=by kernel_rfl)
    (hh:h'.drop (h'.length-hp.length)=hp:=by kernel_rfl) (hhc:zdE (zdu H) (zdu hp) (h'.take (h'.length-hp.length))=true:=by kernel_rfl):Sub ⟨E++(zda ks++env),H++hp⟩ ⟨e',h'⟩:=Sub.x he hc hE hh hhc hH
section
variable {c:Ctx}{all:Array Oper}{chk:List Rec->Prop}{os:List Oper}{recs:List Rec}{env:Env}{hp:Hp}{Q:St->Prop}{d ty:Nat}{pos:String}{af:Array Edge}
theorem wc {f:FuncId}{args:Array Operand}{ats:Array TypeId}{xs:List Operand}{vs:List AV}{hpc hp0:Hp}{r:AV} (hc:Callee c.P f) (hf:FnD c.P f vs hpc r hp0) (hargs:args=xs.toArray) (hx:opdL env xs=some vs)
    (hn:Walk c all chk os (zap ([]++opFL xs vs) (hpF hpc) [] ⟨some (d,r),hp0⟩::recs) ⟨(d,r)::env,hp0++hp⟩ Q)
    (hd:Nat.blt d c.n=true:=by exact rfl) (hsub:subH hpc hp:=by first|exact trivial|exact⟨rfl,trivial⟩) (hnt:zdJ hpc=true:=by exact rfl) (hok:zaH hpc hp0 r []=true:=by exact rfl)
    (hcr:zam env hp []=true:=by exact rfl):Walk c all chk (⟨some d,.call ⟨.value (.func f),args,ats⟩,ty,pos,af,none⟩::os) recs ⟨env,hp⟩ Q:=
  Walk.call (cr:=[]) hc hf hargs .none hd hx (LeL.refl _) hsub hnt hok hcr hn
theorem wd {f:FuncId}{args:Array Operand}{ats:Array TypeId}{xs:List Operand}{vs:List AV}{hpc hp0:Hp}{r:AV} (hc:Callee c.P f) (hf:FnD c.P f vs hpc r hp0) (hargs:args=xs.toArray) (hx:opdL env xs=some vs) (hsub:subH hpc hp)
    (hn:Walk c all chk os (zap ([]++opFL xs vs) (hpF hpc) [] ⟨some (d,r),hp0⟩::recs) ⟨(d,r)::env,hp0++hp⟩ Q)
    (hd:Nat.blt d c.n=true:=by exact rfl) (hnt:zdJ hpc=true:=by exact rfl) (hok:zaH hpc hp0 r []=true:=by exact rfl)
    (hcr:zam env hp []=true:=by exact rfl):Walk c all chk (⟨some d,.call ⟨.value (.func f),args,ats⟩,ty,pos,af,none⟩::os) recs ⟨env,hp⟩ Q:=
  Walk.call (cr:=[]) hc hf hargs .none hd hx (LeL.refl _) hsub hnt hok hcr hn
variable {t:TypeId}{x y:Operand}
theorem so {id off k:Nat}{b:Bool}{v:AV}{cs vs cs':List AV} (ht:TyS c.P t k b)
    (hn:Walk c all chk os (zap ([]++(opF x (.ref id off)++opF y v)) [(id,.box cs)] [] ⟨none,[(id,some (.box cs'))]⟩::recs) ⟨env,(id,some (.box cs'))::hp⟩ Q)
    (hx:opd env x=some (.ref id off):=by exact rfl) (hy:opd env y=some v:=by exact rfl) (hb:getH hp id=some (.box cs):=by exact rfl) (hv:zbY v=some vs:=by exact rfl) (hk:vs.length=k:=by exact rfl)
    (h1:zgD vs=true:=by exact rfl) (hne:vs≠[]:=by simp) (hput:putC cs off vs=some cs':=by exact rfl):Walk c all chk (⟨none,.store t x y,ty,pos,af,none⟩::os) recs ⟨env,hp⟩ Q:=
  Walk.store ht .none hx hy hb hv hk h1 hne hput hn
theorem bx (id:Nat){v:AV}{cs:List AV}
    (hn:Walk c all chk os (zap ([]++opFL [x] [v]) [] [id] ⟨some (d,.ref id 0),[(id,some (.box cs))]⟩::recs) ⟨(d,.ref id 0)::env,(id,some (.box cs))::hp⟩ Q)
    (hd:Nat.blt d c.n=true:=by exact rfl) (hx:opd env x=some v:=by exact rfl) (hc:zbY v=some cs:=by exact rfl)
    (h0:getH hp id=none:=by exact rfl) (ho1:occE id env=false:=by exact rfl) (ho2:occH id hp=false:=by exact rfl) (hid:zaT id (AV.idsL cs)=false:=by exact rfl):
    Walk c all chk (⟨some d,.box t x,ty,pos,af,none⟩::os) recs ⟨env,hp⟩ Q:=Walk.box .none hd hx hc h0 ho1 ho2 hid hn
theorem ab (id:Nat){k:Nat}{zs:List AV} (ht:TyZ c.P t k zs)
    (hn:Walk c all chk os (zap ([]++[]) [] [id] ⟨some (d,.ref id 0),[(id,some (.box zs))]⟩::recs) ⟨(d,.ref id 0)::env,(id,some (.box zs))::hp⟩ Q)
    (hz:AV.idsL zs=[]:=by exact rfl) (hd:Nat.blt d c.n=true:=by exact rfl) (h0:getH hp id=none:=by exact rfl) (ho1:occE id env=false:=by exact rfl) (ho2:occH id hp=false:=by exact rfl):
    Walk c all chk (⟨some d,.alloc t,ty,pos,af,none⟩::os) recs ⟨env,hp⟩ Q:=Walk.alloc ht hz .none hd h0 ho1 ho2 hn
theorem bu (ks:List Nat) (xs:List Operand){parts:Array (Nat×Operand)}{vs zs r:List AV}{places:List (Nat×Nat)} (ht:StT c.P t places zs)
    (hn:Walk c all chk os (zap ([]++opFL xs vs) [] [] ⟨some (d,.agg r),[]⟩::recs) ⟨(d,.agg r)::env,hp⟩ Q)
    (hparts:parts=(ks.zip xs).toArray:=by exact rfl) (hlen:ks.length=xs.length:=by exact rfl) (hd:Nat.blt d c.n=true:=by exact rfl) (hx:opdL env xs=some vs:=by exact rfl)
    (hf:zgt (places[·]?) zs (ks.zip vs)=some r:=by exact rfl):Walk c all chk (⟨some d,.build t parts,ty,pos,af,none⟩::os) recs ⟨env,hp⟩ Q:=Walk.build ht hparts hlen .none hd hx hf hn
theorem si (ks:List Nat) (xs:List Operand){parts:Array (Nat×Operand)}{n:Nat}{vs zs r:List AV}{es:List (List D)}{e k yb:Nat} (ht:SlT c.P t e k yb) (hz:TyZ c.P e k zs)
    (hn:Walk c all chk os (zap ([]++opFL xs vs) [] [] ⟨some (d,.d (.sl es)),[]⟩::recs) ⟨(d,.d (.sl es))::env,hp⟩ Q) (hzk:zs.length=k:=by exact rfl) (hk:0<k:=by decide)
    (hparts:parts=(ks.zip xs).toArray:=by exact rfl) (hlen:ks.length=xs.length:=by exact rfl) (hsmall:n*k<=16777216:=by decide) (hpos:0<n:=by decide) (hd:Nat.blt d c.n=true:=by exact rfl) (hx:opdL env xs=some vs:=by exact rfl)
    (hf:zgt (fun i=>some (i*k,k)) (zbd n zs) (ks.zip vs)=some r:=by exact rfl) (hc:zbS n k r=some es:=by exact rfl):
    Walk c all chk (⟨some d,.buildSlice t n parts,ty,pos,af,none⟩::os) recs ⟨env,hp⟩ Q:=Walk.sliceLit ht hz hzk hk hparts hlen hsmall hpos .none hd hx hf hc hn
theorem ap {id k e yb:Nat}{xs ys:List (List D)}{vy:AV} (ht:SlT c.P t e k yb) (hz:ZeroT c.P e k) (hx:opd env x=some (.gl id xs)) (hy:opd env y=some vy) (hyd:vy.toD=some (.sl ys))
    (hky:∀y,y∈ys->y.length=k) (hb:(xs.length+ys.length)*70<=140737488355328)
    (hn:Walk c all chk os (zap ([]++(opF x (.gl id xs)++opF y vy)) [(id,.tok xs.length k)] [] ⟨some (d,.gl id (xs++ys)),[(id,some (.tok (xs.length+ys.length) k))]⟩::recs)
      ⟨(d,.gl id (xs++ys))::env,(id,some (.tok (xs.length+ys.length) k))::hp⟩ Q) (hk:Nat.blt 0 k=true:=by exact rfl) (hd:Nat.blt d c.n=true:=by exact rfl)
    (htok:getH hp id=some (.tok xs.length k):=by exact za3 Z (by first|rfl|(simp;done)|(simp;omega))) (hyb:Nat.ble yb 70=true:=by exact rfl):
    Walk c all chk (⟨some d,.call ⟨.builtin .append,#[x,y],#[t,t]⟩,ty,pos,af,none⟩::os) recs ⟨env,hp⟩ Q:=
  Walk.append ht hz hk .none hd hx hy hyd htok hky (Nat.le_trans (Nat.mul_le_mul_left _ (Nat.le_of_ble_eq_true hyb)) hb) od hn
end
section
variable {c:Ctx}{all:Array Oper}{chk:List Rec->Prop}{os:List Oper}{recs:List Rec}{env:Env}{hp:Hp}{Q:St->Prop}
theorem evs (stop:List Nat) (kn:List (Nat×Bool)) (h:evW evT stop c all (fun _=>True) Q (fun _ env hp=>Q ⟨env,hp⟩) os recs env hp kn) (hk:KN env kn:=by exact trivial) (hT:TabsOK c.P evT:=by exact zkt):Walk c all (fun _=>True) os recs ⟨env,hp⟩ Q:=
  zku hT (fun _ _ _ h=>⟨trivial,h⟩) hk h
theorem evd (stop:List Nat) (kn:List (Nat×Bool)) (h:evW evT stop c all chk Q (fun recs env hp=>chk recs/\Q ⟨env,hp⟩) os recs env hp kn) (hk:KN env kn:=by exact trivial) (hT:TabsOK c.P evT:=by exact zkt):Walk c all chk os recs ⟨env,hp⟩ Q:=
  zku hT (fun _ _ _ h=>h) hk h
theorem ev (h:evW evT [] c all (fun _=>True) Q (fun _ env hp=>Q ⟨env,hp⟩) os recs env hp []) (hT:TabsOK c.P evT:=by exact zkt):Walk c all (fun _=>True) os recs ⟨env,hp⟩ Q:=
  evs [] [] h trivial hT
theorem evc (stop rs:List Nat){x:Code}{s:St}{K:Kt} (h:evC evT stop rs c x s K) (hT:TabsOK c.P evT:=by exact zkt) (hm:c.P.follows .mixedOrders=true:=by exact zwy):CWp c x s K:=zhF hT hm h
end
theorem bd (fn:Func) (n:Nat) (stop rs:List Nat){f:Nat}{code:Code}{rv:List ResultVar}{args:List AV}{hp:Hp}{Post:AV->Hp->Prop}
    (h:∀w0 F0 own kept,KeptIn kept (zgE hp)->evC evT stop rs ⟨Tryz.prog,n,w0,F0,own,kept⟩ code ⟨zjw 0 args,hp⟩ ⟨Fin Tryz.prog rv hp Post,fun _ _=>False,Fin Tryz.prog rv hp Post⟩)
    (hf:(Tryz.prog).funcs[f]?=some fn:=by exact rfl) (hb:fn.body=some code:=by exact rfl) (hnn:fn.ntmps=n:=by exact rfl) (hrs:fn.results.toList=rv:=by exact rfl) (hn:Nat.ble args.length n=true:=by exact rfl):
    Fn Tryz.prog f args hp Post:=Fn.body hf hb hnn hrs hn (fun w0 F0 own kept hk=>zhF zkt zwy (h w0 F0 own kept hk))
theorem ar {n:Int}{X:Prop} (k:X) (b:I64 n:=by first|(constructor<;>omega)|(constructor<;>simp<;>omega)):Ar n X:=⟨b,k⟩
class Nz (p:Prop) (q:outParam Prop):Prop where
  nz:p->q
instance (priority:=low){p:Prop}:Nz p p:=⟨id⟩
instance {b:Bool}{q:Prop} [h:Nz (b=false) q]:Nz ((!b)=true) q:=⟨fun hb=>h.nz (by simpa using hb)⟩
instance {b:Bool}{q:Prop} [h:Nz (b=true) q]:Nz ((!b)=false) q:=⟨fun hb=>h.nz (by simpa using hb)⟩
theorem sq {b:Bool}{X Y q r:Prop} [h1:Nz (b=true) q] [h2:Nz (b=false) r] (t:b=true->b=true->q->X) (f:b=false->b=false->r->Y):Sp b X Y:=⟨fun h=>t h h (h1.nz h),fun h=>f h h (h2.nz h)⟩
theorem sqT {b:Bool}{X Y:Prop} (h:X) (hb:b=true:=by exact rfl):Sp b X Y:=⟨fun _=>h,fun h2=>absurd (h2.symm.trans hb) om⟩
theorem sqF {b:Bool}{X Y:Prop} (h:Y) (hb:b=false:=by exact rfl):Sp b X Y:=⟨fun h2=>absurd (h2.symm.trans hb) om,fun _=>h⟩
theorem dr {X Y:Prop} (h:Y) (hc:X:=by show _=_;kernel_rfl):X/\Y:=⟨hc,h⟩
section
variable {P:Program}{rs:List ResultVar}{hp:Hp}{s:St}{vs:List AV}{r:AV}
theorem rn {Post:AV->Hp->Prop} (hp':Hp) (h1:ResL P s rs vs) (h2:LeA (zjI vs) r) (h3:Post r hp') (h4:HSub (hp'++hp) s.hp) (h5:∀id,zcp hp id=true->zcp (hp'++hp) id=true):Fin P rs hp Post s:=⟨vs,r,hp',h1,h2,h3,h4,h5⟩
theorem rn0 (h1:ResL P s rs vs) (h2:LeA (zjI vs) r):Fin P rs [] (fun x y=>x=r/\y=[]) s:=⟨vs,r,[],h1,h2,⟨rfl,rfl⟩,HSub.nil,zzE⟩
theorem r1 {i:Nat}{v:AV} (h:getE s.env i=some v):ResL P s [.tmp i] [v]:= .cons (.tmp h) .nil
theorem rq{i:Nat}{x y:D} (e:x=y) (h:getE s.env i=some (.d x):=by exact rfl):Fin P [.tmp i] [] (fun a b=>a=.d y/\b=[]) s:=rn0 (r1 h) (.eqd e)
theorem r2 {i j:Nat}{v w:AV} (h:getE s.env i=some v) (h':getE s.env j=some w):ResL P s [.tmp i,.tmp j] [v,w]:= .cons (.tmp h) (.cons (.tmp h') .nil)
theorem rc{a t id off k i:Nat}{cs r:List AV}{v:AV} (ht:TyS P t k true) (h:getE s.env a=some (.ref id off):=by exact rfl) (hb:getH s.hp id=some (.box cs):=by exact rfl) (hv:cutC cs off k=some r:=by exact rfl) (h2:getE s.env i=some v:=by exact rfl):ResL P s [.cell a t,.tmp i] [.agg r,v]:=.cons (.cellA ht h hb hv) (.cons (.tmp h2) .nil)
theorem ra{a t id off k:Nat}{cs r:List AV} (ht:TyS P t k true) (h:getE s.env a=some (.ref id off):=by exact rfl) (hb:getH s.hp id=some (.box cs):=by exact rfl) (hv:cutC cs off k=some r:=by exact rfl):ResL P s [.cell a t] [.agg r]:=.cons (.cellA ht h hb hv) .nil
end
section
variable {env e':Env}{hp h':Hp}{ks:List Nat}{n:Nat}{u v:AV}{p q:Bool}
theorem jn (hu:getE e' n=some u) (le:LeA u v) (he:e'.drop (e'.length-env.length)=env:=by kernel_rfl) (hc:zfM (zeZ [(n,v)]++ks) (e'.take (e'.length-env.length))=true:=by kernel_rfl)
    (hh:h'.drop (h'.length-hp.length)=hp:=by kernel_rfl) (hhc:zdE (zdu []) (zdu hp) (h'.take (h'.length-hp.length))=true:=by kernel_rfl):Sub ⟨[(n,v)]++(zda ks++env),[]++hp⟩ ⟨e',h'⟩:=
  Sub.x he hc ⟨⟨_,hu,le⟩,trivial⟩ hh hhc trivial
theorem jnb (hu:getE e' n=some (.d (.bool p))) (hpq:p=q:=by first|rfl|(rw[xat];(try simp only[BQ])<;>first|omega|(simp_all;done)|(simp_all;omega)))
    (he:e'.drop (e'.length-env.length)=env:=by kernel_rfl) (hc:zfM (zeZ [(n,.d (.bool q))]++ks) (e'.take (e'.length-env.length))=true:=by kernel_rfl)
    (hh:h'.drop (h'.length-hp.length)=hp:=by kernel_rfl) (hhc:zdE (zdu []) (zdu hp) (h'.take (h'.length-hp.length))=true:=by kernel_rfl):Sub ⟨[(n,.d (.bool q))]++(zda ks++env),[]++hp⟩ ⟨e',h'⟩:=
  jn hu (xaT hpq) he hc hh hhc
end
end Go.Proofs.YtmchfdpleibpdaaGreat
namespace Go.Proofs.YtmchfdpleibpdaaGreat
set_option linter.unusedSimpArgs false
set_option linter.unusedVariables false
abbrev Str:=List UInt8
structure Ty where
 data:Int
 index:Int
 deriving DecidableEq,Inhabited
structure Ctor where
 name:Str
 args:List Ty
 index:Int
 deriving DecidableEq,Inhabited
structure Data where
 name:Str
 ctors:List Ctor
 deriving DecidableEq,Inhabited
inductive Val where
 |mk (ctor n:Int) (kids:List Val)
 deriving Inhabited
inductive Pat where
 |mk (op ctor n m var:Int) (kids:List Pat)
 deriving Inhabited
abbrev Ty.c (t:Ty):List D:=[.i t.data,.i t.index]
abbrev zbZ (l:List Ty):D:= .sl (l.map Ty.c)
abbrev Ctor.c (x:Ctor):List D:=[.str x.name,zbZ x.args,.i x.index]
abbrev zvK (l:List Ctor):D:= .sl (l.map Ctor.c)
abbrev Data.c (x:Data):List D:=[.str x.name,zvK x.ctors]
abbrev zaj (l:List Data):D:= .sl (l.map Data.c)
abbrev zcB (l:List Int):D:= .sl (l.map fun n=>[.i n])
abbrev zcC (l:List Str):D:= .sl (l.map fun n=>[.str n])
mutual
def Val.c:Val->List D
 | .mk ctor n kids=>[.i ctor,.i n,.sl (Val.cs kids)]
def Val.cs:List Val->List (List D)
 | []=>[]
 |v::r=>v.c::Val.cs r
end
abbrev zw7 (l:List Val):D:= .sl (Val.cs l)
mutual
def Pat.c:Pat->List D
 | .mk op ctor n m var kids=>[.i op,.i ctor,.i n,.i m,.i var,.sl (Pat.cs kids)]
def Pat.cs:List Pat->List (List D)
 | []=>[]
 |v::r=>v.c::Pat.cs r
end
abbrev zak (l:List Pat):D:= .sl (Pat.cs l)
theorem xbh:∀l:List Val,Val.cs l=l.map Val.c
 | []=>rfl
 |v::r=>by simp[Val.cs,xbh r]
theorem xa2:∀l:List Pat,Pat.cs l=l.map Pat.c
 | []=>rfl
 |v::r=>by simp[Pat.cs,xa2 r]
theorem zaA {α β:Type}{f:α->β}{pre:List α}{x:α}{rest xs:List α} (h:pre++x::rest=xs):(xs.map f)[pre.length]?=some (f x):=by
 subst h;simp
def Val.ctor:Val->Int | .mk a _ _=>a
def Val.num:Val->Int | .mk _ n _=>n
def Val.kids:Val->List Val | .mk _ _ k=>k
abbrev Val.cc (v:Val):List D:=[.i v.ctor,.i v.num,.sl (Val.cs v.kids)]
theorem Val.c_eq (v:Val):v.c=v.cc:=by cases v;rfl
theorem Val.eta (v:Val):Val.mk v.ctor v.num v.kids=v:=by cases v;rfl
theorem Val.cs_len (l:List Val):(Val.cs l).length=l.length:=by simp[xbh]
theorem xa3 (l:List Pat):(Pat.cs l).length=l.length:=by simp[xa2]
end Go.Proofs.YtmchfdpleibpdaaGreat
namespace Go.Proofs.YtmchfdpleibpdaaGreat
open Go
set_option linter.unusedSimpArgs false
set_option linter.unusedVariables false
def zan (n lo hi:Int):Bool:=decide (lo<=n)&&decide (n<=hi)
def zcS (b:UInt8):Bool:=decide (65<=(b.toNat:Int))&&decide ((b.toNat:Int)<=90)
def zbH (b:UInt8):Bool:=decide (97<=(b.toNat:Int))&&decide ((b.toNat:Int)<=122)
def zdR (s:Str):Bool:=s.all zbH
def zdI (s:Str):Bool:=zan s.length 1 5&&(match s with | []=>false|b::r=>zcS b&&zdR r)
def zbr (n:Nat) (t:Ty):Bool:=(decide (t.data = -1)&&(decide (t.index=0)&&true))||(zan t.data 0 (n-1)&&zan t.index (-1) 3)
def zbT (n:Nat) (c:Ctor):Bool:=zdI c.name&&(decide ((c.args.length:Int)<=3)&&(zan c.index 0 3&& !(c.args.any fun t=> !zbr n t)))
def zbm (n:Nat) (t:Ty):Bool:=(decide (t.data = -1)&&(decide (t.index=0)&&true))||(zan t.data 0 (n-1)&&zan t.index 0 3)
def zbv (s:Str):Bool:=decide ((s.length:Int)=1)&&(zcS (s.getD 0 0)&& !decide (s=[73]))
def zdx (n:Nat) (met:List Str):List Ctor->Option (List Str)
 | []=>some met
 |c::r=>if zbT n c&& !decide (c.name∈met) then zdx n (met++[c.name]) r else none
def zbU (n:Nat) (met datas:List Str):List Data->Bool
 | []=>true
 |d::r=>zbv d.name&& !decide (d.name∈datas)&&zan d.ctors.length 1 4&&
  (match zdx n met d.ctors with
   |some met'=>zbU n met' (datas++[d.name]) r
   |none=>false)
def zaI (w:List Data):Bool:=decide ((w.length:Int)<=4)&&zbU w.length [] [] w
def zbn (w:List Data) (t:Ty):Bool:=zaI w&&zbm w.length t
structure WSmall (w:List Data):Prop where
 len:w.length<=1000000000000
 data:∀d∈w,d.name.length<=1000000000000/\d.ctors.length<=1000000000000
 ctor:∀d∈w,∀c∈d.ctors,c.name.length<=1000000000000/\c.args.length<=1000000000000
def nth {α:Type} [Inhabited α] (l:List α) (i:Nat):α:=l.getD i default
theorem zah {α β:Type} [Inhabited α]{f:α->β}{l:List α}{i:Nat} (h:i<l.length):(l.map f)[i]?=some (f (nth l i)):=by
 simp[nth,List.getD,h]
theorem zaf {α:Type} [Inhabited α]{l:List α}{i:Nat} (h:i<l.length):nth l i∈l:=by
 simp[nth,List.getD,h]
theorem zyM {α:Type} [Inhabited α]{pre rest l:List α}{x:α} (h:pre++x::rest=l):nth l pre.length=x:=by
 subst h;simp[nth,List.getD]
theorem WSmall.ctors {w:List Data} (h:WSmall w) (i:Nat):(nth w i).ctors.length<=1000000000000:=by
 by_cases hi:i<w.length
 ·exact(h.data _ (zaf hi)).2
 ·have:nth w i=default:=by simp[nth,List.getD,List.getElem?_eq_none (Nat.le_of_not_lt hi)]
  rw[this];exact Nat.zero_le _
def zb3 (w:List Data) (d k i j:Nat):Bool:=(decide (i<d)||decide (j<k))&&(decide (k<(nth w d).ctors.length)&&decide ((nth (nth w i).ctors j).name=(nth (nth w d).ctors k).name))
def zdT (w:List Data) (d k i:Nat):Bool:=(decide (i<d)&&decide ((nth w i).name=(nth w d).name))||(List.range (nth w i).ctors.length).any (zb3 w d k i)
def zom (w:List Data) (d k:Nat):Bool:=(List.range (d+1)).any (zdT w d k)
def zeP (w:List Data) (d k:Nat):Bool:=zbT w.length (nth (nth w d).ctors k)&& !zom w d k
def zcH (w:List Data) (d:Nat):Bool:=zbv (nth w d).name&&(decide (1<=(nth w d).ctors.length)&&(decide ((nth w d).ctors.length<=4)&&(List.range (nth w d).ctors.length).all (zeP w d)))
def zbA (w:List Data):Bool:=decide (w.length<=4)&&(List.range w.length).all (zcH w)
theorem zfJ {n:Nat}{p:Nat->Bool} (h:∀i,i<n->p i=false):(List.range n).any p=false:=by
 rw[List.any_eq_false];intro i hi;rw[h i (List.mem_range.1 hi)];simp
theorem zdk {n:Nat}{p:Nat->Bool}{i:Nat} (hi:i<n) (h:p i=true):(List.range n).any p=true:=
 List.any_eq_true.2 ⟨i,List.mem_range.2 hi,h⟩
theorem zdB {n:Nat}{p:Nat->Bool}{i:Nat} (hi:i<n) (h:p i=false):(List.range n).all p=false:=
 List.all_eq_false.2 ⟨i,List.mem_range.2 hi,by simp[h]⟩
theorem zdY {n:Nat}{p:Nat->Bool} (h:∀i,i<n->p i=true):(List.range n).all p=true:=by
 rw[List.all_eq_true];intro i hi;exact h i (List.mem_range.1 hi)
theorem zaZ {P:Nat->Prop}{i:Nat} (h:∀j,j<i->P j) (hi:P i):∀j,j<i+1->P j:=fun j hj=>by
 rcases Nat.lt_or_eq_of_le (Nat.le_of_lt_succ hj) with h1|h1
 ·exact h j h1
 ·exact h1 ▸ hi
theorem zim {w:List Data}{d k i j:Nat} (h1:(decide (i<d)&&decide ((nth w i).name=(nth w d).name))=false) (h2:∀j',j'<j->zb3 w d k i j'=false)
  (h3:j<(nth w i).ctors.length->d<=i/\k<=j):zdT w d k i=false:=by
 unfold zdT;rw[h1,Bool.false_or];refine zfJ (fun j' hj'=>?_);by_cases h:j'<j
 ·exact h2 j' h
 ·have:=h3 od;have e1:decide (i<d)=false:=xaw od;have e2:decide (j'<k)=false:=xaw od;simp only[zb3,e1,e2,Bool.or_self,Bool.false_and]
set_option maxRecDepth 100000
set_option maxHeartbeats 2000000
theorem zbk {n lo hi:Int}:FnD Tryz.prog 63 [.d (.i n),.d (.i lo),.d (.i hi)] [] (.d (.bool (zan n lo hi))) []:=by
 refine bd Tryz.f63 15 [] [] fun _ _ _ _ hk=>?_;apply sq<;>intro h1 h1p h1s;focus (refine rq ?_;all_goals ((simp[zan,h1s,h1p];done)))
 focus (refine rq ?_;all_goals ((simp[zan,h1s,h1p];done)))
theorem zcu {s:Str} (h:0<s.length):zdI s=(zan s.length 1 5&&(zcS s[0]&&zdR (s.drop 1))):=by
 rcases s with _|⟨b,r⟩
 ·simp at h
 ·simp[zdI]
theorem zj1 {s:Str} (h:s.length=0\/5<s.length):zdI s=false:=by
 have:zan s.length 1 5=false:=by
  simp only[zan,Bool.and_eq_false_iff,decide_eq_false_iff_not];omega
 simp[zdI,this]
theorem zdz {s:Str}{i:Nat} (h:i<s.length):zdR (s.drop i)=(zbH s[i]&&zdR (s.drop (i+1))):=by
 unfold zdR;rw[List.drop_eq_getElem_cons h,List.all_cons]
theorem zkF {s:Str}{i:Nat} (h:s.length<=i):zdR (s.drop i)=true:=by
 rw[List.drop_eq_nil_of_le h];rfl
theorem zlD {s:Str} (hs:s.length<=1000000000000):FnD Tryz.prog 123 [.d (.str s)] [] (.d (.bool (zdI s))) []:=by
 refine bd Tryz.f123 34 [] [] fun _ _ _ _ hk=>?_;refine wc zeu zbk Z Z ?_;refine ev ?_;apply sq<;>intro h1 h1p h1s;refine sqT ?_;refine sqT ?_;focus (refine rq ?_;all_goals ((simp[zdI,h1s,h1p];done)))
 try simp only[Q,zan] at h1p
 refine xbN (i:=0) un9 (.some Z Z h1) Z Z Z Z (xan od) ?_;refine evs [] [(8,false)] ?_ ⟨⟨_,Z,h1⟩,O⟩;apply sq<;>intro h3 h3p h3s<;>(try simp only[Q,zan] at h3p);refine sqT ?_;focus (refine rq ?_;all_goals ((rw[zcu od];simp[zcS];omega)))
 refine xbN (i:=0) un9 (.some Z Z h3) Z Z Z Z (xan od) ?_;refine evs [] [(13,false)] ?_ ⟨⟨_,Z,h3⟩,O⟩;apply sq<;>intro h5 h5p h5s<;>(try simp only[Q,zan] at h5p);focus (refine rq ?_;all_goals ((rw[zcu od];simp[zcS];omega)))
 refine xaB (ι:=Nat) hk (fun i=>[(3,.d (.i (i:Int)))]) [2,18,19,20,21,22,23,24,25,26,27,28,29,30,31,32,33] (fun i=>[]) (fun i=>1<=i/\i<=s.length/\zdR (s.drop i)=zdR (s.drop 1)) (fun i=>s.length-i) 1 ⟨by omega,by omega,Z⟩ ⟨⟨_,Z,xaU ?_⟩,O⟩ O (fun x=>rfl) (fun i hg1=>?_);focus (rfl)
 refine evc [] [] ?_;apply sq<;>intro h6 h6p h6s<;>(try simp only[Q,zan] at h6p);refine xbN un9 .none Z Z Z Z (xan od) ?_;refine ev ?_;apply sq<;>intro h7 h7p h7s<;>(try simp only[Q,zan] at h7p);refine sqT ?_;focus (refine rq ?_;all_goals ((rw[zcu od,<-hg1.2.2,zdz od];simp[zbH];omega)))
 refine xbN un9 (.some Z Z h7) Z Z Z Z (xan od) ?_;refine evs [] [(28,false)] ?_ ⟨⟨_,Z,h7⟩,O⟩;apply sq<;>intro h9 h9p h9s<;>(try simp only[Q,zan] at h9p);focus (refine rq ?_;all_goals ((rw[zcu od,<-hg1.2.2,zdz od];simp[zbH];omega)))
 refine ar (xaj (i+1) ⟨⟨by omega,by omega,by rw[<-hg1.2.2,zdz (i:=i) od];simp[zbH];omega⟩, ?_,sx ⟨⟨_,Z,xaU ?_⟩,O⟩ O⟩);focus (omega)
 focus (rfl)
 focus (refine rq ?_;all_goals ((rw[zcu od,<-hg1.2.2,zkF od];simp[zan,zcS];omega)))
theorem zfK (hp:Hp):(zgE hp).all (fun id=>(getH ([]++hp) id).isSome)=true:=by
 rw[List.all_eq_true];intro id h;simp only[zgE,List.mem_filter] at h;exact(zfU h.2).1
def idxF {α:Type} (p:α->Bool):List α->Nat->Int
 | [],_=> -1
 |x::r,i=>if p x then (i:Int) else idxF p r (i+1)
theorem zeG {α:Type} (p:α->Bool):∀(l:List α) (i:Nat),decide (0<=idxF p l i)=l.any p
 | [],_=>by simp[idxF]
 |x::r,i=>by
  unfold idxF;cases h:p x with
  |true=>simp[h]
  |false=>simp[h,zeG p r (i+1)]
theorem zcE {hp:Hp} (h:zaH hp [] (.d .nilp) []=true) (x:D):zaH hp [] (.d x) []=true:=h
theorem ziL {xs:List Ty}{f:Nat}{caps:List AV}{hp:Hp}{p:Ty->Bool} (hs:xs.length<=1000000000000) (hcal:Callee Tryz.prog f)
  (hf:∀t∈xs,FnD Tryz.prog f ([.agg [.d (.i t.data),.d (.i t.index)]]++caps) hp (.d (.bool (p t))) []) (k1:subH hp hp) (k2:zdJ hp=true) (k3:zaH hp [] (.d .nilp) []=true):
  FnD Tryz.prog 181 [.d (zbZ xs),.fn f caps] hp (.d (.i (idxF p xs 0))) []:=by
 refine bd Tryz.f181 19 [] [] fun _ _ _ _ hk=>?_;refine xaB (ι:=List (Ty)×List (Ty)) hk (fun x=>[(8,.d (.i (x.1.length:Int)))]) [4,5,9,10,11,12,13,14,15,16,17,18] (fun x=>[]) (fun x=>x.1++x.2=xs/\idxF p x.2 x.1.length=idxF p xs 0) (fun x=>x.2.length) ([],xs) ⟨by simp,Z⟩ ⟨⟨_,Z,xaU ?_⟩,O⟩ O (fun x=>zfK hp) (fun x hg1=>?_);focus (rfl)
 obtain⟨pre,rest⟩:=x;dsimp only at hg1 ⊢;refine evc [] [] ?_;apply sq<;>intro h1 h1p h1s<;>(try simp only[Q] at h1p);rcases rest with _|⟨y,rest⟩
 ·exfalso;simp_all
 refine ixq zaz Z Z Z (zaA hg1.1) Z (ev (xbw (cr:=[]) hcal (hf y (by rw[<-hg1.1];simp)) Z .none Z Z Z (LeL.refl _) k1 k2 (zcE k3 _) Z ?_));apply tv;apply sq<;>intro h2 h2p h2s<;>(try simp only[Q] at h2p);focus (refine rn [] (r1 Z) (.eqd ?_) ⟨Z,Z⟩ (fun _ _ h=>h) (fun _ h=>h);all_goals (rw[<-hg1.2];simp[idxF,h1s,h1p,h2s,h2p]))
 refine ar (xaj ((pre++[y],rest)) ⟨⟨(by have hz:=hg1.1;rw[<-hz];simp),(by rw[<-hg1.2];simp[idxF,h2s])⟩,oi,Sub.x oq oq ⟨⟨_,Z,xaU ?_⟩,O⟩ oi (by simp[zdE]) O⟩);focus ((simp;done))
 have hrest:rest=[]:=by
  rcases rest with _|⟨a,b⟩
  ·rfl
  ·exfalso;have hz:=xam List.length (hg1.1);simp only[xaa,xab,xac] at hz;omega
 subst hrest;focus (refine rn [] (r1 Z) (.eqd ?_) ⟨Z,Z⟩ (fun _ _ h=>h) (fun _ h=>h);all_goals (rw[<-hg1.2];simp[idxF,h1s,h1p]))
theorem zhi {xs:List Ty}{f:Nat}{caps:List AV}{hp:Hp}{p:Ty->Bool} (hs:xs.length<=1000000000000) (hcal:Callee Tryz.prog f)
  (hf:∀t∈xs,FnD Tryz.prog f ([.agg [.d (.i t.data),.d (.i t.index)]]++caps) hp (.d (.bool (p t))) []) (k1:subH hp hp) (k2:zdJ hp=true) (k3:zaH hp [] (.d .nilp) []=true):
  FnD Tryz.prog 124 [.d (zbZ xs),.fn f caps] hp (.d (.bool (xs.any p))) []:=by
 refine bd Tryz.f124 9 [] [] fun _ _ _ _ hk=>?_;refine Walk.call (cr:=[]) zx5 (ziL hs hcal hf k1 k2 k3) Z .none Z Z (LeL.refl _) k1 k2 (zcE k3 _) Z (ev (rn [] (r1 Z) (.eqd ?_) ⟨Z,Z⟩ (fun _ _ h=>h) (fun _ h=>h)));rotate_left;all_goals (exact xam D.bool (zeG p xs 0))
theorem zp5 {w:List Data}{a b:Int} (hs:w.length<=1000000000000):FnD Tryz.prog 126 [.d (zaj w),.agg [.d (.i a),.d (.i b)]] [] (.d (.bool (zbr w.length ⟨a,b⟩))) []:=by
 refine bd Tryz.f126 21 [7] [] fun _ _ _ _ hk=>?_;refine bx 3003 ?_;refine evs [7] [] (bu [0] [_] st29 ?_);refine xbI eq29 .none Z Z Z Z Z (evs [7] [] ?_);apply sq<;>intro h1 h1p h1s;try simp only[Q] at h1p
 focus (refine rq ?_;all_goals ((simp[zbr,h1s,h1p];done)))
 refine ar ?_ (by constructor<;>simp<;>omega);refine Walk.call (cr:=[]) zeu zbk Z (.some Z Z h1) Z Z (LeL.refl _) O Z Z Z (evs [7] [(8,false)] ?_ ⟨⟨_,Z,h1⟩,O⟩);apply sq<;>intro h2 h2p h2s;refine Walk.call (cr:=[]) zeu zbk Z (.some Z Z h2) Z Z (LeL.refl _) O Z Z Z (evs [7] [(8,false),(15,true)] ?_ ⟨⟨_,Z,h1⟩,⟨_,Z,h2⟩,O⟩);focus (refine rq ?_;all_goals ((simp_all[zbr];done)))
 focus (refine rq ?_;all_goals ((simp_all[zbr];done)))
theorem zgg {w:List Data}{a b:Int} (hs:w.length<=1000000000000):FnD Tryz.prog 67 [.d (zaj w),.agg [.d (.i a),.d (.i b)]] [] (.d (.bool (zbm w.length ⟨a,b⟩))) []:=by
 refine bd Tryz.f67 21 [7] [] fun _ _ _ _ hk=>?_;refine bx 3003 ?_;refine evs [7] [] (bu [0] [_] st29 ?_);refine xbI eq29 .none Z Z Z Z Z (evs [7] [] ?_);apply sq<;>intro h1 h1p h1s;try simp only[Q] at h1p
 focus (refine rq ?_;all_goals ((simp[zbm,h1s,h1p];done)))
 refine ar ?_ (by constructor<;>simp<;>omega);refine Walk.call (cr:=[]) zeu zbk Z (.some Z Z h1) Z Z (LeL.refl _) O Z Z Z (evs [7] [(8,false)] ?_ ⟨⟨_,Z,h1⟩,O⟩);apply sq<;>intro h2 h2p h2s;refine Walk.call (cr:=[]) zeu zbk Z (.some Z Z h2) Z Z (LeL.refl _) O Z Z Z (evs [7] [(8,false),(15,true)] ?_ ⟨⟨_,Z,h1⟩,⟨_,Z,h2⟩,O⟩);focus (refine rq ?_;all_goals ((simp_all[zbm];done)))
 focus (refine rq ?_;all_goals ((simp_all[zbm];done)))
theorem zmg {w:List Data}{a b:Int} (hs:w.length<=1000000000000):FnD Tryz.prog 125 [.agg [.d (.i a),.d (.i b)],.ref 1002 0] [(1002,some (.box [.d (zaj w)]))] (.d (.bool (!zbr w.length ⟨a,b⟩))) []:=by
 refine bd Tryz.f125 8 [] [] fun _ _ _ _ hk=>?_;refine bx 3002 ?_;refine ev (wc zxQ (zp5 hs) Z Z ?_);refine ev ?_;focus (refine rn [] (r1 Z) (.eqd ?_) ⟨Z,Z⟩ (SubH.get ⟨Z,O⟩) (fun _ h=>h);all_goals (rfl))
theorem zoF {w:List Data}{s:Str}{args:List Ty}{k:Int} (hs:w.length<=1000000000000) (hn:s.length<=1000000000000) (ha:args.length<=1000000000000):FnD Tryz.prog 64 [.d (zaj w),.agg [.d (.str s),.d (zbZ args),.d (.i k)]] [] (.d (.bool (zbT w.length ⟨s,args,k⟩))) []:=by
 refine bd Tryz.f64 26 [] [] fun _ _ _ _ hk=>?_;refine bx 1002 ?_;refine bx 3003 ?_;refine ev (wc zxN (zlD hn) Z Z ?_);refine ev ?_;apply sq<;>intro h1 h1p h1s;apply sq<;>intro h2 h2p h2s<;>(try simp only[Q] at h2p);refine Walk.call (cr:=[]) zeu zbk Z (.some Z Z h2) Z Z (LeL.refl _) O Z Z Z (evs [] [(14,true)] ?_ ⟨⟨_,Z,h2⟩,O⟩);apply sq<;>intro h3 h3p h3s;try simp only[Q] at h3p
 refine xby (xs:=[_]) Z (.some Z Z h3) Z Z (Walk.call (cr:=[]) zxO (zhi (p:=fun t=> !zbr w.length t) ha zxP (fun t _=>zmg hs) ⟨Z,O⟩ Z Z) Z (.some Z Z h3) Z Z (LeL.refl _) ⟨Z,O⟩ Z Z Z (evs [] [(19,true)] ?_ ⟨⟨_,Z,h3⟩,O⟩));focus (refine rq ?_;all_goals ((simp[zbT,h1s,h1p,h2s,h2p,h3s,h3p];done)))
 focus (refine rq ?_;all_goals ((simp[zbT,h1s,h1p,h2s,h2p,h3s,h3p];done)))
 refine sqF ?_;focus (refine rq ?_;all_goals ((simp[zbT,h1s,h1p,h2s,h2p];done)))
 refine sqF ?_;refine sqF ?_;focus (refine rq ?_;all_goals ((simp[zbT,h1s,h1p];done)))
theorem znh {s:Str} (h:0<s.length):s.getD 0 0=s[0]:=by
 rcases s with _|⟨b,r⟩
 ·simp at h
 ·rfl
theorem xaF (c:Ctor):Ctor.mk c.name c.args c.index=c:=rfl
theorem Ty.eta (c:Ty):Ty.mk c.data c.index=c:=rfl
theorem Data.eta (c:Data):Data.mk c.name c.ctors=c:=rfl
theorem zxD {w:List Data}{met datas:List Str} (h4:(w.length:Int)<=4) (h:zbU w.length met datas []=zbU w.length [] [] w):D.bool true=D.bool (zaI w):=by
 unfold zaI;rw[<-h,xax h4];rfl
theorem zeW {w rest:List Data}{met datas:List Str} (h:zbU w.length met datas rest=zbU w.length [] [] w) (h2:zbU w.length met datas rest=false):D.bool false=D.bool (zaI w):=by
 unfold zaI;rw[<-h,h2,Bool.and_false]
theorem zgI {w:List Data} (hs:WSmall w):FnD Tryz.prog 29 [.d (zaj w)] [] (.d (.bool (zaI w))) []:=by
 have hs1:=hs.len;refine bd Tryz.f29 79 [] [] fun _ _ _ _ hk=>?_;apply sq<;>intro h1 h1p h1s<;>(try simp only[Q] at h1p);focus (refine rq ?_;all_goals ((simp[zaI];omega)))
 refine Walk.makeMap (id:=3012) .none Z Z (ev (Walk.makeMap (id:=3013) .none Z Z (ev (xaB (ι:=List (Data)×List (Data)×(List Str)×(List Str)) hk (fun x=>[(16,.d (.i (x.1.length:Int))),(3,.mapr 3012),(4,.mapr 3013)]) [2,6,8,17,18,19,20,21,22,23,24,25,26,27,28,29,30,31,32,33,34,35,36,37,38,39,40,41,42,43,44,45,46,47,48,49,50,51,52,53,54,55,56,57,58,59,60,61,62,63,64,65,66,67,68,69,70,71,72,73,74,75,76,77,78] (fun x=>[(3012,some (.map x.2.2.1)),(3013,some (.map x.2.2.2))]) (fun x=>x.1++x.2.1=w/\zbU w.length x.2.2.1 x.2.2.2 x.2.1=zbU w.length [] [] w) (fun x=>x.2.1.length) ([],w,[],[]) ⟨by simp,Z⟩ ⟨⟨_,Z,xaU ?_⟩,⟨⟨_,Z, ?_⟩,⟨⟨_,Z, ?_⟩,O⟩⟩⟩ ⟨?_,⟨?_,O⟩⟩ (fun x=>rfl) (fun x hg1=>?_)))));focus (rfl)
 iterate 2 focus (exact LeA.refl _)
 iterate 2 focus (first|rfl|(simp[getH];done))
 obtain⟨pre,rest,met,datas⟩:=x;dsimp only at hg1 ⊢;refine evc [] [] ?_;apply sq<;>intro h2 h2p h2s<;>(try simp only[Q] at h2p);rcases rest with _|⟨d,rest⟩
 ·exfalso;simp_all
 refine ixq sl23 Z Z Z (zaA hg1.1) Z (ev (ab 3006 ztR ?_));refine so zwK ?_;apply tv;apply sq<;>intro h3 h3p h3s<;>(try simp only[Q] at h3p);refine sqT ?_;refine sqT ?_;refine sqT ?_;refine sqT ?_;refine sqT ?_;focus (refine rq ?_;all_goals ((refine zeW hg1.2 ?_;simp[zbU,zbv,h1s,h1p,h2s,h2p,h3s,h3p];done)))
 refine xbN (i:=0) un9 (.some Z Z h3) Z Z Z Z (xan od) ?_;refine evs [] [(24,false)] ?_ ⟨⟨_,Z,h3⟩,O⟩;apply sq<;>intro h5 h5p h5s<;>(try simp only[Q] at h5p);refine sqT ?_;refine sqT ?_;refine sqT ?_;refine sqT ?_;focus (refine rq ?_;all_goals ((refine zeW hg1.2 ?_;simp only[zbU,zbv,znh (s:=d.name) od,zcS];simp[h1s,h1p,h2s,h2p,h3s,h3p,h5s,h5p];omega)))
 refine xbN (i:=0) un9 (.some Z Z h5) Z Z Z Z (xan od) ?_;refine evs [] [(30,false)] ?_ ⟨⟨_,Z,h5⟩,O⟩;apply sq<;>intro h7 h7p h7s<;>(try simp only[Q] at h7p);refine sqT ?_;refine sqT ?_;refine sqT ?_;focus (refine rq ?_;all_goals ((refine zeW hg1.2 ?_;simp only[zbU,zbv,znh (s:=d.name) od,zcS];simp[h1s,h1p,h2s,h2p,h3s,h3p,h5s,h5p,h7s,h7p];omega)))
 apply sq<;>intro h9 h9p h9s<;>(try simp only[Q] at h9p);refine sqT ?_;refine sqT ?_;focus (refine rq ?_;all_goals ((refine zeW hg1.2 ?_;simp[zbU,zbv,h1s,h1p,h2s,h2p,h3s,h3p,h5s,h5p,h7s,h7p,h9s,h9p];done)))
 refine Walk.lookup zqt (.some Z Z h9) Z Z Z Z (evs [] [(41,false)] ?_ ⟨⟨_,Z,h9⟩,O⟩);apply sq<;>intro h11 h11p h11s<;>(try simp only[Q] at h11p);refine sqT ?_;focus (refine rq ?_;all_goals ((refine zeW hg1.2 ?_;simp[zbU,zbv,h1s,h1p,h2s,h2p,h3s,h3p,h5s,h5p,h7s,h7p,h9s,h9p,h11s,h11p];done)))
 refine Walk.call (cr:=[]) zeu zbk Z (.some Z Z h11) Z Z (LeL.refl _) O Z Z Z (evs [] [(47,false)] ?_ ⟨⟨_,Z,h11⟩,O⟩);apply sq<;>intro h13 h13p h13s<;>(try simp only[Q] at h13p);focus (refine rq ?_;all_goals ((refine zeW hg1.2 ?_;simp[zbU,zbv,h1s,h1p,h2s,h2p,h3s,h3p,h5s,h5p,h7s,h7p,h9s,h9p,h11s,h11p,h13s,h13p];done)))
 refine Walk.mapUpdate zqt .none Z Z Z Z o7 ?_;apply tv;refine xaB (ι:=List (Ctor)×List (Ctor)×(List Str)) hk (fun x=>[(60,.d (.i (x.1.length:Int)))]) [2,8,61,62,63,64,65,66,67,68,69,70,71,72,73,74,75,76,77] (fun x=>[(3012,some (.map x.2.2))]) (fun x=>x.1++x.2.1=d.ctors/\zdx w.length x.2.2 x.2.1=zdx w.length met d.ctors) (fun x=>x.2.1.length) ([],d.ctors,met) ⟨by simp,Z⟩ ⟨⟨_,Z,xaU ?_⟩,O⟩ ⟨?_,O⟩ (fun x=>rfl) (fun x hg2=>?_);focus (rfl)
 focus (first|rfl|(simp[getH];done))
 obtain⟨pre2,rest2,met2⟩:=x;dsimp only at hg2 ⊢;have hb:=(hs.data d (by rw[<-hg1.1];simp)).2;refine evc [] [] ?_;apply sq<;>intro h14 h14p h14s<;>(try simp only[Q] at h14p);rcases rest2 with _|⟨y,rest2⟩
 ·exfalso;simp_all
 refine ixq zcw Z Z Z (zaA hg2.1) Z (ev (ab 3008 zhp ?_));refine so zdw ?_;apply tv;refine wc zzm (zoF hs1 (hs.ctor d (by rw[<-hg1.1];simp) y (by rw[<-hg2.1];simp)).1 (hs.ctor d (by rw[<-hg1.1];simp) y (by rw[<-hg2.1];simp)).2) Z Z ?_;refine ev ?_;apply sq<;>intro h15 h15p h15s<;>(try simp only[Q] at h15p);refine sqT ?_;focus (refine rq ?_;all_goals ((refine zeW hg1.2 ?_;rw[zbU,<-hg2.2];simp[zdx,h1s,h1p,h2s,h2p,h3s,h3p,h5s,h5p,h7s,h7p,h9s,h9p,h11s,h11p,h13s,h13p,h14s,h14p,h15s,h15p];done)))
 refine Walk.lookup zqt (.some Z Z h15) Z Z Z Z (evs [] [(68,false)] ?_ ⟨⟨_,Z,h15⟩,O⟩);apply sq<;>intro h17 h17p h17s<;>(try simp only[Q] at h17p);focus (refine rq ?_;all_goals ((refine zeW hg1.2 ?_;rw[zbU,<-hg2.2];simp[zdx,h1s,h1p,h2s,h2p,h3s,h3p,h5s,h5p,h7s,h7p,h9s,h9p,h11s,h11p,h13s,h13p,h14s,h14p,h15s,h15p,h17s,h17p];done)))
 refine Walk.mapUpdate zqt .none Z Z Z Z o7 ?_;apply tv;refine ar (xaj ((pre2++[y],rest2,met2++[y.name])) ⟨⟨(by have hz:=hg2.1;rw[<-hz];simp),(by rw[<-hg2.2];simp[zdx,h1s,h1p,h2s,h2p,h3s,h3p,h5s,h5p,h7s,h7p,h9s,h9p,h11s,h11p,h13s,h13p,h14s,h14p,h15s,h15p,h17s,h17p])⟩,oi,sx ⟨⟨_,Z,xaU ?_⟩,O⟩ ⟨?_,O⟩⟩);focus ((simp;done))
 focus (first|rfl|(simp[getH];done))
 have hrest2:rest2=[]:=by
  rcases rest2 with _|⟨a,b⟩
  ·rfl
  ·exfalso;have hz:=xam List.length (hg2.1);simp only[xaa,xab,xac] at hz;omega
 subst hrest2;refine ar (xaj ((pre++[d],rest,met2,datas++[d.name])) ⟨⟨(by have hz:=hg1.1;rw[<-hz];simp),(by rw[<-hg1.2,zbU,<-hg2.2];simp only[zbv,znh (s:=d.name) od,zcS];simp[zdx,h1s,h1p,h2s,h2p,h3s,h3p,h5s,h5p,h7s,h7p,h9s,h9p,h11s,h11p,h13s,h13p,h14s,h14p];omega)⟩,oi,sx ⟨⟨_,Z,xaU ?_⟩,⟨⟨_,Z, ?_⟩,⟨⟨_,Z, ?_⟩,O⟩⟩⟩ ⟨?_,⟨?_,O⟩⟩⟩);focus ((simp;done))
 iterate 2 focus (exact LeA.refl _)
 iterate 2 focus (first|rfl|(simp[getH];done))
 have hrest:rest=[]:=by
  rcases rest with _|⟨a,b⟩
  ·rfl
  ·exfalso;have hz:=xam List.length (hg1.1);simp only[xaa,xab,xac] at hz;omega
 subst hrest;focus (refine rq ?_;all_goals ((exact zxD od hg1.2)))
theorem zlF {w:List Data}{a b:Int} (hs:WSmall w):FnD Tryz.prog 69 [.d (zaj w),.agg [.d (.i a),.d (.i b)]] [] (.d (.bool (zbn w ⟨a,b⟩))) []:=by
 refine bd Tryz.f69 12 [] [] fun _ _ _ _ hk=>?_;refine bx 3003 ?_;refine ev (wc zwm (zgI hs) Z Z ?_);refine ev ?_;apply sq<;>intro h1 h1p h1s;refine Walk.call (cr:=[]) ztl (zgg hs.len) Z (.some Z Z h1) Z Z (LeL.refl _) O Z Z Z (evs [] [(7,true)] ?_ ⟨⟨_,Z,h1⟩,O⟩);focus (refine rq ?_;all_goals ((simp[zbn,h1s,h1p];done)))
 focus (refine rq ?_;all_goals ((simp[zbn,h1s,h1p];done)))
abbrev zmP (x:UInt8):List D:=[.int .u8 (x.toNat:Int)]
abbrev zd9 (b:Str):D:= .sl (b.map zmP)
abbrev rdB (b:Str) (p:Nat):Res:= .box [.d (zd9 b),.d (.i p)]
theorem zot (u:UInt8):0<=IntKind.i64.wrap (u.toNat:Int)/\IntKind.i64.wrap (u.toNat:Int)<=255:=by
 have h:u.toNat<256:=u.toNat_lt;rw[zcI od];omega
def zgA (b:Str) (p:Nat):Int:=
 IntKind.i64.wrap ((nth b (p % b.length)).toNat:Int)*131+IntKind.i64.wrap ((nth b ((p*7+3) % b.length)).toNat:Int)*1117+((p:Int)+1-1)*29+((p:Int)+1-1) / ((b.map zmP).length:Int)*53
def zax (b:Str) (p:Nat) (n:Int):Int:=
 if n<1\/b.length=0 then 0
 else if p<b.length then IntKind.i64.wrap ((nth b p).toNat:Int) % n
 else xorV (zgA b p) (zgA b p / 64) % n
theorem zhU {b:Str}{p:Nat}{n:Int} (h:1<=n):0<=zax b p n/\zax b p n<n:=by
 unfold zax;split
 ·omega
 ·split
  ·exact⟨Int.emod_nonneg _ od,Int.emod_lt_of_pos _ od⟩
  ·exact⟨Int.emod_nonneg _ od,Int.emod_lt_of_pos _ od⟩
theorem oz{p:Prop}(h:p:=by rw[un5];rfl):p:=h
theorem zbu {b:Str}{p:Nat}{n:Int} (hb:b.length<=2000) (hp:p<=1000000000000) (hn:n<=1000000000000):
  FnD Tryz.prog 54 [.ref 900 0,.d (.i n)] [(900,some (rdB b p))] (.d (.i (zax b p n))) [(900,some (rdB b (p+1)))]:=by
 have w1:=zot (nth b (p % b.length));have w2:=zot (nth b ((p*7+3) % b.length));have w3:=zot (nth b p);have hlen:((b.map zmP).length:Int)=b.length:=by simp
 have d1:0<=((p:Int)+1-1) / ((b.map zmP).length:Int):=Int.ediv_nonneg od od;have d2:((p:Int)+1-1) / ((b.map zmP).length:Int)<=(p:Int)+1-1:=Int.ediv_le_self _ od;have hx:0<=zgA b p/\zgA b p<=100*1000000000000:=by unfold zgA;omega
 have hx2:=zxF (m:=zgA b p) (n:=zgA b p / 64) od od;have k1:(p:Int)+1-1=(p:Int):=by omega
 have hx3:=hx2;have hx4:=hx;unfold zgA at hx3 hx4;refine bd Tryz.f54 99 [46,57,74,89,94,95,98] [] fun _ _ _ _ hk=>?_;refine ar (so ty3 ?_);apply tv;apply sq<;>intro h1 h1p h1s<;>(try simp only[Q] at h1p);refine sqT ?_;refine rn [(900,some (rdB b (p+1)))] (r1 Z) (.eqd ?_) ⟨Z,Z⟩ (SubO.get ⟨.inr ?_,⟨.inl Z,O⟩⟩) (zaQ Z);rotate_left 2;apply sq<;>intro h3 h3p h3s<;>(try simp only[Q] at h3p);refine rn [(900,some (rdB b (p+1)))] (r1 Z) (.eqd ?_) ⟨Z,Z⟩ (SubO.get ⟨.inr ?_,⟨.inl Z,O⟩⟩) (zaQ Z);rotate_left 2;refine ar ?_;apply sq<;>intro h4 h4p h4s<;>(try simp only[Q] at h4p);refine ixq (i:=p) sl22 Z Z od (zah od) Z ?_;refine evs [46,57,74,89,94,95,98] [] (xbz oz un3 .none Z Z ?_);refine evs [46,57,74,89,94,95,98] [] (xb6 .none Z Z Z od ?_);refine evs [46,57,74,89,94,95,98] [] (rn [(900,some (rdB b (p+1)))] (r1 Z) (.eqd ?_) ⟨Z,Z⟩ (SubO.get ⟨.inr ?_,⟨.inl Z,O⟩⟩) (zaQ Z));rotate_left 2;refine xb6 .none Z Z Z od ?_;refine ixq (i:=p % b.length) sl22 Z Z (by rw[k1,hlen];rfl) (zah (Nat.mod_lt _ od)) Z ?_;refine evd [46,57,74,89,94,95,98] [] (xbz oz un3 .none Z Z ?_);refine evd [46,57,74,89,94,95,98] [] (ar (ar (ar (xb6 .none Z Z Z od ?_))));refine ixq (i:=(p*7+3) % b.length) sl22 Z Z (by rw[k1,hlen];rfl) (zah (Nat.mod_lt _ od)) Z ?_;refine evd [46,57,74,89,94,95,98] [] (xbz oz un3 .none Z Z ?_);refine evd [46,57,74,89,94,95,98] [] (ar (ar (ar (ar (xb4 .none Z Z Z od ?_)))));refine evd [46,57,74,89,94,95,98] [] (ar (ar (dr (xb4 .none Z Z Z od ?_))));refine Walk.xorI .none Z Z Z (evs [46,57,74,89,94,95,98] [] (xb6 .none Z Z Z od ?_));refine evs [46,57,74,89,94,95,98] [] (rn [(900,some (rdB b (p+1)))] (r1 Z) (.eqd ?_) ⟨Z,Z⟩ (SubO.get ⟨.inr ?_,⟨.inl Z,O⟩⟩) (zaQ Z));rotate_left 2;all_goals (first|((refine xam D.i ?_;unfold zax;first|(rw[if_pos od];done)|(rw[if_neg od,if_pos od];done)|(rw[if_neg od,if_neg od];rfl));done)|(rfl))
def numV (b:Str) (p:Nat) (l:List Int):Int:=nth l (zax b p l.length).toNat
theorem ziM {b:Str}{p:Nat}{l:List Int} (hb:b.length<=2000) (hp:p<=1000000000000) (hl:1<=l.length) (hl2:l.length<=1000):
  FnD Tryz.prog 61 [.ref 900 0,.d (zcB l)] [(900,some (rdB b p))] (.d (.i (numV b p l))) [(900,some (rdB b (p+1)))]:=by
 have hv:=zhU (b:=b) (p:=p) (n:=((l.map fun n=>[D.i n]).length:Int)) ot;have hlen:((l.map fun n=>[D.i n]).length:Int)=l.length:=by simp
 refine bd Tryz.f61 12 [] [] fun _ _ _ _ hk=>?_;refine wd zd7 (zbu hb hp ot) Z Z ⟨Z,O⟩ ?_;refine Walk.idx (i:=(zax b p ((l.map fun n=>[D.i n]).length:Int)).toNat) sl37 .none Z Z Z od (zah od) Z ?_;refine ev (rn [(900,some (rdB b (p+1)))] (r1 Z) (.eqd ?_) ⟨Z,Z⟩ (SubO.get ⟨.inr ?_,⟨.inl Z,O⟩⟩) (zaQ Z));rotate_left 2;all_goals (first|((refine xam D.i ?_;unfold numV;rw[hlen]);done)|(rfl))
theorem zn3 {b:Str} (hb:b.length<=1000000000000):FnD Tryz.prog 24 [.d (zd9 b)] [] (.ref 900 0) [(900,some (rdB (b.take 2000) 0))]:=by
 refine bd Tryz.f24 11 [] [] fun _ _ _ _ hk=>?_;apply sq<;>intro h1 h1p h1s<;>(try simp only[Q] at h1p);refine xbD (b:=2000) sl22 .none Z Z Z (by intro x hx;obtain⟨y,_,rfl⟩:=List.mem_map.1 hx;rfl) Z Z (by simp at *;omega) ?_;refine ev (bu [0] [_] zwH ?_);refine bx 900 ?_;refine ev ?_;focus (refine rn [(900,some (rdB (b.take 2000) 0))] (r1 Z) (.refl _) ⟨Z,Z⟩ (SubH.get ⟨(by(simp[getH,rdB,zd9,List.map_take];done)),O⟩) (zaQ Z);all_goals (rfl))
 refine bu [0] [_] zwH ?_;refine bx 900 ?_;refine ev ?_;focus (refine rn [(900,some (rdB (b.take 2000) 0))] (r1 Z) (.refl _) ⟨Z,Z⟩ (SubH.get ⟨(by(show some (Res.box _)=some (Res.box _);rw[List.take_of_length_le (by simp at *;omega)];rfl)),O⟩) (zaQ Z);all_goals ((simp[h1s,h1p];done)))
def zcT (n:Int):Bool:=decide (65<=n)&&decide (n<=90)
theorem zgY {n:Int}:FnD Tryz.prog 132 [.d (.int .u8 n)] [] (.d (.bool (zcT n))) []:=by
 refine bd Tryz.f132 9 [] [] fun _ _ _ _ hk=>?_;apply sq<;>intro h1 h1p h1s;focus (refine rq ?_;all_goals ((simp[zcT,h1s,h1p];done)))
 focus (refine rq ?_;all_goals ((simp[zcT,h1s,h1p];done)))
theorem zlI {s:Str} (hs:s.length<=1000000000000):FnD Tryz.prog 133 [.d (.str s)] [] (.d (.bool (zdI s))) []:=by
 refine bd Tryz.f133 34 [] [] fun _ _ _ _ hk=>?_;apply sq<;>intro h1 h1p h1s<;>(try simp only[Q,zcT] at h1p);refine sqT ?_;refine sqT ?_;focus (refine rq ?_;all_goals ((rw[zj1 od];done)))
 apply sq<;>intro h3 h3p h3s<;>(try simp only[Q,zcT] at h3p);refine sqT ?_;focus (refine rq ?_;all_goals ((rw[zj1 od];done)))
 refine xbN (i:=0) un9 (.some Z Z h3) Z Z Z Z (xan od) ?_;refine Walk.call (cr:=[]) zqK zgY Z (.some Z Z h3) Z Z (LeL.refl _) O Z Z Z (evs [] [(12,false)] ?_ ⟨⟨_,Z,h3⟩,O⟩);apply sq<;>intro h5 h5p h5s<;>(try simp only[Q,zcT] at h5p);focus (refine rq ?_;all_goals ((rw[zcu od];simp only[zcS,h1s,h1p,h3s,h3p,h5s,h5p];simp;done)))
 refine xaB (ι:=Nat) hk (fun i=>[(3,.d (.i (i:Int)))]) [2,18,19,20,21,22,23,24,25,26,27,28,29,30,31,32,33] (fun i=>[]) (fun i=>1<=i/\i<=s.length/\zdR (s.drop i)=zdR (s.drop 1)) (fun i=>s.length-i) 1 ⟨by omega,by omega,Z⟩ ⟨⟨_,Z,xaU ?_⟩,O⟩ O (fun x=>rfl) (fun i hg1=>?_);focus (rfl)
 refine evc [] [] ?_;apply sq<;>intro h6 h6p h6s<;>(try simp only[Q,zcT] at h6p);refine xbN un9 .none Z Z Z Z (xan od) ?_;refine ev ?_;apply sq<;>intro h7 h7p h7s<;>(try simp only[Q,zcT] at h7p);refine sqT ?_;focus (refine rq ?_;all_goals ((rw[zcu od,<-hg1.2.2,zdz od];simp[zbH];omega)))
 refine xbN un9 (.some Z Z h7) Z Z Z Z (xan od) ?_;refine evs [] [(28,false)] ?_ ⟨⟨_,Z,h7⟩,O⟩;apply sq<;>intro h9 h9p h9s<;>(try simp only[Q,zcT] at h9p);focus (refine rq ?_;all_goals ((rw[zcu od,<-hg1.2.2,zdz od];simp[zbH];omega)))
 refine ar (xaj (i+1) ⟨⟨by omega,by omega,by rw[<-hg1.2.2,zdz (i:=i) od];simp[zbH];omega⟩, ?_,sx ⟨⟨_,Z,xaU ?_⟩,O⟩ O⟩);focus (omega)
 focus (rfl)
 focus (refine rq ?_;all_goals ((rw[zcu od,<-hg1.2.2,zkF od];simp[zan,zcS];omega)))
theorem zoW {s:Str} (hs:s.length<=1000000000000):FnD Tryz.prog 75 [.d (.str s)] [] (.d (.bool (zbv s))) []:=by
 refine bd Tryz.f75 15 [] [] fun _ _ _ _ hk=>?_;apply sq<;>intro h1 h1p h1s;try simp only[Q] at h1p
 refine xbN (i:=0) un9 (.some Z Z h1) Z Z Z Z (xan od) ?_;refine Walk.call (cr:=[]) zqK zgY Z (.some Z Z h1) Z Z (LeL.refl _) O Z Z Z (evs [] [(6,true)] ?_ ⟨⟨_,Z,h1⟩,O⟩);apply sq<;>intro h2 h2p h2s;try simp only[Q] at h2p
 focus (refine rq ?_;all_goals ((simp only[zbv,znh (s:=s) od,zcS];simp only[zcT,xad,xah] at *;simp[*];done)))
 focus (refine rq ?_;all_goals ((simp only[zbv,znh (s:=s) od,zcS];simp only[zcT,xad,xah] at *;simp[*];done)))
 refine sqF ?_;focus (refine rq ?_;all_goals ((simp[zbv,h1s,h1p];done)))
theorem zj3 {n:Nat}{a b:Int}:FnD Tryz.prog 134 [.d (.i n),.agg [.d (.i a),.d (.i b)]] [] (.d (.bool (zbr n ⟨a,b⟩))) []:=by
 refine bd Tryz.f134 30 [] [] fun _ _ _ _ hk=>?_;refine bx 3003 ?_;refine ev ?_;apply sq<;>intro h1 h1p h1s;try simp only[Q] at h1p
 focus (refine rq ?_;all_goals ((simp[zbr,zan,h1s,h1p];done)))
 apply sq<;>intro h2 h2p h2s;try simp only[Q] at h2p
 apply sq<;>intro h3 h3p h3s<;>(try simp only[Q] at h3p);apply sq<;>intro h4 h4p h4s;try simp only[Q] at h4p
 focus (refine rq ?_;all_goals ((apply xam D.bool;rw[xat];simp[zbr,zan];omega)))
 focus (refine rq ?_;all_goals ((simp[zbr,zan,h1s,h1p,h2s,h2p,h3s,h3p,h4s,h4p];done)))
 refine sqF ?_;focus (refine rq ?_;all_goals ((apply xam D.bool;rw[xat];simp[zbr,zan];omega)))
 refine sqF ?_;refine sqF ?_;focus (refine rq ?_;all_goals ((simp[zbr,zan,h1s,h1p,h2s,h2p];done)))
theorem zoU {n:Nat}{s:Str}{args:List Ty}{k:Int} (hn:s.length<=1000000000000) (ha:args.length<=1000000000000):FnD Tryz.prog 76 [.d (.i n),.agg [.d (.str s),.d (zbZ args),.d (.i k)]] [] (.d (.bool (zbT n ⟨s,args,k⟩))) []:=by
 refine bd Tryz.f76 41 [] [] fun _ _ _ _ hk=>?_;refine bx 3003 ?_;refine ev (wc zxU (zlI hn) Z Z ?_);refine ev ?_;apply sq<;>intro h1 h1p h1s;refine sqT ?_;refine sqT ?_;refine sqT ?_;focus (refine rq ?_;all_goals ((simp[zbT,h1s,h1p];done)))
 apply sq<;>intro h3 h3p h3s<;>(try simp only[Q] at h3p);refine sqT ?_;refine sqT ?_;focus (refine rq ?_;all_goals ((apply xam D.bool;simp[zbT,zan];omega)))
 apply sq<;>intro h5 h5p h5s<;>(try simp only[Q] at h5p);refine sqT ?_;focus (refine rq ?_;all_goals ((apply xam D.bool;simp[zbT,zan];omega)))
 apply sq<;>intro h7 h7p h7s<;>(try simp only[Q] at h7p);focus (refine rq ?_;all_goals ((apply xam D.bool;simp[zbT,zan];omega)))
 refine xaB (ι:=List (Ty)×List (Ty)) hk (fun x=>[(5,.d (.i (x.1.length:Int)))]) [4,26,27,28,29,30,31,32,33,34,35,36,37,38,39,40] (fun x=>[]) (fun x=>x.1++x.2=args/\(x.2.any fun t=> !zbr n t)=args.any fun t=> !zbr n t) (fun x=>x.2.length) ([],args) ⟨by simp,Z⟩ ⟨⟨_,Z,xaU ?_⟩,O⟩ O (fun x=>rfl) (fun x hg1=>?_);focus (rfl)
 obtain⟨pre,rest⟩:=x;dsimp only at hg1 ⊢;refine evc [] [] ?_;apply sq<;>intro h8 h8p h8s<;>(try simp only[Q] at h8p);rcases rest with _|⟨y,rest⟩
 ·exfalso;simp_all
 refine ixq zaz Z Z Z (zaA hg1.1) Z (ev (wc zt3 zj3 Z Z ?_));refine ev ?_;apply sq<;>intro h9 h9p h9s<;>(try simp only[Q] at h9p);focus (refine rq ?_;all_goals ((simp only[zbT];rw[<-hg1.2];simp[zan,h1s,h1p,h3s,h3p,h5s,h5p,h7s,h7p,h8s,h8p,h9s,h9p];done)))
 refine ar (xaj ((pre++[y],rest)) ⟨⟨(by have hz:=hg1.1;rw[<-hz];simp),(by rw[<-hg1.2];simp[Ty.eta,h1s,h1p,h3s,h3p,h5s,h5p,h7s,h7p,h8s,h8p,h9s,h9p])⟩,oi,sx ⟨⟨_,Z,xaU ?_⟩,O⟩ O⟩);focus ((simp;done))
 have hrest:rest=[]:=by
  rcases rest with _|⟨a,b⟩
  ·rfl
  ·exfalso;have hz:=xam List.length (hg1.1);simp only[xaa,xab,xac] at hz;omega
 subst hrest;focus (refine rq ?_;all_goals ((simp only[zbT];rw[<-hg1.2];simp[zan,h1s,h1p,h3s,h3p,h5s,h5p,h7s,h7p,h8s,h8p];omega)))
theorem zob {w:List Data}{d k:Nat} (hs:WSmall w) (hd:d<w.length):FnD Tryz.prog 77 [.d (zaj w),.d (.i d),.d (.i k)] [] (.d (.bool (zom w d k))) []:=by
 have hw:=hs.len;refine bd Tryz.f77 79 [] [] fun _ _ _ _ hk=>?_;refine xaB (ι:=Nat) hk (fun i=>[(7,.d (.i (i:Int)))]) [6,8,9,10,11,12,13,14,15,16,17,18,19,20,21,22,23,24,25,26,27,28,29,30,31,32,33,34,35,36,37,38,39,40,41,42,43,44,45,46,47,48,49,50,51,52,53,54,55,56,57,58,59,60,61,62,63,64,65,66,67,68,69,70,71,72,73,74,75,76,77,78] (fun i=>[]) (fun i=>i<=d+1/\∀i',i'<i->zdT w d k i'=false) (fun i=>d+1-i) 0 ⟨by omega,fun _ h=>absurd h od⟩ ⟨⟨_,Z,xaU ?_⟩,O⟩ O (fun x=>rfl) (fun i hg1=>?_);focus (rfl)
 refine evc [] [] ?_;apply sq<;>intro h1 h1p h1s<;>(try simp only[Q,Int.ofNat_lt,Int.ofNat_le] at h1p);apply sq<;>intro h2 h2p h2s<;>(try simp only[Q,Int.ofNat_lt,Int.ofNat_le] at h2p);refine Walk.idx sl23 (.some Z Z h2) Z Z Z Z (zah od) Z ?_;refine evd [] [(17,true)] ?_ ⟨⟨_,Z,h2⟩,O⟩;refine Walk.idx sl23 (.some Z Z h2) Z Z Z Z (zah od) Z ?_;refine evd [] [(17,true)] ?_ ⟨⟨_,Z,h2⟩,O⟩;refine dr ?_;apply sq<;>intro h3 h3p h3s<;>(try simp only[Q,Int.ofNat_lt,Int.ofNat_le] at h3p);focus (refine rq ?_;all_goals ((refine xam D.bool (zdk (i:=i) od ?_).symm;simp[zdT,h1s,h1p,h2s,h2p,h3s,h3p];done)))
 refine xaB (ι:=Nat) hk (fun j=>[(8,.d (.i (j:Int)))]) [6,30,31,32,33,34,35,36,37,38,39,40,41,42,43,44,45,46,47,48,49,50,51,52,53,54,55,56,57,58,59,60,61,62,63,64,65,66,67,68,69,70,71,72,73,74,75,76,77,78] (fun j=>[]) (fun j=>j<=(nth w i).ctors.length/\∀j',j'<j->zb3 w d k i j'=false) (fun j=>(nth w i).ctors.length-j) 0 ⟨by omega,fun _ h=>absurd h od⟩ ⟨⟨_,Z,xaU ?_⟩,O⟩ O (fun x=>rfl) (fun j hg2=>?_);focus (rfl)
 have hb:=hs.ctors i;refine evc [] [] (ixq sl23 Z Z Z (zah od) Z ?_);refine ev ?_;apply sq<;>intro h4 h4p h4s<;>(try simp only[Q,Int.ofNat_lt,Int.ofNat_le] at h4p);apply sq<;>intro h5 h5p h5s<;>(try simp only[Q,Int.ofNat_lt,Int.ofNat_le] at h5p);refine sqT ?_;refine ixq sl23 Z Z Z (zah od) Z ?_;refine evd [] [] ?_;apply sq<;>intro h7 h7p h7s<;>(try simp only[Q,Int.ofNat_lt,Int.ofNat_le] at h7p);refine Walk.idx sl23 (.some Z Z h7) Z Z Z Z (zah od) Z ?_;refine evd [] [(58,true)] ?_ ⟨⟨_,Z,h7⟩,O⟩;refine Walk.idx zcw (.some Z Z h7) Z Z Z Z (zah od) Z ?_;refine evd [] [(58,true)] ?_ ⟨⟨_,Z,h7⟩,O⟩;refine Walk.idx sl23 (.some Z Z h7) Z Z Z Z (zah od) Z ?_;refine evd [] [(58,true)] ?_ ⟨⟨_,Z,h7⟩,O⟩;refine Walk.idx zcw (.some Z Z h7) Z Z Z Z (zah od) Z ?_;refine evd [] [(58,true)] ?_ ⟨⟨_,Z,h7⟩,O⟩;refine dr ?_;apply sq<;>intro h8 h8p h8s<;>(try simp only[Q,Int.ofNat_lt,Int.ofNat_le] at h8p);focus (refine rq ?_;all_goals ((refine xam D.bool (zdk (i:=i) od ?_).symm;unfold zdT;rw[zdk (i:=j) od (by simp[zb3,h1s,h1p,h2s,h2p,h3s,h3p,h4s,h4p,h5s,h5p,h7s,h7p,h8s,h8p])];simp;done)))
 refine ar (xaj (j+1) ⟨⟨by omega,zaZ hg2.2 (by simp[zb3,h1s,h1p,h2s,h2p,h3s,h3p,h4s,h4p,h5s,h5p,h7s,h7p,h8s,h8p];done)⟩,od,sx ⟨⟨_,Z,xaU ?_⟩,O⟩ O⟩);focus (rfl)
 refine dr (sqF ?_);refine ar (xaj (j+1) ⟨⟨by omega,zaZ hg2.2 (by simp[zb3,h1s,h1p,h2s,h2p,h3s,h3p,h4s,h4p,h5s,h5p,h7s,h7p];done)⟩,od,sx ⟨⟨_,Z,xaU ?_⟩,O⟩ O⟩);focus (rfl)
 apply sq<;>intro h10 h10p h10s<;>(try simp only[Q,Int.ofNat_lt,Int.ofNat_le] at h10p);refine ixq sl23 Z Z Z (zah od) Z ?_;refine evd [] [] ?_;apply sq<;>intro h11 h11p h11s<;>(try simp only[Q,Int.ofNat_lt,Int.ofNat_le] at h11p);refine Walk.idx sl23 (.some Z Z h11) Z Z Z Z (zah od) Z ?_;refine evd [] [(58,true)] ?_ ⟨⟨_,Z,h11⟩,O⟩;refine Walk.idx zcw (.some Z Z h11) Z Z Z Z (zah od) Z ?_;refine evd [] [(58,true)] ?_ ⟨⟨_,Z,h11⟩,O⟩;refine Walk.idx sl23 (.some Z Z h11) Z Z Z Z (zah od) Z ?_;refine evd [] [(58,true)] ?_ ⟨⟨_,Z,h11⟩,O⟩;refine Walk.idx zcw (.some Z Z h11) Z Z Z Z (zah od) Z ?_;refine evd [] [(58,true)] ?_ ⟨⟨_,Z,h11⟩,O⟩;refine dr ?_;apply sq<;>intro h12 h12p h12s<;>(try simp only[Q,Int.ofNat_lt,Int.ofNat_le] at h12p);focus (refine rq ?_;all_goals ((exfalso;omega)))
 refine ar (xaj (j+1) ⟨⟨by omega,zaZ hg2.2 (by simp[zb3,h1s,h1p,h2s,h2p,h3s,h3p,h4s,h4p,h5s,h5p,h10s,h10p,h11s,h11p,h12s,h12p];done)⟩,od,sx ⟨⟨_,Z,xaU ?_⟩,O⟩ O⟩);focus (rfl)
 refine dr (sqF ?_);refine ar (xaj (j+1) ⟨⟨by omega,zaZ hg2.2 (by simp[zb3,h1s,h1p,h2s,h2p,h3s,h3p,h4s,h4p,h5s,h5p,h10s,h10p,h11s,h11p];done)⟩,od,sx ⟨⟨_,Z,xaU ?_⟩,O⟩ O⟩);focus (rfl)
 refine ar (xaj (i+1) ⟨⟨by omega,zaZ hg1.2 (zim (by simp[h1s,h1p,h2s,h2p,h3s,h3p,h4s,h4p,h5s,h5p,h10s,h10p]) hg2.2 (fun hj=>by omega))⟩,od,sx ⟨⟨_,Z,xaU ?_⟩,O⟩ O⟩);focus (rfl)
 refine sqF ?_;refine ar (xaj (i+1) ⟨⟨by omega,zaZ hg1.2 (zim (by simp[h1s,h1p,h2s,h2p,h3s,h3p,h4s,h4p]) hg2.2 (fun hj=>by omega))⟩,od,sx ⟨⟨_,Z,xaU ?_⟩,O⟩ O⟩);focus (rfl)
 refine dr (sqF ?_);refine xaB (ι:=Nat) hk (fun j=>[(8,.d (.i (j:Int)))]) [6,30,31,32,33,34,35,36,37,38,39,40,41,42,43,44,45,46,47,48,49,50,51,52,53,54,55,56,57,58,59,60,61,62,63,64,65,66,67,68,69,70,71,72,73,74,75,76,77,78] (fun j=>[]) (fun j=>j<=(nth w i).ctors.length/\∀j',j'<j->zb3 w d k i j'=false) (fun j=>(nth w i).ctors.length-j) 0 ⟨by omega,fun _ h=>absurd h od⟩ ⟨⟨_,Z,xaU ?_⟩,O⟩ O (fun x=>rfl) (fun j hg2=>?_);focus (rfl)
 have hb:=hs.ctors i;refine evc [] [] (ixq sl23 Z Z Z (zah od) Z ?_);refine ev ?_;apply sq<;>intro h16 h16p h16s<;>(try simp only[Q,Int.ofNat_lt,Int.ofNat_le] at h16p);apply sq<;>intro h17 h17p h17s<;>(try simp only[Q,Int.ofNat_lt,Int.ofNat_le] at h17p);refine sqT ?_;refine ixq sl23 Z Z Z (zah od) Z ?_;refine evd [] [] ?_;apply sq<;>intro h19 h19p h19s<;>(try simp only[Q,Int.ofNat_lt,Int.ofNat_le] at h19p);refine Walk.idx sl23 (.some Z Z h19) Z Z Z Z (zah od) Z ?_;refine evd [] [(58,true)] ?_ ⟨⟨_,Z,h19⟩,O⟩;refine Walk.idx zcw (.some Z Z h19) Z Z Z Z (zah od) Z ?_;refine evd [] [(58,true)] ?_ ⟨⟨_,Z,h19⟩,O⟩;refine Walk.idx sl23 (.some Z Z h19) Z Z Z Z (zah od) Z ?_;refine evd [] [(58,true)] ?_ ⟨⟨_,Z,h19⟩,O⟩;refine Walk.idx zcw (.some Z Z h19) Z Z Z Z (zah od) Z ?_;refine evd [] [(58,true)] ?_ ⟨⟨_,Z,h19⟩,O⟩;refine dr ?_;apply sq<;>intro h20 h20p h20s<;>(try simp only[Q,Int.ofNat_lt,Int.ofNat_le] at h20p);focus (refine rq ?_;all_goals ((exfalso;omega)))
 refine ar (xaj (j+1) ⟨⟨by omega,zaZ hg2.2 (by simp[zb3,h1s,h1p,h2s,h2p,h16s,h16p,h17s,h17p,h19s,h19p,h20s,h20p];done)⟩,od,sx ⟨⟨_,Z,xaU ?_⟩,O⟩ O⟩);focus (rfl)
 refine dr (sqF ?_);refine ar (xaj (j+1) ⟨⟨by omega,zaZ hg2.2 (by simp[zb3,h1s,h1p,h2s,h2p,h16s,h16p,h17s,h17p,h19s,h19p];done)⟩,od,sx ⟨⟨_,Z,xaU ?_⟩,O⟩ O⟩);focus (rfl)
 apply sq<;>intro h22 h22p h22s<;>(try simp only[Q,Int.ofNat_lt,Int.ofNat_le] at h22p);refine ixq sl23 Z Z Z (zah od) Z ?_;refine evd [] [] ?_;apply sq<;>intro h23 h23p h23s<;>(try simp only[Q,Int.ofNat_lt,Int.ofNat_le] at h23p);refine Walk.idx sl23 (.some Z Z h23) Z Z Z Z (zah od) Z ?_;refine evd [] [(58,true)] ?_ ⟨⟨_,Z,h23⟩,O⟩;refine Walk.idx zcw (.some Z Z h23) Z Z Z Z (zah od) Z ?_;refine evd [] [(58,true)] ?_ ⟨⟨_,Z,h23⟩,O⟩;refine Walk.idx sl23 (.some Z Z h23) Z Z Z Z (zah od) Z ?_;refine evd [] [(58,true)] ?_ ⟨⟨_,Z,h23⟩,O⟩;refine Walk.idx zcw (.some Z Z h23) Z Z Z Z (zah od) Z ?_;refine evd [] [(58,true)] ?_ ⟨⟨_,Z,h23⟩,O⟩;refine dr ?_;apply sq<;>intro h24 h24p h24s<;>(try simp only[Q,Int.ofNat_lt,Int.ofNat_le] at h24p);focus (refine rq ?_;all_goals ((refine xam D.bool (zdk (i:=i) od ?_).symm;unfold zdT;rw[zdk (i:=j) od (by simp[zb3,h1s,h1p,h2s,h2p,h16s,h16p,h17s,h17p,h22s,h22p,h23s,h23p,h24s,h24p])];simp;done)))
 refine ar (xaj (j+1) ⟨⟨by omega,zaZ hg2.2 (by simp[zb3,h1s,h1p,h2s,h2p,h16s,h16p,h17s,h17p,h22s,h22p,h23s,h23p,h24s,h24p];done)⟩,od,sx ⟨⟨_,Z,xaU ?_⟩,O⟩ O⟩);focus (rfl)
 refine dr (sqF ?_);refine ar (xaj (j+1) ⟨⟨by omega,zaZ hg2.2 (by simp[zb3,h1s,h1p,h2s,h2p,h16s,h16p,h17s,h17p,h22s,h22p,h23s,h23p];done)⟩,od,sx ⟨⟨_,Z,xaU ?_⟩,O⟩ O⟩);focus (rfl)
 refine ar (xaj (i+1) ⟨⟨by omega,zaZ hg1.2 (zim (by simp[h1s,h1p,h2s,h2p,h16s,h16p,h17s,h17p,h22s,h22p]) hg2.2 (fun hj=>by omega))⟩,od,sx ⟨⟨_,Z,xaU ?_⟩,O⟩ O⟩);focus (rfl)
 refine sqF ?_;refine ar (xaj (i+1) ⟨⟨by omega,zaZ hg1.2 (zim (by simp[h1s,h1p,h2s,h2p,h16s,h16p]) hg2.2 (fun hj=>by omega))⟩,od,sx ⟨⟨_,Z,xaU ?_⟩,O⟩ O⟩);focus (rfl)
 focus (refine rq ?_;all_goals ((refine xam D.bool (zfJ (fun x hx=>hg1.2 x (Nat.lt_of_lt_of_le hx ?_))).symm;omega)))
theorem zwh {w:List Data} (h:w.length<=4) (h2:∀i,i<w.length->zcH w i=true):zbA w=true:=by
 unfold zbA;rw[zdY h2];simp[h]
theorem zxE {w:List Data} (h:4<w.length):zbA w=false:=by
 unfold zbA;rw[xaw od];rfl
theorem zgR {w:List Data}{i:Nat} (h:i<w.length) (h2:zcH w i=false):zbA w=false:=by
 unfold zbA;rw[zdB h h2];simp
theorem zqb {w:List Data}{d:Nat} (h:zbv (nth w d).name=true) (h1:1<=(nth w d).ctors.length) (h2:(nth w d).ctors.length<=4) (h3:∀k,k<(nth w d).ctors.length->zeP w d k=true):zcH w d=true:=by
 unfold zcH;rw[h,zdY h3];simp[h1,h2]
theorem zeQ {w:List Data} (hs:WSmall w):FnD Tryz.prog 35 [.d (zaj w)] [] (.d (.bool (zbA w))) []:=by
 have hw:=hs.len;refine bd Tryz.f35 67 [] [] fun _ _ _ _ hk=>?_;apply sq<;>intro h1 h1p h1s<;>(try simp only[Q,Int.ofNat_lt,Int.ofNat_le] at h1p);focus (refine rq ?_;all_goals ((refine xam D.bool (zxE ?_).symm;omega)))
 refine xaB (ι:=Nat) hk (fun i=>[(3,.d (.i (i:Int)))]) [2,4,8,9,10,11,12,13,14,15,16,17,18,19,20,21,22,23,24,25,26,27,28,29,30,31,32,33,34,35,36,37,38,39,40,41,42,43,44,45,46,47,48,49,50,51,52,53,54,55,56,57,58,59,60,61,62,63,64,65,66] (fun i=>[]) (fun i=>i<=w.length/\∀i',i'<i->zcH w i'=true) (fun i=>w.length-i) 0 ⟨by omega,fun _ h=>absurd h od⟩ ⟨⟨_,Z,xaU ?_⟩,O⟩ O (fun x=>rfl) (fun i hg1=>?_);focus (rfl)
 refine evc [] [] ?_;apply sq<;>intro h2 h2p h2s<;>(try simp only[Q,Int.ofNat_lt,Int.ofNat_le] at h2p);refine ixq sl23 Z Z Z (zah od) Z ?_;refine ev (wc zzt (zoW (hs.data _ (zaf od)).1) Z Z ?_);refine ev ?_;apply sq<;>intro h3 h3p h3s<;>(try simp only[Q,Int.ofNat_lt,Int.ofNat_le] at h3p);refine sqT ?_;refine sqT ?_;focus (refine rq ?_;all_goals ((refine xam D.bool (zgR (i:=i) od ?_).symm;simp[zcH,h1s,h1p,h2s,h2p,h3s,h3p];done)))
 refine Walk.idx sl23 (.some Z Z h3) Z Z Z Z (zah od) Z ?_;refine evs [] [(21,false)] ?_ ⟨⟨_,Z,h3⟩,O⟩;apply sq<;>intro h5 h5p h5s<;>(try simp only[Q,Int.ofNat_lt,Int.ofNat_le] at h5p);refine sqT ?_;focus (refine rq ?_;all_goals ((refine xam D.bool (zgR (i:=i) od ?_).symm;unfold zcH;rw[xaw (p:=1<=(nth w i).ctors.length) od];simp;done)))
 refine Walk.idx sl23 (.some Z Z h5) Z Z Z Z (zah od) Z ?_;refine evs [] [(30,false)] ?_ ⟨⟨_,Z,h5⟩,O⟩;apply sq<;>intro h7 h7p h7s<;>(try simp only[Q,Int.ofNat_lt,Int.ofNat_le] at h7p);focus (refine rq ?_;all_goals ((refine xam D.bool (zgR (i:=i) od ?_).symm;unfold zcH;rw[xaw (p:=(nth w i).ctors.length<=4) od];simp;done)))
 refine xaB (ι:=Nat) hk (fun k=>[(4,.d (.i (k:Int)))]) [2,39,40,41,42,43,44,45,46,47,48,49,50,51,52,53,54,55,56,57,58,59,60,61,62,63,64,65,66] (fun k=>[]) (fun k=>k<=(nth w i).ctors.length/\∀k',k'<k->zeP w i k'=true) (fun k=>(nth w i).ctors.length-k) 0 ⟨by omega,fun _ h=>absurd h od⟩ ⟨⟨_,Z,xaU ?_⟩,O⟩ O (fun x=>rfl) (fun k hg2=>?_);focus (rfl)
 have hb:=hs.ctors i;refine evc [] [] (ixq sl23 Z Z Z (zah od) Z ?_);refine ev ?_;apply sq<;>intro h8 h8p h8s<;>(try simp only[Q,Int.ofNat_lt,Int.ofNat_le] at h8p);refine ixq sl23 Z Z Z (zah od) Z ?_;refine ev (ixq zcw Z Z Z (zah od) Z ?_);refine ev (wc zzu (zoU (hs.ctor _ (zaf (i:=i) od) _ (zaf (i:=k) od)).1 (hs.ctor _ (zaf (i:=i) od) _ (zaf (i:=k) od)).2) Z Z ?_);refine ev ?_;apply sq<;>intro h9 h9p h9s<;>(try simp only[Q,Int.ofNat_lt,Int.ofNat_le] at h9p);refine sqT ?_;focus (refine rq ?_;all_goals ((refine xam D.bool (zgR (i:=i) od ?_).symm;unfold zcH;rw[zdB (i:=k) od (by simp[zeP,xaF,h1s,h1p,h2s,h2p,h3s,h3p,h5s,h5p,h7s,h7p,h8s,h8p,h9s,h9p])];simp;done)))
 refine Walk.call (cr:=[]) zzv (zob hs od) Z (.some Z Z h9) Z Z (LeL.refl _) O Z Z Z ?_;refine evs [] [(61,false)] ?_ ⟨⟨_,Z,h9⟩,O⟩;apply sq<;>intro h11 h11p h11s<;>(try simp only[Q,Int.ofNat_lt,Int.ofNat_le] at h11p);focus (refine rq ?_;all_goals ((refine xam D.bool (zgR (i:=i) od ?_).symm;unfold zcH;rw[zdB (i:=k) od (by simp[zeP,xaF,h1s,h1p,h2s,h2p,h3s,h3p,h5s,h5p,h7s,h7p,h8s,h8p,h9s,h9p,h11s,h11p])];simp;done)))
 refine ar (xaj (k+1) ⟨⟨by omega,zaZ hg2.2 (by simp[zeP,xaF,h1s,h1p,h2s,h2p,h3s,h3p,h5s,h5p,h7s,h7p,h8s,h8p,h9s,h9p,h11s,h11p];done)⟩,od,sx ⟨⟨_,Z,xaU ?_⟩,O⟩ O⟩);focus (rfl)
 refine ar (xaj (i+1) ⟨⟨by omega,zaZ hg1.2 (zqb (by simp[h1s,h1p,h2s,h2p,h3s,h3p,h5s,h5p,h7s,h7p,h8s,h8p]) od od (fun x hx=>hg2.2 x od))⟩,od,sx ⟨⟨_,Z,xaU ?_⟩,O⟩ O⟩);focus (rfl)
 focus (refine rq ?_;all_goals ((refine xam D.bool (zwh ?_ (fun x hx=>hg1.2 x (Nat.lt_of_lt_of_le hx ?_))).symm<;>omega)))
structure CSmall (l:List Ctor):Prop where
 len:l.length<=1000000000000
 ctor:∀c∈l,c.name.length<=1000000000000/\c.args.length<=1000000000000
theorem WSmall.cs {w:List Data} (h:WSmall w){d:Data} (hd:d∈w):CSmall d.ctors:=⟨(h.data d hd).2,h.ctor d hd⟩
def fits (c:Ctor) (k:Int):Bool:=decide (k=0)||(decide (c.index=0)||decide (c.index=k))
def za0 (k:Int):Nat->List Ctor->List Int
 |_,[]=>[]
 |i,c::r=>if fits c k then (i:Int)::za0 k (i+1) r else za0 k (i+1) r
def zcJ (k:Int) (t:Ty):Ty:=if t.index = -1 then ⟨t.data,k⟩ else t
def zcZ (c:Ctor) (k:Int):Int:=if c.index=0 then k else c.index
theorem zgT (k:Int):∀(l:List Ctor) (i:Nat),(za0 k i l).length<=l.length
 | [],_=>by simp[za0]
 |c::r,i=>by
  have:=zgT k r (i+1);unfold za0;split<;>simp<;>omega
theorem zj8 {w:List Data}{k:Int}:FnD Tryz.prog 156 [.d (zaj w),.agg [.d (.i (-1)),.d (.i k)]] [] (.d (zcB [])) []:=by
 refine bd Tryz.f156 44 [5] [] fun _ _ _ _ hk=>?_;refine bx 3003 ?_;refine evs [5] [] (xbr 1 1 .none Z Z ?_);apply tv;apply sq<;>intro h1 h1p h1s<;>(try simp only[Q] at h1p);exact absurd h1 oi

 focus (refine rn0 (r1 Z) (.gld ?_);all_goals (rfl))
theorem zni {w:List Data}{d:Nat}{k:Int} (hs:WSmall w) (hd:d<w.length):FnD Tryz.prog 156 [.d (zaj w),.agg [.d (.i d),.d (.i k)]] [] (.d (zcB (za0 k 0 (nth w d).ctors))) []:=by
 have hb:=hs.ctors d;refine bd Tryz.f156 44 [5] [] fun _ _ _ _ hk=>?_;refine bx 3003 ?_;refine evs [5] [] (xbr 1 1 .none Z Z ?_);apply tv;apply sq<;>intro h1 h1p h1s<;>(try simp only[Q] at h1p);refine ixq sl23 Z Z Z (zah hd) Z (evs [5] [] (xaB (ι:=List (Ctor)×List (Ctor)×(List Int)) hk (fun x=>[(18,.d (.i (x.1.length:Int))),(5,.gl 1 (x.2.2.map fun n=>[D.i n]))]) [6,7,19,20,21,22,23,24,25,26,27,28,29,30,31,32,33,34,35,36,37,38,39,40,41,42] (fun x=>[(1,some (.tok ((x.2.2.map fun n=>[D.i n])).length 1))]) (fun x=>x.1++x.2.1=(nth w d).ctors/\x.2.2++za0 k x.1.length x.2.1=za0 k 0 (nth w d).ctors/\x.2.2.length<=x.1.length) (fun x=>x.2.1.length) ([],(nth w d).ctors,[]) ⟨by simp,by simp,by simp⟩ ⟨⟨_,Z,xaU ?_⟩,⟨⟨_,Z,LeA.glg ?_⟩,O⟩⟩ ⟨zac ?_,O⟩ (fun x=>rfl) (fun x hg1=>?_)));iterate 3 focus (rfl)
 obtain⟨pre,rest,acc⟩:=x;dsimp only at hg1 ⊢;refine evc [5] [] ?_;apply sq<;>intro h2 h2p h2s<;>(try simp only[Q] at h2p);rcases rest with _|⟨y,rest⟩
 ·exfalso;simp_all
 refine ixq zcw Z Z Z (zaA hg1.1) Z (evs [5] [] (ab 3007 zhp ?_));refine evs [5] [] (so zdw ?_);apply tv;apply sq<;>intro h3 h3p h3s<;>(try simp only[Q] at h3p);refine sqT ?_;refine sqT ?_;refine si [0] [_] sl37 tz3 ?_;refine ap sl37 zz3 Z Z Z oi (by have hl:=hg1.2.2;simp;omega) ?_;refine asg ?_;apply tv;refine ar (xaj ((pre++[y],rest,if fits y k then acc++[(pre.length:Int)] else acc)) ⟨⟨(by have hz:=hg1.1;rw[<-hz];simp),⟨by rw[<-hg1.2.1];by_cases hf:fits y k=true<;>simp[za0,hf],by split<;>simp<;>omega⟩⟩,oi,sx ⟨⟨_,Z,xaU ?_⟩,⟨⟨_,Z,LeA.glg ?_⟩,O⟩⟩ ⟨zac ?_,O⟩⟩);iterate 3 focus ((simp[fits,h1s,h1p,h2s,h2p,h3s,h3p];done))
 apply sq<;>intro h5 h5p h5s<;>(try simp only[Q] at h5p);refine sqT ?_;refine si [0] [_] sl37 tz3 ?_;refine ap sl37 zz3 Z Z Z oi (by have hl:=hg1.2.2;simp;omega) ?_;refine asg ?_;apply tv;refine ar (xaj ((pre++[y],rest,if fits y k then acc++[(pre.length:Int)] else acc)) ⟨⟨(by have hz:=hg1.1;rw[<-hz];simp),⟨by rw[<-hg1.2.1];by_cases hf:fits y k=true<;>simp[za0,hf],by split<;>simp<;>omega⟩⟩,oi,sx ⟨⟨_,Z,xaU ?_⟩,⟨⟨_,Z,LeA.glg ?_⟩,O⟩⟩ ⟨zac ?_,O⟩⟩);iterate 3 focus ((simp[fits,h1s,h1p,h2s,h2p,h3s,h3p,h5s,h5p];done))
 apply sq<;>intro h7 h7p h7s<;>(try simp only[Q] at h7p);refine si [0] [_] sl37 tz3 ?_;refine ap sl37 zz3 Z Z Z oi (by have hl:=hg1.2.2;simp;omega) ?_;refine asg ?_;apply tv;refine ar (xaj ((pre++[y],rest,if fits y k then acc++[(pre.length:Int)] else acc)) ⟨⟨(by have hz:=hg1.1;rw[<-hz];simp),⟨by rw[<-hg1.2.1];by_cases hf:fits y k=true<;>simp[za0,hf],by split<;>simp<;>omega⟩⟩,oi,sx ⟨⟨_,Z,xaU ?_⟩,⟨⟨_,Z,LeA.glg ?_⟩,O⟩⟩ ⟨zac ?_,O⟩⟩);iterate 3 focus ((simp[fits,h1s,h1p,h2s,h2p,h3s,h3p,h5s,h5p,h7s,h7p];done))
 refine ar (xaj ((pre++[y],rest,if fits y k then acc++[(pre.length:Int)] else acc)) ⟨⟨(by have hz:=hg1.1;rw[<-hz];simp),⟨by rw[<-hg1.2.1];by_cases hf:fits y k=true<;>simp[za0,hf],by split<;>simp<;>omega⟩⟩,oi,sx ⟨⟨_,Z,xaU ?_⟩,⟨⟨_,Z,LeA.glg ?_⟩,O⟩⟩ ⟨zac ?_,O⟩⟩);iterate 3 focus ((simp[fits,h1s,h1p,h2s,h2p,h3s,h3p,h5s,h5p,h7s,h7p];done))
 have hrest:rest=[]:=by
  rcases rest with _|⟨a,b⟩
  ·rfl
  ·exfalso;have hz:=xam List.length (hg1.1);simp only[xaa,xab,xac] at hz;omega
 subst hrest;refine rn0 (r1 Z) (.gld ?_);rotate_left;exfalso;simp at h1<;>omega;all_goals (have e:=hg1.2.1;simp only[za0,xaq] at e;rw[e])
theorem zoY {s:Str}{l:List Ty}{i k:Int}:FnD Tryz.prog 194 [.agg [.d (.str s),.d (zbZ l),.d (.i i)],.d (.i k)] [] (.d (.bool (fits ⟨s,l,i⟩ k))) []:=by
 refine bd Tryz.f194 18 [] [] fun _ _ _ _ hk=>?_;refine bx 3002 ?_;refine ev ?_;apply sq<;>intro h1 h1p h1s<;>(try simp only[Q] at h1p);refine sqT ?_;focus (refine rq ?_;all_goals (refine xam D.bool ?_;simp[fits,h1s,h1p]))
 apply sq<;>intro h2 h2p h2s<;>(try simp only[Q] at h2p);focus (refine rq ?_;all_goals (refine xam D.bool ?_;simp[fits,h1s,h1p,h2s,h2p]))
 focus (refine rq ?_;all_goals (refine xam D.bool ?_;simp[fits,h1s,h1p,h2s,h2p]))
theorem zkd {w:List Data}{k:Int}:FnD Tryz.prog 145 [.d (zaj w),.agg [.d (.i (-1)),.d (.i k)]] [] (.d (zcB [])) []:=by
 refine bd Tryz.f145 40 [] [] fun _ _ _ _ hk=>?_;refine bx 3003 ?_;refine ev (xb8 1 sl37 .none Z Z (ev ?_));apply sq<;>intro h1 h1p h1s<;>(try simp only[Q] at h1p)

 focus (refine rn0 (r1 Z) (.gld ?_);all_goals (rfl))
 exact absurd h1 oi
theorem zn4 {w:List Data}{d:Nat}{k:Int} (hs:WSmall w) (hd:d<w.length):FnD Tryz.prog 145 [.d (zaj w),.agg [.d (.i d),.d (.i k)]] [] (.d (zcB (za0 k 0 (nth w d).ctors))) []:=by
 have hb:=hs.ctors d;refine bd Tryz.f145 40 [] [] fun _ _ _ _ hk=>?_;refine bx 3003 ?_;refine ev (xb8 1 sl37 .none Z Z (ev ?_));apply sq<;>intro h1 h1p h1s<;>(try simp only[Q] at h1p);exfalso;simp at h1<;>omega;refine xaB (ι:=List (Ctor)×List (Ctor)×(List Int)) hk (fun x=>[(6,.d (.i (x.1.length:Int))),(5,.gl 1 (x.2.2.map fun n=>[D.i n]))]) [12,13,14,15,16,17,18,19,20,21,22,23,24,25,26,27,28,29,30,31,32,33,34,35,36,37,38] (fun x=>[(1,some (.tok ((x.2.2.map fun n=>[D.i n])).length 1))]) (fun x=>x.1++x.2.1=(nth w d).ctors/\x.2.2++za0 k x.1.length x.2.1=za0 k 0 (nth w d).ctors/\x.2.2.length<=x.1.length) (fun x=>x.2.1.length) ([],(nth w d).ctors,[]) ⟨by simp,by simp,by simp⟩ ⟨⟨_,Z,xaU ?_⟩,⟨⟨_,Z,LeA.glg ?_⟩,O⟩⟩ ⟨zac ?_,O⟩ (fun x=>rfl) (fun x hg1=>?_);iterate 3 focus (rfl)
 obtain⟨pre,rest,acc⟩:=x;dsimp only at hg1 ⊢;refine evc [] [] (ixq sl23 Z Z Z (zah hd) Z (ev ?_));apply sq<;>intro h2 h2p h2s<;>(try simp only[Q] at h2p);rcases rest with _|⟨y,rest⟩
 ·exfalso;simp_all
 refine ixq sl23 Z Z Z (zah hd) Z (evd [] [] (ixq zcw Z Z Z (zaA hg1.1) Z (evd [] [] (wc zx8 zoY Z Z ?_))));refine dr ?_;apply sq<;>intro h3 h3p h3s<;>(try simp only[Q] at h3p);refine si [0] [_] sl37 tz3 ?_;refine ap sl37 zz3 Z Z Z oi (by have hl:=hg1.2.2;simp;omega) ?_;refine ev (ar (xaj ((pre++[y],rest,if fits y k then acc++[(pre.length:Int)] else acc)) ⟨⟨(by have hz:=hg1.1;rw[<-hz];simp),⟨by rw[<-hg1.2.1];by_cases hf:fits y k=true<;>simp[za0,hf],by split<;>simp<;>omega⟩⟩,oi,sx ⟨⟨_,Z,xaU ?_⟩,⟨⟨_,Z,LeA.glg ?_⟩,O⟩⟩ ⟨zac ?_,O⟩⟩));iterate 3 focus ((simp[xaF,h1s,h1p,h2s,h2p,h3s,h3p];done))
 refine ar (xaj ((pre++[y],rest,if fits y k then acc++[(pre.length:Int)] else acc)) ⟨⟨(by have hz:=hg1.1;rw[<-hz];simp),⟨by rw[<-hg1.2.1];by_cases hf:fits y k=true<;>simp[za0,hf],by split<;>simp<;>omega⟩⟩,oi,sx ⟨⟨_,Z,xaU ?_⟩,⟨⟨_,Z,LeA.glg ?_⟩,O⟩⟩ ⟨zac ?_,O⟩⟩);iterate 3 focus ((simp[xaF,h1s,h1p,h2s,h2p,h3s,h3p];done))
 have hrest:rest=[]:=by
  rcases rest with _|⟨a,b⟩
  ·rfl
  ·exfalso;have hz:=xam List.length (hg1.1);simp only[xaa,xab,xac] at hz;omega
 subst hrest;refine rn0 (r1 Z) (.gld ?_);rotate_left;all_goals (have e:=hg1.2.1;simp only[za0,xaq] at e;rw[e])
theorem zmE {s:Str}{l:List Ty}{i k:Int}:FnD Tryz.prog 195 [.agg [.d (.str s),.d (zbZ l),.d (.i i)],.d (.i k)] [] (.d (.i (zcZ ⟨s,l,i⟩ k))) []:=by
 refine bd Tryz.f195 11 [] [] fun _ _ _ _ hk=>?_;refine bx 3002 ?_;refine ev ?_;apply sq<;>intro h1 h1p h1s<;>(try simp only[Q] at h1p);focus (refine rq ?_;all_goals (refine xam D.i ?_;simp[zcZ,h1s,h1p]))
 focus (refine rq ?_;all_goals (refine xam D.i ?_;simp[zcZ,h1s,h1p]))
theorem zmc {w:List Data}{d c:Nat}{k:Int} (hs:WSmall w) (hd:d<w.length) (hc:c<(nth w d).ctors.length):FnD Tryz.prog 157 [.d (zaj w),.agg [.d (.i d),.d (.i k)],.d (.i c)] [] (.d (zbZ ((nth (nth w d).ctors c).args.map (zcJ (zcZ (nth (nth w d).ctors c) k))))) []:=by
 have hb:=(hs.ctor _ (zaf hd) _ (zaf hc)).2;refine bd Tryz.f157 45 [9] [] fun _ _ _ _ hk=>?_;refine bx 3004 ?_;refine evs [9] [] (ixq sl23 Z Z Z (zah hd) Z (evs [9] [] (ixq zcw Z Z Z (zah hc) Z (evs [9] [] (ab 3007 zhp ?_)))));refine so zdw ?_;apply tv;apply sq<;>intro h1 h1p h1s<;>(try simp only[Q] at h1p);refine xbr 1 2 .none Z Z ?_;apply tv;refine xaB (ι:=List (Ty)×List (Ty)) hk (fun x=>[(30,.d (.i (x.1.length:Int))),(9,.gl 1 ((x.1.map (zcJ (zcZ (nth (nth w d).ctors c) k))).map Ty.c))]) [11,31,32,33,34,35,36,37,38,39,40,41,42,43] (fun x=>[(1,some (.tok (((x.1.map (zcJ (zcZ (nth (nth w d).ctors c) k))).map Ty.c)).length 2))]) (fun x=>x.1++x.2=(nth (nth w d).ctors c).args) (fun x=>x.2.length) ([],(nth (nth w d).ctors c).args) oi ⟨⟨_,Z,xaU ?_⟩,⟨⟨_,Z,LeA.glg ?_⟩,O⟩⟩ ⟨zac ?_,O⟩ (fun x=>rfl) (fun x hg1=>?_);iterate 3 focus (rfl)
 obtain⟨pre,rest⟩:=x;dsimp only at hg1 ⊢;refine evc [9] [] ?_;apply sq<;>intro h2 h2p h2s<;>(try simp only[Q] at h2p);rcases rest with _|⟨y,rest⟩
 ·exfalso;simp_all
 refine ixq zaz Z Z Z (zaA hg1) Z (evs [9] [] (ab 3011 tz29 ?_));refine so ty29 ?_;apply tv;apply sq<;>intro h3 h3p h3s<;>(try simp only[Q] at h3p);refine so ty3 ?_;apply tv;refine si [0] [_] zaz tz29 ?_;refine ap zaz zz29 Z Z Z oi (by have hl:=xam List.length hg1;simp at hl;simp;omega) ?_;refine asg ?_;apply tv;refine ar (xaj ((pre++[y],rest)) ⟨(by have hz:=hg1;rw[<-hz];simp),oi,sx ⟨⟨_,Z,xaU ?_⟩,⟨⟨_,Z,LeA.glg ?_⟩,O⟩⟩ ⟨zac ?_,O⟩⟩);iterate 3 focus ((simp[zcJ,zcZ,h1s,h1p,h2s,h2p,h3s,h3p];done))
 refine si [0] [_] zaz tz29 ?_;refine ap zaz zz29 Z Z Z oi (by have hl:=xam List.length hg1;simp at hl;simp;omega) ?_;refine asg ?_;apply tv;refine ar (xaj ((pre++[y],rest)) ⟨(by have hz:=hg1;rw[<-hz];simp),oi,sx ⟨⟨_,Z,xaU ?_⟩,⟨⟨_,Z,LeA.glg ?_⟩,O⟩⟩ ⟨zac ?_,O⟩⟩);iterate 3 focus ((simp[zcJ,zcZ,h1s,h1p,h2s,h2p,h3s,h3p];done))
 have hrest:rest=[]:=by
  rcases rest with _|⟨a,b⟩
  ·rfl
  ·exfalso;have hz:=xam List.length (hg1);simp only[xaa,xab,xac] at hz;omega
 subst hrest;focus (refine rn0 (r1 Z) (.gld ?_);all_goals (simp[<-hg1,zcZ,h1s,h1p,h2s,h2p]))
 refine xbr 1 2 .none Z Z ?_;apply tv;refine xaB (ι:=List (Ty)×List (Ty)) hk (fun x=>[(30,.d (.i (x.1.length:Int))),(9,.gl 1 ((x.1.map (zcJ (zcZ (nth (nth w d).ctors c) k))).map Ty.c))]) [11,31,32,33,34,35,36,37,38,39,40,41,42,43] (fun x=>[(1,some (.tok (((x.1.map (zcJ (zcZ (nth (nth w d).ctors c) k))).map Ty.c)).length 2))]) (fun x=>x.1++x.2=(nth (nth w d).ctors c).args) (fun x=>x.2.length) ([],(nth (nth w d).ctors c).args) oi ⟨⟨_,Z,xaU ?_⟩,⟨⟨_,Z,LeA.glg ?_⟩,O⟩⟩ ⟨zac ?_,O⟩ (fun x=>rfl) (fun x hg1=>?_);iterate 3 focus (rfl)
 obtain⟨pre,rest⟩:=x;dsimp only at hg1 ⊢;refine evc [9] [] ?_;apply sq<;>intro h4 h4p h4s<;>(try simp only[Q] at h4p);rcases rest with _|⟨y,rest⟩
 ·exfalso;simp_all
 refine ixq zaz Z Z Z (zaA hg1) Z (evs [9] [] (ab 3011 tz29 ?_));refine so ty29 ?_;apply tv;apply sq<;>intro h5 h5p h5s<;>(try simp only[Q] at h5p);refine so ty3 ?_;apply tv;refine si [0] [_] zaz tz29 ?_;refine ap zaz zz29 Z Z Z oi (by have hl:=xam List.length hg1;simp at hl;simp;omega) ?_;refine asg ?_;apply tv;refine ar (xaj ((pre++[y],rest)) ⟨(by have hz:=hg1;rw[<-hz];simp),oi,sx ⟨⟨_,Z,xaU ?_⟩,⟨⟨_,Z,LeA.glg ?_⟩,O⟩⟩ ⟨zac ?_,O⟩⟩);iterate 3 focus ((simp[zcJ,zcZ,h1s,h1p,h4s,h4p,h5s,h5p];done))
 refine si [0] [_] zaz tz29 ?_;refine ap zaz zz29 Z Z Z oi (by have hl:=xam List.length hg1;simp at hl;simp;omega) ?_;refine asg ?_;apply tv;refine ar (xaj ((pre++[y],rest)) ⟨(by have hz:=hg1;rw[<-hz];simp),oi,sx ⟨⟨_,Z,xaU ?_⟩,⟨⟨_,Z,LeA.glg ?_⟩,O⟩⟩ ⟨zac ?_,O⟩⟩);iterate 3 focus ((simp[zcJ,zcZ,h1s,h1p,h4s,h4p,h5s,h5p];done))
 have hrest:rest=[]:=by
  rcases rest with _|⟨a,b⟩
  ·rfl
  ·exfalso;have hz:=xam List.length (hg1);simp only[xaa,xab,xac] at hz;omega
 subst hrest;focus (refine rn0 (r1 Z) (.gld ?_);all_goals (simp[<-hg1,zcZ,h1s,h1p,h4s,h4p]))
theorem zoS {w:List Data}{d c:Nat}{k:Int} (hs:WSmall w) (hd:d<w.length) (hc:c<(nth w d).ctors.length):FnD Tryz.prog 146 [.d (zaj w),.agg [.d (.i d),.d (.i k)],.d (.i c)] [] (.d (zbZ ((nth (nth w d).ctors c).args.map (zcJ (zcZ (nth (nth w d).ctors c) k))))) []:=by
 have hb:=(hs.ctor _ (zaf hd) _ (zaf hc)).2;refine bd Tryz.f146 46 [] [] fun _ _ _ _ hk=>?_;refine bx 3004 ?_;refine ev (xb8 1 zaz .none Z Z (ev (ixq sl23 Z Z Z (zah hd) Z (ev (ixq zcw Z Z Z (zah hc) Z (ev (ab 3008 zhp ?_)))))));refine so zdw ?_;apply tv;refine xaB (ι:=List (Ty)×List (Ty)) hk (fun x=>[(9,.d (.i (x.1.length:Int))),(7,.gl 1 ((x.1.map (zcJ (zcZ (nth (nth w d).ctors c) k))).map Ty.c))]) [10,21,22,23,24,25,26,27,28,29,30,31,32,33,34,35,36,37,38,39,40,41,42,43,44] (fun x=>[(1,some (.tok (((x.1.map (zcJ (zcZ (nth (nth w d).ctors c) k))).map Ty.c)).length 2))]) (fun x=>x.1++x.2=(nth (nth w d).ctors c).args) (fun x=>x.2.length) ([],(nth (nth w d).ctors c).args) oi ⟨⟨_,Z,xaU ?_⟩,⟨⟨_,Z,LeA.glg ?_⟩,O⟩⟩ ⟨zac ?_,O⟩ (fun x=>rfl) (fun x hg1=>?_);iterate 3 focus (rfl)
 obtain⟨pre,rest⟩:=x;dsimp only at hg1 ⊢;refine evc [] [] ?_;apply sq<;>intro h1 h1p h1s<;>(try simp only[Q] at h1p);rcases rest with _|⟨y,rest⟩
 ·exfalso;simp_all
 refine ixq zaz Z Z Z (zaA hg1) Z (ev (ab 3010 tz29 ?_));refine so ty29 ?_;apply tv;apply sq<;>intro h2 h2p h2s<;>(try simp only[Q] at h2p);refine wc zx9 zmE Z Z ?_;refine ev (so ty3 ?_);apply tv;refine si [0] [_] zaz tz29 ?_;refine ap zaz zz29 Z Z Z oi (by have hl:=xam List.length hg1;simp at hl;simp;omega) ?_;refine ev (ar (xaj ((pre++[y],rest)) ⟨(by have hz:=hg1;rw[<-hz];simp),oi,sx ⟨⟨_,Z,xaU ?_⟩,⟨⟨_,Z,LeA.glg ?_⟩,O⟩⟩ ⟨zac ?_,O⟩⟩));iterate 3 focus ((simp[zcJ,xaF,h1s,h1p,h2s,h2p];done))
 refine si [0] [_] zaz tz29 ?_;refine ap zaz zz29 Z Z Z oi (by have hl:=xam List.length hg1;simp at hl;simp;omega) ?_;refine ev (ar (xaj ((pre++[y],rest)) ⟨(by have hz:=hg1;rw[<-hz];simp),oi,sx ⟨⟨_,Z,xaU ?_⟩,⟨⟨_,Z,LeA.glg ?_⟩,O⟩⟩ ⟨zac ?_,O⟩⟩));iterate 3 focus ((simp[zcJ,xaF,h1s,h1p,h2s,h2p];done))
 have hrest:rest=[]:=by
  rcases rest with _|⟨a,b⟩
  ·rfl
  ·exfalso;have hz:=xam List.length (hg1);simp only[xaa,xab,xac] at hz;omega
 subst hrest;focus (refine rn0 (r1 Z) (.gld ?_);all_goals (simp[<-hg1,zcZ,h1s,h1p]))
mutual
def ztU:Val->Val->Bool
 | .mk a n ks,.mk b m ls=>decide (a=b)&&(decide (n=m)&&zop ks ls)
def zop:List Val->List Val->Bool
 | [],[]=>true
 |x::r,y::s=>ztU x y&&zop r s
 |_,_=>false
end
mutual
def Val.ok:Val->Prop
 | .mk _ _ ks=>ks.length<=1000000000000/\Vals.ok ks
def Vals.ok:List Val->Prop
 | []=>True
 |v::r=>v.ok/\Vals.ok r
end
theorem Vals.ok_mem:∀ {l:List Val},Vals.ok l->∀v,v∈l->v.ok
 |x::r,h,v,hv=>by
  simp only[Vals.ok] at h;rcases List.mem_cons.1 hv with rfl|hv
  ·exact h.1
  ·exact Vals.ok_mem h.2 v hv
mutual
def Val.size:Val->Nat
 | .mk _ _ ks=>1+Vals.size ks
def Vals.size:List Val->Nat
 | []=>0
 |v::r=>v.size+Vals.size r
end
theorem Vals.size_mem:∀ {l:List Val}{v:Val},v∈l->v.size<=Vals.size l
 |x::r,v,hv=>by
  simp only[Vals.size];rcases List.mem_cons.1 hv with rfl|hv
  ·omega
  ·have:=Vals.size_mem hv;omega
theorem Val.ok_iff (v:Val):v.ok↔v.kids.length<=1000000000000/\Vals.ok v.kids:=by cases v;rfl
theorem Val.size_eq (v:Val):v.size=1+Vals.size v.kids:=by cases v;rfl
theorem zf1 {w:List Data}{a b:Int}:FnD Tryz.prog 78 [.d (zaj w),.agg [.d (.i a),.d (.i b)]] [] (.d (.bool (zbr w.length ⟨a,b⟩&&decide (0<=b)))) []:=by
 refine bd Tryz.f78 14 [] [] fun _ _ _ _ hk=>?_;refine bx 3003 ?_;refine ev (wc zt3 zj3 Z Z ?_);refine ev ?_;apply sq<;>intro h1 h1p h1s<;>(try simp only[Q] at h1p);focus (refine rq ?_;all_goals ((simp[h1s,h1p];done)))
 focus (refine rq ?_;all_goals ((simp[h1s,h1p];done)))
theorem zlM {w:List Data}{a b:Int} (hs:WSmall w):FnD Tryz.prog 86 [.d (zaj w),.agg [.d (.i a),.d (.i b)]] [] (.d (.bool (zbA w&&(zbr w.length ⟨a,b⟩&&decide (0<=b))))) []:=by
 refine bd Tryz.f86 12 [] [] fun _ _ _ _ hk=>?_;refine bx 3003 ?_;refine ev (wc zjo (zeQ hs) Z Z ?_);refine ev ?_;apply sq<;>intro h1 h1p h1s<;>(try simp only[Q] at h1p);refine Walk.call (cr:=[]) zlg zf1 Z (.some Z Z h1) Z Z (LeL.refl _) O Z Z Z (evs [] [(7,true)] ?_ ⟨⟨_,Z,h1⟩,O⟩);focus (refine rq ?_;all_goals ((simp[h1s,h1p];done)))
 focus (refine rq ?_;all_goals ((simp[h1s,h1p];done)))
def TyIn (n:Nat) (t:Ty):Prop:=t.data = -1\/∃d:Nat,t.data=d/\d<n
structure WT (w:List Data):Prop where
 small:WSmall w
 arg:∀d∈w,∀c∈d.ctors,∀t∈c.args,TyIn w.length t
def zae (w:List Data) (t:Ty) (c:Int):List Ty:=
 let x:=nth (nth w t.data.toNat).ctors c.toNat
 x.args.map (zcJ (zcZ x t.index))
def zbg (w:List Data) (t:Ty):List Int:=za0 t.index 0 (nth w t.data.toNat).ctors
def cap (x:Int):Int:=if 401<x then 401 else x
theorem zm3 {x:Int} (h:0<=x):0<=cap x/\cap x<=401:=by unfold cap;split<;>omega
theorem zgU (k:Int):∀(l:List Ctor) (i:Nat) (c:Int),c∈za0 k i l->∃j:Nat,c=(j:Int)/\i<=j/\j<i+l.length
 | [],i,c,h=>by simp[za0] at h
 |x::r,i,c,h=>by
  unfold za0 at h;have go:c∈za0 k (i+1) r->∃j:Nat,c=(j:Int)/\i<=j/\j<i+(x::r).length:=fun h=>by
   obtain⟨j,h1,h2,h3⟩:=zgU k r (i+1) c h;exact⟨j,h1,by omega,by simp;omega⟩
  split at h
  ·rcases List.mem_cons.1 h with h|h
   ·exact⟨i,h,by omega,by simp⟩
   ·exact go h
  ·exact go h
theorem zvE {n:Nat}{k:Int}{t:Ty} (h:TyIn n t):TyIn n (zcJ k t):=by
 unfold zcJ;split
 ·exact h
 ·exact h
def PlaceIn (w:List Data) (d:Nat) (c:Int):Prop:=∃j:Nat,c=j/\j<(nth w d).ctors.length
theorem zrO {w:List Data}{d:Nat}{k c:Int} (h:c∈zbg w ⟨d,k⟩):PlaceIn w d c:=by
 obtain⟨j,h1,_,h3⟩:=zgU _ _ _ _ h;exact⟨j,h1,by simpa using h3⟩
theorem zkh {w:List Data} (hw:WT w){d:Nat} (hd:d<w.length){k c:Int} (hc:PlaceIn w d c){t:Ty} (ht:t∈zae w ⟨d,k⟩ c):TyIn w.length t:=by
 obtain⟨j,rfl,hj⟩:=hc;simp only[zae,Int.toNat_natCast,List.mem_map] at ht;obtain⟨x,hx,rfl⟩:=ht;exact zvE (hw.arg _ (zaf hd) _ (zaf hj) x hx)
theorem zjl {w:List Data} (hw:WT w){d:Nat} (hd:d<w.length){k c:Int} (hc:PlaceIn w d c):(zae w ⟨d,k⟩ c).length<=1000000000000:=by
 obtain⟨j,rfl,hj⟩:=hc;simp only[zae,Int.toNat_natCast,xac];exact(hw.small.ctor _ (zaf hd) _ (zaf hj)).2
theorem zso {w:List Data} (hw:WT w){d:Nat}{k:Int}:(zbg w ⟨d,k⟩).length<=1000000000000:=by
 have:=zgT k (nth w d).ctors 0;have:=hw.small.ctors d;simp only[zbg,Int.toNat_natCast];omega
theorem zmd {w:List Data} (hw:WT w){d:Nat} (hd:d<w.length){k c:Int} (hc:PlaceIn w d c):FnD Tryz.prog 157 [.d (zaj w),.agg [.d (.i d),.d (.i k)],.d (.i c)] [] (.d (zbZ (zae w ⟨d,k⟩ c))) []:=by
 obtain⟨j,rfl,hj⟩:=hc;exact zmc hw.small hd hj
theorem znk {w:List Data} (hw:WT w){d:Nat} (hd:d<w.length){k:Int}:FnD Tryz.prog 156 [.d (zaj w),.agg [.d (.i d),.d (.i k)]] [] (.d (zcB (zbg w ⟨d,k⟩))) []:=zni hw.small hd
theorem zoT {w:List Data} (hw:WT w){d:Nat} (hd:d<w.length){k c:Int} (hc:PlaceIn w d c):FnD Tryz.prog 146 [.d (zaj w),.agg [.d (.i d),.d (.i k)],.d (.i c)] [] (.d (zbZ (zae w ⟨d,k⟩ c))) []:=by
 obtain⟨j,rfl,hj⟩:=hc;exact zoS hw.small hd hj
theorem zn5 {w:List Data} (hw:WT w){d:Nat} (hd:d<w.length){k:Int}:FnD Tryz.prog 145 [.d (zaj w),.agg [.d (.i d),.d (.i k)]] [] (.d (zcB (zbg w ⟨d,k⟩))) []:=zn4 hw.small hd
def zd3 (w:List Data):List Str:=w.flatMap fun d=>d.ctors.map (·.name)
structure WV (w:List Data):Prop where
 len:w.length<=4
 data:∀d∈w,zbv d.name=true/\1<=d.ctors.length/\d.ctors.length<=4
 ctor:∀d∈w,∀c∈d.ctors,zbT w.length c=true
 names:(w.map (·.name)).Nodup
 cnames:(zd3 w).Nodup
theorem ziB (n:Nat):∀(l:List Ctor) (met met':List Str),zdx n met l=some met'↔met'=met++l.map (·.name)/\(∀c∈l,zbT n c=true)/\(l.map (·.name)).Nodup/\∀c∈l,c.name∉met
 | [],met,met'=>by
  unfold zdx;simp only[xae,List.map_nil,xaq];exact⟨fun h=>⟨h.symm,by simp,by simp,by simp⟩,fun h=>h.1.symm⟩
 |c::r,met,met'=>by
  unfold zdx;by_cases h:(zbT n c&& !decide (c.name∈met))=true
  ·rw[if_pos h,ziB n r];simp only[xad,Bool.not_eq_true',decide_eq_false_iff_not] at h;obtain⟨h1,h2⟩:=h;constructor
   ·rintro ⟨rfl,q1,q2,q3⟩
    refine⟨by simp,fun x hx=>?_, ?_,fun x hx=>?_⟩
    ·rcases List.mem_cons.1 hx with rfl|hx
     ·exact h1
     ·exact q1 x hx
    ·simp only[xaf,List.nodup_cons];refine⟨fun hm=>?_,q2⟩;obtain⟨x,hx,he⟩:=List.mem_map.1 hm;exact q3 x hx (by rw[he];simp)
    ·rcases List.mem_cons.1 hx with rfl|hx
     ·exact h2
     ·intro hm;exact q3 x hx (by simp[hm])
   ·rintro ⟨rfl,q1,q2,q3⟩
    simp only[xaf,List.nodup_cons] at q2;refine⟨by simp,fun x hx=>q1 x (List.mem_cons_of_mem _ hx),q2.2,fun x hx hm=>?_⟩;simp only[List.mem_append,List.mem_singleton] at hm;rcases hm with hm|hm
    ·exact q3 x (List.mem_cons_of_mem _ hx) hm
    ·exact q2.1 (hm ▸ List.mem_map.2 ⟨x,hx,Z⟩)
  ·rw[if_neg h];constructor
   ·intro h';cases h'
   ·rintro ⟨_,q1,_,q3⟩
    exfalso;apply h;simp[q1 c oi,q3 c oi]
theorem ziC (n:Nat):∀(l:List Data) (met datas:List Str),zbU n met datas l=true↔
  (∀d∈l,zbv d.name=true/\1<=d.ctors.length/\d.ctors.length<=4)/\(∀d∈l,∀c∈d.ctors,zbT n c=true)/\(l.map (·.name)).Nodup/\(∀d∈l,d.name∉datas)/\
   (zd3 l).Nodup/\∀s∈zd3 l,s∉met
 | [],met,datas=>by simp[zbU,zd3]
 |d::r,met,datas=>by
  have hcn:zd3 (d::r)=d.ctors.map (·.name)++zd3 r:=rfl;have hw:zan d.ctors.length 1 4=true↔1<=d.ctors.length/\d.ctors.length<=4:=by simp[zan];omega
  unfold zbU;simp only[xad,Bool.not_eq_true',decide_eq_false_iff_not,hw];constructor
  ·rintro ⟨⟨⟨h1,h2⟩,h3⟩,h4⟩
   split at h4
   ·rename_i met' hm;obtain⟨rfl,c1,c2,c3⟩:=(ziB n _ _ _).1 hm;obtain⟨q1,q2,q3,q4,q5,q6⟩:=(ziC n r _ _).1 h4;refine⟨fun x hx=>?_,fun x hx=>?_, ?_,fun x hx=>?_, ?_,fun s hs=>?_⟩
    ·rcases List.mem_cons.1 hx with rfl|hx
     ·exact⟨h1,h3⟩
     ·exact q1 x hx
    ·rcases List.mem_cons.1 hx with rfl|hx
     ·exact c1
     ·exact q2 x hx
    ·simp only[xaf,List.nodup_cons];refine⟨fun hm=>?_,q3⟩;obtain⟨x,hx,he⟩:=List.mem_map.1 hm;exact q4 x hx (by rw[he];simp)
    ·rcases List.mem_cons.1 hx with rfl|hx
     ·exact h2
     ·intro hm;exact q4 x hx (by simp[hm])
    ·rw[hcn,List.nodup_append];refine⟨c2,q5,fun a ha b hb he=>?_⟩;subst he;exact q6 a hb (by simp only[List.mem_append];exact .inr ha)
    ·rw[hcn] at hs;rcases List.mem_append.1 hs with hs|hs
     ·obtain⟨c,hc,rfl⟩:=List.mem_map.1 hs;exact c3 c hc
     ·intro hm;exact q6 s hs (by simp[hm])
   ·cases h4
  ·rintro ⟨q1,q2,q3,q4,q5,q6⟩
   rw[hcn] at q5 q6;rw[List.nodup_append] at q5;simp only[xaf,List.nodup_cons] at q3;have hd:=q1 d oi;have hm:zdx n met d.ctors=some (met++d.ctors.map (·.name)):=(ziB n _ _ _).2 ⟨rfl,q2 d oi,q5.1,fun c hc=>q6 _ (List.mem_append.2 (.inl (List.mem_map.2 ⟨c,hc,rfl⟩)))⟩;refine⟨⟨⟨hd.1,q4 d oi⟩,hd.2⟩, ?_⟩;rw[hm];refine(ziC n r _ _).2 ⟨fun x hx=>q1 x (List.mem_cons_of_mem _ hx),fun x hx=>q2 x (List.mem_cons_of_mem _ hx),q3.2,fun x hx hmem=>?_,q5.2.1,fun s hs hmem=>?_⟩
   ·simp only[List.mem_append,List.mem_singleton] at hmem;rcases hmem with hmem|hmem
    ·exact q4 x (List.mem_cons_of_mem _ hx) hmem
    ·exact q3.1 (hmem ▸ List.mem_map.2 ⟨x,hx,Z⟩)
   ·rcases List.mem_append.1 hmem with hmem|hmem
    ·exact q6 s (List.mem_append.2 (.inr hs)) hmem
    ·exact q5.2.2 s hmem s hs Z
theorem zdo (w:List Data):zaI w=true↔WV w:=by
 unfold zaI;rw[xad,ziC];constructor
 ·rintro ⟨h1,q1,q2,q3,_,q5,_⟩
  exact⟨by have:=xas h1;omega,q1,q2,q3,q5⟩
 ·rintro ⟨h1,q1,q2,q3,q5⟩
  exact⟨xax od,q1,q2,q3,by simp,q5,by simp⟩
theorem zqa {l:List Str}:l.Nodup↔∀i j,i<j->j<l.length->nth l i≠nth l j:=by
 unfold List.Nodup;rw[List.pairwise_iff_getElem];constructor
 ·intro h i j hij hj;have:=h i j od hj hij;simpa [nth,List.getD,hj,(by omega:i<l.length)] using this
 ·intro h i j hi hj hij;have:=h i j hij hj;simpa [nth,List.getD,hj,hi] using this
theorem zaJ {α:Type} [Inhabited α]{l:List α}{i:Nat} (h:i<l.length):nth l i=l[i]:=by simp[nth,List.getD,h]
theorem zm6 (w:List Data):(zd3 w).Nodup↔(∀d,d<w.length->∀j k,j<k->k<(nth w d).ctors.length->(nth (nth w d).ctors j).name≠(nth (nth w d).ctors k).name)/\
  ∀i d,i<d->d<w.length->∀j k,j<(nth w i).ctors.length->k<(nth w d).ctors.length->(nth (nth w i).ctors j).name≠(nth (nth w d).ctors k).name:=by
 unfold zd3 List.Nodup;rw[List.pairwise_flatMap];constructor
 ·rintro ⟨h1,h2⟩
  refine⟨fun d hd j k hjk hk=>?_,fun i d hid hd j k hj hk=>?_⟩
  ·have:=h1 (nth w d) (zaf hd);rw[List.pairwise_iff_getElem] at this;have:=this j k ot (by simpa using hk) hjk;simpa [zaJ hk,zaJ (show j<(nth w d).ctors.length by omega)] using this
  ·rw[List.pairwise_iff_getElem] at h2;have:=h2 i d od hd hid;rw[<-zaJ hd,<-zaJ (show i<w.length by omega)] at this;exact this _ (List.mem_map.2 ⟨_,zaf hj,Z⟩) _ (List.mem_map.2 ⟨_,zaf hk,Z⟩)
 ·rintro ⟨h1,h2⟩
  refine⟨fun x hx=>?_, ?_⟩
  ·obtain⟨d,hd,rfl⟩:=List.getElem_of_mem hx;rw[List.pairwise_iff_getElem];intro j k hj hk hjk;have hk':k<(nth w d).ctors.length:=by rw[zaJ hd];simpa using hk
   have:=h1 d hd j k hjk hk';rw[zaJ hk',zaJ (show j<(nth w d).ctors.length by omega)] at this;simp only[zaJ hd] at this;simpa using this
  ·rw[List.pairwise_iff_getElem];intro i d hi hd hid x hx y hy;obtain⟨a,ha,rfl⟩:=List.mem_map.1 hx;obtain⟨b,hb,rfl⟩:=List.mem_map.1 hy;obtain⟨j,hj,rfl⟩:=List.getElem_of_mem ha;obtain⟨k,hk,rfl⟩:=List.getElem_of_mem hb;have hj':j<(nth w i).ctors.length:=by rw[zaJ hi];exact hj
   have hk':k<(nth w d).ctors.length:=by rw[zaJ hd];exact hk
   have:=h2 i d hid hd j k hj' hk';rw[zaJ hj',zaJ hk'] at this;simpa only[zaJ hi,zaJ hd] using this
theorem zpE (w:List Data):(w.map (·.name)).Nodup↔∀i d,i<d->d<w.length->(nth w i).name≠(nth w d).name:=by
 rw[zqa];have e:∀i,i<w.length->nth (w.map (·.name)) i=(nth w i).name:=fun i hi=>by simp[nth,List.getD,hi]
 constructor
 ·intro h i d hid hd;have:=h i d hid (by simpa using hd);rwa [e i od,e d hd] at this
 ·intro h i d hid hd;have hd':d<w.length:=by simpa using hd
  rw[e i od,e d hd'];exact h i d hid hd'
theorem zpU (w:List Data) (d k:Nat):zom w d k=false↔(∀i,i<d->(nth w i).name≠(nth w d).name)/\
  ∀i j,i<=d->j<(nth w i).ctors.length->(i<d\/j<k)->k<(nth w d).ctors.length->(nth (nth w i).ctors j).name≠(nth (nth w d).ctors k).name:=by
 unfold zom;rw[List.any_eq_false];constructor
 ·intro h;refine⟨fun i hi he=>?_,fun i j hi hj hij hk he=>?_⟩
  ·apply h i (List.mem_range.2 od);unfold zdT;simp[hi,he]
  ·apply h i (List.mem_range.2 od);unfold zdT;rw[zdk hj (by unfold zb3;simp[hk,he];omega)];simp
 ·rintro ⟨h1,h2⟩ i hi
  have hi':=List.mem_range.1 hi;unfold zdT;simp only[Bool.or_eq_true,xad,xah,not_or,not_and];refine⟨fun hid=>h1 i hid, ?_⟩;rw[zfJ (fun j hj=>?_)]
  ·simp
  ·unfold zb3;cases hc:((decide (i<d)||decide (j<k))&&(decide (k<(nth w d).ctors.length)&&decide ((nth (nth w i).ctors j).name=(nth (nth w d).ctors k).name))) with
   |false=>rfl
   |true=>
    simp only[xad,Bool.or_eq_true,xah] at hc;exact absurd hc.2.2 (h2 i j od hj hc.1 hc.2.1)
theorem zkZ (w:List Data):zbA w=true↔WV w:=by
 unfold zbA;rw[xad,xah,List.all_eq_true];have hs:∀d,zcH w d=true↔zbv (nth w d).name=true/\1<=(nth w d).ctors.length/\(nth w d).ctors.length<=4/\∀k,k<(nth w d).ctors.length->zbT w.length (nth (nth w d).ctors k)=true/\zom w d k=false:=fun d=>by
  unfold zcH;simp only[xad,xah,List.all_eq_true,List.mem_range,zeP,Bool.not_eq_true']
 constructor
 ·rintro ⟨h1,h2⟩
  have h3:∀d,d<w.length->_:=fun d hd=>(hs d).1 (h2 d (List.mem_range.2 hd));have h4:∀d,d<w.length->∀k,k<(nth w d).ctors.length->_:=fun d hd k hk=>(zpU w d k).1 ((h3 d hd).2.2.2 k hk).2;refine⟨h1,fun d hd=>?_,fun d hd c hc=>?_,(zpE w).2 (fun i d hid hd=>?_),(zm6 w).2 ⟨fun d hd j k hjk hk=>?_,fun i d hid hd j k hj hk=>?_⟩⟩
  ·obtain⟨i,hi,rfl⟩:=List.getElem_of_mem hd;have:=h3 i hi;rw[zaJ hi] at this;exact⟨this.1,this.2.1,this.2.2.1⟩
  ·obtain⟨i,hi,rfl⟩:=List.getElem_of_mem hd;obtain⟨k,hk,rfl⟩:=List.getElem_of_mem hc;have hk':k<(nth w i).ctors.length:=by rw[zaJ hi];exact hk
   have:=((h3 i hi).2.2.2 k hk').1;rw[zaJ hk'] at this;simpa only[zaJ hi] using this
  ·exact(h4 d hd 0 (by have:=(h3 d hd).2.1;omega)).1 i hid
  ·exact(h4 d hd k hk).2 d j (Nat.le_refl _) od (.inr hjk) hk
  ·exact(h4 d hd k hk).2 i j od hj (.inl hid) hk
 ·intro h;refine⟨h.len,fun d hd=>?_⟩;have hd':=List.mem_range.1 hd;have hm:=zaf hd';have hn:=(zpE w).1 h.names;have hc:=(zm6 w).1 h.cnames;refine(hs d).2 ⟨(h.data _ hm).1,(h.data _ hm).2.1,(h.data _ hm).2.2,fun k hk=>⟨h.ctor _ hm _ (zaf hk),(zpU w d k).2 ⟨fun i hi=>hn i d hi hd',fun i j hi hj hij hk'=>?_⟩⟩⟩;by_cases hid:i<d
  ·exact hc.2 i d hid hd' j k hj hk'
  ·have:i=d:=by omega
   subst this;exact hc.1 i hd' j k od hk'
theorem zfc (w:List Data):zbA w=zaI w:=by
 rw[xat,zkZ,zdo]
theorem zvD {n:Nat}{t:Ty} (h:zbr n t=true):TyIn n t:=by
 unfold zbr at h;simp only[Bool.or_eq_true,xad,xah,zan] at h;rcases h with h|h
 ·exact .inl h.1
 ·exact .inr ⟨t.data.toNat,by omega,by omega⟩
theorem ziy {n:Nat}{t:Ty} (h:zbm n t=true):TyIn n t:=by
 unfold zbm at h;simp only[Bool.or_eq_true,xad,xah,zan] at h;rcases h with h|h
 ·exact .inl h.1
 ·exact .inr ⟨t.data.toNat,by omega,by omega⟩
theorem WV.wt {w:List Data} (hs:WSmall w) (h:WV w):WT w:=⟨hs,fun d hd c hc t ht=>by
 have:=h.ctor d hd c hc;unfold zbT at this;simp only[xad,Bool.not_eq_true',List.any_eq_false,Bool.not_eq_true,Bool.not_eq_false] at this;exact zvD (by have:=this.2.2.2 t ht;simpa using this)⟩
theorem zxu (w:List Data) (t:Ty):(zbA w&&(zbr w.length t&&decide (0<=t.index)))=zbn w t:=by
 rw[zfc];unfold zbn;congr 1
 rw[xat];unfold zbr zbm zan;simp;omega
theorem zaF {α:Type} [Inhabited α]{l:List α}{i:Nat} (h:i<l.length):l.drop i=nth l i::l.drop (i+1):=by
 rw[zaJ h];exact List.drop_eq_getElem_cons h
def all2 {α β:Type} (f:α->β->Bool):List α->List β->Bool
 | [],[]=>true
 |a::r,b::s=>f a b&&all2 f r s
 |_,_=>false
theorem zhz {α β:Type}{f:α->β->Bool}:∀ {a:List α}{b:List β},a.length≠b.length->all2 f a b=false
 | [],[],h=>by simp at h
 | [],_::_,_=>rfl
 |_::_,[],_=>rfl
 |x::r,y::s,h=>by simp[all2,zhz (a:=r) (b:=s) (by simpa using h)]
theorem zbJ {α β:Type} [Inhabited α] [Inhabited β]{f:α->β->Bool}{a:List α}{b:List β}{i:Nat} (h:i<a.length) (hl:a.length=b.length) (h2:f (nth a i) (nth b i)=false):all2 f a b=false:=by
 induction i generalizing a b with
 |zero=>
  cases a with
  |nil=>simp at h
  |cons x r=>
   cases b with
   |nil=>simp[all2]
   |cons y s=>simp[nth] at h2;simp[all2,h2]
 |succ i ih=>
  cases a with
  |nil=>simp at h
  |cons x r=>
   cases b with
   |nil=>simp[all2]
   |cons y s=>simp only[all2];rw[ih (a:=r) (b:=s) (by simpa using h) (by simpa using hl) (by simpa [nth] using h2)];simp
theorem zci {α β:Type} [Inhabited α] [Inhabited β]{f:α->β->Bool}{a:List α}{b:List β} (hl:a.length=b.length) (h:∀i,i<a.length->f (nth a i) (nth b i)=true):all2 f a b=true:=by
 induction a generalizing b with
 |nil=>cases b with
  |nil=>simp[all2]
  |cons y s=>simp at hl
 |cons x r ih=>cases b with
  |nil=>simp at hl
  |cons y s=>
   have h0:=h 0 oi;simp only[all2];rw[ih (by simpa using hl) (fun i hi=>by simpa [nth] using h (i+1) (by simpa using hi))];simpa [nth] using h0
def idxI (l:List Int) (v:Int):Int:=idxF (fun x=>decide (v=x)) l 0
theorem zkb {l:List Int}{v:Int} (h:l.length<=1000000000000):FnD Tryz.prog 242 [.d (zcB l),.d (.i v)] [] (.d (.i (idxI l v))) []:=by
 refine bd Tryz.f242 19 [] [] fun _ _ _ _ hk=>?_;refine xaB (ι:=List (Int)×List (Int)) hk (fun x=>[(8,.d (.i (x.1.length:Int)))]) [4,5,9,10,11,12,13,14,15,16,17,18] (fun x=>[]) (fun x=>x.1++x.2=l/\idxF (fun x=>decide (v=x)) x.2 x.1.length=idxF (fun x=>decide (v=x)) l 0) (fun x=>x.2.length) ([],l) ⟨by simp,Z⟩ ⟨⟨_,Z,xaU ?_⟩,O⟩ O (fun x=>rfl) (fun x hg1=>?_);focus (first|rfl|(simp;done)|(simp_all;done)|omega)
 obtain⟨pre,rest⟩:=x;dsimp only at hg1 ⊢;refine evc [] [] ?_;apply sq<;>intro h1 h1p h1s<;>(try simp only[Q] at h1p);rcases rest with _|⟨y,rest⟩
 ·exfalso;simp_all
 refine ixq sl37 Z Z Z (zaA hg1.1) Z (ev ?_);apply sq<;>intro h2 h2p h2s<;>(try simp only[Q] at h2p);focus (refine rq ?_;all_goals (unfold idxI;rw[<-hg1.2];simp[idxF,h1s,h1p,h2s,h2p]))
 refine ar (xaj ((pre++[y],rest)) ⟨⟨(by have hz:=hg1.1;rw[<-hz];simp),(by rw[<-hg1.2];simp[idxF,h2p])⟩,oi,sx ⟨⟨_,Z,xaU ?_⟩,O⟩ O⟩);focus (first|rfl|(simp;done)|(simp_all;done)|omega)
 have hrest:rest=[]:=by
  rcases rest with _|⟨a,b⟩
  ·rfl
  ·exfalso;have hz:=xam List.length (hg1.1);simp only[xaa,xab,xac] at hz;omega
 subst hrest;focus (refine rq ?_;all_goals (unfold idxI;rw[<-hg1.2];simp[idxF,h1s,h1p]))
theorem zcO {l:List Int}{v:Int} (h:l.length<=1000000000000):FnD Tryz.prog 187 [.d (zcB l),.d (.i v)] [] (.d (.bool (decide (v∈l)))) []:=by
 refine bd Tryz.f187 9 [] [] fun _ _ _ _ hk=>?_;refine wc zyn (zkb h) Z Z ?_;refine ev (rq ?_);rotate_left;all_goals (refine xam D.bool ?_;rw[show idxI l v=idxF (fun x=>decide (v=x)) l 0 from rfl,zeG];simp[List.any_eq,eq_comm])
theorem zdA {l:List Int}{v:Int} (h:l.length<=1000000000000):FnD Tryz.prog 248 [.d (zcB l),.d (.i v)] [] (.d (.bool (decide (v∈l)))) []:=by
 refine bd Tryz.f248 18 [] [] fun _ _ _ _ hk=>?_;refine xaB (ι:=List (Int)×List (Int)) hk (fun x=>[(5,.d (.i (x.1.length:Int)))]) [4,6,7,8,9,10,11,12,13,14,15,16,17] (fun x=>[]) (fun x=>x.1++x.2=l/\v∉x.1) (fun x=>x.2.length) ([],l) ⟨by simp,by simp⟩ ⟨⟨_,Z,xaU ?_⟩,O⟩ O (fun x=>rfl) (fun x hg1=>?_);focus (first|rfl|(simp;done)|(simp_all;done)|omega)
 obtain⟨pre,rest⟩:=x;dsimp only at hg1 ⊢;refine evc [] [] ?_;apply sq<;>intro h1 h1p h1s<;>(try simp only[Q] at h1p);rcases rest with _|⟨y,rest⟩
 ·exfalso;simp_all
 refine ixq sl37 Z Z Z (zaA hg1.1) Z (ev ?_);apply sq<;>intro h2 h2p h2s<;>(try simp only[Q] at h2p);focus (refine rq ?_;all_goals (refine xam D.bool ?_;first|(symm;rw[xah,<-hg1.1];simp[h1s,h1p,h2s,h2p];done)|(symm;rw[decide_eq_false_iff_not,<-hg1.1];intro hm;simp at hm;exact absurd hm (by simpa using hg1.2))))
 refine ar (xaj ((pre++[y],rest)) ⟨⟨(by have hz:=hg1.1;rw[<-hz];simp),(by have:=hg1.2;simp[this,eq_comm];omega)⟩,oi,sx ⟨⟨_,Z,xaU ?_⟩,O⟩ O⟩);focus (first|rfl|(simp;done)|(simp_all;done)|omega)
 have hrest:rest=[]:=by
  rcases rest with _|⟨a,b⟩
  ·rfl
  ·exfalso;have hz:=xam List.length (hg1.1);simp only[xaa,xab,xac] at hz;omega
 subst hrest;focus (refine rq ?_;all_goals (refine xam D.bool ?_;first|(symm;rw[xah,<-hg1.1];simp[h1s,h1p];done)|(symm;rw[decide_eq_false_iff_not,<-hg1.1];intro hm;simp at hm;exact absurd hm (by simpa using hg1.2))))
def cutL (c:UInt8):Str->Str->List Str
 |cur,[]=>[cur]
 |cur,x::r=>if x=c then cur::cutL c [] r else cutL c (cur++[x]) r
theorem zeD (c:UInt8):∀(s cur:Str),(cutL c cur s).length<=s.length+1
 | [],cur=>by simp[cutL]
 |x::r,cur=>by
  simp only[cutL];split
  ·have:=zeD c r [];simp only[xab];omega
  ·have:=zeD c r (cur++[x]);simp only[xab];omega
theorem zgb (c:UInt8):∀(s cur:Str),1<=(cutL c cur s).length
 | [],cur=>by simp[cutL]
 |x::r,cur=>by
  simp only[cutL];split
  ·simp
  ·exact zgb c r (cur++[x])
theorem zjs (c:UInt8):∀(s cur:Str) (t:Str),t∈cutL c cur s->t.length<=cur.length+s.length
 | [],cur,t,h=>by simp only[cutL,List.mem_singleton] at h;subst h;simp
 |x::r,cur,t,h=>by
  simp only[cutL] at h;split at h
  ·rcases List.mem_cons.1 h with rfl|h
   ·simp
   ·have:=zjs c r [] t h;simp only[xab,xak] at this ⊢;omega
  ·have:=zjs c r (cur++[x]) t h;simp only[xaa,xab,xak] at this ⊢;omega
theorem zbc {s:Str}{i:Nat} (h:i<s.length):s[i]?=some (nth s i):=by rw[zaJ h];exact xan h
theorem zl8 {s:Str}{f i:Nat} (hf:f<=i) (h:i<s.length):(s.take (i+1)).drop f=(s.take i).drop f++[nth s i]:=by
 rw[List.take_add_one,xan h,List.drop_append_of_le_length ot,zaJ h];rfl
theorem zl9 {s:Str}{f i:Nat}:(s.drop f).take (i-f)=(s.take i).drop f:=by rw[List.drop_take]
theorem zbq {s:Str}{c:UInt8} (hs:s.length<=1000000000000):FnD Tryz.prog 117 [.d (.str s),.d (.int .u8 (c.toNat:Int))] [] (.d (zcC (cutL c [] s))) []:=by
 have hu:∀a:UInt8,((a.toNat:Int)=(c.toNat:Int))↔a=c:=fun a=>by rw[xal];exact UInt8.toNat_inj
 refine bd Tryz.f117 36 [] [] fun _ _ _ _ hk=>?_;refine xb8 1 zaO .none Z Z (ev (xaB (ι:=Nat×Nat×List Str) hk (fun x=>[(7,.d (.i (x.1:Int))),(6,.d (.i (x.2.1:Int))),(5,.gl 1 (x.2.2.map fun n=>[D.str n]))]) [9,10,11,12,13,14,15,16,17,18,19,20,21,22,23,24,25,26,27,28,29,30,31,32,33,34] (fun x=>[(1,some (.tok ((x.2.2.map fun n=>[D.str n])).length 1))]) (fun x=>x.1<=s.length+1/\x.2.2.length<=x.1/\if x.1=s.length+1 then x.2.2=cutL c [] s else x.2.1<=x.1/\x.2.2++cutL c ((s.take x.1).drop x.2.1) (s.drop x.1)=cutL c [] s) (fun x=>s.length+1-x.1) (0,0,[]) ⟨by simp,by simp,by rw[if_neg oi];simp⟩ ⟨⟨_,Z,xaU ?_⟩,⟨⟨_,Z,xaU ?_⟩,⟨⟨_,Z,LeA.glg ?_⟩,O⟩⟩⟩ ⟨zac ?_,O⟩ (fun x=>rfl) (fun x hg1=>?_)));iterate 4 focus (rfl)
 refine evc [] [] ?_;apply sq<;>intro h1 h1p h1s<;>(try simp only[Q,hu] at h1p);have hne:¬x.1=s.length+1:=od;have hcond:=hg1.2.2;rw[if_neg hne] at hcond;have hle:=hcond.1;apply sq<;>intro h2 h2p h2s<;>(try simp only[Q,hu] at h2p);refine sqT ?_;refine xbB un9 .none Z Z Z Z Z Z od od ?_;refine si [0] [_] zaO tz9 ?_;refine ap zaO zz9 Z Z Z oi ot ?_;refine ev (ar (ar ?_));refine xaj (if x.1=s.length\/nth s x.1=c then (x.1+1,x.1+1,x.2.2++[(s.take x.1).drop x.2.1]) else (x.1+1,x.2.1,x.2.2)) ⟨(by
    have hne:¬x.1=s.length+1:=by omega
    rw[if_neg hne] at hg1;obtain⟨g1,g2,g3,g4⟩:=hg1;by_cases he:x.1=s.length
    ·rw[if_pos (.inl he)];refine⟨by dsimp only;omega,by simp;omega, ?_⟩;dsimp only;rw[if_pos od,<-g4,he,List.drop_length];rfl
    ·have hlt:x.1<s.length:=by omega
     rw[zaF hlt] at g4;by_cases hc:nth s x.1=c
     ·rw[if_pos (.inr hc)];refine⟨by dsimp only;omega,by simp;omega, ?_⟩;dsimp only;rw[if_neg od];refine⟨by omega, ?_⟩;rw[<-g4,cutL,if_pos hc,xar];simp
     ·rw[if_neg (by simp[he,hc])];refine⟨by dsimp only;omega,by dsimp only;omega, ?_⟩;dsimp only;rw[if_neg od];refine⟨by omega, ?_⟩;rw[<-g4,cutL,if_neg hc,zl8 g3 hlt]),(by split<;>(dsimp only;omega)),sx ⟨⟨_,rfl,xaU ?_⟩,⟨⟨_,rfl,xaU ?_⟩,⟨⟨_,rfl,LeA.glg ?_⟩,trivial⟩⟩⟩ ⟨zac ?_,trivial⟩⟩
 iterate 4 focus ((split<;>first|(simp[zl9];done)|(simp;done)|(exfalso;simp_all;done)|(exfalso;simp_all;omega)))
 refine xbN un9 (.some Z Z h2) Z Z Z Z (zbc od) ?_;refine evs [] [(19,false)] ?_ ⟨⟨_,Z,h2⟩,O⟩;apply sq<;>intro h4 h4p h4s<;>(try simp only[Q,hu] at h4p);refine xbB un9 .none Z Z Z Z Z Z od od ?_;refine si [0] [_] zaO tz9 ?_;refine ap zaO zz9 Z Z Z oi ot ?_;refine ev (ar (ar ?_));refine xaj (if x.1=s.length\/nth s x.1=c then (x.1+1,x.1+1,x.2.2++[(s.take x.1).drop x.2.1]) else (x.1+1,x.2.1,x.2.2)) ⟨(by
    have hne:¬x.1=s.length+1:=by omega
    rw[if_neg hne] at hg1;obtain⟨g1,g2,g3,g4⟩:=hg1;by_cases he:x.1=s.length
    ·rw[if_pos (.inl he)];refine⟨by dsimp only;omega,by simp;omega, ?_⟩;dsimp only;rw[if_pos od,<-g4,he,List.drop_length];rfl
    ·have hlt:x.1<s.length:=by omega
     rw[zaF hlt] at g4;by_cases hc:nth s x.1=c
     ·rw[if_pos (.inr hc)];refine⟨by dsimp only;omega,by simp;omega, ?_⟩;dsimp only;rw[if_neg od];refine⟨by omega, ?_⟩;rw[<-g4,cutL,if_pos hc,xar];simp
     ·rw[if_neg (by simp[he,hc])];refine⟨by dsimp only;omega,by dsimp only;omega, ?_⟩;dsimp only;rw[if_neg od];refine⟨by omega, ?_⟩;rw[<-g4,cutL,if_neg hc,zl8 g3 hlt]),(by split<;>(dsimp only;omega)),sx ⟨⟨_,rfl,xaU ?_⟩,⟨⟨_,rfl,xaU ?_⟩,⟨⟨_,rfl,LeA.glg ?_⟩,trivial⟩⟩⟩ ⟨zac ?_,trivial⟩⟩
 iterate 4 focus ((split<;>first|(simp[zl9];done)|(simp;done)|(exfalso;simp_all;done)|(exfalso;simp_all;omega)))
 refine ar ?_;refine xaj (if x.1=s.length\/nth s x.1=c then (x.1+1,x.1+1,x.2.2++[(s.take x.1).drop x.2.1]) else (x.1+1,x.2.1,x.2.2)) ⟨(by
    have hne:¬x.1=s.length+1:=by omega
    rw[if_neg hne] at hg1;obtain⟨g1,g2,g3,g4⟩:=hg1;by_cases he:x.1=s.length
    ·rw[if_pos (.inl he)];refine⟨by dsimp only;omega,by simp;omega, ?_⟩;dsimp only;rw[if_pos od,<-g4,he,List.drop_length];rfl
    ·have hlt:x.1<s.length:=by omega
     rw[zaF hlt] at g4;by_cases hc:nth s x.1=c
     ·rw[if_pos (.inr hc)];refine⟨by dsimp only;omega,by simp;omega, ?_⟩;dsimp only;rw[if_neg od];refine⟨by omega, ?_⟩;rw[<-g4,cutL,if_pos hc,xar];simp
     ·rw[if_neg (by simp[he,hc])];refine⟨by dsimp only;omega,by dsimp only;omega, ?_⟩;dsimp only;rw[if_neg od];refine⟨by omega, ?_⟩;rw[<-g4,cutL,if_neg hc,zl8 g3 hlt]),(by split<;>(dsimp only;omega)),sx ⟨⟨_,rfl,xaU ?_⟩,⟨⟨_,rfl,xaU ?_⟩,⟨⟨_,rfl,LeA.glg ?_⟩,trivial⟩⟩⟩ ⟨zac ?_,trivial⟩⟩
 iterate 4 focus ((split<;>first|rfl|(exfalso;simp_all;done)|(exfalso;simp_all;omega)))
 refine rn0 (r1 Z) (.gld ?_);rotate_left;all_goals (have e:x.1=s.length+1:=od;rw[if_pos e] at hg1;rw[hg1.2.2])
def zts (names:List Str) (s:Str):Int:=if s=[73] then -1 else if s∈names then idxF (fun n=>decide (n=s)) names 0 else -2
theorem zoX {names:List Str}{s:Str} (hn:names.length<=1000000000000):FnD Tryz.prog 226 [.d (zcC names),.d (.str s)] [] (.d (.i (zts names s))) []:=by
 refine bd Tryz.f226 21 [] [] fun _ _ _ _ hk=>?_;apply sq<;>intro h1 h1p h1s<;>(try simp only[Q] at h1p);refine rq ?_;rotate_left;refine xaB (ι:=List (Str)×List (Str)) hk (fun x=>[(5,.d (.i (x.1.length:Int)))]) [4,8,9,10,11,12,13,14,15,16,17,18,19,20] (fun x=>[]) (fun x=>x.1++x.2=names/\s∉x.1/\idxF (fun n=>decide (n=s)) x.2 x.1.length=idxF (fun n=>decide (n=s)) names 0) (fun x=>x.2.length) ([],names) ⟨by simp,by simp,Z⟩ ⟨⟨_,Z,xaU ?_⟩,O⟩ O (fun x=>rfl) (fun x hg1=>?_);focus (rfl)
 obtain⟨pre,rest⟩:=x;dsimp only at hg1 ⊢;refine evc [] [] ?_;apply sq<;>intro h2 h2p h2s<;>(try simp only[Q] at h2p);rcases rest with _|⟨y,rest⟩
 ·exfalso;simp_all
 refine ixq zaO Z Z Z (zaA hg1.1) Z (ev ?_);apply sq<;>intro h3 h3p h3s<;>(try simp only[Q] at h3p);refine rq ?_;rotate_left;refine ar (xaj ((pre++[y],rest)) ⟨⟨(by have hz:=hg1.1;rw[<-hz];simp),⟨(by have h1:=hg1.2.1;simp_all[eq_comm]),(by rw[<-hg1.2.2];simp_all[idxF])⟩⟩,oi,sx ⟨⟨_,Z,xaU ?_⟩,O⟩ O⟩);focus ((simp;done))
 have hrest:rest=[]:=by
  rcases rest with _|⟨a,b⟩
  ·rfl
  ·exfalso;have hz:=xam List.length (hg1.1);simp only[xaa,xab,xac] at hz;omega
 subst hrest;refine rq ?_;rotate_left;all_goals (refine xam D.i ?_;unfold zts;by_cases hz:s=[73]<;>by_cases hm:s∈names<;>simp only[hz,hm,if_true,if_false];all_goals first|(exfalso;simp_all;done)|(exfalso;apply hm;subst h3p;rw[<-hg1.1];simp;done)|(exfalso;apply hg1.2.1;rw[<-hg1.1,xaq] at hm;exact hm)|(rw[<-hg1.2.2];simp_all[idxF];done))
def zcX (names:List Str) (s:Str):Ty:=
 if s=[] then ⟨-2,0⟩
 else ⟨zts names (s.take 1),if s.drop 1=[42] then -1 else if s.length=2/\48<=(nth s 1).toNat/\(nth s 1).toNat<=57 then ((nth s 1).toNat:Int)-48 else 0⟩
theorem zju {b:UInt8} (h1:48<=b.toNat) (h2:b.toNat<=57):IntKind.i64.wrap (IntKind.u8.wrap ((b.toNat:Int)-48))=(b.toNat:Int)-48:=by
 rw[zo6,zcI od];omega
theorem zet {names:List Str}{s:Str} (hn:names.length<=1000000000000) (hs:s.length<=1000000000000):
  FnD Tryz.prog 175 [.d (zcC names),.d (.str s)] [] (.agg [.d (.i (zcX names s).data),.d (.i (zcX names s).index)]) []:=by
 have hlen:s≠[]->1<=s.length:=fun h=>by rcases s with _|⟨a,r⟩;exact absurd Z h;simp
 refine bd Tryz.f175 39 [35] [] fun _ _ _ _ hk=>?_;refine ab 3004 tz29 ?_;apply tv;apply sq<;>intro h1 h1p h1s<;>(try simp only[Q] at h1p);refine bu [0] [_] st29 ?_;refine so ty29 ?_;apply tv;refine rn0 (ra ty29) (.agg (qee ?_ ?_));rotate_left 2;refine xbA (b:=1) un9 .none Z Z Z Z (by have:=hlen o7;omega) ?_;refine wc zyh (zoX (names:=names) (s:=s.take 1) hn) Z Z ?_;refine bu [0] [_] st29 ?_;refine ab 3005 tz29 ?_;refine so ty29 ?_;apply tv;refine Walk.cutS_l (b:=1) un9 .none Z Z Z Z (by have:=hlen o7;omega) ?_;refine evs [35] [] ?_;apply sq<;>intro h2 h2p h2s<;>(try simp only[Q] at h2p);refine so ty3 ?_;apply tv;refine so ty29 ?_;apply tv;refine rn0 (ra ty29) (.agg (qee ?_ ?_));rotate_left 2;apply sq<;>intro h3 h3p h3s<;>(try simp only[Q] at h3p);refine xbN (i:=1) un9 (.some Z Z h3) Z Z Z Z (zbc (by simp_all;omega)) ?_;refine evs [35] [(23,true)] ?_ ⟨⟨_,Z,h3⟩,O⟩;apply sq<;>intro h4 h4p h4s<;>(try simp only[Q] at h4p);refine xbN (i:=1) un9 (.some Z Z h4) Z Z Z Z (zbc (by simp_all;omega)) ?_;refine evs [35] [(28,true)] ?_ ⟨⟨_,Z,h4⟩,O⟩;apply sq<;>intro h5 h5p h5s<;>(try simp only[Q] at h5p);refine xbN (i:=1) un9 .none Z Z Z Z (zbc (by simp_all;omega)) ?_;refine xcd .none Z Z Z (xbz oz un3 .none Z Z ?_);refine evs [35] [] (so ty3 ?_);apply tv;refine so ty29 ?_;apply tv;refine rn0 (ra ty29) (.agg (qee ?_ ?_));rotate_left 2;refine so ty29 ?_;apply tv;refine rn0 (ra ty29) (.agg (qee ?_ ?_));rotate_left 2;refine sqF ?_;refine so ty29 ?_;apply tv;refine rn0 (ra ty29) (.agg (qee ?_ ?_));rotate_left 2;refine sqF ?_;refine sqF ?_;refine so ty29 ?_;apply tv;refine rn0 (ra ty29) (.agg (qee ?_ ?_));rotate_left 2;all_goals (unfold zcX;first|(rw[zju (b:=nth s 1) od od,if_neg h1p];dsimp only;rw[if_neg h2p,if_pos ⟨by omega,by omega,by omega⟩];done)|(rw[if_pos h1p];done)|(rw[if_neg h1p];done)|(rw[if_neg h1p];dsimp only;rw[if_pos h2p];done)|(rw[if_neg h1p];dsimp only;rw[if_neg h2p,if_neg (fun hh=>by omega)];done))
def zq8 (s:Str):Prop:=2<s.length/\nth s (s.length-2)=58
instance (s:Str):Decidable (zq8 s):=inferInstanceAs (Decidable (_/\_))
def zhE (names:List Str) (ix:Int) (s:Str):Ctor:=
 let parts:=cutL 40 [] s
 ⟨nth parts 0,if parts.length<2\/(nth parts 1).length=0 then [] else ((cutL 44 [] ((nth parts 1).take ((nth parts 1).length-1))).take 4).map (zcX names),ix⟩
def zcR (names:List Str) (s:Str):Ctor:=
 if zq8 s then zhE names (((nth s (s.length-1)).toNat:Int)-48) (s.take (s.length-2)) else zhE names 0 s
theorem zgW {α β:Type} [Inhabited α]{f:α->β}{l:List α}{i:Nat} (h:i<l.length):(l.map f).take (i+1)=(l.map f).take i++[f (nth l i)]:=by
 rw[List.take_add_one,List.getElem?_map,xan h];simp[nth,List.getD,h]
theorem zpR {α:Type}{l:List α}{i:Nat} (h:i=4\/(i<=4/\l.length<=i)):l.take i=l.take 4:=by
 rcases h with rfl|⟨h1,h2⟩
 ·rfl
 ·rw[List.take_of_length_le h2,List.take_of_length_le od]
theorem ztT {a b:UInt8}:((a.toNat:Int)=(b.toNat:Int))↔a=b:=by rw[xal];exact UInt8.toNat_inj
theorem zld (a:UInt8):IntKind.i64.wrap (a.toNat:Int)=(a.toNat:Int):=by have:=a.toNat_lt;exact zcI od
theorem zct {c:UInt8}{s:Str}{i:Nat} (h:i<(cutL c [] s).length):(nth (cutL c [] s) i).length<=s.length:=by
 have:=zjs c s [] _ (zaf h);simpa using this
theorem zke {names:List Str}{s:Str} (hn:names.length<=1000000000000) (hs:s.length<=1000000):
  FnD Tryz.prog 118 [.d (zcC names),.d (.str s)] [] (.agg [.d (.str (zcR names s).name),.d (zbZ (zcR names s).args),.d (.i (zcR names s).index)]) []:=by
 have hwb:=zld (nth s (s.length-1));have hwl:=(nth s (s.length-1)).toNat_lt;by_cases hc:zq8 s
 ·have hc1:=hc.1;have hct:(s.take (s.length-2)).length=s.length-2:=by rw[List.length_take];omega
  have hcl:=zeD 40 (s.take (s.length-2)) [];have hcp:=zgb 40 (s.take (s.length-2)) [];have hn1:=fun h=>zct (c:=40) (s:=s.take (s.length-2)) (i:=1) h;have hal:=zeD 44 ((nth (cutL 40 [] (s.take (s.length-2))) 1).take ((nth (cutL 40 [] (s.take (s.length-2))) 1).length-1)) [];refine bd Tryz.f118 83 [] [2,7] fun _ _ _ _ hk=>?_;refine ab 3004 zhp ?_;apply tv;refine bu [] [] zwI ?_;refine ab 3005 zhp ?_;refine so zdw ?_;apply tv;refine xaC (xbn 11 [(20,.d (.bool true))] [10,11,12,13,14,15,16,17,18,19] ?_ ?_);refine ev ?_;apply sq<;>intro h1 h1p h1s;refine ar (xbN (i:=s.length-2) un9 (.some Z Z h1) Z Z Z od (zbc od) ?_);refine evs [] [(13,true)] ?_ ⟨⟨_,Z,h1⟩,O⟩;exact jn Z (xaT (by(exact xax (xam (fun z:UInt8=>(z.toNat:Int)) hc.2))));try simp only[Q,List.length_take] at h1p
  exact jn Z (xaT (by(exfalso;omega)));refine xbm ?_;apply tv;apply sq<;>intro h2 h2p h2s;refine ar (xbN (i:=s.length-1) un9 .none Z Z Z od (zbc od) ?_);refine xbz oz un3 .none Z Z ?_;refine ev (ar (so ty3 ?_));apply tv;refine ar (xbA (b:=s.length-2) un9 .none Z Z Z od od ?_);refine ev (wc zb2 (zbq (s:=s.take (s.length-2)) (c:=40) (by first|omega|(simp;omega))) Z Z ?_);refine ev (ixq (i:=0) zaO Z Z Z (zah od) Z ?_);refine ev (so ty9 ?_);apply tv;refine xaC (xbn 10 [(49,.d (.bool (decide ((cutL 40 [] (s.take (s.length-2))).length<2\/(nth (cutL 40 [] (s.take (s.length-2))) 1).length=0))))] [40,41,42,43,44,45,46,47,48] ?_ ?_);refine ev ?_;apply sq<;>intro h3 h3p h3s<;>(try simp only[Q,List.length_take] at h3p);exact jn Z (xaT (by(refine(xax ?_).symm;omega)));refine Walk.idx (i:=1) zaO (.some Z Z h3) Z Z Z Z (zah od) Z ?_;refine evs [] [(43,false)] ?_ ⟨⟨_,Z,h3⟩,O⟩;exact jn Z (xaT (by(refine decide_eq_decide.2 ?_;omega)));refine xbm ?_;apply tv;apply sq<;>intro h4 h4p h4s;refine so zdw ?_;apply tv;refine rn0 (ra zdw) (.agg (qene ?_ ?_ ?_));rotate_left 3;try simp only[Q,List.length_take] at h4p
  refine ixq (i:=1) zaO Z Z Z (zah od) Z ?_;refine evd [] [] (ixq (i:=1) zaO Z Z Z (zah od) Z ?_);refine evd [] [] (ar (xbA (b:=(nth (cutL 40 [] (s.take (s.length-2))) 1).length-1) un9 .none Z Z Z od od ?_));refine wc zb2 (zbq (s:=(nth (cutL 40 [] (s.take (s.length-2))) 1).take ((nth (cutL 40 [] (s.take (s.length-2))) 1).length-1)) (c:=44) ot) Z Z ?_;refine evd [] [] (dr (xaE 3005 1 1 2 Z Z Z Z (xaB (ι:=Nat) hk (fun i=>[(8,.d (.i (i:Int)))]) [61,62,63,64,65,66,67,68,69,70,71,72,73,74,75,76,77,78,79,80,81] (fun i=>[(3005,some (.box [.d (.str (nth (cutL 40 [] (s.take (s.length-2))) 0)),.gl 1 (((((cutL 44 [] ((nth (cutL 40 [] (s.take (s.length-2))) 1).take ((nth (cutL 40 [] (s.take (s.length-2))) 1).length-1))).map (zcX names)).take i)).map Ty.c),.d (.i (((nth s (s.length-1)).toNat:Int)-48))])),(1,some (.tok (((((cutL 44 [] ((nth (cutL 40 [] (s.take (s.length-2))) 1).take ((nth (cutL 40 [] (s.take (s.length-2))) 1).length-1))).map (zcX names)).take i)).map Ty.c).length 2))]) (fun i=>i<=4/\i<=(cutL 44 [] ((nth (cutL 40 [] (s.take (s.length-2))) 1).take ((nth (cutL 40 [] (s.take (s.length-2))) 1).length-1))).length) (fun i=>4-i) 0 ⟨by omega,by omega⟩ ⟨⟨_,Z,xaU ?_⟩,O⟩ ⟨?_,⟨zac ?_,O⟩⟩ (fun x=>rfl) (fun i hg1=>?_))));focus (rfl)
  focus ((show some (Res.box _)=some (Res.box _);rw[hwb];rfl))
  focus (rfl)
  refine evc [] [2,7] ?_;apply sq<;>intro h5 h5p h5s<;>(try simp only[Q,List.length_take] at h5p);apply sq<;>intro h6 h6p h6s<;>(try simp only[Q,List.length_take] at h6p);refine ixq zaO Z Z Z (zah od) Z ?_;refine evd [] [] (wc zmS (zet (names:=names) (s:=nth (cutL 44 [] ((nth (cutL 40 [] (s.take (s.length-2))) 1).take ((nth (cutL 40 [] (s.take (s.length-2))) 1).length-1))) i) hn (by have:=zct (c:=44) (s:=(nth (cutL 40 [] (s.take (s.length-2))) 1).take ((nth (cutL 40 [] (s.take (s.length-2))) 1).length-1)) (i:=i) od;simp at this;omega)) Z Z ?_);refine si [0] [_] zaz tz29 ?_;refine ap zaz zz29 Z Z Z oi ot ?_;refine evd [] [] (so zwL ?_);refine dr (ar (xaj (i+1) ⟨⟨by omega,by omega⟩,od,sx ⟨⟨_,Z,xaU ?_⟩,O⟩ ⟨?_,⟨zac ?_,O⟩⟩⟩));focus (rfl)
  focus ((show some (Res.box _)=some (Res.box _);rw[zgW od];simp;done))
  focus ((simp;omega))
  refine so zdw ?_;apply tv;refine rn0 (ra zdw) (.agg (qege ?_ ?_ ?_));rotate_left 3;refine sqF ?_;refine so zdw ?_;apply tv;refine rn0 (ra zdw) (.agg (qege ?_ ?_ ?_));rotate_left 3;try simp only[Q,List.length_take] at h2p
  exact absurd h2 oi;all_goals (unfold zcR;rw[if_pos hc];first|rfl|(rw[hwb];rfl)|(unfold zhE;dsimp only;by_cases hq:(cutL 40 [] (s.take (s.length-2))).length<2\/(nth (cutL 40 [] (s.take (s.length-2))) 1).length=0;all_goals first|(exfalso;exact(of_decide_eq_false h4) hq)|(exfalso;exact hq (xas h4))|(rw[if_pos hq];done)|(rw[if_pos hq];rfl)|(rw[if_neg hq,<-List.map_take,zpR od];done)))
 ·skip
  have hcl:=zeD 40 (s) [];have hcp:=zgb 40 (s) [];have hn1:=fun h=>zct (c:=40) (s:=s) (i:=1) h;have hal:=zeD 44 ((nth (cutL 40 [] (s)) 1).take ((nth (cutL 40 [] (s)) 1).length-1)) [];refine bd Tryz.f118 83 [] [2,7] fun _ _ _ _ hk=>?_;refine ab 3004 zhp ?_;apply tv;refine bu [] [] zwI ?_;refine ab 3005 zhp ?_;refine so zdw ?_;apply tv;refine xaC (xbn 11 [(20,.d (.bool false))] [10,11,12,13,14,15,16,17,18,19] ?_ ?_);refine ev ?_;apply sq<;>intro h1 h1p h1s;try simp only[Q,List.length_take] at h1p
  refine ar (xbN (i:=s.length-2) un9 (.some Z Z h1) Z Z Z od (zbc od) ?_);refine evs [] [(13,true)] ?_ ⟨⟨_,Z,h1⟩,O⟩;exact jn Z (xaT (by(exact xaw (fun hh=>hc ⟨by omega,(ztT (b:=58)).1 hh⟩))));exact jn Z (xaT o8);refine xbm ?_;apply tv;apply sq<;>intro h2 h2p h2s;exact absurd h2 oi;refine wc zb2 (zbq (s:=s) (c:=40) (by first|omega|(simp;omega))) Z Z ?_;refine ev (ixq (i:=0) zaO Z Z Z (zah od) Z ?_);refine ev (so ty9 ?_);apply tv;refine xaC (xbn 10 [(49,.d (.bool (decide ((cutL 40 [] s).length<2\/(nth (cutL 40 [] s) 1).length=0))))] [40,41,42,43,44,45,46,47,48] ?_ ?_);refine ev ?_;apply sq<;>intro h3 h3p h3s<;>(try simp only[Q,List.length_take] at h3p);exact jn Z (xaT (by(refine(xax ?_).symm;omega)));refine Walk.idx (i:=1) zaO (.some Z Z h3) Z Z Z Z (zah od) Z ?_;refine evs [] [(43,false)] ?_ ⟨⟨_,Z,h3⟩,O⟩;exact jn Z (xaT (by(refine decide_eq_decide.2 ?_;omega)));refine xbm ?_;apply tv;apply sq<;>intro h4 h4p h4s;refine so zdw ?_;apply tv;refine rn0 (ra zdw) (.agg (qene ?_ ?_ ?_));rotate_left 3;try simp only[Q,List.length_take] at h4p
  refine ixq (i:=1) zaO Z Z Z (zah od) Z ?_;refine evd [] [] (ixq (i:=1) zaO Z Z Z (zah od) Z ?_);refine evd [] [] (ar (xbA (b:=(nth (cutL 40 [] s) 1).length-1) un9 .none Z Z Z od od ?_));refine wc zb2 (zbq (s:=(nth (cutL 40 [] s) 1).take ((nth (cutL 40 [] s) 1).length-1)) (c:=44) ot) Z Z ?_;refine evd [] [] (dr (xaE 3005 1 1 2 Z Z Z Z (xaB (ι:=Nat) hk (fun i=>[(8,.d (.i (i:Int)))]) [61,62,63,64,65,66,67,68,69,70,71,72,73,74,75,76,77,78,79,80,81] (fun i=>[(3005,some (.box [.d (.str (nth (cutL 40 [] (s)) 0)),.gl 1 (((((cutL 44 [] ((nth (cutL 40 [] (s)) 1).take ((nth (cutL 40 [] (s)) 1).length-1))).map (zcX names)).take i)).map Ty.c),.d (.i (0))])),(1,some (.tok (((((cutL 44 [] ((nth (cutL 40 [] (s)) 1).take ((nth (cutL 40 [] (s)) 1).length-1))).map (zcX names)).take i)).map Ty.c).length 2))]) (fun i=>i<=4/\i<=(cutL 44 [] ((nth (cutL 40 [] (s)) 1).take ((nth (cutL 40 [] (s)) 1).length-1))).length) (fun i=>4-i) 0 ⟨by omega,by omega⟩ ⟨⟨_,Z,xaU ?_⟩,O⟩ ⟨?_,⟨zac ?_,O⟩⟩ (fun x=>rfl) (fun i hg1=>?_))));focus (rfl)
  focus (rfl)
  focus (rfl)
  refine evc [] [2,7] ?_;apply sq<;>intro h5 h5p h5s<;>(try simp only[Q,List.length_take] at h5p);apply sq<;>intro h6 h6p h6s<;>(try simp only[Q,List.length_take] at h6p);refine ixq zaO Z Z Z (zah od) Z ?_;refine evd [] [] (wc zmS (zet (names:=names) (s:=nth (cutL 44 [] ((nth (cutL 40 [] s) 1).take ((nth (cutL 40 [] s) 1).length-1))) i) hn (by have:=zct (c:=44) (s:=(nth (cutL 40 [] (s)) 1).take ((nth (cutL 40 [] (s)) 1).length-1)) (i:=i) od;simp at this;omega)) Z Z ?_);refine si [0] [_] zaz tz29 ?_;refine ap zaz zz29 Z Z Z oi ot ?_;refine evd [] [] (so zwL ?_);refine dr (ar (xaj (i+1) ⟨⟨by omega,by omega⟩,od,sx ⟨⟨_,Z,xaU ?_⟩,O⟩ ⟨?_,⟨zac ?_,O⟩⟩⟩));focus (rfl)
  focus ((show some (Res.box _)=some (Res.box _);rw[zgW od];simp;done))
  focus ((simp;omega))
  refine so zdw ?_;apply tv;refine rn0 (ra zdw) (.agg (qege ?_ ?_ ?_));rotate_left 3;refine sqF ?_;refine so zdw ?_;apply tv;refine rn0 (ra zdw) (.agg (qege ?_ ?_ ?_));rotate_left 3;all_goals (unfold zcR;rw[if_neg hc];first|rfl|(unfold zhE;dsimp only;by_cases hq:(cutL 40 [] (s)).length<2\/(nth (cutL 40 [] (s)) 1).length=0;all_goals first|(exfalso;exact(of_decide_eq_false h4) hq)|(exfalso;exact hq (xas h4))|(rw[if_pos hq];done)|(rw[if_pos hq];rfl)|(rw[if_neg hq,<-List.map_take,zpR od];done)))
end Go.Proofs.YtmchfdpleibpdaaGreat
