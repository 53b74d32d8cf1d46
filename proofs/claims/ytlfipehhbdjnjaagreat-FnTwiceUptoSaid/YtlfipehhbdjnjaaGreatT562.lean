/-
  THE ABSTRACT WALK AND THE WALKS, part 2 of 6: the parts AmT, AmU, AmV, AmW, AmX, AmY, AmZ, Ta, G7, Ev, AmFacts, Enc, Mdl, F1, F2, F3, F12, F4, F5, F15, F6, Wv, G1, F20.
-/
import Derived.Test.YtlfipehhbdjnjaaGreatT561
namespace Go.Proofs.YtlfipehhbdjnjaaGreat
open Go
set_option linter.unusedSimpArgs false
set_option linter.unusedVariables false
section
variable {c:Ctx}
theorem CWp.frzS {env:Env}{hp:Hp}{s':St}{K:Kt}{code:Code}{ids:List Nat} (hkp:KeptIn c.kept ids) (id:Nat){cs:List AV} (hb:getH hp id=some (.box cs)) (Conv:AV->AV->Prop)
  (hs:∀i v,getE s'.env i=some v->∃u,getE env i=some u/\(u=v\/Conv u v))
  (hh:∀i r,getH s'.hp i=some r->i≠id/\(getH hp i=some r\/∃cs1 cs2,getH hp i=some (.box cs1)/\r = .box cs2/\cs2.length=cs1.length/\∀j (h1:j<cs1.length) (h2:j<cs2.length),cs1[j]=cs2[j]\/Conv cs1[j] cs2[j]))
  (hko:∀i,i≠id->(getH hp i).isSome->(getH s'.hp i).isSome)
  (hsl:∀(G G':Gh) (T T':TokF) (w:World) (b:Nat) (us:Array Value) (e:TypeId) (u v:AV) (x:Value),Conv u v->RelA G T w u x->G.loc id=[b]->w.heap[b]?=some (.cells us e (0,0))->cs.length<=us.size->
   (∀i (hi:i<cs.length) (hv:i<us.size),RelA G T w cs[i] us[i])->G'.F b=us.size->(∀y o,o<G.F y->o<G'.F y/\w.cell? ⟨y,o,none⟩=w.cell? ⟨y,o,none⟩)->RelA G' T' w v x)
  (hid:za4 id ids=false) (hn:CWp c code s' K):CWp c code ⟨env,hp⟩ K:=by
 intro a w hrel;obtain⟨G,hr⟩:=hrel;obtain⟨b,us,e,h1,h2,h3,h4,h5⟩:=hr.heap id _ hb;let G':Gh:={ G with F:=fun x=>bif Nat.beq x b then us.size else G.F x }
 have hF:∀x,x≠b->G'.F x=G.F x:=fun x hx=>by
  have:Nat.beq x b=false:=by
   cases hh:Nat.beq x b with
   |true=>exact absurd (Nat.eq_of_beq_eq_true hh) hx
   |false=>rfl
  simp[G',this]
 have hFb:G'.F b=us.size:=by simp[G']
 have hother:∀i,(getH hp i).isSome->i≠id->∀x,x∈G.loc i->x≠b:=fun i hi hne x hx e=>by
  subst e;exact hr.disj i id hi (by rw[hb];rfl) hne x hx (by simp[h1])
 have htok:∀i p,tokf s'.hp i=some p->tokf hp i=some p/\i≠id:=by
  rintro i ⟨m,q⟩ hp'
  obtain⟨q1,q2⟩:=hh i _ (zaw.1 hp');rcases q2 with q2|⟨_,_,_,q3,_⟩
  ·exact⟨zaw.2 q2,q1⟩
  ·cases q3
 have hcell:∀x o,o<G.F x->o<G'.F x/\w.cell? ⟨x,o,none⟩=w.cell? ⟨x,o,none⟩:=fun x o ho=>by
  refine⟨?_,rfl⟩;by_cases hx:x=b
  ·subst hx;rw[h4] at ho;omega
  ·rw[hF x hx];exact ho
 have hm:∀ {x:AV}{v:Value},RelA G (tokf hp) w x v->RelA G' (tokf s'.hp) w x v:=fun hx=>
  hx.mono hcell (fun _ _=> .inl rfl) (fun i _ p hp'=>by
   obtain⟨q1,q2⟩:=htok i p hp';refine⟨q1,fun x hx=>⟨rfl,hF x (hother i ?_ q2 x hx)⟩⟩;obtain⟨m,q⟩:=p;rw[zaw.1 q1];rfl)
 have hc:∀ {x y:AV}{v:Value},(x=y\/Conv x y)->RelA G (tokf hp) w x v->RelA G' (tokf s'.hp) w y v:=fun hxy hx=>by
  rcases hxy with rfl|hxy
  ·exact hm hx
  ·exact hsl _ _ _ _ _ _ _ _ _ _ _ hxy hx h1 h2 h3 h5 hFb hcell
 have hsome:∀i,(getH s'.hp i).isSome->(getH hp i).isSome/\i≠id:=fun i hi=>by
  obtain⟨r,hr'⟩:=Option.isSome_iff_exists.1 hi;obtain⟨q1,q2⟩:=hh i r hr';refine⟨?_,q1⟩;rcases q2 with q2|⟨_,_,q2,_⟩<;>rw[q2]<;>rfl
 have hbnew:=hr.new id (by rw[hb];rfl) b (by simp[h1]);have hblt:b<w.heap.size:=(hr.heap id _ hb).bound b (by simp[h1]);refine hn a w ⟨G',hr.size,hr.defers,fun i v hi=>?_,fun i r hi=>?_,fun i j q1 q2=>hr.disj i j (hsome i q1).1 (hsome j q2).1,fun i q1=>hr.new i (hsome i q1).1, ?_,fun x hx=>?_,fun i l hk=>?_⟩
 ·obtain⟨u,q1,q2⟩:=hs i v hi;exact hc q2 (hr.slots i u q1)
 ·obtain⟨hne,q⟩:=hh i r hi;rcases q with hi' | ⟨cs1,cs2,hi',rfl,hl,hcc⟩
  ·have hh:=hr.heap i r hi';have hs:(getH hp i).isSome:=by rw[hi'];rfl
   cases r with
   |box cs2=>
    obtain⟨b2,vs2,e2,q1,q2,q3,q4,q5⟩:=hh;exact⟨b2,vs2,e2,q1,q2,q3,(hF b2 (hother i hs hne b2 (by simp[q1]))).trans q4,fun j hj hv=>hm (q5 j hj hv)⟩
   |tok m q=>exact hh
   |map ks=>
    obtain⟨b2,es2,cl,q1,q2,q3,q4⟩:=hh;exact⟨b2,es2,cl,q1,q2,(hF b2 (hother i hs hne b2 (by simp[q1]))).trans q3,q4⟩
   |tree cs2=>exact zbr hh rfl (fun x hx=>⟨rfl,hF x (hother i hs hne x hx)⟩) (Nat.le_refl _) (fun _ _ _=>hm)
  ·have hs:(getH hp i).isSome:=by rw[hi'];rfl
   obtain⟨b2,vs2,e2,q1,q2,q3,q4,q5⟩:=hr.heap i _ hi';exact⟨b2,vs2,e2,q1,q2,by omega,(hF b2 (hother i hs hne b2 (by simp[q1]))).trans q4,fun j hj hv=>hc (hcc j (by omega) hj) (q5 j (by omega) hv)⟩
 ·refine hr.frm.trans (own1:=[b]) ⟨rfl,rfl,rfl,Nat.le_refl _,fun x _ hx=>⟨rfl,hF x (fun e=>hx (by simp[e]))⟩,hcell⟩ (fun x hx=>?_);simp only[List.mem_singleton] at hx;subst hx;exact hbnew
 ·rw[hF x (by omega)];exact hr.top x hx
 ·have:=hr.kept i l hk;have hne:i≠id:=fun e=>by
   subst e;have:=zaU.2 (hkp.mem i l hk);rw[this] at hid;cases hid
  refine⟨this.1,hko i hne this.2.1, ?_⟩;cases hT:tokf s'.hp i with
  |none=>rfl
  |some p=>rw[(htok i p hT).1] at this;exact absurd this.2.2 (by simp)
theorem CWp.frzG {env:Env}{hp:Hp}{K:Kt}{code:Code}{ids:List Nat} (hkp:KeptIn c.kept ids) (t id:Nat){u v:AV}{cs:List AV} (ht:getE env t=some u) (hb:getH hp id=some (.box cs))
  (hsl:∀(G G':Gh) (T T':TokF) (w:World) (b:Nat) (us:Array Value) (e:TypeId) (x:Value),RelA G T w u x->G.loc id=[b]->w.heap[b]?=some (.cells us e (0,0))->cs.length<=us.size->
   (∀i (hi:i<cs.length) (hv:i<us.size),RelA G T w cs[i] us[i])->G'.F b=us.size->(∀y o,o<G.F y->o<G'.F y/\w.cell? ⟨y,o,none⟩=w.cell? ⟨y,o,none⟩)->RelA G' T' w v x)
  (hid:za4 id ids=false) (hn:CWp c code ⟨(t,v)::env,(id,none)::hp⟩ K):CWp c code ⟨env,hp⟩ K:=by
 refine CWp.frzS hkp id hb (fun x y=>x=u/\y=v) (fun i x hi=>?_) (fun i r hi=>?_) (fun i hne hi=>?_) (fun G G' T T' w b us e x y z hxy=>?_) hid hn
 ·have hi':getE ((t,v)::env) i=some x:=hi;simp only[getE] at hi';cases hti:Nat.beq t i with
  |true=>
   obtain rfl:=Nat.eq_of_beq_eq_true hti;simp only[hti,cond_true,Option.some.injEq] at hi';exact⟨u,ht,.inr ⟨rfl,hi'.symm⟩⟩
  |false=>simp only[hti,cond_false] at hi';exact⟨x,hi',.inl rfl⟩
 ·have hi':getH ((id,none)::hp) i=some r:=hi;rw[zak] at hi';split at hi'
  ·cases hi'
  ·rename_i hne;exact⟨hne,.inl hi'⟩
 ·show(getH ((id,none)::hp) i).isSome
  rw[zak,if_neg hne];exact hi
 ·obtain⟨rfl,rfl⟩:=hxy;exact hsl G G' T T' w b us e z
theorem zto {G G':Gh}{T T':TokF}{w:World}{id n k b:Nat}{us:Array Value}{e:TypeId}{x:Value}{cs:List AV}{es:List (List D)} (hx:RelA G T w (.ms id n) x) (h1:G.loc id=[b]) (h2:w.heap[b]?=some (.cells us e (0,0))) (h3:cs.length<=us.size)
  (h5:∀i (hi:i<cs.length) (hv:i<us.size),RelA G T w cs[i] us[i]) (hFb:G'.F b=us.size) (hcell:∀y o,o<G.F y->o<G'.F y/\w.cell? ⟨y,o,none⟩=w.cell? ⟨y,o,none⟩) (hc:zb2 n k cs=some es):RelA G' T' w (.d (.sl es)) x:=by
 obtain⟨c1,c2,c3,c4⟩:=zet hc;obtain⟨b',cap,hl,he,hcap⟩:=hx.ms_eq;obtain rfl:=(zcB hl.1 h1).symm;rw[he];refine .d ?_;have hn':n=es.length:=c1.symm;rw[hn'];refine .sl es k b 0 cap (fun x=>us.getD x undef) c2 (by omega) (fun x hx=>?_) (fun i hi j hj=>?_)
 ·have h3':x<cs.length:=by rw[c3,<-c1];exact hx
  have hxs:x<us.size:=Nat.lt_of_lt_of_le h3' h3;refine⟨by rw[hFb];omega, ?_⟩;simp[World.cell?,h2,hxs]
 ·have hjk:j<k:=by rw[<-c2 _ (List.getElem_mem hi)];exact hj
  have hlt:i*k+j<cs.length:=by
   rw[c3,<-c1];have:(i+1)*k<=es.length*k:=Nat.mul_le_mul_right _ (by omega);rw[Nat.add_mul] at this;omega
  have hlu:i*k+j<us.size:=by omega
  have h6:=(h5 _ hlt hlu).toD (c4 i hi j hj hlt);have h7:us.getD (i*k+j) undef=us[i*k+j]:=by simp[Array.getD,hlu]
  rw[h7];exact h6.mono hcell
theorem CWp.frz {env:Env}{hp:Hp}{K:Kt}{code:Code}{ids:List Nat} (hkp:KeptIn c.kept ids) (t id n k:Nat){cs:List AV}{es:List (List D)} (ht:getE env t=some (.ms id n)) (hb:getH hp id=some (.box cs))
  (hc:zb2 n k cs=some es) (hid:za4 id ids=false) (hn:CWp c code ⟨(t,.d (.sl es))::env,(id,none)::hp⟩ K):CWp c code ⟨env,hp⟩ K:=by
 refine CWp.frzG hkp t id ht hb (fun G G' T T' w b us e x hx h1 h2 h3 h5 hFb hcell=>zto hx h1 h2 h3 h5 hFb hcell hc) hid hn
theorem CWp.frzB {env:Env}{hp:Hp}{K:Kt}{code:Code}{ids:List Nat} (hkp:KeptIn c.kept ids) (t id off:Nat){cs:List AV}{ds:List D} (ht:getE env t=some (.ref id off)) (hb:getH hp id=some (.box cs))
  (hc:toDL cs=some ds) (hid:za4 id ids=false) (hn:CWp c code ⟨(t,.d (.ptr ds off))::env,(id,none)::hp⟩ K):CWp c code ⟨env,hp⟩ K:=by
 refine CWp.frzG hkp t id ht hb (fun G G' T T' w b us e x hx h1 h2 h3 h5 hFb hcell=>?_) hid hn;obtain⟨c1,c2⟩:=zhJ hc;obtain⟨b',hl,he⟩:=hx.ref_eq;obtain rfl:=(zcB hl.1 h1).symm;rw[he];refine .d ?_;have:=RelD.ptr (F:=G'.F) (w:=w) ds b 0 off (fun x=>us.getD x undef) (fun n hn=>?_) (fun n hn=>?_)
 ·rwa [Nat.zero_add] at this
 ·have hxs:n<us.size:=by omega
  refine⟨by rw[hFb];omega, ?_⟩;simp[World.cell?,h2,hxs]
 ·have hlu:n<us.size:=by omega
  have h6:=(h5 n (by omega) hlu).toD (c2 n (by omega) hn);have h7:us.getD n undef=us[n]:=by simp[Array.getD,hlu]
  rw[h7];exact h6.mono hcell
theorem CWp.frzC {env:Env}{hp:Hp}{K:Kt}{code:Code}{ids:List Nat} (hkp:KeptIn c.kept ids) (b0 off id n k:Nat){cs0 cs0' cs:List AV}{es:List (List D)} (h0:getH hp b0=some (.box cs0)) (hne:Nat.beq b0 id=false)
  (ho:cs0[off]?=some (.ms id n)) (hp0:cs0.set off (.d (.sl es))=cs0') (hb:getH hp id=some (.box cs))
  (hc:zb2 n k cs=some es) (hid:za4 id ids=false) (hn:CWp c code ⟨env,(b0,some (.box cs0'))::(id,none)::hp⟩ K):CWp c code ⟨env,hp⟩ K:=by
 have hbne:b0≠id:=fun e=>by subst e;rw[Nat.beq_refl] at hne;cases hne
 refine CWp.frzS hkp id hb (fun x y=>x = .ms id n/\y = .d (.sl es)) (fun i x hi=>⟨x,hi,.inl rfl⟩) (fun i r hi=>?_) (fun i hne hi=>?_) (fun G G' T T' w b us e u v x hxy hx h1 h2 h3 h5 hFb hcell=>?_) hid hn
 ·have hi':getH ((b0,some (Res.box cs0'))::(id,none)::hp) i=some r:=hi;rw[zak] at hi';split at hi'
  ·rename_i he;subst he;simp only[Option.some.injEq] at hi';subst hi';refine⟨hbne,.inr ⟨cs0,cs0',h0,rfl,by rw[<-hp0];simp,fun j q1 q2=>?_⟩⟩;subst hp0;rw[List.getElem_set];split
   ·rename_i he;subst he;rw[List.getElem?_eq_getElem q1] at ho;exact .inr ⟨Option.some.inj ho,rfl⟩
   ·exact .inl rfl
  ·rw[zak] at hi';split at hi'
   ·cases hi'
   ·rename_i hne;exact⟨hne,.inl hi'⟩
 ·show(getH ((b0,some (Res.box cs0'))::(id,none)::hp) i).isSome
  rw[zak];split
  ·rfl
  ·rw[zak,if_neg hne];exact hi
 ·obtain⟨rfl,rfl⟩:=hxy;exact zto hx h1 h2 h3 h5 hFb hcell hc
end
theorem zah:∀a b:List AV,AV.idsL (a++b)=AV.idsL a++AV.idsL b
 | [],_=>rfl
 |x::r,b=>by simp[AV.idsL,zah r b]
theorem ziY {zs:List AV} (h:AV.idsL zs=[]):∀ {n:Nat},AV.idsL (zbb n zs)=[]
 |0=>rfl
 |n+1=>by simp[zbb,zah,h,ziY h]
theorem zn7 {k:Nat}:∀ {h t:List AV},h.length=k->cutC (h++t) 0 k=some h:=by
 intro h t hk;subst hk;induction h with
 |nil=>cases t<;>simp[cutC]
 |cons x r ih=>simp[cutC,ih]
theorem zlx:∀l:List D,toDL (l.map .d)=some l
 | []=>rfl
 |x::r=>by simp[toDL,AV.toD,zlx r]
theorem zes {α:Type}{f:α->List D}{k:Nat}:∀ {l:List α},(∀x,x∈l->(f x).length=k)->zb2 l.length k (l.flatMap fun x=>(f x).map .d)=some (l.map f)
 | [],_=>rfl
 |x::r,h=>by
  have hx:((f x).map AV.d).length=k:=by simp[h x (by simp)]
  simp only[xab,List.flatMap_cons,xae,zb2,zn7 hx,zlx];have:(((f x).map AV.d)++r.flatMap fun x=>(f x).map AV.d).drop k=r.flatMap fun x=>(f x).map AV.d:=by
   rw[<-hx];simp
  rw[this,zes (fun y hy=>h y (by simp[hy]))]
theorem zoA {α:Type}:∀ {vs z t:List α},z.length=vs.length->putC (z++t) 0 vs=some (vs++t)
 | [],[],t,_=>by cases t<;>rfl
 |v::vs,y::z,t,h=>by
  simp only[xag,putC];rw[zoA (by simpa using h)]
 | [],_::_,_,h=>by simp at h
 |_::_,[],_,h=>by simp at h
theorem zuE {α:Type}{o:Nat}:∀ {a z t vs:List α},a.length=o->z.length=vs.length->putC (a++(z++t)) o vs=some (a++(vs++t)):=by
 intro a z t vs ha hz;subst ha;induction a with
 |nil=>exact zoA hz
 |cons x r ih=>
  cases vs with
  |nil=>
   have:z=[]:=by simpa using hz
   subst this;simp[putC]
  |cons v vs=>simp only[xag,xab,putC,ih]
section
variable {c:Ctx}
theorem RelA.gv_inv {G:Gh}{T:TokF}{w:World}{id:Nat}{xs:List (List D)}{v:Value} (h:RelA G T w (.gv id xs) v):
  (∃a cap,v = .slice a xs.length cap)/\∀n k,T id=some (n,k)->xs.length<=n/\(n=xs.length->(∀x,x∈xs->x.length=k)/\TipV G w id n k v xs):=by
 cases h with|gv hv ht=>exact⟨hv,ht⟩
theorem zcW {hp:Hp}{id n n' k:Nat} (h:getH hp id=some (.tok n' k)) (e:n'=n):getH hp id=some (.tok n k):=e ▸ h
theorem LeA.gvg {id:Nat}{xs ys:List (List D)} (h:xs=ys):LeA (.gv id xs) (.gv id ys):=h ▸ .refl _
theorem zq7 {F:Nat->Nat}{w:World}{xs ys:List (List D)}{k:Nat}{us:Array Value} 
  (hx:∀i (hi:i<xs.length) j (hj:j<xs[i].length),RelD F w xs[i][j] (us.getD (i*k+j) undef))
  (hy:∀i (hi:i<ys.length) j (hj:j<ys[i].length),RelD F w ys[i][j] (us.getD ((xs.length+i)*k+j) undef)):
  ∀i (hi:i<(xs++ys).length) j (hj:j<(xs++ys)[i].length),RelD F w (xs++ys)[i][j] (us.getD (i*k+j) undef):=by
 intro i hi j hj;by_cases h:i<xs.length
 ·have e2:(xs++ys)[i]=xs[i]:=List.getElem_append_left h;have:=hx i h j (by rw[<-e2];exact hj);simpa only[e2] using this
 ·have h2:i-xs.length<ys.length:=by simp only[xaa] at hi;omega
  have e2:(xs++ys)[i]=ys[i-xs.length]:=List.getElem_append_right (by omega);have e3:xs.length+(i-xs.length)=i:=by omega
  have:=hy (i-xs.length) h2 j (by rw[<-e2];exact hj);simp only[e3] at this;simpa only[e2] using this
theorem zji {t:TypeId}{G:Gh}{s:St}{a:Act}{w:World} (hr:R c G s a w){id k e yb:Nat}{xs ys:List (List D)}{v u:Value} (ht:SlT c.P t e k yb){z:Value} (hz:∃i,c.P.info? e=some i/\i.zero=some z/\z.cells.size=k)
  (htok:getH s.hp id=some (.tok xs.length k)) (hv:RelA G (tokf s.hp) w (.gv id xs) v) (hu:RelD G.F w (.sl ys) u) (hky:∀y,y∈ys->y.length=k)
  (hb:(xs.length+ys.length)*yb<=140737488355328) (hm:xs.length+ys.length<=9223372036854775807) (opt:TypeId):
  ∃v' w' G',(Builtin.append_ #[t,t] opt #[v,u]).run c.P w = .ok v' w'/\
   R c G' { s with hp:=(id,some (.tok (xs.length+ys.length) k))::s.hp } a w'/\
   RelA G' (tokf ((id,some (.tok (xs.length+ys.length) k))::s.hp)) w' (.gv id (xs++ys)) v':=by
 obtain⟨i,hi1,hi2,hi3⟩:=ht.inf;obtain⟨i',z1,z2,z3⟩:=hz;rw[hi1] at z1;cases z1
 obtain⟨⟨base,cap0,hv0⟩,hcl⟩:=hv.gv_inv;have hT:tokf s.hp id=some (xs.length,k):=zaw.2 htok;obtain⟨hkx,htip⟩:=(hcl _ _ hT).2 rfl;have hT':tokf ((id,some (.tok (xs.length+ys.length) k))::s.hp) id=some (xs.length+ys.length,k):=zaw.2 (by rw[zak,if_pos rfl]);have hle:∃base cap,v = .slice base xs.length cap/\xs.length<=cap:=by
  rcases htip with ⟨h1,h2,h3⟩|⟨b,cap,cs,et,h1,h2,h3,h4,h5,h6,h7⟩
  ·exact⟨none,0,by rw[h2];exact h3,by omega⟩
  ·exact⟨_,cap,h2,h6⟩
 by_cases hm0:ys=[]
 ·subst hm0;obtain⟨base,cap,rfl,hle⟩:=hle;obtain⟨oa,oc,rfl⟩:∃oa oc,u = .slice oa 0 oc:=by obtain⟨oa,oc,h⟩:=hu.sl_len;exact⟨oa,oc,h⟩
  refine⟨_,w,G,zfe t opt e i ht.und hi1 base xs.length cap hle oa oc,hr.same htok, ?_⟩;show RelA G (tokf ((id,some (.tok xs.length k))::s.hp)) w (.gv id (xs++[])) _
  rw[zhK htok,List.append_nil];exact hv
 obtain⟨oa0,cap0',_,h0,_⟩|⟨b2,off2,cap2,news,rfl,hcap2,hnl,hnc,hn1,hnr⟩:=hu.sl_cells hky
 ·exact absurd h0 hm0
 have hmpos:0<ys.length:=List.length_pos_iff.2 hm0;have hnews:∀j u,news[j]?=some u->w.cell? ((⟨b2,off2,none⟩:Addr).add j)=some u:=fun j u hj=>by rw[zcL];exact(hnc j u hj).2
 have hnl':news.length=ys.length*i.size:=by rw[hi2];exact hnl
 have hky':∀e,e∈xs++ys->e.length=k:=fun e he=>by
  rcases List.mem_append.1 he with h|h
  ·exact hkx e h
  ·exact hky e h
 have hlt:∀b o,o<G.F b->b<w.heap.size:=fun b o ho=>by
  rcases Nat.lt_or_ge b w.heap.size with h|h
  ·exact h
  ·rw[hr.top b h] at ho;omega

 have atNew:∀(olds:List Value),olds.length=xs.length*k->∀(tail:List Value) (F':Nat->Nat) (w':World),(∀x v,RelD G.F w x v->RelD F' w' x v)->
   (∀i (hi:i<xs.length) j (hj:j<xs[i].length),RelD G.F w xs[i][j] (olds.getD (i*k+j) undef))->
   ∀i (hi:i<(xs++ys).length) j (hj:j<(xs++ys)[i].length),RelD F' w' (xs++ys)[i][j] ((olds++news++tail).toArray.getD (i*k+j) undef):=by
  intro olds hol tail F' w' hmo hold;refine zq7 (fun i hi j hj=>?_) (fun i hi j hj=>?_)
  ·have hlt':i*k+j<olds.length:=by
    have h1:xs[i].length=k:=hkx _ (List.getElem_mem hi);have:(i+1)*k<=xs.length*k:=Nat.mul_le_mul_right _ (by omega);rw[Nat.add_mul] at this;omega
   have e1:(olds++news++tail).toArray.getD (i*k+j) undef=olds.getD (i*k+j) undef:=by
    simp[List.getD,List.append_assoc,List.getElem?_append_left hlt']
   rw[e1];exact hmo _ _ (hold i hi j hj)
  ·have h1:ys[i].length=k:=hky _ (List.getElem_mem hi);have hlt':i*k+j<news.length:=by
    have:(i+1)*k<=ys.length*k:=Nat.mul_le_mul_right _ (by omega);rw[Nat.add_mul] at this;omega
   have e0:(xs.length+i)*k+j=olds.length+(i*k+j):=by rw[hol,Nat.add_mul];omega
   have e1:(olds++news++tail).toArray.getD ((xs.length+i)*k+j) undef=news[i*k+j]:=by
    rw[e0];simp[List.getD,List.append_assoc,List.getElem?_append_right,List.getElem?_append_left hlt',hlt']
   rw[e1];exact hmo _ _ (hnr i hi j hj hlt')
 have fresh:∀(olds:List Value) (nc:Nat),olds.length=xs.length*k->xs.length+ys.length<=nc->
   (∀i (hi:i<xs.length) j (hj:j<xs[i].length),RelD G.F w xs[i][j] (olds.getD (i*k+j) undef))->
   ∃G',R c G' { s with hp:=(id,some (.tok (xs.length+ys.length) k))::s.hp } a (w.drew.alloc (.cells (olds.toArray++news.toArray++Builtin.zeroCells z.cells (nc-(xs.length+ys.length))) e))/\
    RelA G' (tokf ((id,some (.tok (xs.length+ys.length) k))::s.hp)) (w.drew.alloc (.cells (olds.toArray++news.toArray++Builtin.zeroCells z.cells (nc-(xs.length+ys.length))) e))
     (.gv id (xs++ys)) (.slice (some ⟨w.heap.size,0,none⟩) (xs.length+ys.length) nc):=by
  intro olds nc hol hnc' hold;let cells:Array Value:=olds.toArray++news.toArray++Builtin.zeroCells z.cells (nc-(xs.length+ys.length))
  let G':Gh:={ F:=G.F,loc:=fun j=>bif Nat.beq j id then [w.heap.size] else G.loc j }
  have hcs:cells.size=nc*k:=by
   simp only[cells,Array.size_append,List.size_toArray,size_zeroCells,z3,hol,hnl,<-Nat.add_mul];congr 1;omega
  have hcell:∀b o,o<G.F b->o<G'.F b/\(w.drew.alloc (.cells cells e)).cell? ⟨b,o,none⟩=w.cell? ⟨b,o,none⟩:=fun b o ho=>by
   have hb:=hlt b o ho;exact⟨ho,by rw[World.cell?_alloc_lt w.drew _ _ hb];rfl⟩
  have hlocne:∀j,j≠id->G'.loc j=G.loc j:=fun j hj=>by
   have:Nat.beq j id=false:=by
    cases h:Nat.beq j id with
    |true=>exact absurd (Nat.eq_of_beq_eq_true h) hj
    |false=>rfl
   simp[G',this]
  have hlocid:G'.loc id=[w.heap.size]:=by simp[G']
  refine⟨G',hr.retok (G':=G') htok (by omega) hcell hlocne (fun b hb _=>⟨zeq (w:=w.drew) hb,rfl⟩) (fun b hb=>by rw[hlocid] at hb;simp at hb;subst hb;simp)
   (fun b hb=>by rw[hlocid] at hb;simp at hb;exact .inr (by omega)) rfl rfl rfl (by simp) (fun b hb=>?_), ?_⟩
  ·have hb':w.heap.size+1<=b:=by simpa using hb
   exact hr.top b (by omega)
  refine .gv ⟨_,_,by rw[xaa]⟩ (fun n' k' hm'=>?_);rw[hT'] at hm';cases hm'
  refine⟨by simp,fun _=>⟨hky',.inr ⟨w.heap.size,nc,cells,e,hlocid,rfl,hr.top _ (Nat.le_refl _),zeD (w:=w.drew),by rw[hcs];exact Nat.le_refl _,hnc', ?_⟩⟩⟩;have:=atNew olds hol (Builtin.zeroCells z.cells (nc-(xs.length+ys.length))).toList G.F (w.drew.alloc (.cells cells e)) (fun x v h=>h.mono hcell) hold;have ec:cells=(olds++news++(Builtin.zeroCells z.cells (nc-(xs.length+ys.length))).toList).toArray:=by
   apply Array.ext';simp[cells]
  intro i hi j hj;rw[ec];exact this i hi j hj
 rcases htip with ⟨h1,h2,h3⟩|⟨b,cap,cs,et,h1,h2,h3,h4,h5,h6,h7⟩
 ·
  have hx0:xs=[]:=List.eq_nil_of_length_eq_zero h2;subst hx0;subst h3;simp only[xai,Nat.zero_add] at hb hm fresh ⊢;have hrun:=run_append_nil (P:=c.P) w t opt e i z ht.und hi1 z2 ⟨b2,off2,none⟩ ys.length cap2 news hnl' hnews hmpos (by omega) (by rw[hi3];omega);obtain⟨G',hR,hA⟩:=fresh [] (grownCap w ys.length 0 e) (by simp) (by
   have:=grownCap_ge w ys.length 0 e;omega) (fun j hj=>by simp at hj)
  simp only[List.nil_append,Array.empty_append] at hR hA hrun ⊢;exact⟨_,_,G',hrun,hR,hA⟩
 ·subst h2;have hmul:xs.length*k<=cs.size:=Nat.le_trans (Nat.mul_le_mul_right _ h6) h5;have hold:∀i (hi:i<xs.length) j (hj:j<xs[i].length),RelD G.F w xs[i][j] ((cs.toList.take (xs.length*k)).getD (i*k+j) undef):=fun i hi j hj=>by
   have h8:xs[i].length=k:=hkx _ (List.getElem_mem hi);have hlt':i*k+j<xs.length*k:=by
    have:(i+1)*k<=xs.length*k:=Nat.mul_le_mul_right _ (by omega);rw[Nat.add_mul] at this;omega
   have:=h7 i hi j hj;have e1:(cs.toList.take (xs.length*k)).getD (i*k+j) undef=cs.getD (i*k+j) undef:=by
    have hs:i*k+j<cs.size:=by omega
    simp[List.getD,List.getElem?_take,hlt',Array.getD,hs]
   rw[e1];exact this
  by_cases hroom:xs.length+ys.length<=cap
  ·
   have hfit:xs.length*i.size+news.length<=cs.size:=by
    rw[hi2,hnl,<-Nat.add_mul];exact Nat.le_trans (Nat.mul_le_mul_right _ hroom) h5
   have hrun:=zg8 (P:=c.P) t opt e i ht.und hi1 b xs.length cap cs et h4 ⟨b2,off2,none⟩ ys.length cap2 news hnl' hnews hn1 hroom hfit;rw[hi2] at hrun hfit;let row:Array Value:=(cs.toList.take (xs.length*k)++news++cs.toList.drop (xs.length*k+news.length)).toArray
   have hrs:row.size=cs.size:=by
    simp only[row,List.size_toArray,xaa,List.length_take,List.length_drop,Array.length_toList];omega
   have hcell:∀b' o,o<G.F b'->o<G.F b'/\(w.setRow b row).cell? ⟨b',o,none⟩=w.cell? ⟨b',o,none⟩:=fun b' o ho=>by
    have hbb:b'≠b:=fun e=>by subst e;omega
    exact⟨ho,cell_setRow_other w b row _ hbb⟩
   have hbs:b<w.heap.size:=by
    rcases Nat.lt_or_ge b w.heap.size with h|h
    ·exact h
    ·rw[Array.getElem?_eq_none h] at h4;cases h4
   refine⟨_,_,G,hrun,hr.retok (G':=G) htok (by omega) hcell (fun _ _=>rfl) (fun b' hb' hn=>?_) (fun x hx=>by rw[h1] at hx;simp at hx;subst hx;simpa using hbs) (fun b' hb'=> .inl hb') rfl rfl rfl (by simp) (fun b' hb'=>?_), ?_⟩
   ·have hne:b'≠b:=fun e=>hn (by rw[h1,e];simp);exact⟨setRow_other w b b' row hne,rfl⟩
   ·have hb2':w.heap.size<=b':=by simpa using hb'
    exact hr.top b' hb2'
   ·refine .gv ⟨_,_,by rw[xaa]⟩ (fun n' k' hm'=>?_);rw[hT'] at hm';cases hm'
    refine⟨by simp,fun _=>⟨hky',.inr ⟨b,cap,row,et,h1,rfl,h3,setRow_heap w b cs row et _ h4,by rw[hrs];exact h5,hroom, ?_⟩⟩⟩;exact atNew (cs.toList.take (xs.length*k)) (by simp;omega) _ G.F (w.setRow b row) (fun x v h=>h.mono hcell) hold
  ·
   have hrun:=run_append_grow (P:=c.P) w t opt e i z ht.und hi1 z2 ⟨b,0,none⟩ xs.length cap (cs.toList.take (xs.length*k)) (by rw[hi2];simp;omega)
    (fun j u hj=>by
     rw[zcL];obtain⟨hj1,hj2⟩:=List.getElem?_eq_some_iff.1 hj;simp only[List.getElem_take] at hj2;have hjs:j<cs.size:=by simp at hj1;omega
     simp only[World.cell?,h4,Option.isSome_none,Bool.false_eq_true,if_false,Nat.zero_add];rw[Array.getElem?_eq_getElem hjs,<-hj2];simp) ⟨b2,off2,none⟩ ys.length cap2 news hnl' hnews (by omega) (by omega) (by rw[hi3];exact growslice_fits (by omega) hb)
   obtain⟨G',hR,hA⟩:=fresh (cs.toList.take (xs.length*k)) (grownCap w (xs.length+ys.length) cap e) (by simp;omega) (by have:=grownCap_ge w (xs.length+ys.length) cap e;omega) hold;exact⟨_,_,G',hrun,hR,hA⟩
theorem R.mkTokV {G:Gh}{s:St}{a:Act}{w:World} (hr:R c G s a w){id:Nat} (k:Nat) (h0:getH s.hp id=none) (hocc:zda id s):
  ∃G',R c G' { s with hp:=(id,some (.tok 0 k))::s.hp } a w/\RelA G' (tokf ((id,some (.tok 0 k))::s.hp)) w (.gv id []) (.slice none 0 0):=by
 have h1:=hr.rename h0 hocc [];have hl:(fun i=>bif Nat.beq i id then ([]:List Nat) else G.loc i) id=[]:=by simp
 refine⟨_,h1.name h0 hocc (fun b hb=>by simp at hb) (fun i _ b _ hb=>by simp at hb) (fun b hb=>by simp at hb), ?_⟩;refine .gv ⟨none,0,rfl⟩ (fun n k' hT=>?_);have:=zaw.1 hT;rw[zak,if_pos rfl] at this;cases this
 exact⟨Nat.le_refl _,fun _=>⟨by simp,.inl ⟨hl,rfl,rfl⟩⟩⟩
theorem zhn {xs:List (List D)}{k:Nat} (hk:∀x,x∈xs->x.length=k){i:Nat} (hi:i<xs.length){j:Nat} (hj:j<k):(xs.flatten.map AV.d)[i*k+j]?=some (.d (xs[i][j]'(by rw[hk _ (List.getElem_mem hi)];exact hj))):=by
 have:=zpK hk i hi j hj;rw[List.getElem?_map,this,List.getElem?_eq_getElem (by rw[hk _ (List.getElem_mem hi)];exact hj)];rfl
theorem Rel.fixV {env:Env}{hp:Hp}{ids:List Nat} (hkp:KeptIn c.kept ids) (t id k:Nat){xs:List (List D)} (ht:getE env t=some (.gv id xs)) (hb:getH hp id=some (.tok xs.length k)) (hid:za4 id ids=false){a:Act}{w:World} (hrel:Rel c ⟨env,hp⟩ a w):
  (xs=[]/\Rel c ⟨(t,.d (.sl []))::env,(id,none)::hp⟩ a w)\/(xs≠[]/\Rel c ⟨(t,.ms id xs.length)::env,(id,some (.box (xs.flatten.map .d)))::hp⟩ a w):=by
 obtain⟨G,hr⟩:=hrel;have hT:tokf hp id=some (xs.length,k):=zaw.2 hb;have hsl:=hr.slots t _ ht;obtain⟨⟨ad,cap0,hv0⟩,hcl⟩:=hsl.gv_inv;obtain⟨hkx,htip⟩:=(hcl _ _ hT).2 rfl;have hkne:∀i l,c.kept i=some l->i≠id:=fun i l hk e=>by
  subst e;have:=zaU.2 (hkp.mem i l hk);rw[this] at hid;cases hid

 have hm:∀(r:Option Res),(∀n k,r≠some (.tok n k))->∀ {x:AV}{v:Value},RelA G (tokf hp) w x v->(r.isSome->id∉x.ids->True)->RelA G (tokf ((id,r)::hp)) w x v:=by
  intro r hnr x v hx _;refine hx.mono (fun _ _ ho=>⟨ho,rfl⟩) (fun _ _=> .inl rfl) (fun i _ p hp'=>?_);obtain⟨n,q⟩:=p;have:=zaw.1 hp';rw[zak] at this;split at this
  ·exact absurd this (hnr n q)
  ·exact⟨zaw.2 this,fun _ _=>⟨rfl,rfl⟩⟩
 have base:∀(r:Option Res) (v:AV),(∀n k,r≠some (.tok n k))->RelA G (tokf ((id,r)::hp)) w v (a.tmps.getD t undef)->(∀x,r=some x->RelR G (tokf ((id,r)::hp)) w id x)->
   Rel c ⟨(t,v)::env,(id,r)::hp⟩ a w:=by
  intro r v hnr hv hrr;have hsome:∀i,(getH ((id,r)::hp) i).isSome->(getH hp i).isSome:=fun i hi=>by
   rw[zak] at hi;split at hi
   ·rename_i e;subst e;rw[hb];rfl
   ·exact hi
  refine⟨G,hr.size,hr.defers,fun i x hi=>?_,fun i x hi=>?_,fun i j q1 q2=>hr.disj i j (hsome i q1) (hsome j q2),fun i q1=>hr.new i (hsome i q1),hr.frm,hr.top,fun i l hk=>?_⟩
  ·simp only[getE] at hi;cases hti:Nat.beq t i with
   |true=>
    have:=Nat.eq_of_beq_eq_true hti;subst this;simp only[hti,cond_true,Option.some.injEq] at hi;subst hi;exact hv
   |false=>
    simp only[hti,cond_false] at hi;exact hm r hnr (hr.slots i x hi) (fun _ _=>trivial)
  ·have hi':getH ((id,r)::hp) i=some x:=hi;rw[zak] at hi';split at hi'
   ·rename_i e;subst e;exact hrr x hi'
   ·have hh:=hr.heap i x hi';cases x with
    |box cs2=>
     obtain⟨b2,vs2,e2,q1,q2,q3,q4,q5⟩:=hh;exact⟨b2,vs2,e2,q1,q2,q3,q4,fun j hj hv=>hm r hnr (q5 j hj hv) (fun _ _=>trivial)⟩
    |tok m q=>exact hh
    |map ks=>exact hh
    |tree cs2=>exact zbr hh rfl (fun _ _=>⟨rfl,rfl⟩) (Nat.le_refl _) (fun _ _ _ h=>hm r hnr h (fun _ _=>trivial))
  ·have hk':=hr.kept i l hk;have hne:=hkne i l hk;show(G.loc i).head?=l.head?/\(getH ((id,r)::hp) i).isSome/\tokf ((id,r)::hp) i=none
   have hg:getH ((id,r)::hp) i=getH hp i:=by rw[zak,if_neg hne]
   refine⟨hk'.1,by rw[hg];exact hk'.2.1, ?_⟩;have h2:=hk'.2.2;unfold tokf at h2 ⊢;rw[hg];exact h2
 by_cases hx0:xs=[]
 ·refine .inl ⟨hx0,base none _ (fun _ _=>by simp) ?_ (fun x h=>by cases h)⟩;subst hx0;rw[hv0];cases ad with
  |none=>
   rcases htip with ⟨h1,h2,h3⟩|⟨b,cap,cs,et,h1,h2,_⟩
   ·rw[hv0] at h3;rw[h3];exact .d .nil
   ·rw[hv0] at h2;cases h2
  |some ad=>
   obtain⟨b,o,sp⟩:=ad;cases sp with
   |none=>exact .d (.sl [] 0 b o cap0 (fun _=>undef) (by simp) (by simp) (fun n hn=>by simp at hn) (fun i hi=>by simp at hi))
   |some s=>exact .d (.emp b o s cap0)
 ·rcases htip with ⟨h1,h2,h3⟩|⟨b,cap,cs,et,h1,h2,h3,h4,h5,h6,h7⟩
  ·exact absurd (List.eq_nil_of_length_eq_zero h2) hx0
  ·have hnt:tokf ((id,some (Res.box (xs.flatten.map .d)))::hp) id=none:=by
    unfold tokf;rw[zak,if_pos rfl]
   refine .inr ⟨hx0,base (some (.box (xs.flatten.map .d))) _ (fun _ _=>by simp) ?_ (fun x h=>?_)⟩
   ·have hv1:a.tmps.getD t undef = .slice (some ⟨b,0,none⟩) xs.length cap:=h2;rw[hv1];exact .ms (zg5 h1) hnt h6
   ·cases h
    refine⟨b,cs,et,h1,h4, ?_,h3,fun i hi hv=>?_⟩
    ·rw[xac,zdD hkx];exact Nat.le_trans (Nat.mul_le_mul_right _ h6) h5
    ·have hi':i<xs.length*k:=by rw[xac,zdD hkx] at hi;exact hi
     have hkpos:0<k:=by
      rcases Nat.eq_zero_or_pos k with h|h
      ·subst h;simp at hi'
      ·exact h
     have hq:i / k<xs.length:=Nat.div_lt_of_lt_mul (by rw[Nat.mul_comm];exact hi');have hrm:i % k<k:=Nat.mod_lt _ hkpos;have e1:=zhn hkx hq hrm;rw[Nat.div_add_mod'] at e1;rw[List.getElem?_eq_getElem hi] at e1;rw[Option.some.inj e1];have h8:=h7 (i / k) hq (i % k) (by rw[hkx _ (List.getElem_mem hq)];exact hrm);rw[Nat.div_add_mod'] at h8;have e2:cs.getD i undef=cs[i]:=by simp[Array.getD,hv]
     rw[e2] at h8;exact .d h8
theorem CWp.fixV {env:Env}{hp:Hp}{K:Kt}{code:Code}{ids:List Nat} (hkp:KeptIn c.kept ids) (t id k:Nat){xs:List (List D)} (ht:getE env t=some (.gv id xs)) (hb:getH hp id=some (.tok xs.length k)) (hid:za4 id ids=false)
  (h0:xs=[]->CWp c code ⟨(t,.d (.sl []))::env,(id,none)::hp⟩ K)
  (hn:xs≠[]->CWp c code ⟨(t,.ms id xs.length)::env,(id,some (.box (xs.flatten.map .d)))::hp⟩ K):CWp c code ⟨env,hp⟩ K:=by
 intro a w hrel;rcases Rel.fixV hkp t id k ht hb hid hrel with ⟨h,hr⟩|⟨h,hr⟩
 ·exact h0 h a w hr
 ·exact hn h a w hr
end
section
variable {c:Ctx}{all:Array Oper}{chk:List Rec->Prop}{os:List Oper}{recs:List Rec}{env:Env}{hp:Hp}{Q:St->Prop}
variable {d ty:Nat}{pos:String}{af:Array Edge}{g:Option (Nat×Bool)}{pg:List (Nat×AV)}
variable {t yt:TypeId}{x y:Operand}
theorem xaC {id k e yb:Nat}{xs ys:List (List D)}{vy:AV} (ht:SlT c.P t e k yb) (hz:ZeroT c.P e k) (hg:GH all env g pg) (hd:Nat.blt d c.n=true)
  (hx:opd env x=some (.gv id xs)) (hy:opd env y=some vy) (hyd:vy.toD=some (.sl ys)) (htok:getH hp id=some (.tok xs.length k)) (hky:∀y,y∈ys->y.length=k)
  (hb:(xs.length+ys.length)*yb<=140737488355328) (hm:xs.length+ys.length<=9223372036854775807)
  (hn:Walk c all chk os (zao (pg++(opF x (.gv id xs)++opF y vy)) [(id,.tok xs.length k)] [] ⟨some (d,.gv id (xs++ys)),[(id,some (.tok (xs.length+ys.length) k))]⟩::recs)
   ⟨(d,.gv id (xs++ys))::env,(id,some (.tok (xs.length+ys.length) k))::hp⟩ Q):
  Walk c all chk (⟨some d,.call ⟨.builtin .append,#[x,y],#[t,t]⟩,ty,pos,af,g⟩::os) recs ⟨env,hp⟩ Q:=by
 refine⟨pg++(opF x (.gv id xs)++opF y vy),[(id,.tok xs.length k)],[],_, ?_,zaz hg.facts (zaz (za9 hx) (za9 hy)),hh1 htok,by simp,hn⟩;intro s a w hrel hp' hh _ K Q' hK;obtain⟨G,hr⟩:=hrel;have e1:=hr.opd (zba hx (fun p hm=>hp' p (by simp[hm])));have e2:=hr.opd (zba hy (fun p hm=>hp' p (by simp[hm])));obtain⟨i,z,z1,z2,z3⟩:=hz.out;obtain⟨v',w',G',hrun,hR,hA⟩:=zji hr ht ⟨i,z1,z2,z3⟩ (hh1' hh) e1 (e2.toD hyd) hky hb hm ty;unfold wpO;rw[if_pos (hg.gf.wanted hr (fun p hm=>hp' p (by simp[hm])))];unfold Oper.wp;have:(execOp a.eval ⟨some d,.call ⟨.builtin .append,#[x,y],#[t,t]⟩,ty,pos,af,g⟩).run c.P w = .ok (.value v') w':=by
  simp only[execOp,resolve,invoke,builtin,Sem.run_bind,Sem.run_pure,Result.andThen_ok,List.map_toArray,xae,List.map_nil,hrun]
 rw[this,Oper.upon_value];exact hK _ _ ⟨G',hR.put hA hd⟩
theorem xaZ {xs:List (List D)}{at_ e k yb id:Nat} (ht:SlT c.P at_ e k yb) (hg:GH all env g pg) (hd:Nat.blt d c.n=true) (hx:opd env x=some (.gv id xs))
  (hn:Walk c all chk os (zao (pg++opF x (.gv id xs)) [] [] ⟨some (d,.d (.i xs.length)),[]⟩::recs) ⟨(d,.d (.i xs.length))::env,hp⟩ Q):
  Walk c all chk (⟨some d,.call ⟨.builtin .len,#[x],#[at_]⟩,ty,pos,af,g⟩::os) recs ⟨env,hp⟩ Q:=
 xa9 hg hd hx (fun a G T w h=>⟨.int .i64 xs.length,by
  obtain⟨⟨ad,cap,he⟩,_⟩:=h.gv_inv;simp[execOp,resolve,invoke,builtin,he,zff ht],.d (.int _ _)⟩) hn
theorem Walk.mkRowGV {op:Op}{xs:List Operand}{vs:List AV}{es:List (List D)}{k:Nat} (id:Nat) (hg:GH all env g pg) (hd:Nat.blt d c.n=true) (hx:opdL env xs=some vs) (hk:∀e,e∈es->e.length=k)
  (hf:zax env hp [id]=true)
  (h:∀(a:Act) (G:Gh) (T:TokF) (w:World),(vs.length=xs.length/\∀i (hi:i<vs.length) (hx:i<xs.length),RelA G T w vs[i] (a.eval xs[i]))->
   ∃us e,(execOp a.eval ⟨some d,op,ty,pos,af,g⟩).run c.P w = .ok (.value (.slice (some ⟨w.heap.size,0,none⟩) es.length es.length)) (w.alloc (.cells us e))/\us.size=es.length*k/\
    ∀i (hi:i<es.length) j (hj:j<es[i].length) (hu:i*k+j<us.size),RelD G.F w es[i][j] us[i*k+j])
  (hn:Walk c all chk os (zao (pg++opFL xs vs) [] [id] ⟨some (d,.gv id es),[(id,some (.tok es.length k))]⟩::recs) ⟨(d,.gv id es)::env,(id,some (.tok es.length k))::hp⟩ Q):
  Walk c all chk (⟨some d,op,ty,pos,af,g⟩::os) recs ⟨env,hp⟩ Q:=by
 refine⟨pg++opFL xs vs,[],[id],_, ?_,zaz hg.facts (zcH hx),by simp,zbx hf,hn⟩;intro s a w hrel hp' hh hcr K Q' hK;obtain⟨G,hr⟩:=hrel;obtain⟨h0,hocc⟩:=hcr id (by simp);obtain⟨us,e,e1,e2,e3⟩:=h a G (tokf s.hp) w (zdI hr (zcI hx (fun p hm=>hp' p (by simp[hm]))));have hr':=(hr.alloc (.cells us e) 0).rename h0 hocc [w.heap.size];have hloc:∀i,i≠id->(bif Nat.beq i id then [w.heap.size] else G.loc i)=G.loc i:=fun i h=>by
  cases hb:Nat.beq i id with
  |true=>exact absurd (Nat.eq_of_beq_eq_true hb) h
  |false=>rfl
 have hR:=hr'.name (r:= .tok es.length k) h0 hocc (fun b hb=>by simp at hb;subst hb;simp) (fun i hi b hb=>by
  have hi':i≠id:=fun e=>by subst e;rw[h0] at hi;cases hi
  have hb':b∈G.loc i:=by have:=hloc i hi';simp only[this] at hb;exact hb
  obtain⟨r,hrr⟩:=Option.isSome_iff_exists.1 hi;have hlt:b<w.heap.size:=(hr.heap i r hrr).bound b hb';simp;omega) (fun b hb=>by
  simp at hb;subst hb;exact .inr hr.frm.size)
 unfold wpO;rw[if_pos (hg.gf.wanted hr (fun p hm=>hp' p (by simp[hm])))];unfold Oper.wp;rw[e1,Oper.upon_value];refine hK _ _ ⟨_,hR.put (v:= .gv id es) (.gv ⟨_,_,rfl⟩ (fun n k' hT=>?_)) hd⟩;have:=zaw.1 hT;have h2:getH ((id,some (Res.tok es.length k))::s.hp) id=some (.tok n k'):=this;rw[zak,if_pos rfl] at h2;cases h2
 refine⟨Nat.le_refl _,fun _=>⟨hk,.inr ⟨w.heap.size,es.length,us,e,by simp,rfl,by simp,zeD,by rw[e2];exact Nat.le_refl _,Nat.le_refl _,fun i hi j hj=>?_⟩⟩⟩;have hjk:j<k:=by rw[<-hk _ (List.getElem_mem hi)];exact hj
 have hlt:i*k+j<us.size:=by
  have:(i+1)*k<=es.length*k:=Nat.mul_le_mul_right _ (by omega);rw[Nat.add_mul] at this;omega
 have h4:=e3 i hi j hj hlt;have h5:us.getD (i*k+j) undef=us[i*k+j]:=by simp[Array.getD,hlt]
 rw[h5];refine h4.mono (fun b o ho=>?_);have hb:b<w.heap.size:=by
  rcases Nat.lt_or_ge b w.heap.size with h|h
  ·exact h
  ·rw[hr.top b h] at ho;omega
 have:Nat.beq b w.heap.size=false:=by
  cases h:Nat.beq b w.heap.size with
  |true=>have:=Nat.eq_of_beq_eq_true h;omega
  |false=>rfl
 exact⟨by simpa [this] using ho,World.cell?_alloc_lt w _ _ hb⟩
theorem zgj {P:Program}{op:BinOp}{t:TypeId}{x y:Operand}{a:Option Addr}{n c:Nat}{w:World}:(eqGuard op t x y (.slice a n c) (.slice none 0 0)).run P w = .ok () w:=by
 cases op<;>rfl
theorem xaR {e k yb:Nat} (ht:SlT c.P t e k yb) (hg:GH all env g pg) (hd:Nat.blt d c.n=true) (hx:opd env x=some .nils)
  (hn:Walk c all chk os (zao (pg++opF x .nils) [] [] ⟨some (d,.d (.bool true)),[]⟩::recs) ⟨(d,.d (.bool true))::env,hp⟩ Q):
  Walk c all chk (⟨some d,.binOp .eql t x (.const (.slice none 0 0)) yt,ty,pos,af,g⟩::os) recs ⟨env,hp⟩ Q:=
 xa9 hg hd hx (fun a G T w h=>⟨.bool true,by
  have hv:a.eval x = .slice none 0 0:=by
   generalize a.eval x=v at *;cases h;rfl
  have hcn:a.eval (.const (.slice none 0 0)) = .slice none 0 0:=rfl;simp only[execOp,hv,hcn];simp only[Sem.run_bind,zgj,Result.andThen_ok,run_eql_slice_nil w t e none 0 0 ht.und,Sem.run_pure,Option.isNone_none],.d (.bool _)⟩) hn
theorem xaQ {xs:List (List D)}{e k yb:Nat} (ht:SlT c.P t e k yb) (hg:GH all env g pg) (hd:Nat.blt d c.n=true) (hx:opd env x=some (.sn xs))
  (hn:Walk c all chk os (zao (pg++opF x (.sn xs)) [] [] ⟨some (d,.d (.bool false)),[]⟩::recs) ⟨(d,.d (.bool false))::env,hp⟩ Q):
  Walk c all chk (⟨some d,.binOp .eql t x (.const (.slice none 0 0)) yt,ty,pos,af,g⟩::os) recs ⟨env,hp⟩ Q:=
 xa9 hg hd hx (fun a G T w h=>⟨.bool false,by
  obtain⟨ad,n,cp,hv⟩:∃ad n cp,a.eval x = .slice (some ad) n cp:=by
   generalize a.eval x=v at *;cases h with|sn h hn=>exact hn
  have hcn:a.eval (.const (.slice none 0 0)) = .slice none 0 0:=rfl;simp only[execOp,hv,hcn];simp only[Sem.run_bind,zgj,Result.andThen_ok,run_eql_slice_nil w t e (some ad) n cp ht.und,Sem.run_pure,Option.isNone_some],.d (.bool _)⟩) hn
theorem xam {K:Kt}{code:Code} (i:Nat){xs:List (List D)} (h:getE env i=some (.d (.sl xs)))
  (h1:xs=[]->CWp c code ⟨(i,.nils)::env,hp⟩ K) (h2:CWp c code ⟨(i,.sn xs)::env,hp⟩ K):CWp c code ⟨env,hp⟩ K:=by
 intro a w hrel;obtain⟨G,hr⟩:=hrel;have base:∀v,RelA G (tokf hp) w v (a.tmps.getD i undef)->Rel c ⟨(i,v)::env,hp⟩ a w:=fun v hv=>
  ⟨G,hr.size,hr.defers,fun j x hj=>by
   simp only[getE] at hj;cases hti:Nat.beq i j with
   |true=>
    have:=Nat.eq_of_beq_eq_true hti;subst this;simp only[hti,cond_true,Option.some.injEq] at hj;subst hj;exact hv
   |false=>
    simp only[hti,cond_false] at hj;exact hr.slots j x hj,hr.heap,hr.disj,hr.new,hr.frm,hr.top,hr.kept⟩
 have hd:=(hr.slots i _ h).d_inv;generalize hv:a.tmps.getD i undef=v at hd base;cases hd with
 |nil=>exact h1 rfl a w (base _ .nils)
 |emp b off s cap=>exact h2 a w (base _ (.sn (.emp b off s cap) ⟨_,_,_,rfl⟩))
 |sl _ k b off cap cf hk hcap hc hr=>exact h2 a w (base _ (.sn (.sl _ k b off cap cf hk hcap hc hr) ⟨_,_,_,rfl⟩))
theorem xbh {t:TypeId}{e k yb:Nat} (id:Nat) (ht:SlT c.P t e k yb) (hg:GH all env g pg) (hd:Nat.blt d c.n=true) (hfr:zax env hp [id]=true)
  (hn:Walk c all chk os (zao (pg++opFL [] []) [] [id] ⟨some (d,.gv id []),[(id,some (.tok 0 k))]⟩::recs) ⟨(d,.gv id [])::env,(id,some (.tok 0 k))::hp⟩ Q):
  Walk c all chk (⟨some d,.buildSlice t 0 #[],ty,pos,af,g⟩::os) recs ⟨env,hp⟩ Q:=by
 refine Walk.mkRowGV (xs:=[]) (vs:=[]) (es:=[]) (k:=k) id hg hd rfl (by simp) hfr (fun a G T w h=>?_) hn;obtain⟨ie,hi1,hi2,hi3⟩:=ht.inf;refine⟨#[],e, ?_,by simp,fun i hi=>by simp at hi⟩;simp[execOp,Instr.buildSlice,run_underlying ht.und,sizeOf,zfi hi1,Instr.fill,newRow,Array.range_zero']
end
def Res.avs:Res->List AV
 | .box cs=>cs
 | .tree cs=>cs
 |_=>[]
theorem Res.avs_ids {r:Res}{x:AV} (hx:x∈r.avs):∀id,id∈x.ids->id∈r.ids:=by
 intro id hid;cases r with
 |box cs=>exact xaj hx hid
 |tree cs=>exact xaj hx hid
 |_=>simp[Res.avs] at hx
structure Turn (c:Ctx) (G:Gh) (s:St) (w:World) (G':Gh) (hp':Hp) (L:List Nat):Prop where
 get:∀i,i∉L->getH hp' i=getH s.hp i
 loc:∀i,i∉L->G'.loc i=G.loc i
 fro:∀b,(∀j,j∈L->(getH s.hp j).isSome->b∉G.loc j)->G'.F b=G.F b
 fle:∀b o,o<G.F b->o<G'.F b
 ftop:∀b,w.heap.size<=b->G'.F b=0
 occ:∀i,i∈L->zda i s\/(LocEq (tokf hp') G' G i/\∀p,tokf hp' i=some p->tokf s.hp i=some p/\∀b,b∈G.loc i->G'.F b=G.F b)
 blk:∀i,i∈L->(getH hp' i).isSome->∀b,b∈G'.loc i->∃j,j∈L/\(getH s.hp j).isSome/\b∈G.loc j
 dis:∀i,i∈L->∀j,j∈L->i≠j->(getH hp' i).isSome->(getH hp' j).isSome->∀b,b∈G'.loc i->b∉G'.loc j
 keep:∀i,i∈L->∀l,c.kept i=some l->(G'.loc i).head?=l.head?/\(getH hp' i).isSome/\tokf hp' i=none
section
variable {c:Ctx}{G G':Gh}{s:St}{a:Act}{w:World}{hp':Hp}{L:List Nat}
theorem Turn.away (h:Turn c G s w G' hp' L) (hr:R c G s a w){i:Nat} (hi:i∉L) (hs:(getH s.hp i).isSome):∀b,b∈G.loc i->G'.F b=G.F b:=
 fun b hb=>h.fro b (fun j hj hjs hbj=>hr.disj i j hs hjs (fun e=>hi (e ▸ hj)) b hb hbj)
theorem Turn.rel (h:Turn c G s w G' hp' L) (hr:R c G s a w){x:AV}{v:Value} (hx:∀i,i∈L->zda i s->i∉x.ids) (hR:RelA G (tokf s.hp) w x v):RelA G' (tokf hp') w x v:=by
 refine hR.mono (fun b o ho=>⟨h.fle b o ho,rfl⟩) (fun i hi=>?_) (fun i hi p hp=>?_)
 ·by_cases hL:i∈L
  ·rcases h.occ i hL with ho|ho
   ·exact absurd hi (hx i hL ho)
   ·exact ho.1
  ·exact .inl (h.loc i hL)
 ·by_cases hL:i∈L
  ·rcases h.occ i hL with ho|ho
   ·exact absurd hi (hx i hL ho)
   ·obtain⟨h1,h2⟩:=ho.2 p hp;exact⟨h1,fun b hb=>⟨rfl,h2 b hb⟩⟩
  ·have hT:tokf s.hp i=some p:=by unfold tokf at hp ⊢;rw[h.get i hL] at hp;exact hp
   refine⟨hT,fun b hb=>⟨rfl,h.away hr hL ?_ b hb⟩⟩;obtain⟨n,k⟩:=p;rw[zaw.1 hT];rfl
theorem Turn.slot (h:Turn c G s w G' hp' L) (hr:R c G s a w){t:Nat}{x:AV}{v:Value} (ht:getE s.env t=some x) (hR:RelA G (tokf s.hp) w x v):RelA G' (tokf hp') w x v:=
 h.rel hr (fun i _ ho hx=>ho.1 t x ht hx) hR
theorem Turn.cell (h:Turn c G s w G' hp' L) (hr:R c G s a w){j:Nat}{r:Res}{x:AV}{v:Value} (hj:getH s.hp j=some r) (hx:x∈r.avs) (hR:RelA G (tokf s.hp) w x v):RelA G' (tokf hp') w x v:=
 h.rel hr (fun i _ ho hi=>ho.2 j r hj (Res.avs_ids hx i hi)) hR
theorem Turn.fin (h:Turn c G s w G' hp' L) (hr:R c G s a w) (hL:∀i,i∈L->∀r,getH hp' i=some r->RelR G' (tokf hp') w i r):R c G' ⟨s.env,hp'⟩ a w:=by
 have hsome:∀i,i∉L->(getH hp' i).isSome->(getH s.hp i).isSome:=fun i hi hs=>by rw[h.get i hi] at hs;exact hs
 let own1:List Nat:=L.flatMap fun j=>if (getH s.hp j).isSome then G.loc j else []
 have hown:∀b,b∈own1↔∃j,j∈L/\(getH s.hp j).isSome/\b∈G.loc j:=fun b=>by
  simp only[own1,List.mem_flatMap];constructor
  ·rintro ⟨j,hj,hb⟩
   by_cases hs:(getH s.hp j).isSome
   ·rw[if_pos hs] at hb;exact⟨j,hj,hs,hb⟩
   ·rw[if_neg hs] at hb;simp at hb
  ·rintro ⟨j,hj,hs,hb⟩
   exact⟨j,hj,by rw[if_pos hs];exact hb⟩
 refine⟨hr.size,hr.defers,fun i v hi=>h.slot hr hi (hr.slots i v hi),fun i r hi=>?_,fun i j h1 h2 hne b hb=>?_,fun i h1 b hb=>?_,
  hr.frm.trans (own1:=own1) ⟨rfl,rfl,rfl,Nat.le_refl _,fun b _ hb=>⟨rfl,h.fro b (fun j hj hs hbj=>hb ((hown b).2 ⟨j,hj,hs,hbj⟩))⟩,fun b o ho=>⟨h.fle b o ho,rfl⟩⟩ (fun b hb=>?_),h.ftop,fun i l hl=>?_⟩
 ·by_cases hi':i∈L
  ·exact hL i hi' r hi
  ·have hg:getH s.hp i=some r:=by have:=h.get i hi';rw[<-this];exact hi
   have hh:=hr.heap i r hg;have hs:(getH s.hp i).isSome:=by rw[hg];rfl
   have hl:=h.loc i hi';have ha:=h.away hr hi' hs;cases r with
   |box cs=>
    obtain⟨b,vs,e,h1,h2,h3,h4,h5⟩:=hh;exact⟨b,vs,e,hl.trans h1,h2,h3,(ha b (by simp[h1])).trans h4,fun j hj hv=>h.cell hr hg (List.getElem_mem hj) (h5 j hj hv)⟩
   |tok n k=>exact fun b hb=>hh b (by rw[hl] at hb;exact hb)
   |map ks=>
    obtain⟨b,es,cl,h1,h2,h3,h4⟩:=hh;exact⟨b,es,cl,hl.trans h1,h2,(ha b (by simp[h1])).trans h3,h4⟩
   |tree cs=>exact zbr hh hl (fun b hb=>⟨rfl,ha b hb⟩) (Nat.le_refl _) (fun x hx v=>h.cell hr hg hx)
 ·have key:∀i j,i∈L->j∉L->(getH hp' i).isSome->(getH hp' j).isSome->∀b,b∈G'.loc i->b∉G'.loc j:=fun i j hi hj h1 h2 b hb hbj=>by
   obtain⟨i2,h3,h4,h5⟩:=h.blk i hi h1 b hb;rw[h.loc j hj] at hbj;exact hr.disj i2 j h4 (hsome j hj h2) (fun e=>hj (e ▸ h3)) b h5 hbj
  by_cases hi:i∈L<;>by_cases hj:j∈L
  ·exact h.dis i hi j hj hne h1 h2 b hb
  ·exact key i j hi hj h1 h2 b hb
  ·exact fun hbj=>key j i hj hi h2 h1 b hbj hb
  ·rw[h.loc i hi] at hb;rw[h.loc j hj];exact hr.disj i j (hsome i hi h1) (hsome j hj h2) hne b hb
 ·by_cases hi:i∈L
  ·obtain⟨j,h3,h4,h5⟩:=h.blk i hi h1 b hb;exact hr.new j h4 b h5
  ·rw[h.loc i hi] at hb;exact hr.new i (hsome i hi h1) b hb
 ·obtain⟨j,h3,h4,h5⟩:=(hown b).1 hb;exact hr.new j h4 b h5
 ·by_cases hi:i∈L
  ·exact h.keep i hi l hl
  ·have hk:=hr.kept i l hl;refine⟨by rw[h.loc i hi];exact hk.1,by rw[h.get i hi];exact hk.2.1, ?_⟩;have:=hk.2.2;unfold tokf at this ⊢;rw[h.get i hi];exact this
theorem R.slot (hr:R c G s a w){t:Nat}{x:AV} (h:RelA G (tokf s.hp) w x (a.tmps.getD t undef)):R c G ⟨(t,x)::s.env,s.hp⟩ a w:=by
 refine⟨hr.size,hr.defers,fun i v hi=>?_,hr.heap,hr.disj,hr.new,hr.frm,hr.top,hr.kept⟩;simp only[getE] at hi;cases hb:Nat.beq t i with
 |true=>
  have:=Nat.eq_of_beq_eq_true hb;subst this;simp only[hb,cond_true,Option.some.injEq] at hi;subst hi;exact h
 |false=>
  simp only[hb,cond_false] at hi;exact hr.slots i v hi
end
def ownD (m:Bool):D->AV
 | .int k n=> .d (.int k n)
 | .bool b=> .d (.bool b)
 | .str s=> .d (.str s)
 |x=> .own m x
def zbN (m:Bool) (xs:List (List D)):List AV:=xs.flatten.map (ownD m)
theorem zuB (m:Bool) (x:D):(ownD m x).ids=[]:=by cases x<;>rfl
theorem zai (m:Bool) (xs:List (List D)):AV.idsL (zbN m xs)=[]:=by
 unfold zbN;generalize xs.flatten=l;induction l with
 |nil=>rfl
 |cons x l ih=>simp[AV.idsL,zuB,ih]
theorem zg6 {m:Bool}{xs:List (List D)}{k:Nat} (hk:∀x,x∈xs->x.length=k):(zbN m xs).length=xs.length*k:=by
 unfold zbN;rw[xac,zdD hk]
theorem zq3 {m:Bool}{xs:List (List D)}{k i j:Nat} (hk:∀x,x∈xs->x.length=k) (hi:i<xs.length) (hj:j<xs[i].length):
  (zbN m xs)[i*k+j]?=some (ownD m xs[i][j]):=by
 have hjk:j<k:=by rw[<-hk _ (List.getElem_mem hi)];exact hj
 have:=zhn (xs:=xs) hk hi hjk;simp only[zbN,List.getElem?_map] at this ⊢;revert this
 cases xs.flatten[i*k+j]? with
 |none=>simp
 |some y=>intro h;simp only[Option.map_some,Option.some.injEq,AV.d.injEq] at h;simp[h]
theorem CellR.ofTree {G:Gh}{T:TokF}{m:Bool}{w:World}{x:D}{v:Value}{S:List Nat} (h:TreeD m w x v S):CellR G T w (ownD m x) v S:=by
 cases h with
 |int k n=>exact⟨rfl,.d (.int _ _)⟩
 |bool b=>exact⟨rfl,.d (.bool _)⟩
 |str s=>exact⟨rfl,.d (.str _)⟩
 |nil=>exact TreeD.nil
 |emp b off s cap hm=>exact TreeD.emp b off s cap hm
 |em0 b off cap hm=>exact TreeD.em0 b off cap hm
 |sl xs k b cap cs e Ss hk hcap hb hc hr hz=>exact TreeD.sl xs k b cap cs e Ss hk hcap hb hc hr hz
def zl5:D->Bool
 | .int _ _=>true
 | .bool _=>true
 | .str _=>true
 | .sl []=>true
 |_=>false
theorem TreeD.ofFlat {m:Bool}{F:Nat->Nat}{w:World}{x:D}{v:Value} (hf:zl5 x=true) (hm:m=false\/x≠ .sl []) (h:RelD F w x v):TreeD m w x v []:=by
 cases h with
 |int k n=>exact .int _ _
 |bool b=>exact .bool _
 |str s=>exact .str _
 |nil=>exact .nil
 |emp b off s cap=>exact .emp b off s cap (hm.resolve_right (fun h=>h rfl))
 |sl xs k b off cap c hk hcap hc hr=>
  cases xs with
  |nil=>exact .em0 b off cap (hm.resolve_right (fun h=>h rfl))
  |cons x r=>simp[zl5] at hf
 |ptr cs b o off c hc hr=>simp[zl5] at hf
 |nilp=>simp[zl5] at hf
theorem TreeD.weak {m:Bool}{w:World}{x:D}{v:Value}{S:List Nat} (h:TreeD m w x v S):TreeD false w x v S:=by
 induction h with
 |int k n=>exact .int _ _
 |bool b=>exact .bool _
 |str s=>exact .str _
 |nil=>exact .nil
 |emp b off s cap _=>exact .emp b off s cap rfl
 |em0 b off cap _=>exact .em0 b off cap rfl
 |sl xs k b cap cs e Ss hk hcap hb hc hr hz ih=>
  refine .sl xs k b cap cs e Ss hk hcap hb ?_ ih (fun h=>by cases h);refine Nat.le_trans (Nat.mul_le_mul_right _ ?_) hc;cases m
  ·exact Nat.le_refl _
  ·exact hcap
def TreeOf (m:Bool) (w:World) (xs:List (List D)) (k:Nat) (vs:Array Value) (Ss:Nat->List Nat):Prop:=
 ∀i (hi:i<xs.length) j (hj:j<xs[i].length),TreeD m w xs[i][j] (vs.getD (i*k+j) undef) (Ss (i*k+j))
theorem ztg {i n k:Nat} (h:i<n*k):i / k<n/\i % k<k/\i / k*k+i % k=i:=by
 have hk:0<k:=by
  rcases Nat.eq_zero_or_pos k with h0|h0
  ·subst h0;simp at h
  ·exact h0
 exact⟨Nat.div_lt_of_lt_mul (by rw[Nat.mul_comm];exact h),Nat.mod_lt _ hk,Nat.div_add_mod' _ _⟩
theorem zvN {vs:Array Value}{i:Nat} (h:i<vs.size):vs.getD i undef=vs[i]:=by simp[Array.getD,h]
theorem TreeOf.cells {G:Gh}{T:TokF}{m:Bool}{w:World}{xs:List (List D)}{k:Nat}{vs:Array Value}{Ss:Nat->List Nat} (h:TreeOf m w xs k vs Ss) (hk:∀x,x∈xs->x.length=k):
  ∀i (hi:i<(zbN m xs).length) (hv:i<vs.size),CellR G T w (zbN m xs)[i] vs[i] (Ss i):=by
 intro i hi hv;rw[zg6 hk] at hi;obtain⟨h1,h2,h3⟩:=ztg hi;have hj:i % k<xs[i / k].length:=by rw[hk _ (List.getElem_mem h1)];exact h2
 have h4:=h (i / k) h1 (i % k) hj;have h5:=zq3 (m:=m) hk h1 hj;rw[h3] at h4 h5;rw[List.getElem?_eq_getElem (by rw[zg6 hk];exact hi)] at h5;rw[zvN hv] at h4;rw[Option.some.inj h5];exact .ofTree h4
theorem zgi {Ss Ss':Nat->List Nat}:∀ {l:List Nat},(l.flatMap Ss).Nodup->(∀i,i∈l->(Ss' i).Sublist (Ss i))->((l.flatMap Ss').Sublist (l.flatMap Ss))
 | [],_,_=> .slnil
 |x::l,h,hs=>by
  simp only[List.flatMap_cons] at h ⊢;exact(hs x (by simp)).append (zgi (List.nodup_append.1 h).2.1 (fun i hi=>hs i (by simp[hi])))
theorem zi0 {Ss:Nat->List Nat}:∀ {l:List Nat} (hl:l.Nodup),(l.flatMap Ss).Nodup->∀i j,i∈l->j∈l->i≠j->∀b,b∈Ss i->b∉Ss j
 | [],_,_,i,j,hi,_,_=>by simp at hi
 |x::l,hl,h,i,j,hi,hj,hne=>by
  simp only[List.flatMap_cons,List.nodup_append,List.mem_flatMap] at h;obtain⟨h1,h2,h3⟩:=h;intro b hb hbj;rcases List.mem_cons.1 hi with e1|e1
  ·rcases List.mem_cons.1 hj with e2|e2
   ·exact hne (e1.trans e2.symm)
   ·exact h3 b (e1 ▸ hb) b ⟨j,e2,hbj⟩ rfl
  ·rcases List.mem_cons.1 hj with e2|e2
   ·exact h3 b (e2 ▸ hbj) b ⟨i,e1,hb⟩ rfl
   ·exact zi0 (List.nodup_cons.1 hl).2 h2 i j e1 e2 hne b hb hbj
theorem zmD {Ss:Nat->List Nat}:∀ {l:List Nat},(l.flatMap Ss).Nodup->∀i,i∈l->(Ss i).Nodup
 |x::l,h,i,hi=>by
  simp only[List.flatMap_cons,List.nodup_append] at h;rcases List.mem_cons.1 hi with rfl|hi
  ·exact h.1
  ·exact zmD h.2.1 i hi
section
variable {c:Ctx}{env:Env}{hp:Hp}{K:Kt}{code:Code}{ids:List Nat}
theorem zer {i j:Nat} (h:i≠j):Nat.beq i j=false:=by
 cases hb:Nat.beq i j with
 |true=>exact absurd (Nat.eq_of_beq_eq_true hb) h
 |false=>rfl
theorem R.split {G:Gh}{a:Act}{w:World} (hr:R c G ⟨env,hp⟩ a w){id off id':Nat}{m:Bool}{xs:List (List D)}{cs cs':List AV} (hb:getH hp id=some (.tree cs)) (hc:cs[off]?=some (.own m (.sl xs))) (hx:xs≠[])
  (hf:zax env hp [id']=true) (hput:putC cs off [.ms id' xs.length]=some cs'):∃G',R c G' ⟨env,(id',some (.tree (zbN m xs)))::(id,some (.tree cs'))::hp⟩ a w:=by
 obtain⟨h0,hocc⟩:=zbx hf id' (by simp);obtain⟨b,vs,e,Ss,hT⟩:=hr.heap id _ hb;obtain⟨hoff,hcv⟩:=List.getElem?_eq_some_iff.1 hc;have hov:off<vs.size:=by have:=hT.len;omega
 have hcell:=hT.cell off hoff hov;rw[hcv] at hcell;have hne:id≠id':=fun e=>by subst e;have h0':getH hp id=none:=h0;rw[h0'] at hb;cases hb
 obtain⟨p1,p2,p3⟩:=zdc hput;have hTD:TreeD m w (.sl xs) vs[off] (Ss off):=hcell;generalize hv:vs[off]=v at hTD;generalize hSo:Ss off=So at hTD;cases hTD with
 |nil=>exact absurd rfl hx
 |emp _ _ _ _ _=>exact absurd rfl hx
 |em0 _ _ _ _=>exact absurd rfl hx
 |sl _ k b1 cap cs1 e1 Ss1 hk hcap hb1 hc1 hr1 hz1=>
  let Ss':Nat->List Nat:=fun i=>if i=off then [] else Ss i
  let G':Gh:={ G with loc:=fun i=>bif Nat.beq i id' then Ss off else bif Nat.beq i id then b::(List.range cs'.length).flatMap Ss' else G.loc i }
  have l1:G'.loc id'=Ss off:=by simp[G']
  have l2:G'.loc id=b::(List.range cs'.length).flatMap Ss':=by simp[G',zer hne]
  have l3:∀i,i≠id'->i≠id->G'.loc i=G.loc i:=fun i h1 h2=>by simp[G',zer h1,zer h2]
  have hnd:=hT.nodup;rw[hT.loc] at hnd;have hnd':=List.nodup_cons.1 hnd;have hsubS:∀x,x∈Ss off->x∈G.loc id:=fun x hx=>by
   rw[hT.loc];exact List.mem_cons_of_mem _ (List.mem_flatMap.2 ⟨off,List.mem_range.2 hoff,hx⟩)
  have hsubl:((List.range cs'.length).flatMap Ss').Sublist ((List.range cs.length).flatMap Ss):=by
   rw[p1];refine zgi hnd'.2 (fun i hi=>?_);simp only[Ss'];split
   ·exact List.nil_sublist _
   ·exact List.Sublist.refl _
  have hsub2:∀x,x∈G'.loc id->x∈G.loc id:=fun x hx=>by
   rw[l2] at hx;rw[hT.loc];rcases List.mem_cons.1 hx with h|h
   ·simp[h]
   ·exact List.mem_cons_of_mem _ (hsubl.subset h)
  have g1:getH ((id',some (Res.tree (zbN m xs)))::(id,some (.tree cs'))::hp) id'=some (.tree (zbN m xs)):=by rw[zak,if_pos rfl]
  have g2:getH ((id',some (Res.tree (zbN m xs)))::(id,some (.tree cs'))::hp) id=some (.tree cs'):=by rw[zak,if_neg hne,zak,if_pos rfl]
  have hturn:Turn c G ⟨env,hp⟩ w G' ((id',some (.tree (zbN m xs)))::(id,some (.tree cs'))::hp) [id,id']:=by
   refine⟨fun i hi=>?_,fun i hi=>?_,fun _ _=>rfl,fun _ _ h=>h,hr.top,fun i hi=>?_,fun i hi hs x hx=>?_,fun i hi j hj hij _ _ x hx=>?_,fun i hi l hl=>?_⟩
   ·simp only[List.mem_cons,List.not_mem_nil,or_false,not_or] at hi;rw[zak,if_neg hi.2,zak,if_neg hi.1]
   ·simp only[List.mem_cons,List.not_mem_nil,or_false,not_or] at hi;exact l3 i hi.2 hi.1
   ·simp only[List.mem_cons,List.not_mem_nil,or_false] at hi;rcases hi with rfl|rfl
    ·right
     have ht:tokf ((id',some (Res.tree (zbN m xs)))::(i,some (.tree cs'))::hp) i=none:=by unfold tokf;rw[g2]
     refine⟨.inr ⟨ht,by rw[l2,hT.loc];rfl⟩,fun p hp=>by rw[ht] at hp;cases hp⟩
    ·exact .inl hocc
   ·simp only[List.mem_cons,List.not_mem_nil,or_false] at hi;have hs':(getH hp id).isSome:=by rw[hb];rfl
    rcases hi with rfl|rfl
    ·exact⟨i,by simp,hs',hsub2 x hx⟩
    ·rw[l1] at hx;exact⟨id,by simp,hs',hsubS x hx⟩
   ·simp only[List.mem_cons,List.not_mem_nil,or_false] at hi hj;have key:∀x,x∈Ss off->x∉G'.loc id:=by
     intro x hx hx2;rw[l2] at hx2;rcases List.mem_cons.1 hx2 with h|h
     ·exact hnd'.1 (List.mem_flatMap.2 ⟨off,List.mem_range.2 hoff,h ▸ hx⟩)
     ·obtain⟨j,hj,hxj⟩:=List.mem_flatMap.1 h;simp only[Ss'] at hxj;split at hxj
      ·simp at hxj
      ·rename_i hjo;exact zi0 List.nodup_range hnd'.2 off j (List.mem_range.2 hoff) (by rw[p1] at hj;exact hj) (Ne.symm hjo) x hx hxj
    rcases hi with rfl|rfl<;>rcases hj with rfl|rfl
    ·exact absurd rfl hij
    ·rw[l1];exact fun h=>key x h hx
    ·rw[l1] at hx;exact key x hx
    ·exact absurd rfl hij
   ·simp only[List.mem_cons,List.not_mem_nil,or_false] at hi;have hk0:=hr.kept i l hl;rcases hi with rfl|rfl
    ·refine⟨?_,by rw[g2];rfl,by unfold tokf;rw[g2]⟩;rw[l2,<-hk0.1,hT.loc];rfl
    ·have h0':getH hp i=none:=h0;have:=hk0.2.1;rw[show(⟨env,hp⟩:St).hp=hp from rfl,h0'] at this;cases this
  refine⟨G',hturn.fin hr (fun i hi r hri=>?_)⟩;simp only[List.mem_cons,List.not_mem_nil,or_false] at hi;rcases hi with rfl|rfl
  ·rw[g2] at hri;cases hri
   refine⟨b,vs,e,Ss',l2,hT.at_,by rw[p1];exact hT.len, ?_,fun x hx=>hT.mine x (hsub2 x hx),fun j hj hjv=>?_⟩
   ·rw[l2];exact List.nodup_cons.2 ⟨fun h=>hnd'.1 (hsubl.subset h),hsubl.nodup hnd'.2⟩
   ·have h3:=p3 j;rw[List.getElem?_eq_getElem hj] at h3;by_cases hjo:j=off
    ·subst hjo;rw[if_pos (by simp)] at h3;simp only[Nat.sub_self,List.getElem?_cons_zero,Option.some.injEq] at h3;rw[h3,hv];refine⟨by simp[Ss'],.ms (b:=b1) ?_ ?_ hcap⟩
     ·rw[l1,hSo];rfl
     ·unfold tokf;rw[g1]
    ·rw[if_neg (by simp only[xab,xai];omega)] at h3;have hjc:j<cs.length:=by omega
     rw[List.getElem?_eq_getElem hjc] at h3;rw[Option.some.inj h3];have h4:=hT.cell j hjc hjv;have h5:Ss' j=Ss j:=by simp[Ss',hjo]
     rw[h5];exact h4.map (hturn.cell hr hb (List.getElem_mem hjc)) (fun _ _=>rfl)
  ·rw[g1] at hri;cases hri
   have hlen:(zbN m xs).length=xs.length*k:=zg6 hk;have hle:xs.length*k<=cs1.size:=by
    refine Nat.le_trans (Nat.mul_le_mul_right _ ?_) hc1;cases m
    ·exact Nat.le_refl _
    ·exact hcap
   refine⟨b1,cs1,e1,Ss1,by rw[l1,hSo,hlen],hb1,by rw[hlen];exact hle, ?_,fun x hx=>?_,TreeOf.cells hr1 hk⟩
   ·rw[l1];exact zmD hnd'.2 off (List.mem_range.2 hoff)
   ·rw[l1] at hx;exact hT.mine x (hsubS x hx)
theorem CWp.split (id off id':Nat){m:Bool}{xs:List (List D)}{cs cs':List AV} (hb:getH hp id=some (.tree cs)) (hc:cs[off]?=some (.own m (.sl xs))) (hx:xs≠[])
  (hf:zax env hp [id']=true) (hput:putC cs off [.ms id' xs.length]=some cs')
  (hn:CWp c code ⟨env,(id',some (.tree (zbN m xs)))::(id,some (.tree cs'))::hp⟩ K):CWp c code ⟨env,hp⟩ K:=by
 rintro a w ⟨G,hr⟩
 obtain⟨G',h⟩:=hr.split hb hc hx hf hput;exact hn a w ⟨G',h⟩
def upC (m:Bool):AV->AV
 | .d (.sl [])=> .own m (.sl [])
 | .nils=> .own m (.sl [])
 |x=>x
end
section
variable {c:Ctx}{all:Array Oper}{chk:List Rec->Prop}{os:List Oper}{recs:List Rec}{env:Env}{hp:Hp}{Q:St->Prop}
variable {d ty:Nat}{pos:String}{af:Array Edge}{g:Option (Nat×Bool)}{pg:List (Nat×AV)}
variable {t k id off:Nat}{x y:Operand}
theorem TreeR.head {G:Gh}{T:TokF}{w:World}{id:Nat}{cs:List AV}{b b':Nat}{vs:Array Value}{e:TypeId}{Ss:Nat->List Nat} (h:TreeR G T w id cs b vs e Ss) (h2:(G.loc id).head?=some b'):b'=b:=by
 rw[h.loc] at h2;exact(Option.some.inj h2).symm
end
mutual
inductive Lent (lr:List (Nat×Res)):AV->AV->Prop
 |le {x y} (h:LeA x y):Lent lr x y
 |ms {id n m k}{xs:List (List D)} (hb:(id,.tree (zbN m xs))∈lr) (hk:∀x,x∈xs->x.length=k) (hn:n=xs.length):Lent lr (.ms id n) (.d (.sl xs))
 |agg {cs ds} (h:LentL lr cs ds):Lent lr (.agg cs) (.agg ds)
inductive LentL (lr:List (Nat×Res)):List AV->List AV->Prop
 |nil:LentL lr [] []
 |cons {x y l m} (h:Lent lr x y) (t:LentL lr l m):LentL lr (x::l) (y::m)
end
theorem LentL.len {lr:List (Nat×Res)}:∀ {cs ds:List AV},LentL lr cs ds->cs.length=ds.length
 | [],_,h=>by cases h;rfl
 |x::r,_,h=>by cases h with|cons h t=>simp[t.len]
theorem LentL.at {lr:List (Nat×Res)}:∀ {cs ds:List AV},LentL lr cs ds->∀i (hi:i<cs.length) (hj:i<ds.length),Lent lr cs[i] ds[i]
 | [],_,_,i,hi,_=>by simp at hi
 |x::r,_,h,i,hi,hj=>by
  cases h with
  |cons h t=>
   cases i with
   |zero=>exact h
   |succ i=>exact LentL.at t i (by simpa using hi) (by simpa using hj)
def zks:D->Bool
 | .int _ _=>true
 | .bool _=>true
 | .str _=>true
 |_=>false
theorem zmO {x:D} (h:zks x=true):zl5 x=true/\x≠ .sl []:=by
 cases x with
 |sl _=>simp[zks] at h
 |ptr _ _=>simp[zks] at h
 |nilp=>simp[zks] at h
 |_=>exact⟨rfl,fun h=>by cases h⟩
def FlatR (xs:List (List D)):Prop:=∀x,x∈xs->∀y,y∈x->zks y=true
theorem TipV.tree {G:Gh}{w:World}{id n k:Nat}{v:Value}{xs:List (List D)} (hf:FlatR xs) (hne:n≠0) (hk:∀x,x∈xs->x.length=k) (h:TipV G w id n k v xs):TipT G w id n k v xs:=by
 rcases h with ⟨h1,h2,h3⟩|⟨b,cap,cs,e,h1,h2,h3,h4,h5,h6,h7⟩
 ·exact .inl ⟨h1,h2,h3⟩
 ·refine .inr ⟨b,cap,cs,e,fun _=>[],by rw[h1];simp,h2,h4,h5,h6,by rw[h1];simp,fun b' hb'=>?_,fun i hi j hj=> .ofFlat (zmO (hf _ (List.getElem_mem hi) _ (List.getElem_mem hj))).1 (.inr (zmO (hf _ (List.getElem_mem hi) _ (List.getElem_mem hj))).2) (h7 i hi j hj),fun h=>absurd h hne⟩;rw[h1] at hb';simp only[List.mem_singleton] at hb';rw[hb'];exact h3
theorem zuF {α:Type}{o j:Nat}:∀ {A B B' vs:List α},A.length=o->putC B j vs=some B'->putC (A++B) (o+j) vs=some (A++B'):=by
 intro A B B' vs ha h;subst ha;induction A with
 |nil=>simpa using h
 |cons x r ih=>
  cases vs with
  |nil=>
   have e:B'=B:=by cases B<;>simp only[putC,Option.some.injEq] at h<;>exact h.symm
   subst e;simp[putC]
  |cons v vs=>
   have:(x::r).length+j=r.length+j+1:=by simp;omega
   rw[this];simp only[xag,putC,ih]
theorem zuh {α:Type}{o j k:Nat}:∀ {A B r:List α},A.length=o->cutC B j k=some r->cutC (A++B) (o+j) k=some r:=by
 intro A B r ha h;subst ha;cases k with
 |zero=>
  have e:r=[]:=by cases B<;>simp only[cutC,Option.some.injEq] at h<;>exact h.symm
  subst e;cases A++B<;>rfl
 |succ k=>
  induction A with
  |nil=>simpa using h
  |cons x t ih=>
   have:(x::t).length+j=t.length+j+1:=by simp;omega
   rw[this];simp only[xag,cutC];exact ih
theorem ztG {α:Type}{o:Nat}{A B B' vs:List α} (h1:A.length=o) (h2:putC B 0 vs=some B'):putC (A++B) o vs=some (A++B'):=zuF (j:=0) h1 h2
theorem ztc {α:Type}{o k:Nat}{A B r:List α} (h1:A.length=o) (h2:cutC B 0 k=some r):cutC (A++B) o k=some r:=zuh (j:=0) h1 h2
theorem zvF {α:Type}{x0 x1 x2 x3 x4 x5:α}{t:List α}:cutC (x0::x1::x2::x3::x4::x5::t) 0 6=some [x0,x1,x2,x3,x4,x5]:=by simp[cutC]
def SubO:List Nat->Hp->Hp->Prop
 |_,[],_=>True
 |seen,(i,r)::t,hp=>(za4 i seen=true\/getH hp i=r)/\SubO (i::seen) t hp
theorem SubO.get':∀ {l hp:Hp}{seen:List Nat},SubO seen l hp->∀id r,id∉seen->getH l id=some r->getH hp id=some r
 | [],hp,seen,_,id,r,_,h=>by cases h
 |(i,x)::t,hp,seen,h,id,r,hns,hg=>by
  rw[zak] at hg;by_cases hi:id=i
  ·subst hi;rw[if_pos rfl] at hg;rcases h.1 with h1|h1
   ·exact absurd (zaU.1 h1) hns
   ·rw[h1];exact hg
  ·rw[if_neg hi] at hg;exact SubO.get' h.2 id r (by simp[hi,hns]) hg
theorem SubO.get {l hp:Hp} (h:SubO [] l hp):HSub l hp:=fun id r hg=>SubO.get' h id r (by simp) hg
theorem HSub.over {i:Nat}{r r':Option Res}{hp:Hp} (h:getH hp i=r'):HSub ([(i,r')]++[(i,r)]) hp:=fun id x hx=>by
 have hx':getH ((i,r')::[(i,r)]) id=some x:=hx;rw[zak] at hx';by_cases hi:id=i
 ·subst hi;rw[if_pos rfl] at hx';rw[h];exact hx'
 ·rw[if_neg hi,zak,if_neg hi] at hx';cases hx'
theorem zaq (n:Nat) (zs:List AV):AV.idsL (zbb n zs)=(List.replicate n (AV.idsL zs)).flatten:=by
 induction n with
 |zero=>rfl
 |succ n ih=>simp only[zbb,zah,ih,List.replicate_succ,List.flatten_cons]
theorem zaJ (n:Nat):(List.replicate n ([]:List Nat)).flatten=[]:=by
 induction n with
 |zero=>rfl
 |succ n ih=>simp only[List.replicate_succ,List.flatten_cons,ih,List.nil_append]
theorem xas {id n n':Nat} (h:n=n'):LeA (.ms id n) (.ms id n'):=h ▸ .refl _
def mkL {α:Type} (one:Int->α->α) (sz:α->Int):Int->List α->List α
 |_,[]=>[]
 |k,x::r=>one k x::mkL one sz (k+sz x) r
def szL {α:Type} (sz:α->Int):List α->Int
 | []=>0
 |x::r=>sz x+szL sz r
def zhx:List (List D)->Option (List Int)
 | []=>some []
 | [.int .u8 n]::r=>match zhx r with|some l=>some (n::l)|none=>none
 |_=>none
theorem zmF:∀ {xs:List (List D)}{ns:List Int},zhx xs=some ns->xs=ns.map fun n=>[.int .u8 n]
 | [],ns,h=>by simp only[zhx,Option.some.injEq] at h;subst h;rfl
 |x::r,ns,h=>by
  unfold zhx at h;split at h
  ·cases ‹_::_=[]›
  ·rename_i n r' he;cases he
   cases hr:zhx r with
   |none=>simp[hr] at h
   |some l=>
    simp only[hr,Option.some.injEq] at h;subst h;rw[zmF hr];rfl
  ·cases h
theorem zox:∀(bs:List UInt8),zhx (bs.map fun b=>[.int .u8 (b.toNat:Int)])=some (bs.map fun b=>(b.toNat:Int))
 | []=>rfl
 |b::r=>by simp only[xae,zhx,zox r]
def strN (ns:List Int):List UInt8:=ns.map fun n=>UInt8.ofNat n.toNat
section
variable {c:Ctx}{all:Array Oper}{chk:List Rec->Prop}{os:List Oper}{recs:List Rec}{env:Env}{hp:Hp}{Q:St->Prop}
variable {d ty:Nat}{pos:String}{af:Array Edge}{g:Option (Nat×Bool)}{pg:List (Nat×AV)}
variable {t yt:TypeId}{x y:Operand}
theorem Walk.bytesStr {e yb:Nat}{xs:List (List D)}{ns:List Int}{vx:AV} (ht:SlT c.P t e 1 yb) (hyt:c.P.underlying yt=some .string) (hu:c.P.underlying e=some (.int .u8)) (hg:GH all env g pg) (hd:Nat.blt d c.n=true)
  (hx:opd env x=some vx) (hv:vx.toD=some (.sl xs)) (hns:zhx xs=some ns)
  (hn:Walk c all chk os (zao (pg++opF x vx) [] [] ⟨some (d,.d (.str (strN ns))),[]⟩::recs) ⟨(d,.d (.str (strN ns)))::env,hp⟩ Q):
  Walk c all chk (⟨some d,.convert t yt x,ty,pos,af,g⟩::os) recs ⟨env,hp⟩ Q:=
 xa9 hg hd hx (fun a G T w h=>⟨.string ⟨(strN ns).toArray⟩,by
  have h1:=h.toD hv;have hxs:=zmF hns;subst hxs;rcases h1.sl_cells (k:=1) (by intro e he;obtain⟨n,_,rfl⟩:=List.mem_map.1 he;rfl) with ⟨oa,cap,h2,h3,h4⟩|⟨b,off,cap,news,h2,h3,h4,h5,h6,h7⟩
  ·have hn0:ns=[]:=by simpa using h3
   subst hn0;cases oa with
   |none=>
    have:=run_convert_bytes_nil (P:=c.P) w t e ht.und hu 0 cap yt hyt;simp only[execOp,h2,Sem.run_bind,this,Result.andThen_ok,Sem.run_pure];rfl
   |some ad=>
    have h8:(loadCells ad 0).run c.P w = .ok (([]:List Int).map (Value.int .u8)).toArray w:=run_loadCells_list (P:=c.P) w ad [] (fun j v hj=>by simp at hj);have h9:=run_bytesToString (P:=c.P) w ad 0 cap [] h8;have:=run_convert_bytes_string (P:=c.P) w t yt e (some ad) 0 cap ht.und hu hyt;rw[h9] at this;simp only[execOp,h2,Sem.run_bind,this,Result.andThen_ok,Sem.run_pure];rfl
  ·have hlen:ns.length=(ns.map fun n=>[D.int .u8 n]).length:=by simp
   have:=run_convert_bytes_arg (P:=c.P) w t e ht.und hu b off _ cap ns hlen (fun i hi=>by
    have hi':i<ns.length:=by simpa using hi
    have hin:i<news.length:=by rw[h4];simpa using hi'
    have h8:=(h5 i _ (List.getElem?_eq_getElem hin)).2;rw[h8];have h9:=h7 i hi 0 (by simp) (by simpa using hin);simp only[List.getElem_map,List.getElem_cons_zero,Nat.mul_one,Nat.add_zero] at h9;generalize news[i]=u at h9;cases h9
    simp[List.getD,List.getElem?_eq_getElem hi']) yt hyt
   simp only[execOp,h2,Sem.run_bind,this,Result.andThen_ok,Sem.run_pure];rfl,.d (.str _)⟩) hn
theorem RelA.mo_eq {G:Gh}{T:TokF}{w:World}{id off n:Nat}{v:Value} (h:RelA G T w (.mo id off n) v):∃b o cap,((G.loc id).head?=some b/\T id=none)/\v = .slice (some ⟨b,o,none⟩) n cap/\n<=cap/\(n=0\/o=off):=by
 cases h with|mo h hT hcap ho=>exact⟨_,_,_,⟨h,hT⟩,rfl,hcap,ho⟩
theorem Walk.cutM_h {e k yb id m:Nat}{o:Operand}{kd:IntKind}{n:Int}{b:Nat} (ht:SlT c.P t e k yb) (hg:GH all env g pg) (hd:Nat.blt d c.n=true)
  (hx:opd env x=some (.ms id m)) (ho:opd env o=some (.d (.int kd n))) (hi:n = ↑b) (hb:b<=m)
  (hn:Walk c all chk os (zao (pg++(opF x (.ms id m)++opF o (.d (.int kd n)))) [] [] ⟨some (d,.ms id b),[]⟩::recs) ⟨(d,.ms id b)::env,hp⟩ Q):
  Walk c all chk (⟨some d,.slice t x none (some o) none,ty,pos,af,g⟩::os) recs ⟨env,hp⟩ Q:=
 xba hg hd hx ho (fun a G T w h1 h2=>by
  obtain⟨bl,cap,hl,he,hcap⟩:=h1.ms_eq;have hbd:=zel (P:=c.P) (w:=w) true m cap (lo:=none) (hi:=some (.int kd b)) (a:=0) (b:=b) (.inl ⟨rfl,rfl⟩) (.inr ⟨kd,rfl⟩) (Nat.zero_le _) (by omega);refine⟨.slice (some ⟨bl,0,none⟩) b cap, ?_,.ms hl.1 hl.2 (by omega)⟩;simp only[execOp,h2.int_eq,hi,he,Option.map_none,Option.map_some,Instr.sliceAt,Sem.run_bind,run_underlying ht.und,Result.andThen_ok,Instr.slice,hbd,ht.run_size,Sem.run_pure,Nat.zero_mul,Nat.sub_zero,zcL,Nat.zero_add,ite_self]) hn
theorem Walk.cutM_l {e k yb id m:Nat}{o:Operand}{kd:IntKind}{n:Int}{b:Nat} (ht:SlT c.P t e k yb) (hg:GH all env g pg) (hd:Nat.blt d c.n=true)
  (hx:opd env x=some (.ms id m)) (ho:opd env o=some (.d (.int kd n))) (hi:n = ↑b) (hb:b<=m)
  (hn:Walk c all chk os (zao (pg++(opF x (.ms id m)++opF o (.d (.int kd n)))) [] [] ⟨some (d,.mo id (b*k) (m-b)),[]⟩::recs) ⟨(d,.mo id (b*k) (m-b))::env,hp⟩ Q):
  Walk c all chk (⟨some d,.slice t x (some o) none none,ty,pos,af,g⟩::os) recs ⟨env,hp⟩ Q:=
 xba hg hd hx ho (fun a G T w h1 h2=>by
  obtain⟨bl,cap,hl,he,hcap⟩:=h1.ms_eq;have hbd:=zel (P:=c.P) (w:=w) true m cap (lo:=some (.int kd b)) (hi:=none) (a:=b) (b:=m) (.inr ⟨kd,rfl⟩) (.inl ⟨rfl,rfl⟩) hb (by omega);refine⟨.slice (some ⟨bl,if cap=b then 0 else b*k,none⟩) (m-b) (cap-b), ?_,.mo hl.1 hl.2 (by omega) ?_⟩
  ·simp only[execOp,h2.int_eq,hi,he,Option.map_none,Option.map_some,Instr.sliceAt,Sem.run_bind,run_underlying ht.und,Result.andThen_ok,Instr.slice,hbd,ht.run_size,Sem.run_pure,zcL,Nat.zero_add];by_cases h:cap=b
   ·simp[h]
   ·simp[h]
  ·by_cases h:cap=b
   ·left;omega
   ·right;rw[if_neg h]) hn
end
mutual
def renA (i j:Nat):AV->AV
 | .ms a n=>if a=i then .ms j n else .ms a n
 | .agg cs=> .agg (renL i j cs)
 | .tup cs=> .tup (renL i j cs)
 |x=>x
def renL (i j:Nat):List AV->List AV
 | []=>[]
 |x::r=>renA i j x::renL i j r
end
def zbf (i:Nat):AV->Bool
 | .ms a _=>Nat.beq a i
 | .d _=>true
 | .nils=>true
 | .agg cs=>soleL cs
 | .tup cs=>soleL cs
 |_=>false
where soleL:List AV->Bool
 | []=>true
 |x::r=>zbf i x&&soleL r
mutual
theorem ztN (i j:Nat):∀ {x:AV},zbf i x=true->renA j i (renA i j x)=x
 | .ms a n,h=>by
  simp only[zbf] at h;have:=Nat.eq_of_beq_eq_true h;subst this;simp[renA]
 | .d _,_=>rfl
 | .nils,_=>rfl
 | .agg cs,h=>by
  simp only[zbf] at h;simp only[renA,zjW i j h]
 | .tup cs,h=>by
  simp only[zbf] at h;simp only[renA,zjW i j h]
 | .sn _,h=>by simp[zbf] at h
 | .gl _ _,h=>by simp[zbf] at h
 | .gv _ _,h=>by simp[zbf] at h
 | .gt _ _,h=>by simp[zbf] at h
 | .ref _ _,h=>by simp[zbf] at h
 | .mo _ _ _,h=>by simp[zbf] at h
 | .mc _ _ _,h=>by simp[zbf] at h
 | .mapr _,h=>by simp[zbf] at h
 | .fn _ _,h=>by simp[zbf] at h
 | .own _ _,h=>by simp[zbf] at h
 | .any,h=>by simp[zbf] at h
theorem zjW (i j:Nat):∀ {l:List AV},zbf.soleL i l=true->renL j i (renL i j l)=l
 | [],_=>rfl
 |x::r,h=>by
  simp only[zbf.soleL,xad] at h;simp only[renL,ztN i j h.1,zjW i j h.2]
end
mutual
theorem ztU (i j:Nat):∀ {x:AV},zbf i x=true->zbf j (renA i j x)=true
 | .ms a n,h=>by
  simp only[zbf] at h;have:=Nat.eq_of_beq_eq_true h;subst this;simp[renA,zbf]
 | .d _,_=>rfl
 | .nils,_=>rfl
 | .agg cs,h=>by
  simp only[zbf] at h;simp only[renA,zbf,zj1 i j h]
 | .tup cs,h=>by
  simp only[zbf] at h;simp only[renA,zbf,zj1 i j h]
 | .sn _,h=>by simp[zbf] at h
 | .gl _ _,h=>by simp[zbf] at h
 | .gv _ _,h=>by simp[zbf] at h
 | .gt _ _,h=>by simp[zbf] at h
 | .ref _ _,h=>by simp[zbf] at h
 | .mo _ _ _,h=>by simp[zbf] at h
 | .mc _ _ _,h=>by simp[zbf] at h
 | .mapr _,h=>by simp[zbf] at h
 | .fn _ _,h=>by simp[zbf] at h
 | .own _ _,h=>by simp[zbf] at h
 | .any,h=>by simp[zbf] at h
theorem zj1 (i j:Nat):∀ {l:List AV},zbf.soleL i l=true->zbf.soleL j (renL i j l)=true
 | [],_=>rfl
 |x::r,h=>by
  simp only[zbf.soleL,xad] at h;simp only[renL,zbf.soleL,ztU i j h.1,zj1 i j h.2,Bool.and_self]
end
mutual
def frzA (x:D):AV->AV
 | .ms _ _=> .d x
 | .agg cs=> .agg (frzL x cs)
 | .tup cs=> .tup (frzL x cs)
 |y=>y
def frzL (x:D):List AV->List AV
 | []=>[]
 |y::r=>frzA x y::frzL x r
end
theorem zgX (x:D):∀l:List AV,(frzL x l).length=l.length
 | []=>rfl
 |y::r=>by simp[frzL,zgX x r]
theorem znp (x:D):∀(l:List AV) (q:Nat) (h:q<l.length) (h':q<(frzL x l).length),(frzL x l)[q]=frzA x l[q]
 |y::r,0,_,_=>rfl
 |y::r,q+1,h,h'=>by simp only[frzL,List.getElem_cons_succ];exact znp x r q (by simpa using h) (by simpa [frzL] using h')
def zpa (i n:Nat):AV->Prop
 | .ms a m=>a=i/\m=n
 | .d _=>True
 | .nils=>True
 | .agg cs=>soleNL i n cs
 | .tup cs=>soleNL i n cs
 |_=>False
where soleNL (i n:Nat):List AV->Prop
 | []=>True
 |x::r=>zpa i n x/\soleNL i n r
theorem zj2 (i n:Nat):∀ {l:List AV},zpa.soleNL i n l->∀q (h:q<l.length),zpa i n l[q]
 |x::r,hs,q,h=>by
  cases q with
  |zero=>exact hs.1
  |succ q=>exact zj2 i n hs.2 q (by simpa using h)
theorem RelA.frz {G G':Gh}{T T':TokF}{w:World}{i n:Nat}{x:AV}{v:Value}{d:D} (h:RelA G T w x v) (hF:∀b o,o<G.F b->o<G'.F b) (hms:∀v,RelA G T w (.ms i n) v->RelD G'.F w d v):zpa i n x->RelA G' T' w (frzA d x) v:=by
 induction h with
 |d h=>intro _;exact .d (h.mono (fun b o ho=>⟨hF b o ho,rfl⟩))
 | @ms a m b cap h hT hc=>
  intro hs;obtain⟨rfl,rfl⟩:=hs;exact .d (hms _ (.ms h hT hc))
 | @agg cs vs hn h ih=>
  intro hs;simp only[frzA];exact .agg (by rw[zgX];exact hn) (fun q hq hv=>by
   have hq':q<cs.length:=by rw[zgX] at hq;exact hq
   rw[znp d cs q hq' hq];exact ih q hq' hv (zj2 i n hs q hq'))
 | @tup cs vs hn h ih=>
  intro hs;simp only[frzA];exact .tup (by rw[zgX];exact hn) (fun q hq hv=>by
   have hq':q<cs.length:=by rw[zgX] at hq;exact hq
   rw[znp d cs q hq' hq];exact ih q hq' hv (zj2 i n hs q hq'))
 |nils=>intro _;exact .nils
 |_=>intro hs;exact hs.elim
def xorV (m n:Int):Int:=IntKind.i64.wrap ((BitVec.ofInt 64 m ^^^ BitVec.ofInt 64 n).toNat:Int)
theorem zwg {m n:Int} (hm:0<=m/\m<4611686018427387904) (hn:0<=n/\n<4611686018427387904):0<=xorV m n/\xorV m n<4611686018427387904:=by
 obtain⟨a,rfl⟩:=Int.eq_ofNat_of_zero_le hm.1;obtain⟨b,rfl⟩:=Int.eq_ofNat_of_zero_le hn.1;have ha:a<2 ^ 62:=by have:=hm.2;omega
 have hb:b<2 ^ 62:=by have:=hn.2;omega
 have h1:(BitVec.ofInt 64 (a:Int) ^^^ BitVec.ofInt 64 (b:Int)).toNat=a ^^^ b:=by
  rw[BitVec.toNat_xor,BitVec.toNat_ofInt,BitVec.toNat_ofInt];have e1:((a:Int) % ((2 ^ 64:Nat):Int)).toNat=a:=by
   have:(a:Int) % ((2 ^ 64:Nat):Int)=a:=Int.emod_eq_of_lt (by omega) (by omega);rw[this];simp
  have e2:((b:Int) % ((2 ^ 64:Nat):Int)).toNat=b:=by
   have:(b:Int) % ((2 ^ 64:Nat):Int)=b:=Int.emod_eq_of_lt (by omega) (by omega);rw[this];simp
  rw[e1,e2]
 have h2:a ^^^ b<2 ^ 62:=Nat.xor_lt_two_pow ha hb;unfold xorV;rw[h1,zeb (by omega)];omega
section
variable {c:Ctx}{all:Array Oper}{chk:List Rec->Prop}{os:List Oper}{recs:List Rec}{env:Env}{hp:Hp}{Q:St->Prop}
variable {d ty:Nat}{pos:String}{af:Array Edge}{g:Option (Nat×Bool)}{pg:List (Nat×AV)}
variable {t yt:TypeId}{x y:Operand}{m n:Int}
theorem Walk.xorI (hg:GH all env g pg) (hd:Nat.blt d c.n=true) (hx:opd env x=some (.d (.int .i64 m))) (hy:opd env y=some (.d (.int .i64 n)))
  (hn:Walk c all chk os (zao (pg++(opF x (.d (.int .i64 m))++opF y (.d (.int .i64 n)))) [] [] ⟨some (d,.d (.int .i64 (xorV m n))),[]⟩::recs) ⟨(d,.d (.int .i64 (xorV m n)))::env,hp⟩ Q):
  Walk c all chk (⟨some d,.binOp .xor t x y yt,ty,pos,af,g⟩::os) recs ⟨env,hp⟩ Q:=
 xaE hg hd hx hy (fun w=>⟨.int .i64 (xorV m n),by rw[binOp_xor];rfl,fun F=> .int _ _⟩) hn
end
def zfa (i j:Nat):Env->Env
 | []=>[]
 |(k,v)::r=>(k,bif za4 i v.ids then .any else bif za4 j v.ids then .any else v)::zfa i j r
theorem zjK {i j:Nat}:∀ {l:Env}{t:Nat}{v:AV},getE (zfa i j l) t=some v->∃u,getE l t=some u/\(v = .any\/(v=u/\i∉u.ids/\j∉u.ids))
 | [],_,_,h=>by simp[zfa,getE] at h
 |(k,x)::r,t,v,h=>by
  simp only[zfa,getE] at h ⊢;cases hb:Nat.beq k t with
  |true=>
   simp only[hb,cond_true,Option.some.injEq] at h;refine⟨x,by simp, ?_⟩;cases h1:za4 i x.ids with
   |true=>left;rw[h1] at h;exact h.symm
   |false=>
    cases h2:za4 j x.ids with
    |true=>left;rw[h1,h2] at h;exact h.symm
    |false=>
     right
     rw[h1,h2] at h;refine⟨h.symm,fun hm=>?_,fun hm=>?_⟩
     ·rw[zaU.2 hm] at h1;cases h1
     ·rw[zaU.2 hm] at h2;cases h2
  |false=>
   simp only[hb,cond_false] at h;obtain⟨u,h1,h2⟩:=zjK h;exact⟨u,by simpa using h1,h2⟩
theorem RelA.gl_move {G G':Gh}{T T':TokF}{w:World}{i j n k:Nat}{xs:List (List D)}{v:Value} (h:RelA G T w (.gl i xs) v) (hT:T i=some (n,k)) (hF:G'.F=G.F) (hl:G'.loc j=G.loc i) (hT':T' j=some (n,k)):RelA G' T' w (.gl j xs) v:=by
 generalize hx:AV.gl i xs=x at h;cases h with
 | @gl id ys v h ht=>
  cases hx
  refine .gl (h.mono (fun b o ho=>⟨by rw[hF];exact ho,rfl⟩)) (fun n' k' he=>?_);rw[hT'] at he;cases he
  obtain⟨h1,h2⟩:=ht _ _ hT;refine⟨h1,fun hn=>?_⟩;obtain⟨h3,h4⟩:=h2 hn;refine⟨h3, ?_⟩;rcases h4 with ⟨a1,a2,a3⟩|⟨b,cap,cs,e,a1,a2,a3,a4⟩
  ·exact .inl ⟨hl.trans a1,a2,a3⟩
  ·exact .inr ⟨b,cap,cs,e,hl.trans a1,a2,by rw[hF];exact a3,a4⟩
 |_=>cases hx
section
variable {c:Ctx}{env:Env}{hp:Hp}{K:Kt}{code:Code}
theorem CWp.retok (t j i:Nat){n k:Nat}{ys:List (List D)} (ht:getE env t=some (.gl j ys)) (hi:getH hp i=none) (hj:getH hp j=some (.tok n k)) (o1:occH i hp=false) (o2:occH j hp=false)
  (hn:CWp c code ⟨(t,.gl i ys)::zfa i j env,(i,some (.tok n k))::(j,none)::hp⟩ K):CWp c code ⟨env,hp⟩ K:=by
 rintro a w ⟨G,hr⟩
 have hne:i≠j:=fun e=>by subst e;rw[hi] at hj;cases hj
 let hp':Hp:=(i,some (.tok n k))::(j,none)::hp
 let G':Gh:={ G with loc:=fun x=>bif Nat.beq x i then G.loc j else G.loc x }
 have l1:G'.loc i=G.loc j:=by simp[G']
 have l2:∀x,x≠i->G'.loc x=G.loc x:=fun x h=>by simp[G',zer h]
 have g1:getH hp' i=some (.tok n k):=by simp[hp',getH]
 have g2:getH hp' j=none:=by
  show getH ((i,some (.tok n k))::(j,none)::hp) j=none
  rw[zak,if_neg (fun e=>hne e.symm),zak,if_pos rfl]
 have g3:∀x,x≠i->x≠j->getH hp' x=getH hp x:=fun x h1 h2=>by
  show getH ((i,some (.tok n k))::(j,none)::hp) x=_
  rw[zak,if_neg h1,zak,if_neg h2]
 have hTj:tokf hp j=some (n,k):=zaw.2 hj;have hTi:tokf hp' i=some (n,k):=zaw.2 g1;have hm:∀ {x:AV}{v:Value},i∉x.ids->j∉x.ids->RelA G (tokf hp) w x v->RelA G' (tokf hp') w x v:=fun hx1 hx2 hx=>
  hx.mono (fun _ _ ho=>⟨ho,rfl⟩) (fun id hid=> .inl (l2 id (fun e=>hx1 (e ▸ hid)))) (fun id hid p hp2=>⟨by
   have e1:id≠i:=fun e=>hx1 (e ▸ hid);have e2:id≠j:=fun e=>hx2 (e ▸ hid);unfold tokf at hp2 ⊢;rw[g3 id e1 e2] at hp2;exact hp2,fun _ _=>⟨rfl,rfl⟩⟩)
 have cases3:∀x (r:Res),getH hp' x=some r->(x=i/\r = .tok n k)\/(x≠i/\x≠j/\getH hp x=some r):=fun x r h=>by
  by_cases e1:x=i
  ·subst e1;rw[g1] at h;cases h;exact .inl ⟨rfl,rfl⟩
  ·by_cases e2:x=j
   ·subst e2;rw[g2] at h;cases h
   ·rw[g3 x e1 e2] at h;exact .inr ⟨e1,e2,h⟩
 have src:∀x,(getH hp' x).isSome->∃y,(getH hp y).isSome/\G'.loc x=G.loc y/\(y=j/\x=i\/y=x/\x≠j/\x≠i):=fun x h=>by
  obtain⟨r,hx⟩:=Option.isSome_iff_exists.1 h;rcases cases3 x r hx with ⟨rfl,_⟩|⟨e1,e2,h3⟩
  ·exact⟨j,by rw[hj];rfl,l1,.inl ⟨rfl,rfl⟩⟩
  ·exact⟨x,by rw[h3];rfl,l2 x e1,.inr ⟨rfl,e2,e1⟩⟩
 have nocc:∀ {id x:Nat}{r:Res},occH id hp=false->getH hp x=some r->id∉r.ids:=fun h1 h2=>zgq h1 _ _ (zdE h2);refine hn a w ⟨G',hr.size,hr.defers,fun x v hx=>?_,fun x r hx=>?_,fun x y h1 h2 hxy b hb=>?_,fun x h1 b hb=>?_,hr.frm,hr.top,fun x l hl=>?_⟩
 ·have hx':getE ((t,.gl i ys)::zfa i j env) x=some v:=hx;simp only[getE] at hx';cases hb:Nat.beq t x with
  |true=>
   have:=Nat.eq_of_beq_eq_true hb;subst this;simp only[hb,cond_true,Option.some.injEq] at hx';subst hx';exact(hr.slots t _ ht).gl_move hTj rfl l1 hTi
  |false=>
   simp only[hb,cond_false] at hx';obtain⟨u,h1,h2⟩:=zjK hx';rcases h2 with rfl|⟨rfl,h3,h4⟩
   ·exact .any _
   ·exact hm h3 h4 (hr.slots x _ h1)
 ·rcases cases3 x r hx with ⟨rfl,rfl⟩|⟨e1,e2,h3⟩
  ·intro b hb;rw[l1] at hb;exact hr.heap j _ hj b hb
  ·have hh:=hr.heap x r h3;have n1:=nocc o1 h3;have n2:=nocc o2 h3;cases r with
   |box cs=>
    obtain⟨b,us,e,e1',e2',e3,e4,e5⟩:=hh;exact⟨b,us,e,(l2 x e1).trans e1',e2',e3,e4,fun q hq hv=>hm (fun hid=>n1 (xaj (List.getElem_mem hq) hid)) (fun hid=>n2 (xaj (List.getElem_mem hq) hid)) (e5 q hq hv)⟩
   |tok n' k'=>intro b hb;rw[l2 x e1] at hb;exact hh b hb
   |map ks=>
    obtain⟨b,es,cl,h5,h6⟩:=hh;exact⟨b,es,cl,(l2 x e1).trans h5,h6⟩
   |tree cs=>exact zbr hh (l2 x e1) (fun _ _=>⟨rfl,rfl⟩) (Nat.le_refl _) (fun y hy v=>hm (fun hid=>n1 (xaj hy hid)) (fun hid=>n2 (xaj hy hid)))
 ·obtain⟨x',s1,e1,d1⟩:=src x h1;obtain⟨y',s2,e2,d2⟩:=src y h2;rw[e1] at hb;rw[e2];refine hr.disj x' y' s1 s2 ?_ b hb;rcases d1 with ⟨rfl,rfl⟩|⟨rfl,f1,f2⟩<;>rcases d2 with ⟨rfl,rfl⟩|⟨rfl,f3,f4⟩
  ·exact absurd rfl hxy
  ·exact fun e=>f3 e.symm
  ·exact f1
  ·exact hxy
 ·obtain⟨x',s1,e1,d1⟩:=src x h1;rw[e1] at hb;exact hr.new x' s1 b hb
 ·have hk:=hr.kept x l hl;have e1:x≠i:=fun e=>by
   have h1:=hk.2.1;have h2:getH hp x=none:=e ▸ hi;change (getH hp x).isSome=true at h1
   rw[h2] at h1;cases h1
  have e2:x≠j:=fun e=>by
   have h1:=hk.2.2;change tokf hp x=none at h1
   rw[e,hTj] at h1;cases h1
  refine⟨by rw[l2 x e1];exact hk.1, ?_, ?_⟩
  ·show(getH hp' x).isSome=true
   rw[g3 x e1 e2];exact hk.2.1
  ·show tokf hp' x=none
   have:=hk.2.2;unfold tokf at this ⊢;rw[g3 x e1 e2];exact this
end
section
variable {c:Ctx}
theorem zr4 {G:Gh}{s:St}{a:Act}{w:World} (hr:R c G s a w){f:FuncId}{avs:List AV}{i j n k m:Nat}{ys:List (List D)}{vals:Array Value}
  (hf:FnD c.P f avs [(i,some (.tok n k))] (.gl i ys) [(i,some (.tok m k))]) (hargs:AllR G (tokf s.hp) w avs vals) (hi:getH s.hp i=some (.tok n k)) (hj:getH s.hp j=none) (hocc:zda j s):
  Calls c.P f vals w fun e w'=>∃v,e = .returned v/\
   ∃G',R c G' { s with hp:=(i,none)::(j,some (.tok m k))::s.hp } a w'/\RelA G' (tokf ((i,none)::(j,some (.tok m k))::s.hp)) w' (.gl j ys) v:=by
 have hne:i≠j:=fun e=>by subst e;rw[hi] at hj;cases hj
 have only:∀ {id:Nat}{x y:Res},getH [(i,some x)] id=some y->id=i/\y=x:=fun {id x y} h=>by
  rw[zak] at h;split at h
  ·rename_i e;cases h;exact⟨e,rfl⟩
  ·cases h
 have gi:getH [(i,some (Res.tok n k))] i=some (.tok n k):=by simp[getH]
 have hok:HOK G w [(i,some (.tok n k))] avs vals:=by
  refine⟨⟨hargs.size,fun q hq hv=>(hargs.rel q hq hv).mono (fun _ _ ho=>⟨ho,rfl⟩) (fun _ _=> .inl rfl) (fun id _ p hp=>⟨?_,fun _ _=>⟨rfl,rfl⟩⟩)⟩,fun id r h=>?_,fun id id' h1 h2 h3=>?_,hr.top⟩
  ·obtain⟨n',k'⟩:=p;obtain⟨rfl,h2⟩:=only (zaw.1 hp);cases h2
   exact zaw.2 hi
  ·obtain⟨rfl,rfl⟩:=only h;exact hr.heap _ _ hi
  ·obtain⟨x,hx⟩:=Option.isSome_iff_exists.1 h1;obtain⟨y,hy⟩:=Option.isSome_iff_exists.1 h2;exact absurd ((only hx).1.trans (only hy).1.symm) h3
 refine(hf G w vals hok).mono ?_;rintro e w' ⟨v,r,hp0,G',rfl,⟨rfl,rfl⟩,hret⟩
 refine⟨v,rfl, ?_⟩;have gi2:getH ([(i,some (Res.tok m k))]++[(i,some (.tok n k))]) i=some (.tok m k):=by simp[getH]
 have hown:∀b,b∈zcT G [(i,some (Res.tok n k))]->b∈G.loc i:=fun b hb=>by
  obtain⟨id,h1,h2⟩:=zgr.1 hb;obtain⟨x,hx⟩:=Option.isSome_iff_exists.1 h1;rw[(only hx).1] at h2;exact h2
 have hsi:(getH s.hp i).isSome:=by rw[hi];rfl
 let hp':Hp:=(i,none)::(j,some (.tok m k))::s.hp
 let G2:Gh:={ F:=G'.F,loc:=fun x=>bif Nat.beq x j then G'.loc i else G.loc x }
 have l1:G2.loc j=G'.loc i:=by simp[G2]
 have l2:∀x,x≠j->G2.loc x=G.loc x:=fun x h=>by simp[G2,zer h]
 have g1:getH hp' i=none:=by
  show getH ((i,none)::(j,some (.tok m k))::s.hp) i=none
  rw[zak,if_pos rfl]
 have g2:getH hp' j=some (.tok m k):=by
  show getH ((i,none)::(j,some (.tok m k))::s.hp) j=_
  rw[zak,if_neg (fun e=>hne e.symm),zak,if_pos rfl]
 have g3:∀x,x≠i->x≠j->getH hp' x=getH s.hp x:=fun x h1 h2=>by
  show getH ((i,none)::(j,some (.tok m k))::s.hp) x=_
  rw[zak,if_neg h1,zak,if_neg h2]
 have cases3:∀x (r:Res),getH hp' x=some r->(x=j/\r = .tok m k)\/(x≠i/\x≠j/\getH s.hp x=some r):=fun x r h=>by
  by_cases e1:x=i
  ·subst e1;rw[g1] at h;cases h
  ·by_cases e2:x=j
   ·subst e2;rw[g2] at h;cases h;exact .inl ⟨rfl,rfl⟩
   ·rw[g3 x e1 e2] at h;exact .inr ⟨e1,e2,h⟩
 have bound:∀x r,getH s.hp x=some r->∀b,b∈G.loc x->b<w.heap.size:=fun x r h=>(hr.heap x r h).bound;have blk:∀x r,x≠i->getH s.hp x=some r->∀b,b∈G.loc x->w'.heap[b]?=w.heap[b]?/\G'.F b=G.F b:=fun x r h1 h2 b hb=>
  hret.frm.block b (bound x r h2 b hb) (fun hm=>hr.disj x i (by rw[h2];rfl) hsi h1 b hb (hown b hm))
 have hm:∀ {x:AV}{v:Value},j∉x.ids->RelA G (tokf s.hp) w x v->RelA G2 (tokf hp') w' x v:=fun hx1 hx=>
  hx.mono hret.frm.cell (fun id hid=> .inl (l2 id (fun e=>hx1 (e ▸ hid)))) (fun id hid p hp2=>by
   have e1:id≠j:=fun e=>hx1 (e ▸ hid);obtain⟨n',k'⟩:=p;have h1:=zaw.1 hp2;rcases cases3 id _ h1 with ⟨e,_⟩|⟨e2,_,h3⟩
   ·exact absurd e e1
   ·exact⟨zaw.2 h3,blk id _ e2 h3⟩)
 have src:∀x,(getH hp' x).isSome->x=j\/(x≠i/\x≠j/\(getH s.hp x).isSome):=fun x h=>by
  obtain⟨r,hx⟩:=Option.isSome_iff_exists.1 h;rcases cases3 x r hx with ⟨rfl,_⟩|⟨e1,e2,h3⟩
  ·exact .inl rfl
  ·exact .inr ⟨e1,e2,by rw[h3];rfl⟩
 have hnew:=hret.new i (by rw[gi2];rfl);have mix:∀x,x≠i->(getH s.hp x).isSome->∀b,b∈G'.loc i->b∉G.loc x:=fun x h1 h2 b hb hbx=>by
  obtain⟨r,hx⟩:=Option.isSome_iff_exists.1 h2;rcases hnew b hb with h|h
  ·exact hr.disj i x hsi h2 (fun e=>h1 e.symm) b (hown b h) hbx
  ·have:=bound x r hx b hbx;omega
 refine⟨G2,⟨hr.size,hr.defers,fun x v hx=>hm (hocc.1 x v hx) (hr.slots x v hx),fun x r hx=>?_,fun x y h1 h2 hxy b hb=>?_,fun x h1 b hb=>?_,hr.frm.trans hret.frm ?_,hret.top,fun x l hl=>?_⟩, ?_⟩
 ·rcases cases3 x r hx with ⟨rfl,rfl⟩|⟨e1,e2,h3⟩
  ·intro b hb;rw[l1] at hb;exact hret.heap i _ gi2 b hb
  ·have hh:=hr.heap x r h3;have n2:=hocc.2 x r h3;have hb0:=blk x r e1 h3;cases r with
   |box cs=>
    obtain⟨b,us,e,e1',e2',e3,e4,e5⟩:=hh;obtain⟨f1,f2⟩:=hb0 b (by simp[e1']);exact⟨b,us,e,(l2 x e2).trans e1',f1.trans e2',e3,f2.trans e4,fun q hq hv=>hm (fun hid=>n2 (xaj (List.getElem_mem hq) hid)) (e5 q hq hv)⟩
   |tok n' k'=>intro b hb;rw[l2 x e2] at hb;exact Nat.lt_of_lt_of_le (hh b hb) hret.frm.size
   |map ks=>
    obtain⟨b,es,cl,h5,h6,h7,h8⟩:=hh;obtain⟨f1,f2⟩:=hb0 b (by simp[h5]);exact⟨b,es,cl,(l2 x e2).trans h5,f1.trans h6,f2.trans h7,h8⟩
   |tree cs=>exact zbr hh (l2 x e2) hb0 hret.frm.size (fun y hy v=>hm (fun hid=>n2 (xaj hy hid)))
 ·rcases src x h1 with rfl|⟨a1,a2,a3⟩<;>rcases src y h2 with rfl|⟨b1,b2,b3⟩
  ·exact absurd rfl hxy
  ·rw[l1] at hb;rw[l2 y b2];exact mix y b1 b3 b hb
  ·rw[l2 x a2] at hb;rw[l1];exact fun h=>mix x a1 a3 b h hb
  ·rw[l2 x a2] at hb;rw[l2 y b2];exact hr.disj x y a3 b3 hxy b hb
 ·rcases src x h1 with rfl|⟨a1,a2,a3⟩
  ·rw[l1] at hb;rcases hnew b hb with h|h
   ·exact hr.new i hsi b (hown b h)
   ·right;have:=hr.frm.size;omega
  ·rw[l2 x a2] at hb;exact hr.new x a3 b hb
 ·intro b hb;exact hr.new i hsi b (hown b hb)
 ·have hk:=hr.kept x l hl;have e1:x≠i:=fun e=>by
   have h1:=hk.2.2;have h2:tokf s.hp x=some (n,k):=e ▸ zaw.2 hi;rw[h2] at h1;cases h1
  have e2:x≠j:=fun e=>by
   have h1:=hk.2.1;have h2:getH s.hp x=none:=e ▸ hj;rw[h2] at h1;cases h1
  refine⟨by rw[l2 x e2];exact hk.1, ?_, ?_⟩
  ·show(getH hp' x).isSome=true
   rw[g3 x e1 e2];exact hk.2.1
  ·show tokf hp' x=none
   have:=hk.2.2;unfold tokf at this ⊢;rw[g3 x e1 e2];exact this
 ·exact hret.res.gl_move (G':=G2) (zaw.2 gi2) rfl l1 (zaw.2 g2)
end
section
variable {c:Ctx}{all:Array Oper}{chk:List Rec->Prop}{os:List Oper}{recs:List Rec}{env:Env}{hp:Hp}{Q:St->Prop}
variable {d ty:Nat}{pos:String}{af:Array Edge}{g:Option (Nat×Bool)}{pg:List (Nat×AV)}
theorem xaG {f:FuncId}{args:Array Operand}{ats:Array TypeId}{xs:List Operand}{vs avs:List AV}{i n k m:Nat}{ys:List (List D)} (j:Nat) (hc:Callee c.P f)
  (hf:FnD c.P f avs [(i,some (.tok n k))] (.gl i ys) [(i,some (.tok m k))])
  (hargs:args=xs.toArray) (hg:GH all env g pg) (hd:Nat.blt d c.n=true) (hx:opdL env xs=some vs) (hle:LeL vs avs) (hi:getH hp i=some (.tok n k)) (hcr:zax env hp [j]=true)
  (hn:Walk c all chk os (zao (pg++opFL xs vs) [(i,.tok n k)] [j] ⟨some (d,.gl j ys),[(i,none),(j,some (.tok m k))]⟩::recs) ⟨(d,.gl j ys)::env,(i,none)::(j,some (.tok m k))::hp⟩ Q):
  Walk c all chk (⟨some d,.call ⟨.value (.func f),args,ats⟩,ty,pos,af,g⟩::os) recs ⟨env,hp⟩ Q:=by
 subst hargs;refine⟨pg++opFL xs vs,[(i,.tok n k)],[j],_, ?_,zaz hg.facts (zcH hx),hh1 hi,zbx hcr,hn⟩;intro s a w hrel hp' hh hcr' K Q' hK;obtain⟨G,hr⟩:=hrel;have hrl:=zdI hr (zcI hx (fun p hm=>hp' p (by simp[hm])));have hle':∀ {l m:List AV},LeL l m->∀i (h1:i<l.length) (h2:i<m.length),LeA l[i] m[i]:=by
  intro l;induction l with
  |nil=>intro m _ i h1;simp at h1
  |cons x r ih=>
   intro m h i h1 h2;cases h with
   |cons h t=>
    cases i with
    |zero=>exact h
    |succ i=>exact ih t i (by simpa using h1) (by simpa using h2)
 have hall:AllR G (tokf s.hp) w avs (xs.map a.eval).toArray:=by
  refine⟨by simp[<-hle.len,hrl.1],fun i hi hv=>?_⟩;have h1:i<vs.length:=by rw[hle.len];exact hi
  have:=(hrl.2 i h1 (by rw[<-hrl.1];exact h1)).le (hle' hle i h1 hi);simpa using this
 have hcalls:=zr4 hr hf hall (hh1' hh) (hcr' j (by simp)).1 (hcr' j (by simp)).2;unfold wpO;rw[if_pos (hg.gf.wanted hr (fun p hm=>hp' p (by simp[hm])))];unfold Oper.wp;have hrun:(execOp a.eval ⟨some d,.call ⟨.value (.func f),xs.toArray,ats⟩,ty,pos,af,g⟩).run c.P w = .ok (.enter f (xs.map a.eval).toArray) w:=by
  have:=hc.run (xs.map a.eval).toArray w;simp only[execOp,resolve,Sem.run_bind,Act.eval,Deferred.ofValue,Sem.run_pure,Result.andThen_ok,invoke];simpa using this
 rw[hrun,Oper.upon_enter];refine hcalls.mono ?_;rintro e w' ⟨v,rfl,G',hR,hA⟩
 exact hK _ _ ⟨G',hR.put hA hd⟩
end
section
variable {c:Ctx}{all:Array Oper}{K:Kt}
theorem zoM {Q:St->Prop}{Q':Exit->Act->World->Prop}{l2:List Nat} (hQ:∀s a w,Rel c s a w->Q s->wpOps c.P all Q' l2 a w):
  ∀(l:List Nat) (os:List Oper) (recs:List Rec) (s:St) (a:Act) (w:World),l.filterMap (all[·]?)=os->(∀i,i∈l->i<all.size)->
   Walk c all (fun _=>True) os recs s Q->Rel c s a w->wpOps c.P all Q' (l++l2) a w
 | [],os,recs,s,a,w,hl,_,hw,hr=>by
  simp only[List.filterMap_nil] at hl;subst hl;exact hQ s a w hr hw.2
 |i::l,os,recs,s,a,w,hl,hlt,hw,hr=>by
  have hi:i<all.size:=hlt i (by simp);have ho:all[i]?=some all[i]:=by simp[hi]
  rw[List.filterMap_cons] at hl;simp only[ho] at hl;subst hl;obtain⟨pre,prh,cr,u,hrule,h1,h2,h3,hrest⟩:=hw;rw[xag,wpOps_cons];unfold wpOp;simp only[ho];have:=hrule s a w hr h1 h2 h3 (wpOps c.P all Q' (l++l2)) Q' (fun a' w' hr'=>
   zoM hQ l _ _ _ a' w' rfl (fun j hj=>hlt j (by simp[hj])) hrest hr')
  unfold wpO at this;split
  ·rename_i hw;simp only[hw,if_true] at this;exact .inl this
  ·rename_i hw;simp only[hw] at this;exact this
theorem ztH (all:Array Oper):(List.range all.size).filterMap (all[·]?)=all.toList:=by
 have h1:(List.range all.size).filterMap (all[·]?)=(List.range all.toList.length).filterMap (all.toList[·]?):=by simp
 rw[h1];generalize all.toList=l;induction l with
 |nil=>rfl
 |cons x l ih=>
  rw[xab,List.range_succ_eq_map,List.filterMap_cons];simp only[List.getElem?_cons_zero,List.filterMap_map];exact congrArg (List.cons x) ih
theorem zge {all:Array Oper}:∀ {l:List Nat},(∀i,i∈l->i<all.size)->l.filterMap (all[·]?)=l.map (fun i=>all[i]!)
 | [],_=>rfl
 |i::r,h=>by
  have hi:i<all.size:=h i (by simp);have ho:all[i]?=some all[i]:=by simp[hi]
  rw[List.filterMap_cons];simp only[ho,xae];rw[zge (fun j hj=>h j (by simp[hj]))];simp[hi]
theorem zrn (all:Array Oper) (k j:Nat):(((List.range all.size).drop k).take j).filterMap (all[·]?)=(all.toList.drop k).take j:=by
 have h0:=ztH all;rw[zge (fun i hi=>by simpa using hi)] at h0;rw[zge (fun i hi=>by simpa using List.mem_of_mem_drop (List.mem_of_mem_take hi)),<-h0,List.map_take,List.map_drop]
def WRest (c:Ctx) (all:Array Oper) (k:Nat) (s:St) (K:Kt):Prop:=∀a w,Rel c s a w->wpOps c.P all (K.post c) ((List.range all.size).drop k) a w
theorem xal {id:Nat}{s:St} (h:WRest c all 0 s K):CWp c (.region id all false) s K:=by
 intro a w hr;have:=h a w hr;rw[List.drop_zero] at this;exact wp_region this
theorem xaz {k:Nat}{s:St} (h:Walk c all (fun _=>True) (all.toList.drop k) [] s K.n):WRest c all k s K:=by
 intro a w hr;have e:=zrn all k (all.size-k);rw[List.take_of_length_le (by simp),List.take_of_length_le (by simp)] at e;exact zlz (Q:=K.n) (fun s a w hr hq=>⟨s,hr,hq⟩) _ _ [] s a w e (fun i hi=>by simpa using List.mem_of_mem_drop hi) h hr
theorem xaA {k:Nat}{env:Env}{hp:Hp} (j:Nat) (E:Env) (ks:List Nat)
  (h1:Walk c all (fun _=>True) ((all.toList.drop k).take j) [] ⟨env,hp⟩ (fun s1=>Sub ⟨E++(zcF ks++env),[]++hp⟩ s1))
  (h2:WRest c all (k+j) ⟨E++(zcF ks++env),hp⟩ K):WRest c all k ⟨env,hp⟩ K:=by
 intro a w hr;have hk:∀id l,c.kept id=some l->(getH hp id).isSome:=by
  obtain⟨G,hg⟩:=hr;exact fun id l hl=>(hg.kept id l hl).2.1
 have e:(List.range all.size).drop k=((List.range all.size).drop k).take j++(List.range all.size).drop (k+j):=by
  conv=>lhs;rw[<-List.take_append_drop j ((List.range all.size).drop k),List.drop_drop]
 rw[e];exact zoM (fun s1 a1 w1 hr1 hs=>h2 a1 w1 (hr1.sub hs hk)) _ _ [] _ a w (zrn all k j) (fun i hi=>by simpa using List.mem_of_mem_drop (List.mem_of_mem_take hi)) h1 hr
end
theorem zol {i j:Nat}{b:Env}{t:Nat}{v:AV}:∀ {a:Env},getE (a++zfa i j b) t=some v->∃u,getE (a++b) t=some u/\(v = .any\/v=u)
 | [],h=>by
  obtain⟨u,h1,h2⟩:=zjK (l:=b) h;exact⟨u,h1,h2.imp_right (fun h=>h.1)⟩
 |(k,x)::r,h=>by
  simp only[xag,getE] at h ⊢;cases hb:Nat.beq k t with
  |true=>simp only[hb,cond_true,Option.some.injEq] at h;exact⟨x,by simp,.inr h.symm⟩
  |false=>
   simp only[hb,cond_false] at h;obtain⟨u,h1,h2⟩:=zol (a:=r) h;exact⟨u,by simpa using h1,h2⟩
theorem Sub.kill {i j:Nat}{a b:Env}{hp:Hp}{s:St} (h:Sub ⟨a++b,hp⟩ s):Sub ⟨a++zfa i j b,hp⟩ s:=by
 refine⟨fun t v hv=>?_,h.hp⟩;obtain⟨u,h1,h2⟩:=zol hv;rcases h2 with rfl|rfl
 ·exact .inl rfl
 ·exact h.env t v h1
section
variable {c:Ctx}{K:Kt}
theorem CWp.loopT (i j:Nat){ι:Type}{body:Code}{env:Env}{hp:Hp}{ids:List Nat} (hkp:KeptIn c.kept ids) (E:ι->Env) (ks:List Nat) (H:ι->Hp) (good:ι->Prop) (μ:ι->Nat) (x0:ι) (h0:good x0)
  (he0:SubE (E x0) env) (hh0:SubH (H x0) hp) (hk:∀x,ids.all (fun id=>(getH (H x++hp) id).isSome)=true)
  (hround:∀x,good x->CWp c body ⟨E x++(zcF ks++zfa i j env),H x++hp⟩ (K.with fun s'=>∃x',good x'/\μ x'<μ x/\Sub ⟨E x'++(zcF ks++zfa i j env),H x'++hp⟩ s')):
  CWp c (.loop body) ⟨env,hp⟩ K:=by
 refine CWp.loop (fun x=>⟨E x++(zcF ks++zfa i j env),H x++hp⟩) good μ x0 h0 ?_ (fun x=>hkp.ok (hk x)) hround;have h:Sub ⟨E x0++(zcF ks++env),H x0++hp⟩ ⟨env,hp⟩:=Sub.x (by simp) (by simp[ze1]) he0 (by simp) (by simp[zdu]) hh0;rw[<-List.append_assoc] at h;have:=h.kill (i:=i) (j:=j);rw[List.append_assoc] at this;exact this
end
theorem FnD.nilTok {P:Program}{f:FuncId}{i k m:Nat}{rest:List AV}{ys:List (List D)} (hrest:AV.idsL rest=[]) (h:FnD P f (.gl i []::rest) [(i,some (.tok 0 k))] (.gl i ys) [(i,some (.tok m k))]):
  FnD P f (.nils::rest) [] (.d (.sl ys)) []:=by
 intro G w vals hok;let G1:Gh:={ G with loc:=fun _=>[] }
 have only:∀ {id:Nat}{x y:Res},getH [(i,some x)] id=some y->id=i/\y=x:=fun {id x y} h=>by
  rw[zak] at h;split at h
  ·rename_i e;cases h;exact⟨e,rfl⟩
  ·cases h
 have gi:getH [(i,some (Res.tok 0 k))] i=some (.tok 0 k):=by simp[getH]
 have hok1:HOK G1 w [(i,some (.tok 0 k))] (.gl i []::rest) vals:=by
  refine⟨⟨hok.args.size,fun q hq hv=>?_⟩,fun id r hx=>?_,fun id id' h1 h2 h3=>?_,hok.top⟩
  ·have h1:=hok.args.rel q hq hv;cases q with
   |zero=>
    simp only[List.getElem_cons_zero] at h1 ⊢;generalize vals[0]=v at *;cases h1
    refine .gl .nil (fun n k' hT=>?_);have:=(only (zaw.1 hT)).2;cases this
    exact⟨Nat.le_refl _,fun _=>⟨by simp,.inl ⟨rfl,rfl,rfl⟩⟩⟩
   |succ q=>
    simp only[List.getElem_cons_succ] at h1 ⊢;have hn:∀id,id∉(rest[q]'(by simpa using hq)).ids:=fun id hid=>by
     have:=xaj (List.getElem_mem _) hid;rw[hrest] at this;simp at this
    exact h1.mono (fun _ _ ho=>⟨ho,rfl⟩) (fun id hid=>(hn id hid).elim) (fun id hid=>(hn id hid).elim)
  ·obtain⟨rfl,rfl⟩:=only hx;intro b hb;simp[G1] at hb
  ·obtain⟨x,hx⟩:=Option.isSome_iff_exists.1 h1;obtain⟨y,hy⟩:=Option.isSome_iff_exists.1 h2;exact absurd ((only hx).1.trans (only hy).1.symm) h3
 refine(h G1 w vals hok1).mono ?_;rintro e w' ⟨v,r,hp',G',rfl,⟨rfl,rfl⟩,hret⟩
 have own1:∀b,b∉zcT G1 [(i,some (Res.tok 0 k))]:=fun b hb=>by
  obtain⟨id,_,h2⟩:=zgr.1 hb;simp[G1] at h2
 have hres:RelD G'.F w' (.sl ys) v:=by
  have h1:=hret.res;generalize hx:AV.gl i ys=x at h1;cases h1 with
  |gl h _=>cases hx;exact h
  |_=>cases hx
 refine⟨v,_,_,G',rfl,⟨rfl,rfl⟩,.d hres,fun id x hx=>?_,fun id id' h1=>?_,fun id h1=>?_, ?_,hret.top,fun id hi=>?_⟩
 ·simp[getH] at hx
 ·simp[getH] at h1
 ·simp[getH] at h1
 ·have hf:=hret.frm;exact⟨hf.os,hf.tape,hf.output,hf.size,fun b hb hn=>hf.block b hb (own1 b),hf.cell⟩
 ·simp[zb7,getH] at hi
theorem zh5 {P:Program}{w:World}{G:Gh}{T:TokF}:∀ {d:Nat}{fs:List Field}{i:Nat}{xs ys:List AV}{b:Bool}{us vs:Array Value},zd0 P i fs=true->eqC xs ys=some b->fs.length=xs.length->
  (∀j (h:j<xs.length),∃u,us[i+j]?=some u/\RelA G T w xs[j] u)->(∀j (h:j<ys.length),∃u,vs[i+j]?=some u/\RelA G T w ys[j] u)->
  (Op.eqFields (d+1) us vs fs).run P w = .ok b w
 |d,[],i,[],[],b,us,vs,_,h,_,_,_=>by simp only[eqC,Option.some.injEq] at h;subst h;simp[Op.eqFields]
 |d,[],i,[],_::_,b,us,vs,_,h,_,_,_=>by simp[eqC] at h
 |d,[],i,_::_,_,b,us,vs,_,_,h,_,_=>by simp at h
 |d,f::fs,i,[],_,b,us,vs,_,_,h,_,_=>by simp at h
 |d,f::fs,i,x::xs,ys,b,us,vs,hf,he,hl,hx,hy=>by
  cases ys with
  |nil=>unfold eqC at he;split at he<;>simp_all
  |cons y ys=>
   unfold eqC at he;split at he
   ·rename_i h1 h2;simp at h1
   ·rename_i a r b' s h1 h2;simp only[List.cons.injEq] at h1 h2;obtain⟨rfl,rfl⟩:=h1;obtain⟨rfl,rfl⟩:=h2;split at he
    ·rename_i t ht;simp only[Option.some.injEq] at he;subst he;simp only[zd0,xad,bne_iff_ne] at hf;obtain⟨⟨⟨f1,f2⟩,f3⟩,f4⟩:=hf;have f2':=Nat.eq_of_beq_eq_true f2;obtain⟨u,hu,hru⟩:=hx 0 (by simp);obtain⟨v,hv,hrv⟩:=hy 0 (by simp);have hu':=hru.int_eq;have hv':=hrv.int_eq;subst hu' hv';have ih:=zh5 (P:=P) (w:=w) (d:=d) (us:=us) (vs:=vs) f4 ht (by simpa using hl)
      (fun j h=>by obtain⟨u,h1,h2⟩:=hx (j+1) (by simpa using h);exact⟨u,by rw[show i+1+j=i+(j+1) by omega];exact h1,by simpa using h2⟩)
      (fun j h=>by obtain⟨u,h1,h2⟩:=hy (j+1) (by simpa using h);exact⟨u,by rw[show i+1+j=i+(j+1) by omega];exact h1,by simpa using h2⟩)
     split at f3
     ·rename_i kd hk;have p1:(part f.type us f.offset).run P w = .ok (.int .i64 a) w:=by
       have hu0:us[i]?=some (.int .i64 a):=by simpa using hu
       simp only[part,isAgg,Sem.run_bind,run_underlying hk,Result.andThen_ok,Sem.run_pure,f2',hu0,Bool.false_eq_true,if_false]
      have p2:(part f.type vs f.offset).run P w = .ok (.int .i64 b') w:=by
       have hv0:vs[i]?=some (.int .i64 b'):=by simpa using hv
       simp only[part,isAgg,Sem.run_bind,run_underlying hk,Result.andThen_ok,Sem.run_pure,f2',hv0,Bool.false_eq_true,if_false]
      simp only[Op.eqFields];rw[if_pos f1];simp only[Sem.run_bind,p1,p2,Result.andThen_ok,run_equalIn_int w d f.type .i64 kd a b' hk];by_cases hab:a=b'
      ·subst hab;simp[ih]
      ·simp[hab]
     ·cases f3
    ·cases he
   ·cases he
def subF (P:Program) (f:Field):Nat:=match P.underlying f.type with
 |some (.int _)=>1
 |some (.struct _)=>(P.fieldsOf f.type).size
 |_=>0
def zlS (P:Program):List Field->Nat
 | []=>0
 |f::r=>subF P f+zlS P r
def zgo (P:Program):Nat->List Field->Bool
 |_,[]=>true
 |i,f::r=>(f.name != "_")&&Nat.beq f.offset i&&(match P.underlying f.type with
  |some (.int _)=>true
  |some (.struct _)=>(match P.stoodInHeld f.type with|true=>false|false=>true)&&zd0 P 0 (P.fieldsOf f.type).toList&&(match zpb P f.type with|some (k,true)=>Nat.beq k (P.fieldsOf f.type).size|_=>false)
  |_=>false)&&zgo P (i+subF P f) r
structure EqT2 (P:Program) (t k:Nat):Prop where
 und:P.underlying t=some (.struct (P.fieldsOf t))
 held:P.stoodInHeld t=false
 grd:P.eqGuardType P.depth t=false
 fld:zgo P 0 (P.fieldsOf t).toList=true
 len:zlS P (P.fieldsOf t).toList=k
theorem ztj {k:Nat}:∀ {xs ys:List AV}{b:Bool},eqC xs ys=some b->k<=xs.length->∃b1 b2,eqC (xs.take k) (ys.take k)=some b1/\eqC (xs.drop k) (ys.drop k)=some b2/\b=(b1&&b2):=by
 induction k with
 |zero=>intro xs ys b h _;exact⟨true,b,by simp[eqC],by simpa using h,by simp⟩
 |succ k ih=>
  intro xs ys b h hk;cases xs with
  |nil=>simp at hk
  |cons x r=>
   cases ys with
   |nil=>unfold eqC at h;split at h<;>simp_all
   |cons y s=>
    unfold eqC at h;split at h
    ·rename_i h1 h2;simp at h1
    ·rename_i a r' b' s' h1 h2;simp only[List.cons.injEq] at h1 h2;obtain⟨rfl,rfl⟩:=h1;obtain⟨rfl,rfl⟩:=h2;split at h
     ·rename_i t ht;simp only[Option.some.injEq] at h;subst h;obtain⟨b1,b2,e1,e2,e3⟩:=ih ht (by simpa using hk);refine⟨decide (a=b')&&b1,b2,by simp[eqC,e1],by simpa using e2,by rw[e3,Bool.and_assoc]⟩
     ·cases h
    ·cases h
theorem zh4 {P:Program}{w:World}{G:Gh}{T:TokF}:∀ {fs:List Field}{i:Nat}{xs ys:List AV}{b:Bool}{us vs:Array Value},zgo P i fs=true->eqC xs ys=some b->zlS P fs=xs.length->
  (∀j (h:j<xs.length),∃u,us[i+j]?=some u/\RelA G T w xs[j] u)->(∀j (h:j<ys.length),∃u,vs[i+j]?=some u/\RelA G T w ys[j] u)->
  (Op.eqFields 9999 us vs fs).run P w = .ok b w
 | [],i,xs,ys,b,us,vs,_,h,hl,_,_=>by
  have e:xs=[]:=List.eq_nil_of_length_eq_zero hl.symm;subst e;have e2:=znm h;have e:ys=[]:=List.eq_nil_of_length_eq_zero e2.symm;subst e;simp only[eqC,Option.some.injEq] at h;subst h;simp[Op.eqFields]
 |f::fs,i,xs,ys,b,us,vs,hf,he,hl,hx,hy=>by
  have hlen:=znm he;simp only[zlS] at hl;simp only[zgo,xad,bne_iff_ne] at hf;obtain⟨⟨⟨f1,f2⟩,f3⟩,f4⟩:=hf;have f2':=Nat.eq_of_beq_eq_true f2;obtain⟨b1,b2,e1,e2,e3⟩:=ztj (k:=subF P f) he (by omega);have ih:=zh4 (P:=P) (w:=w) (us:=us) (vs:=vs) f4 e2 (by rw[List.length_drop];omega)
   (fun j h=>by
    rw[List.length_drop] at h;obtain⟨u,h1,h2⟩:=hx (subF P f+j) (by omega);exact⟨u,by rw[Nat.add_assoc];exact h1,by rw[List.getElem_drop];exact h2⟩)
   (fun j h=>by
    rw[List.length_drop] at h;obtain⟨u,h1,h2⟩:=hy (subF P f+j) (by omega);exact⟨u,by rw[Nat.add_assoc];exact h1,by rw[List.getElem_drop];exact h2⟩)
  have key:∃u v,(part f.type us f.offset).run P w = .ok u w/\(part f.type vs f.offset).run P w = .ok v w/\(Op.equalIn 9999 f.type u v).run P w = .ok b1 w:=by
   split at f3
   ·rename_i kd hk;have hs:subF P f=1:=by unfold subF;rw[hk]
    rw[hs] at e1 hl;obtain⟨u,hu,hru⟩:=hx 0 (by omega);obtain⟨v,hv,hrv⟩:=hy 0 (by omega);rcases xs with _|⟨x,xr⟩
    ·simp at hl
    rcases ys with _|⟨y,yr⟩
    ·simp at hlen
    simp only[List.getElem_cons_zero] at hru hrv;simp only[List.take_succ_cons,List.take_zero] at e1;unfold eqC at e1;split at e1
    ·rename_i h1 _;simp at h1
    ·rename_i a r b' s h1 h2;simp only[List.cons.injEq] at h1 h2;obtain⟨rfl,rfl⟩:=h1;obtain⟨rfl,rfl⟩:=h2;simp only[eqC,Bool.and_true,Option.some.injEq] at e1;have hu':=hru.int_eq;have hv':=hrv.int_eq;subst hu' hv';refine⟨.int .i64 a,.int .i64 b', ?_, ?_, ?_⟩
     ·have hu0:us[i]?=some (.int .i64 a):=by simpa using hu
      simp only[part,isAgg,Sem.run_bind,run_underlying hk,Result.andThen_ok,Sem.run_pure,f2',hu0,Bool.false_eq_true,if_false]
     ·have hv0:vs[i]?=some (.int .i64 b'):=by simpa using hv
      simp only[part,isAgg,Sem.run_bind,run_underlying hk,Result.andThen_ok,Sem.run_pure,f2',hv0,Bool.false_eq_true,if_false]
     ·rw[show(9999:Nat)=9998+1 from rfl,run_equalIn_int w 9998 f.type .i64 kd a b' hk,<-e1];congr 1
    ·cases e1
   ·rename_i fs' hk;simp only[xad] at f3;obtain⟨⟨g1,g2⟩,g3⟩:=f3;have hheld:P.stoodInHeld f.type=false:=by
     split at g1
     ·cases g1
     ·assumption
    have hund:P.underlying f.type=some (.struct (P.fieldsOf f.type)):=by rw[hk];simp[Program.fieldsOf,hk]
    have hs:subF P f=(P.fieldsOf f.type).size:=by unfold subF;rw[hk]
    have hty:TyS P f.type (P.fieldsOf f.type).size true:=by
     split at g3
     ·rename_i k hg;rw[<-Nat.eq_of_beq_eq_true g3];exact TyS.of hg
     ·cases g3
    have hpart:∀cs:Array Value,(part f.type cs f.offset).run P w = .ok (.agg (cs.extract i (i+(P.fieldsOf f.type).size))) w:=fun cs=>by
     simp only[part,Sem.run_bind,hty.run_agg,hty.run_size,Result.andThen_ok,Sem.run_pure,f2',if_true]
    refine⟨_,_,hpart us,hpart vs, ?_⟩;rw[show(9999:Nat)=9998+1 from rfl,run_equalIn_agg w 9998 f.type _ _ hund hheld];refine zh5 (d:=9997) (G:=G) (T:=T) (i:=0) g2 e1 (by rw[List.length_take,Array.length_toList,hs];omega) (fun j h=>?_) (fun j h=>?_)
    ·rw[List.length_take] at h;obtain⟨u,h1,h2⟩:=hx j (by omega);refine⟨u, ?_,by rw[List.getElem_take];exact h2⟩;rw[Array.getElem?_extract,if_pos (by have:=(Array.getElem?_eq_some_iff.1 h1).1;omega),Nat.zero_add];exact h1
    ·rw[List.length_take] at h;obtain⟨u,h1,h2⟩:=hy j (by omega);refine⟨u, ?_,by rw[List.getElem_take];exact h2⟩;rw[Array.getElem?_extract,if_pos (by have:=(Array.getElem?_eq_some_iff.1 h1).1;omega),Nat.zero_add];exact h1
   ·cases f3
  obtain⟨u,v,p1,p2,p3⟩:=key;simp only[Op.eqFields];rw[if_pos f1];simp only[Sem.run_bind,p1,p2,Result.andThen_ok,p3];subst e3;cases b1 with
  |true=>simp[ih]
  |false=>simp
theorem zuM {P:Program}{w:World}{G:Gh}{T:TokF}{t:TypeId}{xs ys:List AV}{b:Bool}{u v:Value}{k:Nat} (ht:EqT2 P t k) (hl0:xs.length=k) (he:eqC xs ys=some b) (hu:RelA G T w (.agg xs) u) (hv:RelA G T w (.agg ys) v):
  ∃us vs,u = .agg us/\v = .agg vs/\(Op.equalIn 10000 t (.agg us) (.agg vs)).run P w = .ok b w:=by
 cases hu with
 |agg h1 h2=>
  cases hv with
  |agg h3 h4=>
   refine⟨_,_,rfl,rfl, ?_⟩;rw[show(10000:Nat)=9999+1 from rfl,run_equalIn_agg w 9999 t _ _ ht.und ht.held];refine zh4 (G:=G) (T:=T) (i:=0) ht.fld he (ht.len.trans hl0.symm) (fun j h=>?_) (fun j h=>?_)
   ·rename_i us vs;have hj:j<us.size:=by rw[h1];exact h
    exact⟨us[j],by rw[Nat.zero_add,Array.getElem?_eq_getElem hj],h2 j h hj⟩
   ·rename_i us vs;have hj:j<vs.size:=by rw[h3];exact h
    exact⟨vs[j],by rw[Nat.zero_add,Array.getElem?_eq_getElem hj],h4 j h hj⟩
section
variable {c:Ctx}{all:Array Oper}{chk:List Rec->Prop}{os:List Oper}{recs:List Rec}{env:Env}{hp:Hp}{Q:St->Prop}
variable {d ty:Nat}{pos:String}{af:Array Edge}{g:Option (Nat×Bool)}{pg:List (Nat×AV)}
variable {t yt:TypeId}{x y:Operand}
theorem Walk.eqV2 {xs ys:List AV}{b:Bool}{k:Nat} (ht:EqT2 c.P t k) (hg:GH all env g pg) (hd:Nat.blt d c.n=true) (hx:opd env x=some (.agg xs)) (hy:opd env y=some (.agg ys)) (he:eqC xs ys=some b) (hl:xs.length=k)
  (hn:Walk c all chk os (zao (pg++(opF x (.agg xs)++opF y (.agg ys))) [] [] ⟨some (d,.d (.bool b)),[]⟩::recs) ⟨(d,.d (.bool b))::env,hp⟩ Q):
  Walk c all chk (⟨some d,.binOp .eql t x y yt,ty,pos,af,g⟩::os) recs ⟨env,hp⟩ Q:=by
 refine xba hg hd hx hy (fun a G T w h1 h2=>⟨.bool b, ?_,.d (.bool _)⟩) hn;obtain⟨us,vs,e1,e2,e3⟩:=zuM ht hl he h1 h2;simp only[execOp,e1,e2];simp only[Sem.run_bind,run_eqGuard_agg w .eql t x y us vs ht.grd,Result.andThen_ok,run_eql_struct,e3,Sem.run_pure]
end
theorem ztr (L:List Nat) (hp:Hp) (i:Nat):getH (L.map (fun j=>(j,(none:Option Res)))++hp) i=if i∈L then none else getH hp i:=by
 induction L with
 |nil=>simp
 |cons x r ih=>
  simp only[xae,xag,zak,List.mem_cons];by_cases h:i=x
  ·subst h;simp
  ·simp[h,ih]
section
variable {c:Ctx}
theorem R.drop {G:Gh}{s:St}{a:Act}{w:World} (hr:R c G s a w) (L:List Nat) (hk:∀i l,c.kept i=some l->i∉L):R c G ⟨s.env,L.map (fun j=>(j,none))++s.hp⟩ a w:=by
 have hg:=ztr L s.hp;have hT:∀i p,tokf (L.map (fun j=>(j,(none:Option Res)))++s.hp) i=some p->tokf s.hp i=some p:=fun i p h=>by
  obtain⟨n,k⟩:=p;have:=zaw.1 h;rw[hg] at this;split at this
  ·cases this
  ·exact zaw.2 this
 have hm:∀ {x:AV}{v:Value},RelA G (tokf s.hp) w x v->RelA G (tokf (L.map (fun j=>(j,(none:Option Res)))++s.hp)) w x v:=fun hx=>
  hx.mono (fun _ _ ho=>⟨ho,rfl⟩) (fun _ _=> .inl rfl) (fun i _ p hp=>⟨hT i p hp,fun _ _=>⟨rfl,rfl⟩⟩)
 have hs:∀i r,getH (L.map (fun j=>(j,(none:Option Res)))++s.hp) i=some r->getH s.hp i=some r:=fun i r h=>by
  rw[hg] at h;split at h
  ·cases h
  ·exact h
 have hss:∀i,(getH (L.map (fun j=>(j,(none:Option Res)))++s.hp) i).isSome->(getH s.hp i).isSome:=fun i h=>by
  obtain⟨r,hr⟩:=Option.isSome_iff_exists.1 h;rw[hs i r hr];rfl
 refine⟨hr.size,hr.defers,fun i v h=>hm (hr.slots i v h),fun i r h=>?_,fun i j h1 h2=>hr.disj i j (hss i h1) (hss j h2),fun i h=>hr.new i (hss i h),hr.frm,hr.top,fun i l hl=>?_⟩
 ·have hh:=hr.heap i r (hs i r h);cases r with
  |box cs=>
   obtain⟨b,vs,e,h1,h2,h3,h4,h5⟩:=hh;exact⟨b,vs,e,h1,h2,h3,h4,fun j hj hv=>hm (h5 j hj hv)⟩
  |tok m k=>exact hh
  |map ks=>exact hh
  |tree cs=>exact zbr hh rfl (fun _ _=>⟨rfl,rfl⟩) (Nat.le_refl _) (fun _ _ _=>hm)
 ·obtain⟨k1,k2,k3⟩:=hr.kept i l hl;refine⟨k1, ?_, ?_⟩
  ·show(getH (L.map (fun j=>(j,(none:Option Res)))++s.hp) i).isSome
   rw[hg,if_neg (hk i l hl)];exact k2
  ·show tokf (L.map (fun j=>(j,(none:Option Res)))++s.hp) i=none
   cases h:tokf (L.map (fun j=>(j,(none:Option Res)))++s.hp) i with
   |none=>rfl
   |some p=>rw[hT i p h] at k3;cases k3
inductive RowT (hp:Hp):List AV->List D->List (Nat×Nat×Nat)->Prop
 |nil:RowT hp [] [] []
 |sc {x cs ds js} (hs:zks x=true) (h:RowT hp cs ds js):RowT hp (.d x::cs) (x::ds) js
 |ni {cs ds js} (h:RowT hp cs ds js):RowT hp (.nils::cs) (.sl []::ds) js
 |gt {j zs n k cs ds js} (hj:getH hp j=some (.tok n k)) (hn:n=zs.length) (h:RowT hp cs ds js):RowT hp (.gt j zs::cs) (.sl zs::ds) ((j,n,k)::js)
theorem RowT.move {hp hp':Hp}{cs:List AV}{ds:List D}{js:List (Nat×Nat×Nat)} (h:RowT hp cs ds js):(∀q,q∈js->getH hp' q.1=some (.tok q.2.1 q.2.2))->RowT hp' cs ds js:=by
 induction h with
 |nil=>intro _;exact .nil
 |sc hs _ ih=>intro h;exact .sc hs (ih h)
 |ni _ ih=>intro h;exact .ni (ih h)
 |gt hj hn _ ih=>intro h;exact .gt (h (_,_,_) List.mem_cons_self) hn (ih fun q hq=>h q (List.mem_cons_of_mem _ hq))
theorem RowT.len {hp:Hp}{cs:List AV}{ds:List D}{js:List (Nat×Nat×Nat)} (h:RowT hp cs ds js):ds.length=cs.length:=by
 induction h with
 |nil=>rfl
 |sc _ _ ih=>simp[ih]
 |ni _ ih=>simp[ih]
 |gt _ _ _ ih=>simp[ih]
end
section
variable {c:Ctx}{env:Env}{hp:Hp}{K:Kt}{code:Code}{ids:List Nat}
theorem RelA.mc_eq {G:Gh}{T:TokF}{w:World}{id n cap:Nat}{v:Value} (h:RelA G T w (.mc id n cap) v):∃b,((G.loc id).head?=some b/\T id=none)/\v = .slice (some ⟨b,0,none⟩) n cap/\n<=cap:=by
 cases h with|mc h hT hcap=>exact⟨_,⟨h,hT⟩,rfl,hcap⟩
theorem Rel.fixC (hkp:KeptIn c.kept ids) (t id k:Nat){xs:List (List D)} (ht:getE env t=some (.gv id xs)) (hb:getH hp id=some (.tok xs.length k)) (hid:za4 id ids=false) (hx0:xs≠[]){a:Act}{w:World} (hrel:Rel c ⟨env,hp⟩ a w):
  ∃cap,xs.length<=cap/\Rel c ⟨(t,.mc id xs.length cap)::env,(id,some (.box (xs.flatten.map .d++List.replicate ((cap-xs.length)*k) .any)))::hp⟩ a w:=by
 obtain⟨G,hr⟩:=hrel;have hT:tokf hp id=some (xs.length,k):=zaw.2 hb;have hsl:=hr.slots t _ ht;obtain⟨⟨ad,cap0,hv0⟩,hcl⟩:=hsl.gv_inv;obtain⟨hkx,htip⟩:=(hcl _ _ hT).2 rfl;have hkne:∀i l,c.kept i=some l->i≠id:=fun i l hk e=>by
  subst e;have:=zaU.2 (hkp.mem i l hk);rw[this] at hid;cases hid
 have hm:∀(r:Option Res),(∀n k,r≠some (.tok n k))->∀ {x:AV}{v:Value},RelA G (tokf hp) w x v->(r.isSome->id∉x.ids->True)->RelA G (tokf ((id,r)::hp)) w x v:=by
  intro r hnr x v hx _;refine hx.mono (fun _ _ ho=>⟨ho,rfl⟩) (fun _ _=> .inl rfl) (fun i _ p hp'=>?_);obtain⟨n,q⟩:=p;have:=zaw.1 hp';rw[zak] at this;split at this
  ·exact absurd this (hnr n q)
  ·exact⟨zaw.2 this,fun _ _=>⟨rfl,rfl⟩⟩
 have base:∀(r:Option Res) (v:AV),(∀n k,r≠some (.tok n k))->RelA G (tokf ((id,r)::hp)) w v (a.tmps.getD t undef)->(∀x,r=some x->RelR G (tokf ((id,r)::hp)) w id x)->
   Rel c ⟨(t,v)::env,(id,r)::hp⟩ a w:=by
  intro r v hnr hv hrr;have hsome:∀i,(getH ((id,r)::hp) i).isSome->(getH hp i).isSome:=fun i hi=>by
   rw[zak] at hi;split at hi
   ·rename_i e;subst e;rw[hb];rfl
   ·exact hi
  refine⟨G,hr.size,hr.defers,fun i x hi=>?_,fun i x hi=>?_,fun i j q1 q2=>hr.disj i j (hsome i q1) (hsome j q2),fun i q1=>hr.new i (hsome i q1),hr.frm,hr.top,fun i l hk=>?_⟩
  ·simp only[getE] at hi;cases hti:Nat.beq t i with
   |true=>
    have:=Nat.eq_of_beq_eq_true hti;subst this;simp only[hti,cond_true,Option.some.injEq] at hi;subst hi;exact hv
   |false=>
    simp only[hti,cond_false] at hi;exact hm r hnr (hr.slots i x hi) (fun _ _=>trivial)
  ·have hi':getH ((id,r)::hp) i=some x:=hi;rw[zak] at hi';split at hi'
   ·rename_i e;subst e;exact hrr x hi'
   ·have hh:=hr.heap i x hi';cases x with
    |box cs2=>
     obtain⟨b2,vs2,e2,q1,q2,q3,q4,q5⟩:=hh;exact⟨b2,vs2,e2,q1,q2,q3,q4,fun j hj hv=>hm r hnr (q5 j hj hv) (fun _ _=>trivial)⟩
    |tok m q=>exact hh
    |map ks=>exact hh
    |tree cs2=>exact zbr hh rfl (fun _ _=>⟨rfl,rfl⟩) (Nat.le_refl _) (fun _ _ _ h=>hm r hnr h (fun _ _=>trivial))
  ·have hk':=hr.kept i l hk;have hne:=hkne i l hk;show(G.loc i).head?=l.head?/\(getH ((id,r)::hp) i).isSome/\tokf ((id,r)::hp) i=none
   have hg:getH ((id,r)::hp) i=getH hp i:=by rw[zak,if_neg hne]
   refine⟨hk'.1,by rw[hg];exact hk'.2.1, ?_⟩;have h2:=hk'.2.2;unfold tokf at h2 ⊢;rw[hg];exact h2
 rcases htip with ⟨h1,h2,h3⟩|⟨b,cap,cs,et,h1,h2,h3,h4,h5,h6,h7⟩
 ·exact absurd (List.eq_nil_of_length_eq_zero h2) hx0
 ·have hnt:tokf ((id,some (Res.box (xs.flatten.map .d++List.replicate ((cap-xs.length)*k) .any)))::hp) id=none:=by
   unfold tokf;rw[zak,if_pos rfl]
  have hmul:xs.length*k+(cap-xs.length)*k=cap*k:=by rw[<-Nat.add_mul];congr 1;omega
  refine⟨cap,h6,base (some (.box (xs.flatten.map .d++List.replicate ((cap-xs.length)*k) .any))) _ (fun _ _=>by simp) ?_ (fun x h=>?_)⟩
  ·have hv1:a.tmps.getD t undef = .slice (some ⟨b,0,none⟩) xs.length cap:=h2;rw[hv1];exact .mc (zg5 h1) hnt h6
  ·cases h
   refine⟨b,cs,et,h1,h4, ?_,h3,fun i hi hv=>?_⟩
   ·rw[xaa,xac,zdD hkx,List.length_replicate];omega
   ·by_cases hi':i<xs.length*k
    ·have hlt:i<(xs.flatten.map AV.d).length:=by rw[xac,zdD hkx];exact hi'
     rw[List.getElem_append_left hlt];have hkpos:0<k:=by
      rcases Nat.eq_zero_or_pos k with h|h
      ·subst h;simp at hi'
      ·exact h
     have hq:i / k<xs.length:=Nat.div_lt_of_lt_mul (by rw[Nat.mul_comm];exact hi');have hrm:i % k<k:=Nat.mod_lt _ hkpos;have e1:=zhn hkx hq hrm;rw[Nat.div_add_mod'] at e1;rw[List.getElem?_eq_getElem hlt] at e1;rw[Option.some.inj e1];have h8:=h7 (i / k) hq (i % k) (by rw[hkx _ (List.getElem_mem hq)];exact hrm);rw[Nat.div_add_mod'] at h8;have e2:cs.getD i undef=cs[i]:=by simp[Array.getD,hv]
     rw[e2] at h8;exact .d h8
    ·have hge:(xs.flatten.map AV.d).length<=i:=by rw[xac,zdD hkx];omega
     rw[List.getElem_append_right hge,List.getElem_replicate];exact .any _
theorem CWp.fixC (hkp:KeptIn c.kept ids) (t id k:Nat){xs:List (List D)} (ht:getE env t=some (.gv id xs)) (hb:getH hp id=some (.tok xs.length k)) (hid:za4 id ids=false) (hx0:xs≠[])
  (hn:∀cap,xs.length<=cap->CWp c code ⟨(t,.mc id xs.length cap)::env,(id,some (.box (xs.flatten.map .d++List.replicate ((cap-xs.length)*k) .any)))::hp⟩ K):CWp c code ⟨env,hp⟩ K:=by
 intro a w hrel;obtain⟨cap,h,hr⟩:=Rel.fixC hkp t id k ht hb hid hx0 hrel;exact hn cap h a w hr
theorem R.mcGl {G:Gh}{a:Act}{w:World} (hr:R c G ⟨env,hp⟩ a w) (hkp:KeptIn c.kept ids){id id2 n k cap:Nat}{xs:List (List D)}{cs:List AV}{v:Value} (hid:za4 id ids=false) (hv:RelA G (tokf hp) w (.mc id n cap) v) (hb:getH hp id=some (.box cs))
  (hn:n=xs.length) (hkx:∀x,x∈xs->x.length=k) (hl:cs.length=cap*k) (hc:cs.take (n*k)=xs.flatten.map .d) (hf:zax env hp [id2]=true):
  ∃G',R c G' ⟨env,(id2,some (.tok n k))::(id,none)::hp⟩ a w/\RelA G' (tokf ((id2,some (.tok n k))::(id,none)::hp)) w (.gl id2 xs) v:=by
 obtain⟨h0,hocc⟩:=zbx hf id2 (by simp);have h0':getH hp id2=none:=h0;have hne:id2≠id:=fun e=>by subst e;rw[h0'] at hb;cases hb
 obtain⟨b1,hl1,hv0,hcap⟩:=hv.mc_eq;have s1:(getH hp id).isSome:=by rw[hb];rfl
 obtain⟨b,us,et,e1,e3,e4,e7,e8⟩:=hr.heap id _ hb;have hbb:b1=b:=zcB hl1.1 e1;subst hbb;have hbd:=(hr.heap id _ hb).bound;let G':Gh:={ F:=fun x=>bif Nat.beq x b1 then n*k else G.F x,loc:=fun i=>bif Nat.beq i id2 then [b1] else G.loc i }
 have l1:G'.loc id2=[b1]:=by simp[G']
 have l3:∀i,i≠id2->G'.loc i=G.loc i:=fun i h2=>by simp[G',zer h2]
 have hFb:G'.F b1=n*k:=by simp[G']
 have hout:∀x,x≠b1->G'.F x=G.F x:=fun x hx=>by simp[G',zer hx]
 have g1:getH ((id2,some (Res.tok n k))::(id,none)::hp) id2=some (.tok n k):=by rw[zak,if_pos rfl]
 have g2:getH ((id2,some (Res.tok n k))::(id,none)::hp) id=none:=by rw[zak,if_neg (Ne.symm hne),zak,if_pos rfl]
 have t2:tokf ((id2,some (Res.tok n k))::(id,none)::hp) id=none:=by unfold tokf;rw[g2]
 have t1:tokf ((id2,some (Res.tok n k))::(id,none)::hp) id2=some (n,k):=zaw.2 g1;have hfle:∀x o,o<G.F x->o<G'.F x:=fun x o ho=>by
  by_cases hx:x=b1
  ·subst hx;rw[e7] at ho;omega
  ·rw[hout x hx];exact ho
 have hturn:Turn c G ⟨env,hp⟩ w G' ((id2,some (.tok n k))::(id,none)::hp) [id,id2]:=by
  refine⟨fun i hi=>?_,fun i hi=>?_,fun x hx=>?_,hfle,fun x hx=>?_,fun i hi=>?_,fun i hi hs x hx=>?_,fun i hi j hj hij h1 h2 x hx=>?_,fun i hi l hl=>?_⟩
  ·simp only[List.mem_cons,List.not_mem_nil,or_false,not_or] at hi;rw[zak,if_neg hi.2,zak,if_neg hi.1]
  ·simp only[List.mem_cons,List.not_mem_nil,or_false,not_or] at hi;exact l3 i hi.2
  ·exact hout x (fun e=>by subst e;exact hx id (by simp) s1 (by rw[e1];simp))
  ·by_cases hx':x=b1
   ·subst hx';have:=hbd x (by rw[e1];simp);omega
   ·rw[hout x hx'];exact hr.top x hx
  ·simp only[List.mem_cons,List.not_mem_nil,or_false] at hi;rcases hi with rfl|rfl
   ·exact .inr ⟨.inl (l3 i (Ne.symm hne)),fun p hp=>by rw[t2] at hp;cases hp⟩
   ·exact .inl hocc
  ·simp only[List.mem_cons,List.not_mem_nil,or_false] at hi;rcases hi with rfl|rfl
   ·rw[g2] at hs;cases hs
   ·rw[l1] at hx;exact⟨id,by simp,s1,by rw[e1];exact hx⟩
  ·simp only[List.mem_cons,List.not_mem_nil,or_false] at hi hj;rcases hi with rfl|rfl
   ·rw[g2] at h1;cases h1
   ·rcases hj with rfl|rfl
    ·rw[g2] at h2;cases h2
    ·exact absurd rfl hij
  ·simp only[List.mem_cons,List.not_mem_nil,or_false] at hi;have hk0:=hr.kept i l hl;rcases hi with rfl|rfl
   ·have:=zaU.2 (hkp.mem i l hl);rw[this] at hid;cases hid
   ·have:=hk0.2.1;rw[show(⟨env,hp⟩:St).hp=hp from rfl,h0'] at this;cases this
 refine⟨G',hturn.fin hr (fun i hi r hri=>?_), ?_⟩
 ·simp only[List.mem_cons,List.not_mem_nil,or_false] at hi;rcases hi with rfl|rfl
  ·rw[g2] at hri;cases hri
  ·rw[g1] at hri;cases hri
   intro b hb;rw[l1] at hb;exact hbd b (by rw[e1];exact hb)
 ·rw[hv0];have hle:n*k<=cap*k:=Nat.mul_le_mul_right _ hcap;have hrd:RelD G'.F w (.sl xs) (.slice (some ⟨b1,0,none⟩) n cap):=by
   subst hn;refine .sl xs k b1 0 cap (fun q=>us.getD q undef) hkx hcap (fun q hq=>⟨by rw[hFb];omega, ?_⟩) (fun i hi j hj=>?_)
   ·have:q<us.size:=by omega
    simp[World.cell?,e3,this]
   ·have hj':j<k:=by rw[<-hkx _ (List.getElem_mem hi)];exact hj
    have hq:i*k+j<xs.length*k:=zkg hi hj';have hcs:i*k+j<cs.length:=by omega
    have hus:i*k+j<us.size:=by omega
    have h9:=e8 (i*k+j) hcs hus;have e9:cs[i*k+j]?=some (.d (xs[i][j]'hj)):=by
     have:=zhn hkx hi hj';rw[<-hc,List.getElem?_take_of_lt hq] at this;exact this
    rw[List.getElem?_eq_getElem hcs] at e9;rw[Option.some.inj e9] at h9;have e2:us.getD (i*k+j) undef=us[i*k+j]:=by simp[Array.getD,hus]
    rw[e2];exact h9.d_inv.mono (fun x o ho=>⟨hfle x o ho,rfl⟩)
  refine .gl hrd (fun n' k' hT=>?_);rw[t1] at hT;cases hT;exact⟨by omega,fun _=>⟨hkx,.inr ⟨b1,cap,us,et,l1,rfl,hFb,e3,by omega,hcap⟩⟩⟩
theorem CWp.mcGl (hkp:KeptIn c.kept ids) (t id id2 k:Nat){n cap:Nat}{xs:List (List D)}{cs:List AV} (ht:getE env t=some (.mc id n cap)) (hb:getH hp id=some (.box cs)) (hid:za4 id ids=false)
  (hn:n=xs.length) (hkx:∀x,x∈xs->x.length=k) (hl:cs.length=cap*k) (hc:cs.take (n*k)=xs.flatten.map .d) (hf:zax env hp [id2]=true)
  (hx:CWp c code ⟨(t,.gl id2 xs)::env,(id2,some (.tok n k))::(id,none)::hp⟩ K):CWp c code ⟨env,hp⟩ K:=by
 rintro a w ⟨G,hr⟩
 obtain⟨G',h1,h2⟩:=hr.mcGl hkp hid (hr.slots t _ ht) hb hn hkx hl hc hf;exact hx a w ⟨G',h1.slot h2⟩
end
section
variable {c:Ctx}{all:Array Oper}{chk:List Rec->Prop}{os:List Oper}{recs:List Rec}{env:Env}{hp:Hp}{Q:St->Prop}
variable {d ty:Nat}{pos:String}{af:Array Edge}{g:Option (Nat×Bool)}{pg:List (Nat×AV)}
variable {t:TypeId}{x y:Operand}{id:Nat}
theorem xaX {e k yb m cap:Nat}{kd:IntKind}{n:Int}{i:Nat} (ht:SlT c.P t e k yb) (hg:GH all env g pg) (hd:Nat.blt d c.n=true)
  (hx:opd env x=some (.mc id m cap)) (hy:opd env y=some (.d (.int kd n))) (hi:n = ↑i) (hlt:i<m)
  (hn:Walk c all chk os (zao (pg++(opF x (.mc id m cap)++opF y (.d (.int kd n)))) [] [] ⟨some (d,.ref id (i*k)),[]⟩::recs) ⟨(d,.ref id (i*k))::env,hp⟩ Q):
  Walk c all chk (⟨some d,.indexAddr t x y,ty,pos,af,g⟩::os) recs ⟨env,hp⟩ Q:=by
 refine xba hg hd hx hy (fun a G T w h1 h2=>?_) hn;obtain⟨b,hl,he,hcap⟩:=h1.mc_eq;refine⟨.pointer (some ⟨b,0+i*k,none⟩), ?_,by rw[Nat.zero_add];exact .ref hl.1 hl.2⟩;simp only[execOp,he,h2.int_eq,hi,Sem.run_bind,zem ht hlt,Result.andThen_ok,Sem.run_pure]
end
structure Tabs where
 ty:Nat->Option (Nat×Bool)
 sl:Nat->Bool
 st:Nat->Bool
 fd:Nat->Nat->Option Nat
structure TabsOK (P:Program) (T:Tabs):Prop where
 ty:∀t k b,T.ty t=some (k,b)->TyS P t k b
 sl:∀t,T.sl t=true->∃e k y,SlT P t e k y
 st:∀t,T.st t=true->P.underlying t=some .string
 fd:∀t f o,T.fd t f=some o->Fd P t f o
structure Sp (b:Bool) (X Y:Prop):Prop where
 t:b=true->X
 f:b=false->Y
structure Ar (n:Int) (X:Prop):Prop where
 b:I64 n
 k:X
def kget:List (Nat×Bool)->Nat->Option Bool
 | [],_=>none
 |(k,v)::r,i=>bif Nat.beq k i then some v else kget r i
def kdel:List (Nat×Bool)->Nat->List (Nat×Bool)
 | [],_=>[]
 |(k,v)::r,i=>bif Nat.beq k i then kdel r i else (k,v)::kdel r i
def memN:List Nat->Nat->Bool
 | [],_=>false
 |k::r,i=>bif Nat.beq k i then true else memN r i
def KN (env:Env):List (Nat×Bool)->Prop
 | []=>True
 |(e,v)::r=>(∃b,getE env e=some (.d (.bool b))/\b=v)/\KN env r
abbrev Cont:=List (Nat×AV)->List (Nat×Res)->AV->Prop
def evB (op:BinOp) (u v:D) (k:D->Prop) (stuck:Prop):Prop:=
 match u,v with
 | .int a m,.int b n=>match a,b with
  | .i64,.i64=>match op with
   | .eql=>k (.bool (decide (m=n)))
   | .neq=>k (.bool (!decide (m=n)))
   | .lss=>k (.bool (decide (m<n)))
   | .leq=>k (.bool (decide (m<=n)))
   | .gtr=>k (.bool (decide (n<m)))
   | .geq=>k (.bool (decide (n<=m)))
   | .add=>Ar (m+n) (k (.int .i64 (m+n)))
   | .sub=>Ar (m-n) (k (.int .i64 (m-n)))
   | .mul=>Ar (m*n) (k (.int .i64 (m*n)))
   |_=>stuck
  | .u8,.u8=>match op with
   | .eql=>k (.bool (decide (m=n)))
   | .neq=>k (.bool (!decide (m=n)))
   | .lss=>k (.bool (decide (m<n)))
   | .leq=>k (.bool (decide (m<=n)))
   | .gtr=>k (.bool (decide (n<m)))
   | .geq=>k (.bool (decide (n<=m)))
   |_=>stuck
  |_,_=>stuck
 | .str l,.str m=>match op with
  | .eql=>k (.bool (decide (l=m)))
  | .neq=>k (.bool (!decide (l=m)))
  |_=>stuck
 |_,_=>stuck
def evV (T:Tabs) (env:Env) (hp:Hp) (kn:List (Nat×Bool)) (k:Cont) (stuck:Prop) (op:Op):Prop:=
 match op with
 | .move x=>match opd env x with
  |some v=>k (opF x v) [] v
  |none=>stuck
 | .assign x=>match opd env x with
  |some v=>k (opF x v) [] v
  |none=>stuck
 | .pick (.tmp t) y z=>match getE env t with
  |some (.d (.bool b))=>match kget kn t with
   |some true=>match opd env y with
    |some v=>k (opF (.tmp t) (.d (.bool b))++opF y v) [] v
    |none=>stuck
   |some false=>match opd env z with
    |some v=>k (opF (.tmp t) (.d (.bool b))++opF z v) [] v
    |none=>stuck
   |none=>stuck
  |_=>stuck
 | .binOp op _ x y _=>match opd env x,opd env y with
  |some (.d u),some (.d v)=>evB op u v (fun r=>k (opF x (.d u)++opF y (.d v)) [] (.d r)) stuck
  |_,_=>stuck
 | .unOp .not _ x=>match opd env x with
  |some (.d (.bool b))=>k (opF x (.d (.bool b))) [] (.d (.bool (!b)))
  |_=>stuck
 | .load t x=>match opd env x with
  |some (.ref id off)=>match getH hp id with
   |some (.box cs)=>match T.ty t with
    |some (_,false)=>match cs[off]? with
     |some v=>k (opF x (.ref id off)) [(id,.box cs)] v
     |none=>stuck
    |some (n,true)=>match cutC cs off n with
     |some r=>k (opF x (.ref id off)) [(id,.box cs)] (.agg r)
     |none=>stuck
    |none=>stuck
   |_=>stuck
  |some (.d (.ptr cs off))=>match T.ty t with
   |some (_,false)=>match cs[off]? with
    |some v=>k (opF x (.d (.ptr cs off))) [] (.d v)
    |none=>stuck
   |some (n,true)=>match cutC cs off n with
    |some r=>match mapD r with
     |some r'=>k (opF x (.d (.ptr cs off))) [] (.agg r')
     |none=>stuck
    |none=>stuck
   |none=>stuck
  |_=>stuck
 | .fieldAddr t x f=>match opd env x with
  |some (.ref id off)=>match T.fd t f with
   |some o=>k (opF x (.ref id off)) [] (.ref id (off+o))
   |none=>stuck
  |some (.d (.ptr cs off))=>match T.fd t f with
   |some o=>k (opF x (.d (.ptr cs off))) [] (.d (.ptr cs (off+o)))
   |none=>stuck
  |_=>stuck
 | .extract x i=>match opd env x with
  |some (.tup vs)=>match vs[i]? with
   |some v=>k (opF x (.tup vs)) [] v
   |none=>stuck
  |_=>stuck
 | .nilCheck x=>match opd env x with
  |some (.ref id off)=>k (opF x (.ref id off)) [] (.ref id off)
  |some (.d (.ptr cs off))=>k (opF x (.d (.ptr cs off))) [] (.d (.ptr cs off))
  |_=>stuck
 | .call ⟨.builtin .len,⟨[x]⟩,⟨[at_]⟩⟩=>match opd env x with
  |some (.d (.str l))=>match T.st at_ with
   |true=>k (opF x (.d (.str l))) [] (.d (.i l.length))
   |false=>stuck
  |some (.d (.sl xs))=>match T.sl at_ with
   |true=>k (opF x (.d (.sl xs))) [] (.d (.i xs.length))
   |false=>stuck
  |some (.gl id xs)=>match T.sl at_ with
   |true=>k (opF x (.gl id xs)) [] (.d (.i xs.length))
   |false=>stuck
  |some (.ms id n)=>match T.sl at_ with
   |true=>k (opF x (.ms id n)) [] (.d (.i n))
   |false=>stuck
  |_=>stuck
 |_=>stuck
section
variable {T:Tabs}{c:Ctx}{all:Array Oper}{chk:List Rec->Prop}{os:List Oper}{recs:List Rec}{env:Env}{hp:Hp}{Q:St->Prop}
variable {d ty:Nat}{pos:String}{af:Array Edge}{g:Option (Nat×Bool)}{pg:List (Nat×AV)}{kn:List (Nat×Bool)}
theorem zeF:∀ {kn:List (Nat×Bool)}{e:Nat}{v:Bool},KN env kn->kget kn e=some v->∃b,getE env e=some (.d (.bool b))/\b=v
 |(k,u)::r,e,v,h,hk=>by
  simp only[kget] at hk;cases hb:Nat.beq k e with
  |true=>simp only[hb,cond_true,Option.some.injEq] at hk;subst hk;obtain rfl:=Nat.eq_of_beq_eq_true hb;exact h.1
  |false=>simp only[hb,cond_false] at hk;exact zeF h.2 hk
theorem zgH {v:AV}:∀ {kn:List (Nat×Bool)},KN env kn->KN ((d,v)::env) (kdel kn d)
 | [],_=>trivial
 |(k,u)::r,h=>by
  simp only[kdel];cases hb:Nat.beq k d with
  |true=>exact zgH h.2
  |false=>
   have hb':Nat.beq d k=false:=by
    cases hd:Nat.beq d k with
    |false=>rfl
    |true=>obtain rfl:=Nat.eq_of_beq_eq_true hd;rw[hd] at hb;cases hb
   refine⟨?_,zgH h.2⟩;simp only[getE,hb',cond_false];exact h.1
theorem zxm {u v:D}{op:BinOp}{t yt:TypeId}{x y:Operand}{k:D->Prop}{stuck W:Prop}
  (hs:stuck->W) (hg:GH all env g pg) (hd:Nat.blt d c.n=true) (hx:opd env x=some (.d u)) (hy:opd env y=some (.d v))
  (hk:∀r,k r->Walk c all chk os (zao (pg++(opF x (.d u)++opF y (.d v))) [] [] ⟨some (d,.d r),[]⟩::recs) ⟨(d,.d r)::env,hp⟩ Q)
  (hW:W=Walk c all chk (⟨some d,.binOp op t x y yt,ty,pos,af,g⟩::os) recs ⟨env,hp⟩ Q)
  (h:evB op u v k stuck):W:=by
 unfold evB at h;split at h
 ·split at h
  ·split at h
   ·exact hW ▸ Walk.eqI hg hd hx hy (hk _ h)
   ·exact hW ▸ Walk.neI hg hd hx hy (hk _ h)
   ·exact hW ▸ Walk.ltI hg hd hx hy (hk _ h)
   ·exact hW ▸ Walk.leI hg hd hx hy (hk _ h)
   ·exact hW ▸ Walk.gtI hg hd hx hy (hk _ h)
   ·exact hW ▸ Walk.geI hg hd hx hy (hk _ h)
   ·exact hW ▸ Walk.addI hg hd hx hy h.b (hk _ h.k)
   ·exact hW ▸ Walk.subI hg hd hx hy h.b (hk _ h.k)
   ·exact hW ▸ Walk.mulI hg hd hx hy h.b (hk _ h.k)
   ·exact hs h
  ·split at h
   ·exact hW ▸ Walk.eqI hg hd hx hy (hk _ h)
   ·exact hW ▸ Walk.neI hg hd hx hy (hk _ h)
   ·exact hW ▸ Walk.ltI hg hd hx hy (hk _ h)
   ·exact hW ▸ Walk.leI hg hd hx hy (hk _ h)
   ·exact hW ▸ Walk.gtI hg hd hx hy (hk _ h)
   ·exact hW ▸ Walk.geI hg hd hx hy (hk _ h)
   ·exact hs h
  ·exact hs h
 ·split at h
  ·exact hW ▸ Walk.eqS hg hd hx hy (hk _ h)
  ·exact hW ▸ Walk.neS hg hd hx hy (hk _ h)
  ·exact hs h
 ·exact hs h
theorem ztk (hT:TabsOK c.P T){op:Op}{k:Cont} (hkn:KN env kn) (hg:GH all env g pg) (hd:Nat.blt d c.n=true)
  (hk:∀pre prh v,k pre prh v->Walk c all chk os (zao (pg++pre) prh [] ⟨some (d,v),[]⟩::recs) ⟨(d,v)::env,hp⟩ Q)
  (h:evV T env hp kn k (Walk c all chk (⟨some d,op,ty,pos,af,g⟩::os) recs ⟨env,hp⟩ Q) op):
  Walk c all chk (⟨some d,op,ty,pos,af,g⟩::os) recs ⟨env,hp⟩ Q:=by
 unfold evV at h;split at h
 ·split at h
  ·rename_i hx;exact Walk.move hg hd hx (hk _ _ _ h)
  ·exact h
 ·split at h
  ·rename_i hx;exact Walk.assign hg hd hx (hk _ _ _ h)
  ·exact h
 ·split at h
  ·rename_i b hx;split at h
   ·rename_i hkt;obtain⟨b',h1,h2⟩:=zeF hkn hkt;rw[hx] at h1;cases h1;split at h
    ·rename_i hy;exact Walk.pickT (x:= .tmp _) hg hd hx h2 hy (hk _ _ _ h)
    ·exact h
   ·rename_i hkt;obtain⟨b',h1,h2⟩:=zeF hkn hkt;rw[hx] at h1;cases h1;split at h
    ·rename_i hy;exact Walk.pickF (x:= .tmp _) hg hd hx h2 hy (hk _ _ _ h)
    ·exact h
   ·exact h
  ·exact h
 ·split at h
  ·rename_i hx hy;exact zxm id hg hd hx hy (fun r hr=>hk _ _ _ hr) rfl h
  ·exact h
 ·split at h
  ·rename_i hx;exact Walk.not hg hd hx (hk _ _ _ h)
  ·exact h
 ·split at h
  ·rename_i hx;split at h
   ·rename_i hh;split at h
    ·rename_i ht;split at h
     ·rename_i hv;exact xa0 (hT.ty _ _ _ ht) hg hd hx hh hv (hk _ _ _ h)
     ·exact h
    ·rename_i ht;split at h
     ·rename_i hv;exact xa1 (hT.ty _ _ _ ht) hg hd hx hh hv (hk _ _ _ h)
     ·exact h
    ·exact h
   ·exact h
  ·rename_i hx;split at h
   ·rename_i ht;split at h
    ·rename_i hv;exact xa2 (hT.ty _ _ _ ht) hg hd hx hv (hk _ _ _ h)
    ·exact h
   ·rename_i ht;split at h
    ·rename_i hv;split at h
     ·rename_i hm;exact Walk.loadPA (hT.ty _ _ _ ht) hg hd hx hv hm (hk _ _ _ h)
     ·exact h
    ·exact h
   ·exact h
  ·exact h
 ·split at h
  ·rename_i hx;split at h
   ·rename_i hf;exact Walk.fieldB (hT.fd _ _ _ hf) hg hd hx (hk _ _ _ h)
   ·exact h
  ·rename_i hx;split at h
   ·rename_i hf;exact Walk.fieldP (hT.fd _ _ _ hf) hg hd hx (hk _ _ _ h)
   ·exact h
  ·exact h
 ·split at h
  ·rename_i hx;split at h
   ·rename_i hv;exact Walk.extract hg hd hx hv (hk _ _ _ h)
   ·exact h
  ·exact h
 ·split at h
  ·rename_i hx;exact Walk.nilCheck (.inl ⟨_,_,rfl⟩) hg hd hx (hk _ _ _ h)
  ·rename_i hx;exact Walk.nilCheck (.inr ⟨_,_,rfl⟩) hg hd hx (hk _ _ _ h)
  ·exact h
 ·split at h
  ·rename_i hx;split at h
   ·rename_i ht;exact Walk.lenS (hT.st _ ht) hg hd hx (hk _ _ _ h)
   ·exact h
  ·rename_i hx;split at h
   ·rename_i ht;obtain⟨_,_,_,ht⟩:=hT.sl _ ht;exact Walk.len ht hg hd hx (hk _ _ _ h)
   ·exact h
  ·rename_i hx;split at h
   ·rename_i ht;obtain⟨_,_,_,ht⟩:=hT.sl _ ht;exact Walk.lenG ht hg hd hx (hk _ _ _ h)
   ·exact h
  ·rename_i hx;split at h
   ·rename_i ht;obtain⟨_,_,_,ht⟩:=hT.sl _ ht;exact Walk.lenM ht hg hd hx (hk _ _ _ h)
   ·exact h
  ·exact h
 ·exact h
end
def evGo (T:Tabs) (stop:List Nat) (c:Ctx) (all:Array Oper) (chk:List Rec->Prop) (Q:St->Prop) (o:Oper) (os:List Oper) (recs:List Rec) (env:Env) (hp:Hp)
  (ih:List Rec->Env->Hp->List (Nat×Bool)->Prop) (d e:Nat) (b:Bool) (kn:List (Nat×Bool)) (op:Op):Prop:=
 match memN stop d with
 |true=>Walk c all chk (o::os) recs ⟨env,hp⟩ Q
 |false=>evV T env hp kn (fun pre prh v=>ih (zao ([(e,.d (.bool b))]++pre) prh [] ⟨some (d,v),[]⟩::recs) ((d,v)::env) hp (kdel kn d)) (Walk c all chk (o::os) recs ⟨env,hp⟩ Q) op
def zpH (T:Tabs) (stop:List Nat) (c:Ctx) (all:Array Oper) (chk:List Rec->Prop) (Q:St->Prop) (o:Oper) (os:List Oper) (ih:List Rec->Env->Hp->List (Nat×Bool)->Prop)
  (recs:List Rec) (env:Env) (hp:Hp) (kn:List (Nat×Bool)):Prop:=
 match o.dst with
  |none=>match o.guard with
   |none=>Walk c all chk (o::os) recs ⟨env,hp⟩ Q
   |some (j,want)=>match (all[j]?).bind (·.dst) with
    |none=>Walk c all chk (o::os) recs ⟨env,hp⟩ Q
    |some e=>match getE env e with
     |some (.tup [])=>ih (zao [(e,.tup [])] [] [] ⟨none,[]⟩::recs) env hp kn
     |some (.d (.bool b))=>match kget kn e,want with
      |some true,true=>Walk c all chk (o::os) recs ⟨env,hp⟩ Q
      |some false,false=>Walk c all chk (o::os) recs ⟨env,hp⟩ Q
      |some _,_=>ih (zao [(e,.d (.bool b))] [] [] ⟨none,[]⟩::recs) env hp kn
      |none,true=>Sp b (Walk c all chk (o::os) recs ⟨env,hp⟩ Q) (ih (zao [(e,.d (.bool b))] [] [] ⟨none,[]⟩::recs) env hp ((e,false)::kn))
      |none,false=>Sp b (ih (zao [(e,.d (.bool b))] [] [] ⟨none,[]⟩::recs) env hp ((e,true)::kn)) (Walk c all chk (o::os) recs ⟨env,hp⟩ Q)
     |_=>Walk c all chk (o::os) recs ⟨env,hp⟩ Q
  |some d=>match Nat.blt d c.n with
   |false=>Walk c all chk (o::os) recs ⟨env,hp⟩ Q
   |true=>match o.guard with
    |none=>match memN stop d with
     |true=>Walk c all chk (o::os) recs ⟨env,hp⟩ Q
     |false=>evV T env hp kn (fun pre prh v=>ih (zao ([]++pre) prh [] ⟨some (d,v),[]⟩::recs) ((d,v)::env) hp (kdel kn d))
       (Walk c all chk (o::os) recs ⟨env,hp⟩ Q) o.op
    |some (j,want)=>match (all[j]?).bind (·.dst) with
     |none=>Walk c all chk (o::os) recs ⟨env,hp⟩ Q
     |some e=>match getE env e with
      |some (.tup [])=>ih (zao [(e,.tup [])] [] [] ⟨some (d,.tup []),[]⟩::recs) ((d,.tup [])::env) hp (kdel kn d)
      |some (.d (.bool b))=>match kget kn e,want with
       |some true,true=>evGo T stop c all chk Q o os recs env hp ih d e b kn o.op
       |some false,false=>evGo T stop c all chk Q o os recs env hp ih d e b kn o.op
       |some _,_=>ih (zao [(e,.d (.bool b))] [] [] ⟨some (d,.tup []),[]⟩::recs) ((d,.tup [])::env) hp (kdel kn d)
       |none,true=>Sp b (evGo T stop c all chk Q o os recs env hp ih d e b ((e,true)::kn) o.op) (ih (zao [(e,.d (.bool b))] [] [] ⟨some (d,.tup []),[]⟩::recs) ((d,.tup [])::env) hp (kdel ((e,false)::kn) d))
       |none,false=>Sp b (ih (zao [(e,.d (.bool b))] [] [] ⟨some (d,.tup []),[]⟩::recs) ((d,.tup [])::env) hp (kdel ((e,true)::kn) d)) (evGo T stop c all chk Q o os recs env hp ih d e b ((e,false)::kn) o.op)
      |_=>Walk c all chk (o::os) recs ⟨env,hp⟩ Q
noncomputable def evW (T:Tabs) (stop:List Nat) (c:Ctx) (all:Array Oper) (chk:List Rec->Prop) (Q:St->Prop) (fin:List Rec->Env->Hp->Prop) (os:List Oper):List Rec->Env->Hp->List (Nat×Bool)->Prop:=
 List.rec (motive:=fun _=>List Rec->Env->Hp->List (Nat×Bool)->Prop) (fun recs env hp _=>fin recs env hp) (fun o os ih=>zpH T stop c all chk Q o os ih) os
section
variable {T:Tabs}{c:Ctx}{all:Array Oper}{chk:List Rec->Prop}{Q:St->Prop}{stop:List Nat}{fin:List Rec->Env->Hp->Prop}
theorem zgI {env:Env}{e:Nat}{b v:Bool}{kn:List (Nat×Bool)} (he:getE env e=some (.d (.bool b))) (hb:b=v) (hk:KN env kn):KN env ((e,v)::kn):=⟨⟨b,he,hb⟩,hk⟩
theorem zjz (hT:TabsOK c.P T) (hfin:∀recs env hp,fin recs env hp->chk recs/\Q ⟨env,hp⟩):∀ {os:List Oper}{recs:List Rec}{env:Env}{hp:Hp}{kn:List (Nat×Bool)},
  KN env kn->evW T stop c all chk Q fin os recs env hp kn->Walk c all chk os recs ⟨env,hp⟩ Q
 | [],recs,env,hp,kn,hkn,h=>by
  unfold evW at h;exact hfin _ _ _ h
 |⟨dst,op,ty,pos,af,g⟩::os,recs,env,hp,kn,hkn,h=>by
  have ih:=fun {recs:List Rec}{env:Env}{hp:Hp}{kn:List (Nat×Bool)}=>@zjz hT hfin os recs env hp kn;replace h:zpH T stop c all chk Q ⟨dst,op,ty,pos,af,g⟩ os (evW T stop c all chk Q fin os) recs env hp kn:=h
  generalize evW T stop c all chk Q fin os=ihf at h ih;unfold zpH at h;cases dst with
  |none=>
   simp only at h;cases g with
   |none=>exact h
   |some g=>
    obtain⟨j,want⟩:=g;simp only at h;split at h
    ·exact h
    ·rename_i e he;split at h
     ·rename_i hu;exact Walk.passU0 rfl he hu rfl (ih hkn h)
     ·rename_i b hb;have pass:∀ {kn':List (Nat×Bool)},b = !want->KN env kn'->ihf (zao [(e,.d (.bool b))] [] [] ⟨none,[]⟩::recs) env hp kn'->
        Walk c all chk (⟨none,op,ty,pos,af,some (j,want)⟩::os) recs ⟨env,hp⟩ Q:=fun h2 hk h=>Walk.pass0 rfl he hb h2 rfl (ih hk h)
      split at h
      ·exact h
      ·exact h
      ·rename_i w1 x1 w2 v hv h1 h2;obtain⟨b',h3,h4⟩:=zeF hkn hv;rw[hb] at h3;cases h3;refine pass ?_ hkn h;cases w1<;>cases v<;>simp_all
      ·exact Walk.split hb (fun hb'=>h.t hb') (fun hb'=>pass hb' (zgI hb hb' hkn) (h.f hb'))
      ·exact Walk.split hb (fun hb'=>pass hb' (zgI hb hb' hkn) (h.t hb')) (fun hb'=>h.f hb')
     ·exact h
  |some d=>
   simp only at h;split at h
   ·exact h
   ·rename_i hd;cases g with
    |none=>
     simp only at h;split at h
     ·exact h
     ·exact ztk hT hkn .none hd (fun pre prh v hk=>ih (zgH hkn) hk) h
    |some g=>
     obtain⟨j,want⟩:=g;simp only at h;split at h
     ·exact h
     ·rename_i e he;split at h
      ·rename_i hu;exact Walk.passU rfl he hu rfl hd (ih (zgH hkn) h)
      ·rename_i b hb;have go:∀ {kn':List (Nat×Bool)},b=want->KN env kn'->evGo T stop c all chk Q ⟨some d,op,ty,pos,af,some (j,want)⟩ os recs env hp ihf d e b kn' op->
         Walk c all chk (⟨some d,op,ty,pos,af,some (j,want)⟩::os) recs ⟨env,hp⟩ Q:=by
        intro kn' h2 hk h;unfold evGo at h;split at h
        ·exact h
        ·exact ztk hT hk (.some he hb h2) hd (fun pre prh v hk'=>ih (zgH hk) hk') h
       have pass:∀ {kn':List (Nat×Bool)},b = !want->KN env kn'->ihf (zao [(e,.d (.bool b))] [] [] ⟨some (d,.tup []),[]⟩::recs) ((d,.tup [])::env) hp (kdel kn' d)->
         Walk c all chk (⟨some d,op,ty,pos,af,some (j,want)⟩::os) recs ⟨env,hp⟩ Q:=fun h2 hk h=>Walk.pass rfl he hb h2 rfl hd (ih (zgH hk) h)
       split at h
       ·rename_i hv;obtain⟨b',h3,h4⟩:=zeF hkn hv;rw[hb] at h3;cases h3;exact go h4 hkn h
       ·rename_i hv;obtain⟨b',h3,h4⟩:=zeF hkn hv;rw[hb] at h3;cases h3;exact go h4 hkn h
       ·rename_i w1 x1 w2 v hv h1 h2;obtain⟨b',h3,h4⟩:=zeF hkn hv;rw[hb] at h3;cases h3;refine pass ?_ hkn h;cases w1<;>cases v<;>simp_all
       ·exact Walk.split hb (fun hb'=>go hb' (zgI hb hb' hkn) (h.t hb')) (fun hb'=>pass hb' (zgI hb hb' hkn) (h.f hb'))
       ·exact Walk.split hb (fun hb'=>pass hb' (zgI hb hb' hkn) (h.t hb')) (fun hb'=>go hb' (zgI hb hb' hkn) (h.f hb'))
      ·exact h
end
noncomputable def evC (T:Tabs) (stop rs:List Nat) (c:Ctx) (x:Code):St->Kt->Prop:=
 Code.rec (motive:=fun _=>St->Kt->Prop)
  (fun s K=>K.n s)
  (fun id all draw s K=>match memN rs id with
   |true=>CWp c (.region id all draw) s K
   |false=>match draw with
    |false=>evW T stop c all (fun _=>True) K.n (fun _ env hp=>K.n ⟨env,hp⟩) all.toList [] s.env s.hp []
    |true=>evW T stop c all (fun recs=>chkB all.toList s recs.reverse=true) K.n (fun recs env hp=>chkB all.toList s recs.reverse=true/\K.n ⟨env,hp⟩) all.toList [] s.env s.hp [])
  (fun _ _ ihx ihy s K=>ihx s (K.with fun s'=>ihy s' K))
  (fun x t e iht ihe s K=>match x with
   | .tmp i=>match memN rs (1000000+i) with
    |true=>CWp c (.cond (.tmp i) t e) s K
    |false=>match getE s.env i with
     |some (.d (.bool b))=>Sp b (iht s K) (ihe s K)
     |_=>CWp c (.cond (.tmp i) t e) s K
   |x=>CWp c (.cond x t e) s K)
  (fun id _ ih s K=>ih s (K.blk id))
  (fun x _ s K=>CWp c (.loop x) s K)
  (fun f p a b _ _ s K=>CWp c (.rangeFunc f p a b) s K)
  (fun id s K=>K.ex id s)
  (fun x _ s K=>CWp c (.scope x) s K)
  (fun _ s K=>K.n s)
  (fun l s K=>CWp c (.goto l) s K)
  (fun s K=>match memN rs 999999 with|true=>CWp c .ret s K|false=>K.rt s)
  (fun w s K=>CWp c (.refuse w) s K) x
theorem CWp.mono {c:Ctx}{x:Code}{s:St}{K K':Kt} (h:CWp c x s K) (h1:∀s,K.n s->K'.n s) (h2:∀i s,K.ex i s->K'.ex i s) (h3:∀s,K.rt s->K'.rt s):CWp c x s K':=by
 intro a w hr;refine wp_mono (h a w hr) ?_;intro e a' w' hq;cases e with
 |normal=>obtain⟨s',hr',hn⟩:=hq;exact⟨s',hr',h1 _ hn⟩
 |exit id=>obtain⟨s',hr',hn⟩:=hq;exact⟨s',hr',h2 _ _ hn⟩
 |ret=>obtain⟨s',hr',hn⟩:=hq;exact⟨s',hr',h3 _ hn⟩
 |goto l=>exact hq.elim
 |panic ch=>exact hq.elim
 |outgrown=>exact hq.elim
theorem zgU {T:Tabs}{stop rs:List Nat}{c:Ctx} (hT:TabsOK c.P T) (hm:c.P.follows .mixedOrders=true):∀ {x:Code}{s:St}{K:Kt},evC T stop rs c x s K->CWp c x s K
 | .skip,s,K,h=>CWp.skip h
 | .exit id,s,K,h=>CWp.exit h
 | .ret,s,K,h=>by
  unfold evC at h;simp only at h;split at h
  ·exact h
  ·exact CWp.ret h
 | .label _,s,K,h=>CWp.label h
 | .seq x y,s,K,h=>CWp.seq ((zgU (x:=x) (s:=s) (K:=K.with fun s'=>evC T stop rs c y s' K) hT hm h).mono (fun _ h'=>zgU (x:=y) hT hm h') (fun _ _ h=>h) (fun _ h=>h))
 | .block id x,s,K,h=>CWp.block (zgU (x:=x) (K:=K.blk id) hT hm h)
 | .cond x t e,s,K,h=>by
  have ht:∀ {s:St}{K:Kt},evC T stop rs c t s K->CWp c t s K:=zgU hT hm;have he:∀ {s:St}{K:Kt},evC T stop rs c e s K->CWp c e s K:=zgU hT hm;cases x with
  |tmp i=>
   unfold evC at h ht he;simp only at h;split at h
   ·exact h
   ·split at h
    ·rename_i hc;exact CWp.cond hc (fun hb=>ht (h.t hb)) (fun hb=>he (h.f hb))
    ·exact h
  |_=>exact h
 | .region id all draw,s,K,h=>by
  unfold evC at h;simp only at h;split at h
  ·exact h
  ·cases draw with
   |false=>exact CWp.region rfl (zjz (kn:=[]) hT (fun _ _ _ h=>⟨trivial,h⟩) trivial h)
   |true=>exact CWp.drawn hm rfl (zjz (kn:=[]) hT (fun _ _ _ h=>h) trivial h)
 | .loop _,s,K,h=>h
 | .rangeFunc ..,s,K,h=>h
 | .scope _,s,K,h=>h
 | .goto _,s,K,h=>h
 | .refuse _,s,K,h=>h
def lk {α:Type}:List (Nat×α)->Nat->Option α
 | [],_=>none
 |(k,v)::r,i=>bif Nat.beq k i then some v else lk r i
def lk2:List (Nat×Nat×Nat)->Nat->Nat->Option Nat
 | [],_,_=>none
 |(k,j,v)::r,i,f=>bif Nat.beq k i&&Nat.beq j f then some v else lk2 r i f
theorem ztu {α:Type}{v:α}:∀ {l:List (Nat×α)}{i:Nat},lk l i=some v->(i,v)∈l
 |(k,u)::r,i,h=>by
  simp only[lk] at h;cases hb:Nat.beq k i with
  |true=>simp only[hb,cond_true,Option.some.injEq] at h;subst h;obtain rfl:=Nat.eq_of_beq_eq_true hb;simp
  |false=>simp only[hb,cond_false] at h;exact List.mem_cons_of_mem _ (ztu h)
theorem zrC {v:Nat}:∀ {l:List (Nat×Nat×Nat)}{i f:Nat},lk2 l i f=some v->(i,f,v)∈l
 |(k,j,u)::r,i,f,h=>by
  simp only[lk2] at h;cases hb:Nat.beq k i&&Nat.beq j f with
  |true=>
   simp only[hb,cond_true,Option.some.injEq] at h;obtain⟨h1,h2⟩:=xad _ _ ▸ hb;obtain rfl:=Nat.eq_of_beq_eq_true h1;obtain rfl:=Nat.eq_of_beq_eq_true h2;subst h;simp
  |false=>simp only[hb,cond_false] at h;exact List.mem_cons_of_mem _ (zrC h)
theorem zlh:∀ {l:List Nat}{i:Nat},memN l i=true->i∈l
 |k::r,i,h=>by
  simp only[memN] at h;cases hb:Nat.beq k i with
  |true=>obtain rfl:=Nat.eq_of_beq_eq_true hb;simp
  |false=>simp only[hb,cond_false] at h;exact List.mem_cons_of_mem _ (zlh h)
def strB:Option TypeDesc->Bool
 |some .string=>true
 |_=>false
theorem TabsOK.of {P:Program}{ty:List (Nat×Nat×Bool)}{sl st:List Nat}{fd:List (Nat×Nat×Nat)}
  (h1:ty.map (fun p=>zpb P p.1)=ty.map (fun p=>some p.2)) (h2:sl.all (fun t=>(zsp P t).isSome)=true)
  (h3:st.all (fun t=>strB (P.underlying t))=true) (h4:fd.map (fun p=>zr8 P p.1 p.2.1)=fd.map (fun p=>some (p.2.2,false))):TabsOK P ⟨lk ty,memN sl,memN st,lk2 fd⟩:=by
 refine⟨fun t k b h=>TyS.of ?_,fun t h=>?_,fun t h=>?_,fun t f o h=>Fd.of ?_⟩
 ·exact List.map_inj_left.1 h1 _ (ztu h)
 ·have:=List.all_eq_true.1 h2 t (zlh h);obtain⟨⟨e,k,y⟩,h⟩:=Option.isSome_iff_exists.1 this;exact⟨e,k,y,SlT.of h⟩
 ·have:=List.all_eq_true.1 h3 t (zlh h);revert this
  cases P.underlying t with
  |none=>intro h;cases h
  |some d=>cases d<;>intro h<;>first|rfl|cases h
 ·exact List.map_inj_left.1 h4 _ (zrC h)
end Go.Proofs.YtlfipehhbdjnjaaGreat
namespace Go.Proofs.YtlfipehhbdjnjaaGreat
open Go
set_option maxRecDepth 100000
theorem ty3:TyS Tryz.prog 3 1 false:=TyS.of (by kernel_rfl)
theorem ty4:TyS Tryz.prog 4 1 false:=TyS.of (by kernel_rfl)
theorem ty5:TyS Tryz.prog 5 1 false:=TyS.of (by kernel_rfl)
theorem ty9:TyS Tryz.prog 9 1 false:=TyS.of (by kernel_rfl)
theorem ty25:TyS Tryz.prog 25 2 true:=TyS.of (by kernel_rfl)
theorem ty34:TyS Tryz.prog 34 1 false:=TyS.of (by kernel_rfl)
theorem ty36:TyS Tryz.prog 36 6 true:=TyS.of (by kernel_rfl)
theorem ty38:TyS Tryz.prog 38 3 true:=TyS.of (by kernel_rfl)
theorem ty40:TyS Tryz.prog 40 9 true:=TyS.of (by kernel_rfl)
theorem ty47:TyS Tryz.prog 47 1 false:=TyS.of (by kernel_rfl)
theorem ty49:TyS Tryz.prog 49 3 true:=TyS.of (by kernel_rfl)
theorem zxT:TyS Tryz.prog 130 1 false:=TyS.of (by kernel_rfl)
theorem zvq:TyS Tryz.prog 132 2 true:=TyS.of (by kernel_rfl)
theorem zvr:TyS Tryz.prog 196 1 false:=TyS.of (by kernel_rfl)
theorem zc1:TyS Tryz.prog 222 3 true:=TyS.of (by kernel_rfl)
theorem zvs:TyS Tryz.prog 329 3 true:=TyS.of (by kernel_rfl)
theorem sl22:SlT Tryz.prog 22 5 1 1:=SlT.of (by kernel_rfl)
theorem sl23:SlT Tryz.prog 23 132 2 40:=SlT.of (by kernel_rfl)
theorem sl26:SlT Tryz.prog 26 40 9 88:=SlT.of (by kernel_rfl)
theorem sl29:SlT Tryz.prog 29 3 1 8:=SlT.of (by kernel_rfl)
theorem sl34:SlT Tryz.prog 34 36 6 64:=SlT.of (by kernel_rfl)
theorem sl47:SlT Tryz.prog 47 49 3 40:=SlT.of (by kernel_rfl)
theorem zcA:SlT Tryz.prog 130 222 3 48:=SlT.of (by kernel_rfl)
theorem zaZ:SlT Tryz.prog 196 25 2 16:=SlT.of (by kernel_rfl)
theorem zbU:SlT Tryz.prog 228 9 1 16:=SlT.of (by kernel_rfl)
theorem zcZ:SlT Tryz.prog 239 329 3 24:=SlT.of (by kernel_rfl)
theorem zdT:SlT Tryz.prog 256 34 1 24:=SlT.of (by kernel_rfl)
theorem tz3:TyZ Tryz.prog 3 1 [.d (.int .i64 0)]:=TyZ.of (by kernel_rfl)
theorem tz5:TyZ Tryz.prog 5 1 [.d (.int .u8 0)]:=TyZ.of (by kernel_rfl)
theorem tz9:TyZ Tryz.prog 9 1 [.d (.str [])]:=TyZ.of (by kernel_rfl)
theorem tz25:TyZ Tryz.prog 25 2 [.d (.int .i64 0),.d (.int .i64 0)]:=TyZ.of (by kernel_rfl)
theorem tz34:TyZ Tryz.prog 34 1 [.nils]:=TyZ.of (by kernel_rfl)
theorem tz36:TyZ Tryz.prog 36 6 [.d (.int .i64 0),.d (.int .i64 0),.d (.int .i64 0),.d (.int .i64 0),.d (.int .i64 0),.nils]:=TyZ.of (by kernel_rfl)
theorem tz40:TyZ Tryz.prog 40 9 [.d (.int .i64 0),.d (.int .i64 0),.d (.int .i64 0),.d (.int .i64 0),.d (.int .i64 0),.nils,.d (.int .i64 0),.d (.int .i64 0),.d (.int .i64 0)]:=TyZ.of (by kernel_rfl)
theorem tz49:TyZ Tryz.prog 49 3 [.d (.int .i64 0),.d (.int .i64 0),.nils]:=TyZ.of (by kernel_rfl)
theorem zsv:TyZ Tryz.prog 132 2 [.d (.str []),.nils]:=TyZ.of (by kernel_rfl)
theorem zgE:TyZ Tryz.prog 222 3 [.d (.str []),.nils,.d (.int .i64 0)]:=TyZ.of (by kernel_rfl)
theorem zxU:TyZ Tryz.prog 288 16 [.d (.int .i64 0),.d (.int .i64 0),.d (.int .i64 0),.d (.int .i64 0),.d (.int .i64 0),.d (.int .i64 0),.d (.int .i64 0),.d (.int .i64 0),.d (.int .i64 0),.d (.int .i64 0),.d (.int .i64 0),.d (.int .i64 0),.d (.int .i64 0),.d (.int .i64 0),.d (.int .i64 0),.d (.int .i64 0)]:=TyZ.of (by kernel_rfl)
theorem zvt:TyZ Tryz.prog 327 6 [.d (.bool false),.d (.bool false),.d (.bool false),.d (.bool false),.d (.bool false),.d (.bool false)]:=TyZ.of (by kernel_rfl)
theorem zpc:TyZ Tryz.prog 329 3 [.d (.int .i64 0),.d (.int .i64 0),.d (.int .i64 0)]:=TyZ.of (by kernel_rfl)
theorem zz3:ZeroT Tryz.prog 3 1:=ZeroT.of (by kernel_rfl)
theorem zz9:ZeroT Tryz.prog 9 1:=ZeroT.of (by kernel_rfl)
theorem zz25:ZeroT Tryz.prog 25 2:=ZeroT.of (by kernel_rfl)
theorem zz34:ZeroT Tryz.prog 34 1:=ZeroT.of (by kernel_rfl)
theorem zz36:ZeroT Tryz.prog 36 6:=ZeroT.of (by kernel_rfl)
theorem zz40:ZeroT Tryz.prog 40 9:=ZeroT.of (by kernel_rfl)
theorem zz49:ZeroT Tryz.prog 49 3:=ZeroT.of (by kernel_rfl)
theorem zxW:ZeroT Tryz.prog 132 2:=ZeroT.of (by kernel_rfl)
theorem zxX:ZeroT Tryz.prog 222 3:=ZeroT.of (by kernel_rfl)
theorem zpe:ZeroT Tryz.prog 329 3:=ZeroT.of (by kernel_rfl)
theorem st25:StT Tryz.prog 25 [(0,1),(1,1)] [.d (.int .i64 0),.d (.int .i64 0)]:=StT.of (by kernel_rfl)
theorem st36:StT Tryz.prog 36 [(0,1),(1,1),(2,1),(3,1),(4,1),(5,1)] [.d (.int .i64 0),.d (.int .i64 0),.d (.int .i64 0),.d (.int .i64 0),.d (.int .i64 0),.nils]:=StT.of (by kernel_rfl)
theorem st38:StT Tryz.prog 38 [(0,1),(1,1),(2,1)] [.d (.int .i64 0),.d (.int .i64 0),.d (.int .i64 0)]:=StT.of (by kernel_rfl)
theorem st40:StT Tryz.prog 40 [(0,6),(6,3)] [.d (.int .i64 0),.d (.int .i64 0),.d (.int .i64 0),.d (.int .i64 0),.d (.int .i64 0),.nils,.d (.int .i64 0),.d (.int .i64 0),.d (.int .i64 0)]:=StT.of (by kernel_rfl)
theorem st49:StT Tryz.prog 49 [(0,1),(1,1),(2,1)] [.d (.int .i64 0),.d (.int .i64 0),.nils]:=StT.of (by kernel_rfl)
theorem zxQ:StT Tryz.prog 132 [(0,1),(1,1)] [.d (.str []),.nils]:=StT.of (by kernel_rfl)
theorem zvn:StT Tryz.prog 170 [(0,1),(1,1)] [.nils,.d (.int .i64 0)]:=StT.of (by kernel_rfl)
theorem zxR:StT Tryz.prog 194 [(0,1),(1,1)] [.nils,.d .nilp]:=StT.of (by kernel_rfl)
theorem zvo:StT Tryz.prog 222 [(0,1),(1,1),(2,1)] [.d (.str []),.nils,.d (.int .i64 0)]:=StT.of (by kernel_rfl)
theorem zsr:StT Tryz.prog 329 [(0,1),(1,2)] [.d (.int .i64 0),.d (.int .i64 0),.d (.int .i64 0)]:=StT.of (by kernel_rfl)
theorem zr1:ArT Tryz.prog 286 4 3 1:=ArT.of (by kernel_rfl)
theorem zo2:ArT Tryz.prog 288 4 286 4:=ArT.of (by kernel_rfl)
theorem zo3:ArT Tryz.prog 327 6 4 1:=ArT.of (by kernel_rfl)
theorem un3:Tryz.prog.underlying 3=some (.int .i64):=by kernel_rfl
theorem un4:Tryz.prog.underlying 4=some (.bool):=by kernel_rfl
theorem un5:Tryz.prog.underlying 5=some (.int .u8):=by kernel_rfl
theorem un9:Tryz.prog.underlying 9=some (.string):=by kernel_rfl
theorem zo8:MapT Tryz.prog 323:=MapT.of (by kernel_rfl)
theorem eq25:EqT Tryz.prog 25 2:=⟨by kernel_rfl,by kernel_rfl,by kernel_rfl,by kernel_rfl,by kernel_rfl⟩
theorem eq38:EqT Tryz.prog 38 3:=⟨by kernel_rfl,by kernel_rfl,by kernel_rfl,by kernel_rfl,by kernel_rfl⟩
theorem zxK:EqT2 Tryz.prog 329 3:=⟨by kernel_rfl,by kernel_rfl,by kernel_rfl,by kernel_rfl,by kernel_rfl⟩
theorem zu2:Callee Tryz.prog 11:=⟨fun args w=>zaf (fn:=Tryz.f11) rfl rfl (by decide) args w⟩
theorem zu3:Callee Tryz.prog 12:=⟨fun args w=>zaf (fn:=Tryz.f12) rfl rfl (by decide) args w⟩
theorem zu4:Callee Tryz.prog 13:=⟨fun args w=>zaf (fn:=Tryz.f13) rfl rfl (by decide) args w⟩
theorem zlG:Callee Tryz.prog 14:=⟨fun args w=>zaf (fn:=Tryz.f14) rfl rfl (by decide) args w⟩
theorem zr2:Callee Tryz.prog 15:=⟨fun args w=>zaf (fn:=Tryz.f15) rfl rfl (by decide) args w⟩
theorem zxE:Callee Tryz.prog 16:=⟨fun args w=>zaf (fn:=Tryz.f16) rfl rfl (by decide) args w⟩
theorem zke:Callee Tryz.prog 55:=⟨fun args w=>zaf (fn:=Tryz.f55) rfl rfl (by decide) args w⟩
theorem zr3:Callee Tryz.prog 56:=⟨fun args w=>zaf (fn:=Tryz.f56) rfl rfl (by decide) args w⟩
theorem zbQ:Callee Tryz.prog 57:=⟨fun args w=>zaf (fn:=Tryz.f57) rfl rfl (by decide) args w⟩
theorem zir:Callee Tryz.prog 58:=⟨fun args w=>zaf (fn:=Tryz.f58) rfl rfl (by decide) args w⟩
theorem zxF:Callee Tryz.prog 59:=⟨fun args w=>zaf (fn:=Tryz.f59) rfl rfl (by decide) args w⟩
theorem zkf:Callee Tryz.prog 60:=⟨fun args w=>zaf (fn:=Tryz.f60) rfl rfl (by decide) args w⟩
theorem zxG:Callee Tryz.prog 61:=⟨fun args w=>zaf (fn:=Tryz.f61) rfl rfl (by decide) args w⟩
theorem zu5:Callee Tryz.prog 62:=⟨fun args w=>zaf (fn:=Tryz.f62) rfl rfl (by decide) args w⟩
theorem zo4:Callee Tryz.prog 64:=⟨fun args w=>zaf (fn:=Tryz.f64) rfl rfl (by decide) args w⟩
theorem zu6:Callee Tryz.prog 67:=⟨fun args w=>zaf (fn:=Tryz.f67) rfl rfl (by decide) args w⟩
theorem zis:Callee Tryz.prog 68:=⟨fun args w=>zaf (fn:=Tryz.f68) rfl rfl (by decide) args w⟩
theorem zu7:Callee Tryz.prog 74:=⟨fun args w=>zaf (fn:=Tryz.f74) rfl rfl (by decide) args w⟩
theorem zu8:Callee Tryz.prog 75:=⟨fun args w=>zaf (fn:=Tryz.f75) rfl rfl (by decide) args w⟩
theorem zu9:Callee Tryz.prog 76:=⟨fun args w=>zaf (fn:=Tryz.f76) rfl rfl (by decide) args w⟩
theorem zcO:Callee Tryz.prog 100:=⟨fun args w=>zaf (fn:=Tryz.f100) rfl rfl (by decide) args w⟩
theorem zpi:Callee Tryz.prog 117:=⟨fun args w=>zaf (fn:=Tryz.f117) rfl rfl (by decide) args w⟩
theorem zsB:Callee Tryz.prog 118:=⟨fun args w=>zaf (fn:=Tryz.f118) rfl rfl (by decide) args w⟩
theorem zpj:Callee Tryz.prog 119:=⟨fun args w=>zaf (fn:=Tryz.f119) rfl rfl (by decide) args w⟩
theorem zwj:Callee Tryz.prog 120:=⟨fun args w=>zaf (fn:=Tryz.f120) rfl rfl (by decide) args w⟩
theorem zwk:Callee Tryz.prog 121:=⟨fun args w=>zaf (fn:=Tryz.f121) rfl rfl (by decide) args w⟩
theorem zwl:Callee Tryz.prog 122:=⟨fun args w=>zaf (fn:=Tryz.f122) rfl rfl (by decide) args w⟩
theorem zwm:Callee Tryz.prog 123:=⟨fun args w=>zaf (fn:=Tryz.f123) rfl rfl (by decide) args w⟩
theorem zjk:Callee Tryz.prog 124:=⟨fun args w=>zaf (fn:=Tryz.f124) rfl rfl (by decide) args w⟩
theorem zlD:Callee Tryz.prog 125:=⟨fun args w=>zaf (fn:=Tryz.f125) rfl rfl (by decide) args w⟩
theorem zwn:Callee Tryz.prog 126:=⟨fun args w=>zaf (fn:=Tryz.f126) rfl rfl (by decide) args w⟩
theorem zwo:Callee Tryz.prog 127:=⟨fun args w=>zaf (fn:=Tryz.f127) rfl rfl (by decide) args w⟩
theorem zlE:Callee Tryz.prog 128:=⟨fun args w=>zaf (fn:=Tryz.f128) rfl rfl (by decide) args w⟩
theorem zsC:Callee Tryz.prog 129:=⟨fun args w=>zaf (fn:=Tryz.f129) rfl rfl (by decide) args w⟩
theorem zlF:Callee Tryz.prog 130:=⟨fun args w=>zaf (fn:=Tryz.f130) rfl rfl (by decide) args w⟩
theorem zwp:Callee Tryz.prog 131:=⟨fun args w=>zaf (fn:=Tryz.f131) rfl rfl (by decide) args w⟩
theorem zsD:Callee Tryz.prog 133:=⟨fun args w=>zaf (fn:=Tryz.f133) rfl rfl (by decide) args w⟩
theorem zwq:Callee Tryz.prog 134:=⟨fun args w=>zaf (fn:=Tryz.f134) rfl rfl (by decide) args w⟩
theorem zsE:Callee Tryz.prog 136:=⟨fun args w=>zaf (fn:=Tryz.f136) rfl rfl (by decide) args w⟩
theorem zwr:Callee Tryz.prog 137:=⟨fun args w=>zaf (fn:=Tryz.f137) rfl rfl (by decide) args w⟩
theorem zws:Callee Tryz.prog 138:=⟨fun args w=>zaf (fn:=Tryz.f138) rfl rfl (by decide) args w⟩
theorem zwt:Callee Tryz.prog 139:=⟨fun args w=>zaf (fn:=Tryz.f139) rfl rfl (by decide) args w⟩
theorem zjl:Callee Tryz.prog 140:=⟨fun args w=>zaf (fn:=Tryz.f140) rfl rfl (by decide) args w⟩
theorem zsF:Callee Tryz.prog 141:=⟨fun args w=>zaf (fn:=Tryz.f141) rfl rfl (by decide) args w⟩
theorem zjm:Callee Tryz.prog 144:=⟨fun args w=>zaf (fn:=Tryz.f144) rfl rfl (by decide) args w⟩
theorem zsG:Callee Tryz.prog 151:=⟨fun args w=>zaf (fn:=Tryz.f151) rfl rfl (by decide) args w⟩
theorem zpk:Callee Tryz.prog 152:=⟨fun args w=>zaf (fn:=Tryz.f152) rfl rfl (by decide) args w⟩
theorem zwu:Callee Tryz.prog 153:=⟨fun args w=>zaf (fn:=Tryz.f153) rfl rfl (by decide) args w⟩
theorem zwv:Callee Tryz.prog 154:=⟨fun args w=>zaf (fn:=Tryz.f154) rfl rfl (by decide) args w⟩
theorem zww:Callee Tryz.prog 155:=⟨fun args w=>zaf (fn:=Tryz.f155) rfl rfl (by decide) args w⟩
theorem zsH:Callee Tryz.prog 156:=⟨fun args w=>zaf (fn:=Tryz.f156) rfl rfl (by decide) args w⟩
theorem zwx:Callee Tryz.prog 171:=⟨fun args w=>zaf (fn:=Tryz.f171) rfl rfl (by decide) args w⟩
theorem zwy:Callee Tryz.prog 172:=⟨fun args w=>zaf (fn:=Tryz.f172) rfl rfl (by decide) args w⟩
theorem zdL:Callee Tryz.prog 174:=⟨fun args w=>zaf (fn:=Tryz.f174) rfl rfl (by decide) args w⟩
theorem zwz:Callee Tryz.prog 177:=⟨fun args w=>zaf (fn:=Tryz.f177) rfl rfl (by decide) args w⟩
theorem zsI:Callee Tryz.prog 182:=⟨fun args w=>zaf (fn:=Tryz.f182) rfl rfl (by decide) args w⟩
theorem zsJ:Callee Tryz.prog 187:=⟨fun args w=>zaf (fn:=Tryz.f187) rfl rfl (by decide) args w⟩
theorem zsK:Callee Tryz.prog 190:=⟨fun args w=>zaf (fn:=Tryz.f190) rfl rfl (by decide) args w⟩
theorem zh0:Callee Tryz.prog 197:=⟨fun args w=>zaf (fn:=Tryz.f197) rfl rfl (by decide) args w⟩
theorem zwA:Callee Tryz.prog 213:=⟨fun args w=>zaf (fn:=Tryz.f213) rfl rfl (by decide) args w⟩
theorem zwB:Callee Tryz.prog 214:=⟨fun args w=>zaf (fn:=Tryz.f214) rfl rfl (by decide) args w⟩
theorem zwC:Callee Tryz.prog 215:=⟨fun args w=>zaf (fn:=Tryz.f215) rfl rfl (by decide) args w⟩
theorem zwD:Callee Tryz.prog 216:=⟨fun args w=>zaf (fn:=Tryz.f216) rfl rfl (by decide) args w⟩
theorem zsL:Callee Tryz.prog 217:=⟨fun args w=>zaf (fn:=Tryz.f217) rfl rfl (by decide) args w⟩
theorem zwE:Callee Tryz.prog 218:=⟨fun args w=>zaf (fn:=Tryz.f218) rfl rfl (by decide) args w⟩
theorem zjn:Callee Tryz.prog 219:=⟨fun args w=>zaf (fn:=Tryz.f219) rfl rfl (by decide) args w⟩
theorem zlH:Callee Tryz.prog 220:=⟨fun args w=>zaf (fn:=Tryz.f220) rfl rfl (by decide) args w⟩
theorem zlI:Callee Tryz.prog 221:=⟨fun args w=>zaf (fn:=Tryz.f221) rfl rfl (by decide) args w⟩
theorem zwF:Callee Tryz.prog 222:=⟨fun args w=>zaf (fn:=Tryz.f222) rfl rfl (by decide) args w⟩
theorem zlJ:Callee Tryz.prog 223:=⟨fun args w=>zaf (fn:=Tryz.f223) rfl rfl (by decide) args w⟩
theorem zwG:Callee Tryz.prog 224:=⟨fun args w=>zaf (fn:=Tryz.f224) rfl rfl (by decide) args w⟩
theorem zgR:Callee Tryz.prog 225:=⟨fun args w=>zaf (fn:=Tryz.f225) rfl rfl (by decide) args w⟩
theorem zfT:Callee Tryz.prog 226:=⟨fun args w=>zaf (fn:=Tryz.f226) rfl rfl (by decide) args w⟩
theorem zsM:Callee Tryz.prog 227:=⟨fun args w=>zaf (fn:=Tryz.f227) rfl rfl (by decide) args w⟩
theorem zsN:Callee Tryz.prog 228:=⟨fun args w=>zaf (fn:=Tryz.f228) rfl rfl (by decide) args w⟩
theorem zpl:Callee Tryz.prog 229:=⟨fun args w=>zaf (fn:=Tryz.f229) rfl rfl (by decide) args w⟩
theorem zlK:Callee Tryz.prog 230:=⟨fun args w=>zaf (fn:=Tryz.f230) rfl rfl (by decide) args w⟩
theorem zsO:Callee Tryz.prog 231:=⟨fun args w=>zaf (fn:=Tryz.f231) rfl rfl (by decide) args w⟩
theorem zpm:Callee Tryz.prog 232:=⟨fun args w=>zaf (fn:=Tryz.f232) rfl rfl (by decide) args w⟩
theorem zwH:Callee Tryz.prog 233:=⟨fun args w=>zaf (fn:=Tryz.f233) rfl rfl (by decide) args w⟩
theorem zlL:Callee Tryz.prog 234:=⟨fun args w=>zaf (fn:=Tryz.f234) rfl rfl (by decide) args w⟩
theorem zwI:Callee Tryz.prog 235:=⟨fun args w=>zaf (fn:=Tryz.f235) rfl rfl (by decide) args w⟩
theorem zpn:Callee Tryz.prog 236:=⟨fun args w=>zaf (fn:=Tryz.f236) rfl rfl (by decide) args w⟩
theorem zsP:Callee Tryz.prog 237:=⟨fun args w=>zaf (fn:=Tryz.f237) rfl rfl (by decide) args w⟩
theorem zsQ:Callee Tryz.prog 241:=⟨fun args w=>zaf (fn:=Tryz.f241) rfl rfl (by decide) args w⟩
theorem zpo:Callee Tryz.prog 242:=⟨fun args w=>zaf (fn:=Tryz.f242) rfl rfl (by decide) args w⟩
theorem zsR:Callee Tryz.prog 243:=⟨fun args w=>zaf (fn:=Tryz.f243) rfl rfl (by decide) args w⟩
theorem zwJ:Callee Tryz.prog 244:=⟨fun args w=>zaf (fn:=Tryz.f244) rfl rfl (by decide) args w⟩
theorem zpp:Callee Tryz.prog 245:=⟨fun args w=>zaf (fn:=Tryz.f245) rfl rfl (by decide) args w⟩
theorem zwK:Callee Tryz.prog 246:=⟨fun args w=>zaf (fn:=Tryz.f246) rfl rfl (by decide) args w⟩
theorem zwL:Callee Tryz.prog 247:=⟨fun args w=>zaf (fn:=Tryz.f247) rfl rfl (by decide) args w⟩
theorem zsS:Callee Tryz.prog 248:=⟨fun args w=>zaf (fn:=Tryz.f248) rfl rfl (by decide) args w⟩
theorem zlM:Callee Tryz.prog 249:=⟨fun args w=>zaf (fn:=Tryz.f249) rfl rfl (by decide) args w⟩
theorem zjo:Callee Tryz.prog 251:=⟨fun args w=>zaf (fn:=Tryz.f251) rfl rfl (by decide) args w⟩
theorem zjp:Callee Tryz.prog 252:=⟨fun args w=>zaf (fn:=Tryz.f252) rfl rfl (by decide) args w⟩
theorem zfU:Callee Tryz.prog 254:=⟨fun args w=>zaf (fn:=Tryz.f254) rfl rfl (by decide) args w⟩
theorem zfV:Callee Tryz.prog 261:=⟨fun args w=>zaf (fn:=Tryz.f261) rfl rfl (by decide) args w⟩
theorem zwM:Callee Tryz.prog 262:=⟨fun args w=>zaf (fn:=Tryz.f262) rfl rfl (by decide) args w⟩
theorem zwN:Callee Tryz.prog 263:=⟨fun args w=>zaf (fn:=Tryz.f263) rfl rfl (by decide) args w⟩
theorem zwO:Callee Tryz.prog 267:=⟨fun args w=>zaf (fn:=Tryz.f267) rfl rfl (by decide) args w⟩
theorem zlN:Callee Tryz.prog 270:=⟨fun args w=>zaf (fn:=Tryz.f270) rfl rfl (by decide) args w⟩
theorem zwP:Callee Tryz.prog 272:=⟨fun args w=>zaf (fn:=Tryz.f272) rfl rfl (by decide) args w⟩
theorem zwQ:Callee Tryz.prog 273:=⟨fun args w=>zaf (fn:=Tryz.f273) rfl rfl (by decide) args w⟩
theorem zwR:Callee Tryz.prog 274:=⟨fun args w=>zaf (fn:=Tryz.f274) rfl rfl (by decide) args w⟩
theorem zsT:Callee Tryz.prog 276:=⟨fun args w=>zaf (fn:=Tryz.f276) rfl rfl (by decide) args w⟩
theorem zlO:Callee Tryz.prog 277:=⟨fun args w=>zaf (fn:=Tryz.f277) rfl rfl (by decide) args w⟩
theorem zwS:Callee Tryz.prog 280:=⟨fun args w=>zaf (fn:=Tryz.f280) rfl rfl (by decide) args w⟩
theorem zwT:Callee Tryz.prog 287:=⟨fun args w=>zaf (fn:=Tryz.f287) rfl rfl (by decide) args w⟩
theorem zwU:Callee Tryz.prog 290:=⟨fun args w=>zaf (fn:=Tryz.f290) rfl rfl (by decide) args w⟩
theorem zpq:Callee Tryz.prog 291:=⟨fun args w=>zaf (fn:=Tryz.f291) rfl rfl (by decide) args w⟩
theorem zwV:Callee Tryz.prog 292:=⟨fun args w=>zaf (fn:=Tryz.f292) rfl rfl (by decide) args w⟩
theorem zpr:Callee Tryz.prog 293:=⟨fun args w=>zaf (fn:=Tryz.f293) rfl rfl (by decide) args w⟩
theorem zsU:Callee Tryz.prog 294:=⟨fun args w=>zaf (fn:=Tryz.f294) rfl rfl (by decide) args w⟩
theorem zsV:Callee Tryz.prog 295:=⟨fun args w=>zaf (fn:=Tryz.f295) rfl rfl (by decide) args w⟩
theorem zps:Callee Tryz.prog 296:=⟨fun args w=>zaf (fn:=Tryz.f296) rfl rfl (by decide) args w⟩
theorem zpt:Callee Tryz.prog 297:=⟨fun args w=>zaf (fn:=Tryz.f297) rfl rfl (by decide) args w⟩
theorem zlP:Callee Tryz.prog 298:=⟨fun args w=>zaf (fn:=Tryz.f298) rfl rfl (by decide) args w⟩
theorem zpu:Callee Tryz.prog 299:=⟨fun args w=>zaf (fn:=Tryz.f299) rfl rfl (by decide) args w⟩
theorem zwW:Callee Tryz.prog 300:=⟨fun args w=>zaf (fn:=Tryz.f300) rfl rfl (by decide) args w⟩
theorem zsW:Callee Tryz.prog 301:=⟨fun args w=>zaf (fn:=Tryz.f301) rfl rfl (by decide) args w⟩
theorem zsX:Callee Tryz.prog 302:=⟨fun args w=>zaf (fn:=Tryz.f302) rfl rfl (by decide) args w⟩
theorem zwX:Callee Tryz.prog 303:=⟨fun args w=>zaf (fn:=Tryz.f303) rfl rfl (by decide) args w⟩
theorem zwY:Callee Tryz.prog 304:=⟨fun args w=>zaf (fn:=Tryz.f304) rfl rfl (by decide) args w⟩
theorem zdW:Callee Tryz.prog 305:=⟨fun args w=>zaf (fn:=Tryz.f305) rfl rfl (by decide) args w⟩
theorem zwZ:Callee Tryz.prog 306:=⟨fun args w=>zaf (fn:=Tryz.f306) rfl rfl (by decide) args w⟩
theorem zw0:Callee Tryz.prog 317:=⟨fun args w=>zaf (fn:=Tryz.f317) rfl rfl (by decide) args w⟩
theorem zsY:Callee Tryz.prog 318:=⟨fun args w=>zaf (fn:=Tryz.f318) rfl rfl (by decide) args w⟩
theorem zw1:Callee Tryz.prog 319:=⟨fun args w=>zaf (fn:=Tryz.f319) rfl rfl (by decide) args w⟩
theorem zw2:Callee Tryz.prog 320:=⟨fun args w=>zaf (fn:=Tryz.f320) rfl rfl (by decide) args w⟩
theorem zsZ:Callee Tryz.prog 324:=⟨fun args w=>zaf (fn:=Tryz.f324) rfl rfl (by decide) args w⟩
theorem zlQ:Callee Tryz.prog 325:=⟨fun args w=>zaf (fn:=Tryz.f325) rfl rfl (by decide) args w⟩
theorem zw3:Callee Tryz.prog 330:=⟨fun args w=>zaf (fn:=Tryz.f330) rfl rfl (by decide) args w⟩
theorem zw4:Callee Tryz.prog 331:=⟨fun args w=>zaf (fn:=Tryz.f331) rfl rfl (by decide) args w⟩
theorem zw5:Callee Tryz.prog 332:=⟨fun args w=>zaf (fn:=Tryz.f332) rfl rfl (by decide) args w⟩
theorem zs0:Callee Tryz.prog 335:=⟨fun args w=>zaf (fn:=Tryz.f335) rfl rfl (by decide) args w⟩
theorem zw6:Callee Tryz.prog 336:=⟨fun args w=>zaf (fn:=Tryz.f336) rfl rfl (by decide) args w⟩
theorem zw7:Callee Tryz.prog 348:=⟨fun args w=>zaf (fn:=Tryz.f348) rfl rfl (by decide) args w⟩
theorem zs1:Callee Tryz.prog 349:=⟨fun args w=>zaf (fn:=Tryz.f349) rfl rfl (by decide) args w⟩
theorem zw8:Callee Tryz.prog 350:=⟨fun args w=>zaf (fn:=Tryz.f350) rfl rfl (by decide) args w⟩
theorem zpv:Callee Tryz.prog 351:=⟨fun args w=>zaf (fn:=Tryz.f351) rfl rfl (by decide) args w⟩
theorem zw9:Callee Tryz.prog 352:=⟨fun args w=>zaf (fn:=Tryz.f352) rfl rfl (by decide) args w⟩
theorem zxa:Callee Tryz.prog 359:=⟨fun args w=>zaf (fn:=Tryz.f359) rfl rfl (by decide) args w⟩
theorem zs2:Callee Tryz.prog 360:=⟨fun args w=>zaf (fn:=Tryz.f360) rfl rfl (by decide) args w⟩
theorem zpw:Callee Tryz.prog 361:=⟨fun args w=>zaf (fn:=Tryz.f361) rfl rfl (by decide) args w⟩
theorem zxb:Callee Tryz.prog 375:=⟨fun args w=>zaf (fn:=Tryz.f375) rfl rfl (by decide) args w⟩
theorem zxc:Callee Tryz.prog 376:=⟨fun args w=>zaf (fn:=Tryz.f376) rfl rfl (by decide) args w⟩
theorem zxd:Callee Tryz.prog 378:=⟨fun args w=>zaf (fn:=Tryz.f378) rfl rfl (by decide) args w⟩
theorem zxe:Callee Tryz.prog 388:=⟨fun args w=>zaf (fn:=Tryz.f388) rfl rfl (by decide) args w⟩
theorem zvk:Tryz.prog.follows .mixedOrders=true:=by kernel_rfl
def evT:Tabs:=⟨lk [(3,1,false),(4,1,false),(5,1,false),(9,1,false),(22,1,false),(23,1,false),(25,2,true),(26,1,false),(29,1,false),(34,1,false),(36,6,true),(38,3,true),(40,9,true),(47,1,false),(49,3,true),(61,2,true),(79,4,true),(80,1,false),(82,6,true),(86,1,false),(88,3,true),(106,1,false),(120,1,false),(122,2,true),(124,1,false),(126,6,true),(127,3,true),(129,9,true),(130,1,false),(132,2,true),(154,4,true),(155,1,false),(165,1,false),(167,8,true),(191,1,false),(196,1,false),(222,3,true),(228,1,false),(234,4,true),(236,1,false),(239,1,false),(241,3,true),(264,2,true),(307,1,false),(309,3,true),(329,3,true),(400,1,false)],memN [22,23,26,29,34,47,52,60,62,74,80,86,120,124,130,155,160,165,196,224,228,236,239,256,307,342],memN [9],lk2 [(25,0,0),(25,1,1),(36,0,0),(36,1,1),(36,2,2),(36,3,3),(36,4,4),(36,5,5),(38,0,0),(38,1,1),(38,2,2),(40,0,0),(40,1,6),(49,0,0),(49,1,1),(49,2,2),(61,0,0),(61,1,1),(79,0,0),(79,1,2),(82,0,0),(82,1,4),(82,2,5),(88,0,0),(88,1,1),(88,2,2),(122,0,0),(122,1,1),(126,0,0),(126,1,1),(126,2,2),(126,3,3),(126,4,4),(126,5,5),(127,0,0),(127,1,1),(127,2,2),(129,0,0),(129,1,6),(132,0,0),(132,1,1),(154,0,0),(154,1,1),(167,0,0),(167,1,1),(167,2,2),(167,3,3),(167,4,4),(167,5,5),(167,6,6),(167,7,7),(170,0,0),(170,1,1),(194,0,0),(194,1,1),(222,0,0),(222,1,1),(222,2,2),(234,0,0),(234,1,1),(234,2,2),(234,3,3),(241,0,0),(241,1,1),(241,2,2),(264,0,0),(264,1,1),(309,0,0),(309,1,1),(309,2,2),(329,0,0),(329,1,1)]⟩
theorem zjy:TabsOK Tryz.prog evT:=TabsOK.of (by kernel_rfl) (by kernel_rfl) (by kernel_rfl) (by kernel_rfl)
theorem sx {E e' env:Env}{H h' hp:Hp}{ks:List Nat} (hE:SubE E e') (hH:SubH H h') (he:e'.drop (e'.length-env.length)=env:=by kernel_rfl) (hc:ze1 (zeh E++ks) (e'.take (e'.length-env.length))=true:=by kernel_rfl)
    (hh:h'.drop (h'.length-hp.length)=hp:=by kernel_rfl) (hhc:zdu (zcY H) (zcY hp) (h'.take (h'.length-hp.length))=true:=by kernel_rfl):Sub ⟨E++(zcF ks++env),H++hp⟩ ⟨e',h'⟩:=Sub.x he hc hE hh hhc hH
section
variable {c:Ctx}{all:Array Oper}{chk:List Rec->Prop}{os:List Oper}{recs:List Rec}{env:Env}{hp:Hp}{Q:St->Prop}{d ty:Nat}{pos:String}{af:Array Edge}
theorem wc {f:FuncId}{args:Array Operand}{ats:Array TypeId}{xs:List Operand}{vs:List AV}{hpc hp0:Hp}{r:AV} (hc:Callee c.P f) (hf:FnD c.P f vs hpc r hp0) (hargs:args=xs.toArray) (hx:opdL env xs=some vs)
    (hn:Walk c all chk os (zao ([]++opFL xs vs) (hpF hpc) [] ⟨some (d,r),hp0⟩::recs) ⟨(d,r)::env,hp0++hp⟩ Q)
    (hd:Nat.blt d c.n=true:=by exact rfl) (hsub:subH hpc hp:=by first|exact trivial|exact⟨rfl,trivial⟩) (hnt:zdH hpc=true:=by exact rfl) (hok:zaV hpc hp0 r []=true:=by exact rfl)
    (hcr:zax env hp []=true:=by exact rfl):Walk c all chk (⟨some d,.call ⟨.value (.func f),args,ats⟩,ty,pos,af,none⟩::os) recs ⟨env,hp⟩ Q:=
  Walk.call (cr:=[]) hc hf hargs .none hd hx (LeL.refl _) hsub hnt hok hcr hn
theorem wd {f:FuncId}{args:Array Operand}{ats:Array TypeId}{xs:List Operand}{vs:List AV}{hpc hp0:Hp}{r:AV} (hc:Callee c.P f) (hf:FnD c.P f vs hpc r hp0) (hargs:args=xs.toArray) (hx:opdL env xs=some vs) (hsub:subH hpc hp)
    (hn:Walk c all chk os (zao ([]++opFL xs vs) (hpF hpc) [] ⟨some (d,r),hp0⟩::recs) ⟨(d,r)::env,hp0++hp⟩ Q)
    (hd:Nat.blt d c.n=true:=by exact rfl) (hnt:zdH hpc=true:=by exact rfl) (hok:zaV hpc hp0 r []=true:=by exact rfl)
    (hcr:zax env hp []=true:=by exact rfl):Walk c all chk (⟨some d,.call ⟨.value (.func f),args,ats⟩,ty,pos,af,none⟩::os) recs ⟨env,hp⟩ Q:=
  Walk.call (cr:=[]) hc hf hargs .none hd hx (LeL.refl _) hsub hnt hok hcr hn
variable {t:TypeId}{x y:Operand}
theorem so {id off k:Nat}{b:Bool}{v:AV}{cs vs cs':List AV} (ht:TyS c.P t k b)
    (hn:Walk c all chk os (zao ([]++(opF x (.ref id off)++opF y v)) [(id,.box cs)] [] ⟨none,[(id,some (.box cs'))]⟩::recs) ⟨env,(id,some (.box cs'))::hp⟩ Q)
    (hx:opd env x=some (.ref id off):=by exact rfl) (hy:opd env y=some v:=by exact rfl) (hb:getH hp id=some (.box cs):=by exact rfl) (hv:zbW v=some vs:=by exact rfl) (hk:vs.length=k:=by exact rfl)
    (h1:zhY vs=true:=by exact rfl) (hne:vs≠[]:=by simp) (hput:putC cs off vs=some cs':=by exact rfl):Walk c all chk (⟨none,.store t x y,ty,pos,af,none⟩::os) recs ⟨env,hp⟩ Q:=
  Walk.store ht .none hx hy hb hv hk h1 hne hput hn
theorem bx (id:Nat){v:AV}{cs:List AV}
    (hn:Walk c all chk os (zao ([]++opFL [x] [v]) [] [id] ⟨some (d,.ref id 0),[(id,some (.box cs))]⟩::recs) ⟨(d,.ref id 0)::env,(id,some (.box cs))::hp⟩ Q)
    (hd:Nat.blt d c.n=true:=by exact rfl) (hx:opd env x=some v:=by exact rfl) (hc:zbW v=some cs:=by exact rfl)
    (h0:getH hp id=none:=by exact rfl) (ho1:occE id env=false:=by exact rfl) (ho2:occH id hp=false:=by exact rfl) (hid:za4 id (AV.idsL cs)=false:=by exact rfl):
    Walk c all chk (⟨some d,.box t x,ty,pos,af,none⟩::os) recs ⟨env,hp⟩ Q:=Walk.box .none hd hx hc h0 ho1 ho2 hid hn
theorem ab (id:Nat){k:Nat}{zs:List AV} (ht:TyZ c.P t k zs)
    (hn:Walk c all chk os (zao ([]++[]) [] [id] ⟨some (d,.ref id 0),[(id,some (.box zs))]⟩::recs) ⟨(d,.ref id 0)::env,(id,some (.box zs))::hp⟩ Q)
    (hz:AV.idsL zs=[]:=by exact rfl) (hd:Nat.blt d c.n=true:=by exact rfl) (h0:getH hp id=none:=by exact rfl) (ho1:occE id env=false:=by exact rfl) (ho2:occH id hp=false:=by exact rfl):
    Walk c all chk (⟨some d,.alloc t,ty,pos,af,none⟩::os) recs ⟨env,hp⟩ Q:=Walk.alloc ht hz .none hd h0 ho1 ho2 hn
theorem bu (ks:List Nat) (xs:List Operand){parts:Array (Nat×Operand)}{vs zs r:List AV}{places:List (Nat×Nat)} (ht:StT c.P t places zs)
    (hn:Walk c all chk os (zao ([]++opFL xs vs) [] [] ⟨some (d,.agg r),[]⟩::recs) ⟨(d,.agg r)::env,hp⟩ Q)
    (hparts:parts=(ks.zip xs).toArray:=by exact rfl) (hlen:ks.length=xs.length:=by exact rfl) (hd:Nat.blt d c.n=true:=by exact rfl) (hx:opdL env xs=some vs:=by exact rfl)
    (hf:zgm (places[·]?) zs (ks.zip vs)=some r:=by exact rfl):Walk c all chk (⟨some d,.build t parts,ty,pos,af,none⟩::os) recs ⟨env,hp⟩ Q:=Walk.build ht hparts hlen .none hd hx hf hn
theorem si (ks:List Nat) (xs:List Operand){parts:Array (Nat×Operand)}{n:Nat}{vs zs r:List AV}{es:List (List D)}{e k yb:Nat} (ht:SlT c.P t e k yb) (hz:TyZ c.P e k zs)
    (hn:Walk c all chk os (zao ([]++opFL xs vs) [] [] ⟨some (d,.d (.sl es)),[]⟩::recs) ⟨(d,.d (.sl es))::env,hp⟩ Q) (hzk:zs.length=k:=by exact rfl) (hk:0<k:=by decide)
    (hparts:parts=(ks.zip xs).toArray:=by exact rfl) (hlen:ks.length=xs.length:=by exact rfl) (hsmall:n*k<=16777216:=by decide) (hpos:0<n:=by decide) (hd:Nat.blt d c.n=true:=by exact rfl) (hx:opdL env xs=some vs:=by exact rfl)
    (hf:zgm (fun i=>some (i*k,k)) (zbb n zs) (ks.zip vs)=some r:=by exact rfl) (hc:zb2 n k r=some es:=by exact rfl):
    Walk c all chk (⟨some d,.buildSlice t n parts,ty,pos,af,none⟩::os) recs ⟨env,hp⟩ Q:=Walk.sliceLit ht hz hzk hk hparts hlen hsmall hpos .none hd hx hf hc hn
theorem ap {id k e yb:Nat}{xs ys:List (List D)}{vy:AV} (ht:SlT c.P t e k yb) (hz:ZeroT c.P e k) (hx:opd env x=some (.gl id xs)) (hy:opd env y=some vy) (hyd:vy.toD=some (.sl ys))
    (hky:∀y,y∈ys->y.length=k) (hb:(xs.length+ys.length)*70<=140737488355328)
    (hn:Walk c all chk os (zao ([]++(opF x (.gl id xs)++opF y vy)) [(id,.tok xs.length k)] [] ⟨some (d,.gl id (xs++ys)),[(id,some (.tok (xs.length+ys.length) k))]⟩::recs)
      ⟨(d,.gl id (xs++ys))::env,(id,some (.tok (xs.length+ys.length) k))::hp⟩ Q) (hk:Nat.blt 0 k=true:=by exact rfl) (hd:Nat.blt d c.n=true:=by exact rfl)
    (htok:getH hp id=some (.tok xs.length k):=by exact zcW rfl (by first|rfl|(simp;done)|(simp;omega))) (hyb:Nat.ble yb 70=true:=by exact rfl):
    Walk c all chk (⟨some d,.call ⟨.builtin .append,#[x,y],#[t,t]⟩,ty,pos,af,none⟩::os) recs ⟨env,hp⟩ Q:=
  Walk.append ht hz hk .none hd hx hy hyd htok hky (Nat.le_trans (Nat.mul_le_mul_left _ (Nat.le_of_ble_eq_true hyb)) hb) (by omega) hn
end
section
variable {c:Ctx}{all:Array Oper}{chk:List Rec->Prop}{os:List Oper}{recs:List Rec}{env:Env}{hp:Hp}{Q:St->Prop}
theorem evs (stop:List Nat) (kn:List (Nat×Bool)) (h:evW evT stop c all (fun _=>True) Q (fun _ env hp=>Q ⟨env,hp⟩) os recs env hp kn) (hk:KN env kn:=by exact trivial) (hT:TabsOK c.P evT:=by exact zjy):Walk c all (fun _=>True) os recs ⟨env,hp⟩ Q:=
  zjz hT (fun _ _ _ h=>⟨trivial,h⟩) hk h
theorem evd (stop:List Nat) (kn:List (Nat×Bool)) (h:evW evT stop c all chk Q (fun recs env hp=>chk recs/\Q ⟨env,hp⟩) os recs env hp kn) (hk:KN env kn:=by exact trivial) (hT:TabsOK c.P evT:=by exact zjy):Walk c all chk os recs ⟨env,hp⟩ Q:=
  zjz hT (fun _ _ _ h=>h) hk h
theorem ev (h:evW evT [] c all (fun _=>True) Q (fun _ env hp=>Q ⟨env,hp⟩) os recs env hp []) (hT:TabsOK c.P evT:=by exact zjy):Walk c all (fun _=>True) os recs ⟨env,hp⟩ Q:=
  evs [] [] h trivial hT
theorem evc (stop rs:List Nat){x:Code}{s:St}{K:Kt} (h:evC evT stop rs c x s K) (hT:TabsOK c.P evT:=by exact zjy) (hm:c.P.follows .mixedOrders=true:=by exact zvk):CWp c x s K:=zgU hT hm h
end
theorem bd (fn:Func) (n:Nat) (stop rs:List Nat){f:Nat}{code:Code}{rv:List ResultVar}{args:List AV}{hp:Hp}{Post:AV->Hp->Prop}
    (h:∀w0 F0 own kept,KeptIn kept (zfS hp)->evC evT stop rs ⟨Tryz.prog,n,w0,F0,own,kept⟩ code ⟨ziA 0 args,hp⟩ ⟨Fin Tryz.prog rv hp Post,fun _ _=>False,Fin Tryz.prog rv hp Post⟩)
    (hf:(Tryz.prog).funcs[f]?=some fn:=by exact rfl) (hb:fn.body=some code:=by exact rfl) (hnn:fn.ntmps=n:=by exact rfl) (hrs:fn.results.toList=rv:=by exact rfl) (hn:Nat.ble args.length n=true:=by exact rfl):
    Fn Tryz.prog f args hp Post:=Fn.body hf hb hnn hrs hn (fun w0 F0 own kept hk=>zgU zjy zvk (h w0 F0 own kept hk))
theorem ar {n:Int}{X:Prop} (k:X) (b:I64 n:=by first|(constructor<;>omega)|(constructor<;>simp<;>omega)):Ar n X:=⟨b,k⟩
class Nz (p:Prop) (q:outParam Prop):Prop where
  nz:p->q
instance (priority:=low){p:Prop}:Nz p p:=⟨id⟩
instance {b:Bool}{q:Prop} [h:Nz (b=false) q]:Nz ((!b)=true) q:=⟨fun hb=>h.nz (by simpa using hb)⟩
instance {b:Bool}{q:Prop} [h:Nz (b=true) q]:Nz ((!b)=false) q:=⟨fun hb=>h.nz (by simpa using hb)⟩
theorem sq {b:Bool}{X Y q r:Prop} [h1:Nz (b=true) q] [h2:Nz (b=false) r] (t:b=true->b=true->q->X) (f:b=false->b=false->r->Y):Sp b X Y:=⟨fun h=>t h h (h1.nz h),fun h=>f h h (h2.nz h)⟩
theorem sqT {b:Bool}{X Y:Prop} (h:X) (hb:b=true:=by exact rfl):Sp b X Y:=⟨fun _=>h,fun h2=>absurd (h2.symm.trans hb) (by decide)⟩
theorem sqF {b:Bool}{X Y:Prop} (h:Y) (hb:b=false:=by exact rfl):Sp b X Y:=⟨fun h2=>absurd (h2.symm.trans hb) (by decide),fun _=>h⟩
theorem dr {X Y:Prop} (h:Y) (hc:X:=by show _=_;kernel_rfl):X/\Y:=⟨hc,h⟩
section
variable {P:Program}{rs:List ResultVar}{hp:Hp}{s:St}{vs:List AV}{r:AV}
theorem rn {Post:AV->Hp->Prop} (hp':Hp) (h1:ResL P s rs vs) (h2:LeA (ziP vs) r) (h3:Post r hp') (h4:HSub (hp'++hp) s.hp) (h5:∀id,zb7 hp id=true->zb7 (hp'++hp) id=true):Fin P rs hp Post s:=⟨vs,r,hp',h1,h2,h3,h4,h5⟩
theorem rn0 (h1:ResL P s rs vs) (h2:LeA (ziP vs) r):Fin P rs [] (fun x y=>x=r/\y=[]) s:=⟨vs,r,[],h1,h2,⟨rfl,rfl⟩,HSub.nil,zxL⟩
theorem r1 {i:Nat}{v:AV} (h:getE s.env i=some v):ResL P s [.tmp i] [v]:= .cons (.tmp h) .nil
theorem rq{i:Nat}{x y:D} (e:x=y) (h:getE s.env i=some (.d x):=by exact rfl):Fin P [.tmp i] [] (fun a b=>a=.d y/\b=[]) s:=rn0 (r1 h) (.eqd e)
theorem r2 {i j:Nat}{v w:AV} (h:getE s.env i=some v) (h':getE s.env j=some w):ResL P s [.tmp i,.tmp j] [v,w]:= .cons (.tmp h) (.cons (.tmp h') .nil)
end
section
variable {env e':Env}{hp h':Hp}{ks:List Nat}{n:Nat}{u v:AV}{p q:Bool}
theorem jn (hu:getE e' n=some u) (le:LeA u v) (he:e'.drop (e'.length-env.length)=env:=by kernel_rfl) (hc:ze1 (zeh [(n,v)]++ks) (e'.take (e'.length-env.length))=true:=by kernel_rfl)
    (hh:h'.drop (h'.length-hp.length)=hp:=by kernel_rfl) (hhc:zdu (zcY []) (zcY hp) (h'.take (h'.length-hp.length))=true:=by kernel_rfl):Sub ⟨[(n,v)]++(zcF ks++env),[]++hp⟩ ⟨e',h'⟩:=
  Sub.x he hc ⟨⟨_,hu,le⟩,trivial⟩ hh hhc trivial
theorem jnb (hu:getE e' n=some (.d (.bool p))) (hpq:p=q:=by first|rfl|(rw[Bool.eq_iff_iff];(try simp only[BQ])<;>first|omega|(simp_all;done)|(simp_all;omega)))
    (he:e'.drop (e'.length-env.length)=env:=by kernel_rfl) (hc:ze1 (zeh [(n,.d (.bool q))]++ks) (e'.take (e'.length-env.length))=true:=by kernel_rfl)
    (hh:h'.drop (h'.length-hp.length)=hp:=by kernel_rfl) (hhc:zdu (zcY []) (zcY hp) (h'.take (h'.length-hp.length))=true:=by kernel_rfl):Sub ⟨[(n,.d (.bool q))]++(zcF ks++env),[]++hp⟩ ⟨e',h'⟩:=
  jn hu (xap hpq) he hc hh hhc
end
end Go.Proofs.YtlfipehhbdjnjaaGreat
namespace Go.Proofs.YtlfipehhbdjnjaaGreat
set_option linter.unusedSimpArgs false
set_option linter.unusedVariables false
abbrev Str:=List UInt8
structure Ty where
 data:Int
 index:Int
 deriving DecidableEq,Inhabited
structure Ctor where
 name:Str
 args:List Ty
 index:Int
 deriving DecidableEq,Inhabited
structure Data where
 name:Str
 ctors:List Ctor
 deriving DecidableEq,Inhabited
inductive Val where
 |mk (ctor n:Int) (kids:List Val)
 deriving Inhabited
inductive Pat where
 |mk (op ctor n m var:Int) (kids:List Pat)
 deriving Inhabited
abbrev Ty.c (t:Ty):List D:=[.i t.data,.i t.index]
abbrev zci (l:List Ty):D:= .sl (l.map Ty.c)
abbrev Ctor.c (x:Ctor):List D:=[.str x.name,zci x.args,.i x.index]
abbrev zuk (l:List Ctor):D:= .sl (l.map Ctor.c)
abbrev Data.c (x:Data):List D:=[.str x.name,zuk x.ctors]
abbrev zam (l:List Data):D:= .sl (l.map Data.c)
abbrev zbB (l:List Int):D:= .sl (l.map fun n=>[.i n])
abbrev zeO (l:List Str):D:= .sl (l.map fun n=>[.str n])
mutual
def Val.c:Val->List D
 | .mk ctor n kids=>[.i ctor,.i n,.sl (Val.cs kids)]
def Val.cs:List Val->List (List D)
 | []=>[]
 |v::r=>v.c::Val.cs r
end
abbrev zkk (l:List Val):D:= .sl (Val.cs l)
mutual
def Pat.c:Pat->List D
 | .mk op ctor n m var kids=>[.i op,.i ctor,.i n,.i m,.i var,.sl (Pat.cs kids)]
def Pat.cs:List Pat->List (List D)
 | []=>[]
 |v::r=>v.c::Pat.cs r
end
abbrev zad (l:List Pat):D:= .sl (Pat.cs l)
theorem Val.cs_eq:∀l:List Val,Val.cs l=l.map Val.c
 | []=>rfl
 |v::r=>by simp[Val.cs,Val.cs_eq r]
theorem Pat.cs_eq:∀l:List Pat,Pat.cs l=l.map Pat.c
 | []=>rfl
 |v::r=>by simp[Pat.cs,Pat.cs_eq r]
theorem zaK {α β:Type}{f:α->β}{pre:List α}{x:α}{rest xs:List α} (h:pre++x::rest=xs):(xs.map f)[pre.length]?=some (f x):=by
 subst h;simp
def Val.ctor:Val->Int | .mk a _ _=>a
def Val.num:Val->Int | .mk _ n _=>n
def Val.kids:Val->List Val | .mk _ _ k=>k
abbrev Val.cc (v:Val):List D:=[.i v.ctor,.i v.num,.sl (Val.cs v.kids)]
theorem Val.c_eq (v:Val):v.c=v.cc:=by cases v;rfl
theorem Val.eta (v:Val):Val.mk v.ctor v.num v.kids=v:=by cases v;rfl
theorem Val.cs_len (l:List Val):(Val.cs l).length=l.length:=by simp[Val.cs_eq]
theorem Pat.cs_len (l:List Pat):(Pat.cs l).length=l.length:=by simp[Pat.cs_eq]
end Go.Proofs.YtlfipehhbdjnjaaGreat
namespace Go.Proofs.YtlfipehhbdjnjaaGreat
open Go
set_option linter.unusedSimpArgs false
set_option linter.unusedVariables false
def zar (n lo hi:Int):Bool:=decide (lo<=n)&&decide (n<=hi)
def zdw (b:UInt8):Bool:=decide (65<=(b.toNat:Int))&&decide ((b.toNat:Int)<=90)
def zfZ (b:UInt8):Bool:=decide (97<=(b.toNat:Int))&&decide ((b.toNat:Int)<=122)
def zdl (s:Str):Bool:=s.all zfZ
def zc9 (s:Str):Bool:=zar s.length 1 5&&(match s with | []=>false|b::r=>zdw b&&zdl r)
def zbK (n:Nat) (t:Ty):Bool:=(decide (t.data = -1)&&(decide (t.index=0)&&true))||(zar t.data 0 (n-1)&&zar t.index (-1) 3)
def zbA (n:Nat) (c:Ctor):Bool:=zc9 c.name&&(decide ((c.args.length:Int)<=3)&&(zar c.index 0 3&& !(c.args.any fun t=> !zbK n t)))
def zd8 (n:Nat) (t:Ty):Bool:=(decide (t.data = -1)&&(decide (t.index=0)&&true))||(zar t.data 0 (n-1)&&zar t.index 0 3)
def zbm (s:Str):Bool:=decide ((s.length:Int)=1)&&(zdw (s.getD 0 0)&& !decide (s=[73]))
def zc2 (n:Nat) (met:List Str):List Ctor->Option (List Str)
 | []=>some met
 |c::r=>if zbA n c&& !decide (c.name∈met) then zc2 n (met++[c.name]) r else none
def zbE (n:Nat) (met datas:List Str):List Data->Bool
 | []=>true
 |d::r=>zbm d.name&& !decide (d.name∈datas)&&zar d.ctors.length 1 4&&
  (match zc2 n met d.ctors with
   |some met'=>zbE n met' (datas++[d.name]) r
   |none=>false)
def za0 (w:List Data):Bool:=decide ((w.length:Int)<=4)&&zbE w.length [] [] w
def zbF (w:List Data) (t:Ty):Bool:=za0 w&&zd8 w.length t
structure WSmall (w:List Data):Prop where
 len:w.length<=1000000000000
 data:∀d∈w,d.name.length<=1000000000000/\d.ctors.length<=1000000000000
 ctor:∀d∈w,∀c∈d.ctors,c.name.length<=1000000000000/\c.args.length<=1000000000000
def nth {α:Type} [Inhabited α] (l:List α) (i:Nat):α:=l.getD i default
theorem zap {α β:Type} [Inhabited α]{f:α->β}{l:List α}{i:Nat} (h:i<l.length):(l.map f)[i]?=some (f (nth l i)):=by
 simp[nth,List.getD,h]
theorem zac {α:Type} [Inhabited α]{l:List α}{i:Nat} (h:i<l.length):nth l i∈l:=by
 simp[nth,List.getD,h]
theorem zxv {α:Type} [Inhabited α]{pre rest l:List α}{x:α} (h:pre++x::rest=l):nth l pre.length=x:=by
 subst h;simp[nth,List.getD]
theorem WSmall.ctors {w:List Data} (h:WSmall w) (i:Nat):(nth w i).ctors.length<=1000000000000:=by
 by_cases hi:i<w.length
 ·exact(h.data _ (zac hi)).2
 ·have:nth w i=default:=by simp[nth,List.getD,List.getElem?_eq_none (Nat.le_of_not_lt hi)]
  rw[this];exact Nat.zero_le _
def zbM (w:List Data) (d k i j:Nat):Bool:=(decide (i<d)||decide (j<k))&&(decide (k<(nth w d).ctors.length)&&decide ((nth (nth w i).ctors j).name=(nth (nth w d).ctors k).name))
def zdm (w:List Data) (d k i:Nat):Bool:=(decide (i<d)&&decide ((nth w i).name=(nth w d).name))||(List.range (nth w i).ctors.length).any (zbM w d k i)
def zm9 (w:List Data) (d k:Nat):Bool:=(List.range (d+1)).any (zdm w d k)
def zd6 (w:List Data) (d k:Nat):Bool:=zbA w.length (nth (nth w d).ctors k)&& !zm9 w d k
def zcm (w:List Data) (d:Nat):Bool:=zbm (nth w d).name&&(decide (1<=(nth w d).ctors.length)&&(decide ((nth w d).ctors.length<=4)&&(List.range (nth w d).ctors.length).all (zd6 w d)))
def zbq (w:List Data):Bool:=decide (w.length<=4)&&(List.range w.length).all (zcm w)
theorem ze0 {n:Nat}{p:Nat->Bool} (h:∀i,i<n->p i=false):(List.range n).any p=false:=by
 rw[List.any_eq_false];intro i hi;rw[h i (List.mem_range.1 hi)];simp
theorem zcM {n:Nat}{p:Nat->Bool}{i:Nat} (hi:i<n) (h:p i=true):(List.range n).any p=true:=
 List.any_eq_true.2 ⟨i,List.mem_range.2 hi,h⟩
theorem zc6 {n:Nat}{p:Nat->Bool}{i:Nat} (hi:i<n) (h:p i=false):(List.range n).all p=false:=
 List.all_eq_false.2 ⟨i,List.mem_range.2 hi,by simp[h]⟩
theorem zdt {n:Nat}{p:Nat->Bool} (h:∀i,i<n->p i=true):(List.range n).all p=true:=by
 rw[List.all_eq_true];intro i hi;exact h i (List.mem_range.1 hi)
theorem zaX {P:Nat->Prop}{i:Nat} (h:∀j,j<i->P j) (hi:P i):∀j,j<i+1->P j:=fun j hj=>by
 rcases Nat.lt_or_eq_of_le (Nat.le_of_lt_succ hj) with h1|h1
 ·exact h j h1
 ·exact h1 ▸ hi
theorem zhC {w:List Data}{d k i j:Nat} (h1:(decide (i<d)&&decide ((nth w i).name=(nth w d).name))=false) (h2:∀j',j'<j->zbM w d k i j'=false)
  (h3:j<(nth w i).ctors.length->d<=i/\k<=j):zdm w d k i=false:=by
 unfold zdm;rw[h1,Bool.false_or];refine ze0 (fun j' hj'=>?_);by_cases h:j'<j
 ·exact h2 j' h
 ·have:=h3 (by omega);have e1:decide (i<d)=false:=decide_eq_false (by omega);have e2:decide (j'<k)=false:=decide_eq_false (by omega);simp only[zbM,e1,e2,Bool.or_self,Bool.false_and]
end Go.Proofs.YtlfipehhbdjnjaaGreat
namespace Go.Proofs.YtlfipehhbdjnjaaGreat
open Go
set_option linter.unusedSimpArgs false
set_option linter.unusedVariables false
set_option maxRecDepth 100000
set_option maxHeartbeats 2000000
theorem zbv {n lo hi:Int}:FnD Tryz.prog 100 [.d (.i n),.d (.i lo),.d (.i hi)] [] (.d (.bool (zar n lo hi))) []:=by
 refine bd Tryz.f100 15 [] [] fun w0 F0 own kept hk=>?_;refine sq ?_ ?_<;>intro h1 h1p h1s;focus (refine rq ?_;all_goals ((simp[zar,h1s,h1p];done)))
 focus (refine rq ?_;all_goals ((simp[zar,h1s,h1p];done)))
theorem zcb {s:Str} (h:0<s.length):zc9 s=(zar s.length 1 5&&(zdw s[0]&&zdl (s.drop 1))):=by
 rcases s with _|⟨b,r⟩
 ·simp at h
 ·simp[zc9]
theorem zi5 {s:Str} (h:s.length=0\/5<s.length):zc9 s=false:=by
 have:zar s.length 1 5=false:=by
  simp only[zar,Bool.and_eq_false_iff,decide_eq_false_iff_not];omega
 simp[zc9,this]
theorem zc3 {s:Str}{i:Nat} (h:i<s.length):zdl (s.drop i)=(zfZ s[i]&&zdl (s.drop (i+1))):=by
 unfold zdl;rw[List.drop_eq_getElem_cons h,List.all_cons]
theorem zjO {s:Str}{i:Nat} (h:s.length<=i):zdl (s.drop i)=true:=by
 rw[List.drop_eq_nil_of_le h];rfl
theorem zkw {s:Str} (hs:s.length<=1000000000000):FnD Tryz.prog 330 [.d (.str s)] [] (.d (.bool (zc9 s))) []:=by
 refine bd Tryz.f330 34 [] [] fun w0 F0 own kept hk=>?_;refine wc zcO (zbv) rfl rfl ?_;refine ev ?_;refine sq ?_ ?_<;>intro h1 h1p h1s;refine sqT ?_;refine sqT ?_;focus (refine rq ?_;all_goals ((simp[zc9,h1s,h1p];done)))
 try simp only[Q,zar] at h1p
 refine xaY (i:=0) un9 (.some rfl rfl h1) rfl rfl rfl rfl (List.getElem?_eq_getElem (by omega)) ?_;refine evs [] [(8,false)] ?_ ⟨⟨_,rfl,h1⟩,trivial⟩;refine sq ?_ ?_<;>intro h3 h3p h3s<;>(try simp only[Q,zar] at h3p);refine sqT ?_;focus (refine rq ?_;all_goals ((rw[zcb (by omega)];simp[zdw];omega)))
 refine xaY (i:=0) un9 (.some rfl rfl h3) rfl rfl rfl rfl (List.getElem?_eq_getElem (by omega)) ?_;refine evs [] [(13,false)] ?_ ⟨⟨_,rfl,h3⟩,trivial⟩;refine sq ?_ ?_<;>intro h5 h5p h5s<;>(try simp only[Q,zar] at h5p);focus (refine rq ?_;all_goals ((rw[zcb (by omega)];simp[zdw];omega)))
 refine xak (ι:=Nat) hk (fun i=>[(3,.d (.i (i:Int)))]) [2,18,19,20,21,22,23,24,25,26,27,28,29,30,31,32,33] (fun i=>[]) (fun i=>1<=i/\i<=s.length/\zdl (s.drop i)=zdl (s.drop 1)) (fun i=>s.length-i) 1 ⟨by omega,by omega,rfl⟩ ⟨⟨_,rfl,xaq ?_⟩,trivial⟩ trivial (fun x=>rfl) (fun i hg1=>?_);focus (rfl)
 refine evc [] [] ?_;refine sq ?_ ?_<;>intro h6 h6p h6s<;>(try simp only[Q,zar] at h6p);refine xaY un9 .none rfl rfl rfl rfl (List.getElem?_eq_getElem (by omega)) ?_;refine ev ?_;refine sq ?_ ?_<;>intro h7 h7p h7s<;>(try simp only[Q,zar] at h7p);refine sqT ?_;focus (refine rq ?_;all_goals ((rw[zcb (by omega),<-hg1.2.2,zc3 (by omega)];simp[zfZ];omega)))
 refine xaY un9 (.some rfl rfl h7) rfl rfl rfl rfl (List.getElem?_eq_getElem (by omega)) ?_;refine evs [] [(28,false)] ?_ ⟨⟨_,rfl,h7⟩,trivial⟩;refine sq ?_ ?_<;>intro h9 h9p h9s<;>(try simp only[Q,zar] at h9p);focus (refine rq ?_;all_goals ((rw[zcb (by omega),<-hg1.2.2,zc3 (by omega)];simp[zfZ];omega)))
 refine ar ?_;refine xah (i+1) ⟨⟨by omega,by omega,by rw[<-hg1.2.2,zc3 (i:=i) (by omega)];simp[zfZ];omega⟩, ?_,sx ⟨⟨_,rfl,xaq ?_⟩,trivial⟩ trivial⟩;focus (omega)
 focus (rfl)
 focus (refine rq ?_;all_goals ((rw[zcb (by omega),<-hg1.2.2,zjO (by omega)];simp[zar,zdw];omega)))
theorem zgl (hp:Hp):(zfS hp).all (fun id=>(getH ([]++hp) id).isSome)=true:=by
 rw[List.all_eq_true];intro id h;simp only[zfS,List.mem_filter] at h;exact(ze9 h.2).1
def idxF {α:Type} (p:α->Bool):List α->Nat->Int
 | [],_=> -1
 |x::r,i=>if p x then (i:Int) else idxF p r (i+1)
theorem zeE {α:Type} (p:α->Bool):∀(l:List α) (i:Nat),decide (0<=idxF p l i)=l.any p
 | [],_=>by simp[idxF]
 |x::r,i=>by
  unfold idxF;cases h:p x with
  |true=>simp[h]
  |false=>simp[h,zeE p r (i+1)]
theorem zcS {hp:Hp} (h:zaV hp [] (.d .nilp) []=true) (x:D):zaV hp [] (.d x) []=true:=h
theorem zhW {xs:List Ty}{f:Nat}{caps:List AV}{hp:Hp}{p:Ty->Bool} (hs:xs.length<=1000000000000) (hcal:Callee Tryz.prog f)
  (hf:∀t∈xs,FnD Tryz.prog f ([.agg [.d (.i t.data),.d (.i t.index)]]++caps) hp (.d (.bool (p t))) []) (k1:subH hp hp) (k2:zdH hp=true) (k3:zaV hp [] (.d .nilp) []=true):
  FnD Tryz.prog 348 [.d (zci xs),.fn f caps] hp (.d (.i (idxF p xs 0))) []:=by
 refine bd Tryz.f348 19 [] [] fun w0 F0 own kept hk=>?_;refine xak (ι:=List (Ty)×List (Ty)) hk (fun x=>[(8,.d (.i (x.1.length:Int)))]) [4,5,9,10,11,12,13,14,15,16,17,18] (fun x=>[]) (fun x=>x.1++x.2=xs/\idxF p x.2 x.1.length=idxF p xs 0) (fun x=>x.2.length) ([],xs) ⟨by simp,rfl⟩ ⟨⟨_,rfl,xaq ?_⟩,trivial⟩ trivial (fun x=>zgl hp) (fun x hg1=>?_);focus (rfl)
 obtain⟨pre,rest⟩:=x;dsimp only at hg1 ⊢;refine evc [] [] ?_;refine sq ?_ ?_<;>intro h1 h1p h1s<;>(try simp only[Q] at h1p);rcases rest with _|⟨y,rest⟩
 ·exfalso;simp_all
 refine xaS zaZ .none rfl rfl rfl rfl (zaK hg1.1) rfl ?_;refine ev ?_;refine xaH (cr:=[]) hcal (hf y (by rw[<-hg1.1];simp)) rfl .none rfl rfl rfl (LeL.refl _) k1 k2 (zcS k3 _) rfl ?_;refine tv ?_;refine sq ?_ ?_<;>intro h2 h2p h2s<;>(try simp only[Q] at h2p);focus (refine rn [] (r1 rfl) (.eqd ?_) ⟨rfl,rfl⟩ (fun _ _ h=>h) (fun _ h=>h);all_goals (rw[<-hg1.2];simp[idxF,h1s,h1p,h2s,h2p]))
 refine ar ?_;refine xah ((pre++[y],rest)) ⟨⟨(by have hz:=hg1.1;rw[<-hz];simp),(by rw[<-hg1.2];simp[idxF,h2s])⟩,(by simp),Sub.x (by kernel_rfl) (by kernel_rfl) ⟨⟨_,rfl,xaq ?_⟩,trivial⟩ (by simp) (by simp[zdu]) trivial⟩;focus ((simp;done))
 have hrest:rest=[]:=by
  rcases rest with _|⟨a,b⟩
  ·rfl
  ·exfalso;have hz:=congrArg List.length (hg1.1);simp only[xaa,xab,xac] at hz;omega
 subst hrest;focus (refine rn [] (r1 rfl) (.eqd ?_) ⟨rfl,rfl⟩ (fun _ _ h=>h) (fun _ h=>h);all_goals (rw[<-hg1.2];simp[idxF,h1s,h1p]))
theorem zgv {xs:List Ty}{f:Nat}{caps:List AV}{hp:Hp}{p:Ty->Bool} (hs:xs.length<=1000000000000) (hcal:Callee Tryz.prog f)
  (hf:∀t∈xs,FnD Tryz.prog f ([.agg [.d (.i t.data),.d (.i t.index)]]++caps) hp (.d (.bool (p t))) []) (k1:subH hp hp) (k2:zdH hp=true) (k3:zaV hp [] (.d .nilp) []=true):
  FnD Tryz.prog 287 [.d (zci xs),.fn f caps] hp (.d (.bool (xs.any p))) []:=by
 refine bd Tryz.f287 9 [] [] fun w0 F0 own kept hk=>?_;refine Walk.call (cr:=[]) zw7 (zhW hs hcal hf k1 k2 k3) rfl .none rfl rfl (LeL.refl _) k1 k2 (zcS k3 _) rfl ?_;refine ev ?_;refine rn [] (r1 rfl) (.eqd ?_) ⟨rfl,rfl⟩ (fun _ _ h=>h) (fun _ h=>h);rotate_left;all_goals (exact congrArg D.bool (zeE p xs 0))
theorem zoR {w:List Data}{a b:Int} (hs:w.length<=1000000000000):FnD Tryz.prog 332 [.d (zam w),.agg [.d (.i a),.d (.i b)]] [] (.d (.bool (zbK w.length ⟨a,b⟩))) []:=by
 refine bd Tryz.f332 21 [7] [] fun w0 F0 own kept hk=>?_;refine bx 3003 ?_;refine evs [7] [] ?_;refine bu [0] [_] st25 ?_;refine Walk.eqV eq25 .none rfl rfl rfl rfl rfl ?_;refine evs [7] [] ?_;refine sq ?_ ?_<;>intro h1 h1p h1s;try simp only[Q] at h1p
 focus (refine rq ?_;all_goals ((simp[zbK,h1s,h1p];done)))
 refine ar ?_ (by constructor<;>simp<;>omega);refine Walk.call (cr:=[]) zcO (zbv) rfl (.some rfl rfl h1) rfl rfl (LeL.refl _) trivial rfl rfl rfl ?_;refine evs [7] [(8,false)] ?_ ⟨⟨_,rfl,h1⟩,trivial⟩;refine sq ?_ ?_<;>intro h2 h2p h2s;refine Walk.call (cr:=[]) zcO (zbv) rfl (.some rfl rfl h2) rfl rfl (LeL.refl _) trivial rfl rfl rfl ?_;refine evs [7] [(8,false),(15,true)] ?_ ⟨⟨_,rfl,h1⟩,⟨_,rfl,h2⟩,trivial⟩;focus (refine rq ?_;all_goals ((simp_all[zbK];done)))
 focus (refine rq ?_;all_goals ((simp_all[zbK];done)))
theorem znu {w:List Data}{a b:Int} (hs:w.length<=1000000000000):FnD Tryz.prog 215 [.d (zam w),.agg [.d (.i a),.d (.i b)]] [] (.d (.bool (zd8 w.length ⟨a,b⟩))) []:=by
 refine bd Tryz.f215 21 [7] [] fun w0 F0 own kept hk=>?_;refine bx 3003 ?_;refine evs [7] [] ?_;refine bu [0] [_] st25 ?_;refine Walk.eqV eq25 .none rfl rfl rfl rfl rfl ?_;refine evs [7] [] ?_;refine sq ?_ ?_<;>intro h1 h1p h1s;try simp only[Q] at h1p
 focus (refine rq ?_;all_goals ((simp[zd8,h1s,h1p];done)))
 refine ar ?_ (by constructor<;>simp<;>omega);refine Walk.call (cr:=[]) zcO (zbv) rfl (.some rfl rfl h1) rfl rfl (LeL.refl _) trivial rfl rfl rfl ?_;refine evs [7] [(8,false)] ?_ ⟨⟨_,rfl,h1⟩,trivial⟩;refine sq ?_ ?_<;>intro h2 h2p h2s;refine Walk.call (cr:=[]) zcO (zbv) rfl (.some rfl rfl h2) rfl rfl (LeL.refl _) trivial rfl rfl rfl ?_;refine evs [7] [(8,false),(15,true)] ?_ ⟨⟨_,rfl,h1⟩,⟨_,rfl,h2⟩,trivial⟩;focus (refine rq ?_;all_goals ((simp_all[zd8];done)))
 focus (refine rq ?_;all_goals ((simp_all[zd8];done)))
theorem zla {w:List Data}{a b:Int} (hs:w.length<=1000000000000):FnD Tryz.prog 331 [.agg [.d (.i a),.d (.i b)],.ref 1002 0] [(1002,some (.box [.d (zam w)]))] (.d (.bool (!zbK w.length ⟨a,b⟩))) []:=by
 refine bd Tryz.f331 8 [] [] fun w0 F0 own kept hk=>?_;refine bx 3002 ?_;refine ev ?_;refine wc zw5 (zoR hs) rfl rfl ?_;refine ev ?_;focus (refine rn [] (r1 rfl) (.eqd ?_) ⟨rfl,rfl⟩ (SubH.get ⟨rfl,trivial⟩) (fun _ h=>h);all_goals (rfl))
theorem zns {w:List Data}{s:Str}{args:List Ty}{k:Int} (hs:w.length<=1000000000000) (hn:s.length<=1000000000000) (ha:args.length<=1000000000000):FnD Tryz.prog 267 [.d (zam w),.agg [.d (.str s),.d (zci args),.d (.i k)]] [] (.d (.bool (zbA w.length ⟨s,args,k⟩))) []:=by
 refine bd Tryz.f267 26 [] [] fun w0 F0 own kept hk=>?_;refine bx 1002 ?_;refine bx 3003 ?_;refine ev ?_;refine wc zw3 (zkw hn) rfl rfl ?_;refine ev ?_;refine sq ?_ ?_<;>intro h1 h1p h1s;refine sq ?_ ?_<;>intro h2 h2p h2s<;>(try simp only[Q] at h2p);refine Walk.call (cr:=[]) zcO (zbv) rfl (.some rfl rfl h2) rfl rfl (LeL.refl _) trivial rfl rfl rfl ?_;refine evs [] [(14,true)] ?_ ⟨⟨_,rfl,h2⟩,trivial⟩;refine sq ?_ ?_<;>intro h3 h3p h3s;try simp only[Q] at h3p
 refine xaJ (xs:=[_]) rfl (.some rfl rfl h3) rfl rfl ?_;refine Walk.call (cr:=[]) zwT (zgv (p:=fun t=> !zbK w.length t) ha zw4 (fun t _=>zla hs) ⟨rfl,trivial⟩ rfl rfl) rfl (.some rfl rfl h3) rfl rfl (LeL.refl _) ⟨rfl,trivial⟩ rfl rfl rfl ?_;refine evs [] [(19,true)] ?_ ⟨⟨_,rfl,h3⟩,trivial⟩;focus (refine rq ?_;all_goals ((simp[zbA,h1s,h1p,h2s,h2p,h3s,h3p];done)))
 focus (refine rq ?_;all_goals ((simp[zbA,h1s,h1p,h2s,h2p,h3s,h3p];done)))
 refine sqF ?_;focus (refine rq ?_;all_goals ((simp[zbA,h1s,h1p,h2s,h2p];done)))
 refine sqF ?_;refine sqF ?_;focus (refine rq ?_;all_goals ((simp[zbA,h1s,h1p];done)))
theorem zl8 {s:Str} (h:0<s.length):s.getD 0 0=s[0]:=by
 rcases s with _|⟨b,r⟩
 ·simp at h
 ·rfl
theorem Ctor.eta (c:Ctor):Ctor.mk c.name c.args c.index=c:=rfl
theorem Ty.eta (c:Ty):Ty.mk c.data c.index=c:=rfl
theorem Data.eta (c:Data):Data.mk c.name c.ctors=c:=rfl
theorem zwe {w:List Data}{met datas:List Str} (h4:(w.length:Int)<=4) (h:zbE w.length met datas []=zbE w.length [] [] w):D.bool true=D.bool (za0 w):=by
 unfold za0;rw[<-h,decide_eq_true h4];rfl
theorem zec {w rest:List Data}{met datas:List Str} (h:zbE w.length met datas rest=zbE w.length [] [] w) (h2:zbE w.length met datas rest=false):D.bool false=D.bool (za0 w):=by
 unfold za0;rw[<-h,h2,Bool.and_false]
theorem zjE {w:List Data} (hs:WSmall w):FnD Tryz.prog 177 [.d (zam w)] [] (.d (.bool (za0 w))) []:=by
 have hs1:=hs.len;refine bd Tryz.f177 79 [] [] fun w0 F0 own kept hk=>?_;refine sq ?_ ?_<;>intro h1 h1p h1s<;>(try simp only[Q] at h1p);focus (refine rq ?_;all_goals ((simp[za0];omega)))
 refine Walk.makeMap (id:=3012) .none rfl rfl ?_;refine ev ?_;refine Walk.makeMap (id:=3013) .none rfl rfl ?_;refine ev ?_;refine xak (ι:=List (Data)×List (Data)×(List Str)×(List Str)) hk (fun x=>[(16,.d (.i (x.1.length:Int))),(3,.mapr 3012),(4,.mapr 3013)]) [2,6,8,17,18,19,20,21,22,23,24,25,26,27,28,29,30,31,32,33,34,35,36,37,38,39,40,41,42,43,44,45,46,47,48,49,50,51,52,53,54,55,56,57,58,59,60,61,62,63,64,65,66,67,68,69,70,71,72,73,74,75,76,77,78] (fun x=>[(3012,some (.map x.2.2.1)),(3013,some (.map x.2.2.2))]) (fun x=>x.1++x.2.1=w/\zbE w.length x.2.2.1 x.2.2.2 x.2.1=zbE w.length [] [] w) (fun x=>x.2.1.length) ([],w,[],[]) ⟨by simp,rfl⟩ ⟨⟨_,rfl,xaq ?_⟩,⟨⟨_,rfl, ?_⟩,⟨⟨_,rfl, ?_⟩,trivial⟩⟩⟩ ⟨?_,⟨?_,trivial⟩⟩ (fun x=>rfl) (fun x hg1=>?_);focus (rfl)
 iterate 2 focus (exact LeA.refl _)
 iterate 2 focus (first|rfl|(simp[getH];done))
 obtain⟨pre,rest,met,datas⟩:=x;dsimp only at hg1 ⊢;refine evc [] [] ?_;refine sq ?_ ?_<;>intro h2 h2p h2s<;>(try simp only[Q] at h2p);rcases rest with _|⟨d,rest⟩
 ·exfalso;simp_all
 refine xaS sl23 .none rfl rfl rfl rfl (zaK hg1.1) rfl ?_;refine ev ?_;refine ab 3006 zsv ?_;refine so zvq ?_;refine tv ?_;refine sq ?_ ?_<;>intro h3 h3p h3s<;>(try simp only[Q] at h3p);refine sqT ?_;refine sqT ?_;refine sqT ?_;refine sqT ?_;refine sqT ?_;focus (refine rq ?_;all_goals ((refine zec hg1.2 ?_;simp[zbE,zbm,h1s,h1p,h2s,h2p,h3s,h3p];done)))
 refine xaY (i:=0) un9 (.some rfl rfl h3) rfl rfl rfl rfl (List.getElem?_eq_getElem (by omega)) ?_;refine evs [] [(24,false)] ?_ ⟨⟨_,rfl,h3⟩,trivial⟩;refine sq ?_ ?_<;>intro h5 h5p h5s<;>(try simp only[Q] at h5p);refine sqT ?_;refine sqT ?_;refine sqT ?_;refine sqT ?_;focus (refine rq ?_;all_goals ((refine zec hg1.2 ?_;simp only[zbE,zbm,zl8 (s:=d.name) (by omega),zdw];simp[h1s,h1p,h2s,h2p,h3s,h3p,h5s,h5p];omega)))
 refine xaY (i:=0) un9 (.some rfl rfl h5) rfl rfl rfl rfl (List.getElem?_eq_getElem (by omega)) ?_;refine evs [] [(30,false)] ?_ ⟨⟨_,rfl,h5⟩,trivial⟩;refine sq ?_ ?_<;>intro h7 h7p h7s<;>(try simp only[Q] at h7p);refine sqT ?_;refine sqT ?_;refine sqT ?_;focus (refine rq ?_;all_goals ((refine zec hg1.2 ?_;simp only[zbE,zbm,zl8 (s:=d.name) (by omega),zdw];simp[h1s,h1p,h2s,h2p,h3s,h3p,h5s,h5p,h7s,h7p];omega)))
 refine sq ?_ ?_<;>intro h9 h9p h9s<;>(try simp only[Q] at h9p);refine sqT ?_;refine sqT ?_;focus (refine rq ?_;all_goals ((refine zec hg1.2 ?_;simp[zbE,zbm,h1s,h1p,h2s,h2p,h3s,h3p,h5s,h5p,h7s,h7p,h9s,h9p];done)))
 refine Walk.lookup zo8 (.some rfl rfl h9) rfl rfl rfl rfl ?_;refine evs [] [(41,false)] ?_ ⟨⟨_,rfl,h9⟩,trivial⟩;refine sq ?_ ?_<;>intro h11 h11p h11s<;>(try simp only[Q] at h11p);refine sqT ?_;focus (refine rq ?_;all_goals ((refine zec hg1.2 ?_;simp[zbE,zbm,h1s,h1p,h2s,h2p,h3s,h3p,h5s,h5p,h7s,h7p,h9s,h9p,h11s,h11p];done)))
 refine Walk.call (cr:=[]) zcO (zbv) rfl (.some rfl rfl h11) rfl rfl (LeL.refl _) trivial rfl rfl rfl ?_;refine evs [] [(47,false)] ?_ ⟨⟨_,rfl,h11⟩,trivial⟩;refine sq ?_ ?_<;>intro h13 h13p h13s<;>(try simp only[Q] at h13p);focus (refine rq ?_;all_goals ((refine zec hg1.2 ?_;simp[zbE,zbm,h1s,h1p,h2s,h2p,h3s,h3p,h5s,h5p,h7s,h7p,h9s,h9p,h11s,h11p,h13s,h13p];done)))
 refine Walk.mapUpdate zo8 .none rfl rfl rfl rfl (by simp_all) ?_;refine tv ?_;refine xak (ι:=List (Ctor)×List (Ctor)×(List Str)) hk (fun x=>[(60,.d (.i (x.1.length:Int)))]) [2,8,61,62,63,64,65,66,67,68,69,70,71,72,73,74,75,76,77] (fun x=>[(3012,some (.map x.2.2))]) (fun x=>x.1++x.2.1=d.ctors/\zc2 w.length x.2.2 x.2.1=zc2 w.length met d.ctors) (fun x=>x.2.1.length) ([],d.ctors,met) ⟨by simp,rfl⟩ ⟨⟨_,rfl,xaq ?_⟩,trivial⟩ ⟨?_,trivial⟩ (fun x=>rfl) (fun x hg2=>?_);focus (rfl)
 focus (first|rfl|(simp[getH];done))
 obtain⟨pre2,rest2,met2⟩:=x;dsimp only at hg2 ⊢;have hb:=(hs.data d (by rw[<-hg1.1];simp)).2;refine evc [] [] ?_;refine sq ?_ ?_<;>intro h14 h14p h14s<;>(try simp only[Q] at h14p);rcases rest2 with _|⟨y,rest2⟩
 ·exfalso;simp_all
 refine xaS zcA .none rfl rfl rfl rfl (zaK hg2.1) rfl ?_;refine ev ?_;refine ab 3008 zgE ?_;refine so zc1 ?_;refine tv ?_;refine wc zwO (zns hs1 (hs.ctor d (by rw[<-hg1.1];simp) y (by rw[<-hg2.1];simp)).1 (hs.ctor d (by rw[<-hg1.1];simp) y (by rw[<-hg2.1];simp)).2) rfl rfl ?_;refine ev ?_;refine sq ?_ ?_<;>intro h15 h15p h15s<;>(try simp only[Q] at h15p);refine sqT ?_;focus (refine rq ?_;all_goals ((refine zec hg1.2 ?_;rw[zbE,<-hg2.2];simp[zc2,h1s,h1p,h2s,h2p,h3s,h3p,h5s,h5p,h7s,h7p,h9s,h9p,h11s,h11p,h13s,h13p,h14s,h14p,h15s,h15p];done)))
 refine Walk.lookup zo8 (.some rfl rfl h15) rfl rfl rfl rfl ?_;refine evs [] [(68,false)] ?_ ⟨⟨_,rfl,h15⟩,trivial⟩;refine sq ?_ ?_<;>intro h17 h17p h17s<;>(try simp only[Q] at h17p);focus (refine rq ?_;all_goals ((refine zec hg1.2 ?_;rw[zbE,<-hg2.2];simp[zc2,h1s,h1p,h2s,h2p,h3s,h3p,h5s,h5p,h7s,h7p,h9s,h9p,h11s,h11p,h13s,h13p,h14s,h14p,h15s,h15p,h17s,h17p];done)))
 refine Walk.mapUpdate zo8 .none rfl rfl rfl rfl (by simp_all) ?_;refine tv ?_;refine ar ?_;refine xah ((pre2++[y],rest2,met2++[y.name])) ⟨⟨(by have hz:=hg2.1;rw[<-hz];simp),(by rw[<-hg2.2];simp[zc2,h1s,h1p,h2s,h2p,h3s,h3p,h5s,h5p,h7s,h7p,h9s,h9p,h11s,h11p,h13s,h13p,h14s,h14p,h15s,h15p,h17s,h17p])⟩,(by simp),sx ⟨⟨_,rfl,xaq ?_⟩,trivial⟩ ⟨?_,trivial⟩⟩;focus ((simp;done))
 focus (first|rfl|(simp[getH];done))
 have hrest2:rest2=[]:=by
  rcases rest2 with _|⟨a,b⟩
  ·rfl
  ·exfalso;have hz:=congrArg List.length (hg2.1);simp only[xaa,xab,xac] at hz;omega
 subst hrest2;refine ar ?_;refine xah ((pre++[d],rest,met2,datas++[d.name])) ⟨⟨(by have hz:=hg1.1;rw[<-hz];simp),(by rw[<-hg1.2,zbE,<-hg2.2];simp only[zbm,zl8 (s:=d.name) (by omega),zdw];simp[zc2,h1s,h1p,h2s,h2p,h3s,h3p,h5s,h5p,h7s,h7p,h9s,h9p,h11s,h11p,h13s,h13p,h14s,h14p];omega)⟩,(by simp),sx ⟨⟨_,rfl,xaq ?_⟩,⟨⟨_,rfl, ?_⟩,⟨⟨_,rfl, ?_⟩,trivial⟩⟩⟩ ⟨?_,⟨?_,trivial⟩⟩⟩;focus ((simp;done))
 iterate 2 focus (exact LeA.refl _)
 iterate 2 focus (first|rfl|(simp[getH];done))
 have hrest:rest=[]:=by
  rcases rest with _|⟨a,b⟩
  ·rfl
  ·exfalso;have hz:=congrArg List.length (hg1.1);simp only[xaa,xab,xac] at hz;omega
 subst hrest;focus (refine rq ?_;all_goals ((exact zwe (by omega) hg1.2)))
theorem zkx {w:List Data}{a b:Int} (hs:WSmall w):FnD Tryz.prog 120 [.d (zam w),.agg [.d (.i a),.d (.i b)]] [] (.d (.bool (zbF w ⟨a,b⟩))) []:=by
 refine bd Tryz.f120 12 [] [] fun w0 F0 own kept hk=>?_;refine bx 3003 ?_;refine ev ?_;refine wc zwz (zjE hs) rfl rfl ?_;refine ev ?_;refine sq ?_ ?_<;>intro h1 h1p h1s;refine Walk.call (cr:=[]) zwC (znu hs.len) rfl (.some rfl rfl h1) rfl rfl (LeL.refl _) trivial rfl rfl rfl ?_;refine evs [] [(7,true)] ?_ ⟨⟨_,rfl,h1⟩,trivial⟩;focus (refine rq ?_;all_goals ((simp[zbF,h1s,h1p];done)))
 focus (refine rq ?_;all_goals ((simp[zbF,h1s,h1p];done)))
def zcx (n:Int):Bool:=decide (65<=n)&&decide (n<=90)
theorem zi7 {n:Int}:FnD Tryz.prog 335 [.d (.int .u8 n)] [] (.d (.bool (zcx n))) []:=by
 refine bd Tryz.f335 9 [] [] fun w0 F0 own kept hk=>?_;refine sq ?_ ?_<;>intro h1 h1p h1s;focus (refine rq ?_;all_goals ((simp[zcx,h1s,h1p];done)))
 focus (refine rq ?_;all_goals ((simp[zcx,h1s,h1p];done)))
theorem zkA {s:Str} (hs:s.length<=1000000000000):FnD Tryz.prog 336 [.d (.str s)] [] (.d (.bool (zc9 s))) []:=by
 refine bd Tryz.f336 34 [] [] fun w0 F0 own kept hk=>?_;refine sq ?_ ?_<;>intro h1 h1p h1s<;>(try simp only[Q,zcx] at h1p);refine sqT ?_;refine sqT ?_;focus (refine rq ?_;all_goals ((rw[zi5 (by omega)];done)))
 refine sq ?_ ?_<;>intro h3 h3p h3s<;>(try simp only[Q,zcx] at h3p);refine sqT ?_;focus (refine rq ?_;all_goals ((rw[zi5 (by omega)];done)))
 refine xaY (i:=0) un9 (.some rfl rfl h3) rfl rfl rfl rfl (List.getElem?_eq_getElem (by omega)) ?_;refine Walk.call (cr:=[]) zs0 (zi7) rfl (.some rfl rfl h3) rfl rfl (LeL.refl _) trivial rfl rfl rfl ?_;refine evs [] [(12,false)] ?_ ⟨⟨_,rfl,h3⟩,trivial⟩;refine sq ?_ ?_<;>intro h5 h5p h5s<;>(try simp only[Q,zcx] at h5p);focus (refine rq ?_;all_goals ((rw[zcb (by omega)];simp only[zdw,h1s,h1p,h3s,h3p,h5s,h5p];simp;done)))
 refine xak (ι:=Nat) hk (fun i=>[(3,.d (.i (i:Int)))]) [2,18,19,20,21,22,23,24,25,26,27,28,29,30,31,32,33] (fun i=>[]) (fun i=>1<=i/\i<=s.length/\zdl (s.drop i)=zdl (s.drop 1)) (fun i=>s.length-i) 1 ⟨by omega,by omega,rfl⟩ ⟨⟨_,rfl,xaq ?_⟩,trivial⟩ trivial (fun x=>rfl) (fun i hg1=>?_);focus (rfl)
 refine evc [] [] ?_;refine sq ?_ ?_<;>intro h6 h6p h6s<;>(try simp only[Q,zcx] at h6p);refine xaY un9 .none rfl rfl rfl rfl (List.getElem?_eq_getElem (by omega)) ?_;refine ev ?_;refine sq ?_ ?_<;>intro h7 h7p h7s<;>(try simp only[Q,zcx] at h7p);refine sqT ?_;focus (refine rq ?_;all_goals ((rw[zcb (by omega),<-hg1.2.2,zc3 (by omega)];simp[zfZ];omega)))
 refine xaY un9 (.some rfl rfl h7) rfl rfl rfl rfl (List.getElem?_eq_getElem (by omega)) ?_;refine evs [] [(28,false)] ?_ ⟨⟨_,rfl,h7⟩,trivial⟩;refine sq ?_ ?_<;>intro h9 h9p h9s<;>(try simp only[Q,zcx] at h9p);focus (refine rq ?_;all_goals ((rw[zcb (by omega),<-hg1.2.2,zc3 (by omega)];simp[zfZ];omega)))
 refine ar ?_;refine xah (i+1) ⟨⟨by omega,by omega,by rw[<-hg1.2.2,zc3 (i:=i) (by omega)];simp[zfZ];omega⟩, ?_,sx ⟨⟨_,rfl,xaq ?_⟩,trivial⟩ trivial⟩;focus (omega)
 focus (rfl)
 focus (refine rq ?_;all_goals ((rw[zcb (by omega),<-hg1.2.2,zjO (by omega)];simp[zar,zdw];omega)))
theorem znJ {s:Str} (hs:s.length<=1000000000000):FnD Tryz.prog 272 [.d (.str s)] [] (.d (.bool (zbm s))) []:=by
 refine bd Tryz.f272 15 [] [] fun w0 F0 own kept hk=>?_;refine sq ?_ ?_<;>intro h1 h1p h1s;try simp only[Q] at h1p
 refine xaY (i:=0) un9 (.some rfl rfl h1) rfl rfl rfl rfl (List.getElem?_eq_getElem (by omega)) ?_;refine Walk.call (cr:=[]) zs0 (zi7) rfl (.some rfl rfl h1) rfl rfl (LeL.refl _) trivial rfl rfl rfl ?_;refine evs [] [(6,true)] ?_ ⟨⟨_,rfl,h1⟩,trivial⟩;refine sq ?_ ?_<;>intro h2 h2p h2s;try simp only[Q] at h2p
 focus (refine rq ?_;all_goals ((simp only[zbm,zl8 (s:=s) (by omega),zdw];simp only[zcx,xad,decide_eq_true_eq] at *;simp[*];done)))
 focus (refine rq ?_;all_goals ((simp only[zbm,zl8 (s:=s) (by omega),zdw];simp only[zcx,xad,decide_eq_true_eq] at *;simp[*];done)))
 refine sqF ?_;focus (refine rq ?_;all_goals ((simp[zbm,h1s,h1p];done)))
theorem zi6 {n:Nat}{a b:Int}:FnD Tryz.prog 295 [.d (.i n),.agg [.d (.i a),.d (.i b)]] [] (.d (.bool (zbK n ⟨a,b⟩))) []:=by
 refine bd Tryz.f295 30 [] [] fun w0 F0 own kept hk=>?_;refine bx 3003 ?_;refine ev ?_;refine sq ?_ ?_<;>intro h1 h1p h1s;try simp only[Q] at h1p
 focus (refine rq ?_;all_goals ((simp[zbK,zar,h1s,h1p];done)))
 refine sq ?_ ?_<;>intro h2 h2p h2s;try simp only[Q] at h2p
 refine sq ?_ ?_<;>intro h3 h3p h3s<;>(try simp only[Q] at h3p);refine sq ?_ ?_<;>intro h4 h4p h4s;try simp only[Q] at h4p
 focus (refine rq ?_;all_goals ((apply congrArg D.bool;rw[Bool.eq_iff_iff];simp[zbK,zar];omega)))
 focus (refine rq ?_;all_goals ((simp[zbK,zar,h1s,h1p,h2s,h2p,h3s,h3p,h4s,h4p];done)))
 refine sqF ?_;focus (refine rq ?_;all_goals ((apply congrArg D.bool;rw[Bool.eq_iff_iff];simp[zbK,zar];omega)))
 refine sqF ?_;refine sqF ?_;focus (refine rq ?_;all_goals ((simp[zbK,zar,h1s,h1p,h2s,h2p];done)))
theorem znH {n:Nat}{s:Str}{args:List Ty}{k:Int} (hn:s.length<=1000000000000) (ha:args.length<=1000000000000):FnD Tryz.prog 273 [.d (.i n),.agg [.d (.str s),.d (zci args),.d (.i k)]] [] (.d (.bool (zbA n ⟨s,args,k⟩))) []:=by
 refine bd Tryz.f273 41 [] [] fun w0 F0 own kept hk=>?_;refine bx 3003 ?_;refine ev ?_;refine wc zw6 (zkA hn) rfl rfl ?_;refine ev ?_;refine sq ?_ ?_<;>intro h1 h1p h1s;refine sqT ?_;refine sqT ?_;refine sqT ?_;focus (refine rq ?_;all_goals ((simp[zbA,h1s,h1p];done)))
 refine sq ?_ ?_<;>intro h3 h3p h3s<;>(try simp only[Q] at h3p);refine sqT ?_;refine sqT ?_;focus (refine rq ?_;all_goals ((apply congrArg D.bool;simp[zbA,zar];omega)))
 refine sq ?_ ?_<;>intro h5 h5p h5s<;>(try simp only[Q] at h5p);refine sqT ?_;focus (refine rq ?_;all_goals ((apply congrArg D.bool;simp[zbA,zar];omega)))
 refine sq ?_ ?_<;>intro h7 h7p h7s<;>(try simp only[Q] at h7p);focus (refine rq ?_;all_goals ((apply congrArg D.bool;simp[zbA,zar];omega)))
 refine xak (ι:=List (Ty)×List (Ty)) hk (fun x=>[(5,.d (.i (x.1.length:Int)))]) [4,26,27,28,29,30,31,32,33,34,35,36,37,38,39,40] (fun x=>[]) (fun x=>x.1++x.2=args/\(x.2.any fun t=> !zbK n t)=args.any fun t=> !zbK n t) (fun x=>x.2.length) ([],args) ⟨by simp,rfl⟩ ⟨⟨_,rfl,xaq ?_⟩,trivial⟩ trivial (fun x=>rfl) (fun x hg1=>?_);focus (rfl)
 obtain⟨pre,rest⟩:=x;dsimp only at hg1 ⊢;refine evc [] [] ?_;refine sq ?_ ?_<;>intro h8 h8p h8s<;>(try simp only[Q] at h8p);rcases rest with _|⟨y,rest⟩
 ·exfalso;simp_all
 refine xaS zaZ .none rfl rfl rfl rfl (zaK hg1.1) rfl ?_;refine ev ?_;refine wc zsV (zi6) rfl rfl ?_;refine ev ?_;refine sq ?_ ?_<;>intro h9 h9p h9s<;>(try simp only[Q] at h9p);focus (refine rq ?_;all_goals ((simp only[zbA];rw[<-hg1.2];simp[zar,h1s,h1p,h3s,h3p,h5s,h5p,h7s,h7p,h8s,h8p,h9s,h9p];done)))
 refine ar ?_;refine xah ((pre++[y],rest)) ⟨⟨(by have hz:=hg1.1;rw[<-hz];simp),(by rw[<-hg1.2];simp[Ty.eta,h1s,h1p,h3s,h3p,h5s,h5p,h7s,h7p,h8s,h8p,h9s,h9p])⟩,(by simp),sx ⟨⟨_,rfl,xaq ?_⟩,trivial⟩ trivial⟩;focus ((simp;done))
 have hrest:rest=[]:=by
  rcases rest with _|⟨a,b⟩
  ·rfl
  ·exfalso;have hz:=congrArg List.length (hg1.1);simp only[xaa,xab,xac] at hz;omega
 subst hrest;focus (refine rq ?_;all_goals ((simp only[zbA];rw[<-hg1.2];simp[zar,h1s,h1p,h3s,h3p,h5s,h5p,h7s,h7p,h8s,h8p];omega)))
theorem zmV {w:List Data}{d k:Nat} (hs:WSmall w) (hd:d<w.length):FnD Tryz.prog 274 [.d (zam w),.d (.i d),.d (.i k)] [] (.d (.bool (zm9 w d k))) []:=by
 have hw:=hs.len;refine bd Tryz.f274 79 [] [] fun w0 F0 own kept hk=>?_;refine xak (ι:=Nat) hk (fun i=>[(7,.d (.i (i:Int)))]) [6,8,9,10,11,12,13,14,15,16,17,18,19,20,21,22,23,24,25,26,27,28,29,30,31,32,33,34,35,36,37,38,39,40,41,42,43,44,45,46,47,48,49,50,51,52,53,54,55,56,57,58,59,60,61,62,63,64,65,66,67,68,69,70,71,72,73,74,75,76,77,78] (fun i=>[]) (fun i=>i<=d+1/\∀i',i'<i->zdm w d k i'=false) (fun i=>d+1-i) 0 ⟨by omega,fun _ h=>absurd h (by omega)⟩ ⟨⟨_,rfl,xaq ?_⟩,trivial⟩ trivial (fun x=>rfl) (fun i hg1=>?_);focus (rfl)
 refine evc [] [] ?_;refine sq ?_ ?_<;>intro h1 h1p h1s<;>(try simp only[Q,Int.ofNat_lt,Int.ofNat_le] at h1p);refine sq ?_ ?_<;>intro h2 h2p h2s<;>(try simp only[Q,Int.ofNat_lt,Int.ofNat_le] at h2p);refine xaS sl23 (.some rfl rfl h2) rfl rfl rfl rfl (zap (by omega)) rfl ?_;refine evd [] [(17,true)] ?_ ⟨⟨_,rfl,h2⟩,trivial⟩;refine xaS sl23 (.some rfl rfl h2) rfl rfl rfl rfl (zap (by omega)) rfl ?_;refine evd [] [(17,true)] ?_ ⟨⟨_,rfl,h2⟩,trivial⟩;refine dr ?_;refine sq ?_ ?_<;>intro h3 h3p h3s<;>(try simp only[Q,Int.ofNat_lt,Int.ofNat_le] at h3p);focus (refine rq ?_;all_goals ((refine congrArg D.bool (zcM (i:=i) (by omega) ?_).symm;simp[zdm,h1s,h1p,h2s,h2p,h3s,h3p];done)))
 refine xak (ι:=Nat) hk (fun j=>[(8,.d (.i (j:Int)))]) [6,30,31,32,33,34,35,36,37,38,39,40,41,42,43,44,45,46,47,48,49,50,51,52,53,54,55,56,57,58,59,60,61,62,63,64,65,66,67,68,69,70,71,72,73,74,75,76,77,78] (fun j=>[]) (fun j=>j<=(nth w i).ctors.length/\∀j',j'<j->zbM w d k i j'=false) (fun j=>(nth w i).ctors.length-j) 0 ⟨by omega,fun _ h=>absurd h (by omega)⟩ ⟨⟨_,rfl,xaq ?_⟩,trivial⟩ trivial (fun x=>rfl) (fun j hg2=>?_);focus (rfl)
 have hb:=hs.ctors i;refine evc [] [] ?_;refine xaS sl23 .none rfl rfl rfl rfl (zap (by omega)) rfl ?_;refine ev ?_;refine sq ?_ ?_<;>intro h4 h4p h4s<;>(try simp only[Q,Int.ofNat_lt,Int.ofNat_le] at h4p);refine sq ?_ ?_<;>intro h5 h5p h5s<;>(try simp only[Q,Int.ofNat_lt,Int.ofNat_le] at h5p);refine sqT ?_;refine xaS sl23 .none rfl rfl rfl rfl (zap (by omega)) rfl ?_;refine evd [] [] ?_;refine sq ?_ ?_<;>intro h7 h7p h7s<;>(try simp only[Q,Int.ofNat_lt,Int.ofNat_le] at h7p);refine xaS sl23 (.some rfl rfl h7) rfl rfl rfl rfl (zap (by omega)) rfl ?_;refine evd [] [(58,true)] ?_ ⟨⟨_,rfl,h7⟩,trivial⟩;refine xaS zcA (.some rfl rfl h7) rfl rfl rfl rfl (zap (by omega)) rfl ?_;refine evd [] [(58,true)] ?_ ⟨⟨_,rfl,h7⟩,trivial⟩;refine xaS sl23 (.some rfl rfl h7) rfl rfl rfl rfl (zap (by omega)) rfl ?_;refine evd [] [(58,true)] ?_ ⟨⟨_,rfl,h7⟩,trivial⟩;refine xaS zcA (.some rfl rfl h7) rfl rfl rfl rfl (zap (by omega)) rfl ?_;refine evd [] [(58,true)] ?_ ⟨⟨_,rfl,h7⟩,trivial⟩;refine dr ?_;refine sq ?_ ?_<;>intro h8 h8p h8s<;>(try simp only[Q,Int.ofNat_lt,Int.ofNat_le] at h8p);focus (refine rq ?_;all_goals ((refine congrArg D.bool (zcM (i:=i) (by omega) ?_).symm;unfold zdm;rw[zcM (i:=j) (by omega) (by simp[zbM,h1s,h1p,h2s,h2p,h3s,h3p,h4s,h4p,h5s,h5p,h7s,h7p,h8s,h8p])];simp;done)))
 refine ar ?_;refine xah (j+1) ⟨⟨by omega,zaX hg2.2 (by simp[zbM,h1s,h1p,h2s,h2p,h3s,h3p,h4s,h4p,h5s,h5p,h7s,h7p,h8s,h8p];done)⟩,(by omega),sx ⟨⟨_,rfl,xaq ?_⟩,trivial⟩ trivial⟩;focus (rfl)
 refine dr ?_;refine sqF ?_;refine ar ?_;refine xah (j+1) ⟨⟨by omega,zaX hg2.2 (by simp[zbM,h1s,h1p,h2s,h2p,h3s,h3p,h4s,h4p,h5s,h5p,h7s,h7p];done)⟩,(by omega),sx ⟨⟨_,rfl,xaq ?_⟩,trivial⟩ trivial⟩;focus (rfl)
 refine sq ?_ ?_<;>intro h10 h10p h10s<;>(try simp only[Q,Int.ofNat_lt,Int.ofNat_le] at h10p);refine xaS sl23 .none rfl rfl rfl rfl (zap (by omega)) rfl ?_;refine evd [] [] ?_;refine sq ?_ ?_<;>intro h11 h11p h11s<;>(try simp only[Q,Int.ofNat_lt,Int.ofNat_le] at h11p);refine xaS sl23 (.some rfl rfl h11) rfl rfl rfl rfl (zap (by omega)) rfl ?_;refine evd [] [(58,true)] ?_ ⟨⟨_,rfl,h11⟩,trivial⟩;refine xaS zcA (.some rfl rfl h11) rfl rfl rfl rfl (zap (by omega)) rfl ?_;refine evd [] [(58,true)] ?_ ⟨⟨_,rfl,h11⟩,trivial⟩;refine xaS sl23 (.some rfl rfl h11) rfl rfl rfl rfl (zap (by omega)) rfl ?_;refine evd [] [(58,true)] ?_ ⟨⟨_,rfl,h11⟩,trivial⟩;refine xaS zcA (.some rfl rfl h11) rfl rfl rfl rfl (zap (by omega)) rfl ?_;refine evd [] [(58,true)] ?_ ⟨⟨_,rfl,h11⟩,trivial⟩;refine dr ?_;refine sq ?_ ?_<;>intro h12 h12p h12s<;>(try simp only[Q,Int.ofNat_lt,Int.ofNat_le] at h12p);focus (refine rq ?_;all_goals ((exfalso;omega)))
 refine ar ?_;refine xah (j+1) ⟨⟨by omega,zaX hg2.2 (by simp[zbM,h1s,h1p,h2s,h2p,h3s,h3p,h4s,h4p,h5s,h5p,h10s,h10p,h11s,h11p,h12s,h12p];done)⟩,(by omega),sx ⟨⟨_,rfl,xaq ?_⟩,trivial⟩ trivial⟩;focus (rfl)
 refine dr ?_;refine sqF ?_;refine ar ?_;refine xah (j+1) ⟨⟨by omega,zaX hg2.2 (by simp[zbM,h1s,h1p,h2s,h2p,h3s,h3p,h4s,h4p,h5s,h5p,h10s,h10p,h11s,h11p];done)⟩,(by omega),sx ⟨⟨_,rfl,xaq ?_⟩,trivial⟩ trivial⟩;focus (rfl)
 refine ar ?_;refine xah (i+1) ⟨⟨by omega,zaX hg1.2 (zhC (by simp[h1s,h1p,h2s,h2p,h3s,h3p,h4s,h4p,h5s,h5p,h10s,h10p]) hg2.2 (fun hj=>by omega))⟩,(by omega),sx ⟨⟨_,rfl,xaq ?_⟩,trivial⟩ trivial⟩;focus (rfl)
 refine sqF ?_;refine ar ?_;refine xah (i+1) ⟨⟨by omega,zaX hg1.2 (zhC (by simp[h1s,h1p,h2s,h2p,h3s,h3p,h4s,h4p]) hg2.2 (fun hj=>by omega))⟩,(by omega),sx ⟨⟨_,rfl,xaq ?_⟩,trivial⟩ trivial⟩;focus (rfl)
 refine dr ?_;refine sqF ?_;refine xak (ι:=Nat) hk (fun j=>[(8,.d (.i (j:Int)))]) [6,30,31,32,33,34,35,36,37,38,39,40,41,42,43,44,45,46,47,48,49,50,51,52,53,54,55,56,57,58,59,60,61,62,63,64,65,66,67,68,69,70,71,72,73,74,75,76,77,78] (fun j=>[]) (fun j=>j<=(nth w i).ctors.length/\∀j',j'<j->zbM w d k i j'=false) (fun j=>(nth w i).ctors.length-j) 0 ⟨by omega,fun _ h=>absurd h (by omega)⟩ ⟨⟨_,rfl,xaq ?_⟩,trivial⟩ trivial (fun x=>rfl) (fun j hg2=>?_);focus (rfl)
 have hb:=hs.ctors i;refine evc [] [] ?_;refine xaS sl23 .none rfl rfl rfl rfl (zap (by omega)) rfl ?_;refine ev ?_;refine sq ?_ ?_<;>intro h16 h16p h16s<;>(try simp only[Q,Int.ofNat_lt,Int.ofNat_le] at h16p);refine sq ?_ ?_<;>intro h17 h17p h17s<;>(try simp only[Q,Int.ofNat_lt,Int.ofNat_le] at h17p);refine sqT ?_;refine xaS sl23 .none rfl rfl rfl rfl (zap (by omega)) rfl ?_;refine evd [] [] ?_;refine sq ?_ ?_<;>intro h19 h19p h19s<;>(try simp only[Q,Int.ofNat_lt,Int.ofNat_le] at h19p);refine xaS sl23 (.some rfl rfl h19) rfl rfl rfl rfl (zap (by omega)) rfl ?_;refine evd [] [(58,true)] ?_ ⟨⟨_,rfl,h19⟩,trivial⟩;refine xaS zcA (.some rfl rfl h19) rfl rfl rfl rfl (zap (by omega)) rfl ?_;refine evd [] [(58,true)] ?_ ⟨⟨_,rfl,h19⟩,trivial⟩;refine xaS sl23 (.some rfl rfl h19) rfl rfl rfl rfl (zap (by omega)) rfl ?_;refine evd [] [(58,true)] ?_ ⟨⟨_,rfl,h19⟩,trivial⟩;refine xaS zcA (.some rfl rfl h19) rfl rfl rfl rfl (zap (by omega)) rfl ?_;refine evd [] [(58,true)] ?_ ⟨⟨_,rfl,h19⟩,trivial⟩;refine dr ?_;refine sq ?_ ?_<;>intro h20 h20p h20s<;>(try simp only[Q,Int.ofNat_lt,Int.ofNat_le] at h20p);focus (refine rq ?_;all_goals ((exfalso;omega)))
 refine ar ?_;refine xah (j+1) ⟨⟨by omega,zaX hg2.2 (by simp[zbM,h1s,h1p,h2s,h2p,h16s,h16p,h17s,h17p,h19s,h19p,h20s,h20p];done)⟩,(by omega),sx ⟨⟨_,rfl,xaq ?_⟩,trivial⟩ trivial⟩;focus (rfl)
 refine dr ?_;refine sqF ?_;refine ar ?_;refine xah (j+1) ⟨⟨by omega,zaX hg2.2 (by simp[zbM,h1s,h1p,h2s,h2p,h16s,h16p,h17s,h17p,h19s,h19p];done)⟩,(by omega),sx ⟨⟨_,rfl,xaq ?_⟩,trivial⟩ trivial⟩;focus (rfl)
 refine sq ?_ ?_<;>intro h22 h22p h22s<;>(try simp only[Q,Int.ofNat_lt,Int.ofNat_le] at h22p);refine xaS sl23 .none rfl rfl rfl rfl (zap (by omega)) rfl ?_;refine evd [] [] ?_;refine sq ?_ ?_<;>intro h23 h23p h23s<;>(try simp only[Q,Int.ofNat_lt,Int.ofNat_le] at h23p);refine xaS sl23 (.some rfl rfl h23) rfl rfl rfl rfl (zap (by omega)) rfl ?_;refine evd [] [(58,true)] ?_ ⟨⟨_,rfl,h23⟩,trivial⟩;refine xaS zcA (.some rfl rfl h23) rfl rfl rfl rfl (zap (by omega)) rfl ?_;refine evd [] [(58,true)] ?_ ⟨⟨_,rfl,h23⟩,trivial⟩;refine xaS sl23 (.some rfl rfl h23) rfl rfl rfl rfl (zap (by omega)) rfl ?_;refine evd [] [(58,true)] ?_ ⟨⟨_,rfl,h23⟩,trivial⟩;refine xaS zcA (.some rfl rfl h23) rfl rfl rfl rfl (zap (by omega)) rfl ?_;refine evd [] [(58,true)] ?_ ⟨⟨_,rfl,h23⟩,trivial⟩;refine dr ?_;refine sq ?_ ?_<;>intro h24 h24p h24s<;>(try simp only[Q,Int.ofNat_lt,Int.ofNat_le] at h24p);focus (refine rq ?_;all_goals ((refine congrArg D.bool (zcM (i:=i) (by omega) ?_).symm;unfold zdm;rw[zcM (i:=j) (by omega) (by simp[zbM,h1s,h1p,h2s,h2p,h16s,h16p,h17s,h17p,h22s,h22p,h23s,h23p,h24s,h24p])];simp;done)))
 refine ar ?_;refine xah (j+1) ⟨⟨by omega,zaX hg2.2 (by simp[zbM,h1s,h1p,h2s,h2p,h16s,h16p,h17s,h17p,h22s,h22p,h23s,h23p,h24s,h24p];done)⟩,(by omega),sx ⟨⟨_,rfl,xaq ?_⟩,trivial⟩ trivial⟩;focus (rfl)
 refine dr ?_;refine sqF ?_;refine ar ?_;refine xah (j+1) ⟨⟨by omega,zaX hg2.2 (by simp[zbM,h1s,h1p,h2s,h2p,h16s,h16p,h17s,h17p,h22s,h22p,h23s,h23p];done)⟩,(by omega),sx ⟨⟨_,rfl,xaq ?_⟩,trivial⟩ trivial⟩;focus (rfl)
 refine ar ?_;refine xah (i+1) ⟨⟨by omega,zaX hg1.2 (zhC (by simp[h1s,h1p,h2s,h2p,h16s,h16p,h17s,h17p,h22s,h22p]) hg2.2 (fun hj=>by omega))⟩,(by omega),sx ⟨⟨_,rfl,xaq ?_⟩,trivial⟩ trivial⟩;focus (rfl)
 refine sqF ?_;refine ar ?_;refine xah (i+1) ⟨⟨by omega,zaX hg1.2 (zhC (by simp[h1s,h1p,h2s,h2p,h16s,h16p]) hg2.2 (fun hj=>by omega))⟩,(by omega),sx ⟨⟨_,rfl,xaq ?_⟩,trivial⟩ trivial⟩;focus (rfl)
 focus (refine rq ?_;all_goals ((refine congrArg D.bool (ze0 (fun x hx=>hg1.2 x (Nat.lt_of_lt_of_le hx ?_))).symm;omega)))
theorem zu0 {w:List Data} (h:w.length<=4) (h2:∀i,i<w.length->zcm w i=true):zbq w=true:=by
 unfold zbq;rw[zdt h2];simp[h]
theorem zwf {w:List Data} (h:4<w.length):zbq w=false:=by
 unfold zbq;rw[decide_eq_false (by omega)];rfl
theorem zf9 {w:List Data}{i:Nat} (h:i<w.length) (h2:zcm w i=false):zbq w=false:=by
 unfold zbq;rw[zc6 h h2];simp
theorem zoV {w:List Data}{d:Nat} (h:zbm (nth w d).name=true) (h1:1<=(nth w d).ctors.length) (h2:(nth w d).ctors.length<=4) (h3:∀k,k<(nth w d).ctors.length->zd6 w d k=true):zcm w d=true:=by
 unfold zcm;rw[h,zdt h3];simp[h1,h2]
theorem zf3 {w:List Data} (hs:WSmall w):FnD Tryz.prog 182 [.d (zam w)] [] (.d (.bool (zbq w))) []:=by
 have hw:=hs.len;refine bd Tryz.f182 67 [] [] fun w0 F0 own kept hk=>?_;refine sq ?_ ?_<;>intro h1 h1p h1s<;>(try simp only[Q,Int.ofNat_lt,Int.ofNat_le] at h1p);focus (refine rq ?_;all_goals ((refine congrArg D.bool (zwf ?_).symm;omega)))
 refine xak (ι:=Nat) hk (fun i=>[(3,.d (.i (i:Int)))]) [2,4,8,9,10,11,12,13,14,15,16,17,18,19,20,21,22,23,24,25,26,27,28,29,30,31,32,33,34,35,36,37,38,39,40,41,42,43,44,45,46,47,48,49,50,51,52,53,54,55,56,57,58,59,60,61,62,63,64,65,66] (fun i=>[]) (fun i=>i<=w.length/\∀i',i'<i->zcm w i'=true) (fun i=>w.length-i) 0 ⟨by omega,fun _ h=>absurd h (by omega)⟩ ⟨⟨_,rfl,xaq ?_⟩,trivial⟩ trivial (fun x=>rfl) (fun i hg1=>?_);focus (rfl)
 refine evc [] [] ?_;refine sq ?_ ?_<;>intro h2 h2p h2s<;>(try simp only[Q,Int.ofNat_lt,Int.ofNat_le] at h2p);refine xaS sl23 .none rfl rfl rfl rfl (zap (by omega)) rfl ?_;refine ev ?_;refine wc zwP (znJ (hs.data _ (zac (by omega))).1) rfl rfl ?_;refine ev ?_;refine sq ?_ ?_<;>intro h3 h3p h3s<;>(try simp only[Q,Int.ofNat_lt,Int.ofNat_le] at h3p);refine sqT ?_;refine sqT ?_;focus (refine rq ?_;all_goals ((refine congrArg D.bool (zf9 (i:=i) (by omega) ?_).symm;simp[zcm,h1s,h1p,h2s,h2p,h3s,h3p];done)))
 refine xaS sl23 (.some rfl rfl h3) rfl rfl rfl rfl (zap (by omega)) rfl ?_;refine evs [] [(21,false)] ?_ ⟨⟨_,rfl,h3⟩,trivial⟩;refine sq ?_ ?_<;>intro h5 h5p h5s<;>(try simp only[Q,Int.ofNat_lt,Int.ofNat_le] at h5p);refine sqT ?_;focus (refine rq ?_;all_goals ((refine congrArg D.bool (zf9 (i:=i) (by omega) ?_).symm;unfold zcm;rw[decide_eq_false (p:=1<=(nth w i).ctors.length) (by omega)];simp;done)))
 refine xaS sl23 (.some rfl rfl h5) rfl rfl rfl rfl (zap (by omega)) rfl ?_;refine evs [] [(30,false)] ?_ ⟨⟨_,rfl,h5⟩,trivial⟩;refine sq ?_ ?_<;>intro h7 h7p h7s<;>(try simp only[Q,Int.ofNat_lt,Int.ofNat_le] at h7p);focus (refine rq ?_;all_goals ((refine congrArg D.bool (zf9 (i:=i) (by omega) ?_).symm;unfold zcm;rw[decide_eq_false (p:=(nth w i).ctors.length<=4) (by omega)];simp;done)))
 refine xak (ι:=Nat) hk (fun k=>[(4,.d (.i (k:Int)))]) [2,39,40,41,42,43,44,45,46,47,48,49,50,51,52,53,54,55,56,57,58,59,60,61,62,63,64,65,66] (fun k=>[]) (fun k=>k<=(nth w i).ctors.length/\∀k',k'<k->zd6 w i k'=true) (fun k=>(nth w i).ctors.length-k) 0 ⟨by omega,fun _ h=>absurd h (by omega)⟩ ⟨⟨_,rfl,xaq ?_⟩,trivial⟩ trivial (fun x=>rfl) (fun k hg2=>?_);focus (rfl)
 have hb:=hs.ctors i;refine evc [] [] ?_;refine xaS sl23 .none rfl rfl rfl rfl (zap (by omega)) rfl ?_;refine ev ?_;refine sq ?_ ?_<;>intro h8 h8p h8s<;>(try simp only[Q,Int.ofNat_lt,Int.ofNat_le] at h8p);refine xaS sl23 .none rfl rfl rfl rfl (zap (by omega)) rfl ?_;refine ev ?_;refine xaS zcA .none rfl rfl rfl rfl (zap (by omega)) rfl ?_;refine ev ?_;refine wc zwQ (znH (hs.ctor _ (zac (i:=i) (by omega)) _ (zac (i:=k) (by omega))).1 (hs.ctor _ (zac (i:=i) (by omega)) _ (zac (i:=k) (by omega))).2) rfl rfl ?_;refine ev ?_;refine sq ?_ ?_<;>intro h9 h9p h9s<;>(try simp only[Q,Int.ofNat_lt,Int.ofNat_le] at h9p);refine sqT ?_;focus (refine rq ?_;all_goals ((refine congrArg D.bool (zf9 (i:=i) (by omega) ?_).symm;unfold zcm;rw[zc6 (i:=k) (by omega) (by simp[zd6,Ctor.eta,h1s,h1p,h2s,h2p,h3s,h3p,h5s,h5p,h7s,h7p,h8s,h8p,h9s,h9p])];simp;done)))
 refine Walk.call (cr:=[]) zwR (zmV hs (by omega)) rfl (.some rfl rfl h9) rfl rfl (LeL.refl _) trivial rfl rfl rfl ?_;refine evs [] [(61,false)] ?_ ⟨⟨_,rfl,h9⟩,trivial⟩;refine sq ?_ ?_<;>intro h11 h11p h11s<;>(try simp only[Q,Int.ofNat_lt,Int.ofNat_le] at h11p);focus (refine rq ?_;all_goals ((refine congrArg D.bool (zf9 (i:=i) (by omega) ?_).symm;unfold zcm;rw[zc6 (i:=k) (by omega) (by simp[zd6,Ctor.eta,h1s,h1p,h2s,h2p,h3s,h3p,h5s,h5p,h7s,h7p,h8s,h8p,h9s,h9p,h11s,h11p])];simp;done)))
 refine ar ?_;refine xah (k+1) ⟨⟨by omega,zaX hg2.2 (by simp[zd6,Ctor.eta,h1s,h1p,h2s,h2p,h3s,h3p,h5s,h5p,h7s,h7p,h8s,h8p,h9s,h9p,h11s,h11p];done)⟩,(by omega),sx ⟨⟨_,rfl,xaq ?_⟩,trivial⟩ trivial⟩;focus (rfl)
 refine ar ?_;refine xah (i+1) ⟨⟨by omega,zaX hg1.2 (zoV (by simp[h1s,h1p,h2s,h2p,h3s,h3p,h5s,h5p,h7s,h7p,h8s,h8p]) (by omega) (by omega) (fun x hx=>hg2.2 x (by omega)))⟩,(by omega),sx ⟨⟨_,rfl,xaq ?_⟩,trivial⟩ trivial⟩;focus (rfl)
 focus (refine rq ?_;all_goals ((refine congrArg D.bool (zu0 ?_ (fun x hx=>hg1.2 x (Nat.lt_of_lt_of_le hx ?_))).symm<;>omega)))
structure CSmall (l:List Ctor):Prop where
 len:l.length<=1000000000000
 ctor:∀c∈l,c.name.length<=1000000000000/\c.args.length<=1000000000000
theorem WSmall.cs {w:List Data} (h:WSmall w){d:Data} (hd:d∈w):CSmall d.ctors:=⟨(h.data d hd).2,h.ctor d hd⟩
theorem zh6 {α:Type} [Inhabited α]{l m:List α} (h:l.length=m.length) (h2:∀i,i<l.length->nth l i=nth m i):l=m:=by
 refine List.ext_getElem h (fun i h3 h4=>?_);have:=h2 i h3;simpa [nth,List.getD,h3,h4] using this
def zxJ (n:Nat):UInt8:=UInt8.ofNat (IntKind.u8.wrap (48+(n:Int) % 10)).toNat
def digs (n:Nat):Str:=if n=0 then [] else digs (n / 10)++[zxJ n]
def zrE (n:Nat):Str:=109::digs n
def Ty.one (k:Int) (_:Ty):Ty:=⟨k,k+1⟩
def Ty.sz (_:Ty):Int:=2
def Ctor.one (k:Int) (x:Ctor):Ctor:=⟨zrE k.toNat,mkL Ty.one Ty.sz (k+1) x.args,k+1+szL Ty.sz x.args⟩
def Ctor.sz (x:Ctor):Int:=2+szL Ty.sz x.args
def Data.one (k:Int) (x:Data):Data:=⟨zrE k.toNat,mkL Ctor.one Ctor.sz (k+1) x.ctors⟩
def Data.sz (x:Data):Int:=1+szL Ctor.sz x.ctors
def fits (c:Ctor) (k:Int):Bool:=decide (k=0)||(decide (c.index=0)||decide (c.index=k))
def zaW (k:Int):Nat->List Ctor->List Int
 |_,[]=>[]
 |i,c::r=>if fits c k then (i:Int)::zaW k (i+1) r else zaW k (i+1) r
def zcp (k:Int) (t:Ty):Ty:=if t.index = -1 then ⟨t.data,k⟩ else t
def zcz (c:Ctor) (k:Int):Int:=if c.index=0 then k else c.index
theorem zgc (k:Int):∀(l:List Ctor) (i:Nat),(zaW k i l).length<=l.length
 | [],_=>by simp[zaW]
 |c::r,i=>by
  have:=zgc k r (i+1);unfold zaW;split<;>simp<;>omega
theorem zjb {w:List Data}{k:Int}:FnD Tryz.prog 234 [.d (zam w),.agg [.d (.i (-1)),.d (.i k)]] [] (.d (zbB [])) []:=by
 refine bd Tryz.f234 44 [5] [] fun w0 F0 own kept hk=>?_;refine bx 3003 ?_;refine evs [5] [] ?_;refine xaD 1 1 .none rfl rfl ?_;refine tv ?_;refine sq ?_ ?_<;>intro h1 h1p h1s<;>(try simp only[Q] at h1p);exact absurd h1 (by simp)

 focus (refine rn0 (r1 rfl) (.gld ?_);all_goals (rfl))
theorem zma {w:List Data}{d:Nat}{k:Int} (hs:WSmall w) (hd:d<w.length):FnD Tryz.prog 234 [.d (zam w),.agg [.d (.i d),.d (.i k)]] [] (.d (zbB (zaW k 0 (nth w d).ctors))) []:=by
 have hb:=hs.ctors d;refine bd Tryz.f234 44 [5] [] fun w0 F0 own kept hk=>?_;refine bx 3003 ?_;refine evs [5] [] ?_;refine xaD 1 1 .none rfl rfl ?_;refine tv ?_;refine sq ?_ ?_<;>intro h1 h1p h1s<;>(try simp only[Q] at h1p);refine xaS sl23 .none rfl rfl rfl rfl (zap hd) rfl ?_;refine evs [5] [] ?_;refine xak (ι:=List (Ctor)×List (Ctor)×(List Int)) hk (fun x=>[(18,.d (.i (x.1.length:Int))),(5,.gl 1 (x.2.2.map fun n=>[D.i n]))]) [6,7,19,20,21,22,23,24,25,26,27,28,29,30,31,32,33,34,35,36,37,38,39,40,41,42] (fun x=>[(1,some (.tok ((x.2.2.map fun n=>[D.i n])).length 1))]) (fun x=>x.1++x.2.1=(nth w d).ctors/\x.2.2++zaW k x.1.length x.2.1=zaW k 0 (nth w d).ctors/\x.2.2.length<=x.1.length) (fun x=>x.2.1.length) ([],(nth w d).ctors,[]) ⟨by simp,by simp,by simp⟩ ⟨⟨_,rfl,xaq ?_⟩,⟨⟨_,rfl,LeA.glg ?_⟩,trivial⟩⟩ ⟨zab ?_,trivial⟩ (fun x=>rfl) (fun x hg1=>?_);iterate 3 focus (rfl)
 obtain⟨pre,rest,acc⟩:=x;dsimp only at hg1 ⊢;refine evc [5] [] ?_;refine sq ?_ ?_<;>intro h2 h2p h2s<;>(try simp only[Q] at h2p);rcases rest with _|⟨y,rest⟩
 ·exfalso;simp_all
 refine xaS zcA .none rfl rfl rfl rfl (zaK hg1.1) rfl ?_;refine evs [5] [] ?_;refine ab 3007 zgE ?_;refine evs [5] [] ?_;refine so zc1 ?_;refine tv ?_;refine sq ?_ ?_<;>intro h3 h3p h3s<;>(try simp only[Q] at h3p);refine sqT ?_;refine sqT ?_;refine si [0] [_] sl29 tz3 ?_;refine ap sl29 zz3 rfl rfl rfl (by simp) (by have hl:=hg1.2.2;simp;omega) ?_;refine asg ?_;refine tv ?_;refine ar ?_;refine xah ((pre++[y],rest,if fits y k then acc++[(pre.length:Int)] else acc)) ⟨⟨(by have hz:=hg1.1;rw[<-hz];simp),⟨by rw[<-hg1.2.1];by_cases hf:fits y k=true<;>simp[zaW,hf],by split<;>simp<;>omega⟩⟩,(by simp),sx ⟨⟨_,rfl,xaq ?_⟩,⟨⟨_,rfl,LeA.glg ?_⟩,trivial⟩⟩ ⟨zab ?_,trivial⟩⟩;iterate 3 focus ((simp[fits,h1s,h1p,h2s,h2p,h3s,h3p];done))
 refine sq ?_ ?_<;>intro h5 h5p h5s<;>(try simp only[Q] at h5p);refine sqT ?_;refine si [0] [_] sl29 tz3 ?_;refine ap sl29 zz3 rfl rfl rfl (by simp) (by have hl:=hg1.2.2;simp;omega) ?_;refine asg ?_;refine tv ?_;refine ar ?_;refine xah ((pre++[y],rest,if fits y k then acc++[(pre.length:Int)] else acc)) ⟨⟨(by have hz:=hg1.1;rw[<-hz];simp),⟨by rw[<-hg1.2.1];by_cases hf:fits y k=true<;>simp[zaW,hf],by split<;>simp<;>omega⟩⟩,(by simp),sx ⟨⟨_,rfl,xaq ?_⟩,⟨⟨_,rfl,LeA.glg ?_⟩,trivial⟩⟩ ⟨zab ?_,trivial⟩⟩;iterate 3 focus ((simp[fits,h1s,h1p,h2s,h2p,h3s,h3p,h5s,h5p];done))
 refine sq ?_ ?_<;>intro h7 h7p h7s<;>(try simp only[Q] at h7p);refine si [0] [_] sl29 tz3 ?_;refine ap sl29 zz3 rfl rfl rfl (by simp) (by have hl:=hg1.2.2;simp;omega) ?_;refine asg ?_;refine tv ?_;refine ar ?_;refine xah ((pre++[y],rest,if fits y k then acc++[(pre.length:Int)] else acc)) ⟨⟨(by have hz:=hg1.1;rw[<-hz];simp),⟨by rw[<-hg1.2.1];by_cases hf:fits y k=true<;>simp[zaW,hf],by split<;>simp<;>omega⟩⟩,(by simp),sx ⟨⟨_,rfl,xaq ?_⟩,⟨⟨_,rfl,LeA.glg ?_⟩,trivial⟩⟩ ⟨zab ?_,trivial⟩⟩;iterate 3 focus ((simp[fits,h1s,h1p,h2s,h2p,h3s,h3p,h5s,h5p,h7s,h7p];done))
 refine ar ?_;refine xah ((pre++[y],rest,if fits y k then acc++[(pre.length:Int)] else acc)) ⟨⟨(by have hz:=hg1.1;rw[<-hz];simp),⟨by rw[<-hg1.2.1];by_cases hf:fits y k=true<;>simp[zaW,hf],by split<;>simp<;>omega⟩⟩,(by simp),sx ⟨⟨_,rfl,xaq ?_⟩,⟨⟨_,rfl,LeA.glg ?_⟩,trivial⟩⟩ ⟨zab ?_,trivial⟩⟩;iterate 3 focus ((simp[fits,h1s,h1p,h2s,h2p,h3s,h3p,h5s,h5p,h7s,h7p];done))
 have hrest:rest=[]:=by
  rcases rest with _|⟨a,b⟩
  ·rfl
  ·exfalso;have hz:=congrArg List.length (hg1.1);simp only[xaa,xab,xac] at hz;omega
 subst hrest;refine rn0 (r1 rfl) (.gld ?_);rotate_left;exfalso;simp at h1<;>omega;all_goals (have e:=hg1.2.1;simp only[zaW,List.append_nil] at e;rw[e])
theorem znL {s:Str}{l:List Ty}{i k:Int}:FnD Tryz.prog 300 [.agg [.d (.str s),.d (zci l),.d (.i i)],.d (.i k)] [] (.d (.bool (fits ⟨s,l,i⟩ k))) []:=by
 refine bd Tryz.f300 18 [] [] fun w0 F0 own kept hk=>?_;refine bx 3002 ?_;refine ev ?_;refine sq ?_ ?_<;>intro h1 h1p h1s<;>(try simp only[Q] at h1p);refine sqT ?_;focus (refine rq ?_;all_goals (refine congrArg D.bool ?_;simp[fits,h1s,h1p]))
 refine sq ?_ ?_<;>intro h2 h2p h2s<;>(try simp only[Q] at h2p);focus (refine rq ?_;all_goals (refine congrArg D.bool ?_;simp[fits,h1s,h1p,h2s,h2p]))
 focus (refine rq ?_;all_goals (refine congrArg D.bool ?_;simp[fits,h1s,h1p,h2s,h2p]))
theorem zje {w:List Data}{k:Int}:FnD Tryz.prog 226 [.d (zam w),.agg [.d (.i (-1)),.d (.i k)]] [] (.d (zbB [])) []:=by
 refine bd Tryz.f226 40 [] [] fun w0 F0 own kept hk=>?_;refine bx 3003 ?_;refine ev ?_;refine xbg 1 sl29 .none rfl rfl ?_;refine ev ?_;refine sq ?_ ?_<;>intro h1 h1p h1s<;>(try simp only[Q] at h1p)

 focus (refine rn0 (r1 rfl) (.gld ?_);all_goals (rfl))
 exact absurd h1 (by simp)
theorem zmQ {w:List Data}{d:Nat}{k:Int} (hs:WSmall w) (hd:d<w.length):FnD Tryz.prog 226 [.d (zam w),.agg [.d (.i d),.d (.i k)]] [] (.d (zbB (zaW k 0 (nth w d).ctors))) []:=by
 have hb:=hs.ctors d;refine bd Tryz.f226 40 [] [] fun w0 F0 own kept hk=>?_;refine bx 3003 ?_;refine ev ?_;refine xbg 1 sl29 .none rfl rfl ?_;refine ev ?_;refine sq ?_ ?_<;>intro h1 h1p h1s<;>(try simp only[Q] at h1p);exfalso;simp at h1<;>omega;refine xak (ι:=List (Ctor)×List (Ctor)×(List Int)) hk (fun x=>[(6,.d (.i (x.1.length:Int))),(5,.gl 1 (x.2.2.map fun n=>[D.i n]))]) [12,13,14,15,16,17,18,19,20,21,22,23,24,25,26,27,28,29,30,31,32,33,34,35,36,37,38] (fun x=>[(1,some (.tok ((x.2.2.map fun n=>[D.i n])).length 1))]) (fun x=>x.1++x.2.1=(nth w d).ctors/\x.2.2++zaW k x.1.length x.2.1=zaW k 0 (nth w d).ctors/\x.2.2.length<=x.1.length) (fun x=>x.2.1.length) ([],(nth w d).ctors,[]) ⟨by simp,by simp,by simp⟩ ⟨⟨_,rfl,xaq ?_⟩,⟨⟨_,rfl,LeA.glg ?_⟩,trivial⟩⟩ ⟨zab ?_,trivial⟩ (fun x=>rfl) (fun x hg1=>?_);iterate 3 focus (rfl)
 obtain⟨pre,rest,acc⟩:=x;dsimp only at hg1 ⊢;refine evc [] [] ?_;refine xaS sl23 .none rfl rfl rfl rfl (zap hd) rfl ?_;refine ev ?_;refine sq ?_ ?_<;>intro h2 h2p h2s<;>(try simp only[Q] at h2p);rcases rest with _|⟨y,rest⟩
 ·exfalso;simp_all
 refine xaS sl23 .none rfl rfl rfl rfl (zap hd) rfl ?_;refine evd [] [] ?_;refine xaS zcA .none rfl rfl rfl rfl (zaK hg1.1) rfl ?_;refine evd [] [] ?_;refine wc zwW (znL) rfl rfl ?_;refine dr ?_;refine sq ?_ ?_<;>intro h3 h3p h3s<;>(try simp only[Q] at h3p);refine si [0] [_] sl29 tz3 ?_;refine ap sl29 zz3 rfl rfl rfl (by simp) (by have hl:=hg1.2.2;simp;omega) ?_;refine ev ?_;refine ar ?_;refine xah ((pre++[y],rest,if fits y k then acc++[(pre.length:Int)] else acc)) ⟨⟨(by have hz:=hg1.1;rw[<-hz];simp),⟨by rw[<-hg1.2.1];by_cases hf:fits y k=true<;>simp[zaW,hf],by split<;>simp<;>omega⟩⟩,(by simp),sx ⟨⟨_,rfl,xaq ?_⟩,⟨⟨_,rfl,LeA.glg ?_⟩,trivial⟩⟩ ⟨zab ?_,trivial⟩⟩;iterate 3 focus ((simp[Ctor.eta,h1s,h1p,h2s,h2p,h3s,h3p];done))
 refine ar ?_;refine xah ((pre++[y],rest,if fits y k then acc++[(pre.length:Int)] else acc)) ⟨⟨(by have hz:=hg1.1;rw[<-hz];simp),⟨by rw[<-hg1.2.1];by_cases hf:fits y k=true<;>simp[zaW,hf],by split<;>simp<;>omega⟩⟩,(by simp),sx ⟨⟨_,rfl,xaq ?_⟩,⟨⟨_,rfl,LeA.glg ?_⟩,trivial⟩⟩ ⟨zab ?_,trivial⟩⟩;iterate 3 focus ((simp[Ctor.eta,h1s,h1p,h2s,h2p,h3s,h3p];done))
 have hrest:rest=[]:=by
  rcases rest with _|⟨a,b⟩
  ·rfl
  ·exfalso;have hz:=congrArg List.length (hg1.1);simp only[xaa,xab,xac] at hz;omega
 subst hrest;refine rn0 (r1 rfl) (.gld ?_);rotate_left;all_goals (have e:=hg1.2.1;simp only[zaW,List.append_nil] at e;rw[e])
theorem zlp {s:Str}{l:List Ty}{i k:Int}:FnD Tryz.prog 320 [.agg [.d (.str s),.d (zci l),.d (.i i)],.d (.i k)] [] (.d (.i (zcz ⟨s,l,i⟩ k))) []:=by
 refine bd Tryz.f320 11 [] [] fun w0 F0 own kept hk=>?_;refine bx 3002 ?_;refine ev ?_;refine sq ?_ ?_<;>intro h1 h1p h1s<;>(try simp only[Q] at h1p);focus (refine rq ?_;all_goals (refine congrArg D.i ?_;simp[zcz,h1s,h1p]))
 focus (refine rq ?_;all_goals (refine congrArg D.i ?_;simp[zcz,h1s,h1p]))
theorem zk6 {w:List Data}{d c:Nat}{k:Int} (hs:WSmall w) (hd:d<w.length) (hc:c<(nth w d).ctors.length):FnD Tryz.prog 144 [.d (zam w),.agg [.d (.i d),.d (.i k)],.d (.i c)] [] (.d (zci ((nth (nth w d).ctors c).args.map (zcp (zcz (nth (nth w d).ctors c) k))))) []:=by
 have hb:=(hs.ctor _ (zac hd) _ (zac hc)).2;refine bd Tryz.f144 45 [9] [] fun w0 F0 own kept hk=>?_;refine bx 3004 ?_;refine evs [9] [] ?_;refine xaS sl23 .none rfl rfl rfl rfl (zap hd) rfl ?_;refine evs [9] [] ?_;refine xaS zcA .none rfl rfl rfl rfl (zap hc) rfl ?_;refine evs [9] [] ?_;refine ab 3007 zgE ?_;refine so zc1 ?_;refine tv ?_;refine sq ?_ ?_<;>intro h1 h1p h1s<;>(try simp only[Q] at h1p);refine xaD 1 2 .none rfl rfl ?_;refine tv ?_;refine xak (ι:=List (Ty)×List (Ty)) hk (fun x=>[(30,.d (.i (x.1.length:Int))),(9,.gl 1 ((x.1.map (zcp (zcz (nth (nth w d).ctors c) k))).map Ty.c))]) [11,31,32,33,34,35,36,37,38,39,40,41,42,43] (fun x=>[(1,some (.tok (((x.1.map (zcp (zcz (nth (nth w d).ctors c) k))).map Ty.c)).length 2))]) (fun x=>x.1++x.2=(nth (nth w d).ctors c).args) (fun x=>x.2.length) ([],(nth (nth w d).ctors c).args) (by simp) ⟨⟨_,rfl,xaq ?_⟩,⟨⟨_,rfl,LeA.glg ?_⟩,trivial⟩⟩ ⟨zab ?_,trivial⟩ (fun x=>rfl) (fun x hg1=>?_);iterate 3 focus (rfl)
 obtain⟨pre,rest⟩:=x;dsimp only at hg1 ⊢;refine evc [9] [] ?_;refine sq ?_ ?_<;>intro h2 h2p h2s<;>(try simp only[Q] at h2p);rcases rest with _|⟨y,rest⟩
 ·exfalso;simp_all
 refine xaS zaZ .none rfl rfl rfl rfl (zaK hg1) rfl ?_;refine evs [9] [] ?_;refine ab 3011 tz25 ?_;refine so ty25 ?_;refine tv ?_;refine sq ?_ ?_<;>intro h3 h3p h3s<;>(try simp only[Q] at h3p);refine so ty3 ?_;refine tv ?_;refine si [0] [_] zaZ tz25 ?_;refine ap zaZ zz25 rfl rfl rfl (by simp) (by have hl:=congrArg List.length hg1;simp at hl;simp;omega) ?_;refine asg ?_;refine tv ?_;refine ar ?_;refine xah ((pre++[y],rest)) ⟨(by have hz:=hg1;rw[<-hz];simp),(by simp),sx ⟨⟨_,rfl,xaq ?_⟩,⟨⟨_,rfl,LeA.glg ?_⟩,trivial⟩⟩ ⟨zab ?_,trivial⟩⟩;iterate 3 focus ((simp[zcp,zcz,h1s,h1p,h2s,h2p,h3s,h3p];done))
 refine si [0] [_] zaZ tz25 ?_;refine ap zaZ zz25 rfl rfl rfl (by simp) (by have hl:=congrArg List.length hg1;simp at hl;simp;omega) ?_;refine asg ?_;refine tv ?_;refine ar ?_;refine xah ((pre++[y],rest)) ⟨(by have hz:=hg1;rw[<-hz];simp),(by simp),sx ⟨⟨_,rfl,xaq ?_⟩,⟨⟨_,rfl,LeA.glg ?_⟩,trivial⟩⟩ ⟨zab ?_,trivial⟩⟩;iterate 3 focus ((simp[zcp,zcz,h1s,h1p,h2s,h2p,h3s,h3p];done))
 have hrest:rest=[]:=by
  rcases rest with _|⟨a,b⟩
  ·rfl
  ·exfalso;have hz:=congrArg List.length (hg1);simp only[xaa,xab,xac] at hz;omega
 subst hrest;focus (refine rn0 (r1 rfl) (.gld ?_);all_goals (simp[<-hg1,zcz,h1s,h1p,h2s,h2p]))
 refine xaD 1 2 .none rfl rfl ?_;refine tv ?_;refine xak (ι:=List (Ty)×List (Ty)) hk (fun x=>[(30,.d (.i (x.1.length:Int))),(9,.gl 1 ((x.1.map (zcp (zcz (nth (nth w d).ctors c) k))).map Ty.c))]) [11,31,32,33,34,35,36,37,38,39,40,41,42,43] (fun x=>[(1,some (.tok (((x.1.map (zcp (zcz (nth (nth w d).ctors c) k))).map Ty.c)).length 2))]) (fun x=>x.1++x.2=(nth (nth w d).ctors c).args) (fun x=>x.2.length) ([],(nth (nth w d).ctors c).args) (by simp) ⟨⟨_,rfl,xaq ?_⟩,⟨⟨_,rfl,LeA.glg ?_⟩,trivial⟩⟩ ⟨zab ?_,trivial⟩ (fun x=>rfl) (fun x hg1=>?_);iterate 3 focus (rfl)
 obtain⟨pre,rest⟩:=x;dsimp only at hg1 ⊢;refine evc [9] [] ?_;refine sq ?_ ?_<;>intro h4 h4p h4s<;>(try simp only[Q] at h4p);rcases rest with _|⟨y,rest⟩
 ·exfalso;simp_all
 refine xaS zaZ .none rfl rfl rfl rfl (zaK hg1) rfl ?_;refine evs [9] [] ?_;refine ab 3011 tz25 ?_;refine so ty25 ?_;refine tv ?_;refine sq ?_ ?_<;>intro h5 h5p h5s<;>(try simp only[Q] at h5p);refine so ty3 ?_;refine tv ?_;refine si [0] [_] zaZ tz25 ?_;refine ap zaZ zz25 rfl rfl rfl (by simp) (by have hl:=congrArg List.length hg1;simp at hl;simp;omega) ?_;refine asg ?_;refine tv ?_;refine ar ?_;refine xah ((pre++[y],rest)) ⟨(by have hz:=hg1;rw[<-hz];simp),(by simp),sx ⟨⟨_,rfl,xaq ?_⟩,⟨⟨_,rfl,LeA.glg ?_⟩,trivial⟩⟩ ⟨zab ?_,trivial⟩⟩;iterate 3 focus ((simp[zcp,zcz,h1s,h1p,h4s,h4p,h5s,h5p];done))
 refine si [0] [_] zaZ tz25 ?_;refine ap zaZ zz25 rfl rfl rfl (by simp) (by have hl:=congrArg List.length hg1;simp at hl;simp;omega) ?_;refine asg ?_;refine tv ?_;refine ar ?_;refine xah ((pre++[y],rest)) ⟨(by have hz:=hg1;rw[<-hz];simp),(by simp),sx ⟨⟨_,rfl,xaq ?_⟩,⟨⟨_,rfl,LeA.glg ?_⟩,trivial⟩⟩ ⟨zab ?_,trivial⟩⟩;iterate 3 focus ((simp[zcp,zcz,h1s,h1p,h4s,h4p,h5s,h5p];done))
 have hrest:rest=[]:=by
  rcases rest with _|⟨a,b⟩
  ·rfl
  ·exfalso;have hz:=congrArg List.length (hg1);simp only[xaa,xab,xac] at hz;omega
 subst hrest;focus (refine rn0 (r1 rfl) (.gld ?_);all_goals (simp[<-hg1,zcz,h1s,h1p,h4s,h4p]))
theorem znF {w:List Data}{d c:Nat}{k:Int} (hs:WSmall w) (hd:d<w.length) (hc:c<(nth w d).ctors.length):FnD Tryz.prog 254 [.d (zam w),.agg [.d (.i d),.d (.i k)],.d (.i c)] [] (.d (zci ((nth (nth w d).ctors c).args.map (zcp (zcz (nth (nth w d).ctors c) k))))) []:=by
 have hb:=(hs.ctor _ (zac hd) _ (zac hc)).2;refine bd Tryz.f254 46 [] [] fun w0 F0 own kept hk=>?_;refine bx 3004 ?_;refine ev ?_;refine xbg 1 zaZ .none rfl rfl ?_;refine ev ?_;refine xaS sl23 .none rfl rfl rfl rfl (zap hd) rfl ?_;refine ev ?_;refine xaS zcA .none rfl rfl rfl rfl (zap hc) rfl ?_;refine ev ?_;refine ab 3008 zgE ?_;refine so zc1 ?_;refine tv ?_;refine xak (ι:=List (Ty)×List (Ty)) hk (fun x=>[(9,.d (.i (x.1.length:Int))),(7,.gl 1 ((x.1.map (zcp (zcz (nth (nth w d).ctors c) k))).map Ty.c))]) [10,21,22,23,24,25,26,27,28,29,30,31,32,33,34,35,36,37,38,39,40,41,42,43,44] (fun x=>[(1,some (.tok (((x.1.map (zcp (zcz (nth (nth w d).ctors c) k))).map Ty.c)).length 2))]) (fun x=>x.1++x.2=(nth (nth w d).ctors c).args) (fun x=>x.2.length) ([],(nth (nth w d).ctors c).args) (by simp) ⟨⟨_,rfl,xaq ?_⟩,⟨⟨_,rfl,LeA.glg ?_⟩,trivial⟩⟩ ⟨zab ?_,trivial⟩ (fun x=>rfl) (fun x hg1=>?_);iterate 3 focus (rfl)
 obtain⟨pre,rest⟩:=x;dsimp only at hg1 ⊢;refine evc [] [] ?_;refine sq ?_ ?_<;>intro h1 h1p h1s<;>(try simp only[Q] at h1p);rcases rest with _|⟨y,rest⟩
 ·exfalso;simp_all
 refine xaS zaZ .none rfl rfl rfl rfl (zaK hg1) rfl ?_;refine ev ?_;refine ab 3010 tz25 ?_;refine so ty25 ?_;refine tv ?_;refine sq ?_ ?_<;>intro h2 h2p h2s<;>(try simp only[Q] at h2p);refine wc zw2 (zlp) rfl rfl ?_;refine ev ?_;refine so ty3 ?_;refine tv ?_;refine si [0] [_] zaZ tz25 ?_;refine ap zaZ zz25 rfl rfl rfl (by simp) (by have hl:=congrArg List.length hg1;simp at hl;simp;omega) ?_;refine ev ?_;refine ar ?_;refine xah ((pre++[y],rest)) ⟨(by have hz:=hg1;rw[<-hz];simp),(by simp),sx ⟨⟨_,rfl,xaq ?_⟩,⟨⟨_,rfl,LeA.glg ?_⟩,trivial⟩⟩ ⟨zab ?_,trivial⟩⟩;iterate 3 focus ((simp[zcp,Ctor.eta,h1s,h1p,h2s,h2p];done))
 refine si [0] [_] zaZ tz25 ?_;refine ap zaZ zz25 rfl rfl rfl (by simp) (by have hl:=congrArg List.length hg1;simp at hl;simp;omega) ?_;refine ev ?_;refine ar ?_;refine xah ((pre++[y],rest)) ⟨(by have hz:=hg1;rw[<-hz];simp),(by simp),sx ⟨⟨_,rfl,xaq ?_⟩,⟨⟨_,rfl,LeA.glg ?_⟩,trivial⟩⟩ ⟨zab ?_,trivial⟩⟩;iterate 3 focus ((simp[zcp,Ctor.eta,h1s,h1p,h2s,h2p];done))
 have hrest:rest=[]:=by
  rcases rest with _|⟨a,b⟩
  ·rfl
  ·exfalso;have hz:=congrArg List.length (hg1);simp only[xaa,xab,xac] at hz;omega
 subst hrest;focus (refine rn0 (r1 rfl) (.gld ?_);all_goals (simp[<-hg1,zcz,h1s,h1p]))
mutual
def zsw:Val->Val->Bool
 | .mk a n ks,.mk b m ls=>decide (a=b)&&(decide (n=m)&&zna ks ls)
def zna:List Val->List Val->Bool
 | [],[]=>true
 |x::r,y::s=>zsw x y&&zna r s
 |_,_=>false
end
mutual
def Val.ok:Val->Prop
 | .mk _ _ ks=>ks.length<=1000000000000/\Vals.ok ks
def Vals.ok:List Val->Prop
 | []=>True
 |v::r=>v.ok/\Vals.ok r
end
theorem Vals.ok_mem:∀ {l:List Val},Vals.ok l->∀v,v∈l->v.ok
 |x::r,h,v,hv=>by
  simp only[Vals.ok] at h;rcases List.mem_cons.1 hv with rfl|hv
  ·exact h.1
  ·exact Vals.ok_mem h.2 v hv
mutual
def Val.size:Val->Nat
 | .mk _ _ ks=>1+Vals.size ks
def Vals.size:List Val->Nat
 | []=>0
 |v::r=>v.size+Vals.size r
end
theorem Vals.size_mem:∀ {l:List Val}{v:Val},v∈l->v.size<=Vals.size l
 |x::r,v,hv=>by
  simp only[Vals.size];rcases List.mem_cons.1 hv with rfl|hv
  ·omega
  ·have:=Vals.size_mem hv;omega
theorem Val.ok_iff (v:Val):v.ok↔v.kids.length<=1000000000000/\Vals.ok v.kids:=by cases v;rfl
theorem Val.size_eq (v:Val):v.size=1+Vals.size v.kids:=by cases v;rfl
theorem zqv {w:List Data}{a b:Int}:FnD Tryz.prog 222 [.d (zam w),.agg [.d (.i a),.d (.i b)]] [] (.d (.bool (zbK w.length ⟨a,b⟩&&decide (0<=b)))) []:=by
 refine bd Tryz.f222 14 [] [] fun w0 F0 own kept hk=>?_;refine bx 3003 ?_;refine ev ?_;refine wc zsV (zi6) rfl rfl ?_;refine ev ?_;refine sq ?_ ?_<;>intro h1 h1p h1s<;>(try simp only[Q] at h1p);focus (refine rq ?_;all_goals ((simp[h1s,h1p];done)))
 focus (refine rq ?_;all_goals ((simp[h1s,h1p];done)))
theorem zkB {w:List Data}{a b:Int} (hs:WSmall w):FnD Tryz.prog 126 [.d (zam w),.agg [.d (.i a),.d (.i b)]] [] (.d (.bool (zbq w&&(zbK w.length ⟨a,b⟩&&decide (0<=b))))) []:=by
 refine bd Tryz.f126 12 [] [] fun w0 F0 own kept hk=>?_;refine bx 3003 ?_;refine ev ?_;refine wc zsI (zf3 hs) rfl rfl ?_;refine ev ?_;refine sq ?_ ?_<;>intro h1 h1p h1s<;>(try simp only[Q] at h1p);refine Walk.call (cr:=[]) zwF (zqv) rfl (.some rfl rfl h1) rfl rfl (LeL.refl _) trivial rfl rfl rfl ?_;refine evs [] [(7,true)] ?_ ⟨⟨_,rfl,h1⟩,trivial⟩;focus (refine rq ?_;all_goals ((simp[h1s,h1p];done)))
 focus (refine rq ?_;all_goals ((simp[h1s,h1p];done)))
def Pat.op:Pat->Int | .mk a0 _ _ _ _ _=>a0
def Pat.ctor:Pat->Int | .mk _ a1 _ _ _ _=>a1
def Pat.n:Pat->Int | .mk _ _ a2 _ _ _=>a2
def Pat.m:Pat->Int | .mk _ _ _ a3 _ _=>a3
def Pat.var:Pat->Int | .mk _ _ _ _ a4 _=>a4
def Pat.kids:Pat->List Pat | .mk _ _ _ _ _ k=>k
abbrev Pat.cc (v:Pat):List D:=[.i v.op,.i v.ctor,.i v.n,.i v.m,.i v.var,.sl (Pat.cs v.kids)]
theorem Pat.c_eq (v:Pat):v.c=v.cc:=by cases v;rfl
theorem Pat.eta (v:Pat):Pat.mk v.op v.ctor v.n v.m v.var v.kids=v:=by cases v;rfl
theorem Pat.cs_at' {pre:List Pat}{x:Pat}{rest xs:List Pat} (h:pre++x::rest=xs):(Pat.cs xs)[pre.length]?=some x.cc:=by rw[Pat.cs_eq,<-Pat.c_eq];exact zaK h
mutual
def zsj:Pat->Pat->Bool
 | .mk a0 a1 a2 a3 a4 ks,.mk b0 b1 b2 b3 b4 ls=>decide (a0=b0)&&(decide (a1=b1)&&(decide (a2=b2)&&(decide (a3=b3)&&(decide (a4=b4)&&zmH ks ls))))
def zmH:List Pat->List Pat->Bool
 | [],[]=>true
 |x::r,y::s=>zsj x y&&zmH r s
 |_,_=>false
end
mutual
def Pat.ok:Pat->Prop
 | .mk _ _ _ _ _ ks=>ks.length<=1000000000000/\Pats.ok ks
def Pats.ok:List Pat->Prop
 | []=>True
 |v::r=>v.ok/\Pats.ok r
end
theorem Pats.ok_mem:∀ {l:List Pat},Pats.ok l->∀v,v∈l->v.ok
 |x::r,h,v,hv=>by
  simp only[Pats.ok] at h;rcases List.mem_cons.1 hv with rfl|hv
  ·exact h.1
  ·exact Pats.ok_mem h.2 v hv
mutual
def Pat.size:Pat->Nat
 | .mk _ _ _ _ _ ks=>1+Pats.size ks
def Pats.size:List Pat->Nat
 | []=>0
 |v::r=>v.size+Pats.size r
end
theorem Pats.size_mem:∀ {l:List Pat}{v:Pat},v∈l->v.size<=Pats.size l
 |x::r,v,hv=>by
  simp only[Pats.size];rcases List.mem_cons.1 hv with rfl|hv
  ·omega
  ·have:=Pats.size_mem hv;omega
theorem zaH {l:List Pat}{i:Nat} (h:i<l.length):(Pat.cs l)[i]?=some (nth l i).cc:=by
 rw[Pat.cs_eq,<-Pat.c_eq];exact zap h
theorem Pat.ok_iff (v:Pat):v.ok↔v.kids.length<=1000000000000/\Pats.ok v.kids:=by cases v;rfl
theorem Pat.size_eq (v:Pat):v.size=1+Pats.size v.kids:=by cases v;rfl
mutual
theorem zsk:∀v:Pat,zsj v v=true
 | .mk _ _ _ _ _ ks=>by simp[zsj,zkP ks]
theorem zkP:∀l:List Pat,zmH l l=true
 | []=>rfl
 |v::r=>by simp[zmH,zsk v,zkP r]
end
theorem Pat.c_len (v:Pat):v.c.length=6:=by cases v;rfl
theorem Pat.cs_rows {l:List Pat}:∀x,x∈Pat.cs l->x.length=6:=by
 intro x hx;rw[Pat.cs_eq] at hx;obtain⟨y,_,rfl⟩:=List.mem_map.1 hx;exact y.c_len
theorem Pat.cs_nil (l:List Pat):Pat.cs l=[]↔l=[]:=by rw[Pat.cs_eq];simp
mutual
def mPat:Pat->Nat
 | .mk _ _ _ _ _ ks=>zml ks
def zml:List Pat->Nat
 | []=>0
 |v::r=>1+mPat v+zml r
end
mutual
def Pat.szM:Pat->Int
 | .mk _ _ _ _ _ ks=>5+Pats.szM ks
def Pats.szM:List Pat->Int
 | []=>0
 |v::r=>v.szM+Pats.szM r
end
mutual
def Pat.one (k:Int):Pat->Pat
 | .mk _ _ _ _ _ ks=> .mk k (k+1) (k+1+1) (k+1+1+1) (k+1+1+1+1) (Pats.one (k+1+1+1+1+1) ks)
def Pats.one (k:Int):List Pat->List Pat
 | []=>[]
 |v::r=>v.one k::Pats.one (k+v.szM) r
end
mutual
theorem Pat.szM_nn:∀v:Pat,0<=v.szM
 | .mk _ _ _ _ _ ks=>by have:=Pats.szM_nn ks;simp only[Pat.szM];omega
theorem Pats.szM_nn:∀l:List Pat,0<=Pats.szM l
 | []=>by simp[Pats.szM]
 |v::r=>by have:=Pat.szM_nn v;have:=Pats.szM_nn r;simp only[Pats.szM];omega
end
mutual
theorem Pat.szM_le:∀v:Pat,v.szM<=5+5*(mPat v:Int)
 | .mk _ _ _ _ _ ks=>by have:=Pats.szM_le ks;simp only[Pat.szM,mPat];omega
theorem Pats.szM_le:∀l:List Pat,Pats.szM l<=5*(zml l:Int)
 | []=>by simp[Pats.szM,zml]
 |v::r=>by have:=Pat.szM_le v;have:=Pats.szM_le r;simp only[Pats.szM,zml];omega
end
def TyIn (n:Nat) (t:Ty):Prop:=t.data = -1\/∃d:Nat,t.data=d/\d<n
structure WT (w:List Data):Prop where
 small:WSmall w
 arg:∀d∈w,∀c∈d.ctors,∀t∈c.args,TyIn w.length t
def zaa (w:List Data) (t:Ty) (c:Int):List Ty:=
 let x:=nth (nth w t.data.toNat).ctors c.toNat
 x.args.map (zcp (zcz x t.index))
def za3 (w:List Data) (t:Ty):List Int:=zaW t.index 0 (nth w t.data.toNat).ctors
def cap (x:Int):Int:=if 401<x then 401 else x
theorem zlR {x:Int} (h:0<=x):0<=cap x/\cap x<=401:=by unfold cap;split<;>omega
theorem zgd (k:Int):∀(l:List Ctor) (i:Nat) (c:Int),c∈zaW k i l->∃j:Nat,c=(j:Int)/\i<=j/\j<i+l.length
 | [],i,c,h=>by simp[zaW] at h
 |x::r,i,c,h=>by
  unfold zaW at h;have go:c∈zaW k (i+1) r->∃j:Nat,c=(j:Int)/\i<=j/\j<i+(x::r).length:=fun h=>by
   obtain⟨j,h1,h2,h3⟩:=zgd k r (i+1) c h;exact⟨j,h1,by omega,by simp;omega⟩
  split at h
  ·rcases List.mem_cons.1 h with h|h
   ·exact⟨i,h,by omega,by simp⟩
   ·exact go h
  ·exact go h
theorem zub {n:Nat}{k:Int}{t:Ty} (h:TyIn n t):TyIn n (zcp k t):=by
 unfold zcp;split
 ·exact h
 ·exact h
def PlaceIn (w:List Data) (d:Nat) (c:Int):Prop:=∃j:Nat,c=j/\j<(nth w d).ctors.length
theorem zqf {w:List Data}{d:Nat}{k c:Int} (h:c∈za3 w ⟨d,k⟩):PlaceIn w d c:=by
 obtain⟨j,h1,_,h3⟩:=zgd _ _ _ _ h;exact⟨j,h1,by simpa using h3⟩
theorem znX {w:List Data} (hw:WT w){d:Nat} (hd:d<w.length){k c:Int} (hc:PlaceIn w d c){t:Ty} (ht:t∈zaa w ⟨d,k⟩ c):TyIn w.length t:=by
 obtain⟨j,rfl,hj⟩:=hc;simp only[zaa,Int.toNat_natCast,List.mem_map] at ht;obtain⟨x,hx,rfl⟩:=ht;exact zub (hw.arg _ (zac hd) _ (zac hj) x hx)
theorem ziq {w:List Data} (hw:WT w){d:Nat} (hd:d<w.length){k c:Int} (hc:PlaceIn w d c):(zaa w ⟨d,k⟩ c).length<=1000000000000:=by
 obtain⟨j,rfl,hj⟩:=hc;simp only[zaa,Int.toNat_natCast,xac];exact(hw.small.ctor _ (zac hd) _ (zac hj)).2
theorem zqU {w:List Data} (hw:WT w){d:Nat}{k:Int}:(za3 w ⟨d,k⟩).length<=1000000000000:=by
 have:=zgc k (nth w d).ctors 0;have:=hw.small.ctors d;simp only[za3,Int.toNat_natCast];omega
theorem zk7 {w:List Data} (hw:WT w){d:Nat} (hd:d<w.length){k c:Int} (hc:PlaceIn w d c):FnD Tryz.prog 144 [.d (zam w),.agg [.d (.i d),.d (.i k)],.d (.i c)] [] (.d (zci (zaa w ⟨d,k⟩ c))) []:=by
 obtain⟨j,rfl,hj⟩:=hc;exact zk6 hw.small hd hj
theorem zmc {w:List Data} (hw:WT w){d:Nat} (hd:d<w.length){k:Int}:FnD Tryz.prog 234 [.d (zam w),.agg [.d (.i d),.d (.i k)]] [] (.d (zbB (za3 w ⟨d,k⟩))) []:=zma hw.small hd
theorem znG {w:List Data} (hw:WT w){d:Nat} (hd:d<w.length){k c:Int} (hc:PlaceIn w d c):FnD Tryz.prog 254 [.d (zam w),.agg [.d (.i d),.d (.i k)],.d (.i c)] [] (.d (zci (zaa w ⟨d,k⟩ c))) []:=by
 obtain⟨j,rfl,hj⟩:=hc;exact znF hw.small hd hj
theorem zmR {w:List Data} (hw:WT w){d:Nat} (hd:d<w.length){k:Int}:FnD Tryz.prog 226 [.d (zam w),.agg [.d (.i d),.d (.i k)]] [] (.d (zbB (za3 w ⟨d,k⟩))) []:=zmQ hw.small hd
end Go.Proofs.YtlfipehhbdjnjaaGreat
namespace Go.Proofs.YtlfipehhbdjnjaaGreat
open Go
set_option linter.unusedSimpArgs false
set_option linter.unusedVariables false
def zdy (w:List Data):List Str:=w.flatMap fun d=>d.ctors.map (·.name)
structure WV (w:List Data):Prop where
 len:w.length<=4
 data:∀d∈w,zbm d.name=true/\1<=d.ctors.length/\d.ctors.length<=4
 ctor:∀d∈w,∀c∈d.ctors,zbA w.length c=true
 names:(w.map (·.name)).Nodup
 cnames:(zdy w).Nodup
theorem zhQ (n:Nat):∀(l:List Ctor) (met met':List Str),zc2 n met l=some met'↔met'=met++l.map (·.name)/\(∀c∈l,zbA n c=true)/\(l.map (·.name)).Nodup/\∀c∈l,c.name∉met
 | [],met,met'=>by
  unfold zc2;simp only[Option.some.injEq,List.map_nil,List.append_nil];exact⟨fun h=>⟨h.symm,by simp,by simp,by simp⟩,fun h=>h.1.symm⟩
 |c::r,met,met'=>by
  unfold zc2;by_cases h:(zbA n c&& !decide (c.name∈met))=true
  ·rw[if_pos h,zhQ n r];simp only[xad,Bool.not_eq_true',decide_eq_false_iff_not] at h;obtain⟨h1,h2⟩:=h;constructor
   ·rintro ⟨rfl,q1,q2,q3⟩
    refine⟨by simp,fun x hx=>?_, ?_,fun x hx=>?_⟩
    ·rcases List.mem_cons.1 hx with rfl|hx
     ·exact h1
     ·exact q1 x hx
    ·simp only[xae,List.nodup_cons];refine⟨fun hm=>?_,q2⟩;obtain⟨x,hx,he⟩:=List.mem_map.1 hm;exact q3 x hx (by rw[he];simp)
    ·rcases List.mem_cons.1 hx with rfl|hx
     ·exact h2
     ·intro hm;exact q3 x hx (by simp[hm])
   ·rintro ⟨rfl,q1,q2,q3⟩
    simp only[xae,List.nodup_cons] at q2;refine⟨by simp,fun x hx=>q1 x (List.mem_cons_of_mem _ hx),q2.2,fun x hx hm=>?_⟩;simp only[List.mem_append,List.mem_singleton] at hm;rcases hm with hm|hm
    ·exact q3 x (List.mem_cons_of_mem _ hx) hm
    ·exact q2.1 (hm ▸ List.mem_map.2 ⟨x,hx,rfl⟩)
  ·rw[if_neg h];constructor
   ·intro h';cases h'
   ·rintro ⟨_,q1,_,q3⟩
    exfalso;apply h;simp[q1 c (by simp),q3 c (by simp)]
theorem zhR (n:Nat):∀(l:List Data) (met datas:List Str),zbE n met datas l=true↔
  (∀d∈l,zbm d.name=true/\1<=d.ctors.length/\d.ctors.length<=4)/\(∀d∈l,∀c∈d.ctors,zbA n c=true)/\(l.map (·.name)).Nodup/\(∀d∈l,d.name∉datas)/\
   (zdy l).Nodup/\∀s∈zdy l,s∉met
 | [],met,datas=>by simp[zbE,zdy]
 |d::r,met,datas=>by
  have hcn:zdy (d::r)=d.ctors.map (·.name)++zdy r:=rfl;have hw:zar d.ctors.length 1 4=true↔1<=d.ctors.length/\d.ctors.length<=4:=by simp[zar];omega
  unfold zbE;simp only[xad,Bool.not_eq_true',decide_eq_false_iff_not,hw];constructor
  ·rintro ⟨⟨⟨h1,h2⟩,h3⟩,h4⟩
   split at h4
   ·rename_i met' hm;obtain⟨rfl,c1,c2,c3⟩:=(zhQ n _ _ _).1 hm;obtain⟨q1,q2,q3,q4,q5,q6⟩:=(zhR n r _ _).1 h4;refine⟨fun x hx=>?_,fun x hx=>?_, ?_,fun x hx=>?_, ?_,fun s hs=>?_⟩
    ·rcases List.mem_cons.1 hx with rfl|hx
     ·exact⟨h1,h3⟩
     ·exact q1 x hx
    ·rcases List.mem_cons.1 hx with rfl|hx
     ·exact c1
     ·exact q2 x hx
    ·simp only[xae,List.nodup_cons];refine⟨fun hm=>?_,q3⟩;obtain⟨x,hx,he⟩:=List.mem_map.1 hm;exact q4 x hx (by rw[he];simp)
    ·rcases List.mem_cons.1 hx with rfl|hx
     ·exact h2
     ·intro hm;exact q4 x hx (by simp[hm])
    ·rw[hcn,List.nodup_append];refine⟨c2,q5,fun a ha b hb he=>?_⟩;subst he;exact q6 a hb (by simp only[List.mem_append];exact .inr ha)
    ·rw[hcn] at hs;rcases List.mem_append.1 hs with hs|hs
     ·obtain⟨c,hc,rfl⟩:=List.mem_map.1 hs;exact c3 c hc
     ·intro hm;exact q6 s hs (by simp[hm])
   ·cases h4
  ·rintro ⟨q1,q2,q3,q4,q5,q6⟩
   rw[hcn] at q5 q6;rw[List.nodup_append] at q5;simp only[xae,List.nodup_cons] at q3;have hd:=q1 d (by simp);have hm:zc2 n met d.ctors=some (met++d.ctors.map (·.name)):=(zhQ n _ _ _).2 ⟨rfl,q2 d (by simp),q5.1,fun c hc=>q6 _ (List.mem_append.2 (.inl (List.mem_map.2 ⟨c,hc,rfl⟩)))⟩;refine⟨⟨⟨hd.1,q4 d (by simp)⟩,hd.2⟩, ?_⟩;rw[hm];refine(zhR n r _ _).2 ⟨fun x hx=>q1 x (List.mem_cons_of_mem _ hx),fun x hx=>q2 x (List.mem_cons_of_mem _ hx),q3.2,fun x hx hmem=>?_,q5.2.1,fun s hs hmem=>?_⟩
   ·simp only[List.mem_append,List.mem_singleton] at hmem;rcases hmem with hmem|hmem
    ·exact q4 x (List.mem_cons_of_mem _ hx) hmem
    ·exact q3.1 (hmem ▸ List.mem_map.2 ⟨x,hx,rfl⟩)
   ·rcases List.mem_append.1 hmem with hmem|hmem
    ·exact q6 s (List.mem_append.2 (.inr hs)) hmem
    ·exact q5.2.2 s hmem s hs rfl
theorem zco (w:List Data):za0 w=true↔WV w:=by
 unfold za0;rw[xad,zhR];constructor
 ·rintro ⟨h1,q1,q2,q3,_,q5,_⟩
  exact⟨by have:=of_decide_eq_true h1;omega,q1,q2,q3,q5⟩
 ·rintro ⟨h1,q1,q2,q3,q5⟩
  exact⟨decide_eq_true (by omega),q1,q2,q3,by simp,q5,by simp⟩
theorem zoT {l:List Str}:l.Nodup↔∀i j,i<j->j<l.length->nth l i≠nth l j:=by
 unfold List.Nodup;rw[List.pairwise_iff_getElem];constructor
 ·intro h i j hij hj;have:=h i j (by omega) hj hij;simpa [nth,List.getD,hj,(by omega:i<l.length)] using this
 ·intro h i j hi hj hij;have:=h i j hij hj;simpa [nth,List.getD,hj,hi] using this
theorem zaI {α:Type} [Inhabited α]{l:List α}{i:Nat} (h:i<l.length):nth l i=l[i]:=by simp[nth,List.getD,h]
theorem zlT (w:List Data):(zdy w).Nodup↔(∀d,d<w.length->∀j k,j<k->k<(nth w d).ctors.length->(nth (nth w d).ctors j).name≠(nth (nth w d).ctors k).name)/\
  ∀i d,i<d->d<w.length->∀j k,j<(nth w i).ctors.length->k<(nth w d).ctors.length->(nth (nth w i).ctors j).name≠(nth (nth w d).ctors k).name:=by
 unfold zdy List.Nodup;rw[List.pairwise_flatMap];constructor
 ·rintro ⟨h1,h2⟩
  refine⟨fun d hd j k hjk hk=>?_,fun i d hid hd j k hj hk=>?_⟩
  ·have:=h1 (nth w d) (zac hd);rw[List.pairwise_iff_getElem] at this;have:=this j k (by simp;omega) (by simpa using hk) hjk;simpa [zaI hk,zaI (show j<(nth w d).ctors.length by omega)] using this
  ·rw[List.pairwise_iff_getElem] at h2;have:=h2 i d (by omega) hd hid;rw[<-zaI hd,<-zaI (show i<w.length by omega)] at this;exact this _ (List.mem_map.2 ⟨_,zac hj,rfl⟩) _ (List.mem_map.2 ⟨_,zac hk,rfl⟩)
 ·rintro ⟨h1,h2⟩
  refine⟨fun x hx=>?_, ?_⟩
  ·obtain⟨d,hd,rfl⟩:=List.getElem_of_mem hx;rw[List.pairwise_iff_getElem];intro j k hj hk hjk;have hk':k<(nth w d).ctors.length:=by rw[zaI hd];simpa using hk
   have:=h1 d hd j k hjk hk';rw[zaI hk',zaI (show j<(nth w d).ctors.length by omega)] at this;simp only[zaI hd] at this;simpa using this
  ·rw[List.pairwise_iff_getElem];intro i d hi hd hid x hx y hy;obtain⟨a,ha,rfl⟩:=List.mem_map.1 hx;obtain⟨b,hb,rfl⟩:=List.mem_map.1 hy;obtain⟨j,hj,rfl⟩:=List.getElem_of_mem ha;obtain⟨k,hk,rfl⟩:=List.getElem_of_mem hb;have hj':j<(nth w i).ctors.length:=by rw[zaI hi];exact hj
   have hk':k<(nth w d).ctors.length:=by rw[zaI hd];exact hk
   have:=h2 i d hid hd j k hj' hk';rw[zaI hj',zaI hk'] at this;simpa only[zaI hi,zaI hd] using this
theorem zos (w:List Data):(w.map (·.name)).Nodup↔∀i d,i<d->d<w.length->(nth w i).name≠(nth w d).name:=by
 rw[zoT];have e:∀i,i<w.length->nth (w.map (·.name)) i=(nth w i).name:=fun i hi=>by simp[nth,List.getD,hi]
 constructor
 ·intro h i d hid hd;have:=h i d hid (by simpa using hd);rwa [e i (by omega),e d hd] at this
 ·intro h i d hid hd;have hd':d<w.length:=by simpa using hd
  rw[e i (by omega),e d hd'];exact h i d hid hd'
theorem zoI (w:List Data) (d k:Nat):zm9 w d k=false↔(∀i,i<d->(nth w i).name≠(nth w d).name)/\
  ∀i j,i<=d->j<(nth w i).ctors.length->(i<d\/j<k)->k<(nth w d).ctors.length->(nth (nth w i).ctors j).name≠(nth (nth w d).ctors k).name:=by
 unfold zm9;rw[List.any_eq_false];constructor
 ·intro h;refine⟨fun i hi he=>?_,fun i j hi hj hij hk he=>?_⟩
  ·apply h i (List.mem_range.2 (by omega))
   unfold zdm;simp[hi,he]
  ·apply h i (List.mem_range.2 (by omega))
   unfold zdm;rw[zcM hj (by unfold zbM;simp[hk,he];omega)];simp
 ·rintro ⟨h1,h2⟩ i hi
  have hi':=List.mem_range.1 hi;unfold zdm;simp only[Bool.or_eq_true,xad,decide_eq_true_eq,not_or,not_and];refine⟨fun hid=>h1 i hid, ?_⟩;rw[ze0 (fun j hj=>?_)]
  ·simp
  ·unfold zbM;cases hc:((decide (i<d)||decide (j<k))&&(decide (k<(nth w d).ctors.length)&&decide ((nth (nth w i).ctors j).name=(nth (nth w d).ctors k).name))) with
   |false=>rfl
   |true=>
    simp only[xad,Bool.or_eq_true,decide_eq_true_eq] at hc;exact absurd hc.2.2 (h2 i j (by omega) hj hc.1 hc.2.1)
theorem zj3 (w:List Data):zbq w=true↔WV w:=by
 unfold zbq;rw[xad,decide_eq_true_eq,List.all_eq_true];have hs:∀d,zcm w d=true↔zbm (nth w d).name=true/\1<=(nth w d).ctors.length/\(nth w d).ctors.length<=4/\∀k,k<(nth w d).ctors.length->zbA w.length (nth (nth w d).ctors k)=true/\zm9 w d k=false:=fun d=>by
  unfold zcm;simp only[xad,decide_eq_true_eq,List.all_eq_true,List.mem_range,zd6,Bool.not_eq_true']
 constructor
 ·rintro ⟨h1,h2⟩
  have h3:∀d,d<w.length->_:=fun d hd=>(hs d).1 (h2 d (List.mem_range.2 hd));have h4:∀d,d<w.length->∀k,k<(nth w d).ctors.length->_:=fun d hd k hk=>(zoI w d k).1 ((h3 d hd).2.2.2 k hk).2;refine⟨h1,fun d hd=>?_,fun d hd c hc=>?_,(zos w).2 (fun i d hid hd=>?_),(zlT w).2 ⟨fun d hd j k hjk hk=>?_,fun i d hid hd j k hj hk=>?_⟩⟩
  ·obtain⟨i,hi,rfl⟩:=List.getElem_of_mem hd;have:=h3 i hi;rw[zaI hi] at this;exact⟨this.1,this.2.1,this.2.2.1⟩
  ·obtain⟨i,hi,rfl⟩:=List.getElem_of_mem hd;obtain⟨k,hk,rfl⟩:=List.getElem_of_mem hc;have hk':k<(nth w i).ctors.length:=by rw[zaI hi];exact hk
   have:=((h3 i hi).2.2.2 k hk').1;rw[zaI hk'] at this;simpa only[zaI hi] using this
  ·exact(h4 d hd 0 (by have:=(h3 d hd).2.1;omega)).1 i hid
  ·exact(h4 d hd k hk).2 d j (Nat.le_refl _) (by omega) (.inr hjk) hk
  ·exact(h4 d hd k hk).2 i j (by omega) hj (.inl hid) hk
 ·intro h;refine⟨h.len,fun d hd=>?_⟩;have hd':=List.mem_range.1 hd;have hm:=zac hd';have hn:=(zos w).1 h.names;have hc:=(zlT w).1 h.cnames;refine(hs d).2 ⟨(h.data _ hm).1,(h.data _ hm).2.1,(h.data _ hm).2.2,fun k hk=>⟨h.ctor _ hm _ (zac hk),(zoI w d k).2 ⟨fun i hi=>hn i d hi hd',fun i j hi hj hij hk'=>?_⟩⟩⟩;by_cases hid:i<d
  ·exact hc.2 i d hid hd' j k hj hk'
  ·have:i=d:=by omega
   subst this;exact hc.1 i hd' j k (by omega) hk'
theorem zgk (w:List Data):zbq w=za0 w:=by
 rw[Bool.eq_iff_iff,zj3,zco]
theorem zua {n:Nat}{t:Ty} (h:zbK n t=true):TyIn n t:=by
 unfold zbK at h;simp only[Bool.or_eq_true,xad,decide_eq_true_eq,zar] at h;rcases h with h|h
 ·exact .inl h.1
 ·exact .inr ⟨t.data.toNat,by omega,by omega⟩
theorem zt3 {n:Nat}{t:Ty} (h:zd8 n t=true):TyIn n t:=by
 unfold zd8 at h;simp only[Bool.or_eq_true,xad,decide_eq_true_eq,zar] at h;rcases h with h|h
 ·exact .inl h.1
 ·exact .inr ⟨t.data.toNat,by omega,by omega⟩
theorem WV.wt {w:List Data} (hs:WSmall w) (h:WV w):WT w:=⟨hs,fun d hd c hc t ht=>by
 have:=h.ctor d hd c hc;unfold zbA at this;simp only[xad,Bool.not_eq_true',List.any_eq_false,Bool.not_eq_true,Bool.not_eq_false] at this;exact zua (by have:=this.2.2.2 t ht;simpa using this)⟩
theorem zv7 (w:List Data) (t:Ty):(zbq w&&(zbK w.length t&&decide (0<=t.index)))=zbF w t:=by
 rw[zgk];unfold zbF;congr 1
 rw[Bool.eq_iff_iff];unfold zbK zd8 zar;simp;omega
end Go.Proofs.YtlfipehhbdjnjaaGreat
namespace Go.Proofs.YtlfipehhbdjnjaaGreat
open Go
set_option linter.unusedSimpArgs false
set_option linter.unusedVariables false
set_option maxRecDepth 100000
set_option maxHeartbeats 2000000
theorem zaS {α:Type} [Inhabited α]{l:List α}{i:Nat} (h:i<l.length):l.drop i=nth l i::l.drop (i+1):=by
 rw[zaI h];exact List.drop_eq_getElem_cons h
def all2 {α β:Type} (f:α->β->Bool):List α->List β->Bool
 | [],[]=>true
 |a::r,b::s=>f a b&&all2 f r s
 |_,_=>false
theorem zgO {α β:Type}{f:α->β->Bool}:∀ {a:List α}{b:List β},a.length≠b.length->all2 f a b=false
 | [],[],h=>by simp at h
 | [],_::_,_=>rfl
 |_::_,[],_=>rfl
 |x::r,y::s,h=>by simp[all2,zgO (a:=r) (b:=s) (by simpa using h)]
theorem zb1 {α β:Type} [Inhabited α] [Inhabited β]{f:α->β->Bool}{a:List α}{b:List β}{i:Nat} (h:i<a.length) (hl:a.length=b.length) (h2:f (nth a i) (nth b i)=false):all2 f a b=false:=by
 induction i generalizing a b with
 |zero=>
  cases a with
  |nil=>simp at h
  |cons x r=>
   cases b with
   |nil=>simp[all2]
   |cons y s=>simp[nth] at h2;simp[all2,h2]
 |succ i ih=>
  cases a with
  |nil=>simp at h
  |cons x r=>
   cases b with
   |nil=>simp[all2]
   |cons y s=>simp only[all2];rw[ih (a:=r) (b:=s) (by simpa using h) (by simpa using hl) (by simpa [nth] using h2)];simp
theorem zcf {α β:Type} [Inhabited α] [Inhabited β]{f:α->β->Bool}{a:List α}{b:List β} (hl:a.length=b.length) (h:∀i,i<a.length->f (nth a i) (nth b i)=true):all2 f a b=true:=by
 induction a generalizing b with
 |nil=>cases b with
  |nil=>simp[all2]
  |cons y s=>simp at hl
 |cons x r ih=>cases b with
  |nil=>simp at hl
  |cons y s=>
   have h0:=h 0 (by simp);simp only[all2];rw[ih (by simpa using hl) (fun i hi=>by simpa [nth] using h (i+1) (by simpa using hi))];simpa [nth] using h0
def idxI (l:List Int) (v:Int):Int:=idxF (fun x=>decide (v=x)) l 0
theorem zjd {l:List Int}{v:Int} (h:l.length<=1000000000000):FnD Tryz.prog 306 [.d (zbB l),.d (.i v)] [] (.d (.i (idxI l v))) []:=by
 refine bd Tryz.f306 19 [] [] fun w0 F0 own kept hk=>?_;refine xak (ι:=List (Int)×List (Int)) hk (fun x=>[(8,.d (.i (x.1.length:Int)))]) [4,5,9,10,11,12,13,14,15,16,17,18] (fun x=>[]) (fun x=>x.1++x.2=l/\idxF (fun x=>decide (v=x)) x.2 x.1.length=idxF (fun x=>decide (v=x)) l 0) (fun x=>x.2.length) ([],l) ⟨by simp,rfl⟩ ⟨⟨_,rfl,xaq ?_⟩,trivial⟩ trivial (fun x=>rfl) (fun x hg1=>?_);focus (first|rfl|(simp;done)|(simp_all;done)|omega)
 obtain⟨pre,rest⟩:=x;dsimp only at hg1 ⊢;refine evc [] [] ?_;refine sq ?_ ?_<;>intro h1 h1p h1s<;>(try simp only[Q] at h1p);rcases rest with _|⟨y,rest⟩
 ·exfalso;simp_all
 refine xaS sl29 .none rfl rfl rfl rfl (zaK hg1.1) rfl ?_;refine ev ?_;refine sq ?_ ?_<;>intro h2 h2p h2s<;>(try simp only[Q] at h2p);focus (refine rq ?_;all_goals (unfold idxI;rw[<-hg1.2];simp[idxF,h1s,h1p,h2s,h2p]))
 refine ar ?_;refine xah ((pre++[y],rest)) ⟨⟨(by have hz:=hg1.1;rw[<-hz];simp),(by rw[<-hg1.2];simp[idxF,h2p])⟩,(by simp),sx ⟨⟨_,rfl,xaq ?_⟩,trivial⟩ trivial⟩;focus (first|rfl|(simp;done)|(simp_all;done)|omega)
 have hrest:rest=[]:=by
  rcases rest with _|⟨a,b⟩
  ·rfl
  ·exfalso;have hz:=congrArg List.length (hg1.1);simp only[xaa,xab,xac] at hz;omega
 subst hrest;focus (refine rq ?_;all_goals (unfold idxI;rw[<-hg1.2];simp[idxF,h1s,h1p]))
theorem zex {l:List Int}{v:Int} (h:l.length<=1000000000000):FnD Tryz.prog 237 [.d (zbB l),.d (.i v)] [] (.d (.bool (decide (v∈l)))) []:=by
 refine bd Tryz.f237 9 [] [] fun w0 F0 own kept hk=>?_;refine wc zwZ (zjd h) rfl rfl ?_;refine ev ?_;refine rq ?_;rotate_left;all_goals (refine congrArg D.bool ?_;rw[show idxI l v=idxF (fun x=>decide (v=x)) l 0 from rfl,zeE];simp[List.any_eq,eq_comm])
theorem zeB {l:List Int}{v:Int} (h:l.length<=1000000000000):FnD Tryz.prog 277 [.d (zbB l),.d (.i v)] [] (.d (.bool (decide (v∈l)))) []:=by
 refine bd Tryz.f277 18 [] [] fun w0 F0 own kept hk=>?_;refine xak (ι:=List (Int)×List (Int)) hk (fun x=>[(5,.d (.i (x.1.length:Int)))]) [4,6,7,8,9,10,11,12,13,14,15,16,17] (fun x=>[]) (fun x=>x.1++x.2=l/\v∉x.1) (fun x=>x.2.length) ([],l) ⟨by simp,by simp⟩ ⟨⟨_,rfl,xaq ?_⟩,trivial⟩ trivial (fun x=>rfl) (fun x hg1=>?_);focus (first|rfl|(simp;done)|(simp_all;done)|omega)
 obtain⟨pre,rest⟩:=x;dsimp only at hg1 ⊢;refine evc [] [] ?_;refine sq ?_ ?_<;>intro h1 h1p h1s<;>(try simp only[Q] at h1p);rcases rest with _|⟨y,rest⟩
 ·exfalso;simp_all
 refine xaS sl29 .none rfl rfl rfl rfl (zaK hg1.1) rfl ?_;refine ev ?_;refine sq ?_ ?_<;>intro h2 h2p h2s<;>(try simp only[Q] at h2p);focus (refine rq ?_;all_goals (refine congrArg D.bool ?_;first|(symm;rw[decide_eq_true_eq,<-hg1.1];simp[h1s,h1p,h2s,h2p];done)|(symm;rw[decide_eq_false_iff_not,<-hg1.1];intro hm;simp at hm;exact absurd hm (by simpa using hg1.2))))
 refine ar ?_;refine xah ((pre++[y],rest)) ⟨⟨(by have hz:=hg1.1;rw[<-hz];simp),(by have:=hg1.2;simp[this,eq_comm];omega)⟩,(by simp),sx ⟨⟨_,rfl,xaq ?_⟩,trivial⟩ trivial⟩;focus (first|rfl|(simp;done)|(simp_all;done)|omega)
 have hrest:rest=[]:=by
  rcases rest with _|⟨a,b⟩
  ·rfl
  ·exfalso;have hz:=congrArg List.length (hg1.1);simp only[xaa,xab,xac] at hz;omega
 subst hrest;focus (refine rq ?_;all_goals (refine congrArg D.bool ?_;first|(symm;rw[decide_eq_true_eq,<-hg1.1];simp[h1s,h1p];done)|(symm;rw[decide_eq_false_iff_not,<-hg1.1];intro hm;simp at hm;exact absurd hm (by simpa using hg1.2))))
structure Vt where
 var:Int
 ty:Ty
 deriving DecidableEq,Inhabited
abbrev Vt.c (t:Vt):List D:=[.i t.var,.i t.ty.data,.i t.ty.index]
abbrev zcP (l:List Vt):D:= .sl (l.map Vt.c)
def zaj (w:List Data) (t:Ty):List Int:=if t.data = -1 then [] else za3 w t
def zag (w:List Data) (t:Ty) (p:Pat):List Ty:=if p.op=4 then zaa w t p.ctor else if p.op=5 then [t,t] else if p.op=6 then [t] else []
def ownP (w:List Data) (t:Ty) (p:Pat):Bool:=decide (((p.op=2\/p.op=6)->0<=p.var/\p.var<=5)/\(¬(p.op=2\/p.op=6)->p.var=0)/\(p.op≠3->p.n=0/\p.m=0)/\(p.op≠4->p.ctor=0)/\
 (p.op=1\/p.op=2\/p.op=5\/p.op=6\/(p.op=3/\t.data = -1/\0<=p.n/\p.n<=p.m/\p.m<=9)\/(p.op=4/\p.ctor∈zaj w t)))
def okP (w:List Data) (t:Ty) (p:Pat):Bool:=ownP w t p&&decide (p.kids.length=(zag w t p).length)
def zcE (w:List Data) (t:Ty) (p:Pat):List Ty:=if p.op=4/\p.ctor∉zaj w t then [] else zag w t p
def zas (w:List Data):Nat->Ty->Pat->Bool
 |0,_,_=>false
 |n+1,t,p=>ownP w t p&&all2 (zas w n) (zag w t p) p.kids
def zaT (t:Ty) (p:Pat):List Vt:=if p.op=2\/p.op=6 then [⟨p.var,t⟩] else []
def zbc (f:Ty->Pat->List Vt):List Ty->List Pat->List Vt
 |a::r,b::s=>f a b++zbc f r s
 |_,_=>[]
def zdi (w:List Data) (t:Ty) (p:Pat):List Ty:=if p.op=5 then (zag w t p).take 1 else zag w t p
def zaG (w:List Data):Nat->Ty->Pat->List Vt
 |0,_,_=>[]
 |n+1,t,p=>zaT t p++zbc (zaG w n) (zdi w t p) p.kids
def zbH (l:List Vt) (n:Int):Int:=idxF (fun v=>decide (v.var=n)) l 0
def zds (a b:List Vt):Bool:=a.all (fun v=>decide (0<=zbH b v.var/\(nth b (zbH b v.var).toNat).ty=v.ty))&&decide (a.length=b.length)
def zo5 (l:List Vt):Bool:=(List.range l.length).all fun(i:Nat)=>decide (zbH l (nth l i).var=(i:Int))
def zd4 (a b:List Vt):Bool:=decide (a.length=b.length)&& !a.any fun v=> !decide (v∈b)
def zcD (l:List Vt):Bool:=decide (l.map Vt.var).Nodup
def linP (w:List Data):Nat->Ty->Pat->Bool
 |0,_,_=>true
 |n+1,t,p=>all2 (linP w n) (zag w t p) p.kids&&(if p.op=5 then zds (zaG w n t (nth p.kids 0)) (zaG w n t (nth p.kids 1)) else zo5 (zaG w (n+1) t p))
theorem ze3 (l:List Vt) (n:Int):(zbH l n = -1/\∀v∈l,v.var≠n)\/∃k:Nat,zbH l n=k/\k<l.length/\(nth l k).var=n/\∀j,j<k->(nth l j).var≠n:=by
 have key:∀(l:List Vt) (i:Nat),(idxF (fun v=>decide (v.var=n)) l i = -1/\∀v∈l,v.var≠n)\/∃k:Nat,idxF (fun v=>decide (v.var=n)) l i=((i+k:Nat):Int)/\k<l.length/\(nth l k).var=n/\∀j,j<k->(nth l j).var≠n:=by
  intro l;induction l with
  |nil=>intro i;exact .inl ⟨rfl,by simp⟩
  |cons x r ih=>
   intro i;unfold idxF;by_cases h:x.var=n
   ·exact .inr ⟨0,by simp[h],by simp,by simpa [nth] using h,fun j hj=>absurd hj (by omega)⟩
   ·rcases ih (i+1) with ⟨h1,h2⟩|⟨k,h1,h2,h3,h4⟩
    ·exact .inl ⟨by simpa [h] using h1,fun v hv=>by rcases List.mem_cons.1 hv with rfl|hv;exact h;exact h2 v hv⟩
    ·refine .inr ⟨k+1, ?_,by simpa using h2,by simpa [nth] using h3,fun j hj=>?_⟩
     ·simp only[h,decide_false,Bool.false_eq_true,if_false];rw[h1];congr 1;omega
     ·cases j with
      |zero=>simpa [nth] using h
      |succ j=>simpa [nth] using h4 j (by omega)
 rcases key l 0 with h|⟨k,h1,h2⟩
 ·exact .inl h
 ·exact .inr ⟨k,by unfold zbH;simpa using h1,h2⟩
theorem zou {l:List Vt}:(l.map Vt.var).Nodup↔∀i j,i<j->j<l.length->(nth l i).var≠(nth l j).var:=by
 unfold List.Nodup;rw[List.pairwise_iff_getElem];constructor
 ·intro h i j hij hj;have:=h i j (by simp;omega) (by simpa using hj) hij;simp only[List.getElem_map] at this;rw[zaI (by omega),zaI hj];exact this
 ·intro h i j hi hj hij;simp only[xac] at hi hj;simp only[List.getElem_map];rw[<-zaI hi,<-zaI hj];exact h i j hij hj
theorem zjP {l:List Vt} (h:(l.map Vt.var).Nodup){i j:Nat} (hi:i<l.length) (hj:j<l.length) (he:(nth l i).var=(nth l j).var):i=j:=by
 have h1:=zou.1 h;rcases Nat.lt_trichotomy i j with h2|h2|h2
 ·exact absurd he (h1 i j h2 hj)
 ·exact h2
 ·exact absurd he.symm (h1 j i h2 hi)
theorem zpD (l:List Vt):zo5 l=zcD l:=by
 unfold zcD;by_cases h:(l.map Vt.var).Nodup
 ·rw[decide_eq_true h];refine zdt (fun i hi=>decide_eq_true ?_);rcases ze3 l (nth l i).var with ⟨_,h2⟩|⟨k,h1,h2,h3,h4⟩
  ·exact absurd rfl (h2 _ (zac hi))
  ·rw[h1,zjP h h2 hi h3]
 ·rw[decide_eq_false h];cases hd:zo5 l with
  |false=>rfl
  |true=>
   refine absurd ?_ h;rw[zou];intro i j hij hj he;have h1:=List.all_eq_true.1 hd i (List.mem_range.2 (by omega));have h2:=List.all_eq_true.1 hd j (List.mem_range.2 hj);simp only[decide_eq_true_eq] at h1 h2;rw[he,h2] at h1;omega
theorem zrZ {a b:List Vt} (hb:zcD b=true):zds a b=zd4 a b:=by
 unfold zcD at hb;simp only[decide_eq_true_eq] at hb;unfold zds zd4;rw[Bool.and_comm];congr 1
 rw[Bool.eq_iff_iff];simp only[List.all_eq_true,Bool.not_eq_true',List.any_eq_false,decide_eq_true_eq,Bool.not_eq_true,decide_eq_false_iff_not,Decidable.not_not];refine forall_congr' fun v=>forall_congr' fun hv=>?_;rcases ze3 b v.var with ⟨h1,h2⟩|⟨k,h1,h2,h3,h4⟩
 ·rw[h1];exact⟨fun h=>absurd h.1 (by omega),fun h=>absurd rfl (h2 v h)⟩
 ·rw[h1];simp only[Int.toNat_natCast];constructor
  ·rintro ⟨_,h⟩
   have:nth b k=v:=by
    have e:∀x y:Vt,x.var=y.var->x.ty=y.ty->x=y:=fun x y h1 h2=>by cases x;cases y;simp_all
    exact e _ _ h3 h
   rw[<-this];exact zac h2
  ·intro h;refine⟨by omega, ?_⟩;obtain⟨j,hj,he⟩:=List.getElem_of_mem h;have h5:nth b j=v:=by rw[zaI hj];exact he
   have:=zjP hb h2 hj (by rw[h3,h5]);rw[this,h5]
def zbo (g:Ty->Pat->Int->Option (List Vt)×Int) (or:Bool):List Ty->List Pat->Nat->List Vt->Int->Option (List Vt)×Int
 |a::r,b::s,i,acc,c=>match (g a b c).1 with
  |none=>(none,(g a b c).2)
  |some l=>if or=true/\i=1 then (if zd4 acc l=true then zbo g or r s (i+1) acc (g a b c).2 else (none,(g a b c).2)) else zbo g or r s (i+1) (acc++l) (g a b c).2
 |_,_,_,acc,c=>(some acc,c)
def finV (r:Option (List Vt)×Int):Option (List Vt)×Int:=match r.1 with
 |none=>r
 |some l=>if zcD l=true then r else (none,r.2)
def zaO (w:List Data):Nat->Ty->Pat->Int->Option (List Vt)×Int
 |0,_,_,c=>(none,c+1)
 |n+1,t,p,c=>if 60<c+1 then (none,c+1) else if okP w t p=true then finV (zbo (zaO w n) (decide (p.op=5)) (zag w t p) p.kids 0 (zaT t p) (c+1)) else (none,c+1)
def zbV (w:List Data) (n:Nat) (t:Ty) (p:Pat) (c:Int):Bool:=zas w n t p&&(decide (c+(p.size:Int)<=60)&&linP w n t p)
theorem zht (w:List Data):∀(n:Nat) (t:Ty) (p:Pat),zas w n t p=true->linP w n t p=true->zcD (zaG w n t p)=true
 |0,t,p,h,_=>by simp[zas] at h
 |n+1,t,p,h,hl=>by
  by_cases h5:p.op=5
  ·simp only[zas,linP,xad,if_pos h5] at h hl;have e1:zag w t p=[t,t]:=by unfold zag;rw[if_neg (by omega),if_pos h5]
   rw[e1] at h hl;rcases hk:p.kids with _|⟨x,_|⟨y,_|⟨z,r⟩⟩⟩
   ·rw[hk] at h;simp[all2] at h
   ·rw[hk] at h;simp[all2] at h
   ·rw[hk] at h hl;simp only[all2,xad,and_true] at h hl;have:=zht w n t x h.2.1 hl.1.1;have e2:zaG w (n+1) t p=zaG w n t x:=by
     simp only[zaG,zaT,zdi,e1,hk,if_pos h5];rw[if_neg (by omega)];simp[zbc]
    rw[e2];exact this
   ·rw[hk] at h;simp[all2] at h
  ·simp only[linP,if_neg h5,xad] at hl;rw[<-zpD];exact hl.2
theorem zqq {w:List Data}{n:Nat} (ih:∀t p c,((zaO w n t p c).1=if zbV w n t p c=true then some (zaG w n t p) else none)/\(zbV w n t p c=true->(zaO w n t p c).2=c+p.size)):
  ∀(a:List Ty) (b:List Pat) (i:Nat) (acc:List Vt) (c:Int),a.length=b.length->c<=60->
   ((zbo (zaO w n) false a b i acc c).1=if (all2 (zas w n) a b&&(decide (c+(Pats.size b:Int)<=60)&&all2 (linP w n) a b))=true then some (acc++zbc (zaG w n) a b) else none)/\
   ((all2 (zas w n) a b&&(decide (c+(Pats.size b:Int)<=60)&&all2 (linP w n) a b))=true->(zbo (zaO w n) false a b i acc c).2=c+Pats.size b)
 | [],[],i,acc,c,_,hc=>by simp[zbo,all2,Pats.size,zbc,hc]
 |x::r,y::s,i,acc,c,hl,hc=>by
  obtain⟨h1,h2⟩:=ih x y c;have hps:Pats.size (y::s)=y.size+Pats.size s:=rfl;simp only[zbo,zbc];by_cases hw:zbV w n x y c=true
  ·have h3:=h2 hw;rw[if_pos hw] at h1;rw[h1];simp only[Bool.false_eq_true,false_and,if_false];have h4:=hw;simp only[zbV,xad,decide_eq_true_eq] at h4;obtain⟨h5,h6⟩:=zqq ih r s (i+1) (acc++zaG w n x y) (zaO w n x y c).2 (by simpa using hl) (by omega);have e:(all2 (zas w n) (x::r) (y::s)&&(decide (c+(Pats.size (y::s):Int)<=60)&&all2 (linP w n) (x::r) (y::s)))=(all2 (zas w n) r s&&(decide ((zaO w n x y c).2+(Pats.size s:Int)<=60)&&all2 (linP w n) r s)):=by
    rw[all2,all2,h4.1,h4.2.2,h3];simp only[Bool.true_and];congr 2
    exact decide_eq_decide.2 (by omega)
   rw[e];refine⟨?_,fun hx=>?_⟩
   ·rw[h5,List.append_assoc]
   ·rw[h6 hx,h3];omega
  ·rw[if_neg hw] at h1;rw[h1];simp only;have hf:¬(all2 (zas w n) (x::r) (y::s)&&(decide (c+(Pats.size (y::s):Int)<=60)&&all2 (linP w n) (x::r) (y::s)))=true:=fun h=>by
    simp only[all2,xad,decide_eq_true_eq] at h;refine hw ?_;simp only[zbV,xad,decide_eq_true_eq];refine⟨h.1.1, ?_,h.2.2.1⟩;have:=h.2.1;omega
   rw[if_neg hf];exact⟨rfl,fun h=>absurd h hf⟩
 | [],_::_,_,_,_,hl,_=>by simp at hl
 |_::_,[],_,_,_,hl,_=>by simp at hl
theorem zfE (w:List Data):∀(n:Nat) (t:Ty) (p:Pat) (c:Int),((zaO w n t p c).1=if zbV w n t p c=true then some (zaG w n t p) else none)/\(zbV w n t p c=true->(zaO w n t p c).2=c+p.size)
 |0,t,p,c=>by simp[zaO,zbV,zas]
 |n+1,t,p,c=>by
  have hsz:=Pat.size_eq p;unfold zaO;by_cases h1:60<c+1
  ·have hf:¬zbV w (n+1) t p c=true:=fun h=>by
    simp only[zbV,xad,decide_eq_true_eq] at h;omega
   rw[if_pos h1,if_neg hf];exact⟨rfl,fun h=>absurd h hf⟩
  rw[if_neg h1];by_cases h2:okP w t p=true
  ·rw[if_pos h2];have h2':=h2;simp only[okP,xad,decide_eq_true_eq] at h2';by_cases h5:p.op=5
   ·have e1:zag w t p=[t,t]:=by unfold zag;rw[if_neg (by omega),if_pos h5]
    have e3:zaT t p=[]:=by unfold zaT;rw[if_neg (by omega)]
    rw[e1] at h2';rcases hk:p.kids with _|⟨x,_|⟨y,_|⟨z,r⟩⟩⟩
    ·rw[hk] at h2';simp at h2'
    ·rw[hk] at h2';simp at h2'
    ·have e4:zaG w (n+1) t p=zaG w n t x:=by
      simp only[zaG,zdi,e1,hk,if_pos h5,e3];simp[zbc]
     have e5:zbV w (n+1) t p c=((zas w n t x&&zas w n t y)&&(decide (c+1+(x.size:Int)+y.size<=60)&&((linP w n t x&&linP w n t y)&&zds (zaG w n t x) (zaG w n t y)))):=by
      simp only[zbV,zas,linP,h2'.1,e1,hk,all2,if_pos h5,Bool.and_true,Bool.true_and,nth,List.getD_cons_zero,List.getD_cons_succ];congr 2
      refine decide_eq_decide.2 ?_;rw[hsz,hk];simp only[Pats.size];push_cast;omega
     rw[e4,e5,e1,e3];obtain⟨a1,a2⟩:=zfE w n t x (c+1);simp only[zbo,h5,decide_true];by_cases w1:zbV w n t x (c+1)=true
     ·have a3:=a2 w1;rw[if_pos w1] at a1;have b1:=w1;simp only[zbV,xad,decide_eq_true_eq] at b1;obtain⟨d1,d2⟩:=zfE w n t y (zaO w n t x (c+1)).2;rw[a1];simp only[true_and,Nat.zero_ne_one,if_false,List.nil_append];by_cases w2:zbV w n t y (zaO w n t x (c+1)).2=true
      ·have d3:=d2 w2;rw[if_pos w2] at d1;have b2:=w2;simp only[zbV,xad,decide_eq_true_eq] at b2;rw[d1];simp only[Nat.zero_add,if_true];have n1:=zht w n t x b1.1 b1.2.2;have n2:=zht w n t y b2.1 b2.2.2;have e6:((zas w n t x&&zas w n t y)&&(decide (c+1+(x.size:Int)+y.size<=60)&&((linP w n t x&&linP w n t y)&&zds (zaG w n t x) (zaG w n t y))))=zd4 (zaG w n t x) (zaG w n t y):=by
        rw[b1.1,b2.1,b1.2.2,b2.2.2,zrZ n2,decide_eq_true (by omega)];simp
       rw[e6];by_cases hs:zd4 (zaG w n t x) (zaG w n t y)=true
       ·rw[if_pos hs,if_pos hs];simp only[finV,n1,if_true];refine⟨trivial,fun _=>?_⟩;rw[d3,a3,hsz,hk];simp only[Pats.size];push_cast;omega
       ·rw[if_neg hs,if_neg hs];simp only[finV];exact⟨trivial,fun h=>absurd h hs⟩
      ·rw[if_neg w2] at d1;rw[d1];simp only[finV];have hf:¬((zas w n t x&&zas w n t y)&&(decide (c+1+(x.size:Int)+y.size<=60)&&((linP w n t x&&linP w n t y)&&zds (zaG w n t x) (zaG w n t y))))=true:=fun h=>by
        simp only[xad,decide_eq_true_eq] at h;refine w2 ?_;simp only[zbV,xad,decide_eq_true_eq];exact⟨h.1.2,by omega,h.2.2.1.2⟩
       rw[if_neg hf];exact⟨rfl,fun h=>absurd h hf⟩
     ·rw[if_neg w1] at a1;rw[a1];simp only[finV];have hf:¬((zas w n t x&&zas w n t y)&&(decide (c+1+(x.size:Int)+y.size<=60)&&((linP w n t x&&linP w n t y)&&zds (zaG w n t x) (zaG w n t y))))=true:=fun h=>by
       simp only[xad,decide_eq_true_eq] at h;refine w1 ?_;simp only[zbV,xad,decide_eq_true_eq];exact⟨h.1.1,by omega,h.2.2.1.1⟩
      rw[if_neg hf];exact⟨rfl,fun h=>absurd h hf⟩
    ·rw[hk] at h2';simp at h2'
   ·have e0:(decide (p.op=5))=false:=decide_eq_false h5;rw[e0];obtain⟨a1,a2⟩:=zqq (fun t p c=>zfE w n t p c) (zag w t p) p.kids 0 (zaT t p) (c+1) h2'.2.symm (by omega);have e4:zaG w (n+1) t p=zaT t p++zbc (zaG w n) (zag w t p) p.kids:=by simp only[zaG,zdi,if_neg h5]
    have e5:zbV w (n+1) t p c=((all2 (zas w n) (zag w t p) p.kids&&(decide (c+1+(Pats.size p.kids:Int)<=60)&&all2 (linP w n) (zag w t p) p.kids))&&zcD (zaG w (n+1) t p)):=by
     have:decide (c+(p.size:Int)<=60)=decide (c+1+(Pats.size p.kids:Int)<=60):=decide_eq_decide.2 (by omega);simp only[zbV,zas,linP,h2'.1,if_neg h5,Bool.true_and,zpD,this,Bool.and_assoc]
    rw[e5];by_cases hw:(all2 (zas w n) (zag w t p) p.kids&&(decide (c+1+(Pats.size p.kids:Int)<=60)&&all2 (linP w n) (zag w t p) p.kids))=true
    ·rw[if_pos hw,<-e4] at a1;have a3:=a2 hw;rw[hw,Bool.true_and];unfold finV;rw[a1];by_cases hn:zcD (zaG w (n+1) t p)=true
     ·simp only[hn,if_true];exact⟨a1,fun _=>by rw[a3];omega⟩
     ·simp only[hn,Bool.false_eq_true,if_false];exact⟨trivial,fun h=>absurd h (by simp)⟩
    ·rw[if_neg hw] at a1;have hw':(all2 (zas w n) (zag w t p) p.kids&&(decide (c+1+(Pats.size p.kids:Int)<=60)&&all2 (linP w n) (zag w t p) p.kids))=false:=by simpa using hw
     rw[hw',Bool.false_and];unfold finV;rw[a1];simp[a1]
  ·have hf:¬zbV w (n+1) t p c=true:=fun h=>by
    simp only[zbV,zas,xad,decide_eq_true_eq] at h;refine h2 ?_;simp only[okP,xad,decide_eq_true_eq];refine⟨h.1.1, ?_⟩;by_cases hl:(zag w t p).length=p.kids.length
    ·exact hl.symm
    ·have:=zgO (f:=zas w n) hl;rw[this] at h;simp at h
   rw[if_neg h2,if_neg hf];exact⟨rfl,fun h=>absurd h hf⟩
mutual
def cntP (m:Int):Pat->Int
 | .mk _ _ _ _ _ ks=>zc7 m 1 ks
def zc7 (m n:Int):List Pat->Int
 | []=>n
 |k::r=>if n<=m then zc7 m (n+cntP (m-n) k) r else n
end
theorem zvD (m:Int) (v:Pat):cntP m v=zc7 m 1 v.kids:=by cases v;rfl
theorem zlU {m n:Int}{l:List Pat} (h:¬n<=m):zc7 m n l=n:=by cases l<;>simp[zc7,h]
mutual
theorem zki:∀(v:Pat) (m:Int),1<=cntP m v/\cntP m v<=v.size
 | .mk _ _ _ _ _ ks,m=>by
  have:=zkW ks m 1 (by omega);simp only[cntP,Pat.size];push_cast;omega
theorem zkW:∀(l:List Pat) (m n:Int),1<=n->1<=zc7 m n l/\zc7 m n l<=n+Pats.size l
 | [],m,n,h=>by simp[zc7,Pats.size];omega
 |k::r,m,n,h=>by
  have h1:=zki k (m-n);have h2:=zkW r m (n+cntP (m-n) k) (by omega);simp only[zc7,Pats.size];split
  ·push_cast;omega
  ·push_cast;omega
end
mutual
theorem zpz:∀(v:Pat) (m:Int),(cntP m v<=m↔(v.size:Int)<=m)/\(cntP m v<=m->cntP m v=v.size)
 | .mk _ _ _ _ _ ks,m=>by
  have:=zn1 ks m 1;simp only[cntP,Pat.size];push_cast;exact this
theorem zn1:∀(l:List Pat) (m n:Int),(zc7 m n l<=m↔n+(Pats.size l:Int)<=m)/\(zc7 m n l<=m->zc7 m n l=n+Pats.size l)
 | [],m,n=>by simp[zc7,Pats.size]
 |k::r,m,n=>by
  have h1:=zpz k (m-n);have h2:=zn1 r m (n+cntP (m-n) k);have h3:=zkW r m (n+cntP (m-n) k);have h4:=zki k (m-n);simp only[zc7,Pats.size];push_cast
  by_cases hn:n<=m
  ·rw[if_pos hn];by_cases h5:cntP (m-n) k<=m-n
   ·have h6:=h1.2 h5;rw[h6] at h2 ⊢;constructor
    ·rw[h2.1];constructor<;>intro h<;>omega
    ·intro h;rw[h2.2 h];omega
   ·have h7:¬(k.size:Int)<=m-n:=fun h=>h5 (h1.1.2 h);have h8:¬n+cntP (m-n) k<=m:=by omega
    rw[zlU h8];constructor
    ·constructor<;>intro h<;>omega
    ·intro h;omega
  ·rw[if_neg hn];constructor
   ·constructor<;>intro h<;>omega
   ·intro h;omega
end
theorem Pats.size_split {pre rest l:List Pat}{y:Pat} (h:pre++y::rest=l):Pats.size l=Pats.size pre+y.size+Pats.size rest:=by
 subst h;induction pre with
 |nil=>simp[Pats.size]
 |cons x r ih=>simp only[xag,Pats.size,ih];omega
theorem zeX {l:List Pat}{i:Nat} (h:i<l.length):(nth l i).size<=Pats.size l:=Pats.size_mem (zac h)
theorem zmK {l:List Pat}{i:Nat} (h:i<l.length):Pats.size (l.drop i)=(nth l i).size+Pats.size (l.drop (i+1)):=by
 rw[zaS h];rfl
theorem zfl:∀(n:Nat){v:Pat}{m:Int},v.size<=n->v.size<=1000000000000->v.ok->0<=m->m<=1000000000000->FnD Tryz.prog 297 [.agg [.d (.i v.op),.d (.i v.ctor),.d (.i v.n),.d (.i v.m),.d (.i v.var),.d (zad v.kids)],.d (.i m)] [] (.d (.i (cntP m v))) []
 |0,v,m,h,_,_,_,_=>by rw[Pat.size_eq] at h;omega
 |n+1,v,m,h,hb,hok,m0,m1=>by
  rw[Pat.size_eq] at h hb;rw[Pat.ok_iff] at hok;rw[zvD];refine bd Tryz.f297 31 [] [] fun w0 F0 own kept hk=>?_;refine bx 3002 ?_;refine ev ?_;refine xak (ι:=Nat×Int) hk (fun x=>[(6,.d (.i (x.1:Int))),(5,.d (.i x.2))]) [7,8,9,10,11,12,13,14,15,16,17,18,19,20,21,22,23,24,25,26,27,28,29] (fun x=>[]) (fun x=>x.1<=v.kids.length/\zc7 m x.2 (v.kids.drop x.1)=zc7 m 1 v.kids/\1<=x.2/\x.2+Pats.size (v.kids.drop x.1)<=1+Pats.size v.kids) (fun x=>v.kids.length-x.1) (0,1) ⟨by simp,by simp,by simp,by simp⟩ ⟨⟨_,rfl,xaq ?_⟩,⟨⟨_,rfl,xaq ?_⟩,trivial⟩⟩ trivial (fun x=>rfl) (fun x hg1=>?_);iterate 2 focus (rfl)
  refine evc [] [] ?_;refine sq ?_ ?_<;>intro h1 h1p h1s<;>(try simp only[Q,Pat.cs_len] at h1p);refine sq ?_ ?_<;>intro h2 h2p h2s<;>(try simp only[Q,Pat.cs_len] at h2p);refine xaS sl34 .none rfl rfl rfl rfl (zaH (by omega)) rfl ?_;refine ev ?_;refine ar ?_ (by(constructor<;>omega));refine wc zpt (zfl n (v:=nth v.kids x.1) (by have:=zeX (l:=v.kids) (i:=x.1) (by omega);omega) (by have:=zeX (l:=v.kids) (i:=x.1) (by omega);omega) (Pats.ok_mem hok.2 _ (zac (by omega))) (by omega) (by omega)) rfl rfl ?_;refine ev ?_;refine ar ?_ (by(have hz:=zki (nth v.kids x.1) (m-x.2);have hs:=zmK (l:=v.kids) (i:=x.1) (by omega);constructor<;>omega));refine ar ?_ (by(constructor<;>omega));refine xah ((x.1+1,x.2+cntP (m-x.2) (nth v.kids x.1))) ⟨(by
      have hz:=zki (nth v.kids x.1) (m-x.2);have hs:=zmK (l:=v.kids) (i:=x.1) (by omega);refine⟨by dsimp only;omega, ?_,by dsimp only;omega,by dsimp only;omega⟩;rw[<-hg1.2.1,zaS (l:=v.kids) (i:=x.1) (by omega),zc7,if_pos (by omega)]),(by dsimp only;omega),sx ⟨⟨_,rfl,xaq ?_⟩,⟨⟨_,rfl,xaq ?_⟩,trivial⟩⟩ trivial⟩
  iterate 2 focus (rfl)
  refine rq ?_;rotate_left;refine sqF ?_;refine rq ?_;rotate_left;all_goals (refine congrArg D.i ?_;rw[<-hg1.2.1];first|(rw[List.drop_eq_nil_of_le (by omega)];rfl)|(rw[zlU (by omega)]))
end Go.Proofs.YtlfipehhbdjnjaaGreat
