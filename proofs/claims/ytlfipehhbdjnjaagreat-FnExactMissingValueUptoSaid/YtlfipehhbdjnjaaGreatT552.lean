/-
  THE ABSTRACT WALK AND THE WALKS, part 2 of 6: the parts AmU, AmV, AmW, AmX, AmY, AmZ, Ev, AmFacts, Enc, Mdl, F1, F18, F2, F3.
-/
import Derived.Test.YtlfipehhbdjnjaaGreatT551
namespace Go.Proofs.YtlfipehhbdjnjaaGreat
open Go
set_option linter.unusedSimpArgs false
set_option linter.unusedVariables false
section
variable {c:Ctx}
theorem RelA.gv_inv {G:Gh}{T:TokF}{w:World}{id:Nat}{xs:List (List D)}{v:Value} (h:RelA G T w (.gv id xs) v):
  (∃a cap,v = .slice a xs.length cap)/\∀n k,T id=some (n,k)->xs.length<=n/\(n=xs.length->(∀x,x∈xs->x.length=k)/\TipV G w id n k v xs):=by
 cases h with|gv hv ht=>exact⟨hv,ht⟩
theorem zdY {hp:Hp}{id n n' k:Nat} (h:getH hp id=some (.tok n' k)) (e:n'=n):getH hp id=some (.tok n k):=e ▸ h
theorem LeA.gvg {id:Nat}{xs ys:List (List D)} (h:xs=ys):LeA (.gv id xs) (.gv id ys):=h ▸ .refl _
theorem zro {F:Nat->Nat}{w:World}{xs ys:List (List D)}{k:Nat}{us:Array Value} 
  (hx:∀i (hi:i<xs.length) j (hj:j<xs[i].length),RelD F w xs[i][j] (us.getD (i*k+j) undef))
  (hy:∀i (hi:i<ys.length) j (hj:j<ys[i].length),RelD F w ys[i][j] (us.getD ((xs.length+i)*k+j) undef)):
  ∀i (hi:i<(xs++ys).length) j (hj:j<(xs++ys)[i].length),RelD F w (xs++ys)[i][j] (us.getD (i*k+j) undef):=by
 intro i hi j hj;by_cases h:i<xs.length
 ·have e2:(xs++ys)[i]=xs[i]:=List.getElem_append_left h;have:=hx i h j (by rw[<-e2];exact hj);simpa only[e2] using this
 ·have h2:i-xs.length<ys.length:=by simp only[xaa] at hi;omega
  have e2:(xs++ys)[i]=ys[i-xs.length]:=List.getElem_append_right (by omega);have e3:xs.length+(i-xs.length)=i:=by omega
  have:=hy (i-xs.length) h2 j (by rw[<-e2];exact hj);simp only[e3] at this;simpa only[e2] using this
theorem zjX {t:TypeId}{G:Gh}{s:St}{a:Act}{w:World} (hr:R c G s a w){id k e yb:Nat}{xs ys:List (List D)}{v u:Value} (ht:SlT c.P t e k yb){z:Value} (hz:∃i,c.P.info? e=some i/\i.zero=some z/\z.cells.size=k)
  (htok:getH s.hp id=some (.tok xs.length k)) (hv:RelA G (tokf s.hp) w (.gv id xs) v) (hu:RelD G.F w (.sl ys) u) (hky:∀y,y∈ys->y.length=k)
  (hb:(xs.length+ys.length)*yb<=140737488355328) (hm:xs.length+ys.length<=9223372036854775807) (opt:TypeId):
  ∃v' w' G',(Builtin.append_ #[t,t] opt #[v,u]).run c.P w = .ok v' w'/\
   R c G' { s with hp:=(id,some (.tok (xs.length+ys.length) k))::s.hp } a w'/\
   RelA G' (tokf ((id,some (.tok (xs.length+ys.length) k))::s.hp)) w' (.gv id (xs++ys)) v':=by
 obtain⟨i,hi1,hi2,hi3⟩:=ht.inf;obtain⟨i',z1,z2,z3⟩:=hz;rw[hi1] at z1;cases z1
 obtain⟨⟨base,cap0,hv0⟩,hcl⟩:=hv.gv_inv;have hT:tokf s.hp id=some (xs.length,k):=zav.2 htok;obtain⟨hkx,htip⟩:=(hcl _ _ hT).2 rfl;have hT':tokf ((id,some (.tok (xs.length+ys.length) k))::s.hp) id=some (xs.length+ys.length,k):=zav.2 (by rw[zan,if_pos rfl]);have hle:∃base cap,v = .slice base xs.length cap/\xs.length<=cap:=by
  rcases htip with ⟨h1,h2,h3⟩|⟨b,cap,cs,et,h1,h2,h3,h4,h5,h6,h7⟩
  ·exact⟨none,0,by rw[h2];exact h3,by omega⟩
  ·exact⟨_,cap,h2,h6⟩
 by_cases hm0:ys=[]
 ·subst hm0;obtain⟨base,cap,rfl,hle⟩:=hle;obtain⟨oa,oc,rfl⟩:∃oa oc,u = .slice oa 0 oc:=by obtain⟨oa,oc,h⟩:=hu.sl_len;exact⟨oa,oc,h⟩
  refine⟨_,w,G,zfD t opt e i ht.und hi1 base xs.length cap hle oa oc,hr.same htok, ?_⟩;show RelA G (tokf ((id,some (.tok xs.length k))::s.hp)) w (.gv id (xs++[])) _
  rw[zig htok,List.append_nil];exact hv
 obtain⟨oa0,cap0',_,h0,_⟩|⟨b2,off2,cap2,news,rfl,hcap2,hnl,hnc,hn1,hnr⟩:=hu.sl_cells hky
 ·exact absurd h0 hm0
 have hmpos:0<ys.length:=List.length_pos_iff.2 hm0;have hnews:∀j u,news[j]?=some u->w.cell? ((⟨b2,off2,none⟩:Addr).add j)=some u:=fun j u hj=>by rw[zcw];exact(hnc j u hj).2
 have hnl':news.length=ys.length*i.size:=by rw[hi2];exact hnl
 have hky':∀e,e∈xs++ys->e.length=k:=fun e he=>by
  rcases List.mem_append.1 he with h|h
  ·exact hkx e h
  ·exact hky e h
 have hlt:∀b o,o<G.F b->b<w.heap.size:=fun b o ho=>by
  rcases Nat.lt_or_ge b w.heap.size with h|h
  ·exact h
  ·rw[hr.top b h] at ho;omega

 have atNew:∀(olds:List Value),olds.length=xs.length*k->∀(tail:List Value) (F':Nat->Nat) (w':World),(∀x v,RelD G.F w x v->RelD F' w' x v)->
   (∀i (hi:i<xs.length) j (hj:j<xs[i].length),RelD G.F w xs[i][j] (olds.getD (i*k+j) undef))->
   ∀i (hi:i<(xs++ys).length) j (hj:j<(xs++ys)[i].length),RelD F' w' (xs++ys)[i][j] ((olds++news++tail).toArray.getD (i*k+j) undef):=by
  intro olds hol tail F' w' hmo hold;refine zro (fun i hi j hj=>?_) (fun i hi j hj=>?_)
  ·have hlt':i*k+j<olds.length:=by
    have h1:xs[i].length=k:=hkx _ (List.getElem_mem hi);have:(i+1)*k<=xs.length*k:=Nat.mul_le_mul_right _ (by omega);rw[Nat.add_mul] at this;omega
   have e1:(olds++news++tail).toArray.getD (i*k+j) undef=olds.getD (i*k+j) undef:=by
    simp[List.getD,List.append_assoc,List.getElem?_append_left hlt']
   rw[e1];exact hmo _ _ (hold i hi j hj)
  ·have h1:ys[i].length=k:=hky _ (List.getElem_mem hi);have hlt':i*k+j<news.length:=by
    have:(i+1)*k<=ys.length*k:=Nat.mul_le_mul_right _ (by omega);rw[Nat.add_mul] at this;omega
   have e0:(xs.length+i)*k+j=olds.length+(i*k+j):=by rw[hol,Nat.add_mul];omega
   have e1:(olds++news++tail).toArray.getD ((xs.length+i)*k+j) undef=news[i*k+j]:=by
    rw[e0];simp[List.getD,List.append_assoc,List.getElem?_append_right,List.getElem?_append_left hlt',hlt']
   rw[e1];exact hmo _ _ (hnr i hi j hj hlt')
 have fresh:∀(olds:List Value) (nc:Nat),olds.length=xs.length*k->xs.length+ys.length<=nc->
   (∀i (hi:i<xs.length) j (hj:j<xs[i].length),RelD G.F w xs[i][j] (olds.getD (i*k+j) undef))->
   ∃G',R c G' { s with hp:=(id,some (.tok (xs.length+ys.length) k))::s.hp } a (w.drew.alloc (.cells (olds.toArray++news.toArray++Builtin.zeroCells z.cells (nc-(xs.length+ys.length))) e))/\
    RelA G' (tokf ((id,some (.tok (xs.length+ys.length) k))::s.hp)) (w.drew.alloc (.cells (olds.toArray++news.toArray++Builtin.zeroCells z.cells (nc-(xs.length+ys.length))) e))
     (.gv id (xs++ys)) (.slice (some ⟨w.heap.size,0,none⟩) (xs.length+ys.length) nc):=by
  intro olds nc hol hnc' hold;let cells:Array Value:=olds.toArray++news.toArray++Builtin.zeroCells z.cells (nc-(xs.length+ys.length))
  let G':Gh:={ F:=G.F,loc:=fun j=>bif Nat.beq j id then [w.heap.size] else G.loc j }
  have hcs:cells.size=nc*k:=by
   simp only[cells,Array.size_append,List.size_toArray,size_zeroCells,z3,hol,hnl,<-Nat.add_mul];congr 1;omega
  have hcell:∀b o,o<G.F b->o<G'.F b/\(w.drew.alloc (.cells cells e)).cell? ⟨b,o,none⟩=w.cell? ⟨b,o,none⟩:=fun b o ho=>by
   have hb:=hlt b o ho;exact⟨ho,by rw[World.cell?_alloc_lt w.drew _ _ hb];rfl⟩
  have hlocne:∀j,j≠id->G'.loc j=G.loc j:=fun j hj=>by
   have:Nat.beq j id=false:=by
    cases h:Nat.beq j id with
    |true=>exact absurd (Nat.eq_of_beq_eq_true h) hj
    |false=>rfl
   simp[G',this]
  have hlocid:G'.loc id=[w.heap.size]:=by simp[G']
  refine⟨G',hr.retok (G':=G') htok (by omega) hcell hlocne (fun b hb _=>⟨zdl (w:=w.drew) hb,rfl⟩) (fun b hb=>by rw[hlocid] at hb;simp at hb;subst hb;simp)
   (fun b hb=>by rw[hlocid] at hb;simp at hb;exact .inr (by omega)) rfl rfl rfl (by simp) (fun b hb=>?_), ?_⟩
  ·have hb':w.heap.size+1<=b:=by simpa using hb
   exact hr.top b (by omega)
  refine .gv ⟨_,_,by rw[xaa]⟩ (fun n' k' hm'=>?_);rw[hT'] at hm';cases hm'
  refine⟨by simp,fun _=>⟨hky',.inr ⟨w.heap.size,nc,cells,e,hlocid,rfl,hr.top _ (Nat.le_refl _),zd7 (w:=w.drew),by rw[hcs];exact Nat.le_refl _,hnc', ?_⟩⟩⟩;have:=atNew olds hol (Builtin.zeroCells z.cells (nc-(xs.length+ys.length))).toList G.F (w.drew.alloc (.cells cells e)) (fun x v h=>h.mono hcell) hold;have ec:cells=(olds++news++(Builtin.zeroCells z.cells (nc-(xs.length+ys.length))).toList).toArray:=by
   apply Array.ext';simp[cells]
  intro i hi j hj;rw[ec];exact this i hi j hj
 rcases htip with ⟨h1,h2,h3⟩|⟨b,cap,cs,et,h1,h2,h3,h4,h5,h6,h7⟩
 ·
  have hx0:xs=[]:=List.eq_nil_of_length_eq_zero h2;subst hx0;subst h3;simp only[xai,Nat.zero_add] at hb hm fresh ⊢;have hrun:=run_append_nil (P:=c.P) w t opt e i z ht.und hi1 z2 ⟨b2,off2,none⟩ ys.length cap2 news hnl' hnews hmpos (by omega) (by rw[hi3];omega);obtain⟨G',hR,hA⟩:=fresh [] (grownCap w ys.length 0 e) (by simp) (by
   have:=grownCap_ge w ys.length 0 e;omega) (fun j hj=>by simp at hj)
  simp only[List.nil_append,Array.empty_append] at hR hA hrun ⊢;exact⟨_,_,G',hrun,hR,hA⟩
 ·subst h2;have hmul:xs.length*k<=cs.size:=Nat.le_trans (Nat.mul_le_mul_right _ h6) h5;have hold:∀i (hi:i<xs.length) j (hj:j<xs[i].length),RelD G.F w xs[i][j] ((cs.toList.take (xs.length*k)).getD (i*k+j) undef):=fun i hi j hj=>by
   have h8:xs[i].length=k:=hkx _ (List.getElem_mem hi);have hlt':i*k+j<xs.length*k:=by
    have:(i+1)*k<=xs.length*k:=Nat.mul_le_mul_right _ (by omega);rw[Nat.add_mul] at this;omega
   have:=h7 i hi j hj;have e1:(cs.toList.take (xs.length*k)).getD (i*k+j) undef=cs.getD (i*k+j) undef:=by
    have hs:i*k+j<cs.size:=by omega
    simp[List.getD,List.getElem?_take,hlt',Array.getD,hs]
   rw[e1];exact this
  by_cases hroom:xs.length+ys.length<=cap
  ·
   have hfit:xs.length*i.size+news.length<=cs.size:=by
    rw[hi2,hnl,<-Nat.add_mul];exact Nat.le_trans (Nat.mul_le_mul_right _ hroom) h5
   have hrun:=ze1 (P:=c.P) t opt e i ht.und hi1 b xs.length cap cs et h4 ⟨b2,off2,none⟩ ys.length cap2 news hnl' hnews hn1 hroom hfit;rw[hi2] at hrun hfit;let row:Array Value:=(cs.toList.take (xs.length*k)++news++cs.toList.drop (xs.length*k+news.length)).toArray
   have hrs:row.size=cs.size:=by
    simp only[row,List.size_toArray,xaa,List.length_take,List.length_drop,Array.length_toList];omega
   have hcell:∀b' o,o<G.F b'->o<G.F b'/\(w.setRow b row).cell? ⟨b',o,none⟩=w.cell? ⟨b',o,none⟩:=fun b' o ho=>by
    have hbb:b'≠b:=fun e=>by subst e;omega
    exact⟨ho,cell_setRow_other w b row _ hbb⟩
   have hbs:b<w.heap.size:=by
    rcases Nat.lt_or_ge b w.heap.size with h|h
    ·exact h
    ·rw[Array.getElem?_eq_none h] at h4;cases h4
   refine⟨_,_,G,hrun,hr.retok (G':=G) htok (by omega) hcell (fun _ _=>rfl) (fun b' hb' hn=>?_) (fun x hx=>by rw[h1] at hx;simp at hx;subst hx;simpa using hbs) (fun b' hb'=> .inl hb') rfl rfl rfl (by simp) (fun b' hb'=>?_), ?_⟩
   ·have hne:b'≠b:=fun e=>hn (by rw[h1,e];simp);exact⟨setRow_other w b b' row hne,rfl⟩
   ·have hb2':w.heap.size<=b':=by simpa using hb'
    exact hr.top b' hb2'
   ·refine .gv ⟨_,_,by rw[xaa]⟩ (fun n' k' hm'=>?_);rw[hT'] at hm';cases hm'
    refine⟨by simp,fun _=>⟨hky',.inr ⟨b,cap,row,et,h1,rfl,h3,setRow_heap w b cs row et _ h4,by rw[hrs];exact h5,hroom, ?_⟩⟩⟩;exact atNew (cs.toList.take (xs.length*k)) (by simp;omega) _ G.F (w.setRow b row) (fun x v h=>h.mono hcell) hold
  ·
   have hrun:=run_append_grow (P:=c.P) w t opt e i z ht.und hi1 z2 ⟨b,0,none⟩ xs.length cap (cs.toList.take (xs.length*k)) (by rw[hi2];simp;omega)
    (fun j u hj=>by
     rw[zcw];obtain⟨hj1,hj2⟩:=List.getElem?_eq_some_iff.1 hj;simp only[List.getElem_take] at hj2;have hjs:j<cs.size:=by simp at hj1;omega
     simp only[World.cell?,h4,Option.isSome_none,Bool.false_eq_true,if_false,Nat.zero_add];rw[Array.getElem?_eq_getElem hjs,<-hj2];simp) ⟨b2,off2,none⟩ ys.length cap2 news hnl' hnews (by omega) (by omega) (by rw[hi3];exact growslice_fits (by omega) hb)
   obtain⟨G',hR,hA⟩:=fresh (cs.toList.take (xs.length*k)) (grownCap w (xs.length+ys.length) cap e) (by simp;omega) (by have:=grownCap_ge w (xs.length+ys.length) cap e;omega) hold;exact⟨_,_,G',hrun,hR,hA⟩
theorem R.mkTokV {G:Gh}{s:St}{a:Act}{w:World} (hr:R c G s a w){id:Nat} (k:Nat) (h0:getH s.hp id=none) (hocc:zcU id s):
  ∃G',R c G' { s with hp:=(id,some (.tok 0 k))::s.hp } a w/\RelA G' (tokf ((id,some (.tok 0 k))::s.hp)) w (.gv id []) (.slice none 0 0):=by
 have h1:=hr.rename h0 hocc [];have hl:(fun i=>bif Nat.beq i id then ([]:List Nat) else G.loc i) id=[]:=by simp
 refine⟨_,h1.name h0 hocc (fun b hb=>by simp at hb) (fun i _ b _ hb=>by simp at hb) (fun b hb=>by simp at hb), ?_⟩;refine .gv ⟨none,0,rfl⟩ (fun n k' hT=>?_);have:=zav.1 hT;rw[zan,if_pos rfl] at this;cases this
 exact⟨Nat.le_refl _,fun _=>⟨by simp,.inl ⟨hl,rfl,rfl⟩⟩⟩
theorem zou {xs:List (List D)}{k:Nat} (hk:∀x,x∈xs->x.length=k){i:Nat} (hi:i<xs.length){j:Nat} (hj:j<k):(xs.flatten.map AV.d)[i*k+j]?=some (.d (xs[i][j]'(by rw[hk _ (List.getElem_mem hi)];exact hj))):=by
 have:=zqf hk i hi j hj;rw[List.getElem?_map,this,List.getElem?_eq_getElem (by rw[hk _ (List.getElem_mem hi)];exact hj)];rfl
theorem Rel.fixV {env:Env}{hp:Hp}{ids:List Nat} (hkp:KeptIn c.kept ids) (t id k:Nat){xs:List (List D)} (ht:getE env t=some (.gv id xs)) (hb:getH hp id=some (.tok xs.length k)) (hid:zaZ id ids=false){a:Act}{w:World} (hrel:Rel c ⟨env,hp⟩ a w):
  (xs=[]/\Rel c ⟨(t,.d (.sl []))::env,(id,none)::hp⟩ a w)\/(xs≠[]/\Rel c ⟨(t,.ms id xs.length)::env,(id,some (.box (xs.flatten.map .d)))::hp⟩ a w):=by
 obtain⟨G,hr⟩:=hrel;have hT:tokf hp id=some (xs.length,k):=zav.2 hb;have hsl:=hr.slots t _ ht;obtain⟨⟨ad,cap0,hv0⟩,hcl⟩:=hsl.gv_inv;obtain⟨hkx,htip⟩:=(hcl _ _ hT).2 rfl;have hkne:∀i l,c.kept i=some l->i≠id:=fun i l hk e=>by
  subst e;have:=zaP.2 (hkp.mem i l hk);rw[this] at hid;cases hid

 have hm:∀(r:Option Res),(∀n k,r≠some (.tok n k))->∀ {x:AV}{v:Value},RelA G (tokf hp) w x v->(r.isSome->id∉x.ids->True)->RelA G (tokf ((id,r)::hp)) w x v:=by
  intro r hnr x v hx _;refine hx.mono (fun _ _ ho=>⟨ho,rfl⟩) (fun _ _=> .inl rfl) (fun i _ p hp'=>?_);obtain⟨n,q⟩:=p;have:=zav.1 hp';rw[zan] at this;split at this
  ·exact absurd this (hnr n q)
  ·exact⟨zav.2 this,fun _ _=>⟨rfl,rfl⟩⟩
 have base:∀(r:Option Res) (v:AV),(∀n k,r≠some (.tok n k))->RelA G (tokf ((id,r)::hp)) w v (a.tmps.getD t undef)->(∀x,r=some x->RelR G (tokf ((id,r)::hp)) w id x)->
   Rel c ⟨(t,v)::env,(id,r)::hp⟩ a w:=by
  intro r v hnr hv hrr;have hsome:∀i,(getH ((id,r)::hp) i).isSome->(getH hp i).isSome:=fun i hi=>by
   rw[zan] at hi;split at hi
   ·rename_i e;subst e;rw[hb];rfl
   ·exact hi
  refine⟨G,hr.size,hr.defers,fun i x hi=>?_,fun i x hi=>?_,fun i j q1 q2=>hr.disj i j (hsome i q1) (hsome j q2),fun i q1=>hr.new i (hsome i q1),hr.frm,hr.top,fun i l hk=>?_⟩
  ·simp only[getE] at hi;cases hti:Nat.beq t i with
   |true=>
    have:=Nat.eq_of_beq_eq_true hti;subst this;simp only[hti,cond_true,Option.some.injEq] at hi;subst hi;exact hv
   |false=>
    simp only[hti,cond_false] at hi;exact hm r hnr (hr.slots i x hi) (fun _ _=>trivial)
  ·have hi':getH ((id,r)::hp) i=some x:=hi;rw[zan] at hi';split at hi'
   ·rename_i e;subst e;exact hrr x hi'
   ·have hh:=hr.heap i x hi';cases x with
    |box cs2=>
     obtain⟨b2,vs2,e2,q1,q2,q3,q4,q5⟩:=hh;exact⟨b2,vs2,e2,q1,q2,q3,q4,fun j hj hv=>hm r hnr (q5 j hj hv) (fun _ _=>trivial)⟩
    |tok m q=>exact hh
    |map ks=>exact hh
    |tree cs2=>exact zbv hh rfl (fun _ _=>⟨rfl,rfl⟩) (Nat.le_refl _) (fun _ _ _ h=>hm r hnr h (fun _ _=>trivial))
  ·have hk':=hr.kept i l hk;have hne:=hkne i l hk;show(G.loc i).head?=l.head?/\(getH ((id,r)::hp) i).isSome/\tokf ((id,r)::hp) i=none
   have hg:getH ((id,r)::hp) i=getH hp i:=by rw[zan,if_neg hne]
   refine⟨hk'.1,by rw[hg];exact hk'.2.1, ?_⟩;have h2:=hk'.2.2;unfold tokf at h2 ⊢;rw[hg];exact h2
 by_cases hx0:xs=[]
 ·refine .inl ⟨hx0,base none _ (fun _ _=>by simp) ?_ (fun x h=>by cases h)⟩;subst hx0;rw[hv0];cases ad with
  |none=>
   rcases htip with ⟨h1,h2,h3⟩|⟨b,cap,cs,et,h1,h2,_⟩
   ·rw[hv0] at h3;rw[h3];exact .d .nil
   ·rw[hv0] at h2;cases h2
  |some ad=>
   obtain⟨b,o,sp⟩:=ad;cases sp with
   |none=>exact .d (.sl [] 0 b o cap0 (fun _=>undef) (by simp) (by simp) (fun n hn=>by simp at hn) (fun i hi=>by simp at hi))
   |some s=>exact .d (.emp b o s cap0)
 ·rcases htip with ⟨h1,h2,h3⟩|⟨b,cap,cs,et,h1,h2,h3,h4,h5,h6,h7⟩
  ·exact absurd (List.eq_nil_of_length_eq_zero h2) hx0
  ·have hnt:tokf ((id,some (Res.box (xs.flatten.map .d)))::hp) id=none:=by
    unfold tokf;rw[zan,if_pos rfl]
   refine .inr ⟨hx0,base (some (.box (xs.flatten.map .d))) _ (fun _ _=>by simp) ?_ (fun x h=>?_)⟩
   ·have hv1:a.tmps.getD t undef = .slice (some ⟨b,0,none⟩) xs.length cap:=h2;rw[hv1];exact .ms (zji h1) hnt h6
   ·cases h
    refine⟨b,cs,et,h1,h4, ?_,h3,fun i hi hv=>?_⟩
    ·rw[xac,zi5 hkx];exact Nat.le_trans (Nat.mul_le_mul_right _ h6) h5
    ·have hi':i<xs.length*k:=by rw[xac,zi5 hkx] at hi;exact hi
     have hkpos:0<k:=by
      rcases Nat.eq_zero_or_pos k with h|h
      ·subst h;simp at hi'
      ·exact h
     have hq:i / k<xs.length:=Nat.div_lt_of_lt_mul (by rw[Nat.mul_comm];exact hi');have hrm:i % k<k:=Nat.mod_lt _ hkpos;have e1:=zou hkx hq hrm;rw[Nat.div_add_mod'] at e1;rw[List.getElem?_eq_getElem hi] at e1;rw[Option.some.inj e1];have h8:=h7 (i / k) hq (i % k) (by rw[hkx _ (List.getElem_mem hq)];exact hrm);rw[Nat.div_add_mod'] at h8;have e2:cs.getD i undef=cs[i]:=by simp[Array.getD,hv]
     rw[e2] at h8;exact .d h8
theorem CWp.fixV {env:Env}{hp:Hp}{K:Kt}{code:Code}{ids:List Nat} (hkp:KeptIn c.kept ids) (t id k:Nat){xs:List (List D)} (ht:getE env t=some (.gv id xs)) (hb:getH hp id=some (.tok xs.length k)) (hid:zaZ id ids=false)
  (h0:xs=[]->CWp c code ⟨(t,.d (.sl []))::env,(id,none)::hp⟩ K)
  (hn:xs≠[]->CWp c code ⟨(t,.ms id xs.length)::env,(id,some (.box (xs.flatten.map .d)))::hp⟩ K):CWp c code ⟨env,hp⟩ K:=by
 intro a w hrel;rcases Rel.fixV hkp t id k ht hb hid hrel with ⟨h,hr⟩|⟨h,hr⟩
 ·exact h0 h a w hr
 ·exact hn h a w hr
end
section
variable {c:Ctx}{all:Array Oper}{chk:List Rec->Prop}{os:List Oper}{recs:List Rec}{env:Env}{hp:Hp}{Q:St->Prop}
variable {d ty:Nat}{pos:String}{af:Array Edge}{g:Option (Nat×Bool)}{pg:List (Nat×AV)}
variable {t yt:TypeId}{x y:Operand}
theorem xaE {id k e yb:Nat}{xs ys:List (List D)}{vy:AV} (ht:SlT c.P t e k yb) (hz:ZeroT c.P e k) (hg:GH all env g pg) (hd:Nat.blt d c.n=true)
  (hx:opd env x=some (.gv id xs)) (hy:opd env y=some vy) (hyd:vy.toD=some (.sl ys)) (htok:getH hp id=some (.tok xs.length k)) (hky:∀y,y∈ys->y.length=k)
  (hb:(xs.length+ys.length)*yb<=140737488355328) (hm:xs.length+ys.length<=9223372036854775807)
  (hn:Walk c all chk os (zat (pg++(opF x (.gv id xs)++opF y vy)) [(id,.tok xs.length k)] [] ⟨some (d,.gv id (xs++ys)),[(id,some (.tok (xs.length+ys.length) k))]⟩::recs)
   ⟨(d,.gv id (xs++ys))::env,(id,some (.tok (xs.length+ys.length) k))::hp⟩ Q):
  Walk c all chk (⟨some d,.call ⟨.builtin .append,#[x,y],#[t,t]⟩,ty,pos,af,g⟩::os) recs ⟨env,hp⟩ Q:=by
 refine⟨pg++(opF x (.gv id xs)++opF y vy),[(id,.tok xs.length k)],[],_, ?_,zaD hg.facts (zaD (za2 hx) (za2 hy)),hh1 htok,by simp,hn⟩;intro s a w hrel hp' hh _ K Q' hK;obtain⟨G,hr⟩:=hrel;have e1:=hr.opd (za3 hx (fun p hm=>hp' p (by simp[hm])));have e2:=hr.opd (za3 hy (fun p hm=>hp' p (by simp[hm])));obtain⟨i,z,z1,z2,z3⟩:=hz.out;obtain⟨v',w',G',hrun,hR,hA⟩:=zjX hr ht ⟨i,z1,z2,z3⟩ (hh1' hh) e1 (e2.toD hyd) hky hb hm ty;unfold wpO;rw[if_pos (hg.gf.wanted hr (fun p hm=>hp' p (by simp[hm])))];unfold Oper.wp;have:(execOp a.eval ⟨some d,.call ⟨.builtin .append,#[x,y],#[t,t]⟩,ty,pos,af,g⟩).run c.P w = .ok (.value v') w':=by
  simp only[execOp,resolve,invoke,builtin,Sem.run_bind,Sem.run_pure,Result.andThen_ok,List.map_toArray,xae,List.map_nil,hrun]
 rw[this,Oper.upon_value];exact hK _ _ ⟨G',hR.put hA hd⟩
theorem Walk.lenV {xs:List (List D)}{at_ e k yb id:Nat} (ht:SlT c.P at_ e k yb) (hg:GH all env g pg) (hd:Nat.blt d c.n=true) (hx:opd env x=some (.gv id xs))
  (hn:Walk c all chk os (zat (pg++opF x (.gv id xs)) [] [] ⟨some (d,.d (.i xs.length)),[]⟩::recs) ⟨(d,.d (.i xs.length))::env,hp⟩ Q):
  Walk c all chk (⟨some d,.call ⟨.builtin .len,#[x],#[at_]⟩,ty,pos,af,g⟩::os) recs ⟨env,hp⟩ Q:=
 xa7 hg hd hx (fun a G T w h=>⟨.int .i64 xs.length,by
  obtain⟨⟨ad,cap,he⟩,_⟩:=h.gv_inv;simp[execOp,resolve,invoke,builtin,he,zfF ht],.d (.int _ _)⟩) hn
theorem Walk.mkRowGV {op:Op}{xs:List Operand}{vs:List AV}{es:List (List D)}{k:Nat} (id:Nat) (hg:GH all env g pg) (hd:Nat.blt d c.n=true) (hx:opdL env xs=some vs) (hk:∀e,e∈es->e.length=k)
  (hf:zak env hp [id]=true)
  (h:∀(a:Act) (G:Gh) (T:TokF) (w:World),(vs.length=xs.length/\∀i (hi:i<vs.length) (hx:i<xs.length),RelA G T w vs[i] (a.eval xs[i]))->
   ∃us e,(execOp a.eval ⟨some d,op,ty,pos,af,g⟩).run c.P w = .ok (.value (.slice (some ⟨w.heap.size,0,none⟩) es.length es.length)) (w.alloc (.cells us e))/\us.size=es.length*k/\
    ∀i (hi:i<es.length) j (hj:j<es[i].length) (hu:i*k+j<us.size),RelD G.F w es[i][j] us[i*k+j])
  (hn:Walk c all chk os (zat (pg++opFL xs vs) [] [id] ⟨some (d,.gv id es),[(id,some (.tok es.length k))]⟩::recs) ⟨(d,.gv id es)::env,(id,some (.tok es.length k))::hp⟩ Q):
  Walk c all chk (⟨some d,op,ty,pos,af,g⟩::os) recs ⟨env,hp⟩ Q:=by
 refine⟨pg++opFL xs vs,[],[id],_, ?_,zaD hg.facts (zcE hx),by simp,zbD hf,hn⟩;intro s a w hrel hp' hh hcr K Q' hK;obtain⟨G,hr⟩:=hrel;obtain⟨h0,hocc⟩:=hcr id (by simp);obtain⟨us,e,e1,e2,e3⟩:=h a G (tokf s.hp) w (zdo hr (zcF hx (fun p hm=>hp' p (by simp[hm]))));have hr':=(hr.alloc (.cells us e) 0).rename h0 hocc [w.heap.size];have hloc:∀i,i≠id->(bif Nat.beq i id then [w.heap.size] else G.loc i)=G.loc i:=fun i h=>by
  cases hb:Nat.beq i id with
  |true=>exact absurd (Nat.eq_of_beq_eq_true hb) h
  |false=>rfl
 have hR:=hr'.name (r:= .tok es.length k) h0 hocc (fun b hb=>by simp at hb;subst hb;simp) (fun i hi b hb=>by
  have hi':i≠id:=fun e=>by subst e;rw[h0] at hi;cases hi
  have hb':b∈G.loc i:=by have:=hloc i hi';simp only[this] at hb;exact hb
  obtain⟨r,hrr⟩:=Option.isSome_iff_exists.1 hi;have hlt:b<w.heap.size:=(hr.heap i r hrr).bound b hb';simp;omega) (fun b hb=>by
  simp at hb;subst hb;exact .inr hr.frm.size)
 unfold wpO;rw[if_pos (hg.gf.wanted hr (fun p hm=>hp' p (by simp[hm])))];unfold Oper.wp;rw[e1,Oper.upon_value];refine hK _ _ ⟨_,hR.put (v:= .gv id es) (.gv ⟨_,_,rfl⟩ (fun n k' hT=>?_)) hd⟩;have:=zav.1 hT;have h2:getH ((id,some (Res.tok es.length k))::s.hp) id=some (.tok n k'):=this;rw[zan,if_pos rfl] at h2;cases h2
 refine⟨Nat.le_refl _,fun _=>⟨hk,.inr ⟨w.heap.size,es.length,us,e,by simp,rfl,by simp,zd7,by rw[e2];exact Nat.le_refl _,Nat.le_refl _,fun i hi j hj=>?_⟩⟩⟩;have hjk:j<k:=by rw[<-hk _ (List.getElem_mem hi)];exact hj
 have hlt:i*k+j<us.size:=by
  have:(i+1)*k<=es.length*k:=Nat.mul_le_mul_right _ (by omega);rw[Nat.add_mul] at this;omega
 have h4:=e3 i hi j hj hlt;have h5:us.getD (i*k+j) undef=us[i*k+j]:=by simp[Array.getD,hlt]
 rw[h5];refine h4.mono (fun b o ho=>?_);have hb:b<w.heap.size:=by
  rcases Nat.lt_or_ge b w.heap.size with h|h
  ·exact h
  ·rw[hr.top b h] at ho;omega
 have:Nat.beq b w.heap.size=false:=by
  cases h:Nat.beq b w.heap.size with
  |true=>have:=Nat.eq_of_beq_eq_true h;omega
  |false=>rfl
 exact⟨by simpa [this] using ho,World.cell?_alloc_lt w _ _ hb⟩
theorem zgR {P:Program}{op:BinOp}{t:TypeId}{x y:Operand}{a:Option Addr}{n c:Nat}{w:World}:(eqGuard op t x y (.slice a n c) (.slice none 0 0)).run P w = .ok () w:=by
 cases op<;>rfl
theorem xaO {e k yb:Nat} (ht:SlT c.P t e k yb) (hg:GH all env g pg) (hd:Nat.blt d c.n=true) (hx:opd env x=some .nils)
  (hn:Walk c all chk os (zat (pg++opF x .nils) [] [] ⟨some (d,.d (.bool true)),[]⟩::recs) ⟨(d,.d (.bool true))::env,hp⟩ Q):
  Walk c all chk (⟨some d,.binOp .eql t x (.const (.slice none 0 0)) yt,ty,pos,af,g⟩::os) recs ⟨env,hp⟩ Q:=
 xa7 hg hd hx (fun a G T w h=>⟨.bool true,by
  have hv:a.eval x = .slice none 0 0:=by
   generalize a.eval x=v at *;cases h;rfl
  have hcn:a.eval (.const (.slice none 0 0)) = .slice none 0 0:=rfl;simp only[execOp,hv,hcn];simp only[Sem.run_bind,zgR,Result.andThen_ok,run_eql_slice_nil w t e none 0 0 ht.und,Sem.run_pure,Option.isNone_none],.d (.bool _)⟩) hn
theorem xaN {xs:List (List D)}{e k yb:Nat} (ht:SlT c.P t e k yb) (hg:GH all env g pg) (hd:Nat.blt d c.n=true) (hx:opd env x=some (.sn xs))
  (hn:Walk c all chk os (zat (pg++opF x (.sn xs)) [] [] ⟨some (d,.d (.bool false)),[]⟩::recs) ⟨(d,.d (.bool false))::env,hp⟩ Q):
  Walk c all chk (⟨some d,.binOp .eql t x (.const (.slice none 0 0)) yt,ty,pos,af,g⟩::os) recs ⟨env,hp⟩ Q:=
 xa7 hg hd hx (fun a G T w h=>⟨.bool false,by
  obtain⟨ad,n,cp,hv⟩:∃ad n cp,a.eval x = .slice (some ad) n cp:=by
   generalize a.eval x=v at *;cases h with|sn h hn=>exact hn
  have hcn:a.eval (.const (.slice none 0 0)) = .slice none 0 0:=rfl;simp only[execOp,hv,hcn];simp only[Sem.run_bind,zgR,Result.andThen_ok,run_eql_slice_nil w t e (some ad) n cp ht.und,Sem.run_pure,Option.isNone_some],.d (.bool _)⟩) hn
theorem xaq {K:Kt}{code:Code} (i:Nat){xs:List (List D)} (h:getE env i=some (.d (.sl xs)))
  (h1:xs=[]->CWp c code ⟨(i,.nils)::env,hp⟩ K) (h2:CWp c code ⟨(i,.sn xs)::env,hp⟩ K):CWp c code ⟨env,hp⟩ K:=by
 intro a w hrel;obtain⟨G,hr⟩:=hrel;have base:∀v,RelA G (tokf hp) w v (a.tmps.getD i undef)->Rel c ⟨(i,v)::env,hp⟩ a w:=fun v hv=>
  ⟨G,hr.size,hr.defers,fun j x hj=>by
   simp only[getE] at hj;cases hti:Nat.beq i j with
   |true=>
    have:=Nat.eq_of_beq_eq_true hti;subst this;simp only[hti,cond_true,Option.some.injEq] at hj;subst hj;exact hv
   |false=>
    simp only[hti,cond_false] at hj;exact hr.slots j x hj,hr.heap,hr.disj,hr.new,hr.frm,hr.top,hr.kept⟩
 have hd:=(hr.slots i _ h).d_inv;generalize hv:a.tmps.getD i undef=v at hd base;cases hd with
 |nil=>exact h1 rfl a w (base _ .nils)
 |emp b off s cap=>exact h2 a w (base _ (.sn (.emp b off s cap) ⟨_,_,_,rfl⟩))
 |sl _ k b off cap cf hk hcap hc hr=>exact h2 a w (base _ (.sn (.sl _ k b off cap cf hk hcap hc hr) ⟨_,_,_,rfl⟩))
theorem xbd {t:TypeId}{e k yb:Nat} (id:Nat) (ht:SlT c.P t e k yb) (hg:GH all env g pg) (hd:Nat.blt d c.n=true) (hfr:zak env hp [id]=true)
  (hn:Walk c all chk os (zat (pg++opFL [] []) [] [id] ⟨some (d,.gv id []),[(id,some (.tok 0 k))]⟩::recs) ⟨(d,.gv id [])::env,(id,some (.tok 0 k))::hp⟩ Q):
  Walk c all chk (⟨some d,.buildSlice t 0 #[],ty,pos,af,g⟩::os) recs ⟨env,hp⟩ Q:=by
 refine Walk.mkRowGV (xs:=[]) (vs:=[]) (es:=[]) (k:=k) id hg hd rfl (by simp) hfr (fun a G T w h=>?_) hn;obtain⟨ie,hi1,hi2,hi3⟩:=ht.inf;refine⟨#[],e, ?_,by simp,fun i hi=>by simp at hi⟩;simp[execOp,Instr.buildSlice,run_underlying ht.und,sizeOf,zfH hi1,Instr.fill,newRow,Array.range_zero']
end
def Res.avs:Res->List AV
 | .box cs=>cs
 | .tree cs=>cs
 |_=>[]
theorem Res.avs_ids {r:Res}{x:AV} (hx:x∈r.avs):∀id,id∈x.ids->id∈r.ids:=by
 intro id hid;cases r with
 |box cs=>exact xaj hx hid
 |tree cs=>exact xaj hx hid
 |_=>simp[Res.avs] at hx
structure Turn (c:Ctx) (G:Gh) (s:St) (w:World) (G':Gh) (hp':Hp) (L:List Nat):Prop where
 get:∀i,i∉L->getH hp' i=getH s.hp i
 loc:∀i,i∉L->G'.loc i=G.loc i
 fro:∀b,(∀j,j∈L->(getH s.hp j).isSome->b∉G.loc j)->G'.F b=G.F b
 fle:∀b o,o<G.F b->o<G'.F b
 ftop:∀b,w.heap.size<=b->G'.F b=0
 occ:∀i,i∈L->zcU i s\/(LocEq (tokf hp') G' G i/\∀p,tokf hp' i=some p->tokf s.hp i=some p/\∀b,b∈G.loc i->G'.F b=G.F b)
 blk:∀i,i∈L->(getH hp' i).isSome->∀b,b∈G'.loc i->∃j,j∈L/\(getH s.hp j).isSome/\b∈G.loc j
 dis:∀i,i∈L->∀j,j∈L->i≠j->(getH hp' i).isSome->(getH hp' j).isSome->∀b,b∈G'.loc i->b∉G'.loc j
 keep:∀i,i∈L->∀l,c.kept i=some l->(G'.loc i).head?=l.head?/\(getH hp' i).isSome/\tokf hp' i=none
section
variable {c:Ctx}{G G':Gh}{s:St}{a:Act}{w:World}{hp':Hp}{L:List Nat}
theorem Turn.away (h:Turn c G s w G' hp' L) (hr:R c G s a w){i:Nat} (hi:i∉L) (hs:(getH s.hp i).isSome):∀b,b∈G.loc i->G'.F b=G.F b:=
 fun b hb=>h.fro b (fun j hj hjs hbj=>hr.disj i j hs hjs (fun e=>hi (e ▸ hj)) b hb hbj)
theorem Turn.rel (h:Turn c G s w G' hp' L) (hr:R c G s a w){x:AV}{v:Value} (hx:∀i,i∈L->zcU i s->i∉x.ids) (hR:RelA G (tokf s.hp) w x v):RelA G' (tokf hp') w x v:=by
 refine hR.mono (fun b o ho=>⟨h.fle b o ho,rfl⟩) (fun i hi=>?_) (fun i hi p hp=>?_)
 ·by_cases hL:i∈L
  ·rcases h.occ i hL with ho|ho
   ·exact absurd hi (hx i hL ho)
   ·exact ho.1
  ·exact .inl (h.loc i hL)
 ·by_cases hL:i∈L
  ·rcases h.occ i hL with ho|ho
   ·exact absurd hi (hx i hL ho)
   ·obtain⟨h1,h2⟩:=ho.2 p hp;exact⟨h1,fun b hb=>⟨rfl,h2 b hb⟩⟩
  ·have hT:tokf s.hp i=some p:=by unfold tokf at hp ⊢;rw[h.get i hL] at hp;exact hp
   refine⟨hT,fun b hb=>⟨rfl,h.away hr hL ?_ b hb⟩⟩;obtain⟨n,k⟩:=p;rw[zav.1 hT];rfl
theorem Turn.slot (h:Turn c G s w G' hp' L) (hr:R c G s a w){t:Nat}{x:AV}{v:Value} (ht:getE s.env t=some x) (hR:RelA G (tokf s.hp) w x v):RelA G' (tokf hp') w x v:=
 h.rel hr (fun i _ ho hx=>ho.1 t x ht hx) hR
theorem Turn.cell (h:Turn c G s w G' hp' L) (hr:R c G s a w){j:Nat}{r:Res}{x:AV}{v:Value} (hj:getH s.hp j=some r) (hx:x∈r.avs) (hR:RelA G (tokf s.hp) w x v):RelA G' (tokf hp') w x v:=
 h.rel hr (fun i _ ho hi=>ho.2 j r hj (Res.avs_ids hx i hi)) hR
theorem Turn.fin (h:Turn c G s w G' hp' L) (hr:R c G s a w) (hL:∀i,i∈L->∀r,getH hp' i=some r->RelR G' (tokf hp') w i r):R c G' ⟨s.env,hp'⟩ a w:=by
 have hsome:∀i,i∉L->(getH hp' i).isSome->(getH s.hp i).isSome:=fun i hi hs=>by rw[h.get i hi] at hs;exact hs
 let own1:List Nat:=L.flatMap fun j=>if (getH s.hp j).isSome then G.loc j else []
 have hown:∀b,b∈own1↔∃j,j∈L/\(getH s.hp j).isSome/\b∈G.loc j:=fun b=>by
  simp only[own1,List.mem_flatMap];constructor
  ·rintro ⟨j,hj,hb⟩
   by_cases hs:(getH s.hp j).isSome
   ·rw[if_pos hs] at hb;exact⟨j,hj,hs,hb⟩
   ·rw[if_neg hs] at hb;simp at hb
  ·rintro ⟨j,hj,hs,hb⟩
   exact⟨j,hj,by rw[if_pos hs];exact hb⟩
 refine⟨hr.size,hr.defers,fun i v hi=>h.slot hr hi (hr.slots i v hi),fun i r hi=>?_,fun i j h1 h2 hne b hb=>?_,fun i h1 b hb=>?_,
  hr.frm.trans (own1:=own1) ⟨rfl,rfl,rfl,Nat.le_refl _,fun b _ hb=>⟨rfl,h.fro b (fun j hj hs hbj=>hb ((hown b).2 ⟨j,hj,hs,hbj⟩))⟩,fun b o ho=>⟨h.fle b o ho,rfl⟩⟩ (fun b hb=>?_),h.ftop,fun i l hl=>?_⟩
 ·by_cases hi':i∈L
  ·exact hL i hi' r hi
  ·have hg:getH s.hp i=some r:=by have:=h.get i hi';rw[<-this];exact hi
   have hh:=hr.heap i r hg;have hs:(getH s.hp i).isSome:=by rw[hg];rfl
   have hl:=h.loc i hi';have ha:=h.away hr hi' hs;cases r with
   |box cs=>
    obtain⟨b,vs,e,h1,h2,h3,h4,h5⟩:=hh;exact⟨b,vs,e,hl.trans h1,h2,h3,(ha b (by simp[h1])).trans h4,fun j hj hv=>h.cell hr hg (List.getElem_mem hj) (h5 j hj hv)⟩
   |tok n k=>exact fun b hb=>hh b (by rw[hl] at hb;exact hb)
   |map ks=>
    obtain⟨b,es,cl,h1,h2,h3,h4⟩:=hh;exact⟨b,es,cl,hl.trans h1,h2,(ha b (by simp[h1])).trans h3,h4⟩
   |tree cs=>exact zbv hh hl (fun b hb=>⟨rfl,ha b hb⟩) (Nat.le_refl _) (fun x hx v=>h.cell hr hg hx)
 ·have key:∀i j,i∈L->j∉L->(getH hp' i).isSome->(getH hp' j).isSome->∀b,b∈G'.loc i->b∉G'.loc j:=fun i j hi hj h1 h2 b hb hbj=>by
   obtain⟨i2,h3,h4,h5⟩:=h.blk i hi h1 b hb;rw[h.loc j hj] at hbj;exact hr.disj i2 j h4 (hsome j hj h2) (fun e=>hj (e ▸ h3)) b h5 hbj
  by_cases hi:i∈L<;>by_cases hj:j∈L
  ·exact h.dis i hi j hj hne h1 h2 b hb
  ·exact key i j hi hj h1 h2 b hb
  ·exact fun hbj=>key j i hj hi h2 h1 b hbj hb
  ·rw[h.loc i hi] at hb;rw[h.loc j hj];exact hr.disj i j (hsome i hi h1) (hsome j hj h2) hne b hb
 ·by_cases hi:i∈L
  ·obtain⟨j,h3,h4,h5⟩:=h.blk i hi h1 b hb;exact hr.new j h4 b h5
  ·rw[h.loc i hi] at hb;exact hr.new i (hsome i hi h1) b hb
 ·obtain⟨j,h3,h4,h5⟩:=(hown b).1 hb;exact hr.new j h4 b h5
 ·by_cases hi:i∈L
  ·exact h.keep i hi l hl
  ·have hk:=hr.kept i l hl;refine⟨by rw[h.loc i hi];exact hk.1,by rw[h.get i hi];exact hk.2.1, ?_⟩;have:=hk.2.2;unfold tokf at this ⊢;rw[h.get i hi];exact this
theorem R.slot (hr:R c G s a w){t:Nat}{x:AV} (h:RelA G (tokf s.hp) w x (a.tmps.getD t undef)):R c G ⟨(t,x)::s.env,s.hp⟩ a w:=by
 refine⟨hr.size,hr.defers,fun i v hi=>?_,hr.heap,hr.disj,hr.new,hr.frm,hr.top,hr.kept⟩;simp only[getE] at hi;cases hb:Nat.beq t i with
 |true=>
  have:=Nat.eq_of_beq_eq_true hb;subst this;simp only[hb,cond_true,Option.some.injEq] at hi;subst hi;exact h
 |false=>
  simp only[hb,cond_false] at hi;exact hr.slots i v hi
end
def ownD (m:Bool):D->AV
 | .int k n=> .d (.int k n)
 | .bool b=> .d (.bool b)
 | .str s=> .d (.str s)
 |x=> .own m x
def zaf (m:Bool) (xs:List (List D)):List AV:=xs.flatten.map (ownD m)
theorem ztU (m:Bool) (x:D):(ownD m x).ids=[]:=by cases x<;>rfl
theorem zaa (m:Bool) (xs:List (List D)):AV.idsL (zaf m xs)=[]:=by
 unfold zaf;generalize xs.flatten=l;induction l with
 |nil=>rfl
 |cons x l ih=>simp[AV.idsL,ztU,ih]
theorem zbZ {m:Bool}{xs:List (List D)}{k:Nat} (hk:∀x,x∈xs->x.length=k):(zaf m xs).length=xs.length*k:=by
 unfold zaf;rw[xac,zi5 hk]
theorem zbi (m:Bool):zaf m []=[]:=rfl
theorem zfC (m:Bool) (a b:List (List D)):zaf m (a++b)=zaf m a++zaf m b:=by simp[zaf]
theorem zgj {m:Bool}{xs:List (List D)}{k i j:Nat} (hk:∀x,x∈xs->x.length=k) (hi:i<xs.length) (hj:j<xs[i].length):
  (zaf m xs)[i*k+j]?=some (ownD m xs[i][j]):=by
 have hjk:j<k:=by rw[<-hk _ (List.getElem_mem hi)];exact hj
 have:=zou (xs:=xs) hk hi hjk;simp only[zaf,List.getElem?_map] at this ⊢;revert this
 cases xs.flatten[i*k+j]? with
 |none=>simp
 |some y=>intro h;simp only[Option.map_some,Option.some.injEq,AV.d.injEq] at h;simp[h]
theorem CellR.ofTree {G:Gh}{T:TokF}{m:Bool}{w:World}{x:D}{v:Value}{S:List Nat} (h:TreeD m w x v S):CellR G T w (ownD m x) v S:=by
 cases h with
 |int k n=>exact⟨rfl,.d (.int _ _)⟩
 |bool b=>exact⟨rfl,.d (.bool _)⟩
 |str s=>exact⟨rfl,.d (.str _)⟩
 |nil=>exact TreeD.nil
 |emp b off s cap hm=>exact TreeD.emp b off s cap hm
 |em0 b off cap hm=>exact TreeD.em0 b off cap hm
 |sl xs k b cap cs e Ss hk hcap hb hc hr hz=>exact TreeD.sl xs k b cap cs e Ss hk hcap hb hc hr hz
def zfq:D->Bool
 | .int _ _=>true
 | .bool _=>true
 | .str _=>true
 | .sl []=>true
 |_=>false
theorem TreeD.ofFlat {m:Bool}{F:Nat->Nat}{w:World}{x:D}{v:Value} (hf:zfq x=true) (hm:m=false\/x≠ .sl []) (h:RelD F w x v):TreeD m w x v []:=by
 cases h with
 |int k n=>exact .int _ _
 |bool b=>exact .bool _
 |str s=>exact .str _
 |nil=>exact .nil
 |emp b off s cap=>exact .emp b off s cap (hm.resolve_right (fun h=>h rfl))
 |sl xs k b off cap c hk hcap hc hr=>
  cases xs with
  |nil=>exact .em0 b off cap (hm.resolve_right (fun h=>h rfl))
  |cons x r=>simp[zfq] at hf
 |ptr cs b o off c hc hr=>simp[zfq] at hf
 |nilp=>simp[zfq] at hf
theorem TreeD.weak {m:Bool}{w:World}{x:D}{v:Value}{S:List Nat} (h:TreeD m w x v S):TreeD false w x v S:=by
 induction h with
 |int k n=>exact .int _ _
 |bool b=>exact .bool _
 |str s=>exact .str _
 |nil=>exact .nil
 |emp b off s cap _=>exact .emp b off s cap rfl
 |em0 b off cap _=>exact .em0 b off cap rfl
 |sl xs k b cap cs e Ss hk hcap hb hc hr hz ih=>
  refine .sl xs k b cap cs e Ss hk hcap hb ?_ ih (fun h=>by cases h);refine Nat.le_trans (Nat.mul_le_mul_right _ ?_) hc;cases m
  ·exact Nat.le_refl _
  ·exact hcap
def TreeOf (m:Bool) (w:World) (xs:List (List D)) (k:Nat) (vs:Array Value) (Ss:Nat->List Nat):Prop:=
 ∀i (hi:i<xs.length) j (hj:j<xs[i].length),TreeD m w xs[i][j] (vs.getD (i*k+j) undef) (Ss (i*k+j))
theorem zs4 {i n k:Nat} (h:i<n*k):i / k<n/\i % k<k/\i / k*k+i % k=i:=by
 have hk:0<k:=by
  rcases Nat.eq_zero_or_pos k with h0|h0
  ·subst h0;simp at h
  ·exact h0
 exact⟨Nat.div_lt_of_lt_mul (by rw[Nat.mul_comm];exact h),Nat.mod_lt _ hk,Nat.div_add_mod' _ _⟩
theorem zkW {vs:Array Value}{i:Nat} (h:i<vs.size):vs.getD i undef=vs[i]:=by simp[Array.getD,h]
theorem TreeOf.cells {G:Gh}{T:TokF}{m:Bool}{w:World}{xs:List (List D)}{k:Nat}{vs:Array Value}{Ss:Nat->List Nat} (h:TreeOf m w xs k vs Ss) (hk:∀x,x∈xs->x.length=k):
  ∀i (hi:i<(zaf m xs).length) (hv:i<vs.size),CellR G T w (zaf m xs)[i] vs[i] (Ss i):=by
 intro i hi hv;rw[zbZ hk] at hi;obtain⟨h1,h2,h3⟩:=zs4 hi;have hj:i % k<xs[i / k].length:=by rw[hk _ (List.getElem_mem h1)];exact h2
 have h4:=h (i / k) h1 (i % k) hj;have h5:=zgj (m:=m) hk h1 hj;rw[h3] at h4 h5;rw[List.getElem?_eq_getElem (by rw[zbZ hk];exact hi)] at h5;rw[zkW hv] at h4;rw[Option.some.inj h5];exact .ofTree h4
theorem zeJ {Ss Ss':Nat->List Nat}:∀ {l:List Nat},(l.flatMap Ss).Nodup->(∀i,i∈l->(Ss' i).Sublist (Ss i))->((l.flatMap Ss').Sublist (l.flatMap Ss))
 | [],_,_=> .slnil
 |x::l,h,hs=>by
  simp only[List.flatMap_cons] at h ⊢;exact(hs x (by simp)).append (zeJ (List.nodup_append.1 h).2.1 (fun i hi=>hs i (by simp[hi])))
theorem zjD {Ss:Nat->List Nat}:∀ {l:List Nat} (hl:l.Nodup),(l.flatMap Ss).Nodup->∀i j,i∈l->j∈l->i≠j->∀b,b∈Ss i->b∉Ss j
 | [],_,_,i,j,hi,_,_=>by simp at hi
 |x::l,hl,h,i,j,hi,hj,hne=>by
  simp only[List.flatMap_cons,List.nodup_append,List.mem_flatMap] at h;obtain⟨h1,h2,h3⟩:=h;intro b hb hbj;rcases List.mem_cons.1 hi with e1|e1
  ·rcases List.mem_cons.1 hj with e2|e2
   ·exact hne (e1.trans e2.symm)
   ·exact h3 b (e1 ▸ hb) b ⟨j,e2,hbj⟩ rfl
  ·rcases List.mem_cons.1 hj with e2|e2
   ·exact h3 b (e2 ▸ hbj) b ⟨i,e1,hb⟩ rfl
   ·exact zjD (List.nodup_cons.1 hl).2 h2 i j e1 e2 hne b hb hbj
theorem zm3 {Ss:Nat->List Nat}:∀ {l:List Nat},(l.flatMap Ss).Nodup->∀i,i∈l->(Ss i).Nodup
 |x::l,h,i,hi=>by
  simp only[List.flatMap_cons,List.nodup_append] at h;rcases List.mem_cons.1 hi with rfl|hi
  ·exact h.1
  ·exact zm3 h.2.1 i hi
theorem zgQ {Ss:Nat->List Nat}{S:List Nat}{off:Nat}:∀ {l:List Nat},l.Nodup->(l.flatMap Ss).Nodup->S.Nodup->(∀b,b∈S->∀i,i∈l->i≠off->b∉Ss i)->
  (l.flatMap fun i=>if i=off then S else Ss i).Nodup
 | [],_,_,_,_=>by simp
 |x::l,hl,h,hS,hd=>by
  simp only[List.flatMap_cons,List.nodup_append,List.mem_flatMap] at h ⊢;obtain⟨h1,h2,h3⟩:=h;have hl':=List.nodup_cons.1 hl;refine⟨?_,zgQ hl'.2 h2 hS (fun b hb i hi=>hd b hb i (by simp[hi])),fun b hb b' hb'=>?_⟩
  ·split
   ·exact hS
   ·exact h1
  ·rintro rfl
   obtain⟨j,hj,hbj⟩:=hb';have hxj:x≠j:=fun e=>hl'.1 (e ▸ hj);by_cases hx:x=off
   ·rw[if_pos hx] at hb;rw[if_neg (fun e=>hxj (hx.trans e.symm))] at hbj;exact hd b hb j (by simp[hj]) (fun e=>hxj (hx.trans e.symm)) hbj
   ·rw[if_neg hx] at hb;by_cases hjo:j=off
    ·rw[if_pos hjo] at hbj;exact hd b hbj x (by simp) hx hb
    ·rw[if_neg hjo] at hbj;exact h3 b hb b ⟨j,hj,hbj⟩ rfl
section
variable {c:Ctx}{env:Env}{hp:Hp}{K:Kt}{code:Code}{ids:List Nat}
theorem zdu {i j:Nat} (h:i≠j):Nat.beq i j=false:=by
 cases hb:Nat.beq i j with
 |true=>exact absurd (Nat.eq_of_beq_eq_true hb) h
 |false=>rfl
theorem R.split {G:Gh}{a:Act}{w:World} (hr:R c G ⟨env,hp⟩ a w){id off id':Nat}{m:Bool}{xs:List (List D)}{cs cs':List AV} (hb:getH hp id=some (.tree cs)) (hc:cs[off]?=some (.own m (.sl xs))) (hx:xs≠[])
  (hf:zak env hp [id']=true) (hput:putC cs off [.ms id' xs.length]=some cs'):∃G',R c G' ⟨env,(id',some (.tree (zaf m xs)))::(id,some (.tree cs'))::hp⟩ a w:=by
 obtain⟨h0,hocc⟩:=zbD hf id' (by simp);obtain⟨b,vs,e,Ss,hT⟩:=hr.heap id _ hb;obtain⟨hoff,hcv⟩:=List.getElem?_eq_some_iff.1 hc;have hov:off<vs.size:=by have:=hT.len;omega
 have hcell:=hT.cell off hoff hov;rw[hcv] at hcell;have hne:id≠id':=fun e=>by subst e;have h0':getH hp id=none:=h0;rw[h0'] at hb;cases hb
 obtain⟨p1,p2,p3⟩:=zce hput;have hTD:TreeD m w (.sl xs) vs[off] (Ss off):=hcell;generalize hv:vs[off]=v at hTD;generalize hSo:Ss off=So at hTD;cases hTD with
 |nil=>exact absurd rfl hx
 |emp _ _ _ _ _=>exact absurd rfl hx
 |em0 _ _ _ _=>exact absurd rfl hx
 |sl _ k b1 cap cs1 e1 Ss1 hk hcap hb1 hc1 hr1 hz1=>
  let Ss':Nat->List Nat:=fun i=>if i=off then [] else Ss i
  let G':Gh:={ G with loc:=fun i=>bif Nat.beq i id' then Ss off else bif Nat.beq i id then b::(List.range cs'.length).flatMap Ss' else G.loc i }
  have l1:G'.loc id'=Ss off:=by simp[G']
  have l2:G'.loc id=b::(List.range cs'.length).flatMap Ss':=by simp[G',zdu hne]
  have l3:∀i,i≠id'->i≠id->G'.loc i=G.loc i:=fun i h1 h2=>by simp[G',zdu h1,zdu h2]
  have hnd:=hT.nodup;rw[hT.loc] at hnd;have hnd':=List.nodup_cons.1 hnd;have hsubS:∀x,x∈Ss off->x∈G.loc id:=fun x hx=>by
   rw[hT.loc];exact List.mem_cons_of_mem _ (List.mem_flatMap.2 ⟨off,List.mem_range.2 hoff,hx⟩)
  have hsubl:((List.range cs'.length).flatMap Ss').Sublist ((List.range cs.length).flatMap Ss):=by
   rw[p1];refine zeJ hnd'.2 (fun i hi=>?_);simp only[Ss'];split
   ·exact List.nil_sublist _
   ·exact List.Sublist.refl _
  have hsub2:∀x,x∈G'.loc id->x∈G.loc id:=fun x hx=>by
   rw[l2] at hx;rw[hT.loc];rcases List.mem_cons.1 hx with h|h
   ·simp[h]
   ·exact List.mem_cons_of_mem _ (hsubl.subset h)
  have g1:getH ((id',some (Res.tree (zaf m xs)))::(id,some (.tree cs'))::hp) id'=some (.tree (zaf m xs)):=by rw[zan,if_pos rfl]
  have g2:getH ((id',some (Res.tree (zaf m xs)))::(id,some (.tree cs'))::hp) id=some (.tree cs'):=by rw[zan,if_neg hne,zan,if_pos rfl]
  have hturn:Turn c G ⟨env,hp⟩ w G' ((id',some (.tree (zaf m xs)))::(id,some (.tree cs'))::hp) [id,id']:=by
   refine⟨fun i hi=>?_,fun i hi=>?_,fun _ _=>rfl,fun _ _ h=>h,hr.top,fun i hi=>?_,fun i hi hs x hx=>?_,fun i hi j hj hij _ _ x hx=>?_,fun i hi l hl=>?_⟩
   ·simp only[List.mem_cons,List.not_mem_nil,or_false,not_or] at hi;rw[zan,if_neg hi.2,zan,if_neg hi.1]
   ·simp only[List.mem_cons,List.not_mem_nil,or_false,not_or] at hi;exact l3 i hi.2 hi.1
   ·simp only[List.mem_cons,List.not_mem_nil,or_false] at hi;rcases hi with rfl|rfl
    ·right
     have ht:tokf ((id',some (Res.tree (zaf m xs)))::(i,some (.tree cs'))::hp) i=none:=by unfold tokf;rw[g2]
     refine⟨.inr ⟨ht,by rw[l2,hT.loc];rfl⟩,fun p hp=>by rw[ht] at hp;cases hp⟩
    ·exact .inl hocc
   ·simp only[List.mem_cons,List.not_mem_nil,or_false] at hi;have hs':(getH hp id).isSome:=by rw[hb];rfl
    rcases hi with rfl|rfl
    ·exact⟨i,by simp,hs',hsub2 x hx⟩
    ·rw[l1] at hx;exact⟨id,by simp,hs',hsubS x hx⟩
   ·simp only[List.mem_cons,List.not_mem_nil,or_false] at hi hj;have key:∀x,x∈Ss off->x∉G'.loc id:=by
     intro x hx hx2;rw[l2] at hx2;rcases List.mem_cons.1 hx2 with h|h
     ·exact hnd'.1 (List.mem_flatMap.2 ⟨off,List.mem_range.2 hoff,h ▸ hx⟩)
     ·obtain⟨j,hj,hxj⟩:=List.mem_flatMap.1 h;simp only[Ss'] at hxj;split at hxj
      ·simp at hxj
      ·rename_i hjo;exact zjD List.nodup_range hnd'.2 off j (List.mem_range.2 hoff) (by rw[p1] at hj;exact hj) (Ne.symm hjo) x hx hxj
    rcases hi with rfl|rfl<;>rcases hj with rfl|rfl
    ·exact absurd rfl hij
    ·rw[l1];exact fun h=>key x h hx
    ·rw[l1] at hx;exact key x hx
    ·exact absurd rfl hij
   ·simp only[List.mem_cons,List.not_mem_nil,or_false] at hi;have hk0:=hr.kept i l hl;rcases hi with rfl|rfl
    ·refine⟨?_,by rw[g2];rfl,by unfold tokf;rw[g2]⟩;rw[l2,<-hk0.1,hT.loc];rfl
    ·have h0':getH hp i=none:=h0;have:=hk0.2.1;rw[show(⟨env,hp⟩:St).hp=hp from rfl,h0'] at this;cases this
  refine⟨G',hturn.fin hr (fun i hi r hri=>?_)⟩;simp only[List.mem_cons,List.not_mem_nil,or_false] at hi;rcases hi with rfl|rfl
  ·rw[g2] at hri;cases hri
   refine⟨b,vs,e,Ss',l2,hT.at_,by rw[p1];exact hT.len, ?_,fun x hx=>hT.mine x (hsub2 x hx),fun j hj hjv=>?_⟩
   ·rw[l2];exact List.nodup_cons.2 ⟨fun h=>hnd'.1 (hsubl.subset h),hsubl.nodup hnd'.2⟩
   ·have h3:=p3 j;rw[List.getElem?_eq_getElem hj] at h3;by_cases hjo:j=off
    ·subst hjo;rw[if_pos (by simp)] at h3;simp only[Nat.sub_self,List.getElem?_cons_zero,Option.some.injEq] at h3;rw[h3,hv];refine⟨by simp[Ss'],.ms (b:=b1) ?_ ?_ hcap⟩
     ·rw[l1,hSo];rfl
     ·unfold tokf;rw[g1]
    ·rw[if_neg (by simp only[xab,xai];omega)] at h3;have hjc:j<cs.length:=by omega
     rw[List.getElem?_eq_getElem hjc] at h3;rw[Option.some.inj h3];have h4:=hT.cell j hjc hjv;have h5:Ss' j=Ss j:=by simp[Ss',hjo]
     rw[h5];exact h4.map (hturn.cell hr hb (List.getElem_mem hjc)) (fun _ _=>rfl)
  ·rw[g1] at hri;cases hri
   have hlen:(zaf m xs).length=xs.length*k:=zbZ hk;have hle:xs.length*k<=cs1.size:=by
    refine Nat.le_trans (Nat.mul_le_mul_right _ ?_) hc1;cases m
    ·exact Nat.le_refl _
    ·exact hcap
   refine⟨b1,cs1,e1,Ss1,by rw[l1,hSo,hlen],hb1,by rw[hlen];exact hle, ?_,fun x hx=>?_,TreeOf.cells hr1 hk⟩
   ·rw[l1];exact zm3 hnd'.2 off (List.mem_range.2 hoff)
   ·rw[l1] at hx;exact hT.mine x (hsubS x hx)
theorem CWp.split (id off id':Nat){m:Bool}{xs:List (List D)}{cs cs':List AV} (hb:getH hp id=some (.tree cs)) (hc:cs[off]?=some (.own m (.sl xs))) (hx:xs≠[])
  (hf:zak env hp [id']=true) (hput:putC cs off [.ms id' xs.length]=some cs')
  (hn:CWp c code ⟨env,(id',some (.tree (zaf m xs)))::(id,some (.tree cs'))::hp⟩ K):CWp c code ⟨env,hp⟩ K:=by
 rintro a w ⟨G,hr⟩
 obtain⟨G',h⟩:=hr.split hb hc hx hf hput;exact hn a w ⟨G',h⟩
theorem R.merge {G:Gh}{a:Act}{w:World} (hr:R c G ⟨env,hp⟩ a w) (hkp:KeptIn c.kept ids){id off id' k n:Nat}{m:Bool}{xs:List (List D)}{cs cs':List AV} (hb:getH hp id=some (.tree cs)) (hc:cs[off]?=some (.ms id' n)) (hn:n=xs.length)
  (hb':getH hp id'=some (.tree (zaf m xs))) (hk:∀x,x∈xs->x.length=k) (hne:Nat.beq id id'=false) (hid:zaZ id' ids=false) (hput:putC cs off [.own false (.sl xs)]=some cs'):
  ∃G',R c G' ⟨env,(id',none)::(id,some (.tree cs'))::hp⟩ a w:=by
 subst hn;have hne:id≠id':=fun e=>by subst e;simp at hne
 obtain⟨b,vs,e,Ss,hT⟩:=hr.heap id _ hb;obtain⟨b1,cs1,e1,Ss1,hT1⟩:=hr.heap id' _ hb';obtain⟨hoff,hcv⟩:=List.getElem?_eq_some_iff.1 hc;have hov:off<vs.size:=by have:=hT.len;omega
 have hcell:=hT.cell off hoff hov;rw[hcv] at hcell;obtain⟨hS0,hms⟩:=hcell;obtain⟨b2,cap,hl2,he2,hcap⟩:=hms.ms_eq;obtain rfl:b1=b2:=by have:=hl2.1;rw[hT1.loc] at this;exact Option.some.inj this
 obtain⟨p1,p2,p3⟩:=zce hput;have hlen1:(zaf m xs).length=xs.length*k:=zbZ hk;have hTr:TreeD false w (.sl xs) vs[off] (G.loc id'):=by
  rw[he2,hT1.loc,hlen1];refine .sl xs k b1 cap cs1 e1 Ss1 hk hcap hT1.at_ (by have:=hT1.len;rw[hlen1] at this;exact this) (fun i hi j hj=>?_) (fun h=>by cases h);have hjk:j<k:=by rw[<-hk _ (List.getElem_mem hi)];exact hj
  have hlt:i*k+j<(zaf m xs).length:=by rw[hlen1];exact zet hi hjk
  have hlv:i*k+j<cs1.size:=Nat.lt_of_lt_of_le hlt hT1.len;have h1:=hT1.cell (i*k+j) hlt hlv;have h2:=zgj (m:=m) hk hi hj;rw[List.getElem?_eq_getElem hlt] at h2;rw[Option.some.inj h2] at h1;rw[zkW hlv];generalize xs[i][j]=y at h1;cases y with
  |sl ys=>exact TreeD.weak h1
  |int kd q=>obtain⟨g1,g2⟩:=h1;rw[g1];exact .ofFlat rfl (.inl rfl) g2.d_inv
  |bool q=>obtain⟨g1,g2⟩:=h1;rw[g1];exact .ofFlat rfl (.inl rfl) g2.d_inv
  |str q=>obtain⟨g1,g2⟩:=h1;rw[g1];exact .ofFlat rfl (.inl rfl) g2.d_inv
  |ptr q r=>exact TreeD.weak h1
  |nilp=>exact TreeD.weak h1
 let Ss':Nat->List Nat:=fun i=>if i=off then G.loc id' else Ss i
 let G':Gh:={ G with loc:=fun i=>bif Nat.beq i id then b::(List.range cs'.length).flatMap Ss' else G.loc i }
 have l1:G'.loc id=b::(List.range cs'.length).flatMap Ss':=by simp[G']
 have l3:∀i,i≠id->G'.loc i=G.loc i:=fun i h2=>by simp[G',zdu h2]
 have hnd:=hT.nodup;rw[hT.loc] at hnd;have hnd':=List.nodup_cons.1 hnd;have s1:(getH hp id).isSome:=by rw[hb];rfl
 have s2:(getH hp id').isSome:=by rw[hb'];rfl
 have hapart:∀x,x∈G.loc id->x∉G.loc id':=hr.disj id id' s1 s2 hne;have hmem:∀x,x∈G'.loc id->x∈G.loc id\/x∈G.loc id':=fun x hx=>by
  rw[l1] at hx;rcases List.mem_cons.1 hx with h|h
  ·left;rw[hT.loc,h];simp
  ·obtain⟨j,hj,hxj⟩:=List.mem_flatMap.1 h;simp only[Ss'] at hxj;split at hxj
   ·exact .inr hxj
   ·left
    rw[hT.loc];rw[p1] at hj;exact List.mem_cons_of_mem _ (List.mem_flatMap.2 ⟨j,hj,hxj⟩)
 have g1:getH ((id',none)::(id,some (Res.tree cs'))::hp) id'=none:=by rw[zan,if_pos rfl]
 have g2:getH ((id',none)::(id,some (Res.tree cs'))::hp) id=some (.tree cs'):=by rw[zan,if_neg hne,zan,if_pos rfl]
 have t1:tokf ((id',none)::(id,some (Res.tree cs'))::hp) id'=none:=by unfold tokf;rw[g1]
 have t2:tokf ((id',none)::(id,some (Res.tree cs'))::hp) id=none:=by unfold tokf;rw[g2]
 have hturn:Turn c G ⟨env,hp⟩ w G' ((id',none)::(id,some (.tree cs'))::hp) [id,id']:=by
  refine⟨fun i hi=>?_,fun i hi=>?_,fun _ _=>rfl,fun _ _ h=>h,hr.top,fun i hi=>?_,fun i hi hs x hx=>?_,fun i hi j hj hij h1 h2 x hx=>?_,fun i hi l hl=>?_⟩
  ·simp only[List.mem_cons,List.not_mem_nil,or_false,not_or] at hi;rw[zan,if_neg hi.2,zan,if_neg hi.1]
  ·simp only[List.mem_cons,List.not_mem_nil,or_false,not_or] at hi;exact l3 i hi.1
  ·simp only[List.mem_cons,List.not_mem_nil,or_false] at hi;right
   rcases hi with rfl|rfl
   ·exact⟨.inr ⟨t2,by rw[l1,hT.loc];rfl⟩,fun p hp=>by rw[t2] at hp;cases hp⟩
   ·exact⟨.inl (l3 i (Ne.symm hne)),fun p hp=>by rw[t1] at hp;cases hp⟩
  ·simp only[List.mem_cons,List.not_mem_nil,or_false] at hi;rcases hi with rfl|rfl
   ·rcases hmem x hx with h|h
    ·exact⟨i,by simp,s1,h⟩
    ·exact⟨id',by simp,s2,h⟩
   ·rw[g1] at hs;cases hs
  ·simp only[List.mem_cons,List.not_mem_nil,or_false] at hi hj;rcases hi with rfl|rfl
   ·rcases hj with rfl|rfl
    ·exact absurd rfl hij
    ·rw[g1] at h2;cases h2
   ·rw[g1] at h1;cases h1
  ·simp only[List.mem_cons,List.not_mem_nil,or_false] at hi;have hk0:=hr.kept i l hl;rcases hi with rfl|rfl
   ·refine⟨?_,by rw[g2];rfl,t2⟩;rw[l1,<-hk0.1,hT.loc];rfl
   ·have:=zaP.2 (hkp.mem i l hl);rw[this] at hid;cases hid
 refine⟨G',hturn.fin hr (fun i hi r hri=>?_)⟩;simp only[List.mem_cons,List.not_mem_nil,or_false] at hi;rcases hi with rfl|rfl
 ·rw[g2] at hri;cases hri
  refine⟨b,vs,e,Ss',l1,hT.at_,by rw[p1];exact hT.len, ?_,fun x hx=>?_,fun j hj hjv=>?_⟩
  ·rw[l1,List.nodup_cons];constructor
   ·intro h;obtain⟨j,hj,hxj⟩:=List.mem_flatMap.1 h;rw[p1] at hj;simp only[Ss'] at hxj;split at hxj
    ·exact hapart b (by rw[hT.loc];simp) hxj
    ·exact hnd'.1 (List.mem_flatMap.2 ⟨j,hj,hxj⟩)
   ·rw[p1];refine zgQ List.nodup_range hnd'.2 hT1.nodup (fun x hx j hj _ hxj=>?_);exact hapart x (by rw[hT.loc];exact List.mem_cons_of_mem _ (List.mem_flatMap.2 ⟨j,hj,hxj⟩)) hx
  ·rcases hmem x hx with h|h
   ·exact hT.mine x h
   ·exact hT1.mine x h
  ·have h3:=p3 j;rw[List.getElem?_eq_getElem hj] at h3;by_cases hjo:j=off
   ·subst hjo;rw[if_pos (by simp)] at h3;simp only[Nat.sub_self,List.getElem?_cons_zero,Option.some.injEq] at h3;rw[h3];have h5:Ss' j=G.loc id':=by simp[Ss']
    rw[h5];exact hTr
   ·rw[if_neg (by simp only[xab,xai];omega)] at h3;have hjc:j<cs.length:=by omega
    rw[List.getElem?_eq_getElem hjc] at h3;rw[Option.some.inj h3];have h4:=hT.cell j hjc hjv;have h5:Ss' j=Ss j:=by simp[Ss',hjo]
    rw[h5];exact h4.map (hturn.cell hr hb (List.getElem_mem hjc)) (fun _ _=>rfl)
 ·rw[g1] at hri;cases hri
theorem CWp.merge (hkp:KeptIn c.kept ids) (id off id' k n:Nat){m:Bool}{xs:List (List D)}{cs cs':List AV} (hb:getH hp id=some (.tree cs)) (hc:cs[off]?=some (.ms id' n)) (hn:n=xs.length)
  (hb':getH hp id'=some (.tree (zaf m xs))) (hk:∀x,x∈xs->x.length=k) (hne:Nat.beq id id'=false) (hid:zaZ id' ids=false) (hput:putC cs off [.own false (.sl xs)]=some cs')
  (hnx:CWp c code ⟨env,(id',none)::(id,some (.tree cs'))::hp⟩ K):CWp c code ⟨env,hp⟩ K:=by
 rintro a w ⟨G,hr⟩
 obtain⟨G',h⟩:=hr.merge hkp hb hc hn hb' hk hne hid hput;exact hnx a w ⟨G',h⟩
def upC (m:Bool):AV->AV
 | .d (.sl [])=> .own m (.sl [])
 | .nils=> .own m (.sl [])
 |x=>x
theorem R.boxTree {G:Gh}{a:Act}{w:World} (hr:R c G ⟨env,hp⟩ a w){id:Nat}{cs:List AV} (m:Bool) (hm:m=false) (hb:getH hp id=some (.box cs)):R c G ⟨env,(id,some (.tree (cs.map (upC m))))::hp⟩ a w:=by
 obtain⟨b,vs,e,h1,h2,h3,h4,h5⟩:=hr.heap id _ hb;have g2:getH ((id,some (Res.tree (cs.map (upC m))))::hp) id=some (.tree (cs.map (upC m))):=by rw[zan,if_pos rfl]
 have t2:tokf ((id,some (Res.tree (cs.map (upC m))))::hp) id=none:=by unfold tokf;rw[g2]
 have s1:(getH hp id).isSome:=by rw[hb];rfl
 have hbd:=(hr.heap id _ hb).bound;have hturn:Turn c G ⟨env,hp⟩ w G ((id,some (.tree (cs.map (upC m))))::hp) [id]:=by
  refine⟨fun i hi=>?_,fun i hi=>rfl,fun _ _=>rfl,fun _ _ h=>h,hr.top,fun i hi=> .inr ⟨.inl rfl, ?_⟩,fun i hi hs x hx=>?_,fun i hi j hj hij=>?_,fun i hi l hl=>?_⟩<;>
   simp only[List.mem_cons,List.not_mem_nil,or_false] at hi
  ·rw[zan,if_neg hi]
  ·subst hi;intro p hp;rw[t2] at hp;cases hp
  ·subst hi;exact⟨i,by simp,s1,hx⟩
  ·simp only[List.mem_cons,List.not_mem_nil,or_false] at hj;exact absurd (hi.trans hj.symm) hij
  ·subst hi;exact⟨(hr.kept i l hl).1,by rw[g2];rfl,t2⟩
 refine hturn.fin hr (fun i hi r hri=>?_);simp only[List.mem_cons,List.not_mem_nil,or_false] at hi;subst hi;rw[g2] at hri;cases hri
 refine⟨b,vs,e,fun _=>[], ?_,h2,by simpa using h3,by rw[h1];simp,fun x hx=>⟨?_,hbd x hx⟩,fun j hj hjv=>?_⟩
 ·rw[h1];simp
 ·rw[h1] at hx;simp at hx;subst hx;exact h4
 ·simp only[xac] at hj;have h6:=h5 j hj hjv;simp only[List.getElem_map];have h7:RelA G (tokf ((i,some (Res.tree (cs.map (upC m))))::hp)) w cs[j] vs[j]:=hturn.cell hr hb (List.getElem_mem hj) h6;generalize cs[j]=x at h7;generalize vs[j]=v at h7;cases h7 with
  |d h=>
   rename_i y;by_cases hy:y = .sl []
   ·subst hy;exact TreeD.ofFlat rfl (.inl hm) h
   ·have:upC m (.d y) = .d y:=by
     unfold upC;split
     ·rename_i he;cases he;exact absurd rfl hy
     ·rename_i he;cases he
     ·rfl
    rw[this];exact⟨rfl,.d h⟩
  |nils=>exact TreeD.nil
  |gl h ht=>exact⟨rfl,.gl h ht⟩
  |gv h ht=>exact⟨rfl,.gv h ht⟩
  |gt h ht=>exact⟨rfl,.gt h ht⟩
  |ref h hT=>exact⟨rfl,.ref h hT⟩
  |ms h hT hc=>exact⟨rfl,.ms h hT hc⟩
  |mo h hT hc ho=>exact⟨rfl,.mo h hT hc ho⟩
  |mapr h hT=>exact⟨rfl,.mapr h hT⟩
  |fn hn h=>exact⟨rfl,.fn hn h⟩
  |agg hn h=>exact⟨rfl,.agg hn h⟩
  |tup hn h=>exact⟨rfl,.tup hn h⟩
  |sn h hn=>exact⟨rfl,.sn h hn⟩
  |any v=>exact⟨rfl,.any v⟩
theorem CWp.boxTree (id:Nat){cs cs':List AV} (m:Bool) (hm:m=false) (hb:getH hp id=some (.box cs)) (hu:cs.map (upC m)=cs') (hn:CWp c code ⟨env,(id,some (.tree cs'))::hp⟩ K):CWp c code ⟨env,hp⟩ K:=by
 subst hu;rintro a w ⟨G,hr⟩
 exact hn a w ⟨G,hr.boxTree m hm hb⟩
end
def seeC:AV->AV
 | .own _ (.sl [])=> .d (.sl [])
 | .own _ _=> .any
 |x=>x
theorem CellR.see {G:Gh}{T:TokF}{w:World}{x:AV}{v:Value}{S:List Nat} (h:CellR G T w x v S):RelA G T w (seeC x) v:=by
 cases x with
 |own m y=>
  have h':TreeD m w y v S:=h;unfold seeC;split
  ·rename_i he;cases he
   cases h' with
   |nil=>exact .d .nil
   |emp b off s cap _=>exact .d (.emp b off s cap)
   |em0 b off cap _=>exact .d (.sl [] 0 b off cap (fun _=>undef) (by simp) (by simp) (fun n hn=>by simp at hn) (fun i hi=>by simp at hi))
   |sl xs k b cap cs e Ss hk hcap hb hc hr _=>
    exact .d (.sl [] 0 b 0 cap (fun _=>undef) (by simp) (by simp) (fun n hn=>by simp at hn) (fun i hi=>by simp at hi))
  ·exact .any _
  ·rename_i h1 h2;exact absurd rfl (h2 m y)
 |_=>exact h.2
section
variable {c:Ctx}{all:Array Oper}{chk:List Rec->Prop}{os:List Oper}{recs:List Rec}{env:Env}{hp:Hp}{Q:St->Prop}
variable {d ty:Nat}{pos:String}{af:Array Edge}{g:Option (Nat×Bool)}{pg:List (Nat×AV)}
variable {t k id off:Nat}{x y:Operand}
theorem TreeR.head {G:Gh}{T:TokF}{w:World}{id:Nat}{cs:List AV}{b b':Nat}{vs:Array Value}{e:TypeId}{Ss:Nat->List Nat} (h:TreeR G T w id cs b vs e Ss) (h2:(G.loc id).head?=some b'):b'=b:=by
 rw[h.loc] at h2;exact(Option.some.inj h2).symm
theorem xaY {cs:List AV}{v:AV} (ht:TyS c.P t k false) (hg:GH all env g pg) (hd:Nat.blt d c.n=true) (hx:opd env x=some (.ref id off))
  (hb:getH hp id=some (.tree cs)) (hv:(cs[off]?).map seeC=some v)
  (hn:Walk c all chk os (zat (pg++opF x (.ref id off)) [(id,.tree cs)] [] ⟨some (d,v),[]⟩::recs) ⟨(d,v)::env,hp⟩ Q):
  Walk c all chk (⟨some d,.load t x,ty,pos,af,g⟩::os) recs ⟨env,hp⟩ Q:=by
 refine xba hg hd hx (hh1 hb) (fun a G s w hr hh h1=>?_) hn;obtain⟨b,hl,he⟩:=h1.ref_eq;obtain⟨b',vs,e,Ss,hT⟩:=hr.heap id _ (hh1' hh);obtain rfl:=hT.head hl.1;obtain⟨v0,hv0,rfl⟩:=Option.map_eq_some_iff.1 hv;obtain⟨hlt,hv'⟩:=List.getElem?_eq_some_iff.1 hv0;have hlv:off<vs.size:=by have:=hT.len;omega
 refine⟨vs[off], ?_, ?_⟩
 ·have hcell:w.cell? ⟨b,off,none⟩=some vs[off]:=by simp[World.cell?,hT.at_,hlv]
  simp only[execOp,he,Instr.loadAt,Instr.sureAddr,Sem.run_bind,Sem.run_pure,Result.andThen_ok,zd1 ht hcell]
 ·have:=hT.cell off hlt hlv;rw[hv'] at this;exact this.see
end
section
variable {c:Ctx}
theorem R.setTree {G:Gh}{s:St}{a:Act}{w:World} (hr:R c G s a w){id b:Nat}{cs cs':List AV}{vs vs':Array Value}{e:TypeId}{Ss Ss':Nat->List Nat} (hb:getH s.hp id=some (.tree cs))
  (hT:TreeR G (tokf s.hp) w id cs b vs e Ss) (hlen:cs'.length=cs.length) (hsz:vs'.size=vs.size) (hsub:∀i,i<cs.length->(Ss' i).Sublist (Ss i))
  (hcell:∀i (hi:i<cs'.length) (hv:i<vs'.size),CellR G (tokf s.hp) w cs'[i] vs'[i] (Ss' i)):
  ∃G',R c G' ⟨s.env,(id,some (.tree cs'))::s.hp⟩ a (w.setRow b vs')/\G'.F=G.F:=by
 have htok:tokf ((id,some (.tree cs'))::s.hp)=tokf s.hp:=by
  funext i
  unfold tokf;rw[zan];by_cases h:i=id
  ·subst h;rw[if_pos rfl,hb]
  ·rw[if_neg h]
 have hTn:tokf s.hp id=none:=by unfold tokf;rw[hb]
 have hother:∀k,k≠b->(w.setRow b vs').heap[k]?=w.heap[k]?:=fun k hk=>setRow_other w b k vs' hk;have hbl:b∈G.loc id:=by rw[hT.loc];simp
 have hF:=(hT.mine b hbl).1;have hnd:=hT.nodup;rw[hT.loc] at hnd;have hnd':=List.nodup_cons.1 hnd;let G':Gh:={ G with loc:=fun i=>bif Nat.beq i id then b::(List.range cs'.length).flatMap Ss' else G.loc i }
 have l1:G'.loc id=b::(List.range cs'.length).flatMap Ss':=by simp[G']
 have l3:∀i,i≠id->G'.loc i=G.loc i:=fun i h2=>by simp[G',zdu h2]
 have hsubl:((List.range cs'.length).flatMap Ss').Sublist ((List.range cs.length).flatMap Ss):=by
  rw[hlen];exact zeJ hnd'.2 (fun i hi=>hsub i (by simpa using hi))
 have hsub2:∀x,x∈G'.loc id->x∈G.loc id:=fun x hx=>by
  rw[l1] at hx;rw[hT.loc];rcases List.mem_cons.1 hx with h|h
  ·simp[h]
  ·exact List.mem_cons_of_mem _ (hsubl.subset h)
 have hsub3:∀i x,x∈G'.loc i->x∈G.loc i:=fun i x hx=>by
  by_cases hi:i=id
  ·subst hi;exact hsub2 x hx
  ·rw[l3 i hi] at hx;exact hx
 have hcl:∀b' o,o<G.F b'->o<G.F b'/\(w.setRow b vs').cell? ⟨b',o,none⟩=w.cell? ⟨b',o,none⟩:=fun b' o ho=>by
  have hne:b'≠b:=fun e=>by subst e;rw[hF] at ho;omega
  exact⟨ho,cell_setRow_other w b vs' _ hne⟩
 have hs0:(getH s.hp id).isSome:=by rw[hb];rfl
 have hne:∀i,(getH s.hp i).isSome->i≠id->∀b',b'∈G.loc i->b'≠b:=fun i hi hne b' hb' e=>by
  subst e;exact hr.disj i id hi hs0 hne b' hb' hbl
 have hm:∀ {x:AV}{v:Value},RelA G (tokf s.hp) w x v->RelA G' (tokf s.hp) (w.setRow b vs') x v:=fun hx=>
  hx.mono hcl (fun i _=>by
   by_cases hi:i=id
   ·subst hi;exact .inr ⟨hTn,by rw[l1,hT.loc];rfl⟩
   ·exact .inl (l3 i hi)) (fun i _ p hp=>⟨hp,fun b' hb'=>⟨hother b' (hne i ?_ ?_ b' hb'),rfl⟩⟩)
 ·have hget:∀i,(getH ((id,some (Res.tree cs'))::s.hp) i).isSome->(getH s.hp i).isSome:=fun i h=>by
   rw[zan] at h;split at h
   ·rename_i e;subst e;exact hs0
   ·exact h
  have hbnew:=hr.new id hs0 b hbl;refine⟨G',⟨hr.size,hr.defers,fun i v h=>by rw[htok];exact hm (hr.slots i v h),fun i r h=>?_,fun i j h1 h2 h3 x hx hx2=>hr.disj i j (hget i h1) (hget j h2) h3 x (hsub3 i x hx) (hsub3 j x hx2),
   fun i h x hx=>hr.new i (hget i h) x (hsub3 i x hx),
   hr.frm.trans (own1:=[b]) ⟨rfl,rfl,rfl,by simp,fun k _ hk=>⟨hother k (fun e=>hk (by simp[e])),rfl⟩,hcl⟩ (fun k hk=>by simp only[List.mem_singleton] at hk;subst hk;exact hbnew),
   fun k hk=>hr.top k (by simpa using hk),fun i l hl'=>?_⟩,rfl⟩
  ·rw[htok];have h':getH ((id,some (Res.tree cs'))::s.hp) i=some r:=h;rw[zan] at h';by_cases hi:i=id
   ·subst hi;rw[if_pos rfl] at h';cases h'
    refine⟨b,vs',e,Ss',l1,setRow_heap w b vs vs' e _ hT.at_,by rw[hlen,hsz];exact hT.len, ?_,fun x hx=>?_,fun j hj hv=>(hcell j hj hv).map hm (fun x hx=>hother x (fun e=>?_))⟩
    ·rw[l1];exact List.nodup_cons.2 ⟨fun h=>hnd'.1 (hsubl.subset h),hsubl.nodup hnd'.2⟩
    ·have:=hT.mine x (hsub2 x hx);exact⟨this.1,by simpa using this.2⟩
    ·subst e;exact hnd'.1 (List.mem_flatMap.2 ⟨j,List.mem_range.2 (by omega),(hsub j (by omega)).subset hx⟩)
   ·rw[if_neg hi] at h';have hh:=hr.heap i r h';have hs:(getH s.hp i).isSome:=by rw[h'];rfl
    have hne':=hne i hs hi;have hl:=l3 i hi;cases r with
    |box cs2=>
     obtain⟨b2,vs2,e2,h1,h2,h3,h4,h5⟩:=hh;exact⟨b2,vs2,e2,hl.trans h1,(hother b2 (hne' b2 (by simp[h1]))).trans h2,h3,h4,fun j hj hv=>hm (h5 j hj hv)⟩
    |tok n k=>exact fun b2 h1=>by rw[hl] at h1;simpa using hh b2 h1
    |map ks=>
     obtain⟨b2,es,cl,h1,h2,h3⟩:=hh;exact⟨b2,es,cl,hl.trans h1,(hother b2 (hne' b2 (by simp[h1]))).trans h2,h3⟩
    |tree cs2=>exact zbv hh hl (fun b' hb'=>⟨hother b' (hne' b' hb'),rfl⟩) (by simp) (fun _ _ _=>hm)
  ·have hk:=hr.kept i l hl';show(G'.loc i).head?=l.head?/\(getH ((id,some (Res.tree cs'))::s.hp) i).isSome/\tokf ((id,some (Res.tree cs'))::s.hp) i=none
   refine⟨?_, ?_,by rw[htok];exact hk.2.2⟩
   ·by_cases hi:i=id
    ·subst hi;rw[l1,<-hk.1,hT.loc];rfl
    ·rw[l3 i hi];exact hk.1
   ·rw[zan];split
    ·rfl
    ·exact hk.2.1
 ·obtain⟨n,q⟩:=p;rw[zav.1 hp];rfl
 ·rintro rfl
  rw[hTn] at hp;cases hp
end
section
variable {c:Ctx}{all:Array Oper}{chk:List Rec->Prop}{os:List Oper}{recs:List Rec}{env:Env}{hp:Hp}{Q:St->Prop}
variable {d ty:Nat}{pos:String}{af:Array Edge}{g:Option (Nat×Bool)}{pg:List (Nat×AV)}
variable {t yt:TypeId}{x y:Operand}
theorem xbg {id off k:Nat}{b:Bool}{v:AV}{cs vs cs':List AV} (ht:TyS c.P t k b) (hg:GH all env g pg) (hx:opd env x=some (.ref id off)) (hy:opd env y=some v)
  (hb:getH hp id=some (.tree cs)) (hv:zb4 v=some vs) (hk:vs.length=k) (h1:zhi vs=true) (hne:vs≠[]) (hput:putC cs off vs=some cs')
  (hn:Walk c all chk os (zat (pg++(opF x (.ref id off)++opF y v)) [(id,.tree cs)] [] ⟨none,[(id,some (.tree cs'))]⟩::recs) ⟨env,(id,some (.tree cs'))::hp⟩ Q):
  Walk c all chk (⟨none,.store t x y,ty,pos,af,g⟩::os) recs ⟨env,hp⟩ Q:=by
 refine⟨pg++(opF x (.ref id off)++opF y v),[(id,.tree cs)],[],_, ?_,zaD hg.facts (zaD (za2 hx) (za2 hy)),hh1 hb,by simp,hn⟩;intro s a w hrel hp' hh _ K Q' hK;obtain⟨G,hr⟩:=hrel;have hbx:=hh1' hh;have e1:=hr.opd (za3 hx (fun p hm=>hp' p (by simp[hm])));have e2:=hr.opd (za3 hy (fun p hm=>hp' p (by simp[hm])));obtain⟨bl,hl,he⟩:=e1.ref_eq;obtain⟨b',us,e,Ss,hT⟩:=hr.heap id _ hbx;obtain rfl:=hT.head hl.1;have hvr:=zgU e2 hv;obtain⟨p1,p2,p3⟩:=zce hput;have p2':=p2.resolve_left hne;have hsz:=hvr.size;have h4:=hT.len;let vl:=(a.eval y).cells.toList
 have hvl:vl.length=vs.length:=by simp[vl,hsz]
 have hst:=run_storeCells_at c.P bl off e vl 0 us w hT.at_ (by omega) (fun u hu=>by
  obtain⟨i,hi,rfl⟩:=List.getElem_of_mem hu;have hi':i<vs.length:=by omega
  have:=hvr.rel i hi' (by simpa [vl] using hi);simpa [vl] using this.one (zgS h1 _ (List.getElem_mem hi')))
 simp only[Nat.add_zero] at hst;let row:Array Value:=(us.toList.take off++vl++us.toList.drop (off+vl.length)).toArray
 have hrs:row.size=us.size:=by
  simp only[row,List.size_toArray,xaa,List.length_take,List.length_drop,Array.length_toList];omega
 have hrow:∀i,row[i]?=if off<=i/\i<off+vl.length then vl[i-off]? else us[i]?:=fun i=>by
  simp only[row,List.getElem?_toArray];rw[List.append_assoc,List.getElem?_append];simp only[List.length_take,Array.length_toList];by_cases hi:i<off
  ·rw[if_pos (by omega),if_neg (by omega)];simp[hi]
  ·rw[if_neg (by omega),List.getElem?_append];have hm:min off us.size=off:=by omega
   rw[hm];by_cases hi2:i<off+vl.length
   ·rw[if_pos (by omega),if_pos (by omega)]
   ·rw[if_neg (by omega),if_neg (by omega)];rw[List.getElem?_drop,show off+vl.length+(i-off-vl.length)=i by omega];simp
 let Ss':Nat->List Nat:=fun i=>if off<=i/\i<off+vs.length then [] else Ss i
 obtain⟨G',hR,_⟩:=hr.setTree (cs':=cs') (vs':=row) (Ss':=Ss') hbx hT p1 hrs (fun i hi=>by
  simp only[Ss'];split
  ·exact List.nil_sublist _
  ·exact List.Sublist.refl _) (fun i hi hvi=>by
  have q1:=p3 i;have q2:=hrow i;rw[List.getElem?_eq_getElem hi] at q1;rw[Array.getElem?_eq_getElem hvi,hvl] at q2;by_cases hc:off<=i/\i<off+vs.length
  ·rw[if_pos hc] at q1 q2;have hlt:i-off<vs.length:=by omega
   have hlt':i-off<(a.eval y).cells.size:=by omega
   rw[List.getElem?_eq_getElem hlt] at q1;have q3:vl[i-off]?=some (a.eval y).cells[i-off]:=by simp[vl,hlt']
   rw[q3] at q2;have h5:Ss' i=[]:=by simp[Ss',hc]
   rw[h5,Option.some.inj q1,Option.some.inj q2];have h6:=hvr.rel (i-off) hlt hlt';revert h6
   generalize vs[i-off]=z;intro h6;cases z with
   |own m y=>cases h6
   |_=>exact⟨rfl,h6⟩
  ·rw[if_neg hc] at q1 q2;have hlt:i<cs.length:=by omega
   have hlt':i<us.size:=by omega
   rw[List.getElem?_eq_getElem hlt] at q1;rw[Array.getElem?_eq_getElem hlt'] at q2;have h5:Ss' i=Ss i:=by simp only[Ss'];rw[if_neg hc]
   rw[h5,Option.some.inj q1,Option.some.inj q2];exact hT.cell i hlt hlt')
 unfold wpO;rw[if_pos (hg.gf.wanted hr (fun p hm=>hp' p (by simp[hm])))];unfold Oper.wp;have hrun:(execOp a.eval ⟨none,.store t x y,ty,pos,af,g⟩).run c.P w = .ok .skip (w.setRow bl row):=by
  have hsz2:(a.eval y).cells.size=k:=by omega
  simp only[execOp,he,Instr.storeAt,Instr.sureAddr,Sem.run_bind,Sem.run_pure,Result.andThen_ok,storeVar,ht.run_size];simp only[hsz2,ne_eq,not_true_eq_false,if_false];have hst':=hst;simp only[vl] at hst';simp only[Result.andThen_ok,hst',row,vl]
 rw[hrun,Oper.upon_skip];exact hK _ _ ⟨G',hR.putNone⟩
end
def zbV:AV->Bool
 | .d x=>zfq x
 | .nils=>true
 | .ref _ _=>true
 | .ms _ _=>true
 | .gt _ _=>true
 | .tup vs=>flatL vs
 | .agg vs=>flatL vs
 | .any=>true
 |_=>false
where flatL:List AV->Bool
 | []=>true
 |x::r=>zbV x&&flatL r
theorem zlC:∀ {l:List AV},zbV.flatL l=true->∀i (hi:i<l.length),zbV l[i]=true
 |x::r,h,i,hi=>by
  simp only[zbV.flatL,xad] at h;cases i with
  |zero=>exact h.1
  |succ i=>exact zlC h.2 i (by simpa using hi)
theorem RelD.flat {F F':Nat->Nat}{w w':World}{x:D}{v:Value} (hf:zfq x=true) (h:RelD F w x v):RelD F' w' x v:=by
 cases h with
 |int k n=>exact .int _ _
 |bool b=>exact .bool _
 |str s=>exact .str _
 |nil=>exact .nil
 |emp b off s cap=>exact .emp b off s cap
 |sl xs k b off cap c hk hcap hc hr=>
  cases xs with
  |nil=>exact .sl [] k b off cap c hk hcap (fun n hn=>by simp at hn) (fun i hi=>by simp at hi)
  |cons x r=>simp[zfq] at hf
 |ptr cs b o off c hc hr=>simp[zfq] at hf
 |nilp=>simp[zfq] at hf
theorem RelA.flat {G G':Gh}{T:TokF}{w:World}{x:AV}{v:Value} (h:RelA G T w x v):zbV x=true->(∀id,id∈x.ids->G'.loc id=G.loc id)->(∀id,id∈x.ids->∀b,b∈G.loc id->G'.F b=G.F b)->RelA G' T w x v:=by
 induction h with
 |d h=>intro hf _ _;exact .d (h.flat hf)
 |gl h ht=>intro hf;simp[zbV] at hf
 |gv hv ht=>intro hf;simp[zbV] at hf
 | @gt id xs v hv ht=>
  intro hf hl hF;refine .gt hv (fun n k hT=>⟨(ht n k hT).1,fun hn=>?_⟩);obtain⟨h1,h2⟩:=(ht n k hT).2 hn;exact⟨h1,h2.mono hn h1 (hl id (by simp[AV.ids])) (fun b hb=>⟨rfl,hF id (by simp[AV.ids]) b hb⟩)⟩
 |ref h hT=>intro hf hl _;exact .ref (by rw[hl _ (by simp[AV.ids])];exact h) hT
 |ms h hT hcap=>intro hf hl _;exact .ms (by rw[hl _ (by simp[AV.ids])];exact h) hT hcap
 |mo h hT hcap ho=>intro hf;simp[zbV] at hf
 |mapr h hT=>intro hf;simp[zbV] at hf
 |fn hn h ih=>intro hf;simp[zbV] at hf
 | @agg cs vs hn h ih=>
  intro hf hl hF;simp only[zbV] at hf;exact .agg hn (fun i hi hv=>ih i hi hv (zlC hf i hi) (fun id hid=>hl id (by simp only[AV.ids];exact xaj (List.getElem_mem hi) hid)) (fun id hid=>hF id (by simp only[AV.ids];exact xaj (List.getElem_mem hi) hid)))
 | @tup cs vs hn h ih=>
  intro hf hl hF;simp only[zbV] at hf;exact .tup hn (fun i hi hv=>ih i hi hv (zlC hf i hi) (fun id hid=>hl id (by simp only[AV.ids];exact xaj (List.getElem_mem hi) hid)) (fun id hid=>hF id (by simp only[AV.ids];exact xaj (List.getElem_mem hi) hid)))
 |nils=>intro _ _ _;exact .nils
 |sn h hn=>intro hf;simp[zbV] at hf
 |any v=>intro _ _ _;exact .any v
mutual
inductive Lent (lr:List (Nat×Res)):AV->AV->Prop
 |le {x y} (h:LeA x y):Lent lr x y
 |ms {id n m k}{xs:List (List D)} (hb:(id,.tree (zaf m xs))∈lr) (hk:∀x,x∈xs->x.length=k) (hn:n=xs.length):Lent lr (.ms id n) (.d (.sl xs))
 |agg {cs ds} (h:LentL lr cs ds):Lent lr (.agg cs) (.agg ds)
inductive LentL (lr:List (Nat×Res)):List AV->List AV->Prop
 |nil:LentL lr [] []
 |cons {x y l m} (h:Lent lr x y) (t:LentL lr l m):LentL lr (x::l) (y::m)
end
theorem LentL.len {lr:List (Nat×Res)}:∀ {cs ds:List AV},LentL lr cs ds->cs.length=ds.length
 | [],_,h=>by cases h;rfl
 |x::r,_,h=>by cases h with|cons h t=>simp[t.len]
theorem LentL.at {lr:List (Nat×Res)}:∀ {cs ds:List AV},LentL lr cs ds->∀i (hi:i<cs.length) (hj:i<ds.length),Lent lr cs[i] ds[i]
 | [],_,_,i,hi,_=>by simp at hi
 |x::r,_,h,i,hi,hj=>by
  cases h with
  |cons h t=>
   cases i with
   |zero=>exact h
   |succ i=>exact LentL.at t i (by simpa using hi) (by simpa using hj)
def zgh (G:Gh) (lr:List (Nat×Res)) (b:Nat):Bool:=lr.any fun p=>zaZ b (G.loc p.1)
theorem zoF {G:Gh}{lr:List (Nat×Res)}{b:Nat}:zgh G lr b=true↔∃p,p∈lr/\b∈G.loc p.1:=by
 simp only[zgh,List.any_eq_true,zaP]
def zfW:List (Nat×Res)->Bool
 | []=>true
 |(_,.tree _)::r=>zfW r
 |_=>false
theorem zmb:∀ {lr:List (Nat×Res)},zfW lr=true->∀p,p∈lr->∃cs,p.2 = .tree cs
 |(i,.tree cs)::r,h,p,hp=>by
  rcases List.mem_cons.1 hp with rfl|hp
  ·exact⟨cs,rfl⟩
  ·exact zmb (lr:=r) h p hp
def zeU (G:Gh) (w:World) (lr:List (Nat×Res)):Gh:={ G with F:=fun b=>bif zgh G lr b then szB w b else G.F b }
section
variable {c:Ctx}{G:Gh}{s:St}{a:Act}{w:World}{lr:List (Nat×Res)}
theorem zhW (hr:R c G s a w) (hh:∀p,p∈lr->getH s.hp p.1=some p.2) (hall:zfW lr=true){b:Nat} (hb:zgh G lr b=true):G.F b=0/\b<w.heap.size:=by
 obtain⟨p,hp,hbp⟩:=zoF.1 hb;obtain⟨cs,hcs⟩:=zmb hall p hp;have:=hr.heap p.1 _ (hh p hp);rw[hcs] at this;obtain⟨b',vs,e,Ss,hT⟩:=this;exact hT.mine b hbp
theorem ztQ (hr:R c G s a w) (hh:∀p,p∈lr->getH s.hp p.1=some p.2) (hall:zfW lr=true):∀b o,o<G.F b->o<(zeU G w lr).F b/\w.cell? ⟨b,o,none⟩=w.cell? ⟨b,o,none⟩:=by
 intro b o ho;refine⟨?_,rfl⟩;simp only[zeU];cases hb:zgh G lr b with
 |true=>rw[(zhW hr hh hall hb).1] at ho;omega
 |false=>exact ho
theorem ztR (hr:R c G s a w) (hh:∀p,p∈lr->getH s.hp p.1=some p.2) (hall:zfW lr=true){x:AV}{v:Value} (hR:RelA G (tokf s.hp) w x v):
  ∀ {y:AV},Lent lr x y->RelA (zeU G w lr) (fun _=>none) w y v:=by
 have base:∀ {x:AV}{v:Value},RelA G (tokf s.hp) w x v->RelA (zeU G w lr) (fun _=>none) w x v:=fun h=>
  h.mono (ztQ hr hh hall) (fun _ _=> .inl rfl) (fun _ _ p hp=>by cases hp)
 induction hR with
 | @ms id n b cap h hT hcap=>
  intro y hy;cases hy with
  |le h=>exact(base (.ms (by assumption) hT hcap)).le h
  | @ms _ _ m k xs hb hk hn=>
   subst hn;obtain⟨b',vs,e,Ss,hTr⟩:=hr.heap id _ (hh _ hb);obtain rfl:=hTr.head h;have hlen:(zaf m xs).length=xs.length*k:=zbZ hk;have hle:xs.length*k<=vs.size:=by have:=hTr.len;omega
   have hS:∀x,x∈G.loc id->szB w x<=(zeU G w lr).F x:=fun x hx=>by
    simp only[zeU,zoF.2 ⟨_,hb,hx⟩,cond_true];exact Nat.le_refl _
   have hbl:b∈G.loc id:=by rw[hTr.loc];simp
   have hsz:szB w b=vs.size:=by simp[szB,hTr.at_]
   refine .d (.sl xs k b 0 cap (fun n=>vs.getD n undef) hk hcap (fun n hn=>⟨by have:=hS b hbl;omega, ?_⟩) (fun i hi j hj=>?_))
   ·have:n<vs.size:=by omega
    simp[World.cell?,hTr.at_,this]
   ·have hjk:j<k:=by rw[<-hk _ (List.getElem_mem hi)];exact hj
    have hlt:i*k+j<(zaf m xs).length:=by rw[hlen];exact zet hi hjk
    have hlv:i*k+j<vs.size:=Nat.lt_of_lt_of_le hlt hTr.len;have h1:=hTr.cell (i*k+j) hlt hlv;have h2:=zgj (m:=m) hk hi hj;rw[List.getElem?_eq_getElem hlt] at h2;rw[Option.some.inj h2] at h1;rw[zkW hlv];have hsub:∀x,x∈Ss (i*k+j)->x∈G.loc id:=fun x hx=>by
     rw[hTr.loc];exact List.mem_cons_of_mem _ (List.mem_flatMap.2 ⟨_,List.mem_range.2 hlt,hx⟩)
    have tr:∀ {y:D}{u:Value},TreeD m w y u (Ss (i*k+j))->RelD (zeU G w lr).F w y u:=fun h=>h.toD (fun x hx=>hS x (hsub x hx));have pl:∀ {y:D}{u:Value},zfq y=true->RelA G (tokf s.hp) w (.d y) u->RelD (zeU G w lr).F w y u:=fun hf h=>h.d_inv.flat hf;generalize xs[i][j]=y at h1;cases y with
    |int kd q=>exact pl rfl h1.2
    |bool q=>exact pl rfl h1.2
    |str q=>exact pl rfl h1.2
    |sl ys=>exact tr h1
    |ptr q r=>exact tr h1
    |nilp=>exact tr h1
 | @agg cs vs hn h ih=>
  intro y hy;cases hy with
  |le hle=>exact(base (.agg hn h)).le hle
  |agg hl=>
   refine .agg (by rw[hn,hl.len]) (fun i hi hv=>?_);have hc:i<cs.length:=by rw[hl.len];exact hi
   exact ih i hc hv (hl.at i hc hi)
 |d h=>intro y hy;cases hy with|le hle=>exact(base (.d h)).le hle
 |gl h ht=>intro y hy;cases hy with|le hle=>exact(base (.gl h ht)).le hle
 |gv h ht=>intro y hy;cases hy with|le hle=>exact(base (.gv h ht)).le hle
 |gt h ht=>intro y hy;cases hy with|le hle=>exact(base (.gt h ht)).le hle
 |ref h ht=>intro y hy;cases hy with|le hle=>exact(base (.ref h ht)).le hle
 |mo h hT hc ho=>intro y hy;cases hy with|le hle=>exact(base (.mo h hT hc ho)).le hle
 |mapr h ht=>intro y hy;cases hy with|le hle=>exact(base (.mapr h ht)).le hle
 |fn hn h ih=>intro y hy;cases hy with|le hle=>exact(base (.fn hn h)).le hle
 |tup hn h ih=>intro y hy;cases hy with|le hle=>exact(base (.tup hn h)).le hle
 |nils=>intro y hy;cases hy with|le hle=>exact(base .nils).le hle
 |sn h hn=>intro y hy;cases hy with|le hle=>exact(base (.sn h hn)).le hle
 |any v=>intro y hy;cases hy with|le hle=>exact(base (.any v)).le hle
def zkV:Res->Bool
 | .tok _ _=>true
 | .tree cs=>cs.all (fun x=>match x with | .own _ _=>true|x=>zbV x)&&(AV.idsL cs).isEmpty
 |_=>false
def zc6 (hp0:Hp) (r:AV) (cr:List Nat):Bool:=match hp0 with
 | []=>zbV r&&r.ids.isEmpty
 | [(id,some x)]=>zaZ id cr&&zbV r&&subB r.ids [id]&&zkV x
 |_=>false
theorem ztd (hr:R c G s a w) (hh:∀p,p∈lr->getH s.hp p.1=some p.2) (hall:zfW lr=true){f:FuncId}{vs avs:List AV}{Post:AV->Hp->Prop}{vals:Array Value} (hf:Fn c.P f avs [] Post)
  (hargs:AllR G (tokf s.hp) w vs vals) (hl:LentL lr vs avs) (cr:List Nat) (hcr:∀id,id∈cr->getH s.hp id=none/\zcU id s):
  Calls c.P f vals w fun e w'=>∃v r hp0,e = .returned v/\Post r hp0/\(zc6 hp0 r cr=true->
   ∃G',R c G' { s with hp:=hp0++s.hp } a w'/\RelA G' (tokf (hp0++s.hp)) w' r v):=by
 have hTn:tokf []=fun _=>none:=by funext i;rfl
 have hok:HOK (zeU G w lr) w [] avs vals:=by
  refine⟨⟨by rw[hargs.size,hl.len],fun i hi hv=>?_⟩,fun id r h=>(by cases h),fun id id' h1=>(by cases h1),fun b hb=>?_⟩
  ·have hc:i<vs.length:=by rw[hl.len];exact hi
   rw[hTn];exact ztR hr hh hall (hargs.rel i hc hv) (hl.at i hc hi)
  ·simp only[zeU];cases hb':zgh G lr b with
   |true=>have:=(zhW hr hh hall hb').2;omega
   |false=>exact hr.top b hb
 refine(hf _ w vals hok).mono ?_;rintro e w' ⟨v,r,hp0,G',rfl,hP,hret⟩
 refine⟨v,r,hp0,rfl,hP,fun hchk=>?_⟩;have hown:∀b,b∉zb0 (zeU G w lr) []:=fun b hb=>by simp[zb0] at hb
 have hnew:∀id,(getH (hp0++[]) id).isSome->∀b,b∈G'.loc id->w.heap.size<=b:=fun id h b hb=>(hret.new id h b hb).resolve_left (hown b);let F2:Nat->Nat:=fun b=>bif zgh G lr b then 0 else G'.F b
 have hnl:∀b,w.heap.size<=b->zgh G lr b=false:=fun b hb=>by
  cases hb':zgh G lr b with
  |true=>have:=(zhW hr hh hall hb').2;omega
  |false=>rfl
 have hr2:R c ⟨F2,G.loc⟩ s a w':=by
  refine hr.grow (fun b hb=>?_) rfl hret.frm.os hret.frm.tape hret.frm.output hret.frm.size (fun b hb=>?_)
  ·obtain⟨h1,h2⟩:=hret.frm.block b hb (hown b);refine⟨h1, ?_⟩;simp only[F2];cases hb':zgh G lr b with
   |true=>exact(zhW hr hh hall hb').1.symm
   |false=>simp only[cond_false,h2,zeU,hb']
  ·have:=hret.frm.size;simp only[F2,hnl b (by omega),cond_false];exact hret.top b hb
 match hp0,hchk,hret,hnew,hP with
 | [],hchk,hret,hnew,hP=>
  simp only[zc6,xad,List.isEmpty_iff] at hchk;refine⟨_,hr2, ?_⟩;have hi:∀id,id∈r.ids->False:=fun id hid=>by rw[hchk.2] at hid;simp at hid
  exact(hret.res.flat (G':=⟨F2,G'.loc⟩) hchk.1 (fun _ _=>rfl) (fun id hid=>(hi id hid).elim)).mono (fun _ _ ho=>⟨ho,rfl⟩) (fun id hid=>(hi id hid).elim) (fun id hid=>(hi id hid).elim)
 | [(id,some x)],hchk,hret,hnew,hP=>
  simp only[zc6,xad] at hchk;obtain⟨⟨⟨k1,k2⟩,k3⟩,k4⟩:=hchk;obtain⟨h0,hocc⟩:=hcr id (zaP.1 k1);have hid:(getH ([(id,some x)]++[]) id).isSome:=by simp[getH]
  have hr3:=hr2.rename h0 hocc (G'.loc id);let G3:Gh:={ F:=F2,loc:=fun i=>bif Nat.beq i id then G'.loc id else G.loc i }
  have l1:G3.loc id=G'.loc id:=by simp[G3]
  have l3:∀i,i≠id->G3.loc i=G.loc i:=fun i h2=>by simp[G3,zdu h2]
  have hFid:∀b,b∈G'.loc id->F2 b=G'.F b:=fun b hb=>by simp only[F2,hnl b (hnew id hid b hb),cond_false]
  have hx:=hret.heap id x (by simp[getH]);have hxr:RelR G3 (tokf ((id,some x)::s.hp)) w' id x:=by
   cases x with
   |tok n k=>exact fun b hb=>by rw[l1] at hb;exact hx b hb
   |tree cs=>
    simp only[zkV,xad,List.isEmpty_iff] at k4;obtain⟨b,us,e,Ss,hT⟩:=hx;refine⟨b,us,e,Ss,l1.trans hT.loc,hT.at_,hT.len,by rw[l1];exact hT.nodup,fun b' hb'=>?_,fun i hi hv=>?_⟩
    ·rw[l1] at hb';exact⟨(hFid b' hb').trans (hT.mine b' hb').1,(hT.mine b' hb').2⟩
    ·have h6:=hT.cell i hi hv;have h7:=List.all_eq_true.1 k4.1 _ (List.getElem_mem hi);have h8:∀j,j∈(cs[i]).ids->False:=fun j hj=>by
      have:=xaj (List.getElem_mem hi) hj;rw[k4.2] at this;simp at this
     revert h6 h7 h8
     generalize cs[i]=z;intro h6 h7 h8;have conv:zbV z=true->RelA G' (tokf ([(id,some (Res.tree cs))]++[])) w' z us[i]->RelA G3 (tokf ((id,some (Res.tree cs))::s.hp)) w' z us[i]:=fun hf hz=>
      (hz.flat (G':=⟨F2,G'.loc⟩) hf (fun _ _=>rfl) (fun j hj=>(h8 j hj).elim)).mono (fun _ _ ho=>⟨ho,rfl⟩) (fun j hj=>(h8 j hj).elim) (fun j hj=>(h8 j hj).elim)
     cases z with
     |own m y=>exact h6
     |_=>exact⟨h6.1,conv h7 h6.2⟩
   |box cs=>simp[zkV] at k4
   |map ks=>simp[zkV] at k4
  refine⟨G3,hr3.name h0 hocc hxr (fun i hi b hb hb2=>?_) (fun b hb=>?_), ?_⟩
  ·have hne:i≠id:=fun e=>by subst e;rw[h0] at hi;cases hi
   have hb3:b∈G.loc i:=by have:=l3 i hne;rw[<-this];exact hb
   have hb4:b∈G'.loc id:=by rw[<-l1];exact hb2
   obtain⟨r',hr'⟩:=Option.isSome_iff_exists.1 hi;have:=(hr.heap i r' hr').bound b hb3;have:=hnew id hid b hb4;omega
  ·have hb4:b∈G'.loc id:=by rw[<-l1];exact hb
   have:=hnew id hid b hb4;have:=hr.frm.size;right;omega
  ·have hsub:∀j,j∈r.ids->j=id:=fun j hj=>by simpa using zjt k3 j hj
   refine(hret.res.flat (G':=⟨F2,G'.loc⟩) k2 (fun _ _=>rfl) (fun j hj b hb=>?_)).mono (fun _ _ ho=>⟨ho,rfl⟩) (fun j hj=> .inl ?_) (fun j hj p hp=>?_)
   ·rw[hsub j hj] at hb;exact hFid b hb
   ·rw[hsub j hj];exact l1
   ·rw[hsub j hj] at hp ⊢;refine⟨?_,fun _ _=>⟨rfl,rfl⟩⟩;have e1:getH ([(id,some x)]++s.hp) id=some x:=by simp[getH]
    have e2:getH ([(id,some x)]++[]) id=some x:=by simp[getH]
    unfold tokf at hp ⊢;rw[e1] at hp;rw[e2];exact hp
end
section
variable {c:Ctx}{all:Array Oper}{chk:List Rec->Prop}{os:List Oper}{recs:List Rec}{env:Env}{hp:Hp}{Q:St->Prop}
variable {d ty:Nat}{pos:String}{af:Array Edge}{g:Option (Nat×Bool)}{pg:List (Nat×AV)}
def subR:List (Nat×Res)->Hp->Prop
 | [],_=>True
 |(i,r)::t,hp=>getH hp i=some r/\subR t hp
theorem znr:∀ {lr:List (Nat×Res)}{hp:Hp},subR lr hp->∀p,p∈lr->getH hp p.1=some p.2
 | [],_,_,p,h=>by simp at h
 |(i,r)::t,hp,hs,p,h=>by
  rcases List.mem_cons.1 h with rfl|h
  ·exact hs.1
  ·exact znr hs.2 p h
theorem xaU {f:FuncId}{args:Array Operand}{ats:Array TypeId}{xs:List Operand}{vs avs:List AV}{lr:List (Nat×Res)}{hp0:Hp}{r:AV}{cr:List Nat} (hc:Callee c.P f) (hf:FnD c.P f avs [] r hp0)
  (hargs:args=xs.toArray) (hg:GH all env g pg) (hd:Nat.blt d c.n=true) (hx:opdL env xs=some vs) (hle:LentL lr vs avs) (hsub:subR lr hp) (hall:zfW lr=true) (hok:zc6 hp0 r cr=true)
  (hcr:zak env hp cr=true)
  (hn:Walk c all chk os (zat (pg++opFL xs vs) lr cr ⟨some (d,r),hp0⟩::recs) ⟨(d,r)::env,hp0++hp⟩ Q):
  Walk c all chk (⟨some d,.call ⟨.value (.func f),args,ats⟩,ty,pos,af,g⟩::os) recs ⟨env,hp⟩ Q:=by
 subst hargs;refine⟨pg++opFL xs vs,lr,cr,_, ?_,zaD hg.facts (zcE hx),znr hsub,zbD hcr,hn⟩;intro s a w hrel hp' hh hcr' K Q' hK;obtain⟨G,hr⟩:=hrel;have hrl:=zdo hr (zcF hx (fun p hm=>hp' p (by simp[hm])));have hall':AllR G (tokf s.hp) w vs (xs.map a.eval).toArray:=by
  refine⟨by simp[hrl.1],fun i hi hv=>?_⟩;have:=hrl.2 i hi (by rw[<-hrl.1];exact hi);simpa using this
 have hcalls:=ztd hr hh hall hf hall' hle cr hcr';unfold wpO;rw[if_pos (hg.gf.wanted hr (fun p hm=>hp' p (by simp[hm])))];unfold Oper.wp;have hrun:(execOp a.eval ⟨some d,.call ⟨.value (.func f),xs.toArray,ats⟩,ty,pos,af,g⟩).run c.P w = .ok (.enter f (xs.map a.eval).toArray) w:=by
  have:=hc.run (xs.map a.eval).toArray w;simp only[execOp,resolve,Sem.run_bind,Act.eval,Deferred.ofValue,Sem.run_pure,Result.andThen_ok,invoke];simpa using this
 rw[hrun,Oper.upon_enter];refine hcalls.mono ?_;rintro e w' ⟨v,r',hp1,rfl,⟨rfl,rfl⟩,h⟩
 obtain⟨G',hR,hA⟩:=h hok;exact hK _ _ ⟨G',hR.put hA hd⟩
end
def zk8:D->Bool
 | .int _ _=>true
 | .bool _=>true
 | .str _=>true
 |_=>false
theorem zjn {x:D} (h:zk8 x=true):zfq x=true/\x≠ .sl []:=by
 cases x with
 |sl _=>simp[zk8] at h
 |ptr _ _=>simp[zk8] at h
 |nilp=>simp[zk8] at h
 |_=>exact⟨rfl,fun h=>by cases h⟩
def FlatR (xs:List (List D)):Prop:=∀x,x∈xs->∀y,y∈x->zk8 y=true
theorem RelA.gt_inv {G:Gh}{T:TokF}{w:World}{id:Nat}{xs:List (List D)}{v:Value} (h:RelA G T w (.gt id xs) v):
  (∃a cap,v = .slice a xs.length cap)/\∀n k,T id=some (n,k)->xs.length<=n/\(n=xs.length->(∀x,x∈xs->x.length=k)/\TipT G w id n k v xs):=by
 cases h with|gt hv ht=>exact⟨hv,ht⟩
theorem TipV.tree {G:Gh}{w:World}{id n k:Nat}{v:Value}{xs:List (List D)} (hf:FlatR xs) (hne:n≠0) (hk:∀x,x∈xs->x.length=k) (h:TipV G w id n k v xs):TipT G w id n k v xs:=by
 rcases h with ⟨h1,h2,h3⟩|⟨b,cap,cs,e,h1,h2,h3,h4,h5,h6,h7⟩
 ·exact .inl ⟨h1,h2,h3⟩
 ·refine .inr ⟨b,cap,cs,e,fun _=>[],by rw[h1];simp,h2,h4,h5,h6,by rw[h1];simp,fun b' hb'=>?_,fun i hi j hj=> .ofFlat (zjn (hf _ (List.getElem_mem hi) _ (List.getElem_mem hj))).1 (.inr (zjn (hf _ (List.getElem_mem hi) _ (List.getElem_mem hj))).2) (h7 i hi j hj),fun h=>absurd h hne⟩;rw[h1] at hb';simp only[List.mem_singleton] at hb';rw[hb'];exact h3
theorem zaG {α:Type}{o j:Nat}:∀ {A B B' vs:List α},A.length=o->putC B j vs=some B'->putC (A++B) (o+j) vs=some (A++B'):=by
 intro A B B' vs ha h;subst ha;induction A with
 |nil=>simpa using h
 |cons x r ih=>
  cases vs with
  |nil=>
   have e:B'=B:=by cases B<;>simp only[putC,Option.some.injEq] at h<;>exact h.symm
   subst e;simp[putC]
  |cons v vs=>
   have:(x::r).length+j=r.length+j+1:=by simp;omega
   rw[this];simp only[xag,putC,ih]
theorem zaX {α:Type}{o j:Nat}{A B:List α}{v:α} (ha:A.length=o) (h:B[j]?=some v):(A++B)[o+j]?=some v:=by
 subst ha;rw[List.getElem?_append_right (by omega)];simpa using h
theorem ztJ {α:Type}{o j k:Nat}:∀ {A B r:List α},A.length=o->cutC B j k=some r->cutC (A++B) (o+j) k=some r:=by
 intro A B r ha h;subst ha;cases k with
 |zero=>
  have e:r=[]:=by cases B<;>simp only[cutC,Option.some.injEq] at h<;>exact h.symm
  subst e;cases A++B<;>rfl
 |succ k=>
  induction A with
  |nil=>simpa using h
  |cons x t ih=>
   have:(x::t).length+j=t.length+j+1:=by simp;omega
   rw[this];simp only[xag,cutC];exact ih
theorem zoP {α:Type}{o:Nat}{A B B' vs:List α} (h1:A.length=o) (h2:putC B 0 vs=some B'):putC (A++B) o vs=some (A++B'):=zaG (j:=0) h1 h2
theorem zs1 {α:Type}{o k:Nat}{A B r:List α} (h1:A.length=o) (h2:cutC B 0 k=some r):cutC (A++B) o k=some r:=ztJ (j:=0) h1 h2
theorem zgw {α:Type}{o:Nat}{A vs zs:List AV}{y:α}{rest:List α} (h1:A.length=o) (h2:zs.length=vs.length):putC (A++zaI (y::rest).length zs) o vs=some (A++(vs++zaI rest.length zs)):=
 zoP (B:=zs++zaI rest.length zs) h1 (zkx h2)
theorem zcn {α:Type}{v x:α}:∀ {B:List α}{j:Nat},B[j]?=some x->putC B j [v]=some (B.set j v)
 | [],j,h=>by simp at h
 |y::r,0,_=>by simp only[putC,List.set_cons_zero]
 |y::r,j+1,h=>by simp only[putC,List.set_cons_succ,zcn (B:=r) (j:=j) (by simpa using h)]
theorem zhh {α:Type}{x0 v:α}{t:List α}:putC (x0::t) 0 [v]=some (v::t):=zcn (x:=x0) rfl
theorem zdd {α:Type}{x0 x1 v:α}{t:List α}:putC (x0::x1::t) 1 [v]=some (x0::v::t):=zcn (x:=x1) rfl
theorem zfc {α:Type}{x0 x1 x2 v:α}{t:List α}:putC (x0::x1::x2::t) 2 [v]=some (x0::x1::v::t):=zcn (x:=x2) rfl
theorem zrJ {α:Type}{x0 x1 x2 x3 v:α}{t:List α}:putC (x0::x1::x2::x3::t) 3 [v]=some (x0::x1::x2::v::t):=zcn (x:=x3) rfl
theorem zrK {α:Type}{x0 x1 x2 x3 x4 v:α}{t:List α}:putC (x0::x1::x2::x3::x4::t) 4 [v]=some (x0::x1::x2::x3::v::t):=zcn (x:=x4) rfl
theorem zfd {α:Type}{x0 x1 x2 x3 x4 x5 v:α}{t:List α}:putC (x0::x1::x2::x3::x4::x5::t) 5 [v]=some (x0::x1::x2::x3::x4::v::t):=zcn (x:=x5) rfl
theorem zrL {α:Type}{x0 x1 x2 x3 x4 x5 x6 v:α}{t:List α}:putC (x0::x1::x2::x3::x4::x5::x6::t) 6 [v]=some (x0::x1::x2::x3::x4::x5::v::t):=zcn (x:=x6) rfl
theorem zrM {α:Type}{x0 x1 x2 x3 x4 x5 x6 x7 v:α}{t:List α}:putC (x0::x1::x2::x3::x4::x5::x6::x7::t) 7 [v]=some (x0::x1::x2::x3::x4::x5::x6::v::t):=zcn (x:=x7) rfl
theorem zrN {α:Type}{x0 x1 x2 x3 x4 x5 x6 x7 x8 v:α}{t:List α}:putC (x0::x1::x2::x3::x4::x5::x6::x7::x8::t) 8 [v]=some (x0::x1::x2::x3::x4::x5::x6::x7::v::t):=zcn (x:=x8) rfl
theorem zuO {α:Type}{x0 x1 x2 x3 x4 x5:α}{t:List α}:cutC (x0::x1::x2::x3::x4::x5::t) 0 6=some [x0,x1,x2,x3,x4,x5]:=by simp[cutC]
theorem zcG (m:Bool) (xs:List (List D)):zkV (.tree (zaf m xs))=true:=by
 simp only[zkV,zaa,List.isEmpty_nil,Bool.and_true];unfold zaf;rw[List.all_map,List.all_eq_true];intro x _;cases x<;>rfl
def SubO:List Nat->Hp->Hp->Prop
 |_,[],_=>True
 |seen,(i,r)::t,hp=>(zaZ i seen=true\/getH hp i=r)/\SubO (i::seen) t hp
theorem SubO.get':∀ {l hp:Hp}{seen:List Nat},SubO seen l hp->∀id r,id∉seen->getH l id=some r->getH hp id=some r
 | [],hp,seen,_,id,r,_,h=>by cases h
 |(i,x)::t,hp,seen,h,id,r,hns,hg=>by
  rw[zan] at hg;by_cases hi:id=i
  ·subst hi;rw[if_pos rfl] at hg;rcases h.1 with h1|h1
   ·exact absurd (zaP.1 h1) hns
   ·rw[h1];exact hg
  ·rw[if_neg hi] at hg;exact SubO.get' h.2 id r (by simp[hi,hns]) hg
theorem SubO.get {l hp:Hp} (h:SubO [] l hp):HSub l hp:=fun id r hg=>SubO.get' h id r (by simp) hg
theorem HSub.over {i:Nat}{r r':Option Res}{hp:Hp} (h:getH hp i=r'):HSub ([(i,r')]++[(i,r)]) hp:=fun id x hx=>by
 have hx':getH ((i,r')::[(i,r)]) id=some x:=hx;rw[zan] at hx';by_cases hi:id=i
 ·subst hi;rw[if_pos rfl] at hx';rw[h];exact hx'
 ·rw[if_neg hi,zan,if_neg hi] at hx';cases hx'
theorem zac (n:Nat) (zs:List AV):AV.idsL (zaI n zs)=(List.replicate n (AV.idsL zs)).flatten:=by
 induction n with
 |zero=>rfl
 |succ n ih=>simp only[zaI,zab,ih,List.replicate_succ,List.flatten_cons]
theorem zal (n:Nat):(List.replicate n ([]:List Nat)).flatten=[]:=by
 induction n with
 |zero=>rfl
 |succ n ih=>simp only[List.replicate_succ,List.flatten_cons,ih,List.nil_append]
theorem LeA.gtg {id:Nat}{xs ys:List (List D)} (h:xs=ys):LeA (.gt id xs) (.gt id ys):=h ▸ .refl _
theorem xay {id n n':Nat} (h:n=n'):LeA (.ms id n) (.ms id n'):=h ▸ .refl _
theorem zcl (m:Bool) (P:List (List D)) (row:List D) (B:List AV):zaf m P++(row.map (ownD m)++B)=zaf m (P++[row])++B:=by simp[zaf]
theorem ze9 {α:Type}{f:α->List D}{k:Nat} (m:Bool){l:List α} (hk:∀x,x∈l->(f x).length=k):(zaf m (l.map f)).length=l.length*k:=by
 rw[zbZ (k:=k)]
 ·simp
 ·intro x hx;obtain⟨y,hy,rfl⟩:=List.mem_map.1 hx;exact hk y hy
theorem zeD (f:AV->AV) (zs:List AV):∀n,(zaI n zs).map f=zaI n (zs.map f)
 |0=>rfl
 |n+1=>by simp[zaI,zeD f zs n]
section
variable {c:Ctx}{env:Env}{hp:Hp}{K:Kt}{code:Code}
theorem xan (id off:Nat){x y:AV}{cs cs':List AV} (hb:getH hp id=some (.tree cs)) (hc:cs[off]?=some x) (hput:putC cs off [y]=some cs')
  (hxy:∀G T w v S,CellR G T w x v S->∃S',S'.Sublist S/\CellR G T w y v S')
  (hn:CWp c code ⟨env,(id,some (.tree cs'))::hp⟩ K):CWp c code ⟨env,hp⟩ K:=by
 rintro a w ⟨G,hr⟩
 obtain⟨b,vs,e,Ss,hT⟩:=hr.heap id _ hb;obtain⟨hoff,hcv⟩:=List.getElem?_eq_some_iff.1 hc;have hov:off<vs.size:=by have:=hT.len;omega
 obtain⟨p1,p2,p3⟩:=zce hput;have q0:=hT.cell off hoff hov;rw[hcv] at q0;obtain⟨S',h1,h2⟩:=hxy _ _ _ _ _ q0;obtain⟨G2,hR,_⟩:=hr.setTree (cs':=cs') (vs':=vs) (Ss':=fun i=>if i=off then S' else Ss i) hb hT p1 rfl (fun i _=>by
  by_cases hio:i=off
  ·subst hio;simpa using h1
  ·rw[if_neg hio];exact List.Sublist.refl _) (fun i hi hvi=>by
  have q1:=p3 i;rw[List.getElem?_eq_getElem hi] at q1;by_cases hio:i=off
  ·subst hio;rw[if_pos (by simp)] at q1;simp only[Nat.sub_self,List.getElem?_cons_zero,Option.some.injEq] at q1;rw[q1];simpa using h2
  ·rw[if_neg (by simp only[xab,xai];omega)] at q1;have hic:i<cs.length:=by omega
   rw[List.getElem?_eq_getElem hic] at q1;rw[Option.some.inj q1];have:=hT.cell i hic hvi;simpa [hio] using this)
 have hw:w.setRow b vs=w:=setRow_self w b vs e _ hT.at_;rw[hw] at hR;exact hn a w ⟨G2,hR⟩
theorem xao (id:Nat){cs:List AV} (cs':List AV) (hb:getH hp id=some (.tree cs)) (h:cs=cs') (hn:CWp c code ⟨env,(id,some (.tree cs'))::hp⟩ K):CWp c code ⟨env,hp⟩ K:=by
 subst h;rintro a w ⟨G,hr⟩
 refine hn a w ⟨G, ?_⟩;have hsame:∀i,getH ((id,some (Res.tree cs))::hp) i=getH hp i:=fun i=>by
  rw[zan];split
  ·rename_i e;subst e;exact hb.symm
  ·rfl
 have ht:tokf ((id,some (Res.tree cs))::hp)=tokf hp:=by funext i;unfold tokf;rw[hsame]
 exact⟨hr.size,hr.defers,fun i v h=>by rw[ht];exact hr.slots i v h,fun i r h=>by rw[ht];exact hr.heap i r (by rw[<-hsame];exact h),
  fun i j h1 h2=>hr.disj i j (by rw[<-hsame];exact h1) (by rw[<-hsame];exact h2),fun i h=>hr.new i (by rw[<-hsame];exact h),hr.frm,hr.top,
  fun i l h'=>by
   show(G.loc i).head?=l.head?/\(getH ((id,some (Res.tree cs))::hp) i).isSome/\tokf ((id,some (Res.tree cs))::hp) i=none
   rw[hsame,ht];exact hr.kept i l h'⟩
theorem xak (id off:Nat){m:Bool}{xs:List (List D)}{cs cs':List AV} (hb:getH hp id=some (.tree cs)) (hc:cs[off]?=some (.own m (.sl xs))) (hx:xs=[]) (hput:putC cs off [.d (.sl [])]=some cs')
  (hn:CWp c code ⟨env,(id,some (.tree cs'))::hp⟩ K):CWp c code ⟨env,hp⟩ K:=
 xan id off hb hc hput (fun G T w v S h=>⟨[],List.nil_sublist _,rfl,by subst hx;exact h.see⟩) hn
theorem xal (id off:Nat) (m:Bool) (hm:m=false){xs:List (List D)}{cs cs':List AV} (hb:getH hp id=some (.tree cs)) (hc:cs[off]?=some (.d (.sl []))) (hx:xs=[]) (hput:putC cs off [.own m (.sl xs)]=some cs')
  (hn:CWp c code ⟨env,(id,some (.tree cs'))::hp⟩ K):CWp c code ⟨env,hp⟩ K:=
 xan id off hb hc hput (fun G T w v S h=>⟨[],List.nil_sublist _,by subst hx;exact TreeD.ofFlat rfl (.inl hm) h.2.d_inv⟩) hn
end
def mkL {α:Type} (one:Int->α->α) (sz:α->Int):Int->List α->List α
 |_,[]=>[]
 |k,x::r=>one k x::mkL one sz (k+sz x) r
def szL {α:Type} (sz:α->Int):List α->Int
 | []=>0
 |x::r=>sz x+szL sz r
theorem zjv {α:Type}{sz:α->Int}:∀ {a b:List α},szL sz (a++b)=szL sz a+szL sz b
 | [],b=>by simp[szL]
 |x::r,b=>by simp only[xag,szL,zjv (a:=r)];omega
theorem zjh {α:Type}{one:Int->α->α}{sz:α->Int}:∀ {a b:List α}{k:Int},mkL one sz k (a++b)=mkL one sz k a++mkL one sz (k+szL sz a) b
 | [],b,k=>by simp[mkL,szL]
 |x::r,b,k=>by simp only[xag,mkL,szL,zjh (a:=r)];rw[show k+sz x+szL sz r=k+(sz x+szL sz r) by omega]
theorem zaw {α:Type}{one:Int->α->α}{sz:α->Int}:∀ {a:List α}{k:Int},(mkL one sz k a).length=a.length
 | [],_=>rfl
 |x::r,k=>by simp only[mkL,xab,zaw (a:=r)]
theorem zaT {α:Type}{one:Int->α->α}{sz:α->Int}{f:α->List D}{kk:Nat} (m:Bool) (hk:∀x,(f x).length=kk){l:List α}{k:Int}:(zaf m ((mkL one sz k l).map f)).length=l.length*kk:=by
 rw[ze9 (k:=kk) m (fun x _=>hk x),zaw]
theorem zbY {α:Type}{one:Int->α->α}{sz:α->Int}{a:List α}{y:α}{k:Int}:mkL one sz k (a++[y])=mkL one sz k a++[one (k+szL sz a) y]:=by
 rw[zjh];rfl
theorem zcQ {α:Type}{sz:α->Int}{a:List α}{y:α}:szL sz (a++[y])=szL sz a+sz y:=by
 rw[zjv];simp[szL]
theorem zaS {α:Type}{sz:α->Int} (h:∀x,0<=sz x):∀ {l:List α},0<=szL sz l
 | []=>by simp[szL]
 |x::r=>by have:=h x;have:=zaS h (l:=r);simp only[szL];omega
theorem zwj {α:Type}{one:Int->α->α}{sz:α->Int}{f:α->List D}{pre rest l:List α}{y:α}{k:Int} (h:pre++y::rest=l):
  ((mkL one sz k l).map f)[pre.length]?=some (f (one (k+szL sz pre) y)):=by
 subst h;rw[zjh,mkL,xaf,xae,List.getElem?_append_right (by simp[zaw])];simp[zaw]
def zh1:List (List D)->Option (List Int)
 | []=>some []
 | [.int .u8 n]::r=>match zh1 r with|some l=>some (n::l)|none=>none
 |_=>none
theorem zm6:∀ {xs:List (List D)}{ns:List Int},zh1 xs=some ns->xs=ns.map fun n=>[.int .u8 n]
 | [],ns,h=>by simp only[zh1,Option.some.injEq] at h;subst h;rfl
 |x::r,ns,h=>by
  unfold zh1 at h;split at h
  ·cases ‹_::_=[]›
  ·rename_i n r' he;cases he
   cases hr:zh1 r with
   |none=>simp[hr] at h
   |some l=>
    simp only[hr,Option.some.injEq] at h;subst h;rw[zm6 hr];rfl
  ·cases h
theorem zoO:∀(bs:List UInt8),zh1 (bs.map fun b=>[.int .u8 (b.toNat:Int)])=some (bs.map fun b=>(b.toNat:Int))
 | []=>rfl
 |b::r=>by simp only[xae,zh1,zoO r]
def strN (ns:List Int):List UInt8:=ns.map fun n=>UInt8.ofNat n.toNat
section
variable {c:Ctx}{all:Array Oper}{chk:List Rec->Prop}{os:List Oper}{recs:List Rec}{env:Env}{hp:Hp}{Q:St->Prop}
variable {d ty:Nat}{pos:String}{af:Array Edge}{g:Option (Nat×Bool)}{pg:List (Nat×AV)}
variable {t yt:TypeId}{x y:Operand}
theorem Walk.bytesStr {e yb:Nat}{xs:List (List D)}{ns:List Int}{vx:AV} (ht:SlT c.P t e 1 yb) (hyt:c.P.underlying yt=some .string) (hu:c.P.underlying e=some (.int .u8)) (hg:GH all env g pg) (hd:Nat.blt d c.n=true)
  (hx:opd env x=some vx) (hv:vx.toD=some (.sl xs)) (hns:zh1 xs=some ns)
  (hn:Walk c all chk os (zat (pg++opF x vx) [] [] ⟨some (d,.d (.str (strN ns))),[]⟩::recs) ⟨(d,.d (.str (strN ns)))::env,hp⟩ Q):
  Walk c all chk (⟨some d,.convert t yt x,ty,pos,af,g⟩::os) recs ⟨env,hp⟩ Q:=
 xa7 hg hd hx (fun a G T w h=>⟨.string ⟨(strN ns).toArray⟩,by
  have h1:=h.toD hv;have hxs:=zm6 hns;subst hxs;rcases h1.sl_cells (k:=1) (by intro e he;obtain⟨n,_,rfl⟩:=List.mem_map.1 he;rfl) with ⟨oa,cap,h2,h3,h4⟩|⟨b,off,cap,news,h2,h3,h4,h5,h6,h7⟩
  ·have hn0:ns=[]:=by simpa using h3
   subst hn0;cases oa with
   |none=>
    have:=run_convert_bytes_nil (P:=c.P) w t e ht.und hu 0 cap yt hyt;simp only[execOp,h2,Sem.run_bind,this,Result.andThen_ok,Sem.run_pure];rfl
   |some ad=>
    have h8:(loadCells ad 0).run c.P w = .ok (([]:List Int).map (Value.int .u8)).toArray w:=run_loadCells_list (P:=c.P) w ad [] (fun j v hj=>by simp at hj);have h9:=run_bytesToString (P:=c.P) w ad 0 cap [] h8;have:=run_convert_bytes_string (P:=c.P) w t yt e (some ad) 0 cap ht.und hu hyt;rw[h9] at this;simp only[execOp,h2,Sem.run_bind,this,Result.andThen_ok,Sem.run_pure];rfl
  ·have hlen:ns.length=(ns.map fun n=>[D.int .u8 n]).length:=by simp
   have:=run_convert_bytes_arg (P:=c.P) w t e ht.und hu b off _ cap ns hlen (fun i hi=>by
    have hi':i<ns.length:=by simpa using hi
    have hin:i<news.length:=by rw[h4];simpa using hi'
    have h8:=(h5 i _ (List.getElem?_eq_getElem hin)).2;rw[h8];have h9:=h7 i hi 0 (by simp) (by simpa using hin);simp only[List.getElem_map,List.getElem_cons_zero,Nat.mul_one,Nat.add_zero] at h9;generalize news[i]=u at h9;cases h9
    simp[List.getD,List.getElem?_eq_getElem hi']) yt hyt
   simp only[execOp,h2,Sem.run_bind,this,Result.andThen_ok,Sem.run_pure];rfl,.d (.str _)⟩) hn
theorem RelA.mo_eq {G:Gh}{T:TokF}{w:World}{id off n:Nat}{v:Value} (h:RelA G T w (.mo id off n) v):∃b o cap,((G.loc id).head?=some b/\T id=none)/\v = .slice (some ⟨b,o,none⟩) n cap/\n<=cap/\(n=0\/o=off):=by
 cases h with|mo h hT hcap ho=>exact⟨_,_,_,⟨h,hT⟩,rfl,hcap,ho⟩
theorem Walk.cutM_h {e k yb id m:Nat}{o:Operand}{kd:IntKind}{n:Int}{b:Nat} (ht:SlT c.P t e k yb) (hg:GH all env g pg) (hd:Nat.blt d c.n=true)
  (hx:opd env x=some (.ms id m)) (ho:opd env o=some (.d (.int kd n))) (hi:n = ↑b) (hb:b<=m)
  (hn:Walk c all chk os (zat (pg++(opF x (.ms id m)++opF o (.d (.int kd n)))) [] [] ⟨some (d,.ms id b),[]⟩::recs) ⟨(d,.ms id b)::env,hp⟩ Q):
  Walk c all chk (⟨some d,.slice t x none (some o) none,ty,pos,af,g⟩::os) recs ⟨env,hp⟩ Q:=
 xa8 hg hd hx ho (fun a G T w h1 h2=>by
  obtain⟨bl,cap,hl,he,hcap⟩:=h1.ms_eq;have hbd:=zfE (P:=c.P) (w:=w) true m cap (lo:=none) (hi:=some (.int kd b)) (a:=0) (b:=b) (.inl ⟨rfl,rfl⟩) (.inr ⟨kd,rfl⟩) (Nat.zero_le _) (by omega);refine⟨.slice (some ⟨bl,0,none⟩) b cap, ?_,.ms hl.1 hl.2 (by omega)⟩;simp only[execOp,h2.int_eq,hi,he,Option.map_none,Option.map_some,Instr.sliceAt,Sem.run_bind,run_underlying ht.und,Result.andThen_ok,Instr.slice,hbd,ht.run_size,Sem.run_pure,Nat.zero_mul,Nat.sub_zero,zcw,Nat.zero_add,ite_self]) hn
theorem Walk.cutM_l {e k yb id m:Nat}{o:Operand}{kd:IntKind}{n:Int}{b:Nat} (ht:SlT c.P t e k yb) (hg:GH all env g pg) (hd:Nat.blt d c.n=true)
  (hx:opd env x=some (.ms id m)) (ho:opd env o=some (.d (.int kd n))) (hi:n = ↑b) (hb:b<=m)
  (hn:Walk c all chk os (zat (pg++(opF x (.ms id m)++opF o (.d (.int kd n)))) [] [] ⟨some (d,.mo id (b*k) (m-b)),[]⟩::recs) ⟨(d,.mo id (b*k) (m-b))::env,hp⟩ Q):
  Walk c all chk (⟨some d,.slice t x (some o) none none,ty,pos,af,g⟩::os) recs ⟨env,hp⟩ Q:=
 xa8 hg hd hx ho (fun a G T w h1 h2=>by
  obtain⟨bl,cap,hl,he,hcap⟩:=h1.ms_eq;have hbd:=zfE (P:=c.P) (w:=w) true m cap (lo:=some (.int kd b)) (hi:=none) (a:=b) (b:=m) (.inr ⟨kd,rfl⟩) (.inl ⟨rfl,rfl⟩) hb (by omega);refine⟨.slice (some ⟨bl,if cap=b then 0 else b*k,none⟩) (m-b) (cap-b), ?_,.mo hl.1 hl.2 (by omega) ?_⟩
  ·simp only[execOp,h2.int_eq,hi,he,Option.map_none,Option.map_some,Instr.sliceAt,Sem.run_bind,run_underlying ht.und,Result.andThen_ok,Instr.slice,hbd,ht.run_size,Sem.run_pure,zcw,Nat.zero_add];by_cases h:cap=b
   ·simp[h]
   ·simp[h]
  ·by_cases h:cap=b
   ·left;omega
   ·right;rw[if_neg h]) hn
end
mutual
def renA (i j:Nat):AV->AV
 | .ms a n=>if a=i then .ms j n else .ms a n
 | .agg cs=> .agg (renL i j cs)
 | .tup cs=> .tup (renL i j cs)
 |x=>x
def renL (i j:Nat):List AV->List AV
 | []=>[]
 |x::r=>renA i j x::renL i j r
end
def za7 (i:Nat):AV->Bool
 | .ms a _=>Nat.beq a i
 | .d _=>true
 | .nils=>true
 | .agg cs=>soleL cs
 | .tup cs=>soleL cs
 |_=>false
where soleL:List AV->Bool
 | []=>true
 |x::r=>za7 i x&&soleL r
theorem ze0 (i j:Nat):∀l:List AV,(renL i j l).length=l.length
 | []=>rfl
 |x::r=>by simp[renL,ze0 i j r]
theorem zk7 (i j:Nat):∀(l:List AV) (q:Nat) (h:q<l.length) (h':q<(renL i j l).length),(renL i j l)[q]=renA i j l[q]
 |x::r,0,_,_=>rfl
 |x::r,q+1,h,h'=>by simp only[renL,List.getElem_cons_succ];exact zk7 i j r q (by simpa using h) (by simpa [renL] using h')
theorem zjo (i:Nat):∀ {l:List AV},za7.soleL i l=true->∀q (h:q<l.length),za7 i l[q]=true
 |x::r,hs,q,h=>by
  simp only[za7.soleL,xad] at hs;cases q with
  |zero=>exact hs.1
  |succ q=>exact zjo i hs.2 q (by simpa using h)
theorem RelA.ren {G G':Gh}{T T':TokF}{w:World}{i j:Nat}{x:AV}{v:Value} (h:RelA G T w x v) (hF:G'.F=G.F) (hl:G'.loc j=G.loc i) (hT:T' j=none):za7 i x=true->RelA G' T' w (renA i j x) v:=by
 induction h with
 |d h=>intro _;exact .d (h.mono (fun b o ho=>⟨by rw[hF];exact ho,rfl⟩))
 | @ms a n b cap h _ hc=>
  intro hs;simp only[za7] at hs;obtain rfl:=Nat.eq_of_beq_eq_true hs;simp only[renA,if_true];exact .ms (by rw[hl];exact h) hT hc
 | @agg cs vs hn h ih=>
  intro hs;simp only[za7] at hs;simp only[renA];exact .agg (by rw[ze0];exact hn) (fun q hq hv=>by
   have hq':q<cs.length:=by rw[ze0] at hq;exact hq
   rw[zk7 i j cs q hq' hq];exact ih q hq' hv (zjo i hs q hq'))
 | @tup cs vs hn h ih=>
  intro hs;simp only[za7] at hs;simp only[renA];exact .tup (by rw[ze0];exact hn) (fun q hq hv=>by
   have hq':q<cs.length:=by rw[ze0] at hq;exact hq
   rw[zk7 i j cs q hq' hq];exact ih q hq' hv (zjo i hs q hq'))
 |nils=>intro _;exact .nils
 |_=>intro hs;simp[za7] at hs
theorem xau {P:Program}{f:FuncId}{i:Nat}{args:List AV}{r:AV}{cs:List AV} (hc:AV.idsL cs=[]) (hs:za7 i r=true) (h:FnD P f args [] r [(i,some (.tree cs))]) (j:Nat):
  FnD P f args [] (renA i j r) [(j,some (.tree cs))]:=by
 intro G w vals hok;refine(h G w vals hok).mono ?_;rintro e w' ⟨v,r',hp',G',rfl,⟨rfl,rfl⟩,hret⟩
 have gi:getH ([(i,some (Res.tree cs))]++[]) i=some (.tree cs):=by simp[getH]
 have gj:getH ([(j,some (Res.tree cs))]++[]) j=some (.tree cs):=by simp[getH]
 have only:∀ {a id:Nat}{x y:Res},getH ([(a,some x)]++[]) id=some y->id=a/\y=x:=fun {a id x y} h=>by
  have h':getH [(a,some x)] id=some y:=h;rw[zan] at h';split at h'
  ·rename_i e;cases h';exact⟨e,rfl⟩
  ·cases h'
 let G2:Gh:={ G' with loc:=fun x=>G'.loc i }
 have hown:∀b,b∉zb0 G []:=fun b hb=>by simp[zb0] at hb
 refine⟨v,_,_,G2,rfl,⟨rfl,rfl⟩,hret.res.ren rfl rfl (by unfold tokf;rw[gj]) hs,fun id x hx=>?_,fun id id' h1 h2 hne=>?_,fun id h1 b hb=>hret.new i (by rw[gi];rfl) b hb,hret.frm,hret.top,fun id hi=>?_⟩
 ·obtain⟨rfl,rfl⟩:=only hx;obtain⟨bl,vs,e,Ss,h1,h2,h3,h4,h5,h6⟩:=hret.heap i _ gi;refine⟨bl,vs,e,Ss,h1,h2,h3,h4,h5,fun q hq hv=>(h6 q hq hv).map (fun hx=>?_) (fun _ _=>rfl)⟩;have hn:∀a,a∉(cs[q]).ids:=fun a ha=>by
   have:=xaj (List.getElem_mem hq) ha;rw[hc] at this;simp at this
  exact hx.mono (fun _ _ ho=>⟨ho,rfl⟩) (fun a ha=>(hn a ha).elim) (fun a ha=>(hn a ha).elim)
 ·obtain⟨x,hx⟩:=Option.isSome_iff_exists.1 h1;obtain⟨y,hy⟩:=Option.isSome_iff_exists.1 h2;exact absurd ((only hx).1.trans (only hy).1.symm) hne
 ·unfold zbK at hi;simp[getH] at hi
mutual
theorem zoQ (i j:Nat):∀ {x:AV},za7 i x=true->renA j i (renA i j x)=x
 | .ms a n,h=>by
  simp only[za7] at h;have:=Nat.eq_of_beq_eq_true h;subst this;simp[renA]
 | .d _,_=>rfl
 | .nils,_=>rfl
 | .agg cs,h=>by
  simp only[za7] at h;simp only[renA,zkB i j h]
 | .tup cs,h=>by
  simp only[za7] at h;simp only[renA,zkB i j h]
 | .sn _,h=>by simp[za7] at h
 | .gl _ _,h=>by simp[za7] at h
 | .gv _ _,h=>by simp[za7] at h
 | .gt _ _,h=>by simp[za7] at h
 | .ref _ _,h=>by simp[za7] at h
 | .mo _ _ _,h=>by simp[za7] at h
 | .mapr _,h=>by simp[za7] at h
 | .fn _ _,h=>by simp[za7] at h
 | .own _ _,h=>by simp[za7] at h
 | .any,h=>by simp[za7] at h
theorem zkB (i j:Nat):∀ {l:List AV},za7.soleL i l=true->renL j i (renL i j l)=l
 | [],_=>rfl
 |x::r,h=>by
  simp only[za7.soleL,xad] at h;simp only[renL,zoQ i j h.1,zkB i j h.2]
end
mutual
theorem zoT (i j:Nat):∀ {x:AV},za7 i x=true->za7 j (renA i j x)=true
 | .ms a n,h=>by
  simp only[za7] at h;have:=Nat.eq_of_beq_eq_true h;subst this;simp[renA,za7]
 | .d _,_=>rfl
 | .nils,_=>rfl
 | .agg cs,h=>by
  simp only[za7] at h;simp only[renA,za7,zkH i j h]
 | .tup cs,h=>by
  simp only[za7] at h;simp only[renA,za7,zkH i j h]
 | .sn _,h=>by simp[za7] at h
 | .gl _ _,h=>by simp[za7] at h
 | .gv _ _,h=>by simp[za7] at h
 | .gt _ _,h=>by simp[za7] at h
 | .ref _ _,h=>by simp[za7] at h
 | .mo _ _ _,h=>by simp[za7] at h
 | .mapr _,h=>by simp[za7] at h
 | .fn _ _,h=>by simp[za7] at h
 | .own _ _,h=>by simp[za7] at h
 | .any,h=>by simp[za7] at h
theorem zkH (i j:Nat):∀ {l:List AV},za7.soleL i l=true->za7.soleL j (renL i j l)=true
 | [],_=>rfl
 |x::r,h=>by
  simp only[za7.soleL,xad] at h;simp only[renL,za7.soleL,zoT i j h.1,zkH i j h.2,Bool.and_self]
end
theorem zo0 {G0 G2:Gh}{w0:World}{a b:Nat}{cs:List AV}{T T':TokF} (hF:G2.F=G0.F) (hl:G2.loc b=G0.loc a) (hcs:AV.idsL cs=[]) (h:RelR G0 T w0 a (.tree cs)):RelR G2 T' w0 b (.tree cs):=by
 obtain⟨bl,vs,e,Ss,h1,h2,h3,h4,h5,h6⟩:=h;refine⟨bl,vs,e,Ss,hl.trans h1,h2,h3,by rw[hl];exact h4,fun x hx=>?_,fun q hq hv=>(h6 q hq hv).map (fun hx=>?_) (fun _ _=>rfl)⟩
 ·rw[hl] at hx;rw[hF];exact h5 x hx
 ·have hn:∀id,id∉(cs[q]).ids:=fun id hid=>by
   have:=xaj (List.getElem_mem hq) hid;rw[hcs] at this;simp at this
  exact hx.mono (fun _ _ ho=>⟨by rw[hF];exact ho,rfl⟩) (fun id hid=>(hn id hid).elim) (fun id hid=>(hn id hid).elim)
theorem FnD.ren {P:Program}{f:FuncId}{i:Nat}{args:List AV}{r:D}{cs cs':List AV} (hs:za7.soleL i args=true) (hc:AV.idsL cs=[]) (hc':AV.idsL cs'=[]) (h:FnD P f args [(i,some (.tree cs))] (.d r) [(i,some (.tree cs'))]) (j:Nat):
  FnD P f (renL i j args) [(j,some (.tree cs))] (.d r) [(j,some (.tree cs'))]:=by
 intro G w vals hok;let G1:Gh:={ G with loc:=fun x=>G.loc j }
 have gj:∀(x:Res),getH [(j,some x)] j=some x:=fun x=>by simp[getH]
 have gi:∀(x:Res),getH [(i,some x)] i=some x:=fun x=>by simp[getH]
 have only:∀ {a id:Nat}{x y:Res},getH [(a,some x)] id=some y->id=a/\y=x:=fun {a id x y} h=>by
  rw[zan] at h;split at h
  ·rename_i e;cases h;exact⟨e,rfl⟩
  ·cases h
 have hsz:=hok.args.size;rw[ze0] at hsz;have hok1:HOK G1 w [(i,some (.tree cs))] args vals:=by
  refine⟨⟨hsz,fun q hq hv=>?_⟩,fun id x hx=>?_,fun id id' h1 h2 hne=>?_,hok.top⟩
  ·have hq':q<(renL i j args).length:=by rw[ze0];exact hq
   have h1:=hok.args.rel q hq' hv;rw[zk7 i j args q hq hq'] at h1;have h2:=zjo i hs q hq;have h3:=h1.ren (G':=G1) (T':=tokf [(i,some (Res.tree cs))]) (i:=j) (j:=i) rfl rfl (by unfold tokf;rw[gi]) (zoT i j h2);rw[zoQ i j h2] at h3;exact h3
  ·obtain⟨rfl,rfl⟩:=only hx;exact zo0 (G0:=G) (G2:=G1) (a:=j) rfl rfl hc (hok.heap j _ (gj _))
  ·obtain⟨x,hx⟩:=Option.isSome_iff_exists.1 h1;obtain⟨y,hy⟩:=Option.isSome_iff_exists.1 h2;exact absurd ((only hx).1.trans (only hy).1.symm) hne
 have own1:∀b,b∈zb0 G1 [(i,some (.tree cs))]↔b∈zb0 G [(j,some (.tree cs))]:=fun b=>by
  rw[zeA,zeA];constructor
  ·rintro ⟨id,_,hb⟩;exact⟨j,by rw[gj];rfl,hb⟩
  ·rintro ⟨id,h1,hb⟩
   obtain⟨x,hx⟩:=Option.isSome_iff_exists.1 h1;rw[(only hx).1] at hb;exact⟨i,by rw[gi];rfl,hb⟩
 refine(h G1 w vals hok1).mono ?_;rintro e w' ⟨v,r',hp',G',rfl,⟨rfl,rfl⟩,hret⟩
 have gi2:getH ([(i,some (Res.tree cs'))]++[(i,some (.tree cs))]) i=some (.tree cs'):=by simp[getH]
 have gj2:getH ([(j,some (Res.tree cs'))]++[(j,some (.tree cs))]) j=some (.tree cs'):=by simp[getH]
 have only2:∀ {a id:Nat}{x y z:Res},getH ([(a,some x)]++[(a,some y)]) id=some z->id=a/\z=x:=fun {a id x y z} h=>by
  have h':getH ((a,some x)::[(a,some y)]) id=some z:=h;rw[zan] at h';split at h'
  ·rename_i e;cases h';exact⟨e,rfl⟩
  ·rename_i hne;rw[zan,if_neg hne] at h';cases h'
 let G2:Gh:={ G' with loc:=fun x=>G'.loc i }
 refine⟨v,_,_,G2,rfl,⟨rfl,rfl⟩,.d hret.res.d_inv,fun id x hx=>?_,fun id id' h1 h2 hne=>?_,fun id h1 b hb=>?_, ?_,hret.top,fun id hi=>?_⟩
 ·obtain⟨rfl,rfl⟩:=only2 hx;exact zo0 (G0:=G') (a:=i) rfl rfl hc' (hret.heap i _ gi2)
 ·obtain⟨x,hx⟩:=Option.isSome_iff_exists.1 h1;obtain⟨y,hy⟩:=Option.isSome_iff_exists.1 h2;exact absurd ((only2 hx).1.trans (only2 hy).1.symm) hne
 ·exact(hret.new i (by rw[gi2];rfl) b hb).imp_left (own1 b).1
 ·have hf:=hret.frm;exact⟨hf.os,hf.tape,hf.output,hf.size,fun b hb hn=>hf.block b hb (fun hm=>hn ((own1 b).1 hm)),hf.cell⟩
 ·have hib:zbK [(i,some (Res.tree cs))] i=true:=by unfold zbK;rw[gi]
  have hk:=hret.kept i hib;unfold zbK at hi;cases hg:getH [(j,some (Res.tree cs))] id with
  |none=>rw[hg] at hi;cases hi
  |some x=>
   obtain⟨rfl,_⟩:=only hg;exact⟨hk.1,by rw[gj2];rfl,by unfold tokf;rw[gj2]⟩
mutual
def frzA (x:D):AV->AV
 | .ms _ _=> .d x
 | .agg cs=> .agg (frzL x cs)
 | .tup cs=> .tup (frzL x cs)
 |y=>y
def frzL (x:D):List AV->List AV
 | []=>[]
 |y::r=>frzA x y::frzL x r
end
theorem zhp (x:D):∀l:List AV,(frzL x l).length=l.length
 | []=>rfl
 |y::r=>by simp[frzL,zhp x r]
theorem znI (x:D):∀(l:List AV) (q:Nat) (h:q<l.length) (h':q<(frzL x l).length),(frzL x l)[q]=frzA x l[q]
 |y::r,0,_,_=>rfl
 |y::r,q+1,h,h'=>by simp only[frzL,List.getElem_cons_succ];exact znI x r q (by simpa using h) (by simpa [frzL] using h')
def zjp (i n:Nat):AV->Prop
 | .ms a m=>a=i/\m=n
 | .d _=>True
 | .nils=>True
 | .agg cs=>soleNL i n cs
 | .tup cs=>soleNL i n cs
 |_=>False
where soleNL (i n:Nat):List AV->Prop
 | []=>True
 |x::r=>zjp i n x/\soleNL i n r
theorem zkI (i n:Nat):∀ {l:List AV},zjp.soleNL i n l->∀q (h:q<l.length),zjp i n l[q]
 |x::r,hs,q,h=>by
  cases q with
  |zero=>exact hs.1
  |succ q=>exact zkI i n hs.2 q (by simpa using h)
theorem RelA.frz {G G':Gh}{T T':TokF}{w:World}{i n:Nat}{x:AV}{v:Value}{d:D} (h:RelA G T w x v) (hF:∀b o,o<G.F b->o<G'.F b) (hms:∀v,RelA G T w (.ms i n) v->RelD G'.F w d v):zjp i n x->RelA G' T' w (frzA d x) v:=by
 induction h with
 |d h=>intro _;exact .d (h.mono (fun b o ho=>⟨hF b o ho,rfl⟩))
 | @ms a m b cap h hT hc=>
  intro hs;obtain⟨rfl,rfl⟩:=hs;exact .d (hms _ (.ms h hT hc))
 | @agg cs vs hn h ih=>
  intro hs;simp only[frzA];exact .agg (by rw[zhp];exact hn) (fun q hq hv=>by
   have hq':q<cs.length:=by rw[zhp] at hq;exact hq
   rw[znI d cs q hq' hq];exact ih q hq' hv (zkI i n hs q hq'))
 | @tup cs vs hn h ih=>
  intro hs;simp only[frzA];exact .tup (by rw[zhp];exact hn) (fun q hq hv=>by
   have hq':q<cs.length:=by rw[zhp] at hq;exact hq
   rw[znI d cs q hq' hq];exact ih q hq' hv (zkI i n hs q hq'))
 |nils=>intro _;exact .nils
 |_=>intro hs;exact hs.elim
theorem xat {P:Program}{f:FuncId}{i k:Nat}{m:Bool}{args:List AV}{r:AV}{xs:List (List D)} (hk:∀x,x∈xs->x.length=k) (hs:zjp i xs.length r) (h:FnD P f args [] r [(i,some (.tree (zaf m xs)))]):
  FnD P f args [] (frzA (.sl xs) r) []:=by
 intro G w vals hok;refine(h G w vals hok).mono ?_;rintro e w' ⟨v,r',hp',G',rfl,⟨rfl,rfl⟩,hret⟩
 have gi:getH ([(i,some (Res.tree (zaf m xs)))]++[]) i=some (.tree (zaf m xs)):=by simp[getH]
 obtain⟨b,us,et,Ss,hT⟩:=hret.heap i _ gi;have hown:∀b,b∉zb0 G []:=fun b hb=>by simp[zb0] at hb
 have hnew:∀b,b∈G'.loc i->w.heap.size<=b:=fun b hb=>(hret.new i (by rw[gi];rfl) b hb).resolve_left (hown b);let G2:Gh:={ G' with F:=fun x=>bif zaZ x (G'.loc i) then szB w' x else G'.F x }
 have hin:∀x,x∈G'.loc i->G2.F x=szB w' x:=fun x hx=>by simp[G2,zaP.2 hx]
 have hout:∀x,x∉G'.loc i->G2.F x=G'.F x:=fun x hx=>by
  have:zaZ x (G'.loc i)=false:=by
   cases h:zaZ x (G'.loc i) with
   |true=>exact absurd (zaP.1 h) hx
   |false=>rfl
  simp[G2,this]
 have hle:∀b o,o<G'.F b->o<G2.F b:=fun x o ho=>by
  by_cases hx:x∈G'.loc i
  ·rw[(hT.mine x hx).1] at ho;omega
  ·rw[hout x hx];exact ho
 refine⟨v,_,_,G2,rfl,⟨rfl,rfl⟩,hret.res.frz hle (fun u hu=>?_) hs,fun id x hx=>(by cases hx),fun id id' h1=>(by cases h1),fun id h1=>(by cases h1), ?_,fun x hx=>?_,fun id hi=>(by simp[zbK,getH] at hi)⟩
 ·obtain⟨b',cap,hl,he,hcap⟩:=hu.ms_eq;obtain rfl:=hT.head hl.1;have hbl:b'∈G'.loc i:=by rw[hT.loc];simp
  have hlen:(zaf m xs).length=xs.length*k:=zbZ hk;have hle':xs.length*k<=us.size:=by have:=hT.len;omega
  have hsz:szB w' b'=us.size:=by simp[szB,hT.at_]
  rw[he];refine .sl xs k b' 0 cap (fun n=>us.getD n undef) hk hcap (fun q hq=>⟨by rw[hin b' hbl];omega, ?_⟩) (fun q hq j hj=>?_)
  ·have:q<us.size:=by omega
   simp[World.cell?,hT.at_,this]
  ·have hjk:j<k:=by rw[<-hk _ (List.getElem_mem hq)];exact hj
   have hlt:q*k+j<(zaf m xs).length:=by rw[hlen];exact zet hq hjk
   have hlv:q*k+j<us.size:=Nat.lt_of_lt_of_le hlt hT.len;have h1:=hT.cell (q*k+j) hlt hlv;have h2:=zgj (m:=m) hk hq hj;rw[List.getElem?_eq_getElem hlt] at h2;rw[Option.some.inj h2] at h1;rw[zkW hlv];have hsub:∀x,x∈Ss (q*k+j)->x∈G'.loc i:=fun x hx=>by
    rw[hT.loc];exact List.mem_cons_of_mem _ (List.mem_flatMap.2 ⟨_,List.mem_range.2 hlt,hx⟩)
   have tr:∀ {y:D}{u:Value},TreeD m w' y u (Ss (q*k+j))->RelD G2.F w' y u:=fun h=>h.toD (fun x hx=>by rw[hin x (hsub x hx)];exact Nat.le_refl _);generalize xs[q][j]=y at h1;cases y with
   |int kd q=>exact h1.2.d_inv.flat rfl
   |bool q=>exact h1.2.d_inv.flat rfl
   |str q=>exact h1.2.d_inv.flat rfl
   |sl ys=>exact tr h1
   |ptr q r=>exact tr h1
   |nilp=>exact tr h1
 ·have hf:=hret.frm;exact⟨hf.os,hf.tape,hf.output,hf.size,fun x hx hn=>⟨(hf.block x hx hn).1,by
   rw[hout x (fun hm=>by have:=hnew x hm;omega)];exact(hf.block x hx hn).2⟩,fun x o ho=>⟨hle x o (hf.cell x o ho).1,(hf.cell x o ho).2⟩⟩
 ·by_cases hx':x∈G'.loc i
  ·have:=(hT.mine x hx').2;omega
  ·rw[hout x hx'];exact hret.top x hx
def zfx (i j:Nat):Env->Env
 | []=>[]
 |(k,v)::r=>(k,bif zaZ i v.ids then .any else bif zaZ j v.ids then .any else v)::zfx i j r
theorem zki {i j:Nat}:∀ {l:Env}{t:Nat}{v:AV},getE (zfx i j l) t=some v->∃u,getE l t=some u/\(v = .any\/(v=u/\i∉u.ids/\j∉u.ids))
 | [],_,_,h=>by simp[zfx,getE] at h
 |(k,x)::r,t,v,h=>by
  simp only[zfx,getE] at h ⊢;cases hb:Nat.beq k t with
  |true=>
   simp only[hb,cond_true,Option.some.injEq] at h;refine⟨x,by simp, ?_⟩;cases h1:zaZ i x.ids with
   |true=>left;rw[h1] at h;exact h.symm
   |false=>
    cases h2:zaZ j x.ids with
    |true=>left;rw[h1,h2] at h;exact h.symm
    |false=>
     right
     rw[h1,h2] at h;refine⟨h.symm,fun hm=>?_,fun hm=>?_⟩
     ·rw[zaP.2 hm] at h1;cases h1
     ·rw[zaP.2 hm] at h2;cases h2
  |false=>
   simp only[hb,cond_false] at h;obtain⟨u,h1,h2⟩:=zki h;exact⟨u,by simpa using h1,h2⟩
theorem RelA.gl_move {G G':Gh}{T T':TokF}{w:World}{i j n k:Nat}{xs:List (List D)}{v:Value} (h:RelA G T w (.gl i xs) v) (hT:T i=some (n,k)) (hF:G'.F=G.F) (hl:G'.loc j=G.loc i) (hT':T' j=some (n,k)):RelA G' T' w (.gl j xs) v:=by
 generalize hx:AV.gl i xs=x at h;cases h with
 | @gl id ys v h ht=>
  cases hx
  refine .gl (h.mono (fun b o ho=>⟨by rw[hF];exact ho,rfl⟩)) (fun n' k' he=>?_);rw[hT'] at he;cases he
  obtain⟨h1,h2⟩:=ht _ _ hT;refine⟨h1,fun hn=>?_⟩;obtain⟨h3,h4⟩:=h2 hn;refine⟨h3, ?_⟩;rcases h4 with ⟨a1,a2,a3⟩|⟨b,cap,cs,e,a1,a2,a3,a4⟩
  ·exact .inl ⟨hl.trans a1,a2,a3⟩
  ·exact .inr ⟨b,cap,cs,e,hl.trans a1,a2,by rw[hF];exact a3,a4⟩
 |_=>cases hx
section
variable {c:Ctx}{env:Env}{hp:Hp}{K:Kt}{code:Code}
theorem CWp.retok (t j i:Nat){n k:Nat}{ys:List (List D)} (ht:getE env t=some (.gl j ys)) (hi:getH hp i=none) (hj:getH hp j=some (.tok n k)) (o1:occH i hp=false) (o2:occH j hp=false)
  (hn:CWp c code ⟨(t,.gl i ys)::zfx i j env,(i,some (.tok n k))::(j,none)::hp⟩ K):CWp c code ⟨env,hp⟩ K:=by
 rintro a w ⟨G,hr⟩
 have hne:i≠j:=fun e=>by subst e;rw[hi] at hj;cases hj
 let hp':Hp:=(i,some (.tok n k))::(j,none)::hp
 let G':Gh:={ G with loc:=fun x=>bif Nat.beq x i then G.loc j else G.loc x }
 have l1:G'.loc i=G.loc j:=by simp[G']
 have l2:∀x,x≠i->G'.loc x=G.loc x:=fun x h=>by simp[G',zdu h]
 have g1:getH hp' i=some (.tok n k):=by simp[hp',getH]
 have g2:getH hp' j=none:=by
  show getH ((i,some (.tok n k))::(j,none)::hp) j=none
  rw[zan,if_neg (fun e=>hne e.symm),zan,if_pos rfl]
 have g3:∀x,x≠i->x≠j->getH hp' x=getH hp x:=fun x h1 h2=>by
  show getH ((i,some (.tok n k))::(j,none)::hp) x=_
  rw[zan,if_neg h1,zan,if_neg h2]
 have hTj:tokf hp j=some (n,k):=zav.2 hj;have hTi:tokf hp' i=some (n,k):=zav.2 g1;have hm:∀ {x:AV}{v:Value},i∉x.ids->j∉x.ids->RelA G (tokf hp) w x v->RelA G' (tokf hp') w x v:=fun hx1 hx2 hx=>
  hx.mono (fun _ _ ho=>⟨ho,rfl⟩) (fun id hid=> .inl (l2 id (fun e=>hx1 (e ▸ hid)))) (fun id hid p hp2=>⟨by
   have e1:id≠i:=fun e=>hx1 (e ▸ hid);have e2:id≠j:=fun e=>hx2 (e ▸ hid);unfold tokf at hp2 ⊢;rw[g3 id e1 e2] at hp2;exact hp2,fun _ _=>⟨rfl,rfl⟩⟩)
 have cases3:∀x (r:Res),getH hp' x=some r->(x=i/\r = .tok n k)\/(x≠i/\x≠j/\getH hp x=some r):=fun x r h=>by
  by_cases e1:x=i
  ·subst e1;rw[g1] at h;cases h;exact .inl ⟨rfl,rfl⟩
  ·by_cases e2:x=j
   ·subst e2;rw[g2] at h;cases h
   ·rw[g3 x e1 e2] at h;exact .inr ⟨e1,e2,h⟩
 have src:∀x,(getH hp' x).isSome->∃y,(getH hp y).isSome/\G'.loc x=G.loc y/\(y=j/\x=i\/y=x/\x≠j/\x≠i):=fun x h=>by
  obtain⟨r,hx⟩:=Option.isSome_iff_exists.1 h;rcases cases3 x r hx with ⟨rfl,_⟩|⟨e1,e2,h3⟩
  ·exact⟨j,by rw[hj];rfl,l1,.inl ⟨rfl,rfl⟩⟩
  ·exact⟨x,by rw[h3];rfl,l2 x e1,.inr ⟨rfl,e2,e1⟩⟩
 have nocc:∀ {id x:Nat}{r:Res},occH id hp=false->getH hp x=some r->id∉r.ids:=fun h1 h2=>zg1 h1 _ _ (zdG h2);refine hn a w ⟨G',hr.size,hr.defers,fun x v hx=>?_,fun x r hx=>?_,fun x y h1 h2 hxy b hb=>?_,fun x h1 b hb=>?_,hr.frm,hr.top,fun x l hl=>?_⟩
 ·have hx':getE ((t,.gl i ys)::zfx i j env) x=some v:=hx;simp only[getE] at hx';cases hb:Nat.beq t x with
  |true=>
   have:=Nat.eq_of_beq_eq_true hb;subst this;simp only[hb,cond_true,Option.some.injEq] at hx';subst hx';exact(hr.slots t _ ht).gl_move hTj rfl l1 hTi
  |false=>
   simp only[hb,cond_false] at hx';obtain⟨u,h1,h2⟩:=zki hx';rcases h2 with rfl|⟨rfl,h3,h4⟩
   ·exact .any _
   ·exact hm h3 h4 (hr.slots x _ h1)
 ·rcases cases3 x r hx with ⟨rfl,rfl⟩|⟨e1,e2,h3⟩
  ·intro b hb;rw[l1] at hb;exact hr.heap j _ hj b hb
  ·have hh:=hr.heap x r h3;have n1:=nocc o1 h3;have n2:=nocc o2 h3;cases r with
   |box cs=>
    obtain⟨b,us,e,e1',e2',e3,e4,e5⟩:=hh;exact⟨b,us,e,(l2 x e1).trans e1',e2',e3,e4,fun q hq hv=>hm (fun hid=>n1 (xaj (List.getElem_mem hq) hid)) (fun hid=>n2 (xaj (List.getElem_mem hq) hid)) (e5 q hq hv)⟩
   |tok n' k'=>intro b hb;rw[l2 x e1] at hb;exact hh b hb
   |map ks=>
    obtain⟨b,es,cl,h5,h6⟩:=hh;exact⟨b,es,cl,(l2 x e1).trans h5,h6⟩
   |tree cs=>exact zbv hh (l2 x e1) (fun _ _=>⟨rfl,rfl⟩) (Nat.le_refl _) (fun y hy v=>hm (fun hid=>n1 (xaj hy hid)) (fun hid=>n2 (xaj hy hid)))
 ·obtain⟨x',s1,e1,d1⟩:=src x h1;obtain⟨y',s2,e2,d2⟩:=src y h2;rw[e1] at hb;rw[e2];refine hr.disj x' y' s1 s2 ?_ b hb;rcases d1 with ⟨rfl,rfl⟩|⟨rfl,f1,f2⟩<;>rcases d2 with ⟨rfl,rfl⟩|⟨rfl,f3,f4⟩
  ·exact absurd rfl hxy
  ·exact fun e=>f3 e.symm
  ·exact f1
  ·exact hxy
 ·obtain⟨x',s1,e1,d1⟩:=src x h1;rw[e1] at hb;exact hr.new x' s1 b hb
 ·have hk:=hr.kept x l hl;have e1:x≠i:=fun e=>by
   have h1:=hk.2.1;have h2:getH hp x=none:=e ▸ hi;change (getH hp x).isSome=true at h1
   rw[h2] at h1;cases h1
  have e2:x≠j:=fun e=>by
   have h1:=hk.2.2;change tokf hp x=none at h1
   rw[e,hTj] at h1;cases h1
  refine⟨by rw[l2 x e1];exact hk.1, ?_, ?_⟩
  ·show(getH hp' x).isSome=true
   rw[g3 x e1 e2];exact hk.2.1
  ·show tokf hp' x=none
   have:=hk.2.2;unfold tokf at this ⊢;rw[g3 x e1 e2];exact this
end
section
variable {c:Ctx}
theorem zr0 {G:Gh}{s:St}{a:Act}{w:World} (hr:R c G s a w){f:FuncId}{avs:List AV}{i j n k m:Nat}{ys:List (List D)}{vals:Array Value}
  (hf:FnD c.P f avs [(i,some (.tok n k))] (.gl i ys) [(i,some (.tok m k))]) (hargs:AllR G (tokf s.hp) w avs vals) (hi:getH s.hp i=some (.tok n k)) (hj:getH s.hp j=none) (hocc:zcU j s):
  Calls c.P f vals w fun e w'=>∃v,e = .returned v/\
   ∃G',R c G' { s with hp:=(i,none)::(j,some (.tok m k))::s.hp } a w'/\RelA G' (tokf ((i,none)::(j,some (.tok m k))::s.hp)) w' (.gl j ys) v:=by
 have hne:i≠j:=fun e=>by subst e;rw[hi] at hj;cases hj
 have only:∀ {id:Nat}{x y:Res},getH [(i,some x)] id=some y->id=i/\y=x:=fun {id x y} h=>by
  rw[zan] at h;split at h
  ·rename_i e;cases h;exact⟨e,rfl⟩
  ·cases h
 have gi:getH [(i,some (Res.tok n k))] i=some (.tok n k):=by simp[getH]
 have hok:HOK G w [(i,some (.tok n k))] avs vals:=by
  refine⟨⟨hargs.size,fun q hq hv=>(hargs.rel q hq hv).mono (fun _ _ ho=>⟨ho,rfl⟩) (fun _ _=> .inl rfl) (fun id _ p hp=>⟨?_,fun _ _=>⟨rfl,rfl⟩⟩)⟩,fun id r h=>?_,fun id id' h1 h2 h3=>?_,hr.top⟩
  ·obtain⟨n',k'⟩:=p;obtain⟨rfl,h2⟩:=only (zav.1 hp);cases h2
   exact zav.2 hi
  ·obtain⟨rfl,rfl⟩:=only h;exact hr.heap _ _ hi
  ·obtain⟨x,hx⟩:=Option.isSome_iff_exists.1 h1;obtain⟨y,hy⟩:=Option.isSome_iff_exists.1 h2;exact absurd ((only hx).1.trans (only hy).1.symm) h3
 refine(hf G w vals hok).mono ?_;rintro e w' ⟨v,r,hp0,G',rfl,⟨rfl,rfl⟩,hret⟩
 refine⟨v,rfl, ?_⟩;have gi2:getH ([(i,some (Res.tok m k))]++[(i,some (.tok n k))]) i=some (.tok m k):=by simp[getH]
 have hown:∀b,b∈zb0 G [(i,some (Res.tok n k))]->b∈G.loc i:=fun b hb=>by
  obtain⟨id,h1,h2⟩:=zeA.1 hb;obtain⟨x,hx⟩:=Option.isSome_iff_exists.1 h1;rw[(only hx).1] at h2;exact h2
 have hsi:(getH s.hp i).isSome:=by rw[hi];rfl
 let hp':Hp:=(i,none)::(j,some (.tok m k))::s.hp
 let G2:Gh:={ F:=G'.F,loc:=fun x=>bif Nat.beq x j then G'.loc i else G.loc x }
 have l1:G2.loc j=G'.loc i:=by simp[G2]
 have l2:∀x,x≠j->G2.loc x=G.loc x:=fun x h=>by simp[G2,zdu h]
 have g1:getH hp' i=none:=by
  show getH ((i,none)::(j,some (.tok m k))::s.hp) i=none
  rw[zan,if_pos rfl]
 have g2:getH hp' j=some (.tok m k):=by
  show getH ((i,none)::(j,some (.tok m k))::s.hp) j=_
  rw[zan,if_neg (fun e=>hne e.symm),zan,if_pos rfl]
 have g3:∀x,x≠i->x≠j->getH hp' x=getH s.hp x:=fun x h1 h2=>by
  show getH ((i,none)::(j,some (.tok m k))::s.hp) x=_
  rw[zan,if_neg h1,zan,if_neg h2]
 have cases3:∀x (r:Res),getH hp' x=some r->(x=j/\r = .tok m k)\/(x≠i/\x≠j/\getH s.hp x=some r):=fun x r h=>by
  by_cases e1:x=i
  ·subst e1;rw[g1] at h;cases h
  ·by_cases e2:x=j
   ·subst e2;rw[g2] at h;cases h;exact .inl ⟨rfl,rfl⟩
   ·rw[g3 x e1 e2] at h;exact .inr ⟨e1,e2,h⟩
 have bound:∀x r,getH s.hp x=some r->∀b,b∈G.loc x->b<w.heap.size:=fun x r h=>(hr.heap x r h).bound;have blk:∀x r,x≠i->getH s.hp x=some r->∀b,b∈G.loc x->w'.heap[b]?=w.heap[b]?/\G'.F b=G.F b:=fun x r h1 h2 b hb=>
  hret.frm.block b (bound x r h2 b hb) (fun hm=>hr.disj x i (by rw[h2];rfl) hsi h1 b hb (hown b hm))
 have hm:∀ {x:AV}{v:Value},j∉x.ids->RelA G (tokf s.hp) w x v->RelA G2 (tokf hp') w' x v:=fun hx1 hx=>
  hx.mono hret.frm.cell (fun id hid=> .inl (l2 id (fun e=>hx1 (e ▸ hid)))) (fun id hid p hp2=>by
   have e1:id≠j:=fun e=>hx1 (e ▸ hid);obtain⟨n',k'⟩:=p;have h1:=zav.1 hp2;rcases cases3 id _ h1 with ⟨e,_⟩|⟨e2,_,h3⟩
   ·exact absurd e e1
   ·exact⟨zav.2 h3,blk id _ e2 h3⟩)
 have src:∀x,(getH hp' x).isSome->x=j\/(x≠i/\x≠j/\(getH s.hp x).isSome):=fun x h=>by
  obtain⟨r,hx⟩:=Option.isSome_iff_exists.1 h;rcases cases3 x r hx with ⟨rfl,_⟩|⟨e1,e2,h3⟩
  ·exact .inl rfl
  ·exact .inr ⟨e1,e2,by rw[h3];rfl⟩
 have hnew:=hret.new i (by rw[gi2];rfl);have mix:∀x,x≠i->(getH s.hp x).isSome->∀b,b∈G'.loc i->b∉G.loc x:=fun x h1 h2 b hb hbx=>by
  obtain⟨r,hx⟩:=Option.isSome_iff_exists.1 h2;rcases hnew b hb with h|h
  ·exact hr.disj i x hsi h2 (fun e=>h1 e.symm) b (hown b h) hbx
  ·have:=bound x r hx b hbx;omega
 refine⟨G2,⟨hr.size,hr.defers,fun x v hx=>hm (hocc.1 x v hx) (hr.slots x v hx),fun x r hx=>?_,fun x y h1 h2 hxy b hb=>?_,fun x h1 b hb=>?_,hr.frm.trans hret.frm ?_,hret.top,fun x l hl=>?_⟩, ?_⟩
 ·rcases cases3 x r hx with ⟨rfl,rfl⟩|⟨e1,e2,h3⟩
  ·intro b hb;rw[l1] at hb;exact hret.heap i _ gi2 b hb
  ·have hh:=hr.heap x r h3;have n2:=hocc.2 x r h3;have hb0:=blk x r e1 h3;cases r with
   |box cs=>
    obtain⟨b,us,e,e1',e2',e3,e4,e5⟩:=hh;obtain⟨f1,f2⟩:=hb0 b (by simp[e1']);exact⟨b,us,e,(l2 x e2).trans e1',f1.trans e2',e3,f2.trans e4,fun q hq hv=>hm (fun hid=>n2 (xaj (List.getElem_mem hq) hid)) (e5 q hq hv)⟩
   |tok n' k'=>intro b hb;rw[l2 x e2] at hb;exact Nat.lt_of_lt_of_le (hh b hb) hret.frm.size
   |map ks=>
    obtain⟨b,es,cl,h5,h6,h7,h8⟩:=hh;obtain⟨f1,f2⟩:=hb0 b (by simp[h5]);exact⟨b,es,cl,(l2 x e2).trans h5,f1.trans h6,f2.trans h7,h8⟩
   |tree cs=>exact zbv hh (l2 x e2) hb0 hret.frm.size (fun y hy v=>hm (fun hid=>n2 (xaj hy hid)))
 ·rcases src x h1 with rfl|⟨a1,a2,a3⟩<;>rcases src y h2 with rfl|⟨b1,b2,b3⟩
  ·exact absurd rfl hxy
  ·rw[l1] at hb;rw[l2 y b2];exact mix y b1 b3 b hb
  ·rw[l2 x a2] at hb;rw[l1];exact fun h=>mix x a1 a3 b h hb
  ·rw[l2 x a2] at hb;rw[l2 y b2];exact hr.disj x y a3 b3 hxy b hb
 ·rcases src x h1 with rfl|⟨a1,a2,a3⟩
  ·rw[l1] at hb;rcases hnew b hb with h|h
   ·exact hr.new i hsi b (hown b h)
   ·right;have:=hr.frm.size;omega
  ·rw[l2 x a2] at hb;exact hr.new x a3 b hb
 ·intro b hb;exact hr.new i hsi b (hown b hb)
 ·have hk:=hr.kept x l hl;have e1:x≠i:=fun e=>by
   have h1:=hk.2.2;have h2:tokf s.hp x=some (n,k):=e ▸ zav.2 hi;rw[h2] at h1;cases h1
  have e2:x≠j:=fun e=>by
   have h1:=hk.2.1;have h2:getH s.hp x=none:=e ▸ hj;rw[h2] at h1;cases h1
  refine⟨by rw[l2 x e2];exact hk.1, ?_, ?_⟩
  ·show(getH hp' x).isSome=true
   rw[g3 x e1 e2];exact hk.2.1
  ·show tokf hp' x=none
   have:=hk.2.2;unfold tokf at this ⊢;rw[g3 x e1 e2];exact this
 ·exact hret.res.gl_move (G':=G2) (zav.2 gi2) rfl l1 (zav.2 g2)
end
section
variable {c:Ctx}{all:Array Oper}{chk:List Rec->Prop}{os:List Oper}{recs:List Rec}{env:Env}{hp:Hp}{Q:St->Prop}
variable {d ty:Nat}{pos:String}{af:Array Edge}{g:Option (Nat×Bool)}{pg:List (Nat×AV)}
theorem xaI {f:FuncId}{args:Array Operand}{ats:Array TypeId}{xs:List Operand}{vs avs:List AV}{i n k m:Nat}{ys:List (List D)} (j:Nat) (hc:Callee c.P f)
  (hf:FnD c.P f avs [(i,some (.tok n k))] (.gl i ys) [(i,some (.tok m k))])
  (hargs:args=xs.toArray) (hg:GH all env g pg) (hd:Nat.blt d c.n=true) (hx:opdL env xs=some vs) (hle:LeL vs avs) (hi:getH hp i=some (.tok n k)) (hcr:zak env hp [j]=true)
  (hn:Walk c all chk os (zat (pg++opFL xs vs) [(i,.tok n k)] [j] ⟨some (d,.gl j ys),[(i,none),(j,some (.tok m k))]⟩::recs) ⟨(d,.gl j ys)::env,(i,none)::(j,some (.tok m k))::hp⟩ Q):
  Walk c all chk (⟨some d,.call ⟨.value (.func f),args,ats⟩,ty,pos,af,g⟩::os) recs ⟨env,hp⟩ Q:=by
 subst hargs;refine⟨pg++opFL xs vs,[(i,.tok n k)],[j],_, ?_,zaD hg.facts (zcE hx),hh1 hi,zbD hcr,hn⟩;intro s a w hrel hp' hh hcr' K Q' hK;obtain⟨G,hr⟩:=hrel;have hrl:=zdo hr (zcF hx (fun p hm=>hp' p (by simp[hm])));have hle':∀ {l m:List AV},LeL l m->∀i (h1:i<l.length) (h2:i<m.length),LeA l[i] m[i]:=by
  intro l;induction l with
  |nil=>intro m _ i h1;simp at h1
  |cons x r ih=>
   intro m h i h1 h2;cases h with
   |cons h t=>
    cases i with
    |zero=>exact h
    |succ i=>exact ih t i (by simpa using h1) (by simpa using h2)
 have hall:AllR G (tokf s.hp) w avs (xs.map a.eval).toArray:=by
  refine⟨by simp[<-hle.len,hrl.1],fun i hi hv=>?_⟩;have h1:i<vs.length:=by rw[hle.len];exact hi
  have:=(hrl.2 i h1 (by rw[<-hrl.1];exact h1)).le (hle' hle i h1 hi);simpa using this
 have hcalls:=zr0 hr hf hall (hh1' hh) (hcr' j (by simp)).1 (hcr' j (by simp)).2;unfold wpO;rw[if_pos (hg.gf.wanted hr (fun p hm=>hp' p (by simp[hm])))];unfold Oper.wp;have hrun:(execOp a.eval ⟨some d,.call ⟨.value (.func f),xs.toArray,ats⟩,ty,pos,af,g⟩).run c.P w = .ok (.enter f (xs.map a.eval).toArray) w:=by
  have:=hc.run (xs.map a.eval).toArray w;simp only[execOp,resolve,Sem.run_bind,Act.eval,Deferred.ofValue,Sem.run_pure,Result.andThen_ok,invoke];simpa using this
 rw[hrun,Oper.upon_enter];refine hcalls.mono ?_;rintro e w' ⟨v,rfl,G',hR,hA⟩
 exact hK _ _ ⟨G',hR.put hA hd⟩
end
section
variable {c:Ctx}{all:Array Oper}{K:Kt}
theorem zo6 {Q:St->Prop}{Q':Exit->Act->World->Prop}{l2:List Nat} (hQ:∀s a w,Rel c s a w->Q s->wpOps c.P all Q' l2 a w):
  ∀(l:List Nat) (os:List Oper) (recs:List Rec) (s:St) (a:Act) (w:World),l.filterMap (all[·]?)=os->(∀i,i∈l->i<all.size)->
   Walk c all (fun _=>True) os recs s Q->Rel c s a w->wpOps c.P all Q' (l++l2) a w
 | [],os,recs,s,a,w,hl,_,hw,hr=>by
  simp only[List.filterMap_nil] at hl;subst hl;exact hQ s a w hr hw.2
 |i::l,os,recs,s,a,w,hl,hlt,hw,hr=>by
  have hi:i<all.size:=hlt i (by simp);have ho:all[i]?=some all[i]:=by simp[hi]
  rw[List.filterMap_cons] at hl;simp only[ho] at hl;subst hl;obtain⟨pre,prh,cr,u,hrule,h1,h2,h3,hrest⟩:=hw;rw[xag,wpOps_cons];unfold wpOp;simp only[ho];have:=hrule s a w hr h1 h2 h3 (wpOps c.P all Q' (l++l2)) Q' (fun a' w' hr'=>
   zo6 hQ l _ _ _ a' w' rfl (fun j hj=>hlt j (by simp[hj])) hrest hr')
  unfold wpO at this;split
  ·rename_i hw;simp only[hw,if_true] at this;exact .inl this
  ·rename_i hw;simp only[hw] at this;exact this
theorem ztl (all:Array Oper):(List.range all.size).filterMap (all[·]?)=all.toList:=by
 have h1:(List.range all.size).filterMap (all[·]?)=(List.range all.toList.length).filterMap (all.toList[·]?):=by simp
 rw[h1];generalize all.toList=l;induction l with
 |nil=>rfl
 |cons x l ih=>
  rw[xab,List.range_succ_eq_map,List.filterMap_cons];simp only[List.getElem?_cons_zero,List.filterMap_map];exact congrArg (List.cons x) ih
theorem zgE {all:Array Oper}:∀ {l:List Nat},(∀i,i∈l->i<all.size)->l.filterMap (all[·]?)=l.map (fun i=>all[i]!)
 | [],_=>rfl
 |i::r,h=>by
  have hi:i<all.size:=h i (by simp);have ho:all[i]?=some all[i]:=by simp[hi]
  rw[List.filterMap_cons];simp only[ho,xae];rw[zgE (fun j hj=>h j (by simp[hj]))];simp[hi]
theorem zrA (all:Array Oper) (k j:Nat):(((List.range all.size).drop k).take j).filterMap (all[·]?)=(all.toList.drop k).take j:=by
 have h0:=ztl all;rw[zgE (fun i hi=>by simpa using hi)] at h0;rw[zgE (fun i hi=>by simpa using List.mem_of_mem_drop (List.mem_of_mem_take hi)),<-h0,List.map_take,List.map_drop]
def WRest (c:Ctx) (all:Array Oper) (k:Nat) (s:St) (K:Kt):Prop:=∀a w,Rel c s a w->wpOps c.P all (K.post c) ((List.range all.size).drop k) a w
theorem xap {id:Nat}{s:St} (h:WRest c all 0 s K):CWp c (.region id all false) s K:=by
 intro a w hr;have:=h a w hr;rw[List.drop_zero] at this;exact wp_region this
theorem xaB {k:Nat}{s:St} (h:Walk c all (fun _=>True) (all.toList.drop k) [] s K.n):WRest c all k s K:=by
 intro a w hr;have e:=zrA all k (all.size-k);rw[List.take_of_length_le (by simp),List.take_of_length_le (by simp)] at e;exact zl9 (Q:=K.n) (fun s a w hr hq=>⟨s,hr,hq⟩) _ _ [] s a w e (fun i hi=>by simpa using List.mem_of_mem_drop hi) h hr
theorem xaC {k:Nat}{env:Env}{hp:Hp} (j:Nat) (E:Env) (ks:List Nat)
  (h1:Walk c all (fun _=>True) ((all.toList.drop k).take j) [] ⟨env,hp⟩ (fun s1=>Sub ⟨E++(zcS ks++env),[]++hp⟩ s1))
  (h2:WRest c all (k+j) ⟨E++(zcS ks++env),hp⟩ K):WRest c all k ⟨env,hp⟩ K:=by
 intro a w hr;have hk:∀id l,c.kept id=some l->(getH hp id).isSome:=by
  obtain⟨G,hg⟩:=hr;exact fun id l hl=>(hg.kept id l hl).2.1
 have e:(List.range all.size).drop k=((List.range all.size).drop k).take j++(List.range all.size).drop (k+j):=by
  conv=>lhs;rw[<-List.take_append_drop j ((List.range all.size).drop k),List.drop_drop]
 rw[e];exact zo6 (fun s1 a1 w1 hr1 hs=>h2 a1 w1 (hr1.sub hs hk)) _ _ [] _ a w (zrA all k j) (fun i hi=>by simpa using List.mem_of_mem_drop (List.mem_of_mem_take hi)) h1 hr
end
theorem zoE {i j:Nat}{b:Env}{t:Nat}{v:AV}:∀ {a:Env},getE (a++zfx i j b) t=some v->∃u,getE (a++b) t=some u/\(v = .any\/v=u)
 | [],h=>by
  obtain⟨u,h1,h2⟩:=zki (l:=b) h;exact⟨u,h1,h2.imp_right (fun h=>h.1)⟩
 |(k,x)::r,h=>by
  simp only[xag,getE] at h ⊢;cases hb:Nat.beq k t with
  |true=>simp only[hb,cond_true,Option.some.injEq] at h;exact⟨x,by simp,.inr h.symm⟩
  |false=>
   simp only[hb,cond_false] at h;obtain⟨u,h1,h2⟩:=zoE (a:=r) h;exact⟨u,by simpa using h1,h2⟩
theorem Sub.kill {i j:Nat}{a b:Env}{hp:Hp}{s:St} (h:Sub ⟨a++b,hp⟩ s):Sub ⟨a++zfx i j b,hp⟩ s:=by
 refine⟨fun t v hv=>?_,h.hp⟩;obtain⟨u,h1,h2⟩:=zoE hv;rcases h2 with rfl|rfl
 ·exact .inl rfl
 ·exact h.env t v h1
section
variable {c:Ctx}{K:Kt}
theorem CWp.loopT (i j:Nat){ι:Type}{body:Code}{env:Env}{hp:Hp}{ids:List Nat} (hkp:KeptIn c.kept ids) (E:ι->Env) (ks:List Nat) (H:ι->Hp) (good:ι->Prop) (μ:ι->Nat) (x0:ι) (h0:good x0)
  (he0:SubE (E x0) env) (hh0:SubH (H x0) hp) (hk:∀x,ids.all (fun id=>(getH (H x++hp) id).isSome)=true)
  (hround:∀x,good x->CWp c body ⟨E x++(zcS ks++zfx i j env),H x++hp⟩ (K.with fun s'=>∃x',good x'/\μ x'<μ x/\Sub ⟨E x'++(zcS ks++zfx i j env),H x'++hp⟩ s')):
  CWp c (.loop body) ⟨env,hp⟩ K:=by
 refine CWp.loop (fun x=>⟨E x++(zcS ks++zfx i j env),H x++hp⟩) good μ x0 h0 ?_ (fun x=>hkp.ok (hk x)) hround;have h:Sub ⟨E x0++(zcS ks++env),H x0++hp⟩ ⟨env,hp⟩:=Sub.x (by simp) (by simp[zfn]) he0 (by simp) (by simp[zdv]) hh0;rw[<-List.append_assoc] at h;have:=h.kill (i:=i) (j:=j);rw[List.append_assoc] at this;exact this
end
theorem FnD.nilTok {P:Program}{f:FuncId}{i k m:Nat}{rest:List AV}{ys:List (List D)} (hrest:AV.idsL rest=[]) (h:FnD P f (.gl i []::rest) [(i,some (.tok 0 k))] (.gl i ys) [(i,some (.tok m k))]):
  FnD P f (.nils::rest) [] (.d (.sl ys)) []:=by
 intro G w vals hok;let G1:Gh:={ G with loc:=fun _=>[] }
 have only:∀ {id:Nat}{x y:Res},getH [(i,some x)] id=some y->id=i/\y=x:=fun {id x y} h=>by
  rw[zan] at h;split at h
  ·rename_i e;cases h;exact⟨e,rfl⟩
  ·cases h
 have gi:getH [(i,some (Res.tok 0 k))] i=some (.tok 0 k):=by simp[getH]
 have hok1:HOK G1 w [(i,some (.tok 0 k))] (.gl i []::rest) vals:=by
  refine⟨⟨hok.args.size,fun q hq hv=>?_⟩,fun id r hx=>?_,fun id id' h1 h2 h3=>?_,hok.top⟩
  ·have h1:=hok.args.rel q hq hv;cases q with
   |zero=>
    simp only[List.getElem_cons_zero] at h1 ⊢;generalize vals[0]=v at *;cases h1
    refine .gl .nil (fun n k' hT=>?_);have:=(only (zav.1 hT)).2;cases this
    exact⟨Nat.le_refl _,fun _=>⟨by simp,.inl ⟨rfl,rfl,rfl⟩⟩⟩
   |succ q=>
    simp only[List.getElem_cons_succ] at h1 ⊢;have hn:∀id,id∉(rest[q]'(by simpa using hq)).ids:=fun id hid=>by
     have:=xaj (List.getElem_mem _) hid;rw[hrest] at this;simp at this
    exact h1.mono (fun _ _ ho=>⟨ho,rfl⟩) (fun id hid=>(hn id hid).elim) (fun id hid=>(hn id hid).elim)
  ·obtain⟨rfl,rfl⟩:=only hx;intro b hb;simp[G1] at hb
  ·obtain⟨x,hx⟩:=Option.isSome_iff_exists.1 h1;obtain⟨y,hy⟩:=Option.isSome_iff_exists.1 h2;exact absurd ((only hx).1.trans (only hy).1.symm) h3
 refine(h G1 w vals hok1).mono ?_;rintro e w' ⟨v,r,hp',G',rfl,⟨rfl,rfl⟩,hret⟩
 have own1:∀b,b∉zb0 G1 [(i,some (Res.tok 0 k))]:=fun b hb=>by
  obtain⟨id,_,h2⟩:=zeA.1 hb;simp[G1] at h2
 have hres:RelD G'.F w' (.sl ys) v:=by
  have h1:=hret.res;generalize hx:AV.gl i ys=x at h1;cases h1 with
  |gl h _=>cases hx;exact h
  |_=>cases hx
 refine⟨v,_,_,G',rfl,⟨rfl,rfl⟩,.d hres,fun id x hx=>?_,fun id id' h1=>?_,fun id h1=>?_, ?_,hret.top,fun id hi=>?_⟩
 ·simp[getH] at hx
 ·simp[getH] at h1
 ·simp[getH] at h1
 ·have hf:=hret.frm;exact⟨hf.os,hf.tape,hf.output,hf.size,fun b hb hn=>hf.block b hb (own1 b),hf.cell⟩
 ·simp[zbK,getH] at hi
theorem ziC {P:Program}{w:World}{G:Gh}{T:TokF}:∀ {d:Nat}{fs:List Field}{i:Nat}{xs ys:List AV}{b:Bool}{us vs:Array Value},zef P i fs=true->eqC xs ys=some b->fs.length=xs.length->
  (∀j (h:j<xs.length),∃u,us[i+j]?=some u/\RelA G T w xs[j] u)->(∀j (h:j<ys.length),∃u,vs[i+j]?=some u/\RelA G T w ys[j] u)->
  (Op.eqFields (d+1) us vs fs).run P w = .ok b w
 |d,[],i,[],[],b,us,vs,_,h,_,_,_=>by simp only[eqC,Option.some.injEq] at h;subst h;simp[Op.eqFields]
 |d,[],i,[],_::_,b,us,vs,_,h,_,_,_=>by simp[eqC] at h
 |d,[],i,_::_,_,b,us,vs,_,_,h,_,_=>by simp at h
 |d,f::fs,i,[],_,b,us,vs,_,_,h,_,_=>by simp at h
 |d,f::fs,i,x::xs,ys,b,us,vs,hf,he,hl,hx,hy=>by
  cases ys with
  |nil=>unfold eqC at he;split at he<;>simp_all
  |cons y ys=>
   unfold eqC at he;split at he
   ·rename_i h1 h2;simp at h1
   ·rename_i a r b' s h1 h2;simp only[List.cons.injEq] at h1 h2;obtain⟨rfl,rfl⟩:=h1;obtain⟨rfl,rfl⟩:=h2;split at he
    ·rename_i t ht;simp only[Option.some.injEq] at he;subst he;simp only[zef,xad,bne_iff_ne] at hf;obtain⟨⟨⟨f1,f2⟩,f3⟩,f4⟩:=hf;have f2':=Nat.eq_of_beq_eq_true f2;obtain⟨u,hu,hru⟩:=hx 0 (by simp);obtain⟨v,hv,hrv⟩:=hy 0 (by simp);have hu':=hru.int_eq;have hv':=hrv.int_eq;subst hu' hv';have ih:=ziC (P:=P) (w:=w) (d:=d) (us:=us) (vs:=vs) f4 ht (by simpa using hl)
      (fun j h=>by obtain⟨u,h1,h2⟩:=hx (j+1) (by simpa using h);exact⟨u,by rw[show i+1+j=i+(j+1) by omega];exact h1,by simpa using h2⟩)
      (fun j h=>by obtain⟨u,h1,h2⟩:=hy (j+1) (by simpa using h);exact⟨u,by rw[show i+1+j=i+(j+1) by omega];exact h1,by simpa using h2⟩)
     split at f3
     ·rename_i kd hk;have p1:(part f.type us f.offset).run P w = .ok (.int .i64 a) w:=by
       have hu0:us[i]?=some (.int .i64 a):=by simpa using hu
       simp only[part,isAgg,Sem.run_bind,run_underlying hk,Result.andThen_ok,Sem.run_pure,f2',hu0,Bool.false_eq_true,if_false]
      have p2:(part f.type vs f.offset).run P w = .ok (.int .i64 b') w:=by
       have hv0:vs[i]?=some (.int .i64 b'):=by simpa using hv
       simp only[part,isAgg,Sem.run_bind,run_underlying hk,Result.andThen_ok,Sem.run_pure,f2',hv0,Bool.false_eq_true,if_false]
      simp only[Op.eqFields];rw[if_pos f1];simp only[Sem.run_bind,p1,p2,Result.andThen_ok,run_equalIn_int w d f.type .i64 kd a b' hk];by_cases hab:a=b'
      ·subst hab;simp[ih]
      ·simp[hab]
     ·cases f3
    ·cases he
   ·cases he
def subF (P:Program) (f:Field):Nat:=match P.underlying f.type with
 |some (.int _)=>1
 |some (.struct _)=>(P.fieldsOf f.type).size
 |_=>0
def zml (P:Program):List Field->Nat
 | []=>0
 |f::r=>subF P f+zml P r
def zgX (P:Program):Nat->List Field->Bool
 |_,[]=>true
 |i,f::r=>(f.name != "_")&&Nat.beq f.offset i&&(match P.underlying f.type with
  |some (.int _)=>true
  |some (.struct _)=>(match P.stoodInHeld f.type with|true=>false|false=>true)&&zef P 0 (P.fieldsOf f.type).toList&&(match zpF P f.type with|some (k,true)=>Nat.beq k (P.fieldsOf f.type).size|_=>false)
  |_=>false)&&zgX P (i+subF P f) r
structure EqT2 (P:Program) (t k:Nat):Prop where
 und:P.underlying t=some (.struct (P.fieldsOf t))
 held:P.stoodInHeld t=false
 grd:P.eqGuardType P.depth t=false
 fld:zgX P 0 (P.fieldsOf t).toList=true
 len:zml P (P.fieldsOf t).toList=k
theorem zs6 {k:Nat}:∀ {xs ys:List AV}{b:Bool},eqC xs ys=some b->k<=xs.length->∃b1 b2,eqC (xs.take k) (ys.take k)=some b1/\eqC (xs.drop k) (ys.drop k)=some b2/\b=(b1&&b2):=by
 induction k with
 |zero=>intro xs ys b h _;exact⟨true,b,by simp[eqC],by simpa using h,by simp⟩
 |succ k ih=>
  intro xs ys b h hk;cases xs with
  |nil=>simp at hk
  |cons x r=>
   cases ys with
   |nil=>unfold eqC at h;split at h<;>simp_all
   |cons y s=>
    unfold eqC at h;split at h
    ·rename_i h1 h2;simp at h1
    ·rename_i a r' b' s' h1 h2;simp only[List.cons.injEq] at h1 h2;obtain⟨rfl,rfl⟩:=h1;obtain⟨rfl,rfl⟩:=h2;split at h
     ·rename_i t ht;simp only[Option.some.injEq] at h;subst h;obtain⟨b1,b2,e1,e2,e3⟩:=ih ht (by simpa using hk);refine⟨decide (a=b')&&b1,b2,by simp[eqC,e1],by simpa using e2,by rw[e3,Bool.and_assoc]⟩
     ·cases h
    ·cases h
theorem ziB {P:Program}{w:World}{G:Gh}{T:TokF}:∀ {fs:List Field}{i:Nat}{xs ys:List AV}{b:Bool}{us vs:Array Value},zgX P i fs=true->eqC xs ys=some b->zml P fs=xs.length->
  (∀j (h:j<xs.length),∃u,us[i+j]?=some u/\RelA G T w xs[j] u)->(∀j (h:j<ys.length),∃u,vs[i+j]?=some u/\RelA G T w ys[j] u)->
  (Op.eqFields 9999 us vs fs).run P w = .ok b w
 | [],i,xs,ys,b,us,vs,_,h,hl,_,_=>by
  have e:xs=[]:=List.eq_nil_of_length_eq_zero hl.symm;subst e;have e2:=znE h;have e:ys=[]:=List.eq_nil_of_length_eq_zero e2.symm;subst e;simp only[eqC,Option.some.injEq] at h;subst h;simp[Op.eqFields]
 |f::fs,i,xs,ys,b,us,vs,hf,he,hl,hx,hy=>by
  have hlen:=znE he;simp only[zml] at hl;simp only[zgX,xad,bne_iff_ne] at hf;obtain⟨⟨⟨f1,f2⟩,f3⟩,f4⟩:=hf;have f2':=Nat.eq_of_beq_eq_true f2;obtain⟨b1,b2,e1,e2,e3⟩:=zs6 (k:=subF P f) he (by omega);have ih:=ziB (P:=P) (w:=w) (us:=us) (vs:=vs) f4 e2 (by rw[List.length_drop];omega)
   (fun j h=>by
    rw[List.length_drop] at h;obtain⟨u,h1,h2⟩:=hx (subF P f+j) (by omega);exact⟨u,by rw[Nat.add_assoc];exact h1,by rw[List.getElem_drop];exact h2⟩)
   (fun j h=>by
    rw[List.length_drop] at h;obtain⟨u,h1,h2⟩:=hy (subF P f+j) (by omega);exact⟨u,by rw[Nat.add_assoc];exact h1,by rw[List.getElem_drop];exact h2⟩)
  have key:∃u v,(part f.type us f.offset).run P w = .ok u w/\(part f.type vs f.offset).run P w = .ok v w/\(Op.equalIn 9999 f.type u v).run P w = .ok b1 w:=by
   split at f3
   ·rename_i kd hk;have hs:subF P f=1:=by unfold subF;rw[hk]
    rw[hs] at e1 hl;obtain⟨u,hu,hru⟩:=hx 0 (by omega);obtain⟨v,hv,hrv⟩:=hy 0 (by omega);rcases xs with _|⟨x,xr⟩
    ·simp at hl
    rcases ys with _|⟨y,yr⟩
    ·simp at hlen
    simp only[List.getElem_cons_zero] at hru hrv;simp only[List.take_succ_cons,List.take_zero] at e1;unfold eqC at e1;split at e1
    ·rename_i h1 _;simp at h1
    ·rename_i a r b' s h1 h2;simp only[List.cons.injEq] at h1 h2;obtain⟨rfl,rfl⟩:=h1;obtain⟨rfl,rfl⟩:=h2;simp only[eqC,Bool.and_true,Option.some.injEq] at e1;have hu':=hru.int_eq;have hv':=hrv.int_eq;subst hu' hv';refine⟨.int .i64 a,.int .i64 b', ?_, ?_, ?_⟩
     ·have hu0:us[i]?=some (.int .i64 a):=by simpa using hu
      simp only[part,isAgg,Sem.run_bind,run_underlying hk,Result.andThen_ok,Sem.run_pure,f2',hu0,Bool.false_eq_true,if_false]
     ·have hv0:vs[i]?=some (.int .i64 b'):=by simpa using hv
      simp only[part,isAgg,Sem.run_bind,run_underlying hk,Result.andThen_ok,Sem.run_pure,f2',hv0,Bool.false_eq_true,if_false]
     ·rw[show(9999:Nat)=9998+1 from rfl,run_equalIn_int w 9998 f.type .i64 kd a b' hk,<-e1];congr 1
    ·cases e1
   ·rename_i fs' hk;simp only[xad] at f3;obtain⟨⟨g1,g2⟩,g3⟩:=f3;have hheld:P.stoodInHeld f.type=false:=by
     split at g1
     ·cases g1
     ·assumption
    have hund:P.underlying f.type=some (.struct (P.fieldsOf f.type)):=by rw[hk];simp[Program.fieldsOf,hk]
    have hs:subF P f=(P.fieldsOf f.type).size:=by unfold subF;rw[hk]
    have hty:TyS P f.type (P.fieldsOf f.type).size true:=by
     split at g3
     ·rename_i k hg;rw[<-Nat.eq_of_beq_eq_true g3];exact TyS.of hg
     ·cases g3
    have hpart:∀cs:Array Value,(part f.type cs f.offset).run P w = .ok (.agg (cs.extract i (i+(P.fieldsOf f.type).size))) w:=fun cs=>by
     simp only[part,Sem.run_bind,hty.run_agg,hty.run_size,Result.andThen_ok,Sem.run_pure,f2',if_true]
    refine⟨_,_,hpart us,hpart vs, ?_⟩;rw[show(9999:Nat)=9998+1 from rfl,run_equalIn_agg w 9998 f.type _ _ hund hheld];refine ziC (d:=9997) (G:=G) (T:=T) (i:=0) g2 e1 (by rw[List.length_take,Array.length_toList,hs];omega) (fun j h=>?_) (fun j h=>?_)
    ·rw[List.length_take] at h;obtain⟨u,h1,h2⟩:=hx j (by omega);refine⟨u, ?_,by rw[List.getElem_take];exact h2⟩;rw[Array.getElem?_extract,if_pos (by have:=(Array.getElem?_eq_some_iff.1 h1).1;omega),Nat.zero_add];exact h1
    ·rw[List.length_take] at h;obtain⟨u,h1,h2⟩:=hy j (by omega);refine⟨u, ?_,by rw[List.getElem_take];exact h2⟩;rw[Array.getElem?_extract,if_pos (by have:=(Array.getElem?_eq_some_iff.1 h1).1;omega),Nat.zero_add];exact h1
   ·cases f3
  obtain⟨u,v,p1,p2,p3⟩:=key;simp only[Op.eqFields];rw[if_pos f1];simp only[Sem.run_bind,p1,p2,Result.andThen_ok,p3];subst e3;cases b1 with
  |true=>simp[ih]
  |false=>simp
theorem ztZ {P:Program}{w:World}{G:Gh}{T:TokF}{t:TypeId}{xs ys:List AV}{b:Bool}{u v:Value}{k:Nat} (ht:EqT2 P t k) (hl0:xs.length=k) (he:eqC xs ys=some b) (hu:RelA G T w (.agg xs) u) (hv:RelA G T w (.agg ys) v):
  ∃us vs,u = .agg us/\v = .agg vs/\(Op.equalIn 10000 t (.agg us) (.agg vs)).run P w = .ok b w:=by
 cases hu with
 |agg h1 h2=>
  cases hv with
  |agg h3 h4=>
   refine⟨_,_,rfl,rfl, ?_⟩;rw[show(10000:Nat)=9999+1 from rfl,run_equalIn_agg w 9999 t _ _ ht.und ht.held];refine ziB (G:=G) (T:=T) (i:=0) ht.fld he (ht.len.trans hl0.symm) (fun j h=>?_) (fun j h=>?_)
   ·rename_i us vs;have hj:j<us.size:=by rw[h1];exact h
    exact⟨us[j],by rw[Nat.zero_add,Array.getElem?_eq_getElem hj],h2 j h hj⟩
   ·rename_i us vs;have hj:j<vs.size:=by rw[h3];exact h
    exact⟨vs[j],by rw[Nat.zero_add,Array.getElem?_eq_getElem hj],h4 j h hj⟩
section
variable {c:Ctx}{all:Array Oper}{chk:List Rec->Prop}{os:List Oper}{recs:List Rec}{env:Env}{hp:Hp}{Q:St->Prop}
variable {d ty:Nat}{pos:String}{af:Array Edge}{g:Option (Nat×Bool)}{pg:List (Nat×AV)}
variable {t yt:TypeId}{x y:Operand}
theorem Walk.eqV2 {xs ys:List AV}{b:Bool}{k:Nat} (ht:EqT2 c.P t k) (hg:GH all env g pg) (hd:Nat.blt d c.n=true) (hx:opd env x=some (.agg xs)) (hy:opd env y=some (.agg ys)) (he:eqC xs ys=some b) (hl:xs.length=k)
  (hn:Walk c all chk os (zat (pg++(opF x (.agg xs)++opF y (.agg ys))) [] [] ⟨some (d,.d (.bool b)),[]⟩::recs) ⟨(d,.d (.bool b))::env,hp⟩ Q):
  Walk c all chk (⟨some d,.binOp .eql t x y yt,ty,pos,af,g⟩::os) recs ⟨env,hp⟩ Q:=by
 refine xa8 hg hd hx hy (fun a G T w h1 h2=>⟨.bool b, ?_,.d (.bool _)⟩) hn;obtain⟨us,vs,e1,e2,e3⟩:=ztZ ht hl he h1 h2;simp only[execOp,e1,e2];simp only[Sem.run_bind,run_eqGuard_agg w .eql t x y us vs ht.grd,Result.andThen_ok,run_eql_struct,e3,Sem.run_pure]
end
structure Tabs where
 ty:Nat->Option (Nat×Bool)
 sl:Nat->Bool
 st:Nat->Bool
 fd:Nat->Nat->Option Nat
structure TabsOK (P:Program) (T:Tabs):Prop where
 ty:∀t k b,T.ty t=some (k,b)->TyS P t k b
 sl:∀t,T.sl t=true->∃e k y,SlT P t e k y
 st:∀t,T.st t=true->P.underlying t=some .string
 fd:∀t f o,T.fd t f=some o->Fd P t f o
structure Sp (b:Bool) (X Y:Prop):Prop where
 t:b=true->X
 f:b=false->Y
structure Ar (n:Int) (X:Prop):Prop where
 b:I64 n
 k:X
def kget:List (Nat×Bool)->Nat->Option Bool
 | [],_=>none
 |(k,v)::r,i=>bif Nat.beq k i then some v else kget r i
def kdel:List (Nat×Bool)->Nat->List (Nat×Bool)
 | [],_=>[]
 |(k,v)::r,i=>bif Nat.beq k i then kdel r i else (k,v)::kdel r i
def memN:List Nat->Nat->Bool
 | [],_=>false
 |k::r,i=>bif Nat.beq k i then true else memN r i
def KN (env:Env):List (Nat×Bool)->Prop
 | []=>True
 |(e,v)::r=>(∃b,getE env e=some (.d (.bool b))/\b=v)/\KN env r
abbrev Cont:=List (Nat×AV)->List (Nat×Res)->AV->Prop
def evB (op:BinOp) (u v:D) (k:D->Prop) (stuck:Prop):Prop:=
 match u,v with
 | .int a m,.int b n=>match a,b with
  | .i64,.i64=>match op with
   | .eql=>k (.bool (decide (m=n)))
   | .neq=>k (.bool (!decide (m=n)))
   | .lss=>k (.bool (decide (m<n)))
   | .leq=>k (.bool (decide (m<=n)))
   | .gtr=>k (.bool (decide (n<m)))
   | .geq=>k (.bool (decide (n<=m)))
   | .add=>Ar (m+n) (k (.int .i64 (m+n)))
   | .sub=>Ar (m-n) (k (.int .i64 (m-n)))
   | .mul=>Ar (m*n) (k (.int .i64 (m*n)))
   |_=>stuck
  | .u8,.u8=>match op with
   | .eql=>k (.bool (decide (m=n)))
   | .neq=>k (.bool (!decide (m=n)))
   | .lss=>k (.bool (decide (m<n)))
   | .leq=>k (.bool (decide (m<=n)))
   | .gtr=>k (.bool (decide (n<m)))
   | .geq=>k (.bool (decide (n<=m)))
   |_=>stuck
  |_,_=>stuck
 | .str l,.str m=>match op with
  | .eql=>k (.bool (decide (l=m)))
  | .neq=>k (.bool (!decide (l=m)))
  |_=>stuck
 |_,_=>stuck
def evV (T:Tabs) (env:Env) (hp:Hp) (kn:List (Nat×Bool)) (k:Cont) (stuck:Prop) (op:Op):Prop:=
 match op with
 | .move x=>match opd env x with
  |some v=>k (opF x v) [] v
  |none=>stuck
 | .assign x=>match opd env x with
  |some v=>k (opF x v) [] v
  |none=>stuck
 | .pick (.tmp t) y z=>match getE env t with
  |some (.d (.bool b))=>match kget kn t with
   |some true=>match opd env y with
    |some v=>k (opF (.tmp t) (.d (.bool b))++opF y v) [] v
    |none=>stuck
   |some false=>match opd env z with
    |some v=>k (opF (.tmp t) (.d (.bool b))++opF z v) [] v
    |none=>stuck
   |none=>stuck
  |_=>stuck
 | .binOp op _ x y _=>match opd env x,opd env y with
  |some (.d u),some (.d v)=>evB op u v (fun r=>k (opF x (.d u)++opF y (.d v)) [] (.d r)) stuck
  |_,_=>stuck
 | .unOp .not _ x=>match opd env x with
  |some (.d (.bool b))=>k (opF x (.d (.bool b))) [] (.d (.bool (!b)))
  |_=>stuck
 | .load t x=>match opd env x with
  |some (.ref id off)=>match getH hp id with
   |some (.box cs)=>match T.ty t with
    |some (_,false)=>match cs[off]? with
     |some v=>k (opF x (.ref id off)) [(id,.box cs)] v
     |none=>stuck
    |some (n,true)=>match cutC cs off n with
     |some r=>k (opF x (.ref id off)) [(id,.box cs)] (.agg r)
     |none=>stuck
    |none=>stuck
   |_=>stuck
  |some (.d (.ptr cs off))=>match T.ty t with
   |some (_,false)=>match cs[off]? with
    |some v=>k (opF x (.d (.ptr cs off))) [] (.d v)
    |none=>stuck
   |some (n,true)=>match cutC cs off n with
    |some r=>match mapD r with
     |some r'=>k (opF x (.d (.ptr cs off))) [] (.agg r')
     |none=>stuck
    |none=>stuck
   |none=>stuck
  |_=>stuck
 | .fieldAddr t x f=>match opd env x with
  |some (.ref id off)=>match T.fd t f with
   |some o=>k (opF x (.ref id off)) [] (.ref id (off+o))
   |none=>stuck
  |some (.d (.ptr cs off))=>match T.fd t f with
   |some o=>k (opF x (.d (.ptr cs off))) [] (.d (.ptr cs (off+o)))
   |none=>stuck
  |_=>stuck
 | .extract x i=>match opd env x with
  |some (.tup vs)=>match vs[i]? with
   |some v=>k (opF x (.tup vs)) [] v
   |none=>stuck
  |_=>stuck
 | .nilCheck x=>match opd env x with
  |some (.ref id off)=>k (opF x (.ref id off)) [] (.ref id off)
  |some (.d (.ptr cs off))=>k (opF x (.d (.ptr cs off))) [] (.d (.ptr cs off))
  |_=>stuck
 | .call ⟨.builtin .len,⟨[x]⟩,⟨[at_]⟩⟩=>match opd env x with
  |some (.d (.str l))=>match T.st at_ with
   |true=>k (opF x (.d (.str l))) [] (.d (.i l.length))
   |false=>stuck
  |some (.d (.sl xs))=>match T.sl at_ with
   |true=>k (opF x (.d (.sl xs))) [] (.d (.i xs.length))
   |false=>stuck
  |some (.gl id xs)=>match T.sl at_ with
   |true=>k (opF x (.gl id xs)) [] (.d (.i xs.length))
   |false=>stuck
  |some (.ms id n)=>match T.sl at_ with
   |true=>k (opF x (.ms id n)) [] (.d (.i n))
   |false=>stuck
  |_=>stuck
 |_=>stuck
section
variable {T:Tabs}{c:Ctx}{all:Array Oper}{chk:List Rec->Prop}{os:List Oper}{recs:List Rec}{env:Env}{hp:Hp}{Q:St->Prop}
variable {d ty:Nat}{pos:String}{af:Array Edge}{g:Option (Nat×Bool)}{pg:List (Nat×AV)}{kn:List (Nat×Bool)}
theorem zeZ:∀ {kn:List (Nat×Bool)}{e:Nat}{v:Bool},KN env kn->kget kn e=some v->∃b,getE env e=some (.d (.bool b))/\b=v
 |(k,u)::r,e,v,h,hk=>by
  simp only[kget] at hk;cases hb:Nat.beq k e with
  |true=>simp only[hb,cond_true,Option.some.injEq] at hk;subst hk;obtain rfl:=Nat.eq_of_beq_eq_true hb;exact h.1
  |false=>simp only[hb,cond_false] at hk;exact zeZ h.2 hk
theorem zhe {v:AV}:∀ {kn:List (Nat×Bool)},KN env kn->KN ((d,v)::env) (kdel kn d)
 | [],_=>trivial
 |(k,u)::r,h=>by
  simp only[kdel];cases hb:Nat.beq k d with
  |true=>exact zhe h.2
  |false=>
   have hb':Nat.beq d k=false:=by
    cases hd:Nat.beq d k with
    |false=>rfl
    |true=>obtain rfl:=Nat.eq_of_beq_eq_true hd;rw[hd] at hb;cases hb
   refine⟨?_,zhe h.2⟩;simp only[getE,hb',cond_false];exact h.1
theorem zwg {u v:D}{op:BinOp}{t yt:TypeId}{x y:Operand}{k:D->Prop}{stuck W:Prop}
  (hs:stuck->W) (hg:GH all env g pg) (hd:Nat.blt d c.n=true) (hx:opd env x=some (.d u)) (hy:opd env y=some (.d v))
  (hk:∀r,k r->Walk c all chk os (zat (pg++(opF x (.d u)++opF y (.d v))) [] [] ⟨some (d,.d r),[]⟩::recs) ⟨(d,.d r)::env,hp⟩ Q)
  (hW:W=Walk c all chk (⟨some d,.binOp op t x y yt,ty,pos,af,g⟩::os) recs ⟨env,hp⟩ Q)
  (h:evB op u v k stuck):W:=by
 unfold evB at h;split at h
 ·split at h
  ·split at h
   ·exact hW ▸ Walk.eqI hg hd hx hy (hk _ h)
   ·exact hW ▸ Walk.neI hg hd hx hy (hk _ h)
   ·exact hW ▸ Walk.ltI hg hd hx hy (hk _ h)
   ·exact hW ▸ Walk.leI hg hd hx hy (hk _ h)
   ·exact hW ▸ Walk.gtI hg hd hx hy (hk _ h)
   ·exact hW ▸ Walk.geI hg hd hx hy (hk _ h)
   ·exact hW ▸ Walk.addI hg hd hx hy h.b (hk _ h.k)
   ·exact hW ▸ Walk.subI hg hd hx hy h.b (hk _ h.k)
   ·exact hW ▸ Walk.mulI hg hd hx hy h.b (hk _ h.k)
   ·exact hs h
  ·split at h
   ·exact hW ▸ Walk.eqI hg hd hx hy (hk _ h)
   ·exact hW ▸ Walk.neI hg hd hx hy (hk _ h)
   ·exact hW ▸ Walk.ltI hg hd hx hy (hk _ h)
   ·exact hW ▸ Walk.leI hg hd hx hy (hk _ h)
   ·exact hW ▸ Walk.gtI hg hd hx hy (hk _ h)
   ·exact hW ▸ Walk.geI hg hd hx hy (hk _ h)
   ·exact hs h
  ·exact hs h
 ·split at h
  ·exact hW ▸ Walk.eqS hg hd hx hy (hk _ h)
  ·exact hW ▸ Walk.neS hg hd hx hy (hk _ h)
  ·exact hs h
 ·exact hs h
theorem zs7 (hT:TabsOK c.P T){op:Op}{k:Cont} (hkn:KN env kn) (hg:GH all env g pg) (hd:Nat.blt d c.n=true)
  (hk:∀pre prh v,k pre prh v->Walk c all chk os (zat (pg++pre) prh [] ⟨some (d,v),[]⟩::recs) ⟨(d,v)::env,hp⟩ Q)
  (h:evV T env hp kn k (Walk c all chk (⟨some d,op,ty,pos,af,g⟩::os) recs ⟨env,hp⟩ Q) op):
  Walk c all chk (⟨some d,op,ty,pos,af,g⟩::os) recs ⟨env,hp⟩ Q:=by
 unfold evV at h;split at h
 ·split at h
  ·rename_i hx;exact Walk.move hg hd hx (hk _ _ _ h)
  ·exact h
 ·split at h
  ·rename_i hx;exact Walk.assign hg hd hx (hk _ _ _ h)
  ·exact h
 ·split at h
  ·rename_i b hx;split at h
   ·rename_i hkt;obtain⟨b',h1,h2⟩:=zeZ hkn hkt;rw[hx] at h1;cases h1;split at h
    ·rename_i hy;exact Walk.pickT (x:= .tmp _) hg hd hx h2 hy (hk _ _ _ h)
    ·exact h
   ·rename_i hkt;obtain⟨b',h1,h2⟩:=zeZ hkn hkt;rw[hx] at h1;cases h1;split at h
    ·rename_i hy;exact Walk.pickF (x:= .tmp _) hg hd hx h2 hy (hk _ _ _ h)
    ·exact h
   ·exact h
  ·exact h
 ·split at h
  ·rename_i hx hy;exact zwg id hg hd hx hy (fun r hr=>hk _ _ _ hr) rfl h
  ·exact h
 ·split at h
  ·rename_i hx;exact Walk.not hg hd hx (hk _ _ _ h)
  ·exact h
 ·split at h
  ·rename_i hx;split at h
   ·rename_i hh;split at h
    ·rename_i ht;split at h
     ·rename_i hv;exact xaV (hT.ty _ _ _ ht) hg hd hx hh hv (hk _ _ _ h)
     ·exact h
    ·rename_i ht;split at h
     ·rename_i hv;exact xaW (hT.ty _ _ _ ht) hg hd hx hh hv (hk _ _ _ h)
     ·exact h
    ·exact h
   ·exact h
  ·rename_i hx;split at h
   ·rename_i ht;split at h
    ·rename_i hv;exact xaX (hT.ty _ _ _ ht) hg hd hx hv (hk _ _ _ h)
    ·exact h
   ·rename_i ht;split at h
    ·rename_i hv;split at h
     ·rename_i hm;exact Walk.loadPA (hT.ty _ _ _ ht) hg hd hx hv hm (hk _ _ _ h)
     ·exact h
    ·exact h
   ·exact h
  ·exact h
 ·split at h
  ·rename_i hx;split at h
   ·rename_i hf;exact Walk.fieldB (hT.fd _ _ _ hf) hg hd hx (hk _ _ _ h)
   ·exact h
  ·rename_i hx;split at h
   ·rename_i hf;exact Walk.fieldP (hT.fd _ _ _ hf) hg hd hx (hk _ _ _ h)
   ·exact h
  ·exact h
 ·split at h
  ·rename_i hx;split at h
   ·rename_i hv;exact Walk.extract hg hd hx hv (hk _ _ _ h)
   ·exact h
  ·exact h
 ·split at h
  ·rename_i hx;exact Walk.nilCheck (.inl ⟨_,_,rfl⟩) hg hd hx (hk _ _ _ h)
  ·rename_i hx;exact Walk.nilCheck (.inr ⟨_,_,rfl⟩) hg hd hx (hk _ _ _ h)
  ·exact h
 ·split at h
  ·rename_i hx;split at h
   ·rename_i ht;exact Walk.lenS (hT.st _ ht) hg hd hx (hk _ _ _ h)
   ·exact h
  ·rename_i hx;split at h
   ·rename_i ht;obtain⟨_,_,_,ht⟩:=hT.sl _ ht;exact Walk.len ht hg hd hx (hk _ _ _ h)
   ·exact h
  ·rename_i hx;split at h
   ·rename_i ht;obtain⟨_,_,_,ht⟩:=hT.sl _ ht;exact Walk.lenG ht hg hd hx (hk _ _ _ h)
   ·exact h
  ·rename_i hx;split at h
   ·rename_i ht;obtain⟨_,_,_,ht⟩:=hT.sl _ ht;exact Walk.lenM ht hg hd hx (hk _ _ _ h)
   ·exact h
  ·exact h
 ·exact h
end
def evGo (T:Tabs) (stop:List Nat) (c:Ctx) (all:Array Oper) (chk:List Rec->Prop) (Q:St->Prop) (o:Oper) (os:List Oper) (recs:List Rec) (env:Env) (hp:Hp)
  (ih:List Rec->Env->Hp->List (Nat×Bool)->Prop) (d e:Nat) (b:Bool) (kn:List (Nat×Bool)) (op:Op):Prop:=
 match memN stop d with
 |true=>Walk c all chk (o::os) recs ⟨env,hp⟩ Q
 |false=>evV T env hp kn (fun pre prh v=>ih (zat ([(e,.d (.bool b))]++pre) prh [] ⟨some (d,v),[]⟩::recs) ((d,v)::env) hp (kdel kn d)) (Walk c all chk (o::os) recs ⟨env,hp⟩ Q) op
def zqd (T:Tabs) (stop:List Nat) (c:Ctx) (all:Array Oper) (chk:List Rec->Prop) (Q:St->Prop) (o:Oper) (os:List Oper) (ih:List Rec->Env->Hp->List (Nat×Bool)->Prop)
  (recs:List Rec) (env:Env) (hp:Hp) (kn:List (Nat×Bool)):Prop:=
 match o.dst with
  |none=>match o.guard with
   |none=>Walk c all chk (o::os) recs ⟨env,hp⟩ Q
   |some (j,want)=>match (all[j]?).bind (·.dst) with
    |none=>Walk c all chk (o::os) recs ⟨env,hp⟩ Q
    |some e=>match getE env e with
     |some (.tup [])=>ih (zat [(e,.tup [])] [] [] ⟨none,[]⟩::recs) env hp kn
     |some (.d (.bool b))=>match kget kn e,want with
      |some true,true=>Walk c all chk (o::os) recs ⟨env,hp⟩ Q
      |some false,false=>Walk c all chk (o::os) recs ⟨env,hp⟩ Q
      |some _,_=>ih (zat [(e,.d (.bool b))] [] [] ⟨none,[]⟩::recs) env hp kn
      |none,true=>Sp b (Walk c all chk (o::os) recs ⟨env,hp⟩ Q) (ih (zat [(e,.d (.bool b))] [] [] ⟨none,[]⟩::recs) env hp ((e,false)::kn))
      |none,false=>Sp b (ih (zat [(e,.d (.bool b))] [] [] ⟨none,[]⟩::recs) env hp ((e,true)::kn)) (Walk c all chk (o::os) recs ⟨env,hp⟩ Q)
     |_=>Walk c all chk (o::os) recs ⟨env,hp⟩ Q
  |some d=>match Nat.blt d c.n with
   |false=>Walk c all chk (o::os) recs ⟨env,hp⟩ Q
   |true=>match o.guard with
    |none=>match memN stop d with
     |true=>Walk c all chk (o::os) recs ⟨env,hp⟩ Q
     |false=>evV T env hp kn (fun pre prh v=>ih (zat ([]++pre) prh [] ⟨some (d,v),[]⟩::recs) ((d,v)::env) hp (kdel kn d))
       (Walk c all chk (o::os) recs ⟨env,hp⟩ Q) o.op
    |some (j,want)=>match (all[j]?).bind (·.dst) with
     |none=>Walk c all chk (o::os) recs ⟨env,hp⟩ Q
     |some e=>match getE env e with
      |some (.tup [])=>ih (zat [(e,.tup [])] [] [] ⟨some (d,.tup []),[]⟩::recs) ((d,.tup [])::env) hp (kdel kn d)
      |some (.d (.bool b))=>match kget kn e,want with
       |some true,true=>evGo T stop c all chk Q o os recs env hp ih d e b kn o.op
       |some false,false=>evGo T stop c all chk Q o os recs env hp ih d e b kn o.op
       |some _,_=>ih (zat [(e,.d (.bool b))] [] [] ⟨some (d,.tup []),[]⟩::recs) ((d,.tup [])::env) hp (kdel kn d)
       |none,true=>Sp b (evGo T stop c all chk Q o os recs env hp ih d e b ((e,true)::kn) o.op) (ih (zat [(e,.d (.bool b))] [] [] ⟨some (d,.tup []),[]⟩::recs) ((d,.tup [])::env) hp (kdel ((e,false)::kn) d))
       |none,false=>Sp b (ih (zat [(e,.d (.bool b))] [] [] ⟨some (d,.tup []),[]⟩::recs) ((d,.tup [])::env) hp (kdel ((e,true)::kn) d)) (evGo T stop c all chk Q o os recs env hp ih d e b ((e,false)::kn) o.op)
      |_=>Walk c all chk (o::os) recs ⟨env,hp⟩ Q
noncomputable def evW (T:Tabs) (stop:List Nat) (c:Ctx) (all:Array Oper) (chk:List Rec->Prop) (Q:St->Prop) (fin:List Rec->Env->Hp->Prop) (os:List Oper):List Rec->Env->Hp->List (Nat×Bool)->Prop:=
 List.rec (motive:=fun _=>List Rec->Env->Hp->List (Nat×Bool)->Prop) (fun recs env hp _=>fin recs env hp) (fun o os ih=>zqd T stop c all chk Q o os ih) os
section
variable {T:Tabs}{c:Ctx}{all:Array Oper}{chk:List Rec->Prop}{Q:St->Prop}{stop:List Nat}{fin:List Rec->Env->Hp->Prop}
theorem zhf {env:Env}{e:Nat}{b v:Bool}{kn:List (Nat×Bool)} (he:getE env e=some (.d (.bool b))) (hb:b=v) (hk:KN env kn):KN env ((e,v)::kn):=⟨⟨b,he,hb⟩,hk⟩
theorem zka (hT:TabsOK c.P T) (hfin:∀recs env hp,fin recs env hp->chk recs/\Q ⟨env,hp⟩):∀ {os:List Oper}{recs:List Rec}{env:Env}{hp:Hp}{kn:List (Nat×Bool)},
  KN env kn->evW T stop c all chk Q fin os recs env hp kn->Walk c all chk os recs ⟨env,hp⟩ Q
 | [],recs,env,hp,kn,hkn,h=>by
  unfold evW at h;exact hfin _ _ _ h
 |⟨dst,op,ty,pos,af,g⟩::os,recs,env,hp,kn,hkn,h=>by
  have ih:=fun {recs:List Rec}{env:Env}{hp:Hp}{kn:List (Nat×Bool)}=>@zka hT hfin os recs env hp kn;replace h:zqd T stop c all chk Q ⟨dst,op,ty,pos,af,g⟩ os (evW T stop c all chk Q fin os) recs env hp kn:=h
  generalize evW T stop c all chk Q fin os=ihf at h ih;unfold zqd at h;cases dst with
  |none=>
   simp only at h;cases g with
   |none=>exact h
   |some g=>
    obtain⟨j,want⟩:=g;simp only at h;split at h
    ·exact h
    ·rename_i e he;split at h
     ·rename_i hu;exact Walk.passU0 rfl he hu rfl (ih hkn h)
     ·rename_i b hb;have pass:∀ {kn':List (Nat×Bool)},b = !want->KN env kn'->ihf (zat [(e,.d (.bool b))] [] [] ⟨none,[]⟩::recs) env hp kn'->
        Walk c all chk (⟨none,op,ty,pos,af,some (j,want)⟩::os) recs ⟨env,hp⟩ Q:=fun h2 hk h=>Walk.pass0 rfl he hb h2 rfl (ih hk h)
      split at h
      ·exact h
      ·exact h
      ·rename_i w1 x1 w2 v hv h1 h2;obtain⟨b',h3,h4⟩:=zeZ hkn hv;rw[hb] at h3;cases h3;refine pass ?_ hkn h;cases w1<;>cases v<;>simp_all
      ·exact Walk.split hb (fun hb'=>h.t hb') (fun hb'=>pass hb' (zhf hb hb' hkn) (h.f hb'))
      ·exact Walk.split hb (fun hb'=>pass hb' (zhf hb hb' hkn) (h.t hb')) (fun hb'=>h.f hb')
     ·exact h
  |some d=>
   simp only at h;split at h
   ·exact h
   ·rename_i hd;cases g with
    |none=>
     simp only at h;split at h
     ·exact h
     ·exact zs7 hT hkn .none hd (fun pre prh v hk=>ih (zhe hkn) hk) h
    |some g=>
     obtain⟨j,want⟩:=g;simp only at h;split at h
     ·exact h
     ·rename_i e he;split at h
      ·rename_i hu;exact Walk.passU rfl he hu rfl hd (ih (zhe hkn) h)
      ·rename_i b hb;have go:∀ {kn':List (Nat×Bool)},b=want->KN env kn'->evGo T stop c all chk Q ⟨some d,op,ty,pos,af,some (j,want)⟩ os recs env hp ihf d e b kn' op->
         Walk c all chk (⟨some d,op,ty,pos,af,some (j,want)⟩::os) recs ⟨env,hp⟩ Q:=by
        intro kn' h2 hk h;unfold evGo at h;split at h
        ·exact h
        ·exact zs7 hT hk (.some he hb h2) hd (fun pre prh v hk'=>ih (zhe hk) hk') h
       have pass:∀ {kn':List (Nat×Bool)},b = !want->KN env kn'->ihf (zat [(e,.d (.bool b))] [] [] ⟨some (d,.tup []),[]⟩::recs) ((d,.tup [])::env) hp (kdel kn' d)->
         Walk c all chk (⟨some d,op,ty,pos,af,some (j,want)⟩::os) recs ⟨env,hp⟩ Q:=fun h2 hk h=>Walk.pass rfl he hb h2 rfl hd (ih (zhe hk) h)
       split at h
       ·rename_i hv;obtain⟨b',h3,h4⟩:=zeZ hkn hv;rw[hb] at h3;cases h3;exact go h4 hkn h
       ·rename_i hv;obtain⟨b',h3,h4⟩:=zeZ hkn hv;rw[hb] at h3;cases h3;exact go h4 hkn h
       ·rename_i w1 x1 w2 v hv h1 h2;obtain⟨b',h3,h4⟩:=zeZ hkn hv;rw[hb] at h3;cases h3;refine pass ?_ hkn h;cases w1<;>cases v<;>simp_all
       ·exact Walk.split hb (fun hb'=>go hb' (zhf hb hb' hkn) (h.t hb')) (fun hb'=>pass hb' (zhf hb hb' hkn) (h.f hb'))
       ·exact Walk.split hb (fun hb'=>pass hb' (zhf hb hb' hkn) (h.t hb')) (fun hb'=>go hb' (zhf hb hb' hkn) (h.f hb'))
      ·exact h
end
noncomputable def evC (T:Tabs) (stop rs:List Nat) (c:Ctx) (x:Code):St->Kt->Prop:=
 Code.rec (motive:=fun _=>St->Kt->Prop)
  (fun s K=>K.n s)
  (fun id all draw s K=>match memN rs id with
   |true=>CWp c (.region id all draw) s K
   |false=>match draw with
    |false=>evW T stop c all (fun _=>True) K.n (fun _ env hp=>K.n ⟨env,hp⟩) all.toList [] s.env s.hp []
    |true=>evW T stop c all (fun recs=>chkB all.toList s recs.reverse=true) K.n (fun recs env hp=>chkB all.toList s recs.reverse=true/\K.n ⟨env,hp⟩) all.toList [] s.env s.hp [])
  (fun _ _ ihx ihy s K=>ihx s (K.with fun s'=>ihy s' K))
  (fun x t e iht ihe s K=>match x with
   | .tmp i=>match memN rs (1000000+i) with
    |true=>CWp c (.cond (.tmp i) t e) s K
    |false=>match getE s.env i with
     |some (.d (.bool b))=>Sp b (iht s K) (ihe s K)
     |_=>CWp c (.cond (.tmp i) t e) s K
   |x=>CWp c (.cond x t e) s K)
  (fun id _ ih s K=>ih s (K.blk id))
  (fun x _ s K=>CWp c (.loop x) s K)
  (fun f p a b _ _ s K=>CWp c (.rangeFunc f p a b) s K)
  (fun id s K=>K.ex id s)
  (fun x _ s K=>CWp c (.scope x) s K)
  (fun _ s K=>K.n s)
  (fun l s K=>CWp c (.goto l) s K)
  (fun s K=>match memN rs 999999 with|true=>CWp c .ret s K|false=>K.rt s)
  (fun w s K=>CWp c (.refuse w) s K) x
theorem CWp.mono {c:Ctx}{x:Code}{s:St}{K K':Kt} (h:CWp c x s K) (h1:∀s,K.n s->K'.n s) (h2:∀i s,K.ex i s->K'.ex i s) (h3:∀s,K.rt s->K'.rt s):CWp c x s K':=by
 intro a w hr;refine wp_mono (h a w hr) ?_;intro e a' w' hq;cases e with
 |normal=>obtain⟨s',hr',hn⟩:=hq;exact⟨s',hr',h1 _ hn⟩
 |exit id=>obtain⟨s',hr',hn⟩:=hq;exact⟨s',hr',h2 _ _ hn⟩
 |ret=>obtain⟨s',hr',hn⟩:=hq;exact⟨s',hr',h3 _ hn⟩
 |goto l=>exact hq.elim
 |panic ch=>exact hq.elim
 |outgrown=>exact hq.elim
theorem zhl {T:Tabs}{stop rs:List Nat}{c:Ctx} (hT:TabsOK c.P T) (hm:c.P.follows .mixedOrders=true):∀ {x:Code}{s:St}{K:Kt},evC T stop rs c x s K->CWp c x s K
 | .skip,s,K,h=>CWp.skip h
 | .exit id,s,K,h=>CWp.exit h
 | .ret,s,K,h=>by
  unfold evC at h;simp only at h;split at h
  ·exact h
  ·exact CWp.ret h
 | .label _,s,K,h=>CWp.label h
 | .seq x y,s,K,h=>CWp.seq ((zhl (x:=x) (s:=s) (K:=K.with fun s'=>evC T stop rs c y s' K) hT hm h).mono (fun _ h'=>zhl (x:=y) hT hm h') (fun _ _ h=>h) (fun _ h=>h))
 | .block id x,s,K,h=>CWp.block (zhl (x:=x) (K:=K.blk id) hT hm h)
 | .cond x t e,s,K,h=>by
  have ht:∀ {s:St}{K:Kt},evC T stop rs c t s K->CWp c t s K:=zhl hT hm;have he:∀ {s:St}{K:Kt},evC T stop rs c e s K->CWp c e s K:=zhl hT hm;cases x with
  |tmp i=>
   unfold evC at h ht he;simp only at h;split at h
   ·exact h
   ·split at h
    ·rename_i hc;exact CWp.cond hc (fun hb=>ht (h.t hb)) (fun hb=>he (h.f hb))
    ·exact h
  |_=>exact h
 | .region id all draw,s,K,h=>by
  unfold evC at h;simp only at h;split at h
  ·exact h
  ·cases draw with
   |false=>exact CWp.region rfl (zka (kn:=[]) hT (fun _ _ _ h=>⟨trivial,h⟩) trivial h)
   |true=>exact CWp.drawn hm rfl (zka (kn:=[]) hT (fun _ _ _ h=>h) trivial h)
 | .loop _,s,K,h=>h
 | .rangeFunc ..,s,K,h=>h
 | .scope _,s,K,h=>h
 | .goto _,s,K,h=>h
 | .refuse _,s,K,h=>h
def lk {α:Type}:List (Nat×α)->Nat->Option α
 | [],_=>none
 |(k,v)::r,i=>bif Nat.beq k i then some v else lk r i
def lk2:List (Nat×Nat×Nat)->Nat->Nat->Option Nat
 | [],_,_=>none
 |(k,j,v)::r,i,f=>bif Nat.beq k i&&Nat.beq j f then some v else lk2 r i f
theorem zte {α:Type}{v:α}:∀ {l:List (Nat×α)}{i:Nat},lk l i=some v->(i,v)∈l
 |(k,u)::r,i,h=>by
  simp only[lk] at h;cases hb:Nat.beq k i with
  |true=>simp only[hb,cond_true,Option.some.injEq] at h;subst h;obtain rfl:=Nat.eq_of_beq_eq_true hb;simp
  |false=>simp only[hb,cond_false] at h;exact List.mem_cons_of_mem _ (zte h)
theorem zrF {v:Nat}:∀ {l:List (Nat×Nat×Nat)}{i f:Nat},lk2 l i f=some v->(i,f,v)∈l
 |(k,j,u)::r,i,f,h=>by
  simp only[lk2] at h;cases hb:Nat.beq k i&&Nat.beq j f with
  |true=>
   simp only[hb,cond_true,Option.some.injEq] at h;obtain⟨h1,h2⟩:=xad _ _ ▸ hb;obtain rfl:=Nat.eq_of_beq_eq_true h1;obtain rfl:=Nat.eq_of_beq_eq_true h2;subst h;simp
  |false=>simp only[hb,cond_false] at h;exact List.mem_cons_of_mem _ (zrF h)
theorem zlT:∀ {l:List Nat}{i:Nat},memN l i=true->i∈l
 |k::r,i,h=>by
  simp only[memN] at h;cases hb:Nat.beq k i with
  |true=>obtain rfl:=Nat.eq_of_beq_eq_true hb;simp
  |false=>simp only[hb,cond_false] at h;exact List.mem_cons_of_mem _ (zlT h)
def strB:Option TypeDesc->Bool
 |some .string=>true
 |_=>false
theorem TabsOK.of {P:Program}{ty:List (Nat×Nat×Bool)}{sl st:List Nat}{fd:List (Nat×Nat×Nat)}
  (h1:ty.map (fun p=>zpF P p.1)=ty.map (fun p=>some p.2)) (h2:sl.all (fun t=>(zsh P t).isSome)=true)
  (h3:st.all (fun t=>strB (P.underlying t))=true) (h4:fd.map (fun p=>zr2 P p.1 p.2.1)=fd.map (fun p=>some (p.2.2,false))):TabsOK P ⟨lk ty,memN sl,memN st,lk2 fd⟩:=by
 refine⟨fun t k b h=>TyS.of ?_,fun t h=>?_,fun t h=>?_,fun t f o h=>Fd.of ?_⟩
 ·exact List.map_inj_left.1 h1 _ (zte h)
 ·have:=List.all_eq_true.1 h2 t (zlT h);obtain⟨⟨e,k,y⟩,h⟩:=Option.isSome_iff_exists.1 this;exact⟨e,k,y,SlT.of h⟩
 ·have:=List.all_eq_true.1 h3 t (zlT h);revert this
  cases P.underlying t with
  |none=>intro h;cases h
  |some d=>cases d<;>intro h<;>first|rfl|cases h
 ·exact List.map_inj_left.1 h4 _ (zrF h)
end Go.Proofs.YtlfipehhbdjnjaaGreat
namespace Go.Proofs.YtlfipehhbdjnjaaGreat
open Go
set_option maxRecDepth 100000
theorem ty3:TyS Tryz.prog 3 1 false:=TyS.of (by kernel_rfl)
theorem ty4:TyS Tryz.prog 4 1 false:=TyS.of (by kernel_rfl)
theorem ty5:TyS Tryz.prog 5 1 false:=TyS.of (by kernel_rfl)
theorem ty9:TyS Tryz.prog 9 1 false:=TyS.of (by kernel_rfl)
theorem ty25:TyS Tryz.prog 25 2 true:=TyS.of (by kernel_rfl)
theorem ty34:TyS Tryz.prog 34 1 false:=TyS.of (by kernel_rfl)
theorem ty36:TyS Tryz.prog 36 6 true:=TyS.of (by kernel_rfl)
theorem ty38:TyS Tryz.prog 38 3 true:=TyS.of (by kernel_rfl)
theorem ty40:TyS Tryz.prog 40 9 true:=TyS.of (by kernel_rfl)
theorem ty47:TyS Tryz.prog 47 1 false:=TyS.of (by kernel_rfl)
theorem ty49:TyS Tryz.prog 49 3 true:=TyS.of (by kernel_rfl)
theorem zpD:TyS Tryz.prog 130 1 false:=TyS.of (by kernel_rfl)
theorem zjw:TyS Tryz.prog 132 2 true:=TyS.of (by kernel_rfl)
theorem zpE:TyS Tryz.prog 196 1 false:=TyS.of (by kernel_rfl)
theorem zgl:TyS Tryz.prog 222 3 true:=TyS.of (by kernel_rfl)
theorem zuB:TyS Tryz.prog 329 3 true:=TyS.of (by kernel_rfl)
theorem sl22:SlT Tryz.prog 22 5 1 1:=SlT.of (by kernel_rfl)
theorem sl23:SlT Tryz.prog 23 132 2 40:=SlT.of (by kernel_rfl)
theorem sl26:SlT Tryz.prog 26 40 9 88:=SlT.of (by kernel_rfl)
theorem sl29:SlT Tryz.prog 29 3 1 8:=SlT.of (by kernel_rfl)
theorem sl34:SlT Tryz.prog 34 36 6 64:=SlT.of (by kernel_rfl)
theorem sl47:SlT Tryz.prog 47 49 3 40:=SlT.of (by kernel_rfl)
theorem sl60:SlT Tryz.prog 60 122 2 40:=SlT.of (by kernel_rfl)
theorem sl62:SlT Tryz.prog 62 129 9 88:=SlT.of (by kernel_rfl)
theorem zsg:SlT Tryz.prog 120 309 3 48:=SlT.of (by kernel_rfl)
theorem zuy:SlT Tryz.prog 124 126 6 64:=SlT.of (by kernel_rfl)
theorem zb9:SlT Tryz.prog 130 222 3 48:=SlT.of (by kernel_rfl)
theorem zaK:SlT Tryz.prog 196 25 2 16:=SlT.of (by kernel_rfl)
theorem zdr:SlT Tryz.prog 239 329 3 24:=SlT.of (by kernel_rfl)
theorem zd2:SlT Tryz.prog 256 34 1 24:=SlT.of (by kernel_rfl)
theorem zuz:SlT Tryz.prog 307 61 2 16:=SlT.of (by kernel_rfl)
theorem tz3:TyZ Tryz.prog 3 1 [.d (.int .i64 0)]:=TyZ.of (by kernel_rfl)
theorem tz5:TyZ Tryz.prog 5 1 [.d (.int .u8 0)]:=TyZ.of (by kernel_rfl)
theorem tz25:TyZ Tryz.prog 25 2 [.d (.int .i64 0),.d (.int .i64 0)]:=TyZ.of (by kernel_rfl)
theorem tz34:TyZ Tryz.prog 34 1 [.nils]:=TyZ.of (by kernel_rfl)
theorem tz36:TyZ Tryz.prog 36 6 [.d (.int .i64 0),.d (.int .i64 0),.d (.int .i64 0),.d (.int .i64 0),.d (.int .i64 0),.nils]:=TyZ.of (by kernel_rfl)
theorem tz38:TyZ Tryz.prog 38 3 [.d (.int .i64 0),.d (.int .i64 0),.d (.int .i64 0)]:=TyZ.of (by kernel_rfl)
theorem tz40:TyZ Tryz.prog 40 9 [.d (.int .i64 0),.d (.int .i64 0),.d (.int .i64 0),.d (.int .i64 0),.d (.int .i64 0),.nils,.d (.int .i64 0),.d (.int .i64 0),.d (.int .i64 0)]:=TyZ.of (by kernel_rfl)
theorem tz49:TyZ Tryz.prog 49 3 [.d (.int .i64 0),.d (.int .i64 0),.nils]:=TyZ.of (by kernel_rfl)
theorem zjx:TyZ Tryz.prog 132 2 [.d (.str []),.nils]:=TyZ.of (by kernel_rfl)
theorem zgm:TyZ Tryz.prog 222 3 [.d (.str []),.nils,.d (.int .i64 0)]:=TyZ.of (by kernel_rfl)
theorem zwG:TyZ Tryz.prog 288 16 [.d (.int .i64 0),.d (.int .i64 0),.d (.int .i64 0),.d (.int .i64 0),.d (.int .i64 0),.d (.int .i64 0),.d (.int .i64 0),.d (.int .i64 0),.d (.int .i64 0),.d (.int .i64 0),.d (.int .i64 0),.d (.int .i64 0),.d (.int .i64 0),.d (.int .i64 0),.d (.int .i64 0),.d (.int .i64 0)]:=TyZ.of (by kernel_rfl)
theorem zuC:TyZ Tryz.prog 327 6 [.d (.bool false),.d (.bool false),.d (.bool false),.d (.bool false),.d (.bool false),.d (.bool false)]:=TyZ.of (by kernel_rfl)
theorem zpG:TyZ Tryz.prog 329 3 [.d (.int .i64 0),.d (.int .i64 0),.d (.int .i64 0)]:=TyZ.of (by kernel_rfl)
theorem zz3:ZeroT Tryz.prog 3 1:=ZeroT.of (by kernel_rfl)
theorem zz25:ZeroT Tryz.prog 25 2:=ZeroT.of (by kernel_rfl)
theorem zz34:ZeroT Tryz.prog 34 1:=ZeroT.of (by kernel_rfl)
theorem zz36:ZeroT Tryz.prog 36 6:=ZeroT.of (by kernel_rfl)
theorem zz49:ZeroT Tryz.prog 49 3:=ZeroT.of (by kernel_rfl)
theorem zpI:ZeroT Tryz.prog 329 3:=ZeroT.of (by kernel_rfl)
theorem st25:StT Tryz.prog 25 [(0,1),(1,1)] [.d (.int .i64 0),.d (.int .i64 0)]:=StT.of (by kernel_rfl)
theorem st36:StT Tryz.prog 36 [(0,1),(1,1),(2,1),(3,1),(4,1),(5,1)] [.d (.int .i64 0),.d (.int .i64 0),.d (.int .i64 0),.d (.int .i64 0),.d (.int .i64 0),.nils]:=StT.of (by kernel_rfl)
theorem st38:StT Tryz.prog 38 [(0,1),(1,1),(2,1)] [.d (.int .i64 0),.d (.int .i64 0),.d (.int .i64 0)]:=StT.of (by kernel_rfl)
theorem st49:StT Tryz.prog 49 [(0,1),(1,1),(2,1)] [.d (.int .i64 0),.d (.int .i64 0),.nils]:=StT.of (by kernel_rfl)
theorem zwE:StT Tryz.prog 194 [(0,1),(1,1)] [.nils,.d .nilp]:=StT.of (by kernel_rfl)
theorem zsi:StT Tryz.prog 329 [(0,1),(1,2)] [.d (.int .i64 0),.d (.int .i64 0),.d (.int .i64 0)]:=StT.of (by kernel_rfl)
theorem zrW:ArT Tryz.prog 286 4 3 1:=ArT.of (by kernel_rfl)
theorem zpm:ArT Tryz.prog 288 4 286 4:=ArT.of (by kernel_rfl)
theorem zpn:ArT Tryz.prog 327 6 4 1:=ArT.of (by kernel_rfl)
theorem un3:Tryz.prog.underlying 3=some (.int .i64):=by kernel_rfl
theorem un4:Tryz.prog.underlying 4=some (.bool):=by kernel_rfl
theorem un5:Tryz.prog.underlying 5=some (.int .u8):=by kernel_rfl
theorem un9:Tryz.prog.underlying 9=some (.string):=by kernel_rfl
theorem zpB:MapT Tryz.prog 323:=MapT.of (by kernel_rfl)
theorem eq25:EqT Tryz.prog 25 2:=⟨by kernel_rfl,by kernel_rfl,by kernel_rfl,by kernel_rfl,by kernel_rfl⟩
theorem eq38:EqT Tryz.prog 38 3:=⟨by kernel_rfl,by kernel_rfl,by kernel_rfl,by kernel_rfl,by kernel_rfl⟩
theorem zwB:EqT2 Tryz.prog 329 3:=⟨by kernel_rfl,by kernel_rfl,by kernel_rfl,by kernel_rfl,by kernel_rfl⟩
theorem zud:Callee Tryz.prog 20:=⟨fun args w=>zae (fn:=Tryz.f20) rfl rfl (by decide) args w⟩
theorem zpo:Callee Tryz.prog 24:=⟨fun args w=>zae (fn:=Tryz.f24) rfl rfl (by decide) args w⟩
theorem zue:Callee Tryz.prog 25:=⟨fun args w=>zae (fn:=Tryz.f25) rfl rfl (by decide) args w⟩
theorem zuf:Callee Tryz.prog 28:=⟨fun args w=>zae (fn:=Tryz.f28) rfl rfl (by decide) args w⟩
theorem zug:Callee Tryz.prog 29:=⟨fun args w=>zae (fn:=Tryz.f29) rfl rfl (by decide) args w⟩
theorem zhJ:Callee Tryz.prog 30:=⟨fun args w=>zae (fn:=Tryz.f30) rfl rfl (by decide) args w⟩
theorem zhK:Callee Tryz.prog 31:=⟨fun args w=>zae (fn:=Tryz.f31) rfl rfl (by decide) args w⟩
theorem zhL:Callee Tryz.prog 32:=⟨fun args w=>zae (fn:=Tryz.f32) rfl rfl (by decide) args w⟩
theorem zi1:Callee Tryz.prog 33:=⟨fun args w=>zae (fn:=Tryz.f33) rfl rfl (by decide) args w⟩
theorem zuh:Callee Tryz.prog 34:=⟨fun args w=>zae (fn:=Tryz.f34) rfl rfl (by decide) args w⟩
theorem zui:Callee Tryz.prog 35:=⟨fun args w=>zae (fn:=Tryz.f35) rfl rfl (by decide) args w⟩
theorem zuj:Callee Tryz.prog 36:=⟨fun args w=>zae (fn:=Tryz.f36) rfl rfl (by decide) args w⟩
theorem zuk:Callee Tryz.prog 37:=⟨fun args w=>zae (fn:=Tryz.f37) rfl rfl (by decide) args w⟩
theorem zul:Callee Tryz.prog 38:=⟨fun args w=>zae (fn:=Tryz.f38) rfl rfl (by decide) args w⟩
theorem zpp:Callee Tryz.prog 39:=⟨fun args w=>zae (fn:=Tryz.f39) rfl rfl (by decide) args w⟩
theorem zrY:Callee Tryz.prog 58:=⟨fun args w=>zae (fn:=Tryz.f58) rfl rfl (by decide) args w⟩
theorem zum:Callee Tryz.prog 60:=⟨fun args w=>zae (fn:=Tryz.f60) rfl rfl (by decide) args w⟩
theorem zpq:Callee Tryz.prog 64:=⟨fun args w=>zae (fn:=Tryz.f64) rfl rfl (by decide) args w⟩
theorem zpr:Callee Tryz.prog 66:=⟨fun args w=>zae (fn:=Tryz.f66) rfl rfl (by decide) args w⟩
theorem zps:Callee Tryz.prog 67:=⟨fun args w=>zae (fn:=Tryz.f67) rfl rfl (by decide) args w⟩
theorem zdW:Callee Tryz.prog 68:=⟨fun args w=>zae (fn:=Tryz.f68) rfl rfl (by decide) args w⟩
theorem zpt:Callee Tryz.prog 69:=⟨fun args w=>zae (fn:=Tryz.f69) rfl rfl (by decide) args w⟩
theorem zc7:Callee Tryz.prog 70:=⟨fun args w=>zae (fn:=Tryz.f70) rfl rfl (by decide) args w⟩
theorem zun:Callee Tryz.prog 71:=⟨fun args w=>zae (fn:=Tryz.f71) rfl rfl (by decide) args w⟩
theorem zwr:Callee Tryz.prog 75:=⟨fun args w=>zae (fn:=Tryz.f75) rfl rfl (by decide) args w⟩
theorem zws:Callee Tryz.prog 76:=⟨fun args w=>zae (fn:=Tryz.f76) rfl rfl (by decide) args w⟩
theorem zpu:Callee Tryz.prog 77:=⟨fun args w=>zae (fn:=Tryz.f77) rfl rfl (by decide) args w⟩
theorem zrZ:Callee Tryz.prog 78:=⟨fun args w=>zae (fn:=Tryz.f78) rfl rfl (by decide) args w⟩
theorem zwt:Callee Tryz.prog 79:=⟨fun args w=>zae (fn:=Tryz.f79) rfl rfl (by decide) args w⟩
theorem zwu:Callee Tryz.prog 81:=⟨fun args w=>zae (fn:=Tryz.f81) rfl rfl (by decide) args w⟩
theorem zwv:Callee Tryz.prog 82:=⟨fun args w=>zae (fn:=Tryz.f82) rfl rfl (by decide) args w⟩
theorem zuo:Callee Tryz.prog 83:=⟨fun args w=>zae (fn:=Tryz.f83) rfl rfl (by decide) args w⟩
theorem zup:Callee Tryz.prog 84:=⟨fun args w=>zae (fn:=Tryz.f84) rfl rfl (by decide) args w⟩
theorem zww:Callee Tryz.prog 85:=⟨fun args w=>zae (fn:=Tryz.f85) rfl rfl (by decide) args w⟩
theorem zwx:Callee Tryz.prog 86:=⟨fun args w=>zae (fn:=Tryz.f86) rfl rfl (by decide) args w⟩
theorem zwy:Callee Tryz.prog 87:=⟨fun args w=>zae (fn:=Tryz.f87) rfl rfl (by decide) args w⟩
theorem zuq:Callee Tryz.prog 88:=⟨fun args w=>zae (fn:=Tryz.f88) rfl rfl (by decide) args w⟩
theorem zur:Callee Tryz.prog 89:=⟨fun args w=>zae (fn:=Tryz.f89) rfl rfl (by decide) args w⟩
theorem zpv:Callee Tryz.prog 90:=⟨fun args w=>zae (fn:=Tryz.f90) rfl rfl (by decide) args w⟩
theorem zpw:Callee Tryz.prog 91:=⟨fun args w=>zae (fn:=Tryz.f91) rfl rfl (by decide) args w⟩
theorem zus:Callee Tryz.prog 92:=⟨fun args w=>zae (fn:=Tryz.f92) rfl rfl (by decide) args w⟩
theorem zd8:Callee Tryz.prog 100:=⟨fun args w=>zae (fn:=Tryz.f100) rfl rfl (by decide) args w⟩
theorem zvc:Callee Tryz.prog 105:=⟨fun args w=>zae (fn:=Tryz.f105) rfl rfl (by decide) args w⟩
theorem zsn:Callee Tryz.prog 118:=⟨fun args w=>zae (fn:=Tryz.f118) rfl rfl (by decide) args w⟩
theorem zso:Callee Tryz.prog 120:=⟨fun args w=>zae (fn:=Tryz.f120) rfl rfl (by decide) args w⟩
theorem zvd:Callee Tryz.prog 121:=⟨fun args w=>zae (fn:=Tryz.f121) rfl rfl (by decide) args w⟩
theorem zve:Callee Tryz.prog 122:=⟨fun args w=>zae (fn:=Tryz.f122) rfl rfl (by decide) args w⟩
theorem zvf:Callee Tryz.prog 123:=⟨fun args w=>zae (fn:=Tryz.f123) rfl rfl (by decide) args w⟩
theorem zvg:Callee Tryz.prog 124:=⟨fun args w=>zae (fn:=Tryz.f124) rfl rfl (by decide) args w⟩
theorem zsp:Callee Tryz.prog 125:=⟨fun args w=>zae (fn:=Tryz.f125) rfl rfl (by decide) args w⟩
theorem zsq:Callee Tryz.prog 126:=⟨fun args w=>zae (fn:=Tryz.f126) rfl rfl (by decide) args w⟩
theorem zvh:Callee Tryz.prog 127:=⟨fun args w=>zae (fn:=Tryz.f127) rfl rfl (by decide) args w⟩
theorem zvi:Callee Tryz.prog 128:=⟨fun args w=>zae (fn:=Tryz.f128) rfl rfl (by decide) args w⟩
theorem zj0:Callee Tryz.prog 130:=⟨fun args w=>zae (fn:=Tryz.f130) rfl rfl (by decide) args w⟩
theorem zvj:Callee Tryz.prog 131:=⟨fun args w=>zae (fn:=Tryz.f131) rfl rfl (by decide) args w⟩
theorem zvk:Callee Tryz.prog 136:=⟨fun args w=>zae (fn:=Tryz.f136) rfl rfl (by decide) args w⟩
theorem zvl:Callee Tryz.prog 137:=⟨fun args w=>zae (fn:=Tryz.f137) rfl rfl (by decide) args w⟩
theorem zsr:Callee Tryz.prog 138:=⟨fun args w=>zae (fn:=Tryz.f138) rfl rfl (by decide) args w⟩
theorem zvm:Callee Tryz.prog 139:=⟨fun args w=>zae (fn:=Tryz.f139) rfl rfl (by decide) args w⟩
theorem zeK:Callee Tryz.prog 140:=⟨fun args w=>zae (fn:=Tryz.f140) rfl rfl (by decide) args w⟩
theorem zpO:Callee Tryz.prog 141:=⟨fun args w=>zae (fn:=Tryz.f141) rfl rfl (by decide) args w⟩
theorem zis:Callee Tryz.prog 142:=⟨fun args w=>zae (fn:=Tryz.f142) rfl rfl (by decide) args w⟩
theorem zit:Callee Tryz.prog 143:=⟨fun args w=>zae (fn:=Tryz.f143) rfl rfl (by decide) args w⟩
theorem zdf:Callee Tryz.prog 144:=⟨fun args w=>zae (fn:=Tryz.f144) rfl rfl (by decide) args w⟩
theorem zss:Callee Tryz.prog 145:=⟨fun args w=>zae (fn:=Tryz.f145) rfl rfl (by decide) args w⟩
theorem zst:Callee Tryz.prog 151:=⟨fun args w=>zae (fn:=Tryz.f151) rfl rfl (by decide) args w⟩
theorem zpP:Callee Tryz.prog 152:=⟨fun args w=>zae (fn:=Tryz.f152) rfl rfl (by decide) args w⟩
theorem zvn:Callee Tryz.prog 153:=⟨fun args w=>zae (fn:=Tryz.f153) rfl rfl (by decide) args w⟩
theorem zvo:Callee Tryz.prog 154:=⟨fun args w=>zae (fn:=Tryz.f154) rfl rfl (by decide) args w⟩
theorem zvp:Callee Tryz.prog 155:=⟨fun args w=>zae (fn:=Tryz.f155) rfl rfl (by decide) args w⟩
theorem zpQ:Callee Tryz.prog 156:=⟨fun args w=>zae (fn:=Tryz.f156) rfl rfl (by decide) args w⟩
theorem zmd:Callee Tryz.prog 157:=⟨fun args w=>zae (fn:=Tryz.f157) rfl rfl (by decide) args w⟩
theorem zsu:Callee Tryz.prog 158:=⟨fun args w=>zae (fn:=Tryz.f158) rfl rfl (by decide) args w⟩
theorem zpR:Callee Tryz.prog 159:=⟨fun args w=>zae (fn:=Tryz.f159) rfl rfl (by decide) args w⟩
theorem zfk:Callee Tryz.prog 160:=⟨fun args w=>zae (fn:=Tryz.f160) rfl rfl (by decide) args w⟩
theorem zvq:Callee Tryz.prog 161:=⟨fun args w=>zae (fn:=Tryz.f161) rfl rfl (by decide) args w⟩
theorem zsv:Callee Tryz.prog 162:=⟨fun args w=>zae (fn:=Tryz.f162) rfl rfl (by decide) args w⟩
theorem zsw:Callee Tryz.prog 163:=⟨fun args w=>zae (fn:=Tryz.f163) rfl rfl (by decide) args w⟩
theorem zpS:Callee Tryz.prog 164:=⟨fun args w=>zae (fn:=Tryz.f164) rfl rfl (by decide) args w⟩
theorem zsx:Callee Tryz.prog 165:=⟨fun args w=>zae (fn:=Tryz.f165) rfl rfl (by decide) args w⟩
theorem zvr:Callee Tryz.prog 166:=⟨fun args w=>zae (fn:=Tryz.f166) rfl rfl (by decide) args w⟩
theorem zsy:Callee Tryz.prog 167:=⟨fun args w=>zae (fn:=Tryz.f167) rfl rfl (by decide) args w⟩
theorem zvs:Callee Tryz.prog 168:=⟨fun args w=>zae (fn:=Tryz.f168) rfl rfl (by decide) args w⟩
theorem zsz:Callee Tryz.prog 169:=⟨fun args w=>zae (fn:=Tryz.f169) rfl rfl (by decide) args w⟩
theorem zvt:Callee Tryz.prog 177:=⟨fun args w=>zae (fn:=Tryz.f177) rfl rfl (by decide) args w⟩
theorem zvu:Callee Tryz.prog 182:=⟨fun args w=>zae (fn:=Tryz.f182) rfl rfl (by decide) args w⟩
theorem zsA:Callee Tryz.prog 187:=⟨fun args w=>zae (fn:=Tryz.f187) rfl rfl (by decide) args w⟩
theorem zsB:Callee Tryz.prog 190:=⟨fun args w=>zae (fn:=Tryz.f190) rfl rfl (by decide) args w⟩
theorem zsC:Callee Tryz.prog 191:=⟨fun args w=>zae (fn:=Tryz.f191) rfl rfl (by decide) args w⟩
theorem zsD:Callee Tryz.prog 192:=⟨fun args w=>zae (fn:=Tryz.f192) rfl rfl (by decide) args w⟩
theorem ziu:Callee Tryz.prog 197:=⟨fun args w=>zae (fn:=Tryz.f197) rfl rfl (by decide) args w⟩
theorem zvv:Callee Tryz.prog 215:=⟨fun args w=>zae (fn:=Tryz.f215) rfl rfl (by decide) args w⟩
theorem zvw:Callee Tryz.prog 216:=⟨fun args w=>zae (fn:=Tryz.f216) rfl rfl (by decide) args w⟩
theorem zsE:Callee Tryz.prog 217:=⟨fun args w=>zae (fn:=Tryz.f217) rfl rfl (by decide) args w⟩
theorem zvx:Callee Tryz.prog 218:=⟨fun args w=>zae (fn:=Tryz.f218) rfl rfl (by decide) args w⟩
theorem zj1:Callee Tryz.prog 219:=⟨fun args w=>zae (fn:=Tryz.f219) rfl rfl (by decide) args w⟩
theorem zme:Callee Tryz.prog 220:=⟨fun args w=>zae (fn:=Tryz.f220) rfl rfl (by decide) args w⟩
theorem zmf:Callee Tryz.prog 221:=⟨fun args w=>zae (fn:=Tryz.f221) rfl rfl (by decide) args w⟩
theorem zvy:Callee Tryz.prog 222:=⟨fun args w=>zae (fn:=Tryz.f222) rfl rfl (by decide) args w⟩
theorem zmg:Callee Tryz.prog 223:=⟨fun args w=>zae (fn:=Tryz.f223) rfl rfl (by decide) args w⟩
theorem zvz:Callee Tryz.prog 224:=⟨fun args w=>zae (fn:=Tryz.f224) rfl rfl (by decide) args w⟩
theorem ziv:Callee Tryz.prog 225:=⟨fun args w=>zae (fn:=Tryz.f225) rfl rfl (by decide) args w⟩
theorem zfl:Callee Tryz.prog 226:=⟨fun args w=>zae (fn:=Tryz.f226) rfl rfl (by decide) args w⟩
theorem zsF:Callee Tryz.prog 227:=⟨fun args w=>zae (fn:=Tryz.f227) rfl rfl (by decide) args w⟩
theorem zsG:Callee Tryz.prog 228:=⟨fun args w=>zae (fn:=Tryz.f228) rfl rfl (by decide) args w⟩
theorem zsH:Callee Tryz.prog 231:=⟨fun args w=>zae (fn:=Tryz.f231) rfl rfl (by decide) args w⟩
theorem zpT:Callee Tryz.prog 232:=⟨fun args w=>zae (fn:=Tryz.f232) rfl rfl (by decide) args w⟩
theorem zvA:Callee Tryz.prog 233:=⟨fun args w=>zae (fn:=Tryz.f233) rfl rfl (by decide) args w⟩
theorem zfm:Callee Tryz.prog 234:=⟨fun args w=>zae (fn:=Tryz.f234) rfl rfl (by decide) args w⟩
theorem zpU:Callee Tryz.prog 235:=⟨fun args w=>zae (fn:=Tryz.f235) rfl rfl (by decide) args w⟩
theorem zpV:Callee Tryz.prog 236:=⟨fun args w=>zae (fn:=Tryz.f236) rfl rfl (by decide) args w⟩
theorem zj2:Callee Tryz.prog 237:=⟨fun args w=>zae (fn:=Tryz.f237) rfl rfl (by decide) args w⟩
theorem zsI:Callee Tryz.prog 241:=⟨fun args w=>zae (fn:=Tryz.f241) rfl rfl (by decide) args w⟩
theorem zpW:Callee Tryz.prog 242:=⟨fun args w=>zae (fn:=Tryz.f242) rfl rfl (by decide) args w⟩
theorem zsJ:Callee Tryz.prog 243:=⟨fun args w=>zae (fn:=Tryz.f243) rfl rfl (by decide) args w⟩
theorem zvB:Callee Tryz.prog 244:=⟨fun args w=>zae (fn:=Tryz.f244) rfl rfl (by decide) args w⟩
theorem zpX:Callee Tryz.prog 245:=⟨fun args w=>zae (fn:=Tryz.f245) rfl rfl (by decide) args w⟩
theorem zvC:Callee Tryz.prog 246:=⟨fun args w=>zae (fn:=Tryz.f246) rfl rfl (by decide) args w⟩
theorem zvD:Callee Tryz.prog 247:=⟨fun args w=>zae (fn:=Tryz.f247) rfl rfl (by decide) args w⟩
theorem zsK:Callee Tryz.prog 248:=⟨fun args w=>zae (fn:=Tryz.f248) rfl rfl (by decide) args w⟩
theorem zmh:Callee Tryz.prog 249:=⟨fun args w=>zae (fn:=Tryz.f249) rfl rfl (by decide) args w⟩
theorem zd9:Callee Tryz.prog 250:=⟨fun args w=>zae (fn:=Tryz.f250) rfl rfl (by decide) args w⟩
theorem zgp:Callee Tryz.prog 251:=⟨fun args w=>zae (fn:=Tryz.f251) rfl rfl (by decide) args w⟩
theorem ziw:Callee Tryz.prog 252:=⟨fun args w=>zae (fn:=Tryz.f252) rfl rfl (by decide) args w⟩
theorem zpY:Callee Tryz.prog 253:=⟨fun args w=>zae (fn:=Tryz.f253) rfl rfl (by decide) args w⟩
theorem zdO:Callee Tryz.prog 254:=⟨fun args w=>zae (fn:=Tryz.f254) rfl rfl (by decide) args w⟩
theorem zvE:Callee Tryz.prog 255:=⟨fun args w=>zae (fn:=Tryz.f255) rfl rfl (by decide) args w⟩
theorem zvF:Callee Tryz.prog 256:=⟨fun args w=>zae (fn:=Tryz.f256) rfl rfl (by decide) args w⟩
theorem zsL:Callee Tryz.prog 257:=⟨fun args w=>zae (fn:=Tryz.f257) rfl rfl (by decide) args w⟩
theorem zvG:Callee Tryz.prog 258:=⟨fun args w=>zae (fn:=Tryz.f258) rfl rfl (by decide) args w⟩
theorem zvH:Callee Tryz.prog 259:=⟨fun args w=>zae (fn:=Tryz.f259) rfl rfl (by decide) args w⟩
theorem zvI:Callee Tryz.prog 260:=⟨fun args w=>zae (fn:=Tryz.f260) rfl rfl (by decide) args w⟩
theorem zvJ:Callee Tryz.prog 267:=⟨fun args w=>zae (fn:=Tryz.f267) rfl rfl (by decide) args w⟩
theorem zmi:Callee Tryz.prog 270:=⟨fun args w=>zae (fn:=Tryz.f270) rfl rfl (by decide) args w⟩
theorem zvK:Callee Tryz.prog 272:=⟨fun args w=>zae (fn:=Tryz.f272) rfl rfl (by decide) args w⟩
theorem zvL:Callee Tryz.prog 273:=⟨fun args w=>zae (fn:=Tryz.f273) rfl rfl (by decide) args w⟩
theorem zvM:Callee Tryz.prog 274:=⟨fun args w=>zae (fn:=Tryz.f274) rfl rfl (by decide) args w⟩
theorem zsM:Callee Tryz.prog 276:=⟨fun args w=>zae (fn:=Tryz.f276) rfl rfl (by decide) args w⟩
theorem zix:Callee Tryz.prog 277:=⟨fun args w=>zae (fn:=Tryz.f277) rfl rfl (by decide) args w⟩
theorem zvN:Callee Tryz.prog 280:=⟨fun args w=>zae (fn:=Tryz.f280) rfl rfl (by decide) args w⟩
theorem zvO:Callee Tryz.prog 287:=⟨fun args w=>zae (fn:=Tryz.f287) rfl rfl (by decide) args w⟩
theorem zpZ:Callee Tryz.prog 293:=⟨fun args w=>zae (fn:=Tryz.f293) rfl rfl (by decide) args w⟩
theorem zsN:Callee Tryz.prog 294:=⟨fun args w=>zae (fn:=Tryz.f294) rfl rfl (by decide) args w⟩
theorem zsO:Callee Tryz.prog 295:=⟨fun args w=>zae (fn:=Tryz.f295) rfl rfl (by decide) args w⟩
theorem zp0:Callee Tryz.prog 296:=⟨fun args w=>zae (fn:=Tryz.f296) rfl rfl (by decide) args w⟩
theorem zp1:Callee Tryz.prog 297:=⟨fun args w=>zae (fn:=Tryz.f297) rfl rfl (by decide) args w⟩
theorem zmj:Callee Tryz.prog 298:=⟨fun args w=>zae (fn:=Tryz.f298) rfl rfl (by decide) args w⟩
theorem zp2:Callee Tryz.prog 299:=⟨fun args w=>zae (fn:=Tryz.f299) rfl rfl (by decide) args w⟩
theorem zvP:Callee Tryz.prog 300:=⟨fun args w=>zae (fn:=Tryz.f300) rfl rfl (by decide) args w⟩
theorem zsP:Callee Tryz.prog 301:=⟨fun args w=>zae (fn:=Tryz.f301) rfl rfl (by decide) args w⟩
theorem zsQ:Callee Tryz.prog 302:=⟨fun args w=>zae (fn:=Tryz.f302) rfl rfl (by decide) args w⟩
theorem zvQ:Callee Tryz.prog 303:=⟨fun args w=>zae (fn:=Tryz.f303) rfl rfl (by decide) args w⟩
theorem zvR:Callee Tryz.prog 304:=⟨fun args w=>zae (fn:=Tryz.f304) rfl rfl (by decide) args w⟩
theorem zea:Callee Tryz.prog 305:=⟨fun args w=>zae (fn:=Tryz.f305) rfl rfl (by decide) args w⟩
theorem zvS:Callee Tryz.prog 306:=⟨fun args w=>zae (fn:=Tryz.f306) rfl rfl (by decide) args w⟩
theorem zvT:Callee Tryz.prog 317:=⟨fun args w=>zae (fn:=Tryz.f317) rfl rfl (by decide) args w⟩
theorem zsR:Callee Tryz.prog 318:=⟨fun args w=>zae (fn:=Tryz.f318) rfl rfl (by decide) args w⟩
theorem zvU:Callee Tryz.prog 319:=⟨fun args w=>zae (fn:=Tryz.f319) rfl rfl (by decide) args w⟩
theorem zvV:Callee Tryz.prog 320:=⟨fun args w=>zae (fn:=Tryz.f320) rfl rfl (by decide) args w⟩
theorem zvW:Callee Tryz.prog 321:=⟨fun args w=>zae (fn:=Tryz.f321) rfl rfl (by decide) args w⟩
theorem zsS:Callee Tryz.prog 322:=⟨fun args w=>zae (fn:=Tryz.f322) rfl rfl (by decide) args w⟩
theorem zvX:Callee Tryz.prog 323:=⟨fun args w=>zae (fn:=Tryz.f323) rfl rfl (by decide) args w⟩
theorem zvY:Callee Tryz.prog 330:=⟨fun args w=>zae (fn:=Tryz.f330) rfl rfl (by decide) args w⟩
theorem zvZ:Callee Tryz.prog 331:=⟨fun args w=>zae (fn:=Tryz.f331) rfl rfl (by decide) args w⟩
theorem zv0:Callee Tryz.prog 332:=⟨fun args w=>zae (fn:=Tryz.f332) rfl rfl (by decide) args w⟩
theorem zsT:Callee Tryz.prog 335:=⟨fun args w=>zae (fn:=Tryz.f335) rfl rfl (by decide) args w⟩
theorem zv1:Callee Tryz.prog 336:=⟨fun args w=>zae (fn:=Tryz.f336) rfl rfl (by decide) args w⟩
theorem zv2:Callee Tryz.prog 348:=⟨fun args w=>zae (fn:=Tryz.f348) rfl rfl (by decide) args w⟩
theorem zsU:Callee Tryz.prog 349:=⟨fun args w=>zae (fn:=Tryz.f349) rfl rfl (by decide) args w⟩
theorem zv3:Callee Tryz.prog 350:=⟨fun args w=>zae (fn:=Tryz.f350) rfl rfl (by decide) args w⟩
theorem zp3:Callee Tryz.prog 351:=⟨fun args w=>zae (fn:=Tryz.f351) rfl rfl (by decide) args w⟩
theorem zv4:Callee Tryz.prog 352:=⟨fun args w=>zae (fn:=Tryz.f352) rfl rfl (by decide) args w⟩
theorem zv5:Callee Tryz.prog 358:=⟨fun args w=>zae (fn:=Tryz.f358) rfl rfl (by decide) args w⟩
theorem zv6:Callee Tryz.prog 375:=⟨fun args w=>zae (fn:=Tryz.f375) rfl rfl (by decide) args w⟩
theorem zv7:Callee Tryz.prog 376:=⟨fun args w=>zae (fn:=Tryz.f376) rfl rfl (by decide) args w⟩
theorem zv8:Callee Tryz.prog 388:=⟨fun args w=>zae (fn:=Tryz.f388) rfl rfl (by decide) args w⟩
theorem zuw:Tryz.prog.follows .mixedOrders=true:=by kernel_rfl
def evT:Tabs:=⟨lk [(3,1,false),(4,1,false),(5,1,false),(9,1,false),(22,1,false),(23,1,false),(25,2,true),(26,1,false),(29,1,false),(34,1,false),(36,6,true),(38,3,true),(40,9,true),(47,1,false),(49,3,true),(61,2,true),(79,4,true),(80,1,false),(82,6,true),(86,1,false),(88,3,true),(106,1,false),(120,1,false),(122,2,true),(124,1,false),(126,6,true),(127,3,true),(129,9,true),(130,1,false),(132,2,true),(154,4,true),(155,1,false),(165,1,false),(167,8,true),(191,1,false),(196,1,false),(222,3,true),(228,1,false),(234,4,true),(236,1,false),(239,1,false),(241,3,true),(264,2,true),(307,1,false),(309,3,true),(329,3,true),(400,1,false)],memN [22,23,26,29,34,47,52,60,62,74,80,86,120,124,130,155,160,165,196,224,228,236,239,256,307,342],memN [9],lk2 [(25,0,0),(25,1,1),(36,0,0),(36,1,1),(36,2,2),(36,3,3),(36,4,4),(36,5,5),(38,0,0),(38,1,1),(38,2,2),(40,0,0),(40,1,6),(49,0,0),(49,1,1),(49,2,2),(61,0,0),(61,1,1),(79,0,0),(79,1,2),(82,0,0),(82,1,4),(82,2,5),(88,0,0),(88,1,1),(88,2,2),(122,0,0),(122,1,1),(126,0,0),(126,1,1),(126,2,2),(126,3,3),(126,4,4),(126,5,5),(127,0,0),(127,1,1),(127,2,2),(129,0,0),(129,1,6),(132,0,0),(132,1,1),(154,0,0),(154,1,1),(167,0,0),(167,1,1),(167,2,2),(167,3,3),(167,4,4),(167,5,5),(167,6,6),(167,7,7),(170,0,0),(170,1,1),(194,0,0),(194,1,1),(222,0,0),(222,1,1),(222,2,2),(234,0,0),(234,1,1),(234,2,2),(234,3,3),(241,0,0),(241,1,1),(241,2,2),(264,0,0),(264,1,1),(309,0,0),(309,1,1),(309,2,2),(329,0,0),(329,1,1)]⟩
theorem zj9:TabsOK Tryz.prog evT:=TabsOK.of (by kernel_rfl) (by kernel_rfl) (by kernel_rfl) (by kernel_rfl)
theorem sx {E e' env:Env}{H h' hp:Hp}{ks:List Nat} (hE:SubE E e') (hH:SubH H h') (he:e'.drop (e'.length-env.length)=env:=by kernel_rfl) (hc:zfn (zew E++ks) (e'.take (e'.length-env.length))=true:=by kernel_rfl)
    (hh:h'.drop (h'.length-hp.length)=hp:=by kernel_rfl) (hhc:zdv (zc9 H) (zc9 hp) (h'.take (h'.length-hp.length))=true:=by kernel_rfl):Sub ⟨E++(zcS ks++env),H++hp⟩ ⟨e',h'⟩:=Sub.x he hc hE hh hhc hH
section
variable {c:Ctx}{all:Array Oper}{chk:List Rec->Prop}{os:List Oper}{recs:List Rec}{env:Env}{hp:Hp}{Q:St->Prop}{d ty:Nat}{pos:String}{af:Array Edge}
theorem wc {f:FuncId}{args:Array Operand}{ats:Array TypeId}{xs:List Operand}{vs:List AV}{hpc hp0:Hp}{r:AV} (hc:Callee c.P f) (hf:FnD c.P f vs hpc r hp0) (hargs:args=xs.toArray) (hx:opdL env xs=some vs)
    (hn:Walk c all chk os (zat ([]++opFL xs vs) (hpF hpc) [] ⟨some (d,r),hp0⟩::recs) ⟨(d,r)::env,hp0++hp⟩ Q)
    (hd:Nat.blt d c.n=true:=by exact rfl) (hsub:subH hpc hp:=by first|exact trivial|exact⟨rfl,trivial⟩) (hnt:zdK hpc=true:=by exact rfl) (hok:zar hpc hp0 r []=true:=by exact rfl)
    (hcr:zak env hp []=true:=by exact rfl):Walk c all chk (⟨some d,.call ⟨.value (.func f),args,ats⟩,ty,pos,af,none⟩::os) recs ⟨env,hp⟩ Q:=
  Walk.call (cr:=[]) hc hf hargs .none hd hx (LeL.refl _) hsub hnt hok hcr hn
theorem wd {f:FuncId}{args:Array Operand}{ats:Array TypeId}{xs:List Operand}{vs:List AV}{hpc hp0:Hp}{r:AV} (hc:Callee c.P f) (hf:FnD c.P f vs hpc r hp0) (hargs:args=xs.toArray) (hx:opdL env xs=some vs) (hsub:subH hpc hp)
    (hn:Walk c all chk os (zat ([]++opFL xs vs) (hpF hpc) [] ⟨some (d,r),hp0⟩::recs) ⟨(d,r)::env,hp0++hp⟩ Q)
    (hd:Nat.blt d c.n=true:=by exact rfl) (hnt:zdK hpc=true:=by exact rfl) (hok:zar hpc hp0 r []=true:=by exact rfl)
    (hcr:zak env hp []=true:=by exact rfl):Walk c all chk (⟨some d,.call ⟨.value (.func f),args,ats⟩,ty,pos,af,none⟩::os) recs ⟨env,hp⟩ Q:=
  Walk.call (cr:=[]) hc hf hargs .none hd hx (LeL.refl _) hsub hnt hok hcr hn
variable {t:TypeId}{x y:Operand}
theorem so {id off k:Nat}{b:Bool}{v:AV}{cs vs cs':List AV} (ht:TyS c.P t k b)
    (hn:Walk c all chk os (zat ([]++(opF x (.ref id off)++opF y v)) [(id,.box cs)] [] ⟨none,[(id,some (.box cs'))]⟩::recs) ⟨env,(id,some (.box cs'))::hp⟩ Q)
    (hx:opd env x=some (.ref id off):=by exact rfl) (hy:opd env y=some v:=by exact rfl) (hb:getH hp id=some (.box cs):=by exact rfl) (hv:zb4 v=some vs:=by exact rfl) (hk:vs.length=k:=by exact rfl)
    (h1:zhi vs=true:=by exact rfl) (hne:vs≠[]:=by simp) (hput:putC cs off vs=some cs':=by exact rfl):Walk c all chk (⟨none,.store t x y,ty,pos,af,none⟩::os) recs ⟨env,hp⟩ Q:=
  Walk.store ht .none hx hy hb hv hk h1 hne hput hn
theorem bx (id:Nat){v:AV}{cs:List AV}
    (hn:Walk c all chk os (zat ([]++opFL [x] [v]) [] [id] ⟨some (d,.ref id 0),[(id,some (.box cs))]⟩::recs) ⟨(d,.ref id 0)::env,(id,some (.box cs))::hp⟩ Q)
    (hd:Nat.blt d c.n=true:=by exact rfl) (hx:opd env x=some v:=by exact rfl) (hc:zb4 v=some cs:=by exact rfl)
    (h0:getH hp id=none:=by exact rfl) (ho1:occE id env=false:=by exact rfl) (ho2:occH id hp=false:=by exact rfl) (hid:zaZ id (AV.idsL cs)=false:=by exact rfl):
    Walk c all chk (⟨some d,.box t x,ty,pos,af,none⟩::os) recs ⟨env,hp⟩ Q:=Walk.box .none hd hx hc h0 ho1 ho2 hid hn
theorem ab (id:Nat){k:Nat}{zs:List AV} (ht:TyZ c.P t k zs)
    (hn:Walk c all chk os (zat ([]++[]) [] [id] ⟨some (d,.ref id 0),[(id,some (.box zs))]⟩::recs) ⟨(d,.ref id 0)::env,(id,some (.box zs))::hp⟩ Q)
    (hz:AV.idsL zs=[]:=by exact rfl) (hd:Nat.blt d c.n=true:=by exact rfl) (h0:getH hp id=none:=by exact rfl) (ho1:occE id env=false:=by exact rfl) (ho2:occH id hp=false:=by exact rfl):
    Walk c all chk (⟨some d,.alloc t,ty,pos,af,none⟩::os) recs ⟨env,hp⟩ Q:=Walk.alloc ht hz .none hd h0 ho1 ho2 hn
theorem bu (ks:List Nat) (xs:List Operand){parts:Array (Nat×Operand)}{vs zs r:List AV}{places:List (Nat×Nat)} (ht:StT c.P t places zs)
    (hn:Walk c all chk os (zat ([]++opFL xs vs) [] [] ⟨some (d,.agg r),[]⟩::recs) ⟨(d,.agg r)::env,hp⟩ Q)
    (hparts:parts=(ks.zip xs).toArray:=by exact rfl) (hlen:ks.length=xs.length:=by exact rfl) (hd:Nat.blt d c.n=true:=by exact rfl) (hx:opdL env xs=some vs:=by exact rfl)
    (hf:zgd (places[·]?) zs (ks.zip vs)=some r:=by exact rfl):Walk c all chk (⟨some d,.build t parts,ty,pos,af,none⟩::os) recs ⟨env,hp⟩ Q:=Walk.build ht hparts hlen .none hd hx hf hn
theorem si (ks:List Nat) (xs:List Operand){parts:Array (Nat×Operand)}{n:Nat}{vs zs r:List AV}{es:List (List D)}{e k yb:Nat} (ht:SlT c.P t e k yb) (hz:TyZ c.P e k zs)
    (hn:Walk c all chk os (zat ([]++opFL xs vs) [] [] ⟨some (d,.d (.sl es)),[]⟩::recs) ⟨(d,.d (.sl es))::env,hp⟩ Q) (hzk:zs.length=k:=by exact rfl) (hk:0<k:=by decide)
    (hparts:parts=(ks.zip xs).toArray:=by exact rfl) (hlen:ks.length=xs.length:=by exact rfl) (hsmall:n*k<=16777216:=by decide) (hpos:0<n:=by decide) (hd:Nat.blt d c.n=true:=by exact rfl) (hx:opdL env xs=some vs:=by exact rfl)
    (hf:zgd (fun i=>some (i*k,k)) (zaI n zs) (ks.zip vs)=some r:=by exact rfl) (hc:zcr n k r=some es:=by exact rfl):
    Walk c all chk (⟨some d,.buildSlice t n parts,ty,pos,af,none⟩::os) recs ⟨env,hp⟩ Q:=Walk.sliceLit ht hz hzk hk hparts hlen hsmall hpos .none hd hx hf hc hn
theorem ap {id k e yb:Nat}{xs ys:List (List D)}{vy:AV} (ht:SlT c.P t e k yb) (hz:ZeroT c.P e k) (hx:opd env x=some (.gl id xs)) (hy:opd env y=some vy) (hyd:vy.toD=some (.sl ys))
    (hky:∀y,y∈ys->y.length=k) (hb:(xs.length+ys.length)*70<=140737488355328)
    (hn:Walk c all chk os (zat ([]++(opF x (.gl id xs)++opF y vy)) [(id,.tok xs.length k)] [] ⟨some (d,.gl id (xs++ys)),[(id,some (.tok (xs.length+ys.length) k))]⟩::recs)
      ⟨(d,.gl id (xs++ys))::env,(id,some (.tok (xs.length+ys.length) k))::hp⟩ Q) (hk:Nat.blt 0 k=true:=by exact rfl) (hd:Nat.blt d c.n=true:=by exact rfl)
    (htok:getH hp id=some (.tok xs.length k):=by exact zdY rfl (by first|rfl|(simp;done)|(simp;omega))) (hyb:Nat.ble yb 70=true:=by exact rfl):
    Walk c all chk (⟨some d,.call ⟨.builtin .append,#[x,y],#[t,t]⟩,ty,pos,af,none⟩::os) recs ⟨env,hp⟩ Q:=
  Walk.append ht hz hk .none hd hx hy hyd htok hky (Nat.le_trans (Nat.mul_le_mul_left _ (Nat.le_of_ble_eq_true hyb)) hb) (by omega) hn
end
section
variable {c:Ctx}{all:Array Oper}{chk:List Rec->Prop}{os:List Oper}{recs:List Rec}{env:Env}{hp:Hp}{Q:St->Prop}
theorem evs (stop:List Nat) (kn:List (Nat×Bool)) (h:evW evT stop c all (fun _=>True) Q (fun _ env hp=>Q ⟨env,hp⟩) os recs env hp kn) (hk:KN env kn:=by exact trivial) (hT:TabsOK c.P evT:=by exact zj9):Walk c all (fun _=>True) os recs ⟨env,hp⟩ Q:=
  zka hT (fun _ _ _ h=>⟨trivial,h⟩) hk h
theorem evd (stop:List Nat) (kn:List (Nat×Bool)) (h:evW evT stop c all chk Q (fun recs env hp=>chk recs/\Q ⟨env,hp⟩) os recs env hp kn) (hk:KN env kn:=by exact trivial) (hT:TabsOK c.P evT:=by exact zj9):Walk c all chk os recs ⟨env,hp⟩ Q:=
  zka hT (fun _ _ _ h=>h) hk h
theorem ev (h:evW evT [] c all (fun _=>True) Q (fun _ env hp=>Q ⟨env,hp⟩) os recs env hp []) (hT:TabsOK c.P evT:=by exact zj9):Walk c all (fun _=>True) os recs ⟨env,hp⟩ Q:=
  evs [] [] h trivial hT
theorem evc (stop rs:List Nat){x:Code}{s:St}{K:Kt} (h:evC evT stop rs c x s K) (hT:TabsOK c.P evT:=by exact zj9) (hm:c.P.follows .mixedOrders=true:=by exact zuw):CWp c x s K:=zhl hT hm h
end
theorem bd (fn:Func) (n:Nat) (stop rs:List Nat){f:Nat}{code:Code}{rv:List ResultVar}{args:List AV}{hp:Hp}{Post:AV->Hp->Prop}
    (h:∀w0 F0 own kept,KeptIn kept (zgo hp)->evC evT stop rs ⟨Tryz.prog,n,w0,F0,own,kept⟩ code ⟨zi4 0 args,hp⟩ ⟨Fin Tryz.prog rv hp Post,fun _ _=>False,Fin Tryz.prog rv hp Post⟩)
    (hf:(Tryz.prog).funcs[f]?=some fn:=by exact rfl) (hb:fn.body=some code:=by exact rfl) (hnn:fn.ntmps=n:=by exact rfl) (hrs:fn.results.toList=rv:=by exact rfl) (hn:Nat.ble args.length n=true:=by exact rfl):
    Fn Tryz.prog f args hp Post:=Fn.body hf hb hnn hrs hn (fun w0 F0 own kept hk=>zhl zj9 zuw (h w0 F0 own kept hk))
theorem ar {n:Int}{X:Prop} (k:X) (b:I64 n:=by first|(constructor<;>omega)|(constructor<;>simp<;>omega)):Ar n X:=⟨b,k⟩
class Nz (p:Prop) (q:outParam Prop):Prop where
  nz:p->q
instance (priority:=low){p:Prop}:Nz p p:=⟨id⟩
instance {b:Bool}{q:Prop} [h:Nz (b=false) q]:Nz ((!b)=true) q:=⟨fun hb=>h.nz (by simpa using hb)⟩
instance {b:Bool}{q:Prop} [h:Nz (b=true) q]:Nz ((!b)=false) q:=⟨fun hb=>h.nz (by simpa using hb)⟩
theorem sq {b:Bool}{X Y q r:Prop} [h1:Nz (b=true) q] [h2:Nz (b=false) r] (t:b=true->b=true->q->X) (f:b=false->b=false->r->Y):Sp b X Y:=⟨fun h=>t h h (h1.nz h),fun h=>f h h (h2.nz h)⟩
theorem cq {c:Ctx}{s:St}{K:Kt}{i:Nat}{x y:Code}{b:Bool}{q r:Prop} [h1:Nz (b=true) q] [h2:Nz (b=false) r] (t:b=true->b=true->q->CWp c x s K) (f:b=false->b=false->r->CWp c y s K)
    (hc:getE s.env i=some (.d (.bool b)):=by exact rfl):CWp c (.cond (.tmp i) x y) s K:=CWp.cond hc (fun h=>t h h (h1.nz h)) (fun h=>f h h (h2.nz h))
theorem sqT {b:Bool}{X Y:Prop} (h:X) (hb:b=true:=by exact rfl):Sp b X Y:=⟨fun _=>h,fun h2=>absurd (h2.symm.trans hb) (by decide)⟩
theorem sqF {b:Bool}{X Y:Prop} (h:Y) (hb:b=false:=by exact rfl):Sp b X Y:=⟨fun h2=>absurd (h2.symm.trans hb) (by decide),fun _=>h⟩
theorem dr {X Y:Prop} (h:Y) (hc:X:=by show _=_;kernel_rfl):X/\Y:=⟨hc,h⟩
section
variable {P:Program}{rs:List ResultVar}{hp:Hp}{s:St}{vs:List AV}{r:AV}
theorem rn {Post:AV->Hp->Prop} (hp':Hp) (h1:ResL P s rs vs) (h2:LeA (zjj vs) r) (h3:Post r hp') (h4:HSub (hp'++hp) s.hp) (h5:∀id,zbK hp id=true->zbK (hp'++hp) id=true):Fin P rs hp Post s:=⟨vs,r,hp',h1,h2,h3,h4,h5⟩
theorem rn0 (h1:ResL P s rs vs) (h2:LeA (zjj vs) r):Fin P rs [] (fun x y=>x=r/\y=[]) s:=⟨vs,r,[],h1,h2,⟨rfl,rfl⟩,HSub.nil,zwC⟩
theorem r1 {i:Nat}{v:AV} (h:getE s.env i=some v):ResL P s [.tmp i] [v]:= .cons (.tmp h) .nil
theorem rq{i:Nat}{x y:D} (e:x=y) (h:getE s.env i=some (.d x):=by exact rfl):Fin P [.tmp i] [] (fun a b=>a=.d y/\b=[]) s:=rn0 (r1 h) (.eqd e)
theorem r2 {i j:Nat}{v w:AV} (h:getE s.env i=some v) (h':getE s.env j=some w):ResL P s [.tmp i,.tmp j] [v,w]:= .cons (.tmp h) (.cons (.tmp h') .nil)
end
section
variable {env e':Env}{hp h':Hp}{ks:List Nat}{n:Nat}{u v:AV}{p q:Bool}
theorem jn (hu:getE e' n=some u) (le:LeA u v) (he:e'.drop (e'.length-env.length)=env:=by kernel_rfl) (hc:zfn (zew [(n,v)]++ks) (e'.take (e'.length-env.length))=true:=by kernel_rfl)
    (hh:h'.drop (h'.length-hp.length)=hp:=by kernel_rfl) (hhc:zdv (zc9 []) (zc9 hp) (h'.take (h'.length-hp.length))=true:=by kernel_rfl):Sub ⟨[(n,v)]++(zcS ks++env),[]++hp⟩ ⟨e',h'⟩:=
  Sub.x he hc ⟨⟨_,hu,le⟩,trivial⟩ hh hhc trivial
theorem jnb (hu:getE e' n=some (.d (.bool p))) (hpq:p=q:=by first|rfl|(rw[Bool.eq_iff_iff];(try simp only[BQ])<;>first|omega|(simp_all;done)|(simp_all;omega)))
    (he:e'.drop (e'.length-env.length)=env:=by kernel_rfl) (hc:zfn (zew [(n,.d (.bool q))]++ks) (e'.take (e'.length-env.length))=true:=by kernel_rfl)
    (hh:h'.drop (h'.length-hp.length)=hp:=by kernel_rfl) (hhc:zdv (zc9 []) (zc9 hp) (h'.take (h'.length-hp.length))=true:=by kernel_rfl):Sub ⟨[(n,.d (.bool q))]++(zcS ks++env),[]++hp⟩ ⟨e',h'⟩:=
  jn hu (xaw hpq) he hc hh hhc
end
end Go.Proofs.YtlfipehhbdjnjaaGreat
namespace Go.Proofs.YtlfipehhbdjnjaaGreat
set_option linter.unusedSimpArgs false
set_option linter.unusedVariables false
abbrev Str:=List UInt8
structure Ty where
 data:Int
 index:Int
 deriving DecidableEq,Inhabited
structure Ctor where
 name:Str
 args:List Ty
 index:Int
 deriving DecidableEq,Inhabited
structure Data where
 name:Str
 ctors:List Ctor
 deriving DecidableEq,Inhabited
inductive Val where
 |mk (ctor n:Int) (kids:List Val)
 deriving Inhabited
inductive Pat where
 |mk (op ctor n m var:Int) (kids:List Pat)
 deriving Inhabited
abbrev Ty.c (t:Ty):List D:=[.i t.data,.i t.index]
abbrev zbw (l:List Ty):D:= .sl (l.map Ty.c)
abbrev Ctor.c (x:Ctor):List D:=[.str x.name,zbw x.args,.i x.index]
abbrev zcb (l:List Ctor):D:= .sl (l.map Ctor.c)
abbrev Data.c (x:Data):List D:=[.str x.name,zcb x.ctors]
abbrev zao (l:List Data):D:= .sl (l.map Data.c)
abbrev zcJ (l:List Int):D:= .sl (l.map fun n=>[.i n])
mutual
def Val.c:Val->List D
 | .mk ctor n kids=>[.i ctor,.i n,.sl (Val.cs kids)]
def Val.cs:List Val->List (List D)
 | []=>[]
 |v::r=>v.c::Val.cs r
end
abbrev za9 (l:List Val):D:= .sl (Val.cs l)
mutual
def Pat.c:Pat->List D
 | .mk op ctor n m var kids=>[.i op,.i ctor,.i n,.i m,.i var,.sl (Pat.cs kids)]
def Pat.cs:List Pat->List (List D)
 | []=>[]
 |v::r=>v.c::Pat.cs r
end
abbrev zaj (l:List Pat):D:= .sl (Pat.cs l)
theorem Val.cs_eq:∀l:List Val,Val.cs l=l.map Val.c
 | []=>rfl
 |v::r=>by simp[Val.cs,Val.cs_eq r]
theorem Pat.cs_eq:∀l:List Pat,Pat.cs l=l.map Pat.c
 | []=>rfl
 |v::r=>by simp[Pat.cs,Pat.cs_eq r]
theorem zaN {α β:Type}{f:α->β}{pre:List α}{x:α}{rest xs:List α} (h:pre++x::rest=xs):(xs.map f)[pre.length]?=some (f x):=by
 subst h;simp
def Val.ctor:Val->Int | .mk a _ _=>a
def Val.num:Val->Int | .mk _ n _=>n
def Val.kids:Val->List Val | .mk _ _ k=>k
abbrev Val.cc (v:Val):List D:=[.i v.ctor,.i v.num,.sl (Val.cs v.kids)]
theorem Val.c_eq (v:Val):v.c=v.cc:=by cases v;rfl
theorem Val.eta (v:Val):Val.mk v.ctor v.num v.kids=v:=by cases v;rfl
theorem Val.cs_len (l:List Val):(Val.cs l).length=l.length:=by simp[Val.cs_eq]
theorem Pat.cs_len (l:List Pat):(Pat.cs l).length=l.length:=by simp[Pat.cs_eq]
end Go.Proofs.YtlfipehhbdjnjaaGreat
namespace Go.Proofs.YtlfipehhbdjnjaaGreat
open Go
set_option linter.unusedSimpArgs false
set_option linter.unusedVariables false
def zaF (n lo hi:Int):Bool:=decide (lo<=n)&&decide (n<=hi)
def zdw (b:UInt8):Bool:=decide (65<=(b.toNat:Int))&&decide ((b.toNat:Int)<=90)
def zgt (b:UInt8):Bool:=decide (97<=(b.toNat:Int))&&decide ((b.toNat:Int)<=122)
def zdn (s:Str):Bool:=s.all zgt
def zdB (s:Str):Bool:=zaF s.length 1 5&&(match s with | []=>false|b::r=>zdw b&&zdn r)
def zb8 (n:Nat) (t:Ty):Bool:=(decide (t.data = -1)&&(decide (t.index=0)&&true))||(zaF t.data 0 (n-1)&&zaF t.index (-1) 3)
def zbW (n:Nat) (c:Ctor):Bool:=zdB c.name&&(decide ((c.args.length:Int)<=3)&&(zaF c.index 0 3&& !(c.args.any fun t=> !zb8 n t)))
def zen (n:Nat) (t:Ty):Bool:=(decide (t.data = -1)&&(decide (t.index=0)&&true))||(zaF t.data 0 (n-1)&&zaF t.index 0 3)
def zbB (s:Str):Bool:=decide ((s.length:Int)=1)&&(zdw (s.getD 0 0)&& !decide (s=[73]))
def zdb (n:Nat) (met:List Str):List Ctor->Option (List Str)
 | []=>some met
 |c::r=>if zbW n c&& !decide (c.name∈met) then zdb n (met++[c.name]) r else none
def zbN (n:Nat) (met datas:List Str):List Data->Bool
 | []=>true
 |d::r=>zbB d.name&& !decide (d.name∈datas)&&zaF d.ctors.length 1 4&&
  (match zdb n met d.ctors with
   |some met'=>zbN n met' (datas++[d.name]) r
   |none=>false)
def zbC (w:List Data):Bool:=decide ((w.length:Int)<=4)&&zbN w.length [] [] w
def zbJ (w:List Data) (t:Ty):Bool:=zbC w&&zen w.length t
structure WSmall (w:List Data):Prop where
 len:w.length<=1000000000000
 data:∀d∈w,d.name.length<=1000000000000/\d.ctors.length<=1000000000000
 ctor:∀d∈w,∀c∈d.ctors,c.name.length<=1000000000000/\c.args.length<=1000000000000
def nth {α:Type} [Inhabited α] (l:List α) (i:Nat):α:=l.getD i default
theorem zaz {α β:Type} [Inhabited α]{f:α->β}{l:List α}{i:Nat} (h:i<l.length):(l.map f)[i]?=some (f (nth l i)):=by
 simp[nth,List.getD,h]
theorem zai {α:Type} [Inhabited α]{l:List α}{i:Nat} (h:i<l.length):nth l i∈l:=by
 simp[nth,List.getD,h]
theorem zwl {α:Type} [Inhabited α]{pre rest l:List α}{x:α} (h:pre++x::rest=l):nth l pre.length=x:=by
 subst h;simp[nth,List.getD]
theorem WSmall.ctors {w:List Data} (h:WSmall w) (i:Nat):(nth w i).ctors.length<=1000000000000:=by
 by_cases hi:i<w.length
 ·exact(h.data _ (zai hi)).2
 ·have:nth w i=default:=by simp[nth,List.getD,List.getElem?_eq_none (Nat.le_of_not_lt hi)]
  rw[this];exact Nat.zero_le _
def zbX (w:List Data) (d k i j:Nat):Bool:=(decide (i<d)||decide (j<k))&&(decide (k<(nth w d).ctors.length)&&decide ((nth (nth w i).ctors j).name=(nth (nth w d).ctors k).name))
def zdp (w:List Data) (d k i:Nat):Bool:=(decide (i<d)&&decide ((nth w i).name=(nth w d).name))||(List.range (nth w i).ctors.length).any (zbX w d k i)
def zns (w:List Data) (d k:Nat):Bool:=(List.range (d+1)).any (zdp w d k)
def zek (w:List Data) (d k:Nat):Bool:=zbW w.length (nth (nth w d).ctors k)&& !zns w d k
def zcz (w:List Data) (d:Nat):Bool:=zbB (nth w d).name&&(decide (1<=(nth w d).ctors.length)&&(decide ((nth w d).ctors.length<=4)&&(List.range (nth w d).ctors.length).all (zek w d)))
def zbA (w:List Data):Bool:=decide (w.length<=4)&&(List.range w.length).all (zcz w)
theorem zfh {n:Nat}{p:Nat->Bool} (h:∀i,i<n->p i=false):(List.range n).any p=false:=by
 rw[List.any_eq_false];intro i hi;rw[h i (List.mem_range.1 hi)];simp
theorem zcZ {n:Nat}{p:Nat->Bool}{i:Nat} (hi:i<n) (h:p i=true):(List.range n).any p=true:=
 List.any_eq_true.2 ⟨i,List.mem_range.2 hi,h⟩
theorem zdV {n:Nat}{p:Nat->Bool}{i:Nat} (hi:i<n) (h:p i=false):(List.range n).all p=false:=
 List.all_eq_false.2 ⟨i,List.mem_range.2 hi,by simp[h]⟩
theorem zer {n:Nat}{p:Nat->Bool} (h:∀i,i<n->p i=true):(List.range n).all p=true:=by
 rw[List.all_eq_true];intro i hi;exact h i (List.mem_range.1 hi)
theorem zaM {P:Nat->Prop}{i:Nat} (h:∀j,j<i->P j) (hi:P i):∀j,j<i+1->P j:=fun j hj=>by
 rcases Nat.lt_or_eq_of_le (Nat.le_of_lt_succ hj) with h1|h1
 ·exact h j h1
 ·exact h1 ▸ hi
theorem zh5 {w:List Data}{d k i j:Nat} (h1:(decide (i<d)&&decide ((nth w i).name=(nth w d).name))=false) (h2:∀j',j'<j->zbX w d k i j'=false)
  (h3:j<(nth w i).ctors.length->d<=i/\k<=j):zdp w d k i=false:=by
 unfold zdp;rw[h1,Bool.false_or];refine zfh (fun j' hj'=>?_);by_cases h:j'<j
 ·exact h2 j' h
 ·have:=h3 (by omega);have e1:decide (i<d)=false:=decide_eq_false (by omega);have e2:decide (j'<k)=false:=decide_eq_false (by omega);simp only[zbX,e1,e2,Bool.or_self,Bool.false_and]
end Go.Proofs.YtlfipehhbdjnjaaGreat
namespace Go.Proofs.YtlfipehhbdjnjaaGreat
open Go
set_option linter.unusedSimpArgs false
set_option linter.unusedVariables false
set_option maxRecDepth 100000
set_option maxHeartbeats 2000000
theorem zbH {n lo hi:Int}:FnD Tryz.prog 100 [.d (.i n),.d (.i lo),.d (.i hi)] [] (.d (.bool (zaF n lo hi))) []:=by
 refine bd Tryz.f100 15 [] [] fun w0 F0 own kept hk=>?_;refine sq ?_ ?_<;>intro h1 h1p h1s;focus (refine rq ?_;all_goals ((simp[zaF,h1s,h1p];done)))
 focus (refine rq ?_;all_goals ((simp[zaF,h1s,h1p];done)))
theorem zcj {s:Str} (h:0<s.length):zdB s=(zaF s.length 1 5&&(zdw s[0]&&zdn (s.drop 1))):=by
 rcases s with _|⟨b,r⟩
 ·simp at h
 ·simp[zdB]
theorem zjI {s:Str} (h:s.length=0\/5<s.length):zdB s=false:=by
 have:zaF s.length 1 5=false:=by
  simp only[zaF,Bool.and_eq_false_iff,decide_eq_false_iff_not];omega
 simp[zdB,this]
theorem zdc {s:Str}{i:Nat} (h:i<s.length):zdn (s.drop i)=(zgt s[i]&&zdn (s.drop (i+1))):=by
 unfold zdn;rw[List.drop_eq_getElem_cons h,List.all_cons]
theorem zkt {s:Str}{i:Nat} (h:s.length<=i):zdn (s.drop i)=true:=by
 rw[List.drop_eq_nil_of_le h];rfl
theorem zlc {s:Str} (hs:s.length<=1000000000000):FnD Tryz.prog 330 [.d (.str s)] [] (.d (.bool (zdB s))) []:=by
 refine bd Tryz.f330 34 [] [] fun w0 F0 own kept hk=>?_;refine wc zd8 (zbH) rfl rfl ?_;refine ev ?_;refine sq ?_ ?_<;>intro h1 h1p h1s;refine sqT ?_;refine sqT ?_;focus (refine rq ?_;all_goals ((simp[zdB,h1s,h1p];done)))
 try simp only[Q,zaF] at h1p
 refine xaT (i:=0) un9 (.some rfl rfl h1) rfl rfl rfl rfl (List.getElem?_eq_getElem (by omega)) ?_;refine evs [] [(8,false)] ?_ ⟨⟨_,rfl,h1⟩,trivial⟩;refine sq ?_ ?_<;>intro h3 h3p h3s<;>(try simp only[Q,zaF] at h3p);refine sqT ?_;focus (refine rq ?_;all_goals ((rw[zcj (by omega)];simp[zdw];omega)))
 refine xaT (i:=0) un9 (.some rfl rfl h3) rfl rfl rfl rfl (List.getElem?_eq_getElem (by omega)) ?_;refine evs [] [(13,false)] ?_ ⟨⟨_,rfl,h3⟩,trivial⟩;refine sq ?_ ?_<;>intro h5 h5p h5s<;>(try simp only[Q,zaF] at h5p);focus (refine rq ?_;all_goals ((rw[zcj (by omega)];simp[zdw];omega)))
 refine xam (ι:=Nat) hk (fun i=>[(3,.d (.i (i:Int)))]) [2,18,19,20,21,22,23,24,25,26,27,28,29,30,31,32,33] (fun i=>[]) (fun i=>1<=i/\i<=s.length/\zdn (s.drop i)=zdn (s.drop 1)) (fun i=>s.length-i) 1 ⟨by omega,by omega,rfl⟩ ⟨⟨_,rfl,xax ?_⟩,trivial⟩ trivial (fun x=>rfl) (fun i hg1=>?_);focus (rfl)
 refine evc [] [] ?_;refine sq ?_ ?_<;>intro h6 h6p h6s<;>(try simp only[Q,zaF] at h6p);refine xaT un9 .none rfl rfl rfl rfl (List.getElem?_eq_getElem (by omega)) ?_;refine ev ?_;refine sq ?_ ?_<;>intro h7 h7p h7s<;>(try simp only[Q,zaF] at h7p);refine sqT ?_;focus (refine rq ?_;all_goals ((rw[zcj (by omega),<-hg1.2.2,zdc (by omega)];simp[zgt];omega)))
 refine xaT un9 (.some rfl rfl h7) rfl rfl rfl rfl (List.getElem?_eq_getElem (by omega)) ?_;refine evs [] [(28,false)] ?_ ⟨⟨_,rfl,h7⟩,trivial⟩;refine sq ?_ ?_<;>intro h9 h9p h9s<;>(try simp only[Q,zaF] at h9p);focus (refine rq ?_;all_goals ((rw[zcj (by omega),<-hg1.2.2,zdc (by omega)];simp[zgt];omega)))
 refine ar ?_;refine xah (i+1) ⟨⟨by omega,by omega,by rw[<-hg1.2.2,zdc (i:=i) (by omega)];simp[zgt];omega⟩, ?_,sx ⟨⟨_,rfl,xax ?_⟩,trivial⟩ trivial⟩;focus (omega)
 focus (rfl)
 focus (refine rq ?_;all_goals ((rw[zcj (by omega),<-hg1.2.2,zkt (by omega)];simp[zaF,zdw];omega)))
theorem zgT (hp:Hp):(zgo hp).all (fun id=>(getH ([]++hp) id).isSome)=true:=by
 rw[List.all_eq_true];intro id h;simp only[zgo,List.mem_filter] at h;exact(zfw h.2).1
def idxF {α:Type} (p:α->Bool):List α->Nat->Int
 | [],_=> -1
 |x::r,i=>if p x then (i:Int) else idxF p r (i+1)
theorem zeX {α:Type} (p:α->Bool):∀(l:List α) (i:Nat),decide (0<=idxF p l i)=l.any p
 | [],_=>by simp[idxF]
 |x::r,i=>by
  unfold idxF;cases h:p x with
  |true=>simp[h]
  |false=>simp[h,zeX p r (i+1)]
theorem zc5 {hp:Hp} (h:zar hp [] (.d .nilp) []=true) (x:D):zar hp [] (.d x) []=true:=h
theorem ziq {xs:List Ty}{f:Nat}{caps:List AV}{hp:Hp}{p:Ty->Bool} (hs:xs.length<=1000000000000) (hcal:Callee Tryz.prog f)
  (hf:∀t∈xs,FnD Tryz.prog f ([.agg [.d (.i t.data),.d (.i t.index)]]++caps) hp (.d (.bool (p t))) []) (k1:subH hp hp) (k2:zdK hp=true) (k3:zar hp [] (.d .nilp) []=true):
  FnD Tryz.prog 348 [.d (zbw xs),.fn f caps] hp (.d (.i (idxF p xs 0))) []:=by
 refine bd Tryz.f348 19 [] [] fun w0 F0 own kept hk=>?_;refine xam (ι:=List (Ty)×List (Ty)) hk (fun x=>[(8,.d (.i (x.1.length:Int)))]) [4,5,9,10,11,12,13,14,15,16,17,18] (fun x=>[]) (fun x=>x.1++x.2=xs/\idxF p x.2 x.1.length=idxF p xs 0) (fun x=>x.2.length) ([],xs) ⟨by simp,rfl⟩ ⟨⟨_,rfl,xax ?_⟩,trivial⟩ trivial (fun x=>zgT hp) (fun x hg1=>?_);focus (rfl)
 obtain⟨pre,rest⟩:=x;dsimp only at hg1 ⊢;refine evc [] [] ?_;refine sq ?_ ?_<;>intro h1 h1p h1s<;>(try simp only[Q] at h1p);rcases rest with _|⟨y,rest⟩
 ·exfalso;simp_all
 refine xaP zaK .none rfl rfl rfl rfl (zaN hg1.1) rfl ?_;refine ev ?_;refine xaJ (cr:=[]) hcal (hf y (by rw[<-hg1.1];simp)) rfl .none rfl rfl rfl (LeL.refl _) k1 k2 (zc5 k3 _) rfl ?_;refine tv ?_;refine sq ?_ ?_<;>intro h2 h2p h2s<;>(try simp only[Q] at h2p);focus (refine rn [] (r1 rfl) (.eqd ?_) ⟨rfl,rfl⟩ (fun _ _ h=>h) (fun _ h=>h);all_goals (rw[<-hg1.2];simp[idxF,h1s,h1p,h2s,h2p]))
 refine ar ?_;refine xah ((pre++[y],rest)) ⟨⟨(by have hz:=hg1.1;rw[<-hz];simp),(by rw[<-hg1.2];simp[idxF,h2s])⟩,(by simp),Sub.x (by kernel_rfl) (by kernel_rfl) ⟨⟨_,rfl,xax ?_⟩,trivial⟩ (by simp) (by simp[zdv]) trivial⟩;focus ((simp;done))
 have hrest:rest=[]:=by
  rcases rest with _|⟨a,b⟩
  ·rfl
  ·exfalso;have hz:=congrArg List.length (hg1.1);simp only[xaa,xab,xac] at hz;omega
 subst hrest;focus (refine rn [] (r1 rfl) (.eqd ?_) ⟨rfl,rfl⟩ (fun _ _ h=>h) (fun _ h=>h);all_goals (rw[<-hg1.2];simp[idxF,h1s,h1p]))
theorem zg5 {xs:List Ty}{f:Nat}{caps:List AV}{hp:Hp}{p:Ty->Bool} (hs:xs.length<=1000000000000) (hcal:Callee Tryz.prog f)
  (hf:∀t∈xs,FnD Tryz.prog f ([.agg [.d (.i t.data),.d (.i t.index)]]++caps) hp (.d (.bool (p t))) []) (k1:subH hp hp) (k2:zdK hp=true) (k3:zar hp [] (.d .nilp) []=true):
  FnD Tryz.prog 287 [.d (zbw xs),.fn f caps] hp (.d (.bool (xs.any p))) []:=by
 refine bd Tryz.f287 9 [] [] fun w0 F0 own kept hk=>?_;refine Walk.call (cr:=[]) zv2 (ziq hs hcal hf k1 k2 k3) rfl .none rfl rfl (LeL.refl _) k1 k2 (zc5 k3 _) rfl ?_;refine ev ?_;refine rn [] (r1 rfl) (.eqd ?_) ⟨rfl,rfl⟩ (fun _ _ h=>h) (fun _ h=>h);rotate_left;all_goals (exact congrArg D.bool (zeX p xs 0))
theorem zpb {w:List Data}{a b:Int} (hs:w.length<=1000000000000):FnD Tryz.prog 332 [.d (zao w),.agg [.d (.i a),.d (.i b)]] [] (.d (.bool (zb8 w.length ⟨a,b⟩))) []:=by
 refine bd Tryz.f332 21 [7] [] fun w0 F0 own kept hk=>?_;refine bx 3003 ?_;refine evs [7] [] ?_;refine bu [0] [_] st25 ?_;refine Walk.eqV eq25 .none rfl rfl rfl rfl rfl ?_;refine evs [7] [] ?_;refine sq ?_ ?_<;>intro h1 h1p h1s;try simp only[Q] at h1p
 focus (refine rq ?_;all_goals ((simp[zb8,h1s,h1p];done)))
 refine ar ?_ (by constructor<;>simp<;>omega);refine Walk.call (cr:=[]) zd8 (zbH) rfl (.some rfl rfl h1) rfl rfl (LeL.refl _) trivial rfl rfl rfl ?_;refine evs [7] [(8,false)] ?_ ⟨⟨_,rfl,h1⟩,trivial⟩;refine sq ?_ ?_<;>intro h2 h2p h2s;refine Walk.call (cr:=[]) zd8 (zbH) rfl (.some rfl rfl h2) rfl rfl (LeL.refl _) trivial rfl rfl rfl ?_;refine evs [7] [(8,false),(15,true)] ?_ ⟨⟨_,rfl,h1⟩,⟨_,rfl,h2⟩,trivial⟩;focus (refine rq ?_;all_goals ((simp_all[zb8];done)))
 focus (refine rq ?_;all_goals ((simp_all[zb8];done)))
theorem znN {w:List Data}{a b:Int} (hs:w.length<=1000000000000):FnD Tryz.prog 215 [.d (zao w),.agg [.d (.i a),.d (.i b)]] [] (.d (.bool (zen w.length ⟨a,b⟩))) []:=by
 refine bd Tryz.f215 21 [7] [] fun w0 F0 own kept hk=>?_;refine bx 3003 ?_;refine evs [7] [] ?_;refine bu [0] [_] st25 ?_;refine Walk.eqV eq25 .none rfl rfl rfl rfl rfl ?_;refine evs [7] [] ?_;refine sq ?_ ?_<;>intro h1 h1p h1s;try simp only[Q] at h1p
 focus (refine rq ?_;all_goals ((simp[zen,h1s,h1p];done)))
 refine ar ?_ (by constructor<;>simp<;>omega);refine Walk.call (cr:=[]) zd8 (zbH) rfl (.some rfl rfl h1) rfl rfl (LeL.refl _) trivial rfl rfl rfl ?_;refine evs [7] [(8,false)] ?_ ⟨⟨_,rfl,h1⟩,trivial⟩;refine sq ?_ ?_<;>intro h2 h2p h2s;refine Walk.call (cr:=[]) zd8 (zbH) rfl (.some rfl rfl h2) rfl rfl (LeL.refl _) trivial rfl rfl rfl ?_;refine evs [7] [(8,false),(15,true)] ?_ ⟨⟨_,rfl,h1⟩,⟨_,rfl,h2⟩,trivial⟩;focus (refine rq ?_;all_goals ((simp_all[zen];done)))
 focus (refine rq ?_;all_goals ((simp_all[zen];done)))
theorem zlI {w:List Data}{a b:Int} (hs:w.length<=1000000000000):FnD Tryz.prog 331 [.agg [.d (.i a),.d (.i b)],.ref 1002 0] [(1002,some (.box [.d (zao w)]))] (.d (.bool (!zb8 w.length ⟨a,b⟩))) []:=by
 refine bd Tryz.f331 8 [] [] fun w0 F0 own kept hk=>?_;refine bx 3002 ?_;refine ev ?_;refine wc zv0 (zpb hs) rfl rfl ?_;refine ev ?_;focus (refine rn [] (r1 rfl) (.eqd ?_) ⟨rfl,rfl⟩ (SubH.get ⟨rfl,trivial⟩) (fun _ h=>h);all_goals (rfl))
theorem znK {w:List Data}{s:Str}{args:List Ty}{k:Int} (hs:w.length<=1000000000000) (hn:s.length<=1000000000000) (ha:args.length<=1000000000000):FnD Tryz.prog 267 [.d (zao w),.agg [.d (.str s),.d (zbw args),.d (.i k)]] [] (.d (.bool (zbW w.length ⟨s,args,k⟩))) []:=by
 refine bd Tryz.f267 26 [] [] fun w0 F0 own kept hk=>?_;refine bx 1002 ?_;refine bx 3003 ?_;refine ev ?_;refine wc zvY (zlc hn) rfl rfl ?_;refine ev ?_;refine sq ?_ ?_<;>intro h1 h1p h1s;refine sq ?_ ?_<;>intro h2 h2p h2s<;>(try simp only[Q] at h2p);refine Walk.call (cr:=[]) zd8 (zbH) rfl (.some rfl rfl h2) rfl rfl (LeL.refl _) trivial rfl rfl rfl ?_;refine evs [] [(14,true)] ?_ ⟨⟨_,rfl,h2⟩,trivial⟩;refine sq ?_ ?_<;>intro h3 h3p h3s;try simp only[Q] at h3p
 refine xaK (xs:=[_]) rfl (.some rfl rfl h3) rfl rfl ?_;refine Walk.call (cr:=[]) zvO (zg5 (p:=fun t=> !zb8 w.length t) ha zvZ (fun t _=>zlI hs) ⟨rfl,trivial⟩ rfl rfl) rfl (.some rfl rfl h3) rfl rfl (LeL.refl _) ⟨rfl,trivial⟩ rfl rfl rfl ?_;refine evs [] [(19,true)] ?_ ⟨⟨_,rfl,h3⟩,trivial⟩;focus (refine rq ?_;all_goals ((simp[zbW,h1s,h1p,h2s,h2p,h3s,h3p];done)))
 focus (refine rq ?_;all_goals ((simp[zbW,h1s,h1p,h2s,h2p,h3s,h3p];done)))
 refine sqF ?_;focus (refine rq ?_;all_goals ((simp[zbW,h1s,h1p,h2s,h2p];done)))
 refine sqF ?_;refine sqF ?_;focus (refine rq ?_;all_goals ((simp[zbW,h1s,h1p];done)))
theorem zmx {s:Str} (h:0<s.length):s.getD 0 0=s[0]:=by
 rcases s with _|⟨b,r⟩
 ·simp at h
 ·rfl
theorem Ctor.eta (c:Ctor):Ctor.mk c.name c.args c.index=c:=rfl
theorem Ty.eta (c:Ty):Ty.mk c.data c.index=c:=rfl
theorem Data.eta (c:Data):Data.mk c.name c.ctors=c:=rfl
theorem zva {w:List Data}{met datas:List Str} (h4:(w.length:Int)<=4) (h:zbN w.length met datas []=zbN w.length [] [] w):D.bool true=D.bool (zbC w):=by
 unfold zbC;rw[<-h,decide_eq_true h4];rfl
theorem zeq {w rest:List Data}{met datas:List Str} (h:zbN w.length met datas rest=zbN w.length [] [] w) (h2:zbN w.length met datas rest=false):D.bool false=D.bool (zbC w):=by
 unfold zbC;rw[<-h,h2,Bool.and_false]
theorem zkc {w:List Data} (hs:WSmall w):FnD Tryz.prog 177 [.d (zao w)] [] (.d (.bool (zbC w))) []:=by
 have hs1:=hs.len;refine bd Tryz.f177 79 [] [] fun w0 F0 own kept hk=>?_;refine sq ?_ ?_<;>intro h1 h1p h1s<;>(try simp only[Q] at h1p);focus (refine rq ?_;all_goals ((simp[zbC];omega)))
 refine Walk.makeMap (id:=3012) .none rfl rfl ?_;refine ev ?_;refine Walk.makeMap (id:=3013) .none rfl rfl ?_;refine ev ?_;refine xam (ι:=List (Data)×List (Data)×(List Str)×(List Str)) hk (fun x=>[(16,.d (.i (x.1.length:Int))),(3,.mapr 3012),(4,.mapr 3013)]) [2,6,8,17,18,19,20,21,22,23,24,25,26,27,28,29,30,31,32,33,34,35,36,37,38,39,40,41,42,43,44,45,46,47,48,49,50,51,52,53,54,55,56,57,58,59,60,61,62,63,64,65,66,67,68,69,70,71,72,73,74,75,76,77,78] (fun x=>[(3012,some (.map x.2.2.1)),(3013,some (.map x.2.2.2))]) (fun x=>x.1++x.2.1=w/\zbN w.length x.2.2.1 x.2.2.2 x.2.1=zbN w.length [] [] w) (fun x=>x.2.1.length) ([],w,[],[]) ⟨by simp,rfl⟩ ⟨⟨_,rfl,xax ?_⟩,⟨⟨_,rfl, ?_⟩,⟨⟨_,rfl, ?_⟩,trivial⟩⟩⟩ ⟨?_,⟨?_,trivial⟩⟩ (fun x=>rfl) (fun x hg1=>?_);focus (rfl)
 iterate 2 focus (exact LeA.refl _)
 iterate 2 focus (first|rfl|(simp[getH];done))
 obtain⟨pre,rest,met,datas⟩:=x;dsimp only at hg1 ⊢;refine evc [] [] ?_;refine sq ?_ ?_<;>intro h2 h2p h2s<;>(try simp only[Q] at h2p);rcases rest with _|⟨d,rest⟩
 ·exfalso;simp_all
 refine xaP sl23 .none rfl rfl rfl rfl (zaN hg1.1) rfl ?_;refine ev ?_;refine ab 3006 zjx ?_;refine so zjw ?_;refine tv ?_;refine sq ?_ ?_<;>intro h3 h3p h3s<;>(try simp only[Q] at h3p);refine sqT ?_;refine sqT ?_;refine sqT ?_;refine sqT ?_;refine sqT ?_;focus (refine rq ?_;all_goals ((refine zeq hg1.2 ?_;simp[zbN,zbB,h1s,h1p,h2s,h2p,h3s,h3p];done)))
 refine xaT (i:=0) un9 (.some rfl rfl h3) rfl rfl rfl rfl (List.getElem?_eq_getElem (by omega)) ?_;refine evs [] [(24,false)] ?_ ⟨⟨_,rfl,h3⟩,trivial⟩;refine sq ?_ ?_<;>intro h5 h5p h5s<;>(try simp only[Q] at h5p);refine sqT ?_;refine sqT ?_;refine sqT ?_;refine sqT ?_;focus (refine rq ?_;all_goals ((refine zeq hg1.2 ?_;simp only[zbN,zbB,zmx (s:=d.name) (by omega),zdw];simp[h1s,h1p,h2s,h2p,h3s,h3p,h5s,h5p];omega)))
 refine xaT (i:=0) un9 (.some rfl rfl h5) rfl rfl rfl rfl (List.getElem?_eq_getElem (by omega)) ?_;refine evs [] [(30,false)] ?_ ⟨⟨_,rfl,h5⟩,trivial⟩;refine sq ?_ ?_<;>intro h7 h7p h7s<;>(try simp only[Q] at h7p);refine sqT ?_;refine sqT ?_;refine sqT ?_;focus (refine rq ?_;all_goals ((refine zeq hg1.2 ?_;simp only[zbN,zbB,zmx (s:=d.name) (by omega),zdw];simp[h1s,h1p,h2s,h2p,h3s,h3p,h5s,h5p,h7s,h7p];omega)))
 refine sq ?_ ?_<;>intro h9 h9p h9s<;>(try simp only[Q] at h9p);refine sqT ?_;refine sqT ?_;focus (refine rq ?_;all_goals ((refine zeq hg1.2 ?_;simp[zbN,zbB,h1s,h1p,h2s,h2p,h3s,h3p,h5s,h5p,h7s,h7p,h9s,h9p];done)))
 refine Walk.lookup zpB (.some rfl rfl h9) rfl rfl rfl rfl ?_;refine evs [] [(41,false)] ?_ ⟨⟨_,rfl,h9⟩,trivial⟩;refine sq ?_ ?_<;>intro h11 h11p h11s<;>(try simp only[Q] at h11p);refine sqT ?_;focus (refine rq ?_;all_goals ((refine zeq hg1.2 ?_;simp[zbN,zbB,h1s,h1p,h2s,h2p,h3s,h3p,h5s,h5p,h7s,h7p,h9s,h9p,h11s,h11p];done)))
 refine Walk.call (cr:=[]) zd8 (zbH) rfl (.some rfl rfl h11) rfl rfl (LeL.refl _) trivial rfl rfl rfl ?_;refine evs [] [(47,false)] ?_ ⟨⟨_,rfl,h11⟩,trivial⟩;refine sq ?_ ?_<;>intro h13 h13p h13s<;>(try simp only[Q] at h13p);focus (refine rq ?_;all_goals ((refine zeq hg1.2 ?_;simp[zbN,zbB,h1s,h1p,h2s,h2p,h3s,h3p,h5s,h5p,h7s,h7p,h9s,h9p,h11s,h11p,h13s,h13p];done)))
 refine Walk.mapUpdate zpB .none rfl rfl rfl rfl (by simp_all) ?_;refine tv ?_;refine xam (ι:=List (Ctor)×List (Ctor)×(List Str)) hk (fun x=>[(60,.d (.i (x.1.length:Int)))]) [2,8,61,62,63,64,65,66,67,68,69,70,71,72,73,74,75,76,77] (fun x=>[(3012,some (.map x.2.2))]) (fun x=>x.1++x.2.1=d.ctors/\zdb w.length x.2.2 x.2.1=zdb w.length met d.ctors) (fun x=>x.2.1.length) ([],d.ctors,met) ⟨by simp,rfl⟩ ⟨⟨_,rfl,xax ?_⟩,trivial⟩ ⟨?_,trivial⟩ (fun x=>rfl) (fun x hg2=>?_);focus (rfl)
 focus (first|rfl|(simp[getH];done))
 obtain⟨pre2,rest2,met2⟩:=x;dsimp only at hg2 ⊢;have hb:=(hs.data d (by rw[<-hg1.1];simp)).2;refine evc [] [] ?_;refine sq ?_ ?_<;>intro h14 h14p h14s<;>(try simp only[Q] at h14p);rcases rest2 with _|⟨y,rest2⟩
 ·exfalso;simp_all
 refine xaP zb9 .none rfl rfl rfl rfl (zaN hg2.1) rfl ?_;refine ev ?_;refine ab 3008 zgm ?_;refine so zgl ?_;refine tv ?_;refine wc zvJ (znK hs1 (hs.ctor d (by rw[<-hg1.1];simp) y (by rw[<-hg2.1];simp)).1 (hs.ctor d (by rw[<-hg1.1];simp) y (by rw[<-hg2.1];simp)).2) rfl rfl ?_;refine ev ?_;refine sq ?_ ?_<;>intro h15 h15p h15s<;>(try simp only[Q] at h15p);refine sqT ?_;focus (refine rq ?_;all_goals ((refine zeq hg1.2 ?_;rw[zbN,<-hg2.2];simp[zdb,h1s,h1p,h2s,h2p,h3s,h3p,h5s,h5p,h7s,h7p,h9s,h9p,h11s,h11p,h13s,h13p,h14s,h14p,h15s,h15p];done)))
 refine Walk.lookup zpB (.some rfl rfl h15) rfl rfl rfl rfl ?_;refine evs [] [(68,false)] ?_ ⟨⟨_,rfl,h15⟩,trivial⟩;refine sq ?_ ?_<;>intro h17 h17p h17s<;>(try simp only[Q] at h17p);focus (refine rq ?_;all_goals ((refine zeq hg1.2 ?_;rw[zbN,<-hg2.2];simp[zdb,h1s,h1p,h2s,h2p,h3s,h3p,h5s,h5p,h7s,h7p,h9s,h9p,h11s,h11p,h13s,h13p,h14s,h14p,h15s,h15p,h17s,h17p];done)))
 refine Walk.mapUpdate zpB .none rfl rfl rfl rfl (by simp_all) ?_;refine tv ?_;refine ar ?_;refine xah ((pre2++[y],rest2,met2++[y.name])) ⟨⟨(by have hz:=hg2.1;rw[<-hz];simp),(by rw[<-hg2.2];simp[zdb,h1s,h1p,h2s,h2p,h3s,h3p,h5s,h5p,h7s,h7p,h9s,h9p,h11s,h11p,h13s,h13p,h14s,h14p,h15s,h15p,h17s,h17p])⟩,(by simp),sx ⟨⟨_,rfl,xax ?_⟩,trivial⟩ ⟨?_,trivial⟩⟩;focus ((simp;done))
 focus (first|rfl|(simp[getH];done))
 have hrest2:rest2=[]:=by
  rcases rest2 with _|⟨a,b⟩
  ·rfl
  ·exfalso;have hz:=congrArg List.length (hg2.1);simp only[xaa,xab,xac] at hz;omega
 subst hrest2;refine ar ?_;refine xah ((pre++[d],rest,met2,datas++[d.name])) ⟨⟨(by have hz:=hg1.1;rw[<-hz];simp),(by rw[<-hg1.2,zbN,<-hg2.2];simp only[zbB,zmx (s:=d.name) (by omega),zdw];simp[zdb,h1s,h1p,h2s,h2p,h3s,h3p,h5s,h5p,h7s,h7p,h9s,h9p,h11s,h11p,h13s,h13p,h14s,h14p];omega)⟩,(by simp),sx ⟨⟨_,rfl,xax ?_⟩,⟨⟨_,rfl, ?_⟩,⟨⟨_,rfl, ?_⟩,trivial⟩⟩⟩ ⟨?_,⟨?_,trivial⟩⟩⟩;focus ((simp;done))
 iterate 2 focus (exact LeA.refl _)
 iterate 2 focus (first|rfl|(simp[getH];done))
 have hrest:rest=[]:=by
  rcases rest with _|⟨a,b⟩
  ·rfl
  ·exfalso;have hz:=congrArg List.length (hg1.1);simp only[xaa,xab,xac] at hz;omega
 subst hrest;focus (refine rq ?_;all_goals ((exact zva (by omega) hg1.2)))
theorem zgI {w:List Data}{a b:Int} (hs:WSmall w):FnD Tryz.prog 120 [.d (zao w),.agg [.d (.i a),.d (.i b)]] [] (.d (.bool (zbJ w ⟨a,b⟩))) []:=by
 refine bd Tryz.f120 12 [] [] fun w0 F0 own kept hk=>?_;refine bx 3003 ?_;refine ev ?_;refine wc zvt (zkc hs) rfl rfl ?_;refine ev ?_;refine sq ?_ ?_<;>intro h1 h1p h1s;refine Walk.call (cr:=[]) zvv (znN hs.len) rfl (.some rfl rfl h1) rfl rfl (LeL.refl _) trivial rfl rfl rfl ?_;refine evs [] [(7,true)] ?_ ⟨⟨_,rfl,h1⟩,trivial⟩;focus (refine rq ?_;all_goals ((simp[zbJ,h1s,h1p];done)))
 focus (refine rq ?_;all_goals ((simp[zbJ,h1s,h1p];done)))
def zcI (n:Int):Bool:=decide (65<=n)&&decide (n<=90)
theorem zjK {n:Int}:FnD Tryz.prog 335 [.d (.int .u8 n)] [] (.d (.bool (zcI n))) []:=by
 refine bd Tryz.f335 9 [] [] fun w0 F0 own kept hk=>?_;refine sq ?_ ?_<;>intro h1 h1p h1s;focus (refine rq ?_;all_goals ((simp[zcI,h1s,h1p];done)))
 focus (refine rq ?_;all_goals ((simp[zcI,h1s,h1p];done)))
theorem zlj {s:Str} (hs:s.length<=1000000000000):FnD Tryz.prog 336 [.d (.str s)] [] (.d (.bool (zdB s))) []:=by
 refine bd Tryz.f336 34 [] [] fun w0 F0 own kept hk=>?_;refine sq ?_ ?_<;>intro h1 h1p h1s<;>(try simp only[Q,zcI] at h1p);refine sqT ?_;refine sqT ?_;focus (refine rq ?_;all_goals ((rw[zjI (by omega)];done)))
 refine sq ?_ ?_<;>intro h3 h3p h3s<;>(try simp only[Q,zcI] at h3p);refine sqT ?_;focus (refine rq ?_;all_goals ((rw[zjI (by omega)];done)))
 refine xaT (i:=0) un9 (.some rfl rfl h3) rfl rfl rfl rfl (List.getElem?_eq_getElem (by omega)) ?_;refine Walk.call (cr:=[]) zsT (zjK) rfl (.some rfl rfl h3) rfl rfl (LeL.refl _) trivial rfl rfl rfl ?_;refine evs [] [(12,false)] ?_ ⟨⟨_,rfl,h3⟩,trivial⟩;refine sq ?_ ?_<;>intro h5 h5p h5s<;>(try simp only[Q,zcI] at h5p);focus (refine rq ?_;all_goals ((rw[zcj (by omega)];simp only[zdw,h1s,h1p,h3s,h3p,h5s,h5p];simp;done)))
 refine xam (ι:=Nat) hk (fun i=>[(3,.d (.i (i:Int)))]) [2,18,19,20,21,22,23,24,25,26,27,28,29,30,31,32,33] (fun i=>[]) (fun i=>1<=i/\i<=s.length/\zdn (s.drop i)=zdn (s.drop 1)) (fun i=>s.length-i) 1 ⟨by omega,by omega,rfl⟩ ⟨⟨_,rfl,xax ?_⟩,trivial⟩ trivial (fun x=>rfl) (fun i hg1=>?_);focus (rfl)
 refine evc [] [] ?_;refine sq ?_ ?_<;>intro h6 h6p h6s<;>(try simp only[Q,zcI] at h6p);refine xaT un9 .none rfl rfl rfl rfl (List.getElem?_eq_getElem (by omega)) ?_;refine ev ?_;refine sq ?_ ?_<;>intro h7 h7p h7s<;>(try simp only[Q,zcI] at h7p);refine sqT ?_;focus (refine rq ?_;all_goals ((rw[zcj (by omega),<-hg1.2.2,zdc (by omega)];simp[zgt];omega)))
 refine xaT un9 (.some rfl rfl h7) rfl rfl rfl rfl (List.getElem?_eq_getElem (by omega)) ?_;refine evs [] [(28,false)] ?_ ⟨⟨_,rfl,h7⟩,trivial⟩;refine sq ?_ ?_<;>intro h9 h9p h9s<;>(try simp only[Q,zcI] at h9p);focus (refine rq ?_;all_goals ((rw[zcj (by omega),<-hg1.2.2,zdc (by omega)];simp[zgt];omega)))
 refine ar ?_;refine xah (i+1) ⟨⟨by omega,by omega,by rw[<-hg1.2.2,zdc (i:=i) (by omega)];simp[zgt];omega⟩, ?_,sx ⟨⟨_,rfl,xax ?_⟩,trivial⟩ trivial⟩;focus (omega)
 focus (rfl)
 focus (refine rq ?_;all_goals ((rw[zcj (by omega),<-hg1.2.2,zkt (by omega)];simp[zaF,zdw];omega)))
theorem zn9 {s:Str} (hs:s.length<=1000000000000):FnD Tryz.prog 272 [.d (.str s)] [] (.d (.bool (zbB s))) []:=by
 refine bd Tryz.f272 15 [] [] fun w0 F0 own kept hk=>?_;refine sq ?_ ?_<;>intro h1 h1p h1s;try simp only[Q] at h1p
 refine xaT (i:=0) un9 (.some rfl rfl h1) rfl rfl rfl rfl (List.getElem?_eq_getElem (by omega)) ?_;refine Walk.call (cr:=[]) zsT (zjK) rfl (.some rfl rfl h1) rfl rfl (LeL.refl _) trivial rfl rfl rfl ?_;refine evs [] [(6,true)] ?_ ⟨⟨_,rfl,h1⟩,trivial⟩;refine sq ?_ ?_<;>intro h2 h2p h2s;try simp only[Q] at h2p
 focus (refine rq ?_;all_goals ((simp only[zbB,zmx (s:=s) (by omega),zdw];simp only[zcI,xad,decide_eq_true_eq] at *;simp[*];done)))
 focus (refine rq ?_;all_goals ((simp only[zbB,zmx (s:=s) (by omega),zdw];simp only[zcI,xad,decide_eq_true_eq] at *;simp[*];done)))
 refine sqF ?_;focus (refine rq ?_;all_goals ((simp[zbB,h1s,h1p];done)))
theorem zjJ {n:Nat}{a b:Int}:FnD Tryz.prog 295 [.d (.i n),.agg [.d (.i a),.d (.i b)]] [] (.d (.bool (zb8 n ⟨a,b⟩))) []:=by
 refine bd Tryz.f295 30 [] [] fun w0 F0 own kept hk=>?_;refine bx 3003 ?_;refine ev ?_;refine sq ?_ ?_<;>intro h1 h1p h1s;try simp only[Q] at h1p
 focus (refine rq ?_;all_goals ((simp[zb8,zaF,h1s,h1p];done)))
 refine sq ?_ ?_<;>intro h2 h2p h2s;try simp only[Q] at h2p
 refine sq ?_ ?_<;>intro h3 h3p h3s<;>(try simp only[Q] at h3p);refine sq ?_ ?_<;>intro h4 h4p h4s;try simp only[Q] at h4p
 focus (refine rq ?_;all_goals ((apply congrArg D.bool;rw[Bool.eq_iff_iff];simp[zb8,zaF];omega)))
 focus (refine rq ?_;all_goals ((simp[zb8,zaF,h1s,h1p,h2s,h2p,h3s,h3p,h4s,h4p];done)))
 refine sqF ?_;focus (refine rq ?_;all_goals ((apply congrArg D.bool;rw[Bool.eq_iff_iff];simp[zb8,zaF];omega)))
 refine sqF ?_;refine sqF ?_;focus (refine rq ?_;all_goals ((simp[zb8,zaF,h1s,h1p,h2s,h2p];done)))
theorem zn7 {n:Nat}{s:Str}{args:List Ty}{k:Int} (hn:s.length<=1000000000000) (ha:args.length<=1000000000000):FnD Tryz.prog 273 [.d (.i n),.agg [.d (.str s),.d (zbw args),.d (.i k)]] [] (.d (.bool (zbW n ⟨s,args,k⟩))) []:=by
 refine bd Tryz.f273 41 [] [] fun w0 F0 own kept hk=>?_;refine bx 3003 ?_;refine ev ?_;refine wc zv1 (zlj hn) rfl rfl ?_;refine ev ?_;refine sq ?_ ?_<;>intro h1 h1p h1s;refine sqT ?_;refine sqT ?_;refine sqT ?_;focus (refine rq ?_;all_goals ((simp[zbW,h1s,h1p];done)))
 refine sq ?_ ?_<;>intro h3 h3p h3s<;>(try simp only[Q] at h3p);refine sqT ?_;refine sqT ?_;focus (refine rq ?_;all_goals ((apply congrArg D.bool;simp[zbW,zaF];omega)))
 refine sq ?_ ?_<;>intro h5 h5p h5s<;>(try simp only[Q] at h5p);refine sqT ?_;focus (refine rq ?_;all_goals ((apply congrArg D.bool;simp[zbW,zaF];omega)))
 refine sq ?_ ?_<;>intro h7 h7p h7s<;>(try simp only[Q] at h7p);focus (refine rq ?_;all_goals ((apply congrArg D.bool;simp[zbW,zaF];omega)))
 refine xam (ι:=List (Ty)×List (Ty)) hk (fun x=>[(5,.d (.i (x.1.length:Int)))]) [4,26,27,28,29,30,31,32,33,34,35,36,37,38,39,40] (fun x=>[]) (fun x=>x.1++x.2=args/\(x.2.any fun t=> !zb8 n t)=args.any fun t=> !zb8 n t) (fun x=>x.2.length) ([],args) ⟨by simp,rfl⟩ ⟨⟨_,rfl,xax ?_⟩,trivial⟩ trivial (fun x=>rfl) (fun x hg1=>?_);focus (rfl)
 obtain⟨pre,rest⟩:=x;dsimp only at hg1 ⊢;refine evc [] [] ?_;refine sq ?_ ?_<;>intro h8 h8p h8s<;>(try simp only[Q] at h8p);rcases rest with _|⟨y,rest⟩
 ·exfalso;simp_all
 refine xaP zaK .none rfl rfl rfl rfl (zaN hg1.1) rfl ?_;refine ev ?_;refine wc zsO (zjJ) rfl rfl ?_;refine ev ?_;refine sq ?_ ?_<;>intro h9 h9p h9s<;>(try simp only[Q] at h9p);focus (refine rq ?_;all_goals ((simp only[zbW];rw[<-hg1.2];simp[zaF,h1s,h1p,h3s,h3p,h5s,h5p,h7s,h7p,h8s,h8p,h9s,h9p];done)))
 refine ar ?_;refine xah ((pre++[y],rest)) ⟨⟨(by have hz:=hg1.1;rw[<-hz];simp),(by rw[<-hg1.2];simp[Ty.eta,h1s,h1p,h3s,h3p,h5s,h5p,h7s,h7p,h8s,h8p,h9s,h9p])⟩,(by simp),sx ⟨⟨_,rfl,xax ?_⟩,trivial⟩ trivial⟩;focus ((simp;done))
 have hrest:rest=[]:=by
  rcases rest with _|⟨a,b⟩
  ·rfl
  ·exfalso;have hz:=congrArg List.length (hg1.1);simp only[xaa,xab,xac] at hz;omega
 subst hrest;focus (refine rq ?_;all_goals ((simp only[zbW];rw[<-hg1.2];simp[zaF,h1s,h1p,h3s,h3p,h5s,h5p,h7s,h7p,h8s,h8p];omega)))
theorem znj {w:List Data}{d k:Nat} (hs:WSmall w) (hd:d<w.length):FnD Tryz.prog 274 [.d (zao w),.d (.i d),.d (.i k)] [] (.d (.bool (zns w d k))) []:=by
 have hw:=hs.len;refine bd Tryz.f274 79 [] [] fun w0 F0 own kept hk=>?_;refine xam (ι:=Nat) hk (fun i=>[(7,.d (.i (i:Int)))]) [6,8,9,10,11,12,13,14,15,16,17,18,19,20,21,22,23,24,25,26,27,28,29,30,31,32,33,34,35,36,37,38,39,40,41,42,43,44,45,46,47,48,49,50,51,52,53,54,55,56,57,58,59,60,61,62,63,64,65,66,67,68,69,70,71,72,73,74,75,76,77,78] (fun i=>[]) (fun i=>i<=d+1/\∀i',i'<i->zdp w d k i'=false) (fun i=>d+1-i) 0 ⟨by omega,fun _ h=>absurd h (by omega)⟩ ⟨⟨_,rfl,xax ?_⟩,trivial⟩ trivial (fun x=>rfl) (fun i hg1=>?_);focus (rfl)
 refine evc [] [] ?_;refine sq ?_ ?_<;>intro h1 h1p h1s<;>(try simp only[Q,Int.ofNat_lt,Int.ofNat_le] at h1p);refine sq ?_ ?_<;>intro h2 h2p h2s<;>(try simp only[Q,Int.ofNat_lt,Int.ofNat_le] at h2p);refine xaP sl23 (.some rfl rfl h2) rfl rfl rfl rfl (zaz (by omega)) rfl ?_;refine evd [] [(17,true)] ?_ ⟨⟨_,rfl,h2⟩,trivial⟩;refine xaP sl23 (.some rfl rfl h2) rfl rfl rfl rfl (zaz (by omega)) rfl ?_;refine evd [] [(17,true)] ?_ ⟨⟨_,rfl,h2⟩,trivial⟩;refine dr ?_;refine sq ?_ ?_<;>intro h3 h3p h3s<;>(try simp only[Q,Int.ofNat_lt,Int.ofNat_le] at h3p);focus (refine rq ?_;all_goals ((refine congrArg D.bool (zcZ (i:=i) (by omega) ?_).symm;simp[zdp,h1s,h1p,h2s,h2p,h3s,h3p];done)))
 refine xam (ι:=Nat) hk (fun j=>[(8,.d (.i (j:Int)))]) [6,30,31,32,33,34,35,36,37,38,39,40,41,42,43,44,45,46,47,48,49,50,51,52,53,54,55,56,57,58,59,60,61,62,63,64,65,66,67,68,69,70,71,72,73,74,75,76,77,78] (fun j=>[]) (fun j=>j<=(nth w i).ctors.length/\∀j',j'<j->zbX w d k i j'=false) (fun j=>(nth w i).ctors.length-j) 0 ⟨by omega,fun _ h=>absurd h (by omega)⟩ ⟨⟨_,rfl,xax ?_⟩,trivial⟩ trivial (fun x=>rfl) (fun j hg2=>?_);focus (rfl)
 have hb:=hs.ctors i;refine evc [] [] ?_;refine xaP sl23 .none rfl rfl rfl rfl (zaz (by omega)) rfl ?_;refine ev ?_;refine sq ?_ ?_<;>intro h4 h4p h4s<;>(try simp only[Q,Int.ofNat_lt,Int.ofNat_le] at h4p);refine sq ?_ ?_<;>intro h5 h5p h5s<;>(try simp only[Q,Int.ofNat_lt,Int.ofNat_le] at h5p);refine sqT ?_;refine xaP sl23 .none rfl rfl rfl rfl (zaz (by omega)) rfl ?_;refine evd [] [] ?_;refine sq ?_ ?_<;>intro h7 h7p h7s<;>(try simp only[Q,Int.ofNat_lt,Int.ofNat_le] at h7p);refine xaP sl23 (.some rfl rfl h7) rfl rfl rfl rfl (zaz (by omega)) rfl ?_;refine evd [] [(58,true)] ?_ ⟨⟨_,rfl,h7⟩,trivial⟩;refine xaP zb9 (.some rfl rfl h7) rfl rfl rfl rfl (zaz (by omega)) rfl ?_;refine evd [] [(58,true)] ?_ ⟨⟨_,rfl,h7⟩,trivial⟩;refine xaP sl23 (.some rfl rfl h7) rfl rfl rfl rfl (zaz (by omega)) rfl ?_;refine evd [] [(58,true)] ?_ ⟨⟨_,rfl,h7⟩,trivial⟩;refine xaP zb9 (.some rfl rfl h7) rfl rfl rfl rfl (zaz (by omega)) rfl ?_;refine evd [] [(58,true)] ?_ ⟨⟨_,rfl,h7⟩,trivial⟩;refine dr ?_;refine sq ?_ ?_<;>intro h8 h8p h8s<;>(try simp only[Q,Int.ofNat_lt,Int.ofNat_le] at h8p);focus (refine rq ?_;all_goals ((refine congrArg D.bool (zcZ (i:=i) (by omega) ?_).symm;unfold zdp;rw[zcZ (i:=j) (by omega) (by simp[zbX,h1s,h1p,h2s,h2p,h3s,h3p,h4s,h4p,h5s,h5p,h7s,h7p,h8s,h8p])];simp;done)))
 refine ar ?_;refine xah (j+1) ⟨⟨by omega,zaM hg2.2 (by simp[zbX,h1s,h1p,h2s,h2p,h3s,h3p,h4s,h4p,h5s,h5p,h7s,h7p,h8s,h8p];done)⟩,(by omega),sx ⟨⟨_,rfl,xax ?_⟩,trivial⟩ trivial⟩;focus (rfl)
 refine dr ?_;refine sqF ?_;refine ar ?_;refine xah (j+1) ⟨⟨by omega,zaM hg2.2 (by simp[zbX,h1s,h1p,h2s,h2p,h3s,h3p,h4s,h4p,h5s,h5p,h7s,h7p];done)⟩,(by omega),sx ⟨⟨_,rfl,xax ?_⟩,trivial⟩ trivial⟩;focus (rfl)
 refine sq ?_ ?_<;>intro h10 h10p h10s<;>(try simp only[Q,Int.ofNat_lt,Int.ofNat_le] at h10p);refine xaP sl23 .none rfl rfl rfl rfl (zaz (by omega)) rfl ?_;refine evd [] [] ?_;refine sq ?_ ?_<;>intro h11 h11p h11s<;>(try simp only[Q,Int.ofNat_lt,Int.ofNat_le] at h11p);refine xaP sl23 (.some rfl rfl h11) rfl rfl rfl rfl (zaz (by omega)) rfl ?_;refine evd [] [(58,true)] ?_ ⟨⟨_,rfl,h11⟩,trivial⟩;refine xaP zb9 (.some rfl rfl h11) rfl rfl rfl rfl (zaz (by omega)) rfl ?_;refine evd [] [(58,true)] ?_ ⟨⟨_,rfl,h11⟩,trivial⟩;refine xaP sl23 (.some rfl rfl h11) rfl rfl rfl rfl (zaz (by omega)) rfl ?_;refine evd [] [(58,true)] ?_ ⟨⟨_,rfl,h11⟩,trivial⟩;refine xaP zb9 (.some rfl rfl h11) rfl rfl rfl rfl (zaz (by omega)) rfl ?_;refine evd [] [(58,true)] ?_ ⟨⟨_,rfl,h11⟩,trivial⟩;refine dr ?_;refine sq ?_ ?_<;>intro h12 h12p h12s<;>(try simp only[Q,Int.ofNat_lt,Int.ofNat_le] at h12p);focus (refine rq ?_;all_goals ((exfalso;omega)))
 refine ar ?_;refine xah (j+1) ⟨⟨by omega,zaM hg2.2 (by simp[zbX,h1s,h1p,h2s,h2p,h3s,h3p,h4s,h4p,h5s,h5p,h10s,h10p,h11s,h11p,h12s,h12p];done)⟩,(by omega),sx ⟨⟨_,rfl,xax ?_⟩,trivial⟩ trivial⟩;focus (rfl)
 refine dr ?_;refine sqF ?_;refine ar ?_;refine xah (j+1) ⟨⟨by omega,zaM hg2.2 (by simp[zbX,h1s,h1p,h2s,h2p,h3s,h3p,h4s,h4p,h5s,h5p,h10s,h10p,h11s,h11p];done)⟩,(by omega),sx ⟨⟨_,rfl,xax ?_⟩,trivial⟩ trivial⟩;focus (rfl)
 refine ar ?_;refine xah (i+1) ⟨⟨by omega,zaM hg1.2 (zh5 (by simp[h1s,h1p,h2s,h2p,h3s,h3p,h4s,h4p,h5s,h5p,h10s,h10p]) hg2.2 (fun hj=>by omega))⟩,(by omega),sx ⟨⟨_,rfl,xax ?_⟩,trivial⟩ trivial⟩;focus (rfl)
 refine sqF ?_;refine ar ?_;refine xah (i+1) ⟨⟨by omega,zaM hg1.2 (zh5 (by simp[h1s,h1p,h2s,h2p,h3s,h3p,h4s,h4p]) hg2.2 (fun hj=>by omega))⟩,(by omega),sx ⟨⟨_,rfl,xax ?_⟩,trivial⟩ trivial⟩;focus (rfl)
 refine dr ?_;refine sqF ?_;refine xam (ι:=Nat) hk (fun j=>[(8,.d (.i (j:Int)))]) [6,30,31,32,33,34,35,36,37,38,39,40,41,42,43,44,45,46,47,48,49,50,51,52,53,54,55,56,57,58,59,60,61,62,63,64,65,66,67,68,69,70,71,72,73,74,75,76,77,78] (fun j=>[]) (fun j=>j<=(nth w i).ctors.length/\∀j',j'<j->zbX w d k i j'=false) (fun j=>(nth w i).ctors.length-j) 0 ⟨by omega,fun _ h=>absurd h (by omega)⟩ ⟨⟨_,rfl,xax ?_⟩,trivial⟩ trivial (fun x=>rfl) (fun j hg2=>?_);focus (rfl)
 have hb:=hs.ctors i;refine evc [] [] ?_;refine xaP sl23 .none rfl rfl rfl rfl (zaz (by omega)) rfl ?_;refine ev ?_;refine sq ?_ ?_<;>intro h16 h16p h16s<;>(try simp only[Q,Int.ofNat_lt,Int.ofNat_le] at h16p);refine sq ?_ ?_<;>intro h17 h17p h17s<;>(try simp only[Q,Int.ofNat_lt,Int.ofNat_le] at h17p);refine sqT ?_;refine xaP sl23 .none rfl rfl rfl rfl (zaz (by omega)) rfl ?_;refine evd [] [] ?_;refine sq ?_ ?_<;>intro h19 h19p h19s<;>(try simp only[Q,Int.ofNat_lt,Int.ofNat_le] at h19p);refine xaP sl23 (.some rfl rfl h19) rfl rfl rfl rfl (zaz (by omega)) rfl ?_;refine evd [] [(58,true)] ?_ ⟨⟨_,rfl,h19⟩,trivial⟩;refine xaP zb9 (.some rfl rfl h19) rfl rfl rfl rfl (zaz (by omega)) rfl ?_;refine evd [] [(58,true)] ?_ ⟨⟨_,rfl,h19⟩,trivial⟩;refine xaP sl23 (.some rfl rfl h19) rfl rfl rfl rfl (zaz (by omega)) rfl ?_;refine evd [] [(58,true)] ?_ ⟨⟨_,rfl,h19⟩,trivial⟩;refine xaP zb9 (.some rfl rfl h19) rfl rfl rfl rfl (zaz (by omega)) rfl ?_;refine evd [] [(58,true)] ?_ ⟨⟨_,rfl,h19⟩,trivial⟩;refine dr ?_;refine sq ?_ ?_<;>intro h20 h20p h20s<;>(try simp only[Q,Int.ofNat_lt,Int.ofNat_le] at h20p);focus (refine rq ?_;all_goals ((exfalso;omega)))
 refine ar ?_;refine xah (j+1) ⟨⟨by omega,zaM hg2.2 (by simp[zbX,h1s,h1p,h2s,h2p,h16s,h16p,h17s,h17p,h19s,h19p,h20s,h20p];done)⟩,(by omega),sx ⟨⟨_,rfl,xax ?_⟩,trivial⟩ trivial⟩;focus (rfl)
 refine dr ?_;refine sqF ?_;refine ar ?_;refine xah (j+1) ⟨⟨by omega,zaM hg2.2 (by simp[zbX,h1s,h1p,h2s,h2p,h16s,h16p,h17s,h17p,h19s,h19p];done)⟩,(by omega),sx ⟨⟨_,rfl,xax ?_⟩,trivial⟩ trivial⟩;focus (rfl)
 refine sq ?_ ?_<;>intro h22 h22p h22s<;>(try simp only[Q,Int.ofNat_lt,Int.ofNat_le] at h22p);refine xaP sl23 .none rfl rfl rfl rfl (zaz (by omega)) rfl ?_;refine evd [] [] ?_;refine sq ?_ ?_<;>intro h23 h23p h23s<;>(try simp only[Q,Int.ofNat_lt,Int.ofNat_le] at h23p);refine xaP sl23 (.some rfl rfl h23) rfl rfl rfl rfl (zaz (by omega)) rfl ?_;refine evd [] [(58,true)] ?_ ⟨⟨_,rfl,h23⟩,trivial⟩;refine xaP zb9 (.some rfl rfl h23) rfl rfl rfl rfl (zaz (by omega)) rfl ?_;refine evd [] [(58,true)] ?_ ⟨⟨_,rfl,h23⟩,trivial⟩;refine xaP sl23 (.some rfl rfl h23) rfl rfl rfl rfl (zaz (by omega)) rfl ?_;refine evd [] [(58,true)] ?_ ⟨⟨_,rfl,h23⟩,trivial⟩;refine xaP zb9 (.some rfl rfl h23) rfl rfl rfl rfl (zaz (by omega)) rfl ?_;refine evd [] [(58,true)] ?_ ⟨⟨_,rfl,h23⟩,trivial⟩;refine dr ?_;refine sq ?_ ?_<;>intro h24 h24p h24s<;>(try simp only[Q,Int.ofNat_lt,Int.ofNat_le] at h24p);focus (refine rq ?_;all_goals ((refine congrArg D.bool (zcZ (i:=i) (by omega) ?_).symm;unfold zdp;rw[zcZ (i:=j) (by omega) (by simp[zbX,h1s,h1p,h2s,h2p,h16s,h16p,h17s,h17p,h22s,h22p,h23s,h23p,h24s,h24p])];simp;done)))
 refine ar ?_;refine xah (j+1) ⟨⟨by omega,zaM hg2.2 (by simp[zbX,h1s,h1p,h2s,h2p,h16s,h16p,h17s,h17p,h22s,h22p,h23s,h23p,h24s,h24p];done)⟩,(by omega),sx ⟨⟨_,rfl,xax ?_⟩,trivial⟩ trivial⟩;focus (rfl)
 refine dr ?_;refine sqF ?_;refine ar ?_;refine xah (j+1) ⟨⟨by omega,zaM hg2.2 (by simp[zbX,h1s,h1p,h2s,h2p,h16s,h16p,h17s,h17p,h22s,h22p,h23s,h23p];done)⟩,(by omega),sx ⟨⟨_,rfl,xax ?_⟩,trivial⟩ trivial⟩;focus (rfl)
 refine ar ?_;refine xah (i+1) ⟨⟨by omega,zaM hg1.2 (zh5 (by simp[h1s,h1p,h2s,h2p,h16s,h16p,h17s,h17p,h22s,h22p]) hg2.2 (fun hj=>by omega))⟩,(by omega),sx ⟨⟨_,rfl,xax ?_⟩,trivial⟩ trivial⟩;focus (rfl)
 refine sqF ?_;refine ar ?_;refine xah (i+1) ⟨⟨by omega,zaM hg1.2 (zh5 (by simp[h1s,h1p,h2s,h2p,h16s,h16p]) hg2.2 (fun hj=>by omega))⟩,(by omega),sx ⟨⟨_,rfl,xax ?_⟩,trivial⟩ trivial⟩;focus (rfl)
 focus (refine rq ?_;all_goals ((refine congrArg D.bool (zfh (fun x hx=>hg1.2 x (Nat.lt_of_lt_of_le hx ?_))).symm;omega)))
theorem zub {w:List Data} (h:w.length<=4) (h2:∀i,i<w.length->zcz w i=true):zbA w=true:=by
 unfold zbA;rw[zer h2];simp[h]
theorem zvb {w:List Data} (h:4<w.length):zbA w=false:=by
 unfold zbA;rw[decide_eq_false (by omega)];rfl
theorem zgA {w:List Data}{i:Nat} (h:i<w.length) (h2:zcz w i=false):zbA w=false:=by
 unfold zbA;rw[zdV h h2];simp
theorem zpi {w:List Data}{d:Nat} (h:zbB (nth w d).name=true) (h1:1<=(nth w d).ctors.length) (h2:(nth w d).ctors.length<=4) (h3:∀k,k<(nth w d).ctors.length->zek w d k=true):zcz w d=true:=by
 unfold zcz;rw[h,zer h3];simp[h1,h2]
theorem zkK {w:List Data} (hs:WSmall w):FnD Tryz.prog 182 [.d (zao w)] [] (.d (.bool (zbA w))) []:=by
 have hw:=hs.len;refine bd Tryz.f182 67 [] [] fun w0 F0 own kept hk=>?_;refine sq ?_ ?_<;>intro h1 h1p h1s<;>(try simp only[Q,Int.ofNat_lt,Int.ofNat_le] at h1p);focus (refine rq ?_;all_goals ((refine congrArg D.bool (zvb ?_).symm;omega)))
 refine xam (ι:=Nat) hk (fun i=>[(3,.d (.i (i:Int)))]) [2,4,8,9,10,11,12,13,14,15,16,17,18,19,20,21,22,23,24,25,26,27,28,29,30,31,32,33,34,35,36,37,38,39,40,41,42,43,44,45,46,47,48,49,50,51,52,53,54,55,56,57,58,59,60,61,62,63,64,65,66] (fun i=>[]) (fun i=>i<=w.length/\∀i',i'<i->zcz w i'=true) (fun i=>w.length-i) 0 ⟨by omega,fun _ h=>absurd h (by omega)⟩ ⟨⟨_,rfl,xax ?_⟩,trivial⟩ trivial (fun x=>rfl) (fun i hg1=>?_);focus (rfl)
 refine evc [] [] ?_;refine sq ?_ ?_<;>intro h2 h2p h2s<;>(try simp only[Q,Int.ofNat_lt,Int.ofNat_le] at h2p);refine xaP sl23 .none rfl rfl rfl rfl (zaz (by omega)) rfl ?_;refine ev ?_;refine wc zvK (zn9 (hs.data _ (zai (by omega))).1) rfl rfl ?_;refine ev ?_;refine sq ?_ ?_<;>intro h3 h3p h3s<;>(try simp only[Q,Int.ofNat_lt,Int.ofNat_le] at h3p);refine sqT ?_;refine sqT ?_;focus (refine rq ?_;all_goals ((refine congrArg D.bool (zgA (i:=i) (by omega) ?_).symm;simp[zcz,h1s,h1p,h2s,h2p,h3s,h3p];done)))
 refine xaP sl23 (.some rfl rfl h3) rfl rfl rfl rfl (zaz (by omega)) rfl ?_;refine evs [] [(21,false)] ?_ ⟨⟨_,rfl,h3⟩,trivial⟩;refine sq ?_ ?_<;>intro h5 h5p h5s<;>(try simp only[Q,Int.ofNat_lt,Int.ofNat_le] at h5p);refine sqT ?_;focus (refine rq ?_;all_goals ((refine congrArg D.bool (zgA (i:=i) (by omega) ?_).symm;unfold zcz;rw[decide_eq_false (p:=1<=(nth w i).ctors.length) (by omega)];simp;done)))
 refine xaP sl23 (.some rfl rfl h5) rfl rfl rfl rfl (zaz (by omega)) rfl ?_;refine evs [] [(30,false)] ?_ ⟨⟨_,rfl,h5⟩,trivial⟩;refine sq ?_ ?_<;>intro h7 h7p h7s<;>(try simp only[Q,Int.ofNat_lt,Int.ofNat_le] at h7p);focus (refine rq ?_;all_goals ((refine congrArg D.bool (zgA (i:=i) (by omega) ?_).symm;unfold zcz;rw[decide_eq_false (p:=(nth w i).ctors.length<=4) (by omega)];simp;done)))
 refine xam (ι:=Nat) hk (fun k=>[(4,.d (.i (k:Int)))]) [2,39,40,41,42,43,44,45,46,47,48,49,50,51,52,53,54,55,56,57,58,59,60,61,62,63,64,65,66] (fun k=>[]) (fun k=>k<=(nth w i).ctors.length/\∀k',k'<k->zek w i k'=true) (fun k=>(nth w i).ctors.length-k) 0 ⟨by omega,fun _ h=>absurd h (by omega)⟩ ⟨⟨_,rfl,xax ?_⟩,trivial⟩ trivial (fun x=>rfl) (fun k hg2=>?_);focus (rfl)
 have hb:=hs.ctors i;refine evc [] [] ?_;refine xaP sl23 .none rfl rfl rfl rfl (zaz (by omega)) rfl ?_;refine ev ?_;refine sq ?_ ?_<;>intro h8 h8p h8s<;>(try simp only[Q,Int.ofNat_lt,Int.ofNat_le] at h8p);refine xaP sl23 .none rfl rfl rfl rfl (zaz (by omega)) rfl ?_;refine ev ?_;refine xaP zb9 .none rfl rfl rfl rfl (zaz (by omega)) rfl ?_;refine ev ?_;refine wc zvL (zn7 (hs.ctor _ (zai (i:=i) (by omega)) _ (zai (i:=k) (by omega))).1 (hs.ctor _ (zai (i:=i) (by omega)) _ (zai (i:=k) (by omega))).2) rfl rfl ?_;refine ev ?_;refine sq ?_ ?_<;>intro h9 h9p h9s<;>(try simp only[Q,Int.ofNat_lt,Int.ofNat_le] at h9p);refine sqT ?_;focus (refine rq ?_;all_goals ((refine congrArg D.bool (zgA (i:=i) (by omega) ?_).symm;unfold zcz;rw[zdV (i:=k) (by omega) (by simp[zek,Ctor.eta,h1s,h1p,h2s,h2p,h3s,h3p,h5s,h5p,h7s,h7p,h8s,h8p,h9s,h9p])];simp;done)))
 refine Walk.call (cr:=[]) zvM (znj hs (by omega)) rfl (.some rfl rfl h9) rfl rfl (LeL.refl _) trivial rfl rfl rfl ?_;refine evs [] [(61,false)] ?_ ⟨⟨_,rfl,h9⟩,trivial⟩;refine sq ?_ ?_<;>intro h11 h11p h11s<;>(try simp only[Q,Int.ofNat_lt,Int.ofNat_le] at h11p);focus (refine rq ?_;all_goals ((refine congrArg D.bool (zgA (i:=i) (by omega) ?_).symm;unfold zcz;rw[zdV (i:=k) (by omega) (by simp[zek,Ctor.eta,h1s,h1p,h2s,h2p,h3s,h3p,h5s,h5p,h7s,h7p,h8s,h8p,h9s,h9p,h11s,h11p])];simp;done)))
 refine ar ?_;refine xah (k+1) ⟨⟨by omega,zaM hg2.2 (by simp[zek,Ctor.eta,h1s,h1p,h2s,h2p,h3s,h3p,h5s,h5p,h7s,h7p,h8s,h8p,h9s,h9p,h11s,h11p];done)⟩,(by omega),sx ⟨⟨_,rfl,xax ?_⟩,trivial⟩ trivial⟩;focus (rfl)
 refine ar ?_;refine xah (i+1) ⟨⟨by omega,zaM hg1.2 (zpi (by simp[h1s,h1p,h2s,h2p,h3s,h3p,h5s,h5p,h7s,h7p,h8s,h8p]) (by omega) (by omega) (fun x hx=>hg2.2 x (by omega)))⟩,(by omega),sx ⟨⟨_,rfl,xax ?_⟩,trivial⟩ trivial⟩;focus (rfl)
 focus (refine rq ?_;all_goals ((refine congrArg D.bool (zub ?_ (fun x hx=>hg1.2 x (Nat.lt_of_lt_of_le hx ?_))).symm<;>omega)))
def szr (left:Int) (m:Nat):Int:=if left<m then -1 else left-m
theorem zb2 {left:Int} (m:Nat):(left<m/\szr left m = -1)\/((m:Int)<=left/\szr left m=left-m):=by
 unfold szr;split<;>omega
def mTys (l:List Ty):Nat:=l.length
def zfy (c:Ctor):Nat:=c.name.length+mTys c.args
def zgu (l:List Ctor):Nat:=l.length+(l.map zfy).sum
def zfz (c:Data):Nat:=c.name.length+zgu c.ctors
def zeO (l:List Data):Nat:=l.length+(l.map zfz).sum
structure CSmall (l:List Ctor):Prop where
 len:l.length<=1000000000000
 ctor:∀c∈l,c.name.length<=1000000000000/\c.args.length<=1000000000000
theorem WSmall.cs {w:List Data} (h:WSmall w){d:Data} (hd:d∈w):CSmall d.ctors:=⟨(h.data d hd).2,h.ctor d hd⟩
theorem zmK {l:List Ty}{left:Int} (h:l.length<=1000000000000) (k0:0<=left) (k1:left<=1000000000000):FnD Tryz.prog 321 [.d (zbw l),.d (.i left)] [] (.d (.i (szr left (mTys l)))) []:=by
 have z:=zb2 (left:=left) (mTys l);refine bd Tryz.f321 12 [] [] fun w0 F0 own kept hk=>?_;refine ar ?_;refine sq ?_ ?_<;>intro h1 h1p h1s<;>(try simp only[Q] at h1p);refine rq ?_;rotate_left;refine rq ?_;rotate_left;all_goals (refine congrArg D.i ?_;simp only[mTys,xac] at *;omega)
theorem znR {s:Str}{args:List Ty}{k left:Int} (h:s.length<=1000000000000) (h':args.length<=1000000000000) (k0:0<=left) (k1:left<=1000000000000):FnD Tryz.prog 255 [.agg [.d (.str s),.d (zbw args),.d (.i k)],.d (.i left)] [] (.d (.i (szr left (zfy ⟨s,args,k⟩)))) []:=by
 have z:=zb2 (left:=left) (zfy ⟨s,args,k⟩);have z2:=zb2 (left:=left-s.length) (mTys args);simp only[zfy] at z z2 ⊢;refine bd Tryz.f255 19 [] [] fun w0 F0 own kept hk=>?_;refine bx 3002 ?_;refine ev ?_;refine ar ?_;refine sq ?_ ?_<;>intro h1 h1p h1s<;>(try simp only[Q] at h1p);refine rq ?_;rotate_left;refine wc zvW (zmK h' (by omega) (by omega)) rfl rfl ?_;refine ev ?_;refine sq ?_ ?_<;>intro h2 h2p h2s<;>(try simp only[Q] at h2p);refine rq ?_;rotate_left;refine rq ?_;rotate_left;all_goals (refine congrArg D.i ?_;omega)
theorem zdE {α:Type}{f:α->Nat}{pre rest l:List α}{y:α} (h:pre++y::rest=l):(l.map f).sum=(pre.map f).sum+f y+(rest.map f).sum:=by
 subst h;simp;omega
theorem zmJ {l:List Ctor}{left:Int} (hs:CSmall l) (k0:0<=left) (k1:left<=1000000000000):FnD Tryz.prog 161 [.d (zcb l),.d (.i left)] [] (.d (.i (szr left (zgu l)))) []:=by
 have h:=hs.len;have z:=zb2 (left:=left) (zgu l);simp only[zgu] at z ⊢;refine bd Tryz.f161 27 [] [] fun w0 F0 own kept hk=>?_;refine ar ?_;refine sq ?_ ?_<;>intro h1 h1p h1s<;>(try simp only[Q] at h1p);refine rq ?_;rotate_left;refine xam (ι:=List (Ctor)×List (Ctor)×(Int)) hk (fun x=>[(5,.d (.i (x.1.length:Int))),(1,.d (.i x.2.2))]) [4,12,13,14,15,16,17,18,19,20,21,22,23,24,25] (fun x=>[]) (fun x=>x.1++x.2.1=l/\x.2.2=left-l.length-(x.1.map zfy).sum/\0<=x.2.2) (fun x=>x.2.1.length) ([],l,left-l.length) ⟨by simp,by simp,by simp at *;omega⟩ ⟨⟨_,rfl,xax ?_⟩,⟨⟨_,rfl,xax ?_⟩,trivial⟩⟩ trivial (fun x=>rfl) (fun x hg1=>?_);iterate 2 focus (first|rfl|(simp;done))
 obtain⟨pre,rest,v⟩:=x;dsimp only at hg1 ⊢;refine evc [] [] ?_;refine sq ?_ ?_<;>intro h2 h2p h2s<;>(try simp only[Q] at h2p);rcases rest with _|⟨y,rest⟩
 ·exfalso;simp_all
 refine xaP zsg .none rfl rfl rfl rfl (zaN hg1.1) rfl ?_;refine ev ?_;refine wc zvE (znR (hs.ctor y (by rw[<-hg1.1];simp)).1 (hs.ctor y (by rw[<-hg1.1];simp)).2 (by omega) (by omega)) rfl rfl ?_;refine ev ?_;refine sq ?_ ?_<;>intro h3 h3p h3s<;>(try simp only[Q] at h3p);refine rq ?_;rotate_left;refine ar ?_;refine xah ((pre++[y],rest,szr v (zfy y))) ⟨⟨(by have hz:=hg1.1;rw[<-hz];simp),(by have e:=zdE (f:=zfy) hg1.1;have z3:=zb2 (left:=v) (zfy y);simp only[Ctor.eta] at *;simp;omega)⟩,(by simp),sx ⟨⟨_,rfl,xax ?_⟩,⟨⟨_,rfl,xax ?_⟩,trivial⟩⟩ trivial⟩;iterate 2 focus (first|rfl|(simp;done))
 have hrest:rest=[]:=by
  rcases rest with _|⟨a,b⟩
  ·rfl
  ·exfalso;have hz:=congrArg List.length (hg1.1);simp only[xaa,xab,xac] at hz;omega
 subst hrest;refine rq ?_;rotate_left;all_goals (refine congrArg D.i ?_;first|omega|(have e:=zdE (f:=zfy) hg1.1;have z3:=zb2 (left:=v) (zfy y);simp only[Ctor.eta] at *;omega)|(rw[List.append_nil] at hg1;rw[hg1.1] at hg1;omega))
theorem zcc {a b:Int}:FnD Tryz.prog 31 [.agg [.d (.i a),.d (.i b)]] [] (.agg [.d (.i a),.d (.i b)]) []:=by
 refine bd Tryz.f31 11 [] [] fun w0 F0 own kept hk=>?_;refine bx 3001 ?_;refine ab 3002 tz25 ?_;refine tv ?_;refine ab 3003 tz25 ?_;refine tv ?_;refine so ty3 ?_;refine tv ?_;refine so ty3 ?_;refine tv ?_;refine so ty25 ?_;refine tv ?_;focus (refine rn0 (.cons (.cellA ty25 rfl rfl rfl) .nil) (.agg (.cons (.eqd ?_) (.cons (.eqd ?_) .nil)));all_goals (first|rfl|(simp[];done)|(simp_all;done)|(simp_all;omega)|omega))
theorem zmN {l:List Ty} (h:l.length<=1000000000000):FnD Tryz.prog 322 [.d (zbw l)] [] (.d (zbw l)) []:=by
 refine bd Tryz.f322 23 [] [999999] fun w0 F0 own kept hk=>?_;refine xaZ (id:=3007) zaK tz25 rfl (by decide) (zca rfl) .none rfl rfl rfl (by simp;omega) (by simp;omega) rfl rfl rfl ?_;refine ev ?_;refine xam (ι:=List (Ty)×List (Ty)) hk (fun x=>[(4,.d (.i (x.1.length:Int)))]) [8,9,10,11,12,13,14,15,16,17,18,19,20,21] (fun x=>[(3007,some (.box ((x.1.flatMap fun x=>(Ty.c x).map AV.d)++zaI x.2.length [.d (.i 0),.d (.i 0)])))]) (fun x=>x.1++x.2=l) (fun x=>x.2.length) ([],l) (by simp) ⟨⟨_,rfl,xax ?_⟩,trivial⟩ ⟨?_,trivial⟩ (fun x=>rfl) (fun x hg1=>?_);focus (first|rfl|(simp;done)|(simp_all;done)|omega)
 focus (first|rfl|(show some (Res.box _)=some (Res.box _);simp;done))
 obtain⟨pre,rest⟩:=x;dsimp only at hg1 ⊢;refine evc [] [999999] ?_;refine sq ?_ ?_<;>intro h1 h1p h1s<;>(try simp only[Q] at h1p);rcases rest with _|⟨y,rest⟩
 ·exfalso;simp_all
 refine xaP zuz .none rfl rfl rfl rfl (zaN hg1) rfl ?_;refine ev ?_;refine wc zhK (zcc) rfl rfl ?_;refine xaS zaK .none rfl rfl rfl rfl (by first|omega|(simp ;omega)) ?_;refine Walk.store ty25 .none rfl rfl rfl rfl rfl rfl (by simp) ((zh3 (k:=2) (by intro x _;rfl) (by first|rfl|simp) rfl)) ?_;refine tv ?_;refine ar ?_;refine xah ((pre++[y],rest)) ⟨(by have hz:=hg1;rw[<-hz];simp),(by simp),sx ⟨⟨_,rfl,xax ?_⟩,trivial⟩ ⟨?_,trivial⟩⟩;focus (first|rfl|(simp;done)|(simp_all;done)|omega)
 focus (first|rfl|(show some (Res.box _)=some (Res.box _);simp;done))
 have hrest:rest=[]:=by
  rcases rest with _|⟨a,b⟩
  ·rfl
  ·exfalso;have hz:=congrArg List.length (hg1);simp only[xaa,xab,xac] at hz;omega
 subst hrest;refine CWp.frz hk 2 3007 _ _ rfl rfl (zga (f:=Ty.c) (k:=2) hg1 (by simp) (by intro x _;rfl)) rfl ?_;refine CWp.ret ?_;focus (refine rq ?_;all_goals (first|rfl|(simp[h1s,h1p];done)|(simp_all;done)|(simp_all;omega)|omega))
theorem znT {s:Str}{args:List Ty}{k:Int} (h:args.length<=1000000000000):FnD Tryz.prog 257 [.agg [.d (.str s),.d (zbw args),.d (.i k)]] [] (.agg [.d (.str s),.d (zbw args),.d (.i k)]) []:=by
 refine bd Tryz.f257 15 [] [] fun w0 F0 own kept hk=>?_;refine bx 3001 ?_;refine ab 3002 zgm ?_;refine tv ?_;refine ab 3003 zgm ?_;refine tv ?_;refine so ty9 ?_;refine tv ?_;refine wc zsS (zmN h) rfl rfl ?_;refine ev ?_;refine so zpE ?_;refine tv ?_;refine so ty3 ?_;refine tv ?_;refine so zgl ?_;refine tv ?_;focus (refine rn0 (.cons (.cellA zgl rfl rfl rfl) .nil) (.agg (.cons (.eqd ?_) (.cons (.eqd ?_) (.cons (.eqd ?_) .nil))));all_goals (first|rfl|(simp[];done)|(simp_all;done)|(simp_all;omega)|omega))
theorem zmL {l:List Ctor} (hs:CSmall l):FnD Tryz.prog 163 [.d (zcb l)] [] (.d (zcb l)) []:=by
 have h:=hs.len;refine bd Tryz.f163 23 [] [999999] fun w0 F0 own kept hk=>?_;refine xaZ (id:=3007) zb9 zgm rfl (by decide) (zca rfl) .none rfl rfl rfl (by simp;omega) (by simp;omega) rfl rfl rfl ?_;refine ev ?_;refine xam (ι:=List (Ctor)×List (Ctor)) hk (fun x=>[(4,.d (.i (x.1.length:Int)))]) [8,9,10,11,12,13,14,15,16,17,18,19,20,21] (fun x=>[(3007,some (.box ((x.1.flatMap fun x=>(Ctor.c x).map AV.d)++zaI x.2.length [.d (.str []),.nils,.d (.i 0)])))]) (fun x=>x.1++x.2=l) (fun x=>x.2.length) ([],l) (by simp) ⟨⟨_,rfl,xax ?_⟩,trivial⟩ ⟨?_,trivial⟩ (fun x=>rfl) (fun x hg1=>?_);focus (first|rfl|(simp;done)|(simp_all;done)|omega)
 focus (first|rfl|(show some (Res.box _)=some (Res.box _);simp;done))
 obtain⟨pre,rest⟩:=x;dsimp only at hg1 ⊢;refine evc [] [999999] ?_;refine sq ?_ ?_<;>intro h1 h1p h1s<;>(try simp only[Q] at h1p);rcases rest with _|⟨y,rest⟩
 ·exfalso;simp_all
 refine xaP zsg .none rfl rfl rfl rfl (zaN hg1) rfl ?_;refine ev ?_;refine wc zsL (znT (hs.ctor y (by rw[<-hg1];simp)).2) rfl rfl ?_;refine xaS zb9 .none rfl rfl rfl rfl (by first|omega|(simp ;omega)) ?_;refine Walk.store zgl .none rfl rfl rfl rfl rfl rfl (by simp) ((zh3 (k:=3) (by intro x _;rfl) (by first|rfl|simp) rfl)) ?_;refine tv ?_;refine ar ?_;refine xah ((pre++[y],rest)) ⟨(by have hz:=hg1;rw[<-hz];simp),(by simp),sx ⟨⟨_,rfl,xax ?_⟩,trivial⟩ ⟨?_,trivial⟩⟩;focus (first|rfl|(simp;done)|(simp_all;done)|omega)
 focus (first|rfl|(show some (Res.box _)=some (Res.box _);simp;done))
 have hrest:rest=[]:=by
  rcases rest with _|⟨a,b⟩
  ·rfl
  ·exfalso;have hz:=congrArg List.length (hg1);simp only[xaa,xab,xac] at hz;omega
 subst hrest;refine CWp.frz hk 2 3007 _ _ rfl rfl (zga (f:=Ctor.c) (k:=3) hg1 (by simp) (by intro x _;rfl)) rfl ?_;refine CWp.ret ?_;focus (refine rq ?_;all_goals (first|rfl|(simp[h1s,h1p];done)|(simp_all;done)|(simp_all;omega)|omega))
theorem znV {s:Str}{cs:List Ctor} (h:CSmall cs):FnD Tryz.prog 83 [.agg [.d (.str s),.d (zcb cs)]] [] (.agg [.d (.str s),.d (zcb cs)]) []:=by
 refine bd Tryz.f83 12 [] [] fun w0 F0 own kept hk=>?_;refine bx 3001 ?_;refine ab 3002 zjx ?_;refine tv ?_;refine ab 3003 zjx ?_;refine tv ?_;refine so ty9 ?_;refine tv ?_;refine wc zsw (zmL h) rfl rfl ?_;refine ev ?_;refine so zpD ?_;refine tv ?_;refine so zjw ?_;refine tv ?_;focus (refine rn0 (.cons (.cellA zjw rfl rfl rfl) .nil) (.agg (.cons (.eqd ?_) (.cons (.eqd ?_) .nil)));all_goals (first|rfl|(simp[];done)|(simp_all;done)|(simp_all;omega)|omega))
theorem zcK {l:List Data} (hs:WSmall l):FnD Tryz.prog 30 [.d (zao l)] [] (.d (zao l)) []:=by
 have h:=hs.len;refine bd Tryz.f30 23 [] [999999] fun w0 F0 own kept hk=>?_;refine xaZ (id:=3007) sl23 zjx rfl (by decide) (zca rfl) .none rfl rfl rfl (by simp;omega) (by simp;omega) rfl rfl rfl ?_;refine ev ?_;refine xam (ι:=List (Data)×List (Data)) hk (fun x=>[(4,.d (.i (x.1.length:Int)))]) [8,9,10,11,12,13,14,15,16,17,18,19,20,21] (fun x=>[(3007,some (.box ((x.1.flatMap fun x=>(Data.c x).map AV.d)++zaI x.2.length [.d (.str []),.nils])))]) (fun x=>x.1++x.2=l) (fun x=>x.2.length) ([],l) (by simp) ⟨⟨_,rfl,xax ?_⟩,trivial⟩ ⟨?_,trivial⟩ (fun x=>rfl) (fun x hg1=>?_);focus (first|rfl|(simp;done)|(simp_all;done)|omega)
 focus (first|rfl|(show some (Res.box _)=some (Res.box _);simp;done))
 obtain⟨pre,rest⟩:=x;dsimp only at hg1 ⊢;refine evc [] [999999] ?_;refine sq ?_ ?_<;>intro h1 h1p h1s<;>(try simp only[Q] at h1p);rcases rest with _|⟨y,rest⟩
 ·exfalso;simp_all
 refine xaP sl60 .none rfl rfl rfl rfl (zaN hg1) rfl ?_;refine ev ?_;refine wc zuo (znV (hs.cs (d:=y) (by rw[<-hg1];simp))) rfl rfl ?_;refine xaS sl23 .none rfl rfl rfl rfl (by first|omega|(simp ;omega)) ?_;refine Walk.store zjw .none rfl rfl rfl rfl rfl rfl (by simp) ((zh3 (k:=2) (by intro x _;rfl) (by first|rfl|simp) rfl)) ?_;refine tv ?_;refine ar ?_;refine xah ((pre++[y],rest)) ⟨(by have hz:=hg1;rw[<-hz];simp),(by simp),sx ⟨⟨_,rfl,xax ?_⟩,trivial⟩ ⟨?_,trivial⟩⟩;focus (first|rfl|(simp;done)|(simp_all;done)|omega)
 focus (first|rfl|(show some (Res.box _)=some (Res.box _);simp;done))
 have hrest:rest=[]:=by
  rcases rest with _|⟨a,b⟩
  ·rfl
  ·exfalso;have hz:=congrArg List.length (hg1);simp only[xaa,xab,xac] at hz;omega
 subst hrest;refine CWp.frz hk 2 3007 _ _ rfl rfl (zga (f:=Data.c) (k:=2) hg1 (by simp) (by intro x _;rfl)) rfl ?_;refine CWp.ret ?_;focus (refine rq ?_;all_goals (first|rfl|(simp[h1s,h1p];done)|(simp_all;done)|(simp_all;omega)|omega))
theorem znS {s:Str}{cs:List Ctor}{left:Int} (h:s.length<=1000000000000) (hc:CSmall cs) (k0:0<=left) (k1:left<=1000000000000):FnD Tryz.prog 81 [.agg [.d (.str s),.d (zcb cs)],.d (.i left)] [] (.d (.i (szr left (zfz ⟨s,cs⟩)))) []:=by
 have z:=zb2 (left:=left) (zfz ⟨s,cs⟩);have z2:=zb2 (left:=left-s.length) (zgu cs);simp only[zfz] at z z2 ⊢;refine bd Tryz.f81 19 [] [] fun w0 F0 own kept hk=>?_;refine bx 3002 ?_;refine ev ?_;refine ar ?_;refine sq ?_ ?_<;>intro h1 h1p h1s<;>(try simp only[Q] at h1p);refine rq ?_;rotate_left;refine wc zvq (zmJ hc (by omega) (by omega)) rfl rfl ?_;refine ev ?_;refine sq ?_ ?_<;>intro h2 h2p h2s<;>(try simp only[Q] at h2p);refine rq ?_;rotate_left;refine rq ?_;rotate_left;all_goals (refine congrArg D.i ?_;omega)
theorem zhS {l:List Data}{left:Int} (hs:WSmall l) (k0:0<=left) (k1:left<=1000000000000):FnD Tryz.prog 28 [.d (zao l),.d (.i left)] [] (.d (.i (szr left (zeO l)))) []:=by
 have h:=hs.len;have z:=zb2 (left:=left) (zeO l);simp only[zeO] at z ⊢;refine bd Tryz.f28 27 [] [] fun w0 F0 own kept hk=>?_;refine ar ?_;refine sq ?_ ?_<;>intro h1 h1p h1s<;>(try simp only[Q] at h1p);refine rq ?_;rotate_left;refine xam (ι:=List (Data)×List (Data)×(Int)) hk (fun x=>[(5,.d (.i (x.1.length:Int))),(1,.d (.i x.2.2))]) [4,12,13,14,15,16,17,18,19,20,21,22,23,24,25] (fun x=>[]) (fun x=>x.1++x.2.1=l/\x.2.2=left-l.length-(x.1.map zfz).sum/\0<=x.2.2) (fun x=>x.2.1.length) ([],l,left-l.length) ⟨by simp,by simp,by simp at *;omega⟩ ⟨⟨_,rfl,xax ?_⟩,⟨⟨_,rfl,xax ?_⟩,trivial⟩⟩ trivial (fun x=>rfl) (fun x hg1=>?_);iterate 2 focus (first|rfl|(simp;done))
 obtain⟨pre,rest,v⟩:=x;dsimp only at hg1 ⊢;refine evc [] [] ?_;refine sq ?_ ?_<;>intro h2 h2p h2s<;>(try simp only[Q] at h2p);rcases rest with _|⟨y,rest⟩
 ·exfalso;simp_all
 refine xaP sl60 .none rfl rfl rfl rfl (zaN hg1.1) rfl ?_;refine ev ?_;refine wc zwu (znS (hs.data y (by rw[<-hg1.1];simp)).1 (hs.cs (d:=y) (by rw[<-hg1.1];simp)) (by omega) (by omega)) rfl rfl ?_;refine ev ?_;refine sq ?_ ?_<;>intro h3 h3p h3s<;>(try simp only[Q] at h3p);refine rq ?_;rotate_left;refine ar ?_;refine xah ((pre++[y],rest,szr v (zfz y))) ⟨⟨(by have hz:=hg1.1;rw[<-hz];simp),(by have e:=zdE (f:=zfz) hg1.1;have z3:=zb2 (left:=v) (zfz y);simp only[Data.eta] at *;simp;omega)⟩,(by simp),sx ⟨⟨_,rfl,xax ?_⟩,⟨⟨_,rfl,xax ?_⟩,trivial⟩⟩ trivial⟩;iterate 2 focus (first|rfl|(simp;done))
 have hrest:rest=[]:=by
  rcases rest with _|⟨a,b⟩
  ·rfl
  ·exfalso;have hz:=congrArg List.length (hg1.1);simp only[xaa,xab,xac] at hz;omega
 subst hrest;refine rq ?_;rotate_left;all_goals (refine congrArg D.i ?_;first|omega|(have e:=zdE (f:=zfz) hg1.1;have z3:=zb2 (left:=v) (zfz y);simp only[Data.eta] at *;omega)|(rw[List.append_nil] at hg1;rw[hg1.1] at hg1;omega))
theorem znF {α:Type} [Inhabited α]{l m:List α} (h:l.length=m.length) (h2:∀i,i<l.length->nth l i=nth m i):l=m:=by
 refine List.ext_getElem h (fun i h3 h4=>?_);have:=h2 i h3;simpa [nth,List.getD,h3,h4] using this
theorem znQ {a b a' b':Int}:FnD Tryz.prog 358 [.agg [.d (.i a),.d (.i b)],.agg [.d (.i a'),.d (.i b')]] [] (.d (.bool (decide ((⟨a,b⟩:Ty)=⟨a',b'⟩)))) []:=by
 refine bd Tryz.f358 15 [] [] fun w0 F0 own kept hk=>?_;refine bx 3002 ?_;refine bx 3003 ?_;refine ev ?_;refine sq ?_ ?_<;>intro h1 h1p h1s<;>(try simp only[Q] at h1p);focus (refine rq ?_;all_goals (refine congrArg D.bool ?_;simp[h1s,h1p]))
 refine sq ?_ ?_<;>intro h2 h2p h2s<;>(try simp only[Q] at h2p);focus (refine rq ?_;all_goals (refine congrArg D.bool ?_;simp[h1s,h1p,h2s,h2p]))
 focus (refine rq ?_;all_goals (refine congrArg D.bool ?_;simp[h1s,h1p,h2s,h2p]))
theorem zmI {l m:List Ty} (h:l.length<=1000000000000):FnD Tryz.prog 323 [.d (zbw l),.d (zbw m)] [] (.d (.bool (decide (l=m)))) []:=by
 refine bd Tryz.f323 27 [] [] fun w0 F0 own kept hk=>?_;refine sq ?_ ?_<;>intro h1 h1p h1s<;>(try simp only[Q,Int.natCast_inj] at h1p);refine rq ?_;rotate_left;refine xam (ι:=Nat) hk (fun i=>[(5,.d (.i (i:Int)))]) [4,11,12,13,14,15,16,17,18,19,20,21,22,23,24,25,26] (fun i=>[]) (fun i=>i<=l.length/\∀i',i'<i->nth l i'=nth m i') (fun i=>l.length-i) 0 ⟨by omega,fun _ h=>absurd h (by omega)⟩ ⟨⟨_,rfl,xax ?_⟩,trivial⟩ trivial (fun x=>rfl) (fun i hg1=>?_);focus (first|rfl|(simp;done)|(simp_all;done)|omega)
 refine evc [] [] ?_;refine sq ?_ ?_<;>intro h2 h2p h2s<;>(try simp only[Q,Int.natCast_inj] at h2p);refine xaP zaK .none rfl rfl rfl rfl (zaz (by omega)) rfl ?_;refine evd [] [] ?_;refine xaP zaK .none rfl rfl rfl rfl (zaz (by omega)) rfl ?_;refine evd [] [] ?_;refine wc zv5 (znQ) rfl rfl ?_;refine evd [] [] ?_;refine dr ?_;refine sq ?_ ?_<;>intro h3 h3p h3s<;>(try simp only[Q,Int.natCast_inj] at h3p);refine rq ?_;rotate_left;refine ar ?_;refine xah (i+1) ⟨⟨by omega,zaM hg1.2 (by simp only[Ty.eta] at *;assumption)⟩,(by omega),sx ⟨⟨_,rfl,xax ?_⟩,trivial⟩ trivial⟩;focus (first|rfl|(simp;done)|(simp_all;done)|omega)
 refine rq ?_;rotate_left;all_goals (refine congrArg D.bool ?_;first|(refine(decide_eq_false (fun e=>?_)).symm;subst e;omega)|(refine(decide_eq_false (fun e=>?_)).symm;subst e;simp_all;done)|(refine(decide_eq_true (znF (by omega) (fun x hx=>hg1.2 x (by omega)))).symm))
theorem znO {s s':Str}{l l':List Ty}{k k':Int} (h:l.length<=1000000000000):FnD Tryz.prog 259 [.agg [.d (.str s),.d (zbw l),.d (.i k)],.agg [.d (.str s'),.d (zbw l'),.d (.i k')]] [] (.d (.bool (decide ((⟨s,l,k⟩:Ctor)=⟨s',l',k'⟩)))) []:=by
 refine bd Tryz.f259 21 [] [] fun w0 F0 own kept hk=>?_;refine bx 3002 ?_;refine bx 3003 ?_;refine ev ?_;refine sq ?_ ?_<;>intro h1 h1p h1s<;>(try simp only[Q] at h1p);focus (refine rq ?_;all_goals (refine congrArg D.bool ?_;simp[h1s,h1p]))
 refine wc zvX (zmI h) rfl rfl ?_;refine ev ?_;refine sq ?_ ?_<;>intro h2 h2p h2s<;>(try simp only[Q] at h2p);focus (refine rq ?_;all_goals (refine congrArg D.bool ?_;simp[h1s,h1p,h2s,h2p]))
 refine sq ?_ ?_<;>intro h3 h3p h3s<;>(try simp only[Q] at h3p);focus (refine rq ?_;all_goals (refine congrArg D.bool ?_;simp[h1s,h1p,h2s,h2p,h3s,h3p]))
 focus (refine rq ?_;all_goals (refine congrArg D.bool ?_;simp[h1s,h1p,h2s,h2p,h3s,h3p]))
theorem zmG {l m:List Ctor} (hs:CSmall l):FnD Tryz.prog 166 [.d (zcb l),.d (zcb m)] [] (.d (.bool (decide (l=m)))) []:=by
 have h:=hs.len;refine bd Tryz.f166 27 [] [] fun w0 F0 own kept hk=>?_;refine sq ?_ ?_<;>intro h1 h1p h1s<;>(try simp only[Q,Int.natCast_inj] at h1p);refine rq ?_;rotate_left;refine xam (ι:=Nat) hk (fun i=>[(5,.d (.i (i:Int)))]) [4,11,12,13,14,15,16,17,18,19,20,21,22,23,24,25,26] (fun i=>[]) (fun i=>i<=l.length/\∀i',i'<i->nth l i'=nth m i') (fun i=>l.length-i) 0 ⟨by omega,fun _ h=>absurd h (by omega)⟩ ⟨⟨_,rfl,xax ?_⟩,trivial⟩ trivial (fun x=>rfl) (fun i hg1=>?_);focus (first|rfl|(simp;done)|(simp_all;done)|omega)
 refine evc [] [] ?_;refine sq ?_ ?_<;>intro h2 h2p h2s<;>(try simp only[Q,Int.natCast_inj] at h2p);refine xaP zb9 .none rfl rfl rfl rfl (zaz (by omega)) rfl ?_;refine evd [] [] ?_;refine xaP zb9 .none rfl rfl rfl rfl (zaz (by omega)) rfl ?_;refine evd [] [] ?_;refine wc zvH (znO (hs.ctor _ (zai (i:=i) (by omega))).2) rfl rfl ?_;refine evd [] [] ?_;refine dr ?_;refine sq ?_ ?_<;>intro h3 h3p h3s<;>(try simp only[Q,Int.natCast_inj] at h3p);refine rq ?_;rotate_left;refine ar ?_;refine xah (i+1) ⟨⟨by omega,zaM hg1.2 (by simp only[Ctor.eta] at *;assumption)⟩,(by omega),sx ⟨⟨_,rfl,xax ?_⟩,trivial⟩ trivial⟩;focus (first|rfl|(simp;done)|(simp_all;done)|omega)
 refine rq ?_;rotate_left;all_goals (refine congrArg D.bool ?_;first|(refine(decide_eq_false (fun e=>?_)).symm;subst e;omega)|(refine(decide_eq_false (fun e=>?_)).symm;subst e;simp_all;done)|(refine(decide_eq_true (znF (by omega) (fun x hx=>hg1.2 x (by omega)))).symm))
theorem znP {s s':Str}{l l':List Ctor} (h:CSmall l):FnD Tryz.prog 86 [.agg [.d (.str s),.d (zcb l)],.agg [.d (.str s'),.d (zcb l')]] [] (.d (.bool (decide ((⟨s,l⟩:Data)=⟨s',l'⟩)))) []:=by
 refine bd Tryz.f86 16 [] [] fun w0 F0 own kept hk=>?_;refine bx 3002 ?_;refine bx 3003 ?_;refine ev ?_;refine sq ?_ ?_<;>intro h1 h1p h1s<;>(try simp only[Q] at h1p);focus (refine rq ?_;all_goals (refine congrArg D.bool ?_;simp[h1s,h1p]))
 refine wc zvr (zmG h) rfl rfl ?_;refine ev ?_;refine sq ?_ ?_<;>intro h2 h2p h2s<;>(try simp only[Q] at h2p);focus (refine rq ?_;all_goals (refine congrArg D.bool ?_;simp[h1s,h1p,h2s,h2p]))
 focus (refine rq ?_;all_goals (refine congrArg D.bool ?_;simp[h1s,h1p,h2s,h2p]))
theorem zhQ {l m:List Data} (hs:WSmall l):FnD Tryz.prog 34 [.d (zao l),.d (zao m)] [] (.d (.bool (decide (l=m)))) []:=by
 have h:=hs.len;refine bd Tryz.f34 27 [] [] fun w0 F0 own kept hk=>?_;refine sq ?_ ?_<;>intro h1 h1p h1s<;>(try simp only[Q,Int.natCast_inj] at h1p);refine rq ?_;rotate_left;refine xam (ι:=Nat) hk (fun i=>[(5,.d (.i (i:Int)))]) [4,11,12,13,14,15,16,17,18,19,20,21,22,23,24,25,26] (fun i=>[]) (fun i=>i<=l.length/\∀i',i'<i->nth l i'=nth m i') (fun i=>l.length-i) 0 ⟨by omega,fun _ h=>absurd h (by omega)⟩ ⟨⟨_,rfl,xax ?_⟩,trivial⟩ trivial (fun x=>rfl) (fun i hg1=>?_);focus (first|rfl|(simp;done)|(simp_all;done)|omega)
 refine evc [] [] ?_;refine sq ?_ ?_<;>intro h2 h2p h2s<;>(try simp only[Q,Int.natCast_inj] at h2p);refine xaP sl23 .none rfl rfl rfl rfl (zaz (by omega)) rfl ?_;refine evd [] [] ?_;refine xaP sl23 .none rfl rfl rfl rfl (zaz (by omega)) rfl ?_;refine evd [] [] ?_;refine wc zwx (znP (hs.cs (zai (i:=i) (by omega)))) rfl rfl ?_;refine evd [] [] ?_;refine dr ?_;refine sq ?_ ?_<;>intro h3 h3p h3s<;>(try simp only[Q,Int.natCast_inj] at h3p);refine rq ?_;rotate_left;refine ar ?_;refine xah (i+1) ⟨⟨by omega,zaM hg1.2 (by simp only[Data.eta] at *;assumption)⟩,(by omega),sx ⟨⟨_,rfl,xax ?_⟩,trivial⟩ trivial⟩;focus (first|rfl|(simp;done)|(simp_all;done)|omega)
 refine rq ?_;rotate_left;all_goals (refine congrArg D.bool ?_;first|(refine(decide_eq_false (fun e=>?_)).symm;subst e;omega)|(refine(decide_eq_false (fun e=>?_)).symm;subst e;simp_all;done)|(refine(decide_eq_true (znF (by omega) (fun x hx=>hg1.2 x (by omega)))).symm))
end Go.Proofs.YtlfipehhbdjnjaaGreat
