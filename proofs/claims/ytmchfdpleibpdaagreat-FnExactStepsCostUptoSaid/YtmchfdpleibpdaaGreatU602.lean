/-
  THE ABSTRACT WALK AND THE WALKS, part 2 of 5: the parts AmU, AmV, AmW, AmX, AmY, AmZ, Ev, AmFacts, Enc, Mdl, F1, F2, F3, F12, F4, F5, F15, F6, Wv.
-/
import Derived.Test.YtmchfdpleibpdaaGreatU601
namespace Go.Proofs.YtmchfdpleibpdaaGreat
open Go
set_option linter.unusedSimpArgs false
set_option linter.unusedVariables false
section
variable {c:Ctx}
theorem RelA.gv_inv {G:Gh}{T:TokF}{w:World}{id:Nat}{xs:List (List D)}{v:Value} (h:RelA G T w (.gv id xs) v):
  (∃a cap,v = .slice a xs.length cap)/\∀n k,T id=some (n,k)->xs.length<=n/\(n=xs.length->(∀x,x∈xs->x.length=k)/\TipV G w id n k v xs):=by
 cases h with|gv hv ht=>exact⟨hv,ht⟩
theorem zbG {hp:Hp}{id n n' k:Nat} (h:getH hp id=some (.tok n' k)) (e:n'=n):getH hp id=some (.tok n k):=e ▸ h
theorem LeA.gvg {id:Nat}{xs ys:List (List D)} (h:xs=ys):LeA (.gv id xs) (.gv id ys):=h ▸ .refl _
theorem zou {F:Nat->Nat}{w:World}{xs ys:List (List D)}{k:Nat}{us:Array Value} 
  (hx:∀i (hi:i<xs.length) j (hj:j<xs[i].length),RelD F w xs[i][j] (us.getD (i*k+j) undef))
  (hy:∀i (hi:i<ys.length) j (hj:j<ys[i].length),RelD F w ys[i][j] (us.getD ((xs.length+i)*k+j) undef)):
  ∀i (hi:i<(xs++ys).length) j (hj:j<(xs++ys)[i].length),RelD F w (xs++ys)[i][j] (us.getD (i*k+j) undef):=by
 intro i hi j hj;by_cases h:i<xs.length
 ·have e2:(xs++ys)[i]=xs[i]:=List.getElem_append_left h;have:=hx i h j (by rw[<-e2];exact hj);simpa only[e2] using this
 ·have h2:i-xs.length<ys.length:=by simp only[xaa] at hi;omega
  have e2:(xs++ys)[i]=ys[i-xs.length]:=List.getElem_append_right od;have e3:xs.length+(i-xs.length)=i:=by omega
  have:=hy (i-xs.length) h2 j (by rw[<-e2];exact hj);simp only[e3] at this;simpa only[e2] using this
theorem znb {t:TypeId}{G:Gh}{s:St}{a:Act}{w:World} (hr:R c G s a w){id k e yb:Nat}{xs ys:List (List D)}{v u:Value} (ht:SlT c.P t e k yb){z:Value} (hz:∃i,c.P.info? e=some i/\i.zero=some z/\z.cells.size=k)
  (htok:getH s.hp id=some (.tok xs.length k)) (hv:RelA G (tokf s.hp) w (.gv id xs) v) (hu:RelD G.F w (.sl ys) u) (hky:∀y,y∈ys->y.length=k)
  (hb:(xs.length+ys.length)*yb<=140737488355328) (hm:xs.length+ys.length<=9223372036854775807) (opt:TypeId):
  ∃v' w' G',(Builtin.append_ #[t,t] opt #[v,u]).run c.P w = .ok v' w'/\
   R c G' { s with hp:=(id,some (.tok (xs.length+ys.length) k))::s.hp } a w'/\
   RelA G' (tokf ((id,some (.tok (xs.length+ys.length) k))::s.hp)) w' (.gv id (xs++ys)) v':=by
 obtain⟨i,hi1,hi2,hi3⟩:=ht.inf;obtain⟨i',z1,z2,z3⟩:=hz;rw[hi1] at z1;cases z1
 obtain⟨⟨base,cap0,hv0⟩,hcl⟩:=hv.gv_inv;have hT:tokf s.hp id=some (xs.length,k):=zak.2 htok;obtain⟨hkx,htip⟩:=(hcl _ _ hT).2 rfl;have hT':tokf ((id,some (.tok (xs.length+ys.length) k))::s.hp) id=some (xs.length+ys.length,k):=zak.2 (by rw[zad,if_pos rfl]);have hle:∃base cap,v = .slice base xs.length cap/\xs.length<=cap:=by
  rcases htip with ⟨h1,h2,h3⟩|⟨b,cap,cs,et,h1,h2,h3,h4,h5,h6,h7⟩
  ·exact⟨none,0,by rw[h2];exact h3,by omega⟩
  ·exact⟨_,cap,h2,h6⟩
 by_cases hm0:ys=[]
 ·subst hm0;obtain⟨base,cap,rfl,hle⟩:=hle;obtain⟨oa,oc,rfl⟩:∃oa oc,u = .slice oa 0 oc:=by obtain⟨oa,oc,h⟩:=hu.sl_len;exact⟨oa,oc,h⟩
  refine⟨_,w,G,zeI t opt e i ht.und hi1 base xs.length cap hle oa oc,hr.same htok, ?_⟩;show RelA G (tokf ((id,some (.tok xs.length k))::s.hp)) w (.gv id (xs++[])) _
  rw[zgT htok,xaq];exact hv
 obtain⟨oa0,cap0',_,h0,_⟩|⟨b2,off2,cap2,news,rfl,hcap2,hnl,hnc,hn1,hnr⟩:=hu.sl_cells hky
 ·exact absurd h0 hm0
 have hmpos:0<ys.length:=List.length_pos_iff.2 hm0;have hnews:∀j u,news[j]?=some u->w.cell? ((⟨b2,off2,none⟩:Addr).add j)=some u:=fun j u hj=>by rw[zde];exact(hnc j u hj).2
 have hnl':news.length=ys.length*i.size:=by rw[hi2];exact hnl
 have hky':∀e,e∈xs++ys->e.length=k:=fun e he=>by
  rcases List.mem_append.1 he with h|h
  ·exact hkx e h
  ·exact hky e h
 have hlt:∀b o,o<G.F b->b<w.heap.size:=fun b o ho=>by
  rcases Nat.lt_or_ge b w.heap.size with h|h
  ·exact h
  ·rw[hr.top b h] at ho;omega

 have atNew:∀(olds:List Value),olds.length=xs.length*k->∀(tail:List Value) (F':Nat->Nat) (w':World),(∀x v,RelD G.F w x v->RelD F' w' x v)->
   (∀i (hi:i<xs.length) j (hj:j<xs[i].length),RelD G.F w xs[i][j] (olds.getD (i*k+j) undef))->
   ∀i (hi:i<(xs++ys).length) j (hj:j<(xs++ys)[i].length),RelD F' w' (xs++ys)[i][j] ((olds++news++tail).toArray.getD (i*k+j) undef):=by
  intro olds hol tail F' w' hmo hold;refine zou (fun i hi j hj=>?_) (fun i hi j hj=>?_)
  ·have hlt':i*k+j<olds.length:=by
    have h1:xs[i].length=k:=hkx _ (xao hi);have:(i+1)*k<=xs.length*k:=xav _ od;rw[Nat.add_mul] at this;omega
   have e1:(olds++news++tail).toArray.getD (i*k+j) undef=olds.getD (i*k+j) undef:=by
    simp[List.getD,xar,List.getElem?_append_left hlt']
   rw[e1];exact hmo _ _ (hold i hi j hj)
  ·have h1:ys[i].length=k:=hky _ (xao hi);have hlt':i*k+j<news.length:=by
    have:(i+1)*k<=ys.length*k:=xav _ od;rw[Nat.add_mul] at this;omega
   have e0:(xs.length+i)*k+j=olds.length+(i*k+j):=by rw[hol,Nat.add_mul];omega
   have e1:(olds++news++tail).toArray.getD ((xs.length+i)*k+j) undef=news[i*k+j]:=by
    rw[e0];simp[List.getD,xar,List.getElem?_append_right,List.getElem?_append_left hlt',hlt']
   rw[e1];exact hmo _ _ (hnr i hi j hj hlt')
 have fresh:∀(olds:List Value) (nc:Nat),olds.length=xs.length*k->xs.length+ys.length<=nc->
   (∀i (hi:i<xs.length) j (hj:j<xs[i].length),RelD G.F w xs[i][j] (olds.getD (i*k+j) undef))->
   ∃G',R c G' { s with hp:=(id,some (.tok (xs.length+ys.length) k))::s.hp } a (w.drew.alloc (.cells (olds.toArray++news.toArray++Builtin.zeroCells z.cells (nc-(xs.length+ys.length))) e))/\
    RelA G' (tokf ((id,some (.tok (xs.length+ys.length) k))::s.hp)) (w.drew.alloc (.cells (olds.toArray++news.toArray++Builtin.zeroCells z.cells (nc-(xs.length+ys.length))) e))
     (.gv id (xs++ys)) (.slice (some ⟨w.heap.size,0,none⟩) (xs.length+ys.length) nc):=by
  intro olds nc hol hnc' hold;let cells:Array Value:=olds.toArray++news.toArray++Builtin.zeroCells z.cells (nc-(xs.length+ys.length))
  let G':Gh:={ F:=G.F,loc:=fun j=>bif Nat.beq j id then [w.heap.size] else G.loc j }
  have hcs:cells.size=nc*k:=by
   simp only[cells,Array.size_append,List.size_toArray,size_zeroCells,z3,hol,hnl,<-Nat.add_mul];congr 1;omega
  have hcell:∀b o,o<G.F b->o<G'.F b/\(w.drew.alloc (.cells cells e)).cell? ⟨b,o,none⟩=w.cell? ⟨b,o,none⟩:=fun b o ho=>by
   have hb:=hlt b o ho;exact⟨ho,by rw[World.cell?_alloc_lt w.drew _ _ hb];rfl⟩
  have hlocne:∀j,j≠id->G'.loc j=G.loc j:=fun j hj=>by
   have:Nat.beq j id=false:=by
    cases h:Nat.beq j id with
    |true=>exact absurd (xap h) hj
    |false=>rfl
   simp[G',this]
  have hlocid:G'.loc id=[w.heap.size]:=by simp[G']
  refine⟨G',hr.retok (G':=G') htok od hcell hlocne (fun b hb _=>⟨zff (w:=w.drew) hb,rfl⟩) (fun b hb=>by rw[hlocid] at hb;simp at hb;subst hb;simp)
   (fun b hb=>by rw[hlocid] at hb;simp at hb;exact .inr od) rfl rfl rfl og (fun b hb=>?_), ?_⟩
  ·have hb':w.heap.size+1<=b:=by simpa using hb
   exact hr.top b od
  refine .gv ⟨_,_,by rw[xaa]⟩ (fun n' k' hm'=>?_);rw[hT'] at hm';cases hm'
  refine⟨by simp,fun _=>⟨hky',.inr ⟨w.heap.size,nc,cells,e,hlocid,rfl,hr.top _ (Nat.le_refl _),zeW (w:=w.drew),by rw[hcs];exact Nat.le_refl _,hnc', ?_⟩⟩⟩;have:=atNew olds hol (Builtin.zeroCells z.cells (nc-(xs.length+ys.length))).toList G.F (w.drew.alloc (.cells cells e)) (fun x v h=>h.mono hcell) hold;have ec:cells=(olds++news++(Builtin.zeroCells z.cells (nc-(xs.length+ys.length))).toList).toArray:=by
   apply Array.ext';simp[cells]
  intro i hi j hj;rw[ec];exact this i hi j hj
 rcases htip with ⟨h1,h2,h3⟩|⟨b,cap,cs,et,h1,h2,h3,h4,h5,h6,h7⟩
 ·
  have hx0:xs=[]:=List.eq_nil_of_length_eq_zero h2;subst hx0;subst h3;simp only[xak,Nat.zero_add] at hb hm fresh ⊢;have hrun:=run_append_nil (P:=c.P) w t opt e i z ht.und hi1 z2 ⟨b2,off2,none⟩ ys.length cap2 news hnl' hnews hmpos od (by rw[hi3];omega);obtain⟨G',hR,hA⟩:=fresh [] (grownCap w ys.length 0 e) og (by
   have:=grownCap_ge w ys.length 0 e;omega) (fun j hj=>by simp at hj)
  simp only[List.nil_append,Array.empty_append] at hR hA hrun ⊢;exact⟨_,_,G',hrun,hR,hA⟩
 ·subst h2;have hmul:xs.length*k<=cs.size:=Nat.le_trans (xav _ h6) h5;have hold:∀i (hi:i<xs.length) j (hj:j<xs[i].length),RelD G.F w xs[i][j] ((cs.toList.take (xs.length*k)).getD (i*k+j) undef):=fun i hi j hj=>by
   have h8:xs[i].length=k:=hkx _ (xao hi);have hlt':i*k+j<xs.length*k:=by
    have:(i+1)*k<=xs.length*k:=xav _ od;rw[Nat.add_mul] at this;omega
   have:=h7 i hi j hj;have e1:(cs.toList.take (xs.length*k)).getD (i*k+j) undef=cs.getD (i*k+j) undef:=by
    have hs:i*k+j<cs.size:=by omega
    simp[List.getD,List.getElem?_take,hlt',Array.getD,hs]
   rw[e1];exact this
  by_cases hroom:xs.length+ys.length<=cap
  ·
   have hfit:xs.length*i.size+news.length<=cs.size:=by
    rw[hi2,hnl,<-Nat.add_mul];exact Nat.le_trans (xav _ hroom) h5
   have hrun:=zgv (P:=c.P) t opt e i ht.und hi1 b xs.length cap cs et h4 ⟨b2,off2,none⟩ ys.length cap2 news hnl' hnews hn1 hroom hfit;rw[hi2] at hrun hfit;let row:Array Value:=(cs.toList.take (xs.length*k)++news++cs.toList.drop (xs.length*k+news.length)).toArray
   have hrs:row.size=cs.size:=by
    simp only[row,List.size_toArray,xaa,List.length_take,List.length_drop,Array.length_toList];omega
   have hcell:∀b' o,o<G.F b'->o<G.F b'/\(w.setRow b row).cell? ⟨b',o,none⟩=w.cell? ⟨b',o,none⟩:=fun b' o ho=>by
    have hbb:b'≠b:=fun e=>by subst e;omega
    exact⟨ho,cell_setRow_other w b row _ hbb⟩
   have hbs:b<w.heap.size:=by
    rcases Nat.lt_or_ge b w.heap.size with h|h
    ·exact h
    ·rw[Array.getElem?_eq_none h] at h4;cases h4
   refine⟨_,_,G,hrun,hr.retok (G':=G) htok od hcell (fun _ _=>rfl) (fun b' hb' hn=>?_) (fun x hx=>by rw[h1] at hx;simp at hx;subst hx;simpa using hbs) (fun b' hb'=> .inl hb') rfl rfl rfl og (fun b' hb'=>?_), ?_⟩
   ·have hne:b'≠b:=fun e=>hn (by rw[h1,e];simp);exact⟨setRow_other w b b' row hne,rfl⟩
   ·have hb2':w.heap.size<=b':=by simpa using hb'
    exact hr.top b' hb2'
   ·refine .gv ⟨_,_,by rw[xaa]⟩ (fun n' k' hm'=>?_);rw[hT'] at hm';cases hm'
    refine⟨by simp,fun _=>⟨hky',.inr ⟨b,cap,row,et,h1,rfl,h3,setRow_heap w b cs row et _ h4,by rw[hrs];exact h5,hroom, ?_⟩⟩⟩;exact atNew (cs.toList.take (xs.length*k)) ot _ G.F (w.setRow b row) (fun x v h=>h.mono hcell) hold
  ·
   have hrun:=run_append_grow (P:=c.P) w t opt e i z ht.und hi1 z2 ⟨b,0,none⟩ xs.length cap (cs.toList.take (xs.length*k)) (by rw[hi2];simp;omega)
    (fun j u hj=>by
     rw[zde];obtain⟨hj1,hj2⟩:=List.getElem?_eq_some_iff.1 hj;simp only[List.getElem_take] at hj2;have hjs:j<cs.size:=by simp at hj1;omega
     simp only[World.cell?,h4,Option.isSome_none,Bool.false_eq_true,if_false,Nat.zero_add];rw[Array.getElem?_eq_getElem hjs,<-hj2];simp) ⟨b2,off2,none⟩ ys.length cap2 news hnl' hnews od od (by rw[hi3];exact growslice_fits od hb)
   obtain⟨G',hR,hA⟩:=fresh (cs.toList.take (xs.length*k)) (grownCap w (xs.length+ys.length) cap e) ot (by have:=grownCap_ge w (xs.length+ys.length) cap e;omega) hold;exact⟨_,_,G',hrun,hR,hA⟩
theorem R.mkTokV {G:Gh}{s:St}{a:Act}{w:World} (hr:R c G s a w){id:Nat} (k:Nat) (h0:getH s.hp id=none) (hocc:zcb id s):
  ∃G',R c G' { s with hp:=(id,some (.tok 0 k))::s.hp } a w/\RelA G' (tokf ((id,some (.tok 0 k))::s.hp)) w (.gv id []) (.slice none 0 0):=by
 have h1:=hr.rename h0 hocc [];have hl:(fun i=>bif Nat.beq i id then ([]:List Nat) else G.loc i) id=[]:=by simp
 refine⟨_,h1.name h0 hocc (fun b hb=>by simp at hb) (fun i _ b _ hb=>by simp at hb) (fun b hb=>by simp at hb), ?_⟩;refine .gv ⟨none,0,Z⟩ (fun n k' hT=>?_);have:=zak.1 hT;rw[zad,if_pos rfl] at this;cases this
 exact⟨Nat.le_refl _,fun _=>⟨by simp,.inl ⟨hl,rfl,rfl⟩⟩⟩
theorem zdw {xs:List (List D)}{k:Nat} (hk:∀x,x∈xs->x.length=k){i:Nat} (hi:i<xs.length){j:Nat} (hj:j<k):(xs.flatten.map AV.d)[i*k+j]?=some (.d (xs[i][j]'(by rw[hk _ (xao hi)];exact hj))):=by
 have:=znC hk i hi j hj;rw[List.getElem?_map,this,xan (by rw[hk _ (xao hi)];exact hj)];rfl
theorem Rel.fixV {env:Env}{hp:Hp}{ids:List Nat} (hkp:KeptIn c.kept ids) (t id k:Nat){xs:List (List D)} (ht:getE env t=some (.gv id xs)) (hb:getH hp id=some (.tok xs.length k)) (hid:zaJ id ids=false){a:Act}{w:World} (hrel:Rel c ⟨env,hp⟩ a w):
  (xs=[]/\Rel c ⟨(t,.d (.sl []))::env,(id,none)::hp⟩ a w)\/(xs≠[]/\Rel c ⟨(t,.ms id xs.length)::env,(id,some (.box (xs.flatten.map .d)))::hp⟩ a w):=by
 obtain⟨G,hr⟩:=hrel;have hT:tokf hp id=some (xs.length,k):=zak.2 hb;have hsl:=hr.slots t _ ht;obtain⟨⟨ad,cap0,hv0⟩,hcl⟩:=hsl.gv_inv;obtain⟨hkx,htip⟩:=(hcl _ _ hT).2 rfl;have hkne:∀i l,c.kept i=some l->i≠id:=fun i l hk e=>by
  subst e;have:=zav.2 (hkp.mem i l hk);rw[this] at hid;cases hid

 have hm:∀(r:Option Res),(∀n k,r≠some (.tok n k))->∀ {x:AV}{v:Value},RelA G (tokf hp) w x v->(r.isSome->id∉x.ids->True)->RelA G (tokf ((id,r)::hp)) w x v:=by
  intro r hnr x v hx _;refine hx.mono (fun _ _ ho=>⟨ho,Z⟩) (fun _ _=> .inl Z) (fun i _ p hp'=>?_);obtain⟨n,q⟩:=p;have:=zak.1 hp';rw[zad] at this;split at this
  ·exact absurd this (hnr n q)
  ·exact⟨zak.2 this,fun _ _=>⟨rfl,rfl⟩⟩
 have base:∀(r:Option Res) (v:AV),(∀n k,r≠some (.tok n k))->RelA G (tokf ((id,r)::hp)) w v (a.tmps.getD t undef)->(∀x,r=some x->RelR G (tokf ((id,r)::hp)) w id x)->
   Rel c ⟨(t,v)::env,(id,r)::hp⟩ a w:=by
  intro r v hnr hv hrr;have hsome:∀i,(getH ((id,r)::hp) i).isSome->(getH hp i).isSome:=fun i hi=>by
   rw[zad] at hi;split at hi
   ·rename_i e;subst e;rw[hb];rfl
   ·exact hi
  refine⟨G,hr.size,hr.defers,fun i x hi=>?_,fun i x hi=>?_,fun i j q1 q2=>hr.disj i j (hsome i q1) (hsome j q2),fun i q1=>hr.new i (hsome i q1),hr.frm,hr.top,fun i l hk=>?_⟩
  ·simp only[getE] at hi;cases hti:Nat.beq t i with
   |true=>
    have:=xap hti;subst this;simp only[hti,cond_true,xae] at hi;subst hi;exact hv
   |false=>
    simp only[hti,cond_false] at hi;exact hm r hnr (hr.slots i x hi) (fun _ _=>trivial)
  ·have hi':getH ((id,r)::hp) i=some x:=hi;rw[zad] at hi';split at hi'
   ·rename_i e;subst e;exact hrr x hi'
   ·have hh:=hr.heap i x hi';cases x with
    |box cs2=>
     obtain⟨b2,vs2,e2,q1,q2,q3,q4,q5⟩:=hh;exact⟨b2,vs2,e2,q1,q2,q3,q4,fun j hj hv=>hm r hnr (q5 j hj hv) (fun _ _=>trivial)⟩
    |tok m q=>exact hh
    |map ks=>exact hh
    |tree cs2=>exact zaW hh Z (fun _ _=>⟨Z,Z⟩) (Nat.le_refl _) (fun _ _ _ h=>hm r hnr h (fun _ _=>trivial))
  ·have hk':=hr.kept i l hk;have hne:=hkne i l hk;show(G.loc i).head?=l.head?/\(getH ((id,r)::hp) i).isSome/\tokf ((id,r)::hp) i=none
   have hg:getH ((id,r)::hp) i=getH hp i:=by rw[zad,if_neg hne]
   refine⟨hk'.1,by rw[hg];exact hk'.2.1, ?_⟩;have h2:=hk'.2.2;unfold tokf at h2 ⊢;rw[hg];exact h2
 by_cases hx0:xs=[]
 ·refine .inl ⟨hx0,base none _ (fun _ _=>by simp) ?_ (fun x h=>by cases h)⟩;subst hx0;rw[hv0];cases ad with
  |none=>
   rcases htip with ⟨h1,h2,h3⟩|⟨b,cap,cs,et,h1,h2,_⟩
   ·rw[hv0] at h3;rw[h3];exact .d .nil
   ·rw[hv0] at h2;cases h2
  |some ad=>
   obtain⟨b,o,sp⟩:=ad;cases sp with
   |none=>exact .d (.sl [] 0 b o cap0 (fun _=>undef) og og (fun n hn=>by simp at hn) (fun i hi=>by simp at hi))
   |some s=>exact .d (.emp b o s cap0)
 ·rcases htip with ⟨h1,h2,h3⟩|⟨b,cap,cs,et,h1,h2,h3,h4,h5,h6,h7⟩
  ·exact absurd (List.eq_nil_of_length_eq_zero h2) hx0
  ·have hnt:tokf ((id,some (Res.box (xs.flatten.map .d)))::hp) id=none:=by
    unfold tokf;rw[zad,if_pos rfl]
   refine .inr ⟨hx0,base (some (.box (xs.flatten.map .d))) _ (fun _ _=>by simp) ?_ (fun x h=>?_)⟩
   ·have hv1:a.tmps.getD t undef = .slice (some ⟨b,0,none⟩) xs.length cap:=h2;rw[hv1];exact .ms (zej h1) hnt h6
   ·cases h
    refine⟨b,cs,et,h1,h4, ?_,h3,fun i hi hv=>?_⟩
    ·rw[xac,zb1 hkx];exact Nat.le_trans (xav _ h6) h5
    ·have hi':i<xs.length*k:=by rw[xac,zb1 hkx] at hi;exact hi
     have hkpos:0<k:=by
      rcases Nat.eq_zero_or_pos k with h|h
      ·subst h;simp at hi'
      ·exact h
     have hq:i / k<xs.length:=Nat.div_lt_of_lt_mul (by rw[Nat.mul_comm];exact hi');have hrm:i % k<k:=Nat.mod_lt _ hkpos;have e1:=zdw hkx hq hrm;rw[Nat.div_add_mod'] at e1;rw[xan hi] at e1;rw[Option.some.inj e1];have h8:=h7 (i / k) hq (i % k) (by rw[hkx _ (xao hq)];exact hrm);rw[Nat.div_add_mod'] at h8;have e2:cs.getD i undef=cs[i]:=by simp[Array.getD,hv]
     rw[e2] at h8;exact .d h8
theorem CWp.fixV {env:Env}{hp:Hp}{K:Kt}{code:Code}{ids:List Nat} (hkp:KeptIn c.kept ids) (t id k:Nat){xs:List (List D)} (ht:getE env t=some (.gv id xs)) (hb:getH hp id=some (.tok xs.length k)) (hid:zaJ id ids=false)
  (h0:xs=[]->CWp c code ⟨(t,.d (.sl []))::env,(id,none)::hp⟩ K)
  (hn:xs≠[]->CWp c code ⟨(t,.ms id xs.length)::env,(id,some (.box (xs.flatten.map .d)))::hp⟩ K):CWp c code ⟨env,hp⟩ K:=by
 intro a w hrel;rcases Rel.fixV hkp t id k ht hb hid hrel with ⟨h,hr⟩|⟨h,hr⟩
 ·exact h0 h a w hr
 ·exact hn h a w hr
end
section
variable {c:Ctx}{all:Array Oper}{chk:List Rec->Prop}{os:List Oper}{recs:List Rec}{env:Env}{hp:Hp}{Q:St->Prop}
variable {d ty:Nat}{pos:String}{af:Array Edge}{g:Option (Nat×Bool)}{pg:List (Nat×AV)}
variable {t yt:TypeId}{x y:Operand}
theorem xbr {id k e yb:Nat}{xs ys:List (List D)}{vy:AV} (ht:SlT c.P t e k yb) (hz:ZeroT c.P e k) (hg:GH all env g pg) (hd:Nat.blt d c.n=true)
  (hx:opd env x=some (.gv id xs)) (hy:opd env y=some vy) (hyd:vy.toD=some (.sl ys)) (htok:getH hp id=some (.tok xs.length k)) (hky:∀y,y∈ys->y.length=k)
  (hb:(xs.length+ys.length)*yb<=140737488355328) (hm:xs.length+ys.length<=9223372036854775807)
  (hn:Walk c all chk os (zan (pg++(opF x (.gv id xs)++opF y vy)) [(id,.tok xs.length k)] [] ⟨some (d,.gv id (xs++ys)),[(id,some (.tok (xs.length+ys.length) k))]⟩::recs)
   ⟨(d,.gv id (xs++ys))::env,(id,some (.tok (xs.length+ys.length) k))::hp⟩ Q):
  Walk c all chk (⟨some d,.call ⟨.builtin .append,#[x,y],#[t,t]⟩,ty,pos,af,g⟩::os) recs ⟨env,hp⟩ Q:=by
 refine⟨pg++(opF x (.gv id xs)++opF y vy),[(id,.tok xs.length k)],[],_, ?_,zaz hg.facts (zaz (za5 hx) (za5 hy)),hh1 htok,by simp,hn⟩;intro s a w hrel hp' hh _ K Q' hK;obtain⟨G,hr⟩:=hrel;have e1:=hr.opd (za6 hx (fun p hm=>hp' p (by simp[hm])));have e2:=hr.opd (za6 hy (fun p hm=>hp' p (by simp[hm])));obtain⟨i,z,z1,z2,z3⟩:=hz.out;obtain⟨v',w',G',hrun,hR,hA⟩:=znb hr ht ⟨i,z1,z2,z3⟩ (hh1' hh) e1 (e2.toD hyd) hky hb hm ty;unfold wpO;rw[if_pos (hg.gf.wanted hr (fun p hm=>hp' p (by simp[hm])))];unfold Oper.wp;have:(execOp a.eval ⟨some d,.call ⟨.builtin .append,#[x,y],#[t,t]⟩,ty,pos,af,g⟩).run c.P w = .ok (.value v') w':=by
  simp only[execOp,resolve,invoke,builtin,Sem.run_bind,Sem.run_pure,Result.andThen_ok,List.map_toArray,xaf,List.map_nil,hrun]
 rw[this,Oper.upon_value];exact hK _ _ ⟨G',hR.put hA hd⟩
theorem xbK {xs:List (List D)}{at_ e k yb id:Nat} (ht:SlT c.P at_ e k yb) (hg:GH all env g pg) (hd:Nat.blt d c.n=true) (hx:opd env x=some (.gv id xs))
  (hn:Walk c all chk os (zan (pg++opF x (.gv id xs)) [] [] ⟨some (d,.d (.i xs.length)),[]⟩::recs) ⟨(d,.d (.i xs.length))::env,hp⟩ Q):
  Walk c all chk (⟨some d,.call ⟨.builtin .len,#[x],#[at_]⟩,ty,pos,af,g⟩::os) recs ⟨env,hp⟩ Q:=
 xbS hg hd hx (fun a G T w h=>⟨.int .i64 xs.length,by
  obtain⟨⟨ad,cap,he⟩,_⟩:=h.gv_inv;simp[execOp,resolve,invoke,builtin,he,zeJ ht],.d (.int _ _)⟩) hn
theorem Walk.mkRowGV {op:Op}{xs:List Operand}{vs:List AV}{es:List (List D)}{k:Nat} (id:Nat) (hg:GH all env g pg) (hd:Nat.blt d c.n=true) (hx:opdL env xs=some vs) (hk:∀e,e∈es->e.length=k)
  (hf:zaq env hp [id]=true)
  (h:∀(a:Act) (G:Gh) (T:TokF) (w:World),(vs.length=xs.length/\∀i (hi:i<vs.length) (hx:i<xs.length),RelA G T w vs[i] (a.eval xs[i]))->
   ∃us e,(execOp a.eval ⟨some d,op,ty,pos,af,g⟩).run c.P w = .ok (.value (.slice (some ⟨w.heap.size,0,none⟩) es.length es.length)) (w.alloc (.cells us e))/\us.size=es.length*k/\
    ∀i (hi:i<es.length) j (hj:j<es[i].length) (hu:i*k+j<us.size),RelD G.F w es[i][j] us[i*k+j])
  (hn:Walk c all chk os (zan (pg++opFL xs vs) [] [id] ⟨some (d,.gv id es),[(id,some (.tok es.length k))]⟩::recs) ⟨(d,.gv id es)::env,(id,some (.tok es.length k))::hp⟩ Q):
  Walk c all chk (⟨some d,op,ty,pos,af,g⟩::os) recs ⟨env,hp⟩ Q:=by
 refine⟨pg++opFL xs vs,[],[id],_, ?_,zaz hg.facts (zbR hx),by simp,zbk hf,hn⟩;intro s a w hrel hp' hh hcr K Q' hK;obtain⟨G,hr⟩:=hrel;obtain⟨h0,hocc⟩:=hcr id og;obtain⟨us,e,e1,e2,e3⟩:=h a G (tokf s.hp) w (zcr hr (zbS hx (fun p hm=>hp' p (by simp[hm]))));have hr':=(hr.alloc (.cells us e) 0).rename h0 hocc [w.heap.size];have hloc:∀i,i≠id->(bif Nat.beq i id then [w.heap.size] else G.loc i)=G.loc i:=fun i h=>by
  cases hb:Nat.beq i id with
  |true=>exact absurd (xap hb) h
  |false=>rfl
 have hR:=hr'.name (r:= .tok es.length k) h0 hocc (fun b hb=>by simp at hb;subst hb;simp) (fun i hi b hb=>by
  have hi':i≠id:=fun e=>by subst e;rw[h0] at hi;cases hi
  have hb':b∈G.loc i:=by have:=hloc i hi';simp only[this] at hb;exact hb
  obtain⟨r,hrr⟩:=Option.isSome_iff_exists.1 hi;have hlt:b<w.heap.size:=(hr.heap i r hrr).bound b hb';simp;omega) (fun b hb=>by
  simp at hb;subst hb;exact .inr hr.frm.size)
 unfold wpO;rw[if_pos (hg.gf.wanted hr (fun p hm=>hp' p (by simp[hm])))];unfold Oper.wp;rw[e1,Oper.upon_value];refine hK _ _ ⟨_,hR.put (v:= .gv id es) (.gv ⟨_,_,Z⟩ (fun n k' hT=>?_)) hd⟩;have:=zak.1 hT;have h2:getH ((id,some (Res.tok es.length k))::s.hp) id=some (.tok n k'):=this;rw[zad,if_pos rfl] at h2;cases h2
 refine⟨Nat.le_refl _,fun _=>⟨hk,.inr ⟨w.heap.size,es.length,us,e,by simp,rfl,by simp,zeW,by rw[e2];exact Nat.le_refl _,Nat.le_refl _,fun i hi j hj=>?_⟩⟩⟩;have hjk:j<k:=by rw[<-hk _ (xao hi)];exact hj
 have hlt:i*k+j<us.size:=by
  have:(i+1)*k<=es.length*k:=xav _ od;rw[Nat.add_mul] at this;omega
 have h4:=e3 i hi j hj hlt;have h5:us.getD (i*k+j) undef=us[i*k+j]:=by simp[Array.getD,hlt]
 rw[h5];refine h4.mono (fun b o ho=>?_);have hb:b<w.heap.size:=by
  rcases Nat.lt_or_ge b w.heap.size with h|h
  ·exact h
  ·rw[hr.top b h] at ho;omega
 have:Nat.beq b w.heap.size=false:=by
  cases h:Nat.beq b w.heap.size with
  |true=>have:=xap h;omega
  |false=>rfl
 exact⟨by simpa [this] using ho,World.cell?_alloc_lt w _ _ hb⟩
theorem zfR {P:Program}{op:BinOp}{t:TypeId}{x y:Operand}{a:Option Addr}{n c:Nat}{w:World}:(eqGuard op t x y (.slice a n c) (.slice none 0 0)).run P w = .ok () w:=by
 cases op<;>rfl
theorem xbC {e k yb:Nat} (ht:SlT c.P t e k yb) (hg:GH all env g pg) (hd:Nat.blt d c.n=true) (hx:opd env x=some .nils)
  (hn:Walk c all chk os (zan (pg++opF x .nils) [] [] ⟨some (d,.d (.bool true)),[]⟩::recs) ⟨(d,.d (.bool true))::env,hp⟩ Q):
  Walk c all chk (⟨some d,.binOp .eql t x (.const (.slice none 0 0)) yt,ty,pos,af,g⟩::os) recs ⟨env,hp⟩ Q:=
 xbS hg hd hx (fun a G T w h=>⟨.bool true,by
  have hv:a.eval x = .slice none 0 0:=by
   generalize a.eval x=v at *;cases h;rfl
  have hcn:a.eval (.const (.slice none 0 0)) = .slice none 0 0:=rfl;simp only[execOp,hv,hcn];simp only[Sem.run_bind,zfR,Result.andThen_ok,run_eql_slice_nil w t e none 0 0 ht.und,Sem.run_pure,Option.isNone_none],.d (.bool _)⟩) hn
theorem xbB {xs:List (List D)}{e k yb:Nat} (ht:SlT c.P t e k yb) (hg:GH all env g pg) (hd:Nat.blt d c.n=true) (hx:opd env x=some (.sn xs))
  (hn:Walk c all chk os (zan (pg++opF x (.sn xs)) [] [] ⟨some (d,.d (.bool false)),[]⟩::recs) ⟨(d,.d (.bool false))::env,hp⟩ Q):
  Walk c all chk (⟨some d,.binOp .eql t x (.const (.slice none 0 0)) yt,ty,pos,af,g⟩::os) recs ⟨env,hp⟩ Q:=
 xbS hg hd hx (fun a G T w h=>⟨.bool false,by
  obtain⟨ad,n,cp,hv⟩:∃ad n cp,a.eval x = .slice (some ad) n cp:=by
   generalize a.eval x=v at *;cases h with|sn h hn=>exact hn
  have hcn:a.eval (.const (.slice none 0 0)) = .slice none 0 0:=rfl;simp only[execOp,hv,hcn];simp only[Sem.run_bind,zfR,Result.andThen_ok,run_eql_slice_nil w t e (some ad) n cp ht.und,Sem.run_pure,Option.isNone_some],.d (.bool _)⟩) hn
theorem xaH {K:Kt}{code:Code} (i:Nat){xs:List (List D)} (h:getE env i=some (.d (.sl xs)))
  (h1:xs=[]->CWp c code ⟨(i,.nils)::env,hp⟩ K) (h2:CWp c code ⟨(i,.sn xs)::env,hp⟩ K):CWp c code ⟨env,hp⟩ K:=by
 intro a w hrel;obtain⟨G,hr⟩:=hrel;have base:∀v,RelA G (tokf hp) w v (a.tmps.getD i undef)->Rel c ⟨(i,v)::env,hp⟩ a w:=fun v hv=>
  ⟨G,hr.size,hr.defers,fun j x hj=>by
   simp only[getE] at hj;cases hti:Nat.beq i j with
   |true=>
    have:=xap hti;subst this;simp only[hti,cond_true,xae] at hj;subst hj;exact hv
   |false=>
    simp only[hti,cond_false] at hj;exact hr.slots j x hj,hr.heap,hr.disj,hr.new,hr.frm,hr.top,hr.kept⟩
 have hd:=(hr.slots i _ h).d_inv;generalize hv:a.tmps.getD i undef=v at hd base;cases hd with
 |nil=>exact h1 Z a w (base _ .nils)
 |emp b off s cap=>exact h2 a w (base _ (.sn (.emp b off s cap) ⟨_,_,_,Z⟩))
 |sl _ k b off cap cf hk hcap hc hr=>exact h2 a w (base _ (.sn (.sl _ k b off cap cf hk hcap hc hr) ⟨_,_,_,Z⟩))
theorem xbY {t:TypeId}{e k yb:Nat} (id:Nat) (ht:SlT c.P t e k yb) (hg:GH all env g pg) (hd:Nat.blt d c.n=true) (hfr:zaq env hp [id]=true)
  (hn:Walk c all chk os (zan (pg++opFL [] []) [] [id] ⟨some (d,.gv id []),[(id,some (.tok 0 k))]⟩::recs) ⟨(d,.gv id [])::env,(id,some (.tok 0 k))::hp⟩ Q):
  Walk c all chk (⟨some d,.buildSlice t 0 #[],ty,pos,af,g⟩::os) recs ⟨env,hp⟩ Q:=by
 refine Walk.mkRowGV (xs:=[]) (vs:=[]) (es:=[]) (k:=k) id hg hd Z og hfr (fun a G T w h=>?_) hn;obtain⟨ie,hi1,hi2,hi3⟩:=ht.inf;refine⟨#[],e, ?_,by simp,fun i hi=>by simp at hi⟩;simp[execOp,Instr.buildSlice,run_underlying ht.und,sizeOf,zeM hi1,Instr.fill,newRow,Array.range_zero']
end
def Res.avs:Res->List AV
 | .box cs=>cs
 | .tree cs=>cs
 |_=>[]
theorem Res.avs_ids {r:Res}{x:AV} (hx:x∈r.avs):∀id,id∈x.ids->id∈r.ids:=by
 intro id hid;cases r with
 |box cs=>exact xay hx hid
 |tree cs=>exact xay hx hid
 |_=>simp[Res.avs] at hx
structure Turn (c:Ctx) (G:Gh) (s:St) (w:World) (G':Gh) (hp':Hp) (L:List Nat):Prop where
 get:∀i,i∉L->getH hp' i=getH s.hp i
 loc:∀i,i∉L->G'.loc i=G.loc i
 fro:∀b,(∀j,j∈L->(getH s.hp j).isSome->b∉G.loc j)->G'.F b=G.F b
 fle:∀b o,o<G.F b->o<G'.F b
 ftop:∀b,w.heap.size<=b->G'.F b=0
 occ:∀i,i∈L->zcb i s\/(LocEq (tokf hp') G' G i/\∀p,tokf hp' i=some p->tokf s.hp i=some p/\∀b,b∈G.loc i->G'.F b=G.F b)
 blk:∀i,i∈L->(getH hp' i).isSome->∀b,b∈G'.loc i->∃j,j∈L/\(getH s.hp j).isSome/\b∈G.loc j
 dis:∀i,i∈L->∀j,j∈L->i≠j->(getH hp' i).isSome->(getH hp' j).isSome->∀b,b∈G'.loc i->b∉G'.loc j
 keep:∀i,i∈L->∀l,c.kept i=some l->(G'.loc i).head?=l.head?/\(getH hp' i).isSome/\tokf hp' i=none
section
variable {c:Ctx}{G G':Gh}{s:St}{a:Act}{w:World}{hp':Hp}{L:List Nat}
theorem Turn.away (h:Turn c G s w G' hp' L) (hr:R c G s a w){i:Nat} (hi:i∉L) (hs:(getH s.hp i).isSome):∀b,b∈G.loc i->G'.F b=G.F b:=
 fun b hb=>h.fro b (fun j hj hjs hbj=>hr.disj i j hs hjs (fun e=>hi (e ▸ hj)) b hb hbj)
theorem Turn.rel (h:Turn c G s w G' hp' L) (hr:R c G s a w){x:AV}{v:Value} (hx:∀i,i∈L->zcb i s->i∉x.ids) (hR:RelA G (tokf s.hp) w x v):RelA G' (tokf hp') w x v:=by
 refine hR.mono (fun b o ho=>⟨h.fle b o ho,Z⟩) (fun i hi=>?_) (fun i hi p hp=>?_)
 ·by_cases hL:i∈L
  ·rcases h.occ i hL with ho|ho
   ·exact absurd hi (hx i hL ho)
   ·exact ho.1
  ·exact .inl (h.loc i hL)
 ·by_cases hL:i∈L
  ·rcases h.occ i hL with ho|ho
   ·exact absurd hi (hx i hL ho)
   ·obtain⟨h1,h2⟩:=ho.2 p hp;exact⟨h1,fun b hb=>⟨rfl,h2 b hb⟩⟩
  ·have hT:tokf s.hp i=some p:=by unfold tokf at hp ⊢;rw[h.get i hL] at hp;exact hp
   refine⟨hT,fun b hb=>⟨rfl,h.away hr hL ?_ b hb⟩⟩;obtain⟨n,k⟩:=p;rw[zak.1 hT];rfl
theorem Turn.slot (h:Turn c G s w G' hp' L) (hr:R c G s a w){t:Nat}{x:AV}{v:Value} (ht:getE s.env t=some x) (hR:RelA G (tokf s.hp) w x v):RelA G' (tokf hp') w x v:=
 h.rel hr (fun i _ ho hx=>ho.1 t x ht hx) hR
theorem Turn.cell (h:Turn c G s w G' hp' L) (hr:R c G s a w){j:Nat}{r:Res}{x:AV}{v:Value} (hj:getH s.hp j=some r) (hx:x∈r.avs) (hR:RelA G (tokf s.hp) w x v):RelA G' (tokf hp') w x v:=
 h.rel hr (fun i _ ho hi=>ho.2 j r hj (Res.avs_ids hx i hi)) hR
theorem Turn.fin (h:Turn c G s w G' hp' L) (hr:R c G s a w) (hL:∀i,i∈L->∀r,getH hp' i=some r->RelR G' (tokf hp') w i r):R c G' ⟨s.env,hp'⟩ a w:=by
 have hsome:∀i,i∉L->(getH hp' i).isSome->(getH s.hp i).isSome:=fun i hi hs=>by rw[h.get i hi] at hs;exact hs
 let own1:List Nat:=L.flatMap fun j=>if (getH s.hp j).isSome then G.loc j else []
 have hown:∀b,b∈own1↔∃j,j∈L/\(getH s.hp j).isSome/\b∈G.loc j:=fun b=>by
  simp only[own1,List.mem_flatMap];constructor
  ·rintro ⟨j,hj,hb⟩
   by_cases hs:(getH s.hp j).isSome
   ·rw[if_pos hs] at hb;exact⟨j,hj,hs,hb⟩
   ·rw[if_neg hs] at hb;simp at hb
  ·rintro ⟨j,hj,hs,hb⟩
   exact⟨j,hj,by rw[if_pos hs];exact hb⟩
 refine⟨hr.size,hr.defers,fun i v hi=>h.slot hr hi (hr.slots i v hi),fun i r hi=>?_,fun i j h1 h2 hne b hb=>?_,fun i h1 b hb=>?_,
  hr.frm.trans (own1:=own1) ⟨rfl,rfl,rfl,Nat.le_refl _,fun b _ hb=>⟨rfl,h.fro b (fun j hj hs hbj=>hb ((hown b).2 ⟨j,hj,hs,hbj⟩))⟩,fun b o ho=>⟨h.fle b o ho,rfl⟩⟩ (fun b hb=>?_),h.ftop,fun i l hl=>?_⟩
 ·by_cases hi':i∈L
  ·exact hL i hi' r hi
  ·have hg:getH s.hp i=some r:=by have:=h.get i hi';rw[<-this];exact hi
   have hh:=hr.heap i r hg;have hs:(getH s.hp i).isSome:=by rw[hg];rfl
   have hl:=h.loc i hi';have ha:=h.away hr hi' hs;cases r with
   |box cs=>
    obtain⟨b,vs,e,h1,h2,h3,h4,h5⟩:=hh;exact⟨b,vs,e,hl.trans h1,h2,h3,(ha b (by simp[h1])).trans h4,fun j hj hv=>h.cell hr hg (xao hj) (h5 j hj hv)⟩
   |tok n k=>exact fun b hb=>hh b (by rw[hl] at hb;exact hb)
   |map ks=>
    obtain⟨b,es,cl,h1,h2,h3,h4⟩:=hh;exact⟨b,es,cl,hl.trans h1,h2,(ha b (by simp[h1])).trans h3,h4⟩
   |tree cs=>exact zaW hh hl (fun b hb=>⟨Z,ha b hb⟩) (Nat.le_refl _) (fun x hx v=>h.cell hr hg hx)
 ·have key:∀i j,i∈L->j∉L->(getH hp' i).isSome->(getH hp' j).isSome->∀b,b∈G'.loc i->b∉G'.loc j:=fun i j hi hj h1 h2 b hb hbj=>by
   obtain⟨i2,h3,h4,h5⟩:=h.blk i hi h1 b hb;rw[h.loc j hj] at hbj;exact hr.disj i2 j h4 (hsome j hj h2) (fun e=>hj (e ▸ h3)) b h5 hbj
  by_cases hi:i∈L<;>by_cases hj:j∈L
  ·exact h.dis i hi j hj hne h1 h2 b hb
  ·exact key i j hi hj h1 h2 b hb
  ·exact fun hbj=>key j i hj hi h2 h1 b hbj hb
  ·rw[h.loc i hi] at hb;rw[h.loc j hj];exact hr.disj i j (hsome i hi h1) (hsome j hj h2) hne b hb
 ·by_cases hi:i∈L
  ·obtain⟨j,h3,h4,h5⟩:=h.blk i hi h1 b hb;exact hr.new j h4 b h5
  ·rw[h.loc i hi] at hb;exact hr.new i (hsome i hi h1) b hb
 ·obtain⟨j,h3,h4,h5⟩:=(hown b).1 hb;exact hr.new j h4 b h5
 ·by_cases hi:i∈L
  ·exact h.keep i hi l hl
  ·have hk:=hr.kept i l hl;refine⟨by rw[h.loc i hi];exact hk.1,by rw[h.get i hi];exact hk.2.1, ?_⟩;have:=hk.2.2;unfold tokf at this ⊢;rw[h.get i hi];exact this
theorem R.slot (hr:R c G s a w){t:Nat}{x:AV} (h:RelA G (tokf s.hp) w x (a.tmps.getD t undef)):R c G ⟨(t,x)::s.env,s.hp⟩ a w:=by
 refine⟨hr.size,hr.defers,fun i v hi=>?_,hr.heap,hr.disj,hr.new,hr.frm,hr.top,hr.kept⟩;simp only[getE] at hi;cases hb:Nat.beq t i with
 |true=>
  have:=xap hb;subst this;simp only[hb,cond_true,xae] at hi;subst hi;exact h
 |false=>
  simp only[hb,cond_false] at hi;exact hr.slots i v hi
end
def ownD (m:Bool):D->AV
 | .int k n=> .d (.int k n)
 | .bool b=> .d (.bool b)
 | .str s=> .d (.str s)
 |x=> .own m x
def zaK (m:Bool) (xs:List (List D)):List AV:=xs.flatten.map (ownD m)
theorem zro (m:Bool) (x:D):(ownD m x).ids=[]:=by cases x<;>rfl
theorem zaj (m:Bool) (xs:List (List D)):AV.idsL (zaK m xs)=[]:=by
 unfold zaK;generalize xs.flatten=l;induction l with
 |nil=>rfl
 |cons x l ih=>simp[AV.idsL,zro,ih]
theorem zcW {m:Bool}{xs:List (List D)}{k:Nat} (hk:∀x,x∈xs->x.length=k):(zaK m xs).length=xs.length*k:=by
 unfold zaK;rw[xac,zb1 hk]
theorem ziV (m:Bool):zaK m []=[]:=rfl
theorem zk8 (m:Bool) (a b:List (List D)):zaK m (a++b)=zaK m a++zaK m b:=by simp[zaK]
theorem zg6 {m:Bool}{xs:List (List D)}{k i j:Nat} (hk:∀x,x∈xs->x.length=k) (hi:i<xs.length) (hj:j<xs[i].length):
  (zaK m xs)[i*k+j]?=some (ownD m xs[i][j]):=by
 have hjk:j<k:=by rw[<-hk _ (xao hi)];exact hj
 have:=zdw (xs:=xs) hk hi hjk;simp only[zaK,List.getElem?_map] at this ⊢;revert this
 cases xs.flatten[i*k+j]? with
 |none=>simp
 |some y=>intro h;simp only[Option.map_some,xae,AV.d.injEq] at h;simp[h]
theorem CellR.ofTree {G:Gh}{T:TokF}{m:Bool}{w:World}{x:D}{v:Value}{S:List Nat} (h:TreeD m w x v S):CellR G T w (ownD m x) v S:=by
 cases h with
 |int k n=>exact⟨rfl,.d (.int _ _)⟩
 |bool b=>exact⟨rfl,.d (.bool _)⟩
 |str s=>exact⟨rfl,.d (.str _)⟩
 |nil=>exact TreeD.nil
 |emp b off s cap hm=>exact TreeD.emp b off s cap hm
 |em0 b off cap hm=>exact TreeD.em0 b off cap hm
 |sl xs k b cap cs e Ss hk hcap hb hc hr hz=>exact TreeD.sl xs k b cap cs e Ss hk hcap hb hc hr hz
def zfj:D->Bool
 | .int _ _=>true
 | .bool _=>true
 | .str _=>true
 | .sl []=>true
 |_=>false
theorem TreeD.ofFlat {m:Bool}{F:Nat->Nat}{w:World}{x:D}{v:Value} (hf:zfj x=true) (hm:m=false\/x≠ .sl []) (h:RelD F w x v):TreeD m w x v []:=by
 cases h with
 |int k n=>exact .int _ _
 |bool b=>exact .bool _
 |str s=>exact .str _
 |nil=>exact .nil
 |emp b off s cap=>exact .emp b off s cap (hm.resolve_right (fun h=>h Z))
 |sl xs k b off cap c hk hcap hc hr=>
  cases xs with
  |nil=>exact .em0 b off cap (hm.resolve_right (fun h=>h Z))
  |cons x r=>simp[zfj] at hf
 |ptr cs b o off c hc hr=>simp[zfj] at hf
 |nilp=>simp[zfj] at hf
theorem xa8 {m:Bool}{w:World}{x:D}{v:Value}{S:List Nat} (h:TreeD m w x v S):TreeD false w x v S:=by
 induction h with
 |int k n=>exact .int _ _
 |bool b=>exact .bool _
 |str s=>exact .str _
 |nil=>exact .nil
 |emp b off s cap _=>exact .emp b off s cap Z
 |em0 b off cap _=>exact .em0 b off cap Z
 |sl xs k b cap cs e Ss hk hcap hb hc hr hz ih=>
  refine .sl xs k b cap cs e Ss hk hcap hb ?_ ih (fun h=>by cases h);refine Nat.le_trans (xav _ ?_) hc;cases m
  ·exact Nat.le_refl _
  ·exact hcap
def TreeOf (m:Bool) (w:World) (xs:List (List D)) (k:Nat) (vs:Array Value) (Ss:Nat->List Nat):Prop:=
 ∀i (hi:i<xs.length) j (hj:j<xs[i].length),TreeD m w xs[i][j] (vs.getD (i*k+j) undef) (Ss (i*k+j))
theorem zqj {i n k:Nat} (h:i<n*k):i / k<n/\i % k<k/\i / k*k+i % k=i:=by
 have hk:0<k:=by
  rcases Nat.eq_zero_or_pos k with h0|h0
  ·subst h0;simp at h
  ·exact h0
 exact⟨Nat.div_lt_of_lt_mul (by rw[Nat.mul_comm];exact h),Nat.mod_lt _ hk,Nat.div_add_mod' _ _⟩
theorem zlK {vs:Array Value}{i:Nat} (h:i<vs.size):vs.getD i undef=vs[i]:=by simp[Array.getD,h]
theorem TreeOf.cells {G:Gh}{T:TokF}{m:Bool}{w:World}{xs:List (List D)}{k:Nat}{vs:Array Value}{Ss:Nat->List Nat} (h:TreeOf m w xs k vs Ss) (hk:∀x,x∈xs->x.length=k):
  ∀i (hi:i<(zaK m xs).length) (hv:i<vs.size),CellR G T w (zaK m xs)[i] vs[i] (Ss i):=by
 intro i hi hv;rw[zcW hk] at hi;obtain⟨h1,h2,h3⟩:=zqj hi;have hj:i % k<xs[i / k].length:=by rw[hk _ (xao h1)];exact h2
 have h4:=h (i / k) h1 (i % k) hj;have h5:=zg6 (m:=m) hk h1 hj;rw[h3] at h4 h5;rw[xan (by rw[zcW hk];exact hi)] at h5;rw[zlK hv] at h4;rw[Option.some.inj h5];exact .ofTree h4
theorem zdV {Ss Ss':Nat->List Nat}:∀ {l:List Nat},(l.flatMap Ss).Nodup->(∀i,i∈l->(Ss' i).Sublist (Ss i))->((l.flatMap Ss').Sublist (l.flatMap Ss))
 | [],_,_=> .slnil
 |x::l,h,hs=>by
  simp only[List.flatMap_cons] at h ⊢;exact(hs x og).append (zdV (List.nodup_append.1 h).2.1 (fun i hi=>hs i (by simp[hi])))
theorem zh5 {Ss:Nat->List Nat}:∀ {l:List Nat} (hl:l.Nodup),(l.flatMap Ss).Nodup->∀i j,i∈l->j∈l->i≠j->∀b,b∈Ss i->b∉Ss j
 | [],_,_,i,j,hi,_,_=>by simp at hi
 |x::l,hl,h,i,j,hi,hj,hne=>by
  simp only[List.flatMap_cons,List.nodup_append,List.mem_flatMap] at h;obtain⟨h1,h2,h3⟩:=h;intro b hb hbj;rcases List.mem_cons.1 hi with e1|e1
  ·rcases List.mem_cons.1 hj with e2|e2
   ·exact hne (e1.trans e2.symm)
   ·exact h3 b (e1 ▸ hb) b ⟨j,e2,hbj⟩ Z
  ·rcases List.mem_cons.1 hj with e2|e2
   ·exact h3 b (e2 ▸ hbj) b ⟨i,e1,hb⟩ Z
   ·exact zh5 (List.nodup_cons.1 hl).2 h2 i j e1 e2 hne b hb hbj
theorem zk5 {Ss:Nat->List Nat}:∀ {l:List Nat},(l.flatMap Ss).Nodup->∀i,i∈l->(Ss i).Nodup
 |x::l,h,i,hi=>by
  simp only[List.flatMap_cons,List.nodup_append] at h;rcases List.mem_cons.1 hi with rfl|hi
  ·exact h.1
  ·exact zk5 h.2.1 i hi
theorem zfQ {Ss:Nat->List Nat}{S:List Nat}{off:Nat}:∀ {l:List Nat},l.Nodup->(l.flatMap Ss).Nodup->S.Nodup->(∀b,b∈S->∀i,i∈l->i≠off->b∉Ss i)->
  (l.flatMap fun i=>if i=off then S else Ss i).Nodup
 | [],_,_,_,_=>by simp
 |x::l,hl,h,hS,hd=>by
  simp only[List.flatMap_cons,List.nodup_append,List.mem_flatMap] at h ⊢;obtain⟨h1,h2,h3⟩:=h;have hl':=List.nodup_cons.1 hl;refine⟨?_,zfQ hl'.2 h2 hS (fun b hb i hi=>hd b hb i (by simp[hi])),fun b hb b' hb'=>?_⟩
  ·split
   ·exact hS
   ·exact h1
  ·rintro rfl
   obtain⟨j,hj,hbj⟩:=hb';have hxj:x≠j:=fun e=>hl'.1 (e ▸ hj);by_cases hx:x=off
   ·rw[if_pos hx] at hb;rw[if_neg (fun e=>hxj (hx.trans e.symm))] at hbj;exact hd b hb j (by simp[hj]) (fun e=>hxj (hx.trans e.symm)) hbj
   ·rw[if_neg hx] at hb;by_cases hjo:j=off
    ·rw[if_pos hjo] at hbj;exact hd b hbj x og hx hb
    ·rw[if_neg hjo] at hbj;exact h3 b hb b ⟨j,hj,hbj⟩ Z
section
variable {c:Ctx}{env:Env}{hp:Hp}{K:Kt}{code:Code}{ids:List Nat}
theorem zcp {i j:Nat} (h:i≠j):Nat.beq i j=false:=by
 cases hb:Nat.beq i j with
 |true=>exact absurd (xap hb) h
 |false=>rfl
theorem R.split {G:Gh}{a:Act}{w:World} (hr:R c G ⟨env,hp⟩ a w){id off id':Nat}{m:Bool}{xs:List (List D)}{cs cs':List AV} (hb:getH hp id=some (.tree cs)) (hc:cs[off]?=some (.own m (.sl xs))) (hx:xs≠[])
  (hf:zaq env hp [id']=true) (hput:putC cs off [.ms id' xs.length]=some cs'):∃G',R c G' ⟨env,(id',some (.tree (zaK m xs)))::(id,some (.tree cs'))::hp⟩ a w:=by
 obtain⟨h0,hocc⟩:=zbk hf id' og;obtain⟨b,vs,e,Ss,hT⟩:=hr.heap id _ hb;obtain⟨hoff,hcv⟩:=List.getElem?_eq_some_iff.1 hc;have hov:off<vs.size:=by have:=hT.len;omega
 have hcell:=hT.cell off hoff hov;rw[hcv] at hcell;have hne:id≠id':=fun e=>by subst e;have h0':getH hp id=none:=h0;rw[h0'] at hb;cases hb
 obtain⟨p1,p2,p3⟩:=zb9 hput;have hTD:TreeD m w (.sl xs) vs[off] (Ss off):=hcell;generalize hv:vs[off]=v at hTD;generalize hSo:Ss off=So at hTD;cases hTD with
 |nil=>exact absurd Z hx
 |emp _ _ _ _ _=>exact absurd Z hx
 |em0 _ _ _ _=>exact absurd Z hx
 |sl _ k b1 cap cs1 e1 Ss1 hk hcap hb1 hc1 hr1 hz1=>
  let Ss':Nat->List Nat:=fun i=>if i=off then [] else Ss i
  let G':Gh:={ G with loc:=fun i=>bif Nat.beq i id' then Ss off else bif Nat.beq i id then b::(List.range cs'.length).flatMap Ss' else G.loc i }
  have l1:G'.loc id'=Ss off:=by simp[G']
  have l2:G'.loc id=b::(List.range cs'.length).flatMap Ss':=by simp[G',zcp hne]
  have l3:∀i,i≠id'->i≠id->G'.loc i=G.loc i:=fun i h1 h2=>by simp[G',zcp h1,zcp h2]
  have hnd:=hT.nodup;rw[hT.loc] at hnd;have hnd':=List.nodup_cons.1 hnd;have hsubS:∀x,x∈Ss off->x∈G.loc id:=fun x hx=>by
   rw[hT.loc];exact List.mem_cons_of_mem _ (List.mem_flatMap.2 ⟨off,List.mem_range.2 hoff,hx⟩)
  have hsubl:((List.range cs'.length).flatMap Ss').Sublist ((List.range cs.length).flatMap Ss):=by
   rw[p1];refine zdV hnd'.2 (fun i hi=>?_);simp only[Ss'];split
   ·exact List.nil_sublist _
   ·exact List.Sublist.refl _
  have hsub2:∀x,x∈G'.loc id->x∈G.loc id:=fun x hx=>by
   rw[l2] at hx;rw[hT.loc];rcases List.mem_cons.1 hx with h|h
   ·simp[h]
   ·exact List.mem_cons_of_mem _ (hsubl.subset h)
  have g1:getH ((id',some (Res.tree (zaK m xs)))::(id,some (.tree cs'))::hp) id'=some (.tree (zaK m xs)):=by rw[zad,if_pos rfl]
  have g2:getH ((id',some (Res.tree (zaK m xs)))::(id,some (.tree cs'))::hp) id=some (.tree cs'):=by rw[zad,if_neg hne,zad,if_pos rfl]
  have hturn:Turn c G ⟨env,hp⟩ w G' ((id',some (.tree (zaK m xs)))::(id,some (.tree cs'))::hp) [id,id']:=by
   refine⟨fun i hi=>?_,fun i hi=>?_,fun _ _=>rfl,fun _ _ h=>h,hr.top,fun i hi=>?_,fun i hi hs x hx=>?_,fun i hi j hj hij _ _ x hx=>?_,fun i hi l hl=>?_⟩
   ·simp only[List.mem_cons,xau,or_false,not_or] at hi;rw[zad,if_neg hi.2,zad,if_neg hi.1]
   ·simp only[List.mem_cons,xau,or_false,not_or] at hi;exact l3 i hi.2 hi.1
   ·simp only[List.mem_cons,xau,or_false] at hi;rcases hi with rfl|rfl
    ·right
     have ht:tokf ((id',some (Res.tree (zaK m xs)))::(i,some (.tree cs'))::hp) i=none:=by unfold tokf;rw[g2]
     refine⟨.inr ⟨ht,by rw[l2,hT.loc];rfl⟩,fun p hp=>by rw[ht] at hp;cases hp⟩
    ·exact .inl hocc
   ·simp only[List.mem_cons,xau,or_false] at hi;have hs':(getH hp id).isSome:=by rw[hb];rfl
    rcases hi with rfl|rfl
    ·exact⟨i,by simp,hs',hsub2 x hx⟩
    ·rw[l1] at hx;exact⟨id,by simp,hs',hsubS x hx⟩
   ·simp only[List.mem_cons,xau,or_false] at hi hj;have key:∀x,x∈Ss off->x∉G'.loc id:=by
     intro x hx hx2;rw[l2] at hx2;rcases List.mem_cons.1 hx2 with h|h
     ·exact hnd'.1 (List.mem_flatMap.2 ⟨off,List.mem_range.2 hoff,h ▸ hx⟩)
     ·obtain⟨j,hj,hxj⟩:=List.mem_flatMap.1 h;simp only[Ss'] at hxj;split at hxj
      ·simp at hxj
      ·rename_i hjo;exact zh5 List.nodup_range hnd'.2 off j (List.mem_range.2 hoff) (by rw[p1] at hj;exact hj) (Ne.symm hjo) x hx hxj
    rcases hi with rfl|rfl<;>rcases hj with rfl|rfl
    ·exact absurd Z hij
    ·rw[l1];exact fun h=>key x h hx
    ·rw[l1] at hx;exact key x hx
    ·exact absurd Z hij
   ·simp only[List.mem_cons,xau,or_false] at hi;have hk0:=hr.kept i l hl;rcases hi with rfl|rfl
    ·refine⟨?_,by rw[g2];rfl,by unfold tokf;rw[g2]⟩;rw[l2,<-hk0.1,hT.loc];rfl
    ·have h0':getH hp i=none:=h0;have:=hk0.2.1;rw[show(⟨env,hp⟩:St).hp=hp from rfl,h0'] at this;cases this
  refine⟨G',hturn.fin hr (fun i hi r hri=>?_)⟩;simp only[List.mem_cons,xau,or_false] at hi;rcases hi with rfl|rfl
  ·rw[g2] at hri;cases hri
   refine⟨b,vs,e,Ss',l2,hT.at_,by rw[p1];exact hT.len, ?_,fun x hx=>hT.mine x (hsub2 x hx),fun j hj hjv=>?_⟩
   ·rw[l2];exact List.nodup_cons.2 ⟨fun h=>hnd'.1 (hsubl.subset h),hsubl.nodup hnd'.2⟩
   ·have h3:=p3 j;rw[xan hj] at h3;by_cases hjo:j=off
    ·subst hjo;rw[if_pos og] at h3;simp only[Nat.sub_self,List.getElem?_cons_zero,xae] at h3;rw[h3,hv];refine⟨by simp[Ss'],.ms (b:=b1) ?_ ?_ hcap⟩
     ·rw[l1,hSo];rfl
     ·unfold tokf;rw[g1]
    ·rw[if_neg (by simp only[xab,xak];omega)] at h3;have hjc:j<cs.length:=by omega
     rw[xan hjc] at h3;rw[Option.some.inj h3];have h4:=hT.cell j hjc hjv;have h5:Ss' j=Ss j:=by simp[Ss',hjo]
     rw[h5];exact h4.map (hturn.cell hr hb (xao hjc)) (fun _ _=>rfl)
  ·rw[g1] at hri;cases hri
   have hlen:(zaK m xs).length=xs.length*k:=zcW hk;have hle:xs.length*k<=cs1.size:=by
    refine Nat.le_trans (xav _ ?_) hc1;cases m
    ·exact Nat.le_refl _
    ·exact hcap
   refine⟨b1,cs1,e1,Ss1,by rw[l1,hSo,hlen],hb1,by rw[hlen];exact hle, ?_,fun x hx=>?_,TreeOf.cells hr1 hk⟩
   ·rw[l1];exact zk5 hnd'.2 off (List.mem_range.2 hoff)
   ·rw[l1] at hx;exact hT.mine x (hsubS x hx)
theorem CWp.split (id off id':Nat){m:Bool}{xs:List (List D)}{cs cs':List AV} (hb:getH hp id=some (.tree cs)) (hc:cs[off]?=some (.own m (.sl xs))) (hx:xs≠[])
  (hf:zaq env hp [id']=true) (hput:putC cs off [.ms id' xs.length]=some cs')
  (hn:CWp c code ⟨env,(id',some (.tree (zaK m xs)))::(id,some (.tree cs'))::hp⟩ K):CWp c code ⟨env,hp⟩ K:=by
 rintro a w ⟨G,hr⟩
 obtain⟨G',h⟩:=hr.split hb hc hx hf hput;exact hn a w ⟨G',h⟩
theorem R.merge {G:Gh}{a:Act}{w:World} (hr:R c G ⟨env,hp⟩ a w) (hkp:KeptIn c.kept ids){id off id' k n:Nat}{m:Bool}{xs:List (List D)}{cs cs':List AV} (hb:getH hp id=some (.tree cs)) (hc:cs[off]?=some (.ms id' n)) (hn:n=xs.length)
  (hb':getH hp id'=some (.tree (zaK m xs))) (hk:∀x,x∈xs->x.length=k) (hne:Nat.beq id id'=false) (hid:zaJ id' ids=false) (hput:putC cs off [.own false (.sl xs)]=some cs'):
  ∃G',R c G' ⟨env,(id',none)::(id,some (.tree cs'))::hp⟩ a w:=by
 subst hn;have hne:id≠id':=fun e=>by subst e;simp at hne
 obtain⟨b,vs,e,Ss,hT⟩:=hr.heap id _ hb;obtain⟨b1,cs1,e1,Ss1,hT1⟩:=hr.heap id' _ hb';obtain⟨hoff,hcv⟩:=List.getElem?_eq_some_iff.1 hc;have hov:off<vs.size:=by have:=hT.len;omega
 have hcell:=hT.cell off hoff hov;rw[hcv] at hcell;obtain⟨hS0,hms⟩:=hcell;obtain⟨b2,cap,hl2,he2,hcap⟩:=hms.ms_eq;obtain rfl:b1=b2:=by have:=hl2.1;rw[hT1.loc] at this;exact Option.some.inj this
 obtain⟨p1,p2,p3⟩:=zb9 hput;have hlen1:(zaK m xs).length=xs.length*k:=zcW hk;have hTr:TreeD false w (.sl xs) vs[off] (G.loc id'):=by
  rw[he2,hT1.loc,hlen1];refine .sl xs k b1 cap cs1 e1 Ss1 hk hcap hT1.at_ (by have:=hT1.len;rw[hlen1] at this;exact this) (fun i hi j hj=>?_) (fun h=>by cases h);have hjk:j<k:=by rw[<-hk _ (xao hi)];exact hj
  have hlt:i*k+j<(zaK m xs).length:=by rw[hlen1];exact zeX hi hjk
  have hlv:i*k+j<cs1.size:=Nat.lt_of_lt_of_le hlt hT1.len;have h1:=hT1.cell (i*k+j) hlt hlv;have h2:=zg6 (m:=m) hk hi hj;rw[xan hlt] at h2;rw[Option.some.inj h2] at h1;rw[zlK hlv];generalize xs[i][j]=y at h1;cases y with
  |sl ys=>exact xa8 h1
  |int kd q=>obtain⟨g1,g2⟩:=h1;rw[g1];exact .ofFlat Z (.inl Z) g2.d_inv
  |bool q=>obtain⟨g1,g2⟩:=h1;rw[g1];exact .ofFlat Z (.inl Z) g2.d_inv
  |str q=>obtain⟨g1,g2⟩:=h1;rw[g1];exact .ofFlat Z (.inl Z) g2.d_inv
  |ptr q r=>exact xa8 h1
  |nilp=>exact xa8 h1
 let Ss':Nat->List Nat:=fun i=>if i=off then G.loc id' else Ss i
 let G':Gh:={ G with loc:=fun i=>bif Nat.beq i id then b::(List.range cs'.length).flatMap Ss' else G.loc i }
 have l1:G'.loc id=b::(List.range cs'.length).flatMap Ss':=by simp[G']
 have l3:∀i,i≠id->G'.loc i=G.loc i:=fun i h2=>by simp[G',zcp h2]
 have hnd:=hT.nodup;rw[hT.loc] at hnd;have hnd':=List.nodup_cons.1 hnd;have s1:(getH hp id).isSome:=by rw[hb];rfl
 have s2:(getH hp id').isSome:=by rw[hb'];rfl
 have hapart:∀x,x∈G.loc id->x∉G.loc id':=hr.disj id id' s1 s2 hne;have hmem:∀x,x∈G'.loc id->x∈G.loc id\/x∈G.loc id':=fun x hx=>by
  rw[l1] at hx;rcases List.mem_cons.1 hx with h|h
  ·left;rw[hT.loc,h];simp
  ·obtain⟨j,hj,hxj⟩:=List.mem_flatMap.1 h;simp only[Ss'] at hxj;split at hxj
   ·exact .inr hxj
   ·left
    rw[hT.loc];rw[p1] at hj;exact List.mem_cons_of_mem _ (List.mem_flatMap.2 ⟨j,hj,hxj⟩)
 have g1:getH ((id',none)::(id,some (Res.tree cs'))::hp) id'=none:=by rw[zad,if_pos rfl]
 have g2:getH ((id',none)::(id,some (Res.tree cs'))::hp) id=some (.tree cs'):=by rw[zad,if_neg hne,zad,if_pos rfl]
 have t1:tokf ((id',none)::(id,some (Res.tree cs'))::hp) id'=none:=by unfold tokf;rw[g1]
 have t2:tokf ((id',none)::(id,some (Res.tree cs'))::hp) id=none:=by unfold tokf;rw[g2]
 have hturn:Turn c G ⟨env,hp⟩ w G' ((id',none)::(id,some (.tree cs'))::hp) [id,id']:=by
  refine⟨fun i hi=>?_,fun i hi=>?_,fun _ _=>rfl,fun _ _ h=>h,hr.top,fun i hi=>?_,fun i hi hs x hx=>?_,fun i hi j hj hij h1 h2 x hx=>?_,fun i hi l hl=>?_⟩
  ·simp only[List.mem_cons,xau,or_false,not_or] at hi;rw[zad,if_neg hi.2,zad,if_neg hi.1]
  ·simp only[List.mem_cons,xau,or_false,not_or] at hi;exact l3 i hi.1
  ·simp only[List.mem_cons,xau,or_false] at hi;right
   rcases hi with rfl|rfl
   ·exact⟨.inr ⟨t2,by rw[l1,hT.loc];rfl⟩,fun p hp=>by rw[t2] at hp;cases hp⟩
   ·exact⟨.inl (l3 i (Ne.symm hne)),fun p hp=>by rw[t1] at hp;cases hp⟩
  ·simp only[List.mem_cons,xau,or_false] at hi;rcases hi with rfl|rfl
   ·rcases hmem x hx with h|h
    ·exact⟨i,by simp,s1,h⟩
    ·exact⟨id',by simp,s2,h⟩
   ·rw[g1] at hs;cases hs
  ·simp only[List.mem_cons,xau,or_false] at hi hj;rcases hi with rfl|rfl
   ·rcases hj with rfl|rfl
    ·exact absurd Z hij
    ·rw[g1] at h2;cases h2
   ·rw[g1] at h1;cases h1
  ·simp only[List.mem_cons,xau,or_false] at hi;have hk0:=hr.kept i l hl;rcases hi with rfl|rfl
   ·refine⟨?_,by rw[g2];rfl,t2⟩;rw[l1,<-hk0.1,hT.loc];rfl
   ·have:=zav.2 (hkp.mem i l hl);rw[this] at hid;cases hid
 refine⟨G',hturn.fin hr (fun i hi r hri=>?_)⟩;simp only[List.mem_cons,xau,or_false] at hi;rcases hi with rfl|rfl
 ·rw[g2] at hri;cases hri
  refine⟨b,vs,e,Ss',l1,hT.at_,by rw[p1];exact hT.len, ?_,fun x hx=>?_,fun j hj hjv=>?_⟩
  ·rw[l1,List.nodup_cons];constructor
   ·intro h;obtain⟨j,hj,hxj⟩:=List.mem_flatMap.1 h;rw[p1] at hj;simp only[Ss'] at hxj;split at hxj
    ·exact hapart b (by rw[hT.loc];simp) hxj
    ·exact hnd'.1 (List.mem_flatMap.2 ⟨j,hj,hxj⟩)
   ·rw[p1];refine zfQ List.nodup_range hnd'.2 hT1.nodup (fun x hx j hj _ hxj=>?_);exact hapart x (by rw[hT.loc];exact List.mem_cons_of_mem _ (List.mem_flatMap.2 ⟨j,hj,hxj⟩)) hx
  ·rcases hmem x hx with h|h
   ·exact hT.mine x h
   ·exact hT1.mine x h
  ·have h3:=p3 j;rw[xan hj] at h3;by_cases hjo:j=off
   ·subst hjo;rw[if_pos og] at h3;simp only[Nat.sub_self,List.getElem?_cons_zero,xae] at h3;rw[h3];have h5:Ss' j=G.loc id':=by simp[Ss']
    rw[h5];exact hTr
   ·rw[if_neg (by simp only[xab,xak];omega)] at h3;have hjc:j<cs.length:=by omega
    rw[xan hjc] at h3;rw[Option.some.inj h3];have h4:=hT.cell j hjc hjv;have h5:Ss' j=Ss j:=by simp[Ss',hjo]
    rw[h5];exact h4.map (hturn.cell hr hb (xao hjc)) (fun _ _=>rfl)
 ·rw[g1] at hri;cases hri
theorem CWp.merge (hkp:KeptIn c.kept ids) (id off id' k n:Nat){m:Bool}{xs:List (List D)}{cs cs':List AV} (hb:getH hp id=some (.tree cs)) (hc:cs[off]?=some (.ms id' n)) (hn:n=xs.length)
  (hb':getH hp id'=some (.tree (zaK m xs))) (hk:∀x,x∈xs->x.length=k) (hne:Nat.beq id id'=false) (hid:zaJ id' ids=false) (hput:putC cs off [.own false (.sl xs)]=some cs')
  (hnx:CWp c code ⟨env,(id',none)::(id,some (.tree cs'))::hp⟩ K):CWp c code ⟨env,hp⟩ K:=by
 rintro a w ⟨G,hr⟩
 obtain⟨G',h⟩:=hr.merge hkp hb hc hn hb' hk hne hid hput;exact hnx a w ⟨G',h⟩
def upC (m:Bool):AV->AV
 | .d (.sl [])=> .own m (.sl [])
 | .nils=> .own m (.sl [])
 |x=>x
theorem R.boxTree {G:Gh}{a:Act}{w:World} (hr:R c G ⟨env,hp⟩ a w){id:Nat}{cs:List AV} (m:Bool) (hm:m=false) (hb:getH hp id=some (.box cs)):R c G ⟨env,(id,some (.tree (cs.map (upC m))))::hp⟩ a w:=by
 obtain⟨b,vs,e,h1,h2,h3,h4,h5⟩:=hr.heap id _ hb;have g2:getH ((id,some (Res.tree (cs.map (upC m))))::hp) id=some (.tree (cs.map (upC m))):=by rw[zad,if_pos rfl]
 have t2:tokf ((id,some (Res.tree (cs.map (upC m))))::hp) id=none:=by unfold tokf;rw[g2]
 have s1:(getH hp id).isSome:=by rw[hb];rfl
 have hbd:=(hr.heap id _ hb).bound;have hturn:Turn c G ⟨env,hp⟩ w G ((id,some (.tree (cs.map (upC m))))::hp) [id]:=by
  refine⟨fun i hi=>?_,fun i hi=>rfl,fun _ _=>rfl,fun _ _ h=>h,hr.top,fun i hi=> .inr ⟨.inl rfl, ?_⟩,fun i hi hs x hx=>?_,fun i hi j hj hij=>?_,fun i hi l hl=>?_⟩<;>
   simp only[List.mem_cons,xau,or_false] at hi
  ·rw[zad,if_neg hi]
  ·subst hi;intro p hp;rw[t2] at hp;cases hp
  ·subst hi;exact⟨i,by simp,s1,hx⟩
  ·simp only[List.mem_cons,xau,or_false] at hj;exact absurd (hi.trans hj.symm) hij
  ·subst hi;exact⟨(hr.kept i l hl).1,by rw[g2];rfl,t2⟩
 refine hturn.fin hr (fun i hi r hri=>?_);simp only[List.mem_cons,xau,or_false] at hi;subst hi;rw[g2] at hri;cases hri
 refine⟨b,vs,e,fun _=>[], ?_,h2,by simpa using h3,by rw[h1];simp,fun x hx=>⟨?_,hbd x hx⟩,fun j hj hjv=>?_⟩
 ·rw[h1];simp
 ·rw[h1] at hx;simp at hx;subst hx;exact h4
 ·simp only[xac] at hj;have h6:=h5 j hj hjv;simp only[List.getElem_map];have h7:RelA G (tokf ((i,some (Res.tree (cs.map (upC m))))::hp)) w cs[j] vs[j]:=hturn.cell hr hb (xao hj) h6;generalize cs[j]=x at h7;generalize vs[j]=v at h7;cases h7 with
  |d h=>
   rename_i y;by_cases hy:y = .sl []
   ·subst hy;exact TreeD.ofFlat Z (.inl hm) h
   ·have:upC m (.d y) = .d y:=by
     unfold upC;split
     ·rename_i he;cases he;exact absurd Z hy
     ·rename_i he;cases he
     ·rfl
    rw[this];exact⟨rfl,.d h⟩
  |nils=>exact TreeD.nil
  |gl h ht=>exact⟨rfl,.gl h ht⟩
  |gv h ht=>exact⟨rfl,.gv h ht⟩
  |gt h ht=>exact⟨rfl,.gt h ht⟩
  |ref h hT=>exact⟨rfl,.ref h hT⟩
  |ms h hT hc=>exact⟨rfl,.ms h hT hc⟩
  |mo h hT hc ho=>exact⟨rfl,.mo h hT hc ho⟩
  |mc h hT hc=>exact⟨rfl,.mc h hT hc⟩
  |gaD hv hT=>exact⟨rfl,.gaD hv hT⟩
  |gaL hj hT hl hF hb hck hn hcs hr=>exact⟨rfl,.gaL hj hT hl hF hb hck hn hcs hr⟩
  |mapr h hT=>exact⟨rfl,.mapr h hT⟩
  |fn hn h=>exact⟨rfl,.fn hn h⟩
  |agg hn h=>exact⟨rfl,.agg hn h⟩
  |tup hn h=>exact⟨rfl,.tup hn h⟩
  |sn h hn=>exact⟨rfl,.sn h hn⟩
  |any v=>exact⟨rfl,.any v⟩
theorem CWp.boxTree (id:Nat){cs cs':List AV} (m:Bool) (hm:m=false) (hb:getH hp id=some (.box cs)) (hu:cs.map (upC m)=cs') (hn:CWp c code ⟨env,(id,some (.tree cs'))::hp⟩ K):CWp c code ⟨env,hp⟩ K:=by
 subst hu;rintro a w ⟨G,hr⟩
 exact hn a w ⟨G,hr.boxTree m hm hb⟩
end
section
variable {c:Ctx}{all:Array Oper}{chk:List Rec->Prop}{os:List Oper}{recs:List Rec}{env:Env}{hp:Hp}{Q:St->Prop}
variable {d ty:Nat}{pos:String}{af:Array Edge}{g:Option (Nat×Bool)}{pg:List (Nat×AV)}
variable {t k id off:Nat}{x y:Operand}
theorem TreeR.head {G:Gh}{T:TokF}{w:World}{id:Nat}{cs:List AV}{b b':Nat}{vs:Array Value}{e:TypeId}{Ss:Nat->List Nat} (h:TreeR G T w id cs b vs e Ss) (h2:(G.loc id).head?=some b'):b'=b:=by
 rw[h.loc] at h2;exact(Option.some.inj h2).symm
end
section
variable {c:Ctx}
theorem R.setTree {G:Gh}{s:St}{a:Act}{w:World} (hr:R c G s a w){id b:Nat}{cs cs':List AV}{vs vs':Array Value}{e:TypeId}{Ss Ss':Nat->List Nat} (hb:getH s.hp id=some (.tree cs))
  (hT:TreeR G (tokf s.hp) w id cs b vs e Ss) (hlen:cs'.length=cs.length) (hsz:vs'.size=vs.size) (hsub:∀i,i<cs.length->(Ss' i).Sublist (Ss i))
  (hcell:∀i (hi:i<cs'.length) (hv:i<vs'.size),CellR G (tokf s.hp) w cs'[i] vs'[i] (Ss' i)):
  ∃G',R c G' ⟨s.env,(id,some (.tree cs'))::s.hp⟩ a (w.setRow b vs')/\G'.F=G.F:=by
 have htok:tokf ((id,some (.tree cs'))::s.hp)=tokf s.hp:=by
  funext i
  unfold tokf;rw[zad];by_cases h:i=id
  ·subst h;rw[if_pos rfl,hb]
  ·rw[if_neg h]
 have hTn:tokf s.hp id=none:=by unfold tokf;rw[hb]
 have hother:∀k,k≠b->(w.setRow b vs').heap[k]?=w.heap[k]?:=fun k hk=>setRow_other w b k vs' hk;have hbl:b∈G.loc id:=by rw[hT.loc];simp
 have hF:=(hT.mine b hbl).1;have hnd:=hT.nodup;rw[hT.loc] at hnd;have hnd':=List.nodup_cons.1 hnd;let G':Gh:={ G with loc:=fun i=>bif Nat.beq i id then b::(List.range cs'.length).flatMap Ss' else G.loc i }
 have l1:G'.loc id=b::(List.range cs'.length).flatMap Ss':=by simp[G']
 have l3:∀i,i≠id->G'.loc i=G.loc i:=fun i h2=>by simp[G',zcp h2]
 have hsubl:((List.range cs'.length).flatMap Ss').Sublist ((List.range cs.length).flatMap Ss):=by
  rw[hlen];exact zdV hnd'.2 (fun i hi=>hsub i (by simpa using hi))
 have hsub2:∀x,x∈G'.loc id->x∈G.loc id:=fun x hx=>by
  rw[l1] at hx;rw[hT.loc];rcases List.mem_cons.1 hx with h|h
  ·simp[h]
  ·exact List.mem_cons_of_mem _ (hsubl.subset h)
 have hsub3:∀i x,x∈G'.loc i->x∈G.loc i:=fun i x hx=>by
  by_cases hi:i=id
  ·subst hi;exact hsub2 x hx
  ·rw[l3 i hi] at hx;exact hx
 have hcl:∀b' o,o<G.F b'->o<G.F b'/\(w.setRow b vs').cell? ⟨b',o,none⟩=w.cell? ⟨b',o,none⟩:=fun b' o ho=>by
  have hne:b'≠b:=fun e=>by subst e;rw[hF] at ho;omega
  exact⟨ho,cell_setRow_other w b vs' _ hne⟩
 have hs0:(getH s.hp id).isSome:=by rw[hb];rfl
 have hne:∀i,(getH s.hp i).isSome->i≠id->∀b',b'∈G.loc i->b'≠b:=fun i hi hne b' hb' e=>by
  subst e;exact hr.disj i id hi hs0 hne b' hb' hbl
 have hm:∀ {x:AV}{v:Value},RelA G (tokf s.hp) w x v->RelA G' (tokf s.hp) (w.setRow b vs') x v:=fun hx=>
  hx.mono hcl (fun i _=>by
   by_cases hi:i=id
   ·subst hi;exact .inr ⟨hTn,by rw[l1,hT.loc];rfl⟩
   ·exact .inl (l3 i hi)) (fun i _ p hp=>⟨hp,fun b' hb'=>⟨hother b' (hne i ?_ ?_ b' hb'),rfl⟩⟩)
 ·have hget:∀i,(getH ((id,some (Res.tree cs'))::s.hp) i).isSome->(getH s.hp i).isSome:=fun i h=>by
   rw[zad] at h;split at h
   ·rename_i e;subst e;exact hs0
   ·exact h
  have hbnew:=hr.new id hs0 b hbl;refine⟨G',⟨hr.size,hr.defers,fun i v h=>by rw[htok];exact hm (hr.slots i v h),fun i r h=>?_,fun i j h1 h2 h3 x hx hx2=>hr.disj i j (hget i h1) (hget j h2) h3 x (hsub3 i x hx) (hsub3 j x hx2),
   fun i h x hx=>hr.new i (hget i h) x (hsub3 i x hx),
   hr.frm.trans (own1:=[b]) ⟨rfl,rfl,rfl,by simp,fun k _ hk=>⟨hother k (fun e=>hk (by simp[e])),rfl⟩,hcl⟩ (fun k hk=>by simp only[List.mem_singleton] at hk;subst hk;exact hbnew),
   fun k hk=>hr.top k (by simpa using hk),fun i l hl'=>?_⟩,rfl⟩
  ·rw[htok];have h':getH ((id,some (Res.tree cs'))::s.hp) i=some r:=h;rw[zad] at h';by_cases hi:i=id
   ·subst hi;rw[if_pos rfl] at h';cases h'
    refine⟨b,vs',e,Ss',l1,setRow_heap w b vs vs' e _ hT.at_,by rw[hlen,hsz];exact hT.len, ?_,fun x hx=>?_,fun j hj hv=>(hcell j hj hv).map hm (fun x hx=>hother x (fun e=>?_))⟩
    ·rw[l1];exact List.nodup_cons.2 ⟨fun h=>hnd'.1 (hsubl.subset h),hsubl.nodup hnd'.2⟩
    ·have:=hT.mine x (hsub2 x hx);exact⟨this.1,by simpa using this.2⟩
    ·subst e;exact hnd'.1 (List.mem_flatMap.2 ⟨j,List.mem_range.2 od,(hsub j od).subset hx⟩)
   ·rw[if_neg hi] at h';have hh:=hr.heap i r h';have hs:(getH s.hp i).isSome:=by rw[h'];rfl
    have hne':=hne i hs hi;have hl:=l3 i hi;cases r with
    |box cs2=>
     obtain⟨b2,vs2,e2,h1,h2,h3,h4,h5⟩:=hh;exact⟨b2,vs2,e2,hl.trans h1,(hother b2 (hne' b2 (by simp[h1]))).trans h2,h3,h4,fun j hj hv=>hm (h5 j hj hv)⟩
    |tok n k=>exact fun b2 h1=>by rw[hl] at h1;simpa using hh b2 h1
    |map ks=>
     obtain⟨b2,es,cl,h1,h2,h3⟩:=hh;exact⟨b2,es,cl,hl.trans h1,(hother b2 (hne' b2 (by simp[h1]))).trans h2,h3⟩
    |tree cs2=>exact zaW hh hl (fun b' hb'=>⟨hother b' (hne' b' hb'),Z⟩) og (fun _ _ _=>hm)
  ·have hk:=hr.kept i l hl';show(G'.loc i).head?=l.head?/\(getH ((id,some (Res.tree cs'))::s.hp) i).isSome/\tokf ((id,some (Res.tree cs'))::s.hp) i=none
   refine⟨?_, ?_,by rw[htok];exact hk.2.2⟩
   ·by_cases hi:i=id
    ·subst hi;rw[l1,<-hk.1,hT.loc];rfl
    ·rw[l3 i hi];exact hk.1
   ·rw[zad];split
    ·rfl
    ·exact hk.2.1
 ·obtain⟨n,q⟩:=p;rw[zak.1 hp];rfl
 ·rintro rfl
  rw[hTn] at hp;cases hp
end
section
variable {c:Ctx}{all:Array Oper}{chk:List Rec->Prop}{os:List Oper}{recs:List Rec}{env:Env}{hp:Hp}{Q:St->Prop}
variable {d ty:Nat}{pos:String}{af:Array Edge}{g:Option (Nat×Bool)}{pg:List (Nat×AV)}
variable {t yt:TypeId}{x y:Operand}
theorem Walk.storeT {id off k:Nat}{b:Bool}{v:AV}{cs vs cs':List AV} (ht:TyS c.P t k b) (hg:GH all env g pg) (hx:opd env x=some (.ref id off)) (hy:opd env y=some v)
  (hb:getH hp id=some (.tree cs)) (hv:zbq v=some vs) (hk:vs.length=k) (h1:zhb vs=true) (hne:vs≠[]) (hput:putC cs off vs=some cs')
  (hn:Walk c all chk os (zan (pg++(opF x (.ref id off)++opF y v)) [(id,.tree cs)] [] ⟨none,[(id,some (.tree cs'))]⟩::recs) ⟨env,(id,some (.tree cs'))::hp⟩ Q):
  Walk c all chk (⟨none,.store t x y,ty,pos,af,g⟩::os) recs ⟨env,hp⟩ Q:=by
 refine⟨pg++(opF x (.ref id off)++opF y v),[(id,.tree cs)],[],_, ?_,zaz hg.facts (zaz (za5 hx) (za5 hy)),hh1 hb,by simp,hn⟩;intro s a w hrel hp' hh _ K Q' hK;obtain⟨G,hr⟩:=hrel;have hbx:=hh1' hh;have e1:=hr.opd (za6 hx (fun p hm=>hp' p (by simp[hm])));have e2:=hr.opd (za6 hy (fun p hm=>hp' p (by simp[hm])));obtain⟨bl,hl,he⟩:=e1.ref_eq;obtain⟨b',us,e,Ss,hT⟩:=hr.heap id _ hbx;obtain rfl:=hT.head hl.1;have hvr:=zfU e2 hv;obtain⟨p1,p2,p3⟩:=zb9 hput;have p2':=p2.resolve_left hne;have hsz:=hvr.size;have h4:=hT.len;let vl:=(a.eval y).cells.toList
 have hvl:vl.length=vs.length:=by simp[vl,hsz]
 have hst:=run_storeCells_at c.P bl off e vl 0 us w hT.at_ od (fun u hu=>by
  obtain⟨i,hi,rfl⟩:=List.getElem_of_mem hu;have hi':i<vs.length:=by omega
  have:=hvr.rel i hi' (by simpa [vl] using hi);simpa [vl] using this.one (zhs h1 _ (xao hi')))
 simp only[Nat.add_zero] at hst;let row:Array Value:=(us.toList.take off++vl++us.toList.drop (off+vl.length)).toArray
 have hrs:row.size=us.size:=by
  simp only[row,List.size_toArray,xaa,List.length_take,List.length_drop,Array.length_toList];omega
 have hrow:∀i,row[i]?=if off<=i/\i<off+vl.length then vl[i-off]? else us[i]?:=fun i=>by
  simp only[row,List.getElem?_toArray];rw[xar,List.getElem?_append];simp only[List.length_take,Array.length_toList];by_cases hi:i<off
  ·rw[if_pos od,if_neg od];simp[hi]
  ·rw[if_neg od,List.getElem?_append];have hm:min off us.size=off:=by omega
   rw[hm];by_cases hi2:i<off+vl.length
   ·rw[if_pos od,if_pos od]
   ·rw[if_neg od,if_neg od];rw[List.getElem?_drop,show off+vl.length+(i-off-vl.length)=i by omega];simp
 let Ss':Nat->List Nat:=fun i=>if off<=i/\i<off+vs.length then [] else Ss i
 obtain⟨G',hR,_⟩:=hr.setTree (cs':=cs') (vs':=row) (Ss':=Ss') hbx hT p1 hrs (fun i hi=>by
  simp only[Ss'];split
  ·exact List.nil_sublist _
  ·exact List.Sublist.refl _) (fun i hi hvi=>by
  have q1:=p3 i;have q2:=hrow i;rw[xan hi] at q1;rw[Array.getElem?_eq_getElem hvi,hvl] at q2;by_cases hc:off<=i/\i<off+vs.length
  ·rw[if_pos hc] at q1 q2;have hlt:i-off<vs.length:=by omega
   have hlt':i-off<(a.eval y).cells.size:=by omega
   rw[xan hlt] at q1;have q3:vl[i-off]?=some (a.eval y).cells[i-off]:=by simp[vl,hlt']
   rw[q3] at q2;have h5:Ss' i=[]:=by simp[Ss',hc]
   rw[h5,Option.some.inj q1,Option.some.inj q2];have h6:=hvr.rel (i-off) hlt hlt';revert h6
   generalize vs[i-off]=z;intro h6;cases z with
   |own m y=>cases h6
   |_=>exact⟨rfl,h6⟩
  ·rw[if_neg hc] at q1 q2;have hlt:i<cs.length:=by omega
   have hlt':i<us.size:=by omega
   rw[xan hlt] at q1;rw[Array.getElem?_eq_getElem hlt'] at q2;have h5:Ss' i=Ss i:=by simp only[Ss'];rw[if_neg hc]
   rw[h5,Option.some.inj q1,Option.some.inj q2];exact hT.cell i hlt hlt')
 unfold wpO;rw[if_pos (hg.gf.wanted hr (fun p hm=>hp' p (by simp[hm])))];unfold Oper.wp;have hrun:(execOp a.eval ⟨none,.store t x y,ty,pos,af,g⟩).run c.P w = .ok .skip (w.setRow bl row):=by
  have hsz2:(a.eval y).cells.size=k:=by omega
  simp only[execOp,he,Instr.storeAt,Instr.sureAddr,Sem.run_bind,Sem.run_pure,Result.andThen_ok,storeVar,ht.run_size];simp only[hsz2,ne_eq,not_true_eq_false,if_false];have hst':=hst;simp only[vl] at hst';simp only[Result.andThen_ok,hst',row,vl]
 rw[hrun,Oper.upon_skip];exact hK _ _ ⟨G',hR.putNone⟩
end
def zcP:AV->Bool
 | .d x=>zfj x
 | .nils=>true
 | .ref _ _=>true
 | .ms _ _=>true
 | .gt _ _=>true
 | .tup vs=>flatL vs
 | .agg vs=>flatL vs
 | .any=>true
 |_=>false
where flatL:List AV->Bool
 | []=>true
 |x::r=>zcP x&&flatL r
theorem zj1:∀ {l:List AV},zcP.flatL l=true->∀i (hi:i<l.length),zcP l[i]=true
 |x::r,h,i,hi=>by
  simp only[zcP.flatL,xad] at h;cases i with
  |zero=>exact h.1
  |succ i=>exact zj1 h.2 i (by simpa using hi)
theorem RelD.flat {F F':Nat->Nat}{w w':World}{x:D}{v:Value} (hf:zfj x=true) (h:RelD F w x v):RelD F' w' x v:=by
 cases h with
 |int k n=>exact .int _ _
 |bool b=>exact .bool _
 |str s=>exact .str _
 |nil=>exact .nil
 |emp b off s cap=>exact .emp b off s cap
 |sl xs k b off cap c hk hcap hc hr=>
  cases xs with
  |nil=>exact .sl [] k b off cap c hk hcap (fun n hn=>by simp at hn) (fun i hi=>by simp at hi)
  |cons x r=>simp[zfj] at hf
 |ptr cs b o off c hc hr=>simp[zfj] at hf
 |nilp=>simp[zfj] at hf
theorem RelA.flat {G G':Gh}{T:TokF}{w:World}{x:AV}{v:Value} (h:RelA G T w x v):zcP x=true->(∀id,id∈x.ids->G'.loc id=G.loc id)->(∀id,id∈x.ids->∀b,b∈G.loc id->G'.F b=G.F b)->RelA G' T w x v:=by
 induction h with
 |d h=>intro hf _ _;exact .d (h.flat hf)
 |gl h ht=>intro hf;simp[zcP] at hf
 |gv hv ht=>intro hf;simp[zcP] at hf
 | @gt id xs v hv ht=>
  intro hf hl hF;refine .gt hv (fun n k hT=>⟨(ht n k hT).1,fun hn=>?_⟩);obtain⟨h1,h2⟩:=(ht n k hT).2 hn;exact⟨h1,h2.mono hn h1 (hl id ow) (fun b hb=>⟨rfl,hF id ow b hb⟩)⟩
 |ref h hT=>intro hf hl _;exact .ref (by rw[hl _ ow];exact h) hT
 |ms h hT hcap=>intro hf hl _;exact .ms (by rw[hl _ ow];exact h) hT hcap
 |mo h hT hcap ho=>intro hf;simp[zcP] at hf
 |mc h hT hcap=>intro hf;simp[zcP] at hf
 |gaD hv hT=>intro hf;simp[zcP] at hf
 |gaL hj hT hl hF hb hck hn hcs hr ih=>intro hf;simp[zcP] at hf
 |mapr h hT=>intro hf;simp[zcP] at hf
 |fn hn h ih=>intro hf;simp[zcP] at hf
 | @agg cs vs hn h ih=>
  intro hf hl hF;simp only[zcP] at hf;exact .agg hn (fun i hi hv=>ih i hi hv (zj1 hf i hi) (fun id hid=>hl id (by simp only[AV.ids];exact xay (xao hi) hid)) (fun id hid=>hF id (by simp only[AV.ids];exact xay (xao hi) hid)))
 | @tup cs vs hn h ih=>
  intro hf hl hF;simp only[zcP] at hf;exact .tup hn (fun i hi hv=>ih i hi hv (zj1 hf i hi) (fun id hid=>hl id (by simp only[AV.ids];exact xay (xao hi) hid)) (fun id hid=>hF id (by simp only[AV.ids];exact xay (xao hi) hid)))
 |nils=>intro _ _ _;exact .nils
 |sn h hn=>intro hf;simp[zcP] at hf
 |any v=>intro _ _ _;exact .any v
mutual
inductive Lent (lr:List (Nat×Res)):AV->AV->Prop
 |le {x y} (h:LeA x y):Lent lr x y
 |ms {id n m k}{xs:List (List D)} (hb:(id,.tree (zaK m xs))∈lr) (hk:∀x,x∈xs->x.length=k) (hn:n=xs.length):Lent lr (.ms id n) (.d (.sl xs))
 |msB {id n k}{cs:List AV}{xs:List (List D)} (hb:(id,.box cs)∈lr) (hk:∀x,x∈xs->x.length=k) (hn:n=xs.length) (hc:cs.take (n*k)=xs.flatten.map .d):Lent lr (.ms id n) (.d (.sl xs))
 |agg {cs ds} (h:LentL lr cs ds):Lent lr (.agg cs) (.agg ds)
inductive LentL (lr:List (Nat×Res)):List AV->List AV->Prop
 |nil:LentL lr [] []
 |cons {x y l m} (h:Lent lr x y) (t:LentL lr l m):LentL lr (x::l) (y::m)
end
theorem LentL.len {lr:List (Nat×Res)}:∀ {cs ds:List AV},LentL lr cs ds->cs.length=ds.length
 | [],_,h=>by cases h;rfl
 |x::r,_,h=>by cases h with|cons h t=>simp[t.len]
theorem LentL.at {lr:List (Nat×Res)}:∀ {cs ds:List AV},LentL lr cs ds->∀i (hi:i<cs.length) (hj:i<ds.length),Lent lr cs[i] ds[i]
 | [],_,_,i,hi,_=>by simp at hi
 |x::r,_,h,i,hi,hj=>by
  cases h with
  |cons h t=>
   cases i with
   |zero=>exact h
   |succ i=>exact LentL.at t i (by simpa using hi) (by simpa using hj)
def zjt:D->Bool
 | .int _ _=>true
 | .bool _=>true
 | .str _=>true
 |_=>false
theorem zlf {x:D} (h:zjt x=true):zfj x=true/\x≠ .sl []:=by
 cases x with
 |sl _=>simp[zjt] at h
 |ptr _ _=>simp[zjt] at h
 |nilp=>simp[zjt] at h
 |_=>exact⟨rfl,fun h=>by cases h⟩
def FlatR (xs:List (List D)):Prop:=∀x,x∈xs->∀y,y∈x->zjt y=true
theorem TipV.tree {G:Gh}{w:World}{id n k:Nat}{v:Value}{xs:List (List D)} (hf:FlatR xs) (hne:n≠0) (hk:∀x,x∈xs->x.length=k) (h:TipV G w id n k v xs):TipT G w id n k v xs:=by
 rcases h with ⟨h1,h2,h3⟩|⟨b,cap,cs,e,h1,h2,h3,h4,h5,h6,h7⟩
 ·exact .inl ⟨h1,h2,h3⟩
 ·refine .inr ⟨b,cap,cs,e,fun _=>[],by rw[h1];simp,h2,h4,h5,h6,by rw[h1];simp,fun b' hb'=>?_,fun i hi j hj=> .ofFlat (zlf (hf _ (xao hi) _ (xao hj))).1 (.inr (zlf (hf _ (xao hi) _ (xao hj))).2) (h7 i hi j hj),fun h=>absurd h hne⟩;rw[h1] at hb';simp only[List.mem_singleton] at hb';rw[hb'];exact h3
theorem znT {α:Type}{o j:Nat}:∀ {A B B' vs:List α},A.length=o->putC B j vs=some B'->putC (A++B) (o+j) vs=some (A++B'):=by
 intro A B B' vs ha h;subst ha;induction A with
 |nil=>simpa using h
 |cons x r ih=>
  cases vs with
  |nil=>
   have e:B'=B:=by cases B<;>simp only[putC,xae] at h<;>exact h.symm
   subst e;simp[putC]
  |cons v vs=>
   have:(x::r).length+j=r.length+j+1:=by simp;omega
   rw[this];simp only[xai,putC,ih]
theorem zq7 {α:Type}{o j:Nat}{A B:List α}{v:α} (ha:A.length=o) (h:B[j]?=some v):(A++B)[o+j]?=some v:=by
 subst ha;rw[List.getElem?_append_right od];simpa using h
theorem zqI {α:Type}{o:Nat}{A B B' vs:List α} (h1:A.length=o) (h2:putC B 0 vs=some B'):putC (A++B) o vs=some (A++B'):=znT (j:=0) h1 h2
theorem zqH {α:Type}{o:Nat}{A vs zs:List AV}{y:α}{rest:List α} (h1:A.length=o) (h2:zs.length=vs.length):putC (A++za1 (y::rest).length zs) o vs=some (A++(vs++za1 rest.length zs)):=
 zqI (B:=zs++za1 rest.length zs) h1 (zi0 h2)
theorem znU {α:Type}{v x:α}:∀ {B:List α}{j:Nat},B[j]?=some x->putC B j [v]=some (B.set j v)
 | [],j,h=>by simp at h
 |y::r,0,_=>by simp only[putC,List.set_cons_zero]
 |y::r,j+1,h=>by simp only[putC,List.set_cons_succ,znU (B:=r) (j:=j) (by simpa using h)]
def SubO:List Nat->Hp->Hp->Prop
 |_,[],_=>True
 |seen,(i,r)::t,hp=>(zaJ i seen=true\/getH hp i=r)/\SubO (i::seen) t hp
theorem SubO.get':∀ {l hp:Hp}{seen:List Nat},SubO seen l hp->∀id r,id∉seen->getH l id=some r->getH hp id=some r
 | [],hp,seen,_,id,r,_,h=>by cases h
 |(i,x)::t,hp,seen,h,id,r,hns,hg=>by
  rw[zad] at hg;by_cases hi:id=i
  ·subst hi;rw[if_pos rfl] at hg;rcases h.1 with h1|h1
   ·exact absurd (zav.1 h1) hns
   ·rw[h1];exact hg
  ·rw[if_neg hi] at hg;exact SubO.get' h.2 id r (by simp[hi,hns]) hg
theorem SubO.get {l hp:Hp} (h:SubO [] l hp):HSub l hp:=fun id r hg=>SubO.get' h id r og hg
theorem HSub.over {i:Nat}{r r':Option Res}{hp:Hp} (h:getH hp i=r'):HSub ([(i,r')]++[(i,r)]) hp:=fun id x hx=>by
 have hx':getH ((i,r')::[(i,r)]) id=some x:=hx;rw[zad] at hx';by_cases hi:id=i
 ·subst hi;rw[if_pos rfl] at hx';rw[h];exact hx'
 ·rw[if_neg hi,zad,if_neg hi] at hx';cases hx'
theorem zal (n:Nat) (zs:List AV):AV.idsL (za1 n zs)=(List.replicate n (AV.idsL zs)).flatten:=by
 induction n with
 |zero=>rfl
 |succ n ih=>simp only[za1,zah,ih,List.replicate_succ,List.flatten_cons]
theorem zaF (n:Nat):(List.replicate n ([]:List Nat)).flatten=[]:=by
 induction n with
 |zero=>rfl
 |succ n ih=>simp only[List.replicate_succ,List.flatten_cons,ih,List.nil_append]
theorem xaR {id n n':Nat} (h:n=n'):LeA (.ms id n) (.ms id n'):=h ▸ .refl _
theorem zlA (f:AV->AV) (zs:List AV):∀n,(za1 n zs).map f=za1 n (zs.map f)
 |0=>rfl
 |n+1=>by simp[za1,zlA f zs n]
def mkL {α:Type} (one:Int->α->α) (sz:α->Int):Int->List α->List α
 |_,[]=>[]
 |k,x::r=>one k x::mkL one sz (k+sz x) r
def szL {α:Type} (sz:α->Int):List α->Int
 | []=>0
 |x::r=>sz x+szL sz r
theorem zoP {α:Type}{one:Int->α->α}{sz:α->Int}:∀ {a:List α}{k:Int},(mkL one sz k a).length=a.length
 | [],_=>rfl
 |x::r,k=>by simp only[mkL,xab,zoP (a:=r)]
mutual
def renA (i j:Nat):AV->AV
 | .ms a n=>if a=i then .ms j n else .ms a n
 | .agg cs=> .agg (renL i j cs)
 | .tup cs=> .tup (renL i j cs)
 |x=>x
def renL (i j:Nat):List AV->List AV
 | []=>[]
 |x::r=>renA i j x::renL i j r
end
def zaP (i:Nat):AV->Bool
 | .ms a _=>Nat.beq a i
 | .d _=>true
 | .nils=>true
 | .agg cs=>soleL cs
 | .tup cs=>soleL cs
 |_=>false
where soleL:List AV->Bool
 | []=>true
 |x::r=>zaP i x&&soleL r
theorem zek (i j:Nat):∀l:List AV,(renL i j l).length=l.length
 | []=>rfl
 |x::r=>by simp[renL,zek i j r]
theorem zjr (i j:Nat):∀(l:List AV) (q:Nat) (h:q<l.length) (h':q<(renL i j l).length),(renL i j l)[q]=renA i j l[q]
 |x::r,0,_,_=>rfl
 |x::r,q+1,h,h'=>by simp only[renL,List.getElem_cons_succ];exact zjr i j r q (by simpa using h) (by simpa [renL] using h')
theorem zhR (i:Nat):∀ {l:List AV},zaP.soleL i l=true->∀q (h:q<l.length),zaP i l[q]=true
 |x::r,hs,q,h=>by
  simp only[zaP.soleL,xad] at hs;cases q with
  |zero=>exact hs.1
  |succ q=>exact zhR i hs.2 q (by simpa using h)
theorem RelA.ren {G G':Gh}{T T':TokF}{w:World}{i j:Nat}{x:AV}{v:Value} (h:RelA G T w x v) (hF:G'.F=G.F) (hl:G'.loc j=G.loc i) (hT:T' j=none):zaP i x=true->RelA G' T' w (renA i j x) v:=by
 induction h with
 |d h=>intro _;exact .d (h.mono (fun b o ho=>⟨by rw[hF];exact ho,Z⟩))
 | @ms a n b cap h _ hc=>
  intro hs;simp only[zaP] at hs;obtain rfl:=xap hs;simp only[renA,if_true];exact .ms (by rw[hl];exact h) hT hc
 | @agg cs vs hn h ih=>
  intro hs;simp only[zaP] at hs;simp only[renA];exact .agg (by rw[zek];exact hn) (fun q hq hv=>by
   have hq':q<cs.length:=by rw[zek] at hq;exact hq
   rw[zjr i j cs q hq' hq];exact ih q hq' hv (zhR i hs q hq'))
 | @tup cs vs hn h ih=>
  intro hs;simp only[zaP] at hs;simp only[renA];exact .tup (by rw[zek];exact hn) (fun q hq hv=>by
   have hq':q<cs.length:=by rw[zek] at hq;exact hq
   rw[zjr i j cs q hq' hq];exact ih q hq' hv (zhR i hs q hq'))
 |nils=>intro _;exact .nils
 |_=>intro hs;simp[zaP] at hs
theorem FnD.out_ren {P:Program}{f:FuncId}{i:Nat}{args:List AV}{r:AV}{cs:List AV} (hc:AV.idsL cs=[]) (hs:zaP i r=true) (h:FnD P f args [] r [(i,some (.tree cs))]) (j:Nat):
  FnD P f args [] (renA i j r) [(j,some (.tree cs))]:=by
 intro G w vals hok;refine(h G w vals hok).mono ?_;rintro e w' ⟨v,r',hp',G',rfl,⟨rfl,rfl⟩,hret⟩
 have gi:getH ([(i,some (Res.tree cs))]++[]) i=some (.tree cs):=by simp[getH]
 have gj:getH ([(j,some (Res.tree cs))]++[]) j=some (.tree cs):=by simp[getH]
 have only:∀ {a id:Nat}{x y:Res},getH ([(a,some x)]++[]) id=some y->id=a/\y=x:=fun {a id x y} h=>by
  have h':getH [(a,some x)] id=some y:=h;rw[zad] at h';split at h'
  ·rename_i e;cases h';exact⟨e,rfl⟩
  ·cases h'
 let G2:Gh:={ G' with loc:=fun x=>G'.loc i }
 have hown:∀b,b∉zbE G []:=fun b hb=>by simp[zbE] at hb
 refine⟨v,_,_,G2,rfl,⟨rfl,rfl⟩,hret.res.ren rfl rfl (by unfold tokf;rw[gj]) hs,fun id x hx=>?_,fun id id' h1 h2 hne=>?_,fun id h1 b hb=>hret.new i (by rw[gi];rfl) b hb,hret.frm,hret.top,fun id hi=>?_⟩
 ·obtain⟨rfl,rfl⟩:=only hx;obtain⟨bl,vs,e,Ss,h1,h2,h3,h4,h5,h6⟩:=hret.heap i _ gi;refine⟨bl,vs,e,Ss,h1,h2,h3,h4,h5,fun q hq hv=>(h6 q hq hv).map (fun hx=>?_) (fun _ _=>rfl)⟩;have hn:∀a,a∉(cs[q]).ids:=fun a ha=>by
   have:=xay (xao hq) ha;rw[hc] at this;simp at this
  exact hx.mono (fun _ _ ho=>⟨ho,Z⟩) (fun a ha=>(hn a ha).elim) (fun a ha=>(hn a ha).elim)
 ·obtain⟨x,hx⟩:=Option.isSome_iff_exists.1 h1;obtain⟨y,hy⟩:=Option.isSome_iff_exists.1 h2;exact absurd ((only hx).1.trans (only hy).1.symm) hne
 ·unfold zbr at hi;simp[getH] at hi
mutual
theorem zmA (i j:Nat):∀ {x:AV},zaP i x=true->renA j i (renA i j x)=x
 | .ms a n,h=>by
  simp only[zaP] at h;have:=xap h;subst this;simp[renA]
 | .d _,_=>rfl
 | .nils,_=>rfl
 | .agg cs,h=>by
  simp only[zaP] at h;simp only[renA,zi1 i j h]
 | .tup cs,h=>by
  simp only[zaP] at h;simp only[renA,zi1 i j h]
 | .sn _,h=>by simp[zaP] at h
 | .gl _ _,h=>by simp[zaP] at h
 | .gv _ _,h=>by simp[zaP] at h
 | .gt _ _,h=>by simp[zaP] at h
 | .ref _ _,h=>by simp[zaP] at h
 | .mo _ _ _,h=>by simp[zaP] at h
 | .mc _ _ _,h=>by simp[zaP] at h
 | .ga _ _ _ _,h=>by simp[zaP] at h
 | .mapr _,h=>by simp[zaP] at h
 | .fn _ _,h=>by simp[zaP] at h
 | .own _ _,h=>by simp[zaP] at h
 | .any,h=>by simp[zaP] at h
theorem zi1 (i j:Nat):∀ {l:List AV},zaP.soleL i l=true->renL j i (renL i j l)=l
 | [],_=>rfl
 |x::r,h=>by
  simp only[zaP.soleL,xad] at h;simp only[renL,zmA i j h.1,zi1 i j h.2]
end
mutual
theorem zmB (i j:Nat):∀ {x:AV},zaP i x=true->zaP j (renA i j x)=true
 | .ms a n,h=>by
  simp only[zaP] at h;have:=xap h;subst this;simp[renA,zaP]
 | .d _,_=>rfl
 | .nils,_=>rfl
 | .agg cs,h=>by
  simp only[zaP] at h;simp only[renA,zaP,zi5 i j h]
 | .tup cs,h=>by
  simp only[zaP] at h;simp only[renA,zaP,zi5 i j h]
 | .sn _,h=>by simp[zaP] at h
 | .gl _ _,h=>by simp[zaP] at h
 | .gv _ _,h=>by simp[zaP] at h
 | .gt _ _,h=>by simp[zaP] at h
 | .ref _ _,h=>by simp[zaP] at h
 | .mo _ _ _,h=>by simp[zaP] at h
 | .mc _ _ _,h=>by simp[zaP] at h
 | .ga _ _ _ _,h=>by simp[zaP] at h
 | .mapr _,h=>by simp[zaP] at h
 | .fn _ _,h=>by simp[zaP] at h
 | .own _ _,h=>by simp[zaP] at h
 | .any,h=>by simp[zaP] at h
theorem zi5 (i j:Nat):∀ {l:List AV},zaP.soleL i l=true->zaP.soleL j (renL i j l)=true
 | [],_=>rfl
 |x::r,h=>by
  simp only[zaP.soleL,xad] at h;simp only[renL,zaP.soleL,zmB i j h.1,zi5 i j h.2,Bool.and_self]
end
theorem zmF {G0 G2:Gh}{w0:World}{a b:Nat}{cs:List AV}{T T':TokF} (hF:G2.F=G0.F) (hl:G2.loc b=G0.loc a) (hcs:AV.idsL cs=[]) (h:RelR G0 T w0 a (.tree cs)):RelR G2 T' w0 b (.tree cs):=by
 obtain⟨bl,vs,e,Ss,h1,h2,h3,h4,h5,h6⟩:=h;refine⟨bl,vs,e,Ss,hl.trans h1,h2,h3,by rw[hl];exact h4,fun x hx=>?_,fun q hq hv=>(h6 q hq hv).map (fun hx=>?_) (fun _ _=>rfl)⟩
 ·rw[hl] at hx;rw[hF];exact h5 x hx
 ·have hn:∀id,id∉(cs[q]).ids:=fun id hid=>by
   have:=xay (xao hq) hid;rw[hcs] at this;simp at this
  exact hx.mono (fun _ _ ho=>⟨by rw[hF];exact ho,Z⟩) (fun id hid=>(hn id hid).elim) (fun id hid=>(hn id hid).elim)
theorem FnD.ren {P:Program}{f:FuncId}{i:Nat}{args:List AV}{r:D}{cs cs':List AV} (hs:zaP.soleL i args=true) (hc:AV.idsL cs=[]) (hc':AV.idsL cs'=[]) (h:FnD P f args [(i,some (.tree cs))] (.d r) [(i,some (.tree cs'))]) (j:Nat):
  FnD P f (renL i j args) [(j,some (.tree cs))] (.d r) [(j,some (.tree cs'))]:=by
 intro G w vals hok;let G1:Gh:={ G with loc:=fun x=>G.loc j }
 have gj:∀(x:Res),getH [(j,some x)] j=some x:=fun x=>by simp[getH]
 have gi:∀(x:Res),getH [(i,some x)] i=some x:=fun x=>by simp[getH]
 have only:∀ {a id:Nat}{x y:Res},getH [(a,some x)] id=some y->id=a/\y=x:=fun {a id x y} h=>by
  rw[zad] at h;split at h
  ·rename_i e;cases h;exact⟨e,rfl⟩
  ·cases h
 have hsz:=hok.args.size;rw[zek] at hsz;have hok1:HOK G1 w [(i,some (.tree cs))] args vals:=by
  refine⟨⟨hsz,fun q hq hv=>?_⟩,fun id x hx=>?_,fun id id' h1 h2 hne=>?_,hok.top⟩
  ·have hq':q<(renL i j args).length:=by rw[zek];exact hq
   have h1:=hok.args.rel q hq' hv;rw[zjr i j args q hq hq'] at h1;have h2:=zhR i hs q hq;have h3:=h1.ren (G':=G1) (T':=tokf [(i,some (Res.tree cs))]) (i:=j) (j:=i) rfl rfl (by unfold tokf;rw[gi]) (zmB i j h2);rw[zmA i j h2] at h3;exact h3
  ·obtain⟨rfl,rfl⟩:=only hx;exact zmF (G0:=G) (G2:=G1) (a:=j) Z Z hc (hok.heap j _ (gj _))
  ·obtain⟨x,hx⟩:=Option.isSome_iff_exists.1 h1;obtain⟨y,hy⟩:=Option.isSome_iff_exists.1 h2;exact absurd ((only hx).1.trans (only hy).1.symm) hne
 have own1:∀b,b∈zbE G1 [(i,some (.tree cs))]↔b∈zbE G [(j,some (.tree cs))]:=fun b=>by
  rw[zcE,zcE];constructor
  ·rintro ⟨id,_,hb⟩;exact⟨j,by rw[gj];rfl,hb⟩
  ·rintro ⟨id,h1,hb⟩
   obtain⟨x,hx⟩:=Option.isSome_iff_exists.1 h1;rw[(only hx).1] at hb;exact⟨i,by rw[gi];rfl,hb⟩
 refine(h G1 w vals hok1).mono ?_;rintro e w' ⟨v,r',hp',G',rfl,⟨rfl,rfl⟩,hret⟩
 have gi2:getH ([(i,some (Res.tree cs'))]++[(i,some (.tree cs))]) i=some (.tree cs'):=by simp[getH]
 have gj2:getH ([(j,some (Res.tree cs'))]++[(j,some (.tree cs))]) j=some (.tree cs'):=by simp[getH]
 have only2:∀ {a id:Nat}{x y z:Res},getH ([(a,some x)]++[(a,some y)]) id=some z->id=a/\z=x:=fun {a id x y z} h=>by
  have h':getH ((a,some x)::[(a,some y)]) id=some z:=h;rw[zad] at h';split at h'
  ·rename_i e;cases h';exact⟨e,rfl⟩
  ·rename_i hne;rw[zad,if_neg hne] at h';cases h'
 let G2:Gh:={ G' with loc:=fun x=>G'.loc i }
 refine⟨v,_,_,G2,rfl,⟨rfl,rfl⟩,.d hret.res.d_inv,fun id x hx=>?_,fun id id' h1 h2 hne=>?_,fun id h1 b hb=>?_, ?_,hret.top,fun id hi=>?_⟩
 ·obtain⟨rfl,rfl⟩:=only2 hx;exact zmF (G0:=G') (a:=i) Z Z hc' (hret.heap i _ gi2)
 ·obtain⟨x,hx⟩:=Option.isSome_iff_exists.1 h1;obtain⟨y,hy⟩:=Option.isSome_iff_exists.1 h2;exact absurd ((only2 hx).1.trans (only2 hy).1.symm) hne
 ·exact(hret.new i (by rw[gi2];rfl) b hb).imp_left (own1 b).1
 ·have hf:=hret.frm;exact⟨hf.os,hf.tape,hf.output,hf.size,fun b hb hn=>hf.block b hb (fun hm=>hn ((own1 b).1 hm)),hf.cell⟩
 ·have hib:zbr [(i,some (Res.tree cs))] i=true:=by unfold zbr;rw[gi]
  have hk:=hret.kept i hib;unfold zbr at hi;cases hg:getH [(j,some (Res.tree cs))] id with
  |none=>rw[hg] at hi;cases hi
  |some x=>
   obtain⟨rfl,_⟩:=only hg;exact⟨hk.1,by rw[gj2];rfl,by unfold tokf;rw[gj2]⟩
mutual
def frzA (x:D):AV->AV
 | .ms _ _=> .d x
 | .agg cs=> .agg (frzL x cs)
 | .tup cs=> .tup (frzL x cs)
 |y=>y
def frzL (x:D):List AV->List AV
 | []=>[]
 |y::r=>frzA x y::frzL x r
end
theorem zgp (x:D):∀l:List AV,(frzL x l).length=l.length
 | []=>rfl
 |y::r=>by simp[frzL,zgp x r]
theorem zlJ (x:D):∀(l:List AV) (q:Nat) (h:q<l.length) (h':q<(frzL x l).length),(frzL x l)[q]=frzA x l[q]
 |y::r,0,_,_=>rfl
 |y::r,q+1,h,h'=>by simp only[frzL,List.getElem_cons_succ];exact zlJ x r q (by simpa using h) (by simpa [frzL] using h')
def zhS (i n:Nat):AV->Prop
 | .ms a m=>a=i/\m=n
 | .d _=>True
 | .nils=>True
 | .agg cs=>soleNL i n cs
 | .tup cs=>soleNL i n cs
 |_=>False
where soleNL (i n:Nat):List AV->Prop
 | []=>True
 |x::r=>zhS i n x/\soleNL i n r
theorem zi6 (i n:Nat):∀ {l:List AV},zhS.soleNL i n l->∀q (h:q<l.length),zhS i n l[q]
 |x::r,hs,q,h=>by
  cases q with
  |zero=>exact hs.1
  |succ q=>exact zi6 i n hs.2 q (by simpa using h)
theorem RelA.frz {G G':Gh}{T T':TokF}{w:World}{i n:Nat}{x:AV}{v:Value}{d:D} (h:RelA G T w x v) (hF:∀b o,o<G.F b->o<G'.F b) (hms:∀v,RelA G T w (.ms i n) v->RelD G'.F w d v):zhS i n x->RelA G' T' w (frzA d x) v:=by
 induction h with
 |d h=>intro _;exact .d (h.mono (fun b o ho=>⟨hF b o ho,Z⟩))
 | @ms a m b cap h hT hc=>
  intro hs;obtain⟨rfl,rfl⟩:=hs;exact .d (hms _ (.ms h hT hc))
 | @agg cs vs hn h ih=>
  intro hs;simp only[frzA];exact .agg (by rw[zgp];exact hn) (fun q hq hv=>by
   have hq':q<cs.length:=by rw[zgp] at hq;exact hq
   rw[zlJ d cs q hq' hq];exact ih q hq' hv (zi6 i n hs q hq'))
 | @tup cs vs hn h ih=>
  intro hs;simp only[frzA];exact .tup (by rw[zgp];exact hn) (fun q hq hv=>by
   have hq':q<cs.length:=by rw[zgp] at hq;exact hq
   rw[zlJ d cs q hq' hq];exact ih q hq' hv (zi6 i n hs q hq'))
 |nils=>intro _;exact .nils
 |_=>intro hs;exact hs.elim
theorem FnD.out_frz {P:Program}{f:FuncId}{i k:Nat}{m:Bool}{args:List AV}{r:AV}{xs:List (List D)} (hk:∀x,x∈xs->x.length=k) (hs:zhS i xs.length r) (h:FnD P f args [] r [(i,some (.tree (zaK m xs)))]):
  FnD P f args [] (frzA (.sl xs) r) []:=by
 intro G w vals hok;refine(h G w vals hok).mono ?_;rintro e w' ⟨v,r',hp',G',rfl,⟨rfl,rfl⟩,hret⟩
 have gi:getH ([(i,some (Res.tree (zaK m xs)))]++[]) i=some (.tree (zaK m xs)):=by simp[getH]
 obtain⟨b,us,et,Ss,hT⟩:=hret.heap i _ gi;have hown:∀b,b∉zbE G []:=fun b hb=>by simp[zbE] at hb
 have hnew:∀b,b∈G'.loc i->w.heap.size<=b:=fun b hb=>(hret.new i (by rw[gi];rfl) b hb).resolve_left (hown b);let G2:Gh:={ G' with F:=fun x=>bif zaJ x (G'.loc i) then szB w' x else G'.F x }
 have hin:∀x,x∈G'.loc i->G2.F x=szB w' x:=fun x hx=>by simp[G2,zav.2 hx]
 have hout:∀x,x∉G'.loc i->G2.F x=G'.F x:=fun x hx=>by
  have:zaJ x (G'.loc i)=false:=by
   cases h:zaJ x (G'.loc i) with
   |true=>exact absurd (zav.1 h) hx
   |false=>rfl
  simp[G2,this]
 have hle:∀b o,o<G'.F b->o<G2.F b:=fun x o ho=>by
  by_cases hx:x∈G'.loc i
  ·rw[(hT.mine x hx).1] at ho;omega
  ·rw[hout x hx];exact ho
 refine⟨v,_,_,G2,rfl,⟨rfl,rfl⟩,hret.res.frz hle (fun u hu=>?_) hs,fun id x hx=>(by cases hx),fun id id' h1=>(by cases h1),fun id h1=>(by cases h1), ?_,fun x hx=>?_,fun id hi=>(by simp[zbr,getH] at hi)⟩
 ·obtain⟨b',cap,hl,he,hcap⟩:=hu.ms_eq;obtain rfl:=hT.head hl.1;have hbl:b'∈G'.loc i:=by rw[hT.loc];simp
  have hlen:(zaK m xs).length=xs.length*k:=zcW hk;have hle':xs.length*k<=us.size:=by have:=hT.len;omega
  have hsz:szB w' b'=us.size:=by simp[szB,hT.at_]
  rw[he];refine .sl xs k b' 0 cap (fun n=>us.getD n undef) hk hcap (fun q hq=>⟨by rw[hin b' hbl];omega, ?_⟩) (fun q hq j hj=>?_)
  ·have:q<us.size:=by omega
   simp[World.cell?,hT.at_,this]
  ·have hjk:j<k:=by rw[<-hk _ (xao hq)];exact hj
   have hlt:q*k+j<(zaK m xs).length:=by rw[hlen];exact zeX hq hjk
   have hlv:q*k+j<us.size:=Nat.lt_of_lt_of_le hlt hT.len;have h1:=hT.cell (q*k+j) hlt hlv;have h2:=zg6 (m:=m) hk hq hj;rw[xan hlt] at h2;rw[Option.some.inj h2] at h1;rw[zlK hlv];have hsub:∀x,x∈Ss (q*k+j)->x∈G'.loc i:=fun x hx=>by
    rw[hT.loc];exact List.mem_cons_of_mem _ (List.mem_flatMap.2 ⟨_,List.mem_range.2 hlt,hx⟩)
   have tr:∀ {y:D}{u:Value},TreeD m w' y u (Ss (q*k+j))->RelD G2.F w' y u:=fun h=>h.toD (fun x hx=>by rw[hin x (hsub x hx)];exact Nat.le_refl _);generalize xs[q][j]=y at h1;cases y with
   |int kd q=>exact h1.2.d_inv.flat Z
   |bool q=>exact h1.2.d_inv.flat Z
   |str q=>exact h1.2.d_inv.flat Z
   |sl ys=>exact tr h1
   |ptr q r=>exact tr h1
   |nilp=>exact tr h1
 ·have hf:=hret.frm;exact⟨hf.os,hf.tape,hf.output,hf.size,fun x hx hn=>⟨(hf.block x hx hn).1,by
   rw[hout x (fun hm=>by have:=hnew x hm;omega)];exact(hf.block x hx hn).2⟩,fun x o ho=>⟨hle x o (hf.cell x o ho).1,(hf.cell x o ho).2⟩⟩
 ·by_cases hx':x∈G'.loc i
  ·have:=(hT.mine x hx').2;omega
  ·rw[hout x hx'];exact hret.top x hx
def zdL (i j:Nat):Env->Env
 | []=>[]
 |(k,v)::r=>(k,bif zaJ i v.ids then .any else bif zaJ j v.ids then .any else v)::zdL i j r
theorem zgK {i j:Nat}:∀ {l:Env}{t:Nat}{v:AV},getE (zdL i j l) t=some v->∃u,getE l t=some u/\(v = .any\/(v=u/\i∉u.ids/\j∉u.ids))
 | [],_,_,h=>by simp[zdL,getE] at h
 |(k,x)::r,t,v,h=>by
  simp only[zdL,getE] at h ⊢;cases hb:Nat.beq k t with
  |true=>
   simp only[hb,cond_true,xae] at h;refine⟨x,by simp, ?_⟩;cases h1:zaJ i x.ids with
   |true=>left;rw[h1] at h;exact h.symm
   |false=>
    cases h2:zaJ j x.ids with
    |true=>left;rw[h1,h2] at h;exact h.symm
    |false=>
     right
     rw[h1,h2] at h;refine⟨h.symm,fun hm=>?_,fun hm=>?_⟩
     ·rw[zav.2 hm] at h1;cases h1
     ·rw[zav.2 hm] at h2;cases h2
  |false=>
   simp only[hb,cond_false] at h;obtain⟨u,h1,h2⟩:=zgK h;exact⟨u,by simpa using h1,h2⟩
theorem RelA.gl_move {G G':Gh}{T T':TokF}{w:World}{i j n k:Nat}{xs:List (List D)}{v:Value} (h:RelA G T w (.gl i xs) v) (hT:T i=some (n,k)) (hF:G'.F=G.F) (hl:G'.loc j=G.loc i) (hT':T' j=some (n,k)):RelA G' T' w (.gl j xs) v:=by
 generalize hx:AV.gl i xs=x at h;cases h with
 | @gl id ys v h ht=>
  cases hx
  refine .gl (h.mono (fun b o ho=>⟨by rw[hF];exact ho,Z⟩)) (fun n' k' he=>?_);rw[hT'] at he;cases he
  obtain⟨h1,h2⟩:=ht _ _ hT;refine⟨h1,fun hn=>?_⟩;obtain⟨h3,h4⟩:=h2 hn;refine⟨h3, ?_⟩;rcases h4 with ⟨a1,a2,a3⟩|⟨b,cap,cs,e,a1,a2,a3,a4⟩
  ·exact .inl ⟨hl.trans a1,a2,a3⟩
  ·exact .inr ⟨b,cap,cs,e,hl.trans a1,a2,by rw[hF];exact a3,a4⟩
 |_=>cases hx
section
variable {c:Ctx}{env:Env}{hp:Hp}{K:Kt}{code:Code}
theorem CWp.retok (t j i:Nat){n k:Nat}{ys:List (List D)} (ht:getE env t=some (.gl j ys)) (hi:getH hp i=none) (hj:getH hp j=some (.tok n k)) (o1:occH i hp=false) (o2:occH j hp=false)
  (hn:CWp c code ⟨(t,.gl i ys)::zdL i j env,(i,some (.tok n k))::(j,none)::hp⟩ K):CWp c code ⟨env,hp⟩ K:=by
 rintro a w ⟨G,hr⟩
 have hne:i≠j:=fun e=>by subst e;rw[hi] at hj;cases hj
 let hp':Hp:=(i,some (.tok n k))::(j,none)::hp
 let G':Gh:={ G with loc:=fun x=>bif Nat.beq x i then G.loc j else G.loc x }
 have l1:G'.loc i=G.loc j:=by simp[G']
 have l2:∀x,x≠i->G'.loc x=G.loc x:=fun x h=>by simp[G',zcp h]
 have g1:getH hp' i=some (.tok n k):=by simp[hp',getH]
 have g2:getH hp' j=none:=by
  show getH ((i,some (.tok n k))::(j,none)::hp) j=none
  rw[zad,if_neg (fun e=>hne e.symm),zad,if_pos rfl]
 have g3:∀x,x≠i->x≠j->getH hp' x=getH hp x:=fun x h1 h2=>by
  show getH ((i,some (.tok n k))::(j,none)::hp) x=_
  rw[zad,if_neg h1,zad,if_neg h2]
 have hTj:tokf hp j=some (n,k):=zak.2 hj;have hTi:tokf hp' i=some (n,k):=zak.2 g1;have hm:∀ {x:AV}{v:Value},i∉x.ids->j∉x.ids->RelA G (tokf hp) w x v->RelA G' (tokf hp') w x v:=fun hx1 hx2 hx=>
  hx.mono (fun _ _ ho=>⟨ho,rfl⟩) (fun id hid=> .inl (l2 id (fun e=>hx1 (e ▸ hid)))) (fun id hid p hp2=>⟨by
   have e1:id≠i:=fun e=>hx1 (e ▸ hid);have e2:id≠j:=fun e=>hx2 (e ▸ hid);unfold tokf at hp2 ⊢;rw[g3 id e1 e2] at hp2;exact hp2,fun _ _=>⟨Z,Z⟩⟩)
 have cases3:∀x (r:Res),getH hp' x=some r->(x=i/\r = .tok n k)\/(x≠i/\x≠j/\getH hp x=some r):=fun x r h=>by
  by_cases e1:x=i
  ·subst e1;rw[g1] at h;cases h;exact .inl ⟨Z,Z⟩
  ·by_cases e2:x=j
   ·subst e2;rw[g2] at h;cases h
   ·rw[g3 x e1 e2] at h;exact .inr ⟨e1,e2,h⟩
 have src:∀x,(getH hp' x).isSome->∃y,(getH hp y).isSome/\G'.loc x=G.loc y/\(y=j/\x=i\/y=x/\x≠j/\x≠i):=fun x h=>by
  obtain⟨r,hx⟩:=Option.isSome_iff_exists.1 h;rcases cases3 x r hx with ⟨rfl,_⟩|⟨e1,e2,h3⟩
  ·exact⟨j,by rw[hj];rfl,l1,.inl ⟨rfl,rfl⟩⟩
  ·exact⟨x,by rw[h3];rfl,l2 x e1,.inr ⟨rfl,e2,e1⟩⟩
 have nocc:∀ {id x:Nat}{r:Res},occH id hp=false->getH hp x=some r->id∉r.ids:=fun h1 h2=>zeG h1 _ _ (zcf h2);refine hn a w ⟨G',hr.size,hr.defers,fun x v hx=>?_,fun x r hx=>?_,fun x y h1 h2 hxy b hb=>?_,fun x h1 b hb=>?_,hr.frm,hr.top,fun x l hl=>?_⟩
 ·have hx':getE ((t,.gl i ys)::zdL i j env) x=some v:=hx;simp only[getE] at hx';cases hb:Nat.beq t x with
  |true=>
   have:=xap hb;subst this;simp only[hb,cond_true,xae] at hx';subst hx';exact(hr.slots t _ ht).gl_move hTj rfl l1 hTi
  |false=>
   simp only[hb,cond_false] at hx';obtain⟨u,h1,h2⟩:=zgK hx';rcases h2 with rfl|⟨rfl,h3,h4⟩
   ·exact .any _
   ·exact hm h3 h4 (hr.slots x _ h1)
 ·rcases cases3 x r hx with ⟨rfl,rfl⟩|⟨e1,e2,h3⟩
  ·intro b hb;rw[l1] at hb;exact hr.heap j _ hj b hb
  ·have hh:=hr.heap x r h3;have n1:=nocc o1 h3;have n2:=nocc o2 h3;cases r with
   |box cs=>
    obtain⟨b,us,e,e1',e2',e3,e4,e5⟩:=hh;exact⟨b,us,e,(l2 x e1).trans e1',e2',e3,e4,fun q hq hv=>hm (fun hid=>n1 (xay (xao hq) hid)) (fun hid=>n2 (xay (xao hq) hid)) (e5 q hq hv)⟩
   |tok n' k'=>intro b hb;rw[l2 x e1] at hb;exact hh b hb
   |map ks=>
    obtain⟨b,es,cl,h5,h6⟩:=hh;exact⟨b,es,cl,(l2 x e1).trans h5,h6⟩
   |tree cs=>exact zaW hh (l2 x e1) (fun _ _=>⟨Z,Z⟩) (Nat.le_refl _) (fun y hy v=>hm (fun hid=>n1 (xay hy hid)) (fun hid=>n2 (xay hy hid)))
 ·obtain⟨x',s1,e1,d1⟩:=src x h1;obtain⟨y',s2,e2,d2⟩:=src y h2;rw[e1] at hb;rw[e2];refine hr.disj x' y' s1 s2 ?_ b hb;rcases d1 with ⟨rfl,rfl⟩|⟨rfl,f1,f2⟩<;>rcases d2 with ⟨rfl,rfl⟩|⟨rfl,f3,f4⟩
  ·exact absurd Z hxy
  ·exact fun e=>f3 e.symm
  ·exact f1
  ·exact hxy
 ·obtain⟨x',s1,e1,d1⟩:=src x h1;rw[e1] at hb;exact hr.new x' s1 b hb
 ·have hk:=hr.kept x l hl;have e1:x≠i:=fun e=>by
   have h1:=hk.2.1;have h2:getH hp x=none:=e ▸ hi;change (getH hp x).isSome=true at h1
   rw[h2] at h1;cases h1
  have e2:x≠j:=fun e=>by
   have h1:=hk.2.2;change tokf hp x=none at h1
   rw[e,hTj] at h1;cases h1
  refine⟨by rw[l2 x e1];exact hk.1, ?_, ?_⟩
  ·show(getH hp' x).isSome=true
   rw[g3 x e1 e2];exact hk.2.1
  ·show tokf hp' x=none
   have:=hk.2.2;unfold tokf at this ⊢;rw[g3 x e1 e2];exact this
end
section
variable {c:Ctx}
theorem zpj {G:Gh}{s:St}{a:Act}{w:World} (hr:R c G s a w){f:FuncId}{avs:List AV}{i j n k m:Nat}{ys:List (List D)}{vals:Array Value}
  (hf:FnD c.P f avs [(i,some (.tok n k))] (.gl i ys) [(i,some (.tok m k))]) (hargs:AllR G (tokf s.hp) w avs vals) (hi:getH s.hp i=some (.tok n k)) (hj:getH s.hp j=none) (hocc:zcb j s):
  Calls c.P f vals w fun e w'=>∃v,e = .returned v/\
   ∃G',R c G' { s with hp:=(i,none)::(j,some (.tok m k))::s.hp } a w'/\RelA G' (tokf ((i,none)::(j,some (.tok m k))::s.hp)) w' (.gl j ys) v:=by
 have hne:i≠j:=fun e=>by subst e;rw[hi] at hj;cases hj
 have only:∀ {id:Nat}{x y:Res},getH [(i,some x)] id=some y->id=i/\y=x:=fun {id x y} h=>by
  rw[zad] at h;split at h
  ·rename_i e;cases h;exact⟨e,rfl⟩
  ·cases h
 have gi:getH [(i,some (Res.tok n k))] i=some (.tok n k):=by simp[getH]
 have hok:HOK G w [(i,some (.tok n k))] avs vals:=by
  refine⟨⟨hargs.size,fun q hq hv=>(hargs.rel q hq hv).mono (fun _ _ ho=>⟨ho,rfl⟩) (fun _ _=> .inl rfl) (fun id _ p hp=>⟨?_,fun _ _=>⟨rfl,rfl⟩⟩)⟩,fun id r h=>?_,fun id id' h1 h2 h3=>?_,hr.top⟩
  ·obtain⟨n',k'⟩:=p;obtain⟨rfl,h2⟩:=only (zak.1 hp);cases h2
   exact zak.2 hi
  ·obtain⟨rfl,rfl⟩:=only h;exact hr.heap _ _ hi
  ·obtain⟨x,hx⟩:=Option.isSome_iff_exists.1 h1;obtain⟨y,hy⟩:=Option.isSome_iff_exists.1 h2;exact absurd ((only hx).1.trans (only hy).1.symm) h3
 refine(hf G w vals hok).mono ?_;rintro e w' ⟨v,r,hp0,G',rfl,⟨rfl,rfl⟩,hret⟩
 refine⟨v,rfl, ?_⟩;have gi2:getH ([(i,some (Res.tok m k))]++[(i,some (.tok n k))]) i=some (.tok m k):=by simp[getH]
 have hown:∀b,b∈zbE G [(i,some (Res.tok n k))]->b∈G.loc i:=fun b hb=>by
  obtain⟨id,h1,h2⟩:=zcE.1 hb;obtain⟨x,hx⟩:=Option.isSome_iff_exists.1 h1;rw[(only hx).1] at h2;exact h2
 have hsi:(getH s.hp i).isSome:=by rw[hi];rfl
 let hp':Hp:=(i,none)::(j,some (.tok m k))::s.hp
 let G2:Gh:={ F:=G'.F,loc:=fun x=>bif Nat.beq x j then G'.loc i else G.loc x }
 have l1:G2.loc j=G'.loc i:=by simp[G2]
 have l2:∀x,x≠j->G2.loc x=G.loc x:=fun x h=>by simp[G2,zcp h]
 have g1:getH hp' i=none:=by
  show getH ((i,none)::(j,some (.tok m k))::s.hp) i=none
  rw[zad,if_pos rfl]
 have g2:getH hp' j=some (.tok m k):=by
  show getH ((i,none)::(j,some (.tok m k))::s.hp) j=_
  rw[zad,if_neg (fun e=>hne e.symm),zad,if_pos rfl]
 have g3:∀x,x≠i->x≠j->getH hp' x=getH s.hp x:=fun x h1 h2=>by
  show getH ((i,none)::(j,some (.tok m k))::s.hp) x=_
  rw[zad,if_neg h1,zad,if_neg h2]
 have cases3:∀x (r:Res),getH hp' x=some r->(x=j/\r = .tok m k)\/(x≠i/\x≠j/\getH s.hp x=some r):=fun x r h=>by
  by_cases e1:x=i
  ·subst e1;rw[g1] at h;cases h
  ·by_cases e2:x=j
   ·subst e2;rw[g2] at h;cases h;exact .inl ⟨Z,Z⟩
   ·rw[g3 x e1 e2] at h;exact .inr ⟨e1,e2,h⟩
 have bound:∀x r,getH s.hp x=some r->∀b,b∈G.loc x->b<w.heap.size:=fun x r h=>(hr.heap x r h).bound;have blk:∀x r,x≠i->getH s.hp x=some r->∀b,b∈G.loc x->w'.heap[b]?=w.heap[b]?/\G'.F b=G.F b:=fun x r h1 h2 b hb=>
  hret.frm.block b (bound x r h2 b hb) (fun hm=>hr.disj x i (by rw[h2];rfl) hsi h1 b hb (hown b hm))
 have hm:∀ {x:AV}{v:Value},j∉x.ids->RelA G (tokf s.hp) w x v->RelA G2 (tokf hp') w' x v:=fun hx1 hx=>
  hx.mono hret.frm.cell (fun id hid=> .inl (l2 id (fun e=>hx1 (e ▸ hid)))) (fun id hid p hp2=>by
   have e1:id≠j:=fun e=>hx1 (e ▸ hid);obtain⟨n',k'⟩:=p;have h1:=zak.1 hp2;rcases cases3 id _ h1 with ⟨e,_⟩|⟨e2,_,h3⟩
   ·exact absurd e e1
   ·exact⟨zak.2 h3,blk id _ e2 h3⟩)
 have src:∀x,(getH hp' x).isSome->x=j\/(x≠i/\x≠j/\(getH s.hp x).isSome):=fun x h=>by
  obtain⟨r,hx⟩:=Option.isSome_iff_exists.1 h;rcases cases3 x r hx with ⟨rfl,_⟩|⟨e1,e2,h3⟩
  ·exact .inl Z
  ·exact .inr ⟨e1,e2,by rw[h3];rfl⟩
 have hnew:=hret.new i (by rw[gi2];rfl);have mix:∀x,x≠i->(getH s.hp x).isSome->∀b,b∈G'.loc i->b∉G.loc x:=fun x h1 h2 b hb hbx=>by
  obtain⟨r,hx⟩:=Option.isSome_iff_exists.1 h2;rcases hnew b hb with h|h
  ·exact hr.disj i x hsi h2 (fun e=>h1 e.symm) b (hown b h) hbx
  ·have:=bound x r hx b hbx;omega
 refine⟨G2,⟨hr.size,hr.defers,fun x v hx=>hm (hocc.1 x v hx) (hr.slots x v hx),fun x r hx=>?_,fun x y h1 h2 hxy b hb=>?_,fun x h1 b hb=>?_,hr.frm.trans hret.frm ?_,hret.top,fun x l hl=>?_⟩, ?_⟩
 ·rcases cases3 x r hx with ⟨rfl,rfl⟩|⟨e1,e2,h3⟩
  ·intro b hb;rw[l1] at hb;exact hret.heap i _ gi2 b hb
  ·have hh:=hr.heap x r h3;have n2:=hocc.2 x r h3;have hb0:=blk x r e1 h3;cases r with
   |box cs=>
    obtain⟨b,us,e,e1',e2',e3,e4,e5⟩:=hh;obtain⟨f1,f2⟩:=hb0 b (by simp[e1']);exact⟨b,us,e,(l2 x e2).trans e1',f1.trans e2',e3,f2.trans e4,fun q hq hv=>hm (fun hid=>n2 (xay (xao hq) hid)) (e5 q hq hv)⟩
   |tok n' k'=>intro b hb;rw[l2 x e2] at hb;exact Nat.lt_of_lt_of_le (hh b hb) hret.frm.size
   |map ks=>
    obtain⟨b,es,cl,h5,h6,h7,h8⟩:=hh;obtain⟨f1,f2⟩:=hb0 b (by simp[h5]);exact⟨b,es,cl,(l2 x e2).trans h5,f1.trans h6,f2.trans h7,h8⟩
   |tree cs=>exact zaW hh (l2 x e2) hb0 hret.frm.size (fun y hy v=>hm (fun hid=>n2 (xay hy hid)))
 ·rcases src x h1 with rfl|⟨a1,a2,a3⟩<;>rcases src y h2 with rfl|⟨b1,b2,b3⟩
  ·exact absurd Z hxy
  ·rw[l1] at hb;rw[l2 y b2];exact mix y b1 b3 b hb
  ·rw[l2 x a2] at hb;rw[l1];exact fun h=>mix x a1 a3 b h hb
  ·rw[l2 x a2] at hb;rw[l2 y b2];exact hr.disj x y a3 b3 hxy b hb
 ·rcases src x h1 with rfl|⟨a1,a2,a3⟩
  ·rw[l1] at hb;rcases hnew b hb with h|h
   ·exact hr.new i hsi b (hown b h)
   ·right;have:=hr.frm.size;omega
  ·rw[l2 x a2] at hb;exact hr.new x a3 b hb
 ·intro b hb;exact hr.new i hsi b (hown b hb)
 ·have hk:=hr.kept x l hl;have e1:x≠i:=fun e=>by
   have h1:=hk.2.2;have h2:tokf s.hp x=some (n,k):=e ▸ zak.2 hi;rw[h2] at h1;cases h1
  have e2:x≠j:=fun e=>by
   have h1:=hk.2.1;have h2:getH s.hp x=none:=e ▸ hj;rw[h2] at h1;cases h1
  refine⟨by rw[l2 x e2];exact hk.1, ?_, ?_⟩
  ·show(getH hp' x).isSome=true
   rw[g3 x e1 e2];exact hk.2.1
  ·show tokf hp' x=none
   have:=hk.2.2;unfold tokf at this ⊢;rw[g3 x e1 e2];exact this
 ·exact hret.res.gl_move (G':=G2) (zak.2 gi2) Z l1 (zak.2 g2)
end
section
variable {c:Ctx}{all:Array Oper}{chk:List Rec->Prop}{os:List Oper}{recs:List Rec}{env:Env}{hp:Hp}{Q:St->Prop}
variable {d ty:Nat}{pos:String}{af:Array Edge}{g:Option (Nat×Bool)}{pg:List (Nat×AV)}
theorem xbw {f:FuncId}{args:Array Operand}{ats:Array TypeId}{xs:List Operand}{vs avs:List AV}{i n k m:Nat}{ys:List (List D)} (j:Nat) (hc:Callee c.P f)
  (hf:FnD c.P f avs [(i,some (.tok n k))] (.gl i ys) [(i,some (.tok m k))])
  (hargs:args=xs.toArray) (hg:GH all env g pg) (hd:Nat.blt d c.n=true) (hx:opdL env xs=some vs) (hle:LeL vs avs) (hi:getH hp i=some (.tok n k)) (hcr:zaq env hp [j]=true)
  (hn:Walk c all chk os (zan (pg++opFL xs vs) [(i,.tok n k)] [j] ⟨some (d,.gl j ys),[(i,none),(j,some (.tok m k))]⟩::recs) ⟨(d,.gl j ys)::env,(i,none)::(j,some (.tok m k))::hp⟩ Q):
  Walk c all chk (⟨some d,.call ⟨.value (.func f),args,ats⟩,ty,pos,af,g⟩::os) recs ⟨env,hp⟩ Q:=by
 subst hargs;refine⟨pg++opFL xs vs,[(i,.tok n k)],[j],_, ?_,zaz hg.facts (zbR hx),hh1 hi,zbk hcr,hn⟩;intro s a w hrel hp' hh hcr' K Q' hK;obtain⟨G,hr⟩:=hrel;have hrl:=zcr hr (zbS hx (fun p hm=>hp' p (by simp[hm])));have hle':∀ {l m:List AV},LeL l m->∀i (h1:i<l.length) (h2:i<m.length),LeA l[i] m[i]:=by
  intro l;induction l with
  |nil=>intro m _ i h1;simp at h1
  |cons x r ih=>
   intro m h i h1 h2;cases h with
   |cons h t=>
    cases i with
    |zero=>exact h
    |succ i=>exact ih t i (by simpa using h1) (by simpa using h2)
 have hall:AllR G (tokf s.hp) w avs (xs.map a.eval).toArray:=by
  refine⟨by simp[<-hle.len,hrl.1],fun i hi hv=>?_⟩;have h1:i<vs.length:=by rw[hle.len];exact hi
  have:=(hrl.2 i h1 (by rw[<-hrl.1];exact h1)).le (hle' hle i h1 hi);simpa using this
 have hcalls:=zpj hr hf hall (hh1' hh) (hcr' j og).1 (hcr' j og).2;unfold wpO;rw[if_pos (hg.gf.wanted hr (fun p hm=>hp' p (by simp[hm])))];unfold Oper.wp;have hrun:(execOp a.eval ⟨some d,.call ⟨.value (.func f),xs.toArray,ats⟩,ty,pos,af,g⟩).run c.P w = .ok (.enter f (xs.map a.eval).toArray) w:=by
  have:=hc.run (xs.map a.eval).toArray w;simp only[execOp,resolve,Sem.run_bind,Act.eval,Deferred.ofValue,Sem.run_pure,Result.andThen_ok,invoke];simpa using this
 rw[hrun,Oper.upon_enter];refine hcalls.mono ?_;rintro e w' ⟨v,rfl,G',hR,hA⟩
 exact hK _ _ ⟨G',hR.put hA hd⟩
end
section
variable {c:Ctx}{all:Array Oper}{K:Kt}
theorem zmK {Q:St->Prop}{Q':Exit->Act->World->Prop}{l2:List Nat} (hQ:∀s a w,Rel c s a w->Q s->wpOps c.P all Q' l2 a w):
  ∀(l:List Nat) (os:List Oper) (recs:List Rec) (s:St) (a:Act) (w:World),l.filterMap (all[·]?)=os->(∀i,i∈l->i<all.size)->
   Walk c all (fun _=>True) os recs s Q->Rel c s a w->wpOps c.P all Q' (l++l2) a w
 | [],os,recs,s,a,w,hl,_,hw,hr=>by
  simp only[List.filterMap_nil] at hl;subst hl;exact hQ s a w hr hw.2
 |i::l,os,recs,s,a,w,hl,hlt,hw,hr=>by
  have hi:i<all.size:=hlt i og;have ho:all[i]?=some all[i]:=by simp[hi]
  rw[List.filterMap_cons] at hl;simp only[ho] at hl;subst hl;obtain⟨pre,prh,cr,u,hrule,h1,h2,h3,hrest⟩:=hw;rw[xai,wpOps_cons];unfold wpOp;simp only[ho];have:=hrule s a w hr h1 h2 h3 (wpOps c.P all Q' (l++l2)) Q' (fun a' w' hr'=>
   zmK hQ l _ _ _ a' w' rfl (fun j hj=>hlt j (by simp[hj])) hrest hr')
  unfold wpO at this;split
  ·rename_i hw;simp only[hw,if_true] at this;exact .inl this
  ·rename_i hw;simp only[hw] at this;exact this
theorem zqK (all:Array Oper):(List.range all.size).filterMap (all[·]?)=all.toList:=by
 have h1:(List.range all.size).filterMap (all[·]?)=(List.range all.toList.length).filterMap (all.toList[·]?):=by simp
 rw[h1];generalize all.toList=l;induction l with
 |nil=>rfl
 |cons x l ih=>
  rw[xab,List.range_succ_eq_map,List.filterMap_cons];simp only[List.getElem?_cons_zero,List.filterMap_map];exact xam (List.cons x) ih
theorem zfJ {all:Array Oper}:∀ {l:List Nat},(∀i,i∈l->i<all.size)->l.filterMap (all[·]?)=l.map (fun i=>all[i]!)
 | [],_=>rfl
 |i::r,h=>by
  have hi:i<all.size:=h i og;have ho:all[i]?=some all[i]:=by simp[hi]
  rw[List.filterMap_cons];simp only[ho,xaf];rw[zfJ (fun j hj=>h j (by simp[hj]))];simp[hi]
theorem zoG (all:Array Oper) (k j:Nat):(((List.range all.size).drop k).take j).filterMap (all[·]?)=(all.toList.drop k).take j:=by
 have h0:=zqK all;rw[zfJ (fun i hi=>by simpa using hi)] at h0;rw[zfJ (fun i hi=>by simpa using List.mem_of_mem_drop (List.mem_of_mem_take hi)),<-h0,List.map_take,List.map_drop]
def WRest (c:Ctx) (all:Array Oper) (k:Nat) (s:St) (K:Kt):Prop:=∀a w,Rel c s a w->wpOps c.P all (K.post c) ((List.range all.size).drop k) a w
theorem xaF {id:Nat}{s:St} (h:WRest c all 0 s K):CWp c (.region id all false) s K:=by
 intro a w hr;have:=h a w hr;rw[List.drop_zero] at this;exact wp_region this
theorem xbp {k:Nat}{s:St} (h:Walk c all (fun _=>True) (all.toList.drop k) [] s K.n):WRest c all k s K:=by
 intro a w hr;have e:=zoG all k (all.size-k);rw[List.take_of_length_le og,List.take_of_length_le og] at e;exact zkr (Q:=K.n) (fun s a w hr hq=>⟨s,hr,hq⟩) _ _ [] s a w e (fun i hi=>by simpa using List.mem_of_mem_drop hi) h hr
theorem xbq {k:Nat}{env:Env}{hp:Hp} (j:Nat) (E:Env) (ks:List Nat)
  (h1:Walk c all (fun _=>True) ((all.toList.drop k).take j) [] ⟨env,hp⟩ (fun s1=>Sub ⟨E++(zbW ks++env),[]++hp⟩ s1))
  (h2:WRest c all (k+j) ⟨E++(zbW ks++env),hp⟩ K):WRest c all k ⟨env,hp⟩ K:=by
 intro a w hr;have hk:∀id l,c.kept id=some l->(getH hp id).isSome:=by
  obtain⟨G,hg⟩:=hr;exact fun id l hl=>(hg.kept id l hl).2.1
 have e:(List.range all.size).drop k=((List.range all.size).drop k).take j++(List.range all.size).drop (k+j):=by
  conv=>lhs;rw[<-List.take_append_drop j ((List.range all.size).drop k),List.drop_drop]
 rw[e];exact zmK (fun s1 a1 w1 hr1 hs=>h2 a1 w1 (hr1.sub hs hk)) _ _ [] _ a w (zoG all k j) (fun i hi=>by simpa using List.mem_of_mem_drop (List.mem_of_mem_take hi)) h1 hr
end
theorem zmt {i j:Nat}{b:Env}{t:Nat}{v:AV}:∀ {a:Env},getE (a++zdL i j b) t=some v->∃u,getE (a++b) t=some u/\(v = .any\/v=u)
 | [],h=>by
  obtain⟨u,h1,h2⟩:=zgK (l:=b) h;exact⟨u,h1,h2.imp_right (fun h=>h.1)⟩
 |(k,x)::r,h=>by
  simp only[xai,getE] at h ⊢;cases hb:Nat.beq k t with
  |true=>simp only[hb,cond_true,xae] at h;exact⟨x,by simp,.inr h.symm⟩
  |false=>
   simp only[hb,cond_false] at h;obtain⟨u,h1,h2⟩:=zmt (a:=r) h;exact⟨u,by simpa using h1,h2⟩
theorem Sub.kill {i j:Nat}{a b:Env}{hp:Hp}{s:St} (h:Sub ⟨a++b,hp⟩ s):Sub ⟨a++zdL i j b,hp⟩ s:=by
 refine⟨fun t v hv=>?_,h.hp⟩;obtain⟨u,h1,h2⟩:=zmt hv;rcases h2 with rfl|rfl
 ·exact .inl Z
 ·exact h.env t v h1
section
variable {c:Ctx}{K:Kt}
theorem xaC (i j:Nat){ι:Type}{body:Code}{env:Env}{hp:Hp}{ids:List Nat} (hkp:KeptIn c.kept ids) (E:ι->Env) (ks:List Nat) (H:ι->Hp) (good:ι->Prop) (μ:ι->Nat) (x0:ι) (h0:good x0)
  (he0:SubE (E x0) env) (hh0:SubH (H x0) hp) (hk:∀x,ids.all (fun id=>(getH (H x++hp) id).isSome)=true)
  (hround:∀x,good x->CWp c body ⟨E x++(zbW ks++zdL i j env),H x++hp⟩ (K.with fun s'=>∃x',good x'/\μ x'<μ x/\Sub ⟨E x'++(zbW ks++zdL i j env),H x'++hp⟩ s')):
  CWp c (.loop body) ⟨env,hp⟩ K:=by
 refine CWp.loop (fun x=>⟨E x++(zbW ks++zdL i j env),H x++hp⟩) good μ x0 h0 ?_ (fun x=>hkp.ok (hk x)) hround;have h:Sub ⟨E x0++(zbW ks++env),H x0++hp⟩ ⟨env,hp⟩:=Sub.x og (by simp[zew]) he0 og (by simp[zcU]) hh0;rw[<-xar] at h;have:=h.kill (i:=i) (j:=j);rw[xar] at this;exact this
end
theorem xaN {P:Program}{f:FuncId}{i k m:Nat}{rest:List AV}{ys:List (List D)} (hrest:AV.idsL rest=[]) (h:FnD P f (.gl i []::rest) [(i,some (.tok 0 k))] (.gl i ys) [(i,some (.tok m k))]):
  FnD P f (.nils::rest) [] (.d (.sl ys)) []:=by
 intro G w vals hok;let G1:Gh:={ G with loc:=fun _=>[] }
 have only:∀ {id:Nat}{x y:Res},getH [(i,some x)] id=some y->id=i/\y=x:=fun {id x y} h=>by
  rw[zad] at h;split at h
  ·rename_i e;cases h;exact⟨e,rfl⟩
  ·cases h
 have gi:getH [(i,some (Res.tok 0 k))] i=some (.tok 0 k):=by simp[getH]
 have hok1:HOK G1 w [(i,some (.tok 0 k))] (.gl i []::rest) vals:=by
  refine⟨⟨hok.args.size,fun q hq hv=>?_⟩,fun id r hx=>?_,fun id id' h1 h2 h3=>?_,hok.top⟩
  ·have h1:=hok.args.rel q hq hv;cases q with
   |zero=>
    simp only[List.getElem_cons_zero] at h1 ⊢;generalize vals[0]=v at *;cases h1
    refine .gl .nil (fun n k' hT=>?_);have:=(only (zak.1 hT)).2;cases this
    exact⟨Nat.le_refl _,fun _=>⟨by simp,.inl ⟨rfl,rfl,rfl⟩⟩⟩
   |succ q=>
    simp only[List.getElem_cons_succ] at h1 ⊢;have hn:∀id,id∉(rest[q]'(by simpa using hq)).ids:=fun id hid=>by
     have:=xay (xao _) hid;rw[hrest] at this;simp at this
    exact h1.mono (fun _ _ ho=>⟨ho,Z⟩) (fun id hid=>(hn id hid).elim) (fun id hid=>(hn id hid).elim)
  ·obtain⟨rfl,rfl⟩:=only hx;intro b hb;simp[G1] at hb
  ·obtain⟨x,hx⟩:=Option.isSome_iff_exists.1 h1;obtain⟨y,hy⟩:=Option.isSome_iff_exists.1 h2;exact absurd ((only hx).1.trans (only hy).1.symm) h3
 refine(h G1 w vals hok1).mono ?_;rintro e w' ⟨v,r,hp',G',rfl,⟨rfl,rfl⟩,hret⟩
 have own1:∀b,b∉zbE G1 [(i,some (Res.tok 0 k))]:=fun b hb=>by
  obtain⟨id,_,h2⟩:=zcE.1 hb;simp[G1] at h2
 have hres:RelD G'.F w' (.sl ys) v:=by
  have h1:=hret.res;generalize hx:AV.gl i ys=x at h1;cases h1 with
  |gl h _=>cases hx;exact h
  |_=>cases hx
 refine⟨v,_,_,G',rfl,⟨rfl,rfl⟩,.d hres,fun id x hx=>?_,fun id id' h1=>?_,fun id h1=>?_, ?_,hret.top,fun id hi=>?_⟩
 ·simp[getH] at hx
 ·simp[getH] at h1
 ·simp[getH] at h1
 ·have hf:=hret.frm;exact⟨hf.os,hf.tape,hf.output,hf.size,fun b hb hn=>hf.block b hb (own1 b),hf.cell⟩
 ·simp[zbr,getH] at hi
theorem zhh {P:Program}{w:World}{G:Gh}{T:TokF}:∀ {d:Nat}{fs:List Field}{i:Nat}{xs ys:List AV}{b:Bool}{us vs:Array Value},zdy P i fs=true->eqC xs ys=some b->fs.length=xs.length->
  (∀j (h:j<xs.length),∃u,us[i+j]?=some u/\RelA G T w xs[j] u)->(∀j (h:j<ys.length),∃u,vs[i+j]?=some u/\RelA G T w ys[j] u)->
  (Op.eqFields (d+1) us vs fs).run P w = .ok b w
 |d,[],i,[],[],b,us,vs,_,h,_,_,_=>by simp only[eqC,xae] at h;subst h;simp[Op.eqFields]
 |d,[],i,[],_::_,b,us,vs,_,h,_,_,_=>by simp[eqC] at h
 |d,[],i,_::_,_,b,us,vs,_,_,h,_,_=>by simp at h
 |d,f::fs,i,[],_,b,us,vs,_,_,h,_,_=>by simp at h
 |d,f::fs,i,x::xs,ys,b,us,vs,hf,he,hl,hx,hy=>by
  cases ys with
  |nil=>unfold eqC at he;split at he<;>simp_all
  |cons y ys=>
   unfold eqC at he;split at he
   ·rename_i h1 h2;simp at h1
   ·rename_i a r b' s h1 h2;simp only[List.cons.injEq] at h1 h2;obtain⟨rfl,rfl⟩:=h1;obtain⟨rfl,rfl⟩:=h2;split at he
    ·rename_i t ht;simp only[xae] at he;subst he;simp only[zdy,xad,bne_iff_ne] at hf;obtain⟨⟨⟨f1,f2⟩,f3⟩,f4⟩:=hf;have f2':=xap f2;obtain⟨u,hu,hru⟩:=hx 0 og;obtain⟨v,hv,hrv⟩:=hy 0 og;have hu':=hru.int_eq;have hv':=hrv.int_eq;subst hu' hv';have ih:=zhh (P:=P) (w:=w) (d:=d) (us:=us) (vs:=vs) f4 ht (by simpa using hl)
      (fun j h=>by obtain⟨u,h1,h2⟩:=hx (j+1) (by simpa using h);exact⟨u,by rw[show i+1+j=i+(j+1) by omega];exact h1,by simpa using h2⟩)
      (fun j h=>by obtain⟨u,h1,h2⟩:=hy (j+1) (by simpa using h);exact⟨u,by rw[show i+1+j=i+(j+1) by omega];exact h1,by simpa using h2⟩)
     split at f3
     ·rename_i kd hk;have p1:(part f.type us f.offset).run P w = .ok (.int .i64 a) w:=by
       have hu0:us[i]?=some (.int .i64 a):=by simpa using hu
       simp only[part,isAgg,Sem.run_bind,run_underlying hk,Result.andThen_ok,Sem.run_pure,f2',hu0,Bool.false_eq_true,if_false]
      have p2:(part f.type vs f.offset).run P w = .ok (.int .i64 b') w:=by
       have hv0:vs[i]?=some (.int .i64 b'):=by simpa using hv
       simp only[part,isAgg,Sem.run_bind,run_underlying hk,Result.andThen_ok,Sem.run_pure,f2',hv0,Bool.false_eq_true,if_false]
      simp only[Op.eqFields];rw[if_pos f1];simp only[Sem.run_bind,p1,p2,Result.andThen_ok,run_equalIn_int w d f.type .i64 kd a b' hk];by_cases hab:a=b'
      ·subst hab;simp[ih]
      ·simp[hab]
     ·cases f3
    ·cases he
   ·cases he
def subF (P:Program) (f:Field):Nat:=match P.underlying f.type with
 |some (.int _)=>1
 |some (.struct _)=>(P.fieldsOf f.type).size
 |_=>0
def zky (P:Program):List Field->Nat
 | []=>0
 |f::r=>subF P f+zky P r
def zf0 (P:Program):Nat->List Field->Bool
 |_,[]=>true
 |i,f::r=>(f.name != "_")&&Nat.beq f.offset i&&(match P.underlying f.type with
  |some (.int _)=>true
  |some (.struct _)=>(match P.stoodInHeld f.type with|true=>false|false=>true)&&zdy P 0 (P.fieldsOf f.type).toList&&(match zm4 P f.type with|some (k,true)=>Nat.beq k (P.fieldsOf f.type).size|_=>false)
  |_=>false)&&zf0 P (i+subF P f) r
structure EqT2 (P:Program) (t k:Nat):Prop where
 und:P.underlying t=some (.struct (P.fieldsOf t))
 held:P.stoodInHeld t=false
 grd:P.eqGuardType P.depth t=false
 fld:zf0 P 0 (P.fieldsOf t).toList=true
 len:zky P (P.fieldsOf t).toList=k
theorem zql {k:Nat}:∀ {xs ys:List AV}{b:Bool},eqC xs ys=some b->k<=xs.length->∃b1 b2,eqC (xs.take k) (ys.take k)=some b1/\eqC (xs.drop k) (ys.drop k)=some b2/\b=(b1&&b2):=by
 induction k with
 |zero=>intro xs ys b h _;exact⟨true,b,by simp[eqC],by simpa using h,by simp⟩
 |succ k ih=>
  intro xs ys b h hk;cases xs with
  |nil=>simp at hk
  |cons x r=>
   cases ys with
   |nil=>unfold eqC at h;split at h<;>simp_all
   |cons y s=>
    unfold eqC at h;split at h
    ·rename_i h1 h2;simp at h1
    ·rename_i a r' b' s' h1 h2;simp only[List.cons.injEq] at h1 h2;obtain⟨rfl,rfl⟩:=h1;obtain⟨rfl,rfl⟩:=h2;split at h
     ·rename_i t ht;simp only[xae] at h;subst h;obtain⟨b1,b2,e1,e2,e3⟩:=ih ht (by simpa using hk);refine⟨decide (a=b')&&b1,b2,by simp[eqC,e1],by simpa using e2,by rw[e3,Bool.and_assoc]⟩
     ·cases h
    ·cases h
theorem zhg {P:Program}{w:World}{G:Gh}{T:TokF}:∀ {fs:List Field}{i:Nat}{xs ys:List AV}{b:Bool}{us vs:Array Value},zf0 P i fs=true->eqC xs ys=some b->zky P fs=xs.length->
  (∀j (h:j<xs.length),∃u,us[i+j]?=some u/\RelA G T w xs[j] u)->(∀j (h:j<ys.length),∃u,vs[i+j]?=some u/\RelA G T w ys[j] u)->
  (Op.eqFields 9999 us vs fs).run P w = .ok b w
 | [],i,xs,ys,b,us,vs,_,h,hl,_,_=>by
  have e:xs=[]:=List.eq_nil_of_length_eq_zero hl.symm;subst e;have e2:=zlH h;have e:ys=[]:=List.eq_nil_of_length_eq_zero e2.symm;subst e;simp only[eqC,xae] at h;subst h;simp[Op.eqFields]
 |f::fs,i,xs,ys,b,us,vs,hf,he,hl,hx,hy=>by
  have hlen:=zlH he;simp only[zky] at hl;simp only[zf0,xad,bne_iff_ne] at hf;obtain⟨⟨⟨f1,f2⟩,f3⟩,f4⟩:=hf;have f2':=xap f2;obtain⟨b1,b2,e1,e2,e3⟩:=zql (k:=subF P f) he od;have ih:=zhg (P:=P) (w:=w) (us:=us) (vs:=vs) f4 e2 (by rw[List.length_drop];omega)
   (fun j h=>by
    rw[List.length_drop] at h;obtain⟨u,h1,h2⟩:=hx (subF P f+j) od;exact⟨u,by rw[Nat.add_assoc];exact h1,by rw[List.getElem_drop];exact h2⟩)
   (fun j h=>by
    rw[List.length_drop] at h;obtain⟨u,h1,h2⟩:=hy (subF P f+j) od;exact⟨u,by rw[Nat.add_assoc];exact h1,by rw[List.getElem_drop];exact h2⟩)
  have key:∃u v,(part f.type us f.offset).run P w = .ok u w/\(part f.type vs f.offset).run P w = .ok v w/\(Op.equalIn 9999 f.type u v).run P w = .ok b1 w:=by
   split at f3
   ·rename_i kd hk;have hs:subF P f=1:=by unfold subF;rw[hk]
    rw[hs] at e1 hl;obtain⟨u,hu,hru⟩:=hx 0 od;obtain⟨v,hv,hrv⟩:=hy 0 od;rcases xs with _|⟨x,xr⟩
    ·simp at hl
    rcases ys with _|⟨y,yr⟩
    ·simp at hlen
    simp only[List.getElem_cons_zero] at hru hrv;simp only[List.take_succ_cons,List.take_zero] at e1;unfold eqC at e1;split at e1
    ·rename_i h1 _;simp at h1
    ·rename_i a r b' s h1 h2;simp only[List.cons.injEq] at h1 h2;obtain⟨rfl,rfl⟩:=h1;obtain⟨rfl,rfl⟩:=h2;simp only[eqC,Bool.and_true,xae] at e1;have hu':=hru.int_eq;have hv':=hrv.int_eq;subst hu' hv';refine⟨.int .i64 a,.int .i64 b', ?_, ?_, ?_⟩
     ·have hu0:us[i]?=some (.int .i64 a):=by simpa using hu
      simp only[part,isAgg,Sem.run_bind,run_underlying hk,Result.andThen_ok,Sem.run_pure,f2',hu0,Bool.false_eq_true,if_false]
     ·have hv0:vs[i]?=some (.int .i64 b'):=by simpa using hv
      simp only[part,isAgg,Sem.run_bind,run_underlying hk,Result.andThen_ok,Sem.run_pure,f2',hv0,Bool.false_eq_true,if_false]
     ·rw[show(9999:Nat)=9998+1 from rfl,run_equalIn_int w 9998 f.type .i64 kd a b' hk,<-e1];congr 1
    ·cases e1
   ·rename_i fs' hk;simp only[xad] at f3;obtain⟨⟨g1,g2⟩,g3⟩:=f3;have hheld:P.stoodInHeld f.type=false:=by
     split at g1
     ·cases g1
     ·assumption
    have hund:P.underlying f.type=some (.struct (P.fieldsOf f.type)):=by rw[hk];simp[Program.fieldsOf,hk]
    have hs:subF P f=(P.fieldsOf f.type).size:=by unfold subF;rw[hk]
    have hty:TyS P f.type (P.fieldsOf f.type).size true:=by
     split at g3
     ·rename_i k hg;rw[<-xap g3];exact xba hg
     ·cases g3
    have hpart:∀cs:Array Value,(part f.type cs f.offset).run P w = .ok (.agg (cs.extract i (i+(P.fieldsOf f.type).size))) w:=fun cs=>by
     simp only[part,Sem.run_bind,hty.run_agg,hty.run_size,Result.andThen_ok,Sem.run_pure,f2',if_true]
    refine⟨_,_,hpart us,hpart vs, ?_⟩;rw[show(9999:Nat)=9998+1 from rfl,run_equalIn_agg w 9998 f.type _ _ hund hheld];refine zhh (d:=9997) (G:=G) (T:=T) (i:=0) g2 e1 (by rw[List.length_take,Array.length_toList,hs];omega) (fun j h=>?_) (fun j h=>?_)
    ·rw[List.length_take] at h;obtain⟨u,h1,h2⟩:=hx j od;refine⟨u, ?_,by rw[List.getElem_take];exact h2⟩;rw[Array.getElem?_extract,if_pos (by have:=(Array.getElem?_eq_some_iff.1 h1).1;omega),Nat.zero_add];exact h1
    ·rw[List.length_take] at h;obtain⟨u,h1,h2⟩:=hy j od;refine⟨u, ?_,by rw[List.getElem_take];exact h2⟩;rw[Array.getElem?_extract,if_pos (by have:=(Array.getElem?_eq_some_iff.1 h1).1;omega),Nat.zero_add];exact h1
   ·cases f3
  obtain⟨u,v,p1,p2,p3⟩:=key;simp only[Op.eqFields];rw[if_pos f1];simp only[Sem.run_bind,p1,p2,Result.andThen_ok,p3];subst e3;cases b1 with
  |true=>simp[ih]
  |false=>simp
theorem zrv {P:Program}{w:World}{G:Gh}{T:TokF}{t:TypeId}{xs ys:List AV}{b:Bool}{u v:Value}{k:Nat} (ht:EqT2 P t k) (hl0:xs.length=k) (he:eqC xs ys=some b) (hu:RelA G T w (.agg xs) u) (hv:RelA G T w (.agg ys) v):
  ∃us vs,u = .agg us/\v = .agg vs/\(Op.equalIn 10000 t (.agg us) (.agg vs)).run P w = .ok b w:=by
 cases hu with
 |agg h1 h2=>
  cases hv with
  |agg h3 h4=>
   refine⟨_,_,rfl,rfl, ?_⟩;rw[show(10000:Nat)=9999+1 from rfl,run_equalIn_agg w 9999 t _ _ ht.und ht.held];refine zhg (G:=G) (T:=T) (i:=0) ht.fld he (ht.len.trans hl0.symm) (fun j h=>?_) (fun j h=>?_)
   ·rename_i us vs;have hj:j<us.size:=by rw[h1];exact h
    exact⟨us[j],by rw[Nat.zero_add,Array.getElem?_eq_getElem hj],h2 j h hj⟩
   ·rename_i us vs;have hj:j<vs.size:=by rw[h3];exact h
    exact⟨vs[j],by rw[Nat.zero_add,Array.getElem?_eq_getElem hj],h4 j h hj⟩
section
variable {c:Ctx}{all:Array Oper}{chk:List Rec->Prop}{os:List Oper}{recs:List Rec}{env:Env}{hp:Hp}{Q:St->Prop}
variable {d ty:Nat}{pos:String}{af:Array Edge}{g:Option (Nat×Bool)}{pg:List (Nat×AV)}
variable {t yt:TypeId}{x y:Operand}
theorem Walk.eqV2 {xs ys:List AV}{b:Bool}{k:Nat} (ht:EqT2 c.P t k) (hg:GH all env g pg) (hd:Nat.blt d c.n=true) (hx:opd env x=some (.agg xs)) (hy:opd env y=some (.agg ys)) (he:eqC xs ys=some b) (hl:xs.length=k)
  (hn:Walk c all chk os (zan (pg++(opF x (.agg xs)++opF y (.agg ys))) [] [] ⟨some (d,.d (.bool b)),[]⟩::recs) ⟨(d,.d (.bool b))::env,hp⟩ Q):
  Walk c all chk (⟨some d,.binOp .eql t x y yt,ty,pos,af,g⟩::os) recs ⟨env,hp⟩ Q:=by
 refine xbT hg hd hx hy (fun a G T w h1 h2=>⟨.bool b, ?_,.d (.bool _)⟩) hn;obtain⟨us,vs,e1,e2,e3⟩:=zrv ht hl he h1 h2;simp only[execOp,e1,e2];simp only[Sem.run_bind,run_eqGuard_agg w .eql t x y us vs ht.grd,Result.andThen_ok,run_eql_struct,e3,Sem.run_pure]
end
structure Tabs where
 ty:Nat->Option (Nat×Bool)
 sl:Nat->Bool
 st:Nat->Bool
 fd:Nat->Nat->Option Nat
structure TabsOK (P:Program) (T:Tabs):Prop where
 ty:∀t k b,T.ty t=some (k,b)->TyS P t k b
 sl:∀t,T.sl t=true->∃e k y,SlT P t e k y
 st:∀t,T.st t=true->P.underlying t=some .string
 fd:∀t f o,T.fd t f=some o->Fd P t f o
structure Sp (b:Bool) (X Y:Prop):Prop where
 t:b=true->X
 f:b=false->Y
structure Ar (n:Int) (X:Prop):Prop where
 b:I64 n
 k:X
def kget:List (Nat×Bool)->Nat->Option Bool
 | [],_=>none
 |(k,v)::r,i=>bif Nat.beq k i then some v else kget r i
def kdel:List (Nat×Bool)->Nat->List (Nat×Bool)
 | [],_=>[]
 |(k,v)::r,i=>bif Nat.beq k i then kdel r i else (k,v)::kdel r i
def memN:List Nat->Nat->Bool
 | [],_=>false
 |k::r,i=>bif Nat.beq k i then true else memN r i
def KN (env:Env):List (Nat×Bool)->Prop
 | []=>True
 |(e,v)::r=>(∃b,getE env e=some (.d (.bool b))/\b=v)/\KN env r
abbrev Cont:=List (Nat×AV)->List (Nat×Res)->AV->Prop
def evB (op:BinOp) (u v:D) (k:D->Prop) (stuck:Prop):Prop:=
 match u,v with
 | .int a m,.int b n=>match a,b with
  | .i64,.i64=>match op with
   | .eql=>k (.bool (decide (m=n)))
   | .neq=>k (.bool (!decide (m=n)))
   | .lss=>k (.bool (decide (m<n)))
   | .leq=>k (.bool (decide (m<=n)))
   | .gtr=>k (.bool (decide (n<m)))
   | .geq=>k (.bool (decide (n<=m)))
   | .add=>Ar (m+n) (k (.int .i64 (m+n)))
   | .sub=>Ar (m-n) (k (.int .i64 (m-n)))
   | .mul=>Ar (m*n) (k (.int .i64 (m*n)))
   |_=>stuck
  | .u8,.u8=>match op with
   | .eql=>k (.bool (decide (m=n)))
   | .neq=>k (.bool (!decide (m=n)))
   | .lss=>k (.bool (decide (m<n)))
   | .leq=>k (.bool (decide (m<=n)))
   | .gtr=>k (.bool (decide (n<m)))
   | .geq=>k (.bool (decide (n<=m)))
   |_=>stuck
  |_,_=>stuck
 | .str l,.str m=>match op with
  | .eql=>k (.bool (decide (l=m)))
  | .neq=>k (.bool (!decide (l=m)))
  |_=>stuck
 |_,_=>stuck
def evV (T:Tabs) (env:Env) (hp:Hp) (kn:List (Nat×Bool)) (k:Cont) (stuck:Prop) (op:Op):Prop:=
 match op with
 | .move x=>match opd env x with
  |some v=>k (opF x v) [] v
  |none=>stuck
 | .assign x=>match opd env x with
  |some v=>k (opF x v) [] v
  |none=>stuck
 | .pick (.tmp t) y z=>match getE env t with
  |some (.d (.bool b))=>match kget kn t with
   |some true=>match opd env y with
    |some v=>k (opF (.tmp t) (.d (.bool b))++opF y v) [] v
    |none=>stuck
   |some false=>match opd env z with
    |some v=>k (opF (.tmp t) (.d (.bool b))++opF z v) [] v
    |none=>stuck
   |none=>stuck
  |_=>stuck
 | .binOp op _ x y _=>match opd env x,opd env y with
  |some (.d u),some (.d v)=>evB op u v (fun r=>k (opF x (.d u)++opF y (.d v)) [] (.d r)) stuck
  |_,_=>stuck
 | .unOp .not _ x=>match opd env x with
  |some (.d (.bool b))=>k (opF x (.d (.bool b))) [] (.d (.bool (!b)))
  |_=>stuck
 | .load t x=>match opd env x with
  |some (.ref id off)=>match getH hp id with
   |some (.box cs)=>match T.ty t with
    |some (_,false)=>match cs[off]? with
     |some v=>k (opF x (.ref id off)) [(id,.box cs)] v
     |none=>stuck
    |some (n,true)=>match cutC cs off n with
     |some r=>k (opF x (.ref id off)) [(id,.box cs)] (.agg r)
     |none=>stuck
    |none=>stuck
   |_=>stuck
  |some (.d (.ptr cs off))=>match T.ty t with
   |some (_,false)=>match cs[off]? with
    |some v=>k (opF x (.d (.ptr cs off))) [] (.d v)
    |none=>stuck
   |some (n,true)=>match cutC cs off n with
    |some r=>match mapD r with
     |some r'=>k (opF x (.d (.ptr cs off))) [] (.agg r')
     |none=>stuck
    |none=>stuck
   |none=>stuck
  |_=>stuck
 | .fieldAddr t x f=>match opd env x with
  |some (.ref id off)=>match T.fd t f with
   |some o=>k (opF x (.ref id off)) [] (.ref id (off+o))
   |none=>stuck
  |some (.d (.ptr cs off))=>match T.fd t f with
   |some o=>k (opF x (.d (.ptr cs off))) [] (.d (.ptr cs (off+o)))
   |none=>stuck
  |_=>stuck
 | .extract x i=>match opd env x with
  |some (.tup vs)=>match vs[i]? with
   |some v=>k (opF x (.tup vs)) [] v
   |none=>stuck
  |_=>stuck
 | .nilCheck x=>match opd env x with
  |some (.ref id off)=>k (opF x (.ref id off)) [] (.ref id off)
  |some (.d (.ptr cs off))=>k (opF x (.d (.ptr cs off))) [] (.d (.ptr cs off))
  |_=>stuck
 | .call ⟨.builtin .len,⟨[x]⟩,⟨[at_]⟩⟩=>match opd env x with
  |some (.d (.str l))=>match T.st at_ with
   |true=>k (opF x (.d (.str l))) [] (.d (.i l.length))
   |false=>stuck
  |some (.d (.sl xs))=>match T.sl at_ with
   |true=>k (opF x (.d (.sl xs))) [] (.d (.i xs.length))
   |false=>stuck
  |some (.gl id xs)=>match T.sl at_ with
   |true=>k (opF x (.gl id xs)) [] (.d (.i xs.length))
   |false=>stuck
  |some (.ms id n)=>match T.sl at_ with
   |true=>k (opF x (.ms id n)) [] (.d (.i n))
   |false=>stuck
  |_=>stuck
 |_=>stuck
section
variable {T:Tabs}{c:Ctx}{all:Array Oper}{chk:List Rec->Prop}{os:List Oper}{recs:List Rec}{env:Env}{hp:Hp}{Q:St->Prop}
variable {d ty:Nat}{pos:String}{af:Array Edge}{g:Option (Nat×Bool)}{pg:List (Nat×AV)}{kn:List (Nat×Bool)}
theorem zeh:∀ {kn:List (Nat×Bool)}{e:Nat}{v:Bool},KN env kn->kget kn e=some v->∃b,getE env e=some (.d (.bool b))/\b=v
 |(k,u)::r,e,v,h,hk=>by
  simp only[kget] at hk;cases hb:Nat.beq k e with
  |true=>simp only[hb,cond_true,xae] at hk;subst hk;obtain rfl:=xap hb;exact h.1
  |false=>simp only[hb,cond_false] at hk;exact zeh h.2 hk
theorem zgg {v:AV}:∀ {kn:List (Nat×Bool)},KN env kn->KN ((d,v)::env) (kdel kn d)
 | [],_=>trivial
 |(k,u)::r,h=>by
  simp only[kdel];cases hb:Nat.beq k d with
  |true=>exact zgg h.2
  |false=>
   have hb':Nat.beq d k=false:=by
    cases hd:Nat.beq d k with
    |false=>rfl
    |true=>obtain rfl:=xap hd;rw[hd] at hb;cases hb
   refine⟨?_,zgg h.2⟩;simp only[getE,hb',cond_false];exact h.1
theorem zth {u v:D}{op:BinOp}{t yt:TypeId}{x y:Operand}{k:D->Prop}{stuck W:Prop}
  (hs:stuck->W) (hg:GH all env g pg) (hd:Nat.blt d c.n=true) (hx:opd env x=some (.d u)) (hy:opd env y=some (.d v))
  (hk:∀r,k r->Walk c all chk os (zan (pg++(opF x (.d u)++opF y (.d v))) [] [] ⟨some (d,.d r),[]⟩::recs) ⟨(d,.d r)::env,hp⟩ Q)
  (hW:W=Walk c all chk (⟨some d,.binOp op t x y yt,ty,pos,af,g⟩::os) recs ⟨env,hp⟩ Q)
  (h:evB op u v k stuck):W:=by
 unfold evB at h;split at h
 ·split at h
  ·split at h
   ·exact hW ▸ Walk.eqI hg hd hx hy (hk _ h)
   ·exact hW ▸ Walk.neI hg hd hx hy (hk _ h)
   ·exact hW ▸ Walk.ltI hg hd hx hy (hk _ h)
   ·exact hW ▸ Walk.leI hg hd hx hy (hk _ h)
   ·exact hW ▸ Walk.gtI hg hd hx hy (hk _ h)
   ·exact hW ▸ xbD hg hd hx hy (hk _ h)
   ·exact hW ▸ Walk.addI hg hd hx hy h.b (hk _ h.k)
   ·exact hW ▸ Walk.subI hg hd hx hy h.b (hk _ h.k)
   ·exact hW ▸ Walk.mulI hg hd hx hy h.b (hk _ h.k)
   ·exact hs h
  ·split at h
   ·exact hW ▸ Walk.eqI hg hd hx hy (hk _ h)
   ·exact hW ▸ Walk.neI hg hd hx hy (hk _ h)
   ·exact hW ▸ Walk.ltI hg hd hx hy (hk _ h)
   ·exact hW ▸ Walk.leI hg hd hx hy (hk _ h)
   ·exact hW ▸ Walk.gtI hg hd hx hy (hk _ h)
   ·exact hW ▸ xbD hg hd hx hy (hk _ h)
   ·exact hs h
  ·exact hs h
 ·split at h
  ·exact hW ▸ Walk.eqS hg hd hx hy (hk _ h)
  ·exact hW ▸ Walk.neS hg hd hx hy (hk _ h)
  ·exact hs h
 ·exact hs h
theorem zqm (hT:TabsOK c.P T){op:Op}{k:Cont} (hkn:KN env kn) (hg:GH all env g pg) (hd:Nat.blt d c.n=true)
  (hk:∀pre prh v,k pre prh v->Walk c all chk os (zan (pg++pre) prh [] ⟨some (d,v),[]⟩::recs) ⟨(d,v)::env,hp⟩ Q)
  (h:evV T env hp kn k (Walk c all chk (⟨some d,op,ty,pos,af,g⟩::os) recs ⟨env,hp⟩ Q) op):
  Walk c all chk (⟨some d,op,ty,pos,af,g⟩::os) recs ⟨env,hp⟩ Q:=by
 unfold evV at h;split at h
 ·split at h
  ·rename_i hx;exact Walk.move hg hd hx (hk _ _ _ h)
  ·exact h
 ·split at h
  ·rename_i hx;exact Walk.assign hg hd hx (hk _ _ _ h)
  ·exact h
 ·split at h
  ·rename_i b hx;split at h
   ·rename_i hkt;obtain⟨b',h1,h2⟩:=zeh hkn hkt;rw[hx] at h1;cases h1;split at h
    ·rename_i hy;exact Walk.pickT (x:= .tmp _) hg hd hx h2 hy (hk _ _ _ h)
    ·exact h
   ·rename_i hkt;obtain⟨b',h1,h2⟩:=zeh hkn hkt;rw[hx] at h1;cases h1;split at h
    ·rename_i hy;exact Walk.pickF (x:= .tmp _) hg hd hx h2 hy (hk _ _ _ h)
    ·exact h
   ·exact h
  ·exact h
 ·split at h
  ·rename_i hx hy;exact zth id hg hd hx hy (fun r hr=>hk _ _ _ hr) Z h
  ·exact h
 ·split at h
  ·rename_i hx;exact Walk.not hg hd hx (hk _ _ _ h)
  ·exact h
 ·split at h
  ·rename_i hx;split at h
   ·rename_i hh;split at h
    ·rename_i ht;split at h
     ·rename_i hv;exact xbL (hT.ty _ _ _ ht) hg hd hx hh hv (hk _ _ _ h)
     ·exact h
    ·rename_i ht;split at h
     ·rename_i hv;exact xbM (hT.ty _ _ _ ht) hg hd hx hh hv (hk _ _ _ h)
     ·exact h
    ·exact h
   ·exact h
  ·rename_i hx;split at h
   ·rename_i ht;split at h
    ·rename_i hv;exact Walk.loadP (hT.ty _ _ _ ht) hg hd hx hv (hk _ _ _ h)
    ·exact h
   ·rename_i ht;split at h
    ·rename_i hv;split at h
     ·rename_i hm;exact Walk.loadPA (hT.ty _ _ _ ht) hg hd hx hv hm (hk _ _ _ h)
     ·exact h
    ·exact h
   ·exact h
  ·exact h
 ·split at h
  ·rename_i hx;split at h
   ·rename_i hf;exact Walk.fieldB (hT.fd _ _ _ hf) hg hd hx (hk _ _ _ h)
   ·exact h
  ·rename_i hx;split at h
   ·rename_i hf;exact Walk.fieldP (hT.fd _ _ _ hf) hg hd hx (hk _ _ _ h)
   ·exact h
  ·exact h
 ·split at h
  ·rename_i hx;split at h
   ·rename_i hv;exact Walk.extract hg hd hx hv (hk _ _ _ h)
   ·exact h
  ·exact h
 ·split at h
  ·rename_i hx;exact Walk.nilCheck (.inl ⟨_,_,Z⟩) hg hd hx (hk _ _ _ h)
  ·rename_i hx;exact Walk.nilCheck (.inr ⟨_,_,Z⟩) hg hd hx (hk _ _ _ h)
  ·exact h
 ·split at h
  ·rename_i hx;split at h
   ·rename_i ht;exact Walk.lenS (hT.st _ ht) hg hd hx (hk _ _ _ h)
   ·exact h
  ·rename_i hx;split at h
   ·rename_i ht;obtain⟨_,_,_,ht⟩:=hT.sl _ ht;exact Walk.len ht hg hd hx (hk _ _ _ h)
   ·exact h
  ·rename_i hx;split at h
   ·rename_i ht;obtain⟨_,_,_,ht⟩:=hT.sl _ ht;exact Walk.lenG ht hg hd hx (hk _ _ _ h)
   ·exact h
  ·rename_i hx;split at h
   ·rename_i ht;obtain⟨_,_,_,ht⟩:=hT.sl _ ht;exact Walk.lenM ht hg hd hx (hk _ _ _ h)
   ·exact h
  ·exact h
 ·exact h
end
def evGo (T:Tabs) (stop:List Nat) (c:Ctx) (all:Array Oper) (chk:List Rec->Prop) (Q:St->Prop) (o:Oper) (os:List Oper) (recs:List Rec) (env:Env) (hp:Hp)
  (ih:List Rec->Env->Hp->List (Nat×Bool)->Prop) (d e:Nat) (b:Bool) (kn:List (Nat×Bool)) (op:Op):Prop:=
 match memN stop d with
 |true=>Walk c all chk (o::os) recs ⟨env,hp⟩ Q
 |false=>evV T env hp kn (fun pre prh v=>ih (zan ([(e,.d (.bool b))]++pre) prh [] ⟨some (d,v),[]⟩::recs) ((d,v)::env) hp (kdel kn d)) (Walk c all chk (o::os) recs ⟨env,hp⟩ Q) op
def znB (T:Tabs) (stop:List Nat) (c:Ctx) (all:Array Oper) (chk:List Rec->Prop) (Q:St->Prop) (o:Oper) (os:List Oper) (ih:List Rec->Env->Hp->List (Nat×Bool)->Prop)
  (recs:List Rec) (env:Env) (hp:Hp) (kn:List (Nat×Bool)):Prop:=
 match o.dst with
  |none=>match o.guard with
   |none=>Walk c all chk (o::os) recs ⟨env,hp⟩ Q
   |some (j,want)=>match (all[j]?).bind (·.dst) with
    |none=>Walk c all chk (o::os) recs ⟨env,hp⟩ Q
    |some e=>match getE env e with
     |some (.tup [])=>ih (zan [(e,.tup [])] [] [] ⟨none,[]⟩::recs) env hp kn
     |some (.d (.bool b))=>match kget kn e,want with
      |some true,true=>Walk c all chk (o::os) recs ⟨env,hp⟩ Q
      |some false,false=>Walk c all chk (o::os) recs ⟨env,hp⟩ Q
      |some _,_=>ih (zan [(e,.d (.bool b))] [] [] ⟨none,[]⟩::recs) env hp kn
      |none,true=>Sp b (Walk c all chk (o::os) recs ⟨env,hp⟩ Q) (ih (zan [(e,.d (.bool b))] [] [] ⟨none,[]⟩::recs) env hp ((e,false)::kn))
      |none,false=>Sp b (ih (zan [(e,.d (.bool b))] [] [] ⟨none,[]⟩::recs) env hp ((e,true)::kn)) (Walk c all chk (o::os) recs ⟨env,hp⟩ Q)
     |_=>Walk c all chk (o::os) recs ⟨env,hp⟩ Q
  |some d=>match Nat.blt d c.n with
   |false=>Walk c all chk (o::os) recs ⟨env,hp⟩ Q
   |true=>match o.guard with
    |none=>match memN stop d with
     |true=>Walk c all chk (o::os) recs ⟨env,hp⟩ Q
     |false=>evV T env hp kn (fun pre prh v=>ih (zan ([]++pre) prh [] ⟨some (d,v),[]⟩::recs) ((d,v)::env) hp (kdel kn d))
       (Walk c all chk (o::os) recs ⟨env,hp⟩ Q) o.op
    |some (j,want)=>match (all[j]?).bind (·.dst) with
     |none=>Walk c all chk (o::os) recs ⟨env,hp⟩ Q
     |some e=>match getE env e with
      |some (.tup [])=>ih (zan [(e,.tup [])] [] [] ⟨some (d,.tup []),[]⟩::recs) ((d,.tup [])::env) hp (kdel kn d)
      |some (.d (.bool b))=>match kget kn e,want with
       |some true,true=>evGo T stop c all chk Q o os recs env hp ih d e b kn o.op
       |some false,false=>evGo T stop c all chk Q o os recs env hp ih d e b kn o.op
       |some _,_=>ih (zan [(e,.d (.bool b))] [] [] ⟨some (d,.tup []),[]⟩::recs) ((d,.tup [])::env) hp (kdel kn d)
       |none,true=>Sp b (evGo T stop c all chk Q o os recs env hp ih d e b ((e,true)::kn) o.op) (ih (zan [(e,.d (.bool b))] [] [] ⟨some (d,.tup []),[]⟩::recs) ((d,.tup [])::env) hp (kdel ((e,false)::kn) d))
       |none,false=>Sp b (ih (zan [(e,.d (.bool b))] [] [] ⟨some (d,.tup []),[]⟩::recs) ((d,.tup [])::env) hp (kdel ((e,true)::kn) d)) (evGo T stop c all chk Q o os recs env hp ih d e b ((e,false)::kn) o.op)
      |_=>Walk c all chk (o::os) recs ⟨env,hp⟩ Q
noncomputable def evW (T:Tabs) (stop:List Nat) (c:Ctx) (all:Array Oper) (chk:List Rec->Prop) (Q:St->Prop) (fin:List Rec->Env->Hp->Prop) (os:List Oper):List Rec->Env->Hp->List (Nat×Bool)->Prop:=
 List.rec (motive:=fun _=>List Rec->Env->Hp->List (Nat×Bool)->Prop) (fun recs env hp _=>fin recs env hp) (fun o os ih=>znB T stop c all chk Q o os ih) os
section
variable {T:Tabs}{c:Ctx}{all:Array Oper}{chk:List Rec->Prop}{Q:St->Prop}{stop:List Nat}{fin:List Rec->Env->Hp->Prop}
theorem zgh {env:Env}{e:Nat}{b v:Bool}{kn:List (Nat×Bool)} (he:getE env e=some (.d (.bool b))) (hb:b=v) (hk:KN env kn):KN env ((e,v)::kn):=⟨⟨b,he,hb⟩,hk⟩
theorem ziz (hT:TabsOK c.P T) (hfin:∀recs env hp,fin recs env hp->chk recs/\Q ⟨env,hp⟩):∀ {os:List Oper}{recs:List Rec}{env:Env}{hp:Hp}{kn:List (Nat×Bool)},
  KN env kn->evW T stop c all chk Q fin os recs env hp kn->Walk c all chk os recs ⟨env,hp⟩ Q
 | [],recs,env,hp,kn,hkn,h=>by
  unfold evW at h;exact hfin _ _ _ h
 |⟨dst,op,ty,pos,af,g⟩::os,recs,env,hp,kn,hkn,h=>by
  have ih:=fun {recs:List Rec}{env:Env}{hp:Hp}{kn:List (Nat×Bool)}=>@ziz hT hfin os recs env hp kn;replace h:znB T stop c all chk Q ⟨dst,op,ty,pos,af,g⟩ os (evW T stop c all chk Q fin os) recs env hp kn:=h
  generalize evW T stop c all chk Q fin os=ihf at h ih;unfold znB at h;cases dst with
  |none=>
   simp only at h;cases g with
   |none=>exact h
   |some g=>
    obtain⟨j,want⟩:=g;simp only at h;split at h
    ·exact h
    ·rename_i e he;split at h
     ·rename_i hu;exact Walk.passU0 Z he hu Z (ih hkn h)
     ·rename_i b hb;have pass:∀ {kn':List (Nat×Bool)},b = !want->KN env kn'->ihf (zan [(e,.d (.bool b))] [] [] ⟨none,[]⟩::recs) env hp kn'->
        Walk c all chk (⟨none,op,ty,pos,af,some (j,want)⟩::os) recs ⟨env,hp⟩ Q:=fun h2 hk h=>Walk.pass0 rfl he hb h2 rfl (ih hk h)
      split at h
      ·exact h
      ·exact h
      ·rename_i w1 x1 w2 v hv h1 h2;obtain⟨b',h3,h4⟩:=zeh hkn hv;rw[hb] at h3;cases h3;refine pass ?_ hkn h;cases w1<;>cases v<;>simp_all
      ·exact Walk.split hb (fun hb'=>h.t hb') (fun hb'=>pass hb' (zgh hb hb' hkn) (h.f hb'))
      ·exact Walk.split hb (fun hb'=>pass hb' (zgh hb hb' hkn) (h.t hb')) (fun hb'=>h.f hb')
     ·exact h
  |some d=>
   simp only at h;split at h
   ·exact h
   ·rename_i hd;cases g with
    |none=>
     simp only at h;split at h
     ·exact h
     ·exact zqm hT hkn .none hd (fun pre prh v hk=>ih (zgg hkn) hk) h
    |some g=>
     obtain⟨j,want⟩:=g;simp only at h;split at h
     ·exact h
     ·rename_i e he;split at h
      ·rename_i hu;exact Walk.passU Z he hu Z hd (ih (zgg hkn) h)
      ·rename_i b hb;have go:∀ {kn':List (Nat×Bool)},b=want->KN env kn'->evGo T stop c all chk Q ⟨some d,op,ty,pos,af,some (j,want)⟩ os recs env hp ihf d e b kn' op->
         Walk c all chk (⟨some d,op,ty,pos,af,some (j,want)⟩::os) recs ⟨env,hp⟩ Q:=by
        intro kn' h2 hk h;unfold evGo at h;split at h
        ·exact h
        ·exact zqm hT hk (.some he hb h2) hd (fun pre prh v hk'=>ih (zgg hk) hk') h
       have pass:∀ {kn':List (Nat×Bool)},b = !want->KN env kn'->ihf (zan [(e,.d (.bool b))] [] [] ⟨some (d,.tup []),[]⟩::recs) ((d,.tup [])::env) hp (kdel kn' d)->
         Walk c all chk (⟨some d,op,ty,pos,af,some (j,want)⟩::os) recs ⟨env,hp⟩ Q:=fun h2 hk h=>Walk.pass rfl he hb h2 rfl hd (ih (zgg hk) h)
       split at h
       ·rename_i hv;obtain⟨b',h3,h4⟩:=zeh hkn hv;rw[hb] at h3;cases h3;exact go h4 hkn h
       ·rename_i hv;obtain⟨b',h3,h4⟩:=zeh hkn hv;rw[hb] at h3;cases h3;exact go h4 hkn h
       ·rename_i w1 x1 w2 v hv h1 h2;obtain⟨b',h3,h4⟩:=zeh hkn hv;rw[hb] at h3;cases h3;refine pass ?_ hkn h;cases w1<;>cases v<;>simp_all
       ·exact Walk.split hb (fun hb'=>go hb' (zgh hb hb' hkn) (h.t hb')) (fun hb'=>pass hb' (zgh hb hb' hkn) (h.f hb'))
       ·exact Walk.split hb (fun hb'=>pass hb' (zgh hb hb' hkn) (h.t hb')) (fun hb'=>go hb' (zgh hb hb' hkn) (h.f hb'))
      ·exact h
end
noncomputable def evC (T:Tabs) (stop rs:List Nat) (c:Ctx) (x:Code):St->Kt->Prop:=
 Code.rec (motive:=fun _=>St->Kt->Prop)
  (fun s K=>K.n s)
  (fun id all draw s K=>match memN rs id with
   |true=>CWp c (.region id all draw) s K
   |false=>match draw with
    |false=>evW T stop c all (fun _=>True) K.n (fun _ env hp=>K.n ⟨env,hp⟩) all.toList [] s.env s.hp []
    |true=>evW T stop c all (fun recs=>chkB all.toList s recs.reverse=true) K.n (fun recs env hp=>chkB all.toList s recs.reverse=true/\K.n ⟨env,hp⟩) all.toList [] s.env s.hp [])
  (fun _ _ ihx ihy s K=>ihx s (K.with fun s'=>ihy s' K))
  (fun x t e iht ihe s K=>match x with
   | .tmp i=>match memN rs (1000000+i) with
    |true=>CWp c (.cond (.tmp i) t e) s K
    |false=>match getE s.env i with
     |some (.d (.bool b))=>Sp b (iht s K) (ihe s K)
     |_=>CWp c (.cond (.tmp i) t e) s K
   |x=>CWp c (.cond x t e) s K)
  (fun id _ ih s K=>ih s (K.blk id))
  (fun x _ s K=>CWp c (.loop x) s K)
  (fun f p a b _ _ s K=>CWp c (.rangeFunc f p a b) s K)
  (fun id s K=>K.ex id s)
  (fun x _ s K=>CWp c (.scope x) s K)
  (fun _ s K=>K.n s)
  (fun l s K=>CWp c (.goto l) s K)
  (fun s K=>match memN rs 999999 with|true=>CWp c .ret s K|false=>K.rt s)
  (fun w s K=>CWp c (.refuse w) s K) x
theorem CWp.mono {c:Ctx}{x:Code}{s:St}{K K':Kt} (h:CWp c x s K) (h1:∀s,K.n s->K'.n s) (h2:∀i s,K.ex i s->K'.ex i s) (h3:∀s,K.rt s->K'.rt s):CWp c x s K':=by
 intro a w hr;refine wp_mono (h a w hr) ?_;intro e a' w' hq;cases e with
 |normal=>obtain⟨s',hr',hn⟩:=hq;exact⟨s',hr',h1 _ hn⟩
 |exit id=>obtain⟨s',hr',hn⟩:=hq;exact⟨s',hr',h2 _ _ hn⟩
 |ret=>obtain⟨s',hr',hn⟩:=hq;exact⟨s',hr',h3 _ hn⟩
 |goto l=>exact hq.elim
 |panic ch=>exact hq.elim
 |outgrown=>exact hq.elim
theorem zgn {T:Tabs}{stop rs:List Nat}{c:Ctx} (hT:TabsOK c.P T) (hm:c.P.follows .mixedOrders=true):∀ {x:Code}{s:St}{K:Kt},evC T stop rs c x s K->CWp c x s K
 | .skip,s,K,h=>CWp.skip h
 | .exit id,s,K,h=>CWp.exit h
 | .ret,s,K,h=>by
  unfold evC at h;simp only at h;split at h
  ·exact h
  ·exact CWp.ret h
 | .label _,s,K,h=>CWp.label h
 | .seq x y,s,K,h=>CWp.seq ((zgn (x:=x) (s:=s) (K:=K.with fun s'=>evC T stop rs c y s' K) hT hm h).mono (fun _ h'=>zgn (x:=y) hT hm h') (fun _ _ h=>h) (fun _ h=>h))
 | .block id x,s,K,h=>CWp.block (zgn (x:=x) (K:=K.blk id) hT hm h)
 | .cond x t e,s,K,h=>by
  have ht:∀ {s:St}{K:Kt},evC T stop rs c t s K->CWp c t s K:=zgn hT hm;have he:∀ {s:St}{K:Kt},evC T stop rs c e s K->CWp c e s K:=zgn hT hm;cases x with
  |tmp i=>
   unfold evC at h ht he;simp only at h;split at h
   ·exact h
   ·split at h
    ·rename_i hc;exact CWp.cond hc (fun hb=>ht (h.t hb)) (fun hb=>he (h.f hb))
    ·exact h
  |_=>exact h
 | .region id all draw,s,K,h=>by
  unfold evC at h;simp only at h;split at h
  ·exact h
  ·cases draw with
   |false=>exact CWp.region Z (ziz (kn:=[]) hT (fun _ _ _ h=>⟨I,h⟩) I h)
   |true=>exact CWp.drawn hm Z (ziz (kn:=[]) hT (fun _ _ _ h=>h) I h)
 | .loop _,s,K,h=>h
 | .rangeFunc ..,s,K,h=>h
 | .scope _,s,K,h=>h
 | .goto _,s,K,h=>h
 | .refuse _,s,K,h=>h
def lk {α:Type}:List (Nat×α)->Nat->Option α
 | [],_=>none
 |(k,v)::r,i=>bif Nat.beq k i then some v else lk r i
def lk2:List (Nat×Nat×Nat)->Nat->Nat->Option Nat
 | [],_,_=>none
 |(k,j,v)::r,i,f=>bif Nat.beq k i&&Nat.beq j f then some v else lk2 r i f
theorem zqy {α:Type}{v:α}:∀ {l:List (Nat×α)}{i:Nat},lk l i=some v->(i,v)∈l
 |(k,u)::r,i,h=>by
  simp only[lk] at h;cases hb:Nat.beq k i with
  |true=>simp only[hb,cond_true,xae] at h;subst h;obtain rfl:=xap hb;simp
  |false=>simp only[hb,cond_false] at h;exact List.mem_cons_of_mem _ (zqy h)
theorem zoM {v:Nat}:∀ {l:List (Nat×Nat×Nat)}{i f:Nat},lk2 l i f=some v->(i,f,v)∈l
 |(k,j,u)::r,i,f,h=>by
  simp only[lk2] at h;cases hb:Nat.beq k i&&Nat.beq j f with
  |true=>
   simp only[hb,cond_true,xae] at h;obtain⟨h1,h2⟩:=xad _ _ ▸ hb;obtain rfl:=xap h1;obtain rfl:=xap h2;subst h;simp
  |false=>simp only[hb,cond_false] at h;exact List.mem_cons_of_mem _ (zoM h)
theorem zkb:∀ {l:List Nat}{i:Nat},memN l i=true->i∈l
 |k::r,i,h=>by
  simp only[memN] at h;cases hb:Nat.beq k i with
  |true=>obtain rfl:=xap hb;simp
  |false=>simp only[hb,cond_false] at h;exact List.mem_cons_of_mem _ (zkb h)
def strB:Option TypeDesc->Bool
 |some .string=>true
 |_=>false
theorem TabsOK.of {P:Program}{ty:List (Nat×Nat×Bool)}{sl st:List Nat}{fd:List (Nat×Nat×Nat)}
  (h1:ty.map (fun p=>zm4 P p.1)=ty.map (fun p=>some p.2)) (h2:sl.all (fun t=>(zpD P t).isSome)=true)
  (h3:st.all (fun t=>strB (P.underlying t))=true) (h4:fd.map (fun p=>zpn P p.1 p.2.1)=fd.map (fun p=>some (p.2.2,false))):TabsOK P ⟨lk ty,memN sl,memN st,lk2 fd⟩:=by
 refine⟨fun t k b h=>xba ?_,fun t h=>?_,fun t h=>?_,fun t f o h=>Fd.of ?_⟩
 ·exact List.map_inj_left.1 h1 _ (zqy h)
 ·have:=List.all_eq_true.1 h2 t (zkb h);obtain⟨⟨e,k,y⟩,h⟩:=Option.isSome_iff_exists.1 this;exact⟨e,k,y,xa6 h⟩
 ·have:=List.all_eq_true.1 h3 t (zkb h);revert this
  cases P.underlying t with
  |none=>intro h;cases h
  |some d=>cases d<;>intro h<;>first|rfl|cases h
 ·exact List.map_inj_left.1 h4 _ (zoM h)
set_option maxRecDepth 100000
theorem ty3:TyS Tryz.prog 3 1 false:=xba oi
theorem ty4:TyS Tryz.prog 4 1 false:=xba oi
theorem ty5:TyS Tryz.prog 5 1 false:=xba oi
theorem ty9:TyS Tryz.prog 9 1 false:=xba oi
theorem ty29:TyS Tryz.prog 29 2 true:=xba oi
theorem ty72:TyS Tryz.prog 72 1 false:=xba oi
theorem ty74:TyS Tryz.prog 74 6 true:=xba oi
theorem ty76:TyS Tryz.prog 76 3 true:=xba oi
theorem ty78:TyS Tryz.prog 78 9 true:=xba oi
theorem ty96:TyS Tryz.prog 96 1 false:=xba oi
theorem ty99:TyS Tryz.prog 99 1 false:=xba oi
theorem zb6:TyS Tryz.prog 107 3 true:=xba oi
theorem zt8:TyS Tryz.prog 108 1 false:=xba oi
theorem zm3:TyS Tryz.prog 110 2 true:=xba oi
theorem zr4:TyS Tryz.prog 115 1 false:=xba oi
theorem zr5:TyS Tryz.prog 117 8 true:=xba oi
theorem zt9:TyS Tryz.prog 136 1 false:=xba oi
theorem zhZ:TyS Tryz.prog 138 3 true:=xba oi
theorem zr6:TyS Tryz.prog 149 3 true:=xba oi
theorem zh0:TyS Tryz.prog 184 2 true:=xba oi
theorem sl23:SlT Tryz.prog 23 110 2 40:=xa6 oi
theorem sl32:SlT Tryz.prog 32 78 9 88:=xa6 oi
theorem sl37:SlT Tryz.prog 37 3 1 8:=xa6 oi
theorem sl42:SlT Tryz.prog 42 88 2 40:=xa6 oi
theorem sl44:SlT Tryz.prog 44 95 9 88:=xa6 oi
theorem sl66:SlT Tryz.prog 66 149 3 24:=xa6 oi
theorem sl72:SlT Tryz.prog 72 74 6 64:=xa6 oi
theorem sl86:SlT Tryz.prog 86 223 3 48:=xa6 oi
theorem sl90:SlT Tryz.prog 90 92 6 64:=xa6 oi
theorem sl96:SlT Tryz.prog 96 117 8 96:=xa6 oi
theorem sl99:SlT Tryz.prog 99 107 3 40:=xa6 oi
theorem zeb:SlT Tryz.prog 102 234 4 48:=xa6 oi
theorem zpC:SlT Tryz.prog 103 37 1 24:=xa6 oi
theorem zcv:SlT Tryz.prog 108 138 3 48:=xa6 oi
theorem zcd:SlT Tryz.prog 115 184 2 32:=xa6 oi
theorem za3:SlT Tryz.prog 136 29 2 16:=xa6 oi
theorem zdn:SlT Tryz.prog 176 72 1 24:=xa6 oi
theorem zt6:SlT Tryz.prog 221 43 2 16:=xa6 oi
theorem zda:SlT Tryz.prog 231 99 1 24:=xa6 oi
theorem tz3:TyZ Tryz.prog 3 1 [.d (.int .i64 0)]:=xbb oi
theorem tz29:TyZ Tryz.prog 29 2 [.d (.int .i64 0),.d (.int .i64 0)]:=xbb oi
theorem tz37:TyZ Tryz.prog 37 1 [.nils]:=xbb oi
theorem tz72:TyZ Tryz.prog 72 1 [.nils]:=xbb oi
theorem tz74:TyZ Tryz.prog 74 6 [.d (.int .i64 0),.d (.int .i64 0),.d (.int .i64 0),.d (.int .i64 0),.d (.int .i64 0),.nils]:=xbb oi
theorem tz76:TyZ Tryz.prog 76 3 [.d (.int .i64 0),.d (.int .i64 0),.d (.int .i64 0)]:=xbb oi
theorem tz78:TyZ Tryz.prog 78 9 [.d (.int .i64 0),.d (.int .i64 0),.d (.int .i64 0),.d (.int .i64 0),.d (.int .i64 0),.nils,.d (.int .i64 0),.d (.int .i64 0),.d (.int .i64 0)]:=xbb oi
theorem tz96:TyZ Tryz.prog 96 1 [.nils]:=xbb oi
theorem tz99:TyZ Tryz.prog 99 1 [.nils]:=xbb oi
theorem zbM:TyZ Tryz.prog 107 3 [.d (.int .i64 0),.d (.int .i64 0),.nils]:=xbb oi
theorem zm5:TyZ Tryz.prog 110 2 [.d (.str []),.nils]:=xbb oi
theorem zua:TyZ Tryz.prog 115 1 [.nils]:=xbb oi
theorem zdS:TyZ Tryz.prog 117 8 [.d (.int .i64 0),.nils,.d (.int .i64 0),.d (.int .i64 0),.d (.int .i64 0),.d (.int .i64 0),.nils,.d (.int .i64 0)]:=xbb oi
theorem zh1:TyZ Tryz.prog 138 3 [.d (.str []),.nils,.d (.int .i64 0)]:=xbb oi
theorem zr7:TyZ Tryz.prog 147 6 [.d (.bool false),.d (.bool false),.d (.bool false),.d (.bool false),.d (.bool false),.d (.bool false)]:=xbb oi
theorem zm6:TyZ Tryz.prog 149 3 [.d (.int .i64 0),.d (.int .i64 0),.d (.int .i64 0)]:=xbb oi
theorem zlu:TyZ Tryz.prog 184 2 [.d (.int .i64 0),.nils]:=xbb oi
theorem zr8:TyZ Tryz.prog 234 4 [.d (.int .i64 0),.d (.int .i64 0),.d (.int .i64 0),.nils]:=xbb oi
theorem zz3:ZeroT Tryz.prog 3 1:=xb0 oi
theorem zz29:ZeroT Tryz.prog 29 2:=xb0 oi
theorem zz37:ZeroT Tryz.prog 37 1:=xb0 oi
theorem zz72:ZeroT Tryz.prog 72 1:=xb0 oi
theorem zz74:ZeroT Tryz.prog 74 6:=xb0 oi
theorem zz99:ZeroT Tryz.prog 99 1:=xb0 oi
theorem zdr:ZeroT Tryz.prog 107 3:=xb0 oi
theorem zeT:ZeroT Tryz.prog 117 8:=xb0 oi
theorem zm7:ZeroT Tryz.prog 149 3:=xb0 oi
theorem zm8:ZeroT Tryz.prog 184 2:=xb0 oi
theorem zsa:ZeroT Tryz.prog 234 4:=xb0 oi
theorem st29:StT Tryz.prog 29 [(0,1),(1,1)] [.d (.int .i64 0),.d (.int .i64 0)]:=xa7 oi
theorem st76:StT Tryz.prog 76 [(0,1),(1,1),(2,1)] [.d (.int .i64 0),.d (.int .i64 0),.d (.int .i64 0)]:=xa7 oi
theorem zf9:StT Tryz.prog 107 [(0,1),(1,1),(2,1)] [.d (.int .i64 0),.d (.int .i64 0),.nils]:=xa7 oi
theorem zeS:StT Tryz.prog 117 [(0,1),(1,1),(2,1),(3,1),(4,1),(5,1),(6,1),(7,1)] [.d (.int .i64 0),.nils,.d (.int .i64 0),.d (.int .i64 0),.d (.int .i64 0),.d (.int .i64 0),.nils,.d (.int .i64 0)]:=xa7 oi
theorem zpF:StT Tryz.prog 149 [(0,1),(1,2)] [.d (.int .i64 0),.d (.int .i64 0),.d (.int .i64 0)]:=xa7 oi
theorem zm2:StT Tryz.prog 184 [(0,1),(1,1)] [.d (.int .i64 0),.nils]:=xa7 oi
theorem zr2:StT Tryz.prog 234 [(0,1),(1,3)] [.d (.int .i64 0),.d (.int .i64 0),.d (.int .i64 0),.nils]:=xa7 oi
theorem zmW:ArT Tryz.prog 147 6 4 1:=ArT.of oi
theorem un3:Tryz.prog.underlying 3=some (.int .i64):=by kernel_rfl
theorem un4:Tryz.prog.underlying 4=some (.bool):=by kernel_rfl
theorem un5:Tryz.prog.underlying 5=some (.int .u8):=by kernel_rfl
theorem un9:Tryz.prog.underlying 9=some (.string):=by kernel_rfl
theorem zm1:MapT Tryz.prog 141:=MapT.of oi
theorem eq29:EqT Tryz.prog 29 2:=⟨by kernel_rfl,by kernel_rfl,by kernel_rfl,by kernel_rfl,by kernel_rfl⟩
theorem eq76:EqT Tryz.prog 76 3:=⟨by kernel_rfl,by kernel_rfl,by kernel_rfl,by kernel_rfl,by kernel_rfl⟩
theorem zt3:EqT2 Tryz.prog 149 3:=⟨by kernel_rfl,by kernel_rfl,by kernel_rfl,by kernel_rfl,by kernel_rfl⟩
theorem ztq:Callee Tryz.prog 11:=⟨fun args w=>zaf (fn:=Tryz.f11) rfl rfl oj args w⟩
theorem ztr:Callee Tryz.prog 12:=⟨fun args w=>zaf (fn:=Tryz.f12) rfl rfl oj args w⟩
theorem zts:Callee Tryz.prog 13:=⟨fun args w=>zaf (fn:=Tryz.f13) rfl rfl oj args w⟩
theorem zo8:Callee Tryz.prog 14:=⟨fun args w=>zaf (fn:=Tryz.f14) rfl rfl oj args w⟩
theorem zo9:Callee Tryz.prog 15:=⟨fun args w=>zaf (fn:=Tryz.f15) rfl rfl oj args w⟩
theorem zpa:Callee Tryz.prog 16:=⟨fun args w=>zaf (fn:=Tryz.f16) rfl rfl oj args w⟩
theorem ztt:Callee Tryz.prog 17:=⟨fun args w=>zaf (fn:=Tryz.f17) rfl rfl oj args w⟩
theorem ztu:Callee Tryz.prog 18:=⟨fun args w=>zaf (fn:=Tryz.f18) rfl rfl oj args w⟩
theorem ztv:Callee Tryz.prog 19:=⟨fun args w=>zaf (fn:=Tryz.f19) rfl rfl oj args w⟩
theorem ztw:Callee Tryz.prog 29:=⟨fun args w=>zaf (fn:=Tryz.f29) rfl rfl oj args w⟩
theorem zpb:Callee Tryz.prog 31:=⟨fun args w=>zaf (fn:=Tryz.f31) rfl rfl oj args w⟩
theorem ztx:Callee Tryz.prog 35:=⟨fun args w=>zaf (fn:=Tryz.f35) rfl rfl oj args w⟩
theorem zty:Callee Tryz.prog 39:=⟨fun args w=>zaf (fn:=Tryz.f39) rfl rfl oj args w⟩
theorem ztz:Callee Tryz.prog 40:=⟨fun args w=>zaf (fn:=Tryz.f40) rfl rfl oj args w⟩
theorem zpc:Callee Tryz.prog 41:=⟨fun args w=>zaf (fn:=Tryz.f41) rfl rfl oj args w⟩
theorem zpd:Callee Tryz.prog 42:=⟨fun args w=>zaf (fn:=Tryz.f42) rfl rfl oj args w⟩
theorem ztA:Callee Tryz.prog 43:=⟨fun args w=>zaf (fn:=Tryz.f43) rfl rfl oj args w⟩
theorem ztB:Callee Tryz.prog 44:=⟨fun args w=>zaf (fn:=Tryz.f44) rfl rfl oj args w⟩
theorem ztC:Callee Tryz.prog 45:=⟨fun args w=>zaf (fn:=Tryz.f45) rfl rfl oj args w⟩
theorem zpe:Callee Tryz.prog 46:=⟨fun args w=>zaf (fn:=Tryz.f46) rfl rfl oj args w⟩
theorem zpf:Callee Tryz.prog 47:=⟨fun args w=>zaf (fn:=Tryz.f47) rfl rfl oj args w⟩
theorem ztD:Callee Tryz.prog 48:=⟨fun args w=>zaf (fn:=Tryz.f48) rfl rfl oj args w⟩
theorem ztE:Callee Tryz.prog 49:=⟨fun args w=>zaf (fn:=Tryz.f49) rfl rfl oj args w⟩
theorem ztF:Callee Tryz.prog 50:=⟨fun args w=>zaf (fn:=Tryz.f50) rfl rfl oj args w⟩
theorem ztG:Callee Tryz.prog 51:=⟨fun args w=>zaf (fn:=Tryz.f51) rfl rfl oj args w⟩
theorem zd4:Callee Tryz.prog 63:=⟨fun args w=>zaf (fn:=Tryz.f63) rfl rfl oj args w⟩
theorem ztH:Callee Tryz.prog 64:=⟨fun args w=>zaf (fn:=Tryz.f64) rfl rfl oj args w⟩
theorem ztI:Callee Tryz.prog 67:=⟨fun args w=>zaf (fn:=Tryz.f67) rfl rfl oj args w⟩
theorem zmX:Callee Tryz.prog 68:=⟨fun args w=>zaf (fn:=Tryz.f68) rfl rfl oj args w⟩
theorem zrN:Callee Tryz.prog 69:=⟨fun args w=>zaf (fn:=Tryz.f69) rfl rfl oj args w⟩
theorem ztJ:Callee Tryz.prog 70:=⟨fun args w=>zaf (fn:=Tryz.f70) rfl rfl oj args w⟩
theorem ztK:Callee Tryz.prog 71:=⟨fun args w=>zaf (fn:=Tryz.f71) rfl rfl oj args w⟩
theorem ztL:Callee Tryz.prog 72:=⟨fun args w=>zaf (fn:=Tryz.f72) rfl rfl oj args w⟩
theorem ztM:Callee Tryz.prog 73:=⟨fun args w=>zaf (fn:=Tryz.f73) rfl rfl oj args w⟩
theorem ztN:Callee Tryz.prog 75:=⟨fun args w=>zaf (fn:=Tryz.f75) rfl rfl oj args w⟩
theorem ztO:Callee Tryz.prog 76:=⟨fun args w=>zaf (fn:=Tryz.f76) rfl rfl oj args w⟩
theorem ztP:Callee Tryz.prog 77:=⟨fun args w=>zaf (fn:=Tryz.f77) rfl rfl oj args w⟩
theorem ztQ:Callee Tryz.prog 78:=⟨fun args w=>zaf (fn:=Tryz.f78) rfl rfl oj args w⟩
theorem zrO:Callee Tryz.prog 79:=⟨fun args w=>zaf (fn:=Tryz.f79) rfl rfl oj args w⟩
theorem zjk:Callee Tryz.prog 80:=⟨fun args w=>zaf (fn:=Tryz.f80) rfl rfl oj args w⟩
theorem ztR:Callee Tryz.prog 82:=⟨fun args w=>zaf (fn:=Tryz.f82) rfl rfl oj args w⟩
theorem zrP:Callee Tryz.prog 83:=⟨fun args w=>zaf (fn:=Tryz.f83) rfl rfl oj args w⟩
theorem zhw:Callee Tryz.prog 84:=⟨fun args w=>zaf (fn:=Tryz.f84) rfl rfl oj args w⟩
theorem ztS:Callee Tryz.prog 85:=⟨fun args w=>zaf (fn:=Tryz.f85) rfl rfl oj args w⟩
theorem zrQ:Callee Tryz.prog 86:=⟨fun args w=>zaf (fn:=Tryz.f86) rfl rfl oj args w⟩
theorem zpg:Callee Tryz.prog 87:=⟨fun args w=>zaf (fn:=Tryz.f87) rfl rfl oj args w⟩
theorem zph:Callee Tryz.prog 88:=⟨fun args w=>zaf (fn:=Tryz.f88) rfl rfl oj args w⟩
theorem ztT:Callee Tryz.prog 89:=⟨fun args w=>zaf (fn:=Tryz.f89) rfl rfl oj args w⟩
theorem ztU:Callee Tryz.prog 90:=⟨fun args w=>zaf (fn:=Tryz.f90) rfl rfl oj args w⟩
theorem ztV:Callee Tryz.prog 91:=⟨fun args w=>zaf (fn:=Tryz.f91) rfl rfl oj args w⟩
theorem zrR:Callee Tryz.prog 92:=⟨fun args w=>zaf (fn:=Tryz.f92) rfl rfl oj args w⟩
theorem ztW:Callee Tryz.prog 93:=⟨fun args w=>zaf (fn:=Tryz.f93) rfl rfl oj args w⟩
theorem zrS:Callee Tryz.prog 94:=⟨fun args w=>zaf (fn:=Tryz.f94) rfl rfl oj args w⟩
theorem ztX:Callee Tryz.prog 95:=⟨fun args w=>zaf (fn:=Tryz.f95) rfl rfl oj args w⟩
theorem zrT:Callee Tryz.prog 96:=⟨fun args w=>zaf (fn:=Tryz.f96) rfl rfl oj args w⟩
theorem zev:Callee Tryz.prog 97:=⟨fun args w=>zaf (fn:=Tryz.f97) rfl rfl oj args w⟩
theorem zrU:Callee Tryz.prog 98:=⟨fun args w=>zaf (fn:=Tryz.f98) rfl rfl oj args w⟩
theorem ztY:Callee Tryz.prog 99:=⟨fun args w=>zaf (fn:=Tryz.f99) rfl rfl oj args w⟩
theorem zsw:Callee Tryz.prog 100:=⟨fun args w=>zaf (fn:=Tryz.f100) rfl rfl oj args w⟩
theorem zni:Callee Tryz.prog 101:=⟨fun args w=>zaf (fn:=Tryz.f101) rfl rfl oj args w⟩
theorem zpS:Callee Tryz.prog 102:=⟨fun args w=>zaf (fn:=Tryz.f102) rfl rfl oj args w⟩
theorem znj:Callee Tryz.prog 103:=⟨fun args w=>zaf (fn:=Tryz.f103) rfl rfl oj args w⟩
theorem zsx:Callee Tryz.prog 104:=⟨fun args w=>zaf (fn:=Tryz.f104) rfl rfl oj args w⟩
theorem zpT:Callee Tryz.prog 105:=⟨fun args w=>zaf (fn:=Tryz.f105) rfl rfl oj args w⟩
theorem zsy:Callee Tryz.prog 106:=⟨fun args w=>zaf (fn:=Tryz.f106) rfl rfl oj args w⟩
theorem zsz:Callee Tryz.prog 107:=⟨fun args w=>zaf (fn:=Tryz.f107) rfl rfl oj args w⟩
theorem zsA:Callee Tryz.prog 108:=⟨fun args w=>zaf (fn:=Tryz.f108) rfl rfl oj args w⟩
theorem zpU:Callee Tryz.prog 109:=⟨fun args w=>zaf (fn:=Tryz.f109) rfl rfl oj args w⟩
theorem zsB:Callee Tryz.prog 110:=⟨fun args w=>zaf (fn:=Tryz.f110) rfl rfl oj args w⟩
theorem zsC:Callee Tryz.prog 123:=⟨fun args w=>zaf (fn:=Tryz.f123) rfl rfl oj args w⟩
theorem zpV:Callee Tryz.prog 124:=⟨fun args w=>zaf (fn:=Tryz.f124) rfl rfl oj args w⟩
theorem zsD:Callee Tryz.prog 125:=⟨fun args w=>zaf (fn:=Tryz.f125) rfl rfl oj args w⟩
theorem zsE:Callee Tryz.prog 126:=⟨fun args w=>zaf (fn:=Tryz.f126) rfl rfl oj args w⟩
theorem zsF:Callee Tryz.prog 128:=⟨fun args w=>zaf (fn:=Tryz.f128) rfl rfl oj args w⟩
theorem zsG:Callee Tryz.prog 129:=⟨fun args w=>zaf (fn:=Tryz.f129) rfl rfl oj args w⟩
theorem znk:Callee Tryz.prog 130:=⟨fun args w=>zaf (fn:=Tryz.f130) rfl rfl oj args w⟩
theorem zpW:Callee Tryz.prog 132:=⟨fun args w=>zaf (fn:=Tryz.f132) rfl rfl oj args w⟩
theorem zsH:Callee Tryz.prog 133:=⟨fun args w=>zaf (fn:=Tryz.f133) rfl rfl oj args w⟩
theorem zpX:Callee Tryz.prog 134:=⟨fun args w=>zaf (fn:=Tryz.f134) rfl rfl oj args w⟩
theorem zsI:Callee Tryz.prog 135:=⟨fun args w=>zaf (fn:=Tryz.f135) rfl rfl oj args w⟩
theorem zim:Callee Tryz.prog 136:=⟨fun args w=>zaf (fn:=Tryz.f136) rfl rfl oj args w⟩
theorem zsJ:Callee Tryz.prog 139:=⟨fun args w=>zaf (fn:=Tryz.f139) rfl rfl oj args w⟩
theorem zsK:Callee Tryz.prog 140:=⟨fun args w=>zaf (fn:=Tryz.f140) rfl rfl oj args w⟩
theorem zsL:Callee Tryz.prog 141:=⟨fun args w=>zaf (fn:=Tryz.f141) rfl rfl oj args w⟩
theorem znl:Callee Tryz.prog 142:=⟨fun args w=>zaf (fn:=Tryz.f142) rfl rfl oj args w⟩
theorem zsM:Callee Tryz.prog 143:=⟨fun args w=>zaf (fn:=Tryz.f143) rfl rfl oj args w⟩
theorem zin:Callee Tryz.prog 144:=⟨fun args w=>zaf (fn:=Tryz.f144) rfl rfl oj args w⟩
theorem zhc:Callee Tryz.prog 145:=⟨fun args w=>zaf (fn:=Tryz.f145) rfl rfl oj args w⟩
theorem znm:Callee Tryz.prog 146:=⟨fun args w=>zaf (fn:=Tryz.f146) rfl rfl oj args w⟩
theorem zpY:Callee Tryz.prog 147:=⟨fun args w=>zaf (fn:=Tryz.f147) rfl rfl oj args w⟩
theorem zsN:Callee Tryz.prog 148:=⟨fun args w=>zaf (fn:=Tryz.f148) rfl rfl oj args w⟩
theorem zsO:Callee Tryz.prog 149:=⟨fun args w=>zaf (fn:=Tryz.f149) rfl rfl oj args w⟩
theorem znn:Callee Tryz.prog 150:=⟨fun args w=>zaf (fn:=Tryz.f150) rfl rfl oj args w⟩
theorem zku:Callee Tryz.prog 151:=⟨fun args w=>zaf (fn:=Tryz.f151) rfl rfl oj args w⟩
theorem zhd:Callee Tryz.prog 152:=⟨fun args w=>zaf (fn:=Tryz.f152) rfl rfl oj args w⟩
theorem zpZ:Callee Tryz.prog 153:=⟨fun args w=>zaf (fn:=Tryz.f153) rfl rfl oj args w⟩
theorem zp0:Callee Tryz.prog 154:=⟨fun args w=>zaf (fn:=Tryz.f154) rfl rfl oj args w⟩
theorem zp1:Callee Tryz.prog 155:=⟨fun args w=>zaf (fn:=Tryz.f155) rfl rfl oj args w⟩
theorem zkv:Callee Tryz.prog 156:=⟨fun args w=>zaf (fn:=Tryz.f156) rfl rfl oj args w⟩
theorem zno:Callee Tryz.prog 157:=⟨fun args w=>zaf (fn:=Tryz.f157) rfl rfl oj args w⟩
theorem zsP:Callee Tryz.prog 158:=⟨fun args w=>zaf (fn:=Tryz.f158) rfl rfl oj args w⟩
theorem zsQ:Callee Tryz.prog 159:=⟨fun args w=>zaf (fn:=Tryz.f159) rfl rfl oj args w⟩
theorem zsR:Callee Tryz.prog 160:=⟨fun args w=>zaf (fn:=Tryz.f160) rfl rfl oj args w⟩
theorem zp2:Callee Tryz.prog 161:=⟨fun args w=>zaf (fn:=Tryz.f161) rfl rfl oj args w⟩
theorem zp3:Callee Tryz.prog 162:=⟨fun args w=>zaf (fn:=Tryz.f162) rfl rfl oj args w⟩
theorem zsS:Callee Tryz.prog 163:=⟨fun args w=>zaf (fn:=Tryz.f163) rfl rfl oj args w⟩
theorem zsT:Callee Tryz.prog 164:=⟨fun args w=>zaf (fn:=Tryz.f164) rfl rfl oj args w⟩
theorem zsU:Callee Tryz.prog 181:=⟨fun args w=>zaf (fn:=Tryz.f181) rfl rfl oj args w⟩
theorem zp4:Callee Tryz.prog 182:=⟨fun args w=>zaf (fn:=Tryz.f182) rfl rfl oj args w⟩
theorem zp5:Callee Tryz.prog 183:=⟨fun args w=>zaf (fn:=Tryz.f183) rfl rfl oj args w⟩
theorem zp6:Callee Tryz.prog 184:=⟨fun args w=>zaf (fn:=Tryz.f184) rfl rfl oj args w⟩
theorem zp7:Callee Tryz.prog 187:=⟨fun args w=>zaf (fn:=Tryz.f187) rfl rfl oj args w⟩
theorem zp8:Callee Tryz.prog 188:=⟨fun args w=>zaf (fn:=Tryz.f188) rfl rfl oj args w⟩
theorem zsV:Callee Tryz.prog 189:=⟨fun args w=>zaf (fn:=Tryz.f189) rfl rfl oj args w⟩
theorem zsW:Callee Tryz.prog 190:=⟨fun args w=>zaf (fn:=Tryz.f190) rfl rfl oj args w⟩
theorem zsX:Callee Tryz.prog 192:=⟨fun args w=>zaf (fn:=Tryz.f192) rfl rfl oj args w⟩
theorem znp:Callee Tryz.prog 193:=⟨fun args w=>zaf (fn:=Tryz.f193) rfl rfl oj args w⟩
theorem zsY:Callee Tryz.prog 194:=⟨fun args w=>zaf (fn:=Tryz.f194) rfl rfl oj args w⟩
theorem zsZ:Callee Tryz.prog 195:=⟨fun args w=>zaf (fn:=Tryz.f195) rfl rfl oj args w⟩
theorem zs0:Callee Tryz.prog 196:=⟨fun args w=>zaf (fn:=Tryz.f196) rfl rfl oj args w⟩
theorem zs1:Callee Tryz.prog 197:=⟨fun args w=>zaf (fn:=Tryz.f197) rfl rfl oj args w⟩
theorem zp9:Callee Tryz.prog 198:=⟨fun args w=>zaf (fn:=Tryz.f198) rfl rfl oj args w⟩
theorem zs3:Callee Tryz.prog 208:=⟨fun args w=>zaf (fn:=Tryz.f208) rfl rfl oj args w⟩
theorem zs4:Callee Tryz.prog 236:=⟨fun args w=>zaf (fn:=Tryz.f236) rfl rfl oj args w⟩
theorem zdt:Callee Tryz.prog 237:=⟨fun args w=>zaf (fn:=Tryz.f237) rfl rfl oj args w⟩
theorem zs5:Callee Tryz.prog 238:=⟨fun args w=>zaf (fn:=Tryz.f238) rfl rfl oj args w⟩
theorem zs6:Callee Tryz.prog 239:=⟨fun args w=>zaf (fn:=Tryz.f239) rfl rfl oj args w⟩
theorem zs7:Callee Tryz.prog 240:=⟨fun args w=>zaf (fn:=Tryz.f240) rfl rfl oj args w⟩
theorem zs8:Callee Tryz.prog 242:=⟨fun args w=>zaf (fn:=Tryz.f242) rfl rfl oj args w⟩
theorem znq:Callee Tryz.prog 243:=⟨fun args w=>zaf (fn:=Tryz.f243) rfl rfl oj args w⟩
theorem znr:Callee Tryz.prog 244:=⟨fun args w=>zaf (fn:=Tryz.f244) rfl rfl oj args w⟩
theorem zkw:Callee Tryz.prog 245:=⟨fun args w=>zaf (fn:=Tryz.f245) rfl rfl oj args w⟩
theorem zns:Callee Tryz.prog 246:=⟨fun args w=>zaf (fn:=Tryz.f246) rfl rfl oj args w⟩
theorem zkx:Callee Tryz.prog 248:=⟨fun args w=>zaf (fn:=Tryz.f248) rfl rfl oj args w⟩
theorem zs9:Callee Tryz.prog 254:=⟨fun args w=>zaf (fn:=Tryz.f254) rfl rfl oj args w⟩
theorem znt:Callee Tryz.prog 272:=⟨fun args w=>zaf (fn:=Tryz.f272) rfl rfl oj args w⟩
theorem zta:Callee Tryz.prog 273:=⟨fun args w=>zaf (fn:=Tryz.f273) rfl rfl oj args w⟩
theorem zrY:Tryz.prog.follows .mixedOrders=true:=by kernel_rfl
def evT:Tabs:=⟨lk [(3,1,false),(4,1,false),(5,1,false),(9,1,false),(22,1,false),(23,1,false),(29,2,true),(31,4,true),(32,1,false),(33,1,false),(35,6,true),(37,1,false),(40,4,true),(43,2,true),(63,1,false),(66,1,false),(68,3,true),(72,1,false),(74,6,true),(76,3,true),(78,9,true),(82,4,true),(86,1,false),(88,2,true),(90,1,false),(92,6,true),(93,3,true),(95,9,true),(96,1,false),(99,1,false),(107,3,true),(108,1,false),(110,2,true),(115,1,false),(117,8,true),(130,1,false),(136,1,false),(138,3,true),(149,3,true),(184,2,true),(194,1,false),(221,1,false),(223,3,true),(234,4,true),(250,1,false),(333,1,false)],memN [22,23,24,32,33,37,42,44,63,66,72,86,90,96,99,102,103,108,115,126,130,136,176,221,231],memN [9],lk2 [(29,0,0),(29,1,1),(31,0,0),(31,1,2),(35,0,0),(35,1,4),(35,2,5),(40,0,0),(40,1,1),(40,2,2),(40,3,3),(43,0,0),(43,1,1),(68,0,0),(68,1,1),(68,2,2),(74,0,0),(74,1,1),(74,2,2),(74,3,3),(74,4,4),(74,5,5),(76,0,0),(76,1,1),(76,2,2),(78,0,0),(78,1,6),(88,0,0),(88,1,1),(92,0,0),(92,1,1),(92,2,2),(92,3,3),(92,4,4),(92,5,5),(93,0,0),(93,1,1),(93,2,2),(95,0,0),(95,1,6),(107,0,0),(107,1,1),(107,2,2),(110,0,0),(110,1,1),(117,0,0),(117,1,1),(117,2,2),(117,3,3),(117,4,4),(117,5,5),(117,6,6),(117,7,7),(124,0,0),(124,1,1),(138,0,0),(138,1,1),(138,2,2),(149,0,0),(149,1,1),(184,0,0),(184,1,1),(223,0,0),(223,1,1),(223,2,2),(234,0,0),(234,1,1),(253,0,0),(253,1,1)]⟩
theorem ziy:TabsOK Tryz.prog evT:=TabsOK.of oi oi oi oi
theorem sx {E e' env:Env}{H h' hp:Hp}{ks:List Nat} (hE:SubE E e') (hH:SubH H h') (he:e'.drop (e'.length-env.length)=env:=by kernel_rfl) (hc:zew (zdl E++ks) (e'.take (e'.length-env.length))=true:=by kernel_rfl)
    (hh:h'.drop (h'.length-hp.length)=hp:=by kernel_rfl) (hhc:zcU (zcu H) (zcu hp) (h'.take (h'.length-hp.length))=true:=by kernel_rfl):Sub ⟨E++(zbW ks++env),H++hp⟩ ⟨e',h'⟩:=Sub.x he hc hE hh hhc hH
section
variable {c:Ctx}{all:Array Oper}{chk:List Rec->Prop}{os:List Oper}{recs:List Rec}{env:Env}{hp:Hp}{Q:St->Prop}{d ty:Nat}{pos:String}{af:Array Edge}
theorem wc {f:FuncId}{args:Array Operand}{ats:Array TypeId}{xs:List Operand}{vs:List AV}{hpc hp0:Hp}{r:AV} (hc:Callee c.P f) (hf:FnD c.P f vs hpc r hp0) (hargs:args=xs.toArray) (hx:opdL env xs=some vs)
    (hn:Walk c all chk os (zan ([]++opFL xs vs) (hpF hpc) [] ⟨some (d,r),hp0⟩::recs) ⟨(d,r)::env,hp0++hp⟩ Q)
    (hd:Nat.blt d c.n=true:=by exact rfl) (hsub:subH hpc hp:=by first|exact trivial|exact⟨rfl,trivial⟩) (hnt:zdM hpc=true:=by exact rfl) (hok:zbi hpc hp0 r []=true:=by exact rfl)
    (hcr:zaq env hp []=true:=by exact rfl):Walk c all chk (⟨some d,.call ⟨.value (.func f),args,ats⟩,ty,pos,af,none⟩::os) recs ⟨env,hp⟩ Q:=
  Walk.call (cr:=[]) hc hf hargs .none hd hx (LeL.refl _) hsub hnt hok hcr hn
theorem wd {f:FuncId}{args:Array Operand}{ats:Array TypeId}{xs:List Operand}{vs:List AV}{hpc hp0:Hp}{r:AV} (hc:Callee c.P f) (hf:FnD c.P f vs hpc r hp0) (hargs:args=xs.toArray) (hx:opdL env xs=some vs) (hsub:subH hpc hp)
    (hn:Walk c all chk os (zan ([]++opFL xs vs) (hpF hpc) [] ⟨some (d,r),hp0⟩::recs) ⟨(d,r)::env,hp0++hp⟩ Q)
    (hd:Nat.blt d c.n=true:=by exact rfl) (hnt:zdM hpc=true:=by exact rfl) (hok:zbi hpc hp0 r []=true:=by exact rfl)
    (hcr:zaq env hp []=true:=by exact rfl):Walk c all chk (⟨some d,.call ⟨.value (.func f),args,ats⟩,ty,pos,af,none⟩::os) recs ⟨env,hp⟩ Q:=
  Walk.call (cr:=[]) hc hf hargs .none hd hx (LeL.refl _) hsub hnt hok hcr hn
variable {t:TypeId}{x y:Operand}
theorem so {id off k:Nat}{b:Bool}{v:AV}{cs vs cs':List AV} (ht:TyS c.P t k b)
    (hn:Walk c all chk os (zan ([]++(opF x (.ref id off)++opF y v)) [(id,.box cs)] [] ⟨none,[(id,some (.box cs'))]⟩::recs) ⟨env,(id,some (.box cs'))::hp⟩ Q)
    (hx:opd env x=some (.ref id off):=by exact rfl) (hy:opd env y=some v:=by exact rfl) (hb:getH hp id=some (.box cs):=by exact rfl) (hv:zbq v=some vs:=by exact rfl) (hk:vs.length=k:=by exact rfl)
    (h1:zhb vs=true:=by exact rfl) (hne:vs≠[]:=by simp) (hput:putC cs off vs=some cs':=by exact rfl):Walk c all chk (⟨none,.store t x y,ty,pos,af,none⟩::os) recs ⟨env,hp⟩ Q:=
  Walk.store ht .none hx hy hb hv hk h1 hne hput hn
theorem bx (id:Nat){v:AV}{cs:List AV}
    (hn:Walk c all chk os (zan ([]++opFL [x] [v]) [] [id] ⟨some (d,.ref id 0),[(id,some (.box cs))]⟩::recs) ⟨(d,.ref id 0)::env,(id,some (.box cs))::hp⟩ Q)
    (hd:Nat.blt d c.n=true:=by exact rfl) (hx:opd env x=some v:=by exact rfl) (hc:zbq v=some cs:=by exact rfl)
    (h0:getH hp id=none:=by exact rfl) (ho1:occE id env=false:=by exact rfl) (ho2:occH id hp=false:=by exact rfl) (hid:zaJ id (AV.idsL cs)=false:=by exact rfl):
    Walk c all chk (⟨some d,.box t x,ty,pos,af,none⟩::os) recs ⟨env,hp⟩ Q:=Walk.box .none hd hx hc h0 ho1 ho2 hid hn
theorem ab (id:Nat){k:Nat}{zs:List AV} (ht:TyZ c.P t k zs)
    (hn:Walk c all chk os (zan ([]++[]) [] [id] ⟨some (d,.ref id 0),[(id,some (.box zs))]⟩::recs) ⟨(d,.ref id 0)::env,(id,some (.box zs))::hp⟩ Q)
    (hz:AV.idsL zs=[]:=by exact rfl) (hd:Nat.blt d c.n=true:=by exact rfl) (h0:getH hp id=none:=by exact rfl) (ho1:occE id env=false:=by exact rfl) (ho2:occH id hp=false:=by exact rfl):
    Walk c all chk (⟨some d,.alloc t,ty,pos,af,none⟩::os) recs ⟨env,hp⟩ Q:=Walk.alloc ht hz .none hd h0 ho1 ho2 hn
theorem bu (ks:List Nat) (xs:List Operand){parts:Array (Nat×Operand)}{vs zs r:List AV}{places:List (Nat×Nat)} (ht:StT c.P t places zs)
    (hn:Walk c all chk os (zan ([]++opFL xs vs) [] [] ⟨some (d,.agg r),[]⟩::recs) ⟨(d,.agg r)::env,hp⟩ Q)
    (hparts:parts=(ks.zip xs).toArray:=by exact rfl) (hlen:ks.length=xs.length:=by exact rfl) (hd:Nat.blt d c.n=true:=by exact rfl) (hx:opdL env xs=some vs:=by exact rfl)
    (hf:zfW (places[·]?) zs (ks.zip vs)=some r:=by exact rfl):Walk c all chk (⟨some d,.build t parts,ty,pos,af,none⟩::os) recs ⟨env,hp⟩ Q:=Walk.build ht hparts hlen .none hd hx hf hn
theorem si (ks:List Nat) (xs:List Operand){parts:Array (Nat×Operand)}{n:Nat}{vs zs r:List AV}{es:List (List D)}{e k yb:Nat} (ht:SlT c.P t e k yb) (hz:TyZ c.P e k zs)
    (hn:Walk c all chk os (zan ([]++opFL xs vs) [] [] ⟨some (d,.d (.sl es)),[]⟩::recs) ⟨(d,.d (.sl es))::env,hp⟩ Q) (hzk:zs.length=k:=by exact rfl) (hk:0<k:=by decide)
    (hparts:parts=(ks.zip xs).toArray:=by exact rfl) (hlen:ks.length=xs.length:=by exact rfl) (hsmall:n*k<=16777216:=by decide) (hpos:0<n:=by decide) (hd:Nat.blt d c.n=true:=by exact rfl) (hx:opdL env xs=some vs:=by exact rfl)
    (hf:zfW (fun i=>some (i*k,k)) (za1 n zs) (ks.zip vs)=some r:=by exact rfl) (hc:zbN n k r=some es:=by exact rfl):
    Walk c all chk (⟨some d,.buildSlice t n parts,ty,pos,af,none⟩::os) recs ⟨env,hp⟩ Q:=Walk.sliceLit ht hz hzk hk hparts hlen hsmall hpos .none hd hx hf hc hn
theorem oq{p:Prop}(h:p:=by first|rfl|(simp;done)|(simp;omega)):p:=h
theorem ap {id k e yb:Nat}{xs ys:List (List D)}{vy:AV} (ht:SlT c.P t e k yb) (hz:ZeroT c.P e k) (hx:opd env x=some (.gl id xs)) (hy:opd env y=some vy) (hyd:vy.toD=some (.sl ys))
    (hky:∀y,y∈ys->y.length=k) (hb:(xs.length+ys.length)*70<=140737488355328)
    (hn:Walk c all chk os (zan ([]++(opF x (.gl id xs)++opF y vy)) [(id,.tok xs.length k)] [] ⟨some (d,.gl id (xs++ys)),[(id,some (.tok (xs.length+ys.length) k))]⟩::recs)
      ⟨(d,.gl id (xs++ys))::env,(id,some (.tok (xs.length+ys.length) k))::hp⟩ Q) (hk:Nat.blt 0 k=true:=by exact rfl) (hd:Nat.blt d c.n=true:=by exact rfl)
    (htok:getH hp id=some (.tok xs.length k):=by exact zbG Z oq) (hyb:Nat.ble yb 70=true:=by exact rfl):
    Walk c all chk (⟨some d,.call ⟨.builtin .append,#[x,y],#[t,t]⟩,ty,pos,af,none⟩::os) recs ⟨env,hp⟩ Q:=
  Walk.append ht hz hk .none hd hx hy hyd htok hky (Nat.le_trans (Nat.mul_le_mul_left _ (Nat.le_of_ble_eq_true hyb)) hb) od hn
end
section
variable {c:Ctx}{all:Array Oper}{chk:List Rec->Prop}{os:List Oper}{recs:List Rec}{env:Env}{hp:Hp}{Q:St->Prop}
theorem evs (stop:List Nat) (kn:List (Nat×Bool)) (h:evW evT stop c all (fun _=>True) Q (fun _ env hp=>Q ⟨env,hp⟩) os recs env hp kn) (hk:KN env kn:=by exact trivial) (hT:TabsOK c.P evT:=by exact ziy):Walk c all (fun _=>True) os recs ⟨env,hp⟩ Q:=
  ziz hT (fun _ _ _ h=>⟨trivial,h⟩) hk h
theorem evd (stop:List Nat) (kn:List (Nat×Bool)) (h:evW evT stop c all chk Q (fun recs env hp=>chk recs/\Q ⟨env,hp⟩) os recs env hp kn) (hk:KN env kn:=by exact trivial) (hT:TabsOK c.P evT:=by exact ziy):Walk c all chk os recs ⟨env,hp⟩ Q:=
  ziz hT (fun _ _ _ h=>h) hk h
theorem ev (h:evW evT [] c all (fun _=>True) Q (fun _ env hp=>Q ⟨env,hp⟩) os recs env hp []) (hT:TabsOK c.P evT:=by exact ziy):Walk c all (fun _=>True) os recs ⟨env,hp⟩ Q:=
  evs [] [] h trivial hT
theorem evc (stop rs:List Nat){x:Code}{s:St}{K:Kt} (h:evC evT stop rs c x s K) (hT:TabsOK c.P evT:=by exact ziy) (hm:c.P.follows .mixedOrders=true:=by exact zrY):CWp c x s K:=zgn hT hm h
end
theorem bd (fn:Func) (n:Nat) (stop rs:List Nat){f:Nat}{code:Code}{rv:List ResultVar}{args:List AV}{hp:Hp}{Post:AV->Hp->Prop}
    (h:∀w0 F0 own kept,KeptIn kept (zfs hp)->evC evT stop rs ⟨Tryz.prog,n,w0,F0,own,kept⟩ code ⟨zhA 0 args,hp⟩ ⟨Fin Tryz.prog rv hp Post,fun _ _=>False,Fin Tryz.prog rv hp Post⟩)
    (hf:(Tryz.prog).funcs[f]?=some fn:=by exact rfl) (hb:fn.body=some code:=by exact rfl) (hnn:fn.ntmps=n:=by exact rfl) (hrs:fn.results.toList=rv:=by exact rfl) (hn:Nat.ble args.length n=true:=by exact rfl):
    Fn Tryz.prog f args hp Post:=Fn.body hf hb hnn hrs hn (fun w0 F0 own kept hk=>zgn ziy zrY (h w0 F0 own kept hk))
theorem ar {n:Int}{X:Prop} (k:X) (b:I64 n:=by first|(constructor<;>omega)|(constructor<;>simp<;>omega)):Ar n X:=⟨b,k⟩
class Nz (p:Prop) (q:outParam Prop):Prop where
  nz:p->q
instance (priority:=low){p:Prop}:Nz p p:=⟨id⟩
instance {b:Bool}{q:Prop} [h:Nz (b=false) q]:Nz ((!b)=true) q:=⟨fun hb=>h.nz (by simpa using hb)⟩
instance {b:Bool}{q:Prop} [h:Nz (b=true) q]:Nz ((!b)=false) q:=⟨fun hb=>h.nz (by simpa using hb)⟩
theorem sq {b:Bool}{X Y q r:Prop} [h1:Nz (b=true) q] [h2:Nz (b=false) r] (t:b=true->b=true->q->X) (f:b=false->b=false->r->Y):Sp b X Y:=⟨fun h=>t h h (h1.nz h),fun h=>f h h (h2.nz h)⟩
theorem sqT {b:Bool}{X Y:Prop} (h:X) (hb:b=true:=by exact rfl):Sp b X Y:=⟨fun _=>h,fun h2=>absurd (h2.symm.trans hb) oj⟩
theorem sqF {b:Bool}{X Y:Prop} (h:Y) (hb:b=false:=by exact rfl):Sp b X Y:=⟨fun h2=>absurd (h2.symm.trans hb) oj,fun _=>h⟩
theorem dr {X Y:Prop} (h:Y) (hc:X:=by show _=_;kernel_rfl):X/\Y:=⟨hc,h⟩
section
variable {P:Program}{rs:List ResultVar}{hp:Hp}{s:St}{vs:List AV}{r:AV}
theorem rn {Post:AV->Hp->Prop} (hp':Hp) (h1:ResL P s rs vs) (h2:LeA (zhM vs) r) (h3:Post r hp') (h4:HSub (hp'++hp) s.hp) (h5:∀id,zbr hp id=true->zbr (hp'++hp) id=true):Fin P rs hp Post s:=⟨vs,r,hp',h1,h2,h3,h4,h5⟩
theorem rn0 (h1:ResL P s rs vs) (h2:LeA (zhM vs) r):Fin P rs [] (fun x y=>x=r/\y=[]) s:=⟨vs,r,[],h1,h2,⟨rfl,rfl⟩,HSub.nil,zr1⟩
theorem r1 {i:Nat}{v:AV} (h:getE s.env i=some v):ResL P s [.tmp i] [v]:= .cons (.tmp h) .nil
theorem rq{i:Nat}{x y:D} (e:x=y) (h:getE s.env i=some (.d x):=by exact rfl):Fin P [.tmp i] [] (fun a b=>a=.d y/\b=[]) s:=rn0 (r1 h) (.eqd e)
theorem r2 {i j:Nat}{v w:AV} (h:getE s.env i=some v) (h':getE s.env j=some w):ResL P s [.tmp i,.tmp j] [v,w]:= .cons (.tmp h) (.cons (.tmp h') .nil)
theorem rc{a t id off k i:Nat}{cs r:List AV}{v:AV} (ht:TyS P t k true) (h:getE s.env a=some (.ref id off):=by exact rfl) (hb:getH s.hp id=some (.box cs):=by exact rfl) (hv:cutC cs off k=some r:=by exact rfl) (h2:getE s.env i=some v:=by exact rfl):ResL P s [.cell a t,.tmp i] [.agg r,v]:=.cons (.cellA ht h hb hv) (.cons (.tmp h2) .nil)
theorem ra{a t id off k:Nat}{cs r:List AV} (ht:TyS P t k true) (h:getE s.env a=some (.ref id off):=by exact rfl) (hb:getH s.hp id=some (.box cs):=by exact rfl) (hv:cutC cs off k=some r:=by exact rfl):ResL P s [.cell a t] [.agg r]:=.cons (.cellA ht h hb hv) .nil
end
section
variable {env e':Env}{hp h':Hp}{ks:List Nat}{n:Nat}{u v:AV}{p q:Bool}
theorem jn (hu:getE e' n=some u) (le:LeA u v) (he:e'.drop (e'.length-env.length)=env:=by kernel_rfl) (hc:zew (zdl [(n,v)]++ks) (e'.take (e'.length-env.length))=true:=by kernel_rfl)
    (hh:h'.drop (h'.length-hp.length)=hp:=by kernel_rfl) (hhc:zcU (zcu []) (zcu hp) (h'.take (h'.length-hp.length))=true:=by kernel_rfl):Sub ⟨[(n,v)]++(zbW ks++env),[]++hp⟩ ⟨e',h'⟩:=
  Sub.x he hc ⟨⟨_,hu,le⟩,trivial⟩ hh hhc trivial
theorem jnb (hu:getE e' n=some (.d (.bool p))) (hpq:p=q:=by first|rfl|(rw[xat];(try simp only[BQ])<;>first|omega|(simp_all;done)|(simp_all;omega)))
    (he:e'.drop (e'.length-env.length)=env:=by kernel_rfl) (hc:zew (zdl [(n,.d (.bool q))]++ks) (e'.take (e'.length-env.length))=true:=by kernel_rfl)
    (hh:h'.drop (h'.length-hp.length)=hp:=by kernel_rfl) (hhc:zcU (zcu []) (zcu hp) (h'.take (h'.length-hp.length))=true:=by kernel_rfl):Sub ⟨[(n,.d (.bool q))]++(zbW ks++env),[]++hp⟩ ⟨e',h'⟩:=
  jn hu (xaP hpq) he hc hh hhc
end
end Go.Proofs.YtmchfdpleibpdaaGreat
namespace Go.Proofs.YtmchfdpleibpdaaGreat
set_option linter.unusedSimpArgs false
set_option linter.unusedVariables false
abbrev Str:=List UInt8
structure Ty where
 data:Int
 index:Int
 deriving DecidableEq,Inhabited
structure Ctor where
 name:Str
 args:List Ty
 index:Int
 deriving DecidableEq,Inhabited
structure Data where
 name:Str
 ctors:List Ctor
 deriving DecidableEq,Inhabited
inductive Val where
 |mk (ctor n:Int) (kids:List Val)
 deriving Inhabited
inductive Pat where
 |mk (op ctor n m var:Int) (kids:List Pat)
 deriving Inhabited
abbrev Ty.c (t:Ty):List D:=[.i t.data,.i t.index]
abbrev zbn (l:List Ty):D:= .sl (l.map Ty.c)
abbrev Ctor.c (x:Ctor):List D:=[.str x.name,zbn x.args,.i x.index]
abbrev zce (l:List Ctor):D:= .sl (l.map Ctor.c)
abbrev Data.c (x:Data):List D:=[.str x.name,zce x.ctors]
abbrev zap (l:List Data):D:= .sl (l.map Data.c)
abbrev zaH (l:List Int):D:= .sl (l.map fun n=>[.i n])
mutual
def Val.c:Val->List D
 | .mk ctor n kids=>[.i ctor,.i n,.sl (Val.cs kids)]
def Val.cs:List Val->List (List D)
 | []=>[]
 |v::r=>v.c::Val.cs r
end
abbrev zbg (l:List Val):D:= .sl (Val.cs l)
mutual
def Pat.c:Pat->List D
 | .mk op ctor n m var kids=>[.i op,.i ctor,.i n,.i m,.i var,.sl (Pat.cs kids)]
def Pat.cs:List Pat->List (List D)
 | []=>[]
 |v::r=>v.c::Pat.cs r
end
abbrev zau (l:List Pat):D:= .sl (Pat.cs l)
theorem xbf:∀l:List Val,Val.cs l=l.map Val.c
 | []=>rfl
 |v::r=>by simp[Val.cs,xbf r]
theorem xaV:∀l:List Pat,Pat.cs l=l.map Pat.c
 | []=>rfl
 |v::r=>by simp[Pat.cs,xaV r]
theorem zaL {α β:Type}{f:α->β}{pre:List α}{x:α}{rest xs:List α} (h:pre++x::rest=xs):(xs.map f)[pre.length]?=some (f x):=by
 subst h;simp
def Val.ctor:Val->Int | .mk a _ _=>a
def Val.num:Val->Int | .mk _ n _=>n
def Val.kids:Val->List Val | .mk _ _ k=>k
abbrev Val.cc (v:Val):List D:=[.i v.ctor,.i v.num,.sl (Val.cs v.kids)]
theorem xbc (v:Val):v.c=v.cc:=by cases v;rfl
theorem Val.eta (v:Val):Val.mk v.ctor v.num v.kids=v:=by cases v;rfl
theorem xbg (l:List Val):(Val.cs l).length=l.length:=by simp[xbf]
theorem xaW (l:List Pat):(Pat.cs l).length=l.length:=by simp[xaV]
theorem xbd {pre:List Val}{x:Val}{rest xs:List Val} (h:pre++x::rest=xs):(Val.cs xs)[pre.length]?=some x.cc:=by rw[xbf,<-xbc];exact zaL h
theorem Pat.cs_at {pre:List Pat}{x:Pat}{rest xs:List Pat} (h:pre++x::rest=xs):(Pat.cs xs)[pre.length]?=some x.c:=by rw[xaV];exact zaL h
end Go.Proofs.YtmchfdpleibpdaaGreat
namespace Go.Proofs.YtmchfdpleibpdaaGreat
open Go
set_option linter.unusedSimpArgs false
set_option linter.unusedVariables false
def zat (n lo hi:Int):Bool:=decide (lo<=n)&&decide (n<=hi)
def zcY (b:UInt8):Bool:=decide (65<=(b.toNat:Int))&&decide ((b.toNat:Int)<=90)
def zfx (b:UInt8):Bool:=decide (97<=(b.toNat:Int))&&decide ((b.toNat:Int)<=122)
def zcL (s:Str):Bool:=s.all zfx
def zc1 (s:Str):Bool:=zat s.length 1 5&&(match s with | []=>false|b::r=>zcY b&&zcL r)
def zbJ (n:Nat) (t:Ty):Bool:=(decide (t.data = -1)&&(decide (t.index=0)&&true))||(zat t.data 0 (n-1)&&zat t.index (-1) 3)
def zbw (n:Nat) (c:Ctor):Bool:=zc1 c.name&&(decide ((c.args.length:Int)<=3)&&(zat c.index 0 3&& !(c.args.any fun t=> !zbJ n t)))
def zdE (n:Nat) (t:Ty):Bool:=(decide (t.data = -1)&&(decide (t.index=0)&&true))||(zat t.data 0 (n-1)&&zat t.index 0 3)
def zbd (s:Str):Bool:=decide ((s.length:Int)=1)&&(zcY (s.getD 0 0)&& !decide (s=[73]))
def zcx (n:Nat) (met:List Str):List Ctor->Option (List Str)
 | []=>some met
 |c::r=>if zbw n c&& !decide (c.name∈met) then zcx n (met++[c.name]) r else none
def zbs (n:Nat) (met datas:List Str):List Data->Bool
 | []=>true
 |d::r=>zbd d.name&& !decide (d.name∈datas)&&zat d.ctors.length 1 4&&
  (match zcx n met d.ctors with
   |some met'=>zbs n met' (datas++[d.name]) r
   |none=>false)
def zbp (w:List Data):Bool:=decide ((w.length:Int)<=4)&&zbs w.length [] [] w
def za2 (w:List Data) (t:Ty):Bool:=zbp w&&zdE w.length t
structure WSmall (w:List Data):Prop where
 len:w.length<=1000000000000
 data:∀d∈w,d.name.length<=1000000000000/\d.ctors.length<=1000000000000
 ctor:∀d∈w,∀c∈d.ctors,c.name.length<=1000000000000/\c.args.length<=1000000000000
def nth {α:Type} [Inhabited α] (l:List α) (i:Nat):α:=l.getD i default
theorem zao {α β:Type} [Inhabited α]{f:α->β}{l:List α}{i:Nat} (h:i<l.length):(l.map f)[i]?=some (f (nth l i)):=by
 simp[nth,List.getD,h]
theorem zai {α:Type} [Inhabited α]{l:List α}{i:Nat} (h:i<l.length):nth l i∈l:=by
 simp[nth,List.getD,h]
theorem ztk {α:Type} [Inhabited α]{pre rest l:List α}{x:α} (h:pre++x::rest=l):nth l pre.length=x:=by
 subst h;simp[nth,List.getD]
theorem WSmall.ctors {w:List Data} (h:WSmall w) (i:Nat):(nth w i).ctors.length<=1000000000000:=by
 by_cases hi:i<w.length
 ·exact(h.data _ (zai hi)).2
 ·have:nth w i=default:=by simp[nth,List.getD,List.getElem?_eq_none (Nat.le_of_not_lt hi)]
  rw[this];exact Nat.zero_le _
def zbx (w:List Data) (d k i j:Nat):Bool:=(decide (i<d)||decide (j<k))&&(decide (k<(nth w d).ctors.length)&&decide ((nth (nth w i).ctors j).name=(nth (nth w d).ctors k).name))
def zcM (w:List Data) (d k i:Nat):Bool:=(decide (i<d)&&decide ((nth w i).name=(nth w d).name))||(List.range (nth w i).ctors.length).any (zbx w d k i)
def zlt (w:List Data) (d k:Nat):Bool:=(List.range (d+1)).any (zcM w d k)
def zdB (w:List Data) (d k:Nat):Bool:=zbw w.length (nth (nth w d).ctors k)&& !zlt w d k
def zb3 (w:List Data) (d:Nat):Bool:=zbd (nth w d).name&&(decide (1<=(nth w d).ctors.length)&&(decide ((nth w d).ctors.length<=4)&&(List.range (nth w d).ctors.length).all (zdB w d)))
def zbc (w:List Data):Bool:=decide (w.length<=4)&&(List.range w.length).all (zb3 w)
theorem zet {n:Nat}{p:Nat->Bool} (h:∀i,i<n->p i=false):(List.range n).any p=false:=by
 rw[List.any_eq_false];intro i hi;rw[h i (List.mem_range.1 hi)];simp
theorem zcn {n:Nat}{p:Nat->Bool}{i:Nat} (hi:i<n) (h:p i=true):(List.range n).any p=true:=
 List.any_eq_true.2 ⟨i,List.mem_range.2 hi,h⟩
theorem zdj {n:Nat}{p:Nat->Bool}{i:Nat} (hi:i<n) (h:p i=false):(List.range n).all p=false:=
 List.all_eq_false.2 ⟨i,List.mem_range.2 hi,by simp[h]⟩
theorem zdH {n:Nat}{p:Nat->Bool} (h:∀i,i<n->p i=true):(List.range n).all p=true:=by
 rw[List.all_eq_true];intro i hi;exact h i (List.mem_range.1 hi)
theorem zaR {P:Nat->Prop}{i:Nat} (h:∀j,j<i->P j) (hi:P i):∀j,j<i+1->P j:=fun j hj=>by
 rcases Nat.lt_or_eq_of_le (Nat.le_of_lt_succ hj) with h1|h1
 ·exact h j h1
 ·exact h1 ▸ hi
theorem zgO {w:List Data}{d k i j:Nat} (h1:(decide (i<d)&&decide ((nth w i).name=(nth w d).name))=false) (h2:∀j',j'<j->zbx w d k i j'=false)
  (h3:j<(nth w i).ctors.length->d<=i/\k<=j):zcM w d k i=false:=by
 unfold zcM;rw[h1,Bool.false_or];refine zet (fun j' hj'=>?_);by_cases h:j'<j
 ·exact h2 j' h
 ·have:=h3 od;have e1:decide (i<d)=false:=xaw od;have e2:decide (j'<k)=false:=xaw od;simp only[zbx,e1,e2,Bool.or_self,Bool.false_and]
set_option maxRecDepth 100000
set_option maxHeartbeats 2000000
theorem zba {n lo hi:Int}:FnD Tryz.prog 63 [.d (.i n),.d (.i lo),.d (.i hi)] [] (.d (.bool (zat n lo hi))) []:=by
 refine bd Tryz.f63 15 [] [] fun _ _ _ _ hk=>?_;apply sq<;>intro h1 h1p h1s;focus (refine rq ?_;all_goals ((simp[zat,h1s,h1p];done)))
 focus (refine rq ?_;all_goals ((simp[zat,h1s,h1p];done)))
theorem zbP {s:Str} (h:0<s.length):zc1 s=(zat s.length 1 5&&(zcY s[0]&&zcL (s.drop 1))):=by
 rcases s with _|⟨b,r⟩
 ·simp at h
 ·simp[zc1]
theorem zh8 {s:Str} (h:s.length=0\/5<s.length):zc1 s=false:=by
 have:zat s.length 1 5=false:=by
  simp only[zat,Bool.and_eq_false_iff,decide_eq_false_iff_not];omega
 simp[zc1,this]
theorem zcy {s:Str}{i:Nat} (h:i<s.length):zcL (s.drop i)=(zfx s[i]&&zcL (s.drop (i+1))):=by
 unfold zcL;rw[List.drop_eq_getElem_cons h,List.all_cons]
theorem ziS {s:Str}{i:Nat} (h:s.length<=i):zcL (s.drop i)=true:=by
 rw[List.drop_eq_nil_of_le h];rfl
theorem zjx {s:Str} (hs:s.length<=1000000000000):FnD Tryz.prog 123 [.d (.str s)] [] (.d (.bool (zc1 s))) []:=by
 refine bd Tryz.f123 34 [] [] fun _ _ _ _ hk=>?_;refine wc zd4 zba Z Z ?_;refine ev ?_;apply sq<;>intro h1 h1p h1s;refine sqT ?_;refine sqT ?_;focus (refine rq ?_;all_goals ((simp[zc1,h1s,h1p];done)))
 try simp only[Q,zat] at h1p
 refine xbI (i:=0) un9 (.some Z Z h1) Z Z Z Z (xan od) ?_;refine evs [] [(8,false)] ?_ ⟨⟨_,Z,h1⟩,I⟩;apply sq<;>intro h3 h3p h3s<;>(try simp only[Q,zat] at h3p);refine sqT ?_;focus (refine rq ?_;all_goals ((rw[zbP od];simp[zcY];omega)))
 refine xbI (i:=0) un9 (.some Z Z h3) Z Z Z Z (xan od) ?_;refine evs [] [(13,false)] ?_ ⟨⟨_,Z,h3⟩,I⟩;apply sq<;>intro h5 h5p h5s<;>(try simp only[Q,zat] at h5p);focus (refine rq ?_;all_goals ((rw[zbP od];simp[zcY];omega)))
 refine xaD (ι:=Nat) hk (fun i=>[(3,.d (.i (i:Int)))]) [2,18,19,20,21,22,23,24,25,26,27,28,29,30,31,32,33] (fun i=>[]) (fun i=>1<=i/\i<=s.length/\zcL (s.drop i)=zcL (s.drop 1)) (fun i=>s.length-i) 1 ⟨by omega,by omega,Z⟩ ⟨⟨_,Z,xaQ ?_⟩,I⟩ I (fun x=>rfl) (fun i hg1=>?_);focus (rfl)
 refine evc [] [] ?_;apply sq<;>intro h6 h6p h6s<;>(try simp only[Q,zat] at h6p);refine xbI un9 .none Z Z Z Z (xan od) ?_;refine ev ?_;apply sq<;>intro h7 h7p h7s<;>(try simp only[Q,zat] at h7p);refine sqT ?_;focus (refine rq ?_;all_goals ((rw[zbP od,<-hg1.2.2,zcy od];simp[zfx];omega)))
 refine xbI un9 (.some Z Z h7) Z Z Z Z (xan od) ?_;refine evs [] [(28,false)] ?_ ⟨⟨_,Z,h7⟩,I⟩;apply sq<;>intro h9 h9p h9s<;>(try simp only[Q,zat] at h9p);focus (refine rq ?_;all_goals ((rw[zbP od,<-hg1.2.2,zcy od];simp[zfx];omega)))
 refine ar (xaj (i+1) ⟨⟨by omega,by omega,by rw[<-hg1.2.2,zcy (i:=i) od];simp[zfx];omega⟩, ?_,sx ⟨⟨_,Z,xaQ ?_⟩,I⟩ I⟩);focus (omega)
 focus (rfl)
 focus (refine rq ?_;all_goals ((rw[zbP od,<-hg1.2.2,ziS od];simp[zat,zcY];omega)))
theorem zfT (hp:Hp):(zfs hp).all (fun id=>(getH ([]++hp) id).isSome)=true:=by
 rw[List.all_eq_true];intro id h;simp only[zfs,List.mem_filter] at h;exact(zeD h.2).1
def idxF {α:Type} (p:α->Bool):List α->Nat->Int
 | [],_=> -1
 |x::r,i=>if p x then (i:Int) else idxF p r (i+1)
theorem ze3 {α:Type} (p:α->Bool):∀(l:List α) (i:Nat),decide (0<=idxF p l i)=l.any p
 | [],_=>by simp[idxF]
 |x::r,i=>by
  unfold idxF;cases h:p x with
  |true=>simp[h]
  |false=>simp[h,ze3 p r (i+1)]
theorem zei {hp:Hp} (h:zbi hp [] (.d .nilp) []=true) (x:D):zbi hp [] (.d x) []=true:=h
theorem zg8 {xs:List Ty}{f:Nat}{caps:List AV}{hp:Hp}{p:Ty->Bool} (hs:xs.length<=1000000000000) (hcal:Callee Tryz.prog f)
  (hf:∀t∈xs,FnD Tryz.prog f ([.agg [.d (.i t.data),.d (.i t.index)]]++caps) hp (.d (.bool (p t))) []) (k1:subH hp hp) (k2:zdM hp=true) (k3:zbi hp [] (.d .nilp) []=true):
  FnD Tryz.prog 181 [.d (zbn xs),.fn f caps] hp (.d (.i (idxF p xs 0))) []:=by
 refine bd Tryz.f181 19 [] [] fun _ _ _ _ hk=>?_;refine xaD (ι:=List (Ty)×List (Ty)) hk (fun x=>[(8,.d (.i (x.1.length:Int)))]) [4,5,9,10,11,12,13,14,15,16,17,18] (fun x=>[]) (fun x=>x.1++x.2=xs/\idxF p x.2 x.1.length=idxF p xs 0) (fun x=>x.2.length) ([],xs) ⟨by simp,Z⟩ ⟨⟨_,Z,xaQ ?_⟩,I⟩ I (fun x=>zfT hp) (fun x hg1=>?_);focus (rfl)
 obtain⟨pre,rest⟩:=x;dsimp only at hg1 ⊢;refine evc [] [] ?_;apply sq<;>intro h1 h1p h1s<;>(try simp only[Q] at h1p);rcases rest with _|⟨y,rest⟩
 ·exfalso;simp_all
 refine ixq za3 Z Z Z (zaL hg1.1) Z (ev (xby (cr:=[]) hcal (hf y (by rw[<-hg1.1];simp)) Z .none Z Z Z (LeL.refl _) k1 k2 (zei k3 _) Z ?_));apply tv;apply sq<;>intro h2 h2p h2s<;>(try simp only[Q] at h2p);focus (refine rn [] (r1 Z) (.eqd ?_) ⟨Z,Z⟩ (fun _ _ h=>h) (fun _ h=>h);all_goals (rw[<-hg1.2];simp[idxF,h1s,h1p,h2s,h2p]))
 refine ar (xaj ((pre++[y],rest)) ⟨⟨(by have hz:=hg1.1;rw[<-hz];simp),(by rw[<-hg1.2];simp[idxF,h2s])⟩,og,Sub.x oi oi ⟨⟨_,Z,xaQ ?_⟩,I⟩ og (by simp[zcU]) I⟩);focus ((simp;done))
 have hrest:rest=[]:=by
  rcases rest with _|⟨a,b⟩
  ·rfl
  ·exfalso;have hz:=xam List.length (hg1.1);simp only[xaa,xab,xac] at hz;omega
 subst hrest;focus (refine rn [] (r1 Z) (.eqd ?_) ⟨Z,Z⟩ (fun _ _ h=>h) (fun _ h=>h);all_goals (rw[<-hg1.2];simp[idxF,h1s,h1p]))
theorem zdo {xs:List Ty}{f:Nat}{caps:List AV}{hp:Hp}{p:Ty->Bool} (hs:xs.length<=1000000000000) (hcal:Callee Tryz.prog f)
  (hf:∀t∈xs,FnD Tryz.prog f ([.agg [.d (.i t.data),.d (.i t.index)]]++caps) hp (.d (.bool (p t))) []) (k1:subH hp hp) (k2:zdM hp=true) (k3:zbi hp [] (.d .nilp) []=true):
  FnD Tryz.prog 124 [.d (zbn xs),.fn f caps] hp (.d (.bool (xs.any p))) []:=by
 refine bd Tryz.f124 9 [] [] fun _ _ _ _ hk=>?_;refine Walk.call (cr:=[]) zsU (zg8 hs hcal hf k1 k2 k3) Z .none Z Z (LeL.refl _) k1 k2 (zei k3 _) Z (ev (rn [] (r1 Z) (.eqd ?_) ⟨Z,Z⟩ (fun _ _ h=>h) (fun _ h=>h)));rotate_left;all_goals (exact xam D.bool (ze3 p xs 0))
theorem zmN {w:List Data}{a b:Int} (hs:w.length<=1000000000000):FnD Tryz.prog 126 [.d (zap w),.agg [.d (.i a),.d (.i b)]] [] (.d (.bool (zbJ w.length ⟨a,b⟩))) []:=by
 refine bd Tryz.f126 21 [7] [] fun _ _ _ _ hk=>?_;refine bx 3003 ?_;refine evs [7] [] (bu [0] [_] st29 ?_);refine Walk.eqV eq29 .none Z Z Z Z Z (evs [7] [] ?_);apply sq<;>intro h1 h1p h1s;try simp only[Q] at h1p
 focus (refine rq ?_;all_goals ((simp[zbJ,h1s,h1p];done)))
 refine ar ?_ (by constructor<;>simp<;>omega);refine Walk.call (cr:=[]) zd4 zba Z (.some Z Z h1) Z Z (LeL.refl _) I Z Z Z (evs [7] [(8,false)] ?_ ⟨⟨_,Z,h1⟩,I⟩);apply sq<;>intro h2 h2p h2s;refine Walk.call (cr:=[]) zd4 zba Z (.some Z Z h2) Z Z (LeL.refl _) I Z Z Z (evs [7] [(8,false),(15,true)] ?_ ⟨⟨_,Z,h1⟩,⟨_,Z,h2⟩,I⟩);focus (refine rq ?_;all_goals ((simp_all[zbJ];done)))
 focus (refine rq ?_;all_goals ((simp_all[zbJ];done)))
theorem zlN {w:List Data}{a b:Int} (hs:w.length<=1000000000000):FnD Tryz.prog 67 [.d (zap w),.agg [.d (.i a),.d (.i b)]] [] (.d (.bool (zdE w.length ⟨a,b⟩))) []:=by
 refine bd Tryz.f67 21 [7] [] fun _ _ _ _ hk=>?_;refine bx 3003 ?_;refine evs [7] [] (bu [0] [_] st29 ?_);refine Walk.eqV eq29 .none Z Z Z Z Z (evs [7] [] ?_);apply sq<;>intro h1 h1p h1s;try simp only[Q] at h1p
 focus (refine rq ?_;all_goals ((simp[zdE,h1s,h1p];done)))
 refine ar ?_ (by constructor<;>simp<;>omega);refine Walk.call (cr:=[]) zd4 zba Z (.some Z Z h1) Z Z (LeL.refl _) I Z Z Z (evs [7] [(8,false)] ?_ ⟨⟨_,Z,h1⟩,I⟩);apply sq<;>intro h2 h2p h2s;refine Walk.call (cr:=[]) zd4 zba Z (.some Z Z h2) Z Z (LeL.refl _) I Z Z Z (evs [7] [(8,false),(15,true)] ?_ ⟨⟨_,Z,h1⟩,⟨_,Z,h2⟩,I⟩);focus (refine rq ?_;all_goals ((simp_all[zdE];done)))
 focus (refine rq ?_;all_goals ((simp_all[zdE];done)))
theorem zj5 {w:List Data}{a b:Int} (hs:w.length<=1000000000000):FnD Tryz.prog 125 [.agg [.d (.i a),.d (.i b)],.ref 1002 0] [(1002,some (.box [.d (zap w)]))] (.d (.bool (!zbJ w.length ⟨a,b⟩))) []:=by
 refine bd Tryz.f125 8 [] [] fun _ _ _ _ hk=>?_;refine bx 3002 ?_;refine ev (wc zsE (zmN hs) Z Z ?_);refine ev ?_;focus (refine rn [] (r1 Z) (.eqd ?_) ⟨Z,Z⟩ (SubH.get ⟨Z,I⟩) (fun _ h=>h);all_goals (rfl))
theorem zlL {w:List Data}{s:Str}{args:List Ty}{k:Int} (hs:w.length<=1000000000000) (hn:s.length<=1000000000000) (ha:args.length<=1000000000000):FnD Tryz.prog 64 [.d (zap w),.agg [.d (.str s),.d (zbn args),.d (.i k)]] [] (.d (.bool (zbw w.length ⟨s,args,k⟩))) []:=by
 refine bd Tryz.f64 26 [] [] fun _ _ _ _ hk=>?_;refine bx 1002 ?_;refine bx 3003 ?_;refine ev (wc zsC (zjx hn) Z Z ?_);refine ev ?_;apply sq<;>intro h1 h1p h1s;apply sq<;>intro h2 h2p h2s<;>(try simp only[Q] at h2p);refine Walk.call (cr:=[]) zd4 zba Z (.some Z Z h2) Z Z (LeL.refl _) I Z Z Z (evs [] [(14,true)] ?_ ⟨⟨_,Z,h2⟩,I⟩);apply sq<;>intro h3 h3p h3s;try simp only[Q] at h3p
 refine xbz (xs:=[_]) Z (.some Z Z h3) Z Z (Walk.call (cr:=[]) zpV (zdo (p:=fun t=> !zbJ w.length t) ha zsD (fun t _=>zj5 hs) ⟨Z,I⟩ Z Z) Z (.some Z Z h3) Z Z (LeL.refl _) ⟨Z,I⟩ Z Z Z (evs [] [(19,true)] ?_ ⟨⟨_,Z,h3⟩,I⟩));focus (refine rq ?_;all_goals ((simp[zbw,h1s,h1p,h2s,h2p,h3s,h3p];done)))
 focus (refine rq ?_;all_goals ((simp[zbw,h1s,h1p,h2s,h2p,h3s,h3p];done)))
 refine sqF ?_;focus (refine rq ?_;all_goals ((simp[zbw,h1s,h1p,h2s,h2p];done)))
 refine sqF ?_;refine sqF ?_;focus (refine rq ?_;all_goals ((simp[zbw,h1s,h1p];done)))
theorem zkL {s:Str} (h:0<s.length):s.getD 0 0=s[0]:=by
 rcases s with _|⟨b,r⟩
 ·simp at h
 ·rfl
theorem xaJ (c:Ctor):Ctor.mk c.name c.args c.index=c:=rfl
theorem xa9 (c:Ty):Ty.mk c.data c.index=c:=rfl
theorem Data.eta (c:Data):Data.mk c.name c.ctors=c:=rfl
theorem zsu {w:List Data}{met datas:List Str} (h4:(w.length:Int)<=4) (h:zbs w.length met datas []=zbs w.length [] [] w):D.bool true=D.bool (zbp w):=by
 unfold zbp;rw[<-h,xax h4];rfl
theorem zdG {w rest:List Data}{met datas:List Str} (h:zbs w.length met datas rest=zbs w.length [] [] w) (h2:zbs w.length met datas rest=false):D.bool false=D.bool (zbp w):=by
 unfold zbp;rw[<-h,h2,Bool.and_false]
theorem ziH {w:List Data} (hs:WSmall w):FnD Tryz.prog 29 [.d (zap w)] [] (.d (.bool (zbp w))) []:=by
 have hs1:=hs.len;refine bd Tryz.f29 79 [] [] fun _ _ _ _ hk=>?_;apply sq<;>intro h1 h1p h1s<;>(try simp only[Q] at h1p);focus (refine rq ?_;all_goals ((simp[zbp];omega)))
 refine Walk.makeMap (id:=3012) .none Z Z (ev (Walk.makeMap (id:=3013) .none Z Z (ev (xaD (ι:=List (Data)×List (Data)×(List Str)×(List Str)) hk (fun x=>[(16,.d (.i (x.1.length:Int))),(3,.mapr 3012),(4,.mapr 3013)]) [2,6,8,17,18,19,20,21,22,23,24,25,26,27,28,29,30,31,32,33,34,35,36,37,38,39,40,41,42,43,44,45,46,47,48,49,50,51,52,53,54,55,56,57,58,59,60,61,62,63,64,65,66,67,68,69,70,71,72,73,74,75,76,77,78] (fun x=>[(3012,some (.map x.2.2.1)),(3013,some (.map x.2.2.2))]) (fun x=>x.1++x.2.1=w/\zbs w.length x.2.2.1 x.2.2.2 x.2.1=zbs w.length [] [] w) (fun x=>x.2.1.length) ([],w,[],[]) ⟨by simp,Z⟩ ⟨⟨_,Z,xaQ ?_⟩,⟨⟨_,Z, ?_⟩,⟨⟨_,Z, ?_⟩,I⟩⟩⟩ ⟨?_,⟨?_,I⟩⟩ (fun x=>rfl) (fun x hg1=>?_)))));focus (rfl)
 iterate 2 focus (exact LeA.refl _)
 iterate 2 focus (first|rfl|(simp[getH];done))
 obtain⟨pre,rest,met,datas⟩:=x;dsimp only at hg1 ⊢;refine evc [] [] ?_;apply sq<;>intro h2 h2p h2s<;>(try simp only[Q] at h2p);rcases rest with _|⟨d,rest⟩
 ·exfalso;simp_all
 refine ixq sl23 Z Z Z (zaL hg1.1) Z (ev (ab 3006 zm5 ?_));refine so zm3 ?_;apply tv;apply sq<;>intro h3 h3p h3s<;>(try simp only[Q] at h3p);refine sqT ?_;refine sqT ?_;refine sqT ?_;refine sqT ?_;refine sqT ?_;focus (refine rq ?_;all_goals ((refine zdG hg1.2 ?_;simp[zbs,zbd,h1s,h1p,h2s,h2p,h3s,h3p];done)))
 refine xbI (i:=0) un9 (.some Z Z h3) Z Z Z Z (xan od) ?_;refine evs [] [(24,false)] ?_ ⟨⟨_,Z,h3⟩,I⟩;apply sq<;>intro h5 h5p h5s<;>(try simp only[Q] at h5p);refine sqT ?_;refine sqT ?_;refine sqT ?_;refine sqT ?_;focus (refine rq ?_;all_goals ((refine zdG hg1.2 ?_;simp only[zbs,zbd,zkL (s:=d.name) od,zcY];simp[h1s,h1p,h2s,h2p,h3s,h3p,h5s,h5p];omega)))
 refine xbI (i:=0) un9 (.some Z Z h5) Z Z Z Z (xan od) ?_;refine evs [] [(30,false)] ?_ ⟨⟨_,Z,h5⟩,I⟩;apply sq<;>intro h7 h7p h7s<;>(try simp only[Q] at h7p);refine sqT ?_;refine sqT ?_;refine sqT ?_;focus (refine rq ?_;all_goals ((refine zdG hg1.2 ?_;simp only[zbs,zbd,zkL (s:=d.name) od,zcY];simp[h1s,h1p,h2s,h2p,h3s,h3p,h5s,h5p,h7s,h7p];omega)))
 apply sq<;>intro h9 h9p h9s<;>(try simp only[Q] at h9p);refine sqT ?_;refine sqT ?_;focus (refine rq ?_;all_goals ((refine zdG hg1.2 ?_;simp[zbs,zbd,h1s,h1p,h2s,h2p,h3s,h3p,h5s,h5p,h7s,h7p,h9s,h9p];done)))
 refine Walk.lookup zm1 (.some Z Z h9) Z Z Z Z (evs [] [(41,false)] ?_ ⟨⟨_,Z,h9⟩,I⟩);apply sq<;>intro h11 h11p h11s<;>(try simp only[Q] at h11p);refine sqT ?_;focus (refine rq ?_;all_goals ((refine zdG hg1.2 ?_;simp[zbs,zbd,h1s,h1p,h2s,h2p,h3s,h3p,h5s,h5p,h7s,h7p,h9s,h9p,h11s,h11p];done)))
 refine Walk.call (cr:=[]) zd4 zba Z (.some Z Z h11) Z Z (LeL.refl _) I Z Z Z (evs [] [(47,false)] ?_ ⟨⟨_,Z,h11⟩,I⟩);apply sq<;>intro h13 h13p h13s<;>(try simp only[Q] at h13p);focus (refine rq ?_;all_goals ((refine zdG hg1.2 ?_;simp[zbs,zbd,h1s,h1p,h2s,h2p,h3s,h3p,h5s,h5p,h7s,h7p,h9s,h9p,h11s,h11p,h13s,h13p];done)))
 refine Walk.mapUpdate zm1 .none Z Z Z Z (by simp_all) ?_;apply tv;refine xaD (ι:=List (Ctor)×List (Ctor)×(List Str)) hk (fun x=>[(60,.d (.i (x.1.length:Int)))]) [2,8,61,62,63,64,65,66,67,68,69,70,71,72,73,74,75,76,77] (fun x=>[(3012,some (.map x.2.2))]) (fun x=>x.1++x.2.1=d.ctors/\zcx w.length x.2.2 x.2.1=zcx w.length met d.ctors) (fun x=>x.2.1.length) ([],d.ctors,met) ⟨by simp,Z⟩ ⟨⟨_,Z,xaQ ?_⟩,I⟩ ⟨?_,I⟩ (fun x=>rfl) (fun x hg2=>?_);focus (rfl)
 focus (first|rfl|(simp[getH];done))
 obtain⟨pre2,rest2,met2⟩:=x;dsimp only at hg2 ⊢;have hb:=(hs.data d (by rw[<-hg1.1];simp)).2;refine evc [] [] ?_;apply sq<;>intro h14 h14p h14s<;>(try simp only[Q] at h14p);rcases rest2 with _|⟨y,rest2⟩
 ·exfalso;simp_all
 refine ixq zcv Z Z Z (zaL hg2.1) Z (ev (ab 3008 zh1 ?_));refine so zhZ ?_;apply tv;refine wc ztH (zlL hs1 (hs.ctor d (by rw[<-hg1.1];simp) y (by rw[<-hg2.1];simp)).1 (hs.ctor d (by rw[<-hg1.1];simp) y (by rw[<-hg2.1];simp)).2) Z Z ?_;refine ev ?_;apply sq<;>intro h15 h15p h15s<;>(try simp only[Q] at h15p);refine sqT ?_;focus (refine rq ?_;all_goals ((refine zdG hg1.2 ?_;rw[zbs,<-hg2.2];simp[zcx,h1s,h1p,h2s,h2p,h3s,h3p,h5s,h5p,h7s,h7p,h9s,h9p,h11s,h11p,h13s,h13p,h14s,h14p,h15s,h15p];done)))
 refine Walk.lookup zm1 (.some Z Z h15) Z Z Z Z (evs [] [(68,false)] ?_ ⟨⟨_,Z,h15⟩,I⟩);apply sq<;>intro h17 h17p h17s<;>(try simp only[Q] at h17p);focus (refine rq ?_;all_goals ((refine zdG hg1.2 ?_;rw[zbs,<-hg2.2];simp[zcx,h1s,h1p,h2s,h2p,h3s,h3p,h5s,h5p,h7s,h7p,h9s,h9p,h11s,h11p,h13s,h13p,h14s,h14p,h15s,h15p,h17s,h17p];done)))
 refine Walk.mapUpdate zm1 .none Z Z Z Z (by simp_all) ?_;apply tv;refine ar (xaj ((pre2++[y],rest2,met2++[y.name])) ⟨⟨(by have hz:=hg2.1;rw[<-hz];simp),(by rw[<-hg2.2];simp[zcx,h1s,h1p,h2s,h2p,h3s,h3p,h5s,h5p,h7s,h7p,h9s,h9p,h11s,h11p,h13s,h13p,h14s,h14p,h15s,h15p,h17s,h17p])⟩,og,sx ⟨⟨_,Z,xaQ ?_⟩,I⟩ ⟨?_,I⟩⟩);focus ((simp;done))
 focus (first|rfl|(simp[getH];done))
 have hrest2:rest2=[]:=by
  rcases rest2 with _|⟨a,b⟩
  ·rfl
  ·exfalso;have hz:=xam List.length (hg2.1);simp only[xaa,xab,xac] at hz;omega
 subst hrest2;refine ar (xaj ((pre++[d],rest,met2,datas++[d.name])) ⟨⟨(by have hz:=hg1.1;rw[<-hz];simp),(by rw[<-hg1.2,zbs,<-hg2.2];simp only[zbd,zkL (s:=d.name) od,zcY];simp[zcx,h1s,h1p,h2s,h2p,h3s,h3p,h5s,h5p,h7s,h7p,h9s,h9p,h11s,h11p,h13s,h13p,h14s,h14p];omega)⟩,og,sx ⟨⟨_,Z,xaQ ?_⟩,⟨⟨_,Z, ?_⟩,⟨⟨_,Z, ?_⟩,I⟩⟩⟩ ⟨?_,⟨?_,I⟩⟩⟩);focus ((simp;done))
 iterate 2 focus (exact LeA.refl _)
 iterate 2 focus (first|rfl|(simp[getH];done))
 have hrest:rest=[]:=by
  rcases rest with _|⟨a,b⟩
  ·rfl
  ·exfalso;have hz:=xam List.length (hg1.1);simp only[xaa,xab,xac] at hz;omega
 subst hrest;focus (refine rq ?_;all_goals ((exact zsu od hg1.2)))
theorem zfM {w:List Data}{a b:Int} (hs:WSmall w):FnD Tryz.prog 69 [.d (zap w),.agg [.d (.i a),.d (.i b)]] [] (.d (.bool (za2 w ⟨a,b⟩))) []:=by
 refine bd Tryz.f69 12 [] [] fun _ _ _ _ hk=>?_;refine bx 3003 ?_;refine ev (wc ztw (ziH hs) Z Z ?_);refine ev ?_;apply sq<;>intro h1 h1p h1s;refine Walk.call (cr:=[]) ztI (zlN hs.len) Z (.some Z Z h1) Z Z (LeL.refl _) I Z Z Z (evs [] [(7,true)] ?_ ⟨⟨_,Z,h1⟩,I⟩);focus (refine rq ?_;all_goals ((simp[za2,h1s,h1p];done)))
 focus (refine rq ?_;all_goals ((simp[za2,h1s,h1p];done)))
def zca (n:Int):Bool:=decide (65<=n)&&decide (n<=90)
theorem zib {n:Int}:FnD Tryz.prog 132 [.d (.int .u8 n)] [] (.d (.bool (zca n))) []:=by
 refine bd Tryz.f132 9 [] [] fun _ _ _ _ hk=>?_;apply sq<;>intro h1 h1p h1s;focus (refine rq ?_;all_goals ((simp[zca,h1s,h1p];done)))
 focus (refine rq ?_;all_goals ((simp[zca,h1s,h1p];done)))
theorem zjD {s:Str} (hs:s.length<=1000000000000):FnD Tryz.prog 133 [.d (.str s)] [] (.d (.bool (zc1 s))) []:=by
 refine bd Tryz.f133 34 [] [] fun _ _ _ _ hk=>?_;apply sq<;>intro h1 h1p h1s<;>(try simp only[Q,zca] at h1p);refine sqT ?_;refine sqT ?_;focus (refine rq ?_;all_goals ((rw[zh8 od];done)))
 apply sq<;>intro h3 h3p h3s<;>(try simp only[Q,zca] at h3p);refine sqT ?_;focus (refine rq ?_;all_goals ((rw[zh8 od];done)))
 refine xbI (i:=0) un9 (.some Z Z h3) Z Z Z Z (xan od) ?_;refine Walk.call (cr:=[]) zpW zib Z (.some Z Z h3) Z Z (LeL.refl _) I Z Z Z (evs [] [(12,false)] ?_ ⟨⟨_,Z,h3⟩,I⟩);apply sq<;>intro h5 h5p h5s<;>(try simp only[Q,zca] at h5p);focus (refine rq ?_;all_goals ((rw[zbP od];simp only[zcY,h1s,h1p,h3s,h3p,h5s,h5p];simp;done)))
 refine xaD (ι:=Nat) hk (fun i=>[(3,.d (.i (i:Int)))]) [2,18,19,20,21,22,23,24,25,26,27,28,29,30,31,32,33] (fun i=>[]) (fun i=>1<=i/\i<=s.length/\zcL (s.drop i)=zcL (s.drop 1)) (fun i=>s.length-i) 1 ⟨by omega,by omega,Z⟩ ⟨⟨_,Z,xaQ ?_⟩,I⟩ I (fun x=>rfl) (fun i hg1=>?_);focus (rfl)
 refine evc [] [] ?_;apply sq<;>intro h6 h6p h6s<;>(try simp only[Q,zca] at h6p);refine xbI un9 .none Z Z Z Z (xan od) ?_;refine ev ?_;apply sq<;>intro h7 h7p h7s<;>(try simp only[Q,zca] at h7p);refine sqT ?_;focus (refine rq ?_;all_goals ((rw[zbP od,<-hg1.2.2,zcy od];simp[zfx];omega)))
 refine xbI un9 (.some Z Z h7) Z Z Z Z (xan od) ?_;refine evs [] [(28,false)] ?_ ⟨⟨_,Z,h7⟩,I⟩;apply sq<;>intro h9 h9p h9s<;>(try simp only[Q,zca] at h9p);focus (refine rq ?_;all_goals ((rw[zbP od,<-hg1.2.2,zcy od];simp[zfx];omega)))
 refine ar (xaj (i+1) ⟨⟨by omega,by omega,by rw[<-hg1.2.2,zcy (i:=i) od];simp[zfx];omega⟩, ?_,sx ⟨⟨_,Z,xaQ ?_⟩,I⟩ I⟩);focus (omega)
 focus (rfl)
 focus (refine rq ?_;all_goals ((rw[zbP od,<-hg1.2.2,ziS od];simp[zat,zcY];omega)))
theorem zl6 {s:Str} (hs:s.length<=1000000000000):FnD Tryz.prog 75 [.d (.str s)] [] (.d (.bool (zbd s))) []:=by
 refine bd Tryz.f75 15 [] [] fun _ _ _ _ hk=>?_;apply sq<;>intro h1 h1p h1s;try simp only[Q] at h1p
 refine xbI (i:=0) un9 (.some Z Z h1) Z Z Z Z (xan od) ?_;refine Walk.call (cr:=[]) zpW zib Z (.some Z Z h1) Z Z (LeL.refl _) I Z Z Z (evs [] [(6,true)] ?_ ⟨⟨_,Z,h1⟩,I⟩);apply sq<;>intro h2 h2p h2s;try simp only[Q] at h2p
 focus (refine rq ?_;all_goals ((simp only[zbd,zkL (s:=s) od,zcY];simp only[zca,xad,xah] at *;simp[*];done)))
 focus (refine rq ?_;all_goals ((simp only[zbd,zkL (s:=s) od,zcY];simp only[zca,xad,xah] at *;simp[*];done)))
 refine sqF ?_;focus (refine rq ?_;all_goals ((simp[zbd,h1s,h1p];done)))
theorem zia {n:Nat}{a b:Int}:FnD Tryz.prog 134 [.d (.i n),.agg [.d (.i a),.d (.i b)]] [] (.d (.bool (zbJ n ⟨a,b⟩))) []:=by
 refine bd Tryz.f134 30 [] [] fun _ _ _ _ hk=>?_;refine bx 3003 ?_;refine ev ?_;apply sq<;>intro h1 h1p h1s;try simp only[Q] at h1p
 focus (refine rq ?_;all_goals ((simp[zbJ,zat,h1s,h1p];done)))
 apply sq<;>intro h2 h2p h2s;try simp only[Q] at h2p
 apply sq<;>intro h3 h3p h3s<;>(try simp only[Q] at h3p);apply sq<;>intro h4 h4p h4s;try simp only[Q] at h4p
 focus (refine rq ?_;all_goals ((apply xam D.bool;rw[xat];simp[zbJ,zat];omega)))
 focus (refine rq ?_;all_goals ((simp[zbJ,zat,h1s,h1p,h2s,h2p,h3s,h3p,h4s,h4p];done)))
 refine sqF ?_;focus (refine rq ?_;all_goals ((apply xam D.bool;rw[xat];simp[zbJ,zat];omega)))
 refine sqF ?_;refine sqF ?_;focus (refine rq ?_;all_goals ((simp[zbJ,zat,h1s,h1p,h2s,h2p];done)))
theorem zl5 {n:Nat}{s:Str}{args:List Ty}{k:Int} (hn:s.length<=1000000000000) (ha:args.length<=1000000000000):FnD Tryz.prog 76 [.d (.i n),.agg [.d (.str s),.d (zbn args),.d (.i k)]] [] (.d (.bool (zbw n ⟨s,args,k⟩))) []:=by
 refine bd Tryz.f76 41 [] [] fun _ _ _ _ hk=>?_;refine bx 3003 ?_;refine ev (wc zsH (zjD hn) Z Z ?_);refine ev ?_;apply sq<;>intro h1 h1p h1s;refine sqT ?_;refine sqT ?_;refine sqT ?_;focus (refine rq ?_;all_goals ((simp[zbw,h1s,h1p];done)))
 apply sq<;>intro h3 h3p h3s<;>(try simp only[Q] at h3p);refine sqT ?_;refine sqT ?_;focus (refine rq ?_;all_goals ((apply xam D.bool;simp[zbw,zat];omega)))
 apply sq<;>intro h5 h5p h5s<;>(try simp only[Q] at h5p);refine sqT ?_;focus (refine rq ?_;all_goals ((apply xam D.bool;simp[zbw,zat];omega)))
 apply sq<;>intro h7 h7p h7s<;>(try simp only[Q] at h7p);focus (refine rq ?_;all_goals ((apply xam D.bool;simp[zbw,zat];omega)))
 refine xaD (ι:=List (Ty)×List (Ty)) hk (fun x=>[(5,.d (.i (x.1.length:Int)))]) [4,26,27,28,29,30,31,32,33,34,35,36,37,38,39,40] (fun x=>[]) (fun x=>x.1++x.2=args/\(x.2.any fun t=> !zbJ n t)=args.any fun t=> !zbJ n t) (fun x=>x.2.length) ([],args) ⟨by simp,Z⟩ ⟨⟨_,Z,xaQ ?_⟩,I⟩ I (fun x=>rfl) (fun x hg1=>?_);focus (rfl)
 obtain⟨pre,rest⟩:=x;dsimp only at hg1 ⊢;refine evc [] [] ?_;apply sq<;>intro h8 h8p h8s<;>(try simp only[Q] at h8p);rcases rest with _|⟨y,rest⟩
 ·exfalso;simp_all
 refine ixq za3 Z Z Z (zaL hg1.1) Z (ev (wc zpX zia Z Z ?_));refine ev ?_;apply sq<;>intro h9 h9p h9s<;>(try simp only[Q] at h9p);focus (refine rq ?_;all_goals ((simp only[zbw];rw[<-hg1.2];simp[zat,h1s,h1p,h3s,h3p,h5s,h5p,h7s,h7p,h8s,h8p,h9s,h9p];done)))
 refine ar (xaj ((pre++[y],rest)) ⟨⟨(by have hz:=hg1.1;rw[<-hz];simp),(by rw[<-hg1.2];simp[xa9,h1s,h1p,h3s,h3p,h5s,h5p,h7s,h7p,h8s,h8p,h9s,h9p])⟩,og,sx ⟨⟨_,Z,xaQ ?_⟩,I⟩ I⟩);focus ((simp;done))
 have hrest:rest=[]:=by
  rcases rest with _|⟨a,b⟩
  ·rfl
  ·exfalso;have hz:=xam List.length (hg1.1);simp only[xaa,xab,xac] at hz;omega
 subst hrest;focus (refine rq ?_;all_goals ((simp only[zbw];rw[<-hg1.2];simp[zat,h1s,h1p,h3s,h3p,h5s,h5p,h7s,h7p,h8s,h8p];omega)))
theorem zlk {w:List Data}{d k:Nat} (hs:WSmall w) (hd:d<w.length):FnD Tryz.prog 77 [.d (zap w),.d (.i d),.d (.i k)] [] (.d (.bool (zlt w d k))) []:=by
 have hw:=hs.len;refine bd Tryz.f77 79 [] [] fun _ _ _ _ hk=>?_;refine xaD (ι:=Nat) hk (fun i=>[(7,.d (.i (i:Int)))]) [6,8,9,10,11,12,13,14,15,16,17,18,19,20,21,22,23,24,25,26,27,28,29,30,31,32,33,34,35,36,37,38,39,40,41,42,43,44,45,46,47,48,49,50,51,52,53,54,55,56,57,58,59,60,61,62,63,64,65,66,67,68,69,70,71,72,73,74,75,76,77,78] (fun i=>[]) (fun i=>i<=d+1/\∀i',i'<i->zcM w d k i'=false) (fun i=>d+1-i) 0 ⟨by omega,fun _ h=>absurd h od⟩ ⟨⟨_,Z,xaQ ?_⟩,I⟩ I (fun x=>rfl) (fun i hg1=>?_);focus (rfl)
 refine evc [] [] ?_;apply sq<;>intro h1 h1p h1s<;>(try simp only[Q,Int.ofNat_lt,Int.ofNat_le] at h1p);apply sq<;>intro h2 h2p h2s<;>(try simp only[Q,Int.ofNat_lt,Int.ofNat_le] at h2p);refine xbE sl23 (.some Z Z h2) Z Z Z Z (zao od) Z ?_;refine evd [] [(17,true)] ?_ ⟨⟨_,Z,h2⟩,I⟩;refine xbE sl23 (.some Z Z h2) Z Z Z Z (zao od) Z ?_;refine evd [] [(17,true)] ?_ ⟨⟨_,Z,h2⟩,I⟩;refine dr ?_;apply sq<;>intro h3 h3p h3s<;>(try simp only[Q,Int.ofNat_lt,Int.ofNat_le] at h3p);focus (refine rq ?_;all_goals ((refine xam D.bool (zcn (i:=i) od ?_).symm;simp[zcM,h1s,h1p,h2s,h2p,h3s,h3p];done)))
 refine xaD (ι:=Nat) hk (fun j=>[(8,.d (.i (j:Int)))]) [6,30,31,32,33,34,35,36,37,38,39,40,41,42,43,44,45,46,47,48,49,50,51,52,53,54,55,56,57,58,59,60,61,62,63,64,65,66,67,68,69,70,71,72,73,74,75,76,77,78] (fun j=>[]) (fun j=>j<=(nth w i).ctors.length/\∀j',j'<j->zbx w d k i j'=false) (fun j=>(nth w i).ctors.length-j) 0 ⟨by omega,fun _ h=>absurd h od⟩ ⟨⟨_,Z,xaQ ?_⟩,I⟩ I (fun x=>rfl) (fun j hg2=>?_);focus (rfl)
 have hb:=hs.ctors i;refine evc [] [] (ixq sl23 Z Z Z (zao od) Z ?_);refine ev ?_;apply sq<;>intro h4 h4p h4s<;>(try simp only[Q,Int.ofNat_lt,Int.ofNat_le] at h4p);apply sq<;>intro h5 h5p h5s<;>(try simp only[Q,Int.ofNat_lt,Int.ofNat_le] at h5p);refine sqT ?_;refine ixq sl23 Z Z Z (zao od) Z ?_;refine evd [] [] ?_;apply sq<;>intro h7 h7p h7s<;>(try simp only[Q,Int.ofNat_lt,Int.ofNat_le] at h7p);refine xbE sl23 (.some Z Z h7) Z Z Z Z (zao od) Z ?_;refine evd [] [(58,true)] ?_ ⟨⟨_,Z,h7⟩,I⟩;refine xbE zcv (.some Z Z h7) Z Z Z Z (zao od) Z ?_;refine evd [] [(58,true)] ?_ ⟨⟨_,Z,h7⟩,I⟩;refine xbE sl23 (.some Z Z h7) Z Z Z Z (zao od) Z ?_;refine evd [] [(58,true)] ?_ ⟨⟨_,Z,h7⟩,I⟩;refine xbE zcv (.some Z Z h7) Z Z Z Z (zao od) Z ?_;refine evd [] [(58,true)] ?_ ⟨⟨_,Z,h7⟩,I⟩;refine dr ?_;apply sq<;>intro h8 h8p h8s<;>(try simp only[Q,Int.ofNat_lt,Int.ofNat_le] at h8p);focus (refine rq ?_;all_goals ((refine xam D.bool (zcn (i:=i) od ?_).symm;unfold zcM;rw[zcn (i:=j) od (by simp[zbx,h1s,h1p,h2s,h2p,h3s,h3p,h4s,h4p,h5s,h5p,h7s,h7p,h8s,h8p])];simp;done)))
 refine ar (xaj (j+1) ⟨⟨by omega,zaR hg2.2 (by simp[zbx,h1s,h1p,h2s,h2p,h3s,h3p,h4s,h4p,h5s,h5p,h7s,h7p,h8s,h8p];done)⟩,od,sx ⟨⟨_,Z,xaQ ?_⟩,I⟩ I⟩);focus (rfl)
 refine dr (sqF ?_);refine ar (xaj (j+1) ⟨⟨by omega,zaR hg2.2 (by simp[zbx,h1s,h1p,h2s,h2p,h3s,h3p,h4s,h4p,h5s,h5p,h7s,h7p];done)⟩,od,sx ⟨⟨_,Z,xaQ ?_⟩,I⟩ I⟩);focus (rfl)
 apply sq<;>intro h10 h10p h10s<;>(try simp only[Q,Int.ofNat_lt,Int.ofNat_le] at h10p);refine ixq sl23 Z Z Z (zao od) Z ?_;refine evd [] [] ?_;apply sq<;>intro h11 h11p h11s<;>(try simp only[Q,Int.ofNat_lt,Int.ofNat_le] at h11p);refine xbE sl23 (.some Z Z h11) Z Z Z Z (zao od) Z ?_;refine evd [] [(58,true)] ?_ ⟨⟨_,Z,h11⟩,I⟩;refine xbE zcv (.some Z Z h11) Z Z Z Z (zao od) Z ?_;refine evd [] [(58,true)] ?_ ⟨⟨_,Z,h11⟩,I⟩;refine xbE sl23 (.some Z Z h11) Z Z Z Z (zao od) Z ?_;refine evd [] [(58,true)] ?_ ⟨⟨_,Z,h11⟩,I⟩;refine xbE zcv (.some Z Z h11) Z Z Z Z (zao od) Z ?_;refine evd [] [(58,true)] ?_ ⟨⟨_,Z,h11⟩,I⟩;refine dr ?_;apply sq<;>intro h12 h12p h12s<;>(try simp only[Q,Int.ofNat_lt,Int.ofNat_le] at h12p);focus (refine rq ?_;all_goals ((exfalso;omega)))
 refine ar (xaj (j+1) ⟨⟨by omega,zaR hg2.2 (by simp[zbx,h1s,h1p,h2s,h2p,h3s,h3p,h4s,h4p,h5s,h5p,h10s,h10p,h11s,h11p,h12s,h12p];done)⟩,od,sx ⟨⟨_,Z,xaQ ?_⟩,I⟩ I⟩);focus (rfl)
 refine dr (sqF ?_);refine ar (xaj (j+1) ⟨⟨by omega,zaR hg2.2 (by simp[zbx,h1s,h1p,h2s,h2p,h3s,h3p,h4s,h4p,h5s,h5p,h10s,h10p,h11s,h11p];done)⟩,od,sx ⟨⟨_,Z,xaQ ?_⟩,I⟩ I⟩);focus (rfl)
 refine ar (xaj (i+1) ⟨⟨by omega,zaR hg1.2 (zgO (by simp[h1s,h1p,h2s,h2p,h3s,h3p,h4s,h4p,h5s,h5p,h10s,h10p]) hg2.2 (fun hj=>by omega))⟩,od,sx ⟨⟨_,Z,xaQ ?_⟩,I⟩ I⟩);focus (rfl)
 refine sqF ?_;refine ar (xaj (i+1) ⟨⟨by omega,zaR hg1.2 (zgO (by simp[h1s,h1p,h2s,h2p,h3s,h3p,h4s,h4p]) hg2.2 (fun hj=>by omega))⟩,od,sx ⟨⟨_,Z,xaQ ?_⟩,I⟩ I⟩);focus (rfl)
 refine dr (sqF ?_);refine xaD (ι:=Nat) hk (fun j=>[(8,.d (.i (j:Int)))]) [6,30,31,32,33,34,35,36,37,38,39,40,41,42,43,44,45,46,47,48,49,50,51,52,53,54,55,56,57,58,59,60,61,62,63,64,65,66,67,68,69,70,71,72,73,74,75,76,77,78] (fun j=>[]) (fun j=>j<=(nth w i).ctors.length/\∀j',j'<j->zbx w d k i j'=false) (fun j=>(nth w i).ctors.length-j) 0 ⟨by omega,fun _ h=>absurd h od⟩ ⟨⟨_,Z,xaQ ?_⟩,I⟩ I (fun x=>rfl) (fun j hg2=>?_);focus (rfl)
 have hb:=hs.ctors i;refine evc [] [] (ixq sl23 Z Z Z (zao od) Z ?_);refine ev ?_;apply sq<;>intro h16 h16p h16s<;>(try simp only[Q,Int.ofNat_lt,Int.ofNat_le] at h16p);apply sq<;>intro h17 h17p h17s<;>(try simp only[Q,Int.ofNat_lt,Int.ofNat_le] at h17p);refine sqT ?_;refine ixq sl23 Z Z Z (zao od) Z ?_;refine evd [] [] ?_;apply sq<;>intro h19 h19p h19s<;>(try simp only[Q,Int.ofNat_lt,Int.ofNat_le] at h19p);refine xbE sl23 (.some Z Z h19) Z Z Z Z (zao od) Z ?_;refine evd [] [(58,true)] ?_ ⟨⟨_,Z,h19⟩,I⟩;refine xbE zcv (.some Z Z h19) Z Z Z Z (zao od) Z ?_;refine evd [] [(58,true)] ?_ ⟨⟨_,Z,h19⟩,I⟩;refine xbE sl23 (.some Z Z h19) Z Z Z Z (zao od) Z ?_;refine evd [] [(58,true)] ?_ ⟨⟨_,Z,h19⟩,I⟩;refine xbE zcv (.some Z Z h19) Z Z Z Z (zao od) Z ?_;refine evd [] [(58,true)] ?_ ⟨⟨_,Z,h19⟩,I⟩;refine dr ?_;apply sq<;>intro h20 h20p h20s<;>(try simp only[Q,Int.ofNat_lt,Int.ofNat_le] at h20p);focus (refine rq ?_;all_goals ((exfalso;omega)))
 refine ar (xaj (j+1) ⟨⟨by omega,zaR hg2.2 (by simp[zbx,h1s,h1p,h2s,h2p,h16s,h16p,h17s,h17p,h19s,h19p,h20s,h20p];done)⟩,od,sx ⟨⟨_,Z,xaQ ?_⟩,I⟩ I⟩);focus (rfl)
 refine dr (sqF ?_);refine ar (xaj (j+1) ⟨⟨by omega,zaR hg2.2 (by simp[zbx,h1s,h1p,h2s,h2p,h16s,h16p,h17s,h17p,h19s,h19p];done)⟩,od,sx ⟨⟨_,Z,xaQ ?_⟩,I⟩ I⟩);focus (rfl)
 apply sq<;>intro h22 h22p h22s<;>(try simp only[Q,Int.ofNat_lt,Int.ofNat_le] at h22p);refine ixq sl23 Z Z Z (zao od) Z ?_;refine evd [] [] ?_;apply sq<;>intro h23 h23p h23s<;>(try simp only[Q,Int.ofNat_lt,Int.ofNat_le] at h23p);refine xbE sl23 (.some Z Z h23) Z Z Z Z (zao od) Z ?_;refine evd [] [(58,true)] ?_ ⟨⟨_,Z,h23⟩,I⟩;refine xbE zcv (.some Z Z h23) Z Z Z Z (zao od) Z ?_;refine evd [] [(58,true)] ?_ ⟨⟨_,Z,h23⟩,I⟩;refine xbE sl23 (.some Z Z h23) Z Z Z Z (zao od) Z ?_;refine evd [] [(58,true)] ?_ ⟨⟨_,Z,h23⟩,I⟩;refine xbE zcv (.some Z Z h23) Z Z Z Z (zao od) Z ?_;refine evd [] [(58,true)] ?_ ⟨⟨_,Z,h23⟩,I⟩;refine dr ?_;apply sq<;>intro h24 h24p h24s<;>(try simp only[Q,Int.ofNat_lt,Int.ofNat_le] at h24p);focus (refine rq ?_;all_goals ((refine xam D.bool (zcn (i:=i) od ?_).symm;unfold zcM;rw[zcn (i:=j) od (by simp[zbx,h1s,h1p,h2s,h2p,h16s,h16p,h17s,h17p,h22s,h22p,h23s,h23p,h24s,h24p])];simp;done)))
 refine ar (xaj (j+1) ⟨⟨by omega,zaR hg2.2 (by simp[zbx,h1s,h1p,h2s,h2p,h16s,h16p,h17s,h17p,h22s,h22p,h23s,h23p,h24s,h24p];done)⟩,od,sx ⟨⟨_,Z,xaQ ?_⟩,I⟩ I⟩);focus (rfl)
 refine dr (sqF ?_);refine ar (xaj (j+1) ⟨⟨by omega,zaR hg2.2 (by simp[zbx,h1s,h1p,h2s,h2p,h16s,h16p,h17s,h17p,h22s,h22p,h23s,h23p];done)⟩,od,sx ⟨⟨_,Z,xaQ ?_⟩,I⟩ I⟩);focus (rfl)
 refine ar (xaj (i+1) ⟨⟨by omega,zaR hg1.2 (zgO (by simp[h1s,h1p,h2s,h2p,h16s,h16p,h17s,h17p,h22s,h22p]) hg2.2 (fun hj=>by omega))⟩,od,sx ⟨⟨_,Z,xaQ ?_⟩,I⟩ I⟩);focus (rfl)
 refine sqF ?_;refine ar (xaj (i+1) ⟨⟨by omega,zaR hg1.2 (zgO (by simp[h1s,h1p,h2s,h2p,h16s,h16p]) hg2.2 (fun hj=>by omega))⟩,od,sx ⟨⟨_,Z,xaQ ?_⟩,I⟩ I⟩);focus (rfl)
 focus (refine rq ?_;all_goals ((refine xam D.bool (zet (fun x hx=>hg1.2 x (Nat.lt_of_lt_of_le hx ?_))).symm;omega)))
theorem zrK {w:List Data} (h:w.length<=4) (h2:∀i,i<w.length->zb3 w i=true):zbc w=true:=by
 unfold zbc;rw[zdH h2];simp[h]
theorem zsv {w:List Data} (h:4<w.length):zbc w=false:=by
 unfold zbc;rw[xaw od];rfl
theorem zfF {w:List Data}{i:Nat} (h:i<w.length) (h2:zb3 w i=false):zbc w=false:=by
 unfold zbc;rw[zdj h h2];simp
theorem zmS {w:List Data}{d:Nat} (h:zbd (nth w d).name=true) (h1:1<=(nth w d).ctors.length) (h2:(nth w d).ctors.length<=4) (h3:∀k,k<(nth w d).ctors.length->zdB w d k=true):zb3 w d=true:=by
 unfold zb3;rw[h,zdH h3];simp[h1,h2]
theorem zja {w:List Data} (hs:WSmall w):FnD Tryz.prog 35 [.d (zap w)] [] (.d (.bool (zbc w))) []:=by
 have hw:=hs.len;refine bd Tryz.f35 67 [] [] fun _ _ _ _ hk=>?_;apply sq<;>intro h1 h1p h1s<;>(try simp only[Q,Int.ofNat_lt,Int.ofNat_le] at h1p);focus (refine rq ?_;all_goals ((refine xam D.bool (zsv ?_).symm;omega)))
 refine xaD (ι:=Nat) hk (fun i=>[(3,.d (.i (i:Int)))]) [2,4,8,9,10,11,12,13,14,15,16,17,18,19,20,21,22,23,24,25,26,27,28,29,30,31,32,33,34,35,36,37,38,39,40,41,42,43,44,45,46,47,48,49,50,51,52,53,54,55,56,57,58,59,60,61,62,63,64,65,66] (fun i=>[]) (fun i=>i<=w.length/\∀i',i'<i->zb3 w i'=true) (fun i=>w.length-i) 0 ⟨by omega,fun _ h=>absurd h od⟩ ⟨⟨_,Z,xaQ ?_⟩,I⟩ I (fun x=>rfl) (fun i hg1=>?_);focus (rfl)
 refine evc [] [] ?_;apply sq<;>intro h2 h2p h2s<;>(try simp only[Q,Int.ofNat_lt,Int.ofNat_le] at h2p);refine ixq sl23 Z Z Z (zao od) Z ?_;refine ev (wc ztN (zl6 (hs.data _ (zai od)).1) Z Z ?_);refine ev ?_;apply sq<;>intro h3 h3p h3s<;>(try simp only[Q,Int.ofNat_lt,Int.ofNat_le] at h3p);refine sqT ?_;refine sqT ?_;focus (refine rq ?_;all_goals ((refine xam D.bool (zfF (i:=i) od ?_).symm;simp[zb3,h1s,h1p,h2s,h2p,h3s,h3p];done)))
 refine xbE sl23 (.some Z Z h3) Z Z Z Z (zao od) Z ?_;refine evs [] [(21,false)] ?_ ⟨⟨_,Z,h3⟩,I⟩;apply sq<;>intro h5 h5p h5s<;>(try simp only[Q,Int.ofNat_lt,Int.ofNat_le] at h5p);refine sqT ?_;focus (refine rq ?_;all_goals ((refine xam D.bool (zfF (i:=i) od ?_).symm;unfold zb3;rw[xaw (p:=1<=(nth w i).ctors.length) od];simp;done)))
 refine xbE sl23 (.some Z Z h5) Z Z Z Z (zao od) Z ?_;refine evs [] [(30,false)] ?_ ⟨⟨_,Z,h5⟩,I⟩;apply sq<;>intro h7 h7p h7s<;>(try simp only[Q,Int.ofNat_lt,Int.ofNat_le] at h7p);focus (refine rq ?_;all_goals ((refine xam D.bool (zfF (i:=i) od ?_).symm;unfold zb3;rw[xaw (p:=(nth w i).ctors.length<=4) od];simp;done)))
 refine xaD (ι:=Nat) hk (fun k=>[(4,.d (.i (k:Int)))]) [2,39,40,41,42,43,44,45,46,47,48,49,50,51,52,53,54,55,56,57,58,59,60,61,62,63,64,65,66] (fun k=>[]) (fun k=>k<=(nth w i).ctors.length/\∀k',k'<k->zdB w i k'=true) (fun k=>(nth w i).ctors.length-k) 0 ⟨by omega,fun _ h=>absurd h od⟩ ⟨⟨_,Z,xaQ ?_⟩,I⟩ I (fun x=>rfl) (fun k hg2=>?_);focus (rfl)
 have hb:=hs.ctors i;refine evc [] [] (ixq sl23 Z Z Z (zao od) Z ?_);refine ev ?_;apply sq<;>intro h8 h8p h8s<;>(try simp only[Q,Int.ofNat_lt,Int.ofNat_le] at h8p);refine ixq sl23 Z Z Z (zao od) Z ?_;refine ev (ixq zcv Z Z Z (zao od) Z ?_);refine ev (wc ztO (zl5 (hs.ctor _ (zai (i:=i) od) _ (zai (i:=k) od)).1 (hs.ctor _ (zai (i:=i) od) _ (zai (i:=k) od)).2) Z Z ?_);refine ev ?_;apply sq<;>intro h9 h9p h9s<;>(try simp only[Q,Int.ofNat_lt,Int.ofNat_le] at h9p);refine sqT ?_;focus (refine rq ?_;all_goals ((refine xam D.bool (zfF (i:=i) od ?_).symm;unfold zb3;rw[zdj (i:=k) od (by simp[zdB,xaJ,h1s,h1p,h2s,h2p,h3s,h3p,h5s,h5p,h7s,h7p,h8s,h8p,h9s,h9p])];simp;done)))
 refine Walk.call (cr:=[]) ztP (zlk hs od) Z (.some Z Z h9) Z Z (LeL.refl _) I Z Z Z ?_;refine evs [] [(61,false)] ?_ ⟨⟨_,Z,h9⟩,I⟩;apply sq<;>intro h11 h11p h11s<;>(try simp only[Q,Int.ofNat_lt,Int.ofNat_le] at h11p);focus (refine rq ?_;all_goals ((refine xam D.bool (zfF (i:=i) od ?_).symm;unfold zb3;rw[zdj (i:=k) od (by simp[zdB,xaJ,h1s,h1p,h2s,h2p,h3s,h3p,h5s,h5p,h7s,h7p,h8s,h8p,h9s,h9p,h11s,h11p])];simp;done)))
 refine ar (xaj (k+1) ⟨⟨by omega,zaR hg2.2 (by simp[zdB,xaJ,h1s,h1p,h2s,h2p,h3s,h3p,h5s,h5p,h7s,h7p,h8s,h8p,h9s,h9p,h11s,h11p];done)⟩,od,sx ⟨⟨_,Z,xaQ ?_⟩,I⟩ I⟩);focus (rfl)
 refine ar (xaj (i+1) ⟨⟨by omega,zaR hg1.2 (zmS (by simp[h1s,h1p,h2s,h2p,h3s,h3p,h5s,h5p,h7s,h7p,h8s,h8p]) od od (fun x hx=>hg2.2 x od))⟩,od,sx ⟨⟨_,Z,xaQ ?_⟩,I⟩ I⟩);focus (rfl)
 focus (refine rq ?_;all_goals ((refine xam D.bool (zrK ?_ (fun x hx=>hg1.2 x (Nat.lt_of_lt_of_le hx ?_))).symm<;>omega)))
def szr (left:Int) (m:Nat):Int:=if left<m then -1 else left-m
theorem zbL {left:Int} (m:Nat):(left<m/\szr left m = -1)\/((m:Int)<=left/\szr left m=left-m):=by
 unfold szr;split<;>omega
def mTys (l:List Ty):Nat:=l.length
def zfn (c:Ctor):Nat:=c.name.length+mTys c.args
def ziR (l:List Ctor):Nat:=l.length+(l.map zfn).sum
def zfo (c:Data):Nat:=c.name.length+ziR c.ctors
def zk3 (l:List Data):Nat:=l.length+(l.map zfo).sum
structure CSmall (l:List Ctor):Prop where
 len:l.length<=1000000000000
 ctor:∀c∈l,c.name.length<=1000000000000/\c.args.length<=1000000000000
theorem WSmall.cs {w:List Data} (h:WSmall w){d:Data} (hd:d∈w):CSmall d.ctors:=⟨(h.data d hd).2,h.ctor d hd⟩
theorem zkZ {l:List Ty}{left:Int} (h:l.length<=1000000000000) (k0:0<=left) (k1:left<=1000000000000):FnD Tryz.prog 192 [.d (zbn l),.d (.i left)] [] (.d (.i (szr left (mTys l)))) []:=by
 have z:=zbL (left:=left) (mTys l);refine bd Tryz.f192 12 [] [] fun _ _ _ _ hk=>?_;refine ar ?_;apply sq<;>intro h1 h1p h1s<;>(try simp only[Q] at h1p);refine rq ?_;rotate_left;refine rq ?_;rotate_left;all_goals (refine xam D.i ?_;simp only[mTys,xac] at *;omega)
theorem zlR {s:Str}{args:List Ty}{k left:Int} (h:s.length<=1000000000000) (h':args.length<=1000000000000) (k0:0<=left) (k1:left<=1000000000000):FnD Tryz.prog 139 [.agg [.d (.str s),.d (zbn args),.d (.i k)],.d (.i left)] [] (.d (.i (szr left (zfn ⟨s,args,k⟩)))) []:=by
 have z:=zbL (left:=left) (zfn ⟨s,args,k⟩);have z2:=zbL (left:=left-s.length) (mTys args);simp only[zfn] at z z2 ⊢;refine bd Tryz.f139 19 [] [] fun _ _ _ _ hk=>?_;refine bx 3002 ?_;refine ev (ar ?_);apply sq<;>intro h1 h1p h1s<;>(try simp only[Q] at h1p);refine rq ?_;rotate_left;refine wc zsX (zkZ h' od od) Z Z ?_;refine ev ?_;apply sq<;>intro h2 h2p h2s<;>(try simp only[Q] at h2p);refine rq ?_;rotate_left;refine rq ?_;rotate_left;all_goals (refine xam D.i ?_;omega)
theorem zc2 {α:Type}{f:α->Nat}{pre rest l:List α}{y:α} (h:pre++y::rest=l):(l.map f).sum=(pre.map f).sum+f y+(rest.map f).sum:=by
 subst h;simp;omega
theorem zkX {l:List Ctor}{left:Int} (hs:CSmall l) (k0:0<=left) (k1:left<=1000000000000):FnD Tryz.prog 82 [.d (zce l),.d (.i left)] [] (.d (.i (szr left (ziR l)))) []:=by
 have h:=hs.len;have z:=zbL (left:=left) (ziR l);simp only[ziR] at z ⊢;refine bd Tryz.f82 27 [] [] fun _ _ _ _ hk=>?_;refine ar ?_;apply sq<;>intro h1 h1p h1s<;>(try simp only[Q] at h1p);refine rq ?_;rotate_left;refine xaD (ι:=List (Ctor)×List (Ctor)×(Int)) hk (fun x=>[(5,.d (.i (x.1.length:Int))),(1,.d (.i x.2.2))]) [4,12,13,14,15,16,17,18,19,20,21,22,23,24,25] (fun x=>[]) (fun x=>x.1++x.2.1=l/\x.2.2=left-l.length-(x.1.map zfn).sum/\0<=x.2.2) (fun x=>x.2.1.length) ([],l,left-l.length) ⟨by simp,by simp,by simp at *;omega⟩ ⟨⟨_,Z,xaQ ?_⟩,⟨⟨_,Z,xaQ ?_⟩,I⟩⟩ I (fun x=>rfl) (fun x hg1=>?_);iterate 2 focus (first|rfl|(simp;done))
 obtain⟨pre,rest,v⟩:=x;dsimp only at hg1 ⊢;refine evc [] [] ?_;apply sq<;>intro h2 h2p h2s<;>(try simp only[Q] at h2p);rcases rest with _|⟨y,rest⟩
 ·exfalso;simp_all
 refine ixq sl86 Z Z Z (zaL hg1.1) Z (ev (wc zsJ (zlR (hs.ctor y (by rw[<-hg1.1];simp)).1 (hs.ctor y (by rw[<-hg1.1];simp)).2 od od) Z Z ?_));refine ev ?_;apply sq<;>intro h3 h3p h3s<;>(try simp only[Q] at h3p);refine rq ?_;rotate_left;refine ar (xaj ((pre++[y],rest,szr v (zfn y))) ⟨⟨(by have hz:=hg1.1;rw[<-hz];simp),(by have e:=zc2 (f:=zfn) hg1.1;have z3:=zbL (left:=v) (zfn y);simp only[xaJ] at *;simp;omega)⟩,og,sx ⟨⟨_,Z,xaQ ?_⟩,⟨⟨_,Z,xaQ ?_⟩,I⟩⟩ I⟩);iterate 2 focus (first|rfl|(simp;done))
 have hrest:rest=[]:=by
  rcases rest with _|⟨a,b⟩
  ·rfl
  ·exfalso;have hz:=xam List.length (hg1.1);simp only[xaa,xab,xac] at hz;omega
 subst hrest;refine rq ?_;rotate_left;all_goals (refine xam D.i ?_;first|omega|(have e:=zc2 (f:=zfn) hg1.1;have z3:=zbL (left:=v) (zfn y);simp only[xaJ] at *;omega)|(rw[xaq] at hg1;rw[hg1.1] at hg1;omega))
theorem ze4 {a b:Int}:FnD Tryz.prog 15 [.agg [.d (.i a),.d (.i b)]] [] (.agg [.d (.i a),.d (.i b)]) []:=by
 refine bd Tryz.f15 11 [] [] fun _ _ _ _ hk=>?_;refine bx 3001 ?_;refine ab 3002 tz29 ?_;apply tv;refine ab 3003 tz29 ?_;apply tv;refine so ty3 ?_;apply tv;refine so ty3 ?_;apply tv;refine so ty29 ?_;apply tv;focus (refine rn0 (ra ty29) (.agg (qee ?_ ?_));all_goals (first|rfl|(simp[];done)|(simp_all;done)|(simp_all;omega)|omega))
theorem zk2 {l:List Ty} (h:l.length<=1000000000000):FnD Tryz.prog 196 [.d (zbn l)] [] (.d (zbn l)) []:=by
 refine bd Tryz.f196 23 [] [999999] fun _ _ _ _ hk=>?_;refine xbN (id:=3007) za3 tz29 Z oj (zdT Z) .none Z Z Z ot ot Z Z Z ?_;refine ev (xaD (ι:=List (Ty)×List (Ty)) hk (fun x=>[(4,.d (.i (x.1.length:Int)))]) [8,9,10,11,12,13,14,15,16,17,18,19,20,21] (fun x=>[(3007,some (.box ((x.1.flatMap fun x=>(Ty.c x).map AV.d)++za1 x.2.length [.d (.i 0),.d (.i 0)])))]) (fun x=>x.1++x.2=l) (fun x=>x.2.length) ([],l) og ⟨⟨_,Z,xaQ ?_⟩,I⟩ ⟨?_,I⟩ (fun x=>rfl) (fun x hg1=>?_));focus (first|rfl|(simp;done)|(simp_all;done)|omega)
 focus (first|rfl|(show some (Res.box _)=some (Res.box _);simp;done))
 obtain⟨pre,rest⟩:=x;dsimp only at hg1 ⊢;refine evc [] [999999] ?_;apply sq<;>intro h1 h1p h1s<;>(try simp only[Q] at h1p);rcases rest with _|⟨y,rest⟩
 ·exfalso;simp_all
 refine ixq zt6 Z Z Z (zaL hg1) Z (ev (wc zo9 ze4 Z Z ?_));refine xbG za3 .none Z Z Z Z (by first|omega|(simp ;omega)) ?_;refine Walk.store ty29 .none Z Z Z Z Z Z og ((zgN (k:=2) (by intro x _;rfl) (by first|rfl|simp) Z)) ?_;apply tv;refine ar (xaj ((pre++[y],rest)) ⟨(by have hz:=hg1;rw[<-hz];simp),og,sx ⟨⟨_,Z,xaQ ?_⟩,I⟩ ⟨?_,I⟩⟩);focus (first|rfl|(simp;done)|(simp_all;done)|omega)
 focus (first|rfl|(show some (Res.box _)=some (Res.box _);simp;done))
 have hrest:rest=[]:=by
  rcases rest with _|⟨a,b⟩
  ·rfl
  ·exfalso;have hz:=xam List.length (hg1);simp only[xaa,xab,xac] at hz;omega
 subst hrest;refine CWp.frz hk 2 3007 _ _ Z Z (zfg (f:=Ty.c) (k:=2) hg1 og (by intro x _;rfl)) Z ?_;refine CWp.ret ?_;focus (refine rq ?_;all_goals (first|rfl|(simp[h1s,h1p];done)|(simp_all;done)|(simp_all;omega)|omega))
theorem zlT {s:Str}{args:List Ty}{k:Int} (h:args.length<=1000000000000):FnD Tryz.prog 148 [.agg [.d (.str s),.d (zbn args),.d (.i k)]] [] (.agg [.d (.str s),.d (zbn args),.d (.i k)]) []:=by
 refine bd Tryz.f148 15 [] [] fun _ _ _ _ hk=>?_;refine bx 3001 ?_;refine ab 3002 zh1 ?_;apply tv;refine ab 3003 zh1 ?_;apply tv;refine so ty9 ?_;apply tv;refine wc zs0 (zk2 h) Z Z ?_;refine ev (so zt9 ?_);apply tv;refine so ty3 ?_;apply tv;refine so zhZ ?_;apply tv;focus (refine rn0 (ra zhZ) (.agg (qeee ?_ ?_ ?_));all_goals (first|rfl|(simp[];done)|(simp_all;done)|(simp_all;omega)|omega))
theorem zk0 {l:List Ctor} (hs:CSmall l):FnD Tryz.prog 93 [.d (zce l)] [] (.d (zce l)) []:=by
 have h:=hs.len;refine bd Tryz.f93 23 [] [999999] fun _ _ _ _ hk=>?_;refine xbN (id:=3007) zcv zh1 Z oj (zdT Z) .none Z Z Z ot ot Z Z Z ?_;refine ev (xaD (ι:=List (Ctor)×List (Ctor)) hk (fun x=>[(4,.d (.i (x.1.length:Int)))]) [8,9,10,11,12,13,14,15,16,17,18,19,20,21] (fun x=>[(3007,some (.box ((x.1.flatMap fun x=>(Ctor.c x).map AV.d)++za1 x.2.length [.d (.str []),.nils,.d (.i 0)])))]) (fun x=>x.1++x.2=l) (fun x=>x.2.length) ([],l) og ⟨⟨_,Z,xaQ ?_⟩,I⟩ ⟨?_,I⟩ (fun x=>rfl) (fun x hg1=>?_));focus (first|rfl|(simp;done)|(simp_all;done)|omega)
 focus (first|rfl|(show some (Res.box _)=some (Res.box _);simp;done))
 obtain⟨pre,rest⟩:=x;dsimp only at hg1 ⊢;refine evc [] [999999] ?_;apply sq<;>intro h1 h1p h1s<;>(try simp only[Q] at h1p);rcases rest with _|⟨y,rest⟩
 ·exfalso;simp_all
 refine ixq sl86 Z Z Z (zaL hg1) Z (ev (wc zsN (zlT (hs.ctor y (by rw[<-hg1];simp)).2) Z Z ?_));refine xbG zcv .none Z Z Z Z (by first|omega|(simp ;omega)) ?_;refine Walk.store zhZ .none Z Z Z Z Z Z og ((zgN (k:=3) (by intro x _;rfl) (by first|rfl|simp) Z)) ?_;apply tv;refine ar (xaj ((pre++[y],rest)) ⟨(by have hz:=hg1;rw[<-hz];simp),og,sx ⟨⟨_,Z,xaQ ?_⟩,I⟩ ⟨?_,I⟩⟩);focus (first|rfl|(simp;done)|(simp_all;done)|omega)
 focus (first|rfl|(show some (Res.box _)=some (Res.box _);simp;done))
 have hrest:rest=[]:=by
  rcases rest with _|⟨a,b⟩
  ·rfl
  ·exfalso;have hz:=xam List.length (hg1);simp only[xaa,xab,xac] at hz;omega
 subst hrest;refine CWp.frz hk 2 3007 _ _ Z Z (zfg (f:=Ctor.c) (k:=3) hg1 og (by intro x _;rfl)) Z ?_;refine CWp.ret ?_;focus (refine rq ?_;all_goals (first|rfl|(simp[h1s,h1p];done)|(simp_all;done)|(simp_all;omega)|omega))
theorem zlU {s:Str}{cs:List Ctor} (h:CSmall cs):FnD Tryz.prog 44 [.agg [.d (.str s),.d (zce cs)]] [] (.agg [.d (.str s),.d (zce cs)]) []:=by
 refine bd Tryz.f44 12 [] [] fun _ _ _ _ hk=>?_;refine bx 3001 ?_;refine ab 3002 zm5 ?_;apply tv;refine ab 3003 zm5 ?_;apply tv;refine so ty9 ?_;apply tv;refine wc ztW (zk0 h) Z Z ?_;refine ev (so zt8 ?_);apply tv;refine so zm3 ?_;apply tv;focus (refine rn0 (ra zm3) (.agg (qee ?_ ?_));all_goals (first|rfl|(simp[];done)|(simp_all;done)|(simp_all;omega)|omega))
theorem zeE {l:List Data} (hs:WSmall l):FnD Tryz.prog 14 [.d (zap l)] [] (.d (zap l)) []:=by
 have h:=hs.len;refine bd Tryz.f14 23 [] [999999] fun _ _ _ _ hk=>?_;refine xbN (id:=3007) sl23 zm5 Z oj (zdT Z) .none Z Z Z ot ot Z Z Z ?_;refine ev (xaD (ι:=List (Data)×List (Data)) hk (fun x=>[(4,.d (.i (x.1.length:Int)))]) [8,9,10,11,12,13,14,15,16,17,18,19,20,21] (fun x=>[(3007,some (.box ((x.1.flatMap fun x=>(Data.c x).map AV.d)++za1 x.2.length [.d (.str []),.nils])))]) (fun x=>x.1++x.2=l) (fun x=>x.2.length) ([],l) og ⟨⟨_,Z,xaQ ?_⟩,I⟩ ⟨?_,I⟩ (fun x=>rfl) (fun x hg1=>?_));focus (first|rfl|(simp;done)|(simp_all;done)|omega)
 focus (first|rfl|(show some (Res.box _)=some (Res.box _);simp;done))
 obtain⟨pre,rest⟩:=x;dsimp only at hg1 ⊢;refine evc [] [999999] ?_;apply sq<;>intro h1 h1p h1s<;>(try simp only[Q] at h1p);rcases rest with _|⟨y,rest⟩
 ·exfalso;simp_all
 refine ixq sl42 Z Z Z (zaL hg1) Z (ev (wc ztB (zlU (hs.cs (d:=y) (by rw[<-hg1];simp))) Z Z ?_));refine xbG sl23 .none Z Z Z Z (by first|omega|(simp ;omega)) ?_;refine Walk.store zm3 .none Z Z Z Z Z Z og ((zgN (k:=2) (by intro x _;rfl) (by first|rfl|simp) Z)) ?_;apply tv;refine ar (xaj ((pre++[y],rest)) ⟨(by have hz:=hg1;rw[<-hz];simp),og,sx ⟨⟨_,Z,xaQ ?_⟩,I⟩ ⟨?_,I⟩⟩);focus (first|rfl|(simp;done)|(simp_all;done)|omega)
 focus (first|rfl|(show some (Res.box _)=some (Res.box _);simp;done))
 have hrest:rest=[]:=by
  rcases rest with _|⟨a,b⟩
  ·rfl
  ·exfalso;have hz:=xam List.length (hg1);simp only[xaa,xab,xac] at hz;omega
 subst hrest;refine CWp.frz hk 2 3007 _ _ Z Z (zfg (f:=Data.c) (k:=2) hg1 og (by intro x _;rfl)) Z ?_;refine CWp.ret ?_;focus (refine rq ?_;all_goals (first|rfl|(simp[h1s,h1p];done)|(simp_all;done)|(simp_all;omega)|omega))
theorem zlS {s:Str}{cs:List Ctor}{left:Int} (h:s.length<=1000000000000) (hc:CSmall cs) (k0:0<=left) (k1:left<=1000000000000):FnD Tryz.prog 39 [.agg [.d (.str s),.d (zce cs)],.d (.i left)] [] (.d (.i (szr left (zfo ⟨s,cs⟩)))) []:=by
 have z:=zbL (left:=left) (zfo ⟨s,cs⟩);have z2:=zbL (left:=left-s.length) (ziR cs);simp only[zfo] at z z2 ⊢;refine bd Tryz.f39 19 [] [] fun _ _ _ _ hk=>?_;refine bx 3002 ?_;refine ev (ar ?_);apply sq<;>intro h1 h1p h1s<;>(try simp only[Q] at h1p);refine rq ?_;rotate_left;refine wc ztR (zkX hc od od) Z Z ?_;refine ev ?_;apply sq<;>intro h2 h2p h2s<;>(try simp only[Q] at h2p);refine rq ?_;rotate_left;refine rq ?_;rotate_left;all_goals (refine xam D.i ?_;omega)
theorem zkY {l:List Data}{left:Int} (hs:WSmall l) (k0:0<=left) (k1:left<=1000000000000):FnD Tryz.prog 11 [.d (zap l),.d (.i left)] [] (.d (.i (szr left (zk3 l)))) []:=by
 have h:=hs.len;have z:=zbL (left:=left) (zk3 l);simp only[zk3] at z ⊢;refine bd Tryz.f11 27 [] [] fun _ _ _ _ hk=>?_;refine ar ?_;apply sq<;>intro h1 h1p h1s<;>(try simp only[Q] at h1p);refine rq ?_;rotate_left;refine xaD (ι:=List (Data)×List (Data)×(Int)) hk (fun x=>[(5,.d (.i (x.1.length:Int))),(1,.d (.i x.2.2))]) [4,12,13,14,15,16,17,18,19,20,21,22,23,24,25] (fun x=>[]) (fun x=>x.1++x.2.1=l/\x.2.2=left-l.length-(x.1.map zfo).sum/\0<=x.2.2) (fun x=>x.2.1.length) ([],l,left-l.length) ⟨by simp,by simp,by simp at *;omega⟩ ⟨⟨_,Z,xaQ ?_⟩,⟨⟨_,Z,xaQ ?_⟩,I⟩⟩ I (fun x=>rfl) (fun x hg1=>?_);iterate 2 focus (first|rfl|(simp;done))
 obtain⟨pre,rest,v⟩:=x;dsimp only at hg1 ⊢;refine evc [] [] ?_;apply sq<;>intro h2 h2p h2s<;>(try simp only[Q] at h2p);rcases rest with _|⟨y,rest⟩
 ·exfalso;simp_all
 refine ixq sl42 Z Z Z (zaL hg1.1) Z (ev (wc zty (zlS (hs.data y (by rw[<-hg1.1];simp)).1 (hs.cs (d:=y) (by rw[<-hg1.1];simp)) od od) Z Z ?_));refine ev ?_;apply sq<;>intro h3 h3p h3s<;>(try simp only[Q] at h3p);refine rq ?_;rotate_left;refine ar (xaj ((pre++[y],rest,szr v (zfo y))) ⟨⟨(by have hz:=hg1.1;rw[<-hz];simp),(by have e:=zc2 (f:=zfo) hg1.1;have z3:=zbL (left:=v) (zfo y);simp only[Data.eta] at *;simp;omega)⟩,og,sx ⟨⟨_,Z,xaQ ?_⟩,⟨⟨_,Z,xaQ ?_⟩,I⟩⟩ I⟩);iterate 2 focus (first|rfl|(simp;done))
 have hrest:rest=[]:=by
  rcases rest with _|⟨a,b⟩
  ·rfl
  ·exfalso;have hz:=xam List.length (hg1.1);simp only[xaa,xab,xac] at hz;omega
 subst hrest;refine rq ?_;rotate_left;all_goals (refine xam D.i ?_;first|omega|(have e:=zc2 (f:=zfo) hg1.1;have z3:=zbL (left:=v) (zfo y);simp only[Data.eta] at *;omega)|(rw[xaq] at hg1;rw[hg1.1] at hg1;omega))
theorem zlI {α:Type} [Inhabited α]{l m:List α} (h:l.length=m.length) (h2:∀i,i<l.length->nth l i=nth m i):l=m:=by
 refine List.ext_getElem h (fun i h3 h4=>?_);have:=h2 i h3;simpa [nth,List.getD,h3,h4] using this
theorem zlQ {a b a' b':Int}:FnD Tryz.prog 254 [.agg [.d (.i a),.d (.i b)],.agg [.d (.i a'),.d (.i b')]] [] (.d (.bool (decide ((⟨a,b⟩:Ty)=⟨a',b'⟩)))) []:=by
 refine bd Tryz.f254 15 [] [] fun _ _ _ _ hk=>?_;refine bx 3002 ?_;refine bx 3003 ?_;refine ev ?_;apply sq<;>intro h1 h1p h1s<;>(try simp only[Q] at h1p);focus (refine rq ?_;all_goals (refine xam D.bool ?_;simp[h1s,h1p]))
 apply sq<;>intro h2 h2p h2s<;>(try simp only[Q] at h2p);focus (refine rq ?_;all_goals (refine xam D.bool ?_;simp[h1s,h1p,h2s,h2p]))
 focus (refine rq ?_;all_goals (refine xam D.bool ?_;simp[h1s,h1p,h2s,h2p]))
theorem zkW {l m:List Ty} (h:l.length<=1000000000000):FnD Tryz.prog 208 [.d (zbn l),.d (zbn m)] [] (.d (.bool (decide (l=m)))) []:=by
 refine bd Tryz.f208 27 [] [] fun _ _ _ _ hk=>?_;apply sq<;>intro h1 h1p h1s<;>(try simp only[Q,xal] at h1p);refine rq ?_;rotate_left;refine xaD (ι:=Nat) hk (fun i=>[(5,.d (.i (i:Int)))]) [4,11,12,13,14,15,16,17,18,19,20,21,22,23,24,25,26] (fun i=>[]) (fun i=>i<=l.length/\∀i',i'<i->nth l i'=nth m i') (fun i=>l.length-i) 0 ⟨by omega,fun _ h=>absurd h od⟩ ⟨⟨_,Z,xaQ ?_⟩,I⟩ I (fun x=>rfl) (fun i hg1=>?_);focus (first|rfl|(simp;done)|(simp_all;done)|omega)
 refine evc [] [] ?_;apply sq<;>intro h2 h2p h2s<;>(try simp only[Q,xal] at h2p);refine ixq za3 Z Z Z (zao od) Z ?_;refine evd [] [] (ixq za3 Z Z Z (zao od) Z ?_);refine evd [] [] (wc zs9 zlQ Z Z ?_);refine evd [] [] (dr ?_);apply sq<;>intro h3 h3p h3s<;>(try simp only[Q,xal] at h3p);refine rq ?_;rotate_left;refine ar (xaj (i+1) ⟨⟨by omega,zaR hg1.2 (by simp only[xa9] at *;assumption)⟩,od,sx ⟨⟨_,Z,xaQ ?_⟩,I⟩ I⟩);focus (first|rfl|(simp;done)|(simp_all;done)|omega)
 refine rq ?_;rotate_left;all_goals (refine xam D.bool ?_;first|(refine(xaw (fun e=>?_)).symm;subst e;omega)|(refine(xaw (fun e=>?_)).symm;subst e;simp_all;done)|(refine(xax (zlI od (fun x hx=>hg1.2 x od))).symm))
theorem zlO {s s':Str}{l l':List Ty}{k k':Int} (h:l.length<=1000000000000):FnD Tryz.prog 163 [.agg [.d (.str s),.d (zbn l),.d (.i k)],.agg [.d (.str s'),.d (zbn l'),.d (.i k')]] [] (.d (.bool (decide ((⟨s,l,k⟩:Ctor)=⟨s',l',k'⟩)))) []:=by
 refine bd Tryz.f163 21 [] [] fun _ _ _ _ hk=>?_;refine bx 3002 ?_;refine bx 3003 ?_;refine ev ?_;apply sq<;>intro h1 h1p h1s<;>(try simp only[Q] at h1p);focus (refine rq ?_;all_goals (refine xam D.bool ?_;simp[h1s,h1p]))
 refine wc zs3 (zkW h) Z Z ?_;refine ev ?_;apply sq<;>intro h2 h2p h2s<;>(try simp only[Q] at h2p);focus (refine rq ?_;all_goals (refine xam D.bool ?_;simp[h1s,h1p,h2s,h2p]))
 apply sq<;>intro h3 h3p h3s<;>(try simp only[Q] at h3p);focus (refine rq ?_;all_goals (refine xam D.bool ?_;simp[h1s,h1p,h2s,h2p,h3s,h3p]))
 focus (refine rq ?_;all_goals (refine xam D.bool ?_;simp[h1s,h1p,h2s,h2p,h3s,h3p]))
theorem zkT {l m:List Ctor} (hs:CSmall l):FnD Tryz.prog 108 [.d (zce l),.d (zce m)] [] (.d (.bool (decide (l=m)))) []:=by
 have h:=hs.len;refine bd Tryz.f108 27 [] [] fun _ _ _ _ hk=>?_;apply sq<;>intro h1 h1p h1s<;>(try simp only[Q,xal] at h1p);refine rq ?_;rotate_left;refine xaD (ι:=Nat) hk (fun i=>[(5,.d (.i (i:Int)))]) [4,11,12,13,14,15,16,17,18,19,20,21,22,23,24,25,26] (fun i=>[]) (fun i=>i<=l.length/\∀i',i'<i->nth l i'=nth m i') (fun i=>l.length-i) 0 ⟨by omega,fun _ h=>absurd h od⟩ ⟨⟨_,Z,xaQ ?_⟩,I⟩ I (fun x=>rfl) (fun i hg1=>?_);focus (first|rfl|(simp;done)|(simp_all;done)|omega)
 refine evc [] [] ?_;apply sq<;>intro h2 h2p h2s<;>(try simp only[Q,xal] at h2p);refine ixq zcv Z Z Z (zao od) Z ?_;refine evd [] [] (ixq zcv Z Z Z (zao od) Z ?_);refine evd [] [] (wc zsS (zlO (hs.ctor _ (zai (i:=i) od)).2) Z Z ?_);refine evd [] [] (dr ?_);apply sq<;>intro h3 h3p h3s<;>(try simp only[Q,xal] at h3p);refine rq ?_;rotate_left;refine ar (xaj (i+1) ⟨⟨by omega,zaR hg1.2 (by simp only[xaJ] at *;assumption)⟩,od,sx ⟨⟨_,Z,xaQ ?_⟩,I⟩ I⟩);focus (first|rfl|(simp;done)|(simp_all;done)|omega)
 refine rq ?_;rotate_left;all_goals (refine xam D.bool ?_;first|(refine(xaw (fun e=>?_)).symm;subst e;omega)|(refine(xaw (fun e=>?_)).symm;subst e;simp_all;done)|(refine(xax (zlI od (fun x hx=>hg1.2 x od))).symm))
theorem zlP {s s':Str}{l l':List Ctor} (h:CSmall l):FnD Tryz.prog 50 [.agg [.d (.str s),.d (zce l)],.agg [.d (.str s'),.d (zce l')]] [] (.d (.bool (decide ((⟨s,l⟩:Data)=⟨s',l'⟩)))) []:=by
 refine bd Tryz.f50 16 [] [] fun _ _ _ _ hk=>?_;refine bx 3002 ?_;refine bx 3003 ?_;refine ev ?_;apply sq<;>intro h1 h1p h1s<;>(try simp only[Q] at h1p);focus (refine rq ?_;all_goals (refine xam D.bool ?_;simp[h1s,h1p]))
 refine wc zsA (zkT h) Z Z ?_;refine ev ?_;apply sq<;>intro h2 h2p h2s<;>(try simp only[Q] at h2p);focus (refine rq ?_;all_goals (refine xam D.bool ?_;simp[h1s,h1p,h2s,h2p]))
 focus (refine rq ?_;all_goals (refine xam D.bool ?_;simp[h1s,h1p,h2s,h2p]))
theorem zkU {l m:List Data} (hs:WSmall l):FnD Tryz.prog 18 [.d (zap l),.d (zap m)] [] (.d (.bool (decide (l=m)))) []:=by
 have h:=hs.len;refine bd Tryz.f18 27 [] [] fun _ _ _ _ hk=>?_;apply sq<;>intro h1 h1p h1s<;>(try simp only[Q,xal] at h1p);refine rq ?_;rotate_left;refine xaD (ι:=Nat) hk (fun i=>[(5,.d (.i (i:Int)))]) [4,11,12,13,14,15,16,17,18,19,20,21,22,23,24,25,26] (fun i=>[]) (fun i=>i<=l.length/\∀i',i'<i->nth l i'=nth m i') (fun i=>l.length-i) 0 ⟨by omega,fun _ h=>absurd h od⟩ ⟨⟨_,Z,xaQ ?_⟩,I⟩ I (fun x=>rfl) (fun i hg1=>?_);focus (first|rfl|(simp;done)|(simp_all;done)|omega)
 refine evc [] [] ?_;apply sq<;>intro h2 h2p h2s<;>(try simp only[Q,xal] at h2p);refine ixq sl23 Z Z Z (zao od) Z ?_;refine evd [] [] (ixq sl23 Z Z Z (zao od) Z ?_);refine evd [] [] (wc ztF (zlP (hs.cs (zai (i:=i) od))) Z Z ?_);refine evd [] [] (dr ?_);apply sq<;>intro h3 h3p h3s<;>(try simp only[Q,xal] at h3p);refine rq ?_;rotate_left;refine ar (xaj (i+1) ⟨⟨by omega,zaR hg1.2 (by simp only[Data.eta] at *;assumption)⟩,od,sx ⟨⟨_,Z,xaQ ?_⟩,I⟩ I⟩);focus (first|rfl|(simp;done)|(simp_all;done)|omega)
 refine rq ?_;rotate_left;all_goals (refine xam D.bool ?_;first|(refine(xaw (fun e=>?_)).symm;subst e;omega)|(refine(xaw (fun e=>?_)).symm;subst e;simp_all;done)|(refine(xax (zlI od (fun x hx=>hg1.2 x od))).symm))
def zt2 (n:Nat):UInt8:=UInt8.ofNat (IntKind.u8.wrap (48+(n:Int) % 10)).toNat
def digs (n:Nat):Str:=if n=0 then [] else digs (n / 10)++[zt2 n]
def zoO (n:Nat):Str:=109::digs n
def Ty.one (k:Int) (_:Ty):Ty:=⟨k,k+1⟩
def Ty.sz (_:Ty):Int:=2
def Ctor.one (k:Int) (x:Ctor):Ctor:=⟨zoO k.toNat,mkL Ty.one Ty.sz (k+1) x.args,k+1+szL Ty.sz x.args⟩
def Ctor.sz (x:Ctor):Int:=2+szL Ty.sz x.args
def Data.one (k:Int) (x:Data):Data:=⟨zoO k.toNat,mkL Ctor.one Ctor.sz (k+1) x.ctors⟩
def Data.sz (x:Data):Int:=1+szL Ctor.sz x.ctors
def ren (i j:Nat):AV->AV
 | .ms a n=>if a=i then .ms j n else .ms a n
 |x=>x
def fits (c:Ctor) (k:Int):Bool:=decide (k=0)||(decide (c.index=0)||decide (c.index=k))
def zaQ (k:Int):Nat->List Ctor->List Int
 |_,[]=>[]
 |i,c::r=>if fits c k then (i:Int)::zaQ k (i+1) r else zaQ k (i+1) r
def zch (k:Int) (t:Ty):Ty:=if t.index = -1 then ⟨t.data,k⟩ else t
def zcc (c:Ctor) (k:Int):Int:=if c.index=0 then k else c.index
theorem zfH (k:Int):∀(l:List Ctor) (i:Nat),(zaQ k i l).length<=l.length
 | [],_=>by simp[zaQ]
 |c::r,i=>by
  have:=zfH k r (i+1);unfold zaQ;split<;>simp<;>omega
theorem zif {w:List Data}{k:Int}:FnD Tryz.prog 156 [.d (zap w),.agg [.d (.i (-1)),.d (.i k)]] [] (.d (zaH [])) []:=by
 refine bd Tryz.f156 44 [5] [] fun _ _ _ _ hk=>?_;refine bx 3003 ?_;refine evs [5] [] (xbs 1 1 .none Z Z ?_);apply tv;apply sq<;>intro h1 h1p h1s<;>(try simp only[Q] at h1p);exact absurd h1 og

 focus (refine rn0 (r1 Z) (.gld ?_);all_goals (rfl))
theorem zkO {w:List Data}{d:Nat}{k:Int} (hs:WSmall w) (hd:d<w.length):FnD Tryz.prog 156 [.d (zap w),.agg [.d (.i d),.d (.i k)]] [] (.d (zaH (zaQ k 0 (nth w d).ctors))) []:=by
 have hb:=hs.ctors d;refine bd Tryz.f156 44 [5] [] fun _ _ _ _ hk=>?_;refine bx 3003 ?_;refine evs [5] [] (xbs 1 1 .none Z Z ?_);apply tv;apply sq<;>intro h1 h1p h1s<;>(try simp only[Q] at h1p);refine ixq sl23 Z Z Z (zao hd) Z (evs [5] [] (xaD (ι:=List (Ctor)×List (Ctor)×(List Int)) hk (fun x=>[(18,.d (.i (x.1.length:Int))),(5,.gl 1 (x.2.2.map fun n=>[D.i n]))]) [6,7,19,20,21,22,23,24,25,26,27,28,29,30,31,32,33,34,35,36,37,38,39,40,41,42] (fun x=>[(1,some (.tok ((x.2.2.map fun n=>[D.i n])).length 1))]) (fun x=>x.1++x.2.1=(nth w d).ctors/\x.2.2++zaQ k x.1.length x.2.1=zaQ k 0 (nth w d).ctors/\x.2.2.length<=x.1.length) (fun x=>x.2.1.length) ([],(nth w d).ctors,[]) ⟨by simp,by simp,by simp⟩ ⟨⟨_,Z,xaQ ?_⟩,⟨⟨_,Z,LeA.glg ?_⟩,I⟩⟩ ⟨zac ?_,I⟩ (fun x=>rfl) (fun x hg1=>?_)));iterate 3 focus (rfl)
 obtain⟨pre,rest,acc⟩:=x;dsimp only at hg1 ⊢;refine evc [5] [] ?_;apply sq<;>intro h2 h2p h2s<;>(try simp only[Q] at h2p);rcases rest with _|⟨y,rest⟩
 ·exfalso;simp_all
 refine ixq zcv Z Z Z (zaL hg1.1) Z (evs [5] [] (ab 3007 zh1 ?_));refine evs [5] [] (so zhZ ?_);apply tv;apply sq<;>intro h3 h3p h3s<;>(try simp only[Q] at h3p);refine sqT ?_;refine sqT ?_;refine si [0] [_] sl37 tz3 ?_;refine ap sl37 zz3 Z Z Z og (by have hl:=hg1.2.2;simp;omega) ?_;refine asg ?_;apply tv;refine ar (xaj ((pre++[y],rest,if fits y k then acc++[(pre.length:Int)] else acc)) ⟨⟨(by have hz:=hg1.1;rw[<-hz];simp),⟨by rw[<-hg1.2.1];by_cases hf:fits y k=true<;>simp[zaQ,hf],by split<;>simp<;>omega⟩⟩,og,sx ⟨⟨_,Z,xaQ ?_⟩,⟨⟨_,Z,LeA.glg ?_⟩,I⟩⟩ ⟨zac ?_,I⟩⟩);iterate 3 focus ((simp[fits,h1s,h1p,h2s,h2p,h3s,h3p];done))
 apply sq<;>intro h5 h5p h5s<;>(try simp only[Q] at h5p);refine sqT ?_;refine si [0] [_] sl37 tz3 ?_;refine ap sl37 zz3 Z Z Z og (by have hl:=hg1.2.2;simp;omega) ?_;refine asg ?_;apply tv;refine ar (xaj ((pre++[y],rest,if fits y k then acc++[(pre.length:Int)] else acc)) ⟨⟨(by have hz:=hg1.1;rw[<-hz];simp),⟨by rw[<-hg1.2.1];by_cases hf:fits y k=true<;>simp[zaQ,hf],by split<;>simp<;>omega⟩⟩,og,sx ⟨⟨_,Z,xaQ ?_⟩,⟨⟨_,Z,LeA.glg ?_⟩,I⟩⟩ ⟨zac ?_,I⟩⟩);iterate 3 focus ((simp[fits,h1s,h1p,h2s,h2p,h3s,h3p,h5s,h5p];done))
 apply sq<;>intro h7 h7p h7s<;>(try simp only[Q] at h7p);refine si [0] [_] sl37 tz3 ?_;refine ap sl37 zz3 Z Z Z og (by have hl:=hg1.2.2;simp;omega) ?_;refine asg ?_;apply tv;refine ar (xaj ((pre++[y],rest,if fits y k then acc++[(pre.length:Int)] else acc)) ⟨⟨(by have hz:=hg1.1;rw[<-hz];simp),⟨by rw[<-hg1.2.1];by_cases hf:fits y k=true<;>simp[zaQ,hf],by split<;>simp<;>omega⟩⟩,og,sx ⟨⟨_,Z,xaQ ?_⟩,⟨⟨_,Z,LeA.glg ?_⟩,I⟩⟩ ⟨zac ?_,I⟩⟩);iterate 3 focus ((simp[fits,h1s,h1p,h2s,h2p,h3s,h3p,h5s,h5p,h7s,h7p];done))
 refine ar (xaj ((pre++[y],rest,if fits y k then acc++[(pre.length:Int)] else acc)) ⟨⟨(by have hz:=hg1.1;rw[<-hz];simp),⟨by rw[<-hg1.2.1];by_cases hf:fits y k=true<;>simp[zaQ,hf],by split<;>simp<;>omega⟩⟩,og,sx ⟨⟨_,Z,xaQ ?_⟩,⟨⟨_,Z,LeA.glg ?_⟩,I⟩⟩ ⟨zac ?_,I⟩⟩);iterate 3 focus ((simp[fits,h1s,h1p,h2s,h2p,h3s,h3p,h5s,h5p,h7s,h7p];done))
 have hrest:rest=[]:=by
  rcases rest with _|⟨a,b⟩
  ·rfl
  ·exfalso;have hz:=xam List.length (hg1.1);simp only[xaa,xab,xac] at hz;omega
 subst hrest;refine rn0 (r1 Z) (.gld ?_);rotate_left;exfalso;simp at h1<;>omega;all_goals (have e:=hg1.2.1;simp only[zaQ,xaq] at e;rw[e])
theorem zl7 {s:Str}{l:List Ty}{i k:Int}:FnD Tryz.prog 194 [.agg [.d (.str s),.d (zbn l),.d (.i i)],.d (.i k)] [] (.d (.bool (fits ⟨s,l,i⟩ k))) []:=by
 refine bd Tryz.f194 18 [] [] fun _ _ _ _ hk=>?_;refine bx 3002 ?_;refine ev ?_;apply sq<;>intro h1 h1p h1s<;>(try simp only[Q] at h1p);refine sqT ?_;focus (refine rq ?_;all_goals (refine xam D.bool ?_;simp[fits,h1s,h1p]))
 apply sq<;>intro h2 h2p h2s<;>(try simp only[Q] at h2p);focus (refine rq ?_;all_goals (refine xam D.bool ?_;simp[fits,h1s,h1p,h2s,h2p]))
 focus (refine rq ?_;all_goals (refine xam D.bool ?_;simp[fits,h1s,h1p,h2s,h2p]))
theorem zik {w:List Data}{k:Int}:FnD Tryz.prog 145 [.d (zap w),.agg [.d (.i (-1)),.d (.i k)]] [] (.d (zaH [])) []:=by
 refine bd Tryz.f145 40 [] [] fun _ _ _ _ hk=>?_;refine bx 3003 ?_;refine ev (xbX 1 sl37 .none Z Z (ev ?_));apply sq<;>intro h1 h1p h1s<;>(try simp only[Q] at h1p)

 focus (refine rn0 (r1 Z) (.gld ?_);all_goals (rfl))
 exact absurd h1 og
theorem zlj {w:List Data}{d:Nat}{k:Int} (hs:WSmall w) (hd:d<w.length):FnD Tryz.prog 145 [.d (zap w),.agg [.d (.i d),.d (.i k)]] [] (.d (zaH (zaQ k 0 (nth w d).ctors))) []:=by
 have hb:=hs.ctors d;refine bd Tryz.f145 40 [] [] fun _ _ _ _ hk=>?_;refine bx 3003 ?_;refine ev (xbX 1 sl37 .none Z Z (ev ?_));apply sq<;>intro h1 h1p h1s<;>(try simp only[Q] at h1p);exfalso;simp at h1<;>omega;refine xaD (ι:=List (Ctor)×List (Ctor)×(List Int)) hk (fun x=>[(6,.d (.i (x.1.length:Int))),(5,.gl 1 (x.2.2.map fun n=>[D.i n]))]) [12,13,14,15,16,17,18,19,20,21,22,23,24,25,26,27,28,29,30,31,32,33,34,35,36,37,38] (fun x=>[(1,some (.tok ((x.2.2.map fun n=>[D.i n])).length 1))]) (fun x=>x.1++x.2.1=(nth w d).ctors/\x.2.2++zaQ k x.1.length x.2.1=zaQ k 0 (nth w d).ctors/\x.2.2.length<=x.1.length) (fun x=>x.2.1.length) ([],(nth w d).ctors,[]) ⟨by simp,by simp,by simp⟩ ⟨⟨_,Z,xaQ ?_⟩,⟨⟨_,Z,LeA.glg ?_⟩,I⟩⟩ ⟨zac ?_,I⟩ (fun x=>rfl) (fun x hg1=>?_);iterate 3 focus (rfl)
 obtain⟨pre,rest,acc⟩:=x;dsimp only at hg1 ⊢;refine evc [] [] (ixq sl23 Z Z Z (zao hd) Z (ev ?_));apply sq<;>intro h2 h2p h2s<;>(try simp only[Q] at h2p);rcases rest with _|⟨y,rest⟩
 ·exfalso;simp_all
 refine ixq sl23 Z Z Z (zao hd) Z (evd [] [] (ixq zcv Z Z Z (zaL hg1.1) Z (evd [] [] (wc zsY zl7 Z Z ?_))));refine dr ?_;apply sq<;>intro h3 h3p h3s<;>(try simp only[Q] at h3p);refine si [0] [_] sl37 tz3 ?_;refine ap sl37 zz3 Z Z Z og (by have hl:=hg1.2.2;simp;omega) ?_;refine ev (ar (xaj ((pre++[y],rest,if fits y k then acc++[(pre.length:Int)] else acc)) ⟨⟨(by have hz:=hg1.1;rw[<-hz];simp),⟨by rw[<-hg1.2.1];by_cases hf:fits y k=true<;>simp[zaQ,hf],by split<;>simp<;>omega⟩⟩,og,sx ⟨⟨_,Z,xaQ ?_⟩,⟨⟨_,Z,LeA.glg ?_⟩,I⟩⟩ ⟨zac ?_,I⟩⟩));iterate 3 focus ((simp[xaJ,h1s,h1p,h2s,h2p,h3s,h3p];done))
 refine ar (xaj ((pre++[y],rest,if fits y k then acc++[(pre.length:Int)] else acc)) ⟨⟨(by have hz:=hg1.1;rw[<-hz];simp),⟨by rw[<-hg1.2.1];by_cases hf:fits y k=true<;>simp[zaQ,hf],by split<;>simp<;>omega⟩⟩,og,sx ⟨⟨_,Z,xaQ ?_⟩,⟨⟨_,Z,LeA.glg ?_⟩,I⟩⟩ ⟨zac ?_,I⟩⟩);iterate 3 focus ((simp[xaJ,h1s,h1p,h2s,h2p,h3s,h3p];done))
 have hrest:rest=[]:=by
  rcases rest with _|⟨a,b⟩
  ·rfl
  ·exfalso;have hz:=xam List.length (hg1.1);simp only[xaa,xab,xac] at hz;omega
 subst hrest;refine rn0 (r1 Z) (.gld ?_);rotate_left;all_goals (have e:=hg1.2.1;simp only[zaQ,xaq] at e;rw[e])
theorem zkj {s:Str}{l:List Ty}{i k:Int}:FnD Tryz.prog 195 [.agg [.d (.str s),.d (zbn l),.d (.i i)],.d (.i k)] [] (.d (.i (zcc ⟨s,l,i⟩ k))) []:=by
 refine bd Tryz.f195 11 [] [] fun _ _ _ _ hk=>?_;refine bx 3002 ?_;refine ev ?_;apply sq<;>intro h1 h1p h1s<;>(try simp only[Q] at h1p);focus (refine rq ?_;all_goals (refine xam D.i ?_;simp[zcc,h1s,h1p]))
 focus (refine rq ?_;all_goals (refine xam D.i ?_;simp[zcc,h1s,h1p]))
theorem zj3 {w:List Data}{d c:Nat}{k:Int} (hs:WSmall w) (hd:d<w.length) (hc:c<(nth w d).ctors.length):FnD Tryz.prog 157 [.d (zap w),.agg [.d (.i d),.d (.i k)],.d (.i c)] [] (.d (zbn ((nth (nth w d).ctors c).args.map (zch (zcc (nth (nth w d).ctors c) k))))) []:=by
 have hb:=(hs.ctor _ (zai hd) _ (zai hc)).2;refine bd Tryz.f157 45 [9] [] fun _ _ _ _ hk=>?_;refine bx 3004 ?_;refine evs [9] [] (ixq sl23 Z Z Z (zao hd) Z (evs [9] [] (ixq zcv Z Z Z (zao hc) Z (evs [9] [] (ab 3007 zh1 ?_)))));refine so zhZ ?_;apply tv;apply sq<;>intro h1 h1p h1s<;>(try simp only[Q] at h1p);refine xbs 1 2 .none Z Z ?_;apply tv;refine xaD (ι:=List (Ty)×List (Ty)) hk (fun x=>[(30,.d (.i (x.1.length:Int))),(9,.gl 1 ((x.1.map (zch (zcc (nth (nth w d).ctors c) k))).map Ty.c))]) [11,31,32,33,34,35,36,37,38,39,40,41,42,43] (fun x=>[(1,some (.tok (((x.1.map (zch (zcc (nth (nth w d).ctors c) k))).map Ty.c)).length 2))]) (fun x=>x.1++x.2=(nth (nth w d).ctors c).args) (fun x=>x.2.length) ([],(nth (nth w d).ctors c).args) og ⟨⟨_,Z,xaQ ?_⟩,⟨⟨_,Z,LeA.glg ?_⟩,I⟩⟩ ⟨zac ?_,I⟩ (fun x=>rfl) (fun x hg1=>?_);iterate 3 focus (rfl)
 obtain⟨pre,rest⟩:=x;dsimp only at hg1 ⊢;refine evc [9] [] ?_;apply sq<;>intro h2 h2p h2s<;>(try simp only[Q] at h2p);rcases rest with _|⟨y,rest⟩
 ·exfalso;simp_all
 refine ixq za3 Z Z Z (zaL hg1) Z (evs [9] [] (ab 3011 tz29 ?_));refine so ty29 ?_;apply tv;apply sq<;>intro h3 h3p h3s<;>(try simp only[Q] at h3p);refine so ty3 ?_;apply tv;refine si [0] [_] za3 tz29 ?_;refine ap za3 zz29 Z Z Z og (by have hl:=xam List.length hg1;simp at hl;simp;omega) ?_;refine asg ?_;apply tv;refine ar (xaj ((pre++[y],rest)) ⟨(by have hz:=hg1;rw[<-hz];simp),og,sx ⟨⟨_,Z,xaQ ?_⟩,⟨⟨_,Z,LeA.glg ?_⟩,I⟩⟩ ⟨zac ?_,I⟩⟩);iterate 3 focus ((simp[zch,zcc,h1s,h1p,h2s,h2p,h3s,h3p];done))
 refine si [0] [_] za3 tz29 ?_;refine ap za3 zz29 Z Z Z og (by have hl:=xam List.length hg1;simp at hl;simp;omega) ?_;refine asg ?_;apply tv;refine ar (xaj ((pre++[y],rest)) ⟨(by have hz:=hg1;rw[<-hz];simp),og,sx ⟨⟨_,Z,xaQ ?_⟩,⟨⟨_,Z,LeA.glg ?_⟩,I⟩⟩ ⟨zac ?_,I⟩⟩);iterate 3 focus ((simp[zch,zcc,h1s,h1p,h2s,h2p,h3s,h3p];done))
 have hrest:rest=[]:=by
  rcases rest with _|⟨a,b⟩
  ·rfl
  ·exfalso;have hz:=xam List.length (hg1);simp only[xaa,xab,xac] at hz;omega
 subst hrest;focus (refine rn0 (r1 Z) (.gld ?_);all_goals (simp[<-hg1,zcc,h1s,h1p,h2s,h2p]))
 refine xbs 1 2 .none Z Z ?_;apply tv;refine xaD (ι:=List (Ty)×List (Ty)) hk (fun x=>[(30,.d (.i (x.1.length:Int))),(9,.gl 1 ((x.1.map (zch (zcc (nth (nth w d).ctors c) k))).map Ty.c))]) [11,31,32,33,34,35,36,37,38,39,40,41,42,43] (fun x=>[(1,some (.tok (((x.1.map (zch (zcc (nth (nth w d).ctors c) k))).map Ty.c)).length 2))]) (fun x=>x.1++x.2=(nth (nth w d).ctors c).args) (fun x=>x.2.length) ([],(nth (nth w d).ctors c).args) og ⟨⟨_,Z,xaQ ?_⟩,⟨⟨_,Z,LeA.glg ?_⟩,I⟩⟩ ⟨zac ?_,I⟩ (fun x=>rfl) (fun x hg1=>?_);iterate 3 focus (rfl)
 obtain⟨pre,rest⟩:=x;dsimp only at hg1 ⊢;refine evc [9] [] ?_;apply sq<;>intro h4 h4p h4s<;>(try simp only[Q] at h4p);rcases rest with _|⟨y,rest⟩
 ·exfalso;simp_all
 refine ixq za3 Z Z Z (zaL hg1) Z (evs [9] [] (ab 3011 tz29 ?_));refine so ty29 ?_;apply tv;apply sq<;>intro h5 h5p h5s<;>(try simp only[Q] at h5p);refine so ty3 ?_;apply tv;refine si [0] [_] za3 tz29 ?_;refine ap za3 zz29 Z Z Z og (by have hl:=xam List.length hg1;simp at hl;simp;omega) ?_;refine asg ?_;apply tv;refine ar (xaj ((pre++[y],rest)) ⟨(by have hz:=hg1;rw[<-hz];simp),og,sx ⟨⟨_,Z,xaQ ?_⟩,⟨⟨_,Z,LeA.glg ?_⟩,I⟩⟩ ⟨zac ?_,I⟩⟩);iterate 3 focus ((simp[zch,zcc,h1s,h1p,h4s,h4p,h5s,h5p];done))
 refine si [0] [_] za3 tz29 ?_;refine ap za3 zz29 Z Z Z og (by have hl:=xam List.length hg1;simp at hl;simp;omega) ?_;refine asg ?_;apply tv;refine ar (xaj ((pre++[y],rest)) ⟨(by have hz:=hg1;rw[<-hz];simp),og,sx ⟨⟨_,Z,xaQ ?_⟩,⟨⟨_,Z,LeA.glg ?_⟩,I⟩⟩ ⟨zac ?_,I⟩⟩);iterate 3 focus ((simp[zch,zcc,h1s,h1p,h4s,h4p,h5s,h5p];done))
 have hrest:rest=[]:=by
  rcases rest with _|⟨a,b⟩
  ·rfl
  ·exfalso;have hz:=xam List.length (hg1);simp only[xaa,xab,xac] at hz;omega
 subst hrest;focus (refine rn0 (r1 Z) (.gld ?_);all_goals (simp[<-hg1,zcc,h1s,h1p,h4s,h4p]))
theorem zl4 {w:List Data}{d c:Nat}{k:Int} (hs:WSmall w) (hd:d<w.length) (hc:c<(nth w d).ctors.length):FnD Tryz.prog 146 [.d (zap w),.agg [.d (.i d),.d (.i k)],.d (.i c)] [] (.d (zbn ((nth (nth w d).ctors c).args.map (zch (zcc (nth (nth w d).ctors c) k))))) []:=by
 have hb:=(hs.ctor _ (zai hd) _ (zai hc)).2;refine bd Tryz.f146 46 [] [] fun _ _ _ _ hk=>?_;refine bx 3004 ?_;refine ev (xbX 1 za3 .none Z Z (ev (ixq sl23 Z Z Z (zao hd) Z (ev (ixq zcv Z Z Z (zao hc) Z (ev (ab 3008 zh1 ?_)))))));refine so zhZ ?_;apply tv;refine xaD (ι:=List (Ty)×List (Ty)) hk (fun x=>[(9,.d (.i (x.1.length:Int))),(7,.gl 1 ((x.1.map (zch (zcc (nth (nth w d).ctors c) k))).map Ty.c))]) [10,21,22,23,24,25,26,27,28,29,30,31,32,33,34,35,36,37,38,39,40,41,42,43,44] (fun x=>[(1,some (.tok (((x.1.map (zch (zcc (nth (nth w d).ctors c) k))).map Ty.c)).length 2))]) (fun x=>x.1++x.2=(nth (nth w d).ctors c).args) (fun x=>x.2.length) ([],(nth (nth w d).ctors c).args) og ⟨⟨_,Z,xaQ ?_⟩,⟨⟨_,Z,LeA.glg ?_⟩,I⟩⟩ ⟨zac ?_,I⟩ (fun x=>rfl) (fun x hg1=>?_);iterate 3 focus (rfl)
 obtain⟨pre,rest⟩:=x;dsimp only at hg1 ⊢;refine evc [] [] ?_;apply sq<;>intro h1 h1p h1s<;>(try simp only[Q] at h1p);rcases rest with _|⟨y,rest⟩
 ·exfalso;simp_all
 refine ixq za3 Z Z Z (zaL hg1) Z (ev (ab 3010 tz29 ?_));refine so ty29 ?_;apply tv;apply sq<;>intro h2 h2p h2s<;>(try simp only[Q] at h2p);refine wc zsZ zkj Z Z ?_;refine ev (so ty3 ?_);apply tv;refine si [0] [_] za3 tz29 ?_;refine ap za3 zz29 Z Z Z og (by have hl:=xam List.length hg1;simp at hl;simp;omega) ?_;refine ev (ar (xaj ((pre++[y],rest)) ⟨(by have hz:=hg1;rw[<-hz];simp),og,sx ⟨⟨_,Z,xaQ ?_⟩,⟨⟨_,Z,LeA.glg ?_⟩,I⟩⟩ ⟨zac ?_,I⟩⟩));iterate 3 focus ((simp[zch,xaJ,h1s,h1p,h2s,h2p];done))
 refine si [0] [_] za3 tz29 ?_;refine ap za3 zz29 Z Z Z og (by have hl:=xam List.length hg1;simp at hl;simp;omega) ?_;refine ev (ar (xaj ((pre++[y],rest)) ⟨(by have hz:=hg1;rw[<-hz];simp),og,sx ⟨⟨_,Z,xaQ ?_⟩,⟨⟨_,Z,LeA.glg ?_⟩,I⟩⟩ ⟨zac ?_,I⟩⟩));iterate 3 focus ((simp[zch,xaJ,h1s,h1p,h2s,h2p];done))
 have hrest:rest=[]:=by
  rcases rest with _|⟨a,b⟩
  ·rfl
  ·exfalso;have hz:=xam List.length (hg1);simp only[xaa,xab,xac] at hz;omega
 subst hrest;focus (refine rn0 (r1 Z) (.gld ?_);all_goals (simp[<-hg1,zcc,h1s,h1p]))
mutual
def zpK:Val->Val->Bool
 | .mk a n ks,.mk b m ls=>decide (a=b)&&(decide (n=m)&&zlv ks ls)
def zlv:List Val->List Val->Bool
 | [],[]=>true
 |x::r,y::s=>zpK x y&&zlv r s
 |_,_=>false
end
mutual
def Val.ok:Val->Prop
 | .mk _ _ ks=>ks.length<=1000000000000/\Vals.ok ks
def Vals.ok:List Val->Prop
 | []=>True
 |v::r=>v.ok/\Vals.ok r
end
theorem xbj:∀ {l:List Val},Vals.ok l->∀v,v∈l->v.ok
 |x::r,h,v,hv=>by
  simp only[Vals.ok] at h;rcases List.mem_cons.1 hv with rfl|hv
  ·exact h.1
  ·exact xbj h.2 v hv
mutual
def Val.size:Val->Nat
 | .mk _ _ ks=>1+Vals.size ks
def Vals.size:List Val->Nat
 | []=>0
 |v::r=>v.size+Vals.size r
end
theorem xbl:∀ {l:List Val}{v:Val},v∈l->v.size<=Vals.size l
 |x::r,v,hv=>by
  simp only[Vals.size];rcases List.mem_cons.1 hv with rfl|hv
  ·omega
  ·have:=xbl hv;omega
theorem zmb {l:List Val}{i:Nat} (h:i<l.length):(Val.cs l)[i]?=some (nth l i).cc:=by
 rw[xbf,<-xbc];exact zao h
theorem xbh (v:Val):v.ok↔v.kids.length<=1000000000000/\Vals.ok v.kids:=by cases v;rfl
theorem xbi (v:Val):v.size=1+Vals.size v.kids:=by cases v;rfl
theorem zn6 {w:List Data}{a b:Int}:FnD Tryz.prog 78 [.d (zap w),.agg [.d (.i a),.d (.i b)]] [] (.d (.bool (zbJ w.length ⟨a,b⟩&&decide (0<=b)))) []:=by
 refine bd Tryz.f78 14 [] [] fun _ _ _ _ hk=>?_;refine bx 3003 ?_;refine ev (wc zpX zia Z Z ?_);refine ev ?_;apply sq<;>intro h1 h1p h1s<;>(try simp only[Q] at h1p);focus (refine rq ?_;all_goals ((simp[h1s,h1p];done)))
 focus (refine rq ?_;all_goals ((simp[h1s,h1p];done)))
theorem zfS {w:List Data}{a b:Int} (hs:WSmall w):FnD Tryz.prog 86 [.d (zap w),.agg [.d (.i a),.d (.i b)]] [] (.d (.bool (zbc w&&(zbJ w.length ⟨a,b⟩&&decide (0<=b))))) []:=by
 refine bd Tryz.f86 12 [] [] fun _ _ _ _ hk=>?_;refine bx 3003 ?_;refine ev (wc ztx (zja hs) Z Z ?_);refine ev ?_;apply sq<;>intro h1 h1p h1s<;>(try simp only[Q] at h1p);refine Walk.call (cr:=[]) ztQ zn6 Z (.some Z Z h1) Z Z (LeL.refl _) I Z Z Z (evs [] [(7,true)] ?_ ⟨⟨_,Z,h1⟩,I⟩);focus (refine rq ?_;all_goals ((simp[h1s,h1p];done)))
 focus (refine rq ?_;all_goals ((simp[h1s,h1p];done)))
theorem zlM {n:Int}:FnD Tryz.prog 158 [.d (.i n)] [] (.agg [.d (.i (-1)),.d (.i n),.d (zbg [])]) []:=by
 refine bd Tryz.f158 5 [] [] fun _ _ _ _ hk=>?_;refine ab 3002 zbM ?_;apply tv;refine bu [0,1] [_,_] zf9 ?_;refine so zb6 ?_;apply tv;focus (refine rn0 (ra zb6) (.agg (qeen ?_ ?_ ?_));all_goals (rfl))
def Pat.op:Pat->Int | .mk a0 _ _ _ _ _=>a0
def Pat.ctor:Pat->Int | .mk _ a1 _ _ _ _=>a1
def Pat.n:Pat->Int | .mk _ _ a2 _ _ _=>a2
def Pat.m:Pat->Int | .mk _ _ _ a3 _ _=>a3
def Pat.var:Pat->Int | .mk _ _ _ _ a4 _=>a4
def Pat.kids:Pat->List Pat | .mk _ _ _ _ _ k=>k
abbrev Pat.cc (v:Pat):List D:=[.i v.op,.i v.ctor,.i v.n,.i v.m,.i v.var,.sl (Pat.cs v.kids)]
theorem xaS (v:Pat):v.c=v.cc:=by cases v;rfl
theorem Pat.eta (v:Pat):Pat.mk v.op v.ctor v.n v.m v.var v.kids=v:=by cases v;rfl
theorem xaT {pre:List Pat}{x:Pat}{rest xs:List Pat} (h:pre++x::rest=xs):(Pat.cs xs)[pre.length]?=some x.cc:=by rw[xaV,<-xaS];exact zaL h
mutual
def zfp:Pat->Pat->Bool
 | .mk a0 a1 a2 a3 a4 ks,.mk b0 b1 b2 b3 b4 ls=>decide (a0=b0)&&(decide (a1=b1)&&(decide (a2=b2)&&(decide (a3=b3)&&(decide (a4=b4)&&zbZ ks ls))))
def zbZ:List Pat->List Pat->Bool
 | [],[]=>true
 |x::r,y::s=>zfp x y&&zbZ r s
 |_,_=>false
end
mutual
def Pat.ok:Pat->Prop
 | .mk _ _ _ _ _ ks=>ks.length<=1000000000000/\Pats.ok ks
def Pats.ok:List Pat->Prop
 | []=>True
 |v::r=>v.ok/\Pats.ok r
end
theorem xa0:∀ {l:List Pat},Pats.ok l->∀v,v∈l->v.ok
 |x::r,h,v,hv=>by
  simp only[Pats.ok] at h;rcases List.mem_cons.1 hv with rfl|hv
  ·exact h.1
  ·exact xa0 h.2 v hv
mutual
def Pat.size:Pat->Nat
 | .mk _ _ _ _ _ ks=>1+Pats.size ks
def Pats.size:List Pat->Nat
 | []=>0
 |v::r=>v.size+Pats.size r
end
theorem xa2:∀ {l:List Pat}{v:Pat},v∈l->v.size<=Pats.size l
 |x::r,v,hv=>by
  simp only[Pats.size];rcases List.mem_cons.1 hv with rfl|hv
  ·omega
  ·have:=xa2 hv;omega
theorem zla:∀ {a b:List Pat},a.length≠b.length->zbZ a b=false
 | [],[],h=>by simp at h
 | [],_::_,_=>by simp[zbZ]
 |_::_,[],_=>by simp[zbZ]
 |x::r,y::s,h=>by simp[zbZ,zla (a:=r) (b:=s) (by simpa using h)]
theorem zaS {l:List Pat}{i:Nat} (h:i<l.length):(Pat.cs l)[i]?=some (nth l i).cc:=by
 rw[xaV,<-xaS];exact zao h
theorem xaY (v:Pat):v.ok↔v.kids.length<=1000000000000/\Pats.ok v.kids:=by cases v;rfl
theorem xaZ (v:Pat):v.size=1+Pats.size v.kids:=by cases v;rfl
theorem zrr (v w:Pat):zfp v w=(decide (v.op=w.op)&&(decide (v.ctor=w.ctor)&&(decide (v.n=w.n)&&(decide (v.m=w.m)&&(decide (v.var=w.var)&&zbZ v.kids w.kids))))):=by cases v;cases w;rfl
theorem zkd {a b:List Pat}{i:Nat} (h:i<a.length) (h2:zfp (nth a i) (nth b i)=false):zbZ a b=false:=by
 induction i generalizing a b with
 |zero=>
  cases a with
  |nil=>simp at h
  |cons x r=>
   cases b with
   |nil=>simp[zbZ]
   |cons y s=>simp[nth] at h2;simp[zbZ,h2]
 |succ i ih=>
  cases a with
  |nil=>simp at h
  |cons x r=>
   cases b with
   |nil=>simp[zbZ]
   |cons y s=>simp only[zbZ];rw[ih (a:=r) (b:=s) (by simpa using h) (by simpa [nth] using h2)];simp
theorem zlb {a b:List Pat} (hl:a.length=b.length) (h:∀i,i<a.length->zfp (nth a i) (nth b i)=true):zbZ a b=true:=by
 induction a generalizing b with
 |nil=>cases b with
  |nil=>simp[zbZ]
  |cons y s=>simp at hl
 |cons x r ih=>cases b with
  |nil=>simp at hl
  |cons y s=>
   have h0:=h 0 og;simp only[zbZ];rw[ih (by simpa using hl) (fun i hi=>by simpa [nth] using h (i+1) (by simpa using hi))];simpa [nth] using h0
mutual
theorem zk9:∀v:Pat,zfp v v=true
 | .mk _ _ _ _ _ ks=>by simp[zfp,zjP ks]
theorem zjP:∀l:List Pat,zbZ l l=true
 | []=>rfl
 |v::r=>by simp[zbZ,zk9 v,zjP r]
end
theorem zh9 (m:Bool) (l:List Pat) (y:Pat):zaK m (Pat.cs (l++[y]))=zaK m (Pat.cs l)++[.d (.i y.op),.d (.i y.ctor),.d (.i y.n),.d (.i y.m),.d (.i y.var),.own m (zau y.kids)]:=by
 rw[xaV,xag,<-xaV,zk8];congr 1
 cases y;rfl
theorem Pat.c_len (v:Pat):v.c.length=6:=by cases v;rfl
theorem xaX {l:List Pat}:∀x,x∈Pat.cs l->x.length=6:=by
 intro x hx;rw[xaV] at hx;obtain⟨y,_,rfl⟩:=List.mem_map.1 hx;exact y.c_len
theorem zgu (m:Bool) (l:List Pat):(zaK m (Pat.cs l)).length=l.length*6:=by
 rw[zcW (k:=6) xaX,xaW]
mutual
def mPat:Pat->Nat
 | .mk _ _ _ _ _ ks=>zeF ks
def zeF:List Pat->Nat
 | []=>0
 |v::r=>1+mPat v+zeF r
end
theorem zsm (v:Pat):mPat v=zeF v.kids:=by cases v;rfl
theorem znI:∀l:List Pat,zeF l=l.length+(l.map mPat).sum
 | []=>rfl
 |v::r=>by simp only[zeF,znI r,xab,xaf,List.sum_cons];omega
theorem ziP {l:List Pat}{left:Int} (h:l.length<=1000000000000) (k0:0<=left) (k1:left<=1000000000000)
  (hf:∀v∈l,∀q:Int,0<=q->q<=1000000000000->FnD Tryz.prog 83 [.agg [.d (.i v.op),.d (.i v.ctor),.d (.i v.n),.d (.i v.m),.d (.i v.var),.d (zau v.kids)],.d (.i q)] [] (.d (.i (szr q (mPat v)))) []):
  FnD Tryz.prog 140 [.d (zau l),.d (.i left)] [] (.d (.i (szr left (zeF l)))) []:=by
 have z:=zbL (left:=left) (zeF l);rw[znI] at z ⊢;refine bd Tryz.f140 27 [] [] fun _ _ _ _ hk=>?_;refine ar ?_ (by first|(constructor<;>omega)|(constructor<;>simp[xaW]<;>omega));apply sq<;>intro h1 h1p h1s<;>(try simp only[Q,xaW] at h1p);refine rq ?_;rotate_left;refine xaD (ι:=List (Pat)×List (Pat)×(Int)) hk (fun x=>[(5,.d (.i (x.1.length:Int))),(1,.d (.i x.2.2))]) [4,12,13,14,15,16,17,18,19,20,21,22,23,24,25] (fun x=>[]) (fun x=>x.1++x.2.1=l/\x.2.2=left-l.length-(x.1.map mPat).sum/\0<=x.2.2) (fun x=>x.2.1.length) ([],l,left-l.length) ⟨by simp,by simp,by simp[xaW] at *;omega⟩ ⟨⟨_,Z,xaQ ?_⟩,⟨⟨_,Z,xaQ ?_⟩,I⟩⟩ I (fun x=>rfl) (fun x hg1=>?_);iterate 2 focus (first|rfl|(simp;done)|(simp[xaW];done))
 obtain⟨pre,rest,v⟩:=x;dsimp only at hg1 ⊢;refine evc [] [] ?_;apply sq<;>intro h2 h2p h2s<;>(try simp only[Q,xaW] at h2p);rcases rest with _|⟨y,rest⟩
 ·exfalso;simp_all
 refine ixq sl90 Z Z Z (xaT hg1.1) Z (ev (wc zrP (hf y (by rw[<-hg1.1];simp) _ od od) Z Z ?_));refine ev ?_;apply sq<;>intro h3 h3p h3s<;>(try simp only[Q,xaW] at h3p);refine rq ?_;rotate_left;refine ar ?_ (by first|(constructor<;>omega)|(constructor<;>simp[xaW]<;>omega));refine xaj ((pre++[y],rest,szr v (mPat y))) ⟨⟨(by have hz:=hg1.1;rw[<-hz];simp),(by have e:=zc2 (f:=mPat) hg1.1;have z3:=zbL (left:=v) (mPat y);simp;omega)⟩,og,sx ⟨⟨_,Z,xaQ ?_⟩,⟨⟨_,Z,xaQ ?_⟩,I⟩⟩ I⟩;iterate 2 focus (first|rfl|(simp;done)|(simp[xaW];done))
 have hrest:rest=[]:=by
  rcases rest with _|⟨a,b⟩
  ·rfl
  ·exfalso;have hz:=xam List.length (hg1.1);simp only[xaa,xab,xac] at hz;omega
 subst hrest;refine rq ?_;rotate_left;all_goals (refine xam D.i ?_;first|omega|(have e:=zc2 (f:=mPat) hg1.1;have z3:=zbL (left:=v) (mPat y);simp only[xaW] at *;omega)|(rw[xaq] at hg1;rw[hg1.1] at hg1;simp only[xaW] at *;omega)|(simp only[xaW] at *;omega))
theorem zfO:∀(n:Nat){v:Pat}{left:Int},v.size<=n->v.ok->0<=left->left<=1000000000000->FnD Tryz.prog 83 [.agg [.d (.i v.op),.d (.i v.ctor),.d (.i v.n),.d (.i v.m),.d (.i v.var),.d (zau v.kids)],.d (.i left)] [] (.d (.i (szr left (mPat v)))) []
 |0,v,left,h,_,_,_=>by rw[xaZ] at h;omega
 |n+1,v,left,h,hok,k0,k1=>by
  rw[xaZ] at h;rw[xaY] at hok;rw[zsm];have z:=zbL (left:=left) (zeF v.kids);refine bd Tryz.f83 12 [] [] fun _ _ _ _ hk=>?_;refine bx 3002 ?_;refine ev (wc zsK (ziP hok.1 k0 k1 (fun x hx q q0 q1=>zfO n (by have:=xa2 hx;omega) (xa0 hok.2 x hx) q0 q1)) Z Z ?_);refine ev ?_;apply sq<;>intro h1 h1p h1s<;>(try simp only[Q] at h1p);refine rq ?_;rotate_left;refine rq ?_;rotate_left;all_goals (refine xam D.i ?_;omega)
theorem oe{p:Prop}(h:p:=by first|rfl|(simp only[zaq,occH,occE,Res.ids,xai,List.nil_append,AV.idsL,AV.ids,zah,zaj,zal,zaF,xaf,List.map_nil,upC];rfl)):p:=h
theorem o8{p:Prop}(h:p:=by simp[xaW];omega):p:=h
theorem ziQ {l:List Pat} (h:l.length<=1000000000000)
  (hf:∀v∈l,FnD Tryz.prog 94 [.agg [.d (.i v.op),.d (.i v.ctor),.d (.i v.n),.d (.i v.m),.d (.i v.var),.d (zau v.kids)]] [] (.agg [.d (.i v.op),.d (.i v.ctor),.d (.i v.n),.d (.i v.m),.d (.i v.var),.ms 66 v.kids.length]) [(66,some (.tree (zaK false (Pat.cs v.kids))))]):
  FnD Tryz.prog 149 [.d (zau l)] [] (.ms 66 l.length) [(66,some (.tree (zaK false (Pat.cs l))))]:=by
 have hf2:∀v∈l,FnD Tryz.prog 94 [.agg [.d (.i v.op),.d (.i v.ctor),.d (.i v.n),.d (.i v.m),.d (.i v.var),.d (zau v.kids)]] [] (.agg [.d (.i v.op),.d (.i v.ctor),.d (.i v.n),.d (.i v.m),.d (.i v.var),.ms 67 v.kids.length]) [(67,some (.tree (zaK false (Pat.cs v.kids))))]:=fun v hv=>FnD.out_ren (zaj _ _) rfl (hf v hv) 67;refine bd Tryz.f149 23 [] [2,4] fun _ _ _ _ hk=>?_;refine xbN (id:=66) sl72 tz74 Z oj (zdT Z) .none Z Z Z o8 o8 Z Z Z ?_;refine ev (CWp.boxTree 66 false Z Z (zlA _ _ _) (evc [] [] (xaD (ι:=List (Pat)×List (Pat)) hk (fun x=>[(4,.d (.i (x.1.length:Int)))]) [8,9,10,11,12,13,14,15,16,17,18,19,20,21] (fun x=>[(66,some (.tree (zaK false (Pat.cs x.1)++za1 x.2.length [.d (.i 0),.d (.i 0),.d (.i 0),.d (.i 0),.d (.i 0),.own false (.sl [])])))]) (fun x=>x.1++x.2=l) (fun x=>x.2.length) ([],l) og ⟨⟨_,Z,xaQ ?_⟩,I⟩ ⟨?_,I⟩ (fun x=>rfl) (fun x hg1=>?_))));focus (first|rfl|(simp;done)|(simp_all;done)|omega)
 focus (first|rfl|(show some (Res.tree _)=some (Res.tree _);rw[zh9,xar];rfl)|(show some (Res.tree _)=some (Res.tree _);simp[ziV,xaW];rfl))
 obtain⟨pre,rest⟩:=x;dsimp only at hg1 ⊢;refine evc [] [2,4] ?_;apply sq<;>intro h1 h1p h1s<;>(try simp only[Q,xaW] at h1p);rcases rest with _|⟨y,rest⟩
 ·exfalso;simp_all
 refine ixq sl90 Z Z Z (xaT hg1) Z (ev (Walk.call (cr:=[67]) zrS (hf2 y (by rw[<-hg1];simp)) Z .none Z Z (LeL.refl _) I Z (by first|rfl|(simp only[zbi,List.all_cons,List.all_nil,zc5,zcC,AV.idsL,AV.ids,zah,zaj,xaf,List.map_nil];rfl)) oe ?_));refine xbG sl72 .none Z Z Z Z (by first|omega|(simp[xaW];omega)) ?_;refine Walk.storeT ty74 .none Z Z Z Z Z Z og ((zqH (zgu false _) Z)) ?_;apply tv;refine CWp.merge hk 66 (pre.length*6+5) 67 6 _ Z (zq7 (zgu false _) Z) (by simp[zoP,xaW]) Z xaX Z Z (znT (zgu false _) (znU Z)) ?_;refine evc [] [] (ar (xaj ((pre++[y],rest)) ⟨(by have hz:=hg1;rw[<-hz];simp),og,sx ⟨⟨_,Z,xaQ ?_⟩,I⟩ ⟨?_,I⟩⟩));focus (first|rfl|(simp;done)|(simp_all;done)|omega)
 focus (first|rfl|(show some (Res.tree _)=some (Res.tree _);rw[zh9,xar];rfl)|(show some (Res.tree _)=some (Res.tree _);simp[ziV,xaW];rfl))
 have hrest:rest=[]:=by
  rcases rest with _|⟨a,b⟩
  ·rfl
  ·exfalso;have hz:=xam List.length (hg1);simp only[xaa,xab,xac] at hz;omega
 subst hrest;refine rn [(66,some (.tree (zaK false (Pat.cs l))))] (r1 Z) (xaR ?_) ⟨Z,Z⟩ (SubH.get ⟨?_,I⟩) (zaX Z);rotate_left 2;all_goals (first|((first|rfl|(simp[xaW];done));done)|(first|rfl|(rw[xaq] at hg1;subst hg1;show some (Res.tree _)=some (Res.tree _);simp[za1];done)))
theorem zfP:∀(n:Nat){v:Pat},v.size<=n->v.ok->FnD Tryz.prog 94 [.agg [.d (.i v.op),.d (.i v.ctor),.d (.i v.n),.d (.i v.m),.d (.i v.var),.d (zau v.kids)]] [] (.agg [.d (.i v.op),.d (.i v.ctor),.d (.i v.n),.d (.i v.m),.d (.i v.var),.ms 66 v.kids.length]) [(66,some (.tree (zaK false (Pat.cs v.kids))))]
 |0,v,h,_=>by rw[xaZ] at h;omega
 |n+1,v,h,hok=>by
  rw[xaZ] at h;rw[xaY] at hok;refine bd Tryz.f94 24 [] [] fun _ _ _ _ hk=>?_;refine bx 3001 ?_;refine ab 3002 tz74 ?_;apply tv;refine ab 3003 tz74 ?_;apply tv;refine so ty3 ?_;apply tv;refine so ty3 ?_;apply tv;refine so ty3 ?_;apply tv;refine so ty3 ?_;apply tv;refine so ty3 ?_;apply tv;refine Walk.call (cr:=[66]) zsO (ziQ hok.1 (fun x hx=>zfP n (by have:=xa2 hx;omega) (xa0 hok.2 x hx))) Z .none Z Z (LeL.refl _) I Z (by first|rfl|(simp only[zbi,List.all_cons,List.all_nil,zc5,zcC,AV.idsL,AV.ids,zah,zaj,xaf,List.map_nil];rfl)) oe ?_;refine ev (so ty72 ?_);apply tv;refine so ty74 ?_;apply tv;focus (refine rn [(66,some (.tree (zaK false (Pat.cs v.kids))))] (ra ty74) (.agg (.cons (.eqd ?_) (.cons (.eqd ?_) (.cons (.eqd ?_) (.cons (.eqd ?_) (.cons (.eqd ?_) (.cons (xaR ?_) .nil))))))) ⟨Z,Z⟩ (SubH.get ⟨Z,I⟩) (zaX Z);all_goals (first|rfl|(simp[];done)|(simp_all;done)|(simp_all;omega)|omega))
theorem zjB {v:Pat} (hok:v.ok):FnD Tryz.prog 94 [.agg [.d (.i v.op),.d (.i v.ctor),.d (.i v.n),.d (.i v.m),.d (.i v.var),.d (zau v.kids)]] [] (.agg [.d (.i v.op),.d (.i v.ctor),.d (.i v.n),.d (.i v.m),.d (.i v.var),.d (zau v.kids)]) []:=
 FnD.out_frz (k:=6) xaX (by simp[zhS,zhS.soleNL,xaW]) (zfP _ (Nat.le_refl _) hok)
theorem ziO {l m:List Pat} (h:l.length<=1000000000000)
  (hf:∀a∈l,∀b:Pat,FnD Tryz.prog 109 [.agg [.d (.i a.op),.d (.i a.ctor),.d (.i a.n),.d (.i a.m),.d (.i a.var),.d (zau a.kids)],.agg [.d (.i b.op),.d (.i b.ctor),.d (.i b.n),.d (.i b.m),.d (.i b.var),.d (zau b.kids)]] [] (.d (.bool (zfp a b))) []):
  FnD Tryz.prog 164 [.d (zau l),.d (zau m)] [] (.d (.bool (zbZ l m))) []:=by
 refine bd Tryz.f164 27 [] [] fun _ _ _ _ hk=>?_;apply sq<;>intro h1 h1p h1s<;>(try simp only[Q,xal,xaW] at h1p);refine rq ?_;rotate_left;refine xaD (ι:=Nat) hk (fun i=>[(5,.d (.i (i:Int)))]) [4,11,12,13,14,15,16,17,18,19,20,21,22,23,24,25,26] (fun i=>[]) (fun i=>i<=l.length/\∀i',i'<i->zfp (nth l i') (nth m i')=true) (fun i=>l.length-i) 0 ⟨by omega,fun _ h=>absurd h od⟩ ⟨⟨_,Z,xaQ ?_⟩,I⟩ I (fun x=>rfl) (fun i hg1=>?_);focus (first|rfl|(simp;done)|(simp_all;done)|omega)
 refine evc [] [] ?_;apply sq<;>intro h2 h2p h2s<;>(try simp only[Q,xal,xaW] at h2p);refine ixq sl72 Z Z Z (zaS od) Z ?_;refine evd [] [] (ixq sl72 Z Z Z (zaS od) Z ?_);refine evd [] [] (wc zpU (hf _ (zai od) _) Z Z ?_);refine evd [] [] (dr ?_);apply sq<;>intro h3 h3p h3s<;>(try simp only[Q,xal,xaW] at h3p);refine rq ?_;rotate_left;refine ar (xaj (i+1) ⟨⟨by omega,zaR hg1.2 ol⟩,od,sx ⟨⟨_,Z,xaQ ?_⟩,I⟩ I⟩);focus (first|rfl|(simp;done)|(simp_all;done)|omega)
 refine rq ?_;rotate_left;all_goals (refine xam D.bool ?_;first|(refine(zla ?_).symm;omega)|(refine(zlb od (fun x hx=>hg1.2 x od)).symm)|(refine(zkd (i:=i) od ?_).symm;assumption))
theorem zfN:∀(n:Nat){a b:Pat},a.size<=n->a.ok->FnD Tryz.prog 109 [.agg [.d (.i a.op),.d (.i a.ctor),.d (.i a.n),.d (.i a.m),.d (.i a.var),.d (zau a.kids)],.agg [.d (.i b.op),.d (.i b.ctor),.d (.i b.n),.d (.i b.m),.d (.i b.var),.d (zau b.kids)]] [] (.d (.bool (zfp a b))) []
 |0,a,b,h,_=>by rw[xaZ] at h;omega
 |n+1,a,b,h,hok=>by
  rw[xaZ] at h;rw[xaY] at hok;rw[zrr];refine bd Tryz.f109 36 [] [] fun _ _ _ _ hk=>?_;refine bx 3002 ?_;refine bx 3003 ?_;refine ev ?_;apply sq<;>intro h1 h1p h1s<;>(try simp only[Q] at h1p);focus (refine rq ?_;all_goals (refine xam D.bool ?_;simp[h1s,h1p]))
  apply sq<;>intro h2 h2p h2s<;>(try simp only[Q] at h2p);focus (refine rq ?_;all_goals (refine xam D.bool ?_;simp[h1s,h1p,h2s,h2p]))
  apply sq<;>intro h3 h3p h3s<;>(try simp only[Q] at h3p);focus (refine rq ?_;all_goals (refine xam D.bool ?_;simp[h1s,h1p,h2s,h2p,h3s,h3p]))
  apply sq<;>intro h4 h4p h4s<;>(try simp only[Q] at h4p);focus (refine rq ?_;all_goals (refine xam D.bool ?_;simp[h1s,h1p,h2s,h2p,h3s,h3p,h4s,h4p]))
  apply sq<;>intro h5 h5p h5s<;>(try simp only[Q] at h5p);focus (refine rq ?_;all_goals (refine xam D.bool ?_;simp[h1s,h1p,h2s,h2p,h3s,h3p,h4s,h4p,h5s,h5p]))
  refine wc zsT (ziO hok.1 (fun x hx y=>zfN n (by have:=xa2 hx;omega) (xa0 hok.2 x hx))) Z Z ?_;refine ev ?_;apply sq<;>intro h6 h6p h6s<;>(try simp only[Q] at h6p);focus (refine rq ?_;all_goals (refine xam D.bool ?_;simp[h1s,h1p,h2s,h2p,h3s,h3p,h4s,h4p,h5s,h5p,h6s,h6p]))
  focus (refine rq ?_;all_goals (refine xam D.bool ?_;simp[h1s,h1p,h2s,h2p,h3s,h3p,h4s,h4p,h5s,h5p,h6s,h6p]))
mutual
def Pat.szM:Pat->Int
 | .mk _ _ _ _ _ ks=>5+Pats.szM ks
def Pats.szM:List Pat->Int
 | []=>0
 |v::r=>v.szM+Pats.szM r
end
mutual
def Pat.one (k:Int):Pat->Pat
 | .mk _ _ _ _ _ ks=> .mk k (k+1) (k+1+1) (k+1+1+1) (k+1+1+1+1) (Pats.one (k+1+1+1+1+1) ks)
def Pats.one (k:Int):List Pat->List Pat
 | []=>[]
 |v::r=>v.one k::Pats.one (k+v.szM) r
end
mutual
theorem Pat.szM_nn:∀v:Pat,0<=v.szM
 | .mk _ _ _ _ _ ks=>by have:=xa5 ks;simp only[Pat.szM];omega
theorem xa5:∀l:List Pat,0<=Pats.szM l
 | []=>by simp[Pats.szM]
 |v::r=>by have:=Pat.szM_nn v;have:=xa5 r;simp only[Pats.szM];omega
end
mutual
theorem Pat.szM_le:∀v:Pat,v.szM<=5+5*(mPat v:Int)
 | .mk _ _ _ _ _ ks=>by have:=xa4 ks;simp only[Pat.szM,mPat];omega
theorem xa4:∀l:List Pat,Pats.szM l<=5*(zeF l:Int)
 | []=>by simp[Pats.szM,zeF]
 |v::r=>by have:=Pat.szM_le v;have:=xa4 r;simp only[Pats.szM,zeF];omega
end
def TyIn (n:Nat) (t:Ty):Prop:=t.data = -1\/∃d:Nat,t.data=d/\d<n
structure WT (w:List Data):Prop where
 small:WSmall w
 arg:∀d∈w,∀c∈d.ctors,∀t∈c.args,TyIn w.length t
def zaB (w:List Data) (t:Ty) (c:Int):List Ty:=
 let x:=nth (nth w t.data.toNat).ctors c.toNat
 x.args.map (zch (zcc x t.index))
def zaG (w:List Data) (t:Ty):List Int:=zaQ t.index 0 (nth w t.data.toNat).ctors
def cap (x:Int):Int:=if 401<x then 401 else x
theorem zft {x:Int} (h:0<=x):0<=cap x/\cap x<=401:=by unfold cap;split<;>omega
def zen (f:Ty->Int) (l:List Ty):Int:=l.foldl (fun n a=>cap (n*f a)) 1
def zed (g:Int->Int) (l:List Int):Int:=l.foldl (fun s c=>cap (s+g c)) 0
def zbh (w:List Data):Nat->Ty->Int
 |0,_=>0
 |n+1,t=>if t.data = -1 then 10 else zed (fun c=>zen (zbh w n) (zaB w t c)) (zaG w t)
theorem zjJ {g:Int->Int} (hg:∀c,0<=g c/\g c<=401) (l:List Int):0<=zed g l/\zed g l<=401:=by
 have key:∀(l:List Int) (s:Int),0<=s->s<=401->0<=l.foldl (fun s c=>cap (s+g c)) s/\l.foldl (fun s c=>cap (s+g c)) s<=401:=by
  intro l;induction l with
  |nil=>intro s h0 h1;exact⟨h0,h1⟩
  |cons c r ih=>
   intro s h0 h1;have h2:0<=s+g c:=by have:=hg c;omega
   exact ih _ (zft h2).1 (zft h2).2
 exact key l 0 od od
theorem zdu {f:Ty->Int} (hf:∀t,0<=f t/\f t<=401):∀(l:List Ty) (n:Int),0<=n->n<=401->0<=l.foldl (fun n a=>cap (n*f a)) n/\l.foldl (fun n a=>cap (n*f a)) n<=401
 | [],n,h0,h1=>⟨h0,h1⟩
 |a::r,n,h0,h1=>by
  have:=Int.mul_nonneg h0 (hf a).1;exact zdu hf r _ (zft this).1 (zft this).2
theorem zfu (w:List Data):∀(n:Nat) (t:Ty),0<=zbh w n t/\zbh w n t<=401
 |0,t=>by simp[zbh]
 |n+1,t=>by
  unfold zbh;split
  ·omega
  ·exact zjJ (fun c=>zdu (zfu w n) (zaB w t c) 1 od od) _
theorem zfI (k:Int):∀(l:List Ctor) (i:Nat) (c:Int),c∈zaQ k i l->∃j:Nat,c=(j:Int)/\i<=j/\j<i+l.length
 | [],i,c,h=>by simp[zaQ] at h
 |x::r,i,c,h=>by
  unfold zaQ at h;have go:c∈zaQ k (i+1) r->∃j:Nat,c=(j:Int)/\i<=j/\j<i+(x::r).length:=fun h=>by
   obtain⟨j,h1,h2,h3⟩:=zfI k r (i+1) c h;exact⟨j,h1,by omega,by simp;omega⟩
  split at h
  ·rcases List.mem_cons.1 h with h|h
   ·exact⟨i,h,by omega,by simp⟩
   ·exact go h
  ·exact go h
theorem zq2 {n:Nat}{k:Int}{t:Ty} (h:TyIn n t):TyIn n (zch k t):=by
 unfold zch;split
 ·exact h
 ·exact h
def PlaceIn (w:List Data) (d:Nat) (c:Int):Prop:=∃j:Nat,c=j/\j<(nth w d).ctors.length
theorem zbF {w:List Data}{d:Nat}{k c:Int} (h:c∈zaG w ⟨d,k⟩):PlaceIn w d c:=by
 obtain⟨j,h1,_,h3⟩:=zfI _ _ _ _ h;exact⟨j,h1,by simpa using h3⟩
theorem zds {w:List Data} (hw:WT w){d:Nat} (hd:d<w.length){k c:Int} (hc:PlaceIn w d c){t:Ty} (ht:t∈zaB w ⟨d,k⟩ c):TyIn w.length t:=by
 obtain⟨j,rfl,hj⟩:=hc;simp only[zaB,Int.toNat_natCast,List.mem_map] at ht;obtain⟨x,hx,rfl⟩:=ht;exact zq2 (hw.arg _ (zai hd) _ (zai hj) x hx)
theorem zc3 {w:List Data} (hw:WT w){d:Nat} (hd:d<w.length){k c:Int} (hc:PlaceIn w d c):(zaB w ⟨d,k⟩ c).length<=1000000000000:=by
 obtain⟨j,rfl,hj⟩:=hc;simp only[zaB,Int.toNat_natCast,xac];exact(hw.small.ctor _ (zai hd) _ (zai hj)).2
theorem zdX {w:List Data} (hw:WT w){d:Nat}{k:Int}:(zaG w ⟨d,k⟩).length<=1000000000000:=by
 have:=zfH k (nth w d).ctors 0;have:=hw.small.ctors d;simp only[zaG,Int.toNat_natCast];omega
theorem zef {w:List Data} (hw:WT w){d:Nat} (hd:d<w.length){k c:Int} (hc:PlaceIn w d c):FnD Tryz.prog 157 [.d (zap w),.agg [.d (.i d),.d (.i k)],.d (.i c)] [] (.d (zbn (zaB w ⟨d,k⟩ c))) []:=by
 obtain⟨j,rfl,hj⟩:=hc;exact zj3 hw.small hd hj
theorem zeA {w:List Data} (hw:WT w){d:Nat} (hd:d<w.length){k:Int}:FnD Tryz.prog 156 [.d (zap w),.agg [.d (.i d),.d (.i k)]] [] (.d (zaH (zaG w ⟨d,k⟩))) []:=zkO hw.small hd
theorem ze7 {w:List Data} (hw:WT w){d:Nat} (hd:d<w.length){k c:Int} (hc:PlaceIn w d c):FnD Tryz.prog 146 [.d (zap w),.agg [.d (.i d),.d (.i k)],.d (.i c)] [] (.d (zbn (zaB w ⟨d,k⟩ c))) []:=by
 obtain⟨j,rfl,hj⟩:=hc;exact zl4 hw.small hd hj
theorem zeN {w:List Data} (hw:WT w){d:Nat} (hd:d<w.length){k:Int}:FnD Tryz.prog 145 [.d (zap w),.agg [.d (.i d),.d (.i k)]] [] (.d (zaH (zaG w ⟨d,k⟩))) []:=zlj hw.small hd
theorem zdh {w:List Data} (hw:WT w):∀(n:Nat){a k m:Int},m=n->n<=1000->TyIn w.length ⟨a,k⟩->FnD Tryz.prog 101 [.d (zap w),.agg [.d (.i a),.d (.i k)],.d (.i m)] [] (.d (.i (zbh w n ⟨a,k⟩))) []
 |0,a,k,m,hm,_,_=>by
  refine bd Tryz.f101 50 [] [] fun _ _ _ _ hk=>?_;refine bx 3004 ?_;refine ev ?_;apply sq<;>intro h1 h1p h1s<;>(try simp only[Q] at h1p);refine rq ?_;rotate_left;exfalso;simp at h1;omega;all_goals (rfl)
 |n+1,a,k,m,hm,hn,ht=>by
  rcases ht with ha|⟨d,hd,hlt⟩
  ·have ha':a = -1:=ha;subst ha';refine bd Tryz.f101 50 [] [] fun _ _ _ _ hk=>?_;refine bx 3004 ?_;refine ev ?_;apply sq<;>intro h1 h1p h1s<;>(try simp only[Q] at h1p);exfalso;simp at h1;omega;apply sq<;>intro h2 h2p h2s<;>(try simp only[Q] at h2p);refine rq ?_;rotate_left;exact absurd h2 og;all_goals (simp[zbh])
  have hd':a=(d:Int):=hd;subst hd';refine bd Tryz.f101 50 [] [] fun _ _ _ _ hk=>?_;refine bx 3004 ?_;refine ev ?_;apply sq<;>intro h1 h1p h1s<;>(try simp only[Q] at h1p);exfalso;simp at h1;omega;apply sq<;>intro h2 h2p h2s<;>(try simp only[Q] at h2p);exfalso;simp at h2<;>omega;refine wc zkv (zeA hw hlt) Z Z ?_;refine ev (xaD (ι:=List (Int)×List (Int)) hk (fun x=>[(22,.d (.i (x.1.length:Int))),(7,.d (.i (zed (fun c=>zen (zbh w n) (zaB w ⟨d,k⟩ c)) x.1)))]) [9,10,12,23,24,25,26,27,28,29,30,31,32,33,34,35,36,37,38,39,40,41,42,43,44,45,46,47,48] (fun x=>[]) (fun x=>x.1++x.2=zaG w ⟨d,k⟩) (fun x=>x.2.length) ([],zaG w ⟨d,k⟩) og ⟨⟨_,Z,xaQ ?_⟩,⟨⟨_,Z,xaQ ?_⟩,I⟩⟩ I (fun x=>rfl) (fun x hg1=>?_));iterate 2 focus (rfl)
  obtain⟨pre,rest⟩:=x;dsimp only at hg1 ⊢;have hcl:=zdX hw (d:=d) (k:=k);refine evc [] [] ?_;apply sq<;>intro h3 h3p h3s<;>(try simp only[Q] at h3p);rcases rest with _|⟨c,rest⟩
  ·exfalso;simp_all
  refine ixq sl37 Z Z Z (zaL hg1) Z (ev (wc zno (zef hw hlt (zbF (k:=k) (by rw[<-hg1];simp))) Z Z ?_));refine ev (xaD (ι:=List (Ty)×List (Ty)) hk (fun x=>[(31,.d (.i (x.1.length:Int))),(10,.d (.i (x.1.foldl (fun n' a=>cap (n'*zbh w n a)) 1)))]) [12,32,33,34,35,36,37,38,39,40,41,42,43] (fun x=>[]) (fun x=>x.1++x.2=zaB w ⟨d,k⟩ c) (fun x=>x.2.length) ([],zaB w ⟨d,k⟩ c) og ⟨⟨_,Z,xaQ ?_⟩,⟨⟨_,Z,xaQ ?_⟩,I⟩⟩ I (fun x=>rfl) (fun x hg2=>?_));iterate 2 focus (rfl)
  obtain⟨pre2,rest2⟩:=x;dsimp only at hg2 ⊢;have hal:=zc3 hw hlt (k:=k) (zbF (k:=k) (c:=c) (by rw[<-hg1];simp));refine evc [] [] ?_;apply sq<;>intro h4 h4p h4s<;>(try simp only[Q] at h4p);rcases rest2 with _|⟨y,rest2⟩
  ·exfalso;simp_all
  refine ixq za3 Z Z Z (zaL hg2) Z (ev (ab 3012 tz29 ?_));refine so ty29 ?_;apply tv;refine ar ?_ (by(constructor<;>omega));refine wc zni (zdh hw n (a:=y.data) (k:=y.index) od od (zds hw hlt (k:=k) (zbF (k:=k) (c:=c) (by rw[<-hg1];simp)) (t:=y) (by rw[<-hg2];simp))) Z Z ?_;refine ev (ar ?_ (by(have b1:=zdu (zfu w n) pre2 1 od od;have b2:=zfu w n y;have b3:=Int.mul_nonneg b1.1 b2.1;have b4:=Int.mul_le_mul b1.2 b2.2 b2.1 od;constructor<;>(try simp only[xa9])<;>omega)));refine xbO .none Z Z Z (ev (ar ?_ (by(constructor<;>omega))));refine xaj ((pre2++[y],rest2)) ⟨(by have hz:=hg2;rw[<-hz];simp),og,sx ⟨⟨_,Z,xaQ ?_⟩,⟨⟨_,Z,xaQ ?_⟩,I⟩⟩ I⟩;iterate 2 focus (first|(simp;done)|(simp only[List.foldl_append,List.foldl_cons,List.foldl_nil];rfl))
  have hrest2:rest2=[]:=by
   rcases rest2 with _|⟨a,b⟩
   ·rfl
   ·exfalso;have hz:=xam List.length (hg2);simp only[xaa,xab,xac] at hz;omega
  subst hrest2;refine ar ?_ (by(have b1:=zdu (zfu w n) pre2 1 od od;have b2:=zjJ (g:=fun c=>zen (zbh w n) (zaB w ⟨d,k⟩ c)) (fun c=>zdu (zfu w n) (zaB w ⟨d,k⟩ c) 1 od od) pre;constructor<;>omega));refine xbO .none Z Z Z (ev (ar ?_ (by(constructor<;>omega))))
  (rw[xaq] at hg2)
  refine xaj ((pre++[c],rest)) ⟨(by have hz:=hg1;rw[<-hz];simp),og,sx ⟨⟨_,Z,xaQ ?_⟩,⟨⟨_,Z,xaQ ?_⟩,I⟩⟩ I⟩;iterate 2 focus (first|(simp;done)|(simp only[zed,List.foldl_append,List.foldl_cons,List.foldl_nil,zen,<-hg2];rfl))
  have hrest:rest=[]:=by
   rcases rest with _|⟨a,b⟩
   ·rfl
   ·exfalso;have hz:=xam List.length (hg1);simp only[xaa,xab,xac] at hz;omega
  subst hrest;refine rq ?_;rotate_left;all_goals ((rw[xaq] at hg1);subst hg1;(try simp[zbh])<;>omega)
def zc0 (w:List Data):List Str:=w.flatMap fun d=>d.ctors.map (·.name)
structure WV (w:List Data):Prop where
 len:w.length<=4
 data:∀d∈w,zbd d.name=true/\1<=d.ctors.length/\d.ctors.length<=4
 ctor:∀d∈w,∀c∈d.ctors,zbw w.length c=true
 names:(w.map (·.name)).Nodup
 cnames:(zc0 w).Nodup
theorem zgZ (n:Nat):∀(l:List Ctor) (met met':List Str),zcx n met l=some met'↔met'=met++l.map (·.name)/\(∀c∈l,zbw n c=true)/\(l.map (·.name)).Nodup/\∀c∈l,c.name∉met
 | [],met,met'=>by
  unfold zcx;simp only[xae,List.map_nil,xaq];exact⟨fun h=>⟨h.symm,by simp,by simp,by simp⟩,fun h=>h.1.symm⟩
 |c::r,met,met'=>by
  unfold zcx;by_cases h:(zbw n c&& !decide (c.name∈met))=true
  ·rw[if_pos h,zgZ n r];simp only[xad,Bool.not_eq_true',decide_eq_false_iff_not] at h;obtain⟨h1,h2⟩:=h;constructor
   ·rintro ⟨rfl,q1,q2,q3⟩
    refine⟨by simp,fun x hx=>?_, ?_,fun x hx=>?_⟩
    ·rcases List.mem_cons.1 hx with rfl|hx
     ·exact h1
     ·exact q1 x hx
    ·simp only[xaf,List.nodup_cons];refine⟨fun hm=>?_,q2⟩;obtain⟨x,hx,he⟩:=List.mem_map.1 hm;exact q3 x hx (by rw[he];simp)
    ·rcases List.mem_cons.1 hx with rfl|hx
     ·exact h2
     ·intro hm;exact q3 x hx (by simp[hm])
   ·rintro ⟨rfl,q1,q2,q3⟩
    simp only[xaf,List.nodup_cons] at q2;refine⟨by simp,fun x hx=>q1 x (List.mem_cons_of_mem _ hx),q2.2,fun x hx hm=>?_⟩;simp only[List.mem_append,List.mem_singleton] at hm;rcases hm with hm|hm
    ·exact q3 x (List.mem_cons_of_mem _ hx) hm
    ·exact q2.1 (hm ▸ List.mem_map.2 ⟨x,hx,Z⟩)
  ·rw[if_neg h];constructor
   ·intro h';cases h'
   ·rintro ⟨_,q1,_,q3⟩
    exfalso;apply h;simp[q1 c og,q3 c og]
theorem zg0 (n:Nat):∀(l:List Data) (met datas:List Str),zbs n met datas l=true↔
  (∀d∈l,zbd d.name=true/\1<=d.ctors.length/\d.ctors.length<=4)/\(∀d∈l,∀c∈d.ctors,zbw n c=true)/\(l.map (·.name)).Nodup/\(∀d∈l,d.name∉datas)/\
   (zc0 l).Nodup/\∀s∈zc0 l,s∉met
 | [],met,datas=>by simp[zbs,zc0]
 |d::r,met,datas=>by
  have hcn:zc0 (d::r)=d.ctors.map (·.name)++zc0 r:=rfl;have hw:zat d.ctors.length 1 4=true↔1<=d.ctors.length/\d.ctors.length<=4:=by simp[zat];omega
  unfold zbs;simp only[xad,Bool.not_eq_true',decide_eq_false_iff_not,hw];constructor
  ·rintro ⟨⟨⟨h1,h2⟩,h3⟩,h4⟩
   split at h4
   ·rename_i met' hm;obtain⟨rfl,c1,c2,c3⟩:=(zgZ n _ _ _).1 hm;obtain⟨q1,q2,q3,q4,q5,q6⟩:=(zg0 n r _ _).1 h4;refine⟨fun x hx=>?_,fun x hx=>?_, ?_,fun x hx=>?_, ?_,fun s hs=>?_⟩
    ·rcases List.mem_cons.1 hx with rfl|hx
     ·exact⟨h1,h3⟩
     ·exact q1 x hx
    ·rcases List.mem_cons.1 hx with rfl|hx
     ·exact c1
     ·exact q2 x hx
    ·simp only[xaf,List.nodup_cons];refine⟨fun hm=>?_,q3⟩;obtain⟨x,hx,he⟩:=List.mem_map.1 hm;exact q4 x hx (by rw[he];simp)
    ·rcases List.mem_cons.1 hx with rfl|hx
     ·exact h2
     ·intro hm;exact q4 x hx (by simp[hm])
    ·rw[hcn,List.nodup_append];refine⟨c2,q5,fun a ha b hb he=>?_⟩;subst he;exact q6 a hb (by simp only[List.mem_append];exact .inr ha)
    ·rw[hcn] at hs;rcases List.mem_append.1 hs with hs|hs
     ·obtain⟨c,hc,rfl⟩:=List.mem_map.1 hs;exact c3 c hc
     ·intro hm;exact q6 s hs (by simp[hm])
   ·cases h4
  ·rintro ⟨q1,q2,q3,q4,q5,q6⟩
   rw[hcn] at q5 q6;rw[List.nodup_append] at q5;simp only[xaf,List.nodup_cons] at q3;have hd:=q1 d og;have hm:zcx n met d.ctors=some (met++d.ctors.map (·.name)):=(zgZ n _ _ _).2 ⟨rfl,q2 d og,q5.1,fun c hc=>q6 _ (List.mem_append.2 (.inl (List.mem_map.2 ⟨c,hc,rfl⟩)))⟩;refine⟨⟨⟨hd.1,q4 d og⟩,hd.2⟩, ?_⟩;rw[hm];refine(zg0 n r _ _).2 ⟨fun x hx=>q1 x (List.mem_cons_of_mem _ hx),fun x hx=>q2 x (List.mem_cons_of_mem _ hx),q3.2,fun x hx hmem=>?_,q5.2.1,fun s hs hmem=>?_⟩
   ·simp only[List.mem_append,List.mem_singleton] at hmem;rcases hmem with hmem|hmem
    ·exact q4 x (List.mem_cons_of_mem _ hx) hmem
    ·exact q3.1 (hmem ▸ List.mem_map.2 ⟨x,hx,Z⟩)
   ·rcases List.mem_append.1 hmem with hmem|hmem
    ·exact q6 s (List.mem_append.2 (.inr hs)) hmem
    ·exact q5.2.2 s hmem s hs Z
theorem zco (w:List Data):zbp w=true↔WV w:=by
 unfold zbp;rw[xad,zg0];constructor
 ·rintro ⟨h1,q1,q2,q3,_,q5,_⟩
  exact⟨by have:=xas h1;omega,q1,q2,q3,q5⟩
 ·rintro ⟨h1,q1,q2,q3,q5⟩
  exact⟨xax od,q1,q2,q3,by simp,q5,by simp⟩
theorem zmR {l:List Str}:l.Nodup↔∀i j,i<j->j<l.length->nth l i≠nth l j:=by
 unfold List.Nodup;rw[List.pairwise_iff_getElem];constructor
 ·intro h i j hij hj;have:=h i j od hj hij;simpa [nth,List.getD,hj,(by omega:i<l.length)] using this
 ·intro h i j hi hj hij;have:=h i j hij hj;simpa [nth,List.getD,hj,hi] using this
theorem zaD {α:Type} [Inhabited α]{l:List α}{i:Nat} (h:i<l.length):nth l i=l[i]:=by simp[nth,List.getD,h]
theorem zkA (w:List Data):(zc0 w).Nodup↔(∀d,d<w.length->∀j k,j<k->k<(nth w d).ctors.length->(nth (nth w d).ctors j).name≠(nth (nth w d).ctors k).name)/\
  ∀i d,i<d->d<w.length->∀j k,j<(nth w i).ctors.length->k<(nth w d).ctors.length->(nth (nth w i).ctors j).name≠(nth (nth w d).ctors k).name:=by
 unfold zc0 List.Nodup;rw[List.pairwise_flatMap];constructor
 ·rintro ⟨h1,h2⟩
  refine⟨fun d hd j k hjk hk=>?_,fun i d hid hd j k hj hk=>?_⟩
  ·have:=h1 (nth w d) (zai hd);rw[List.pairwise_iff_getElem] at this;have:=this j k ot (by simpa using hk) hjk;simpa [zaD hk,zaD (show j<(nth w d).ctors.length by omega)] using this
  ·rw[List.pairwise_iff_getElem] at h2;have:=h2 i d od hd hid;rw[<-zaD hd,<-zaD (show i<w.length by omega)] at this;exact this _ (List.mem_map.2 ⟨_,zai hj,Z⟩) _ (List.mem_map.2 ⟨_,zai hk,Z⟩)
 ·rintro ⟨h1,h2⟩
  refine⟨fun x hx=>?_, ?_⟩
  ·obtain⟨d,hd,rfl⟩:=List.getElem_of_mem hx;rw[List.pairwise_iff_getElem];intro j k hj hk hjk;have hk':k<(nth w d).ctors.length:=by rw[zaD hd];simpa using hk
   have:=h1 d hd j k hjk hk';rw[zaD hk',zaD (show j<(nth w d).ctors.length by omega)] at this;simp only[zaD hd] at this;simpa using this
  ·rw[List.pairwise_iff_getElem];intro i d hi hd hid x hx y hy;obtain⟨a,ha,rfl⟩:=List.mem_map.1 hx;obtain⟨b,hb,rfl⟩:=List.mem_map.1 hy;obtain⟨j,hj,rfl⟩:=List.getElem_of_mem ha;obtain⟨k,hk,rfl⟩:=List.getElem_of_mem hb;have hj':j<(nth w i).ctors.length:=by rw[zaD hi];exact hj
   have hk':k<(nth w d).ctors.length:=by rw[zaD hd];exact hk
   have:=h2 i d hid hd j k hj' hk';rw[zaD hj',zaD hk'] at this;simpa only[zaD hi,zaD hd] using this
theorem zmu (w:List Data):(w.map (·.name)).Nodup↔∀i d,i<d->d<w.length->(nth w i).name≠(nth w d).name:=by
 rw[zmR];have e:∀i,i<w.length->nth (w.map (·.name)) i=(nth w i).name:=fun i hi=>by simp[nth,List.getD,hi]
 constructor
 ·intro h i d hid hd;have:=h i d hid (by simpa using hd);rwa [e i od,e d hd] at this
 ·intro h i d hid hd;have hd':d<w.length:=by simpa using hd
  rw[e i od,e d hd'];exact h i d hid hd'
theorem zmG (w:List Data) (d k:Nat):zlt w d k=false↔(∀i,i<d->(nth w i).name≠(nth w d).name)/\
  ∀i j,i<=d->j<(nth w i).ctors.length->(i<d\/j<k)->k<(nth w d).ctors.length->(nth (nth w i).ctors j).name≠(nth (nth w d).ctors k).name:=by
 unfold zlt;rw[List.any_eq_false];constructor
 ·intro h;refine⟨fun i hi he=>?_,fun i j hi hj hij hk he=>?_⟩
  ·apply h i (List.mem_range.2 od);unfold zcM;simp[hi,he]
  ·apply h i (List.mem_range.2 od);unfold zcM;rw[zcn hj (by unfold zbx;simp[hk,he];omega)];simp
 ·rintro ⟨h1,h2⟩ i hi
  have hi':=List.mem_range.1 hi;unfold zcM;simp only[Bool.or_eq_true,xad,xah,not_or,not_and];refine⟨fun hid=>h1 i hid, ?_⟩;rw[zet (fun j hj=>?_)]
  ·simp
  ·unfold zbx;cases hc:((decide (i<d)||decide (j<k))&&(decide (k<(nth w d).ctors.length)&&decide ((nth (nth w i).ctors j).name=(nth (nth w d).ctors k).name))) with
   |false=>rfl
   |true=>
    simp only[xad,Bool.or_eq_true,xah] at hc;exact absurd hc.2.2 (h2 i j od hj hc.1 hc.2.1)
theorem zi7 (w:List Data):zbc w=true↔WV w:=by
 unfold zbc;rw[xad,xah,List.all_eq_true];have hs:∀d,zb3 w d=true↔zbd (nth w d).name=true/\1<=(nth w d).ctors.length/\(nth w d).ctors.length<=4/\∀k,k<(nth w d).ctors.length->zbw w.length (nth (nth w d).ctors k)=true/\zlt w d k=false:=fun d=>by
  unfold zb3;simp only[xad,xah,List.all_eq_true,List.mem_range,zdB,Bool.not_eq_true']
 constructor
 ·rintro ⟨h1,h2⟩
  have h3:∀d,d<w.length->_:=fun d hd=>(hs d).1 (h2 d (List.mem_range.2 hd));have h4:∀d,d<w.length->∀k,k<(nth w d).ctors.length->_:=fun d hd k hk=>(zmG w d k).1 ((h3 d hd).2.2.2 k hk).2;refine⟨h1,fun d hd=>?_,fun d hd c hc=>?_,(zmu w).2 (fun i d hid hd=>?_),(zkA w).2 ⟨fun d hd j k hjk hk=>?_,fun i d hid hd j k hj hk=>?_⟩⟩
  ·obtain⟨i,hi,rfl⟩:=List.getElem_of_mem hd;have:=h3 i hi;rw[zaD hi] at this;exact⟨this.1,this.2.1,this.2.2.1⟩
  ·obtain⟨i,hi,rfl⟩:=List.getElem_of_mem hd;obtain⟨k,hk,rfl⟩:=List.getElem_of_mem hc;have hk':k<(nth w i).ctors.length:=by rw[zaD hi];exact hk
   have:=((h3 i hi).2.2.2 k hk').1;rw[zaD hk'] at this;simpa only[zaD hi] using this
  ·exact(h4 d hd 0 (by have:=(h3 d hd).2.1;omega)).1 i hid
  ·exact(h4 d hd k hk).2 d j (Nat.le_refl _) od (.inr hjk) hk
  ·exact(h4 d hd k hk).2 i j od hj (.inl hid) hk
 ·intro h;refine⟨h.len,fun d hd=>?_⟩;have hd':=List.mem_range.1 hd;have hm:=zai hd';have hn:=(zmu w).1 h.names;have hc:=(zkA w).1 h.cnames;refine(hs d).2 ⟨(h.data _ hm).1,(h.data _ hm).2.1,(h.data _ hm).2.2,fun k hk=>⟨h.ctor _ hm _ (zai hk),(zmG w d k).2 ⟨fun i hi=>hn i d hi hd',fun i j hi hj hij hk'=>?_⟩⟩⟩;by_cases hid:i<d
  ·exact hc.2 i d hid hd' j k hj hk'
  ·have:i=d:=by omega
   subst this;exact hc.1 i hd' j k od hk'
theorem zjC (w:List Data):zbc w=zbp w:=by
 rw[xat,zi7,zco]
theorem zq1 {n:Nat}{t:Ty} (h:zbJ n t=true):TyIn n t:=by
 unfold zbJ at h;simp only[Bool.or_eq_true,xad,xah,zat] at h;rcases h with h|h
 ·exact .inl h.1
 ·exact .inr ⟨t.data.toNat,by omega,by omega⟩
theorem zmH {n:Nat}{t:Ty} (h:zdE n t=true):TyIn n t:=by
 unfold zdE at h;simp only[Bool.or_eq_true,xad,xah,zat] at h;rcases h with h|h
 ·exact .inl h.1
 ·exact .inr ⟨t.data.toNat,by omega,by omega⟩
theorem WV.wt {w:List Data} (hs:WSmall w) (h:WV w):WT w:=⟨hs,fun d hd c hc t ht=>by
 have:=h.ctor d hd c hc;unfold zbw at this;simp only[xad,Bool.not_eq_true',List.any_eq_false,Bool.not_eq_true,Bool.not_eq_false] at this;exact zq1 (by have:=this.2.2.2 t ht;simpa using this)⟩
theorem zls {w:List Data}{t:Ty} (hs:WSmall w) (h:za2 w t=true):WT w:=by
 unfold za2 at h;rw[xad] at h;exact WV.wt hs ((zco w).1 h.1)
theorem zlr {w:List Data}{t:Ty} (h:za2 w t=true):TyIn w.length t:=by
 unfold za2 at h;rw[xad] at h;exact zmH h.2
theorem zoY (w:List Data) (t:Ty):(zbc w&&(zbJ w.length t&&decide (0<=t.index)))=za2 w t:=by
 rw[zjC];unfold za2;congr 1
 rw[xat];unfold zbJ zdE zat;simp;omega
end Go.Proofs.YtmchfdpleibpdaaGreat
