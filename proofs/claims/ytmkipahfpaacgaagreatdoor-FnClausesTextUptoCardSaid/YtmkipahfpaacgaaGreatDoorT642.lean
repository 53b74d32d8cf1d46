/-
  THE ABSTRACT WALK AND THE WALKS, part 2 of 5.
-/
import Derived.Test.YtmkipahfpaacgaaGreatDoorT641
namespace Go.Proofs.YtmkipahfpaacgaaGreatDoor
open Go
set_option linter.unusedSimpArgs false
set_option linter.unusedVariables false
section
variable {c:Ctx}
theorem R.setMap {G:Gh}{s:St}{a:Act}{w:World} (hr:R c G s a w){id b:Nat}{ks ks':List (List UInt8)}{es es':Array MapEntry}{cl cl':Nat} (hb:getH s.hp id=some (.map ks)) (hl:G.loc id=[b])
  (hw:w.heap[b]?=some (.map es cl)) (hF:G.F b=0) (hes:zf8 ks' es'):
  R c G { s with hp:=(id,some (.map ks'))::s.hp } a { w with heap:=w.heap.setIfInBounds b (.map es' cl') }:=by
 have htok:tokf ((id,some (.map ks'))::s.hp)=tokf s.hp:=by
  funext i
  unfold tokf;rw[zaa];by_cases h:i=id
  ·subst h;rw[if_pos rfl,hb]
  ·rw[if_neg h]
 have hset:=MapKept.heap_set (o':= .map es' cl') hw;have hother:∀k,k≠b->(w.heap.setIfInBounds b (.map es' cl'))[k]?=w.heap[k]?:=hset.2;have hcell:∀b' o,o<G.F b'->o<G.F b'/\({ w with heap:=w.heap.setIfInBounds b (.map es' cl') }:World).cell? ⟨b',o,none⟩=w.cell? ⟨b',o,none⟩:=fun b' o ho=>by
  have hne:b'≠b:=fun e=>by subst e;rw[hF] at ho;omega
  refine⟨ho, ?_⟩;simp only[World.cell?,hother b' hne]
 have htl:∀i p,tokf s.hp i=some p->∀b',b'∈G.loc i->b'≠b:=fun i p hp b' hb' e=>by
  obtain⟨n,k⟩:=p;have h1:=zaf.1 hp;have hne:i≠id:=fun e'=>by subst e';rw[hb] at h1;cases h1
  subst e;exact hr.disj i id (by rw[h1];rfl) (by rw[hb];rfl) hne b' hb' (by simp[hl])
 have hm:∀ {x:AV}{v:Value},RelA G (tokf s.hp) w x v->RelA G (tokf s.hp) { w with heap:=w.heap.setIfInBounds b (.map es' cl') } x v:=fun hx=>
  hx.mono hcell (fun _ _=> .inl rfl) (fun i _ p hp=>⟨hp,fun b' hb'=>⟨hother b' (htl i p hp b' hb'),rfl⟩⟩)
 have hbown:=hr.new id (by rw[hb];rfl) b (by simp[hl]);have hsz:(w.heap.setIfInBounds b (.map es' cl')).size=w.heap.size:=by simp
 refine⟨hr.size,hr.defers,fun i v h=>by rw[htok];exact hm (hr.slots i v h),fun i r h=>?_,fun i j h1 h2 h3=>hr.disj i j ?_ ?_ h3,fun i h=>hr.new i ?_,
  hr.frm.trans (own1:=[b]) ⟨rfl,rfl,rfl,by simp,fun k _ hk=>⟨hother k (fun e=>hk (by simp[e])),rfl⟩,hcell⟩ (fun k hk=>by simp only[List.mem_singleton] at hk;subst hk;exact hbown),
  fun k hk=>hr.top k (by simpa using hk),fun i l hl'=>⟨(hr.kept i l hl').1, ?_⟩⟩
 ·rw[htok];rw[zaa] at h;by_cases hi:i=id
  ·subst hi;rw[if_pos rfl] at h;cases h
   exact⟨b,es',cl',hl,hset.1,hF,hes⟩
  ·rw[if_neg hi] at h;have hne:∀b',b'∈G.loc i->b'≠b:=fun b' hb' e=>by
    subst e;exact hr.disj i id (by rw[h];rfl) (by rw[hb];rfl) hi b' hb' (by simp[hl])
   have hh:=hr.heap i r h;cases r with
   |box cs2=>
    obtain⟨b2,vs2,e2,h1,h2,h3,h4,h5⟩:=hh;exact⟨b2,vs2,e2,h1,(hother b2 (hne b2 (by simp[h1]))).trans h2,h3,h4,fun j hj hv=>hm (h5 j hj hv)⟩
   |tok n k=>exact fun b2 h1=>by simpa using hh b2 h1
   |map ks=>
    obtain⟨b2,es,cl,h1,h2,h3⟩:=hh;exact⟨b2,es,cl,h1,(hother b2 (hne b2 (by simp[h1]))).trans h2,h3⟩
   |tree cs2=>exact za3 hh I (fun b' hb'=>⟨hother b' (hne b' hb'),I⟩) oe (fun _ _ _=>hm)
 ·rw[zaa] at h1;split at h1
  ·rename_i e;subst e;rw[hb];rfl
  ·exact h1
 ·rw[zaa] at h2;split at h2
  ·rename_i e;subst e;rw[hb];rfl
  ·exact h2
 ·rw[zaa] at h;split at h
  ·rename_i e;subst e;rw[hb];rfl
  ·exact h
 ·refine⟨?_,by show tokf ((id,some (.map ks'))::s.hp) i=none;rw[htok];exact(hr.kept i l hl').2.2⟩;show(getH ((id,some (.map ks'))::s.hp) i).isSome
  rw[zaa];split
  ·rfl
  ·exact(hr.kept i l hl').2.1
theorem RelA.mapr_eq {G:Gh}{T:TokF}{w:World}{id:Nat}{v:Value} (h:RelA G T w (.mapr id) v):∃b,((G.loc id).head?=some b/\T id=none)/\v = .map (some b):=by
 cases h with
 |mapr h hT=>exact⟨_,⟨h,hT⟩,rfl⟩
theorem zhl {s:List UInt8}:∀ {l:List MapEntry}{ks:List (List UInt8)} (i:Nat),l.map (fun e=>(e.key,e.val))=ks.map (fun s=>(Value.string ⟨s.toArray⟩,Value.bool true))->
  ∃r,Instr.findNow .string (.string ⟨s.toArray⟩) l i=some r/\r.map (·.2)=(if s∈ks then some (Value.bool true) else none)
 | [],ks,i,h=>by
  cases ks with
  |nil=>exact⟨none,rfl,by simp⟩
  |cons k r=>simp at h
 |e::es,ks,i,h=>by
  cases ks with
  |nil=>simp at h
  |cons k r=>
   simp only[xaf,List.cons.injEq,Prod.mk.injEq] at h;obtain⟨⟨h1,h2⟩,h3⟩:=h;have hs:Instr.sameNow .string (.string ⟨s.toArray⟩) e.key=some (decide (s=k)):=by
    rw[h1];simp only[Instr.sameNow];congr 1
    by_cases hh:s=k
    ·subst hh;simp[MapKept.bytes_beq]
    ·have:¬((⟨s.toArray⟩:ByteArray) == ⟨k.toArray⟩)=true:=fun hb=>hh (by
      have:=(MapKept.bytes_beq _ _).1 hb;simpa using xam (fun x:ByteArray=>x.data.toList) this)
     simp[this,hh]
   by_cases hh:s=k
   ·refine⟨some (i,e.val), ?_,by simp[hh,h2]⟩;have hd:decide (s=k)=true:=xax hh;rw[hd] at hs;unfold Instr.findNow;rw[hs]
   ·obtain⟨r',hr1,hr2⟩:=zhl (s:=s) (i+1) h3;refine⟨r', ?_,by rw[hr2];simp[hh]⟩;have hd:decide (s=k)=false:=xaw hh;rw[hd] at hs;unfold Instr.findNow;rw[hs];exact hr1
structure MapT (P:Program) (t:Nat):Prop where
 inf:∃k e,P.underlying t=some (.map k e)/\P.underlying k=some .string/\∃i,P.info? e=some i/\i.zero=some (.bool false)
def zta (P:Program) (t:Nat):Bool:=match P.underlying t with
 |some (.map k e)=>match P.underlying k,P.info? e with
  |some .string,some i=>match i.zero with
   |some (.bool false)=>true
   |_=>false
  |_,_=>false
 |_=>false
theorem MapT.of {P:Program}{t:Nat} (h:zta P t=true):MapT P t:=by
 unfold zta at h;split at h
 ·rename_i k e h1;split at h
  ·rename_i i h2 h3;split at h
   ·rename_i h4;exact⟨k,e,h1,h2,i,h3,h4⟩
   ·cases h
  ·cases h
 ·cases h
end
section
variable {c:Ctx}{all:Array Oper}{chk:List Rec->Prop}{os:List Oper}{recs:List Rec}{env:Env}{hp:Hp}{Q:St->Prop}
variable {d ty:Nat}{pos:String}{af:Array Edge}{g:Option (Nat×Bool)}{pg:List (Nat×AV)}
variable {t yt:TypeId}{x y z:Operand}
theorem Walk.makeMap {id:Nat} (hg:GH all env g pg) (hd:Nat.blt d c.n=true) (hf:zaz env hp [id]=true)
  (hn:Walk c all chk os (zal (pg++[]) [] [id] ⟨some (d,.mapr id),[(id,some (.map []))]⟩::recs) ⟨(d,.mapr id)::env,(id,some (.map []))::hp⟩ Q):
  Walk c all chk (⟨some d,.makeMap t none,ty,pos,af,g⟩::os) recs ⟨env,hp⟩ Q:=by
 refine⟨pg++[],[],[id],_, ?_,zaq hg.facts oe,by simp,zbf hf,hn⟩;intro s a w hrel hp' hh hcr K Q' hK;obtain⟨G,hr⟩:=hrel;obtain⟨h0,hocc⟩:=hcr id oe;have hr':=(hr.alloc (.map #[] 0) 0).rename h0 hocc [w.heap.size];have hloc:∀i,i≠id->(bif Nat.beq i id then [w.heap.size] else G.loc i)=G.loc i:=fun i h=>by
  cases hb:Nat.beq i id with
  |true=>exact absurd (xap hb) h
  |false=>rfl
 have hR:=hr'.name (r:= .map []) h0 hocc ⟨w.heap.size,#[],0,by simp,zdY,by simp,by simp[zf8]⟩ (fun i hi b hb=>by
  have hi':i≠id:=fun e=>by subst e;rw[h0] at hi;cases hi
  have hb':b∈G.loc i:=by have:=hloc i hi';simp only[this] at hb;exact hb
  obtain⟨r,hrr⟩:=Option.isSome_iff_exists.1 hi;have hlt:b<w.heap.size:=(hr.heap i r hrr).bound b hb';simp;omega) (fun b hb=>by
  simp at hb;subst hb;exact .inr hr.frm.size)
 unfold wpO;rw[if_pos (hg.gf.wanted hr (fun p hm=>hp' p (by simp[hm])))];unfold Oper.wp;have hrun:(execOp a.eval ⟨some d,.makeMap t none,ty,pos,af,g⟩).run c.P w = .ok (.value (.map (some w.heap.size))) (w.alloc (.map #[] 0)):=by
  have:(Instr.makeMap t none).run c.P w = .ok (.map (some w.heap.size)) (w.alloc (.map #[] 0)):=rfl;simp only[execOp,Option.map_none,Sem.run_bind,this,Result.andThen_ok,Sem.run_pure]
 rw[hrun,Oper.upon_value];exact hK _ _ ⟨_,hR.put (v:= .mapr id) (.mapr oe (by simp[tokf,getH])) hd⟩
theorem Walk.lookup {id:Nat}{ks:List (List UInt8)}{l:List UInt8} (ht:MapT c.P t) (hg:GH all env g pg) (hd:Nat.blt d c.n=true) (hx:opd env x=some (.mapr id)) (hy:opd env y=some (.d (.str l)))
  (hb:getH hp id=some (.map ks))
  (hn:Walk c all chk os (zal (pg++(opF x (.mapr id)++opF y (.d (.str l)))) [(id,.map ks)] [] ⟨some (d,.d (.bool (decide (l∈ks)))),[]⟩::recs) ⟨(d,.d (.bool (decide (l∈ks))))::env,hp⟩ Q):
  Walk c all chk (⟨some d,.lookup t x y false,ty,pos,af,g⟩::os) recs ⟨env,hp⟩ Q:=by
 refine⟨pg++(opF x (.mapr id)++opF y (.d (.str l))),[(id,.map ks)],[],_, ?_,zaq hg.facts (zaq (zaO hx) (zaO hy)),hh1 hb,by simp,hn⟩;intro s a w hrel hp' hh _ K Q' hK;obtain⟨G,hr⟩:=hrel;have hbx:=hh1' hh;have e1:=hr.opd (zaR hx (fun p hm=>hp' p (by simp[hm])));have e2:=hr.opd (zaR hy (fun p hm=>hp' p (by simp[hm])));obtain⟨bl,hl,he⟩:=e1.mapr_eq;have he2:=e2.str_eq;obtain⟨b',es,cl,h2,h3,h4,h5⟩:=hr.heap id _ hbx;obtain rfl:=zdz hl.1 h2;obtain⟨k,e,u1,u2,i,u3,u4⟩:=ht.inf;obtain⟨r,f1,f2⟩:=zhl (s:=l) 0 h5;have hck:(Instr.checkKey es.isEmpty 10000 k (.string ⟨l.toArray⟩)).run c.P w = .ok () w:=MapKept.run_checkKey (k:= .string ⟨l.toArray⟩) u2 (by simp[MapKept.IsKey]) _ 9999;have hz:(zeroValue e).run c.P w = .ok (.bool false) w:=zoy u3 u4;unfold wpO;rw[if_pos (hg.gf.wanted hr (fun p hm=>hp' p (by simp[hm])))];unfold Oper.wp;have hrun:(execOp a.eval ⟨some d,.lookup t x y false,ty,pos,af,g⟩).run c.P w = .ok (.value (.bool (decide (l∈ks)))) w:=by
  simp only[execOp,he,he2,Instr.lookup,Sem.run_bind,run_underlying u1,Result.andThen_ok,MapKept.run_getObj_map h3,Sem.run_pure,hck,MapKept.run_findKey u2 f1];cases r with
  |none=>
   have hm:l∉ks:=fun hm=>by simp[hm] at f2
   simp only[Sem.run_bind,hz,Result.andThen_ok,Sem.run_pure,hm,decide_false];rfl
  |some p=>
   obtain⟨j,v⟩:=p;have hm:l∈ks:=by
    by_cases hm:l∈ks
    ·exact hm
    ·simp[hm] at f2
   simp[hm] at f2;subst f2;simp[hm]
 rw[hrun,Oper.upon_value];exact hK _ _ ⟨G,hr.put (.d (.bool _)) hd⟩
theorem Walk.mapUpdate {id:Nat}{ks:List (List UInt8)}{l:List UInt8} (ht:MapT c.P t) (hg:GH all env g pg) (hx:opd env x=some (.mapr id)) (hy:opd env y=some (.d (.str l))) (hz:opd env z=some (.d (.bool true)))
  (hb:getH hp id=some (.map ks)) (hl0:l∉ks)
  (hn:Walk c all chk os (zal (pg++(opF x (.mapr id)++(opF y (.d (.str l))++opF z (.d (.bool true))))) [(id,.map ks)] [] ⟨none,[(id,some (.map (ks++[l])))]⟩::recs) ⟨env,(id,some (.map (ks++[l])))::hp⟩ Q):
  Walk c all chk (⟨none,.mapUpdate t x y z,ty,pos,af,g⟩::os) recs ⟨env,hp⟩ Q:=by
 refine⟨pg++(opF x (.mapr id)++(opF y (.d (.str l))++opF z (.d (.bool true)))),[(id,.map ks)],[],_, ?_,zaq hg.facts (zaq (zaO hx) (zaq (zaO hy) (zaO hz))),hh1 hb,by simp,hn⟩;intro s a w hrel hp' hh _ K Q' hK;obtain⟨G,hr⟩:=hrel;have hbx:=hh1' hh;have e1:=hr.opd (zaR hx (fun p hm=>hp' p (by simp[hm])));have e2:=hr.opd (zaR hy (fun p hm=>hp' p (by simp[hm])));have e3:=hr.opd (zaR hz (fun p hm=>hp' p (by simp[hm])));obtain⟨bl,hl,he⟩:=e1.mapr_eq;have he2:=e2.str_eq;have he3:=e3.bool_eq;obtain⟨b',es,cl,h2,h3,h4,h5⟩:=hr.heap id _ hbx;obtain rfl:=zdz hl.1 h2;obtain⟨k,e,u1,u2,i,u3,u4⟩:=ht.inf;obtain⟨r,f1,f2⟩:=zhl (s:=l) 0 h5;have hck:(Instr.checkKey false 10000 k (.string ⟨l.toArray⟩)).run c.P w = .ok () w:=MapKept.run_checkKey (k:= .string ⟨l.toArray⟩) u2 (by simp[MapKept.IsKey]) _ 9999;have hrn:r=none:=by
  cases r with
  |none=>rfl
  |some p=>simp[hl0] at f2
 subst hrn;unfold wpO;rw[if_pos (hg.gf.wanted hr (fun p hm=>hp' p (by simp[hm])))];unfold Oper.wp;have hrun:(execOp a.eval ⟨none,.mapUpdate t x y z,ty,pos,af,g⟩).run c.P w = .ok .skip { w with heap:=w.heap.setIfInBounds bl (.map (es.push { key:= .string ⟨l.toArray⟩,val:= .bool true,born:=cl }) (cl+1)) }:=by
  simp only[execOp,he,he2,he3,Instr.mapUpdate,Sem.run_bind,run_underlying u1,Result.andThen_ok,MapKept.run_getObj_map h3,Sem.run_pure,hck,MapKept.run_findKey u2 f1,MapKept.run_setObj_map _ h3]
 rw[hrun,Oper.upon_skip];refine hK _ _ ⟨G,(hr.setMap hbx h2 h3 h4 ?_).putNone⟩;simp only[zf8] at h5 ⊢;simp[h5]
def zd5 (P:Program):Nat->List Field->Bool
 |_,[]=>true
 |i,f::r=>(f.name != "_")&&Nat.beq f.offset i&&(match P.underlying f.type with|some (.int _)=>true|_=>false)&&zd5 P (i+1) r
structure EqT (P:Program) (t k:Nat):Prop where
 len:(P.fieldsOf t).size=k
 und:P.underlying t=some (.struct (P.fieldsOf t))
 held:P.stoodInHeld t=false
 grd:P.eqGuardType P.depth t=false
 fld:zd5 P 0 (P.fieldsOf t).toList=true
def eqC:List AV->List AV->Option Bool
 | [],[]=>some true
 | .d (.int .i64 a)::r,.d (.int .i64 b)::s=>match eqC r s with
  |some t=>some (decide (a=b)&&t)
  |none=>none
 |_,_=>none
theorem ziq {P:Program}{w:World}{G:Gh}{T:TokF}:∀ {fs:List Field}{i:Nat}{xs ys:List AV}{b:Bool}{us vs:Array Value},zd5 P i fs=true->eqC xs ys=some b->fs.length=xs.length->
  (∀j (h:j<xs.length),∃u,us[i+j]?=some u/\RelA G T w xs[j] u)->(∀j (h:j<ys.length),∃u,vs[i+j]?=some u/\RelA G T w ys[j] u)->
  (Op.eqFields 9999 us vs fs).run P w = .ok b w
 | [],i,[],[],b,us,vs,_,h,_,_,_=>by simp only[eqC,xae] at h;subst h;simp[Op.eqFields]
 | [],i,[],_::_,b,us,vs,_,h,_,_,_=>by simp[eqC] at h
 | [],i,_::_,_,b,us,vs,_,_,h,_,_=>by simp at h
 |f::fs,i,[],_,b,us,vs,_,_,h,_,_=>by simp at h
 |f::fs,i,x::xs,ys,b,us,vs,hf,he,hl,hx,hy=>by
  cases ys with
  |nil=>unfold eqC at he;split at he<;>simp_all
  |cons y ys=>
   unfold eqC at he;split at he
   ·rename_i h1 h2;simp at h1
   ·rename_i a r b' s h1 h2;simp only[List.cons.injEq] at h1 h2;obtain⟨rfl,rfl⟩:=h1;obtain⟨rfl,rfl⟩:=h2;split at he
    ·rename_i t ht;simp only[xae] at he;subst he;simp only[zd5,xad,bne_iff_ne] at hf;obtain⟨⟨⟨f1,f2⟩,f3⟩,f4⟩:=hf;have f2':=xap f2;obtain⟨u,hu,hru⟩:=hx 0 oe;obtain⟨v,hv,hrv⟩:=hy 0 oe;have hu':=hru.int_eq;have hv':=hrv.int_eq;subst hu' hv';have ih:=ziq (P:=P) (w:=w) (us:=us) (vs:=vs) f4 ht (by simpa using hl)
      (fun j h=>by obtain⟨u,h1,h2⟩:=hx (j+1) (by simpa using h);exact⟨u,by rw[show i+1+j=i+(j+1) by omega];exact h1,by simpa using h2⟩)
      (fun j h=>by obtain⟨u,h1,h2⟩:=hy (j+1) (by simpa using h);exact⟨u,by rw[show i+1+j=i+(j+1) by omega];exact h1,by simpa using h2⟩)
     split at f3
     ·rename_i kd hk;have p1:(part f.type us f.offset).run P w = .ok (.int .i64 a) w:=by
       have hu0:us[i]?=some (.int .i64 a):=by simpa using hu
       simp only[part,isAgg,Sem.run_bind,run_underlying hk,Result.andThen_ok,Sem.run_pure,f2',hu0,Bool.false_eq_true,if_false]
      have p2:(part f.type vs f.offset).run P w = .ok (.int .i64 b') w:=by
       have hv0:vs[i]?=some (.int .i64 b'):=by simpa using hv
       simp only[part,isAgg,Sem.run_bind,run_underlying hk,Result.andThen_ok,Sem.run_pure,f2',hv0,Bool.false_eq_true,if_false]
      simp only[Op.eqFields];rw[if_pos f1];simp only[Sem.run_bind,p1,p2,Result.andThen_ok,run_equalIn_int w 9998 f.type .i64 kd a b' hk];by_cases hab:a=b'
      ·subst hab;simp[ih]
      ·simp[hab]
     ·cases f3
    ·cases he
   ·cases he
theorem zlV:∀ {xs ys:List AV}{b:Bool},eqC xs ys=some b->xs.length=ys.length
 | [],[],_,_=>rfl
 |x::r,y::s,b,h=>by
  unfold eqC at h;split at h
  ·rename_i h1 _;simp at h1
  ·rename_i a r' b' s' h1 h2;simp only[List.cons.injEq] at h1 h2;obtain⟨rfl,rfl⟩:=h1;obtain⟨rfl,rfl⟩:=h2;split at h
   ·rename_i t ht;simp[zlV ht]
   ·cases h
  ·cases h
 | [],_::_,_,h=>by simp[eqC] at h
 |x::r,[],_,h=>by unfold eqC at h;split at h<;>simp_all
theorem zpK {P:Program}{w:World}{G:Gh}{T:TokF}{t:TypeId}{xs ys:List AV}{b:Bool}{u v:Value}{k:Nat} (ht:EqT P t k) (hl0:xs.length=k) (he:eqC xs ys=some b) (hu:RelA G T w (.agg xs) u) (hv:RelA G T w (.agg ys) v):
  ∃us vs,u = .agg us/\v = .agg vs/\(Op.equalIn 10000 t (.agg us) (.agg vs)).run P w = .ok b w:=by
 have hl:(P.fieldsOf t).size=xs.length:=ht.len.trans hl0.symm;cases hu with
 |agg h1 h2=>
  cases hv with
  |agg h3 h4=>
   refine⟨_,_,rfl,rfl, ?_⟩;rw[show(10000:Nat)=9999+1 from rfl,run_equalIn_agg w 9999 t _ _ ht.und ht.held];refine ziq (G:=G) (T:=T) (i:=0) ht.fld he (by simpa using hl) (fun j h=>?_) (fun j h=>?_)
   ·rename_i us vs;have hj:j<us.size:=by rw[h1];exact h
    exact⟨us[j],by rw[Nat.zero_add,Array.getElem?_eq_getElem hj],h2 j h hj⟩
   ·rename_i us vs;have hj:j<vs.size:=by rw[h3];exact h
    exact⟨vs[j],by rw[Nat.zero_add,Array.getElem?_eq_getElem hj],h4 j h hj⟩
theorem xbz {xs ys:List AV}{b:Bool}{k:Nat} (ht:EqT c.P t k) (hg:GH all env g pg) (hd:Nat.blt d c.n=true) (hx:opd env x=some (.agg xs)) (hy:opd env y=some (.agg ys)) (he:eqC xs ys=some b) (hl:xs.length=k)
  (hn:Walk c all chk os (zal (pg++(opF x (.agg xs)++opF y (.agg ys))) [] [] ⟨some (d,.d (.bool b)),[]⟩::recs) ⟨(d,.d (.bool b))::env,hp⟩ Q):
  Walk c all chk (⟨some d,.binOp .eql t x y yt,ty,pos,af,g⟩::os) recs ⟨env,hp⟩ Q:=by
 refine xbM hg hd hx hy (fun a G T w h1 h2=>⟨.bool b, ?_,.d (.bool _)⟩) hn;obtain⟨us,vs,e1,e2,e3⟩:=zpK ht hl he h1 h2;simp only[execOp,e1,e2];simp only[Sem.run_bind,run_eqGuard_agg w .eql t x y us vs ht.grd,Result.andThen_ok,run_eql_struct,e3,Sem.run_pure]
theorem Walk.neV {xs ys:List AV}{b:Bool}{k:Nat} (ht:EqT c.P t k) (hg:GH all env g pg) (hd:Nat.blt d c.n=true) (hx:opd env x=some (.agg xs)) (hy:opd env y=some (.agg ys)) (he:eqC xs ys=some b) (hl:xs.length=k)
  (hn:Walk c all chk os (zal (pg++(opF x (.agg xs)++opF y (.agg ys))) [] [] ⟨some (d,.d (.bool (!b))),[]⟩::recs) ⟨(d,.d (.bool (!b)))::env,hp⟩ Q):
  Walk c all chk (⟨some d,.binOp .neq t x y yt,ty,pos,af,g⟩::os) recs ⟨env,hp⟩ Q:=by
 refine xbM hg hd hx hy (fun a G T w h1 h2=>⟨.bool (!b), ?_,.d (.bool _)⟩) hn;obtain⟨us,vs,e1,e2,e3⟩:=zpK ht hl he h1 h2;simp only[execOp,e1,e2];simp only[Sem.run_bind,run_eqGuard_agg w .neq t x y us vs ht.grd,Result.andThen_ok,run_neq_struct,e3,Sem.run_pure]
theorem LeL.get:∀ {l m:List AV},LeL l m->∀i (h1:i<l.length) (h2:i<m.length),LeA l[i] m[i]
 |_,_,.nil,i,h1,_=>by simp at h1
 |_,_,.cons h t,0,_,_=>h
 |_,_,.cons h t,i+1,h1,h2=>LeL.get t i (by simpa using h1) (by simpa using h2)
theorem RelA.fn_eq {G:Gh}{T:TokF}{w:World}{f:FuncId}{caps:List AV}{v:Value} (h:RelA G T w (.fn f caps) v):
  ∃us,v = .func (.func f) #[] us/\us.size=caps.length/\∀i (hi:i<caps.length) (hv:i<us.size),RelA G T w caps[i] us[i]:=by
 cases h with
 |fn hn h=>exact⟨_,rfl,hn,h⟩
theorem xbr {f:FuncId}{args:Array Operand}{ats:Array TypeId}{xs:List Operand}{caps vs avs:List AV}{hpc hp0:Hp}{r:AV}{cr:List Nat} (hc:Callee c.P f) (hf:FnD c.P f avs hpc r hp0)
  (hargs:args=xs.toArray) (hg:GH all env g pg) (hd:Nat.blt d c.n=true) (hfx:opd env x=some (.fn f caps)) (hx:opdL env xs=some vs) (hle:LeL (vs++caps) avs) (hsub:subH hpc hp) (hnt:zeA hpc=true) (hok:zbi hpc hp0 r cr=true)
  (hcr:zaz env hp cr=true)
  (hn:Walk c all chk os (zal (pg++(opF x (.fn f caps)++opFL xs vs)) (hpF hpc) cr ⟨some (d,r),hp0⟩::recs) ⟨(d,r)::env,hp0++hp⟩ Q):
  Walk c all chk (⟨some d,.call ⟨.value x,args,ats⟩,ty,pos,af,g⟩::os) recs ⟨env,hp⟩ Q:=by
 subst hargs;refine⟨pg++(opF x (.fn f caps)++opFL xs vs),hpF hpc,cr,_, ?_,zaq hg.facts (zaq (zaO hfx) (zbX hx)),zfg hsub,zbf hcr,hn⟩;intro s a w hrel hp' hh hcr' K Q' hK;obtain⟨G,hr⟩:=hrel;have hfr:=hr.opd (zaR hfx (fun p hm=>hp' p (by simp[hm])));obtain⟨us,hfe,hus,hur⟩:=hfr.fn_eq;have hrl:=zcT hr (zcc hx (fun p hm=>hp' p (by simp[hm])));have hall:AllR G (tokf s.hp) w avs ((xs.map a.eval).toArray++us):=by
  have hlen:=hle.len;simp only[xaa] at hlen;refine⟨by simp[<-hlen,hrl.1,hus],fun i hi hv=>?_⟩;have h1:i<(vs++caps).length:=by rw[hle.len];exact hi
  have hA:=LeL.get hle i h1 hi;by_cases hiv:i<vs.length
  ·have h2:=hrl.2 i hiv (by rw[<-hrl.1];exact hiv);have e1:(vs++caps)[i]=vs[i]:=List.getElem_append_left hiv;rw[e1] at hA;have e2:((xs.map a.eval).toArray++us)[i]=a.eval (xs[i]'(by rw[<-hrl.1];exact hiv)):=by
    rw[Array.getElem_append_left (by simp;rw[<-hrl.1];exact hiv)];simp
   rw[e2];exact h2.le hA
  ·have hic:i-vs.length<caps.length:=by simp only[xaa] at h1;omega
   have e1:(vs++caps)[i]=caps[i-vs.length]:=List.getElem_append_right od;rw[e1] at hA;have e2:((xs.map a.eval).toArray++us)[i]=us[i-vs.length]' od:=by
    rw[Array.getElem_append_right om];simp[hrl.1]
   rw[e2];exact(hur _ hic od).le hA
 have hcalls:=zms hr hf hall (fun id x hx=>hh (id,x) (zgn (zcz hx))) (zek hnt) cr hcr';unfold wpO;rw[if_pos (hg.gf.wanted hr (fun p hm=>hp' p (by simp[hm])))];unfold Oper.wp;have hrun:(execOp a.eval ⟨some d,.call ⟨.value x,xs.toArray,ats⟩,ty,pos,af,g⟩).run c.P w = .ok (.enter f ((xs.map a.eval).toArray++us)) w:=by
  have:=hc.run ((xs.map a.eval).toArray++us) w;simp only[execOp,resolve,Sem.run_bind,hfe,Deferred.ofValue,Sem.run_pure,Result.andThen_ok,invoke];simpa using this
 rw[hrun,Oper.upon_enter];refine hcalls.mono ?_;rintro e w' ⟨v,r',hp1,rfl,⟨rfl,rfl⟩,h⟩
 obtain⟨G',hR,hA⟩:=h hok;exact hK _ _ ⟨G',hR.put hA hd⟩
end
section
variable {c:Ctx}
theorem CWp.frzS {env:Env}{hp:Hp}{s':St}{K:Kt}{code:Code}{ids:List Nat} (hkp:KeptIn c.kept ids) (id:Nat){cs:List AV} (hb:getH hp id=some (.box cs)) (Conv:AV->AV->Prop)
  (hs:∀i v,getE s'.env i=some v->∃u,getE env i=some u/\(u=v\/Conv u v))
  (hh:∀i r,getH s'.hp i=some r->i≠id/\(getH hp i=some r\/∃cs1 cs2,getH hp i=some (.box cs1)/\r = .box cs2/\cs2.length=cs1.length/\∀j (h1:j<cs1.length) (h2:j<cs2.length),cs1[j]=cs2[j]\/Conv cs1[j] cs2[j]))
  (hko:∀i,i≠id->(getH hp i).isSome->(getH s'.hp i).isSome)
  (hsl:∀(G G':Gh) (T T':TokF) (w:World) (b:Nat) (us:Array Value) (e:TypeId) (u v:AV) (x:Value),Conv u v->RelA G T w u x->G.loc id=[b]->w.heap[b]?=some (.cells us e (0,0))->cs.length<=us.size->
   (∀i (hi:i<cs.length) (hv:i<us.size),RelA G T w cs[i] us[i])->G'.F b=us.size->(∀y o,o<G.F y->o<G'.F y/\w.cell? ⟨y,o,none⟩=w.cell? ⟨y,o,none⟩)->RelA G' T' w v x)
  (hid:zaB id ids=false) (hn:CWp c code s' K):CWp c code ⟨env,hp⟩ K:=by
 intro a w hrel;obtain⟨G,hr⟩:=hrel;obtain⟨b,us,e,h1,h2,h3,h4,h5⟩:=hr.heap id _ hb;let G':Gh:={ G with F:=fun x=>bif Nat.beq x b then us.size else G.F x }
 have hF:∀x,x≠b->G'.F x=G.F x:=fun x hx=>by
  have:Nat.beq x b=false:=by
   cases hh:Nat.beq x b with
   |true=>exact absurd (xap hh) hx
   |false=>rfl
  simp[G',this]
 have hFb:G'.F b=us.size:=by simp[G']
 have hother:∀i,(getH hp i).isSome->i≠id->∀x,x∈G.loc i->x≠b:=fun i hi hne x hx e=>by
  subst e;exact hr.disj i id hi (by rw[hb];rfl) hne x hx (by simp[h1])
 have htok:∀i p,tokf s'.hp i=some p->tokf hp i=some p/\i≠id:=by
  rintro i ⟨m,q⟩ hp'
  obtain⟨q1,q2⟩:=hh i _ (zaf.1 hp');rcases q2 with q2|⟨_,_,_,q3,_⟩
  ·exact⟨zaf.2 q2,q1⟩
  ·cases q3
 have hcell:∀x o,o<G.F x->o<G'.F x/\w.cell? ⟨x,o,none⟩=w.cell? ⟨x,o,none⟩:=fun x o ho=>by
  refine⟨?_,rfl⟩;by_cases hx:x=b
  ·subst hx;rw[h4] at ho;omega
  ·rw[hF x hx];exact ho
 have hm:∀ {x:AV}{v:Value},RelA G (tokf hp) w x v->RelA G' (tokf s'.hp) w x v:=fun hx=>
  hx.mono hcell (fun _ _=> .inl rfl) (fun i _ p hp'=>by
   obtain⟨q1,q2⟩:=htok i p hp';refine⟨q1,fun x hx=>⟨rfl,hF x (hother i ?_ q2 x hx)⟩⟩;obtain⟨m,q⟩:=p;rw[zaf.1 q1];rfl)
 have hc:∀ {x y:AV}{v:Value},(x=y\/Conv x y)->RelA G (tokf hp) w x v->RelA G' (tokf s'.hp) w y v:=fun hxy hx=>by
  rcases hxy with rfl|hxy
  ·exact hm hx
  ·exact hsl _ _ _ _ _ _ _ _ _ _ _ hxy hx h1 h2 h3 h5 hFb hcell
 have hsome:∀i,(getH s'.hp i).isSome->(getH hp i).isSome/\i≠id:=fun i hi=>by
  obtain⟨r,hr'⟩:=Option.isSome_iff_exists.1 hi;obtain⟨q1,q2⟩:=hh i r hr';refine⟨?_,q1⟩;rcases q2 with q2|⟨_,_,q2,_⟩<;>rw[q2]<;>rfl
 have hbnew:=hr.new id (by rw[hb];rfl) b (by simp[h1]);have hblt:b<w.heap.size:=(hr.heap id _ hb).bound b (by simp[h1]);refine hn a w ⟨G',hr.size,hr.defers,fun i v hi=>?_,fun i r hi=>?_,fun i j q1 q2=>hr.disj i j (hsome i q1).1 (hsome j q2).1,fun i q1=>hr.new i (hsome i q1).1, ?_,fun x hx=>?_,fun i l hk=>?_⟩
 ·obtain⟨u,q1,q2⟩:=hs i v hi;exact hc q2 (hr.slots i u q1)
 ·obtain⟨hne,q⟩:=hh i r hi;rcases q with hi' | ⟨cs1,cs2,hi',rfl,hl,hcc⟩
  ·have hh:=hr.heap i r hi';have hs:(getH hp i).isSome:=by rw[hi'];rfl
   cases r with
   |box cs2=>
    obtain⟨b2,vs2,e2,q1,q2,q3,q4,q5⟩:=hh;exact⟨b2,vs2,e2,q1,q2,q3,(hF b2 (hother i hs hne b2 (by simp[q1]))).trans q4,fun j hj hv=>hm (q5 j hj hv)⟩
   |tok m q=>exact hh
   |map ks=>
    obtain⟨b2,es2,cl,q1,q2,q3,q4⟩:=hh;exact⟨b2,es2,cl,q1,q2,(hF b2 (hother i hs hne b2 (by simp[q1]))).trans q3,q4⟩
   |tree cs2=>exact za3 hh I (fun x hx=>⟨I,hF x (hother i hs hne x hx)⟩) (Nat.le_refl _) (fun _ _ _=>hm)
  ·have hs:(getH hp i).isSome:=by rw[hi'];rfl
   obtain⟨b2,vs2,e2,q1,q2,q3,q4,q5⟩:=hr.heap i _ hi';exact⟨b2,vs2,e2,q1,q2,by omega,(hF b2 (hother i hs hne b2 (by simp[q1]))).trans q4,fun j hj hv=>hc (hcc j od hj) (q5 j od hv)⟩
 ·refine hr.frm.trans (own1:=[b]) ⟨I,I,I,Nat.le_refl _,fun x _ hx=>⟨I,hF x (fun e=>hx (by simp[e]))⟩,hcell⟩ (fun x hx=>?_);simp only[List.mem_singleton] at hx;subst hx;exact hbnew
 ·rw[hF x od];exact hr.top x hx
 ·have:=hr.kept i l hk;have hne:i≠id:=fun e=>by
   subst e;have:=zat.2 (hkp.mem i l hk);rw[this] at hid;cases hid
  refine⟨this.1,hko i hne this.2.1, ?_⟩;cases hT:tokf s'.hp i with
  |none=>rfl
  |some p=>rw[(htok i p hT).1] at this;exact absurd this.2.2 oe
theorem CWp.frzG {env:Env}{hp:Hp}{K:Kt}{code:Code}{ids:List Nat} (hkp:KeptIn c.kept ids) (t id:Nat){u v:AV}{cs:List AV} (ht:getE env t=some u) (hb:getH hp id=some (.box cs))
  (hsl:∀(G G':Gh) (T T':TokF) (w:World) (b:Nat) (us:Array Value) (e:TypeId) (x:Value),RelA G T w u x->G.loc id=[b]->w.heap[b]?=some (.cells us e (0,0))->cs.length<=us.size->
   (∀i (hi:i<cs.length) (hv:i<us.size),RelA G T w cs[i] us[i])->G'.F b=us.size->(∀y o,o<G.F y->o<G'.F y/\w.cell? ⟨y,o,none⟩=w.cell? ⟨y,o,none⟩)->RelA G' T' w v x)
  (hid:zaB id ids=false) (hn:CWp c code ⟨(t,v)::env,(id,none)::hp⟩ K):CWp c code ⟨env,hp⟩ K:=by
 refine CWp.frzS hkp id hb (fun x y=>x=u/\y=v) (fun i x hi=>?_) (fun i r hi=>?_) (fun i hne hi=>?_) (fun G G' T T' w b us e x y z hxy=>?_) hid hn
 ·have hi':getE ((t,v)::env) i=some x:=hi;simp only[getE] at hi';cases hti:Nat.beq t i with
  |true=>
   obtain rfl:=xap hti;simp only[hti,cond_true,xae] at hi';exact⟨u,ht,.inr ⟨rfl,hi'.symm⟩⟩
  |false=>simp only[hti,cond_false] at hi';exact⟨x,hi',.inl rfl⟩
 ·have hi':getH ((id,none)::hp) i=some r:=hi;rw[zaa] at hi';split at hi'
  ·cases hi'
  ·rename_i hne;exact⟨hne,.inl hi'⟩
 ·show(getH ((id,none)::hp) i).isSome
  rw[zaa,if_neg hne];exact hi
 ·obtain⟨rfl,rfl⟩:=hxy;exact hsl G G' T T' w b us e z
theorem zrg {G G':Gh}{T T':TokF}{w:World}{id n k b:Nat}{us:Array Value}{e:TypeId}{x:Value}{cs:List AV}{es:List (List D)} (hx:RelA G T w (.ms id n) x) (h1:G.loc id=[b]) (h2:w.heap[b]?=some (.cells us e (0,0))) (h3:cs.length<=us.size)
  (h5:∀i (hi:i<cs.length) (hv:i<us.size),RelA G T w cs[i] us[i]) (hFb:G'.F b=us.size) (hcell:∀y o,o<G.F y->o<G'.F y/\w.cell? ⟨y,o,none⟩=w.cell? ⟨y,o,none⟩) (hc:zbT n k cs=some es):RelA G' T' w (.d (.sl es)) x:=by
 obtain⟨c1,c2,c3,c4⟩:=zfF hc;obtain⟨b',cap,hl,he,hcap⟩:=hx.ms_eq;obtain rfl:=(zdz hl.1 h1).symm;rw[he];refine .d ?_;have hn':n=es.length:=c1.symm;rw[hn'];refine .sl es k b 0 cap (fun x=>us.getD x undef) c2 od (fun x hx=>?_) (fun i hi j hj=>?_)
 ·have h3':x<cs.length:=by rw[c3,<-c1];exact hx
  have hxs:x<us.size:=Nat.lt_of_lt_of_le h3' h3;refine⟨by rw[hFb];omega, ?_⟩;simp[World.cell?,h2,hxs]
 ·have hjk:j<k:=by rw[<-c2 _ (xao hi)];exact hj
  have hlt:i*k+j<cs.length:=by
   rw[c3,<-c1];have:(i+1)*k<=es.length*k:=xav _ od;rw[Nat.add_mul] at this;omega
  have hlu:i*k+j<us.size:=by omega
  have h6:=(h5 _ hlt hlu).toD (c4 i hi j hj hlt);have h7:us.getD (i*k+j) undef=us[i*k+j]:=by simp[Array.getD,hlu]
  rw[h7];exact h6.mono hcell
theorem CWp.frz {env:Env}{hp:Hp}{K:Kt}{code:Code}{ids:List Nat} (hkp:KeptIn c.kept ids) (t id n k:Nat){cs:List AV}{es:List (List D)} (ht:getE env t=some (.ms id n)) (hb:getH hp id=some (.box cs))
  (hc:zbT n k cs=some es) (hid:zaB id ids=false) (hn:CWp c code ⟨(t,.d (.sl es))::env,(id,none)::hp⟩ K):CWp c code ⟨env,hp⟩ K:=by
 refine CWp.frzG hkp t id ht hb (fun G G' T T' w b us e x hx h1 h2 h3 h5 hFb hcell=>zrg hx h1 h2 h3 h5 hFb hcell hc) hid hn
theorem CWp.frzC {env:Env}{hp:Hp}{K:Kt}{code:Code}{ids:List Nat} (hkp:KeptIn c.kept ids) (b0 off id n k:Nat){cs0 cs0' cs:List AV}{es:List (List D)} (h0:getH hp b0=some (.box cs0)) (hne:Nat.beq b0 id=false)
  (ho:cs0[off]?=some (.ms id n)) (hp0:cs0.set off (.d (.sl es))=cs0') (hb:getH hp id=some (.box cs))
  (hc:zbT n k cs=some es) (hid:zaB id ids=false) (hn:CWp c code ⟨env,(b0,some (.box cs0'))::(id,none)::hp⟩ K):CWp c code ⟨env,hp⟩ K:=by
 have hbne:b0≠id:=fun e=>by subst e;rw[Nat.beq_refl] at hne;cases hne
 refine CWp.frzS hkp id hb (fun x y=>x = .ms id n/\y = .d (.sl es)) (fun i x hi=>⟨x,hi,.inl I⟩) (fun i r hi=>?_) (fun i hne hi=>?_) (fun G G' T T' w b us e u v x hxy hx h1 h2 h3 h5 hFb hcell=>?_) hid hn
 ·have hi':getH ((b0,some (Res.box cs0'))::(id,none)::hp) i=some r:=hi;rw[zaa] at hi';split at hi'
  ·rename_i he;subst he;simp only[xae] at hi';subst hi';refine⟨hbne,.inr ⟨cs0,cs0',h0,rfl,by rw[<-hp0];simp,fun j q1 q2=>?_⟩⟩;subst hp0;rw[List.getElem_set];split
   ·rename_i he;subst he;rw[xan q1] at ho;exact .inr ⟨Option.some.inj ho,I⟩
   ·exact .inl I
  ·rw[zaa] at hi';split at hi'
   ·cases hi'
   ·rename_i hne;exact⟨hne,.inl hi'⟩
 ·show(getH ((b0,some (Res.box cs0'))::(id,none)::hp) i).isSome
  rw[zaa];split
  ·rfl
  ·rw[zaa,if_neg hne];exact hi
 ·obtain⟨rfl,rfl⟩:=hxy;exact zrg hx h1 h2 h3 h5 hFb hcell hc
end
theorem zaj:∀a b:List AV,AV.idsL (a++b)=AV.idsL a++AV.idsL b
 | [],_=>rfl
 |x::r,b=>by simp[AV.idsL,zaj r b]
theorem zin {zs:List AV} (h:AV.idsL zs=[]):∀ {n:Nat},AV.idsL (zbG n zs)=[]
 |0=>rfl
 |n+1=>by simp[zbG,zaj,h,zin h]
theorem zmy {k:Nat}:∀ {h t:List AV},h.length=k->cutC (h++t) 0 k=some h:=by
 intro h t hk;subst hk;induction h with
 |nil=>cases t<;>simp[cutC]
 |cons x r ih=>simp[cutC,ih]
theorem zoH:∀l:List D,toDL (l.map .d)=some l
 | []=>rfl
 |x::r=>by simp[toDL,AV.toD,zoH r]
theorem zdO {α:Type}{f:α->List D}{k:Nat}:∀ {l:List α},(∀x,x∈l->(f x).length=k)->zbT l.length k (l.flatMap fun x=>(f x).map .d)=some (l.map f)
 | [],_=>rfl
 |x::r,h=>by
  have hx:((f x).map AV.d).length=k:=by simp[h x oe]
  simp only[xab,List.flatMap_cons,xaf,zbT,zmy hx,zoH];have:(((f x).map AV.d)++r.flatMap fun x=>(f x).map AV.d).drop k=r.flatMap fun x=>(f x).map AV.d:=by
   rw[<-hx];simp
  rw[this,zdO (fun y hy=>h y (by simp[hy]))]
section
variable {c:Ctx}
theorem RelA.gv_inv {G:Gh}{T:TokF}{w:World}{id:Nat}{xs:List (List D)}{v:Value} (h:RelA G T w (.gv id xs) v):
  (∃a cap,v = .slice a xs.length cap)/\∀n k,T id=some (n,k)->xs.length<=n/\(n=xs.length->(∀x,x∈xs->x.length=k)/\TipV G w id n k v xs):=by
 cases h with|gv hv ht=>exact⟨hv,ht⟩
theorem zdk {hp:Hp}{id n n' k:Nat} (h:getH hp id=some (.tok n' k)) (e:n'=n):getH hp id=some (.tok n k):=e ▸ h
theorem zoX {F:Nat->Nat}{w:World}{xs ys:List (List D)}{k:Nat}{us:Array Value} 
  (hx:∀i (hi:i<xs.length) j (hj:j<xs[i].length),RelD F w xs[i][j] (us.getD (i*k+j) undef))
  (hy:∀i (hi:i<ys.length) j (hj:j<ys[i].length),RelD F w ys[i][j] (us.getD ((xs.length+i)*k+j) undef)):
  ∀i (hi:i<(xs++ys).length) j (hj:j<(xs++ys)[i].length),RelD F w (xs++ys)[i][j] (us.getD (i*k+j) undef):=by
 intro i hi j hj;by_cases h:i<xs.length
 ·have e2:(xs++ys)[i]=xs[i]:=List.getElem_append_left h;have:=hx i h j (by rw[<-e2];exact hj);simpa only[e2] using this
 ·have h2:i-xs.length<ys.length:=by simp only[xaa] at hi;omega
  have e2:(xs++ys)[i]=ys[i-xs.length]:=List.getElem_append_right od;have e3:xs.length+(i-xs.length)=i:=by omega
  have:=hy (i-xs.length) h2 j (by rw[<-e2];exact hj);simp only[e3] at this;simpa only[e2] using this
theorem ziG {t:TypeId}{G:Gh}{s:St}{a:Act}{w:World} (hr:R c G s a w){id k e yb:Nat}{xs ys:List (List D)}{v u:Value} (ht:SlT c.P t e k yb){z:Value} (hz:∃i,c.P.info? e=some i/\i.zero=some z/\z.cells.size=k)
  (htok:getH s.hp id=some (.tok xs.length k)) (hv:RelA G (tokf s.hp) w (.gv id xs) v) (hu:RelD G.F w (.sl ys) u) (hky:∀y,y∈ys->y.length=k)
  (hb:(xs.length+ys.length)*yb<=140737488355328) (hm:xs.length+ys.length<=9223372036854775807) (opt:TypeId):
  ∃v' w' G',(Builtin.append_ #[t,t] opt #[v,u]).run c.P w = .ok v' w'/\
   R c G' { s with hp:=(id,some (.tok (xs.length+ys.length) k))::s.hp } a w'/\
   RelA G' (tokf ((id,some (.tok (xs.length+ys.length) k))::s.hp)) w' (.gv id (xs++ys)) v':=by
 obtain⟨i,hi1,hi2,hi3⟩:=ht.inf;obtain⟨i',z1,z2,z3⟩:=hz;rw[hi1] at z1;cases z1
 obtain⟨⟨base,cap0,hv0⟩,hcl⟩:=hv.gv_inv;have hT:tokf s.hp id=some (xs.length,k):=zaf.2 htok;obtain⟨hkx,htip⟩:=(hcl _ _ hT).2 rfl;have hT':tokf ((id,some (.tok (xs.length+ys.length) k))::s.hp) id=some (xs.length+ys.length,k):=zaf.2 o6;have hle:∃base cap,v = .slice base xs.length cap/\xs.length<=cap:=by
  rcases htip with ⟨h1,h2,h3⟩|⟨b,cap,cs,et,h1,h2,h3,h4,h5,h6,h7⟩
  ·exact⟨none,0,by rw[h2];exact h3,by omega⟩
  ·exact⟨_,cap,h2,h6⟩
 by_cases hm0:ys=[]
 ·subst hm0;obtain⟨base,cap,rfl,hle⟩:=hle;obtain⟨oa,oc,rfl⟩:∃oa oc,u = .slice oa 0 oc:=by obtain⟨oa,oc,h⟩:=hu.sl_len;exact⟨oa,oc,h⟩
  refine⟨_,w,G,zdV t opt e i ht.und hi1 base xs.length cap hle oa oc,hr.same htok, ?_⟩;show RelA G (tokf ((id,some (.tok xs.length k))::s.hp)) w (.gv id (xs++[])) _
  rw[zfP htok,xaq];exact hv
 obtain⟨oa0,cap0',_,h0,_⟩|⟨b2,off2,cap2,news,rfl,hcap2,hnl,hnc,hn1,hnr⟩:=hu.sl_cells hky
 ·exact absurd h0 hm0
 have hmpos:0<ys.length:=List.length_pos_iff.2 hm0;have hnews:∀j u,news[j]?=some u->w.cell? ((⟨b2,off2,none⟩:Addr).add j)=some u:=fun j u hj=>by rw[zcv];exact(hnc j u hj).2
 have hnl':news.length=ys.length*i.size:=by rw[hi2];exact hnl
 have hky':∀e,e∈xs++ys->e.length=k:=fun e he=>by
  rcases List.mem_append.1 he with h|h
  ·exact hkx e h
  ·exact hky e h
 have hlt:∀b o,o<G.F b->b<w.heap.size:=fun b o ho=>by
  rcases Nat.lt_or_ge b w.heap.size with h|h
  ·exact h
  ·rw[hr.top b h] at ho;omega

 have atNew:∀(olds:List Value),olds.length=xs.length*k->∀(tail:List Value) (F':Nat->Nat) (w':World),(∀x v,RelD G.F w x v->RelD F' w' x v)->
   (∀i (hi:i<xs.length) j (hj:j<xs[i].length),RelD G.F w xs[i][j] (olds.getD (i*k+j) undef))->
   ∀i (hi:i<(xs++ys).length) j (hj:j<(xs++ys)[i].length),RelD F' w' (xs++ys)[i][j] ((olds++news++tail).toArray.getD (i*k+j) undef):=by
  intro olds hol tail F' w' hmo hold;refine zoX (fun i hi j hj=>?_) (fun i hi j hj=>?_)
  ·have hlt':i*k+j<olds.length:=by
    have h1:xs[i].length=k:=hkx _ (xao hi);have:(i+1)*k<=xs.length*k:=xav _ od;rw[Nat.add_mul] at this;omega
   have e1:(olds++news++tail).toArray.getD (i*k+j) undef=olds.getD (i*k+j) undef:=by
    simp[List.getD,xar,List.getElem?_append_left hlt']
   rw[e1];exact hmo _ _ (hold i hi j hj)
  ·have h1:ys[i].length=k:=hky _ (xao hi);have hlt':i*k+j<news.length:=by
    have:(i+1)*k<=ys.length*k:=xav _ od;rw[Nat.add_mul] at this;omega
   have e0:(xs.length+i)*k+j=olds.length+(i*k+j):=by rw[hol,Nat.add_mul];omega
   have e1:(olds++news++tail).toArray.getD ((xs.length+i)*k+j) undef=news[i*k+j]:=by
    rw[e0];simp[List.getD,xar,List.getElem?_append_right,List.getElem?_append_left hlt',hlt']
   rw[e1];exact hmo _ _ (hnr i hi j hj hlt')
 have fresh:∀(olds:List Value) (nc:Nat),olds.length=xs.length*k->xs.length+ys.length<=nc->
   (∀i (hi:i<xs.length) j (hj:j<xs[i].length),RelD G.F w xs[i][j] (olds.getD (i*k+j) undef))->
   ∃G',R c G' { s with hp:=(id,some (.tok (xs.length+ys.length) k))::s.hp } a (w.drew.alloc (.cells (olds.toArray++news.toArray++Builtin.zeroCells z.cells (nc-(xs.length+ys.length))) e))/\
    RelA G' (tokf ((id,some (.tok (xs.length+ys.length) k))::s.hp)) (w.drew.alloc (.cells (olds.toArray++news.toArray++Builtin.zeroCells z.cells (nc-(xs.length+ys.length))) e))
     (.gv id (xs++ys)) (.slice (some ⟨w.heap.size,0,none⟩) (xs.length+ys.length) nc):=by
  intro olds nc hol hnc' hold;let cells:Array Value:=olds.toArray++news.toArray++Builtin.zeroCells z.cells (nc-(xs.length+ys.length))
  let G':Gh:={ F:=G.F,loc:=fun j=>bif Nat.beq j id then [w.heap.size] else G.loc j }
  have hcs:cells.size=nc*k:=by
   simp only[cells,Array.size_append,List.size_toArray,size_zeroCells,z3,hol,hnl,<-Nat.add_mul];congr 1;omega
  have hcell:∀b o,o<G.F b->o<G'.F b/\(w.drew.alloc (.cells cells e)).cell? ⟨b,o,none⟩=w.cell? ⟨b,o,none⟩:=fun b o ho=>by
   have hb:=hlt b o ho;exact⟨ho,by rw[World.cell?_alloc_lt w.drew _ _ hb];rfl⟩
  have hlocne:∀j,j≠id->G'.loc j=G.loc j:=fun j hj=>by
   have:Nat.beq j id=false:=by
    cases h:Nat.beq j id with
    |true=>exact absurd (xap h) hj
    |false=>rfl
   simp[G',this]
  have hlocid:G'.loc id=[w.heap.size]:=by simp[G']
  refine⟨G',hr.retok (G':=G') htok od hcell hlocne (fun b hb _=>⟨zdN (w:=w.drew) hb,rfl⟩) (fun b hb=>by rw[hlocid] at hb;simp at hb;subst hb;simp)
   (fun b hb=>by rw[hlocid] at hb;simp at hb;exact .inr od) rfl rfl rfl oe (fun b hb=>?_), ?_⟩
  ·have hb':w.heap.size+1<=b:=by simpa using hb
   exact hr.top b od
  refine .gv ⟨_,_,by rw[xaa]⟩ (fun n' k' hm'=>?_);rw[hT'] at hm';cases hm'
  refine⟨by simp,fun _=>⟨hky',.inr ⟨w.heap.size,nc,cells,e,hlocid,rfl,hr.top _ (Nat.le_refl _),zdY (w:=w.drew),by rw[hcs];exact Nat.le_refl _,hnc', ?_⟩⟩⟩;have:=atNew olds hol (Builtin.zeroCells z.cells (nc-(xs.length+ys.length))).toList G.F (w.drew.alloc (.cells cells e)) (fun x v h=>h.mono hcell) hold;have ec:cells=(olds++news++(Builtin.zeroCells z.cells (nc-(xs.length+ys.length))).toList).toArray:=by
   apply Array.ext';simp[cells]
  intro i hi j hj;rw[ec];exact this i hi j hj
 rcases htip with ⟨h1,h2,h3⟩|⟨b,cap,cs,et,h1,h2,h3,h4,h5,h6,h7⟩
 ·
  have hx0:xs=[]:=List.eq_nil_of_length_eq_zero h2;subst hx0;subst h3;simp only[xak,Nat.zero_add] at hb hm fresh ⊢;have hrun:=run_append_nil (P:=c.P) w t opt e i z ht.und hi1 z2 ⟨b2,off2,none⟩ ys.length cap2 news hnl' hnews hmpos od (by rw[hi3];omega);obtain⟨G',hR,hA⟩:=fresh [] (grownCap w ys.length 0 e) oe (by
   have:=grownCap_ge w ys.length 0 e;omega) (fun j hj=>by simp at hj)
  simp only[List.nil_append,Array.empty_append] at hR hA hrun ⊢;exact⟨_,_,G',hrun,hR,hA⟩
 ·subst h2;have hmul:xs.length*k<=cs.size:=Nat.le_trans (xav _ h6) h5;have hold:∀i (hi:i<xs.length) j (hj:j<xs[i].length),RelD G.F w xs[i][j] ((cs.toList.take (xs.length*k)).getD (i*k+j) undef):=fun i hi j hj=>by
   have h8:xs[i].length=k:=hkx _ (xao hi);have hlt':i*k+j<xs.length*k:=by
    have:(i+1)*k<=xs.length*k:=xav _ od;rw[Nat.add_mul] at this;omega
   have:=h7 i hi j hj;have e1:(cs.toList.take (xs.length*k)).getD (i*k+j) undef=cs.getD (i*k+j) undef:=by
    have hs:i*k+j<cs.size:=by omega
    simp[List.getD,List.getElem?_take,hlt',Array.getD,hs]
   rw[e1];exact this
  by_cases hroom:xs.length+ys.length<=cap
  ·
   have hfit:xs.length*i.size+news.length<=cs.size:=by
    rw[hi2,hnl,<-Nat.add_mul];exact Nat.le_trans (xav _ hroom) h5
   have hrun:=zeE (P:=c.P) t opt e i ht.und hi1 b xs.length cap cs et h4 ⟨b2,off2,none⟩ ys.length cap2 news hnl' hnews hn1 hroom hfit;rw[hi2] at hrun hfit;let row:Array Value:=(cs.toList.take (xs.length*k)++news++cs.toList.drop (xs.length*k+news.length)).toArray
   have hrs:row.size=cs.size:=by
    simp only[row,List.size_toArray,xaa,List.length_take,List.length_drop,Array.length_toList];omega
   have hcell:∀b' o,o<G.F b'->o<G.F b'/\(w.setRow b row).cell? ⟨b',o,none⟩=w.cell? ⟨b',o,none⟩:=fun b' o ho=>by
    have hbb:b'≠b:=fun e=>by subst e;omega
    exact⟨ho,cell_setRow_other w b row _ hbb⟩
   have hbs:b<w.heap.size:=by
    rcases Nat.lt_or_ge b w.heap.size with h|h
    ·exact h
    ·rw[Array.getElem?_eq_none h] at h4;cases h4
   refine⟨_,_,G,hrun,hr.retok (G':=G) htok od hcell (fun _ _=>rfl) (fun b' hb' hn=>?_) (fun x hx=>by rw[h1] at hx;simp at hx;subst hx;simpa using hbs) (fun b' hb'=> .inl hb') rfl rfl rfl oe (fun b' hb'=>?_), ?_⟩
   ·have hne:b'≠b:=fun e=>hn (by rw[h1,e];simp);exact⟨setRow_other w b b' row hne,rfl⟩
   ·have hb2':w.heap.size<=b':=by simpa using hb'
    exact hr.top b' hb2'
   ·refine .gv ⟨_,_,by rw[xaa]⟩ (fun n' k' hm'=>?_);rw[hT'] at hm';cases hm'
    refine⟨by simp,fun _=>⟨hky',.inr ⟨b,cap,row,et,h1,rfl,h3,setRow_heap w b cs row et _ h4,by rw[hrs];exact h5,hroom, ?_⟩⟩⟩;exact atNew (cs.toList.take (xs.length*k)) om _ G.F (w.setRow b row) (fun x v h=>h.mono hcell) hold
  ·
   have hrun:=run_append_grow (P:=c.P) w t opt e i z ht.und hi1 z2 ⟨b,0,none⟩ xs.length cap (cs.toList.take (xs.length*k)) (by rw[hi2];simp;omega)
    (fun j u hj=>by
     rw[zcv];obtain⟨hj1,hj2⟩:=List.getElem?_eq_some_iff.1 hj;simp only[List.getElem_take] at hj2;have hjs:j<cs.size:=by simp at hj1;omega
     simp only[World.cell?,h4,Option.isSome_none,Bool.false_eq_true,if_false,Nat.zero_add];rw[Array.getElem?_eq_getElem hjs,<-hj2];simp) ⟨b2,off2,none⟩ ys.length cap2 news hnl' hnews od od (by rw[hi3];exact growslice_fits od hb)
   obtain⟨G',hR,hA⟩:=fresh (cs.toList.take (xs.length*k)) (grownCap w (xs.length+ys.length) cap e) om (by have:=grownCap_ge w (xs.length+ys.length) cap e;omega) hold;exact⟨_,_,G',hrun,hR,hA⟩
theorem R.mkTokV {G:Gh}{s:St}{a:Act}{w:World} (hr:R c G s a w){id:Nat} (k:Nat) (h0:getH s.hp id=none) (hocc:zcI id s):
  ∃G',R c G' { s with hp:=(id,some (.tok 0 k))::s.hp } a w/\RelA G' (tokf ((id,some (.tok 0 k))::s.hp)) w (.gv id []) (.slice none 0 0):=by
 have h1:=hr.rename h0 hocc [];have hl:(fun i=>bif Nat.beq i id then ([]:List Nat) else G.loc i) id=[]:=by simp
 refine⟨_,h1.name h0 hocc (fun b hb=>by simp at hb) (fun i _ b _ hb=>by simp at hb) (fun b hb=>by simp at hb), ?_⟩;refine .gv ⟨none,0,I⟩ (fun n k' hT=>?_);have:=zaf.1 hT;rw[zaa,if_pos rfl] at this;cases this
 exact⟨Nat.le_refl _,fun _=>⟨by simp,.inl ⟨hl,rfl,rfl⟩⟩⟩
theorem ziU {xs:List (List D)}{k:Nat} (hk:∀x,x∈xs->x.length=k){i:Nat} (hi:i<xs.length){j:Nat} (hj:j<k):(xs.flatten.map AV.d)[i*k+j]?=some (.d (xs[i][j]'(by rw[hk _ (xao hi)];exact hj))):=by
 have:=zn2 hk i hi j hj;rw[List.getElem?_map,this,xan (by rw[hk _ (xao hi)];exact hj)];rfl
theorem Rel.fixV {env:Env}{hp:Hp}{ids:List Nat} (hkp:KeptIn c.kept ids) (t id k:Nat){xs:List (List D)} (ht:getE env t=some (.gv id xs)) (hb:getH hp id=some (.tok xs.length k)) (hid:zaB id ids=false){a:Act}{w:World} (hrel:Rel c ⟨env,hp⟩ a w):
  (xs=[]/\Rel c ⟨(t,.d (.sl []))::env,(id,none)::hp⟩ a w)\/(xs≠[]/\Rel c ⟨(t,.ms id xs.length)::env,(id,some (.box (xs.flatten.map .d)))::hp⟩ a w):=by
 obtain⟨G,hr⟩:=hrel;have hT:tokf hp id=some (xs.length,k):=zaf.2 hb;have hsl:=hr.slots t _ ht;obtain⟨⟨ad,cap0,hv0⟩,hcl⟩:=hsl.gv_inv;obtain⟨hkx,htip⟩:=(hcl _ _ hT).2 rfl;have hkne:∀i l,c.kept i=some l->i≠id:=fun i l hk e=>by
  subst e;have:=zat.2 (hkp.mem i l hk);rw[this] at hid;cases hid

 have hm:∀(r:Option Res),(∀n k,r≠some (.tok n k))->∀ {x:AV}{v:Value},RelA G (tokf hp) w x v->(r.isSome->id∉x.ids->True)->RelA G (tokf ((id,r)::hp)) w x v:=by
  intro r hnr x v hx _;refine hx.mono (fun _ _ ho=>⟨ho,I⟩) (fun _ _=> .inl I) (fun i _ p hp'=>?_);obtain⟨n,q⟩:=p;have:=zaf.1 hp';rw[zaa] at this;split at this
  ·exact absurd this (hnr n q)
  ·exact⟨zaf.2 this,fun _ _=>⟨rfl,rfl⟩⟩
 have base:∀(r:Option Res) (v:AV),(∀n k,r≠some (.tok n k))->RelA G (tokf ((id,r)::hp)) w v (a.tmps.getD t undef)->(∀x,r=some x->RelR G (tokf ((id,r)::hp)) w id x)->
   Rel c ⟨(t,v)::env,(id,r)::hp⟩ a w:=by
  intro r v hnr hv hrr;have hsome:∀i,(getH ((id,r)::hp) i).isSome->(getH hp i).isSome:=fun i hi=>by
   rw[zaa] at hi;split at hi
   ·rename_i e;subst e;rw[hb];rfl
   ·exact hi
  refine⟨G,hr.size,hr.defers,fun i x hi=>?_,fun i x hi=>?_,fun i j q1 q2=>hr.disj i j (hsome i q1) (hsome j q2),fun i q1=>hr.new i (hsome i q1),hr.frm,hr.top,fun i l hk=>?_⟩
  ·simp only[getE] at hi;cases hti:Nat.beq t i with
   |true=>
    have:=xap hti;subst this;simp only[hti,cond_true,xae] at hi;subst hi;exact hv
   |false=>
    simp only[hti,cond_false] at hi;exact hm r hnr (hr.slots i x hi) (fun _ _=>trivial)
  ·have hi':getH ((id,r)::hp) i=some x:=hi;rw[zaa] at hi';split at hi'
   ·rename_i e;subst e;exact hrr x hi'
   ·have hh:=hr.heap i x hi';cases x with
    |box cs2=>
     obtain⟨b2,vs2,e2,q1,q2,q3,q4,q5⟩:=hh;exact⟨b2,vs2,e2,q1,q2,q3,q4,fun j hj hv=>hm r hnr (q5 j hj hv) (fun _ _=>trivial)⟩
    |tok m q=>exact hh
    |map ks=>exact hh
    |tree cs2=>exact za3 hh I (fun _ _=>⟨I,I⟩) (Nat.le_refl _) (fun _ _ _ h=>hm r hnr h (fun _ _=>trivial))
  ·have hk':=hr.kept i l hk;have hne:=hkne i l hk;show(G.loc i).head?=l.head?/\(getH ((id,r)::hp) i).isSome/\tokf ((id,r)::hp) i=none
   have hg:getH ((id,r)::hp) i=getH hp i:=by rw[zaa,if_neg hne]
   refine⟨hk'.1,by rw[hg];exact hk'.2.1, ?_⟩;have h2:=hk'.2.2;unfold tokf at h2 ⊢;rw[hg];exact h2
 by_cases hx0:xs=[]
 ·refine .inl ⟨hx0,base none _ (fun _ _=>by simp) ?_ (fun x h=>by cases h)⟩;subst hx0;rw[hv0];cases ad with
  |none=>
   rcases htip with ⟨h1,h2,h3⟩|⟨b,cap,cs,et,h1,h2,_⟩
   ·rw[hv0] at h3;rw[h3];exact .d .nil
   ·rw[hv0] at h2;cases h2
  |some ad=>
   obtain⟨b,o,sp⟩:=ad;cases sp with
   |none=>exact .d (.sl [] 0 b o cap0 (fun _=>undef) oe oe (fun n hn=>by simp at hn) (fun i hi=>by simp at hi))
   |some s=>exact .d (.emp b o s cap0)
 ·rcases htip with ⟨h1,h2,h3⟩|⟨b,cap,cs,et,h1,h2,h3,h4,h5,h6,h7⟩
  ·exact absurd (List.eq_nil_of_length_eq_zero h2) hx0
  ·have hnt:tokf ((id,some (Res.box (xs.flatten.map .d)))::hp) id=none:=by
    unfold tokf;rw[zaa,if_pos rfl]
   refine .inr ⟨hx0,base (some (.box (xs.flatten.map .d))) _ (fun _ _=>by simp) ?_ (fun x h=>?_)⟩
   ·have hv1:a.tmps.getD t undef = .slice (some ⟨b,0,none⟩) xs.length cap:=h2;rw[hv1];exact .ms (zgH h1) hnt h6
   ·cases h
    refine⟨b,cs,et,h1,h4, ?_,h3,fun i hi hv=>?_⟩
    ·rw[xac,zfp hkx];exact Nat.le_trans (xav _ h6) h5
    ·have hi':i<xs.length*k:=by rw[xac,zfp hkx] at hi;exact hi
     have hkpos:0<k:=by
      rcases Nat.eq_zero_or_pos k with h|h
      ·subst h;simp at hi'
      ·exact h
     have hq:i / k<xs.length:=Nat.div_lt_of_lt_mul (by rw[Nat.mul_comm];exact hi');have hrm:i % k<k:=Nat.mod_lt _ hkpos;have e1:=ziU hkx hq hrm;rw[Nat.div_add_mod'] at e1;rw[xan hi] at e1;rw[Option.some.inj e1];have h8:=h7 (i / k) hq (i % k) (by rw[hkx _ (xao hq)];exact hrm);rw[Nat.div_add_mod'] at h8;have e2:cs.getD i undef=cs[i]:=by simp[Array.getD,hv]
     rw[e2] at h8;exact .d h8
theorem CWp.fixV {env:Env}{hp:Hp}{K:Kt}{code:Code}{ids:List Nat} (hkp:KeptIn c.kept ids) (t id k:Nat){xs:List (List D)} (ht:getE env t=some (.gv id xs)) (hb:getH hp id=some (.tok xs.length k)) (hid:zaB id ids=false)
  (h0:xs=[]->CWp c code ⟨(t,.d (.sl []))::env,(id,none)::hp⟩ K)
  (hn:xs≠[]->CWp c code ⟨(t,.ms id xs.length)::env,(id,some (.box (xs.flatten.map .d)))::hp⟩ K):CWp c code ⟨env,hp⟩ K:=by
 intro a w hrel;rcases Rel.fixV hkp t id k ht hb hid hrel with ⟨h,hr⟩|⟨h,hr⟩
 ·exact h0 h a w hr
 ·exact hn h a w hr
end
section
variable {c:Ctx}{all:Array Oper}{chk:List Rec->Prop}{os:List Oper}{recs:List Rec}{env:Env}{hp:Hp}{Q:St->Prop}
variable {d ty:Nat}{pos:String}{af:Array Edge}{g:Option (Nat×Bool)}{pg:List (Nat×AV)}
variable {t yt:TypeId}{x y:Operand}
theorem Walk.lenV {xs:List (List D)}{at_ e k yb id:Nat} (ht:SlT c.P at_ e k yb) (hg:GH all env g pg) (hd:Nat.blt d c.n=true) (hx:opd env x=some (.gv id xs))
  (hn:Walk c all chk os (zal (pg++opF x (.gv id xs)) [] [] ⟨some (d,.d (.i xs.length)),[]⟩::recs) ⟨(d,.d (.i xs.length))::env,hp⟩ Q):
  Walk c all chk (⟨some d,.call ⟨.builtin .len,#[x],#[at_]⟩,ty,pos,af,g⟩::os) recs ⟨env,hp⟩ Q:=
 xbL hg hd hx (fun a G T w h=>⟨.int .i64 xs.length,by
  obtain⟨⟨ad,cap,he⟩,_⟩:=h.gv_inv;simp[execOp,resolve,invoke,builtin,he,zgb ht],.d (.int _ _)⟩) hn
theorem Walk.mkRowGV {op:Op}{xs:List Operand}{vs:List AV}{es:List (List D)}{k:Nat} (id:Nat) (hg:GH all env g pg) (hd:Nat.blt d c.n=true) (hx:opdL env xs=some vs) (hk:∀e,e∈es->e.length=k)
  (hf:zaz env hp [id]=true)
  (h:∀(a:Act) (G:Gh) (T:TokF) (w:World),(vs.length=xs.length/\∀i (hi:i<vs.length) (hx:i<xs.length),RelA G T w vs[i] (a.eval xs[i]))->
   ∃us e,(execOp a.eval ⟨some d,op,ty,pos,af,g⟩).run c.P w = .ok (.value (.slice (some ⟨w.heap.size,0,none⟩) es.length es.length)) (w.alloc (.cells us e))/\us.size=es.length*k/\
    ∀i (hi:i<es.length) j (hj:j<es[i].length) (hu:i*k+j<us.size),RelD G.F w es[i][j] us[i*k+j])
  (hn:Walk c all chk os (zal (pg++opFL xs vs) [] [id] ⟨some (d,.gv id es),[(id,some (.tok es.length k))]⟩::recs) ⟨(d,.gv id es)::env,(id,some (.tok es.length k))::hp⟩ Q):
  Walk c all chk (⟨some d,op,ty,pos,af,g⟩::os) recs ⟨env,hp⟩ Q:=by
 refine⟨pg++opFL xs vs,[],[id],_, ?_,zaq hg.facts (zbX hx),by simp,zbf hf,hn⟩;intro s a w hrel hp' hh hcr K Q' hK;obtain⟨G,hr⟩:=hrel;obtain⟨h0,hocc⟩:=hcr id oe;obtain⟨us,e,e1,e2,e3⟩:=h a G (tokf s.hp) w (zcT hr (zcc hx (fun p hm=>hp' p (by simp[hm]))));have hr':=(hr.alloc (.cells us e) 0).rename h0 hocc [w.heap.size];have hloc:∀i,i≠id->(bif Nat.beq i id then [w.heap.size] else G.loc i)=G.loc i:=fun i h=>by
  cases hb:Nat.beq i id with
  |true=>exact absurd (xap hb) h
  |false=>rfl
 have hR:=hr'.name (r:= .tok es.length k) h0 hocc (fun b hb=>by simp at hb;subst hb;simp) (fun i hi b hb=>by
  have hi':i≠id:=fun e=>by subst e;rw[h0] at hi;cases hi
  have hb':b∈G.loc i:=by have:=hloc i hi';simp only[this] at hb;exact hb
  obtain⟨r,hrr⟩:=Option.isSome_iff_exists.1 hi;have hlt:b<w.heap.size:=(hr.heap i r hrr).bound b hb';simp;omega) (fun b hb=>by
  simp at hb;subst hb;exact .inr hr.frm.size)
 unfold wpO;rw[if_pos (hg.gf.wanted hr (fun p hm=>hp' p (by simp[hm])))];unfold Oper.wp;rw[e1,Oper.upon_value];refine hK _ _ ⟨_,hR.put (v:= .gv id es) (.gv ⟨_,_,I⟩ (fun n k' hT=>?_)) hd⟩;have:=zaf.1 hT;have h2:getH ((id,some (Res.tok es.length k))::s.hp) id=some (.tok n k'):=this;rw[zaa,if_pos rfl] at h2;cases h2
 refine⟨Nat.le_refl _,fun _=>⟨hk,.inr ⟨w.heap.size,es.length,us,e,by simp,rfl,by simp,zdY,by rw[e2];exact Nat.le_refl _,Nat.le_refl _,fun i hi j hj=>?_⟩⟩⟩;have hjk:j<k:=by rw[<-hk _ (xao hi)];exact hj
 have hlt:i*k+j<us.size:=by
  have:(i+1)*k<=es.length*k:=xav _ od;rw[Nat.add_mul] at this;omega
 have h4:=e3 i hi j hj hlt;have h5:us.getD (i*k+j) undef=us[i*k+j]:=by simp[Array.getD,hlt]
 rw[h5];refine h4.mono (fun b o ho=>?_);have hb:b<w.heap.size:=by
  rcases Nat.lt_or_ge b w.heap.size with h|h
  ·exact h
  ·rw[hr.top b h] at ho;omega
 have:Nat.beq b w.heap.size=false:=by
  cases h:Nat.beq b w.heap.size with
  |true=>have:=xap h;omega
  |false=>rfl
 exact⟨by simpa [this] using ho,World.cell?_alloc_lt w _ _ hb⟩
theorem xbU {t:TypeId}{e k yb:Nat} (id:Nat) (ht:SlT c.P t e k yb) (hg:GH all env g pg) (hd:Nat.blt d c.n=true) (hfr:zaz env hp [id]=true)
  (hn:Walk c all chk os (zal (pg++opFL [] []) [] [id] ⟨some (d,.gv id []),[(id,some (.tok 0 k))]⟩::recs) ⟨(d,.gv id [])::env,(id,some (.tok 0 k))::hp⟩ Q):
  Walk c all chk (⟨some d,.buildSlice t 0 #[],ty,pos,af,g⟩::os) recs ⟨env,hp⟩ Q:=by
 refine Walk.mkRowGV (xs:=[]) (vs:=[]) (es:=[]) (k:=k) id hg hd I oe hfr (fun a G T w h=>?_) hn;obtain⟨ie,hi1,hi2,hi3⟩:=ht.inf;refine⟨#[],e, ?_,by simp,fun i hi=>by simp at hi⟩;simp[execOp,Instr.buildSlice,run_underlying ht.und,sizeOf,zex hi1,Instr.fill,newRow,Array.range_zero']
end
def Res.avs:Res->List AV
 | .box cs=>cs
 | .tree cs=>cs
 |_=>[]
theorem Res.avs_ids {r:Res}{x:AV} (hx:x∈r.avs):∀id,id∈x.ids->id∈r.ids:=by
 intro id hid;cases r with
 |box cs=>exact xay hx hid
 |tree cs=>exact xay hx hid
 |_=>simp[Res.avs] at hx
structure Turn (c:Ctx) (G:Gh) (s:St) (w:World) (G':Gh) (hp':Hp) (L:List Nat):Prop where
 get:∀i,i∉L->getH hp' i=getH s.hp i
 loc:∀i,i∉L->G'.loc i=G.loc i
 fro:∀b,(∀j,j∈L->(getH s.hp j).isSome->b∉G.loc j)->G'.F b=G.F b
 fle:∀b o,o<G.F b->o<G'.F b
 ftop:∀b,w.heap.size<=b->G'.F b=0
 occ:∀i,i∈L->zcI i s\/(LocEq (tokf hp') G' G i/\∀p,tokf hp' i=some p->tokf s.hp i=some p/\∀b,b∈G.loc i->G'.F b=G.F b)
 blk:∀i,i∈L->(getH hp' i).isSome->∀b,b∈G'.loc i->∃j,j∈L/\(getH s.hp j).isSome/\b∈G.loc j
 dis:∀i,i∈L->∀j,j∈L->i≠j->(getH hp' i).isSome->(getH hp' j).isSome->∀b,b∈G'.loc i->b∉G'.loc j
 keep:∀i,i∈L->∀l,c.kept i=some l->(G'.loc i).head?=l.head?/\(getH hp' i).isSome/\tokf hp' i=none
section
variable {c:Ctx}{G G':Gh}{s:St}{a:Act}{w:World}{hp':Hp}{L:List Nat}
theorem Turn.away (h:Turn c G s w G' hp' L) (hr:R c G s a w){i:Nat} (hi:i∉L) (hs:(getH s.hp i).isSome):∀b,b∈G.loc i->G'.F b=G.F b:=
 fun b hb=>h.fro b (fun j hj hjs hbj=>hr.disj i j hs hjs (fun e=>hi (e ▸ hj)) b hb hbj)
theorem Turn.rel (h:Turn c G s w G' hp' L) (hr:R c G s a w){x:AV}{v:Value} (hx:∀i,i∈L->zcI i s->i∉x.ids) (hR:RelA G (tokf s.hp) w x v):RelA G' (tokf hp') w x v:=by
 refine hR.mono (fun b o ho=>⟨h.fle b o ho,I⟩) (fun i hi=>?_) (fun i hi p hp=>?_)
 ·by_cases hL:i∈L
  ·rcases h.occ i hL with ho|ho
   ·exact absurd hi (hx i hL ho)
   ·exact ho.1
  ·exact .inl (h.loc i hL)
 ·by_cases hL:i∈L
  ·rcases h.occ i hL with ho|ho
   ·exact absurd hi (hx i hL ho)
   ·obtain⟨h1,h2⟩:=ho.2 p hp;exact⟨h1,fun b hb=>⟨rfl,h2 b hb⟩⟩
  ·have hT:tokf s.hp i=some p:=by unfold tokf at hp ⊢;rw[h.get i hL] at hp;exact hp
   refine⟨hT,fun b hb=>⟨rfl,h.away hr hL ?_ b hb⟩⟩;obtain⟨n,k⟩:=p;rw[zaf.1 hT];rfl
theorem Turn.slot (h:Turn c G s w G' hp' L) (hr:R c G s a w){t:Nat}{x:AV}{v:Value} (ht:getE s.env t=some x) (hR:RelA G (tokf s.hp) w x v):RelA G' (tokf hp') w x v:=
 h.rel hr (fun i _ ho hx=>ho.1 t x ht hx) hR
theorem Turn.cell (h:Turn c G s w G' hp' L) (hr:R c G s a w){j:Nat}{r:Res}{x:AV}{v:Value} (hj:getH s.hp j=some r) (hx:x∈r.avs) (hR:RelA G (tokf s.hp) w x v):RelA G' (tokf hp') w x v:=
 h.rel hr (fun i _ ho hi=>ho.2 j r hj (Res.avs_ids hx i hi)) hR
theorem Turn.fin (h:Turn c G s w G' hp' L) (hr:R c G s a w) (hL:∀i,i∈L->∀r,getH hp' i=some r->RelR G' (tokf hp') w i r):R c G' ⟨s.env,hp'⟩ a w:=by
 have hsome:∀i,i∉L->(getH hp' i).isSome->(getH s.hp i).isSome:=fun i hi hs=>by rw[h.get i hi] at hs;exact hs
 let own1:List Nat:=L.flatMap fun j=>if (getH s.hp j).isSome then G.loc j else []
 have hown:∀b,b∈own1↔∃j,j∈L/\(getH s.hp j).isSome/\b∈G.loc j:=fun b=>by
  simp only[own1,List.mem_flatMap];constructor
  ·rintro ⟨j,hj,hb⟩
   by_cases hs:(getH s.hp j).isSome
   ·rw[if_pos hs] at hb;exact⟨j,hj,hs,hb⟩
   ·rw[if_neg hs] at hb;simp at hb
  ·rintro ⟨j,hj,hs,hb⟩
   exact⟨j,hj,by rw[if_pos hs];exact hb⟩
 refine⟨hr.size,hr.defers,fun i v hi=>h.slot hr hi (hr.slots i v hi),fun i r hi=>?_,fun i j h1 h2 hne b hb=>?_,fun i h1 b hb=>?_,
  hr.frm.trans (own1:=own1) ⟨rfl,rfl,rfl,Nat.le_refl _,fun b _ hb=>⟨rfl,h.fro b (fun j hj hs hbj=>hb ((hown b).2 ⟨j,hj,hs,hbj⟩))⟩,fun b o ho=>⟨h.fle b o ho,rfl⟩⟩ (fun b hb=>?_),h.ftop,fun i l hl=>?_⟩
 ·by_cases hi':i∈L
  ·exact hL i hi' r hi
  ·have hg:getH s.hp i=some r:=by have:=h.get i hi';rw[<-this];exact hi
   have hh:=hr.heap i r hg;have hs:(getH s.hp i).isSome:=by rw[hg];rfl
   have hl:=h.loc i hi';have ha:=h.away hr hi' hs;cases r with
   |box cs=>
    obtain⟨b,vs,e,h1,h2,h3,h4,h5⟩:=hh;exact⟨b,vs,e,hl.trans h1,h2,h3,(ha b (by simp[h1])).trans h4,fun j hj hv=>h.cell hr hg (xao hj) (h5 j hj hv)⟩
   |tok n k=>exact fun b hb=>hh b (by rw[hl] at hb;exact hb)
   |map ks=>
    obtain⟨b,es,cl,h1,h2,h3,h4⟩:=hh;exact⟨b,es,cl,hl.trans h1,h2,(ha b (by simp[h1])).trans h3,h4⟩
   |tree cs=>exact za3 hh hl (fun b hb=>⟨I,ha b hb⟩) (Nat.le_refl _) (fun x hx v=>h.cell hr hg hx)
 ·have key:∀i j,i∈L->j∉L->(getH hp' i).isSome->(getH hp' j).isSome->∀b,b∈G'.loc i->b∉G'.loc j:=fun i j hi hj h1 h2 b hb hbj=>by
   obtain⟨i2,h3,h4,h5⟩:=h.blk i hi h1 b hb;rw[h.loc j hj] at hbj;exact hr.disj i2 j h4 (hsome j hj h2) (fun e=>hj (e ▸ h3)) b h5 hbj
  by_cases hi:i∈L<;>by_cases hj:j∈L
  ·exact h.dis i hi j hj hne h1 h2 b hb
  ·exact key i j hi hj h1 h2 b hb
  ·exact fun hbj=>key j i hj hi h2 h1 b hbj hb
  ·rw[h.loc i hi] at hb;rw[h.loc j hj];exact hr.disj i j (hsome i hi h1) (hsome j hj h2) hne b hb
 ·by_cases hi:i∈L
  ·obtain⟨j,h3,h4,h5⟩:=h.blk i hi h1 b hb;exact hr.new j h4 b h5
  ·rw[h.loc i hi] at hb;exact hr.new i (hsome i hi h1) b hb
 ·obtain⟨j,h3,h4,h5⟩:=(hown b).1 hb;exact hr.new j h4 b h5
 ·by_cases hi:i∈L
  ·exact h.keep i hi l hl
  ·have hk:=hr.kept i l hl;refine⟨by rw[h.loc i hi];exact hk.1,by rw[h.get i hi];exact hk.2.1, ?_⟩;have:=hk.2.2;unfold tokf at this ⊢;rw[h.get i hi];exact this
theorem R.slot (hr:R c G s a w){t:Nat}{x:AV} (h:RelA G (tokf s.hp) w x (a.tmps.getD t undef)):R c G ⟨(t,x)::s.env,s.hp⟩ a w:=by
 refine⟨hr.size,hr.defers,fun i v hi=>?_,hr.heap,hr.disj,hr.new,hr.frm,hr.top,hr.kept⟩;simp only[getE] at hi;cases hb:Nat.beq t i with
 |true=>
  have:=xap hb;subst this;simp only[hb,cond_true,xae] at hi;subst hi;exact h
 |false=>
  simp only[hb,cond_false] at hi;exact hr.slots i v hi
end
def ownD (m:Bool):D->AV
 | .int k n=> .d (.int k n)
 | .bool b=> .d (.bool b)
 | .str s=> .d (.str s)
 |x=> .own m x
def zay (m:Bool) (xs:List (List D)):List AV:=xs.flatten.map (ownD m)
theorem zsD (m:Bool) (x:D):(ownD m x).ids=[]:=by cases x<;>rfl
theorem zai (m:Bool) (xs:List (List D)):AV.idsL (zay m xs)=[]:=by
 unfold zay;generalize xs.flatten=l;induction l with
 |nil=>rfl
 |cons x l ih=>simp[AV.idsL,zsD,ih]
theorem zdr {m:Bool}{xs:List (List D)}{k:Nat} (hk:∀x,x∈xs->x.length=k):(zay m xs).length=xs.length*k:=by
 unfold zay;rw[xac,zfp hk]
theorem zlf (m:Bool) (a b:List (List D)):zay m (a++b)=zay m a++zay m b:=by simp[zay]
theorem zcf (m:Bool) (x:List D) (b:List (List D)):zay m (x::b)=x.map (ownD m)++zay m b:=by simp[zay]
theorem zjX {m:Bool}{xs:List (List D)}{k i j:Nat} (hk:∀x,x∈xs->x.length=k) (hi:i<xs.length) (hj:j<xs[i].length):
  (zay m xs)[i*k+j]?=some (ownD m xs[i][j]):=by
 have hjk:j<k:=by rw[<-hk _ (xao hi)];exact hj
 have:=ziU (xs:=xs) hk hi hjk;simp only[zay,List.getElem?_map] at this ⊢;revert this
 cases xs.flatten[i*k+j]? with
 |none=>simp
 |some y=>intro h;simp only[Option.map_some,xae,AV.d.injEq] at h;simp[h]
theorem CellR.ofTree {G:Gh}{T:TokF}{m:Bool}{w:World}{x:D}{v:Value}{S:List Nat} (h:TreeD m w x v S):CellR G T w (ownD m x) v S:=by
 cases h with
 |int k n=>exact⟨rfl,.d (.int _ _)⟩
 |bool b=>exact⟨rfl,.d (.bool _)⟩
 |str s=>exact⟨rfl,.d (.str _)⟩
 |nil=>exact TreeD.nil
 |emp b off s cap hm=>exact TreeD.emp b off s cap hm
 |em0 b off cap hm=>exact TreeD.em0 b off cap hm
 |sl xs k b cap cs e Ss hk hcap hb hc hr hz=>exact TreeD.sl xs k b cap cs e Ss hk hcap hb hc hr hz
def zk1:D->Bool
 | .int _ _=>true
 | .bool _=>true
 | .str _=>true
 | .sl []=>true
 |_=>false
theorem TreeD.ofFlat {m:Bool}{F:Nat->Nat}{w:World}{x:D}{v:Value} (hf:zk1 x=true) (hm:m=false\/x≠ .sl []) (h:RelD F w x v):TreeD m w x v []:=by
 cases h with
 |int k n=>exact .int _ _
 |bool b=>exact .bool _
 |str s=>exact .str _
 |nil=>exact .nil
 |emp b off s cap=>exact .emp b off s cap (hm.resolve_right (fun h=>h I))
 |sl xs k b off cap c hk hcap hc hr=>
  cases xs with
  |nil=>exact .em0 b off cap (hm.resolve_right (fun h=>h I))
  |cons x r=>simp[zk1] at hf
 |ptr cs b o off c hc hr=>simp[zk1] at hf
 |nilp=>simp[zk1] at hf
theorem xa5 {m:Bool}{w:World}{x:D}{v:Value}{S:List Nat} (h:TreeD m w x v S):TreeD false w x v S:=by
 induction h with
 |int k n=>exact .int _ _
 |bool b=>exact .bool _
 |str s=>exact .str _
 |nil=>exact .nil
 |emp b off s cap _=>exact .emp b off s cap I
 |em0 b off cap _=>exact .em0 b off cap I
 |sl xs k b cap cs e Ss hk hcap hb hc hr hz ih=>
  refine .sl xs k b cap cs e Ss hk hcap hb ?_ ih (fun h=>by cases h);refine Nat.le_trans (xav _ ?_) hc;cases m
  ·exact Nat.le_refl _
  ·exact hcap
def TreeOf (m:Bool) (w:World) (xs:List (List D)) (k:Nat) (vs:Array Value) (Ss:Nat->List Nat):Prop:=
 ∀i (hi:i<xs.length) j (hj:j<xs[i].length),TreeD m w xs[i][j] (vs.getD (i*k+j) undef) (Ss (i*k+j))
theorem zq9 {i n k:Nat} (h:i<n*k):i / k<n/\i % k<k/\i / k*k+i % k=i:=by
 have hk:0<k:=by
  rcases Nat.eq_zero_or_pos k with h0|h0
  ·subst h0;simp at h
  ·exact h0
 exact⟨Nat.div_lt_of_lt_mul (by rw[Nat.mul_comm];exact h),Nat.mod_lt _ hk,Nat.div_add_mod' _ _⟩
theorem zlX {vs:Array Value}{i:Nat} (h:i<vs.size):vs.getD i undef=vs[i]:=by simp[Array.getD,h]
theorem TreeOf.cells {G:Gh}{T:TokF}{m:Bool}{w:World}{xs:List (List D)}{k:Nat}{vs:Array Value}{Ss:Nat->List Nat} (h:TreeOf m w xs k vs Ss) (hk:∀x,x∈xs->x.length=k):
  ∀i (hi:i<(zay m xs).length) (hv:i<vs.size),CellR G T w (zay m xs)[i] vs[i] (Ss i):=by
 intro i hi hv;rw[zdr hk] at hi;obtain⟨h1,h2,h3⟩:=zq9 hi;have hj:i % k<xs[i / k].length:=by rw[hk _ (xao h1)];exact h2
 have h4:=h (i / k) h1 (i % k) hj;have h5:=zjX (m:=m) hk h1 hj;rw[h3] at h4 h5;rw[xan (by rw[zdr hk];exact hi)] at h5;rw[zlX hv] at h4;rw[Option.some.inj h5];exact .ofTree h4
theorem zdl {Ss Ss':Nat->List Nat}:∀ {l:List Nat},(l.flatMap Ss).Nodup->(∀i,i∈l->(Ss' i).Sublist (Ss i))->((l.flatMap Ss').Sublist (l.flatMap Ss))
 | [],_,_=> .slnil
 |x::l,h,hs=>by
  simp only[List.flatMap_cons] at h ⊢;exact(hs x oe).append (zdl (List.nodup_append.1 h).2.1 (fun i hi=>hs i (by simp[hi])))
theorem zfX {Ss:Nat->List Nat}:∀ {l:List Nat} (hl:l.Nodup),(l.flatMap Ss).Nodup->∀i j,i∈l->j∈l->i≠j->∀b,b∈Ss i->b∉Ss j
 | [],_,_,i,j,hi,_,_=>by simp at hi
 |x::l,hl,h,i,j,hi,hj,hne=>by
  simp only[List.flatMap_cons,List.nodup_append,List.mem_flatMap] at h;obtain⟨h1,h2,h3⟩:=h;intro b hb hbj;rcases List.mem_cons.1 hi with e1|e1
  ·rcases List.mem_cons.1 hj with e2|e2
   ·exact hne (e1.trans e2.symm)
   ·exact h3 b (e1 ▸ hb) b ⟨j,e2,hbj⟩ I
  ·rcases List.mem_cons.1 hj with e2|e2
   ·exact h3 b (e2 ▸ hbj) b ⟨i,e1,hb⟩ I
   ·exact zfX (List.nodup_cons.1 hl).2 h2 i j e1 e2 hne b hb hbj
theorem zib {Ss:Nat->List Nat}:∀ {l:List Nat},(l.flatMap Ss).Nodup->∀i,i∈l->(Ss i).Nodup
 |x::l,h,i,hi=>by
  simp only[List.flatMap_cons,List.nodup_append] at h;rcases List.mem_cons.1 hi with rfl|hi
  ·exact h.1
  ·exact zib h.2.1 i hi
theorem zer {Ss:Nat->List Nat}{S:List Nat}{off:Nat}:∀ {l:List Nat},l.Nodup->(l.flatMap Ss).Nodup->S.Nodup->(∀b,b∈S->∀i,i∈l->i≠off->b∉Ss i)->
  (l.flatMap fun i=>if i=off then S else Ss i).Nodup
 | [],_,_,_,_=>by simp
 |x::l,hl,h,hS,hd=>by
  simp only[List.flatMap_cons,List.nodup_append,List.mem_flatMap] at h ⊢;obtain⟨h1,h2,h3⟩:=h;have hl':=List.nodup_cons.1 hl;refine⟨?_,zer hl'.2 h2 hS (fun b hb i hi=>hd b hb i (by simp[hi])),fun b hb b' hb'=>?_⟩
  ·split
   ·exact hS
   ·exact h1
  ·rintro rfl
   obtain⟨j,hj,hbj⟩:=hb';have hxj:x≠j:=fun e=>hl'.1 (e ▸ hj);by_cases hx:x=off
   ·rw[if_pos hx] at hb;rw[if_neg (fun e=>hxj (hx.trans e.symm))] at hbj;exact hd b hb j (by simp[hj]) (fun e=>hxj (hx.trans e.symm)) hbj
   ·rw[if_neg hx] at hb;by_cases hjo:j=off
    ·rw[if_pos hjo] at hbj;exact hd b hbj x oe hx hb
    ·rw[if_neg hjo] at hbj;exact h3 b hb b ⟨j,hj,hbj⟩ I
section
variable {c:Ctx}{env:Env}{hp:Hp}{K:Kt}{code:Code}{ids:List Nat}
theorem zci {i j:Nat} (h:i≠j):Nat.beq i j=false:=by
 cases hb:Nat.beq i j with
 |true=>exact absurd (xap hb) h
 |false=>rfl
theorem R.split {G:Gh}{a:Act}{w:World} (hr:R c G ⟨env,hp⟩ a w){id off id':Nat}{m:Bool}{xs:List (List D)}{cs cs':List AV} (hb:getH hp id=some (.tree cs)) (hc:cs[off]?=some (.own m (.sl xs))) (hx:xs≠[])
  (hf:zaz env hp [id']=true) (hput:putC cs off [.ms id' xs.length]=some cs'):∃G',R c G' ⟨env,(id',some (.tree (zay m xs)))::(id,some (.tree cs'))::hp⟩ a w:=by
 obtain⟨h0,hocc⟩:=zbf hf id' oe;obtain⟨b,vs,e,Ss,hT⟩:=hr.heap id _ hb;obtain⟨hoff,hcv⟩:=List.getElem?_eq_some_iff.1 hc;have hov:off<vs.size:=by have:=hT.len;omega
 have hcell:=hT.cell off hoff hov;rw[hcv] at hcell;have hne:id≠id':=fun e=>by subst e;have h0':getH hp id=none:=h0;rw[h0'] at hb;cases hb
 obtain⟨p1,p2,p3⟩:=zbR hput;have hTD:TreeD m w (.sl xs) vs[off] (Ss off):=hcell;generalize hv:vs[off]=v at hTD;generalize hSo:Ss off=So at hTD;cases hTD with
 |nil=>exact absurd I hx
 |emp _ _ _ _ _=>exact absurd I hx
 |em0 _ _ _ _=>exact absurd I hx
 |sl _ k b1 cap cs1 e1 Ss1 hk hcap hb1 hc1 hr1 hz1=>
  let Ss':Nat->List Nat:=fun i=>if i=off then [] else Ss i
  let G':Gh:={ G with loc:=fun i=>bif Nat.beq i id' then Ss off else bif Nat.beq i id then b::(List.range cs'.length).flatMap Ss' else G.loc i }
  have l1:G'.loc id'=Ss off:=by simp[G']
  have l2:G'.loc id=b::(List.range cs'.length).flatMap Ss':=by simp[G',zci hne]
  have l3:∀i,i≠id'->i≠id->G'.loc i=G.loc i:=fun i h1 h2=>by simp[G',zci h1,zci h2]
  have hnd:=hT.nodup;rw[hT.loc] at hnd;have hnd':=List.nodup_cons.1 hnd;have hsubS:∀x,x∈Ss off->x∈G.loc id:=fun x hx=>by
   rw[hT.loc];exact List.mem_cons_of_mem _ (List.mem_flatMap.2 ⟨off,List.mem_range.2 hoff,hx⟩)
  have hsubl:((List.range cs'.length).flatMap Ss').Sublist ((List.range cs.length).flatMap Ss):=by
   rw[p1];refine zdl hnd'.2 (fun i hi=>?_);simp only[Ss'];split
   ·exact List.nil_sublist _
   ·exact List.Sublist.refl _
  have hsub2:∀x,x∈G'.loc id->x∈G.loc id:=fun x hx=>by
   rw[l2] at hx;rw[hT.loc];rcases List.mem_cons.1 hx with h|h
   ·simp[h]
   ·exact List.mem_cons_of_mem _ (hsubl.subset h)
  have g1:getH ((id',some (Res.tree (zay m xs)))::(id,some (.tree cs'))::hp) id'=some (.tree (zay m xs)):=by rw[zaa,if_pos rfl]
  have g2:getH ((id',some (Res.tree (zay m xs)))::(id,some (.tree cs'))::hp) id=some (.tree cs'):=by rw[zaa,if_neg hne,zaa,if_pos rfl]
  have hturn:Turn c G ⟨env,hp⟩ w G' ((id',some (.tree (zay m xs)))::(id,some (.tree cs'))::hp) [id,id']:=by
   refine⟨fun i hi=>?_,fun i hi=>?_,fun _ _=>rfl,fun _ _ h=>h,hr.top,fun i hi=>?_,fun i hi hs x hx=>?_,fun i hi j hj hij _ _ x hx=>?_,fun i hi l hl=>?_⟩
   ·simp only[List.mem_cons,xau,or_false,not_or] at hi;rw[zaa,if_neg hi.2,zaa,if_neg hi.1]
   ·simp only[List.mem_cons,xau,or_false,not_or] at hi;exact l3 i hi.2 hi.1
   ·simp only[List.mem_cons,xau,or_false] at hi;rcases hi with rfl|rfl
    ·right
     have ht:tokf ((id',some (Res.tree (zay m xs)))::(i,some (.tree cs'))::hp) i=none:=by unfold tokf;rw[g2]
     refine⟨.inr ⟨ht,by rw[l2,hT.loc];rfl⟩,fun p hp=>by rw[ht] at hp;cases hp⟩
    ·exact .inl hocc
   ·simp only[List.mem_cons,xau,or_false] at hi;have hs':(getH hp id).isSome:=by rw[hb];rfl
    rcases hi with rfl|rfl
    ·exact⟨i,by simp,hs',hsub2 x hx⟩
    ·rw[l1] at hx;exact⟨id,by simp,hs',hsubS x hx⟩
   ·simp only[List.mem_cons,xau,or_false] at hi hj;have key:∀x,x∈Ss off->x∉G'.loc id:=by
     intro x hx hx2;rw[l2] at hx2;rcases List.mem_cons.1 hx2 with h|h
     ·exact hnd'.1 (List.mem_flatMap.2 ⟨off,List.mem_range.2 hoff,h ▸ hx⟩)
     ·obtain⟨j,hj,hxj⟩:=List.mem_flatMap.1 h;simp only[Ss'] at hxj;split at hxj
      ·simp at hxj
      ·rename_i hjo;exact zfX List.nodup_range hnd'.2 off j (List.mem_range.2 hoff) (by rw[p1] at hj;exact hj) (Ne.symm hjo) x hx hxj
    rcases hi with rfl|rfl<;>rcases hj with rfl|rfl
    ·exact absurd I hij
    ·rw[l1];exact fun h=>key x h hx
    ·rw[l1] at hx;exact key x hx
    ·exact absurd I hij
   ·simp only[List.mem_cons,xau,or_false] at hi;have hk0:=hr.kept i l hl;rcases hi with rfl|rfl
    ·refine⟨?_,by rw[g2];rfl,by unfold tokf;rw[g2]⟩;rw[l2,<-hk0.1,hT.loc];rfl
    ·have h0':getH hp i=none:=h0;have:=hk0.2.1;rw[show(⟨env,hp⟩:St).hp=hp from rfl,h0'] at this;cases this
  refine⟨G',hturn.fin hr (fun i hi r hri=>?_)⟩;simp only[List.mem_cons,xau,or_false] at hi;rcases hi with rfl|rfl
  ·rw[g2] at hri;cases hri
   refine⟨b,vs,e,Ss',l2,hT.at_,by rw[p1];exact hT.len, ?_,fun x hx=>hT.mine x (hsub2 x hx),fun j hj hjv=>?_⟩
   ·rw[l2];exact List.nodup_cons.2 ⟨fun h=>hnd'.1 (hsubl.subset h),hsubl.nodup hnd'.2⟩
   ·have h3:=p3 j;rw[xan hj] at h3;by_cases hjo:j=off
    ·subst hjo;rw[if_pos oe] at h3;simp only[Nat.sub_self,List.getElem?_cons_zero,xae] at h3;rw[h3,hv];refine⟨by simp[Ss'],.ms (b:=b1) ?_ ?_ hcap⟩
     ·rw[l1,hSo];rfl
     ·unfold tokf;rw[g1]
    ·rw[if_neg ua] at h3;have hjc:j<cs.length:=by omega
     rw[xan hjc] at h3;rw[Option.some.inj h3];have h4:=hT.cell j hjc hjv;have h5:Ss' j=Ss j:=by simp[Ss',hjo]
     rw[h5];exact h4.map (hturn.cell hr hb (xao hjc)) (fun _ _=>rfl)
  ·rw[g1] at hri;cases hri
   have hlen:(zay m xs).length=xs.length*k:=zdr hk;have hle:xs.length*k<=cs1.size:=by
    refine Nat.le_trans (xav _ ?_) hc1;cases m
    ·exact Nat.le_refl _
    ·exact hcap
   refine⟨b1,cs1,e1,Ss1,by rw[l1,hSo,hlen],hb1,by rw[hlen];exact hle, ?_,fun x hx=>?_,TreeOf.cells hr1 hk⟩
   ·rw[l1];exact zib hnd'.2 off (List.mem_range.2 hoff)
   ·rw[l1] at hx;exact hT.mine x (hsubS x hx)
theorem CWp.split (id off id':Nat){m:Bool}{xs:List (List D)}{cs cs':List AV} (hb:getH hp id=some (.tree cs)) (hc:cs[off]?=some (.own m (.sl xs))) (hx:xs≠[])
  (hf:zaz env hp [id']=true) (hput:putC cs off [.ms id' xs.length]=some cs')
  (hn:CWp c code ⟨env,(id',some (.tree (zay m xs)))::(id,some (.tree cs'))::hp⟩ K):CWp c code ⟨env,hp⟩ K:=by
 rintro a w ⟨G,hr⟩
 obtain⟨G',h⟩:=hr.split hb hc hx hf hput;exact hn a w ⟨G',h⟩
theorem R.merge {G:Gh}{a:Act}{w:World} (hr:R c G ⟨env,hp⟩ a w) (hkp:KeptIn c.kept ids){id off id' k n:Nat}{m:Bool}{xs:List (List D)}{cs cs':List AV} (hb:getH hp id=some (.tree cs)) (hc:cs[off]?=some (.ms id' n)) (hn:n=xs.length)
  (hb':getH hp id'=some (.tree (zay m xs))) (hk:∀x,x∈xs->x.length=k) (hne:Nat.beq id id'=false) (hid:zaB id' ids=false) (hput:putC cs off [.own false (.sl xs)]=some cs'):
  ∃G',R c G' ⟨env,(id',none)::(id,some (.tree cs'))::hp⟩ a w:=by
 subst hn;have hne:id≠id':=fun e=>by subst e;simp at hne
 obtain⟨b,vs,e,Ss,hT⟩:=hr.heap id _ hb;obtain⟨b1,cs1,e1,Ss1,hT1⟩:=hr.heap id' _ hb';obtain⟨hoff,hcv⟩:=List.getElem?_eq_some_iff.1 hc;have hov:off<vs.size:=by have:=hT.len;omega
 have hcell:=hT.cell off hoff hov;rw[hcv] at hcell;obtain⟨hS0,hms⟩:=hcell;obtain⟨b2,cap,hl2,he2,hcap⟩:=hms.ms_eq;obtain rfl:b1=b2:=by have:=hl2.1;rw[hT1.loc] at this;exact Option.some.inj this
 obtain⟨p1,p2,p3⟩:=zbR hput;have hlen1:(zay m xs).length=xs.length*k:=zdr hk;have hTr:TreeD false w (.sl xs) vs[off] (G.loc id'):=by
  rw[he2,hT1.loc,hlen1];refine .sl xs k b1 cap cs1 e1 Ss1 hk hcap hT1.at_ (by have:=hT1.len;rw[hlen1] at this;exact this) (fun i hi j hj=>?_) (fun h=>by cases h);have hjk:j<k:=by rw[<-hk _ (xao hi)];exact hj
  have hlt:i*k+j<(zay m xs).length:=by rw[hlen1];exact zcY hi hjk
  have hlv:i*k+j<cs1.size:=Nat.lt_of_lt_of_le hlt hT1.len;have h1:=hT1.cell (i*k+j) hlt hlv;have h2:=zjX (m:=m) hk hi hj;rw[xan hlt] at h2;rw[Option.some.inj h2] at h1;rw[zlX hlv];generalize xs[i][j]=y at h1;cases y with
  |sl ys=>exact xa5 h1
  |int kd q=>obtain⟨g1,g2⟩:=h1;rw[g1];exact .ofFlat I (.inl I) g2.d_inv
  |bool q=>obtain⟨g1,g2⟩:=h1;rw[g1];exact .ofFlat I (.inl I) g2.d_inv
  |str q=>obtain⟨g1,g2⟩:=h1;rw[g1];exact .ofFlat I (.inl I) g2.d_inv
  |ptr q r=>exact xa5 h1
  |nilp=>exact xa5 h1
 let Ss':Nat->List Nat:=fun i=>if i=off then G.loc id' else Ss i
 let G':Gh:={ G with loc:=fun i=>bif Nat.beq i id then b::(List.range cs'.length).flatMap Ss' else G.loc i }
 have l1:G'.loc id=b::(List.range cs'.length).flatMap Ss':=by simp[G']
 have l3:∀i,i≠id->G'.loc i=G.loc i:=fun i h2=>by simp[G',zci h2]
 have hnd:=hT.nodup;rw[hT.loc] at hnd;have hnd':=List.nodup_cons.1 hnd;have s1:(getH hp id).isSome:=by rw[hb];rfl
 have s2:(getH hp id').isSome:=by rw[hb'];rfl
 have hapart:∀x,x∈G.loc id->x∉G.loc id':=hr.disj id id' s1 s2 hne;have hmem:∀x,x∈G'.loc id->x∈G.loc id\/x∈G.loc id':=fun x hx=>by
  rw[l1] at hx;rcases List.mem_cons.1 hx with h|h
  ·left;rw[hT.loc,h];simp
  ·obtain⟨j,hj,hxj⟩:=List.mem_flatMap.1 h;simp only[Ss'] at hxj;split at hxj
   ·exact .inr hxj
   ·left
    rw[hT.loc];rw[p1] at hj;exact List.mem_cons_of_mem _ (List.mem_flatMap.2 ⟨j,hj,hxj⟩)
 have g1:getH ((id',none)::(id,some (Res.tree cs'))::hp) id'=none:=by rw[zaa,if_pos rfl]
 have g2:getH ((id',none)::(id,some (Res.tree cs'))::hp) id=some (.tree cs'):=by rw[zaa,if_neg hne,zaa,if_pos rfl]
 have t1:tokf ((id',none)::(id,some (Res.tree cs'))::hp) id'=none:=by unfold tokf;rw[g1]
 have t2:tokf ((id',none)::(id,some (Res.tree cs'))::hp) id=none:=by unfold tokf;rw[g2]
 have hturn:Turn c G ⟨env,hp⟩ w G' ((id',none)::(id,some (.tree cs'))::hp) [id,id']:=by
  refine⟨fun i hi=>?_,fun i hi=>?_,fun _ _=>rfl,fun _ _ h=>h,hr.top,fun i hi=>?_,fun i hi hs x hx=>?_,fun i hi j hj hij h1 h2 x hx=>?_,fun i hi l hl=>?_⟩
  ·simp only[List.mem_cons,xau,or_false,not_or] at hi;rw[zaa,if_neg hi.2,zaa,if_neg hi.1]
  ·simp only[List.mem_cons,xau,or_false,not_or] at hi;exact l3 i hi.1
  ·simp only[List.mem_cons,xau,or_false] at hi;right
   rcases hi with rfl|rfl
   ·exact⟨.inr ⟨t2,by rw[l1,hT.loc];rfl⟩,fun p hp=>by rw[t2] at hp;cases hp⟩
   ·exact⟨.inl (l3 i (Ne.symm hne)),fun p hp=>by rw[t1] at hp;cases hp⟩
  ·simp only[List.mem_cons,xau,or_false] at hi;rcases hi with rfl|rfl
   ·rcases hmem x hx with h|h
    ·exact⟨i,by simp,s1,h⟩
    ·exact⟨id',by simp,s2,h⟩
   ·rw[g1] at hs;cases hs
  ·simp only[List.mem_cons,xau,or_false] at hi hj;rcases hi with rfl|rfl
   ·rcases hj with rfl|rfl
    ·exact absurd I hij
    ·rw[g1] at h2;cases h2
   ·rw[g1] at h1;cases h1
  ·simp only[List.mem_cons,xau,or_false] at hi;have hk0:=hr.kept i l hl;rcases hi with rfl|rfl
   ·refine⟨?_,by rw[g2];rfl,t2⟩;rw[l1,<-hk0.1,hT.loc];rfl
   ·have:=zat.2 (hkp.mem i l hl);rw[this] at hid;cases hid
 refine⟨G',hturn.fin hr (fun i hi r hri=>?_)⟩;simp only[List.mem_cons,xau,or_false] at hi;rcases hi with rfl|rfl
 ·rw[g2] at hri;cases hri
  refine⟨b,vs,e,Ss',l1,hT.at_,by rw[p1];exact hT.len, ?_,fun x hx=>?_,fun j hj hjv=>?_⟩
  ·rw[l1,List.nodup_cons];constructor
   ·intro h;obtain⟨j,hj,hxj⟩:=List.mem_flatMap.1 h;rw[p1] at hj;simp only[Ss'] at hxj;split at hxj
    ·exact hapart b (by rw[hT.loc];simp) hxj
    ·exact hnd'.1 (List.mem_flatMap.2 ⟨j,hj,hxj⟩)
   ·rw[p1];refine zer List.nodup_range hnd'.2 hT1.nodup (fun x hx j hj _ hxj=>?_);exact hapart x (by rw[hT.loc];exact List.mem_cons_of_mem _ (List.mem_flatMap.2 ⟨j,hj,hxj⟩)) hx
  ·rcases hmem x hx with h|h
   ·exact hT.mine x h
   ·exact hT1.mine x h
  ·have h3:=p3 j;rw[xan hj] at h3;by_cases hjo:j=off
   ·subst hjo;rw[if_pos oe] at h3;simp only[Nat.sub_self,List.getElem?_cons_zero,xae] at h3;rw[h3];have h5:Ss' j=G.loc id':=by simp[Ss']
    rw[h5];exact hTr
   ·rw[if_neg ua] at h3;have hjc:j<cs.length:=by omega
    rw[xan hjc] at h3;rw[Option.some.inj h3];have h4:=hT.cell j hjc hjv;have h5:Ss' j=Ss j:=by simp[Ss',hjo]
    rw[h5];exact h4.map (hturn.cell hr hb (xao hjc)) (fun _ _=>rfl)
 ·rw[g1] at hri;cases hri
theorem CWp.merge (hkp:KeptIn c.kept ids) (id off id' k n:Nat){m:Bool}{xs:List (List D)}{cs cs':List AV} (hb:getH hp id=some (.tree cs)) (hc:cs[off]?=some (.ms id' n)) (hn:n=xs.length)
  (hb':getH hp id'=some (.tree (zay m xs))) (hk:∀x,x∈xs->x.length=k) (hne:Nat.beq id id'=false) (hid:zaB id' ids=false) (hput:putC cs off [.own false (.sl xs)]=some cs')
  (hnx:CWp c code ⟨env,(id',none)::(id,some (.tree cs'))::hp⟩ K):CWp c code ⟨env,hp⟩ K:=by
 rintro a w ⟨G,hr⟩
 obtain⟨G',h⟩:=hr.merge hkp hb hc hn hb' hk hne hid hput;exact hnx a w ⟨G',h⟩
def upC (m:Bool):AV->AV
 | .d (.sl [])=> .own m (.sl [])
 | .nils=> .own m (.sl [])
 |x=>x
end
def seeC:AV->AV
 | .own _ (.sl [])=> .d (.sl [])
 | .own _ _=> .any
 |x=>x
theorem CellR.see {G:Gh}{T:TokF}{w:World}{x:AV}{v:Value}{S:List Nat} (h:CellR G T w x v S):RelA G T w (seeC x) v:=by
 cases x with
 |own m y=>
  have h':TreeD m w y v S:=h;unfold seeC;split
  ·rename_i he;cases he
   cases h' with
   |nil=>exact .d .nil
   |emp b off s cap _=>exact .d (.emp b off s cap)
   |em0 b off cap _=>exact .d (.sl [] 0 b off cap (fun _=>undef) oe oe (fun n hn=>by simp at hn) (fun i hi=>by simp at hi))
   |sl xs k b cap cs e Ss hk hcap hb hc hr _=>
    exact .d (.sl [] 0 b 0 cap (fun _=>undef) oe oe (fun n hn=>by simp at hn) (fun i hi=>by simp at hi))
  ·exact .any _
  ·rename_i h1 h2;exact absurd I (h2 m y)
 |_=>exact h.2
section
variable {c:Ctx}{all:Array Oper}{chk:List Rec->Prop}{os:List Oper}{recs:List Rec}{env:Env}{hp:Hp}{Q:St->Prop}
variable {d ty:Nat}{pos:String}{af:Array Edge}{g:Option (Nat×Bool)}{pg:List (Nat×AV)}
variable {t k id off:Nat}{x y:Operand}
theorem TreeR.head {G:Gh}{T:TokF}{w:World}{id:Nat}{cs:List AV}{b b':Nat}{vs:Array Value}{e:TypeId}{Ss:Nat->List Nat} (h:TreeR G T w id cs b vs e Ss) (h2:(G.loc id).head?=some b'):b'=b:=by
 rw[h.loc] at h2;exact(Option.some.inj h2).symm
theorem xbI {cs:List AV}{v:AV} (ht:TyS c.P t k false) (hg:GH all env g pg) (hd:Nat.blt d c.n=true) (hx:opd env x=some (.ref id off))
  (hb:getH hp id=some (.tree cs)) (hv:(cs[off]?).map seeC=some v)
  (hn:Walk c all chk os (zal (pg++opF x (.ref id off)) [(id,.tree cs)] [] ⟨some (d,v),[]⟩::recs) ⟨(d,v)::env,hp⟩ Q):
  Walk c all chk (⟨some d,.load t x,ty,pos,af,g⟩::os) recs ⟨env,hp⟩ Q:=by
 refine xbP hg hd hx (hh1 hb) (fun a G s w hr hh h1=>?_) hn;obtain⟨b,hl,he⟩:=h1.ref_eq;obtain⟨b',vs,e,Ss,hT⟩:=hr.heap id _ (hh1' hh);obtain rfl:=hT.head hl.1;obtain⟨v0,hv0,rfl⟩:=Option.map_eq_some_iff.1 hv;obtain⟨hlt,hv'⟩:=List.getElem?_eq_some_iff.1 hv0;have hlv:off<vs.size:=by have:=hT.len;omega
 refine⟨vs[off], ?_, ?_⟩
 ·have hcell:w.cell? ⟨b,off,none⟩=some vs[off]:=by simp[World.cell?,hT.at_,hlv]
  simp only[execOp,he,Instr.loadAt,Instr.sureAddr,Sem.run_bind,Sem.run_pure,Result.andThen_ok,zdW ht hcell]
 ·have:=hT.cell off hlt hlv;rw[hv'] at this;exact this.see
end
section
variable {c:Ctx}
theorem R.setTree {G:Gh}{s:St}{a:Act}{w:World} (hr:R c G s a w){id b:Nat}{cs cs':List AV}{vs vs':Array Value}{e:TypeId}{Ss Ss':Nat->List Nat} (hb:getH s.hp id=some (.tree cs))
  (hT:TreeR G (tokf s.hp) w id cs b vs e Ss) (hlen:cs'.length=cs.length) (hsz:vs'.size=vs.size) (hsub:∀i,i<cs.length->(Ss' i).Sublist (Ss i))
  (hcell:∀i (hi:i<cs'.length) (hv:i<vs'.size),CellR G (tokf s.hp) w cs'[i] vs'[i] (Ss' i)):
  ∃G',R c G' ⟨s.env,(id,some (.tree cs'))::s.hp⟩ a (w.setRow b vs')/\G'.F=G.F:=by
 have htok:tokf ((id,some (.tree cs'))::s.hp)=tokf s.hp:=by
  funext i
  unfold tokf;rw[zaa];by_cases h:i=id
  ·subst h;rw[if_pos rfl,hb]
  ·rw[if_neg h]
 have hTn:tokf s.hp id=none:=by unfold tokf;rw[hb]
 have hother:∀k,k≠b->(w.setRow b vs').heap[k]?=w.heap[k]?:=fun k hk=>setRow_other w b k vs' hk;have hbl:b∈G.loc id:=by rw[hT.loc];simp
 have hF:=(hT.mine b hbl).1;have hnd:=hT.nodup;rw[hT.loc] at hnd;have hnd':=List.nodup_cons.1 hnd;let G':Gh:={ G with loc:=fun i=>bif Nat.beq i id then b::(List.range cs'.length).flatMap Ss' else G.loc i }
 have l1:G'.loc id=b::(List.range cs'.length).flatMap Ss':=by simp[G']
 have l3:∀i,i≠id->G'.loc i=G.loc i:=fun i h2=>by simp[G',zci h2]
 have hsubl:((List.range cs'.length).flatMap Ss').Sublist ((List.range cs.length).flatMap Ss):=by
  rw[hlen];exact zdl hnd'.2 (fun i hi=>hsub i (by simpa using hi))
 have hsub2:∀x,x∈G'.loc id->x∈G.loc id:=fun x hx=>by
  rw[l1] at hx;rw[hT.loc];rcases List.mem_cons.1 hx with h|h
  ·simp[h]
  ·exact List.mem_cons_of_mem _ (hsubl.subset h)
 have hsub3:∀i x,x∈G'.loc i->x∈G.loc i:=fun i x hx=>by
  by_cases hi:i=id
  ·subst hi;exact hsub2 x hx
  ·rw[l3 i hi] at hx;exact hx
 have hcl:∀b' o,o<G.F b'->o<G.F b'/\(w.setRow b vs').cell? ⟨b',o,none⟩=w.cell? ⟨b',o,none⟩:=fun b' o ho=>by
  have hne:b'≠b:=fun e=>by subst e;rw[hF] at ho;omega
  exact⟨ho,cell_setRow_other w b vs' _ hne⟩
 have hs0:(getH s.hp id).isSome:=by rw[hb];rfl
 have hne:∀i,(getH s.hp i).isSome->i≠id->∀b',b'∈G.loc i->b'≠b:=fun i hi hne b' hb' e=>by
  subst e;exact hr.disj i id hi hs0 hne b' hb' hbl
 have hm:∀ {x:AV}{v:Value},RelA G (tokf s.hp) w x v->RelA G' (tokf s.hp) (w.setRow b vs') x v:=fun hx=>
  hx.mono hcl (fun i _=>by
   by_cases hi:i=id
   ·subst hi;exact .inr ⟨hTn,by rw[l1,hT.loc];rfl⟩
   ·exact .inl (l3 i hi)) (fun i _ p hp=>⟨hp,fun b' hb'=>⟨hother b' (hne i ?_ ?_ b' hb'),rfl⟩⟩)
 ·have hget:∀i,(getH ((id,some (Res.tree cs'))::s.hp) i).isSome->(getH s.hp i).isSome:=fun i h=>by
   rw[zaa] at h;split at h
   ·rename_i e;subst e;exact hs0
   ·exact h
  have hbnew:=hr.new id hs0 b hbl;refine⟨G',⟨hr.size,hr.defers,fun i v h=>by rw[htok];exact hm (hr.slots i v h),fun i r h=>?_,fun i j h1 h2 h3 x hx hx2=>hr.disj i j (hget i h1) (hget j h2) h3 x (hsub3 i x hx) (hsub3 j x hx2),
   fun i h x hx=>hr.new i (hget i h) x (hsub3 i x hx),
   hr.frm.trans (own1:=[b]) ⟨rfl,rfl,rfl,by simp,fun k _ hk=>⟨hother k (fun e=>hk (by simp[e])),rfl⟩,hcl⟩ (fun k hk=>by simp only[List.mem_singleton] at hk;subst hk;exact hbnew),
   fun k hk=>hr.top k (by simpa using hk),fun i l hl'=>?_⟩,rfl⟩
  ·rw[htok];have h':getH ((id,some (Res.tree cs'))::s.hp) i=some r:=h;rw[zaa] at h';by_cases hi:i=id
   ·subst hi;rw[if_pos rfl] at h';cases h'
    refine⟨b,vs',e,Ss',l1,setRow_heap w b vs vs' e _ hT.at_,by rw[hlen,hsz];exact hT.len, ?_,fun x hx=>?_,fun j hj hv=>(hcell j hj hv).map hm (fun x hx=>hother x (fun e=>?_))⟩
    ·rw[l1];exact List.nodup_cons.2 ⟨fun h=>hnd'.1 (hsubl.subset h),hsubl.nodup hnd'.2⟩
    ·have:=hT.mine x (hsub2 x hx);exact⟨this.1,by simpa using this.2⟩
    ·subst e;exact hnd'.1 (List.mem_flatMap.2 ⟨j,List.mem_range.2 od,(hsub j od).subset hx⟩)
   ·rw[if_neg hi] at h';have hh:=hr.heap i r h';have hs:(getH s.hp i).isSome:=by rw[h'];rfl
    have hne':=hne i hs hi;have hl:=l3 i hi;cases r with
    |box cs2=>
     obtain⟨b2,vs2,e2,h1,h2,h3,h4,h5⟩:=hh;exact⟨b2,vs2,e2,hl.trans h1,(hother b2 (hne' b2 (by simp[h1]))).trans h2,h3,h4,fun j hj hv=>hm (h5 j hj hv)⟩
    |tok n k=>exact fun b2 h1=>by rw[hl] at h1;simpa using hh b2 h1
    |map ks=>
     obtain⟨b2,es,cl,h1,h2,h3⟩:=hh;exact⟨b2,es,cl,hl.trans h1,(hother b2 (hne' b2 (by simp[h1]))).trans h2,h3⟩
    |tree cs2=>exact za3 hh hl (fun b' hb'=>⟨hother b' (hne' b' hb'),I⟩) oe (fun _ _ _=>hm)
  ·have hk:=hr.kept i l hl';show(G'.loc i).head?=l.head?/\(getH ((id,some (Res.tree cs'))::s.hp) i).isSome/\tokf ((id,some (Res.tree cs'))::s.hp) i=none
   refine⟨?_, ?_,by rw[htok];exact hk.2.2⟩
   ·by_cases hi:i=id
    ·subst hi;rw[l1,<-hk.1,hT.loc];rfl
    ·rw[l3 i hi];exact hk.1
   ·rw[zaa];split
    ·rfl
    ·exact hk.2.1
 ·obtain⟨n,q⟩:=p;rw[zaf.1 hp];rfl
 ·rintro rfl
  rw[hTn] at hp;cases hp
end
section
variable {c:Ctx}{all:Array Oper}{chk:List Rec->Prop}{os:List Oper}{recs:List Rec}{env:Env}{hp:Hp}{Q:St->Prop}
variable {d ty:Nat}{pos:String}{af:Array Edge}{g:Option (Nat×Bool)}{pg:List (Nat×AV)}
variable {t yt:TypeId}{x y:Operand}
theorem xbW {id off k:Nat}{b:Bool}{v:AV}{cs vs cs':List AV} (ht:TyS c.P t k b) (hg:GH all env g pg) (hx:opd env x=some (.ref id off)) (hy:opd env y=some v)
  (hb:getH hp id=some (.tree cs)) (hv:zbh v=some vs) (hk:vs.length=k) (h1:zgs vs=true) (hne:vs≠[]) (hput:putC cs off vs=some cs')
  (hn:Walk c all chk os (zal (pg++(opF x (.ref id off)++opF y v)) [(id,.tree cs)] [] ⟨none,[(id,some (.tree cs'))]⟩::recs) ⟨env,(id,some (.tree cs'))::hp⟩ Q):
  Walk c all chk (⟨none,.store t x y,ty,pos,af,g⟩::os) recs ⟨env,hp⟩ Q:=by
 refine⟨pg++(opF x (.ref id off)++opF y v),[(id,.tree cs)],[],_, ?_,zaq hg.facts (zaq (zaO hx) (zaO hy)),hh1 hb,by simp,hn⟩;intro s a w hrel hp' hh _ K Q' hK;obtain⟨G,hr⟩:=hrel;have hbx:=hh1' hh;have e1:=hr.opd (zaR hx (fun p hm=>hp' p (by simp[hm])));have e2:=hr.opd (zaR hy (fun p hm=>hp' p (by simp[hm])));obtain⟨bl,hl,he⟩:=e1.ref_eq;obtain⟨b',us,e,Ss,hT⟩:=hr.heap id _ hbx;obtain rfl:=hT.head hl.1;have hvr:=zeY e2 hv;obtain⟨p1,p2,p3⟩:=zbR hput;have p2':=p2.resolve_left hne;have hsz:=hvr.size;have h4:=hT.len;let vl:=(a.eval y).cells.toList
 have hvl:vl.length=vs.length:=by simp[vl,hsz]
 have hst:=run_storeCells_at c.P bl off e vl 0 us w hT.at_ od (fun u hu=>by
  obtain⟨i,hi,rfl⟩:=List.getElem_of_mem hu;have hi':i<vs.length:=by omega
  have:=hvr.rel i hi' (by simpa [vl] using hi);simpa [vl] using this.one (zf3 h1 _ (xao hi')))
 simp only[Nat.add_zero] at hst;let row:Array Value:=(us.toList.take off++vl++us.toList.drop (off+vl.length)).toArray
 have hrs:row.size=us.size:=by
  simp only[row,List.size_toArray,xaa,List.length_take,List.length_drop,Array.length_toList];omega
 have hrow:∀i,row[i]?=if off<=i/\i<off+vl.length then vl[i-off]? else us[i]?:=fun i=>by
  simp only[row,List.getElem?_toArray];rw[xar,List.getElem?_append];simp only[List.length_take,Array.length_toList];by_cases hi:i<off
  ·rw[if_pos od,if_neg od];simp[hi]
  ·rw[if_neg od,List.getElem?_append];have hm:min off us.size=off:=by omega
   rw[hm];by_cases hi2:i<off+vl.length
   ·rw[if_pos od,if_pos od]
   ·rw[if_neg od,if_neg od];rw[List.getElem?_drop,show off+vl.length+(i-off-vl.length)=i by omega];simp
 let Ss':Nat->List Nat:=fun i=>if off<=i/\i<off+vs.length then [] else Ss i
 obtain⟨G',hR,_⟩:=hr.setTree (cs':=cs') (vs':=row) (Ss':=Ss') hbx hT p1 hrs (fun i hi=>by
  simp only[Ss'];split
  ·exact List.nil_sublist _
  ·exact List.Sublist.refl _) (fun i hi hvi=>by
  have q1:=p3 i;have q2:=hrow i;rw[xan hi] at q1;rw[Array.getElem?_eq_getElem hvi,hvl] at q2;by_cases hc:off<=i/\i<off+vs.length
  ·rw[if_pos hc] at q1 q2;have hlt:i-off<vs.length:=by omega
   have hlt':i-off<(a.eval y).cells.size:=by omega
   rw[xan hlt] at q1;have q3:vl[i-off]?=some (a.eval y).cells[i-off]:=by simp[vl,hlt']
   rw[q3] at q2;have h5:Ss' i=[]:=by simp[Ss',hc]
   rw[h5,Option.some.inj q1,Option.some.inj q2];have h6:=hvr.rel (i-off) hlt hlt';revert h6
   generalize vs[i-off]=z;intro h6;cases z with
   |own m y=>cases h6
   |_=>exact⟨rfl,h6⟩
  ·rw[if_neg hc] at q1 q2;have hlt:i<cs.length:=by omega
   have hlt':i<us.size:=by omega
   rw[xan hlt] at q1;rw[Array.getElem?_eq_getElem hlt'] at q2;have h5:Ss' i=Ss i:=by simp only[Ss'];rw[if_neg hc]
   rw[h5,Option.some.inj q1,Option.some.inj q2];exact hT.cell i hlt hlt')
 unfold wpO;rw[if_pos (hg.gf.wanted hr (fun p hm=>hp' p (by simp[hm])))];unfold Oper.wp;have hrun:(execOp a.eval ⟨none,.store t x y,ty,pos,af,g⟩).run c.P w = .ok .skip (w.setRow bl row):=by
  have hsz2:(a.eval y).cells.size=k:=by omega
  simp only[execOp,he,Instr.storeAt,Instr.sureAddr,Sem.run_bind,Sem.run_pure,Result.andThen_ok,storeVar,ht.run_size];simp only[hsz2,ne_eq,not_true_eq_false,if_false];have hst':=hst;simp only[vl] at hst';simp only[Result.andThen_ok,hst',row,vl]
 rw[hrun,Oper.upon_skip];exact hK _ _ ⟨G',hR.putNone⟩
end
mutual
inductive Lent (lr:List (Nat×Res)):AV->AV->Prop
 |le {x y} (h:LeA x y):Lent lr x y
 |ms {id n m k}{xs:List (List D)} (hb:(id,.tree (zay m xs))∈lr) (hk:∀x,x∈xs->x.length=k) (hn:n=xs.length):Lent lr (.ms id n) (.d (.sl xs))
 |msB {id n k}{cs:List AV}{xs:List (List D)} (hb:(id,.box cs)∈lr) (hk:∀x,x∈xs->x.length=k) (hn:n=xs.length) (hc:cs.take (n*k)=xs.flatten.map .d):Lent lr (.ms id n) (.d (.sl xs))
 |agg {cs ds} (h:LentL lr cs ds):Lent lr (.agg cs) (.agg ds)
inductive LentL (lr:List (Nat×Res)):List AV->List AV->Prop
 |nil:LentL lr [] []
 |cons {x y l m} (h:Lent lr x y) (t:LentL lr l m):LentL lr (x::l) (y::m)
end
theorem LentL.len {lr:List (Nat×Res)}:∀ {cs ds:List AV},LentL lr cs ds->cs.length=ds.length
 | [],_,h=>by cases h;rfl
 |x::r,_,h=>by cases h with|cons h t=>simp[t.len]
theorem LentL.at {lr:List (Nat×Res)}:∀ {cs ds:List AV},LentL lr cs ds->∀i (hi:i<cs.length) (hj:i<ds.length),Lent lr cs[i] ds[i]
 | [],_,_,i,hi,_=>by simp at hi
 |x::r,_,h,i,hi,hj=>by
  cases h with
  |cons h t=>
   cases i with
   |zero=>exact h
   |succ i=>exact LentL.at t i (by simpa using hi) (by simpa using hj)
section
variable {c:Ctx}{env:Env}{hp:Hp}{K:Kt}{code:Code}{ids:List Nat}
def zhC:AV->AV
 | .own _ x=> .d x
 |x=>x
theorem R.frzTree {G:Gh}{a:Act}{w:World} (hr:R c G ⟨env,hp⟩ a w) (hkp:KeptIn c.kept ids){id n k:Nat}{cs:List AV}{es:List (List D)} (hb:getH hp id=some (.tree cs))
  (hc:zbT n k (cs.map zhC)=some es) (hid:zaB id ids=false):
  ∃G',R c G' ⟨env,(id,none)::hp⟩ a w/\(∀x v,RelA G (tokf hp) w x v->RelA G' (tokf ((id,none)::hp)) w x v)/\(∀v,RelA G (tokf hp) w (.ms id n) v->RelD G'.F w (.sl es) v)/\
   G'.loc=G.loc/\∀b,b∉G.loc id->G'.F b=G.F b:=by
 obtain⟨c1,c2,c3,c4⟩:=zfF hc;obtain⟨b,us,e,Ss,hT⟩:=hr.heap id _ hb;have g1:getH ((id,none)::hp) id=none:=by rw[zaa,if_pos rfl]
 have t1:tokf ((id,none)::hp) id=none:=by unfold tokf;rw[g1]
 have s1:(getH hp id).isSome:=by rw[hb];rfl
 let G':Gh:={ G with F:=fun x=>bif zaB x (G.loc id) then szB w x else G.F x }
 have hin:∀x,x∈G.loc id->G'.F x=szB w x:=fun x hx=>by simp[G',zat.2 hx]
 have hout:∀x,x∉G.loc id->G'.F x=G.F x:=fun x hx=>by
  have:zaB x (G.loc id)=false:=by
   cases h:zaB x (G.loc id) with
   |true=>exact absurd (zat.1 h) hx
   |false=>rfl
  simp[G',this]
 have hturn:Turn c G ⟨env,hp⟩ w G' ((id,none)::hp) [id]:=by
  refine⟨fun i hi=>?_,fun i hi=>rfl,fun x hx=>?_,fun x o ho=>?_,fun x hx=>?_,fun i hi=> .inr ⟨.inl rfl, ?_⟩,fun i hi hs x hx=>?_,fun i hi j hj hij=>?_,fun i hi l hl=>?_⟩
  ·simp only[List.mem_cons,xau,or_false] at hi;rw[zaa,if_neg hi]
  ·exact hout x (hx id oe s1)
  ·by_cases hx:x∈G.loc id
   ·rw[(hT.mine x hx).1] at ho;omega
   ·rw[hout x hx];exact ho
  ·by_cases hx':x∈G.loc id
   ·have:=(hT.mine x hx').2;omega
   ·rw[hout x hx'];exact hr.top x hx
  ·simp only[List.mem_cons,xau,or_false] at hi;subst hi;intro p hp;rw[t1] at hp;cases hp
  ·simp only[List.mem_cons,xau,or_false] at hi;subst hi;rw[g1] at hs;cases hs
  ·simp only[List.mem_cons,xau,or_false] at hi hj;exact absurd (hi.trans hj.symm) hij
  ·simp only[List.mem_cons,xau,or_false] at hi;subst hi;have:=zat.2 (hkp.mem i l hl);rw[this] at hid;cases hid
 have hmono:∀x v,RelA G (tokf hp) w x v->RelA G' (tokf ((id,none)::hp)) w x v:=fun x v hx=>
  hx.mono (fun b o ho=>⟨hturn.fle b o ho,rfl⟩) (fun i _=> .inl rfl) (fun i _ p hp'=>by
   obtain⟨m,q⟩:=p;have h2:=zaf.1 hp';rw[zaa] at h2;split at h2
   ·cases h2
   ·rename_i hne;refine⟨zaf.2 h2,fun b hb=>⟨rfl,hout b (hr.disj i id (by rw[h2];rfl) s1 hne b hb)⟩⟩)
 refine⟨G',hturn.fin hr (fun i hi r hri=>?_),hmono,fun v hv=>?_,rfl,hout⟩
 ·simp only[List.mem_cons,xau,or_false] at hi;subst hi;rw[g1] at hri;cases hri
 ·obtain⟨b',cap,hl,he,hcap⟩:=hv.ms_eq;obtain rfl:=hT.head hl.1;have hbl:b'∈G.loc id:=by rw[hT.loc];simp
  have hlen:cs.length=n*k:=by simpa using c3
  have hle:es.length*k<=us.size:=by have:=hT.len;rw[c1];omega
  have hsz:szB w b'=us.size:=by simp[szB,hT.at_]
  rw[he,<-c1];refine .sl es k b' 0 cap (fun n=>us.getD n undef) c2 od (fun q hq=>⟨by rw[hin b' hbl];omega, ?_⟩) (fun i hi j hj=>?_)
  ·have:q<us.size:=by omega
   simp[World.cell?,hT.at_,this]
  ·have hjk:j<k:=by rw[<-c2 _ (xao hi)];exact hj
   have hlt:i*k+j<cs.length:=by rw[hlen,<-c1];exact zcY hi hjk
   have hlv:i*k+j<us.size:=Nat.lt_of_lt_of_le hlt hT.len;have h1:=hT.cell (i*k+j) hlt hlv;have h2:=c4 i hi j hj (by simpa using hlt);simp only[List.getElem_map] at h2;rw[zlX hlv];have hsub:∀x,x∈Ss (i*k+j)->x∈G.loc id:=fun x hx=>by
    rw[hT.loc];exact List.mem_cons_of_mem _ (List.mem_flatMap.2 ⟨_,List.mem_range.2 hlt,hx⟩)
   revert h1 h2
   generalize cs[i*k+j]=z;intro h1 h2;cases z with
   |own m y=>
    simp only[zhC,AV.toD,xae] at h2;subst h2;exact TreeD.toD h1 (fun x hx=>by rw[hin x (hsub x hx)];exact Nat.le_refl _)
   |_=>exact RelA.toD (hmono _ _ h1.2) h2
theorem CWp.frzTree (hkp:KeptIn c.kept ids) (t id n k:Nat){cs:List AV}{es:List (List D)} (ht:getE env t=some (.ms id n)) (hb:getH hp id=some (.tree cs))
  (hc:zbT n k (cs.map zhC)=some es) (hid:zaB id ids=false) (hn:CWp c code ⟨(t,.d (.sl es))::env,(id,none)::hp⟩ K):CWp c code ⟨env,hp⟩ K:=by
 rintro a w ⟨G,hr⟩
 obtain⟨G',h1,_,h3,_⟩:=hr.frzTree hkp hb hc hid;exact hn a w ⟨G',h1.slot (.d (h3 _ (hr.slots t _ ht)))⟩
end
def zjF:D->Bool
 | .int _ _=>true
 | .bool _=>true
 | .str _=>true
 |_=>false
theorem zgc {x:D} (h:zjF x=true):zk1 x=true/\x≠ .sl []:=by
 cases x with
 |sl _=>simp[zjF] at h
 |ptr _ _=>simp[zjF] at h
 |nilp=>simp[zjF] at h
 |_=>exact⟨rfl,fun h=>by cases h⟩
def FlatR (xs:List (List D)):Prop:=∀x,x∈xs->∀y,y∈x->zjF y=true
theorem RelA.gt_inv {G:Gh}{T:TokF}{w:World}{id:Nat}{xs:List (List D)}{v:Value} (h:RelA G T w (.gt id xs) v):
  (∃a cap,v = .slice a xs.length cap)/\∀n k,T id=some (n,k)->xs.length<=n/\(n=xs.length->(∀x,x∈xs->x.length=k)/\TipT G w id n k v xs):=by
 cases h with|gt hv ht=>exact⟨hv,ht⟩
theorem TipV.tree {G:Gh}{w:World}{id n k:Nat}{v:Value}{xs:List (List D)} (hf:FlatR xs) (hne:n≠0) (hk:∀x,x∈xs->x.length=k) (h:TipV G w id n k v xs):TipT G w id n k v xs:=by
 rcases h with ⟨h1,h2,h3⟩|⟨b,cap,cs,e,h1,h2,h3,h4,h5,h6,h7⟩
 ·exact .inl ⟨h1,h2,h3⟩
 ·refine .inr ⟨b,cap,cs,e,fun _=>[],by rw[h1];simp,h2,h4,h5,h6,by rw[h1];simp,fun b' hb'=>?_,fun i hi j hj=> .ofFlat (zgc (hf _ (xao hi) _ (xao hj))).1 (.inr (zgc (hf _ (xao hi) _ (xao hj))).2) (h7 i hi j hj),fun h=>absurd h hne⟩;rw[h1] at hb';simp only[List.mem_singleton] at hb';rw[hb'];exact h3
section
variable {c:Ctx}{env:Env}{hp:Hp}{K:Kt}{code:Code}{ids:List Nat}
theorem CWp.fixT (hkp:KeptIn c.kept ids) (t id k:Nat){xs:List (List D)} (ht:getE env t=some (.gt id xs)) (hb:getH hp id=some (.tok xs.length k)) (hid:zaB id ids=false)
  (h0:xs=[]->CWp c code ⟨(t,.d (.sl []))::env,(id,none)::hp⟩ K)
  (hn:xs≠[]->CWp c code ⟨(t,.ms id xs.length)::env,(id,some (.tree (zay true xs)))::hp⟩ K):CWp c code ⟨env,hp⟩ K:=by
 rintro a w ⟨G,hr⟩
 have hT:tokf hp id=some (xs.length,k):=zaf.2 hb;obtain⟨⟨ad,cap0,hv0⟩,hcl⟩:=(hr.slots t _ ht).gt_inv;obtain⟨hkx,htip⟩:=(hcl _ _ hT).2 rfl;have s1:(getH hp id).isSome:=by rw[hb];rfl
 have turn:∀(r:Option Res),(∀n k,r≠some (.tok n k))->Turn c G ⟨env,hp⟩ w G ((id,r)::hp) [id]:=fun r hnr=>by
  have t1:tokf ((id,r)::hp) id=none:=by
   cases hh:tokf ((id,r)::hp) id with
   |none=>rfl
   |some p=>
    obtain⟨n,q⟩:=p;have:=zaf.1 hh;rw[zaa,if_pos rfl] at this;exact absurd this (hnr n q)
  refine⟨fun i hi=>?_,fun i hi=>rfl,fun x hx=>rfl,fun x o ho=>ho,hr.top,fun i hi=> .inr ⟨.inl rfl, ?_⟩,fun i hi hs x hx=>?_,fun i hi j hj hij=>?_,fun i hi l hl=>?_⟩
  ·simp only[List.mem_cons,xau,or_false] at hi;rw[zaa,if_neg hi]
  ·simp only[List.mem_cons,xau,or_false] at hi;subst hi;intro p hp;rw[t1] at hp;cases hp
  ·simp only[List.mem_cons,xau,or_false] at hi;subst hi;exact⟨i,by simp,s1,hx⟩
  ·simp only[List.mem_cons,xau,or_false] at hi hj;exact absurd (hi.trans hj.symm) hij
  ·simp only[List.mem_cons,xau,or_false] at hi;subst hi;have:=zat.2 (hkp.mem i l hl);rw[this] at hid;cases hid
 by_cases hx0:xs=[]
 ·have h1:=(turn none oe).fin hr (fun i hi r hri=>by
   simp only[List.mem_cons,xau,or_false] at hi;subst hi;rw[zaa,if_pos rfl] at hri;cases hri)
  refine h0 hx0 a w ⟨G,h1.slot ?_⟩;subst hx0;rcases htip with ⟨_,_,h3⟩|⟨b,cap,cs,et,Ss,h1,h2,_⟩
  ·rw[h3];exact .d .nil
  ·rw[h2];exact .d (.sl [] 0 b 0 cap (fun _=>undef) oe oe (fun n hn=>by simp at hn) (fun i hi=>by simp at hi))
 ·rcases htip with ⟨_,h2,_⟩|⟨b,cap,cs,et,Ss,h1,h2,h3,h4,h5,h6,h7,h8,_⟩
  ·exact absurd (List.eq_nil_of_length_eq_zero h2) hx0
  ·have g1:getH ((id,some (Res.tree (zay true xs)))::hp) id=some (.tree (zay true xs)):=by rw[zaa,if_pos rfl]
   have hlen:(zay true xs).length=xs.length*k:=zdr hkx;have h9:=(turn (some (.tree (zay true xs))) oe).fin hr (fun i hi r hri=>by
    simp only[List.mem_cons,xau,or_false] at hi;subst hi;rw[g1] at hri;cases hri;refine⟨b,cs,et,Ss,by rw[h1,hlen],h3,by rw[hlen];exact Nat.le_trans (xav _ h5) h4,h6,fun x hx=>⟨h7 x hx,(hr.heap i _ hb).bound x hx⟩,TreeOf.cells h8 hkx⟩)
   refine hn hx0 a w ⟨G,h9.slot ?_⟩;rw[h2];exact .ms (by rw[h1];rfl) (by unfold tokf;rw[g1]) h5
end
theorem zd8 {α:Type}{o j:Nat}:∀ {A B B' vs:List α},A.length=o->putC B j vs=some B'->putC (A++B) (o+j) vs=some (A++B'):=by
 intro A B B' vs ha h;subst ha;induction A with
 |nil=>simpa using h
 |cons x r ih=>
  cases vs with
  |nil=>
   have e:B'=B:=by cases B<;>simp only[putC,xae] at h<;>exact h.symm
   subst e;simp[putC]
  |cons v vs=>
   have:(x::r).length+j=r.length+j+1:=by simp;omega
   rw[this];simp only[xai,putC,ih]
theorem zcR {α:Type}{o j:Nat}{A B:List α}{v:α} (ha:A.length=o) (h:B[j]?=some v):(A++B)[o+j]?=some v:=by
 subst ha;rw[List.getElem?_append_right od];simpa using h
theorem zid {α:Type}{v x:α}:∀ {B:List α}{j:Nat},B[j]?=some x->putC B j [v]=some (B.set j v)
 | [],j,h=>by simp at h
 |y::r,0,_=>by simp only[putC,List.set_cons_zero]
 |y::r,j+1,h=>by simp only[putC,List.set_cons_succ,zid (B:=r) (j:=j) (by simpa using h)]
theorem zpB {α:Type}{x0 v:α}{t:List α}:putC (x0::t) 0 [v]=some (v::t):=zid (x:=x0) rfl
theorem zeQ {α:Type}{x0 x1 v:α}{t:List α}:putC (x0::x1::t) 1 [v]=some (x0::v::t):=zid (x:=x1) rfl
theorem ztZ {α:Type}{x0 x1 x2 v:α}{t:List α}:putC (x0::x1::x2::t) 2 [v]=some (x0::x1::v::t):=zid (x:=x2) rfl
def SubO:List Nat->Hp->Hp->Prop
 |_,[],_=>True
 |seen,(i,r)::t,hp=>(zaB i seen=true\/getH hp i=r)/\SubO (i::seen) t hp
theorem SubO.get':∀ {l hp:Hp}{seen:List Nat},SubO seen l hp->∀id r,id∉seen->getH l id=some r->getH hp id=some r
 | [],hp,seen,_,id,r,_,h=>by cases h
 |(i,x)::t,hp,seen,h,id,r,hns,hg=>by
  rw[zaa] at hg;by_cases hi:id=i
  ·subst hi;rw[if_pos rfl] at hg;rcases h.1 with h1|h1
   ·exact absurd (zat.1 h1) hns
   ·rw[h1];exact hg
  ·rw[if_neg hi] at hg;exact SubO.get' h.2 id r (by simp[hi,hns]) hg
theorem SubO.get {l hp:Hp} (h:SubO [] l hp):HSub l hp:=fun id r hg=>SubO.get' h id r oe hg
theorem HSub.over {i:Nat}{r r':Option Res}{hp:Hp} (h:getH hp i=r'):HSub ([(i,r')]++[(i,r)]) hp:=fun id x hx=>by
 have hx':getH ((i,r')::[(i,r)]) id=some x:=hx;rw[zaa] at hx';by_cases hi:id=i
 ·subst hi;rw[if_pos rfl] at hx';rw[h];exact hx'
 ·rw[if_neg hi,zaa,if_neg hi] at hx';cases hx'
theorem zar (n:Nat) (zs:List AV):AV.idsL (zbG n zs)=(List.replicate n (AV.idsL zs)).flatten:=by
 induction n with
 |zero=>rfl
 |succ n ih=>simp only[zbG,zaj,ih,List.replicate_succ,List.flatten_cons]
theorem zaP (n:Nat):(List.replicate n ([]:List Nat)).flatten=[]:=by
 induction n with
 |zero=>rfl
 |succ n ih=>simp only[List.replicate_succ,List.flatten_cons,ih,List.nil_append]
theorem LeA.gtg {id:Nat}{xs ys:List (List D)} (h:xs=ys):LeA (.gt id xs) (.gt id ys):=h ▸ .refl _
theorem LeA.msn {id n n':Nat} (h:n=n'):LeA (.ms id n) (.ms id n'):=h ▸ .refl _
theorem zbL {α:Type}{f:α->List D}{k:Nat} (m:Bool){l:List α} (hk:∀x,x∈l->(f x).length=k):(zay m (l.map f)).length=l.length*k:=by
 rw[zdr (k:=k)]
 ·simp
 ·intro x hx;obtain⟨y,hy,rfl⟩:=List.mem_map.1 hx;exact hk y hy
section
variable {c:Ctx}{env:Env}{hp:Hp}{K:Kt}{code:Code}
theorem xaB (id:Nat){cs:List AV} (cs':List AV) (hb:getH hp id=some (.tree cs)) (h:cs=cs') (hn:CWp c code ⟨env,(id,some (.tree cs'))::hp⟩ K):CWp c code ⟨env,hp⟩ K:=by
 subst h;rintro a w ⟨G,hr⟩
 refine hn a w ⟨G, ?_⟩;have hsame:∀i,getH ((id,some (Res.tree cs))::hp) i=getH hp i:=fun i=>by
  rw[zaa];split
  ·rename_i e;subst e;exact hb.symm
  ·rfl
 have ht:tokf ((id,some (Res.tree cs))::hp)=tokf hp:=by funext i;unfold tokf;rw[hsame]
 exact⟨hr.size,hr.defers,fun i v h=>by rw[ht];exact hr.slots i v h,fun i r h=>by rw[ht];exact hr.heap i r (by rw[<-hsame];exact h),
  fun i j h1 h2=>hr.disj i j (by rw[<-hsame];exact h1) (by rw[<-hsame];exact h2),fun i h=>hr.new i (by rw[<-hsame];exact h),hr.frm,hr.top,
  fun i l h'=>by
   show(G.loc i).head?=l.head?/\(getH ((id,some (Res.tree cs))::hp) i).isSome/\tokf ((id,some (Res.tree cs))::hp) i=none
   rw[hsame,ht];exact hr.kept i l h'⟩
end
def mkL {α:Type} (one:Int->α->α) (sz:α->Int):Int->List α->List α
 |_,[]=>[]
 |k,x::r=>one k x::mkL one sz (k+sz x) r
def szL {α:Type} (sz:α->Int):List α->Int
 | []=>0
 |x::r=>sz x+szL sz r
def zgY:List (List D)->Option (List Int)
 | []=>some []
 | [.int .u8 n]::r=>match zgY r with|some l=>some (n::l)|none=>none
 |_=>none
theorem zld:∀ {xs:List (List D)}{ns:List Int},zgY xs=some ns->xs=ns.map fun n=>[.int .u8 n]
 | [],ns,h=>by simp only[zgY,xae] at h;subst h;rfl
 |x::r,ns,h=>by
  unfold zgY at h;split at h
  ·cases ‹_::_=[]›
  ·rename_i n r' he;cases he
   cases hr:zgY r with
   |none=>simp[hr] at h
   |some l=>
    simp only[hr,xae] at h;subst h;rw[zld hr];rfl
  ·cases h
theorem zgZ:∀(bs:List UInt8),zgY (bs.map fun b=>[.int .u8 (b.toNat:Int)])=some (bs.map fun b=>(b.toNat:Int))
 | []=>rfl
 |b::r=>by simp only[xaf,zgY,zgZ r]
def strN (ns:List Int):List UInt8:=ns.map fun n=>UInt8.ofNat n.toNat
section
variable {c:Ctx}{all:Array Oper}{chk:List Rec->Prop}{os:List Oper}{recs:List Rec}{env:Env}{hp:Hp}{Q:St->Prop}
variable {d ty:Nat}{pos:String}{af:Array Edge}{g:Option (Nat×Bool)}{pg:List (Nat×AV)}
variable {t yt:TypeId}{x y:Operand}
theorem xbo {e yb:Nat}{xs:List (List D)}{ns:List Int}{vx:AV} (ht:SlT c.P t e 1 yb) (hyt:c.P.underlying yt=some .string) (hu:c.P.underlying e=some (.int .u8)) (hg:GH all env g pg) (hd:Nat.blt d c.n=true)
  (hx:opd env x=some vx) (hv:vx.toD=some (.sl xs)) (hns:zgY xs=some ns)
  (hn:Walk c all chk os (zal (pg++opF x vx) [] [] ⟨some (d,.d (.str (strN ns))),[]⟩::recs) ⟨(d,.d (.str (strN ns)))::env,hp⟩ Q):
  Walk c all chk (⟨some d,.convert t yt x,ty,pos,af,g⟩::os) recs ⟨env,hp⟩ Q:=
 xbL hg hd hx (fun a G T w h=>⟨.string ⟨(strN ns).toArray⟩,by
  have h1:=h.toD hv;have hxs:=zld hns;subst hxs;rcases h1.sl_cells (k:=1) (by intro e he;obtain⟨n,_,rfl⟩:=List.mem_map.1 he;rfl) with ⟨oa,cap,h2,h3,h4⟩|⟨b,off,cap,news,h2,h3,h4,h5,h6,h7⟩
  ·have hn0:ns=[]:=by simpa using h3
   subst hn0;cases oa with
   |none=>
    have:=run_convert_bytes_nil (P:=c.P) w t e ht.und hu 0 cap yt hyt;simp only[execOp,h2,Sem.run_bind,this,Result.andThen_ok,Sem.run_pure];rfl
   |some ad=>
    have h8:(loadCells ad 0).run c.P w = .ok (([]:List Int).map (Value.int .u8)).toArray w:=run_loadCells_list (P:=c.P) w ad [] (fun j v hj=>by simp at hj);have h9:=run_bytesToString (P:=c.P) w ad 0 cap [] h8;have:=run_convert_bytes_string (P:=c.P) w t yt e (some ad) 0 cap ht.und hu hyt;rw[h9] at this;simp only[execOp,h2,Sem.run_bind,this,Result.andThen_ok,Sem.run_pure];rfl
  ·have hlen:ns.length=(ns.map fun n=>[D.int .u8 n]).length:=by simp
   have:=run_convert_bytes_arg (P:=c.P) w t e ht.und hu b off _ cap ns hlen (fun i hi=>by
    have hi':i<ns.length:=by simpa using hi
    have hin:i<news.length:=by rw[h4];simpa using hi'
    have h8:=(h5 i _ (xan hin)).2;rw[h8];have h9:=h7 i hi 0 oe (by simpa using hin);simp only[List.getElem_map,List.getElem_cons_zero,Nat.mul_one,Nat.add_zero] at h9;generalize news[i]=u at h9;cases h9
    simp[List.getD,xan hi']) yt hyt
   simp only[execOp,h2,Sem.run_bind,this,Result.andThen_ok,Sem.run_pure];rfl,.d (.str _)⟩) hn
theorem Walk.cutM_h {e k yb id m:Nat}{o:Operand}{kd:IntKind}{n:Int}{b:Nat} (ht:SlT c.P t e k yb) (hg:GH all env g pg) (hd:Nat.blt d c.n=true)
  (hx:opd env x=some (.ms id m)) (ho:opd env o=some (.d (.int kd n))) (hi:n = ↑b) (hb:b<=m)
  (hn:Walk c all chk os (zal (pg++(opF x (.ms id m)++opF o (.d (.int kd n)))) [] [] ⟨some (d,.ms id b),[]⟩::recs) ⟨(d,.ms id b)::env,hp⟩ Q):
  Walk c all chk (⟨some d,.slice t x none (some o) none,ty,pos,af,g⟩::os) recs ⟨env,hp⟩ Q:=
 xbM hg hd hx ho (fun a G T w h1 h2=>by
  obtain⟨bl,cap,hl,he,hcap⟩:=h1.ms_eq;have hbd:=zif (P:=c.P) (w:=w) true m cap (lo:=none) (hi:=some (.int kd b)) (a:=0) (b:=b) (.inl ⟨rfl,rfl⟩) (.inr ⟨kd,rfl⟩) (Nat.zero_le _) od;refine⟨.slice (some ⟨bl,0,none⟩) b cap, ?_,.ms hl.1 hl.2 od⟩;simp only[execOp,h2.int_eq,hi,he,Option.map_none,Option.map_some,Instr.sliceAt,Sem.run_bind,run_underlying ht.und,Result.andThen_ok,Instr.slice,hbd,ht.run_size,Sem.run_pure,Nat.zero_mul,Nat.sub_zero,zcv,Nat.zero_add,ite_self]) hn
end
mutual
def renA (i j:Nat):AV->AV
 | .ms a n=>if a=i then .ms j n else .ms a n
 | .agg cs=> .agg (renL i j cs)
 | .tup cs=> .tup (renL i j cs)
 |x=>x
def renL (i j:Nat):List AV->List AV
 | []=>[]
 |x::r=>renA i j x::renL i j r
end
def zaX (i:Nat):AV->Bool
 | .ms a _=>Nat.beq a i
 | .d _=>true
 | .nils=>true
 | .agg cs=>soleL cs
 | .tup cs=>soleL cs
 |_=>false
where soleL:List AV->Bool
 | []=>true
 |x::r=>zaX i x&&soleL r
mutual
theorem zrO (i j:Nat):∀ {x:AV},zaX i x=true->renA j i (renA i j x)=x
 | .ms a n,h=>by
  simp only[zaX] at h;have:=xap h;subst this;simp[renA]
 | .d _,_=>rfl
 | .nils,_=>rfl
 | .agg cs,h=>by
  simp only[zaX] at h;simp only[renA,zjf i j h]
 | .tup cs,h=>by
  simp only[zaX] at h;simp only[renA,zjf i j h]
 | .sn _,h=>by simp[zaX] at h
 | .gl _ _,h=>by simp[zaX] at h
 | .gv _ _,h=>by simp[zaX] at h
 | .gt _ _,h=>by simp[zaX] at h
 | .ref _ _,h=>by simp[zaX] at h
 | .mo _ _ _,h=>by simp[zaX] at h
 | .mc _ _ _,h=>by simp[zaX] at h
 | .ga _ _ _ _,h=>by simp[zaX] at h
 | .gp _ _ _ _ _ _,h=>by simp[zaX] at h
 | .ght _ _,h=>by simp[zaX] at h
 | .gh _ _,h=>by simp[zaX] at h
 | .mapr _,h=>by simp[zaX] at h
 | .fn _ _,h=>by simp[zaX] at h
 | .own _ _,h=>by simp[zaX] at h
 | .any,h=>by simp[zaX] at h
theorem zjf (i j:Nat):∀ {l:List AV},zaX.soleL i l=true->renL j i (renL i j l)=l
 | [],_=>rfl
 |x::r,h=>by
  simp only[zaX.soleL,xad] at h;simp only[renL,zrO i j h.1,zjf i j h.2]
end
mutual
theorem zrY (i j:Nat):∀ {x:AV},zaX i x=true->zaX j (renA i j x)=true
 | .ms a n,h=>by
  simp only[zaX] at h;have:=xap h;subst this;simp[renA,zaX]
 | .d _,_=>rfl
 | .nils,_=>rfl
 | .agg cs,h=>by
  simp only[zaX] at h;simp only[renA,zaX,zjj i j h]
 | .tup cs,h=>by
  simp only[zaX] at h;simp only[renA,zaX,zjj i j h]
 | .sn _,h=>by simp[zaX] at h
 | .gl _ _,h=>by simp[zaX] at h
 | .gv _ _,h=>by simp[zaX] at h
 | .gt _ _,h=>by simp[zaX] at h
 | .ref _ _,h=>by simp[zaX] at h
 | .mo _ _ _,h=>by simp[zaX] at h
 | .mc _ _ _,h=>by simp[zaX] at h
 | .ga _ _ _ _,h=>by simp[zaX] at h
 | .gp _ _ _ _ _ _,h=>by simp[zaX] at h
 | .ght _ _,h=>by simp[zaX] at h
 | .gh _ _,h=>by simp[zaX] at h
 | .mapr _,h=>by simp[zaX] at h
 | .fn _ _,h=>by simp[zaX] at h
 | .own _ _,h=>by simp[zaX] at h
 | .any,h=>by simp[zaX] at h
theorem zjj (i j:Nat):∀ {l:List AV},zaX.soleL i l=true->zaX.soleL j (renL i j l)=true
 | [],_=>rfl
 |x::r,h=>by
  simp only[zaX.soleL,xad] at h;simp only[renL,zaX.soleL,zrY i j h.1,zjj i j h.2,Bool.and_self]
end
mutual
def frzA (x:D):AV->AV
 | .ms _ _=> .d x
 | .agg cs=> .agg (frzL x cs)
 | .tup cs=> .tup (frzL x cs)
 |y=>y
def frzL (x:D):List AV->List AV
 | []=>[]
 |y::r=>frzA x y::frzL x r
end
theorem zgB (x:D):∀l:List AV,(frzL x l).length=l.length
 | []=>rfl
 |y::r=>by simp[frzL,zgB x r]
theorem zlW (x:D):∀(l:List AV) (q:Nat) (h:q<l.length) (h':q<(frzL x l).length),(frzL x l)[q]=frzA x l[q]
 |y::r,0,_,_=>rfl
 |y::r,q+1,h,h'=>by simp only[frzL,List.getElem_cons_succ];exact zlW x r q (by simpa using h) (by simpa [frzL] using h')
def zno (i n:Nat):AV->Prop
 | .ms a m=>a=i/\m=n
 | .d _=>True
 | .nils=>True
 | .agg cs=>soleNL i n cs
 | .tup cs=>soleNL i n cs
 |_=>False
where soleNL (i n:Nat):List AV->Prop
 | []=>True
 |x::r=>zno i n x/\soleNL i n r
theorem zjk (i n:Nat):∀ {l:List AV},zno.soleNL i n l->∀q (h:q<l.length),zno i n l[q]
 |x::r,hs,q,h=>by
  cases q with
  |zero=>exact hs.1
  |succ q=>exact zjk i n hs.2 q (by simpa using h)
theorem RelA.frz {G G':Gh}{T T':TokF}{w:World}{i n:Nat}{x:AV}{v:Value}{d:D} (h:RelA G T w x v) (hF:∀b o,o<G.F b->o<G'.F b) (hms:∀v,RelA G T w (.ms i n) v->RelD G'.F w d v):zno i n x->RelA G' T' w (frzA d x) v:=by
 induction h with
 |d h=>intro _;exact .d (h.mono (fun b o ho=>⟨hF b o ho,I⟩))
 | @ms a m b cap h hT hc=>
  intro hs;obtain⟨rfl,rfl⟩:=hs;exact .d (hms _ (.ms h hT hc))
 | @agg cs vs hn h ih=>
  intro hs;simp only[frzA];exact .agg (by rw[zgB];exact hn) (fun q hq hv=>by
   have hq':q<cs.length:=by rw[zgB] at hq;exact hq
   rw[zlW d cs q hq' hq];exact ih q hq' hv (zjk i n hs q hq'))
 | @tup cs vs hn h ih=>
  intro hs;simp only[frzA];exact .tup (by rw[zgB];exact hn) (fun q hq hv=>by
   have hq':q<cs.length:=by rw[zgB] at hq;exact hq
   rw[zlW d cs q hq' hq];exact ih q hq' hv (zjk i n hs q hq'))
 |nils=>intro _;exact .nils
 |_=>intro hs;exact hs.elim
def xorV (m n:Int):Int:=IntKind.i64.wrap ((BitVec.ofInt 64 m ^^^ BitVec.ofInt 64 n).toNat:Int)
theorem zud {m n:Int} (hm:0<=m/\m<4611686018427387904) (hn:0<=n/\n<4611686018427387904):0<=xorV m n/\xorV m n<4611686018427387904:=by
 obtain⟨a,rfl⟩:=Int.eq_ofNat_of_zero_le hm.1;obtain⟨b,rfl⟩:=Int.eq_ofNat_of_zero_le hn.1;have ha:a<2 ^ 62:=by have:=hm.2;omega
 have hb:b<2 ^ 62:=by have:=hn.2;omega
 have h1:(BitVec.ofInt 64 (a:Int) ^^^ BitVec.ofInt 64 (b:Int)).toNat=a ^^^ b:=by
  rw[BitVec.toNat_xor,BitVec.toNat_ofInt,BitVec.toNat_ofInt];have e1:((a:Int) % ((2 ^ 64:Nat):Int)).toNat=a:=by
   have:(a:Int) % ((2 ^ 64:Nat):Int)=a:=Int.emod_eq_of_lt od od;rw[this];simp
  have e2:((b:Int) % ((2 ^ 64:Nat):Int)).toNat=b:=by
   have:(b:Int) % ((2 ^ 64:Nat):Int)=b:=Int.emod_eq_of_lt od od;rw[this];simp
  rw[e1,e2]
 have h2:a ^^^ b<2 ^ 62:=Nat.xor_lt_two_pow ha hb;unfold xorV;rw[h1,zcV od];omega
section
variable {c:Ctx}{all:Array Oper}{chk:List Rec->Prop}{os:List Oper}{recs:List Rec}{env:Env}{hp:Hp}{Q:St->Prop}
variable {d ty:Nat}{pos:String}{af:Array Edge}{g:Option (Nat×Bool)}{pg:List (Nat×AV)}
variable {t yt:TypeId}{x y:Operand}{m n:Int}
theorem Walk.xorI (hg:GH all env g pg) (hd:Nat.blt d c.n=true) (hx:opd env x=some (.d (.int .i64 m))) (hy:opd env y=some (.d (.int .i64 n)))
  (hn:Walk c all chk os (zal (pg++(opF x (.d (.int .i64 m))++opF y (.d (.int .i64 n)))) [] [] ⟨some (d,.d (.int .i64 (xorV m n))),[]⟩::recs) ⟨(d,.d (.int .i64 (xorV m n)))::env,hp⟩ Q):
  Walk c all chk (⟨some d,.binOp .xor t x y yt,ty,pos,af,g⟩::os) recs ⟨env,hp⟩ Q:=
 xbm hg hd hx hy (fun w=>⟨.int .i64 (xorV m n),by rw[binOp_xor];rfl,fun F=> .int _ _⟩) hn
end
def ze5 (i j:Nat):Env->Env
 | []=>[]
 |(k,v)::r=>(k,bif zaB i v.ids then .any else bif zaB j v.ids then .any else v)::ze5 i j r
theorem zi6 {i j:Nat}:∀ {l:Env}{t:Nat}{v:AV},getE (ze5 i j l) t=some v->∃u,getE l t=some u/\(v = .any\/(v=u/\i∉u.ids/\j∉u.ids))
 | [],_,_,h=>by simp[ze5,getE] at h
 |(k,x)::r,t,v,h=>by
  simp only[ze5,getE] at h ⊢;cases hb:Nat.beq k t with
  |true=>
   simp only[hb,cond_true,xae] at h;refine⟨x,by simp, ?_⟩;cases h1:zaB i x.ids with
   |true=>left;rw[h1] at h;exact h.symm
   |false=>
    cases h2:zaB j x.ids with
    |true=>left;rw[h1,h2] at h;exact h.symm
    |false=>
     right
     rw[h1,h2] at h;refine⟨h.symm,fun hm=>?_,fun hm=>?_⟩
     ·rw[zat.2 hm] at h1;cases h1
     ·rw[zat.2 hm] at h2;cases h2
  |false=>
   simp only[hb,cond_false] at h;obtain⟨u,h1,h2⟩:=zi6 h;exact⟨u,by simpa using h1,h2⟩
theorem RelA.gl_move {G G':Gh}{T T':TokF}{w:World}{i j n k:Nat}{xs:List (List D)}{v:Value} (h:RelA G T w (.gl i xs) v) (hT:T i=some (n,k)) (hF:G'.F=G.F) (hl:G'.loc j=G.loc i) (hT':T' j=some (n,k)):RelA G' T' w (.gl j xs) v:=by
 generalize hx:AV.gl i xs=x at h;cases h with
 | @gl id ys v h ht=>
  cases hx
  refine .gl (h.mono (fun b o ho=>⟨by rw[hF];exact ho,I⟩)) (fun n' k' he=>?_);rw[hT'] at he;cases he
  obtain⟨h1,h2⟩:=ht _ _ hT;refine⟨h1,fun hn=>?_⟩;obtain⟨h3,h4⟩:=h2 hn;refine⟨h3, ?_⟩;rcases h4 with ⟨a1,a2,a3⟩|⟨b,cap,cs,e,a1,a2,a3,a4⟩
  ·exact .inl ⟨hl.trans a1,a2,a3⟩
  ·exact .inr ⟨b,cap,cs,e,hl.trans a1,a2,by rw[hF];exact a3,a4⟩
 |_=>cases hx
section
variable {c:Ctx}{env:Env}{hp:Hp}{K:Kt}{code:Code}
theorem CWp.retok (t j i:Nat){n k:Nat}{ys:List (List D)} (ht:getE env t=some (.gl j ys)) (hi:getH hp i=none) (hj:getH hp j=some (.tok n k)) (o1:occH i hp=false) (o2:occH j hp=false)
  (hn:CWp c code ⟨(t,.gl i ys)::ze5 i j env,(i,some (.tok n k))::(j,none)::hp⟩ K):CWp c code ⟨env,hp⟩ K:=by
 rintro a w ⟨G,hr⟩
 have hne:i≠j:=fun e=>by subst e;rw[hi] at hj;cases hj
 let hp':Hp:=(i,some (.tok n k))::(j,none)::hp
 let G':Gh:={ G with loc:=fun x=>bif Nat.beq x i then G.loc j else G.loc x }
 have l1:G'.loc i=G.loc j:=by simp[G']
 have l2:∀x,x≠i->G'.loc x=G.loc x:=fun x h=>by simp[G',zci h]
 have g1:getH hp' i=some (.tok n k):=by simp[hp',getH]
 have g2:getH hp' j=none:=by
  show getH ((i,some (.tok n k))::(j,none)::hp) j=none
  rw[zaa,if_neg (fun e=>hne e.symm),zaa,if_pos rfl]
 have g3:∀x,x≠i->x≠j->getH hp' x=getH hp x:=fun x h1 h2=>by
  show getH ((i,some (.tok n k))::(j,none)::hp) x=_
  rw[zaa,if_neg h1,zaa,if_neg h2]
 have hTj:tokf hp j=some (n,k):=zaf.2 hj;have hTi:tokf hp' i=some (n,k):=zaf.2 g1;have hm:∀ {x:AV}{v:Value},i∉x.ids->j∉x.ids->RelA G (tokf hp) w x v->RelA G' (tokf hp') w x v:=fun hx1 hx2 hx=>
  hx.mono (fun _ _ ho=>⟨ho,rfl⟩) (fun id hid=> .inl (l2 id (fun e=>hx1 (e ▸ hid)))) (fun id hid p hp2=>⟨by
   have e1:id≠i:=fun e=>hx1 (e ▸ hid);have e2:id≠j:=fun e=>hx2 (e ▸ hid);unfold tokf at hp2 ⊢;rw[g3 id e1 e2] at hp2;exact hp2,fun _ _=>⟨I,I⟩⟩)
 have cases3:∀x (r:Res),getH hp' x=some r->(x=i/\r = .tok n k)\/(x≠i/\x≠j/\getH hp x=some r):=fun x r h=>by
  by_cases e1:x=i
  ·subst e1;rw[g1] at h;cases h;exact .inl ⟨I,I⟩
  ·by_cases e2:x=j
   ·subst e2;rw[g2] at h;cases h
   ·rw[g3 x e1 e2] at h;exact .inr ⟨e1,e2,h⟩
 have src:∀x,(getH hp' x).isSome->∃y,(getH hp y).isSome/\G'.loc x=G.loc y/\(y=j/\x=i\/y=x/\x≠j/\x≠i):=fun x h=>by
  obtain⟨r,hx⟩:=Option.isSome_iff_exists.1 h;rcases cases3 x r hx with ⟨rfl,_⟩|⟨e1,e2,h3⟩
  ·exact⟨j,by rw[hj];rfl,l1,.inl ⟨rfl,rfl⟩⟩
  ·exact⟨x,by rw[h3];rfl,l2 x e1,.inr ⟨rfl,e2,e1⟩⟩
 have nocc:∀ {id x:Nat}{r:Res},occH id hp=false->getH hp x=some r->id∉r.ids:=fun h1 h2=>zf9 h1 _ _ (zcz h2);refine hn a w ⟨G',hr.size,hr.defers,fun x v hx=>?_,fun x r hx=>?_,fun x y h1 h2 hxy b hb=>?_,fun x h1 b hb=>?_,hr.frm,hr.top,fun x l hl=>?_⟩
 ·have hx':getE ((t,.gl i ys)::ze5 i j env) x=some v:=hx;simp only[getE] at hx';cases hb:Nat.beq t x with
  |true=>
   have:=xap hb;subst this;simp only[hb,cond_true,xae] at hx';subst hx';exact(hr.slots t _ ht).gl_move hTj rfl l1 hTi
  |false=>
   simp only[hb,cond_false] at hx';obtain⟨u,h1,h2⟩:=zi6 hx';rcases h2 with rfl|⟨rfl,h3,h4⟩
   ·exact .any _
   ·exact hm h3 h4 (hr.slots x _ h1)
 ·rcases cases3 x r hx with ⟨rfl,rfl⟩|⟨e1,e2,h3⟩
  ·intro b hb;rw[l1] at hb;exact hr.heap j _ hj b hb
  ·have hh:=hr.heap x r h3;have n1:=nocc o1 h3;have n2:=nocc o2 h3;cases r with
   |box cs=>
    obtain⟨b,us,e,e1',e2',e3,e4,e5⟩:=hh;exact⟨b,us,e,(l2 x e1).trans e1',e2',e3,e4,fun q hq hv=>hm (fun hid=>n1 (xay (xao hq) hid)) (fun hid=>n2 (xay (xao hq) hid)) (e5 q hq hv)⟩
   |tok n' k'=>intro b hb;rw[l2 x e1] at hb;exact hh b hb
   |map ks=>
    obtain⟨b,es,cl,h5,h6⟩:=hh;exact⟨b,es,cl,(l2 x e1).trans h5,h6⟩
   |tree cs=>exact za3 hh (l2 x e1) (fun _ _=>⟨I,I⟩) (Nat.le_refl _) (fun y hy v=>hm (fun hid=>n1 (xay hy hid)) (fun hid=>n2 (xay hy hid)))
 ·obtain⟨x',s1,e1,d1⟩:=src x h1;obtain⟨y',s2,e2,d2⟩:=src y h2;rw[e1] at hb;rw[e2];refine hr.disj x' y' s1 s2 ?_ b hb;rcases d1 with ⟨rfl,rfl⟩|⟨rfl,f1,f2⟩<;>rcases d2 with ⟨rfl,rfl⟩|⟨rfl,f3,f4⟩
  ·exact absurd I hxy
  ·exact fun e=>f3 e.symm
  ·exact f1
  ·exact hxy
 ·obtain⟨x',s1,e1,d1⟩:=src x h1;rw[e1] at hb;exact hr.new x' s1 b hb
 ·have hk:=hr.kept x l hl;have e1:x≠i:=fun e=>by
   have h1:=hk.2.1;have h2:getH hp x=none:=e ▸ hi;change (getH hp x).isSome=true at h1
   rw[h2] at h1;cases h1
  have e2:x≠j:=fun e=>by
   have h1:=hk.2.2;change tokf hp x=none at h1
   rw[e,hTj] at h1;cases h1
  refine⟨by rw[l2 x e1];exact hk.1, ?_, ?_⟩
  ·show(getH hp' x).isSome=true
   rw[g3 x e1 e2];exact hk.2.1
  ·show tokf hp' x=none
   have:=hk.2.2;unfold tokf at this ⊢;rw[g3 x e1 e2];exact this
end
section
variable {c:Ctx}
theorem zp0 {G:Gh}{s:St}{a:Act}{w:World} (hr:R c G s a w){f:FuncId}{avs:List AV}{i j n k m:Nat}{ys:List (List D)}{vals:Array Value}
  (hf:FnD c.P f avs [(i,some (.tok n k))] (.gl i ys) [(i,some (.tok m k))]) (hargs:AllR G (tokf s.hp) w avs vals) (hi:getH s.hp i=some (.tok n k)) (hj:getH s.hp j=none) (hocc:zcI j s):
  Calls c.P f vals w fun e w'=>∃v,e = .returned v/\
   ∃G',R c G' { s with hp:=(i,none)::(j,some (.tok m k))::s.hp } a w'/\RelA G' (tokf ((i,none)::(j,some (.tok m k))::s.hp)) w' (.gl j ys) v:=by
 have hne:i≠j:=fun e=>by subst e;rw[hi] at hj;cases hj
 have only:∀ {id:Nat}{x y:Res},getH [(i,some x)] id=some y->id=i/\y=x:=fun {id x y} h=>by
  rw[zaa] at h;split at h
  ·rename_i e;cases h;exact⟨e,rfl⟩
  ·cases h
 have gi:getH [(i,some (Res.tok n k))] i=some (.tok n k):=by simp[getH]
 have hok:HOK G w [(i,some (.tok n k))] avs vals:=by
  refine⟨⟨hargs.size,fun q hq hv=>(hargs.rel q hq hv).mono (fun _ _ ho=>⟨ho,rfl⟩) (fun _ _=> .inl rfl) (fun id _ p hp=>⟨?_,fun _ _=>⟨rfl,rfl⟩⟩)⟩,fun id r h=>?_,fun id id' h1 h2 h3=>?_,hr.top⟩
  ·obtain⟨n',k'⟩:=p;obtain⟨rfl,h2⟩:=only (zaf.1 hp);cases h2
   exact zaf.2 hi
  ·obtain⟨rfl,rfl⟩:=only h;exact hr.heap _ _ hi
  ·obtain⟨x,hx⟩:=Option.isSome_iff_exists.1 h1;obtain⟨y,hy⟩:=Option.isSome_iff_exists.1 h2;exact absurd ((only hx).1.trans (only hy).1.symm) h3
 refine(hf G w vals hok).mono ?_;rintro e w' ⟨v,r,hp0,G',rfl,⟨rfl,rfl⟩,hret⟩
 refine⟨v,rfl, ?_⟩;have gi2:getH ([(i,some (Res.tok m k))]++[(i,some (.tok n k))]) i=some (.tok m k):=by simp[getH]
 have hown:∀b,b∈zds G [(i,some (Res.tok n k))]->b∈G.loc i:=fun b hb=>by
  obtain⟨id,h1,h2⟩:=ze7.1 hb;obtain⟨x,hx⟩:=Option.isSome_iff_exists.1 h1;rw[(only hx).1] at h2;exact h2
 have hsi:(getH s.hp i).isSome:=by rw[hi];rfl
 let hp':Hp:=(i,none)::(j,some (.tok m k))::s.hp
 let G2:Gh:={ F:=G'.F,loc:=fun x=>bif Nat.beq x j then G'.loc i else G.loc x }
 have l1:G2.loc j=G'.loc i:=by simp[G2]
 have l2:∀x,x≠j->G2.loc x=G.loc x:=fun x h=>by simp[G2,zci h]
 have g1:getH hp' i=none:=by
  show getH ((i,none)::(j,some (.tok m k))::s.hp) i=none
  rw[zaa,if_pos rfl]
 have g2:getH hp' j=some (.tok m k):=by
  show getH ((i,none)::(j,some (.tok m k))::s.hp) j=_
  rw[zaa,if_neg (fun e=>hne e.symm),zaa,if_pos rfl]
 have g3:∀x,x≠i->x≠j->getH hp' x=getH s.hp x:=fun x h1 h2=>by
  show getH ((i,none)::(j,some (.tok m k))::s.hp) x=_
  rw[zaa,if_neg h1,zaa,if_neg h2]
 have cases3:∀x (r:Res),getH hp' x=some r->(x=j/\r = .tok m k)\/(x≠i/\x≠j/\getH s.hp x=some r):=fun x r h=>by
  by_cases e1:x=i
  ·subst e1;rw[g1] at h;cases h
  ·by_cases e2:x=j
   ·subst e2;rw[g2] at h;cases h;exact .inl ⟨I,I⟩
   ·rw[g3 x e1 e2] at h;exact .inr ⟨e1,e2,h⟩
 have bound:∀x r,getH s.hp x=some r->∀b,b∈G.loc x->b<w.heap.size:=fun x r h=>(hr.heap x r h).bound;have blk:∀x r,x≠i->getH s.hp x=some r->∀b,b∈G.loc x->w'.heap[b]?=w.heap[b]?/\G'.F b=G.F b:=fun x r h1 h2 b hb=>
  hret.frm.block b (bound x r h2 b hb) (fun hm=>hr.disj x i (by rw[h2];rfl) hsi h1 b hb (hown b hm))
 have hm:∀ {x:AV}{v:Value},j∉x.ids->RelA G (tokf s.hp) w x v->RelA G2 (tokf hp') w' x v:=fun hx1 hx=>
  hx.mono hret.frm.cell (fun id hid=> .inl (l2 id (fun e=>hx1 (e ▸ hid)))) (fun id hid p hp2=>by
   have e1:id≠j:=fun e=>hx1 (e ▸ hid);obtain⟨n',k'⟩:=p;have h1:=zaf.1 hp2;rcases cases3 id _ h1 with ⟨e,_⟩|⟨e2,_,h3⟩
   ·exact absurd e e1
   ·exact⟨zaf.2 h3,blk id _ e2 h3⟩)
 have src:∀x,(getH hp' x).isSome->x=j\/(x≠i/\x≠j/\(getH s.hp x).isSome):=fun x h=>by
  obtain⟨r,hx⟩:=Option.isSome_iff_exists.1 h;rcases cases3 x r hx with ⟨rfl,_⟩|⟨e1,e2,h3⟩
  ·exact .inl I
  ·exact .inr ⟨e1,e2,by rw[h3];rfl⟩
 have hnew:=hret.new i (by rw[gi2];rfl);have mix:∀x,x≠i->(getH s.hp x).isSome->∀b,b∈G'.loc i->b∉G.loc x:=fun x h1 h2 b hb hbx=>by
  obtain⟨r,hx⟩:=Option.isSome_iff_exists.1 h2;rcases hnew b hb with h|h
  ·exact hr.disj i x hsi h2 (fun e=>h1 e.symm) b (hown b h) hbx
  ·have:=bound x r hx b hbx;omega
 refine⟨G2,⟨hr.size,hr.defers,fun x v hx=>hm (hocc.1 x v hx) (hr.slots x v hx),fun x r hx=>?_,fun x y h1 h2 hxy b hb=>?_,fun x h1 b hb=>?_,hr.frm.trans hret.frm ?_,hret.top,fun x l hl=>?_⟩, ?_⟩
 ·rcases cases3 x r hx with ⟨rfl,rfl⟩|⟨e1,e2,h3⟩
  ·intro b hb;rw[l1] at hb;exact hret.heap i _ gi2 b hb
  ·have hh:=hr.heap x r h3;have n2:=hocc.2 x r h3;have hb0:=blk x r e1 h3;cases r with
   |box cs=>
    obtain⟨b,us,e,e1',e2',e3,e4,e5⟩:=hh;obtain⟨f1,f2⟩:=hb0 b (by simp[e1']);exact⟨b,us,e,(l2 x e2).trans e1',f1.trans e2',e3,f2.trans e4,fun q hq hv=>hm (fun hid=>n2 (xay (xao hq) hid)) (e5 q hq hv)⟩
   |tok n' k'=>intro b hb;rw[l2 x e2] at hb;exact Nat.lt_of_lt_of_le (hh b hb) hret.frm.size
   |map ks=>
    obtain⟨b,es,cl,h5,h6,h7,h8⟩:=hh;obtain⟨f1,f2⟩:=hb0 b (by simp[h5]);exact⟨b,es,cl,(l2 x e2).trans h5,f1.trans h6,f2.trans h7,h8⟩
   |tree cs=>exact za3 hh (l2 x e2) hb0 hret.frm.size (fun y hy v=>hm (fun hid=>n2 (xay hy hid)))
 ·rcases src x h1 with rfl|⟨a1,a2,a3⟩<;>rcases src y h2 with rfl|⟨b1,b2,b3⟩
  ·exact absurd I hxy
  ·rw[l1] at hb;rw[l2 y b2];exact mix y b1 b3 b hb
  ·rw[l2 x a2] at hb;rw[l1];exact fun h=>mix x a1 a3 b h hb
  ·rw[l2 x a2] at hb;rw[l2 y b2];exact hr.disj x y a3 b3 hxy b hb
 ·rcases src x h1 with rfl|⟨a1,a2,a3⟩
  ·rw[l1] at hb;rcases hnew b hb with h|h
   ·exact hr.new i hsi b (hown b h)
   ·right;have:=hr.frm.size;omega
  ·rw[l2 x a2] at hb;exact hr.new x a3 b hb
 ·intro b hb;exact hr.new i hsi b (hown b hb)
 ·have hk:=hr.kept x l hl;have e1:x≠i:=fun e=>by
   have h1:=hk.2.2;have h2:tokf s.hp x=some (n,k):=e ▸ zaf.2 hi;rw[h2] at h1;cases h1
  have e2:x≠j:=fun e=>by
   have h1:=hk.2.1;have h2:getH s.hp x=none:=e ▸ hj;rw[h2] at h1;cases h1
  refine⟨by rw[l2 x e2];exact hk.1, ?_, ?_⟩
  ·show(getH hp' x).isSome=true
   rw[g3 x e1 e2];exact hk.2.1
  ·show tokf hp' x=none
   have:=hk.2.2;unfold tokf at this ⊢;rw[g3 x e1 e2];exact this
 ·exact hret.res.gl_move (G':=G2) (zaf.2 gi2) I l1 (zaf.2 g2)
end
section
variable {c:Ctx}{all:Array Oper}{chk:List Rec->Prop}{os:List Oper}{recs:List Rec}{env:Env}{hp:Hp}{Q:St->Prop}
variable {d ty:Nat}{pos:String}{af:Array Edge}{g:Option (Nat×Bool)}{pg:List (Nat×AV)}
theorem xbq {f:FuncId}{args:Array Operand}{ats:Array TypeId}{xs:List Operand}{vs avs:List AV}{i n k m:Nat}{ys:List (List D)} (j:Nat) (hc:Callee c.P f)
  (hf:FnD c.P f avs [(i,some (.tok n k))] (.gl i ys) [(i,some (.tok m k))])
  (hargs:args=xs.toArray) (hg:GH all env g pg) (hd:Nat.blt d c.n=true) (hx:opdL env xs=some vs) (hle:LeL vs avs) (hi:getH hp i=some (.tok n k)) (hcr:zaz env hp [j]=true)
  (hn:Walk c all chk os (zal (pg++opFL xs vs) [(i,.tok n k)] [j] ⟨some (d,.gl j ys),[(i,none),(j,some (.tok m k))]⟩::recs) ⟨(d,.gl j ys)::env,(i,none)::(j,some (.tok m k))::hp⟩ Q):
  Walk c all chk (⟨some d,.call ⟨.value (.func f),args,ats⟩,ty,pos,af,g⟩::os) recs ⟨env,hp⟩ Q:=by
 subst hargs;refine⟨pg++opFL xs vs,[(i,.tok n k)],[j],_, ?_,zaq hg.facts (zbX hx),hh1 hi,zbf hcr,hn⟩;intro s a w hrel hp' hh hcr' K Q' hK;obtain⟨G,hr⟩:=hrel;have hrl:=zcT hr (zcc hx (fun p hm=>hp' p (by simp[hm])));have hle':∀ {l m:List AV},LeL l m->∀i (h1:i<l.length) (h2:i<m.length),LeA l[i] m[i]:=by
  intro l;induction l with
  |nil=>intro m _ i h1;simp at h1
  |cons x r ih=>
   intro m h i h1 h2;cases h with
   |cons h t=>
    cases i with
    |zero=>exact h
    |succ i=>exact ih t i (by simpa using h1) (by simpa using h2)
 have hall:AllR G (tokf s.hp) w avs (xs.map a.eval).toArray:=by
  refine⟨by simp[<-hle.len,hrl.1],fun i hi hv=>?_⟩;have h1:i<vs.length:=by rw[hle.len];exact hi
  have:=(hrl.2 i h1 (by rw[<-hrl.1];exact h1)).le (hle' hle i h1 hi);simpa using this
 have hcalls:=zp0 hr hf hall (hh1' hh) (hcr' j oe).1 (hcr' j oe).2;unfold wpO;rw[if_pos (hg.gf.wanted hr (fun p hm=>hp' p (by simp[hm])))];unfold Oper.wp;have hrun:(execOp a.eval ⟨some d,.call ⟨.value (.func f),xs.toArray,ats⟩,ty,pos,af,g⟩).run c.P w = .ok (.enter f (xs.map a.eval).toArray) w:=by
  have:=hc.run (xs.map a.eval).toArray w;simp only[execOp,resolve,Sem.run_bind,Act.eval,Deferred.ofValue,Sem.run_pure,Result.andThen_ok,invoke];simpa using this
 rw[hrun,Oper.upon_enter];refine hcalls.mono ?_;rintro e w' ⟨v,rfl,G',hR,hA⟩
 exact hK _ _ ⟨G',hR.put hA hd⟩
end
section
variable {c:Ctx}{all:Array Oper}{K:Kt}
theorem zm6 {Q:St->Prop}{Q':Exit->Act->World->Prop}{l2:List Nat} (hQ:∀s a w,Rel c s a w->Q s->wpOps c.P all Q' l2 a w):
  ∀(l:List Nat) (os:List Oper) (recs:List Rec) (s:St) (a:Act) (w:World),l.filterMap (all[·]?)=os->(∀i,i∈l->i<all.size)->
   Walk c all (fun _=>True) os recs s Q->Rel c s a w->wpOps c.P all Q' (l++l2) a w
 | [],os,recs,s,a,w,hl,_,hw,hr=>by
  simp only[List.filterMap_nil] at hl;subst hl;exact hQ s a w hr hw.2
 |i::l,os,recs,s,a,w,hl,hlt,hw,hr=>by
  have hi:i<all.size:=hlt i oe;have ho:all[i]?=some all[i]:=by simp[hi]
  rw[List.filterMap_cons] at hl;simp only[ho] at hl;subst hl;obtain⟨pre,prh,cr,u,hrule,h1,h2,h3,hrest⟩:=hw;rw[xai,wpOps_cons];unfold wpOp;simp only[ho];have:=hrule s a w hr h1 h2 h3 (wpOps c.P all Q' (l++l2)) Q' (fun a' w' hr'=>
   zm6 hQ l _ _ _ a' w' rfl (fun j hj=>hlt j (by simp[hj])) hrest hr')
  unfold wpO at this;split
  ·rename_i hw;simp only[hw,if_true] at this;exact .inl this
  ·rename_i hw;simp only[hw] at this;exact this
theorem zrI (all:Array Oper):(List.range all.size).filterMap (all[·]?)=all.toList:=by
 have h1:(List.range all.size).filterMap (all[·]?)=(List.range all.toList.length).filterMap (all.toList[·]?):=by simp
 rw[h1];generalize all.toList=l;induction l with
 |nil=>rfl
 |cons x l ih=>
  rw[xab,List.range_succ_eq_map,List.filterMap_cons];simp only[List.getElem?_cons_zero,List.filterMap_map];exact xam (List.cons x) ih
theorem zfW {all:Array Oper}:∀ {l:List Nat},(∀i,i∈l->i<all.size)->l.filterMap (all[·]?)=l.map (fun i=>all[i]!)
 | [],_=>rfl
 |i::r,h=>by
  have hi:i<all.size:=h i oe;have ho:all[i]?=some all[i]:=by simp[hi]
  rw[List.filterMap_cons];simp only[ho,xaf];rw[zfW (fun j hj=>h j (by simp[hj]))];simp[hi]
theorem zo8 (all:Array Oper) (k j:Nat):(((List.range all.size).drop k).take j).filterMap (all[·]?)=(all.toList.drop k).take j:=by
 have h0:=zrI all;rw[zfW (fun i hi=>by simpa using hi)] at h0;rw[zfW (fun i hi=>by simpa using List.mem_of_mem_drop (List.mem_of_mem_take hi)),<-h0,List.map_take,List.map_drop]
def WRest (c:Ctx) (all:Array Oper) (k:Nat) (s:St) (K:Kt):Prop:=∀a w,Rel c s a w->wpOps c.P all (K.post c) ((List.range all.size).drop k) a w
theorem xaC {id:Nat}{s:St} (h:WRest c all 0 s K):CWp c (.region id all false) s K:=by
 intro a w hr;have:=h a w hr;rw[List.drop_zero] at this;exact wp_region this
theorem xbg {k:Nat}{s:St} (h:Walk c all (fun _=>True) (all.toList.drop k) [] s K.n):WRest c all k s K:=by
 intro a w hr;have e:=zo8 all k (all.size-k);rw[List.take_of_length_le oe,List.take_of_length_le oe] at e;exact zkA (Q:=K.n) (fun s a w hr hq=>⟨s,hr,hq⟩) _ _ [] s a w e (fun i hi=>by simpa using List.mem_of_mem_drop hi) h hr
theorem xbh {k:Nat}{env:Env}{hp:Hp} (j:Nat) (E:Env) (ks:List Nat)
  (h1:Walk c all (fun _=>True) ((all.toList.drop k).take j) [] ⟨env,hp⟩ (fun s1=>Sub ⟨E++(zch ks++env),[]++hp⟩ s1))
  (h2:WRest c all (k+j) ⟨E++(zch ks++env),hp⟩ K):WRest c all k ⟨env,hp⟩ K:=by
 intro a w hr;have hk:∀id l,c.kept id=some l->(getH hp id).isSome:=by
  obtain⟨G,hg⟩:=hr;exact fun id l hl=>(hg.kept id l hl).2.1
 have e:(List.range all.size).drop k=((List.range all.size).drop k).take j++(List.range all.size).drop (k+j):=by
  conv=>lhs;rw[<-List.take_append_drop j ((List.range all.size).drop k),List.drop_drop]
 rw[e];exact zm6 (fun s1 a1 w1 hr1 hs=>h2 a1 w1 (hr1.sub hs hk)) _ _ [] _ a w (zo8 all k j) (fun i hi=>by simpa using List.mem_of_mem_drop (List.mem_of_mem_take hi)) h1 hr
end
theorem zmH {i j:Nat}{b:Env}{t:Nat}{v:AV}:∀ {a:Env},getE (a++ze5 i j b) t=some v->∃u,getE (a++b) t=some u/\(v = .any\/v=u)
 | [],h=>by
  obtain⟨u,h1,h2⟩:=zi6 (l:=b) h;exact⟨u,h1,h2.imp_right (fun h=>h.1)⟩
 |(k,x)::r,h=>by
  simp only[xai,getE] at h ⊢;cases hb:Nat.beq k t with
  |true=>simp only[hb,cond_true,xae] at h;exact⟨x,by simp,.inr h.symm⟩
  |false=>
   simp only[hb,cond_false] at h;obtain⟨u,h1,h2⟩:=zmH (a:=r) h;exact⟨u,by simpa using h1,h2⟩
theorem Sub.kill {i j:Nat}{a b:Env}{hp:Hp}{s:St} (h:Sub ⟨a++b,hp⟩ s):Sub ⟨a++ze5 i j b,hp⟩ s:=by
 refine⟨fun t v hv=>?_,h.hp⟩;obtain⟨u,h1,h2⟩:=zmH hv;rcases h2 with rfl|rfl
 ·exact .inl I
 ·exact h.env t v h1
section
variable {c:Ctx}{K:Kt}
theorem CWp.loopT (i j:Nat){ι:Type}{body:Code}{env:Env}{hp:Hp}{ids:List Nat} (hkp:KeptIn c.kept ids) (E:ι->Env) (ks:List Nat) (H:ι->Hp) (good:ι->Prop) (μ:ι->Nat) (x0:ι) (h0:good x0)
  (he0:SubE (E x0) env) (hh0:SubH (H x0) hp) (hk:∀x,ids.all (fun id=>(getH (H x++hp) id).isSome)=true)
  (hround:∀x,good x->CWp c body ⟨E x++(zch ks++ze5 i j env),H x++hp⟩ (K.with fun s'=>∃x',good x'/\μ x'<μ x/\Sub ⟨E x'++(zch ks++ze5 i j env),H x'++hp⟩ s')):
  CWp c (.loop body) ⟨env,hp⟩ K:=by
 refine CWp.loop (fun x=>⟨E x++(zch ks++ze5 i j env),H x++hp⟩) good μ x0 h0 ?_ (fun x=>hkp.ok (hk x)) hround;have h:Sub ⟨E x0++(zch ks++env),H x0++hp⟩ ⟨env,hp⟩:=Sub.x oe (by simp[zeZ]) he0 oe (by simp[zdK]) hh0;rw[<-xar] at h;have:=h.kill (i:=i) (j:=j);rw[xar] at this;exact this
end
theorem FnD.nilTok {P:Program}{f:FuncId}{i k m:Nat}{rest:List AV}{ys:List (List D)} (hrest:AV.idsL rest=[]) (h:FnD P f (.gl i []::rest) [(i,some (.tok 0 k))] (.gl i ys) [(i,some (.tok m k))]):
  FnD P f (.nils::rest) [] (.d (.sl ys)) []:=by
 intro G w vals hok;let G1:Gh:={ G with loc:=fun _=>[] }
 have only:∀ {id:Nat}{x y:Res},getH [(i,some x)] id=some y->id=i/\y=x:=fun {id x y} h=>by
  rw[zaa] at h;split at h
  ·rename_i e;cases h;exact⟨e,rfl⟩
  ·cases h
 have gi:getH [(i,some (Res.tok 0 k))] i=some (.tok 0 k):=by simp[getH]
 have hok1:HOK G1 w [(i,some (.tok 0 k))] (.gl i []::rest) vals:=by
  refine⟨⟨hok.args.size,fun q hq hv=>?_⟩,fun id r hx=>?_,fun id id' h1 h2 h3=>?_,hok.top⟩
  ·have h1:=hok.args.rel q hq hv;cases q with
   |zero=>
    simp only[List.getElem_cons_zero] at h1 ⊢;generalize vals[0]=v at *;cases h1
    refine .gl .nil (fun n k' hT=>?_);have:=(only (zaf.1 hT)).2;cases this
    exact⟨Nat.le_refl _,fun _=>⟨by simp,.inl ⟨rfl,rfl,rfl⟩⟩⟩
   |succ q=>
    simp only[List.getElem_cons_succ] at h1 ⊢;have hn:∀id,id∉(rest[q]'(by simpa using hq)).ids:=fun id hid=>by
     have:=xay (xao _) hid;rw[hrest] at this;simp at this
    exact h1.mono (fun _ _ ho=>⟨ho,I⟩) (fun id hid=>(hn id hid).elim) (fun id hid=>(hn id hid).elim)
  ·obtain⟨rfl,rfl⟩:=only hx;intro b hb;simp[G1] at hb
  ·obtain⟨x,hx⟩:=Option.isSome_iff_exists.1 h1;obtain⟨y,hy⟩:=Option.isSome_iff_exists.1 h2;exact absurd ((only hx).1.trans (only hy).1.symm) h3
 refine(h G1 w vals hok1).mono ?_;rintro e w' ⟨v,r,hp',G',rfl,⟨rfl,rfl⟩,hret⟩
 have own1:∀b,b∉zds G1 [(i,some (Res.tok 0 k))]:=fun b hb=>by
  obtain⟨id,_,h2⟩:=ze7.1 hb;simp[G1] at h2
 have hres:RelD G'.F w' (.sl ys) v:=by
  have h1:=hret.res;generalize hx:AV.gl i ys=x at h1;cases h1 with
  |gl h _=>cases hx;exact h
  |_=>cases hx
 refine⟨v,_,_,G',rfl,⟨rfl,rfl⟩,.d hres,fun id x hx=>?_,fun id id' h1=>?_,fun id h1=>?_, ?_,hret.top,fun id hi=>?_⟩
 ·simp[getH] at hx
 ·simp[getH] at h1
 ·simp[getH] at h1
 ·have hf:=hret.frm;exact⟨hf.os,hf.tape,hf.output,hf.size,fun b hb hn=>hf.block b hb (own1 b),hf.cell⟩
 ·simp[zcg,getH] at hi
theorem zhy {P:Program}{w:World}{G:Gh}{T:TokF}:∀ {d:Nat}{fs:List Field}{i:Nat}{xs ys:List AV}{b:Bool}{us vs:Array Value},zd5 P i fs=true->eqC xs ys=some b->fs.length=xs.length->
  (∀j (h:j<xs.length),∃u,us[i+j]?=some u/\RelA G T w xs[j] u)->(∀j (h:j<ys.length),∃u,vs[i+j]?=some u/\RelA G T w ys[j] u)->
  (Op.eqFields (d+1) us vs fs).run P w = .ok b w
 |d,[],i,[],[],b,us,vs,_,h,_,_,_=>by simp only[eqC,xae] at h;subst h;simp[Op.eqFields]
 |d,[],i,[],_::_,b,us,vs,_,h,_,_,_=>by simp[eqC] at h
 |d,[],i,_::_,_,b,us,vs,_,_,h,_,_=>by simp at h
 |d,f::fs,i,[],_,b,us,vs,_,_,h,_,_=>by simp at h
 |d,f::fs,i,x::xs,ys,b,us,vs,hf,he,hl,hx,hy=>by
  cases ys with
  |nil=>unfold eqC at he;split at he<;>simp_all
  |cons y ys=>
   unfold eqC at he;split at he
   ·rename_i h1 h2;simp at h1
   ·rename_i a r b' s h1 h2;simp only[List.cons.injEq] at h1 h2;obtain⟨rfl,rfl⟩:=h1;obtain⟨rfl,rfl⟩:=h2;split at he
    ·rename_i t ht;simp only[xae] at he;subst he;simp only[zd5,xad,bne_iff_ne] at hf;obtain⟨⟨⟨f1,f2⟩,f3⟩,f4⟩:=hf;have f2':=xap f2;obtain⟨u,hu,hru⟩:=hx 0 oe;obtain⟨v,hv,hrv⟩:=hy 0 oe;have hu':=hru.int_eq;have hv':=hrv.int_eq;subst hu' hv';have ih:=zhy (P:=P) (w:=w) (d:=d) (us:=us) (vs:=vs) f4 ht (by simpa using hl)
      (fun j h=>by obtain⟨u,h1,h2⟩:=hx (j+1) (by simpa using h);exact⟨u,by rw[show i+1+j=i+(j+1) by omega];exact h1,by simpa using h2⟩)
      (fun j h=>by obtain⟨u,h1,h2⟩:=hy (j+1) (by simpa using h);exact⟨u,by rw[show i+1+j=i+(j+1) by omega];exact h1,by simpa using h2⟩)
     split at f3
     ·rename_i kd hk;have p1:(part f.type us f.offset).run P w = .ok (.int .i64 a) w:=by
       have hu0:us[i]?=some (.int .i64 a):=by simpa using hu
       simp only[part,isAgg,Sem.run_bind,run_underlying hk,Result.andThen_ok,Sem.run_pure,f2',hu0,Bool.false_eq_true,if_false]
      have p2:(part f.type vs f.offset).run P w = .ok (.int .i64 b') w:=by
       have hv0:vs[i]?=some (.int .i64 b'):=by simpa using hv
       simp only[part,isAgg,Sem.run_bind,run_underlying hk,Result.andThen_ok,Sem.run_pure,f2',hv0,Bool.false_eq_true,if_false]
      simp only[Op.eqFields];rw[if_pos f1];simp only[Sem.run_bind,p1,p2,Result.andThen_ok,run_equalIn_int w d f.type .i64 kd a b' hk];by_cases hab:a=b'
      ·subst hab;simp[ih]
      ·simp[hab]
     ·cases f3
    ·cases he
   ·cases he
def subF (P:Program) (f:Field):Nat:=match P.underlying f.type with
 |some (.int _)=>1
 |some (.struct _)=>(P.fieldsOf f.type).size
 |_=>0
def zkR (P:Program):List Field->Nat
 | []=>0
 |f::r=>subF P f+zkR P r
def zf6 (P:Program):Nat->List Field->Bool
 |_,[]=>true
 |i,f::r=>(f.name != "_")&&Nat.beq f.offset i&&(match P.underlying f.type with
  |some (.int _)=>true
  |some (.struct _)=>(match P.stoodInHeld f.type with|true=>false|false=>true)&&zd5 P 0 (P.fieldsOf f.type).toList&&(match znq P f.type with|some (k,true)=>Nat.beq k (P.fieldsOf f.type).size|_=>false)
  |_=>false)&&zf6 P (i+subF P f) r
structure EqT2 (P:Program) (t k:Nat):Prop where
 und:P.underlying t=some (.struct (P.fieldsOf t))
 held:P.stoodInHeld t=false
 grd:P.eqGuardType P.depth t=false
 fld:zf6 P 0 (P.fieldsOf t).toList=true
 len:zkR P (P.fieldsOf t).toList=k
theorem zrc {k:Nat}:∀ {xs ys:List AV}{b:Bool},eqC xs ys=some b->k<=xs.length->∃b1 b2,eqC (xs.take k) (ys.take k)=some b1/\eqC (xs.drop k) (ys.drop k)=some b2/\b=(b1&&b2):=by
 induction k with
 |zero=>intro xs ys b h _;exact⟨true,b,by simp[eqC],by simpa using h,by simp⟩
 |succ k ih=>
  intro xs ys b h hk;cases xs with
  |nil=>simp at hk
  |cons x r=>
   cases ys with
   |nil=>unfold eqC at h;split at h<;>simp_all
   |cons y s=>
    unfold eqC at h;split at h
    ·rename_i h1 h2;simp at h1
    ·rename_i a r' b' s' h1 h2;simp only[List.cons.injEq] at h1 h2;obtain⟨rfl,rfl⟩:=h1;obtain⟨rfl,rfl⟩:=h2;split at h
     ·rename_i t ht;simp only[xae] at h;subst h;obtain⟨b1,b2,e1,e2,e3⟩:=ih ht (by simpa using hk);refine⟨decide (a=b')&&b1,b2,by simp[eqC,e1],by simpa using e2,by rw[e3,Bool.and_assoc]⟩
     ·cases h
    ·cases h
theorem zhx {P:Program}{w:World}{G:Gh}{T:TokF}:∀ {fs:List Field}{i:Nat}{xs ys:List AV}{b:Bool}{us vs:Array Value},zf6 P i fs=true->eqC xs ys=some b->zkR P fs=xs.length->
  (∀j (h:j<xs.length),∃u,us[i+j]?=some u/\RelA G T w xs[j] u)->(∀j (h:j<ys.length),∃u,vs[i+j]?=some u/\RelA G T w ys[j] u)->
  (Op.eqFields 9999 us vs fs).run P w = .ok b w
 | [],i,xs,ys,b,us,vs,_,h,hl,_,_=>by
  have e:xs=[]:=List.eq_nil_of_length_eq_zero hl.symm;subst e;have e2:=zlV h;have e:ys=[]:=List.eq_nil_of_length_eq_zero e2.symm;subst e;simp only[eqC,xae] at h;subst h;simp[Op.eqFields]
 |f::fs,i,xs,ys,b,us,vs,hf,he,hl,hx,hy=>by
  have hlen:=zlV he;simp only[zkR] at hl;simp only[zf6,xad,bne_iff_ne] at hf;obtain⟨⟨⟨f1,f2⟩,f3⟩,f4⟩:=hf;have f2':=xap f2;obtain⟨b1,b2,e1,e2,e3⟩:=zrc (k:=subF P f) he od;have ih:=zhx (P:=P) (w:=w) (us:=us) (vs:=vs) f4 e2 (by rw[List.length_drop];omega)
   (fun j h=>by
    rw[List.length_drop] at h;obtain⟨u,h1,h2⟩:=hx (subF P f+j) od;exact⟨u,by rw[Nat.add_assoc];exact h1,by rw[List.getElem_drop];exact h2⟩)
   (fun j h=>by
    rw[List.length_drop] at h;obtain⟨u,h1,h2⟩:=hy (subF P f+j) od;exact⟨u,by rw[Nat.add_assoc];exact h1,by rw[List.getElem_drop];exact h2⟩)
  have key:∃u v,(part f.type us f.offset).run P w = .ok u w/\(part f.type vs f.offset).run P w = .ok v w/\(Op.equalIn 9999 f.type u v).run P w = .ok b1 w:=by
   split at f3
   ·rename_i kd hk;have hs:subF P f=1:=by unfold subF;rw[hk]
    rw[hs] at e1 hl;obtain⟨u,hu,hru⟩:=hx 0 od;obtain⟨v,hv,hrv⟩:=hy 0 od;rcases xs with _|⟨x,xr⟩
    ·simp at hl
    rcases ys with _|⟨y,yr⟩
    ·simp at hlen
    simp only[List.getElem_cons_zero] at hru hrv;simp only[List.take_succ_cons,List.take_zero] at e1;unfold eqC at e1;split at e1
    ·rename_i h1 _;simp at h1
    ·rename_i a r b' s h1 h2;simp only[List.cons.injEq] at h1 h2;obtain⟨rfl,rfl⟩:=h1;obtain⟨rfl,rfl⟩:=h2;simp only[eqC,Bool.and_true,xae] at e1;have hu':=hru.int_eq;have hv':=hrv.int_eq;subst hu' hv';refine⟨.int .i64 a,.int .i64 b', ?_, ?_, ?_⟩
     ·have hu0:us[i]?=some (.int .i64 a):=by simpa using hu
      simp only[part,isAgg,Sem.run_bind,run_underlying hk,Result.andThen_ok,Sem.run_pure,f2',hu0,Bool.false_eq_true,if_false]
     ·have hv0:vs[i]?=some (.int .i64 b'):=by simpa using hv
      simp only[part,isAgg,Sem.run_bind,run_underlying hk,Result.andThen_ok,Sem.run_pure,f2',hv0,Bool.false_eq_true,if_false]
     ·rw[show(9999:Nat)=9998+1 from rfl,run_equalIn_int w 9998 f.type .i64 kd a b' hk,<-e1];congr 1
    ·cases e1
   ·rename_i fs' hk;simp only[xad] at f3;obtain⟨⟨g1,g2⟩,g3⟩:=f3;have hheld:P.stoodInHeld f.type=false:=by
     split at g1
     ·cases g1
     ·assumption
    have hund:P.underlying f.type=some (.struct (P.fieldsOf f.type)):=by rw[hk];simp[Program.fieldsOf,hk]
    have hs:subF P f=(P.fieldsOf f.type).size:=by unfold subF;rw[hk]
    have hty:TyS P f.type (P.fieldsOf f.type).size true:=by
     split at g3
     ·rename_i k hg;rw[<-xap g3];exact xa6 hg
     ·cases g3
    have hpart:∀cs:Array Value,(part f.type cs f.offset).run P w = .ok (.agg (cs.extract i (i+(P.fieldsOf f.type).size))) w:=fun cs=>by
     simp only[part,Sem.run_bind,hty.run_agg,hty.run_size,Result.andThen_ok,Sem.run_pure,f2',if_true]
    refine⟨_,_,hpart us,hpart vs, ?_⟩;rw[show(9999:Nat)=9998+1 from rfl,run_equalIn_agg w 9998 f.type _ _ hund hheld];refine zhy (d:=9997) (G:=G) (T:=T) (i:=0) g2 e1 (by rw[List.length_take,Array.length_toList,hs];omega) (fun j h=>?_) (fun j h=>?_)
    ·rw[List.length_take] at h;obtain⟨u,h1,h2⟩:=hx j od;refine⟨u, ?_,by rw[List.getElem_take];exact h2⟩;rw[Array.getElem?_extract,if_pos (by have:=(Array.getElem?_eq_some_iff.1 h1).1;omega),Nat.zero_add];exact h1
    ·rw[List.length_take] at h;obtain⟨u,h1,h2⟩:=hy j od;refine⟨u, ?_,by rw[List.getElem_take];exact h2⟩;rw[Array.getElem?_extract,if_pos (by have:=(Array.getElem?_eq_some_iff.1 h1).1;omega),Nat.zero_add];exact h1
   ·cases f3
  obtain⟨u,v,p1,p2,p3⟩:=key;simp only[Op.eqFields];rw[if_pos f1];simp only[Sem.run_bind,p1,p2,Result.andThen_ok,p3];subst e3;cases b1 with
  |true=>simp[ih]
  |false=>simp
theorem zsI {P:Program}{w:World}{G:Gh}{T:TokF}{t:TypeId}{xs ys:List AV}{b:Bool}{u v:Value}{k:Nat} (ht:EqT2 P t k) (hl0:xs.length=k) (he:eqC xs ys=some b) (hu:RelA G T w (.agg xs) u) (hv:RelA G T w (.agg ys) v):
  ∃us vs,u = .agg us/\v = .agg vs/\(Op.equalIn 10000 t (.agg us) (.agg vs)).run P w = .ok b w:=by
 cases hu with
 |agg h1 h2=>
  cases hv with
  |agg h3 h4=>
   refine⟨_,_,rfl,rfl, ?_⟩;rw[show(10000:Nat)=9999+1 from rfl,run_equalIn_agg w 9999 t _ _ ht.und ht.held];refine zhx (G:=G) (T:=T) (i:=0) ht.fld he (ht.len.trans hl0.symm) (fun j h=>?_) (fun j h=>?_)
   ·rename_i us vs;have hj:j<us.size:=by rw[h1];exact h
    exact⟨us[j],by rw[Nat.zero_add,Array.getElem?_eq_getElem hj],h2 j h hj⟩
   ·rename_i us vs;have hj:j<vs.size:=by rw[h3];exact h
    exact⟨vs[j],by rw[Nat.zero_add,Array.getElem?_eq_getElem hj],h4 j h hj⟩
section
variable {c:Ctx}{all:Array Oper}{chk:List Rec->Prop}{os:List Oper}{recs:List Rec}{env:Env}{hp:Hp}{Q:St->Prop}
variable {d ty:Nat}{pos:String}{af:Array Edge}{g:Option (Nat×Bool)}{pg:List (Nat×AV)}
variable {t yt:TypeId}{x y:Operand}
theorem Walk.eqV2 {xs ys:List AV}{b:Bool}{k:Nat} (ht:EqT2 c.P t k) (hg:GH all env g pg) (hd:Nat.blt d c.n=true) (hx:opd env x=some (.agg xs)) (hy:opd env y=some (.agg ys)) (he:eqC xs ys=some b) (hl:xs.length=k)
  (hn:Walk c all chk os (zal (pg++(opF x (.agg xs)++opF y (.agg ys))) [] [] ⟨some (d,.d (.bool b)),[]⟩::recs) ⟨(d,.d (.bool b))::env,hp⟩ Q):
  Walk c all chk (⟨some d,.binOp .eql t x y yt,ty,pos,af,g⟩::os) recs ⟨env,hp⟩ Q:=by
 refine xbM hg hd hx hy (fun a G T w h1 h2=>⟨.bool b, ?_,.d (.bool _)⟩) hn;obtain⟨us,vs,e1,e2,e3⟩:=zsI ht hl he h1 h2;simp only[execOp,e1,e2];simp only[Sem.run_bind,run_eqGuard_agg w .eql t x y us vs ht.grd,Result.andThen_ok,run_eql_struct,e3,Sem.run_pure]
end
structure Tabs where
 ty:Nat->Option (Nat×Bool)
 sl:Nat->Bool
 st:Nat->Bool
 fd:Nat->Nat->Option Nat
structure TabsOK (P:Program) (T:Tabs):Prop where
 ty:∀t k b,T.ty t=some (k,b)->TyS P t k b
 sl:∀t,T.sl t=true->∃e k y,SlT P t e k y
 st:∀t,T.st t=true->P.underlying t=some .string
 fd:∀t f o,T.fd t f=some o->Fd P t f o
structure Sp (b:Bool) (X Y:Prop):Prop where
 t:b=true->X
 f:b=false->Y
structure Ar (n:Int) (X:Prop):Prop where
 b:I64 n
 k:X
def kget:List (Nat×Bool)->Nat->Option Bool
 | [],_=>none
 |(k,v)::r,i=>bif Nat.beq k i then some v else kget r i
def kdel:List (Nat×Bool)->Nat->List (Nat×Bool)
 | [],_=>[]
 |(k,v)::r,i=>bif Nat.beq k i then kdel r i else (k,v)::kdel r i
def memN:List Nat->Nat->Bool
 | [],_=>false
 |k::r,i=>bif Nat.beq k i then true else memN r i
def KN (env:Env):List (Nat×Bool)->Prop
 | []=>True
 |(e,v)::r=>(∃b,getE env e=some (.d (.bool b))/\b=v)/\KN env r
abbrev Cont:=List (Nat×AV)->List (Nat×Res)->AV->Prop
def evB (op:BinOp) (u v:D) (k:D->Prop) (stuck:Prop):Prop:=
 match u,v with
 | .int a m,.int b n=>match a,b with
  | .i64,.i64=>match op with
   | .eql=>k (.bool (decide (m=n)))
   | .neq=>k (.bool (!decide (m=n)))
   | .lss=>k (.bool (decide (m<n)))
   | .leq=>k (.bool (decide (m<=n)))
   | .gtr=>k (.bool (decide (n<m)))
   | .geq=>k (.bool (decide (n<=m)))
   | .add=>Ar (m+n) (k (.int .i64 (m+n)))
   | .sub=>Ar (m-n) (k (.int .i64 (m-n)))
   | .mul=>Ar (m*n) (k (.int .i64 (m*n)))
   |_=>stuck
  | .u8,.u8=>match op with
   | .eql=>k (.bool (decide (m=n)))
   | .neq=>k (.bool (!decide (m=n)))
   | .lss=>k (.bool (decide (m<n)))
   | .leq=>k (.bool (decide (m<=n)))
   | .gtr=>k (.bool (decide (n<m)))
   | .geq=>k (.bool (decide (n<=m)))
   |_=>stuck
  |_,_=>stuck
 | .str l,.str m=>match op with
  | .eql=>k (.bool (decide (l=m)))
  | .neq=>k (.bool (!decide (l=m)))
  |_=>stuck
 |_,_=>stuck
def evV (T:Tabs) (env:Env) (hp:Hp) (kn:List (Nat×Bool)) (k:Cont) (stuck:Prop) (op:Op):Prop:=
 match op with
 | .move x=>match opd env x with
  |some v=>k (opF x v) [] v
  |none=>stuck
 | .assign x=>match opd env x with
  |some v=>k (opF x v) [] v
  |none=>stuck
 | .pick (.tmp t) y z=>match getE env t with
  |some (.d (.bool b))=>match kget kn t with
   |some true=>match opd env y with
    |some v=>k (opF (.tmp t) (.d (.bool b))++opF y v) [] v
    |none=>stuck
   |some false=>match opd env z with
    |some v=>k (opF (.tmp t) (.d (.bool b))++opF z v) [] v
    |none=>stuck
   |none=>stuck
  |_=>stuck
 | .binOp op _ x y _=>match opd env x,opd env y with
  |some (.d u),some (.d v)=>evB op u v (fun r=>k (opF x (.d u)++opF y (.d v)) [] (.d r)) stuck
  |_,_=>stuck
 | .unOp .not _ x=>match opd env x with
  |some (.d (.bool b))=>k (opF x (.d (.bool b))) [] (.d (.bool (!b)))
  |_=>stuck
 | .load t x=>match opd env x with
  |some (.ref id off)=>match getH hp id with
   |some (.box cs)=>match T.ty t with
    |some (_,false)=>match cs[off]? with
     |some v=>k (opF x (.ref id off)) [(id,.box cs)] v
     |none=>stuck
    |some (n,true)=>match cutC cs off n with
     |some r=>k (opF x (.ref id off)) [(id,.box cs)] (.agg r)
     |none=>stuck
    |none=>stuck
   |_=>stuck
  |some (.d (.ptr cs off))=>match T.ty t with
   |some (_,false)=>match cs[off]? with
    |some v=>k (opF x (.d (.ptr cs off))) [] (.d v)
    |none=>stuck
   |some (n,true)=>match cutC cs off n with
    |some r=>match mapD r with
     |some r'=>k (opF x (.d (.ptr cs off))) [] (.agg r')
     |none=>stuck
    |none=>stuck
   |none=>stuck
  |_=>stuck
 | .fieldAddr t x f=>match opd env x with
  |some (.ref id off)=>match T.fd t f with
   |some o=>k (opF x (.ref id off)) [] (.ref id (off+o))
   |none=>stuck
  |some (.d (.ptr cs off))=>match T.fd t f with
   |some o=>k (opF x (.d (.ptr cs off))) [] (.d (.ptr cs (off+o)))
   |none=>stuck
  |_=>stuck
 | .extract x i=>match opd env x with
  |some (.tup vs)=>match vs[i]? with
   |some v=>k (opF x (.tup vs)) [] v
   |none=>stuck
  |_=>stuck
 | .nilCheck x=>match opd env x with
  |some (.ref id off)=>k (opF x (.ref id off)) [] (.ref id off)
  |some (.d (.ptr cs off))=>k (opF x (.d (.ptr cs off))) [] (.d (.ptr cs off))
  |_=>stuck
 | .call ⟨.builtin .len,⟨[x]⟩,⟨[at_]⟩⟩=>match opd env x with
  |some (.d (.str l))=>match T.st at_ with
   |true=>k (opF x (.d (.str l))) [] (.d (.i l.length))
   |false=>stuck
  |some (.d (.sl xs))=>match T.sl at_ with
   |true=>k (opF x (.d (.sl xs))) [] (.d (.i xs.length))
   |false=>stuck
  |some (.gl id xs)=>match T.sl at_ with
   |true=>k (opF x (.gl id xs)) [] (.d (.i xs.length))
   |false=>stuck
  |some (.ms id n)=>match T.sl at_ with
   |true=>k (opF x (.ms id n)) [] (.d (.i n))
   |false=>stuck
  |_=>stuck
 |_=>stuck
section
variable {T:Tabs}{c:Ctx}{all:Array Oper}{chk:List Rec->Prop}{os:List Oper}{recs:List Rec}{env:Env}{hp:Hp}{Q:St->Prop}
variable {d ty:Nat}{pos:String}{af:Array Edge}{g:Option (Nat×Bool)}{pg:List (Nat×AV)}{kn:List (Nat×Bool)}
theorem zeD:∀ {kn:List (Nat×Bool)}{e:Nat}{v:Bool},KN env kn->kget kn e=some v->∃b,getE env e=some (.d (.bool b))/\b=v
 |(k,u)::r,e,v,h,hk=>by
  simp only[kget] at hk;cases hb:Nat.beq k e with
  |true=>simp only[hb,cond_true,xae] at hk;subst hk;obtain rfl:=xap hb;exact h.1
  |false=>simp only[hb,cond_false] at hk;exact zeD h.2 hk
theorem zgp {v:AV}:∀ {kn:List (Nat×Bool)},KN env kn->KN ((d,v)::env) (kdel kn d)
 | [],_=>trivial
 |(k,u)::r,h=>by
  simp only[kdel];cases hb:Nat.beq k d with
  |true=>exact zgp h.2
  |false=>
   have hb':Nat.beq d k=false:=by
    cases hd:Nat.beq d k with
    |false=>rfl
    |true=>obtain rfl:=xap hd;rw[hd] at hb;cases hb
   refine⟨?_,zgp h.2⟩;simp only[getE,hb',cond_false];exact h.1
theorem zvj {u v:D}{op:BinOp}{t yt:TypeId}{x y:Operand}{k:D->Prop}{stuck W:Prop}
  (hs:stuck->W) (hg:GH all env g pg) (hd:Nat.blt d c.n=true) (hx:opd env x=some (.d u)) (hy:opd env y=some (.d v))
  (hk:∀r,k r->Walk c all chk os (zal (pg++(opF x (.d u)++opF y (.d v))) [] [] ⟨some (d,.d r),[]⟩::recs) ⟨(d,.d r)::env,hp⟩ Q)
  (hW:W=Walk c all chk (⟨some d,.binOp op t x y yt,ty,pos,af,g⟩::os) recs ⟨env,hp⟩ Q)
  (h:evB op u v k stuck):W:=by
 unfold evB at h;split at h
 ·split at h
  ·split at h
   ·exact hW ▸ Walk.eqI hg hd hx hy (hk _ h)
   ·exact hW ▸ Walk.neI hg hd hx hy (hk _ h)
   ·exact hW ▸ Walk.ltI hg hd hx hy (hk _ h)
   ·exact hW ▸ Walk.leI hg hd hx hy (hk _ h)
   ·exact hW ▸ Walk.gtI hg hd hx hy (hk _ h)
   ·exact hW ▸ Walk.geI hg hd hx hy (hk _ h)
   ·exact hW ▸ Walk.addI hg hd hx hy h.b (hk _ h.k)
   ·exact hW ▸ Walk.subI hg hd hx hy h.b (hk _ h.k)
   ·exact hW ▸ Walk.mulI hg hd hx hy h.b (hk _ h.k)
   ·exact hs h
  ·split at h
   ·exact hW ▸ Walk.eqI hg hd hx hy (hk _ h)
   ·exact hW ▸ Walk.neI hg hd hx hy (hk _ h)
   ·exact hW ▸ Walk.ltI hg hd hx hy (hk _ h)
   ·exact hW ▸ Walk.leI hg hd hx hy (hk _ h)
   ·exact hW ▸ Walk.gtI hg hd hx hy (hk _ h)
   ·exact hW ▸ Walk.geI hg hd hx hy (hk _ h)
   ·exact hs h
  ·exact hs h
 ·split at h
  ·exact hW ▸ Walk.eqS hg hd hx hy (hk _ h)
  ·exact hW ▸ Walk.neS hg hd hx hy (hk _ h)
  ·exact hs h
 ·exact hs h
theorem zrd (hT:TabsOK c.P T){op:Op}{k:Cont} (hkn:KN env kn) (hg:GH all env g pg) (hd:Nat.blt d c.n=true)
  (hk:∀pre prh v,k pre prh v->Walk c all chk os (zal (pg++pre) prh [] ⟨some (d,v),[]⟩::recs) ⟨(d,v)::env,hp⟩ Q)
  (h:evV T env hp kn k (Walk c all chk (⟨some d,op,ty,pos,af,g⟩::os) recs ⟨env,hp⟩ Q) op):
  Walk c all chk (⟨some d,op,ty,pos,af,g⟩::os) recs ⟨env,hp⟩ Q:=by
 unfold evV at h;split at h
 ·split at h
  ·rename_i hx;exact Walk.move hg hd hx (hk _ _ _ h)
  ·exact h
 ·split at h
  ·rename_i hx;exact Walk.assign hg hd hx (hk _ _ _ h)
  ·exact h
 ·split at h
  ·rename_i b hx;split at h
   ·rename_i hkt;obtain⟨b',h1,h2⟩:=zeD hkn hkt;rw[hx] at h1;cases h1;split at h
    ·rename_i hy;exact Walk.pickT (x:= .tmp _) hg hd hx h2 hy (hk _ _ _ h)
    ·exact h
   ·rename_i hkt;obtain⟨b',h1,h2⟩:=zeD hkn hkt;rw[hx] at h1;cases h1;split at h
    ·rename_i hy;exact Walk.pickF (x:= .tmp _) hg hd hx h2 hy (hk _ _ _ h)
    ·exact h
   ·exact h
  ·exact h
 ·split at h
  ·rename_i hx hy;exact zvj id hg hd hx hy (fun r hr=>hk _ _ _ hr) I h
  ·exact h
 ·split at h
  ·rename_i hx;exact Walk.not hg hd hx (hk _ _ _ h)
  ·exact h
 ·split at h
  ·rename_i hx;split at h
   ·rename_i hh;split at h
    ·rename_i ht;split at h
     ·rename_i hv;exact xbG (hT.ty _ _ _ ht) hg hd hx hh hv (hk _ _ _ h)
     ·exact h
    ·rename_i ht;split at h
     ·rename_i hv;exact xbH (hT.ty _ _ _ ht) hg hd hx hh hv (hk _ _ _ h)
     ·exact h
    ·exact h
   ·exact h
  ·rename_i hx;split at h
   ·rename_i ht;split at h
    ·rename_i hv;exact Walk.loadP (hT.ty _ _ _ ht) hg hd hx hv (hk _ _ _ h)
    ·exact h
   ·rename_i ht;split at h
    ·rename_i hv;split at h
     ·rename_i hm;exact Walk.loadPA (hT.ty _ _ _ ht) hg hd hx hv hm (hk _ _ _ h)
     ·exact h
    ·exact h
   ·exact h
  ·exact h
 ·split at h
  ·rename_i hx;split at h
   ·rename_i hf;exact xbA (hT.fd _ _ _ hf) hg hd hx (hk _ _ _ h)
   ·exact h
  ·rename_i hx;split at h
   ·rename_i hf;exact Walk.fieldP (hT.fd _ _ _ hf) hg hd hx (hk _ _ _ h)
   ·exact h
  ·exact h
 ·split at h
  ·rename_i hx;split at h
   ·rename_i hv;exact Walk.extract hg hd hx hv (hk _ _ _ h)
   ·exact h
  ·exact h
 ·split at h
  ·rename_i hx;exact Walk.nilCheck (.inl ⟨_,_,I⟩) hg hd hx (hk _ _ _ h)
  ·rename_i hx;exact Walk.nilCheck (.inr ⟨_,_,I⟩) hg hd hx (hk _ _ _ h)
  ·exact h
 ·split at h
  ·rename_i hx;split at h
   ·rename_i ht;exact Walk.lenS (hT.st _ ht) hg hd hx (hk _ _ _ h)
   ·exact h
  ·rename_i hx;split at h
   ·rename_i ht;obtain⟨_,_,_,ht⟩:=hT.sl _ ht;exact Walk.len ht hg hd hx (hk _ _ _ h)
   ·exact h
  ·rename_i hx;split at h
   ·rename_i ht;obtain⟨_,_,_,ht⟩:=hT.sl _ ht;exact Walk.lenG ht hg hd hx (hk _ _ _ h)
   ·exact h
  ·rename_i hx;split at h
   ·rename_i ht;obtain⟨_,_,_,ht⟩:=hT.sl _ ht;exact Walk.lenM ht hg hd hx (hk _ _ _ h)
   ·exact h
  ·exact h
 ·exact h
end
def evGo (T:Tabs) (stop:List Nat) (c:Ctx) (all:Array Oper) (chk:List Rec->Prop) (Q:St->Prop) (o:Oper) (os:List Oper) (recs:List Rec) (env:Env) (hp:Hp)
  (ih:List Rec->Env->Hp->List (Nat×Bool)->Prop) (d e:Nat) (b:Bool) (kn:List (Nat×Bool)) (op:Op):Prop:=
 match memN stop d with
 |true=>Walk c all chk (o::os) recs ⟨env,hp⟩ Q
 |false=>evV T env hp kn (fun pre prh v=>ih (zal ([(e,.d (.bool b))]++pre) prh [] ⟨some (d,v),[]⟩::recs) ((d,v)::env) hp (kdel kn d)) (Walk c all chk (o::os) recs ⟨env,hp⟩ Q) op
def znY (T:Tabs) (stop:List Nat) (c:Ctx) (all:Array Oper) (chk:List Rec->Prop) (Q:St->Prop) (o:Oper) (os:List Oper) (ih:List Rec->Env->Hp->List (Nat×Bool)->Prop)
  (recs:List Rec) (env:Env) (hp:Hp) (kn:List (Nat×Bool)):Prop:=
 match o.dst with
  |none=>match o.guard with
   |none=>Walk c all chk (o::os) recs ⟨env,hp⟩ Q
   |some (j,want)=>match (all[j]?).bind (·.dst) with
    |none=>Walk c all chk (o::os) recs ⟨env,hp⟩ Q
    |some e=>match getE env e with
     |some (.tup [])=>ih (zal [(e,.tup [])] [] [] ⟨none,[]⟩::recs) env hp kn
     |some (.d (.bool b))=>match kget kn e,want with
      |some true,true=>Walk c all chk (o::os) recs ⟨env,hp⟩ Q
      |some false,false=>Walk c all chk (o::os) recs ⟨env,hp⟩ Q
      |some _,_=>ih (zal [(e,.d (.bool b))] [] [] ⟨none,[]⟩::recs) env hp kn
      |none,true=>Sp b (Walk c all chk (o::os) recs ⟨env,hp⟩ Q) (ih (zal [(e,.d (.bool b))] [] [] ⟨none,[]⟩::recs) env hp ((e,false)::kn))
      |none,false=>Sp b (ih (zal [(e,.d (.bool b))] [] [] ⟨none,[]⟩::recs) env hp ((e,true)::kn)) (Walk c all chk (o::os) recs ⟨env,hp⟩ Q)
     |_=>Walk c all chk (o::os) recs ⟨env,hp⟩ Q
  |some d=>match Nat.blt d c.n with
   |false=>Walk c all chk (o::os) recs ⟨env,hp⟩ Q
   |true=>match o.guard with
    |none=>match memN stop d with
     |true=>Walk c all chk (o::os) recs ⟨env,hp⟩ Q
     |false=>evV T env hp kn (fun pre prh v=>ih (zal ([]++pre) prh [] ⟨some (d,v),[]⟩::recs) ((d,v)::env) hp (kdel kn d))
       (Walk c all chk (o::os) recs ⟨env,hp⟩ Q) o.op
    |some (j,want)=>match (all[j]?).bind (·.dst) with
     |none=>Walk c all chk (o::os) recs ⟨env,hp⟩ Q
     |some e=>match getE env e with
      |some (.tup [])=>ih (zal [(e,.tup [])] [] [] ⟨some (d,.tup []),[]⟩::recs) ((d,.tup [])::env) hp (kdel kn d)
      |some (.d (.bool b))=>match kget kn e,want with
       |some true,true=>evGo T stop c all chk Q o os recs env hp ih d e b kn o.op
       |some false,false=>evGo T stop c all chk Q o os recs env hp ih d e b kn o.op
       |some _,_=>ih (zal [(e,.d (.bool b))] [] [] ⟨some (d,.tup []),[]⟩::recs) ((d,.tup [])::env) hp (kdel kn d)
       |none,true=>Sp b (evGo T stop c all chk Q o os recs env hp ih d e b ((e,true)::kn) o.op) (ih (zal [(e,.d (.bool b))] [] [] ⟨some (d,.tup []),[]⟩::recs) ((d,.tup [])::env) hp (kdel ((e,false)::kn) d))
       |none,false=>Sp b (ih (zal [(e,.d (.bool b))] [] [] ⟨some (d,.tup []),[]⟩::recs) ((d,.tup [])::env) hp (kdel ((e,true)::kn) d)) (evGo T stop c all chk Q o os recs env hp ih d e b ((e,false)::kn) o.op)
      |_=>Walk c all chk (o::os) recs ⟨env,hp⟩ Q
noncomputable def evW (T:Tabs) (stop:List Nat) (c:Ctx) (all:Array Oper) (chk:List Rec->Prop) (Q:St->Prop) (fin:List Rec->Env->Hp->Prop) (os:List Oper):List Rec->Env->Hp->List (Nat×Bool)->Prop:=
 List.rec (motive:=fun _=>List Rec->Env->Hp->List (Nat×Bool)->Prop) (fun recs env hp _=>fin recs env hp) (fun o os ih=>znY T stop c all chk Q o os ih) os
section
variable {T:Tabs}{c:Ctx}{all:Array Oper}{chk:List Rec->Prop}{Q:St->Prop}{stop:List Nat}{fin:List Rec->Env->Hp->Prop}
theorem zgq {env:Env}{e:Nat}{b v:Bool}{kn:List (Nat×Bool)} (he:getE env e=some (.d (.bool b))) (hb:b=v) (hk:KN env kn):KN env ((e,v)::kn):=⟨⟨b,he,hb⟩,hk⟩
theorem ziS (hT:TabsOK c.P T) (hfin:∀recs env hp,fin recs env hp->chk recs/\Q ⟨env,hp⟩):∀ {os:List Oper}{recs:List Rec}{env:Env}{hp:Hp}{kn:List (Nat×Bool)},
  KN env kn->evW T stop c all chk Q fin os recs env hp kn->Walk c all chk os recs ⟨env,hp⟩ Q
 | [],recs,env,hp,kn,hkn,h=>by
  unfold evW at h;exact hfin _ _ _ h
 |⟨dst,op,ty,pos,af,g⟩::os,recs,env,hp,kn,hkn,h=>by
  have ih:=fun {recs:List Rec}{env:Env}{hp:Hp}{kn:List (Nat×Bool)}=>@ziS hT hfin os recs env hp kn;replace h:znY T stop c all chk Q ⟨dst,op,ty,pos,af,g⟩ os (evW T stop c all chk Q fin os) recs env hp kn:=h
  generalize evW T stop c all chk Q fin os=ihf at h ih;unfold znY at h;cases dst with
  |none=>
   simp only at h;cases g with
   |none=>exact h
   |some g=>
    obtain⟨j,want⟩:=g;simp only at h;split at h
    ·exact h
    ·rename_i e he;split at h
     ·rename_i hu;exact Walk.passU0 I he hu I (ih hkn h)
     ·rename_i b hb;have pass:∀ {kn':List (Nat×Bool)},b = !want->KN env kn'->ihf (zal [(e,.d (.bool b))] [] [] ⟨none,[]⟩::recs) env hp kn'->
        Walk c all chk (⟨none,op,ty,pos,af,some (j,want)⟩::os) recs ⟨env,hp⟩ Q:=fun h2 hk h=>Walk.pass0 rfl he hb h2 rfl (ih hk h)
      split at h
      ·exact h
      ·exact h
      ·rename_i w1 x1 w2 v hv h1 h2;obtain⟨b',h3,h4⟩:=zeD hkn hv;rw[hb] at h3;cases h3;refine pass ?_ hkn h;cases w1<;>cases v<;>simp_all
      ·exact Walk.split hb (fun hb'=>h.t hb') (fun hb'=>pass hb' (zgq hb hb' hkn) (h.f hb'))
      ·exact Walk.split hb (fun hb'=>pass hb' (zgq hb hb' hkn) (h.t hb')) (fun hb'=>h.f hb')
     ·exact h
  |some d=>
   simp only at h;split at h
   ·exact h
   ·rename_i hd;cases g with
    |none=>
     simp only at h;split at h
     ·exact h
     ·exact zrd hT hkn .none hd (fun pre prh v hk=>ih (zgp hkn) hk) h
    |some g=>
     obtain⟨j,want⟩:=g;simp only at h;split at h
     ·exact h
     ·rename_i e he;split at h
      ·rename_i hu;exact Walk.passU I he hu I hd (ih (zgp hkn) h)
      ·rename_i b hb;have go:∀ {kn':List (Nat×Bool)},b=want->KN env kn'->evGo T stop c all chk Q ⟨some d,op,ty,pos,af,some (j,want)⟩ os recs env hp ihf d e b kn' op->
         Walk c all chk (⟨some d,op,ty,pos,af,some (j,want)⟩::os) recs ⟨env,hp⟩ Q:=by
        intro kn' h2 hk h;unfold evGo at h;split at h
        ·exact h
        ·exact zrd hT hk (.some he hb h2) hd (fun pre prh v hk'=>ih (zgp hk) hk') h
       have pass:∀ {kn':List (Nat×Bool)},b = !want->KN env kn'->ihf (zal [(e,.d (.bool b))] [] [] ⟨some (d,.tup []),[]⟩::recs) ((d,.tup [])::env) hp (kdel kn' d)->
         Walk c all chk (⟨some d,op,ty,pos,af,some (j,want)⟩::os) recs ⟨env,hp⟩ Q:=fun h2 hk h=>Walk.pass rfl he hb h2 rfl hd (ih (zgp hk) h)
       split at h
       ·rename_i hv;obtain⟨b',h3,h4⟩:=zeD hkn hv;rw[hb] at h3;cases h3;exact go h4 hkn h
       ·rename_i hv;obtain⟨b',h3,h4⟩:=zeD hkn hv;rw[hb] at h3;cases h3;exact go h4 hkn h
       ·rename_i w1 x1 w2 v hv h1 h2;obtain⟨b',h3,h4⟩:=zeD hkn hv;rw[hb] at h3;cases h3;refine pass ?_ hkn h;cases w1<;>cases v<;>simp_all
       ·exact Walk.split hb (fun hb'=>go hb' (zgq hb hb' hkn) (h.t hb')) (fun hb'=>pass hb' (zgq hb hb' hkn) (h.f hb'))
       ·exact Walk.split hb (fun hb'=>pass hb' (zgq hb hb' hkn) (h.t hb')) (fun hb'=>go hb' (zgq hb hb' hkn) (h.f hb'))
      ·exact h
end
noncomputable def evC (T:Tabs) (stop rs:List Nat) (c:Ctx) (x:Code):St->Kt->Prop:=
 Code.rec (motive:=fun _=>St->Kt->Prop)
  (fun s K=>K.n s)
  (fun id all draw s K=>match memN rs id with
   |true=>CWp c (.region id all draw) s K
   |false=>match draw with
    |false=>evW T stop c all (fun _=>True) K.n (fun _ env hp=>K.n ⟨env,hp⟩) all.toList [] s.env s.hp []
    |true=>evW T stop c all (fun recs=>chkB all.toList s recs.reverse=true) K.n (fun recs env hp=>chkB all.toList s recs.reverse=true/\K.n ⟨env,hp⟩) all.toList [] s.env s.hp [])
  (fun _ _ ihx ihy s K=>ihx s (K.with fun s'=>ihy s' K))
  (fun x t e iht ihe s K=>match x with
   | .tmp i=>match memN rs (1000000+i) with
    |true=>CWp c (.cond (.tmp i) t e) s K
    |false=>match getE s.env i with
     |some (.d (.bool b))=>Sp b (iht s K) (ihe s K)
     |_=>CWp c (.cond (.tmp i) t e) s K
   |x=>CWp c (.cond x t e) s K)
  (fun id _ ih s K=>ih s (K.blk id))
  (fun x _ s K=>CWp c (.loop x) s K)
  (fun f p a b _ _ s K=>CWp c (.rangeFunc f p a b) s K)
  (fun id s K=>K.ex id s)
  (fun x _ s K=>CWp c (.scope x) s K)
  (fun _ s K=>K.n s)
  (fun l s K=>CWp c (.goto l) s K)
  (fun s K=>match memN rs 999999 with|true=>CWp c .ret s K|false=>K.rt s)
  (fun w s K=>CWp c (.refuse w) s K) x
theorem CWp.mono {c:Ctx}{x:Code}{s:St}{K K':Kt} (h:CWp c x s K) (h1:∀s,K.n s->K'.n s) (h2:∀i s,K.ex i s->K'.ex i s) (h3:∀s,K.rt s->K'.rt s):CWp c x s K':=by
 intro a w hr;refine wp_mono (h a w hr) ?_;intro e a' w' hq;cases e with
 |normal=>obtain⟨s',hr',hn⟩:=hq;exact⟨s',hr',h1 _ hn⟩
 |exit id=>obtain⟨s',hr',hn⟩:=hq;exact⟨s',hr',h2 _ _ hn⟩
 |ret=>obtain⟨s',hr',hn⟩:=hq;exact⟨s',hr',h3 _ hn⟩
 |goto l=>exact hq.elim
 |panic ch=>exact hq.elim
 |outgrown=>exact hq.elim
theorem zgz {T:Tabs}{stop rs:List Nat}{c:Ctx} (hT:TabsOK c.P T) (hm:c.P.follows .mixedOrders=true):∀ {x:Code}{s:St}{K:Kt},evC T stop rs c x s K->CWp c x s K
 | .skip,s,K,h=>CWp.skip h
 | .exit id,s,K,h=>CWp.exit h
 | .ret,s,K,h=>by
  unfold evC at h;simp only at h;split at h
  ·exact h
  ·exact CWp.ret h
 | .label _,s,K,h=>CWp.label h
 | .seq x y,s,K,h=>CWp.seq ((zgz (x:=x) (s:=s) (K:=K.with fun s'=>evC T stop rs c y s' K) hT hm h).mono (fun _ h'=>zgz (x:=y) hT hm h') (fun _ _ h=>h) (fun _ h=>h))
 | .block id x,s,K,h=>CWp.block (zgz (x:=x) (K:=K.blk id) hT hm h)
 | .cond x t e,s,K,h=>by
  have ht:∀ {s:St}{K:Kt},evC T stop rs c t s K->CWp c t s K:=zgz hT hm;have he:∀ {s:St}{K:Kt},evC T stop rs c e s K->CWp c e s K:=zgz hT hm;cases x with
  |tmp i=>
   unfold evC at h ht he;simp only at h;split at h
   ·exact h
   ·split at h
    ·rename_i hc;exact CWp.cond hc (fun hb=>ht (h.t hb)) (fun hb=>he (h.f hb))
    ·exact h
  |_=>exact h
 | .region id all draw,s,K,h=>by
  unfold evC at h;simp only at h;split at h
  ·exact h
  ·cases draw with
   |false=>exact CWp.region I (ziS (kn:=[]) hT (fun _ _ _ h=>⟨O,h⟩) O h)
   |true=>exact CWp.drawn hm I (ziS (kn:=[]) hT (fun _ _ _ h=>h) O h)
 | .loop _,s,K,h=>h
 | .rangeFunc ..,s,K,h=>h
 | .scope _,s,K,h=>h
 | .goto _,s,K,h=>h
 | .refuse _,s,K,h=>h
def lk {α:Type}:List (Nat×α)->Nat->Option α
 | [],_=>none
 |(k,v)::r,i=>bif Nat.beq k i then some v else lk r i
def lk2:List (Nat×Nat×Nat)->Nat->Nat->Option Nat
 | [],_,_=>none
 |(k,j,v)::r,i,f=>bif Nat.beq k i&&Nat.beq j f then some v else lk2 r i f
theorem zrs {α:Type}{v:α}:∀ {l:List (Nat×α)}{i:Nat},lk l i=some v->(i,v)∈l
 |(k,u)::r,i,h=>by
  simp only[lk] at h;cases hb:Nat.beq k i with
  |true=>simp only[hb,cond_true,xae] at h;subst h;obtain rfl:=xap hb;simp
  |false=>simp only[hb,cond_false] at h;exact List.mem_cons_of_mem _ (zrs h)
theorem zpo {v:Nat}:∀ {l:List (Nat×Nat×Nat)}{i f:Nat},lk2 l i f=some v->(i,f,v)∈l
 |(k,j,u)::r,i,f,h=>by
  simp only[lk2] at h;cases hb:Nat.beq k i&&Nat.beq j f with
  |true=>
   simp only[hb,cond_true,xae] at h;obtain⟨h1,h2⟩:=xad _ _ ▸ hb;obtain rfl:=xap h1;obtain rfl:=xap h2;subst h;simp
  |false=>simp only[hb,cond_false] at h;exact List.mem_cons_of_mem _ (zpo h)
theorem zkg:∀ {l:List Nat}{i:Nat},memN l i=true->i∈l
 |k::r,i,h=>by
  simp only[memN] at h;cases hb:Nat.beq k i with
  |true=>obtain rfl:=xap hb;simp
  |false=>simp only[hb,cond_false] at h;exact List.mem_cons_of_mem _ (zkg h)
def strB:Option TypeDesc->Bool
 |some .string=>true
 |_=>false
theorem TabsOK.of {P:Program}{ty:List (Nat×Nat×Bool)}{sl st:List Nat}{fd:List (Nat×Nat×Nat)}
  (h1:ty.map (fun p=>znq P p.1)=ty.map (fun p=>some p.2)) (h2:sl.all (fun t=>(zqp P t).isSome)=true)
  (h3:st.all (fun t=>strB (P.underlying t))=true) (h4:fd.map (fun p=>zp6 P p.1 p.2.1)=fd.map (fun p=>some (p.2.2,false))):TabsOK P ⟨lk ty,memN sl,memN st,lk2 fd⟩:=by
 refine⟨fun t k b h=>xa6 ?_,fun t h=>?_,fun t h=>?_,fun t f o h=>Fd.of ?_⟩
 ·exact List.map_inj_left.1 h1 _ (zrs h)
 ·have:=List.all_eq_true.1 h2 t (zkg h);obtain⟨⟨e,k,y⟩,h⟩:=Option.isSome_iff_exists.1 this;exact⟨e,k,y,xa3 h⟩
 ·have:=List.all_eq_true.1 h3 t (zkg h);revert this
  cases P.underlying t with
  |none=>intro h;cases h
  |some d=>cases d<;>intro h<;>first|rfl|cases h
 ·exact List.map_inj_left.1 h4 _ (zpo h)
set_option maxRecDepth 100000
theorem ty3:TyS Tryz.prog 3 1 false:=xa6 oi
theorem ty4:TyS Tryz.prog 4 1 false:=xa6 oi
theorem ty5:TyS Tryz.prog 5 1 false:=xa6 oi
theorem ty9:TyS Tryz.prog 9 1 false:=xa6 oi
theorem ty38:TyS Tryz.prog 38 2 true:=xa6 oi
theorem ty58:TyS Tryz.prog 58 1 false:=xa6 oi
theorem ty60:TyS Tryz.prog 60 6 true:=xa6 oi
theorem zby:TyS Tryz.prog 101 3 true:=xa6 oi
theorem zhc:TyS Tryz.prog 103 9 true:=xa6 oi
theorem zhd:TyS Tryz.prog 132 1 false:=xa6 oi
theorem zqt:TyS Tryz.prog 134 2 true:=xa6 oi
theorem zv9:TyS Tryz.prog 143 1 false:=xa6 oi
theorem zdX:TyS Tryz.prog 145 3 true:=xa6 oi
theorem zlJ:TyS Tryz.prog 175 1 false:=xa6 oi
theorem zcK:TyS Tryz.prog 177 3 true:=xa6 oi
theorem zwa:TyS Tryz.prog 183 1 false:=xa6 oi
theorem ztq:TyS Tryz.prog 191 3 true:=xa6 oi
theorem sl22:SlT Tryz.prog 22 5 1 1:=xa3 oi
theorem sl23:SlT Tryz.prog 23 134 2 40:=xa3 oi
theorem sl36:SlT Tryz.prog 36 191 3 24:=xa3 oi
theorem sl58:SlT Tryz.prog 58 60 6 64:=xa3 oi
theorem sl74:SlT Tryz.prog 74 103 9 88:=xa3 oi
theorem sl84:SlT Tryz.prog 84 9 1 16:=xa3 oi
theorem zbx:SlT Tryz.prog 132 177 3 48:=xa3 oi
theorem ztj:SlT Tryz.prog 143 145 3 40:=xa3 oi
theorem zaL:SlT Tryz.prog 175 38 2 16:=xa3 oi
theorem zaZ:SlT Tryz.prog 212 3 1 8:=xa3 oi
theorem tz3:TyZ Tryz.prog 3 1 [.d (.int .i64 0)]:=xa7 oi
theorem tz5:TyZ Tryz.prog 5 1 [.d (.int .u8 0)]:=xa7 oi
theorem tz9:TyZ Tryz.prog 9 1 [.d (.str [])]:=xa7 oi
theorem tz38:TyZ Tryz.prog 38 2 [.d (.int .i64 0),.d (.int .i64 0)]:=xa7 oi
theorem tz60:TyZ Tryz.prog 60 6 [.d (.int .i64 0),.d (.int .i64 0),.d (.int .i64 0),.d (.int .i64 0),.d (.int .i64 0),.nils]:=xa7 oi
theorem zlK:TyZ Tryz.prog 101 3 [.d (.int .i64 0),.d (.int .i64 0),.d (.int .i64 0)]:=xa7 oi
theorem zep:TyZ Tryz.prog 103 9 [.d (.int .i64 0),.d (.int .i64 0),.d (.int .i64 0),.d (.int .i64 0),.d (.int .i64 0),.nils,.d (.int .i64 0),.d (.int .i64 0),.d (.int .i64 0)]:=xa7 oi
theorem zjG:TyZ Tryz.prog 134 2 [.d (.str []),.nils]:=xa7 oi
theorem zhe:TyZ Tryz.prog 145 3 [.d (.int .i64 0),.d (.int .i64 0),.nils]:=xa7 oi
theorem zfh:TyZ Tryz.prog 177 3 [.d (.str []),.nils,.d (.int .i64 0)]:=xa7 oi
theorem ztr:TyZ Tryz.prog 189 6 [.d (.bool false),.d (.bool false),.d (.bool false),.d (.bool false),.d (.bool false),.d (.bool false)]:=xa7 oi
theorem znr:TyZ Tryz.prog 191 3 [.d (.int .i64 0),.d (.int .i64 0),.d (.int .i64 0)]:=xa7 oi
theorem zz3:ZeroT Tryz.prog 3 1:=xbY oi
theorem zz9:ZeroT Tryz.prog 9 1:=xbY oi
theorem zz38:ZeroT Tryz.prog 38 2:=xbY oi
theorem zz60:ZeroT Tryz.prog 60 6:=xbY oi
theorem zgm:ZeroT Tryz.prog 103 9:=xbY oi
theorem zqB:ZeroT Tryz.prog 134 2:=xbY oi
theorem zwb:ZeroT Tryz.prog 145 3:=xbY oi
theorem ztt:ZeroT Tryz.prog 177 3:=xbY oi
theorem znt:ZeroT Tryz.prog 191 3:=xbY oi
theorem st38:StT Tryz.prog 38 [(0,1),(1,1)] [.d (.int .i64 0),.d (.int .i64 0)]:=xa4 oi
theorem st60:StT Tryz.prog 60 [(0,1),(1,1),(2,1),(3,1),(4,1),(5,1)] [.d (.int .i64 0),.d (.int .i64 0),.d (.int .i64 0),.d (.int .i64 0),.d (.int .i64 0),.nils]:=xa4 oi
theorem zff:StT Tryz.prog 101 [(0,1),(1,1),(2,1)] [.d (.int .i64 0),.d (.int .i64 0),.d (.int .i64 0)]:=xa4 oi
theorem znp:StT Tryz.prog 103 [(0,6),(6,3)] [.d (.int .i64 0),.d (.int .i64 0),.d (.int .i64 0),.d (.int .i64 0),.d (.int .i64 0),.nils,.d (.int .i64 0),.d (.int .i64 0),.d (.int .i64 0)]:=xa4 oi
theorem ztk:StT Tryz.prog 134 [(0,1),(1,1)] [.d (.str []),.nils]:=xa4 oi
theorem ztl:StT Tryz.prog 145 [(0,1),(1,1),(2,1)] [.d (.int .i64 0),.d (.int .i64 0),.nils]:=xa4 oi
theorem ztm:StT Tryz.prog 177 [(0,1),(1,1),(2,1)] [.d (.str []),.nils,.d (.int .i64 0)]:=xa4 oi
theorem zv7:StT Tryz.prog 185 [(0,1),(1,1),(2,1)] [.nils,.d (.str []),.d (.bool false)]:=xa4 oi
theorem zqr:StT Tryz.prog 191 [(0,1),(1,2)] [.d (.int .i64 0),.d (.int .i64 0),.d (.int .i64 0)]:=xa4 oi
theorem ztn:StT Tryz.prog 201 [(0,1),(1,1)] [.nils,.d (.int .i64 0)]:=xa4 oi
theorem zrf:Fd Tryz.prog 60 5 5:=Fd.of oi
theorem zng:ArT Tryz.prog 189 6 4 1:=ArT.of oi
theorem un3:Tryz.prog.underlying 3=some (.int .i64):=by kernel_rfl
theorem un4:Tryz.prog.underlying 4=some (.bool):=by kernel_rfl
theorem un5:Tryz.prog.underlying 5=some (.int .u8):=by kernel_rfl
theorem un9:Tryz.prog.underlying 9=some (.string):=by kernel_rfl
theorem znm:MapT Tryz.prog 173:=MapT.of oi
theorem eq38:EqT Tryz.prog 38 2:=⟨by kernel_rfl,by kernel_rfl,by kernel_rfl,by kernel_rfl,by kernel_rfl⟩
theorem zs5:EqT Tryz.prog 101 3:=⟨by kernel_rfl,by kernel_rfl,by kernel_rfl,by kernel_rfl,by kernel_rfl⟩
theorem zvW:EqT2 Tryz.prog 191 3:=⟨by kernel_rfl,by kernel_rfl,by kernel_rfl,by kernel_rfl,by kernel_rfl⟩
theorem zsT:Callee Tryz.prog 40:=⟨fun args w=>zac (fn:=Tryz.f40) rfl rfl oh args w⟩
theorem zsU:Callee Tryz.prog 45:=⟨fun args w=>zac (fn:=Tryz.f45) rfl rfl oh args w⟩
theorem zkN:Callee Tryz.prog 46:=⟨fun args w=>zac (fn:=Tryz.f46) rfl rfl oh args w⟩
theorem zkO:Callee Tryz.prog 47:=⟨fun args w=>zac (fn:=Tryz.f47) rfl rfl oh args w⟩
theorem zkP:Callee Tryz.prog 48:=⟨fun args w=>zac (fn:=Tryz.f48) rfl rfl oh args w⟩
theorem zsV:Callee Tryz.prog 49:=⟨fun args w=>zac (fn:=Tryz.f49) rfl rfl oh args w⟩
theorem zhS:Callee Tryz.prog 50:=⟨fun args w=>zac (fn:=Tryz.f50) rfl rfl oh args w⟩
theorem znh:Callee Tryz.prog 51:=⟨fun args w=>zac (fn:=Tryz.f51) rfl rfl oh args w⟩
theorem zpX:Callee Tryz.prog 52:=⟨fun args w=>zac (fn:=Tryz.f52) rfl rfl oh args w⟩
theorem zpY:Callee Tryz.prog 53:=⟨fun args w=>zac (fn:=Tryz.f53) rfl rfl oh args w⟩
theorem zvM:Callee Tryz.prog 56:=⟨fun args w=>zac (fn:=Tryz.f56) rfl rfl oh args w⟩
theorem zvN:Callee Tryz.prog 57:=⟨fun args w=>zac (fn:=Tryz.f57) rfl rfl oh args w⟩
theorem zvO:Callee Tryz.prog 58:=⟨fun args w=>zac (fn:=Tryz.f58) rfl rfl oh args w⟩
theorem zsW:Callee Tryz.prog 68:=⟨fun args w=>zac (fn:=Tryz.f68) rfl rfl oh args w⟩
theorem zsX:Callee Tryz.prog 71:=⟨fun args w=>zac (fn:=Tryz.f71) rfl rfl oh args w⟩
theorem zvP:Callee Tryz.prog 73:=⟨fun args w=>zac (fn:=Tryz.f73) rfl rfl oh args w⟩
theorem zfE:Callee Tryz.prog 74:=⟨fun args w=>zac (fn:=Tryz.f74) rfl rfl oh args w⟩
theorem zni:Callee Tryz.prog 79:=⟨fun args w=>zac (fn:=Tryz.f79) rfl rfl oh args w⟩
theorem zpZ:Callee Tryz.prog 98:=⟨fun args w=>zac (fn:=Tryz.f98) rfl rfl oh args w⟩
theorem zvQ:Callee Tryz.prog 99:=⟨fun args w=>zac (fn:=Tryz.f99) rfl rfl oh args w⟩
theorem zht:Callee Tryz.prog 100:=⟨fun args w=>zac (fn:=Tryz.f100) rfl rfl oh args w⟩
theorem zue:Callee Tryz.prog 101:=⟨fun args w=>zac (fn:=Tryz.f101) rfl rfl oh args w⟩
theorem zny:Callee Tryz.prog 102:=⟨fun args w=>zac (fn:=Tryz.f102) rfl rfl oh args w⟩
theorem znz:Callee Tryz.prog 103:=⟨fun args w=>zac (fn:=Tryz.f103) rfl rfl oh args w⟩
theorem zuf:Callee Tryz.prog 104:=⟨fun args w=>zac (fn:=Tryz.f104) rfl rfl oh args w⟩
theorem zqF:Callee Tryz.prog 106:=⟨fun args w=>zac (fn:=Tryz.f106) rfl rfl oh args w⟩
theorem zug:Callee Tryz.prog 109:=⟨fun args w=>zac (fn:=Tryz.f109) rfl rfl oh args w⟩
theorem zuh:Callee Tryz.prog 110:=⟨fun args w=>zac (fn:=Tryz.f110) rfl rfl oh args w⟩
theorem zui:Callee Tryz.prog 111:=⟨fun args w=>zac (fn:=Tryz.f111) rfl rfl oh args w⟩
theorem zuj:Callee Tryz.prog 112:=⟨fun args w=>zac (fn:=Tryz.f112) rfl rfl oh args w⟩
theorem zuk:Callee Tryz.prog 113:=⟨fun args w=>zac (fn:=Tryz.f113) rfl rfl oh args w⟩
theorem zul:Callee Tryz.prog 114:=⟨fun args w=>zac (fn:=Tryz.f114) rfl rfl oh args w⟩
theorem ziJ:Callee Tryz.prog 115:=⟨fun args w=>zac (fn:=Tryz.f115) rfl rfl oh args w⟩
theorem zum:Callee Tryz.prog 116:=⟨fun args w=>zac (fn:=Tryz.f116) rfl rfl oh args w⟩
theorem zun:Callee Tryz.prog 117:=⟨fun args w=>zac (fn:=Tryz.f117) rfl rfl oh args w⟩
theorem zuo:Callee Tryz.prog 118:=⟨fun args w=>zac (fn:=Tryz.f118) rfl rfl oh args w⟩
theorem zqG:Callee Tryz.prog 119:=⟨fun args w=>zac (fn:=Tryz.f119) rfl rfl oh args w⟩
theorem zup:Callee Tryz.prog 120:=⟨fun args w=>zac (fn:=Tryz.f120) rfl rfl oh args w⟩
theorem zuq:Callee Tryz.prog 121:=⟨fun args w=>zac (fn:=Tryz.f121) rfl rfl oh args w⟩
theorem zqH:Callee Tryz.prog 124:=⟨fun args w=>zac (fn:=Tryz.f124) rfl rfl oh args w⟩
theorem zes:Callee Tryz.prog 125:=⟨fun args w=>zac (fn:=Tryz.f125) rfl rfl oh args w⟩
theorem zur:Callee Tryz.prog 126:=⟨fun args w=>zac (fn:=Tryz.f126) rfl rfl oh args w⟩
theorem zus:Callee Tryz.prog 127:=⟨fun args w=>zac (fn:=Tryz.f127) rfl rfl oh args w⟩
theorem zut:Callee Tryz.prog 128:=⟨fun args w=>zac (fn:=Tryz.f128) rfl rfl oh args w⟩
theorem zqI:Callee Tryz.prog 131:=⟨fun args w=>zac (fn:=Tryz.f131) rfl rfl oh args w⟩
theorem zuu:Callee Tryz.prog 135:=⟨fun args w=>zac (fn:=Tryz.f135) rfl rfl oh args w⟩
theorem zkC:Callee Tryz.prog 136:=⟨fun args w=>zac (fn:=Tryz.f136) rfl rfl oh args w⟩
theorem zuv:Callee Tryz.prog 139:=⟨fun args w=>zac (fn:=Tryz.f139) rfl rfl oh args w⟩
theorem zuw:Callee Tryz.prog 140:=⟨fun args w=>zac (fn:=Tryz.f140) rfl rfl oh args w⟩
theorem zux:Callee Tryz.prog 141:=⟨fun args w=>zac (fn:=Tryz.f141) rfl rfl oh args w⟩
theorem zuy:Callee Tryz.prog 142:=⟨fun args w=>zac (fn:=Tryz.f142) rfl rfl oh args w⟩
theorem zgu:Callee Tryz.prog 143:=⟨fun args w=>zac (fn:=Tryz.f143) rfl rfl oh args w⟩
theorem zbg:Callee Tryz.prog 144:=⟨fun args w=>zac (fn:=Tryz.f144) rfl rfl oh args w⟩
theorem zuz:Callee Tryz.prog 146:=⟨fun args w=>zac (fn:=Tryz.f146) rfl rfl oh args w⟩
theorem zuA:Callee Tryz.prog 147:=⟨fun args w=>zac (fn:=Tryz.f147) rfl rfl oh args w⟩
theorem znA:Callee Tryz.prog 148:=⟨fun args w=>zac (fn:=Tryz.f148) rfl rfl oh args w⟩
theorem zqJ:Callee Tryz.prog 150:=⟨fun args w=>zac (fn:=Tryz.f150) rfl rfl oh args w⟩
theorem zcQ:Callee Tryz.prog 152:=⟨fun args w=>zac (fn:=Tryz.f152) rfl rfl oh args w⟩
theorem ziK:Callee Tryz.prog 154:=⟨fun args w=>zac (fn:=Tryz.f154) rfl rfl oh args w⟩
theorem zkD:Callee Tryz.prog 155:=⟨fun args w=>zac (fn:=Tryz.f155) rfl rfl oh args w⟩
theorem zuB:Callee Tryz.prog 156:=⟨fun args w=>zac (fn:=Tryz.f156) rfl rfl oh args w⟩
theorem zfL:Callee Tryz.prog 157:=⟨fun args w=>zac (fn:=Tryz.f157) rfl rfl oh args w⟩
theorem zkE:Callee Tryz.prog 158:=⟨fun args w=>zac (fn:=Tryz.f158) rfl rfl oh args w⟩
theorem zcj:Callee Tryz.prog 159:=⟨fun args w=>zac (fn:=Tryz.f159) rfl rfl oh args w⟩
theorem zuC:Callee Tryz.prog 163:=⟨fun args w=>zac (fn:=Tryz.f163) rfl rfl oh args w⟩
theorem zuD:Callee Tryz.prog 164:=⟨fun args w=>zac (fn:=Tryz.f164) rfl rfl oh args w⟩
theorem zkF:Callee Tryz.prog 166:=⟨fun args w=>zac (fn:=Tryz.f166) rfl rfl oh args w⟩
theorem znB:Callee Tryz.prog 168:=⟨fun args w=>zac (fn:=Tryz.f168) rfl rfl oh args w⟩
theorem zdI:Callee Tryz.prog 170:=⟨fun args w=>zac (fn:=Tryz.f170) rfl rfl oh args w⟩
theorem zdJ:Callee Tryz.prog 171:=⟨fun args w=>zac (fn:=Tryz.f171) rfl rfl oh args w⟩
theorem zqK:Callee Tryz.prog 182:=⟨fun args w=>zac (fn:=Tryz.f182) rfl rfl oh args w⟩
theorem zqL:Callee Tryz.prog 183:=⟨fun args w=>zac (fn:=Tryz.f183) rfl rfl oh args w⟩
theorem zuE:Callee Tryz.prog 184:=⟨fun args w=>zac (fn:=Tryz.f184) rfl rfl oh args w⟩
theorem zdZ:Callee Tryz.prog 185:=⟨fun args w=>zac (fn:=Tryz.f185) rfl rfl oh args w⟩
theorem znC:Callee Tryz.prog 186:=⟨fun args w=>zac (fn:=Tryz.f186) rfl rfl oh args w⟩
theorem znD:Callee Tryz.prog 187:=⟨fun args w=>zac (fn:=Tryz.f187) rfl rfl oh args w⟩
theorem zkG:Callee Tryz.prog 188:=⟨fun args w=>zac (fn:=Tryz.f188) rfl rfl oh args w⟩
theorem zuF:Callee Tryz.prog 189:=⟨fun args w=>zac (fn:=Tryz.f189) rfl rfl oh args w⟩
theorem zuG:Callee Tryz.prog 190:=⟨fun args w=>zac (fn:=Tryz.f190) rfl rfl oh args w⟩
theorem zcC:Callee Tryz.prog 191:=⟨fun args w=>zac (fn:=Tryz.f191) rfl rfl oh args w⟩
theorem zb8:Callee Tryz.prog 192:=⟨fun args w=>zac (fn:=Tryz.f192) rfl rfl oh args w⟩
theorem zuH:Callee Tryz.prog 198:=⟨fun args w=>zac (fn:=Tryz.f198) rfl rfl oh args w⟩
theorem zuI:Callee Tryz.prog 199:=⟨fun args w=>zac (fn:=Tryz.f199) rfl rfl oh args w⟩
theorem zuJ:Callee Tryz.prog 200:=⟨fun args w=>zac (fn:=Tryz.f200) rfl rfl oh args w⟩
theorem zuK:Callee Tryz.prog 201:=⟨fun args w=>zac (fn:=Tryz.f201) rfl rfl oh args w⟩
theorem zqM:Callee Tryz.prog 202:=⟨fun args w=>zac (fn:=Tryz.f202) rfl rfl oh args w⟩
theorem zuL:Callee Tryz.prog 203:=⟨fun args w=>zac (fn:=Tryz.f203) rfl rfl oh args w⟩
theorem zuM:Callee Tryz.prog 204:=⟨fun args w=>zac (fn:=Tryz.f204) rfl rfl oh args w⟩
theorem zqN:Callee Tryz.prog 205:=⟨fun args w=>zac (fn:=Tryz.f205) rfl rfl oh args w⟩
theorem zuN:Callee Tryz.prog 209:=⟨fun args w=>zac (fn:=Tryz.f209) rfl rfl oh args w⟩
theorem zuO:Callee Tryz.prog 210:=⟨fun args w=>zac (fn:=Tryz.f210) rfl rfl oh args w⟩
theorem zuP:Callee Tryz.prog 211:=⟨fun args w=>zac (fn:=Tryz.f211) rfl rfl oh args w⟩
theorem zuQ:Callee Tryz.prog 212:=⟨fun args w=>zac (fn:=Tryz.f212) rfl rfl oh args w⟩
theorem zuR:Callee Tryz.prog 214:=⟨fun args w=>zac (fn:=Tryz.f214) rfl rfl oh args w⟩
theorem zuS:Callee Tryz.prog 215:=⟨fun args w=>zac (fn:=Tryz.f215) rfl rfl oh args w⟩
theorem znE:Callee Tryz.prog 216:=⟨fun args w=>zac (fn:=Tryz.f216) rfl rfl oh args w⟩
theorem znF:Callee Tryz.prog 217:=⟨fun args w=>zac (fn:=Tryz.f217) rfl rfl oh args w⟩
theorem zhu:Callee Tryz.prog 218:=⟨fun args w=>zac (fn:=Tryz.f218) rfl rfl oh args w⟩
theorem zkH:Callee Tryz.prog 219:=⟨fun args w=>zac (fn:=Tryz.f219) rfl rfl oh args w⟩
theorem zd0:Callee Tryz.prog 220:=⟨fun args w=>zac (fn:=Tryz.f220) rfl rfl oh args w⟩
theorem zkI:Callee Tryz.prog 221:=⟨fun args w=>zac (fn:=Tryz.f221) rfl rfl oh args w⟩
theorem zkJ:Callee Tryz.prog 222:=⟨fun args w=>zac (fn:=Tryz.f222) rfl rfl oh args w⟩
theorem zqO:Callee Tryz.prog 225:=⟨fun args w=>zac (fn:=Tryz.f225) rfl rfl oh args w⟩
theorem znG:Callee Tryz.prog 226:=⟨fun args w=>zac (fn:=Tryz.f226) rfl rfl oh args w⟩
theorem zuT:Callee Tryz.prog 227:=⟨fun args w=>zac (fn:=Tryz.f227) rfl rfl oh args w⟩
theorem zqP:Callee Tryz.prog 228:=⟨fun args w=>zac (fn:=Tryz.f228) rfl rfl oh args w⟩
theorem ziL:Callee Tryz.prog 229:=⟨fun args w=>zac (fn:=Tryz.f229) rfl rfl oh args w⟩
theorem zuU:Callee Tryz.prog 230:=⟨fun args w=>zac (fn:=Tryz.f230) rfl rfl oh args w⟩
theorem zuV:Callee Tryz.prog 231:=⟨fun args w=>zac (fn:=Tryz.f231) rfl rfl oh args w⟩
theorem zuW:Callee Tryz.prog 232:=⟨fun args w=>zac (fn:=Tryz.f232) rfl rfl oh args w⟩
theorem zqQ:Callee Tryz.prog 235:=⟨fun args w=>zac (fn:=Tryz.f235) rfl rfl oh args w⟩
theorem znH:Callee Tryz.prog 236:=⟨fun args w=>zac (fn:=Tryz.f236) rfl rfl oh args w⟩
theorem ziM:Callee Tryz.prog 237:=⟨fun args w=>zac (fn:=Tryz.f237) rfl rfl oh args w⟩
theorem zuX:Callee Tryz.prog 239:=⟨fun args w=>zac (fn:=Tryz.f239) rfl rfl oh args w⟩
theorem znI:Callee Tryz.prog 240:=⟨fun args w=>zac (fn:=Tryz.f240) rfl rfl oh args w⟩
theorem zuY:Callee Tryz.prog 242:=⟨fun args w=>zac (fn:=Tryz.f242) rfl rfl oh args w⟩
theorem zfM:Callee Tryz.prog 243:=⟨fun args w=>zac (fn:=Tryz.f243) rfl rfl oh args w⟩
theorem zqR:Callee Tryz.prog 244:=⟨fun args w=>zac (fn:=Tryz.f244) rfl rfl oh args w⟩
theorem zqS:Callee Tryz.prog 245:=⟨fun args w=>zac (fn:=Tryz.f245) rfl rfl oh args w⟩
theorem znJ:Callee Tryz.prog 252:=⟨fun args w=>zac (fn:=Tryz.f252) rfl rfl oh args w⟩
theorem zuZ:Callee Tryz.prog 253:=⟨fun args w=>zac (fn:=Tryz.f253) rfl rfl oh args w⟩
theorem zd1:Callee Tryz.prog 254:=⟨fun args w=>zac (fn:=Tryz.f254) rfl rfl oh args w⟩
theorem zqT:Callee Tryz.prog 255:=⟨fun args w=>zac (fn:=Tryz.f255) rfl rfl oh args w⟩
theorem znK:Callee Tryz.prog 256:=⟨fun args w=>zac (fn:=Tryz.f256) rfl rfl oh args w⟩
theorem zu0:Callee Tryz.prog 257:=⟨fun args w=>zac (fn:=Tryz.f257) rfl rfl oh args w⟩
theorem znL:Callee Tryz.prog 258:=⟨fun args w=>zac (fn:=Tryz.f258) rfl rfl oh args w⟩
theorem zkK:Callee Tryz.prog 259:=⟨fun args w=>zac (fn:=Tryz.f259) rfl rfl oh args w⟩
theorem zqU:Callee Tryz.prog 265:=⟨fun args w=>zac (fn:=Tryz.f265) rfl rfl oh args w⟩
theorem zu1:Callee Tryz.prog 266:=⟨fun args w=>zac (fn:=Tryz.f266) rfl rfl oh args w⟩
theorem zu2:Callee Tryz.prog 269:=⟨fun args w=>zac (fn:=Tryz.f269) rfl rfl oh args w⟩
theorem zu3:Callee Tryz.prog 273:=⟨fun args w=>zac (fn:=Tryz.f273) rfl rfl oh args w⟩
theorem zqV:Callee Tryz.prog 277:=⟨fun args w=>zac (fn:=Tryz.f277) rfl rfl oh args w⟩
theorem zu4:Callee Tryz.prog 278:=⟨fun args w=>zac (fn:=Tryz.f278) rfl rfl oh args w⟩
theorem zu5:Callee Tryz.prog 279:=⟨fun args w=>zac (fn:=Tryz.f279) rfl rfl oh args w⟩
theorem zu6:Callee Tryz.prog 280:=⟨fun args w=>zac (fn:=Tryz.f280) rfl rfl oh args w⟩
theorem zkL:Callee Tryz.prog 281:=⟨fun args w=>zac (fn:=Tryz.f281) rfl rfl oh args w⟩
theorem zu7:Callee Tryz.prog 282:=⟨fun args w=>zac (fn:=Tryz.f282) rfl rfl oh args w⟩
theorem zu8:Callee Tryz.prog 284:=⟨fun args w=>zac (fn:=Tryz.f284) rfl rfl oh args w⟩
theorem zkM:Callee Tryz.prog 286:=⟨fun args w=>zac (fn:=Tryz.f286) rfl rfl oh args w⟩
theorem zu9:Callee Tryz.prog 287:=⟨fun args w=>zac (fn:=Tryz.f287) rfl rfl oh args w⟩
theorem zd2:Callee Tryz.prog 293:=⟨fun args w=>zac (fn:=Tryz.f293) rfl rfl oh args w⟩
theorem zva:Callee Tryz.prog 297:=⟨fun args w=>zac (fn:=Tryz.f297) rfl rfl oh args w⟩
theorem zvb:Callee Tryz.prog 303:=⟨fun args w=>zac (fn:=Tryz.f303) rfl rfl oh args w⟩
theorem zvc:Callee Tryz.prog 304:=⟨fun args w=>zac (fn:=Tryz.f304) rfl rfl oh args w⟩
theorem mixed:Tryz.prog.follows .mixedOrders=true:=by kernel_rfl
def evT:Tabs:=⟨lk [(3,1,false),(4,1,false),(5,1,false),(9,1,false),(22,1,false),(23,1,false),(35,1,false),(36,1,false),(38,2,true),(39,1,false),(41,4,true),(58,1,false),(60,6,true),(74,1,false),(84,1,false),(91,4,true),(93,6,true),(98,3,true),(101,3,true),(103,9,true),(129,1,false),(131,2,true),(132,1,false),(134,2,true),(143,1,false),(145,3,true),(151,2,true),(153,4,true),(154,1,false),(155,1,false),(157,6,true),(175,1,false),(177,3,true),(183,1,false),(191,3,true),(296,1,false),(298,3,true),(308,1,false),(310,6,true),(311,3,true),(313,9,true),(316,4,true)],memN [22,23,24,35,36,39,51,58,70,74,83,84,129,132,143,154,155,175,212,296,308],memN [9],lk2 [(38,0,0),(38,1,1),(41,0,0),(41,1,1),(41,2,2),(41,3,3),(60,0,0),(60,1,1),(60,2,2),(60,3,3),(60,4,4),(60,5,5),(91,0,0),(91,1,2),(93,0,0),(93,1,4),(93,2,5),(98,0,0),(98,1,1),(98,2,2),(101,0,0),(101,1,1),(101,2,2),(103,0,0),(103,1,6),(131,0,0),(131,1,1),(134,0,0),(134,1,1),(145,0,0),(145,1,1),(145,2,2),(151,0,0),(151,1,1),(153,0,0),(153,1,2),(157,0,0),(157,1,4),(157,2,5),(177,0,0),(177,1,1),(177,2,2),(185,0,0),(185,1,1),(185,2,2),(191,0,0),(191,1,1),(201,0,0),(201,1,1),(298,0,0),(298,1,1),(298,2,2),(310,0,0),(310,1,1),(310,2,2),(310,3,3),(310,4,4),(310,5,5),(311,0,0),(311,1,1),(311,2,2),(313,0,0),(313,1,6),(316,0,0),(316,1,1),(316,2,2),(316,3,3)]⟩
theorem ziR:TabsOK Tryz.prog evT:=TabsOK.of oi oi oi oi
theorem sx {E e' env:Env}{H h' hp:Hp}{ks:List Nat} (hE:SubE E e') (hH:SubH H h') (he:e'.drop (e'.length-env.length)=env:=by kernel_rfl) (hc:zeZ (zdU E++ks) (e'.take (e'.length-env.length))=true:=by kernel_rfl)
    (hh:h'.drop (h'.length-hp.length)=hp:=by kernel_rfl) (hhc:zdK (zcX H) (zcX hp) (h'.take (h'.length-hp.length))=true:=by kernel_rfl):Sub ⟨E++(zch ks++env),H++hp⟩ ⟨e',h'⟩:=Sub.x he hc hE hh hhc hH
section
variable {c:Ctx}{all:Array Oper}{chk:List Rec->Prop}{os:List Oper}{recs:List Rec}{env:Env}{hp:Hp}{Q:St->Prop}{d ty:Nat}{pos:String}{af:Array Edge}
theorem wc {f:FuncId}{args:Array Operand}{ats:Array TypeId}{xs:List Operand}{vs:List AV}{hpc hp0:Hp}{r:AV} (hc:Callee c.P f) (hf:FnD c.P f vs hpc r hp0) (hargs:args=xs.toArray) (hx:opdL env xs=some vs)
    (hn:Walk c all chk os (zal ([]++opFL xs vs) (hpF hpc) [] ⟨some (d,r),hp0⟩::recs) ⟨(d,r)::env,hp0++hp⟩ Q)
    (hd:Nat.blt d c.n=true:=by exact rfl) (hsub:subH hpc hp:=by first|exact trivial|exact⟨rfl,trivial⟩) (hnt:zeA hpc=true:=by exact rfl) (hok:zbi hpc hp0 r []=true:=by exact rfl)
    (hcr:zaz env hp []=true:=by exact rfl):Walk c all chk (⟨some d,.call ⟨.value (.func f),args,ats⟩,ty,pos,af,none⟩::os) recs ⟨env,hp⟩ Q:=
  Walk.call (cr:=[]) hc hf hargs .none hd hx (LeL.refl _) hsub hnt hok hcr hn
theorem wd {f:FuncId}{args:Array Operand}{ats:Array TypeId}{xs:List Operand}{vs:List AV}{hpc hp0:Hp}{r:AV} (hc:Callee c.P f) (hf:FnD c.P f vs hpc r hp0) (hargs:args=xs.toArray) (hx:opdL env xs=some vs) (hsub:subH hpc hp)
    (hn:Walk c all chk os (zal ([]++opFL xs vs) (hpF hpc) [] ⟨some (d,r),hp0⟩::recs) ⟨(d,r)::env,hp0++hp⟩ Q)
    (hd:Nat.blt d c.n=true:=by exact rfl) (hnt:zeA hpc=true:=by exact rfl) (hok:zbi hpc hp0 r []=true:=by exact rfl)
    (hcr:zaz env hp []=true:=by exact rfl):Walk c all chk (⟨some d,.call ⟨.value (.func f),args,ats⟩,ty,pos,af,none⟩::os) recs ⟨env,hp⟩ Q:=
  Walk.call (cr:=[]) hc hf hargs .none hd hx (LeL.refl _) hsub hnt hok hcr hn
variable {t:TypeId}{x y:Operand}
theorem so {id off k:Nat}{b:Bool}{v:AV}{cs vs cs':List AV} (ht:TyS c.P t k b)
    (hn:Walk c all chk os (zal ([]++(opF x (.ref id off)++opF y v)) [(id,.box cs)] [] ⟨none,[(id,some (.box cs'))]⟩::recs) ⟨env,(id,some (.box cs'))::hp⟩ Q)
    (hx:opd env x=some (.ref id off):=by exact rfl) (hy:opd env y=some v:=by exact rfl) (hb:getH hp id=some (.box cs):=by exact rfl) (hv:zbh v=some vs:=by exact rfl) (hk:vs.length=k:=by exact rfl)
    (h1:zgs vs=true:=by exact rfl) (hne:vs≠[]:=by simp) (hput:putC cs off vs=some cs':=by exact rfl):Walk c all chk (⟨none,.store t x y,ty,pos,af,none⟩::os) recs ⟨env,hp⟩ Q:=
  Walk.store ht .none hx hy hb hv hk h1 hne hput hn
theorem bx (id:Nat){v:AV}{cs:List AV}
    (hn:Walk c all chk os (zal ([]++opFL [x] [v]) [] [id] ⟨some (d,.ref id 0),[(id,some (.box cs))]⟩::recs) ⟨(d,.ref id 0)::env,(id,some (.box cs))::hp⟩ Q)
    (hd:Nat.blt d c.n=true:=by exact rfl) (hx:opd env x=some v:=by exact rfl) (hc:zbh v=some cs:=by exact rfl)
    (h0:getH hp id=none:=by exact rfl) (ho1:occE id env=false:=by exact rfl) (ho2:occH id hp=false:=by exact rfl) (hid:zaB id (AV.idsL cs)=false:=by exact rfl):
    Walk c all chk (⟨some d,.box t x,ty,pos,af,none⟩::os) recs ⟨env,hp⟩ Q:=Walk.box .none hd hx hc h0 ho1 ho2 hid hn
theorem ab (id:Nat){k:Nat}{zs:List AV} (ht:TyZ c.P t k zs)
    (hn:Walk c all chk os (zal ([]++[]) [] [id] ⟨some (d,.ref id 0),[(id,some (.box zs))]⟩::recs) ⟨(d,.ref id 0)::env,(id,some (.box zs))::hp⟩ Q)
    (hz:AV.idsL zs=[]:=by exact rfl) (hd:Nat.blt d c.n=true:=by exact rfl) (h0:getH hp id=none:=by exact rfl) (ho1:occE id env=false:=by exact rfl) (ho2:occH id hp=false:=by exact rfl):
    Walk c all chk (⟨some d,.alloc t,ty,pos,af,none⟩::os) recs ⟨env,hp⟩ Q:=Walk.alloc ht hz .none hd h0 ho1 ho2 hn
theorem bu (ks:List Nat) (xs:List Operand){parts:Array (Nat×Operand)}{vs zs r:List AV}{places:List (Nat×Nat)} (ht:StT c.P t places zs)
    (hn:Walk c all chk os (zal ([]++opFL xs vs) [] [] ⟨some (d,.agg r),[]⟩::recs) ⟨(d,.agg r)::env,hp⟩ Q)
    (hparts:parts=(ks.zip xs).toArray:=by exact rfl) (hlen:ks.length=xs.length:=by exact rfl) (hd:Nat.blt d c.n=true:=by exact rfl) (hx:opdL env xs=some vs:=by exact rfl)
    (hf:zf4 (places[·]?) zs (ks.zip vs)=some r:=by exact rfl):Walk c all chk (⟨some d,.build t parts,ty,pos,af,none⟩::os) recs ⟨env,hp⟩ Q:=Walk.build ht hparts hlen .none hd hx hf hn
theorem si (ks:List Nat) (xs:List Operand){parts:Array (Nat×Operand)}{n:Nat}{vs zs r:List AV}{es:List (List D)}{e k yb:Nat} (ht:SlT c.P t e k yb) (hz:TyZ c.P e k zs)
    (hn:Walk c all chk os (zal ([]++opFL xs vs) [] [] ⟨some (d,.d (.sl es)),[]⟩::recs) ⟨(d,.d (.sl es))::env,hp⟩ Q) (hzk:zs.length=k:=by exact rfl) (hk:0<k:=by decide)
    (hparts:parts=(ks.zip xs).toArray:=by exact rfl) (hlen:ks.length=xs.length:=by exact rfl) (hsmall:n*k<=16777216:=by decide) (hpos:0<n:=by decide) (hd:Nat.blt d c.n=true:=by exact rfl) (hx:opdL env xs=some vs:=by exact rfl)
    (hf:zf4 (fun i=>some (i*k,k)) (zbG n zs) (ks.zip vs)=some r:=by exact rfl) (hc:zbT n k r=some es:=by exact rfl):
    Walk c all chk (⟨some d,.buildSlice t n parts,ty,pos,af,none⟩::os) recs ⟨env,hp⟩ Q:=Walk.sliceLit ht hz hzk hk hparts hlen hsmall hpos .none hd hx hf hc hn
theorem ap {id k e yb:Nat}{xs ys:List (List D)}{vy:AV} (ht:SlT c.P t e k yb) (hz:ZeroT c.P e k) (hx:opd env x=some (.gl id xs)) (hy:opd env y=some vy) (hyd:vy.toD=some (.sl ys))
    (hky:∀y,y∈ys->y.length=k) (hb:(xs.length+ys.length)*70<=140737488355328)
    (hn:Walk c all chk os (zal ([]++(opF x (.gl id xs)++opF y vy)) [(id,.tok xs.length k)] [] ⟨some (d,.gl id (xs++ys)),[(id,some (.tok (xs.length+ys.length) k))]⟩::recs)
      ⟨(d,.gl id (xs++ys))::env,(id,some (.tok (xs.length+ys.length) k))::hp⟩ Q) (hk:Nat.blt 0 k=true:=by exact rfl) (hd:Nat.blt d c.n=true:=by exact rfl)
    (htok:getH hp id=some (.tok xs.length k):=by exact zdk I (by first|rfl|(simp;done)|(simp;omega))) (hyb:Nat.ble yb 70=true:=by exact rfl):
    Walk c all chk (⟨some d,.call ⟨.builtin .append,#[x,y],#[t,t]⟩,ty,pos,af,none⟩::os) recs ⟨env,hp⟩ Q:=
  Walk.append ht hz hk .none hd hx hy hyd htok hky (Nat.le_trans (Nat.mul_le_mul_left _ (Nat.le_of_ble_eq_true hyb)) hb) od hn
end
section
variable {c:Ctx}{all:Array Oper}{chk:List Rec->Prop}{os:List Oper}{recs:List Rec}{env:Env}{hp:Hp}{Q:St->Prop}
theorem evs (stop:List Nat) (kn:List (Nat×Bool)) (h:evW evT stop c all (fun _=>True) Q (fun _ env hp=>Q ⟨env,hp⟩) os recs env hp kn) (hk:KN env kn:=by exact trivial) (hT:TabsOK c.P evT:=by exact ziR):Walk c all (fun _=>True) os recs ⟨env,hp⟩ Q:=
  ziS hT (fun _ _ _ h=>⟨trivial,h⟩) hk h
theorem evd (stop:List Nat) (kn:List (Nat×Bool)) (h:evW evT stop c all chk Q (fun recs env hp=>chk recs/\Q ⟨env,hp⟩) os recs env hp kn) (hk:KN env kn:=by exact trivial) (hT:TabsOK c.P evT:=by exact ziR):Walk c all chk os recs ⟨env,hp⟩ Q:=
  ziS hT (fun _ _ _ h=>h) hk h
theorem ev (h:evW evT [] c all (fun _=>True) Q (fun _ env hp=>Q ⟨env,hp⟩) os recs env hp []) (hT:TabsOK c.P evT:=by exact ziR):Walk c all (fun _=>True) os recs ⟨env,hp⟩ Q:=
  evs [] [] h trivial hT
theorem evc (stop rs:List Nat){x:Code}{s:St}{K:Kt} (h:evC evT stop rs c x s K) (hT:TabsOK c.P evT:=by exact ziR) (hm:c.P.follows .mixedOrders=true:=by exact mixed):CWp c x s K:=zgz hT hm h
end
theorem bd (fn:Func) (n:Nat) (stop rs:List Nat){f:Nat}{code:Code}{rv:List ResultVar}{args:List AV}{hp:Hp}{Post:AV->Hp->Prop}
    (h:∀w0 F0 own kept,KeptIn kept (zfK hp)->evC evT stop rs ⟨Tryz.prog,n,w0,F0,own,kept⟩ code ⟨zhY 0 args,hp⟩ ⟨Fin Tryz.prog rv hp Post,fun _ _=>False,Fin Tryz.prog rv hp Post⟩)
    (hf:(Tryz.prog).funcs[f]?=some fn:=by exact rfl) (hb:fn.body=some code:=by exact rfl) (hnn:fn.ntmps=n:=by exact rfl) (hrs:fn.results.toList=rv:=by exact rfl) (hn:Nat.ble args.length n=true:=by exact rfl):
    Fn Tryz.prog f args hp Post:=Fn.body hf hb hnn hrs hn (fun w0 F0 own kept hk=>zgz ziR mixed (h w0 F0 own kept hk))
theorem ar {n:Int}{X:Prop} (k:X) (b:I64 n:=by first|(constructor<;>omega)|(constructor<;>simp<;>omega)):Ar n X:=⟨b,k⟩
class Nz (p:Prop) (q:outParam Prop):Prop where
  nz:p->q
instance (priority:=low){p:Prop}:Nz p p:=⟨id⟩
instance {b:Bool}{q:Prop} [h:Nz (b=false) q]:Nz ((!b)=true) q:=⟨fun hb=>h.nz (by simpa using hb)⟩
instance {b:Bool}{q:Prop} [h:Nz (b=true) q]:Nz ((!b)=false) q:=⟨fun hb=>h.nz (by simpa using hb)⟩
theorem sq {b:Bool}{X Y q r:Prop} [h1:Nz (b=true) q] [h2:Nz (b=false) r] (t:b=true->b=true->q->X) (f:b=false->b=false->r->Y):Sp b X Y:=⟨fun h=>t h h (h1.nz h),fun h=>f h h (h2.nz h)⟩
theorem sqT {b:Bool}{X Y:Prop} (h:X) (hb:b=true:=by exact rfl):Sp b X Y:=⟨fun _=>h,fun h2=>absurd (h2.symm.trans hb) oh⟩
theorem sqF {b:Bool}{X Y:Prop} (h:Y) (hb:b=false:=by exact rfl):Sp b X Y:=⟨fun h2=>absurd (h2.symm.trans hb) oh,fun _=>h⟩
theorem dr {X Y:Prop} (h:Y) (hc:X:=by show _=_;kernel_rfl):X/\Y:=⟨hc,h⟩
section
variable {P:Program}{rs:List ResultVar}{hp:Hp}{s:St}{vs:List AV}{r:AV}
theorem rn {Post:AV->Hp->Prop} (hp':Hp) (h1:ResL P s rs vs) (h2:LeA (zie vs) r) (h3:Post r hp') (h4:HSub (hp'++hp) s.hp) (h5:∀id,zcg hp id=true->zcg (hp'++hp) id=true):Fin P rs hp Post s:=⟨vs,r,hp',h1,h2,h3,h4,h5⟩
theorem rn0 (h1:ResL P s rs vs) (h2:LeA (zie vs) r):Fin P rs [] (fun x y=>x=r/\y=[]) s:=⟨vs,r,[],h1,h2,⟨rfl,rfl⟩,HSub.nil,zvX⟩
theorem r1 {i:Nat}{v:AV} (h:getE s.env i=some v):ResL P s [.tmp i] [v]:= .cons (.tmp h) .nil
theorem rq{i:Nat}{x y:D} (e:x=y) (h:getE s.env i=some (.d x):=by exact rfl):Fin P [.tmp i] [] (fun a b=>a=.d y/\b=[]) s:=rn0 (r1 h) (.eqd e)
theorem r2 {i j:Nat}{v w:AV} (h:getE s.env i=some v) (h':getE s.env j=some w):ResL P s [.tmp i,.tmp j] [v,w]:= .cons (.tmp h) (.cons (.tmp h') .nil)
theorem rc{a t id off k i:Nat}{cs r:List AV}{v:AV} (ht:TyS P t k true) (h:getE s.env a=some (.ref id off):=by exact rfl) (hb:getH s.hp id=some (.box cs):=by exact rfl) (hv:cutC cs off k=some r:=by exact rfl) (h2:getE s.env i=some v:=by exact rfl):ResL P s [.cell a t,.tmp i] [.agg r,v]:=.cons (.cellA ht h hb hv) (.cons (.tmp h2) .nil)
theorem ra{a t id off k:Nat}{cs r:List AV} (ht:TyS P t k true) (h:getE s.env a=some (.ref id off):=by exact rfl) (hb:getH s.hp id=some (.box cs):=by exact rfl) (hv:cutC cs off k=some r:=by exact rfl):ResL P s [.cell a t] [.agg r]:=.cons (.cellA ht h hb hv) .nil
end
section
variable {env e':Env}{hp h':Hp}{ks:List Nat}{n:Nat}{u v:AV}{p q:Bool}
theorem jn (hu:getE e' n=some u) (le:LeA u v) (he:e'.drop (e'.length-env.length)=env:=by kernel_rfl) (hc:zeZ (zdU [(n,v)]++ks) (e'.take (e'.length-env.length))=true:=by kernel_rfl)
    (hh:h'.drop (h'.length-hp.length)=hp:=by kernel_rfl) (hhc:zdK (zcX []) (zcX hp) (h'.take (h'.length-hp.length))=true:=by kernel_rfl):Sub ⟨[(n,v)]++(zch ks++env),[]++hp⟩ ⟨e',h'⟩:=
  Sub.x he hc ⟨⟨_,hu,le⟩,trivial⟩ hh hhc trivial
theorem jnb (hu:getE e' n=some (.d (.bool p))) (hpq:p=q:=by first|rfl|(rw[xat];(try simp only[BQ])<;>first|omega|(simp_all;done)|(simp_all;omega)))
    (he:e'.drop (e'.length-env.length)=env:=by kernel_rfl) (hc:zeZ (zdU [(n,.d (.bool q))]++ks) (e'.take (e'.length-env.length))=true:=by kernel_rfl)
    (hh:h'.drop (h'.length-hp.length)=hp:=by kernel_rfl) (hhc:zdK (zcX []) (zcX hp) (h'.take (h'.length-hp.length))=true:=by kernel_rfl):Sub ⟨[(n,.d (.bool q))]++(zch ks++env),[]++hp⟩ ⟨e',h'⟩:=
  jn hu (xaJ hpq) he hc hh hhc
end
end Go.Proofs.YtmkipahfpaacgaaGreatDoor
namespace Go.Proofs.YtmkipahfpaacgaaGreatDoor
set_option linter.unusedSimpArgs false
set_option linter.unusedVariables false
abbrev Str:=List UInt8
structure Ty where
 data:Int
 index:Int
 deriving DecidableEq,Inhabited
structure Ctor where
 name:Str
 args:List Ty
 index:Int
 deriving DecidableEq,Inhabited
structure Data where
 name:Str
 ctors:List Ctor
 deriving DecidableEq,Inhabited
inductive Val where
 |mk (ctor n:Int) (kids:List Val)
 deriving Inhabited
inductive Pat where
 |mk (op ctor n m var:Int) (kids:List Pat)
 deriving Inhabited
abbrev Ty.c (t:Ty):List D:=[.i t.data,.i t.index]
abbrev zbU (l:List Ty):D:= .sl (l.map Ty.c)
abbrev Ctor.c (x:Ctor):List D:=[.str x.name,zbU x.args,.i x.index]
abbrev zsk (l:List Ctor):D:= .sl (l.map Ctor.c)
abbrev Data.c (x:Data):List D:=[.str x.name,zsk x.ctors]
abbrev zah (l:List Data):D:= .sl (l.map Data.c)
abbrev zcP (l:List Int):D:= .sl (l.map fun n=>[.i n])
abbrev zb0 (l:List Str):D:= .sl (l.map fun n=>[.str n])
mutual
def Val.c:Val->List D
 | .mk ctor n kids=>[.i ctor,.i n,.sl (Val.cs kids)]
def Val.cs:List Val->List (List D)
 | []=>[]
 |v::r=>v.c::Val.cs r
end
abbrev zjx (l:List Val):D:= .sl (Val.cs l)
mutual
def Pat.c:Pat->List D
 | .mk op ctor n m var kids=>[.i op,.i ctor,.i n,.i m,.i var,.sl (Pat.cs kids)]
def Pat.cs:List Pat->List (List D)
 | []=>[]
 |v::r=>v.c::Pat.cs r
end
abbrev zau (l:List Pat):D:= .sl (Pat.cs l)
theorem xa8:∀l:List Val,Val.cs l=l.map Val.c
 | []=>rfl
 |v::r=>by simp[Val.cs,xa8 r]
theorem xaR:∀l:List Pat,Pat.cs l=l.map Pat.c
 | []=>rfl
 |v::r=>by simp[Pat.cs,xaR r]
theorem zaE {α β:Type}{f:α->β}{pre:List α}{x:α}{rest xs:List α} (h:pre++x::rest=xs):(xs.map f)[pre.length]?=some (f x):=by
 subst h;simp
def Val.ctor:Val->Int | .mk a _ _=>a
def Val.num:Val->Int | .mk _ n _=>n
def Val.kids:Val->List Val | .mk _ _ k=>k
abbrev Val.cc (v:Val):List D:=[.i v.ctor,.i v.num,.sl (Val.cs v.kids)]
theorem Val.c_eq (v:Val):v.c=v.cc:=by cases v;rfl
theorem Val.eta (v:Val):Val.mk v.ctor v.num v.kids=v:=by cases v;rfl
theorem Val.cs_len (l:List Val):(Val.cs l).length=l.length:=by simp[xa8]
theorem xaS (l:List Pat):(Pat.cs l).length=l.length:=by simp[xaR]
end Go.Proofs.YtmkipahfpaacgaaGreatDoor
namespace Go.Proofs.YtmkipahfpaacgaaGreatDoor
open Go
set_option linter.unusedSimpArgs false
set_option linter.unusedVariables false
def zaC (n lo hi:Int):Bool:=decide (lo<=n)&&decide (n<=hi)
def zba (b:UInt8):Bool:=decide (65<=(b.toNat:Int))&&decide ((b.toNat:Int)<=90)
def zaJ (b:UInt8):Bool:=decide (97<=(b.toNat:Int))&&decide ((b.toNat:Int)<=122)
def zca (s:Str):Bool:=s.all zaJ
def zcL (s:Str):Bool:=zaC s.length 1 5&&(match s with | []=>false|b::r=>zba b&&zca r)
def zbH (n:Nat) (t:Ty):Bool:=(decide (t.data = -1)&&(decide (t.index=0)&&true))||(zaC t.data 0 (n-1)&&zaC t.index (-1) 3)
def zbz (n:Nat) (c:Ctor):Bool:=zcL c.name&&(decide ((c.args.length:Int)<=3)&&(zaC c.index 0 3&& !(c.args.any fun t=> !zbH n t)))
def zdM (n:Nat) (t:Ty):Bool:=(decide (t.data = -1)&&(decide (t.index=0)&&true))||(zaC t.data 0 (n-1)&&zaC t.index 0 3)
def zbe (s:Str):Bool:=decide ((s.length:Int)=1)&&(zba (s.getD 0 0)&& !decide (s=[73]))
def zcZ (n:Nat) (met:List Str):List Ctor->Option (List Str)
 | []=>some met
 |c::r=>if zbz n c&& !decide (c.name∈met) then zcZ n (met++[c.name]) r else none
def zbC (n:Nat) (met datas:List Str):List Data->Bool
 | []=>true
 |d::r=>zbe d.name&& !decide (d.name∈datas)&&zaC d.ctors.length 1 4&&
  (match zcZ n met d.ctors with
   |some met'=>zbC n met' (datas++[d.name]) r
   |none=>false)
def zaT (w:List Data):Bool:=decide ((w.length:Int)<=4)&&zbC w.length [] [] w
def zaK (w:List Data) (t:Ty):Bool:=zaT w&&zdM w.length t
structure WSmall (w:List Data):Prop where
 len:w.length<=1000000000000
 data:∀d∈w,d.name.length<=1000000000000/\d.ctors.length<=1000000000000
 ctor:∀d∈w,∀c∈d.ctors,c.name.length<=1000000000000/\c.args.length<=1000000000000
def nth {α:Type} [Inhabited α] (l:List α) (i:Nat):α:=l.getD i default
theorem zan {α β:Type} [Inhabited α]{f:α->β}{l:List α}{i:Nat} (h:i<l.length):(l.map f)[i]?=some (f (nth l i)):=by
 simp[nth,List.getD,h]
theorem zam {α:Type} [Inhabited α]{l:List α}{i:Nat} (h:i<l.length):nth l i∈l:=by
 simp[nth,List.getD,h]
theorem zvA {α:Type} [Inhabited α]{pre rest l:List α}{x:α} (h:pre++x::rest=l):nth l pre.length=x:=by
 subst h;simp[nth,List.getD]
theorem WSmall.ctors {w:List Data} (h:WSmall w) (i:Nat):(nth w i).ctors.length<=1000000000000:=by
 by_cases hi:i<w.length
 ·exact(h.data _ (zam hi)).2
 ·have:nth w i=default:=by simp[nth,List.getD,List.getElem?_eq_none (Nat.le_of_not_lt hi)]
  rw[this];exact Nat.zero_le _
def zbJ (w:List Data) (d k i j:Nat):Bool:=(decide (i<d)||decide (j<k))&&(decide (k<(nth w d).ctors.length)&&decide ((nth (nth w i).ctors j).name=(nth (nth w d).ctors k).name))
def zdh (w:List Data) (d k i:Nat):Bool:=(decide (i<d)&&decide ((nth w i).name=(nth w d).name))||(List.range (nth w i).ctors.length).any (zbJ w d k i)
def zlI (w:List Data) (d k:Nat):Bool:=(List.range (d+1)).any (zdh w d k)
def zeb (w:List Data) (d k:Nat):Bool:=zbz w.length (nth (nth w d).ctors k)&& !zlI w d k
def zcm (w:List Data) (d:Nat):Bool:=zbe (nth w d).name&&(decide (1<=(nth w d).ctors.length)&&(decide ((nth w d).ctors.length<=4)&&(List.range (nth w d).ctors.length).all (zeb w d)))
def zbl (w:List Data):Bool:=decide (w.length<=4)&&(List.range w.length).all (zcm w)
theorem zeW {n:Nat}{p:Nat->Bool} (h:∀i,i<n->p i=false):(List.range n).any p=false:=by
 rw[List.any_eq_false];intro i hi;rw[h i (List.mem_range.1 hi)];simp
theorem zcN {n:Nat}{p:Nat->Bool}{i:Nat} (hi:i<n) (h:p i=true):(List.range n).any p=true:=
 List.any_eq_true.2 ⟨i,List.mem_range.2 hi,h⟩
theorem zc1 {n:Nat}{p:Nat->Bool}{i:Nat} (hi:i<n) (h:p i=false):(List.range n).all p=false:=
 List.all_eq_false.2 ⟨i,List.mem_range.2 hi,by simp[h]⟩
theorem zdo {n:Nat}{p:Nat->Bool} (h:∀i,i<n->p i=true):(List.range n).all p=true:=by
 rw[List.all_eq_true];intro i hi;exact h i (List.mem_range.1 hi)
theorem zbb {P:Nat->Prop}{i:Nat} (h:∀j,j<i->P j) (hi:P i):∀j,j<i+1->P j:=fun j hj=>by
 rcases Nat.lt_or_eq_of_le (Nat.le_of_lt_succ hj) with h1|h1
 ·exact h j h1
 ·exact h1 ▸ hi
theorem zg3 {w:List Data}{d k i j:Nat} (h1:(decide (i<d)&&decide ((nth w i).name=(nth w d).name))=false) (h2:∀j',j'<j->zbJ w d k i j'=false)
  (h3:j<(nth w i).ctors.length->d<=i/\k<=j):zdh w d k i=false:=by
 unfold zdh;rw[h1,Bool.false_or];refine zeW (fun j' hj'=>?_);by_cases h:j'<j
 ·exact h2 j' h
 ·have:=h3 od;have e1:decide (i<d)=false:=xaw od;have e2:decide (j'<k)=false:=xaw od;simp only[zbJ,e1,e2,Bool.or_self,Bool.false_and]
set_option maxRecDepth 100000
set_option maxHeartbeats 2000000
theorem zbD {n lo hi:Int}:FnD Tryz.prog 125 [.d (.i n),.d (.i lo),.d (.i hi)] [] (.d (.bool (zaC n lo hi))) []:=by
 refine bd Tryz.f125 15 [] [] fun _ _ _ _ hk=>?_;apply sq<;>intro h1 h1p h1s;focus (refine rq ?_;all_goals ((simp[zaC,h1s,h1p];done)))
 focus (refine rq ?_;all_goals ((simp[zaC,h1s,h1p];done)))
theorem zcb {s:Str} (h:0<s.length):zcL s=(zaC s.length 1 5&&(zba s[0]&&zca (s.drop 1))):=by
 rcases s with _|⟨b,r⟩
 ·simp at h
 ·simp[zcL]
theorem zis {s:Str} (h:s.length=0\/5<s.length):zcL s=false:=by
 have:zaC s.length 1 5=false:=by
  simp only[zaC,Bool.and_eq_false_iff,decide_eq_false_iff_not];omega
 simp[zcL,this]
theorem zc0 {s:Str}{i:Nat} (h:i<s.length):zca (s.drop i)=(zaJ s[i]&&zca (s.drop (i+1))):=by
 unfold zca;rw[List.drop_eq_getElem_cons h,List.all_cons]
theorem zi8 {s:Str}{i:Nat} (h:s.length<=i):zca (s.drop i)=true:=by
 rw[List.drop_eq_nil_of_le h];rfl
theorem zjH {s:Str} (hs:s.length<=1000000000000):FnD Tryz.prog 209 [.d (.str s)] [] (.d (.bool (zcL s))) []:=by
 refine bd Tryz.f209 34 [] [] fun _ _ _ _ hk=>?_;refine wc zes zbD I I ?_;refine ev ?_;apply sq<;>intro h1 h1p h1s;refine sqT ?_;refine sqT ?_;focus (refine rq ?_;all_goals ((simp[zcL,h1s,h1p];done)))
 try simp only[Q,zaC] at h1p
 refine xbF (i:=0) un9 (.some I I h1) I I I I (xan od) ?_;refine evs [] [(8,false)] ?_ ⟨⟨_,I,h1⟩,O⟩;apply sq<;>intro h3 h3p h3s<;>(try simp only[Q,zaC] at h3p);refine sqT ?_;focus (refine rq ?_;all_goals ((rw[zcb od];simp[zba];omega)))
 refine xbF (i:=0) un9 (.some I I h3) I I I I (xan od) ?_;refine evs [] [(13,false)] ?_ ⟨⟨_,I,h3⟩,O⟩;apply sq<;>intro h5 h5p h5s<;>(try simp only[Q,zaC] at h5p);focus (refine rq ?_;all_goals ((rw[zcb od];simp[zba];omega)))
 refine xaA (ι:=Nat) hk (fun i=>[(3,.d (.i (i:Int)))]) [2,18,19,20,21,22,23,24,25,26,27,28,29,30,31,32,33] (fun i=>[]) (fun i=>1<=i/\i<=s.length/\zca (s.drop i)=zca (s.drop 1)) (fun i=>s.length-i) 1 ⟨by omega,by omega,I⟩ ⟨⟨_,I,xaK ?_⟩,O⟩ O (fun x=>rfl) (fun i hg1=>?_);focus (rfl)
 refine evc [] [] ?_;apply sq<;>intro h6 h6p h6s<;>(try simp only[Q,zaC] at h6p);refine xbF un9 .none I I I I (xan od) ?_;refine ev ?_;apply sq<;>intro h7 h7p h7s<;>(try simp only[Q,zaC] at h7p);refine sqT ?_;focus (refine rq ?_;all_goals ((rw[zcb od,<-hg1.2.2,zc0 od];simp[zaJ];omega)))
 refine xbF un9 (.some I I h7) I I I I (xan od) ?_;refine evs [] [(28,false)] ?_ ⟨⟨_,I,h7⟩,O⟩;apply sq<;>intro h9 h9p h9s<;>(try simp only[Q,zaC] at h9p);focus (refine rq ?_;all_goals ((rw[zcb od,<-hg1.2.2,zc0 od];simp[zaJ];omega)))
 refine ar (xaj (i+1) ⟨⟨by omega,by omega,by rw[<-hg1.2.2,zc0 (i:=i) od];simp[zaJ];omega⟩, ?_,sx ⟨⟨_,I,xaK ?_⟩,O⟩ O⟩);focus (omega)
 focus (rfl)
 focus (refine rq ?_;all_goals ((rw[zcb od,<-hg1.2.2,zi8 od];simp[zaC,zba];omega)))
theorem zhQ (hp:Hp):(zfK hp).all (fun id=>(getH ([]++hp) id).isSome)=true:=by
 rw[List.all_eq_true];intro id h;simp only[zfK,List.mem_filter] at h;exact(ze4 h.2).1
def idxF {α:Type} (p:α->Bool):List α->Nat->Int
 | [],_=> -1
 |x::r,i=>if p x then (i:Int) else idxF p r (i+1)
theorem zfs {α:Type} (p:α->Bool):∀(l:List α) (i:Nat),decide (0<=idxF p l i)=l.any p
 | [],_=>by simp[idxF]
 |x::r,i=>by
  unfold idxF;cases h:p x with
  |true=>simp[h]
  |false=>simp[h,zfs p r (i+1)]
theorem zfw {hp:Hp} (h:zbi hp [] (.d .nilp) []=true) (x:D):zbi hp [] (.d x) []=true:=h
theorem zhq {xs:List Ty}{f:Nat}{caps:List AV}{hp:Hp}{p:Ty->Bool} (hs:xs.length<=1000000000000) (hcal:Callee Tryz.prog f)
  (hf:∀t∈xs,FnD Tryz.prog f ([.agg [.d (.i t.data),.d (.i t.index)]]++caps) hp (.d (.bool (p t))) []) (k1:subH hp hp) (k2:zeA hp=true) (k3:zbi hp [] (.d .nilp) []=true):
  FnD Tryz.prog 269 [.d (zbU xs),.fn f caps] hp (.d (.i (idxF p xs 0))) []:=by
 refine bd Tryz.f269 19 [] [] fun _ _ _ _ hk=>?_;refine xaA (ι:=List (Ty)×List (Ty)) hk (fun x=>[(8,.d (.i (x.1.length:Int)))]) [4,5,9,10,11,12,13,14,15,16,17,18] (fun x=>[]) (fun x=>x.1++x.2=xs/\idxF p x.2 x.1.length=idxF p xs 0) (fun x=>x.2.length) ([],xs) ⟨by simp,I⟩ ⟨⟨_,I,xaK ?_⟩,O⟩ O (fun x=>zhQ hp) (fun x hg1=>?_);focus (rfl)
 obtain⟨pre,rest⟩:=x;dsimp only at hg1 ⊢;refine evc [] [] ?_;apply sq<;>intro h1 h1p h1s<;>(try simp only[Q] at h1p);rcases rest with _|⟨y,rest⟩
 ·exfalso;simp_all
 refine ixq zaL I I I (zaE hg1.1) I (ev (xbr (cr:=[]) hcal (hf y (by rw[<-hg1.1];simp)) I .none I I I (LeL.refl _) k1 k2 (zfw k3 _) I ?_));apply tv;apply sq<;>intro h2 h2p h2s<;>(try simp only[Q] at h2p);focus (refine rn [] (r1 I) (.eqd ?_) ⟨I,I⟩ (fun _ _ h=>h) (fun _ h=>h);all_goals (rw[<-hg1.2];simp[idxF,h1s,h1p,h2s,h2p]))
 refine ar (xaj ((pre++[y],rest)) ⟨⟨(by have hz:=hg1.1;rw[<-hz];simp),(by rw[<-hg1.2];simp[idxF,h2s])⟩,oe,Sub.x oi oi ⟨⟨_,I,xaK ?_⟩,O⟩ oe (by simp[zdK]) O⟩);focus ((simp;done))
 have hrest:rest=[]:=by
  rcases rest with _|⟨a,b⟩
  ·rfl
  ·exfalso;have hz:=xam List.length (hg1.1);simp only[xaa,xab,xac] at hz;omega
 subst hrest;focus (refine rn [] (r1 I) (.eqd ?_) ⟨I,I⟩ (fun _ _ h=>h) (fun _ h=>h);all_goals (rw[<-hg1.2];simp[idxF,h1s,h1p]))
theorem zge {xs:List Ty}{f:Nat}{caps:List AV}{hp:Hp}{p:Ty->Bool} (hs:xs.length<=1000000000000) (hcal:Callee Tryz.prog f)
  (hf:∀t∈xs,FnD Tryz.prog f ([.agg [.d (.i t.data),.d (.i t.index)]]++caps) hp (.d (.bool (p t))) []) (k1:subH hp hp) (k2:zeA hp=true) (k3:zbi hp [] (.d .nilp) []=true):
  FnD Tryz.prog 210 [.d (zbU xs),.fn f caps] hp (.d (.bool (xs.any p))) []:=by
 refine bd Tryz.f210 9 [] [] fun _ _ _ _ hk=>?_;refine Walk.call (cr:=[]) zu2 (zhq hs hcal hf k1 k2 k3) I .none I I (LeL.refl _) k1 k2 (zfw k3 _) I (ev (rn [] (r1 I) (.eqd ?_) ⟨I,I⟩ (fun _ _ h=>h) (fun _ h=>h)));rotate_left;all_goals (exact xam D.bool (zfs p xs 0))
theorem zna {w:List Data}{a b:Int} (hs:w.length<=1000000000000):FnD Tryz.prog 212 [.d (zah w),.agg [.d (.i a),.d (.i b)]] [] (.d (.bool (zbH w.length ⟨a,b⟩))) []:=by
 refine bd Tryz.f212 21 [7] [] fun _ _ _ _ hk=>?_;refine bx 3003 ?_;refine evs [7] [] (bu [0] [_] st38 ?_);refine xbz eq38 .none I I I I I (evs [7] [] ?_);apply sq<;>intro h1 h1p h1s;try simp only[Q] at h1p
 focus (refine rq ?_;all_goals ((simp[zbH,h1s,h1p];done)))
 refine ar ?_ (by constructor<;>simp<;>omega);refine Walk.call (cr:=[]) zes zbD I (.some I I h1) I I (LeL.refl _) O I I I (evs [7] [(8,false)] ?_ ⟨⟨_,I,h1⟩,O⟩);apply sq<;>intro h2 h2p h2s;refine Walk.call (cr:=[]) zes zbD I (.some I I h2) I I (LeL.refl _) O I I I (evs [7] [(8,false),(15,true)] ?_ ⟨⟨_,I,h1⟩,⟨_,I,h2⟩,O⟩);focus (refine rq ?_;all_goals ((simp_all[zbH];done)))
 focus (refine rq ?_;all_goals ((simp_all[zbH];done)))
theorem zl1 {w:List Data}{a b:Int} (hs:w.length<=1000000000000):FnD Tryz.prog 135 [.d (zah w),.agg [.d (.i a),.d (.i b)]] [] (.d (.bool (zdM w.length ⟨a,b⟩))) []:=by
 refine bd Tryz.f135 21 [7] [] fun _ _ _ _ hk=>?_;refine bx 3003 ?_;refine evs [7] [] (bu [0] [_] st38 ?_);refine xbz eq38 .none I I I I I (evs [7] [] ?_);apply sq<;>intro h1 h1p h1s;try simp only[Q] at h1p
 focus (refine rq ?_;all_goals ((simp[zdM,h1s,h1p];done)))
 refine ar ?_ (by constructor<;>simp<;>omega);refine Walk.call (cr:=[]) zes zbD I (.some I I h1) I I (LeL.refl _) O I I I (evs [7] [(8,false)] ?_ ⟨⟨_,I,h1⟩,O⟩);apply sq<;>intro h2 h2p h2s;refine Walk.call (cr:=[]) zes zbD I (.some I I h2) I I (LeL.refl _) O I I I (evs [7] [(8,false),(15,true)] ?_ ⟨⟨_,I,h1⟩,⟨_,I,h2⟩,O⟩);focus (refine rq ?_;all_goals ((simp_all[zdM];done)))
 focus (refine rq ?_;all_goals ((simp_all[zdM];done)))
theorem zkd {w:List Data}{a b:Int} (hs:w.length<=1000000000000):FnD Tryz.prog 211 [.agg [.d (.i a),.d (.i b)],.ref 1002 0] [(1002,some (.box [.d (zah w)]))] (.d (.bool (!zbH w.length ⟨a,b⟩))) []:=by
 refine bd Tryz.f211 8 [] [] fun _ _ _ _ hk=>?_;refine bx 3002 ?_;refine ev (wc zuQ (zna hs) I I ?_);refine ev ?_;focus (refine rn [] (r1 I) (.eqd ?_) ⟨I,I⟩ (SubH.get ⟨I,O⟩) (fun _ h=>h);all_goals (rfl))
theorem zlZ {w:List Data}{s:Str}{args:List Ty}{k:Int} (hs:w.length<=1000000000000) (hn:s.length<=1000000000000) (ha:args.length<=1000000000000):FnD Tryz.prog 126 [.d (zah w),.agg [.d (.str s),.d (zbU args),.d (.i k)]] [] (.d (.bool (zbz w.length ⟨s,args,k⟩))) []:=by
 refine bd Tryz.f126 26 [] [] fun _ _ _ _ hk=>?_;refine bx 1002 ?_;refine bx 3003 ?_;refine ev (wc zuN (zjH hn) I I ?_);refine ev ?_;apply sq<;>intro h1 h1p h1s;apply sq<;>intro h2 h2p h2s<;>(try simp only[Q] at h2p);refine Walk.call (cr:=[]) zes zbD I (.some I I h2) I I (LeL.refl _) O I I I (evs [] [(14,true)] ?_ ⟨⟨_,I,h2⟩,O⟩);apply sq<;>intro h3 h3p h3s;try simp only[Q] at h3p
 refine xbu (xs:=[_]) I (.some I I h3) I I (Walk.call (cr:=[]) zuO (zge (p:=fun t=> !zbH w.length t) ha zuP (fun t _=>zkd hs) ⟨I,O⟩ I I) I (.some I I h3) I I (LeL.refl _) ⟨I,O⟩ I I I (evs [] [(19,true)] ?_ ⟨⟨_,I,h3⟩,O⟩));focus (refine rq ?_;all_goals ((simp[zbz,h1s,h1p,h2s,h2p,h3s,h3p];done)))
 focus (refine rq ?_;all_goals ((simp[zbz,h1s,h1p,h2s,h2p,h3s,h3p];done)))
 refine sqF ?_;focus (refine rq ?_;all_goals ((simp[zbz,h1s,h1p,h2s,h2p];done)))
 refine sqF ?_;refine sqF ?_;focus (refine rq ?_;all_goals ((simp[zbz,h1s,h1p];done)))
theorem zk2 {s:Str} (h:0<s.length):s.getD 0 0=s[0]:=by
 rcases s with _|⟨b,r⟩
 ·simp at h
 ·rfl
theorem xaG (c:Ctor):Ctor.mk c.name c.args c.index=c:=rfl
theorem Ty.eta (c:Ty):Ty.mk c.data c.index=c:=rfl
theorem Data.eta (c:Data):Data.mk c.name c.ctors=c:=rfl
theorem zub {w:List Data}{met datas:List Str} (h4:(w.length:Int)<=4) (h:zbC w.length met datas []=zbC w.length [] [] w):D.bool true=D.bool (zaT w):=by
 unfold zaT;rw[<-h,xax h4];rfl
theorem zee {w rest:List Data}{met datas:List Str} (h:zbC w.length met datas rest=zbC w.length [] [] w) (h2:zbC w.length met datas rest=false):D.bool false=D.bool (zaT w):=by
 unfold zaT;rw[<-h,h2,Bool.and_false]
theorem ziY {w:List Data} (hs:WSmall w):FnD Tryz.prog 56 [.d (zah w)] [] (.d (.bool (zaT w))) []:=by
 have hs1:=hs.len;refine bd Tryz.f56 79 [] [] fun _ _ _ _ hk=>?_;apply sq<;>intro h1 h1p h1s<;>(try simp only[Q] at h1p);focus (refine rq ?_;all_goals ((simp[zaT];omega)))
 refine Walk.makeMap (id:=3012) .none I I (ev (Walk.makeMap (id:=3013) .none I I (ev (xaA (ι:=List (Data)×List (Data)×(List Str)×(List Str)) hk (fun x=>[(16,.d (.i (x.1.length:Int))),(3,.mapr 3012),(4,.mapr 3013)]) [2,6,8,17,18,19,20,21,22,23,24,25,26,27,28,29,30,31,32,33,34,35,36,37,38,39,40,41,42,43,44,45,46,47,48,49,50,51,52,53,54,55,56,57,58,59,60,61,62,63,64,65,66,67,68,69,70,71,72,73,74,75,76,77,78] (fun x=>[(3012,some (.map x.2.2.1)),(3013,some (.map x.2.2.2))]) (fun x=>x.1++x.2.1=w/\zbC w.length x.2.2.1 x.2.2.2 x.2.1=zbC w.length [] [] w) (fun x=>x.2.1.length) ([],w,[],[]) ⟨by simp,I⟩ ⟨⟨_,I,xaK ?_⟩,⟨⟨_,I, ?_⟩,⟨⟨_,I, ?_⟩,O⟩⟩⟩ ⟨?_,⟨?_,O⟩⟩ (fun x=>rfl) (fun x hg1=>?_)))));focus (rfl)
 iterate 2 focus (exact LeA.refl _)
 iterate 2 focus (first|rfl|(simp[getH];done))
 obtain⟨pre,rest,met,datas⟩:=x;dsimp only at hg1 ⊢;refine evc [] [] ?_;apply sq<;>intro h2 h2p h2s<;>(try simp only[Q] at h2p);rcases rest with _|⟨d,rest⟩
 ·exfalso;simp_all
 refine ixq sl23 I I I (zaE hg1.1) I (ev (ab 3006 zjG ?_));refine so zqt ?_;apply tv;apply sq<;>intro h3 h3p h3s<;>(try simp only[Q] at h3p);refine sqT ?_;refine sqT ?_;refine sqT ?_;refine sqT ?_;refine sqT ?_;focus (refine rq ?_;all_goals ((refine zee hg1.2 ?_;simp[zbC,zbe,h1s,h1p,h2s,h2p,h3s,h3p];done)))
 refine xbF (i:=0) un9 (.some I I h3) I I I I (xan od) ?_;refine evs [] [(24,false)] ?_ ⟨⟨_,I,h3⟩,O⟩;apply sq<;>intro h5 h5p h5s<;>(try simp only[Q] at h5p);refine sqT ?_;refine sqT ?_;refine sqT ?_;refine sqT ?_;focus (refine rq ?_;all_goals ((refine zee hg1.2 ?_;simp only[zbC,zbe,zk2 (s:=d.name) od,zba];simp[h1s,h1p,h2s,h2p,h3s,h3p,h5s,h5p];omega)))
 refine xbF (i:=0) un9 (.some I I h5) I I I I (xan od) ?_;refine evs [] [(30,false)] ?_ ⟨⟨_,I,h5⟩,O⟩;apply sq<;>intro h7 h7p h7s<;>(try simp only[Q] at h7p);refine sqT ?_;refine sqT ?_;refine sqT ?_;focus (refine rq ?_;all_goals ((refine zee hg1.2 ?_;simp only[zbC,zbe,zk2 (s:=d.name) od,zba];simp[h1s,h1p,h2s,h2p,h3s,h3p,h5s,h5p,h7s,h7p];omega)))
 apply sq<;>intro h9 h9p h9s<;>(try simp only[Q] at h9p);refine sqT ?_;refine sqT ?_;focus (refine rq ?_;all_goals ((refine zee hg1.2 ?_;simp[zbC,zbe,h1s,h1p,h2s,h2p,h3s,h3p,h5s,h5p,h7s,h7p,h9s,h9p];done)))
 refine Walk.lookup znm (.some I I h9) I I I I (evs [] [(41,false)] ?_ ⟨⟨_,I,h9⟩,O⟩);apply sq<;>intro h11 h11p h11s<;>(try simp only[Q] at h11p);refine sqT ?_;focus (refine rq ?_;all_goals ((refine zee hg1.2 ?_;simp[zbC,zbe,h1s,h1p,h2s,h2p,h3s,h3p,h5s,h5p,h7s,h7p,h9s,h9p,h11s,h11p];done)))
 refine Walk.call (cr:=[]) zes zbD I (.some I I h11) I I (LeL.refl _) O I I I (evs [] [(47,false)] ?_ ⟨⟨_,I,h11⟩,O⟩);apply sq<;>intro h13 h13p h13s<;>(try simp only[Q] at h13p);focus (refine rq ?_;all_goals ((refine zee hg1.2 ?_;simp[zbC,zbe,h1s,h1p,h2s,h2p,h3s,h3p,h5s,h5p,h7s,h7p,h9s,h9p,h11s,h11p,h13s,h13p];done)))
 refine Walk.mapUpdate znm .none I I I I o0 ?_;apply tv;refine xaA (ι:=List (Ctor)×List (Ctor)×(List Str)) hk (fun x=>[(60,.d (.i (x.1.length:Int)))]) [2,8,61,62,63,64,65,66,67,68,69,70,71,72,73,74,75,76,77] (fun x=>[(3012,some (.map x.2.2))]) (fun x=>x.1++x.2.1=d.ctors/\zcZ w.length x.2.2 x.2.1=zcZ w.length met d.ctors) (fun x=>x.2.1.length) ([],d.ctors,met) ⟨by simp,I⟩ ⟨⟨_,I,xaK ?_⟩,O⟩ ⟨?_,O⟩ (fun x=>rfl) (fun x hg2=>?_);focus (rfl)
 focus (first|rfl|(simp[getH];done))
 obtain⟨pre2,rest2,met2⟩:=x;dsimp only at hg2 ⊢;have hb:=(hs.data d (by rw[<-hg1.1];simp)).2;refine evc [] [] ?_;apply sq<;>intro h14 h14p h14s<;>(try simp only[Q] at h14p);rcases rest2 with _|⟨y,rest2⟩
 ·exfalso;simp_all
 refine ixq zbx I I I (zaE hg2.1) I (ev (ab 3008 zfh ?_));refine so zcK ?_;apply tv;refine wc zur (zlZ hs1 (hs.ctor d (by rw[<-hg1.1];simp) y (by rw[<-hg2.1];simp)).1 (hs.ctor d (by rw[<-hg1.1];simp) y (by rw[<-hg2.1];simp)).2) I I ?_;refine ev ?_;apply sq<;>intro h15 h15p h15s<;>(try simp only[Q] at h15p);refine sqT ?_;focus (refine rq ?_;all_goals ((refine zee hg1.2 ?_;rw[zbC,<-hg2.2];simp[zcZ,h1s,h1p,h2s,h2p,h3s,h3p,h5s,h5p,h7s,h7p,h9s,h9p,h11s,h11p,h13s,h13p,h14s,h14p,h15s,h15p];done)))
 refine Walk.lookup znm (.some I I h15) I I I I (evs [] [(68,false)] ?_ ⟨⟨_,I,h15⟩,O⟩);apply sq<;>intro h17 h17p h17s<;>(try simp only[Q] at h17p);focus (refine rq ?_;all_goals ((refine zee hg1.2 ?_;rw[zbC,<-hg2.2];simp[zcZ,h1s,h1p,h2s,h2p,h3s,h3p,h5s,h5p,h7s,h7p,h9s,h9p,h11s,h11p,h13s,h13p,h14s,h14p,h15s,h15p,h17s,h17p];done)))
 refine Walk.mapUpdate znm .none I I I I o0 ?_;apply tv;refine ar (xaj ((pre2++[y],rest2,met2++[y.name])) ⟨⟨(by have hz:=hg2.1;rw[<-hz];simp),(by rw[<-hg2.2];simp[zcZ,h1s,h1p,h2s,h2p,h3s,h3p,h5s,h5p,h7s,h7p,h9s,h9p,h11s,h11p,h13s,h13p,h14s,h14p,h15s,h15p,h17s,h17p])⟩,oe,sx ⟨⟨_,I,xaK ?_⟩,O⟩ ⟨?_,O⟩⟩);focus ((simp;done))
 focus (first|rfl|(simp[getH];done))
 have hrest2:rest2=[]:=by
  rcases rest2 with _|⟨a,b⟩
  ·rfl
  ·exfalso;have hz:=xam List.length (hg2.1);simp only[xaa,xab,xac] at hz;omega
 subst hrest2;refine ar (xaj ((pre++[d],rest,met2,datas++[d.name])) ⟨⟨(by have hz:=hg1.1;rw[<-hz];simp),(by rw[<-hg1.2,zbC,<-hg2.2];simp only[zbe,zk2 (s:=d.name) od,zba];simp[zcZ,h1s,h1p,h2s,h2p,h3s,h3p,h5s,h5p,h7s,h7p,h9s,h9p,h11s,h11p,h13s,h13p,h14s,h14p];omega)⟩,oe,sx ⟨⟨_,I,xaK ?_⟩,⟨⟨_,I, ?_⟩,⟨⟨_,I, ?_⟩,O⟩⟩⟩ ⟨?_,⟨?_,O⟩⟩⟩);focus ((simp;done))
 iterate 2 focus (exact LeA.refl _)
 iterate 2 focus (first|rfl|(simp[getH];done))
 have hrest:rest=[]:=by
  rcases rest with _|⟨a,b⟩
  ·rfl
  ·exfalso;have hz:=xam List.length (hg1.1);simp only[xaa,xab,xac] at hz;omega
 subst hrest;focus (refine rq ?_;all_goals ((exact zub od hg1.2)))
theorem zf1 {w:List Data}{a b:Int} (hs:WSmall w):FnD Tryz.prog 79 [.d (zah w),.agg [.d (.i a),.d (.i b)]] [] (.d (.bool (zaK w ⟨a,b⟩))) []:=by
 refine bd Tryz.f79 12 [] [] fun _ _ _ _ hk=>?_;refine bx 3003 ?_;refine ev (wc zvM (ziY hs) I I ?_);refine ev ?_;apply sq<;>intro h1 h1p h1s;refine Walk.call (cr:=[]) zuu (zl1 hs.len) I (.some I I h1) I I (LeL.refl _) O I I I (evs [] [(7,true)] ?_ ⟨⟨_,I,h1⟩,O⟩);focus (refine rq ?_;all_goals ((simp[zaK,h1s,h1p];done)))
 focus (refine rq ?_;all_goals ((simp[zaK,h1s,h1p];done)))
abbrev zhR (x:UInt8):List D:=[.int .u8 (x.toNat:Int)]
abbrev zbP (b:Str):D:= .sl (b.map zhR)
abbrev rdB (b:Str) (p:Nat):Res:= .box [.d (zbP b),.d (.i p)]
theorem zlQ (u:UInt8):0<=IntKind.i64.wrap (u.toNat:Int)/\IntKind.i64.wrap (u.toNat:Int)<=255:=by
 have h:u.toNat<256:=u.toNat_lt;rw[zcV od];omega
def zg0 (b:Str) (p:Nat):Int:=
 IntKind.i64.wrap ((nth b (p % b.length)).toNat:Int)*131+IntKind.i64.wrap ((nth b ((p*7+3) % b.length)).toNat:Int)*1117+((p:Int)+1-1)*29+((p:Int)+1-1) / ((b.map zhR).length:Int)*53
def zad (b:Str) (p:Nat) (n:Int):Int:=
 if n<1\/b.length=0 then 0
 else if p<b.length then IntKind.i64.wrap ((nth b p).toNat:Int) % n
 else xorV (zg0 b p) (zg0 b p / 64) % n
theorem zbo {b:Str}{p:Nat}{n:Int} (h:1<=n):0<=zad b p n/\zad b p n<n:=by
 unfold zad;split
 ·omega
 ·split
  ·exact⟨Int.emod_nonneg _ od,Int.emod_lt_of_pos _ od⟩
  ·exact⟨Int.emod_nonneg _ od,Int.emod_lt_of_pos _ od⟩
theorem oy{p:Prop}(h:p:=by rw[un5];rfl):p:=h
theorem zaD {b:Str}{p:Nat}{n:Int} (hb:b.length<=2000) (hp:p<=1000000000000) (hn:n<=1000000000000):
  FnD Tryz.prog 144 [.ref 900 0,.d (.i n)] [(900,some (rdB b p))] (.d (.i (zad b p n))) [(900,some (rdB b (p+1)))]:=by
 have w1:=zlQ (nth b (p % b.length));have w2:=zlQ (nth b ((p*7+3) % b.length));have w3:=zlQ (nth b p);have hlen:((b.map zhR).length:Int)=b.length:=by simp
 have d1:0<=((p:Int)+1-1) / ((b.map zhR).length:Int):=Int.ediv_nonneg od od;have d2:((p:Int)+1-1) / ((b.map zhR).length:Int)<=(p:Int)+1-1:=Int.ediv_le_self _ od;have hx:0<=zg0 b p/\zg0 b p<=100*1000000000000:=by unfold zg0;omega
 have hx2:=zud (m:=zg0 b p) (n:=zg0 b p / 64) od od;have k1:(p:Int)+1-1=(p:Int):=by omega
 have hx3:=hx2;have hx4:=hx;unfold zg0 at hx3 hx4;refine bd Tryz.f144 99 [46,57,74,89,94,95,98] [] fun _ _ _ _ hk=>?_;refine ar (so ty3 ?_);apply tv;apply sq<;>intro h1 h1p h1s<;>(try simp only[Q] at h1p);refine sqT ?_;refine rn [(900,some (rdB b (p+1)))] (r1 I) (.eqd ?_) ⟨I,I⟩ (SubO.get ⟨.inr ?_,⟨.inl I,O⟩⟩) (zak I);rotate_left 2;apply sq<;>intro h3 h3p h3s<;>(try simp only[Q] at h3p);refine rn [(900,some (rdB b (p+1)))] (r1 I) (.eqd ?_) ⟨I,I⟩ (SubO.get ⟨.inr ?_,⟨.inl I,O⟩⟩) (zak I);rotate_left 2;refine ar ?_;apply sq<;>intro h4 h4p h4s<;>(try simp only[Q] at h4p);refine ixq (i:=p) sl22 I I od (zan od) I ?_;refine evs [46,57,74,89,94,95,98] [] (xbv oy un3 .none I I ?_);refine evs [46,57,74,89,94,95,98] [] (xbQ .none I I I od ?_);refine evs [46,57,74,89,94,95,98] [] (rn [(900,some (rdB b (p+1)))] (r1 I) (.eqd ?_) ⟨I,I⟩ (SubO.get ⟨.inr ?_,⟨.inl I,O⟩⟩) (zak I));rotate_left 2;refine xbQ .none I I I od ?_;refine ixq (i:=p % b.length) sl22 I I (by rw[k1,hlen];rfl) (zan (Nat.mod_lt _ od)) I ?_;refine evd [46,57,74,89,94,95,98] [] (xbv oy un3 .none I I ?_);refine evd [46,57,74,89,94,95,98] [] (ar (ar (ar (xbQ .none I I I od ?_))));refine ixq (i:=(p*7+3) % b.length) sl22 I I (by rw[k1,hlen];rfl) (zan (Nat.mod_lt _ od)) I ?_;refine evd [46,57,74,89,94,95,98] [] (xbv oy un3 .none I I ?_);refine evd [46,57,74,89,94,95,98] [] (ar (ar (ar (ar (xbO .none I I I od ?_)))));refine evd [46,57,74,89,94,95,98] [] (ar (ar (dr (xbO .none I I I od ?_))));refine Walk.xorI .none I I I (evs [46,57,74,89,94,95,98] [] (xbQ .none I I I od ?_));refine evs [46,57,74,89,94,95,98] [] (rn [(900,some (rdB b (p+1)))] (r1 I) (.eqd ?_) ⟨I,I⟩ (SubO.get ⟨.inr ?_,⟨.inl I,O⟩⟩) (zak I));rotate_left 2;all_goals (first|((refine xam D.i ?_;unfold zad;first|(rw[if_pos od];done)|(rw[if_neg od,if_pos od];done)|(rw[if_neg od,if_neg od];rfl));done)|(rfl))
def numV (b:Str) (p:Nat) (l:List Int):Int:=nth l (zad b p l.length).toNat
theorem zbp {b:Str}{p:Nat}{l:List Int} (hb:b.length<=2000) (hp:p<=1000000000000) (hl:1<=l.length) (hl2:l.length<=1000):
  FnD Tryz.prog 152 [.ref 900 0,.d (zcP l)] [(900,some (rdB b p))] (.d (.i (numV b p l))) [(900,some (rdB b (p+1)))]:=by
 have hv:=zbo (b:=b) (p:=p) (n:=((l.map fun n=>[D.i n]).length:Int)) om;have hlen:((l.map fun n=>[D.i n]).length:Int)=l.length:=by simp
 refine bd Tryz.f152 12 [] [] fun _ _ _ _ hk=>?_;refine wd zbg (zaD hb hp om) I I ⟨I,O⟩ ?_;refine xbB (i:=(zad b p ((l.map fun n=>[D.i n]).length:Int)).toNat) zaZ .none I I I od (zan od) I ?_;refine ev (rn [(900,some (rdB b (p+1)))] (r1 I) (.eqd ?_) ⟨I,I⟩ (SubO.get ⟨.inr ?_,⟨.inl I,O⟩⟩) (zak I));rotate_left 2;all_goals (first|((refine xam D.i ?_;unfold numV;rw[hlen]);done)|(rfl))
def ofV (b:Str) (p:Nat) (l:List Str):Str:=nth l (zad b p l.length).toNat
theorem zij {b:Str}{p:Nat}{l:List Str} (hb:b.length<=2000) (hp:p<=1000000000000) (hl:1<=l.length) (hl2:l.length<=1000):
  FnD Tryz.prog 148 [.ref 900 0,.d (zb0 l)] [(900,some (rdB b p))] (.d (.str (ofV b p l))) [(900,some (rdB b (p+1)))]:=by
 have hv:=zbo (b:=b) (p:=p) (n:=((l.map fun n=>[D.str n]).length:Int)) om;have hlen:((l.map fun n=>[D.str n]).length:Int)=l.length:=by simp
 refine bd Tryz.f148 12 [] [] fun _ _ _ _ hk=>?_;refine wd zbg (zaD hb hp om) I I ⟨I,O⟩ ?_;refine xbB (i:=(zad b p ((l.map fun n=>[D.str n]).length:Int)).toNat) sl84 .none I I I od (zan od) I ?_;refine ev (rn [(900,some (rdB b (p+1)))] (r1 I) (.eqd ?_) ⟨I,I⟩ (SubO.get ⟨.inr ?_,⟨.inl I,O⟩⟩) (zak I));rotate_left 2;all_goals (first|((refine xam D.str ?_;unfold ofV;rw[hlen]);done)|(rfl))
theorem o9{p:Prop}(h:p:=by simp at *;omega):p:=h
theorem zg5 {b:Str} (hb:b.length<=1000000000000):FnD Tryz.prog 71 [.d (zbP b)] [] (.ref 900 0) [(900,some (rdB (b.take 2000) 0))]:=by
 refine bd Tryz.f71 11 [] [] fun _ _ _ _ hk=>?_;apply sq<;>intro h1 h1p h1s<;>(try simp only[Q] at h1p);refine Walk.cut_h (b:=2000) sl22 .none I I I (by intro x hx;obtain⟨y,_,rfl⟩:=List.mem_map.1 hx;rfl) I I o9 ?_;refine ev (bu [0] [_] ztn ?_);refine bx 900 ?_;refine ev ?_;focus (refine rn [(900,some (rdB (b.take 2000) 0))] (r1 I) (.refl _) ⟨I,I⟩ (SubH.get ⟨(by(simp[getH,rdB,zbP,List.map_take];done)),O⟩) (zak I);all_goals (rfl))
 refine bu [0] [_] ztn ?_;refine bx 900 ?_;refine ev ?_;focus (refine rn [(900,some (rdB (b.take 2000) 0))] (r1 I) (.refl _) ⟨I,I⟩ (SubH.get ⟨(by(show some (Res.box _)=some (Res.box _);rw[List.take_of_length_le o9];rfl)),O⟩) (zak I);all_goals ((simp[h1s,h1p];done)))
def zcu (n:Int):Bool:=decide (65<=n)&&decide (n<=90)
theorem zfZ {n:Int}:FnD Tryz.prog 226 [.d (.int .u8 n)] [] (.d (.bool (zcu n))) []:=by
 refine bd Tryz.f226 9 [] [] fun _ _ _ _ hk=>?_;apply sq<;>intro h1 h1p h1s;focus (refine rq ?_;all_goals ((simp[zcu,h1s,h1p];done)))
 focus (refine rq ?_;all_goals ((simp[zcu,h1s,h1p];done)))
theorem zjN {s:Str} (hs:s.length<=1000000000000):FnD Tryz.prog 227 [.d (.str s)] [] (.d (.bool (zcL s))) []:=by
 refine bd Tryz.f227 34 [] [] fun _ _ _ _ hk=>?_;apply sq<;>intro h1 h1p h1s<;>(try simp only[Q,zcu] at h1p);refine sqT ?_;refine sqT ?_;focus (refine rq ?_;all_goals ((rw[zis od];done)))
 apply sq<;>intro h3 h3p h3s<;>(try simp only[Q,zcu] at h3p);refine sqT ?_;focus (refine rq ?_;all_goals ((rw[zis od];done)))
 refine xbF (i:=0) un9 (.some I I h3) I I I I (xan od) ?_;refine Walk.call (cr:=[]) znG zfZ I (.some I I h3) I I (LeL.refl _) O I I I (evs [] [(12,false)] ?_ ⟨⟨_,I,h3⟩,O⟩);apply sq<;>intro h5 h5p h5s<;>(try simp only[Q,zcu] at h5p);focus (refine rq ?_;all_goals ((rw[zcb od];simp only[zba,h1s,h1p,h3s,h3p,h5s,h5p];simp;done)))
 refine xaA (ι:=Nat) hk (fun i=>[(3,.d (.i (i:Int)))]) [2,18,19,20,21,22,23,24,25,26,27,28,29,30,31,32,33] (fun i=>[]) (fun i=>1<=i/\i<=s.length/\zca (s.drop i)=zca (s.drop 1)) (fun i=>s.length-i) 1 ⟨by omega,by omega,I⟩ ⟨⟨_,I,xaK ?_⟩,O⟩ O (fun x=>rfl) (fun i hg1=>?_);focus (rfl)
 refine evc [] [] ?_;apply sq<;>intro h6 h6p h6s<;>(try simp only[Q,zcu] at h6p);refine xbF un9 .none I I I I (xan od) ?_;refine ev ?_;apply sq<;>intro h7 h7p h7s<;>(try simp only[Q,zcu] at h7p);refine sqT ?_;focus (refine rq ?_;all_goals ((rw[zcb od,<-hg1.2.2,zc0 od];simp[zaJ];omega)))
 refine xbF un9 (.some I I h7) I I I I (xan od) ?_;refine evs [] [(28,false)] ?_ ⟨⟨_,I,h7⟩,O⟩;apply sq<;>intro h9 h9p h9s<;>(try simp only[Q,zcu] at h9p);focus (refine rq ?_;all_goals ((rw[zcb od,<-hg1.2.2,zc0 od];simp[zaJ];omega)))
 refine ar (xaj (i+1) ⟨⟨by omega,by omega,by rw[<-hg1.2.2,zc0 (i:=i) od];simp[zaJ];omega⟩, ?_,sx ⟨⟨_,I,xaK ?_⟩,O⟩ O⟩);focus (omega)
 focus (rfl)
 focus (refine rq ?_;all_goals ((rw[zcb od,<-hg1.2.2,zi8 od];simp[zaC,zba];omega)))
theorem zmf {s:Str} (hs:s.length<=1000000000000):FnD Tryz.prog 139 [.d (.str s)] [] (.d (.bool (zbe s))) []:=by
 refine bd Tryz.f139 15 [] [] fun _ _ _ _ hk=>?_;apply sq<;>intro h1 h1p h1s;try simp only[Q] at h1p
 refine xbF (i:=0) un9 (.some I I h1) I I I I (xan od) ?_;refine Walk.call (cr:=[]) znG zfZ I (.some I I h1) I I (LeL.refl _) O I I I (evs [] [(6,true)] ?_ ⟨⟨_,I,h1⟩,O⟩);apply sq<;>intro h2 h2p h2s;try simp only[Q] at h2p
 focus (refine rq ?_;all_goals ((simp only[zbe,zk2 (s:=s) od,zba];simp only[zcu,xad,xah] at *;simp[*];done)))
 focus (refine rq ?_;all_goals ((simp only[zbe,zk2 (s:=s) od,zba];simp only[zcu,xad,xah] at *;simp[*];done)))
 refine sqF ?_;focus (refine rq ?_;all_goals ((simp[zbe,h1s,h1p];done)))
theorem zit {n:Nat}{a b:Int}:FnD Tryz.prog 228 [.d (.i n),.agg [.d (.i a),.d (.i b)]] [] (.d (.bool (zbH n ⟨a,b⟩))) []:=by
 refine bd Tryz.f228 30 [] [] fun _ _ _ _ hk=>?_;refine bx 3003 ?_;refine ev ?_;apply sq<;>intro h1 h1p h1s;try simp only[Q] at h1p
 focus (refine rq ?_;all_goals ((simp[zbH,zaC,h1s,h1p];done)))
 apply sq<;>intro h2 h2p h2s;try simp only[Q] at h2p
 apply sq<;>intro h3 h3p h3s<;>(try simp only[Q] at h3p);apply sq<;>intro h4 h4p h4s;try simp only[Q] at h4p
 focus (refine rq ?_;all_goals ((apply xam D.bool;rw[xat];simp[zbH,zaC];omega)))
 focus (refine rq ?_;all_goals ((simp[zbH,zaC,h1s,h1p,h2s,h2p,h3s,h3p,h4s,h4p];done)))
 refine sqF ?_;focus (refine rq ?_;all_goals ((apply xam D.bool;rw[xat];simp[zbH,zaC];omega)))
 refine sqF ?_;refine sqF ?_;focus (refine rq ?_;all_goals ((simp[zbH,zaC,h1s,h1p,h2s,h2p];done)))
theorem zmd {n:Nat}{s:Str}{args:List Ty}{k:Int} (hn:s.length<=1000000000000) (ha:args.length<=1000000000000):FnD Tryz.prog 140 [.d (.i n),.agg [.d (.str s),.d (zbU args),.d (.i k)]] [] (.d (.bool (zbz n ⟨s,args,k⟩))) []:=by
 refine bd Tryz.f140 41 [] [] fun _ _ _ _ hk=>?_;refine bx 3003 ?_;refine ev (wc zuT (zjN hn) I I ?_);refine ev ?_;apply sq<;>intro h1 h1p h1s;refine sqT ?_;refine sqT ?_;refine sqT ?_;focus (refine rq ?_;all_goals ((simp[zbz,h1s,h1p];done)))
 apply sq<;>intro h3 h3p h3s<;>(try simp only[Q] at h3p);refine sqT ?_;refine sqT ?_;focus (refine rq ?_;all_goals ((apply xam D.bool;simp[zbz,zaC];omega)))
 apply sq<;>intro h5 h5p h5s<;>(try simp only[Q] at h5p);refine sqT ?_;focus (refine rq ?_;all_goals ((apply xam D.bool;simp[zbz,zaC];omega)))
 apply sq<;>intro h7 h7p h7s<;>(try simp only[Q] at h7p);focus (refine rq ?_;all_goals ((apply xam D.bool;simp[zbz,zaC];omega)))
 refine xaA (ι:=List (Ty)×List (Ty)) hk (fun x=>[(5,.d (.i (x.1.length:Int)))]) [4,26,27,28,29,30,31,32,33,34,35,36,37,38,39,40] (fun x=>[]) (fun x=>x.1++x.2=args/\(x.2.any fun t=> !zbH n t)=args.any fun t=> !zbH n t) (fun x=>x.2.length) ([],args) ⟨by simp,I⟩ ⟨⟨_,I,xaK ?_⟩,O⟩ O (fun x=>rfl) (fun x hg1=>?_);focus (rfl)
 obtain⟨pre,rest⟩:=x;dsimp only at hg1 ⊢;refine evc [] [] ?_;apply sq<;>intro h8 h8p h8s<;>(try simp only[Q] at h8p);rcases rest with _|⟨y,rest⟩
 ·exfalso;simp_all
 refine ixq zaL I I I (zaE hg1.1) I (ev (wc zqP zit I I ?_));refine ev ?_;apply sq<;>intro h9 h9p h9s<;>(try simp only[Q] at h9p);focus (refine rq ?_;all_goals ((simp only[zbz];rw[<-hg1.2];simp[zaC,h1s,h1p,h3s,h3p,h5s,h5p,h7s,h7p,h8s,h8p,h9s,h9p];done)))
 refine ar (xaj ((pre++[y],rest)) ⟨⟨(by have hz:=hg1.1;rw[<-hz];simp),(by rw[<-hg1.2];simp[Ty.eta,h1s,h1p,h3s,h3p,h5s,h5p,h7s,h7p,h8s,h8p,h9s,h9p])⟩,oe,sx ⟨⟨_,I,xaK ?_⟩,O⟩ O⟩);focus ((simp;done))
 have hrest:rest=[]:=by
  rcases rest with _|⟨a,b⟩
  ·rfl
  ·exfalso;have hz:=xam List.length (hg1.1);simp only[xaa,xab,xac] at hz;omega
 subst hrest;focus (refine rq ?_;all_goals ((simp only[zbz];rw[<-hg1.2];simp[zaC,h1s,h1p,h3s,h3p,h5s,h5p,h7s,h7p,h8s,h8p];omega)))
theorem zlv {w:List Data}{d k:Nat} (hs:WSmall w) (hd:d<w.length):FnD Tryz.prog 141 [.d (zah w),.d (.i d),.d (.i k)] [] (.d (.bool (zlI w d k))) []:=by
 have hw:=hs.len;refine bd Tryz.f141 79 [] [] fun _ _ _ _ hk=>?_;refine xaA (ι:=Nat) hk (fun i=>[(7,.d (.i (i:Int)))]) [6,8,9,10,11,12,13,14,15,16,17,18,19,20,21,22,23,24,25,26,27,28,29,30,31,32,33,34,35,36,37,38,39,40,41,42,43,44,45,46,47,48,49,50,51,52,53,54,55,56,57,58,59,60,61,62,63,64,65,66,67,68,69,70,71,72,73,74,75,76,77,78] (fun i=>[]) (fun i=>i<=d+1/\∀i',i'<i->zdh w d k i'=false) (fun i=>d+1-i) 0 ⟨by omega,fun _ h=>absurd h od⟩ ⟨⟨_,I,xaK ?_⟩,O⟩ O (fun x=>rfl) (fun i hg1=>?_);focus (rfl)
 refine evc [] [] ?_;apply sq<;>intro h1 h1p h1s<;>(try simp only[Q,Int.ofNat_lt,Int.ofNat_le] at h1p);apply sq<;>intro h2 h2p h2s<;>(try simp only[Q,Int.ofNat_lt,Int.ofNat_le] at h2p);refine xbB sl23 (.some I I h2) I I I I (zan od) I ?_;refine evd [] [(17,true)] ?_ ⟨⟨_,I,h2⟩,O⟩;refine xbB sl23 (.some I I h2) I I I I (zan od) I ?_;refine evd [] [(17,true)] ?_ ⟨⟨_,I,h2⟩,O⟩;refine dr ?_;apply sq<;>intro h3 h3p h3s<;>(try simp only[Q,Int.ofNat_lt,Int.ofNat_le] at h3p);focus (refine rq ?_;all_goals ((refine xam D.bool (zcN (i:=i) od ?_).symm;simp[zdh,h1s,h1p,h2s,h2p,h3s,h3p];done)))
 refine xaA (ι:=Nat) hk (fun j=>[(8,.d (.i (j:Int)))]) [6,30,31,32,33,34,35,36,37,38,39,40,41,42,43,44,45,46,47,48,49,50,51,52,53,54,55,56,57,58,59,60,61,62,63,64,65,66,67,68,69,70,71,72,73,74,75,76,77,78] (fun j=>[]) (fun j=>j<=(nth w i).ctors.length/\∀j',j'<j->zbJ w d k i j'=false) (fun j=>(nth w i).ctors.length-j) 0 ⟨by omega,fun _ h=>absurd h od⟩ ⟨⟨_,I,xaK ?_⟩,O⟩ O (fun x=>rfl) (fun j hg2=>?_);focus (rfl)
 have hb:=hs.ctors i;refine evc [] [] (ixq sl23 I I I (zan od) I ?_);refine ev ?_;apply sq<;>intro h4 h4p h4s<;>(try simp only[Q,Int.ofNat_lt,Int.ofNat_le] at h4p);apply sq<;>intro h5 h5p h5s<;>(try simp only[Q,Int.ofNat_lt,Int.ofNat_le] at h5p);refine sqT ?_;refine ixq sl23 I I I (zan od) I ?_;refine evd [] [] ?_;apply sq<;>intro h7 h7p h7s<;>(try simp only[Q,Int.ofNat_lt,Int.ofNat_le] at h7p);refine xbB sl23 (.some I I h7) I I I I (zan od) I ?_;refine evd [] [(58,true)] ?_ ⟨⟨_,I,h7⟩,O⟩;refine xbB zbx (.some I I h7) I I I I (zan od) I ?_;refine evd [] [(58,true)] ?_ ⟨⟨_,I,h7⟩,O⟩;refine xbB sl23 (.some I I h7) I I I I (zan od) I ?_;refine evd [] [(58,true)] ?_ ⟨⟨_,I,h7⟩,O⟩;refine xbB zbx (.some I I h7) I I I I (zan od) I ?_;refine evd [] [(58,true)] ?_ ⟨⟨_,I,h7⟩,O⟩;refine dr ?_;apply sq<;>intro h8 h8p h8s<;>(try simp only[Q,Int.ofNat_lt,Int.ofNat_le] at h8p);focus (refine rq ?_;all_goals ((refine xam D.bool (zcN (i:=i) od ?_).symm;unfold zdh;rw[zcN (i:=j) od (by simp[zbJ,h1s,h1p,h2s,h2p,h3s,h3p,h4s,h4p,h5s,h5p,h7s,h7p,h8s,h8p])];simp;done)))
 refine ar (xaj (j+1) ⟨⟨by omega,zbb hg2.2 (by simp[zbJ,h1s,h1p,h2s,h2p,h3s,h3p,h4s,h4p,h5s,h5p,h7s,h7p,h8s,h8p];done)⟩,od,sx ⟨⟨_,I,xaK ?_⟩,O⟩ O⟩);focus (rfl)
 refine dr (sqF ?_);refine ar (xaj (j+1) ⟨⟨by omega,zbb hg2.2 (by simp[zbJ,h1s,h1p,h2s,h2p,h3s,h3p,h4s,h4p,h5s,h5p,h7s,h7p];done)⟩,od,sx ⟨⟨_,I,xaK ?_⟩,O⟩ O⟩);focus (rfl)
 apply sq<;>intro h10 h10p h10s<;>(try simp only[Q,Int.ofNat_lt,Int.ofNat_le] at h10p);refine ixq sl23 I I I (zan od) I ?_;refine evd [] [] ?_;apply sq<;>intro h11 h11p h11s<;>(try simp only[Q,Int.ofNat_lt,Int.ofNat_le] at h11p);refine xbB sl23 (.some I I h11) I I I I (zan od) I ?_;refine evd [] [(58,true)] ?_ ⟨⟨_,I,h11⟩,O⟩;refine xbB zbx (.some I I h11) I I I I (zan od) I ?_;refine evd [] [(58,true)] ?_ ⟨⟨_,I,h11⟩,O⟩;refine xbB sl23 (.some I I h11) I I I I (zan od) I ?_;refine evd [] [(58,true)] ?_ ⟨⟨_,I,h11⟩,O⟩;refine xbB zbx (.some I I h11) I I I I (zan od) I ?_;refine evd [] [(58,true)] ?_ ⟨⟨_,I,h11⟩,O⟩;refine dr ?_;apply sq<;>intro h12 h12p h12s<;>(try simp only[Q,Int.ofNat_lt,Int.ofNat_le] at h12p);focus (refine rq ?_;all_goals ((exfalso;omega)))
 refine ar (xaj (j+1) ⟨⟨by omega,zbb hg2.2 (by simp[zbJ,h1s,h1p,h2s,h2p,h3s,h3p,h4s,h4p,h5s,h5p,h10s,h10p,h11s,h11p,h12s,h12p];done)⟩,od,sx ⟨⟨_,I,xaK ?_⟩,O⟩ O⟩);focus (rfl)
 refine dr (sqF ?_);refine ar (xaj (j+1) ⟨⟨by omega,zbb hg2.2 (by simp[zbJ,h1s,h1p,h2s,h2p,h3s,h3p,h4s,h4p,h5s,h5p,h10s,h10p,h11s,h11p];done)⟩,od,sx ⟨⟨_,I,xaK ?_⟩,O⟩ O⟩);focus (rfl)
 refine ar (xaj (i+1) ⟨⟨by omega,zbb hg1.2 (zg3 (by simp[h1s,h1p,h2s,h2p,h3s,h3p,h4s,h4p,h5s,h5p,h10s,h10p]) hg2.2 (fun hj=>by omega))⟩,od,sx ⟨⟨_,I,xaK ?_⟩,O⟩ O⟩);focus (rfl)
 refine sqF ?_;refine ar (xaj (i+1) ⟨⟨by omega,zbb hg1.2 (zg3 (by simp[h1s,h1p,h2s,h2p,h3s,h3p,h4s,h4p]) hg2.2 (fun hj=>by omega))⟩,od,sx ⟨⟨_,I,xaK ?_⟩,O⟩ O⟩);focus (rfl)
 refine dr (sqF ?_);refine xaA (ι:=Nat) hk (fun j=>[(8,.d (.i (j:Int)))]) [6,30,31,32,33,34,35,36,37,38,39,40,41,42,43,44,45,46,47,48,49,50,51,52,53,54,55,56,57,58,59,60,61,62,63,64,65,66,67,68,69,70,71,72,73,74,75,76,77,78] (fun j=>[]) (fun j=>j<=(nth w i).ctors.length/\∀j',j'<j->zbJ w d k i j'=false) (fun j=>(nth w i).ctors.length-j) 0 ⟨by omega,fun _ h=>absurd h od⟩ ⟨⟨_,I,xaK ?_⟩,O⟩ O (fun x=>rfl) (fun j hg2=>?_);focus (rfl)
 have hb:=hs.ctors i;refine evc [] [] (ixq sl23 I I I (zan od) I ?_);refine ev ?_;apply sq<;>intro h16 h16p h16s<;>(try simp only[Q,Int.ofNat_lt,Int.ofNat_le] at h16p);apply sq<;>intro h17 h17p h17s<;>(try simp only[Q,Int.ofNat_lt,Int.ofNat_le] at h17p);refine sqT ?_;refine ixq sl23 I I I (zan od) I ?_;refine evd [] [] ?_;apply sq<;>intro h19 h19p h19s<;>(try simp only[Q,Int.ofNat_lt,Int.ofNat_le] at h19p);refine xbB sl23 (.some I I h19) I I I I (zan od) I ?_;refine evd [] [(58,true)] ?_ ⟨⟨_,I,h19⟩,O⟩;refine xbB zbx (.some I I h19) I I I I (zan od) I ?_;refine evd [] [(58,true)] ?_ ⟨⟨_,I,h19⟩,O⟩;refine xbB sl23 (.some I I h19) I I I I (zan od) I ?_;refine evd [] [(58,true)] ?_ ⟨⟨_,I,h19⟩,O⟩;refine xbB zbx (.some I I h19) I I I I (zan od) I ?_;refine evd [] [(58,true)] ?_ ⟨⟨_,I,h19⟩,O⟩;refine dr ?_;apply sq<;>intro h20 h20p h20s<;>(try simp only[Q,Int.ofNat_lt,Int.ofNat_le] at h20p);focus (refine rq ?_;all_goals ((exfalso;omega)))
 refine ar (xaj (j+1) ⟨⟨by omega,zbb hg2.2 (by simp[zbJ,h1s,h1p,h2s,h2p,h16s,h16p,h17s,h17p,h19s,h19p,h20s,h20p];done)⟩,od,sx ⟨⟨_,I,xaK ?_⟩,O⟩ O⟩);focus (rfl)
 refine dr (sqF ?_);refine ar (xaj (j+1) ⟨⟨by omega,zbb hg2.2 (by simp[zbJ,h1s,h1p,h2s,h2p,h16s,h16p,h17s,h17p,h19s,h19p];done)⟩,od,sx ⟨⟨_,I,xaK ?_⟩,O⟩ O⟩);focus (rfl)
 apply sq<;>intro h22 h22p h22s<;>(try simp only[Q,Int.ofNat_lt,Int.ofNat_le] at h22p);refine ixq sl23 I I I (zan od) I ?_;refine evd [] [] ?_;apply sq<;>intro h23 h23p h23s<;>(try simp only[Q,Int.ofNat_lt,Int.ofNat_le] at h23p);refine xbB sl23 (.some I I h23) I I I I (zan od) I ?_;refine evd [] [(58,true)] ?_ ⟨⟨_,I,h23⟩,O⟩;refine xbB zbx (.some I I h23) I I I I (zan od) I ?_;refine evd [] [(58,true)] ?_ ⟨⟨_,I,h23⟩,O⟩;refine xbB sl23 (.some I I h23) I I I I (zan od) I ?_;refine evd [] [(58,true)] ?_ ⟨⟨_,I,h23⟩,O⟩;refine xbB zbx (.some I I h23) I I I I (zan od) I ?_;refine evd [] [(58,true)] ?_ ⟨⟨_,I,h23⟩,O⟩;refine dr ?_;apply sq<;>intro h24 h24p h24s<;>(try simp only[Q,Int.ofNat_lt,Int.ofNat_le] at h24p);focus (refine rq ?_;all_goals ((refine xam D.bool (zcN (i:=i) od ?_).symm;unfold zdh;rw[zcN (i:=j) od (by simp[zbJ,h1s,h1p,h2s,h2p,h16s,h16p,h17s,h17p,h22s,h22p,h23s,h23p,h24s,h24p])];simp;done)))
 refine ar (xaj (j+1) ⟨⟨by omega,zbb hg2.2 (by simp[zbJ,h1s,h1p,h2s,h2p,h16s,h16p,h17s,h17p,h22s,h22p,h23s,h23p,h24s,h24p];done)⟩,od,sx ⟨⟨_,I,xaK ?_⟩,O⟩ O⟩);focus (rfl)
 refine dr (sqF ?_);refine ar (xaj (j+1) ⟨⟨by omega,zbb hg2.2 (by simp[zbJ,h1s,h1p,h2s,h2p,h16s,h16p,h17s,h17p,h22s,h22p,h23s,h23p];done)⟩,od,sx ⟨⟨_,I,xaK ?_⟩,O⟩ O⟩);focus (rfl)
 refine ar (xaj (i+1) ⟨⟨by omega,zbb hg1.2 (zg3 (by simp[h1s,h1p,h2s,h2p,h16s,h16p,h17s,h17p,h22s,h22p]) hg2.2 (fun hj=>by omega))⟩,od,sx ⟨⟨_,I,xaK ?_⟩,O⟩ O⟩);focus (rfl)
 refine sqF ?_;refine ar (xaj (i+1) ⟨⟨by omega,zbb hg1.2 (zg3 (by simp[h1s,h1p,h2s,h2p,h16s,h16p]) hg2.2 (fun hj=>by omega))⟩,od,sx ⟨⟨_,I,xaK ?_⟩,O⟩ O⟩);focus (rfl)
 focus (refine rq ?_;all_goals ((refine xam D.bool (zeW (fun x hx=>hg1.2 x (Nat.lt_of_lt_of_le hx ?_))).symm;omega)))
theorem zsR {w:List Data} (h:w.length<=4) (h2:∀i,i<w.length->zcm w i=true):zbl w=true:=by
 unfold zbl;rw[zdo h2];simp[h]
theorem zuc {w:List Data} (h:4<w.length):zbl w=false:=by
 unfold zbl;rw[xaw od];rfl
theorem zfS {w:List Data}{i:Nat} (h:i<w.length) (h2:zcm w i=false):zbl w=false:=by
 unfold zbl;rw[zc1 h h2];simp
theorem znc {w:List Data}{d:Nat} (h:zbe (nth w d).name=true) (h1:1<=(nth w d).ctors.length) (h2:(nth w d).ctors.length<=4) (h3:∀k,k<(nth w d).ctors.length->zeb w d k=true):zcm w d=true:=by
 unfold zcm;rw[h,zdo h3];simp[h1,h2]
theorem zfO {w:List Data} (hs:WSmall w):FnD Tryz.prog 68 [.d (zah w)] [] (.d (.bool (zbl w))) []:=by
 have hw:=hs.len;refine bd Tryz.f68 67 [] [] fun _ _ _ _ hk=>?_;apply sq<;>intro h1 h1p h1s<;>(try simp only[Q,Int.ofNat_lt,Int.ofNat_le] at h1p);focus (refine rq ?_;all_goals ((refine xam D.bool (zuc ?_).symm;omega)))
 refine xaA (ι:=Nat) hk (fun i=>[(3,.d (.i (i:Int)))]) [2,4,8,9,10,11,12,13,14,15,16,17,18,19,20,21,22,23,24,25,26,27,28,29,30,31,32,33,34,35,36,37,38,39,40,41,42,43,44,45,46,47,48,49,50,51,52,53,54,55,56,57,58,59,60,61,62,63,64,65,66] (fun i=>[]) (fun i=>i<=w.length/\∀i',i'<i->zcm w i'=true) (fun i=>w.length-i) 0 ⟨by omega,fun _ h=>absurd h od⟩ ⟨⟨_,I,xaK ?_⟩,O⟩ O (fun x=>rfl) (fun i hg1=>?_);focus (rfl)
 refine evc [] [] ?_;apply sq<;>intro h2 h2p h2s<;>(try simp only[Q,Int.ofNat_lt,Int.ofNat_le] at h2p);refine ixq sl23 I I I (zan od) I ?_;refine ev (wc zuv (zmf (hs.data _ (zam od)).1) I I ?_);refine ev ?_;apply sq<;>intro h3 h3p h3s<;>(try simp only[Q,Int.ofNat_lt,Int.ofNat_le] at h3p);refine sqT ?_;refine sqT ?_;focus (refine rq ?_;all_goals ((refine xam D.bool (zfS (i:=i) od ?_).symm;simp[zcm,h1s,h1p,h2s,h2p,h3s,h3p];done)))
 refine xbB sl23 (.some I I h3) I I I I (zan od) I ?_;refine evs [] [(21,false)] ?_ ⟨⟨_,I,h3⟩,O⟩;apply sq<;>intro h5 h5p h5s<;>(try simp only[Q,Int.ofNat_lt,Int.ofNat_le] at h5p);refine sqT ?_;focus (refine rq ?_;all_goals ((refine xam D.bool (zfS (i:=i) od ?_).symm;unfold zcm;rw[xaw (p:=1<=(nth w i).ctors.length) od];simp;done)))
 refine xbB sl23 (.some I I h5) I I I I (zan od) I ?_;refine evs [] [(30,false)] ?_ ⟨⟨_,I,h5⟩,O⟩;apply sq<;>intro h7 h7p h7s<;>(try simp only[Q,Int.ofNat_lt,Int.ofNat_le] at h7p);focus (refine rq ?_;all_goals ((refine xam D.bool (zfS (i:=i) od ?_).symm;unfold zcm;rw[xaw (p:=(nth w i).ctors.length<=4) od];simp;done)))
 refine xaA (ι:=Nat) hk (fun k=>[(4,.d (.i (k:Int)))]) [2,39,40,41,42,43,44,45,46,47,48,49,50,51,52,53,54,55,56,57,58,59,60,61,62,63,64,65,66] (fun k=>[]) (fun k=>k<=(nth w i).ctors.length/\∀k',k'<k->zeb w i k'=true) (fun k=>(nth w i).ctors.length-k) 0 ⟨by omega,fun _ h=>absurd h od⟩ ⟨⟨_,I,xaK ?_⟩,O⟩ O (fun x=>rfl) (fun k hg2=>?_);focus (rfl)
 have hb:=hs.ctors i;refine evc [] [] (ixq sl23 I I I (zan od) I ?_);refine ev ?_;apply sq<;>intro h8 h8p h8s<;>(try simp only[Q,Int.ofNat_lt,Int.ofNat_le] at h8p);refine ixq sl23 I I I (zan od) I ?_;refine ev (ixq zbx I I I (zan od) I ?_);refine ev (wc zuw (zmd (hs.ctor _ (zam (i:=i) od) _ (zam (i:=k) od)).1 (hs.ctor _ (zam (i:=i) od) _ (zam (i:=k) od)).2) I I ?_);refine ev ?_;apply sq<;>intro h9 h9p h9s<;>(try simp only[Q,Int.ofNat_lt,Int.ofNat_le] at h9p);refine sqT ?_;focus (refine rq ?_;all_goals ((refine xam D.bool (zfS (i:=i) od ?_).symm;unfold zcm;rw[zc1 (i:=k) od (by simp[zeb,xaG,h1s,h1p,h2s,h2p,h3s,h3p,h5s,h5p,h7s,h7p,h8s,h8p,h9s,h9p])];simp;done)))
 refine Walk.call (cr:=[]) zux (zlv hs od) I (.some I I h9) I I (LeL.refl _) O I I I ?_;refine evs [] [(61,false)] ?_ ⟨⟨_,I,h9⟩,O⟩;apply sq<;>intro h11 h11p h11s<;>(try simp only[Q,Int.ofNat_lt,Int.ofNat_le] at h11p);focus (refine rq ?_;all_goals ((refine xam D.bool (zfS (i:=i) od ?_).symm;unfold zcm;rw[zc1 (i:=k) od (by simp[zeb,xaG,h1s,h1p,h2s,h2p,h3s,h3p,h5s,h5p,h7s,h7p,h8s,h8p,h9s,h9p,h11s,h11p])];simp;done)))
 refine ar (xaj (k+1) ⟨⟨by omega,zbb hg2.2 (by simp[zeb,xaG,h1s,h1p,h2s,h2p,h3s,h3p,h5s,h5p,h7s,h7p,h8s,h8p,h9s,h9p,h11s,h11p];done)⟩,od,sx ⟨⟨_,I,xaK ?_⟩,O⟩ O⟩);focus (rfl)
 refine ar (xaj (i+1) ⟨⟨by omega,zbb hg1.2 (znc (by simp[h1s,h1p,h2s,h2p,h3s,h3p,h5s,h5p,h7s,h7p,h8s,h8p]) od od (fun x hx=>hg2.2 x od))⟩,od,sx ⟨⟨_,I,xaK ?_⟩,O⟩ O⟩);focus (rfl)
 focus (refine rq ?_;all_goals ((refine xam D.bool (zsR ?_ (fun x hx=>hg1.2 x (Nat.lt_of_lt_of_le hx ?_))).symm<;>omega)))
structure CSmall (l:List Ctor):Prop where
 len:l.length<=1000000000000
 ctor:∀c∈l,c.name.length<=1000000000000/\c.args.length<=1000000000000
theorem WSmall.cs {w:List Data} (h:WSmall w){d:Data} (hd:d∈w):CSmall d.ctors:=⟨(h.data d hd).2,h.ctor d hd⟩
def fits (c:Ctor) (k:Int):Bool:=decide (k=0)||(decide (c.index=0)||decide (c.index=k))
def zaY (k:Int):Nat->List Ctor->List Int
 |_,[]=>[]
 |i,c::r=>if fits c k then (i:Int)::zaY k (i+1) r else zaY k (i+1) r
def zcG (k:Int) (t:Ty):Ty:=if t.index = -1 then ⟨t.data,k⟩ else t
def zcy (c:Ctor) (k:Int):Int:=if c.index=0 then k else c.index
theorem zfV (k:Int):∀(l:List Ctor) (i:Nat),(zaY k i l).length<=l.length
 | [],_=>by simp[zaY]
 |c::r,i=>by
  have:=zfV k r (i+1);unfold zaY;split<;>simp<;>omega
theorem zix {w:List Data}{k:Int}:FnD Tryz.prog 236 [.d (zah w),.agg [.d (.i (-1)),.d (.i k)]] [] (.d (zcP [])) []:=by
 refine bd Tryz.f236 44 [5] [] fun _ _ _ _ hk=>?_;refine bx 3003 ?_;refine evs [5] [] (xbl 1 1 .none I I ?_);apply tv;apply sq<;>intro h1 h1p h1s<;>(try simp only[Q] at h1p);exact absurd h1 oe

 focus (refine rn0 (r1 I) (.gld ?_);all_goals (rfl))
theorem zk4 {w:List Data}{d:Nat}{k:Int} (hs:WSmall w) (hd:d<w.length):FnD Tryz.prog 236 [.d (zah w),.agg [.d (.i d),.d (.i k)]] [] (.d (zcP (zaY k 0 (nth w d).ctors))) []:=by
 have hb:=hs.ctors d;refine bd Tryz.f236 44 [5] [] fun _ _ _ _ hk=>?_;refine bx 3003 ?_;refine evs [5] [] (xbl 1 1 .none I I ?_);apply tv;apply sq<;>intro h1 h1p h1s<;>(try simp only[Q] at h1p);refine ixq sl23 I I I (zan hd) I (evs [5] [] (xaA (ι:=List (Ctor)×List (Ctor)×(List Int)) hk (fun x=>[(18,.d (.i (x.1.length:Int))),(5,.gl 1 (x.2.2.map fun n=>[D.i n]))]) [6,7,19,20,21,22,23,24,25,26,27,28,29,30,31,32,33,34,35,36,37,38,39,40,41,42] (fun x=>[(1,some (.tok ((x.2.2.map fun n=>[D.i n])).length 1))]) (fun x=>x.1++x.2.1=(nth w d).ctors/\x.2.2++zaY k x.1.length x.2.1=zaY k 0 (nth w d).ctors/\x.2.2.length<=x.1.length) (fun x=>x.2.1.length) ([],(nth w d).ctors,[]) ⟨by simp,by simp,by simp⟩ ⟨⟨_,I,xaK ?_⟩,⟨⟨_,I,LeA.glg ?_⟩,O⟩⟩ ⟨zag ?_,O⟩ (fun x=>rfl) (fun x hg1=>?_)));iterate 3 focus (rfl)
 obtain⟨pre,rest,acc⟩:=x;dsimp only at hg1 ⊢;refine evc [5] [] ?_;apply sq<;>intro h2 h2p h2s<;>(try simp only[Q] at h2p);rcases rest with _|⟨y,rest⟩
 ·exfalso;simp_all
 refine ixq zbx I I I (zaE hg1.1) I (evs [5] [] (ab 3007 zfh ?_));refine evs [5] [] (so zcK ?_);apply tv;apply sq<;>intro h3 h3p h3s<;>(try simp only[Q] at h3p);refine sqT ?_;refine sqT ?_;refine si [0] [_] zaZ tz3 ?_;refine ap zaZ zz3 I I I oe (by have hl:=hg1.2.2;simp;omega) ?_;refine asg ?_;apply tv;refine ar (xaj ((pre++[y],rest,if fits y k then acc++[(pre.length:Int)] else acc)) ⟨⟨(by have hz:=hg1.1;rw[<-hz];simp),⟨by rw[<-hg1.2.1];by_cases hf:fits y k=true<;>simp[zaY,hf],by split<;>simp<;>omega⟩⟩,oe,sx ⟨⟨_,I,xaK ?_⟩,⟨⟨_,I,LeA.glg ?_⟩,O⟩⟩ ⟨zag ?_,O⟩⟩);iterate 3 focus ((simp[fits,h1s,h1p,h2s,h2p,h3s,h3p];done))
 apply sq<;>intro h5 h5p h5s<;>(try simp only[Q] at h5p);refine sqT ?_;refine si [0] [_] zaZ tz3 ?_;refine ap zaZ zz3 I I I oe (by have hl:=hg1.2.2;simp;omega) ?_;refine asg ?_;apply tv;refine ar (xaj ((pre++[y],rest,if fits y k then acc++[(pre.length:Int)] else acc)) ⟨⟨(by have hz:=hg1.1;rw[<-hz];simp),⟨by rw[<-hg1.2.1];by_cases hf:fits y k=true<;>simp[zaY,hf],by split<;>simp<;>omega⟩⟩,oe,sx ⟨⟨_,I,xaK ?_⟩,⟨⟨_,I,LeA.glg ?_⟩,O⟩⟩ ⟨zag ?_,O⟩⟩);iterate 3 focus ((simp[fits,h1s,h1p,h2s,h2p,h3s,h3p,h5s,h5p];done))
 apply sq<;>intro h7 h7p h7s<;>(try simp only[Q] at h7p);refine si [0] [_] zaZ tz3 ?_;refine ap zaZ zz3 I I I oe (by have hl:=hg1.2.2;simp;omega) ?_;refine asg ?_;apply tv;refine ar (xaj ((pre++[y],rest,if fits y k then acc++[(pre.length:Int)] else acc)) ⟨⟨(by have hz:=hg1.1;rw[<-hz];simp),⟨by rw[<-hg1.2.1];by_cases hf:fits y k=true<;>simp[zaY,hf],by split<;>simp<;>omega⟩⟩,oe,sx ⟨⟨_,I,xaK ?_⟩,⟨⟨_,I,LeA.glg ?_⟩,O⟩⟩ ⟨zag ?_,O⟩⟩);iterate 3 focus ((simp[fits,h1s,h1p,h2s,h2p,h3s,h3p,h5s,h5p,h7s,h7p];done))
 refine ar (xaj ((pre++[y],rest,if fits y k then acc++[(pre.length:Int)] else acc)) ⟨⟨(by have hz:=hg1.1;rw[<-hz];simp),⟨by rw[<-hg1.2.1];by_cases hf:fits y k=true<;>simp[zaY,hf],by split<;>simp<;>omega⟩⟩,oe,sx ⟨⟨_,I,xaK ?_⟩,⟨⟨_,I,LeA.glg ?_⟩,O⟩⟩ ⟨zag ?_,O⟩⟩);iterate 3 focus ((simp[fits,h1s,h1p,h2s,h2p,h3s,h3p,h5s,h5p,h7s,h7p];done))
 have hrest:rest=[]:=by
  rcases rest with _|⟨a,b⟩
  ·rfl
  ·exfalso;have hz:=xam List.length (hg1.1);simp only[xaa,xab,xac] at hz;omega
 subst hrest;refine rn0 (r1 I) (.gld ?_);rotate_left;exfalso;simp at h1<;>omega;all_goals (have e:=hg1.2.1;simp only[zaY,xaq] at e;rw[e])
theorem zmh {s:Str}{l:List Ty}{i k:Int}:FnD Tryz.prog 287 [.agg [.d (.str s),.d (zbU l),.d (.i i)],.d (.i k)] [] (.d (.bool (fits ⟨s,l,i⟩ k))) []:=by
 refine bd Tryz.f287 18 [] [] fun _ _ _ _ hk=>?_;refine bx 3002 ?_;refine ev ?_;apply sq<;>intro h1 h1p h1s<;>(try simp only[Q] at h1p);refine sqT ?_;focus (refine rq ?_;all_goals (refine xam D.bool ?_;simp[fits,h1s,h1p]))
 apply sq<;>intro h2 h2p h2s<;>(try simp only[Q] at h2p);focus (refine rq ?_;all_goals (refine xam D.bool ?_;simp[fits,h1s,h1p,h2s,h2p]))
 focus (refine rq ?_;all_goals (refine xam D.bool ?_;simp[fits,h1s,h1p,h2s,h2p]))
theorem ziD {w:List Data}{k:Int}:FnD Tryz.prog 243 [.d (zah w),.agg [.d (.i (-1)),.d (.i k)]] [] (.d (zcP [])) []:=by
 refine bd Tryz.f243 40 [] [] fun _ _ _ _ hk=>?_;refine bx 3003 ?_;refine ev (xbS 1 zaZ .none I I (ev ?_));apply sq<;>intro h1 h1p h1s<;>(try simp only[Q] at h1p)

 focus (refine rn0 (r1 I) (.gld ?_);all_goals (rfl))
 exact absurd h1 oe
theorem zln {w:List Data}{d:Nat}{k:Int} (hs:WSmall w) (hd:d<w.length):FnD Tryz.prog 243 [.d (zah w),.agg [.d (.i d),.d (.i k)]] [] (.d (zcP (zaY k 0 (nth w d).ctors))) []:=by
 have hb:=hs.ctors d;refine bd Tryz.f243 40 [] [] fun _ _ _ _ hk=>?_;refine bx 3003 ?_;refine ev (xbS 1 zaZ .none I I (ev ?_));apply sq<;>intro h1 h1p h1s<;>(try simp only[Q] at h1p);exfalso;simp at h1<;>omega;refine xaA (ι:=List (Ctor)×List (Ctor)×(List Int)) hk (fun x=>[(6,.d (.i (x.1.length:Int))),(5,.gl 1 (x.2.2.map fun n=>[D.i n]))]) [12,13,14,15,16,17,18,19,20,21,22,23,24,25,26,27,28,29,30,31,32,33,34,35,36,37,38] (fun x=>[(1,some (.tok ((x.2.2.map fun n=>[D.i n])).length 1))]) (fun x=>x.1++x.2.1=(nth w d).ctors/\x.2.2++zaY k x.1.length x.2.1=zaY k 0 (nth w d).ctors/\x.2.2.length<=x.1.length) (fun x=>x.2.1.length) ([],(nth w d).ctors,[]) ⟨by simp,by simp,by simp⟩ ⟨⟨_,I,xaK ?_⟩,⟨⟨_,I,LeA.glg ?_⟩,O⟩⟩ ⟨zag ?_,O⟩ (fun x=>rfl) (fun x hg1=>?_);iterate 3 focus (rfl)
 obtain⟨pre,rest,acc⟩:=x;dsimp only at hg1 ⊢;refine evc [] [] (ixq sl23 I I I (zan hd) I (ev ?_));apply sq<;>intro h2 h2p h2s<;>(try simp only[Q] at h2p);rcases rest with _|⟨y,rest⟩
 ·exfalso;simp_all
 refine ixq sl23 I I I (zan hd) I (evd [] [] (ixq zbx I I I (zaE hg1.1) I (evd [] [] (wc zu9 zmh I I ?_))));refine dr ?_;apply sq<;>intro h3 h3p h3s<;>(try simp only[Q] at h3p);refine si [0] [_] zaZ tz3 ?_;refine ap zaZ zz3 I I I oe (by have hl:=hg1.2.2;simp;omega) ?_;refine ev (ar (xaj ((pre++[y],rest,if fits y k then acc++[(pre.length:Int)] else acc)) ⟨⟨(by have hz:=hg1.1;rw[<-hz];simp),⟨by rw[<-hg1.2.1];by_cases hf:fits y k=true<;>simp[zaY,hf],by split<;>simp<;>omega⟩⟩,oe,sx ⟨⟨_,I,xaK ?_⟩,⟨⟨_,I,LeA.glg ?_⟩,O⟩⟩ ⟨zag ?_,O⟩⟩));iterate 3 focus ((simp[xaG,h1s,h1p,h2s,h2p,h3s,h3p];done))
 refine ar (xaj ((pre++[y],rest,if fits y k then acc++[(pre.length:Int)] else acc)) ⟨⟨(by have hz:=hg1.1;rw[<-hz];simp),⟨by rw[<-hg1.2.1];by_cases hf:fits y k=true<;>simp[zaY,hf],by split<;>simp<;>omega⟩⟩,oe,sx ⟨⟨_,I,xaK ?_⟩,⟨⟨_,I,LeA.glg ?_⟩,O⟩⟩ ⟨zag ?_,O⟩⟩);iterate 3 focus ((simp[xaG,h1s,h1p,h2s,h2p,h3s,h3p];done))
 have hrest:rest=[]:=by
  rcases rest with _|⟨a,b⟩
  ·rfl
  ·exfalso;have hz:=xam List.length (hg1.1);simp only[xaa,xab,xac] at hz;omega
 subst hrest;refine rn0 (r1 I) (.gld ?_);rotate_left;all_goals (have e:=hg1.2.1;simp only[zaY,xaq] at e;rw[e])
theorem zks {s:Str}{l:List Ty}{i k:Int}:FnD Tryz.prog 239 [.agg [.d (.str s),.d (zbU l),.d (.i i)],.d (.i k)] [] (.d (.i (zcy ⟨s,l,i⟩ k))) []:=by
 refine bd Tryz.f239 11 [] [] fun _ _ _ _ hk=>?_;refine bx 3002 ?_;refine ev ?_;apply sq<;>intro h1 h1p h1s<;>(try simp only[Q] at h1p);focus (refine rq ?_;all_goals (refine xam D.i ?_;simp[zcy,h1s,h1p]))
 focus (refine rq ?_;all_goals (refine xam D.i ?_;simp[zcy,h1s,h1p]))
theorem zka {w:List Data}{d c:Nat}{k:Int} (hs:WSmall w) (hd:d<w.length) (hc:c<(nth w d).ctors.length):FnD Tryz.prog 237 [.d (zah w),.agg [.d (.i d),.d (.i k)],.d (.i c)] [] (.d (zbU ((nth (nth w d).ctors c).args.map (zcG (zcy (nth (nth w d).ctors c) k))))) []:=by
 have hb:=(hs.ctor _ (zam hd) _ (zam hc)).2;refine bd Tryz.f237 45 [9] [] fun _ _ _ _ hk=>?_;refine bx 3004 ?_;refine evs [9] [] (ixq sl23 I I I (zan hd) I (evs [9] [] (ixq zbx I I I (zan hc) I (evs [9] [] (ab 3007 zfh ?_)))));refine so zcK ?_;apply tv;apply sq<;>intro h1 h1p h1s<;>(try simp only[Q] at h1p);refine xbl 1 2 .none I I ?_;apply tv;refine xaA (ι:=List (Ty)×List (Ty)) hk (fun x=>[(30,.d (.i (x.1.length:Int))),(9,.gl 1 ((x.1.map (zcG (zcy (nth (nth w d).ctors c) k))).map Ty.c))]) [11,31,32,33,34,35,36,37,38,39,40,41,42,43] (fun x=>[(1,some (.tok (((x.1.map (zcG (zcy (nth (nth w d).ctors c) k))).map Ty.c)).length 2))]) (fun x=>x.1++x.2=(nth (nth w d).ctors c).args) (fun x=>x.2.length) ([],(nth (nth w d).ctors c).args) oe ⟨⟨_,I,xaK ?_⟩,⟨⟨_,I,LeA.glg ?_⟩,O⟩⟩ ⟨zag ?_,O⟩ (fun x=>rfl) (fun x hg1=>?_);iterate 3 focus (rfl)
 obtain⟨pre,rest⟩:=x;dsimp only at hg1 ⊢;refine evc [9] [] ?_;apply sq<;>intro h2 h2p h2s<;>(try simp only[Q] at h2p);rcases rest with _|⟨y,rest⟩
 ·exfalso;simp_all
 refine ixq zaL I I I (zaE hg1) I (evs [9] [] (ab 3011 tz38 ?_));refine so ty38 ?_;apply tv;apply sq<;>intro h3 h3p h3s<;>(try simp only[Q] at h3p);refine so ty3 ?_;apply tv;refine si [0] [_] zaL tz38 ?_;refine ap zaL zz38 I I I oe (by have hl:=xam List.length hg1;simp at hl;simp;omega) ?_;refine asg ?_;apply tv;refine ar (xaj ((pre++[y],rest)) ⟨(by have hz:=hg1;rw[<-hz];simp),oe,sx ⟨⟨_,I,xaK ?_⟩,⟨⟨_,I,LeA.glg ?_⟩,O⟩⟩ ⟨zag ?_,O⟩⟩);iterate 3 focus ((simp[zcG,zcy,h1s,h1p,h2s,h2p,h3s,h3p];done))
 refine si [0] [_] zaL tz38 ?_;refine ap zaL zz38 I I I oe (by have hl:=xam List.length hg1;simp at hl;simp;omega) ?_;refine asg ?_;apply tv;refine ar (xaj ((pre++[y],rest)) ⟨(by have hz:=hg1;rw[<-hz];simp),oe,sx ⟨⟨_,I,xaK ?_⟩,⟨⟨_,I,LeA.glg ?_⟩,O⟩⟩ ⟨zag ?_,O⟩⟩);iterate 3 focus ((simp[zcG,zcy,h1s,h1p,h2s,h2p,h3s,h3p];done))
 have hrest:rest=[]:=by
  rcases rest with _|⟨a,b⟩
  ·rfl
  ·exfalso;have hz:=xam List.length (hg1);simp only[xaa,xab,xac] at hz;omega
 subst hrest;focus (refine rn0 (r1 I) (.gld ?_);all_goals (simp[<-hg1,zcy,h1s,h1p,h2s,h2p]))
 refine xbl 1 2 .none I I ?_;apply tv;refine xaA (ι:=List (Ty)×List (Ty)) hk (fun x=>[(30,.d (.i (x.1.length:Int))),(9,.gl 1 ((x.1.map (zcG (zcy (nth (nth w d).ctors c) k))).map Ty.c))]) [11,31,32,33,34,35,36,37,38,39,40,41,42,43] (fun x=>[(1,some (.tok (((x.1.map (zcG (zcy (nth (nth w d).ctors c) k))).map Ty.c)).length 2))]) (fun x=>x.1++x.2=(nth (nth w d).ctors c).args) (fun x=>x.2.length) ([],(nth (nth w d).ctors c).args) oe ⟨⟨_,I,xaK ?_⟩,⟨⟨_,I,LeA.glg ?_⟩,O⟩⟩ ⟨zag ?_,O⟩ (fun x=>rfl) (fun x hg1=>?_);iterate 3 focus (rfl)
 obtain⟨pre,rest⟩:=x;dsimp only at hg1 ⊢;refine evc [9] [] ?_;apply sq<;>intro h4 h4p h4s<;>(try simp only[Q] at h4p);rcases rest with _|⟨y,rest⟩
 ·exfalso;simp_all
 refine ixq zaL I I I (zaE hg1) I (evs [9] [] (ab 3011 tz38 ?_));refine so ty38 ?_;apply tv;apply sq<;>intro h5 h5p h5s<;>(try simp only[Q] at h5p);refine so ty3 ?_;apply tv;refine si [0] [_] zaL tz38 ?_;refine ap zaL zz38 I I I oe (by have hl:=xam List.length hg1;simp at hl;simp;omega) ?_;refine asg ?_;apply tv;refine ar (xaj ((pre++[y],rest)) ⟨(by have hz:=hg1;rw[<-hz];simp),oe,sx ⟨⟨_,I,xaK ?_⟩,⟨⟨_,I,LeA.glg ?_⟩,O⟩⟩ ⟨zag ?_,O⟩⟩);iterate 3 focus ((simp[zcG,zcy,h1s,h1p,h4s,h4p,h5s,h5p];done))
 refine si [0] [_] zaL tz38 ?_;refine ap zaL zz38 I I I oe (by have hl:=xam List.length hg1;simp at hl;simp;omega) ?_;refine asg ?_;apply tv;refine ar (xaj ((pre++[y],rest)) ⟨(by have hz:=hg1;rw[<-hz];simp),oe,sx ⟨⟨_,I,xaK ?_⟩,⟨⟨_,I,LeA.glg ?_⟩,O⟩⟩ ⟨zag ?_,O⟩⟩);iterate 3 focus ((simp[zcG,zcy,h1s,h1p,h4s,h4p,h5s,h5p];done))
 have hrest:rest=[]:=by
  rcases rest with _|⟨a,b⟩
  ·rfl
  ·exfalso;have hz:=xam List.length (hg1);simp only[xaa,xab,xac] at hz;omega
 subst hrest;focus (refine rn0 (r1 I) (.gld ?_);all_goals (simp[<-hg1,zcy,h1s,h1p,h4s,h4p]))
theorem zma {w:List Data}{d c:Nat}{k:Int} (hs:WSmall w) (hd:d<w.length) (hc:c<(nth w d).ctors.length):FnD Tryz.prog 159 [.d (zah w),.agg [.d (.i d),.d (.i k)],.d (.i c)] [] (.d (zbU ((nth (nth w d).ctors c).args.map (zcG (zcy (nth (nth w d).ctors c) k))))) []:=by
 have hb:=(hs.ctor _ (zam hd) _ (zam hc)).2;refine bd Tryz.f159 46 [] [] fun _ _ _ _ hk=>?_;refine bx 3004 ?_;refine ev (xbS 1 zaL .none I I (ev (ixq sl23 I I I (zan hd) I (ev (ixq zbx I I I (zan hc) I (ev (ab 3008 zfh ?_)))))));refine so zcK ?_;apply tv;refine xaA (ι:=List (Ty)×List (Ty)) hk (fun x=>[(9,.d (.i (x.1.length:Int))),(7,.gl 1 ((x.1.map (zcG (zcy (nth (nth w d).ctors c) k))).map Ty.c))]) [10,21,22,23,24,25,26,27,28,29,30,31,32,33,34,35,36,37,38,39,40,41,42,43,44] (fun x=>[(1,some (.tok (((x.1.map (zcG (zcy (nth (nth w d).ctors c) k))).map Ty.c)).length 2))]) (fun x=>x.1++x.2=(nth (nth w d).ctors c).args) (fun x=>x.2.length) ([],(nth (nth w d).ctors c).args) oe ⟨⟨_,I,xaK ?_⟩,⟨⟨_,I,LeA.glg ?_⟩,O⟩⟩ ⟨zag ?_,O⟩ (fun x=>rfl) (fun x hg1=>?_);iterate 3 focus (rfl)
 obtain⟨pre,rest⟩:=x;dsimp only at hg1 ⊢;refine evc [] [] ?_;apply sq<;>intro h1 h1p h1s<;>(try simp only[Q] at h1p);rcases rest with _|⟨y,rest⟩
 ·exfalso;simp_all
 refine ixq zaL I I I (zaE hg1) I (ev (ab 3010 tz38 ?_));refine so ty38 ?_;apply tv;apply sq<;>intro h2 h2p h2s<;>(try simp only[Q] at h2p);refine wc zuX zks I I ?_;refine ev (so ty3 ?_);apply tv;refine si [0] [_] zaL tz38 ?_;refine ap zaL zz38 I I I oe (by have hl:=xam List.length hg1;simp at hl;simp;omega) ?_;refine ev (ar (xaj ((pre++[y],rest)) ⟨(by have hz:=hg1;rw[<-hz];simp),oe,sx ⟨⟨_,I,xaK ?_⟩,⟨⟨_,I,LeA.glg ?_⟩,O⟩⟩ ⟨zag ?_,O⟩⟩));iterate 3 focus ((simp[zcG,xaG,h1s,h1p,h2s,h2p];done))
 refine si [0] [_] zaL tz38 ?_;refine ap zaL zz38 I I I oe (by have hl:=xam List.length hg1;simp at hl;simp;omega) ?_;refine ev (ar (xaj ((pre++[y],rest)) ⟨(by have hz:=hg1;rw[<-hz];simp),oe,sx ⟨⟨_,I,xaK ?_⟩,⟨⟨_,I,LeA.glg ?_⟩,O⟩⟩ ⟨zag ?_,O⟩⟩));iterate 3 focus ((simp[zcG,xaG,h1s,h1p,h2s,h2p];done))
 have hrest:rest=[]:=by
  rcases rest with _|⟨a,b⟩
  ·rfl
  ·exfalso;have hz:=xam List.length (hg1);simp only[xaa,xab,xac] at hz;omega
 subst hrest;focus (refine rn0 (r1 I) (.gld ?_);all_goals (simp[<-hg1,zcy,h1s,h1p]))
mutual
def zqw:Val->Val->Bool
 | .mk a n ks,.mk b m ls=>decide (a=b)&&(decide (n=m)&&zlL ks ls)
def zlL:List Val->List Val->Bool
 | [],[]=>true
 |x::r,y::s=>zqw x y&&zlL r s
 |_,_=>false
end
mutual
def Val.ok:Val->Prop
 | .mk _ _ ks=>ks.length<=1000000000000/\Vals.ok ks
def Vals.ok:List Val->Prop
 | []=>True
 |v::r=>v.ok/\Vals.ok r
end
theorem Vals.ok_mem:∀ {l:List Val},Vals.ok l->∀v,v∈l->v.ok
 |x::r,h,v,hv=>by
  simp only[Vals.ok] at h;rcases List.mem_cons.1 hv with rfl|hv
  ·exact h.1
  ·exact Vals.ok_mem h.2 v hv
mutual
def Val.size:Val->Nat
 | .mk _ _ ks=>1+Vals.size ks
def Vals.size:List Val->Nat
 | []=>0
 |v::r=>v.size+Vals.size r
end
theorem Vals.size_mem:∀ {l:List Val}{v:Val},v∈l->v.size<=Vals.size l
 |x::r,v,hv=>by
  simp only[Vals.size];rcases List.mem_cons.1 hv with rfl|hv
  ·omega
  ·have:=Vals.size_mem hv;omega
theorem Val.ok_iff (v:Val):v.ok↔v.kids.length<=1000000000000/\Vals.ok v.kids:=by cases v;rfl
theorem xa9 (v:Val):v.size=1+Vals.size v.kids:=by cases v;rfl
theorem zoB {w:List Data}{a b:Int}:FnD Tryz.prog 142 [.d (zah w),.agg [.d (.i a),.d (.i b)]] [] (.d (.bool (zbH w.length ⟨a,b⟩&&decide (0<=b)))) []:=by
 refine bd Tryz.f142 14 [] [] fun _ _ _ _ hk=>?_;refine bx 3003 ?_;refine ev (wc zqP zit I I ?_);refine ev ?_;apply sq<;>intro h1 h1p h1s<;>(try simp only[Q] at h1p);focus (refine rq ?_;all_goals ((simp[h1s,h1p];done)))
 focus (refine rq ?_;all_goals ((simp[h1s,h1p];done)))
theorem zjO {w:List Data}{a b:Int} (hs:WSmall w):FnD Tryz.prog 102 [.d (zah w),.agg [.d (.i a),.d (.i b)]] [] (.d (.bool (zbl w&&(zbH w.length ⟨a,b⟩&&decide (0<=b))))) []:=by
 refine bd Tryz.f102 12 [] [] fun _ _ _ _ hk=>?_;refine bx 3003 ?_;refine ev (wc zsW (zfO hs) I I ?_);refine ev ?_;apply sq<;>intro h1 h1p h1s<;>(try simp only[Q] at h1p);refine Walk.call (cr:=[]) zuy zoB I (.some I I h1) I I (LeL.refl _) O I I I (evs [] [(7,true)] ?_ ⟨⟨_,I,h1⟩,O⟩);focus (refine rq ?_;all_goals ((simp[h1s,h1p];done)))
 focus (refine rq ?_;all_goals ((simp[h1s,h1p];done)))
def TyIn (n:Nat) (t:Ty):Prop:=t.data = -1\/∃d:Nat,t.data=d/\d<n
structure WT (w:List Data):Prop where
 small:WSmall w
 arg:∀d∈w,∀c∈d.ctors,∀t∈c.args,TyIn w.length t
def zae (w:List Data) (t:Ty) (c:Int):List Ty:=
 let x:=nth (nth w t.data.toNat).ctors c.toNat
 x.args.map (zcG (zcy x t.index))
def za8 (w:List Data) (t:Ty):List Int:=zaY t.index 0 (nth w t.data.toNat).ctors
def cap (x:Int):Int:=if 401<x then 401 else x
theorem zqW {x:Int} (h:0<=x):0<=cap x/\cap x<=401:=by unfold cap;split<;>omega
theorem zio (k:Int):∀(l:List Ctor) (i:Nat) (c:Int),c∈zaY k i l->∃j:Nat,c=(j:Int)/\i<=j/\j<i+l.length
 | [],i,c,h=>by simp[zaY] at h
 |x::r,i,c,h=>by
  unfold zaY at h;have go:c∈zaY k (i+1) r->∃j:Nat,c=(j:Int)/\i<=j/\j<i+(x::r).length:=fun h=>by
   obtain⟨j,h1,h2,h3⟩:=zio k r (i+1) c h;exact⟨j,h1,by omega,by simp;omega⟩
  split at h
  ·rcases List.mem_cons.1 h with h|h
   ·exact⟨i,h,by omega,by simp⟩
   ·exact go h
  ·exact go h
theorem zsd {n:Nat}{k:Int}{t:Ty} (h:TyIn n t):TyIn n (zcG k t):=by
 unfold zcG;split
 ·exact h
 ·exact h
def PlaceIn (w:List Data) (d:Nat) (c:Int):Prop:=∃j:Nat,c=j/\j<(nth w d).ctors.length
theorem zop {w:List Data}{d:Nat}{k c:Int} (h:c∈za8 w ⟨d,k⟩):PlaceIn w d c:=by
 obtain⟨j,h1,_,h3⟩:=zio _ _ _ _ h;exact⟨j,h1,by simpa using h3⟩
theorem ziH {w:List Data} (hw:WT w){d:Nat} (hd:d<w.length){k c:Int} (hc:PlaceIn w d c){t:Ty} (ht:t∈zae w ⟨d,k⟩ c):TyIn w.length t:=by
 obtain⟨j,rfl,hj⟩:=hc;simp only[zae,Int.toNat_natCast,List.mem_map] at ht;obtain⟨x,hx,rfl⟩:=ht;exact zsd (hw.arg _ (zam hd) _ (zam hj) x hx)
theorem zhN {w:List Data} (hw:WT w){d:Nat} (hd:d<w.length){k c:Int} (hc:PlaceIn w d c):(zae w ⟨d,k⟩ c).length<=1000000000000:=by
 obtain⟨j,rfl,hj⟩:=hc;simp only[zae,Int.toNat_natCast,xac];exact(hw.small.ctor _ (zam hd) _ (zam hj)).2
theorem zoR {w:List Data} (hw:WT w){d:Nat}{k:Int}:(za8 w ⟨d,k⟩).length<=1000000000000:=by
 have:=zfV k (nth w d).ctors 0;have:=hw.small.ctors d;simp only[za8,Int.toNat_natCast];omega
theorem zkb {w:List Data} (hw:WT w){d:Nat} (hd:d<w.length){k c:Int} (hc:PlaceIn w d c):FnD Tryz.prog 237 [.d (zah w),.agg [.d (.i d),.d (.i k)],.d (.i c)] [] (.d (zbU (zae w ⟨d,k⟩ c))) []:=by
 obtain⟨j,rfl,hj⟩:=hc;exact zka hw.small hd hj
theorem zk5 {w:List Data} (hw:WT w){d:Nat} (hd:d<w.length){k:Int}:FnD Tryz.prog 236 [.d (zah w),.agg [.d (.i d),.d (.i k)]] [] (.d (zcP (za8 w ⟨d,k⟩))) []:=zk4 hw.small hd
theorem zmb {w:List Data} (hw:WT w){d:Nat} (hd:d<w.length){k c:Int} (hc:PlaceIn w d c):FnD Tryz.prog 159 [.d (zah w),.agg [.d (.i d),.d (.i k)],.d (.i c)] [] (.d (zbU (zae w ⟨d,k⟩ c))) []:=by
 obtain⟨j,rfl,hj⟩:=hc;exact zma hw.small hd hj
theorem zlo {w:List Data} (hw:WT w){d:Nat} (hd:d<w.length){k:Int}:FnD Tryz.prog 243 [.d (zah w),.agg [.d (.i d),.d (.i k)]] [] (.d (zcP (za8 w ⟨d,k⟩))) []:=zln hw.small hd
def zdw (w:List Data):List Str:=w.flatMap fun d=>d.ctors.map (·.name)
structure WV (w:List Data):Prop where
 len:w.length<=4
 data:∀d∈w,zbe d.name=true/\1<=d.ctors.length/\d.ctors.length<=4
 ctor:∀d∈w,∀c∈d.ctors,zbz w.length c=true
 names:(w.map (·.name)).Nodup
 cnames:(zdw w).Nodup
theorem zhj (n:Nat):∀(l:List Ctor) (met met':List Str),zcZ n met l=some met'↔met'=met++l.map (·.name)/\(∀c∈l,zbz n c=true)/\(l.map (·.name)).Nodup/\∀c∈l,c.name∉met
 | [],met,met'=>by
  unfold zcZ;simp only[xae,List.map_nil,xaq];exact⟨fun h=>⟨h.symm,by simp,by simp,by simp⟩,fun h=>h.1.symm⟩
 |c::r,met,met'=>by
  unfold zcZ;by_cases h:(zbz n c&& !decide (c.name∈met))=true
  ·rw[if_pos h,zhj n r];simp only[xad,Bool.not_eq_true',decide_eq_false_iff_not] at h;obtain⟨h1,h2⟩:=h;constructor
   ·rintro ⟨rfl,q1,q2,q3⟩
    refine⟨by simp,fun x hx=>?_, ?_,fun x hx=>?_⟩
    ·rcases List.mem_cons.1 hx with rfl|hx
     ·exact h1
     ·exact q1 x hx
    ·simp only[xaf,List.nodup_cons];refine⟨fun hm=>?_,q2⟩;obtain⟨x,hx,he⟩:=List.mem_map.1 hm;exact q3 x hx (by rw[he];simp)
    ·rcases List.mem_cons.1 hx with rfl|hx
     ·exact h2
     ·intro hm;exact q3 x hx (by simp[hm])
   ·rintro ⟨rfl,q1,q2,q3⟩
    simp only[xaf,List.nodup_cons] at q2;refine⟨by simp,fun x hx=>q1 x (List.mem_cons_of_mem _ hx),q2.2,fun x hx hm=>?_⟩;simp only[List.mem_append,List.mem_singleton] at hm;rcases hm with hm|hm
    ·exact q3 x (List.mem_cons_of_mem _ hx) hm
    ·exact q2.1 (hm ▸ List.mem_map.2 ⟨x,hx,I⟩)
  ·rw[if_neg h];constructor
   ·intro h';cases h'
   ·rintro ⟨_,q1,_,q3⟩
    exfalso;apply h;simp[q1 c oe,q3 c oe]
theorem zhk (n:Nat):∀(l:List Data) (met datas:List Str),zbC n met datas l=true↔
  (∀d∈l,zbe d.name=true/\1<=d.ctors.length/\d.ctors.length<=4)/\(∀d∈l,∀c∈d.ctors,zbz n c=true)/\(l.map (·.name)).Nodup/\(∀d∈l,d.name∉datas)/\
   (zdw l).Nodup/\∀s∈zdw l,s∉met
 | [],met,datas=>by simp[zbC,zdw]
 |d::r,met,datas=>by
  have hcn:zdw (d::r)=d.ctors.map (·.name)++zdw r:=rfl;have hw:zaC d.ctors.length 1 4=true↔1<=d.ctors.length/\d.ctors.length<=4:=by simp[zaC];omega
  unfold zbC;simp only[xad,Bool.not_eq_true',decide_eq_false_iff_not,hw];constructor
  ·rintro ⟨⟨⟨h1,h2⟩,h3⟩,h4⟩
   split at h4
   ·rename_i met' hm;obtain⟨rfl,c1,c2,c3⟩:=(zhj n _ _ _).1 hm;obtain⟨q1,q2,q3,q4,q5,q6⟩:=(zhk n r _ _).1 h4;refine⟨fun x hx=>?_,fun x hx=>?_, ?_,fun x hx=>?_, ?_,fun s hs=>?_⟩
    ·rcases List.mem_cons.1 hx with rfl|hx
     ·exact⟨h1,h3⟩
     ·exact q1 x hx
    ·rcases List.mem_cons.1 hx with rfl|hx
     ·exact c1
     ·exact q2 x hx
    ·simp only[xaf,List.nodup_cons];refine⟨fun hm=>?_,q3⟩;obtain⟨x,hx,he⟩:=List.mem_map.1 hm;exact q4 x hx (by rw[he];simp)
    ·rcases List.mem_cons.1 hx with rfl|hx
     ·exact h2
     ·intro hm;exact q4 x hx (by simp[hm])
    ·rw[hcn,List.nodup_append];refine⟨c2,q5,fun a ha b hb he=>?_⟩;subst he;exact q6 a hb (by simp only[List.mem_append];exact .inr ha)
    ·rw[hcn] at hs;rcases List.mem_append.1 hs with hs|hs
     ·obtain⟨c,hc,rfl⟩:=List.mem_map.1 hs;exact c3 c hc
     ·intro hm;exact q6 s hs (by simp[hm])
   ·cases h4
  ·rintro ⟨q1,q2,q3,q4,q5,q6⟩
   rw[hcn] at q5 q6;rw[List.nodup_append] at q5;simp only[xaf,List.nodup_cons] at q3;have hd:=q1 d oe;have hm:zcZ n met d.ctors=some (met++d.ctors.map (·.name)):=(zhj n _ _ _).2 ⟨rfl,q2 d oe,q5.1,fun c hc=>q6 _ (List.mem_append.2 (.inl (List.mem_map.2 ⟨c,hc,rfl⟩)))⟩;refine⟨⟨⟨hd.1,q4 d oe⟩,hd.2⟩, ?_⟩;rw[hm];refine(zhk n r _ _).2 ⟨fun x hx=>q1 x (List.mem_cons_of_mem _ hx),fun x hx=>q2 x (List.mem_cons_of_mem _ hx),q3.2,fun x hx hmem=>?_,q5.2.1,fun s hs hmem=>?_⟩
   ·simp only[List.mem_append,List.mem_singleton] at hmem;rcases hmem with hmem|hmem
    ·exact q4 x (List.mem_cons_of_mem _ hx) hmem
    ·exact q3.1 (hmem ▸ List.mem_map.2 ⟨x,hx,I⟩)
   ·rcases List.mem_append.1 hmem with hmem|hmem
    ·exact q6 s (List.mem_append.2 (.inr hs)) hmem
    ·exact q5.2.2 s hmem s hs I
theorem zcp (w:List Data):zaT w=true↔WV w:=by
 unfold zaT;rw[xad,zhk];constructor
 ·rintro ⟨h1,q1,q2,q3,_,q5,_⟩
  exact⟨by have:=xas h1;omega,q1,q2,q3,q5⟩
 ·rintro ⟨h1,q1,q2,q3,q5⟩
  exact⟨xax od,q1,q2,q3,by simp,q5,by simp⟩
theorem znb {l:List Str}:l.Nodup↔∀i j,i<j->j<l.length->nth l i≠nth l j:=by
 unfold List.Nodup;rw[List.pairwise_iff_getElem];constructor
 ·intro h i j hij hj;have:=h i j od hj hij;simpa [nth,List.getD,hj,(by omega:i<l.length)] using this
 ·intro h i j hi hj hij;have:=h i j hij hj;simpa [nth,List.getD,hj,hi] using this
theorem zaV {α:Type} [Inhabited α]{l:List α}{i:Nat} (h:i<l.length):nth l i=l[i]:=by simp[nth,List.getD,h]
theorem zkT (w:List Data):(zdw w).Nodup↔(∀d,d<w.length->∀j k,j<k->k<(nth w d).ctors.length->(nth (nth w d).ctors j).name≠(nth (nth w d).ctors k).name)/\
  ∀i d,i<d->d<w.length->∀j k,j<(nth w i).ctors.length->k<(nth w d).ctors.length->(nth (nth w i).ctors j).name≠(nth (nth w d).ctors k).name:=by
 unfold zdw List.Nodup;rw[List.pairwise_flatMap];constructor
 ·rintro ⟨h1,h2⟩
  refine⟨fun d hd j k hjk hk=>?_,fun i d hid hd j k hj hk=>?_⟩
  ·have:=h1 (nth w d) (zam hd);rw[List.pairwise_iff_getElem] at this;have:=this j k om (by simpa using hk) hjk;simpa [zaV hk,zaV (show j<(nth w d).ctors.length by omega)] using this
  ·rw[List.pairwise_iff_getElem] at h2;have:=h2 i d od hd hid;rw[<-zaV hd,<-zaV (show i<w.length by omega)] at this;exact this _ (List.mem_map.2 ⟨_,zam hj,I⟩) _ (List.mem_map.2 ⟨_,zam hk,I⟩)
 ·rintro ⟨h1,h2⟩
  refine⟨fun x hx=>?_, ?_⟩
  ·obtain⟨d,hd,rfl⟩:=List.getElem_of_mem hx;rw[List.pairwise_iff_getElem];intro j k hj hk hjk;have hk':k<(nth w d).ctors.length:=by rw[zaV hd];simpa using hk
   have:=h1 d hd j k hjk hk';rw[zaV hk',zaV (show j<(nth w d).ctors.length by omega)] at this;simp only[zaV hd] at this;simpa using this
  ·rw[List.pairwise_iff_getElem];intro i d hi hd hid x hx y hy;obtain⟨a,ha,rfl⟩:=List.mem_map.1 hx;obtain⟨b,hb,rfl⟩:=List.mem_map.1 hy;obtain⟨j,hj,rfl⟩:=List.getElem_of_mem ha;obtain⟨k,hk,rfl⟩:=List.getElem_of_mem hb;have hj':j<(nth w i).ctors.length:=by rw[zaV hi];exact hj
   have hk':k<(nth w d).ctors.length:=by rw[zaV hd];exact hk
   have:=h2 i d hid hd j k hj' hk';rw[zaV hj',zaV hk'] at this;simpa only[zaV hi,zaV hd] using this
theorem zmL (w:List Data):(w.map (·.name)).Nodup↔∀i d,i<d->d<w.length->(nth w i).name≠(nth w d).name:=by
 rw[znb];have e:∀i,i<w.length->nth (w.map (·.name)) i=(nth w i).name:=fun i hi=>by simp[nth,List.getD,hi]
 constructor
 ·intro h i d hid hd;have:=h i d hid (by simpa using hd);rwa [e i od,e d hd] at this
 ·intro h i d hid hd;have hd':d<w.length:=by simpa using hd
  rw[e i od,e d hd'];exact h i d hid hd'
theorem zm2 (w:List Data) (d k:Nat):zlI w d k=false↔(∀i,i<d->(nth w i).name≠(nth w d).name)/\
  ∀i j,i<=d->j<(nth w i).ctors.length->(i<d\/j<k)->k<(nth w d).ctors.length->(nth (nth w i).ctors j).name≠(nth (nth w d).ctors k).name:=by
 unfold zlI;rw[List.any_eq_false];constructor
 ·intro h;refine⟨fun i hi he=>?_,fun i j hi hj hij hk he=>?_⟩
  ·apply h i (List.mem_range.2 od);unfold zdh;simp[hi,he]
  ·apply h i (List.mem_range.2 od);unfold zdh;rw[zcN hj (by unfold zbJ;simp[hk,he];omega)];simp
 ·rintro ⟨h1,h2⟩ i hi
  have hi':=List.mem_range.1 hi;unfold zdh;simp only[Bool.or_eq_true,xad,xah,not_or,not_and];refine⟨fun hid=>h1 i hid, ?_⟩;rw[zeW (fun j hj=>?_)]
  ·simp
  ·unfold zbJ;cases hc:((decide (i<d)||decide (j<k))&&(decide (k<(nth w d).ctors.length)&&decide ((nth (nth w i).ctors j).name=(nth (nth w d).ctors k).name))) with
   |false=>rfl
   |true=>
    simp only[xad,Bool.or_eq_true,xah] at hc;exact absurd hc.2.2 (h2 i j od hj hc.1 hc.2.1)
theorem zjl (w:List Data):zbl w=true↔WV w:=by
 unfold zbl;rw[xad,xah,List.all_eq_true];have hs:∀d,zcm w d=true↔zbe (nth w d).name=true/\1<=(nth w d).ctors.length/\(nth w d).ctors.length<=4/\∀k,k<(nth w d).ctors.length->zbz w.length (nth (nth w d).ctors k)=true/\zlI w d k=false:=fun d=>by
  unfold zcm;simp only[xad,xah,List.all_eq_true,List.mem_range,zeb,Bool.not_eq_true']
 constructor
 ·rintro ⟨h1,h2⟩
  have h3:∀d,d<w.length->_:=fun d hd=>(hs d).1 (h2 d (List.mem_range.2 hd));have h4:∀d,d<w.length->∀k,k<(nth w d).ctors.length->_:=fun d hd k hk=>(zm2 w d k).1 ((h3 d hd).2.2.2 k hk).2;refine⟨h1,fun d hd=>?_,fun d hd c hc=>?_,(zmL w).2 (fun i d hid hd=>?_),(zkT w).2 ⟨fun d hd j k hjk hk=>?_,fun i d hid hd j k hj hk=>?_⟩⟩
  ·obtain⟨i,hi,rfl⟩:=List.getElem_of_mem hd;have:=h3 i hi;rw[zaV hi] at this;exact⟨this.1,this.2.1,this.2.2.1⟩
  ·obtain⟨i,hi,rfl⟩:=List.getElem_of_mem hd;obtain⟨k,hk,rfl⟩:=List.getElem_of_mem hc;have hk':k<(nth w i).ctors.length:=by rw[zaV hi];exact hk
   have:=((h3 i hi).2.2.2 k hk').1;rw[zaV hk'] at this;simpa only[zaV hi] using this
  ·exact(h4 d hd 0 (by have:=(h3 d hd).2.1;omega)).1 i hid
  ·exact(h4 d hd k hk).2 d j (Nat.le_refl _) od (.inr hjk) hk
  ·exact(h4 d hd k hk).2 i j od hj (.inl hid) hk
 ·intro h;refine⟨h.len,fun d hd=>?_⟩;have hd':=List.mem_range.1 hd;have hm:=zam hd';have hn:=(zmL w).1 h.names;have hc:=(zkT w).1 h.cnames;refine(hs d).2 ⟨(h.data _ hm).1,(h.data _ hm).2.1,(h.data _ hm).2.2,fun k hk=>⟨h.ctor _ hm _ (zam hk),(zm2 w d k).2 ⟨fun i hi=>hn i d hi hd',fun i j hi hj hij hk'=>?_⟩⟩⟩;by_cases hid:i<d
  ·exact hc.2 i d hid hd' j k hj hk'
  ·have:i=d:=by omega
   subst this;exact hc.1 i hd' j k od hk'
theorem zf2 (w:List Data):zbl w=zaT w:=by
 rw[xat,zjl,zcp]
theorem zsc {n:Nat}{t:Ty} (h:zbH n t=true):TyIn n t:=by
 unfold zbH at h;simp only[Bool.or_eq_true,xad,xah,zaC] at h;rcases h with h|h
 ·exact .inl h.1
 ·exact .inr ⟨t.data.toNat,by omega,by omega⟩
theorem zr5 {n:Nat}{t:Ty} (h:zdM n t=true):TyIn n t:=by
 unfold zdM at h;simp only[Bool.or_eq_true,xad,xah,zaC] at h;rcases h with h|h
 ·exact .inl h.1
 ·exact .inr ⟨t.data.toNat,by omega,by omega⟩
theorem WV.wt {w:List Data} (hs:WSmall w) (h:WV w):WT w:=⟨hs,fun d hd c hc t ht=>by
 have:=h.ctor d hd c hc;unfold zbz at this;simp only[xad,Bool.not_eq_true',List.any_eq_false,Bool.not_eq_true,Bool.not_eq_false] at this;exact zsc (by have:=this.2.2.2 t ht;simpa using this)⟩
theorem zt5 (w:List Data) (t:Ty):(zbl w&&(zbH w.length t&&decide (0<=t.index)))=zaK w t:=by
 rw[zf2];unfold zaK;congr 1
 rw[xat];unfold zbH zdM zaC;simp;omega
theorem zbk {α:Type} [Inhabited α]{l:List α}{i:Nat} (h:i<l.length):l.drop i=nth l i::l.drop (i+1):=by
 rw[zaV h];exact List.drop_eq_getElem_cons h
def all2 {α β:Type} (f:α->β->Bool):List α->List β->Bool
 | [],[]=>true
 |a::r,b::s=>f a b&&all2 f r s
 |_,_=>false
theorem zhM {α β:Type}{f:α->β->Bool}:∀ {a:List α}{b:List β},a.length≠b.length->all2 f a b=false
 | [],[],h=>by simp at h
 | [],_::_,_=>rfl
 |_::_,[],_=>rfl
 |x::r,y::s,h=>by simp[all2,zhM (a:=r) (b:=s) (by simpa using h)]
theorem zef {α β:Type} [Inhabited α] [Inhabited β]{f:α->β->Bool}{a:List α}{b:List β}{i:Nat} (h:i<a.length) (hl:a.length=b.length) (h2:f (nth a i) (nth b i)=false):all2 f a b=false:=by
 induction i generalizing a b with
 |zero=>
  cases a with
  |nil=>simp at h
  |cons x r=>
   cases b with
   |nil=>simp[all2]
   |cons y s=>simp[nth] at h2;simp[all2,h2]
 |succ i ih=>
  cases a with
  |nil=>simp at h
  |cons x r=>
   cases b with
   |nil=>simp[all2]
   |cons y s=>simp only[all2];rw[ih (a:=r) (b:=s) (by simpa using h) (by simpa using hl) (by simpa [nth] using h2)];simp
theorem zfT {α β:Type} [Inhabited α] [Inhabited β]{f:α->β->Bool}{a:List α}{b:List β} (hl:a.length=b.length) (h:∀i,i<a.length->f (nth a i) (nth b i)=true):all2 f a b=true:=by
 induction a generalizing b with
 |nil=>cases b with
  |nil=>simp[all2]
  |cons y s=>simp at hl
 |cons x r ih=>cases b with
  |nil=>simp at hl
  |cons y s=>
   have h0:=h 0 oe;simp only[all2];rw[ih (by simpa using hl) (fun i hi=>by simpa [nth] using h (i+1) (by simpa using hi))];simpa [nth] using h0
def idxI (l:List Int) (v:Int):Int:=idxF (fun x=>decide (v=x)) l 0
theorem ziC {l:List Int}{v:Int} (h:l.length<=1000000000000):FnD Tryz.prog 284 [.d (zcP l),.d (.i v)] [] (.d (.i (idxI l v))) []:=by
 refine bd Tryz.f284 19 [] [] fun _ _ _ _ hk=>?_;refine xaA (ι:=List (Int)×List (Int)) hk (fun x=>[(8,.d (.i (x.1.length:Int)))]) [4,5,9,10,11,12,13,14,15,16,17,18] (fun x=>[]) (fun x=>x.1++x.2=l/\idxF (fun x=>decide (v=x)) x.2 x.1.length=idxF (fun x=>decide (v=x)) l 0) (fun x=>x.2.length) ([],l) ⟨by simp,I⟩ ⟨⟨_,I,xaK ?_⟩,O⟩ O (fun x=>rfl) (fun x hg1=>?_);focus (first|rfl|(simp;done)|(simp_all;done)|omega)
 obtain⟨pre,rest⟩:=x;dsimp only at hg1 ⊢;refine evc [] [] ?_;apply sq<;>intro h1 h1p h1s<;>(try simp only[Q] at h1p);rcases rest with _|⟨y,rest⟩
 ·exfalso;simp_all
 refine ixq zaZ I I I (zaE hg1.1) I (ev ?_);apply sq<;>intro h2 h2p h2s<;>(try simp only[Q] at h2p);focus (refine rq ?_;all_goals (unfold idxI;rw[<-hg1.2];simp[idxF,h1s,h1p,h2s,h2p]))
 refine ar (xaj ((pre++[y],rest)) ⟨⟨(by have hz:=hg1.1;rw[<-hz];simp),(by rw[<-hg1.2];simp[idxF,h2p])⟩,oe,sx ⟨⟨_,I,xaK ?_⟩,O⟩ O⟩);focus (first|rfl|(simp;done)|(simp_all;done)|omega)
 have hrest:rest=[]:=by
  rcases rest with _|⟨a,b⟩
  ·rfl
  ·exfalso;have hz:=xam List.length (hg1.1);simp only[xaa,xab,xac] at hz;omega
 subst hrest;focus (refine rq ?_;all_goals (unfold idxI;rw[<-hg1.2];simp[idxF,h1s,h1p]))
theorem zey {l:List Int}{v:Int} (h:l.length<=1000000000000):FnD Tryz.prog 235 [.d (zcP l),.d (.i v)] [] (.d (.bool (decide (v∈l)))) []:=by
 refine bd Tryz.f235 9 [] [] fun _ _ _ _ hk=>?_;refine wc zu8 (ziC h) I I ?_;refine ev (rq ?_);rotate_left;all_goals (refine xam D.bool ?_;rw[show idxI l v=idxF (fun x=>decide (v=x)) l 0 from rfl,zfs];simp[List.any_eq,eq_comm])
theorem zeB {l:List Int}{v:Int} (h:l.length<=1000000000000):FnD Tryz.prog 286 [.d (zcP l),.d (.i v)] [] (.d (.bool (decide (v∈l)))) []:=by
 refine bd Tryz.f286 18 [] [] fun _ _ _ _ hk=>?_;refine xaA (ι:=List (Int)×List (Int)) hk (fun x=>[(5,.d (.i (x.1.length:Int)))]) [4,6,7,8,9,10,11,12,13,14,15,16,17] (fun x=>[]) (fun x=>x.1++x.2=l/\v∉x.1) (fun x=>x.2.length) ([],l) ⟨by simp,by simp⟩ ⟨⟨_,I,xaK ?_⟩,O⟩ O (fun x=>rfl) (fun x hg1=>?_);focus (first|rfl|(simp;done)|(simp_all;done)|omega)
 obtain⟨pre,rest⟩:=x;dsimp only at hg1 ⊢;refine evc [] [] ?_;apply sq<;>intro h1 h1p h1s<;>(try simp only[Q] at h1p);rcases rest with _|⟨y,rest⟩
 ·exfalso;simp_all
 refine ixq zaZ I I I (zaE hg1.1) I (ev ?_);apply sq<;>intro h2 h2p h2s<;>(try simp only[Q] at h2p);focus (refine rq ?_;all_goals (refine xam D.bool ?_;first|(symm;rw[xah,<-hg1.1];simp[h1s,h1p,h2s,h2p];done)|(symm;rw[decide_eq_false_iff_not,<-hg1.1];intro hm;simp at hm;exact absurd hm (by simpa using hg1.2))))
 refine ar (xaj ((pre++[y],rest)) ⟨⟨(by have hz:=hg1.1;rw[<-hz];simp),(by have:=hg1.2;simp[this,eq_comm];omega)⟩,oe,sx ⟨⟨_,I,xaK ?_⟩,O⟩ O⟩);focus (first|rfl|(simp;done)|(simp_all;done)|omega)
 have hrest:rest=[]:=by
  rcases rest with _|⟨a,b⟩
  ·rfl
  ·exfalso;have hz:=xam List.length (hg1.1);simp only[xaa,xab,xac] at hz;omega
 subst hrest;focus (refine rq ?_;all_goals (refine xam D.bool ?_;first|(symm;rw[xah,<-hg1.1];simp[h1s,h1p];done)|(symm;rw[decide_eq_false_iff_not,<-hg1.1];intro hm;simp at hm;exact absurd hm (by simpa using hg1.2))))
end Go.Proofs.YtmkipahfpaacgaaGreatDoor
