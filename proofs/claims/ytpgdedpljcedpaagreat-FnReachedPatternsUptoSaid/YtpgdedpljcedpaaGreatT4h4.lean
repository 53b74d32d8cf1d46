/-
  THE ABSTRACT WALK AND THE WALKS, part 4 of 6: the parts G3, G4, F52, F53, F54, F55, F56, F57, F58, F70, F71, F72, F74, F75, F76, F77, F78, F18, F19, F31, F32, F33, F34, F35, F36, F37.
-/
import Derived.Test.YtpgdedpljcedpaaGreatT4h3
namespace Go.Proofs.YtpgdedpljcedpaaGreat
open Go
set_option linter.unusedSimpArgs false
set_option linter.unusedVariables false
section
variable {c:Ctx}{all:Array Oper}{chk:List Rec->Prop}{os:List Oper}{recs:List Rec}{env:Env}{hp:Hp}{Q:St->Prop}
variable {ty:Nat}{pos:String}{af:Array Edge}{g:Option (Nat×Bool)}{pg:List (Nat×AV)}{t:TypeId}{x:Operand}
theorem Walk.clearB {id off n k e yb:Nat}{cs cs' zs:List AV} (ht:SlT c.P t e k yb) (hz:TyZ c.P e k zs) (hzk:zs.length=k) (hk:0<k) (h1:ziM zs=true) (hg:GH all env g pg) (hx:opd env x=some (.mo id off n))
  (hb:getH hp id=some (.box cs)) (hput:putC cs off (zbc n zs)=some cs')
  (hn:Walk c all chk os (zap (pg++opF x (.mo id off n)) [(id,.box cs)] [] ⟨none,[(id,some (.box cs'))]⟩::recs) ⟨env,(id,some (.box cs'))::hp⟩ Q):
  Walk c all chk (⟨none,.call ⟨.builtin .clear,#[x],#[t]⟩,ty,pos,af,g⟩::os) recs ⟨env,hp⟩ Q:=by
 refine⟨pg++opF x (.mo id off n),[(id,.box cs)],[],_, ?_,zaB hg.facts (zbe hx),hh1 hb,by simp,hn⟩;intro s a w hrel hp' hh _ K Q' hK;obtain⟨G,hr⟩:=hrel;have hbx:=hh1' hh;have e1:=hr.opd (zbf hx (fun p hm=>hp' p (by simp[hm])));obtain⟨bl,o,cap,hl,he,hcap,ho⟩:=e1.mo_eq;obtain⟨b',us,et,h2,h3,h4,h5,h6⟩:=hr.heap id _ hbx;obtain rfl:=zc5 hl.1 h2;have hall:PreR G (tokf s.hp) w cs us:=⟨h4,h6⟩;unfold wpO;rw[if_pos (hg.gf.wanted hr (fun p hm=>hp' p (by simp[hm])))];unfold Oper.wp;rcases Nat.eq_zero_or_pos n with hn0|hn0
 ·subst hn0;have hcs:cs'=cs:=by
   simp only[zbc] at hput;cases cs<;>simp only[putC,Option.some.injEq] at hput<;>exact hput.symm
  subst hcs;have hrun:(execOp a.eval ⟨none,.call ⟨.builtin .clear,#[x],#[t]⟩,ty,pos,af,g⟩).run c.P w = .ok (.value (.tuple #[])) w:=by
   simp[execOp,resolve,invoke,builtin,he,Builtin.clear_,run_underlying ht.und]
  rw[hrun,Oper.upon_value];refine hK _ _ ⟨G, ?_⟩;have hsame:∀i,getH ((id,some (Res.box cs'))::s.hp) i=getH s.hp i:=fun i=>by
   rw[zam];split
   ·rename_i e;subst e;exact hbx.symm
   ·rfl
  have htk:tokf ((id,some (Res.box cs'))::s.hp)=tokf s.hp:=by funext i;unfold tokf;rw[hsame]
  have:R c G ⟨s.env,(id,some (Res.box cs'))::s.hp⟩ a w:=
   ⟨hr.size,hr.defers,fun i v h=>by rw[htk];exact hr.slots i v h,fun i r h=>by rw[htk];exact hr.heap i r (by rw[<-hsame];exact h),
   fun i j h1 h2=>hr.disj i j (by rw[<-hsame];exact h1) (by rw[<-hsame];exact h2),fun i h=>hr.new i (by rw[<-hsame];exact h),hr.frm,hr.top,
   fun i l h'=>by
    show(G.loc i).head?=l.head?/\(getH ((id,some (Res.box cs'))::s.hp) i).isSome/\tokf ((id,some (Res.box cs'))::s.hp) i=none
    rw[hsame,htk];exact hr.kept i l h'⟩
  exact this.putNone
 ·obtain rfl:o=off:=ho.resolve_left (by omega);obtain⟨ie,z,z1,z2,z3,z4⟩:=hz.inf;have hz0:=zb2 (G:=G) (T:=tokf s.hp) (w:=w) z4;have hzr:=zfB (by simpa using hz0) n (by omega);have hzs:z.cells.size=k:=by have:=hz0.size;simp at this;omega
  let vl:List Value:=(Builtin.zeroCells z.cells n).toList
  have hvl:vl.toArray=(Array.range (n*zs.length)).map (z.cells[· % z.cells.size]!):=by
   simp only[vl,Builtin.zeroCells,Array.toArray_toList];rw[hzs,hzk]
  have hvr:AllR G (tokf s.hp) w (zbc n zs) vl.toArray:=by rw[hvl];exact hzr
  have hne:zbc n zs≠[]:=fun h=>by
   have:=congrArg List.length h;rw[zeV] at this;have h2:0<n*zs.length:=Nat.mul_pos hn0 (by omega);simp only[xai] at this;omega
  obtain⟨p1,p2,p3⟩:=zdw hput;have p2':=p2.resolve_left hne;have hsz:=hvr.size;have hsv:vl.toArray.size=vl.length:=by simp only[List.size_toArray]
  simp only[List.size_toArray] at hsz;have hzone:∀i (hi:i<zs.length) (hv:i<z.cells.size),z.cells[i].oneCell'=true:=fun i hi hv=>by
   have:=hz0.rel i hi (by simpa using hv);simp only[List.getElem_toArray,Array.getElem_toList] at this;exact this.one (zjc h1 _ (List.getElem_mem hi))
  have hst:=run_storeCells_at c.P bl o et vl 0 us w h3 (by omega) (fun u hu=>by
   simp only[vl,Builtin.zeroCells,Array.toList_map,List.mem_map] at hu;obtain⟨i,_,rfl⟩:=hu;have hm:i % z.cells.size<z.cells.size:=Nat.mod_lt _ (by omega);rw[getElem!_pos z.cells _ hm];exact hzone _ (by omega) hm)
  simp only[Nat.add_zero] at hst;have hrow:PreR G (tokf s.hp) w cs' (us.toList.take o++vl++us.toList.drop (o+vl.length)).toArray:=by
   refine hall.put hvr hput ?_ (fun i=>?_)
   ·simp only[List.size_toArray,xaa,List.length_take,List.length_drop,Array.length_toList];omega
   ·simp only[List.getElem?_toArray];rw[List.append_assoc,List.getElem?_append];simp only[List.length_take,Array.length_toList];by_cases hi:i<o
    ·rw[if_pos (by omega),if_neg (by omega)];simp[hi]
    ·rw[if_neg (by omega),List.getElem?_append];have hm:min o us.size=o:=by omega
     rw[hm];by_cases hi2:i<o+vl.length
     ·rw[if_pos (by omega),if_pos (by omega)]
     ·rw[if_neg (by omega),if_neg (by omega)];rw[List.getElem?_drop,show o+vl.length+(i-o-vl.length)=i by omega];simp
  have hrun:(execOp a.eval ⟨none,.call ⟨.builtin .clear,#[x],#[t]⟩,ty,pos,af,g⟩).run c.P w = .ok (.value (.tuple #[])) (w.setRow bl (us.toList.take o++vl++us.toList.drop (o+vl.length)).toArray):=by
   obtain⟨m,rfl⟩:∃m,n=m+1:=⟨n-1,by omega⟩;have hzv:(zeroValue e).run c.P w = .ok z w:=zmv z1 z3;simp only[vl] at hst;simp[execOp,resolve,invoke,builtin,he,Builtin.clear_,run_underlying ht.und,hzv,hst,vl]
  rw[hrun,Oper.upon_value];exact hK _ _ ⟨G,(hr.setBox hbx h2 h3 h5 hrow).putNone⟩
end
theorem zxQ {G G':Gh}{T T':TokF}{w:World}{id n k b:Nat}{us:Array Value}{e:TypeId}{x:Value}{cs:List AV}{es:List (List D)} (hx:RelA G T w (.ms id n) x) (h1:G.loc id=[b]) (h2:w.heap[b]?=some (.cells us e (0,0))) (h3:cs.length<=us.size)
  (h5:∀i (hi:i<cs.length) (hv:i<us.size),RelA G T w cs[i] us[i]) (hFb:G'.F b=us.size) (hcell:∀y o,o<G.F y->o<G'.F y/\w.cell? ⟨y,o,none⟩=w.cell? ⟨y,o,none⟩) (hc:zbT n k (cs.take (n*k))=some es):RelA G' T' w (.d (.sl es)) x:=by
 obtain⟨c1,c2,c3,c4⟩:=zec hc;have c3':n*k<=cs.length:=by rw[List.length_take] at c3;omega
 obtain⟨b',cap,hl,he,hcap⟩:=hx.ms_eq;obtain rfl:=(zc5 hl.1 h1).symm;rw[he];refine .d ?_;have hn':n=es.length:=c1.symm;rw[hn'];refine .sl es k b 0 cap (fun x=>us.getD x undef) c2 (by omega) (fun x hx=>?_) (fun i hi j hj=>?_)
 ·have h3':x<cs.length:=by rw[<-c1] at c3';omega
  have hxs:x<us.size:=Nat.lt_of_lt_of_le h3' h3;refine⟨by rw[hFb];omega, ?_⟩;simp[World.cell?,h2,hxs]
 ·have hjk:j<k:=by rw[<-c2 _ (List.getElem_mem hi)];exact hj
  have hltn:i*k+j<n*k:=by
   rw[<-c1];have:(i+1)*k<=es.length*k:=Nat.mul_le_mul_right _ (by omega);rw[Nat.add_mul] at this;omega
  have hlt:i*k+j<cs.length:=by omega
  have hlu:i*k+j<us.size:=by omega
  have h8:=c4 i hi j hj (by rw[List.length_take];omega);rw[List.getElem_take] at h8;have h6:=(h5 _ hlt hlu).toD h8;have h7:us.getD (i*k+j) undef=us[i*k+j]:=by simp[Array.getD,hlu]
  rw[h7];exact h6.mono hcell
def zrq (env:Env) (hp:Hp) (j:Nat):Bool:=
 (match getH hp j with|none=>true|some _=>false)&&(env.all fun x=>match getE env x.1 with|some v=> !zbd j v.ids|none=>true)&&(hp.all fun x=>match getH hp x.1 with|some r=> !zbd j r.ids|none=>true)
theorem zrs:∀ {env:Env}{i:Nat}{v:AV},getE env i=some v->∃u,(i,u)∈env
 |(k,x)::r,i,v,h=>by
  simp only[getE] at h;cases hb:Nat.beq k i with
  |true=>obtain rfl:=Nat.eq_of_beq_eq_true hb;exact⟨x,by simp⟩
  |false=>
   simp only[hb,cond_false] at h;obtain⟨u,hu⟩:=zrs h;exact⟨u,List.mem_cons_of_mem _ hu⟩
theorem zsu {env:Env}{hp:Hp}{j:Nat} (h:zrq env hp j=true):getH hp j=none/\zdu j ⟨env,hp⟩:=by
 simp only[zrq,xad,List.all_eq_true] at h;obtain⟨⟨h1,h2⟩,h3⟩:=h;refine⟨?_,fun i v hv hm=>?_,fun i r hr hm=>?_⟩
 ·cases hg:getH hp j with
  |none=>rfl
  |some x=>simp[hg] at h1
 ·obtain⟨u,hu⟩:=zrs hv;have:=h2 _ hu;rw[show getE env (i,u).1=some v from hv] at this;change (!zbd j v.ids)=true at this
  rw[za2.2 hm] at this;cases this
 ·obtain⟨u,hu⟩:=zjs hr;have:=h3 _ hu;rw[show getH hp (i,u).1=some r from hr] at this;change (!zbd j r.ids)=true at this
  rw[za2.2 hm] at this;cases this
theorem CWp.tokDrop {c:Ctx}{env:Env}{hp:Hp}{K:Kt}{code:Code} (t i:Nat){n k:Nat}{xs:List (List D)} (ht:getE env t=some (.gl i xs)) (hi:getH hp i=some (.tok n k))
  (hn:CWp c code ⟨(t,.d (.sl xs))::env,(i,none)::hp⟩ K):CWp c code ⟨env,hp⟩ K:=by
 rintro a w ⟨G,hr⟩
 have g1:∀x,x≠i->getH ((i,none)::hp) x=getH hp x:=fun x h1=>by rw[zam,if_neg h1]
 have gi:getH ((i,none)::hp) i=none:=by rw[zam,if_pos rfl]
 have Ti:tokf hp i=some (n,k):=zax.2 hi;have Ti':tokf ((i,none)::hp) i=none:=by unfold tokf;rw[gi]
 have hT:Turn c G ⟨env,hp⟩ w G ((i,none)::hp) [i]:=by
  refine⟨fun x hx=>?_,fun x hx=>rfl,fun b _=>rfl,fun b o ho=>ho,hr.top,fun x hx=>?_,fun x hx hs b hb=>?_,fun x hx y hy hxy h1 h2 b hb=>?_,fun x hx l hl=>?_⟩
  ·simp only[List.mem_cons,List.not_mem_nil,or_false] at hx;exact g1 x hx
  ·simp only[List.mem_cons,List.not_mem_nil,or_false] at hx;subst hx;exact .inr ⟨.inl rfl,fun p hp'=>by rw[Ti'] at hp';cases hp'⟩
  ·simp only[List.mem_cons,List.not_mem_nil,or_false] at hx;subst hx;rw[gi] at hs;cases hs
  ·simp only[List.mem_cons,List.not_mem_nil,or_false] at hx hy;exact absurd (hx.trans hy.symm) hxy
  ·have hk:=hr.kept x l hl;simp only[List.mem_cons,List.not_mem_nil,or_false] at hx;subst hx;have:=hk.2.2;rw[show tokf (St.mk env hp).hp x=some (n,k) from Ti] at this;cases this
 have hR:=hT.fin hr (fun x hx r hxr=>by
  simp only[List.mem_cons,List.not_mem_nil,or_false] at hx;subst hx;rw[gi] at hxr;cases hxr)
 refine hn a w ⟨G,hR.slot ?_⟩;have hs:=hr.slots t _ ht;cases hs with
 |gl h h2=>exact .d h
theorem R.tokMove {c:Ctx}{G:Gh}{s:St}{a:Act}{w:World} (hr:R c G s a w) (i j:Nat){n k:Nat} (m:Nat) (hi:getH s.hp i=some (.tok n k)) (h0:getH s.hp j=none) (hocc:zdu j s):
  ∃G':Gh,R c G' ⟨s.env,(j,some (.tok m k))::(i,none)::s.hp⟩ a w/\G'.F=G.F/\G'.loc j=G.loc i/\tokf ((j,some (Res.tok m k))::(i,none)::s.hp) j=some (m,k):=by
 have hji:j≠i:=fun e=>by subst e;rw[h0] at hi;cases hi
 have g1:∀x,x≠j->x≠i->getH ((j,some (Res.tok m k))::(i,none)::s.hp) x=getH s.hp x:=fun x h1 h2=>by
  rw[zam,if_neg h1,zam,if_neg h2]
 have gj:getH ((j,some (Res.tok m k))::(i,none)::s.hp) j=some (.tok m k):=by rw[zam,if_pos rfl]
 have gi:getH ((j,some (Res.tok m k))::(i,none)::s.hp) i=none:=by rw[zam,if_neg (fun e=>hji e.symm),zam,if_pos rfl]
 have Ti:tokf s.hp i=some (n,k):=zax.2 hi;have Tj:tokf ((j,some (Res.tok m k))::(i,none)::s.hp) j=some (m,k):=zax.2 gj;have Ti':tokf ((j,some (Res.tok m k))::(i,none)::s.hp) i=none:=by unfold tokf;rw[gi]
 let G':Gh:={ G with loc:=fun x=>bif Nat.beq x j then G.loc i else G.loc x }
 have lj:G'.loc j=G.loc i:=by simp[G']
 have lo:∀x,x≠j->G'.loc x=G.loc x:=fun x h=>by simp[G',zgy h]
 have hsi:(getH s.hp i).isSome:=by rw[hi];rfl
 have hT:Turn c G s w G' ((j,some (Res.tok m k))::(i,none)::s.hp) [i,j]:=by
  refine⟨fun x hx=>?_,fun x hx=>?_,fun b _=>rfl,fun b o ho=>ho,hr.top,fun x hx=>?_,fun x hx hs b hb=>?_,fun x hx y hy hxy h1 h2 b hb=>?_,fun x hx l hl=>?_⟩
  ·simp only[List.mem_cons,List.not_mem_nil,or_false,not_or] at hx;exact g1 x hx.2 hx.1
  ·simp only[List.mem_cons,List.not_mem_nil,or_false,not_or] at hx;exact lo x hx.2
  ·simp only[List.mem_cons,List.not_mem_nil,or_false] at hx;rcases hx with rfl|rfl
   ·exact .inr ⟨.inl (lo _ (fun e=>hji e.symm)),fun p hp'=>by rw[Ti'] at hp';cases hp'⟩
   ·exact .inl hocc
  ·simp only[List.mem_cons,List.not_mem_nil,or_false] at hx;rcases hx with rfl|rfl
   ·rw[gi] at hs;cases hs
   ·exact⟨i,by simp,hsi,by rw[lj] at hb;exact hb⟩
  ·simp only[List.mem_cons,List.not_mem_nil,or_false] at hx hy;rcases hx with rfl|rfl
   ·rw[gi] at h1;cases h1
   ·rcases hy with rfl|rfl
    ·rw[gi] at h2;cases h2
    ·exact absurd rfl hxy
  ·have hk:=hr.kept x l hl;simp only[List.mem_cons,List.not_mem_nil,or_false] at hx;rcases hx with rfl|rfl
   ·have:=hk.2.2;rw[Ti] at this;cases this
   ·have:=hk.2.1;rw[h0] at this;cases this
 have hR:=hT.fin hr (fun x hx r hxr=>by
  simp only[List.mem_cons,List.not_mem_nil,or_false] at hx;rcases hx with rfl|rfl
  ·rw[gi] at hxr;cases hxr
  ·rw[gj] at hxr;cases hxr;intro b hb;rw[lj] at hb;exact hr.heap i _ hi b hb)
 exact⟨G',hR,rfl,lj,Tj⟩
theorem CWp.tokRen {c:Ctx}{env:Env}{hp:Hp}{K:Kt}{code:Code} (t i j:Nat){n k:Nat}{xs:List (List D)} (ht:getE env t=some (.gl i xs)) (hi:getH hp i=some (.tok n k)) (hf:zrq env hp j=true)
  (hn:CWp c code ⟨(t,.gl j xs)::env,(j,some (.tok n k))::(i,none)::hp⟩ K):CWp c code ⟨env,hp⟩ K:=by
 rintro a w ⟨G,hr⟩
 obtain⟨h0,hocc⟩:=zsu hf;have Ti:tokf hp i=some (n,k):=zax.2 hi;obtain⟨G',hR,hF,lj,Tj⟩:=hr.tokMove i j n hi h0 hocc;refine hn a w ⟨G',hR.slot ?_⟩;have hs:=hr.slots t _ ht;cases hs with
 |gl h h2=>
  refine .gl (by rw[hF];exact h) (fun n' k' hT'=>?_);have hT2:tokf ((j,some (Res.tok n k))::(i,none)::hp) j=some (n',k'):=hT';rw[Tj] at hT2;cases hT2
  obtain⟨q1,q2⟩:=h2 n k Ti;refine⟨q1,fun hn'=>⟨(q2 hn').1, ?_⟩⟩;have:=(q2 hn').2;unfold Tip at this ⊢;rw[lj,hF];exact this
section
variable {c:Ctx}{all:Array Oper}{chk:List Rec->Prop}{os:List Oper}{recs:List Rec}{env:Env}{hp:Hp}{Q:St->Prop}
variable {d ty:Nat}{pos:String}{af:Array Edge}{g:Option (Nat×Bool)}{pg:List (Nat×AV)}{t:TypeId}{x:Operand}
theorem xaP {id e k yb:Nat} (j:Nat){xs:List (List D)}{o:Operand}{kd:IntKind}{n:Int}{b:Nat} (ht:SlT c.P t e k yb) (hg:GH all env g pg) (hd:Nat.blt d c.n=true)
  (hx:opd env x=some (.gv id xs)) (htok:getH hp id=some (.tok xs.length k)) (ho:opd env o=some (.d (.int kd n))) (hi:n = ↑b) (hb:b<=xs.length) (hpos:0<xs.length) (hf:zaA env hp [j]=true)
  (hn:Walk c all chk os (zap (pg++(opF x (.gv id xs)++opF o (.d (.int kd n)))) [(id,.tok xs.length k)] [j] ⟨some (d,.gv j (xs.take b)),[(j,some (.tok b k)),(id,none)]⟩::recs)
   ⟨(d,.gv j (xs.take b))::env,(j,some (.tok b k))::(id,none)::hp⟩ Q):
  Walk c all chk (⟨some d,.slice t x none (some o) none,ty,pos,af,g⟩::os) recs ⟨env,hp⟩ Q:=by
 refine⟨pg++(opF x (.gv id xs)++opF o (.d (.int kd n))),[(id,.tok xs.length k)],[j],_, ?_,zaB hg.facts (zaB (zbe hx) (zbe ho)),hh1 htok,zbB hf,hn⟩;intro s a w hrel hp' hh hcr K Q' hK;obtain⟨G,hr⟩:=hrel;have e1:=hr.opd (zbf hx (fun p hm=>hp' p (by simp[hm])));have e2:=hr.opd (zbf ho (fun p hm=>hp' p (by simp[hm])));have htk:=hh1' hh;obtain⟨h0,hocc⟩:=hcr j (by simp);obtain⟨⟨ad,cap0,hv0⟩,hcl⟩:=e1.gv_inv;have Ti:tokf s.hp id=some (xs.length,k):=zax.2 htk;obtain⟨hkx,htip⟩:=(hcl _ _ Ti).2 rfl;rcases htip with ⟨_,q2,_⟩|⟨bl,cap,cs,et,q1,q2,q3,q4,q5,q6,q7⟩
 ·omega
 obtain⟨G',hR,hF,lj,Tj⟩:=hr.tokMove id j b htk h0 hocc;unfold wpO;rw[if_pos (hg.gf.wanted hr (fun p hm=>hp' p (by simp[hm])))];unfold Oper.wp;have hbd:=zeT (P:=c.P) (w:=w) true xs.length cap (lo:=none) (hi:=some (.int kd b)) (a:=0) (b:=b) (.inl ⟨rfl,rfl⟩) (.inr ⟨kd,rfl⟩) (Nat.zero_le _) (by omega);have hrun:(execOp a.eval ⟨some d,.slice t x none (some o) none,ty,pos,af,g⟩).run c.P w = .ok (.value (.slice (some ⟨bl,0,none⟩) b cap)) w:=by
  simp only[execOp,e2.int_eq,hi,q2,Option.map_none,Option.map_some,Instr.sliceAt,Sem.run_bind,run_underlying ht.und,Result.andThen_ok,Instr.slice,hbd,ht.run_size,Sem.run_pure,Nat.zero_mul,Nat.sub_zero,zc1,Nat.zero_add,ite_self]
 rw[hrun,Oper.upon_value];have hl:(xs.take b).length=b:=by rw[List.length_take];omega
 have hA:RelA G' (tokf ((j,some (Res.tok b k))::(id,none)::s.hp)) w (.gv j (xs.take b)) (.slice (some ⟨bl,0,none⟩) b cap):=by
  refine .gv ⟨some ⟨bl,0,none⟩,cap,by rw[hl]⟩ (fun n' k' hT'=>?_);rw[Tj] at hT';cases hT'
  refine⟨by omega,fun _=>⟨fun y hy=>hkx y (List.mem_of_mem_take hy),.inr ⟨bl,cap,cs,et,by rw[lj];exact q1,rfl,by rw[hF];exact q3,q4,q5,by omega,fun i hi' jj hj'=>?_⟩⟩⟩;have hix:i<xs.length:=by rw[hl] at hi';omega
  have h9:=q7 i hix jj (by simpa [List.getElem_take] using hj');rw[hF];simpa [List.getElem_take] using h9
 exact hK _ _ ⟨G',hR.put hA hd⟩
end
theorem FnD.glD {P:Program}{f:FuncId}{i n k:Nat}{args:List AV}{xs:List (List D)} (h:FnD P f args [] (.gl i xs) [(i,some (.tok n k))]):FnD P f args [] (.d (.sl xs)) []:=by
 intro G w vals hok;refine(h G w vals hok).mono ?_;rintro e w' ⟨v,r',hp',G',rfl,⟨rfl,rfl⟩,hret⟩
 refine⟨v,_,_,G',rfl,⟨rfl,rfl⟩, ?_,fun id x hx=>(by cases hx),fun id id' h1=>(by cases h1),fun id h1=>(by cases h1),hret.frm,hret.top,fun id hi=>(by simp[zch,getH] at hi)⟩;have:=hret.res;cases this with
 |gl h1 h2=>exact .d h1
theorem FnD.gvRen {P:Program}{f:FuncId}{i k:Nat} (j:Nat){args:List AV}{xs:List (List D)} (h:FnD P f args [] (.gv i xs) [(i,some (.tok xs.length k))]):FnD P f args [] (.gv j xs) [(j,some (.tok xs.length k))]:=by
 intro G w vals hok;refine(h G w vals hok).mono ?_;rintro e w' ⟨v,r',hp',G',rfl,⟨rfl,rfl⟩,hret⟩
 have gi:getH ([(i,some (Res.tok xs.length k))]++[]) i=some (.tok xs.length k):=by simp[getH]
 have gj:∀x,(getH ([(j,some (Res.tok xs.length k))]++[]) x).isSome->x=j:=fun x hx=>by
  by_cases e:j=x
  ·exact e.symm
  ·simp[getH,zgy e] at hx
 have Ti:tokf ([(i,some (Res.tok xs.length k))]++[]) i=some (xs.length,k):=zax.2 gi;let G2:Gh:={ G' with loc:=fun x=>G'.loc i }
 refine⟨v,_,_,G2,rfl,⟨rfl,rfl⟩, ?_,fun id x hx=>?_,fun id id' h1 h2 hne=>absurd ((gj id h1).trans (gj id' h2).symm) hne,fun id h1 b hb=>hret.new i (by rw[gi];rfl) b hb,hret.frm,hret.top,fun id hi=>(by simp[zch,getH] at hi)⟩
 ·have:=hret.res;cases this with
  |gv hv h2=>
   refine .gv hv (fun n' k' hT'=>?_);have hT2:=zax.1 hT';have e1:Res.tok xs.length k=Res.tok n' k':=by simp[getH] at hT2;rw[hT2.1,hT2.2]
   cases e1
   obtain⟨q1,q2⟩:=h2 _ _ Ti;refine⟨q1,fun hn'=>⟨(q2 hn').1, ?_⟩⟩;have:=(q2 hn').2;unfold TipV at this ⊢;exact this
 ·have e1:=gj id (by rw[hx];rfl);subst e1;have e2:x=Res.tok xs.length k:=by simp[getH] at hx;exact hx.symm
  subst e2;intro b hb;exact hret.heap i _ gi b hb
theorem FnD.gvD {P:Program}{f:FuncId}{i k:Nat}{args:List AV}{xs:List (List D)} (h:FnD P f args [] (.gv i xs) [(i,some (.tok xs.length k))]):FnD P f args [] (.d (.sl xs)) []:=by
 intro G w vals hok;refine(h G w vals hok).mono ?_;rintro e w' ⟨v,r',hp',G',rfl,⟨rfl,rfl⟩,hret⟩
 have gi:getH ([(i,some (Res.tok xs.length k))]++[]) i=some (.tok xs.length k):=by simp[getH]
 have Ti:tokf ([(i,some (Res.tok xs.length k))]++[]) i=some (xs.length,k):=zax.2 gi;have hown:∀b,b∉zc9 G []:=fun b hb=>by simp[zc9] at hb
 have hnew:∀b,b∈G'.loc i->w.heap.size<=b:=fun b hb=>(hret.new i (by rw[gi];rfl) b hb).resolve_left (hown b);have hlt:∀b,b∈G'.loc i->b<w'.heap.size:=hret.heap i _ gi;have hres:=hret.res;obtain⟨hv,hcl⟩:=hres.gv_inv;obtain⟨hkx,htip⟩:=(hcl _ _ Ti).2 rfl;rcases htip with ⟨_,q2,q3⟩|⟨bl,cap,cs,et,q1,q2,q3,q4,q5,q6,q7⟩
 ·have hxs:xs=[]:=List.eq_nil_of_length_eq_zero q2;subst hxs;refine⟨v,_,_,G',rfl,⟨rfl,rfl⟩, ?_,fun id x hx=>(by cases hx),fun id id' h1=>(by cases h1),fun id h1=>(by cases h1),hret.frm,hret.top,fun id hi=>(by simp[zch,getH] at hi)⟩;rw[q3];exact .d .nil
 ·let G2:Gh:={ G' with F:=fun x=>bif Nat.beq x bl then cs.size else G'.F x }
  have hin:G2.F bl=cs.size:=by simp[G2]
  have hout:∀x,x≠bl->G2.F x=G'.F x:=fun x hx=>by simp[G2,zgy hx]
  have hbl:bl∈G'.loc i:=by rw[q1];simp
  have hle:∀b o,o<G'.F b->o<G2.F b:=fun x o ho=>by
   by_cases hx:x=bl
   ·subst hx;rw[q3] at ho;omega
   ·rw[hout x hx];exact ho
  refine⟨v,_,_,G2,rfl,⟨rfl,rfl⟩, ?_,fun id x hx=>(by cases hx),fun id id' h1=>(by cases h1),fun id h1=>(by cases h1), ?_,fun x hx=>?_,fun id hi=>(by simp[zch,getH] at hi)⟩
  ·rw[q2];have hsz:xs.length*k<=cs.size:=Nat.le_trans (Nat.mul_le_mul_right _ q6) q5;refine .d (.sl xs k bl 0 cap (fun n=>cs.getD n undef) hkx q6 (fun q hq=>⟨by rw[hin];omega, ?_⟩) (fun q hq jj hj=>?_))
   ·have:q<cs.size:=by omega
    simp[World.cell?,q4,this]
   ·exact(q7 q hq jj hj).mono (fun b o ho=>⟨hle b o ho,rfl⟩)
  ·have hf:=hret.frm;exact⟨hf.os,hf.tape,hf.output,hf.size,fun x hx hn=>⟨(hf.block x hx hn).1,by
    rw[hout x (fun e=>by subst e;have:=hnew x hbl;omega)];exact(hf.block x hx hn).2⟩,fun x o ho=>⟨hle x o (hf.cell x o ho).1,(hf.cell x o ho).2⟩⟩
  ·by_cases hx':x=bl
   ·subst hx';have:=hlt x hbl;omega
   ·rw[hout x hx'];exact hret.top x hx
theorem zqf {zs:List AV}:∀ {n i j:Nat},i<n->j<zs.length->(zbc n zs)[i*zs.length+j]?=zs[j]?
 |n+1,0,j,_,hj=>by
  simp only[zbc,Nat.zero_mul,Nat.zero_add];rw[List.getElem?_append_left hj]
 |n+1,i+1,j,hi,hj=>by
  simp only[zbc];rw[List.getElem?_append_right (by rw[Nat.add_mul];omega),show(i+1)*zs.length+j-zs.length=i*zs.length+j by rw[Nat.add_mul];omega];exact zqf (by omega) hj
section
variable {c:Ctx}
theorem R.freshV {G:Gh}{s:St}{a:Act}{w:World} (hr:R c G s a w){id k nc:Nat}{es:List (List D)}{cells:Array Value}{e:TypeId} (htok:getH s.hp id=some (.tok 0 k)) (hpos:0<es.length)
  (hk:∀x,x∈es->x.length=k) (hcs:cells.size=nc*k) (hn:es.length<=nc)
  (hrow:∀i (hi:i<es.length) j (hj:j<es[i].length),RelD G.F w es[i][j] (cells.getD (i*k+j) undef)):
  ∃G',R c G' { s with hp:=(id,some (.tok es.length k))::s.hp } a (w.drew.alloc (.cells cells e))/\
   RelA G' (tokf ((id,some (.tok es.length k))::s.hp)) (w.drew.alloc (.cells cells e)) (.gv id es) (.slice (some ⟨w.heap.size,0,none⟩) es.length nc):=by
 let G':Gh:={ F:=G.F,loc:=fun j=>bif Nat.beq j id then [w.heap.size] else G.loc j }
 have hlt:∀b o,o<G.F b->b<w.heap.size:=fun b o ho=>by
  rcases Nat.lt_or_ge b w.heap.size with h|h
  ·exact h
  ·rw[hr.top b h] at ho;omega
 have hcell:∀b o,o<G.F b->o<G'.F b/\(w.drew.alloc (.cells cells e)).cell? ⟨b,o,none⟩=w.cell? ⟨b,o,none⟩:=fun b o ho=>by
  have hb:=hlt b o ho;exact⟨ho,by rw[World.cell?_alloc_lt w.drew _ _ hb];rfl⟩
 have hlocne:∀j,j≠id->G'.loc j=G.loc j:=fun j hj=>by
  have:Nat.beq j id=false:=by
   cases h:Nat.beq j id with
   |true=>exact absurd (Nat.eq_of_beq_eq_true h) hj
   |false=>rfl
  simp[G',this]
 have hlocid:G'.loc id=[w.heap.size]:=by simp[G']
 have hT':tokf ((id,some (.tok es.length k))::s.hp) id=some (es.length,k):=zax.2 (by rw[zam,if_pos rfl]);refine⟨G',hr.retok (G':=G') htok hpos hcell hlocne (fun b hb _=>⟨zeY (w:=w.drew) hb,rfl⟩) (fun b hb=>by rw[hlocid] at hb;simp at hb;subst hb;simp)
  (fun b hb=>by rw[hlocid] at hb;simp at hb;exact .inr (by omega)) rfl rfl rfl (by simp) (fun b hb=>?_), ?_⟩
 ·have hb':w.heap.size+1<=b:=by simpa using hb
  exact hr.top b (by omega)
 refine .gv ⟨_,_,rfl⟩ (fun n' k' hm'=>?_);rw[hT'] at hm';cases hm'
 exact⟨Nat.le_refl _,fun _=>⟨hk,.inr ⟨w.heap.size,nc,cells,e,hlocid,rfl,hr.top _ (Nat.le_refl _),zfb (w:=w.drew),by rw[hcs];exact Nat.le_refl _,hn,fun i hi j hj=>(hrow i hi j hj).mono hcell⟩⟩⟩
end
section
variable {c:Ctx}{all:Array Oper}{chk:List Rec->Prop}{os:List Oper}{recs:List Rec}{env:Env}{hp:Hp}{Q:St->Prop}
variable {d ty:Nat}{pos:String}{af:Array Edge}{g:Option (Nat×Bool)}{pg:List (Nat×AV)}{t:TypeId}{x y:Operand}
theorem RelA.nils_eq {G:Gh}{T:TokF}{w:World}{v:Value} (h:RelA G T w .nils v):v = .slice none 0 0:=by cases h;rfl
theorem Walk.capN {at_ e k yb:Nat} (ht:SlT c.P at_ e k yb) (hg:GH all env g pg) (hd:Nat.blt d c.n=true) (hx:opd env x=some .nils)
  (hn:Walk c all chk os (zap (pg++opF x .nils) [] [] ⟨some (d,.d (.i 0)),[]⟩::recs) ⟨(d,.d (.i 0))::env,hp⟩ Q):
  Walk c all chk (⟨some d,.call ⟨.builtin .cap,#[x],#[at_]⟩,ty,pos,af,g⟩::os) recs ⟨env,hp⟩ Q:=
 xbb hg hd hx (fun a G T w h=>⟨.int .i64 (0:Nat),by
  simp[execOp,resolve,invoke,builtin,h.nils_eq,Builtin.cap_,run_underlying ht.und,goInt],.d (.int _ _)⟩) hn
theorem Walk.cutN_h {e k yb:Nat}{o:Operand}{kd:IntKind} (ht:SlT c.P t e k yb) (hg:GH all env g pg) (hd:Nat.blt d c.n=true)
  (hx:opd env x=some .nils) (ho:opd env o=some (.d (.int kd 0)))
  (hn:Walk c all chk os (zap (pg++(opF x .nils++opF o (.d (.int kd 0)))) [] [] ⟨some (d,.nils),[]⟩::recs) ⟨(d,.nils)::env,hp⟩ Q):
  Walk c all chk (⟨some d,.slice t x none (some o) none,ty,pos,af,g⟩::os) recs ⟨env,hp⟩ Q:=by
 refine xbc hg hd hx ho (fun a G T w h1 h2=>⟨.slice none 0 0, ?_,.nils⟩) hn;have hbd:=zeT (P:=c.P) (w:=w) true 0 0 (lo:=none) (hi:=some (.int kd (0:Nat))) (a:=0) (b:=0) (.inl ⟨rfl,rfl⟩) (.inr ⟨kd,rfl⟩) (Nat.le_refl _) (Nat.le_refl _);have e2:a.eval o = .int kd ((0:Nat):Int):=h2.int_eq;simp only[execOp,e2,h1.nils_eq,Option.map_none,Option.map_some,Instr.sliceAt,Sem.run_bind,run_underlying ht.und,Result.andThen_ok,Instr.slice,hbd,ht.run_size,Sem.run_pure,Nat.zero_mul,Nat.sub_zero,ite_self]
theorem Walk.growZ {e k yb n:Nat} (id:Nat){zs:List AV}{zr:List D}{tn:TypeId}{kn:IntKind}{m:Int} (ht:SlT c.P t e k yb) (htn:c.P.underlying tn=some (.int kn)) (hz:TyZ c.P e k zs) (hzk:zs.length=k) (hk:0<k) (hzr:toDL zs=some zr)
  (hg:GH all env g pg) (hd:Nat.blt d c.n=true) (hx:opd env x=some .nils) (hy:opd env y=some (.d (.i m))) (hm:m = ↑n) (hn0:0<n) (hb:n*yb<=281474976710656) (h63:(n:Int)<=9223372036854775807) (hf:zaA env hp [id]=true)
  (hn:Walk c all chk os (zap (pg++(opF x .nils++opF y (.d (.i m)))) [] [id] ⟨some (d,.gv id (List.replicate n zr)),[(id,some (.tok n k)),(id,some (.tok 0 k))]⟩::recs)
   ⟨(d,.gv id (List.replicate n zr))::env,(id,some (.tok n k))::(id,some (.tok 0 k))::hp⟩ Q):
  Walk c all chk (⟨some d,.call ⟨.builtin .append,#[x,y],#[t,tn]⟩,ty,pos,af,g⟩::os) recs ⟨env,hp⟩ Q:=by
 refine⟨pg++(opF x .nils++opF y (.d (.i m))),[],[id],_, ?_,zaB hg.facts (zaB (zbe hx) (zbe hy)),by simp,zbB hf,hn⟩;intro s a w hrel hp' hh hcr K Q' hK;obtain⟨G,hr⟩:=hrel;have e1:=(hr.opd (zbf hx (fun p hm=>hp' p (by simp[hm])))).nils_eq;have e2:=(hr.opd (zbf hy (fun p hm=>hp' p (by simp[hm])))).int_eq;obtain⟨h0,hocc⟩:=hcr id (by simp);obtain⟨G1,hr1,_⟩:=hr.mkTokV k h0 hocc;obtain⟨ie,hi1,hi2,hi3⟩:=ht.inf;obtain⟨i',z,z1,z2,z3,z4⟩:=hz.inf;rw[hi1] at z1;cases z1
 have hrun:=Go.Lib.run_append_nil_zeros (P:=c.P) w t tn ty e ie z .i64 kn ht.und htn hi1 z3 n hn0 (by omega) h63 (by rw[hi3];exact hb);have hz0:=zb2 (G:=G1) (T:=tokf ((id,some (.tok 0 k))::s.hp)) (w:=w) z4;have hzz:=zfB (by simpa using hz0) n (by omega);obtain⟨c1,c2⟩:=zix hzr;have hsz:z.cells.size=k:=by have:=hz0.1;simp at this;omega
 have hle:n<=grownCap w n 0 e:=by have:=grownCap_ge w n 0 e;omega
 have ez:Builtin.zeroCells z.cells n=(Array.range (n*zs.length)).map (z.cells[· % z.cells.size]!):=by
  unfold Builtin.zeroCells;rw[hsz,hzk]
 rw[<-ez] at hzz;have hl:(List.replicate n zr).length=n:=List.length_replicate;have hcs:(Builtin.zeroCells z.cells n++Builtin.zeroCells z.cells (grownCap w n 0 e-n)).size=grownCap w n 0 e*k:=by
  simp only[Array.size_append,size_zeroCells,hsz,<-Nat.add_mul];congr 1;omega
 have key:∀i (hi:i<(List.replicate n zr).length) j (hj:j<(List.replicate n zr)[i].length),RelD G1.F w (List.replicate n zr)[i][j] ((Builtin.zeroCells z.cells n++Builtin.zeroCells z.cells (grownCap w n 0 e-n)).getD (i*k+j) undef):=by
  intro i hi j hj;have hi2:i<n:=by simpa using hi
  have hj2:j<zr.length:=by simpa using hj
  have hj3:j<zs.length:=by omega
  have hlt:i*k+j<(Builtin.zeroCells z.cells n).size:=by
   rw[size_zeroCells,hsz];have:(i+1)*k<=n*k:=Nat.mul_le_mul_right _ (by omega);rw[Nat.add_mul] at this;omega
  have hlz:i*k+j<(zbc n zs).length:=by have:=hzz.1;rw[<-this];exact hlt
  have h5:=hzz.2 (i*k+j) hlz hlt;have h6:=zqf (zs:=zs) hi2 hj3;rw[hzk,List.getElem?_eq_getElem hlz,List.getElem?_eq_getElem hj3] at h6;rw[Option.some.inj h6] at h5;have h7:=h5.toD (c2 j hj3 hj2);have e5:(Builtin.zeroCells z.cells n++Builtin.zeroCells z.cells (grownCap w n 0 e-n)).getD (i*k+j) undef=(Builtin.zeroCells z.cells n)[i*k+j]:=by
   rw[Array.getD_eq_getD_getElem?,Array.getElem?_append_left hlt,Array.getElem?_eq_getElem hlt];rfl
  rw[e5];simp only[List.getElem_replicate];exact h7
 obtain⟨G',hR,hA⟩:=hr1.freshV (nc:=grownCap w n 0 e) (e:=e) (es:=List.replicate n zr) (by rw[zam,if_pos rfl]) (by rw[hl];exact hn0) (fun y hy=>by obtain⟨_,rfl⟩:=List.mem_replicate.1 hy;omega) hcs (by rw[hl];exact hle) key;rw[hl] at hR hA;unfold wpO;rw[if_pos (hg.gf.wanted hr (fun p hm=>hp' p (by simp[hm])))];unfold Oper.wp;have:(execOp a.eval ⟨some d,.call ⟨.builtin .append,#[x,y],#[t,tn]⟩,ty,pos,af,g⟩).run c.P w = .ok (.value (.slice (some ⟨w.heap.size,0,none⟩) n (grownCap w n 0 e))) (w.drew.alloc (.cells (Builtin.zeroCells z.cells n++Builtin.zeroCells z.cells (grownCap w n 0 e-n)) e)):=by
  simp only[execOp,resolve,invoke,builtin,Sem.run_bind,Sem.run_pure,Result.andThen_ok,List.map_toArray,xae,List.map_nil,e1,e2,hm,hrun]
 rw[this,Oper.upon_value];exact hK _ _ ⟨G',hR.put hA hd⟩
end
end Go.Proofs.YtpgdedpljcedpaaGreat
namespace Go.Proofs.YtpgdedpljcedpaaGreat
open Go
set_option linter.unusedSimpArgs false
set_option linter.unusedVariables false
set_option maxRecDepth 100000
set_option maxHeartbeats 2000000
mutual
def cntE (m:Int):Ex->Int
 | .mk _ _ _ ks=>zeL m 1 ks
def zeL (m n:Int):List Ex->Int
 | []=>n
 |k::r=>if n<=m then zeL m (n+cntE (m-n) k) r else n
end
theorem ztH {m n:Int}{l:List Ex} (h:¬n<=m):zeL m n l=n:=by cases l<;>simp[zeL,h]
mutual
theorem zsR:∀(v:Ex) (m:Int),1<=cntE m v/\cntE m v<=v.size
 | .mk _ _ _ ks,m=>by
  have:=zl5 ks m 1 (by omega);simp only[cntE,Ex.size];push_cast;omega
theorem zl5:∀(l:List Ex) (m n:Int),1<=n->1<=zeL m n l/\zeL m n l<=n+Exs.size l
 | [],m,n,h=>by simp[zeL,Exs.size];omega
 |k::r,m,n,h=>by
  have h1:=zsR k (m-n);have h2:=zl5 r m (n+cntE (m-n) k) (by omega);simp only[zeL,Exs.size];split
  ·push_cast;omega
  ·push_cast;omega
end
mutual
theorem zv3:∀(v:Ex) (m:Int),(cntE m v<=m↔(v.size:Int)<=m)/\(cntE m v<=m->cntE m v=v.size)
 | .mk _ _ _ ks,m=>by
  have:=zpk ks m 1;simp only[cntE,Ex.size];push_cast;exact this
theorem zpk:∀(l:List Ex) (m n:Int),(zeL m n l<=m↔n+(Exs.size l:Int)<=m)/\(zeL m n l<=m->zeL m n l=n+Exs.size l)
 | [],m,n=>by simp[zeL,Exs.size]
 |k::r,m,n=>by
  have h1:=zv3 k (m-n);have h2:=zpk r m (n+cntE (m-n) k);have h3:=zl5 r m (n+cntE (m-n) k);have h4:=zsR k (m-n);simp only[zeL,Exs.size];push_cast
  by_cases hn:n<=m
  ·rw[if_pos hn];by_cases h5:cntE (m-n) k<=m-n
   ·have h6:=h1.2 h5;rw[h6] at h2 ⊢;constructor
    ·rw[h2.1];constructor<;>intro h<;>omega
    ·intro h;rw[h2.2 h];omega
   ·have h7:¬(k.size:Int)<=m-n:=fun h=>h5 (h1.1.2 h);have h8:¬n+cntE (m-n) k<=m:=by omega
    rw[ztH h8];constructor
    ·constructor<;>intro h<;>omega
    ·intro h;omega
  ·rw[if_neg hn];constructor
   ·constructor<;>intro h<;>omega
   ·intro h;omega
end
def TyOk (n:Nat) (t:Ty):Prop:=TyIn n t/\(t.data = -1->t.index=0)
def gdOk (g:Gd) (vars:List Vt):Bool:=if g.op=0 then decide (g.var=0/\g.n=0) else decide (1<=g.op/\g.op<=2/\0<=g.n/\g.n<=9)&&decide ((⟨g.var,⟨-1,0⟩⟩:Vt)∈vars)
def zeH (w:List Data) (t:Ty) (p:Pat):List Vt:=zdK (zaT w 10 t p 0).1
def clOk (w:List Data) (t:Ty) (c:Cl):Bool:=isP w t c.pat&&gdOk c.g (zeH w t c.pat)
def za4 (w:List Data) (t:Ty) (l:List Cl):Bool:=za7 w t&&(decide ((l.length:Int)<=8)&& !l.any fun c=> !clOk w t c)
theorem ziJ {xs:List Cl}{f:Nat}{caps:List AV}{hp:Hp}{p:Cl->Bool} (hs:xs.length<=1000000000000) (hcal:Callee Tryz.prog f)
  (hf:∀t∈xs,FnD Tryz.prog f ([.agg [.d (.i t.pat.op),.d (.i t.pat.ctor),.d (.i t.pat.n),.d (.i t.pat.m),.d (.i t.pat.var),.d (zae t.pat.kids),.d (.i t.g.op),.d (.i t.g.var),.d (.i t.g.n)]]++caps) hp (.d (.bool (p t))) []) (k1:subH hp hp) (k2:zd2 hp=true) (k3:za8 hp [] (.d .nilp) []=true):
  FnD Tryz.prog 185 [.d (zbZ xs),.fn f caps] hp (.d (.i (idxF p xs 0))) []:=by
 refine bd Tryz.f185 19 [] [] fun w0 F0 own kept hk=>?_;refine xak (ι:=List (Cl)×List (Cl)) hk (fun x=>[(8,.d (.i (x.1.length:Int)))]) [4,5,9,10,11,12,13,14,15,16,17,18] (fun x=>[]) (fun x=>x.1++x.2=xs/\idxF p x.2 x.1.length=idxF p xs 0) (fun x=>x.2.length) ([],xs) ⟨by simp,rfl⟩ ⟨⟨_,rfl,xaq ?_⟩,trivial⟩ trivial (fun x=>zg6 hp) (fun x hg1=>?_);focus (rfl)
 obtain⟨pre,rest⟩:=x;dsimp only at hg1 ⊢;refine evc [] [] ?_;refine sq ?_ ?_<;>intro h1 h1p h1s<;>(try simp only[Q] at h1p);rcases rest with _|⟨y,rest⟩
 ·exfalso;simp_all
 refine xaV sl59 .none rfl rfl rfl rfl (zaI hg1.1) rfl ?_;refine ev ?_;refine xaJ (cr:=[]) hcal (hf y (by rw[<-hg1.1];simp)) rfl .none rfl rfl rfl (LeL.refl _) k1 k2 (zc8 k3 _) rfl ?_;refine tv ?_;refine sq ?_ ?_<;>intro h2 h2p h2s<;>(try simp only[Q] at h2p);focus (refine rn [] (r1 rfl) (.eqd ?_) ⟨rfl,rfl⟩ (fun _ _ h=>h) (fun _ h=>h);all_goals (rw[<-hg1.2];simp[idxF,h1s,h1p,h2s,h2p]))
 refine ar ?_;refine xah ((pre++[y],rest)) ⟨⟨(by have hz:=hg1.1;rw[<-hz];simp),(by rw[<-hg1.2];simp[idxF,h2s])⟩,(by simp),Sub.x (by kernel_rfl) (by kernel_rfl) ⟨⟨_,rfl,xaq ?_⟩,trivial⟩ (by simp) (by simp[zdO]) trivial⟩;focus ((simp;done))
 have hrest:rest=[]:=by
  rcases rest with _|⟨a,b⟩
  ·rfl
  ·exfalso;have hz:=congrArg List.length (hg1.1);simp only[xaa,xab,xac] at hz;omega
 subst hrest;focus (refine rn [] (r1 rfl) (.eqd ?_) ⟨rfl,rfl⟩ (fun _ _ h=>h) (fun _ h=>h);all_goals (rw[<-hg1.2];simp[idxF,h1s,h1p]))
theorem zhf {xs:List Cl}{f:Nat}{caps:List AV}{hp:Hp}{p:Cl->Bool} (hs:xs.length<=1000000000000) (hcal:Callee Tryz.prog f)
  (hf:∀t∈xs,FnD Tryz.prog f ([.agg [.d (.i t.pat.op),.d (.i t.pat.ctor),.d (.i t.pat.n),.d (.i t.pat.m),.d (.i t.pat.var),.d (zae t.pat.kids),.d (.i t.g.op),.d (.i t.g.var),.d (.i t.g.n)]]++caps) hp (.d (.bool (p t))) []) (k1:subH hp hp) (k2:zd2 hp=true) (k3:za8 hp [] (.d .nilp) []=true):
  FnD Tryz.prog 137 [.d (zbZ xs),.fn f caps] hp (.d (.bool (xs.any p))) []:=by
 refine bd Tryz.f137 9 [] [] fun w0 F0 own kept hk=>?_;refine Walk.call (cr:=[]) zyR (ziJ hs hcal hf k1 k2 k3) rfl .none rfl rfl (LeL.refl _) k1 k2 (zc8 k3 _) rfl ?_;refine ev ?_;refine rn [] (r1 rfl) (.eqd ?_) ⟨rfl,rfl⟩ (fun _ _ h=>h) (fun _ h=>h);rotate_left;all_goals (exact congrArg D.bool (zfd p xs 0))
theorem zjN (w:List Data) (t:Ty) (p:Pat):(zeH w t p).length<=6:=(zgj w 10 t p 0).2
theorem znl {g:Gd}{vars:List Vt} (hv:vars.length<=1000000000000):FnD Tryz.prog 169 [.agg [.d (.i g.op),.d (.i g.var),.d (.i g.n)],.d (zc4 vars)] [] (.d (.bool (gdOk g vars))) []:=by
 refine bd Tryz.f169 27 [10] [] fun w0 F0 own kept hk=>?_;refine bx 3002 ?_;refine evs [10] [] ?_;refine sq ?_ ?_<;>intro h1 h1p h1s<;>(try simp only[Q,zao] at h1p);refine bu [] [] st48 ?_;refine Walk.eqV eq48 .none rfl rfl rfl rfl rfl ?_;refine evs [10] [] ?_;refine rq ?_;rotate_left;refine wc zcS (zbg) rfl rfl ?_;refine evs [10] [] ?_;refine sq ?_ ?_<;>intro h2 h2p h2s<;>(try simp only[Q,zao] at h2p);refine Walk.call (cr:=[]) zcS (zbg) rfl (.some rfl rfl h2) rfl rfl (LeL.refl _) trivial rfl rfl rfl ?_;refine evs [10] [(14,true)] ?_ ⟨⟨_,rfl,h2⟩,trivial⟩;refine sq ?_ ?_<;>intro h3 h3p h3s<;>(try simp only[Q,zao] at h3p);refine Walk.build st25 (ks:=[0]) (xs:=[_]) rfl rfl (.some rfl rfl h3) rfl rfl rfl ?_;refine Walk.build zt8 (ks:=[0,1]) (xs:=[_,_]) rfl rfl (.some rfl rfl h3) rfl rfl rfl ?_;refine Walk.call (cr:=[]) zuF (zfz (v:=⟨g.var,⟨-1,0⟩⟩) hv) rfl (.some rfl rfl h3) rfl rfl (LeL.refl _) trivial rfl rfl rfl ?_;refine evs [10] [(19,true)] ?_ ⟨⟨_,rfl,h3⟩,trivial⟩;refine rq ?_;rotate_left;refine rq ?_;rotate_left;refine sqF ?_;refine rq ?_;rotate_left;all_goals (refine congrArg D.bool ?_;unfold gdOk;first|(rw[if_pos (by omega)];simp_all;done)|(rw[if_neg (by omega)];simp_all[zao];done)|(rw[if_neg (by omega)];simp_all[zao];omega))
theorem zmh {w:List Data} (hw:WT w){t:Ty}{c:Cl} (ht:TyIn w.length t) (hok:c.pat.ok):
  FnD Tryz.prog 117 [.d (zal w),.agg [.d (.i t.data),.d (.i t.index)],.agg [.d (.i c.pat.op),.d (.i c.pat.ctor),.d (.i c.pat.n),.d (.i c.pat.m),.d (.i c.pat.var),.d (zae c.pat.kids),.d (.i c.g.op),.d (.i c.g.var),.d (.i c.g.n)]] [] (.d (.bool (clOk w t c))) []:=by
 have ht':TyIn w.length ⟨t.data,t.index⟩:=ht;have hvl:=zjN w t c.pat;refine bd Tryz.f117 24 [] [] fun w0 F0 own kept hk=>?_;refine bx 3004 ?_;refine bx 3005 ?_;refine ev ?_;refine wc zup (zf2 hw ht' hok) rfl rfl ?_;refine ev ?_;refine sq ?_ ?_<;>intro h1 h1p h1s<;>(try simp only[Q] at h1p);refine Walk.call (cr:=[]) zyJ (znl (g:=c.g) (vars:=zeH w t c.pat) (by omega)) rfl (.some rfl rfl h1) rfl rfl (LeL.refl _) trivial rfl rfl rfl ?_;refine evs [] [(18,true)] ?_ ⟨⟨_,rfl,h1⟩,trivial⟩;refine rq ?_;rotate_left;refine rq ?_;rotate_left;all_goals (refine congrArg D.bool ?_;unfold clOk;have hte:(⟨t.data,t.index⟩:Ty)=t:=rfl;(simp_all;done))
theorem ziH {w:List Data} (hw:WT w){a k:Int}{c:Cl} (ht:TyIn w.length ⟨a,k⟩) (hok:c.pat.ok):
  FnD Tryz.prog 138 [.agg [.d (.i c.pat.op),.d (.i c.pat.ctor),.d (.i c.pat.n),.d (.i c.pat.m),.d (.i c.pat.var),.d (zae c.pat.kids),.d (.i c.g.op),.d (.i c.g.var),.d (.i c.g.n)],.ref 3003 0,.ref 3004 0] [(3003,some (.box [.d (zal w)])),(3004,some (.box [.d (.i a),.d (.i k)]))] (.d (.bool (!clOk w ⟨a,k⟩ c))) []:=by
 refine bd Tryz.f138 10 [] [] fun w0 F0 own kept hk=>?_;refine bx 3901 ?_;refine ev ?_;refine wc zys (zmh (t:=⟨a,k⟩) (c:=c) hw ht hok) rfl rfl ?_;refine ev ?_;refine rn [] (r1 rfl) (.eqd ?_) ⟨rfl,rfl⟩ (SubH.get ⟨rfl,⟨rfl,trivial⟩⟩) (fun _ h=>h);rotate_left;all_goals (rfl)
theorem zju {w:List Data} (hs:WSmall w){a k:Int}{l:List Cl} (hl:ClsOk l):
  FnD Tryz.prog 81 [.d (zal w),.agg [.d (.i a),.d (.i k)],.d (zbZ l)] [] (.d (.bool (za4 w ⟨a,k⟩ l))) []:=by
 have hll:=hl.1;refine bd Tryz.f81 21 [] [] fun w0 F0 own kept hk=>?_;refine bx 3003 ?_;refine bx 3004 ?_;refine ev ?_;refine wc ztC (zeX hs) rfl rfl ?_;refine ev ?_;refine sq ?_ ?_<;>intro h1 h1p h1s<;>(try simp only[Q] at h1p);refine sq ?_ ?_<;>intro h2 h2p h2s<;>(try simp only[Q] at h2p);refine xaL (xs:=[_,_]) rfl (.some rfl rfl h2) rfl rfl ?_;refine Walk.call (cr:=[]) zyx (zhf (p:=fun c=> !clOk w ⟨a,k⟩ c) hl.1 zyy (fun t htm=>ziH (zh2 hs (zd6 (by assumption)).1) (zd6 (by assumption)).2.1 (hl.2 t htm)) ⟨rfl,rfl,trivial⟩ rfl rfl) rfl (.some rfl rfl h2) rfl rfl (LeL.refl _) ⟨rfl,rfl,trivial⟩ rfl rfl rfl ?_;refine evs [] [(15,true)] ?_ ⟨⟨_,rfl,h2⟩,trivial⟩;refine rq ?_;rotate_left;refine rq ?_;rotate_left;refine sqF ?_;refine rq ?_;rotate_left;all_goals (refine congrArg D.bool ?_;unfold za4;first|(simp_all;done)|(simp_all;omega))
def AZ (w:List Data):Prop:=∀t c,c∈zah w t->TyIn w.length t->∀u∈zaa w t c,u.data = -1->u.index=0
theorem zwR {w:List Data} (hv:za3 w=true):AZ w:=by
 have hW:=(zcd w).1 hv;rintro ⟨a,k⟩ c hc ht u hu hd
 obtain⟨d,rfl,h1,j,rfl,h3⟩:=zcF ht hc;have hco:=hW.ctor _ (zac h1) _ (zac h3);simp only[zbF,xad,decide_eq_true_eq,Bool.not_eq_true',List.any_eq_false,Bool.not_eq_false'] at hco;have hall:=hco.2.2.2;simp only[zaa,Int.toNat_natCast] at hu;obtain⟨x,hx,rfl⟩:=List.mem_map.1 hu;have hxo:=hall x hx;simp only[zbR,zao,Bool.or_eq_true,xad,decide_eq_true_eq,and_true,Bool.not_eq_true',Bool.not_eq_false] at hxo;unfold zcB at hd ⊢;split at hd
 ·rename_i hi;rw[if_pos hi];dsimp only at hd ⊢;omega
 ·rename_i hi;rw[if_neg hi];omega
theorem zvL {n:Nat}{t:Ty} (h:zeG n t=true):TyOk n t:=by
 refine⟨zqa h,fun hd=>?_⟩;simp only[zeG,zao,Bool.or_eq_true,xad,decide_eq_true_eq,and_true] at h;omega
theorem zqc {w:List Data}{t:Ty}{p:Pat} (h:isP w t p=true):zeH w t p=zaC w 10 t p:=by
 unfold isP at h;simp only[xad,decide_eq_true_eq] at h;have e:=(zfh w 10 t p 0).1;have hw:zbO w 10 t p 0=true:=by
  unfold zbO;rw[h.1,h.2.2,decide_eq_true (by omega)];rfl
 rw[if_pos hw] at e;unfold zeH;rw[e];rfl
theorem zvR {w:List Data}{t:Ty}{p:Pat} (h:isP w t p=true):zcm (zaC w 10 t p)=true:=by
 unfold isP at h;simp only[xad] at h;exact zey w 10 t p h.1 h.2.2
theorem zso {w:List Data} (hw:WT w) (haz:AZ w):∀(n:Nat){t:Ty}{p:Pat},zaq w n t p=true->TyOk w.length t->∀v∈zaC w n t p,TyOk w.length v.ty
 |0,t,p,h,_=>by simp[zaq] at h
 |n+1,t,p,h,ht=>by
  obtain⟨ho,hlen⟩:=zbJ h;intro v hv;have hto:∀u∈zag w t p,TyOk w.length u:=fun u hu=>by
   refine⟨zgR (a:=t.data) (k:=t.index) hw ht.1 ho u hu,fun hd=>?_⟩;unfold zag at hu;split at hu
   ·rename_i h4;exact haz t p.ctor (zb8 ho h4) ht.1 u hu hd
   ·split at hu
    ·simp only[List.mem_cons,List.not_mem_nil,or_false,or_self] at hu;rw[hu] at hd ⊢;exact ht.2 hd
    ·split at hu
     ·simp only[List.mem_cons,List.not_mem_nil,or_false] at hu;rw[hu] at hd ⊢;exact ht.2 hd
     ·simp at hu
  simp only[zaC,List.mem_append] at hv;rcases hv with hv|hv
  ·unfold zaR at hv;split at hv
   ·simp only[List.mem_cons,List.not_mem_nil,or_false] at hv;rw[hv];exact ht
   ·simp at hv
  ·have key:∀(a:List Ty) (b:List Pat),(∀i,i<a.length->i<b.length->∀v∈zaC w n (nth a i) (nth b i),TyOk w.length v.ty)->∀v∈zaX (zaC w n) a b,TyOk w.length v.ty:=by
    intro a;induction a with
    |nil=>intro b _ v hv;simp[zaX] at hv
    |cons x r ih=>
     intro b h v hv;cases b with
     |nil=>simp[zaX] at hv
     |cons y s=>
      simp only[zaX,List.mem_append] at hv;rcases hv with hv|hv
      ·exact h 0 (by simp) (by simp) v hv
      ·exact ih s (fun i h1 h2=>h (i+1) (by simpa using h1) (by simpa using h2)) v hv
   refine key (zcK w t p) p.kids (fun i h1 h2=>?_) v hv;have hvt:i<(zag w t p).length/\nth (zcK w t p) i=nth (zag w t p) i:=by
    unfold zcK at h1 ⊢;split at h1
    ·rename_i h5;rw[if_pos h5];rw[List.length_take] at h1;refine⟨by omega, ?_⟩;have:i=0:=by omega
     subst this;cases hT:zag w t p with
     |nil=>rfl
     |cons a b=>rfl
    ·rename_i h5;rw[if_neg h5];exact⟨h1,rfl⟩
   rw[hvt.2];exact zso hw haz n (zbI h (by omega)) (hto _ (zac hvt.1))
def gdS (g:Gd) (vars:List Vt):Bool:=if g.op=0 then decide (g.var=0/\g.n=0) else decide (1<=g.op/\g.op<=2/\0<=g.n/\g.n<=9)&&(decide (0<=zbM vars g.var)&&decide ((nth vars (zbM vars g.var).toNat).ty.data = -1))
theorem zzi {n:Nat}{g:Gd}{vars:List Vt} (hn:zcm vars=true) (hv:∀v∈vars,TyOk n v.ty):gdS g vars=gdOk g vars:=by
 unfold gdS gdOk;split
 ·rfl
 ·congr 1
  have hnod:=of_decide_eq_true hn;rw[Bool.eq_iff_iff];simp only[xad,decide_eq_true_eq];constructor
  ·rintro ⟨h1,h2⟩
   rcases zfH vars g.var with ⟨h3,_⟩|⟨k,h3,h4,h5,_⟩
   ·omega
   ·rw[h3] at h2;simp only[Int.toNat_natCast] at h2;have hm:=zac h4;have ho:=(hv _ hm).2 h2;have:nth vars k=⟨g.var,⟨-1,0⟩⟩:=by
     generalize nth vars k=z at *;obtain⟨zv,⟨za,zk⟩⟩:=z;dsimp only at h5 h2 ho;rw[h5,h2,ho]
    rw[<-this];exact hm
  ·intro hm;rcases zfH vars g.var with ⟨_,h4⟩|⟨k,h3,h4,h5,_⟩
   ·exact absurd rfl (h4 _ hm)
   ·refine⟨by omega, ?_⟩;rw[h3];simp only[Int.toNat_natCast];obtain⟨j,hj,e⟩:=List.getElem_of_mem hm;have ej:nth vars j=⟨g.var,⟨-1,0⟩⟩:=by simp[nth,List.getD,hj,e]
    have:k=j:=zkL hnod h4 hj (by rw[h5,ej]);rw[this,ej]
theorem zof {g:Gd}{vars:List Vt} (hv:vars.length<=1000000000000):FnD Tryz.prog 171 [.agg [.d (.i g.op),.d (.i g.var),.d (.i g.n)],.d (zc4 vars)] [] (.d (.bool (gdS g vars))) []:=by
 have hlt:=fun h=>zmc (l:=vars) (n:=g.var) h;refine bd Tryz.f171 50 [] [3] fun w0 F0 own kept hk=>?_;refine bx 3002 ?_;refine ev ?_;refine sq ?_ ?_<;>intro h1 h1p h1s<;>(try simp only[Q] at h1p);refine sq ?_ ?_<;>intro h2 h2p h2s<;>(try simp only[Q] at h2p);refine rq ?_;rotate_left;refine rq ?_;rotate_left;refine xal ?_;refine xaB 18 [(34,.d (.bool (decide (¬(1<=g.op/\g.op<=2/\0<=g.n/\g.n<=9)))))] [17,18,19,20,21,22,23,24,25,26,27,28,29,30,31,32,33] ?_ ?_;refine ev ?_;refine sq ?_ ?_<;>intro h3 h3p h3s<;>(try simp only[Q] at h3p);refine sq ?_ ?_<;>intro h4 h4p h4s<;>(try simp only[Q] at h4p);refine sqT ?_;focus (exact jn rfl (xap (by((rw[Bool.eq_iff_iff];simp_all;omega)))))
 refine sq ?_ ?_<;>intro h5 h5p h5s<;>(try simp only[Q] at h5p);focus (exact jn rfl (xap (by((rw[Bool.eq_iff_iff];simp_all;done)))))
 focus (exact jn rfl (xap (by((rw[Bool.eq_iff_iff];simp_all;done)))))
 refine sqF ?_;refine sq ?_ ?_<;>intro h6 h6p h6s<;>(try simp only[Q] at h6p);focus (exact jn rfl (xap (by((rw[Bool.eq_iff_iff];simp_all;done)))))
 focus (exact jn rfl (xap (by((rw[Bool.eq_iff_iff];simp_all;done)))))
 refine xaA ?_;refine tv ?_;refine sq ?_ ?_<;>intro h7 h7p h7s<;>(try simp only[Q] at h7p);refine rq ?_;rotate_left;refine wc zq6 (zgl hv) rfl rfl ?_;refine ev ?_;refine sq ?_ ?_<;>intro h8 h8p h8s<;>(try simp only[Q] at h8p);refine xaV (i:=(zbM vars g.var).toNat) zdg (.some rfl rfl h8) rfl rfl rfl (by have:=hlt (by omega);omega) (zar (by have:=hlt (by omega);omega)) rfl ?_;refine evs [] [(41,true)] ?_ ⟨⟨_,rfl,h8⟩,trivial⟩;refine rq ?_;rotate_left;refine rq ?_;rotate_left;all_goals (refine congrArg D.bool ?_;unfold gdS;first|(rw[if_pos (by omega)];simp_all;done)|(rw[if_neg (by omega),decide_eq_false (by omega),Bool.false_and];done)|(rw[if_neg (by omega),decide_eq_true (by omega),Bool.true_and,decide_eq_false (by omega),Bool.false_and];done)|(rw[if_neg (by omega)];simp_all;done))
theorem zr6 {w:List Data} (hw:WT w) (haz:AZ w){t:Ty}{c:Cl} (ht:TyOk w.length t) (hok:c.pat.ok) (hsz:c.pat.size<=1000000000000):
  FnD Tryz.prog 119 [.d (zal w),.agg [.d (.i t.data),.d (.i t.index)],.agg [.d (.i c.pat.op),.d (.i c.pat.ctor),.d (.i c.pat.n),.d (.i c.pat.m),.d (.i c.pat.var),.d (zae c.pat.kids),.d (.i c.g.op),.d (.i c.g.var),.d (.i c.g.n)]] [] (.d (.bool (clOk w t c))) []:=by
 have ht':TyIn w.length ⟨t.data,t.index⟩:=ht.1;have hcl:clOk w t c=(isP w t c.pat&&gdOk c.g (zeH w t c.pat)):=rfl;cases hp:isP w t c.pat with
 |false=>
  have hpi:=zfY hw ht' hok hsz;have hpi':FnD Tryz.prog 101 [.d (zal w),.agg [.d (.i t.data),.d (.i t.index)],.agg [.d (.i c.pat.op),.d (.i c.pat.ctor),.d (.i c.pat.n),.d (.i c.pat.m),.d (.i c.pat.var),.d (zae c.pat.kids)]] [] (.d (.bool false)) []:=by rw[<-hp];exact hpi
  rw[hcl,hp,Bool.false_and];refine bd Tryz.f119 22 [] [] fun w0 F0 own kept hk=>?_;refine bx 3004 ?_;refine bx 3005 ?_;refine ev ?_;refine wc zmQ (hpi') rfl rfl ?_;refine evd [] [] ?_;refine sq ?_ ?_<;>intro h1 h1p h1s<;>(try simp only[Q] at h1p);exfalso;contradiction;refine dr ?_;refine rq ?_;rotate_left;all_goals (rfl)
 |true=>
  have hpi:=zfY hw ht' hok hsz;have hpi':FnD Tryz.prog 101 [.d (zal w),.agg [.d (.i t.data),.d (.i t.index)],.agg [.d (.i c.pat.op),.d (.i c.pat.ctor),.d (.i c.pat.n),.d (.i c.pat.m),.d (.i c.pat.var),.d (zae c.pat.kids)]] [] (.d (.bool true)) []:=by rw[<-hp];exact hpi
  have hsh:zaq w 10 ⟨t.data,t.index⟩ c.pat=true:=by
   have:=hp;unfold isP at this;simp only[xad] at this;exact this.1
  have hvl:=zeI w 10 ⟨t.data,t.index⟩ c.pat;have hge:=zzi (g:=c.g) (zvR hp) (zso hw haz 10 hsh ht);have hge':gdS c.g (zaC w 10 ⟨t.data,t.index⟩ c.pat)=gdOk c.g (zeH w t c.pat):=by rw[zqc hp];exact hge
  rw[hcl,hp,Bool.true_and,<-hge'];refine bd Tryz.f119 22 [] [] fun w0 F0 own kept hk=>?_;refine bx 3004 ?_;refine bx 3005 ?_;refine ev ?_;refine wc zmQ (hpi') rfl rfl ?_;refine evd [] [] ?_;refine sq ?_ ?_<;>intro h1 h1p h1s<;>(try simp only[Q] at h1p);refine Walk.call (cr:=[]) zhD (zdA hw hsh (by omega) ht' hok hsz) rfl (.some rfl rfl h1) rfl rfl (LeL.refl _) trivial rfl rfl rfl ?_;refine Walk.call (cr:=[]) zyL (zof (g:=c.g) (by omega)) rfl (.some rfl rfl h1) rfl rfl (LeL.refl _) trivial rfl rfl rfl ?_;refine evd [] [(12,true)] ?_ ⟨⟨_,rfl,h1⟩,trivial⟩;refine dr ?_;refine rq ?_;rotate_left;exfalso;contradiction;all_goals (rfl)
def ClsSz (l:List Cl):Prop:=∀c∈l,c.pat.size<=1000000000000
theorem zz0 {w:List Data}{t:Ty} (h:za7 w t=true):TyOk w.length t:=by
 unfold za7 at h;rw[xad] at h;exact zvL h.2
theorem zzb {w:List Data}{t:Ty}{l:List Cl}{i:Nat} (hi:i<l.length) (h:clOk w t (nth l i)=false):za4 w t l=false:=by
 unfold za4;have:l.any (fun c=> !clOk w t c)=true:=List.any_eq_true.2 ⟨nth l i,zac hi,by rw[h];rfl⟩;rw[this];simp
theorem zxE {w:List Data}{t:Ty}{l:List Cl} (ht:za7 w t=true) (hl:l.length<=8) (h:∀i,i<l.length->clOk w t (nth l i)=true):za4 w t l=true:=by
 unfold za4;rw[ht,decide_eq_true (by omega),Bool.true_and,Bool.true_and,Bool.not_eq_true',List.any_eq_false];intro c hc;obtain⟨i,hi,rfl⟩:=List.getElem_of_mem hc;have:=h i hi;simp only[nth,List.getD,List.getElem?_eq_getElem hi,Option.getD_some] at this;simp[this]
theorem zxF {w:List Data}{t:Ty}{l:List Cl} (h:8<l.length):za4 w t l=false:=by
 unfold za4;rw[decide_eq_false (by omega),Bool.false_and,Bool.and_false]
theorem zzc {w:List Data}{t:Ty}{l:List Cl} (h:za7 w t=false):za4 w t l=false:=by
 unfold za4;rw[h,Bool.false_and]
theorem zjJ {w:List Data} (hs:WSmall w){a k:Int}{l:List Cl} (hl:ClsOk l) (hz:ClsSz l):
  FnD Tryz.prog 82 [.d (zal w),.agg [.d (.i a),.d (.i k)],.d (zbZ l)] [] (.d (.bool (za4 w ⟨a,k⟩ l))) []:=by
 have hll:=hl.1;refine bd Tryz.f82 31 [] [] fun w0 F0 own kept hk=>?_;refine bx 3004 ?_;refine ev ?_;refine wc zyt (zmA hs) rfl rfl ?_;refine ev ?_;refine sq ?_ ?_<;>intro h1 h1p h1s<;>(try simp only[Q,Int.natCast_inj] at h1p);refine sqT ?_;refine rq ?_;rotate_left;refine sq ?_ ?_<;>intro h3 h3p h3s<;>(try simp only[Q,Int.natCast_inj] at h3p);refine rq ?_;rotate_left;refine xak (ι:=Nat) hk (fun i=>[(7,.d (.i (i:Int)))]) [6,17,18,19,20,21,22,23,24,25,26,27,28,29,30] (fun i=>[]) (fun i=>i<=l.length/\∀i',i'<i->clOk w ⟨a,k⟩ (nth l i')=true) (fun i=>l.length-i) 0 ⟨by omega,fun _ h=>absurd h (by omega)⟩ ⟨⟨_,rfl,xaq ?_⟩,trivial⟩ trivial (fun x=>rfl) (fun i hg1=>?_);focus (first|rfl|(simp;done)|(simp_all;done)|omega)
 refine evc [] [] ?_;refine sq ?_ ?_<;>intro h4 h4p h4s<;>(try simp only[Q,Int.natCast_inj] at h4p);refine xaV sl59 .none rfl rfl rfl rfl (zar (by omega)) rfl ?_;refine evd [] [] ?_;refine wc zyu (zr6 (t:=⟨a,k⟩) (c:=nth l i) (zh2 hs (zd6 (by assumption)).1) (zwR (zd6 (by assumption)).1) (zz0 (by assumption)) (hl.2 _ (zac (by omega))) (hz _ (zac (by omega)))) rfl rfl ?_;refine evd [] [] ?_;refine dr ?_;refine sq ?_ ?_<;>intro h5 h5p h5s<;>(try simp only[Q,Int.natCast_inj] at h5p);refine rq ?_;rotate_left;refine ar ?_;refine xah (i+1) ⟨⟨by omega,zba hg1.2 (by assumption)⟩,(by omega),sx ⟨⟨_,rfl,xaq ?_⟩,trivial⟩ trivial⟩;focus (first|rfl|(simp;done)|(simp_all;done)|omega)
 refine rq ?_;rotate_left;all_goals (refine congrArg D.bool ?_;first|(rw[zzc (by assumption)];done)|(rw[zxF (by omega)];done)|(rw[zzb (i:=i) (by omega) (by assumption)];done)|(rw[zxE (by assumption) (by omega) (fun x hx=>hg1.2 x (by omega))];done))
theorem zby {a b c d e:Int}{l:List Pat}:(Pat.mk a b c d e l).op=a:=rfl
theorem zfu {a b c d e:Int}{l:List Pat}:(Pat.mk a b c d e l).ctor=b:=rfl
theorem mk_n {a b c d e:Int}{l:List Pat}:(Pat.mk a b c d e l).n=c:=rfl
theorem mk_m {a b c d e:Int}{l:List Pat}:(Pat.mk a b c d e l).m=d:=rfl
theorem zhS {a b c d e:Int}{l:List Pat}:(Pat.mk a b c d e l).var=e:=rfl
theorem zaL {a b c d e:Int}{l:List Pat}:(Pat.mk a b c d e l).kids=l:=rfl
abbrev anyQ:Pat:= .mk 1 0 0 0 0 []
abbrev zxy:Pat:= .mk 0 0 0 0 0 []
mutual
def zav:Pat->Pat
 | .mk op c n m v ks=>if op=2 then anyQ else if op=6/\ks≠[] then zln ks else .mk op c n m v (zh7 ks)
def zln:List Pat->Pat
 | []=>anyQ
 |k::_=>zav k
def zh7:List Pat->List Pat
 | []=>[]
 |k::r=>zav k::zh7 r
end
theorem zl3:∀l:List Pat,zh7 l=l.map zav
 | []=>rfl
 |k::r=>by simp[zh7,zl3 r]
theorem zbi (p:Pat):zav p=if p.op=2 then anyQ else if p.op=6/\p.kids≠[] then zav (nth p.kids 0) else .mk p.op p.ctor p.n p.m p.var (p.kids.map zav):=by
 cases p with|mk op c n m v ks=>
 have e:zav (.mk op c n m v ks)=if op=2 then anyQ else if op=6/\ks≠[] then zln ks else .mk op c n m v (zh7 ks):=by conv=>lhs;unfold zav
 rw[e,zl3];by_cases h2:op=2
 ·rw[if_pos h2];exact(if_pos (c:=(Pat.mk op c n m v ks).op=2) h2).symm
 ·rw[if_neg h2];refine Eq.trans ?_ (if_neg (c:=(Pat.mk op c n m v ks).op=2) h2).symm;by_cases h6:op=6/\ks≠[]
  ·rw[if_pos h6];refine Eq.trans ?_ (if_pos (c:=(Pat.mk op c n m v ks).op=6/\(Pat.mk op c n m v ks).kids≠[]) h6).symm;cases ks with
   |nil=>exact absurd rfl h6.2
   |cons k r=>rfl
  ·rw[if_neg h6];exact(if_neg (c:=(Pat.mk op c n m v ks).op=6/\(Pat.mk op c n m v ks).kids≠[]) h6).symm
def za9 (out:List (List Pat)) (l:List Pat):List (List Pat):=out.flatMap fun q=>l.map fun c=>q++[c]
def zei (ls:List (List Pat)):List (List Pat):=ls.foldl za9 [[]]
mutual
def zau:Pat->List Pat
 | .mk op c n m v ks=>if op=5 then zzw ks else (zei (zlu ks)).map fun l=> .mk op c n m v l
def zzw:List Pat->List Pat
 | []=>[]
 |a::r=>zau a++zx8 r
def zx8:List Pat->List Pat
 | []=>[]
 |b::_=>zau b
def zlu:List Pat->List (List Pat)
 | []=>[]
 |k::r=>zau k::zlu r
end
theorem zol:∀l:List Pat,zlu l=l.map zau
 | []=>rfl
 |k::r=>by simp[zlu,zol r]
theorem zdc {p:Pat} (h:p.op≠5):zau p=(zei (p.kids.map zau)).map fun l=> .mk p.op p.ctor p.n p.m p.var l:=by
 cases p with|mk op c n m v ks=>
 have h':¬op=5:=h;conv=>lhs;unfold zau
 rw[if_neg h',zol];rfl
theorem zdH {p:Pat} (h:p.op=5) (hk:p.kids.length=2):zau p=zau (nth p.kids 0)++zau (nth p.kids 1):=by
 cases p with|mk op c n m v ks=>
 have h':op=5:=h;conv=>lhs;unfold zau
 rw[if_pos h'];have hk':ks.length=2:=hk;match ks,hk' with
 | [a,b],_=>rfl
mutual
def cntS:Pat->Int
 | .mk op _ _ _ _ ks=>if op=5 then cntO ks 0 else cntM ks 1
def cntO:List Pat->Int->Int
 | [],n=>n
 |k::r,n=>cntO r (cap (n+cntS k))
def cntM:List Pat->Int->Int
 | [],n=>n
 |k::r,n=>cntM r (cap (n*cntS k))
end
theorem zoC (p:Pat):cntS p=if p.op=5 then cntO p.kids 0 else cntM p.kids 1:=by
 cases p with|mk op c n m v ks=>
 conv=>lhs;unfold cntS
 rfl
mutual
theorem zoB:∀p:Pat,0<=cntS p/\cntS p<=401
 | .mk op _ _ _ _ ks=>by
  unfold cntS;split
  ·exact zsU ks 0 (by omega) (by omega)
  ·exact zsS ks 1 (by omega) (by omega)
theorem zsU:∀(l:List Pat) (n:Int),0<=n->n<=401->0<=cntO l n/\cntO l n<=401
 | [],n,h1,h2=>⟨h1,h2⟩
 |k::r,n,h1,h2=>by
  unfold cntO;have h3:=zoB k;have h4:=zgC (x:=n+cntS k) (by omega);exact zsU r _ h4.1 h4.2
theorem zsS:∀(l:List Pat) (n:Int),0<=n->n<=401->0<=cntM l n/\cntM l n<=401
 | [],n,h1,h2=>⟨h1,h2⟩
 |k::r,n,h1,h2=>by
  unfold cntM;have h3:=zoB k;have h4:=zgC (x:=n*cntS k) (Int.mul_nonneg h1 h3.1);exact zsS r _ h4.1 h4.2
end
theorem zuR {l:List Pat}{i:Nat}{n:Int} (h:i<l.length):cntO (l.drop i) n=cntO (l.drop (i+1)) (cap (n+cntS (nth l i))):=by
 rw[zaK h];rfl
theorem zuQ {l:List Pat}{i:Nat}{n:Int} (h:i<l.length):cntM (l.drop i) n=cntM (l.drop (i+1)) (cap (n*cntS (nth l i))):=by
 rw[zaK h];rfl
def binP:Nat->Pat->Bool
 |0,_=>false
 |n+1,p=>decide (p.op=5->p.kids.length=2)&&p.kids.all (binP n)
theorem zea {n:Nat}{p:Pat} (h:binP (n+1) p=true){i:Nat} (hi:i<p.kids.length):binP n (nth p.kids i)=true:=by
 unfold binP at h;rw[xad,List.all_eq_true] at h;exact h.2 _ (zac hi)
theorem zli {n:Nat}{p:Pat} (h:binP (n+1) p=true) (h5:p.op=5):p.kids.length=2:=by
 unfold binP at h;rw[xad] at h;exact(of_decide_eq_true h.1) h5
theorem zl4:∀(n:Nat){p:Pat},binP n p=true->binP (n+1) p=true
 |0,p,h=>by simp[binP] at h
 |n+1,p,h=>by
  have h':=h;unfold binP at h ⊢;rw[xad,List.all_eq_true] at h ⊢;exact⟨h.1,fun k hk=>zl4 n (h.2 k hk)⟩
theorem zgJ {w:List Data}:∀(n:Nat){t:Ty}{p:Pat},zaq w n t p=true->binP n (zav p)=true
 |0,t,p,h=>by simp[zaq] at h
 |n+1,t,p,h=>by
  obtain⟨ho,hlen⟩:=zbJ h;have hany:binP (n+1) anyQ=true:=by simp[binP,anyQ,Pat.op,Pat.kids]
  rw[zbi];by_cases h2:p.op=2
  ·rw[if_pos h2];exact hany
  rw[if_neg h2];by_cases h6:p.op=6
  ·obtain⟨hl,s0⟩:=zdx h h6;rw[if_pos ⟨h6,fun e=>by rw[e] at hl;simp at hl⟩];exact zl4 n (zgJ n s0)
  rw[if_neg (fun h=>h6 h.1)];unfold binP;rw[xad,List.all_eq_true];refine⟨decide_eq_true (fun h5=>?_),fun k hk=>?_⟩
  ·have:=(zdV h h5).1;simpa [Pat.kids] using this
  ·simp only[Pat.kids,List.mem_map] at hk;obtain⟨x,hx,rfl⟩:=hk;obtain⟨i,hi,rfl⟩:=List.getElem_of_mem hx;have:=zgJ n (zbI h hi);have e:nth p.kids i=p.kids[i]:=zaM hi;rw[e] at this;exact this
theorem zgO (out:List (List Pat)) (l:List Pat):(za9 out l).length=out.length*l.length:=by
 unfold za9;induction out with
 |nil=>simp
 |cons q r ih=>rw[List.flatMap_cons,xaa,ih,xac,xab,Nat.succ_mul];omega
theorem zt2 (ls:List (List Pat)) (l:List Pat):zei (ls++[l])=za9 (zei ls) l:=by unfold zei;rw[List.foldl_append];rfl
theorem zxC {a b:Nat}:cap (cap (a:Int)*cap (b:Int))=cap ((a*b:Nat):Int):=by
 unfold cap;rcases Nat.eq_zero_or_pos a with rfl|ha
 ·simp
 rcases Nat.eq_zero_or_pos b with rfl|hb
 ·simp
 have h1:a<=a*b:=Nat.le_mul_of_pos_right a hb;have h2:b<=a*b:=Nat.le_mul_of_pos_left b ha;have hab:((a*b:Nat):Int)=(a:Int)*(b:Int):=by push_cast;rfl
 by_cases ca:401<(a:Int)
 ·rw[if_pos ca];by_cases cb:401<(b:Int)
  ·rw[if_pos cb,if_pos (by omega),if_pos (by omega)]
  ·rw[if_neg cb];have h3:(401:Int)*1<=401*(b:Int):=Int.mul_le_mul_of_nonneg_left (by omega) (by omega);rw[if_pos (show 401<((a*b:Nat):Int) by omega)];split<;>omega
 ·rw[if_neg ca];by_cases cb:401<(b:Int)
  ·rw[if_pos cb];have h3:(1:Int)*401<=(a:Int)*401:=Int.mul_le_mul_of_nonneg_right (by omega) (by omega);rw[if_pos (show 401<((a*b:Nat):Int) by omega)];split<;>omega
  ·rw[if_neg cb,hab]
theorem zxA {a b:Nat}:cap (cap (a:Int)+cap (b:Int))=cap ((a+b:Nat):Int):=by
 unfold cap;push_cast
 split<;>split<;>split<;>(try split)<;>omega
theorem zxB {x:Int}:cap (cap x)=cap x:=by unfold cap;split<;>(try split)<;>omega
theorem zsT:∀(l:List Pat) (out:List (List Pat)),(∀k∈l,cntS k=cap ((zau k).length:Int)/\0<(zau k).length)->cntM l (cap (out.length:Int))=cap (((l.map zau).foldl za9 out).length:Int)/\(0<out.length->0<((l.map zau).foldl za9 out).length)
 | [],out,_=>⟨rfl,fun h=>h⟩
 |k::r,out,h=>by
  have hk:=h k (by simp);unfold cntM;rw[hk.1,zxC];have:=zsT r (za9 out (zau k)) (fun x hx=>h x (by simp[hx]));rw[zgO] at this;rw[xae,List.foldl_cons];exact⟨this.1,fun ho=>this.2 (Nat.mul_pos ho hk.2)⟩
theorem zkm:∀(n:Nat){p:Pat},binP n p=true->cntS p=cap ((zau p).length:Int)/\0<(zau p).length
 |0,p,h=>by simp[binP] at h
 |n+1,p,h=>by
  have ih:=fun i (hi:i<p.kids.length)=>zkm n (zea h hi);rw[zoC];by_cases h5:p.op=5
  ·have hl:=zli h h5;rw[if_pos h5,zdH h5 hl,xaa];have k0:=ih 0 (by omega);have k1:=ih 1 (by omega);have e:p.kids=[nth p.kids 0,nth p.kids 1]:=by
    match hk:p.kids,hl with
    | [a,b],_=>rfl
   refine⟨?_,by omega⟩;rw[e];simp only[cntO];rw[Int.zero_add,k0.1,zxB,k1.1];show cap (cap ((zau (nth p.kids 0)).length:Int)+cap ((zau (nth p.kids 1)).length:Int))=_
   rw[zxA];rfl
  ·rw[if_neg h5,zdc h5,xac];have:=zsT p.kids [[]] (fun k hk=>by
    obtain⟨i,hi,rfl⟩:=List.getElem_of_mem hk;have:=ih i hi;simpa [nth,List.getD,hi] using this)
   exact⟨this.1,this.2 (by simp)⟩
theorem zhJ:∀(ls:List (List Pat)) (out:List (List Pat)),(∀l∈ls,0<l.length)->out.length<=(ls.foldl za9 out).length
 | [],out,_=>Nat.le_refl _
 |l::r,out,h=>by
  rw[List.foldl_cons];have h1:=zhJ r (za9 out l) (fun x hx=>h x (by simp[hx]));rw[zgO] at h1;have h2:out.length<=out.length*l.length:=Nat.le_mul_of_pos_right _ (h l (by simp));omega
theorem zjS:∀(ls:List (List Pat)) (out:List (List Pat)),(∀l∈ls,0<l.length)->0<out.length->∀l∈ls,l.length<=(ls.foldl za9 out).length
 | [],out,_,_,l,hl=>by simp at hl
 |x::r,out,h,ho,l,hl=>by
  rw[List.foldl_cons];have hx:=h x (by simp);have hp:0<(za9 out x).length:=by rw[zgO];exact Nat.mul_pos ho hx
  rcases List.mem_cons.1 hl with rfl|hl
  ·have h1:=zhJ r (za9 out l) (fun y hy=>h y (by simp[hy]));rw[zgO] at h1;have h2:l.length<=out.length*l.length:=Nat.le_mul_of_pos_left _ ho;omega
  ·exact zjS r (za9 out x) (fun y hy=>h y (by simp[hy])) hp l hl
theorem ziw {n:Nat}{p:Pat} (h:binP (n+1) p=true){i:Nat} (hi:i<p.kids.length):(zau (nth p.kids i)).length<=(zau p).length:=by
 by_cases h5:p.op=5
 ·have hl:=zli h h5;rw[zdH h5 hl,xaa];have:i=0\/i=1:=by omega
  rcases this with rfl|rfl<;>omega
 ·rw[zdc h5,xac];refine zjS _ [[]] (fun l hl=>?_) (by simp) _ (List.mem_map.2 ⟨_,zac hi,rfl⟩);obtain⟨k,hk,rfl⟩:=List.mem_map.1 hl;obtain⟨j,hj,rfl⟩:=List.getElem_of_mem hk;have:=(zkm n (zea h hj)).2;simpa [nth,List.getD,hj] using this
theorem zsH {n:Nat}{p:Pat} (h:binP (n+1) p=true) (h5:p.op≠5) (i:Nat):(zei ((p.kids.take i).map zau)).length<=(zau p).length:=by
 rw[zdc h5,xac];have e:p.kids.map zau=(p.kids.take i).map zau++(p.kids.drop i).map zau:=by rw[<-xaf,List.take_append_drop]
 unfold zei;rw[e,List.foldl_append];refine zhJ _ _ (fun l hl=>?_);obtain⟨k,hk,rfl⟩:=List.mem_map.1 hl;obtain⟨j,hj,rfl⟩:=List.getElem_of_mem (List.mem_of_mem_drop hk);have:=(zkm n (zea h hj)).2;simpa [nth,List.getD,hj] using this
def zaf (w:List Data):Nat->Ty->Pat->Bool
 |0,_,_=>false
 |n+1,t,p=>(ownP w t p&&decide (p.op=1\/p.op=3\/p.op=4))&&all2 (zaf w n) (zag w t p) p.kids
theorem zhA {α β:Type}{f g:α->β->Bool}:∀ {a:List α}{b:List β},(∀x∈a,∀y∈b,f x y=true->g x y=true)->all2 f a b=true->all2 g a b=true
 | [],[],_,_=>rfl
 |x::r,y::s,h,h2=>by
  simp only[all2,xad] at h2 ⊢;exact⟨h x (by simp) y (by simp) h2.1,zhA (fun a ha b hb=>h a (by simp[ha]) b (by simp[hb])) h2.2⟩
 | [],_::_,_,h2=>by simp[all2] at h2
 |_::_,[],_,h2=>by simp[all2] at h2
theorem zhd {w:List Data}:∀(n:Nat){t:Ty}{p:Pat},zaf w n t p=true->zaq w n t p=true
 |0,t,p,h=>by simp[zaf] at h
 |n+1,t,p,h=>by
  unfold zaf at h;unfold zaq;simp only[xad] at h ⊢;exact⟨h.1.1,zhA (fun x _ y _ hh=>zhd n hh) h.2⟩
theorem zgI {w:List Data}:∀(n:Nat){t:Ty}{p:Pat},zaf w n t p=true->zaf w (n+1) t p=true
 |0,t,p,h=>by simp[zaf] at h
 |n+1,t,p,h=>by
  unfold zaf at h ⊢;simp only[xad] at h ⊢;exact⟨h.1,zhA (fun x _ y _ hh=>zgI n hh) h.2⟩
theorem zbq {w:List Data}{n:Nat}{t:Ty}{p:Pat} (h:zaf w n t p=true):p.op=1\/p.op=3\/p.op=4:=by
 cases n with
 |zero=>simp[zaf] at h
 |succ n=>unfold zaf at h;simp only[xad] at h;exact of_decide_eq_true h.1.2
theorem zgg {w:List Data}{n:Nat}{t:Ty}{p:Pat} (h:zaf w n t p=true):ownP w t p=true/\p.kids.length=(zag w t p).length:=by
 cases n with
 |zero=>simp[zaf] at h
 |succ n=>exact zbJ (zhd _ h)
theorem zaS {w:List Data}{n:Nat}{t:Ty}{p:Pat} (h:zaf w (n+1) t p=true){i:Nat} (hi:i<p.kids.length):zaf w n (nth (zag w t p) i) (nth p.kids i)=true:=by
 have hl:=(zgg h).2;unfold zaf at h;simp only[xad] at h;exact zen hl.symm h.2 i (by omega)
theorem zx2 {w:List Data}{t:Ty}{p:Pat}{l:List Pat}:ownP w t (.mk p.op p.ctor p.n p.m p.var l)=ownP w t p:=rfl
theorem zvO {w:List Data}{t:Ty}{p:Pat}{l:List Pat}:zag w t (.mk p.op p.ctor p.n p.m p.var l)=zag w t p:=rfl
theorem zil:∀(ls:List (List Pat)) (out:List (List Pat)) (l:List Pat),l∈ls.foldl za9 out->∃q∈out,∃r:List Pat,l=q++r/\r.length=ls.length/\∀i,i<ls.length->nth r i∈nth ls i
 | [],out,l,h=>⟨l,h,[],by simp,rfl,fun i hi=>by simp at hi⟩
 |x::rs,out,l,h=>by
  rw[List.foldl_cons] at h;obtain⟨q,hq,r,e,hl,hm⟩:=zil rs (za9 out x) l h;unfold za9 at hq;simp only[List.mem_flatMap,List.mem_map] at hq;obtain⟨q0,hq0,c,hc,rfl⟩:=hq;refine⟨q0,hq0,c::r,by rw[e];simp,by simp[hl],fun i hi=>?_⟩;cases i with
  |zero=>exact hc
  |succ i=>exact hm i (by simpa using hi)
theorem zka {w:List Data}{n:Nat}{t:Ty}:zaf w (n+1) t anyQ=true:=by
 unfold zaf;have h1:zag w t anyQ=[]:=by unfold zag;rw[if_neg (by decide),if_neg (by decide),if_neg (by decide)]
 rw[h1];have h2:ownP w t anyQ=true:=by unfold ownP;exact decide_eq_true (by simp[anyQ,Pat.op,Pat.var,Pat.n,Pat.m,Pat.ctor])
 rw[h2];rfl
theorem zci:zau anyQ=[anyQ]:=by
 rw[zdc (by decide)];rfl
theorem zd5 {w:List Data}{n:Nat}{t:Ty}{p:Pat} (h:zaq w (n+1) t p=true) (h4:p.op≠4) (h5:p.op≠5) (h6:p.op≠6):p.kids=[]:=by
 have hl:=(zbJ h).2;unfold zag at hl;rw[if_neg h4,if_neg h5,if_neg h6] at hl;exact List.eq_nil_of_length_eq_zero hl
theorem zgh {w:List Data}:∀(n:Nat){t:Ty}{p:Pat},zaq w n t p=true->∀x∈zau (zav p),zaf w n t x=true
 |0,t,p,h=>by simp[zaq] at h
 |n+1,t,p,h=>by
  obtain⟨ho,hlen⟩:=zbJ h;have hop:=zdb h;intro x hx;rw[zbi] at hx;by_cases h2:p.op=2
  ·rw[if_pos h2,zci,List.mem_singleton] at hx;rw[hx];exact zka
  rw[if_neg h2] at hx;by_cases h6:p.op=6
  ·obtain⟨hl,s0⟩:=zdx h h6;rw[if_pos ⟨h6,fun e=>by rw[e] at hl;simp at hl⟩] at hx;exact zgI n (zgh n s0 x hx)
  rw[if_neg (fun h=>h6 h.1)] at hx;by_cases h5:p.op=5
  ·obtain⟨hl,s0,s1⟩:=zdV h h5;have hl2:(p.kids.map zav).length=2:=by rw[xac];exact hl
   rw[zdH (p:= .mk p.op p.ctor p.n p.m p.var (p.kids.map zav)) h5 hl2] at hx;have e0:nth (p.kids.map zav) 0=zav (nth p.kids 0):=by
    match hk:p.kids,hl with
    | [a,b],_=>rfl
   have e1:nth (p.kids.map zav) 1=zav (nth p.kids 1):=by
    match hk:p.kids,hl with
    | [a,b],_=>rfl
   simp only[zaL] at hx;rw[e0,e1] at hx;rcases List.mem_append.1 hx with hx|hx
   ·exact zgI n (zgh n s0 x hx)
   ·exact zgI n (zgh n s1 x hx)
  rw[zdc (p:= .mk p.op p.ctor p.n p.m p.var (p.kids.map zav)) h5] at hx;simp only[zaL,zby,zfu,mk_n,mk_m,zhS,List.mem_map] at hx;obtain⟨l,hl,rfl⟩:=hx;obtain⟨q,hq,r,e,hlr,hm⟩:=zil _ _ _ hl;rw[List.mem_singleton] at hq;rw[hq,List.nil_append] at e;subst e;simp only[List.map_map,xac] at hlr hm;unfold zaf;rw[zx2,zvO,ho,decide_eq_true (show _\/_\/_ from by rw[zby];omega),Bool.true_and,Bool.true_and];refine zcp (by rw[zaL];omega) (fun i hi=>?_);have hm':=hm i (by omega);have e2:nth (p.kids.map (zau ∘ zav)) i=zau (zav (nth p.kids i)):=by
   rw[zaM (by simp;omega)];simp[nth,List.getD,show i<p.kids.length by omega]
  rw[e2] at hm';exact zgh n (zbI h (by omega)) _ hm'
theorem Pats.ok_of:∀ {l:List Pat},(∀k∈l,k.ok)->Pats.ok l
 | [],_=>trivial
 |k::r,h=>⟨h k (by simp),Pats.ok_of (fun x hx=>h x (by simp[hx]))⟩
theorem Pats.size_of {m:Nat}:∀ {l:List Pat},(∀k∈l,k.size<=m)->Pats.size l<=l.length*m
 | [],_=>by simp[Pats.size]
 |k::r,h=>by
  have h1:=h k (by simp);have h2:=Pats.size_of (l:=r) (fun x hx=>h x (by simp[hx]));simp only[Pats.size,xab,Nat.succ_mul];omega
mutual
theorem zlg:∀p:Pat,p.ok->(zav p).ok
 | .mk op c n m v ks,h=>by
  unfold zav;split
  ·exact⟨by simp,trivial⟩
  ·split
   ·exact zwe ks h.2
   ·exact⟨by rw[zl3,xac];exact h.1,zqS ks h.2⟩
theorem zwe:∀l:List Pat,Pats.ok l->(zln l).ok
 | [],_=>⟨by simp,trivial⟩
 |k::r,h=>zlg k h.1
theorem zqS:∀l:List Pat,Pats.ok l->Pats.ok (zh7 l)
 | [],_=>trivial
 |k::r,h=>⟨zlg k h.1,zqS r h.2⟩
end
mutual
theorem zpi:∀p:Pat,(zav p).size<=p.size
 | .mk op c n m v ks=>by
  unfold zav;split
  ·simp[anyQ,Pat.size,Pats.size]
  ·split
   ·have:=ztQ ks;simp only[Pat.size];omega
   ·have:=zmP ks;simp only[Pat.size];omega
theorem ztQ:∀l:List Pat,(zln l).size<=1+Pats.size l
 | []=>by simp[zln,anyQ,Pat.size,Pats.size]
 |k::r=>by have:=zpi k;simp only[zln,Pats.size];omega
theorem zmP:∀l:List Pat,Pats.size (zh7 l)<=Pats.size l
 | []=>Nat.le_refl _
 |k::r=>by have:=zpi k;have:=zmP r;simp only[zh7,Pats.size];omega
end
theorem xat (l:List Pat):Pat.cs l=l.map Pat.cc:=by
 rw[Pat.cs_eq];exact List.map_congr_left (fun v _=>Pat.c_eq v)
theorem zbH (l:List Pat):∀x∈Pat.cs l,x.length=6:=Pat.cs_rows
theorem zhz (l:List Pat):∀x∈l.map Pat.cc,x.length=6:=fun x hx=>by
 obtain⟨y,_,rfl⟩:=List.mem_map.1 hx;rfl
theorem zsM {p:Pat} (h:p.op=2):zav p=anyQ:=by rw[zbi,if_pos h]
theorem zsN {p:Pat} (h:p.op=6) (h2:0<p.kids.length):zav p=zav (nth p.kids 0):=by
 rw[zbi,if_neg (by omega),if_pos ⟨h,fun e=>by rw[e] at h2;simp at h2⟩]
theorem zsO {p:Pat} (h:p.op≠2) (h2:¬(p.op=6/\0<p.kids.length)):zav p = .mk p.op p.ctor p.n p.m p.var (p.kids.map zav):=by
 rw[zbi,if_neg h,if_neg (fun hh=>h2 ⟨hh.1,List.length_pos_iff.2 hh.2⟩)]
theorem zgG:∀(n:Nat){p:Pat},p.size<=n->p.ok->FnD Tryz.prog 153 [.agg [.d (.i p.op),.d (.i p.ctor),.d (.i p.n),.d (.i p.m),.d (.i p.var),.d (zae p.kids)]] [] (.agg [.d (.i p.op),.d (.i p.ctor),.d (.i p.n),.d (.i p.m),.d (.i p.var),.d (zae p.kids)]) []
 |0,p,h,_=>by rw[Pat.size_eq] at h;omega
 |n+1,p,h,hok=>by
  rw[Pat.size_eq] at h;rw[Pat.ok_iff] at hok;have hok1:=hok.1;refine bd Tryz.f153 24 [] [] fun w0 F0 own kept hk=>?_;refine bx 3001 ?_;refine ab 3002 tz28 ?_;refine tv ?_;refine so ty26 ?_;refine tv ?_;refine xan 3001 5 7 6 rfl rfl rfl rfl ?_;refine xak (ι:=List (Pat)×List (Pat)) hk (fun x=>[(11,.d (.i (x.1.length:Int)))]) [5,12,13,14,15,16,17,18,19,20,21,22] (fun x=>[(3001,some (.box [.d (.i p.op),.d (.i p.ctor),.d (.i p.n),.d (.i p.m),.d (.i p.var),.gl 7 (x.1.map Pat.cc)])),(7,some (.tok (x.1.map Pat.cc).length 6))]) (fun x=>x.1++x.2=p.kids) (fun x=>x.2.length) ([],p.kids) (by simp) ⟨⟨_,rfl,xaq ?_⟩,trivial⟩ ⟨?_,⟨zab ?_,trivial⟩⟩ (fun x=>rfl) (fun x hg1=>?_);focus (rfl)
  focus (first|rfl|(simp[getH];done))
  focus (rfl)
  obtain⟨pre,rest⟩:=x;dsimp only at hg1 ⊢;refine evc [] [] ?_;refine sq ?_ ?_<;>intro h1 h1p h1s<;>(try simp only[Q,Pat.cs_len] at h1p);rcases rest with _|⟨y,rest⟩
  ·exfalso;simp_all
  refine xaV sl26 .none rfl rfl rfl rfl (Pat.cs_at' hg1) rfl ?_;refine ev ?_;refine ab 3005 tz28 ?_;refine so ty28 ?_;refine tv ?_;refine wc zuu (zgG n (p:=y) (by have:=Pats.size_mem (l:=p.kids) (v:=y) (by rw[<-hg1];simp);omega) (Pats.ok_mem hok.2 y (by rw[<-hg1];simp))) rfl rfl ?_;refine si [0] [_] sl26 tz28 ?_;refine ap sl26 zz28 rfl rfl rfl (by intro x hx;(simp at hx;subst hx;rfl)) (by have:=congrArg List.length hg1;simp at this;simp;omega) ?_;refine evd [] [] ?_;refine so ty26 ?_;refine dr ?_;refine ar ?_;refine xah ((pre++[y],rest)) ⟨(by have hz:=hg1;rw[<-hz];simp),(by simp),sx ⟨⟨_,rfl,xaq ?_⟩,trivial⟩ ⟨?_,⟨zab ?_,trivial⟩⟩⟩;focus ((simp;done))
  focus (first|rfl|(simp[getH];done))
  focus ((simp;done))
  have hrest:rest=[]:=by
   rcases rest with _|⟨a,b⟩
   ·rfl
   ·exfalso;have hz:=congrArg List.length (hg1);simp only[xaa,xab,xac] at hz;omega
  subst hrest;refine so ty28 ?_;refine tv ?_;refine rn0 (.cons (.cellA ty28 rfl rfl rfl) .nil) (.agg (.cons (.eqd ?_) (.cons (.eqd ?_) (.cons (.eqd ?_) (.cons (.eqd ?_) (.cons (.eqd ?_) (.cons (.gld ?_) .nil)))))));rotate_left 6;all_goals (first|rfl|(rw[List.append_nil] at hg1;rw[<-hg1,xat];done))
theorem zj3 {l:List Pat} (h:l.length<=1000000000000) (hok:∀p∈l,p.ok):FnD Tryz.prog 96 [.d (zae l)] [] (.d (zae l)) []:=by
 refine bd Tryz.f96 19 [3] [] fun w0 F0 own kept hk=>?_;refine xaE 1 6 .none rfl rfl ?_;refine tv ?_;refine xak (ι:=List (Pat)×List (Pat)) hk (fun x=>[(8,.d (.i (x.1.length:Int))),(3,.gl 1 (x.1.map Pat.cc))]) [5,9,10,11,12,13,14,15,16,17] (fun x=>[(1,some (.tok ((x.1.map Pat.cc)).length 6))]) (fun x=>x.1++x.2=l) (fun x=>x.2.length) ([],l) (by simp) ⟨⟨_,rfl,xaq ?_⟩,⟨⟨_,rfl,LeA.glg ?_⟩,trivial⟩⟩ ⟨zab ?_,trivial⟩ (fun x=>rfl) (fun x hg1=>?_);iterate 3 focus (rfl)
 obtain⟨pre,rest⟩:=x;dsimp only at hg1 ⊢;refine evc [3] [] ?_;refine sq ?_ ?_<;>intro h1 h1p h1s<;>(try simp only[Q,Pat.cs_len] at h1p);rcases rest with _|⟨y,rest⟩
 ·exfalso;simp_all
 refine xaV sl26 .none rfl rfl rfl rfl (Pat.cs_at' hg1) rfl ?_;refine evs [3] [] ?_;refine ab 3005 tz28 ?_;refine so ty28 ?_;refine tv ?_;refine wc zuu (zgG _ (Nat.le_refl _) (hok y (by rw[<-hg1];simp))) rfl rfl ?_;refine si [0] [_] sl26 tz28 ?_;refine ap sl26 zz28 rfl rfl rfl (by intro x hx;simp at hx;subst hx;rfl) (by have:=congrArg List.length hg1;simp at this;simp;omega) ?_;refine asg ?_;refine tv ?_;refine ar ?_;refine xah ((pre++[y],rest)) ⟨(by have hz:=hg1;rw[<-hz];simp),(by simp),sx ⟨⟨_,rfl,xaq ?_⟩,⟨⟨_,rfl,LeA.glg ?_⟩,trivial⟩⟩ ⟨zab ?_,trivial⟩⟩;iterate 3 focus ((simp;done))
 have hrest:rest=[]:=by
  rcases rest with _|⟨a,b⟩
  ·rfl
  ·exfalso;have hz:=congrArg List.length (hg1);simp only[xaa,xab,xac] at hz;omega
 subst hrest;refine rn0 (r1 rfl) (.gld ?_);rotate_left;all_goals ((rw[List.append_nil] at hg1;rw[<-hg1,xat];done))
theorem zgF:FnD Tryz.prog 186 [] [] (.agg [.d (.i 1),.d (.i 0),.d (.i 0),.d (.i 0),.d (.i 0),.d (.sl [])]) []:=by
 refine bd Tryz.f186 2 [] [] fun w0 F0 own kept hk=>?_;refine ab 3000 tz28 ?_;refine tv ?_;refine bu [0] [_] st28 ?_;refine so ty28 ?_;refine tv ?_;focus (refine rn0 (.cons (.cellA ty28 rfl rfl rfl) .nil) (.agg (.cons (.eqd ?_) (.cons (.eqd ?_) (.cons (.eqd ?_) (.cons (.eqd ?_) (.cons (.eqd ?_) (.cons (.nild ?_) .nil)))))));all_goals (rfl))
theorem zdd:∀(n:Nat){p:Pat},p.size<=n->p.ok->FnD Tryz.prog 139 [.agg [.d (.i p.op),.d (.i p.ctor),.d (.i p.n),.d (.i p.m),.d (.i p.var),.d (zae p.kids)]] [] (.agg [.d (.i (zav p).op),.d (.i (zav p).ctor),.d (.i (zav p).n),.d (.i (zav p).m),.d (.i (zav p).var),.d (zae (zav p).kids)]) []
 |0,p,h,_=>by rw[Pat.size_eq] at h;omega
 |n+1,p,h,hok=>by
  rw[Pat.size_eq] at h;rw[Pat.ok_iff] at hok;have hok1:=hok.1;by_cases h2:p.op=2
  ·rw[zsM h2];refine bd Tryz.f139 44 [] [] fun w0 F0 own kept hk=>?_;refine bx 3001 ?_;refine ab 3002 tz28 ?_;refine tv ?_;refine sq ?_ ?_<;>intro h1 h1p h1s;refine wc zuD (zgF) rfl rfl ?_;refine so ty28 ?_;refine tv ?_;refine rn0 (.cons (.cellA ty28 rfl rfl rfl) .nil) (.agg (.cons (.eqd ?_) (.cons (.eqd ?_) (.cons (.eqd ?_) (.cons (.eqd ?_) (.cons (.eqd ?_) (.cons (.eqd ?_) .nil)))))));rotate_left 6;try simp only[Q] at h1p
   exfalso;omega;all_goals (rfl)
  by_cases h6:p.op=6/\0<p.kids.length
  ·rw[zsN h6.1 h6.2];refine bd Tryz.f139 44 [] [] fun w0 F0 own kept hk=>?_;refine bx 3001 ?_;refine ab 3002 tz28 ?_;refine tv ?_;refine sq ?_ ?_<;>intro h1 h1p h1s;try simp only[Q,Pat.cs_len] at h1p
   exfalso;omega;refine sq ?_ ?_<;>intro h2 h2p h2s;refine sq ?_ ?_<;>intro h3 h3p h3s;refine xaV (i:=0) sl26 .none rfl rfl rfl rfl (zaE h6.2) rfl ?_;refine ev ?_;refine wc zkf (zdd n (p:=nth p.kids 0) (by have:=Pats.size_mem (zac h6.2);omega) (Pats.ok_mem hok.2 _ (zac h6.2))) rfl rfl ?_;refine so ty28 ?_;refine tv ?_;refine rn0 (.cons (.cellA ty28 rfl rfl rfl) .nil) (.agg (.cons (.eqd ?_) (.cons (.eqd ?_) (.cons (.eqd ?_) (.cons (.eqd ?_) (.cons (.eqd ?_) (.cons (.eqd ?_) .nil)))))));rotate_left 6;try simp only[Q,Pat.cs_len] at h3p
   focus (exfalso;first|omega|(simp_all;done))
   try simp only[Q,Pat.cs_len] at h2p
   exfalso;omega;all_goals (rfl)
  ·rw[zsO h2 h6];refine bd Tryz.f139 44 [] [] fun w0 F0 own kept hk=>?_;refine bx 3001 ?_;refine ab 3002 tz28 ?_;refine tv ?_;refine sq ?_ ?_<;>intro h1 h1p h1s;try simp only[Q,Pat.cs_len] at h1p
   exfalso;omega;refine sq ?_ ?_<;>intro h2 h2p h2s;refine sq ?_ ?_<;>intro h3 h3p h3s;try simp only[Q,Pat.cs_len] at h3p
   focus (exfalso;apply h6;first|omega|(simp_all;done))
   refine so ty26 ?_;refine tv ?_;refine xan 3001 5 7 6 rfl rfl rfl rfl ?_;refine xak (ι:=List (Pat)×List (Pat)) hk (fun x=>[(31,.d (.i (x.1.length:Int)))]) [5,32,33,34,35,36,37,38,39,40,41,42] (fun x=>[(3001,some (.box [.d (.i p.op),.d (.i p.ctor),.d (.i p.n),.d (.i p.m),.d (.i p.var),.gl 7 ((x.1.map zav).map Pat.cc)])),(7,some (.tok ((x.1.map zav).map Pat.cc).length 6))]) (fun x=>x.1++x.2=p.kids) (fun x=>x.2.length) ([],p.kids) (by simp) ⟨⟨_,rfl,xaq ?_⟩,trivial⟩ ⟨?_,⟨zab ?_,trivial⟩⟩ (fun x=>rfl) (fun x hg1=>?_);focus (rfl)
   focus (first|rfl|(simp[getH];done))
   focus (rfl)
   obtain⟨pre,rest⟩:=x;dsimp only at hg1 ⊢;refine evc [] [] ?_;refine sq ?_ ?_<;>intro h4 h4p h4s<;>(try simp only[Q,Pat.cs_len] at h4p);rcases rest with _|⟨y,rest⟩
   ·exfalso;simp_all
   refine xaV sl26 .none rfl rfl rfl rfl (Pat.cs_at' hg1) rfl ?_;refine ev ?_;refine ab 3005 tz28 ?_;refine so ty28 ?_;refine tv ?_;refine wc zkf (zdd n (p:=y) (by have:=Pats.size_mem (l:=p.kids) (v:=y) (by rw[<-hg1];simp);omega) (Pats.ok_mem hok.2 y (by rw[<-hg1];simp))) rfl rfl ?_;refine si [0] [_] sl26 tz28 ?_;refine ap sl26 zz28 rfl rfl rfl (by intro x hx;(simp at hx;subst hx;rfl)) (by have:=congrArg List.length hg1;simp at this;simp;omega) ?_;refine evd [] [] ?_;refine so ty26 ?_;refine dr ?_;refine ar ?_;refine xah ((pre++[y],rest)) ⟨(by have hz:=hg1;rw[<-hz];simp),(by simp),sx ⟨⟨_,rfl,xaq ?_⟩,trivial⟩ ⟨?_,⟨zab ?_,trivial⟩⟩⟩;focus ((simp;done))
   focus (first|rfl|(simp[getH];done))
   focus ((simp;done))
   have hrest:rest=[]:=by
    rcases rest with _|⟨a,b⟩
    ·rfl
    ·exfalso;have hz:=congrArg List.length (hg1);simp only[xaa,xab,xac] at hz;omega
   subst hrest;refine so ty28 ?_;refine tv ?_;refine rn0 (.cons (.cellA ty28 rfl rfl rfl) .nil) (.agg (.cons (.eqd ?_) (.cons (.eqd ?_) (.cons (.eqd ?_) (.cons (.eqd ?_) (.cons (.eqd ?_) (.cons (.gld ?_) .nil)))))));rotate_left 6;refine sqF ?_;refine so ty26 ?_;refine tv ?_;refine xan 3001 5 7 6 rfl rfl rfl rfl ?_;refine xak (ι:=List (Pat)×List (Pat)) hk (fun x=>[(31,.d (.i (x.1.length:Int)))]) [5,32,33,34,35,36,37,38,39,40,41,42] (fun x=>[(3001,some (.box [.d (.i p.op),.d (.i p.ctor),.d (.i p.n),.d (.i p.m),.d (.i p.var),.gl 7 ((x.1.map zav).map Pat.cc)])),(7,some (.tok ((x.1.map zav).map Pat.cc).length 6))]) (fun x=>x.1++x.2=p.kids) (fun x=>x.2.length) ([],p.kids) (by simp) ⟨⟨_,rfl,xaq ?_⟩,trivial⟩ ⟨?_,⟨zab ?_,trivial⟩⟩ (fun x=>rfl) (fun x hg1=>?_);focus (rfl)
   focus (first|rfl|(simp[getH];done))
   focus (rfl)
   obtain⟨pre,rest⟩:=x;dsimp only at hg1 ⊢;refine evc [] [] ?_;refine sq ?_ ?_<;>intro h6 h6p h6s<;>(try simp only[Q,Pat.cs_len] at h6p);rcases rest with _|⟨y,rest⟩
   ·exfalso;simp_all
   refine xaV sl26 .none rfl rfl rfl rfl (Pat.cs_at' hg1) rfl ?_;refine ev ?_;refine ab 3005 tz28 ?_;refine so ty28 ?_;refine tv ?_;refine wc zkf (zdd n (p:=y) (by have:=Pats.size_mem (l:=p.kids) (v:=y) (by rw[<-hg1];simp);omega) (Pats.ok_mem hok.2 y (by rw[<-hg1];simp))) rfl rfl ?_;refine si [0] [_] sl26 tz28 ?_;refine ap sl26 zz28 rfl rfl rfl (by intro x hx;(simp at hx;subst hx;rfl)) (by have:=congrArg List.length hg1;simp at this;simp;omega) ?_;refine evd [] [] ?_;refine so ty26 ?_;refine dr ?_;refine ar ?_;refine xah ((pre++[y],rest)) ⟨(by have hz:=hg1;rw[<-hz];simp),(by simp),sx ⟨⟨_,rfl,xaq ?_⟩,trivial⟩ ⟨?_,⟨zab ?_,trivial⟩⟩⟩;focus ((simp;done))
   focus (first|rfl|(simp[getH];done))
   focus ((simp;done))
   have hrest:rest=[]:=by
    rcases rest with _|⟨a,b⟩
    ·rfl
    ·exfalso;have hz:=congrArg List.length (hg1);simp only[xaa,xab,xac] at hz;omega
   subst hrest;refine so ty28 ?_;refine tv ?_;refine rn0 (.cons (.cellA ty28 rfl rfl rfl) .nil) (.agg (.cons (.eqd ?_) (.cons (.eqd ?_) (.cons (.eqd ?_) (.cons (.eqd ?_) (.cons (.eqd ?_) (.cons (.gld ?_) .nil)))))));rotate_left 6;all_goals (first|rfl|(rw[List.append_nil] at hg1;subst hg1;rw[<-xat];all_goals rfl))
theorem zev:∀(n:Nat){p:Pat},p.size<=n->p.ok->FnD Tryz.prog 140 [.agg [.d (.i p.op),.d (.i p.ctor),.d (.i p.n),.d (.i p.m),.d (.i p.var),.d (zae p.kids)]] [] (.d (.i (cntS p))) []
 |0,p,h,_=>by rw[Pat.size_eq] at h;omega
 |n+1,p,h,hok=>by
  rw[Pat.size_eq] at h;rw[Pat.ok_iff] at hok;have hok1:=hok.1;have hbd:=fun i=>zoB (nth p.kids i);by_cases h5:p.op=5
  ·rw[zoC,if_pos h5];refine bd Tryz.f140 31 [] [] fun w0 F0 own kept hk=>?_;refine bx 3001 ?_;refine ev ?_;refine sq ?_ ?_<;>intro h1 h1p h1s;refine xak (ι:=Nat×Int) hk (fun x=>[(12,.d (.i (x.1:Int))),(3,.d (.i x.2))]) [5,13,14,15,16,17,18,19,20,21,22,23,24,25,26,27,28,29] (fun x=>[]) (fun x=>x.1<=p.kids.length/\cntO (p.kids.drop x.1) x.2=cntO p.kids 0/\0<=x.2/\x.2<=401) (fun x=>p.kids.length-x.1) (0,0) ⟨by simp,rfl,by simp,by simp⟩ ⟨⟨_,rfl,xaq ?_⟩,⟨⟨_,rfl,xaq ?_⟩,trivial⟩⟩ trivial (fun x=>rfl) (fun x hg1=>?_);iterate 2 focus (rfl)
   refine evc [] [] ?_;refine sq ?_ ?_<;>intro h2 h2p h2s<;>(try simp only[Q,Pat.cs_len] at h2p);refine xaV sl26 .none rfl rfl rfl rfl (zaE (by omega)) rfl ?_;refine ev ?_;refine ab 3005 tz28 ?_;refine so ty28 ?_;refine tv ?_;refine sq ?_ ?_<;>intro h3 h3p h3s<;>(try simp only[Q,Pat.cs_len] at h3p);refine wc zmS (zev n (p:=nth p.kids x.1) (by have:=Pats.size_mem (zac (l:=p.kids) (i:=x.1) (by omega));omega) (Pats.ok_mem hok.2 _ (zac (by omega)))) rfl rfl ?_;refine ev ?_;refine ar ?_ (by(have hb:=hbd x.1;constructor<;>omega));refine xa5 .none rfl rfl rfl ?_;refine ev ?_;refine ar ?_ (by(constructor<;>omega));refine xah ((x.1+1,cap (x.2+cntS (nth p.kids x.1)))) ⟨(by
        have hb:=hbd x.1;have hc:=zgC (x:=x.2+cntS (nth p.kids x.1)) (by omega);exact⟨by dsimp only;omega,by dsimp only;rw[<-zuR (by omega)];exact hg1.2.1,hc.1,hc.2⟩),(by dsimp only;omega),sx ⟨⟨_,rfl,xaq ?_⟩,⟨⟨_,rfl,xaq ?_⟩,trivial⟩⟩ trivial⟩
   iterate 2 focus (rfl)
   exfalso;omega;refine rq ?_;rotate_left;try simp only[Q,Pat.cs_len] at h1p
   exfalso;omega;all_goals (refine congrArg D.i ?_;rw[<-hg1.2.1,List.drop_eq_nil_of_le (by omega)];rfl)
  ·rw[zoC,if_neg h5];refine bd Tryz.f140 31 [] [] fun w0 F0 own kept hk=>?_;refine bx 3001 ?_;refine ev ?_;refine sq ?_ ?_<;>intro h1 h1p h1s;try simp only[Q,Pat.cs_len] at h1p
   exfalso;omega;refine xak (ι:=Nat×Int) hk (fun x=>[(12,.d (.i (x.1:Int))),(3,.d (.i x.2))]) [5,13,14,15,16,17,18,19,20,21,22,23,24,25,26,27,28,29] (fun x=>[]) (fun x=>x.1<=p.kids.length/\cntM (p.kids.drop x.1) x.2=cntM p.kids 1/\0<=x.2/\x.2<=401) (fun x=>p.kids.length-x.1) (0,1) ⟨by simp,rfl,by simp,by simp⟩ ⟨⟨_,rfl,xaq ?_⟩,⟨⟨_,rfl,xaq ?_⟩,trivial⟩⟩ trivial (fun x=>rfl) (fun x hg1=>?_);iterate 2 focus (rfl)
   refine evc [] [] ?_;refine sq ?_ ?_<;>intro h2 h2p h2s<;>(try simp only[Q,Pat.cs_len] at h2p);refine xaV sl26 .none rfl rfl rfl rfl (zaE (by omega)) rfl ?_;refine ev ?_;refine ab 3005 tz28 ?_;refine so ty28 ?_;refine tv ?_;refine sq ?_ ?_<;>intro h3 h3p h3s;try simp only[Q,Pat.cs_len] at h3p
   exfalso;omega;refine wc zmS (zev n (p:=nth p.kids x.1) (by have:=Pats.size_mem (zac (l:=p.kids) (i:=x.1) (by omega));omega) (Pats.ok_mem hok.2 _ (zac (by omega)))) rfl rfl ?_;refine ev ?_;refine ar ?_ (by(have hb:=hbd x.1;have h3:=Int.mul_le_mul hg1.2.2.2 hb.2 hb.1 (by omega);have h4:=Int.mul_nonneg hg1.2.2.1 hb.1;constructor<;>omega));refine xa5 .none rfl rfl rfl ?_;refine ev ?_;refine ar ?_ (by(constructor<;>omega));refine xah ((x.1+1,cap (x.2*cntS (nth p.kids x.1)))) ⟨(by
        have hb:=hbd x.1;have hc:=zgC (x:=x.2*cntS (nth p.kids x.1)) (Int.mul_nonneg hg1.2.2.1 hb.1);exact⟨by dsimp only;omega,by dsimp only;rw[<-zuQ (by omega)];exact hg1.2.1,hc.1,hc.2⟩),(by dsimp only;omega),sx ⟨⟨_,rfl,xaq ?_⟩,⟨⟨_,rfl,xaq ?_⟩,trivial⟩⟩ trivial⟩
   iterate 2 focus (rfl)
   refine rq ?_;rotate_left;all_goals (refine congrArg D.i ?_;rw[<-hg1.2.1,List.drop_eq_nil_of_le (by omega)];rfl)
theorem zf3 {xs:List Pat} (hs:xs.length<=1000000000000):FnD Tryz.prog 147 [.d (zae xs)] [] (.gl 77 (Pat.cs xs)) [(77,some (.tok (Pat.cs xs).length 6))]:=by
 refine Fn.body (fn:=Tryz.f147) (n:=8) rfl rfl rfl rfl rfl (fun w0 F0 own kept hk=>?_);refine xam 0 rfl (fun hx0=>?_) ?_;refine evc [2,4] [] ?_;refine asg ?_;refine tv ?_;refine xaT sl26 .none rfl rfl ?_;refine tv ?_;refine sqT ?_;refine xaE 77 6 .none rfl rfl ?_;refine tv ?_;refine rn [(77,some (.tok (Pat.cs xs).length 6))] (r1 rfl) (.glg ?_) ⟨rfl,rfl⟩ (SubH.get ⟨?_,trivial⟩) (zay rfl);rotate_left 2;refine evc [2,4] [] ?_;refine asg ?_;refine tv ?_;refine xaS sl26 .none rfl rfl ?_;refine tv ?_;refine sqF ?_;refine xbi 77 sl26 .none rfl rfl ?_;refine evs [2,4] [] ?_;refine ap sl26 zz28 rfl rfl rfl (by intro y hy;rw[xat] at hy;obtain⟨z,_,rfl⟩:=List.mem_map.1 hy;rfl) (by simp[Pat.cs_len];omega) ?_;refine asg ?_;refine tv ?_;refine rn [(77,some (.tok (Pat.cs xs).length 6))] (r1 rfl) (.glg ?_) ⟨rfl,rfl⟩ (SubH.get ⟨?_,trivial⟩) (zay rfl);rotate_left 2;all_goals (first|((first|rfl|exact hx0.symm|(simp;done));done)|(first|rfl|(simp[hx0];rfl)|(simp;rfl)))
def zdZ (C:List Pat) (q:Pat):List Pat:=C.map fun c=> .mk q.op q.ctor q.n q.m q.var (q.kids++[c])
theorem ztP {ls:List (List Pat)}{C:List Pat}{a b c d e:Int}:((zei ls).map (fun l=>Pat.mk a b c d e l)).flatMap (zdZ C)=(zei (ls++[C])).map (fun l=>Pat.mk a b c d e l):=by
 rw[zt2];unfold za9 zdZ;rw[List.flatMap_map,List.map_flatMap];congr 1
 funext q
 simp[zby,zfu,mk_n,mk_m,zhS,zaL]
def zcu (p:Pat) (i:Nat):List Pat:=(zei ((p.kids.take i).map zau)).map fun l=>Pat.mk p.op p.ctor p.n p.m p.var l
theorem zwb (p:Pat):zcu p 0=[.mk p.op p.ctor p.n p.m p.var []]:=by unfold zcu;simp[zei]
theorem zsw {p:Pat}{i:Nat} (h:i<p.kids.length):(zcu p i).flatMap (zdZ (zau (nth p.kids i)))=zcu p (i+1):=by
 unfold zcu;rw[ztP,List.take_succ_eq_append_getElem h,xaf,<-zaM h];rfl
theorem ztN {p:Pat}{i:Nat} (h5:p.op≠5) (h:p.kids.length<=i):zcu p i=zau p:=by
 unfold zcu;rw[zdc h5,List.take_of_length_le h]
theorem ztO {n:Nat}{p:Pat} (h:binP (n+1) p=true) (h5:p.op≠5) (i:Nat):(zcu p i).length<=(zau p).length:=by
 unfold zcu;rw[xac];exact zsH h h5 i
theorem zsv {p:Pat}{i:Nat}{q:Pat} (h:q∈zcu p i):q.kids.length<=p.kids.length:=by
 unfold zcu at h;obtain⟨l,hl,rfl⟩:=List.mem_map.1 h;obtain⟨q0,hq,r,e,hlr,_⟩:=zil _ _ _ hl;rw[List.mem_singleton] at hq;rw[hq,List.nil_append] at e;rw[zaL,e,hlr];simp;omega
theorem zpv {α β:Type}{f:α->List β}{k:Nat} (hf:∀x,(f x).length<=k):∀l:List α,(l.flatMap f).length<=l.length*k
 | []=>by simp
 |x::r=>by
  rw[List.flatMap_cons,xaa,xab,Nat.succ_mul];have:=hf x;have:=zpv hf r;omega
theorem ze8:∀(n:Nat){p:Pat},binP n p=true->p.ok->(zau p).length<=40->FnD Tryz.prog 141 [.agg [.d (.i p.op),.d (.i p.ctor),.d (.i p.n),.d (.i p.m),.d (.i p.var),.d (zae p.kids)]] [] (.gl 9 (Pat.cs (zau p))) [(9,some (.tok (Pat.cs (zau p)).length 6))]
 |0,p,h,_,_=>by simp[binP] at h
 |n+1,p,h,hok,hlen=>by
  have hok':=(Pat.ok_iff p).1 hok;have hok1:=hok'.1;by_cases h5:p.op=5
  ·have hl:=zli h h5;have e5:=zdH h5 hl;have l0:=ziw h (i:=0) (by omega);have l1:=ziw h (i:=1) (by omega);have c0:=ze8 n (zea h (i:=0) (by omega)) (Pats.ok_mem hok'.2 _ (zac (by omega))) (by omega);have c1:=FnD.glD (ze8 n (zea h (i:=1) (by omega)) (Pats.ok_mem hok'.2 _ (zac (by omega))) (by omega));rw[e5];refine bd Tryz.f141 70 [] [] fun w0 F0 own kept hk=>?_;refine bx 3001 ?_;refine ev ?_;refine sq ?_ ?_<;>intro h1 h1p h1s<;>(try simp only[Q,Pat.cs_len] at h1p);refine xaV (i:=0) sl26 .none rfl rfl rfl rfl (zaE (by omega)) rfl ?_;refine evd [] [] ?_;refine Walk.call (cr:=[9]) zmT (c0) rfl .none rfl rfl (LeL.refl _) trivial rfl rfl rfl ?_;refine evd [] [] ?_;refine xaV (i:=1) sl26 .none rfl rfl rfl rfl (zaE (by omega)) rfl ?_;refine evd [] [] ?_;refine wc zmT (c1) rfl rfl ?_;refine ap sl26 zz28 rfl rfl rfl (by intro x hx;exact zbH _ x hx) (by simp[Pat.cs_len];omega) ?_;refine evd [] [] ?_;refine dr ?_;refine rn [(9,some (.tok (Pat.cs (zau (nth p.kids 0)++zau (nth p.kids 1))).length 6))] (r1 rfl) (.glg ?_) ⟨rfl,rfl⟩ (SubH.get ⟨?_,trivial⟩) (zay rfl);rotate_left 2;exfalso;omega;all_goals (first|((first|rfl|(simp[xat];done));done)|(first|rfl|(simp[xat];rfl)))
  ·have hfl:=ztO h h5;have hfk:=fun(i:Nat) (q:Pat) (hq:q∈zcu p i)=>zsv hq;have hf0:=zwb p;have hfe:=fun(i:Nat) (hi:p.kids.length<=i)=>ztN h5 hi;have hfn:=fun(i:Nat) (hi:i<p.kids.length)=>zsw hi;have hcal:=fun(i:Nat) (hi:i<p.kids.length)=>FnD.glD (ze8 n (zea h hi) (Pats.ok_mem hok'.2 _ (zac hi)) (by have:=ziw h hi;omega));have hcl:=fun(i:Nat) (hi:i<p.kids.length)=>ziw h hi;have hgl:=fun(C:List Pat) (q:Pat)=>show(zdZ C q).length<=C.length from by unfold zdZ;simp
   generalize zau p=SP at *;refine bd Tryz.f141 70 [8] [10,23] fun w0 F0 own kept hk=>?_;refine bx 3001 ?_;refine evs [8] [] ?_;refine sq ?_ ?_<;>intro h1 h1p h1s<;>(try simp only[Q,Pat.cs_len] at h1p);exfalso;omega;refine so ty26 ?_;refine tv ?_;refine xbk 9 sl26 tz28 rfl (by decide) (ks:=[0]) (xs:=[_]) rfl rfl (by decide) (by decide) .none rfl rfl rfl rfl rfl ?_;refine evs [8] [] ?_;refine xak (ι:=Nat) hk (fun i=>[(35,.d (.i (i:Int))),(4,.gl 9 ((zcu p i).map Pat.cc)),(32,.any)]) [6,7,8,10,12,13,36,37,38,39,40,41,42,43,44,45,46,47,48,49,50,51,52,53,54,55,56,57,58,59,60,61,62,63,64,65,66,67,68] (fun i=>[(9,some (.tok (((zcu p i).map Pat.cc)).length 6))]) (fun i=>i<=p.kids.length) (fun i=>p.kids.length-i) 0 (by omega) ⟨⟨_,rfl,xaq ?_⟩,⟨⟨_,rfl,LeA.glg ?_⟩,⟨⟨_,rfl,.any _⟩,trivial⟩⟩⟩ ⟨zab ?_,trivial⟩ (fun x=>rfl) (fun i hg1=>?_);iterate 3 focus (rfl)
   refine evc [8] [10,23] ?_;refine sq ?_ ?_<;>intro h2 h2p h2s<;>(try simp only[Q,Pat.cs_len] at h2p);refine xaV sl26 .none rfl rfl rfl rfl (zaE (by omega)) rfl ?_;refine evs [8] [] ?_;refine ab 3006 tz28 ?_;refine so ty28 ?_;refine tv ?_;refine wc zmT (hcal i (by omega)) rfl rfl ?_;refine evs [8] [] ?_;refine CWp.tokDrop 4 9 rfl rfl ?_;refine evc [8] [] ?_;refine xaE 3 6 .none rfl rfl ?_;refine tv ?_;refine xak (ι:=List (Pat)×List (Pat)) hk (fun x=>[(43,.d (.i (x.1.length:Int))),(8,.gl 3 ((x.1.flatMap (zdZ (zau (nth p.kids i)))).map Pat.cc))]) [10,12,13,44,45,46,47,48,49,50,51,52,53,54,55,56,57,58,59,60,61,62,63,64,65,66] (fun x=>[(3,some (.tok (((x.1.flatMap (zdZ (zau (nth p.kids i)))).map Pat.cc)).length 6))]) (fun x=>x.1++x.2=zcu p i) (fun x=>x.2.length) ([],zcu p i) (by simp) ⟨⟨_,rfl,xaq ?_⟩,⟨⟨_,rfl,LeA.glg ?_⟩,trivial⟩⟩ ⟨zab ?_,trivial⟩ (fun x=>rfl) (fun x hg2=>?_);iterate 3 focus (rfl)
   obtain⟨pre2,rest2⟩:=x;dsimp only at hg2 ⊢;refine evc [8] [10,23] ?_;refine sq ?_ ?_<;>intro h3 h3p h3s<;>(try simp only[Q,Pat.cs_len] at h3p);rcases rest2 with _|⟨q,rest2⟩
   ·exfalso;simp_all
   have hqk:=hfk i q (by rw[<-hg2];simp);have hl2:=congrArg List.length hg2;simp only[xaa,xab] at hl2;have hl2b:=hfl i;refine xaV sl26 .none rfl rfl rfl rfl (zaI hg2) rfl ?_;refine evs [8] [] ?_;refine ab 3010 tz28 ?_;refine so ty28 ?_;refine tv ?_;refine xak (ι:=List (Pat)×List (Pat)) hk (fun x=>[(49,.d (.i (x.1.length:Int))),(8,.gl 3 ((pre2.flatMap (zdZ (zau (nth p.kids i)))++zdZ x.1 q).map Pat.cc))]) [12,13,50,51,52,53,54,55,56,57,58,59,60,61,62,63,64,65] (fun x=>[(3,some (.tok (((pre2.flatMap (zdZ (zau (nth p.kids i)))++zdZ x.1 q).map Pat.cc)).length 6))]) (fun x=>x.1++x.2=zau (nth p.kids i)) (fun x=>x.2.length) ([],zau (nth p.kids i)) (by simp) ⟨⟨_,rfl,xaq ?_⟩,⟨⟨_,rfl,LeA.glg ?_⟩,trivial⟩⟩ ⟨zab ?_,trivial⟩ (fun x=>rfl) (fun x hg3=>?_);iterate 3 focus ((simp[zdZ];done))
   obtain⟨pre3,rest3⟩:=x;dsimp only at hg3 ⊢;refine evc [8] [10,23] ?_;refine sq ?_ ?_<;>intro h4 h4p h4s<;>(try simp only[Q,Pat.cs_len] at h4p);rcases rest3 with _|⟨y,rest3⟩
   ·exfalso;simp_all
   have hl3:=congrArg List.length hg3;simp only[xaa,xab] at hl3;have hl3b:=hcl i (by omega);refine xaV sl26 .none rfl rfl rfl rfl (Pat.cs_at' hg3) rfl ?_;refine evs [8] [] ?_;refine ab 3012 tz28 ?_;refine so ty28 ?_;refine tv ?_;refine ab 3013 tz28 ?_;refine so ty28 ?_;refine tv ?_;refine Walk.call (cr:=[77]) zqZ (zf3 (xs:=q.kids) (by omega)) rfl .none rfl rfl (LeL.refl _) trivial rfl rfl rfl ?_;refine evd [8] [] ?_;refine si [0] [_] sl26 tz28 ?_;refine ap sl26 zz28 rfl rfl rfl (by intro x hx;first|(simp at hx;subst hx;rfl)|exact zhz _ x hx) (by first|(simp;omega)|(simp only[Pat.cs_len,xaa,xab,xai];omega)) ?_;refine evd [8] [] ?_;refine so ty26 ?_;refine dr ?_;refine si [0] [_] sl26 tz28 ?_;refine ap sl26 zz28 rfl rfl rfl (by intro x hx;first|(simp at hx;subst hx;rfl)|exact zbH _ x hx) (by first|(simp;omega)|(have h10:=hgl pre3 q;have h8:=congrArg List.length hg2;have h9:=congrArg List.length hg3;have h7:=zpv (hgl (zau (nth p.kids i))) pre2;have h6:=hfl i;have h5:=hcl i (by omega);simp only[xaa,xab,xac,xai] at *;have h4:pre2.length*(zau (nth p.kids i)).length<=40*40:=Nat.mul_le_mul (by omega) (by omega);omega)) ?_;refine asg ?_;refine tv ?_;refine ar ?_;refine xah ((pre3++[y],rest3)) ⟨(by have hz:=hg3;rw[<-hz];simp),(by simp),sx ⟨⟨_,rfl,xaq ?_⟩,⟨⟨_,rfl,LeA.glg ?_⟩,trivial⟩⟩ ⟨zab ?_,trivial⟩⟩;iterate 3 focus (first|(simp[zdZ];omega)|(simp[zdZ,zby,zfu,mk_n,mk_m,zhS,zaL,xat];done))
   have hrest3:rest3=[]:=by
    rcases rest3 with _|⟨a,b⟩
    ·rfl
    ·exfalso;have hz:=congrArg List.length (hg3);simp only[xaa,xab,xac] at hz;omega
   subst hrest3;refine ar ?_;refine xah ((pre2++[q],rest2)) ⟨(by have hz:=hg2;rw[<-hz];simp),(by simp),sx ⟨⟨_,rfl,xaq ?_⟩,⟨⟨_,rfl,LeA.glg ?_⟩,trivial⟩⟩ ⟨zab ?_,trivial⟩⟩;iterate 3 focus (first|(simp;done)|(rw[List.append_nil] at hg3;rw[List.flatMap_append,xaf];simp[zdZ,<-hg3];done))
   have hrest2:rest2=[]:=by
    rcases rest2 with _|⟨a,b⟩
    ·rfl
    ·exfalso;have hz:=congrArg List.length (hg2);simp only[xaa,xab,xac] at hz;omega
   subst hrest2;refine CWp.tokRen 4 3 9 rfl rfl (by kernel_rfl) ?_;refine evc [8] [] ?_;refine ar ?_;rw[List.append_nil] at hg2;refine xah (i+1) ⟨(by omega),(by omega),sx ⟨⟨_,rfl,xaq ?_⟩,⟨⟨_,rfl,LeA.glg ?_⟩,⟨⟨_,rfl,.any _⟩,trivial⟩⟩⟩ ⟨zab ?_,trivial⟩⟩;iterate 3 focus (first|rfl|(rw[<-hfn i (by omega),<-hg2];done))
   refine rn [(9,some (.tok (Pat.cs SP).length 6))] (r1 rfl) (.glg ?_) ⟨rfl,rfl⟩ (SubH.get ⟨?_,trivial⟩) (zay rfl);rotate_left 2;all_goals ((((rw[<-hfe i (by omega),show Pat.cs (zcu p i)=(zcu p i).map Pat.cc from xat _];all_goals rfl));done))
def zbp (p:Pat):List Pat:=if (zau (zav p)).length<=40 then zau (zav p) else []
def zbm (p:Pat):Bool:=decide ((zau (zav p)).length<=40)
theorem zjU {w:List Data}{n:Nat}{t:Ty}{p:Pat} (h:zaq w n t p=true) (hok:p.ok):FnD Tryz.prog 85 [.agg [.d (.i p.op),.d (.i p.ctor),.d (.i p.n),.d (.i p.m),.d (.i p.var),.d (zae p.kids)]] [] (.tup [.d (zae (zbp p)),.d (.bool (zbm p))]) []:=by
 have hb:=zgJ n h;have hbo:=zlg p hok;have hce:=(zkm n hb).1;have hbp:=zdd _ (Nat.le_refl _) hok;have hcs:=zev _ (Nat.le_refl _) hbo;have hsp:=fun h40=>FnD.glD (ze8 n hb hbo h40);rw[hce] at hcs;unfold zbp zbm;generalize zav p=b at *;by_cases h40:(zau b).length<=40
 ·rw[if_pos h40,decide_eq_true h40];have hc40:cap ((zau b).length:Int)<=40:=by unfold cap;split<;>omega
  refine bd Tryz.f85 12 [] [] fun w0 F0 own kept hk=>?_;refine bx 3001 ?_;refine ev ?_;refine wc zkf (hbp) rfl rfl ?_;refine ab 3004 tz28 ?_;refine so ty28 ?_;refine tv ?_;refine wc zmS (hcs) rfl rfl ?_;refine ev ?_;refine sq ?_ ?_<;>intro h1 h1p h1s<;>(try simp only[Q] at h1p);exfalso;omega;refine wc zmT (hsp h40) rfl rfl ?_;refine ev ?_;refine rn0 (r2 rfl rfl) (.tup (.cons (.eqd ?_) (.cons (.eqd ?_) .nil)));rotate_left 2;all_goals (rfl)
 ·rw[if_neg h40,decide_eq_false h40];have hc40:¬cap ((zau b).length:Int)<=40:=by unfold cap;split<;>omega
  refine bd Tryz.f85 12 [] [] fun w0 F0 own kept hk=>?_;refine bx 3001 ?_;refine ev ?_;refine wc zkf (hbp) rfl rfl ?_;refine ab 3004 tz28 ?_;refine so ty28 ?_;refine tv ?_;refine wc zmS (hcs) rfl rfl ?_;refine ev ?_;refine sq ?_ ?_<;>intro h1 h1p h1s<;>(try simp only[Q] at h1p);refine rn0 (r2 rfl rfl) (.tup (.cons (.nild ?_) (.cons (.eqd ?_) .nil)));rotate_left 2;exfalso;omega;all_goals (rfl)
structure Spa (w:List Data):Prop where
 dp:Dp w
 ctors:∀t,InS (w.length*4) t->(zah w t).length<=4/\(zah w t).Nodup
 args:∀t c,InS (w.length*4) t->c∈zah w t->(zaa w t c).length<=3
theorem zkp (k:Int):∀(l:List Ctor) (i:Nat),(zaY k i l).Pairwise (· < ·)
 | [],_=>by simp[zaY]
 |x::r,i=>by
  unfold zaY;have ih:=zkp k r (i+1);split
  ·refine List.pairwise_cons.2 ⟨fun y hy=>?_,ih⟩;obtain⟨j,rfl,h1,_⟩:=zgV k r (i+1) y hy;omega
  ·exact ih
theorem zwS {w:List Data} (hs:WSmall w) (hv:za3 w=true):Spa w:=by
 have hd:=zmL hs hv;have hW:=(zcd w).1 hv;refine⟨hd,fun t ht=>?_,fun t c ht hc=>?_⟩
 ·unfold zah;split
  ·simp
  ·rename_i he;refine⟨?_,(zkp _ _ _).imp (fun h=>by omega)⟩;rcases ht with h|⟨h1,h2⟩
   ·exact absurd h he
   ·have:=hd.ct _ h1;rw[h2] at this;exact this
 ·have hti:=zb7 ht;obtain⟨d,h1,h2,j,h3,h4⟩:=zcF (a:=t.data) (k:=t.index) hti hc;have hco:=hW.ctor _ (zac h2) _ (zac h4);simp only[zbF,xad,decide_eq_true_eq] at hco;unfold zaa;rw[h1,h3];simp only[Int.toNat_natCast,xac];omega
abbrev intQ (n m:Int):Pat:= .mk 3 0 n m 0 []
abbrev zbb (c:Int) (l:List Pat):Pat:= .mk 4 c 0 0 0 l
def zbP (w:List Data) (t:Ty) (c:Int):Pat:=zbb c ((zaa w t c).map fun _=>anyQ)
def lowQ (p:Pat):Int:=if p.op=1 then 0 else p.n
def zcs (p:Pat):Int:=if p.op=1 then 9 else p.m
def minQ (a b:Int):Int:=if b<a then b else a
def maxQ (a b:Int):Int:=if a<b then b else a
def zbX (n m:Int):List Pat:=if n<=m then [intQ n m] else []
def zbS (f:Pat->Pat->Option Pat):List Pat->List Pat->List Pat->Option (List Pat)
 |p::r,q::s,acc=>match f p q with
  |none=>none
  |some x=>zbS f r s (acc++[x])
 |_,_,acc=>some acc
def zaH:Nat->Pat->Pat->Option Pat
 |0,_,_=>none
 |n+1,a,b=>if a.op=1 then some b else if b.op=1 then some a else if a.op=3 then (if maxQ a.n b.n<=minQ a.m b.m then some (intQ (maxQ a.n b.n) (minQ a.m b.m)) else none)
  else if a.ctor=b.ctor then (zbS (zaH n) a.kids b.kids []).map (zbb a.ctor) else none
def zaP (f:Ty->Pat->Pat->List Pat) (c:Int):List Ty->List Pat->List Pat->List Pat->List Pat
 |u::r,x::s,y::q,front=>(f u x y).map (fun z=>zbb c (front++[z]++s))++(match zaH 11 x y with
  |none=>[]
  |some both=>zaP f c r s q (front++[both]))
 |_,_,_,_=>[]
def zb4 (f:Ty->Pat->Pat->List Pat) (w:List Data) (t:Ty) (a b:Pat):List Pat:=if a.ctor=b.ctor then zaP f a.ctor (zaa w t a.ctor) a.kids b.kids [] else [a]
def zd8 (a b:Pat):List Pat:=zbX (lowQ a) (minQ (zcs a) (b.n-1))++zbX (maxQ (lowQ a) (b.m+1)) (zcs a)
def zat (w:List Data):Nat->Ty->Pat->Pat->List Pat
 |0,_,_,_=>[]
 |n+1,t,a,b=>if b.op=1 then [] else if b.op=3 then zd8 a b else if a.op=1 then (zah w t).flatMap fun c=>zb4 (zat w n) w t (zbP w t c) b else zb4 (zat w n) w t a b
section
variable {w:List Data}{n:Nat}{t:Ty}{a b:Pat}
theorem zft (h:b.op=1):zat w (n+1) t a b=[]:=by unfold zat;rw[if_pos h]
theorem zhw (h:b.op=3):zat w (n+1) t a b=zd8 a b:=by unfold zat;rw[if_neg (by omega),if_pos h]
theorem zge (h:b.op=4) (h2:a.op=1):zat w (n+1) t a b=(zah w t).flatMap fun c=>zb4 (zat w n) w t (zbP w t c) b:=by
 conv=>lhs;unfold zat
 rw[if_neg (by omega),if_neg (by omega),if_pos h2]
theorem zc3 (h:b.op=4) (h2:a.op=4):zat w (n+1) t a b=zb4 (zat w n) w t a b:=by
 conv=>lhs;unfold zat
 rw[if_neg (by omega),if_neg (by omega),if_neg (by omega)]
theorem zhQ (h:a.op=1):zaH (n+1) a b=some b:=by unfold zaH;rw[if_pos h]
theorem ziZ (h:a.op≠1) (h2:b.op=1):zaH (n+1) a b=some a:=by unfold zaH;rw[if_neg h,if_pos h2]
theorem zi0 (h:a.op=3) (h2:b.op≠1):zaH (n+1) a b=if maxQ a.n b.n<=minQ a.m b.m then some (intQ (maxQ a.n b.n) (minQ a.m b.m)) else none:=by
 conv=>lhs;unfold zaH
 rw[if_neg (by omega),if_neg h2,if_pos h]
theorem zhR (h:a.op=4) (h2:b.op≠1) (hc:a.ctor=b.ctor):zaH (n+1) a b=(zbS (zaH n) a.kids b.kids []).map (zbb a.ctor):=by
 conv=>lhs;unfold zaH
 rw[if_neg (by omega),if_neg h2,if_neg (by omega),if_pos hc]
theorem zhv (h:a.op=4) (h2:b.op≠1) (hc:¬a.ctor=b.ctor):zaH (n+1) a b=none:=by
 conv=>lhs;unfold zaH
 rw[if_neg (by omega),if_neg h2,if_neg (by omega),if_neg hc]
end
theorem zbG {w:List Data}{n:Nat}{t:Ty}{p:Pat} (h:zaf w n t p=true) (h3:p.op=3):t.data = -1/\0<=p.n/\p.n<=p.m/\p.m<=9:=by
 have ho:=(zgg h).1;unfold ownP at ho;have:=(of_decide_eq_true ho).2.2.2.2;omega
theorem zaD {w:List Data}{n:Nat}{t:Ty}{p:Pat} (h:zaf w n t p=true) (h4:p.op=4):p.ctor∈zah w t/\t.data≠ -1/\p.kids.length=(zaa w t p.ctor).length/\p=zbb p.ctor p.kids:=by
 obtain⟨ho,hl⟩:=zgg h;have hm:=zb8 ho h4;refine⟨hm,fun e=>by unfold zah at hm;rw[if_pos e] at hm;simp at hm,by rw[za0 h4] at hl;exact hl, ?_⟩;unfold ownP at ho;have hh:=of_decide_eq_true ho;have h1:=hh.2.1 (by omega);have h2:=hh.2.2.1 (by omega);obtain⟨op,c,m,k,v,ks⟩:=p;change op=4 at h4
 change v=0 at h1
 change m=0/\k=0 at h2
 rw[h4,h1,h2.1,h2.2];rfl
theorem zpH {w:List Data}{n:Nat}{t:Ty}{a b:Int} (ht:t.data = -1) (h0:0<=a) (h1:a<=b) (h2:b<=9):zaf w (n+1) t (intQ a b)=true:=by
 unfold zaf;have e:zag w t (intQ a b)=[]:=rfl;rw[e];have ho:ownP w t (intQ a b)=true:=by
  unfold ownP;refine decide_eq_true ⟨fun h=>?_,fun _=>rfl,fun h=>absurd rfl h,fun _=>rfl,.inr (.inr (.inr (.inr (.inl ⟨rfl,ht,h0,h1,h2⟩))))⟩;exfalso;change (3:Int)=2\/(3:Int)=6 at h;omega
 rw[ho];rfl
theorem zjg {w:List Data}{n:Nat}{t:Ty}{c:Int}{l:List Pat} (hc:c∈zah w t) (hl:l.length=(zaa w t c).length) (hk:∀i,i<l.length->zaf w n (nth (zaa w t c) i) (nth l i)=true):zaf w (n+1) t (zbb c l)=true:=by
 unfold zaf;have e:zag w t (zbb c l)=zaa w t c:=za0 rfl;have ho:ownP w t (zbb c l)=true:=by
  unfold ownP;refine decide_eq_true ⟨fun h=>?_,fun _=>rfl,fun _=>⟨rfl,rfl⟩,fun h=>absurd rfl h,.inr (.inr (.inr (.inr (.inr ⟨rfl,hc⟩))))⟩;exfalso;change (4:Int)=2\/(4:Int)=6 at h;omega
 rw[ho,e,zaL];exact zcp hl.symm (fun i hi=>hk i (by omega))
theorem zdl {w:List Data}{n m:Nat} (h:n<=m){t:Ty}{p:Pat} (hp:zaf w n t p=true):zaf w m t p=true:=by
 induction h with
 |refl=>exact hp
 |step _ ih=>exact zgI _ ih
theorem zcG {w:List Data}{n:Nat}{t:Ty}{c:Int} (hc:c∈zah w t):zaf w (n+2) t (zbP w t c)=true:=by
 unfold zbP;refine zjg hc (by simp) (fun i hi=>?_);have e:nth ((zaa w t c).map fun _=>anyQ) i=anyQ:=by
  rw[zaM hi];simp
 rw[e];exact zka
theorem znz {f:Pat->Pat->Option Pat}{a b:List Pat}{i:Nat}{acc:List Pat} (h1:i<a.length) (h2:i<b.length) (h:f (nth a i) (nth b i)=none):zbS f (a.drop i) (b.drop i) acc=none:=by
 rw[zaK h1,zaK h2,zbS,h]
theorem znA {f:Pat->Pat->Option Pat}{a b:List Pat}{i:Nat}{acc:List Pat}{x:Pat} (h1:i<a.length) (h2:i<b.length) (h:f (nth a i) (nth b i)=some x):zbS f (a.drop i) (b.drop i) acc=zbS f (a.drop (i+1)) (b.drop (i+1)) (acc++[x]):=by
 rw[zaK h1,zaK h2,zbS,h]
theorem zfs {f:Pat->Pat->Option Pat}{a b:List Pat}{i:Nat}{acc:List Pat} (h1:a.length<=i):zbS f (a.drop i) (b.drop i) acc=some acc:=by
 rw[List.drop_eq_nil_of_le h1];cases b.drop i<;>rfl
theorem zfO {f:Pat->Pat->Option Pat}:∀ {a b acc l:List Pat},a.length=b.length->zbS f a b acc=some l->∃r,l=acc++r/\r.length=a.length/\∀i,i<a.length->f (nth a i) (nth b i)=some (nth r i)
 | [],[],acc,l,_,h=>by
  simp only[zbS,Option.some.injEq] at h;exact⟨[],by simp[h],rfl,fun i hi=>by simp at hi⟩
 |p::r,q::s,acc,l,hl,h=>by
  unfold zbS at h;cases hf:f p q with
  |none=>rw[hf] at h;cases h
  |some x=>
   rw[hf] at h;obtain⟨z,e,hz,hm⟩:=zfO (a:=r) (b:=s) (by simpa using hl) h;refine⟨x::z,by rw[e];simp,by simp[hz],fun i hi=>?_⟩;cases i with
   |zero=>exact hf
   |succ i=>exact hm i (by simpa using hi)
 | [],_::_,_,_,hl,_=>by simp at hl
 |_::_,[],_,_,hl,_=>by simp at hl
theorem zdm {w:List Data}{n m:Nat}{t:Ty}{a b:Pat} (ha:zaf w n t a=true) (hb:zaf w m t b=true) (h1:a.op≠1) (h2:b.op≠1):a.op=b.op:=by
 have oa:=zbq ha;have ob:=zbq hb;rcases oa with h|h|h
 ·exact absurd h h1
 ·rcases ob with h' | h' | h'
  ·exact absurd h' h2
  ·omega
  ·exact absurd (zbG ha h).1 (zaD hb h').2.1
 ·rcases ob with h' | h' | h'
  ·exact absurd h' h2
  ·exact absurd (zbG hb h').1 (zaD ha h).2.1
  ·omega
theorem ztg (a b:Int):minQ a b<=a/\minQ a b<=b:=by unfold minQ;split<;>omega
theorem ztf (a b:Int):a<=maxQ a b/\b<=maxQ a b:=by unfold maxQ;split<;>omega
theorem zxU (a b:Int):minQ a b=a\/minQ a b=b:=by unfold minQ;split<;>omega
theorem zxT (a b:Int):maxQ a b=a\/maxQ a b=b:=by unfold maxQ;split<;>omega
theorem zpN {w:List Data}:∀(n m:Nat){t:Ty}{a b x:Pat},zaf w m t a=true->zaf w m t b=true->zaH n a b=some x->zaf w m t x=true
 |0,m,t,a,b,x,_,_,h=>by simp[zaH] at h
 |n+1,0,t,a,b,x,ha,_,_=>by simp[zaf] at ha
 |n+1,m+1,t,a,b,x,ha,hb,h=>by
  by_cases h1:a.op=1
  ·rw[zhQ h1] at h;cases h;exact hb
  by_cases h2:b.op=1
  ·rw[ziZ h1 h2] at h;cases h;exact ha
  have hs:=zdm ha hb h1 h2;have oa:=zbq ha;by_cases h3:a.op=3
  ·rw[zi0 h3 h2] at h;split at h
   ·cases h
    have ia:=zbG ha h3;have ib:=zbG hb (by omega);have q1:=zxU a.m b.m;have q2:=zxT a.n b.n;refine zpH ia.1 (by omega) (by assumption) (by omega)
   ·cases h
  have h4:a.op=4:=by omega
  by_cases hc:a.ctor=b.ctor
  ·rw[zhR h4 h2 hc] at h;obtain⟨m1,m2,m3,m4⟩:=zaD ha h4;obtain⟨n1,n2,n3,n4⟩:=zaD hb (by omega);rw[<-hc] at n3;cases hl:zbS (zaH n) a.kids b.kids [] with
   |none=>rw[hl] at h;cases h
   |some l=>
    rw[hl] at h;simp only[Option.map_some,Option.some.injEq] at h;subst h;obtain⟨r,e,hr,hm⟩:=zfO (by omega) hl;rw[List.nil_append] at e;subst e;refine zjg m1 (by omega) (fun i hi=>?_);have ka:=zaS ha (i:=i) (by omega);have kb:=zaS hb (i:=i) (by omega);rw[za0 h4] at ka;rw[za0 (by omega),<-hc] at kb;exact zpN n m ka kb (hm i (by omega))
  ·rw[zhv h4 h2 hc] at h;cases h
theorem znV {w:List Data}{n:Nat}{t:Ty}{a b:Int} (ht:t.data = -1) (h0:0<=a) (h2:b<=9):∀x∈zbX a b,zaf w (n+1) t x=true:=by
 intro x hx;unfold zbX at hx;split at hx
 ·rename_i h1;rw[List.mem_singleton] at hx;rw[hx];exact zpH ht h0 h1 h2
 ·simp at hx
theorem zmq {w:List Data}{n:Nat}{t:Ty}{a:Pat} (ha:zaf w n t a=true) (ht:t.data = -1):0<=lowQ a/\zcs a<=9/\lowQ a<=zcs a:=by
 have oa:=zbq ha;unfold lowQ zcs;by_cases h1:a.op=1
 ·rw[if_pos h1,if_pos h1];omega
 ·rw[if_neg h1,if_neg h1];by_cases h3:a.op=3
  ·have:=zbG ha h3;omega
  ·exact absurd ht (zaD ha (by omega)).2.1
theorem ztV (a b:Pat):(zd8 a b).length<=2:=by
 have h:∀x y,(zbX x y).length<=1:=fun x y=>by unfold zbX;split<;>simp
 unfold zd8;rw[xaa];have:=h (lowQ a) (minQ (zcs a) (b.n-1));have:=h (maxQ (lowQ a) (b.m+1)) (zcs a);omega
theorem zsA {w:List Data}{f:Ty->Pat->Pat->List Pat}{m:Nat}{t:Ty}{c:Int} (hc:c∈zah w t) (hf:∀u x y,zaf w m u x=true->zaf w m u y=true->∀z∈f u x y,zaf w m u z=true):
  ∀(i:Nat){xs bs front:List Pat},front.length=i->xs.length+i=(zaa w t c).length->bs.length=xs.length->(∀j,j<i->zaf w m (nth (zaa w t c) j) (nth front j)=true)->
   (∀j,j<xs.length->zaf w m (nth (zaa w t c) (i+j)) (nth xs j)=true/\zaf w m (nth (zaa w t c) (i+j)) (nth bs j)=true)->
   ∀x∈zaP f c ((zaa w t c).drop i) xs bs front,zaf w (m+1) t x=true:=by
 intro i xs;induction xs generalizing i with
 |nil=>
  intro bs front _ _ _ _ _ x hx;cases hT:(zaa w t c).drop i<;>(rw[hT] at hx;simp[zaP] at hx)
 |cons a0 s ih=>
  intro bs front hfl hal hbl hfr hab x hx;cases bs with
  |nil=>simp at hbl
  |cons b0 q=>
   have hi:i<(zaa w t c).length:=by simp at hal;omega
   rw[zaK hi] at hx;have h0:=hab 0 (by simp);simp only[Nat.add_zero] at h0;have e0:nth (a0::s) 0=a0:=rfl;have e1:nth (b0::q) 0=b0:=rfl;rw[e0,e1] at h0;unfold zaP at hx;have hpiece:∀z,zaf w m (nth (zaa w t c) i) z=true->∀j,j<(front++[z]++s).length->zaf w m (nth (zaa w t c) j) (nth (front++[z]++s) j)=true:=fun z hz j hj=>by
    by_cases hj1:j<i
    ·have e:nth (front++[z]++s) j=nth front j:=by
      simp only[nth,List.getD,List.append_assoc];rw[List.getElem?_append_left (by omega)]
     rw[e];exact hfr j hj1
    ·by_cases hj2:j=i
     ·have e:nth (front++[z]++s) j=z:=by
       simp only[nth,List.getD,List.append_assoc];rw[List.getElem?_append_right (by omega),show j-front.length=0 by omega];rfl
      rw[e,hj2];exact hz
     ·obtain⟨k,rfl⟩:∃k,j=i+1+k:=⟨j-(i+1),by omega⟩;have e:nth (front++[z]++s) (i+1+k)=nth (a0::s) (k+1):=by
       simp only[nth,List.getD,List.append_assoc];rw[List.getElem?_append_right (by omega),show i+1+k-front.length=k+1 by omega];rfl
      rw[e];have:=(hab (k+1) (by simp at hj ⊢;omega)).1;rwa [show i+(k+1)=i+1+k by omega] at this
   rcases List.mem_append.1 hx with hx|hx
   ·obtain⟨z,hz,rfl⟩:=List.mem_map.1 hx;refine zjg hc (by simp at hal ⊢;omega) (hpiece z (hf _ _ _ h0.1 h0.2 z hz))
   ·cases hm:zaH 11 a0 b0 with
    |none=>rw[hm] at hx;simp at hx
    |some both=>
     rw[hm] at hx;have hbp:=zpN 11 m h0.1 h0.2 hm;refine ih (i+1) (bs:=q) (front:=front++[both]) (by simp[hfl]) (by simp at hal ⊢;omega) (by simpa using hbl) (fun j hj=>?_) (fun j hj=>?_) x hx
     ·have:=hpiece both hbp j (by simp;omega);have e:nth (front++[both]++s) j=nth (front++[both]) j:=by
       simp only[nth,List.getD];rw[List.getElem?_append_left (by simp;omega)]
      rwa [e] at this
     ·have:=hab (j+1) (by simpa using hj);rwa [show i+(j+1)=i+1+j by omega] at this
theorem zfQ {w:List Data}:∀(n m:Nat){t:Ty}{a b:Pat},n<m->zaf w m t a=true->zaf w n t b=true->∀x∈zat w n t a b,zaf w m t x=true
 |0,m,t,a,b,_,_,hb=>by simp[zaf] at hb
 |n+1,0,t,a,b,hn,_,_=>by omega
 |n+1,m+1,t,a,b,hn,ha,hb=>by
  have ob:=zbq hb;have oa:=zbq ha;have hf:∀u x y,zaf w m u x=true->zaf w n u y=true->∀z∈zat w n u x y,zaf w m u z=true:=fun u x y hx hy=>zfQ n m (by omega) hx hy;have hcc:∀a,zaf w (m+1) t a=true->a.op=4->b.op=4->∀x∈zb4 (zat w n) w t a b,zaf w (m+1) t x=true:=fun a ha h4 h4b=>by
   obtain⟨m1,m2,m3,m4⟩:=zaD ha h4;obtain⟨n1,n2,n3,n4⟩:=zaD hb h4b;intro x hx;unfold zb4 at hx;split at hx
   ·rename_i hc;have key:=zsA (w:=w) (f:=fun u x y=>if zaf w m u x=true/\zaf w n u y=true then zat w n u x y else []) (m:=m) (t:=t) (c:=a.ctor) m1 (fun u x y hx hy z hz=>by
     split at hz
     ·rename_i hh;exact hf u x y hh.1 hh.2 z hz
     ·simp at hz) 0 (xs:=a.kids) (bs:=b.kids) (front:=[]) rfl (by omega) (by rw[hc] at m3;omega) (fun j hj=>by omega) (fun j hj=>by
      have ka:=zaS ha (i:=j) hj;have kb:=zaS hb (i:=j) (by rw[hc] at m3;omega);rw[za0 h4] at ka;rw[za0 h4b,<-hc] at kb;rw[Nat.zero_add];exact⟨ka,zdl (by omega) kb⟩) x
    refine key ?_;have e:∀(ts:List Ty) (xs bs front:List Pat),(∀j,j<ts.length->j<xs.length->j<bs.length->zaf w m (nth ts j) (nth xs j)=true/\zaf w n (nth ts j) (nth bs j)=true)->
      zaP (fun u x y=>if zaf w m u x=true/\zaf w n u y=true then zat w n u x y else []) a.ctor ts xs bs front=zaP (zat w n) a.ctor ts xs bs front:=by
     intro ts;induction ts with
     |nil=>intro xs bs front _;simp[zaP]
     |cons u r ih=>
      intro xs bs front h;cases xs with
      |nil=>simp[zaP]
      |cons x s=>
       cases bs with
       |nil=>simp[zaP]
       |cons y q=>
        have h0:=h 0 (by simp) (by simp) (by simp);change zaf w m u x=true/\zaf w n u y=true at h0
        unfold zaP;rw[if_pos h0];congr 1
        cases hmm:zaH 11 x y with
        |none=>rfl
        |some both=>exact ih s q (front++[both]) (fun j h1 h2 h3=>h (j+1) (by simpa using h1) (by simpa using h2) (by simpa using h3))
    rw[List.drop_zero,e _ _ _ _ (fun j h1 h2 h3=>?_)]
    ·exact hx
    ·have ka:=zaS ha (i:=j) h2;have kb:=zaS hb (i:=j) h3;rw[za0 h4] at ka;rw[za0 h4b,<-hc] at kb;exact⟨ka,kb⟩
   ·rw[List.mem_singleton] at hx;rw[hx];exact ha
  rcases ob with h1|h3|h4
  ·rw[zft h1];simp
  ·rw[zhw h3];intro x hx;have hl:=zmq ha (zbG hb h3).1;have ib:=zbG hb h3;have q1:=ztg (zcs a) (b.n-1);have q2:=ztf (lowQ a) (b.m+1);unfold zd8 at hx;rcases List.mem_append.1 hx with h|h
   ·exact znV ib.1 (by omega) (by omega) x h
   ·exact znV ib.1 (by omega) (by omega) x h
  ·by_cases ha1:a.op=1
   ·rw[zge h4 ha1];intro x hx;obtain⟨c,hc,hx⟩:=List.mem_flatMap.1 hx;refine hcc _ ?_ rfl h4 x hx;obtain⟨k,rfl⟩:∃k,m=k+1:=⟨m-1,by omega⟩;exact zcG hc
   ·have ha4:a.op=4:=by
     have:=zdm ha hb ha1 (by omega);omega
    rw[zc3 h4 ha4];exact hcc a ha ha4 h4
theorem zhy {w:List Data} (hs:Spa w):∀(n:Nat){t:Ty}{p:Pat},InS (w.length*4) t->zaf w n t p=true->p.ok/\p.size<=4 ^ n
 |0,t,p,_,h=>by simp[zaf] at h
 |n+1,t,p,ht,h=>by
  have hk:=fun i (hi:i<p.kids.length)=>zaS h hi;have hl:=(zgg h).2;have op:=zbq h;have hpow:4 ^ (n+1)=4 ^ n*4:=rfl;have hpos:0<4 ^ n:=Nat.pow_pos (by omega);by_cases h4:p.op=4
  ·obtain⟨m1,m2,m3,m4⟩:=zaD h h4;have h3:=hs.args t p.ctor ht m1;rw[za0 h4] at hk;have ih:∀k∈p.kids,k.ok/\k.size<=4 ^ n:=fun k hkm=>by
    obtain⟨i,hi,rfl⟩:=List.getElem_of_mem hkm;have e:nth p.kids i=p.kids[i]:=zaM hi;have:=zhy hs n (zbr hs.dp ht m1 _ (zac (i:=i) (by omega))) (hk i hi);rwa [e] at this
   have hz:=Pats.size_of (m:=4 ^ n) (fun k hk=>(ih k hk).2);rw[Pat.ok_iff,Pat.size_eq];refine⟨⟨by omega,Pats.ok_of (fun k hk=>(ih k hk).1)⟩, ?_⟩;have:p.kids.length*4 ^ n<=3*4 ^ n:=Nat.mul_le_mul_right _ (by omega);omega
  ·have hk0:p.kids=[]:=zd5 (zhd _ h) h4 (by omega) (by omega);rw[Pat.ok_iff,Pat.size_eq,hk0];exact⟨⟨by simp,trivial⟩,by simp only[Pats.size];omega⟩
theorem zpx {α:Type}{g:Int->List α}{c0:Int}{X:Nat}:∀ {cs:List Int},cs.Nodup->(∀c∈cs,c≠c0->(g c).length<=1)->(g c0).length<=X->(cs.flatMap g).length<=cs.length+X
 | [],_,_,_=>by simp
 |c::r,hn,h1,h2=>by
  obtain⟨n1,n2⟩:=List.nodup_cons.1 hn;rw[List.flatMap_cons,xaa,xab];by_cases hc:c=c0
  ·have key:∀l:List Int,c0∉l->(∀x∈l,x≠c0->(g x).length<=1)->(l.flatMap g).length<=l.length:=by
    intro l;induction l with
    |nil=>intro _ _;simp
    |cons y s ih=>
     intro hm hh;rw[List.flatMap_cons,xaa,xab];have a1:=hh y (by simp) (fun e=>hm (by rw[e];simp));have a2:=ih (fun e=>hm (by simp[e])) (fun x hx=>hh x (by simp[hx]));omega
   have:=key r (by rw[<-hc];exact n1) (fun x hx=>h1 x (by simp[hx]));rw[hc];omega
  ·have a1:=h1 c (by simp) hc;have a2:=zpx (X:=X) n2 (fun x hx=>h1 x (by simp[hx])) h2;omega
theorem znE {f:Ty->Pat->Pat->List Pat}{c:Int} (L:Pat->Nat):∀(ts:List Ty) (xs bs front:List Pat),(∀i,i<ts.length->i<xs.length->i<bs.length->(f (nth ts i) (nth xs i) (nth bs i)).length<=L (nth bs i))->(zaP f c ts xs bs front).length<=(bs.map L).sum
 | [],xs,bs,front,_=>by simp[zaP]
 |_::_,[],bs,front,_=>by simp[zaP]
 |_::_,_::_,[],front,_=>by simp[zaP]
 |u::r,x::s,y::q,front,h=>by
  have h0:=h 0 (by simp) (by simp) (by simp);change (f u x y).length<=L y at h0
  unfold zaP;rw[xaa,xac,xae,List.sum_cons];cases hm:zaH 11 x y with
  |none=>simp;omega
  |some both=>
   have:=znE (c:=c) L r s q (front++[both]) (fun i h1 h2 h3=>h (i+1) (by simpa using h1) (by simpa using h2) (by simpa using h3));dsimp only;omega
theorem ztU {w:List Data}{f:Ty->Pat->Pat->List Pat}{t:Ty}{a b:Pat}{L:Pat->Nat} (h:∀i,i<(zaa w t a.ctor).length->i<a.kids.length->i<b.kids.length->(f (nth (zaa w t a.ctor) i) (nth a.kids i) (nth b.kids i)).length<=L (nth b.kids i)):
  (zb4 f w t a b).length<=if a.ctor=b.ctor then (b.kids.map L).sum else 1:=by
 unfold zb4;split
 ·exact znE L _ _ _ _ h
 ·simp
theorem sum4:∀l:List Pat,(l.map fun b=>4*b.size).sum=4*Pats.size l
 | []=>rfl
 |k::r=>by simp only[xae,List.sum_cons,Pats.size,sum4 r];omega
theorem zpP {w:List Data} (hs:Spa w):∀(n m:Nat){t:Ty}{a b:Pat},n<m->InS (w.length*4) t->zaf w m t a=true->zaf w n t b=true->(zat w n t a b).length<=4*b.size
 |0,m,t,a,b,_,_,_,hb=>by simp[zaf] at hb
 |n+1,0,t,a,b,hn,_,_,_=>by omega
 |n+1,m+1,t,a,b,hn,ht,ha,hb=>by
  have ob:=zbq hb;have hz:=Pat.size_eq b;rcases ob with h1|h3|h4
  ·rw[zft h1];simp
  ·rw[zhw h3];have:=ztV a b;omega
  ·obtain⟨n1,n2,n3,n4⟩:=zaD hb h4;have hcc:∀a,zaf w (m+1) t a=true->a.op=4->(zb4 (zat w n) w t a b).length<=if a.ctor=b.ctor then 4*Pats.size b.kids else 1:=fun a ha h4a=>by
    obtain⟨m1,m2,m3,m4⟩:=zaD ha h4a;rw[<-sum4];by_cases hc:a.ctor=b.ctor
    ·have:=ztU (w:=w) (f:=zat w n) (t:=t) (a:=a) (b:=b) (L:=fun b=>4*b.size) (fun i h1 h2 h3=>by
      have ka:=zaS ha (i:=i) h2;have kb:=zaS hb (i:=i) h3;rw[za0 h4a] at ka;rw[za0 h4,<-hc] at kb;exact zpP hs n m (by omega) (zbr hs.dp ht m1 _ (zac h1)) ka kb)
     exact this
    ·unfold zb4;rw[if_neg hc,if_neg hc];simp
   by_cases ha1:a.op=1
   ·rw[zge h4 ha1];obtain⟨c1,c2⟩:=hs.ctors t ht;have hw:∀c,c∈zah w t->(zb4 (zat w n) w t (zbP w t c) b).length<=if c=b.ctor then 4*Pats.size b.kids else 1:=fun c hc=>by
     obtain⟨k,rfl⟩:∃k,m=k+1:=⟨m-1,by omega⟩;exact hcc _ (zcG hc) rfl
    have:=zpx (g:=fun c=>zb4 (zat w n) w t (zbP w t c) b) (c0:=b.ctor) (X:=4*Pats.size b.kids) c2 (fun c hc hne=>by have:=hw c hc;rwa [if_neg hne] at this) (by have:=hw _ n1;rwa [if_pos rfl] at this);omega
   ·have ha4:a.op=4:=by have:=zdm ha hb ha1 (by omega);omega
    rw[zc3 h4 ha4];have:=hcc a ha ha4;split at this<;>omega
theorem zmO {α β:Type} [Inhabited α] [Inhabited β]{f:α->β->Bool}:∀ {a:List α}{b:List β},a.length=b.length->all2 f a b=false->∃i,i<a.length/\f (nth a i) (nth b i)=false
 | [],[],_,h=>by simp[all2] at h
 |x::r,y::s,hl,h=>by
  simp only[all2,Bool.and_eq_false_iff] at h;rcases h with h|h
  ·exact⟨0,by simp,h⟩
  ·obtain⟨i,h1,h2⟩:=zmO (by simpa using hl) h;exact⟨i+1,by simpa using h1,h2⟩
 | [],_::_,hl,_=>by simp at hl
 |_::_,[],hl,_=>by simp at hl
theorem zfo {w:List Data}{f:Nat->Nat}{n:Nat}{t:Ty}{p:Pat} (h:p.op=1):zaV w f (n+1) t p=decide (dv f t=0):=by rw[zgq,if_pos (.inl h)]
theorem zlm {w:List Data}{f:Nat->Nat}{n m:Nat}{t:Ty}{p:Pat} (hp:zaf w m t p=true) (h:p.op=3):zaV w f (n+1) t p=false:=by
 rw[zgq,if_neg (by omega),if_neg (by omega)];have e:zag w t p=[]:=by unfold zag;rw[if_neg (by omega),if_neg (by omega),if_neg (by omega)]
 have hl:=(zgg hp).2;rw[e] at hl ⊢;rw[List.eq_nil_of_length_eq_zero hl];rfl
theorem ziT {w:List Data}{f:Nat->Nat}{n:Nat}{t:Ty}{p:Pat} (h:p.op=4):zaV w f (n+1) t p = !(all2 (fun u q=> !zaV w f n u q) (zaa w t p.ctor) p.kids):=by
 rw[zgq,if_neg (by omega),if_neg (by omega),za0 h]
theorem zl8 {w:List Data}{f:Nat->Nat}{n m:Nat}{t:Ty}{p:Pat} (hp:zaf w m t p=true) (h:p.op=4) (hd:zaV w f (n+1) t p=true):∃i,i<p.kids.length/\zaV w f n (nth (zaa w t p.ctor) i) (nth p.kids i)=true:=by
 rw[ziT h] at hd;have hl:=(zaD hp h).2.2.1;obtain⟨i,h1,h2⟩:=zmO (a:=zaa w t p.ctor) (b:=p.kids) (f:=fun u q=> !zaV w f n u q) hl.symm (by simpa using hd);exact⟨i,by omega,by simpa using h2⟩
theorem zhN {w:List Data}{f:Nat->Nat}{n:Nat}{t:Ty}{c:Int}{l:List Pat}{i:Nat} (hi:i<l.length) (hl:l.length=(zaa w t c).length) (hd:zaV w f n (nth (zaa w t c) i) (nth l i)=true):zaV w f (n+1) t (zbb c l)=true:=by
 rw[ziT rfl];have:=zb9 (f:=fun u q=> !zaV w f n u q) (a:=zaa w t c) (b:=l) (i:=i) (by omega) hl.symm (by rw[hd];rfl);show(!all2 (fun u q=> !zaV w f n u q) (zaa w t c) l)=true
 rw[this];rfl
theorem zzq {w:List Data} (hd:Dp w){t:Ty}{c:Int} (ht:InS (w.length*4) t) (hc:c∈zah w t) (h0:dv (zai w) t=0):∃i,i<(zaa w t c).length/\dv (zai w) (nth (zaa w t c) i)=0:=by
 by_cases hx:∃i,i<(zaa w t c).length/\dv (zai w) (nth (zaa w t c) i)=0
 ·exact hx
 ·exfalso;have a:Snd w (zai w)/\Cmp w (w.length*4+1) (zai w):=zc7 hd.cl (w.length*4+1);have hdt:t.data≠ -1:=fun e=>by unfold zah at hc;rw[if_pos e] at hc;simp at hc
  have hb:∀u∈zaa w t c,Hd w (w.length*4+1) u:=fun u hu=>by
   obtain⟨i,hi,rfl⟩:=List.getElem_of_mem hu;have hpos:0<dv (zai w) (zaa w t c)[i]:=by
    have e:nth (zaa w t c) i=(zaa w t c)[i]:=zaM hi;rcases Nat.eq_zero_or_pos (dv (zai w) (zaa w t c)[i]) with h|h
    ·exact absurd ⟨i,hi,by rw[e];exact h⟩ hx
    ·exact h
   have hin:=zbr hd ht hc _ hu;have h1:=zna a.1 hin hpos;rcases hin with h2|⟨h2,h3⟩
   ·exact .inl h2
   ·rw[<-h3] at h1 ⊢;exact zni hd.cl h2 h1
  have h2:Hd w (w.length*4+2) t:= .inr ⟨c,zlf hc,hdt,hb⟩;rcases ht with h3|⟨h3,h4⟩
  ·exact hdt h3
  ·rw[<-h4] at h2;have h5:=zni hd.cl h3 h2;rw[h4] at h5;have:=(zkr a.2 (.inr ⟨h3,h4⟩) h5).1;omega
section
variable {w:List Data} (hs:Spa w)
include hs
theorem zkq:∀(n:Nat){t:Ty}{p:Pat},InS (w.length*4) t->zaf w n t p=true->dv (zai w) t=0->zaV w (zai w) n t p=true
 |0,t,p,_,h,_=>by simp[zaf] at h
 |n+1,t,p,ht,h,h0=>by
  rcases zbq h with h1|h3|h4
  ·rw[zfo h1];exact decide_eq_true h0
  ·have:=(zbG h h3).1;unfold dv at h0;rw[if_pos this] at h0;omega
  ·obtain⟨m1,m2,m3,m4⟩:=zaD h h4;obtain⟨i,h5,h6⟩:=zzq hs.dp ht m1 h0;rw[m4];have hk:=zaS h (i:=i) (by omega);rw[za0 h4] at hk;exact zhN (by omega) m3 (zkq n (zbr hs.dp ht m1 _ (zac h5)) hk h6)
theorem zpM:∀(n k:Nat){t:Ty}{a b x:Pat},InS (w.length*4) t->zaf w n t a=true->zaf w n t b=true->zaV w (zai w) n t a=true->zaH k a b=some x->zaV w (zai w) n t x=true
 |0,k,t,a,b,x,_,h,_,_,_=>by simp[zaf] at h
 |n+1,0,t,a,b,x,_,_,_,_,h=>by simp[zaH] at h
 |n+1,k+1,t,a,b,x,ht,ha,hb,hd,h=>by
  by_cases h1:a.op=1
  ·rw[zhQ h1] at h;cases h;rw[zfo h1] at hd;exact zkq hs (n+1) ht hb (of_decide_eq_true hd)
  by_cases h2:b.op=1
  ·rw[ziZ h1 h2] at h;cases h;exact hd
  by_cases h3:a.op=3
  ·rw[zlm ha h3] at hd;cases hd
  have h4:a.op=4:=by have:=zbq ha;omega
  have hso:=zdm ha hb h1 h2;by_cases hc:a.ctor=b.ctor
  ·rw[zhR h4 h2 hc] at h;obtain⟨m1,m2,m3,m4⟩:=zaD ha h4;obtain⟨n1,n2,n3,n4⟩:=zaD hb (by omega);rw[<-hc] at n3;cases hl:zbS (zaH k) a.kids b.kids [] with
   |none=>rw[hl] at h;cases h
   |some l=>
    rw[hl] at h;simp only[Option.map_some,Option.some.injEq] at h;subst h;obtain⟨r,e,hr,hm⟩:=zfO (by omega) hl;rw[List.nil_append] at e;subst e;obtain⟨i,hi,hde⟩:=zl8 ha h4 hd;have ka:=zaS ha (i:=i) hi;have kb:=zaS hb (i:=i) (by omega);rw[za0 h4] at ka;rw[za0 (by omega),<-hc] at kb;exact zhN (i:=i) (by omega) (by omega) (zpM n k (zbr hs.dp ht m1 _ (zac (by omega))) ka kb hde (hm i hi))
  ·rw[zhv h4 h2 hc] at h;cases h
theorem zsz {f:Ty->Pat->Pat->List Pat}{m:Nat}{t:Ty}{c:Int} (ht:InS (w.length*4) t) (hc:c∈zah w t):
  ∀(i:Nat){xs bs front:List Pat},front.length=i->xs.length+i=(zaa w t c).length->bs.length=xs.length->
   (∀j,j<xs.length->zaf w m (nth (zaa w t c) (i+j)) (nth xs j)=true/\zaf w m (nth (zaa w t c) (i+j)) (nth bs j)=true/\(zaV w (zai w) m (nth (zaa w t c) (i+j)) (nth xs j)=true->∀z∈f (nth (zaa w t c) (i+j)) (nth xs j) (nth bs j),zaV w (zai w) m (nth (zaa w t c) (i+j)) z=true))->
   ((∃j,j<i/\zaV w (zai w) m (nth (zaa w t c) j) (nth front j)=true)\/∃j,j<xs.length/\zaV w (zai w) m (nth (zaa w t c) (i+j)) (nth xs j)=true)->
   ∀x∈zaP f c ((zaa w t c).drop i) xs bs front,zaV w (zai w) (m+1) t x=true:=by
 intro i xs;induction xs generalizing i with
 |nil=>
  intro bs front _ _ _ _ _ x hx;cases hT:(zaa w t c).drop i<;>(rw[hT] at hx;simp[zaP] at hx)
 |cons a0 s ih=>
  intro bs front hfl hal hbl hab hde x hx;cases bs with
  |nil=>simp at hbl
  |cons b0 q=>
   have hi:i<(zaa w t c).length:=by simp at hal;omega
   rw[zaK hi] at hx;have h0:=hab 0 (by simp);simp only[Nat.add_zero] at h0;have e0:nth (a0::s) 0=a0:=rfl;have e1:nth (b0::q) 0=b0:=rfl;rw[e0,e1] at h0;unfold zaP at hx;have f1:∀z j,j<i->nth (front++[z]++s) j=nth front j:=fun z j hj=>by
    simp only[nth,List.getD,List.append_assoc];rw[List.getElem?_append_left (by omega)]
   have f2:∀z,nth (front++[z]++s) i=z:=fun z=>by
    simp only[nth,List.getD,List.append_assoc];rw[List.getElem?_append_right (by omega),show i-front.length=0 by omega];rfl
   have f3:∀z k,nth (front++[z]++s) (i+1+k)=nth (a0::s) (k+1):=fun z k=>by
    simp only[nth,List.getD,List.append_assoc];rw[List.getElem?_append_right (by omega),show i+1+k-front.length=k+1 by omega];rfl
   have hfl2:∀z,(front++[z]++s).length=(zaa w t c).length:=fun z=>by simp at hal ⊢;omega
   rcases List.mem_append.1 hx with hx|hx
   ·obtain⟨z,hz,rfl⟩:=List.mem_map.1 hx;rcases hde with ⟨j,hj,hd⟩|⟨j,hj,hd⟩
    ·exact zhN (i:=j) (by rw[hfl2];omega) (hfl2 z) (by rw[f1 z j hj];exact hd)
    ·cases j with
     |zero=>exact zhN (i:=i) (by rw[hfl2];omega) (hfl2 z) (by rw[f2 z];exact h0.2.2 hd z hz)
     |succ k=>exact zhN (i:=i+1+k) (by rw[hfl2];simp at hj;simp at hal;omega) (hfl2 z) (by rw[f3 z k,show i+1+k=i+(k+1) by omega];exact hd)
   ·cases hm:zaH 11 a0 b0 with
    |none=>rw[hm] at hx;simp at hx
    |some both=>
     rw[hm] at hx;refine ih (i+1) (bs:=q) (front:=front++[both]) (by simp[hfl]) (by simp at hal ⊢;omega) (by simpa using hbl) (fun j hj=>?_) ?_ x hx
     ·have:=hab (j+1) (by simpa using hj);rwa [show i+(j+1)=i+1+j by omega] at this
     ·rcases hde with ⟨j,hj,hd⟩|⟨j,hj,hd⟩
      ·refine .inl ⟨j,by omega, ?_⟩;have e:nth (front++[both]) j=nth front j:=by
        simp only[nth,List.getD];rw[List.getElem?_append_left (by omega)]
       rw[e];exact hd
      ·cases j with
       |zero=>
        refine .inl ⟨i,by omega, ?_⟩;have e:nth (front++[both]) i=both:=by
         simp only[nth,List.getD];rw[List.getElem?_append_right (by omega),show i-front.length=0 by omega];rfl
        rw[e];exact zpM hs m 11 (zbr hs.dp ht hc _ (zac hi)) h0.1 h0.2.1 hd hm
       |succ k=>
        refine .inr ⟨k,by simpa using hj, ?_⟩;rw[show i+1+k=i+(k+1) by omega];exact hd
theorem znG:∀(n m:Nat){t:Ty}{a b:Pat},n<m->InS (w.length*4) t->zaf w m t a=true->zaf w n t b=true->zaV w (zai w) m t a=true->∀x∈zat w n t a b,zaV w (zai w) m t x=true
 |0,m,t,a,b,_,_,_,hb,_=>by simp[zaf] at hb
 |n+1,0,t,a,b,hn,_,_,_,_=>by omega
 |n+1,m+1,t,a,b,hn,ht,ha,hb,hd=>by
  have hcc:∀a,zaf w (m+1) t a=true->a.op=4->b.op=4->zaV w (zai w) (m+1) t a=true->∀x∈zb4 (zat w n) w t a b,zaV w (zai w) (m+1) t x=true:=fun a ha h4 h4b hd=>by
   obtain⟨m1,m2,m3,m4⟩:=zaD ha h4;obtain⟨n1,n2,n3,n4⟩:=zaD hb h4b;intro x hx;unfold zb4 at hx;split at hx
   ·rename_i hc;obtain⟨j,hj,hdj⟩:=zl8 ha h4 hd;refine zsz hs ht m1 0 (xs:=a.kids) (bs:=b.kids) (front:=[]) rfl (by omega) (by rw[hc] at m3;omega) (fun j hj=>?_) (.inr ⟨j,hj,by rw[Nat.zero_add];exact hdj⟩) x hx;have ka:=zaS ha (i:=j) hj;have kb:=zaS hb (i:=j) (by rw[hc] at m3;omega);rw[za0 h4] at ka;rw[za0 h4b,<-hc] at kb;rw[Nat.zero_add];exact⟨ka,zdl (by omega) kb,fun hdk z hz=>znG n m (by omega) (zbr hs.dp ht m1 _ (zac (by omega))) ka kb hdk z hz⟩
   ·rw[List.mem_singleton] at hx;rw[hx];exact hd
  rcases zbq hb with h1|h3|h4
  ·rw[zft h1];simp
  ·have hl:=zmq ha (zbG hb h3).1;rcases zbq ha with h|h|h
   ·rw[zfo h] at hd;have:=of_decide_eq_true hd;unfold dv at this;rw[if_pos (zbG hb h3).1] at this;omega
   ·rw[zlm ha h] at hd;cases hd
   ·exact absurd (zbG hb h3).1 (zaD ha h).2.1
  ·by_cases ha1:a.op=1
   ·rw[zge h4 ha1];rw[zfo ha1] at hd;intro x hx;obtain⟨c,hc,hx⟩:=List.mem_flatMap.1 hx;obtain⟨k,rfl⟩:∃k,m=k+1:=⟨m-1,by omega⟩;exact hcc _ (zcG hc) rfl h4 (zkq hs _ ht (zcG hc) (of_decide_eq_true hd)) x hx
   ·have ha4:a.op=4:=by have:=zdm ha hb ha1 (by omega);omega
    rw[zc3 h4 ha4];exact hcc a ha ha4 h4 hd
end
def zbl (w:List Data) (t:Ty) (p:Pat):Bool:= !zaV w (zai w) 11 t p
def zbY (w:List Data) (t:Ty) (l:List Pat) (b:Pat):List Pat:=(l.flatMap fun a=>zat w 10 t a b).filter (zbl w t)
def subL (w:List Data) (t:Ty):List Pat->List Pat->Option (List Pat)
 |l,[]=>some l
 |l,b::r=>if (zbY w t l b).length<=400 then subL w t (zbY w t l b) r else none
def zaz (w:List Data) (t:Ty) (l away:List Pat):Option (List Pat):=subL w t (l.filter (zbl w t)) away
theorem zrM {w:List Data} (hs:Spa w){t:Ty} (ht:InS (w.length*4) t){l:List Pat}{b:Pat} (hl:∀a∈l,zaf w 11 t a=true) (hb:zaf w 10 t b=true):zbY w t (l.filter (zbl w t)) b=zbY w t l b:=by
 unfold zbY;induction l with
 |nil=>rfl
 |cons a r ih=>
  have ih':=ih (fun x hx=>hl x (by simp[hx]));rw[List.flatMap_cons,List.filter_append];by_cases h:zbl w t a=true
  ·rw[List.filter_cons_of_pos h,List.flatMap_cons,List.filter_append,ih']
  ·rw[List.filter_cons_of_neg h,ih'];have hd:zaV w (zai w) 11 t a=true:=by unfold zbl at h;simpa using h
   have:(zat w 10 t a b).filter (zbl w t)=[]:=by
    rw[List.filter_eq_nil_iff];intro x hx;have:=znG hs 10 11 (by omega) ht (hl a (by simp)) hb hd x hx;unfold zbl;rw[this];simp
   rw[this,List.nil_append]
theorem zlX {w:List Data}{t:Ty}{l:List Pat}{b:Pat}:(zbY w t l b).filter (zbl w t)=zbY w t l b:=by
 unfold zbY;rw[List.filter_filter];simp
theorem zon {w:List Data}{t:Ty}:∀(away:List Pat){l:List Pat},l.filter (zbl w t)=l->(subL w t l away).map (List.filter (zbl w t))=subL w t l away
 | [],l,h=>by simp only[subL,Option.map_some,h]
 |b::r,l,h=>by
  unfold subL;split
  ·exact zon r zlX
  ·rfl
theorem zvG {w:List Data} (hs:Spa w){t:Ty} (ht:InS (w.length*4) t){l away:List Pat} (hl:∀a∈l,zaf w 11 t a=true) (hb:∀b∈away,zaf w 10 t b=true):(subL w t l away).map (List.filter (zbl w t))=zaz w t l away:=by
 unfold zaz;cases away with
 |nil=>rfl
 |cons b r=>
  unfold subL;rw[zrM hs ht hl (hb b (by simp))];split
  ·exact zon r zlX
  ·rfl
theorem zeQ {w:List Data}{t:Ty}{l:List Pat}{b:Pat} (hl:∀a∈l,zaf w 11 t a=true) (hb:zaf w 10 t b=true):∀x∈zbY w t l b,zaf w 11 t x=true:=fun x hx=>by
 unfold zbY at hx;obtain⟨a,ha,hx⟩:=List.mem_flatMap.1 (List.mem_filter.1 hx).1;exact zfQ 10 11 (by omega) (hl a ha) hb x hx
theorem zmz {n:Nat} (h0:0<n) (hb:n<=1000000):FnD Tryz.prog 190 [.nils,.d (.i (n:Int))] [] (.gv 9 []) [(9,some (.tok 0 6))]:=by
 refine bd Tryz.f190 27 [12,24] [] fun w0 F0 own kept hk=>?_;refine sq ?_ ?_<;>intro h1 h1p h1s<;>(try simp only[Q] at h1p);exfalso;omega;refine Walk.capN sl26 .none rfl rfl ?_;refine evs [12,24] [] ?_;refine Walk.lenN sl26 .none rfl rfl ?_;refine evs [12,24] [] ?_;refine ar ?_;refine ar ?_;refine sq ?_ ?_<;>intro h2 h2p h2s<;>(try simp only[Q] at h2p);refine Walk.capN sl26 .none rfl rfl ?_;refine Walk.cutN_h sl26 .none rfl rfl rfl ?_;refine evs [12,24] [] ?_;refine Walk.growZ (n:=n) 8 sl26 Tryz.underlying3 tz28 rfl (by decide) rfl .none rfl rfl rfl (by simp) h0 (by omega) (by omega) rfl ?_;refine evs [12,24] [] ?_;refine Walk.lenN sl26 .none rfl rfl ?_;refine xaP 9 (b:=0) sl26 .none rfl rfl (zdr rfl (by(simp;done))) rfl rfl (Nat.zero_le _) (by rw[List.length_replicate];exact h0) rfl ?_;refine evs [12,24] [] ?_;focus (refine rn [(9,some (.tok 0 6))] (r1 rfl) (.gvg ?_) ⟨rfl,rfl⟩ (SubH.get ⟨rfl,trivial⟩) (zay rfl);all_goals (rfl))
 focus (exfalso;simp at h2;all_goals omega)
abbrev zxl (ls:List (List Pat)):D:= .sl (ls.map fun l=>[zae l])
theorem zk0 {ls:List (List Pat)} (hl:ls.length<=1000) (h0:0<ls.flatten.length) (hb:ls.flatten.length<=1000000):FnD Tryz.prog 151 [.d (zxl ls)] [] (.d (zae ls.flatten)) []:=by
 have key:∀ {pre rest:List (List Pat)}{y:List Pat},pre++y::rest=ls->pre.flatten.length+y.length<=ls.flatten.length:=fun h=>by
  rw[<-h];simp
 refine FnD.gvD (i:=9) (k:=6) ?_;refine bd Tryz.f151 36 [] [] fun w0 F0 own kept hk=>?_;refine xak (ι:=List (List Pat)×List (List Pat)) hk (fun x=>[(11,.d (.i (x.1.length:Int))),(3,.d (.i (x.1.flatten.length:Int)))]) [5,12,13,14,15,16,17,18,19,20,21,22] (fun x=>[]) (fun x=>x.1++x.2=ls) (fun x=>x.2.length) ([],ls) (by simp) ⟨⟨_,rfl,xaq ?_⟩,⟨⟨_,rfl,xaq ?_⟩,trivial⟩⟩ trivial (fun x=>rfl) (fun x hg1=>?_);iterate 2 focus (rfl)
 obtain⟨pre,rest⟩:=x;dsimp only at hg1 ⊢;refine evc [] [] ?_;refine sq ?_ ?_<;>intro h1 h1p h1s<;>(try simp only[Q,Pat.cs_len] at h1p);rcases rest with _|⟨y,rest⟩
 ·exfalso;simp_all
 refine xaV zej .none rfl rfl rfl rfl (zaI hg1) rfl ?_;refine ev ?_;refine ar ?_ (by(have h9:=key hg1;constructor<;>first|omega|(simp only[Pat.cs_len];omega)));refine sq ?_ ?_<;>intro h2 h2p h2s<;>(try simp only[Q,Pat.cs_len] at h2p);exfalso;have:=key hg1;omega;refine ar ?_ (by(have h9:=key hg1;constructor<;>first|omega|(simp only[Pat.cs_len];omega)));refine xah ((pre++[y],rest)) ⟨(by have hz:=hg1;rw[<-hz];simp),(by simp),sx ⟨⟨_,rfl,xaq ?_⟩,⟨⟨_,rfl,xaq ?_⟩,trivial⟩⟩ trivial⟩;iterate 2 focus ((simp[Pat.cs_len];done))
 have hrest:rest=[]:=by
  rcases rest with _|⟨a,b⟩
  ·rfl
  ·exfalso;have hz:=congrArg List.length (hg1);simp only[xaa,xab,xac] at hz;omega
 subst hrest;refine Walk.call (cr:=[9]) zyU (zmz (n:=pre.flatten.length) (by rw[List.append_nil] at hg1;rw[hg1];exact h0) (by rw[List.append_nil] at hg1;rw[hg1];exact hb)) rfl .none rfl rfl (LeL.refl _) trivial rfl rfl rfl ?_;refine ev ?_;refine xak (ι:=List (List Pat)×List (List Pat)) hk (fun x=>[(27,.d (.i (x.1.length:Int))),(6,.gv 9 (Pat.cs x.1.flatten))]) [8,28,29,30,31,32,33,34] (fun x=>[(9,some (.tok (Pat.cs x.1.flatten).length 6))]) (fun x=>x.1++x.2=ls) (fun x=>x.2.length) ([],ls) (by simp) ⟨⟨_,rfl,xaq ?_⟩,⟨⟨_,rfl,LeA.gvg ?_⟩,trivial⟩⟩ ⟨zab ?_,trivial⟩ (fun x=>rfl) (fun x hg2=>?_);iterate 3 focus (rfl)
 obtain⟨pre,rest⟩:=x;dsimp only at hg2 ⊢;refine evc [] [] ?_;refine sq ?_ ?_<;>intro h3 h3p h3s<;>(try simp only[Q,Pat.cs_len] at h3p);rcases rest with _|⟨y,rest⟩
 ·exfalso;simp_all
 refine xaV zej .none rfl rfl rfl rfl (zaI hg2) rfl ?_;refine ev ?_;refine xaD sl26 zz28 .none rfl rfl rfl rfl (zdr rfl (by rfl)) (by exact zbH _) (by have:=key hg2;simp only[Pat.cs_len];omega) (by have:=key hg2;simp only[Pat.cs_len];omega) ?_;refine ev ?_;refine ar ?_ (by(constructor<;>omega));refine xah ((pre++[y],rest)) ⟨(by have hz:=hg2;rw[<-hz];simp),(by simp),sx ⟨⟨_,rfl,xaq ?_⟩,⟨⟨_,rfl,LeA.gvg ?_⟩,trivial⟩⟩ ⟨zab ?_,trivial⟩⟩;iterate 3 focus ((simp[xat];done))
 have hrest:rest=[]:=by
  rcases rest with _|⟨a,b⟩
  ·rfl
  ·exfalso;have hz:=congrArg List.length (hg2);simp only[xaa,xab,xac] at hz;omega
 subst hrest;refine rn [(9,some (.tok (Pat.cs ls.flatten).length 6))] (r1 rfl) (.gvg ?_) ⟨rfl,rfl⟩ (SubH.get ⟨?_,trivial⟩) (zay rfl);rotate_left 2;all_goals ((rw[List.append_nil] at hg2;subst hg2;rfl))
def zbA (l:List Int):Nat->List Pat
 |0=>[]
 |n+1=>zbA l n++zbX (nth l (2*n)) (nth l (2*n+1))
theorem zkS (l:List Int):∀n,(zbA l n).length<=n
 |0=>by simp[zbA]
 |n+1=>by
  have:=zkS l n;simp only[zbA,zbX,xaa];split<;>simp<;>omega
theorem zkT {l:List Int}{n:Nat} (h:nth l (2*n)<=nth l (2*n+1)):zbA l (n+1)=zbA l n++[intQ (nth l (2*n)) (nth l (2*n+1))]:=by simp[zbA,zbX,h]
theorem zsD {l:List Int}{n:Nat} (h:¬nth l (2*n)<=nth l (2*n+1)):zbA l (n+1)=zbA l n:=by simp only[zbA,zbX,if_neg h,List.append_nil]
theorem zrX (a b:Int):zbA [a,b] 1=zbX a b:=by simp[zbA,nth]
theorem zwz (a b c d:Int):zbA [a,b,c,d] 2=zbX a b++zbX c d:=by simp[zbA,nth]
theorem znn {p:Pat}:FnD Tryz.prog 149 [.agg [.d (.i p.op),.d (.i p.ctor),.d (.i p.n),.d (.i p.m),.d (.i p.var),.d (zae p.kids)]] [] (.tup [.d (.i (lowQ p)),.d (.i (zcs p))]) []:=by
 by_cases h:p.op=1
 ·have e1:lowQ p=0:=if_pos h;have e2:zcs p=9:=if_pos h;rw[e1,e2];refine bd Tryz.f149 11 [] [] fun w0 F0 own kept hk=>?_;refine bx 3001 ?_;refine ev ?_;refine sq ?_ ?_<;>intro h1 h1p h1s<;>(try simp only[Q] at h1p);focus (refine rn0 (r2 rfl rfl) (.tup (.cons (.eqd ?_) (.cons (.eqd ?_) .nil)));all_goals (rfl))
  exfalso;omega
 ·skip
  have e1:lowQ p=p.n:=if_neg h;have e2:zcs p=p.m:=if_neg h;rw[e1,e2];refine bd Tryz.f149 11 [] [] fun w0 F0 own kept hk=>?_;refine bx 3001 ?_;refine ev ?_;refine sq ?_ ?_<;>intro h1 h1p h1s<;>(try simp only[Q] at h1p);exfalso;omega;refine dr ?_;focus (refine rn0 (r2 rfl rfl) (.tup (.cons (.eqd ?_) (.cons (.eqd ?_) .nil)));all_goals (rfl))
theorem zf9 {l:List Int}{n:Nat} (hl:l.length=2*n) (hb:n<=1000):FnD Tryz.prog 116 [.d (zcy l)] [] (.d (zae (zbA l n))) []:=by
 refine bd Tryz.f116 35 [3] [] fun w0 F0 own kept hk=>?_;refine xaE 9 6 .none rfl rfl ?_;refine tv ?_;refine xak (ι:=Nat) hk (fun i=>[(4,.d (.i ((2*i:Nat):Int))),(3,.gl 9 (Pat.cs (zbA l i)))]) [5,6,7,8,9,10,11,12,13,14,15,16,17,18,19,20,21,22,23,24,25,26,27,28,29,30,31,32,33] (fun i=>[(9,some (.tok ((Pat.cs (zbA l i))).length 6))]) (fun i=>i<=n) (fun i=>n-i) 0 (by omega) ⟨⟨_,rfl,xaq ?_⟩,⟨⟨_,rfl,LeA.glg ?_⟩,trivial⟩⟩ ⟨zab ?_,trivial⟩ (fun x=>rfl) (fun i hg1=>?_);iterate 3 focus (rfl)
 refine evc [3] [] ?_;refine sq ?_ ?_<;>intro h1 h1p h1s<;>(try simp only[Q] at h1p);refine xaV (i:=2*i) sl62 .none rfl rfl rfl rfl (zar (by omega)) rfl ?_;refine evd [3] [] ?_;refine ar ?_;refine xaV (i:=2*i+1) sl62 .none rfl rfl rfl rfl (zar (by omega)) rfl ?_;refine evd [3] [] ?_;refine dr ?_;refine sq ?_ ?_<;>intro h2 h2p h2s<;>(try simp only[Q] at h2p);refine xaV (i:=2*i) sl62 .none rfl rfl rfl rfl (zar (by omega)) rfl ?_;refine evd [3] [] ?_;refine ar ?_;refine xaV (i:=2*i+1) sl62 .none rfl rfl rfl rfl (zar (by omega)) rfl ?_;refine evd [3] [] ?_;refine bu [0,2,3] [_,_,_] st28 ?_;refine si [0] [_] sl26 tz28 ?_;refine ap sl26 zz28 rfl rfl rfl (by(intro x hx;simp at hx;subst hx;rfl)) (by have:=zkS l i;simp[Pat.cs_len];omega) ?_;refine asg ?_;refine dr ?_;refine ar ?_;refine xah (i+1) ⟨(by omega),(by omega),sx ⟨⟨_,rfl,xaq ?_⟩,⟨⟨_,rfl,LeA.glg ?_⟩,trivial⟩⟩ ⟨zab ?_,trivial⟩⟩;iterate 3 focus (first|rfl|(rw[zkT (by assumption),xat,xat,xaf];rfl)|(rw[zkT (by assumption)];simp[Pat.cs_len];done))
 refine ar ?_;refine xah (i+1) ⟨(by omega),(by omega),sx ⟨⟨_,rfl,xaq ?_⟩,⟨⟨_,rfl,LeA.glg ?_⟩,trivial⟩⟩ ⟨zab ?_,trivial⟩⟩;iterate 3 focus (first|rfl|(rw[zsD (by assumption)];done))
 refine rn0 (r1 rfl) (.gld ?_);rotate_left;all_goals ((have e:i=n:=(by omega);rw[e]))
theorem zql {w:List Data} (hw:WT w){f:Nat->Nat}{a k c:Int} (ht:TyIn w.length ⟨a,k⟩) (hc:c∈zah w ⟨a,k⟩) (hl:(zaa w ⟨a,k⟩ c).length<=3):FnD Tryz.prog 150 [.d (sPtr w f),.agg [.d (.i a),.d (.i k)],.d (.i c)] []
  (.agg [.d (.i 4),.d (.i c),.d (.i 0),.d (.i 0),.d (.i 0),.d (zae (zbP w ⟨a,k⟩ c).kids)]) []:=by
 refine bd Tryz.f150 28 [] [] fun w0 F0 own kept hk=>?_;refine bx 3004 ?_;refine ab 3006 tz28 ?_;refine tv ?_;refine bu [0,1] [_,_] st28 ?_;refine ab 3007 tz28 ?_;refine so ty28 ?_;refine tv ?_;refine wc zfE (zds hw ht hc) rfl rfl ?_;refine evd [] [] ?_;refine dr ?_;refine xan 3007 5 9 6 rfl rfl rfl rfl ?_;refine xak (ι:=List (Ty)×List (Ty)) hk (fun x=>[(18,.d (.i (x.1.length:Int)))]) [19,20,21,22,23,24,25,26] (fun x=>[(3007,some (.box [.d (.i 4),.d (.i c),.d (.i 0),.d (.i 0),.d (.i 0),.gl 9 ((x.1.map fun _=>anyQ).map Pat.cc)])),(9,some (.tok ((x.1.map fun _=>anyQ).map Pat.cc).length 6))]) (fun x=>x.1++x.2=zaa w ⟨a,k⟩ c) (fun x=>x.2.length) ([],zaa w ⟨a,k⟩ c) (by simp) ⟨⟨_,rfl,xaq ?_⟩,trivial⟩ ⟨?_,⟨zab ?_,trivial⟩⟩ (fun x=>rfl) (fun x hg1=>?_);focus (rfl)
 focus (rfl)
 focus (rfl)
 obtain⟨pre,rest⟩:=x;dsimp only at hg1 ⊢;refine evc [] [] ?_;refine sq ?_ ?_<;>intro h1 h1p h1s<;>(try simp only[Q] at h1p);rcases rest with _|⟨y,rest⟩
 ·exfalso;simp_all
 refine wc zuD (zgF) rfl rfl ?_;refine si [0] [_] sl26 tz28 ?_;refine ap sl26 zz28 rfl rfl rfl (by intro x hx;(simp at hx;subst hx;rfl)) (by have:=congrArg List.length hg1;simp at this;simp;omega) ?_;refine evd [] [] ?_;refine so ty26 ?_;refine dr ?_;refine ar ?_;refine xah ((pre++[y],rest)) ⟨(by have hz:=hg1;rw[<-hz];simp),(by simp),sx ⟨⟨_,rfl,xaq ?_⟩,trivial⟩ ⟨?_,⟨zab ?_,trivial⟩⟩⟩;focus ((simp;done))
 focus ((simp[getH];exact⟨rfl,rfl,rfl,rfl,rfl,rfl⟩))
 focus ((simp;done))
 have hrest:rest=[]:=by
  rcases rest with _|⟨a,b⟩
  ·rfl
  ·exfalso;have hz:=congrArg List.length (hg1);simp only[xaa,xab,xac] at hz;omega
 subst hrest;refine so ty28 ?_;refine tv ?_;refine rn0 (.cons (.cellA ty28 rfl rfl rfl) .nil) (.agg (.cons (.eqd ?_) (.cons (.eqd ?_) (.cons (.eqd ?_) (.cons (.eqd ?_) (.cons (.eqd ?_) (.cons (.gld ?_) .nil)))))));rotate_left 6;all_goals (first|rfl|(rw[List.append_nil] at hg1;subst hg1;rw[<-xat];all_goals rfl))
def zcV (n:Nat) (a b:Pat):Pat:=(zaH n a b).getD zxy
theorem zcC {n:Nat}{a b x:Pat} (h:zaH n a b=some x):zcV n a b=x:=by unfold zcV;rw[h];rfl
theorem zfP {n:Nat}{a b:Pat} (h:zaH n a b=none):zcV n a b=zxy:=by unfold zcV;rw[h];rfl
theorem zoR {n:Nat}{a b:Pat} (h:(zaH n a b).isSome=true):zaH n a b=some (zcV n a b):=by
 unfold zcV;cases e:zaH n a b with
 |none=>rw[e] at h;cases h
 |some x=>rfl
theorem zoS {n:Nat}{a b:Pat} (h:(zaH n a b).isSome=false):zaH n a b=none:=by
 cases e:zaH n a b with
 |none=>rfl
 |some x=>rw[e] at h;cases h
theorem zkB {w:List Data} (hs:Spa w){f:Nat->Nat}:∀(n m:Nat){ta tk:Int}{a b:Pat},m<=n->InS (w.length*4) ⟨ta,tk⟩->zaf w m ⟨ta,tk⟩ a=true->zaf w m ⟨ta,tk⟩ b=true->
  FnD Tryz.prog 66 [.d (sPtr w f),.agg [.d (.i ta),.d (.i tk)],.agg [.d (.i a.op),.d (.i a.ctor),.d (.i a.n),.d (.i a.m),.d (.i a.var),.d (zae a.kids)],.agg [.d (.i b.op),.d (.i b.ctor),.d (.i b.n),.d (.i b.m),.d (.i b.var),.d (zae b.kids)]] []
   (.tup [.agg [.d (.i (zcV n a b).op),.d (.i (zcV n a b).ctor),.d (.i (zcV n a b).n),.d (.i (zcV n a b).m),.d (.i (zcV n a b).var),.d (zae (zcV n a b).kids)],.d (.bool (zaH n a b).isSome)]) []
 |n,0,ta,tk,a,b,_,_,ha,_=>by simp[zaf] at ha
 |0,m+1,ta,tk,a,b,h,_,_,_=>by omega
 |n+1,m+1,ta,tk,a,b,hnm,ht,ha,hb=>by
  by_cases h1:a.op=1
  ·have e:=zhQ (n:=n) (b:=b) h1;rw[zcC e,e];refine bd Tryz.f66 100 [] [] fun w0 F0 own kept hk=>?_;refine bx 3005 ?_;refine bx 3006 ?_;refine bx 3007 ?_;refine ab 3008 tz28 ?_;refine ev ?_;refine sq ?_ ?_<;>intro h1 h1p h1s;refine so ty28 ?_;refine ev ?_;refine rn0 (.cons (.cellA ty28 rfl rfl rfl) (.cons (.tmp rfl) .nil)) (.tup (.cons (.agg (.cons (.eqd ?_) (.cons (.eqd ?_) (.cons (.eqd ?_) (.cons (.eqd ?_) (.cons (.eqd ?_) (.cons (.eqd ?_) .nil))))))) (.cons (.eqd ?_) .nil)));rotate_left 7;try simp only[Q] at h1p
   exfalso;omega;all_goals (rfl)
  by_cases h2:b.op=1
  ·have e:=ziZ (n:=n) h1 h2;rw[zcC e,e];refine bd Tryz.f66 100 [] [] fun w0 F0 own kept hk=>?_;refine bx 3005 ?_;refine bx 3006 ?_;refine bx 3007 ?_;refine ab 3008 tz28 ?_;refine ev ?_;refine sq ?_ ?_<;>intro h1 h1p h1s;try simp only[Q] at h1p
   exfalso;omega;refine sq ?_ ?_<;>intro h2 h2p h2s;refine so ty28 ?_;refine ev ?_;refine rn0 (.cons (.cellA ty28 rfl rfl rfl) (.cons (.tmp rfl) .nil)) (.tup (.cons (.agg (.cons (.eqd ?_) (.cons (.eqd ?_) (.cons (.eqd ?_) (.cons (.eqd ?_) (.cons (.eqd ?_) (.cons (.eqd ?_) .nil))))))) (.cons (.eqd ?_) .nil)));rotate_left 7;try simp only[Q] at h2p
   exfalso;omega;all_goals (rfl)
  by_cases h3:a.op=3
  ·have e:=zi0 (n:=n) h3 h2;by_cases hr:maxQ a.n b.n<=minQ a.m b.m
   ·rw[if_pos hr] at e;have er:zbA [maxQ a.n b.n,minQ a.m b.m] 1=[intQ (maxQ a.n b.n) (minQ a.m b.m)]:=by rw[zrX];exact if_pos hr
    have hrg:=zf9 (l:=[maxQ a.n b.n,minQ a.m b.m]) (n:=1) rfl (by omega);rw[er] at hrg;rw[zcC e,e];refine bd Tryz.f66 100 [] [] fun w0 F0 own kept hk=>?_;refine bx 3005 ?_;refine bx 3006 ?_;refine bx 3007 ?_;refine ab 3008 tz28 ?_;refine ev ?_;refine sq ?_ ?_<;>intro h1 h1p h1s;try simp only[Q,Pat.cs_len] at h1p
    exfalso;omega;refine sq ?_ ?_<;>intro h2 h2p h2s;try simp only[Q,Pat.cs_len] at h2p
    exfalso;omega;refine sq ?_ ?_<;>intro h3 h3p h3s;refine xa4 .none rfl rfl rfl ?_;refine ev ?_;refine xa5 .none rfl rfl rfl ?_;refine si [0,1] [_,_] sl62 tz3 ?_;refine wc zqV (hrg) rfl rfl ?_;refine ev ?_;refine sq ?_ ?_<;>intro h4 h4p h4s;exfalso;simp[Pat.cs_len] at h4;refine xaV (i:=0) sl26 .none rfl rfl rfl rfl (rfl) rfl ?_;refine ev ?_;refine so ty28 ?_;refine ev ?_;refine rn0 (.cons (.cellA ty28 rfl rfl rfl) (.cons (.tmp rfl) .nil)) (.tup (.cons (.agg (.cons (.eqd ?_) (.cons (.eqd ?_) (.cons (.eqd ?_) (.cons (.eqd ?_) (.cons (.eqd ?_) (.cons (.eqd ?_) .nil))))))) (.cons (.eqd ?_) .nil)));rotate_left 7;try simp only[Q,Pat.cs_len] at h3p
    exfalso;omega;all_goals (rfl)
   ·skip
    rw[if_neg hr] at e;have er:zbA [maxQ a.n b.n,minQ a.m b.m] 1=[]:=by rw[zrX];exact if_neg hr
    have hrg:=zf9 (l:=[maxQ a.n b.n,minQ a.m b.m]) (n:=1) rfl (by omega);rw[er] at hrg;rw[zfP e,e];refine bd Tryz.f66 100 [] [] fun w0 F0 own kept hk=>?_;refine bx 3005 ?_;refine bx 3006 ?_;refine bx 3007 ?_;refine ab 3008 tz28 ?_;refine ev ?_;refine sq ?_ ?_<;>intro h1 h1p h1s;try simp only[Q,Pat.cs_len] at h1p
    exfalso;omega;refine sq ?_ ?_<;>intro h2 h2p h2s;try simp only[Q,Pat.cs_len] at h2p
    exfalso;omega;refine sq ?_ ?_<;>intro h3 h3p h3s;refine xa4 .none rfl rfl rfl ?_;refine ev ?_;refine xa5 .none rfl rfl rfl ?_;refine si [0,1] [_,_] sl62 tz3 ?_;refine wc zqV (hrg) rfl rfl ?_;refine ev ?_;refine sq ?_ ?_<;>intro h4 h4p h4s;refine bu [] [] st28 ?_;refine so ty28 ?_;refine ev ?_;refine rn0 (.cons (.cellA ty28 rfl rfl rfl) (.cons (.tmp rfl) .nil)) (.tup (.cons (.agg (.cons (.eqd ?_) (.cons (.eqd ?_) (.cons (.eqd ?_) (.cons (.eqd ?_) (.cons (.eqd ?_) (.cons (.nild ?_) .nil))))))) (.cons (.eqd ?_) .nil)));rotate_left 7;exfalso;simp[Pat.cs] at h4;try simp only[Q,Pat.cs_len] at h3p
    exfalso;omega;all_goals (rfl)
  have oa:=zbq ha;have h4:a.op=4:=by omega
  have h4b:b.op=4:=by have:=zdm ha hb h1 h2;omega
  by_cases hc:a.ctor=b.ctor
  ·obtain⟨c1,c2,c3,c4⟩:=zaD ha h4;obtain⟨d1,d2,d3,d4⟩:=zaD hb h4b;rw[<-hc] at d3;have h3l:=hs.args ⟨ta,tk⟩ a.ctor ht c1;have ka:=fun i (hi:i<a.kids.length)=>zaS ha hi;have kb:=fun i (hi:i<b.kids.length)=>zaS hb hi;rw[za0 h4] at ka;rw[za0 h4b,<-hc] at kb;have e:=zhR (n:=n) h4 h2 hc;have hlen:a.kids.length=b.kids.length:=by omega
   have ih:=fun i (hi:i<(zaa w ⟨ta,tk⟩ a.ctor).length)=>zkB hs n m (f:=f) (ta:=(nth (zaa w ⟨ta,tk⟩ a.ctor) i).data) (tk:=(nth (zaa w ⟨ta,tk⟩ a.ctor) i).index) (a:=nth a.kids i) (b:=nth b.kids i) (by omega) (zbr hs.dp ht c1 _ (zac hi)) (ka i (by omega)) (kb i (by omega));refine bd Tryz.f66 100 [] [] fun w0 F0 own kept hk=>?_;refine bx 3005 ?_;refine bx 3006 ?_;refine bx 3007 ?_;refine ab 3008 tz28 ?_;refine ev ?_;refine sq ?_ ?_<;>intro h1 h1p h1s;try simp only[Q,Pat.cs_len] at h1p
   exfalso;omega;refine sq ?_ ?_<;>intro h2 h2p h2s;try simp only[Q,Pat.cs_len] at h2p
   exfalso;omega;refine sq ?_ ?_<;>intro h3 h3p h3s;try simp only[Q,Pat.cs_len] at h3p
   exfalso;omega;refine sq ?_ ?_<;>intro h4 h4p h4s;try simp only[Q,Pat.cs_len] at h4p
   exfalso;omega;refine bu [0,1] [_,_] st28 ?_;refine ab 3011 tz28 ?_;refine so ty28 ?_;refine tv ?_;refine wc zfE (zds hs.dp.wt (zb7 ht) c1) rfl rfl ?_;refine evd [] [] ?_;refine dr ?_;refine xan 3011 5 9 6 rfl rfl rfl rfl ?_;refine xak (ι:=Nat×List Pat) hk (fun x=>[(68,.d (.i (x.1:Int)))]) [9,12,13,14,15,69,70,71,72,73,74,75,76,77,78,79,80,81,82,83,84,85,86,87,88,89,90,91,92,93,94,95,96,97,98] (fun x=>[(3011,some (.box [.d (.i 4),.d (.i a.ctor),.d (.i 0),.d (.i 0),.d (.i 0),.gl 9 (x.2.map Pat.cc)])),(9,some (.tok (x.2.map Pat.cc).length 6))]) (fun x=>x.1<=a.kids.length/\x.2.length=x.1/\zbS (zaH n) (a.kids.drop x.1) (b.kids.drop x.1) x.2=zbS (zaH n) a.kids b.kids []) (fun x=>a.kids.length-x.1) (0,[]) ⟨by simp,rfl,rfl⟩ ⟨⟨_,rfl,xaq ?_⟩,trivial⟩ ⟨?_,⟨zab ?_,trivial⟩⟩ (fun x=>rfl) (fun x hg1=>?_);focus (rfl)
   focus (first|rfl|(simp[getH];done))
   focus (rfl)
   refine evc [] [] ?_;refine sq ?_ ?_<;>intro h5 h5p h5s<;>(try simp only[Q,Pat.cs_len] at h5p);refine xaV zaW .none rfl rfl rfl rfl (zar (by omega)) rfl ?_;refine ev ?_;refine ab 3013 tz25 ?_;refine ev ?_;refine so ty25 ?_;refine tv ?_;refine xaV sl26 .none rfl rfl rfl rfl (zaE (by omega)) rfl ?_;refine evd [] [] ?_;refine xaV sl26 .none rfl rfl rfl rfl (zaE (by omega)) rfl ?_;refine evd [] [] ?_;refine wc zw7 (ih x.1 (by omega)) rfl rfl ?_;refine evd [] [] ?_;refine ab 3014 tz28 ?_;refine so ty28 ?_;refine evd [] [] ?_;refine dr ?_;refine sq ?_ ?_<;>intro h6 h6p h6s;refine bu [] [] st28 ?_;refine so ty28 ?_;refine ev ?_;refine rn0 (.cons (.cellA ty28 rfl rfl rfl) (.cons (.tmp rfl) .nil)) (.tup (.cons (.agg (.cons (.eqd ?_) (.cons (.eqd ?_) (.cons (.eqd ?_) (.cons (.eqd ?_) (.cons (.eqd ?_) (.cons (.nild ?_) .nil))))))) (.cons (.eqd ?_) .nil)));rotate_left 7;try simp only[Q,Pat.cs_len] at h6p
   refine si [0] [_] sl26 tz28 ?_;refine ap sl26 zz28 rfl rfl rfl (by intro x hx;(simp at hx;subst hx;rfl)) (by simp;omega) ?_;refine ev ?_;refine so ty26 ?_;refine tv ?_;refine ar ?_;refine xah ((x.1+1,x.2++[zcV n (nth a.kids x.1) (nth b.kids x.1)])) ⟨⟨by dsimp only;omega,by dsimp only;rw[xaa,hg1.2.1];rfl,by dsimp only;rw[<-znA (by omega) (by omega) (zoR (by assumption))];exact hg1.2.2⟩,(by dsimp only;omega),sx ⟨⟨_,rfl,xaq ?_⟩,trivial⟩ ⟨?_,⟨zab ?_,trivial⟩⟩⟩;focus (rfl)
   focus (first|rfl|(simp[getH];done))
   focus ((simp;done))
   refine so ty28 ?_;refine ev ?_;refine rn0 (.cons (.cellA ty28 rfl rfl rfl) (.cons (.tmp rfl) .nil)) (.tup (.cons (.agg (.cons (.eqd ?_) (.cons (.eqd ?_) (.cons (.eqd ?_) (.cons (.eqd ?_) (.cons (.eqd ?_) (.cons (.gld ?_) .nil))))))) (.cons (.eqd ?_) .nil)));rotate_left 7;all_goals (first|(have e2:zaH (n+1) a b=none:=(by rw[e,<-hg1.2.2,znz (by omega) (by omega) (zoS (by assumption))];rfl);(first|rw[zfP e2]|rw[e2]);all_goals rfl)|(have e2:zaH (n+1) a b=some (zbb a.ctor x.2):=(by rw[e,<-hg1.2.2,zfs (by omega)];rfl);rw[zcC e2,xat];all_goals rfl)|(have e2:zaH (n+1) a b=some (zbb a.ctor x.2):=(by rw[e,<-hg1.2.2,zfs (by omega)];rfl);rw[zcC e2];all_goals rfl)|(have e2:zaH (n+1) a b=some (zbb a.ctor x.2):=(by rw[e,<-hg1.2.2,zfs (by omega)];rfl);rw[e2];all_goals rfl))
  ·skip
   have e:=zhv (n:=n) h4 h2 hc;rw[zfP e,e];refine bd Tryz.f66 100 [] [] fun w0 F0 own kept hk=>?_;refine bx 3005 ?_;refine bx 3006 ?_;refine bx 3007 ?_;refine ab 3008 tz28 ?_;refine ev ?_;refine sq ?_ ?_<;>intro h1 h1p h1s;try simp only[Q] at h1p
   exfalso;omega;refine sq ?_ ?_<;>intro h2 h2p h2s;try simp only[Q] at h2p
   exfalso;omega;refine sq ?_ ?_<;>intro h3 h3p h3s;try simp only[Q] at h3p
   exfalso;omega;refine sq ?_ ?_<;>intro h4 h4p h4s;refine bu [] [] st28 ?_;refine so ty28 ?_;refine ev ?_;refine rn0 (.cons (.cellA ty28 rfl rfl rfl) (.cons (.tmp rfl) .nil)) (.tup (.cons (.agg (.cons (.eqd ?_) (.cons (.eqd ?_) (.cons (.eqd ?_) (.cons (.eqd ?_) (.cons (.eqd ?_) (.cons (.nild ?_) .nil))))))) (.cons (.eqd ?_) .nil)));rotate_left 7;try simp only[Q] at h4p
   exfalso;omega;all_goals (rfl)
theorem zih {f:Ty->Pat->Pat->List Pat}{c:Int}{ts:List Ty}{xs bs front:List Pat}{i:Nat} (h1:i<ts.length) (h2:i<xs.length) (h3:i<bs.length):
  zaP f c (ts.drop i) (xs.drop i) (bs.drop i) front=(f (nth ts i) (nth xs i) (nth bs i)).map (fun z=>zbb c (front++[z]++xs.drop (i+1)))++(match zaH 11 (nth xs i) (nth bs i) with
   |none=>[]
   |some both=>zaP f c (ts.drop (i+1)) (xs.drop (i+1)) (bs.drop (i+1)) (front++[both])):=by
 rw[zaK h1,zaK h2,zaK h3,zaP];all_goals (cases zaH 11 (nth xs i) (nth bs i)<;>rfl)
theorem zlW {f:Ty->Pat->Pat->List Pat}{c:Int}{ts:List Ty}{xs bs front:List Pat}{i:Nat} (h1:i<ts.length) (h2:i<xs.length) (h3:i<bs.length) (h:(zaH 11 (nth xs i) (nth bs i)).isSome=true):
  zaP f c (ts.drop i) (xs.drop i) (bs.drop i) front=(f (nth ts i) (nth xs i) (nth bs i)).map (fun z=>zbb c (front++[z]++xs.drop (i+1)))++zaP f c (ts.drop (i+1)) (xs.drop (i+1)) (bs.drop (i+1)) (front++[zcV 11 (nth xs i) (nth bs i)]):=by
 rw[zih h1 h2 h3,zoR h]
theorem zlU {f:Ty->Pat->Pat->List Pat}{c:Int}{ts:List Ty}{xs bs front:List Pat}{i:Nat} (h1:i<ts.length) (h2:i<xs.length) (h3:i<bs.length) (h:(zaH 11 (nth xs i) (nth bs i)).isSome=false):
  zaP f c (ts.drop i) (xs.drop i) (bs.drop i) front=(f (nth ts i) (nth xs i) (nth bs i)).map (fun z=>zbb c (front++[z]++xs.drop (i+1))):=by
 rw[zih h1 h2 h3,zoS h,List.append_nil]
theorem znD {f:Ty->Pat->Pat->List Pat}{c:Int}{ts:List Ty}{xs bs front:List Pat}{i:Nat} (h1:ts.length<=i):zaP f c (ts.drop i) (xs.drop i) (bs.drop i) front=[]:=by
 rw[List.drop_eq_nil_of_le h1];rfl
theorem zrQ {n:Nat} (h:n<=11):4 ^ n<=4194304:=Nat.le_trans (Nat.pow_le_pow_right (by omega) h) (by decide)
theorem zgf {w:List Data} (hs:Spa w){n m:Nat}{t:Ty}{a b:Pat} (h:n<m) (h10:n<=10) (ht:InS (w.length*4) t) (ha:zaf w m t a=true) (hb:zaf w n t b=true):(zat w n t a b).length<=20000000:=by
 have h1:=zpP hs n m h ht ha hb;have h2:=(zhy hs n ht hb).2;have h3:=zrQ (n:=n) (by omega);omega
theorem zxI {A B:List Pat}{y:Pat}{xs:List (List D)} (hx:xs=Pat.cs B) (hb:A.length+1+B.length<=1000):
  FnD Tryz.prog 151 [.d (.sl [[.sl (A.map Pat.cc)],[.sl [Pat.cc y]],[.sl xs]])] [] (.d (zae (A++[y]++B))) []:=by
 have h:=zk0 (ls:=[A,[y],B]) (by simp) (by simp;omega) (by simp;omega);have e:[A,[y],B].flatten=A++[y]++B:=by simp
 rw[e] at h;subst hx;have e2:zxl [A,[y],B] = .sl [[.sl (A.map Pat.cc)],[.sl [Pat.cc y]],[.sl (Pat.cs B)]]:=by
  show D.sl [[.sl (Pat.cs A)],[.sl (Pat.cs [y])],[.sl (Pat.cs B)]]=_
  rw[xat A,xat [y]];rfl
 rw[e2] at h;exact h
section
variable {w:List Data}{f:Nat->Nat}
abbrev MinusFn (w:List Data) (f:Nat->Nat) (n:Nat) (ta tk:Int) (a b:Pat):Prop:=
 FnD Tryz.prog 93 [.d (sPtr w f),.agg [.d (.i ta),.d (.i tk)],.agg [.d (.i a.op),.d (.i a.ctor),.d (.i a.n),.d (.i a.m),.d (.i a.var),.d (zae a.kids)],.agg [.d (.i b.op),.d (.i b.ctor),.d (.i b.n),.d (.i b.m),.d (.i b.var),.d (zae b.kids)]] [] (.d (zae (zat w n ⟨ta,tk⟩ a b))) []
theorem zrw {n:Nat}{ta tk:Int}{a b:Pat} (h:b.op=1):MinusFn w f (n+1) ta tk a b:=by
 unfold MinusFn;rw[zft h];refine bd Tryz.f93 159 [] [] fun w0 F0 own kept hk=>?_;refine bx 3005 ?_;refine bx 3006 ?_;refine bx 3007 ?_;refine ev ?_;refine sq ?_ ?_<;>intro h1 h1p h1s;refine rn0 (r1 rfl) (.nild ?_);rotate_left;try simp only[Q] at h1p
 exfalso;omega;all_goals (rfl)
theorem zrx {n:Nat}{ta tk:Int}{a b:Pat} (h:b.op=3) (hbn:0<=b.n/\b.n<=9) (hbm:0<=b.m/\b.m<=9):MinusFn w f (n+1) ta tk a b:=by
 unfold MinusFn;rw[zhw h];have er:zbA [lowQ a,minQ (zcs a) (b.n-1),maxQ (lowQ a) (b.m+1),zcs a] 2=zd8 a b:=zwz _ _ _ _;have hrg:=zf9 (l:=[lowQ a,minQ (zcs a) (b.n-1),maxQ (lowQ a) (b.m+1),zcs a]) (n:=2) rfl (by omega);rw[er] at hrg;refine bd Tryz.f93 159 [] [] fun w0 F0 own kept hk=>?_;refine bx 3005 ?_;refine bx 3006 ?_;refine bx 3007 ?_;refine ev ?_;refine sq ?_ ?_<;>intro h1 h1p h1s;try simp only[Q] at h1p
 exfalso;omega;refine sq ?_ ?_<;>intro h2 h2p h2s;refine wc zyB (znn) rfl rfl ?_;refine ev ?_;refine ar ?_;refine xa5 .none rfl rfl rfl ?_;refine ev ?_;refine ar ?_;refine xa4 .none rfl rfl rfl ?_;refine ev ?_;refine si [0,1,2,3] [_,_,_,_] sl62 tz3 ?_;refine wc zqV (hrg) rfl rfl ?_;refine ev ?_;focus (refine rq ?_;all_goals (rfl))
 try simp only[Q] at h2p
 exfalso;omega
theorem zrA {n:Nat}{ta tk:Int}{a b:Pat} (h4:a.op=4) (h4b:b.op=4) (hc:¬a.ctor=b.ctor):MinusFn w f (n+1) ta tk a b:=by
 unfold MinusFn;have e:zat w (n+1) ⟨ta,tk⟩ a b=[a]:=by rw[zc3 h4b h4];exact if_neg hc
 rw[e];refine bd Tryz.f93 159 [] [] fun w0 F0 own kept hk=>?_;refine bx 3005 ?_;refine bx 3006 ?_;refine bx 3007 ?_;refine ev ?_;refine sq ?_ ?_<;>intro h1 h1p h1s;try simp only[Q] at h1p
 exfalso;omega;refine sq ?_ ?_<;>intro h2 h2p h2s;try simp only[Q] at h2p
 exfalso;omega;refine sq ?_ ?_<;>intro h3 h3p h3s;try simp only[Q] at h3p
 exfalso;omega;refine sq ?_ ?_<;>intro h4 h4p h4s;refine si [0] [_] sl26 tz28 ?_;refine ev ?_;refine rq ?_;rotate_left;try simp only[Q] at h4p
 exfalso;omega;all_goals (first|rfl|(cases a;rfl))
theorem zrz (hs:Spa w){n m:Nat} (hn:n+1<=10) (hm:m+1<=11) (hnm:n<m)
  (ih:∀ {ta tk:Int}{a b:Pat},InS (w.length*4) ⟨ta,tk⟩->zaf w m ⟨ta,tk⟩ a=true->zaf w n ⟨ta,tk⟩ b=true->MinusFn w f n ta tk a b)
  {ta tk:Int}{a b:Pat} (ht:InS (w.length*4) ⟨ta,tk⟩) (ha:zaf w (m+1) ⟨ta,tk⟩ a=true) (hb:zaf w (n+1) ⟨ta,tk⟩ b=true) (h4:a.op=4) (h4b:b.op=4) (hc:a.ctor=b.ctor):MinusFn w f (n+1) ta tk a b:=by
 obtain⟨c1,c2,c3,-⟩:=zaD ha h4;obtain⟨d1,d2,d3,-⟩:=zaD hb h4b;rw[<-hc] at d3;have h3l:=hs.args ⟨ta,tk⟩ a.ctor ht c1;have ka:=fun i (hi:i<a.kids.length)=>zaS ha hi;have kb:=fun i (hi:i<b.kids.length)=>zaS hb hi;rw[za0 h4] at ka;rw[za0 h4b,<-hc] at kb;have hbd:=zgf hs (n:=n+1) (m:=m+1) (by omega) hn ht ha hb;have e:zat w (n+1) ⟨ta,tk⟩ a b=zaP (zat w n) a.ctor (zaa w ⟨ta,tk⟩ a.ctor) a.kids b.kids []:=by rw[zc3 h4b h4];exact if_pos hc
 have hins:=fun i (hi:i<(zaa w ⟨ta,tk⟩ a.ctor).length)=>zbr hs.dp ht c1 _ (zac hi);have hmi:∀i,i<(zaa w ⟨ta,tk⟩ a.ctor).length->FnD Tryz.prog 93 [.d (sPtr w f),.agg [.d (.i (nth (zaa w ⟨ta,tk⟩ a.ctor) i).data),.d (.i (nth (zaa w ⟨ta,tk⟩ a.ctor) i).index)],.agg [.d (.i (nth a.kids i).op),.d (.i (nth a.kids i).ctor),.d (.i (nth a.kids i).n),.d (.i (nth a.kids i).m),.d (.i (nth a.kids i).var),.d (zae (nth a.kids i).kids)],.agg [.d (.i (nth b.kids i).op),.d (.i (nth b.kids i).ctor),.d (.i (nth b.kids i).n),.d (.i (nth b.kids i).m),.d (.i (nth b.kids i).var),.d (zae (nth b.kids i).kids)]] [] (.d (zae (zat w n (nth (zaa w ⟨ta,tk⟩ a.ctor) i) (nth a.kids i) (nth b.kids i)))) []:=fun i hi=>ih (ta:=(nth (zaa w ⟨ta,tk⟩ a.ctor) i).data) (tk:=(nth (zaa w ⟨ta,tk⟩ a.ctor) i).index) (hins i hi) (ka i (by omega)) (kb i (by omega));have hme:=fun i (hi:i<(zaa w ⟨ta,tk⟩ a.ctor).length)=>zkB hs 11 m (f:=f) (ta:=(nth (zaa w ⟨ta,tk⟩ a.ctor) i).data) (tk:=(nth (zaa w ⟨ta,tk⟩ a.ctor) i).index) (by omega) (hins i hi) (ka i (by omega)) (zdl (by omega) (kb i (by omega)));unfold MinusFn;rw[e] at hbd ⊢;have hT:∀i out front,i<(zaa w ⟨ta,tk⟩ a.ctor).length->out++zaP (zat w n) a.ctor ((zaa w ⟨ta,tk⟩ a.ctor).drop i) (a.kids.drop i) (b.kids.drop i) front=zaP (zat w n) a.ctor (zaa w ⟨ta,tk⟩ a.ctor) a.kids b.kids []->
   out.length+(zat w n (nth (zaa w ⟨ta,tk⟩ a.ctor) i) (nth a.kids i) (nth b.kids i)).length<=20000000:=fun i out front hi h=>by
  rw[zih hi (by omega) (by omega)] at h;have:=congrArg List.length h;simp only[xaa,xac] at this;omega
 refine bd Tryz.f93 159 [14,15] [] fun w0 F0 own kept hk=>?_;refine bx 3005 ?_;refine bx 3006 ?_;refine bx 3007 ?_;refine evs [14,15] [] ?_;refine sq ?_ ?_<;>intro h1 h1p h1s;try simp only[Q,Pat.cs_len] at h1p
 exfalso;omega;refine sq ?_ ?_<;>intro h2 h2p h2s;try simp only[Q,Pat.cs_len] at h2p
 exfalso;omega;refine sq ?_ ?_<;>intro h3 h3p h3s;try simp only[Q,Pat.cs_len] at h3p
 exfalso;omega;refine sq ?_ ?_<;>intro h4 h4p h4s;try simp only[Q,Pat.cs_len] at h4p
 exfalso;omega;refine xaE 9 6 .none rfl rfl ?_;refine xaE 8 6 .none rfl rfl ?_;refine tv ?_;refine wc zfE (zds hs.dp.wt (zb7 ht) c1) rfl rfl ?_;refine evd [14,15] [] ?_;refine dr ?_;refine xak (ι:=Nat×List Pat×List Pat) hk (fun s=>[(94,.d (.i (s.1:Int))),(14,.gl 9 (s.2.1.map Pat.cc)),(15,.gl 8 (s.2.2.map Pat.cc))]) [16,17,19,20,21,22,95,96,97,98,99,100,101,102,103,104,105,106,107,108,109,110,111,112,113,114,115,116,117,118,119,120,121,122,123,124,125,126,127,128,129,130,131,132,133,134,135,136,137,138,139,140,141,142,143,144,145,146,147,148,149,150,151,152,153,154,155,156,157] (fun s=>[(9,some (.tok ((s.2.1.map Pat.cc)).length 6)),(8,some (.tok ((s.2.2.map Pat.cc)).length 6))]) (fun s=>s.1<=a.kids.length/\s.2.2.length=s.1/\s.2.1++zaP (zat w n) a.ctor ((zaa w ⟨ta,tk⟩ a.ctor).drop s.1) (a.kids.drop s.1) (b.kids.drop s.1) s.2.2=zaP (zat w n) a.ctor (zaa w ⟨ta,tk⟩ a.ctor) a.kids b.kids []) (fun s=>a.kids.length-s.1) (0,[],[]) ⟨by simp,rfl,rfl⟩ ⟨⟨_,rfl,xaq ?_⟩,⟨⟨_,rfl,LeA.glg ?_⟩,⟨⟨_,rfl,LeA.glg ?_⟩,trivial⟩⟩⟩ ⟨zab ?_,⟨zab ?_,trivial⟩⟩ (fun x=>rfl) (fun s hg2=>?_);iterate 5 focus (rfl)
 refine evc [14,15] [] ?_;refine sq ?_ ?_<;>intro h5 h5p h5s<;>(try simp only[Q,Pat.cs_len] at h5p);refine xaV zaW .none rfl rfl rfl rfl (zar (by omega)) rfl ?_;refine evs [14,15] [] ?_;refine ab 3017 tz25 ?_;refine evs [14,15] [] ?_;refine so ty25 ?_;refine tv ?_;refine xaV sl26 .none rfl rfl rfl rfl (zaE (by omega)) rfl ?_;refine evd [14,15] [] ?_;refine xaV sl26 .none rfl rfl rfl rfl (zaE (by omega)) rfl ?_;refine evd [14,15] [] ?_;refine wc ztF (hmi s.1 (by omega)) rfl rfl ?_;refine evd [14,15] [] ?_;refine dr ?_;refine xak (ι:=List (Pat)×List (Pat)) hk (fun x=>[(113,.d (.i (x.1.length:Int))),(14,.gl 9 ((s.2.1++x.1.map (fun z=>zbb a.ctor (s.2.2++[z]++a.kids.drop (s.1+1)))).map Pat.cc))]) [19,20,114,115,116,117,118,119,120,121,122,123,124,125,126,127,128,129,130,131,132,133,134] (fun x=>[(9,some (.tok (((s.2.1++x.1.map (fun z=>zbb a.ctor (s.2.2++[z]++a.kids.drop (s.1+1)))).map Pat.cc)).length 6))]) (fun x=>x.1++x.2=(zat w n (nth (zaa w ⟨ta,tk⟩ a.ctor) s.1) (nth a.kids s.1) (nth b.kids s.1))) (fun x=>x.2.length) ([],(zat w n (nth (zaa w ⟨ta,tk⟩ a.ctor) s.1) (nth a.kids s.1) (nth b.kids s.1))) (by simp) ⟨⟨_,rfl,xaq ?_⟩,⟨⟨_,rfl,LeA.glg ?_⟩,trivial⟩⟩ ⟨zab ?_,trivial⟩ (fun x=>rfl) (fun x hg3=>?_);iterate 3 focus ((simp;done))
 obtain⟨pre,rest⟩:=x;dsimp only at hg3 ⊢;refine evc [14,15] [] ?_;refine sq ?_ ?_<;>intro h6 h6p h6s<;>(try simp only[Q,Pat.cs_len] at h6p);rcases rest with _|⟨y,rest⟩
 ·exfalso;simp_all
 refine xaV sl26 .none rfl rfl rfl rfl (Pat.cs_at' hg3) rfl ?_;refine evs [14,15] [] ?_;refine ab 3019 tz28 ?_;refine so ty28 ?_;refine tv ?_;refine si [0] [_] sl26 tz28 ?_;refine evd [14,15] [] ?_;refine ar ?_ (by(constructor<;>omega));refine xaR (b:=s.1+1) sl26 .none rfl rfl rfl (by intro x hx;exact zbH _ x hx) rfl rfl (by simp only[Pat.cs_len];omega) ?_;refine si [0,1,2] [_,_,_] zej tz26 ?_;refine wc zyD (zxI (A:=s.2.2) (y:=y) (xs:=(Pat.cs a.kids).drop (s.1+1)) (B:=a.kids.drop (s.1+1)) (by rw[xat,xat,List.map_drop]) (by rw[List.length_drop];omega)) rfl rfl ?_;refine evd [14,15] [] ?_;refine dr ?_;refine bu [0,1,5] [_,_,_] st28 ?_;refine si [0] [_] sl26 tz28 ?_;refine ap sl26 zz28 rfl rfl rfl (by intro x hx;(simp at hx;subst hx;rfl)) (by(have h9:=hT s.1 s.2.1 s.2.2 (by omega) hg2.2.2;have h8:=congrArg List.length hg3;simp at h8 ⊢;omega)) ?_;refine asg ?_;refine tv ?_;refine ar ?_ (by(have h9:=hT s.1 s.2.1 s.2.2 (by omega) hg2.2.2;have h8:=congrArg List.length hg3;simp only[xaa,xab] at h8;constructor<;>omega));refine xah ((pre++[y],rest)) ⟨(by have hz:=hg3;rw[<-hz];simp),(by simp),sx ⟨⟨_,rfl,xaq ?_⟩,⟨⟨_,rfl,LeA.glg ?_⟩,trivial⟩⟩ ⟨zab ?_,trivial⟩⟩;iterate 3 focus (first|(simp;done)|(simp only[xaf,List.append_assoc,xae,List.map_nil];rfl)|(simp;omega))
 have hrest:rest=[]:=by
  rcases rest with _|⟨a,b⟩
  ·rfl
  ·exfalso;have hz:=congrArg List.length (hg3);simp only[xaa,xab,xac] at hz;omega
 subst hrest;refine xaV sl26 .none rfl rfl rfl rfl (zaE (by omega)) rfl ?_;refine evd [14,15] [] ?_;refine xaV sl26 .none rfl rfl rfl rfl (zaE (by omega)) rfl ?_;refine evd [14,15] [] ?_;refine wc zw7 (hme s.1 (by omega)) rfl rfl ?_;refine evd [14,15] [] ?_;refine ab 3021 tz28 ?_;refine so ty28 ?_;refine evd [14,15] [] ?_;refine dr ?_;refine sq ?_ ?_<;>intro h7 h7p h7s;refine rn0 (r1 rfl) (.gld ?_);rotate_left;try simp only[Q,Pat.cs_len] at h7p
 refine si [0] [_] sl26 tz28 ?_;refine ap sl26 zz28 rfl rfl rfl (by intro x hx;(simp at hx;subst hx;rfl)) (by(have h9:=hT s.1 s.2.1 s.2.2 (by omega) hg2.2.2;have h8:=congrArg List.length hg3;simp at h8 ⊢;omega)) ?_;refine asg ?_;refine tv ?_;refine ar ?_ (by(constructor<;>omega));refine xah ((s.1+1,s.2.1++(zat w n (nth (zaa w ⟨ta,tk⟩ a.ctor) s.1) (nth a.kids s.1) (nth b.kids s.1)).map (fun z=>zbb a.ctor (s.2.2++[z]++a.kids.drop (s.1+1))),s.2.2++[zcV 11 (nth a.kids s.1) (nth b.kids s.1)])) ⟨⟨by dsimp only;omega,by dsimp only;rw[xaa,hg2.2.1];rfl,by dsimp only;rw[List.append_assoc,<-zlW (by omega) (by omega) (by omega) (by assumption)];exact hg2.2.2⟩,(by dsimp only;omega),sx ⟨⟨_,rfl,xaq ?_⟩,⟨⟨_,rfl,LeA.glg ?_⟩,⟨⟨_,rfl,LeA.glg ?_⟩,trivial⟩⟩⟩ ⟨zab ?_,⟨zab ?_,trivial⟩⟩⟩;iterate 5 focus ((simp_all;done))
 refine rn0 (r1 rfl) (.gld ?_);rotate_left;all_goals (first|(rw[<-hg2.2.2,znD (by omega),List.append_nil,xat];done)|(rw[List.append_nil] at hg3;rw[<-hg2.2.2,zlU (by omega) (by omega) (by omega) (by assumption),<-hg3,xat];all_goals rfl))
theorem zry (hs:Spa w){n:Nat}{ta tk:Int}{a b:Pat} (ht:InS (w.length*4) ⟨ta,tk⟩) (h1:a.op=1) (h4b:b.op=4) (hbd:(zat w (n+1) ⟨ta,tk⟩ a b).length<=20000000)
  (hC:∀c∈zah w ⟨ta,tk⟩,MinusFn w f (n+1) ta tk (zbP w ⟨ta,tk⟩ c) b):MinusFn w f (n+1) ta tk a b:=by
 have e:zat w (n+1) ⟨ta,tk⟩ a b=(zah w ⟨ta,tk⟩).flatMap fun c=>zat w (n+1) ⟨ta,tk⟩ (zbP w ⟨ta,tk⟩ c) b:=by
  rw[zge h4b h1];exact congrArg (fun g=>(zah w ⟨ta,tk⟩).flatMap g) (funext fun c=>(zc3 h4b rfl).symm)
 unfold MinusFn;rw[e] at hbd ⊢;have hcl:=(hs.ctors _ ht).1;have hpre:∀ {pre rest:List Int}{y:Int},pre++y::rest=zah w ⟨ta,tk⟩->(pre.flatMap fun c=>zat w (n+1) ⟨ta,tk⟩ (zbP w ⟨ta,tk⟩ c) b).length+(zat w (n+1) ⟨ta,tk⟩ (zbP w ⟨ta,tk⟩ y) b).length<=20000000:=fun h=>by
  rw[<-h,List.flatMap_append,List.flatMap_cons] at hbd;simp only[xaa] at hbd;omega
 have hmem:∀ {pre rest:List Int}{y:Int},pre++y::rest=zah w ⟨ta,tk⟩->y∈zah w ⟨ta,tk⟩:=fun h=>by rw[<-h];simp
 refine bd Tryz.f93 159 [11] [] fun w0 F0 own kept hk=>?_;refine bx 3005 ?_;refine bx 3006 ?_;refine bx 3007 ?_;refine evs [11] [] ?_;refine sq ?_ ?_<;>intro h1 h1p h1s;try simp only[Q,Pat.cs_len] at h1p
 exfalso;omega;refine sq ?_ ?_<;>intro h2 h2p h2s;try simp only[Q,Pat.cs_len] at h2p
 exfalso;omega;refine sq ?_ ?_<;>intro h3 h3p h3s;refine xaE 9 6 .none rfl rfl ?_;refine tv ?_;refine wc zfD (zeO hs.dp.wt (zb7 ht)) rfl rfl ?_;refine evd [11] [] ?_;refine dr ?_;refine xak (ι:=List (Int)×List (Int)) hk (fun x=>[(61,.d (.i (x.1.length:Int))),(11,.gl 9 (Pat.cs (x.1.flatMap fun c=>zat w (n+1) ⟨ta,tk⟩ (zbP w ⟨ta,tk⟩ c) b)))]) [13,62,63,64,65,66,67,68,69,70,71,72,73,74,75] (fun x=>[(9,some (.tok ((Pat.cs (x.1.flatMap fun c=>zat w (n+1) ⟨ta,tk⟩ (zbP w ⟨ta,tk⟩ c) b))).length 6))]) (fun x=>x.1++x.2=zah w ⟨ta,tk⟩) (fun x=>x.2.length) ([],zah w ⟨ta,tk⟩) (by simp) ⟨⟨_,rfl,xaq ?_⟩,⟨⟨_,rfl,LeA.glg ?_⟩,trivial⟩⟩ ⟨zab ?_,trivial⟩ (fun x=>rfl) (fun x hg1=>?_);iterate 3 focus (rfl)
 obtain⟨pre,rest⟩:=x;dsimp only at hg1 ⊢;refine evc [11] [] ?_;refine sq ?_ ?_<;>intro h4 h4p h4s<;>(try simp only[Q,Pat.cs_len] at h4p);rcases rest with _|⟨y,rest⟩
 ·exfalso;simp_all
 refine xaV sl62 .none rfl rfl rfl rfl (zaI hg1) rfl ?_;refine evs [11] [] ?_;refine wc zyC (zql hs.dp.wt (f:=f) (zb7 ht) (hmem hg1) (hs.args _ _ ht (hmem hg1))) rfl rfl ?_;refine evd [11] [] ?_;refine wc ztF (hC y (hmem hg1)) rfl rfl ?_;refine ap sl26 zz28 rfl rfl rfl (by exact zbH _) (by have h9:=hpre hg1;simp only[Pat.cs_len];omega) ?_;refine asg ?_;refine dr ?_;refine ar ?_;refine xah ((pre++[y],rest)) ⟨(by have hz:=hg1;rw[<-hz];simp),(by simp),sx ⟨⟨_,rfl,xaq ?_⟩,⟨⟨_,rfl,LeA.glg ?_⟩,trivial⟩⟩ ⟨zab ?_,trivial⟩⟩;iterate 3 focus (first|(rw[List.flatMap_append,xat,xat,xat,xaf];simp;done)|(simp[Pat.cs_len];done))
 have hrest:rest=[]:=by
  rcases rest with _|⟨a,b⟩
  ·rfl
  ·exfalso;have hz:=congrArg List.length (hg1);simp only[xaa,xab,xac] at hz;omega
 subst hrest;refine rn0 (r1 rfl) (.gld ?_);rotate_left;try simp only[Q,Pat.cs_len] at h3p
 exfalso;omega;all_goals ((rw[List.append_nil] at hg1;rw[hg1];done))
theorem zjT (hs:Spa w):∀(n m:Nat){ta tk:Int}{a b:Pat},n<m->n<=10->m<=11->InS (w.length*4) ⟨ta,tk⟩->zaf w m ⟨ta,tk⟩ a=true->zaf w n ⟨ta,tk⟩ b=true->MinusFn w f n ta tk a b
 |0,m,ta,tk,a,b,_,_,_,_,_,hb=>by simp[zaf] at hb
 |n+1,0,ta,tk,a,b,h,_,_,_,_,_=>by omega
 |n+1,m+1,ta,tk,a,b,h,hn,hm,ht,ha,hb=>by
  have hC:∀ {a:Pat},zaf w (m+1) ⟨ta,tk⟩ a=true->a.op=4->b.op=4->MinusFn w f (n+1) ta tk a b:=fun {a} ha h4 h4b=>by
   by_cases hc:a.ctor=b.ctor
   ·exact zrz hs hn hm (by omega) (fun h1 h2 h3=>zjT hs n m (by omega) (by omega) (by omega) h1 h2 h3) ht ha hb h4 h4b hc
   ·exact zrA h4 h4b hc
  rcases zbq hb with h1|h3|h4b
  ·exact zrw h1
  ·have:=zbG hb h3;exact zrx h3 ⟨by omega,by omega⟩ ⟨by omega,by omega⟩
  ·by_cases h1:a.op=1
   ·obtain⟨m',rfl⟩:∃m',m=m'+1:=⟨m-1,by omega⟩;exact zry hs ht h1 h4b (zgf hs h hn ht ha hb) (fun c hc=>hC (zcG hc) rfl h4b)
   ·exact hC ha (by have:=zdm ha hb h1 (by omega);omega) h4b
end
abbrev ze3 (x:UInt8):List D:=[.int .u8 (x.toNat:Int)]
abbrev zcx (b:Str):D:= .sl (b.map ze3)
abbrev rdB (b:Str) (p:Nat):Res:= .box [.d (zcx b),.d (.i p)]
theorem zox (u:UInt8):0<=IntKind.i64.wrap (u.toNat:Int)/\IntKind.i64.wrap (u.toNat:Int)<=255:=by
 have h:u.toNat<256:=u.toNat_lt;rw[zd7 (by omega)];omega
def zik (b:Str) (p:Nat):Int:=
 IntKind.i64.wrap ((nth b (p % b.length)).toNat:Int)*131+IntKind.i64.wrap ((nth b ((p*7+3) % b.length)).toNat:Int)*1117+((p:Int)+1-1)*29+((p:Int)+1-1) / ((b.map ze3).length:Int)*53
def zan (b:Str) (p:Nat) (n:Int):Int:=
 if n<1\/b.length=0 then 0
 else if p<b.length then IntKind.i64.wrap ((nth b p).toNat:Int) % n
 else xorV (zik b p) (zik b p / 64) % n
theorem zcQ {b:Str}{p:Nat}{n:Int} (h:1<=n):0<=zan b p n/\zan b p n<n:=by
 unfold zan;split
 ·omega
 ·split
  ·exact⟨Int.emod_nonneg _ (by omega),Int.emod_lt_of_pos _ (by omega)⟩
  ·exact⟨Int.emod_nonneg _ (by omega),Int.emod_lt_of_pos _ (by omega)⟩
theorem zaU {b:Str}{p:Nat}{n:Int} (hb:b.length<=2000) (hp:p<=1000000000000) (hn:n<=1000000000000):
  FnD Tryz.prog 57 [.ref 900 0,.d (.i n)] [(900,some (rdB b p))] (.d (.i (zan b p n))) [(900,some (rdB b (p+1)))]:=by
 have w1:=zox (nth b (p % b.length));have w2:=zox (nth b ((p*7+3) % b.length));have w3:=zox (nth b p);have hlen:((b.map ze3).length:Int)=b.length:=by simp
 have d1:0<=((p:Int)+1-1) / ((b.map ze3).length:Int):=Int.ediv_nonneg (by omega) (by omega);have d2:((p:Int)+1-1) / ((b.map ze3).length:Int)<=(p:Int)+1-1:=Int.ediv_le_self _ (by omega);have hx:0<=zik b p/\zik b p<=100*1000000000000:=by unfold zik;omega
 have hx2:=zyi (m:=zik b p) (n:=zik b p / 64) (by omega) (by omega);have k1:(p:Int)+1-1=(p:Int):=by omega
 have hx3:=hx2;have hx4:=hx;unfold zik at hx3 hx4;refine bd Tryz.f57 99 [46,57,74,89,94,95,98] [] fun w0 F0 own kept hk=>?_;refine ar ?_;refine so ty3 ?_;refine tv ?_;refine sq ?_ ?_<;>intro h1 h1p h1s<;>(try simp only[Q] at h1p);refine sqT ?_;refine rn [(900,some (rdB b (p+1)))] (r1 rfl) (.eqd ?_) ⟨rfl,rfl⟩ (SubO.get ⟨.inr ?_,⟨.inl rfl,trivial⟩⟩) (zay rfl);rotate_left 2;refine sq ?_ ?_<;>intro h3 h3p h3s<;>(try simp only[Q] at h3p);refine rn [(900,some (rdB b (p+1)))] (r1 rfl) (.eqd ?_) ⟨rfl,rfl⟩ (SubO.get ⟨.inr ?_,⟨.inl rfl,trivial⟩⟩) (zay rfl);rotate_left 2;refine ar ?_;refine sq ?_ ?_<;>intro h4 h4p h4s<;>(try simp only[Q] at h4p);refine xaV (i:=p) sl22 .none rfl rfl rfl (by omega) (zar (by omega)) rfl ?_;refine evs [46,57,74,89,94,95,98] [] ?_;refine xaM (by rw[un5];rfl) un3 .none rfl rfl ?_;refine evs [46,57,74,89,94,95,98] [] ?_;refine xbg .none rfl rfl rfl (by omega) ?_;refine evs [46,57,74,89,94,95,98] [] ?_;refine rn [(900,some (rdB b (p+1)))] (r1 rfl) (.eqd ?_) ⟨rfl,rfl⟩ (SubO.get ⟨.inr ?_,⟨.inl rfl,trivial⟩⟩) (zay rfl);rotate_left 2;refine xbg .none rfl rfl rfl (by omega) ?_;refine xaV (i:=p % b.length) sl22 .none rfl rfl rfl (by rw[k1,hlen];rfl) (zar (Nat.mod_lt _ (by omega))) rfl ?_;refine evd [46,57,74,89,94,95,98] [] ?_;refine xaM (by rw[un5];rfl) un3 .none rfl rfl ?_;refine evd [46,57,74,89,94,95,98] [] ?_;refine ar ?_;refine ar ?_;refine ar ?_;refine xbg .none rfl rfl rfl (by omega) ?_;refine xaV (i:=(p*7+3) % b.length) sl22 .none rfl rfl rfl (by rw[k1,hlen];rfl) (zar (Nat.mod_lt _ (by omega))) rfl ?_;refine evd [46,57,74,89,94,95,98] [] ?_;refine xaM (by rw[un5];rfl) un3 .none rfl rfl ?_;refine evd [46,57,74,89,94,95,98] [] ?_;refine ar ?_;refine ar ?_;refine ar ?_;refine ar ?_;refine xbe .none rfl rfl rfl (by omega) ?_;refine evd [46,57,74,89,94,95,98] [] ?_;refine ar ?_;refine ar ?_;refine dr ?_;refine xbe .none rfl rfl rfl (by omega) ?_;refine Walk.xorI .none rfl rfl rfl ?_;refine evs [46,57,74,89,94,95,98] [] ?_;refine xbg .none rfl rfl rfl (by omega) ?_;refine evs [46,57,74,89,94,95,98] [] ?_;refine rn [(900,some (rdB b (p+1)))] (r1 rfl) (.eqd ?_) ⟨rfl,rfl⟩ (SubO.get ⟨.inr ?_,⟨.inl rfl,trivial⟩⟩) (zay rfl);rotate_left 2;all_goals (first|((refine congrArg D.i ?_;unfold zan;first|(rw[if_pos (by omega)];done)|(rw[if_neg (by omega),if_pos (by omega)];done)|(rw[if_neg (by omega),if_neg (by omega)];rfl));done)|(rfl))
def numV (b:Str) (p:Nat) (l:List Int):Int:=nth l (zan b p l.length).toNat
theorem zbL {b:Str}{p:Nat}{l:List Int} (hb:b.length<=2000) (hp:p<=1000000000000) (hl:1<=l.length) (hl2:l.length<=1000):
  FnD Tryz.prog 84 [.ref 900 0,.d (zcy l)] [(900,some (rdB b p))] (.d (.i (numV b p l))) [(900,some (rdB b (p+1)))]:=by
 have hv:=zcQ (b:=b) (p:=p) (n:=((l.map fun n=>[D.i n]).length:Int)) (by simp;omega);have hlen:((l.map fun n=>[D.i n]).length:Int)=l.length:=by simp
 refine bd Tryz.f84 12 [] [] fun w0 F0 own kept hk=>?_;refine wc zce (zaU hb hp (by simp;omega)) rfl rfl ?_;refine xaV (i:=(zan b p ((l.map fun n=>[D.i n]).length:Int)).toNat) sl62 .none rfl rfl rfl (by omega) (zar (by omega)) rfl ?_;refine ev ?_;refine rn [(900,some (rdB b (p+1)))] (r1 rfl) (.eqd ?_) ⟨rfl,rfl⟩ (SubO.get ⟨.inr ?_,⟨.inl rfl,trivial⟩⟩) (zay rfl);rotate_left 2;all_goals (first|((refine congrArg D.i ?_;unfold numV;rw[hlen]);done)|(rfl))
theorem zir {b:Str} (hb:b.length<=1000000000000):FnD Tryz.prog 56 [.d (zcx b)] [] (.ref 900 0) [(900,some (rdB (b.take 2000) 0))]:=by
 refine bd Tryz.f56 11 [] [] fun w0 F0 own kept hk=>?_;refine sq ?_ ?_<;>intro h1 h1p h1s<;>(try simp only[Q] at h1p);refine xaQ (b:=2000) sl22 .none rfl rfl rfl (by intro x hx;obtain⟨y,_,rfl⟩:=List.mem_map.1 hx;rfl) rfl rfl (by simp at *;omega) ?_;refine ev ?_;refine bu [0] [_] zxq ?_;refine bx 900 ?_;refine ev ?_;focus (refine rn [(900,some (rdB (b.take 2000) 0))] (r1 rfl) (.refl _) ⟨rfl,rfl⟩ (SubH.get ⟨(by(simp[getH,rdB,zcx,List.map_take];done)),trivial⟩) (zay rfl);all_goals (rfl))
 refine bu [0] [_] zxq ?_;refine bx 900 ?_;refine ev ?_;focus (refine rn [(900,some (rdB (b.take 2000) 0))] (r1 rfl) (.refl _) ⟨rfl,rfl⟩ (SubH.get ⟨(by(show some (Res.box _)=some (Res.box _);rw[List.take_of_length_le (by simp at *;omega)];rfl)),trivial⟩) (zay rfl);all_goals ((simp[h1s,h1p];done)))
def cutL (c:UInt8):Str->Str->List Str
 |cur,[]=>[cur]
 |cur,x::r=>if x=c then cur::cutL c [] r else cutL c (cur++[x]) r
theorem zes (c:UInt8):∀(s cur:Str),(cutL c cur s).length<=s.length+1
 | [],cur=>by simp[cutL]
 |x::r,cur=>by
  simp only[cutL];split
  ·have:=zes c r [];simp only[xab];omega
  ·have:=zes c r (cur++[x]);simp only[xab];omega
theorem zji (c:UInt8):∀(s cur:Str),1<=(cutL c cur s).length
 | [],cur=>by simp[cutL]
 |x::r,cur=>by
  simp only[cutL];split
  ·simp
  ·exact zji c r (cur++[x])
theorem zjh (c:UInt8):∀(s cur:Str) (t:Str),t∈cutL c cur s->t.length<=cur.length+s.length
 | [],cur,t,h=>by simp only[cutL,List.mem_singleton] at h;subst h;simp
 |x::r,cur,t,h=>by
  simp only[cutL] at h;split at h
  ·rcases List.mem_cons.1 h with rfl|h
   ·simp
   ·have:=zjh c r [] t h;simp only[xab,xai] at this ⊢;omega
  ·have:=zjh c r (cur++[x]) t h;simp only[xaa,xab,xai] at this ⊢;omega
theorem zh0 {s:Str}{i:Nat} (h:i<s.length):s[i]?=some (nth s i):=by rw[zaM h];exact List.getElem?_eq_getElem h
theorem zl7 {s:Str}{f i:Nat} (hf:f<=i) (h:i<s.length):(s.take (i+1)).drop f=(s.take i).drop f++[nth s i]:=by
 rw[List.take_add_one,List.getElem?_eq_getElem h,List.drop_append_of_le_length (by simp;omega),zaM h];rfl
theorem zre {s:Str}{f i:Nat}:(s.drop f).take (i-f)=(s.take i).drop f:=by rw[List.drop_take]
theorem zcA {s:Str}{c:UInt8} (hs:s.length<=1000000000000):FnD Tryz.prog 120 [.d (.str s),.d (.int .u8 (c.toNat:Int))] [] (.d (zfp (cutL c [] s))) []:=by
 have hu:∀a:UInt8,((a.toNat:Int)=(c.toNat:Int))↔a=c:=fun a=>by rw[Int.natCast_inj];exact UInt8.toNat_inj
 refine bd Tryz.f120 36 [] [] fun w0 F0 own kept hk=>?_;refine xbi 1 sl99 .none rfl rfl ?_;refine ev ?_;refine xak (ι:=Nat×Nat×List Str) hk (fun x=>[(7,.d (.i (x.1:Int))),(6,.d (.i (x.2.1:Int))),(5,.gl 1 (x.2.2.map fun n=>[D.str n]))]) [9,10,11,12,13,14,15,16,17,18,19,20,21,22,23,24,25,26,27,28,29,30,31,32,33,34] (fun x=>[(1,some (.tok ((x.2.2.map fun n=>[D.str n])).length 1))]) (fun x=>x.1<=s.length+1/\x.2.2.length<=x.1/\if x.1=s.length+1 then x.2.2=cutL c [] s else x.2.1<=x.1/\x.2.2++cutL c ((s.take x.1).drop x.2.1) (s.drop x.1)=cutL c [] s) (fun x=>s.length+1-x.1) (0,0,[]) ⟨by simp,by simp,by rw[if_neg (by simp)];simp⟩ ⟨⟨_,rfl,xaq ?_⟩,⟨⟨_,rfl,xaq ?_⟩,⟨⟨_,rfl,LeA.glg ?_⟩,trivial⟩⟩⟩ ⟨zab ?_,trivial⟩ (fun x=>rfl) (fun x hg1=>?_);iterate 4 focus (rfl)
 refine evc [] [] ?_;refine sq ?_ ?_<;>intro h1 h1p h1s<;>(try simp only[Q,hu] at h1p);have hne:¬x.1=s.length+1:=(by omega);have hcond:=hg1.2.2;rw[if_neg hne] at hcond;have hle:=hcond.1;refine sq ?_ ?_<;>intro h2 h2p h2s<;>(try simp only[Q,hu] at h2p);refine sqT ?_;refine xaO un9 .none rfl rfl rfl rfl rfl rfl (by omega) (by omega) ?_;refine si [0] [_] sl99 tz9 ?_;refine ap sl99 zz9 rfl rfl rfl (by simp) (by simp;omega) ?_;refine ev ?_;refine ar ?_;refine ar ?_;refine xah (if x.1=s.length\/nth s x.1=c then (x.1+1,x.1+1,x.2.2++[(s.take x.1).drop x.2.1]) else (x.1+1,x.2.1,x.2.2)) ⟨(by
    have hne:¬x.1=s.length+1:=by omega
    rw[if_neg hne] at hg1;obtain⟨g1,g2,g3,g4⟩:=hg1;by_cases he:x.1=s.length
    ·rw[if_pos (.inl he)];refine⟨by dsimp only;omega,by simp;omega, ?_⟩;dsimp only;rw[if_pos (by omega),<-g4,he,List.drop_length];rfl
    ·have hlt:x.1<s.length:=by omega
     rw[zaK hlt] at g4;by_cases hc:nth s x.1=c
     ·rw[if_pos (.inr hc)];refine⟨by dsimp only;omega,by simp;omega, ?_⟩;dsimp only;rw[if_neg (by omega)];refine⟨by omega, ?_⟩;rw[<-g4,cutL,if_pos hc,List.append_assoc];simp
     ·rw[if_neg (by simp[he,hc])];refine⟨by dsimp only;omega,by dsimp only;omega, ?_⟩;dsimp only;rw[if_neg (by omega)];refine⟨by omega, ?_⟩;rw[<-g4,cutL,if_neg hc,zl7 g3 hlt]),(by split<;>(dsimp only;omega)),sx ⟨⟨_,rfl,xaq ?_⟩,⟨⟨_,rfl,xaq ?_⟩,⟨⟨_,rfl,LeA.glg ?_⟩,trivial⟩⟩⟩ ⟨zab ?_,trivial⟩⟩
 iterate 4 focus ((split<;>first|(simp[zre];done)|(simp;done)|(exfalso;simp_all;done)|(exfalso;simp_all;omega)))
 refine xa0 un9 (.some rfl rfl h2) rfl rfl rfl rfl (zh0 (by omega)) ?_;refine evs [] [(19,false)] ?_ ⟨⟨_,rfl,h2⟩,trivial⟩;refine sq ?_ ?_<;>intro h4 h4p h4s<;>(try simp only[Q,hu] at h4p);refine xaO un9 .none rfl rfl rfl rfl rfl rfl (by omega) (by omega) ?_;refine si [0] [_] sl99 tz9 ?_;refine ap sl99 zz9 rfl rfl rfl (by simp) (by simp;omega) ?_;refine ev ?_;refine ar ?_;refine ar ?_;refine xah (if x.1=s.length\/nth s x.1=c then (x.1+1,x.1+1,x.2.2++[(s.take x.1).drop x.2.1]) else (x.1+1,x.2.1,x.2.2)) ⟨(by
    have hne:¬x.1=s.length+1:=by omega
    rw[if_neg hne] at hg1;obtain⟨g1,g2,g3,g4⟩:=hg1;by_cases he:x.1=s.length
    ·rw[if_pos (.inl he)];refine⟨by dsimp only;omega,by simp;omega, ?_⟩;dsimp only;rw[if_pos (by omega),<-g4,he,List.drop_length];rfl
    ·have hlt:x.1<s.length:=by omega
     rw[zaK hlt] at g4;by_cases hc:nth s x.1=c
     ·rw[if_pos (.inr hc)];refine⟨by dsimp only;omega,by simp;omega, ?_⟩;dsimp only;rw[if_neg (by omega)];refine⟨by omega, ?_⟩;rw[<-g4,cutL,if_pos hc,List.append_assoc];simp
     ·rw[if_neg (by simp[he,hc])];refine⟨by dsimp only;omega,by dsimp only;omega, ?_⟩;dsimp only;rw[if_neg (by omega)];refine⟨by omega, ?_⟩;rw[<-g4,cutL,if_neg hc,zl7 g3 hlt]),(by split<;>(dsimp only;omega)),sx ⟨⟨_,rfl,xaq ?_⟩,⟨⟨_,rfl,xaq ?_⟩,⟨⟨_,rfl,LeA.glg ?_⟩,trivial⟩⟩⟩ ⟨zab ?_,trivial⟩⟩
 iterate 4 focus ((split<;>first|(simp[zre];done)|(simp;done)|(exfalso;simp_all;done)|(exfalso;simp_all;omega)))
 refine ar ?_;refine xah (if x.1=s.length\/nth s x.1=c then (x.1+1,x.1+1,x.2.2++[(s.take x.1).drop x.2.1]) else (x.1+1,x.2.1,x.2.2)) ⟨(by
    have hne:¬x.1=s.length+1:=by omega
    rw[if_neg hne] at hg1;obtain⟨g1,g2,g3,g4⟩:=hg1;by_cases he:x.1=s.length
    ·rw[if_pos (.inl he)];refine⟨by dsimp only;omega,by simp;omega, ?_⟩;dsimp only;rw[if_pos (by omega),<-g4,he,List.drop_length];rfl
    ·have hlt:x.1<s.length:=by omega
     rw[zaK hlt] at g4;by_cases hc:nth s x.1=c
     ·rw[if_pos (.inr hc)];refine⟨by dsimp only;omega,by simp;omega, ?_⟩;dsimp only;rw[if_neg (by omega)];refine⟨by omega, ?_⟩;rw[<-g4,cutL,if_pos hc,List.append_assoc];simp
     ·rw[if_neg (by simp[he,hc])];refine⟨by dsimp only;omega,by dsimp only;omega, ?_⟩;dsimp only;rw[if_neg (by omega)];refine⟨by omega, ?_⟩;rw[<-g4,cutL,if_neg hc,zl7 g3 hlt]),(by split<;>(dsimp only;omega)),sx ⟨⟨_,rfl,xaq ?_⟩,⟨⟨_,rfl,xaq ?_⟩,⟨⟨_,rfl,LeA.glg ?_⟩,trivial⟩⟩⟩ ⟨zab ?_,trivial⟩⟩
 iterate 4 focus ((split<;>first|rfl|(exfalso;simp_all;done)|(exfalso;simp_all;omega)))
 refine rn0 (r1 rfl) (.gld ?_);rotate_left;all_goals (have e:x.1=s.length+1:=(by omega);rw[if_pos e] at hg1;rw[hg1.2.2])
def ztM (names:List Str) (s:Str):Int:=if s=[73] then -1 else if s∈names then idxF (fun n=>decide (n=s)) names 0 else -2
theorem zo4 {names:List Str}{s:Str} (hn:names.length<=1000000000000):FnD Tryz.prog 211 [.d (zfp names),.d (.str s)] [] (.d (.i (ztM names s))) []:=by
 refine bd Tryz.f211 21 [] [] fun w0 F0 own kept hk=>?_;refine sq ?_ ?_<;>intro h1 h1p h1s<;>(try simp only[Q] at h1p);refine rq ?_;rotate_left;refine xak (ι:=List (Str)×List (Str)) hk (fun x=>[(5,.d (.i (x.1.length:Int)))]) [4,8,9,10,11,12,13,14,15,16,17,18,19,20] (fun x=>[]) (fun x=>x.1++x.2=names/\s∉x.1/\idxF (fun n=>decide (n=s)) x.2 x.1.length=idxF (fun n=>decide (n=s)) names 0) (fun x=>x.2.length) ([],names) ⟨by simp,by simp,rfl⟩ ⟨⟨_,rfl,xaq ?_⟩,trivial⟩ trivial (fun x=>rfl) (fun x hg1=>?_);focus (rfl)
 obtain⟨pre,rest⟩:=x;dsimp only at hg1 ⊢;refine evc [] [] ?_;refine sq ?_ ?_<;>intro h2 h2p h2s<;>(try simp only[Q] at h2p);rcases rest with _|⟨y,rest⟩
 ·exfalso;simp_all
 refine xaV sl99 .none rfl rfl rfl rfl (zaI hg1.1) rfl ?_;refine ev ?_;refine sq ?_ ?_<;>intro h3 h3p h3s<;>(try simp only[Q] at h3p);refine rq ?_;rotate_left;refine ar ?_;refine xah ((pre++[y],rest)) ⟨⟨(by have hz:=hg1.1;rw[<-hz];simp),⟨(by have h1:=hg1.2.1;simp_all[eq_comm]),(by rw[<-hg1.2.2];simp_all[idxF])⟩⟩,(by simp),sx ⟨⟨_,rfl,xaq ?_⟩,trivial⟩ trivial⟩;focus ((simp;done))
 have hrest:rest=[]:=by
  rcases rest with _|⟨a,b⟩
  ·rfl
  ·exfalso;have hz:=congrArg List.length (hg1.1);simp only[xaa,xab,xac] at hz;omega
 subst hrest;refine rq ?_;rotate_left;all_goals (refine congrArg D.i ?_;unfold ztM;by_cases hz:s=[73]<;>by_cases hm:s∈names<;>simp only[hz,hm,if_true,if_false];all_goals first|(exfalso;simp_all;done)|(exfalso;apply hm;subst h3p;rw[<-hg1.1];simp;done)|(exfalso;apply hg1.2.1;rw[<-hg1.1,List.append_nil] at hm;exact hm)|(rw[<-hg1.2.2];simp_all[idxF];done))
def zfw (names:List Str) (s:Str):Ty:=
 if s=[] then ⟨-2,0⟩
 else ⟨ztM names (s.take 1),if s.drop 1=[42] then -1 else if s.length=2/\48<=(nth s 1).toNat/\(nth s 1).toNat<=57 then ((nth s 1).toNat:Int)-48 else 0⟩
theorem ztJ {b:UInt8} (h1:48<=b.toNat) (h2:b.toNat<=57):IntKind.i64.wrap (IntKind.u8.wrap ((b.toNat:Int)-48))=(b.toNat:Int)-48:=by
 rw[zyf,zd7 (by omega)];omega
theorem zf4 {names:List Str}{s:Str} (hn:names.length<=1000000000000) (hs:s.length<=1000000000000):
  FnD Tryz.prog 173 [.d (zfp names),.d (.str s)] [] (.agg [.d (.i (zfw names s).data),.d (.i (zfw names s).index)]) []:=by
 have hlen:s≠[]->1<=s.length:=fun h=>by rcases s with _|⟨a,r⟩;exact absurd rfl h;simp
 refine bd Tryz.f173 39 [35] [] fun w0 F0 own kept hk=>?_;refine ab 3004 tz25 ?_;refine tv ?_;refine sq ?_ ?_<;>intro h1 h1p h1s<;>(try simp only[Q] at h1p);refine bu [0] [_] st25 ?_;refine so ty25 ?_;refine tv ?_;refine rn0 (.cons (.cellA ty25 rfl rfl rfl) .nil) (.agg (.cons (.eqd ?_) (.cons (.eqd ?_) .nil)));rotate_left 2;refine xaN (b:=1) un9 .none rfl rfl rfl rfl (by have:=hlen (by simp_all);omega) ?_;refine wc zy1 (zo4 (names:=names) (s:=s.take 1) hn) rfl rfl ?_;refine bu [0] [_] st25 ?_;refine ab 3005 tz25 ?_;refine so ty25 ?_;refine tv ?_;refine Walk.cutS_l (b:=1) un9 .none rfl rfl rfl rfl (by have:=hlen (by simp_all);omega) ?_;refine evs [35] [] ?_;refine sq ?_ ?_<;>intro h2 h2p h2s<;>(try simp only[Q] at h2p);refine so ty3 ?_;refine tv ?_;refine so ty25 ?_;refine tv ?_;refine rn0 (.cons (.cellA ty25 rfl rfl rfl) .nil) (.agg (.cons (.eqd ?_) (.cons (.eqd ?_) .nil)));rotate_left 2;refine sq ?_ ?_<;>intro h3 h3p h3s<;>(try simp only[Q] at h3p);refine xa0 (i:=1) un9 (.some rfl rfl h3) rfl rfl rfl rfl (zh0 (by simp_all;omega)) ?_;refine evs [35] [(23,true)] ?_ ⟨⟨_,rfl,h3⟩,trivial⟩;refine sq ?_ ?_<;>intro h4 h4p h4s<;>(try simp only[Q] at h4p);refine xa0 (i:=1) un9 (.some rfl rfl h4) rfl rfl rfl rfl (zh0 (by simp_all;omega)) ?_;refine evs [35] [(28,true)] ?_ ⟨⟨_,rfl,h4⟩,trivial⟩;refine sq ?_ ?_<;>intro h5 h5p h5s<;>(try simp only[Q] at h5p);refine xa0 (i:=1) un9 .none rfl rfl rfl rfl (zh0 (by simp_all;omega)) ?_;refine Walk.subW .none rfl rfl rfl ?_;refine xaM (by rw[un5];rfl) un3 .none rfl rfl ?_;refine evs [35] [] ?_;refine so ty3 ?_;refine tv ?_;refine so ty25 ?_;refine tv ?_;refine rn0 (.cons (.cellA ty25 rfl rfl rfl) .nil) (.agg (.cons (.eqd ?_) (.cons (.eqd ?_) .nil)));rotate_left 2;refine so ty25 ?_;refine tv ?_;refine rn0 (.cons (.cellA ty25 rfl rfl rfl) .nil) (.agg (.cons (.eqd ?_) (.cons (.eqd ?_) .nil)));rotate_left 2;refine sqF ?_;refine so ty25 ?_;refine tv ?_;refine rn0 (.cons (.cellA ty25 rfl rfl rfl) .nil) (.agg (.cons (.eqd ?_) (.cons (.eqd ?_) .nil)));rotate_left 2;refine sqF ?_;refine sqF ?_;refine so ty25 ?_;refine tv ?_;refine rn0 (.cons (.cellA ty25 rfl rfl rfl) .nil) (.agg (.cons (.eqd ?_) (.cons (.eqd ?_) .nil)));rotate_left 2;all_goals (unfold zfw;first|(rw[ztJ (b:=nth s 1) (by omega) (by omega),if_neg h1p];dsimp only;rw[if_neg h2p,if_pos ⟨by omega,by omega,by omega⟩];done)|(rw[if_pos h1p];done)|(rw[if_neg h1p];done)|(rw[if_neg h1p];dsimp only;rw[if_pos h2p];done)|(rw[if_neg h1p];dsimp only;rw[if_neg h2p,if_neg (fun hh=>by omega)];done))
def zri (s:Str):Prop:=2<s.length/\nth s (s.length-2)=58
instance (s:Str):Decidable (zri s):=inferInstanceAs (Decidable (_/\_))
def zhF (names:List Str) (ix:Int) (s:Str):Ctor:=
 let parts:=cutL 40 [] s
 ⟨nth parts 0,if parts.length<2\/(nth parts 1).length=0 then [] else ((cutL 44 [] ((nth parts 1).take ((nth parts 1).length-1))).take 4).map (zfw names),ix⟩
def zcI (names:List Str) (s:Str):Ctor:=
 if zri s then zhF names (((nth s (s.length-1)).toNat:Int)-48) (s.take (s.length-2)) else zhF names 0 s
theorem zgY {α β:Type} [Inhabited α]{f:α->β}{l:List α}{i:Nat} (h:i<l.length):(l.map f).take (i+1)=(l.map f).take i++[f (nth l i)]:=by
 rw[List.take_add_one,List.getElem?_map,List.getElem?_eq_getElem h];simp[nth,List.getD,h]
theorem zp7 {α:Type}{l:List α}{i:Nat} (h:i=4\/(i<=4/\l.length<=i)):l.take i=l.take 4:=by
 rcases h with rfl|⟨h1,h2⟩
 ·rfl
 ·rw[List.take_of_length_le h2,List.take_of_length_le (by omega)]
theorem zz4 {a b:UInt8}:((a.toNat:Int)=(b.toNat:Int))↔a=b:=by rw[Int.natCast_inj];exact UInt8.toNat_inj
theorem zvT (a:UInt8):IntKind.i64.wrap (a.toNat:Int)=(a.toNat:Int):=by have:=a.toNat_lt;exact zd7 (by omega)
theorem zet {c:UInt8}{s:Str}{i:Nat} (h:i<(cutL c [] s).length):(nth (cutL c [] s) i).length<=s.length:=by
 have:=zjh c s [] _ (zac h);simpa using this
theorem zj8 {names:List Str}{s:Str} (hn:names.length<=1000000000000) (hs:s.length<=1000000):
  FnD Tryz.prog 121 [.d (zfp names),.d (.str s)] [] (.agg [.d (.str (zcI names s).name),.d (zct (zcI names s).args),.d (.i (zcI names s).index)]) []:=by
 have hwb:=zvT (nth s (s.length-1));have hwl:=(nth s (s.length-1)).toNat_lt;by_cases hc:zri s
 ·have hc1:=hc.1;have hct:(s.take (s.length-2)).length=s.length-2:=by rw[List.length_take];omega
  have hcl:=zes 40 (s.take (s.length-2)) [];have hcp:=zji 40 (s.take (s.length-2)) [];have hn1:=fun h=>zet (c:=40) (s:=s.take (s.length-2)) (i:=1) h;have hal:=zes 44 ((nth (cutL 40 [] (s.take (s.length-2))) 1).take ((nth (cutL 40 [] (s.take (s.length-2))) 1).length-1)) [];refine bd Tryz.f121 83 [] [2,7] fun w0 F0 own kept hk=>?_;refine ab 3004 zho ?_;refine tv ?_;refine bu [] [] zxr ?_;refine ab 3005 zho ?_;refine so zdi ?_;refine tv ?_;refine xal ?_;refine xaB 11 [(20,.d (.bool (true)))] [10,11,12,13,14,15,16,17,18,19] ?_ ?_;refine ev ?_;refine sq ?_ ?_<;>intro h1 h1p h1s;refine ar ?_;refine xa0 (i:=s.length-2) un9 (.some rfl rfl h1) rfl rfl rfl (by omega) (zh0 (by omega)) ?_;refine evs [] [(13,true)] ?_ ⟨⟨_,rfl,h1⟩,trivial⟩;exact jn rfl (xap (by(exact decide_eq_true (congrArg (fun z:UInt8=>(z.toNat:Int)) hc.2))));try simp only[Q,List.length_take] at h1p
  exact jn rfl (xap (by(exfalso;omega)));refine xaA ?_;refine tv ?_;refine sq ?_ ?_<;>intro h2 h2p h2s;refine ar ?_;refine xa0 (i:=s.length-1) un9 .none rfl rfl rfl (by omega) (zh0 (by omega)) ?_;refine xaM (by rw[un5];rfl) un3 .none rfl rfl ?_;refine ev ?_;refine ar ?_;refine so ty3 ?_;refine tv ?_;refine ar ?_;refine xaN (b:=s.length-2) un9 .none rfl rfl rfl (by omega) (by omega) ?_;refine ev ?_;refine wc zgA (zcA (s:=s.take (s.length-2)) (c:=40) (by first|omega|(simp;omega))) rfl rfl ?_;refine ev ?_;refine xaV (i:=0) sl99 .none rfl rfl rfl rfl (zar (by omega)) rfl ?_;refine ev ?_;refine so ty9 ?_;refine tv ?_;refine xal ?_;refine xaB 10 [(49,.d (.bool (decide ((cutL 40 [] (s.take (s.length-2))).length<2\/(nth (cutL 40 [] (s.take (s.length-2))) 1).length=0))))] [40,41,42,43,44,45,46,47,48] ?_ ?_;refine ev ?_;refine sq ?_ ?_<;>intro h3 h3p h3s<;>(try simp only[Q,List.length_take] at h3p);exact jn rfl (xap (by(refine(decide_eq_true ?_).symm;omega)));refine xaV (i:=1) sl99 (.some rfl rfl h3) rfl rfl rfl rfl (zar (by omega)) rfl ?_;refine evs [] [(43,false)] ?_ ⟨⟨_,rfl,h3⟩,trivial⟩;exact jn rfl (xap (by(refine decide_eq_decide.2 ?_;omega)));refine xaA ?_;refine tv ?_;refine sq ?_ ?_<;>intro h4 h4p h4s;refine so zdi ?_;refine tv ?_;refine rn0 (.cons (.cellA zdi rfl rfl rfl) .nil) (.agg (.cons (.eqd ?_) (.cons (.nild ?_) (.cons (.eqd ?_) .nil))));rotate_left 3;try simp only[Q,List.length_take] at h4p
  refine xaV (i:=1) sl99 .none rfl rfl rfl rfl (zar (by omega)) rfl ?_;refine evd [] [] ?_;refine xaV (i:=1) sl99 .none rfl rfl rfl rfl (zar (by omega)) rfl ?_;refine evd [] [] ?_;refine ar ?_;refine xaN (b:=(nth (cutL 40 [] (s.take (s.length-2))) 1).length-1) un9 .none rfl rfl rfl (by omega) (by omega) ?_;refine wc zgA (zcA (s:=(nth (cutL 40 [] (s.take (s.length-2))) 1).take ((nth (cutL 40 [] (s.take (s.length-2))) 1).length-1)) (c:=44) (by simp;omega)) rfl rfl ?_;refine evd [] [] ?_;refine dr ?_;refine xan 3005 1 1 2 rfl rfl rfl rfl ?_;refine xak (ι:=Nat) hk (fun i=>[(8,.d (.i (i:Int)))]) [61,62,63,64,65,66,67,68,69,70,71,72,73,74,75,76,77,78,79,80,81] (fun i=>[(3005,some (.box [.d (.str (nth (cutL 40 [] (s.take (s.length-2))) 0)),.gl 1 (((((cutL 44 [] ((nth (cutL 40 [] (s.take (s.length-2))) 1).take ((nth (cutL 40 [] (s.take (s.length-2))) 1).length-1))).map (zfw names)).take i)).map Ty.c),.d (.i (((nth s (s.length-1)).toNat:Int)-48))])),(1,some (.tok (((((cutL 44 [] ((nth (cutL 40 [] (s.take (s.length-2))) 1).take ((nth (cutL 40 [] (s.take (s.length-2))) 1).length-1))).map (zfw names)).take i)).map Ty.c).length 2))]) (fun i=>i<=4/\i<=(cutL 44 [] ((nth (cutL 40 [] (s.take (s.length-2))) 1).take ((nth (cutL 40 [] (s.take (s.length-2))) 1).length-1))).length) (fun i=>4-i) 0 ⟨by omega,by omega⟩ ⟨⟨_,rfl,xaq ?_⟩,trivial⟩ ⟨?_,⟨zab ?_,trivial⟩⟩ (fun x=>rfl) (fun i hg1=>?_);focus (rfl)
  focus ((show some (Res.box _)=some (Res.box _);rw[hwb];rfl))
  focus (rfl)
  refine evc [] [2,7] ?_;refine sq ?_ ?_<;>intro h5 h5p h5s<;>(try simp only[Q,List.length_take] at h5p);refine sq ?_ ?_<;>intro h6 h6p h6s<;>(try simp only[Q,List.length_take] at h6p);refine xaV sl99 .none rfl rfl rfl rfl (zar (by omega)) rfl ?_;refine evd [] [] ?_;refine wc zuB (zf4 (names:=names) (s:=nth (cutL 44 [] ((nth (cutL 40 [] (s.take (s.length-2))) 1).take ((nth (cutL 40 [] (s.take (s.length-2))) 1).length-1))) i) hn (by have:=zet (c:=44) (s:=(nth (cutL 40 [] (s.take (s.length-2))) 1).take ((nth (cutL 40 [] (s.take (s.length-2))) 1).length-1)) (i:=i) (by omega);simp at this;omega)) rfl rfl ?_;refine si [0] [_] zaW tz25 ?_;refine ap zaW zz25 rfl rfl rfl (by simp) (by simp;omega) ?_;refine evd [] [] ?_;refine so zxt ?_;refine dr ?_;refine ar ?_;refine xah (i+1) ⟨⟨by omega,by omega⟩,(by omega),sx ⟨⟨_,rfl,xaq ?_⟩,trivial⟩ ⟨?_,⟨zab ?_,trivial⟩⟩⟩;focus (rfl)
  focus ((show some (Res.box _)=some (Res.box _);rw[zgY (by omega)];simp;done))
  focus ((simp;omega))
  refine so zdi ?_;refine tv ?_;refine rn0 (.cons (.cellA zdi rfl rfl rfl) .nil) (.agg (.cons (.eqd ?_) (.cons (.gld ?_) (.cons (.eqd ?_) .nil))));rotate_left 3;refine sqF ?_;refine so zdi ?_;refine tv ?_;refine rn0 (.cons (.cellA zdi rfl rfl rfl) .nil) (.agg (.cons (.eqd ?_) (.cons (.gld ?_) (.cons (.eqd ?_) .nil))));rotate_left 3;try simp only[Q,List.length_take] at h2p
  exact absurd h2 (by simp);all_goals (unfold zcI;rw[if_pos hc];first|rfl|(rw[hwb];rfl)|(unfold zhF;dsimp only;by_cases hq:(cutL 40 [] (s.take (s.length-2))).length<2\/(nth (cutL 40 [] (s.take (s.length-2))) 1).length=0;all_goals first|(exfalso;exact(of_decide_eq_false h4) hq)|(exfalso;exact hq (of_decide_eq_true h4))|(rw[if_pos hq];done)|(rw[if_pos hq];rfl)|(rw[if_neg hq,<-List.map_take,zp7 (by omega)];done)))
 ·skip
  have hcl:=zes 40 (s) [];have hcp:=zji 40 (s) [];have hn1:=fun h=>zet (c:=40) (s:=s) (i:=1) h;have hal:=zes 44 ((nth (cutL 40 [] (s)) 1).take ((nth (cutL 40 [] (s)) 1).length-1)) [];refine bd Tryz.f121 83 [] [2,7] fun w0 F0 own kept hk=>?_;refine ab 3004 zho ?_;refine tv ?_;refine bu [] [] zxr ?_;refine ab 3005 zho ?_;refine so zdi ?_;refine tv ?_;refine xal ?_;refine xaB 11 [(20,.d (.bool (false)))] [10,11,12,13,14,15,16,17,18,19] ?_ ?_;refine ev ?_;refine sq ?_ ?_<;>intro h1 h1p h1s;try simp only[Q,List.length_take] at h1p
  refine ar ?_;refine xa0 (i:=s.length-2) un9 (.some rfl rfl h1) rfl rfl rfl (by omega) (zh0 (by omega)) ?_;refine evs [] [(13,true)] ?_ ⟨⟨_,rfl,h1⟩,trivial⟩;exact jn rfl (xap (by(exact decide_eq_false (fun hh=>hc ⟨by omega,(zz4 (b:=58)).1 hh⟩))));exact jn rfl (xap (by rfl));refine xaA ?_;refine tv ?_;refine sq ?_ ?_<;>intro h2 h2p h2s;exact absurd h2 (by simp);refine wc zgA (zcA (s:=s) (c:=40) (by first|omega|(simp;omega))) rfl rfl ?_;refine ev ?_;refine xaV (i:=0) sl99 .none rfl rfl rfl rfl (zar (by omega)) rfl ?_;refine ev ?_;refine so ty9 ?_;refine tv ?_;refine xal ?_;refine xaB 10 [(49,.d (.bool (decide ((cutL 40 [] (s)).length<2\/(nth (cutL 40 [] (s)) 1).length=0))))] [40,41,42,43,44,45,46,47,48] ?_ ?_;refine ev ?_;refine sq ?_ ?_<;>intro h3 h3p h3s<;>(try simp only[Q,List.length_take] at h3p);exact jn rfl (xap (by(refine(decide_eq_true ?_).symm;omega)));refine xaV (i:=1) sl99 (.some rfl rfl h3) rfl rfl rfl rfl (zar (by omega)) rfl ?_;refine evs [] [(43,false)] ?_ ⟨⟨_,rfl,h3⟩,trivial⟩;exact jn rfl (xap (by(refine decide_eq_decide.2 ?_;omega)));refine xaA ?_;refine tv ?_;refine sq ?_ ?_<;>intro h4 h4p h4s;refine so zdi ?_;refine tv ?_;refine rn0 (.cons (.cellA zdi rfl rfl rfl) .nil) (.agg (.cons (.eqd ?_) (.cons (.nild ?_) (.cons (.eqd ?_) .nil))));rotate_left 3;try simp only[Q,List.length_take] at h4p
  refine xaV (i:=1) sl99 .none rfl rfl rfl rfl (zar (by omega)) rfl ?_;refine evd [] [] ?_;refine xaV (i:=1) sl99 .none rfl rfl rfl rfl (zar (by omega)) rfl ?_;refine evd [] [] ?_;refine ar ?_;refine xaN (b:=(nth (cutL 40 [] (s)) 1).length-1) un9 .none rfl rfl rfl (by omega) (by omega) ?_;refine wc zgA (zcA (s:=(nth (cutL 40 [] (s)) 1).take ((nth (cutL 40 [] (s)) 1).length-1)) (c:=44) (by simp;omega)) rfl rfl ?_;refine evd [] [] ?_;refine dr ?_;refine xan 3005 1 1 2 rfl rfl rfl rfl ?_;refine xak (ι:=Nat) hk (fun i=>[(8,.d (.i (i:Int)))]) [61,62,63,64,65,66,67,68,69,70,71,72,73,74,75,76,77,78,79,80,81] (fun i=>[(3005,some (.box [.d (.str (nth (cutL 40 [] (s)) 0)),.gl 1 (((((cutL 44 [] ((nth (cutL 40 [] (s)) 1).take ((nth (cutL 40 [] (s)) 1).length-1))).map (zfw names)).take i)).map Ty.c),.d (.i (0))])),(1,some (.tok (((((cutL 44 [] ((nth (cutL 40 [] (s)) 1).take ((nth (cutL 40 [] (s)) 1).length-1))).map (zfw names)).take i)).map Ty.c).length 2))]) (fun i=>i<=4/\i<=(cutL 44 [] ((nth (cutL 40 [] (s)) 1).take ((nth (cutL 40 [] (s)) 1).length-1))).length) (fun i=>4-i) 0 ⟨by omega,by omega⟩ ⟨⟨_,rfl,xaq ?_⟩,trivial⟩ ⟨?_,⟨zab ?_,trivial⟩⟩ (fun x=>rfl) (fun i hg1=>?_);focus (rfl)
  focus (rfl)
  focus (rfl)
  refine evc [] [2,7] ?_;refine sq ?_ ?_<;>intro h5 h5p h5s<;>(try simp only[Q,List.length_take] at h5p);refine sq ?_ ?_<;>intro h6 h6p h6s<;>(try simp only[Q,List.length_take] at h6p);refine xaV sl99 .none rfl rfl rfl rfl (zar (by omega)) rfl ?_;refine evd [] [] ?_;refine wc zuB (zf4 (names:=names) (s:=nth (cutL 44 [] ((nth (cutL 40 [] (s)) 1).take ((nth (cutL 40 [] (s)) 1).length-1))) i) hn (by have:=zet (c:=44) (s:=(nth (cutL 40 [] (s)) 1).take ((nth (cutL 40 [] (s)) 1).length-1)) (i:=i) (by omega);simp at this;omega)) rfl rfl ?_;refine si [0] [_] zaW tz25 ?_;refine ap zaW zz25 rfl rfl rfl (by simp) (by simp;omega) ?_;refine evd [] [] ?_;refine so zxt ?_;refine dr ?_;refine ar ?_;refine xah (i+1) ⟨⟨by omega,by omega⟩,(by omega),sx ⟨⟨_,rfl,xaq ?_⟩,trivial⟩ ⟨?_,⟨zab ?_,trivial⟩⟩⟩;focus (rfl)
  focus ((show some (Res.box _)=some (Res.box _);rw[zgY (by omega)];simp;done))
  focus ((simp;omega))
  refine so zdi ?_;refine tv ?_;refine rn0 (.cons (.cellA zdi rfl rfl rfl) .nil) (.agg (.cons (.eqd ?_) (.cons (.gld ?_) (.cons (.eqd ?_) .nil))));rotate_left 3;refine sqF ?_;refine so zdi ?_;refine tv ?_;refine rn0 (.cons (.cellA zdi rfl rfl rfl) .nil) (.agg (.cons (.eqd ?_) (.cons (.gld ?_) (.cons (.eqd ?_) .nil))));rotate_left 3;all_goals (unfold zcI;rw[if_neg hc];first|rfl|(unfold zhF;dsimp only;by_cases hq:(cutL 40 [] (s)).length<2\/(nth (cutL 40 [] (s)) 1).length=0;all_goals first|(exfalso;exact(of_decide_eq_false h4) hq)|(exfalso;exact hq (of_decide_eq_true h4))|(rw[if_pos hq];done)|(rw[if_pos hq];rfl)|(rw[if_neg hq,<-List.map_take,zp7 (by omega)];done)))
def decV (n:Int):Str:=strN [IntKind.u8.wrap (48+n)]
theorem zl9 (n:Int):(decV n).length=1:=rfl
def zkD (n:Int):Str:=if n=0 then [] else if n = -1 then [42] else decV n
theorem zns (n:Int):(zkD n).length<=1:=by unfold zkD;split;simp;split;simp;rw[zl9];omega
def zgQ (w:List Data) (t:Ty):Str:=if t.data = -1 then [73] else (nth w t.data.toNat).name++zkD t.index
def zdD (w:List Data):Bool->List Ty->Str
 |_,[]=>[]
 |b,t::r=>((if b then [40] else [44])++zgQ w t)++zdD w false r
def zcw (w:List Data) (c:Ctor):Str:=
 let o:=c.name++zdD w true c.args
 let p:=if 0<c.args.length then o++[41] else o
 if 0<c.index then (p++[58])++decV c.index else p
def zca (w:List Data):Bool->List Ctor->Str
 |_,[]=>[]
 |b,c::r=>((if b then [] else [124])++zcw w c)++zca w false r
def ziS (w:List Data):Bool->List Data->Str
 |_,[]=>[]
 |b,d::r=>((if b then [] else [59])++(d.name++[61])++zca w true d.ctors)++ziS w false r
def zfA (w:List Data):Str:=ziS w true w
structure TB (w:List Data):Prop where
 len:w.length<=4
 dn:∀d∈w,d.name.length<=1/\d.ctors.length<=4
 cn:∀d∈w,∀c∈d.ctors,c.name.length<=5/\c.args.length<=3/\0<=c.index/\c.index<=3
 ar:∀d∈w,∀c∈d.ctors,∀t∈c.args,(t.data = -1\/(0<=t.data/\t.data.toNat<w.length))/\ -1<=t.index/\t.index<=3
theorem zwT {w:List Data} (hv:za3 w=true):TB w:=by
 have hW:=(zcd w).1 hv;refine⟨hW.len,fun d hd=>?_,fun d hd c hc=>?_,fun d hd c hc t ht=>?_⟩
 ·have h:=hW.data d hd;have h1:=h.1;simp only[zbs,xad,decide_eq_true_eq] at h1;omega
 ·have h:=hW.ctor d hd c hc;simp only[zbF,zdt,zao,xad,decide_eq_true_eq] at h;omega
 ·have h:=hW.ctor d hd c hc;simp only[zbF,xad,Bool.not_eq_true',List.any_eq_false] at h;have hax:zbR w.length t=true:=by
   have:=h.2.2.2 t ht;cases h:zbR w.length t with
   |true=>rfl
   |false=>rw[h] at this;exact absurd rfl this
  simp only[zbR,zao,Bool.or_eq_true,xad,decide_eq_true_eq,and_true] at hax;omega
theorem zhm {w:List Data} (hb:TB w){t:Ty} (ht:t.data = -1\/(0<=t.data/\t.data.toNat<w.length)):(zgQ w t).length<=2:=by
 unfold zgQ;split
 ·simp
 ·rename_i h;have h1:=(hb.dn _ (zac (l:=w) (i:=t.data.toNat) (by omega))).1;have h2:=zns t.index;simp only[xaa];omega
theorem zhB {w:List Data} (hb:TB w):∀(l:List Ty) (b:Bool),(∀t∈l,t.data = -1\/(0<=t.data/\t.data.toNat<w.length))->(zdD w b l).length<=3*l.length
 | [],_,_=>by simp[zdD]
 |t::r,b,h=>by
  have h1:=zhm hb (h t (by simp));have h2:=zhB hb r false (fun x hx=>h x (by simp[hx]));simp only[zdD,xaa,xab];have h3:(if b=true then [(40:UInt8)] else [44]).length=1:=by split<;>rfl
  omega
theorem zrd {w:List Data} (hb:TB w){c:Ctor} (h1:c.name.length<=5/\c.args.length<=3) (h2:∀t∈c.args,t.data = -1\/(0<=t.data/\t.data.toNat<w.length)):(zcw w c).length<=20:=by
 have h3:=zhB hb c.args true h2;unfold zcw;dsimp only;have h4:=zl9 c.index;split<;>split<;>simp only[xaa,xab,xai]<;>omega
theorem zlL {w:List Data}:∀(l:List Ctor) (b:Bool),(∀c∈l,(zcw w c).length<=20)->(zca w b l).length<=21*l.length
 | [],_,_=>by simp[zca]
 |c::r,b,h=>by
  have h1:=h c (by simp);have h2:=zlL r false (fun x hx=>h x (by simp[hx]));simp only[zca,xaa,xab];have h3:(if b=true then ([]:Str) else [124]).length<=1:=by split<;>simp
  omega
theorem zgk {n:Int} (h0:0<=n) (h9:n<=9):FnD Tryz.prog 215 [.d (.i n)] [] (.d (.str (decV n))) []:=by
 refine bd Tryz.f215 31 [30] [] fun w0 F0 own kept hk=>?_;refine sq ?_ ?_<;>intro h1 h1p h1s<;>(try simp only[Q] at h1p);exfalso;omega;refine sq ?_ ?_<;>intro h2 h2p h2s<;>(try simp only[Q] at h2p);exfalso;omega;refine xak (ι:=Unit) hk (fun x=>[(0,.d (.i n)),(3,.d (.str []))]) [12,13,14,15,16,17,18,19,20,21,22,23] (fun x=>[]) (fun x=>True) (fun x=>0) () trivial ⟨⟨_,rfl,xaq ?_⟩,⟨⟨_,rfl,xar ?_⟩,trivial⟩⟩ trivial (fun x=>rfl) (fun x hg1=>?_);iterate 2 focus (first|rfl|omega)
 refine evc [30] [] ?_;refine sq ?_ ?_<;>intro h3 h3p h3s<;>(try simp only[Q] at h3p);exfalso;omega;refine ar ?_;refine xaM (by rw[un3];rfl) un5 .none rfl rfl ?_;refine si [0] [_] sl22 tz5 ?_;refine Walk.bytesStr sl22 un9 (by kernel_rfl) .none rfl rfl rfl (by first|rfl|exact zpW _) ?_;refine evs [30] [] ?_;refine xaK .none rfl rfl rfl (by simp[strN]) ?_;refine evs [30] [] ?_;refine rq ?_;rotate_left;all_goals (rfl)
theorem zn7 {n:Int} (h0 : -1<=n) (h9:n<=9):FnD Tryz.prog 228 [.d (.i n)] [] (.d (.str (zkD n))) []:=by
 refine bd Tryz.f228 10 [] [] fun w0 F0 own kept hk=>?_;refine sq ?_ ?_<;>intro h1 h1p h1s<;>(try simp only[Q] at h1p);refine rq ?_;rotate_left;refine sq ?_ ?_<;>intro h2 h2p h2s<;>(try simp only[Q] at h2p);refine rq ?_;rotate_left;refine wc zq7 (zgk (by omega) (by omega)) rfl rfl ?_;refine ev ?_;refine rq ?_;rotate_left;all_goals (refine congrArg D.str ?_;unfold zkD;first|(rw[if_pos (by omega)];done)|(rw[if_neg (by omega),if_pos (by omega)];done)|(rw[if_neg (by omega),if_neg (by omega)];done)|(rw[if_pos (by omega)];rfl))
theorem zi6 {w:List Data} (hb:TB w){a k:Int} (ha:a = -1\/(0<=a/\a.toNat<w.length)) (hk : -1<=k/\k<=3):FnD Tryz.prog 214 [.d (zal w),.agg [.d (.i a),.d (.i k)]] [] (.d (.str (zgQ w ⟨a,k⟩))) []:=by
 have hl:=zns k;have hdn:a≠ -1->(nth w a.toNat).name.length<=1:=fun h=>(hb.dn _ (zac (l:=w) (i:=a.toNat) (by omega))).1;refine bd Tryz.f214 18 [17] [] fun w0 F0 own kept hk=>?_;refine bx 3003 ?_;refine evs [17] [] ?_;refine sq ?_ ?_<;>intro h1 h1p h1s<;>(try simp only[Q] at h1p);refine rq ?_;rotate_left;refine xaV (i:=a.toNat) sl23 .none rfl rfl rfl (by omega) (zar (by omega)) rfl ?_;refine evd [17] [] ?_;refine wc zy6 (zn7 (by omega) (by omega)) rfl rfl ?_;refine xaK .none rfl rfl rfl (by have:=hdn h1p;omega) ?_;refine evd [17] [] ?_;refine dr ?_;refine rq ?_;rotate_left;all_goals (refine congrArg D.str ?_;unfold zgQ;first|(rw[if_pos (by assumption)];done)|(rw[if_neg (by assumption)];done))
theorem zdy {w:List Data} (hb:TB w){s:Str}{l:List Ty}{k:Int} (hs:s.length<=5) (hl:l.length<=3) (hk:0<=k/\k<=3)
  (hl2:∀t∈l,(t.data = -1\/(0<=t.data/\t.data.toNat<w.length))/\ -1<=t.index/\t.index<=3):
  FnD Tryz.prog 177 [.d (zal w),.agg [.d (.str s),.d (zct l),.d (.i k)]] [] (.d (.str (zcw w ⟨s,l,k⟩))) []:=by
 have hall:=zhB hb l true (fun t ht=>(hl2 t ht).1);have hdl:=zl9 k;refine bd Tryz.f177 47 [19,21,30,36,41,45] [] fun w0 F0 own kept hk=>?_;refine bx 3003 ?_;refine evs [19,21,30,36,41,45] [] ?_;refine xak (ι:=List (Ty)×List (Ty)×(Str)) hk (fun x=>[(6,.d (.i (x.1.length:Int))),(5,.d (.str x.2.2))]) [9,10,11,12,13,14,15,16,17,18,19,20,21,22,23,24,25,26,27,28,29,30] (fun x=>[]) (fun x=>x.1++x.2.1=l/\x.2.2.length<=5+3*x.1.length/\x.2.2++zdD w (decide (x.1.length=0)) x.2.1=s++zdD w true l) (fun x=>x.2.1.length) ([],l,s) ⟨by simp,by simp;omega,by simp⟩ ⟨⟨_,rfl,xaq ?_⟩,⟨⟨_,rfl,xar ?_⟩,trivial⟩⟩ trivial (fun x=>rfl) (fun x hg1=>?_);iterate 2 focus (first|rfl|(dsimp only;rw[if_pos (by omega),List.append_assoc];done))
 obtain⟨pre,rest,o⟩:=x;dsimp only at hg1 ⊢;refine evc [19,21,30,36,41,45] [] ?_;refine sq ?_ ?_<;>intro h1 h1p h1s<;>(try simp only[Q] at h1p);rcases rest with _|⟨y,rest⟩
 ·exfalso;simp_all
 have hq:(zgQ w ⟨y.data,y.index⟩).length<=2:=zhm hb (hl2 y (by rw[<-hg1.1];simp)).1;refine sq ?_ ?_<;>intro h2 h2p h2s<;>(try simp only[Q] at h2p);refine xaK .none rfl rfl rfl (by have hz:=congrArg List.length hg1.1;simp only[xaa,xab,xai] at hz ⊢;omega) ?_;refine evs [19,21,30,36,41,45] [] ?_;refine xaV zaW .none rfl rfl rfl rfl (zaI hg1.1) rfl ?_;refine evs [19,21,30,36,41,45] [] ?_;refine wc zuI (zi6 hb (a:=y.data) (k:=y.index) (hl2 y (by rw[<-hg1.1];simp)).1 (hl2 y (by rw[<-hg1.1];simp)).2) rfl rfl ?_;refine xaK .none rfl rfl rfl (by have hz:=congrArg List.length hg1.1;simp only[xaa,xab,xai] at hz ⊢;omega) ?_;refine evs [19,21,30,36,41,45] [] ?_;refine ar ?_;refine xah ((pre++[y],rest,o++((if pre.length=0 then [40] else [44])++zgQ w y))) ⟨⟨(by have hz:=hg1.1;rw[<-hz];simp),⟨(by have hq:=zhm hb (hl2 y (by rw[<-hg1.1];simp)).1;have h3:(if pre.length=0 then [(40:UInt8)] else [44]).length=1:=(by split<;>rfl);simp only[xaa,xab,xai];omega),(by rw[<-hg1.2.2];simp[zdD])⟩⟩,(by simp),sx ⟨⟨_,rfl,xaq ?_⟩,⟨⟨_,rfl,xar ?_⟩,trivial⟩⟩ trivial⟩;iterate 2 focus (first|(simp;done)|(dsimp only;rw[if_pos (by omega),List.append_assoc];done))
 refine xaK .none rfl rfl rfl (by have hz:=congrArg List.length hg1.1;simp only[xaa,xab,xai] at hz ⊢;omega) ?_;refine evs [19,21,30,36,41,45] [] ?_;refine xaV zaW .none rfl rfl rfl rfl (zaI hg1.1) rfl ?_;refine evs [19,21,30,36,41,45] [] ?_;refine wc zuI (zi6 hb (a:=y.data) (k:=y.index) (hl2 y (by rw[<-hg1.1];simp)).1 (hl2 y (by rw[<-hg1.1];simp)).2) rfl rfl ?_;refine xaK .none rfl rfl rfl (by have hz:=congrArg List.length hg1.1;simp only[xaa,xab,xai] at hz ⊢;omega) ?_;refine evs [19,21,30,36,41,45] [] ?_;refine ar ?_;refine xah ((pre++[y],rest,o++((if pre.length=0 then [40] else [44])++zgQ w y))) ⟨⟨(by have hz:=hg1.1;rw[<-hz];simp),⟨(by have hq:=zhm hb (hl2 y (by rw[<-hg1.1];simp)).1;have h3:(if pre.length=0 then [(40:UInt8)] else [44]).length=1:=(by split<;>rfl);simp only[xaa,xab,xai];omega),(by rw[<-hg1.2.2];simp[zdD])⟩⟩,(by simp),sx ⟨⟨_,rfl,xaq ?_⟩,⟨⟨_,rfl,xar ?_⟩,trivial⟩⟩ trivial⟩;iterate 2 focus (first|(simp;done)|(dsimp only;rw[if_pos (by omega),List.append_assoc];done)|(dsimp only;rw[if_neg (by omega),List.append_assoc];done))
 have hrest:rest=[]:=by
  rcases rest with _|⟨a,b⟩
  ·rfl
  ·exfalso;have hz:=congrArg List.length (hg1.1);simp only[xaa,xab,xac] at hz;omega
 subst hrest;refine sq ?_ ?_<;>intro h3 h3p h3s<;>(try simp only[Q] at h3p);refine xaK .none rfl rfl rfl (by have hz:=congrArg List.length hg1.1;simp only[xaa,xab,xai] at hz ⊢;omega) ?_;refine evs [19,21,30,36,41,45] [] ?_;refine sq ?_ ?_<;>intro h4 h4p h4s<;>(try simp only[Q] at h4p);refine xaK .none rfl rfl rfl (by have hz:=congrArg List.length hg1.1;simp only[xaa,xab,xai] at hz ⊢;omega) ?_;refine evs [19,21,30,36,41,45] [] ?_;refine wc zq7 (zgk (by omega) (by omega)) rfl rfl ?_;refine xaK .none rfl rfl rfl (by have hz:=congrArg List.length hg1.1;simp only[xaa,xab,xai] at hz ⊢;omega) ?_;refine evs [19,21,30,36,41,45] [] ?_;refine rq ?_;rotate_left;refine rq ?_;rotate_left;refine sq ?_ ?_<;>intro h5 h5p h5s<;>(try simp only[Q] at h5p);refine xaK .none rfl rfl rfl (by have hz:=congrArg List.length hg1.1;simp only[xaa,xab,xai] at hz ⊢;omega) ?_;refine evs [19,21,30,36,41,45] [] ?_;refine wc zq7 (zgk (by omega) (by omega)) rfl rfl ?_;refine xaK .none rfl rfl rfl (by have hz:=congrArg List.length hg1.1;simp only[xaa,xab,xai] at hz ⊢;omega) ?_;refine evs [19,21,30,36,41,45] [] ?_;refine rq ?_;rotate_left;refine rq ?_;rotate_left;all_goals (refine congrArg D.str ?_;have hfin:=hg1.2.2;simp only[zdD,List.append_nil] at hfin;unfold zcw;dsimp only;rw[<-hfin];first|(rw[if_pos (by omega),if_pos (by simp at *;omega)];done)|(rw[if_pos (by omega),if_neg (by simp at *;omega)];done)|(rw[if_neg (by omega),if_pos (by simp at *;omega)];done)|(rw[if_neg (by omega),if_neg (by simp at *;omega)];done))
theorem zo8 {w:List Data} (hb:TB w):FnD Tryz.prog 123 [.d (zal w)] [] (.d (.str (zfA w))) []:=by
 have hwl:=hb.len;have hct:∀d∈w,∀c∈d.ctors,(zcw w c).length<=20:=fun d hd c hc=>zrd hb ⟨(hb.cn d hd c hc).1,(hb.cn d hd c hc).2.1⟩ (fun t ht=>(hb.ar d hd c hc t ht).1);refine bd Tryz.f123 51 [15,22,23,37,49] [] fun w0 F0 own kept hk=>?_;refine xak (ι:=List (Data)×List (Data)×(Str)) hk (fun x=>[(4,.d (.i (x.1.length:Int))),(3,.d (.str x.2.2))]) [5,6,7,8,9,10,11,12,13,14,15,16,17,18,19,20,21,22,23,24,25,26,27,28,29,30,31,32,33,34,35,36,37,38,39,40,41,42,43,44,45,46,47,48,49] (fun x=>[]) (fun x=>x.1++x.2.1=w/\x.2.2.length<=100*x.1.length/\x.2.2++ziS w (decide (x.1.length=0)) x.2.1=zfA w) (fun x=>x.2.1.length) ([],w,[]) ⟨by simp,by simp,by simp[zfA]⟩ ⟨⟨_,rfl,xaq ?_⟩,⟨⟨_,rfl,xar ?_⟩,trivial⟩⟩ trivial (fun x=>rfl) (fun x hg1=>?_);iterate 2 focus (first|rfl|(rw[hfin];simp;done))
 obtain⟨pre,rest,o⟩:=x;dsimp only at hg1 ⊢;refine evc [15,22,23,37,49] [] ?_;refine sq ?_ ?_<;>intro h1 h1p h1s<;>(try simp only[Q] at h1p);rcases rest with _|⟨y,rest⟩
 ·exfalso;simp_all
 have hym:y∈w:=(by rw[<-hg1.1];simp);have hyd:=hb.dn y hym;have hpl:pre.length<4:=(by omega);have hcl:=zlL (w:=w) y.ctors true (hct y hym);refine sq ?_ ?_<;>intro h2 h2p h2s<;>(try simp only[Q] at h2p);refine xaK .none rfl rfl rfl (by(try simp only[xaa,xab,xai]);omega) ?_;refine evs [15,22,23,37,49] [] ?_;refine xaV sl23 .none rfl rfl rfl rfl (zaI hg1.1) rfl ?_;refine evs [15,22,23,37,49] [] ?_;refine xaK .none rfl rfl rfl (by(try simp only[xaa,xab,xai]);omega) ?_;refine xaK .none rfl rfl rfl (by(try simp only[xaa,xab,xai]);omega) ?_;refine evs [15,22,23,37,49] [] ?_;refine xak (ι:=List (Ctor)×List (Ctor)×(Str)) hk (fun x=>[(5,.d (.i (x.1.length:Int))),(3,.d (.str x.2.2))]) [24,25,26,27,28,29,30,31,32,33,34,35,36,37,38,39,40,41,42,43,44,45,46,47,48,49] (fun x=>[]) (fun x=>x.1++x.2.1=y.ctors/\x.2.2.length<=100*pre.length+4+21*x.1.length/\x.2.2++zca w (decide (x.1.length=0)) x.2.1=(o++((if pre.length=0 then [] else [59])++(y.name++[61])))++zca w true y.ctors) (fun x=>x.2.1.length) ([],y.ctors,o++((if pre.length=0 then [] else [59])++(y.name++[61]))) ⟨by simp,(by have h3:(if pre.length=0 then ([]:Str) else [59]).length<=1:=(by split<;>simp);simp only[xaa,xab,xai];omega),by simp⟩ ⟨⟨_,rfl,xaq ?_⟩,⟨⟨_,rfl,xar ?_⟩,trivial⟩⟩ trivial (fun x=>rfl) (fun x hg2=>?_);iterate 2 focus (first|rfl|(rw[if_neg (by omega)];simp;done))
 obtain⟨pre2,rest2,q⟩:=x;dsimp only at hg2 ⊢;refine evc [15,22,23,37,49] [] ?_;refine xaV sl23 .none rfl rfl rfl rfl (zaI hg1.1) rfl ?_;refine evs [15,22,23,37,49] [] ?_;refine sq ?_ ?_<;>intro h3 h3p h3s<;>(try simp only[Q] at h3p);rcases rest2 with _|⟨c,rest2⟩
 ·exfalso;simp_all
 have hcm:=hct y hym c (by rw[<-hg2.1];simp);have hce:(zcw w ⟨c.name,c.args,c.index⟩).length<=20:=hcm;have hp2:=congrArg List.length hg2.1;simp only[xaa,xab] at hp2;refine sq ?_ ?_<;>intro h4 h4p h4s<;>(try simp only[Q] at h4p);refine xaK .none rfl rfl rfl (by(try simp only[xaa,xab,xai]);omega) ?_;refine evs [15,22,23,37,49] [] ?_;refine xaV sl23 .none rfl rfl rfl rfl (zaI hg1.1) rfl ?_;refine evs [15,22,23,37,49] [] ?_;refine xaV zcO .none rfl rfl rfl rfl (zaI hg2.1) rfl ?_;refine evs [15,22,23,37,49] [] ?_;refine wc zmW (zdy hb (s:=c.name) (l:=c.args) (k:=c.index) (hb.cn y hym c (by rw[<-hg2.1];simp)).1 (hb.cn y hym c (by rw[<-hg2.1];simp)).2.1 (hb.cn y hym c (by rw[<-hg2.1];simp)).2.2 (hb.ar y hym c (by rw[<-hg2.1];simp))) rfl rfl ?_;refine xaK .none rfl rfl rfl (by(try simp only[xaa,xab,xai]);omega) ?_;refine evs [15,22,23,37,49] [] ?_;refine ar ?_;refine xah ((pre2++[c],rest2,q++((if pre2.length=0 then [] else [124])++zcw w c))) ⟨⟨(by have hz:=hg2.1;rw[<-hz];simp),⟨(by have h3:(if pre2.length=0 then ([]:Str) else [124]).length<=1:=(by split<;>simp);simp only[xaa,xab,xai];omega),(by rw[<-hg2.2.2];simp[zca])⟩⟩,(by simp),sx ⟨⟨_,rfl,xaq ?_⟩,⟨⟨_,rfl,xar ?_⟩,trivial⟩⟩ trivial⟩;iterate 2 focus (first|rfl|(rw[if_neg (by omega)];simp;done))
 refine xaV sl23 .none rfl rfl rfl rfl (zaI hg1.1) rfl ?_;refine evs [15,22,23,37,49] [] ?_;refine xaV zcO .none rfl rfl rfl rfl (zaI hg2.1) rfl ?_;refine evs [15,22,23,37,49] [] ?_;refine wc zmW (zdy hb (s:=c.name) (l:=c.args) (k:=c.index) (hb.cn y hym c (by rw[<-hg2.1];simp)).1 (hb.cn y hym c (by rw[<-hg2.1];simp)).2.1 (hb.cn y hym c (by rw[<-hg2.1];simp)).2.2 (hb.ar y hym c (by rw[<-hg2.1];simp))) rfl rfl ?_;refine xaK .none rfl rfl rfl (by(try simp only[xaa,xab,xai]);omega) ?_;refine evs [15,22,23,37,49] [] ?_;refine ar ?_;refine xah ((pre2++[c],rest2,q++((if pre2.length=0 then [] else [124])++zcw w c))) ⟨⟨(by have hz:=hg2.1;rw[<-hz];simp),⟨(by have h3:(if pre2.length=0 then ([]:Str) else [124]).length<=1:=(by split<;>simp);simp only[xaa,xab,xai];omega),(by rw[<-hg2.2.2];simp[zca])⟩⟩,(by simp),sx ⟨⟨_,rfl,xaq ?_⟩,⟨⟨_,rfl,xar ?_⟩,trivial⟩⟩ trivial⟩;iterate 2 focus (first|rfl|(rw[if_neg (by omega)];simp;done)|(rw[if_pos (by omega)];simp;done))
 have hrest2:rest2=[]:=by
  rcases rest2 with _|⟨a,b⟩
  ·rfl
  ·exfalso;have hz:=congrArg List.length (hg2.1);simp only[xaa,xab,xac] at hz;omega
 subst hrest2;refine ar ?_;have hfin:=hg2.2.2;simp only[zca,List.append_nil] at hfin;refine xah ((pre++[y],rest,o++((if pre.length=0 then [] else [59])++(y.name++[61])++zca w true y.ctors))) ⟨⟨(by have hz:=hg1.1;rw[<-hz];simp),⟨(by have h3:(if pre.length=0 then ([]:Str) else [59]).length<=1:=(by split<;>simp);simp only[xaa,xab,xai];omega),(by rw[<-hg1.2.2];simp[ziS])⟩⟩,(by simp),sx ⟨⟨_,rfl,xaq ?_⟩,⟨⟨_,rfl,xar ?_⟩,trivial⟩⟩ trivial⟩;iterate 2 focus (first|rfl|(simp;done)|(rw[hfin];simp;done))
 refine xaV sl23 .none rfl rfl rfl rfl (zaI hg1.1) rfl ?_;refine evs [15,22,23,37,49] [] ?_;refine xaK .none rfl rfl rfl (by(try simp only[xaa,xab,xai]);omega) ?_;refine xaK .none rfl rfl rfl (by(try simp only[xaa,xab,xai]);omega) ?_;refine evs [15,22,23,37,49] [] ?_;refine xak (ι:=List (Ctor)×List (Ctor)×(Str)) hk (fun x=>[(5,.d (.i (x.1.length:Int))),(3,.d (.str x.2.2))]) [24,25,26,27,28,29,30,31,32,33,34,35,36,37,38,39,40,41,42,43,44,45,46,47,48,49] (fun x=>[]) (fun x=>x.1++x.2.1=y.ctors/\x.2.2.length<=100*pre.length+4+21*x.1.length/\x.2.2++zca w (decide (x.1.length=0)) x.2.1=(o++((if pre.length=0 then [] else [59])++(y.name++[61])))++zca w true y.ctors) (fun x=>x.2.1.length) ([],y.ctors,o++((if pre.length=0 then [] else [59])++(y.name++[61]))) ⟨by simp,(by have h3:(if pre.length=0 then ([]:Str) else [59]).length<=1:=(by split<;>simp);simp only[xaa,xab,xai];omega),by simp⟩ ⟨⟨_,rfl,xaq ?_⟩,⟨⟨_,rfl,xar ?_⟩,trivial⟩⟩ trivial (fun x=>rfl) (fun x hg2=>?_);iterate 2 focus (first|rfl|(rw[if_neg (by omega)];simp;done)|(rw[if_pos (by omega)];simp;done))
 obtain⟨pre2,rest2,q⟩:=x;dsimp only at hg2 ⊢;refine evc [15,22,23,37,49] [] ?_;refine xaV sl23 .none rfl rfl rfl rfl (zaI hg1.1) rfl ?_;refine evs [15,22,23,37,49] [] ?_;refine sq ?_ ?_<;>intro h5 h5p h5s<;>(try simp only[Q] at h5p);rcases rest2 with _|⟨c,rest2⟩
 ·exfalso;simp_all
 have hcm:=hct y hym c (by rw[<-hg2.1];simp);have hce:(zcw w ⟨c.name,c.args,c.index⟩).length<=20:=hcm;have hp2:=congrArg List.length hg2.1;simp only[xaa,xab] at hp2;refine sq ?_ ?_<;>intro h6 h6p h6s<;>(try simp only[Q] at h6p);refine xaK .none rfl rfl rfl (by(try simp only[xaa,xab,xai]);omega) ?_;refine evs [15,22,23,37,49] [] ?_;refine xaV sl23 .none rfl rfl rfl rfl (zaI hg1.1) rfl ?_;refine evs [15,22,23,37,49] [] ?_;refine xaV zcO .none rfl rfl rfl rfl (zaI hg2.1) rfl ?_;refine evs [15,22,23,37,49] [] ?_;refine wc zmW (zdy hb (s:=c.name) (l:=c.args) (k:=c.index) (hb.cn y hym c (by rw[<-hg2.1];simp)).1 (hb.cn y hym c (by rw[<-hg2.1];simp)).2.1 (hb.cn y hym c (by rw[<-hg2.1];simp)).2.2 (hb.ar y hym c (by rw[<-hg2.1];simp))) rfl rfl ?_;refine xaK .none rfl rfl rfl (by(try simp only[xaa,xab,xai]);omega) ?_;refine evs [15,22,23,37,49] [] ?_;refine ar ?_;refine xah ((pre2++[c],rest2,q++((if pre2.length=0 then [] else [124])++zcw w c))) ⟨⟨(by have hz:=hg2.1;rw[<-hz];simp),⟨(by have h3:(if pre2.length=0 then ([]:Str) else [124]).length<=1:=(by split<;>simp);simp only[xaa,xab,xai];omega),(by rw[<-hg2.2.2];simp[zca])⟩⟩,(by simp),sx ⟨⟨_,rfl,xaq ?_⟩,⟨⟨_,rfl,xar ?_⟩,trivial⟩⟩ trivial⟩;iterate 2 focus (first|rfl|(rw[if_neg (by omega)];simp;done))
 refine xaV sl23 .none rfl rfl rfl rfl (zaI hg1.1) rfl ?_;refine evs [15,22,23,37,49] [] ?_;refine xaV zcO .none rfl rfl rfl rfl (zaI hg2.1) rfl ?_;refine evs [15,22,23,37,49] [] ?_;refine wc zmW (zdy hb (s:=c.name) (l:=c.args) (k:=c.index) (hb.cn y hym c (by rw[<-hg2.1];simp)).1 (hb.cn y hym c (by rw[<-hg2.1];simp)).2.1 (hb.cn y hym c (by rw[<-hg2.1];simp)).2.2 (hb.ar y hym c (by rw[<-hg2.1];simp))) rfl rfl ?_;refine xaK .none rfl rfl rfl (by(try simp only[xaa,xab,xai]);omega) ?_;refine evs [15,22,23,37,49] [] ?_;refine ar ?_;refine xah ((pre2++[c],rest2,q++((if pre2.length=0 then [] else [124])++zcw w c))) ⟨⟨(by have hz:=hg2.1;rw[<-hz];simp),⟨(by have h3:(if pre2.length=0 then ([]:Str) else [124]).length<=1:=(by split<;>simp);simp only[xaa,xab,xai];omega),(by rw[<-hg2.2.2];simp[zca])⟩⟩,(by simp),sx ⟨⟨_,rfl,xaq ?_⟩,⟨⟨_,rfl,xar ?_⟩,trivial⟩⟩ trivial⟩;iterate 2 focus (first|rfl|(rw[if_neg (by omega)];simp;done)|(rw[if_pos (by omega)];simp;done))
 have hrest2:rest2=[]:=by
  rcases rest2 with _|⟨a,b⟩
  ·rfl
  ·exfalso;have hz:=congrArg List.length (hg2.1);simp only[xaa,xab,xac] at hz;omega
 subst hrest2;refine ar ?_;have hfin:=hg2.2.2;simp only[zca,List.append_nil] at hfin;refine xah ((pre++[y],rest,o++((if pre.length=0 then [] else [59])++(y.name++[61])++zca w true y.ctors))) ⟨⟨(by have hz:=hg1.1;rw[<-hz];simp),⟨(by have h3:(if pre.length=0 then ([]:Str) else [59]).length<=1:=(by split<;>simp);simp only[xaa,xab,xai];omega),(by rw[<-hg1.2.2];simp[ziS])⟩⟩,(by simp),sx ⟨⟨_,rfl,xaq ?_⟩,⟨⟨_,rfl,xar ?_⟩,trivial⟩⟩ trivial⟩;iterate 2 focus (first|rfl|(simp;done)|(rw[hfin];simp;done))
 have hrest:rest=[]:=by
  rcases rest with _|⟨a,b⟩
  ·rfl
  ·exfalso;have hz:=congrArg List.length (hg1.1);simp only[xaa,xab,xac] at hz;omega
 subst hrest;refine rq ?_;rotate_left;all_goals (refine congrArg D.str ?_;have hfin:=hg1.2.2;simp only[ziS,List.append_nil] at hfin;exact hfin)
def pwL (s:Str):List Str:=cutL 59 [] s
def pwP (s:Str) (i:Nat):List Str:=cutL 61 [] (nth (pwL s) i)
def pwC (s:Str) (i:Nat):List Str:=cutL 124 [] (nth (pwP s i) 1)
def zbD (s:Str):Nat:=if s=[] then 0 else min (pwL s).length 5
def zcM (s:Str) (n:Nat):List Str:=(List.range n).map fun i=>nth (pwP s i) 0
def zkR (s:Str) (i:Nat):Data:=⟨nth (pwP s i) 0,((pwC s i).take 5).map (zcI (zcM s (zbD s)))⟩
def zcY (s:Str) (n:Nat):List Data:=(List.range n).map (zkR s)
def zhU (s:Str):Bool:=(List.range (zbD s)).all (fun i=>decide ((pwP s i).length=2))&&(za3 (zcY s (zbD s))&&decide (zfA (zcY s (zbD s))=s))
def zdv (s:Str):List Data×Bool:=if zhU s then (zcY s (zbD s),true) else ([],false)
theorem zrV (s:Str):zbD s<=(pwL s).length/\zbD s<=5:=by unfold zbD;split<;>omega
theorem zeB {s:Str}{i:Nat}:i<zbD s↔(i<(pwL s).length/\i<=4)/\s≠[]:=by
 unfold zbD;split
 ·rename_i h;simp[h]
 ·rename_i h;simp only[h,ne_eq,not_false_eq_true,and_true];omega
theorem za1 (s:Str) (n:Nat):(zcM s n).length=n:=by simp[zcM]
theorem zrW (s:Str) (n:Nat):zcM s (n+1)=zcM s n++[nth (pwP s n) 0]:=by unfold zcM;rw[List.range_succ,xaf];rfl
theorem znU (s:Str) (n:Nat):zcY s (n+1)=zcY s n++[zkR s n]:=by unfold zcY;rw[List.range_succ,xaf];rfl
theorem zxZ {s:Str}{n m:Nat} (h:m<n):((zcM s n).map fun n=>[D.str n])[m]?=some [D.str (nth (pwP s m) 0)]:=by
 simp[zcM,h]
theorem ztj {s:Str}{i:Nat} (h:i<(pwL s).length):(nth (pwL s) i).length<=s.length:=zet h
theorem zlr {s:Str}{i j:Nat} (h:i<(pwL s).length) (hj:j<(pwP s i).length):(nth (pwP s i) j).length<=s.length:=Nat.le_trans (zet hj) (ztj h)
theorem zx5 {s:Str}{i k:Nat} (h:k<(pwC s i).length):(nth (pwC s i) k).length<=(nth (pwP s i) 1).length:=zet h
theorem zvI {α:Type}{l:List α}{i:Nat} (h:i=5\/(i<=5/\l.length<=i)):l.take i=l.take 5:=by
 rcases h with rfl|⟨h1,h2⟩
 ·rfl
 ·rw[List.take_of_length_le h2,List.take_of_length_le (by omega)]
theorem ztX {c:UInt8}{s:Str}:(nth (cutL c [] s) 0).length<=s.length:=zet (zji c s [])
theorem zrO {names:List Str}{s:Str}:(zcI names s).name.length<=s.length/\(zcI names s).args.length<=4:=by
 have key:∀(ix:Int) (t:Str),(zhF names ix t).name.length<=t.length/\(zhF names ix t).args.length<=4:=by
  intro ix t;refine⟨ztX, ?_⟩;unfold zhF;dsimp only;split
  ·simp
  ·simp only[xac,List.length_take];omega
 unfold zcI;split
 ·have:=key (((nth s (s.length-1)).toNat:Int)-48) (s.take (s.length-2));rw[List.length_take] at this;omega
 ·exact key 0 s
theorem zvo {s:Str} (hs:s.length<=1000000) (h2:∀j,j<zbD s->(pwP s j).length=2):WSmall (zcY s (zbD s)):=by
 have hl:=zrV s;have hd:∀d∈zcY s (zbD s),∃i,i<zbD s/\d=zkR s i:=fun d hd=>by
  obtain⟨i,hi,rfl⟩:=List.mem_map.1 hd;exact⟨i,List.mem_range.1 hi,rfl⟩
 refine⟨by simp only[zcY,xac,List.length_range];omega,fun d hd'=>?_,fun d hd' c hc=>?_⟩
 ·obtain⟨i,hi,rfl⟩:=hd d hd';have:=zlr (s:=s) (i:=i) (j:=0) (by omega) (by rw[h2 i hi];omega);refine⟨?_, ?_⟩
  ·show(nth (pwP s i) 0).length<=_;omega
  ·simp only[zkR,xac,List.length_take];omega
 ·obtain⟨i,hi,rfl⟩:=hd d hd';obtain⟨t,ht,rfl⟩:=List.mem_map.1 hc;have h3:=zlr (s:=s) (i:=i) (j:=1) (by omega) (by rw[h2 i hi];omega);have h4:t.length<=(nth (pwP s i) 1).length:=by simpa using zjh 124 (nth (pwP s i) 1) [] t (List.mem_of_mem_take ht)
  have h5:=zrO (names:=zcM s (zbD s)) (s:=t);omega
theorem zzR {s:Str} (hs:s.length<=1000000):FnD Tryz.prog 120 [.d (.str s),.d (.int .u8 59)] [] (.d (zfp (pwL s))) []:=zcA (s:=s) (c:=59) (by omega)
theorem zxe {s:Str}{i:Nat} (hs:s.length<=1000000) (h:i<(pwL s).length):FnD Tryz.prog 120 [.d (.str (nth (pwL s) i)),.d (.int .u8 61)] [] (.d (zfp (pwP s i))) []:=zcA (s:=nth (pwL s) i) (c:=61) (by have:=ztj h;omega)
theorem zzQ {s:Str}{i:Nat} (hs:s.length<=1000000) (h:i<(pwL s).length) (h2:(pwP s i).length=2):FnD Tryz.prog 120 [.d (.str (nth (pwP s i) 1)),.d (.int .u8 124)] [] (.d (zfp (pwC s i))) []:=
 zcA (s:=nth (pwP s i) 1) (c:=124) (by have:=zlr (j:=1) h (by omega);omega)
theorem zlE {w:List Data} (hs:WSmall w):FnD Tryz.prog 122 [.d (zal w)] [] (.d (.bool (za3 w))) []:=by
 rw[<-zg5];exact zgM hs
theorem zs9 {s:Str} (h:zhU s=false):zdv s=([],false):=by unfold zdv;rw[if_neg (by rw[h];simp)]
theorem zwd {s:Str} (h:zhU s=true):zdv s=(zcY s (zbD s),true):=by unfold zdv;rw[if_pos h]
theorem zwc {s:Str}{i:Nat} (h:i<zbD s) (h2:¬(pwP s i).length=2):zhU s=false:=by
 unfold zhU;rw[zdo h (by simpa using h2),Bool.false_and]
theorem zpD {s:Str} (h:∀j,j<zbD s->(pwP s j).length=2):zhU s=(za3 (zcY s (zbD s))&&decide (zfA (zcY s (zbD s))=s)):=by
 unfold zhU;rw[zdN (fun i hi=>by simpa using h i hi),Bool.true_and]
theorem zk7 {s:Str} (hs:s.length<=100000):FnD Tryz.prog 70 [.d (.str s)] [] (.tup [.d (zal (zdv s).1),.d (.bool (zdv s).2)]) []:=by
 have hl:=zrV s;have hcl:(pwL s).length<=s.length+1:=zes 59 s [];have hccl:∀i,(pwC s i).length<=(nth (pwP s i) 1).length+1:=fun i=>zes 124 _ [];have hnl:=za1 s;refine bd Tryz.f70 101 [] [5,17,21] fun w0 F0 own kept hk=>?_;refine xbi 1 sl23 .none rfl rfl ?_;refine ev ?_;refine xbi 2 sl99 .none rfl rfl ?_;refine ev ?_;refine wc zgA (zzR (s:=s) (by omega)) rfl rfl ?_;refine ev ?_;refine xak (ι:=Nat) hk (fun i=>[(7,.d (.i (i:Int))),(5,.gl 2 ((zcM s i).map fun n=>[D.str n]))]) [2,3,8,17,18,19,20,21,22,23,24,25,26,27,28,29,30,31,32,33,34,35,36,37,38,39,40,41,42,43,44,45] (fun i=>[(2,some (.tok (((zcM s i).map fun n=>[D.str n])).length 1))]) (fun i=>i<=zbD s/\∀j,j<i->(pwP s j).length=2) (fun i=>zbD s-i) 0 ⟨by omega,fun j h=>absurd h (by omega)⟩ ⟨⟨_,rfl,xaq ?_⟩,⟨⟨_,rfl,LeA.glg ?_⟩,trivial⟩⟩ ⟨zab ?_,trivial⟩ (fun x=>rfl) (fun i hg1=>?_);iterate 3 focus (rfl)
 refine evc [] [5,17,21] ?_;refine xal ?_;refine xaB 12 [(28,.d (.bool (decide (i<zbD s))))] [17,18,19,20,21,22,23,24,25,26,27] ?_ ?_;refine ev ?_;refine sq ?_ ?_<;>intro h1 h1p h1s<;>(try simp only[Q,za1] at h1p);refine sq ?_ ?_<;>intro h2 h2p h2s<;>(try simp only[Q,za1] at h2p);focus (exact jn rfl (xap (by(rw[Bool.eq_iff_iff];simp_all[zeB];omega))))
 focus (exact jn rfl (xap (by(rw[Bool.eq_iff_iff];simp_all[zeB];omega))))
 refine sqF ?_;focus (exact jn rfl (xap (by(rw[Bool.eq_iff_iff];simp_all[zeB];omega))))
 refine xaA ?_;refine tv ?_;refine sq ?_ ?_<;>intro h3 h3p h3s<;>(try simp only[Q,za1] at h3p);refine xaV sl99 .none rfl rfl rfl rfl (zar (by omega)) rfl ?_;refine ev ?_;refine wc zgA (zxe (s:=s) (i:=i) (by omega) (by omega)) rfl rfl ?_;refine ev ?_;refine sq ?_ ?_<;>intro h4 h4p h4s<;>(try simp only[Q,za1] at h4p);refine xbh sl23 .none rfl ?_;refine ev ?_;refine rn0 (r2 rfl rfl) (.tup (.cons (.eqd ?_) (.cons (.eqd ?_) .nil)));rotate_left 2;refine xaV (i:=0) sl99 .none rfl rfl rfl rfl (zar (by omega)) rfl ?_;refine ev ?_;refine si [0] [_] sl99 tz9 ?_;refine ap sl99 zz9 rfl rfl rfl (by simp) (by simp[za1,zcY];omega) ?_;refine ev ?_;refine ar ?_;refine xah (i+1) ⟨⟨by omega,zba hg1.2 (by omega)⟩,(by omega),sx ⟨⟨_,rfl,xaq ?_⟩,⟨⟨_,rfl,LeA.glg ?_⟩,trivial⟩⟩ ⟨zab ?_,trivial⟩⟩;iterate 3 focus (first|rfl|(rw[zrW];simp;done))
 obtain rfl:i=zbD s:=(by omega);refine xak (ι:=Nat) hk (fun m=>[(9,.d (.i (m:Int))),(4,.gl 1 ((zcY s m).map Data.c))]) [10,11,12,46,47,48,49,50,51,52,53,54,55,56,57,58,59,60,61,62,63,64,65,66,67,68,69,70,71,72,73,74,75,76,77,78,79,80,81,82,83,84,85,86,87,88,89] (fun m=>[(1,some (.tok (((zcY s m).map Data.c)).length 2))]) (fun m=>m<=zbD s) (fun m=>zbD s-m) 0 (by omega) ⟨⟨_,rfl,xaq ?_⟩,⟨⟨_,rfl,LeA.glg ?_⟩,trivial⟩⟩ ⟨zab ?_,trivial⟩ (fun x=>rfl) (fun m hg2=>?_);iterate 3 focus (rfl)
 refine evc [] [5,17,21] ?_;refine sq ?_ ?_<;>intro h5 h5p h5s<;>(try simp only[Q,za1] at h5p);refine xaV sl99 .none rfl rfl rfl rfl (zar (by omega)) rfl ?_;refine ev ?_;refine wc zgA (zxe (s:=s) (i:=m) (by omega) (by omega)) rfl rfl ?_;refine xaV (i:=1) sl99 .none rfl rfl rfl rfl (zar (by(rw[hg1.2 m (by omega)];omega))) rfl ?_;refine ev ?_;refine wc zgA (zzQ (s:=s) (i:=m) (by omega) (by omega) (hg1.2 m (by omega))) rfl rfl ?_;refine ev ?_;refine xaY sl99 .none rfl rfl rfl rfl (zxZ (by omega)) rfl ?_;refine ev ?_;refine bu [0] [_] zzZ ?_;refine ab 3011 zud ?_;refine so zxu ?_;refine tv ?_;refine xan 3011 1 3 3 rfl rfl rfl rfl ?_;refine xak (ι:=Nat) hk (fun k=>[(12,.d (.i (k:Int)))]) [65,66,67,68,69,70,71,72,73,74,75,76,77,78,79,80,81,82,83,84,85] (fun k=>[(3011,some (.box [.d (.str (nth (pwP s m) 0)),.gl 3 ((((pwC s m).map (zcI (zcM s (zbD s)))).take k).map Ctor.c)])),(3,some (.tok ((((pwC s m).map (zcI (zcM s (zbD s)))).take k).map Ctor.c).length 3))]) (fun k=>k<=5/\k<=(pwC s m).length) (fun k=>5-k) 0 ⟨by omega,by omega⟩ ⟨⟨_,rfl,xaq ?_⟩,trivial⟩ ⟨?_,⟨zab ?_,trivial⟩⟩ (fun x=>rfl) (fun k hg3=>?_);focus (rfl)
 focus (rfl)
 focus (rfl)
 refine evc [] [5,17,21] ?_;refine xal ?_;refine xaB 8 [(72,.d (.bool (decide (k<(pwC s m).length/\k<=4))))] [65,66,67,68,69,70,71] ?_ ?_;refine ev ?_;refine sq ?_ ?_<;>intro h6 h6p h6s<;>(try simp only[Q,za1] at h6p);focus (exact jn rfl (xap (by(rw[Bool.eq_iff_iff];simp_all[zeB];omega))))
 focus (exact jn rfl (xap (by(rw[Bool.eq_iff_iff];simp_all[zeB];omega))))
 refine xaA ?_;refine tv ?_;refine sq ?_ ?_<;>intro h7 h7p h7s<;>(try simp only[Q,za1] at h7p);refine xaV sl99 .none rfl rfl rfl rfl (zar (by omega)) rfl ?_;refine evd [] [] ?_;refine Walk.call (cr:=[]) zyv (zj8 (names:=zcM s (zbD s)) (s:=nth (pwC s m) k) (by rw[hnl];omega) (by have h1:=zlr (s:=s) (i:=m) (j:=1) (by omega) (by rw[hg1.2 m (by omega)];omega);have h2:=zx5 (s:=s) (i:=m) (k:=k) (by omega);omega)) rfl .none rfl rfl (.cons (.gl _ _) (.cons (.refl _) .nil)) trivial rfl rfl rfl ?_;refine si [0] [_] zcO zho ?_;refine ap zcO zz6 rfl rfl rfl (by simp) (by simp[za1,zcY];omega) ?_;refine evd [] [] ?_;refine so zz1 ?_;refine dr ?_;refine ar ?_;refine xah (k+1) ⟨⟨by omega,by omega⟩,(by omega),sx ⟨⟨_,rfl,xaq ?_⟩,trivial⟩ ⟨?_,⟨zab ?_,trivial⟩⟩⟩;focus (rfl)
 focus ((show some (Res.box _)=some (Res.box _);rw[zgY (by omega)];simp;done))
 focus ((simp;omega))
 refine si [0] [_] sl23 zud ?_;refine ap sl23 zz5 rfl rfl rfl (by simp) (by simp[za1,zcY];omega) ?_;refine ev ?_;refine ar ?_;refine xah (m+1) ⟨(by omega),(by omega),sx ⟨⟨_,rfl,xaq ?_⟩,⟨⟨_,rfl,LeA.glg ?_⟩,trivial⟩⟩ ⟨zab ?_,trivial⟩⟩;iterate 3 focus (first|rfl|(rw[znU];simp;done)|(rw[znU,xaf];simp only[xae,List.map_nil,zkR,Data.c];rw[<-List.map_take,zvI (by omega)];done))
 obtain rfl:m=zbD s:=(by omega);refine xal ?_;refine xaB 9 [(98,.d (.bool (!(za3 (zcY s (zbD s))&&decide (zfA (zcY s (zbD s))=s)))))] [90,91,92,93,94,95,96,97] ?_ ?_;refine ev ?_;refine Walk.call (cr:=[]) zun (zlE (zvo (by omega) hg1.2)) rfl .none rfl rfl (.cons (.gl _ _) .nil) trivial rfl rfl rfl ?_;refine ev ?_;refine sq ?_ ?_<;>intro h8 h8p h8s<;>(try simp only[Q,za1] at h8p);focus (exact jn rfl (xap (by(rw[Bool.eq_iff_iff];simp_all[zeB];done))))
 refine Walk.call (cr:=[]) zyw (zo8 (zwT (by assumption))) rfl (.some rfl rfl h8) rfl rfl (.cons (.gl _ _) .nil) trivial rfl rfl rfl ?_;refine evs [] [(93,false)] ?_ ⟨⟨_,rfl,h8⟩,trivial⟩;focus (exact jn rfl (xap (by(rw[Bool.eq_iff_iff];simp_all[zeB];done))))
 refine xaA ?_;refine tv ?_;refine sq ?_ ?_<;>intro h9 h9p h9s<;>(try simp only[Q,za1] at h9p);refine xbh sl23 .none rfl ?_;refine ev ?_;refine rn0 (r2 rfl rfl) (.tup (.cons (.eqd ?_) (.cons (.eqd ?_) .nil)));rotate_left 2;refine rn0 (r2 rfl rfl) (.tup (.cons (.gld ?_) (.cons (.eqd ?_) .nil)));rotate_left 2;all_goals (first|(have hq:=zwc (s:=s) (i:=i) h3p (fun h=>h4p (by omega));rw[zs9 hq];all_goals rfl)|(have hr:=zpD hg1.2;rw[h9s] at hr;rw[zs9 hr];all_goals rfl)|(have hr:=zpD hg1.2;rw[h9s] at hr;rw[zwd hr];all_goals rfl))
def zdP:List Str:=[[76,61,78,105,108,124,67,111,110,115,40,73,44,76,41],
 [66,61,84,114,117,124,70,108,115,59,84,61,76,101,97,102,124,78,111,100,101,40,84,44,66,44,84,41],
 [69,61,78,117,109,40,73,41,58,49,124,66,111,108,40,66,41,58,50,124,65,100,100,40,69,49,44,69,49,41,58,49,124,73,102,40,69,50,44,69,42,44,69,42,41,59,66,61,84,114,117,124,70,108,115],
 [79,61,78,111,110,124,83,111,109,40,73,41,59,80,61,80,97,105,114,40,79,44,79,41],
 [86,61,69,110,100,58,49,124,83,111,109,101,40,73,44,86,49,41,58,50,124,84,119,111,40,86,42,41],
 [78,61,78,101,118,101,114,40,78,41,59,66,61,84,114,117,124,70,108,115,124,77,97,121,40,78,41],
 [83,61,82,101,100,124,71,114,101,101,110,124,66,108,117,101,124,77,105,120,40,83,44,83,41],
 []]
theorem zoo:zdP.length=8:=rfl
theorem zsf:∀t∈zdP,t.length<=100:=by decide
theorem zuc {i:Nat} (h:i<8):(nth zdP i).length<=100:=zsf _ (zac h)
def zbw (b:Str) (p:Nat):List Data:=(zdv (nth zdP (zan b p 7).toNat)).1
theorem zqH (b:Str) (p:Nat):(zan b p 7).toNat<7:=by have:=zcQ (b:=b) (p:=p) (n:=7) (by omega);omega
theorem zn8:FnD Tryz.prog 71 [] [] (.d (zfp zdP)) []:=by
 refine bd Tryz.f71 2 [] [] fun w0 F0 own kept hk=>?_;refine si [0,1,2,3,4,5,6,7] [_,_,_,_,_,_,_,_] sl99 tz9 ?_;refine ev ?_;refine rq ?_;rotate_left;all_goals (rfl)
theorem zoa {b:Str}{p:Nat} (hb:b.length<=2000) (hp:p<=1000000):
  FnD Tryz.prog 188 [.ref 900 0] [(900,some (rdB b p))] (.d (zal (zbw b p))) [(900,some (rdB b (p+1)))]:=by
 have h7:=zqH b p;have ht8:=zoo;have hv:=zcQ (b:=b) (p:=p) (n:=7) (by omega);have hts:=zuc (i:=(zan b p 7).toNat) (by omega);refine bd Tryz.f188 20 [] [] fun w0 F0 own kept hk=>?_;refine wc zzF (zn8) rfl rfl ?_;refine ev ?_;refine ar ?_;refine wd zce (zaU (n:=7) hb (by omega) (by omega)) rfl rfl ⟨rfl,trivial⟩ ?_;refine xaV (i:=(zan b p 7).toNat) sl99 .none rfl rfl rfl (by omega) (zar (by rw[zoo];omega)) rfl ?_;refine ev ?_;refine wc zzE (zk7 (s:=nth zdP (zan b p 7).toNat) (by omega)) rfl rfl ?_;refine ev ?_;refine rn [(900,some (rdB b (p+1)))] (r1 rfl) (.eqd ?_) ⟨rfl,rfl⟩ (SubO.get ⟨.inr ?_,⟨.inl rfl,trivial⟩⟩) (zay rfl);rotate_left 2;all_goals (first|((rfl);done)|(rfl))
def anyP:Pat:=⟨1,0,0,0,0,[]⟩
def dA (f:Ty->Nat->Pat×Nat):List Ty->Nat->List Pat×Nat
 | [],q=>([],q)
 |t::r,q=>((f t q).1::(dA f r (f t q).2).1,(dA f r (f t q).2).2)
def zaF (b:Str) (w:List Data):Nat->Ty->Nat->Pat×Nat
 |0,_,p=>(anyP,p)
 |d+1,t,p=>
  if d=0 then (anyP,p)
  else if zan b p 4=0 then (anyP,p+1)
  else if zan b (p+1) 6=0 then (⟨5,0,0,0,0,[(zaF b w d t (p+2)).1,(zaF b w d t (zaF b w d t (p+2)).2).1]⟩,(zaF b w d t (zaF b w d t (p+2)).2).2)
  else if t.data = -1 then (⟨3,0,zan b (p+2) 10,zan b (p+2) 10+zan b (p+3) (10-zan b (p+2) 10)*zan b (p+4) 2,0,[]⟩,p+5)
  else if (zah w t).length=0 then (anyP,p+2)
  else (⟨4,nth (zah w t) (zan b (p+2) (zah w t).length).toNat,0,0,0,(dA (zaF b w d) (zaa w t (nth (zah w t) (zan b (p+2) (zah w t).length).toNat)) (p+3)).1⟩,
   (dA (zaF b w d) (zaa w t (nth (zah w t) (zan b (p+2) (zah w t).length).toNat)) (p+3)).2)
def bdP:Nat->Nat
 |0=>0
 |d+1=>5+3*bdP d
def Few (w:List Data):Prop:=∀t c,c∈zah w t->TyIn w.length t->(zaa w t c).length<=3/\∀u∈zaa w t c,TyIn w.length u
theorem zxf {f:Ty->Nat->Pat×Nat}{k:Nat}:∀(l:List Ty) (q:Nat),(∀t∈l,∀q,(f t q).2<=q+k)->(dA f l q).2<=q+l.length*k
 | [],q,_=>by simp[dA]
 |t::r,q,h=>by
  have h1:=h t (by simp) q;have h2:=zxf r (f t q).2 (fun x hx=>h x (by simp[hx]));simp only[dA,xab,Nat.add_mul];omega
theorem zuW {f:Ty->Nat->Pat×Nat}:∀(l:List Ty) (q:Nat),(dA f l q).1.length=l.length
 | [],q=>rfl
 |t::r,q=>by simp only[dA,xab,zuW r]
theorem zjC {l:List Int}{b:Str}{p:Nat} (h:¬l.length=0):nth l (zan b p l.length).toNat∈l:=by
 have:=zcQ (b:=b) (p:=p) (n:=(l.length:Int)) (by omega);exact zac (by omega)
theorem zjj {b:Str}{w:List Data} (hf:Few w):∀(d:Nat) (t:Ty) (p:Nat),TyIn w.length t->(zaF b w d t p).2<=p+bdP d
 |0,t,p,_=>by simp[zaF,bdP]
 |d+1,t,p,ht=>by
  have ih:=fun t p ht=>zjj (b:=b) hf d t p ht;unfold zaF bdP;split
  ·dsimp only;omega
  ·split
   ·dsimp only;omega
   ·split
    ·dsimp only;have h1:=ih t (p+2) ht;have h2:=ih t (zaF b w d t (p+2)).2 ht;omega
    ·split
     ·dsimp only;omega
     ·split
      ·dsimp only;omega
      ·rename_i h5;dsimp only;have hm:=zjC (b:=b) (p:=p+2) h5;have h3:=hf t _ hm ht;have h1:=zxf (f:=zaF b w d) (k:=bdP d) (zaa w t (nth (zah w t) (zan b (p+2) (zah w t).length).toNat)) (p+3) (fun u hu q=>ih u q (h3.2 u hu));have h4:(zaa w t (nth (zah w t) (zan b (p+2) (zah w t).length).toNat)).length*bdP d<=3*bdP d:=Nat.mul_le_mul_right _ h3.1;omega
theorem zvQ {w:List Data} (hs:WSmall w) (hv:za3 w=true):Few w:=by
 have hw:=zh2 hs hv;have hW:=(zcd w).1 hv;rintro ⟨a,k⟩ c hc ht
 obtain⟨d,rfl,h1,j,rfl,h3⟩:=zcF ht hc;refine⟨?_,fun u hu=>zeo hw h1 ⟨j,rfl,h3⟩ hu⟩;have hco:=hW.ctor _ (zac h1) _ (zac h3);simp only[zbF,xad,decide_eq_true_eq] at hco;simp only[zaa,Int.toNat_natCast,xac];omega
theorem Pat.cs_cc (l:List Pat):Pat.cs l=l.map Pat.cc:=by
 rw[Pat.cs_eq];exact List.map_congr_left (fun v _=>Pat.c_eq v)
section
variable {b:Str}{w:List Data}{d p:Nat}{a k:Int}
theorem zsZ (h:d=0):zaF b w (d+1) ⟨a,k⟩ p=(anyP,p):=by simp only[zaF];rw[if_pos h]
theorem zs0 (h:¬d=0) (h2:zan b p 4=0):zaF b w (d+1) ⟨a,k⟩ p=(anyP,p+1):=by simp only[zaF];rw[if_neg h,if_pos h2]
theorem zs1 (h:¬d=0) (h2:¬zan b p 4=0) (h3:zan b (p+1) 6=0):zaF b w (d+1) ⟨a,k⟩ p =
  (⟨5,0,0,0,0,[(zaF b w d ⟨a,k⟩ (p+2)).1,(zaF b w d ⟨a,k⟩ (zaF b w d ⟨a,k⟩ (p+2)).2).1]⟩,(zaF b w d ⟨a,k⟩ (zaF b w d ⟨a,k⟩ (p+2)).2).2):=by
 simp only[zaF];rw[if_neg h,if_neg h2,if_pos h3]
theorem zs2 (h:¬d=0) (h2:¬zan b p 4=0) (h3:¬zan b (p+1) 6=0) (h4:a = -1):zaF b w (d+1) ⟨a,k⟩ p =
  (⟨3,0,zan b (p+2) 10,zan b (p+2) 10+zan b (p+3) (10-zan b (p+2) 10)*zan b (p+4) 2,0,[]⟩,p+5):=by
 simp only[zaF];rw[if_neg h,if_neg h2,if_neg h3,if_pos h4]
theorem zs3 (h:¬d=0) (h2:¬zan b p 4=0) (h3:¬zan b (p+1) 6=0) (h4:¬a = -1) (h5:(zah w ⟨a,k⟩).length=0):zaF b w (d+1) ⟨a,k⟩ p=(anyP,p+2):=by
 simp only[zaF];rw[if_neg h,if_neg h2,if_neg h3,if_neg h4,if_pos h5]
theorem zs4 (h:¬d=0) (h2:¬zan b p 4=0) (h3:¬zan b (p+1) 6=0) (h4:¬a = -1) (h5:¬(zah w ⟨a,k⟩).length=0){cc:Int} (hc:nth (zah w ⟨a,k⟩) (zan b (p+2) (zah w ⟨a,k⟩).length).toNat=cc):zaF b w (d+1) ⟨a,k⟩ p =
  (⟨4,cc,0,0,0,(dA (zaF b w d) (zaa w ⟨a,k⟩ cc) (p+3)).1⟩,(dA (zaF b w d) (zaa w ⟨a,k⟩ cc) (p+3)).2):=by
 simp only[zaF];rw[if_neg h,if_neg h2,if_neg h3,if_neg h4,if_neg h5,hc]
end
theorem zeU {b:Str}{w:List Data} (hb:b.length<=2000) (hw:WT w) (hf:Few w):∀(d:Nat){a k m:Int}{p:Nat},m=d->d<=4->1<=d->p+bdP d<=1000000->TyIn w.length ⟨a,k⟩->
  FnD Tryz.prog 125 [.ref 900 0,.d (zal w),.agg [.d (.i a),.d (.i k)],.d (.i m)] [(900,some (rdB b p))]
   (.agg [.d (.i (zaF b w d ⟨a,k⟩ p).1.op),.d (.i (zaF b w d ⟨a,k⟩ p).1.ctor),.d (.i (zaF b w d ⟨a,k⟩ p).1.n),.d (.i (zaF b w d ⟨a,k⟩ p).1.m),.d (.i (zaF b w d ⟨a,k⟩ p).1.var),.d (zae (zaF b w d ⟨a,k⟩ p).1.kids)]) [(900,some (rdB b (zaF b w d ⟨a,k⟩ p).2))]
 |0,a,k,m,p,_,_,h1,_,_=>by omega
 |d+1,a,k,m,p,hm,hd4,_,hp,ht=>by
  have hcl:=zhq hw ht;have hbd:bdP (d+1)=5+3*bdP d:=rfl;have ih:=fun(t:Ty) (q:Nat) (ht:TyIn w.length t)=>zjj (b:=b) hf d t q ht;have v10:=zcQ (b:=b) (p:=p+2) (n:=10) (by omega);have v11:=zcQ (b:=b) (p:=p+3) (n:=10-zan b (p+2) 10) (by omega);have v12:=zcQ (b:=b) (p:=p+4) (n:=2) (by omega);have v13:0<=zan b (p+3) (10-zan b (p+2) 10)*zan b (p+4) 2/\zan b (p+3) (10-zan b (p+2) 10)*zan b (p+4) 2<=10:=by
   have h:zan b (p+4) 2=0\/zan b (p+4) 2=1:=by omega
   rcases h with h|h<;>rw[h]<;>omega
  have hvl:((((zah w ⟨a,k⟩).map fun n=>[D.i n]).length:Nat):Int)=(zah w ⟨a,k⟩).length:=by simp
  have v14:=fun h=>zcQ (b:=b) (p:=p+2) (n:=((zah w ⟨a,k⟩).length:Int)) h;have hmem:=fun h=>zjC (l:=zah w ⟨a,k⟩) (b:=b) (p:=p+2) h;generalize hcc:nth (zah w ⟨a,k⟩) (zan b (p+2) (zah w ⟨a,k⟩).length).toNat=cc at *;have hfw:=fun h=>hf ⟨a,k⟩ cc (hmem h) ht;have hat:¬(zah w ⟨a,k⟩).length=0->((zah w ⟨a,k⟩).map fun n=>[D.i n])[(zan b (p+2) (zah w ⟨a,k⟩).length).toNat]?=some [D.i cc]:=fun h=>by
   rw[<-hcc];exact zar (by have:=v14 (by omega);omega)
  refine bd Tryz.f125 96 [] [] fun w0 F0 own kept hk=>?_;refine bx 3006 ?_;refine ab 3008 tz28 ?_;refine tv ?_;refine sq ?_ ?_<;>intro h1 h1p h1s<;>(try simp only[Q] at h1p);refine sqT ?_;refine bu [0] [_] st28 ?_;refine so ty28 ?_;refine tv ?_;refine rn [(900,some (rdB b (zaF b w (d+1) ⟨a,k⟩ p).2))] (.cons (.cellA ty28 rfl rfl rfl) .nil) (.agg (.cons (.eqd ?_) (.cons (.eqd ?_) (.cons (.eqd ?_) (.cons (.eqd ?_) (.cons (.eqd ?_) (.cons (.nild ?_) .nil))))))) ⟨rfl,rfl⟩ (SubO.get ⟨.inr ?_,⟨.inl rfl,trivial⟩⟩) (zay rfl);rotate_left 7;refine Walk.call (cr:=[]) zce (zaU (p:=p) (n:=4) hb (by omega) (by omega)) rfl (.some rfl rfl h1) rfl rfl (LeL.refl _) ⟨rfl,trivial⟩ rfl rfl rfl ?_;refine evs [] [(16,false)] ?_ ⟨⟨_,rfl,h1⟩,trivial⟩;refine sq ?_ ?_<;>intro h3 h3p h3s<;>(try simp only[Q] at h3p);refine bu [0] [_] st28 ?_;refine so ty28 ?_;refine tv ?_;refine rn [(900,some (rdB b (zaF b w (d+1) ⟨a,k⟩ p).2))] (.cons (.cellA ty28 rfl rfl rfl) .nil) (.agg (.cons (.eqd ?_) (.cons (.eqd ?_) (.cons (.eqd ?_) (.cons (.eqd ?_) (.cons (.eqd ?_) (.cons (.nild ?_) .nil))))))) ⟨rfl,rfl⟩ (SubO.get ⟨.inr ?_,⟨.inl rfl,trivial⟩⟩) (zay rfl);rotate_left 7;refine wd zce (zaU (p:=p+1) (n:=6) hb (by omega) (by omega)) rfl rfl ⟨rfl,trivial⟩ ?_;refine ev ?_;refine sq ?_ ?_<;>intro h4 h4p h4s<;>(try simp only[Q] at h4p);refine ar ?_;refine wd zmR (zeU hb hw hf d (p:=p+2) (by omega) (by omega) (by omega) (by omega) ht) rfl rfl ⟨rfl,trivial⟩ ?_;refine evd [] [] ?_;refine ar ?_;refine wd zmR (zeU hb hw hf d (p:=(zaF b w d ⟨a,k⟩ (p+2)).2) (by omega) (by omega) (by omega) (by have:=ih ⟨a,k⟩ (p+2) ht;omega) ht) rfl rfl ⟨rfl,trivial⟩ ?_;refine si [0,1] [_,_] sl26 tz28 ?_;refine bu [0,5] [_,_] st28 ?_;refine so ty28 ?_;refine dr ?_;refine rn [(900,some (rdB b (zaF b w (d+1) ⟨a,k⟩ p).2))] (.cons (.cellA ty28 rfl rfl rfl) .nil) (.agg (.cons (.eqd ?_) (.cons (.eqd ?_) (.cons (.eqd ?_) (.cons (.eqd ?_) (.cons (.eqd ?_) (.cons (.eqd ?_) .nil))))))) ⟨rfl,rfl⟩ (SubO.get ⟨.inr ?_,⟨.inl rfl,trivial⟩⟩) (zay rfl);rotate_left 7;refine sq ?_ ?_<;>intro h5 h5p h5s<;>(try simp only[Q] at h5p);refine wd zce (zaU (p:=p+2) (n:=10) hb (by omega) (by omega)) rfl rfl ⟨rfl,trivial⟩ ?_;refine ev ?_;refine ar ?_;refine wd zce (zaU (p:=p+3) (n:=10-zan b (p+2) 10) hb (by omega) (by omega)) rfl rfl ⟨rfl,trivial⟩ ?_;refine ev ?_;refine wd zce (zaU (p:=p+4) (n:=2) hb (by omega) (by omega)) rfl rfl ⟨rfl,trivial⟩ ?_;refine ev ?_;refine ar ?_;refine ar ?_;refine bu [0,2,3] [_,_,_] st28 ?_;refine so ty28 ?_;refine tv ?_;refine rn [(900,some (rdB b (zaF b w (d+1) ⟨a,k⟩ p).2))] (.cons (.cellA ty28 rfl rfl rfl) .nil) (.agg (.cons (.eqd ?_) (.cons (.eqd ?_) (.cons (.eqd ?_) (.cons (.eqd ?_) (.cons (.eqd ?_) (.cons (.nild ?_) .nil))))))) ⟨rfl,rfl⟩ (SubO.get ⟨.inr ?_,⟨.inl rfl,trivial⟩⟩) (zay rfl);rotate_left 7;refine wc zh8 (zcc hw ht) rfl rfl ?_;refine ev ?_;refine sq ?_ ?_<;>intro h6 h6p h6s<;>(try simp only[Q] at h6p);refine bu [0] [_] st28 ?_;refine so ty28 ?_;refine tv ?_;refine rn [(900,some (rdB b (zaF b w (d+1) ⟨a,k⟩ p).2))] (.cons (.cellA ty28 rfl rfl rfl) .nil) (.agg (.cons (.eqd ?_) (.cons (.eqd ?_) (.cons (.eqd ?_) (.cons (.eqd ?_) (.cons (.eqd ?_) (.cons (.nild ?_) .nil))))))) ⟨rfl,rfl⟩ (SubO.get ⟨.inr ?_,⟨.inl rfl,trivial⟩⟩) (zay rfl);rotate_left 7;refine wd zce (zaU (p:=p+2) (n:=((((zah w ⟨a,k⟩).map fun n=>[D.i n]).length:Nat):Int)) hb (by omega) (by omega)) rfl rfl ⟨rfl,trivial⟩ ?_;refine xaV (i:=(zan b (p+2) (zah w ⟨a,k⟩).length).toNat) sl62 .none rfl rfl rfl (by rw[hvl];have:=v14 (by omega);omega) (hat (by omega)) rfl ?_;refine ev ?_;refine bu [0,1] [_,_] st28 ?_;refine ab 3011 tz28 ?_;refine so ty28 ?_;refine tv ?_;refine wc zgB (zcr hw ht (hmem (by omega))) rfl rfl ?_;refine ev ?_;refine xan 3011 5 1 6 rfl rfl rfl rfl ?_;refine xak (ι:=List (Ty)×List (Ty)×(Nat)×(List Pat)) hk (fun x=>[(13,.d (.i (x.1.length:Int)))]) [75,76,77,78,79,80,81,82,83,84,85,86,87,88,89,90,91,92,93,94] (fun x=>[(900,some (.box [.d (zcx b),.d (.i (x.2.2.1:Int))])),(3011,some (.box [.d (.i 4),.d (.i cc),.d (.i 0),.d (.i 0),.d (.i 0),.gl 1 (x.2.2.2.map Pat.cc)])),(1,some (.tok (x.2.2.2.map Pat.cc).length 6))]) (fun x=>x.1++x.2.1=zaa w ⟨a,k⟩ cc/\x.2.2.1<=p+3+x.1.length*bdP d/\x.2.2.2.length=x.1.length/\(x.2.2.2++(dA (zaF b w d) x.2.1 x.2.2.1).1,(dA (zaF b w d) x.2.1 x.2.2.1).2)=dA (zaF b w d) (zaa w ⟨a,k⟩ cc) (p+3)) (fun x=>x.2.1.length) ([],zaa w ⟨a,k⟩ cc,p+3,[]) ⟨by simp,by simp,by simp,by simp⟩ ⟨⟨_,rfl,xaq ?_⟩,trivial⟩ ⟨?_,⟨?_,⟨zab ?_,trivial⟩⟩⟩ (fun x=>rfl) (fun x hg1=>?_);focus (rfl)
  iterate 2 focus (first|rfl|(simp[getH];done))
  focus (rfl)
  obtain⟨pre,rest,q,ks⟩:=x;dsimp only at hg1 ⊢;refine evc [] [] ?_;refine sq ?_ ?_<;>intro h7 h7p h7s<;>(try simp only[Q] at h7p);rcases rest with _|⟨y,rest⟩
  ·exfalso;simp_all
  have hpm:pre.length*bdP d<=2*bdP d:=Nat.mul_le_mul_right _ (by have:=(hfw (by omega)).1;omega);refine xaV zaW .none rfl rfl rfl rfl (zaI hg1.1) rfl ?_;refine evd [] [] ?_;refine ar ?_;refine wd zmR (zeU hb hw hf d (a:=y.data) (k:=y.index) (p:=q) (by omega) (by omega) (by omega) (by omega) ((hfw (by omega)).2 y (by rw[<-hg1.1];simp))) rfl rfl ⟨rfl,trivial⟩ ?_;refine si [0] [_] sl26 tz28 ?_;refine ap sl26 zz28 rfl rfl rfl (by simp) (by have hz:=congrArg List.length hg1.1;have:=(hfw (by omega)).1;simp at hz ⊢;omega) ?_;refine evd [] [] ?_;refine so ty26 ?_;refine dr ?_;refine ar ?_;refine xah ((pre++[y],rest,(zaF b w d y q).2,ks++[(zaF b w d y q).1])) ⟨⟨(by have hz:=hg1.1;rw[<-hz];simp),⟨(by have:=ih y q ((hfw (by omega)).2 y (by rw[<-hg1.1];simp));simp only[xaa,xab,xai,Nat.add_mul];omega),(by simp[hg1.2.2.1]),(by rw[<-hg1.2.2.2];simp[dA])⟩⟩,(by simp),sx ⟨⟨_,rfl,xaq ?_⟩,trivial⟩ ⟨?_,⟨?_,⟨zab ?_,trivial⟩⟩⟩⟩;focus ((simp;done))
  iterate 2 focus (first|rfl|(simp[getH];done))
  focus ((simp;done))
  have hrest:rest=[]:=by
   rcases rest with _|⟨a,b⟩
   ·rfl
   ·exfalso;have hz:=congrArg List.length (hg1.1);simp only[xaa,xab,xac] at hz;omega
  subst hrest;refine so ty28 ?_;refine tv ?_;refine rn [(900,some (rdB b (zaF b w (d+1) ⟨a,k⟩ p).2))] (.cons (.cellA ty28 rfl rfl rfl) .nil) (.agg (.cons (.eqd ?_) (.cons (.eqd ?_) (.cons (.eqd ?_) (.cons (.eqd ?_) (.cons (.eqd ?_) (.cons (.gld ?_) .nil))))))) ⟨rfl,rfl⟩ (SubO.get ⟨.inr ?_,⟨.inl rfl,trivial⟩⟩) (zay rfl);rotate_left 7;all_goals (((first|(rw[zsZ (by omega)];all_goals first|rfl|(show _=D.sl (Pat.cs _);rw[Pat.cs_cc];all_goals rfl)|(show _=Pat.cs _;rw[Pat.cs_cc];all_goals rfl))|(rw[zs0 (by omega) (by omega)];all_goals first|rfl|(show _=D.sl (Pat.cs _);rw[Pat.cs_cc];all_goals rfl)|(show _=Pat.cs _;rw[Pat.cs_cc];all_goals rfl))|(rw[zs1 (by omega) (by omega) (by omega)];all_goals first|rfl|(show _=D.sl (Pat.cs _);rw[Pat.cs_cc];all_goals rfl)|(show _=Pat.cs _;rw[Pat.cs_cc];all_goals rfl))|(rw[zs2 (by omega) (by omega) (by omega) (by omega)];all_goals first|rfl|(show _=D.sl (Pat.cs _);rw[Pat.cs_cc];all_goals rfl)|(show _=Pat.cs _;rw[Pat.cs_cc];all_goals rfl))|(rw[zs3 (by omega) (by omega) (by omega) (by omega) (by omega)];all_goals first|rfl|(show _=D.sl (Pat.cs _);rw[Pat.cs_cc];all_goals rfl)|(show _=Pat.cs _;rw[Pat.cs_cc];all_goals rfl))|(rw[zs4 (by omega) (by omega) (by omega) (by omega) (by omega) hcc];have hfin:=hg1.2.2.2;simp only[dA,List.append_nil] at hfin;rw[<-hfin];all_goals first|rfl|(show _=D.sl (Pat.cs _);rw[Pat.cs_cc];all_goals rfl)|(show _=Pat.cs _;rw[Pat.cs_cc];all_goals rfl)));done))
def namL (f:Pat->Int->Nat->Pat×Int×Nat):List Pat->Int->Nat->List Pat×Int×Nat
 | [],m,q=>([],m,q)
 |x::r,m,q=>((f x m q).1::(namL f r (f x m q).2.1 (f x m q).2.2).1,(namL f r (f x m q).2.1 (f x m q).2.2).2)
def namP (b:Str):Nat->Pat->Int->Nat->Pat×Int×Nat
 |0,p,m,q=>(p,m,q)
 |n+1,p,m,q=>
  if 5<m\/p.op=5\/p.op=3 then (p,m,q)
  else if p.op=1/\zan b q 2=0 then (⟨2,0,0,0,m,[]⟩,m+1,q+1)
  else if (namL (namP b n) p.kids m (if p.op=1 then q+1 else q)).2.1<=5 then
   (if zan b (namL (namP b n) p.kids m (if p.op=1 then q+1 else q)).2.2 6=0 then
    (⟨6,0,0,0,(namL (namP b n) p.kids m (if p.op=1 then q+1 else q)).2.1,[⟨p.op,p.ctor,p.n,p.m,p.var,(namL (namP b n) p.kids m (if p.op=1 then q+1 else q)).1⟩]⟩,
     (namL (namP b n) p.kids m (if p.op=1 then q+1 else q)).2.1+1,(namL (namP b n) p.kids m (if p.op=1 then q+1 else q)).2.2+1)
   else (⟨p.op,p.ctor,p.n,p.m,p.var,(namL (namP b n) p.kids m (if p.op=1 then q+1 else q)).1⟩,(namL (namP b n) p.kids m (if p.op=1 then q+1 else q)).2.1,(namL (namP b n) p.kids m (if p.op=1 then q+1 else q)).2.2+1))
  else (⟨p.op,p.ctor,p.n,p.m,p.var,(namL (namP b n) p.kids m (if p.op=1 then q+1 else q)).1⟩,(namL (namP b n) p.kids m (if p.op=1 then q+1 else q)).2.1,(namL (namP b n) p.kids m (if p.op=1 then q+1 else q)).2.2)
section
variable {b:Str}{n:Nat}{p:Pat}{m:Int}{q:Nat}{ks:List Pat}{zm:Int}{zq:Nat}
theorem znH (h:5<m\/p.op=5\/p.op=3):namP b (n+1) p m q=(p,m,q):=by simp only[namP];rw[if_pos h]
theorem znI (h:¬(5<m\/p.op=5\/p.op=3)) (h2:p.op=1/\zan b q 2=0):namP b (n+1) p m q=(⟨2,0,0,0,m,[]⟩,m+1,q+1):=by simp only[namP];rw[if_neg h,if_pos h2]
theorem znJ (h:¬(5<m\/p.op=5\/p.op=3)) (h2:¬(p.op=1/\zan b q 2=0)) (hz:(ks,zm,zq)=namL (namP b n) p.kids m (if p.op=1 then q+1 else q)) (h3:zm<=5) (h4:zan b zq 6=0):
  namP b (n+1) p m q=(⟨6,0,0,0,zm,[⟨p.op,p.ctor,p.n,p.m,p.var,ks⟩]⟩,zm+1,zq+1):=by
 simp only[namP];rw[if_neg h,if_neg h2,<-hz];dsimp only;rw[if_pos h3,if_pos h4]
theorem znK (h:¬(5<m\/p.op=5\/p.op=3)) (h2:¬(p.op=1/\zan b q 2=0)) (hz:(ks,zm,zq)=namL (namP b n) p.kids m (if p.op=1 then q+1 else q)) (h3:zm<=5) (h4:¬zan b zq 6=0):
  namP b (n+1) p m q=(⟨p.op,p.ctor,p.n,p.m,p.var,ks⟩,zm,zq+1):=by
 simp only[namP];rw[if_neg h,if_neg h2,<-hz];dsimp only;rw[if_pos h3,if_neg h4]
theorem znL (h:¬(5<m\/p.op=5\/p.op=3)) (h2:¬(p.op=1/\zan b q 2=0)) (hz:(ks,zm,zq)=namL (namP b n) p.kids m (if p.op=1 then q+1 else q)) (h3:¬zm<=5):
  namP b (n+1) p m q=(⟨p.op,p.ctor,p.n,p.m,p.var,ks⟩,zm,zq):=by
 simp only[namP];rw[if_neg h,if_neg h2,<-hz];dsimp only;rw[if_neg h3]
end
def NamOk (p:Pat) (m:Int) (q:Nat) (r:Pat×Int×Nat):Prop:=m<=r.2.1/\r.2.1<=6/\r.2.2<=q+2*p.size/\r.1.size<=2*p.size/\(p.ok->r.1.ok)
theorem zth {f:Pat->Int->Nat->Pat×Int×Nat}:∀(l:List Pat) (m:Int) (q:Nat),(∀x∈l,∀m q,0<=m->m<=6->NamOk x m q (f x m q))->0<=m->m<=6->
  m<=(namL f l m q).2.1/\(namL f l m q).2.1<=6/\(namL f l m q).2.2<=q+2*Pats.size l/\Pats.size (namL f l m q).1<=2*Pats.size l/\(namL f l m q).1.length=l.length/\(Pats.ok l->Pats.ok (namL f l m q).1)
 | [],m,q,_,_,h6=>by simp[namL,Pats.size,h6]
 |x::r,m,q,h,h0,h6=>by
  obtain⟨a1,a2,a3,a4,a5⟩:=h x (by simp) m q h0 h6;obtain⟨b1,b2,b3,b4,b5,b6⟩:=zth r (f x m q).2.1 (f x m q).2.2 (fun y hy=>h y (by simp[hy])) (by omega) a2;simp only[namL,Pats.size,xab];refine⟨by omega,by omega,by omega,by omega,by omega,fun ho=>?_⟩;exact⟨a5 ho.1,b6 ho.2⟩
theorem zi1 {b:Str}:∀(n:Nat) (p:Pat) (m:Int) (q:Nat),0<=m->m<=6->NamOk p m q (namP b n p m q)
 |0,p,m,q,h0,h6=>⟨by simp[namP],by simp[namP,h6],by simp[namP],by simp[namP];omega,fun h=>h⟩
 |n+1,p,m,q,h0,h6=>by
  have hs:=Pat.size_eq p;by_cases h:5<m\/p.op=5\/p.op=3
  ·rw[znH h];exact⟨Int.le_refl _,h6,by dsimp only;omega,by dsimp only;omega,fun h=>h⟩
  ·by_cases h2:p.op=1/\zan b q 2=0
   ·rw[znI h h2];refine⟨by dsimp only;omega,by dsimp only;omega,by dsimp only;omega, ?_,fun _=>?_⟩
    ·show(Pat.mk 2 0 0 0 m []).size<=_;rw[Pat.size_eq];simp only[Pat.kids,Pats.size];omega
    ·show(Pat.mk 2 0 0 0 m []).ok;rw[Pat.ok_iff];exact⟨by simp[Pat.kids],trivial⟩
   ·generalize hz:namL (namP b n) p.kids m (if p.op=1 then q+1 else q)=z;obtain⟨ks,zm,zq⟩:=z;have hq:(if p.op=1 then q+1 else q)<=q+1:=by split<;>omega
    obtain⟨b1,b2,b3,b4,b5,b6⟩:=zth (f:=namP b n) p.kids m (if p.op=1 then q+1 else q) (fun x _ m q h0 h6=>zi1 n x m q h0 h6) h0 h6;rw[hz] at b1 b2 b3 b4 b5 b6;dsimp only at b1 b2 b3 b4 b5 b6;have so:(Pat.mk p.op p.ctor p.n p.m p.var ks).size=1+Pats.size ks:=by rw[Pat.size_eq];rfl
    have ko:p.ok->(Pat.mk p.op p.ctor p.n p.m p.var ks).ok:=fun h=>by
     rw[Pat.ok_iff] at h ⊢;exact⟨by show ks.length<=_;rw[b5];exact h.1,b6 h.2⟩
    by_cases h3:zm<=5
    ·by_cases h4:zan b zq 6=0
     ·rw[znJ h h2 hz.symm h3 h4];refine⟨by dsimp only;omega,by dsimp only;omega,by dsimp only;omega, ?_,fun hk=>?_⟩
      ·dsimp only;rw[Pat.size_eq];simp only[Pat.kids,Pats.size];rw[so];omega
      ·dsimp only;rw[Pat.ok_iff];exact⟨by simp[Pat.kids],ko hk,trivial⟩
     ·rw[znK h h2 hz.symm h3 h4];exact⟨b1,b2,by dsimp only;omega,by dsimp only;rw[so];omega,ko⟩
    ·rw[znL h h2 hz.symm h3];exact⟨b1,b2,by dsimp only;omega,by dsimp only;rw[so];omega,ko⟩
theorem zms {f:Pat->Int->Nat->Pat×Int×Nat}{ks:List Pat}{zm:Int}{zq:Nat}{z:List Pat×Int×Nat} (h:(ks++(namL f [] zm zq).1,(namL f [] zm zq).2)=z):(ks,zm,zq)=z:=by
 rw[<-h];simp[namL]
theorem xav {l:List Pat}{y:Pat}:Pats.size (l++[y])=Pats.size l+y.size:=by
 have:=Pats.size_split (pre:=l) (rest:=[]) (y:=y) rfl;simpa [Pats.size] using this
theorem zgm {b:Str} (hb:b.length<=2000):∀(n:Nat){p:Pat}{m:Int}{q:Nat},p.size<=n->p.ok->0<=m->m<=6->q+2*p.size<=1000000->
  FnD Tryz.prog 124 [.ref 900 0,.agg [.d (.i p.op),.d (.i p.ctor),.d (.i p.n),.d (.i p.m),.d (.i p.var),.d (zae p.kids)],.d (.i m)] [(900,some (rdB b q))] (.tup [.agg [.d (.i (namP b n p m q).1.op),.d (.i (namP b n p m q).1.ctor),.d (.i (namP b n p m q).1.n),.d (.i (namP b n p m q).1.m),.d (.i (namP b n p m q).1.var),.d (zae (namP b n p m q).1.kids)],.d (.i (namP b n p m q).2.1)]) [(900,some (rdB b (namP b n p m q).2.2))]
 |0,p,m,q,h,_,_,_,_=>by rw[Pat.size_eq] at h;omega
 |n+1,p,m,q,kn,hok,k0,k6,hq=>by
  have hs:=Pat.size_eq p;have hok':=hok;rw[Pat.ok_iff] at hok';have ih:=fun(x:Pat) (m:Int) (q:Nat) (h0:0<=m) (h6:m<=6)=>zi1 (b:=b) n x m q h0 h6;have hysz:∀ {pre rest:List Pat}{y:Pat},pre++y::rest=p.kids->y.size+Pats.size pre+Pats.size rest=Pats.size p.kids:=fun h=>by have:=Pats.size_split h;omega
  have hq1:(if p.op=1 then q+1 else q)<=q+1:=by split<;>omega
  generalize hqq:(if p.op=1 then q+1 else q)=q1 at hq1;have hqa:p.op=1->q1=q+1:=fun h=>by rw[<-hqq,if_pos h]
  have hqb:¬p.op=1->q1=q:=fun h=>by rw[<-hqq,if_neg h]
  refine bd Tryz.f124 82 [] [] fun w0 F0 own kept hk=>?_;refine bx 3004 ?_;refine ab 3006 tz28 ?_;refine ev ?_;refine sq ?_ ?_<;>intro h1 h1p h1s<;>(try simp only[Q,Pat.cs_len] at h1p);refine sqT ?_;refine sqT ?_;refine so ty28 ?_;refine ev ?_;refine rn [(900,some (rdB b (namP b (n+1) p m q).2.2))] (.cons (.cellA ty28 rfl rfl rfl) (.cons (.tmp rfl) .nil)) (.tup (.cons (.agg (.cons (.eqd ?_) (.cons (.eqd ?_) (.cons (.eqd ?_) (.cons (.eqd ?_) (.cons (.eqd ?_) (.cons (.eqd ?_) .nil))))))) (.cons (.eqd ?_) .nil))) ⟨rfl,rfl⟩ (SubO.get ⟨.inr ?_,⟨.inl rfl,trivial⟩⟩) (zay rfl);rotate_left 8;refine sq ?_ ?_<;>intro h3 h3p h3s<;>(try simp only[Q,Pat.cs_len] at h3p);refine sqT ?_;refine so ty28 ?_;refine ev ?_;refine rn [(900,some (rdB b (namP b (n+1) p m q).2.2))] (.cons (.cellA ty28 rfl rfl rfl) (.cons (.tmp rfl) .nil)) (.tup (.cons (.agg (.cons (.eqd ?_) (.cons (.eqd ?_) (.cons (.eqd ?_) (.cons (.eqd ?_) (.cons (.eqd ?_) (.cons (.eqd ?_) .nil))))))) (.cons (.eqd ?_) .nil))) ⟨rfl,rfl⟩ (SubO.get ⟨.inr ?_,⟨.inl rfl,trivial⟩⟩) (zay rfl);rotate_left 8;refine sq ?_ ?_<;>intro h5 h5p h5s<;>(try simp only[Q,Pat.cs_len] at h5p);refine so ty28 ?_;refine ev ?_;refine rn [(900,some (rdB b (namP b (n+1) p m q).2.2))] (.cons (.cellA ty28 rfl rfl rfl) (.cons (.tmp rfl) .nil)) (.tup (.cons (.agg (.cons (.eqd ?_) (.cons (.eqd ?_) (.cons (.eqd ?_) (.cons (.eqd ?_) (.cons (.eqd ?_) (.cons (.eqd ?_) .nil))))))) (.cons (.eqd ?_) .nil))) ⟨rfl,rfl⟩ (SubO.get ⟨.inr ?_,⟨.inl rfl,trivial⟩⟩) (zay rfl);rotate_left 8;refine sq ?_ ?_<;>intro h6 h6p h6s<;>(try simp only[Q,Pat.cs_len] at h6p);refine Walk.call (cr:=[]) zce (zaU (p:=q) (n:=2) hb (by omega) (by omega)) rfl (.some rfl rfl h6) rfl rfl (LeL.refl _) ⟨rfl,trivial⟩ rfl rfl rfl ?_;refine evs [] [(30,true)] ?_ ⟨⟨_,rfl,h6⟩,trivial⟩;refine sq ?_ ?_<;>intro h7 h7p h7s<;>(try simp only[Q,Pat.cs_len] at h7p);refine bu [0,4] [_,_] st28 ?_;refine ev ?_;refine ar ?_;refine so ty28 ?_;refine ev ?_;refine rn [(900,some (rdB b (namP b (n+1) p m q).2.2))] (.cons (.cellA ty28 rfl rfl rfl) (.cons (.tmp rfl) .nil)) (.tup (.cons (.agg (.cons (.eqd ?_) (.cons (.eqd ?_) (.cons (.eqd ?_) (.cons (.eqd ?_) (.cons (.eqd ?_) (.cons (.nild ?_) .nil))))))) (.cons (.eqd ?_) .nil))) ⟨rfl,rfl⟩ (SubO.get ⟨.inr ?_,⟨.inl rfl,trivial⟩⟩) (zay rfl);rotate_left 8;refine ab 3008 tz28 ?_;refine so ty28 ?_;refine tv ?_;refine so ty26 ?_;refine tv ?_;refine xan 3008 5 1 6 rfl rfl rfl rfl ?_;refine xak (ι:=List (Pat)×List (Pat)×(Int)×(Nat)×(List Pat)) hk (fun x=>[(10,.d (.i (x.1.length:Int))),(9,.d (.i x.2.2.1))]) [11,12,42,43,44,45,46,47,48,49,50,51,52,53,54,55,56,57,58,59,60,61,62,63,64,65,66] (fun x=>[(900,some (.box [.d (zcx b),.d (.i (x.2.2.2.1:Int))])),(3008,some (.box [.d (.i p.op),.d (.i p.ctor),.d (.i p.n),.d (.i p.m),.d (.i p.var),.gl 1 (x.2.2.2.2.map Pat.cc)])),(1,some (.tok (x.2.2.2.2.map Pat.cc).length 6))]) (fun x=>x.1++x.2.1=p.kids/\0<=x.2.2.1/\x.2.2.1<=6/\x.2.2.2.1<=q1+2*Pats.size x.1/\x.2.2.2.2.length=x.1.length/\(x.2.2.2.2++(namL (namP b n) x.2.1 x.2.2.1 x.2.2.2.1).1,(namL (namP b n) x.2.1 x.2.2.1 x.2.2.2.1).2)=namL (namP b n) p.kids m q1) (fun x=>x.2.1.length) ([],p.kids,m,q1,[]) ⟨by simp,by simpa using k0,by simpa using k6,by simp[Pats.size],by simp,by simp⟩ ⟨⟨_,rfl,xaq ?_⟩,⟨⟨_,rfl,xaq ?_⟩,trivial⟩⟩ ⟨?_,⟨?_,⟨zab ?_,trivial⟩⟩⟩ (fun x=>rfl) (fun x hg1=>?_);iterate 2 focus ((simp;done))
  iterate 2 focus (first|(simp[getH];done)|(show some (Res.box _)=some (Res.box _);rw[hqa (by omega)];all_goals rfl))
  focus ((simp;done))
  obtain⟨pre,rest,zm,zq,ks⟩:=x;dsimp only at hg1 ⊢;refine evc [] [] ?_;refine sq ?_ ?_<;>intro h8 h8p h8s<;>(try simp only[Q,Pat.cs_len] at h8p);rcases rest with _|⟨y,rest⟩
  ·exfalso;simp_all
  have hni:=ih y zm zq hg1.2.1 hg1.2.2.1;have hn1:=hni.1;have hn2:=hni.2.1;have hn3:=hni.2.2.1;refine xaV sl26 .none rfl rfl rfl rfl (Pat.cs_at' hg1.1) rfl ?_;refine ev ?_;refine wd zqW (zgm hb n (p:=y) (m:=zm) (q:=zq) (by have:=hysz hg1.1;omega) (Pats.ok_mem hok'.2 y (by rw[<-hg1.1];simp)) (by omega) (by omega) (by have:=hysz hg1.1;omega)) rfl rfl ⟨rfl,trivial⟩ ?_;refine ev ?_;refine ab 3011 tz28 ?_;refine so ty28 ?_;refine ev ?_;refine si [0] [_] sl26 tz28 ?_;refine ap sl26 zz28 rfl rfl rfl (by simp) (by have hz:=congrArg List.length hg1.1;simp at hz ⊢;omega) ?_;refine ev ?_;refine so ty26 ?_;refine tv ?_;refine ar ?_;refine xah ((pre++[y],rest,(namP b n y zm zq).2.1,(namP b n y zm zq).2.2,ks++[(namP b n y zm zq).1])) ⟨⟨(by have hz:=hg1.1;rw[<-hz];simp),⟨by dsimp only;omega,by dsimp only;omega,(by rw[xav];dsimp only;omega),(by simp[hg1.2.2.2.2.1]),(by rw[<-hg1.2.2.2.2.2];simp[namL])⟩⟩,(by simp),sx ⟨⟨_,rfl,xaq ?_⟩,⟨⟨_,rfl,xaq ?_⟩,trivial⟩⟩ ⟨?_,⟨?_,⟨zab ?_,trivial⟩⟩⟩⟩;iterate 2 focus ((simp;done))
  iterate 2 focus (first|rfl|(simp[getH];done))
  focus ((simp;done))
  have hrest:rest=[]:=by
   rcases rest with _|⟨a,b⟩
   ·rfl
   ·exfalso;have hz:=congrArg List.length (hg1.1);simp only[xaa,xab,xac] at hz;omega
  subst hrest;refine sq ?_ ?_<;>intro h9 h9p h9s<;>(try simp only[Q,Pat.cs_len] at h9p);refine Walk.call (cr:=[]) zce (zaU (p:=zq) (n:=6) hb (by have e:=hg1.1;rw[List.append_nil] at e;rw[<-e] at hs;omega) (by omega)) rfl (.some rfl rfl h9) rfl rfl (LeL.refl _) ⟨rfl,trivial⟩ rfl rfl rfl ?_;refine evs [] [(69,true)] ?_ ⟨⟨_,rfl,h9⟩,trivial⟩;refine sq ?_ ?_<;>intro h10 h10p h10s<;>(try simp only[Q,Pat.cs_len] at h10p);refine si [0] [_] sl26 tz28 ?_;refine bu [0,4,5] [_,_,_] st28 ?_;refine ev ?_;refine ar ?_;refine so ty28 ?_;refine ev ?_;refine rn [(900,some (rdB b (namP b (n+1) p m q).2.2))] (.cons (.cellA ty28 rfl rfl rfl) (.cons (.tmp rfl) .nil)) (.tup (.cons (.agg (.cons (.eqd ?_) (.cons (.eqd ?_) (.cons (.eqd ?_) (.cons (.eqd ?_) (.cons (.eqd ?_) (.cons (.eqd ?_) .nil))))))) (.cons (.eqd ?_) .nil))) ⟨rfl,rfl⟩ (SubO.get ⟨.inr ?_,⟨.inl rfl,trivial⟩⟩) (zay rfl);rotate_left 8;refine so ty28 ?_;refine ev ?_;refine rn [(900,some (rdB b (namP b (n+1) p m q).2.2))] (.cons (.cellA ty28 rfl rfl rfl) (.cons (.tmp rfl) .nil)) (.tup (.cons (.agg (.cons (.eqd ?_) (.cons (.eqd ?_) (.cons (.eqd ?_) (.cons (.eqd ?_) (.cons (.eqd ?_) (.cons (.gld ?_) .nil))))))) (.cons (.eqd ?_) .nil))) ⟨rfl,rfl⟩ (SubO.get ⟨.inr ?_,⟨.inl rfl,trivial⟩⟩) (zay rfl);rotate_left 8;refine sqF ?_;refine so ty28 ?_;refine ev ?_;refine rn [(900,some (rdB b (namP b (n+1) p m q).2.2))] (.cons (.cellA ty28 rfl rfl rfl) (.cons (.tmp rfl) .nil)) (.tup (.cons (.agg (.cons (.eqd ?_) (.cons (.eqd ?_) (.cons (.eqd ?_) (.cons (.eqd ?_) (.cons (.eqd ?_) (.cons (.gld ?_) .nil))))))) (.cons (.eqd ?_) .nil))) ⟨rfl,rfl⟩ (SubO.get ⟨.inr ?_,⟨.inl rfl,trivial⟩⟩) (zay rfl);rotate_left 8;refine sqF ?_;refine ab 3008 tz28 ?_;refine so ty28 ?_;refine tv ?_;refine so ty26 ?_;refine tv ?_;refine xan 3008 5 1 6 rfl rfl rfl rfl ?_;refine xak (ι:=List (Pat)×List (Pat)×(Int)×(Nat)×(List Pat)) hk (fun x=>[(10,.d (.i (x.1.length:Int))),(9,.d (.i x.2.2.1))]) [11,12,42,43,44,45,46,47,48,49,50,51,52,53,54,55,56,57,58,59,60,61,62,63,64,65,66] (fun x=>[(900,some (.box [.d (zcx b),.d (.i (x.2.2.2.1:Int))])),(3008,some (.box [.d (.i p.op),.d (.i p.ctor),.d (.i p.n),.d (.i p.m),.d (.i p.var),.gl 1 (x.2.2.2.2.map Pat.cc)])),(1,some (.tok (x.2.2.2.2.map Pat.cc).length 6))]) (fun x=>x.1++x.2.1=p.kids/\0<=x.2.2.1/\x.2.2.1<=6/\x.2.2.2.1<=q1+2*Pats.size x.1/\x.2.2.2.2.length=x.1.length/\(x.2.2.2.2++(namL (namP b n) x.2.1 x.2.2.1 x.2.2.2.1).1,(namL (namP b n) x.2.1 x.2.2.1 x.2.2.2.1).2)=namL (namP b n) p.kids m q1) (fun x=>x.2.1.length) ([],p.kids,m,q1,[]) ⟨by simp,by simpa using k0,by simpa using k6,by simp[Pats.size],by simp,by simp⟩ ⟨⟨_,rfl,xaq ?_⟩,⟨⟨_,rfl,xaq ?_⟩,trivial⟩⟩ ⟨?_,⟨?_,⟨zab ?_,trivial⟩⟩⟩ (fun x=>rfl) (fun x hg1=>?_);iterate 2 focus ((simp;done))
  iterate 2 focus (first|(simp[getH];done)|(show some (Res.box _)=some (Res.box _);rw[hqb (by omega)];all_goals rfl))
  focus ((simp;done))
  obtain⟨pre,rest,zm,zq,ks⟩:=x;dsimp only at hg1 ⊢;refine evc [] [] ?_;refine sq ?_ ?_<;>intro h13 h13p h13s<;>(try simp only[Q,Pat.cs_len] at h13p);rcases rest with _|⟨y,rest⟩
  ·exfalso;simp_all
  have hni:=ih y zm zq hg1.2.1 hg1.2.2.1;have hn1:=hni.1;have hn2:=hni.2.1;have hn3:=hni.2.2.1;refine xaV sl26 .none rfl rfl rfl rfl (Pat.cs_at' hg1.1) rfl ?_;refine ev ?_;refine wd zqW (zgm hb n (p:=y) (m:=zm) (q:=zq) (by have:=hysz hg1.1;omega) (Pats.ok_mem hok'.2 y (by rw[<-hg1.1];simp)) (by omega) (by omega) (by have:=hysz hg1.1;omega)) rfl rfl ⟨rfl,trivial⟩ ?_;refine ev ?_;refine ab 3011 tz28 ?_;refine so ty28 ?_;refine ev ?_;refine si [0] [_] sl26 tz28 ?_;refine ap sl26 zz28 rfl rfl rfl (by simp) (by have hz:=congrArg List.length hg1.1;simp at hz ⊢;omega) ?_;refine ev ?_;refine so ty26 ?_;refine tv ?_;refine ar ?_;refine xah ((pre++[y],rest,(namP b n y zm zq).2.1,(namP b n y zm zq).2.2,ks++[(namP b n y zm zq).1])) ⟨⟨(by have hz:=hg1.1;rw[<-hz];simp),⟨by dsimp only;omega,by dsimp only;omega,(by rw[xav];dsimp only;omega),(by simp[hg1.2.2.2.2.1]),(by rw[<-hg1.2.2.2.2.2];simp[namL])⟩⟩,(by simp),sx ⟨⟨_,rfl,xaq ?_⟩,⟨⟨_,rfl,xaq ?_⟩,trivial⟩⟩ ⟨?_,⟨?_,⟨zab ?_,trivial⟩⟩⟩⟩;iterate 2 focus ((simp;done))
  iterate 2 focus (first|rfl|(simp[getH];done))
  focus ((simp;done))
  have hrest:rest=[]:=by
   rcases rest with _|⟨a,b⟩
   ·rfl
   ·exfalso;have hz:=congrArg List.length (hg1.1);simp only[xaa,xab,xac] at hz;omega
  subst hrest;refine sq ?_ ?_<;>intro h14 h14p h14s<;>(try simp only[Q,Pat.cs_len] at h14p);refine Walk.call (cr:=[]) zce (zaU (p:=zq) (n:=6) hb (by have e:=hg1.1;rw[List.append_nil] at e;rw[<-e] at hs;omega) (by omega)) rfl (.some rfl rfl h14) rfl rfl (LeL.refl _) ⟨rfl,trivial⟩ rfl rfl rfl ?_;refine evs [] [(69,true)] ?_ ⟨⟨_,rfl,h14⟩,trivial⟩;refine sq ?_ ?_<;>intro h15 h15p h15s<;>(try simp only[Q,Pat.cs_len] at h15p);refine si [0] [_] sl26 tz28 ?_;refine bu [0,4,5] [_,_,_] st28 ?_;refine ev ?_;refine ar ?_;refine so ty28 ?_;refine ev ?_;refine rn [(900,some (rdB b (namP b (n+1) p m q).2.2))] (.cons (.cellA ty28 rfl rfl rfl) (.cons (.tmp rfl) .nil)) (.tup (.cons (.agg (.cons (.eqd ?_) (.cons (.eqd ?_) (.cons (.eqd ?_) (.cons (.eqd ?_) (.cons (.eqd ?_) (.cons (.eqd ?_) .nil))))))) (.cons (.eqd ?_) .nil))) ⟨rfl,rfl⟩ (SubO.get ⟨.inr ?_,⟨.inl rfl,trivial⟩⟩) (zay rfl);rotate_left 8;refine so ty28 ?_;refine ev ?_;refine rn [(900,some (rdB b (namP b (n+1) p m q).2.2))] (.cons (.cellA ty28 rfl rfl rfl) (.cons (.tmp rfl) .nil)) (.tup (.cons (.agg (.cons (.eqd ?_) (.cons (.eqd ?_) (.cons (.eqd ?_) (.cons (.eqd ?_) (.cons (.eqd ?_) (.cons (.gld ?_) .nil))))))) (.cons (.eqd ?_) .nil))) ⟨rfl,rfl⟩ (SubO.get ⟨.inr ?_,⟨.inl rfl,trivial⟩⟩) (zay rfl);rotate_left 8;refine sqF ?_;refine so ty28 ?_;refine ev ?_;refine rn [(900,some (rdB b (namP b (n+1) p m q).2.2))] (.cons (.cellA ty28 rfl rfl rfl) (.cons (.tmp rfl) .nil)) (.tup (.cons (.agg (.cons (.eqd ?_) (.cons (.eqd ?_) (.cons (.eqd ?_) (.cons (.eqd ?_) (.cons (.eqd ?_) (.cons (.gld ?_) .nil))))))) (.cons (.eqd ?_) .nil))) ⟨rfl,rfl⟩ (SubO.get ⟨.inr ?_,⟨.inl rfl,trivial⟩⟩) (zay rfl);rotate_left 8;all_goals ((first|(rw[znH (by omega)];all_goals first|rfl|(show _=D.sl (Pat.cs _);rw[Pat.cs_cc];all_goals rfl)|(show _=Pat.cs _;rw[Pat.cs_cc];all_goals rfl)|(show _=D.sl [[D.i _,D.i _,D.i _,D.i _,D.i _,D.sl (Pat.cs _)]];rw[Pat.cs_cc];all_goals rfl))|(rw[znI (by omega) ⟨by omega,by omega⟩];all_goals first|rfl|(show _=D.sl (Pat.cs _);rw[Pat.cs_cc];all_goals rfl)|(show _=Pat.cs _;rw[Pat.cs_cc];all_goals rfl)|(show _=D.sl [[D.i _,D.i _,D.i _,D.i _,D.i _,D.sl (Pat.cs _)]];rw[Pat.cs_cc];all_goals rfl))|(have hz:(ks,zm,zq)=namL (namP b n) p.kids m (if p.op=1 then q+1 else q):=(by rw[hqq];exact zms hg1.2.2.2.2.2);rw[znJ (by omega) (fun hh=>by omega) hz (by omega) (by omega)];all_goals first|rfl|(show _=D.sl (Pat.cs _);rw[Pat.cs_cc];all_goals rfl)|(show _=Pat.cs _;rw[Pat.cs_cc];all_goals rfl)|(show _=D.sl [[D.i _,D.i _,D.i _,D.i _,D.i _,D.sl (Pat.cs _)]];rw[Pat.cs_cc];all_goals rfl))|(have hz:(ks,zm,zq)=namL (namP b n) p.kids m (if p.op=1 then q+1 else q):=(by rw[hqq];exact zms hg1.2.2.2.2.2);rw[znK (by omega) (fun hh=>by omega) hz (by omega) (by omega)];all_goals first|rfl|(show _=D.sl (Pat.cs _);rw[Pat.cs_cc];all_goals rfl)|(show _=Pat.cs _;rw[Pat.cs_cc];all_goals rfl)|(show _=D.sl [[D.i _,D.i _,D.i _,D.i _,D.i _,D.sl (Pat.cs _)]];rw[Pat.cs_cc];all_goals rfl))|(have hz:(ks,zm,zq)=namL (namP b n) p.kids m (if p.op=1 then q+1 else q):=(by rw[hqq];exact zms hg1.2.2.2.2.2);rw[znL (by omega) (fun hh=>by omega) hz (by omega)];all_goals first|rfl|(show _=D.sl (Pat.cs _);rw[Pat.cs_cc];all_goals rfl)|(show _=Pat.cs _;rw[Pat.cs_cc];all_goals rfl)|(show _=D.sl [[D.i _,D.i _,D.i _,D.i _,D.i _,D.sl (Pat.cs _)]];rw[Pat.cs_cc];all_goals rfl))))
def szP:Nat->Nat
 |0=>1
 |d+1=>1+3*szP d
theorem zx9 (d:Nat):1<=szP d:=by cases d<;>simp only[szP]<;>omega
theorem ziN:anyP.size=1/\anyP.ok:=⟨by rw[Pat.size_eq];rfl,by rw[Pat.ok_iff];exact⟨by simp[anyP,Pat.kids],trivial⟩⟩
theorem zxg {f:Ty->Nat->Pat×Nat}{k:Nat}:∀(l:List Ty) (q:Nat),(∀t∈l,∀q,(f t q).1.size<=k/\(f t q).1.ok)->Pats.size (dA f l q).1<=l.length*k/\Pats.ok (dA f l q).1
 | [],q,_=>by simp[dA,Pats.size,Pats.ok]
 |t::r,q,h=>by
  have h1:=h t (by simp) q;have h2:=zxg r (f t q).2 (fun x hx=>h x (by simp[hx]));simp only[dA,xab,Nat.add_mul,Pats.size];exact⟨by omega,h1.2,h2.2⟩
theorem zma {b:Str}{w:List Data} (hf:Few w):∀(d:Nat) (t:Ty) (p:Nat),TyIn w.length t->(zaF b w d t p).1.size<=szP d/\(zaF b w d t p).1.ok
 |0,t,p,_=>by simp only[zaF,szP];have:=ziN;exact⟨by omega,this.2⟩
 |d+1,⟨a,k⟩,p,ht=>by
  have ih:=fun t p ht=>zma (b:=b) hf d t p ht;have ha:=ziN;have hp:=zx9 d;simp only[szP];by_cases c1:d=0
  ·rw[zsZ c1];exact⟨by dsimp only;omega,ha.2⟩
  by_cases c2:zan b p 4=0
  ·rw[zs0 c1 c2];exact⟨by dsimp only;omega,ha.2⟩
  by_cases c3:zan b (p+1) 6=0
  ·rw[zs1 c1 c2 c3];have h1:=ih ⟨a,k⟩ (p+2) ht;have h2:=ih ⟨a,k⟩ (zaF b w d ⟨a,k⟩ (p+2)).2 ht;refine⟨?_, ?_⟩
   ·dsimp only;rw[Pat.size_eq];simp only[Pat.kids,Pats.size];omega
   ·dsimp only;rw[Pat.ok_iff];exact⟨by simp[Pat.kids],h1.2,h2.2,trivial⟩
  by_cases c4:a = -1
  ·rw[zs2 c1 c2 c3 c4];refine⟨?_, ?_⟩
   ·dsimp only;rw[Pat.size_eq];simp only[Pat.kids,Pats.size];omega
   ·dsimp only;rw[Pat.ok_iff];exact⟨by simp[Pat.kids],trivial⟩
  by_cases c5:(zah w ⟨a,k⟩).length=0
  ·rw[zs3 c1 c2 c3 c4 c5];exact⟨by dsimp only;omega,ha.2⟩
  ·rw[zs4 c1 c2 c3 c4 c5 rfl];have hm:=zjC (b:=b) (p:=p+2) c5;have h3:=hf ⟨a,k⟩ _ hm ht;have h1:=zxg (f:=zaF b w d) (k:=szP d) _ (p+3) (fun u hu q=>ih u q (h3.2 u hu));have h2:=zuW (f:=zaF b w d) (zaa w ⟨a,k⟩ (nth (zah w ⟨a,k⟩) (zan b (p+2) (zah w ⟨a,k⟩).length).toNat)) (p+3);have h4:(zaa w ⟨a,k⟩ (nth (zah w ⟨a,k⟩) (zan b (p+2) (zah w ⟨a,k⟩).length).toNat)).length*szP d<=3*szP d:=Nat.mul_le_mul_right _ h3.1;refine⟨?_, ?_⟩
   ·dsimp only;rw[Pat.size_eq];simp only[Pat.kids];omega
   ·dsimp only;rw[Pat.ok_iff];exact⟨by simp only[Pat.kids];omega,h1.2⟩
theorem zfg {b:Str}{p:Nat}{l:List Int} (h:1<=l.length):numV b p l∈l:=by
 have:=zcQ (b:=b) (p:=p) (n:=(l.length:Int)) (by omega);exact zac (by omega)
theorem num4 (b:Str) (p:Nat):1<=numV b p [3,2,4,1]/\numV b p [3,2,4,1]<=4:=by
 have:=zfg (b:=b) (p:=p) (l:=[3,2,4,1]) (by simp);simp only[List.mem_cons,List.not_mem_nil,or_false] at this;omega
theorem zse {d:Nat} (h:d<=4):szP d<=121/\bdP d<=200:=by
 have:d=0\/d=1\/d=2\/d=3\/d=4:=by omega
 rcases this with rfl|rfl|rfl|rfl|rfl<;>decide
def zco (b:Str) (w:List Data) (t:Ty) (p:Nat):Pat×Int×Nat:=
 namP b (zaF b w (numV b p [3,2,4,1]).toNat t (p+1)).1.size (zaF b w (numV b p [3,2,4,1]).toNat t (p+1)).1 0 (zaF b w (numV b p [3,2,4,1]).toNat t (p+1)).2
def zbk (b:Str) (w:List Data) (t:Ty) (p:Nat):Pat:=if isP w t (zco b w t p).1 then (zco b w t p).1 else anyP
theorem zim {b:Str}{w:List Data} (hf:Few w){t:Ty} (ht:TyIn w.length t) (p:Nat):(zco b w t p).2.2<=p+500/\(zco b w t p).1.size<=242/\(zco b w t p).1.ok:=by
 have h4:=num4 b p;have hs:=zse (d:=(numV b p [3,2,4,1]).toNat) (by omega);have h1:=zma (b:=b) hf (numV b p [3,2,4,1]).toNat t (p+1) ht;have h2:=zjj (b:=b) hf (numV b p [3,2,4,1]).toNat t (p+1) ht;have h3:=zi1 (b:=b) (zaF b w (numV b p [3,2,4,1]).toNat t (p+1)).1.size (zaF b w (numV b p [3,2,4,1]).toNat t (p+1)).1 0 (zaF b w (numV b p [3,2,4,1]).toNat t (p+1)).2 (by omega) (by omega);obtain⟨_,_,n3,n4,n5⟩:=h3;exact⟨by unfold zco;omega,by unfold zco;omega,n5 h1.2⟩
theorem zn0 {b:Str}{w:List Data} (hf:Few w){t:Ty} (ht:TyIn w.length t) (p:Nat):(zbk b w t p).size<=242/\(zbk b w t p).ok:=by
 have h:=zim (b:=b) hf ht p;have ha:=ziN;unfold zbk;split
 ·exact⟨h.2.1,h.2.2⟩
 ·exact⟨by omega,ha.2⟩
theorem zpa {b:Str}{w:List Data} (hb:b.length<=2000) (hw:WT w) (hf:Few w){a k:Int}{p:Nat} (hp:p<=100000) (ht:TyIn w.length ⟨a,k⟩):
  FnD Tryz.prog 72 [.ref 900 0,.d (zal w),.agg [.d (.i a),.d (.i k)]] [(900,some (rdB b p))]
   (.agg [.d (.i (zbk b w ⟨a,k⟩ p).op),.d (.i (zbk b w ⟨a,k⟩ p).ctor),.d (.i (zbk b w ⟨a,k⟩ p).n),.d (.i (zbk b w ⟨a,k⟩ p).m),.d (.i (zbk b w ⟨a,k⟩ p).var),.d (zae (zbk b w ⟨a,k⟩ p).kids)]) [(900,some (rdB b (zco b w ⟨a,k⟩ p).2.2))]:=by
 have h4:=num4 b p;have hs:=zse (d:=(numV b p [3,2,4,1]).toNat) (by omega);have h1:=zma (b:=b) hf (numV b p [3,2,4,1]).toNat ⟨a,k⟩ (p+1) ht;have h2:=zjj (b:=b) hf (numV b p [3,2,4,1]).toNat ⟨a,k⟩ (p+1) ht;have hr:=zim (b:=b) hf ht p;have hnum:=zbL (b:=b) (p:=p) (l:=[3,2,4,1]) hb (by omega) (by simp) (by simp);have hdr:=zeU hb hw hf (numV b p [3,2,4,1]).toNat (a:=a) (k:=k) (m:=numV b p [3,2,4,1]) (p:=p+1) (by omega) (by omega) (by omega) (by omega) ht;have hnm:=zgm hb (zaF b w (numV b p [3,2,4,1]).toNat ⟨a,k⟩ (p+1)).1.size (m:=0) (q:=(zaF b w (numV b p [3,2,4,1]).toNat ⟨a,k⟩ (p+1)).2) (Nat.le_refl _) h1.2 (by omega) (by omega) (by omega);have hsp:zbk b w ⟨a,k⟩ p=if isP w ⟨a,k⟩ (zco b w ⟨a,k⟩ p).1 then (zco b w ⟨a,k⟩ p).1 else anyP:=rfl
 rw[show namP b (zaF b w (numV b p [3,2,4,1]).toNat ⟨a,k⟩ (p+1)).1.size (zaF b w (numV b p [3,2,4,1]).toNat ⟨a,k⟩ (p+1)).1 0 (zaF b w (numV b p [3,2,4,1]).toNat ⟨a,k⟩ (p+1)).2=zco b w ⟨a,k⟩ p from rfl] at hnm;generalize numV b p [3,2,4,1]=m at *;refine bd Tryz.f72 28 [] [] fun w0 F0 own kept hk=>?_;refine bx 3005 ?_;refine ab 3006 tz28 ?_;refine tv ?_;refine si [0,1,2,3] [_,_,_,_] sl62 tz3 ?_;refine wd zeK (hnum) rfl rfl ⟨rfl,trivial⟩ ?_;refine wd zmR (hdr) rfl rfl ⟨rfl,trivial⟩ ?_;refine wd zqW (hnm) rfl rfl ⟨rfl,trivial⟩ ?_;refine evd [] [] ?_;refine ab 3007 tz28 ?_;refine so ty28 ?_;refine evd [] [] ?_;refine dr ?_;refine wc zmQ (zfY hw ht hr.2.2 (by omega)) rfl rfl ?_;refine ev ?_;refine sq ?_ ?_<;>intro h1 h1p h1s<;>(try simp only[Q] at h1p);refine bu [0] [_] st28 ?_;refine so ty28 ?_;refine tv ?_;refine rn [(900,some (rdB b (zco b w ⟨a,k⟩ p).2.2))] (.cons (.cellA ty28 rfl rfl rfl) .nil) (.agg (.cons (.eqd ?_) (.cons (.eqd ?_) (.cons (.eqd ?_) (.cons (.eqd ?_) (.cons (.eqd ?_) (.cons (.nild ?_) .nil))))))) ⟨rfl,rfl⟩ (SubO.get ⟨.inr ?_,⟨.inl rfl,trivial⟩⟩) (zay rfl);rotate_left 7;refine so ty28 ?_;refine tv ?_;refine rn [(900,some (rdB b (zco b w ⟨a,k⟩ p).2.2))] (.cons (.cellA ty28 rfl rfl rfl) .nil) (.agg (.cons (.eqd ?_) (.cons (.eqd ?_) (.cons (.eqd ?_) (.cons (.eqd ?_) (.cons (.eqd ?_) (.cons (.eqd ?_) .nil))))))) ⟨rfl,rfl⟩ (SubO.get ⟨.inr ?_,⟨.inl rfl,trivial⟩⟩) (zay rfl);rotate_left 7;all_goals (first|((first|(rw[hsp,if_neg (by rw[h1s];simp)];all_goals rfl)|(rw[hsp,if_pos h1s];all_goals rfl));done)|(rfl))
theorem zjZ:FnD Tryz.prog 135 [] [] (.agg [.d (.i 1),.d (.i 0),.d (.i 0),.d (.i 0),.d (.i 0),.d (.sl [])]) []:=by
 refine bd Tryz.f135 2 [] [] fun w0 F0 own kept hk=>?_;refine ab 3000 tz28 ?_;refine tv ?_;refine bu [0] [_] st28 ?_;refine so ty28 ?_;refine tv ?_;focus (refine rn0 (.cons (.cellA ty28 rfl rfl rfl) .nil) (.agg (.cons (.eqd ?_) (.cons (.eqd ?_) (.cons (.eqd ?_) (.cons (.eqd ?_) (.cons (.eqd ?_) (.cons (.nild ?_) .nil)))))));all_goals (rfl))
end Go.Proofs.YtpgdedpljcedpaaGreat
