/-
  THE LAW FnExactParseClauses: whatever the arguments of bulk at most 1048576 are, the call returns true, and the arguments read as before.
  Conditions: the bulk alone.
-/
import Derived.Test.YtcjojgpodcjfcaaGreatDoorT614
namespace Go.Proofs.YtcjojgpodcjfcaaGreatDoor
open Go
set_option linter.unusedSimpArgs false
set_option linter.unusedVariables false
set_option maxRecDepth 100000
set_option maxHeartbeats 4000000
theorem zhL {w:List Data} (hw:WT w) (hA3:A3 w){a k:Int} (ht:TyIn w.length ⟨a,k⟩){s:Str} (hs:s.length<=1000000000000):
  FnD Tryz.prog 25 [.d (zam w),.agg [.d (.i a),.d (.i k)],.d (.str s)] [] (.tup [patT (rpR w ⟨a,k⟩ s).1,.d (.bool (rpOk w ⟨a,k⟩ s))]) [(61,some (.tok ((rpR w ⟨a,k⟩ s).1.kids.map Pat.cc).length 6))]:=by
 have hp:=zdU hw hA3 10 (a:=a) (k:=k) (r:=⟨s,false⟩) (Nat.le_refl _) ht hs;have hok:=zfT hA3 10 (t:=⟨a,k⟩) ⟨s,false⟩ ht;rw[show(11:Int)-((10:Nat):Int)=1 from by decide] at hp;have hv:=zfv hw ht hok.1;rw[show zaC (patR w 10 ⟨a,k⟩ ⟨s,false⟩).1.kids = .sl ((patR w 10 ⟨a,k⟩ ⟨s,false⟩).1.kids.map Pat.cc) from xam D.sl (xaW _)] at hv;have e1:rpOk w ⟨a,k⟩ s=(!(patR w 10 ⟨a,k⟩ ⟨s,false⟩).2.bad&&(decide ((patR w 10 ⟨a,k⟩ ⟨s,false⟩).2.s=[])&&isP w ⟨a,k⟩ (patR w 10 ⟨a,k⟩ ⟨s,false⟩).1)):=rfl;rw[e1,show rpR w ⟨a,k⟩ s=patR w 10 ⟨a,k⟩ ⟨s,false⟩ from rfl];generalize patR w 10 ⟨a,k⟩ ⟨s,false⟩=z at *;refine bd Tryz.f25 36 [] [] fun _ _ _ _ hk=>?_;refine bx 3004 ?_;refine ab 3006 tz47 ?_;refine ev (bu [0,1] [_,_] st91 ?_);refine bx 901 ?_;refine ev (Walk.call (cr:=[61]) zb1 hp I .none I I (LeL.refl _) ⟨I,O⟩ I og od ?_);refine Walk.alloc (id:=3009) tz47 I .none I od od od ?_;refine so ty47 ?_;apply tv;apply sq<;>intro h1 h1p h1s<;>(try simp only[Q] at h1p);apply sq<;>intro h2 h2p h2s<;>(try simp only[Q] at h2p);refine xbQ 2 zp8 hv I (.some I I h2) I I (.cons (.le (.refl _)) (.cons (.le (.refl _)) (.cons (.agg (.cons (.le (.refl _)) (.cons (.le (.refl _)) (.cons (.le (.refl _)) (.cons (.le (.refl _)) (.cons (.le (.refl _)) (.cons (.gt o7) .nil))))))) .nil))) I I (.agg 5 I .here) o7 I ?_;refine evd [] [(30,true)] ?_ ⟨⟨_,I,h2⟩,O⟩;refine so ty47 ?_;refine evd [] [] (dr (rn [(61,some (.tok (z.1.kids.map Pat.cc).length 6))] (rc ty47) (.tup (.cons (.agg (.cons (.eqd ?_) (.cons (.eqd ?_) (.cons (.eqd ?_) (.cons (.eqd ?_) (.cons (.eqd ?_) (.cons (.gtg ?_) .nil))))))) (qe ?_))) ⟨I,I⟩ (SubH.get ⟨I,O⟩) (zao I)));rotate_left 7;refine so ty47 ?_;refine evd [] [] (dr (rn [(61,some (.tok (z.1.kids.map Pat.cc).length 6))] (rc ty47) (.tup (.cons (.agg (.cons (.eqd ?_) (.cons (.eqd ?_) (.cons (.eqd ?_) (.cons (.eqd ?_) (.cons (.eqd ?_) (.cons (.gtg ?_) .nil))))))) (qe ?_))) ⟨I,I⟩ (SubH.get ⟨I,O⟩) (zao I)));rotate_left 7;refine sqF ?_;refine so ty47 ?_;refine evd [] [] (dr (rn [(61,some (.tok (z.1.kids.map Pat.cc).length 6))] (rc ty47) (.tup (.cons (.agg (.cons (.eqd ?_) (.cons (.eqd ?_) (.cons (.eqd ?_) (.cons (.eqd ?_) (.cons (.eqd ?_) (.cons (.gtg ?_) .nil))))))) (qe ?_))) ⟨I,I⟩ (SubH.get ⟨I,O⟩) (zao I)));rotate_left 7;all_goals (first|rfl|(simp_all;done))
theorem zgR (x:Cl):Cl.c x=[.i x.pat.op,.i x.pat.ctor,.i x.pat.n,.i x.pat.m,.i x.pat.var,.sl (x.pat.kids.map Pat.cc),.i x.g.op,.i x.g.var,.i x.g.n]:=by
 rw[<-xaW]
theorem zgV {w:List Data} (hs:WSmall w){a k:Int}{s:Str} (hsl:s.length<=1048576){l:List Cl} (hl:pcI w ⟨a,k⟩ s=some l) (hne:l≠[]):
  FnD Tryz.prog 8 [.d (zam w),.agg [.d (.i a),.d (.i k)],.d (.str s)] [] (.tup [.ms 65 (l.map Cl.c).length,.d (.bool true)]) [(65,some (.tree (zag true (l.map Cl.c))))]:=by
 have h0:=zdO hs (a:=a) (b:=k);have htv:zaO w ⟨a,k⟩=true:=by
  cases h:zaO w ⟨a,k⟩ with
  |true=>rfl
  |false=>rw[zke h] at hl;cases hl
 rw[htv] at h0;obtain⟨wv,ht,_⟩:=zcU htv;have hw:=zdH hs wv;have hA:=zgc hs wv;have hsn:¬s=[]:=fun h=>by subst h;rw[ziN htv] at hl;exact hne (Option.some.inj hl).symm
 have h8:¬8<(pcP s).length:=fun h=>by rw[zjs htv hsn h] at hl;cases hl
 have hgood:∀y∈pcP s,zcG w ⟨a,k⟩ y=false:=fun y hy=>by
  cases h:zcG w ⟨a,k⟩ y with
  |false=>rfl
  |true=>rw[zkS htv hsn hy h] at hl;cases hl
 have hfin:=ziM htv hsn h8 hgood;rw[hl] at hfin;have hpl:∀y∈pcP s,y.length<=s.length:=fun y hy=>by have:=zfZ 47 s [] y hy;simpa using this
 have hcl:=fun y:Str=>zml 32 y;have hspl:FnD Tryz.prog 23 [.d (.str s),.d (.str [47])] [] (.d (zeN (pcP s))) []:=zf9 hsl;have hcut:=fun(y:Str) (hy:y∈pcP s)=>zg3 (s:=y) (c:=32) (by have:=hpl y hy;omega);have hrp:=fun(y:Str) (hy:y∈pcP s)=>zhL hw hA ht (s:=(cutB 32 y).1) (by have:=hpl y hy;have:=(hcl y).1;omega);have hrg:=fun(y:Str) (hy:y∈pcP s)=>zfw (s:=(cutB 32 y).2.1) (by have:=hpl y hy;have:=(hcl y).2;omega);have hpb:∀y,zcG w ⟨a,k⟩ y=(!rpOk w ⟨a,k⟩ (cutB 32 y).1||((cutB 32 y).2.2&& !rgOk (cutB 32 y).2.1)):=fun _=>rfl;have hpc1:∀y,(cutB 32 y).2.2=true->piC w ⟨a,k⟩ y=⟨(rpR w ⟨a,k⟩ (cutB 32 y).1).1,rgV (cutB 32 y).2.1⟩:=fun y h=>by unfold piC;rw[if_pos h]
 have hpc0:∀y,(cutB 32 y).2.2=false->piC w ⟨a,k⟩ y=⟨(rpR w ⟨a,k⟩ (cutB 32 y).1).1,⟨0,0,0⟩⟩:=fun y h=>by unfold piC;rw[if_neg (by rw[h];simp)]
 have hpok:∀y,(piC w ⟨a,k⟩ y).pat.ok:=fun y=>(zfT hA 10 (t:=⟨a,k⟩) ⟨(cutB 32 y).1,false⟩ ht).1;have hcv:=fun(l:List Str) (hl:l.length<=8)=>zep hs (a:=a) (k:=k) (l:=l.map (piC w ⟨a,k⟩)) ⟨by rw[xac];omega,fun c hc=>by obtain⟨y,_,rfl⟩:=List.mem_map.1 hc;exact hpok y⟩;have hr1:∀y∈pcP s,rpOk w ⟨a,k⟩ (cutB 32 y).1=true:=fun y hy=>by
  have:=hgood y hy;rw[hpb] at this;cases h:rpOk w ⟨a,k⟩ (cutB 32 y).1 with
  |true=>rfl
  |false=>rw[h] at this;simp at this
 have hr2:∀y∈pcP s,(cutB 32 y).2.2=true->rgOk (cutB 32 y).2.1=true:=fun y hy hb=>by
  have:=hgood y hy;rw[hpb,hb] at this;cases h:rgOk (cutB 32 y).2.1 with
  |true=>rfl
  |false=>rw[h] at this;simp at this
 generalize pcP s=P at *;have hP0:P≠[]:=fun h=>by
  subst h;by_cases hc:za8 w ⟨a,k⟩ (([]:List Str).map (piC w ⟨a,k⟩))=true
  ·rw[if_pos hc] at hfin;exact hne (Option.some.inj hfin)
  ·rw[if_neg hc] at hfin;cases hfin
 have hval:za8 w ⟨a,k⟩ (P.map (piC w ⟨a,k⟩))=true:=by
  by_cases hc:za8 w ⟨a,k⟩ (P.map (piC w ⟨a,k⟩))=true
  ·exact hc
  ·rw[if_neg hc] at hfin;cases hfin
 rw[if_pos hval] at hfin;obtain rfl:=(Option.some.inj hfin);have hvalP:=hcv P oe;rw[hval] at hvalP;clear hl hfin hgood hcv;refine bd Tryz.f8 75 [] [9,24] fun _ _ _ _ hk=>?_;refine bx 3004 ?_;refine ev (wc zjC h0 I I ?_);refine ev ?_;apply sq<;>intro h1 h1p h1s<;>(try simp only[Q,xal,xac] at h1p);exfalso;simp at *;apply sq<;>intro h2 h2p h2s<;>(try simp only[Q,xal,xac] at h2p);exfalso;exact hsn ol;refine wc zpY hspl I I ?_;refine ev ?_;apply sq<;>intro h3 h3p h3s<;>(try simp only[Q,xal,xac] at h3p);exfalso;omega;refine CWp.tokT 9 65 9 I I (evc [] [] (xaD (ι:=List (Str)×List (Str)) hk (fun x=>[(32,.d (.i (x.1.length:Int))),(9,.gt 65 ((x.1.map (piC w ⟨a,k⟩)).map Cl.c))]) [6,7,11,12,13,14,15,16,17,18,33,34,35,36,37,38,39,40,41,42,43,44,45,46,47,48,49,50,51,52,53,54,55,56,57,58,59,60,61,62,63,64,65,66,67,68] (fun x=>[(65,some (.tok (((x.1.map (piC w ⟨a,k⟩)).map Cl.c)).length 9))]) (fun x=>x.1++x.2=P) (fun x=>x.2.length) ([],P) oh ⟨⟨_,I,xaT ?_⟩,⟨⟨_,I,LeA.gtg ?_⟩,O⟩⟩ ⟨zar ?_,O⟩ (fun x=>rfl) (fun x hg1=>?_)));iterate 3 focus (first|rfl|(simp;done)|omega|(simp only[xag,xaf,List.map_nil];rw[hpc1 y oq,zgR];all_goals rfl)|(simp only[xag,xaf,List.map_nil];rw[hpc0 y oq,zgR];all_goals rfl)|(simp;omega))
 obtain⟨pre,rest⟩:=x;dsimp only at hg1 ⊢;refine evc [] [9,24] ?_;apply sq<;>intro h4 h4p h4s<;>(try simp only[Q,xal,xac] at h4p);rcases rest with _|⟨y,rest⟩
 ·exfalso;simp_all
 refine ixq sl43 I I I (zbd hg1) I (ev (wc zpZ (hcut y (by rw[<-hg1];simp)) I I ?_));refine ev (Walk.call (cr:=[61]) zp0 (hrp y (by rw[<-hg1];simp)) I .none I I (LeL.refl _) O I og od ?_);refine ev (ab 3015 tz47 ?_);refine so ty47 ?_;refine ev (bu [0] [_] st53 ?_);refine ab 3017 tz53 ?_;refine so ty53 ?_;apply tv;apply sq<;>intro h5 h5p h5s<;>(try simp only[Q,xal,xac] at h5p);refine wc zp1 (hrg y (by rw[<-hg1];simp)) I I ?_;refine ev (so ty51 ?_);refine ev ?_;apply sq<;>intro h6 h6p h6s<;>(try simp only[Q,xal,xac] at h6p);refine sqT ?_;exfalso;have v1:=hr1 y (by rw[<-hg1];simp);have v2:=hr2 y (by rw[<-hg1];simp);simp_all;apply sq<;>intro h8 h8p h8s<;>(try simp only[Q,xal,xac] at h8p);exfalso;have v1:=hr1 y (by rw[<-hg1];simp);have v2:=hr2 y (by rw[<-hg1];simp);simp_all;refine xb4 (id:=3066) sl26 tz53 I oi (ks:=[0]) (xs:=[_]) I I oi oi .none I I I I I I I ?_;refine xbv hk I sl26 zz53 .none I I I I (ze5 I ua) I (.sc I (.sc I (.sc I (.sc I (.sc I (.gt I o7 (.sc I (.sc I (.sc I .nil))))))))) I I (by have:=xam List.length hg1;simp at this;simp;omega) (by have:=xam List.length hg1;simp at this;simp;omega) ?_;refine ev (ar (xaj ((pre++[y],rest)) ⟨(by have hz:=hg1;rw[<-hz];simp),oh,sx ⟨⟨_,I,xaT ?_⟩,⟨⟨_,I,LeA.gtg ?_⟩,O⟩⟩ ⟨zar ?_,O⟩⟩));iterate 3 focus (first|rfl|(simp;done)|omega|(simp only[xag,xaf,List.map_nil];rw[hpc1 y oq,zgR];all_goals rfl)|(simp only[xag,xaf,List.map_nil];rw[hpc0 y oq,zgR];all_goals rfl)|(simp;omega))
 apply sq<;>intro h9 h9p h9s<;>(try simp only[Q,xal,xac] at h9p);refine sqT ?_;exfalso;have v1:=hr1 y (by rw[<-hg1];simp);have v2:=hr2 y (by rw[<-hg1];simp);simp_all;apply sq<;>intro h11 h11p h11s<;>(try simp only[Q,xal,xac] at h11p);exfalso;have v1:=hr1 y (by rw[<-hg1];simp);have v2:=hr2 y (by rw[<-hg1];simp);simp_all;refine xb4 (id:=3066) sl26 tz53 I oi (ks:=[0]) (xs:=[_]) I I oi oi .none I I I I I I I ?_;refine xbv hk I sl26 zz53 .none I I I I (ze5 I ua) I (.sc I (.sc I (.sc I (.sc I (.sc I (.gt I o7 (.sc I (.sc I (.sc I .nil))))))))) I I (by have:=xam List.length hg1;simp at this;simp;omega) (by have:=xam List.length hg1;simp at this;simp;omega) ?_;refine ev (ar (xaj ((pre++[y],rest)) ⟨(by have hz:=hg1;rw[<-hz];simp),oh,sx ⟨⟨_,I,xaT ?_⟩,⟨⟨_,I,LeA.gtg ?_⟩,O⟩⟩ ⟨zar ?_,O⟩⟩));iterate 3 focus (first|rfl|(simp;done)|omega|(simp only[xag,xaf,List.map_nil];rw[hpc1 y oq,zgR];all_goals rfl)|(simp only[xag,xaf,List.map_nil];rw[hpc0 y oq,zgR];all_goals rfl)|(simp;omega))
 have hrest:rest=[]:=by
  rcases rest with _|⟨a,b⟩
  ·rfl
  ·exfalso;have hz:=xam List.length (hg1);simp only[xaa,xab,xac] at hz;omega
 subst hrest;refine xbQ 2 zp2 (by have h9:pre=P:=(by simpa using hg1);subst h9;exact hvalP) I .none I I (.cons (.le (.refl _)) (.cons (.le (.refl _)) (.cons (.gt o7) .nil))) I I .here o7 I ?_;refine ev ?_;apply sq<;>intro h12 h12p h12s<;>(try simp only[Q,xal,xac] at h12p);exfalso;simp at *;refine CWp.fixT hk 9 65 9 I (ze5 I o7) I (fun hx=>absurd hx (by have h9:pre=P:=(by simpa using hg1);subst h9;simpa using hP0)) (fun hx=>?_);refine evc [] [] (rn [(65,some (.tree (zag true ((P.map (piC w ⟨a,k⟩)).map Cl.c))))] (r2 I I) (.tup (.cons (xaV ?_) (qe ?_))) ⟨I,I⟩ (SubH.get ⟨?_,O⟩) (zao I));rotate_left 3;all_goals (first|((first|rfl|contradiction|(have h9:pre=P:=(by simpa using hg1);subst h9;rfl));done)|(have h9:pre=P:=(by simpa using hg1);subst h9;rfl))
set_option maxHeartbeats 2000000
theorem zf6 {r:Rd} (h:zaw r≠0):∃x l,r=⟨x::l,false⟩/\zaw r=x:=by
 obtain⟨s,b⟩:=r;cases b with
 |true=>exact absurd (zeb (.inl I)) h
 |false=>
  cases s with
  |nil=>exact absurd (zeb (.inr I)) h
  |cons x l=>exact⟨x,l,rfl,by rw[zkQ oh];rfl⟩
theorem zbP {x:UInt8}{l:Str}:zaw ⟨x::l,false⟩=x:=by rw[zkQ oh];rfl
theorem znp:zaw ⟨[],false⟩=0:=zeb (.inr rfl)
theorem zdC {x:UInt8}{l:Str} (h:x≠0):oneR ⟨x::l,false⟩=⟨l,false⟩:=by rw[zoT (by rw[zbP];exact h)];rfl
theorem zgZ {x:UInt8}{l:Str} (h:x≠0):zaP ⟨x::l,false⟩ x=⟨l,false⟩:=by
 unfold zaP;rw[zdC h,zbP];simp
theorem zhs {r:Rd}{b:UInt8} (hb:b≠0) (h:(zaP r b).bad=false):∃l,r=⟨b::l,false⟩/\zaP r b=⟨l,false⟩:=by
 have h1:zaw r=b:=by
  unfold zaP at h;simp only[Bool.or_eq_false_iff,decide_eq_false_iff_not,ne_eq,Decidable.not_not] at h;exact h.1
 obtain⟨x,l,e,hx⟩:=zf6 (r:=r) (by rw[h1];exact hb);rw[hx] at h1;subst h1;exact⟨l,e,by rw[e];exact zgZ hb⟩
theorem zdR {x:UInt8} (h:zbb x=true):x≠0/\48<=x.toNat/\x.toNat<=57:=by
 unfold zbb at h;rw[xad,xah,xah] at h;refine⟨fun e=>?_,by omega,by omega⟩;subst e;exact absurd h.1 oi
theorem zev {x:UInt8} (h:zaN x=true):x≠0/\97<=x.toNat/\x.toNat<=122:=by
 unfold zaN at h;rw[xad,xah,xah] at h;refine⟨fun e=>?_,by omega,by omega⟩;subst e;exact absurd h.1 oi
theorem zhX {x:UInt8}{l:Str} (h:zbb x=true):digR ⟨x::l,false⟩=⟨l,false⟩/\zcX ⟨x::l,false⟩=(x.toNat:Int)-48:=by
 obtain⟨h0,h1,h2⟩:=zdR h;have:=zov (r:=⟨x::l,false⟩) (by rw[zbP];omega);rw[this.1,this.2,zdC h0,zbP];exact⟨rfl,by omega⟩
theorem zqF {r:Rd} (h:(digR r).bad=false):∃c l,zbb c=true/\r=⟨c::l,false⟩:=by
 by_cases hc:(zaw r).toNat<48\/57<(zaw r).toNat
 ·rw[(zou hc).1] at h;cases h
 ·obtain⟨x,l,e,hx⟩:=zf6 (r:=r) (by intro e;rw[e] at hc;exact hc (.inl oi));rw[hx] at hc;exact⟨x,l,zhd oe oe,e⟩
theorem zpA {r:Rd} (h:(zbf r).bad=false):r.bad=false/\0<zaA r.s/\zbf r=⟨r.s.drop (zaA r.s),false⟩:=by
 unfold zbf at h ⊢;simp only[Bool.or_eq_false_iff,decide_eq_false_iff_not] at h;refine⟨h.1,by omega, ?_⟩;rw[h.1,xaw h.2];rfl
theorem zpq {w:List Data}{t:Ty}{s:Str} (h0:0<zaA s) (h1:¬nmV w t (s.take (zaA s))<0):zbt w t ⟨s,false⟩=⟨s.drop (zaA s),false⟩/\zbg w t ⟨s,false⟩=nmV w t (s.take (zaA s)):=by
 have hb:zbf ⟨s,false⟩=⟨s.drop (zaA s),false⟩:=by
  unfold zbf;show Rd.mk _ (false||decide (zaA s=0))=_
  rw[xaw oe];rfl
 have ho:zcu w t ⟨s,false⟩=true:=by
  unfold zcu;rw[hb];show(!false&& !decide (nmV w t (s.take (zaA s))<0))=true
  rw[xaw h1];rfl
 unfold zbt zbg;rw[if_pos ho,if_pos ho,hb];exact⟨rfl,rfl⟩
def RdsK (f:Ty->Str->Pat->Str->Prop):Bool->List Ty->Str->List Pat->Str->Prop
 |_,[],s,ps,s'=>ps=[]/\s=s'
 |b,t::ts,s,ps,s'=>∃l p m qs,s=(if b=true then 40 else 44)::l/\f t l p m/\RdsK f false ts m qs s'/\ps=p::qs
def RdsP (w:List Data):Nat->Ty->Str->Pat->Str->Prop
 |0,_,_,_,_=>False
 |n+1,t,s,p,s'=>
  (s=95::s'/\p = .mk 1 0 0 0 0 [])\/
  (∃c,zaN c=true/\s=c::s'/\s'.head?≠some 64/\p = .mk 2 0 0 0 ((c.toNat:Int)-97) [])\/
  (∃c l q,zaN c=true/\s=c::64::l/\RdsP w n t l q s'/\p = .mk 6 0 0 0 ((c.toNat:Int)-97) [q])\/
  (∃c,zbb c=true/\s=c::s'/\s'.head?≠some 45/\p = .mk 3 0 ((c.toNat:Int)-48) ((c.toNat:Int)-48) 0 [])\/
  (∃c d,zbb c=true/\zbb d=true/\d≠c/\s=c::45::d::s'/\p = .mk 3 0 ((c.toNat:Int)-48) ((d.toNat:Int)-48) 0 [])\/
  (∃l x m y,s=40::l/\RdsP w n t l x (124::m)/\RdsP w n t m y (41::s')/\p = .mk 5 0 0 0 0 [x,y])\/
  (∃ks m,0<zaA s/\¬nmV w t (s.take (zaA s))<0/\RdsK (RdsP w n) true (zan w t (nmV w t (s.take (zaA s)))) (s.drop (zaA s)) ks m/\
   m=(if 0<(zan w t (nmV w t (s.take (zaA s)))).length then 41::s' else s')/\p = .mk 4 (nmV w t (s.take (zaA s))) 0 0 0 ks)
theorem zh6 {f:Ty->Rd->Pat×Rd}{g:Ty->Str->Pat->Str->Prop} (hf:∀t r,(f t r).2.bad=false->r.bad=false/\g t r.s (f t r).1 (f t r).2.s):
  ∀(ts:List Ty) (b:Bool) (r:Rd),(zbe f b ts r).2.bad=false->r.bad=false/\RdsK g b ts r.s (zbe f b ts r).1 (zbe f b ts r).2.s
 | [],b,r,h=>⟨h,rfl,rfl⟩
 |t::ts,b,r,h=>by
  rw[zbe] at h ⊢;by_cases hb:r.bad=true
  ·rw[if_pos hb,hb] at h;cases h
  ·rw[if_neg hb] at h ⊢;have hsg:(if b=true then (40:UInt8) else 44)≠0:=by split<;>decide
   obtain⟨sg,hq⟩:∃sg,(if b=true then (40:UInt8) else 44)=sg:=⟨_,rfl⟩;rw[hq] at h hsg ⊢;obtain⟨h1,h2⟩:=zh6 hf ts false _ h;obtain⟨h3,h4⟩:=hf t _ h1;obtain⟨l,e,e2⟩:=zhs hsg h3;rw[e2] at h2 h4 ⊢;exact⟨by simpa using hb,l,_,_,_,by rw[e,hq],h4,h2,rfl⟩
theorem zmK (w:List Data):∀(n:Nat) (t:Ty) (r:Rd),(patR w n t r).2.bad=false->r.bad=false/\RdsP w n t r.s (patR w n t r).1 (patR w n t r).2.s
 |0,t,r,h=>by cases h
 |n+1,t,r,h=>by
  have ih:=zmK w n;have hnz:zaw r≠0:=fun e=>by rw[patR,if_pos e] at h;cases h
  obtain⟨x,l,rfl,hx⟩:=zf6 hnz;refine⟨rfl, ?_⟩;have hx0:x≠0:=by rw[<-hx];exact hnz
  have ho:=zdC (l:=l) hx0;rw[patR,if_neg hnz,hx] at h ⊢;by_cases c1:x=95
  ·rw[if_pos c1,ho];subst c1;exact .inl ⟨I,I⟩
  rw[if_neg c1] at h ⊢;by_cases c2:zaN x=true
  ·rw[if_pos c2,ho] at h ⊢;by_cases c3:zaw ⟨l,false⟩=64
   ·rw[if_pos c3] at h ⊢;obtain⟨y,l2,e,hy⟩:=zf6 (r:=⟨l,false⟩) (by rw[c3];decide);rw[hy] at c3;subst c3;cases e
    rw[zdC oi] at h ⊢;obtain⟨_,h2⟩:=ih t _ h;exact .inr (.inr (.inl ⟨x,l2,_,c2,I,h2,I⟩))
   ·rw[if_neg c3];refine .inr (.inl ⟨x,c2,I,fun e=>c3 ?_,I⟩);cases l with
    |nil=>cases e
    |cons y l2=>rw[zbP];simpa using e
  rw[if_neg c2] at h ⊢;by_cases c4:zbb x=true
  ·obtain⟨d1,d2⟩:=zhX (l:=l) c4;rw[if_pos c4,d1,d2] at h ⊢;by_cases c3:zaw ⟨l,false⟩=45
   ·rw[if_pos c3] at h ⊢;obtain⟨y,l2,e,hy⟩:=zf6 (r:=⟨l,false⟩) (by rw[c3];decide);rw[hy] at c3;subst c3;cases e
    rw[zdC oi] at h ⊢;simp only[Bool.or_eq_false_iff,decide_eq_false_iff_not] at h;obtain⟨z,l3,hz,e⟩:=zqF h.1;cases e
    obtain⟨e1,e2⟩:=zhX (l:=l3) hz;rw[e1,e2] at h ⊢;exact .inr (.inr (.inr (.inr (.inl ⟨x,z,c4,hz,fun e=>h.2 (by rw[e]),I,I⟩))))
   ·rw[if_neg c3];refine .inr (.inr (.inr (.inl ⟨x,c4,I,fun e=>c3 ?_,I⟩)));cases l with
    |nil=>cases e
    |cons y l2=>rw[zbP];simpa using e
  rw[if_neg c4] at h ⊢;by_cases c5:x=40
  ·rw[if_pos c5,ho] at h ⊢;obtain⟨l1,e1,e2⟩:=zhs oi h;have hb1:(patR w n t (zaP (patR w n t ⟨l,false⟩).2 124)).2.bad=false:=by rw[e1]
   obtain⟨hb2,hR⟩:=ih t _ hb1;obtain⟨l2,e3,e4⟩:=zhs oi hb2;have hb3:(patR w n t ⟨l,false⟩).2.bad=false:=by rw[e3]
   obtain⟨_,hL⟩:=ih t _ hb3;rw[e2];rw[e4] at hR e1 ⊢;refine .inr (.inr (.inr (.inr (.inr (.inl ⟨l,_,l2,_,by rw[c5], ?_, ?_,I⟩)))))
   ·rw[e3] at hL;exact hL
   ·rw[e1] at hR;exact hR
  rw[if_neg c5] at h ⊢;by_cases c6:(zbt w t ⟨x::l,false⟩).bad=true
  ·rw[if_pos c6] at h;rw[c6] at h;cases h
  rw[if_neg c6] at h ⊢;obtain⟨o1,o2,o3,o4⟩:=ze3 (w:=w) (t:=t) (r:=⟨x::l,false⟩) (by simpa using c6);unfold zcu at o1;simp only[xad,Bool.not_eq_true',decide_eq_false_iff_not] at o1;obtain⟨_,n1,n2⟩:=zpA o1.1;have hk:nmV w t (zcN ⟨x::l,false⟩)=nmV w t ((x::l).take (zaA (x::l))):=rfl;rw[o2,o4,n2,hk] at h ⊢;rw[hk] at o1;refine .inr (.inr (.inr (.inr (.inr (.inr ?_)))));unfold zb3 at h ⊢;by_cases c7:0<(zan w t (nmV w t ((x::l).take (zaA (x::l))))).length
  ·rw[if_pos c7] at h ⊢;obtain⟨l1,e1,e2⟩:=zhs oi h;obtain⟨_,hK⟩:=zh6 (g:=RdsP w n) ih _ true _ (by rw[e1]);refine⟨_,_,n1,o1.2,hK, ?_,rfl⟩;rw[if_pos c7,e2,e1]
  ·rw[if_neg c7] at h ⊢;obtain⟨_,hK⟩:=zh6 (g:=RdsP w n) ih _ true _ h;exact⟨_,_,n1,o1.2,hK,by rw[if_neg c7],rfl⟩
theorem zmD {f:Ty->Rd->Pat×Rd}{g:Ty->Str->Pat->Str->Prop} (hf:∀t s p s',g t s p s'->f t ⟨s,false⟩=(p,⟨s',false⟩)):
  ∀(ts:List Ty) (b:Bool) (s:Str) (ps:List Pat) (s':Str),RdsK g b ts s ps s'->zbe f b ts ⟨s,false⟩=(ps,⟨s',false⟩)
 | [],b,s,ps,s',h=>by obtain⟨rfl,rfl⟩:=h;rfl
 |t::ts,b,s,ps,s',h=>by
  obtain⟨l,p,m,qs,rfl,h1,h2,rfl⟩:=h;rw[zbe,if_neg oh,zgZ (by split<;>decide),hf t _ _ _ h1,zmD hf ts false _ _ _ h2]
theorem znJ {s:Str} (h:0<zaA s):∃x l,s=x::l/\zbc x=true:=by
 cases s with
 |nil=>exact absurd h oi
 |cons x l=>
  refine⟨x,l,rfl, ?_⟩;cases hu:zbc x with
  |true=>rfl
  |false=>rw[zaA,if_neg (by rw[hu];simp)] at h;omega
theorem znq (w:List Data):∀(n:Nat) (t:Ty) (s:Str) (p:Pat) (s':Str),RdsP w n t s p s'->patR w n t ⟨s,false⟩=(p,⟨s',false⟩)
 |0,t,s,p,s',h=>h.elim
 |n+1,t,s,p,s',h=>by
  have ih:=znq w n;have hd45:∀ {l:Str},l.head?≠some 45->¬zaw ⟨l,false⟩=45:=fun {l} hl e=>by
   cases l with
   |nil=>rw[znp] at e;exact absurd e oi
   |cons y l2=>rw[zbP] at e;exact hl (by rw[e];rfl)
  have hd64:∀ {l:Str},l.head?≠some 64->¬zaw ⟨l,false⟩=64:=fun {l} hl e=>by
   cases l with
   |nil=>rw[znp] at e;exact absurd e oi
   |cons y l2=>rw[zbP] at e;exact hl (by rw[e];rfl)
  have nlow:∀ {c:UInt8},zbb c=true->¬zaN c=true:=fun {c} h h'=>by have:=zdR h;have:=zev h';omega
  rcases h with ⟨rfl,rfl⟩|⟨c,hc,rfl,hh,rfl⟩|⟨c,l,q,hc,rfl,hq,rfl⟩|⟨c,hc,rfl,hh,rfl⟩|⟨c,d,hc,hd,hne,rfl,rfl⟩|⟨l,x,m,y,rfl,h1,h2,rfl⟩|⟨ks,m,n1,n2,hK,hm,rfl⟩
  ·rw[patR,zbP,if_neg oi,if_pos rfl,zdC oi]
  ·have:=zev hc;rw[patR,zbP,if_neg this.1,if_neg (by intro e;subst e;revert hc;decide),if_pos hc,zdC this.1,if_neg (hd64 hh)]
  ·have:=zev hc;rw[patR,zbP,if_neg this.1,if_neg (by intro e;subst e;revert hc;decide),if_pos hc,zdC this.1,if_pos zbP,zdC oi,ih t _ _ _ hq]
  ·have:=zdR hc;obtain⟨d1,d2⟩:=zhX (l:=s') hc;rw[patR,zbP,if_neg this.1,if_neg (by intro e;subst e;revert hc;decide),if_neg (nlow hc),if_pos hc,d1,d2,if_neg (hd45 hh)]
  ·have:=zdR hc;obtain⟨d1,d2⟩:=zhX (l:=45::d::s') hc;obtain⟨d3,d4⟩:=zhX (l:=s') hd;rw[patR,zbP,if_neg this.1,if_neg (by intro e;subst e;revert hc;decide),if_neg (nlow hc),if_pos hc,d1,d2,if_pos zbP,zdC oi,d3,d4];have:decide ((d.toNat:Int)-48=(c.toNat:Int)-48)=false:=xaw (fun e=>hne (UInt8.toNat_inj.1 oe));rw[this];rfl
  ·rw[patR,zbP,if_neg oi,if_neg oi,if_neg oi,if_neg oi,if_pos rfl,zdC oi,ih t _ _ _ h1];dsimp only;rw[zgZ oi,ih t _ _ _ h2];dsimp only;rw[zgZ oi]
  ·obtain⟨x,l,rfl,hu⟩:=znJ n1;have hu':65<=x.toNat/\x.toNat<=90:=by
    unfold zbc at hu;rw[xad,xah,xah] at hu;omega
   obtain⟨c1,c2⟩:=zpq (w:=w) (t:=t) n1 n2;rw[patR,zbP,if_neg (by intro e;subst e;revert hu;decide),if_neg (by intro e;subst e;revert hu;decide),if_neg (fun h=>by have:=zev h;omega),if_neg (fun h=>by have:=zdR h;omega),if_neg (by intro e;subst e;revert hu;decide),c1,c2,if_neg oh,zmD ih _ true _ _ _ hK];unfold zb3;dsimp only;by_cases c7:0<(zan w t (nmV w t ((x::l).take (zaA (x::l))))).length
   ·rw[if_pos c7] at hm ⊢;rw[hm,zgZ oi]
   ·rw[if_neg c7] at hm ⊢;rw[hm]
theorem zfi {c:UInt8} (h:zaN c=true):letV ((c.toNat:Int)-97)=[c]:=by
 obtain⟨_,h1,h2⟩:=zev h;unfold letV strN;rw[xaf,List.map_nil];refine xam (fun x=>[x]) (UInt8.toNat_inj.1 ?_);rw[zfU,zfU,UInt8.toNat_ofNat_of_lt' (by show _<256;omega)];omega
theorem zdQ {c:UInt8} (h:zbb c=true):decV ((c.toNat:Int)-48)=[c]:=by
 obtain⟨_,h1,h2⟩:=zdR h;unfold decV strN;rw[xaf,List.map_nil];refine xam (fun x=>[x]) (UInt8.toNat_inj.1 ?_);rw[zfU,UInt8.toNat_ofNat_of_lt' (by show _<256;omega)];omega
theorem zpD {w:List Data}{t:Ty}{N:Str} (h:¬nmV w t N<0):zbj w t (nmV w t N)=N:=by
 unfold nmV at h ⊢;cases e:(zaW w t).find? (isNm w t N) with
 |none=>rw[e] at h;simp at h
 |some k=>
  have:=List.find?_some e;unfold isNm at this;exact xas this
theorem zls {f:Ty->Str->Pat->Str->Prop}{g:Ty->Pat->Str} (hf:∀t s p s',f t s p s'->s=g t p++s'):∀(ts:List Ty) (b:Bool) (s:Str) (ps:List Pat) (s':Str),RdsK f b ts s ps s'->s=zbD g b ts ps++s'
 | [],b,s,ps,s',h=>by obtain⟨rfl,rfl⟩:=h;rfl
 |t::ts,b,s,ps,s',h=>by
  obtain⟨l,p,m,qs,rfl,h1,h2,rfl⟩:=h;have e1:=hf t _ _ _ h1;have e2:=zls hf ts false _ _ _ h2;rw[zbD,e1,e2];cases b<;>simp
theorem zmQ {w:List Data}:∀(n:Nat) (t:Ty) (s:Str) (p:Pat) (s':Str),RdsP w n t s p s'->s=zax w n t p++s'
 |0,t,s,p,s',h=>h.elim
 |n+1,t,s,p,s',h=>by
  have ih:=zmQ (w:=w) n;rcases h with ⟨rfl,rfl⟩|⟨c,hc,rfl,hh,rfl⟩|⟨c,l,q,hc,rfl,hq,rfl⟩|⟨c,hc,rfl,hh,rfl⟩|⟨c,d,hc,hd,hne,rfl,rfl⟩|⟨l,x,m,y,rfl,h1,h2,rfl⟩|⟨ks,m,n1,n2,hK,hm,rfl⟩
  ·rw[tx1 rfl];rfl
  ·rw[tx2 rfl];show _=letV ((c.toNat:Int)-97)++_;rw[zfi hc];rfl
  ·rw[tx6 rfl];show _=letV ((c.toNat:Int)-97)++[64]++zax w n t q++s';rw[zfi hc,ih t _ _ _ hq];simp
  ·rw[tx3a rfl rfl];show _=decV ((c.toNat:Int)-48)++_;rw[zdQ hc];rfl
  ·rw[tx3b rfl (by show ¬(c.toNat:Int)-48=(d.toNat:Int)-48;intro e;exact hne (UInt8.toNat_inj.1 oe))];show _=decV ((c.toNat:Int)-48)++[45]++decV ((d.toNat:Int)-48)++s'
   rw[zdQ hc,zdQ hd];rfl
  ·rw[tx5 rfl];show _=[40]++zax w n t x++[124]++zax w n t y++[41]++s'
   rw[ih t _ _ _ h1,ih t _ _ _ h2];simp
  ·rw[tx4 rfl];show s=(zbj w t (nmV w t (s.take (zaA s)))++zbD (zax w n) true (zan w t (nmV w t (s.take (zaA s)))) ks)++(if 0<(zan w t (nmV w t (s.take (zaA s)))).length then [41] else [])++s'
   rw[zpD n2];have e:=zls ih _ _ _ _ _ hK;have e2:s=s.take (zaA s)++s.drop (zaA s):=(List.take_append_drop _ _).symm;rw[hm] at e;generalize zan w t (nmV w t (s.take (zaA s)))=ts at *;generalize hN:s.take (zaA s)=N at *;generalize hD:s.drop (zaA s)=Dr at *;rw[e2,e];split<;>simp
theorem zc6 {s:Str}{m:Nat}{c:UInt8}{l:Str} (h:s.drop m=c::l):zbv s (m:Int) c=true/\m<s.length/\nth s m=c/\s.drop (m+1)=l:=by
 have hm:m<s.length:=by
  rcases Nat.lt_or_ge m s.length with h1|h1
  ·exact h1
  ·rw[List.drop_eq_nil_of_le h1] at h;cases h
 rw[zbm hm] at h;have h1:nth s m=c:=(List.cons.inj h).1;refine⟨?_,hm,h1,(List.cons.inj h).2⟩;unfold zbv;rw[xax (show(0:Int)<=(m:Int) by omega),xax (show(m:Int)<(s.length:Int) by omega)];show(true&&(true&&decide (nth s m=c)))=true
 rw[xax h1];rfl
theorem zpa {s:Str}{m:Nat}{c:UInt8} (h:(s.drop m).head?≠some c):zbv s (m:Int) c=false:=by
 cases e:zbv s (m:Int) c with
 |false=>rfl
 |true=>
  have hm:=(zgw e).2;unfold zbv at e;simp only[xad,xah] at e;rw[zbm (show m<s.length by omega)] at h;exact absurd (xam some e.2.2) h
theorem znk {f:Ty->Int->Pat×Int}{g:Ty->Str->Pat->Str->Prop}{s:Str}:∀(ts:List Ty) (b:Bool) (k:Nat) (u:Str) (ps:List Pat) (u':Str) (m:Nat),
  (∀t∈ts,∀u p u' m,g t u p u'->s.drop m=u->m<=s.length->∃m':Nat,m'<=s.length/\s.drop m'=u'/\f t (m:Int)=(p,(m':Int)))->
  ts.length<=k+1->RdsK g b ts u ps u'->s.drop m=u->m<=s.length->∃m':Nat,m'<=s.length/\s.drop m'=u'/\kidL f s ts ((if b=true then 40 else 44)::List.replicate k 44) (m:Int)=some (ps,(m':Int))
 | [],b,k,u,ps,u',m,_,_,h,hd,hm=>by obtain⟨rfl,rfl⟩:=h;exact⟨m,hm,hd,rfl⟩
 |t::ts,b,k,u,ps,u',m,hf,hk,h,hd,hm=>by
  obtain⟨l,p,mm,qs,rfl,h1,h2,rfl⟩:=h;obtain⟨e1,e2,e3,e4⟩:=zc6 hd;obtain⟨m1,a1,a2,a3⟩:=hf t oh _ _ _ (m+1) h1 e4 e2;rw[kidL,if_pos e1,show(m:Int)+1=((m+1:Nat):Int) from rfl,a3];cases k with
  |zero=>
   have:ts=[]:=by simpa using hk
   subst this;obtain⟨rfl,rfl⟩:=h2;exact⟨m1,a1,a2,rfl⟩
  |succ k=>
   obtain⟨m2,b1,b2,b3⟩:=znk ts false k _ _ _ m1 (fun t ht=>hf t (by simp[ht])) (by simp at hk;omega) h2 a2 a1;refine⟨m2,b1,b2, ?_⟩;have e:List.replicate (k+1) (44:UInt8)=(if false=true then 40 else 44)::List.replicate k 44:=rfl;rw[e];dsimp only;rw[b3]
theorem zlt {w:List Data} (hA:A3 w) (s:Str):∀(n:Nat) (t:Ty) (u:Str) (p:Pat) (u':Str) (m:Nat),TyIn w.length t->RdsP w n t u p u'->s.drop m=u->m<=s.length->
  ∃m':Nat,m'<=s.length/\s.drop m'=u'/\zaB w s n t (m:Int)=(p,(m':Int))
 |0,t,u,p,u',m,_,h,_,_=>h.elim
 |n+1,t,u,p,u',m,ht,h,hd,hm=>by
  have ih:=zlt hA s n;rcases h with ⟨rfl,rfl⟩|⟨c,hc,rfl,hh,rfl⟩|⟨c,l,q,hc,rfl,hq,rfl⟩|⟨c,hc,rfl,hh,rfl⟩|⟨c,d,hc,hd',hne,rfl,rfl⟩|⟨l,x,mm,y,rfl,h1,h2,rfl⟩|⟨ks,mm,n1,n2,hK,hmm,rfl⟩
  ·obtain⟨e1,e2,e3,e4⟩:=zc6 hd;exact⟨m+1,e2,e4,by rw[zo2 e2 (by rw[e3];rfl)];rfl⟩
  ·obtain⟨e1,e2,e3,e4⟩:=zc6 hd;obtain⟨_,l1,l2⟩:=zev hc;refine⟨m+1,e2,e4, ?_⟩;rw[zmN e2 (by rw[e3];omega) (by rw[e3];omega),show(m:Int)+1=((m+1:Nat):Int) from rfl,if_neg (by rw[zpa (by rw[e4];exact hh)];simp),e3]
  ·obtain⟨e1,e2,e3,e4⟩:=zc6 hd;obtain⟨f1,f2,f3,f4⟩:=zc6 e4;obtain⟨_,l1,l2⟩:=zev hc;obtain⟨m1,a1,a2,a3⟩:=ih t _ _ _ (m+1+1) ht hq f4 f2;refine⟨m1,a1,a2, ?_⟩;rw[zmN e2 (by rw[e3];omega) (by rw[e3];omega),show(m:Int)+1=((m+1:Nat):Int) from rfl,if_pos f1,e3];unfold kidV;rw[kidL,if_pos f1,show((m+1:Nat):Int)+1=((m+1+1:Nat):Int) from rfl,a3,kidL];rfl
  ·obtain⟨e1,e2,e3,e4⟩:=zc6 hd;obtain⟨_,l1,l2⟩:=zdR hc;refine⟨m+1,e2,e4, ?_⟩;rw[zmM e2 (by rw[e3];omega) (by rw[e3];omega)];unfold intP;rw[show(m:Int)+1=((m+1:Nat):Int) from rfl,if_neg (fun h=>by rw[zpa (by rw[e4];exact hh)] at h;exact absurd h.1 oh)];unfold digV;rw[e3]
  ·obtain⟨e1,e2,e3,e4⟩:=zc6 hd;obtain⟨f1,f2,f3,f4⟩:=zc6 e4;obtain⟨g1,g2,g3,g4⟩:=zc6 f4;obtain⟨_,l1,l2⟩:=zdR hc;refine⟨m+1+1+1,g2,g4, ?_⟩;rw[zmM e2 (by rw[e3];omega) (by rw[e3];omega)];unfold intP;rw[show(m:Int)+1=((m+1:Nat):Int) from rfl,if_pos ⟨f1,g2,by rw[show m+2=m+1+1 from rfl,g3];exact hd'⟩];unfold digV;rw[e3,show m+2=m+1+1 from rfl,g3];rfl
  ·obtain⟨e1,e2,e3,e4⟩:=zc6 hd;obtain⟨m1,a1,a2,a3⟩:=ih t _ _ _ (m+1) ht h1 e4 e2;obtain⟨f1,f2,f3,f4⟩:=zc6 a2;obtain⟨m2,b1,b2,b3⟩:=ih t _ _ _ (m1+1) ht h2 f4 f2;obtain⟨g1,g2,g3,g4⟩:=zc6 b2;refine⟨m2+1,g2,g4, ?_⟩;rw[zqq e2 (by rw[e3];rfl)];have hk:kidV (zaB w s n) s [t,t] [40,124] (m:Int)=([x,y],(m2:Int)):=by
    unfold kidV;rw[kidL,if_pos e1,show(m:Int)+1=((m+1:Nat):Int) from rfl,a3,kidL];dsimp only;rw[if_pos f1,show(m1:Int)+1=((m1+1:Nat):Int) from rfl,b3,kidL];rfl
   rw[hk];dsimp only;rw[if_pos g1];rfl
  ·have hu:=znJ n1;obtain⟨x,l,e,hup⟩:=hu;have hm1:m<s.length:=by
    rcases Nat.lt_or_ge m s.length with h1|h1
    ·exact h1
    ·rw[List.drop_eq_nil_of_le h1] at hd;rw[<-hd] at e;cases e
   have hx:nth s m=x:=by rw[zbm hm1,e] at hd;exact(List.cons.inj hd).1
   have hu':65<=x.toNat/\x.toNat<=90:=by
    unfold zbc at hup;rw[xad,xah,xah] at hup;omega
   subst hd;have hnl:=zf5 (s.drop m);rw[List.length_drop] at hnl;have hK0:∃m':Nat,m'<=s.length/\s.drop m'=mm/\kidL (zaB w s n) s (zan w t (nmV w t ((s.drop m).take (zaA (s.drop m))))) [40,44,44] ((m+zaA (s.drop m):Nat):Int)=some (ks,(m':Int)):=by
    have hA':=hA t _ ht (zfS n2);refine znk (g:=RdsP w n) _ true 2 _ _ _ (m+zaA (s.drop m)) (fun t' ht' u p u' m hg hdr hmm=>ih t' u p u' m (hA'.2 t' ht') hg hdr hmm) oe hK (by rw[List.drop_drop]) oe
   obtain⟨m1,a1,a2,a3⟩:=hK0;rw[zo3 hm1 (by rw[hx];omega) (by rw[hx];omega) (by rw[hx];omega) (by rw[hx];omega)];unfold conP zbB;have hkv:kidV (zaB w s n) s (zan w t (nmV w t ((s.drop m).take (zaA (s.drop m))))) [40,44,44] ((m+zaA (s.drop m):Nat):Int)=(ks,(m1:Int)):=by unfold kidV;rw[a3];rfl
   rw[if_neg n2,hkv];by_cases c7:0<(zan w t (nmV w t ((s.drop m).take (zaA (s.drop m))))).length
   ·rw[if_pos c7] at hmm;rw[hmm] at a2;obtain⟨g1,g2,g3,g4⟩:=zc6 a2;refine⟨m1+1,g2,g4, ?_⟩;rw[if_neg oe];dsimp only;rw[if_pos g1];rfl
   ·rw[if_neg c7] at hmm;refine⟨m1,a1,by rw[a2,hmm], ?_⟩;rw[if_pos oe]
def NmOk (w:List Data):Prop:=∀t c,TyIn w.length t->c∈zaW w t->(∃x l,zbj w t c=x::l/\zbc x=true/\zbT l=true)/\nmV w t (zbj w t c)=c
theorem zj7 {α β:Type}{f:α->List β}:∀ {l:List α},(l.flatMap f).Nodup->∀d∈l,(f d).Nodup
 |x::r,h,d,hd=>by
  rw[List.flatMap_cons,List.nodup_append] at h;rcases List.mem_cons.1 hd with rfl|hd
  ·exact h.1
  ·exact zj7 h.2.1 d hd
theorem zpC {l:List Ctor} (h:(l.map (·.name)).Nodup){i j:Nat} (hi:i<l.length) (hj:j<l.length) (e:(nth l i).name=(nth l j).name):i=j:=by
 have key:∀i j,(hi:i<l.length)->(hj:j<l.length)->i<j->(nth l i).name≠(nth l j).name:=fun i j hi hj hij=>by
  have:=List.pairwise_iff_getElem.1 h i j (by simpa using hi) (by simpa using hj) hij;rw[zaY hi,zaY hj];simpa using this
 rcases Nat.lt_trichotomy i j with h1|h1|h1
 ·exact absurd e (key i j hi hj h1)
 ·exact h1
 ·exact absurd e.symm (key j i hj hi h1)
theorem zpP {w:List Data} (hv:zbu w=true):NmOk w:=fun t c ht hc=>by
 obtain⟨a,k⟩:=t;have hW:=(zdb w).1 hv;obtain⟨d,rfl,hd,j,rfl,hj⟩:=zbw ht hc;have hn:∀(i:Nat),zbj w ⟨(d:Int),k⟩ (i:Int)=(nth (nth w d).ctors i).name:=fun i=>rfl;have hnd:((nth w d).ctors.map (·.name)).Nodup:=zj7 hW.cnames _ (zaq hd);have hok:=hW.ctor _ (zaq hd) _ (zaq hj);refine⟨?_, ?_⟩
 ·rw[hn];unfold zbz at hok;simp only[xad] at hok;have h1:=hok.1;unfold zcr at h1;rw[xad] at h1;cases hN:(nth (nth w d).ctors j).name with
  |nil=>rw[hN] at h1;exact absurd h1.2 oh
  |cons x l=>
   rw[hN] at h1;have h2:=h1.2;simp only[xad] at h2;exact⟨x,l,rfl,h2.1,h2.2⟩
 ·unfold nmV;have hex:∃x∈zaW w ⟨(d:Int),k⟩,isNm w ⟨(d:Int),k⟩ (zbj w ⟨(d:Int),k⟩ (j:Int)) x=true:=⟨_,hc,xax rfl⟩;have hs:=List.find?_isSome.2 hex;obtain⟨k2,hk2⟩:=Option.isSome_iff_exists.1 hs;rw[hk2];have h1:=List.mem_of_find?_eq_some hk2;have h2:=List.find?_some hk2;unfold isNm at h2;replace h2:=xas h2
  obtain⟨d2,e2,hd2,j2,rfl,hj2⟩:=zbw ht h1;obtain rfl:d=d2:=by omega
  rw[hn,hn] at h2;show((j2:Nat):Int)=(j:Int)
  rw[zpC hnd hj2 hj h2]
def zgy (s:Str):Prop:=∀x,s.head?=some x->x≠64/\x≠45/\zaN x=false
theorem zpM:zgy []:=fun x h=>by cases h
theorem znH (s:Str):zgy (41::s):=fun x h=>by cases h;decide
theorem zqV (s:Str):zgy (44::s):=fun x h=>by cases h;decide
theorem zpL (s:Str):zgy (124::s):=fun x h=>by cases h;decide
theorem zpz {l r:Str} (h:zbT l=true) (hr:∀x,r.head?=some x->zaN x=false):lowL (l++r)=l.length:=by
 induction l with
 |nil=>
  cases r with
  |nil=>rfl
  |cons y r2=>show(if zaN y=true then _ else 0)=0;rw[if_neg (by rw[hr y rfl];simp)]
 |cons y l ih=>
  unfold zbT at h ih;rw[List.all_cons,xad] at h;show(if zaN y=true then lowL (l++r)+1 else 0)=_
  rw[if_pos h.1,ih h.2];rfl
theorem zoN {x:UInt8}{l r:Str} (hx:zbc x=true) (h:zbT l=true) (hr:∀x,r.head?=some x->zaN x=false):zaA ((x::l)++r)=(x::l).length:=by
 show(if zbc x=true then lowL (l++r)+1 else 0)=_
 rw[if_pos hx,zpz h hr];rfl
theorem zmG {v:Int} (h0:0<=v) (h1:v<=25):∃c:UInt8,zaN c=true/\v=(c.toNat:Int)-97:=by
 refine⟨UInt8.ofNat (97+v.toNat), ?_, ?_⟩
 ·exact ze9 (by rw[UInt8.toNat_ofNat_of_lt' (by show _<256;omega)];omega) (by rw[UInt8.toNat_ofNat_of_lt' (by show _<256;omega)];omega)
 ·rw[UInt8.toNat_ofNat_of_lt' (by show _<256;omega)];omega
theorem zmo {v:Int} (h0:0<=v) (h1:v<=9):∃c:UInt8,zbb c=true/\v=(c.toNat:Int)-48:=by
 refine⟨UInt8.ofNat (48+v.toNat), ?_, ?_⟩
 ·exact zhd (by rw[UInt8.toNat_ofNat_of_lt' (by show _<256;omega)];omega) (by rw[UInt8.toNat_ofNat_of_lt' (by show _<256;omega)];omega)
 ·rw[UInt8.toNat_ofNat_of_lt' (by show _<256;omega)];omega
theorem znC {w:List Data}{n:Nat} (hf:∀t p rest,TyIn w.length t->zav w n t p=true->zgy rest->RdsP w n t (zax w n t p++rest) p rest):
  ∀(ts:List Ty) (ks:List Pat) (b:Bool) (rest:Str),all2 (zav w n) ts ks=true->(∀t∈ts,TyIn w.length t)->zgy rest->RdsK (RdsP w n) b ts (zbD (zax w n) b ts ks++rest) ks rest
 | [],[],b,rest,_,_,_=>⟨rfl,rfl⟩
 | [],_::_,b,rest,h,_,_=>by simp[all2] at h
 |_::_,[],b,rest,h,_,_=>by simp[all2] at h
 |t::ts,k::ks,b,rest,h,ht,hr=>by
  simp only[all2,xad] at h;have ih:=znC hf ts ks false rest h.2 (fun u hu=>ht u (by simp[hu])) hr;have hst:zgy (zbD (zax w n) false ts ks++rest):=by
   cases ts with
   |nil=>cases ks with
    |nil=>exact hr
    |cons _ _=>simp[all2] at h
   |cons u us=>cases ks with
    |nil=>simp[all2] at h
    |cons q qs=>exact zqV _
  refine⟨zax w n t k++(zbD (zax w n) false ts ks++rest),k,_,ks, ?_,hf t k _ (ht t oh) h.1 hst,ih,rfl⟩;rw[zbD];cases b<;>simp
theorem zik {w:List Data} (hw:WT w) (hN:NmOk w):∀(n:Nat) (t:Ty) (p:Pat) (rest:Str),TyIn w.length t->zav w n t p=true->zgy rest->RdsP w n t (zax w n t p++rest) p rest
 |0,t,p,rest,_,h,_=>by simp[zav] at h
 |n+1,⟨a,k⟩,p,rest,ht,h,hr=>by
  have ih:=zik hw hN n;obtain⟨ho,hl⟩:=zcc h;have hin:=zdf hw ht ho;have h':=h;simp only[zav,xad] at h';have hall:=h'.2;unfold ownP at ho;obtain⟨o1,o2,o3,o4,o5⟩:=xas ho;obtain⟨op,ct,pn,pm,v,ks⟩:=p;simp only[Pat.op,Pat.ctor,Pat.n,Pat.m,Pat.var,Pat.kids] at o1 o2 o3 o4 o5 hl hall hin;rcases o5 with o5|o5|o5|o5|o5|o5
  ·subst o5;have hk:ks=[]:=List.eq_nil_of_length_eq_zero (by rw[hl];rfl);subst hk;rw[o2 oe,(o3 oe).1,(o3 oe).2,o4 oe,tx1 rfl];exact .inl ⟨I,I⟩
  ·subst o5;have hk:ks=[]:=List.eq_nil_of_length_eq_zero (by rw[hl];rfl);subst hk;obtain⟨c,hc,rfl⟩:=zmG (o1 (.inl rfl)).1 (by have:=(o1 (.inl rfl)).2;omega);rw[(o3 oe).1,(o3 oe).2,o4 oe,tx2 rfl];show RdsP w (n+1) ⟨a,k⟩ (letV ((c.toNat:Int)-97)++rest) _ rest
   rw[zfi hc];exact .inr (.inl ⟨c,hc,I,fun e=>(hr _ e).1 I,I⟩)
  ·subst o5;rw[ze0 rfl] at hl hall;rw[o2 oe,(o3 oe).1,(o3 oe).2,o4 oe,tx5 rfl];match ks,hl,hall with
   | [x,y],_,hall=>
    simp only[all2,xad] at hall;show RdsP w (n+1) ⟨a,k⟩ ([40]++zax w n ⟨a,k⟩ x++[124]++zax w n ⟨a,k⟩ y++[41]++rest) _ rest
    refine .inr (.inr (.inr (.inr (.inr (.inl ⟨zax w n ⟨a,k⟩ x++(124::(zax w n ⟨a,k⟩ y++(41::rest))),x,zax w n ⟨a,k⟩ y++(41::rest),y,by simp,ih _ _ _ ht hall.1 (zpL _),ih _ _ _ ht hall.2.1 (znH _),I⟩)))))
  ·subst o5;rw[zg5 rfl] at hl hall;obtain⟨c,hc,rfl⟩:=zmG (o1 (.inr rfl)).1 (by have:=(o1 (.inr rfl)).2;omega);rw[(o3 oe).1,(o3 oe).2,o4 oe,tx6 rfl];match ks,hl,hall with
   | [x],_,hall=>
    simp only[all2,xad] at hall;show RdsP w (n+1) ⟨a,k⟩ (letV ((c.toNat:Int)-97)++[64]++zax w n ⟨a,k⟩ x++rest) _ rest
    rw[zfi hc];exact .inr (.inr (.inl ⟨c,zax w n ⟨a,k⟩ x++rest,x,hc,by simp,ih _ _ _ ht hall.1 hr,I⟩))
  ·obtain⟨o5,_,q1,q2,q3⟩:=o5;subst o5;have hk:ks=[]:=List.eq_nil_of_length_eq_zero (by rw[hl];rfl);subst hk;obtain⟨c,hc,rfl⟩:=zmo q1 oe;obtain⟨d,hd,rfl⟩:=zmo (v:=pm) oe q3;rw[o2 oe,o4 oe];by_cases he:c=d
   ·subst he;rw[tx3a rfl rfl];show RdsP w (n+1) ⟨a,k⟩ (decV ((c.toNat:Int)-48)++rest) _ rest
    rw[zdQ hc];exact .inr (.inr (.inr (.inl ⟨c,hc,I,fun e=>(hr _ e).2.1 I,I⟩)))
   ·rw[tx3b rfl (by show ¬(c.toNat:Int)-48=(d.toNat:Int)-48;intro e;exact he (UInt8.toNat_inj.1 oe))];show RdsP w (n+1) ⟨a,k⟩ (decV ((c.toNat:Int)-48)++[45]++decV ((d.toNat:Int)-48)++rest) _ rest
    rw[zdQ hc,zdQ hd];exact .inr (.inr (.inr (.inr (.inl ⟨c,d,hc,hd,fun e=>he e.symm,I,I⟩))))
  ·obtain⟨o5,hc⟩:=o5;subst o5;rw[zg4 rfl] at hl hall hin;obtain⟨⟨x,l,hname,hx,hl2⟩,hnm⟩:=hN _ _ ht hc;rw[o2 oe,(o3 oe).1,(o3 oe).2,tx4 rfl];show RdsP w (n+1) ⟨a,k⟩ ((zbj w ⟨a,k⟩ ct++zbD (zax w n) true (zan w ⟨a,k⟩ ct) ks)++(if 0<(zan w ⟨a,k⟩ ct).length then [41] else [])++rest) _ rest
   have hin':∀t∈zan w ⟨a,k⟩ ct,TyIn w.length t:=hin;have hall':all2 (zav w n) (zan w ⟨a,k⟩ ct) ks=true:=hall;have hge:¬ct<0:=by obtain⟨_,_,_,j,hj,_⟩:=zbw ht hc;omega
   have hK:=znC ih (zan w ⟨a,k⟩ ct) ks true ((if 0<(zan w ⟨a,k⟩ ct).length then [41] else [])++rest) hall' hin' (by split;exact znH _;exact hr);have hst:∀y,(zbD (zax w n) true (zan w ⟨a,k⟩ ct) ks++((if 0<(zan w ⟨a,k⟩ ct).length then [41] else [])++rest)).head?=some y->zaN y=false:=fun y hy=>by
    cases hts:zan w ⟨a,k⟩ ct with
    |nil=>
     rw[hts] at hy;simp only[zbD,xak,Nat.lt_irrefl,if_false,List.nil_append] at hy;exact(hr y hy).2.2
    |cons u us=>
     rw[hts] at hy hall';cases ks with
     |nil=>simp[all2] at hall'
     |cons q qs=>
      simp only[zbD,if_true,xai,List.nil_append,List.head?_cons,xae] at hy;rw[<-hy];decide
   have hcat:zbj w ⟨a,k⟩ ct++zbD (zax w n) true (zan w ⟨a,k⟩ ct) ks++(if 0<(zan w ⟨a,k⟩ ct).length then [41] else [])++rest=zbj w ⟨a,k⟩ ct++(zbD (zax w n) true (zan w ⟨a,k⟩ ct) ks++((if 0<(zan w ⟨a,k⟩ ct).length then [41] else [])++rest)):=by simp
   rw[hcat];generalize zbD (zax w n) true (zan w ⟨a,k⟩ ct) ks++((if 0<(zan w ⟨a,k⟩ ct).length then [41] else [])++rest)=tl at *;have hnn:zaA (zbj w ⟨a,k⟩ ct++tl)=(zbj w ⟨a,k⟩ ct).length:=by rw[hname];exact zoN hx hl2 hst
   have htk:(zbj w ⟨a,k⟩ ct++tl).take (zaA (zbj w ⟨a,k⟩ ct++tl))=zbj w ⟨a,k⟩ ct:=by rw[hnn];simp
   have hdr:(zbj w ⟨a,k⟩ ct++tl).drop (zaA (zbj w ⟨a,k⟩ ct++tl))=tl:=by rw[hnn];simp
   refine .inr (.inr (.inr (.inr (.inr (.inr ⟨ks,(if 0<(zan w ⟨a,k⟩ ct).length then [41] else [])++rest, ?_, ?_, ?_, ?_, ?_⟩)))))
   ·rw[hnn,hname];simp
   ·rw[htk,hnm];exact hge
   ·rw[htk,hnm,hdr];exact hK
   ·rw[htk,hnm];split<;>rfl
   ·rw[htk,hnm]
def jnS (c:UInt8):Bool->List Str->Str
 |_,[]=>[]
 |b,y::r=>((if b=true then [] else [c])++y)++jnS c false r
theorem zkB (c:UInt8):∀(s cur:Str),jnS c true (cutL c cur s)=cur++s
 | [],cur=>by simp[cutL,jnS]
 |x::r,cur=>by
  rw[cutL];split
  ·rename_i h;subst h;have ih:=zkB x r [];cases hq:cutL x [] r with
   |nil=>have:=zjb x r [];rw[hq] at this;simp at this
   |cons y ys=>
    rw[hq] at ih;simp only[jnS,if_true,List.nil_append] at ih;rw[jnS,jnS];simp only[if_true,List.nil_append,Bool.false_eq_true,if_false,xai,xar];rw[ih]
  ·rw[zkB c r (cur++[x])];simp
theorem zhc {c:UInt8}:∀ {y:Str} (r cur:Str),c∉y->cutL c cur (y++r)=cutL c (cur++y) r
 | [],r,cur,_=>by simp
 |x::y,r,cur,h=>by
  simp only[List.mem_cons,not_or] at h;rw[xai,cutL,if_neg (fun e=>h.1 e.symm),zhc r (cur++[x]) h.2];simp
theorem zoF {c:UInt8}:∀ {ys:List Str},ys≠[]->(∀y∈ys,c∉y)->cutL c [] (jnS c true ys)=ys
 | [],h,_=>absurd rfl h
 | [y],_,h=>by
  rw[jnS,jnS,if_pos rfl,List.nil_append,zhc [] [] (h y oh)];rfl
 |y::z::r,_,h=>by
  have ih:=zoF (c:=c) (ys:=z::r) oh (fun u hu=>h u (by simp[hu]));have e:jnS c true (y::z::r)=y++(c::jnS c true (z::r)):=by simp[jnS]
  rw[e,zhc _ [] (h y oh),cutL,if_pos rfl,ih];rfl
theorem zmy {c:UInt8}:∀ {s:Str}{k:Nat},Lib.indexByte s c=(k:Int)->s=s.take k++c::s.drop (k+1)/\c∉s.take k
 | [],k,h=>by have:Lib.indexByte [] c = -1:=rfl;omega
 |x::r,k,h=>by
  rw[zfP] at h;by_cases hx:x=c
  ·rw[if_pos hx] at h;obtain rfl:k=0:=by omega
   subst hx;simp
  ·rw[if_neg hx] at h;by_cases h2:Lib.indexByte r c = -1
   ·rw[if_pos h2] at h;omega
   ·rw[if_neg h2] at h;have hk:=Lib.indexByte_ge r c;obtain⟨k',rfl⟩:∃k',k=k'+1:=⟨k-1,by omega⟩;obtain⟨e1,e2⟩:=zmy (c:=c) (s:=r) (k:=k') oe;refine⟨?_, ?_⟩
    ·rw[List.take_succ_cons,List.drop_succ_cons,xai,<-e1]
    ·rw[List.take_succ_cons,List.mem_cons,not_or];exact⟨fun e=>hx e.symm,e2⟩
theorem zql {c:UInt8}:∀ {s:Str},c∉s->Lib.indexByte s c = -1
 | [],_=>rfl
 |x::r,h=>by
  simp only[List.mem_cons,not_or] at h;rw[zfP,if_neg (fun e=>h.1 e.symm),if_pos (zql h.2)]
theorem zqk {c:UInt8}:∀ {y r:Str},c∉y->Lib.indexByte (y++c::r) c=(y.length:Int)
 | [],r,_=>by rw[List.nil_append,zfP,if_pos rfl];rfl
 |x::y,r,h=>by
  simp only[List.mem_cons,not_or] at h;have ih:=zqk (c:=c) (y:=y) (r:=r) h.2;rw[xai,zfP,if_neg (fun e=>h.1 e.symm),if_neg oe,ih];simp
theorem zqO {l:Str}{c:UInt8} (hc:zaN c=false):∀ {n:Nat},n<=lowL l->c∉l.take n:=by
 induction l with
 |nil=>intro n _;simp
 |cons x r ih=>
  intro n hn;cases n with
  |zero=>simp
  |succ n=>
   unfold lowL at hn;split at hn
   ·rename_i hx;rw[List.take_succ_cons,List.mem_cons,not_or];exact⟨fun e=>(by rw[e,hx] at hc;cases hc),ih oe⟩
   ·omega
theorem zpB {s:Str}{c:UInt8} (hc:zaN c=false) (hu:zbc c=false):c∉s.take (zaA s):=by
 cases s with
 |nil=>simp
 |cons x r=>
  rw[zaA];split
  ·rename_i hx;rw[List.take_succ_cons,List.mem_cons,not_or];exact⟨fun e=>(by rw[e,hx] at hu;cases hu),zqO hc (Nat.le_refl _)⟩
  ·simp
theorem znB {f:Ty->Str->Pat->Str->Prop}{c:UInt8} (h0:c≠40) (h1:c≠44) (hf:∀t s p s',f t s p s'->c∉s'->c∉s):∀(ts:List Ty) (b:Bool) (s:Str) (ps:List Pat) (s':Str),RdsK f b ts s ps s'->c∉s'->c∉s
 | [],b,s,ps,s',h,hn=>by obtain⟨rfl,rfl⟩:=h;exact hn
 |t::ts,b,s,ps,s',h,hn=>by
  obtain⟨l,p,m,qs,rfl,q1,q2,rfl⟩:=h;have:=hf t _ _ _ q1 (znB h0 h1 hf ts false _ _ _ q2 hn);rw[List.mem_cons,not_or];exact⟨by split;exact h0;exact h1,this⟩
theorem zmP {w:List Data}{c:UInt8} (hc:c=32\/c=47):∀(n:Nat) (t:Ty) (s:Str) (p:Pat) (s':Str),RdsP w n t s p s'->c∉s'->c∉s
 |0,t,s,p,s',h,_=>h.elim
 |n+1,t,s,p,s',h,hn=>by
  have ih:=zmP (w:=w) hc n;have hl:zaN c=false:=by rcases hc with rfl|rfl<;>decide
  have hu:zbc c=false:=by rcases hc with rfl|rfl<;>decide
  have hd:zbb c=false:=by rcases hc with rfl|rfl<;>decide
  have nl:∀ {x:UInt8},zaN x=true->c≠x:=fun {x} h e=>by rw[<-e,hl] at h;cases h
  have nd:∀ {x:UInt8},zbb x=true->c≠x:=fun {x} h e=>by rw[<-e,hd] at h;cases h
  have nc:∀ {x:UInt8}{l:Str},c≠x->c∉l->c∉x::l:=fun {x l} a b=>by rw[List.mem_cons,not_or];exact⟨a,b⟩
  have k1:c≠95/\c≠64/\c≠45/\c≠40/\c≠124/\c≠41/\c≠44:=by rcases hc with rfl|rfl<;>decide
  obtain⟨k95,k64,k45,k40,k124,k41,k44⟩:=k1;rcases h with ⟨rfl,rfl⟩|⟨x,hx,rfl,hh,rfl⟩|⟨x,l,q,hx,rfl,hq,rfl⟩|⟨x,hx,rfl,hh,rfl⟩|⟨x,d,hx,hd',hne,rfl,rfl⟩|⟨l,x,m,y,rfl,h1,h2,rfl⟩|⟨ks,m,n1,n2,hK,hm,rfl⟩
  ·exact nc k95 hn
  ·exact nc (nl hx) hn
  ·exact nc (nl hx) (nc k64 (ih t _ _ _ hq hn))
  ·exact nc (nd hx) hn
  ·exact nc (nd hx) (nc k45 (nc (nd hd') hn))
  ·exact nc k40 (ih t _ _ _ h1 (nc k124 (ih t _ _ _ h2 (nc k41 hn))))
  ·have hmn:c∉m:=by rw[hm];split;exact nc k41 hn;exact hn
   have hdn:=znB k40 k44 ih _ _ _ _ _ hK hmn;have e2:s=s.take (zaA s)++s.drop (zaA s):=(List.take_append_drop _ _).symm;rw[e2,List.mem_append,not_or];exact⟨zpB hl hu,hdn⟩
theorem zmO {w:List Data}{n:Nat}{t:Ty}{s:Str}{p:Pat}{s':Str} (h:RdsP w n t s p s'):s≠[]:=by
 cases n with
 |zero=>exact h.elim
 |succ n=>
  rcases h with ⟨rfl,rfl⟩|⟨x,hx,rfl,hh,rfl⟩|⟨x,l,q,hx,rfl,hq,rfl⟩|⟨x,hx,rfl,hh,rfl⟩|⟨x,d,hx,hd',hne,rfl,rfl⟩|⟨l,x,m,y,rfl,h1,h2,rfl⟩|⟨ks,m,n1,n2,hK,hm,rfl⟩
  ·simp
  ·simp
  ·simp
  ·simp
  ·simp
  ·simp
  ·intro e;subst e;exact absurd n1 oi
theorem zlC {f:Ty->Pat->List Vt}{v:Vt}:∀ {ts:List Ty}{ks:List Pat},v∈za7 f ts ks->∃i,i<ts.length/\i<ks.length/\v∈f (nth ts i) (nth ks i)
 | [],_,h=>by simp[za7] at h
 |_::_,[],h=>by simp[za7] at h
 |t::ts,k::ks,h=>by
  simp only[za7,List.mem_append] at h;rcases h with h|h
  ·exact⟨0,by simp,by simp,h⟩
  ·obtain⟨i,h1,h2,h3⟩:=zlC h;exact⟨i+1,by simpa using h1,by simpa using h2,h3⟩
theorem znK {w:List Data}:∀(n:Nat){t:Ty}{p:Pat},zav w n t p=true->∀v∈zaJ w n t p,0<=v.var/\v.var<=5
 |0,t,p,h,v,hv=>by simp[zav] at h
 |n+1,t,p,h,v,hv=>by
  have ih:=fun {t:Ty}{p:Pat}=>znK (w:=w) n (t:=t) (p:=p);obtain⟨ho,hl⟩:=zcc h;rw[zaJ,List.mem_append] at hv;rcases hv with hv|hv
  ·unfold zaS at hv;split at hv
   ·rename_i hop;rw[List.mem_singleton] at hv;rw[hv];exact zjq ho hop
   ·simp at hv
  ·obtain⟨i,h1,h2,h3⟩:=zlC hv;have hpre:i<(zaf w t p).length/\nth (zcB w t p) i=nth (zaf w t p) i:=by
    unfold zcB at h1 ⊢;split at h1
    ·rename_i h5;rw[if_pos h5];rw[List.length_take] at h1;refine⟨by omega, ?_⟩;rw[zaY (by rw[List.length_take];omega),zaY oe,List.getElem_take]
    ·rename_i h5;rw[if_neg h5];exact⟨h1,rfl⟩
   rw[hpre.2] at h3;exact ih (zbC h h2) v h3
theorem zr2 {c:UInt8}{y:Str} (h:c∉y):cutL c [] y=[y]:=by
 have:=zhc (c:=c) (y:=y) [] [] h;rw[xaq] at this;rw[this];rfl
theorem zqS {z:Str} (h:rgOk z=true):∃c x d,z=[c,x,d]/\zaN c=true/\zbb d=true/\((x=60/\rgV z=⟨1,(c.toNat:Int)-97,(d.toNat:Int)-48⟩)\/(x=61/\rgV z=⟨2,(c.toNat:Int)-97,(d.toNat:Int)-48⟩)):=by
 by_cases hb:zeB z
 ·rw[(zo5 hb).2] at h;cases h
 have hb':=hb;unfold zeB at hb';simp only[not_or,Decidable.not_not] at hb';obtain⟨h3,h1,h2,h4,h5⟩:=hb';match z,h3,hb,h,h1,h2,h4,h5 with
 | [c,x,d],_,hb,h,h1,h2,h4,h5=>
  have n0:nth [c,x,d] 0=c:=rfl;have n1:nth [c,x,d] 1=x:=rfl;have n2:nth [c,x,d] 2=d:=rfl;rw[n0] at h1 h2;rw[n2] at h4 h5;refine⟨c,x,d,rfl,ze9 oe oe,zhd oe oe, ?_⟩;by_cases hx:((nth [c,x,d] 1).toNat:Int)=61
  ·right
   refine⟨b_eq (k:=61) oe (by rw[n1] at hx;exact hx), ?_⟩;rw[(zoa hb hx).1,n0,n2]
  ·left
   rw[(zlZ hb hx).2] at h;refine⟨b_eq (k:=60) oe (by have:=xas h;rw[n1] at this;exact this), ?_⟩;rw[(zlZ hb hx).1,n0,n2]
theorem zr9 {c x d:UInt8} (hc:zaN c=true) (hd:zbb d=true) (hx:x=60\/x=61):rgOk [c,x,d]=true/\rgV [c,x,d]=⟨if x=60 then 1 else 2,(c.toNat:Int)-97,(d.toNat:Int)-48⟩:=by
 have l:=zev hc;have g:=zdR hd;have hb:¬zeB [c,x,d]:=by
  unfold zeB;have n0:nth [c,x,d] 0=c:=rfl;have n2:nth [c,x,d] 2=d:=rfl;rw[n0,n2];rintro (h|h|h|h|h)
  ·exact h I
  all_goals omega
 rcases hx with rfl|rfl
 ·have:=zlZ hb (show ¬(((60:UInt8).toNat:Int))=61 by decide);exact⟨this.2,this.1⟩
 ·have:=zoa hb (show(((61:UInt8).toNat:Int))=61 by decide);exact⟨this.2,this.1⟩
theorem zps {c x d:UInt8} (hx:x=60\/x=61):zcm [c,x,d]=⟨if x=60 then 1 else 2,(c.toNat:Int)-97,(d.toNat:Int)-48⟩:=by
 rcases hx with rfl|rfl<;>rfl
theorem znD {w:List Data} (hA:A3 w){t:Ty} (ht:TyIn w.length t){z:Str} (h:rpOk w t z=true):
  RdsP w 10 t z (rpR w t z).1 []/\zax w 10 t (rpR w t z).1=z/\zaB w z 10 t 0=((rpR w t z).1,(z.length:Int)):=by
 unfold rpOk at h;simp only[xad,Bool.not_eq_true',xah] at h;obtain⟨h1,h2,h3⟩:=h;obtain⟨_,hR⟩:=zmK w 10 t ⟨z,false⟩ h1;have hs:(patR w 10 t ⟨z,false⟩).2.s=[]:=h2;rw[hs] at hR;obtain⟨m,a1,a2,a3⟩:=zlt hA z 10 t _ _ _ 0 ht hR rfl (Nat.zero_le _);have hm:m=z.length:=by
  rcases Nat.lt_or_ge m z.length with h4|h4
  ·rw[zbm h4] at a2;cases a2
  ·omega
 refine⟨hR, ?_,by rw[hm] at a3;exact a3⟩;have:=zmQ 10 t _ _ _ hR;rw[xaq] at this;exact this.symm
theorem zkR {w:List Data} (hA:A3 w){t:Ty} (ht:TyIn w.length t){y:Str} (h:zcG w t y=false):
  zbE w t (piC w t y)=y/\zez w t y=false/\pcC w t y=piC w t y:=by
 unfold zcG at h;simp only[Bool.or_eq_false_iff,Bool.not_eq_false',Bool.and_eq_false_iff] at h;obtain⟨h1,h2⟩:=h;rcases ziD 32 y [] with ⟨e1,e2,e3⟩|⟨k,e1,e2,e3,e4⟩
 ·have hc:=zkA (c:=32) (s:=y) oe;rw[hc] at h1 h2;obtain⟨r1,r2,r3⟩:=znD hA ht h1;have hw:wdsV y=[y]:=e2;have hp:piC w t y=⟨(rpR w t y).1,⟨0,0,0⟩⟩:=by unfold piC;rw[hc];rfl
  have hprv:prV w t y=((rpR w t y).1,(y.length:Int)):=by unfold prV;rw[hw];exact r3
  refine⟨?_, ?_, ?_⟩
  ·rw[hp];unfold zbE;rw[if_neg (show ¬(0:Int)=1 by decide),if_neg (show ¬(0:Int)=2 by decide)];exact r2
  ·unfold zez;rw[hprv,hw];show(!decide ((y.length:Int)=(y.length:Int))||(decide (y=[])||decide (2<1)))=false
   rw[xax rfl,xaw (zmO r1)];rfl
  ·rw[hp];unfold pcC;rw[hprv,hw];rfl
 ·have hc:=zja (c:=32) (s:=y) e1;rw[hc] at h1 h2;obtain⟨r1,r2,r3⟩:=znD hA ht h1;have hg:rgOk (y.drop (k+1))=true:=by rcases h2 with h2|h2;cases h2;exact h2
  obtain⟨c,x,d,hz,hlc,hdd,hop⟩:=zqS hg;have l:=zev hlc;have g:=zdR hdd;have hx:x=60\/x=61:=hop.imp (·.1) (·.1);have hn32:(32:UInt8)∉y.drop (k+1):=by
   rw[hz];simp only[List.mem_cons,xau,or_false,not_or];refine⟨fun e=>?_,fun e=>?_,fun e=>?_⟩
   ·rw[<-e] at hlc;revert hlc;decide
   ·rcases hx with rfl|rfl<;>revert e<;>decide
   ·rw[<-e] at hdd;revert hdd;decide
  have hw:wdsV y=[y.take k,y.drop (k+1)]:=by
   have e5:cutL 32 [] y=([]++y.take k)::cutL 32 [] (y.drop (k+1)):=e3;rw[zr2 hn32] at e5;exact e5
  have hy:=(zmy e1).1;have hp:piC w t y=⟨(rpR w t (y.take k)).1,rgV (y.drop (k+1))⟩:=by unfold piC;rw[hc];rfl
  have hprv:prV w t y=((rpR w t (y.take k)).1,((y.take k).length:Int)):=by unfold prV;rw[hw];exact r3
  refine⟨?_, ?_, ?_⟩
  ·rw[hp];unfold zbE;rw[hz] at hy;rcases hop with ⟨rfl,hr⟩|⟨rfl,hr⟩
   ·rw[hr,if_pos rfl];show zax w 10 t (rpR w t (y.take k)).1++[32]++letV ((c.toNat:Int)-97)++[60]++decV ((d.toNat:Int)-48)=y
    rw[r2,zfi hlc,zdQ hdd];refine Eq.trans ?_ hy.symm;simp
   ·rw[hr,if_neg (show ¬(2:Int)=1 by decide),if_pos rfl];show zax w 10 t (rpR w t (y.take k)).1++[32]++letV ((c.toNat:Int)-97)++[61]++decV ((d.toNat:Int)-48)=y
    rw[r2,zfi hlc,zdQ hdd];refine Eq.trans ?_ hy.symm;simp
  ·unfold zez;rw[hprv,hw];show(!decide (((y.take k).length:Int)=((y.take k).length:Int))||(decide (y.take k=[])||decide (2<2)))=false
   rw[xax rfl,xaw (zmO r1)];rfl
  ·rw[hp];unfold pcC;rw[hprv,hw];show Cl.mk _ (zcm (y.drop (k+1)))=_
   rw[hz,zps hx];rw[hz] at hop;rcases hop with ⟨rfl,hr⟩|⟨rfl,hr⟩
   ·rw[hr];rfl
   ·rw[hr];rfl
theorem zmh {w:List Data}{t:Ty}:∀(l:List Cl) (b:Bool),zct w t b l=jnS 47 b (l.map (zbE w t))
 | [],b=>rfl
 |c::r,b=>by rw[zct,xaf,jnS,zmh r false]
theorem znr {w:List Data}{t:Ty}{s:Str} (h:∀y∈pcP s,zez w t y=false):∀ {n:Nat},n<=(pcP s).length->pcN w t s n=some (((pcP s).take n).map (pcC w t))
 |0,_=>rfl
 |n+1,hn=>by
  have ih:=znr h (n:=n) oe;rw[zjt ih (h _ (zaq oe))];congr 1
  have e:(pcP s)[n]?=some (nth (pcP s) n):=str_at' oe;rw[List.take_add_one,e,xag];rfl
where str_at' {l:List Str}{i:Nat} (h:i<l.length):l[i]?=some (nth l i):=by rw[zaY h];exact xan h
theorem zmg {w:List Data}{t:Ty} (h:zaO w t=true):za8 w t []=true:=by unfold za8;rw[h];rfl
theorem zro {w:List Data} (hA:A3 w){t:Ty} (ht:TyIn w.length t){s:Str}{l:List Cl} (h:pcI w t s=some l):pcV w t s=some l:=by
 unfold pcI at h;split at h
 ·cases h
 rename_i h0;have h0':zaO w t=true:=by simpa using h0
 split at h
 ·rename_i hs;cases h
  exact zkT h0' (by unfold zb5;rw[if_pos hs];rfl) (zmg h0') hs.symm
 rename_i hs;split at h
 ·cases h
 rename_i h8;split at h
 ·cases h
 rename_i hb;have hb':∀y∈pcP s,zcG w t y=false:=fun y hy=>by
  cases e:zcG w t y with
  |false=>rfl
  |true=>exact absurd (List.any_eq_true.2 ⟨y,hy,e⟩) hb
 split at h
 ·rename_i hv;cases h
  have hmap:(pcP s).map (pcC w t)=(pcP s).map (piC w t):=List.map_congr_left (fun y hy=>(zkR hA ht (hb' y hy)).2.2);have hlim:zb5 s=(pcP s).length:=by unfold zb5;rw[if_neg hs,if_pos oe]
  refine zkT h0' ?_ hv ?_
  ·rw[hlim,znr (fun y hy=>(zkR hA ht (hb' y hy)).2.1) (Nat.le_refl _),List.take_length,hmap]
  ·rw[zmh,List.map_map];have:(pcP s).map (zbE w t ∘ piC w t)=pcP s:=by
    conv=>rhs;rw[<-List.map_id (pcP s)]
    exact List.map_congr_left (fun y hy=>(zkR hA ht (hb' y hy)).1)
   rw[this];have:=zkB 47 s [];rw[List.nil_append] at this;exact this
 ·cases h
theorem zqz {w:List Data}{t:Ty}{c:Cl} (h:clOk w t c=true):(c.g.op=0/\c.g.var=0/\c.g.n=0)\/((c.g.op=1\/c.g.op=2)/\0<=c.g.n/\c.g.n<=9/\0<=c.g.var/\c.g.var<=5):=by
 obtain⟨hp,hsh,hvars⟩:=zfe h;unfold clOk at h;rw[xad] at h;have h2:=h.2;unfold gdOk at h2;by_cases h0:c.g.op=0
 ·rw[if_pos h0] at h2;exact .inl ⟨h0,xas h2⟩
 ·rw[if_neg h0,xad] at h2;have h3:=xas h2.1;have h4:=xas h2.2;rw[<-hvars] at h4;have:=znK 10 hsh _ h4;exact .inr ⟨by omega,h3.2.2.1,h3.2.2.2,this.1,this.2⟩
theorem ziL {w:List Data} (hw:WT w) (hN:NmOk w){t:Ty} (ht:TyIn w.length t){c:Cl} (h:clOk w t c=true):
  zcG w t (zbE w t c)=false/\piC w t (zbE w t c)=c/\(47:UInt8)∉zbE w t c/\zbE w t c≠[]:=by
 obtain⟨hp,hsh,_⟩:=zfe h;have hR:=zik hw hN 10 t c.pat [] ht hsh zpM;rw[xaq] at hR;have hpr:rpR w t (zax w 10 t c.pat)=(c.pat,⟨[],false⟩):=znq w 10 t _ _ _ hR;have hok:rpOk w t (zax w 10 t c.pat)=true:=by unfold rpOk;rw[hpr];exact hp
 have n32:=zmP (c:=32) (.inl rfl) 10 t _ _ _ hR oh;have n47:=zmP (c:=47) (.inr rfl) 10 t _ _ _ hR oh;have hne:=zmO hR;obtain⟨pt,g⟩:=c;rcases zqz h with ⟨g0,g1,g2⟩|⟨g0,g1,g2,g3,g4⟩
 ·have ht':zbE w t ⟨pt,g⟩=zax w 10 t pt:=by unfold zbE;rw[if_neg oe,if_neg oe]
  rw[ht'];have hc:=zkA (c:=32) (s:=zax w 10 t pt) (by rw[zql n32];decide);refine⟨?_, ?_,n47,hne⟩
  ·unfold zcG;rw[hc];show(!rpOk w t (zax w 10 t pt)||(false&&_))=false
   rw[hok];rfl
  ·unfold piC;rw[hc];show Cl.mk (rpR w t (zax w 10 t pt)).1 (if false=true then _ else _)=_
   rw[hpr];obtain⟨a,b,d⟩:=g;simp only at g0 g1 g2;subst g0 g1 g2;rfl
 ·change g.op=1\/g.op=2 at g0
  change 0<=g.n at g1
  change g.n<=9 at g2
  change 0<=g.var at g3
  change g.var<=5 at g4
  obtain⟨v,hv,hv2⟩:=zmG g3 oe;obtain⟨d,hd,hd2⟩:=zmo g1 g2;obtain⟨x,hx,hxt⟩:∃x:UInt8,(x=60\/x=61)/\zbE w t ⟨pt,g⟩=zax w 10 t pt++32::[v,x,d]/\g.op=if x=60 then 1 else 2:=by
   rcases g0 with g0|g0
   ·refine⟨60,.inl rfl, ?_,g0⟩;unfold zbE;rw[if_pos g0];show zax w 10 t pt++[32]++letV g.var++[60]++decV g.n=_
    rw[hv2,hd2,zfi hv,zdQ hd];simp
   ·refine⟨61,.inr rfl, ?_,g0⟩;unfold zbE;rw[if_neg (show ¬g.op=1 by omega),if_pos g0];show zax w 10 t pt++[32]++letV g.var++[61]++decV g.n=_
    rw[hv2,hd2,zfi hv,zdQ hd];simp
  obtain⟨hxt,hop⟩:=hxt;rw[hxt];have hc:=zja (c:=32) (s:=zax w 10 t pt++32::[v,x,d]) (zqk n32);rw[show(zax w 10 t pt++32::[v,x,d]).take (zax w 10 t pt).length=zax w 10 t pt by simp,show(zax w 10 t pt++32::[v,x,d]).drop ((zax w 10 t pt).length+1)=[v,x,d] by simp] at hc;obtain⟨r1,r2⟩:=zr9 hv hd hx;refine⟨?_, ?_, ?_,by simp⟩
  ·unfold zcG;rw[hc];show(!rpOk w t (zax w 10 t pt)||(true&& !rgOk [v,x,d]))=false
   rw[hok,r1];rfl
  ·unfold piC;rw[hc];show Cl.mk (rpR w t (zax w 10 t pt)).1 (if true=true then rgV [v,x,d] else _)=_
   rw[hpr,if_pos rfl,r2,<-hop,<-hv2,<-hd2]
  ·simp only[List.mem_append,List.mem_cons,xau,or_false,not_or];refine⟨n47,by decide,fun e=>?_,fun e=>?_,fun e=>?_⟩
   ·rw[<-e] at hv;revert hv;decide
   ·rcases hx with rfl|rfl<;>revert e<;>decide
   ·rw[<-e] at hd;revert hd;decide
theorem zrn {w:List Data} (hw:WT w) (hN:NmOk w){t:Ty} (ht:TyIn w.length t){s:Str}{l:List Cl} (h:pcV w t s=some l):pcI w t s=some l:=by
 unfold pcV at h;split at h
 ·rename_i h0;cases e:pcN w t s (zb5 s) with
  |none=>rw[e] at h;cases h
  |some r=>
   rw[e] at h;dsimp only at h;split at h
   ·rename_i hv;cases h
    obtain⟨hv,htx⟩:=hv;obtain⟨_,hl8,hcl⟩:=zk7 hv;have hc':∀c∈l,clOk w t c=true:=fun c hm=>by
     obtain⟨i,hi,rfl⟩:=List.getElem_of_mem hm;rw[<-zaY hi];exact hcl i hi
    by_cases hl:l=[]
    ·subst hl;have hs:s=[]:=htx.symm;rw[hs];exact ziN h0
    ·have hP:pcP s=l.map (zbE w t):=by
      unfold pcP;rw[<-htx,zmh];exact zoF (by simpa using hl) (fun y hy=>by obtain⟨c,hc,rfl⟩:=List.mem_map.1 hy;exact(ziL hw hN ht (hc' c hc)).2.2.1)
     have hs:¬s=[]:=fun hs=>by
      rw[hs] at htx;cases l with
      |nil=>exact hl I
      |cons c r=>
       rw[zct] at htx;have:=(List.append_eq_nil_iff.1 (List.append_eq_nil_iff.1 htx).1).2;exact(ziL hw hN ht (hc' c oh)).2.2.2 this
     have hmap:(pcP s).map (piC w t)=l:=by
      rw[hP,List.map_map];conv=>rhs;rw[<-List.map_id l]
      exact List.map_congr_left (fun c hc=>(ziL hw hN ht (hc' c hc)).2.1)
     rw[ziM h0 hs (by rw[hP,xac];omega) (fun y hy=>by rw[hP] at hy;obtain⟨c,hc,rfl⟩:=List.mem_map.1 hy;exact(ziL hw hN ht (hc' c hc)).1),hmap,if_pos hv]
   ·cases h
 ·cases h
theorem zr7 {w:List Data} (hs:WSmall w){a k:Int} (s:Str):pcI w ⟨a,k⟩ s=pcV w ⟨a,k⟩ s:=by
 cases htv:zaO w ⟨a,k⟩ with
 |false=>rw[zke htv,zoX htv]
 |true=>
  obtain⟨wv,ht,_⟩:=zcU htv;have hw:=zdH hs wv;have hA:=zgc hs wv;cases e:pcI w ⟨a,k⟩ s with
  |some l=>exact(zro hA ht e).symm
  |none=>
   cases e2:pcV w ⟨a,k⟩ s with
   |none=>rfl
   |some l=>rw[zrn hw (zpP wv) ht e2] at e;cases e
theorem zmJ (m:Bool) (y:Cl) (rest:List Cl):zag m ((y::rest).map Cl.c) = .d (.i y.pat.op):: .d (.i y.pat.ctor):: .d (.i y.pat.n):: .d (.i y.pat.m):: .d (.i y.pat.var):: .own m (zaC y.pat.kids):: .d (.i y.g.op):: .d (.i y.g.var):: .d (.i y.g.n)::zag m (rest.map Cl.c):=rfl
theorem zf7 (m:Bool) (l:List Cl) (y:Cl):zag m ((l++[y]).map Cl.c)=zag m (l.map Cl.c)++[.d (.i y.pat.op),.d (.i y.pat.ctor),.d (.i y.pat.n),.d (.i y.pat.m),.d (.i y.pat.var),.own m (zaC y.pat.kids),.d (.i y.g.op),.d (.i y.g.var),.d (.i y.g.n)]:=by
 rw[xag,zgu];rfl
theorem xaL {l:List Cl}:∀x,x∈l.map Cl.c->x.length=9:=by
 intro x hx;obtain⟨y,_,rfl⟩:=List.mem_map.1 hx;rfl
theorem zaX (m:Bool) (l:List Cl):(zag m (l.map Cl.c)).length=l.length*9:=by
 rw[zbW (k:=9) xaL,xac]
def Cl.szM (c:Cl):Int:=c.pat.szM+3
def Cl.one (k:Int) (c:Cl):Cl:=⟨c.pat.one k,⟨k+1+1+1+1+1+szL Pat.szM c.pat.kids,k+1+1+1+1+1+szL Pat.szM c.pat.kids+1,k+1+1+1+1+1+szL Pat.szM c.pat.kids+1+1⟩⟩
theorem xaN (c:Cl):0<=c.szM:=by have:=xa7 c.pat;unfold Cl.szM;omega
theorem xaM (c:Cl):c.szM=5+szL Pat.szM c.pat.kids+3:=by unfold Cl.szM;rw[xa5]
theorem Cl.szM_le (c:Cl):c.szM<=8+5*(mCl c:Int):=by have:=xa6 c.pat;unfold Cl.szM mCl;omega
theorem Cls.szM_le:∀l:List Cl,szL Cl.szM l<=8*(mCls l:Int)
 | []=>by simp[szL,mCls]
 |c::r=>by
  have h1:=Cl.szM_le c;have h2:=Cls.szM_le r;simp only[szL,mCls,xab,xaf,List.sum_cons] at *;omega
theorem zj5 {m:Bool}{l:List Pat}{k:Int} (h0:0<k) (h1:k+szL Pat.szM l<=1000000000000) (hl:l.length<=1000000000000) (hok:Pats.ok l):FnD Tryz.prog 32 [.ms 47 l.length,.d (.i k)] [(47,some (.tree (zag m (Pat.cs l))))]
  (.d (.i (k+szL Pat.szM l))) [(47,some (.tree (zag false (Pat.cs (mkL Pat.one Pat.szM k l)))))]:=zf4 (zhl _ (Nat.le_refl _) h0 h1 hl hok)
theorem oz{p:Prop}(h:p:=by rw[zal];all_goals rfl):p:=h
theorem zhQ {m:Bool}{l:List Cl}{k:Int} (h0:0<k) (h1:k+szL Cl.szM l<=1000000000000) (hok:ClsOk l):FnD Tryz.prog 12 [.ms 48 l.length,.d (.i k)] [(48,some (.tree (zag m (l.map Cl.c))))]
  (.d (.i (k+szL Cl.szM l))) [(48,some (.tree (zag false ((mkL Cl.one Cl.szM k l).map Cl.c))))]:=by
 have hl:=hok.1;have hpk:=fun(c:Cl) (hc:c∈l)=>(xa1 c.pat).1 (hok.2 c hc);refine bd Tryz.f12 85 [57] [14,15,1000009] fun _ _ _ _ hk=>?_;refine xaD (ι:=List (Cl)×List (Cl)×(Int)) hk (fun x=>[(5,.d (.i (x.1.length:Int))),(1,.d (.i x.2.2))]) [6,7,8,9,10,11,12,13,14,15,16,17,18,19,20,21,22,23,24,25,26,27,28,29,30,31,32,33,34,35,36,37,38,39,40,41,42,43,44,45,46,47,48,49,50,51,52,53,54,55,56,57,58,59,60,61,62,63,64,65,66,67,68,69,70,71,72,73,74,75,76,77,78,79,80,81,82,83] (fun x=>[(48,some (.tree (zag false ((mkL Cl.one Cl.szM k x.1).map Cl.c)++zag m (x.2.1.map Cl.c))))]) (fun x=>x.1++x.2.1=l/\x.2.2=k+szL Cl.szM x.1) (fun x=>x.2.1.length) ([],l,k) ⟨by simp,by simp[szL]⟩ ⟨⟨_,I,xaT ?_⟩,⟨⟨_,I,xaT ?_⟩,O⟩⟩ ⟨?_,O⟩ (fun x=>rfl) (fun x hg1=>?_);iterate 2 focus (first|rfl|(simp;done)|omega|(refine Eq.trans (b:=v+Cl.szM y) ?_ I;omega))
 focus (first|rfl|(show some (Res.tree _)=some (Res.tree _);rw[zbS,zf7,<-hg1.2];simp only[Cl.one,xa2,xa3 y.pat v,xar,xai,List.nil_append];all_goals rfl))
 obtain⟨pre,rest,v⟩:=x;dsimp only at hg1 ⊢;refine evc [57] [14,15,1000009] (cq (fun h1 h1p h1s=>?_) fun h1 h1p h1s=>?_);try simp only[Q] at h1p
 rcases rest with _|⟨y,rest⟩
 ·exfalso;simp_all
 have hsp:=zdF (sz:=Cl.szM) hg1.1;have hnn:=zaU (l:=rest) xaN;have hnp:=zaU (l:=pre) xaN;have hys:=xaM y;have hya:=zaU (l:=y.pat.kids) xa7;have hv:=hg1.2;refine xaF 48 (zag false ((mkL Cl.one Cl.szM k pre).map Cl.c)++(.d (.i y.pat.op):: .d (.i y.pat.ctor):: .d (.i y.pat.n):: .d (.i y.pat.m):: .d (.i y.pat.var):: .own m (zaC y.pat.kids):: .d (.i y.g.op):: .d (.i y.g.var):: .d (.i y.g.n)::zag m (rest.map Cl.c))) I (by rw[zmJ]) ?_;refine evc [57] [14,15,1000009] (xbN sl26 .none I I I I oo ?_);refine evs [57] [] (xb6 ty3 .none I I I I I I oh ((zaI ((zaX false _).trans oz) zgY)) ?_);apply tv;refine ar (xbN sl26 .none I I I I oo ?_);refine evs [57] [] (xb6 ty3 .none I I I I I I oh ((zaI ((zaX false _).trans oz) zc3)) ?_);apply tv;refine ar (xbN sl26 .none I I I I oo ?_);refine evs [57] [] (xb6 ty3 .none I I I I I I oh ((zaI ((zaX false _).trans oz) ziO)) ?_);apply tv;refine ar (xbN sl26 .none I I I I oo ?_);refine evs [57] [] (xb6 ty3 .none I I I I I I oh ((zaI ((zaX false _).trans oz) znw)) ?_);apply tv;refine ar (xbN sl26 .none I I I I oo ?_);refine evs [57] [] (xb6 ty3 .none I I I I I I oh ((zaI ((zaX false _).trans oz) znx)) ?_);apply tv;refine ar ?_;by_cases hs2:y.pat.kids=[]
 refine xaz 48 (pre.length*9+5) I (za5 ((zaX false _).trans oz) I) (by simp[hs2,xaZ,xaY,Pat.cs]) (zaI ((zaX false _).trans oz) zef) ?_;refine evc [57] [] (xbN sl26 .none I I I I oo ?_);refine evs [57] [] (xbT ty45 .none I I I ((by rw[za5 ((zaX false _).trans oz) rfl];rfl)) ?_);refine evs [57] [] (Walk.call (cr:=[]) zlQ (zea hs2) I .none I I (LeL.refl _) O I og od ?_);refine evs [57] [] (xaB 48 (pre.length*9+5) false I (xs:=Pat.cs (mkL Pat.one Pat.szM (v+1+1+1+1+1) y.pat.kids)) I (za5 ((zaX false _).trans oz) I) (by simp[hs2,mkL,Pat.cs]) (zaI ((zaX false _).trans oz) zef) ?_);refine evc [57] [] (xbN sl26 .none I I I I oo ?_);refine evs [57] [] (xb6 ty3 .none I I I I I I oh ((zaI (o:=pre.length*9) (j:=6) ((zaX false _).trans uc) zny)) ?_);apply tv;refine ar (xbN sl26 .none I I I I oo ?_);refine evs [57] [] (xb6 ty3 .none I I I I I I oh ((zaI (o:=pre.length*9) (j:=7) ((zaX false _).trans uc) znz)) ?_);apply tv;refine ar (xbN sl26 .none I I I I oo ?_);refine evs [57] [] (xb6 ty3 .none I I I I I I oh ((zaI (o:=pre.length*9) (j:=8) ((zaX false _).trans uc) znA)) ?_);apply tv;refine ar (ar (xaj ((pre++[y],rest,v+Cl.szM y)) ⟨⟨(by have hz:=hg1.1;rw[<-hz];simp),(by show v+Cl.szM y=_;rw[zcA,hg1.2];omega)⟩,oh,sx ⟨⟨_,I,xaT ?_⟩,⟨⟨_,I,xaT ?_⟩,O⟩⟩ ⟨?_,O⟩⟩));iterate 2 focus (first|rfl|(simp;done)|omega|(refine Eq.trans (b:=v+Cl.szM y) ?_ I;omega))
 focus (first|rfl|(show some (Res.tree _)=some (Res.tree _);rw[zbS,zf7,<-hg1.2];simp only[Cl.one,xa2,xa3 y.pat v,xar,xai,List.nil_append];all_goals rfl))
 refine CWp.split 48 (pre.length*9+5) 47 I (za5 ((zaX false _).trans oz) I) (by simp[hs2,xaZ,xaY,Pat.cs]) od (zaI ((zaX false _).trans oz) zef) ?_;refine evc [57] [] (xbN sl26 .none I I I I oo ?_);refine evs [57] [] (xbT ty45 .none I I I ((by rw[za5 ((zaX false _).trans oz) rfl];rfl)) ?_);refine evs [57] [] (Walk.call (cr:=[]) zlQ (zj5 (l:=y.pat.kids) (k:=v+1+1+1+1+1) oe oe (hpk y (by rw[<-hg1.1];simp)).1 (hpk y (by rw[<-hg1.1];simp)).2) I .none I I (.cons (xaV (by first|rfl|(simp[xaZ,xaY,Pat.cs];done))) (.cons (.refl _) .nil)) ⟨by first|rfl|(simp;rfl),O⟩ I og od ?_);refine evs [57] [] (CWp.merge hk 48 (pre.length*9+5) 47 6 _ I (za5 ((zaX false _).trans oz) I) (by simp[zal,xaZ,xaY,Pat.cs]) I xa0 I I (zaI ((zaX false _).trans oz) zef) ?_);refine evc [57] [] (xbN sl26 .none I I I I oo ?_);refine evs [57] [] (xb6 ty3 .none I I I I I I oh ((zaI (o:=pre.length*9) (j:=6) ((zaX false _).trans uc) zny)) ?_);apply tv;refine ar (xbN sl26 .none I I I I oo ?_);refine evs [57] [] (xb6 ty3 .none I I I I I I oh ((zaI (o:=pre.length*9) (j:=7) ((zaX false _).trans uc) znz)) ?_);apply tv;refine ar (xbN sl26 .none I I I I oo ?_);refine evs [57] [] (xb6 ty3 .none I I I I I I oh ((zaI (o:=pre.length*9) (j:=8) ((zaX false _).trans uc) znA)) ?_);apply tv;refine ar (ar (xaj ((pre++[y],rest,v+Cl.szM y)) ⟨⟨(by have hz:=hg1.1;rw[<-hz];simp),(by show v+Cl.szM y=_;rw[zcA,hg1.2];omega)⟩,oh,sx ⟨⟨_,I,xaT ?_⟩,⟨⟨_,I,xaT ?_⟩,O⟩⟩ ⟨?_,O⟩⟩));iterate 2 focus (first|rfl|(simp;done)|omega|(refine Eq.trans (b:=v+Cl.szM y) ?_ I;omega))
 focus (first|rfl|(show some (Res.tree _)=some (Res.tree _);rw[zbS,zf7,<-hg1.2];simp only[Cl.one,xa2,xa3 y.pat v,xar,xai,List.nil_append];all_goals rfl))
 try simp only[Q] at h1p
 have hrest:rest=[]:=by
  rcases rest with _|⟨a,b⟩
  ·rfl
  ·exfalso;have hz:=xam List.length (hg1.1);simp only[xaa,xab,xac] at hz;omega
 subst hrest;refine evc [57] [14,15,1000009] (rn [(48,some (.tree (zag false ((mkL Cl.one Cl.szM k l).map Cl.c))))] (r1 I) (.eqd ?_) ⟨I,I⟩ (SubO.get ⟨.inr ?_,⟨.inl I,O⟩⟩) (zao I));rotate_left 2;all_goals (first|((first|rfl|(obtain⟨hg1,hv⟩:=hg1;rw[xaq] at hg1;subst hg1;rw[hv]));done)|(first|rfl|(obtain⟨hg1,_⟩:=hg1;rw[xaq] at hg1;subst hg1;show some (Res.tree _)=some (Res.tree _);simp[zbG];done)))
theorem zgX {pre rest l:List Pat}{y:Pat}{k:Int} (h:pre++y::rest=l):(Pat.cs (mkL Pat.one Pat.szM k l))[pre.length]?=some (Pat.cc (Pat.one (k+szL Pat.szM pre) y)):=by
 rw[xaW];exact zoM h
theorem zeu:∀(n:Nat){l:List Pat}{k:Int},Pats.size l<n->0<k->k+szL Pat.szM l<=1000000000000->l.length<=1000000000000->Pats.ok l->
  FnD Tryz.prog 33 [.d (zaC (mkL Pat.one Pat.szM k l)),.d (.i k)] [] (.d (.i (k+szL Pat.szM l))) []
 |0,l,k,h,_,_,_,_=>absurd h (Nat.not_lt_zero _)
 |n+1,l,k,h,h0,h1,hl,hok=>by
  have hcall:∀(y:Pat) (v:Int) (q:Int),y∈l->v=q->0<v->v+5+szL Pat.szM y.kids<=1000000000000->FnD Tryz.prog 33 [.d (zaC (Pat.one q y).kids),.d (.i (v+1+1+1+1+1))] [] (.d (.i (v+1+1+1+1+1+szL Pat.szM y.kids))) []:=fun y v q hy e h2 h3=>by
   subst e;rw[xa2];have ho:=(xa1 y).1 (xa9 hok y hy);exact zeu n (by have hm:=xbb hy;rw[xa4] at hm;omega) oe oe ho.1 ho.2
  refine bd Tryz.f33 67 [] [] fun _ _ _ _ hk=>?_;refine xaD (ι:=List (Pat)×List (Pat)×(Int)) hk (fun x=>[(5,.d (.i (x.1.length:Int))),(1,.d (.i x.2.2))]) [4,6,7,8,9,10,11,12,13,14,15,16,17,18,19,20,21,22,23,24,25,26,27,28,29,30,31,32,33,34,35,36,37,38,39,40,41,42,43,44,45,46,47,48,49,50,51,52,53,54,55,56,57,58,59,60,61,62,63,64,65] (fun x=>[]) (fun x=>x.1++x.2.1=l/\x.2.2=k+szL Pat.szM x.1) (fun x=>x.2.1.length) ([],l,k) ⟨by simp,by simp[szL]⟩ ⟨⟨_,I,xaT ?_⟩,⟨⟨_,I,xaT ?_⟩,O⟩⟩ O (fun x=>rfl) (fun x hg1=>?_);iterate 2 focus (first|rfl|(simp;done)|omega|(refine Eq.trans (b:=v+Pat.szM y) ?_ I;omega))
  obtain⟨pre,rest,v⟩:=x;dsimp only at hg1 ⊢;refine evc [] [] ?_;apply sq<;>intro h1 h1p h1s<;>(try simp only[Q,zal,xaY] at h1p);rcases rest with _|⟨y,rest⟩
  ·exfalso;simp_all
  have hsp:=zdF (sz:=Pat.szM) hg1.1;have hnn:=zaU (l:=rest) xa7;have hnp:=zaU (l:=pre) xa7;have hys:=xa5 y;have hya:=zaU (l:=y.kids) xa7;have hv:=hg1.2;refine ixq sl45 I I I (zgX hg1.1) I (ev ?_);apply sq<;>intro h2 h2p h2s<;>(try simp only[Q,zal,xaY] at h2p);exfalso;revert h2;simp[xa3,hv];refine ar (ixq sl45 I I I (zgX hg1.1) I (ev ?_));apply sq<;>intro h3 h3p h3s<;>(try simp only[Q,zal,xaY] at h3p);exfalso;revert h3;simp[xa3,hv];refine ar (ixq sl45 I I I (zgX hg1.1) I (ev ?_));apply sq<;>intro h4 h4p h4s<;>(try simp only[Q,zal,xaY] at h4p);exfalso;revert h4;simp[xa3,hv];refine ar (ixq sl45 I I I (zgX hg1.1) I (ev ?_));apply sq<;>intro h5 h5p h5s<;>(try simp only[Q,zal,xaY] at h5p);exfalso;revert h5;simp[xa3,hv];refine ar (ixq sl45 I I I (zgX hg1.1) I (ev ?_));apply sq<;>intro h6 h6p h6s<;>(try simp only[Q,zal,xaY] at h6p);exfalso;revert h6;simp[xa3,hv];refine ar (ixq sl45 I I I (zgX hg1.1) I (ev (wc zp5 (hcall y v _ (by rw[<-hg1.1];simp) hv oe oe) I I ?_)));refine ev ?_;apply sq<;>intro h7 h7p h7s<;>(try simp only[Q,zal,xaY] at h7p);exfalso;omega;refine ar (xaj ((pre++[y],rest,v+Pat.szM y)) ⟨⟨(by have hz:=hg1.1;rw[<-hz];simp),(by show v+Pat.szM y=_;rw[zcA,hg1.2];omega)⟩,oh,sx ⟨⟨_,I,xaT ?_⟩,⟨⟨_,I,xaT ?_⟩,O⟩⟩ O⟩);iterate 2 focus (first|rfl|(simp;done)|omega|(refine Eq.trans (b:=v+Pat.szM y) ?_ I;omega))
  have hrest:rest=[]:=by
   rcases rest with _|⟨a,b⟩
   ·rfl
   ·exfalso;have hz:=xam List.length (hg1.1);simp only[xaa,xab,xac] at hz;omega
  subst hrest;refine rq ?_;rotate_left;all_goals (first|rfl|(obtain⟨hg1,hv⟩:=hg1;rw[xaq] at hg1;subst hg1;rw[hv]))
theorem zey {pre rest l:List Cl}{y:Cl}{k:Int} (h:pre++y::rest=l):((mkL Cl.one Cl.szM k l).map Cl.c)[pre.length]?=some (Cl.c (Cl.one (k+szL Cl.szM pre) y)):=zoM h
theorem zcF {l:List Cl}{k:Int} (h0:0<k) (h1:k+szL Cl.szM l<=1000000000000) (hok:ClsOk l):
  FnD Tryz.prog 13 [.d (zcx (mkL Cl.one Cl.szM k l)),.d (.i k)] [] (.d (.i (k+szL Cl.szM l))) []:=by
 have hl:=hok.1;have hcall:∀(y:Cl) (v:Int) (q:Int),y∈l->v=q->0<v->v+5+szL Pat.szM y.pat.kids<=1000000000000->FnD Tryz.prog 33 [.d (zaC (Cl.one q y).pat.kids),.d (.i (v+1+1+1+1+1))] [] (.d (.i (v+1+1+1+1+1+szL Pat.szM y.pat.kids))) []:=fun y v q hy e h2 h3=>by
  subst e;show FnD Tryz.prog 33 [.d (zaC (Pat.one v y.pat).kids),_] [] _ []
  rw[xa2];have ho:=(xa1 y.pat).1 (hok.2 y hy);exact zeu _ (Nat.lt_succ_self _) oe oe ho.1 ho.2
 refine bd Tryz.f13 103 [] [] fun _ _ _ _ hk=>?_;refine xaD (ι:=List (Cl)×List (Cl)×(Int)) hk (fun x=>[(5,.d (.i (x.1.length:Int))),(1,.d (.i x.2.2))]) [4,6,7,8,9,10,11,12,13,14,15,16,17,18,19,20,21,22,23,24,25,26,27,28,29,30,31,32,33,34,35,36,37,38,39,40,41,42,43,44,45,46,47,48,49,50,51,52,53,54,55,56,57,58,59,60,61,62,63,64,65,66,67,68,69,70,71,72,73,74,75,76,77,78,79,80,81,82,83,84,85,86,87,88,89,90,91,92,93,94,95,96,97,98,99,100,101] (fun x=>[]) (fun x=>x.1++x.2.1=l/\x.2.2=k+szL Cl.szM x.1) (fun x=>x.2.1.length) ([],l,k) ⟨by simp,by simp[szL]⟩ ⟨⟨_,I,xaT ?_⟩,⟨⟨_,I,xaT ?_⟩,O⟩⟩ O (fun x=>rfl) (fun x hg1=>?_);iterate 2 focus (first|rfl|(simp;done)|omega|(refine Eq.trans (b:=v+Cl.szM y) ?_ I;omega))
 obtain⟨pre,rest,v⟩:=x;dsimp only at hg1 ⊢;refine evc [] [] ?_;apply sq<;>intro h1 h1p h1s<;>(try simp only[Q,zal] at h1p);rcases rest with _|⟨y,rest⟩
 ·exfalso;simp_all
 have hsp:=zdF (sz:=Cl.szM) hg1.1;have hnn:=zaU (l:=rest) xaN;have hnp:=zaU (l:=pre) xaN;have hys:=xaM y;have hya:=zaU (l:=y.pat.kids) xa7;have hv:=hg1.2;refine ixq sl26 I I I (zey hg1.1) I (ev ?_);apply sq<;>intro h2 h2p h2s<;>(try simp only[Q,zal] at h2p);exfalso;revert h2;simp[Cl.one,xa3,hv];refine ar (ixq sl26 I I I (zey hg1.1) I (ev ?_));apply sq<;>intro h3 h3p h3s<;>(try simp only[Q,zal] at h3p);exfalso;revert h3;simp[Cl.one,xa3,hv];refine ar (ixq sl26 I I I (zey hg1.1) I (ev ?_));apply sq<;>intro h4 h4p h4s<;>(try simp only[Q,zal] at h4p);exfalso;revert h4;simp[Cl.one,xa3,hv];refine ar (ixq sl26 I I I (zey hg1.1) I (ev ?_));apply sq<;>intro h5 h5p h5s<;>(try simp only[Q,zal] at h5p);exfalso;revert h5;simp[Cl.one,xa3,hv];refine ar (ixq sl26 I I I (zey hg1.1) I (ev ?_));apply sq<;>intro h6 h6p h6s<;>(try simp only[Q,zal] at h6p);exfalso;revert h6;simp[Cl.one,xa3,hv];refine ar (ixq sl26 I I I (zey hg1.1) I (ev (wc zp5 (hcall y v _ (by rw[<-hg1.1];simp) hv oe oe) I I ?_)));refine ev ?_;apply sq<;>intro h7 h7p h7s<;>(try simp only[Q,zal] at h7p);exfalso;omega;refine ixq sl26 I I I (zey hg1.1) I (ev ?_);apply sq<;>intro h8 h8p h8s<;>(try simp only[Q,zal] at h8p);exfalso;revert h8;simp[Cl.one,hv];refine ar (ixq sl26 I I I (zey hg1.1) I (ev ?_));apply sq<;>intro h9 h9p h9s<;>(try simp only[Q,zal] at h9p);exfalso;revert h9;simp[Cl.one,hv];refine ar (ixq sl26 I I I (zey hg1.1) I (ev ?_));apply sq<;>intro h10 h10p h10s<;>(try simp only[Q,zal] at h10p);exfalso;revert h10;simp[Cl.one,hv];refine ar (ar (xaj ((pre++[y],rest,v+Cl.szM y)) ⟨⟨(by have hz:=hg1.1;rw[<-hz];simp),(by show v+Cl.szM y=_;rw[zcA,hg1.2];omega)⟩,oh,sx ⟨⟨_,I,xaT ?_⟩,⟨⟨_,I,xaT ?_⟩,O⟩⟩ O⟩));iterate 2 focus (first|rfl|(simp;done)|omega|(refine Eq.trans (b:=v+Cl.szM y) ?_ I;omega))
 have hrest:rest=[]:=by
  rcases rest with _|⟨a,b⟩
  ·rfl
  ·exfalso;have hz:=xam List.length (hg1.1);simp only[xaa,xab,xac] at hz;omega
 subst hrest;refine rq ?_;rotate_left;all_goals (first|rfl|(obtain⟨hg1,hv⟩:=hg1;rw[xaq] at hg1;subst hg1;rw[hv]))
mutual
theorem xa8:∀v:Pat,v.szM=5*(v.size:Int)
 | .mk _ _ _ _ _ ks=>by have:=xbg ks;simp only[Pat.szM,Pat.size];omega
theorem xbg:∀l:List Pat,Pats.szM l=5*(Pats.size l:Int)
 | []=>rfl
 |v::r=>by have:=xa8 v;have:=xbg r;simp only[Pats.szM,Pats.size];omega
end
theorem zmf:∀ {l:List Cl}{m:Int},(∀c∈l,c.szM<=m)->szL Cl.szM l<=(l.length:Int)*m
 | [],m,_=>by simp[szL]
 |c::r,m,h=>by
  have h1:=h c oh;have h2:=zmf (l:=r) (m:=m) (fun d hd=>h d (by simp[hd]));have h3:(((c::r).length:Nat):Int)*m=(r.length:Int)*m+m:=by rw[xab];push_cast;rw[Int.add_mul];omega
  simp only[szL];omega
theorem zrm {w:List Data} (hs:WSmall w){a k:Int}{s:Str}{l:List Cl} (h:pcI w ⟨a,k⟩ s=some l):ClsOk l/\szL Cl.szM l<=100000000:=by
 cases htv:zaO w ⟨a,k⟩ with
 |false=>rw[zke htv] at h;cases h
 |true=>
  obtain⟨wv,ht,_⟩:=zcU htv;have hA:=zgc hs wv;by_cases hsn:s=[]
  ·subst hsn;rw[ziN htv] at h;obtain rfl:=Option.some.inj h;exact⟨⟨by simp,by simp⟩,by simp[szL]⟩
  ·by_cases h8:8<(pcP s).length
   ·rw[zjs htv hsn h8] at h;cases h
   ·by_cases hg:∀y∈pcP s,zcG w ⟨a,k⟩ y=false
    ·rw[ziM htv hsn h8 hg] at h;split at h
     ·obtain rfl:=Option.some.inj h;have hok:∀y,(piC w ⟨a,k⟩ y).pat.ok/\(piC w ⟨a,k⟩ y).pat.size<=4 ^ 10:=fun y=>zfT hA 10 (t:=⟨a,k⟩) ⟨(cutB 32 y).1,false⟩ ht;refine⟨⟨by rw[xac];omega,fun c hc=>?_⟩, ?_⟩
      ·obtain⟨y,_,rfl⟩:=List.mem_map.1 hc;exact(hok y).1
      ·have:=zmf (l:=(pcP s).map (piC w ⟨a,k⟩)) (m:=5*4 ^ 10+3) (fun c hc=>by
        obtain⟨y,_,rfl⟩:=List.mem_map.1 hc;have h2:=(hok y).2;unfold Cl.szM;rw[xa8];omega)
       rw[xac] at this;omega
     ·cases h
    ·obtain⟨y,hy⟩:=Classical.not_forall.1 hg;obtain⟨hy1,hy2⟩:=Classical.not_imp.1 hy;rw[zkS htv hsn hy1 (by simpa using hy2)] at h;cases h
theorem zif {l:List Data}{k:Int} (h0:0<k) (h1:k+szL Data.sz l<=1000000000000) (hl:WSmall l):FnD Tryz.prog 11 [.ms 63 l.length,.d (.i k)] [(63,some (.tree (zag false (l.map Data.c))))]
  (.d (.i (k+szL Data.sz l))) [(63,some (.tree (zag false ((mkL Data.one Data.sz k l).map Data.c))))]:=FnD.ren rfl (zaa _ _) (zaa _ _) (ziV h0 h1 hl) 63
theorem zkU {m:Bool}{l:List Cl}{k:Int} (h0:0<k) (h1:k+szL Cl.szM l<=1000000000000) (hok:ClsOk l):FnD Tryz.prog 12 [.ms 65 l.length,.d (.i k)] [(65,some (.tree (zag m (l.map Cl.c))))]
  (.d (.i (k+szL Cl.szM l))) [(65,some (.tree (zag false ((mkL Cl.one Cl.szM k l).map Cl.c))))]:=FnD.ren rfl (zaa _ _) (zaa _ _) (zhQ h0 h1 hok) 65
theorem zie {l:List Cl}{k:Int} (hl:l=[]):FnD Tryz.prog 12 [.d (.sl []),.d (.i k)] [] (.d (.i (k+szL Cl.szM l))) []:=by
 subst hl;refine bd Tryz.f12 85 [] [] fun _ _ _ _ hk=>?_;refine xaD (ι:=Unit) hk (fun x=>[(5,.d (.i 0)),(1,.d (.i k))]) [6,7,8,9,10,11,12,13,14,15,16,17,18,19,20,21,22,23,24,25,26,27,28,29,30,31,32,33,34,35,36,37,38,39,40,41,42,43,44,45,46,47,48,49,50,51,52,53,54,55,56,57,58,59,60,61,62,63,64,65,66,67,68,69,70,71,72,73,74,75,76,77,78,79,80,81,82,83] (fun x=>[]) (fun x=>True) (fun x=>0) () O ⟨⟨_,I,xaT ?_⟩,⟨⟨_,I,xaT ?_⟩,O⟩⟩ O (fun x=>rfl) (fun x hg1=>?_);iterate 2 focus (first|rfl|(simp;done)|(simp_all;done)|omega)
 refine evc [] [] ?_;apply sq<;>intro h1 h1p h1s<;>(try simp only[Q] at h1p);exfalso;revert h1;simp;refine rq ?_;rotate_left;all_goals (first|rfl|(simp[szL];done))
theorem o0{p:Prop}(h:p:=by first|rfl|(simp only[zdo,zdd,zbs,AV.ids];rfl)):p:=h
theorem ub{p:Prop}(h:p:=by first|rfl|(simp[zal];done)):p:=h
theorem zhP {w:List Data} (hs:WSmall w){a k:Int}{s:Str}{r:List Cl} (hro:ClsOk r) (hrz:szL Cl.szM r<=100000000)
  (hspec:FnD Tryz.prog 5 [.d (zam w),.agg [.d (.i a),.d (.i k)],.d (.str s)] [] (.tup [.d (zcx r),.d (.bool true)]) [])
  (himp:FnD Tryz.prog 8 [.d (zam w),.agg [.d (.i a),.d (.i k)],.d (.str s)] [] (.tup [.d (zcx r),.d (.bool true)]) [])
  (hown:FnD Tryz.prog 8 [.d (zam w),.agg [.d (.i a),.d (.i k)],.d (.str s)] [] (.tup [.ms 65 (r.map Cl.c).length,.d (.bool true)]) [(65,some (.tree (zag true (r.map Cl.c))))]):
  FnD Tryz.prog 3 [.d (zam w),.agg [.d (.i a),.d (.i k)],.d (.str s)] [] (.d (.bool true)) []:=by
 have z:=zc9 (left:=1048576) (zfk w);have hbd:=zgb w;have hnn:=zaU (l:=w) xaQ;have hpn:=zaU (l:=r) xaN;refine bd Tryz.f3 112 [52,73,102] [] fun _ _ _ _ hk=>?_;refine bx 3004 ?_;refine evs [52,73,102] [] ?_;apply sq<;>intro h1 h1p h1s<;>(try simp only[Q] at h1p);refine rq ?_;rotate_left;refine wc cal4 (zgo hs oe oe) I I ?_;refine evs [52,73,102] [] ?_;apply sq<;>intro h2 h2p h2s<;>(try simp only[Q] at h2p);refine rq ?_;rotate_left;refine wc cal6 (zcg hs) I I ?_;refine evd [52,73,102] [] (wc cal7 zbO I I ?_);refine evd [52,73,102] [] (wc cal5 hspec I I ?_);refine evd [52,73,102] [] (dr (Walk.call (cr:=[63]) cal6 (zgp hs) I .none I I (LeL.refl _) O I og od ?_));refine evs [52,73,102] [] (Walk.call (cr:=[]) cal7 zbO I .none I I (LeL.refl _) O I og od ?_);refine evs [52,73,102] [] (xbP (cr:=[65]) (lr:=[(63,_)]) cal8 hown I .none I I (.cons (.ms (k:=2) List.mem_cons_self (by intro x hx;obtain⟨y,_,rfl⟩:=List.mem_map.1 hx;rfl) ub) (.cons (.le (.refl _)) (.cons (.le (.refl _)) .nil))) ⟨I,O⟩ I o0 od ?_);refine evs [52,73,102] [] (xbP (cr:=[]) (lr:=[(65,_)]) cal9 (zbZ hro) I .none I I (.cons (.ms (k:=9) List.mem_cons_self xaL ub) (.cons (.le (.refl _)) .nil)) ⟨I,O⟩ I o0 od ?_);refine evs [52,73,102] [] ?_;apply sq<;>intro h3 h3p h3s<;>(try simp only[Q] at h3p);refine sqT ?_;refine rq ?_;rotate_left;refine xbX un4 (.some I I h3) I I I (evs [52,73,102] [(49,false)] ?_ ⟨⟨_,I,h3⟩,O⟩);apply sq<;>intro h5 h5p h5s<;>(try simp only[Q] at h5p);refine rq ?_;rotate_left;refine Walk.call (cr:=[]) cal6 (zcg hs) I .none I I (LeL.refl _) O I og od ?_;refine xbP (cr:=[]) (lr:=[(63,_)]) zpS (zgm hs) I .none I I (.cons (.ms (k:=2) List.mem_cons_self (by intro x hx;obtain⟨y,_,rfl⟩:=List.mem_map.1 hx;rfl) ub) (.cons (.le (.refl _)) .nil)) ⟨I,O⟩ I o0 od ?_;refine evs [52,73,102] [] ?_;apply sq<;>intro h6 h6p h6s<;>(try simp only[Q] at h6p);refine rq ?_;rotate_left;refine Walk.call (cr:=[]) zpT (zif (l:=w) (k:=1) oe oe hs) I .none I I (.cons (xaV o7) (.cons (.refl _) .nil)) ⟨I,O⟩ I og od ?_;refine evs [52,73,102] [] ?_;apply sq<;>intro h7 h7p h7s<;>(try simp only[Q] at h7p);refine sqT ?_;refine sqT ?_;refine rq ?_;rotate_left;refine xbP (cr:=[]) (lr:=[(65,_)]) cal9 (zbZ hro) I (.some I I h7) I I (.cons (.ms (k:=9) List.mem_cons_self xaL ub) (.cons (.le (.refl _)) .nil)) ⟨I,O⟩ I o0 od ?_;refine evs [52,73,102] [(64,false)] ?_ ⟨⟨_,I,h7⟩,O⟩;apply sq<;>intro h9 h9p h9s<;>(try simp only[Q] at h9p);refine sqT ?_;refine rq ?_;rotate_left;refine xbX un4 (.some I I h9) I I I (evs [52,73,102] [(70,false)] ?_ ⟨⟨_,I,h9⟩,O⟩);apply sq<;>intro h11 h11p h11s<;>(try simp only[Q] at h11p);refine rq ?_;rotate_left;refine Walk.call (cr:=[]) zpU (zkU (l:=r) (k:=1) oe oe hro) I .none I I (.cons (xaV o7) (.cons (.refl _) .nil)) ⟨I,O⟩ I og od ?_;refine evs [52,73,102] [] (xbP (cr:=[]) (lr:=[(65,_)]) zlP (zcF (l:=r) (k:=1) oe oe hro) I .none I I (.cons (.ms (k:=9) List.mem_cons_self xaL ub) (.cons (.le (.refl _)) .nil)) ⟨I,O⟩ I o0 od ?_);refine evs [52,73,102] [] ?_;apply sq<;>intro h12 h12p h12s<;>(try simp only[Q] at h12p);refine rq ?_;rotate_left;apply sq<;>intro h13 h13p h13s<;>(try simp only[Q] at h13p);refine rq ?_;rotate_left;refine Walk.call (cr:=[]) cal6 (zcg hs) I .none I I (LeL.refl _) O I og od ?_;refine evd [52,73,102] [] (Walk.call (cr:=[]) cal7 zbO I .none I I (LeL.refl _) O I og od ?_);refine evd [52,73,102] [] (Walk.call (cr:=[]) cal8 himp I .none I I (LeL.refl _) O I og od ?_);refine evd [52,73,102] [] (dr (Walk.call (cr:=[]) cal9 (zbZ hro) I .none I I (LeL.refl _) O I og od ?_));refine evs [52,73,102] [] ?_;apply sq<;>intro h14 h14p h14s<;>(try simp only[Q] at h14p);refine sqT ?_;refine rq ?_;rotate_left;refine xbX un4 (.some I I h14) I I I (evs [52,73,102] [(99,false)] ?_ ⟨⟨_,I,h14⟩,O⟩);apply sq<;>intro h16 h16p h16s<;>(try simp only[Q] at h16p);refine rq ?_;rotate_left;refine xbP (cr:=[]) (lr:=[(65,_)]) zlP (zcF (l:=r) (k:=1) oe oe hro) I .none I I (.cons (.ms (k:=9) List.mem_cons_self xaL ub) (.cons (.le (.refl _)) .nil)) ⟨I,O⟩ I o0 od ?_;refine evs [52,73,102] [] ?_;apply sq<;>intro h17 h17p h17s<;>(try simp only[Q] at h17p);refine rq ?_;rotate_left;apply sq<;>intro h18 h18p h18s<;>(try simp only[Q] at h18p);refine rq ?_;rotate_left;refine rq ?_;rotate_left;all_goals (first|rfl|(exfalso;simp_all[zfB];done)|(exfalso;simp[zfB] at *;omega))
theorem zeK {w:List Data} (hs:WSmall w){a k:Int}{s:Str}{q:Bool}
  (hspec:FnD Tryz.prog 5 [.d (zam w),.agg [.d (.i a),.d (.i k)],.d (.str s)] [] (.tup [.d (zcx []),.d (.bool q)]) [])
  (himp:FnD Tryz.prog 8 [.d (zam w),.agg [.d (.i a),.d (.i k)],.d (.str s)] [] (.tup [.d (zcx []),.d (.bool q)]) []):
  FnD Tryz.prog 3 [.d (zam w),.agg [.d (.i a),.d (.i k)],.d (.str s)] [] (.d (.bool true)) []:=by
 have z:=zc9 (left:=1048576) (zfk w);have hbd:=zgb w;have hnn:=zaU (l:=w) xaQ;have hnok:ClsOk []:=⟨by simp,by simp⟩;refine bd Tryz.f3 112 [52,73,102] [] fun _ _ _ _ hk=>?_;refine bx 3004 ?_;refine evs [52,73,102] [] ?_;apply sq<;>intro h1 h1p h1s<;>(try simp only[Q] at h1p);refine rq ?_;rotate_left;refine wc cal4 (zgo hs oe oe) I I ?_;refine evs [52,73,102] [] ?_;apply sq<;>intro h2 h2p h2s<;>(try simp only[Q] at h2p);refine rq ?_;rotate_left;refine wc cal6 (zcg hs) I I ?_;refine evd [52,73,102] [] (wc cal7 zbO I I ?_);refine evd [52,73,102] [] (wc cal5 hspec I I ?_);refine evd [52,73,102] [] (dr (Walk.call (cr:=[63]) cal6 (zgp hs) I .none I I (LeL.refl _) O I og od ?_));refine evs [52,73,102] [] (Walk.call (cr:=[]) cal7 zbO I .none I I (LeL.refl _) O I og od ?_);refine evs [52,73,102] [] (xbP (cr:=[]) (lr:=[(63,_)]) cal8 himp I .none I I (.cons (.ms (k:=2) List.mem_cons_self (by intro x hx;obtain⟨y,_,rfl⟩:=List.mem_map.1 hx;rfl) ub) (.cons (.le (.refl _)) (.cons (.le (.refl _)) .nil))) ⟨I,O⟩ I o0 od ?_);refine evs [52,73,102] [] (Walk.call (cr:=[]) cal9 (zbZ (l:=[]) (m:=[]) hnok) I .none I I (LeL.refl _) O I og od ?_);refine evs [52,73,102] [] ?_;apply sq<;>intro h3 h3p h3s<;>(try simp only[Q] at h3p);refine sqT ?_;refine rq ?_;rotate_left;refine xbX un4 (.some I I h3) I I I (evs [52,73,102] [(49,false)] ?_ ⟨⟨_,I,h3⟩,O⟩);apply sq<;>intro h5 h5p h5s<;>(try simp only[Q] at h5p);refine rq ?_;rotate_left;refine Walk.call (cr:=[]) cal6 (zcg hs) I .none I I (LeL.refl _) O I og od ?_;refine xbP (cr:=[]) (lr:=[(63,_)]) zpS (zgm hs) I .none I I (.cons (.ms (k:=2) List.mem_cons_self (by intro x hx;obtain⟨y,_,rfl⟩:=List.mem_map.1 hx;rfl) ub) (.cons (.le (.refl _)) .nil)) ⟨I,O⟩ I o0 od ?_;refine evs [52,73,102] [] ?_;apply sq<;>intro h6 h6p h6s<;>(try simp only[Q] at h6p);refine rq ?_;rotate_left;refine Walk.call (cr:=[]) zpT (zif (l:=w) (k:=1) oe oe hs) I .none I I (.cons (xaV o7) (.cons (.refl _) .nil)) ⟨I,O⟩ I og od ?_;refine evs [52,73,102] [] ?_;apply sq<;>intro h7 h7p h7s<;>(try simp only[Q] at h7p);refine sqT ?_;refine sqT ?_;refine rq ?_;rotate_left;refine Walk.call (cr:=[]) cal9 (zbZ (l:=[]) (m:=[]) hnok) I (.some I I h7) I I (LeL.refl _) O I og od ?_;refine evs [52,73,102] [(64,false)] ?_ ⟨⟨_,I,h7⟩,O⟩;apply sq<;>intro h9 h9p h9s<;>(try simp only[Q] at h9p);refine sqT ?_;refine rq ?_;rotate_left;refine xbX un4 (.some I I h9) I I I (evs [52,73,102] [(70,false)] ?_ ⟨⟨_,I,h9⟩,O⟩);apply sq<;>intro h11 h11p h11s<;>(try simp only[Q] at h11p);refine rq ?_;rotate_left;refine Walk.call (cr:=[]) zpU (zie (l:=[]) I) I .none I I (LeL.refl _) O I og od ?_;refine evs [52,73,102] [] (Walk.call (cr:=[]) zlP (zcF (l:=[]) (k:=1) oe (by simp[szL]) hnok) I .none I I (LeL.refl _) O I og od ?_);refine evs [52,73,102] [] ?_;apply sq<;>intro h12 h12p h12s<;>(try simp only[Q] at h12p);refine rq ?_;rotate_left;apply sq<;>intro h13 h13p h13s<;>(try simp only[Q] at h13p);refine rq ?_;rotate_left;refine Walk.call (cr:=[]) cal6 (zcg hs) I .none I I (LeL.refl _) O I og od ?_;refine evd [52,73,102] [] (Walk.call (cr:=[]) cal7 zbO I .none I I (LeL.refl _) O I og od ?_);refine evd [52,73,102] [] (Walk.call (cr:=[]) cal8 himp I .none I I (LeL.refl _) O I og od ?_);refine evd [52,73,102] [] (dr (Walk.call (cr:=[]) cal9 (zbZ (l:=[]) (m:=[]) hnok) I .none I I (LeL.refl _) O I og od ?_));refine evs [52,73,102] [] ?_;apply sq<;>intro h14 h14p h14s<;>(try simp only[Q] at h14p);refine sqT ?_;refine rq ?_;rotate_left;refine xbX un4 (.some I I h14) I I I (evs [52,73,102] [(99,false)] ?_ ⟨⟨_,I,h14⟩,O⟩);apply sq<;>intro h16 h16p h16s<;>(try simp only[Q] at h16p);refine rq ?_;rotate_left;refine Walk.call (cr:=[]) zlP (zcF (l:=[]) (k:=1) oe (by simp[szL]) hnok) I .none I I (LeL.refl _) O I og od ?_;refine evs [52,73,102] [] ?_;apply sq<;>intro h17 h17p h17s<;>(try simp only[Q] at h17p);refine rq ?_;rotate_left;apply sq<;>intro h18 h18p h18s<;>(try simp only[Q] at h18p);refine rq ?_;rotate_left;refine rq ?_;rotate_left;all_goals (first|rfl|(exfalso;simp_all[zfB,szL];done)|(exfalso;simp[zfB,szL] at *;omega))
theorem zgW {w:List Data}{a k:Int}{s:Str} (h:1048576<s.length):
  FnD Tryz.prog 3 [.d (zam w),.agg [.d (.i a),.d (.i k)],.d (.str s)] [] (.d (.bool true)) []:=by
 refine bd Tryz.f3 112 [] [] fun _ _ _ _ hk=>?_;refine bx 3004 ?_;refine ev ?_;apply sq<;>intro h1 h1p h1s<;>(try simp only[Q] at h1p);focus (refine rq ?_;all_goals (first|rfl|(simp[h1s,h1p];done)|(simp_all;done)|(simp_all;omega)|omega))
 exfalso;omega
theorem zfg {w:List Data} (hs:WSmall w){a k:Int}{s:Str}:
  FnD Tryz.prog 3 [.d (zam w),.agg [.d (.i a),.d (.i k)],.d (.str s)] [] (.d (.bool true)) []:=by
 by_cases hsl:s.length<=1048576
 ·have hspec:=zhv hs (a:=a) (k:=k) hsl;have himp:=zhg hs (a:=a) (k:=k) hsl;rw[<-zr7 hs] at hspec;have hown:=fun l=>zgV hs (a:=a) (k:=k) hsl (l:=l);have hok:=fun l=>zrm hs (a:=a) (k:=k) (s:=s) (l:=l);generalize pcI w ⟨a,k⟩ s=o at *;cases o with
  |none=>exact zeK hs hspec himp
  |some l=>
   by_cases hl:l=[]
   ·subst hl;exact zeK hs hspec himp
   ·exact zhP hs (hok l I).1 (hok l I).2 hspec himp (hown l I hl)
 ·exact zgW oe
end Go.Proofs.YtcjojgpodcjfcaaGreatDoor
namespace Go.Proofs.YtcjojgpodcjfcaaGreatDoor
open Go Go.ChangeShapes Go.WideShapes Go.ChangeAt Go.RowKit
set_option linter.unusedSimpArgs false
set_option linter.unusedVariables false
set_option linter.unusedVariables false
def FW (W:World) (b:Nat):Nat:=match W.heap[b]? with
 |some (.cells cs _ _)=>cs.size
 |_=>0
theorem FW_cell {W:World}{b o:Nat}{v:Value} (h:W.cell? ⟨b,o,none⟩=some v):o<FW W b:=by
 unfold World.cell? at h;unfold FW;simp only at h;split at h
 ·rename_i c t fr hb;simp only[hb];simp only[Option.isSome_none,Bool.false_eq_true,if_false] at h;exact(Array.getElem?_eq_some_iff.1 h).1
 ·cases h
theorem FW_top {W:World}{b:Nat} (h:W.heap.size<=b):FW W b=0:=by
 unfold FW;rw[Array.getElem?_eq_none h]
structure RelL (W:World) (xs:List D) (cs:List Value):Prop where
 len:xs.length=cs.length
 rel:∀i (h1:i<xs.length) (h2:i<cs.length),RelD (FW W) W xs[i] cs[i]
theorem RelL.append {W:World}{xs ys:List D}{cs ds:List Value} (h:RelL W xs cs) (k:RelL W ys ds):RelL W (xs++ys) (cs++ds):=by
 refine⟨by simp[h.len,k.len],fun i h1 h2=>?_⟩;by_cases hi:i<xs.length
 ·rw[List.getElem_append_left hi,List.getElem_append_left (by rw[<-h.len];exact hi)];exact h.rel i hi (by rw[<-h.len];exact hi)
 ·have hl:=h.len;rw[List.getElem_append_right oe,List.getElem_append_right oe];have e:i-xs.length=i-cs.length:=by omega
  have h1':i-xs.length<ys.length:=by simp only[xaa] at h1;omega
  have h2':i-cs.length<ds.length:=by simp only[xaa] at h2;omega
  have:=k.rel (i-xs.length) h1' oe;simp only[e] at this ⊢;exact this
def Dec (P:Program) (W:World) (n:Nat) (t:TypeId){α:Type} (f:α->List D) (m:α->Nat) (R:α->Prop):Prop:=
 ∀(H:Type) (enc:TypeId×Value->H) (cs:List Value) (x:DataW H×List MemPlace),DataW.trod enc P W 0 (fun _=>true) true n t cs=some x->
  ∃a,RelL W (f a) cs/\m a+1<=Rows.uptoBulk x.1/\R a
section
variable {P:Program}{W:World}{n:Nat}{t:TypeId}
theorem Dec.zero {α:Type}{f:α->List D}{m:α->Nat}{R:α->Prop}:Dec P W 0 t f m R:=fun H enc cs x h=>by simp[DataW.trod] at h
theorem Dec.map {α β:Type}{f:α->List D}{m:α->Nat}{R:α->Prop}{f':β->List D}{m':β->Nat}{R':β->Prop} (g:α->β) (h:Dec P W n t f m R)
  (h1:∀a,f' (g a)=f a) (h2:∀a,m' (g a)<=m a) (h3:∀a,R a->R' (g a)):Dec P W n t f' m' R':=fun H enc cs x hx=>by
 obtain⟨a,q1,q2,q3⟩:=h H enc cs x hx;exact⟨g a,by rw[h1];exact q1,by have:=h2 a;omega,h3 a q3⟩
theorem RelL.one {x:D}{v:Value} (h:RelD (FW W) W x v):RelL W [x] [v]:=
 ⟨rfl,fun i h1 h2=>by
  have:i=0:=by simp at h1;omega
  subst this;exact h⟩
theorem Dec.int {k:IntKind} (ht:P.underlying t=some (.int k)):Dec P W n t (fun z:Int=>[.int k z]) (fun _=>0) (fun z=>(Lit.int k z).wf=true):=fun H enc cs x h=>by
 obtain⟨z,rfl,rfl,hw⟩:=DataW.trod_int ht h;exact⟨z,.one (.int k z),by simp[Rows.uptoBulk],hw⟩
theorem Dec.bool (ht:P.underlying t=some .bool):Dec P W n t (fun z:Bool=>[.bool z]) (fun _=>0) (fun _=>True):=fun H enc cs x h=>by
 obtain⟨z,rfl,rfl⟩:=DataW.trod_bool ht h;exact⟨z,.one (.bool z),by simp[Rows.uptoBulk],trivial⟩
theorem Dec.str (ht:P.underlying t=some .string):Dec P W n t (fun s:Str=>[.str s]) (fun s=>s.length) (fun _=>True):=fun H enc cs x h=>by
 obtain⟨s,rfl,rfl,hw⟩:=DataW.trod_string ht h;exact⟨s.data.toList,.one (by have:=RelD.str (F:=FW W) (w:=W) s.data.toList;simpa using this),by simp[Rows.uptoBulk],trivial⟩
def sumM {α:Type} (m:α->Nat):List α->Nat
 | []=>0
 |a::r=>m a+1+sumM m r
theorem zhx {α:Type} (m:α->Nat):∀l:List α,l.length<=sumM m l
 | []=>by simp[sumM]
 |a::r=>by have:=zhx m r;simp only[sumM,xab];omega
theorem zhy {α:Type}{m:α->Nat}:∀ {l:List α}{a:α},a∈l->m a+1<=sumM m l
 |b::r,a,h=>by
  simp only[sumM];rcases List.mem_cons.1 h with rfl|h
  ·omega
  ·have:=zhy (m:=m) h;omega
theorem zi1 {α β:Type}{Q:Nat->α->β->Prop}:∀(l:List β) (o:Nat),(∀i (h:i<l.length),∃a,Q (o+i) a l[i])->∃zs:List α,zs.length=l.length/\∀i (h:i<l.length) (h':i<zs.length),Q (o+i) zs[i] l[i]
 | [],o,_=>⟨[],rfl,fun i h=>by simp at h⟩
 |b::r,o,h=>by
  obtain⟨a,ha⟩:=h 0 oh;obtain⟨zs,h1,h2⟩:=zi1 (Q:=Q) r (o+1) (fun i hi=>by
   have:=h (i+1) ot;rw[show o+1+i=o+(i+1) by omega];simpa using this)
  refine⟨a::zs,by simp[h1],fun i hi hi'=>?_⟩;cases i with
  |zero=>exact ha
  |succ i=>
   have:=h2 i (by simpa using hi) (by simpa using hi');rw[show o+1+i=o+(i+1) by omega] at this;simpa using this
theorem zma {H α:Type}{m:α->Nat}:∀ {zs:List α}{xs:List (DataW H)},zs.length=xs.length->(∀i (h:i<zs.length) (h':i<xs.length),m zs[i]+1<=Rows.uptoBulk xs[i])->sumM m zs<=Rows.uptoBulkAll xs
 | [],[],_,_=>by simp[sumM,Rows.uptoBulkAll]
 |a::zs,x::xs,hl,h=>by
  have h0:=h 0 oh oh;have ih:=zma (m:=m) (zs:=zs) (xs:=xs) (by simpa using hl) (fun i h1 h2=>by
   have:=h (i+1) ot ot;simpa using this)
  simp only[sumM,Rows.uptoBulkAll];simp only[List.getElem_cons_zero] at h0;omega
 | [],_::_,hl,_=>by simp at hl
 |_::_,[],hl,_=>by simp at hl
theorem Dec.sl {α:Type}{f:α->List D}{m:α->Nat}{R:α->Prop}{e:TypeId}{k:Nat} (ht:P.underlying t=some (.slice e)) (hc:P.cellsOf e=k+1) (hk:∀a,(f a).length=k+1) (he:Dec P W n e f m R):
  Dec P W (n+1) t (fun l:List α=>[.sl (l.map f)]) (fun l=>sumM m l) (fun l=>∀a∈l,R a):=fun H enc cs x h=>by
 rcases DataW.trod_slice ht h with ⟨rfl,rfl⟩|⟨a,len,cap,elems,rest,n',hn,rfl,rfl,_,hcap,_,hlen,hel,_,_⟩
 ·exact⟨[],.one .nil,by simp[sumM,Rows.uptoBulk],fun a h=>by simp at h⟩
 obtain rfl:n=n':=by omega
 have each:∀i (hi:i<elems.length),∃y,(∃cs,W.cells? 0 (a.add (i*(k+1))) (k+1)=some cs/\RelL W (f y) cs)/\m y+1<=Rows.uptoBulk (elems[i]).1/\R y:=by
  intro i hi;have:=hel i oe;rw[hc,xan hi,Option.bind_eq_some_iff] at this;obtain⟨cs,h1,h2⟩:=this;obtain⟨y,h3,h4,h5⟩:=he H enc cs _ h2;exact⟨y,⟨cs,h1,h3⟩,h4,h5⟩
 obtain⟨zs,hal,has⟩:=zi1 (Q:=fun i y (el:DataW H×List MemPlace)=>(∃cs,W.cells? 0 (a.add (i*(k+1))) (k+1)=some cs/\RelL W (f y) cs)/\m y+1<=Rows.uptoBulk el.1/\R y) elems 0 (fun i hi=>by simpa using each i hi);refine⟨zs,.one ?_, ?_,fun y hy=>?_⟩
 ·by_cases h0:zs=[]
  ·subst h0;have hz:len=0:=by simp at hal;omega
   subst hz;obtain⟨b,o,s⟩:=a;cases s with
   |none=>exact .sl [] 0 b o cap (fun _=>undef) oh oh (fun n hn=>by simp at hn) (fun i hi=>by simp at hi)
   |some s=>exact .emp b o s cap
  ·have hpos:0<zs.length:=List.length_pos_iff.2 h0;obtain⟨⟨cs0,hc0,hr0⟩,_⟩:=has 0 oe hpos;have hspot:a.spot=none:=by
    have h1:=(World.cells?_some hc0).2.2 0 oe;have h2:0<cs0.length:=by have:=(World.cells?_some hc0).2.1;omega
    simp only[Nat.add_zero,Nat.zero_mul,Addr.add,if_true,xan h2] at h1;unfold World.cell? at h1;split at h1
    ·cases hs:a.spot with
     |none=>rfl
     |some s=>simp[hs] at h1
    ·cases h1
   obtain⟨b,o,s⟩:=a;simp only at hspot;subst hspot;have hlen':(zs.map f).length=len:=by simp;omega
   have hmulk:∀i j,i<zs.length->j<k+1->i*(k+1)+j<zs.length*(k+1):=fun i j hi hj=>by
    have:(i+1)*(k+1)<=zs.length*(k+1):=xav _ oe;rw[Nat.add_mul,Nat.one_mul] at this;omega
   have cellAt:∀i (hi:i<zs.length) j (hj:j<(f zs[i]).length),∃v,W.cell? ⟨b,o+(i*(k+1)+j),none⟩=some v/\RelD (FW W) W ((f zs[i])[j]) v:=fun i hi j hj=>by
    obtain⟨⟨cs,hc1,hr1⟩,_⟩:=has i oe hi;have hjk:j<k+1:=by have:=hk zs[i];omega
    obtain⟨_,q1,q2⟩:=World.cells?_some hc1;have q3:=q2 j hjk;rw[xan oe] at q3;refine⟨cs[j], ?_,hr1.rel j hj oe⟩;rw[<-q3];congr 1
    simp only[Nat.zero_add,Addr.add];split<;>split<;>simp_all<;>omega
   have hv:((zs.map f).length,cap)=(len,cap):=by rw[hlen']
   have goal:RelD (FW W) W (.sl (zs.map f)) (.slice (some ⟨b,o,none⟩) (zs.map f).length cap):=by
    refine .sl _ (k+1) b o cap (fun q=>(W.cell? ⟨b,o+q,none⟩).getD undef) (fun y hy=>?_) oe (fun q hq=>?_) (fun i hi j hj=>?_)
    ·obtain⟨y',_,rfl⟩:=List.mem_map.1 hy;exact hk y'
    ·have hq':q<zs.length*(k+1):=by simpa using hq
     have hi:q / (k+1)<zs.length:=Nat.div_lt_of_lt_mul (by rw[Nat.mul_comm];exact hq');have hj:q % (k+1)<k+1:=Nat.mod_lt _ oe;obtain⟨v,h1,_⟩:=cellAt _ hi (q % (k+1)) (by rw[hk];exact hj);rw[Nat.div_add_mod'] at h1;exact⟨FW_cell h1,by rw[h1];rfl⟩
    ·have hi':i<zs.length:=by simpa using hi
     simp only[List.getElem_map] at hj ⊢;obtain⟨v,h1,h2⟩:=cellAt i hi' j hj;show RelD (FW W) W _ ((W.cell? ⟨b,o+(i*(k+1)+j),none⟩).getD undef)
     rw[h1];exact h2
   rw[hlen'] at goal;exact goal
 ·have:=zma (m:=m) (zs:=zs) (xs:=elems.map (·.1)) (by simp[hal]) (fun i h1 h2=>by
   have:=(has i (by simpa using h2) h1).2.1;simpa using this)
  simp only[Rows.uptoBulk];omega
 ·obtain⟨i,hi,rfl⟩:=List.getElem_of_mem hy;exact(has i oe hi).2.2
def DecF (P:Program) (W:World) (n o K:Nat) (fs:List Field){α:Type} (f:α->List D) (m:α->Nat) (R:α->Prop):Prop:=
 ∀(H:Type) (enc:TypeId×Value->H) (cs:List Value) (xs:List (DataW H×List MemPlace)),cs.length=K->xs.length=fs.length->
  (∀(i:Nat) (fd:Field),fs[i]?=some fd->DataW.trod enc P W 0 (fun _=>true) true n fd.type ((cs.drop fd.offset).take (P.cellsOf fd.type))=xs[i]?)->
  ∃a,RelL W (f a) (cs.drop o)/\m a<=Rows.uptoBulkAll (xs.map (·.1))/\R a
theorem DecF.nil {K:Nat}:DecF P W n K K [] (fun _:Unit=>[]) (fun _=>0) (fun _=>True):=fun H enc cs xs h1 h2 _=>
 ⟨(),by rw[List.drop_of_length_le oe];exact⟨rfl,fun i h=>by simp at h⟩,by simp,trivial⟩
theorem DecF.cons {α β:Type}{f:α->List D}{m:α->Nat}{R:α->Prop}{f2:β->List D}{m2:β->Nat}{R2:β->Prop}{o K k:Nat}{fd:Field}{fs:List Field}
  (h1:Dec P W n fd.type f m R) (ho:fd.offset=o) (hc:P.cellsOf fd.type=k) (h2:DecF P W n (o+k) K fs f2 m2 R2):
  DecF P W n o K (fd::fs) (fun p:α×β=>f p.1++f2 p.2) (fun p=>m p.1+1+m2 p.2) (fun p=>R p.1/\R2 p.2):=fun H enc cs xs hK hl hx=>by
 cases xs with
 |nil=>simp at hl
 |cons y ys=>
  have h0:=hx 0 fd oh;simp only[List.getElem?_cons_zero] at h0;rw[ho,hc] at h0;obtain⟨a,q1,q2,q3⟩:=h1 H enc _ _ h0;obtain⟨b,r1,r2,r3⟩:=h2 H enc cs ys hK (by simpa using hl) (fun i fd' hi=>by
   have:=hx (i+1) fd' (by simpa using hi);simpa using this)
  refine⟨(a,b), ?_, ?_,q3,r3⟩
  ·have:cs.drop o=(cs.drop o).take k++cs.drop (o+k):=by
    rw[<-List.drop_drop,List.take_append_drop]
   rw[this];exact q1.append r1
  ·simp only[xaf,Rows.uptoBulkAll];omega
theorem Dec.struct {α:Type}{f:α->List D}{m:α->Nat}{R:α->Prop}{fs:Array Field} (ht:P.underlying t=some (.struct fs)){K:Nat} (hK:P.cellsOf t=K) (h:DecF P W n 0 K fs.toList f m R):
  Dec P W (n+1) t f m R:=fun H enc cs x hx=>by
 obtain⟨xs,n',hn,rfl,hl,hxl,hf⟩:=DataW.trod_struct ht hx;obtain rfl:n=n':=by omega
 obtain⟨a,q1,q2,q3⟩:=h H enc cs xs oe (by simpa using hxl) (fun i fd hi=>hf i fd (by simpa using hi));refine⟨a,by simpa using q1, ?_,q3⟩;simp only[Rows.uptoBulk];omega
end
section
variable {P:Program}{W:World}{base:Nat}{t:TypeId}{v:Value}{H:Type}{enc:TypeId×Value->H}{d:DataW H}{ps:List MemPlace}
theorem zqY {α:Type}{e:TypeId}{f:α->List D}{m:α->Nat}{R:α->Prop}{k:Nat} (ht:P.underlying t=some (.slice e)) (hc:P.cellsOf e=k+1) (hk:∀a,(f a).length=k+1) (hd:∀n,Dec P W n e f m R)
  (hval:Value.okWide P W .any base t v) (h:DataW.Trod enc P W 0 (fun _=>true) true t v d ps):
  ∃l:List α,(∀G T,G.F=FW W->RelA G T W (.d (.sl (l.map f))) v)/\sumM m l+1<=Rows.uptoBulk d/\∀a∈l,R a:=by
 obtain⟨n,hn⟩:=h;cases n with
 |zero=>simp[DataW.trod] at hn
 |succ n=>
  obtain⟨l,h1,h2,h3⟩:=Dec.sl ht hc hk (hd n) H enc _ _ hn;have hcells:v.cells.toList=[v]:=by
   cases v with
   |agg cs=>simp only[Value.okWide,ht,Cell.okWide,Cell.ok] at hval
   |_=>rfl
  rw[hcells] at h1;exact⟨l,fun G T hG=> .d (by rw[hG];simpa using h1.rel 0 oh oh),h2,h3⟩
theorem zqy (ht:P.underlying t=some .string) (hval:Value.okWide P W .any base t v) (h:DataW.Trod enc P W 0 (fun _=>true) true t v d ps):
  ∃s:Str,(∀G T,G.F=FW W->RelA G T W (.d (.str s)) v)/\s.length+1<=Rows.uptoBulk d:=by
 obtain⟨n,hn⟩:=h;obtain⟨s,h1,h2,_⟩:=Dec.str ht H enc _ _ hn;have hcells:v.cells.toList=[v]:=by
  cases v with
  |agg cs=>simp only[Value.okWide,ht,Cell.okWide,Cell.ok] at hval
  |_=>rfl
 rw[hcells] at h1;exact⟨s,fun G T hG=> .d (by rw[hG];simpa using h1.rel 0 oh oh),h2⟩
theorem znO {α:Type}{f:α->List D}{m:α->Nat}{R:α->Prop}{fs:Array Field} (ht:P.underlying t=some (.struct fs)) (hd:∀n,Dec P W n t f m R)
  (hval:Value.okWide P W .any base t v) (h:DataW.Trod enc P W 0 (fun _=>true) true t v d ps):
  ∃a:α,(∀G T,G.F=FW W->RelA G T W (.agg ((f a).map .d)) v)/\m a+1<=Rows.uptoBulk d/\R a:=by
 obtain⟨n,hn⟩:=h;obtain⟨a,h1,h2,h3⟩:=hd n H enc _ _ hn;simp only[Value.okWide,ht] at hval;obtain⟨cs,rfl,_,_⟩:=hval;refine⟨a,fun G T hG=> .agg (by have:=h1.len;simp[Value.cells] at this ⊢;omega) (fun i hi hv=>?_),h2,h3⟩;have hi':i<(f a).length:=by simpa using hi
 have:=h1.rel i hi' (by simpa [Value.cells] using hv);simp only[List.getElem_map];exact .d (by rw[hG];simpa [Value.cells] using this)
end
section
variable {P:Program}{H:Type}{enc:TypeId×Value->H}
theorem zhH (hl:laidOutB P=true){W W':World} (hb:Below W.heap.size W W'):∀ {ts:List TypeId}{vs:List Value}{ds:List (DataW H)}{ps:List MemPlace},
  (∀t∈ts,P.readableRec t=true/\t<P.types.size)->DataW.TrodAll enc P W 0 (fun _=>true) true ts vs ds ps->(∀x∈ps,x.block<W.heap.size)->
  DataW.TrodAll enc P W' 0 (fun b=>decide (b<W.heap.size)) true ts vs ds ps
 | [],[],[],ps,_,h,_=>h
 |t::ts,v::vs,d::ds,ps,hr,h,hlt=>by
  obtain⟨p,q,h1,h2,rfl⟩:=h;exact⟨p,q,Below.trod hl (hr t oh).1 (hr t oh).2 h1 hb (fun x hx=>hlt x (by simp[hx])),
   zhH hl hb (fun t ht=>hr t (by simp[ht])) h2 (fun x hx=>hlt x (by simp[hx])),rfl⟩
theorem zpx {f:Func}{s:ChangeSpec}{W W':World}{args:Array Value}{ds gs:List (DataW H)}{before:List MemPlace}{tb:TypeId}
  (hW:DataW.Whole enc P f.params.toList s.vars false W args.toList ds gs before) (hvars:s.vars=[]) (hrt:f.resultTypes = #[tb]) (htb:P.underlying tb=some .bool)
  (hs:s.fn H (ds++gs)={ results:=[.lit (.bool true)],args:=ds }) (hl:laidOutB P=true) (hr:∀t∈f.params.toList,P.readableRec t=true/\t<P.types.size)
  (hb:Below W.heap.size W W'):s.post enc P f false true false false W args (.bool true) W':=by
 have hlt:∀p∈before,p.block<W.heap.size:=fun p hp=>hW.lt p hp;have hW0:=hW;obtain⟨p,q,hA,hV,rfl,hfz,_⟩:=hW;rw[hvars] at hV;cases gs with
 |cons g gs=>exact hV.elim
 |nil=>
  have hq:q=[]:=hV;subst hq;simp only[xaq] at *;refine⟨ds,[],p,[],p,[],by simpa [hvars] using hW0, ?_, ?_, ?_,World.keptBut_mono (fun x hx=>⟨hx,.inr (.inl hx)⟩) (hb.frame (·∈p)),fun h=>by cases h⟩
  ·simp only[xaq,hs,hrt];exact trodAll_cons_mk (shut_bool htb _) trodAll_mk0
  ·simp only[xaq,hs];exact zhH hl hb hr hA hlt
  ·simp only[hvars,xaq,hs];rfl
theorem zoI {f:FuncId}{avs:List AV}{W:World}{args:Array Value}{r:AV} (hf:FnD P f avs [] r [])
  (hargs:∀G T,G.F=FW W->AllR G T W avs args):Calls P f args W fun e W'=>∃v G',e = .returned v/\RelA G' (fun _=>none) W' r v/\Below W.heap.size W W':=by
 let G:Gh:={ F:=FW W,loc:=fun _=>[] }
 refine(hf G W args ⟨hargs G _ rfl,fun id r h=>(by simp[getH] at h),fun id id' h=>(by simp[getH] at h),fun b hb=>FW_top hb⟩).mono ?_;rintro e W' ⟨v,r',hp',G',rfl,⟨rfl,rfl⟩,h⟩
 exact⟨v,G',rfl,h.res,⟨h.frm.os,h.frm.tape,h.frm.output,h.frm.size,fun b hb=>(h.frm.block b hb (by simp[zbY])).1⟩⟩
theorem RelA.bool_true {G:Gh}{T:TokF}{w:World}{v:Value} (h:RelA G T w (.d (.bool true)) v):v = .bool true:=by
 cases h with|d h=>cases h;rfl
theorem zpn {H:Type}{l:List (DataW H)} (hk:Rows.uptoSmall H l=true):Rows.uptoBulkAll l<=1048576:=xas hk
end
set_option maxRecDepth 100000
theorem zmn (W:World) (n:Nat):Dec Tryz.prog W n 3 (fun z:Int=>[.i z]) (fun _=>0) (fun _=>True):=Dec.map (f:=fun z:Int=>[D.i z]) (R:=fun z=>(Lit.int .i64 z).wf=true) id (Dec.int Tryz.underlying3) (fun _=>rfl) (fun _=>Nat.le_refl _) (fun _ _=>trivial)
theorem zot (W:World) (n:Nat):Dec Tryz.prog W n 9 (fun s:Str=>[.str s]) (fun s=>s.length) (fun _=>True):=Dec.str Tryz.underlying9
theorem zqh (W:World):∀n,Dec Tryz.prog W n 24 Ty.c (fun _=>0) (fun _=>True)
 |0=>Dec.zero
 |n+1=>Dec.map (fun p:Int×Int×Unit=>(⟨p.1,p.2.1⟩:Ty)) (Dec.struct Tryz.underlying24 oj (DecF.cons (k:=1) (zmn W n) rfl oj (DecF.cons (k:=1) (zmn W n) rfl oj DecF.nil))) (fun _=>rfl) (fun _=>Nat.zero_le _) (fun _ _=>trivial)
theorem zrh (W:World):∀n,Dec Tryz.prog W n 103 (fun l:List Ty=>[za9 l]) (fun l=>l.length) (fun _=>True)
 |0=>Dec.zero
 |n+1=>Dec.map id (Dec.sl (k:=1) Tryz.underlying103 oj (fun _=>rfl) (zqh W n)) (fun _=>rfl) (fun l=>zhx _ l) (fun _ _=>trivial)
def zg8 (c:Ctor):Nat:=c.name.length+c.args.length
theorem zqD (W:World):∀n,Dec Tryz.prog W n 105 Ctor.c zg8 (fun _=>True)
 |0=>Dec.zero
 |n+1=>Dec.map (fun p:Str×List Ty×Int×Unit=>(⟨p.1,p.2.1,p.2.2.1⟩:Ctor)) (Dec.struct Tryz.underlying105 oj (DecF.cons (k:=1) (zot W n) rfl oj (DecF.cons (k:=1) (zrh W n) rfl oj (DecF.cons (k:=1) (zmn W n) rfl oj DecF.nil))))
   (fun _=>rfl) (fun p=>by simp only[zg8];omega) (fun _ _=>trivial)
theorem zpr (W:World):∀n,Dec Tryz.prog W n 39 (fun l:List Ctor=>[zbN l]) (fun l=>sumM zg8 l) (fun _=>True)
 |0=>Dec.zero
 |n+1=>Dec.map id (Dec.sl (k:=2) Tryz.underlying39 oj (fun _=>rfl) (zqD W n)) (fun _=>rfl) (fun l=>Nat.le_refl _) (fun _ _=>trivial)
def zgf (d:Data):Nat:=d.name.length+sumM zg8 d.ctors
theorem zqE (W:World):∀n,Dec Tryz.prog W n 41 Data.c zgf (fun _=>True)
 |0=>Dec.zero
 |n+1=>Dec.map (fun p:Str×List Ctor×Unit=>(⟨p.1,p.2.1⟩:Data)) (Dec.struct Tryz.underlying41 oj (DecF.cons (k:=1) (zot W n) rfl oj (DecF.cons (k:=1) (zpr W n) rfl oj DecF.nil)))
   (fun _=>rfl) (fun p=>by simp only[zgf];omega) (fun _ _=>trivial)
theorem zpj {w:List Data}{N:Nat} (h:sumM zgf w+1<=N) (hN:N<=1048576):WSmall w:=by
 refine⟨by have:=zhx zgf w;omega,fun d hd=>?_,fun d hd c hc=>?_⟩
 ·have h1:=zhy (m:=zgf) hd;have h2:=zhx zg8 d.ctors;simp only[zgf] at h1;omega
 ·have h1:=zhy (m:=zgf) hd;have h2:=zhy (m:=zg8) hc;simp only[zgf] at h1;simp only[zg8] at h2;omega
end Go.Proofs.YtcjojgpodcjfcaaGreatDoor
namespace Go.Proofs.YtcjojgpodcjfcaaGreatDoor.fnExactParseClauses
open Go Go.ChangeShapes Go.WideShapes Go.ChangeAt Go.RowKit
set_option linter.unusedSimpArgs false
set_option linter.unusedVariables false
theorem own:ownKnob Tryz.prog.godebug=none:=by kernel_rfl
theorem laidOut:laidOutB Tryz.prog=true:=by kernel_rfl
set_option maxRecDepth 100000 in
theorem contract (H:Type) (enc:TypeId×Value→H) (W:World) (base:Nat) (args:Array Value) (ds gs:List (DataW H)) (before:List MemPlace)
  (hval:∀(j:Nat) t v,Tryz.f3.params[j]?=some t→args[j]?=some v→Value.okWide Tryz.prog W .any base t v)
  (hW:DataW.Whole enc Tryz.prog Tryz.f3.params.toList Rows.fnExactParseClausesSpec.vars false W args.toList ds gs before) (hk:Rows.uptoSmall H (ds++gs)=true):
  Calls Tryz.prog 3 args W fun e W'=>∃v,e = .returned v∧Rows.fnExactParseClausesSpec.post enc Tryz.prog Tryz.f3 false true false false W args v W':=by
 have hb:=zpn hk
 have hW':=hW
 obtain⟨p,q,hA0,hV,rfl,hfz,hnd⟩:=hW
 have hA:DataW.TrodAll enc Tryz.prog W 0 (fun _=>true) true Tryz.f3.params.toList args.toList ds p:=hA0
 rw[Tryz.params3] at hA hval
 obtain⟨v0,vs0,d0,ds0,p0,q0,hargs,rfl,rfl,h0,r0⟩:=trodAll_cons hA
 obtain⟨v1,vs1,d1,ds1,p1,q1,rfl,rfl,rfl,h1,r1⟩:=trodAll_cons r0
 obtain⟨v2,vs2,d2,ds2,p2,q2,rfl,rfl,rfl,h2,r2⟩:=trodAll_cons r1
 obtain⟨rfl,rfl,rfl⟩:=trodAll_nil r2
 obtain rfl:args = #[v0,v1,v2]:=by cases args;simp_all
 obtain⟨rfl,rfl⟩:=trodVars_none hV
 simp only[xaq,Rows.uptoBulkAll] at hb
 obtain⟨w,a0,b0,_⟩:=zqY (k:=1) Tryz.underlying22 (by kernel_rfl) (fun _=>rfl) (zqE W) (hval 0 _ v0 rfl rfl) h0
 obtain⟨t,a1,b1,_⟩:=znO Tryz.underlying24 (zqh W) (hval 1 _ v1 rfl rfl) h1
 obtain⟨s,a2,b2⟩:=zqy Tryz.underlying9 (hval 2 _ v2 rfl rfl) h2
 have hs:WSmall w:=zpj b0 (by omega)
 refine(zoI ((zfg hs (a:=t.data) (k:=t.index) (s:=s))) (W:=W) (args:=#[v0,v1,v2]) (fun G T hG=>⟨rfl,fun i hi hv=>?_⟩)).mono ?_
 ·match i,hi with
  |0,_=>exact a0 G T hG
  |1,_=>exact a1 G T hG
  |2,_=>exact a2 G T hG
 ·rintro e W' ⟨v,G',rfl,hr,hbelow⟩
  obtain rfl:=hr.bool_true
  exact⟨_,rfl,zpx hW' rfl rfl Tryz.underlying4 rfl laidOut (fun t ht=>by
   simp only[Tryz.params3,List.mem_cons,xau,or_false] at ht
   rcases ht with rfl|rfl|rfl<;>exact⟨by kernel_rfl,xas (by kernel_rfl)⟩) hbelow⟩
noncomputable def laidWorld (os:Os):World:=
 { World.holding Tryz.prog os ⟨#[],#[],[]⟩ with heap:=(((World.holding Tryz.prog os ⟨#[],#[],[]⟩).heap.modify 1 fun
   | .cells _ t frozen=> .cells (Go.Pinned.utf8FirstZ.map fun n=>Value.int .u8 (Int.ofNat n)).toArray t frozen
   |o=>o).modify 2 fun
   | .cells _ t frozen=> .cells #[.int .u8 128,.int .u8 191,.int .u8 160,.int .u8 191,.int .u8 128,.int .u8 159,.int .u8 144,.int .u8 191,.int .u8 128,.int .u8 143,.int .u8 0,.int .u8 0,.int .u8 0,.int .u8 0,.int .u8 0,.int .u8 0,.int .u8 0,.int .u8 0,.int .u8 0,.int .u8 0,.int .u8 0,.int .u8 0,.int .u8 0,.int .u8 0,.int .u8 0,.int .u8 0,.int .u8 0,.int .u8 0,.int .u8 0,.int .u8 0,.int .u8 0,.int .u8 0] t frozen
   |o=>o) }
theorem laid_met (os:Os):laidMet Tryz.prog Rows.fnExactParseClausesUptoRow.laid ((laidWorld os).forCall (fun _ _=>0) ⟨#[],#[.slice none 0 0,.agg #[.int .i64 0,.int .i64 0],.string ⟨#[]⟩],[]⟩).memory:=
 laidMet_of_run' 8 (by kernel_rfl) (by kernel_rfl)
theorem reads (os:Os){H:Type} (enc:TypeId×Value→H):∃places,DataW.whole enc Tryz.prog ((laidWorld os).forCall (fun _ _=>0) ⟨#[],#[.slice none 0 0,.agg #[.int .i64 0,.int .i64 0],.string ⟨#[]⟩],[]⟩).memory Tryz.f3.params.toList Rows.fnExactParseClausesSpec.vars false (#[.slice none 0 0,.agg #[.int .i64 0,.int .i64 0],.string ⟨#[]⟩]:Array Value).toList 8=some ([.nil,.agg [.lit (.int .i64 0),.lit (.int .i64 0)],.lit (.string [])],[],places):=
 ⟨[],by kernel_rfl⟩
set_option maxRecDepth 100000 in
theorem lifted (os:Os) (started:os.Started) (H:Type) (enc:TypeId×Value→H) (F:Stop.Interp):
  ReturnsInHanded {} Tryz.checked os 3 .any ((Rows.OpenSpec.upto Rows.fnExactParseClausesSpec).preRow enc Tryz.prog Tryz.f3 Rows.fnExactParseClausesUptoRow.domain false Rows.fnExactParseClausesUptoRow.laid) (((Rows.OpenSpec.upto Rows.fnExactParseClausesSpec).at F).post enc Tryz.prog Tryz.f3 false true false false):=by
 obtain⟨places,hx⟩:=reads os enc
 refine returnsInHanded_of_row (C:=Tryz.checked) (s:=Rows.OpenSpec.upto Rows.fnExactParseClausesSpec) own started (by kernel_rfl) Tryz.func3
  (witness_row_at (enc:=enc) (C:=Tryz.checked) false (laidWorld os) #[.slice none 0 0,.agg #[.int .i64 0,.int .i64 0],.string ⟨#[]⟩] rfl (by kernel_rfl) (by kernel_rfl) (by kernel_rfl)
   (OpenSpec.preRow_of_cond 8 hx (by kernel_rfl) (fun k hk=>by cases hk;kernel_rfl) (by kernel_rfl) (laid_met os))) ?_
 intro W base args ds gs before hval hW _ hcond _ _ _ _
 exact contract H enc W base args ds gs before hval hW (hcond _ rfl)
theorem kf1:(Rows.fnExactParseClausesUptoRow.inPlace == Tryz.pinned.checked.prog.inPlace 3)=true:=by kernel_rfl
theorem kf2:(Rows.fnExactParseClausesUptoRow.unfollowed == Tryz.pinned.checked.prog.unfollowed 3)=true:=by kernel_rfl
theorem kf3:(Rows.fnExactParseClausesUptoRow.recurses == Tryz.pinned.checked.prog.recurses 3)=true:=by kernel_rfl
theorem kf4:(Rows.fnExactParseClausesUptoRow.named == Tryz.pinned.checked.prog.varsNamed 3)=true:=by kernel_rfl
theorem kf5:laidOutB Tryz.pinned.checked.prog=true:=by kernel_rfl
theorem kf6:mapsRowed Tryz.pinned.checked.prog=true:=by kernel_rfl
theorem kf7:Tryz.pinned.checked.prog.stopsHeard=true:=by kernel_rfl
theorem kf8:Tryz.pinned.checked.prog.mayEnter=true:=by kernel_rfl
theorem kf9:(Rows.fnExactParseClausesUptoRow.lifted == Tryz.pinned.checked.prog.liftsFinal)=true:=by kernel_rfl
theorem kf0:(Rows.fnExactParseClausesUptoRow.plainKeys == Tryz.pinned.checked.prog.plainKeys)=true:=by kernel_rfl
theorem facts:joinedFacts Tryz.pinned.checked.prog 3 Tryz.f3 (Rows.OpenSpec.upto Rows.fnExactParseClausesSpec).bare Rows.fnExactParseClausesUptoRow=true:=by
 unfold joinedFacts
 rw[kf1,kf2,kf3,kf4,kf5,kf6,kf7,kf8,kf9,kf0]
 kernel_rfl
theorem named:Tryz.pinned.checked.prog.funcNamed Rows.fnExactParseClausesUptoRow.func=some 3:=by kernel_rfl
theorem over:Rows.FnExactParseClausesUptoSaid:=
 OpenClaim.holds_of_cond 3 Tryz.f3 rfl rfl rfl rfl rfl rfl rfl ⟨rfl,rfl,rfl,rfl,rfl⟩ rfl rfl rfl rfl rfl named Tryz.func3 facts
  (xas (by as_aux_lemma=>kernel_rfl)) (by as_aux_lemma=>unfold Func.isWrapper;first|(rw[if_pos (by decide +kernel)];kernel_rfl)|(rw[if_neg (by decide +kernel)];exact⟨rfl,rfl⟩))
  (fun os started H enc _ F=>by rw[OpenClaim.pre_eq_preRow];exact lifted os started H enc F)
theorem looksOff:false=Tryz.pinned.checked.prog.looks []:=by kernel_rfl
theorem noStand:(Tryz.f3.params.all fun t=> !Tryz.prog.wantsStandIn t)=true:=by kernel_rfl
theorem plain (f:FuncId) (fn:Func) (hf:Tryz.pinned.checked.prog.funcNamed Rows.fnExactParseClausesUptoRow.func=some f) (hfn:Tryz.pinned.checked.prog.funcs[f]?=some fn):
  false=Tryz.pinned.checked.prog.looks []∧∀(j:Nat) t,fn.params[j]?=some t→Tryz.pinned.checked.prog.wantsStandIn t=false:=by
 obtain rfl:f=3:=(Option.some.inj (named.symm.trans hf)).symm
 obtain rfl:fn=Tryz.f3:=(Option.some.inj (Tryz.func3.symm.trans hfn)).symm
 refine⟨looksOff,fun j t ht=>?_⟩
 have:=Array.all_eq_true_iff_forall_mem.1 noStand t (Array.mem_of_getElem? ht)
 have h2:Tryz.prog.wantsStandIn t=false:=by simpa using this
 exact h2
theorem proved:Rows.FnExactParseClausesUptoCardSaid:=
 Claim7.holds_tied_plain_at .later [] _ _ _ _ over (fun _ h=>by cases h) (by kernel_rfl) (fun _ h=>by cases h) fnExactParseClausesUpto_row_tie rfl ⟨rfl,rfl⟩ (by kernel_rfl) rfl plain (by kernel_rfl)
end Go.Proofs.YtcjojgpodcjfcaaGreatDoor.fnExactParseClauses
