/-
  THE ABSTRACT WALK AND THE WALKS, part 5 of 7: the parts F81, F110, F113, F120, F73, F82, F83, F84, G5, F122, F123, Ta, F90, F91, F92, F93, F94, F95, F39, F96, F121, F126, F124, L40.
-/
import Derived.Test.YtpgdedpljcedpaaGreatT404
namespace Go.Proofs.YtpgdedpljcedpaaGreat
open Go
set_option linter.unusedSimpArgs false
set_option linter.unusedVariables false
set_option maxRecDepth 100000
set_option maxHeartbeats 2000000
theorem zmS {α β:Type}{g:α→List β}{K:Nat}:∀(l:List α),(∀x∈l,(g x).length≤K)→(l.flatMap g).length≤l.length*K
 | [],_=>by simp
 |x::r,h=>by
  have h1:=h x (by simp)
  have h2:=zmS r (fun y hy=>h y (by simp[hy]))
  rw[List.flatMap_cons,List.length_append,List.length_cons,Nat.add_mul];omega
theorem ze0 {w:List Data}{t:Ty}{l away:List Pat}{i:Nat} (h:i<away.length):subL w t l (away.drop i)=if (zbM w t l (nth away i)).length≤400 then subL w t (zbM w t l (nth away i)) (away.drop (i+1)) else none:=by
 rw[za1 h,subL]
theorem zpZ {w:List Data}{t:Ty}{l away:List Pat}{i:Nat} (h:away.length≤i):subL w t l (away.drop i)=some l:=by
 rw[List.drop_eq_nil_of_le h,subL]
theorem zgq (p:Pat):(zaS p).length≤40:=by unfold zaS;split;assumption;simp
theorem zkA {w:List Data}{t:Ty}{p:Pat} (h:zat w 10 t p=true):∀x∈zaS p,zad w 10 t x=true:=fun x hx=>by
 unfold zaS at hx
 split at hx
 ·exact zfE 10 h x hx
 ·simp at hx
theorem zdT {w:List Data}{t:Ty}:∀(away l r:List Pat),(∀a∈l,zad w 11 t a=true)→l.length≤400→(∀b∈away,zad w 10 t b=true)→subL w t l away=some r→r.length≤400∧∀x∈r,zad w 11 t x=true
 | [],l,r,hl,hn,_,h=>by rw[subL] at h;cases h;exact⟨hn,hl⟩
 |b::away,l,r,hl,hn,hb,h=>by
  rw[subL] at h
  split at h
  ·rename_i h4
   exact zdT away _ r (zel hl (hb b (by simp))) h4 (fun x hx=>hb x (by simp[hx])) h
  ·cases h
theorem zhm {w:List Data} (hs:Spa w){ta tk:Int} (ht:InS (w.length*4) ⟨ta,tk⟩){l away:List Pat} (hl:∀a∈l,zad w 11 ⟨ta,tk⟩ a=true) (hb:∀b∈away,zad w 10 ⟨ta,tk⟩ b=true) (hll:l.length≤400) (hal:away.length≤2000):
  FnD Tryz.prog 49 [.d (sPtr w (zai w)),.agg [.d (.i ta),.d (.i tk)],.d (zac l),.d (zac away)] [] (.tup [.d (zac ((zaE w ⟨ta,tk⟩ l away).getD [])),.d (.bool (zaE w ⟨ta,tk⟩ l away).isSome)]) []:=by
 have hlf:(l.filter (zbn w ⟨ta,tk⟩)).length≤l.length:=List.length_filter_le _ _
 have hmb:∀(c:List Pat) (i:Nat),(∀a∈c,zad w 11 ⟨ta,tk⟩ a=true)→i<away.length→∀x∈c,(zaq w 10 ⟨ta,tk⟩ x (nth away i)).length≤20000000:=fun c i hc hi x hx=>zfB hs (by omega) (by omega) ht (hc x hx) (hb _ (zag hi))
 have hnp:∀(c:List Pat) (i:Nat),(∀a∈c,zad w 11 ⟨ta,tk⟩ a=true)→i<away.length→∀x∈(c.flatMap fun a=>zaq w 10 ⟨ta,tk⟩ a (nth away i)),zad w 11 ⟨ta,tk⟩ x=true:=fun c i hc hi x hx=>by
  obtain⟨a,ha,hx⟩:=List.mem_flatMap.1 hx
  exact zfd 10 11 (by omega) (hc a ha) (hb _ (zag hi)) x hx
 have hpre:∀ {pre rest c:List Pat}{y:Pat} (i:Nat),(∀a∈c,zad w 11 ⟨ta,tk⟩ a=true)→c.length≤400→i<away.length→pre++y::rest=c→(pre.flatMap fun a=>zaq w 10 ⟨ta,tk⟩ a (nth away i)).length≤8000000000∧(zaq w 10 ⟨ta,tk⟩ y (nth away i)).length≤20000000:=fun {pre rest c y} i hc h4 hi h=>by
  have h1:=zmS (g:=fun a=>zaq w 10 ⟨ta,tk⟩ a (nth away i)) (K:=20000000) pre (fun x hx=>hmb c i hc hi x (by rw[←h];simp[hx]))
  have h2:=hmb c i hc hi y (by rw[←h];simp)
  have h3:=congrArg List.length h
  simp only[List.length_append,List.length_cons] at h3
  exact⟨by omega,h2⟩
 refine bd Tryz.f49 48 [12] [11] fun w0 F0 own kept hk=>?_
 refine bx 3005 ?_
 refine evs [12] [] ?_
 refine wc ztV (zhU hs ht hl (by omega)) rfl rfl ?_
 refine evs [12] [] ?_
 refine CWp.loopX (ι:=Nat×List Pat) hk (fun s=>[(21,.d (.i (s.1:Int))),(2,.d (zac s.2))]) [8,9,11,12,14,22,23,24,25,26,27,28,29,30,31,32,33,34,35,36,37,38,39,40,41,42,43,44,45,46] (fun s=>[]) (fun s=>s.1≤away.length∧subL w ⟨ta,tk⟩ s.2 (away.drop s.1)=zaE w ⟨ta,tk⟩ l away∧(∀a∈s.2,zad w 11 ⟨ta,tk⟩ a=true)∧s.2.length≤400) (fun s=>away.length-s.1) (0,l.filter (zbn w ⟨ta,tk⟩)) ⟨by simp,rfl,fun a ha=>hl a (List.mem_filter.1 ha).1,by dsimp only;omega⟩ ⟨⟨_,rfl,LeA.eqi ?_⟩,⟨⟨_,rfl, ?_⟩,trivial⟩⟩ trivial (fun x=>rfl) (fun s hg1=>?_)
 focus (first|rfl|(simp;done)|(simp_all;done)|omega)
 focus (first|exact LeA.refl _|((first|refine LeA.gld ?_|refine LeA.nild ?_);first|rfl|(simp;done)|(simp_all;done)|omega)|(refine LeA.eqsl ?_;first|rfl|(simp;done)|(simp_all;done)|omega)|(refine LeA.eqd ?_;first|rfl|(simp;done)|(simp_all;done)|omega))
 refine evc [12] [11] ?_
 refine sq (fun h1 h1p h1s=>?_) fun h1 h1p h1s=>?_
 try simp only[Q,Pat.cs_len] at h1p
 refine Walk.idx sl26 .none rfl rfl rfl rfl (zaI (by omega)) rfl ?_
 refine evs [12] [] ?_
 refine ab 3011 tz28 ?_
 refine so ty28 ?_
 refine tv ?_
 refine Walk.assignNil 9 6 .none rfl rfl ?_
 refine tv ?_
 refine CWp.loopX (ι:=List (Pat)×List (Pat)) hk (fun x=>[(27,.d (.i (x.1.length:Int))),(12,.gl 9 (Pat.cs (x.1.flatMap fun a=>zaq w 10 ⟨ta,tk⟩ a (nth away s.1))))]) [14,28,29,30,31,32,33,34,35,36,37,38] (fun x=>[(9,some (.tok ((Pat.cs (x.1.flatMap fun a=>zaq w 10 ⟨ta,tk⟩ a (nth away s.1)))).length 6))]) (fun x=>x.1++x.2=s.2) (fun x=>x.2.length) ([],s.2) (by simp) ⟨⟨_,rfl,LeA.eqi ?_⟩,⟨⟨_,rfl,LeA.glg ?_⟩,trivial⟩⟩ ⟨zab ?_,trivial⟩ (fun x=>rfl) (fun x hg2=>?_)
 iterate 3 focus (first|rfl|(rw[List.flatMap_append,Pat.cs_cd,Pat.cs_cd,Pat.cs_cd,List.map_append];simp;done)|(simp[Pat.cs_len];done)|omega|(simp;omega))
 obtain⟨pre,rest⟩:=x
 dsimp only at hg2 ⊢
 refine evc [12] [11] ?_
 refine sq (fun h2 h2p h2s=>?_) fun h2 h2p h2s=>?_
 try simp only[Q,Pat.cs_len] at h2p
 rcases rest with _|⟨y,rest⟩
 ·exfalso;simp_all
 refine Walk.idx sl26 .none rfl rfl rfl rfl (Pat.cs_at' hg2) rfl ?_
 refine evs [12] [] ?_
 refine ab 3014 tz28 ?_
 refine so ty28 ?_
 refine tv ?_
 refine wc zrn (ziR hs 10 11 (by omega) (by omega) (by omega) ht (hg1.2.2.1 y (by rw[←hg2];simp)) (hb _ (zag (by omega)))) rfl rfl ?_
 refine ap sl26 zz28 rfl rfl rfl (by exact za5 _) (by have h9:=hpre s.1 hg1.2.2.1 hg1.2.2.2 (by omega) hg2;simp only[Pat.cs_len];omega) ?_
 refine asg ?_
 refine tv ?_
 refine ar ?_
 refine Exists.intro ((pre++[y],rest)) ⟨(by have hz:=hg2;rw[←hz];simp),(by simp),sx ⟨⟨_,rfl,LeA.eqi ?_⟩,⟨⟨_,rfl,LeA.glg ?_⟩,trivial⟩⟩ ⟨zab ?_,trivial⟩⟩
 iterate 3 focus (first|rfl|(rw[List.flatMap_append,Pat.cs_cd,Pat.cs_cd,Pat.cs_cd,List.map_append];simp;done)|(simp[Pat.cs_len];done)|omega|(simp;omega))
 try simp only[Q,Pat.cs_len] at h2p
 have hrest:rest=[]:=by
  rcases rest with _|⟨a,b⟩
  ·rfl
  ·exfalso;have hz:=congrArg List.length (hg2);simp only[List.length_append,List.length_cons,List.length_map] at hz;omega
 subst hrest
 obtain rfl:pre=s.2:=(by simpa using hg2)
 refine evc [12] [] ?_
 refine Walk.call (cr:=[]) ztV (zhU hs ht (l:=s.2.flatMap fun a=>zaq w 10 ⟨ta,tk⟩ a (nth away s.1)) (hnp s.2 s.1 hg1.2.2.1 (by omega)) (by have:=zmS (g:=fun a=>zaq w 10 ⟨ta,tk⟩ a (nth away s.1)) (K:=20000000) s.2 (hmb s.2 s.1 hg1.2.2.1 (by omega));omega)) rfl .none rfl rfl (.cons (.refl _) (.cons (.refl _) (.cons (.gl _ _) .nil))) trivial rfl rfl rfl ?_
 refine evs [12] [] ?_
 refine sq (fun h3 h3p h3s=>?_) fun h3 h3p h3s=>?_
 try simp only[Q,Pat.cs_len] at h3p
 refine rn0 (r2 rfl rfl) (.tup (.cons (.nild ?_) (.cons (.eqd ?_) .nil)))
 rotate_left 2
 try simp only[Q,Pat.cs_len] at h3p
 refine ar ?_
 refine Exists.intro ((s.1+1,zbM w ⟨ta,tk⟩ s.2 (nth away s.1))) ⟨(by
    have h4:(zbM w ⟨ta,tk⟩ s.2 (nth away s.1)).length≤400:=by unfold zbM;omega
    refine⟨by dsimp only;omega, ?_,zel hg1.2.2.1 (hb _ (zag (by omega))),h4⟩
    have e:=ze0 (w:=w) (t:=⟨ta,tk⟩) (l:=s.2) (away:=away) (i:=s.1) (by omega)
    rw[if_pos h4] at e
    dsimp only
    rw[←e];exact hg1.2.1),(by dsimp only;omega),sx ⟨⟨_,rfl,LeA.eqi ?_⟩,⟨⟨_,rfl, ?_⟩,trivial⟩⟩ trivial⟩
 focus (first|rfl|(simp;done)|(simp_all;done)|omega)
 focus (first|exact LeA.refl _|((first|refine LeA.gld ?_|refine LeA.nild ?_);first|rfl|(simp;done)|(simp_all;done)|omega)|(refine LeA.eqsl ?_;first|rfl|(simp;done)|(simp_all;done)|omega)|(refine LeA.eqd ?_;first|rfl|(simp;done)|(simp_all;done)|omega))
 try simp only[Q,Pat.cs_len] at h1p
 refine rn0 (r2 rfl rfl) (.tup (.cons (.eqd ?_) (.cons (.eqd ?_) .nil)))
 rotate_left 2
 all_goals (first|rfl|(rw[←hg1.2.1,ze0 (by omega),if_neg (by assumption)];rfl)|(rw[←hg1.2.1,ze0 (by omega),if_neg (by unfold zbM;omega)];rfl)|(rw[←hg1.2.1,zpZ (by omega)];rfl))
theorem zkY {w:List Data} (hs:Spa w){f:Nat→Nat}{ta tk:Int} (ht:InS (w.length*4) ⟨ta,tk⟩){p:Pat} (hp:p.ok):
  FnD Tryz.prog 95 [.agg [.d (.i p.op),.d (.i p.ctor),.d (.i p.n),.d (.i p.m),.d (.i p.var),.d (zac p.kids)],.ref 3004 0,.ref 3005 0] [(3004,some (.box [.d (sPtr w f)])),(3005,some (.box [.d (.i ta),.d (.i tk)]))] (.d (.bool (!isP w ⟨ta,tk⟩ p))) []:=by
 refine bd Tryz.f95 13 [] [] fun w0 F0 own kept hk=>?_
 refine bx 3001 ?_
 refine ev ?_
 refine wc zoy (zeu hs.dp.wt (zcc ht) hp) rfl rfl ?_
 refine evd [] [] ?_
 refine dr ?_
 refine rn [] (r1 rfl) (.eqd ?_) ⟨rfl,rfl⟩ (SubH.get ⟨rfl,⟨rfl,trivial⟩⟩) (fun _ h=>h)
 rotate_left
 all_goals (rfl)
theorem zfz {w:List Data} (hs:Spa w){f:Nat→Nat}{ta tk:Int} (ht:InS (w.length*4) ⟨ta,tk⟩){l:List Pat}{ok:Bool} (hl:∀a∈l,a.ok) (hb:l.length≤1000000000000):
  FnD Tryz.prog 50 [.d (sPtr w f),.agg [.d (.i ta),.d (.i tk)],.d (zac l),.d (.bool ok)] [] (.tup [.d (zac (if (ok&&l.all (isP w ⟨ta,tk⟩))=true then l else [])),.d (.bool (ok&&l.all (isP w ⟨ta,tk⟩)))]) []:=by
 have hall:(l.any fun p=> !isP w ⟨ta,tk⟩ p) = !(l.all (isP w ⟨ta,tk⟩)):=by
  induction l with
  |nil=>rfl
  |cons x r ih=>rw[List.any_cons,List.all_cons,ih (fun a ha=>hl a (by simp[ha])) (by simp at hb;omega),Bool.not_and]
 have hcf:=zgc (xs:=l) (p:=fun p=> !isP w ⟨ta,tk⟩ p) (caps:=[.ref 3004 0,.ref 3005 0]) (hp:=[(3004,some (.box [.d (sPtr w f)])),(3005,some (.box [.d (.i ta),.d (.i tk)]))]) hb zvV (fun q hq=>zkY hs ht (hl q hq)) ⟨rfl,rfl,trivial⟩ rfl rfl
 rw[hall] at hcf
 clear hall
 generalize l.all (isP w ⟨ta,tk⟩)=q at hcf ⊢
 refine bd Tryz.f50 19 [] [] fun w0 F0 own kept hk=>?_
 refine bx 3004 ?_
 refine bx 3005 ?_
 refine ev ?_
 refine sq (fun h1 h1p h1s=>?_) fun h1 h1p h1s=>?_
 refine sqT ?_
 refine rn0 (r2 rfl rfl) (.tup (.cons (.nild ?_) (.cons (.eqd ?_) .nil)))
 rotate_left 2
 refine Walk.closure (xs:=[_,_]) rfl (.some rfl rfl h1) rfl rfl ?_
 refine Walk.call (cr:=[]) zvU (hcf) rfl (.some rfl rfl h1) rfl rfl (LeL.refl _) ⟨rfl,rfl,trivial⟩ rfl rfl rfl ?_
 refine evs [] [(12,false)] ?_ ⟨⟨_,rfl,h1⟩,trivial⟩
 refine sq (fun h3 h3p h3s=>?_) fun h3 h3p h3s=>?_
 refine rn0 (r2 rfl rfl) (.tup (.cons (.nild ?_) (.cons (.eqd ?_) .nil)))
 rotate_left 2
 refine wc zvW (zi1 hb hl) rfl rfl ?_
 refine ev ?_
 refine rn0 (r2 rfl rfl) (.tup (.cons (.eqd ?_) (.cons (.eqd ?_) .nil)))
 rotate_left 2
 all_goals (first|rfl|(cases ok<;>cases q<;>first|rfl|(exfalso;simp_all;done)))
mutual
def hitP:Pat→Val→Bool
 | .mk op c n m _ ks,v=>if op=3 then zam v.num n m else if op=4 then decide (c=v.ctor)&&hitL ks v.kids else true
def hitL:List Pat→List Val→Bool
 |p::r,v::s=>hitP p v&&hitL r s
 |_,_=>true
end
theorem zmW (p:Pat) (v:Val):hitP p v=if p.op=3 then zam v.num p.n p.m else if p.op=4 then decide (p.ctor=v.ctor)&&hitL p.kids v.kids else true:=by
 cases p;unfold hitP;rfl
theorem ze7 {p:Pat}{v:Val} (h:p.op=1):hitP p v=true:=by rw[zmW,if_neg (by omega),if_neg (by omega)]
theorem zhl {p:Pat}{v:Val} (h:p.op=3):hitP p v=zam v.num p.n p.m:=by rw[zmW,if_pos h]
theorem zc6 {p:Pat}{v:Val} (h:p.op=4):hitP p v=(decide (p.ctor=v.ctor)&&hitL p.kids v.kids):=by rw[zmW,if_neg (by omega),if_pos h]
theorem zkR:∀ {l:List Pat}{s:List Val},l.length=s.length→(hitL l s=true↔∀i,i<l.length→hitP (nth l i) (nth s i)=true)
 | [],[],_=>by simp[hitL]
 |p::r,v::s,h=>by
  have ih:=zkR (l:=r) (s:=s) (by simpa using h)
  simp only[hitL,Bool.and_eq_true,ih]
  constructor
  ·rintro ⟨h1,h2⟩ i hi
   cases i with
   |zero=>exact h1
   |succ i=>exact h2 i (by simpa using hi)
  ·intro h1
   exact⟨h1 0 (by simp),fun i hi=>h1 (i+1) (by simpa using hi)⟩
 | [],_::_,h=>by simp at h
 |_::_,[],h=>by simp at h
theorem zkQ {α:Type}:∀(l:List α) (s:List Val),hitL (l.map fun _=>anyQ) s=true
 | [],_=>by simp[hitL]
 |_::_,[]=>by simp[hitL]
 |_::r,v::s=>by simp only[List.map_cons,hitL,zkQ r s,Bool.and_true];exact ze7 rfl
theorem zfT:∀(l:List Pat) (s:List Val) (p:Pat) (v:Val),l.length=s.length→hitL (l++[p]) (s++[v])=(hitL l s&&hitP p v)
 | [],[],p,v,_=>by simp[hitL]
 |q::r,x::s,p,v,h=>by
  simp only[List.cons_append,hitL,zfT r s p v (by simpa using h),Bool.and_assoc]
 | [],_::_,_,_,h=>by simp at h
 |_::_,[],_,_,h=>by simp at h
theorem zpi:∀(l:List Pat) (s:List Val) (r:List Pat) (q:List Val),l.length=s.length→hitL (l++r) (s++q)=(hitL l s&&hitL r q)
 | [],[],r,q,_=>by simp[hitL]
 |p::l,x::s,r,q,h=>by
  simp only[List.cons_append,hitL,zpi l s r q (by simpa using h),Bool.and_assoc]
 | [],_::_,_,_,h=>by simp at h
 |_::_,[],_,_,h=>by simp at h
theorem zs8 {w:List Data}{m:Nat}{t:Ty}{v:Val} (h:zaX w m t v=true) (ht:t.data = -1):0≤v.num∧v.num≤9:=by
 cases m with
 |zero=>simp[zaX] at h
 |succ m=>
  unfold zaX at h
  rw[if_pos ht] at h
  simp only[Bool.and_eq_true,decide_eq_true_eq] at h
  omega
theorem zpK:∀(ls:List (List Pat)) (vs:List Val) (out:List (List Pat)) (v0:List Val),ls.length=vs.length→(∀q∈out,q.length=v0.length)→
  ((∃l∈ls.foldl zbd out,hitL l (v0++vs)=true)↔(∃q∈out,hitL q v0=true)∧∀i,i<ls.length→∃x∈nth ls i,hitP x (nth vs i)=true)
 | [],[],out,v0,_,_=>by simp
 |l::r,v::s,out,v0,h,ho=>by
  have ih:=zpK r s (zbd out l) (v0++[v]) (by simpa using h) (fun q hq=>by
   unfold zbd at hq
   obtain⟨q0,h1,h2⟩:=List.mem_flatMap.1 hq
   obtain⟨c,h3,rfl⟩:=List.mem_map.1 h2
   simp[ho q0 h1])
  rw[List.append_assoc] at ih
  rw[List.foldl_cons,show v0++v::s=v0++([v]++s) from rfl,ih]
  constructor
  ·rintro ⟨⟨q,hq,hh⟩,h2⟩
   unfold zbd at hq
   obtain⟨q0,h3,h4⟩:=List.mem_flatMap.1 hq
   obtain⟨c,h5,rfl⟩:=List.mem_map.1 h4
   rw[zfT q0 v0 c v (ho q0 h3),Bool.and_eq_true] at hh
   refine⟨⟨q0,h3,hh.1⟩,fun i hi=>?_⟩
   cases i with
   |zero=>exact⟨c,h5,hh.2⟩
   |succ i=>exact h2 i (by simpa using hi)
  ·rintro ⟨⟨q,hq,hh⟩,h2⟩
   obtain⟨c,h5,h6⟩:=h2 0 (by simp)
   refine⟨⟨q++[c], ?_, ?_⟩,fun i hi=>h2 (i+1) (by simpa using hi)⟩
   ·unfold zbd
    exact List.mem_flatMap.2 ⟨q,hq,List.mem_map.2 ⟨c,h5,rfl⟩⟩
   ·rw[zfT q v0 c v (ho q hq),hh];exact h6
 | [],_::_,_,_,h,_=>by simp at h
 |_::_,[],_,_,h,_=>by simp at h
theorem zlV {f:Pat→Val→List Bd×Bool}:∀ {a:List Pat}{b:List Val}{acc:List Bd},a.length=b.length→((zhV f a b acc).2=true↔∀i,i<a.length→(f (nth a i) (nth b i)).2=true)
 | [],[],acc,_=>by simp[zhV]
 |p::r,v::s,acc,h=>by
  unfold zhV
  by_cases hp:(f p v).2=true
  ·rw[if_pos hp,zlV (a:=r) (b:=s) (by simpa using h)]
   constructor
   ·intro h1 i hi
    cases i with
    |zero=>exact hp
    |succ i=>exact h1 i (by simpa using hi)
   ·intro h1 i hi
    exact h1 (i+1) (by simpa using hi)
  ·rw[if_neg hp]
   constructor
   ·intro h1;cases h1
   ·intro h1;exact absurd (h1 0 (by simp)) hp
 | [],_::_,_,h=>by simp at h
 |_::_,[],_,h=>by simp at h
theorem zdp {p:Pat} (h5:p.op≠5) (hk:p.kids=[]):zap p=[p]:=by
 rw[zc4 h5,hk]
 cases p
 simp only[za0] at hk
 subst hk
 simp[zd2,zb1,zdV,mk_n,mk_m,zfe]
theorem zez {w:List Data}:∀(n m:Nat){t:Ty}{p:Pat}{v:Val},zat w n t p=true→zaX w m t v=true→((zbe n p v).2=true↔∃x∈zap (zas p),hitP x v=true)
 |0,m,t,p,v,h,_=>by simp[zat] at h
 |n+1,0,t,p,v,_,h=>by simp[zaX] at h
 |n+1,m+1,t,p,v,h,hv=>by
  rcases ziI h with h1|h2|h3|h4|h5|h6
  ·have hk:=zeq h (by omega) (by omega) (by omega)
   rw[zuu h1,zbl,if_neg (by omega),if_neg (by omega),zdp (by rw[zb1];omega) (by rw[za0,hk];rfl)]
   simp only[List.mem_singleton,exists_eq_left,true_iff]
   exact ze7 h1
  ·rw[zuv h2,zbl,if_pos h2,zbU]
   simp only[List.mem_singleton,exists_eq_left,true_iff]
   exact ze7 rfl
  ·have hk:=zeq h (by omega) (by omega) (by omega)
   rw[zuw h3,zbl,if_neg (by omega),if_neg (by omega),zdp (by rw[zb1];omega) (by rw[za0,hk];rfl)]
   simp only[List.mem_singleton,exists_eq_left]
   rw[zhl (p:= .mk p.op p.ctor p.n p.m p.var (p.kids.map zas)) h3]
   exact Iff.rfl
  ·have hs:=h
   unfold zat at hs
   rw[Bool.and_eq_true,zbc h4] at hs
   have hl:=zhG hs.2
   rw[zbl,if_neg (by omega),if_neg (by omega),zc4 (by rw[zb1];omega)]
   have hd:t.data≠ -1:=fun e=>by
    have:=zcA hs.1 h4
    unfold zah at this;rw[if_pos e] at this;simp at this
   obtain⟨f1,f2,f3⟩:=zeQ hv hd
   by_cases hc:p.ctor=v.ctor
   ·rw[zux h4 hc]
    rw[hc] at hl hs
    have hlen:p.kids.length=v.kids.length:=by omega
    rw[zlV hlen]
    have hp:=zpK ((p.kids.map zas).map zap) v.kids [[]] [] (by simp[hlen]) (by simp)
    simp only[List.nil_append,List.mem_singleton,exists_eq_left,hitL,true_and,List.length_map] at hp
    have hih:∀i,i<p.kids.length→((zbe n (nth p.kids i) (nth v.kids i)).2=true↔∃x∈nth ((p.kids.map zas).map zap) i,hitP x (nth v.kids i)=true):=fun i hi=>by
     rw[zez n m (zfs hl hs.2 i (by omega)) (f3 i (by omega))]
     have e:nth ((p.kids.map zas).map zap) i=zap (zas (nth p.kids i)):=by
      rw[zaJ (by simpa using hi),zaJ hi];simp
     rw[e]
    constructor
    ·intro h1
     obtain⟨l,hl2,hh⟩:=hp.2 (fun i hi=>(hih i hi).1 (h1 i hi))
     refine⟨_,List.mem_map.2 ⟨l,hl2,rfl⟩, ?_⟩
     rw[zc6 (by rw[zb1];exact h4)]
     simp only[zdV,za0,hc,hh,decide_true,Bool.and_self]
    ·rintro ⟨x,hx,hh⟩ i hi
     obtain⟨l,hl2,rfl⟩:=List.mem_map.1 hx
     rw[zc6 (by rw[zb1];exact h4),Bool.and_eq_true] at hh
     exact(hih i hi).2 (hp.1 ⟨l,hl2,hh.2⟩ i hi)
   ·rw[zti h4 hc]
    constructor
    ·intro h1;cases h1
    ·rintro ⟨x,hx,hh⟩
     obtain⟨l,hl2,rfl⟩:=List.mem_map.1 hx
     rw[zc6 (by rw[zb1];exact h4),Bool.and_eq_true] at hh
     exact absurd (of_decide_eq_true hh.1) hc
  ·obtain⟨l2,s0,s1⟩:=zeY h h5
   have ee:p.kids.map zas=[zas (nth p.kids 0),zas (nth p.kids 1)]:=by
    match hk:p.kids,l2 with
    | [a,b],_=>rfl
   rw[zbl,if_neg (by omega),if_neg (by omega),zdu (by rw[zb1];exact h5) (by rw[za0];simpa using l2),za0,ee]
   have i0:=zez n (m+1) s0 hv
   have i1:=zez n (m+1) s1 hv
   have e0:nth [zas (nth p.kids 0),zas (nth p.kids 1)] 0=zas (nth p.kids 0):=rfl
   have e1:nth [zas (nth p.kids 0),zas (nth p.kids 1)] 1=zas (nth p.kids 1):=rfl
   rw[e0,e1]
   by_cases hm:(zbe n (nth p.kids 0) v).2=true
   ·rw[ztj h5 hm]
    obtain⟨x,hx,hh⟩:=i0.1 hm
    simp only[true_iff]
    exact⟨x,List.mem_append_left _ hx,hh⟩
   ·rw[ztk h5 (by simpa using hm),i1]
    constructor
    ·rintro ⟨x,hx,hh⟩
     exact⟨x,List.mem_append_right _ hx,hh⟩
    ·rintro ⟨x,hx,hh⟩
     rcases List.mem_append.1 hx with hx|hx
     ·exact absurd (i0.2 ⟨x,hx,hh⟩) hm
     ·exact⟨x,hx,hh⟩
  ·obtain⟨l1,s0⟩:=zeX h h6
   rw[zuy h6,zbl,if_neg (by omega),if_pos ⟨h6,fun e=>by rw[e] at l1;simp at l1⟩]
   exact zez n (m+1) s0 hv
theorem znM {f:Pat→Pat→Option Pat}:∀ {a b:List Pat}{acc:List Pat}{s q:List Val},a.length=b.length→a.length=s.length→acc.length=q.length→
  (∀i,i<a.length→match f (nth a i) (nth b i) with
   |none=>(hitP (nth a i) (nth s i)&&hitP (nth b i) (nth s i))=false
   |some x=>hitP x (nth s i)=(hitP (nth a i) (nth s i)&&hitP (nth b i) (nth s i)))→
  match zbQ f a b acc with
   |none=>(hitL a s&&hitL b s)=false
   |some l=>hitL l (q++s)=(hitL acc q&&(hitL a s&&hitL b s))
 | [],[],acc,[],q,_,_,ha,_=>by simp[zbQ,hitL]
 |p::r,p2::r2,acc,v::s,q,h1,h2,ha,hf=>by
  have h0:=hf 0 (by simp)
  have e1:nth (p::r) 0=p:=rfl
  have e2:nth (p2::r2) 0=p2:=rfl
  have e3:nth (v::s) 0=v:=rfl
  rw[e1,e2,e3] at h0
  unfold zbQ
  cases hx:f p p2 with
  |none=>
   rw[hx] at h0
   simp only[hitL]
   dsimp only at h0
   cases ha1:hitP p v<;>cases hb1:hitP p2 v<;>simp_all
  |some x=>
   rw[hx] at h0
   dsimp only at h0 ⊢
   have ih:=znM (f:=f) (a:=r) (b:=r2) (acc:=acc++[x]) (s:=s) (q:=q++[v]) (by simpa using h1) (by simpa using h2) (by simp[ha]) (fun i hi=>hf (i+1) (by simpa using hi))
   cases hm:zbQ f r r2 (acc++[x]) with
   |none=>
    rw[hm] at ih
    dsimp only at ih ⊢
    simp only[hitL]
    cases ha1:hitP p v<;>cases hb1:hitP p2 v<;>simp_all
   |some l=>
    rw[hm] at ih
    dsimp only at ih ⊢
    rw[show q++v::s=q++[v]++s by simp,ih,zfT acc q x v ha,h0]
    simp only[hitL]
    cases hitL acc q<;>cases hitP p v<;>cases hitP p2 v<;>cases hitL r s<;>cases hitL r2 s<;>rfl
 | [],_::_,_,_,_,h,_,_,_=>by simp at h
 |_::_,[],_,_,_,h,_,_,_=>by simp at h
 | [],[],_,_::_,_,_,h,_,_=>by simp at h
 |_::_,_::_,_,[],_,_,h,_,_=>by simp at h
theorem zqp {x a b c d:Int}:zam x (maxQ a c) (minQ b d)=(zam x a b&&zam x c d):=by
 unfold zam maxQ minQ
 rw[Bool.eq_iff_iff]
 simp only[Bool.and_eq_true,decide_eq_true_eq]
 split<;>split<;>omega
theorem zpr {w:List Data}:∀(k m:Nat){t:Ty}{a b:Pat}{v:Val},zad w k t a=true→zad w k t b=true→zaX w m t v=true→∀n,k≤n→match zaD n a b with
  |none=>(hitP a v&&hitP b v)=false
  |some x=>hitP x v=(hitP a v&&hitP b v)
 |0,m,t,a,b,v,ha,_,_,_,_=>by simp[zad] at ha
 |k+1,0,t,a,b,v,_,_,hv,_,_=>by simp[zaX] at hv
 |k+1,m+1,t,a,b,v,_,_,_,0,h=>by omega
 |k+1,m+1,t,a,b,v,ha,hb,hv,n+1,hn=>by
  by_cases h1:a.op=1
  ·rw[zg0 h1];dsimp only;rw[ze7 h1,Bool.true_and]
  by_cases h2:b.op=1
  ·rw[zhW h1 h2];dsimp only;rw[ze7 h2,Bool.and_true]
  have hs:=zde ha hb h1 h2
  have oa:=zbv ha
  by_cases h3:a.op=3
  ·rw[zhX h3 h2,zhl h3,zhl (p:=b) (by omega),←zqp]
   split
   ·rename_i x hx
    split at hx
    ·cases hx
    ·unfold zam
     simp only[Bool.and_eq_false_iff,decide_eq_false_iff_not]
     omega
   ·rename_i x hx
    split at hx
    ·cases hx;rfl
    ·cases hx
  have h4:a.op=4:=by omega
  have hb4:b.op=4:=by omega
  rw[zc6 h4,zc6 hb4]
  obtain⟨m1,m2,m3,m4⟩:=zaA ha h4
  obtain⟨n1,n2,n3,n4⟩:=zaA hb hb4
  obtain⟨f1,f2,f3⟩:=zeQ hv m2
  by_cases hc:a.ctor=b.ctor
  ·rw[zg1 h4 h2 hc]
   rw[←hc] at n3 ⊢
   by_cases hcv:a.ctor=v.ctor
   ·rw[decide_eq_true hcv]
    have hl:=znM (f:=zaD n) (a:=a.kids) (b:=b.kids) (acc:=[]) (s:=v.kids) (q:=[]) (by omega) (by rw[hcv] at m3;omega) rfl (fun i hi=>by
     have ka:=zaP ha (i:=i) hi
     have kb:=zaP hb (i:=i) (by omega)
     rw[zbc h4,hcv] at ka
     rw[zbc hb4,←hc,hcv] at kb
     exact zpr k m ka kb (f3 i (by rw[hcv] at m3;omega)) n (by omega))
    cases hx:zbQ (zaD n) a.kids b.kids [] with
    |none=>
     rw[hx] at hl
     dsimp only[Option.map_none] at hl ⊢
     rw[Bool.true_and,Bool.true_and];exact hl
    |some l=>
     rw[hx] at hl
     dsimp only[Option.map_some] at hl ⊢
     rw[zc6 (by rfl)]
     show(decide (a.ctor=v.ctor)&&hitL l v.kids)=_
     rw[decide_eq_true hcv]
     simpa [hitL] using hl
   ·rw[decide_eq_false hcv]
    cases hx:zbQ (zaD n) a.kids b.kids [] with
    |none=>rfl
    |some l=>
     dsimp only[Option.map_some]
     rw[zc6 (by rfl)]
     show(decide (a.ctor=v.ctor)&&hitL l v.kids)=_
     rw[decide_eq_false hcv];rfl
  ·rw[zgJ h4 h2 hc]
   dsimp only
   by_cases hcv:a.ctor=v.ctor
   ·rw[decide_eq_false (p:=b.ctor=v.ctor) (by omega)];simp
   ·rw[decide_eq_false hcv];simp
def one (b:Bool):Nat:=if b=true then 1 else 0
theorem zns {a b:Int}{v:Val}:(zbS a b).countP (fun x=>hitP x v)=one (zam v.num a b):=by
 unfold zbS one
 split
 ·rw[List.countP_singleton,zhl rfl];rfl
 ·rename_i h
  have:zam v.num a b=false:=by unfold zam;simp only[Bool.and_eq_false_iff,decide_eq_false_iff_not];omega
  rw[this];rfl
theorem zsg {c:Int}{pre:List Pat}{s:List Pat}{v0:Val}{vf vs:List Val}{v:Val} (hv:v.kids=vf++v0::vs) (hl:pre.length=vf.length) (l:List Pat):
  (l.map (fun z=>zbg c (pre++[z]++s))).countP (fun x=>hitP x v)=one (decide (c=v.ctor)&&(hitL pre vf&&hitL s vs))*l.countP (fun z=>hitP z v0):=by
 rw[List.countP_map]
 have hz:∀z,hitP (zbg c (pre++[z]++s)) v=((decide (c=v.ctor)&&(hitL pre vf&&hitL s vs))&&hitP z v0):=fun z=>by
  rw[zc6 rfl]
  show(decide (c=v.ctor)&&hitL (pre++[z]++s) v.kids)=_
  rw[hv,show vf++v0::vs=vf++([v0]++vs) by simp,List.append_assoc,zpi pre vf _ _ hl]
  show(decide (c=v.ctor)&&(hitL pre vf&&(hitP z v0&&hitL s vs)))=_
  cases decide (c=v.ctor)<;>cases hitL pre vf<;>cases hitP z v0<;>cases hitL s vs<;>rfl
 cases hb:(decide (c=v.ctor)&&(hitL pre vf&&hitL s vs)) with
 |true=>
  rw[show one true=1 from rfl,Nat.one_mul]
  congr 1
  funext z
  show hitP (zbg c (pre++[z]++s)) v=_
  rw[hz,hb,Bool.true_and]
 |false=>
  rw[show one false=0 from rfl,Nat.zero_mul]
  rw[List.countP_eq_zero]
  intro z _
  show ¬hitP (zbg c (pre++[z]++s)) v=true
  rw[hz,hb];simp
theorem zth:∀d f x y s b:Bool,one (d&&(f&&s))*one (x&& !y)+one (d&&((f&&(x&&y))&&(s&& !b)))=one (d&&(f&&((x&&s)&& !(y&&b)))):=by decide
theorem ztg:∀d f x y s b:Bool,(x&&y)=false→one (d&&(f&&s))*one (x&& !y)+0=one (d&&(f&&((x&&s)&& !(y&&b)))):=by decide
theorem zsC {x la ha bn bm:Int} (h:bn≤bm):one (zam x la (minQ ha (bn-1)))+one (zam x (maxQ la (bm+1)) ha)=one (zam x la ha&& !zam x bn bm):=by
 have e1:zam x la (minQ ha (bn-1))=(zam x la ha&&decide (x<bn)):=by
  unfold zam minQ
  rw[Bool.eq_iff_iff]
  simp only[Bool.and_eq_true,decide_eq_true_eq]
  split<;>omega
 have e2:zam x (maxQ la (bm+1)) ha=(zam x la ha&&decide (bm<x)):=by
  unfold zam maxQ
  rw[Bool.eq_iff_iff]
  simp only[Bool.and_eq_true,decide_eq_true_eq]
  split<;>omega
 have e3:zam x bn bm=(!decide (x<bn)&& !decide (bm<x)):=by
  unfold zam
  rw[Bool.eq_iff_iff]
  simp only[Bool.and_eq_true,Bool.not_eq_true',decide_eq_true_eq,decide_eq_false_iff_not]
  omega
 have key:∀q u v:Bool,(u&&v)=false→one (q&&u)+one (q&&v)=one (q&& !(!u&& !v)):=by decide
 rw[e1,e2,e3]
 refine key _ _ _ ?_
 rw[Bool.and_eq_false_iff,decide_eq_false_iff_not,decide_eq_false_iff_not]
 omega
theorem zl0 {w:List Data}{f:Ty→Pat→Pat→List Pat}{m:Nat}{c:Int}{v:Val}:
  ∀ {us:List Ty}{xs bs front:List Pat}{vf vs:List Val},v.kids=vf++vs→front.length=vf.length→us.length=xs.length→bs.length=xs.length→vs.length=xs.length→
   (∀j,j<xs.length→zad w 11 (nth us j) (nth xs j)=true∧zad w 11 (nth us j) (nth bs j)=true∧zaX w m (nth us j) (nth vs j)=true∧(f (nth us j) (nth xs j) (nth bs j)).countP (fun x=>hitP x (nth vs j))=one (hitP (nth xs j) (nth vs j)&& !hitP (nth bs j) (nth vs j)))→
   (zaK f c us xs bs front).countP (fun x=>hitP x v)=one (decide (c=v.ctor)&&(hitL front vf&&(hitL xs vs&& !hitL bs vs)))
 | [],[],[],front,vf,[],_,_,_,_,_,_=>by
  simp only[zaK,List.countP_nil,hitL]
  cases decide (c=v.ctor)<;>cases hitL front vf<;>rfl
 |u::us,x::xs,y::bs,front,vf,v0::vs,hv,hfl,h1,h2,h3,hf=>by
  have h0:=hf 0 (by simp)
  have e0:nth (u::us) 0=u:=rfl
  have e1:nth (x::xs) 0=x:=rfl
  have e2:nth (y::bs) 0=y:=rfl
  have e3:nth (v0::vs) 0=v0:=rfl
  rw[e0,e1,e2,e3] at h0
  unfold zaK
  rw[List.countP_append,zsg hv hfl,h0.2.2.2]
  have hm:=zpr 11 m h0.1 h0.2.1 h0.2.2.1 11 (Nat.le_refl _)
  cases hq:zaD 11 x y with
  |none=>
   rw[hq] at hm
   dsimp only at hm ⊢
   simp only[List.countP_nil,hitL]
   exact ztg _ _ _ _ _ _ hm
  |some both=>
   rw[hq] at hm
   dsimp only at hm ⊢
   have ih:=zl0 (w:=w) (f:=f) (m:=m) (c:=c) (v:=v) (us:=us) (xs:=xs) (bs:=bs) (front:=front++[both]) (vf:=vf++[v0]) (vs:=vs) (by rw[hv];simp) (by simp[hfl]) (by simpa using h1) (by simpa using h2) (by simpa using h3) (fun j hj=>hf (j+1) (by simpa using hj))
   rw[ih,zfT front vf both v0 hfl,hm]
   simp only[hitL]
   exact zth _ _ _ _ _ _
 | [],_::_,_,_,_,_,_,_,h,_,_,_=>by simp at h
 |_::_,[],_,_,_,_,_,_,h,_,_,_=>by simp at h
 |_,[],_::_,_,_,_,_,_,_,h,_,_=>by simp at h
 |_,_::_,[],_,_,_,_,_,_,h,_,_=>by simp at h
 |_,[],_,_,_,_::_,_,_,_,_,h,_=>by simp at h
 |_,_::_,_,_,_,[],_,_,_,_,h,_=>by simp at h
theorem zkv {f:Ty→Pat→Pat→List Pat}{c:Int}{x:Pat}:∀ {us:List Ty}{xs bs front:List Pat},x∈zaK f c us xs bs front→∃l,x=zbg c l
 |u::us,a::xs,y::bs,front,h=>by
  unfold zaK at h
  rcases List.mem_append.1 h with h|h
  ·obtain⟨z,_,rfl⟩:=List.mem_map.1 h
   exact⟨_,rfl⟩
  ·cases hq:zaD 11 a y with
   |none=>rw[hq] at h;simp at h
   |some b=>rw[hq] at h;exact zkv h
 | [],_,_,_,h=>by simp[zaK] at h
 |_::_,[],_,_,h=>by simp[zaK] at h
 |_::_,_::_,[],_,h=>by simp[zaK] at h
theorem znr {c0:Int}{g:Int→List Pat}{v:Val}{k:Nat}:∀ {l:List Int},l.Nodup→c0∈l→(∀c∈l,c≠c0→(g c).countP (fun x=>hitP x v)=0)→(g c0).countP (fun x=>hitP x v)=k→(l.flatMap g).countP (fun x=>hitP x v)=k
 | [],_,h,_,_=>by simp at h
 |a::r,hn,hm,hz,hk=>by
  rw[List.flatMap_cons,List.countP_append]
  have hn':=List.nodup_cons.1 hn
  by_cases ha:a=c0
  ·subst ha
   have h0:(r.flatMap g).countP (fun x=>hitP x v)=0:=by
    rw[List.countP_eq_zero]
    intro x hx
    obtain⟨c,hc,hx⟩:=List.mem_flatMap.1 hx
    have:=hz c (by simp[hc]) (fun e=>hn'.1 (e ▸ hc))
    rw[List.countP_eq_zero] at this
    exact this x hx
   omega
  ·have h1:=hz a (by simp) ha
   have h2:=znr (g:=g) (v:=v) (k:=k) hn'.2 (by simpa [Ne.symm ha] using hm) (fun c hc=>hz c (by simp[hc])) hk
   omega
section
variable {w:List Data} (hs:Spa w)
include hs
theorem znR:∀(n m k:Nat){t:Ty}{a b:Pat}{v:Val},n<m→m≤12→InS (w.length*4) t→zad w m t a=true→zad w n t b=true→zaX w k t v=true→(zaq w n t a b).countP (fun x=>hitP x v)=one (hitP a v&& !hitP b v)
 |0,m,k,t,a,b,v,_,_,_,_,hb,_=>by simp[zad] at hb
 |n+1,0,k,t,a,b,v,hn,_,_,_,_,_=>by omega
 |n+1,m+1,0,t,a,b,v,_,_,_,_,_,hv=>by simp[zaX] at hv
 |n+1,m+1,k+1,t,a,b,v,hn,h12,ht,ha,hb,hv=>by
  have hcc:∀a,zad w (m+1) t a=true→a.op=4→b.op=4→(zb8 (zaq w n) w t a b).countP (fun x=>hitP x v)=one (hitP a v&& !hitP b v):=fun a ha h4 h4b=>by
   obtain⟨m1,m2,m3,m4⟩:=zaA ha h4
   obtain⟨n1,n2,n3,n4⟩:=zaA hb h4b
   obtain⟨f1,f2,f3⟩:=zeQ hv m2
   rw[zc6 h4,zc6 h4b]
   unfold zb8
   split
   ·rename_i hc
    by_cases hcv:a.ctor=v.ctor
    ·have:=zl0 (w:=w) (f:=zaq w n) (m:=k) (c:=a.ctor) (v:=v) (us:=zaa w t a.ctor) (xs:=a.kids) (bs:=b.kids) (front:=[]) (vf:=[]) (vs:=v.kids) rfl rfl m3.symm (by rw[←hc] at n3;omega) (by rw[hcv] at m3;omega) (fun j hj=>by
      have ka:=zaP ha (i:=j) hj
      have kb:=zaP hb (i:=j) (by rw[←hc] at n3;omega)
      rw[zbc h4] at ka
      rw[zbc h4b,←hc] at kb
      have kv:=f3 j (by rw[hcv] at m3;omega)
      rw[←hcv] at kv
      exact⟨zdd (by omega) ka,zdd (by omega) kb,kv,znR n m k (by omega) (by omega) (zby hs.dp ht m1 _ (zag (by omega))) ka kb kv⟩)
     rw[this,←hc]
     simp only[hitL,one]
     cases decide (a.ctor=v.ctor)<;>cases hitL a.kids v.kids<;>cases hitL b.kids v.kids<;>rfl
    ·have hz:(zaK (zaq w n) a.ctor (zaa w t a.ctor) a.kids b.kids []).countP (fun x=>hitP x v)=0:=by
      rw[List.countP_eq_zero]
      intro x hx
      obtain⟨l,rfl⟩:=zkv hx
      rw[zc6 rfl]
      show ¬(decide (a.ctor=v.ctor)&&hitL l v.kids)=true
      rw[decide_eq_false hcv];simp
     rw[hz,decide_eq_false hcv];rfl
   ·rename_i hc
    rw[List.countP_singleton,zc6 h4]
    by_cases hcv:a.ctor=v.ctor
    ·rw[decide_eq_false (p:=b.ctor=v.ctor) (by omega)]
     simp only[Bool.false_and,Bool.not_false,Bool.and_true,one]
    ·rw[decide_eq_false hcv];rfl
  rcases zbv hb with h1|h3|h4
  ·rw[zek h1,ze7 h1];simp[one]
  ·have hd:=(zbI hb h3).1
   have hl:=zk0 ha hd
   have ib:=zbI hb h3
   have fn:=zs8 hv hd
   rw[zgK h3,zdS,List.countP_append,zns,zns,zhl h3]
   have hav:hitP a v=zam v.num (lowQ a) (zcu a):=by
    unfold lowQ zcu
    rcases zbv ha with h|h|h
    ·rw[ze7 h,if_pos h,if_pos h]
     unfold zam
     rw[decide_eq_true (p:=0≤v.num) (by omega),decide_eq_true (p:=v.num≤9) (by omega)];rfl
    ·rw[zhl h,if_neg (by omega),if_neg (by omega)]
    ·exact absurd hd (zaA ha h).2.1
   rw[hav]
   exact zsC ib.2.2.1
  ·by_cases ha1:a.op=1
   ·rw[zfA h4 ha1,ze7 ha1,Bool.true_and]
    have hdt:=(zaA hb h4).2.1
    obtain⟨f1,f2,f3⟩:=zeQ hv hdt
    obtain⟨q,rfl⟩:∃q,m=q+1:=⟨m-1,by omega⟩
    refine znr (c0:=v.ctor) (hs.ctors t ht).2 f1 (fun c hc hne=>?_) ?_
    ·rw[hcc _ (zcF hc) rfl h4,zc6 rfl]
     show one ((decide (c=v.ctor)&&_)&&_)=0
     rw[decide_eq_false hne];rfl
    ·rw[hcc _ (zcF f1) rfl h4,zc6 (p:=zbO w t v.ctor) rfl]
     show one ((decide (v.ctor=v.ctor)&&hitL ((zaa w t v.ctor).map fun _=>anyQ) v.kids)&& !hitP b v)=_
     rw[zkQ,decide_eq_true rfl];rfl
   ·have ha4:a.op=4:=by have:=zde ha hb ha1 (by omega);omega
    rw[zcX h4 ha4]
    exact hcc a ha ha4 h4
theorem zju:∀(n m:Nat){t:Ty}{p:Pat}{v:Val},InS (w.length*4) t→zad w n t p=true→zaX w m t v=true→hitP p v=true→zaV w (zai w) n t p=false
 |0,m,t,p,v,_,h,_,_=>by simp[zad] at h
 |n+1,0,t,p,v,_,_,h,_=>by simp[zaX] at h
 |n+1,m+1,t,p,v,ht,hp,hv,hh=>by
  rcases zbv hp with h1|h3|h4
  ·rw[zeO h1]
   have:=zur hs.dp ht hv
   exact decide_eq_false (by omega)
  ·exact zj5 hp h3
  ·cases he:zaV w (zai w) (n+1) t p with
   |false=>rfl
   |true=>
    exfalso
    obtain⟨i,hi,hd⟩:=zkK hp h4 he
    obtain⟨m1,m2,m3,m4⟩:=zaA hp h4
    obtain⟨f1,f2,f3⟩:=zeQ hv m2
    rw[zc6 h4,Bool.and_eq_true] at hh
    have hc:=of_decide_eq_true hh.1
    rw[hc] at m3
    have hk:=(zkR (by omega)).1 hh.2 i hi
    have hpk:=zaP hp hi
    rw[zbc h4] at hpk
    have:=zju n m (zby hs.dp ht m1 _ (zag (by rw[hc];omega))) hpk (by rw[hc];exact f3 i (by omega)) hk
    rw[this] at hd;cases hd
theorem zlz {t:Ty}{v:Val}{m:Nat} (ht:InS (w.length*4) t) (hv:zaX w m t v=true){l:List Pat} (hl:∀a∈l,zad w 11 t a=true):(l.filter (zbn w t)).countP (fun x=>hitP x v)=l.countP (fun x=>hitP x v):=by
 rw[List.countP_filter]
 refine List.countP_congr (fun x hx=>?_)
 simp only[Bool.and_eq_true]
 constructor
 ·exact fun h=>h.1
 ·intro h
  refine⟨h, ?_⟩
  unfold zbn
  rw[zju hs 11 m ht (hl x hx) hv h];rfl
theorem ztp {t:Ty}{v:Val}{m:Nat} (ht:InS (w.length*4) t) (hv:zaX w m t v=true){b:Pat} (hb:zad w 10 t b=true){l:List Pat} (hl:∀a∈l,zad w 11 t a=true):
  (zbM w t l b).countP (fun x=>hitP x v)=if hitP b v=true then 0 else l.countP (fun x=>hitP x v):=by
 unfold zbM
 rw[zlz hs ht hv (fun x hx=>by
  obtain⟨a,ha,hx⟩:=List.mem_flatMap.1 hx
  exact zfd 10 11 (by omega) (hl a ha) hb x hx)]
 induction l with
 |nil=>simp
 |cons a r ih=>
  rw[List.flatMap_cons,List.countP_append,ih (fun x hx=>hl x (by simp[hx])),znR hs 10 11 m (by omega) (by omega) ht (hl a (by simp)) hb hv,List.countP_cons]
  unfold one
  cases hitP b v<;>cases hitP a v<;>simp<;>omega
theorem zq5 {t:Ty}{v:Val}{m:Nat} (ht:InS (w.length*4) t) (hv:zaX w m t v=true):∀ {away l r:List Pat},(∀b∈away,zad w 10 t b=true)→(∀a∈l,zad w 11 t a=true)→subL w t l away=some r→
  r.countP (fun x=>hitP x v)=if away.any (fun b=>hitP b v)=true then 0 else l.countP (fun x=>hitP x v)
 | [],l,r,_,_,h=>by rw[subL] at h;cases h;simp
 |b::away,l,r,hb,hl,h=>by
  rw[subL] at h
  split at h
  ·rw[zq5 ht hv (fun x hx=>hb x (by simp[hx])) (zel hl (hb b (by simp))) h,ztp hs ht hv (hb b (by simp)) hl,List.any_cons]
   cases hitP b v<;>cases away.any (fun b=>hitP b v)<;>simp
  ·cases h
theorem zkD {t:Ty}{v:Val}{m:Nat} (ht:InS (w.length*4) t) (hv:zaX w m t v=true){away l r:List Pat} (hb:∀b∈away,zad w 10 t b=true) (hl:∀a∈l,zad w 11 t a=true) (h:zaE w t l away=some r):
  r.countP (fun x=>hitP x v)=if away.any (fun b=>hitP b v)=true then 0 else l.countP (fun x=>hitP x v):=by
 unfold zaE at h
 rw[zq5 hs ht hv hb (fun a ha=>hl a (List.mem_filter.1 ha).1) h,zlz hs ht hv hl]
end
theorem zlH {w:List Data}{g:Ty→Val→Bool}{F:Ty→List Val} (hF:∀u x,x∈F u→g u x=true):∀(us:List Ty) (vs:List Ty) (acc:List (List Val)),(∀l∈acc,all2 g vs l=true)→
  ∀l∈(us.map F).foldl (fun acc l=>acc.flatMap fun o=>l.map fun y=>o++[y]) acc,all2 g (vs++us) l=true
 | [],vs,acc,h,l,hl=>by rw[List.append_nil];exact h l hl
 |u::us,vs,acc,h,l,hl=>by
  rw[show vs++u::us=vs++[u]++us by simp]
  refine zlH (w:=w) hF us (vs++[u]) _ (fun q hq=>?_) l hl
  obtain⟨o,h1,h2⟩:=List.mem_flatMap.1 hq
  obtain⟨y,h3,rfl⟩:=List.mem_map.1 h2
  have ho:=h o h1
  have hy:=hF u y h3
  clear hl hq h2 h1 h
  induction vs generalizing o with
  |nil=>
   cases o with
   |nil=>simp[all2,hy]
   |cons a r=>simp[all2] at ho
  |cons b s ih=>
   cases o with
   |nil=>simp[all2] at ho
   |cons a r=>
    simp only[all2,Bool.and_eq_true,List.cons_append] at ho ⊢
    exact⟨ho.1,ih r ho.2⟩
theorem zlI {w:List Data}:∀(n:Nat){t:Ty}{v:Val},v∈zj7 w n t→zaX w n t v=true
 |0,t,v,h=>by simp[zj7] at h
 |n+1,t,v,h=>by
  unfold zj7 at h
  unfold zaX
  by_cases ht:t.data = -1
  ·rw[if_pos ht] at h ⊢
   unfold ze4 at h
   obtain⟨i,hi,rfl⟩:=List.mem_map.1 h
   rw[List.mem_range] at hi
   simp only[Bool.and_eq_true,decide_eq_true_eq]
   exact⟨rfl,by show(0:Int)≤(i:Int);omega,by show(i:Int)≤9;omega,rfl⟩
  ·rw[if_neg ht] at h ⊢
   obtain⟨c,hc,h⟩:=List.mem_flatMap.1 h
   obtain⟨l,hl,rfl⟩:=List.mem_map.1 h
   rw[if_pos ⟨rfl,hc⟩]
   have:=zlH (w:=w) (g:=zaX w n) (F:=zj7 w n) (fun u x hx=>zlI n hx) (zaa w t c) [] [[]] (by simp[all2]) l hl
   exact(by simpa using this:all2 (zaX w n) (zaa w t c) l=true)
theorem zlF {w:List Data}:∀(n:Nat){t:Ty}{v:Val},zaX w n t v=true→zaX w (n+1) t v=true
 |0,t,v,h=>by simp[zaX] at h
 |n+1,t,v,h=>by
  rw[zaX] at h ⊢
  split
  ·rename_i hd;rw[if_pos hd] at h;exact h
  ·rename_i hd
   rw[if_neg hd] at h
   split at h
   ·rename_i hc
    rw[if_pos hc]
    exact zgN (fun x _ y _ hxy=>zlF n hxy) h
   ·cases h
theorem ziu {w:List Data}{n m:Nat} (h:n≤m){t:Ty}{v:Val} (hv:zaX w n t v=true):zaX w m t v=true:=by
 induction h with
 |refl=>exact hv
 |step _ ih=>exact zlF _ ih
theorem Vals.size_of {m:Nat}:∀ {l:List Val},(∀k∈l,k.size≤m)→Vals.size l≤l.length*m
 | [],_=>by simp[Vals.size]
 |x::r,h=>by
  have h1:=h x (by simp)
  have h2:=Vals.size_of (l:=r) (fun y hy=>h y (by simp[hy]))
  simp only[Vals.size,List.length_cons,Nat.succ_mul];omega
theorem zqr {α β:Type}{f:α→β→Bool}:∀ {l:List α},(∀u∈l,∃v,f u v=true)→∃r,all2 f l r=true
 | [],_=>⟨[],rfl⟩
 |u::s,h=>by
  obtain⟨v,hv⟩:=h u (by simp)
  obtain⟨r,hr⟩:=zqr (l:=s) (fun x hx=>h x (by simp[hx]))
  exact⟨v::r,by simp[all2,hv,hr]⟩
theorem zqL {w:List Data}:∀(m:Nat){t:Ty},Hd w m t→∃v,zaX w m t v=true
 |0,_,h=>h.elim
 |m+1,t,h=>by
  by_cases hd:t.data = -1
  ·exact⟨⟨-1,0,[]⟩,by unfold zaX;rw[if_pos hd];rfl⟩
  ·rcases h with h|⟨c,hc,hn,hh⟩
   ·exact absurd h hd
   ·obtain⟨l,hl⟩:=zqr (f:=zaX w m) (l:=zaa w t c) (fun u hu=>zqL m (hh u hu))
    exact⟨⟨c,0,l⟩,by unfold zaX;rw[if_neg hn,if_pos ⟨rfl,hc⟩];exact hl⟩
theorem zqG {w:List Data} (hd:Dp w){t:Ty} (ht:InS (w.length*4) t) (h:0<dv (zai w) t):∃m v,zaX w m t v=true:=by
 have a:Snd w (zai w)∧Cmp w (w.length*4+1) (zai w):=zc0 hd.cl (w.length*4+1)
 exact⟨_,zqL _ (zlB a.1 ht h)⟩
theorem zpo {w:List Data}:∀ {us:List Ty}{ps:List Pat},us.length=ps.length→(∀i,i<ps.length→∃m v,zaX w m (nth us i) v=true∧hitP (nth ps i) v=true)→∃m l,all2 (zaX w m) us l=true∧hitL ps l=true
 | [],[],_,_=>⟨0,[],rfl,rfl⟩
 |u::us,p::ps,hl,h=>by
  obtain⟨m1,v,h1,h2⟩:=h 0 (by simp)
  obtain⟨m2,l,h3,h4⟩:=zpo (us:=us) (ps:=ps) (by simpa using hl) (fun i hi=>h (i+1) (by simpa using hi))
  refine⟨max m1 m2,v::l, ?_, ?_⟩
  ·simp only[all2,Bool.and_eq_true]
   exact⟨ziu (Nat.le_max_left _ _) h1,zgN (fun x _ y _ hxy=>ziu (Nat.le_max_right _ _) hxy) h3⟩
  ·simp only[hitL,Bool.and_eq_true]
   exact⟨h2,h4⟩
 | [],_::_,h,_=>by simp at h
 |_::_,[],h,_=>by simp at h
theorem zi8 {w:List Data} (hs:Spa w):∀(n:Nat){t:Ty}{p:Pat},InS (w.length*4) t→zad w n t p=true→zaV w (zai w) n t p=false→∃m v,zaX w m t v=true∧hitP p v=true
 |0,t,p,_,h,_=>by simp[zad] at h
 |n+1,t,p,ht,hp,he=>by
  rcases zbv hp with h1|h3|h4
  ·rw[zeO h1] at he
   have:=of_decide_eq_false he
   obtain⟨m,v,hv⟩:=zqG hs.dp ht (by omega)
   exact⟨m,v,hv,ze7 h1⟩
  ·have hi:=zbI hp h3
   refine⟨1,⟨-1,p.n,[]⟩, ?_, ?_⟩
   ·unfold zaX
    rw[if_pos hi.1]
    simp only[Bool.and_eq_true,decide_eq_true_eq]
    exact⟨rfl,hi.2.1,by show p.n≤9;omega,rfl⟩
   ·rw[zhl h3]
    show zam p.n p.n p.m=true
    unfold zam
    rw[Bool.and_eq_true,decide_eq_true_eq,decide_eq_true_eq];omega
  ·obtain⟨m1,m2,m3,m4⟩:=zaA hp h4
   rw[zhR h4] at he
   have ha:all2 (fun u q=> !zaV w (zai w) n u q) (zaa w t p.ctor) p.kids=true:=by simpa using he
   obtain⟨m,l,h5,h6⟩:=zpo (us:=zaa w t p.ctor) (ps:=p.kids) m3.symm (fun i hi=>by
    have hk:=zaP hp hi
    rw[zbc h4] at hk
    have h7:=zfs m3.symm ha i (by omega)
    exact zi8 hs n (zby hs.dp ht m1 _ (zag (by omega))) hk (by simpa using h7))
   refine⟨m+1,⟨p.ctor,0,l⟩, ?_, ?_⟩
   ·unfold zaX
    rw[if_neg m2,if_pos ⟨rfl,zjZ m1⟩];exact h5
   ·rw[zc6 h4,Bool.and_eq_true]
    exact⟨decide_eq_true rfl,h6⟩
theorem zvG {w:List Data}{n:Nat}{t:Ty}{p:Pat} (h:zad w n t p=true) (h3:p.op=3):p=intQ p.n p.m:=by
 obtain⟨ho,hl⟩:=zfD h
 have e:zae w t p=[]:=by unfold zae;rw[if_neg (by omega),if_neg (by omega),if_neg (by omega)]
 rw[e] at hl
 have hk:=List.eq_nil_of_length_eq_zero hl
 unfold ownP at ho
 have hh:=of_decide_eq_true ho
 have h1:=hh.2.1 (by omega)
 have h2:=hh.2.2.2.1 (by omega)
 obtain⟨op,c,m,k,v,ks⟩:=p
 change op=3 at h3
 change v=0 at h1
 change c=0 at h2
 change ks=[] at hk
 rw[h3,h1,h2,hk];rfl
theorem zjE {w:List Data}:∀(k n:Nat){t:Ty}{x z:Pat},zad w k t x=true→zaD n x x=some z→z=x
 |0,n,t,x,z,h,_=>by simp[zad] at h
 |k+1,0,t,x,z,_,h=>by simp[zaD] at h
 |k+1,n+1,t,x,z,hp,h=>by
  rcases zbv hp with h1|h3|h4
  ·rw[zg0 h1] at h;cases h;rfl
  ·rw[zhX h3 (by omega)] at h
   split at h
   ·cases h
    have e1:maxQ x.n x.n=x.n:=by unfold maxQ;split<;>rfl
    have e2:minQ x.m x.m=x.m:=by unfold minQ;split<;>rfl
    rw[e1,e2];exact(zvG hp h3).symm
   ·cases h
  ·obtain⟨m1,m2,m3,m4⟩:=zaA hp h4
   rw[zg1 h4 (by omega) rfl] at h
   cases hl:zbQ (zaD n) x.kids x.kids [] with
   |none=>rw[hl] at h;cases h
   |some l=>
    rw[hl] at h
    simp only[Option.map_some,Option.some.injEq] at h
    subst h
    obtain⟨r,e,hr,hm⟩:=zfb rfl hl
    rw[List.nil_append] at e
    subst e
    have:l=x.kids:=zmQ (by omega) (fun i hi=>by
     have hk:=zaP hp (i:=i) (by omega)
     rw[zbc h4] at hk
     exact zjE k n hk (hm i (by omega)))
    rw[this];exact m4.symm
theorem zkx {f:Ty→Pat→Pat→List Pat}{c:Int}:∀ {us:List Ty}{xs front:List Pat},us.length=xs.length→(∀j,j<xs.length→f (nth us j) (nth xs j) (nth xs j)=[])→zaK f c us xs xs front=[]
 | [],[],_,_,_=>rfl
 |u::us,x::xs,front,hl,h=>by
  unfold zaK
  have h0:=h 0 (by simp)
  rw[show f u x x=[] from h0,List.map_nil,List.nil_append]
  split
  ·rfl
  ·exact zkx (by simpa using hl) (fun j hj=>h (j+1) (by simpa using hj))
 | [],_::_,_,h,_=>by simp at h
 |_::_,[],_,h,_=>by simp at h
theorem ziC {w:List Data}:∀(k n:Nat){t:Ty}{x:Pat},zad w k t x=true→zaq w n t x x=[]
 |0,n,t,x,h=>by simp[zad] at h
 |k+1,0,t,x,_=>rfl
 |k+1,n+1,t,x,hp=>by
  rcases zbv hp with h1|h3|h4
  ·exact zek h1
  ·rw[zgK h3]
   have e1:lowQ x=x.n:=by unfold lowQ;rw[if_neg (by omega)]
   have e2:zcu x=x.m:=by unfold zcu;rw[if_neg (by omega)]
   have q1:=zqR (zcu x) (x.n-1)
   have q2:=zqQ (lowQ x) (x.m+1)
   unfold zdS zbS
   rw[if_neg (by omega),if_neg (by omega)];rfl
  ·obtain⟨m1,m2,m3,m4⟩:=zaA hp h4
   rw[zcX h4 h4]
   unfold zb8
   rw[if_pos rfl]
   exact zkx m3.symm (fun j hj=>by
    have hk:=zaP hp (i:=j) hj
    rw[zbc h4] at hk
    exact ziC k n hk)
structure Grid (w:List Data) (t:Ty) (S:Pat→Prop) (V:List Val):Prop where
 meet:∀n a b z,S a→S b→zaD n a b=some z→S z
 minus:∀n a b x,S a→S b→x∈zaq w n t a b→S x
 hit:∀n p,S p→zad w n t p=true→zaV w (zai w) n t p=false→∃v∈V,hitP p v=true
 fits:∃m,∀v∈V,zaX w m t v=true
theorem znG {w:List Data} (hs:Spa w){t:Ty} (ht:InS (w.length*4) t){k:Nat}{x:Pat} (hx:zad w k t x=true):∃V,V.length≤1∧Grid w t (fun p=>p=x) V:=by
 by_cases hex:∃m v,zaX w m t v=true∧hitP x v=true
 ·obtain⟨m,v,h1,h2⟩:=hex
  refine⟨[v],by simp,⟨fun n a b z ha hb h=>by subst ha;subst hb;exact zjE k n hx h,fun n a b z ha hb h=>by subst ha;subst hb;rw[ziC k n hx] at h;simp at h,fun n p hp _ _=>⟨v,by simp,by rw[hp];exact h2⟩,⟨m,fun y hy=>by rw[List.mem_singleton.1 hy];exact h1⟩⟩⟩
 ·refine⟨[],by simp,⟨fun n a b z ha hb h=>by subst ha;subst hb;exact zjE k n hx h,fun n a b z ha hb h=>by subst ha;subst hb;rw[ziC k n hx] at h;simp at h,fun n p hp h1 h2=>?_,⟨0,fun y hy=>by simp at hy⟩⟩⟩
  subst hp
  exact absurd (zi8 hs n ht h1 h2) hex
theorem zph {w:List Data}{t:Ty} (ht:t.data = -1):Grid w t (fun _=>True) ze4:=by
 refine⟨fun _ _ _ _ _ _ _=>trivial,fun _ _ _ _ _ _ _=>trivial,fun n p _ hp _=>?_,1,fun v hv=>zlI 1 (by unfold zj7;rw[if_pos ht];exact hv)⟩
 have hd:∀i:Nat,i<10→(⟨-1,(i:Int),[]⟩:Val)∈ze4:=fun i hi=>by unfold ze4;exact List.mem_map.2 ⟨i,List.mem_range.2 hi,rfl⟩
 rcases zbv hp with h1|h3|h4
 ·exact⟨_,hd 0 (by omega),ze7 h1⟩
 ·have hi:=zbI hp h3
  refine⟨_,hd p.n.toNat (by omega), ?_⟩
  rw[zhl h3]
  show zam ((p.n.toNat:Nat):Int) p.n p.m=true
  unfold zam
  rw[Bool.and_eq_true,decide_eq_true_eq,decide_eq_true_eq];omega
 ·exact absurd ht (zaA hp h4).2.1
def CSat (Ss:Nat→Pat→Prop) (c:Int) (k:Nat) (p:Pat):Prop:=∃l,p=zbg c l∧l.length=k∧∀j,j<k→Ss j (nth l j)
theorem zl3 {f:Ty→Pat→Pat→List Pat}{c:Int}{Ss:Nat→Pat→Prop}:∀ {us:List Ty}{xs bs front:List Pat},us.length=xs.length→bs.length=xs.length→(∀j,j<front.length→Ss j (nth front j))→
  (∀j,j<xs.length→Ss (front.length+j) (nth xs j)∧(∀z∈f (nth us j) (nth xs j) (nth bs j),Ss (front.length+j) z)∧(∀z,zaD 11 (nth xs j) (nth bs j)=some z→Ss (front.length+j) z))→
  ∀x∈zaK f c us xs bs front,CSat Ss c (front.length+xs.length) x
 | [],[],_,front,_,_,_,_,x,hx=>by simp[zaK] at hx
 |u::us,a0::s,b0::q,front,h1,h2,hfr,hab,x,hx=>by
  have h0:=hab 0 (by simp)
  have e0:nth (a0::s) 0=a0:=rfl
  have e1:nth (b0::q) 0=b0:=rfl
  have e2:nth (u::us) 0=u:=rfl
  rw[e0,e1,e2,Nat.add_zero] at h0
  unfold zaK at hx
  rcases List.mem_append.1 hx with hx|hx
  ·obtain⟨z,hz,rfl⟩:=List.mem_map.1 hx
   refine⟨front++[z]++s,rfl,by simp only[List.length_append,List.length_cons,List.length_nil];omega,fun j hj=>?_⟩
   simp only[List.length_cons] at hj
   by_cases hj1:j<front.length
   ·have e:nth (front++[z]++s) j=nth front j:=by
     simp only[nth,List.getD,List.append_assoc]
     rw[List.getElem?_append_left (by omega)]
    rw[e];exact hfr j hj1
   ·by_cases hj2:j=front.length
    ·subst hj2
     have e:nth (front++[z]++s) front.length=z:=by
      simp only[nth,List.getD,List.append_assoc]
      rw[List.getElem?_append_right (by omega),Nat.sub_self];all_goals rfl
     rw[e];exact h0.2.1 z hz
    ·obtain⟨i,rfl⟩:∃i,j=front.length+1+i:=⟨j-front.length-1,by omega⟩
     have e:nth (front++[z]++s) (front.length+1+i)=nth (a0::s) (i+1):=by
      simp only[nth,List.getD,List.append_assoc]
      rw[List.getElem?_append_right (by omega),show front.length+1+i-front.length=i+1 by omega];all_goals rfl
     rw[e]
     have:=(hab (i+1) (by simp;omega)).1
     rwa [show front.length+(i+1)=front.length+1+i by omega] at this
  ·cases hm:zaD 11 a0 b0 with
   |none=>rw[hm] at hx;simp at hx
   |some both=>
    rw[hm] at hx
    have:=zl3 (f:=f) (c:=c) (Ss:=Ss) (us:=us) (xs:=s) (bs:=q) (front:=front++[both]) (by simpa using h1) (by simpa using h2) (fun j hj=>?_) (fun j hj=>?_) x hx
    ·rw[List.length_append,List.length_singleton,show front.length+1+s.length=front.length+(a0::s).length by simp;omega] at this
     exact this
    ·by_cases hj1:j<front.length
     ·have e:nth (front++[both]) j=nth front j:=by
       simp only[nth,List.getD]
       rw[List.getElem?_append_left (by omega)]
      rw[e];exact hfr j hj1
     ·have hj2:j=front.length:=by simp at hj;omega
      subst hj2
      have e:nth (front++[both]) front.length=both:=by
       simp only[nth,List.getD]
       rw[List.getElem?_append_right (by omega),Nat.sub_self];all_goals rfl
      rw[e];exact h0.2.2 both hm
    ·have:=hab (j+1) (by simpa using hj)
     rw[List.length_append,List.length_singleton,show front.length+1+j=front.length+(j+1) by omega]
     exact this
 | [],_::_,_,_,h,_,_,_,_,_=>by simp at h
 |_::_,[],_,_,h,_,_,_,_,_=>by simp at h
 |_::_,_::_,[],_,_,h,_,_,_,_=>by simp at h
theorem zpc:∀(Vs:List (List Val)) (vs:List Val) (acc:List (List Val)) (q:List Val),Vs.length=vs.length→q∈acc→(∀j,j<Vs.length→nth vs j∈nth Vs j)→q++vs∈Vs.foldl (fun acc l=>acc.flatMap fun o=>l.map fun y=>o++[y]) acc
 | [],[],acc,q,_,h,_=>by simpa using h
 |l::r,v::s,acc,q,hl,h,hm=>by
  rw[List.foldl_cons,show q++v::s=q++[v]++s by simp]
  refine zpc r s _ (q++[v]) (by simpa using hl) ?_ (fun j hj=>hm (j+1) (by simpa using hj))
  exact List.mem_flatMap.2 ⟨q,h,List.mem_map.2 ⟨v,hm 0 (by simp),rfl⟩⟩
 | [],_::_,_,_,h,_,_=>by simp at h
 |_::_,[],_,_,h,_,_=>by simp at h
theorem zpb:∀(Vs:List (List Val)) (acc:List (List Val)) (l:List Val),l∈Vs.foldl (fun acc l=>acc.flatMap fun o=>l.map fun y=>o++[y]) acc→∃q∈acc,∃vs,l=q++vs∧vs.length=Vs.length∧∀j,j<Vs.length→nth vs j∈nth Vs j
 | [],acc,l,h=>⟨l,h,[],by simp,rfl,fun j hj=>by simp at hj⟩
 |x::r,acc,l,h=>by
  rw[List.foldl_cons] at h
  obtain⟨q,hq,vs,e,h1,h2⟩:=zpb r _ l h
  obtain⟨o,ho,hq⟩:=List.mem_flatMap.1 hq
  obtain⟨y,hy,rfl⟩:=List.mem_map.1 hq
  refine⟨o,ho,y::vs,by rw[e];simp,by simp[h1],fun j hj=>?_⟩
  cases j with
  |zero=>exact hy
  |succ j=>exact h2 j (by simpa using hj)
def zgz (c:Int) (k:Nat) (Vs:Nat→List Val):List Val:=(zmc ((List.range k).map Vs)).map (Val.mk c 0)
theorem zjG {α:Type} [Inhabited α]{k j:Nat} (f:Nat→α) (h:j<k):nth ((List.range k).map f) j=f j:=by
 rw[zaJ (by simpa using h)];simp
theorem ztH (c:Int) (k:Nat) (Vs:Nat→List Val):(zgz c k Vs).length=zdM ((List.range k).map fun j=>(Vs j).length):=by
 unfold zgz
 rw[List.length_map,zsE,List.map_map];rfl
theorem zkN {P:Nat→Nat→Prop} (hm:∀j m n,m≤n→P j m→P j n):∀(k:Nat),(∀j,j<k→∃m,P j m)→∃m,∀j,j<k→P j m
 |0,_=>⟨0,fun j hj=>by omega⟩
 |k+1,h=>by
  obtain⟨m1,h1⟩:=zkN hm k (fun j hj=>h j (by omega))
  obtain⟨m2,h2⟩:=h k (by omega)
  refine⟨max m1 m2,fun j hj=>?_⟩
  by_cases hk:j=k
  ·subst hk;exact hm _ _ _ (Nat.le_max_right _ _) h2
  ·exact hm _ _ _ (Nat.le_max_left _ _) (h1 j (by omega))
theorem zjj {Q:Nat→Val→Prop}:∀(k:Nat),(∀j,j<k→∃v,Q j v)→∃l:List Val,l.length=k∧∀j,j<k→Q j (nth l j)
 |0,_=>⟨[],rfl,fun j hj=>by omega⟩
 |k+1,h=>by
  obtain⟨l,h1,h2⟩:=zjj k (fun j hj=>h j (by omega))
  obtain⟨v,hv⟩:=h k (by omega)
  refine⟨l++[v],by simp[h1],fun j hj=>?_⟩
  by_cases hk:j=k
  ·subst hk
   have e:nth (l++[v]) j=v:=by
    simp only[nth,List.getD]
    rw[List.getElem?_append_right (by omega),h1,Nat.sub_self];all_goals rfl
   rw[e];exact hv
  ·have e:nth (l++[v]) j=nth l j:=by
    simp only[nth,List.getD]
    rw[List.getElem?_append_left (by omega)]
   rw[e];exact h2 j (by omega)
theorem znv {c:Int}{Ss:Nat→Pat→Prop}{k n:Nat}{a b z:Pat} (hm:∀j,j<k→∀n a b z,Ss j a→Ss j b→zaD n a b=some z→Ss j z) (ha:CSat Ss c k a) (hb:CSat Ss c k b) (h:zaD n a b=some z):CSat Ss c k z:=by
 obtain⟨la,rfl,h1,h2⟩:=ha
 obtain⟨lb,rfl,h3,h4⟩:=hb
 cases n with
 |zero=>simp[zaD] at h
 |succ n=>
  rw[zg1 (a:=zbg c la) (b:=zbg c lb) rfl (by show ¬(4:Int)=1;decide) rfl] at h
  cases hl:zbQ (zaD n) (zbg c la).kids (zbg c lb).kids [] with
  |none=>rw[hl] at h;cases h
  |some l=>
   rw[hl] at h
   simp only[Option.map_some,Option.some.injEq] at h
   subst h
   have hll:(zbg c la).kids.length=(zbg c lb).kids.length:=by show la.length=lb.length;omega
   obtain⟨r,e,hr,hi⟩:=zfb hll hl
   rw[List.nil_append] at e
   subst e
   have hk:(zbg c la).kids.length=k:=h1
   refine⟨l,rfl,by omega,fun j hj=>hm j hj n _ _ _ (h2 j hj) (h4 j hj) (hi j (by omega))⟩
theorem zlA {w:List Data}{t:Ty}{c:Int}{Ss:Nat→Pat→Prop}{n:Nat}{a b x:Pat} (hm:∀j,j<(zaa w t c).length→∀n a b z,Ss j a→Ss j b→zaD n a b=some z→Ss j z)
  (hn:∀j,j<(zaa w t c).length→∀n a b x,Ss j a→Ss j b→x∈zaq w n (nth (zaa w t c) j) a b→Ss j x) (ha:CSat Ss c (zaa w t c).length a) (hb:CSat Ss c (zaa w t c).length b) (h:x∈zb8 (zaq w n) w t a b):
  CSat Ss c (zaa w t c).length x:=by
 obtain⟨la,rfl,h1,h2⟩:=ha
 obtain⟨lb,rfl,h3,h4⟩:=hb
 unfold zb8 at h
 rw[if_pos (show(zbg c la).ctor=(zbg c lb).ctor from rfl)] at h
 have:=zl3 (f:=zaq w n) (c:=c) (Ss:=Ss) (us:=zaa w t c) (xs:=la) (bs:=lb) (front:=[]) (by omega) (by omega) (fun j hj=>by simp at hj) (fun j hj=>by
  rw[List.length_nil,Nat.zero_add]
  exact⟨h2 j (by omega),fun z hz=>hn j (by omega) n _ _ z (h2 j (by omega)) (h4 j (by omega)) hz,fun z hz=>hm j (by omega) 11 _ _ z (h2 j (by omega)) (h4 j (by omega)) hz⟩) x h
 rw[List.length_nil,Nat.zero_add,h1] at this
 exact this
theorem zhk {w:List Data}{t:Ty}{c:Int} (hc:c∈zah w t){Ss:Nat→Pat→Prop}{Vs:Nat→List Val} (hg:∀j,j<(zaa w t c).length→Grid w (nth (zaa w t c) j) (Ss j) (Vs j)):
  Grid w t (CSat Ss c (zaa w t c).length) (zgz c (zaa w t c).length Vs):=by
 have hdt:t.data≠ -1:=fun e=>by unfold zah at hc;rw[if_pos e] at hc;simp at hc
 refine⟨fun n a b z ha hb h=>znv (fun j hj=>(hg j hj).meet) ha hb h,fun n a b x ha hb h=>?_,fun n p hp h1 h2=>?_, ?_⟩
 ·cases n with
  |zero=>simp[zaq] at h
  |succ n=>
   have ha4:a.op=4:=by obtain⟨l,rfl,_⟩:=ha;rfl
   have hb4:b.op=4:=by obtain⟨l,rfl,_⟩:=hb;rfl
   rw[zcX hb4 ha4] at h
   exact zlA (fun j hj=>(hg j hj).meet) (fun j hj=>(hg j hj).minus) ha hb h
 ·obtain⟨l,rfl,h3,h4⟩:=hp
  cases n with
  |zero=>simp[zad] at h1
  |succ n=>
   rw[zhR rfl] at h2
   have ha:all2 (fun u q=> !zaV w (zai w) n u q) (zaa w t c) l=true:=(by simpa using h2:all2 (fun u q=> !zaV w (zai w) n u q) (zaa w t (zbg c l).ctor) (zbg c l).kids=true)
   obtain⟨vs,h5,h6⟩:=zjj (Q:=fun j v=>v∈Vs j∧hitP (nth l j) v=true) (zaa w t c).length (fun j hj=>by
    have hk:=zaP h1 (i:=j) (by show j<l.length;omega)
    rw[zbc rfl] at hk
    have h7:=zfs h3.symm ha j hj
    exact(hg j hj).hit n (nth l j) (h4 j hj) hk (by simpa using h7))
   refine⟨⟨c,0,vs⟩, ?_, ?_⟩
   ·unfold zgz
    refine List.mem_map.2 ⟨vs, ?_,rfl⟩
    have:=zpc ((List.range (zaa w t c).length).map Vs) vs [[]] [] (by simp[h5]) (by simp) (fun j hj=>by
     rw[List.length_map,List.length_range] at hj
     rw[zjG Vs hj];exact(h6 j hj).1)
    simpa [zmc] using this
   ·rw[zc6 rfl,Bool.and_eq_true]
    refine⟨decide_eq_true rfl, ?_⟩
    show hitL l vs=true
    rw[zkR (by omega)]
    exact fun j hj=>(h6 j (by omega)).2
 ·obtain⟨m,hm⟩:=zkN (P:=fun j m=>∀v∈Vs j,zaX w m (nth (zaa w t c) j) v=true) (fun j m n hmn h v hv=>ziu hmn (h v hv)) (zaa w t c).length (fun j hj=>(hg j hj).fits)
  refine⟨m+1,fun v hv=>?_⟩
  unfold zgz at hv
  obtain⟨l,hl,rfl⟩:=List.mem_map.1 hv
  obtain⟨q,hq,vs,e,h1,h2⟩:=zpb _ _ l hl
  rw[List.mem_singleton] at hq
  rw[hq,List.nil_append] at e
  subst e
  unfold zaX
  rw[if_neg hdt,if_pos ⟨rfl,zjZ hc⟩]
  rw[List.length_map,List.length_range] at h1
  refine zcq (by show(zaa w t c).length=l.length;omega) (fun j hj=>?_)
  have hj:j<(zaa w t c).length:=hj
  have:=h2 j (by simpa using hj)
  rw[zjG Vs hj] at this
  exact hm j hj _ this
section
variable {w:List Data} (hs:Spa w){t:Ty} (ht:InS (w.length*4) t)
include hs ht
theorem znH (hdt:t.data≠ -1){Ss:Int→Nat→Pat→Prop}{Vs:Int→Nat→List Val} (hg:∀c∈zah w t,∀j,j<(zaa w t c).length→Grid w (nth (zaa w t c) j) (Ss c j) (Vs c j)) (hany:∀c∈zah w t,∀j,Ss c j anyQ):
  Grid w t (fun p=>p.op=1∨∃c∈zah w t,CSat (Ss c) c (zaa w t c).length p) ((zah w t).flatMap fun c=>zgz c (zaa w t c).length (Vs c)):=by
 have hw:∀c∈zah w t,CSat (Ss c) c (zaa w t c).length (zbO w t c):=fun c hc=>by
  refine⟨_,rfl,by simp,fun j hj=>?_⟩
  have e:nth ((zaa w t c).map fun _=>anyQ) j=anyQ:=by rw[zaJ (by simpa using hj)];simp
  rw[e];exact hany c hc j
 have h4:∀ {c:Int}{k:Nat}{S:Nat→Pat→Prop}{p:Pat},CSat S c k p→p.op=4∧p.ctor=c:=fun h=>by obtain⟨l,rfl,_⟩:=h;exact⟨rfl,rfl⟩
 refine⟨fun n a b z ha hb h=>?_,fun n a b x ha hb h=>?_,fun n p hp h1 h2=>?_, ?_⟩
 ·cases n with
  |zero=>simp[zaD] at h
  |succ n=>
   rcases ha with ha|⟨c,hc,ha⟩
   ·rw[zg0 ha] at h;cases h;exact hb
   ·rcases hb with hb|⟨c',hc',hb⟩
    ·rw[zhW (by have:=(h4 ha).1;omega) hb] at h;cases h;exact .inr ⟨c,hc,ha⟩
    ·by_cases e:c=c'
     ·subst e
      exact .inr ⟨c,hc,znv (fun j hj=>(hg c hc j hj).meet) ha hb h⟩
     ·rw[zgJ (h4 ha).1 (by have:=(h4 hb).1;omega) (by rw[(h4 ha).2,(h4 hb).2];exact e)] at h;cases h
 ·cases n with
  |zero=>simp[zaq] at h
  |succ n=>
   rcases hb with hb|⟨c',hc',hb⟩
   ·rw[zek hb] at h;simp at h
   ·have key:∀c∈zah w t,∀a,CSat (Ss c) c (zaa w t c).length a→x∈zb8 (zaq w n) w t a b→x.op=1∨∃c∈zah w t,CSat (Ss c) c (zaa w t c).length x:=fun c hc a ha h=>by
     by_cases e:c=c'
     ·subst e
      exact .inr ⟨c,hc,zlA (fun j hj=>(hg c hc j hj).meet) (fun j hj=>(hg c hc j hj).minus) ha hb h⟩
     ·unfold zb8 at h
      rw[if_neg (by rw[(h4 ha).2,(h4 hb).2];exact e),List.mem_singleton] at h
      rw[h];exact .inr ⟨c,hc,ha⟩
    rcases ha with ha|⟨c,hc,ha⟩
    ·rw[zfA (h4 hb).1 ha] at h
     obtain⟨c,hc,h⟩:=List.mem_flatMap.1 h
     exact key c hc _ (hw c hc) h
    ·rw[zcX (h4 hb).1 (h4 ha).1] at h
     exact key c hc a ha h
 ·rcases hp with hp|⟨c,hc,hp⟩
  ·cases n with
   |zero=>simp[zad] at h1
   |succ n=>
    rw[zeO hp] at h2
    have h0:=of_decide_eq_false h2
    obtain⟨m,v,hv⟩:=zqG hs.dp ht (by omega)
    cases m with
    |zero=>simp[zaX] at hv
    |succ m=>
     obtain⟨f1,f2,f3⟩:=zeQ hv hdt
     have hh:hitP (zbO w t v.ctor) v=true:=by
      rw[zc6 rfl]
      show(decide (v.ctor=v.ctor)&&hitL ((zaa w t v.ctor).map fun _=>anyQ) v.kids)=true
      rw[zkQ,decide_eq_true rfl];rfl
     have hwp:zad w 2 t (zbO w t v.ctor)=true:=zcF f1
     obtain⟨v',h5,_⟩:=(zhk f1 (fun j hj=>hg v.ctor f1 j hj)).hit 2 _ (hw _ f1) hwp (zju hs 2 (m+1) ht hwp hv hh)
     exact⟨v',List.mem_flatMap.2 ⟨_,f1,h5⟩,ze7 hp⟩
  ·obtain⟨v',h5,h6⟩:=(zhk hc (fun j hj=>hg c hc j hj)).hit n p hp h1 h2
   exact⟨v',List.mem_flatMap.2 ⟨c,hc,h5⟩,h6⟩
 ·obtain⟨m,hm⟩:=zkN (P:=fun i m=>∀v∈zgz (nth (zah w t) i) (zaa w t (nth (zah w t) i)).length (Vs (nth (zah w t) i)),zaX w m t v=true) (fun j m n hmn h v hv=>ziu hmn (h v hv)) (zah w t).length
   (fun i hi=>(zhk (zag hi) (fun j hj=>hg _ (zag hi) j hj)).fits)
  refine⟨m,fun v hv=>?_⟩
  obtain⟨c,hc,hv⟩:=List.mem_flatMap.1 hv
  obtain⟨i,hi,rfl⟩:=List.getElem_of_mem hc
  rw[←zaJ hi] at hv
  exact hm i hi v hv
end
theorem zsr:∀(V:List Val) (l:List Pat),(∀x∈l,∃v∈V,hitP x v=true)→(∀v∈V,l.countP (fun x=>hitP x v)≤1)→l.length≤V.length
 | [],l,h,_=>by
  cases l with
  |nil=>simp
  |cons x r=>obtain⟨v,hv,_⟩:=h x (by simp);simp at hv
 |v::V,l,h,hc=>by
  have h1:=hc v (by simp)
  have h2:=zsr V (l.filter fun x=> !hitP x v) (fun x hx=>by
   obtain⟨h3,h4⟩:=List.mem_filter.1 hx
   obtain⟨u,hu,h5⟩:=h x h3
   rcases List.mem_cons.1 hu with rfl|hu
   ·rw[h5] at h4;simp at h4
   ·exact⟨u,hu,h5⟩) (fun u hu=>Nat.le_trans (List.Sublist.countP_le List.filter_sublist) (hc u (by simp[hu])))
  have h3:l.length=l.countP (fun x=>hitP x v)+(l.filter fun x=> !hitP x v).length:=by
   rw[←List.countP_eq_length_filter]
   have:=List.length_eq_countP_add_countP (fun x=>hitP x v) (l:=l)
   rw[this]
   congr 1
   refine List.countP_congr (fun x _=>?_)
   simp
  simp only[List.length_cons];omega
def sepQ (w:List Data) (t:Ty):List Pat→List Pat→List Pat→Option (List Pat)
 |_,[],out=>some out
 |front,p::r,out=>match zaE w t [p] front with
  |none=>none
  |some m=>sepQ w t (front++[p]) r (out++m)
theorem zq6 {w:List Data}{t:Ty}{S:Pat→Prop} (hmin:∀a b x,S a→S b→x∈zaq w 10 t a b→S x):∀(away l r:List Pat),(∀b∈away,zad w 10 t b=true∧S b)→(∀a∈l,zad w 11 t a=true∧S a∧zbn w t a=true)→subL w t l away=some r→∀x∈r,zad w 11 t x=true∧S x∧zbn w t x=true
 | [],l,r,_,hl,h=>by rw[subL] at h;cases h;exact hl
 |b::away,l,r,hb,hl,h=>by
  rw[subL] at h
  split at h
  ·refine zq6 hmin away _ r (fun x hx=>hb x (by simp[hx])) (fun x hx=>?_) h
   have h1:=zel (fun a ha=>(hl a ha).1) (hb b (by simp)).1 x hx
   unfold zbM at hx
   obtain⟨h2,h3⟩:=List.mem_filter.1 hx
   obtain⟨a,ha,h4⟩:=List.mem_flatMap.1 h2
   exact⟨h1,hmin a b x (hl a ha).2.1 (hb b (by simp)).2 h4,h3⟩
  ·cases h
theorem zkE {w:List Data}{t:Ty}{S:Pat→Prop} (hmin:∀a b x,S a→S b→x∈zaq w 10 t a b→S x){away l r:List Pat} (hb:∀b∈away,zad w 10 t b=true∧S b) (hl:∀a∈l,zad w 11 t a=true∧S a) (h:zaE w t l away=some r):∀x∈r,zad w 11 t x=true∧S x∧zbn w t x=true:=by
 unfold zaE at h
 exact zq6 hmin away _ r hb (fun a ha=>⟨(hl a (List.mem_filter.1 ha).1).1,(hl a (List.mem_filter.1 ha).1).2,(List.mem_filter.1 ha).2⟩) h
theorem zq1 {w:List Data}{t:Ty}{S:Pat→Prop} (hmin:∀a b x,S a→S b→x∈zaq w 10 t a b→S x):∀(r front out:List Pat){res:List Pat},(∀b∈front,zad w 10 t b=true∧S b)→(∀b∈r,zad w 10 t b=true∧S b)→(∀x∈out,zad w 11 t x=true∧S x∧zbn w t x=true)→
  sepQ w t front r out=some res→∀x∈res,zad w 11 t x=true∧S x∧zbn w t x=true
 | [],front,out,res,_,_,ho,h=>by rw[sepQ] at h;cases h;exact ho
 |p::r,front,out,res,hf,hr,ho,h=>by
  rw[sepQ] at h
  cases hw:zaE w t [p] front with
  |none=>rw[hw] at h;cases h
  |some m=>
   rw[hw] at h
   have hp:=hr p (by simp)
   have h1:=zkE hmin hf (fun a ha=>by rw[List.mem_singleton.1 ha];exact⟨zdd (by omega) hp.1,hp.2⟩) hw
   refine zq1 hmin r (front++[p]) (out++m) (fun b hb=>?_) (fun b hb=>hr b (by simp[hb])) (fun x hx=>?_) h
   ·rcases List.mem_append.1 hb with hb|hb
    ·exact hf b hb
    ·rw[List.mem_singleton.1 hb];exact hp
   ·rcases List.mem_append.1 hx with hx|hx
    ·exact ho x hx
    ·exact h1 x hx
theorem zuE (n:Nat):∀f p r:Bool,(n+if f=true then 0 else one p)+(if (f||p)=true then 0 else one r)=n+if f=true then 0 else one (p||r):=by
 intro f p r;cases f<;>cases p<;>cases r<;>simp[one]
theorem zvF:∀b:Bool,one b≤1:=by decide
section
variable {w:List Data} (hs:Spa w){t:Ty} (ht:InS (w.length*4) t)
include hs ht
theorem zm7 {v:Val}{k:Nat} (hv:zaX w k t v=true):∀(r front out:List Pat){res:List Pat},(∀b∈front,zad w 10 t b=true)→(∀b∈r,zad w 10 t b=true)→sepQ w t front r out=some res→
  res.countP (fun x=>hitP x v)=out.countP (fun x=>hitP x v)+if front.any (fun x=>hitP x v)=true then 0 else one (r.any fun x=>hitP x v)
 | [],front,out,res,_,_,h=>by
  rw[sepQ] at h;cases h
  simp[one]
 |p::r,front,out,res,hf,hr,h=>by
  rw[sepQ] at h
  cases hw:zaE w t [p] front with
  |none=>rw[hw] at h;cases h
  |some m=>
   rw[hw] at h
   have hp:=hr p (by simp)
   have h1:=zkD hs ht hv hf (fun a ha=>by rw[List.mem_singleton.1 ha];exact zdd (by omega) hp) hw
   have h2:=zm7 hv r (front++[p]) (out++m) (fun b hb=>by
    rcases List.mem_append.1 hb with hb|hb
    ·exact hf b hb
    ·rw[List.mem_singleton.1 hb];exact hp) (fun b hb=>hr b (by simp[hb])) h
   rw[h2,List.countP_append,h1,List.any_append,List.any_cons,List.countP_singleton]
   simp only[List.any_cons,List.any_nil,Bool.or_false]
   exact zuE _ _ _ _
theorem zq0 {S:Pat→Prop}{V:List Val} (hg:Grid w t S V){l res:List Pat} (hl:∀b∈l,zad w 10 t b=true∧S b) (h:sepQ w t [] l []=some res):res.length≤V.length:=by
 obtain⟨m,hm⟩:=hg.fits
 have h1:=zq1 (hg.minus 10) l [] [] (by simp) hl (by simp) h
 refine zsr V res (fun x hx=>?_) (fun v hv=>?_)
 ·obtain⟨h2,h3,h4⟩:=h1 x hx
  exact hg.hit 11 x h3 h2 (by unfold zbn at h4;simpa using h4)
 ·have:=zm7 hs ht (hm v hv) l [] [] (by simp) (fun b hb=>(hl b hb).1) h
  rw[this]
  simp only[List.countP_nil,List.any_nil,Nat.zero_add]
  exact zvF _
end
abbrev zhi (o:List Pat):List D:=[.sl (Pat.cs o)]
abbrev zir (ls:List (List Pat)):D:= .sl (ls.map zhi)
theorem zrL {N:Nat} (acc:List (List Pat)) (l:List Pat):(zbd (acc.take N) l).take N=(zbd acc l).take N:=by
 by_cases h:acc.length≤N
 ·rw[List.take_of_length_le h]
 have e0:∀a:List (List Pat),zbd a []=[]:=fun a=>by unfold zbd;simp
 cases l with
 |nil=>rw[e0,e0]
 |cons c r=>
  have e:zbd acc (c::r)=zbd (acc.take N) (c::r)++zbd (acc.drop N) (c::r):=by
   unfold zbd;rw[←List.flatMap_append,List.take_append_drop]
  rw[e,zed]
  rw[zf3,List.length_take,Nat.min_eq_left (by omega),List.length_cons]
  exact Nat.le_mul_of_pos_right _ (by omega)
theorem zrM {N:Nat} (acc:List (List Pat)) (l:List Pat):(zbd acc (l.take N)).take N=(zbd acc l).take N:=by
 by_cases h:l.length≤N
 ·rw[List.take_of_length_le h]
 cases acc with
 |nil=>rfl
 |cons q r=>
  have e:∀l:List Pat,zbd (q::r) l=l.map (fun c=>q++[c])++zbd r l:=fun l=>by unfold zbd;rw[List.flatMap_cons]
  rw[e,e,zed (by rw[List.length_map,List.length_take];omega),zed (by rw[List.length_map];omega),List.map_take,List.take_take,Nat.min_self]
def tupQ (m:Nat) (ls:List (List Pat)):List (List Pat):=ls.foldl (fun acc l=>(zbd acc l).take (m+1)) [[]]
theorem zct (m:Nat) (ls:List (List Pat)) (l:List Pat):tupQ m (ls++[l])=(zbd (tupQ m ls) l).take (m+1):=by
 unfold tupQ;rw[List.foldl_append];rfl
theorem zp6 (m:Nat):∀(ls:List (List Pat)) (acc:List (List Pat)),(ls.map (List.take (m+1))).foldl (fun acc l=>(zbd acc l).take (m+1)) (acc.take (m+1))=(ls.foldl zbd acc).take (m+1)
 | [],acc=>rfl
 |l::r,acc=>by
  rw[List.map_cons,List.foldl_cons,List.foldl_cons,zrM,zrL]
  exact zp6 m r (zbd acc l)
theorem zuM (m:Nat) (ls:List (List Pat)):tupQ m (ls.map (List.take (m+1)))=(zd2 ls).take (m+1):=by
 have h:=zp6 m ls [[]]
 have e:([[]]:List (List Pat)).take (m+1)=[[]]:=by simp
 rw[e] at h
 exact h
theorem zp4 (m:Nat) (ls:List (List Pat)):(tupQ m ls).length≤m+1:=by
 have key:∀(ls acc:List (List Pat)),acc.length≤m+1→(ls.foldl (fun acc l=>(zbd acc l).take (m+1)) acc).length≤m+1:=by
  intro ls
  induction ls with
  |nil=>intro acc h;exact h
  |cons l r ih=>intro acc h;exact ih _ (by rw[List.length_take];omega)
 exact key ls [[]] (by simp)
theorem zp5 (m:Nat){ls:List (List Pat)}{o:List Pat} (h:o∈tupQ m ls):o.length=ls.length:=by
 have key:∀(ls acc:List (List Pat)) (n:Nat),(∀o∈acc,o.length=n)→∀o∈ls.foldl (fun acc l=>(zbd acc l).take (m+1)) acc,o.length=n+ls.length:=by
  intro ls
  induction ls with
  |nil=>intro acc n h o ho;exact h o ho
  |cons l r ih=>
   intro acc n h o ho
   have:=ih _ (n+1) (fun o' ho'=>by
    have ho':=List.mem_of_mem_take ho'
    unfold zbd at ho'
    simp only[List.mem_flatMap,List.mem_map] at ho'
    obtain⟨p,hp,q,_,rfl⟩:=ho'
    simp[h p hp]) o ho
   simp only[List.length_cons];omega
 have:=key ls [[]] 0 (by simp) o h
 simpa using this
def zkf (l:List Pat) (o:List Pat):List (List Pat):=l.map fun y=>o++[y]
theorem zdf (acc:List (List Pat)) (l:List Pat):zbd acc l=acc.flatMap (zkf l):=rfl
theorem zlf {X:List (List Pat)}{l:List Pat}{o:List Pat}{j m:Nat} (hc:¬j<l.length∨¬((X++(l.take j).map fun y=>o++[y]).take (m+1)).length≤m):
  (X++(l.take j).map fun y=>o++[y]).take (m+1)=(X++zkf l o).take (m+1):=zuL hc
theorem ztF {α:Type}{N:Nat} (a b:List α):(a.take N++b.take N).take N=(a++b).take N:=by
 by_cases h:a.length≤N
 ·rw[List.take_of_length_le h,List.take_append,List.take_append,List.take_take,Nat.min_eq_left (by omega)]
 ·rw[zed (by rw[List.length_take];omega),zed (by omega),List.take_take,Nat.min_self]
def za2 (p:Pat):List Pat:=(zap p).take 401
theorem ztA {p:Pat} (h:p.op=5) (hk:p.kids.length=2):za2 p=(za2 (nth p.kids 0)++za2 (nth p.kids 1)).take 401:=by
 unfold za2;rw[zdu h hk,ztF]
theorem ztB {p:Pat} (h:p.op≠5):za2 p=(tupQ 400 (p.kids.map za2)).map fun l=> .mk p.op p.ctor p.n p.m p.var l:=by
 unfold za2
 rw[zc4 h,←List.map_take]
 congr 1
 have:=zuM 400 (p.kids.map zap)
 rw[List.map_map] at this
 exact this.symm
theorem ziJ (p:Pat):(za2 p).length≤401:=by unfold za2;rw[List.length_take];omega
theorem zb5:∀(n:Nat){p:Pat},p.size≤n→p.ok→FnD Tryz.prog 58 [.agg [.d (.i p.op),.d (.i p.ctor),.d (.i p.n),.d (.i p.m),.d (.i p.var),.d (zac p.kids)]] [] (.agg [.d (.i (zas p).op),.d (.i (zas p).ctor),.d (.i (zas p).n),.d (.i (zas p).m),.d (.i (zas p).var),.d (zac (zas p).kids)]) []
 |0,p,h,_=>by rw[Pat.size_eq] at h;omega
 |n+1,p,h,hok=>by
  rw[Pat.size_eq] at h
  rw[Pat.ok_iff] at hok
  have hok1:=hok.1
  by_cases h2:p.op=2
  ·rw[zqu h2]
   refine bd Tryz.f58 42 [] [] fun w0 F0 own kept hk=>?_
   refine bx 3001 ?_
   refine ab 3002 tz28 ?_
   refine tv ?_
   refine sq (fun h1 h1p h1s=>?_) fun h1 h1p h1s=>?_
   try simp only[Q] at h1p
   refine bu [0] [_] st28 ?_
   refine so ty28 ?_
   refine tv ?_
   refine rn0 (.cons (.cellA ty28 rfl rfl rfl) .nil) (.agg (.cons (.eqd ?_) (.cons (.eqd ?_) (.cons (.eqd ?_) (.cons (.eqd ?_) (.cons (.eqd ?_) (.cons (.nild ?_) .nil)))))))
   rotate_left 6
   try simp only[Q] at h1p
   exfalso;omega
   all_goals (rfl)
  by_cases h6:p.op=6∧0<p.kids.length
  ·rw[zqv h6.1 h6.2]
   refine bd Tryz.f58 42 [] [] fun w0 F0 own kept hk=>?_
   refine bx 3001 ?_
   refine ab 3002 tz28 ?_
   refine tv ?_
   refine sq (fun h1 h1p h1s=>?_) fun h1 h1p h1s=>?_
   try simp only[Q,Pat.cs_len] at h1p
   exfalso;omega
   try simp only[Q,Pat.cs_len] at h1p
   refine sq (fun h2 h2p h2s=>?_) fun h2 h2p h2s=>?_
   try simp only[Q,Pat.cs_len] at h2p
   refine sq (fun h3 h3p h3s=>?_) fun h3 h3p h3s=>?_
   try simp only[Q,Pat.cs_len] at h3p
   refine Walk.idx (i:=0) sl26 .none rfl rfl rfl rfl (zaI h6.2) rfl ?_
   refine ev ?_
   refine wc zj2 (zb5 n (p:=nth p.kids 0) (by have:=Pats.size_mem (zag h6.2);omega) (Pats.ok_mem hok.2 _ (zag h6.2))) rfl rfl ?_
   refine so ty28 ?_
   refine tv ?_
   refine rn0 (.cons (.cellA ty28 rfl rfl rfl) .nil) (.agg (.cons (.eqd ?_) (.cons (.eqd ?_) (.cons (.eqd ?_) (.cons (.eqd ?_) (.cons (.eqd ?_) (.cons (.eqd ?_) .nil)))))))
   rotate_left 6
   try simp only[Q,Pat.cs_len] at h3p
   exfalso;omega
   try simp only[Q,Pat.cs_len] at h2p
   exfalso;omega
   all_goals (rfl)
  ·rw[zqw h2 h6]
   refine bd Tryz.f58 42 [] [] fun w0 F0 own kept hk=>?_
   refine bx 3001 ?_
   refine ab 3002 tz28 ?_
   refine tv ?_
   refine sq (fun h1 h1p h1s=>?_) fun h1 h1p h1s=>?_
   try simp only[Q,Pat.cs_len] at h1p
   exfalso;omega
   try simp only[Q,Pat.cs_len] at h1p
   refine sq (fun h2 h2p h2s=>?_) fun h2 h2p h2s=>?_
   try simp only[Q,Pat.cs_len] at h2p
   refine sq (fun h3 h3p h3s=>?_) fun h3 h3p h3s=>?_
   try simp only[Q,Pat.cs_len] at h3p
   exfalso;apply h6;exact⟨by omega,by omega⟩
   try simp only[Q,Pat.cs_len] at h3p
   refine ab 3003 tz28 ?_
   refine so ty28 ?_
   refine tv ?_
   refine so ty26 ?_
   refine tv ?_
   refine CWp.tokB 3003 5 7 6 rfl rfl rfl rfl ?_
   refine CWp.loopX (ι:=List (Pat)×List (Pat)) hk (fun x=>[(4,.d (.i (x.1.length:Int)))]) [23,24,25,26,27,28,29,30,31,32,33,34,35,36,37,38,39,40] (fun x=>[(3003,some (.box [.d (.i p.op),.d (.i p.ctor),.d (.i p.n),.d (.i p.m),.d (.i p.var),.gl 7 ((x.1.map zas).map Pat.cc)])),(7,some (.tok ((x.1.map zas).map Pat.cc).length 6))]) (fun x=>x.1++x.2=p.kids) (fun x=>x.2.length) ([],p.kids) (by simp) ⟨⟨_,rfl,LeA.eqi ?_⟩,trivial⟩ ⟨?_,⟨zab ?_,trivial⟩⟩ (fun x=>rfl) (fun x hg1=>?_)
   focus (first|rfl|(simp;done)|(simp_all;done)|omega|(simp;omega))
   focus (first|rfl|(simp[getH];done))
   focus (first|rfl|(simp;done)|(simp_all;done)|omega|(simp;omega))
   obtain⟨pre,rest⟩:=x
   dsimp only at hg1 ⊢
   refine evc [] [] ?_
   refine sq (fun h4 h4p h4s=>?_) fun h4 h4p h4s=>?_
   try simp only[Q,Pat.cs_len] at h4p
   rcases rest with _|⟨y,rest⟩
   ·exfalso;simp_all
   refine Walk.idx sl26 .none rfl rfl rfl rfl (Pat.cs_at' hg1) rfl ?_
   refine evd [] [] ?_
   refine wc zj2 (zb5 n (p:=y) (by have:=Pats.size_mem (l:=p.kids) (v:=y) (by rw[←hg1];simp);omega) (Pats.ok_mem hok.2 y (by rw[←hg1];simp))) rfl rfl ?_
   refine si [0] [_] sl26 tz28 ?_
   refine ap sl26 zz28 rfl rfl rfl (by intro x hx;first|(simp at hx;subst hx;rfl)|exact zbD _ x hx) (by have:=congrArg List.length hg1;simp at this;simp;omega) ?_
   refine evd [] [] ?_
   refine so ty26 ?_
   refine dr ?_
   refine ar ?_
   refine Exists.intro ((pre++[y],rest)) ⟨(by have hz:=hg1;rw[←hz];simp),(by simp),sx ⟨⟨_,rfl,LeA.eqi ?_⟩,trivial⟩ ⟨?_,⟨zab ?_,trivial⟩⟩⟩
   focus (first|rfl|(simp;done)|(simp_all;done)|omega|(simp;omega))
   focus (first|rfl|(simp[getH];done))
   focus (first|rfl|(simp;done)|(simp_all;done)|omega|(simp;omega))
   try simp only[Q,Pat.cs_len] at h4p
   have hrest:rest=[]:=by
    rcases rest with _|⟨a,b⟩
    ·rfl
    ·exfalso;have hz:=congrArg List.length (hg1);simp only[List.length_append,List.length_cons,List.length_map] at hz;omega
   subst hrest
   refine so ty28 ?_
   refine tv ?_
   refine rn0 (.cons (.cellA ty28 rfl rfl rfl) .nil) (.agg (.cons (.eqd ?_) (.cons (.eqd ?_) (.cons (.eqd ?_) (.cons (.eqd ?_) (.cons (.eqd ?_) (.cons (.gld ?_) .nil)))))))
   rotate_left 6
   try simp only[Q,Pat.cs_len] at h2p
   refine ab 3003 tz28 ?_
   refine so ty28 ?_
   refine tv ?_
   refine so ty26 ?_
   refine tv ?_
   refine CWp.tokB 3003 5 7 6 rfl rfl rfl rfl ?_
   refine CWp.loopX (ι:=List (Pat)×List (Pat)) hk (fun x=>[(4,.d (.i (x.1.length:Int)))]) [23,24,25,26,27,28,29,30,31,32,33,34,35,36,37,38,39,40] (fun x=>[(3003,some (.box [.d (.i p.op),.d (.i p.ctor),.d (.i p.n),.d (.i p.m),.d (.i p.var),.gl 7 ((x.1.map zas).map Pat.cc)])),(7,some (.tok ((x.1.map zas).map Pat.cc).length 6))]) (fun x=>x.1++x.2=p.kids) (fun x=>x.2.length) ([],p.kids) (by simp) ⟨⟨_,rfl,LeA.eqi ?_⟩,trivial⟩ ⟨?_,⟨zab ?_,trivial⟩⟩ (fun x=>rfl) (fun x hg1=>?_)
   focus (first|rfl|(simp;done)|(simp_all;done)|omega|(simp;omega))
   focus (first|rfl|(simp[getH];done))
   focus (first|rfl|(simp;done)|(simp_all;done)|omega|(simp;omega))
   obtain⟨pre,rest⟩:=x
   dsimp only at hg1 ⊢
   refine evc [] [] ?_
   refine sq (fun h5 h5p h5s=>?_) fun h5 h5p h5s=>?_
   try simp only[Q,Pat.cs_len] at h5p
   rcases rest with _|⟨y,rest⟩
   ·exfalso;simp_all
   refine Walk.idx sl26 .none rfl rfl rfl rfl (Pat.cs_at' hg1) rfl ?_
   refine evd [] [] ?_
   refine wc zj2 (zb5 n (p:=y) (by have:=Pats.size_mem (l:=p.kids) (v:=y) (by rw[←hg1];simp);omega) (Pats.ok_mem hok.2 y (by rw[←hg1];simp))) rfl rfl ?_
   refine si [0] [_] sl26 tz28 ?_
   refine ap sl26 zz28 rfl rfl rfl (by intro x hx;first|(simp at hx;subst hx;rfl)|exact zbD _ x hx) (by have:=congrArg List.length hg1;simp at this;simp;omega) ?_
   refine evd [] [] ?_
   refine so ty26 ?_
   refine dr ?_
   refine ar ?_
   refine Exists.intro ((pre++[y],rest)) ⟨(by have hz:=hg1;rw[←hz];simp),(by simp),sx ⟨⟨_,rfl,LeA.eqi ?_⟩,trivial⟩ ⟨?_,⟨zab ?_,trivial⟩⟩⟩
   focus (first|rfl|(simp;done)|(simp_all;done)|omega|(simp;omega))
   focus (first|rfl|(simp[getH];done))
   focus (first|rfl|(simp;done)|(simp_all;done)|omega|(simp;omega))
   try simp only[Q,Pat.cs_len] at h5p
   have hrest:rest=[]:=by
    rcases rest with _|⟨a,b⟩
    ·rfl
    ·exfalso;have hz:=congrArg List.length (hg1);simp only[List.length_append,List.length_cons,List.length_map] at hz;omega
   subst hrest
   refine so ty28 ?_
   refine tv ?_
   refine rn0 (.cons (.cellA ty28 rfl rfl rfl) .nil) (.agg (.cons (.eqd ?_) (.cons (.eqd ?_) (.cons (.eqd ?_) (.cons (.eqd ?_) (.cons (.eqd ?_) (.cons (.gld ?_) .nil)))))))
   rotate_left 6
   all_goals (first|rfl|(rw[List.append_nil] at hg1;rw[←hg1,Pat.cs_cd];done)|(rw[List.append_nil] at hg1;subst hg1;rw[←Pat.cs_cd];all_goals rfl))
theorem zlb {ls:List (List Pat)} (hl:ls.length≤1000000000000) (hls:∀l∈ls,l.length≤1000000000000):FnD Tryz.prog 187 [.d (zir ls)] [] (.d (zir (tupQ 400 ls))) []:=by
 refine bd Tryz.f187 62 [] [] fun w0 F0 own kept hk=>?_
 refine Walk.sliceEmpty sl26 .none rfl ?_
 refine si [0] [_] zd3 tz26 ?_
 refine ev ?_
 refine CWp.loopX (ι:=List (List Pat)×List (List Pat)) hk (fun x=>[(4,.d (.i (x.1.length:Int))),(3,.d (.sl ((tupQ 400 x.1).map zhi)))]) [5,6,7,10,11,12,13,14,15,16,17,18,19,20,21,22,23,24,25,26,27,28,29,30,31,32,33,34,35,36,37,38,39,40,41,42,43,44,45,46,47,48,49,50,51,52,53,54,55,56,57,58,59,60] (fun x=>[]) (fun x=>x.1++x.2=ls) (fun x=>x.2.length) ([],ls) (by simp) ⟨⟨_,rfl,LeA.eqi ?_⟩,⟨⟨_,rfl, ?_⟩,trivial⟩⟩ trivial (fun x=>rfl) (fun x hg1=>?_)
 focus (first|rfl|(simp;done)|(rw[zct,zdf,zda (by omega)]))
 focus (first|exact LeA.refl _|((first|refine LeA.gld ?_|refine LeA.nild ?_);first|rfl|(simp;done)|(rw[zct,zdf,zda (by omega)]))|(refine LeA.eqsl ?_;first|rfl|(simp;done)|(rw[zct,zdf,zda (by omega)]))|(refine LeA.eqd ?_;first|rfl|(simp;done)|(rw[zct,zdf,zda (by omega)])))
 obtain⟨pre,rest⟩:=x
 dsimp only at hg1 ⊢
 refine evc [] [] ?_
 refine sq (fun h1 h1p h1s=>?_) fun h1 h1p h1s=>?_
 try simp only[Q,Pat.cs_len,Int.ofNat_lt,Int.ofNat_le] at h1p
 rcases rest with _|⟨l,rest⟩
 ·exfalso;simp_all
 have hll:=hls l (by rw[←hg1];simp);have htl:=zp4 400 pre
 refine Walk.sliceEmptyG 3 zd3 .none rfl rfl ?_
 refine ev ?_
 refine CWp.loopX (ι:=Nat) hk (fun k=>[(6,.d (.i (k:Int))),(5,.gl 3 (((((tupQ 400 pre).take k).flatMap (zkf l)).take (400+1)).map zhi))]) [7,17,18,19,20,21,22,23,24,25,26,27,28,29,30,31,32,33,34,35,36,37,38,39,40,41,42,43,44,45,46,47,48,49,50,51,52,53,54,55,56,57,58,59] (fun k=>[(3,some (.tok ((((((tupQ 400 pre).take k).flatMap (zkf l)).take (400+1)).map zhi)).length 1))]) (fun k=>k≤(tupQ 400 pre).length) (fun k=>(tupQ 400 pre).length-k) 0 (by simp) ⟨⟨_,rfl,LeA.eqi ?_⟩,⟨⟨_,rfl,LeA.glg ?_⟩,trivial⟩⟩ ⟨zab ?_,trivial⟩ (fun x=>rfl) (fun k hg2=>?_)
 iterate 3 focus (first|rfl|(simp;done)|(rw[zmT (by omega),zlf (by omega)])|(simp;omega))
 refine evc [] [] ?_
 refine sq (fun h2 h2p h2s=>?_) fun h2 h2p h2s=>?_
 try simp only[Q,Pat.cs_len,Int.ofNat_lt,Int.ofNat_le] at h2p
 refine sq (fun h3 h3p h3s=>?_) fun h3 h3p h3s=>?_
 try simp only[Q,Pat.cs_len,Int.ofNat_lt,Int.ofNat_le] at h3p
 refine CWp.loopX (ι:=Nat) hk (fun j=>[(7,.d (.i (j:Int))),(5,.gl 3 (((((tupQ 400 pre).take k).flatMap (zkf l)++(l.take j).map (fun y=>nth (tupQ 400 pre) k++[y])).take (400+1)).map zhi))]) [28,29,30,31,32,33,34,35,36,37,38,39,40,41,42,43,44,45,46,47,48,49,50,51,52,53,54,55,56,57,58,59] (fun j=>[(3,some (.tok ((((((tupQ 400 pre).take k).flatMap (zkf l)++(l.take j).map (fun y=>nth (tupQ 400 pre) k++[y])).take (400+1)).map zhi)).length 1))]) (fun j=>j≤l.length) (fun j=>l.length-j) 0 (by simp) ⟨⟨_,rfl,LeA.eqi ?_⟩,⟨⟨_,rfl,LeA.glg ?_⟩,trivial⟩⟩ ⟨zab ?_,trivial⟩ (fun x=>rfl) (fun j hg3=>?_)
 iterate 3 focus (first|rfl|(simp;done)|(rw[zq8 (by omega) (by omega),List.map_append];simp[Pat.cs_cd];done)|(simp;omega))
 have hol:=zp5 400 (zag (l:=tupQ 400 pre) (i:=k) (by omega))
 refine evc [] [] ?_
 refine Walk.idx zd3 .none rfl rfl rfl rfl (by first|exact zaN hg1|exact zau (by omega)) rfl ?_
 refine ev ?_
 refine sq (fun h4 h4p h4s=>?_) fun h4 h4p h4s=>?_
 try simp only[Q,Pat.cs_len,Int.ofNat_lt,Int.ofNat_le] at h4p
 refine sq (fun h5 h5p h5s=>?_) fun h5 h5p h5s=>?_
 try simp only[Q,Pat.cs_len,Int.ofNat_lt,Int.ofNat_le] at h5p
 refine Walk.sliceEmptyG 5 sl26 .none rfl rfl ?_
 refine evd [] [] ?_
 refine Walk.idx zd3 .none rfl rfl rfl rfl (by first|exact zaN hg1|exact zau (by omega)) rfl ?_
 refine evd [] [] ?_
 refine ap sl26 zz28 rfl rfl rfl (by intro z hz;first|(rw[Pat.cs_cd] at hz;obtain⟨_,_,rfl⟩:=List.mem_map.1 hz;rfl)|(simp at hz;rw[hz];rfl)) (by first|(simp only[List.length_map,List.length_append,List.length_cons,List.length_nil,Pat.cs_len] at *;omega)) ?_
 refine evd [] [] ?_
 refine Walk.idx zd3 .none rfl rfl rfl rfl (by first|exact zaN hg1|exact zau (by omega)) rfl ?_
 refine evd [] [] ?_
 refine Walk.idx sl26 .none rfl rfl rfl rfl (zaI (by omega)) rfl ?_
 refine evd [] [] ?_
 refine si [0] [_] sl26 tz28 ?_
 refine ap sl26 zz28 rfl rfl rfl (by intro z hz;first|(rw[Pat.cs_cd] at hz;obtain⟨_,_,rfl⟩:=List.mem_map.1 hz;rfl)|(simp at hz;rw[hz];rfl)) (by first|(simp only[List.length_map,List.length_append,List.length_cons,List.length_nil,Pat.cs_len] at *;omega)) ?_
 refine si [0] [_] zd3 tz26 ?_
 refine ap zd3 zz26 rfl rfl rfl (by intro z hz;first|(rw[Pat.cs_cd] at hz;obtain⟨_,_,rfl⟩:=List.mem_map.1 hz;rfl)|(simp at hz;rw[hz];rfl)) (by first|(simp only[List.length_map,List.length_append,List.length_cons,List.length_nil,Pat.cs_len] at *;omega)) ?_
 refine evd [] [] ?_
 refine dr ?_
 refine ar ?_
 refine Exists.intro (j+1) ⟨?_, ?_,sx ⟨⟨_,rfl,LeA.eqi ?_⟩,⟨⟨_,rfl,LeA.glg ?_⟩,trivial⟩⟩ ⟨zab ?_,trivial⟩⟩
 iterate 2 focus (first|omega|(simp_all;done)|(simp_all;omega))
 iterate 3 focus (first|rfl|(simp;done)|(rw[zq8 (by omega) (by omega),List.map_append];simp[Pat.cs_cd];done)|(simp;omega))
 try simp only[Q,Pat.cs_len,Int.ofNat_lt,Int.ofNat_le] at h5p
 refine ar ?_
 refine Exists.intro (k+1) ⟨?_, ?_,sx ⟨⟨_,rfl,LeA.eqi ?_⟩,⟨⟨_,rfl,LeA.glg ?_⟩,trivial⟩⟩ ⟨zab ?_,trivial⟩⟩
 iterate 2 focus (first|omega|(simp_all;done)|(simp_all;omega))
 iterate 3 focus (first|rfl|(simp;done)|(rw[zmT (by omega),zlf (by omega)])|(simp;omega))
 try simp only[Q,Pat.cs_len,Int.ofNat_lt,Int.ofNat_le] at h4p
 refine sqF ?_
 refine ar ?_
 refine Exists.intro (k+1) ⟨?_, ?_,sx ⟨⟨_,rfl,LeA.eqi ?_⟩,⟨⟨_,rfl,LeA.glg ?_⟩,trivial⟩⟩ ⟨zab ?_,trivial⟩⟩
 iterate 2 focus (first|omega|(simp_all;done)|(simp_all;omega))
 iterate 3 focus (first|rfl|(simp;done)|(rw[zmT (by omega),zlf (by omega)])|(simp;omega))
 try simp only[Q,Pat.cs_len,Int.ofNat_lt,Int.ofNat_le] at h3p
 refine ar ?_
 refine Exists.intro ((pre++[l],rest)) ⟨(by have hz:=hg1;rw[←hz];simp),(by simp),sx ⟨⟨_,rfl,LeA.eqi ?_⟩,⟨⟨_,rfl, ?_⟩,trivial⟩⟩ trivial⟩
 focus (first|rfl|(simp;done)|(rw[zct,zdf,zda (by omega)]))
 focus (first|exact LeA.refl _|((first|refine LeA.gld ?_|refine LeA.nild ?_);first|rfl|(simp;done)|(rw[zct,zdf,zda (by omega)]))|(refine LeA.eqsl ?_;first|rfl|(simp;done)|(rw[zct,zdf,zda (by omega)]))|(refine LeA.eqd ?_;first|rfl|(simp;done)|(rw[zct,zdf,zda (by omega)])))
 try simp only[Q,Pat.cs_len,Int.ofNat_lt,Int.ofNat_le] at h2p
 refine sqF ?_
 refine ar ?_
 refine Exists.intro ((pre++[l],rest)) ⟨(by have hz:=hg1;rw[←hz];simp),(by simp),sx ⟨⟨_,rfl,LeA.eqi ?_⟩,⟨⟨_,rfl, ?_⟩,trivial⟩⟩ trivial⟩
 focus (first|rfl|(simp;done)|(rw[zct,zdf,zda (by omega)]))
 focus (first|exact LeA.refl _|((first|refine LeA.gld ?_|refine LeA.nild ?_);first|rfl|(simp;done)|(rw[zct,zdf,zda (by omega)]))|(refine LeA.eqsl ?_;first|rfl|(simp;done)|(rw[zct,zdf,zda (by omega)]))|(refine LeA.eqd ?_;first|rfl|(simp;done)|(rw[zct,zdf,zda (by omega)])))
 try simp only[Q,Pat.cs_len,Int.ofNat_lt,Int.ofNat_le] at h1p
 have hrest:rest=[]:=by
  rcases rest with _|⟨a,b⟩
  ·rfl
  ·exfalso;have hz:=congrArg List.length (hg1);simp only[List.length_append,List.length_cons,List.length_map] at hz;omega
 subst hrest
 refine rn0 (r1 rfl) (.eqd ?_)
 rotate_left
 all_goals ((rw[List.append_nil] at hg1);subst hg1;rfl)
theorem zd5:∀(n:Nat){p:Pat},binP n p=true→p.ok→FnD Tryz.prog 142 [.agg [.d (.i p.op),.d (.i p.ctor),.d (.i p.n),.d (.i p.m),.d (.i p.var),.d (zac p.kids)]] [] (.gv 9 (Pat.cs (za2 p))) [(9,some (.tok (Pat.cs (za2 p)).length 6))]
 |0,p,h,_=>by simp[binP] at h
 |n+1,p,h,hok=>by
  have hok':=(Pat.ok_iff p).1 hok
  have hok1:=hok'.1
  by_cases h5:p.op=5
  ·have hl:=zj1 h h5
   have e5:=ztA h5 hl
   have l0:=ziJ (nth p.kids 0)
   have l1:=ziJ (nth p.kids 1)
   have c0:=zd5 n (zdU h (i:=0) (by omega)) (Pats.ok_mem hok'.2 _ (zag (by omega)))
   have c1:=FnD.gvD (zd5 n (zdU h (i:=1) (by omega)) (Pats.ok_mem hok'.2 _ (zag (by omega))))
   rw[e5]
   generalize za2 (nth p.kids 0)=A at *
   generalize za2 (nth p.kids 1)=C at *
   by_cases hlen:(A++C).length≤401
   ·rw[List.take_of_length_le hlen]
    rw[List.length_append] at hlen
    refine bd Tryz.f142 67 [25] [] fun w0 F0 own kept hk=>?_
    refine bx 3001 ?_
    refine evs [25] [] ?_
    refine sq (fun h1 h1p h1s=>?_) fun h1 h1p h1s=>?_
    try simp only[Q,Pat.cs_len,List.length_append] at h1p
    refine Walk.idx (i:=0) sl26 .none rfl rfl rfl rfl (zaI (by omega)) rfl ?_
    refine evd [25] [] ?_
    refine Walk.call (cr:=[9]) zhO (c0) rfl .none rfl rfl (LeL.refl _) trivial rfl rfl rfl ?_
    refine evd [25] [] ?_
    refine Walk.idx (i:=1) sl26 .none rfl rfl rfl rfl (zaI (by omega)) rfl ?_
    refine evd [25] [] ?_
    refine wc zhO (c1) rfl rfl ?_
    refine Walk.appendV sl26 zz28 .none rfl rfl rfl rfl (zgj rfl (by first|rfl|(simp;done)|(simp;omega))) (by intro x hx;exact za5 _ x hx) (by simp[Pat.cs_len];omega) (by simp[Pat.cs_len];omega) ?_
    refine evd [25] [] ?_
    refine dr ?_
    refine Walk.lenV sl26 .none rfl rfl ?_
    refine evs [25] [] ?_
    refine sq (fun h2 h2p h2s=>?_) fun h2 h2p h2s=>?_
    try simp only[Q,Pat.cs_len,List.length_append] at h2p
    exfalso;omega
    try simp only[Q,Pat.cs_len,List.length_append] at h2p
    refine rn [(9,some (.tok (Pat.cs (A++C)).length 6))] (r1 rfl) (.gvg ?_) ⟨rfl,rfl⟩ (SubH.get ⟨?_,trivial⟩) (zaG rfl)
    rotate_left 2
    try simp only[Q,Pat.cs_len,List.length_append] at h1p
    exfalso;omega
    all_goals (first|((first|rfl|(simp[Pat.cs_cd];done));done)|(first|rfl|(simp[Pat.cs_cd];rfl)))
   ·have c8:=FnD.gvRen 8 c0
    rw[List.length_append] at hlen
    refine bd Tryz.f142 67 [25] [] fun w0 F0 own kept hk=>?_
    refine bx 3001 ?_
    refine evs [25] [] ?_
    refine sq (fun h1 h1p h1s=>?_) fun h1 h1p h1s=>?_
    try simp only[Q,Pat.cs_len,List.length_append] at h1p
    refine Walk.idx (i:=0) sl26 .none rfl rfl rfl rfl (zaI (by omega)) rfl ?_
    refine evd [25] [] ?_
    refine Walk.call (cr:=[8]) zhO (c8) rfl .none rfl rfl (LeL.refl _) trivial rfl rfl rfl ?_
    refine evd [25] [] ?_
    refine Walk.idx (i:=1) sl26 .none rfl rfl rfl rfl (zaI (by omega)) rfl ?_
    refine evd [25] [] ?_
    refine wc zhO (c1) rfl rfl ?_
    refine Walk.appendV sl26 zz28 .none rfl rfl rfl rfl (zgj rfl (by first|rfl|(simp;done)|(simp;omega))) (by intro x hx;exact za5 _ x hx) (by simp[Pat.cs_len];omega) (by simp[Pat.cs_len];omega) ?_
    refine evd [25] [] ?_
    refine dr ?_
    refine Walk.lenV sl26 .none rfl rfl ?_
    refine evs [25] [] ?_
    refine sq (fun h2 h2p h2s=>?_) fun h2 h2p h2s=>?_
    try simp only[Q,Pat.cs_len,List.length_append] at h2p
    refine Walk.cutV_h 9 (b:=401) sl26 .none rfl rfl (zgj rfl (by first|rfl|(simp;done)|(simp;omega))) rfl rfl (by simp[Pat.cs_len];omega) (by simp[Pat.cs_len];omega) rfl ?_
    refine evs [25] [] ?_
    refine rn [(9,some (.tok (Pat.cs ((A++C).take 401)).length 6))] (r1 rfl) (.gvg ?_) ⟨rfl,rfl⟩ (SubH.get ⟨?_,trivial⟩) (zaG rfl)
    rotate_left 2
    try simp only[Q,Pat.cs_len,List.length_append] at h2p
    exfalso;omega
    try simp only[Q,Pat.cs_len,List.length_append] at h1p
    exfalso;omega
    all_goals (first|((first|rfl|(simp[Pat.cs_cd];done));done)|(first|rfl|(show some (Res.tok _ _)=some (Res.tok _ _);simp[Pat.cs_len];omega)))
  ·have hts:=zp4 400 (p.kids.map za2)
   have htm:=fun(i:Nat) (hi:i<(tupQ 400 (p.kids.map za2)).length)=>zp5 400 (zag hi)
   have ht3:=zlb (ls:=p.kids.map za2) (by rw[List.length_map];omega) (fun l hl=>by obtain⟨x,_,rfl⟩:=List.mem_map.1 hl;have:=ziJ x;omega)
   have hcal:=fun(i:Nat) (hi:i<p.kids.length)=>FnD.gvD (zd5 n (zdU h hi) (Pats.ok_mem hok'.2 _ (zag hi)))
   have hpl:=fun(y:Pat) (pre rest:List Pat) (e:pre++y::rest=p.kids)=>(show pre.length<p.kids.length∧nth p.kids pre.length=y from⟨by have:=congrArg List.length e;simp at this;omega,zvE e⟩)
   have hcal2:=fun(y:Pat) (pre rest:List Pat) (e:pre++y::rest=p.kids)=>show FnD Tryz.prog 142 [.agg [.d (.i y.op),.d (.i y.ctor),.d (.i y.n),.d (.i y.m),.d (.i y.var),.d (zac y.kids)]] [] (.d (.sl (Pat.cs (za2 y)))) [] from by
    have hq:=hcal pre.length (hpl y pre rest e).1
    rw[(hpl y pre rest e).2] at hq
    exact hq
   have ht3':=fun(pre:List Pat) (e:pre++[]=p.kids)=>show FnD Tryz.prog 187 [.d (zir (pre.map za2))] [] (.d (zir (tupQ 400 (p.kids.map za2)))) [] from by
    rw[List.append_nil] at e
    rw[e];exact ht3
   rw[ztB h5]
   refine bd Tryz.f142 67 [] [] fun w0 F0 own kept hk=>?_
   refine bx 3001 ?_
   refine ev ?_
   refine sq (fun h1 h1p h1s=>?_) fun h1 h1p h1s=>?_
   try simp only[Q,Pat.cs_len] at h1p
   exfalso;omega
   try simp only[Q,Pat.cs_len] at h1p
   refine Walk.sliceEmptyG 4 zd3 .none rfl rfl ?_
   refine ev ?_
   refine CWp.loopX (ι:=List (Pat)×List (Pat)) hk (fun x=>[(5,.d (.i (x.1.length:Int))),(4,.gl 4 ((x.1.map za2).map zhi))]) [31,32,33,34,35,36,37,38,39,40,41,42,43,44,45,46] (fun x=>[(4,some (.tok (((x.1.map za2).map zhi)).length 1))]) (fun x=>x.1++x.2=p.kids) (fun x=>x.2.length) ([],p.kids) (by simp) ⟨⟨_,rfl,LeA.eqi ?_⟩,⟨⟨_,rfl,LeA.glg ?_⟩,trivial⟩⟩ ⟨zab ?_,trivial⟩ (fun x=>rfl) (fun x hg1=>?_)
   iterate 3 focus (first|rfl|(simp;done)|(simp;omega))
   obtain⟨pre,rest⟩:=x
   dsimp only at hg1 ⊢
   refine evc [] [] ?_
   refine sq (fun h2 h2p h2s=>?_) fun h2 h2p h2s=>?_
   try simp only[Q,Pat.cs_len] at h2p
   rcases rest with _|⟨y,rest⟩
   ·exfalso;simp_all
   refine Walk.idx sl26 .none rfl rfl rfl rfl (Pat.cs_at' hg1) rfl ?_
   refine ev ?_
   refine wc zhO (hcal2 y pre rest hg1) rfl rfl ?_
   refine si [0] [_] zd3 tz26 ?_
   refine ap zd3 zz26 rfl rfl rfl (by intro x hx;first|(simp at hx;subst hx;rfl)|exact zbD _ x hx) (by first|(have:=congrArg List.length hg1;simp at this;simp;omega)|(simp;omega)) ?_
   refine ev ?_
   refine ar ?_
   refine Exists.intro ((pre++[y],rest)) ⟨(by have hz:=hg1;rw[←hz];simp),(by simp),sx ⟨⟨_,rfl,LeA.eqi ?_⟩,⟨⟨_,rfl,LeA.glg ?_⟩,trivial⟩⟩ ⟨zab ?_,trivial⟩⟩
   iterate 3 focus (first|rfl|(simp;done)|(simp;omega))
   try simp only[Q,Pat.cs_len] at h2p
   have hrest:rest=[]:=by
    rcases rest with _|⟨a,b⟩
    ·rfl
    ·exfalso;have hz:=congrArg List.length (hg1);simp only[List.length_append,List.length_cons,List.length_map] at hz;omega
   subst hrest
   refine Walk.call (cr:=[]) zve (ht3' pre hg1) rfl .none rfl rfl (.cons (.gl _ _) .nil) trivial rfl rfl rfl ?_
   refine ev ?_
   refine Walk.sliceEmptyGV 9 sl26 .none rfl rfl ?_
   refine ev ?_
   refine CWp.loopX (ι:=Nat) hk (fun k=>[(8,.d (.i (k:Int))),(7,.gv 9 ((((tupQ 400 (p.kids.map za2)).take k).map fun l=>Pat.mk p.op p.ctor p.n p.m p.var l).map Pat.cc))]) [9,50,51,52,53,54,55,56,57,58,59,60,61,62,63,64,65] (fun k=>[(9,some (.tok (((((tupQ 400 (p.kids.map za2)).take k).map fun l=>Pat.mk p.op p.ctor p.n p.m p.var l).map Pat.cc)).length 6))]) (fun k=>k≤(tupQ 400 (p.kids.map za2)).length) (fun k=>(tupQ 400 (p.kids.map za2)).length-k) 0 (by omega) ⟨⟨_,rfl,LeA.eqi ?_⟩,⟨⟨_,rfl,LeA.gvg ?_⟩,trivial⟩⟩ ⟨zab ?_,trivial⟩ (fun x=>rfl) (fun k hg2=>?_)
   iterate 3 focus (first|rfl|(simp;done)|(rw[List.take_succ_eq_append_getElem (by omega),←zaJ (by omega)];simp[zb1,zdV,mk_n,mk_m,zfe,za0];done)|omega|(simp;omega))
   refine evc [] [] ?_
   refine sq (fun h3 h3p h3s=>?_) fun h3 h3p h3s=>?_
   try simp only[Q,Pat.cs_len] at h3p
   refine ab 3009 tz28 ?_
   refine so ty28 ?_
   refine tv ?_
   refine Walk.idx zd3 .none rfl rfl rfl rfl (zau (by omega)) rfl ?_
   refine ev ?_
   refine so ty26 ?_
   refine tv ?_
   refine si [0] [_] sl26 tz28 ?_
   refine Walk.appendV sl26 zz28 .none rfl rfl rfl rfl (zgj rfl (by first|rfl|(simp;done)|(simp;omega))) (by intro x hx;first|(simp at hx;subst hx;rfl)|exact zbD _ x hx) (by first|(have:=congrArg List.length hg1;simp at this;simp;omega)|(simp;omega)) (by first|(have:=congrArg List.length hg1;simp at this;simp;omega)|(simp;omega)) ?_
   refine ev ?_
   refine ar ?_
   refine Exists.intro (k+1) ⟨(by omega),(by omega),sx ⟨⟨_,rfl,LeA.eqi ?_⟩,⟨⟨_,rfl,LeA.gvg ?_⟩,trivial⟩⟩ ⟨zab ?_,trivial⟩⟩
   iterate 3 focus (first|rfl|(simp;done)|(rw[List.take_succ_eq_append_getElem (by omega),←zaJ (by omega)];simp[zb1,zdV,mk_n,mk_m,zfe,za0];done)|omega|(simp;omega))
   try simp only[Q,Pat.cs_len] at h3p
   refine rn [(9,some (.tok (Pat.cs ((tupQ 400 (p.kids.map za2)).map fun l=>Pat.mk p.op p.ctor p.n p.m p.var l)).length 6))] (r1 rfl) (.gvg ?_) ⟨rfl,rfl⟩ (SubH.get ⟨?_,trivial⟩) (zaG rfl)
   rotate_left 2
   all_goals (first|((first|rfl|(obtain rfl:k=(tupQ 400 (p.kids.map za2)).length:=(by omega);rw[List.take_length,show Pat.cs ((tupQ 400 (p.kids.map za2)).map fun l=>Pat.mk p.op p.ctor p.n p.m p.var l)=((tupQ 400 (p.kids.map za2)).map fun l=>Pat.mk p.op p.ctor p.n p.m p.var l).map Pat.cc from Pat.cs_cd _];done));done)|(first|rfl|(obtain rfl:k=(tupQ 400 (p.kids.map za2)).length:=(by omega);rw[List.take_length];simp[Pat.cs_cd];rfl)|(obtain rfl:k=(tupQ 400 (p.kids.map za2)).length:=(by omega);rw[List.take_length,show Pat.cs ((tupQ 400 (p.kids.map za2)).map fun l=>Pat.mk p.op p.ctor p.n p.m p.var l)=((tupQ 400 (p.kids.map za2)).map fun l=>Pat.mk p.op p.ctor p.n p.m p.var l).map Pat.cc from Pat.cs_cd _];rfl)))
theorem zhx {w:List Data}{n:Nat}{t:Ty}{p:Pat} (h:zat w n t p=true) (hok:p.ok):FnD Tryz.prog 87 [.agg [.d (.i p.op),.d (.i p.ctor),.d (.i p.n),.d (.i p.m),.d (.i p.var),.d (zac p.kids)]] [] (.d (zac (za2 (zas p)))) []:=by
 have hbp:=zb5 _ (Nat.le_refl _) hok
 have hsp:=FnD.gvD (zd5 n (zf0 n h) (zj0 p hok))
 generalize zas p=b at *
 refine bd Tryz.f87 6 [] [] fun w0 F0 own kept hk=>?_
 refine bx 3001 ?_
 refine ev ?_
 refine wc zj2 (hbp) rfl rfl ?_
 refine wc zhO (hsp) rfl rfl ?_
 refine ev ?_
 refine rn0 (r1 rfl) (.eqd ?_)
 rotate_left
 all_goals (rfl)
theorem zg8 {a b:Pat} (hn:0≤b.n∧b.n≤9) (hm:0≤b.m∧b.m≤9):FnD Tryz.prog 156 [.agg [.d (.i (a).op),.d (.i (a).ctor),.d (.i (a).n),.d (.i (a).m),.d (.i (a).var),.d (zac (a).kids)],.agg [.d (.i (b).op),.d (.i (b).ctor),.d (.i (b).n),.d (.i (b).m),.d (.i (b).var),.d (zac (b).kids)]] [] (.d (zac (zbS a.n (minQ a.m (b.n-1))++zbS (maxQ a.n (b.m+1)) a.m))) []:=by
 refine bd Tryz.f156 58 [] [] fun w0 F0 own kept hk=>?_
 refine bx 3002 ?_
 refine bx 3003 ?_
 refine ev ?_
 refine Walk.sliceEmptyG 9 sl26 .none rfl rfl ?_
 refine ev ?_
 refine bu [0,2,3] [_,_,_] st28 ?_
 refine ab 3006 tz28 ?_
 refine so ty28 ?_
 refine tv ?_
 refine ar ?_
 refine sq (fun h1 h1p h1s=>?_) fun h1 h1p h1s=>?_
 try simp only[Q] at h1p
 refine ar ?_
 refine so ty3 ?_
 refine tv ?_
 refine sq (fun h2 h2p h2s=>?_) fun h2 h2p h2s=>?_
 try simp only[Q] at h2p
 refine si [0] [_] sl26 tz28 ?_
 refine ap sl26 zz28 rfl rfl rfl (by intro x hx;simp at hx;subst hx;rfl) (by simp) ?_
 refine ev ?_
 refine bu [0,2,3] [_,_,_] st28 ?_
 refine ab 3007 tz28 ?_
 refine so ty28 ?_
 refine tv ?_
 refine ar ?_
 refine sq (fun h3 h3p h3s=>?_) fun h3 h3p h3s=>?_
 try simp only[Q] at h3p
 refine ar ?_
 refine so ty3 ?_
 refine tv ?_
 refine sq (fun h4 h4p h4s=>?_) fun h4 h4p h4s=>?_
 try simp only[Q] at h4p
 refine si [0] [_] sl26 tz28 ?_
 refine ap sl26 zz28 rfl rfl rfl (by intro x hx;simp at hx;subst hx;rfl) (by simp) ?_
 refine ev ?_
 refine rn0 (r1 rfl) (.gld ?_)
 rotate_left
 try simp only[Q] at h4p
 refine rn0 (r1 rfl) (.gld ?_)
 rotate_left
 try simp only[Q] at h3p
 refine sq (fun h5 h5p h5s=>?_) fun h5 h5p h5s=>?_
 try simp only[Q] at h5p
 refine si [0] [_] sl26 tz28 ?_
 refine ap sl26 zz28 rfl rfl rfl (by intro x hx;simp at hx;subst hx;rfl) (by simp) ?_
 refine ev ?_
 refine rn0 (r1 rfl) (.gld ?_)
 rotate_left
 try simp only[Q] at h5p
 refine rn0 (r1 rfl) (.gld ?_)
 rotate_left
 try simp only[Q] at h2p
 refine bu [0,2,3] [_,_,_] st28 ?_
 refine ab 3007 tz28 ?_
 refine so ty28 ?_
 refine tv ?_
 refine ar ?_
 refine sq (fun h6 h6p h6s=>?_) fun h6 h6p h6s=>?_
 try simp only[Q] at h6p
 refine ar ?_
 refine so ty3 ?_
 refine tv ?_
 refine sq (fun h7 h7p h7s=>?_) fun h7 h7p h7s=>?_
 try simp only[Q] at h7p
 refine si [0] [_] sl26 tz28 ?_
 refine ap sl26 zz28 rfl rfl rfl (by intro x hx;simp at hx;subst hx;rfl) (by simp) ?_
 refine ev ?_
 refine rn0 (r1 rfl) (.gld ?_)
 rotate_left
 try simp only[Q] at h7p
 refine rn0 (r1 rfl) (.gld ?_)
 rotate_left
 try simp only[Q] at h6p
 refine sq (fun h8 h8p h8s=>?_) fun h8 h8p h8s=>?_
 try simp only[Q] at h8p
 refine si [0] [_] sl26 tz28 ?_
 refine ap sl26 zz28 rfl rfl rfl (by intro x hx;simp at hx;subst hx;rfl) (by simp) ?_
 refine ev ?_
 refine rn0 (r1 rfl) (.gld ?_)
 rotate_left
 try simp only[Q] at h8p
 refine rn0 (r1 rfl) (.gld ?_)
 rotate_left
 try simp only[Q] at h1p
 refine sq (fun h9 h9p h9s=>?_) fun h9 h9p h9s=>?_
 try simp only[Q] at h9p
 refine si [0] [_] sl26 tz28 ?_
 refine ap sl26 zz28 rfl rfl rfl (by intro x hx;simp at hx;subst hx;rfl) (by simp) ?_
 refine ev ?_
 refine bu [0,2,3] [_,_,_] st28 ?_
 refine ab 3007 tz28 ?_
 refine so ty28 ?_
 refine tv ?_
 refine ar ?_
 refine sq (fun h10 h10p h10s=>?_) fun h10 h10p h10s=>?_
 try simp only[Q] at h10p
 refine ar ?_
 refine so ty3 ?_
 refine tv ?_
 refine sq (fun h11 h11p h11s=>?_) fun h11 h11p h11s=>?_
 try simp only[Q] at h11p
 refine si [0] [_] sl26 tz28 ?_
 refine ap sl26 zz28 rfl rfl rfl (by intro x hx;simp at hx;subst hx;rfl) (by simp) ?_
 refine ev ?_
 refine rn0 (r1 rfl) (.gld ?_)
 rotate_left
 try simp only[Q] at h11p
 refine rn0 (r1 rfl) (.gld ?_)
 rotate_left
 try simp only[Q] at h10p
 refine sq (fun h12 h12p h12s=>?_) fun h12 h12p h12s=>?_
 try simp only[Q] at h12p
 refine si [0] [_] sl26 tz28 ?_
 refine ap sl26 zz28 rfl rfl rfl (by intro x hx;simp at hx;subst hx;rfl) (by simp) ?_
 refine ev ?_
 refine rn0 (r1 rfl) (.gld ?_)
 rotate_left
 try simp only[Q] at h12p
 refine rn0 (r1 rfl) (.gld ?_)
 rotate_left
 try simp only[Q] at h9p
 refine bu [0,2,3] [_,_,_] st28 ?_
 refine ab 3007 tz28 ?_
 refine so ty28 ?_
 refine tv ?_
 refine ar ?_
 refine sq (fun h13 h13p h13s=>?_) fun h13 h13p h13s=>?_
 try simp only[Q] at h13p
 refine ar ?_
 refine so ty3 ?_
 refine tv ?_
 refine sq (fun h14 h14p h14s=>?_) fun h14 h14p h14s=>?_
 try simp only[Q] at h14p
 refine si [0] [_] sl26 tz28 ?_
 refine ap sl26 zz28 rfl rfl rfl (by intro x hx;simp at hx;subst hx;rfl) (by simp) ?_
 refine ev ?_
 refine rn0 (r1 rfl) (.gld ?_)
 rotate_left
 try simp only[Q] at h14p
 refine rn0 (r1 rfl) (.gld ?_)
 rotate_left
 try simp only[Q] at h13p
 refine sq (fun h15 h15p h15s=>?_) fun h15 h15p h15s=>?_
 try simp only[Q] at h15p
 refine si [0] [_] sl26 tz28 ?_
 refine ap sl26 zz28 rfl rfl rfl (by intro x hx;simp at hx;subst hx;rfl) (by simp) ?_
 refine ev ?_
 refine rn0 (r1 rfl) (.gld ?_)
 rotate_left
 try simp only[Q] at h15p
 refine rn0 (r1 rfl) (.gld ?_)
 rotate_left
 all_goals (unfold minQ maxQ zbS;(repeat' split)<;>first|rfl|(exfalso;omega))
theorem zop {w:List Data} (hw:WT w){a k c:Int} (ht:TyIn w.length ⟨a,k⟩) (hc:c∈zah w ⟨a,k⟩) (hl:(zaa w ⟨a,k⟩ c).length≤3):FnD Tryz.prog 158 [.d (zan w),.agg [.d (.i a),.d (.i k)],.d (.i c)] []
  (.agg [.d (.i 4),.d (.i c),.d (.i 0),.d (.i 0),.d (.i 0),.d (zac (zbO w ⟨a,k⟩ c).kids)]) []:=by
 refine bd Tryz.f158 29 [] [] fun w0 F0 own kept hk=>?_
 refine bx 3004 ?_
 refine ab 3006 tz28 ?_
 refine tv ?_
 refine bu [0,1] [_,_] st28 ?_
 refine ab 3007 tz28 ?_
 refine so ty28 ?_
 refine tv ?_
 refine wc zfS (zcs hw ht hc) rfl rfl ?_
 refine ev ?_
 refine CWp.tokB 3007 5 9 6 rfl rfl rfl rfl ?_
 refine CWp.loopX (ι:=List (Ty)×List (Ty)) hk (fun x=>[(9,.d (.i (x.1.length:Int)))]) [16,17,18,19,20,21,22,23,24,25,26,27] (fun x=>[(3007,some (.box [.d (.i 4),.d (.i c),.d (.i 0),.d (.i 0),.d (.i 0),.gl 9 ((x.1.map fun _=>anyQ).map Pat.cc)])),(9,some (.tok ((x.1.map fun _=>anyQ).map Pat.cc).length 6))]) (fun x=>x.1++x.2=zaa w ⟨a,k⟩ c) (fun x=>x.2.length) ([],zaa w ⟨a,k⟩ c) (by simp) ⟨⟨_,rfl,LeA.eqi ?_⟩,trivial⟩ ⟨?_,⟨zab ?_,trivial⟩⟩ (fun x=>rfl) (fun x hg1=>?_)
 focus (first|rfl|(simp;done)|(simp;exact⟨rfl,rfl,rfl,rfl,rfl,rfl⟩)|omega|(simp;omega))
 focus (first|rfl|(simp[getH];done)|(simp[getH];exact⟨rfl,rfl,rfl,rfl,rfl,rfl⟩))
 focus (first|rfl|(simp;done)|(simp;exact⟨rfl,rfl,rfl,rfl,rfl,rfl⟩)|omega|(simp;omega))
 obtain⟨pre,rest⟩:=x
 dsimp only at hg1 ⊢
 refine evc [] [] ?_
 refine sq (fun h1 h1p h1s=>?_) fun h1 h1p h1s=>?_
 try simp only[Q] at h1p
 rcases rest with _|⟨y,rest⟩
 ·exfalso;simp_all
 refine wc zuY (zon) rfl rfl ?_
 refine si [0] [_] sl26 tz28 ?_
 refine ap sl26 zz28 rfl rfl rfl (by intro x hx;first|(simp at hx;subst hx;rfl)|exact zbD _ x hx) (by have:=congrArg List.length hg1;simp at this;simp;omega) ?_
 refine evd [] [] ?_
 refine so ty26 ?_
 refine dr ?_
 refine ar ?_
 refine Exists.intro ((pre++[y],rest)) ⟨(by have hz:=hg1;rw[←hz];simp),(by simp),sx ⟨⟨_,rfl,LeA.eqi ?_⟩,trivial⟩ ⟨?_,⟨zab ?_,trivial⟩⟩⟩
 focus (first|rfl|(simp;done)|(simp;exact⟨rfl,rfl,rfl,rfl,rfl,rfl⟩)|omega|(simp;omega))
 focus (first|rfl|(simp[getH];done)|(simp[getH];exact⟨rfl,rfl,rfl,rfl,rfl,rfl⟩))
 focus (first|rfl|(simp;done)|(simp;exact⟨rfl,rfl,rfl,rfl,rfl,rfl⟩)|omega|(simp;omega))
 try simp only[Q] at h1p
 have hrest:rest=[]:=by
  rcases rest with _|⟨a,b⟩
  ·rfl
  ·exfalso;have hz:=congrArg List.length (hg1);simp only[List.length_append,List.length_cons,List.length_map] at hz;omega
 subst hrest
 refine so ty28 ?_
 refine tv ?_
 refine rn0 (.cons (.cellA ty28 rfl rfl rfl) .nil) (.agg (.cons (.eqd ?_) (.cons (.eqd ?_) (.cons (.eqd ?_) (.cons (.eqd ?_) (.cons (.eqd ?_) (.cons (.gld ?_) .nil)))))))
 rotate_left 6
 all_goals (first|rfl|(rw[List.append_nil] at hg1;subst hg1;rw[←Pat.cs_cd];all_goals rfl))
def zdJ (n:Nat) (a b:Pat):Pat:=if a.op=3∧b.op≠1 then intQ (maxQ a.n b.n) (minQ a.m b.m) else zcP n a b
theorem zm0 {n:Nat}{a b:Pat} (h:¬(a.op=3∧b.op≠1)):zdJ n a b=zcP n a b:=if_neg h
theorem zpq {n:Nat}{a b:Pat} (h:(zaD n a b).isSome=true):zdJ n a b=zcP n a b:=by
 unfold zdJ
 split
 ·rename_i h3
  cases n with
  |zero=>simp[zaD] at h
  |succ n=>
   have e:=zhX (n:=n) h3.1 h3.2
   rw[e] at h
   split at h
   ·rename_i hr
    rw[if_pos hr] at e
    exact(zcD e).symm
   ·cases h
 ·rfl
theorem zia {w:List Data} (hs:Spa w):∀(n m:Nat){t:Ty}{a b:Pat},m≤n→InS (w.length*4) t→zad w m t a=true→zad w m t b=true→
  FnD Tryz.prog 67 [.agg [.d (.i (a).op),.d (.i (a).ctor),.d (.i (a).n),.d (.i (a).m),.d (.i (a).var),.d (zac (a).kids)],.agg [.d (.i (b).op),.d (.i (b).ctor),.d (.i (b).n),.d (.i (b).m),.d (.i (b).var),.d (zac (b).kids)]] [] (.tup [.agg [.d (.i (zdJ n a b).op),.d (.i (zdJ n a b).ctor),.d (.i (zdJ n a b).n),.d (.i (zdJ n a b).m),.d (.i (zdJ n a b).var),.d (zac (zdJ n a b).kids)],.d (.bool (zaD n a b).isSome)]) []
 |n,0,t,a,b,_,_,ha,_=>by simp[zad] at ha
 |0,m+1,t,a,b,h,_,_,_=>by omega
 |n+1,m+1,t,a,b,hnm,ht,ha,hb=>by
  by_cases h1:a.op=1
  ·have e:=zg0 (n:=n) (b:=b) h1
   rw[zm0 (fun h=>by omega),zcD e,e]
   refine bd Tryz.f67 89 [] [] fun w0 F0 own kept hk=>?_
   refine bx 3002 ?_
   refine bx 3003 ?_
   refine ab 3004 tz28 ?_
   refine ev ?_
   refine sq (fun h1 h1p h1s=>?_) fun h1 h1p h1s=>?_
   try simp only[Q] at h1p
   refine so ty28 ?_
   refine ev ?_
   refine rn0 (.cons (.cellA ty28 rfl rfl rfl) (.cons (.tmp rfl) .nil)) (.tup (.cons (.agg (.cons (.eqd ?_) (.cons (.eqd ?_) (.cons (.eqd ?_) (.cons (.eqd ?_) (.cons (.eqd ?_) (.cons (.eqd ?_) .nil))))))) (.cons (.eqd ?_) .nil)))
   rotate_left 7
   try simp only[Q] at h1p
   exfalso;omega
   all_goals (rfl)
  by_cases h2:b.op=1
  ·have e:=zhW (n:=n) h1 h2
   rw[zm0 (fun h=>h.2 h2),zcD e,e]
   refine bd Tryz.f67 89 [] [] fun w0 F0 own kept hk=>?_
   refine bx 3002 ?_
   refine bx 3003 ?_
   refine ab 3004 tz28 ?_
   refine ev ?_
   refine sq (fun h1 h1p h1s=>?_) fun h1 h1p h1s=>?_
   try simp only[Q] at h1p
   exfalso;omega
   try simp only[Q] at h1p
   refine sq (fun h2 h2p h2s=>?_) fun h2 h2p h2s=>?_
   try simp only[Q] at h2p
   refine so ty28 ?_
   refine ev ?_
   refine rn0 (.cons (.cellA ty28 rfl rfl rfl) (.cons (.tmp rfl) .nil)) (.tup (.cons (.agg (.cons (.eqd ?_) (.cons (.eqd ?_) (.cons (.eqd ?_) (.cons (.eqd ?_) (.cons (.eqd ?_) (.cons (.eqd ?_) .nil))))))) (.cons (.eqd ?_) .nil)))
   rotate_left 7
   try simp only[Q] at h2p
   exfalso;omega
   all_goals (rfl)
  by_cases h3:a.op=3
  ·have e:=zhX (n:=n) h3 h2
   have ez:zdJ (n+1) a b=intQ (maxQ a.n b.n) (minQ a.m b.m):=if_pos ⟨h3,h2⟩
   have eb:(zaD (n+1) a b).isSome=decide (maxQ a.n b.n≤minQ a.m b.m):=by
    rw[e]
    by_cases hr:maxQ a.n b.n≤minQ a.m b.m
    ·rw[if_pos hr,decide_eq_true hr];rfl
    ·rw[if_neg hr,decide_eq_false hr];rfl
   rw[ez,eb]
   refine bd Tryz.f67 89 [] [] fun w0 F0 own kept hk=>?_
   refine bx 3002 ?_
   refine bx 3003 ?_
   refine ab 3004 tz28 ?_
   refine ev ?_
   refine sq (fun h1 h1p h1s=>?_) fun h1 h1p h1s=>?_
   try simp only[Q] at h1p
   exfalso;omega
   try simp only[Q] at h1p
   refine sq (fun h2 h2p h2s=>?_) fun h2 h2p h2s=>?_
   try simp only[Q] at h2p
   exfalso;omega
   try simp only[Q] at h2p
   refine sq (fun h3 h3p h3s=>?_) fun h3 h3p h3s=>?_
   try simp only[Q] at h3p
   refine sq (fun h4 h4p h4s=>?_) fun h4 h4p h4s=>?_
   try simp only[Q] at h4p
   refine sq (fun h5 h5p h5s=>?_) fun h5 h5p h5s=>?_
   try simp only[Q] at h5p
   refine bu [0,2,3] [_,_,_] st28 ?_
   refine ev ?_
   refine so ty28 ?_
   refine ev ?_
   refine rn0 (.cons (.cellA ty28 rfl rfl rfl) (.cons (.tmp rfl) .nil)) (.tup (.cons (.agg (.cons (.eqd ?_) (.cons (.eqd ?_) (.cons (.eqd ?_) (.cons (.eqd ?_) (.cons (.eqd ?_) (.cons (.nild ?_) .nil))))))) (.cons (.eqd ?_) .nil)))
   rotate_left 7
   try simp only[Q] at h5p
   refine bu [0,2,3] [_,_,_] st28 ?_
   refine ev ?_
   refine so ty28 ?_
   refine ev ?_
   refine rn0 (.cons (.cellA ty28 rfl rfl rfl) (.cons (.tmp rfl) .nil)) (.tup (.cons (.agg (.cons (.eqd ?_) (.cons (.eqd ?_) (.cons (.eqd ?_) (.cons (.eqd ?_) (.cons (.eqd ?_) (.cons (.nild ?_) .nil))))))) (.cons (.eqd ?_) .nil)))
   rotate_left 7
   try simp only[Q] at h4p
   refine sq (fun h6 h6p h6s=>?_) fun h6 h6p h6s=>?_
   try simp only[Q] at h6p
   refine bu [0,2,3] [_,_,_] st28 ?_
   refine ev ?_
   refine so ty28 ?_
   refine ev ?_
   refine rn0 (.cons (.cellA ty28 rfl rfl rfl) (.cons (.tmp rfl) .nil)) (.tup (.cons (.agg (.cons (.eqd ?_) (.cons (.eqd ?_) (.cons (.eqd ?_) (.cons (.eqd ?_) (.cons (.eqd ?_) (.cons (.nild ?_) .nil))))))) (.cons (.eqd ?_) .nil)))
   rotate_left 7
   try simp only[Q] at h6p
   refine bu [0,2,3] [_,_,_] st28 ?_
   refine ev ?_
   refine so ty28 ?_
   refine ev ?_
   refine rn0 (.cons (.cellA ty28 rfl rfl rfl) (.cons (.tmp rfl) .nil)) (.tup (.cons (.agg (.cons (.eqd ?_) (.cons (.eqd ?_) (.cons (.eqd ?_) (.cons (.eqd ?_) (.cons (.eqd ?_) (.cons (.nild ?_) .nil))))))) (.cons (.eqd ?_) .nil)))
   rotate_left 7
   try simp only[Q] at h3p
   exfalso;omega
   all_goals (first|rfl|((try simp only[zb1,zdV,mk_n,mk_m,zfe,za0]);simp only[minQ,maxQ];(repeat' split)<;>first|rfl|(exfalso;omega)))
  have oa:=zbv ha
  have h4:a.op=4:=by omega
  have h4b:b.op=4:=by have:=zde ha hb h1 h2;omega
  have ez:zdJ (n+1) a b=zcP (n+1) a b:=zm0 (fun h=>h3 h.1)
  by_cases hc:a.ctor=b.ctor
  ·obtain⟨c1,c2,c3,-⟩:=zaA ha h4
   obtain⟨d1,d2,d3,-⟩:=zaA hb h4b
   rw[←hc] at d3
   have h3l:=hs.args t a.ctor ht c1
   have ka:=fun i (hi:i<a.kids.length)=>zaP ha hi
   have kb:=fun i (hi:i<b.kids.length)=>zaP hb hi
   rw[zbc h4] at ka
   rw[zbc h4b,←hc] at kb
   have e:=zg1 (n:=n) h4 h2 hc
   have hlen:a.kids.length=b.kids.length:=by omega
   have ih:=fun i (hi:i<a.kids.length)=>zia hs n m (t:=nth (zaa w t a.ctor) i) (a:=nth a.kids i) (b:=nth b.kids i) (by omega) (zby hs.dp ht c1 _ (zag (by omega))) (ka i (by omega)) (kb i (by omega))
   have key:∀(i:Nat) (acc:List Pat),i<a.kids.length→(zaD n (nth a.kids i) (nth b.kids i)).isSome=true→zbQ (zaD n) (a.kids.drop i) (b.kids.drop i) acc=zbQ (zaD n) (a.kids.drop (i+1)) (b.kids.drop (i+1)) (acc++[zdJ n (nth a.kids i) (nth b.kids i)]):=fun i acc hi h=>by
    rw[zpq h];exact zlX hi (by omega) (zm1 h)
   rw[ez]
   refine bd Tryz.f67 89 [] [] fun w0 F0 own kept hk=>?_
   refine bx 3002 ?_
   refine bx 3003 ?_
   refine ab 3004 tz28 ?_
   refine ev ?_
   refine sq (fun h1 h1p h1s=>?_) fun h1 h1p h1s=>?_
   try simp only[Q,Pat.cs_len] at h1p
   exfalso;omega
   try simp only[Q,Pat.cs_len] at h1p
   refine sq (fun h2 h2p h2s=>?_) fun h2 h2p h2s=>?_
   try simp only[Q,Pat.cs_len] at h2p
   exfalso;omega
   try simp only[Q,Pat.cs_len] at h2p
   refine sq (fun h3 h3p h3s=>?_) fun h3 h3p h3s=>?_
   try simp only[Q,Pat.cs_len] at h3p
   exfalso;omega
   try simp only[Q,Pat.cs_len] at h3p
   refine sq (fun h4 h4p h4s=>?_) fun h4 h4p h4s=>?_
   try simp only[Q,Pat.cs_len] at h4p
   exfalso;omega
   try simp only[Q,Pat.cs_len] at h4p
   refine bu [0,1] [_,_] st28 ?_
   refine ab 3008 tz28 ?_
   refine so ty28 ?_
   refine tv ?_
   refine CWp.tokB 3008 5 9 6 rfl rfl rfl rfl ?_
   refine CWp.loopX (ι:=Nat×List Pat) hk (fun x=>[(9,.d (.i (x.1:Int)))]) [5,10,11,58,59,60,61,62,63,64,65,66,67,68,69,70,71,72,73,74,75,76,77,78,79,80,81,82,83,84,85,86,87] (fun x=>[(3008,some (.box [.d (.i 4),.d (.i a.ctor),.d (.i 0),.d (.i 0),.d (.i 0),.gl 9 (x.2.map Pat.cc)])),(9,some (.tok (x.2.map Pat.cc).length 6))]) (fun x=>x.1≤a.kids.length∧x.2.length=x.1∧zbQ (zaD n) (a.kids.drop x.1) (b.kids.drop x.1) x.2=zbQ (zaD n) a.kids b.kids []) (fun x=>a.kids.length-x.1) (0,[]) ⟨by simp,rfl,rfl⟩ ⟨⟨_,rfl,LeA.eqi ?_⟩,trivial⟩ ⟨?_,⟨zab ?_,trivial⟩⟩ (fun x=>rfl) (fun x hg1=>?_)
   focus (first|rfl|(simp;done)|(simp_all;done)|omega|(simp;omega))
   focus (first|rfl|(simp[getH];done))
   focus (first|rfl|(simp;done)|(simp_all;done)|omega|(simp;omega))
   refine evc [] [] ?_
   refine sq (fun h5 h5p h5s=>?_) fun h5 h5p h5s=>?_
   try simp only[Q,Pat.cs_len] at h5p
   refine Walk.idx sl26 .none rfl rfl rfl rfl (zaI (by omega)) rfl ?_
   refine evd [] [] ?_
   refine Walk.idx sl26 .none rfl rfl rfl rfl (zaI (by omega)) rfl ?_
   refine evd [] [] ?_
   refine wc ztR (ih x.1 (by omega)) rfl rfl ?_
   refine evd [] [] ?_
   refine ab 3010 tz28 ?_
   refine so ty28 ?_
   refine evd [] [] ?_
   refine dr ?_
   refine sq (fun h6 h6p h6s=>?_) fun h6 h6p h6s=>?_
   try simp only[Q,Pat.cs_len] at h6p
   refine bu [] [] st28 ?_
   refine so ty28 ?_
   refine ev ?_
   refine rn0 (.cons (.cellA ty28 rfl rfl rfl) (.cons (.tmp rfl) .nil)) (.tup (.cons (.agg (.cons (.eqd ?_) (.cons (.eqd ?_) (.cons (.eqd ?_) (.cons (.eqd ?_) (.cons (.eqd ?_) (.cons (.nild ?_) .nil))))))) (.cons (.eqd ?_) .nil)))
   rotate_left 7
   try simp only[Q,Pat.cs_len] at h6p
   refine si [0] [_] sl26 tz28 ?_
   refine ap sl26 zz28 rfl rfl rfl (by intro x hx;first|(simp at hx;subst hx;rfl)|exact zbD _ x hx) (by simp;omega) ?_
   refine ev ?_
   refine so ty26 ?_
   refine tv ?_
   refine ar ?_
   refine Exists.intro ((x.1+1,x.2++[zdJ n (nth a.kids x.1) (nth b.kids x.1)])) ⟨⟨by dsimp only;omega,by dsimp only;rw[List.length_append,hg1.2.1];rfl,by dsimp only;rw[←key x.1 x.2 (by omega) (by assumption)];exact hg1.2.2⟩,(by dsimp only;omega),sx ⟨⟨_,rfl,LeA.eqi ?_⟩,trivial⟩ ⟨?_,⟨zab ?_,trivial⟩⟩⟩
   focus (first|rfl|(simp;done)|(simp_all;done)|omega|(simp;omega))
   focus (first|rfl|(simp[getH];done))
   focus (first|rfl|(simp;done)|(simp_all;done)|omega|(simp;omega))
   try simp only[Q,Pat.cs_len] at h5p
   refine so ty28 ?_
   refine ev ?_
   refine rn0 (.cons (.cellA ty28 rfl rfl rfl) (.cons (.tmp rfl) .nil)) (.tup (.cons (.agg (.cons (.eqd ?_) (.cons (.eqd ?_) (.cons (.eqd ?_) (.cons (.eqd ?_) (.cons (.eqd ?_) (.cons (.gld ?_) .nil))))))) (.cons (.eqd ?_) .nil)))
   rotate_left 7
   all_goals (first|(have e2:zaD (n+1) a b=none:=(by rw[e,←hg1.2.2,zlW (by omega) (by omega) (zm2 (by assumption))];rfl);(first|rw[zfc e2]|rw[e2]);all_goals rfl)|(have e2:zaD (n+1) a b=some (zbg a.ctor x.2):=(by rw[e,←hg1.2.2,zeT (by omega)];rfl);rw[zcD e2,Pat.cs_cd];all_goals rfl)|(have e2:zaD (n+1) a b=some (zbg a.ctor x.2):=(by rw[e,←hg1.2.2,zeT (by omega)];rfl);rw[zcD e2];all_goals rfl)|(have e2:zaD (n+1) a b=some (zbg a.ctor x.2):=(by rw[e,←hg1.2.2,zeT (by omega)];rfl);rw[e2];all_goals rfl))
  ·skip
   have e:=zgJ (n:=n) h4 h2 hc
   rw[ez,zfc e,e]
   refine bd Tryz.f67 89 [] [] fun w0 F0 own kept hk=>?_
   refine bx 3002 ?_
   refine bx 3003 ?_
   refine ab 3004 tz28 ?_
   refine ev ?_
   refine sq (fun h1 h1p h1s=>?_) fun h1 h1p h1s=>?_
   try simp only[Q] at h1p
   exfalso;omega
   try simp only[Q] at h1p
   refine sq (fun h2 h2p h2s=>?_) fun h2 h2p h2s=>?_
   try simp only[Q] at h2p
   exfalso;omega
   try simp only[Q] at h2p
   refine sq (fun h3 h3p h3s=>?_) fun h3 h3p h3s=>?_
   try simp only[Q] at h3p
   exfalso;omega
   try simp only[Q] at h3p
   refine sq (fun h4 h4p h4s=>?_) fun h4 h4p h4s=>?_
   try simp only[Q] at h4p
   refine bu [] [] st28 ?_
   refine so ty28 ?_
   refine ev ?_
   refine rn0 (.cons (.cellA ty28 rfl rfl rfl) (.cons (.tmp rfl) .nil)) (.tup (.cons (.agg (.cons (.eqd ?_) (.cons (.eqd ?_) (.cons (.eqd ?_) (.cons (.eqd ?_) (.cons (.eqd ?_) (.cons (.nild ?_) .nil))))))) (.cons (.eqd ?_) .nil)))
   rotate_left 7
   try simp only[Q] at h4p
   exfalso;omega
   all_goals (rfl)
theorem zpw {f:Ty→Pat→Pat→List Pat}{c:Int}{ts:List Ty}{xs bs front:List Pat}{i:Nat} (h1:i<ts.length) (h2:i<xs.length) (h3:i<bs.length) (h:(zaD 11 (nth xs i) (nth bs i)).isSome=true):
  zaK f c (ts.drop i) (xs.drop i) (bs.drop i) front=(f (nth ts i) (nth xs i) (nth bs i)).map (fun z=>zbg c (front++[z]++xs.drop (i+1)))++zaK f c (ts.drop (i+1)) (xs.drop (i+1)) (bs.drop (i+1)) (front++[zdJ 11 (nth xs i) (nth bs i)]):=by
 rw[zpq h];exact zky h1 h2 h3 h
theorem zii (c:Int) (L:List Pat):Pat.cc (zbg c L)=[D.i 4,D.i c,D.i 0,D.i 0,D.i 0,D.sl (L.map Pat.cc)]:=by
 show [D.i 4,D.i c,D.i 0,D.i 0,D.i 0,D.sl (Pat.cs L)]=_
 rw[Pat.cs_cd]
section
variable {w:List Data}
abbrev MinusSp (w:List Data) (n:Nat) (ta tk:Int) (a b:Pat):Prop:=
 FnD Tryz.prog 100 [.d (zan w),.agg [.d (.i ta),.d (.i tk)],.agg [.d (.i (a).op),.d (.i (a).ctor),.d (.i (a).n),.d (.i (a).m),.d (.i (a).var),.d (zac (a).kids)],.agg [.d (.i (b).op),.d (.i (b).ctor),.d (.i (b).n),.d (.i (b).m),.d (.i (b).var),.d (zac (b).kids)]] [] (.d (zac (zaq w n ⟨ta,tk⟩ a b))) []
theorem znj (hs:Spa w){n m:Nat} (hn:n+1≤10) (hm:m+1≤11) (hnm:n<m)
  (ih:∀ {ta tk:Int}{a b:Pat},InS (w.length*4) ⟨ta,tk⟩→zad w m ⟨ta,tk⟩ a=true→zad w n ⟨ta,tk⟩ b=true→MinusSp w n ta tk a b)
  {ta tk:Int}{a b:Pat} (ht:InS (w.length*4) ⟨ta,tk⟩) (ha:zad w (m+1) ⟨ta,tk⟩ a=true) (hb:zad w (n+1) ⟨ta,tk⟩ b=true) (h4:a.op=4) (h4b:b.op=4) (hc:a.ctor=b.ctor):
  FnD Tryz.prog 157 [.d (zan w),.agg [.d (.i ta),.d (.i tk)],.agg [.d (.i (a).op),.d (.i (a).ctor),.d (.i (a).n),.d (.i (a).m),.d (.i (a).var),.d (zac (a).kids)],.agg [.d (.i (b).op),.d (.i (b).ctor),.d (.i (b).n),.d (.i (b).m),.d (.i (b).var),.d (zac (b).kids)]] [] (.d (zac (zaq w (n+1) ⟨ta,tk⟩ a b))) []:=by
 obtain⟨c1,c2,c3,-⟩:=zaA ha h4
 obtain⟨d1,d2,d3,-⟩:=zaA hb h4b
 rw[←hc] at d3
 have h3l:=hs.args ⟨ta,tk⟩ a.ctor ht c1
 have ka:=fun i (hi:i<a.kids.length)=>zaP ha hi
 have kb:=fun i (hi:i<b.kids.length)=>zaP hb hi
 rw[zbc h4] at ka
 rw[zbc h4b,←hc] at kb
 have hbd:=zfB hs (n:=n+1) (m:=m+1) (by omega) hn ht ha hb
 have e:zaq w (n+1) ⟨ta,tk⟩ a b=zaK (zaq w n) a.ctor (zaa w ⟨ta,tk⟩ a.ctor) a.kids b.kids []:=by rw[zcX h4b h4];exact if_pos hc
 have hins:=fun i (hi:i<(zaa w ⟨ta,tk⟩ a.ctor).length)=>zby hs.dp ht c1 _ (zag hi)
 have hmi:∀i,i<(zaa w ⟨ta,tk⟩ a.ctor).length→FnD Tryz.prog 100 [.d (zan w),.agg [.d (.i (nth (zaa w ⟨ta,tk⟩ a.ctor) i).data),.d (.i (nth (zaa w ⟨ta,tk⟩ a.ctor) i).index)],.agg [.d (.i (nth a.kids i).op),.d (.i (nth a.kids i).ctor),.d (.i (nth a.kids i).n),.d (.i (nth a.kids i).m),.d (.i (nth a.kids i).var),.d (zac (nth a.kids i).kids)],.agg [.d (.i (nth b.kids i).op),.d (.i (nth b.kids i).ctor),.d (.i (nth b.kids i).n),.d (.i (nth b.kids i).m),.d (.i (nth b.kids i).var),.d (zac (nth b.kids i).kids)]] [] (.d (zac (zaq w n (nth (zaa w ⟨ta,tk⟩ a.ctor) i) (nth a.kids i) (nth b.kids i)))) []:=fun i hi=>ih (ta:=(nth (zaa w ⟨ta,tk⟩ a.ctor) i).data) (tk:=(nth (zaa w ⟨ta,tk⟩ a.ctor) i).index) (hins i hi) (ka i (by omega)) (kb i (by omega))
 have hme:=fun i (hi:i<(zaa w ⟨ta,tk⟩ a.ctor).length)=>zia hs 11 m (t:=nth (zaa w ⟨ta,tk⟩ a.ctor) i) (by omega) (hins i hi) (ka i (by omega)) (zdd (by omega) (kb i (by omega)))
 rw[e] at hbd ⊢
 have hT:∀i out front,i<(zaa w ⟨ta,tk⟩ a.ctor).length→out++zaK (zaq w n) a.ctor ((zaa w ⟨ta,tk⟩ a.ctor).drop i) (a.kids.drop i) (b.kids.drop i) front=zaK (zaq w n) a.ctor (zaa w ⟨ta,tk⟩ a.ctor) a.kids b.kids []→
   out.length+(zaq w n (nth (zaa w ⟨ta,tk⟩ a.ctor) i) (nth a.kids i) (nth b.kids i)).length≤20000000:=fun i out front hi h=>by
  rw[zhn hi (by omega) (by omega)] at h
  have:=congrArg List.length h
  simp only[List.length_append,List.length_map] at this
  omega
 refine bd Tryz.f157 100 [] [] fun w0 F0 own kept hk=>?_
 refine bx 3005 ?_
 refine bx 3006 ?_
 refine bx 3007 ?_
 refine ev ?_
 refine Walk.sliceEmptyG 9 sl26 .none rfl rfl ?_
 refine ev ?_
 refine wc zfS (zcs hs.dp.wt (zcc ht) c1) rfl rfl ?_
 refine ev ?_
 refine Walk.sliceEmptyG 8 sl26 .none rfl rfl ?_
 refine ev ?_
 refine CWp.loopX (ι:=Nat×List Pat×List Pat) hk (fun s=>[(12,.d (.i (s.1:Int))),(9,.gl 9 (s.2.1.map Pat.cc)),(11,.gl 8 (s.2.2.map Pat.cc))]) [8,13,14,15,16,17,25,26,27,28,29,30,31,32,33,34,35,36,37,38,39,40,41,42,43,44,45,46,47,48,49,50,51,52,53,54,55,56,57,58,59,60,61,62,63,64,65,66,67,68,69,70,71,72,73,74,75,76,77,78,79,80,81,82,83,84,85,86,87,88,89,90,91,92,93,94,95,96,97,98] (fun s=>[(9,some (.tok ((s.2.1.map Pat.cc)).length 6)),(8,some (.tok ((s.2.2.map Pat.cc)).length 6))]) (fun s=>s.1≤a.kids.length∧s.2.2.length=s.1∧s.2.1++zaK (zaq w n) a.ctor ((zaa w ⟨ta,tk⟩ a.ctor).drop s.1) (a.kids.drop s.1) (b.kids.drop s.1) s.2.2=zaK (zaq w n) a.ctor (zaa w ⟨ta,tk⟩ a.ctor) a.kids b.kids []) (fun s=>a.kids.length-s.1) (0,[],[]) ⟨by simp,rfl,rfl⟩ ⟨⟨_,rfl,LeA.eqi ?_⟩,⟨⟨_,rfl,LeA.glg ?_⟩,⟨⟨_,rfl,LeA.glg ?_⟩,trivial⟩⟩⟩ ⟨zab ?_,⟨zab ?_,trivial⟩⟩ (fun x=>rfl) (fun s hg1=>?_)
 iterate 5 focus (first|rfl|(simp;done)|(simp_all;done)|omega|(simp;omega))
 refine evc [] [] ?_
 refine sq (fun h1 h1p h1s=>?_) fun h1 h1p h1s=>?_
 try simp only[Q,Pat.cs_len] at h1p
 refine Walk.idx za8 .none rfl rfl rfl rfl (zau (by omega)) rfl ?_
 refine evd [] [] ?_
 refine Walk.idx sl26 .none rfl rfl rfl rfl (zaI (by omega)) rfl ?_
 refine evd [] [] ?_
 refine Walk.idx sl26 .none rfl rfl rfl rfl (zaI (by omega)) rfl ?_
 refine evd [] [] ?_
 refine wc zoQ (hmi s.1 (by omega)) rfl rfl ?_
 refine evd [] [] ?_
 refine dr ?_
 refine CWp.loopX (ι:=List (Pat)×List (Pat)) hk (fun x=>[(14,.d (.i (x.1.length:Int))),(9,.gl 9 ((s.2.1++x.1.map (fun z=>zbg a.ctor (s.2.2++[z]++a.kids.drop (s.1+1)))).map Pat.cc))]) [15,47,48,49,50,51,52,53,54,55,56,57,58,59,60,61,62,63,64,65,66,67,68,69,70,71,72,73,74,75,76,77] (fun x=>[(9,some (.tok (((s.2.1++x.1.map (fun z=>zbg a.ctor (s.2.2++[z]++a.kids.drop (s.1+1)))).map Pat.cc)).length 6))]) (fun x=>x.1++x.2=(zaq w n (nth (zaa w ⟨ta,tk⟩ a.ctor) s.1) (nth a.kids s.1) (nth b.kids s.1))) (fun x=>x.2.length) ([],(zaq w n (nth (zaa w ⟨ta,tk⟩ a.ctor) s.1) (nth a.kids s.1) (nth b.kids s.1))) (by simp) ⟨⟨_,rfl,LeA.eqi ?_⟩,⟨⟨_,rfl,LeA.glg ?_⟩,trivial⟩⟩ ⟨zab ?_,trivial⟩ (fun x=>rfl) (fun x hg2=>?_)
 iterate 3 focus (first|rfl|(simp;done)|(simp only[List.map_append,List.append_assoc,List.map_cons,List.map_nil,zii,Pat.cs_cd a.kids,List.map_drop,List.nil_append,List.cons_append];done)|(simp only[List.map_append,List.append_assoc,List.map_cons,List.map_nil,zii,Pat.cs_cd a.kids,List.map_drop,List.nil_append,List.cons_append];rfl)|(rw[List.append_nil] at hg2;rw[hg2];done)|omega|(simp;omega))
 obtain⟨pre,rest⟩:=x
 dsimp only at hg2 ⊢
 refine evc [] [] ?_
 refine sq (fun h2 h2p h2s=>?_) fun h2 h2p h2s=>?_
 try simp only[Q,Pat.cs_len] at h2p
 rcases rest with _|⟨y,rest⟩
 ·exfalso;simp_all
 refine Walk.sliceEmptyG 7 sl26 .none rfl rfl ?_
 refine evd [] [] ?_
 refine ap sl26 zz28 rfl rfl rfl (by intro x hx;first|(simp at hx;subst hx;rfl)|exact zbD _ x hx|exact za5 _ x hx|exact za5 _ x (List.mem_of_mem_drop hx)) (by first|(have h9:=hT s.1 s.2.1 s.2.2 (by omega) hg1.2.2;have h8:=congrArg List.length hg2;simp[Pat.cs_len] at h8 ⊢;omega)|(simp[Pat.cs_len];omega)) ?_
 refine evd [] [] ?_
 refine Walk.idx sl26 .none rfl rfl rfl rfl (Pat.cs_at' hg2) rfl ?_
 refine evd [] [] ?_
 refine si [0] [_] sl26 tz28 ?_
 refine ap sl26 zz28 rfl rfl rfl (by intro x hx;first|(simp at hx;subst hx;rfl)|exact zbD _ x hx|exact za5 _ x hx|exact za5 _ x (List.mem_of_mem_drop hx)) (by first|(have h9:=hT s.1 s.2.1 s.2.2 (by omega) hg1.2.2;have h8:=congrArg List.length hg2;simp[Pat.cs_len] at h8 ⊢;omega)|(simp[Pat.cs_len];omega)) ?_
 refine bu [0,1,5] [_,_,_] st28 ?_
 refine ab 3015 tz28 ?_
 refine so ty28 ?_
 refine dr ?_
 refine ar ?_ (by first|(constructor<;>omega)|(have h9:=hT s.1 s.2.1 s.2.2 (by omega) hg1.2.2;have h8:=congrArg List.length hg2;simp only[List.length_append,List.length_cons] at h8;constructor<;>omega))
 refine Walk.cut_l (b:=s.1+1) sl26 .none rfl rfl rfl (by intro x hx;first|(simp at hx;subst hx;rfl)|exact zbD _ x hx|exact za5 _ x hx|exact za5 _ x (List.mem_of_mem_drop hx)) rfl rfl (by simp only[Pat.cs_len];omega) ?_
 refine ap sl26 zz28 rfl rfl rfl (by intro x hx;first|(simp at hx;subst hx;rfl)|exact zbD _ x hx|exact za5 _ x hx|exact za5 _ x (List.mem_of_mem_drop hx)) (by first|(have h9:=hT s.1 s.2.1 s.2.2 (by omega) hg1.2.2;have h8:=congrArg List.length hg2;simp[Pat.cs_len] at h8 ⊢;omega)|(simp[Pat.cs_len];omega)) ?_
 refine evd [] [] ?_
 refine so ty26 ?_
 refine dr ?_
 refine si [0] [_] sl26 tz28 ?_
 refine ap sl26 zz28 rfl rfl rfl (by intro x hx;first|(simp at hx;subst hx;rfl)|exact zbD _ x hx|exact za5 _ x hx|exact za5 _ x (List.mem_of_mem_drop hx)) (by first|(have h9:=hT s.1 s.2.1 s.2.2 (by omega) hg1.2.2;have h8:=congrArg List.length hg2;simp[Pat.cs_len] at h8 ⊢;omega)|(simp[Pat.cs_len];omega)) ?_
 refine ev ?_
 refine ar ?_ (by first|(constructor<;>omega)|(have h9:=hT s.1 s.2.1 s.2.2 (by omega) hg1.2.2;have h8:=congrArg List.length hg2;simp only[List.length_append,List.length_cons] at h8;constructor<;>omega))
 refine Exists.intro ((pre++[y],rest)) ⟨(by have hz:=hg2;rw[←hz];simp),(by simp),sx ⟨⟨_,rfl,LeA.eqi ?_⟩,⟨⟨_,rfl,LeA.glg ?_⟩,trivial⟩⟩ ⟨zab ?_,trivial⟩⟩
 iterate 3 focus (first|rfl|(simp;done)|(simp only[List.map_append,List.append_assoc,List.map_cons,List.map_nil,zii,Pat.cs_cd a.kids,List.map_drop,List.nil_append,List.cons_append];done)|(simp only[List.map_append,List.append_assoc,List.map_cons,List.map_nil,zii,Pat.cs_cd a.kids,List.map_drop,List.nil_append,List.cons_append];rfl)|(rw[List.append_nil] at hg2;rw[hg2];done)|omega|(simp;omega))
 try simp only[Q,Pat.cs_len] at h2p
 have hrest:rest=[]:=by
  rcases rest with _|⟨a,b⟩
  ·rfl
  ·exfalso;have hz:=congrArg List.length (hg2);simp only[List.length_append,List.length_cons,List.length_map] at hz;omega
 subst hrest
 refine Walk.idx sl26 .none rfl rfl rfl rfl (zaI (by omega)) rfl ?_
 refine evd [] [] ?_
 refine Walk.idx sl26 .none rfl rfl rfl rfl (zaI (by omega)) rfl ?_
 refine evd [] [] ?_
 refine wc ztR (hme s.1 (by omega)) rfl rfl ?_
 refine evd [] [] ?_
 refine ab 3016 tz28 ?_
 refine so ty28 ?_
 refine evd [] [] ?_
 refine dr ?_
 refine sq (fun h3 h3p h3s=>?_) fun h3 h3p h3s=>?_
 try simp only[Q,Pat.cs_len] at h3p
 refine rn0 (r1 rfl) (.gld ?_)
 rotate_left
 try simp only[Q,Pat.cs_len] at h3p
 refine si [0] [_] sl26 tz28 ?_
 refine ap sl26 zz28 rfl rfl rfl (by intro x hx;first|(simp at hx;subst hx;rfl)|exact zbD _ x hx|exact za5 _ x hx|exact za5 _ x (List.mem_of_mem_drop hx)) (by first|(have h9:=hT s.1 s.2.1 s.2.2 (by omega) hg1.2.2;have h8:=congrArg List.length hg2;simp[Pat.cs_len] at h8 ⊢;omega)|(simp[Pat.cs_len];omega)) ?_
 refine ev ?_
 refine ar ?_ (by first|(constructor<;>omega)|(have h9:=hT s.1 s.2.1 s.2.2 (by omega) hg1.2.2;have h8:=congrArg List.length hg2;simp only[List.length_append,List.length_cons] at h8;constructor<;>omega))
 refine Exists.intro ((s.1+1,s.2.1++(zaq w n (nth (zaa w ⟨ta,tk⟩ a.ctor) s.1) (nth a.kids s.1) (nth b.kids s.1)).map (fun z=>zbg a.ctor (s.2.2++[z]++a.kids.drop (s.1+1))),s.2.2++[zdJ 11 (nth a.kids s.1) (nth b.kids s.1)])) ⟨⟨by dsimp only;omega,by dsimp only;rw[List.length_append,hg1.2.1];rfl,by dsimp only;rw[List.append_assoc,←zpw (by omega) (by omega) (by omega) (by assumption)];exact hg1.2.2⟩,(by dsimp only;omega),sx ⟨⟨_,rfl,LeA.eqi ?_⟩,⟨⟨_,rfl,LeA.glg ?_⟩,⟨⟨_,rfl,LeA.glg ?_⟩,trivial⟩⟩⟩ ⟨zab ?_,⟨zab ?_,trivial⟩⟩⟩
 iterate 5 focus (first|rfl|(simp;done)|(simp_all;done)|omega|(simp;omega))
 try simp only[Q,Pat.cs_len] at h1p
 refine rn0 (r1 rfl) (.gld ?_)
 rotate_left
 all_goals (first|rfl|(rw[←hg1.2.2,zl1 (by omega),List.append_nil,Pat.cs_cd];done)|(rw[List.append_nil] at hg2;rw[←hg1.2.2,zkw (by omega) (by omega) (by omega) (by assumption),←hg2,Pat.cs_cd];all_goals rfl))
theorem zpU {n:Nat}{ta tk:Int}{a b:Pat} (h:b.op=1):MinusSp w (n+1) ta tk a b:=by
 unfold MinusSp
 rw[zek h]
 refine bd Tryz.f100 82 [] [] fun w0 F0 own kept hk=>?_
 refine bx 3005 ?_
 refine bx 3006 ?_
 refine bx 3007 ?_
 refine ev ?_
 refine sq (fun h1 h1p h1s=>?_) fun h1 h1p h1s=>?_
 try simp only[Q] at h1p
 refine Walk.sliceEmpty sl26 .none rfl ?_
 refine ev ?_
 refine rn0 (r1 rfl) (.eqd ?_)
 rotate_left
 try simp only[Q] at h1p
 exfalso;omega
 all_goals (rfl)
theorem zpV {n:Nat}{ta tk:Int}{a b:Pat} (h:b.op=3) (ha:a.op=1∨a.op=3) (hbn:0≤b.n∧b.n≤9) (hbm:0≤b.m∧b.m≤9):MinusSp w (n+1) ta tk a b:=by
 unfold MinusSp
 rw[zgK h]
 by_cases h1:a.op=1
 ·have e:zdS a b=zbS 0 (minQ 9 (b.n-1))++zbS (maxQ 0 (b.m+1)) 9:=by
   have e1:lowQ a=0:=if_pos h1
   have e2:zcu a=9:=if_pos h1
   unfold zdS;rw[e1,e2]
  have hr:=zg8 (a:=intQ 0 9) hbn hbm
  rw[e]
  refine bd Tryz.f100 82 [] [] fun w0 F0 own kept hk=>?_
  refine bx 3005 ?_
  refine bx 3006 ?_
  refine bx 3007 ?_
  refine ev ?_
  refine sq (fun h1 h1p h1s=>?_) fun h1 h1p h1s=>?_
  try simp only[Q] at h1p
  exfalso;omega
  try simp only[Q] at h1p
  refine sq (fun h2 h2p h2s=>?_) fun h2 h2p h2s=>?_
  try simp only[Q] at h2p
  refine sq (fun h3 h3p h3s=>?_) fun h3 h3p h3s=>?_
  try simp only[Q] at h3p
  refine bu [0,3] [_,_] st28 ?_
  refine ev ?_
  refine Walk.call (cr:=[]) zr1 (hr) rfl .none rfl rfl (.cons (.agg (.cons (.refl _) (.cons (.refl _) (.cons (.refl _) (.cons (.refl _) (.cons (.refl _) (.cons .nil .nil))))))) (.cons (.refl _) .nil)) trivial rfl rfl rfl ?_
  refine ev ?_
  focus (refine rn0 (r1 rfl) (.eqd ?_);all_goals (first|rfl|(simp[h1s,h1p,h2s,h2p,h3s,h3p];done)|(simp_all;done)|(simp_all;omega)|omega))
  try simp only[Q] at h3p
  focus (exfalso;first|omega|(simp_all;done))
  try simp only[Q] at h2p
  exfalso;omega
 ·have e:zdS a b=zbS a.n (minQ a.m (b.n-1))++zbS (maxQ a.n (b.m+1)) a.m:=by
   have e1:lowQ a=a.n:=if_neg h1
   have e2:zcu a=a.m:=if_neg h1
   unfold zdS;rw[e1,e2]
  have hr:=zg8 (a:=a) hbn hbm
  rw[e]
  refine bd Tryz.f100 82 [] [] fun w0 F0 own kept hk=>?_
  refine bx 3005 ?_
  refine bx 3006 ?_
  refine bx 3007 ?_
  refine ev ?_
  refine sq (fun h1 h1p h1s=>?_) fun h1 h1p h1s=>?_
  try simp only[Q] at h1p
  exfalso;omega
  try simp only[Q] at h1p
  refine sq (fun h2 h2p h2s=>?_) fun h2 h2p h2s=>?_
  try simp only[Q] at h2p
  refine sq (fun h3 h3p h3s=>?_) fun h3 h3p h3s=>?_
  try simp only[Q] at h3p
  focus (exfalso;first|omega|(simp_all;done))
  try simp only[Q] at h3p
  refine sq (fun h4 h4p h4s=>?_) fun h4 h4p h4s=>?_
  try simp only[Q] at h4p
  refine wc zr1 (hr) rfl rfl ?_
  refine ev ?_
  focus (refine rn0 (r1 rfl) (.eqd ?_);all_goals (first|rfl|(simp[h1s,h1p,h2s,h2p,h3s,h3p,h4s,h4p];done)|(simp_all;done)|(simp_all;omega)|omega))
  try simp only[Q] at h4p
  exfalso;omega
  try simp only[Q] at h2p
  exfalso;omega
theorem zpY {n:Nat}{ta tk:Int}{a b:Pat} (h4:a.op=4) (h4b:b.op=4) (hc:¬a.ctor=b.ctor):MinusSp w (n+1) ta tk a b:=by
 unfold MinusSp
 have e:zaq w (n+1) ⟨ta,tk⟩ a b=[a]:=by rw[zcX h4b h4];exact if_neg hc
 rw[e]
 refine bd Tryz.f100 82 [] [] fun w0 F0 own kept hk=>?_
 refine bx 3005 ?_
 refine bx 3006 ?_
 refine bx 3007 ?_
 refine ev ?_
 refine sq (fun h1 h1p h1s=>?_) fun h1 h1p h1s=>?_
 try simp only[Q] at h1p
 exfalso;omega
 try simp only[Q] at h1p
 refine sq (fun h2 h2p h2s=>?_) fun h2 h2p h2s=>?_
 try simp only[Q] at h2p
 exfalso;omega
 try simp only[Q] at h2p
 refine sqF ?_
 refine sq (fun h4 h4p h4s=>?_) fun h4 h4p h4s=>?_
 try simp only[Q] at h4p
 exfalso;omega
 try simp only[Q] at h4p
 refine sq (fun h5 h5p h5s=>?_) fun h5 h5p h5s=>?_
 try simp only[Q] at h5p
 refine sq (fun h6 h6p h6s=>?_) fun h6 h6p h6s=>?_
 try simp only[Q] at h6p
 refine si [0] [_] sl26 tz28 ?_
 refine ev ?_
 refine rn0 (r1 rfl) (.eqd ?_)
 rotate_left
 try simp only[Q] at h6p
 focus (exfalso;first|omega|(simp_all;done))
 try simp only[Q] at h5p
 exfalso;omega
 all_goals (first|rfl|(cases a;rfl))
theorem zpX (hs:Spa w){n m:Nat} (hn:n+1≤10) (hm:m+1≤11) (hnm:n<m)
  (ih:∀ {ta tk:Int}{a b:Pat},InS (w.length*4) ⟨ta,tk⟩→zad w m ⟨ta,tk⟩ a=true→zad w n ⟨ta,tk⟩ b=true→MinusSp w n ta tk a b)
  {ta tk:Int}{a b:Pat} (ht:InS (w.length*4) ⟨ta,tk⟩) (ha:zad w (m+1) ⟨ta,tk⟩ a=true) (hb:zad w (n+1) ⟨ta,tk⟩ b=true) (h4:a.op=4) (h4b:b.op=4) (hc:a.ctor=b.ctor):MinusSp w (n+1) ta tk a b:=by
 have hki:=znj hs hn hm hnm ih ht ha hb h4 h4b hc
 clear ih
 unfold MinusSp
 refine bd Tryz.f100 82 [] [] fun w0 F0 own kept hk=>?_
 refine bx 3005 ?_
 refine bx 3006 ?_
 refine bx 3007 ?_
 refine ev ?_
 refine sq (fun h1 h1p h1s=>?_) fun h1 h1p h1s=>?_
 try simp only[Q] at h1p
 exfalso;omega
 try simp only[Q] at h1p
 refine sq (fun h2 h2p h2s=>?_) fun h2 h2p h2s=>?_
 try simp only[Q] at h2p
 exfalso;omega
 try simp only[Q] at h2p
 refine sqF ?_
 refine sq (fun h4 h4p h4s=>?_) fun h4 h4p h4s=>?_
 try simp only[Q] at h4p
 exfalso;omega
 try simp only[Q] at h4p
 refine sq (fun h5 h5p h5s=>?_) fun h5 h5p h5s=>?_
 try simp only[Q] at h5p
 refine sq (fun h6 h6p h6s=>?_) fun h6 h6p h6s=>?_
 try simp only[Q] at h6p
 focus (exfalso;first|omega|(simp_all;done))
 try simp only[Q] at h6p
 refine sq (fun h7 h7p h7s=>?_) fun h7 h7p h7s=>?_
 try simp only[Q] at h7p
 refine wc zu5 (hki) rfl rfl ?_
 refine ev ?_
 focus (refine rn0 (r1 rfl) (.eqd ?_);all_goals (first|rfl|(simp[h1s,h1p,h2s,h2p,h4s,h4p,h5s,h5p,h6s,h6p,h7s,h7p];done)|(simp_all;done)|(simp_all;omega)|omega))
 try simp only[Q] at h7p
 exfalso;omega
 try simp only[Q] at h5p
 exfalso;omega
theorem zpW (hs:Spa w){n:Nat}{ta tk:Int}{a b:Pat} (ht:InS (w.length*4) ⟨ta,tk⟩) (h1:a.op=1) (h4b:b.op=4) (hbd:(zaq w (n+1) ⟨ta,tk⟩ a b).length≤20000000)
  (hC:∀c∈zah w ⟨ta,tk⟩,MinusSp w (n+1) ta tk (zbO w ⟨ta,tk⟩ c) b):MinusSp w (n+1) ta tk a b:=by
 have e:zaq w (n+1) ⟨ta,tk⟩ a b=(zah w ⟨ta,tk⟩).flatMap fun c=>zaq w (n+1) ⟨ta,tk⟩ (zbO w ⟨ta,tk⟩ c) b:=by
  rw[zfA h4b h1]
  exact congrArg (fun g=>(zah w ⟨ta,tk⟩).flatMap g) (funext fun c=>(zcX h4b rfl).symm)
 unfold MinusSp
 rw[e] at hbd ⊢
 have hcl:=(hs.ctors _ ht).1
 have hpre:∀ {pre rest:List Int}{y:Int},pre++y::rest=zah w ⟨ta,tk⟩→(pre.flatMap fun c=>zaq w (n+1) ⟨ta,tk⟩ (zbO w ⟨ta,tk⟩ c) b).length+(zaq w (n+1) ⟨ta,tk⟩ (zbO w ⟨ta,tk⟩ y) b).length≤20000000:=fun h=>by
  rw[←h,List.flatMap_append,List.flatMap_cons] at hbd
  simp only[List.length_append] at hbd
  omega
 have hmem:∀ {pre rest:List Int}{y:Int},pre++y::rest=zah w ⟨ta,tk⟩→y∈zah w ⟨ta,tk⟩:=fun h=>by rw[←h];simp
 refine bd Tryz.f100 82 [] [] fun w0 F0 own kept hk=>?_
 refine bx 3005 ?_
 refine bx 3006 ?_
 refine bx 3007 ?_
 refine ev ?_
 refine sq (fun h1 h1p h1s=>?_) fun h1 h1p h1s=>?_
 try simp only[Q,Pat.cs_len] at h1p
 exfalso;omega
 try simp only[Q,Pat.cs_len] at h1p
 refine sq (fun h2 h2p h2s=>?_) fun h2 h2p h2s=>?_
 try simp only[Q,Pat.cs_len] at h2p
 exfalso;omega
 try simp only[Q,Pat.cs_len] at h2p
 refine sqF ?_
 refine sq (fun h4 h4p h4s=>?_) fun h4 h4p h4s=>?_
 try simp only[Q,Pat.cs_len] at h4p
 exfalso;omega
 try simp only[Q,Pat.cs_len] at h4p
 refine sq (fun h5 h5p h5s=>?_) fun h5 h5p h5s=>?_
 try simp only[Q,Pat.cs_len] at h5p
 exfalso;omega
 try simp only[Q,Pat.cs_len] at h5p
 refine sqF ?_
 refine sq (fun h7 h7p h7s=>?_) fun h7 h7p h7s=>?_
 try simp only[Q,Pat.cs_len] at h7p
 exfalso;omega
 try simp only[Q,Pat.cs_len] at h7p
 refine Walk.sliceEmptyG 9 sl26 .none rfl rfl ?_
 refine ev ?_
 refine wc zhh (zcj hs.dp.wt (zcc ht)) rfl rfl ?_
 refine ev ?_
 refine CWp.loopX (ι:=List (Int)×List (Int)) hk (fun x=>[(11,.d (.i (x.1.length:Int))),(9,.gl 9 (Pat.cs (x.1.flatMap fun c=>zaq w (n+1) ⟨ta,tk⟩ (zbO w ⟨ta,tk⟩ c) b)))]) [62,63,64,65,66,67,68,69,70,71,72,73,74,75,76,77,78,79,80] (fun x=>[(9,some (.tok ((Pat.cs (x.1.flatMap fun c=>zaq w (n+1) ⟨ta,tk⟩ (zbO w ⟨ta,tk⟩ c) b))).length 6))]) (fun x=>x.1++x.2=zah w ⟨ta,tk⟩) (fun x=>x.2.length) ([],zah w ⟨ta,tk⟩) (by simp) ⟨⟨_,rfl,LeA.eqi ?_⟩,⟨⟨_,rfl,LeA.glg ?_⟩,trivial⟩⟩ ⟨zab ?_,trivial⟩ (fun x=>rfl) (fun x hg1=>?_)
 iterate 3 focus (first|rfl|(rw[List.flatMap_append,Pat.cs_cd,Pat.cs_cd,Pat.cs_cd,List.map_append];simp;done)|(simp[Pat.cs_len];done)|omega|(simp;omega))
 obtain⟨pre,rest⟩:=x
 dsimp only at hg1 ⊢
 refine evc [] [] ?_
 refine sq (fun h8 h8p h8s=>?_) fun h8 h8p h8s=>?_
 try simp only[Q,Pat.cs_len] at h8p
 rcases rest with _|⟨y,rest⟩
 ·exfalso;simp_all
 refine Walk.idx sl62 .none rfl rfl rfl rfl (zaN hg1) rfl ?_
 refine evd [] [] ?_
 refine wc zu6 (zop hs.dp.wt (zcc ht) (hmem hg1) (hs.args _ _ ht (hmem hg1))) rfl rfl ?_
 refine evd [] [] ?_
 refine wc zoQ (hC y (hmem hg1)) rfl rfl ?_
 refine ap sl26 zz28 rfl rfl rfl (by exact za5 _) (by have h9:=hpre hg1;simp only[Pat.cs_len];omega) ?_
 refine evd [] [] ?_
 refine dr ?_
 refine ar ?_
 refine Exists.intro ((pre++[y],rest)) ⟨(by have hz:=hg1;rw[←hz];simp),(by simp),sx ⟨⟨_,rfl,LeA.eqi ?_⟩,⟨⟨_,rfl,LeA.glg ?_⟩,trivial⟩⟩ ⟨zab ?_,trivial⟩⟩
 iterate 3 focus (first|rfl|(rw[List.flatMap_append,Pat.cs_cd,Pat.cs_cd,Pat.cs_cd,List.map_append];simp;done)|(simp[Pat.cs_len];done)|omega|(simp;omega))
 try simp only[Q,Pat.cs_len] at h8p
 have hrest:rest=[]:=by
  rcases rest with _|⟨a,b⟩
  ·rfl
  ·exfalso;have hz:=congrArg List.length (hg1);simp only[List.length_append,List.length_cons,List.length_map] at hz;omega
 subst hrest
 refine rn0 (r1 rfl) (.gld ?_)
 rotate_left
 all_goals (first|rfl|(rw[List.append_nil] at hg1;rw[hg1];done))
theorem zhw (hs:Spa w):∀(n m:Nat){ta tk:Int}{a b:Pat},n<m→n≤10→m≤11→InS (w.length*4) ⟨ta,tk⟩→zad w m ⟨ta,tk⟩ a=true→zad w n ⟨ta,tk⟩ b=true→MinusSp w n ta tk a b
 |0,m,ta,tk,a,b,_,_,_,_,_,hb=>by simp[zad] at hb
 |n+1,0,ta,tk,a,b,h,_,_,_,_,_=>by omega
 |n+1,m+1,ta,tk,a,b,h,hn,hm,ht,ha,hb=>by
  have hC:∀ {a:Pat},zad w (m+1) ⟨ta,tk⟩ a=true→a.op=4→b.op=4→MinusSp w (n+1) ta tk a b:=fun {a} ha h4 h4b=>by
   by_cases hc:a.ctor=b.ctor
   ·exact zpX hs hn hm (by omega) (fun h1 h2 h3=>zhw hs n m (by omega) (by omega) (by omega) h1 h2 h3) ht ha hb h4 h4b hc
   ·exact zpY h4 h4b hc
  rcases zbv hb with h1|h3|h4b
  ·exact zpU h1
  ·have:=zbI hb h3
   refine zpV h3 ?_ ⟨by omega,by omega⟩ ⟨by omega,by omega⟩
   by_cases h1:a.op=1
   ·exact .inl h1
   ·exact .inr (by have:=zde ha hb h1 (by omega);omega)
  ·by_cases h1:a.op=1
   ·obtain⟨m',rfl⟩:∃m',m=m'+1:=⟨m-1,by omega⟩
    exact zpW hs ht h1 h4b (zfB hs h hn ht ha hb) (fun c hc=>hC (zcF hc) rfl h4b)
   ·exact hC ha (by have:=zde ha hb h1 (by omega);omega) h4b
end
def zlS (w:List Data) (t:Ty) (b a:Pat):List Pat:=(zaq w 10 t a b).filter (zbn w t)
def zeF (w:List Data) (t:Ty) (l:List Pat) (b:Pat) (k:Nat):List Pat:=(l.take k).flatMap (zlS w t b)
theorem zl5 {w:List Data}{t:Ty}{l:List Pat}{b:Pat}:zbM w t l b=l.flatMap (zlS w t b):=by
 unfold zbM
 induction l with
 |nil=>rfl
 |cons x r ih=>rw[List.flatMap_cons,List.filter_append,List.flatMap_cons,ih];rfl
theorem zbb {w:List Data}{t:Ty}{l:List Pat}{b:Pat}{k:Nat} (h:l.length≤k):zeF w t l b k=zbM w t l b:=by
 rw[zl5,zeF,List.take_of_length_le h]
theorem zgm {w:List Data}{t:Ty}{l:List Pat}{b:Pat}{k:Nat} (h:k<l.length):zeF w t l b (k+1)=zeF w t l b k++zlS w t b (nth l k):=by
 unfold zeF
 have e:l[k]?=some (nth l k):=by simpa using zau (f:=id) h
 rw[List.take_add_one,e,List.flatMap_append]
 simp
theorem zto {w:List Data}{t:Ty}{l:List Pat}{b:Pat} (k:Nat):(zeF w t l b k).length≤(zbM w t l b).length:=by
 rw[zl5,zeF]
 conv=>rhs;rw[←List.take_append_drop k l,List.flatMap_append]
 rw[List.length_append];omega
theorem zhv {w:List Data} (hs:Spa w):∀(n:Nat){ta tk:Int}{p:Pat},InS (w.length*4) ⟨ta,tk⟩→zad w n ⟨ta,tk⟩ p=true→
  FnD Tryz.prog 155 [.d (zan w),.d (zey (w.length*4) (zai w)),.agg [.d (.i ta),.d (.i tk)],.agg [.d (.i (p).op),.d (.i (p).ctor),.d (.i (p).n),.d (.i (p).m),.d (.i (p).var),.d (zac (p).kids)]] [] (.d (.bool (!zaV w (zai w) n ⟨ta,tk⟩ p))) []
 |0,ta,tk,p,_,h=>by simp[zad] at h
 |n+1,ta,tk,p,ht,h=>by
  have hdp:=zd4 (f:=zai w) ht (by have:=hs.dp.four;omega)
  by_cases h1:p.op=1
  ·rw[zeO h1]
   refine bd Tryz.f155 45 [] [] fun w0 F0 own kept hk=>?_
   refine bx 3006 ?_
   refine bx 3007 ?_
   refine ev ?_
   refine sq (fun h1 h1p h1s=>?_) fun h1 h1p h1s=>?_
   try simp only[Q] at h1p
   refine wc zje (hdp) rfl rfl ?_
   refine ev ?_
   refine rn0 (r1 rfl) (.eqd ?_)
   rotate_left
   try simp only[Q] at h1p
   exfalso;omega
   all_goals (refine congrArg D.bool ?_;rw[Bool.eq_iff_iff];simp;omega)
  by_cases h3:p.op=3
  ·rw[zj5 h h3]
   refine bd Tryz.f155 45 [] [] fun w0 F0 own kept hk=>?_
   refine bx 3006 ?_
   refine bx 3007 ?_
   refine ev ?_
   refine sq (fun h1 h1p h1s=>?_) fun h1 h1p h1s=>?_
   try simp only[Q] at h1p
   exfalso;omega
   try simp only[Q] at h1p
   refine sq (fun h2 h2p h2s=>?_) fun h2 h2p h2s=>?_
   try simp only[Q] at h2p
   refine rn0 (r1 rfl) (.eqd ?_)
   rotate_left
   try simp only[Q] at h2p
   exfalso;omega
   all_goals (rfl)
  have h4:p.op=4:=by have:=zbv h;omega
  obtain⟨c1,c2,c3,-⟩:=zaA h h4
  have h3l:=hs.args ⟨ta,tk⟩ p.ctor ht c1
  have hk:=fun i (hi:i<p.kids.length)=>zaP h hi
  rw[zbc h4] at hk
  rw[zhR h4,Bool.not_not]
  have ih:=fun i (hi:i<p.kids.length)=>zhv hs n (ta:=(nth (zaa w ⟨ta,tk⟩ p.ctor) i).data) (tk:=(nth (zaa w ⟨ta,tk⟩ p.ctor) i).index) (p:=nth p.kids i) (zby hs.dp ht c1 _ (zag (by omega))) (hk i hi)
  refine bd Tryz.f155 45 [] [] fun w0 F0 own kept hk=>?_
  refine bx 3006 ?_
  refine bx 3007 ?_
  refine ev ?_
  refine sq (fun h1 h1p h1s=>?_) fun h1 h1p h1s=>?_
  try simp only[Q,Pat.cs_len] at h1p
  exfalso;omega
  try simp only[Q,Pat.cs_len] at h1p
  refine sq (fun h2 h2p h2s=>?_) fun h2 h2p h2s=>?_
  try simp only[Q,Pat.cs_len] at h2p
  exfalso;omega
  try simp only[Q,Pat.cs_len] at h2p
  refine wc zfS (zcs hs.dp.wt (zcc ht) c1) rfl rfl ?_
  refine ev ?_
  refine CWp.loopX (ι:=Nat) hk (fun i=>[(10,.d (.i (i:Int)))]) [8,26,27,28,29,30,31,32,33,34,35,36,37,38,39,40,41,42,43,44] (fun i=>[]) (fun i=>i≤(zaa w ⟨ta,tk⟩ p.ctor).length∧∀i',i'<i→(!zaV w (zai w) n (nth (zaa w ⟨ta,tk⟩ p.ctor) i') (nth p.kids i'))=true) (fun i=>(zaa w ⟨ta,tk⟩ p.ctor).length-i) 0 ⟨by omega,fun _ h=>absurd h (by omega)⟩ ⟨⟨_,rfl,LeA.eqi ?_⟩,trivial⟩ trivial (fun x=>rfl) (fun i hg1=>?_)
  focus (first|rfl|(simp;done)|(simp_all;done)|omega)
  refine evc [] [] ?_
  refine sq (fun h3 h3p h3s=>?_) fun h3 h3p h3s=>?_
  try simp only[Q,Pat.cs_len] at h3p
  refine Walk.idx za8 .none rfl rfl rfl rfl (zau (by omega)) rfl ?_
  refine evd [] [] ?_
  refine Walk.idx sl26 .none rfl rfl rfl rfl (zaI (by omega)) rfl ?_
  refine evd [] [] ?_
  refine wc zr0 (ih i (by omega)) rfl rfl ?_
  refine evd [] [] ?_
  refine dr ?_
  refine sq (fun h4 h4p h4s=>?_) fun h4 h4p h4s=>?_
  try simp only[Q,Pat.cs_len] at h4p
  refine rn0 (r1 rfl) (.eqd ?_)
  rotate_left
  try simp only[Q,Pat.cs_len] at h4p
  refine ar ?_
  refine Exists.intro (i+1) ⟨⟨by omega,zbk hg1.2 (by first|assumption|(simp;assumption)|(simp_all;done))⟩,(by omega),sx ⟨⟨_,rfl,LeA.eqi ?_⟩,trivial⟩ trivial⟩
  focus (first|rfl|(simp;done)|(simp_all;done)|omega)
  try simp only[Q,Pat.cs_len] at h3p
  refine rn0 (r1 rfl) (.eqd ?_)
  rotate_left
  all_goals (refine congrArg D.bool ?_;first|(rw[zcd (i:=i) (by omega) (by omega) (by first|assumption|(simp;assumption)|(simp_all;done))];done)|(rw[zcq (by omega) (fun x hx=>hg1.2 x (by omega))];done))
theorem zh9 {w:List Data} (hs:Spa w){ta tk:Int} (ht:InS (w.length*4) ⟨ta,tk⟩){l:List Pat} (hl:∀a∈l,zad w 11 ⟨ta,tk⟩ a=true) (hb:l.length≤20000000):
  FnD Tryz.prog 99 [.d (zan w),.d (zey (w.length*4) (zai w)),.agg [.d (.i ta),.d (.i tk)],.d (zac l)] [] (.d (zac (l.filter (zbn w ⟨ta,tk⟩)))) []:=by
 have hal:∀a∈l,FnD Tryz.prog 155 [.d (zan w),.d (zey (w.length*4) (zai w)),.agg [.d (.i ta),.d (.i tk)],.agg [.d (.i (a).op),.d (.i (a).ctor),.d (.i (a).n),.d (.i (a).m),.d (.i (a).var),.d (zac (a).kids)]] [] (.d (.bool (zbn w ⟨ta,tk⟩ a))) []:=fun a ha=>zhv hs 11 ht (hl a ha)
 have hle:∀ {pre rest:List Pat}{y:Pat},pre++y::rest=l→(pre.filter (zbn w ⟨ta,tk⟩)).length+1≤l.length:=fun {pre rest y} h=>by
  have h1:=List.length_filter_le (zbn w ⟨ta,tk⟩) pre
  have h2:=congrArg List.length h
  simp only[List.length_append,List.length_cons] at h2
  omega
 refine bd Tryz.f99 34 [] [] fun w0 F0 own kept hk=>?_
 refine bx 3006 ?_
 refine ev ?_
 refine Walk.sliceEmptyG 9 sl26 .none rfl rfl ?_
 refine ev ?_
 refine CWp.loopX (ι:=List (Pat)×List (Pat)) hk (fun x=>[(10,.d (.i (x.1.length:Int))),(9,.gl 9 (Pat.cs (x.1.filter (zbn w ⟨ta,tk⟩))))]) [12,13,14,15,16,17,18,19,20,21,22,23,24,25,26,27,28,29,30,31,32] (fun x=>[(9,some (.tok ((Pat.cs (x.1.filter (zbn w ⟨ta,tk⟩)))).length 6))]) (fun x=>x.1++x.2=l) (fun x=>x.2.length) ([],l) (by simp) ⟨⟨_,rfl,LeA.eqi ?_⟩,⟨⟨_,rfl,LeA.glg ?_⟩,trivial⟩⟩ ⟨zab ?_,trivial⟩ (fun x=>rfl) (fun x hg1=>?_)
 iterate 3 focus (first|rfl|(dsimp only;rw[List.filter_append,List.filter_cons_of_pos (by assumption),List.filter_nil,Pat.cs_cd (List.filter _ _),Pat.cs_cd (_++_),List.map_append];rfl)|(dsimp only;rw[List.filter_append,List.filter_cons_of_neg (by simp_all),List.filter_nil,List.append_nil];done)|(dsimp only;rw[List.filter_append,List.filter_cons_of_pos (by assumption),List.filter_nil];simp[Pat.cs_len];done)|(simp;done)|omega|(simp;omega))
 obtain⟨pre,rest⟩:=x
 dsimp only at hg1 ⊢
 refine evc [] [] ?_
 refine sq (fun h1 h1p h1s=>?_) fun h1 h1p h1s=>?_
 try simp only[Q,Pat.cs_len] at h1p
 rcases rest with _|⟨y,rest⟩
 ·exfalso;simp_all
 refine Walk.idx sl26 .none rfl rfl rfl rfl (Pat.cs_at' hg1) rfl ?_
 refine evd [] [] ?_
 refine wc zr0 (hal y (by rw[←hg1];simp)) rfl rfl ?_
 refine dr ?_
 refine sq (fun h2 h2p h2s=>?_) fun h2 h2p h2s=>?_
 try simp only[Q,Pat.cs_len] at h2p
 refine Walk.idx sl26 .none rfl rfl rfl rfl (Pat.cs_at' hg1) rfl ?_
 refine ev ?_
 refine si [0] [_] sl26 tz28 ?_
 refine ap sl26 zz28 rfl rfl rfl (by intro x hx;simp at hx;subst hx;rfl) (by have h9:=hle hg1;simp[Pat.cs_len];omega) ?_
 refine ev ?_
 refine ar ?_
 refine Exists.intro ((pre++[y],rest)) ⟨(by have hz:=hg1;rw[←hz];simp),(by simp),sx ⟨⟨_,rfl,LeA.eqi ?_⟩,⟨⟨_,rfl,LeA.glg ?_⟩,trivial⟩⟩ ⟨zab ?_,trivial⟩⟩
 iterate 3 focus (first|rfl|(dsimp only;rw[List.filter_append,List.filter_cons_of_pos (by assumption),List.filter_nil,Pat.cs_cd (List.filter _ _),Pat.cs_cd (_++_),List.map_append];rfl)|(dsimp only;rw[List.filter_append,List.filter_cons_of_neg (by simp_all),List.filter_nil,List.append_nil];done)|(dsimp only;rw[List.filter_append,List.filter_cons_of_pos (by assumption),List.filter_nil];simp[Pat.cs_len];done)|(simp;done)|omega|(simp;omega))
 try simp only[Q,Pat.cs_len] at h2p
 refine ar ?_
 refine Exists.intro ((pre++[y],rest)) ⟨(by have hz:=hg1;rw[←hz];simp),(by simp),sx ⟨⟨_,rfl,LeA.eqi ?_⟩,⟨⟨_,rfl,LeA.glg ?_⟩,trivial⟩⟩ ⟨zab ?_,trivial⟩⟩
 iterate 3 focus (first|rfl|(dsimp only;rw[List.filter_append,List.filter_cons_of_pos (by assumption),List.filter_nil,Pat.cs_cd (List.filter _ _),Pat.cs_cd (_++_),List.map_append];rfl)|(dsimp only;rw[List.filter_append,List.filter_cons_of_neg (by simp_all),List.filter_nil,List.append_nil];done)|(dsimp only;rw[List.filter_append,List.filter_cons_of_pos (by assumption),List.filter_nil];simp[Pat.cs_len];done)|(simp;done)|omega|(simp;omega))
 try simp only[Q,Pat.cs_len] at h1p
 have hrest:rest=[]:=by
  rcases rest with _|⟨a,b⟩
  ·rfl
  ·exfalso;have hz:=congrArg List.length (hg1);simp only[List.length_append,List.length_cons,List.length_map] at hz;omega
 subst hrest
 refine rn0 (r1 rfl) (.gld ?_)
 rotate_left
 all_goals (first|rfl|(rw[List.append_nil] at hg1;rw[hg1];done))
theorem zf2 {w:List Data} (hs:Spa w){ta tk:Int} (ht:InS (w.length*4) ⟨ta,tk⟩){l away:List Pat} (hl:∀a∈l,zad w 11 ⟨ta,tk⟩ a=true) (hb:∀b∈away,zad w 10 ⟨ta,tk⟩ b=true) (hll:l.length≤400) (hal:away.length≤2000):
  FnD Tryz.prog 54 [.d (zan w),.d (zey (w.length*4) (zai w)),.agg [.d (.i ta),.d (.i tk)],.d (zac l),.d (zac away)] [] (.tup [.d (zac ((zaE w ⟨ta,tk⟩ l away).getD [])),.d (.bool (zaE w ⟨ta,tk⟩ l away).isSome)]) []:=by
 have hke:=zsU hs ht hl hb
 have hmi:∀(c:List Pat) (i k:Nat),(∀a∈c,zad w 11 ⟨ta,tk⟩ a=true)→i<away.length→k<c.length→(zaq w 10 ⟨ta,tk⟩ (nth c k) (nth away i)).length≤20000000:=fun c i k hc hi hk=>zfB hs (by omega) (by omega) ht (hc _ (zag hk)) (hb _ (zag hi))
 have hkb:∀(c:List Pat) (i k:Nat),(∀a∈c,zad w 11 ⟨ta,tk⟩ a=true)→i<away.length→k<c.length→(zlS w ⟨ta,tk⟩ (nth away i) (nth c k)).length≤20000000:=fun c i k hc hi hk=>Nat.le_trans (List.length_filter_le _ _) (hmi c i k hc hi hk)
 rw[←hke]
 have hno:∀(c:List Pat) (i k:Nat),i<away.length→400<(zeF w ⟨ta,tk⟩ c (nth away i) k).length→subL w ⟨ta,tk⟩ c (away.drop i)=none:=fun c i k hi h=>by
  have:=zto (w:=w) (t:=⟨ta,tk⟩) (l:=c) (b:=nth away i) k
  rw[ze0 hi,if_neg (by omega)]
 refine bd Tryz.f54 60 [] [] fun w0 F0 own kept hk=>?_
 refine bx 3007 ?_
 refine ev ?_
 refine CWp.loopX (ι:=Nat×List Pat) hk (fun s=>[(12,.d (.i (s.1:Int))),(3,.d (zac s.2))]) [10,11,13,14,15,16,17,18,19,20,21,22,23,24,25,26,27,28,29,30,31,32,33,34,35,36,37,38,39,40,41,42,43,44,45,46,47,48,49,50,51,52,53,54] (fun s=>[]) (fun s=>s.1≤away.length∧subL w ⟨ta,tk⟩ s.2 (away.drop s.1)=subL w ⟨ta,tk⟩ l away∧(∀a∈s.2,zad w 11 ⟨ta,tk⟩ a=true)∧s.2.length≤400) (fun s=>away.length-s.1) (0,l) ⟨by simp,rfl,hl,hll⟩ ⟨⟨_,rfl,LeA.eqi ?_⟩,⟨⟨_,rfl, ?_⟩,trivial⟩⟩ trivial (fun x=>rfl) (fun s hg1=>?_)
 focus (first|rfl|(rw[zbb (by omega)];done)|(dsimp only;rw[zbb (by omega)];done)|(simp;done)|omega)
 focus (first|exact LeA.refl _|((first|refine LeA.gld ?_|refine LeA.nild ?_);first|rfl|(rw[zbb (by omega)];done)|(dsimp only;rw[zbb (by omega)];done)|(simp;done)|omega)|(refine LeA.eqsl ?_;first|rfl|(rw[zbb (by omega)];done)|(dsimp only;rw[zbb (by omega)];done)|(simp;done)|omega)|(refine LeA.eqd ?_;first|rfl|(rw[zbb (by omega)];done)|(dsimp only;rw[zbb (by omega)];done)|(simp;done)|omega))
 refine evc [] [] ?_
 refine sq (fun h1 h1p h1s=>?_) fun h1 h1p h1s=>?_
 try simp only[Q,Pat.cs_len] at h1p
 refine Walk.sliceEmptyG 9 sl26 .none rfl rfl ?_
 refine ev ?_
 refine CWp.loopX (ι:=Nat) hk (fun k=>[(14,.d (.i (k:Int))),(13,.gl 9 (Pat.cs (zeF w ⟨ta,tk⟩ s.2 (nth away s.1) k)))]) [22,23,24,25,26,27,28,29,30,31,32,33,34,35,36,37,38,39,40,41,42,43,44,45,46,47,48,49] (fun k=>[(9,some (.tok ((Pat.cs (zeF w ⟨ta,tk⟩ s.2 (nth away s.1) k))).length 6))]) (fun k=>k≤s.2.length) (fun k=>s.2.length-k) 0 (by omega) ⟨⟨_,rfl,LeA.eqi ?_⟩,⟨⟨_,rfl,LeA.glg ?_⟩,trivial⟩⟩ ⟨zab ?_,trivial⟩ (fun x=>rfl) (fun k hg2=>?_)
 iterate 3 focus (first|rfl|(simp[zeF];done)|(rw[zgm (by omega),Pat.cs_cd,Pat.cs_cd,Pat.cs_cd,List.map_append];done)|(rw[zgm (by omega)];simp[Pat.cs_len];done)|omega|(simp;omega))
 refine evc [] [] ?_
 refine sq (fun h2 h2p h2s=>?_) fun h2 h2p h2s=>?_
 try simp only[Q,Pat.cs_len] at h2p
 refine sq (fun h3 h3p h3s=>?_) fun h3 h3p h3s=>?_
 try simp only[Q,Pat.cs_len] at h3p
 refine Walk.idx sl26 .none rfl rfl rfl rfl (zaI (by omega)) rfl ?_
 refine evd [] [] ?_
 refine Walk.idx sl26 .none rfl rfl rfl rfl (zaI (by omega)) rfl ?_
 refine evd [] [] ?_
 refine wc zoQ (zhw hs 10 11 (by omega) (by omega) (by omega) ht (hg1.2.2.1 _ (zag (by omega))) (hb _ (zag (by omega)))) rfl rfl ?_
 refine wc ztX (show FnD _ _ _ _ (.d (zac (zlS w ⟨ta,tk⟩ (nth away s.1) (nth s.2 k)))) _ from zh9 hs ht (zfd 10 11 (by omega) (hg1.2.2.1 _ (zag (by omega))) (hb _ (zag (by omega)))) (hmi s.2 s.1 k hg1.2.2.1 (by omega) (by omega))) rfl rfl ?_
 refine ap sl26 zz28 rfl rfl rfl (by exact za5 _) (by have h9:=hkb s.2 s.1 k hg1.2.2.1 (by omega) (by omega);simp only[Pat.cs_len];omega) ?_
 refine evd [] [] ?_
 refine dr ?_
 refine ar ?_
 refine Exists.intro (k+1) ⟨(by omega),(by omega),sx ⟨⟨_,rfl,LeA.eqi ?_⟩,⟨⟨_,rfl,LeA.glg ?_⟩,trivial⟩⟩ ⟨zab ?_,trivial⟩⟩
 iterate 3 focus (first|rfl|(simp[zeF];done)|(rw[zgm (by omega),Pat.cs_cd,Pat.cs_cd,Pat.cs_cd,List.map_append];done)|(rw[zgm (by omega)];simp[Pat.cs_len];done)|omega|(simp;omega))
 try simp only[Q,Pat.cs_len] at h3p
 refine sq (fun h4 h4p h4s=>?_) fun h4 h4p h4s=>?_
 try simp only[Q,Pat.cs_len] at h4p
 refine Walk.sliceEmpty sl26 .none rfl ?_
 refine ev ?_
 refine rn0 (r2 rfl rfl) (.tup (.cons (.eqd ?_) (.cons (.eqd ?_) .nil)))
 rotate_left 2
 try simp only[Q,Pat.cs_len] at h4p
 refine ar ?_
 refine Exists.intro ((s.1+1,zbM w ⟨ta,tk⟩ s.2 (nth away s.1))) ⟨(by
    have hk:s.2.length≤k:=by omega
    have h4:(zbM w ⟨ta,tk⟩ s.2 (nth away s.1)).length≤400:=by rw[←zbb hk];omega
    have e:=ze0 (w:=w) (t:=⟨ta,tk⟩) (l:=s.2) (away:=away) (i:=s.1) (by omega)
    rw[if_pos h4] at e
    refine⟨by dsimp only;omega, ?_,zel hg1.2.2.1 (hb _ (zag (by omega))),h4⟩
    dsimp only
    rw[←e];exact hg1.2.1),(by dsimp only;omega),sx ⟨⟨_,rfl,LeA.eqi ?_⟩,⟨⟨_,rfl, ?_⟩,trivial⟩⟩ trivial⟩
 focus (first|rfl|(rw[zbb (by omega)];done)|(dsimp only;rw[zbb (by omega)];done)|(simp;done)|omega)
 focus (first|exact LeA.refl _|((first|refine LeA.gld ?_|refine LeA.nild ?_);first|rfl|(rw[zbb (by omega)];done)|(dsimp only;rw[zbb (by omega)];done)|(simp;done)|omega)|(refine LeA.eqsl ?_;first|rfl|(rw[zbb (by omega)];done)|(dsimp only;rw[zbb (by omega)];done)|(simp;done)|omega)|(refine LeA.eqd ?_;first|rfl|(rw[zbb (by omega)];done)|(dsimp only;rw[zbb (by omega)];done)|(simp;done)|omega))
 try simp only[Q,Pat.cs_len] at h2p
 refine sqF ?_
 refine sq (fun h6 h6p h6s=>?_) fun h6 h6p h6s=>?_
 try simp only[Q,Pat.cs_len] at h6p
 refine Walk.sliceEmpty sl26 .none rfl ?_
 refine ev ?_
 refine rn0 (r2 rfl rfl) (.tup (.cons (.eqd ?_) (.cons (.eqd ?_) .nil)))
 rotate_left 2
 try simp only[Q,Pat.cs_len] at h6p
 refine ar ?_
 refine Exists.intro ((s.1+1,zbM w ⟨ta,tk⟩ s.2 (nth away s.1))) ⟨(by
    have hk:s.2.length≤k:=by omega
    have h4:(zbM w ⟨ta,tk⟩ s.2 (nth away s.1)).length≤400:=by rw[←zbb hk];omega
    have e:=ze0 (w:=w) (t:=⟨ta,tk⟩) (l:=s.2) (away:=away) (i:=s.1) (by omega)
    rw[if_pos h4] at e
    refine⟨by dsimp only;omega, ?_,zel hg1.2.2.1 (hb _ (zag (by omega))),h4⟩
    dsimp only
    rw[←e];exact hg1.2.1),(by dsimp only;omega),sx ⟨⟨_,rfl,LeA.eqi ?_⟩,⟨⟨_,rfl, ?_⟩,trivial⟩⟩ trivial⟩
 focus (first|rfl|(rw[zbb (by omega)];done)|(dsimp only;rw[zbb (by omega)];done)|(simp;done)|omega)
 focus (first|exact LeA.refl _|((first|refine LeA.gld ?_|refine LeA.nild ?_);first|rfl|(rw[zbb (by omega)];done)|(dsimp only;rw[zbb (by omega)];done)|(simp;done)|omega)|(refine LeA.eqsl ?_;first|rfl|(rw[zbb (by omega)];done)|(dsimp only;rw[zbb (by omega)];done)|(simp;done)|omega)|(refine LeA.eqd ?_;first|rfl|(rw[zbb (by omega)];done)|(dsimp only;rw[zbb (by omega)];done)|(simp;done)|omega))
 try simp only[Q,Pat.cs_len] at h1p
 refine wc ztX (zh9 hs ht hg1.2.2.1 (by omega)) rfl rfl ?_
 refine ev ?_
 refine rn0 (r2 rfl rfl) (.tup (.cons (.eqd ?_) (.cons (.eqd ?_) .nil)))
 rotate_left 2
 all_goals (first|rfl|(rw[←hg1.2.1,hno s.2 s.1 k (by omega) (by omega)];rfl)|(rw[←hg1.2.1,zpZ (by omega)];rfl))
theorem zh6:∀(n:Nat){p:Pat},p.size≤n→p.ok→FnD Tryz.prog 162 [.agg [.d (.i (p).op),.d (.i (p).ctor),.d (.i (p).n),.d (.i (p).m),.d (.i (p).var),.d (zac (p).kids)]] [] (.agg [.d (.i (p).op),.d (.i (p).ctor),.d (.i (p).n),.d (.i (p).m),.d (.i (p).var),.d (zac (p).kids)]) []
 |0,p,h,_=>by rw[Pat.size_eq] at h;omega
 |n+1,p,h,hok=>by
  rw[Pat.size_eq] at h
  rw[Pat.ok_iff] at hok
  have hok1:=hok.1
  refine bd Tryz.f162 26 [] [] fun w0 F0 own kept hk=>?_
  refine bx 3001 ?_
  refine ab 3002 tz28 ?_
  refine tv ?_
  refine ab 3003 tz28 ?_
  refine so ty28 ?_
  refine tv ?_
  refine so ty26 ?_
  refine tv ?_
  refine CWp.tokB 3003 5 7 6 rfl rfl rfl rfl ?_
  refine CWp.loopX (ι:=List (Pat)×List (Pat)) hk (fun x=>[(4,.d (.i (x.1.length:Int)))]) [7,8,9,10,11,12,13,14,15,16,17,18,19,20,21,22,23,24] (fun x=>[(3003,some (.box [.d (.i p.op),.d (.i p.ctor),.d (.i p.n),.d (.i p.m),.d (.i p.var),.gl 7 (x.1.map Pat.cc)])),(7,some (.tok (x.1.map Pat.cc).length 6))]) (fun x=>x.1++x.2=p.kids) (fun x=>x.2.length) ([],p.kids) (by simp) ⟨⟨_,rfl,LeA.eqi ?_⟩,trivial⟩ ⟨?_,⟨zab ?_,trivial⟩⟩ (fun x=>rfl) (fun x hg1=>?_)
  focus (first|rfl|(simp;done)|(simp_all;done)|omega|(simp;omega))
  focus (first|rfl|(simp[getH];done))
  focus (first|rfl|(simp;done)|(simp_all;done)|omega|(simp;omega))
  obtain⟨pre,rest⟩:=x
  dsimp only at hg1 ⊢
  refine evc [] [] ?_
  refine sq (fun h1 h1p h1s=>?_) fun h1 h1p h1s=>?_
  try simp only[Q,Pat.cs_len] at h1p
  rcases rest with _|⟨y,rest⟩
  ·exfalso;simp_all
  refine Walk.idx sl26 .none rfl rfl rfl rfl (Pat.cs_at' hg1) rfl ?_
  refine evd [] [] ?_
  refine wc zr2 (zh6 n (p:=y) (by have:=Pats.size_mem (l:=p.kids) (v:=y) (by rw[←hg1];simp);omega) (Pats.ok_mem hok.2 y (by rw[←hg1];simp))) rfl rfl ?_
  refine si [0] [_] sl26 tz28 ?_
  refine ap sl26 zz28 rfl rfl rfl (by intro x hx;first|(simp at hx;subst hx;rfl)|exact zbD _ x hx) (by have:=congrArg List.length hg1;simp at this;simp;omega) ?_
  refine evd [] [] ?_
  refine so ty26 ?_
  refine dr ?_
  refine ar ?_
  refine Exists.intro ((pre++[y],rest)) ⟨(by have hz:=hg1;rw[←hz];simp),(by simp),sx ⟨⟨_,rfl,LeA.eqi ?_⟩,trivial⟩ ⟨?_,⟨zab ?_,trivial⟩⟩⟩
  focus (first|rfl|(simp;done)|(simp_all;done)|omega|(simp;omega))
  focus (first|rfl|(simp[getH];done))
  focus (first|rfl|(simp;done)|(simp_all;done)|omega|(simp;omega))
  try simp only[Q,Pat.cs_len] at h1p
  have hrest:rest=[]:=by
   rcases rest with _|⟨a,b⟩
   ·rfl
   ·exfalso;have hz:=congrArg List.length (hg1);simp only[List.length_append,List.length_cons,List.length_map] at hz;omega
  subst hrest
  refine so ty28 ?_
  refine tv ?_
  refine rn0 (.cons (.cellA ty28 rfl rfl rfl) .nil) (.agg (.cons (.eqd ?_) (.cons (.eqd ?_) (.cons (.eqd ?_) (.cons (.eqd ?_) (.cons (.eqd ?_) (.cons (.gld ?_) .nil)))))))
  rotate_left 6
  all_goals (first|rfl|(rw[List.append_nil] at hg1;rw[←hg1,Pat.cs_cd];done))
theorem zom {l:List Pat} (h:l.length≤1000000000000) (hok:∀p∈l,p.ok):FnD Tryz.prog 102 [.d (zac l)] [] (.d (zac l)) []:=by
 refine bd Tryz.f102 21 [] [] fun w0 F0 own kept hk=>?_
 refine Walk.sliceEmptyG 1 sl26 .none rfl rfl ?_
 refine ev ?_
 refine CWp.loopX (ι:=List (Pat)×List (Pat)) hk (fun x=>[(4,.d (.i (x.1.length:Int))),(3,.gl 1 (x.1.map Pat.cc))]) [6,7,8,9,10,11,12,13,14,15,16,17,18,19] (fun x=>[(1,some (.tok ((x.1.map Pat.cc)).length 6))]) (fun x=>x.1++x.2=l) (fun x=>x.2.length) ([],l) (by simp) ⟨⟨_,rfl,LeA.eqi ?_⟩,⟨⟨_,rfl,LeA.glg ?_⟩,trivial⟩⟩ ⟨zab ?_,trivial⟩ (fun x=>rfl) (fun x hg1=>?_)
 iterate 3 focus (first|rfl|(simp;done)|(simp_all;done)|omega|(simp;omega))
 obtain⟨pre,rest⟩:=x
 dsimp only at hg1 ⊢
 refine evc [] [] ?_
 refine sq (fun h1 h1p h1s=>?_) fun h1 h1p h1s=>?_
 try simp only[Q,Pat.cs_len] at h1p
 rcases rest with _|⟨y,rest⟩
 ·exfalso;simp_all
 refine Walk.idx sl26 .none rfl rfl rfl rfl (Pat.cs_at' hg1) rfl ?_
 refine ev ?_
 refine wc zr2 (zh6 _ (Nat.le_refl _) (hok y (by rw[←hg1];simp))) rfl rfl ?_
 refine si [0] [_] sl26 tz28 ?_
 refine ap sl26 zz28 rfl rfl rfl (by intro x hx;simp at hx;subst hx;rfl) (by have:=congrArg List.length hg1;simp at this;simp;omega) ?_
 refine ev ?_
 refine ar ?_
 refine Exists.intro ((pre++[y],rest)) ⟨(by have hz:=hg1;rw[←hz];simp),(by simp),sx ⟨⟨_,rfl,LeA.eqi ?_⟩,⟨⟨_,rfl,LeA.glg ?_⟩,trivial⟩⟩ ⟨zab ?_,trivial⟩⟩
 iterate 3 focus (first|rfl|(simp;done)|(simp_all;done)|omega|(simp;omega))
 try simp only[Q,Pat.cs_len] at h1p
 have hrest:rest=[]:=by
  rcases rest with _|⟨a,b⟩
  ·rfl
  ·exfalso;have hz:=congrArg List.length (hg1);simp only[List.length_append,List.length_cons,List.length_map] at hz;omega
 subst hrest
 refine rn0 (r1 rfl) (.gld ?_)
 rotate_left
 all_goals (first|rfl|(rw[List.append_nil] at hg1;rw[←hg1,Pat.cs_cd];done))
theorem zn4 {p:Pat} (h:zcB p=true):za2 (zas p)=zaS p:=by
 unfold zcB at h
 have h40:=of_decide_eq_true h
 unfold za2 zaS
 rw[if_pos h40,List.take_of_length_le (by omega)]
theorem zsT {p:Pat}:((40:Int)<((za2 (zas p)).length:Int))↔zcB p=false:=by
 unfold zcB za2
 rw[List.length_take,decide_eq_false_iff_not]
 omega
theorem zhy {w:List Data} (hs:Spa w){ta tk:Int} (ht:InS (w.length*4) ⟨ta,tk⟩){l:List Pat}{ok:Bool} (hl:∀a∈l,a.ok∧a.size≤1000000000000) (hb:l.length≤1000000000000):
  FnD Tryz.prog 55 [.d (zan w),.agg [.d (.i ta),.d (.i tk)],.d (zac l),.d (.bool ok)] [] (.tup [.d (zac (if l.all (isP w ⟨ta,tk⟩)=true then l else [])),.d (.bool (l.all (isP w ⟨ta,tk⟩)&&ok))]) []:=by
 have hbad:∀i,i<l.length→isP w ⟨ta,tk⟩ (nth l i)=false→l.all (isP w ⟨ta,tk⟩)=false:=fun i hi h=>by
  cases hq:l.all (isP w ⟨ta,tk⟩) with
  |false=>rfl
  |true=>have:=List.all_eq_true.1 hq _ (zag hi);rw[h] at this;cases this
 have hgood:(∀i,i<l.length→isP w ⟨ta,tk⟩ (nth l i)=true)→l.all (isP w ⟨ta,tk⟩)=true:=fun h=>List.all_eq_true.2 fun x hx=>by
  obtain⟨i,hi,rfl⟩:=List.getElem_of_mem hx
  have:=h i hi
  rwa [zaJ hi] at this
 refine bd Tryz.f55 29 [] [] fun w0 F0 own kept hk=>?_
 refine bx 3005 ?_
 refine ev ?_
 refine CWp.loopX (ι:=Nat) hk (fun i=>[(10,.d (.i (i:Int)))]) [8,9,11,12,13,14,15,16,17,18,19,20,21,22,23,24,25] (fun i=>[]) (fun i=>i≤l.length∧∀i',i'<i→isP w ⟨ta,tk⟩ (nth l i')=true) (fun i=>l.length-i) 0 ⟨by omega,fun _ h=>absurd h (by omega)⟩ ⟨⟨_,rfl,LeA.eqi ?_⟩,trivial⟩ trivial (fun x=>rfl) (fun i hg1=>?_)
 focus (first|rfl|(simp;done)|(simp_all;done)|omega)
 refine evc [] [] ?_
 refine sq (fun h1 h1p h1s=>?_) fun h1 h1p h1s=>?_
 try simp only[Q,Pat.cs_len] at h1p
 refine Walk.idx sl26 .none rfl rfl rfl rfl (zaI (by omega)) rfl ?_
 refine evd [] [] ?_
 refine wc zoR (zg7 hs.dp.wt (zcc ht) (hl _ (zag (i:=i) (by omega))).1 (hl _ (zag (by omega))).2) rfl rfl ?_
 refine evd [] [] ?_
 refine dr ?_
 refine sq (fun h2 h2p h2s=>?_) fun h2 h2p h2s=>?_
 try simp only[Q,Pat.cs_len] at h2p
 refine Walk.sliceEmpty sl26 .none rfl ?_
 refine ev ?_
 refine rn0 (r2 rfl rfl) (.tup (.cons (.eqd ?_) (.cons (.eqd ?_) .nil)))
 rotate_left 2
 try simp only[Q,Pat.cs_len] at h2p
 refine ar ?_
 refine Exists.intro (i+1) ⟨⟨by omega,zbk hg1.2 (by assumption)⟩,(by omega),sx ⟨⟨_,rfl,LeA.eqi ?_⟩,trivial⟩ trivial⟩
 focus (first|rfl|(simp;done)|(simp_all;done)|omega)
 try simp only[Q,Pat.cs_len] at h1p
 refine wc zuQ (zom hb (fun p hp=>(hl p hp).1)) rfl rfl ?_
 refine ev ?_
 refine rn0 (r2 rfl rfl) (.tup (.cons (.eqd ?_) (.cons (.eqd ?_) .nil)))
 rotate_left 2
 all_goals (first|rfl|(rw[hbad i (by omega) (by assumption)];rfl)|(rw[hgood (fun x hx=>hg1.2 x (by omega))];rfl)|(rw[hgood (fun x hx=>hg1.2 x (by omega))];simp;done))
end Go.Proofs.YtpgdedpljcedpaaGreat
namespace Go.Proofs.YtpgdedpljcedpaaGreat
open Go
set_option linter.unusedSimpArgs false
set_option linter.unusedVariables false
section
variable {c:Ctx}{all:Array Oper}{chk:List Rec→Prop}{os:List Oper}{recs:List Rec}{env:Env}{hp:Hp}{Q:St→Prop}
variable {d ty:Nat}{pos:String}{af:Array Edge}{g:Option (Nat×Bool)}{pg:List (Nat×AV)}{t yt:TypeId}{x y:Operand}
theorem Walk.cut_lh {e k yb:Nat}{xs:List (List D)}{vx:AV}{o o2:Operand}{kd kd2:IntKind}{n n2:Int}{a b:Nat} (ht:SlT c.P t e k yb) (hg:GH all env g pg) (hd:Nat.blt d c.n=true)
  (hx:opd env x=some vx) (hxd:vx.toD=some (.sl xs)) (hk:∀x,x∈xs→x.length=k) (ho:opd env o=some (.d (.int kd n))) (ho2:opd env o2=some (.d (.int kd2 n2))) (hi:n = ↑a) (hi2:n2 = ↑b) (hab:a≤b) (hb:b≤xs.length)
  (hn:Walk c all chk os (zao (pg++opFL [x,o,o2] [vx,.d (.int kd n),.d (.int kd2 n2)]) [] [] ⟨some (d,.d (.sl ((xs.drop a).take (b-a)))),[]⟩::recs) ⟨(d,.d (.sl ((xs.drop a).take (b-a))))::env,hp⟩ Q):
  Walk c all chk (⟨some d,.slice t x (some o) (some o2) none,ty,pos,af,g⟩::os) recs ⟨env,hp⟩ Q:=
 Walk.pureL hg hd (by simp[opdL,hx,ho,ho2]) (fun ac G T w h=>by
  have h0:=h.2 0 (by simp) (by simp)
  have h1:=h.2 1 (by simp) (by simp)
  have h2:=h.2 2 (by simp) (by simp)
  simp only[List.getElem_cons_zero,List.getElem_cons_succ] at h0 h1 h2
  obtain⟨u,h3,h4⟩:=ziG (P:=c.P) (w:=w) ht (h0.toD hxd) hk (lo:=some (.int kd a)) (hi:=some (.int kd2 b)) (a:=a) (b:=b) (.inr ⟨kd,rfl⟩) (.inr ⟨kd2,rfl⟩) hab hb
  exact⟨u,by simp only[execOp,h1.int_eq,h2.int_eq,hi,hi2,Option.map_none,Option.map_some,Sem.run_bind,h3,Result.andThen_ok,Sem.run_pure],.d h4⟩) hn
end
end Go.Proofs.YtpgdedpljcedpaaGreat
namespace Go.Proofs.YtpgdedpljcedpaaGreat
open Go
set_option linter.unusedSimpArgs false
set_option linter.unusedVariables false
set_option maxRecDepth 100000
set_option maxHeartbeats 2000000
abbrev sepV (w:List Data) (t:Ty) (l:List Pat):Option (List Pat):=sepQ w t [] l []
theorem zpR {w:List Data}{t:Ty}{l o:List Pat}{i:Nat} (h:i<l.length):sepQ w t (l.take i) (l.drop i) o=match zaE w t [nth l i] (l.take i) with
  |none=>none
  |some m=>sepQ w t (l.take (i+1)) (l.drop (i+1)) (o++m):=by
 rw[za1 h,sepQ]
 have e:l.take i++[nth l i]=l.take (i+1):=by rw[List.take_succ_eq_append_getElem h,zaJ h]
 rw[e]
 all_goals (cases zaE w t [nth l i] (l.take i)<;>rfl)
theorem zqZ {w:List Data}{t:Ty}{l o:List Pat}{i:Nat} (h:l.length≤i):sepQ w t (l.take i) (l.drop i) o=some o:=by
 rw[List.drop_eq_nil_of_le h,sepQ]
theorem zpQ {w:List Data}{t:Ty}{l o m:List Pat}{i:Nat} (h:i<l.length) (hw:zaE w t [nth l i] (l.take i)=some m):sepQ w t (l.take i) (l.drop i) o=sepQ w t (l.take (i+1)) (l.drop (i+1)) (o++m):=by
 rw[zpR h,hw]
theorem zqY {w:List Data}{t:Ty}{l o:List Pat}{i:Nat} (h:i<l.length) (hw:zaE w t [nth l i] (l.take i)=none):sepQ w t (l.take i) (l.drop i) o=none:=by
 rw[zpR h,hw]
theorem zsP {w:List Data}{t:Ty}:∀(r front o:List Pat){res:List Pat},sepQ w t front r o=some res→o.length≤res.length
 | [],_,o,res,h=>by rw[sepQ] at h;cases h;exact Nat.le_refl _
 |p::r,front,o,res,h=>by
  rw[sepQ] at h
  cases hw:zaE w t [p] front with
  |none=>rw[hw] at h;cases h
  |some m=>
   rw[hw] at h
   have:=zsP r _ _ h
   rw[List.length_append] at this;omega
theorem zfZ {w:List Data}{t:Ty}:∀(r front o:List Pat){res:List Pat},(∀b∈front,zad w 10 t b=true)→(∀b∈r,zad w 10 t b=true)→(∀b∈o,zad w 11 t b=true)→sepQ w t front r o=some res→∀x∈res,zad w 11 t x=true
 | [],_,o,res,_,_,ho,h=>by rw[sepQ] at h;cases h;exact ho
 |p::r,front,o,res,hf,hr,ho,h=>by
  rw[sepQ] at h
  cases hw:zaE w t [p] front with
  |none=>rw[hw] at h;cases h
  |some m=>
   rw[hw] at h
   have hp:=hr p (by simp)
   have h1:=zdT front _ m (fun a ha=>by rw[List.mem_singleton.1 (List.mem_filter.1 ha).1];exact zdd (by omega) hp) (Nat.le_trans (List.length_filter_le _ _) (by simp)) hf hw
   refine zfZ r _ _ (fun b hb=>?_) (fun b hb=>hr b (by simp[hb])) (fun b hb=>?_) h
   ·rcases List.mem_append.1 hb with hb|hb
    ·exact hf b hb
    ·rw[List.mem_singleton.1 hb];exact hp
   ·rcases List.mem_append.1 hb with hb|hb
    ·exact ho b hb
    ·exact h1.2 b hb
def FewQ (w:List Data) (t:Ty) (l:List Pat):Prop:=∀res,sepV w t l=some res→res.length≤400
theorem zn2 {w:List Data}{ta tk:Int}{l:List Pat} (hl:∀a∈l,zad w 10 ⟨ta,tk⟩ a=true) (i:Nat):((zaE w ⟨ta,tk⟩ [nth l i] (l.take i)).getD []).length≤400:=by
 cases hw:zaE w ⟨ta,tk⟩ [nth l i] (l.take i) with
 |none=>simp
 |some m=>
  by_cases hi:i<l.length
  ·exact(zdT (l.take i) _ m (fun a ha=>by rw[List.mem_singleton.1 (List.mem_filter.1 ha).1];exact zdd (by omega) (hl _ (zag hi))) (Nat.le_trans (List.length_filter_le _ _) (by simp)) (fun b hb=>hl b (List.mem_of_mem_take hb)) hw).1
  ·rw[List.take_of_length_le (by omega)] at hw
   have e:nth l i=default:=by simp[nth,List.getD,List.getElem?_eq_none (by omega:l.length≤i)]
   rw[e] at hw
   unfold zaE at hw
   have hlen:∀(away c r:List Pat),c.length≤400→subL w ⟨ta,tk⟩ c away=some r→r.length≤400:=fun away=>by
    induction away with
    |nil=>intro c r hc h;rw[subL] at h;cases h;exact hc
    |cons b away ih=>
     intro c r hc h
     rw[subL] at h
     split at h
     ·rename_i h4;exact ih _ _ h4 h
     ·cases h
   exact hlen _ _ _ (Nat.le_trans (List.length_filter_le _ _) (by simp)) hw
theorem zqH {l:List Pat} (i:Nat) (hi:i<l.length):zac [nth l i] = .sl [(nth l i).cc]∧zac (l.take i) = .sl ((Pat.cs l).take i)∧zac [nth l i] = .sl (((Pat.cs l).drop i).take (i+1-i)):=by
 have e1:zac [nth l i] = .sl [(nth l i).cc]:=by show D.sl (Pat.cs [nth l i])=_;rw[Pat.cs_cd];rfl
 refine⟨e1, ?_, ?_⟩
 ·show D.sl (Pat.cs (l.take i))=_;rw[Pat.cs_cd,Pat.cs_cd,List.map_take]
 ·rw[e1,Pat.cs_cd,←List.map_drop,za1 hi,show i+1-i=1 by omega];rfl
section
variable {w:List Data} (hs:Spa w){ta tk:Int} (ht:InS (w.length*4) ⟨ta,tk⟩){l:List Pat} (hl:∀a∈l,zad w 10 ⟨ta,tk⟩ a=true) (hb:l.length≤1600)
include hs ht hl hb
theorem zkZ:FnD Tryz.prog 48 [.d (sPtr w (zai w)),.agg [.d (.i ta),.d (.i tk)],.d (zac l)] [] (.tup [.d (zac ((sepV w ⟨ta,tk⟩ l).getD [])),.d (.bool (sepV w ⟨ta,tk⟩ l).isSome)]) []:=by
 have hml:=zn2 hl
 have hc:∀i,i<l.length→FnD Tryz.prog 49 [.d (sPtr w (zai w)),.agg [.d (.i ta),.d (.i tk)],.d (.sl [(nth l i).cc]),.d (.sl ((Pat.cs l).take i))] [] (.tup [.d (zac ((zaE w ⟨ta,tk⟩ [nth l i] (l.take i)).getD [])),.d (.bool (zaE w ⟨ta,tk⟩ [nth l i] (l.take i)).isSome)]) []:=fun i hi=>by
  have h:=zhm hs ht (l:=[nth l i]) (away:=l.take i) (fun a ha=>by rw[List.mem_singleton.1 ha];exact zdd (by omega) (hl _ (zag hi))) (fun b hb=>hl b (List.mem_of_mem_take hb)) (by simp) (by rw[List.length_take];omega)
  obtain⟨e1,e2,_⟩:=zqH i hi
  rw[e1,e2] at h
  exact h
 have hbad:∀i o,i<l.length→(zaE w ⟨ta,tk⟩ [nth l i] (l.take i)).isSome=false→sepQ w ⟨ta,tk⟩ (l.take i) (l.drop i) o=none:=fun i o hi h=>zqY hi (by simpa using h)
 have hgood:∀i o,i<l.length→(zaE w ⟨ta,tk⟩ [nth l i] (l.take i)).isSome=true→sepQ w ⟨ta,tk⟩ (l.take i) (l.drop i) o=sepQ w ⟨ta,tk⟩ (l.take (i+1)) (l.drop (i+1)) (o++(zaE w ⟨ta,tk⟩ [nth l i] (l.take i)).getD []):=fun i o hi h=>by
  obtain⟨m,hm⟩:=Option.isSome_iff_exists.1 h
  rw[zpQ hi hm,hm];rfl
 refine bd Tryz.f48 38 [8] [] fun w0 F0 own kept hk=>?_
 refine bx 3004 ?_
 refine evs [8] [] ?_
 refine Walk.assignNil 9 6 .none rfl rfl ?_
 refine tv ?_
 refine CWp.loopX (ι:=Nat×List Pat) hk (fun s=>[(15,.d (.i (s.1:Int))),(8,.gl 9 (Pat.cs s.2))]) [6,7,9,10,11,12,16,17,18,19,20,21,22,23,24,25,26,27,28,29,30,31,32,33,34,35,36] (fun s=>[(9,some (.tok ((Pat.cs s.2)).length 6))]) (fun s=>s.1≤l.length∧sepQ w ⟨ta,tk⟩ (l.take s.1) (l.drop s.1) s.2=sepV w ⟨ta,tk⟩ l∧s.2.length≤400*s.1) (fun s=>l.length-s.1) (0,[]) ⟨by simp,by simp,by simp⟩ ⟨⟨_,rfl,LeA.eqi ?_⟩,⟨⟨_,rfl,LeA.glg ?_⟩,trivial⟩⟩ ⟨zab ?_,trivial⟩ (fun x=>rfl) (fun s hg1=>?_)
 iterate 3 focus (first|rfl|(dsimp only;rw[Pat.cs_cd,Pat.cs_cd,Pat.cs_cd,List.map_append];done)|(simp[Pat.cs_len];done)|(simp;done)|omega|(simp;omega))
 refine evc [8] [] ?_
 refine sq (fun h1 h1p h1s=>?_) fun h1 h1p h1s=>?_
 try simp only[Q,Pat.cs_len] at h1p
 refine Walk.idx sl26 .none rfl rfl rfl rfl (zaI (by omega)) rfl ?_
 refine evs [8] [] ?_
 refine ab 3010 tz28 ?_
 refine evs [8] [] ?_
 refine so ty28 ?_
 refine tv ?_
 refine si [0] [_] sl26 tz28 ?_
 refine evd [8] [] ?_
 refine Walk.cut_h (b:=s.1) sl26 .none rfl rfl rfl (by exact za5 _) rfl rfl (by simp only[Pat.cs_len];omega) ?_
 refine wc zri (hc s.1 (by omega)) rfl rfl ?_
 refine evd [8] [] ?_
 refine dr ?_
 refine sq (fun h2 h2p h2s=>?_) fun h2 h2p h2s=>?_
 try simp only[Q,Pat.cs_len] at h2p
 refine rn0 (r2 rfl rfl) (.tup (.cons (.nild ?_) (.cons (.eqd ?_) .nil)))
 rotate_left 2
 try simp only[Q,Pat.cs_len] at h2p
 refine ap sl26 zz28 rfl rfl rfl (by exact za5 _) (by have h9:=hml s.1;simp only[Pat.cs_len];omega) ?_
 refine asg ?_
 refine tv ?_
 refine ar ?_
 refine Exists.intro ((s.1+1,s.2++(zaE w ⟨ta,tk⟩ [nth l s.1] (l.take s.1)).getD [])) ⟨(by
    refine⟨by dsimp only;omega, ?_, ?_⟩
    ·dsimp only
     rw[←hgood s.1 s.2 (by omega) (by first|assumption|simpa using h2p)];exact hg1.2.1
    ·have:=hml s.1
     dsimp only
     rw[List.length_append];omega),(by dsimp only;omega),sx ⟨⟨_,rfl,LeA.eqi ?_⟩,⟨⟨_,rfl,LeA.glg ?_⟩,trivial⟩⟩ ⟨zab ?_,trivial⟩⟩
 iterate 3 focus (first|rfl|(dsimp only;rw[Pat.cs_cd,Pat.cs_cd,Pat.cs_cd,List.map_append];done)|(simp[Pat.cs_len];done)|(simp;done)|omega|(simp;omega))
 try simp only[Q,Pat.cs_len] at h1p
 refine rn0 (r2 rfl rfl) (.tup (.cons (.gld ?_) (.cons (.eqd ?_) .nil)))
 rotate_left 2
 all_goals (first|rfl|(rw[show sepV w ⟨ta,tk⟩ l=none from by rw[←hg1.2.1];exact hbad s.1 s.2 (by omega) (by first|assumption|simpa using h2p)];rfl)|(rw[show sepV w ⟨ta,tk⟩ l=some s.2 from by rw[←hg1.2.1];exact zqZ (by omega)];rfl))
theorem zmt (hfew:FewQ w ⟨ta,tk⟩ l):FnD Tryz.prog 53 [.d (zan w),.d (zey (w.length*4) (zai w)),.agg [.d (.i ta),.d (.i tk)],.d (zac l)] [] (.tup [.d (zac ((sepV w ⟨ta,tk⟩ l).getD [])),.d (.bool (sepV w ⟨ta,tk⟩ l).isSome)]) []:=by
 have hml:=zn2 hl
 have hc:∀i,i<l.length→FnD Tryz.prog 54 [.d (zan w),.d (zey (w.length*4) (zai w)),.agg [.d (.i ta),.d (.i tk)],.d (.sl (((Pat.cs l).drop i).take (i+1-i))),.d (.sl ((Pat.cs l).take i))] [] (.tup [.d (zac ((zaE w ⟨ta,tk⟩ [nth l i] (l.take i)).getD [])),.d (.bool (zaE w ⟨ta,tk⟩ [nth l i] (l.take i)).isSome)]) []:=fun i hi=>by
  have h:=zf2 hs ht (l:=[nth l i]) (away:=l.take i) (fun a ha=>by rw[List.mem_singleton.1 ha];exact zdd (by omega) (hl _ (zag hi))) (fun b hb=>hl b (List.mem_of_mem_take hb)) (by simp) (by rw[List.length_take];omega)
  obtain⟨_,e2,e3⟩:=zqH i hi
  rw[e3,e2] at h
  exact h
 have hbad:∀i o,i<l.length→(zaE w ⟨ta,tk⟩ [nth l i] (l.take i)).isSome=false→sepQ w ⟨ta,tk⟩ (l.take i) (l.drop i) o=none:=fun i o hi h=>zqY hi (by simpa using h)
 have hgood:∀i o,i<l.length→(zaE w ⟨ta,tk⟩ [nth l i] (l.take i)).isSome=true→sepQ w ⟨ta,tk⟩ (l.take i) (l.drop i) o=sepQ w ⟨ta,tk⟩ (l.take (i+1)) (l.drop (i+1)) (o++(zaE w ⟨ta,tk⟩ [nth l i] (l.take i)).getD []):=fun i o hi h=>by
  obtain⟨m,hm⟩:=Option.isSome_iff_exists.1 h
  rw[zpQ hi hm,hm];rfl
 have hmany:∀i o,i<l.length→(zaE w ⟨ta,tk⟩ [nth l i] (l.take i)).isSome=true→sepQ w ⟨ta,tk⟩ (l.take i) (l.drop i) o=sepV w ⟨ta,tk⟩ l→(400:Int)<(o.length:Int)+(((zaE w ⟨ta,tk⟩ [nth l i] (l.take i)).getD []).length:Int)→sepV w ⟨ta,tk⟩ l=none:=fun i o hi h e h4=>by
  cases hv:sepV w ⟨ta,tk⟩ l with
  |none=>rfl
  |some res=>
   exfalso
   have h1:=hfew res hv
   rw[hv,hgood i o hi h] at e
   have h2:=zsP _ _ _ e
   rw[List.length_append] at h2;omega
 refine bd Tryz.f53 51 [] [] fun w0 F0 own kept hk=>?_
 refine bx 3006 ?_
 refine ev ?_
 refine Walk.sliceEmptyG 9 sl26 .none rfl rfl ?_
 refine ev ?_
 refine CWp.loopX (ι:=Nat×List Pat) hk (fun s=>[(11,.d (.i (s.1:Int))),(10,.gl 9 (Pat.cs s.2))]) [8,9,12,13,15,16,17,18,19,20,21,22,23,24,25,26,27,28,29,30,31,32,33,34,35,36,37,38,39,40,41,42,43,44,45,46,47,48,49] (fun s=>[(9,some (.tok ((Pat.cs s.2)).length 6))]) (fun s=>s.1≤l.length∧sepQ w ⟨ta,tk⟩ (l.take s.1) (l.drop s.1) s.2=sepV w ⟨ta,tk⟩ l∧s.2.length≤400*s.1) (fun s=>l.length-s.1) (0,[]) ⟨by simp,by simp,by simp⟩ ⟨⟨_,rfl,LeA.eqi ?_⟩,⟨⟨_,rfl,LeA.glg ?_⟩,trivial⟩⟩ ⟨zab ?_,trivial⟩ (fun x=>rfl) (fun s hg1=>?_)
 iterate 3 focus (first|rfl|(dsimp only;rw[Pat.cs_cd,Pat.cs_cd,Pat.cs_cd,List.map_append];done)|(simp[Pat.cs_len];done)|(simp;done)|omega|(simp;omega))
 refine evc [] [] ?_
 refine sq (fun h1 h1p h1s=>?_) fun h1 h1p h1s=>?_
 try simp only[Q,Pat.cs_len] at h1p
 refine ar ?_ (by(have h9:=hml s.1;(try simp only[Pat.cs_len]);constructor<;>omega))
 refine Walk.cut_lh (a:=s.1) (b:=(s.1+1)) sl26 .none rfl rfl rfl (by exact za5 _) rfl rfl rfl (by simp) (by omega) (by simp only[Pat.cs_len];omega) ?_
 refine evd [] [] ?_
 refine Walk.cut_h (b:=s.1) sl26 .none rfl rfl rfl (by exact za5 _) rfl rfl (by first|omega|(simp only[Pat.cs_len];omega)) ?_
 refine wc zrl (hc s.1 (by omega)) rfl rfl ?_
 refine evd [] [] ?_
 refine dr ?_
 refine sq (fun h2 h2p h2s=>?_) fun h2 h2p h2s=>?_
 try simp only[Q,Pat.cs_len] at h2p
 refine sqT ?_
 refine Walk.sliceEmpty sl26 .none rfl ?_
 refine ev ?_
 refine rn0 (r2 rfl rfl) (.tup (.cons (.eqd ?_) (.cons (.eqd ?_) .nil)))
 rotate_left 2
 try simp only[Q,Pat.cs_len] at h2p
 refine ar ?_ (by(have h9:=hml s.1;(try simp only[Pat.cs_len]);constructor<;>omega))
 refine sq (fun h4 h4p h4s=>?_) fun h4 h4p h4s=>?_
 try simp only[Q,Pat.cs_len] at h4p
 refine Walk.sliceEmpty sl26 .none rfl ?_
 refine ev ?_
 refine rn0 (r2 rfl rfl) (.tup (.cons (.eqd ?_) (.cons (.eqd ?_) .nil)))
 rotate_left 2
 try simp only[Q,Pat.cs_len] at h4p
 refine ap sl26 zz28 rfl rfl rfl (by exact za5 _) (by have h9:=hml s.1;simp only[Pat.cs_len];omega) ?_
 refine ev ?_
 refine ar ?_ (by(have h9:=hml s.1;(try simp only[Pat.cs_len]);constructor<;>omega))
 refine Exists.intro ((s.1+1,s.2++(zaE w ⟨ta,tk⟩ [nth l s.1] (l.take s.1)).getD [])) ⟨(by
    refine⟨by dsimp only;omega, ?_, ?_⟩
    ·dsimp only
     rw[←hgood s.1 s.2 (by omega) (by first|assumption|simpa using h2p)];exact hg1.2.1
    ·have:=hml s.1
     dsimp only
     rw[List.length_append];omega),(by dsimp only;omega),sx ⟨⟨_,rfl,LeA.eqi ?_⟩,⟨⟨_,rfl,LeA.glg ?_⟩,trivial⟩⟩ ⟨zab ?_,trivial⟩⟩
 iterate 3 focus (first|rfl|(dsimp only;rw[Pat.cs_cd,Pat.cs_cd,Pat.cs_cd,List.map_append];done)|(simp[Pat.cs_len];done)|(simp;done)|omega|(simp;omega))
 try simp only[Q,Pat.cs_len] at h1p
 refine rn0 (r2 rfl rfl) (.tup (.cons (.gld ?_) (.cons (.eqd ?_) .nil)))
 rotate_left 2
 all_goals (first|rfl|(rw[show sepV w ⟨ta,tk⟩ l=none from by rw[←hg1.2.1];exact hbad s.1 s.2 (by omega) (by first|assumption|simpa using h2p)];rfl)|(rw[hmany s.1 s.2 (by omega) (by first|assumption|simpa using h2p) hg1.2.1 (by omega)];rfl)|(rw[show sepV w ⟨ta,tk⟩ l=some s.2 from by rw[←hg1.2.1];exact zqZ (by omega)];rfl))
end
def zbV (w:List Data) (a k:Int) (p q:Pat):Bool:=(zaT w a k p&&isP w ⟨a,k⟩ q)&&(zcB p&&zcB q)
def minV (w:List Data) (a k:Int) (p q:Pat):Option (List Pat):=if zbV w a k p q=true then (match sepV w ⟨a,k⟩ (zaS p) with
  |none=>none
  |some r=>match zaE w ⟨a,k⟩ r (zaS q) with
   |none=>none
   |some z=>if z.all (isP w ⟨a,k⟩)=true then some z else none) else none
theorem zf4 {w:List Data} (hs:WSmall w){a k:Int}{p q:Pat} (h:zbV w a k p q=true):Spa w∧InS (w.length*4) ⟨a,k⟩∧(∀x∈zaS p,zad w 10 ⟨a,k⟩ x=true)∧(∀x∈zaS q,zad w 10 ⟨a,k⟩ x=true)∧zat w 10 ⟨a,k⟩ p=true∧zat w 10 ⟨a,k⟩ q=true∧
  zaS p=zap (zas p)∧zaS q=zap (zas q)∧zbT w ⟨a,k⟩=true∧isP w ⟨a,k⟩ p=true∧isP w ⟨a,k⟩ q=true:=by
 unfold zbV zaT zcB at h
 simp only[Bool.and_eq_true,decide_eq_true_eq] at h
 obtain⟨⟨⟨h1,h2⟩,h3⟩,h4,h5⟩:=h
 have hp:=h2
 have hq:=h3
 unfold isP at h2 h3
 rw[Bool.and_eq_true] at h2 h3
 have hin:InS (w.length*4) ⟨a,k⟩:=by
  obtain⟨_,_,h6⟩:=zee h1
  by_cases ha:a = -1
  ·exact .inl ha
  ·obtain⟨h7,h8,h9,h10⟩:=h6 ha
   have:=zvB (n:=w.length) h8 (j:=k.toNat) (by omega)
   rwa [Int.toNat_of_nonneg h7,Int.toNat_of_nonneg h9] at this
 exact⟨ztI hs (zee h1).1,hin,zkA h2.1,zkA h3.1,h2.1,h3.1,by unfold zaS;rw[if_pos h4],by unfold zaS;rw[if_pos h5],h1,hp,hq⟩
theorem zkj {w:List Data} (hs:WSmall w){a k:Int}{p q:Pat} (hp:p.ok) (hq:q.ok):
  FnD Tryz.prog 46 [.d (zan w),.agg [.d (.i a),.d (.i k)],.agg [.d (.i p.op),.d (.i p.ctor),.d (.i p.n),.d (.i p.m),.d (.i p.var),.d (zac p.kids)],.agg [.d (.i q.op),.d (.i q.ctor),.d (.i q.n),.d (.i q.m),.d (.i q.var),.d (zac q.kids)]] []
   (.tup [.d (zac (if (zaT w a k p&&isP w ⟨a,k⟩ q)=true then zaS p else [])),.d (zac (if (zaT w a k p&&isP w ⟨a,k⟩ q)=true then zaS q else [])),.d (.bool (zbV w a k p q))]) []:=by
 have hpv:=zix hs (a:=a) (k:=k) hp
 have hshape:∀ {x:Pat},isP w ⟨a,k⟩ x=true→zat w 10 ⟨a,k⟩ x=true:=fun h=>by unfold isP at h;rw[Bool.and_eq_true] at h;exact h.1
 have hvp:zaT w a k p=true→zbT w ⟨a,k⟩=true∧isP w ⟨a,k⟩ p=true:=fun h=>by unfold zaT at h;rwa [Bool.and_eq_true] at h
 unfold zbV
 by_cases h1:zaT w a k p=true
 ·obtain⟨h2,h3⟩:=hvp h1
  have hok:=zeu (zhb hs (zee h2).1) (zee h2).2.1 hq
  have hpp:=ziS (hshape h3) hp
  rw[h1] at hpv ⊢
  by_cases h4:isP w ⟨a,k⟩ q=true
  ·have hpq:=ziS (hshape h4) hq
   rw[h4] at hok ⊢
   refine bd Tryz.f46 43 [] [] fun w0 F0 own kept hk=>?_
   refine bx 3005 ?_
   refine bx 3006 ?_
   refine bx 3007 ?_
   refine ev ?_
   refine wc zre (hpv) rfl rfl ?_
   refine ev ?_
   refine sq (fun h1 h1p h1s=>?_) fun h1 h1p h1s=>?_
   refine sqT ?_
   focus (exfalso;first|contradiction|(simp at *;done))
   refine Walk.call (cr:=[]) zoy (hok) rfl (.some rfl rfl h1) rfl rfl (LeL.refl _) trivial rfl rfl rfl ?_
   refine evs [] [(20,false)] ?_ ⟨⟨_,rfl,h1⟩,trivial⟩
   refine sq (fun h3 h3p h3s=>?_) fun h3 h3p h3s=>?_
   focus (exfalso;first|contradiction|(simp at *;done))
   refine wc ztT (hpp) rfl rfl ?_
   refine ev ?_
   refine wc ztT (hpq) rfl rfl ?_
   refine ev ?_
   refine sq (fun h4 h4p h4s=>?_) fun h4 h4p h4s=>?_
   refine rn0 (.cons (.tmp rfl) (.cons (.tmp rfl) (.cons (.tmp rfl) .nil))) (.tup (.cons (.eqd ?_) (.cons (.eqd ?_) (.cons (.eqd ?_) .nil))))
   rotate_left 3
   refine rn0 (.cons (.tmp rfl) (.cons (.tmp rfl) (.cons (.tmp rfl) .nil))) (.tup (.cons (.eqd ?_) (.cons (.eqd ?_) (.cons (.eqd ?_) .nil))))
   rotate_left 3
   all_goals (first|rfl|(simp_all;done))
  ·have h4':isP w ⟨a,k⟩ q=false:=by simpa using h4
   rw[h4'] at hok ⊢
   refine bd Tryz.f46 43 [] [] fun w0 F0 own kept hk=>?_
   refine bx 3005 ?_
   refine bx 3006 ?_
   refine bx 3007 ?_
   refine ev ?_
   refine wc zre (hpv) rfl rfl ?_
   refine ev ?_
   refine sq (fun h1 h1p h1s=>?_) fun h1 h1p h1s=>?_
   refine sqT ?_
   refine rn0 (.cons (.tmp rfl) (.cons (.tmp rfl) (.cons (.tmp rfl) .nil))) (.tup (.cons (.nild ?_) (.cons (.nild ?_) (.cons (.eqd ?_) .nil))))
   rotate_left 3
   refine Walk.call (cr:=[]) zoy (hok) rfl (.some rfl rfl h1) rfl rfl (LeL.refl _) trivial rfl rfl rfl ?_
   refine evs [] [(20,false)] ?_ ⟨⟨_,rfl,h1⟩,trivial⟩
   refine sq (fun h3 h3p h3s=>?_) fun h3 h3p h3s=>?_
   refine rn0 (.cons (.tmp rfl) (.cons (.tmp rfl) (.cons (.tmp rfl) .nil))) (.tup (.cons (.nild ?_) (.cons (.nild ?_) (.cons (.eqd ?_) .nil))))
   rotate_left 3
   focus (exfalso;first|contradiction|(simp at *;done))
   all_goals (first|rfl|(simp_all;done))
 ·have h1':zaT w a k p=false:=by simpa using h1
  rw[h1'] at hpv ⊢
  refine bd Tryz.f46 43 [] [] fun w0 F0 own kept hk=>?_
  refine bx 3005 ?_
  refine bx 3006 ?_
  refine bx 3007 ?_
  refine ev ?_
  refine wc zre (hpv) rfl rfl ?_
  refine ev ?_
  refine sq (fun h1 h1p h1s=>?_) fun h1 h1p h1s=>?_
  refine sqT ?_
  refine rn0 (.cons (.tmp rfl) (.cons (.tmp rfl) (.cons (.tmp rfl) .nil))) (.tup (.cons (.nild ?_) (.cons (.nild ?_) (.cons (.eqd ?_) .nil))))
  rotate_left 3
  focus (exfalso;first|contradiction|(simp at *;done))
  all_goals (first|rfl|(simp_all;done))
theorem zoo {w:List Data} (hs:WSmall w){a k:Int}{p q:Pat} (hp:p.ok) (hq:q.ok) (hpz:p.size≤1000000000000) (hqz:q.size≤1000000000000):
  FnD Tryz.prog 51 [.d (zan w),.agg [.d (.i a),.d (.i k)],.agg [.d (.i p.op),.d (.i p.ctor),.d (.i p.n),.d (.i p.m),.d (.i p.var),.d (zac p.kids)],.agg [.d (.i q.op),.d (.i q.ctor),.d (.i q.n),.d (.i q.m),.d (.i q.var),.d (zac q.kids)]] []
   (.tup [.d (zac (if (zaT w a k p&&zaT w a k q)=true then za2 (zas p) else [])),.d (zac (if (zaT w a k p&&zaT w a k q)=true then za2 (zas q) else [])),.d (.bool (zbV w a k p q))]) []:=by
 have hpv:=zfk hs (a:=a) (k:=k) hp hpz
 have hqv:=zfk hs (a:=a) (k:=k) hq hqz
 have hshape:∀ {x:Pat},zaT w a k x=true→zat w 10 ⟨a,k⟩ x=true:=fun h=>by unfold zaT isP at h;simp only[Bool.and_eq_true] at h;exact h.2.1
 have hvq:zaT w a k p=true→zaT w a k q=isP w ⟨a,k⟩ q:=fun h=>by unfold zaT at h ⊢;rw[Bool.and_eq_true] at h;rw[h.1,Bool.true_and]
 have hge:=fun(x:Pat)=>zsT (p:=x)
 unfold zbV
 by_cases h1:zaT w a k p=true
 ·rw[←hvq h1]
  have hpp:=zhx (hshape h1) hp
  rw[h1] at hpv ⊢
  by_cases h4:zaT w a k q=true
  ·have hpq:=zhx (hshape h4) hq
   rw[h4] at hqv ⊢
   have e:∀x:Pat,zcB x=decide (((za2 (zas x)).length:Int)≤40):=fun x=>by
    have:=hge x
    cases hx:zcB x with
    |true=>
     rw[hx] at this
     exact(decide_eq_true (Int.not_lt.1 fun h=>by have:=this.1 h;cases this)).symm
    |false=>
     rw[hx] at this
     exact(decide_eq_false (Int.not_le.2 (this.2 rfl))).symm
   rw[e p,e q]
   refine bd Tryz.f51 39 [] [] fun w0 F0 own kept hk=>?_
   refine bx 3005 ?_
   refine bx 3006 ?_
   refine bx 3007 ?_
   refine ev ?_
   refine wc zj3 (hpv) rfl rfl ?_
   refine ev ?_
   refine sq (fun h1 h1p h1s=>?_) fun h1 h1p h1s=>?_
   refine sqT ?_
   focus (exfalso;first|contradiction|(simp at *;done))
   refine Walk.call (cr:=[]) zj3 (hqv) rfl (.some rfl rfl h1) rfl rfl (LeL.refl _) trivial rfl rfl rfl ?_
   refine evs [] [(18,false)] ?_ ⟨⟨_,rfl,h1⟩,trivial⟩
   refine sq (fun h3 h3p h3s=>?_) fun h3 h3p h3s=>?_
   focus (exfalso;first|contradiction|(simp at *;done))
   refine wc ztU (hpp) rfl rfl ?_
   refine ev ?_
   refine wc ztU (hpq) rfl rfl ?_
   refine ev ?_
   refine sq (fun h4 h4p h4s=>?_) fun h4 h4p h4s=>?_
   refine rn0 (.cons (.tmp rfl) (.cons (.tmp rfl) (.cons (.tmp rfl) .nil))) (.tup (.cons (.eqd ?_) (.cons (.eqd ?_) (.cons (.eqd ?_) .nil))))
   rotate_left 3
   refine rn0 (.cons (.tmp rfl) (.cons (.tmp rfl) (.cons (.tmp rfl) .nil))) (.tup (.cons (.eqd ?_) (.cons (.eqd ?_) (.cons (.eqd ?_) .nil))))
   rotate_left 3
   all_goals (first|rfl|(simp_all[Pat.cs_len];done)|(simp_all[Pat.cs_len];omega))
  ·have h4':zaT w a k q=false:=by simpa using h4
   rw[h4'] at hqv ⊢
   refine bd Tryz.f51 39 [] [] fun w0 F0 own kept hk=>?_
   refine bx 3005 ?_
   refine bx 3006 ?_
   refine bx 3007 ?_
   refine ev ?_
   refine wc zj3 (hpv) rfl rfl ?_
   refine ev ?_
   refine sq (fun h1 h1p h1s=>?_) fun h1 h1p h1s=>?_
   refine sqT ?_
   refine rn0 (.cons (.tmp rfl) (.cons (.tmp rfl) (.cons (.tmp rfl) .nil))) (.tup (.cons (.nild ?_) (.cons (.nild ?_) (.cons (.eqd ?_) .nil))))
   rotate_left 3
   refine Walk.call (cr:=[]) zj3 (hqv) rfl (.some rfl rfl h1) rfl rfl (LeL.refl _) trivial rfl rfl rfl ?_
   refine evs [] [(18,false)] ?_ ⟨⟨_,rfl,h1⟩,trivial⟩
   refine sq (fun h3 h3p h3s=>?_) fun h3 h3p h3s=>?_
   refine rn0 (.cons (.tmp rfl) (.cons (.tmp rfl) (.cons (.tmp rfl) .nil))) (.tup (.cons (.nild ?_) (.cons (.nild ?_) (.cons (.eqd ?_) .nil))))
   rotate_left 3
   focus (exfalso;first|contradiction|(simp at *;done))
   all_goals (first|rfl|(simp_all;done))
 ·have h1':zaT w a k p=false:=by simpa using h1
  rw[h1'] at hpv ⊢
  refine bd Tryz.f51 39 [] [] fun w0 F0 own kept hk=>?_
  refine bx 3005 ?_
  refine bx 3006 ?_
  refine bx 3007 ?_
  refine ev ?_
  refine wc zj3 (hpv) rfl rfl ?_
  refine ev ?_
  refine sq (fun h1 h1p h1s=>?_) fun h1 h1p h1s=>?_
  refine sqT ?_
  refine rn0 (.cons (.tmp rfl) (.cons (.tmp rfl) (.cons (.tmp rfl) .nil))) (.tup (.cons (.nild ?_) (.cons (.nild ?_) (.cons (.eqd ?_) .nil))))
  rotate_left 3
  refine Walk.call (cr:=[]) zj3 (hqv) rfl (.some rfl rfl h1) rfl rfl (LeL.refl _) trivial rfl rfl rfl ?_
  refine evs [] [(18,false)] ?_ ⟨⟨_,rfl,h1⟩,trivial⟩
  refine sq (fun h3 h3p h3s=>?_) fun h3 h3p h3s=>?_
  refine rn0 (.cons (.tmp rfl) (.cons (.tmp rfl) (.cons (.tmp rfl) .nil))) (.tup (.cons (.nild ?_) (.cons (.nild ?_) (.cons (.eqd ?_) .nil))))
  rotate_left 3
  focus (exfalso;first|contradiction|(simp at *;done))
  all_goals (first|rfl|(simp_all;done))
theorem zm3 {w:List Data}{a k:Int}{p q:Pat} (h:zbV w a k p q=false):minV w a k p q=none:=by unfold minV;rw[if_neg (by rw[h];simp)]
theorem zpu {w:List Data}{a k:Int}{p q:Pat} (h:zbV w a k p q=true) (h2:sepV w ⟨a,k⟩ (zaS p)=none):minV w a k p q=none:=by unfold minV;rw[if_pos h,h2]
theorem zpv {w:List Data}{a k:Int}{p q:Pat}{r:List Pat} (h:zbV w a k p q=true) (h2:sepV w ⟨a,k⟩ (zaS p)=some r) (h3:zaE w ⟨a,k⟩ r (zaS q)=none):minV w a k p q=none:=by unfold minV;rw[if_pos h,h2];dsimp only;rw[h3]
theorem zlZ {w:List Data}{a k:Int}{p q:Pat}{r z:List Pat} (h:zbV w a k p q=true) (h2:sepV w ⟨a,k⟩ (zaS p)=some r) (h3:zaE w ⟨a,k⟩ r (zaS q)=some z):minV w a k p q=if z.all (isP w ⟨a,k⟩)=true then some z else none:=by unfold minV;rw[if_pos h,h2];dsimp only;rw[h3]
theorem zqs {z:List Pat}{b:Bool}:zac (if b=true then z else [])=zac ((if b=true then some z else none).getD [])∧b=(if b=true then some z else none:Option (List Pat)).isSome:=by cases b<;>exact⟨rfl,rfl⟩
theorem zdA {w:List Data} (hs:WSmall w){a k:Int}{p q:Pat} (hp:p.ok) (hq:q.ok) (hfew:zbV w a k p q=true→FewQ w ⟨a,k⟩ (zaS p)):
  FnD Tryz.prog 16 [.d (zan w),.agg [.d (.i a),.d (.i k)],.agg [.d (.i p.op),.d (.i p.ctor),.d (.i p.n),.d (.i p.m),.d (.i p.var),.d (zac p.kids)],.agg [.d (.i q.op),.d (.i q.ctor),.d (.i q.n),.d (.i q.m),.d (.i q.var),.d (zac q.kids)]] []
   (.tup [.d (zac ((minV w a k p q).getD [])),.d (.bool (minV w a k p q).isSome)]) []:=by
 have hbp:=zkj hs (a:=a) (k:=k) hp hq
 cases h2:zbV w a k p q with
 |false=>
  rw[zm3 h2]
  rw[h2] at hbp
  generalize (if (zaT w a k p&&isP w ⟨a,k⟩ q)=true then zaS p else [])=z1 at hbp
  generalize (if (zaT w a k p&&isP w ⟨a,k⟩ q)=true then zaS q else [])=z2 at hbp
  refine bd Tryz.f16 51 [] [] fun w0 F0 own kept hk=>?_
  refine bx 3005 ?_
  refine bx 3006 ?_
  refine bx 3007 ?_
  refine ev ?_
  refine wc zov (hbp) rfl rfl ?_
  refine ev ?_
  refine sq (fun h1 h1p h1s=>?_) fun h1 h1p h1s=>?_
  refine rn0 (r2 rfl rfl) (.tup (.cons (.nild ?_) (.cons (.eqd ?_) .nil)))
  rotate_left 2
  focus (exfalso;contradiction)
  all_goals (rfl)
 |true=>
  obtain⟨hsp,hin,t1,t2,_⟩:=zf4 hs h2
  have hpq:(zaT w a k p&&isP w ⟨a,k⟩ q)=true:=by unfold zbV at h2;rw[Bool.and_eq_true] at h2;exact h2.1
  rw[h2,if_pos hpq,if_pos hpq] at hbp
  have hn:=zkk hsp.dp
  have hse:=zkZ hsp hin t1 (by have:=zgq p;omega)
  cases h3:sepV w ⟨a,k⟩ (zaS p) with
  |none=>
   rw[zpu h2 h3]
   rw[h3] at hse
   have hre:=zfz hsp (f:=zai w) hin (l:=[]) (ok:=false) (by simp) (by simp)
   refine bd Tryz.f16 51 [] [] fun w0 F0 own kept hk=>?_
   refine bx 3005 ?_
   refine bx 3006 ?_
   refine bx 3007 ?_
   refine ev ?_
   refine wc zov (hbp) rfl rfl ?_
   refine ev ?_
   refine sq (fun h1 h1p h1s=>?_) fun h1 h1p h1s=>?_
   focus (exfalso;contradiction)
   refine wc zrg (hn) rfl rfl ?_
   refine ev ?_
   refine wc zrh (hse) rfl rfl ?_
   refine ev ?_
   refine sq (fun h2 h2p h2s=>?_) fun h2 h2p h2s=>?_
   focus (exfalso;contradiction)
   refine wc zrj (hre) rfl rfl ?_
   refine ev ?_
   refine rn0 (r2 rfl rfl) (.tup (.cons (.eqd ?_) (.cons (.eqd ?_) .nil)))
   rotate_left 2
   all_goals (rfl)
  |some r=>
   rw[h3] at hse
   have hr4:=hfew h2 r h3
   have hrp:=zfZ _ [] [] (by simp) t1 (by simp) h3
   have hwo:=zhm hsp hin hrp t2 hr4 (by have:=zgq q;omega)
   cases h4:zaE w ⟨a,k⟩ r (zaS q) with
   |none=>
    rw[zpv h2 h3 h4]
    rw[h4] at hwo
    have hre:=zfz hsp (f:=zai w) hin (l:=[]) (ok:=false) (by simp) (by simp)
    refine bd Tryz.f16 51 [] [] fun w0 F0 own kept hk=>?_
    refine bx 3005 ?_
    refine bx 3006 ?_
    refine bx 3007 ?_
    refine ev ?_
    refine wc zov (hbp) rfl rfl ?_
    refine ev ?_
    refine sq (fun h1 h1p h1s=>?_) fun h1 h1p h1s=>?_
    focus (exfalso;contradiction)
    refine wc zrg (hn) rfl rfl ?_
    refine ev ?_
    refine wc zrh (hse) rfl rfl ?_
    refine ev ?_
    refine sq (fun h2 h2p h2s=>?_) fun h2 h2p h2s=>?_
    refine wc zri (hwo) rfl rfl ?_
    refine ev ?_
    refine wc zrj (hre) rfl rfl ?_
    refine ev ?_
    refine rn0 (r2 rfl rfl) (.tup (.cons (.eqd ?_) (.cons (.eqd ?_) .nil)))
    rotate_left 2
    focus (exfalso;contradiction)
    all_goals (rfl)
   |some z=>
    rw[zlZ h2 h3 h4]
    rw[h4] at hwo
    have hz:=zdT (zaS q) _ z (fun x hx=>hrp x (List.mem_filter.1 hx).1) (Nat.le_trans (List.length_filter_le _ _) hr4) t2 h4
    have hre:=zfz hsp (f:=zai w) hin (l:=z) (ok:=true) (fun x hx=>(zgM hsp 11 hin (hz.2 x hx)).1) (by have:=hz.1;omega)
    rw[Bool.true_and] at hre
    have ha:=fun b=>zqs (z:=z) (b:=b)
    generalize z.all (isP w ⟨a,k⟩)=b at *
    refine bd Tryz.f16 51 [] [] fun w0 F0 own kept hk=>?_
    refine bx 3005 ?_
    refine bx 3006 ?_
    refine bx 3007 ?_
    refine ev ?_
    refine wc zov (hbp) rfl rfl ?_
    refine ev ?_
    refine sq (fun h1 h1p h1s=>?_) fun h1 h1p h1s=>?_
    focus (exfalso;contradiction)
    refine wc zrg (hn) rfl rfl ?_
    refine ev ?_
    refine wc zrh (hse) rfl rfl ?_
    refine ev ?_
    refine sq (fun h2 h2p h2s=>?_) fun h2 h2p h2s=>?_
    refine wc zri (hwo) rfl rfl ?_
    refine ev ?_
    refine wc zrj (hre) rfl rfl ?_
    refine ev ?_
    refine rn0 (r2 rfl rfl) (.tup (.cons (.eqd ?_) (.cons (.eqd ?_) .nil)))
    rotate_left 2
    focus (exfalso;contradiction)
    all_goals (first|exact(ha b).1|exact congrArg D.bool (ha b).2)
theorem zeZ {w:List Data} (hs:WSmall w){a k:Int}{p q:Pat} (hp:p.ok) (hq:q.ok) (hpz:p.size≤1000000000000) (hqz:q.size≤1000000000000) (hfew:zbV w a k p q=true→FewQ w ⟨a,k⟩ (zaS p)):
  FnD Tryz.prog 17 [.d (zan w),.agg [.d (.i a),.d (.i k)],.agg [.d (.i p.op),.d (.i p.ctor),.d (.i p.n),.d (.i p.m),.d (.i p.var),.d (zac p.kids)],.agg [.d (.i q.op),.d (.i q.ctor),.d (.i q.n),.d (.i q.m),.d (.i q.var),.d (zac q.kids)]] []
   (.tup [.d (zac ((minV w a k p q).getD [])),.d (.bool (minV w a k p q).isSome)]) []:=by
 have hbp:=zoo hs (a:=a) (k:=k) hp hq hpz hqz
 cases h2:zbV w a k p q with
 |false=>
  rw[zm3 h2]
  rw[h2] at hbp
  generalize (if (zaT w a k p&&zaT w a k q)=true then za2 (zas p) else [])=z1 at hbp
  generalize (if (zaT w a k p&&zaT w a k q)=true then za2 (zas q) else [])=z2 at hbp
  refine bd Tryz.f17 59 [] [] fun w0 F0 own kept hk=>?_
  refine bx 3005 ?_
  refine bx 3006 ?_
  refine bx 3007 ?_
  refine ev ?_
  refine wc zow (hbp) rfl rfl ?_
  refine ev ?_
  refine sq (fun h1 h1p h1s=>?_) fun h1 h1p h1s=>?_
  refine Walk.sliceEmpty sl26 .none rfl ?_
  refine ev ?_
  refine rn0 (r2 rfl rfl) (.tup (.cons (.eqd ?_) (.cons (.eqd ?_) .nil)))
  rotate_left 2
  focus (exfalso;contradiction)
  all_goals (rfl)
 |true=>
  obtain⟨hsp,hin,t1,t2,_⟩:=zf4 hs h2
  have hpq:(zaT w a k p&&zaT w a k q)=true∧zcB p=true∧zcB q=true:=by
   unfold zbV at h2
   simp only[Bool.and_eq_true] at h2
   have h5:=h2.1.1
   unfold zaT at h5 ⊢
   rw[Bool.and_eq_true] at h5
   exact⟨by rw[h5.1,h5.2,h2.1.2];rfl,h2.2⟩
  rw[h2,if_pos hpq.1,if_pos hpq.1,zn4 hpq.2.1,zn4 hpq.2.2] at hbp
  have hn:=zhu hsp.dp
  have hse:=zmt hsp hin t1 (by have:=zgq p;omega) (hfew h2)
  cases h3:sepV w ⟨a,k⟩ (zaS p) with
  |none=>
   rw[zpu h2 h3]
   rw[h3] at hse
   refine bd Tryz.f17 59 [] [] fun w0 F0 own kept hk=>?_
   refine bx 3005 ?_
   refine bx 3006 ?_
   refine bx 3007 ?_
   refine ev ?_
   refine wc zow (hbp) rfl rfl ?_
   refine ev ?_
   refine sq (fun h1 h1p h1s=>?_) fun h1 h1p h1s=>?_
   focus (exfalso;contradiction)
   refine wc zox (hn) rfl rfl ?_
   refine ev ?_
   refine wc zrk (hse) rfl rfl ?_
   refine ev ?_
   refine sq (fun h2 h2p h2s=>?_) fun h2 h2p h2s=>?_
   refine Walk.sliceEmpty sl26 .none rfl ?_
   refine ev ?_
   refine rn0 (r2 rfl rfl) (.tup (.cons (.eqd ?_) (.cons (.eqd ?_) .nil)))
   rotate_left 2
   focus (exfalso;contradiction)
   all_goals (rfl)
  |some r=>
   rw[h3] at hse
   have hr4:=hfew h2 r h3
   have hrp:=zfZ _ [] [] (by simp) t1 (by simp) h3
   have hwo:=zf2 hsp hin hrp t2 hr4 (by have:=zgq q;omega)
   cases h4:zaE w ⟨a,k⟩ r (zaS q) with
   |none=>
    rw[zpv h2 h3 h4]
    rw[h4] at hwo
    have hre:=zhy hsp hin (l:=[]) (ok:=false) (by simp) (by simp)
    refine bd Tryz.f17 59 [] [] fun w0 F0 own kept hk=>?_
    refine bx 3005 ?_
    refine bx 3006 ?_
    refine bx 3007 ?_
    refine ev ?_
    refine wc zow (hbp) rfl rfl ?_
    refine ev ?_
    refine sq (fun h1 h1p h1s=>?_) fun h1 h1p h1s=>?_
    focus (exfalso;contradiction)
    refine wc zox (hn) rfl rfl ?_
    refine ev ?_
    refine wc zrk (hse) rfl rfl ?_
    refine ev ?_
    refine sq (fun h2 h2p h2s=>?_) fun h2 h2p h2s=>?_
    focus (exfalso;contradiction)
    refine wc zrl (hwo) rfl rfl ?_
    refine ev ?_
    refine wc ztP (hre) rfl rfl ?_
    refine ev ?_
    refine rn0 (r2 rfl rfl) (.tup (.cons (.eqd ?_) (.cons (.eqd ?_) .nil)))
    rotate_left 2
    all_goals (rfl)
   |some z=>
    rw[zlZ h2 h3 h4]
    rw[h4] at hwo
    have hz:=zdT (zaS q) _ z (fun x hx=>hrp x (List.mem_filter.1 hx).1) (Nat.le_trans (List.length_filter_le _ _) hr4) t2 h4
    have hre:=zhy hsp hin (l:=z) (ok:=true) (fun x hx=>⟨(zgM hsp 11 hin (hz.2 x hx)).1,by have:=(zgM hsp 11 hin (hz.2 x hx)).2;have:=zpE (n:=11) (by omega);omega⟩) (by have:=hz.1;omega)
    rw[Bool.and_true] at hre
    have ha:=fun b=>zqs (z:=z) (b:=b)
    generalize z.all (isP w ⟨a,k⟩)=b at *
    refine bd Tryz.f17 59 [] [] fun w0 F0 own kept hk=>?_
    refine bx 3005 ?_
    refine bx 3006 ?_
    refine bx 3007 ?_
    refine ev ?_
    refine wc zow (hbp) rfl rfl ?_
    refine ev ?_
    refine sq (fun h1 h1p h1s=>?_) fun h1 h1p h1s=>?_
    focus (exfalso;contradiction)
    refine wc zox (hn) rfl rfl ?_
    refine ev ?_
    refine wc zrk (hse) rfl rfl ?_
    refine ev ?_
    refine sq (fun h2 h2p h2s=>?_) fun h2 h2p h2s=>?_
    focus (exfalso;contradiction)
    refine wc zrl (hwo) rfl rfl ?_
    refine ev ?_
    refine wc ztP (hre) rfl rfl ?_
    refine ev ?_
    refine rn0 (r2 rfl rfl) (.tup (.cons (.eqd ?_) (.cons (.eqd ?_) .nil)))
    rotate_left 2
    all_goals (first|exact(ha b).1|exact congrArg D.bool (ha b).2)
def winV (w:List Data) (a k:Int) (p q:Pat):Bool:=(minV w a k p q).isSome&&decide (((minV w a k p q).getD []).length=0)
theorem zeS {w:List Data} (hs:WSmall w){a k:Int}{p q:Pat} (hp:p.ok) (hq:q.ok) (hfew:zbV w a k p q=true→FewQ w ⟨a,k⟩ (zaS p)):
  FnD Tryz.prog 20 [.d (zan w),.agg [.d (.i a),.d (.i k)],.agg [.d (.i p.op),.d (.i p.ctor),.d (.i p.n),.d (.i p.m),.d (.i p.var),.d (zac p.kids)],.agg [.d (.i q.op),.d (.i q.ctor),.d (.i q.n),.d (.i q.m),.d (.i q.var),.d (zac q.kids)]] []
   (.tup [.d (.bool (winV w a k p q)),.d (.bool (minV w a k p q).isSome)]) []:=by
 have hmp:=zdA hs hp hq hfew
 unfold winV
 generalize minV w a k p q=m at *
 refine bd Tryz.f20 27 [] [] fun w0 F0 own kept hk=>?_
 refine bx 3005 ?_
 refine bx 3006 ?_
 refine bx 3007 ?_
 refine ev ?_
 refine wc zot (hmp) rfl rfl ?_
 refine ev ?_
 refine sq (fun h1 h1p h1s=>?_) fun h1 h1p h1s=>?_
 refine rn0 (r2 rfl rfl) (.tup (.cons (.eqd ?_) (.cons (.eqd ?_) .nil)))
 rotate_left 2
 refine rn0 (r2 rfl rfl) (.tup (.cons (.eqd ?_) (.cons (.eqd ?_) .nil)))
 rotate_left 2
 all_goals ((simp_all[Pat.cs_len];done))
theorem zh2 {w:List Data} (hs:WSmall w){a k:Int}{p q:Pat} (hp:p.ok) (hq:q.ok) (hpz:p.size≤1000000000000) (hqz:q.size≤1000000000000) (hfew:zbV w a k p q=true→FewQ w ⟨a,k⟩ (zaS p)):
  FnD Tryz.prog 21 [.d (zan w),.agg [.d (.i a),.d (.i k)],.agg [.d (.i p.op),.d (.i p.ctor),.d (.i p.n),.d (.i p.m),.d (.i p.var),.d (zac p.kids)],.agg [.d (.i q.op),.d (.i q.ctor),.d (.i q.n),.d (.i q.m),.d (.i q.var),.d (zac q.kids)]] []
   (.tup [.d (.bool (winV w a k p q)),.d (.bool (minV w a k p q).isSome)]) []:=by
 have hmp:=zeZ hs hp hq hpz hqz hfew
 unfold winV
 generalize minV w a k p q=m at *
 refine bd Tryz.f21 27 [] [] fun w0 F0 own kept hk=>?_
 refine bx 3005 ?_
 refine bx 3006 ?_
 refine bx 3007 ?_
 refine ev ?_
 refine wc zrd (hmp) rfl rfl ?_
 refine ev ?_
 refine sq (fun h1 h1p h1s=>?_) fun h1 h1p h1s=>?_
 refine rn0 (r2 rfl rfl) (.tup (.cons (.eqd ?_) (.cons (.eqd ?_) .nil)))
 rotate_left 2
 refine rn0 (r2 rfl rfl) (.tup (.cons (.eqd ?_) (.cons (.eqd ?_) .nil)))
 rotate_left 2
 all_goals ((simp_all[Pat.cs_len];done))
end Go.Proofs.YtpgdedpljcedpaaGreat
namespace Go.Proofs.YtpgdedpljcedpaaGreat
open Go
set_option linter.unusedSimpArgs false
set_option linter.unusedVariables false
theorem zsw (L:List Nat) (hp:Hp) (i:Nat):getH (L.map (fun j=>(j,(none:Option Res)))++hp) i=if i∈L then none else getH hp i:=by
 induction L with
 |nil=>simp
 |cons x r ih=>
  simp only[List.map_cons,List.cons_append,zal,List.mem_cons]
  by_cases h:i=x
  ·subst h;simp
  ·simp[h,ih]
section
variable {c:Ctx}
theorem R.drop {G:Gh}{s:St}{a:Act}{w:World} (hr:R c G s a w) (L:List Nat) (hk:∀i l,c.kept i=some l→i∉L):R c G ⟨s.env,L.map (fun j=>(j,none))++s.hp⟩ a w:=by
 have hg:=zsw L s.hp
 have hT:∀i p,tokf (L.map (fun j=>(j,(none:Option Res)))++s.hp) i=some p→tokf s.hp i=some p:=fun i p h=>by
  obtain⟨n,k⟩:=p
  have:=zaw.1 h
  rw[hg] at this
  split at this
  ·cases this
  ·exact zaw.2 this
 have hm:∀ {x:AV}{v:Value},RelA G (tokf s.hp) w x v→RelA G (tokf (L.map (fun j=>(j,(none:Option Res)))++s.hp)) w x v:=fun hx=>
  hx.mono (fun _ _ ho=>⟨ho,rfl⟩) (fun _ _=> .inl rfl) (fun i _ p hp=>⟨hT i p hp,fun _ _=>⟨rfl,rfl⟩⟩)
 have hs:∀i r,getH (L.map (fun j=>(j,(none:Option Res)))++s.hp) i=some r→getH s.hp i=some r:=fun i r h=>by
  rw[hg] at h
  split at h
  ·cases h
  ·exact h
 have hss:∀i,(getH (L.map (fun j=>(j,(none:Option Res)))++s.hp) i).isSome→(getH s.hp i).isSome:=fun i h=>by
  obtain⟨r,hr⟩:=Option.isSome_iff_exists.1 h
  rw[hs i r hr];rfl
 refine⟨hr.size,hr.defers,fun i v h=>hm (hr.slots i v h),fun i r h=>?_,fun i j h1 h2=>hr.disj i j (hss i h1) (hss j h2),fun i h=>hr.new i (hss i h),hr.frm,hr.top,fun i l hl=>?_⟩
 ·have hh:=hr.heap i r (hs i r h)
  cases r with
  |box cs=>
   obtain⟨b,vs,e,h1,h2,h3,h4,h5⟩:=hh
   exact⟨b,vs,e,h1,h2,h3,h4,fun j hj hv=>hm (h5 j hj hv)⟩
  |tok m k=>exact hh
  |map ks=>exact hh
  |tree cs=>exact zbC hh rfl (fun _ _=>⟨rfl,rfl⟩) (Nat.le_refl _) (fun _ _ _=>hm)
 ·obtain⟨k1,k2,k3⟩:=hr.kept i l hl
  refine⟨k1, ?_, ?_⟩
  ·show(getH (L.map (fun j=>(j,(none:Option Res)))++s.hp) i).isSome
   rw[hg,if_neg (hk i l hl)];exact k2
  ·show tokf (L.map (fun j=>(j,(none:Option Res)))++s.hp) i=none
   cases h:tokf (L.map (fun j=>(j,(none:Option Res)))++s.hp) i with
   |none=>rfl
   |some p=>rw[hT i p h] at k3;cases k3
inductive RowT (hp:Hp):List AV→List D→List (Nat×Nat×Nat)→Prop
 |nil:RowT hp [] [] []
 |sc {x cs ds js} (hs:zkd x=true) (h:RowT hp cs ds js):RowT hp (.d x::cs) (x::ds) js
 |ni {cs ds js} (h:RowT hp cs ds js):RowT hp (.nils::cs) (.sl []::ds) js
 |gt {j zs n k cs ds js} (hj:getH hp j=some (.tok n k)) (hn:n=zs.length) (h:RowT hp cs ds js):RowT hp (.gt j zs::cs) (.sl zs::ds) ((j,n,k)::js)
theorem RowT.move {hp hp':Hp}{cs:List AV}{ds:List D}{js:List (Nat×Nat×Nat)} (h:RowT hp cs ds js):(∀q,q∈js→getH hp' q.1=some (.tok q.2.1 q.2.2))→RowT hp' cs ds js:=by
 induction h with
 |nil=>intro _;exact .nil
 |sc hs _ ih=>intro h;exact .sc hs (ih h)
 |ni _ ih=>intro h;exact .ni (ih h)
 |gt hj hn _ ih=>intro h;exact .gt (h (_,_,_) List.mem_cons_self) hn (ih fun q hq=>h q (List.mem_cons_of_mem _ hq))
theorem RowT.len {hp:Hp}{cs:List AV}{ds:List D}{js:List (Nat×Nat×Nat)} (h:RowT hp cs ds js):ds.length=cs.length:=by
 induction h with
 |nil=>rfl
 |sc _ _ ih=>simp[ih]
 |ni _ ih=>simp[ih]
 |gt _ _ _ ih=>simp[ih]
end
end Go.Proofs.YtpgdedpljcedpaaGreat
namespace Go.Proofs.YtpgdedpljcedpaaGreat
open Go
set_option linter.unusedSimpArgs false
set_option linter.unusedVariables false
set_option maxRecDepth 100000
set_option maxHeartbeats 2000000
def smB (n:Nat) (w:List Data):Bool:=decide (w.length≤n)&&w.all fun d=>decide (d.name.length≤n)&&(decide (d.ctors.length≤n)&&d.ctors.all fun c=>decide (c.name.length≤n)&&decide (c.args.length≤n))
structure Sm (n:Nat) (w:List Data):Prop where
 len:w.length≤n
 data:∀d∈w,d.name.length≤n∧d.ctors.length≤n
 ctor:∀d∈w,∀c∈d.ctors,c.name.length≤n∧c.args.length≤n
theorem zsQ {n:Nat}{w:List Data} (h:smB n w=true):Sm n w:=by
 simp only[smB,Bool.and_eq_true,decide_eq_true_eq,List.all_eq_true] at h
 exact⟨h.1,fun d hd=>⟨(h.2 d hd).1,(h.2 d hd).2.1⟩,fun d hd c hc=>(h.2 d hd).2.2 c hc⟩
theorem Sm.small {n:Nat}{w:List Data} (h:Sm n w) (hn:n≤1000000000000):WSmall w:=
 ⟨Nat.le_trans h.len hn,fun d hd=>⟨Nat.le_trans (h.data d hd).1 hn,Nat.le_trans (h.data d hd).2 hn⟩,fun d hd c hc=>⟨Nat.le_trans (h.ctor d hd c hc).1 hn,Nat.le_trans (h.ctor d hd c hc).2 hn⟩⟩
theorem zrR:((List.range 7).all fun i=>smB 10 (zdl (nth zdB i)).1&&(zaH (zdl (nth zdB i)).1&&decide (1≤(zdl (nth zdB i)).1.length)))=true:=by kernel_rfl
structure WorldD (w:List Data):Prop where
 sm:Sm 10 w
 small:WSmall w
 valid:zaH w=true
 one:1≤w.length
theorem zf6 (b:Str) (p:Nat):WorldD (zbf b p):=by
 have h:=List.all_eq_true.1 zrR (zax b p 7).toNat (List.mem_range.2 (zoI b p))
 simp only[Bool.and_eq_true,decide_eq_true_eq] at h
 exact⟨zsQ h.1,(zsQ h.1).small (by omega),h.2.1,h.2.2⟩
theorem znf {w:List Data} (hw:WT w){n:Nat}{f:Nat→Nat}{a k c:Int} (ht:TyIn w.length ⟨a,k⟩) (hc:c∈zah w ⟨a,k⟩) (hn:n≤100) (hb:∀s,f s≤100000) (hin:∀u∈zaa w ⟨a,k⟩ c,InS n u):
  FnD Tryz.prog 98 [.d (zan w),.d (zey n f),.agg [.d (.i a),.d (.i k)],.d (.i c)] [] (.d (.i (most w f ⟨a,k⟩ c))) []:=by
 have hl:=zgQ hw ht hc
 have hd:=zoA hb (by omega)
 refine bd Tryz.f98 37 [] [] fun w0 F0 own kept hk=>?_
 refine bx 3006 ?_
 refine ev ?_
 refine wc zfS (zcs hw ht hc) rfl rfl ?_
 refine ev ?_
 refine CWp.loopX (ι:=List (Ty)×List (Ty)×(Nat)) hk (fun x=>[(11,.d (.i (x.1.length:Int))),(10,.d (.i (x.2.2:Int)))]) [8,12,17,18,19,20,21,22,23,24,25,26,27,28,29,30,31,32,33,34] (fun x=>[]) (fun x=>x.1++x.2.1=zaa w ⟨a,k⟩ c∧x.2.2≤100000∧zbG f x.2.2 x.2.1=zbG f 0 (zaa w ⟨a,k⟩ c)) (fun x=>x.2.1.length) ([],zaa w ⟨a,k⟩ c,0) ⟨by simp,by simp,rfl⟩ ⟨⟨_,rfl,LeA.eqi ?_⟩,⟨⟨_,rfl,LeA.eqi ?_⟩,trivial⟩⟩ trivial (fun x=>rfl) (fun x hg1=>?_)
 iterate 2 focus (first|rfl|(simp;done)|omega|(dsimp only;omega))
 obtain⟨pre,rest,m⟩:=x
 dsimp only at hg1 ⊢
 refine evc [] [] ?_
 refine sq (fun h1 h1p h1s=>?_) fun h1 h1p h1s=>?_
 try simp only[Q] at h1p
 rcases rest with _|⟨y,rest⟩
 ·exfalso;simp_all
 have hdy:=hd y;have hye:dv f ⟨y.data,y.index⟩=dv f y:=rfl
 refine Walk.idx za8 .none rfl rfl rfl rfl (zaN hg1.1) rfl ?_
 refine ev ?_
 refine wc zje (zd4 (f:=f) (a:=y.data) (k:=y.index) (hin y (by rw[←hg1.1];simp)) hn) rfl rfl ?_
 refine ev ?_
 refine sq (fun h2 h2p h2s=>?_) fun h2 h2p h2s=>?_
 try simp only[Q] at h2p
 refine rn0 (r1 rfl) (.eqd ?_)
 rotate_left
 try simp only[Q] at h2p
 refine sq (fun h3 h3p h3s=>?_) fun h3 h3p h3s=>?_
 try simp only[Q] at h3p
 refine ar ?_
 refine Exists.intro ((pre++[y],rest,max m (dv f y))) ⟨⟨(by have hz:=hg1.1;rw[←hz];simp),⟨(by have:=hd y;dsimp only;omega),(by rw[←hg1.2.2];simp only[zbG];rw[if_neg (by have:=hd y;omega)])⟩⟩,(by simp),sx ⟨⟨_,rfl,LeA.eqi ?_⟩,⟨⟨_,rfl,LeA.eqi ?_⟩,trivial⟩⟩ trivial⟩
 iterate 2 focus (first|rfl|(simp;done)|omega|(dsimp only;omega))
 try simp only[Q] at h3p
 refine ar ?_
 refine Exists.intro ((pre++[y],rest,max m (dv f y))) ⟨⟨(by have hz:=hg1.1;rw[←hz];simp),⟨(by have:=hd y;dsimp only;omega),(by rw[←hg1.2.2];simp only[zbG];rw[if_neg (by have:=hd y;omega)])⟩⟩,(by simp),sx ⟨⟨_,rfl,LeA.eqi ?_⟩,⟨⟨_,rfl,LeA.eqi ?_⟩,trivial⟩⟩ trivial⟩
 iterate 2 focus (first|rfl|(simp;done)|omega|(dsimp only;omega))
 try simp only[Q] at h1p
 have hrest:rest=[]:=by
  rcases rest with _|⟨a,b⟩
  ·rfl
  ·exfalso;have hz:=congrArg List.length (hg1.1);simp only[List.length_append,List.length_cons,List.length_map] at hz;omega
 subst hrest
 refine ar ?_
 refine rn0 (r1 rfl) (.eqd ?_)
 rotate_left
 all_goals (refine congrArg D.i ?_;unfold most;rw[←hg1.2.2];first|(simp only[zbG];rw[if_pos (by omega)];rfl)|(simp only[zbG];omega))
def hdB (w:List Data):Nat→Ty→Bool
 |0,_=>false
 |d+1,t=>decide (t.data = -1)||(zba w t).any fun c=>decide (t.data≠ -1)&&(zaa w t c).all (hdB w d)
theorem zmV (w:List Data):∀(d:Nat) (t:Ty),hdB w d t=true↔Hd w d t
 |0,t=>by simp[hdB,Hd]
 |d+1,t=>by
  simp only[hdB,Hd,Bool.or_eq_true,decide_eq_true_eq,List.any_eq_true,Bool.and_eq_true,List.all_eq_true,zmV w d]
def Low (w:List Data):Prop:=∀s,zai w s≤3
theorem zvC {w:List Data} (hd:Dp w) (h:(List.range (w.length*4)).all (fun s=> !hdB w 4 (tyS s)||hdB w 3 (tyS s))=true):Low w:=by
 intro s
 by_cases hs:s<w.length*4
 ·obtain⟨h1,h2⟩:=zc0 hd.cl (w.length*4+1)
  by_cases h0:zai w s=0
  ·omega
  ·have hh:=h1 s hs (Nat.pos_of_ne_zero h0)
   have h3:=zjt hd.cl (d:=3) (by omega) (fun s hs hh=>by
    have:=List.all_eq_true.1 h s (List.mem_range.2 hs)
    rw[(zmV w 4 (tyS s)).2 hh] at this
    exact(zmV w 3 _).1 (by simpa using this)) _ s hs hh
   by_cases h4:3≤w.length*4+1
   ·exact(h2 s hs 3 h4 h3).2
   ·omega
 ·have h0:=ziy (w:=w) (i:=s) (by omega) (w.length*4+1)
  show zbq w (w.length*4+1) s≤3
  omega
theorem zrS:((List.range 7).all fun i=>(List.range ((zdl (nth zdB i)).1.length*4)).all fun s=> !hdB (zdl (nth zdB i)).1 4 (tyS s)||hdB (zdl (nth zdB i)).1 3 (tyS s))=true:=by kernel_rfl
structure WorldL (w:List Data):Prop where
 dp:Dp w
 low:Low w
 few:Few w
theorem zdP (b:Str) (p:Nat):WorldL (zbf b p):=by
 have ho:=zf6 b p
 have hd:=zp8 ho.small ho.valid
 exact⟨hd,zvC hd (List.all_eq_true.1 zrS (zax b p 7).toNat (List.mem_range.2 (zoI b p))),zsZ ho.small ho.valid⟩
theorem zsy {w:List Data} (hd:Dp w){t:Ty} (ht:InS (w.length*4) t) (hne:¬t.data = -1) (h:0<dv (zai w) t):∃c∈zah w t,0<most w (zai w) t c∧most w (zai w) t c=dv (zai w) t:=by
 obtain⟨h1,h2⟩:Snd w (zai w)∧Cmp w (w.length*4+1) (zai w):=zc0 hd.cl (w.length*4+1)
 have hcmp:∀k,Cmp w k (zai w):=fun k=>by
  have h3:=(zc0 hd.cl (max k (w.length*4+1))).2
  rw[zkb hd.cl (Nat.le_max_right _ _)] at h3
  exact fun s hs d hdk hh=>h3 s hs d (by omega) hh
 have hv:zah w t=zba w t:=by unfold zah;rw[if_neg hne]
 have hh:Hd w (dv (zai w) t) t:=zlB h1 ht h
 rcases hd0:dv (zai w) t with _|e
 ·omega
 rw[hd0] at hh
 rcases hh with hh|⟨c,hc,_,hu⟩
 ·exact absurd hh hne
 have hin:=zby hd ht (c:=c) (by rw[hv];exact hc)
 have hp:=zjF (f:=zai w) (l:=zaa w t c) (m:=0) (k:=e) (Nat.zero_le _) (fun u hu'=>zjo (hcmp e) (hin u hu') (hu u hu'))
 refine⟨c,by rw[hv];exact hc,hp.1, ?_⟩
 have hle:most w (zai w) t c≤e+1:=hp.2
 have hpos:0<most w (zai w) t c:=hp.1

 have hsn:=zho (f:=zai w) (l:=zaa w t c) (m:=0) hp.1
 have hH:Hd w (most w (zai w) t c) t:=by
  obtain⟨q,hq⟩:∃q,most w (zai w) t c=q+1:=⟨most w (zai w) t c-1,by omega⟩
  rw[hq]
  refine .inr ⟨c,hc,hne,fun u hu'=>?_⟩
  have hx:=hsn.2 u hu'
  have hlt:dv (zai w) u<most w (zai w) t c:=hx.2
  exact Hd_le (by omega) (zlB h1 (hin u hu') hx.1)
 have hge:=(zjo (hcmp _) ht hH).2
 omega
def zdh (w:List Data) (f:Nat→Nat) (t:Ty) (m c:Int):Bool:=decide (0<most w f t c)&&decide ((most w f t c:Int)≤m∨most w f t c=dv f t)
def zck (w:List Data) (f:Nat→Nat) (t:Ty) (m:Int):List Int:=(zah w t).filter (zdh w f t m)
theorem zft {P:Int→Bool}{pre:List Int}{y:Int} (h:P y=true):((pre++[y]).filter P).map (fun n=>[D.i n])=(pre.filter P).map (fun n=>[D.i n])++[[D.i y]]:=by simp[List.filter_append,h]
theorem zmR {P:Int→Bool}{pre:List Int}{y:Int} (h:P y=false):((pre++[y]).filter P).map (fun n=>[D.i n])=(pre.filter P).map (fun n=>[D.i n]):=by simp[List.filter_append,h]
def dV (f:Ty→Nat→Val×Nat):List Ty→Nat→List Val×Nat
 | [],q=>([],q)
 |t::r,q=>((f t q).1::(dV f r (f t q).2).1,(dV f r (f t q).2).2)
def zbZ (b:Str) (w:List Data) (f:Nat→Nat):Nat→Ty→Int→Nat→Val×Nat
 |0,_,_,p=>(.mk 0 0 [],p)
 |n+1,t,m,p=>
  if t.data = -1 then (.mk (-1) (zax b p 10) [],p+1)
  else (.mk (nth (zck w f t m) (zax b p (zck w f t m).length).toNat) 0 (dV (fun u q=>zbZ b w f n u (m-1) q) (zaa w t (nth (zck w f t m) (zax b p (zck w f t m).length).toNat)) (p+1)).1,
   (dV (fun u q=>zbZ b w f n u (m-1) q) (zaa w t (nth (zck w f t m) (zax b p (zck w f t m).length).toNat)) (p+1)).2)
abbrev dW (b:Str) (w:List Data) (n:Nat) (m:Int):Ty→Nat→Val×Nat:=fun u x=>zbZ b w (zai w) n u (m-1) x
def bdV:Nat→Nat
 |0=>0
 |d+1=>1+3*bdV d
def szV:Nat→Nat
 |0=>1
 |d+1=>1+3*szV d
theorem zt1 {f:Ty→Nat→Val×Nat}{k:Nat}:∀(l:List Ty) (q:Nat),(∀t∈l,∀q,(f t q).2≤q+k)→(dV f l q).2≤q+l.length*k
 | [],q,_=>by simp[dV]
 |t::r,q,h=>by
  have h1:=h t (by simp) q
  have h2:=zt1 r (f t q).2 (fun x hx=>h x (by simp[hx]))
  simp only[dV,List.length_cons,Nat.add_mul];omega
theorem zsl {f:Ty→Nat→Val×Nat}:∀(l:List Ty) (q:Nat),(dV f l q).1.length=l.length
 | [],q=>rfl
 |t::r,q=>by simp only[dV,List.length_cons,zsl r]
theorem zt2 {f:Ty→Nat→Val×Nat}{k:Nat}:∀(l:List Ty) (q:Nat),(∀t∈l,∀q,(f t q).1.size≤k∧(f t q).1.ok)→Vals.size (dV f l q).1≤l.length*k∧Vals.ok (dV f l q).1
 | [],q,_=>by simp[dV,Vals.size,Vals.ok]
 |t::r,q,h=>by
  have h1:=h t (by simp) q
  have h2:=zt2 r (f t q).2 (fun x hx=>h x (by simp[hx]))
  simp only[dV,List.length_cons,Nat.add_mul,Vals.size,Vals.ok]
  exact⟨by omega,h1.2,h2.2⟩
theorem zjr {w:List Data}{f:Nat→Nat}{t:Ty}{m c:Int} (h:c∈zck w f t m):c∈zah w t∧0<most w f t c∧((most w f t c:Int)≤m∨most w f t c=dv f t):=by
 have:=List.mem_filter.1 h
 simpa [zdh] using this
structure Deep (w:List Data) (n:Nat) (t:Ty) (m:Int):Prop where
 ins:InS (w.length*4) t
 pos:0<dv (zai w) t
 le:dv (zai w) t≤n
 ml:m≤n
theorem zo9 {w:List Data} (hd:Dp w){n:Nat}{t:Ty}{m:Int} (h:Deep w n t m) (hne:¬t.data = -1):1≤(zck w (zai w) t m).length:=by
 obtain⟨c,hc,h1,h2⟩:=zsy hd h.ins hne h.pos
 exact List.length_pos_of_mem (a:=c) (List.mem_filter.2 ⟨hc,by have:=h.pos;simp[zdh,h2,this]⟩)
theorem zo5 {w:List Data} (hd:Dp w){n:Nat}{t:Ty}{m c:Int} (h:Deep w (n+1) t m) (hc:c∈zck w (zai w) t m):∀u∈zaa w t c,Deep w n u (m-1):=by
 intro u hu
 obtain⟨h1,h2,h3⟩:=zjr hc
 have hin:=zby hd h.ins h1 u hu
 have hs:=(zho (f:=zai w) (l:=zaa w t c) (m:=0) h2).2 u hu
 have hlt:dv (zai w) u<most w (zai w) t c:=hs.2
 have:=h.le;have:=h.ml
 exact⟨hin,hs.1,by rcases h3 with h3|h3<;>omega,by omega⟩
theorem zn1 {w:List Data} (hd:Dp w){n:Nat}{t:Ty}{m:Int} (h:Deep w n t m) (hne:¬t.data = -1) (b:Str) (p:Nat):nth (zck w (zai w) t m) (zax b p (zck w (zai w) t m).length).toNat∈zck w (zai w) t m:=
 ziD (by have:=zo9 hd h hne;omega)
theorem ziq {b:Str}{w:List Data} (hd:Dp w) (hf:Few w):∀(n:Nat) (t:Ty) (m:Int) (p:Nat),Deep w n t m→(zbZ b w (zai w) n t m p).2≤p+bdV n∧(zbZ b w (zai w) n t m p).1.size≤szV n∧(zbZ b w (zai w) n t m p).1.ok
 |0,t,m,p,h=>by have:=h.pos;have:=h.le;omega
 |n+1,t,m,p,h=>by
  simp only[zbZ,bdV,szV]
  split
  ·refine⟨by dsimp only;omega, ?_, ?_⟩
   ·simp only[Val.size,Vals.size];omega
   ·simp[Val.ok,Vals.ok]
  ·rename_i hne
   have hm:=zn1 hd h hne b p
   generalize nth (zck w (zai w) t m) (zax b p (zck w (zai w) t m).length).toNat=c at *
   have hk:=zo5 hd h hm
   have h3:=(hf t c (zjr hm).1 (zcc h.ins)).1
   have h1:=zt1 (f:=fun u q=>zbZ b w (zai w) n u (m-1) q) (k:=bdV n) (zaa w t c) (p+1) (fun u hu q=>(ziq hd hf n u (m-1) q (hk u hu)).1)
   have h2:=zt2 (f:=fun u q=>zbZ b w (zai w) n u (m-1) q) (k:=szV n) (zaa w t c) (p+1) (fun u hu q=>(ziq hd hf n u (m-1) q (hk u hu)).2)
   have h4:(zaa w t c).length*bdV n≤3*bdV n:=Nat.mul_le_mul_right _ h3
   have h5:(zaa w t c).length*szV n≤3*szV n:=Nat.mul_le_mul_right _ h3
   have h6:=zsl (f:=fun u q=>zbZ b w (zai w) n u (m-1) q) (zaa w t c) (p+1)
   refine⟨by dsimp only;omega, ?_, ?_⟩
   ·simp only[Val.size];omega
   ·simp only[Val.ok];exact⟨by omega,h2.2⟩
section
variable {b:Str}{w:List Data}{f:Nat→Nat}{n p:Nat}{t:Ty}{m:Int}
theorem zup (h:t.data = -1):zbZ b w f (n+1) t m p=(.mk (-1) (zax b p 10) [],p+1):=by simp only[zbZ];rw[if_pos h]
theorem zuq (h:¬t.data = -1){c:Int} (hc:nth (zck w f t m) (zax b p (zck w f t m).length).toNat=c):zbZ b w f (n+1) t m p =
  (.mk c 0 (dV (fun u q=>zbZ b w f n u (m-1) q) (zaa w t c) (p+1)).1,(dV (fun u q=>zbZ b w f n u (m-1) q) (zaa w t c) (p+1)).2):=by
 simp only[zbZ];rw[if_neg h,hc]
end
theorem zh5 {b:Str}{w:List Data} (hb:b.length≤2000) (hd:Dp w) (hf:Few w):∀(n:Nat){a k m:Int}{p:Nat},Deep w n ⟨a,k⟩ m→(n:Int)-10≤m→n≤5→p+bdV n≤1000000→
  FnD Tryz.prog 189 [.ref 900 0,.d (zan w),.d (zey (w.length*4) (zai w)),.agg [.d (.i a),.d (.i k)],.d (.i m)] [(900,some (rdB b p))]
   (.agg [.d (.i (zbZ b w (zai w) n ⟨a,k⟩ m p).1.ctor),.d (.i (zbZ b w (zai w) n ⟨a,k⟩ m p).1.num),.d (zj6 (zbZ b w (zai w) n ⟨a,k⟩ m p).1.kids)]) [(900,some (rdB b (zbZ b w (zai w) n ⟨a,k⟩ m p).2))]
 |0,a,k,m,p,h,_,_,_=>by have:=h.pos;have:=h.le;omega
 |n+1,a,k,m,p,h,hm,hn5,hp=>by
  have ht:=zcc h.ins
  have hml:=h.ml
  have h4:=hd.four
  have hbd:bdV (n+1)=1+3*bdV n:=rfl
  have hfb:∀s,zai w s≤100000:=zm5 hd (k:=w.length*4+1) (s:=0) (by omega) (by omega) (pre:=[]) (by simp)
  have hcl:=zgE hd.wt ht
  have hfl:(zck w (zai w) ⟨a,k⟩ m).length≤(zah w ⟨a,k⟩).length:=List.length_filter_le _ _
  have hflm:((((zah w ⟨a,k⟩).filter (zdh w (zai w) ⟨a,k⟩ m)).map fun n=>[D.i n]).length:Int)=(zck w (zai w) ⟨a,k⟩ m).length:=by rw[List.length_map];rfl
  have hfp:=fun hne=>zo9 hd h hne
  have v14:=fun hh=>zc2 (b:=b) (p:=p) (n:=((zck w (zai w) ⟨a,k⟩ m).length:Int)) hh
  have hmem:=fun hne=>zn1 hd h hne b p
  have hdm:=zup (b:=b) (w:=w) (f:=zai w) (n:=n) (p:=p) (t:=⟨a,k⟩) (m:=m)
  have hdm2:=fun hne=>zuq (b:=b) (w:=w) (f:=zai w) (n:=n) (p:=p) (t:=⟨a,k⟩) (m:=m) hne rfl
  generalize hcc:nth (zck w (zai w) ⟨a,k⟩ m) (zax b p (zck w (zai w) ⟨a,k⟩ m).length).toNat=cc at *
  have hfm:=fun hne=>zjr (hmem hne)
  have hkid:=fun hne=>zo5 hd h (hmem hne)
  have hfw:=fun hne=>(hf ⟨a,k⟩ cc (hfm hne).1 ht).1
  have hok:=fun u q hu=>ziq (b:=b) hd hf n u (m-1) q hu
  have hat:¬a = -1→(((zah w ⟨a,k⟩).filter (zdh w (zai w) ⟨a,k⟩ m)).map fun n=>[D.i n])[(zax b p (zck w (zai w) ⟨a,k⟩ m).length).toNat]?=some [D.i cc]:=fun hne=>by
   rw[←hcc];exact zau (l:=zck w (zai w) ⟨a,k⟩ m) (by have:=v14 (by have:=hfp hne;omega);omega)
  refine bd Tryz.f189 98 [] [9,11] fun w0 F0 own kept hk=>?_
  refine bx 3008 ?_
  refine ab 3010 tz44 ?_
  refine tv ?_
  refine sq (fun h1 h1p h1s=>?_) fun h1 h1p h1s=>?_
  try simp only[Q] at h1p
  refine wd zc5 (zbp (p:=p) (n:=10) hb (by omega) (by omega)) rfl rfl ⟨rfl,trivial⟩ ?_
  refine bu [0,1] [_,_] st44 ?_
  refine so ty44 ?_
  refine tv ?_
  refine rn [(900,some (rdB b (zbZ b w (zai w) (n+1) ⟨a,k⟩ m p).2))] (.cons (.cellA ty44 rfl rfl rfl) .nil) (.agg (.cons (.eqd ?_) (.cons (.eqd ?_) (.cons (.nild ?_) .nil)))) ⟨rfl,rfl⟩ (SubO.get ⟨.inr ?_,⟨.inl rfl,trivial⟩⟩) (zaG rfl)
  rotate_left 4
  try simp only[Q] at h1p
  refine wc zhh (zcj hd.wt ht) rfl rfl ?_
  refine ev ?_
  refine Walk.sliceEmptyG 5 sl62 .none rfl rfl ?_
  refine ev ?_
  refine CWp.loopX (ι:=List (Int)×List (Int)) hk (fun x=>[(13,.d (.i (x.1.length:Int))),(12,.gl 5 ((x.1.filter (zdh w (zai w) ⟨a,k⟩ m)).map fun n=>[D.i n]))]) [14,28,29,30,31,32,33,34,35,36,37,38,39,40,41,42,43,44,45,46,47,48,49,50,51,52,53,54,55,56,57,58,59,60,61,62] (fun x=>[(5,some (.tok (((x.1.filter (zdh w (zai w) ⟨a,k⟩ m)).map fun n=>[D.i n])).length 1))]) (fun x=>x.1++x.2=zah w ⟨a,k⟩) (fun x=>x.2.length) ([],zah w ⟨a,k⟩) (by simp) ⟨⟨_,rfl,LeA.eqi ?_⟩,⟨⟨_,rfl,LeA.glg ?_⟩,trivial⟩⟩ ⟨zab ?_,trivial⟩ (fun x=>rfl) (fun x hg1=>?_)
  iterate 3 focus (first|rfl|(simp;done)|omega|(rw[zft (by assumption)];all_goals rfl)|(rw[zmR (by assumption)];all_goals rfl)|(rw[zft (by assumption)];simp;done)|(simp;omega))
  obtain⟨pre,rest⟩:=x
  dsimp only at hg1 ⊢
  refine evc [] [9,11] ?_
  refine sq (fun h2 h2p h2s=>?_) fun h2 h2p h2s=>?_
  try simp only[Q] at h2p
  rcases rest with _|⟨y,rest⟩
  ·exfalso;simp_all
  refine Walk.idx sl62 .none rfl rfl rfl rfl (zaN hg1) rfl ?_
  refine evd [] [] ?_
  refine wc ztW (znf hd.wt ht (c:=y) (by rw[←hg1];simp) (by omega) hfb (zby hd h.ins (by rw[←hg1];simp))) rfl rfl ?_
  refine evd [] [] ?_
  refine dr ?_
  refine CWp.regionJ ?_
  refine WRest.join 14 [(55,.d (.bool (zdh w (zai w) ⟨a,k⟩ m y)))] [42,43,44,45,46,47,48,49,50,51,52,53,54] ?_ ?_
  refine ev ?_
  refine sq (fun h3 h3p h3s=>?_) fun h3 h3p h3s=>?_
  try simp only[Q] at h3p
  refine sq (fun h4 h4p h4s=>?_) fun h4 h4p h4s=>?_
  try simp only[Q] at h4p
  focus (exact jn rfl (LeA.eqb (by first|rfl|(unfold zdh;rw[Bool.eq_iff_iff];simp_all;done)|(unfold zdh;rw[Bool.eq_iff_iff];simp_all;omega))))
  try simp only[Q] at h4p
  refine Walk.call (cr:=[]) zje (zd4 h.ins (by omega)) rfl (.some rfl rfl h4) rfl rfl (LeL.refl _) trivial rfl rfl rfl ?_
  refine evs [] [(44,true),(48,false)] ?_ ⟨⟨_,rfl,h3⟩,⟨_,rfl,h4⟩,trivial⟩
  focus (exact jn rfl (LeA.eqb (by first|rfl|(unfold zdh;rw[Bool.eq_iff_iff];simp_all;done)|(unfold zdh;rw[Bool.eq_iff_iff];simp_all;omega))))
  try simp only[Q] at h3p
  focus (exact jn rfl (LeA.eqb (by first|rfl|(unfold zdh;rw[Bool.eq_iff_iff];simp_all;done)|(unfold zdh;rw[Bool.eq_iff_iff];simp_all;omega))))
  refine WRest.done ?_
  refine tv ?_
  refine sq (fun h5 h5p h5s=>?_) fun h5 h5p h5s=>?_
  try simp only[Q] at h5p
  refine Walk.idx sl62 .none rfl rfl rfl rfl (zaN hg1) rfl ?_
  refine ev ?_
  refine si [0] [_] sl62 tz3 ?_
  refine ap sl62 zz3 rfl rfl rfl (by simp) (by first|(have hz:=congrArg List.length hg2.1;have:=hfw (by omega);simp at hz ⊢;omega)|(have hz:=congrArg List.length hg1;have hq:=List.length_filter_le (zdh w (zai w) ⟨a,k⟩ m) pre;simp at hz ⊢;omega)) ?_
  refine ev ?_
  refine ar ?_
  refine Exists.intro ((pre++[y],rest)) ⟨(by have hz:=hg1;rw[←hz];simp),(by simp),sx ⟨⟨_,rfl,LeA.eqi ?_⟩,⟨⟨_,rfl,LeA.glg ?_⟩,trivial⟩⟩ ⟨zab ?_,trivial⟩⟩
  iterate 3 focus (first|rfl|(simp;done)|omega|(rw[zft (by assumption)];all_goals rfl)|(rw[zmR (by assumption)];all_goals rfl)|(rw[zft (by assumption)];simp;done)|(simp;omega))
  try simp only[Q] at h5p
  refine ar ?_
  refine Exists.intro ((pre++[y],rest)) ⟨(by have hz:=hg1;rw[←hz];simp),(by simp),sx ⟨⟨_,rfl,LeA.eqi ?_⟩,⟨⟨_,rfl,LeA.glg ?_⟩,trivial⟩⟩ ⟨zab ?_,trivial⟩⟩
  iterate 3 focus (first|rfl|(simp;done)|omega|(rw[zft (by assumption)];all_goals rfl)|(rw[zmR (by assumption)];all_goals rfl)|(rw[zft (by assumption)];simp;done)|(simp;omega))
  try simp only[Q] at h2p
  have hrest:rest=[]:=by
   rcases rest with _|⟨a,b⟩
   ·rfl
   ·exfalso;have hz:=congrArg List.length (hg1);simp only[List.length_append,List.length_cons,List.length_map] at hz;omega
  subst hrest
  rw[List.append_nil] at hg1;subst hg1
  refine evc [] [] ?_
  refine wd zc5 (zbp (p:=p) (n:=((((zah w ⟨a,k⟩).filter (zdh w (zai w) ⟨a,k⟩ m)).map fun n=>[D.i n]).length:Int)) hb (by omega) (by omega)) rfl rfl ⟨rfl,trivial⟩ ?_
  refine Walk.idxG (i:=(zax b p (zck w (zai w) ⟨a,k⟩ m).length).toNat) sl62 .none rfl rfl rfl (by rw[hflm];have:=v14 (by have:=hfp (by omega);omega);omega) (hat (by omega)) rfl ?_
  refine ev ?_
  refine bu [0] [_] st44 ?_
  refine ab 3015 tz44 ?_
  refine so ty44 ?_
  refine tv ?_
  refine wc zfS (zcs hd.wt ht (hfm (by omega)).1) rfl rfl ?_
  refine ev ?_
  refine CWp.tokB 3015 2 1 3 rfl rfl rfl rfl ?_
  refine CWp.loopX (ι:=List (Ty)×List (Ty)×(Nat)×(List Val)) hk (fun x=>[(17,.d (.i (x.1.length:Int)))]) [76,77,78,79,80,81,82,83,84,85,86,87,88,89,90,91,92,93,94,95,96] (fun x=>[(900,some (.box [.d (zcy b),.d (.i (x.2.2.1:Int))])),(3015,some (.box [.d (.i cc),.d (.i 0),.gl 1 (x.2.2.2.map Val.cc)])),(1,some (.tok (x.2.2.2.map Val.cc).length 3))]) (fun x=>x.1++x.2.1=zaa w ⟨a,k⟩ cc∧x.2.2.1≤p+1+x.1.length*bdV n∧x.2.2.2.length=x.1.length∧(x.2.2.2++(dV (dW b w n m) x.2.1 x.2.2.1).1,(dV (dW b w n m) x.2.1 x.2.2.1).2)=dV (dW b w n m) (zaa w ⟨a,k⟩ cc) (p+1)) (fun x=>x.2.1.length) ([],zaa w ⟨a,k⟩ cc,p+1,[]) ⟨by simp,by simp,by simp,by simp⟩ ⟨⟨_,rfl,LeA.eqi ?_⟩,trivial⟩ ⟨?_,⟨?_,⟨zab ?_,trivial⟩⟩⟩ (fun x=>rfl) (fun x hg2=>?_)
  focus (first|rfl|(simp;done)|omega|(simp;omega))
  iterate 2 focus (first|rfl|(simp[getH];done))
  focus (first|rfl|(simp;done)|omega|(simp;omega))
  obtain⟨pre,rest,q,ks⟩:=x
  dsimp only at hg2 ⊢
  refine evc [] [9,11] ?_
  refine sq (fun h6 h6p h6s=>?_) fun h6 h6p h6s=>?_
  try simp only[Q] at h6p
  rcases rest with _|⟨y,rest⟩
  ·exfalso;simp_all
  have hfw3:=hfw (by omega);have hpm:pre.length*bdV n≤2*bdV n:=Nat.mul_le_mul_right _ (by have hz:=congrArg List.length hg2.1;have:=hfw (by omega);simp at hz;omega)
  refine Walk.idx za8 .none rfl rfl rfl rfl (zaN hg2.1) rfl ?_
  refine evd [] [] ?_
  refine ar ?_
  refine wd zoZ (zh5 hb hd hf n (a:=y.data) (k:=y.index) (m:=m-1) (p:=q) (hkid (by omega) y (by rw[←hg2.1];simp)) (by omega) (by omega) (by omega)) rfl rfl ⟨rfl,trivial⟩ ?_
  refine si [0] [_] sl37 tz44 ?_
  refine ap sl37 zz44 rfl rfl rfl (by simp) (by first|(have hz:=congrArg List.length hg2.1;have:=hfw (by omega);simp at hz ⊢;omega)|(have hz:=congrArg List.length hg1;have hq:=List.length_filter_le (zdh w (zai w) ⟨a,k⟩ m) pre;simp at hz ⊢;omega)) ?_
  refine evd [] [] ?_
  refine so ty37 ?_
  refine dr ?_
  refine ar ?_
  refine Exists.intro ((pre++[y],rest,(zbZ b w (zai w) n y (m-1) q).2,ks++[(zbZ b w (zai w) n y (m-1) q).1])) ⟨⟨(by have hz:=hg2.1;rw[←hz];simp),⟨(by have:=(hok y q (hkid (by omega) y (by rw[←hg2.1];simp))).1;simp only[List.length_append,List.length_cons,List.length_nil,Nat.add_mul];omega),(by simp[hg2.2.2.1]),(by rw[←hg2.2.2.2];simp[dV])⟩⟩,(by simp),sx ⟨⟨_,rfl,LeA.eqi ?_⟩,trivial⟩ ⟨?_,⟨?_,⟨zab ?_,trivial⟩⟩⟩⟩
  focus (first|rfl|(simp;done)|omega|(simp;omega))
  iterate 2 focus (first|rfl|(simp[getH];done))
  focus (first|rfl|(simp;done)|omega|(simp;omega))
  try simp only[Q] at h6p
  have hrest:rest=[]:=by
   rcases rest with _|⟨a,b⟩
   ·rfl
   ·exfalso;have hz:=congrArg List.length (hg2.1);simp only[List.length_append,List.length_cons,List.length_map] at hz;omega
  subst hrest
  refine so ty44 ?_
  refine tv ?_
  refine rn [(900,some (rdB b (zbZ b w (zai w) (n+1) ⟨a,k⟩ m p).2))] (.cons (.cellA ty44 rfl rfl rfl) .nil) (.agg (.cons (.eqd ?_) (.cons (.eqd ?_) (.cons (.gld ?_) .nil)))) ⟨rfl,rfl⟩ (SubO.get ⟨.inr ?_,⟨.inl rfl,trivial⟩⟩) (zaG rfl)
  rotate_left 4
  all_goals (first|((first|(rw[hdm (by omega)];all_goals rfl)|(rw[hdm2 (by omega)];have hfin:=hg2.2.2.2;simp only[dV,List.append_nil] at hfin;rw[←hfin];all_goals first|rfl|(show _=D.sl (Val.cs _);rw[Val.cs_cc];all_goals rfl)|(show _=Val.cs _;rw[Val.cs_cc];all_goals rfl)));done)|(first|(rw[hdm (by omega)];all_goals rfl)|(rw[hdm2 (by omega)];have hfin:=hg2.2.2.2;simp only[dV,List.append_nil] at hfin;rw[←hfin];all_goals rfl)))
def zfo (b:Str) (p:Nat):Ty:=⟨zax b (p+1) (zbf b p).length,numV b (p+2) [0,0,1,2]⟩
def typT (b:Str) (p:Nat):Ty:=if dv (zai (zbf b p)) (zfo b p)=0 then ⟨-1,0⟩ else zfo b p
def typV (b:Str) (p:Nat):Val×Nat:=zbZ b (zbf b p) (zai (zbf b p)) 4 (typT b p) (numV b (p+3) [3,2,4,1]) (p+4)
theorem zvA {n:Nat}{a k:Int} (h1:0≤a) (h2:a<n) (h3:0≤k) (h4:k≤3):InS (n*4) ⟨a,k⟩:=by
 refine .inr ⟨?_, ?_⟩
 ·simp only[zcE];omega
 ·obtain⟨i,rfl⟩:=Int.eq_ofNat_of_zero_le h1
  obtain⟨m,rfl⟩:=Int.eq_ofNat_of_zero_le h3
  simp only[zcE,Int.toNat_natCast]
  exact zha (by omega)
theorem zuD (b:Str) (p:Nat):0≤numV b p [0,0,1,2]∧numV b p [0,0,1,2]≤3:=by
 have:=zk4 (b:=b) (p:=p) (l:=[0,0,1,2]) (by simp)
 simp only[List.mem_cons,List.not_mem_nil,or_false] at this
 omega
theorem zp7 (b:Str) (p:Nat):InS ((zbf b p).length*4) (zfo b p):=by
 have h1:=zc2 (b:=b) (p:=p+1) (n:=((zbf b p).length:Int)) (by have:=(zf6 b p).one;omega)
 have h2:=zuD b (p+2)
 exact zvA h1.1 h1.2 h2.1 h2.2
theorem zjW (b:Str) (p:Nat):Deep (zbf b p) 4 (typT b p) (numV b (p+3) [3,2,4,1]):=by
 have hl:=zdP b p
 have h4:=num4 b (p+3)
 unfold typT
 split
 ·exact⟨.inl rfl,by simp[dv],by simp[dv],by omega⟩
 ·rename_i h
  have:=zoA (f:=zai (zbf b p)) (b:=3) hl.low (by omega) (zfo b p)
  exact⟨zp7 b p,by omega,by omega,by omega⟩
theorem zq9 (b:Str) (p:Nat):(typV b p).2≤p+44∧(typV b p).1.size≤121∧(typV b p).1.ok:=by
 have hl:=zdP b p
 have h:=ziq (b:=b) hl.dp hl.few 4 (typT b p) (numV b (p+3) [3,2,4,1]) (p+4) (zjW b p)
 have e1:bdV 4=40:=by decide
 have e2:szV 4=121:=by decide
 unfold typV
 exact⟨by omega,by omega,h.2.2⟩
theorem zmo {b:Str}{p:Nat} (hb:b.length≤2000) (hp:p≤100000):
  FnD Tryz.prog 144 [.ref 900 0] [(900,some (rdB b p))] (.tup [.d (zan (zbf b p)),.agg [.d (.i (typT b p).data),.d (.i (typT b p).index)],.agg [.d (.i (typV b p).1.ctor),.d (.i (typV b p).1.num),.d (zj6 (typV b p).1.kids)]]) [(900,some (rdB b (typV b p).2))]:=by
 have ho:=zf6 b p
 have hl:=zdP b p
 have h4:=num4 b (p+3)
 have hin:=zp7 b p
 have hdeep:=zjW b p
 have hT:typT b p=if dv (zai (zbf b p)) (zfo b p)=0 then ⟨-1,0⟩ else zfo b p:=rfl
 have hV:typV b p=zbZ b (zbf b p) (zai (zbf b p)) 4 (typT b p) (numV b (p+3) [3,2,4,1]) (p+4):=rfl
 have e1:bdV 4=40:=by decide
 have hwd:=zmn (p:=p) hb (by omega)
 have hpk:=zbp (b:=b) (p:=p+1) (n:=(((zbf b p).map Data.c).length:Int)) hb (by omega) (by have:=ho.small.len;simp;omega)
 rw[show zax b (p+1) (((zbf b p).map Data.c).length:Int)=(zfo b p).data by rw[List.length_map];rfl] at hpk
 have hnu:=zcU (b:=b) (p:=p+2) (l:=[0,0,1,2]) hb (by omega) (by simp) (by simp)
 rw[show numV b (p+2) [0,0,1,2]=(zfo b p).index from rfl] at hnu
 have hdr:=fun(t:Ty) (h:Deep (zbf b p) 4 t (numV b (p+3) [3,2,4,1]))=>zh5 hb hl.dp hl.few 4 (a:=t.data) (k:=t.index) (p:=p+4) h (by omega) (by omega) (by omega)
 have hdp:=zd4 (f:=zai (zbf b p)) (a:=(zfo b p).data) (k:=(zfo b p).index) hin (by have:=hl.dp.four;omega)
 have htb:=zhu hl.dp
 generalize zbf b p=w at *
 generalize zfo b p=t0 at *
 obtain⟨a0,k0⟩:=t0
 have hdr2:=hdr ⟨-1,0⟩
 have hdr3:=hdr ⟨a0,k0⟩
 clear hdr
 dsimp only at hT hV hdr2 hdr3
 refine bd Tryz.f144 35 [] [] fun w0 F0 own kept hk=>?_
 refine ab 3003 tz25 ?_
 refine ab 3004 tz44 ?_
 refine tv ?_
 refine wd zvf (hwd) rfl rfl ⟨rfl,trivial⟩ ?_
 refine ev ?_
 refine wc zox (htb) rfl rfl ?_
 refine ev ?_
 refine wd zc5 (hpk) rfl rfl ⟨rfl,trivial⟩ ?_
 refine ev ?_
 refine si [0,1,2,3] [_,_,_,_] sl62 tz3 ?_
 refine wd zhg (hnu) rfl rfl ⟨rfl,trivial⟩ ?_
 refine bu [0,1] [_,_] st25 ?_
 refine ab 3007 tz25 ?_
 refine so ty25 ?_
 refine tv ?_
 refine wc zje (hdp) rfl rfl ?_
 refine ev ?_
 refine sq (fun h1 h1p h1s=>?_) fun h1 h1p h1s=>?_
 try simp only[Q] at h1p
 have HDR:=hdr2 (by rw[if_pos (by omega)] at hT;rw[←hT];exact hdeep)
 refine bu [0] [_] st25 ?_
 refine so ty25 ?_
 refine tv ?_
 refine si [0,1,2,3] [_,_,_,_] sl62 tz3 ?_
 refine wd zhg (zcU (b:=b) (p:=p+3) (l:=[3,2,4,1]) hb (by omega) (by simp) (by simp)) rfl rfl ⟨rfl,trivial⟩ ?_
 refine wd zoZ (HDR) rfl rfl ⟨rfl,trivial⟩ ?_
 refine evd [] [] ?_
 refine so ty25 ?_
 refine so ty44 ?_
 refine dr ?_
 refine rn [(900,some (rdB b (typV b p).2))] (.cons (.tmp rfl) (.cons (.cellA ty25 rfl rfl rfl) (.cons (.cellA ty44 rfl rfl rfl) .nil))) (.tup (.cons (.eqd ?_) (.cons (.agg (.cons (.eqd ?_) (.cons (.eqd ?_) .nil))) (.cons (.agg (.cons (.eqd ?_) (.cons (.eqd ?_) (.cons (.eqd ?_) .nil)))) .nil)))) ⟨rfl,rfl⟩ (SubO.get ⟨.inr ?_,⟨.inl rfl,trivial⟩⟩) (zaG rfl)
 rotate_left 7
 try simp only[Q] at h1p
 have HDR:=hdr3 (by rw[if_neg (by omega)] at hT;rw[←hT];exact hdeep)
 refine si [0,1,2,3] [_,_,_,_] sl62 tz3 ?_
 refine wd zhg (zcU (b:=b) (p:=p+3) (l:=[3,2,4,1]) hb (by omega) (by simp) (by simp)) rfl rfl ⟨rfl,trivial⟩ ?_
 refine wd zoZ (HDR) rfl rfl ⟨rfl,trivial⟩ ?_
 refine evd [] [] ?_
 refine so ty25 ?_
 refine so ty44 ?_
 refine dr ?_
 refine rn [(900,some (rdB b (typV b p).2))] (.cons (.tmp rfl) (.cons (.cellA ty25 rfl rfl rfl) (.cons (.cellA ty44 rfl rfl rfl) .nil))) (.tup (.cons (.eqd ?_) (.cons (.agg (.cons (.eqd ?_) (.cons (.eqd ?_) .nil))) (.cons (.agg (.cons (.eqd ?_) (.cons (.eqd ?_) (.cons (.eqd ?_) .nil)))) .nil)))) ⟨rfl,rfl⟩ (SubO.get ⟨.inr ?_,⟨.inl rfl,trivial⟩⟩) (zaG rfl)
 rotate_left 7
 all_goals (first|((first|(rw[if_pos (by omega)] at hT;rw[hV,hT];all_goals rfl)|(rw[if_neg (by omega)] at hT;rw[hV,hT];all_goals rfl)|(rw[if_pos (by omega)] at hT;rw[hT];all_goals rfl)|(rw[if_neg (by omega)] at hT;rw[hT];all_goals rfl)|rfl);done)|(first|(rw[if_pos (by omega)] at hT;rw[hV,hT];all_goals rfl)|(rw[if_neg (by omega)] at hT;rw[hV,hT];all_goals rfl)))
structure CaseW (w:List Data):Prop where
 small:WSmall w
 valid:zaH w=true
 one:1≤w.length
 ct:∀k:Int,k=0∨k=1∨k=2→1≤(zah w ⟨0,k⟩).length
theorem Pats.len_size:∀l:List Pat,l.length≤Pats.size l
 | []=>Nat.zero_le _
 |v::r=>by
  have:=Pats.len_size r
  have h:=Pat.size_eq v
  simp only[List.length_cons,Pats.size];omega
theorem zq2 {x:Pat} (hx:x.ok):∀ {l:List Pat}{i:Nat},Pats.ok l→Pats.ok (l.set i x)
 | [],_,_=>by simp[Pats.ok]
 |y::r,0,h=>⟨hx,h.2⟩
 |y::r,i+1,h=>⟨h.1,zq2 hx h.2⟩
theorem zqt {x:Pat} (hx:x.ok):∀ {l:List Pat},Pats.ok l→Pats.ok (l++[x])
 | [],_=>⟨hx,trivial⟩
 |y::r,h=>⟨h.1,zqt hx h.2⟩
theorem zq3 {x:Pat}:∀ {l:List Pat}{i:Nat},Pats.size (l.set i x)≤Pats.size l+x.size
 | [],_=>by simp[Pats.size]
 |y::r,0=>by simp only[List.set_cons_zero,Pats.size];omega
 |y::r,i+1=>by have:=zq3 (x:=x) (l:=r) (i:=i);simp only[List.set_cons_succ,Pats.size];omega
theorem zuB {b:Str}{p:Pat}{q:Nat} (hs:p.size≤1000) (hok:p.ok):(mutP b p q).1.size≤2000∧(mutP b p q).1.ok:=by
 have hv:zb4.size=1∧zb4.ok:=⟨by rw[Pat.size_eq];rfl,by rw[Pat.ok_iff];exact⟨by simp[zb4,Pat.kids],trivial⟩⟩
 have h0:=Pat.size_eq p
 rw[Pat.ok_iff] at hok
 have same:∀a c n m v:Int,(Pat.mk a c n m v p.kids).size≤2000∧(Pat.mk a c n m v p.kids).ok:=fun a c n m v=>by
  refine⟨by rw[Pat.size_eq];show 1+Pats.size p.kids≤_;omega,by rw[Pat.ok_iff];exact hok⟩
 unfold mutP
 split;exact same _ _ _ _ _
 split;exact same _ _ _ _ _
 split;exact same _ _ _ _ _
 split
 ·refine⟨?_, ?_⟩
  ·dsimp only;rw[Pat.size_eq];show 1+Pats.size (p.kids++[zb4])≤_;rw[Pats.size_snoc];omega
  ·dsimp only;rw[Pat.ok_iff];refine⟨?_,zqt hv.2 hok.2⟩
   show(p.kids++[zb4]).length≤_
   have:=Pats.len_size p.kids
   simp only[List.length_append,List.length_singleton];omega
 split
 ·refine⟨?_, ?_⟩
  ·dsimp only;rw[Pat.size_eq];show 1+Pats.size (p.kids.set 0 zb4)≤_
   have:=zq3 (x:=zb4) (l:=p.kids) (i:=0);omega
  ·dsimp only;rw[Pat.ok_iff];exact⟨by show(p.kids.set 0 zb4).length≤_;rw[List.length_set];exact hok.1,zq2 hv.2 hok.2⟩
 split;exact same _ _ _ _ _
 exact same _ _ _ _ _
def typP (b:Str) (p:Nat):Pat:=zci b (zbf b p) (typT b p) (typV b p).2
def typQ (b:Str) (p:Nat):Nat:=(zc3 b (zbf b p) (typT b p) (typV b p).2).2.2
theorem zic (b:Str) (p:Nat):TyIn (zbf b p).length (typT b p):=zcc (zjW b p).ins
theorem znl (b:Str) (p:Nat):(typP b p).size≤242∧(typP b p).ok∧typQ b p≤p+600:=by
 have hl:=zdP b p
 have h1:=zmg (b:=b) hl.few (zic b p) (typV b p).2
 have h2:=zjK (b:=b) hl.few (zic b p) (typV b p).2
 have h3:=zq9 b p
 exact⟨h1.1,h1.2,by unfold typQ;omega⟩
theorem zms {b:Str}{p:Nat} (hb:b.length≤2000) (hp:p≤10000):
  FnD Tryz.prog 89 [.ref 900 0] [(900,some (rdB b p))] (.tup [.d (zan (zbf b p)),.agg [.d (.i (typT b p).data),.d (.i (typT b p).index)],
   .agg [.d (.i (typP b p).op),.d (.i (typP b p).ctor),.d (.i (typP b p).n),.d (.i (typP b p).m),.d (.i (typP b p).var),.d (zac (typP b p).kids)],
   .agg [.d (.i (typV b p).1.ctor),.d (.i (typV b p).1.num),.d (zj6 (typV b p).1.kids)]]) [(900,some (rdB b (typQ b p)))]:=by
 have hl:=zdP b p
 have hv:=zq9 b p
 have ht:=zic b p
 have hty:=zmo (p:=p) hb (by omega)
 have hsm:=zh8 hb hl.dp.wt hl.few (a:=(typT b p).data) (k:=(typT b p).index) (p:=(typV b p).2) (by omega) ht
 refine bd Tryz.f89 22 [] [] fun w0 F0 own kept hk=>?_
 refine ab 3003 tz25 ?_
 refine ab 3004 tz28 ?_
 refine ab 3005 tz44 ?_
 refine tv ?_
 refine wd zuZ (hty) rfl rfl ⟨rfl,trivial⟩ ?_
 refine ev ?_
 refine ab 3007 tz25 ?_
 refine ab 3008 tz44 ?_
 refine ev ?_
 refine so ty25 ?_
 refine so ty44 ?_
 refine tv ?_
 refine wd ztS (hsm) rfl rfl ⟨rfl,trivial⟩ ?_
 refine evd [] [] ?_
 refine so ty25 ?_
 refine so ty28 ?_
 refine so ty44 ?_
 refine dr ?_
 refine rn [(900,some (rdB b (typQ b p)))] (.cons (.tmp rfl) (.cons (.cellA ty25 rfl rfl rfl) (.cons (.cellA ty28 rfl rfl rfl) (.cons (.cellA ty44 rfl rfl rfl) .nil)))) (.tup (.cons (.eqd ?_) (.cons (.agg (.cons (.eqd ?_) (.cons (.eqd ?_) .nil))) (.cons (.agg (.cons (.eqd ?_) (.cons (.eqd ?_) (.cons (.eqd ?_) (.cons (.eqd ?_) (.cons (.eqd ?_) (.cons (.eqd ?_) .nil))))))) (.cons (.agg (.cons (.eqd ?_) (.cons (.eqd ?_) (.cons (.eqd ?_) .nil)))) .nil))))) ⟨rfl,rfl⟩ (SubO.get ⟨.inr ?_,⟨.inl rfl,trivial⟩⟩) (zaG rfl)
 rotate_left 13
 all_goals (first|((rfl);done)|(rfl))
def wid (w:List Data) (u:Ty):Nat:=if u.data = -1 then 10 else (zah w u).length
def zgL (w:List Data):Bool:=(List.range (w.length*4)).all fun s=>decide (((zah w (tyS s)).map fun c=>zdM ((zaa w (tyS s) c).map fun u=>max 1 (wid w u))).sum≤400)
theorem zoq:((List.range 7).all fun i=>zgL (zdl (nth zdB i)).1)=true:=by kernel_rfl
theorem znV {w:List Data} (h:zgL w=true){t:Ty} (ht:InS (w.length*4) t) (hd:t.data≠ -1):((zah w t).map fun c=>zdM ((zaa w t c).map fun u=>max 1 (wid w u))).sum≤400:=by
 rcases ht with h1|⟨h1,h2⟩
 ·exact absurd h1 hd
 ·have:=List.all_eq_true.1 h _ (List.mem_range.2 h1)
  rw[h2] at this
  exact of_decide_eq_true this
theorem ziZ (b:Str) (p:Nat):zgL (zbf b p)=true:=List.all_eq_true.1 zoq (zax b p 7).toNat (List.mem_range.2 (zoI b p))
def shal (p:Pat):Prop:=p.op=1∨p.op=3∨∃c l,p=zbg c l∧∀k∈l,k=anyQ
def ziH (p:Pat):Prop:=p.op=1∨p.op=3∨∃c l,p=zbg c l∧∀k∈l,shal k
def PosP (K:Pat→Prop):Prop:=(∀k,K k→shal k)∨∃x,ziH x∧¬shal x∧∀k,K k→k=x
def FormA (L:List Pat):Prop:=∀p∈L,ziH p
def FormB (L:List Pat):Prop:=∃(c:Int) (m:Nat) (K:Nat→Pat→Prop),(∀j,j<m→PosP (K j))∧∀p∈L,CSat K c m p
def Form (L:List Pat):Prop:=FormA L∨FormB L
theorem zpS:shal anyQ:= .inl rfl
theorem zvJ {p:Pat} (h:shal p):ziH p:=by
 rcases h with h|h|⟨c,l,h1,h2⟩
 ·exact .inl h
 ·exact .inr (.inl h)
 ·exact .inr (.inr ⟨c,l,h1,fun k hk=>by rw[h2 k hk];exact zpS⟩)
theorem PosP.two {K:Pat→Prop} (h:PosP K){k:Pat} (hk:K k):ziH k:=by
 rcases h with h|⟨x,h1,_,h2⟩
 ·exact zvJ (h k hk)
 ·rw[h2 k hk];exact h1
theorem PosP.one {K:Pat→Prop} (h:∀k k',K k→K k'→k=k') (h2:∀k,K k→ziH k):PosP K:=by
 by_cases hx:∃k,K k∧¬shal k
 ·obtain⟨k,h3,h4⟩:=hx
  exact .inr ⟨k,h2 k h3,h4,fun k' h5=>h k' k h5 h3⟩
 ·exact .inl fun k hk=>Classical.byContradiction fun h3=>hx ⟨k,hk,h3⟩
theorem zrG {α:Type} [Inhabited α]{P:Int→Nat→Prop}{Q:Int→Nat→α→Prop} (h:∀c j,P c j→∃x,Q c j x):∃f:Int→Nat→α,∀c j,P c j→Q c j (f c j):=by
 classical
 exact⟨fun c j=>if hp:P c j then Classical.choose (h c j hp) else default,fun c j hp=>by simp only[dif_pos hp];exact Classical.choose_spec (h c j hp)⟩
theorem zpJ:∀ {a b:List Nat},a.length=b.length→(∀i,i<a.length→nth a i≤nth b i)→zdM a≤zdM b
 | [],[],_,_=>Nat.le_refl _
 |x::a,y::b,h,hi=>Nat.mul_le_mul (hi 0 (by simp)) (zpJ (a:=a) (b:=b) (by simpa using h) (fun i hi'=>hi (i+1) (by simpa using hi')))
 | [],_::_,h,_=>by simp at h
 |_::_,[],h,_=>by simp at h
theorem znk {w:List Data}{c:Int}{us:List Ty}{Vs:Nat→List Val}{g:Ty→Nat} (h:∀j,j<us.length→(Vs j).length≤g (nth us j)):(zgz c us.length Vs).length≤zdM (us.map g):=by
 rw[ztH]
 refine zpJ (by simp) (fun i hi=>?_)
 rw[List.length_map,List.length_range] at hi
 rw[zjG _ hi,zaJ (by simpa using hi),List.getElem_map,←zaJ hi]
 exact h i hi
theorem zp0 {α:Type}{f g:α→Nat}:∀ {l:List α},(∀x∈l,f x≤g x)→(l.map f).sum≤(l.map g).sum
 | [],_=>Nat.le_refl _
 |x::r,h=>by
  simp only[List.map_cons,List.sum_cons]
  exact Nat.add_le_add (h x (by simp)) (zp0 (fun y hy=>h y (by simp[hy])))
theorem zlY {x:Nat}:∀ {l:List Nat},x∈l→x≤l.sum
 |a::r,h=>by
  rw[List.sum_cons]
  rcases List.mem_cons.1 h with rfl|h
  ·omega
  ·have:=zlY h;omega
theorem zkP {α β:Type}{f:α→List β}:∀ {l:List α},(l.flatMap f).length=(l.map fun x=>(f x).length).sum
 | []=>rfl
 |x::r=>by rw[List.flatMap_cons,List.length_append,List.map_cons,List.sum_cons,zkP]
section
variable {w:List Data} (hs:Spa w)
include hs
theorem zq4 {t:Ty} (ht:InS (w.length*4) t):∃S V,V.length≤max 1 (wid w t)∧Grid w t S V∧(∀n p,zad w n t p=true→shal p→S p)∧S anyQ:=by
 by_cases hd:t.data = -1
 ·refine⟨fun _=>True,ze4, ?_,zph hd,fun _ _ _ _=>trivial,trivial⟩
  unfold wid;rw[if_pos hd]
  simp[ze4]
 ·obtain⟨Vs,hV⟩:=zrG (P:=fun c j=>c∈zah w t∧j<(zaa w t c).length) (Q:=fun c j V=>V.length≤1∧Grid w (nth (zaa w t c) j) (fun p=>p=anyQ) V)
   (fun c j h=>znG hs (zby hs.dp ht h.1 _ (zag h.2)) (zi9 (n:=0)))
  refine⟨_,_, ?_,znH hs ht hd (Ss:=fun _ _ p=>p=anyQ) (Vs:=Vs) (fun c hc j hj=>(hV c j ⟨hc,hj⟩).2) (fun _ _ _=>rfl),fun n p hp hsh=>?_,.inl rfl⟩
  ·rw[zkP]
   have h1:((zah w t).map fun c=>(zgz c (zaa w t c).length (Vs c)).length).sum≤((zah w t).map fun _=>1).sum:=zp0 (fun c hc=>by
    have:=znk (w:=w) (c:=c) (us:=zaa w t c) (Vs:=Vs c) (g:=fun _=>1) (fun j hj=>(hV c j ⟨hc,hj⟩).1)
    refine Nat.le_trans this ?_
    generalize zaa w t c=us
    induction us with
    |nil=>simp[zdM]
    |cons x r ih=>simp only[List.map_cons,zdM,Nat.one_mul];exact ih)
   have h2:((zah w t).map fun _=>1).sum=(zah w t).length:=by
    generalize zah w t=l
    induction l with
    |nil=>rfl
    |cons x r ih=>rw[List.map_cons,List.sum_cons,ih,List.length_cons];omega
   unfold wid;rw[if_neg hd];omega
  ·rcases hsh with h|h|⟨c,l,rfl,h2⟩
   ·exact .inl h
   ·exact absurd (zbI hp h).1 hd
   ·obtain⟨m1,m2,m3,m4⟩:=zaA hp rfl
    exact .inr ⟨c,m1,l,rfl,m3,fun j hj=>h2 _ (zag (by have e:l.length=(zaa w t c).length:=m3;omega))⟩
theorem ztz (hn:zgL w=true){t:Ty} (ht:InS (w.length*4) t):∃S V,V.length≤400∧Grid w t S V∧∀n p,zad w n t p=true→ziH p→S p:=by
 by_cases hd:t.data = -1
 ·exact⟨fun _=>True,ze4,by simp[ze4],zph hd,fun _ _ _ _=>trivial⟩
 ·obtain⟨F,hF⟩:=zrG (P:=fun c j=>c∈zah w t∧j<(zaa w t c).length) (Q:=fun c j (SV:(Pat→Prop)×List Val)=>SV.2.length≤max 1 (wid w (nth (zaa w t c) j))∧Grid w (nth (zaa w t c) j) SV.1 SV.2∧(∀n p,zad w n (nth (zaa w t c) j) p=true→shal p→SV.1 p)∧SV.1 anyQ)
   (fun c j h=>by
    obtain⟨S,V,h1,h2,h3,h4⟩:=zq4 hs (t:=nth (zaa w t c) j) (zby hs.dp ht h.1 _ (zag h.2))
    exact⟨(S,V),h1,h2,h3,h4⟩)
  refine⟨_,_, ?_,znH hs ht hd (Ss:=fun c j p=>(c∈zah w t∧j<(zaa w t c).length)→(F c j).1 p) (Vs:=fun c j=>(F c j).2) (fun c hc j hj=>?_) (fun c hc j h=>(hF c j h).2.2.2),fun n p hp hsh=>?_⟩
  ·rw[zkP]
   exact Nat.le_trans (zp0 (fun c hc=>znk (w:=w) (g:=fun u=>max 1 (wid w u)) (fun j hj=>(hF c j ⟨hc,hj⟩).1))) (znV hn ht hd)
  ·have hg:=(hF c j ⟨hc,hj⟩).2.1
   exact⟨fun n a b z ha hb h _=>hg.meet n a b z (ha ⟨hc,hj⟩) (hb ⟨hc,hj⟩) h,fun n a b x ha hb h _=>hg.minus n a b x (ha ⟨hc,hj⟩) (hb ⟨hc,hj⟩) h,fun n p hp=>hg.hit n p (hp ⟨hc,hj⟩),hg.fits⟩
  ·cases n with
   |zero=>simp[zad] at hp
   |succ n=>
    rcases hsh with h|h|⟨c,l,rfl,h2⟩
    ·exact .inl h
    ·exact absurd (zbI hp h).1 hd
    ·obtain⟨m1,m2,m3,m4⟩:=zaA hp rfl
     have e:l.length=(zaa w t c).length:=m3
     refine .inr ⟨c,m1,l,rfl,m3,fun j hj h=>?_⟩
     have hk:=zaP hp (i:=j) (by show j<l.length;omega)
     rw[zbc rfl] at hk
     exact(hF c j h).2.2.1 n _ hk (h2 _ (zag (by omega)))
theorem zts {t:Ty} (ht:InS (w.length*4) t){K:Pat→Prop} (hK:PosP K):∃S V,V.length≤max 1 (wid w t)∧Grid w t S V∧∀n p,zad w n t p=true→K p→S p:=by
 by_cases hx:∃n x,zad w n t x=true∧¬shal x∧∀k,K k→k=x
 ·obtain⟨n,x,h1,_,h2⟩:=hx
  obtain⟨V,h3,h4⟩:=znG hs ht h1
  exact⟨_,V,by omega,h4,fun n p _ hp=>h2 p hp⟩
 ·obtain⟨S,V,h1,h2,h3,_⟩:=zq4 hs ht
  refine⟨S,V,h1,h2,fun n p hp hk=>?_⟩
  rcases hK with h|⟨x,h4,h5,h6⟩
  ·exact h3 n p hp (h p hk)
  ·exact absurd ⟨n,x,by rw[←h6 p hk];exact hp,h5,h6⟩ hx
theorem zs9 (hn:zgL w=true){t:Ty} (ht:InS (w.length*4) t){l res:List Pat} (hf:Form l) (hl:∀b∈l,zad w 10 t b=true) (h:sepQ w t [] l []=some res):res.length≤400:=by
 rcases hf with hf|⟨c,m,K,hK,hf⟩
 ·obtain⟨S,V,h1,h2,h3⟩:=ztz hs hn ht
  exact Nat.le_trans (zq0 hs ht h2 (fun b hb=>⟨hl b hb,h3 10 b (hl b hb) (hf b hb)⟩) h) h1
 ·cases l with
  |nil=>rw[sepQ] at h;cases h;simp
  |cons p0 r=>
   obtain⟨l0,e0,e1,_⟩:=hf p0 (by simp)
   have hp0:=hl p0 (by simp)
   have hc:=zaA hp0 (by rw[e0];rfl)
   rw[e0] at hc
   have hcc:c∈zah w t:=hc.1
   have hm:m=(zaa w t c).length:=by rw[←e1];exact hc.2.2.1
   subst hm
   obtain⟨F,hF⟩:=zrG (P:=fun c' j=>c'=c∧j<(zaa w t c).length) (Q:=fun _ j (SV:(Pat→Prop)×List Val)=>SV.2.length≤max 1 (wid w (nth (zaa w t c) j))∧Grid w (nth (zaa w t c) j) SV.1 SV.2∧∀n p,zad w n (nth (zaa w t c) j) p=true→K j p→SV.1 p)
    (fun c' j h=>by
     obtain⟨S,V,h1,h2,h3⟩:=zts hs (t:=nth (zaa w t c) j) (zby hs.dp ht hcc _ (zag h.2)) (hK j h.2)
     exact⟨(S,V),h1,h2,h3⟩)
   have hg:=zhk hcc (Ss:=fun j=>(F c j).1) (Vs:=fun j=>(F c j).2) (fun j hj=>(hF c j ⟨rfl,hj⟩).2.1)
   refine Nat.le_trans (zq0 hs ht hg (fun b hb=>⟨hl b hb, ?_⟩) h) ?_
   ·obtain⟨lb,rfl,h1,h2⟩:=hf b hb
    refine⟨lb,rfl,h1,fun j hj=>?_⟩
    have hk:=zaP (hl _ hb) (i:=j) (by show j<lb.length;omega)
    rw[zbc rfl] at hk
    exact(hF c j ⟨rfl,hj⟩).2.2 9 _ hk (h2 j hj)
   ·have h1:=znk (w:=w) (c:=c) (us:=zaa w t c) (Vs:=fun j=>(F c j).2) (g:=fun u=>max 1 (wid w u)) (fun j hj=>(hF c j ⟨rfl,hj⟩).1)
    have h2:=znV hn ht hc.2.1
    have h3:zdM ((zaa w t c).map fun u=>max 1 (wid w u))≤((zah w t).map fun c=>zdM ((zaa w t c).map fun u=>max 1 (wid w u))).sum:=zlY (List.mem_map.2 ⟨c,hcc,rfl⟩)
    omega
end
def Dr:Nat→Pat→Prop
 |0,p=>p=anyQ
 |n+1,p=>p=anyQ∨(p.op=3∧p.kids=[])∨(p.op=5∧p.kids.length=2∧∀k∈p.kids,Dr n k)∨(p.op=4∧∀k∈p.kids,Dr n k)
theorem Dr.any (n:Nat):Dr n anyQ:=by cases n<;>simp[Dr]
theorem Dr.up:∀(n:Nat){p:Pat},Dr n p→Dr (n+1) p
 |0,p,h=> .inl h
 |n+1,p,h=>by
  rcases h with h|h|⟨h1,h2,h3⟩|⟨h1,h2⟩
  ·exact .inl h
  ·exact .inr (.inl h)
  ·exact .inr (.inr (.inl ⟨h1,h2,fun k hk=>Dr.up n (h3 k hk)⟩))
  ·exact .inr (.inr (.inr ⟨h1,fun k hk=>Dr.up n (h2 k hk)⟩))
theorem Dr.le {n m:Nat} (h:n≤m){p:Pat} (hp:Dr n p):Dr m p:=by
 induction h with
 |refl=>exact hp
 |step _ ih=>exact Dr.up _ ih
theorem zsk {f:Ty→Nat→Pat×Nat}{P:Pat→Prop} (h:∀t q,P (f t q).1):∀(l:List Ty) (q:Nat),∀k∈(dA f l q).1,P k
 | [],q,k,hk=>by simp[dA] at hk
 |t::r,q,k,hk=>by
  simp only[dA,List.mem_cons] at hk
  rcases hk with rfl|hk
  ·exact h t q
  ·exact zsk h r _ k hk
theorem zqF {b:Str}{w:List Data}:∀(d:Nat) (t:Ty) (p:Nat),Dr d (zaC b w (d+1) t p).1∧Dr 0 (zaC b w 0 t p).1
 |0,t,p=>by
  refine⟨?_,rfl⟩
  unfold zaC;rw[if_pos rfl];rfl
 |d+1,t,p=>by
  refine⟨?_,rfl⟩
  have ih:=fun t p=>(zqF (b:=b) (w:=w) d t p).1
  rw[zaC,if_neg (by omega)]
  split
  ·exact Dr.any _
  ·split
   ·refine .inr (.inr (.inl ⟨rfl,rfl,fun k hk=>?_⟩))
    simp only[Pat.kids,List.mem_cons,List.not_mem_nil,or_false] at hk
    rcases hk with rfl|rfl
    ·exact ih _ _
    ·exact ih _ _
   ·split
    ·exact .inr (.inl ⟨rfl,rfl⟩)
    ·split
     ·exact Dr.any _
     ·refine .inr (.inr (.inr ⟨rfl,fun k hk=>?_⟩))
      exact zsk (P:=Dr d) ih _ _ k hk
theorem zeL:∀(n:Nat){p:Pat},Dr n p→zas p=p
 |0,p,h=>by
  rw[show p=anyQ from h,zbl,if_neg (by decide),if_neg (by decide)];rfl
 |n+1,p,h=>by
  have map_id:∀l:List Pat,(∀k∈l,zas k=k)→l.map zas=l:=fun l hl=>by
   induction l with
   |nil=>rfl
   |cons x r ih=>rw[List.map_cons,hl x (by simp),ih (fun k hk=>hl k (by simp[hk]))]
  have key:p.op≠2→p.op≠6→(∀k∈p.kids,zas k=k)→zas p=p:=fun h2 h6 hk=>by
   rw[zbl,if_neg h2,if_neg (fun hh=>h6 hh.1),map_id p.kids hk]
   cases p;rfl
  rcases h with h|⟨h1,h2⟩|⟨h1,h2,h3⟩|⟨h1,h2⟩
  ·exact zeL 0 h
  ·exact key (by omega) (by omega) (by rw[h2];simp)
  ·exact key (by omega) (by omega) (fun k hk=>zeL n (h3 k hk))
  ·exact key (by omega) (by omega) (fun k hk=>zeL n (h2 k hk))
theorem znT {f:Pat→Int→Nat→Pat×Int×Nat}:∀(l:List Pat) (m:Int) (q:Nat),(∀x∈l,∀m q,zas (f x m q).1=x)→(namL f l m q).1.map zas=l∧∀y∈(namL f l m q).1,zas y∈l
 | [],m,q,_=>by simp[namL]
 |x::r,m,q,h=>by
  have h1:=h x (by simp) m q
  have h2:=znT r (f x m q).2.1 (f x m q).2.2 (fun y hy=>h y (by simp[hy]))
  simp only[namL]
  refine⟨by rw[List.map_cons,h1,h2.1],fun y hy=>?_⟩
  rcases List.mem_cons.1 hy with rfl|hy
  ·rw[h1];simp
  ·exact List.mem_cons_of_mem _ (h2.2 y hy)
structure NamB (p r:Pat):Prop where
 bare:zas r=p
 kids:(∀k∈r.kids,zas k∈p.kids)∨(r.op=6∧r.kids.length=1)
theorem zpy {b:Str}:∀(n:Nat) (d:Nat){p:Pat} (m:Int) (q:Nat),Dr d p→NamB p (namP b n p m q).1
 |0,d,p,m,q,h=>⟨zeL d h,.inl fun k hk=>by
  have:zas k=k:=by
   cases d with
   |zero=>rw[show p=anyQ from h] at hk;simp[namP,za0] at hk
   |succ d=>
    rcases h with h|⟨h1,h2⟩|⟨h1,h2,h3⟩|⟨h1,h2⟩
    ·subst h;simp[namP,za0] at hk
    ·have hk':k∈p.kids:=hk
     rw[h2] at hk';simp at hk'
    ·exact zeL d (h3 k hk)
    ·exact zeL d (h2 k hk)
  rw[this];exact hk⟩
 |n+1,d,p,m,q,h=>by
  have hkid:∀k∈p.kids,∃e,Dr e k:=fun k hk=>by
   cases d with
   |zero=>rw[show p=anyQ from h] at hk;simp[za0] at hk
   |succ d=>
    rcases h with h|⟨h1,h2⟩|⟨h1,h2,h3⟩|⟨h1,h2⟩
    ·subst h;simp[za0] at hk
    ·rw[h2] at hk;simp at hk
    ·exact⟨d,h3 k hk⟩
    ·exact⟨d,h2 k hk⟩
  have hb:=zeL d h
  have hop:p.op≠2∧p.op≠6:=by
   cases d with
   |zero=>rw[show p=anyQ from h];exact⟨by decide,by decide⟩
   |succ d=>
    rcases h with h|⟨h1,h2⟩|⟨h1,h2,h3⟩|⟨h1,h2⟩
    ·rw[h];exact⟨by decide,by decide⟩
    ·omega
    ·omega
    ·omega
  by_cases c1:5<m∨p.op=5∨p.op=3
  ·rw[zoD c1]
   exact⟨hb,.inl fun k hk=>by obtain⟨e,he⟩:=hkid k hk;rw[zeL e he];exact hk⟩
  by_cases c2:p.op=1∧zax b q 2=0
  ·rw[zoE c1 c2]
   have hp:p=anyQ:=by
    cases d with
    |zero=>exact h
    |succ d=>
     rcases h with h|⟨h1,h2⟩|⟨h1,h2,h3⟩|⟨h1,h2⟩
     ·exact h
     ·omega
     ·omega
     ·omega
   exact⟨by rw[hp];exact(zbl _).trans (if_pos rfl),.inl fun k hk=>by simp[za0] at hk⟩
  have hL:=znT (f:=namP b n) p.kids m (if p.op=1 then q+1 else q) (fun x hx m q=>by obtain⟨e,he⟩:=hkid x hx;exact(zpy n e m q he).bare)
  generalize hz:namL (namP b n) p.kids m (if p.op=1 then q+1 else q)=z at hL
  obtain⟨ks,zm,zq⟩:=z
  dsimp only at hL
  have hmk:zas (.mk p.op p.ctor p.n p.m p.var ks)=p:=by
   rw[zbl,if_neg (by rw[zb1];exact hop.1),if_neg (by rw[zb1];exact fun hh=>hop.2 hh.1)]
   simp only[zb1,zdV,mk_n,mk_m,zfe,za0]
   rw[hL.1];cases p;rfl
  by_cases c3:zm≤5
  ·by_cases c4:zax b zq 6=0
   ·rw[zoF c1 c2 hz.symm c3 c4]
    refine⟨?_,.inr ⟨rfl,rfl⟩⟩
    rw[zbl,if_neg (by rw[zb1];decide),if_pos ⟨rfl,by rw[za0];simp⟩]
    exact hmk
   ·rw[zoG c1 c2 hz.symm c3 c4]
    exact⟨hmk,.inl fun k hk=>hL.2 k hk⟩
  ·rw[zoH c1 c2 hz.symm c3]
   exact⟨hmk,.inl fun k hk=>hL.2 k hk⟩
theorem zdq {p:Pat} (h5:p.op≠5){y:Pat} (hy:y∈zap p):∃l,y = .mk p.op p.ctor p.n p.m p.var l∧l.length=p.kids.length∧∀i,i<p.kids.length→nth l i∈zap (nth p.kids i):=by
 rw[zc4 h5] at hy
 obtain⟨l,hl,rfl⟩:=List.mem_map.1 hy
 obtain⟨q,hq,r,e,h1,h2⟩:=zhr _ _ _ hl
 rw[List.mem_singleton] at hq
 rw[hq,List.nil_append] at e
 subst e
 rw[List.length_map] at h1
 refine⟨l,rfl,h1,fun i hi=>?_⟩
 have:=h2 i (by simpa using hi)
 rwa [zaJ (l:=p.kids.map zap) (by simpa using hi),List.getElem_map,←zaJ hi] at this
theorem dr_1 {p:Pat} (h:Dr 1 p):∃x,∀y∈zap p,y=x:=by
 rcases h with h|⟨h1,h2⟩|⟨h1,h2,h3⟩|⟨h1,h2⟩
 ·rw[h,zbU];exact⟨anyQ,fun y hy=>List.mem_singleton.1 hy⟩
 ·rw[zdp (by omega) h2];exact⟨p,fun y hy=>List.mem_singleton.1 hy⟩
 ·rw[zdu h1 h2,show nth p.kids 0=anyQ from h3 _ (zag (by omega)),show nth p.kids 1=anyQ from h3 _ (zag (by omega)),zbU]
  exact⟨anyQ,fun y hy=>by simpa using hy⟩
 ·refine⟨p,fun y hy=>?_⟩
  obtain⟨l,rfl,h3,h4⟩:=zdq (by omega) hy
  have:l=p.kids:=zmQ h3 (fun i hi=>by
   have h5:=h4 i (by omega)
   have h6:nth p.kids i=anyQ:=h2 _ (zag (by omega))
   rw[h6,zbU] at h5
   rw[h6];exact List.mem_singleton.1 h5)
  rw[this];cases p;rfl
section
variable {w:List Data}{n:Nat}{t:Ty}
theorem zrr {p:Pat} (h:Dr 1 p) (hp:∀y∈zap p,zad w n t y=true):∀y∈zap p,shal y:=by
 intro y hy
 have hpy:=hp y hy
 rcases zbv hpy with o|o|o
 ·exact .inl o
 ·exact .inr (.inl o)
 ·refine .inr (.inr ⟨y.ctor,y.kids,(zaA hpy o).2.2.2, ?_⟩)
  rcases h with h|⟨h1,h2⟩|⟨h1,h2,h3⟩|⟨h1,h2⟩
  ·rw[h,zbU,List.mem_singleton] at hy;rw[hy];simp[za0]
  ·rw[zdp (by omega) h2,List.mem_singleton] at hy;rw[hy,h2];simp
  ·rw[zdu h1 h2,show nth p.kids 0=anyQ from h3 _ (zag (by omega)),show nth p.kids 1=anyQ from h3 _ (zag (by omega)),zbU] at hy
   have:y=anyQ:=by simpa using hy
   rw[this];simp[za0]
  ·obtain⟨l,rfl,h3,h4⟩:=zdq (by omega) hy
   intro k hk
   rw[za0] at hk
   obtain⟨i,hi,rfl⟩:=List.getElem_of_mem hk
   have h5:=h4 i (by omega)
   rw[show nth p.kids i=anyQ from h2 _ (zag (by omega)),zbU,List.mem_singleton,zaJ hi] at h5
   exact h5
theorem dr_2 {p:Pat} (h:Dr 2 p) (hp:∀y∈zap p,zad w n t y=true):PosP (fun y=>y∈zap p):=by
 have leaf:∀y,y.op=4→y∈zap p→p.op≠5→p.op=4:=fun y o hy h5=>by
  obtain⟨l,rfl,_,_⟩:=zdq h5 hy
  exact o
 rcases h with h|⟨h1,h2⟩|⟨h1,h2,h3⟩|⟨h1,h2⟩
 ·rw[h,zbU];exact .inl fun k hk=>by rw[List.mem_singleton.1 hk];exact zpS
 ·rw[zdp (by omega) h2];exact .inl fun k hk=>by rw[List.mem_singleton.1 hk];exact .inr (.inl h1)
 ·refine .inl fun y hy=>?_
  rw[zdu h1 h2] at hy hp
  rcases List.mem_append.1 hy with hy|hy
  ·exact zrr (w:=w) (n:=n) (t:=t) (h3 _ (zag (by omega))) (fun z hz=>hp z (List.mem_append_left _ hz)) y hy
  ·exact zrr (w:=w) (n:=n) (t:=t) (h3 _ (zag (by omega))) (fun z hz=>hp z (List.mem_append_right _ hz)) y hy
 ·refine PosP.one (fun y y' hy hy'=>?_) (fun y hy=>?_)
  ·obtain⟨l,rfl,h3,h4⟩:=zdq (by omega) hy
   obtain⟨l',rfl,h5,h6⟩:=zdq (by omega) hy'
   have:l=l':=zmQ (by omega) (fun i hi=>by
    obtain⟨x,hx⟩:=dr_1 (h2 _ (zag (i:=i) (by omega)))
    rw[hx _ (h4 i (by omega)),hx _ (h6 i (by omega))])
   rw[this]
  ·have hpy:=hp y hy
   have h4p:y.op=4:=by obtain⟨l,rfl,_,_⟩:=zdq (by omega) hy;exact h1
   refine .inr (.inr ⟨y.ctor,y.kids,(zaA hpy h4p).2.2.2,fun k hk=>?_⟩)
   obtain⟨l,e,h3,h4⟩:=zdq (by omega) hy
   have hkl:y.kids=l:=by rw[e];rfl
   rw[hkl] at hk
   obtain⟨i,hi,rfl⟩:=List.getElem_of_mem hk
   have hmi:=h4 i (by omega)
   have hd1:=h2 _ (zag (l:=p.kids) (i:=i) (by omega))
   obtain⟨x,hx⟩:=dr_1 hd1
   cases n with
   |zero=>simp[zad] at hpy
   |succ n=>
    have hk2:=zaP hpy (i:=i) (by rw[hkl];omega)
    rw[hkl] at hk2
    rw[←zaJ hi]
    exact zrr (w:=w) (n:=n) (t:=nth (zae w t y) i) hd1 (fun z hz=>by rw[hx z hz,←hx _ hmi];exact hk2) _ hmi
theorem zt3 {p:Pat} (h:Dr 2 p) (hp:∀y∈zap p,zad w n t y=true):∀y∈zap p,ziH y:=fun y hy=>(dr_2 h hp).two hy
end
theorem zmv {n:Nat}{p:Pat} (hb:binP (n+1) p=true) (h5:p.op≠5){i:Nat} (hi:i<p.kids.length){z:Pat} (hz:z∈zap (nth p.kids i)):∃y∈zap p,nth y.kids i=z∧y.op=p.op∧y.ctor=p.ctor∧y.kids.length=p.kids.length:=by
 have hne:∀j,j<p.kids.length→∃x,x∈zap (nth p.kids j):=fun j hj=>by
  have:=(zjl n (zdU hb hj)).2
  exact List.exists_mem_of_length_pos this
 have hch:∃l:List Pat,l.length=p.kids.length∧(∀j,j<p.kids.length→nth l j∈zap (nth p.kids j))∧nth l i=z:=by
  have:∀k,k≤p.kids.length→∃l:List Pat,l.length=k∧(∀j,j<k→nth l j∈zap (nth p.kids j))∧(i<k→nth l i=z):=fun k=>by
   induction k with
   |zero=>exact fun _=>⟨[],rfl,fun j hj=>by omega,fun h=>by omega⟩
   |succ k ih=>
    intro hk
    obtain⟨l,h1,h2,h3⟩:=ih (by omega)
    have hx:∃x,x∈zap (nth p.kids k)∧(i=k→x=z):=by
     by_cases e:i=k
     ·exact⟨z,e ▸ hz,fun _=>rfl⟩
     ·obtain⟨x,hx⟩:=hne k (by omega)
      exact⟨x,hx,fun h=>absurd h e⟩
    obtain⟨x,hx,hxz⟩:=hx
    have e1:nth (l++[x]) k=x:=by
     simp only[nth,List.getD]
     rw[List.getElem?_append_right (by omega),h1,Nat.sub_self];all_goals rfl
    have e2:∀j,j<k→nth (l++[x]) j=nth l j:=fun j hj=>by
     simp only[nth,List.getD]
     rw[List.getElem?_append_left (by omega)]
    refine⟨l++[x],by simp[h1],fun j hj=>?_,fun h=>?_⟩
    ·by_cases e:j=k
     ·subst e;rw[e1];exact hx
     ·rw[e2 j (by omega)];exact h2 j (by omega)
    ·by_cases e:i=k
     ·rw[e,e1];exact hxz e
     ·rw[e2 i (by omega)];exact h3 (by omega)
  obtain⟨l,h1,h2,h3⟩:=this p.kids.length (Nat.le_refl _)
  exact⟨l,h1,h2,h3 hi⟩
 obtain⟨l,h1,h2,h3⟩:=hch
 refine⟨.mk p.op p.ctor p.n p.m p.var l, ?_,h3,rfl,rfl,h1⟩
 rw[zc4 h5]
 refine List.mem_map.2 ⟨l, ?_,rfl⟩
 have key:∀(ls:List (List Pat)) (r:List Pat) (out:List (List Pat)) (q:List Pat),r.length=ls.length→q∈out→(∀j,j<ls.length→nth r j∈nth ls j)→q++r∈ls.foldl zbd out:=fun ls=>by
  induction ls with
  |nil=>intro r out q hr hq _;rw[List.eq_nil_of_length_eq_zero hr,List.append_nil];exact hq
  |cons a s ih=>
   intro r out q hr hq hm
   cases r with
   |nil=>simp at hr
   |cons x r=>
    rw[List.foldl_cons,show q++x::r=q++[x]++r by simp]
    refine ih r _ (q++[x]) (by simpa using hr) ?_ (fun j hj=>hm (j+1) (by simpa using hj))
    unfold zbd
    exact List.mem_flatMap.2 ⟨q,hq,List.mem_map.2 ⟨x,hm 0 (by simp),rfl⟩⟩
 have:=key (p.kids.map zap) l [[]] [] (by simp[h1]) (by simp) (fun j hj=>by
  rw[List.length_map] at hj
  rw[zaJ (l:=p.kids.map zap) (by simpa using hj),List.getElem_map,←zaJ hj];exact h2 j hj)
 simpa [zd2] using this
section
variable {w:List Data}{n:Nat}{t:Ty}
theorem znA {p:Pat} (hb:binP 20 p=true) (h4:p.op=4) (hk:∀k∈p.kids,Dr 2 k) (hp:∀y∈zap p,zad w n t y=true):FormB (zap p):=by
 refine⟨p.ctor,p.kids.length,fun j y=>y∈zap (nth p.kids j),fun j hj=>?_,fun y hy=>?_⟩
 ·cases n with
  |zero=>
   refine .inl fun k hz=>?_
   obtain⟨y,hy,_⟩:=zmv hb (by omega) hj hz
   have:=hp y hy;simp[zad] at this
  |succ n=>
   refine dr_2 (w:=w) (n:=n) (t:=nth (zaa w t p.ctor) j) (hk _ (zag hj)) (fun z hz=>?_)
   obtain⟨y,hy,h1,h2,h3,h5⟩:=zmv hb (by omega) hj hz
   have:=zaP (hp y hy) (i:=j) (by omega)
   rw[zbc (by omega),h1,h3] at this
   exact this
 ·obtain⟨l,e,h1,h2⟩:=zdq (by omega) hy
  refine⟨l, ?_,h1,h2⟩
  have hpy:=hp y hy
  have:=(zaA hpy (by rw[e];exact h4)).2.2.2
  rw[this,e];rfl
theorem zmI {p:Pat} (h:Dr 3 p) (hb:binP 20 p=true) (hp:∀y∈zap p,zad w n t y=true):Form (zap p):=by
 rcases h with h|⟨h1,h2⟩|⟨h1,h2,h3⟩|⟨h1,h2⟩
 ·rw[h,zbU];exact .inl fun k hk=>by rw[List.mem_singleton.1 hk];exact .inl rfl
 ·rw[zdp (by omega) h2];exact .inl fun k hk=>by rw[List.mem_singleton.1 hk];exact .inr (.inl h1)
 ·refine .inl fun y hy=>?_
  rw[zdu h1 h2] at hy hp
  rcases List.mem_append.1 hy with hy|hy
  ·exact zt3 (w:=w) (n:=n) (t:=t) (h3 _ (zag (by omega))) (fun z hz=>hp z (List.mem_append_left _ hz)) y hy
  ·exact zt3 (w:=w) (n:=n) (t:=t) (h3 _ (zag (by omega))) (fun z hz=>hp z (List.mem_append_right _ hz)) y hy
 ·exact .inr (znA hb h1 h2 hp)
def RootOk (p:Pat):Prop:=(∀k∈p.kids,Dr 2 (zas k))∨(p.op=6∧p.kids.length=1∧Dr 3 (zas (nth p.kids 0)))
theorem zuP {m k:Nat} (h:m≤k){p:Pat} (hp:binP m p=true):binP k p=true:=by
 induction h with
 |refl=>exact hp
 |step _ ih=>exact zkG _ ih
theorem zsM {p:Pat} (hr:RootOk p) (hs:zat w 10 t p=true):Form (zap (zas p)):=by
 have hpt:=zfE 10 hs
 have hb:=zuP (k:=20) (by omega) (zf0 10 hs)
 rcases hr with hr|⟨h6,h1,h2⟩
 ·rcases ziI hs with o|o|o|o|o|o
  ·have hk:=zeq hs (by omega) (by omega) (by omega)
   rw[zbl,if_neg (by omega),if_neg (by omega),zdp (by rw[zb1];omega) (by rw[za0,hk];rfl)]
   exact .inl fun k hk=>by rw[List.mem_singleton.1 hk];exact .inl o
  ·rw[zbl,if_pos o,zbU]
   exact .inl fun k hk=>by rw[List.mem_singleton.1 hk];exact .inl rfl
  ·have hk:=zeq hs (by omega) (by omega) (by omega)
   rw[zbl,if_neg (by omega),if_neg (by omega),zdp (by rw[zb1];omega) (by rw[za0,hk];rfl)]
   exact .inl fun k hk=>by rw[List.mem_singleton.1 hk];exact .inr (.inl o)
  ·have e:zas p = .mk p.op p.ctor p.n p.m p.var (p.kids.map zas):=by rw[zbl,if_neg (by omega),if_neg (by omega)]
   rw[e] at hpt hb ⊢
   refine .inr (znA hb (by rw[zb1];exact o) (fun k hk=>?_) hpt)
   rw[za0] at hk
   obtain⟨k0,h3,rfl⟩:=List.mem_map.1 hk
   exact hr k0 h3
  ·have e:zas p = .mk p.op p.ctor p.n p.m p.var (p.kids.map zas):=by rw[zbl,if_neg (by omega),if_neg (by omega)]
   rw[e] at hpt hb ⊢
   obtain⟨l2,_,_⟩:=zeY hs o
   refine zmI (w:=w) (n:=10) (t:=t) (.inr (.inr (.inl ⟨by rw[zb1];exact o,by rw[za0];simpa using l2,fun k hk=>?_⟩))) hb hpt
   rw[za0] at hk
   obtain⟨k0,h3,rfl⟩:=List.mem_map.1 hk
   exact hr k0 h3
  ·obtain⟨l1,_⟩:=zeX hs o
   have e:zas p=zas (nth p.kids 0):=by rw[zbl,if_neg (by omega),if_pos ⟨o,fun e=>by rw[e] at l1;simp at l1⟩]
   rw[e] at hpt hb ⊢
   exact zmI (Dr.up 2 (hr _ (zag (by omega)))) hb hpt
 ·have e:zas p=zas (nth p.kids 0):=by rw[zbl,if_neg (by omega),if_pos ⟨h6,fun e=>by rw[e] at h1;simp at h1⟩]
  rw[e] at hpt hb ⊢
  exact zmI h2 hb hpt
theorem zsS (b:Str) (w:List Data) (t:Ty) (q:Nat):RootOk (zci b w t q):=by
 unfold zci
 split
 ·have h4:=num4 b q
  have hd:Dr 3 (zaC b w (numV b q [3,2,4,1]).toNat t (q+1)).1:=by
   rcases hn:(numV b q [3,2,4,1]).toNat with _|d
   ·exact Dr.any 3
   ·exact Dr.le (by omega) (zqF (b:=b) (w:=w) d t (q+1)).1
  unfold zc3
  have hnb:=zpy (b:=b) (zaC b w (numV b q [3,2,4,1]).toNat t (q+1)).1.size 3 0 (zaC b w (numV b q [3,2,4,1]).toNat t (q+1)).2 hd
  rcases hnb.kids with h|⟨h1,h2⟩
  ·refine .inl fun k hk=>?_
   have hm:=h k hk
   generalize (zaC b w (numV b q [3,2,4,1]).toNat t (q+1)).1=p0 at *
   rcases hd with h|⟨h1,h2⟩|⟨h1,h2,h3⟩|⟨h1,h2⟩
   ·rw[h] at hm;simp[za0] at hm
   ·rw[h2] at hm;simp at hm
   ·exact h3 _ hm
   ·exact h2 _ hm
  ·refine .inr ⟨h1,h2, ?_⟩
   have:=hnb.bare
   rw[zbl,if_neg (by omega),if_pos ⟨h1,fun e=>by rw[e] at h2;simp at h2⟩] at this
   rw[this];exact hd
 ·exact .inl fun k hk=>by simp[anyP,Pat.kids] at hk
theorem ztn {b:Str}{p:Pat}{q:Nat} (hr:RootOk p) (hs:zat w 10 t (mutP b p q).1=true):RootOk (mutP b p q).1:=by
 have hv:zas zb4=anyQ:=(zbl _).trans (if_pos rfl)
 have two:∀ {x:Pat},zat w 10 t x=true→(x.op=1∨x.op=2∨x.op=3)→x.kids=[]:=fun h ho=>zeq h (by omega) (by omega) (by omega)
 rcases hr with hr|⟨h6,h1,h2⟩
 ·refine .inl ?_
  unfold mutP
  split;exact hr
  split;exact hr
  split;exact hr
  split
  ·intro k hk
   rw[za0] at hk
   rcases List.mem_append.1 hk with hk|hk
   ·exact hr k hk
   ·rw[List.mem_singleton.1 hk,hv];exact Dr.any 2
  split
  ·intro k hk
   rw[za0] at hk
   rcases List.mem_or_eq_of_mem_set hk with hk|rfl
   ·exact hr k hk
   ·rw[hv];exact Dr.any 2
  split;exact hr
  exact hr
 ·have keep:∀c n m v:Int,RootOk (.mk p.op c n m v p.kids):=fun c n m v=> .inr ⟨h6,h1,h2⟩
  unfold mutP at hs ⊢
  split
  ·rename_i e
   rw[if_pos e] at hs
   have hm:=zk4 (b:=b) (p:=q+1) (l:=[0,7,1,2,5]) (by simp)
   simp only[List.mem_cons,List.not_mem_nil,or_false] at hm
   exfalso
   have hs:zat w 10 t (.mk (numV b (q+1) [0,7,1,2,5]) p.ctor p.n p.m p.var p.kids)=true:=hs
   have ho:=ziI hs
   have hk:(Pat.mk (numV b (q+1) [0,7,1,2,5]) p.ctor p.n p.m p.var p.kids).kids.length=1:=h1
   by_cases h5:(Pat.mk (numV b (q+1) [0,7,1,2,5]) p.ctor p.n p.m p.var p.kids).op=5
   ·have:=(zeY hs h5).1;omega
   ·rw[zb1] at ho h5
    have ho2:(Pat.mk (numV b (q+1) [0,7,1,2,5]) p.ctor p.n p.m p.var p.kids).op=numV b (q+1) [0,7,1,2,5]:=rfl
    have:=two hs (by omega)
    rw[this] at hk;simp at hk
  rename_i e0
  rw[if_neg e0] at hs
  split;exact keep _ _ _ _
  rename_i e1
  rw[if_neg e1] at hs
  split;exact keep _ _ _ _
  rename_i e2
  rw[if_neg e2] at hs
  split
  ·rename_i e3
   rw[if_pos e3] at hs
   exfalso
   have:=(zeX hs (by rw[zb1];exact h6)).1
   rw[za0,List.length_append,List.length_singleton] at this;omega
  split
  ·refine .inl fun k hk=>?_
   rw[za0] at hk
   match hkk:p.kids,h1 with
   | [a],_=>
    rw[hkk] at hk
    simp at hk
    rw[hk,hv];exact Dr.any 2
  split;exact keep _ _ _ _
  exact keep _ _ _ _
theorem ztm {b b2:Str}{w2:List Data}{t2:Ty}{q q2:Nat} (hs:zat w 10 t (mutP b (zci b2 w2 t2 q2) q).1=true):Form (zap (zas (mutP b (zci b2 w2 t2 q2) q).1)):=
 zsM (ztn (zsS _ _ _ _) hs) hs
end
theorem zk2 {w:List Data}{a k:Int}{p q:Pat}{z:List Pat} (h:minV w a k p q=some z):zbV w a k p q=true∧∃r,sepV w ⟨a,k⟩ (zaS p)=some r∧zaE w ⟨a,k⟩ r (zaS q)=some z∧z.all (isP w ⟨a,k⟩)=true:=by
 cases h2:zbV w a k p q with
 |false=>rw[zm3 h2] at h;cases h
 |true=>
  cases h3:sepV w ⟨a,k⟩ (zaS p) with
  |none=>rw[zpu h2 h3] at h;cases h
  |some r=>
   cases h4:zaE w ⟨a,k⟩ r (zaS q) with
   |none=>rw[zpv h2 h3 h4] at h;cases h
   |some z'=>
    rw[zlZ h2 h3 h4] at h
    split at h
    ·cases h;exact⟨rfl,r,rfl,h4,by assumption⟩
    ·cases h
theorem zqI {w:List Data} (hs:WSmall w) (hn:zgL w=true){a k:Int}{p q:Pat} (h2:zbV w a k p q=true) (hf:zat w 10 ⟨a,k⟩ p=true→Form (zap (zas p))):FewQ w ⟨a,k⟩ (zaS p):=by
 obtain⟨hsp,hin,t1,t2,s1,s2,e1,e2,_⟩:=zf4 hs h2
 intro res h
 rw[e1] at h t1
 exact zs9 hsp hn hin (hf s1) t1 h
theorem ziU {w:List Data}{t:Ty}{p:Pat}{v:Val}{m:Nat} (h:zat w 10 t p=true) (hv:zaX w m t v=true) (e:zaS p=zap (zas p)):(zaS p).any (fun x=>hitP x v)=(zbe 10 p v).2:=by
 rw[e,Bool.eq_iff_iff,zez 10 m h hv,List.any_eq_true]
theorem ztl {w:List Data} (hs:WSmall w){a k:Int}{p q:Pat}{z:List Pat}{v:Val}{m:Nat} (h:minV w a k p q=some z) (hv:zaX w m ⟨a,k⟩ v=true):z.countP (fun x=>hitP x v)=one ((zbe 10 p v).2&& !(zbe 10 q v).2):=by
 obtain⟨h2,r,h3,h4,h5⟩:=zk2 h
 obtain⟨hsp,hin,t1,t2,s1,s2,e1,e2,_⟩:=zf4 hs h2
 have hrp:=zfZ _ [] [] (by simp) t1 (by simp) h3
 rw[zkD hsp hin hv t2 hrp h4,zm7 hsp hin hv _ [] [] (by simp) t1 h3,ziU s2 hv e2,ziU s1 hv e1]
 simp only[List.countP_nil,List.any_nil,Nat.zero_add,one]
 cases (zbe 10 p v).2<;>cases (zbe 10 q v).2<;>rfl
theorem zrA {w:List Data} (hs:WSmall w){a k:Int}{p q:Pat}{z:List Pat} (h:minV w a k p q=some z):∀x∈z,zad w 11 ⟨a,k⟩ x=true∧isP w ⟨a,k⟩ x=true∧∃m v,zaX w m ⟨a,k⟩ v=true∧hitP x v=true:=by
 obtain⟨h2,r,h3,h4,h5⟩:=zk2 h
 obtain⟨hsp,hin,t1,t2,s1,s2,e1,e2,_⟩:=zf4 hs h2
 have hrp:=zfZ _ [] [] (by simp) t1 (by simp) h3
 intro x hx
 obtain⟨p1,_,p2⟩:=zkE (S:=fun _=>True) (fun _ _ _ _ _ _=>trivial) (fun b hb=>⟨t2 b hb,trivial⟩) (fun a ha=>⟨hrp a ha,trivial⟩) h4 x hx
 obtain⟨m,v,h6,h7⟩:=zi8 hsp 11 hin p1 (by unfold zbn at p2;simpa using p2)
 exact⟨p1,List.all_eq_true.1 h5 x hx,m,v,h6,h7⟩
theorem znP {w:List Data} (hs:WSmall w){a k:Int}{p:Pat}{z:List Pat} (h:minV w a k p p=some z):z=[]:=by
 cases z with
 |nil=>rfl
 |cons x r=>
  exfalso
  obtain⟨_,_,m,v,h1,h2⟩:=zrA hs h x (by simp)
  have h3:=ztl hs h h1
  have h4:0<(x::r).countP (fun y=>hitP y v):=List.countP_pos_iff.2 ⟨x,by simp,h2⟩
  rw[h3] at h4
  cases hx:(zbe 10 p v).2<;>rw[hx] at h4<;>simp[one] at h4
theorem zte {w:List Data}{t:Ty}:isP w t anyP=true:=by
 have e:zae w t anyP=[]:=by unfold zae;rw[if_neg (by decide),if_neg (by decide),if_neg (by decide)]
 have ho:ownP w t anyP=true:=by simp[ownP,anyP,Pat.op,Pat.n,Pat.m,Pat.var,Pat.ctor]
 have h:zat w 10 t anyP=true:=by
  show(ownP w t anyP&&all2 _ (zae w t anyP) anyP.kids)=true
  rw[e,ho];rfl
 have h2:anyP.size=1:=zgF.1
 have h3:linP w 10 t anyP=true:=by
  unfold linP;rw[e];rfl
 unfold isP;rw[h,h3,h2];rfl
theorem zui {w:List Data}{a k:Int}{p q:Pat} (h:zbV w a k p q=true):zbV w a k p anyP=true:=by
 have hp:zcB anyP=true:=by
  have h:zap (zas anyP)=[anyQ]:=by
   rw[zbl,if_neg (by decide),if_neg (by decide)]
   exact zbU
  unfold zcB;rw[h];rfl
 unfold zbV at h ⊢
 simp only[Bool.and_eq_true] at h ⊢
 exact⟨⟨h.1.1,zte⟩,h.2.1,hp⟩
theorem znQ {w:List Data}{a k:Int}{p q:Pat}{z:List Pat} (h:minV w a k p q=some z):minV w a k p anyP=some []:=by
 obtain⟨h2,r,h3,h4,h5⟩:=zk2 h
 have hp:zaS anyP=[anyQ]:=by
  have h:zap (zas anyP)=[anyQ]:=by
   rw[zbl,if_neg (by decide),if_neg (by decide)]
   exact zbU
  unfold zaS;rw[h];rfl
 have hw:zaE w ⟨a,k⟩ r (zaS anyP)=some []:=by
  rw[hp]
  unfold zaE
  have:zbM w ⟨a,k⟩ (r.filter (zbn w ⟨a,k⟩)) anyQ=[]:=by
   unfold zbM
   have:(r.filter (zbn w ⟨a,k⟩)).flatMap (fun a'=>zaq w 10 ⟨a,k⟩ a' anyQ)=[]:=by
    rw[List.flatMap_eq_nil_iff]
    intro x _
    exact zek rfl
   rw[this];rfl
  rw[subL,this,if_pos (by simp),subL]
 rw[zlZ (zui h2) h3 hw]
 rfl
def prA (b:Str):Pat:=(mutP b (typP b 0) (typQ b 0)).1
def prQ (b:Str):Nat:=(mutP b (typP b 0) (typQ b 0)).2
def prB (b:Str):Pat:=zci b (zbf b 0) (typT b 0) (prQ b)
theorem zvI (b:Str):prQ b≤610:=by
 have h1:=(znl b 0).2.2
 unfold prQ mutP
 repeat' split
 all_goals (dsimp only;omega)
theorem zpG (b:Str):(prA b).size≤2000∧(prA b).ok:=by
 have h:=znl b 0
 exact zuB (by omega) h.2.1
theorem zpH (b:Str):(prB b).size≤242∧(prB b).ok:=zmg (b:=b) (zdP b 0).few (zic b 0) (prQ b)
theorem zpF (b:Str){w:List Data}{t:Ty} (h:zat w 10 t (prA b)=true):Form (zap (zas (prA b))):=ztm h
theorem zib {b:Str} (hb:b.length≤1000000000000):
  FnD Tryz.prog 45 [.d (zcy b)] [] (.tup [.d (zan (zbf (b.take 2000) 0)),.agg [.d (.i (typT (b.take 2000) 0).data),.d (.i (typT (b.take 2000) 0).index)],
   .agg [.d (.i (prA (b.take 2000)).op),.d (.i (prA (b.take 2000)).ctor),.d (.i (prA (b.take 2000)).n),.d (.i (prA (b.take 2000)).m),.d (.i (prA (b.take 2000)).var),.d (zac (prA (b.take 2000)).kids)],
   .agg [.d (.i (prB (b.take 2000)).op),.d (.i (prB (b.take 2000)).ctor),.d (.i (prB (b.take 2000)).n),.d (.i (prB (b.take 2000)).m),.d (.i (prB (b.take 2000)).var),.d (zac (prB (b.take 2000)).kids)]]) []:=by
 have hop:=zht hb
 have hb2:(b.take 2000).length≤2000:=by rw[List.length_take];omega
 generalize b.take 2000=e at *
 have hpo:=znl e 0
 have hl:=zdP e 0
 have hq:=zvI e
 have hty:=zms (p:=0) hb2 (by omega)
 have hmp:=zla (q:=typQ e 0) hb2 (by omega) hpo.2.1
 have hso:=zh8 hb2 hl.dp.wt hl.few (a:=(typT e 0).data) (k:=(typT e 0).index) (p:=prQ e) (by omega) (zic e 0)
 rw[show(mutP e (typP e 0) (typQ e 0)).1=prA e from rfl,show(mutP e (typP e 0) (typQ e 0)).2=prQ e from rfl] at hmp
 rw[show zci e (zbf e 0) ⟨(typT e 0).data,(typT e 0).index⟩ (prQ e)=prB e from rfl] at hso
 generalize prA e=x1 at *
 generalize prB e=x2 at *
 generalize prQ e=q1 at *
 refine bd Tryz.f45 29 [] [] fun w0 F0 own kept hk=>?_
 refine ab 3003 tz25 ?_
 refine ab 3004 tz28 ?_
 refine ab 3005 tz28 ?_
 refine tv ?_
 refine Walk.call (cr:=[900]) zrm (hop) rfl .none rfl rfl (LeL.refl _) trivial rfl (by first|rfl|(simp only[zbo,List.all_cons,List.all_nil,zco,zbW,AV.idsL,AV.ids,zak,zaj,List.map_cons,List.map_nil];rfl)) (by first|rfl|(simp only[zay,occH,occE,Res.ids,List.cons_append,List.nil_append,AV.idsL,AV.ids,zak,zaj,zar,zaM,List.map_cons,List.map_nil,upC];rfl)) ?_
 refine ev ?_
 refine wd zvR (hty) rfl rfl ⟨rfl,trivial⟩ ?_
 refine ev ?_
 refine ab 3008 tz25 ?_
 refine ab 3009 tz28 ?_
 refine ab 3010 tz44 ?_
 refine ev ?_
 refine so ty25 ?_
 refine so ty28 ?_
 refine so ty44 ?_
 refine tv ?_
 refine wd zvS (hmp) rfl rfl ⟨rfl,trivial⟩ ?_
 refine evd [] [] ?_
 refine wd ztS (hso) rfl rfl ⟨rfl,trivial⟩ ?_
 refine evd [] [] ?_
 refine so ty25 ?_
 refine so ty28 ?_
 refine so ty28 ?_
 refine dr ?_
 focus (refine rn0 (.cons (.tmp rfl) (.cons (.cellA ty25 rfl rfl rfl) (.cons (.cellA ty28 rfl rfl rfl) (.cons (.cellA ty28 rfl rfl rfl) .nil)))) (.tup (.cons (.eqd ?_) (.cons (.agg (.cons (.eqd ?_) (.cons (.eqd ?_) .nil))) (.cons (.agg (.cons (.eqd ?_) (.cons (.eqd ?_) (.cons (.eqd ?_) (.cons (.eqd ?_) (.cons (.eqd ?_) (.cons (.eqd ?_) .nil))))))) (.cons (.agg (.cons (.eqd ?_) (.cons (.eqd ?_) (.cons (.eqd ?_) (.cons (.eqd ?_) (.cons (.eqd ?_) (.cons (.eqd ?_) .nil))))))) .nil)))));all_goals (first|rfl|(simp[];done)|(simp_all;done)|(simp_all;omega)|omega))
theorem zgw {b:Str} (hb:b.length≤1000000000000):
  FnD Tryz.prog 15 [.d (zcy b)] [] (.tup [.d (zan (zbf (b.take 2000) 0)),.agg [.d (.i (typT (b.take 2000) 0).data),.d (.i (typT (b.take 2000) 0).index)],
   .agg [.d (.i (prA (b.take 2000)).op),.d (.i (prA (b.take 2000)).ctor),.d (.i (prA (b.take 2000)).n),.d (.i (prA (b.take 2000)).m),.d (.i (prA (b.take 2000)).var),.d (zac (prA (b.take 2000)).kids)],
   .agg [.d (.i (prB (b.take 2000)).op),.d (.i (prB (b.take 2000)).ctor),.d (.i (prB (b.take 2000)).n),.d (.i (prB (b.take 2000)).m),.d (.i (prB (b.take 2000)).var),.d (zac (prB (b.take 2000)).kids)]]) []:=by
 refine bd Tryz.f15 12 [] [] fun w0 F0 own kept hk=>?_
 refine ab 3003 tz25 ?_
 refine ab 3004 tz28 ?_
 refine ab 3005 tz28 ?_
 refine tv ?_
 refine wc zrf (zib hb) rfl rfl ?_
 refine ev ?_
 refine so ty25 ?_
 refine so ty28 ?_
 refine so ty28 ?_
 refine tv ?_
 refine rn0 (.cons (.tmp rfl) (.cons (.cellA ty25 rfl rfl rfl) (.cons (.cellA ty28 rfl rfl rfl) (.cons (.cellA ty28 rfl rfl rfl) .nil)))) (.tup (.cons (.eqd ?_) (.cons (.agg (.cons (.eqd ?_) (.cons (.eqd ?_) .nil))) (.cons (.agg (.cons (.eqd ?_) (.cons (.eqd ?_) (.cons (.eqd ?_) (.cons (.eqd ?_) (.cons (.eqd ?_) (.cons (.eqd ?_) .nil))))))) (.cons (.agg (.cons (.eqd ?_) (.cons (.eqd ?_) (.cons (.eqd ?_) (.cons (.eqd ?_) (.cons (.eqd ?_) (.cons (.eqd ?_) .nil))))))) .nil)))))
 rotate_left 15
 all_goals (rfl)
def orQ (p q:Pat):Pat:= .mk 5 0 0 0 0 [p,q]
def prW (b:Str):Pat:=if zax b 0 2=0 then orQ (zas (prB b)) (zas (prA b)) else prB b
theorem zgx {b:Str} (hb:b.length≤1000000000000):
  FnD Tryz.prog 19 [.d (zcy b)] [] (.tup [.d (zan (zbf (b.take 2000) 0)),.agg [.d (.i (typT (b.take 2000) 0).data),.d (.i (typT (b.take 2000) 0).index)],
   .agg [.d (.i (prA (b.take 2000)).op),.d (.i (prA (b.take 2000)).ctor),.d (.i (prA (b.take 2000)).n),.d (.i (prA (b.take 2000)).m),.d (.i (prA (b.take 2000)).var),.d (zac (prA (b.take 2000)).kids)],
   .agg [.d (.i (prW (b.take 2000)).op),.d (.i (prW (b.take 2000)).ctor),.d (.i (prW (b.take 2000)).n),.d (.i (prW (b.take 2000)).m),.d (.i (prW (b.take 2000)).var),.d (zac (prW (b.take 2000)).kids)]]) []:=by
 have hpr:=zib hb
 have hop:=zht hb
 have hb2:(b.take 2000).length≤2000:=by rw[List.length_take];omega
 generalize b.take 2000=e at *
 have hpk:=zbp (b:=e) (p:=0) (n:=2) hb2 (by omega) (by omega)
 have hbb:=zb5 _ (Nat.le_refl _) (zpH e).2
 have hba:=zb5 _ (Nat.le_refl _) (zpG e).2
 have e1:zax e 0 2=0→prW e=orQ (zas (prB e)) (zas (prA e)):=fun h=>by unfold prW;rw[if_pos h]
 have e2:¬zax e 0 2=0→prW e=prB e:=fun h=>by unfold prW;rw[if_neg h]
 have e3:∀x y:Pat,zac (orQ x y).kids = .sl [x.cc,y.cc]:=fun x y=>by show D.sl (Pat.cs [x,y])=_;rw[Pat.cs_cd];rfl
 by_cases h0:zax e 0 2=0
 ·rw[e1 h0,e3]
  clear e1 e2
  generalize prA e=x1 at *
  generalize prB e=x2 at *
  refine bd Tryz.f19 36 [] [] fun w0 F0 own kept hk=>?_
  refine ab 3003 tz25 ?_
  refine ab 3004 tz28 ?_
  refine ab 3005 tz28 ?_
  refine tv ?_
  refine wc zrf (hpr) rfl rfl ?_
  refine ev ?_
  refine ab 3007 tz25 ?_
  refine ab 3008 tz28 ?_
  refine ab 3009 tz28 ?_
  refine ev ?_
  refine so ty25 ?_
  refine so ty28 ?_
  refine so ty28 ?_
  refine tv ?_
  refine Walk.call (cr:=[900]) zrm (hop) rfl .none rfl rfl (LeL.refl _) trivial rfl (by first|rfl|(simp only[zbo,List.all_cons,List.all_nil,zco,zbW,AV.idsL,AV.ids,zak,zaj,List.map_cons,List.map_nil];rfl)) (by first|rfl|(simp only[zay,occH,occE,Res.ids,List.cons_append,List.nil_append,AV.idsL,AV.ids,zak,zaj,zar,zaM,List.map_cons,List.map_nil,upC];rfl)) ?_
  refine ev ?_
  refine wd zc5 (hpk) rfl rfl ⟨rfl,trivial⟩ ?_
  refine ev ?_
  refine sq (fun h1 h1p h1s=>?_) fun h1 h1p h1s=>?_
  try simp only[Q] at h1p
  refine wc zj2 (hbb) rfl rfl ?_
  refine evd [] [] ?_
  refine wc zj2 (hba) rfl rfl ?_
  refine si [0,1] [_,_] sl26 tz28 ?_
  refine bu [0,5] [_,_] st28 ?_
  refine evd [] [] ?_
  refine so ty25 ?_
  refine so ty28 ?_
  refine so ty28 ?_
  refine dr ?_
  refine rn0 (.cons (.tmp rfl) (.cons (.cellA ty25 rfl rfl rfl) (.cons (.cellA ty28 rfl rfl rfl) (.cons (.cellA ty28 rfl rfl rfl) .nil)))) (.tup (.cons (.eqd ?_) (.cons (.agg (.cons (.eqd ?_) (.cons (.eqd ?_) .nil))) (.cons (.agg (.cons (.eqd ?_) (.cons (.eqd ?_) (.cons (.eqd ?_) (.cons (.eqd ?_) (.cons (.eqd ?_) (.cons (.eqd ?_) .nil))))))) (.cons (.agg (.cons (.eqd ?_) (.cons (.eqd ?_) (.cons (.eqd ?_) (.cons (.eqd ?_) (.cons (.eqd ?_) (.cons (.eqd ?_) .nil))))))) .nil)))))
  rotate_left 15
  try simp only[Q] at h1p
  exfalso;first|contradiction|omega
  all_goals (rfl)
 ·rw[e2 h0]
  clear e1 e2
  generalize prA e=x1 at *
  generalize prB e=x2 at *
  refine bd Tryz.f19 36 [] [] fun w0 F0 own kept hk=>?_
  refine ab 3003 tz25 ?_
  refine ab 3004 tz28 ?_
  refine ab 3005 tz28 ?_
  refine tv ?_
  refine wc zrf (hpr) rfl rfl ?_
  refine ev ?_
  refine ab 3007 tz25 ?_
  refine ab 3008 tz28 ?_
  refine ab 3009 tz28 ?_
  refine ev ?_
  refine so ty25 ?_
  refine so ty28 ?_
  refine so ty28 ?_
  refine tv ?_
  refine Walk.call (cr:=[900]) zrm (hop) rfl .none rfl rfl (LeL.refl _) trivial rfl (by first|rfl|(simp only[zbo,List.all_cons,List.all_nil,zco,zbW,AV.idsL,AV.ids,zak,zaj,List.map_cons,List.map_nil];rfl)) (by first|rfl|(simp only[zay,occH,occE,Res.ids,List.cons_append,List.nil_append,AV.idsL,AV.ids,zak,zaj,zar,zaM,List.map_cons,List.map_nil,upC];rfl)) ?_
  refine ev ?_
  refine wd zc5 (hpk) rfl rfl ⟨rfl,trivial⟩ ?_
  refine ev ?_
  refine sq (fun h1 h1p h1s=>?_) fun h1 h1p h1s=>?_
  try simp only[Q] at h1p
  exfalso;first|contradiction|omega
  try simp only[Q] at h1p
  refine so ty25 ?_
  refine so ty28 ?_
  refine so ty28 ?_
  refine dr ?_
  refine rn0 (.cons (.tmp rfl) (.cons (.cellA ty25 rfl rfl rfl) (.cons (.cellA ty28 rfl rfl rfl) (.cons (.cellA ty28 rfl rfl rfl) .nil)))) (.tup (.cons (.eqd ?_) (.cons (.agg (.cons (.eqd ?_) (.cons (.eqd ?_) .nil))) (.cons (.agg (.cons (.eqd ?_) (.cons (.eqd ?_) (.cons (.eqd ?_) (.cons (.eqd ?_) (.cons (.eqd ?_) (.cons (.eqd ?_) .nil))))))) (.cons (.agg (.cons (.eqd ?_) (.cons (.eqd ?_) (.cons (.eqd ?_) (.cons (.eqd ?_) (.cons (.eqd ?_) (.cons (.eqd ?_) .nil))))))) .nil)))))
  rotate_left 15
  all_goals (rfl)
theorem zi3 {b:Str} (hb:b.length≤1000000000000):FnD Tryz.prog 3 [.d (zcy b)] [] (.d (.bool true)) []:=by
 have hdr:=zgw hb
 have hs:WSmall (zbf (b.take 2000) 0):=(zf6 (b.take 2000) 0).small
 have hn:=ziZ (b.take 2000) 0
 have hp:=zpG (b.take 2000)
 have hq:=zpH (b.take 2000)
 have hf:=fun {w:List Data}{t:Ty}=>zpF (b.take 2000) (w:=w) (t:=t)
 have hfew:∀ {q},zbV (zbf (b.take 2000) 0) (typT (b.take 2000) 0).data (typT (b.take 2000) 0).index (prA (b.take 2000)) q=true→FewQ (zbf (b.take 2000) 0) ⟨(typT (b.take 2000) 0).data,(typT (b.take 2000) 0).index⟩ (zaS (prA (b.take 2000))):=fun h=>zqI hs hn h hf
 clear hf
 generalize zbf (b.take 2000) 0=w at *
 generalize (typT (b.take 2000) 0).data=a at *
 generalize (typT (b.take 2000) 0).index=k at *
 generalize prA (b.take 2000)=p at *
 generalize prB (b.take 2000)=q at *
 have hi:=zdA hs (a:=a) (k:=k) hp.2 hp.2 hfew
 have hsp:=zeZ hs (a:=a) (k:=k) hp.2 hp.2 (by omega) (by omega) hfew
 have hi2:=zdA hs (a:=a) (k:=k) (q:=anyP) hp.2 zgF.2 hfew
 cases hm:minV w a k p p with
 |none=>
  rw[hm] at hi hsp
  refine bd Tryz.f3 79 [41,54] [] fun w0 F0 own kept hk=>?_
  refine sq (fun h1 h1p h1s=>?_) fun h1 h1p h1s=>?_
  refine rn0 (r1 rfl) (.eqd ?_)
  rotate_left
  refine wc ztL (hdr) rfl rfl ?_
  refine evs [41,54] [] ?_
  refine ab 3004 tz25 ?_
  refine ab 3005 tz28 ?_
  refine ab 3006 tz28 ?_
  refine evs [41,54] [] ?_
  refine so ty25 ?_
  refine so ty28 ?_
  refine so ty28 ?_
  refine tv ?_
  refine wc zot (hi) rfl rfl ?_
  refine evs [41,54] [] ?_
  refine wc zrd (hsp) rfl rfl ?_
  refine evs [41,54] [] ?_
  refine Walk.neB un4 .none rfl rfl rfl ?_
  refine evs [41,54] [] ?_
  refine sq (fun h2 h2p h2s=>?_) fun h2 h2p h2s=>?_
  refine sqT ?_
  refine sqT ?_
  refine Walk.eqB un4 .none rfl rfl rfl ?_
  refine evs [41,54] [] ?_
  refine sq (fun h4 h4p h4s=>?_) fun h4 h4p h4s=>?_
  refine Walk.call (cr:=[]) zhe (zbA (l:=[]) (by simp) (by simp)) rfl (.some rfl rfl h4) rfl rfl (LeL.refl _) trivial rfl rfl rfl ?_
  refine evs [41,54] [(55,true)] ?_ ⟨⟨_,rfl,h4⟩,trivial⟩
  refine rn0 (r1 rfl) (.eqd ?_)
  rotate_left
  refine rn0 (r1 rfl) (.eqd ?_)
  rotate_left
  refine Walk.call (cr:=[]) zhe (zbA (l:=[]) (by simp) (by simp)) rfl (.some rfl rfl h2) rfl rfl (LeL.refl _) trivial rfl rfl rfl ?_
  refine evs [41,54] [(42,false)] ?_ ⟨⟨_,rfl,h2⟩,trivial⟩
  refine sq (fun h5 h5p h5s=>?_) fun h5 h5p h5s=>?_
  refine sqT ?_
  refine Walk.eqB un4 .none rfl rfl rfl ?_
  refine evs [41,54] [] ?_
  refine sq (fun h7 h7p h7s=>?_) fun h7 h7p h7s=>?_
  refine Walk.call (cr:=[]) zhe (zbA (l:=[]) (by simp) (by simp)) rfl (.some rfl rfl h7) rfl rfl (LeL.refl _) trivial rfl rfl rfl ?_
  refine evs [41,54] [(55,true)] ?_ ⟨⟨_,rfl,h7⟩,trivial⟩
  refine rn0 (r1 rfl) (.eqd ?_)
  rotate_left
  refine rn0 (r1 rfl) (.eqd ?_)
  rotate_left
  refine sq (fun h8 h8p h8s=>?_) fun h8 h8p h8s=>?_
  refine Walk.eqB un4 .none rfl rfl rfl ?_
  refine evs [41,54] [] ?_
  refine sq (fun h9 h9p h9s=>?_) fun h9 h9p h9s=>?_
  refine Walk.call (cr:=[]) zhe (zbA (l:=[]) (by simp) (by simp)) rfl (.some rfl rfl h9) rfl rfl (LeL.refl _) trivial rfl rfl rfl ?_
  refine evs [41,54] [(55,true)] ?_ ⟨⟨_,rfl,h9⟩,trivial⟩
  refine rn0 (r1 rfl) (.eqd ?_)
  rotate_left
  refine rn0 (r1 rfl) (.eqd ?_)
  rotate_left
  focus (exfalso;first|contradiction|(simp at *;done))
  all_goals (first|rfl|contradiction|(exfalso;simp at *;done))
 |some z=>
  have hz:=znP hs hm
  subst hz
  rw[znQ hm] at hi2
  rw[hm] at hi hsp
  refine bd Tryz.f3 79 [41,54] [] fun w0 F0 own kept hk=>?_
  refine sq (fun h1 h1p h1s=>?_) fun h1 h1p h1s=>?_
  refine rn0 (r1 rfl) (.eqd ?_)
  rotate_left
  refine wc ztL (hdr) rfl rfl ?_
  refine evs [41,54] [] ?_
  refine ab 3004 tz25 ?_
  refine ab 3005 tz28 ?_
  refine ab 3006 tz28 ?_
  refine evs [41,54] [] ?_
  refine so ty25 ?_
  refine so ty28 ?_
  refine so ty28 ?_
  refine tv ?_
  refine wc zot (hi) rfl rfl ?_
  refine evs [41,54] [] ?_
  refine wc zrd (hsp) rfl rfl ?_
  refine evs [41,54] [] ?_
  refine Walk.neB un4 .none rfl rfl rfl ?_
  refine evs [41,54] [] ?_
  refine sq (fun h2 h2p h2s=>?_) fun h2 h2p h2s=>?_
  refine sqT ?_
  refine sqT ?_
  refine Walk.eqB un4 .none rfl rfl rfl ?_
  refine evs [41,54] [] ?_
  refine sq (fun h4 h4p h4s=>?_) fun h4 h4p h4s=>?_
  refine Walk.call (cr:=[]) zhe (zbA (l:=[]) (by simp) (by simp)) rfl (.some rfl rfl h4) rfl rfl (LeL.refl _) trivial rfl rfl rfl ?_
  refine evs [41,54] [(55,true)] ?_ ⟨⟨_,rfl,h4⟩,trivial⟩
  refine rn0 (r1 rfl) (.eqd ?_)
  rotate_left
  refine rn0 (r1 rfl) (.eqd ?_)
  rotate_left
  refine Walk.call (cr:=[]) zhe (zbA (l:=[]) (by simp) (by simp)) rfl (.some rfl rfl h2) rfl rfl (LeL.refl _) trivial rfl rfl rfl ?_
  refine evs [41,54] [(42,false)] ?_ ⟨⟨_,rfl,h2⟩,trivial⟩
  refine sq (fun h5 h5p h5s=>?_) fun h5 h5p h5s=>?_
  refine sqT ?_
  refine Walk.eqB un4 .none rfl rfl rfl ?_
  refine evs [41,54] [] ?_
  refine sq (fun h7 h7p h7s=>?_) fun h7 h7p h7s=>?_
  refine Walk.call (cr:=[]) zhe (zbA (l:=[]) (by simp) (by simp)) rfl (.some rfl rfl h7) rfl rfl (LeL.refl _) trivial rfl rfl rfl ?_
  refine evs [41,54] [(55,true)] ?_ ⟨⟨_,rfl,h7⟩,trivial⟩
  refine rn0 (r1 rfl) (.eqd ?_)
  rotate_left
  refine rn0 (r1 rfl) (.eqd ?_)
  rotate_left
  refine sq (fun h8 h8p h8s=>?_) fun h8 h8p h8s=>?_
  refine Walk.eqB un4 .none rfl rfl rfl ?_
  refine evs [41,54] [] ?_
  refine sq (fun h9 h9p h9s=>?_) fun h9 h9p h9s=>?_
  refine Walk.call (cr:=[]) zhe (zbA (l:=[]) (by simp) (by simp)) rfl (.some rfl rfl h9) rfl rfl (LeL.refl _) trivial rfl rfl rfl ?_
  refine evs [41,54] [(55,true)] ?_ ⟨⟨_,rfl,h9⟩,trivial⟩
  refine rn0 (r1 rfl) (.eqd ?_)
  rotate_left
  refine rn0 (r1 rfl) (.eqd ?_)
  rotate_left
  refine bu [0] [_] st28 ?_
  refine Walk.call (cr:=[]) zot (hi2) rfl .none rfl rfl (.cons (.refl _) (.cons (.refl _) (.cons (.refl _) (.cons (.agg (.cons (.refl _) (.cons (.refl _) (.cons (.refl _) (.cons (.refl _) (.cons (.refl _) (.cons .nil .nil))))))) .nil)))) trivial rfl rfl rfl ?_
  refine evs [41,54] [] ?_
  refine sq (fun h10 h10p h10s=>?_) fun h10 h10p h10s=>?_
  refine sq (fun h11 h11p h11s=>?_) fun h11 h11p h11s=>?_
  refine rn0 (r1 rfl) (.eqd ?_)
  rotate_left
  refine rn0 (r1 rfl) (.eqd ?_)
  rotate_left
  refine sqF ?_
  refine rn0 (r1 rfl) (.eqd ?_)
  rotate_left
  all_goals (first|rfl|contradiction|(exfalso;simp at *;done))
end Go.Proofs.YtpgdedpljcedpaaGreat
