/-
  THE ABSTRACT WALK AND THE WALKS, part 6 of 7: the parts L26.
-/
import Derived.Test.YtflgpdjbgfkhoaaGreatR5
namespace Go.Proofs.YtflgpdjbgfkhoaaGreat
open Go
set_option linter.unusedSimpArgs false
set_option linter.unusedVariables false
set_option maxRecDepth 100000
set_option maxHeartbeats 2000000
section
variable {c:Ctx}{all:Array Oper}{chk:List Rec→Prop}{os:List Oper}{recs:List Rec}{env:Env}{hp:Hp}{Q:St→Prop}
variable {d ty:Nat}{pos:String}{af:Array Edge}{g:Option (Nat×Bool)}{pg:List (Nat×AV)}{t yt:TypeId}{x y:Operand}
theorem Walk.cut_lh {e k yb:Nat}{xs:List (List D)}{vx:AV}{o o2:Operand}{kd kd2:IntKind}{n n2:Int}{a b:Nat} (ht:SlT c.P t e k yb) (hg:GH all env g pg) (hd:Nat.blt d c.n=true)
  (hx:opd env x=some vx) (hxd:vx.toD=some (.sl xs)) (hk:∀x,x∈xs→x.length=k) (ho:opd env o=some (.d (.int kd n))) (ho2:opd env o2=some (.d (.int kd2 n2))) (hi:n = ↑a) (hi2:n2 = ↑b) (hab:a≤b) (hb:b≤xs.length)
  (hn:Walk c all chk os (zal (pg++opFL [x,o,o2] [vx,.d (.int kd n),.d (.int kd2 n2)]) [] [] ⟨some (d,.d (.sl ((xs.drop a).take (b-a)))),[]⟩::recs) ⟨(d,.d (.sl ((xs.drop a).take (b-a))))::env,hp⟩ Q):
  Walk c all chk (⟨some d,.slice t x (some o) (some o2) none,ty,pos,af,g⟩::os) recs ⟨env,hp⟩ Q:=
 Walk.pureL hg hd (by simp[opdL,hx,ho,ho2]) (fun ac G T w h=>by
  have h0:=h.2 0 (by simp) (by simp)
  have h1:=h.2 1 (by simp) (by simp)
  have h2:=h.2 2 (by simp) (by simp)
  simp only[List.getElem_cons_zero,List.getElem_cons_succ] at h0 h1 h2
  obtain⟨u,h3,h4⟩:=zk1 (P:=c.P) (w:=w) ht (h0.toD hxd) hk (lo:=some (.int kd a)) (hi:=some (.int kd2 b)) (a:=a) (b:=b) (.inr ⟨kd,rfl⟩) (.inr ⟨kd2,rfl⟩) hab hb
  exact⟨u,by simp only[execOp,h1.int_eq,h2.int_eq,hi,hi2,Option.map_none,Option.map_some,Sem.run_bind,h3,Result.andThen_ok,Sem.run_pure],.d h4⟩) hn
end
theorem zpH {c0:Cl}{l:List Cl}{v:Val} (h:¬0≤(runV [c0] v 0).1):((runV l v 0).1<0→(runV (c0::l) v 0).1<0)∧(0≤(runV l v 0).1→(runV (c0::l) v 0).1=(runV l v 0).1+1)∧(runV (c0::l) v 0).2=(runV l v 0).2:=by
 have hr:zcU c0 v=false:=by
  cases hr:zcU c0 v with
  |false=>rfl
  |true=>exact absurd (by unfold runV;rw[if_pos hr];simp) h
 have e:runV (c0::l) v 0=runV l v 1:=by
  conv=>lhs;unfold runV
  rw[if_neg (by rw[hr];simp)];rfl
 rw[e]
 obtain⟨h1,h2,h3⟩:=zoO v l 1
 exact⟨fun h=>by have:=h1 h;omega,h2,h3⟩
theorem zra {l:List Cl}{m:Nat} (h:m<l.length):((l.map Cl.c).drop m).take (m+1-m)=[Cl.c (nth l m)]:=by
 rw[show m+1-m=1 by omega,←List.map_drop,zaT h];rfl
theorem zig {b c:Str} (hb:b.length≤1000000000000) (hc:c.length≤1000000000000){w:List Data}{a k:Int}{l:List Cl}{v:Val} (hd:RunD w l v)
  (hdr:FnD Tryz.prog 7 [.d (zaQ b)] [] (.tup [.d (zag w),.agg [.d (.i a),.d (.i k)],.d (zbc l),.agg [.d (.i v.ctor),.d (.i v.num),.d (zaw v.kids)]]) [])
  (hn:¬(zax w ⟨a,k⟩ l=true∧isV w ⟨a,k⟩ v=true)):FnD Tryz.prog 4 [.d (zaQ b),.d (zaQ c)] [] (.d (.bool true)) []:=by
 have hi:=za4 hd.small (a:=a) (k:=k) hd.ok hd.vok
 have hsp:=zbV hd.small (a:=a) (k:=k) hd.ok hd.sz hd.vok hd.vsz
 rw[zfk hn] at hi hsp
 have hll:=hd.len
 refine bd Tryz.f4 155 [62,85] [] fun w0 F0 own kept hk=>?_
 refine sq (fun h1 h1p h1s=>?_) fun h1 h1p h1s=>?_
 ·try simp only[Q] at h1p
  refine sqT ?_
  refine rn0 (r1 rfl) (.eqd ?_)
  all_goals (first|rfl|contradiction|(exfalso;simp at *;done))
 ·try simp only[Q] at h1p
  refine sq (fun h3 h3p h3s=>?_) fun h3 h3p h3s=>?_
  ·try simp only[Q] at h3p
   refine rn0 (r1 rfl) (.eqd ?_)
   all_goals (first|rfl|contradiction|(exfalso;simp at *;done))
  ·try simp only[Q] at h3p
   refine Walk.call (cr:=[]) cal7 (hdr) rfl .none rfl rfl (LeL.refl _) trivial rfl rfl rfl ?_
   refine evs [62,85] [] ?_
   refine Walk.alloc (id:=3006) tz25 rfl .none rfl rfl rfl rfl ?_
   refine Walk.alloc (id:=3008) tz29 rfl .none rfl rfl rfl rfl ?_
   refine evs [62,85] [] ?_
   refine Walk.store ty25 .none rfl rfl rfl rfl rfl rfl (by simp) rfl ?_
   refine evs [62,85] [] ?_
   refine Walk.store ty29 .none rfl rfl rfl rfl rfl rfl (by simp) rfl ?_
   refine tv ?_
   refine Walk.call (cr:=[]) cal8 (hi) rfl .none rfl rfl (LeL.refl _) trivial rfl rfl rfl ?_
   refine evs [62,85] [] ?_
   refine Walk.call (cr:=[]) cal9 (hsp) rfl .none rfl rfl (LeL.refl _) trivial rfl rfl rfl ?_
   refine evs [62,85] [] ?_
   refine sq (fun h4 h4p h4s=>?_) fun h4 h4p h4s=>?_
   ·try simp only[Q] at h4p
    refine sqT ?_
    refine sqT ?_
    refine sqT ?_
    refine sqT ?_
    refine sq (fun h6 h6p h6s=>?_) fun h6 h6p h6s=>?_
    ·try simp only[Q] at h6p
     refine Walk.eqB un4 (.some rfl rfl h6) rfl rfl rfl ?_
     refine evs [62,85] [(82,true)] ?_ ⟨⟨_,rfl,h6⟩,trivial⟩
     refine sq (fun h7 h7p h7s=>?_) fun h7 h7p h7s=>?_
     ·try simp only[Q] at h7p
      refine Walk.call (cr:=[]) za3 (zau (l:=[]) (by simp) (by simp)) rfl (.some rfl rfl h7) rfl rfl (LeL.refl _) trivial rfl rfl rfl ?_
      refine evs [62,85] [(87,true)] ?_ ⟨⟨_,rfl,h7⟩,trivial⟩
      refine rn0 (r1 rfl) (.eqd ?_)
      all_goals (first|rfl|contradiction|(exfalso;simp at *;done))
     ·try simp only[Q] at h7p
      refine rn0 (r1 rfl) (.eqd ?_)
      all_goals (first|rfl|contradiction|(exfalso;simp at *;done))
    ·try simp only[Q] at h6p
     refine sqF ?_
     refine rn0 (r1 rfl) (.eqd ?_)
     all_goals (first|rfl|contradiction|(exfalso;simp at *;done))
   ·try simp only[Q] at h4p
    refine Walk.neB un4 (.some rfl rfl h4) rfl rfl rfl ?_
    refine evs [62,85] [(59,false)] ?_ ⟨⟨_,rfl,h4⟩,trivial⟩
    refine sq (fun h8 h8p h8s=>?_) fun h8 h8p h8s=>?_
    ·try simp only[Q] at h8p
     refine sqT ?_
     refine sqT ?_
     refine sqT ?_
     refine sq (fun h10 h10p h10s=>?_) fun h10 h10p h10s=>?_
     ·try simp only[Q] at h10p
      refine Walk.eqB un4 (.some rfl rfl h10) rfl rfl rfl ?_
      refine evs [62,85] [(82,true)] ?_ ⟨⟨_,rfl,h10⟩,trivial⟩
      refine sq (fun h11 h11p h11s=>?_) fun h11 h11p h11s=>?_
      ·try simp only[Q] at h11p
       refine Walk.call (cr:=[]) za3 (zau (l:=[]) (by simp) (by simp)) rfl (.some rfl rfl h11) rfl rfl (LeL.refl _) trivial rfl rfl rfl ?_
       refine evs [62,85] [(87,true)] ?_ ⟨⟨_,rfl,h11⟩,trivial⟩
       refine rn0 (r1 rfl) (.eqd ?_)
       all_goals (first|rfl|contradiction|(exfalso;simp at *;done))
      ·try simp only[Q] at h11p
       refine rn0 (r1 rfl) (.eqd ?_)
       all_goals (first|rfl|contradiction|(exfalso;simp at *;done))
     ·try simp only[Q] at h10p
      refine sqF ?_
      refine rn0 (r1 rfl) (.eqd ?_)
      all_goals (first|rfl|contradiction|(exfalso;simp at *;done))
    ·try simp only[Q] at h8p
     refine Walk.call (cr:=[]) za3 (zau (l:=[]) (by simp) (by simp)) rfl (.some rfl rfl h8) rfl rfl (LeL.refl _) trivial rfl rfl rfl ?_
     refine evs [62,85] [(64,false)] ?_ ⟨⟨_,rfl,h8⟩,trivial⟩
     refine sq (fun h12 h12p h12s=>?_) fun h12 h12p h12s=>?_
     ·try simp only[Q] at h12p
      refine sqT ?_
      refine sqT ?_
      refine sq (fun h14 h14p h14s=>?_) fun h14 h14p h14s=>?_
      ·try simp only[Q] at h14p
       refine Walk.eqB un4 (.some rfl rfl h14) rfl rfl rfl ?_
       refine evs [62,85] [(82,true)] ?_ ⟨⟨_,rfl,h14⟩,trivial⟩
       refine sq (fun h15 h15p h15s=>?_) fun h15 h15p h15s=>?_
       ·try simp only[Q] at h15p
        refine Walk.call (cr:=[]) za3 (zau (l:=[]) (by simp) (by simp)) rfl (.some rfl rfl h15) rfl rfl (LeL.refl _) trivial rfl rfl rfl ?_
        refine evs [62,85] [(87,true)] ?_ ⟨⟨_,rfl,h15⟩,trivial⟩
        refine rn0 (r1 rfl) (.eqd ?_)
        all_goals (first|rfl|contradiction|(exfalso;simp at *;done))
       ·try simp only[Q] at h15p
        refine rn0 (r1 rfl) (.eqd ?_)
        all_goals (first|rfl|contradiction|(exfalso;simp at *;done))
      ·try simp only[Q] at h14p
       refine sqF ?_
       refine rn0 (r1 rfl) (.eqd ?_)
       all_goals (first|rfl|contradiction|(exfalso;simp at *;done))
     ·try simp only[Q] at h12p
      refine sq (fun h16 h16p h16s=>?_) fun h16 h16p h16s=>?_
      ·try simp only[Q] at h16p
       refine sqT ?_
       refine sq (fun h18 h18p h18s=>?_) fun h18 h18p h18s=>?_
       ·try simp only[Q] at h18p
        refine Walk.eqB un4 (.some rfl rfl h18) rfl rfl rfl ?_
        refine evs [62,85] [(82,true)] ?_ ⟨⟨_,rfl,h18⟩,trivial⟩
        refine sq (fun h19 h19p h19s=>?_) fun h19 h19p h19s=>?_
        ·try simp only[Q] at h19p
         refine Walk.call (cr:=[]) za3 (zau (l:=[]) (by simp) (by simp)) rfl (.some rfl rfl h19) rfl rfl (LeL.refl _) trivial rfl rfl rfl ?_
         refine evs [62,85] [(87,true)] ?_ ⟨⟨_,rfl,h19⟩,trivial⟩
         refine rn0 (r1 rfl) (.eqd ?_)
         all_goals (first|rfl|contradiction|(exfalso;simp at *;done))
        ·try simp only[Q] at h19p
         refine rn0 (r1 rfl) (.eqd ?_)
         all_goals (first|rfl|contradiction|(exfalso;simp at *;done))
       ·try simp only[Q] at h18p
        refine sqF ?_
        refine rn0 (r1 rfl) (.eqd ?_)
        all_goals (first|rfl|contradiction|(exfalso;simp at *;done))
      ·try simp only[Q] at h16p
       refine sq (fun h20 h20p h20s=>?_) fun h20 h20p h20s=>?_
       ·try simp only[Q] at h20p
        refine sq (fun h21 h21p h21s=>?_) fun h21 h21p h21s=>?_
        ·try simp only[Q] at h21p
         refine Walk.eqB un4 (.some rfl rfl h21) rfl rfl rfl ?_
         refine evs [62,85] [(82,true)] ?_ ⟨⟨_,rfl,h21⟩,trivial⟩
         refine sq (fun h22 h22p h22s=>?_) fun h22 h22p h22s=>?_
         ·try simp only[Q] at h22p
          refine Walk.call (cr:=[]) za3 (zau (l:=[]) (by simp) (by simp)) rfl (.some rfl rfl h22) rfl rfl (LeL.refl _) trivial rfl rfl rfl ?_
          refine evs [62,85] [(87,true)] ?_ ⟨⟨_,rfl,h22⟩,trivial⟩
          refine rn0 (r1 rfl) (.eqd ?_)
          all_goals (first|rfl|contradiction|(exfalso;simp at *;done))
         ·try simp only[Q] at h22p
          refine rn0 (r1 rfl) (.eqd ?_)
          all_goals (first|rfl|contradiction|(exfalso;simp at *;done))
        ·try simp only[Q] at h21p
         refine sqF ?_
         refine rn0 (r1 rfl) (.eqd ?_)
         all_goals (first|rfl|contradiction|(exfalso;simp at *;done))
       ·try simp only[Q] at h20p
        exfalso;first|contradiction|(simp at *;done)
theorem zhL {b c:Str} (hb:b.length≤1000000000000) (hc:c.length≤1000000000000){w:List Data}{a k:Int}{l:List Cl}{v:Val} (hd:RunD w l v)
  (hdr:FnD Tryz.prog 7 [.d (zaQ b)] [] (.tup [.d (zag w),.agg [.d (.i a),.d (.i k)],.d (zbc l),.agg [.d (.i v.ctor),.d (.i v.num),.d (zaw v.kids)]]) [])
  (h1:zax w ⟨a,k⟩ l=true) (h2:isV w ⟨a,k⟩ v=true):FnD Tryz.prog 4 [.d (zaQ b),.d (zaQ c)] [] (.d (.bool true)) []:=by
 have hi:=za4 hd.small (a:=a) (k:=k) hd.ok hd.vok
 have hsp:=zbV hd.small (a:=a) (k:=k) hd.ok hd.sz hd.vok hd.vsz
 rw[zdt h1 h2] at hi hsp
 have hll:=hd.len
 have hl8:=(zge h1).2
 have hru:=zg9 h1 hd.ok hd.vok h2
 have hbi:=zhX hru 0
 have hps:=zau (l:=(runV l v 0).2) (by omega) hbi.2
 obtain⟨m,hm0⟩:∃m:Nat,m=c.length % l.length:=⟨_,rfl⟩
 have hml:0<l.length→m<l.length:=fun h=>by have:=Nat.mod_lt c.length h;omega
 have hmod1:(((c.map zhx).length:Int) % ((l.map Cl.c).length:Int))=(m:Int):=by rw[hm0];simp
 have hmod2:((c.length:Int) % (l.length:Int))=(m:Int):=by rw[hm0];simp
 have hlen2:((l.map Cl.c).length:Int)=l.length:=by simp
 have hcut:=fun(h:0<l.length)=>zra (l:=l) (hml h)
 have hmem:0<l.length→nth l m∈l:=fun h=>zai (hml h)
 have hell:0<l.length→(l.map Cl.c)[m]?=some (Cl.c (nth l m)):=fun h=>zak (hml h)
 generalize nth l m=c0 at *
 have hok1:0<l.length→ClsOk [c0]:=fun h=>⟨by simp,fun x hx=>by simp at hx;subst hx;exact hd.ok.2 _ (hmem h)⟩
 have hcv1:0<l.length→zax w ⟨a,k⟩ [c0]=true:=fun h=>zjC h1 (fun x hx=>by simp at hx;subst hx;exact zn9 h1 _ (hmem h)) (by simp)
 have hio:0<l.length→FnD Tryz.prog 8 [.d (zag w),.agg [.d (.i a),.d (.i k)],.d (.sl (((l.map Cl.c).drop m).take (m+1-m))),.agg [.d (.i v.ctor),.d (.i v.num),.d (zaw v.kids)]] [] (.tup [.d (.i (runV [c0] v 0).1),.d (za2 (runV [c0] v 0).2),.d (.bool true)]) []:=fun h=>by
  have hh:=za4 hd.small (a:=a) (k:=k) (v:=v) (hok1 h) hd.vok
  rw[zdt (hcv1 h) h2] at hh
  rw[hcut h]
  exact hh
 have hokf:0<l.length→ClsOk (c0::l):=fun h=>zjV c0 hd.ok hd.len (hd.ok.2 _ (hmem h))
 have hcf:=fun h=>zct hd.small (a:=a) (k:=k) (l:=c0::l) (hokf h)
 have hif:0<l.length→zax w ⟨a,k⟩ (c0::l)=true→FnD Tryz.prog 8 [.d (zag w),.agg [.d (.i a),.d (.i k)],.d (zbc (c0::l)),.agg [.d (.i v.ctor),.d (.i v.num),.d (zaw v.kids)]] [] (.tup [.d (.i (runV (c0::l) v 0).1),.d (za2 (runV (c0::l) v 0).2),.d (.bool true)]) []:=fun h0 h=>by
  have hh:=za4 hd.small (a:=a) (k:=k) (v:=v) (hokf h0) hd.vok
  rw[zdt h h2] at hh
  exact hh
 have hzb:=zor (v:=v) l 0
 have hf:=zpH (c0:=c0) (l:=l) (v:=v)
 have hf1:=fun h=>(hf h).1
 have hf2:=fun h=>(hf h).2.1
 have hpb:¬0≤(runV [c0] v 0).1→FnD Tryz.prog 10 [.d (za2 (runV l v 0).2),.d (za2 (runV (c0::l) v 0).2)] [] (.d (.bool true)) []:=fun h=>by
  rw[(hf h).2.2];exact hps
 clear hf
 generalize zax w ⟨a,k⟩ (c0::l)=cf at *
 generalize runV [c0] v 0=u at *
 generalize runV (c0::l) v 0=y at *
 generalize runV l v 0=z at *
 obtain⟨z1,z2⟩:=z
 obtain⟨y1,y2⟩:=y
 obtain⟨u1,u2⟩:=u
 dsimp only at *
 refine bd Tryz.f4 155 [62,85,96] [] fun w0 F0 own kept hk=>?_
 refine sq (fun h1 h1p h1s=>?_) fun h1 h1p h1s=>?_
 ·try simp only[Q,hmod2] at h1p
  refine sqT ?_
  refine rn0 (r1 rfl) (.eqd ?_)
  all_goals (first|rfl|contradiction|(have g1:=hf1 (by omega);have g2:=hf2 (by omega);first|(exfalso;omega)|(refine congrArg D.bool ?_;simp;omega))|(exfalso;simp at *;done))
 ·try simp only[Q,hmod2] at h1p
  refine sq (fun h3 h3p h3s=>?_) fun h3 h3p h3s=>?_
  ·try simp only[Q,hmod2] at h3p
   refine rn0 (r1 rfl) (.eqd ?_)
   all_goals (first|rfl|contradiction|(have g1:=hf1 (by omega);have g2:=hf2 (by omega);first|(exfalso;omega)|(refine congrArg D.bool ?_;simp;omega))|(exfalso;simp at *;done))
  ·try simp only[Q,hmod2] at h3p
   refine Walk.call (cr:=[]) cal7 (hdr) rfl .none rfl rfl (LeL.refl _) trivial rfl rfl rfl ?_
   refine evs [62,85,96] [] ?_
   refine Walk.alloc (id:=3006) tz25 rfl .none rfl rfl rfl rfl ?_
   refine Walk.alloc (id:=3008) tz29 rfl .none rfl rfl rfl rfl ?_
   refine evs [62,85,96] [] ?_
   refine Walk.store ty25 .none rfl rfl rfl rfl rfl rfl (by simp) rfl ?_
   refine evs [62,85,96] [] ?_
   refine Walk.store ty29 .none rfl rfl rfl rfl rfl rfl (by simp) rfl ?_
   refine tv ?_
   refine Walk.call (cr:=[]) cal8 (hi) rfl .none rfl rfl (LeL.refl _) trivial rfl rfl rfl ?_
   refine evs [62,85,96] [] ?_
   refine Walk.call (cr:=[]) cal9 (hsp) rfl .none rfl rfl (LeL.refl _) trivial rfl rfl rfl ?_
   refine evs [62,85,96] [] ?_
   refine sq (fun h4 h4p h4s=>?_) fun h4 h4p h4s=>?_
   ·try simp only[Q,hmod2] at h4p
    refine sqT ?_
    refine sqT ?_
    refine sqT ?_
    refine sqT ?_
    refine sq (fun h6 h6p h6s=>?_) fun h6 h6p h6s=>?_
    ·try simp only[Q,hmod2] at h6p
     refine Walk.eqB un4 (.some rfl rfl h6) rfl rfl rfl ?_
     refine evs [62,85,96] [(82,true)] ?_ ⟨⟨_,rfl,h6⟩,trivial⟩
     refine sq (fun h7 h7p h7s=>?_) fun h7 h7p h7s=>?_
     ·try simp only[Q,hmod2] at h7p
      refine Walk.call (cr:=[]) za3 (hps) rfl (.some rfl rfl h7) rfl rfl (LeL.refl _) trivial rfl rfl rfl ?_
      refine evs [62,85,96] [(87,true)] ?_ ⟨⟨_,rfl,h7⟩,trivial⟩
      refine rn0 (r1 rfl) (.eqd ?_)
      all_goals (first|rfl|contradiction|(have g1:=hf1 (by omega);have g2:=hf2 (by omega);first|(exfalso;omega)|(refine congrArg D.bool ?_;simp;omega))|(exfalso;simp at *;done))
     ·try simp only[Q,hmod2] at h7p
      refine rn0 (r1 rfl) (.eqd ?_)
      all_goals (first|rfl|contradiction|(have g1:=hf1 (by omega);have g2:=hf2 (by omega);first|(exfalso;omega)|(refine congrArg D.bool ?_;simp;omega))|(exfalso;simp at *;done))
    ·try simp only[Q,hmod2] at h6p
     refine sqF ?_
     refine rn0 (r1 rfl) (.eqd ?_)
     all_goals (first|rfl|contradiction|(have g1:=hf1 (by omega);have g2:=hf2 (by omega);first|(exfalso;omega)|(refine congrArg D.bool ?_;simp;omega))|(exfalso;simp at *;done))
   ·try simp only[Q,hmod2] at h4p
    refine Walk.neB un4 (.some rfl rfl h4) rfl rfl rfl ?_
    refine evs [62,85,96] [(59,false)] ?_ ⟨⟨_,rfl,h4⟩,trivial⟩
    refine sq (fun h8 h8p h8s=>?_) fun h8 h8p h8s=>?_
    ·try simp only[Q,hmod2] at h8p
     refine sqT ?_
     refine sqT ?_
     refine sqT ?_
     refine sq (fun h10 h10p h10s=>?_) fun h10 h10p h10s=>?_
     ·try simp only[Q,hmod2] at h10p
      refine Walk.eqB un4 (.some rfl rfl h10) rfl rfl rfl ?_
      refine evs [62,85,96] [(82,true)] ?_ ⟨⟨_,rfl,h10⟩,trivial⟩
      refine sq (fun h11 h11p h11s=>?_) fun h11 h11p h11s=>?_
      ·try simp only[Q,hmod2] at h11p
       refine Walk.call (cr:=[]) za3 (hps) rfl (.some rfl rfl h11) rfl rfl (LeL.refl _) trivial rfl rfl rfl ?_
       refine evs [62,85,96] [(87,true)] ?_ ⟨⟨_,rfl,h11⟩,trivial⟩
       refine rn0 (r1 rfl) (.eqd ?_)
       all_goals (first|rfl|contradiction|(have g1:=hf1 (by omega);have g2:=hf2 (by omega);first|(exfalso;omega)|(refine congrArg D.bool ?_;simp;omega))|(exfalso;simp at *;done))
      ·try simp only[Q,hmod2] at h11p
       refine rn0 (r1 rfl) (.eqd ?_)
       all_goals (first|rfl|contradiction|(have g1:=hf1 (by omega);have g2:=hf2 (by omega);first|(exfalso;omega)|(refine congrArg D.bool ?_;simp;omega))|(exfalso;simp at *;done))
     ·try simp only[Q,hmod2] at h10p
      refine sqF ?_
      refine rn0 (r1 rfl) (.eqd ?_)
      all_goals (first|rfl|contradiction|(have g1:=hf1 (by omega);have g2:=hf2 (by omega);first|(exfalso;omega)|(refine congrArg D.bool ?_;simp;omega))|(exfalso;simp at *;done))
    ·try simp only[Q,hmod2] at h8p
     refine Walk.call (cr:=[]) za3 (hps) rfl (.some rfl rfl h8) rfl rfl (LeL.refl _) trivial rfl rfl rfl ?_
     refine evs [62,85,96] [(64,false)] ?_ ⟨⟨_,rfl,h8⟩,trivial⟩
     refine sq (fun h12 h12p h12s=>?_) fun h12 h12p h12s=>?_
     ·try simp only[Q,hmod2] at h12p
      refine sqT ?_
      refine sqT ?_
      refine sq (fun h14 h14p h14s=>?_) fun h14 h14p h14s=>?_
      ·try simp only[Q,hmod2] at h14p
       refine Walk.eqB un4 (.some rfl rfl h14) rfl rfl rfl ?_
       refine evs [62,85,96] [(82,true)] ?_ ⟨⟨_,rfl,h14⟩,trivial⟩
       refine sq (fun h15 h15p h15s=>?_) fun h15 h15p h15s=>?_
       ·try simp only[Q,hmod2] at h15p
        refine Walk.call (cr:=[]) za3 (hps) rfl (.some rfl rfl h15) rfl rfl (LeL.refl _) trivial rfl rfl rfl ?_
        refine evs [62,85,96] [(87,true)] ?_ ⟨⟨_,rfl,h15⟩,trivial⟩
        refine rn0 (r1 rfl) (.eqd ?_)
        all_goals (first|rfl|contradiction|(have g1:=hf1 (by omega);have g2:=hf2 (by omega);first|(exfalso;omega)|(refine congrArg D.bool ?_;simp;omega))|(exfalso;simp at *;done))
       ·try simp only[Q,hmod2] at h15p
        refine rn0 (r1 rfl) (.eqd ?_)
        all_goals (first|rfl|contradiction|(have g1:=hf1 (by omega);have g2:=hf2 (by omega);first|(exfalso;omega)|(refine congrArg D.bool ?_;simp;omega))|(exfalso;simp at *;done))
      ·try simp only[Q,hmod2] at h14p
       refine sqF ?_
       refine rn0 (r1 rfl) (.eqd ?_)
       all_goals (first|rfl|contradiction|(have g1:=hf1 (by omega);have g2:=hf2 (by omega);first|(exfalso;omega)|(refine congrArg D.bool ?_;simp;omega))|(exfalso;simp at *;done))
     ·try simp only[Q,hmod2] at h12p
      refine sq (fun h16 h16p h16s=>?_) fun h16 h16p h16s=>?_
      ·try simp only[Q,hmod2] at h16p
       refine sqT ?_
       refine sq (fun h18 h18p h18s=>?_) fun h18 h18p h18s=>?_
       ·try simp only[Q,hmod2] at h18p
        refine Walk.eqB un4 (.some rfl rfl h18) rfl rfl rfl ?_
        refine evs [62,85,96] [(82,true)] ?_ ⟨⟨_,rfl,h18⟩,trivial⟩
        refine sq (fun h19 h19p h19s=>?_) fun h19 h19p h19s=>?_
        ·try simp only[Q,hmod2] at h19p
         refine Walk.call (cr:=[]) za3 (hps) rfl (.some rfl rfl h19) rfl rfl (LeL.refl _) trivial rfl rfl rfl ?_
         refine evs [62,85,96] [(87,true)] ?_ ⟨⟨_,rfl,h19⟩,trivial⟩
         refine rn0 (r1 rfl) (.eqd ?_)
         all_goals (first|rfl|contradiction|(have g1:=hf1 (by omega);have g2:=hf2 (by omega);first|(exfalso;omega)|(refine congrArg D.bool ?_;simp;omega))|(exfalso;simp at *;done))
        ·try simp only[Q,hmod2] at h19p
         refine rn0 (r1 rfl) (.eqd ?_)
         all_goals (first|rfl|contradiction|(have g1:=hf1 (by omega);have g2:=hf2 (by omega);first|(exfalso;omega)|(refine congrArg D.bool ?_;simp;omega))|(exfalso;simp at *;done))
       ·try simp only[Q,hmod2] at h18p
        refine sqF ?_
        refine rn0 (r1 rfl) (.eqd ?_)
        all_goals (first|rfl|contradiction|(have g1:=hf1 (by omega);have g2:=hf2 (by omega);first|(exfalso;omega)|(refine congrArg D.bool ?_;simp;omega))|(exfalso;simp at *;done))
      ·try simp only[Q,hmod2] at h16p
       refine sq (fun h20 h20p h20s=>?_) fun h20 h20p h20s=>?_
       ·try simp only[Q,hmod2] at h20p
        refine sq (fun h21 h21p h21s=>?_) fun h21 h21p h21s=>?_
        ·try simp only[Q,hmod2] at h21p
         refine Walk.eqB un4 (.some rfl rfl h21) rfl rfl rfl ?_
         refine evs [62,85,96] [(82,true)] ?_ ⟨⟨_,rfl,h21⟩,trivial⟩
         refine sq (fun h22 h22p h22s=>?_) fun h22 h22p h22s=>?_
         ·try simp only[Q,hmod2] at h22p
          refine Walk.call (cr:=[]) za3 (hps) rfl (.some rfl rfl h22) rfl rfl (LeL.refl _) trivial rfl rfl rfl ?_
          refine evs [62,85,96] [(87,true)] ?_ ⟨⟨_,rfl,h22⟩,trivial⟩
          refine rn0 (r1 rfl) (.eqd ?_)
          all_goals (first|rfl|contradiction|(have g1:=hf1 (by omega);have g2:=hf2 (by omega);first|(exfalso;omega)|(refine congrArg D.bool ?_;simp;omega))|(exfalso;simp at *;done))
         ·try simp only[Q,hmod2] at h22p
          refine rn0 (r1 rfl) (.eqd ?_)
          all_goals (first|rfl|contradiction|(have g1:=hf1 (by omega);have g2:=hf2 (by omega);first|(exfalso;omega)|(refine congrArg D.bool ?_;simp;omega))|(exfalso;simp at *;done))
        ·try simp only[Q,hmod2] at h21p
         refine sqF ?_
         refine rn0 (r1 rfl) (.eqd ?_)
         all_goals (first|rfl|contradiction|(have g1:=hf1 (by omega);have g2:=hf2 (by omega);first|(exfalso;omega)|(refine congrArg D.bool ?_;simp;omega))|(exfalso;simp at *;done))
       ·try simp only[Q,hmod2] at h20p
        refine Walk.remI .none rfl rfl rfl (by omega) ?_
        refine evs [62,85,96] [] ?_
        refine Walk.idx (i:=m) sl26 .none rfl rfl rfl (by first|exact hmod1|exact hmod2) (hell (by omega)) rfl ?_
        refine evs [62,85,96] [] ?_
        refine Walk.sliceLitG 1 sl26 tz41 rfl (by decide) (ks:=[0]) (xs:=[_]) rfl rfl (by decide) (by decide) .none rfl rfl rfl rfl rfl ?_
        refine evs [62,85,96] [] ?_
        refine Walk.append sl26 zz41 rfl .none rfl rfl rfl rfl (zaP rfl (by first|rfl|(simp;done)|(simp;omega))) (by first|exact zdb _|(intro y hy;simp at hy;subst hy;rfl)) (by simp;omega) (by simp;omega) ?_
        refine evs [62,85,96] [] ?_
        refine ar ?_ (by first|(constructor<;>omega)|(rw[hmod1];have:=hml (by omega);constructor<;>omega)|(rw[hmod2];have:=hml (by omega);constructor<;>omega))
        refine Walk.cut_lh (a:=m) (b:=m+1) sl26 .none rfl rfl rfl (by first|exact zdb _|(intro y hy;simp at hy;subst hy;rfl)) rfl rfl (by first|exact hmod1|exact hmod2) (by first|(rw[hmod1];rfl)|(rw[hmod2];rfl)|omega) (by omega) (by rw[List.length_map];have:=hml (by omega);omega) ?_
        refine evd [62,85,96] [] ?_
        refine Walk.call (cr:=[]) cal8 (hio (by omega)) rfl .none rfl rfl (LeL.refl _) trivial rfl rfl rfl ?_
        refine evd [62,85,96] [] ?_
        refine dr ?_
        refine sq (fun h23 h23p h23s=>?_) fun h23 h23p h23s=>?_
        ·try simp only[Q,hmod2] at h23p
         refine sqT ?_
         refine rn0 (r1 rfl) (.eqd ?_)
         all_goals (first|rfl|contradiction|(have g1:=hf1 (by omega);have g2:=hf2 (by omega);first|(exfalso;omega)|(refine congrArg D.bool ?_;simp;omega))|(exfalso;simp at *;done))
        ·try simp only[Q,hmod2] at h23p
         refine Walk.call (cr:=[]) zmK (hcf (by omega)) rfl (.some rfl rfl h23) rfl rfl (.cons (.refl _) (.cons (.refl _) (.cons (.gl _ _) .nil))) trivial rfl rfl rfl ?_
         refine evs [62,85,96] [(119,false)] ?_ ⟨⟨_,rfl,h23⟩,trivial⟩
         refine sq (fun h25 h25p h25s=>?_) fun h25 h25p h25s=>?_
         ·try simp only[Q,hmod2] at h25p
          refine rn0 (r1 rfl) (.eqd ?_)
          all_goals (first|rfl|contradiction|(have g1:=hf1 (by omega);have g2:=hf2 (by omega);first|(exfalso;omega)|(refine congrArg D.bool ?_;simp;omega))|(exfalso;simp at *;done))
         ·try simp only[Q,hmod2] at h25p
          refine Walk.call (cr:=[]) cal8 (hif (by omega) (by assumption)) rfl .none rfl rfl (.cons (.refl _) (.cons (.refl _) (.cons (.gl _ _) (.cons (.refl _) .nil)))) trivial rfl rfl rfl ?_
          refine evs [62,85,96] [] ?_
          refine sq (fun h26 h26p h26s=>?_) fun h26 h26p h26s=>?_
          ·try simp only[Q,hmod2] at h26p
           refine Walk.call (cr:=[]) za3 (hpb (by omega)) rfl (.some rfl rfl h26) rfl rfl (LeL.refl _) trivial rfl rfl rfl ?_
           refine evs [62,85,96] [(136,true)] ?_ ⟨⟨_,rfl,h26⟩,trivial⟩
           refine sq (fun h27 h27p h27s=>?_) fun h27 h27p h27s=>?_
           ·try simp only[Q,hmod2] at h27p
            refine sq (fun h28 h28p h28s=>?_) fun h28 h28p h28s=>?_
            ·try simp only[Q,hmod2] at h28p
             refine sq (fun h29 h29p h29s=>?_) fun h29 h29p h29s=>?_
             ·try simp only[Q,hmod2] at h29p
              refine rn0 (r1 rfl) (.eqd ?_)
              all_goals (first|rfl|contradiction|(have g1:=hf1 (by omega);have g2:=hf2 (by omega);first|(exfalso;omega)|(refine congrArg D.bool ?_;simp;omega))|(exfalso;simp at *;done))
             ·try simp only[Q,hmod2] at h29p
              refine ar ?_ (by first|(constructor<;>omega)|(rw[hmod1];have:=hml (by omega);constructor<;>omega)|(rw[hmod2];have:=hml (by omega);constructor<;>omega))
              refine rn0 (r1 rfl) (.eqd ?_)
              all_goals (first|rfl|contradiction|(have g1:=hf1 (by omega);have g2:=hf2 (by omega);first|(exfalso;omega)|(refine congrArg D.bool ?_;simp;omega))|(exfalso;simp at *;done))
            ·try simp only[Q,hmod2] at h28p
             refine sqF ?_
             refine ar ?_ (by first|(constructor<;>omega)|(rw[hmod1];have:=hml (by omega);constructor<;>omega)|(rw[hmod2];have:=hml (by omega);constructor<;>omega))
             refine rn0 (r1 rfl) (.eqd ?_)
             all_goals (first|rfl|contradiction|(have g1:=hf1 (by omega);have g2:=hf2 (by omega);first|(exfalso;omega)|(refine congrArg D.bool ?_;simp;omega))|(exfalso;simp at *;done))
           ·try simp only[Q,hmod2] at h27p
            refine rn0 (r1 rfl) (.eqd ?_)
            all_goals (first|rfl|contradiction|(have g1:=hf1 (by omega);have g2:=hf2 (by omega);first|(exfalso;omega)|(refine congrArg D.bool ?_;simp;omega))|(exfalso;simp at *;done))
          ·try simp only[Q,hmod2] at h26p
           refine sqF ?_
           refine rn0 (r1 rfl) (.eqd ?_)
           all_goals (first|rfl|contradiction|(have g1:=hf1 (by omega);have g2:=hf2 (by omega);first|(exfalso;omega)|(refine congrArg D.bool ?_;simp;omega))|(exfalso;simp at *;done))
theorem ziJ {b c:Str} (hb:b.length≤1000000000000) (hc:c.length≤1000000000000):FnD Tryz.prog 4 [.d (zaQ b),.d (zaQ c)] [] (.d (.bool true)) []:=by
 have hb2:(b.take 2000).length≤2000:=by rw[List.length_take];omega
 obtain⟨v,q,hm⟩:=znr hb2 (rcQ (b.take 2000)) (typV (b.take 2000) 0).1
 have hdr:=zc4 hb hm
 have hd:=zlK hm
 by_cases hn:zax (rcW (b.take 2000)) ⟨(rcT (b.take 2000)).data,(rcT (b.take 2000)).index⟩ (rcL (b.take 2000))=true∧isV (rcW (b.take 2000)) ⟨(rcT (b.take 2000)).data,(rcT (b.take 2000)).index⟩ v=true
 ·exact zhL hb hc hd hdr hn.1 hn.2
 ·exact zig hb hc hd hdr hn
end Go.Proofs.YtflgpdjbgfkhoaaGreat
