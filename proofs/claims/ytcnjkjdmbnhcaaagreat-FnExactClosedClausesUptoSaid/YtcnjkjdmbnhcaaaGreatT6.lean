/-
  THE LAW FnExactClosedClauses: whatever the arguments of bulk at most 1048576 are, the call returns true, and the arguments read as before.
  Conditions: the bulk alone.
-/
import Derived.Test.YtcnjkjdmbnhcaaaGreatT5
namespace Go.Proofs.YtcnjkjdmbnhcaaaGreat
open Go
set_option linter.unusedSimpArgs false
set_option linter.unusedVariables false
set_option maxRecDepth 100000
set_option maxHeartbeats 2000000
def clA:Cl:=⟨⟨1,0,0,0,0,[]⟩,⟨0,0,0⟩⟩
def zb7 (w:List Data) (t:Ty) (l:List Cl):Option (List Cl):=
 if (zbS w t l).isSome=true then (if exhQ w t l=true then some l else if l.length=8 then none else some (l++[clA])) else none
theorem zin {w:List Data}{a k:Int}{l:List Cl} (h:(zbS w ⟨a,k⟩ l).isSome=true):l.length≤8:=by
 cases hm:zbS w ⟨a,k⟩ l with
 |none=>rw[hm] at h;cases h
 |some ps=>exact(zmh (zra hm).1).2
theorem zdY {l:List Cl} (hl:ClsOk l):FnD Tryz.prog 52 [.d (za6 l)] [] (.gl 1 (l.map Cl.c)) [(1,some (.tok (l.map Cl.c).length 9))]:=by
 have hll:=hl.1
 refine bd Tryz.f52 23 [3] [] fun w0 F0 own kept hk=>?_
 refine Walk.assignNil 1 9 .none rfl rfl ?_
 refine tv ?_
 refine CWp.loopX (ι:=List (Cl)×List (Cl)) hk (fun x=>[(8,.d (.i (x.1.length:Int))),(3,.gl 1 (x.1.map Cl.c))]) [5,9,10,11,12,13,14,15,16,17,18,19,20,21] (fun x=>[(1,some (.tok ((x.1.map Cl.c)).length 9))]) (fun x=>x.1++x.2=l) (fun x=>x.2.length) ([],l) (by simp) ⟨⟨_,rfl,LeA.eqi ?_⟩,⟨⟨_,rfl,LeA.glg ?_⟩,trivial⟩⟩ ⟨zad ?_,trivial⟩ (fun x=>rfl) (fun x hg1=>?_)
 iterate 3 focus (first|rfl|(simp;done)|(simp;omega))
 obtain⟨pre,rest⟩:=x
 dsimp only at hg1 ⊢
 refine evc [3] [] ?_
 refine sq (fun h1 h1p h1s=>?_) fun h1 h1p h1s=>?_
 try simp only[Q] at h1p
 rcases rest with _|⟨y,rest⟩
 ·exfalso;simp_all
 refine Walk.idx sl28 .none rfl rfl rfl rfl (zaV hg1) rfl ?_
 refine evs [3] [] ?_
 refine Walk.alloc (id:=3005) tz60 rfl .none rfl rfl rfl rfl ?_
 refine Walk.store ty60 .none rfl rfl rfl rfl rfl rfl (by simp) rfl ?_
 refine tv ?_
 refine wc zhG (zdZ _ (Nat.le_refl _) (hl.2 y (by rw[←hg1];simp))) rfl rfl ?_
 refine evd [3] [] ?_
 refine Walk.build st60 (ks:=[0,1]) (xs:=[_,_]) rfl rfl .none rfl rfl rfl ?_
 refine Walk.sliceLit sl28 tz60 rfl (by decide) (ks:=[0]) (xs:=[_]) rfl rfl (by decide) (by decide) .none rfl rfl rfl rfl ?_
 refine Walk.append sl28 zz60 rfl .none rfl rfl rfl rfl (zaB rfl (by first|rfl|(simp;done)|(simp;omega))) (by intro x hx;simp at hx;subst hx;rfl) (by have:=congrArg List.length hg1;simp at this;simp;omega) (by have:=congrArg List.length hg1;simp at this;simp;omega) ?_
 refine asg ?_
 refine dr ?_
 refine ar ?_
 refine Exists.intro ((pre++[y],rest)) ⟨(by have hz:=hg1;rw[←hz];simp),(by simp),sx ⟨⟨_,rfl,LeA.eqi ?_⟩,⟨⟨_,rfl,LeA.glg ?_⟩,trivial⟩⟩ ⟨zad ?_,trivial⟩⟩
 iterate 3 focus (first|rfl|(simp;done)|(simp;omega))
 try simp only[Q] at h1p
 have hrest:rest=[]:=by
  rcases rest with _|⟨a,b⟩
  ·rfl
  ·exfalso;have hz:=congrArg List.length (hg1);simp only[List.length_append,List.length_cons,List.length_map] at hz;omega
 subst hrest
 refine rn [(1,some (.tok (l.map Cl.c).length 9))] (r1 rfl) (.glg ?_) ⟨rfl,rfl⟩ (SubH.get ⟨?_,trivial⟩) (zbc rfl)
 rotate_left 2
 all_goals (first|((first|rfl|(rw[List.append_nil] at hg1;subst hg1;rfl));done)|(first|rfl|(rw[List.append_nil] at hg1;subst hg1;rfl)))
theorem zfU {l:List Cl} (hl:ClsOk l):FnD Tryz.prog 52 [.d (za6 l)] [] (.gt 65 (l.map Cl.c)) [(65,some (.tok (l.map Cl.c).length 9))]:=by
 have hll:=hl.1
 have hc:∀y∈l,FnD Tryz.prog 100 [.agg [.d (.i y.pat.op),.d (.i y.pat.ctor),.d (.i y.pat.n),.d (.i y.pat.m),.d (.i y.pat.var),.d (zaf y.pat.kids)]] []
    (.agg [.d (.i y.pat.op),.d (.i y.pat.ctor),.d (.i y.pat.n),.d (.i y.pat.m),.d (.i y.pat.var),.gt 61 (y.pat.kids.map Pat.cc)]) [(61,some (.tok (y.pat.kids.map Pat.cc).length 6))]:=fun y hy=>zd0 _ true (p:=y.pat) (Nat.le_refl _) (hl.2 y hy)
 refine bd Tryz.f52 23 [] [2] fun w0 F0 own kept hk=>?_
 refine CWp.tokT 3 65 9 rfl rfl ?_
 refine evc [] [] ?_
 refine CWp.loopX (ι:=List (Cl)×List (Cl)) hk (fun x=>[(8,.d (.i (x.1.length:Int))),(3,.gt 65 (x.1.map Cl.c))]) [5,9,10,11,12,13,14,15,16,17,18,19,20,21] (fun x=>[(65,some (.tok ((x.1.map Cl.c)).length 9))]) (fun x=>x.1++x.2=l) (fun x=>x.2.length) ([],l) (by simp) ⟨⟨_,rfl,LeA.eqi ?_⟩,⟨⟨_,rfl,LeA.gtg ?_⟩,trivial⟩⟩ ⟨zad ?_,trivial⟩ (fun x=>rfl) (fun x hg1=>?_)
 iterate 3 focus (first|rfl|(simp[Pat.cs_cd];done)|(simp;omega))
 obtain⟨pre,rest⟩:=x
 dsimp only at hg1 ⊢
 refine evc [] [2] ?_
 refine sq (fun h1 h1p h1s=>?_) fun h1 h1p h1s=>?_
 try simp only[Q] at h1p
 rcases rest with _|⟨y,rest⟩
 ·exfalso;simp_all
 refine Walk.idx sl28 .none rfl rfl rfl rfl (zaV hg1) rfl ?_
 refine ev ?_
 refine Walk.alloc (id:=3005) tz60 rfl .none rfl rfl rfl rfl ?_
 refine Walk.store ty60 .none rfl rfl rfl rfl rfl rfl (by simp) rfl ?_
 refine tv ?_
 refine Walk.call (cr:=[61]) zhG (hc y (by rw[←hg1];simp)) rfl .none rfl rfl (LeL.refl _) trivial rfl (by first|rfl|(simp only[zat,List.all_cons,List.all_nil,zaF,zaz,AV.idsL,AV.ids,zab,zaa,List.map_cons,List.map_nil];rfl)) (by first|rfl|(simp only[zak,occH,occE,Res.ids,List.cons_append,List.nil_append,AV.idsL,AV.ids,zab,zaa,zac,zan,List.map_cons,List.map_nil,upC];rfl)) ?_
 refine evd [] [] ?_
 refine Walk.build st60 (ks:=[0,1]) (xs:=[_,_]) rfl rfl .none rfl rfl rfl ?_
 refine Walk.sliceLitB (id:=3019) sl28 tz60 rfl (by decide) (ks:=[0]) (xs:=[_]) rfl rfl (by decide) (by decide) .none rfl rfl rfl rfl rfl rfl rfl ?_
 refine Walk.appendT hk rfl sl28 zz60 .none rfl rfl rfl rfl (zaB rfl (by first|rfl|(simp;done)|(simp;omega))) rfl (.sc rfl (.sc rfl (.sc rfl (.sc rfl (.sc rfl (.gt rfl (by first|rfl|(simp;done)) (.sc rfl (.sc rfl (.sc rfl .nil))))))))) rfl rfl (by have:=congrArg List.length hg1;simp at this;simp;omega) (by have:=congrArg List.length hg1;simp at this;simp;omega) ?_
 refine evd [] [] ?_
 refine dr ?_
 refine ar ?_
 refine Exists.intro ((pre++[y],rest)) ⟨(by have hz:=hg1;rw[←hz];simp),(by simp),sx ⟨⟨_,rfl,LeA.eqi ?_⟩,⟨⟨_,rfl,LeA.gtg ?_⟩,trivial⟩⟩ ⟨zad ?_,trivial⟩⟩
 iterate 3 focus (first|rfl|(simp[Pat.cs_cd];done)|(simp;omega))
 try simp only[Q] at h1p
 have hrest:rest=[]:=by
  rcases rest with _|⟨a,b⟩
  ·rfl
  ·exfalso;have hz:=congrArg List.length (hg1);simp only[List.length_append,List.length_cons,List.length_map] at hz;omega
 subst hrest
 refine rn [(65,some (.tok (l.map Cl.c).length 9))] (r1 rfl) (.gtg ?_) ⟨rfl,rfl⟩ (SubH.get ⟨?_,trivial⟩) (zbc rfl)
 rotate_left 2
 all_goals (first|((first|rfl|(rw[List.append_nil] at hg1;subst hg1;rfl));done)|(first|rfl|(rw[List.append_nil] at hg1;subst hg1;rfl)))
theorem zif:FnD Tryz.prog 53 [] [] (.agg [.d (.i 1),.d (.i 0),.d (.i 0),.d (.i 0),.d (.i 0),.nils]) []:=by
 refine bd Tryz.f53 2 [] [] fun w0 F0 own kept hk=>?_
 refine Walk.alloc (id:=3000) tz56 rfl .none rfl rfl rfl rfl ?_
 refine tv ?_
 refine Walk.build st56 (ks:=[0]) (xs:=[_]) rfl rfl .none rfl rfl rfl ?_
 refine Walk.store ty56 .none rfl rfl rfl rfl rfl rfl (by simp) rfl ?_
 refine tv ?_
 refine rn0 (.cons (.cellA ty56 rfl rfl rfl) .nil) (.refl _)
theorem zhQ {w:List Data} (hs:WSmall w){a k:Int}{l:List Cl} (hl:ClsOk l):
  FnD Tryz.prog 17 [.d (zao w),.agg [.d (.i a),.d (.i k)],.d (za6 l)] [] (.tup [.d (za6 ((zb7 w ⟨a,k⟩ l).getD [])),.d (.bool (zb7 w ⟨a,k⟩ l).isSome)]) []:=by
 have hex:=zfT hs (a:=a) (k:=k) hl
 have hml:=zin (w:=w) (a:=a) (k:=k) (l:=l)
 have hll:=hl.1
 by_cases hm:(zbS w ⟨a,k⟩ l).isSome=true
 ·have hml2:=hml hm
  rw[hm] at hex
  by_cases he:exhQ w ⟨a,k⟩ l=true
  ·have hc:zb7 w ⟨a,k⟩ l=some l:=by unfold zb7;rw[if_pos hm,if_pos he]
   rw[he] at hex
   rw[hc]
   clear hml hm he hc
   refine bd Tryz.f17 33 [] [] fun w0 F0 own kept hk=>?_
   refine Walk.box (id:=3004) .none rfl rfl rfl rfl rfl rfl rfl ?_
   refine ev ?_
   refine wc zjF (hex) rfl rfl ?_
   refine ev ?_
   refine sq (fun h1 h1p h1s=>?_) fun h1 h1p h1s=>?_
   try simp only[Q,List.length_map] at h1p
   focus (exfalso;first|contradiction|(simp at *;done)|(simp at *;omega))
   try simp only[Q,List.length_map] at h1p
   refine Walk.call (cr:=[1]) zk5 (zdY hl) rfl .none rfl rfl (LeL.refl _) trivial rfl rfl rfl ?_
   refine ev ?_
   refine sq (fun h2 h2p h2s=>?_) fun h2 h2p h2s=>?_
   try simp only[Q,List.length_map] at h2p
   focus (exfalso;first|contradiction|(simp at *;done)|(simp at *;omega))
   try simp only[Q,List.length_map] at h2p
   refine sq (fun h3 h3p h3s=>?_) fun h3 h3p h3s=>?_
   try simp only[Q,List.length_map] at h3p
   focus (exfalso;first|contradiction|(simp at *;done)|(simp at *;omega))
   try simp only[Q,List.length_map] at h3p
   refine rn0 (r2 rfl rfl) (.tup (.cons (.gld ?_) (.cons (.eqd ?_) .nil)))
   rotate_left 2
   all_goals (first|rfl|(simp at *;done))
  ·have he':exhQ w ⟨a,k⟩ l=false:=by simpa using he
   rw[he'] at hex
   by_cases h8:l.length=8
   ·have hc:zb7 w ⟨a,k⟩ l=none:=by unfold zb7;rw[if_pos hm,if_neg he,if_pos h8]
    rw[hc]
    clear hml hm he he' hc
    refine bd Tryz.f17 33 [] [] fun w0 F0 own kept hk=>?_
    refine Walk.box (id:=3004) .none rfl rfl rfl rfl rfl rfl rfl ?_
    refine ev ?_
    refine wc zjF (hex) rfl rfl ?_
    refine ev ?_
    refine sq (fun h1 h1p h1s=>?_) fun h1 h1p h1s=>?_
    try simp only[Q,List.length_map] at h1p
    focus (exfalso;first|contradiction|(simp at *;done)|(simp at *;omega))
    try simp only[Q,List.length_map] at h1p
    refine Walk.call (cr:=[1]) zk5 (zdY hl) rfl .none rfl rfl (LeL.refl _) trivial rfl rfl rfl ?_
    refine ev ?_
    refine sq (fun h2 h2p h2s=>?_) fun h2 h2p h2s=>?_
    try simp only[Q,List.length_map] at h2p
    refine wc zjG (zcC) rfl rfl ?_
    refine Walk.build st60 (ks:=[0]) (xs:=[_]) rfl rfl .none rfl rfl rfl ?_
    refine Walk.sliceLit sl28 tz60 rfl (by decide) (ks:=[0]) (xs:=[_]) rfl rfl (by decide) (by decide) .none rfl rfl rfl rfl ?_
    refine Walk.append sl28 zz60 rfl .none rfl rfl rfl rfl (zaB rfl (by first|rfl|(simp;done)|(simp;omega))) (by intro x hx;simp at hx;subst hx;rfl) (by simp;omega) (by simp;omega) ?_
    refine ev ?_
    refine sq (fun h3 h3p h3s=>?_) fun h3 h3p h3s=>?_
    try simp only[Q,List.length_map] at h3p
    refine rn0 (r2 rfl rfl) (.tup (.cons (.nild ?_) (.cons (.eqd ?_) .nil)))
    rotate_left 2
    try simp only[Q,List.length_map] at h3p
    focus (exfalso;first|contradiction|(simp at *;done)|(simp at *;omega))
    try simp only[Q,List.length_map] at h2p
    focus (exfalso;first|contradiction|(simp at *;done)|(simp at *;omega))
    all_goals (rfl)
   ·have hc:zb7 w ⟨a,k⟩ l=some (l++[clA]):=by unfold zb7;rw[if_pos hm,if_neg he,if_neg h8]
    rw[hc]
    have e:za6 (l++[clA]) = .sl (l.map Cl.c++[[.i 1,.i 0,.i 0,.i 0,.i 0,.sl [],.i 0,.i 0,.i 0]]):=by show D.sl ((l++[clA]).map Cl.c)=_;rw[List.map_append];rfl
    dsimp only[Option.getD_some,Option.isSome_some]
    rw[e]
    clear hml hm he he' hc e
    refine bd Tryz.f17 33 [] [] fun w0 F0 own kept hk=>?_
    refine Walk.box (id:=3004) .none rfl rfl rfl rfl rfl rfl rfl ?_
    refine ev ?_
    refine wc zjF (hex) rfl rfl ?_
    refine ev ?_
    refine sq (fun h1 h1p h1s=>?_) fun h1 h1p h1s=>?_
    try simp only[Q,List.length_map] at h1p
    focus (exfalso;first|contradiction|(simp at *;done)|(simp at *;omega))
    try simp only[Q,List.length_map] at h1p
    refine Walk.call (cr:=[1]) zk5 (zdY hl) rfl .none rfl rfl (LeL.refl _) trivial rfl rfl rfl ?_
    refine ev ?_
    refine sq (fun h2 h2p h2s=>?_) fun h2 h2p h2s=>?_
    try simp only[Q,List.length_map] at h2p
    refine wc zjG (zcC) rfl rfl ?_
    refine Walk.build st60 (ks:=[0]) (xs:=[_]) rfl rfl .none rfl rfl rfl ?_
    refine Walk.sliceLit sl28 tz60 rfl (by decide) (ks:=[0]) (xs:=[_]) rfl rfl (by decide) (by decide) .none rfl rfl rfl rfl ?_
    refine Walk.append sl28 zz60 rfl .none rfl rfl rfl rfl (zaB rfl (by first|rfl|(simp;done)|(simp;omega))) (by intro x hx;simp at hx;subst hx;rfl) (by simp;omega) (by simp;omega) ?_
    refine ev ?_
    refine sq (fun h3 h3p h3s=>?_) fun h3 h3p h3s=>?_
    try simp only[Q,List.length_map] at h3p
    focus (exfalso;first|contradiction|(simp at *;done)|(simp at *;omega))
    try simp only[Q,List.length_map] at h3p
    refine rn0 (r2 rfl rfl) (.tup (.cons (.gld ?_) (.cons (.eqd ?_) .nil)))
    rotate_left 2
    try simp only[Q,List.length_map] at h2p
    focus (exfalso;first|contradiction|(simp at *;done)|(simp at *;omega))
    all_goals (first|rfl|(simp at *;done))
 ·have hm':(zbS w ⟨a,k⟩ l).isSome=false:=by simpa using hm
  have hc:zb7 w ⟨a,k⟩ l=none:=by unfold zb7;rw[if_neg hm]
  rw[hm'] at hex
  rw[hc]
  clear hml hm hm' hc
  refine bd Tryz.f17 33 [] [] fun w0 F0 own kept hk=>?_
  refine Walk.box (id:=3004) .none rfl rfl rfl rfl rfl rfl rfl ?_
  refine ev ?_
  refine wc zjF (hex) rfl rfl ?_
  refine ev ?_
  refine sq (fun h1 h1p h1s=>?_) fun h1 h1p h1s=>?_
  try simp only[Q,List.length_map] at h1p
  refine rn0 (r2 rfl rfl) (.tup (.cons (.nild ?_) (.cons (.eqd ?_) .nil)))
  rotate_left 2
  try simp only[Q,List.length_map] at h1p
  focus (exfalso;first|contradiction|(simp at *;done)|(simp at *;omega))
  all_goals (rfl)
theorem zhB {w:List Data} (hs:WSmall w){a k:Int}{l r:List Cl} (hl:ClsOk l) (hr:zb7 w ⟨a,k⟩ l=some r):
  FnD Tryz.prog 17 [.d (zao w),.agg [.d (.i a),.d (.i k)],.d (za6 l)] [] (.tup [.gt 65 (r.map Cl.c),.d (.bool true)]) [(65,some (.tok (r.map Cl.c).length 9))]:=by
 have hex:=zfT hs (a:=a) (k:=k) hl
 have hml:=zin (w:=w) (a:=a) (k:=k) (l:=l)
 have hll:=hl.1
 unfold zb7 at hr
 by_cases hm:(zbS w ⟨a,k⟩ l).isSome=true
 ·have hml2:=hml hm
  rw[if_pos hm] at hr
  rw[hm] at hex
  by_cases he:exhQ w ⟨a,k⟩ l=true
  ·rw[if_pos he] at hr
   rw[he] at hex
   cases hr
   refine bd Tryz.f17 33 [30] [] fun w0 F0 own kept hk=>?_
   refine Walk.box (id:=3004) .none rfl rfl rfl rfl rfl rfl rfl ?_
   refine evs [30] [] ?_
   refine wc zjF (hex) rfl rfl ?_
   refine evs [30] [] ?_
   refine sq (fun h1 h1p h1s=>?_) fun h1 h1p h1s=>?_
   try simp only[Q] at h1p
   focus (exfalso;first|contradiction|(simp at *;done))
   try simp only[Q] at h1p
   refine Walk.call (cr:=[65]) zk5 (zfU hl) rfl .none rfl rfl (LeL.refl _) trivial rfl (by first|rfl|(simp only[zat,List.all_cons,List.all_nil,zaF,zaz,AV.idsL,AV.ids,zab,zaa,List.map_cons,List.map_nil];rfl)) (by first|rfl|(simp only[zak,occH,occE,Res.ids,List.cons_append,List.nil_append,AV.idsL,AV.ids,zab,zaa,zac,zan,List.map_cons,List.map_nil,upC];rfl)) ?_
   refine evs [30] [] ?_
   refine sq (fun h2 h2p h2s=>?_) fun h2 h2p h2s=>?_
   try simp only[Q] at h2p
   focus (exfalso;first|contradiction|(simp at *;done))
   try simp only[Q] at h2p
   refine Walk.lenGt sl28 .none rfl rfl ?_
   refine evs [30] [] ?_
   refine sq (fun h3 h3p h3s=>?_) fun h3 h3p h3s=>?_
   try simp only[Q] at h3p
   exfalso;first|contradiction|(simp at *;omega)
   try simp only[Q] at h3p
   refine rn [(65,some (.tok (l.map Cl.c).length 9))] (r2 rfl rfl) (.tup (.cons (.gtg ?_) (.cons (.eqd ?_) .nil))) ⟨rfl,rfl⟩ (SubH.get ⟨?_,trivial⟩) (zbc rfl)
   rotate_left 3
   all_goals (first|((rfl);done)|(rfl))
  ·rw[if_neg he] at hr
   have he':exhQ w ⟨a,k⟩ l=false:=by simpa using he
   rw[he'] at hex
   by_cases h8:l.length=8
   ·rw[if_pos h8] at hr;cases hr
   ·rw[if_neg h8] at hr
    cases hr
    refine bd Tryz.f17 33 [30] [] fun w0 F0 own kept hk=>?_
    refine Walk.box (id:=3004) .none rfl rfl rfl rfl rfl rfl rfl ?_
    refine evs [30] [] ?_
    refine wc zjF (hex) rfl rfl ?_
    refine evs [30] [] ?_
    refine sq (fun h1 h1p h1s=>?_) fun h1 h1p h1s=>?_
    try simp only[Q] at h1p
    focus (exfalso;first|contradiction|(simp at *;done))
    try simp only[Q] at h1p
    refine Walk.call (cr:=[65]) zk5 (zfU hl) rfl .none rfl rfl (LeL.refl _) trivial rfl (by first|rfl|(simp only[zat,List.all_cons,List.all_nil,zaF,zaz,AV.idsL,AV.ids,zab,zaa,List.map_cons,List.map_nil];rfl)) (by first|rfl|(simp only[zak,occH,occE,Res.ids,List.cons_append,List.nil_append,AV.idsL,AV.ids,zab,zaa,zac,zan,List.map_cons,List.map_nil,upC];rfl)) ?_
    refine evs [30] [] ?_
    refine sq (fun h2 h2p h2s=>?_) fun h2 h2p h2s=>?_
    try simp only[Q] at h2p
    refine wc zjG (zif) rfl rfl ?_
    refine Walk.build st60 (ks:=[0]) (xs:=[_]) rfl rfl .none rfl rfl rfl ?_
    refine Walk.sliceLitB (id:=3027) sl28 tz60 rfl (by decide) (ks:=[0]) (xs:=[_]) rfl rfl (by decide) (by decide) .none rfl rfl rfl rfl rfl rfl rfl ?_
    refine Walk.appendT hk rfl sl28 zz60 .none rfl rfl rfl rfl (zaB rfl (by first|rfl|(simp;done)|(simp;omega))) rfl (.sc rfl (.sc rfl (.sc rfl (.sc rfl (.sc rfl (.ni (.sc rfl (.sc rfl (.sc rfl .nil))))))))) rfl rfl (by simp;omega) (by simp;omega) ?_
    refine evs [30] [] ?_
    refine Walk.lenGt sl28 .none rfl rfl ?_
    refine evs [30] [] ?_
    refine sq (fun h3 h3p h3s=>?_) fun h3 h3p h3s=>?_
    try simp only[Q] at h3p
    exfalso;first|contradiction|(simp at *;omega)
    try simp only[Q] at h3p
    refine rn [(65,some (.tok ((l++[clA]).map Cl.c).length 9))] (r2 rfl rfl) (.tup (.cons (.gtg ?_) (.cons (.eqd ?_) .nil))) ⟨rfl,rfl⟩ (SubH.get ⟨?_,trivial⟩) (zbc rfl)
    rotate_left 3
    try simp only[Q] at h2p
    focus (exfalso;first|contradiction|(simp at *;done))
    all_goals (first|((first|rfl|(rw[List.map_append];rfl));done)|(first|rfl|(rw[List.map_append];rfl)|(show some (Res.tok _ _)=some (Res.tok _ _);simp;done)))
 ·rw[if_neg hm] at hr;cases hr
theorem zel {l:List Cl} (hl:ClsOk l):FnD Tryz.prog 48 [.d (za6 l)] [] (.gl 1 (l.map Cl.c)) [(1,some (.tok (l.map Cl.c).length 9))]:=by
 have hll:=hl.1
 refine bd Tryz.f48 28 [] [] fun w0 F0 own kept hk=>?_
 refine Walk.sliceEmptyG 1 sl28 .none rfl rfl ?_
 refine ev ?_
 refine CWp.loopX (ι:=List (Cl)×List (Cl)) hk (fun x=>[(4,.d (.i (x.1.length:Int))),(3,.gl 1 (x.1.map Cl.c))]) [6,7,8,9,10,11,12,13,14,15,16,17,18,19,20,21,22,23,24,25,26] (fun x=>[(1,some (.tok ((x.1.map Cl.c)).length 9))]) (fun x=>x.1++x.2=l) (fun x=>x.2.length) ([],l) (by simp) ⟨⟨_,rfl,LeA.eqi ?_⟩,⟨⟨_,rfl,LeA.glg ?_⟩,trivial⟩⟩ ⟨zad ?_,trivial⟩ (fun x=>rfl) (fun x hg1=>?_)
 iterate 3 focus (first|rfl|(simp;done)|(simp;omega))
 obtain⟨pre,rest⟩:=x
 dsimp only at hg1 ⊢
 refine evc [] [] ?_
 refine sq (fun h1 h1p h1s=>?_) fun h1 h1p h1s=>?_
 try simp only[Q] at h1p
 rcases rest with _|⟨y,rest⟩
 ·exfalso;simp_all
 refine Walk.idx sl28 .none rfl rfl rfl rfl (zaV hg1) rfl ?_
 refine evd [] [] ?_
 refine wc zp0 (zfy _ (Nat.le_refl _) (hl.2 y (by rw[←hg1];simp))) rfl rfl ?_
 refine evd [] [] ?_
 refine Walk.idx sl28 .none rfl rfl rfl rfl (zaV hg1) rfl ?_
 refine evd [] [] ?_
 refine Walk.build st60 (ks:=[0,1]) (xs:=[_,_]) rfl rfl .none rfl rfl rfl ?_
 refine Walk.sliceLit sl28 tz60 rfl (by decide) (ks:=[0]) (xs:=[_]) rfl rfl (by decide) (by decide) .none rfl rfl rfl rfl ?_
 refine Walk.append sl28 zz60 rfl .none rfl rfl rfl rfl (zaB rfl (by first|rfl|(simp;done)|(simp;omega))) (by intro x hx;simp at hx;subst hx;rfl) (by have:=congrArg List.length hg1;simp at this;simp;omega) (by have:=congrArg List.length hg1;simp at this;simp;omega) ?_
 refine evd [] [] ?_
 refine dr ?_
 refine ar ?_
 refine Exists.intro ((pre++[y],rest)) ⟨(by have hz:=hg1;rw[←hz];simp),(by simp),sx ⟨⟨_,rfl,LeA.eqi ?_⟩,⟨⟨_,rfl,LeA.glg ?_⟩,trivial⟩⟩ ⟨zad ?_,trivial⟩⟩
 iterate 3 focus (first|rfl|(simp;done)|(simp;omega))
 try simp only[Q] at h1p
 have hrest:rest=[]:=by
  rcases rest with _|⟨a,b⟩
  ·rfl
  ·exfalso;have hz:=congrArg List.length (hg1);simp only[List.length_append,List.length_cons,List.length_map] at hz;omega
 subst hrest
 refine rn [(1,some (.tok (l.map Cl.c).length 9))] (r1 rfl) (.glg ?_) ⟨rfl,rfl⟩ (SubH.get ⟨?_,trivial⟩) (zbc rfl)
 rotate_left 2
 all_goals (first|((first|rfl|(rw[List.append_nil] at hg1;subst hg1;rfl));done)|(first|rfl|(rw[List.append_nil] at hg1;subst hg1;rfl)))
theorem zhZ {w:List Data} (hs:WSmall w){a k:Int}{l:List Cl} (hl:ClsOk l) (hz:ClsSz l):
  FnD Tryz.prog 13 [.d (zao w),.agg [.d (.i a),.d (.i k)],.d (za6 l)] [] (.tup [.d (za6 ((zb7 w ⟨a,k⟩ l).getD [])),.d (.bool (zb7 w ⟨a,k⟩ l).isSome)]) []:=by
 have hex:=zjw hs (a:=a) (k:=k) hl hz
 have hml:=zin (w:=w) (a:=a) (k:=k) (l:=l)
 have hll:=hl.1
 by_cases hm:(zbS w ⟨a,k⟩ l).isSome=true
 ·have hml2:=hml hm
  rw[hm] at hex
  by_cases he:exhQ w ⟨a,k⟩ l=true
  ·have hc:zb7 w ⟨a,k⟩ l=some l:=by unfold zb7;rw[if_pos hm,if_pos he]
   rw[he] at hex
   rw[hc]
   clear hml hm he hc
   refine bd Tryz.f13 40 [] [] fun w0 F0 own kept hk=>?_
   refine Walk.box (id:=3004) .none rfl rfl rfl rfl rfl rfl rfl ?_
   refine ev ?_
   refine wc znW (hex) rfl rfl ?_
   refine ev ?_
   refine sq (fun h1 h1p h1s=>?_) fun h1 h1p h1s=>?_
   try simp only[Q,List.length_map] at h1p
   refine sqT ?_
   focus (exfalso;first|contradiction|(simp at *;done)|(simp at *;omega))
   try simp only[Q,List.length_map] at h1p
   refine sq (fun h3 h3p h3s=>?_) fun h3 h3p h3s=>?_
   try simp only[Q,List.length_map] at h3p
   refine sq (fun h4 h4p h4s=>?_) fun h4 h4p h4s=>?_
   try simp only[Q,List.length_map] at h4p
   focus (exfalso;first|contradiction|(simp at *;done)|(simp at *;omega))
   try simp only[Q,List.length_map] at h4p
   refine Walk.call (cr:=[1]) znX (zel hl) rfl .none rfl rfl (LeL.refl _) trivial rfl rfl rfl ?_
   refine ev ?_
   refine sq (fun h5 h5p h5s=>?_) fun h5 h5p h5s=>?_
   try simp only[Q,List.length_map] at h5p
   focus (exfalso;first|contradiction|(simp at *;done)|(simp at *;omega))
   try simp only[Q,List.length_map] at h5p
   refine rn0 (r2 rfl rfl) (.tup (.cons (.gld ?_) (.cons (.eqd ?_) .nil)))
   rotate_left 2
   try simp only[Q,List.length_map] at h3p
   refine sqF ?_
   refine Walk.call (cr:=[1]) znX (zel hl) rfl .none rfl rfl (LeL.refl _) trivial rfl rfl rfl ?_
   refine ev ?_
   refine sq (fun h7 h7p h7s=>?_) fun h7 h7p h7s=>?_
   try simp only[Q,List.length_map] at h7p
   focus (exfalso;first|contradiction|(simp at *;done)|(simp at *;omega))
   try simp only[Q,List.length_map] at h7p
   refine rn0 (r2 rfl rfl) (.tup (.cons (.gld ?_) (.cons (.eqd ?_) .nil)))
   rotate_left 2
   all_goals (first|rfl|(simp at *;done))
  ·have he':exhQ w ⟨a,k⟩ l=false:=by simpa using he
   rw[he'] at hex
   by_cases h8:l.length=8
   ·have hc:zb7 w ⟨a,k⟩ l=none:=by unfold zb7;rw[if_pos hm,if_neg he,if_pos h8]
    rw[hc]
    clear hml hm he he' hc
    refine bd Tryz.f13 40 [] [] fun w0 F0 own kept hk=>?_
    refine Walk.box (id:=3004) .none rfl rfl rfl rfl rfl rfl rfl ?_
    refine ev ?_
    refine wc znW (hex) rfl rfl ?_
    refine ev ?_
    refine sq (fun h1 h1p h1s=>?_) fun h1 h1p h1s=>?_
    try simp only[Q,List.length_map] at h1p
    refine sqT ?_
    refine Walk.sliceEmpty sl28 .none rfl ?_
    refine ev ?_
    refine rn0 (r2 rfl rfl) (.tup (.cons (.eqd ?_) (.cons (.eqd ?_) .nil)))
    rotate_left 2
    try simp only[Q,List.length_map] at h1p
    refine sq (fun h3 h3p h3s=>?_) fun h3 h3p h3s=>?_
    try simp only[Q,List.length_map] at h3p
    refine sq (fun h4 h4p h4s=>?_) fun h4 h4p h4s=>?_
    try simp only[Q,List.length_map] at h4p
    refine Walk.sliceEmpty sl28 .none rfl ?_
    refine ev ?_
    refine rn0 (r2 rfl rfl) (.tup (.cons (.eqd ?_) (.cons (.eqd ?_) .nil)))
    rotate_left 2
    try simp only[Q,List.length_map] at h4p
    focus (exfalso;first|contradiction|(simp at *;done)|(simp at *;omega))
    try simp only[Q,List.length_map] at h3p
    refine sqF ?_
    focus (exfalso;first|contradiction|(simp at *;done)|(simp at *;omega))
    all_goals (rfl)
   ·have hc:zb7 w ⟨a,k⟩ l=some (l++[clA]):=by unfold zb7;rw[if_pos hm,if_neg he,if_neg h8]
    rw[hc]
    have e:za6 (l++[clA]) = .sl (l.map Cl.c++[[.i 1,.i 0,.i 0,.i 0,.i 0,.sl [],.i 0,.i 0,.i 0]]):=by show D.sl ((l++[clA]).map Cl.c)=_;rw[List.map_append];rfl
    dsimp only[Option.getD_some,Option.isSome_some]
    rw[e]
    clear hml hm he he' hc e
    refine bd Tryz.f13 40 [] [] fun w0 F0 own kept hk=>?_
    refine Walk.box (id:=3004) .none rfl rfl rfl rfl rfl rfl rfl ?_
    refine ev ?_
    refine wc znW (hex) rfl rfl ?_
    refine ev ?_
    refine sq (fun h1 h1p h1s=>?_) fun h1 h1p h1s=>?_
    try simp only[Q,List.length_map] at h1p
    refine sqT ?_
    focus (exfalso;first|contradiction|(simp at *;done)|(simp at *;omega))
    try simp only[Q,List.length_map] at h1p
    refine sq (fun h3 h3p h3s=>?_) fun h3 h3p h3s=>?_
    try simp only[Q,List.length_map] at h3p
    refine sq (fun h4 h4p h4s=>?_) fun h4 h4p h4s=>?_
    try simp only[Q,List.length_map] at h4p
    focus (exfalso;first|contradiction|(simp at *;done)|(simp at *;omega))
    try simp only[Q,List.length_map] at h4p
    refine Walk.call (cr:=[1]) znX (zel hl) rfl .none rfl rfl (LeL.refl _) trivial rfl rfl rfl ?_
    refine ev ?_
    refine sq (fun h5 h5p h5s=>?_) fun h5 h5p h5s=>?_
    try simp only[Q,List.length_map] at h5p
    refine wc znY (zeD) rfl rfl ?_
    refine Walk.build st60 (ks:=[0]) (xs:=[_]) rfl rfl .none rfl rfl rfl ?_
    refine Walk.sliceLit sl28 tz60 rfl (by decide) (ks:=[0]) (xs:=[_]) rfl rfl (by decide) (by decide) .none rfl rfl rfl rfl ?_
    refine Walk.append sl28 zz60 rfl .none rfl rfl rfl rfl (zaB rfl (by first|rfl|(simp;done)|(simp;omega))) (by intro x hx;simp at hx;subst hx;rfl) (by simp;omega) (by simp;omega) ?_
    refine ev ?_
    refine rn0 (r2 rfl rfl) (.tup (.cons (.gld ?_) (.cons (.eqd ?_) .nil)))
    rotate_left 2
    try simp only[Q,List.length_map] at h5p
    focus (exfalso;first|contradiction|(simp at *;done)|(simp at *;omega))
    try simp only[Q,List.length_map] at h3p
    refine sqF ?_
    refine Walk.call (cr:=[1]) znX (zel hl) rfl .none rfl rfl (LeL.refl _) trivial rfl rfl rfl ?_
    refine ev ?_
    refine sq (fun h7 h7p h7s=>?_) fun h7 h7p h7s=>?_
    try simp only[Q,List.length_map] at h7p
    refine wc znY (zeD) rfl rfl ?_
    refine Walk.build st60 (ks:=[0]) (xs:=[_]) rfl rfl .none rfl rfl rfl ?_
    refine Walk.sliceLit sl28 tz60 rfl (by decide) (ks:=[0]) (xs:=[_]) rfl rfl (by decide) (by decide) .none rfl rfl rfl rfl ?_
    refine Walk.append sl28 zz60 rfl .none rfl rfl rfl rfl (zaB rfl (by first|rfl|(simp;done)|(simp;omega))) (by intro x hx;simp at hx;subst hx;rfl) (by simp;omega) (by simp;omega) ?_
    refine ev ?_
    refine rn0 (r2 rfl rfl) (.tup (.cons (.gld ?_) (.cons (.eqd ?_) .nil)))
    rotate_left 2
    try simp only[Q,List.length_map] at h7p
    focus (exfalso;first|contradiction|(simp at *;done)|(simp at *;omega))
    all_goals (first|rfl|(simp at *;done))
 ·have hm':(zbS w ⟨a,k⟩ l).isSome=false:=by simpa using hm
  have hc:zb7 w ⟨a,k⟩ l=none:=by unfold zb7;rw[if_neg hm]
  rw[hm'] at hex
  rw[hc]
  clear hml hm hm' hc
  refine bd Tryz.f13 40 [] [] fun w0 F0 own kept hk=>?_
  refine Walk.box (id:=3004) .none rfl rfl rfl rfl rfl rfl rfl ?_
  refine ev ?_
  refine wc znW (hex) rfl rfl ?_
  refine ev ?_
  refine sq (fun h1 h1p h1s=>?_) fun h1 h1p h1s=>?_
  try simp only[Q,List.length_map] at h1p
  refine sqT ?_
  refine Walk.sliceEmpty sl28 .none rfl ?_
  refine ev ?_
  refine rn0 (r2 rfl rfl) (.tup (.cons (.eqd ?_) (.cons (.eqd ?_) .nil)))
  rotate_left 2
  try simp only[Q,List.length_map] at h1p
  refine sq (fun h3 h3p h3s=>?_) fun h3 h3p h3s=>?_
  try simp only[Q,List.length_map] at h3p
  refine sq (fun h4 h4p h4s=>?_) fun h4 h4p h4s=>?_
  try simp only[Q,List.length_map] at h4p
  refine Walk.sliceEmpty sl28 .none rfl ?_
  refine ev ?_
  refine rn0 (r2 rfl rfl) (.tup (.cons (.eqd ?_) (.cons (.eqd ?_) .nil)))
  rotate_left 2
  try simp only[Q,List.length_map] at h4p
  focus (exfalso;first|contradiction|(simp at *;done)|(simp at *;omega))
  try simp only[Q,List.length_map] at h3p
  refine sqF ?_
  focus (exfalso;first|contradiction|(simp at *;done)|(simp at *;omega))
  all_goals (rfl)
theorem zik {l:List Cl}{k:Int} (hl:l=[]):FnD Tryz.prog 21 [.d (.sl []),.d (.i k)] [] (.d (.i (k+szL Cl.szM l))) []:=by
 subst hl
 refine bd Tryz.f21 85 [] [] fun w0 F0 own kept hk=>?_
 refine CWp.loopX (ι:=Unit) hk (fun x=>[(5,.d (.i 0)),(1,.d (.i k))]) [6,7,8,9,10,11,12,13,14,15,16,17,18,19,20,21,22,23,24,25,26,27,28,29,30,31,32,33,34,35,36,37,38,39,40,41,42,43,44,45,46,47,48,49,50,51,52,53,54,55,56,57,58,59,60,61,62,63,64,65,66,67,68,69,70,71,72,73,74,75,76,77,78,79,80,81,82,83] (fun x=>[]) (fun x=>True) (fun x=>0) () trivial ⟨⟨_,rfl,LeA.eqi ?_⟩,⟨⟨_,rfl,LeA.eqi ?_⟩,trivial⟩⟩ trivial (fun x=>rfl) (fun x hg1=>?_)
 iterate 2 focus (first|rfl|(simp;done)|(simp_all;done)|omega)
 refine evc [] [] ?_
 refine sq (fun h1 h1p h1s=>?_) fun h1 h1p h1s=>?_
 try simp only[Q] at h1p
 exfalso;revert h1;simp
 try simp only[Q] at h1p
 refine rn0 (r1 rfl) (.eqd ?_)
 rotate_left
 all_goals (first|rfl|(simp[szL];done))
theorem zke {l:List Data}{k:Int} (h0:0<k) (h1:k+szL Data.sz l≤1000000000000) (hl:WSmall l):FnD Tryz.prog 20 [.ms 63 l.length,.d (.i k)] [(63,some (.tree (zah false (l.map Data.c))))]
  (.d (.i (k+szL Data.sz l))) [(63,some (.tree (zah false ((mkL Data.one Data.sz k l).map Data.c))))]:=FnD.ren rfl (zaa _ _) (zaa _ _) (zj2 h0 h1 hl) 63
theorem ziH {l:List Cl}{k:Int} (h0:0<k) (h1:k+szL Cl.szM l≤1000000000000) (hok:ClsOk l):FnD Tryz.prog 21 [.ms 68 l.length,.d (.i k)] [(68,some (.tree (zah false (l.map Cl.c))))]
  (.d (.i (k+szL Cl.szM l))) [(68,some (.tree (zah false ((mkL Cl.one Cl.szM k l).map Cl.c))))]:=FnD.ren rfl (zaa _ _) (zaa _ _) (zfl h0 h1 hok) 68
theorem znK {m:Bool}{l:List Cl}{k:Int} (h0:0<k) (h1:k+szL Cl.szM l≤1000000000000) (hok:ClsOk l):FnD Tryz.prog 21 [.ms 65 l.length,.d (.i k)] [(65,some (.tree (zah m (l.map Cl.c))))]
  (.d (.i (k+szL Cl.szM l))) [(65,some (.tree (zah false ((mkL Cl.one Cl.szM k l).map Cl.c))))]:=FnD.ren rfl (zaa _ _) (zaa _ _) (zfl h0 h1 hok) 65
theorem zij {w:List Data} (hs:WSmall w){a k:Int}{cl:List Cl} (hok:ClsOk cl){r:List Cl} (hne:r≠[]) (hro:ClsOk r) (hrz:szL Cl.szM r≤szL Cl.szM cl+8)
  (hspec:FnD Tryz.prog 13 [.d (zao w),.agg [.d (.i a),.d (.i k)],.d (za6 cl)] [] (.tup [.d (za6 r),.d (.bool true)]) [])
  (himp:FnD Tryz.prog 17 [.d (zao w),.agg [.d (.i a),.d (.i k)],.d (za6 cl)] [] (.tup [.d (za6 r),.d (.bool true)]) [])
  (hown:FnD Tryz.prog 17 [.d (zao w),.agg [.d (.i a),.d (.i k)],.d (za6 cl)] [] (.tup [.gt 65 (r.map Cl.c),.d (.bool true)]) [(65,some (.tok (r.map Cl.c).length 9))]):
  FnD Tryz.prog 3 [.d (zao w),.agg [.d (.i a),.d (.i k)],.d (za6 cl)] [] (.d (.bool true)) []:=by
 have z:=zbU (left:=1048576) (zet w)
 have z2:=zbU (left:=szr 1048576 (zet w)) (mCls cl)
 have hbd:=zgX w
 have hnn:=zaT (l:=w) Data.sz_nn
 have hcb:=Cls.szM_le cl
 have hcn:=zaT (l:=cl) Cl.szM_nn
 have hpn:=zaT (l:=r) Cl.szM_nn
 refine bd Tryz.f3 127 [58,87,117] [12] fun w0 F0 own kept hk=>?_
 refine Walk.box (id:=3004) .none rfl rfl rfl rfl rfl rfl rfl ?_
 refine evs [58,87,117] [] ?_
 refine wc zr6 (zhe hs (by omega) (by omega)) rfl rfl ?_
 refine evs [58,87,117] [] ?_
 refine sq (fun h1 h1p h1s=>?_) fun h1 h1p h1s=>?_
 try simp only[Q] at h1p
 refine rn0 (r1 rfl) (.eqd ?_)
 rotate_left
 try simp only[Q] at h1p
 refine wc zr7 (zf9 hok (by omega) (by omega)) rfl rfl ?_
 refine evs [58,87,117] [] ?_
 refine sq (fun h2 h2p h2s=>?_) fun h2 h2p h2s=>?_
 try simp only[Q] at h2p
 refine rn0 (r1 rfl) (.eqd ?_)
 rotate_left
 try simp only[Q] at h2p
 refine wc zg5 (zcG hs) rfl rfl ?_
 refine evd [58,87,117] [] ?_
 refine wc zg6 (zcc) rfl rfl ?_
 refine evd [58,87,117] [] ?_
 refine wc zg7 (zco hok) rfl rfl ?_
 refine wc zr8 (hspec) rfl rfl ?_
 refine evd [58,87,117] [] ?_
 refine dr ?_
 refine Walk.call (cr:=[63]) zg5 (zhf hs) rfl .none rfl rfl (LeL.refl _) trivial rfl (by first|rfl|(simp only[zat,List.all_cons,List.all_nil,zaF,zaz,AV.idsL,AV.ids,zab,zaa,List.map_cons,List.map_nil];rfl)) (by first|rfl|(simp only[zak,occH,occE,Res.ids,List.cons_append,List.nil_append,AV.idsL,AV.ids,zab,zaa,zac,zan,List.map_cons,List.map_nil,upC];rfl)) ?_
 refine evs [58,87,117] [] ?_
 refine Walk.call (cr:=[68]) zg7 (zgb hok) rfl .none rfl rfl (LeL.refl _) trivial rfl (by first|rfl|(simp only[zat,List.all_cons,List.all_nil,zaF,zaz,AV.idsL,AV.ids,zab,zaa,List.map_cons,List.map_nil];rfl)) (by first|rfl|(simp only[zak,occH,occE,Res.ids,List.cons_append,List.nil_append,AV.idsL,AV.ids,zab,zaa,zac,zan,List.map_cons,List.map_nil,upC];rfl)) ?_
 refine evs [58,87,117] [] ?_
 refine Walk.call (cr:=[]) zg6 (zcc) rfl .none rfl rfl (LeL.refl _) trivial rfl (by first|rfl|(simp only[zat,List.all_cons,List.all_nil,zaF,zaz,AV.idsL,AV.ids,zab,zaa,List.map_cons,List.map_nil];rfl)) (by first|rfl|(simp only[zak,occH,occE,Res.ids,List.cons_append,List.nil_append,AV.idsL,AV.ids,zab,zaa,zac,zan,List.map_cons,List.map_nil,upC];rfl)) ?_
 refine evs [58,87,117] [] ?_
 refine Walk.lend (cr:=[65]) (lr:=[(63,_),(68,_)]) znT (hown) rfl .none rfl rfl (.cons (.ms (k:=2) List.mem_cons_self (by intro x hx;obtain⟨y,_,rfl⟩:=List.mem_map.1 hx;rfl) (by first|rfl|(simp[zap];done))) (.cons (.le (.refl _)) (.cons (.ms (k:=9) (List.mem_cons_of_mem _ List.mem_cons_self) Cl.rows (by first|rfl|(simp[zap];done))) .nil))) ⟨rfl,⟨rfl,trivial⟩⟩ rfl (by first|rfl|(simp only[zdc,zcU,zbW,AV.ids];rfl)) (by first|rfl|(simp only[zak,occH,occE,Res.ids,List.cons_append,List.nil_append,AV.idsL,AV.ids,zab,zaa,zac,zan,List.map_cons,List.map_nil,upC];rfl)) ?_
 refine evs [58,87,117] [] ?_
 refine CWp.fixT hk 12 65 9 rfl rfl rfl (fun hx3=>?_) (fun hx3=>?_)
 exact absurd (List.map_eq_nil_iff.1 hx3) hne
 refine evc [58,87,117] [] ?_
 refine Walk.lend (cr:=[]) (lr:=[(65,_)]) zg8 (zbK hro) rfl .none rfl rfl (.cons (.ms (k:=9) List.mem_cons_self Cl.rows (by first|rfl|(simp[zap];done))) (.cons (.le (.refl _)) .nil)) ⟨rfl,trivial⟩ rfl (by first|rfl|(simp only[zdc,zcU,zbW,AV.ids];rfl)) (by first|rfl|(simp only[zak,occH,occE,Res.ids,List.cons_append,List.nil_append,AV.idsL,AV.ids,zab,zaa,zac,zan,List.map_cons,List.map_nil,upC];rfl)) ?_
 refine evs [58,87,117] [] ?_
 refine sq (fun h4 h4p h4s=>?_) fun h4 h4p h4s=>?_
 try simp only[Q] at h4p
 refine sqT ?_
 refine rn0 (r1 rfl) (.eqd ?_)
 rotate_left
 try simp only[Q] at h4p
 refine Walk.neB un4 (.some rfl rfl h4) rfl rfl rfl ?_
 refine evs [58,87,117] [(55,false)] ?_ ⟨⟨_,rfl,h4⟩,trivial⟩
 refine sq (fun h6 h6p h6s=>?_) fun h6 h6p h6s=>?_
 try simp only[Q] at h6p
 refine rn0 (r1 rfl) (.eqd ?_)
 rotate_left
 try simp only[Q] at h6p
 refine Walk.call (cr:=[]) zg5 (zcG hs) rfl .none rfl rfl (LeL.refl _) trivial rfl (by first|rfl|(simp only[zat,List.all_cons,List.all_nil,zaF,zaz,AV.idsL,AV.ids,zab,zaa,List.map_cons,List.map_nil];rfl)) (by first|rfl|(simp only[zak,occH,occE,Res.ids,List.cons_append,List.nil_append,AV.idsL,AV.ids,zab,zaa,zac,zan,List.map_cons,List.map_nil,upC];rfl)) ?_
 refine Walk.lend (cr:=[]) (lr:=[(63,_)]) zr9 (zhc hs) rfl .none rfl rfl (.cons (.ms (k:=2) List.mem_cons_self (by intro x hx;obtain⟨y,_,rfl⟩:=List.mem_map.1 hx;rfl) (by first|rfl|(simp[zap];done))) (.cons (.le (.refl _)) .nil)) ⟨rfl,trivial⟩ rfl (by first|rfl|(simp only[zdc,zcU,zbW,AV.ids];rfl)) (by first|rfl|(simp only[zak,occH,occE,Res.ids,List.cons_append,List.nil_append,AV.idsL,AV.ids,zab,zaa,zac,zan,List.map_cons,List.map_nil,upC];rfl)) ?_
 refine evs [58,87,117] [] ?_
 refine sq (fun h7 h7p h7s=>?_) fun h7 h7p h7s=>?_
 try simp only[Q] at h7p
 refine rn0 (r1 rfl) (.eqd ?_)
 rotate_left
 try simp only[Q] at h7p
 refine Walk.call (cr:=[]) zg7 (zco hok) rfl .none rfl rfl (LeL.refl _) trivial rfl (by first|rfl|(simp only[zat,List.all_cons,List.all_nil,zaF,zaz,AV.idsL,AV.ids,zab,zaa,List.map_cons,List.map_nil];rfl)) (by first|rfl|(simp only[zak,occH,occE,Res.ids,List.cons_append,List.nil_append,AV.idsL,AV.ids,zab,zaa,zac,zan,List.map_cons,List.map_nil,upC];rfl)) ?_
 refine Walk.lend (cr:=[]) (lr:=[(68,_)]) zg8 (zbK hok) rfl .none rfl rfl (.cons (.ms (k:=9) List.mem_cons_self Cl.rows (by first|rfl|(simp[zap];done))) (.cons (.le (.refl _)) .nil)) ⟨rfl,trivial⟩ rfl (by first|rfl|(simp only[zdc,zcU,zbW,AV.ids];rfl)) (by first|rfl|(simp only[zak,occH,occE,Res.ids,List.cons_append,List.nil_append,AV.idsL,AV.ids,zab,zaa,zac,zan,List.map_cons,List.map_nil,upC];rfl)) ?_
 refine evs [58,87,117] [] ?_
 refine sq (fun h8 h8p h8s=>?_) fun h8 h8p h8s=>?_
 try simp only[Q] at h8p
 refine rn0 (r1 rfl) (.eqd ?_)
 rotate_left
 try simp only[Q] at h8p
 refine Walk.call (cr:=[]) zsa (zke (l:=w) (k:=1) (by omega) (by omega) hs) rfl .none rfl rfl (.cons (LeA.msn (by first|rfl|(simp;done))) (.cons (.refl _) .nil)) ⟨rfl,trivial⟩ rfl (by first|rfl|(simp only[zat,List.all_cons,List.all_nil,zaF,zaz,AV.idsL,AV.ids,zab,zaa,List.map_cons,List.map_nil];rfl)) (by first|rfl|(simp only[zak,occH,occE,Res.ids,List.cons_append,List.nil_append,AV.idsL,AV.ids,zab,zaa,zac,zan,List.map_cons,List.map_nil,upC];rfl)) ?_
 refine evs [58,87,117] [] ?_
 refine Walk.call (cr:=[]) znU (ziH (l:=cl) (k:=1+szL Data.sz w) (by omega) (by omega) hok) rfl .none rfl rfl (.cons (LeA.msn (by first|rfl|(simp;done))) (.cons (.refl _) .nil)) ⟨rfl,trivial⟩ rfl (by first|rfl|(simp only[zat,List.all_cons,List.all_nil,zaF,zaz,AV.idsL,AV.ids,zab,zaa,List.map_cons,List.map_nil];rfl)) (by first|rfl|(simp only[zak,occH,occE,Res.ids,List.cons_append,List.nil_append,AV.idsL,AV.ids,zab,zaa,zac,zan,List.map_cons,List.map_nil,upC];rfl)) ?_
 refine evs [58,87,117] [] ?_
 refine sq (fun h9 h9p h9s=>?_) fun h9 h9p h9s=>?_
 try simp only[Q] at h9p
 refine sqT ?_
 refine sqT ?_
 refine rn0 (r1 rfl) (.eqd ?_)
 rotate_left
 try simp only[Q] at h9p
 refine Walk.lend (cr:=[]) (lr:=[(65,_)]) zg8 (zbK hro) rfl (.some rfl rfl h9) rfl rfl (.cons (.ms (k:=9) List.mem_cons_self Cl.rows (by first|rfl|(simp[zap];done))) (.cons (.le (.refl _)) .nil)) ⟨rfl,trivial⟩ rfl (by first|rfl|(simp only[zdc,zcU,zbW,AV.ids];rfl)) (by first|rfl|(simp only[zak,occH,occE,Res.ids,List.cons_append,List.nil_append,AV.idsL,AV.ids,zab,zaa,zac,zan,List.map_cons,List.map_nil,upC];rfl)) ?_
 refine evs [58,87,117] [(78,false)] ?_ ⟨⟨_,rfl,h9⟩,trivial⟩
 refine sq (fun h11 h11p h11s=>?_) fun h11 h11p h11s=>?_
 try simp only[Q] at h11p
 refine sqT ?_
 refine rn0 (r1 rfl) (.eqd ?_)
 rotate_left
 try simp only[Q] at h11p
 refine Walk.neB un4 (.some rfl rfl h11) rfl rfl rfl ?_
 refine evs [58,87,117] [(84,false)] ?_ ⟨⟨_,rfl,h11⟩,trivial⟩
 refine sq (fun h13 h13p h13s=>?_) fun h13 h13p h13s=>?_
 try simp only[Q] at h13p
 refine rn0 (r1 rfl) (.eqd ?_)
 rotate_left
 try simp only[Q] at h13p
 refine Walk.call (cr:=[]) znU (znK (l:=r) (k:=1) (by omega) (by omega) hro) rfl .none rfl rfl (.cons (LeA.msn (by first|rfl|(simp;done))) (.cons (.refl _) .nil)) ⟨rfl,trivial⟩ rfl (by first|rfl|(simp only[zat,List.all_cons,List.all_nil,zaF,zaz,AV.idsL,AV.ids,zab,zaa,List.map_cons,List.map_nil];rfl)) (by first|rfl|(simp only[zak,occH,occE,Res.ids,List.cons_append,List.nil_append,AV.idsL,AV.ids,zab,zaa,zac,zan,List.map_cons,List.map_nil,upC];rfl)) ?_
 refine evs [58,87,117] [] ?_
 refine Walk.lend (cr:=[]) (lr:=[(65,_)]) znV (zc3 (l:=r) (k:=1) (by omega) (by omega) hro) rfl .none rfl rfl (.cons (.ms (k:=9) List.mem_cons_self Cl.rows (by first|rfl|(simp[zap];done))) (.cons (.le (.refl _)) .nil)) ⟨rfl,trivial⟩ rfl (by first|rfl|(simp only[zdc,zcU,zbW,AV.ids];rfl)) (by first|rfl|(simp only[zak,occH,occE,Res.ids,List.cons_append,List.nil_append,AV.idsL,AV.ids,zab,zaa,zac,zan,List.map_cons,List.map_nil,upC];rfl)) ?_
 refine evs [58,87,117] [] ?_
 refine sq (fun h14 h14p h14s=>?_) fun h14 h14p h14s=>?_
 try simp only[Q] at h14p
 refine rn0 (r1 rfl) (.eqd ?_)
 rotate_left
 try simp only[Q] at h14p
 refine sq (fun h15 h15p h15s=>?_) fun h15 h15p h15s=>?_
 try simp only[Q] at h15p
 refine rn0 (r1 rfl) (.eqd ?_)
 rotate_left
 try simp only[Q] at h15p
 refine Walk.call (cr:=[]) zg5 (zcG hs) rfl .none rfl rfl (LeL.refl _) trivial rfl (by first|rfl|(simp only[zat,List.all_cons,List.all_nil,zaF,zaz,AV.idsL,AV.ids,zab,zaa,List.map_cons,List.map_nil];rfl)) (by first|rfl|(simp only[zak,occH,occE,Res.ids,List.cons_append,List.nil_append,AV.idsL,AV.ids,zab,zaa,zac,zan,List.map_cons,List.map_nil,upC];rfl)) ?_
 refine evd [58,87,117] [] ?_
 refine Walk.call (cr:=[]) zg6 (zcc) rfl .none rfl rfl (LeL.refl _) trivial rfl (by first|rfl|(simp only[zat,List.all_cons,List.all_nil,zaF,zaz,AV.idsL,AV.ids,zab,zaa,List.map_cons,List.map_nil];rfl)) (by first|rfl|(simp only[zak,occH,occE,Res.ids,List.cons_append,List.nil_append,AV.idsL,AV.ids,zab,zaa,zac,zan,List.map_cons,List.map_nil,upC];rfl)) ?_
 refine evd [58,87,117] [] ?_
 refine Walk.call (cr:=[]) zg7 (zco hok) rfl .none rfl rfl (LeL.refl _) trivial rfl (by first|rfl|(simp only[zat,List.all_cons,List.all_nil,zaF,zaz,AV.idsL,AV.ids,zab,zaa,List.map_cons,List.map_nil];rfl)) (by first|rfl|(simp only[zak,occH,occE,Res.ids,List.cons_append,List.nil_append,AV.idsL,AV.ids,zab,zaa,zac,zan,List.map_cons,List.map_nil,upC];rfl)) ?_
 refine Walk.call (cr:=[]) znT (himp) rfl .none rfl rfl (LeL.refl _) trivial rfl (by first|rfl|(simp only[zat,List.all_cons,List.all_nil,zaF,zaz,AV.idsL,AV.ids,zab,zaa,List.map_cons,List.map_nil];rfl)) (by first|rfl|(simp only[zak,occH,occE,Res.ids,List.cons_append,List.nil_append,AV.idsL,AV.ids,zab,zaa,zac,zan,List.map_cons,List.map_nil,upC];rfl)) ?_
 refine evd [58,87,117] [] ?_
 refine dr ?_
 refine Walk.call (cr:=[]) zg8 (zbK hro) rfl .none rfl rfl (LeL.refl _) trivial rfl (by first|rfl|(simp only[zat,List.all_cons,List.all_nil,zaF,zaz,AV.idsL,AV.ids,zab,zaa,List.map_cons,List.map_nil];rfl)) (by first|rfl|(simp only[zak,occH,occE,Res.ids,List.cons_append,List.nil_append,AV.idsL,AV.ids,zab,zaa,zac,zan,List.map_cons,List.map_nil,upC];rfl)) ?_
 refine evs [58,87,117] [] ?_
 refine sq (fun h16 h16p h16s=>?_) fun h16 h16p h16s=>?_
 try simp only[Q] at h16p
 refine sqT ?_
 refine rn0 (r1 rfl) (.eqd ?_)
 rotate_left
 try simp only[Q] at h16p
 refine Walk.neB un4 (.some rfl rfl h16) rfl rfl rfl ?_
 refine evs [58,87,117] [(114,false)] ?_ ⟨⟨_,rfl,h16⟩,trivial⟩
 refine sq (fun h18 h18p h18s=>?_) fun h18 h18p h18s=>?_
 try simp only[Q] at h18p
 refine rn0 (r1 rfl) (.eqd ?_)
 rotate_left
 try simp only[Q] at h18p
 refine Walk.lend (cr:=[]) (lr:=[(65,_)]) znV (zc3 (l:=r) (k:=1) (by omega) (by omega) hro) rfl .none rfl rfl (.cons (.ms (k:=9) List.mem_cons_self Cl.rows (by first|rfl|(simp[zap];done))) (.cons (.le (.refl _)) .nil)) ⟨rfl,trivial⟩ rfl (by first|rfl|(simp only[zdc,zcU,zbW,AV.ids];rfl)) (by first|rfl|(simp only[zak,occH,occE,Res.ids,List.cons_append,List.nil_append,AV.idsL,AV.ids,zab,zaa,zac,zan,List.map_cons,List.map_nil,upC];rfl)) ?_
 refine evs [58,87,117] [] ?_
 refine sq (fun h19 h19p h19s=>?_) fun h19 h19p h19s=>?_
 try simp only[Q] at h19p
 refine rn0 (r1 rfl) (.eqd ?_)
 rotate_left
 try simp only[Q] at h19p
 refine sq (fun h20 h20p h20s=>?_) fun h20 h20p h20s=>?_
 try simp only[Q] at h20p
 refine rn0 (r1 rfl) (.eqd ?_)
 rotate_left
 try simp only[Q] at h20p
 refine rn0 (r1 rfl) (.eqd ?_)
 rotate_left
 all_goals (first|rfl|(exfalso;simp_all[zgh];done)|(exfalso;simp[zgh] at *;omega))
theorem ze5 {w:List Data} (hs:WSmall w){a k:Int}{cl:List Cl} (hok:ClsOk cl){q:Bool}
  (hspec:FnD Tryz.prog 13 [.d (zao w),.agg [.d (.i a),.d (.i k)],.d (za6 cl)] [] (.tup [.d (za6 []),.d (.bool q)]) [])
  (himp:FnD Tryz.prog 17 [.d (zao w),.agg [.d (.i a),.d (.i k)],.d (za6 cl)] [] (.tup [.d (za6 []),.d (.bool q)]) []):
  FnD Tryz.prog 3 [.d (zao w),.agg [.d (.i a),.d (.i k)],.d (za6 cl)] [] (.d (.bool true)) []:=by
 have z:=zbU (left:=1048576) (zet w)
 have z2:=zbU (left:=szr 1048576 (zet w)) (mCls cl)
 have hbd:=zgX w
 have hnn:=zaT (l:=w) Data.sz_nn
 have hcb:=Cls.szM_le cl
 have hcn:=zaT (l:=cl) Cl.szM_nn
 have hnok:ClsOk []:=⟨by simp,by simp⟩
 refine bd Tryz.f3 127 [58,87,117] [] fun w0 F0 own kept hk=>?_
 refine Walk.box (id:=3004) .none rfl rfl rfl rfl rfl rfl rfl ?_
 refine evs [58,87,117] [] ?_
 refine wc zr6 (zhe hs (by omega) (by omega)) rfl rfl ?_
 refine evs [58,87,117] [] ?_
 refine sq (fun h1 h1p h1s=>?_) fun h1 h1p h1s=>?_
 try simp only[Q] at h1p
 refine rn0 (r1 rfl) (.eqd ?_)
 rotate_left
 try simp only[Q] at h1p
 refine wc zr7 (zf9 hok (by omega) (by omega)) rfl rfl ?_
 refine evs [58,87,117] [] ?_
 refine sq (fun h2 h2p h2s=>?_) fun h2 h2p h2s=>?_
 try simp only[Q] at h2p
 refine rn0 (r1 rfl) (.eqd ?_)
 rotate_left
 try simp only[Q] at h2p
 refine wc zg5 (zcG hs) rfl rfl ?_
 refine evd [58,87,117] [] ?_
 refine wc zg6 (zcc) rfl rfl ?_
 refine evd [58,87,117] [] ?_
 refine wc zg7 (zco hok) rfl rfl ?_
 refine wc zr8 (hspec) rfl rfl ?_
 refine evd [58,87,117] [] ?_
 refine dr ?_
 refine Walk.call (cr:=[63]) zg5 (zhf hs) rfl .none rfl rfl (LeL.refl _) trivial rfl (by first|rfl|(simp only[zat,List.all_cons,List.all_nil,zaF,zaz,AV.idsL,AV.ids,zab,zaa,List.map_cons,List.map_nil];rfl)) (by first|rfl|(simp only[zak,occH,occE,Res.ids,List.cons_append,List.nil_append,AV.idsL,AV.ids,zab,zaa,zac,zan,List.map_cons,List.map_nil,upC];rfl)) ?_
 refine evs [58,87,117] [] ?_
 refine Walk.call (cr:=[68]) zg7 (zgb hok) rfl .none rfl rfl (LeL.refl _) trivial rfl (by first|rfl|(simp only[zat,List.all_cons,List.all_nil,zaF,zaz,AV.idsL,AV.ids,zab,zaa,List.map_cons,List.map_nil];rfl)) (by first|rfl|(simp only[zak,occH,occE,Res.ids,List.cons_append,List.nil_append,AV.idsL,AV.ids,zab,zaa,zac,zan,List.map_cons,List.map_nil,upC];rfl)) ?_
 refine evs [58,87,117] [] ?_
 refine Walk.call (cr:=[]) zg6 (zcc) rfl .none rfl rfl (LeL.refl _) trivial rfl (by first|rfl|(simp only[zat,List.all_cons,List.all_nil,zaF,zaz,AV.idsL,AV.ids,zab,zaa,List.map_cons,List.map_nil];rfl)) (by first|rfl|(simp only[zak,occH,occE,Res.ids,List.cons_append,List.nil_append,AV.idsL,AV.ids,zab,zaa,zac,zan,List.map_cons,List.map_nil,upC];rfl)) ?_
 refine evs [58,87,117] [] ?_
 refine Walk.lend (cr:=[]) (lr:=[(63,_),(68,_)]) znT (himp) rfl .none rfl rfl (.cons (.ms (k:=2) List.mem_cons_self (by intro x hx;obtain⟨y,_,rfl⟩:=List.mem_map.1 hx;rfl) (by first|rfl|(simp[zap];done))) (.cons (.le (.refl _)) (.cons (.ms (k:=9) (List.mem_cons_of_mem _ List.mem_cons_self) Cl.rows (by first|rfl|(simp[zap];done))) .nil))) ⟨rfl,⟨rfl,trivial⟩⟩ rfl (by first|rfl|(simp only[zdc,zcU,zbW,AV.ids];rfl)) (by first|rfl|(simp only[zak,occH,occE,Res.ids,List.cons_append,List.nil_append,AV.idsL,AV.ids,zab,zaa,zac,zan,List.map_cons,List.map_nil,upC];rfl)) ?_
 refine evs [58,87,117] [] ?_
 refine Walk.call (cr:=[]) zg8 (zbK (l:=[]) (m:=[]) hnok) rfl .none rfl rfl (LeL.refl _) trivial rfl (by first|rfl|(simp only[zat,List.all_cons,List.all_nil,zaF,zaz,AV.idsL,AV.ids,zab,zaa,List.map_cons,List.map_nil];rfl)) (by first|rfl|(simp only[zak,occH,occE,Res.ids,List.cons_append,List.nil_append,AV.idsL,AV.ids,zab,zaa,zac,zan,List.map_cons,List.map_nil,upC];rfl)) ?_
 refine evs [58,87,117] [] ?_
 refine sq (fun h3 h3p h3s=>?_) fun h3 h3p h3s=>?_
 try simp only[Q] at h3p
 refine sqT ?_
 refine rn0 (r1 rfl) (.eqd ?_)
 rotate_left
 try simp only[Q] at h3p
 refine Walk.neB un4 (.some rfl rfl h3) rfl rfl rfl ?_
 refine evs [58,87,117] [(55,false)] ?_ ⟨⟨_,rfl,h3⟩,trivial⟩
 refine sq (fun h5 h5p h5s=>?_) fun h5 h5p h5s=>?_
 try simp only[Q] at h5p
 refine rn0 (r1 rfl) (.eqd ?_)
 rotate_left
 try simp only[Q] at h5p
 refine Walk.call (cr:=[]) zg5 (zcG hs) rfl .none rfl rfl (LeL.refl _) trivial rfl (by first|rfl|(simp only[zat,List.all_cons,List.all_nil,zaF,zaz,AV.idsL,AV.ids,zab,zaa,List.map_cons,List.map_nil];rfl)) (by first|rfl|(simp only[zak,occH,occE,Res.ids,List.cons_append,List.nil_append,AV.idsL,AV.ids,zab,zaa,zac,zan,List.map_cons,List.map_nil,upC];rfl)) ?_
 refine Walk.lend (cr:=[]) (lr:=[(63,_)]) zr9 (zhc hs) rfl .none rfl rfl (.cons (.ms (k:=2) List.mem_cons_self (by intro x hx;obtain⟨y,_,rfl⟩:=List.mem_map.1 hx;rfl) (by first|rfl|(simp[zap];done))) (.cons (.le (.refl _)) .nil)) ⟨rfl,trivial⟩ rfl (by first|rfl|(simp only[zdc,zcU,zbW,AV.ids];rfl)) (by first|rfl|(simp only[zak,occH,occE,Res.ids,List.cons_append,List.nil_append,AV.idsL,AV.ids,zab,zaa,zac,zan,List.map_cons,List.map_nil,upC];rfl)) ?_
 refine evs [58,87,117] [] ?_
 refine sq (fun h6 h6p h6s=>?_) fun h6 h6p h6s=>?_
 try simp only[Q] at h6p
 refine rn0 (r1 rfl) (.eqd ?_)
 rotate_left
 try simp only[Q] at h6p
 refine Walk.call (cr:=[]) zg7 (zco hok) rfl .none rfl rfl (LeL.refl _) trivial rfl (by first|rfl|(simp only[zat,List.all_cons,List.all_nil,zaF,zaz,AV.idsL,AV.ids,zab,zaa,List.map_cons,List.map_nil];rfl)) (by first|rfl|(simp only[zak,occH,occE,Res.ids,List.cons_append,List.nil_append,AV.idsL,AV.ids,zab,zaa,zac,zan,List.map_cons,List.map_nil,upC];rfl)) ?_
 refine Walk.lend (cr:=[]) (lr:=[(68,_)]) zg8 (zbK hok) rfl .none rfl rfl (.cons (.ms (k:=9) List.mem_cons_self Cl.rows (by first|rfl|(simp[zap];done))) (.cons (.le (.refl _)) .nil)) ⟨rfl,trivial⟩ rfl (by first|rfl|(simp only[zdc,zcU,zbW,AV.ids];rfl)) (by first|rfl|(simp only[zak,occH,occE,Res.ids,List.cons_append,List.nil_append,AV.idsL,AV.ids,zab,zaa,zac,zan,List.map_cons,List.map_nil,upC];rfl)) ?_
 refine evs [58,87,117] [] ?_
 refine sq (fun h7 h7p h7s=>?_) fun h7 h7p h7s=>?_
 try simp only[Q] at h7p
 refine rn0 (r1 rfl) (.eqd ?_)
 rotate_left
 try simp only[Q] at h7p
 refine Walk.call (cr:=[]) zsa (zke (l:=w) (k:=1) (by omega) (by omega) hs) rfl .none rfl rfl (.cons (LeA.msn (by first|rfl|(simp;done))) (.cons (.refl _) .nil)) ⟨rfl,trivial⟩ rfl (by first|rfl|(simp only[zat,List.all_cons,List.all_nil,zaF,zaz,AV.idsL,AV.ids,zab,zaa,List.map_cons,List.map_nil];rfl)) (by first|rfl|(simp only[zak,occH,occE,Res.ids,List.cons_append,List.nil_append,AV.idsL,AV.ids,zab,zaa,zac,zan,List.map_cons,List.map_nil,upC];rfl)) ?_
 refine evs [58,87,117] [] ?_
 refine Walk.call (cr:=[]) znU (ziH (l:=cl) (k:=1+szL Data.sz w) (by omega) (by omega) hok) rfl .none rfl rfl (.cons (LeA.msn (by first|rfl|(simp;done))) (.cons (.refl _) .nil)) ⟨rfl,trivial⟩ rfl (by first|rfl|(simp only[zat,List.all_cons,List.all_nil,zaF,zaz,AV.idsL,AV.ids,zab,zaa,List.map_cons,List.map_nil];rfl)) (by first|rfl|(simp only[zak,occH,occE,Res.ids,List.cons_append,List.nil_append,AV.idsL,AV.ids,zab,zaa,zac,zan,List.map_cons,List.map_nil,upC];rfl)) ?_
 refine evs [58,87,117] [] ?_
 refine sq (fun h8 h8p h8s=>?_) fun h8 h8p h8s=>?_
 try simp only[Q] at h8p
 refine sqT ?_
 refine sqT ?_
 refine rn0 (r1 rfl) (.eqd ?_)
 rotate_left
 try simp only[Q] at h8p
 refine Walk.call (cr:=[]) zg8 (zbK (l:=[]) (m:=[]) hnok) rfl (.some rfl rfl h8) rfl rfl (LeL.refl _) trivial rfl (by first|rfl|(simp only[zat,List.all_cons,List.all_nil,zaF,zaz,AV.idsL,AV.ids,zab,zaa,List.map_cons,List.map_nil];rfl)) (by first|rfl|(simp only[zak,occH,occE,Res.ids,List.cons_append,List.nil_append,AV.idsL,AV.ids,zab,zaa,zac,zan,List.map_cons,List.map_nil,upC];rfl)) ?_
 refine evs [58,87,117] [(78,false)] ?_ ⟨⟨_,rfl,h8⟩,trivial⟩
 refine sq (fun h10 h10p h10s=>?_) fun h10 h10p h10s=>?_
 try simp only[Q] at h10p
 refine sqT ?_
 refine rn0 (r1 rfl) (.eqd ?_)
 rotate_left
 try simp only[Q] at h10p
 refine Walk.neB un4 (.some rfl rfl h10) rfl rfl rfl ?_
 refine evs [58,87,117] [(84,false)] ?_ ⟨⟨_,rfl,h10⟩,trivial⟩
 refine sq (fun h12 h12p h12s=>?_) fun h12 h12p h12s=>?_
 try simp only[Q] at h12p
 refine rn0 (r1 rfl) (.eqd ?_)
 rotate_left
 try simp only[Q] at h12p
 refine Walk.call (cr:=[]) znU (zik (l:=[]) rfl) rfl .none rfl rfl (LeL.refl _) trivial rfl (by first|rfl|(simp only[zat,List.all_cons,List.all_nil,zaF,zaz,AV.idsL,AV.ids,zab,zaa,List.map_cons,List.map_nil];rfl)) (by first|rfl|(simp only[zak,occH,occE,Res.ids,List.cons_append,List.nil_append,AV.idsL,AV.ids,zab,zaa,zac,zan,List.map_cons,List.map_nil,upC];rfl)) ?_
 refine evs [58,87,117] [] ?_
 refine Walk.call (cr:=[]) znV (zc3 (l:=[]) (k:=1) (by omega) (by simp[szL]) hnok) rfl .none rfl rfl (LeL.refl _) trivial rfl (by first|rfl|(simp only[zat,List.all_cons,List.all_nil,zaF,zaz,AV.idsL,AV.ids,zab,zaa,List.map_cons,List.map_nil];rfl)) (by first|rfl|(simp only[zak,occH,occE,Res.ids,List.cons_append,List.nil_append,AV.idsL,AV.ids,zab,zaa,zac,zan,List.map_cons,List.map_nil,upC];rfl)) ?_
 refine evs [58,87,117] [] ?_
 refine sq (fun h13 h13p h13s=>?_) fun h13 h13p h13s=>?_
 try simp only[Q] at h13p
 refine rn0 (r1 rfl) (.eqd ?_)
 rotate_left
 try simp only[Q] at h13p
 refine sq (fun h14 h14p h14s=>?_) fun h14 h14p h14s=>?_
 try simp only[Q] at h14p
 refine rn0 (r1 rfl) (.eqd ?_)
 rotate_left
 try simp only[Q] at h14p
 refine Walk.call (cr:=[]) zg5 (zcG hs) rfl .none rfl rfl (LeL.refl _) trivial rfl (by first|rfl|(simp only[zat,List.all_cons,List.all_nil,zaF,zaz,AV.idsL,AV.ids,zab,zaa,List.map_cons,List.map_nil];rfl)) (by first|rfl|(simp only[zak,occH,occE,Res.ids,List.cons_append,List.nil_append,AV.idsL,AV.ids,zab,zaa,zac,zan,List.map_cons,List.map_nil,upC];rfl)) ?_
 refine evd [58,87,117] [] ?_
 refine Walk.call (cr:=[]) zg6 (zcc) rfl .none rfl rfl (LeL.refl _) trivial rfl (by first|rfl|(simp only[zat,List.all_cons,List.all_nil,zaF,zaz,AV.idsL,AV.ids,zab,zaa,List.map_cons,List.map_nil];rfl)) (by first|rfl|(simp only[zak,occH,occE,Res.ids,List.cons_append,List.nil_append,AV.idsL,AV.ids,zab,zaa,zac,zan,List.map_cons,List.map_nil,upC];rfl)) ?_
 refine evd [58,87,117] [] ?_
 refine Walk.call (cr:=[]) zg7 (zco hok) rfl .none rfl rfl (LeL.refl _) trivial rfl (by first|rfl|(simp only[zat,List.all_cons,List.all_nil,zaF,zaz,AV.idsL,AV.ids,zab,zaa,List.map_cons,List.map_nil];rfl)) (by first|rfl|(simp only[zak,occH,occE,Res.ids,List.cons_append,List.nil_append,AV.idsL,AV.ids,zab,zaa,zac,zan,List.map_cons,List.map_nil,upC];rfl)) ?_
 refine Walk.call (cr:=[]) znT (himp) rfl .none rfl rfl (LeL.refl _) trivial rfl (by first|rfl|(simp only[zat,List.all_cons,List.all_nil,zaF,zaz,AV.idsL,AV.ids,zab,zaa,List.map_cons,List.map_nil];rfl)) (by first|rfl|(simp only[zak,occH,occE,Res.ids,List.cons_append,List.nil_append,AV.idsL,AV.ids,zab,zaa,zac,zan,List.map_cons,List.map_nil,upC];rfl)) ?_
 refine evd [58,87,117] [] ?_
 refine dr ?_
 refine Walk.call (cr:=[]) zg8 (zbK (l:=[]) (m:=[]) hnok) rfl .none rfl rfl (LeL.refl _) trivial rfl (by first|rfl|(simp only[zat,List.all_cons,List.all_nil,zaF,zaz,AV.idsL,AV.ids,zab,zaa,List.map_cons,List.map_nil];rfl)) (by first|rfl|(simp only[zak,occH,occE,Res.ids,List.cons_append,List.nil_append,AV.idsL,AV.ids,zab,zaa,zac,zan,List.map_cons,List.map_nil,upC];rfl)) ?_
 refine evs [58,87,117] [] ?_
 refine sq (fun h15 h15p h15s=>?_) fun h15 h15p h15s=>?_
 try simp only[Q] at h15p
 refine sqT ?_
 refine rn0 (r1 rfl) (.eqd ?_)
 rotate_left
 try simp only[Q] at h15p
 refine Walk.neB un4 (.some rfl rfl h15) rfl rfl rfl ?_
 refine evs [58,87,117] [(114,false)] ?_ ⟨⟨_,rfl,h15⟩,trivial⟩
 refine sq (fun h17 h17p h17s=>?_) fun h17 h17p h17s=>?_
 try simp only[Q] at h17p
 refine rn0 (r1 rfl) (.eqd ?_)
 rotate_left
 try simp only[Q] at h17p
 refine Walk.call (cr:=[]) znV (zc3 (l:=[]) (k:=1) (by omega) (by simp[szL]) hnok) rfl .none rfl rfl (LeL.refl _) trivial rfl (by first|rfl|(simp only[zat,List.all_cons,List.all_nil,zaF,zaz,AV.idsL,AV.ids,zab,zaa,List.map_cons,List.map_nil];rfl)) (by first|rfl|(simp only[zak,occH,occE,Res.ids,List.cons_append,List.nil_append,AV.idsL,AV.ids,zab,zaa,zac,zan,List.map_cons,List.map_nil,upC];rfl)) ?_
 refine evs [58,87,117] [] ?_
 refine sq (fun h18 h18p h18s=>?_) fun h18 h18p h18s=>?_
 try simp only[Q] at h18p
 refine rn0 (r1 rfl) (.eqd ?_)
 rotate_left
 try simp only[Q] at h18p
 refine sq (fun h19 h19p h19s=>?_) fun h19 h19p h19s=>?_
 try simp only[Q] at h19p
 refine rn0 (r1 rfl) (.eqd ?_)
 rotate_left
 try simp only[Q] at h19p
 refine rn0 (r1 rfl) (.eqd ?_)
 rotate_left
 all_goals (first|rfl|(exfalso;simp_all[zgh,szL];done)|(exfalso;simp[zgh,szL] at *;omega))
theorem zp3 {w:List Data}{a k:Int}{l r:List Cl} (hl:ClsOk l) (h:zb7 w ⟨a,k⟩ l=some r):ClsOk r∧szL Cl.szM r≤szL Cl.szM l+8∧(r=l∨r=l++[clA]):=by
 unfold zb7 at h
 split at h
 ·split at h
  ·cases h;exact⟨hl,by omega,.inl rfl⟩
  ·split at h
   ·cases h
   ·cases h
    refine⟨⟨?_, ?_⟩, ?_,.inr rfl⟩
    ·have h5:l.length≤8:=zin (by assumption)
     simp;omega
    ·intro c hc
     rcases List.mem_append.1 hc with h1|h1
     ·exact hl.2 c h1
     ·rw[List.mem_singleton.1 h1,Pat.ok_iff];exact⟨by simp[clA,Pat.kids],trivial⟩
    ·rw[zcL];show _+(5+0+3:Int)≤_;omega
 ·cases h
theorem zft {w:List Data} (hs:WSmall w){a k:Int}{cl:List Cl} (hok:ClsOk cl) (hz:ClsSz cl):
  FnD Tryz.prog 3 [.d (zao w),.agg [.d (.i a),.d (.i k)],.d (za6 cl)] [] (.d (.bool true)) []:=by
 have hspec:=zhZ hs (a:=a) (k:=k) hok hz
 have himp:=zhQ hs (a:=a) (k:=k) hok
 cases hm:zb7 w ⟨a,k⟩ cl with
 |none=>
  rw[hm] at hspec himp
  exact ze5 hs hok hspec himp
 |some r=>
  have hown:=zhB hs hok hm
  obtain⟨h1,h2,_⟩:=zp3 hok hm
  rw[hm] at hspec himp
  by_cases hne:r=[]
  ·subst hne
   exact ze5 hs hok hspec himp
  ·exact zij hs hok hne h1 h2 hspec himp hown
end Go.Proofs.YtcnjkjdmbnhcaaaGreat
namespace Go.Proofs.YtcnjkjdmbnhcaaaGreat
open Go Go.ChangeShapes Go.WideShapes Go.ChangeAt Go.RowKit
set_option linter.unusedSimpArgs false
set_option linter.unusedVariables false
set_option linter.unusedVariables false
def FW (W:World) (b:Nat):Nat:=match W.heap[b]? with
 |some (.cells cs _ _)=>cs.size
 |_=>0
theorem FW_cell {W:World}{b o:Nat}{v:Value} (h:W.cell? ⟨b,o,none⟩=some v):o<FW W b:=by
 unfold World.cell? at h
 unfold FW
 simp only at h
 split at h
 ·rename_i c t fr hb
  simp only[hb]
  simp only[Option.isSome_none,Bool.false_eq_true,if_false] at h
  exact(Array.getElem?_eq_some_iff.1 h).1
 ·cases h
theorem FW_top {W:World}{b:Nat} (h:W.heap.size≤b):FW W b=0:=by
 unfold FW
 rw[Array.getElem?_eq_none h]
structure RelL (W:World) (xs:List D) (cs:List Value):Prop where
 len:xs.length=cs.length
 rel:∀i (h1:i<xs.length) (h2:i<cs.length),RelD (FW W) W xs[i] cs[i]
theorem RelL.append {W:World}{xs ys:List D}{cs ds:List Value} (h:RelL W xs cs) (k:RelL W ys ds):RelL W (xs++ys) (cs++ds):=by
 refine⟨by simp[h.len,k.len],fun i h1 h2=>?_⟩
 by_cases hi:i<xs.length
 ·rw[List.getElem_append_left hi,List.getElem_append_left (by rw[←h.len];exact hi)]
  exact h.rel i hi (by rw[←h.len];exact hi)
 ·have hl:=h.len
  rw[List.getElem_append_right (by omega),List.getElem_append_right (by omega)]
  have e:i-xs.length=i-cs.length:=by omega
  have h1':i-xs.length<ys.length:=by simp only[List.length_append] at h1;omega
  have h2':i-cs.length<ds.length:=by simp only[List.length_append] at h2;omega
  have:=k.rel (i-xs.length) h1' (by omega)
  simp only[e] at this ⊢
  exact this
def Dec (P:Program) (W:World) (n:Nat) (t:TypeId){α:Type} (f:α→List D) (m:α→Nat) (R:α→Prop):Prop:=
 ∀(H:Type) (enc:TypeId×Value→H) (cs:List Value) (x:DataW H×List MemPlace),DataW.trod enc P W 0 (fun _=>true) true n t cs=some x→
  ∃a,RelL W (f a) cs∧m a+1≤Rows.uptoBulk x.1∧R a
section
variable {P:Program}{W:World}{n:Nat}{t:TypeId}
theorem Dec.zero {α:Type}{f:α→List D}{m:α→Nat}{R:α→Prop}:Dec P W 0 t f m R:=fun H enc cs x h=>by simp[DataW.trod] at h
theorem Dec.map {α β:Type}{f:α→List D}{m:α→Nat}{R:α→Prop}{f':β→List D}{m':β→Nat}{R':β→Prop} (g:α→β) (h:Dec P W n t f m R)
  (h1:∀a,f' (g a)=f a) (h2:∀a,m' (g a)≤m a) (h3:∀a,R a→R' (g a)):Dec P W n t f' m' R':=fun H enc cs x hx=>by
 obtain⟨a,q1,q2,q3⟩:=h H enc cs x hx
 exact⟨g a,by rw[h1];exact q1,by have:=h2 a;omega,h3 a q3⟩
theorem RelL.one {x:D}{v:Value} (h:RelD (FW W) W x v):RelL W [x] [v]:=
 ⟨rfl,fun i h1 h2=>by
  have:i=0:=by simp at h1;omega
  subst this
  exact h⟩
theorem Dec.int {k:IntKind} (ht:P.underlying t=some (.int k)):Dec P W n t (fun z:Int=>[.int k z]) (fun _=>0) (fun z=>(Lit.int k z).wf=true):=fun H enc cs x h=>by
 obtain⟨z,rfl,rfl,hw⟩:=DataW.trod_int ht h
 exact⟨z,.one (.int k z),by simp[Rows.uptoBulk],hw⟩
theorem Dec.bool (ht:P.underlying t=some .bool):Dec P W n t (fun z:Bool=>[.bool z]) (fun _=>0) (fun _=>True):=fun H enc cs x h=>by
 obtain⟨z,rfl,rfl⟩:=DataW.trod_bool ht h
 exact⟨z,.one (.bool z),by simp[Rows.uptoBulk],trivial⟩
theorem Dec.str (ht:P.underlying t=some .string):Dec P W n t (fun s:Str=>[.str s]) (fun s=>s.length) (fun _=>True):=fun H enc cs x h=>by
 obtain⟨s,rfl,rfl,hw⟩:=DataW.trod_string ht h
 exact⟨s.data.toList,.one (by have:=RelD.str (F:=FW W) (w:=W) s.data.toList;simpa using this),by simp[Rows.uptoBulk],trivial⟩
def sumM {α:Type} (m:α→Nat):List α→Nat
 | []=>0
 |a::r=>m a+1+sumM m r
theorem zgW {α:Type} (m:α→Nat):∀l:List α,l.length≤sumM m l
 | []=>by simp[sumM]
 |a::r=>by have:=zgW m r;simp only[sumM,List.length_cons];omega
theorem zfB {α:Type}{m:α→Nat}:∀ {l:List α}{a:α},a∈l→m a+1≤sumM m l
 |b::r,a,h=>by
  simp only[sumM]
  rcases List.mem_cons.1 h with rfl|h
  ·omega
  ·have:=zfB (m:=m) h;omega
theorem zj8 {α β:Type}{Q:Nat→α→β→Prop}:∀(l:List β) (o:Nat),(∀i (h:i<l.length),∃a,Q (o+i) a l[i])→∃zs:List α,zs.length=l.length∧∀i (h:i<l.length) (h':i<zs.length),Q (o+i) zs[i] l[i]
 | [],o,_=>⟨[],rfl,fun i h=>by simp at h⟩
 |b::r,o,h=>by
  obtain⟨a,ha⟩:=h 0 (by simp)
  obtain⟨zs,h1,h2⟩:=zj8 (Q:=Q) r (o+1) (fun i hi=>by
   have:=h (i+1) (by simp;omega)
   rw[show o+1+i=o+(i+1) by omega]
   simpa using this)
  refine⟨a::zs,by simp[h1],fun i hi hi'=>?_⟩
  cases i with
  |zero=>exact ha
  |succ i=>
   have:=h2 i (by simpa using hi) (by simpa using hi')
   rw[show o+1+i=o+(i+1) by omega] at this
   simpa using this
theorem zoc {H α:Type}{m:α→Nat}:∀ {zs:List α}{xs:List (DataW H)},zs.length=xs.length→(∀i (h:i<zs.length) (h':i<xs.length),m zs[i]+1≤Rows.uptoBulk xs[i])→sumM m zs≤Rows.uptoBulkAll xs
 | [],[],_,_=>by simp[sumM,Rows.uptoBulkAll]
 |a::zs,x::xs,hl,h=>by
  have h0:=h 0 (by simp) (by simp)
  have ih:=zoc (m:=m) (zs:=zs) (xs:=xs) (by simpa using hl) (fun i h1 h2=>by
   have:=h (i+1) (by simp;omega) (by simp;omega)
   simpa using this)
  simp only[sumM,Rows.uptoBulkAll]
  simp only[List.getElem_cons_zero] at h0
  omega
 | [],_::_,hl,_=>by simp at hl
 |_::_,[],hl,_=>by simp at hl
theorem Dec.sl {α:Type}{f:α→List D}{m:α→Nat}{R:α→Prop}{e:TypeId}{k:Nat} (ht:P.underlying t=some (.slice e)) (hc:P.cellsOf e=k+1) (hk:∀a,(f a).length=k+1) (he:Dec P W n e f m R):
  Dec P W (n+1) t (fun l:List α=>[.sl (l.map f)]) (fun l=>sumM m l) (fun l=>∀a∈l,R a):=fun H enc cs x h=>by
 rcases DataW.trod_slice ht h with ⟨rfl,rfl⟩|⟨a,len,cap,elems,rest,n',hn,rfl,rfl,_,hcap,_,hlen,hel,_,_⟩
 ·exact⟨[],.one .nil,by simp[sumM,Rows.uptoBulk],fun a h=>by simp at h⟩
 obtain rfl:n=n':=by omega
 have each:∀i (hi:i<elems.length),∃y,(∃cs,W.cells? 0 (a.add (i*(k+1))) (k+1)=some cs∧RelL W (f y) cs)∧m y+1≤Rows.uptoBulk (elems[i]).1∧R y:=by
  intro i hi
  have:=hel i (by omega)
  rw[hc,List.getElem?_eq_getElem hi,Option.bind_eq_some_iff] at this
  obtain⟨cs,h1,h2⟩:=this
  obtain⟨y,h3,h4,h5⟩:=he H enc cs _ h2
  exact⟨y,⟨cs,h1,h3⟩,h4,h5⟩
 obtain⟨zs,hal,has⟩:=zj8 (Q:=fun i y (el:DataW H×List MemPlace)=>(∃cs,W.cells? 0 (a.add (i*(k+1))) (k+1)=some cs∧RelL W (f y) cs)∧m y+1≤Rows.uptoBulk el.1∧R y) elems 0 (fun i hi=>by simpa using each i hi)
 refine⟨zs,.one ?_, ?_,fun y hy=>?_⟩
 ·by_cases h0:zs=[]
  ·subst h0
   have hz:len=0:=by simp at hal;omega
   subst hz
   obtain⟨b,o,s⟩:=a
   cases s with
   |none=>exact .sl [] 0 b o cap (fun _=>undef) (by simp) (by simp) (fun n hn=>by simp at hn) (fun i hi=>by simp at hi)
   |some s=>exact .emp b o s cap
  ·have hpos:0<zs.length:=List.length_pos_iff.2 h0
   obtain⟨⟨cs0,hc0,hr0⟩,_⟩:=has 0 (by omega) hpos
   have hspot:a.spot=none:=by
    have h1:=(World.cells?_some hc0).2.2 0 (by omega)
    have h2:0<cs0.length:=by have:=(World.cells?_some hc0).2.1;omega
    simp only[Nat.add_zero,Nat.zero_mul,Addr.add,if_true,List.getElem?_eq_getElem h2] at h1
    unfold World.cell? at h1
    split at h1
    ·cases hs:a.spot with
     |none=>rfl
     |some s=>simp[hs] at h1
    ·cases h1
   obtain⟨b,o,s⟩:=a
   simp only at hspot
   subst hspot
   have hlen':(zs.map f).length=len:=by simp;omega
   have hmulk:∀i j,i<zs.length→j<k+1→i*(k+1)+j<zs.length*(k+1):=fun i j hi hj=>by
    have:(i+1)*(k+1)≤zs.length*(k+1):=Nat.mul_le_mul_right _ (by omega)
    rw[Nat.add_mul,Nat.one_mul] at this
    omega
   have cellAt:∀i (hi:i<zs.length) j (hj:j<(f zs[i]).length),∃v,W.cell? ⟨b,o+(i*(k+1)+j),none⟩=some v∧RelD (FW W) W ((f zs[i])[j]) v:=fun i hi j hj=>by
    obtain⟨⟨cs,hc1,hr1⟩,_⟩:=has i (by omega) hi
    have hjk:j<k+1:=by have:=hk zs[i];omega
    obtain⟨_,q1,q2⟩:=World.cells?_some hc1
    have q3:=q2 j hjk
    rw[List.getElem?_eq_getElem (by omega)] at q3
    refine⟨cs[j], ?_,hr1.rel j hj (by omega)⟩
    rw[←q3]
    congr 1
    simp only[Nat.zero_add,Addr.add]
    split<;>split<;>simp_all<;>omega
   have hv:((zs.map f).length,cap)=(len,cap):=by rw[hlen']
   have goal:RelD (FW W) W (.sl (zs.map f)) (.slice (some ⟨b,o,none⟩) (zs.map f).length cap):=by
    refine .sl _ (k+1) b o cap (fun q=>(W.cell? ⟨b,o+q,none⟩).getD undef) (fun y hy=>?_) (by omega) (fun q hq=>?_) (fun i hi j hj=>?_)
    ·obtain⟨y',_,rfl⟩:=List.mem_map.1 hy;exact hk y'
    ·have hq':q<zs.length*(k+1):=by simpa using hq
     have hi:q / (k+1)<zs.length:=Nat.div_lt_of_lt_mul (by rw[Nat.mul_comm];exact hq')
     have hj:q % (k+1)<k+1:=Nat.mod_lt _ (by omega)
     obtain⟨v,h1,_⟩:=cellAt _ hi (q % (k+1)) (by rw[hk];exact hj)
     rw[Nat.div_add_mod'] at h1
     exact⟨FW_cell h1,by rw[h1];rfl⟩
    ·have hi':i<zs.length:=by simpa using hi
     simp only[List.getElem_map] at hj ⊢
     obtain⟨v,h1,h2⟩:=cellAt i hi' j hj
     show RelD (FW W) W _ ((W.cell? ⟨b,o+(i*(k+1)+j),none⟩).getD undef)
     rw[h1]
     exact h2
   rw[hlen'] at goal
   exact goal
 ·have:=zoc (m:=m) (zs:=zs) (xs:=elems.map (·.1)) (by simp[hal]) (fun i h1 h2=>by
   have:=(has i (by simpa using h2) h1).2.1
   simpa using this)
  simp only[Rows.uptoBulk]
  omega
 ·obtain⟨i,hi,rfl⟩:=List.getElem_of_mem hy
  exact(has i (by omega) hi).2.2
def DecF (P:Program) (W:World) (n o K:Nat) (fs:List Field){α:Type} (f:α→List D) (m:α→Nat) (R:α→Prop):Prop:=
 ∀(H:Type) (enc:TypeId×Value→H) (cs:List Value) (xs:List (DataW H×List MemPlace)),cs.length=K→xs.length=fs.length→
  (∀(i:Nat) (fd:Field),fs[i]?=some fd→DataW.trod enc P W 0 (fun _=>true) true n fd.type ((cs.drop fd.offset).take (P.cellsOf fd.type))=xs[i]?)→
  ∃a,RelL W (f a) (cs.drop o)∧m a≤Rows.uptoBulkAll (xs.map (·.1))∧R a
theorem DecF.nil {K:Nat}:DecF P W n K K [] (fun _:Unit=>[]) (fun _=>0) (fun _=>True):=fun H enc cs xs h1 h2 _=>
 ⟨(),by rw[List.drop_of_length_le (by omega)];exact⟨rfl,fun i h=>by simp at h⟩,by simp,trivial⟩
theorem DecF.cons {α β:Type}{f:α→List D}{m:α→Nat}{R:α→Prop}{f2:β→List D}{m2:β→Nat}{R2:β→Prop}{o K k:Nat}{fd:Field}{fs:List Field}
  (h1:Dec P W n fd.type f m R) (ho:fd.offset=o) (hc:P.cellsOf fd.type=k) (h2:DecF P W n (o+k) K fs f2 m2 R2):
  DecF P W n o K (fd::fs) (fun p:α×β=>f p.1++f2 p.2) (fun p=>m p.1+1+m2 p.2) (fun p=>R p.1∧R2 p.2):=fun H enc cs xs hK hl hx=>by
 cases xs with
 |nil=>simp at hl
 |cons y ys=>
  have h0:=hx 0 fd (by simp)
  simp only[List.getElem?_cons_zero] at h0
  rw[ho,hc] at h0
  obtain⟨a,q1,q2,q3⟩:=h1 H enc _ _ h0
  obtain⟨b,r1,r2,r3⟩:=h2 H enc cs ys hK (by simpa using hl) (fun i fd' hi=>by
   have:=hx (i+1) fd' (by simpa using hi)
   simpa using this)
  refine⟨(a,b), ?_, ?_,q3,r3⟩
  ·have:cs.drop o=(cs.drop o).take k++cs.drop (o+k):=by
    rw[←List.drop_drop,List.take_append_drop]
   rw[this]
   exact q1.append r1
  ·simp only[List.map_cons,Rows.uptoBulkAll]
   omega
theorem Dec.struct {α:Type}{f:α→List D}{m:α→Nat}{R:α→Prop}{fs:Array Field} (ht:P.underlying t=some (.struct fs)){K:Nat} (hK:P.cellsOf t=K) (h:DecF P W n 0 K fs.toList f m R):
  Dec P W (n+1) t f m R:=fun H enc cs x hx=>by
 obtain⟨xs,n',hn,rfl,hl,hxl,hf⟩:=DataW.trod_struct ht hx
 obtain rfl:n=n':=by omega
 obtain⟨a,q1,q2,q3⟩:=h H enc cs xs (by omega) (by simpa using hxl) (fun i fd hi=>hf i fd (by simpa using hi))
 refine⟨a,by simpa using q1, ?_,q3⟩
 simp only[Rows.uptoBulk]
 omega
end
section
variable {P:Program}{W:World}{base:Nat}{t:TypeId}{v:Value}{H:Type}{enc:TypeId×Value→H}{d:DataW H}{ps:List MemPlace}
theorem zqq {α:Type}{e:TypeId}{f:α→List D}{m:α→Nat}{R:α→Prop}{k:Nat} (ht:P.underlying t=some (.slice e)) (hc:P.cellsOf e=k+1) (hk:∀a,(f a).length=k+1) (hd:∀n,Dec P W n e f m R)
  (hval:Value.okWide P W .any base t v) (h:DataW.Trod enc P W 0 (fun _=>true) true t v d ps):
  ∃l:List α,(∀G T,G.F=FW W→RelA G T W (.d (.sl (l.map f))) v)∧sumM m l+1≤Rows.uptoBulk d∧∀a∈l,R a:=by
 obtain⟨n,hn⟩:=h
 cases n with
 |zero=>simp[DataW.trod] at hn
 |succ n=>
  obtain⟨l,h1,h2,h3⟩:=Dec.sl ht hc hk (hd n) H enc _ _ hn
  have hcells:v.cells.toList=[v]:=by
   cases v with
   |agg cs=>simp only[Value.okWide,ht,Cell.okWide,Cell.ok] at hval
   |_=>rfl
  rw[hcells] at h1
  exact⟨l,fun G T hG=> .d (by rw[hG];simpa using h1.rel 0 (by simp) (by simp)),h2,h3⟩
theorem zpY {α:Type}{f:α→List D}{m:α→Nat}{R:α→Prop}{fs:Array Field} (ht:P.underlying t=some (.struct fs)) (hd:∀n,Dec P W n t f m R)
  (hval:Value.okWide P W .any base t v) (h:DataW.Trod enc P W 0 (fun _=>true) true t v d ps):
  ∃a:α,(∀G T,G.F=FW W→RelA G T W (.agg ((f a).map .d)) v)∧m a+1≤Rows.uptoBulk d∧R a:=by
 obtain⟨n,hn⟩:=h
 obtain⟨a,h1,h2,h3⟩:=hd n H enc _ _ hn
 simp only[Value.okWide,ht] at hval
 obtain⟨cs,rfl,_,_⟩:=hval
 refine⟨a,fun G T hG=> .agg (by have:=h1.len;simp[Value.cells] at this ⊢;omega) (fun i hi hv=>?_),h2,h3⟩
 have hi':i<(f a).length:=by simpa using hi
 have:=h1.rel i hi' (by simpa [Value.cells] using hv)
 simp only[List.getElem_map]
 exact .d (by rw[hG];simpa [Value.cells] using this)
end
section
variable {P:Program}{H:Type}{enc:TypeId×Value→H}
theorem ziL (hl:laidOutB P=true){W W':World} (hb:Below W.heap.size W W'):∀ {ts:List TypeId}{vs:List Value}{ds:List (DataW H)}{ps:List MemPlace},
  (∀t∈ts,P.readableRec t=true∧t<P.types.size)→DataW.TrodAll enc P W 0 (fun _=>true) true ts vs ds ps→(∀x∈ps,x.block<W.heap.size)→
  DataW.TrodAll enc P W' 0 (fun b=>decide (b<W.heap.size)) true ts vs ds ps
 | [],[],[],ps,_,h,_=>h
 |t::ts,v::vs,d::ds,ps,hr,h,hlt=>by
  obtain⟨p,q,h1,h2,rfl⟩:=h
  exact⟨p,q,Below.trod hl (hr t (by simp)).1 (hr t (by simp)).2 h1 hb (fun x hx=>hlt x (by simp[hx])),
   ziL hl hb (fun t ht=>hr t (by simp[ht])) h2 (fun x hx=>hlt x (by simp[hx])),rfl⟩
theorem zrL {f:Func}{s:ChangeSpec}{W W':World}{args:Array Value}{ds gs:List (DataW H)}{before:List MemPlace}{tb:TypeId}
  (hW:DataW.Whole enc P f.params.toList s.vars false W args.toList ds gs before) (hvars:s.vars=[]) (hrt:f.resultTypes = #[tb]) (htb:P.underlying tb=some .bool)
  (hs:s.fn H (ds++gs)={ results:=[.lit (.bool true)],args:=ds }) (hl:laidOutB P=true) (hr:∀t∈f.params.toList,P.readableRec t=true∧t<P.types.size)
  (hb:Below W.heap.size W W'):s.post enc P f false true false false W args (.bool true) W':=by
 have hlt:∀p∈before,p.block<W.heap.size:=fun p hp=>hW.lt p hp
 have hW0:=hW
 obtain⟨p,q,hA,hV,rfl,hfz,_⟩:=hW
 rw[hvars] at hV
 cases gs with
 |cons g gs=>exact hV.elim
 |nil=>
  have hq:q=[]:=hV
  subst hq
  simp only[List.append_nil] at *
  refine⟨ds,[],p,[],p,[],by simpa [hvars] using hW0, ?_, ?_, ?_,World.keptBut_mono (fun x hx=>⟨hx,.inr (.inl hx)⟩) (hb.frame (·∈p)),fun h=>by cases h⟩
  ·simp only[List.append_nil,hs,hrt]
   exact trodAll_cons_mk (shut_bool htb _) trodAll_mk0
  ·simp only[List.append_nil,hs]
   exact ziL hl hb hr hA hlt
  ·simp only[hvars,List.append_nil,hs]
   rfl
theorem zq7 {f:FuncId}{avs:List AV}{W:World}{args:Array Value}{r:AV} (hf:FnD P f avs [] r [])
  (hargs:∀G T,G.F=FW W→AllR G T W avs args):Calls P f args W fun e W'=>∃v G',e = .returned v∧RelA G' (fun _=>none) W' r v∧Below W.heap.size W W':=by
 let G:Gh:={ F:=FW W,loc:=fun _=>[] }
 refine(hf G W args ⟨hargs G _ rfl,fun id r h=>(by simp[getH] at h),fun id id' h=>(by simp[getH] at h),fun b hb=>FW_top hb⟩).mono ?_
 rintro e W' ⟨v,r',hp',G',rfl,⟨rfl,rfl⟩,h⟩
 exact⟨v,G',rfl,h.res,⟨h.frm.os,h.frm.tape,h.frm.output,h.frm.size,fun b hb=>(h.frm.block b hb (by simp[zbT])).1⟩⟩
theorem RelA.bool_true {G:Gh}{T:TokF}{w:World}{v:Value} (h:RelA G T w (.d (.bool true)) v):v = .bool true:=by
 cases h with|d h=>cases h;rfl
theorem zrD {H:Type}{l:List (DataW H)} (hk:Rows.uptoSmall H l=true):Rows.uptoBulkAll l≤1048576:=of_decide_eq_true hk
end
end Go.Proofs.YtcnjkjdmbnhcaaaGreat
namespace Go.Proofs.YtcnjkjdmbnhcaaaGreat
open Go Go.ChangeShapes Go.WideShapes Go.ChangeAt Go.RowKit
set_option linter.unusedSimpArgs false
set_option linter.unusedVariables false
set_option maxRecDepth 100000
theorem zdW (W:World) (n:Nat):Dec Tryz.prog W n 3 (fun z:Int=>[.i z]) (fun _=>0) (fun _=>True):=Dec.map (f:=fun z:Int=>[D.i z]) (R:=fun z=>(Lit.int .i64 z).wf=true) id (Dec.int Tryz.underlying3) (fun _=>rfl) (fun _=>Nat.le_refl _) (fun _ _=>trivial)
theorem zqX (W:World) (n:Nat):Dec Tryz.prog W n 9 (fun s:Str=>[.str s]) (fun s=>s.length) (fun _=>True):=Dec.str Tryz.underlying9
theorem zsm (W:World):∀n,Dec Tryz.prog W n 24 Ty.c (fun _=>0) (fun _=>True)
 |0=>Dec.zero
 |n+1=>Dec.map (fun p:Int×Int×Unit=>(⟨p.1,p.2.1⟩:Ty)) (Dec.struct Tryz.underlying24 (by kernel_rfl) (DecF.cons (k:=1) (zdW W n) rfl (by kernel_rfl) (DecF.cons (k:=1) (zdW W n) rfl (by kernel_rfl) DecF.nil))) (fun _=>rfl) (fun _=>Nat.zero_le _) (fun _ _=>trivial)
theorem zt0 (W:World):∀n,Dec Tryz.prog W n 215 (fun l:List Ty=>[zbw l]) (fun l=>l.length) (fun _=>True)
 |0=>Dec.zero
 |n+1=>Dec.map id (Dec.sl (k:=1) Tryz.underlying215 (by kernel_rfl) (fun _=>rfl) (zsm W n)) (fun _=>rfl) (fun l=>zgW _ l) (fun _ _=>trivial)
def zh6 (c:Ctor):Nat:=c.name.length+c.args.length
theorem zsI (W:World):∀n,Dec Tryz.prog W n 217 Ctor.c zh6 (fun _=>True)
 |0=>Dec.zero
 |n+1=>Dec.map (fun p:Str×List Ty×Int×Unit=>(⟨p.1,p.2.1,p.2.2.1⟩:Ctor)) (Dec.struct Tryz.underlying217 (by kernel_rfl) (DecF.cons (k:=1) (zqX W n) rfl (by kernel_rfl) (DecF.cons (k:=1) (zt0 W n) rfl (by kernel_rfl) (DecF.cons (k:=1) (zdW W n) rfl (by kernel_rfl) DecF.nil))))
   (fun _=>rfl) (fun p=>by simp only[zh6];omega) (fun _ _=>trivial)
theorem zrH (W:World):∀n,Dec Tryz.prog W n 83 (fun l:List Ctor=>[zb9 l]) (fun l=>sumM zh6 l) (fun _=>True)
 |0=>Dec.zero
 |n+1=>Dec.map id (Dec.sl (k:=2) Tryz.underlying83 (by kernel_rfl) (fun _=>rfl) (zsI W n)) (fun _=>rfl) (fun l=>Nat.le_refl _) (fun _ _=>trivial)
def zg3 (d:Data):Nat:=d.name.length+sumM zh6 d.ctors
theorem zsJ (W:World):∀n,Dec Tryz.prog W n 85 Data.c zg3 (fun _=>True)
 |0=>Dec.zero
 |n+1=>Dec.map (fun p:Str×List Ctor×Unit=>(⟨p.1,p.2.1⟩:Data)) (Dec.struct Tryz.underlying85 (by kernel_rfl) (DecF.cons (k:=1) (zqX W n) rfl (by kernel_rfl) (DecF.cons (k:=1) (zrH W n) rfl (by kernel_rfl) DecF.nil)))
   (fun _=>rfl) (fun p=>by simp only[zg3];omega) (fun _ _=>trivial)
theorem zrz {w:List Data}{N:Nat} (h:sumM zg3 w+1≤N) (hN:N≤1048576):WSmall w:=by
 refine⟨by have:=zgW zg3 w;omega,fun d hd=>?_,fun d hd c hc=>?_⟩
 ·have h1:=zfB (m:=zg3) hd
  have h2:=zgW zh6 d.ctors
  simp only[zg3] at h1
  omega
 ·have h1:=zfB (m:=zg3) hd
  have h2:=zfB (m:=zh6) hc
  simp only[zg3] at h1
  simp only[zh6] at h2
  omega
theorem ztZ (W:World):∀n,Dec Tryz.prog W n 89 Pat.cc (fun v=>Pats.size v.kids) (fun _=>True):=by
 intro n
 induction n using Nat.strongRecOn with
 |_ n ih=>
  cases n with
  |zero=>exact Dec.zero
  |succ n=>
   have hk:Dec Tryz.prog W n 87 (fun l:List Pat=>[.sl (l.map Pat.cc)]) (fun l=>Pats.size l) (fun _=>True):=by
    cases n with
    |zero=>exact Dec.zero
    |succ n=>
     refine Dec.map id (Dec.sl (k:=5) Tryz.underlying87 (by kernel_rfl) (fun _=>rfl) (ih n (by omega))) (fun _=>rfl) (fun l=>?_) (fun _ _=>trivial)
     have:∀l:List Pat,Pats.size l≤sumM (fun v=>Pats.size v.kids) l:=by
      intro l
      induction l with
      |nil=>simp[Pats.size,sumM]
      |cons a r ih2=>simp only[Pats.size,sumM,Pat.size_eq];omega
     exact this l
   refine Dec.map (fun p:Int×Int×Int×Int×Int×List Pat×Unit=>Pat.mk p.1 p.2.1 p.2.2.1 p.2.2.2.1 p.2.2.2.2.1 p.2.2.2.2.2.1) (Dec.struct Tryz.underlying89 (by kernel_rfl) (DecF.cons (k:=1) (zdW W n) rfl (by kernel_rfl) (DecF.cons (k:=1) (zdW W n) rfl (by kernel_rfl) (DecF.cons (k:=1) (zdW W n) rfl (by kernel_rfl) (DecF.cons (k:=1) (zdW W n) rfl (by kernel_rfl) (DecF.cons (k:=1) (zdW W n) rfl (by kernel_rfl) (DecF.cons (k:=1) hk rfl (by kernel_rfl) DecF.nil))))))) (fun p=>?_) (fun p=>?_) (fun _ _=>trivial)
   ·show [D.i _,D.i _,D.i _,D.i _,D.i _,D.sl (Pat.cs _)]=_
    rw[show Pat.cs (Pat.mk p.1 p.2.1 p.2.2.1 p.2.2.2.1 p.2.2.2.2.1 p.2.2.2.2.2.1).kids=p.2.2.2.2.2.1.map Pat.cc by rw[Pat.cs_eq];exact List.map_congr_left (fun v _=>Pat.c_eq v)]
    rfl
   ·show Pats.size p.2.2.2.2.2.1≤0+1+(0+1+(0+1+(0+1+(0+1+(Pats.size p.2.2.2.2.2.1+1+0)))))
    omega
theorem Pats.ok_size:∀(n:Nat) (l:List Pat),Pats.size l≤n→n≤1048576→l.length≤1048576∧Pats.ok l:=by
 intro n
 induction n with
 |zero=>
  intro l h hn
  cases l with
  |nil=>exact⟨by simp,trivial⟩
  |cons x r=>simp only[Pats.size,Pat.size_eq] at h;omega
 |succ n ih=>
  intro l
  induction l with
  |nil=>intro _ _;exact⟨by simp,trivial⟩
  |cons x r ihr=>
   intro h hn
   simp only[Pats.size] at h
   have hx:=Pat.size_eq x
   have h1:=ih x.kids (by omega) (by omega)
   have h2:=ih r (by omega) (by omega)
   refine⟨?_,(Pat.ok_iff x).2 ⟨by have:=h1.1;omega,h1.2⟩,h2.2⟩
   have:∀l:List Pat,l.length≤Pats.size l:=by
    intro l
    induction l with
    |nil=>simp
    |cons y s ihs=>simp only[Pats.size,List.length_cons,Pat.size_eq];omega
   have:=this r
   simp only[List.length_cons];omega
theorem zrf {v:Pat} (h:Pats.size v.kids≤1048576):v.ok:=by
 have:=Pats.ok_size _ _ (Nat.le_refl _) h
 exact(Pat.ok_iff v).2 ⟨by omega,this.2⟩
def bCl (c:Cl):Nat:=Pats.size c.pat.kids
theorem zup (W:World):∀n,Dec Tryz.prog W n 90 (fun g:Gd=>[.i g.op,.i g.var,.i g.n]) (fun _=>0) (fun _=>True)
 |0=>Dec.zero
 |n+1=>Dec.map (fun p:Int×Int×Int×Unit=>(⟨p.1,p.2.1,p.2.2.1⟩:Gd)) (Dec.struct Tryz.underlying90 (by kernel_rfl) (DecF.cons (k:=1) (zdW W n) rfl (by kernel_rfl) (DecF.cons (k:=1) (zdW W n) rfl (by kernel_rfl) (DecF.cons (k:=1) (zdW W n) rfl (by kernel_rfl) DecF.nil)))) (fun _=>rfl) (fun _=>Nat.zero_le _) (fun _ _=>trivial)
theorem zuo (W:World):∀n,Dec Tryz.prog W n 92 Cl.c bCl (fun _=>True)
 |0=>Dec.zero
 |n+1=>Dec.map (fun p:Pat×Gd×Unit=>(⟨p.1,p.2.1⟩:Cl)) (Dec.struct Tryz.underlying92 (by kernel_rfl) (DecF.cons (k:=6) (ztZ W n) rfl (by kernel_rfl) (DecF.cons (k:=3) (zup W n) rfl (by kernel_rfl) DecF.nil))) (fun _=>rfl) (fun p=>by simp only[bCl];omega) (fun _ _=>trivial)
theorem zqQ {l:List Cl} (h:sumM bCl l≤1048576):ClsOk l∧ClsSz l:=by
 refine⟨⟨by have:=zgW bCl l;omega,fun c hc=>?_⟩,fun c hc=>?_⟩
 ·have h1:=zfB (m:=bCl) hc
  simp only[bCl] at h1
  exact zrf (by omega)
 ·have h1:=zfB (m:=bCl) hc
  simp only[bCl] at h1
  rw[Pat.size_eq];omega
end Go.Proofs.YtcnjkjdmbnhcaaaGreat
namespace Go.Proofs.YtcnjkjdmbnhcaaaGreat.fnExactClosedClauses
open Go Go.ChangeShapes Go.WideShapes Go.ChangeAt Go.RowKit
set_option linter.unusedSimpArgs false
set_option linter.unusedVariables false
theorem own:ownKnob Tryz.prog.godebug=none:=by kernel_rfl
theorem laidOut:laidOutB Tryz.prog=true:=by kernel_rfl
set_option maxRecDepth 100000 in
theorem contract (H:Type) (enc:TypeId×Value→H) (W:World) (base:Nat) (args:Array Value) (ds gs:List (DataW H)) (before:List MemPlace)
    (hval:∀(j:Nat) t v,Tryz.f3.params[j]?=some t→args[j]?=some v→Value.okWide Tryz.prog W .any base t v)
    (hW:DataW.Whole enc Tryz.prog Tryz.f3.params.toList Rows.fnExactClosedClausesSpec.vars false W args.toList ds gs before) (hk:Rows.uptoSmall H (ds++gs)=true):
    Calls Tryz.prog 3 args W fun e W'=>∃v,e = .returned v∧Rows.fnExactClosedClausesSpec.post enc Tryz.prog Tryz.f3 false true false false W args v W':=by
  have hb:=zrD hk
  have hW':=hW
  obtain⟨p,q,hA0,hV,rfl,hfz,hnd⟩:=hW
  have hA:DataW.TrodAll enc Tryz.prog W 0 (fun _=>true) true Tryz.f3.params.toList args.toList ds p:=hA0
  rw[Tryz.params3] at hA hval
  obtain⟨v0,vs0,d0,ds0,p0,q0,hargs,rfl,rfl,h0,r0⟩:=trodAll_cons hA
  obtain⟨v1,vs1,d1,ds1,p1,q1,rfl,rfl,rfl,h1,r1⟩:=trodAll_cons r0
  obtain⟨v2,vs2,d2,ds2,p2,q2,rfl,rfl,rfl,h2,r2⟩:=trodAll_cons r1
  obtain⟨rfl,rfl,rfl⟩:=trodAll_nil r2
  obtain rfl:args = #[v0,v1,v2]:=by cases args;simp_all
  obtain⟨rfl,rfl⟩:=trodVars_none hV
  simp only[List.append_nil,Rows.uptoBulkAll] at hb
  obtain⟨w,a0,b0,_⟩:=zqq (k:=1) Tryz.underlying22 (by kernel_rfl) (fun _=>rfl) (zsJ W) (hval 0 _ v0 rfl rfl) h0
  obtain⟨t,a1,b1,_⟩:=zpY Tryz.underlying24 (zsm W) (hval 1 _ v1 rfl rfl) h1
  obtain⟨l,a2,b2,_⟩:=zqq (k:=8) Tryz.underlying25 (by kernel_rfl) (fun _=>rfl) (zuo W) (hval 2 _ v2 rfl rfl) h2
  have hs:WSmall w:=zrz b0 (by omega)
  obtain⟨ok_l,sz_l⟩:=zqQ (l:=l) (by omega)
  refine(zq7 ((zft hs (a:=t.data) (k:=t.index) ok_l sz_l)) (W:=W) (args:=#[v0,v1,v2]) (fun G T hG=>⟨rfl,fun i hi hv=>?_⟩)).mono ?_
  · match i,hi with
    |0,_=>exact a0 G T hG
    |1,_=>exact a1 G T hG
    |2,_=>exact a2 G T hG
  · rintro e W' ⟨v,G',rfl,hr,hbelow⟩
    obtain rfl:=hr.bool_true
    exact⟨_,rfl,zrL hW' rfl rfl Tryz.underlying4 rfl laidOut (fun t ht=>by
      simp only[Tryz.params3,List.mem_cons,List.not_mem_nil,or_false] at ht
      rcases ht with rfl|rfl|rfl<;>exact⟨by kernel_rfl,of_decide_eq_true (by kernel_rfl)⟩) hbelow⟩
set_option maxRecDepth 100000 in
theorem lifted (os:Os) (started:os.Started) (H:Type) (enc:TypeId×Value→H) (F:Stop.Interp):
    ReturnsInHanded {} Tryz.checked os 3 .any ((Rows.OpenSpec.upto Rows.fnExactClosedClausesSpec).pre6 enc Tryz.prog Tryz.f3 Rows.fnExactClosedClausesUptoRow.domain false) (((Rows.OpenSpec.upto Rows.fnExactClosedClausesSpec).at F).post enc Tryz.prog Tryz.f3 false true false false):=by
  refine returnsInHanded_of_cond (C:=Tryz.checked) (s:=Rows.OpenSpec.upto Rows.fnExactClosedClausesSpec) (k:=Rows.uptoSmall) rfl own started (by kernel_rfl) Tryz.func3
    (OpenSpec.witness (enc:=enc) (C:=Tryz.checked) (s:=Rows.OpenSpec.upto Rows.fnExactClosedClausesSpec) (k:=Rows.uptoSmall) rfl false ⟨#[],#[.slice none 0 0,.agg #[.int .i64 0,.int .i64 0],.slice none 0 0],[]⟩ 8 (by kernel_rfl) (by kernel_rfl) (by kernel_rfl)
      (x:=([.nil,.agg [.lit (.int .i64 0),.lit (.int .i64 0)],.nil],[],[])) (by kernel_rfl) rfl (by kernel_rfl)) ?_
  intro W base args ds gs before hval hW _ hk _
  exact contract H enc W base args ds gs before hval hW hk
theorem kf1:(Rows.fnExactClosedClausesUptoRow.inPlace == Tryz.pinned.checked.prog.inPlace 3)=true:=by kernel_rfl
theorem kf2:(Rows.fnExactClosedClausesUptoRow.unfollowed == Tryz.pinned.checked.prog.unfollowed 3)=true:=by kernel_rfl
theorem kf3:(Rows.fnExactClosedClausesUptoRow.recurses == Tryz.pinned.checked.prog.recurses 3)=true:=by kernel_rfl
theorem kf4:(Rows.fnExactClosedClausesUptoRow.named == Tryz.pinned.checked.prog.varsNamed 3)=true:=by kernel_rfl
theorem kf5:laidOutB Tryz.pinned.checked.prog=true:=by kernel_rfl
theorem kf6:mapsRowed Tryz.pinned.checked.prog=true:=by kernel_rfl
theorem kf7:Tryz.pinned.checked.prog.stopsHeard=true:=by kernel_rfl
theorem kf8:Tryz.pinned.checked.prog.mayEnter=true:=by kernel_rfl
theorem kf9:(Rows.fnExactClosedClausesUptoRow.lifted == Tryz.pinned.checked.prog.liftsFinal)=true:=by kernel_rfl
theorem kf0:(Rows.fnExactClosedClausesUptoRow.plainKeys == Tryz.pinned.checked.prog.plainKeys)=true:=by kernel_rfl
theorem facts:joinedFacts Tryz.pinned.checked.prog 3 Tryz.f3 (Rows.OpenSpec.upto Rows.fnExactClosedClausesSpec).bare Rows.fnExactClosedClausesUptoRow=true:=by
  unfold joinedFacts
  rw[kf1,kf2,kf3,kf4,kf5,kf6,kf7,kf8,kf9,kf0]
  kernel_rfl
theorem named:Tryz.pinned.checked.prog.funcNamed Rows.fnExactClosedClausesUptoRow.func=some 3:=by kernel_rfl
theorem over:Rows.fnExactClosedClausesUptoRow.holds Tryz.pinned (Rows.OpenSpec.upto Rows.fnExactClosedClausesSpec):=
  OpenClaim.holds_of_cond 3 Tryz.f3 rfl rfl rfl rfl rfl rfl rfl ⟨rfl,rfl,rfl,rfl,rfl⟩ rfl rfl rfl rfl rfl named Tryz.func3 facts
    (of_decide_eq_true (by as_aux_lemma=>kernel_rfl)) (by as_aux_lemma=>unfold Func.isWrapper;first|(rw[if_pos (by decide +kernel)];kernel_rfl)|(rw[if_neg (by decide +kernel)];exact⟨rfl,rfl⟩))
    (fun os started H enc _ F=>lifted os started H enc F)
theorem proved:Rows.FnExactClosedClausesUptoSaid:=over
end Go.Proofs.YtcnjkjdmbnhcaaaGreat.fnExactClosedClauses
