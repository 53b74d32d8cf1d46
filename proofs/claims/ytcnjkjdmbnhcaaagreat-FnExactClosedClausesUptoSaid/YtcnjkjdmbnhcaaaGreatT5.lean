/-
  THE ABSTRACT WALK AND THE WALKS, part 5 of 6: the parts F78, F10, F73, F18, F19, F31, F32, F33, F34, F35, F36, F37, F82, F83, F38, F79, F59, F80, F11, F17, F43, F44, F45, F46, F60, F61, F30, F63, F81, F84, Ta, F86, F64, F87, F88.
-/
import Derived.Test.YtcnjkjdmbnhcaaaGreatT4
namespace Go.Proofs.YtcnjkjdmbnhcaaaGreat
open Go
set_option linter.unusedSimpArgs false
set_option linter.unusedVariables false
set_option maxRecDepth 100000
set_option maxHeartbeats 2000000
theorem zhj {f:Ty→Pat→Pat→List Pat}{c:Int}{ts:List Ty}{xs bs front:List Pat}{i:Nat} (h1:i<ts.length) (h2:i<xs.length) (h3:i<bs.length):
  zbh f c (ts.drop i) (xs.drop i) (bs.drop i) front=(f (nth ts i) (nth xs i) (nth bs i)).map (fun z=>zb2 c (front++[z]++xs.drop (i+1)))++(match zaS 11 (nth xs i) (nth bs i) with
   |none=>[]
   |some both=>zbh f c (ts.drop (i+1)) (xs.drop (i+1)) (bs.drop (i+1)) (front++[both])):=by
 rw[za9 h1,za9 h2,za9 h3,zbh]
 all_goals (cases zaS 11 (nth xs i) (nth bs i)<;>rfl)
theorem zkg {f:Ty→Pat→Pat→List Pat}{c:Int}{ts:List Ty}{xs bs front:List Pat}{i:Nat} (h1:i<ts.length) (h2:i<xs.length) (h3:i<bs.length) (h:(zaS 11 (nth xs i) (nth bs i)).isSome=true):
  zbh f c (ts.drop i) (xs.drop i) (bs.drop i) front=(f (nth ts i) (nth xs i) (nth bs i)).map (fun z=>zb2 c (front++[z]++xs.drop (i+1)))++zbh f c (ts.drop (i+1)) (xs.drop (i+1)) (bs.drop (i+1)) (front++[zcR 11 (nth xs i) (nth bs i)]):=by
 rw[zhj h1 h2 h3,zmH h]
theorem zkf {f:Ty→Pat→Pat→List Pat}{c:Int}{ts:List Ty}{xs bs front:List Pat}{i:Nat} (h1:i<ts.length) (h2:i<xs.length) (h3:i<bs.length) (h:(zaS 11 (nth xs i) (nth bs i)).isSome=false):
  zbh f c (ts.drop i) (xs.drop i) (bs.drop i) front=(f (nth ts i) (nth xs i) (nth bs i)).map (fun z=>zb2 c (front++[z]++xs.drop (i+1))):=by
 rw[zhj h1 h2 h3,zmI h,List.append_nil]
theorem zlI {f:Ty→Pat→Pat→List Pat}{c:Int}{ts:List Ty}{xs bs front:List Pat}{i:Nat} (h1:ts.length≤i):zbh f c (ts.drop i) (xs.drop i) (bs.drop i) front=[]:=by
 rw[List.drop_eq_nil_of_le h1];rfl
theorem zoS {n:Nat} (h:n≤11):4 ^ n≤4194304:=Nat.le_trans (Nat.pow_le_pow_right (by omega) h) (by decide)
theorem zfu {w:List Data} (hs:Spa w){n m:Nat}{t:Ty}{a b:Pat} (h:n<m) (h10:n≤10) (ht:InS (w.length*4) t) (ha:zam w m t a=true) (hb:zam w n t b=true):(zav w n t a b).length≤20000000:=by
 have h1:=zni hs n m h ht ha hb
 have h2:=(zgC hs n ht hb).2
 have h3:=zoS (n:=n) (by omega)
 omega
theorem zsG {A B:List Pat}{y:Pat}{xs:List (List D)} (hx:xs=Pat.cs B) (hb:A.length+1+B.length≤1000):
  FnD Tryz.prog 189 [.d (.sl [[.sl (A.map Pat.cc)],[.sl [Pat.cc y]],[.sl xs]])] [] (.d (zaf (A++[y]++B))) []:=by
 have h:=zjr (ls:=[A,[y],B]) (by simp) (by simp;omega) (by simp;omega)
 have e:[A,[y],B].flatten=A++[y]++B:=by simp
 rw[e] at h
 subst hx
 have e2:zsp [A,[y],B] = .sl [[.sl (A.map Pat.cc)],[.sl [Pat.cc y]],[.sl (Pat.cs B)]]:=by
  show D.sl [[.sl (Pat.cs A)],[.sl (Pat.cs [y])],[.sl (Pat.cs B)]]=_
  rw[Pat.cs_cd A,Pat.cs_cd [y]];rfl
 rw[e2] at h
 exact h
section
variable {w:List Data}{f:Nat→Nat}
abbrev MinusFn (w:List Data) (f:Nat→Nat) (n:Nat) (ta tk:Int) (a b:Pat):Prop:=
 FnD Tryz.prog 116 [.d (sPtr w f),.agg [.d (.i ta),.d (.i tk)],.agg [.d (.i a.op),.d (.i a.ctor),.d (.i a.n),.d (.i a.m),.d (.i a.var),.d (zaf a.kids)],.agg [.d (.i b.op),.d (.i b.ctor),.d (.i b.n),.d (.i b.m),.d (.i b.var),.d (zaf b.kids)]] [] (.d (zaf (zav w n ⟨ta,tk⟩ a b))) []
theorem zoB {n:Nat}{ta tk:Int}{a b:Pat} (h:b.op=1):MinusFn w f (n+1) ta tk a b:=by
 unfold MinusFn
 rw[zhS h]
 refine bd Tryz.f116 159 [] [] fun w0 F0 own kept hk=>?_
 refine Walk.box (id:=3005) .none rfl rfl rfl rfl rfl rfl rfl ?_
 refine Walk.box (id:=3006) .none rfl rfl rfl rfl rfl rfl rfl ?_
 refine Walk.box (id:=3007) .none rfl rfl rfl rfl rfl rfl rfl ?_
 refine ev ?_
 refine sq (fun h1 h1p h1s=>?_) fun h1 h1p h1s=>?_
 try simp only[Q] at h1p
 refine rn0 (r1 rfl) (.nild ?_)
 rotate_left
 try simp only[Q] at h1p
 exfalso;omega
 all_goals (rfl)
theorem zoC {n:Nat}{ta tk:Int}{a b:Pat} (h:b.op=3) (hbn:0≤b.n∧b.n≤9) (hbm:0≤b.m∧b.m≤9):MinusFn w f (n+1) ta tk a b:=by
 unfold MinusFn
 rw[zjP h]
 have er:zbF [lowQ a,minQ (zc9 a) (b.n-1),maxQ (lowQ a) (b.m+1),zc9 a] 2=zeu a b:=zrS _ _ _ _
 have hrg:=zfr (l:=[lowQ a,minQ (zc9 a) (b.n-1),maxQ (lowQ a) (b.m+1),zc9 a]) (n:=2) rfl (by omega)
 rw[er] at hrg
 refine bd Tryz.f116 159 [] [] fun w0 F0 own kept hk=>?_
 refine Walk.box (id:=3005) .none rfl rfl rfl rfl rfl rfl rfl ?_
 refine Walk.box (id:=3006) .none rfl rfl rfl rfl rfl rfl rfl ?_
 refine Walk.box (id:=3007) .none rfl rfl rfl rfl rfl rfl rfl ?_
 refine ev ?_
 refine sq (fun h1 h1p h1s=>?_) fun h1 h1p h1s=>?_
 try simp only[Q] at h1p
 exfalso;omega
 try simp only[Q] at h1p
 refine sq (fun h2 h2p h2s=>?_) fun h2 h2p h2s=>?_
 try simp only[Q] at h2p
 refine wc ztp (zll) rfl rfl ?_
 refine ev ?_
 refine ar ?_
 refine Walk.minI .none rfl rfl rfl ?_
 refine ev ?_
 refine ar ?_
 refine Walk.maxI .none rfl rfl rfl ?_
 refine ev ?_
 refine Walk.sliceLit zbQ tz3 rfl (by decide) (ks:=[0,1,2,3]) (xs:=[_,_,_,_]) rfl rfl (by decide) (by decide) .none rfl rfl rfl rfl ?_
 refine wc zof (hrg) rfl rfl ?_
 refine ev ?_
 focus (refine rn0 (r1 rfl) (.eqd ?_);all_goals (first|rfl|(simp[h1s,h1p,h2s,h2p];done)|(simp_all;done)|(simp_all;omega)|omega))
 try simp only[Q] at h2p
 exfalso;omega
theorem zoF {n:Nat}{ta tk:Int}{a b:Pat} (h4:a.op=4) (h4b:b.op=4) (hc:¬a.ctor=b.ctor):MinusFn w f (n+1) ta tk a b:=by
 unfold MinusFn
 have e:zav w (n+1) ⟨ta,tk⟩ a b=[a]:=by rw[zeg h4b h4];exact if_neg hc
 rw[e]
 refine bd Tryz.f116 159 [] [] fun w0 F0 own kept hk=>?_
 refine Walk.box (id:=3005) .none rfl rfl rfl rfl rfl rfl rfl ?_
 refine Walk.box (id:=3006) .none rfl rfl rfl rfl rfl rfl rfl ?_
 refine Walk.box (id:=3007) .none rfl rfl rfl rfl rfl rfl rfl ?_
 refine ev ?_
 refine sq (fun h1 h1p h1s=>?_) fun h1 h1p h1s=>?_
 try simp only[Q] at h1p
 exfalso;omega
 try simp only[Q] at h1p
 refine sq (fun h2 h2p h2s=>?_) fun h2 h2p h2s=>?_
 try simp only[Q] at h2p
 exfalso;omega
 try simp only[Q] at h2p
 refine sq (fun h3 h3p h3s=>?_) fun h3 h3p h3s=>?_
 try simp only[Q] at h3p
 exfalso;omega
 try simp only[Q] at h3p
 refine sq (fun h4 h4p h4s=>?_) fun h4 h4p h4s=>?_
 try simp only[Q] at h4p
 refine Walk.sliceLit sl45 tz56 rfl (by decide) (ks:=[0]) (xs:=[_]) rfl rfl (by decide) (by decide) .none rfl rfl rfl rfl ?_
 refine ev ?_
 refine rn0 (r1 rfl) (.eqd ?_)
 rotate_left
 try simp only[Q] at h4p
 exfalso;omega
 all_goals (first|rfl|(cases a;rfl))
theorem zoE (hs:Spa w){n m:Nat} (hn:n+1≤10) (hm:m+1≤11) (hnm:n<m)
  (ih:∀ {ta tk:Int}{a b:Pat},InS (w.length*4) ⟨ta,tk⟩→zam w m ⟨ta,tk⟩ a=true→zam w n ⟨ta,tk⟩ b=true→MinusFn w f n ta tk a b)
  {ta tk:Int}{a b:Pat} (ht:InS (w.length*4) ⟨ta,tk⟩) (ha:zam w (m+1) ⟨ta,tk⟩ a=true) (hb:zam w (n+1) ⟨ta,tk⟩ b=true) (h4:a.op=4) (h4b:b.op=4) (hc:a.ctor=b.ctor):MinusFn w f (n+1) ta tk a b:=by
 obtain⟨c1,c2,c3,-⟩:=zbf ha h4
 obtain⟨d1,d2,d3,-⟩:=zbf hb h4b
 rw[←hc] at d3
 have h3l:=hs.args ⟨ta,tk⟩ a.ctor ht c1
 have ka:=fun i (hi:i<a.kids.length)=>zbt ha hi
 have kb:=fun i (hi:i<b.kids.length)=>zbt hb hi
 rw[zbG h4] at ka
 rw[zbG h4b,←hc] at kb
 have hbd:=zfu hs (n:=n+1) (m:=m+1) (by omega) hn ht ha hb
 have e:zav w (n+1) ⟨ta,tk⟩ a b=zbh (zav w n) a.ctor (zaj w ⟨ta,tk⟩ a.ctor) a.kids b.kids []:=by rw[zeg h4b h4];exact if_pos hc
 have hins:=fun i (hi:i<(zaj w ⟨ta,tk⟩ a.ctor).length)=>zcv hs.dp ht c1 _ (zal hi)
 have hmi:∀i,i<(zaj w ⟨ta,tk⟩ a.ctor).length→FnD Tryz.prog 116 [.d (sPtr w f),.agg [.d (.i (nth (zaj w ⟨ta,tk⟩ a.ctor) i).data),.d (.i (nth (zaj w ⟨ta,tk⟩ a.ctor) i).index)],.agg [.d (.i (nth a.kids i).op),.d (.i (nth a.kids i).ctor),.d (.i (nth a.kids i).n),.d (.i (nth a.kids i).m),.d (.i (nth a.kids i).var),.d (zaf (nth a.kids i).kids)],.agg [.d (.i (nth b.kids i).op),.d (.i (nth b.kids i).ctor),.d (.i (nth b.kids i).n),.d (.i (nth b.kids i).m),.d (.i (nth b.kids i).var),.d (zaf (nth b.kids i).kids)]] [] (.d (zaf (zav w n (nth (zaj w ⟨ta,tk⟩ a.ctor) i) (nth a.kids i) (nth b.kids i)))) []:=fun i hi=>ih (ta:=(nth (zaj w ⟨ta,tk⟩ a.ctor) i).data) (tk:=(nth (zaj w ⟨ta,tk⟩ a.ctor) i).index) (hins i hi) (ka i (by omega)) (kb i (by omega))
 have hme:=fun i (hi:i<(zaj w ⟨ta,tk⟩ a.ctor).length)=>zi7 hs 11 m (f:=f) (ta:=(nth (zaj w ⟨ta,tk⟩ a.ctor) i).data) (tk:=(nth (zaj w ⟨ta,tk⟩ a.ctor) i).index) (by omega) (hins i hi) (ka i (by omega)) (zjQ (by omega) (kb i (by omega)))
 unfold MinusFn
 rw[e] at hbd ⊢
 have hT:∀i out front,i<(zaj w ⟨ta,tk⟩ a.ctor).length→out++zbh (zav w n) a.ctor ((zaj w ⟨ta,tk⟩ a.ctor).drop i) (a.kids.drop i) (b.kids.drop i) front=zbh (zav w n) a.ctor (zaj w ⟨ta,tk⟩ a.ctor) a.kids b.kids []→
   out.length+(zav w n (nth (zaj w ⟨ta,tk⟩ a.ctor) i) (nth a.kids i) (nth b.kids i)).length≤20000000:=fun i out front hi h=>by
  rw[zhj hi (by omega) (by omega)] at h
  have:=congrArg List.length h
  simp only[List.length_append,List.length_map] at this
  omega
 refine bd Tryz.f116 159 [14,15] [] fun w0 F0 own kept hk=>?_
 refine Walk.box (id:=3005) .none rfl rfl rfl rfl rfl rfl rfl ?_
 refine Walk.box (id:=3006) .none rfl rfl rfl rfl rfl rfl rfl ?_
 refine Walk.box (id:=3007) .none rfl rfl rfl rfl rfl rfl rfl ?_
 refine evs [14,15] [] ?_
 refine sq (fun h1 h1p h1s=>?_) fun h1 h1p h1s=>?_
 try simp only[Q,Pat.cs_len] at h1p
 exfalso;omega
 try simp only[Q,Pat.cs_len] at h1p
 refine sq (fun h2 h2p h2s=>?_) fun h2 h2p h2s=>?_
 try simp only[Q,Pat.cs_len] at h2p
 exfalso;omega
 try simp only[Q,Pat.cs_len] at h2p
 refine sq (fun h3 h3p h3s=>?_) fun h3 h3p h3s=>?_
 try simp only[Q,Pat.cs_len] at h3p
 exfalso;omega
 try simp only[Q,Pat.cs_len] at h3p
 refine sq (fun h4 h4p h4s=>?_) fun h4 h4p h4s=>?_
 try simp only[Q,Pat.cs_len] at h4p
 exfalso;omega
 try simp only[Q,Pat.cs_len] at h4p
 refine Walk.assignNil 9 6 .none rfl rfl ?_
 refine Walk.assignNil 8 6 .none rfl rfl ?_
 refine tv ?_
 refine wc ziU (zda hs.dp.wt (zcK ht) c1) rfl rfl ?_
 refine evd [14,15] [] ?_
 refine dr ?_
 refine CWp.loopX (ι:=Nat×List Pat×List Pat) hk (fun s=>[(94,.d (.i (s.1:Int))),(14,.gl 9 (s.2.1.map Pat.cc)),(15,.gl 8 (s.2.2.map Pat.cc))]) [16,17,19,20,21,22,95,96,97,98,99,100,101,102,103,104,105,106,107,108,109,110,111,112,113,114,115,116,117,118,119,120,121,122,123,124,125,126,127,128,129,130,131,132,133,134,135,136,137,138,139,140,141,142,143,144,145,146,147,148,149,150,151,152,153,154,155,156,157] (fun s=>[(9,some (.tok ((s.2.1.map Pat.cc)).length 6)),(8,some (.tok ((s.2.2.map Pat.cc)).length 6))]) (fun s=>s.1≤a.kids.length∧s.2.2.length=s.1∧s.2.1++zbh (zav w n) a.ctor ((zaj w ⟨ta,tk⟩ a.ctor).drop s.1) (a.kids.drop s.1) (b.kids.drop s.1) s.2.2=zbh (zav w n) a.ctor (zaj w ⟨ta,tk⟩ a.ctor) a.kids b.kids []) (fun s=>a.kids.length-s.1) (0,[],[]) ⟨by simp,rfl,rfl⟩ ⟨⟨_,rfl,LeA.eqi ?_⟩,⟨⟨_,rfl,LeA.glg ?_⟩,⟨⟨_,rfl,LeA.glg ?_⟩,trivial⟩⟩⟩ ⟨zad ?_,⟨zad ?_,trivial⟩⟩ (fun x=>rfl) (fun s hg2=>?_)
 iterate 5 focus (first|rfl|(simp;done)|(simp_all;done)|omega|(simp;omega))
 refine evc [14,15] [] ?_
 refine sq (fun h5 h5p h5s=>?_) fun h5 h5p h5s=>?_
 try simp only[Q,Pat.cs_len] at h5p
 refine Walk.idx zbd .none rfl rfl rfl rfl (zay (by omega)) rfl ?_
 refine evs [14,15] [] ?_
 refine Walk.alloc (id:=3017) tz33 rfl .none rfl rfl rfl rfl ?_
 refine evs [14,15] [] ?_
 refine Walk.store ty33 .none rfl rfl rfl rfl rfl rfl (by simp) rfl ?_
 refine tv ?_
 refine Walk.idx sl45 .none rfl rfl rfl rfl (zaI (by omega)) rfl ?_
 refine evd [14,15] [] ?_
 refine Walk.idx sl45 .none rfl rfl rfl rfl (zaI (by omega)) rfl ?_
 refine evd [14,15] [] ?_
 refine wc zod (hmi s.1 (by omega)) rfl rfl ?_
 refine evd [14,15] [] ?_
 refine dr ?_
 refine CWp.loopX (ι:=List (Pat)×List (Pat)) hk (fun x=>[(113,.d (.i (x.1.length:Int))),(14,.gl 9 ((s.2.1++x.1.map (fun z=>zb2 a.ctor (s.2.2++[z]++a.kids.drop (s.1+1)))).map Pat.cc))]) [19,20,114,115,116,117,118,119,120,121,122,123,124,125,126,127,128,129,130,131,132,133,134] (fun x=>[(9,some (.tok (((s.2.1++x.1.map (fun z=>zb2 a.ctor (s.2.2++[z]++a.kids.drop (s.1+1)))).map Pat.cc)).length 6))]) (fun x=>x.1++x.2=(zav w n (nth (zaj w ⟨ta,tk⟩ a.ctor) s.1) (nth a.kids s.1) (nth b.kids s.1))) (fun x=>x.2.length) ([],(zav w n (nth (zaj w ⟨ta,tk⟩ a.ctor) s.1) (nth a.kids s.1) (nth b.kids s.1))) (by simp) ⟨⟨_,rfl,LeA.eqi ?_⟩,⟨⟨_,rfl,LeA.glg ?_⟩,trivial⟩⟩ ⟨zad ?_,trivial⟩ (fun x=>rfl) (fun x hg3=>?_)
 iterate 3 focus (first|rfl|(simp;done)|(simp only[List.map_append,List.append_assoc,List.map_cons,List.map_nil];done)|(simp only[List.map_append,List.append_assoc,List.map_cons,List.map_nil];rfl)|(rw[List.append_nil] at hg3;rw[hg3];done)|omega|(simp;omega))
 obtain⟨pre,rest⟩:=x
 dsimp only at hg3 ⊢
 refine evc [14,15] [] ?_
 refine sq (fun h6 h6p h6s=>?_) fun h6 h6p h6s=>?_
 try simp only[Q,Pat.cs_len] at h6p
 rcases rest with _|⟨y,rest⟩
 ·exfalso;simp_all
 refine Walk.idx sl45 .none rfl rfl rfl rfl (Pat.cs_at' hg3) rfl ?_
 refine evs [14,15] [] ?_
 refine Walk.alloc (id:=3019) tz56 rfl .none rfl rfl rfl rfl ?_
 refine Walk.store ty56 .none rfl rfl rfl rfl rfl rfl (by simp) rfl ?_
 refine tv ?_
 refine Walk.sliceLit sl45 tz56 rfl (by decide) (ks:=[0]) (xs:=[_]) rfl rfl (by decide) (by decide) .none rfl rfl rfl rfl ?_
 refine evd [14,15] [] ?_
 refine ar ?_ (by first|(constructor<;>omega)|(have h9:=hT s.1 s.2.1 s.2.2 (by omega) hg2.2.2;have h8:=congrArg List.length hg3;simp only[List.length_append,List.length_cons] at h8;constructor<;>omega))
 refine Walk.cut_l (b:=s.1+1) sl45 .none rfl rfl rfl (by intro x hx;first|(simp at hx;subst hx;rfl)|exact zbE _ x hx|exact zbj _ x hx) rfl rfl (by simp only[Pat.cs_len];omega) ?_
 refine Walk.sliceLit zdR tz45 rfl (by decide) (ks:=[0,1,2]) (xs:=[_,_,_]) rfl rfl (by decide) (by decide) .none rfl rfl rfl rfl ?_
 refine wc ztr (zsG (A:=s.2.2) (y:=y) (xs:=(Pat.cs a.kids).drop (s.1+1)) (B:=a.kids.drop (s.1+1)) (by rw[Pat.cs_cd,Pat.cs_cd,List.map_drop]) (by rw[List.length_drop];omega)) rfl rfl ?_
 refine evd [14,15] [] ?_
 refine dr ?_
 refine Walk.build st56 (ks:=[0,1,5]) (xs:=[_,_,_]) rfl rfl .none rfl rfl rfl ?_
 refine Walk.sliceLit sl45 tz56 rfl (by decide) (ks:=[0]) (xs:=[_]) rfl rfl (by decide) (by decide) .none rfl rfl rfl rfl ?_
 refine Walk.append sl45 zz56 rfl .none rfl rfl rfl rfl (zaB rfl (by first|rfl|(simp;done)|(simp;omega))) (by intro x hx;first|(simp at hx;subst hx;rfl)|exact zbE _ x hx|exact zbj _ x hx) (by first|(have h9:=hT s.1 s.2.1 s.2.2 (by omega) hg2.2.2;have h8:=congrArg List.length hg3;simp at h8 ⊢;omega)|(simp;omega)) (by first|(have h9:=hT s.1 s.2.1 s.2.2 (by omega) hg2.2.2;have h8:=congrArg List.length hg3;simp at h8 ⊢;omega)|(simp;omega)) ?_
 refine asg ?_
 refine tv ?_
 refine ar ?_ (by first|(constructor<;>omega)|(have h9:=hT s.1 s.2.1 s.2.2 (by omega) hg2.2.2;have h8:=congrArg List.length hg3;simp only[List.length_append,List.length_cons] at h8;constructor<;>omega))
 refine Exists.intro ((pre++[y],rest)) ⟨(by have hz:=hg3;rw[←hz];simp),(by simp),sx ⟨⟨_,rfl,LeA.eqi ?_⟩,⟨⟨_,rfl,LeA.glg ?_⟩,trivial⟩⟩ ⟨zad ?_,trivial⟩⟩
 iterate 3 focus (first|rfl|(simp;done)|(simp only[List.map_append,List.append_assoc,List.map_cons,List.map_nil];done)|(simp only[List.map_append,List.append_assoc,List.map_cons,List.map_nil];rfl)|(rw[List.append_nil] at hg3;rw[hg3];done)|omega|(simp;omega))
 try simp only[Q,Pat.cs_len] at h6p
 have hrest:rest=[]:=by
  rcases rest with _|⟨a,b⟩
  ·rfl
  ·exfalso;have hz:=congrArg List.length (hg3);simp only[List.length_append,List.length_cons,List.length_map] at hz;omega
 subst hrest
 refine Walk.idx sl45 .none rfl rfl rfl rfl (zaI (by omega)) rfl ?_
 refine evd [14,15] [] ?_
 refine Walk.idx sl45 .none rfl rfl rfl rfl (zaI (by omega)) rfl ?_
 refine evd [14,15] [] ?_
 refine wc zqB (hme s.1 (by omega)) rfl rfl ?_
 refine evd [14,15] [] ?_
 refine Walk.alloc (id:=3021) tz56 rfl .none rfl rfl rfl rfl ?_
 refine Walk.store ty56 .none rfl rfl rfl rfl rfl rfl (by simp) rfl ?_
 refine evd [14,15] [] ?_
 refine dr ?_
 refine sq (fun h7 h7p h7s=>?_) fun h7 h7p h7s=>?_
 try simp only[Q,Pat.cs_len] at h7p
 refine rn0 (r1 rfl) (.gld ?_)
 rotate_left
 try simp only[Q,Pat.cs_len] at h7p
 refine Walk.sliceLit sl45 tz56 rfl (by decide) (ks:=[0]) (xs:=[_]) rfl rfl (by decide) (by decide) .none rfl rfl rfl rfl ?_
 refine Walk.append sl45 zz56 rfl .none rfl rfl rfl rfl (zaB rfl (by first|rfl|(simp;done)|(simp;omega))) (by intro x hx;first|(simp at hx;subst hx;rfl)|exact zbE _ x hx|exact zbj _ x hx) (by first|(have h9:=hT s.1 s.2.1 s.2.2 (by omega) hg2.2.2;have h8:=congrArg List.length hg3;simp at h8 ⊢;omega)|(simp;omega)) (by first|(have h9:=hT s.1 s.2.1 s.2.2 (by omega) hg2.2.2;have h8:=congrArg List.length hg3;simp at h8 ⊢;omega)|(simp;omega)) ?_
 refine asg ?_
 refine tv ?_
 refine ar ?_ (by first|(constructor<;>omega)|(have h9:=hT s.1 s.2.1 s.2.2 (by omega) hg2.2.2;have h8:=congrArg List.length hg3;simp only[List.length_append,List.length_cons] at h8;constructor<;>omega))
 refine Exists.intro ((s.1+1,s.2.1++(zav w n (nth (zaj w ⟨ta,tk⟩ a.ctor) s.1) (nth a.kids s.1) (nth b.kids s.1)).map (fun z=>zb2 a.ctor (s.2.2++[z]++a.kids.drop (s.1+1))),s.2.2++[zcR 11 (nth a.kids s.1) (nth b.kids s.1)])) ⟨⟨by dsimp only;omega,by dsimp only;rw[List.length_append,hg2.2.1];rfl,by dsimp only;rw[List.append_assoc,←zkg (by omega) (by omega) (by omega) (by assumption)];exact hg2.2.2⟩,(by dsimp only;omega),sx ⟨⟨_,rfl,LeA.eqi ?_⟩,⟨⟨_,rfl,LeA.glg ?_⟩,⟨⟨_,rfl,LeA.glg ?_⟩,trivial⟩⟩⟩ ⟨zad ?_,⟨zad ?_,trivial⟩⟩⟩
 iterate 5 focus (first|rfl|(simp;done)|(simp_all;done)|omega|(simp;omega))
 try simp only[Q,Pat.cs_len] at h5p
 refine rn0 (r1 rfl) (.gld ?_)
 rotate_left
 all_goals (first|rfl|(rw[←hg2.2.2,zlI (by omega),List.append_nil,Pat.cs_cd];done)|(rw[List.append_nil] at hg3;rw[←hg2.2.2,zkf (by omega) (by omega) (by omega) (by assumption),←hg3,Pat.cs_cd];all_goals rfl))
theorem zoD (hs:Spa w){n:Nat}{ta tk:Int}{a b:Pat} (ht:InS (w.length*4) ⟨ta,tk⟩) (h1:a.op=1) (h4b:b.op=4) (hbd:(zav w (n+1) ⟨ta,tk⟩ a b).length≤20000000)
  (hC:∀c∈zaA w ⟨ta,tk⟩,MinusFn w f (n+1) ta tk (zch w ⟨ta,tk⟩ c) b):MinusFn w f (n+1) ta tk a b:=by
 have e:zav w (n+1) ⟨ta,tk⟩ a b=(zaA w ⟨ta,tk⟩).flatMap fun c=>zav w (n+1) ⟨ta,tk⟩ (zch w ⟨ta,tk⟩ c) b:=by
  rw[zhT h4b h1]
  exact congrArg (fun g=>(zaA w ⟨ta,tk⟩).flatMap g) (funext fun c=>(zeg h4b rfl).symm)
 unfold MinusFn
 rw[e] at hbd ⊢
 have hcl:=(hs.ctors _ ht).1
 have hpre:∀ {pre rest:List Int}{y:Int},pre++y::rest=zaA w ⟨ta,tk⟩→(pre.flatMap fun c=>zav w (n+1) ⟨ta,tk⟩ (zch w ⟨ta,tk⟩ c) b).length+(zav w (n+1) ⟨ta,tk⟩ (zch w ⟨ta,tk⟩ y) b).length≤20000000:=fun h=>by
  rw[←h,List.flatMap_append,List.flatMap_cons] at hbd
  simp only[List.length_append] at hbd
  omega
 have hmem:∀ {pre rest:List Int}{y:Int},pre++y::rest=zaA w ⟨ta,tk⟩→y∈zaA w ⟨ta,tk⟩:=fun h=>by rw[←h];simp
 refine bd Tryz.f116 159 [11] [] fun w0 F0 own kept hk=>?_
 refine Walk.box (id:=3005) .none rfl rfl rfl rfl rfl rfl rfl ?_
 refine Walk.box (id:=3006) .none rfl rfl rfl rfl rfl rfl rfl ?_
 refine Walk.box (id:=3007) .none rfl rfl rfl rfl rfl rfl rfl ?_
 refine evs [11] [] ?_
 refine sq (fun h1 h1p h1s=>?_) fun h1 h1p h1s=>?_
 try simp only[Q,Pat.cs_len] at h1p
 exfalso;omega
 try simp only[Q,Pat.cs_len] at h1p
 refine sq (fun h2 h2p h2s=>?_) fun h2 h2p h2s=>?_
 try simp only[Q,Pat.cs_len] at h2p
 exfalso;omega
 try simp only[Q,Pat.cs_len] at h2p
 refine sq (fun h3 h3p h3s=>?_) fun h3 h3p h3s=>?_
 try simp only[Q,Pat.cs_len] at h3p
 refine Walk.assignNil 9 6 .none rfl rfl ?_
 refine tv ?_
 refine wc zkX (zee hs.dp.wt (zcK ht)) rfl rfl ?_
 refine evd [11] [] ?_
 refine dr ?_
 refine CWp.loopX (ι:=List (Int)×List (Int)) hk (fun x=>[(61,.d (.i (x.1.length:Int))),(11,.gl 9 (Pat.cs (x.1.flatMap fun c=>zav w (n+1) ⟨ta,tk⟩ (zch w ⟨ta,tk⟩ c) b)))]) [13,62,63,64,65,66,67,68,69,70,71,72,73,74,75] (fun x=>[(9,some (.tok ((Pat.cs (x.1.flatMap fun c=>zav w (n+1) ⟨ta,tk⟩ (zch w ⟨ta,tk⟩ c) b))).length 6))]) (fun x=>x.1++x.2=zaA w ⟨ta,tk⟩) (fun x=>x.2.length) ([],zaA w ⟨ta,tk⟩) (by simp) ⟨⟨_,rfl,LeA.eqi ?_⟩,⟨⟨_,rfl,LeA.glg ?_⟩,trivial⟩⟩ ⟨zad ?_,trivial⟩ (fun x=>rfl) (fun x hg1=>?_)
 iterate 3 focus (first|rfl|(rw[List.flatMap_append,Pat.cs_cd,Pat.cs_cd,Pat.cs_cd,List.map_append];simp;done)|(simp[Pat.cs_len];done)|omega|(simp;omega))
 obtain⟨pre,rest⟩:=x
 dsimp only at hg1 ⊢
 refine evc [11] [] ?_
 refine sq (fun h4 h4p h4s=>?_) fun h4 h4p h4s=>?_
 try simp only[Q,Pat.cs_len] at h4p
 rcases rest with _|⟨y,rest⟩
 ·exfalso;simp_all
 refine Walk.idx zbQ .none rfl rfl rfl rfl (zaV hg1) rfl ?_
 refine evs [11] [] ?_
 refine wc ztq (znJ hs.dp.wt (f:=f) (zcK ht) (hmem hg1) (hs.args _ _ ht (hmem hg1))) rfl rfl ?_
 refine evd [11] [] ?_
 refine wc zod (hC y (hmem hg1)) rfl rfl ?_
 refine Walk.append sl45 zz56 rfl .none rfl rfl rfl rfl (zaB rfl (by first|rfl|(simp;done)|(simp;omega))) (by exact zbj _) (by have h9:=hpre hg1;simp only[Pat.cs_len];omega) (by have h9:=hpre hg1;simp only[Pat.cs_len];omega) ?_
 refine asg ?_
 refine dr ?_
 refine ar ?_
 refine Exists.intro ((pre++[y],rest)) ⟨(by have hz:=hg1;rw[←hz];simp),(by simp),sx ⟨⟨_,rfl,LeA.eqi ?_⟩,⟨⟨_,rfl,LeA.glg ?_⟩,trivial⟩⟩ ⟨zad ?_,trivial⟩⟩
 iterate 3 focus (first|rfl|(rw[List.flatMap_append,Pat.cs_cd,Pat.cs_cd,Pat.cs_cd,List.map_append];simp;done)|(simp[Pat.cs_len];done)|omega|(simp;omega))
 try simp only[Q,Pat.cs_len] at h4p
 have hrest:rest=[]:=by
  rcases rest with _|⟨a,b⟩
  ·rfl
  ·exfalso;have hz:=congrArg List.length (hg1);simp only[List.length_append,List.length_cons,List.length_map] at hz;omega
 subst hrest
 refine rn0 (r1 rfl) (.gld ?_)
 rotate_left
 try simp only[Q,Pat.cs_len] at h3p
 exfalso;omega
 all_goals (first|rfl|(rw[List.append_nil] at hg1;rw[hg1];done))
theorem ziF (hs:Spa w):∀(n m:Nat){ta tk:Int}{a b:Pat},n<m→n≤10→m≤11→InS (w.length*4) ⟨ta,tk⟩→zam w m ⟨ta,tk⟩ a=true→zam w n ⟨ta,tk⟩ b=true→MinusFn w f n ta tk a b
 |0,m,ta,tk,a,b,_,_,_,_,_,hb=>by simp[zam] at hb
 |n+1,0,ta,tk,a,b,h,_,_,_,_,_=>by omega
 |n+1,m+1,ta,tk,a,b,h,hn,hm,ht,ha,hb=>by
  have hC:∀ {a:Pat},zam w (m+1) ⟨ta,tk⟩ a=true→a.op=4→b.op=4→MinusFn w f (n+1) ta tk a b:=fun {a} ha h4 h4b=>by
   by_cases hc:a.ctor=b.ctor
   ·exact zoE hs hn hm (by omega) (fun h1 h2 h3=>ziF hs n m (by omega) (by omega) (by omega) h1 h2 h3) ht ha hb h4 h4b hc
   ·exact zoF h4 h4b hc
  rcases zce hb with h1|h3|h4b
  ·exact zoB h1
  ·have:=zcx hb h3
   exact zoC h3 ⟨by omega,by omega⟩ ⟨by omega,by omega⟩
  ·by_cases h1:a.op=1
   ·obtain⟨m',rfl⟩:∃m',m=m'+1:=⟨m-1,by omega⟩
    exact zoD hs ht h1 h4b (zfu hs h hn ht ha hb) (fun c hc=>hC (zdJ hc) rfl h4b)
   ·exact hC ha (by have:=zdI ha hb h1 (by omega);omega) h4b
end
theorem zd6 {α:Type}{N:Nat}{X Y:List α} (h:N≤X.length):(X++Y).take N=X.take N:=by
 rw[List.take_append,(by omega:N-X.length=0)];simp
theorem zpT {α β:Type} [Inhabited β]{X:List α}{l:List β}{h:β→α}{j m:Nat} (hj:j<l.length) (hl:((X++(l.take j).map h).take (m+1)).length≤m):
  (X++(l.take (j+1)).map h).take (m+1)=(X++(l.take j).map h).take (m+1)++[h (nth l j)]:=by
 have e1:l.take (j+1)=l.take j++[nth l j]:=by rw[List.take_succ_eq_append_getElem hj,zbk hj]
 rw[List.length_take] at hl
 have h2:(X++(l.take j).map h).length≤m:=by omega
 rw[e1,List.map_append,←List.append_assoc,List.take_of_length_le (by simp at h2 ⊢;omega),List.take_of_length_le (l:=X++(l.take j).map h) (by omega)]
 rfl
theorem zsV {α β:Type}{X:List α}{l:List β}{h:β→α}{j m:Nat} (hc:¬j<l.length∨¬((X++(l.take j).map h).take (m+1)).length≤m):
  (X++(l.take j).map h).take (m+1)=(X++l.map h).take (m+1):=by
 rcases hc with hc|hc
 ·rw[List.take_of_length_le (l:=l) (by omega)]
 ·rw[List.length_take] at hc
  have e:l.map h=(l.take j).map h++(l.drop j).map h:=by rw[←List.map_append,List.take_append_drop]
  rw[e,←List.append_assoc,zd6 (X:=X++(l.take j).map h) (by omega)]
theorem zmq {α β:Type} [Inhabited β]{l:List β}{g:β→List α}{j:Nat} (hj:j<l.length):(l.take (j+1)).flatMap g=(l.take j).flatMap g++g (nth l j):=by
 rw[List.take_succ_eq_append_getElem hj,List.flatMap_append,zbk hj];simp
theorem zc5 {α β:Type}{l:List β}{g:β→List α}{j m:Nat} (hc:¬j<l.length∨¬(((l.take j).flatMap g).take (m+1)).length≤m):
  ((l.take j).flatMap g).take (m+1)=(l.flatMap g).take (m+1):=by
 rcases hc with hc|hc
 ·rw[List.take_of_length_le (l:=l) (by omega)]
 ·rw[List.length_take] at hc
  have e:l.flatMap g=(l.take j).flatMap g++(l.drop j).flatMap g:=by rw[←List.flatMap_append,List.take_append_drop]
  rw[e,zd6 (X:=(l.take j).flatMap g) (by omega)]
abbrev zg9 (o:List Pat):List D:=[.sl (Pat.cs o)]
abbrev zh9 (ls:List (List Pat)):D:= .sl (ls.map zg9)
theorem zql {N:Nat} (acc:List (List Pat)) (l:List Pat):(zbq (acc.take N) l).take N=(zbq acc l).take N:=by
 by_cases h:acc.length≤N
 ·rw[List.take_of_length_le h]
 have e0:∀a:List (List Pat),zbq a []=[]:=fun a=>by unfold zbq;simp
 cases l with
 |nil=>rw[e0,e0]
 |cons c r=>
  have e:zbq acc (c::r)=zbq (acc.take N) (c::r)++zbq (acc.drop N) (c::r):=by
   unfold zbq;rw[←List.flatMap_append,List.take_append_drop]
  rw[e,zd6]
  rw[zfZ,List.length_take,Nat.min_eq_left (by omega),List.length_cons]
  exact Nat.le_mul_of_pos_right _ (by omega)
theorem zqm {N:Nat} (acc:List (List Pat)) (l:List Pat):(zbq acc (l.take N)).take N=(zbq acc l).take N:=by
 by_cases h:l.length≤N
 ·rw[List.take_of_length_le h]
 cases acc with
 |nil=>rfl
 |cons q r=>
  have e:∀l:List Pat,zbq (q::r) l=l.map (fun c=>q++[c])++zbq r l:=fun l=>by unfold zbq;rw[List.flatMap_cons]
  rw[e,e,zd6 (by rw[List.length_map,List.length_take];omega),zd6 (by rw[List.length_map];omega),List.map_take,List.take_take,Nat.min_self]
def tupQ (m:Nat) (ls:List (List Pat)):List (List Pat):=ls.foldl (fun acc l=>(zbq acc l).take (m+1)) [[]]
theorem zcr (m:Nat) (ls:List (List Pat)) (l:List Pat):tupQ m (ls++[l])=(zbq (tupQ m ls) l).take (m+1):=by
 unfold tupQ;rw[List.foldl_append];rfl
theorem zpa (m:Nat):∀(ls:List (List Pat)) (acc:List (List Pat)),(ls.map (List.take (m+1))).foldl (fun acc l=>(zbq acc l).take (m+1)) (acc.take (m+1))=(ls.foldl zbq acc).take (m+1)
 | [],acc=>rfl
 |l::r,acc=>by
  rw[List.map_cons,List.foldl_cons,List.foldl_cons,zqm,zql]
  exact zpa m r (zbq acc l)
theorem zsW (m:Nat) (ls:List (List Pat)):tupQ m (ls.map (List.take (m+1)))=(zeB ls).take (m+1):=by
 have h:=zpa m ls [[]]
 have e:([[]]:List (List Pat)).take (m+1)=[[]]:=by simp
 rw[e] at h
 exact h
theorem zo8 (m:Nat) (ls:List (List Pat)):(tupQ m ls).length≤m+1:=by
 have key:∀(ls acc:List (List Pat)),acc.length≤m+1→(ls.foldl (fun acc l=>(zbq acc l).take (m+1)) acc).length≤m+1:=by
  intro ls
  induction ls with
  |nil=>intro acc h;exact h
  |cons l r ih=>intro acc h;exact ih _ (by rw[List.length_take];omega)
 exact key ls [[]] (by simp)
theorem zo9 (m:Nat){ls:List (List Pat)}{o:List Pat} (h:o∈tupQ m ls):o.length=ls.length:=by
 have key:∀(ls acc:List (List Pat)) (n:Nat),(∀o∈acc,o.length=n)→∀o∈ls.foldl (fun acc l=>(zbq acc l).take (m+1)) acc,o.length=n+ls.length:=by
  intro ls
  induction ls with
  |nil=>intro acc n h o ho;exact h o ho
  |cons l r ih=>
   intro acc n h o ho
   have:=ih _ (n+1) (fun o' ho'=>by
    have ho':=List.mem_of_mem_take ho'
    unfold zbq at ho'
    simp only[List.mem_flatMap,List.mem_map] at ho'
    obtain⟨p,hp,q,_,rfl⟩:=ho'
    simp[h p hp]) o ho
   simp only[List.length_cons];omega
 have:=key ls [[]] 0 (by simp) o h
 simpa using this
def zjV (l:List Pat) (o:List Pat):List (List Pat):=l.map fun y=>o++[y]
theorem zc7 (acc:List (List Pat)) (l:List Pat):zbq acc l=acc.flatMap (zjV l):=rfl
theorem zkP {X:List (List Pat)}{l:List Pat}{o:List Pat}{j m:Nat} (hc:¬j<l.length∨¬((X++(l.take j).map fun y=>o++[y]).take (m+1)).length≤m):
  (X++(l.take j).map fun y=>o++[y]).take (m+1)=(X++zjV l o).take (m+1):=zsV hc
theorem zr1 {α:Type}{N:Nat} (a b:List α):(a.take N++b.take N).take N=(a++b).take N:=by
 by_cases h:a.length≤N
 ·rw[List.take_of_length_le h,List.take_append,List.take_append,List.take_take,Nat.min_eq_left (by omega)]
 ·rw[zd6 (by rw[List.length_take];omega),zd6 (by omega),List.take_take,Nat.min_self]
def zbb (p:Pat):List Pat:=(zaD p).take 401
theorem zrX {p:Pat} (h:p.op=5) (hk:p.kids.length=2):zbb p=(zbb (nth p.kids 0)++zbb (nth p.kids 1)).take 401:=by
 unfold zbb;rw[zgV h hk,zr1]
theorem zrY {p:Pat} (h:p.op≠5):zbb p=(tupQ 400 (p.kids.map zbb)).map fun l=> .mk p.op p.ctor p.n p.m p.var l:=by
 unfold zbb
 rw[zeJ h,←List.map_take]
 congr 1
 have:=zsW 400 (p.kids.map zaD)
 rw[List.map_map] at this
 exact this.symm
theorem zgv (p:Pat):(zbb p).length≤401:=by unfold zbb;rw[List.length_take];omega
theorem zc4:∀(n:Nat){p:Pat},p.size≤n→p.ok→FnD Tryz.prog 249 [.agg [.d (.i p.op),.d (.i p.ctor),.d (.i p.n),.d (.i p.m),.d (.i p.var),.d (zaf p.kids)]] [] (.agg [.d (.i (zaN p).op),.d (.i (zaN p).ctor),.d (.i (zaN p).n),.d (.i (zaN p).m),.d (.i (zaN p).var),.d (zaf (zaN p).kids)]) []
 |0,p,h,_=>by rw[Pat.size_eq] at h;omega
 |n+1,p,h,hok=>by
  rw[Pat.size_eq] at h
  rw[Pat.ok_iff] at hok
  have hok1:=hok.1
  by_cases h2:p.op=2
  ·rw[zpu h2]
   refine bd Tryz.f249 42 [] [] fun w0 F0 own kept hk=>?_
   refine Walk.box (id:=3001) .none rfl rfl rfl rfl rfl rfl rfl ?_
   refine Walk.alloc (id:=3002) tz56 rfl .none rfl rfl rfl rfl ?_
   refine tv ?_
   refine sq (fun h1 h1p h1s=>?_) fun h1 h1p h1s=>?_
   try simp only[Q] at h1p
   refine Walk.build st56 (ks:=[0]) (xs:=[_]) rfl rfl .none rfl rfl rfl ?_
   refine Walk.store ty56 .none rfl rfl rfl rfl rfl rfl (by simp) rfl ?_
   refine tv ?_
   refine rn0 (.cons (.cellA ty56 rfl rfl rfl) .nil) (.agg (.cons (.eqd ?_) (.cons (.eqd ?_) (.cons (.eqd ?_) (.cons (.eqd ?_) (.cons (.eqd ?_) (.cons (.nild ?_) .nil)))))))
   rotate_left 6
   try simp only[Q] at h1p
   exfalso;omega
   all_goals (rfl)
  by_cases h6:p.op=6∧0<p.kids.length
  ·rw[zpv h6.1 h6.2]
   refine bd Tryz.f249 42 [] [] fun w0 F0 own kept hk=>?_
   refine Walk.box (id:=3001) .none rfl rfl rfl rfl rfl rfl rfl ?_
   refine Walk.alloc (id:=3002) tz56 rfl .none rfl rfl rfl rfl ?_
   refine tv ?_
   refine sq (fun h1 h1p h1s=>?_) fun h1 h1p h1s=>?_
   try simp only[Q,Pat.cs_len] at h1p
   exfalso;omega
   try simp only[Q,Pat.cs_len] at h1p
   refine sq (fun h2 h2p h2s=>?_) fun h2 h2p h2s=>?_
   try simp only[Q,Pat.cs_len] at h2p
   refine sq (fun h3 h3p h3s=>?_) fun h3 h3p h3s=>?_
   try simp only[Q,Pat.cs_len] at h3p
   refine Walk.idx (i:=0) sl45 .none rfl rfl rfl rfl (zaI h6.2) rfl ?_
   refine ev ?_
   refine wc zk3 (zc4 n (p:=nth p.kids 0) (by have:=Pats.size_mem (zal h6.2);omega) (Pats.ok_mem hok.2 _ (zal h6.2))) rfl rfl ?_
   refine Walk.store ty56 .none rfl rfl rfl rfl rfl rfl (by simp) rfl ?_
   refine tv ?_
   refine rn0 (.cons (.cellA ty56 rfl rfl rfl) .nil) (.agg (.cons (.eqd ?_) (.cons (.eqd ?_) (.cons (.eqd ?_) (.cons (.eqd ?_) (.cons (.eqd ?_) (.cons (.eqd ?_) .nil)))))))
   rotate_left 6
   try simp only[Q,Pat.cs_len] at h3p
   exfalso;omega
   try simp only[Q,Pat.cs_len] at h2p
   exfalso;omega
   all_goals (rfl)
  ·rw[zpw h2 h6]
   refine bd Tryz.f249 42 [] [] fun w0 F0 own kept hk=>?_
   refine Walk.box (id:=3001) .none rfl rfl rfl rfl rfl rfl rfl ?_
   refine Walk.alloc (id:=3002) tz56 rfl .none rfl rfl rfl rfl ?_
   refine tv ?_
   refine sq (fun h1 h1p h1s=>?_) fun h1 h1p h1s=>?_
   try simp only[Q,Pat.cs_len] at h1p
   exfalso;omega
   try simp only[Q,Pat.cs_len] at h1p
   refine sq (fun h2 h2p h2s=>?_) fun h2 h2p h2s=>?_
   try simp only[Q,Pat.cs_len] at h2p
   refine sq (fun h3 h3p h3s=>?_) fun h3 h3p h3s=>?_
   try simp only[Q,Pat.cs_len] at h3p
   exfalso;apply h6;exact⟨by omega,by omega⟩
   try simp only[Q,Pat.cs_len] at h3p
   refine Walk.alloc (id:=3003) tz56 rfl .none rfl rfl rfl rfl ?_
   refine Walk.store ty56 .none rfl rfl rfl rfl rfl rfl (by simp) rfl ?_
   refine tv ?_
   refine Walk.store ty45 .none rfl rfl rfl rfl rfl rfl (by simp) rfl ?_
   refine tv ?_
   refine CWp.tokB 3003 5 7 6 rfl rfl rfl rfl ?_
   refine CWp.loopX (ι:=List (Pat)×List (Pat)) hk (fun x=>[(4,.d (.i (x.1.length:Int)))]) [23,24,25,26,27,28,29,30,31,32,33,34,35,36,37,38,39,40] (fun x=>[(3003,some (.box [.d (.i p.op),.d (.i p.ctor),.d (.i p.n),.d (.i p.m),.d (.i p.var),.gl 7 ((x.1.map zaN).map Pat.cc)])),(7,some (.tok ((x.1.map zaN).map Pat.cc).length 6))]) (fun x=>x.1++x.2=p.kids) (fun x=>x.2.length) ([],p.kids) (by simp) ⟨⟨_,rfl,LeA.eqi ?_⟩,trivial⟩ ⟨?_,⟨zad ?_,trivial⟩⟩ (fun x=>rfl) (fun x hg1=>?_)
   focus (first|rfl|(simp;done)|(simp_all;done)|omega|(simp;omega))
   focus (first|rfl|(simp[getH];done))
   focus (first|rfl|(simp;done)|(simp_all;done)|omega|(simp;omega))
   obtain⟨pre,rest⟩:=x
   dsimp only at hg1 ⊢
   refine evc [] [] ?_
   refine sq (fun h4 h4p h4s=>?_) fun h4 h4p h4s=>?_
   try simp only[Q,Pat.cs_len] at h4p
   rcases rest with _|⟨y,rest⟩
   ·exfalso;simp_all
   refine Walk.idx sl45 .none rfl rfl rfl rfl (Pat.cs_at' hg1) rfl ?_
   refine evd [] [] ?_
   refine wc zk3 (zc4 n (p:=y) (by have:=Pats.size_mem (l:=p.kids) (v:=y) (by rw[←hg1];simp);omega) (Pats.ok_mem hok.2 y (by rw[←hg1];simp))) rfl rfl ?_
   refine Walk.sliceLit sl45 tz56 rfl (by decide) (ks:=[0]) (xs:=[_]) rfl rfl (by decide) (by decide) .none rfl rfl rfl rfl ?_
   refine Walk.append sl45 zz56 rfl .none rfl rfl rfl rfl (zaB rfl (by first|rfl|(simp;done)|(simp;omega))) (by intro x hx;first|(simp at hx;subst hx;rfl)|exact zbE _ x hx) (by have:=congrArg List.length hg1;simp at this;simp;omega) (by have:=congrArg List.length hg1;simp at this;simp;omega) ?_
   refine evd [] [] ?_
   refine Walk.store ty45 .none rfl rfl rfl rfl rfl rfl (by simp) rfl ?_
   refine dr ?_
   refine ar ?_
   refine Exists.intro ((pre++[y],rest)) ⟨(by have hz:=hg1;rw[←hz];simp),(by simp),sx ⟨⟨_,rfl,LeA.eqi ?_⟩,trivial⟩ ⟨?_,⟨zad ?_,trivial⟩⟩⟩
   focus (first|rfl|(simp;done)|(simp_all;done)|omega|(simp;omega))
   focus (first|rfl|(simp[getH];done))
   focus (first|rfl|(simp;done)|(simp_all;done)|omega|(simp;omega))
   try simp only[Q,Pat.cs_len] at h4p
   have hrest:rest=[]:=by
    rcases rest with _|⟨a,b⟩
    ·rfl
    ·exfalso;have hz:=congrArg List.length (hg1);simp only[List.length_append,List.length_cons,List.length_map] at hz;omega
   subst hrest
   refine Walk.store ty56 .none rfl rfl rfl rfl rfl rfl (by simp) rfl ?_
   refine tv ?_
   refine rn0 (.cons (.cellA ty56 rfl rfl rfl) .nil) (.agg (.cons (.eqd ?_) (.cons (.eqd ?_) (.cons (.eqd ?_) (.cons (.eqd ?_) (.cons (.eqd ?_) (.cons (.gld ?_) .nil)))))))
   rotate_left 6
   try simp only[Q,Pat.cs_len] at h2p
   refine Walk.alloc (id:=3003) tz56 rfl .none rfl rfl rfl rfl ?_
   refine Walk.store ty56 .none rfl rfl rfl rfl rfl rfl (by simp) rfl ?_
   refine tv ?_
   refine Walk.store ty45 .none rfl rfl rfl rfl rfl rfl (by simp) rfl ?_
   refine tv ?_
   refine CWp.tokB 3003 5 7 6 rfl rfl rfl rfl ?_
   refine CWp.loopX (ι:=List (Pat)×List (Pat)) hk (fun x=>[(4,.d (.i (x.1.length:Int)))]) [23,24,25,26,27,28,29,30,31,32,33,34,35,36,37,38,39,40] (fun x=>[(3003,some (.box [.d (.i p.op),.d (.i p.ctor),.d (.i p.n),.d (.i p.m),.d (.i p.var),.gl 7 ((x.1.map zaN).map Pat.cc)])),(7,some (.tok ((x.1.map zaN).map Pat.cc).length 6))]) (fun x=>x.1++x.2=p.kids) (fun x=>x.2.length) ([],p.kids) (by simp) ⟨⟨_,rfl,LeA.eqi ?_⟩,trivial⟩ ⟨?_,⟨zad ?_,trivial⟩⟩ (fun x=>rfl) (fun x hg1=>?_)
   focus (first|rfl|(simp;done)|(simp_all;done)|omega|(simp;omega))
   focus (first|rfl|(simp[getH];done))
   focus (first|rfl|(simp;done)|(simp_all;done)|omega|(simp;omega))
   obtain⟨pre,rest⟩:=x
   dsimp only at hg1 ⊢
   refine evc [] [] ?_
   refine sq (fun h5 h5p h5s=>?_) fun h5 h5p h5s=>?_
   try simp only[Q,Pat.cs_len] at h5p
   rcases rest with _|⟨y,rest⟩
   ·exfalso;simp_all
   refine Walk.idx sl45 .none rfl rfl rfl rfl (Pat.cs_at' hg1) rfl ?_
   refine evd [] [] ?_
   refine wc zk3 (zc4 n (p:=y) (by have:=Pats.size_mem (l:=p.kids) (v:=y) (by rw[←hg1];simp);omega) (Pats.ok_mem hok.2 y (by rw[←hg1];simp))) rfl rfl ?_
   refine Walk.sliceLit sl45 tz56 rfl (by decide) (ks:=[0]) (xs:=[_]) rfl rfl (by decide) (by decide) .none rfl rfl rfl rfl ?_
   refine Walk.append sl45 zz56 rfl .none rfl rfl rfl rfl (zaB rfl (by first|rfl|(simp;done)|(simp;omega))) (by intro x hx;first|(simp at hx;subst hx;rfl)|exact zbE _ x hx) (by have:=congrArg List.length hg1;simp at this;simp;omega) (by have:=congrArg List.length hg1;simp at this;simp;omega) ?_
   refine evd [] [] ?_
   refine Walk.store ty45 .none rfl rfl rfl rfl rfl rfl (by simp) rfl ?_
   refine dr ?_
   refine ar ?_
   refine Exists.intro ((pre++[y],rest)) ⟨(by have hz:=hg1;rw[←hz];simp),(by simp),sx ⟨⟨_,rfl,LeA.eqi ?_⟩,trivial⟩ ⟨?_,⟨zad ?_,trivial⟩⟩⟩
   focus (first|rfl|(simp;done)|(simp_all;done)|omega|(simp;omega))
   focus (first|rfl|(simp[getH];done))
   focus (first|rfl|(simp;done)|(simp_all;done)|omega|(simp;omega))
   try simp only[Q,Pat.cs_len] at h5p
   have hrest:rest=[]:=by
    rcases rest with _|⟨a,b⟩
    ·rfl
    ·exfalso;have hz:=congrArg List.length (hg1);simp only[List.length_append,List.length_cons,List.length_map] at hz;omega
   subst hrest
   refine Walk.store ty56 .none rfl rfl rfl rfl rfl rfl (by simp) rfl ?_
   refine tv ?_
   refine rn0 (.cons (.cellA ty56 rfl rfl rfl) .nil) (.agg (.cons (.eqd ?_) (.cons (.eqd ?_) (.cons (.eqd ?_) (.cons (.eqd ?_) (.cons (.eqd ?_) (.cons (.gld ?_) .nil)))))))
   rotate_left 6
   all_goals (first|rfl|(rw[List.append_nil] at hg1;rw[←hg1,Pat.cs_cd];done)|(rw[List.append_nil] at hg1;subst hg1;rw[←Pat.cs_cd];all_goals rfl))
theorem zkN {ls:List (List Pat)} (hl:ls.length≤1000000000000) (hls:∀l∈ls,l.length≤1000000000000):FnD Tryz.prog 292 [.d (zh9 ls)] [] (.d (zh9 (tupQ 400 ls))) []:=by
 refine bd Tryz.f292 62 [] [] fun w0 F0 own kept hk=>?_
 refine Walk.sliceEmpty sl45 .none rfl ?_
 refine Walk.sliceLit zdR tz45 rfl (by decide) (ks:=[0]) (xs:=[_]) rfl rfl (by decide) (by decide) .none rfl rfl rfl rfl ?_
 refine ev ?_
 refine CWp.loopX (ι:=List (List Pat)×List (List Pat)) hk (fun x=>[(4,.d (.i (x.1.length:Int))),(3,.d (.sl ((tupQ 400 x.1).map zg9)))]) [5,6,7,10,11,12,13,14,15,16,17,18,19,20,21,22,23,24,25,26,27,28,29,30,31,32,33,34,35,36,37,38,39,40,41,42,43,44,45,46,47,48,49,50,51,52,53,54,55,56,57,58,59,60] (fun x=>[]) (fun x=>x.1++x.2=ls) (fun x=>x.2.length) ([],ls) (by simp) ⟨⟨_,rfl,LeA.eqi ?_⟩,⟨⟨_,rfl, ?_⟩,trivial⟩⟩ trivial (fun x=>rfl) (fun x hg1=>?_)
 focus (first|rfl|(simp;done)|(rw[zcr,zc7,zc5 (by omega)]))
 focus (first|exact LeA.refl _|((first|refine LeA.gld ?_|refine LeA.nild ?_);first|rfl|(simp;done)|(rw[zcr,zc7,zc5 (by omega)]))|(refine LeA.eqsl ?_;first|rfl|(simp;done)|(rw[zcr,zc7,zc5 (by omega)]))|(refine LeA.eqd ?_;first|rfl|(simp;done)|(rw[zcr,zc7,zc5 (by omega)])))
 obtain⟨pre,rest⟩:=x
 dsimp only at hg1 ⊢
 refine evc [] [] ?_
 refine sq (fun h1 h1p h1s=>?_) fun h1 h1p h1s=>?_
 try simp only[Q,Pat.cs_len,Int.ofNat_lt,Int.ofNat_le] at h1p
 rcases rest with _|⟨l,rest⟩
 ·exfalso;simp_all
 have hll:=hls l (by rw[←hg1];simp);have htl:=zo8 400 pre
 refine Walk.sliceEmptyG 3 zdR .none rfl rfl ?_
 refine ev ?_
 refine CWp.loopX (ι:=Nat) hk (fun k=>[(6,.d (.i (k:Int))),(5,.gl 3 (((((tupQ 400 pre).take k).flatMap (zjV l)).take (400+1)).map zg9))]) [7,17,18,19,20,21,22,23,24,25,26,27,28,29,30,31,32,33,34,35,36,37,38,39,40,41,42,43,44,45,46,47,48,49,50,51,52,53,54,55,56,57,58,59] (fun k=>[(3,some (.tok ((((((tupQ 400 pre).take k).flatMap (zjV l)).take (400+1)).map zg9)).length 1))]) (fun k=>k≤(tupQ 400 pre).length) (fun k=>(tupQ 400 pre).length-k) 0 (by simp) ⟨⟨_,rfl,LeA.eqi ?_⟩,⟨⟨_,rfl,LeA.glg ?_⟩,trivial⟩⟩ ⟨zad ?_,trivial⟩ (fun x=>rfl) (fun k hg2=>?_)
 iterate 3 focus (first|rfl|(simp;done)|(rw[zmq (by omega),zkP (by omega)])|(simp;omega))
 refine evc [] [] ?_
 refine sq (fun h2 h2p h2s=>?_) fun h2 h2p h2s=>?_
 try simp only[Q,Pat.cs_len,Int.ofNat_lt,Int.ofNat_le] at h2p
 refine sq (fun h3 h3p h3s=>?_) fun h3 h3p h3s=>?_
 try simp only[Q,Pat.cs_len,Int.ofNat_lt,Int.ofNat_le] at h3p
 refine CWp.loopX (ι:=Nat) hk (fun j=>[(7,.d (.i (j:Int))),(5,.gl 3 (((((tupQ 400 pre).take k).flatMap (zjV l)++(l.take j).map (fun y=>nth (tupQ 400 pre) k++[y])).take (400+1)).map zg9))]) [28,29,30,31,32,33,34,35,36,37,38,39,40,41,42,43,44,45,46,47,48,49,50,51,52,53,54,55,56,57,58,59] (fun j=>[(3,some (.tok ((((((tupQ 400 pre).take k).flatMap (zjV l)++(l.take j).map (fun y=>nth (tupQ 400 pre) k++[y])).take (400+1)).map zg9)).length 1))]) (fun j=>j≤l.length) (fun j=>l.length-j) 0 (by simp) ⟨⟨_,rfl,LeA.eqi ?_⟩,⟨⟨_,rfl,LeA.glg ?_⟩,trivial⟩⟩ ⟨zad ?_,trivial⟩ (fun x=>rfl) (fun j hg3=>?_)
 iterate 3 focus (first|rfl|(simp;done)|(rw[zpT (by omega) (by omega),List.map_append];simp[Pat.cs_cd];done)|(simp;omega))
 have hol:=zo9 400 (zal (l:=tupQ 400 pre) (i:=k) (by omega))
 refine evc [] [] ?_
 refine Walk.idx zdR .none rfl rfl rfl rfl (by first|exact zaV hg1|exact zay (by omega)) rfl ?_
 refine ev ?_
 refine sq (fun h4 h4p h4s=>?_) fun h4 h4p h4s=>?_
 try simp only[Q,Pat.cs_len,Int.ofNat_lt,Int.ofNat_le] at h4p
 refine sq (fun h5 h5p h5s=>?_) fun h5 h5p h5s=>?_
 try simp only[Q,Pat.cs_len,Int.ofNat_lt,Int.ofNat_le] at h5p
 refine Walk.sliceEmptyG 5 sl45 .none rfl rfl ?_
 refine evd [] [] ?_
 refine Walk.idx zdR .none rfl rfl rfl rfl (by first|exact zaV hg1|exact zay (by omega)) rfl ?_
 refine evd [] [] ?_
 refine Walk.append sl45 zz56 rfl .none rfl rfl rfl rfl (zaB rfl (by first|rfl|(simp;done)|(simp;omega))) (by intro z hz;first|(rw[Pat.cs_cd] at hz;obtain⟨_,_,rfl⟩:=List.mem_map.1 hz;rfl)|(simp at hz;rw[hz];rfl)) (by first|(simp only[List.length_map,List.length_append,List.length_cons,List.length_nil,Pat.cs_len] at *;omega)) (by first|(simp only[List.length_map,List.length_append,List.length_cons,List.length_nil,Pat.cs_len] at *;omega)) ?_
 refine evd [] [] ?_
 refine Walk.idx zdR .none rfl rfl rfl rfl (by first|exact zaV hg1|exact zay (by omega)) rfl ?_
 refine evd [] [] ?_
 refine Walk.idx sl45 .none rfl rfl rfl rfl (zaI (by omega)) rfl ?_
 refine evd [] [] ?_
 refine Walk.sliceLit sl45 tz56 rfl (by decide) (ks:=[0]) (xs:=[_]) rfl rfl (by decide) (by decide) .none rfl rfl rfl rfl ?_
 refine Walk.append sl45 zz56 rfl .none rfl rfl rfl rfl (zaB rfl (by first|rfl|(simp;done)|(simp;omega))) (by intro z hz;first|(rw[Pat.cs_cd] at hz;obtain⟨_,_,rfl⟩:=List.mem_map.1 hz;rfl)|(simp at hz;rw[hz];rfl)) (by first|(simp only[List.length_map,List.length_append,List.length_cons,List.length_nil,Pat.cs_len] at *;omega)) (by first|(simp only[List.length_map,List.length_append,List.length_cons,List.length_nil,Pat.cs_len] at *;omega)) ?_
 refine Walk.sliceLit zdR tz45 rfl (by decide) (ks:=[0]) (xs:=[_]) rfl rfl (by decide) (by decide) .none rfl rfl rfl rfl ?_
 refine Walk.append zdR zz45 rfl .none rfl rfl rfl rfl (zaB rfl (by first|rfl|(simp;done)|(simp;omega))) (by intro z hz;first|(rw[Pat.cs_cd] at hz;obtain⟨_,_,rfl⟩:=List.mem_map.1 hz;rfl)|(simp at hz;rw[hz];rfl)) (by first|(simp only[List.length_map,List.length_append,List.length_cons,List.length_nil,Pat.cs_len] at *;omega)) (by first|(simp only[List.length_map,List.length_append,List.length_cons,List.length_nil,Pat.cs_len] at *;omega)) ?_
 refine evd [] [] ?_
 refine dr ?_
 refine ar ?_
 refine Exists.intro (j+1) ⟨?_, ?_,sx ⟨⟨_,rfl,LeA.eqi ?_⟩,⟨⟨_,rfl,LeA.glg ?_⟩,trivial⟩⟩ ⟨zad ?_,trivial⟩⟩
 iterate 2 focus (first|omega|(simp_all;done)|(simp_all;omega))
 iterate 3 focus (first|rfl|(simp;done)|(rw[zpT (by omega) (by omega),List.map_append];simp[Pat.cs_cd];done)|(simp;omega))
 try simp only[Q,Pat.cs_len,Int.ofNat_lt,Int.ofNat_le] at h5p
 refine ar ?_
 refine Exists.intro (k+1) ⟨?_, ?_,sx ⟨⟨_,rfl,LeA.eqi ?_⟩,⟨⟨_,rfl,LeA.glg ?_⟩,trivial⟩⟩ ⟨zad ?_,trivial⟩⟩
 iterate 2 focus (first|omega|(simp_all;done)|(simp_all;omega))
 iterate 3 focus (first|rfl|(simp;done)|(rw[zmq (by omega),zkP (by omega)])|(simp;omega))
 try simp only[Q,Pat.cs_len,Int.ofNat_lt,Int.ofNat_le] at h4p
 refine sqF ?_
 refine ar ?_
 refine Exists.intro (k+1) ⟨?_, ?_,sx ⟨⟨_,rfl,LeA.eqi ?_⟩,⟨⟨_,rfl,LeA.glg ?_⟩,trivial⟩⟩ ⟨zad ?_,trivial⟩⟩
 iterate 2 focus (first|omega|(simp_all;done)|(simp_all;omega))
 iterate 3 focus (first|rfl|(simp;done)|(rw[zmq (by omega),zkP (by omega)])|(simp;omega))
 try simp only[Q,Pat.cs_len,Int.ofNat_lt,Int.ofNat_le] at h3p
 refine ar ?_
 refine Exists.intro ((pre++[l],rest)) ⟨(by have hz:=hg1;rw[←hz];simp),(by simp),sx ⟨⟨_,rfl,LeA.eqi ?_⟩,⟨⟨_,rfl, ?_⟩,trivial⟩⟩ trivial⟩
 focus (first|rfl|(simp;done)|(rw[zcr,zc7,zc5 (by omega)]))
 focus (first|exact LeA.refl _|((first|refine LeA.gld ?_|refine LeA.nild ?_);first|rfl|(simp;done)|(rw[zcr,zc7,zc5 (by omega)]))|(refine LeA.eqsl ?_;first|rfl|(simp;done)|(rw[zcr,zc7,zc5 (by omega)]))|(refine LeA.eqd ?_;first|rfl|(simp;done)|(rw[zcr,zc7,zc5 (by omega)])))
 try simp only[Q,Pat.cs_len,Int.ofNat_lt,Int.ofNat_le] at h2p
 refine sqF ?_
 refine ar ?_
 refine Exists.intro ((pre++[l],rest)) ⟨(by have hz:=hg1;rw[←hz];simp),(by simp),sx ⟨⟨_,rfl,LeA.eqi ?_⟩,⟨⟨_,rfl, ?_⟩,trivial⟩⟩ trivial⟩
 focus (first|rfl|(simp;done)|(rw[zcr,zc7,zc5 (by omega)]))
 focus (first|exact LeA.refl _|((first|refine LeA.gld ?_|refine LeA.nild ?_);first|rfl|(simp;done)|(rw[zcr,zc7,zc5 (by omega)]))|(refine LeA.eqsl ?_;first|rfl|(simp;done)|(rw[zcr,zc7,zc5 (by omega)]))|(refine LeA.eqd ?_;first|rfl|(simp;done)|(rw[zcr,zc7,zc5 (by omega)])))
 try simp only[Q,Pat.cs_len,Int.ofNat_lt,Int.ofNat_le] at h1p
 have hrest:rest=[]:=by
  rcases rest with _|⟨a,b⟩
  ·rfl
  ·exfalso;have hz:=congrArg List.length (hg1);simp only[List.length_append,List.length_cons,List.length_map] at hz;omega
 subst hrest
 refine rn0 (r1 rfl) (.eqd ?_)
 rotate_left
 all_goals ((rw[List.append_nil] at hg1);subst hg1;rfl)
theorem zdS:∀(n:Nat){p:Pat},binP n p=true→p.ok→FnD Tryz.prog 248 [.agg [.d (.i p.op),.d (.i p.ctor),.d (.i p.n),.d (.i p.m),.d (.i p.var),.d (zaf p.kids)]] [] (.gv 9 (Pat.cs (zbb p))) [(9,some (.tok (Pat.cs (zbb p)).length 6))]
 |0,p,h,_=>by simp[binP] at h
 |n+1,p,h,hok=>by
  have hok':=(Pat.ok_iff p).1 hok
  have hok1:=hok'.1
  by_cases h5:p.op=5
  ·have hl:=zjE h h5
   have e5:=zrX h5 hl
   have l0:=zgv (nth p.kids 0)
   have l1:=zgv (nth p.kids 1)
   have c0:=zdS n (zea h (i:=0) (by omega)) (Pats.ok_mem hok'.2 _ (zal (by omega)))
   have c1:=FnD.gvD (zdS n (zea h (i:=1) (by omega)) (Pats.ok_mem hok'.2 _ (zal (by omega))))
   rw[e5]
   generalize zbb (nth p.kids 0)=A at *
   generalize zbb (nth p.kids 1)=C at *
   by_cases hlen:(A++C).length≤401
   ·rw[List.take_of_length_le hlen]
    rw[List.length_append] at hlen
    refine bd Tryz.f248 67 [25] [] fun w0 F0 own kept hk=>?_
    refine Walk.box (id:=3001) .none rfl rfl rfl rfl rfl rfl rfl ?_
    refine evs [25] [] ?_
    refine sq (fun h1 h1p h1s=>?_) fun h1 h1p h1s=>?_
    try simp only[Q,Pat.cs_len,List.length_append] at h1p
    refine Walk.idx (i:=0) sl45 .none rfl rfl rfl rfl (zaI (by omega)) rfl ?_
    refine evd [25] [] ?_
    refine Walk.call (cr:=[9]) zhJ (c0) rfl .none rfl rfl (LeL.refl _) trivial rfl rfl rfl ?_
    refine evd [25] [] ?_
    refine Walk.idx (i:=1) sl45 .none rfl rfl rfl rfl (zaI (by omega)) rfl ?_
    refine evd [25] [] ?_
    refine wc zhJ (c1) rfl rfl ?_
    refine Walk.appendV sl45 zz56 .none rfl rfl rfl rfl (zaB rfl (by first|rfl|(simp;done)|(simp;omega))) (by intro x hx;exact zbj _ x hx) (by simp[Pat.cs_len];omega) (by simp[Pat.cs_len];omega) ?_
    refine evd [25] [] ?_
    refine dr ?_
    refine Walk.lenV sl45 .none rfl rfl ?_
    refine evs [25] [] ?_
    refine sq (fun h2 h2p h2s=>?_) fun h2 h2p h2s=>?_
    try simp only[Q,Pat.cs_len,List.length_append] at h2p
    exfalso;omega
    try simp only[Q,Pat.cs_len,List.length_append] at h2p
    refine rn [(9,some (.tok (Pat.cs (A++C)).length 6))] (r1 rfl) (.gvg ?_) ⟨rfl,rfl⟩ (SubH.get ⟨?_,trivial⟩) (zbc rfl)
    rotate_left 2
    try simp only[Q,Pat.cs_len,List.length_append] at h1p
    exfalso;omega
    all_goals (first|((first|rfl|(simp[Pat.cs_cd];done));done)|(first|rfl|(simp[Pat.cs_cd];rfl)))
   ·have c8:=FnD.gvRen 8 c0
    rw[List.length_append] at hlen
    refine bd Tryz.f248 67 [25] [] fun w0 F0 own kept hk=>?_
    refine Walk.box (id:=3001) .none rfl rfl rfl rfl rfl rfl rfl ?_
    refine evs [25] [] ?_
    refine sq (fun h1 h1p h1s=>?_) fun h1 h1p h1s=>?_
    try simp only[Q,Pat.cs_len,List.length_append] at h1p
    refine Walk.idx (i:=0) sl45 .none rfl rfl rfl rfl (zaI (by omega)) rfl ?_
    refine evd [25] [] ?_
    refine Walk.call (cr:=[8]) zhJ (c8) rfl .none rfl rfl (LeL.refl _) trivial rfl rfl rfl ?_
    refine evd [25] [] ?_
    refine Walk.idx (i:=1) sl45 .none rfl rfl rfl rfl (zaI (by omega)) rfl ?_
    refine evd [25] [] ?_
    refine wc zhJ (c1) rfl rfl ?_
    refine Walk.appendV sl45 zz56 .none rfl rfl rfl rfl (zaB rfl (by first|rfl|(simp;done)|(simp;omega))) (by intro x hx;exact zbj _ x hx) (by simp[Pat.cs_len];omega) (by simp[Pat.cs_len];omega) ?_
    refine evd [25] [] ?_
    refine dr ?_
    refine Walk.lenV sl45 .none rfl rfl ?_
    refine evs [25] [] ?_
    refine sq (fun h2 h2p h2s=>?_) fun h2 h2p h2s=>?_
    try simp only[Q,Pat.cs_len,List.length_append] at h2p
    refine Walk.cutV_h 9 (b:=401) sl45 .none rfl rfl (zaB rfl (by first|rfl|(simp;done)|(simp;omega))) rfl rfl (by simp[Pat.cs_len];omega) (by simp[Pat.cs_len];omega) rfl ?_
    refine evs [25] [] ?_
    refine rn [(9,some (.tok (Pat.cs ((A++C).take 401)).length 6))] (r1 rfl) (.gvg ?_) ⟨rfl,rfl⟩ (SubH.get ⟨?_,trivial⟩) (zbc rfl)
    rotate_left 2
    try simp only[Q,Pat.cs_len,List.length_append] at h2p
    exfalso;omega
    try simp only[Q,Pat.cs_len,List.length_append] at h1p
    exfalso;omega
    all_goals (first|((first|rfl|(simp[Pat.cs_cd];done));done)|(first|rfl|(show some (Res.tok _ _)=some (Res.tok _ _);simp[Pat.cs_len];omega)))
  ·have hts:=zo8 400 (p.kids.map zbb)
   have htm:=fun(i:Nat) (hi:i<(tupQ 400 (p.kids.map zbb)).length)=>zo9 400 (zal hi)
   have ht3:=zkN (ls:=p.kids.map zbb) (by rw[List.length_map];omega) (fun l hl=>by obtain⟨x,_,rfl⟩:=List.mem_map.1 hl;have:=zgv x;omega)
   have hcal:=fun(i:Nat) (hi:i<p.kids.length)=>FnD.gvD (zdS n (zea h hi) (Pats.ok_mem hok'.2 _ (zal hi)))
   have hpl:=fun(y:Pat) (pre rest:List Pat) (e:pre++y::rest=p.kids)=>(show pre.length<p.kids.length∧nth p.kids pre.length=y from⟨by have:=congrArg List.length e;simp at this;omega,zt7 e⟩)
   have hcal2:=fun(y:Pat) (pre rest:List Pat) (e:pre++y::rest=p.kids)=>show FnD Tryz.prog 248 [.agg [.d (.i y.op),.d (.i y.ctor),.d (.i y.n),.d (.i y.m),.d (.i y.var),.d (zaf y.kids)]] [] (.d (.sl (Pat.cs (zbb y)))) [] from by
    have hq:=hcal pre.length (hpl y pre rest e).1
    rw[(hpl y pre rest e).2] at hq
    exact hq
   have ht3':=fun(pre:List Pat) (e:pre++[]=p.kids)=>show FnD Tryz.prog 292 [.d (zh9 (pre.map zbb))] [] (.d (zh9 (tupQ 400 (p.kids.map zbb)))) [] from by
    rw[List.append_nil] at e
    rw[e];exact ht3
   rw[zrY h5]
   refine bd Tryz.f248 67 [] [] fun w0 F0 own kept hk=>?_
   refine Walk.box (id:=3001) .none rfl rfl rfl rfl rfl rfl rfl ?_
   refine ev ?_
   refine sq (fun h1 h1p h1s=>?_) fun h1 h1p h1s=>?_
   try simp only[Q,Pat.cs_len] at h1p
   exfalso;omega
   try simp only[Q,Pat.cs_len] at h1p
   refine Walk.sliceEmptyG 4 zdR .none rfl rfl ?_
   refine ev ?_
   refine CWp.loopX (ι:=List (Pat)×List (Pat)) hk (fun x=>[(5,.d (.i (x.1.length:Int))),(4,.gl 4 ((x.1.map zbb).map zg9))]) [31,32,33,34,35,36,37,38,39,40,41,42,43,44,45,46] (fun x=>[(4,some (.tok (((x.1.map zbb).map zg9)).length 1))]) (fun x=>x.1++x.2=p.kids) (fun x=>x.2.length) ([],p.kids) (by simp) ⟨⟨_,rfl,LeA.eqi ?_⟩,⟨⟨_,rfl,LeA.glg ?_⟩,trivial⟩⟩ ⟨zad ?_,trivial⟩ (fun x=>rfl) (fun x hg1=>?_)
   iterate 3 focus (first|rfl|(simp;done)|(simp;omega))
   obtain⟨pre,rest⟩:=x
   dsimp only at hg1 ⊢
   refine evc [] [] ?_
   refine sq (fun h2 h2p h2s=>?_) fun h2 h2p h2s=>?_
   try simp only[Q,Pat.cs_len] at h2p
   rcases rest with _|⟨y,rest⟩
   ·exfalso;simp_all
   refine Walk.idx sl45 .none rfl rfl rfl rfl (Pat.cs_at' hg1) rfl ?_
   refine ev ?_
   refine wc zhJ (hcal2 y pre rest hg1) rfl rfl ?_
   refine Walk.sliceLit zdR tz45 rfl (by decide) (ks:=[0]) (xs:=[_]) rfl rfl (by decide) (by decide) .none rfl rfl rfl rfl ?_
   refine Walk.append zdR zz45 rfl .none rfl rfl rfl rfl (zaB rfl (by first|rfl|(simp;done)|(simp;omega))) (by intro x hx;first|(simp at hx;subst hx;rfl)|exact zbE _ x hx) (by first|(have:=congrArg List.length hg1;simp at this;simp;omega)|(simp;omega)) (by first|(have:=congrArg List.length hg1;simp at this;simp;omega)|(simp;omega)) ?_
   refine ev ?_
   refine ar ?_
   refine Exists.intro ((pre++[y],rest)) ⟨(by have hz:=hg1;rw[←hz];simp),(by simp),sx ⟨⟨_,rfl,LeA.eqi ?_⟩,⟨⟨_,rfl,LeA.glg ?_⟩,trivial⟩⟩ ⟨zad ?_,trivial⟩⟩
   iterate 3 focus (first|rfl|(simp;done)|(simp;omega))
   try simp only[Q,Pat.cs_len] at h2p
   have hrest:rest=[]:=by
    rcases rest with _|⟨a,b⟩
    ·rfl
    ·exfalso;have hz:=congrArg List.length (hg1);simp only[List.length_append,List.length_cons,List.length_map] at hz;omega
   subst hrest
   refine Walk.call (cr:=[]) ztS (ht3' pre hg1) rfl .none rfl rfl (.cons (.gl _ _) .nil) trivial rfl rfl rfl ?_
   refine ev ?_
   refine Walk.sliceEmptyGV 9 sl45 .none rfl rfl ?_
   refine ev ?_
   refine CWp.loopX (ι:=Nat) hk (fun k=>[(8,.d (.i (k:Int))),(7,.gv 9 ((((tupQ 400 (p.kids.map zbb)).take k).map fun l=>Pat.mk p.op p.ctor p.n p.m p.var l).map Pat.cc))]) [9,50,51,52,53,54,55,56,57,58,59,60,61,62,63,64,65] (fun k=>[(9,some (.tok (((((tupQ 400 (p.kids.map zbb)).take k).map fun l=>Pat.mk p.op p.ctor p.n p.m p.var l).map Pat.cc)).length 6))]) (fun k=>k≤(tupQ 400 (p.kids.map zbb)).length) (fun k=>(tupQ 400 (p.kids.map zbb)).length-k) 0 (by omega) ⟨⟨_,rfl,LeA.eqi ?_⟩,⟨⟨_,rfl,LeA.gvg ?_⟩,trivial⟩⟩ ⟨zad ?_,trivial⟩ (fun x=>rfl) (fun k hg2=>?_)
   iterate 3 focus (first|rfl|(simp;done)|(rw[List.take_succ_eq_append_getElem (by omega),←zbk (by omega)];simp[zhk,zfv,mk_n,mk_m,zgP,zdq];done)|omega|(simp;omega))
   refine evc [] [] ?_
   refine sq (fun h3 h3p h3s=>?_) fun h3 h3p h3s=>?_
   try simp only[Q,Pat.cs_len] at h3p
   refine Walk.alloc (id:=3009) tz56 rfl .none rfl rfl rfl rfl ?_
   refine Walk.store ty56 .none rfl rfl rfl rfl rfl rfl (by simp) rfl ?_
   refine tv ?_
   refine Walk.idx zdR .none rfl rfl rfl rfl (zay (by omega)) rfl ?_
   refine ev ?_
   refine Walk.store ty45 .none rfl rfl rfl rfl rfl rfl (by simp) rfl ?_
   refine tv ?_
   refine Walk.sliceLit sl45 tz56 rfl (by decide) (ks:=[0]) (xs:=[_]) rfl rfl (by decide) (by decide) .none rfl rfl rfl rfl ?_
   refine Walk.appendV sl45 zz56 .none rfl rfl rfl rfl (zaB rfl (by first|rfl|(simp;done)|(simp;omega))) (by intro x hx;first|(simp at hx;subst hx;rfl)|exact zbE _ x hx) (by first|(have:=congrArg List.length hg1;simp at this;simp;omega)|(simp;omega)) (by first|(have:=congrArg List.length hg1;simp at this;simp;omega)|(simp;omega)) ?_
   refine ev ?_
   refine ar ?_
   refine Exists.intro (k+1) ⟨(by omega),(by omega),sx ⟨⟨_,rfl,LeA.eqi ?_⟩,⟨⟨_,rfl,LeA.gvg ?_⟩,trivial⟩⟩ ⟨zad ?_,trivial⟩⟩
   iterate 3 focus (first|rfl|(simp;done)|(rw[List.take_succ_eq_append_getElem (by omega),←zbk (by omega)];simp[zhk,zfv,mk_n,mk_m,zgP,zdq];done)|omega|(simp;omega))
   try simp only[Q,Pat.cs_len] at h3p
   refine rn [(9,some (.tok (Pat.cs ((tupQ 400 (p.kids.map zbb)).map fun l=>Pat.mk p.op p.ctor p.n p.m p.var l)).length 6))] (r1 rfl) (.gvg ?_) ⟨rfl,rfl⟩ (SubH.get ⟨?_,trivial⟩) (zbc rfl)
   rotate_left 2
   all_goals (first|((first|rfl|(obtain rfl:k=(tupQ 400 (p.kids.map zbb)).length:=(by omega);rw[List.take_length,show Pat.cs ((tupQ 400 (p.kids.map zbb)).map fun l=>Pat.mk p.op p.ctor p.n p.m p.var l)=((tupQ 400 (p.kids.map zbb)).map fun l=>Pat.mk p.op p.ctor p.n p.m p.var l).map Pat.cc from Pat.cs_cd _];done));done)|(first|rfl|(obtain rfl:k=(tupQ 400 (p.kids.map zbb)).length:=(by omega);rw[List.take_length];simp[Pat.cs_cd];rfl)|(obtain rfl:k=(tupQ 400 (p.kids.map zbb)).length:=(by omega);rw[List.take_length,show Pat.cs ((tupQ 400 (p.kids.map zbb)).map fun l=>Pat.mk p.op p.ctor p.n p.m p.var l)=((tupQ 400 (p.kids.map zbb)).map fun l=>Pat.mk p.op p.ctor p.n p.m p.var l).map Pat.cc from Pat.cs_cd _];rfl)))
theorem zl5 {w:List Data}{n:Nat}{t:Ty}{p:Pat} (h:zaw w n t p=true) (hok:p.ok):FnD Tryz.prog 196 [.agg [.d (.i p.op),.d (.i p.ctor),.d (.i p.n),.d (.i p.m),.d (.i p.var),.d (zaf p.kids)]] [] (.d (zaf (zbb (zaN p)))) []:=by
 have hbp:=zc4 _ (Nat.le_refl _) hok
 have hsp:=FnD.gvD (zdS n (zhq n h) (zjD p hok))
 generalize zaN p=b at *
 refine bd Tryz.f196 6 [] [] fun w0 F0 own kept hk=>?_
 refine Walk.box (id:=3001) .none rfl rfl rfl rfl rfl rfl rfl ?_
 refine ev ?_
 refine wc zk3 (hbp) rfl rfl ?_
 refine wc zhJ (hsp) rfl rfl ?_
 refine ev ?_
 refine rn0 (r1 rfl) (.eqd ?_)
 rotate_left
 all_goals (rfl)
def zt2 (s:Str):Prop:=2<s.length∧nth s (s.length-2)=58
instance (s:Str):Decidable (zt2 s):=inferInstanceAs (Decidable (_∧_))
structure TB (w:List Data):Prop where
 len:w.length≤4
 dn:∀d∈w,d.name.length≤1∧d.ctors.length≤4
 cn:∀d∈w,∀c∈d.ctors,c.name.length≤5∧c.args.length≤3∧0≤c.index∧c.index≤3
 ar:∀d∈w,∀c∈d.ctors,∀t∈c.args,(t.data = -1∨(0≤t.data∧t.data.toNat<w.length))∧ -1≤t.index∧t.index≤3
theorem zeD:FnD Tryz.prog 49 [] [] (.agg [.d (.i 1),.d (.i 0),.d (.i 0),.d (.i 0),.d (.i 0),.d (.sl [])]) []:=by
 refine bd Tryz.f49 2 [] [] fun w0 F0 own kept hk=>?_
 refine Walk.alloc (id:=3000) tz56 rfl .none rfl rfl rfl rfl ?_
 refine tv ?_
 refine Walk.build st56 (ks:=[0]) (xs:=[_]) rfl rfl .none rfl rfl rfl ?_
 refine Walk.store ty56 .none rfl rfl rfl rfl rfl rfl (by simp) rfl ?_
 refine tv ?_
 focus (refine rn0 (.cons (.cellA ty56 rfl rfl rfl) .nil) (.agg (.cons (.eqd ?_) (.cons (.eqd ?_) (.cons (.eqd ?_) (.cons (.eqd ?_) (.cons (.eqd ?_) (.cons (.nild ?_) .nil)))))));all_goals (first|rfl|(simp[];done)|(simp_all;done)|(simp_all;omega)|omega))
theorem zgU {a b:Pat} (hn:0≤b.n∧b.n≤9) (hm:0≤b.m∧b.m≤9):FnD Tryz.prog 251 [.agg [.d (.i (a).op),.d (.i (a).ctor),.d (.i (a).n),.d (.i (a).m),.d (.i (a).var),.d (zaf (a).kids)],.agg [.d (.i (b).op),.d (.i (b).ctor),.d (.i (b).n),.d (.i (b).m),.d (.i (b).var),.d (zaf (b).kids)]] [] (.d (zaf (zcg a.n (minQ a.m (b.n-1))++zcg (maxQ a.n (b.m+1)) a.m))) []:=by
 refine bd Tryz.f251 58 [] [] fun w0 F0 own kept hk=>?_
 refine Walk.box (id:=3002) .none rfl rfl rfl rfl rfl rfl rfl ?_
 refine Walk.box (id:=3003) .none rfl rfl rfl rfl rfl rfl rfl ?_
 refine ev ?_
 refine Walk.sliceEmptyG 9 sl45 .none rfl rfl ?_
 refine ev ?_
 refine Walk.build st56 (ks:=[0,2,3]) (xs:=[_,_,_]) rfl rfl .none rfl rfl rfl ?_
 refine Walk.alloc (id:=3006) tz56 rfl .none rfl rfl rfl rfl ?_
 refine Walk.store ty56 .none rfl rfl rfl rfl rfl rfl (by simp) rfl ?_
 refine tv ?_
 refine ar ?_
 refine sq (fun h1 h1p h1s=>?_) fun h1 h1p h1s=>?_
 try simp only[Q] at h1p
 refine ar ?_
 refine Walk.store ty3 .none rfl rfl rfl rfl rfl rfl (by simp) rfl ?_
 refine tv ?_
 refine sq (fun h2 h2p h2s=>?_) fun h2 h2p h2s=>?_
 try simp only[Q] at h2p
 refine Walk.sliceLit sl45 tz56 rfl (by decide) (ks:=[0]) (xs:=[_]) rfl rfl (by decide) (by decide) .none rfl rfl rfl rfl ?_
 refine Walk.append sl45 zz56 rfl .none rfl rfl rfl rfl (zaB rfl (by first|rfl|(simp;done)|(simp;omega))) (by intro x hx;simp at hx;subst hx;rfl) (by simp) (by simp) ?_
 refine ev ?_
 refine Walk.build st56 (ks:=[0,2,3]) (xs:=[_,_,_]) rfl rfl .none rfl rfl rfl ?_
 refine Walk.alloc (id:=3007) tz56 rfl .none rfl rfl rfl rfl ?_
 refine Walk.store ty56 .none rfl rfl rfl rfl rfl rfl (by simp) rfl ?_
 refine tv ?_
 refine ar ?_
 refine sq (fun h3 h3p h3s=>?_) fun h3 h3p h3s=>?_
 try simp only[Q] at h3p
 refine ar ?_
 refine Walk.store ty3 .none rfl rfl rfl rfl rfl rfl (by simp) rfl ?_
 refine tv ?_
 refine sq (fun h4 h4p h4s=>?_) fun h4 h4p h4s=>?_
 try simp only[Q] at h4p
 refine Walk.sliceLit sl45 tz56 rfl (by decide) (ks:=[0]) (xs:=[_]) rfl rfl (by decide) (by decide) .none rfl rfl rfl rfl ?_
 refine Walk.append sl45 zz56 rfl .none rfl rfl rfl rfl (zaB rfl (by first|rfl|(simp;done)|(simp;omega))) (by intro x hx;simp at hx;subst hx;rfl) (by simp) (by simp) ?_
 refine ev ?_
 refine rn0 (r1 rfl) (.gld ?_)
 rotate_left
 try simp only[Q] at h4p
 refine rn0 (r1 rfl) (.gld ?_)
 rotate_left
 try simp only[Q] at h3p
 refine sq (fun h5 h5p h5s=>?_) fun h5 h5p h5s=>?_
 try simp only[Q] at h5p
 refine Walk.sliceLit sl45 tz56 rfl (by decide) (ks:=[0]) (xs:=[_]) rfl rfl (by decide) (by decide) .none rfl rfl rfl rfl ?_
 refine Walk.append sl45 zz56 rfl .none rfl rfl rfl rfl (zaB rfl (by first|rfl|(simp;done)|(simp;omega))) (by intro x hx;simp at hx;subst hx;rfl) (by simp) (by simp) ?_
 refine ev ?_
 refine rn0 (r1 rfl) (.gld ?_)
 rotate_left
 try simp only[Q] at h5p
 refine rn0 (r1 rfl) (.gld ?_)
 rotate_left
 try simp only[Q] at h2p
 refine Walk.build st56 (ks:=[0,2,3]) (xs:=[_,_,_]) rfl rfl .none rfl rfl rfl ?_
 refine Walk.alloc (id:=3007) tz56 rfl .none rfl rfl rfl rfl ?_
 refine Walk.store ty56 .none rfl rfl rfl rfl rfl rfl (by simp) rfl ?_
 refine tv ?_
 refine ar ?_
 refine sq (fun h6 h6p h6s=>?_) fun h6 h6p h6s=>?_
 try simp only[Q] at h6p
 refine ar ?_
 refine Walk.store ty3 .none rfl rfl rfl rfl rfl rfl (by simp) rfl ?_
 refine tv ?_
 refine sq (fun h7 h7p h7s=>?_) fun h7 h7p h7s=>?_
 try simp only[Q] at h7p
 refine Walk.sliceLit sl45 tz56 rfl (by decide) (ks:=[0]) (xs:=[_]) rfl rfl (by decide) (by decide) .none rfl rfl rfl rfl ?_
 refine Walk.append sl45 zz56 rfl .none rfl rfl rfl rfl (zaB rfl (by first|rfl|(simp;done)|(simp;omega))) (by intro x hx;simp at hx;subst hx;rfl) (by simp) (by simp) ?_
 refine ev ?_
 refine rn0 (r1 rfl) (.gld ?_)
 rotate_left
 try simp only[Q] at h7p
 refine rn0 (r1 rfl) (.gld ?_)
 rotate_left
 try simp only[Q] at h6p
 refine sq (fun h8 h8p h8s=>?_) fun h8 h8p h8s=>?_
 try simp only[Q] at h8p
 refine Walk.sliceLit sl45 tz56 rfl (by decide) (ks:=[0]) (xs:=[_]) rfl rfl (by decide) (by decide) .none rfl rfl rfl rfl ?_
 refine Walk.append sl45 zz56 rfl .none rfl rfl rfl rfl (zaB rfl (by first|rfl|(simp;done)|(simp;omega))) (by intro x hx;simp at hx;subst hx;rfl) (by simp) (by simp) ?_
 refine ev ?_
 refine rn0 (r1 rfl) (.gld ?_)
 rotate_left
 try simp only[Q] at h8p
 refine rn0 (r1 rfl) (.gld ?_)
 rotate_left
 try simp only[Q] at h1p
 refine sq (fun h9 h9p h9s=>?_) fun h9 h9p h9s=>?_
 try simp only[Q] at h9p
 refine Walk.sliceLit sl45 tz56 rfl (by decide) (ks:=[0]) (xs:=[_]) rfl rfl (by decide) (by decide) .none rfl rfl rfl rfl ?_
 refine Walk.append sl45 zz56 rfl .none rfl rfl rfl rfl (zaB rfl (by first|rfl|(simp;done)|(simp;omega))) (by intro x hx;simp at hx;subst hx;rfl) (by simp) (by simp) ?_
 refine ev ?_
 refine Walk.build st56 (ks:=[0,2,3]) (xs:=[_,_,_]) rfl rfl .none rfl rfl rfl ?_
 refine Walk.alloc (id:=3007) tz56 rfl .none rfl rfl rfl rfl ?_
 refine Walk.store ty56 .none rfl rfl rfl rfl rfl rfl (by simp) rfl ?_
 refine tv ?_
 refine ar ?_
 refine sq (fun h10 h10p h10s=>?_) fun h10 h10p h10s=>?_
 try simp only[Q] at h10p
 refine ar ?_
 refine Walk.store ty3 .none rfl rfl rfl rfl rfl rfl (by simp) rfl ?_
 refine tv ?_
 refine sq (fun h11 h11p h11s=>?_) fun h11 h11p h11s=>?_
 try simp only[Q] at h11p
 refine Walk.sliceLit sl45 tz56 rfl (by decide) (ks:=[0]) (xs:=[_]) rfl rfl (by decide) (by decide) .none rfl rfl rfl rfl ?_
 refine Walk.append sl45 zz56 rfl .none rfl rfl rfl rfl (zaB rfl (by first|rfl|(simp;done)|(simp;omega))) (by intro x hx;simp at hx;subst hx;rfl) (by simp) (by simp) ?_
 refine ev ?_
 refine rn0 (r1 rfl) (.gld ?_)
 rotate_left
 try simp only[Q] at h11p
 refine rn0 (r1 rfl) (.gld ?_)
 rotate_left
 try simp only[Q] at h10p
 refine sq (fun h12 h12p h12s=>?_) fun h12 h12p h12s=>?_
 try simp only[Q] at h12p
 refine Walk.sliceLit sl45 tz56 rfl (by decide) (ks:=[0]) (xs:=[_]) rfl rfl (by decide) (by decide) .none rfl rfl rfl rfl ?_
 refine Walk.append sl45 zz56 rfl .none rfl rfl rfl rfl (zaB rfl (by first|rfl|(simp;done)|(simp;omega))) (by intro x hx;simp at hx;subst hx;rfl) (by simp) (by simp) ?_
 refine ev ?_
 refine rn0 (r1 rfl) (.gld ?_)
 rotate_left
 try simp only[Q] at h12p
 refine rn0 (r1 rfl) (.gld ?_)
 rotate_left
 try simp only[Q] at h9p
 refine Walk.build st56 (ks:=[0,2,3]) (xs:=[_,_,_]) rfl rfl .none rfl rfl rfl ?_
 refine Walk.alloc (id:=3007) tz56 rfl .none rfl rfl rfl rfl ?_
 refine Walk.store ty56 .none rfl rfl rfl rfl rfl rfl (by simp) rfl ?_
 refine tv ?_
 refine ar ?_
 refine sq (fun h13 h13p h13s=>?_) fun h13 h13p h13s=>?_
 try simp only[Q] at h13p
 refine ar ?_
 refine Walk.store ty3 .none rfl rfl rfl rfl rfl rfl (by simp) rfl ?_
 refine tv ?_
 refine sq (fun h14 h14p h14s=>?_) fun h14 h14p h14s=>?_
 try simp only[Q] at h14p
 refine Walk.sliceLit sl45 tz56 rfl (by decide) (ks:=[0]) (xs:=[_]) rfl rfl (by decide) (by decide) .none rfl rfl rfl rfl ?_
 refine Walk.append sl45 zz56 rfl .none rfl rfl rfl rfl (zaB rfl (by first|rfl|(simp;done)|(simp;omega))) (by intro x hx;simp at hx;subst hx;rfl) (by simp) (by simp) ?_
 refine ev ?_
 refine rn0 (r1 rfl) (.gld ?_)
 rotate_left
 try simp only[Q] at h14p
 refine rn0 (r1 rfl) (.gld ?_)
 rotate_left
 try simp only[Q] at h13p
 refine sq (fun h15 h15p h15s=>?_) fun h15 h15p h15s=>?_
 try simp only[Q] at h15p
 refine Walk.sliceLit sl45 tz56 rfl (by decide) (ks:=[0]) (xs:=[_]) rfl rfl (by decide) (by decide) .none rfl rfl rfl rfl ?_
 refine Walk.append sl45 zz56 rfl .none rfl rfl rfl rfl (zaB rfl (by first|rfl|(simp;done)|(simp;omega))) (by intro x hx;simp at hx;subst hx;rfl) (by simp) (by simp) ?_
 refine ev ?_
 refine rn0 (r1 rfl) (.gld ?_)
 rotate_left
 try simp only[Q] at h15p
 refine rn0 (r1 rfl) (.gld ?_)
 rotate_left
 all_goals (unfold minQ maxQ zcg;(repeat' split)<;>first|rfl|(exfalso;omega))
theorem znQ {w:List Data} (hw:WT w){a k c:Int} (ht:TyIn w.length ⟨a,k⟩) (hc:c∈zaA w ⟨a,k⟩) (hl:(zaj w ⟨a,k⟩ c).length≤3):FnD Tryz.prog 253 [.d (zao w),.agg [.d (.i a),.d (.i k)],.d (.i c)] []
  (.agg [.d (.i 4),.d (.i c),.d (.i 0),.d (.i 0),.d (.i 0),.d (zaf (zch w ⟨a,k⟩ c).kids)]) []:=by
 refine bd Tryz.f253 29 [] [] fun w0 F0 own kept hk=>?_
 refine Walk.box (id:=3004) .none rfl rfl rfl rfl rfl rfl rfl ?_
 refine Walk.alloc (id:=3006) tz56 rfl .none rfl rfl rfl rfl ?_
 refine tv ?_
 refine Walk.build st56 (ks:=[0,1]) (xs:=[_,_]) rfl rfl .none rfl rfl rfl ?_
 refine Walk.alloc (id:=3007) tz56 rfl .none rfl rfl rfl rfl ?_
 refine Walk.store ty56 .none rfl rfl rfl rfl rfl rfl (by simp) rfl ?_
 refine tv ?_
 refine wc ziY (zdF hw ht hc) rfl rfl ?_
 refine ev ?_
 refine CWp.tokB 3007 5 9 6 rfl rfl rfl rfl ?_
 refine CWp.loopX (ι:=List (Ty)×List (Ty)) hk (fun x=>[(9,.d (.i (x.1.length:Int)))]) [16,17,18,19,20,21,22,23,24,25,26,27] (fun x=>[(3007,some (.box [.d (.i 4),.d (.i c),.d (.i 0),.d (.i 0),.d (.i 0),.gl 9 ((x.1.map fun _=>anyQ).map Pat.cc)])),(9,some (.tok ((x.1.map fun _=>anyQ).map Pat.cc).length 6))]) (fun x=>x.1++x.2=zaj w ⟨a,k⟩ c) (fun x=>x.2.length) ([],zaj w ⟨a,k⟩ c) (by simp) ⟨⟨_,rfl,LeA.eqi ?_⟩,trivial⟩ ⟨?_,⟨zad ?_,trivial⟩⟩ (fun x=>rfl) (fun x hg1=>?_)
 focus (first|rfl|(simp;done)|(simp;exact⟨rfl,rfl,rfl,rfl,rfl,rfl⟩)|omega|(simp;omega))
 focus (first|rfl|(simp[getH];done)|(simp[getH];exact⟨rfl,rfl,rfl,rfl,rfl,rfl⟩))
 focus (first|rfl|(simp;done)|(simp;exact⟨rfl,rfl,rfl,rfl,rfl,rfl⟩)|omega|(simp;omega))
 obtain⟨pre,rest⟩:=x
 dsimp only at hg1 ⊢
 refine evc [] [] ?_
 refine sq (fun h1 h1p h1s=>?_) fun h1 h1p h1s=>?_
 try simp only[Q] at h1p
 rcases rest with _|⟨y,rest⟩
 ·exfalso;simp_all
 refine wc znY (zeD) rfl rfl ?_
 refine Walk.sliceLit sl45 tz56 rfl (by decide) (ks:=[0]) (xs:=[_]) rfl rfl (by decide) (by decide) .none rfl rfl rfl rfl ?_
 refine Walk.append sl45 zz56 rfl .none rfl rfl rfl rfl (zaB rfl (by first|rfl|(simp;done)|(simp;omega))) (by intro x hx;first|(simp at hx;subst hx;rfl)|exact zbE _ x hx) (by have:=congrArg List.length hg1;simp at this;simp;omega) (by have:=congrArg List.length hg1;simp at this;simp;omega) ?_
 refine evd [] [] ?_
 refine Walk.store ty45 .none rfl rfl rfl rfl rfl rfl (by simp) rfl ?_
 refine dr ?_
 refine ar ?_
 refine Exists.intro ((pre++[y],rest)) ⟨(by have hz:=hg1;rw[←hz];simp),(by simp),sx ⟨⟨_,rfl,LeA.eqi ?_⟩,trivial⟩ ⟨?_,⟨zad ?_,trivial⟩⟩⟩
 focus (first|rfl|(simp;done)|(simp;exact⟨rfl,rfl,rfl,rfl,rfl,rfl⟩)|omega|(simp;omega))
 focus (first|rfl|(simp[getH];done)|(simp[getH];exact⟨rfl,rfl,rfl,rfl,rfl,rfl⟩))
 focus (first|rfl|(simp;done)|(simp;exact⟨rfl,rfl,rfl,rfl,rfl,rfl⟩)|omega|(simp;omega))
 try simp only[Q] at h1p
 have hrest:rest=[]:=by
  rcases rest with _|⟨a,b⟩
  ·rfl
  ·exfalso;have hz:=congrArg List.length (hg1);simp only[List.length_append,List.length_cons,List.length_map] at hz;omega
 subst hrest
 refine Walk.store ty56 .none rfl rfl rfl rfl rfl rfl (by simp) rfl ?_
 refine tv ?_
 refine rn0 (.cons (.cellA ty56 rfl rfl rfl) .nil) (.agg (.cons (.eqd ?_) (.cons (.eqd ?_) (.cons (.eqd ?_) (.cons (.eqd ?_) (.cons (.eqd ?_) (.cons (.gld ?_) .nil)))))))
 rotate_left 6
 all_goals (first|rfl|(rw[List.append_nil] at hg1;subst hg1;rw[←Pat.cs_cd];all_goals rfl))
def zdB (n:Nat) (a b:Pat):Pat:=if a.op=3∧b.op≠1 then intQ (maxQ a.n b.n) (minQ a.m b.m) else zcR n a b
theorem zmG {n:Nat}{a b:Pat} (h:¬(a.op=3∧b.op≠1)):zdB n a b=zcR n a b:=if_neg h
theorem zoI {n:Nat}{a b:Pat} (h:(zaS n a b).isSome=true):zdB n a b=zcR n a b:=by
 unfold zdB
 split
 ·rename_i h3
  cases n with
  |zero=>simp[zaS] at h
  |succ n=>
   have e:=zlG (n:=n) h3.1 h3.2
   rw[e] at h
   split at h
   ·rename_i hr
    rw[if_pos hr] at e
    exact(zcy e).symm
   ·cases h
 ·rfl
theorem zh2 {w:List Data} (hs:Spa w):∀(n m:Nat){t:Ty}{a b:Pat},m≤n→InS (w.length*4) t→zam w m t a=true→zam w m t b=true→
  FnD Tryz.prog 231 [.agg [.d (.i (a).op),.d (.i (a).ctor),.d (.i (a).n),.d (.i (a).m),.d (.i (a).var),.d (zaf (a).kids)],.agg [.d (.i (b).op),.d (.i (b).ctor),.d (.i (b).n),.d (.i (b).m),.d (.i (b).var),.d (zaf (b).kids)]] [] (.tup [.agg [.d (.i (zdB n a b).op),.d (.i (zdB n a b).ctor),.d (.i (zdB n a b).n),.d (.i (zdB n a b).m),.d (.i (zdB n a b).var),.d (zaf (zdB n a b).kids)],.d (.bool (zaS n a b).isSome)]) []
 |n,0,t,a,b,_,_,ha,_=>by simp[zam] at ha
 |0,m+1,t,a,b,h,_,_,_=>by omega
 |n+1,m+1,t,a,b,hnm,ht,ha,hb=>by
  by_cases h1:a.op=1
  ·have e:=zlE (n:=n) (b:=b) h1
   rw[zmG (fun h=>by omega),zcy e,e]
   refine bd Tryz.f231 89 [] [] fun w0 F0 own kept hk=>?_
   refine Walk.box (id:=3002) .none rfl rfl rfl rfl rfl rfl rfl ?_
   refine Walk.box (id:=3003) .none rfl rfl rfl rfl rfl rfl rfl ?_
   refine Walk.alloc (id:=3004) tz56 rfl .none rfl rfl rfl rfl ?_
   refine ev ?_
   refine sq (fun h1 h1p h1s=>?_) fun h1 h1p h1s=>?_
   try simp only[Q] at h1p
   refine Walk.store ty56 .none rfl rfl rfl rfl rfl rfl (by simp) rfl ?_
   refine ev ?_
   refine rn0 (.cons (.cellA ty56 rfl rfl rfl) (.cons (.tmp rfl) .nil)) (.tup (.cons (.agg (.cons (.eqd ?_) (.cons (.eqd ?_) (.cons (.eqd ?_) (.cons (.eqd ?_) (.cons (.eqd ?_) (.cons (.eqd ?_) .nil))))))) (.cons (.eqd ?_) .nil)))
   rotate_left 7
   try simp only[Q] at h1p
   exfalso;omega
   all_goals (rfl)
  by_cases h2:b.op=1
  ·have e:=zlF (n:=n) h1 h2
   rw[zmG (fun h=>h.2 h2),zcy e,e]
   refine bd Tryz.f231 89 [] [] fun w0 F0 own kept hk=>?_
   refine Walk.box (id:=3002) .none rfl rfl rfl rfl rfl rfl rfl ?_
   refine Walk.box (id:=3003) .none rfl rfl rfl rfl rfl rfl rfl ?_
   refine Walk.alloc (id:=3004) tz56 rfl .none rfl rfl rfl rfl ?_
   refine ev ?_
   refine sq (fun h1 h1p h1s=>?_) fun h1 h1p h1s=>?_
   try simp only[Q] at h1p
   exfalso;omega
   try simp only[Q] at h1p
   refine sq (fun h2 h2p h2s=>?_) fun h2 h2p h2s=>?_
   try simp only[Q] at h2p
   refine Walk.store ty56 .none rfl rfl rfl rfl rfl rfl (by simp) rfl ?_
   refine ev ?_
   refine rn0 (.cons (.cellA ty56 rfl rfl rfl) (.cons (.tmp rfl) .nil)) (.tup (.cons (.agg (.cons (.eqd ?_) (.cons (.eqd ?_) (.cons (.eqd ?_) (.cons (.eqd ?_) (.cons (.eqd ?_) (.cons (.eqd ?_) .nil))))))) (.cons (.eqd ?_) .nil)))
   rotate_left 7
   try simp only[Q] at h2p
   exfalso;omega
   all_goals (rfl)
  by_cases h3:a.op=3
  ·have e:=zlG (n:=n) h3 h2
   have ez:zdB (n+1) a b=intQ (maxQ a.n b.n) (minQ a.m b.m):=if_pos ⟨h3,h2⟩
   have eb:(zaS (n+1) a b).isSome=decide (maxQ a.n b.n≤minQ a.m b.m):=by
    rw[e]
    by_cases hr:maxQ a.n b.n≤minQ a.m b.m
    ·rw[if_pos hr,decide_eq_true hr];rfl
    ·rw[if_neg hr,decide_eq_false hr];rfl
   rw[ez,eb]
   refine bd Tryz.f231 89 [] [] fun w0 F0 own kept hk=>?_
   refine Walk.box (id:=3002) .none rfl rfl rfl rfl rfl rfl rfl ?_
   refine Walk.box (id:=3003) .none rfl rfl rfl rfl rfl rfl rfl ?_
   refine Walk.alloc (id:=3004) tz56 rfl .none rfl rfl rfl rfl ?_
   refine ev ?_
   refine sq (fun h1 h1p h1s=>?_) fun h1 h1p h1s=>?_
   try simp only[Q] at h1p
   exfalso;omega
   try simp only[Q] at h1p
   refine sq (fun h2 h2p h2s=>?_) fun h2 h2p h2s=>?_
   try simp only[Q] at h2p
   exfalso;omega
   try simp only[Q] at h2p
   refine sq (fun h3 h3p h3s=>?_) fun h3 h3p h3s=>?_
   try simp only[Q] at h3p
   refine sq (fun h4 h4p h4s=>?_) fun h4 h4p h4s=>?_
   try simp only[Q] at h4p
   refine sq (fun h5 h5p h5s=>?_) fun h5 h5p h5s=>?_
   try simp only[Q] at h5p
   refine Walk.build st56 (ks:=[0,2,3]) (xs:=[_,_,_]) rfl rfl .none rfl rfl rfl ?_
   refine ev ?_
   refine Walk.store ty56 .none rfl rfl rfl rfl rfl rfl (by simp) rfl ?_
   refine ev ?_
   refine rn0 (.cons (.cellA ty56 rfl rfl rfl) (.cons (.tmp rfl) .nil)) (.tup (.cons (.agg (.cons (.eqd ?_) (.cons (.eqd ?_) (.cons (.eqd ?_) (.cons (.eqd ?_) (.cons (.eqd ?_) (.cons (.nild ?_) .nil))))))) (.cons (.eqd ?_) .nil)))
   rotate_left 7
   try simp only[Q] at h5p
   refine Walk.build st56 (ks:=[0,2,3]) (xs:=[_,_,_]) rfl rfl .none rfl rfl rfl ?_
   refine ev ?_
   refine Walk.store ty56 .none rfl rfl rfl rfl rfl rfl (by simp) rfl ?_
   refine ev ?_
   refine rn0 (.cons (.cellA ty56 rfl rfl rfl) (.cons (.tmp rfl) .nil)) (.tup (.cons (.agg (.cons (.eqd ?_) (.cons (.eqd ?_) (.cons (.eqd ?_) (.cons (.eqd ?_) (.cons (.eqd ?_) (.cons (.nild ?_) .nil))))))) (.cons (.eqd ?_) .nil)))
   rotate_left 7
   try simp only[Q] at h4p
   refine sq (fun h6 h6p h6s=>?_) fun h6 h6p h6s=>?_
   try simp only[Q] at h6p
   refine Walk.build st56 (ks:=[0,2,3]) (xs:=[_,_,_]) rfl rfl .none rfl rfl rfl ?_
   refine ev ?_
   refine Walk.store ty56 .none rfl rfl rfl rfl rfl rfl (by simp) rfl ?_
   refine ev ?_
   refine rn0 (.cons (.cellA ty56 rfl rfl rfl) (.cons (.tmp rfl) .nil)) (.tup (.cons (.agg (.cons (.eqd ?_) (.cons (.eqd ?_) (.cons (.eqd ?_) (.cons (.eqd ?_) (.cons (.eqd ?_) (.cons (.nild ?_) .nil))))))) (.cons (.eqd ?_) .nil)))
   rotate_left 7
   try simp only[Q] at h6p
   refine Walk.build st56 (ks:=[0,2,3]) (xs:=[_,_,_]) rfl rfl .none rfl rfl rfl ?_
   refine ev ?_
   refine Walk.store ty56 .none rfl rfl rfl rfl rfl rfl (by simp) rfl ?_
   refine ev ?_
   refine rn0 (.cons (.cellA ty56 rfl rfl rfl) (.cons (.tmp rfl) .nil)) (.tup (.cons (.agg (.cons (.eqd ?_) (.cons (.eqd ?_) (.cons (.eqd ?_) (.cons (.eqd ?_) (.cons (.eqd ?_) (.cons (.nild ?_) .nil))))))) (.cons (.eqd ?_) .nil)))
   rotate_left 7
   try simp only[Q] at h3p
   exfalso;omega
   all_goals (first|rfl|((try simp only[zhk,zfv,mk_n,mk_m,zgP,zdq]);simp only[minQ,maxQ];(repeat' split)<;>first|rfl|(exfalso;omega)))
  have oa:=zce ha
  have h4:a.op=4:=by omega
  have h4b:b.op=4:=by have:=zdI ha hb h1 h2;omega
  have ez:zdB (n+1) a b=zcR (n+1) a b:=zmG (fun h=>h3 h.1)
  by_cases hc:a.ctor=b.ctor
  ·obtain⟨c1,c2,c3,-⟩:=zbf ha h4
   obtain⟨d1,d2,d3,-⟩:=zbf hb h4b
   rw[←hc] at d3
   have h3l:=hs.args t a.ctor ht c1
   have ka:=fun i (hi:i<a.kids.length)=>zbt ha hi
   have kb:=fun i (hi:i<b.kids.length)=>zbt hb hi
   rw[zbG h4] at ka
   rw[zbG h4b,←hc] at kb
   have e:=zlH (n:=n) h4 h2 hc
   have hlen:a.kids.length=b.kids.length:=by omega
   have ih:=fun i (hi:i<a.kids.length)=>zh2 hs n m (t:=nth (zaj w t a.ctor) i) (a:=nth a.kids i) (b:=nth b.kids i) (by omega) (zcv hs.dp ht c1 _ (zal (by omega))) (ka i (by omega)) (kb i (by omega))
   have key:∀(i:Nat) (acc:List Pat),i<a.kids.length→(zaS n (nth a.kids i) (nth b.kids i)).isSome=true→zcH (zaS n) (a.kids.drop i) (b.kids.drop i) acc=zcH (zaS n) (a.kids.drop (i+1)) (b.kids.drop (i+1)) (acc++[zdB n (nth a.kids i) (nth b.kids i)]):=fun i acc hi h=>by
    rw[zoI h];exact zlD hi (by omega) (zmH h)
   rw[ez]
   refine bd Tryz.f231 89 [] [] fun w0 F0 own kept hk=>?_
   refine Walk.box (id:=3002) .none rfl rfl rfl rfl rfl rfl rfl ?_
   refine Walk.box (id:=3003) .none rfl rfl rfl rfl rfl rfl rfl ?_
   refine Walk.alloc (id:=3004) tz56 rfl .none rfl rfl rfl rfl ?_
   refine ev ?_
   refine sq (fun h1 h1p h1s=>?_) fun h1 h1p h1s=>?_
   try simp only[Q,Pat.cs_len] at h1p
   exfalso;omega
   try simp only[Q,Pat.cs_len] at h1p
   refine sq (fun h2 h2p h2s=>?_) fun h2 h2p h2s=>?_
   try simp only[Q,Pat.cs_len] at h2p
   exfalso;omega
   try simp only[Q,Pat.cs_len] at h2p
   refine sq (fun h3 h3p h3s=>?_) fun h3 h3p h3s=>?_
   try simp only[Q,Pat.cs_len] at h3p
   exfalso;omega
   try simp only[Q,Pat.cs_len] at h3p
   refine sq (fun h4 h4p h4s=>?_) fun h4 h4p h4s=>?_
   try simp only[Q,Pat.cs_len] at h4p
   exfalso;omega
   try simp only[Q,Pat.cs_len] at h4p
   refine Walk.build st56 (ks:=[0,1]) (xs:=[_,_]) rfl rfl .none rfl rfl rfl ?_
   refine Walk.alloc (id:=3008) tz56 rfl .none rfl rfl rfl rfl ?_
   refine Walk.store ty56 .none rfl rfl rfl rfl rfl rfl (by simp) rfl ?_
   refine tv ?_
   refine CWp.tokB 3008 5 9 6 rfl rfl rfl rfl ?_
   refine CWp.loopX (ι:=Nat×List Pat) hk (fun x=>[(9,.d (.i (x.1:Int)))]) [5,10,11,58,59,60,61,62,63,64,65,66,67,68,69,70,71,72,73,74,75,76,77,78,79,80,81,82,83,84,85,86,87] (fun x=>[(3008,some (.box [.d (.i 4),.d (.i a.ctor),.d (.i 0),.d (.i 0),.d (.i 0),.gl 9 (x.2.map Pat.cc)])),(9,some (.tok (x.2.map Pat.cc).length 6))]) (fun x=>x.1≤a.kids.length∧x.2.length=x.1∧zcH (zaS n) (a.kids.drop x.1) (b.kids.drop x.1) x.2=zcH (zaS n) a.kids b.kids []) (fun x=>a.kids.length-x.1) (0,[]) ⟨by simp,rfl,rfl⟩ ⟨⟨_,rfl,LeA.eqi ?_⟩,trivial⟩ ⟨?_,⟨zad ?_,trivial⟩⟩ (fun x=>rfl) (fun x hg1=>?_)
   focus (first|rfl|(simp;done)|(simp_all;done)|omega|(simp;omega))
   focus (first|rfl|(simp[getH];done))
   focus (first|rfl|(simp;done)|(simp_all;done)|omega|(simp;omega))
   refine evc [] [] ?_
   refine sq (fun h5 h5p h5s=>?_) fun h5 h5p h5s=>?_
   try simp only[Q,Pat.cs_len] at h5p
   refine Walk.idx sl45 .none rfl rfl rfl rfl (zaI (by omega)) rfl ?_
   refine evd [] [] ?_
   refine Walk.idx sl45 .none rfl rfl rfl rfl (zaI (by omega)) rfl ?_
   refine evd [] [] ?_
   refine wc zqF (ih x.1 (by omega)) rfl rfl ?_
   refine evd [] [] ?_
   refine Walk.alloc (id:=3010) tz56 rfl .none rfl rfl rfl rfl ?_
   refine Walk.store ty56 .none rfl rfl rfl rfl rfl rfl (by simp) rfl ?_
   refine evd [] [] ?_
   refine dr ?_
   refine sq (fun h6 h6p h6s=>?_) fun h6 h6p h6s=>?_
   try simp only[Q,Pat.cs_len] at h6p
   refine Walk.build st56 (ks:=[]) (xs:=[]) rfl rfl .none rfl rfl rfl ?_
   refine Walk.store ty56 .none rfl rfl rfl rfl rfl rfl (by simp) rfl ?_
   refine ev ?_
   refine rn0 (.cons (.cellA ty56 rfl rfl rfl) (.cons (.tmp rfl) .nil)) (.tup (.cons (.agg (.cons (.eqd ?_) (.cons (.eqd ?_) (.cons (.eqd ?_) (.cons (.eqd ?_) (.cons (.eqd ?_) (.cons (.nild ?_) .nil))))))) (.cons (.eqd ?_) .nil)))
   rotate_left 7
   try simp only[Q,Pat.cs_len] at h6p
   refine Walk.sliceLit sl45 tz56 rfl (by decide) (ks:=[0]) (xs:=[_]) rfl rfl (by decide) (by decide) .none rfl rfl rfl rfl ?_
   refine Walk.append sl45 zz56 rfl .none rfl rfl rfl rfl (zaB rfl (by first|rfl|(simp;done)|(simp;omega))) (by intro x hx;first|(simp at hx;subst hx;rfl)|exact zbE _ x hx) (by simp;omega) (by simp;omega) ?_
   refine ev ?_
   refine Walk.store ty45 .none rfl rfl rfl rfl rfl rfl (by simp) rfl ?_
   refine tv ?_
   refine ar ?_
   refine Exists.intro ((x.1+1,x.2++[zdB n (nth a.kids x.1) (nth b.kids x.1)])) ⟨⟨by dsimp only;omega,by dsimp only;rw[List.length_append,hg1.2.1];rfl,by dsimp only;rw[←key x.1 x.2 (by omega) (by assumption)];exact hg1.2.2⟩,(by dsimp only;omega),sx ⟨⟨_,rfl,LeA.eqi ?_⟩,trivial⟩ ⟨?_,⟨zad ?_,trivial⟩⟩⟩
   focus (first|rfl|(simp;done)|(simp_all;done)|omega|(simp;omega))
   focus (first|rfl|(simp[getH];done))
   focus (first|rfl|(simp;done)|(simp_all;done)|omega|(simp;omega))
   try simp only[Q,Pat.cs_len] at h5p
   refine Walk.store ty56 .none rfl rfl rfl rfl rfl rfl (by simp) rfl ?_
   refine ev ?_
   refine rn0 (.cons (.cellA ty56 rfl rfl rfl) (.cons (.tmp rfl) .nil)) (.tup (.cons (.agg (.cons (.eqd ?_) (.cons (.eqd ?_) (.cons (.eqd ?_) (.cons (.eqd ?_) (.cons (.eqd ?_) (.cons (.gld ?_) .nil))))))) (.cons (.eqd ?_) .nil)))
   rotate_left 7
   all_goals (first|(have e2:zaS (n+1) a b=none:=(by rw[e,←hg1.2.2,zlC (by omega) (by omega) (zmI (by assumption))];rfl);(first|rw[zfa e2]|rw[e2]);all_goals rfl)|(have e2:zaS (n+1) a b=some (zb2 a.ctor x.2):=(by rw[e,←hg1.2.2,zeO (by omega)];rfl);rw[zcy e2,Pat.cs_cd];all_goals rfl)|(have e2:zaS (n+1) a b=some (zb2 a.ctor x.2):=(by rw[e,←hg1.2.2,zeO (by omega)];rfl);rw[zcy e2];all_goals rfl)|(have e2:zaS (n+1) a b=some (zb2 a.ctor x.2):=(by rw[e,←hg1.2.2,zeO (by omega)];rfl);rw[e2];all_goals rfl))
  ·skip
   have e:=zjO (n:=n) h4 h2 hc
   rw[ez,zfa e,e]
   refine bd Tryz.f231 89 [] [] fun w0 F0 own kept hk=>?_
   refine Walk.box (id:=3002) .none rfl rfl rfl rfl rfl rfl rfl ?_
   refine Walk.box (id:=3003) .none rfl rfl rfl rfl rfl rfl rfl ?_
   refine Walk.alloc (id:=3004) tz56 rfl .none rfl rfl rfl rfl ?_
   refine ev ?_
   refine sq (fun h1 h1p h1s=>?_) fun h1 h1p h1s=>?_
   try simp only[Q] at h1p
   exfalso;omega
   try simp only[Q] at h1p
   refine sq (fun h2 h2p h2s=>?_) fun h2 h2p h2s=>?_
   try simp only[Q] at h2p
   exfalso;omega
   try simp only[Q] at h2p
   refine sq (fun h3 h3p h3s=>?_) fun h3 h3p h3s=>?_
   try simp only[Q] at h3p
   exfalso;omega
   try simp only[Q] at h3p
   refine sq (fun h4 h4p h4s=>?_) fun h4 h4p h4s=>?_
   try simp only[Q] at h4p
   refine Walk.build st56 (ks:=[]) (xs:=[]) rfl rfl .none rfl rfl rfl ?_
   refine Walk.store ty56 .none rfl rfl rfl rfl rfl rfl (by simp) rfl ?_
   refine ev ?_
   refine rn0 (.cons (.cellA ty56 rfl rfl rfl) (.cons (.tmp rfl) .nil)) (.tup (.cons (.agg (.cons (.eqd ?_) (.cons (.eqd ?_) (.cons (.eqd ?_) (.cons (.eqd ?_) (.cons (.eqd ?_) (.cons (.nild ?_) .nil))))))) (.cons (.eqd ?_) .nil)))
   rotate_left 7
   try simp only[Q] at h4p
   exfalso;omega
   all_goals (rfl)
theorem zoL {f:Ty→Pat→Pat→List Pat}{c:Int}{ts:List Ty}{xs bs front:List Pat}{i:Nat} (h1:i<ts.length) (h2:i<xs.length) (h3:i<bs.length) (h:(zaS 11 (nth xs i) (nth bs i)).isSome=true):
  zbh f c (ts.drop i) (xs.drop i) (bs.drop i) front=(f (nth ts i) (nth xs i) (nth bs i)).map (fun z=>zb2 c (front++[z]++xs.drop (i+1)))++zbh f c (ts.drop (i+1)) (xs.drop (i+1)) (bs.drop (i+1)) (front++[zdB 11 (nth xs i) (nth bs i)]):=by
 rw[zoI h];exact zkg h1 h2 h3 h
theorem zh7 (c:Int) (L:List Pat):Pat.cc (zb2 c L)=[D.i 4,D.i c,D.i 0,D.i 0,D.i 0,D.sl (L.map Pat.cc)]:=by
 show [D.i 4,D.i c,D.i 0,D.i 0,D.i 0,D.sl (Pat.cs L)]=_
 rw[Pat.cs_cd]
section
variable {w:List Data}
abbrev MinusSp (w:List Data) (n:Nat) (ta tk:Int) (a b:Pat):Prop:=
 FnD Tryz.prog 198 [.d (zao w),.agg [.d (.i ta),.d (.i tk)],.agg [.d (.i (a).op),.d (.i (a).ctor),.d (.i (a).n),.d (.i (a).m),.d (.i (a).var),.d (zaf (a).kids)],.agg [.d (.i (b).op),.d (.i (b).ctor),.d (.i (b).n),.d (.i (b).m),.d (.i (b).var),.d (zaf (b).kids)]] [] (.d (zaf (zav w n ⟨ta,tk⟩ a b))) []
theorem zmS (hs:Spa w){n m:Nat} (hn:n+1≤10) (hm:m+1≤11) (hnm:n<m)
  (ih:∀ {ta tk:Int}{a b:Pat},InS (w.length*4) ⟨ta,tk⟩→zam w m ⟨ta,tk⟩ a=true→zam w n ⟨ta,tk⟩ b=true→MinusSp w n ta tk a b)
  {ta tk:Int}{a b:Pat} (ht:InS (w.length*4) ⟨ta,tk⟩) (ha:zam w (m+1) ⟨ta,tk⟩ a=true) (hb:zam w (n+1) ⟨ta,tk⟩ b=true) (h4:a.op=4) (h4b:b.op=4) (hc:a.ctor=b.ctor):
  FnD Tryz.prog 252 [.d (zao w),.agg [.d (.i ta),.d (.i tk)],.agg [.d (.i (a).op),.d (.i (a).ctor),.d (.i (a).n),.d (.i (a).m),.d (.i (a).var),.d (zaf (a).kids)],.agg [.d (.i (b).op),.d (.i (b).ctor),.d (.i (b).n),.d (.i (b).m),.d (.i (b).var),.d (zaf (b).kids)]] [] (.d (zaf (zav w (n+1) ⟨ta,tk⟩ a b))) []:=by
 obtain⟨c1,c2,c3,-⟩:=zbf ha h4
 obtain⟨d1,d2,d3,-⟩:=zbf hb h4b
 rw[←hc] at d3
 have h3l:=hs.args ⟨ta,tk⟩ a.ctor ht c1
 have ka:=fun i (hi:i<a.kids.length)=>zbt ha hi
 have kb:=fun i (hi:i<b.kids.length)=>zbt hb hi
 rw[zbG h4] at ka
 rw[zbG h4b,←hc] at kb
 have hbd:=zfu hs (n:=n+1) (m:=m+1) (by omega) hn ht ha hb
 have e:zav w (n+1) ⟨ta,tk⟩ a b=zbh (zav w n) a.ctor (zaj w ⟨ta,tk⟩ a.ctor) a.kids b.kids []:=by rw[zeg h4b h4];exact if_pos hc
 have hins:=fun i (hi:i<(zaj w ⟨ta,tk⟩ a.ctor).length)=>zcv hs.dp ht c1 _ (zal hi)
 have hmi:∀i,i<(zaj w ⟨ta,tk⟩ a.ctor).length→FnD Tryz.prog 198 [.d (zao w),.agg [.d (.i (nth (zaj w ⟨ta,tk⟩ a.ctor) i).data),.d (.i (nth (zaj w ⟨ta,tk⟩ a.ctor) i).index)],.agg [.d (.i (nth a.kids i).op),.d (.i (nth a.kids i).ctor),.d (.i (nth a.kids i).n),.d (.i (nth a.kids i).m),.d (.i (nth a.kids i).var),.d (zaf (nth a.kids i).kids)],.agg [.d (.i (nth b.kids i).op),.d (.i (nth b.kids i).ctor),.d (.i (nth b.kids i).n),.d (.i (nth b.kids i).m),.d (.i (nth b.kids i).var),.d (zaf (nth b.kids i).kids)]] [] (.d (zaf (zav w n (nth (zaj w ⟨ta,tk⟩ a.ctor) i) (nth a.kids i) (nth b.kids i)))) []:=fun i hi=>ih (ta:=(nth (zaj w ⟨ta,tk⟩ a.ctor) i).data) (tk:=(nth (zaj w ⟨ta,tk⟩ a.ctor) i).index) (hins i hi) (ka i (by omega)) (kb i (by omega))
 have hme:=fun i (hi:i<(zaj w ⟨ta,tk⟩ a.ctor).length)=>zh2 hs 11 m (t:=nth (zaj w ⟨ta,tk⟩ a.ctor) i) (by omega) (hins i hi) (ka i (by omega)) (zjQ (by omega) (kb i (by omega)))
 rw[e] at hbd ⊢
 have hT:∀i out front,i<(zaj w ⟨ta,tk⟩ a.ctor).length→out++zbh (zav w n) a.ctor ((zaj w ⟨ta,tk⟩ a.ctor).drop i) (a.kids.drop i) (b.kids.drop i) front=zbh (zav w n) a.ctor (zaj w ⟨ta,tk⟩ a.ctor) a.kids b.kids []→
   out.length+(zav w n (nth (zaj w ⟨ta,tk⟩ a.ctor) i) (nth a.kids i) (nth b.kids i)).length≤20000000:=fun i out front hi h=>by
  rw[zhj hi (by omega) (by omega)] at h
  have:=congrArg List.length h
  simp only[List.length_append,List.length_map] at this
  omega
 refine bd Tryz.f252 100 [] [] fun w0 F0 own kept hk=>?_
 refine Walk.box (id:=3005) .none rfl rfl rfl rfl rfl rfl rfl ?_
 refine Walk.box (id:=3006) .none rfl rfl rfl rfl rfl rfl rfl ?_
 refine Walk.box (id:=3007) .none rfl rfl rfl rfl rfl rfl rfl ?_
 refine ev ?_
 refine Walk.sliceEmptyG 9 sl45 .none rfl rfl ?_
 refine ev ?_
 refine wc ziY (zdF hs.dp.wt (zcK ht) c1) rfl rfl ?_
 refine ev ?_
 refine Walk.sliceEmptyG 8 sl45 .none rfl rfl ?_
 refine ev ?_
 refine CWp.loopX (ι:=Nat×List Pat×List Pat) hk (fun s=>[(12,.d (.i (s.1:Int))),(9,.gl 9 (s.2.1.map Pat.cc)),(11,.gl 8 (s.2.2.map Pat.cc))]) [8,13,14,15,16,17,25,26,27,28,29,30,31,32,33,34,35,36,37,38,39,40,41,42,43,44,45,46,47,48,49,50,51,52,53,54,55,56,57,58,59,60,61,62,63,64,65,66,67,68,69,70,71,72,73,74,75,76,77,78,79,80,81,82,83,84,85,86,87,88,89,90,91,92,93,94,95,96,97,98] (fun s=>[(9,some (.tok ((s.2.1.map Pat.cc)).length 6)),(8,some (.tok ((s.2.2.map Pat.cc)).length 6))]) (fun s=>s.1≤a.kids.length∧s.2.2.length=s.1∧s.2.1++zbh (zav w n) a.ctor ((zaj w ⟨ta,tk⟩ a.ctor).drop s.1) (a.kids.drop s.1) (b.kids.drop s.1) s.2.2=zbh (zav w n) a.ctor (zaj w ⟨ta,tk⟩ a.ctor) a.kids b.kids []) (fun s=>a.kids.length-s.1) (0,[],[]) ⟨by simp,rfl,rfl⟩ ⟨⟨_,rfl,LeA.eqi ?_⟩,⟨⟨_,rfl,LeA.glg ?_⟩,⟨⟨_,rfl,LeA.glg ?_⟩,trivial⟩⟩⟩ ⟨zad ?_,⟨zad ?_,trivial⟩⟩ (fun x=>rfl) (fun s hg1=>?_)
 iterate 5 focus (first|rfl|(simp;done)|(simp_all;done)|omega|(simp;omega))
 refine evc [] [] ?_
 refine sq (fun h1 h1p h1s=>?_) fun h1 h1p h1s=>?_
 try simp only[Q,Pat.cs_len] at h1p
 refine Walk.idx zbd .none rfl rfl rfl rfl (zay (by omega)) rfl ?_
 refine evd [] [] ?_
 refine Walk.idx sl45 .none rfl rfl rfl rfl (zaI (by omega)) rfl ?_
 refine evd [] [] ?_
 refine Walk.idx sl45 .none rfl rfl rfl rfl (zaI (by omega)) rfl ?_
 refine evd [] [] ?_
 refine wc zoh (hmi s.1 (by omega)) rfl rfl ?_
 refine evd [] [] ?_
 refine dr ?_
 refine CWp.loopX (ι:=List (Pat)×List (Pat)) hk (fun x=>[(14,.d (.i (x.1.length:Int))),(9,.gl 9 ((s.2.1++x.1.map (fun z=>zb2 a.ctor (s.2.2++[z]++a.kids.drop (s.1+1)))).map Pat.cc))]) [15,47,48,49,50,51,52,53,54,55,56,57,58,59,60,61,62,63,64,65,66,67,68,69,70,71,72,73,74,75,76,77] (fun x=>[(9,some (.tok (((s.2.1++x.1.map (fun z=>zb2 a.ctor (s.2.2++[z]++a.kids.drop (s.1+1)))).map Pat.cc)).length 6))]) (fun x=>x.1++x.2=(zav w n (nth (zaj w ⟨ta,tk⟩ a.ctor) s.1) (nth a.kids s.1) (nth b.kids s.1))) (fun x=>x.2.length) ([],(zav w n (nth (zaj w ⟨ta,tk⟩ a.ctor) s.1) (nth a.kids s.1) (nth b.kids s.1))) (by simp) ⟨⟨_,rfl,LeA.eqi ?_⟩,⟨⟨_,rfl,LeA.glg ?_⟩,trivial⟩⟩ ⟨zad ?_,trivial⟩ (fun x=>rfl) (fun x hg2=>?_)
 iterate 3 focus (first|rfl|(simp;done)|(simp only[List.map_append,List.append_assoc,List.map_cons,List.map_nil,zh7,Pat.cs_cd a.kids,List.map_drop,List.nil_append,List.cons_append];done)|(simp only[List.map_append,List.append_assoc,List.map_cons,List.map_nil,zh7,Pat.cs_cd a.kids,List.map_drop,List.nil_append,List.cons_append];rfl)|(rw[List.append_nil] at hg2;rw[hg2];done)|omega|(simp;omega))
 obtain⟨pre,rest⟩:=x
 dsimp only at hg2 ⊢
 refine evc [] [] ?_
 refine sq (fun h2 h2p h2s=>?_) fun h2 h2p h2s=>?_
 try simp only[Q,Pat.cs_len] at h2p
 rcases rest with _|⟨y,rest⟩
 ·exfalso;simp_all
 refine Walk.sliceEmptyG 7 sl45 .none rfl rfl ?_
 refine evd [] [] ?_
 refine Walk.append sl45 zz56 rfl .none rfl rfl rfl rfl (zaB rfl (by first|rfl|(simp;done)|(simp;omega))) (by intro x hx;first|(simp at hx;subst hx;rfl)|exact zbE _ x hx|exact zbj _ x hx|exact zbj _ x (List.mem_of_mem_drop hx)) (by first|(have h9:=hT s.1 s.2.1 s.2.2 (by omega) hg1.2.2;have h8:=congrArg List.length hg2;simp[Pat.cs_len] at h8 ⊢;omega)|(simp[Pat.cs_len];omega)) (by first|(have h9:=hT s.1 s.2.1 s.2.2 (by omega) hg1.2.2;have h8:=congrArg List.length hg2;simp[Pat.cs_len] at h8 ⊢;omega)|(simp[Pat.cs_len];omega)) ?_
 refine evd [] [] ?_
 refine Walk.idx sl45 .none rfl rfl rfl rfl (Pat.cs_at' hg2) rfl ?_
 refine evd [] [] ?_
 refine Walk.sliceLit sl45 tz56 rfl (by decide) (ks:=[0]) (xs:=[_]) rfl rfl (by decide) (by decide) .none rfl rfl rfl rfl ?_
 refine Walk.append sl45 zz56 rfl .none rfl rfl rfl rfl (zaB rfl (by first|rfl|(simp;done)|(simp;omega))) (by intro x hx;first|(simp at hx;subst hx;rfl)|exact zbE _ x hx|exact zbj _ x hx|exact zbj _ x (List.mem_of_mem_drop hx)) (by first|(have h9:=hT s.1 s.2.1 s.2.2 (by omega) hg1.2.2;have h8:=congrArg List.length hg2;simp[Pat.cs_len] at h8 ⊢;omega)|(simp[Pat.cs_len];omega)) (by first|(have h9:=hT s.1 s.2.1 s.2.2 (by omega) hg1.2.2;have h8:=congrArg List.length hg2;simp[Pat.cs_len] at h8 ⊢;omega)|(simp[Pat.cs_len];omega)) ?_
 refine Walk.build st56 (ks:=[0,1,5]) (xs:=[_,_,_]) rfl rfl .none rfl rfl rfl ?_
 refine Walk.alloc (id:=3015) tz56 rfl .none rfl rfl rfl rfl ?_
 refine Walk.store ty56 .none rfl rfl rfl rfl rfl rfl (by simp) rfl ?_
 refine dr ?_
 refine ar ?_ (by first|(constructor<;>omega)|(have h9:=hT s.1 s.2.1 s.2.2 (by omega) hg1.2.2;have h8:=congrArg List.length hg2;simp only[List.length_append,List.length_cons] at h8;constructor<;>omega))
 refine Walk.cut_l (b:=s.1+1) sl45 .none rfl rfl rfl (by intro x hx;first|(simp at hx;subst hx;rfl)|exact zbE _ x hx|exact zbj _ x hx|exact zbj _ x (List.mem_of_mem_drop hx)) rfl rfl (by simp only[Pat.cs_len];omega) ?_
 refine Walk.append sl45 zz56 rfl .none rfl rfl rfl rfl (zaB rfl (by first|rfl|(simp;done)|(simp;omega))) (by intro x hx;first|(simp at hx;subst hx;rfl)|exact zbE _ x hx|exact zbj _ x hx|exact zbj _ x (List.mem_of_mem_drop hx)) (by first|(have h9:=hT s.1 s.2.1 s.2.2 (by omega) hg1.2.2;have h8:=congrArg List.length hg2;simp[Pat.cs_len] at h8 ⊢;omega)|(simp[Pat.cs_len];omega)) (by first|(have h9:=hT s.1 s.2.1 s.2.2 (by omega) hg1.2.2;have h8:=congrArg List.length hg2;simp[Pat.cs_len] at h8 ⊢;omega)|(simp[Pat.cs_len];omega)) ?_
 refine evd [] [] ?_
 refine Walk.store ty45 .none rfl rfl rfl rfl rfl rfl (by simp) rfl ?_
 refine dr ?_
 refine Walk.sliceLit sl45 tz56 rfl (by decide) (ks:=[0]) (xs:=[_]) rfl rfl (by decide) (by decide) .none rfl rfl rfl rfl ?_
 refine Walk.append sl45 zz56 rfl .none rfl rfl rfl rfl (zaB rfl (by first|rfl|(simp;done)|(simp;omega))) (by intro x hx;first|(simp at hx;subst hx;rfl)|exact zbE _ x hx|exact zbj _ x hx|exact zbj _ x (List.mem_of_mem_drop hx)) (by first|(have h9:=hT s.1 s.2.1 s.2.2 (by omega) hg1.2.2;have h8:=congrArg List.length hg2;simp[Pat.cs_len] at h8 ⊢;omega)|(simp[Pat.cs_len];omega)) (by first|(have h9:=hT s.1 s.2.1 s.2.2 (by omega) hg1.2.2;have h8:=congrArg List.length hg2;simp[Pat.cs_len] at h8 ⊢;omega)|(simp[Pat.cs_len];omega)) ?_
 refine ev ?_
 refine ar ?_ (by first|(constructor<;>omega)|(have h9:=hT s.1 s.2.1 s.2.2 (by omega) hg1.2.2;have h8:=congrArg List.length hg2;simp only[List.length_append,List.length_cons] at h8;constructor<;>omega))
 refine Exists.intro ((pre++[y],rest)) ⟨(by have hz:=hg2;rw[←hz];simp),(by simp),sx ⟨⟨_,rfl,LeA.eqi ?_⟩,⟨⟨_,rfl,LeA.glg ?_⟩,trivial⟩⟩ ⟨zad ?_,trivial⟩⟩
 iterate 3 focus (first|rfl|(simp;done)|(simp only[List.map_append,List.append_assoc,List.map_cons,List.map_nil,zh7,Pat.cs_cd a.kids,List.map_drop,List.nil_append,List.cons_append];done)|(simp only[List.map_append,List.append_assoc,List.map_cons,List.map_nil,zh7,Pat.cs_cd a.kids,List.map_drop,List.nil_append,List.cons_append];rfl)|(rw[List.append_nil] at hg2;rw[hg2];done)|omega|(simp;omega))
 try simp only[Q,Pat.cs_len] at h2p
 have hrest:rest=[]:=by
  rcases rest with _|⟨a,b⟩
  ·rfl
  ·exfalso;have hz:=congrArg List.length (hg2);simp only[List.length_append,List.length_cons,List.length_map] at hz;omega
 subst hrest
 refine Walk.idx sl45 .none rfl rfl rfl rfl (zaI (by omega)) rfl ?_
 refine evd [] [] ?_
 refine Walk.idx sl45 .none rfl rfl rfl rfl (zaI (by omega)) rfl ?_
 refine evd [] [] ?_
 refine wc zqF (hme s.1 (by omega)) rfl rfl ?_
 refine evd [] [] ?_
 refine Walk.alloc (id:=3016) tz56 rfl .none rfl rfl rfl rfl ?_
 refine Walk.store ty56 .none rfl rfl rfl rfl rfl rfl (by simp) rfl ?_
 refine evd [] [] ?_
 refine dr ?_
 refine sq (fun h3 h3p h3s=>?_) fun h3 h3p h3s=>?_
 try simp only[Q,Pat.cs_len] at h3p
 refine rn0 (r1 rfl) (.gld ?_)
 rotate_left
 try simp only[Q,Pat.cs_len] at h3p
 refine Walk.sliceLit sl45 tz56 rfl (by decide) (ks:=[0]) (xs:=[_]) rfl rfl (by decide) (by decide) .none rfl rfl rfl rfl ?_
 refine Walk.append sl45 zz56 rfl .none rfl rfl rfl rfl (zaB rfl (by first|rfl|(simp;done)|(simp;omega))) (by intro x hx;first|(simp at hx;subst hx;rfl)|exact zbE _ x hx|exact zbj _ x hx|exact zbj _ x (List.mem_of_mem_drop hx)) (by first|(have h9:=hT s.1 s.2.1 s.2.2 (by omega) hg1.2.2;have h8:=congrArg List.length hg2;simp[Pat.cs_len] at h8 ⊢;omega)|(simp[Pat.cs_len];omega)) (by first|(have h9:=hT s.1 s.2.1 s.2.2 (by omega) hg1.2.2;have h8:=congrArg List.length hg2;simp[Pat.cs_len] at h8 ⊢;omega)|(simp[Pat.cs_len];omega)) ?_
 refine ev ?_
 refine ar ?_ (by first|(constructor<;>omega)|(have h9:=hT s.1 s.2.1 s.2.2 (by omega) hg1.2.2;have h8:=congrArg List.length hg2;simp only[List.length_append,List.length_cons] at h8;constructor<;>omega))
 refine Exists.intro ((s.1+1,s.2.1++(zav w n (nth (zaj w ⟨ta,tk⟩ a.ctor) s.1) (nth a.kids s.1) (nth b.kids s.1)).map (fun z=>zb2 a.ctor (s.2.2++[z]++a.kids.drop (s.1+1))),s.2.2++[zdB 11 (nth a.kids s.1) (nth b.kids s.1)])) ⟨⟨by dsimp only;omega,by dsimp only;rw[List.length_append,hg1.2.1];rfl,by dsimp only;rw[List.append_assoc,←zoL (by omega) (by omega) (by omega) (by assumption)];exact hg1.2.2⟩,(by dsimp only;omega),sx ⟨⟨_,rfl,LeA.eqi ?_⟩,⟨⟨_,rfl,LeA.glg ?_⟩,⟨⟨_,rfl,LeA.glg ?_⟩,trivial⟩⟩⟩ ⟨zad ?_,⟨zad ?_,trivial⟩⟩⟩
 iterate 5 focus (first|rfl|(simp;done)|(simp_all;done)|omega|(simp;omega))
 try simp only[Q,Pat.cs_len] at h1p
 refine rn0 (r1 rfl) (.gld ?_)
 rotate_left
 all_goals (first|rfl|(rw[←hg1.2.2,zlI (by omega),List.append_nil,Pat.cs_cd];done)|(rw[List.append_nil] at hg2;rw[←hg1.2.2,zkf (by omega) (by omega) (by omega) (by assumption),←hg2,Pat.cs_cd];all_goals rfl))
theorem zo1 {n:Nat}{ta tk:Int}{a b:Pat} (h:b.op=1):MinusSp w (n+1) ta tk a b:=by
 unfold MinusSp
 rw[zhS h]
 refine bd Tryz.f198 82 [] [] fun w0 F0 own kept hk=>?_
 refine Walk.box (id:=3005) .none rfl rfl rfl rfl rfl rfl rfl ?_
 refine Walk.box (id:=3006) .none rfl rfl rfl rfl rfl rfl rfl ?_
 refine Walk.box (id:=3007) .none rfl rfl rfl rfl rfl rfl rfl ?_
 refine ev ?_
 refine sq (fun h1 h1p h1s=>?_) fun h1 h1p h1s=>?_
 try simp only[Q] at h1p
 refine Walk.sliceEmpty sl45 .none rfl ?_
 refine ev ?_
 refine rn0 (r1 rfl) (.eqd ?_)
 rotate_left
 try simp only[Q] at h1p
 exfalso;omega
 all_goals (rfl)
theorem zo2 {n:Nat}{ta tk:Int}{a b:Pat} (h:b.op=3) (ha:a.op=1∨a.op=3) (hbn:0≤b.n∧b.n≤9) (hbm:0≤b.m∧b.m≤9):MinusSp w (n+1) ta tk a b:=by
 unfold MinusSp
 rw[zjP h]
 by_cases h1:a.op=1
 ·have e:zeu a b=zcg 0 (minQ 9 (b.n-1))++zcg (maxQ 0 (b.m+1)) 9:=by
   have e1:lowQ a=0:=if_pos h1
   have e2:zc9 a=9:=if_pos h1
   unfold zeu;rw[e1,e2]
  have hr:=zgU (a:=intQ 0 9) hbn hbm
  rw[e]
  refine bd Tryz.f198 82 [] [] fun w0 F0 own kept hk=>?_
  refine Walk.box (id:=3005) .none rfl rfl rfl rfl rfl rfl rfl ?_
  refine Walk.box (id:=3006) .none rfl rfl rfl rfl rfl rfl rfl ?_
  refine Walk.box (id:=3007) .none rfl rfl rfl rfl rfl rfl rfl ?_
  refine ev ?_
  refine sq (fun h1 h1p h1s=>?_) fun h1 h1p h1s=>?_
  try simp only[Q] at h1p
  exfalso;omega
  try simp only[Q] at h1p
  refine sq (fun h2 h2p h2s=>?_) fun h2 h2p h2s=>?_
  try simp only[Q] at h2p
  refine sq (fun h3 h3p h3s=>?_) fun h3 h3p h3s=>?_
  try simp only[Q] at h3p
  refine Walk.build st56 (ks:=[0,3]) (xs:=[_,_]) rfl rfl .none rfl rfl rfl ?_
  refine ev ?_
  refine Walk.call (cr:=[]) zqL (hr) rfl .none rfl rfl (.cons (.agg (.cons (.refl _) (.cons (.refl _) (.cons (.refl _) (.cons (.refl _) (.cons (.refl _) (.cons .nil .nil))))))) (.cons (.refl _) .nil)) trivial rfl rfl rfl ?_
  refine ev ?_
  focus (refine rn0 (r1 rfl) (.eqd ?_);all_goals (first|rfl|(simp[h1s,h1p,h2s,h2p,h3s,h3p];done)|(simp_all;done)|(simp_all;omega)|omega))
  try simp only[Q] at h3p
  focus (exfalso;first|omega|(simp_all;done))
  try simp only[Q] at h2p
  exfalso;omega
 ·have e:zeu a b=zcg a.n (minQ a.m (b.n-1))++zcg (maxQ a.n (b.m+1)) a.m:=by
   have e1:lowQ a=a.n:=if_neg h1
   have e2:zc9 a=a.m:=if_neg h1
   unfold zeu;rw[e1,e2]
  have hr:=zgU (a:=a) hbn hbm
  rw[e]
  refine bd Tryz.f198 82 [] [] fun w0 F0 own kept hk=>?_
  refine Walk.box (id:=3005) .none rfl rfl rfl rfl rfl rfl rfl ?_
  refine Walk.box (id:=3006) .none rfl rfl rfl rfl rfl rfl rfl ?_
  refine Walk.box (id:=3007) .none rfl rfl rfl rfl rfl rfl rfl ?_
  refine ev ?_
  refine sq (fun h1 h1p h1s=>?_) fun h1 h1p h1s=>?_
  try simp only[Q] at h1p
  exfalso;omega
  try simp only[Q] at h1p
  refine sq (fun h2 h2p h2s=>?_) fun h2 h2p h2s=>?_
  try simp only[Q] at h2p
  refine sq (fun h3 h3p h3s=>?_) fun h3 h3p h3s=>?_
  try simp only[Q] at h3p
  focus (exfalso;first|omega|(simp_all;done))
  try simp only[Q] at h3p
  refine sq (fun h4 h4p h4s=>?_) fun h4 h4p h4s=>?_
  try simp only[Q] at h4p
  refine wc zqL (hr) rfl rfl ?_
  refine ev ?_
  focus (refine rn0 (r1 rfl) (.eqd ?_);all_goals (first|rfl|(simp[h1s,h1p,h2s,h2p,h3s,h3p,h4s,h4p];done)|(simp_all;done)|(simp_all;omega)|omega))
  try simp only[Q] at h4p
  exfalso;omega
  try simp only[Q] at h2p
  exfalso;omega
theorem zo5 {n:Nat}{ta tk:Int}{a b:Pat} (h4:a.op=4) (h4b:b.op=4) (hc:¬a.ctor=b.ctor):MinusSp w (n+1) ta tk a b:=by
 unfold MinusSp
 have e:zav w (n+1) ⟨ta,tk⟩ a b=[a]:=by rw[zeg h4b h4];exact if_neg hc
 rw[e]
 refine bd Tryz.f198 82 [] [] fun w0 F0 own kept hk=>?_
 refine Walk.box (id:=3005) .none rfl rfl rfl rfl rfl rfl rfl ?_
 refine Walk.box (id:=3006) .none rfl rfl rfl rfl rfl rfl rfl ?_
 refine Walk.box (id:=3007) .none rfl rfl rfl rfl rfl rfl rfl ?_
 refine ev ?_
 refine sq (fun h1 h1p h1s=>?_) fun h1 h1p h1s=>?_
 try simp only[Q] at h1p
 exfalso;omega
 try simp only[Q] at h1p
 refine sq (fun h2 h2p h2s=>?_) fun h2 h2p h2s=>?_
 try simp only[Q] at h2p
 exfalso;omega
 try simp only[Q] at h2p
 refine sqF ?_
 refine sq (fun h4 h4p h4s=>?_) fun h4 h4p h4s=>?_
 try simp only[Q] at h4p
 exfalso;omega
 try simp only[Q] at h4p
 refine sq (fun h5 h5p h5s=>?_) fun h5 h5p h5s=>?_
 try simp only[Q] at h5p
 refine sq (fun h6 h6p h6s=>?_) fun h6 h6p h6s=>?_
 try simp only[Q] at h6p
 refine Walk.sliceLit sl45 tz56 rfl (by decide) (ks:=[0]) (xs:=[_]) rfl rfl (by decide) (by decide) .none rfl rfl rfl rfl ?_
 refine ev ?_
 refine rn0 (r1 rfl) (.eqd ?_)
 rotate_left
 try simp only[Q] at h6p
 focus (exfalso;first|omega|(simp_all;done))
 try simp only[Q] at h5p
 exfalso;omega
 all_goals (first|rfl|(cases a;rfl))
theorem zo4 (hs:Spa w){n m:Nat} (hn:n+1≤10) (hm:m+1≤11) (hnm:n<m)
  (ih:∀ {ta tk:Int}{a b:Pat},InS (w.length*4) ⟨ta,tk⟩→zam w m ⟨ta,tk⟩ a=true→zam w n ⟨ta,tk⟩ b=true→MinusSp w n ta tk a b)
  {ta tk:Int}{a b:Pat} (ht:InS (w.length*4) ⟨ta,tk⟩) (ha:zam w (m+1) ⟨ta,tk⟩ a=true) (hb:zam w (n+1) ⟨ta,tk⟩ b=true) (h4:a.op=4) (h4b:b.op=4) (hc:a.ctor=b.ctor):MinusSp w (n+1) ta tk a b:=by
 have hki:=zmS hs hn hm hnm ih ht ha hb h4 h4b hc
 clear ih
 unfold MinusSp
 refine bd Tryz.f198 82 [] [] fun w0 F0 own kept hk=>?_
 refine Walk.box (id:=3005) .none rfl rfl rfl rfl rfl rfl rfl ?_
 refine Walk.box (id:=3006) .none rfl rfl rfl rfl rfl rfl rfl ?_
 refine Walk.box (id:=3007) .none rfl rfl rfl rfl rfl rfl rfl ?_
 refine ev ?_
 refine sq (fun h1 h1p h1s=>?_) fun h1 h1p h1s=>?_
 try simp only[Q] at h1p
 exfalso;omega
 try simp only[Q] at h1p
 refine sq (fun h2 h2p h2s=>?_) fun h2 h2p h2s=>?_
 try simp only[Q] at h2p
 exfalso;omega
 try simp only[Q] at h2p
 refine sqF ?_
 refine sq (fun h4 h4p h4s=>?_) fun h4 h4p h4s=>?_
 try simp only[Q] at h4p
 exfalso;omega
 try simp only[Q] at h4p
 refine sq (fun h5 h5p h5s=>?_) fun h5 h5p h5s=>?_
 try simp only[Q] at h5p
 refine sq (fun h6 h6p h6s=>?_) fun h6 h6p h6s=>?_
 try simp only[Q] at h6p
 focus (exfalso;first|omega|(simp_all;done))
 try simp only[Q] at h6p
 refine sq (fun h7 h7p h7s=>?_) fun h7 h7p h7s=>?_
 try simp only[Q] at h7p
 refine wc ztF (hki) rfl rfl ?_
 refine ev ?_
 focus (refine rn0 (r1 rfl) (.eqd ?_);all_goals (first|rfl|(simp[h1s,h1p,h2s,h2p,h4s,h4p,h5s,h5p,h6s,h6p,h7s,h7p];done)|(simp_all;done)|(simp_all;omega)|omega))
 try simp only[Q] at h7p
 exfalso;omega
 try simp only[Q] at h5p
 exfalso;omega
theorem zo3 (hs:Spa w){n:Nat}{ta tk:Int}{a b:Pat} (ht:InS (w.length*4) ⟨ta,tk⟩) (h1:a.op=1) (h4b:b.op=4) (hbd:(zav w (n+1) ⟨ta,tk⟩ a b).length≤20000000)
  (hC:∀c∈zaA w ⟨ta,tk⟩,MinusSp w (n+1) ta tk (zch w ⟨ta,tk⟩ c) b):MinusSp w (n+1) ta tk a b:=by
 have e:zav w (n+1) ⟨ta,tk⟩ a b=(zaA w ⟨ta,tk⟩).flatMap fun c=>zav w (n+1) ⟨ta,tk⟩ (zch w ⟨ta,tk⟩ c) b:=by
  rw[zhT h4b h1]
  exact congrArg (fun g=>(zaA w ⟨ta,tk⟩).flatMap g) (funext fun c=>(zeg h4b rfl).symm)
 unfold MinusSp
 rw[e] at hbd ⊢
 have hcl:=(hs.ctors _ ht).1
 have hpre:∀ {pre rest:List Int}{y:Int},pre++y::rest=zaA w ⟨ta,tk⟩→(pre.flatMap fun c=>zav w (n+1) ⟨ta,tk⟩ (zch w ⟨ta,tk⟩ c) b).length+(zav w (n+1) ⟨ta,tk⟩ (zch w ⟨ta,tk⟩ y) b).length≤20000000:=fun h=>by
  rw[←h,List.flatMap_append,List.flatMap_cons] at hbd
  simp only[List.length_append] at hbd
  omega
 have hmem:∀ {pre rest:List Int}{y:Int},pre++y::rest=zaA w ⟨ta,tk⟩→y∈zaA w ⟨ta,tk⟩:=fun h=>by rw[←h];simp
 refine bd Tryz.f198 82 [] [] fun w0 F0 own kept hk=>?_
 refine Walk.box (id:=3005) .none rfl rfl rfl rfl rfl rfl rfl ?_
 refine Walk.box (id:=3006) .none rfl rfl rfl rfl rfl rfl rfl ?_
 refine Walk.box (id:=3007) .none rfl rfl rfl rfl rfl rfl rfl ?_
 refine ev ?_
 refine sq (fun h1 h1p h1s=>?_) fun h1 h1p h1s=>?_
 try simp only[Q,Pat.cs_len] at h1p
 exfalso;omega
 try simp only[Q,Pat.cs_len] at h1p
 refine sq (fun h2 h2p h2s=>?_) fun h2 h2p h2s=>?_
 try simp only[Q,Pat.cs_len] at h2p
 exfalso;omega
 try simp only[Q,Pat.cs_len] at h2p
 refine sqF ?_
 refine sq (fun h4 h4p h4s=>?_) fun h4 h4p h4s=>?_
 try simp only[Q,Pat.cs_len] at h4p
 exfalso;omega
 try simp only[Q,Pat.cs_len] at h4p
 refine sq (fun h5 h5p h5s=>?_) fun h5 h5p h5s=>?_
 try simp only[Q,Pat.cs_len] at h5p
 exfalso;omega
 try simp only[Q,Pat.cs_len] at h5p
 refine sqF ?_
 refine sq (fun h7 h7p h7s=>?_) fun h7 h7p h7s=>?_
 try simp only[Q,Pat.cs_len] at h7p
 exfalso;omega
 try simp only[Q,Pat.cs_len] at h7p
 refine Walk.sliceEmptyG 9 sl45 .none rfl rfl ?_
 refine ev ?_
 refine wc zhI (zcY hs.dp.wt (zcK ht)) rfl rfl ?_
 refine ev ?_
 refine CWp.loopX (ι:=List (Int)×List (Int)) hk (fun x=>[(11,.d (.i (x.1.length:Int))),(9,.gl 9 (Pat.cs (x.1.flatMap fun c=>zav w (n+1) ⟨ta,tk⟩ (zch w ⟨ta,tk⟩ c) b)))]) [62,63,64,65,66,67,68,69,70,71,72,73,74,75,76,77,78,79,80] (fun x=>[(9,some (.tok ((Pat.cs (x.1.flatMap fun c=>zav w (n+1) ⟨ta,tk⟩ (zch w ⟨ta,tk⟩ c) b))).length 6))]) (fun x=>x.1++x.2=zaA w ⟨ta,tk⟩) (fun x=>x.2.length) ([],zaA w ⟨ta,tk⟩) (by simp) ⟨⟨_,rfl,LeA.eqi ?_⟩,⟨⟨_,rfl,LeA.glg ?_⟩,trivial⟩⟩ ⟨zad ?_,trivial⟩ (fun x=>rfl) (fun x hg1=>?_)
 iterate 3 focus (first|rfl|(rw[List.flatMap_append,Pat.cs_cd,Pat.cs_cd,Pat.cs_cd,List.map_append];simp;done)|(simp[Pat.cs_len];done)|omega|(simp;omega))
 obtain⟨pre,rest⟩:=x
 dsimp only at hg1 ⊢
 refine evc [] [] ?_
 refine sq (fun h8 h8p h8s=>?_) fun h8 h8p h8s=>?_
 try simp only[Q,Pat.cs_len] at h8p
 rcases rest with _|⟨y,rest⟩
 ·exfalso;simp_all
 refine Walk.idx zbQ .none rfl rfl rfl rfl (zaV hg1) rfl ?_
 refine evd [] [] ?_
 refine wc ztG (znQ hs.dp.wt (zcK ht) (hmem hg1) (hs.args _ _ ht (hmem hg1))) rfl rfl ?_
 refine evd [] [] ?_
 refine wc zoh (hC y (hmem hg1)) rfl rfl ?_
 refine Walk.append sl45 zz56 rfl .none rfl rfl rfl rfl (zaB rfl (by first|rfl|(simp;done)|(simp;omega))) (by exact zbj _) (by have h9:=hpre hg1;simp only[Pat.cs_len];omega) (by have h9:=hpre hg1;simp only[Pat.cs_len];omega) ?_
 refine evd [] [] ?_
 refine dr ?_
 refine ar ?_
 refine Exists.intro ((pre++[y],rest)) ⟨(by have hz:=hg1;rw[←hz];simp),(by simp),sx ⟨⟨_,rfl,LeA.eqi ?_⟩,⟨⟨_,rfl,LeA.glg ?_⟩,trivial⟩⟩ ⟨zad ?_,trivial⟩⟩
 iterate 3 focus (first|rfl|(rw[List.flatMap_append,Pat.cs_cd,Pat.cs_cd,Pat.cs_cd,List.map_append];simp;done)|(simp[Pat.cs_len];done)|omega|(simp;omega))
 try simp only[Q,Pat.cs_len] at h8p
 have hrest:rest=[]:=by
  rcases rest with _|⟨a,b⟩
  ·rfl
  ·exfalso;have hz:=congrArg List.length (hg1);simp only[List.length_append,List.length_cons,List.length_map] at hz;omega
 subst hrest
 refine rn0 (r1 rfl) (.gld ?_)
 rotate_left
 all_goals (first|rfl|(rw[List.append_nil] at hg1;rw[hg1];done))
theorem zhs (hs:Spa w):∀(n m:Nat){ta tk:Int}{a b:Pat},n<m→n≤10→m≤11→InS (w.length*4) ⟨ta,tk⟩→zam w m ⟨ta,tk⟩ a=true→zam w n ⟨ta,tk⟩ b=true→MinusSp w n ta tk a b
 |0,m,ta,tk,a,b,_,_,_,_,_,hb=>by simp[zam] at hb
 |n+1,0,ta,tk,a,b,h,_,_,_,_,_=>by omega
 |n+1,m+1,ta,tk,a,b,h,hn,hm,ht,ha,hb=>by
  have hC:∀ {a:Pat},zam w (m+1) ⟨ta,tk⟩ a=true→a.op=4→b.op=4→MinusSp w (n+1) ta tk a b:=fun {a} ha h4 h4b=>by
   by_cases hc:a.ctor=b.ctor
   ·exact zo4 hs hn hm (by omega) (fun h1 h2 h3=>zhs hs n m (by omega) (by omega) (by omega) h1 h2 h3) ht ha hb h4 h4b hc
   ·exact zo5 h4 h4b hc
  rcases zce hb with h1|h3|h4b
  ·exact zo1 h1
  ·have:=zcx hb h3
   refine zo2 h3 ?_ ⟨by omega,by omega⟩ ⟨by omega,by omega⟩
   by_cases h1:a.op=1
   ·exact .inl h1
   ·exact .inr (by have:=zdI ha hb h1 (by omega);omega)
  ·by_cases h1:a.op=1
   ·obtain⟨m',rfl⟩:∃m',m=m'+1:=⟨m-1,by omega⟩
    exact zo3 hs ht h1 h4b (zfu hs h hn ht ha hb) (fun c hc=>hC (zdJ hc) rfl h4b)
   ·exact hC ha (by have:=zdI ha hb h1 (by omega);omega) h4b
end
section
variable {c:Ctx}{all:Array Oper}{chk:List Rec→Prop}{os:List Oper}{recs:List Rec}{env:Env}{hp:Hp}{Q:St→Prop}
variable {d ty:Nat}{pos:String}{af:Array Edge}{g:Option (Nat×Bool)}{pg:List (Nat×AV)}{t yt:TypeId}{x y:Operand}
theorem Walk.appendM {id k e yb:Nat}{xs ys:List (List D)}{vy:AV}{ids:List Nat} (hkp:KeptIn c.kept ids) (hid:za0 id ids=false) (hne:xs++ys≠[]) (ht:SlT c.P t e k yb) (hz:ZeroT c.P e k) (hg:GH all env g pg) (hd:Nat.blt d c.n=true)
  (hx:opd env x=some (.gv id xs)) (hy:opd env y=some vy) (hyd:vy.toD=some (.sl ys)) (htok:getH hp id=some (.tok xs.length k)) (hky:∀y,y∈ys→y.length=k)
  (hb:(xs.length+ys.length)*yb≤140737488355328) (hm:xs.length+ys.length≤9223372036854775807)
  (hn:Walk c all chk os (zaq (pg++(opF x (.gv id xs)++opF y vy)) [(id,.tok xs.length k)] [] ⟨some (d,.ms id (xs++ys).length),[(id,some (.box ((xs++ys).flatten.map .d)))]⟩::recs)
   ⟨(d,.ms id (xs++ys).length)::env,(id,some (.box ((xs++ys).flatten.map .d)))::hp⟩ Q):
  Walk c all chk (⟨some d,.call ⟨.builtin .append,#[x,y],#[t,t]⟩,ty,pos,af,g⟩::os) recs ⟨env,hp⟩ Q:=by
 refine⟨pg++(opF x (.gv id xs)++opF y vy),[(id,.tok xs.length k)],[],_, ?_,zax hg.facts (zax (za3 hx) (za3 hy)),hh1 htok,by simp,hn⟩
 intro s a w hrel hp' hh _ K Q' hK
 obtain⟨G,hr⟩:=hrel
 have e1:=hr.opd (za4 hx (fun p hm=>hp' p (by simp[hm])))
 have e2:=hr.opd (za4 hy (fun p hm=>hp' p (by simp[hm])))
 obtain⟨i,z,z1,z2,z3⟩:=hz.out
 obtain⟨v',w',G',hrun,hR,hA⟩:=ziR hr ht ⟨i,z1,z2,z3⟩ (hh1' hh) e1 (e2.toD hyd) hky hb hm ty
 unfold wpO
 rw[if_pos (hg.gf.wanted hr (fun p hm=>hp' p (by simp[hm])))]
 unfold Oper.wp
 have:(execOp a.eval ⟨some d,.call ⟨.builtin .append,#[x,y],#[t,t]⟩,ty,pos,af,g⟩).run c.P w = .ok (.value v') w':=by
  simp only[execOp,resolve,invoke,builtin,Sem.run_bind,Sem.run_pure,Result.andThen_ok,List.map_toArray,List.map_cons,List.map_nil,hrun]
 rw[this,Oper.upon_value]
 have hV:Rel c ⟨(d,.gv id (xs++ys))::s.env,(id,some (.tok (xs.length+ys.length) k))::s.hp⟩ (a.put (some d) v') w':=⟨G',hR.put hA hd⟩
 rcases Rel.fixV hkp d id k (xs:=xs++ys) (by simp[getE]) (by rw[zai,if_pos rfl,List.length_append]) hid hV with ⟨h,_⟩|⟨_,h⟩
 ·exact absurd h hne
 ·refine hK _ _ (h.congr (fun j=>?_) (fun j=>?_))
  ·show getE ((d,_)::s.env) j=getE ((d,_)::(d,_)::s.env) j
   simp only[getE]
   cases Nat.beq d j<;>rfl
  ·show getH ((id,_)::s.hp) j=getH ((id,_)::(id,_)::s.hp) j
   rw[zai,zai,zai]
   by_cases hj:j=id
   ·rw[if_pos hj,if_pos hj]
   ·rw[if_neg hj,if_neg hj,if_neg hj]
end
theorem FnD.boxD {P:Program}{f:FuncId}{i n k:Nat}{args:List AV}{cs:List AV}{es:List (List D)} (hc:zcB n k (cs.take (n*k))=some es) (h:FnD P f args [] (.ms i n) [(i,some (.box cs))]):FnD P f args [] (.d (.sl es)) []:=by
 intro G w vals hok
 refine(h G w vals hok).mono ?_
 rintro e w' ⟨v,r',hp',G',rfl,⟨rfl,rfl⟩,hret⟩
 have gi:getH ([(i,some (Res.box cs))]++[]) i=some (.box cs):=by simp[getH]
 obtain⟨b,us,et,q1,q2,q3,q4,q5⟩:=hret.heap i _ gi
 have hown:∀b,b∉zbT G []:=fun b hb=>by simp[zbT] at hb
 have hnew:w.heap.size≤b:=(hret.new i (by rw[gi];rfl) b (by rw[q1];simp)).resolve_left (hown b)
 have hlt:b<w'.heap.size:=by
  rcases Nat.lt_or_ge b w'.heap.size with h|h
  ·exact h
  ·rw[Array.getElem?_eq_none h] at q2;cases q2
 let G2:Gh:={ G' with F:=fun x=>bif Nat.beq x b then us.size else G'.F x }
 have hin:G2.F b=us.size:=by simp[G2]
 have hout:∀x,x≠b→G2.F x=G'.F x:=fun x hx=>by
  have:Nat.beq x b=false:=by
   cases h:Nat.beq x b with
   |true=>exact absurd (Nat.eq_of_beq_eq_true h) hx
   |false=>rfl
  simp[G2,this]
 have hle:∀x o,o<G'.F x→o<G2.F x:=fun x o ho=>by
  by_cases hx:x=b
  ·subst hx;rw[q4] at ho;omega
  ·rw[hout x hx];exact ho
 refine⟨v,_,_,G2,rfl,⟨rfl,rfl⟩,zsL hret.res q1 q2 q3 q5 hin (fun y o ho=>⟨hle y o ho,rfl⟩) hc,fun id x hx=>(by cases hx),fun id id' h1=>(by cases h1),fun id h1=>(by cases h1), ?_,fun x hx=>?_,fun id hi=>(by simp[zbO,getH] at hi)⟩
 ·have hf:=hret.frm
  exact⟨hf.os,hf.tape,hf.output,hf.size,fun x hx hn=>⟨(hf.block x hx hn).1,by rw[hout x (by omega)];exact(hf.block x hx hn).2⟩,fun x o ho=>⟨hle x o (hf.cell x o ho).1,(hf.cell x o ho).2⟩⟩
 ·rw[hout x (by omega)];exact hret.top x hx
def pd (s:List Pat):List AV:=(s.map Pat.cc).flatten.map .d
theorem zeQ (a b:List Pat):pd (a++b)=pd a++pd b:=by simp[pd]
theorem zlU (x:Pat):pd [x]=[.d (.i x.op),.d (.i x.ctor),.d (.i x.n),.d (.i x.m),.d (.i x.var),.d (zaf x.kids)]:=rfl
theorem zhW (s:List Pat):(pd s).length=s.length*6:=by
 induction s with
 |nil=>rfl
 |cons x r ih=>rw[show x::r=[x]++r from rfl,zeQ,List.length_append,ih,zlU];simp;omega
theorem zoQ {s:List Pat}{i:Nat} (h:i<s.length):pd s=pd (s.take i)++(pd [nth s i]++pd (s.drop (i+1))):=by
 rw[←zeQ,←zeQ]
 congr 1
 rw[show [nth s i]++s.drop (i+1)=nth s i::s.drop (i+1) from rfl,←za9 h,List.take_append_drop]
theorem zhV (s:List Pat):AV.idsL (pd s)=[]:=by
 unfold pd
 induction (s.map Pat.cc).flatten with
 |nil=>rfl
 |cons x r ih=>rw[List.map_cons,AV.idsL,ih];rfl
theorem zrg {s:List Pat}{i:Nat} (h:i<s.length):cutC (pd s) (i*6) 6=some [.d (.i (nth s i).op),.d (.i (nth s i).ctor),.d (.i (nth s i).n),.d (.i (nth s i).m),.d (.i (nth s i).var),.d (zaf (nth s i).kids)]:=by
 rw[zoQ h,zqV (by rw[zhW,List.length_take];omega) (r:=pd [nth s i])]
 ·rfl
 ·rw[zlU];first|exact zsH|(simp[cutC];done)
theorem zt8 {s:List Pat}{i:Nat} (h:i<s.length){t:Pat}:putC (pd s) (i*6) [.d (.i t.op),.d (.i t.ctor),.d (.i t.n),.d (.i t.m),.d (.i t.var),.d (zaf t.kids)]=some (pd (s.set i t)):=by
 rw[zoQ h,znr (by rw[zhW,List.length_take];omega) (B':=pd [t]++pd (s.drop (i+1))) (by rw[zlU,zlU];simp[putC])]
 rw[List.set_eq_take_append_cons_drop,if_pos h,←zeQ,←zeQ]
 rfl
abbrev z6:List AV:=[.d (.i 0),.d (.i 0),.d (.i 0),.d (.i 0),.d (.i 0),.nils]
theorem zsS {s:List Pat}{i n:Nat} (hn:s.length=n) (h:i≤n):putC (pd s) (i*6) (zaE (n-i) z6)=some (pd (s.take i)++zaE (n-i) z6):=by
 subst hn
 have e:pd s=pd (s.take i)++(pd (s.drop i)++[]):=by
  rw[List.append_nil,←zeQ,List.take_append_drop]
 have e2:putC (pd (s.take i)++(pd (s.drop i)++[])) (i*6) (zaE (s.length-i) z6)=some (pd (s.take i)++(zaE (s.length-i) z6++[])):=by
  rw[zoU (by rw[zhW,List.length_take];omega) ?_]
  rw[zhW,List.length_drop,zem];rfl
 rw[←e,List.append_nil] at e2
 exact e2
theorem zrR {s:List Pat}{tl:List AV}:zcB s.length 6 ((pd s++tl).take (s.length*6))=some (s.map Pat.cc):=by
 rw[List.take_append_of_le_length (by rw[zhW];exact Nat.le_refl _),List.take_of_length_le (by rw[zhW];exact Nat.le_refl _)]
 have:=zer (f:=Pat.cc) (k:=6) (l:=s) (fun _ _=>rfl)
 rw[←this]
 congr 1
 unfold pd
 induction s with
 |nil=>rfl
 |cons x r ih=>
  simp only[List.map_cons,List.flatten_cons,List.map_append,List.flatMap_cons]
  exact congrArg (_++·) (ih (zer (fun _ _=>rfl)))
theorem Pat.cs_ccs (l:List Pat):Pat.cs l=l.map Pat.cc:=by
 rw[Pat.cs_eq];exact List.map_congr_left (fun v _=>Pat.c_eq v)
theorem Ex.cs_ccs (l:List Ex):Ex.cs l=l.map Ex.cc:=by
 rw[Ex.cs_eq];exact List.map_congr_left (fun v _=>Ex.c_eq v)
theorem zeo {xs:List Pat}{f:Nat}{caps:List AV}{hp:Hp}{p:Pat→Bool} (hs:xs.length≤1000000000000) (hcal:Callee Tryz.prog f)
  (hf:∀t∈xs,FnD Tryz.prog f ([.agg [.d (.i t.op),.d (.i t.ctor),.d (.i t.n),.d (.i t.m),.d (.i t.var),.d (zaf t.kids)]]++caps) hp (.d (.bool (p t))) []) (k1:subH hp hp) (k2:zdP hp=true) (k3:zat hp [] (.d .nilp) []=true):
  FnD Tryz.prog 191 [.d (zaf xs),.fn f caps] hp (.d (.i (idxF p xs 0))) []:=by
 rw[show zaf xs=D.sl (xs.map Pat.cc) by show D.sl (Pat.cs xs)=_;rw[Pat.cs_ccs]]
 refine bd Tryz.f191 19 [] [] fun w0 F0 own kept hk=>?_
 refine CWp.loopX (ι:=List (Pat)×List (Pat)) hk (fun x=>[(8,.d (.i (x.1.length:Int)))]) [4,5,9,10,11,12,13,14,15,16,17,18] (fun x=>[]) (fun x=>x.1++x.2=xs∧idxF p x.2 x.1.length=idxF p xs 0) (fun x=>x.2.length) ([],xs) ⟨by simp,rfl⟩ ⟨⟨_,rfl,LeA.eqi ?_⟩,trivial⟩ trivial (fun x=>zgf hp) (fun x hg1=>?_)
 focus (first|rfl|(simp;done)|(simp_all;done)|omega)
 obtain⟨pre,rest⟩:=x
 dsimp only at hg1 ⊢
 refine evc [] [] ?_
 refine sq (fun h1 h1p h1s=>?_) fun h1 h1p h1s=>?_
 try simp only[Q] at h1p
 rcases rest with _|⟨y,rest⟩
 ·exfalso;simp_all
 refine Walk.idx sl45 .none rfl rfl rfl rfl (zaV hg1.1) rfl ?_
 refine ev ?_
 refine Walk.callV (cr:=[]) hcal (hf y (by rw[←hg1.1];simp)) rfl .none rfl rfl rfl (LeL.refl _) k1 k2 (zc0 k3 _) rfl ?_
 refine tv ?_
 refine sq (fun h2 h2p h2s=>?_) fun h2 h2p h2s=>?_
 try simp only[Q] at h2p
 focus (refine rn [] (r1 rfl) (.eqd ?_) ⟨rfl,rfl⟩ (fun _ _ h=>h) (fun _ h=>h);all_goals (rw[←hg1.2];simp[idxF,h1s,h1p,h2s,h2p]))
 try simp only[Q] at h2p
 refine ar ?_
 refine Exists.intro ((pre++[y],rest)) ⟨⟨(by have hz:=hg1.1;rw[←hz];simp),(by rw[←hg1.2];simp[idxF,h2s])⟩,(by simp),Sub.x (by kernel_rfl) (by kernel_rfl) ⟨⟨_,rfl,LeA.eqi ?_⟩,trivial⟩ (by simp) (by simp[zdp]) trivial⟩
 focus (first|rfl|(simp;done)|(simp_all;done)|omega)
 try simp only[Q] at h1p
 have hrest:rest=[]:=by
  rcases rest with _|⟨a,b⟩
  ·rfl
  ·exfalso;have hz:=congrArg List.length (hg1.1);simp only[List.length_append,List.length_cons,List.length_map] at hz;omega
 subst hrest
 focus (refine rn [] (r1 rfl) (.eqd ?_) ⟨rfl,rfl⟩ (fun _ _ h=>h) (fun _ h=>h);all_goals (rw[←hg1.2];simp[idxF,h1s,h1p]))
theorem zf5 {xs:List Pat}{f:Nat}{caps:List AV}{hp:Hp}{p:Pat→Bool} (hs:xs.length≤1000000000000) (hcal:Callee Tryz.prog f)
  (hf:∀t∈xs,FnD Tryz.prog f ([.agg [.d (.i t.op),.d (.i t.ctor),.d (.i t.n),.d (.i t.m),.d (.i t.var),.d (zaf t.kids)]]++caps) hp (.d (.bool (p t))) []) (k1:subH hp hp) (k2:zdP hp=true) (k3:zat hp [] (.d .nilp) []=true):
  FnD Tryz.prog 117 [.d (zaf xs),.fn f caps] hp (.d (.bool (xs.any p))) []:=by
 refine bd Tryz.f117 9 [] [] fun w0 F0 own kept hk=>?_
 refine Walk.call (cr:=[]) zk0 (zeo hs hcal hf k1 k2 k3) rfl .none rfl rfl (LeL.refl _) k1 k2 (zc0 k3 _) rfl ?_
 refine ev ?_
 refine rn [] (r1 rfl) (.eqd ?_) ⟨rfl,rfl⟩ (fun _ _ h=>h) (fun _ h=>h)
 rotate_left
 all_goals (exact congrArg D.bool (zeE p xs 0))
theorem zew {xs:List Pat}{f:Nat}{B2 B3:List AV}{p:Pat→Bool} (hs:xs.length≤1000000000000) (hcal:Callee Tryz.prog f) (hB2:AV.idsL B2=[]) (hB3:AV.idsL B3=[])
  (hf:∀t∈xs,FnD Tryz.prog f [.agg [.d (.i t.op),.d (.i t.ctor),.d (.i t.n),.d (.i t.m),.d (.i t.var),.d (zaf t.kids)],.ref 3003 0,.ref 3004 0] [(3003,some (.box B2)),(3004,some (.box B3))] (.d (.bool (p t))) []):
  FnD Tryz.prog 191 [.ms 1 xs.length,.fn f [.ref 3003 0,.ref 3004 0]] [(1,some (.box (pd xs))),(3003,some (.box B2)),(3004,some (.box B3))] (.d (.i (idxF p xs 0))) []:=by
 refine bd Tryz.f191 19 [15] [] fun w0 F0 own kept hk=>?_
 refine CWp.loopX (ι:=Nat) hk (fun i=>[(8,.d (.i (i:Int)))]) [4,5,9,10,11,12,13,14,15,16,17,18] (fun i=>[]) (fun i=>i≤xs.length∧idxF p (xs.drop i) i=idxF p xs 0) (fun i=>xs.length-i) 0 ⟨by omega,rfl⟩ ⟨⟨_,rfl,LeA.eqi ?_⟩,trivial⟩ trivial (fun x=>rfl) (fun i hg1=>?_)
 focus (first|rfl|(simp;done)|(simp_all;done)|omega)
 refine evc [15] [] ?_
 refine sq (fun h1 h1p h1s=>?_) fun h1 h1p h1s=>?_
 try simp only[Q] at h1p
 refine Walk.idxM sl45 .none rfl rfl rfl rfl (by first|omega|(simp ;omega)) ?_
 refine Walk.loadBA ty56 .none rfl rfl rfl ((zrg (by omega))) ?_
 refine Walk.callV (cr:=[]) hcal (hf (nth xs i) (zal (by omega))) rfl .none rfl rfl rfl (LeL.refl _) ⟨rfl,rfl,trivial⟩ rfl (by simp only[zat,List.all_cons,List.all_nil,zaF,zaz,AV.idsL,AV.ids,hB2,hB3,List.map_cons,List.map_nil];rfl) rfl ?_
 refine tv ?_
 refine sq (fun h2 h2p h2s=>?_) fun h2 h2p h2s=>?_
 try simp only[Q] at h2p
 focus (refine rn [] (r1 rfl) (.eqd ?_) ⟨rfl,rfl⟩ (SubH.get ⟨rfl,⟨rfl,⟨rfl,trivial⟩⟩⟩) (fun _ h=>h);all_goals (first|(rw[←hg1.2,za9 (by omega)];simp[idxF,h1s,h1p,h2s,h2p];done)|(rw[←hg1.2,List.drop_eq_nil_of_le (by omega)];rfl)))
 try simp only[Q] at h2p
 refine ar ?_
 refine Exists.intro (i+1) ⟨⟨by omega,(by rw[←hg1.2,za9 (l:=xs) (i:=i) (by omega)];simp_all[idxF])⟩,(by omega),sx ⟨⟨_,rfl,LeA.eqi ?_⟩,trivial⟩ trivial⟩
 focus (first|rfl|(simp;done)|(simp_all;done)|omega)
 try simp only[Q] at h1p
 focus (refine rn [] (r1 rfl) (.eqd ?_) ⟨rfl,rfl⟩ (SubH.get ⟨rfl,⟨rfl,⟨rfl,trivial⟩⟩⟩) (fun _ h=>h);all_goals (first|(rw[←hg1.2,za9 (by omega)];simp[idxF,h1s,h1p];done)|(rw[←hg1.2,List.drop_eq_nil_of_le (by omega)];rfl)))
theorem zg0 {xs:List Pat}{f:Nat}{B2 B3:List AV}{p:Pat→Bool} (hs:xs.length≤1000000000000) (hcal:Callee Tryz.prog f) (hB2:AV.idsL B2=[]) (hB3:AV.idsL B3=[])
  (hf:∀t∈xs,FnD Tryz.prog f [.agg [.d (.i t.op),.d (.i t.ctor),.d (.i t.n),.d (.i t.m),.d (.i t.var),.d (zaf t.kids)],.ref 3003 0,.ref 3004 0] [(3003,some (.box B2)),(3004,some (.box B3))] (.d (.bool (p t))) []):
  ∃tl:List AV,AV.idsL tl=[]∧FnD Tryz.prog 183 [.ms 1 xs.length,.fn f [.ref 3003 0,.ref 3004 0]] [(1,some (.box (pd xs))),(3003,some (.box B2)),(3004,some (.box B3))]
   (.ms 1 (xs.filter fun t=> !p t).length) [(1,some (.box (pd (xs.filter fun t=> !p t)++tl)))]:=by
 have hok3:zat [(1,some (.box (pd xs))),(3003,some (.box B2)),(3004,some (.box B3))] [] (.d .nilp) []=true:=by
  simp only[zat,List.all_cons,List.all_nil,zaF,zaz,AV.idsL,AV.ids,zhV,hB2,hB3,List.map_cons,List.map_nil];rfl
 rcases znc p xs 0 with ⟨hi,hall⟩|⟨k,hi,hk1,hk2⟩
 ·have hfil:(xs.filter fun t=> !p t)=xs:=List.filter_eq_self.2 (fun x hx=>by simp[hall x hx])
  refine⟨[],rfl, ?_⟩
  rw[hfil,List.append_nil]
  refine bd Tryz.f183 42 [] [] fun w0 F0 own kept hk=>?_
  refine Walk.call (cr:=[]) zk0 (zew hs hcal hB2 hB3 hf) rfl .none rfl rfl (.cons (LeA.msn (by first|rfl|(simp;done))) (.cons (.refl _) .nil)) ⟨rfl,rfl,rfl,trivial⟩ rfl (zc0 hok3 _) rfl ?_
  refine ev ?_
  refine sq (fun h1 h1p h1s=>?_) fun h1 h1p h1s=>?_
  try simp only[Q] at h1p
  refine rn [(1,some (.box (pd xs)))] (r1 rfl) (.refl _) ⟨rfl,rfl⟩ (SubO.get ⟨.inr ?_,⟨.inl rfl,⟨.inr rfl,⟨.inr rfl,trivial⟩⟩⟩⟩) (zbc rfl)
  rotate_left
  try simp only[Q] at h1p
  exfalso;simp[hi] at h1
  all_goals (first|((first|rfl|(simp;done));done)|(rfl))
 ·skip
  have hlen:(xs.filter fun t=> !p t).length≤xs.length:=List.length_filter_le _ _
  refine⟨zaE (xs.length-(xs.filter fun t=> !p t).length) z6,zb8 rfl, ?_⟩
  refine bd Tryz.f183 42 [25] [] fun w0 F0 own kept hk=>?_
  refine Walk.call (cr:=[]) zk0 (zew hs hcal hB2 hB3 hf) rfl .none rfl rfl (.cons (LeA.msn (by first|rfl|(simp;done))) (.cons (.refl _) .nil)) ⟨rfl,rfl,rfl,trivial⟩ rfl (zc0 hok3 _) rfl ?_
  refine evs [25] [] ?_
  refine sq (fun h1 h1p h1s=>?_) fun h1 h1p h1s=>?_
  try simp only[Q] at h1p
  exfalso;simp[hi] at h1<;>omega
  try simp only[Q] at h1p
  refine ar ?_
  refine CWp.loopX (ι:=List Pat×Nat×Nat) hk (fun x=>[(6,.d (.i (x.2.1:Int))),(5,.d (.i (x.2.2:Int)))]) [7,16,17,18,19,20,21,22,23,24,25,26,27,28,29,30,31,32,33,34,35] (fun x=>[(1,some (.box (pd x.1)))]) (fun x=>x.1.length=xs.length∧x.2.1≤xs.length∧x.2.2≤x.2.1∧x.1.take x.2.2=(xs.take x.2.1).filter (fun t=> !p t)∧x.1.drop x.2.1=xs.drop x.2.1) (fun x=>xs.length-x.2.1) (xs,k+1,k) ⟨rfl,by dsimp only;omega,by dsimp only;omega,hk2.symm,rfl⟩ ⟨⟨_,rfl,LeA.eqi ?_⟩,⟨⟨_,rfl,LeA.eqi ?_⟩,trivial⟩⟩ ⟨?_,trivial⟩ (fun x=>rfl) (fun x hg1=>?_)
  iterate 2 focus (first|rfl|(simp;done)|(dsimp only;simp[hi];omega)|(simp_all;done))
  focus (first|rfl|(show some (Res.box _)=some (Res.box _);dsimp only;split<;>first|rfl|(exfalso;simp_all;done)))
  refine evc [25] [] ?_
  refine sq (fun h2 h2p h2s=>?_) fun h2 h2p h2s=>?_
  try simp only[Q] at h2p
  refine Walk.idxM sl45 .none rfl rfl rfl rfl (by first|omega|(simp ;omega)) ?_
  refine Walk.loadBA ty56 .none rfl rfl rfl (((zrg (s:=x.1) (by omega)).trans (by rw[zpo hg1.2.2.2.2 hg1.1 (by omega)]))) ?_
  refine Walk.alloc (id:=3007) tz56 rfl .none rfl (by first|rfl|(simp only[zak,occH,occE,Res.ids,List.cons_append,List.nil_append,AV.idsL,AV.ids,zab,zaa,zac,zan,List.map_cons,List.map_nil,upC,hB2,hB3,zhV];rfl)) (by first|rfl|(simp only[zak,occH,occE,Res.ids,List.cons_append,List.nil_append,AV.idsL,AV.ids,zab,zaa,zac,zan,List.map_cons,List.map_nil,upC,hB2,hB3,zhV];rfl)) (by first|rfl|(simp only[zak,occH,occE,Res.ids,List.cons_append,List.nil_append,AV.idsL,AV.ids,zab,zaa,zac,zan,List.map_cons,List.map_nil,upC,hB2,hB3,zhV];rfl)) ?_
  refine Walk.store ty56 .none rfl rfl rfl rfl rfl rfl (by simp) rfl ?_
  refine tv ?_
  refine Walk.callV (cr:=[]) hcal (hf (nth xs x.2.1) (zal (by omega))) rfl .none rfl rfl rfl (LeL.refl _) ⟨rfl,rfl,trivial⟩ rfl (by simp only[zat,List.all_cons,List.all_nil,zaF,zaz,AV.idsL,AV.ids,hB2,hB3,List.map_cons,List.map_nil];rfl) rfl ?_
  refine evs [25] [] ?_
  refine sq (fun h3 h3p h3s=>?_) fun h3 h3p h3s=>?_
  try simp only[Q] at h3p
  refine Walk.idxM sl45 .none rfl rfl rfl rfl (by first|omega|(simp ;omega)) ?_
  refine Walk.store ty56 .none rfl rfl rfl rfl rfl rfl (by simp) ((zt8 (by omega))) ?_
  refine tv ?_
  refine ar ?_
  refine ar ?_
  refine Exists.intro ((if p (nth xs x.2.1) then x.1 else x.1.set x.2.2 (nth xs x.2.1),x.2.1+1,if p (nth xs x.2.1) then x.2.2 else x.2.2+1)) ⟨(by
      obtain⟨g1,g2,g3,g4,g5⟩:=hg1
      have hlt:x.2.1<xs.length:=by omega
      have h7:=zgI (p:=fun t=> !p t) hlt
      refine⟨by dsimp only;split<;>simp[g1],by dsimp only;omega,by dsimp only;split<;>omega, ?_, ?_⟩
      ·dsimp only
       rw[h7,←g4]
       cases hp:p (nth xs x.2.1) with
       |true=>simp
       |false=>simp only[Bool.false_eq_true,if_false,Bool.not_false,if_true];rw[ziK (by omega)]
      ·dsimp only
       split
       ·exact zeM g5
       ·first|(rw[ziB g3];exact zeM g5)|exact zeM g5),(by dsimp only;omega),sx ⟨⟨_,rfl,LeA.eqi ?_⟩,⟨⟨_,rfl,LeA.eqi ?_⟩,trivial⟩⟩ ⟨?_,trivial⟩⟩
  iterate 2 focus (first|rfl|(simp;done)|(dsimp only;simp[hi];omega)|(simp_all;done))
  focus (first|rfl|(show some (Res.box _)=some (Res.box _);dsimp only;split<;>first|rfl|(exfalso;simp_all;done)))
  try simp only[Q] at h3p
  refine ar ?_
  refine Exists.intro ((if p (nth xs x.2.1) then x.1 else x.1.set x.2.2 (nth xs x.2.1),x.2.1+1,if p (nth xs x.2.1) then x.2.2 else x.2.2+1)) ⟨(by
      obtain⟨g1,g2,g3,g4,g5⟩:=hg1
      have hlt:x.2.1<xs.length:=by omega
      have h7:=zgI (p:=fun t=> !p t) hlt
      refine⟨by dsimp only;split<;>simp[g1],by dsimp only;omega,by dsimp only;split<;>omega, ?_, ?_⟩
      ·dsimp only
       rw[h7,←g4]
       cases hp:p (nth xs x.2.1) with
       |true=>simp
       |false=>simp only[Bool.false_eq_true,if_false,Bool.not_false,if_true];rw[ziK (by omega)]
      ·dsimp only
       split
       ·exact zeM g5
       ·first|(rw[ziB g3];exact zeM g5)|exact zeM g5),(by dsimp only;omega),sx ⟨⟨_,rfl,LeA.eqi ?_⟩,⟨⟨_,rfl,LeA.eqi ?_⟩,trivial⟩⟩ ⟨?_,trivial⟩⟩
  iterate 2 focus (first|rfl|(simp;done)|(dsimp only;simp[hi];omega)|(simp_all;done))
  focus (first|rfl|(show some (Res.box _)=some (Res.box _);dsimp only;split<;>first|rfl|(exfalso;simp_all;done)))
  try simp only[Q] at h2p
  refine Walk.cutM_l sl45 .none rfl rfl rfl rfl (by omega) ?_
  refine Walk.clearB sl45 tz56 rfl (by decide) rfl .none rfl rfl (zsS hg1.1 (by omega)) ?_
  refine tv ?_
  refine Walk.cutM_h sl45 .none rfl rfl rfl rfl (by omega) ?_
  refine evs [25] [] ?_
  refine rn [(1,some (.box (pd (xs.filter fun t=> !p t)++zaE (xs.length-(xs.filter fun t=> !p t).length) z6)))] (r1 rfl) (LeA.msn ?_) ⟨rfl,rfl⟩ (SubO.get ⟨.inr ?_,⟨.inl rfl,⟨.inr rfl,⟨.inr rfl,trivial⟩⟩⟩⟩) (zbc rfl)
  rotate_left 2
  all_goals (first|((first|rfl|(obtain⟨g1,g2,g3,g4,g5⟩:=hg1;have e:x.2.1=xs.length:=(by omega);rw[e,List.take_length] at g4;rw[←g4,List.length_take];omega));done)|((obtain⟨g1,g2,g3,g4,g5⟩:=hg1;have e:x.2.1=xs.length:=(by omega);rw[e,List.take_length] at g4;have e2:(xs.filter fun t=> !p t).length=x.2.2:=(by rw[←g4,List.length_take];omega);rw[e2,←g4];rfl)))
theorem zgu {f:Nat}{caps:List AV}{hp:Hp} (hcal:Callee Tryz.prog f) (k1:subH hp hp) (k2:zdP hp=true) (k3:zat hp [] (.d .nilp) []=true):
  FnD Tryz.prog 183 [.d (.sl []),.fn f caps] hp (.d (.sl [])) []:=by
 have hz:=zeo (xs:=[]) (p:=fun _=>false) (f:=f) (caps:=caps) (hp:=hp) (by simp) hcal (fun t ht=>by simp at ht) k1 k2 k3
 refine bd Tryz.f183 42 [] [] fun w0 F0 own kept hk=>?_
 refine Walk.call (cr:=[]) zk0 (hz) rfl .none rfl rfl (LeL.refl _) k1 k2 (zc0 k3 _) rfl ?_
 refine ev ?_
 refine sq (fun h1 h1p h1s=>?_) fun h1 h1p h1s=>?_
 try simp only[Q] at h1p
 focus (refine rn [] (r1 rfl) (.eqd ?_) ⟨rfl,rfl⟩ (fun _ _ h=>h) (fun _ h=>h);all_goals (first|rfl|(simp[h1s,h1p];done)|(simp_all;done)|(simp_all;omega)|omega))
 try simp only[Q] at h1p
 exfalso;simp[idxF] at h1
theorem zjq {xs:List Pat} (hs:xs.length≤1000000000000) (hne:xs≠[]):FnD Tryz.prog 184 [.d (zaf xs)] [] (.ms 1 xs.length) [(1,some (.box (pd xs)))]:=by
 have hcs:Pat.cs xs≠[]:=fun h=>hne ((Pat.cs_nil xs).1 h)
 refine Fn.body (fn:=Tryz.f184) (n:=8) rfl rfl rfl rfl rfl (fun w0 F0 own kept hk=>?_)
 refine CWp.splitNil 0 rfl (fun hx0=>?_) ?_
 refine evc [4] [] ?_
 refine Walk.eqNilT sl45 .none rfl rfl ?_
 refine tv ?_
 refine sqT ?_
 exfalso;exact hcs hx0
 refine evc [4] [] ?_
 refine Walk.eqNilF sl45 .none rfl rfl ?_
 refine tv ?_
 refine sqF ?_
 refine Walk.sliceEmptyGV 1 sl45 .none rfl rfl ?_
 refine evs [4] [] ?_
 refine Walk.appendM hk rfl (by simp[hcs]) sl45 zz56 .none rfl rfl rfl rfl (zaB rfl (by first|rfl|(simp;done)|(simp;omega))) (by intro y hy;rw[Pat.cs_cd] at hy;obtain⟨z,_,rfl⟩:=List.mem_map.1 hy;rfl) (by simp[Pat.cs_len];omega) (by simp[Pat.cs_len];omega) ?_
 refine evs [4] [] ?_
 refine rn [(1,some (.box (pd xs)))] (r1 rfl) (LeA.msn ?_) ⟨rfl,rfl⟩ (SubH.get ⟨?_,trivial⟩) (zbc rfl)
 rotate_left 2
 all_goals (first|((first|rfl|(simp[Pat.cs_len];done));done)|(first|rfl|(show some (Res.box _)=some (Res.box _);unfold pd;rw[←Pat.cs_cd];rfl)))
theorem zkv {w:List Data} (hs:Spa w){ta tk:Int} (ht:InS (w.length*4) ⟨ta,tk⟩){p:Pat} (hp:zam w 11 ⟨ta,tk⟩ p=true):
  FnD Tryz.prog 185 [.agg [.d (.i p.op),.d (.i p.ctor),.d (.i p.n),.d (.i p.m),.d (.i p.var),.d (zaf p.kids)],.ref 3003 0,.ref 3004 0] [(3003,some (.box [.d (sPtr w (zaZ w))])),(3004,some (.box [.d (.i ta),.d (.i tk)]))] (.d (.bool (zbg w (zaZ w) 11 ⟨ta,tk⟩ p))) []:=by
 refine bd Tryz.f185 9 [] [] fun w0 F0 own kept hk=>?_
 refine Walk.box (id:=3001) .none rfl rfl rfl rfl rfl rfl rfl ?_
 refine ev ?_
 refine wc zgF (zcJ hs.dp 11 (zgo _ hp) ht (zgC hs 11 ht hp).1) rfl rfl ?_
 refine ev ?_
 focus (refine rn [] (r1 rfl) (.eqd ?_) ⟨rfl,rfl⟩ (SubH.get ⟨rfl,⟨rfl,trivial⟩⟩) (fun _ h=>h);all_goals (first|rfl|(simp[];done)|(simp_all;done)|(simp_all;omega)|omega))
theorem zhR {w:List Data} (hs:Spa w){ta tk:Int} (ht:InS (w.length*4) ⟨ta,tk⟩){l:List Pat} (hl:∀a∈l,zam w 11 ⟨ta,tk⟩ a=true) (hb:l.length≤1000000000000):
  FnD Tryz.prog 115 [.d (sPtr w (zaZ w)),.agg [.d (.i ta),.d (.i tk)],.d (zaf l)] [] (.d (zaf (l.filter (zbL w ⟨ta,tk⟩)))) []:=by
 by_cases hne:l=[]
 ·subst hne
  have hcl:FnD Tryz.prog 184 [.d (.sl [])] [] (.d (.sl [])) []:=(zfm (xs:=[]) (by simp)).glD
  refine bd Tryz.f115 11 [] [] fun w0 F0 own kept hk=>?_
  refine Walk.box (id:=3003) .none rfl rfl rfl rfl rfl rfl rfl ?_
  refine Walk.box (id:=3004) .none rfl rfl rfl rfl rfl rfl rfl ?_
  refine ev ?_
  refine wc zoe (hcl) rfl rfl ?_
  refine Walk.closure (xs:=[_,_]) rfl .none rfl rfl ?_
  refine Walk.call (cr:=[]) zqz (zgu (hp:=[(3003,some (.box [.d (sPtr w (zaZ w))])),(3004,some (.box [.d (.i ta),.d (.i tk)]))]) zqA ⟨rfl,rfl,trivial⟩ rfl rfl) rfl .none rfl rfl (LeL.refl _) ⟨rfl,rfl,trivial⟩ rfl rfl rfl ?_
  refine ev ?_
  focus (refine rn0 (r1 rfl) (.eqd ?_);all_goals (first|rfl|(simp[];done)|(simp_all;done)|(simp_all;omega)|omega))
 ·obtain⟨tl,htl,hdel⟩:=zg0 (xs:=l) (p:=fun a=>zbg w (zaZ w) 11 ⟨ta,tk⟩ a) hb zqA (B2:=[.d (sPtr w (zaZ w))]) (B3:=[.d (.i ta),.d (.i tk)]) rfl rfl (fun a ha=>zkv hs ht (hl a ha))
  have key:FnD Tryz.prog 115 [.d (sPtr w (zaZ w)),.agg [.d (.i ta),.d (.i tk)],.d (zaf l)] [] (.ms 1 (l.filter (zbL w ⟨ta,tk⟩)).length) [(1,some (.box (pd (l.filter (zbL w ⟨ta,tk⟩))++tl)))]:=by
   refine bd Tryz.f115 11 [] [] fun w0 F0 own kept hk=>?_
   refine Walk.box (id:=3003) .none rfl rfl rfl rfl rfl rfl rfl ?_
   refine Walk.box (id:=3004) .none rfl rfl rfl rfl rfl rfl rfl ?_
   refine ev ?_
   refine Walk.call (cr:=[1]) zoe (zjq hb hne) rfl .none rfl rfl (LeL.refl _) trivial rfl (by simp only[zat,List.all_cons,List.all_nil,zaF,zaz,AV.idsL,AV.ids,zhV,zab,htl,List.map_cons,List.map_nil];rfl) rfl ?_
   refine Walk.closure (xs:=[_,_]) rfl .none rfl rfl ?_
   refine Walk.call (cr:=[]) zqz (hdel) rfl .none rfl rfl (.cons (LeA.msn (by first|rfl|(simp;done))) (.cons (.refl _) .nil)) ⟨rfl,rfl,rfl,trivial⟩ rfl (by simp only[zat,List.all_cons,List.all_nil,zaF,zaz,AV.idsL,AV.ids,zhV,zab,htl,List.map_cons,List.map_nil];rfl) rfl ?_
   refine ev ?_
   refine rn [(1,some (.box (pd (l.filter (zbL w ⟨ta,tk⟩))++tl)))] (r1 rfl) (LeA.msn ?_) ⟨rfl,rfl⟩ (SubH.get ⟨?_,trivial⟩) (zbc rfl)
   rotate_left 2
   all_goals (first|((rfl);done)|(rfl))
  have h2:=key.boxD (k:=6) zrR
  rw[←Pat.cs_cd] at h2
  exact h2
structure MatchOk (w:List Data) (n m:Nat) (t:Ty) (p:Pat) (v:Val):Prop where
 shape:zaw w n t p=true
 fits:zsq w m t v=true
 pok:p.ok
 vok:v.ok
 psz:p.size≤100
 vsz:v.size≤100
theorem MatchOk.two {w:List Data}{n m:Nat}{t:Ty}{p:Pat}{v:Val} (h:MatchOk w (n+1) m t p v) (h5:p.op=5):
  p.kids.length=2∧MatchOk w n m t (nth p.kids 0) v∧MatchOk w n m t (nth p.kids 1) v:=by
 obtain⟨hl,s0,s1⟩:=zjp h.shape h5
 have hpk:=(Pat.ok_iff p).1 h.pok
 have hps:=Pat.size_eq p
 have z0:=zeR (l:=p.kids) (i:=0) (by omega)
 have z1:=zeR (l:=p.kids) (i:=1) (by omega)
 have hs:=h.psz
 exact⟨hl,⟨s0,h.fits,Pats.ok_mem hpk.2 _ (zal (by omega)),h.vok,by omega,h.vsz⟩,⟨s1,h.fits,Pats.ok_mem hpk.2 _ (zal (by omega)),h.vok,by omega,h.vsz⟩⟩
theorem MatchOk.one {w:List Data}{n m:Nat}{t:Ty}{p:Pat}{v:Val} (h:MatchOk w (n+1) m t p v) (h6:p.op=6):
  p.kids.length=1∧MatchOk w n m t (nth p.kids 0) v:=by
 obtain⟨hl,s0⟩:=zjo h.shape h6
 have hpk:=(Pat.ok_iff p).1 h.pok
 have hps:=Pat.size_eq p
 have z0:=zeR (l:=p.kids) (i:=0) (by omega)
 have hs:=h.psz
 exact⟨hl,⟨s0,h.fits,Pats.ok_mem hpk.2 _ (zal (by omega)),h.vok,by omega,h.vsz⟩⟩
structure VarsOk (l:List Bd) (vs:List Vt):Prop where
 len:l.length=vs.length
 nod:(l.map Bd.var).Nodup
 sub:∀x∈l.map Bd.var,x∈vs.map Vt.var
theorem zmh {w:List Data}{a k:Int}{l:List Cl} (h:zbA w ⟨a,k⟩ l=true):zbD w ⟨a,k⟩=true∧l.length≤8:=by
 unfold zbA at h
 simp only[Bool.and_eq_true,decide_eq_true_eq] at h
 exact⟨h.1,by omega⟩
theorem zmp {α β:Type}{g:α→List β}{K:Nat}:∀(l:List α),(∀x∈l,(g x).length≤K)→(l.flatMap g).length≤l.length*K
 | [],_=>by simp
 |x::r,h=>by
  have h1:=h x (by simp)
  have h2:=zmp r (fun y hy=>h y (by simp[hy]))
  rw[List.flatMap_cons,List.length_append,List.length_cons,Nat.add_mul];omega
theorem zeU {w:List Data}{t:Ty}{l away:List Pat}{i:Nat} (h:i<away.length):subL w t l (away.drop i)=if (zcj w t l (nth away i)).length≤400 then subL w t (zcj w t l (nth away i)) (away.drop (i+1)) else none:=by
 rw[za9 h,subL]
theorem zo6 {w:List Data}{t:Ty}{l away:List Pat}{i:Nat} (h:away.length≤i):subL w t l (away.drop i)=some l:=by
 rw[List.drop_eq_nil_of_le h,subL]
def zbC:List Cl→List Pat→Option (List Pat)
 | [],out=>some out
 |c::r,out=>if c.g.op=0 then (if zcX c.pat=true then zbC r (out++zdE c.pat) else none) else zbC r out
theorem zfH {l:List Cl}{out:List Pat}{i:Nat} (h:i<l.length) (hg:¬(nth l i).g.op=0):zbC (l.drop i) out=zbC (l.drop (i+1)) out:=by
 rw[za9 h,zbC,if_neg hg]
theorem zfF {l:List Cl}{out:List Pat}{i:Nat} (h:i<l.length) (hg:(nth l i).g.op=0) (hp:zcX (nth l i).pat=true):zbC (l.drop i) out=zbC (l.drop (i+1)) (out++zdE (nth l i).pat):=by
 rw[za9 h,zbC,if_pos hg,if_pos hp]
theorem zlb {l:List Cl}{out:List Pat}{i:Nat} (h:i<l.length) (hg:(nth l i).g.op=0) (hp:zcX (nth l i).pat=false):zbC (l.drop i) out=none:=by
 rw[za9 h,zbC,if_pos hg,if_neg (by rw[hp];simp)]
theorem zlc {l:List Cl}{out:List Pat}{i:Nat} (h:l.length≤i):zbC (l.drop i) out=some out:=by
 rw[List.drop_eq_nil_of_le h,zbC]
theorem zgp (p:Pat):(zdE p).length≤40:=by unfold zdE;split;assumption;simp
theorem zpp {w:List Data}{t:Ty}{p:Pat} (h:zaw w 10 t p=true):∀x∈zdE p,zam w 10 t x=true:=fun x hx=>by
 unfold zdE at hx
 split at hx
 ·exact zgR 10 h x hx
 ·simp at hx
theorem zfG {w:List Data}{t:Ty}:∀(l:List Cl) (out r:List Pat),(∀c∈l,zaw w 10 t c.pat=true)→(∀x∈out,zam w 10 t x=true)→zbC l out=some r→r.length≤out.length+40*l.length∧∀x∈r,zam w 10 t x=true
 | [],out,r,_,ho,h=>by rw[zbC] at h;cases h;exact⟨by simp,ho⟩
 |c::l,out,r,hc,ho,h=>by
  rw[zbC] at h
  split at h
  ·split at h
   ·have:=zfG l _ r (fun x hx=>hc x (by simp[hx])) (fun x hx=>by
     rcases List.mem_append.1 hx with hx|hx
     ·exact ho x hx
     ·exact zpp (hc c (by simp)) x hx) h
    have hl:=zgp c.pat
    rw[List.length_append] at this
    exact⟨by rw[List.length_cons];omega,this.2⟩
   ·cases h
  ·have:=zfG l _ r (fun x hx=>hc x (by simp[hx])) ho h
   exact⟨by rw[List.length_cons];omega,this.2⟩
def zdO (w:List Data) (t:Ty) (l:List Cl):Option (List Pat):=match zbC l [] with
 |none=>none
 |some away=>match zaK w t [anyQ] away with
  |none=>none
  |some r=>if r.all (isP w t)=true then some r else none
def zbS (w:List Data) (t:Ty) (l:List Cl):Option (List Pat):=if zbA w t l=true then zdO w t l else none
theorem zf7 {w:List Data}{t:Ty}:∀(away l r:List Pat),(∀a∈l,zam w 11 t a=true)→l.length≤400→(∀b∈away,zam w 10 t b=true)→subL w t l away=some r→r.length≤400∧∀x∈r,zam w 11 t x=true
 | [],l,r,hl,hn,_,h=>by rw[subL] at h;cases h;exact⟨hn,hl⟩
 |b::away,l,r,hl,hn,hb,h=>by
  rw[subL] at h
  split at h
  ·rename_i h4
   exact zf7 away _ r (zgl hl (hb b (by simp))) h4 (fun x hx=>hb x (by simp[hx])) h
  ·cases h
theorem zlp {w:List Data} (hs:Spa w){ta tk:Int} (ht:InS (w.length*4) ⟨ta,tk⟩){l away:List Pat} (hl:∀a∈l,zam w 11 ⟨ta,tk⟩ a=true) (hb:∀b∈away,zam w 10 ⟨ta,tk⟩ b=true) (hll:l.length≤400) (hal:away.length≤1000):
  FnD Tryz.prog 70 [.d (sPtr w (zaZ w)),.agg [.d (.i ta),.d (.i tk)],.d (zaf l),.d (zaf away)] [] (.tup [.d (zaf ((zaK w ⟨ta,tk⟩ l away).getD [])),.d (.bool (zaK w ⟨ta,tk⟩ l away).isSome)]) []:=by
 have hlf:(l.filter (zbL w ⟨ta,tk⟩)).length≤l.length:=List.length_filter_le _ _
 have hmb:∀(c:List Pat) (i:Nat),(∀a∈c,zam w 11 ⟨ta,tk⟩ a=true)→i<away.length→∀x∈c,(zav w 10 ⟨ta,tk⟩ x (nth away i)).length≤20000000:=fun c i hc hi x hx=>zfu hs (by omega) (by omega) ht (hc x hx) (hb _ (zal hi))
 have hnp:∀(c:List Pat) (i:Nat),(∀a∈c,zam w 11 ⟨ta,tk⟩ a=true)→i<away.length→∀x∈(c.flatMap fun a=>zav w 10 ⟨ta,tk⟩ a (nth away i)),zam w 11 ⟨ta,tk⟩ x=true:=fun c i hc hi x hx=>by
  obtain⟨a,ha,hx⟩:=List.mem_flatMap.1 hx
  exact zgk 10 11 (by omega) (hc a ha) (hb _ (zal hi)) x hx
 have hpre:∀ {pre rest c:List Pat}{y:Pat} (i:Nat),(∀a∈c,zam w 11 ⟨ta,tk⟩ a=true)→c.length≤400→i<away.length→pre++y::rest=c→(pre.flatMap fun a=>zav w 10 ⟨ta,tk⟩ a (nth away i)).length≤8000000000∧(zav w 10 ⟨ta,tk⟩ y (nth away i)).length≤20000000:=fun {pre rest c y} i hc h4 hi h=>by
  have h1:=zmp (g:=fun a=>zav w 10 ⟨ta,tk⟩ a (nth away i)) (K:=20000000) pre (fun x hx=>hmb c i hc hi x (by rw[←h];simp[hx]))
  have h2:=hmb c i hc hi y (by rw[←h];simp)
  have h3:=congrArg List.length h
  simp only[List.length_append,List.length_cons] at h3
  exact⟨by omega,h2⟩
 refine bd Tryz.f70 48 [12] [11] fun w0 F0 own kept hk=>?_
 refine Walk.box (id:=3005) .none rfl rfl rfl rfl rfl rfl rfl ?_
 refine evs [12] [] ?_
 refine wc zqu (zhR hs ht hl (by omega)) rfl rfl ?_
 refine evs [12] [] ?_
 refine CWp.loopX (ι:=Nat×List Pat) hk (fun s=>[(21,.d (.i (s.1:Int))),(2,.d (zaf s.2))]) [8,9,11,12,14,22,23,24,25,26,27,28,29,30,31,32,33,34,35,36,37,38,39,40,41,42,43,44,45,46] (fun s=>[]) (fun s=>s.1≤away.length∧subL w ⟨ta,tk⟩ s.2 (away.drop s.1)=zaK w ⟨ta,tk⟩ l away∧(∀a∈s.2,zam w 11 ⟨ta,tk⟩ a=true)∧s.2.length≤400) (fun s=>away.length-s.1) (0,l.filter (zbL w ⟨ta,tk⟩)) ⟨by simp,rfl,fun a ha=>hl a (List.mem_filter.1 ha).1,by dsimp only;omega⟩ ⟨⟨_,rfl,LeA.eqi ?_⟩,⟨⟨_,rfl, ?_⟩,trivial⟩⟩ trivial (fun x=>rfl) (fun s hg1=>?_)
 focus (first|rfl|(simp;done)|(simp_all;done)|omega)
 focus (first|exact LeA.refl _|((first|refine LeA.gld ?_|refine LeA.nild ?_);first|rfl|(simp;done)|(simp_all;done)|omega)|(refine LeA.eqsl ?_;first|rfl|(simp;done)|(simp_all;done)|omega)|(refine LeA.eqd ?_;first|rfl|(simp;done)|(simp_all;done)|omega))
 refine evc [12] [11] ?_
 refine sq (fun h1 h1p h1s=>?_) fun h1 h1p h1s=>?_
 try simp only[Q,Pat.cs_len] at h1p
 refine Walk.idx sl45 .none rfl rfl rfl rfl (zaI (by omega)) rfl ?_
 refine evs [12] [] ?_
 refine Walk.alloc (id:=3011) tz56 rfl .none rfl rfl rfl rfl ?_
 refine Walk.store ty56 .none rfl rfl rfl rfl rfl rfl (by simp) rfl ?_
 refine tv ?_
 refine Walk.assignNil 9 6 .none rfl rfl ?_
 refine tv ?_
 refine CWp.loopX (ι:=List (Pat)×List (Pat)) hk (fun x=>[(27,.d (.i (x.1.length:Int))),(12,.gl 9 (Pat.cs (x.1.flatMap fun a=>zav w 10 ⟨ta,tk⟩ a (nth away s.1))))]) [14,28,29,30,31,32,33,34,35,36,37,38] (fun x=>[(9,some (.tok ((Pat.cs (x.1.flatMap fun a=>zav w 10 ⟨ta,tk⟩ a (nth away s.1)))).length 6))]) (fun x=>x.1++x.2=s.2) (fun x=>x.2.length) ([],s.2) (by simp) ⟨⟨_,rfl,LeA.eqi ?_⟩,⟨⟨_,rfl,LeA.glg ?_⟩,trivial⟩⟩ ⟨zad ?_,trivial⟩ (fun x=>rfl) (fun x hg2=>?_)
 iterate 3 focus (first|rfl|(rw[List.flatMap_append,Pat.cs_cd,Pat.cs_cd,Pat.cs_cd,List.map_append];simp;done)|(simp[Pat.cs_len];done)|omega|(simp;omega))
 obtain⟨pre,rest⟩:=x
 dsimp only at hg2 ⊢
 refine evc [12] [11] ?_
 refine sq (fun h2 h2p h2s=>?_) fun h2 h2p h2s=>?_
 try simp only[Q,Pat.cs_len] at h2p
 rcases rest with _|⟨y,rest⟩
 ·exfalso;simp_all
 refine Walk.idx sl45 .none rfl rfl rfl rfl (Pat.cs_at' hg2) rfl ?_
 refine evs [12] [] ?_
 refine Walk.alloc (id:=3014) tz56 rfl .none rfl rfl rfl rfl ?_
 refine Walk.store ty56 .none rfl rfl rfl rfl rfl rfl (by simp) rfl ?_
 refine tv ?_
 refine wc zod (ziF hs 10 11 (by omega) (by omega) (by omega) ht (hg1.2.2.1 y (by rw[←hg2];simp)) (hb _ (zal (by omega)))) rfl rfl ?_
 refine Walk.append sl45 zz56 rfl .none rfl rfl rfl rfl (zaB rfl (by first|rfl|(simp;done)|(simp;omega))) (by exact zbj _) (by have h9:=hpre s.1 hg1.2.2.1 hg1.2.2.2 (by omega) hg2;simp only[Pat.cs_len];omega) (by have h9:=hpre s.1 hg1.2.2.1 hg1.2.2.2 (by omega) hg2;simp only[Pat.cs_len];omega) ?_
 refine asg ?_
 refine tv ?_
 refine ar ?_
 refine Exists.intro ((pre++[y],rest)) ⟨(by have hz:=hg2;rw[←hz];simp),(by simp),sx ⟨⟨_,rfl,LeA.eqi ?_⟩,⟨⟨_,rfl,LeA.glg ?_⟩,trivial⟩⟩ ⟨zad ?_,trivial⟩⟩
 iterate 3 focus (first|rfl|(rw[List.flatMap_append,Pat.cs_cd,Pat.cs_cd,Pat.cs_cd,List.map_append];simp;done)|(simp[Pat.cs_len];done)|omega|(simp;omega))
 try simp only[Q,Pat.cs_len] at h2p
 have hrest:rest=[]:=by
  rcases rest with _|⟨a,b⟩
  ·rfl
  ·exfalso;have hz:=congrArg List.length (hg2);simp only[List.length_append,List.length_cons,List.length_map] at hz;omega
 subst hrest
 obtain rfl:pre=s.2:=(by simpa using hg2)
 refine evc [12] [] ?_
 refine Walk.call (cr:=[]) zqu (zhR hs ht (l:=s.2.flatMap fun a=>zav w 10 ⟨ta,tk⟩ a (nth away s.1)) (hnp s.2 s.1 hg1.2.2.1 (by omega)) (by have:=zmp (g:=fun a=>zav w 10 ⟨ta,tk⟩ a (nth away s.1)) (K:=20000000) s.2 (hmb s.2 s.1 hg1.2.2.1 (by omega));omega)) rfl .none rfl rfl (.cons (.refl _) (.cons (.refl _) (.cons (.gl _ _) .nil))) trivial rfl rfl rfl ?_
 refine evs [12] [] ?_
 refine sq (fun h3 h3p h3s=>?_) fun h3 h3p h3s=>?_
 try simp only[Q,Pat.cs_len] at h3p
 refine rn0 (r2 rfl rfl) (.tup (.cons (.nild ?_) (.cons (.eqd ?_) .nil)))
 rotate_left 2
 try simp only[Q,Pat.cs_len] at h3p
 refine ar ?_
 refine Exists.intro ((s.1+1,zcj w ⟨ta,tk⟩ s.2 (nth away s.1))) ⟨(by
    have h4:(zcj w ⟨ta,tk⟩ s.2 (nth away s.1)).length≤400:=by unfold zcj;omega
    refine⟨by dsimp only;omega, ?_,zgl hg1.2.2.1 (hb _ (zal (by omega))),h4⟩
    have e:=zeU (w:=w) (t:=⟨ta,tk⟩) (l:=s.2) (away:=away) (i:=s.1) (by omega)
    rw[if_pos h4] at e
    dsimp only
    rw[←e];exact hg1.2.1),(by dsimp only;omega),sx ⟨⟨_,rfl,LeA.eqi ?_⟩,⟨⟨_,rfl, ?_⟩,trivial⟩⟩ trivial⟩
 focus (first|rfl|(simp;done)|(simp_all;done)|omega)
 focus (first|exact LeA.refl _|((first|refine LeA.gld ?_|refine LeA.nild ?_);first|rfl|(simp;done)|(simp_all;done)|omega)|(refine LeA.eqsl ?_;first|rfl|(simp;done)|(simp_all;done)|omega)|(refine LeA.eqd ?_;first|rfl|(simp;done)|(simp_all;done)|omega))
 try simp only[Q,Pat.cs_len] at h1p
 refine rn0 (r2 rfl rfl) (.tup (.cons (.eqd ?_) (.cons (.eqd ?_) .nil)))
 rotate_left 2
 all_goals (first|rfl|(rw[←hg1.2.1,zeU (by omega),if_neg (by assumption)];rfl)|(rw[←hg1.2.1,zeU (by omega),if_neg (by unfold zcj;omega)];rfl)|(rw[←hg1.2.1,zo6 (by omega)];rfl))
theorem zks {w:List Data}{t:Ty}{l:List Cl} (hl:l.length≤8) (hc:∀c∈l,zaw w 10 t c.pat=true∧c.pat.ok):
  FnD Tryz.prog 68 [.d (za6 l)] [] (.tup [.d (zaf ((zbC l []).getD [])),.d (.bool (zbC l []).isSome)]) []:=by
 have hpl:=fun(i:Nat)=>zgp (nth l i).pat
 refine bd Tryz.f68 32 [4] [] fun w0 F0 own kept hk=>?_
 refine Walk.assignNil 9 6 .none rfl rfl ?_
 refine tv ?_
 refine CWp.loopX (ι:=Nat×List Pat) hk (fun s=>[(11,.d (.i (s.1:Int))),(4,.gl 9 (Pat.cs s.2))]) [2,3,6,7,8,12,13,14,15,16,17,18,19,20,21,22,23,24,25,26,27,28,29,30] (fun s=>[(9,some (.tok ((Pat.cs s.2)).length 6))]) (fun s=>s.1≤l.length∧zbC (l.drop s.1) s.2=zbC l []∧s.2.length≤40*s.1) (fun s=>l.length-s.1) (0,[]) ⟨by simp,rfl,by simp⟩ ⟨⟨_,rfl,LeA.eqi ?_⟩,⟨⟨_,rfl,LeA.glg ?_⟩,trivial⟩⟩ ⟨zad ?_,trivial⟩ (fun x=>rfl) (fun s hg1=>?_)
 iterate 3 focus (first|rfl|(rw[if_pos (by assumption),Pat.cs_cd,Pat.cs_cd,Pat.cs_cd,List.map_append];done)|(rw[if_neg (by assumption)];done)|(rw[if_pos (by assumption)];simp[Pat.cs_len];done)|(rw[if_neg (by assumption)];simp[Pat.cs_len];done)|(simp;done)|omega|(simp;omega))
 refine evc [4] [] ?_
 refine sq (fun h1 h1p h1s=>?_) fun h1 h1p h1s=>?_
 try simp only[Q,Pat.cs_len] at h1p
 refine Walk.idx sl28 .none rfl rfl rfl rfl (zay (by omega)) rfl ?_
 refine evs [4] [] ?_
 refine Walk.alloc (id:=3006) tz60 rfl .none rfl rfl rfl rfl ?_
 refine Walk.store ty60 .none rfl rfl rfl rfl rfl rfl (by simp) rfl ?_
 refine tv ?_
 refine sq (fun h2 h2p h2s=>?_) fun h2 h2p h2s=>?_
 try simp only[Q,Pat.cs_len] at h2p
 refine ar ?_
 refine Exists.intro ((s.1+1,if (nth l s.1).g.op=0 then s.2++zdE (nth l s.1).pat else s.2)) ⟨(by
    have h9:=hpl s.1
    by_cases hz:(nth l s.1).g.op=0
    ·refine⟨by dsimp only;omega, ?_, ?_⟩
     ·dsimp only
      rw[if_pos hz,←zfF (out:=s.2) (by omega) hz (by simp_all)];exact hg1.2.1
     ·dsimp only
      rw[if_pos hz,List.length_append];omega
    ·refine⟨by dsimp only;omega, ?_, ?_⟩
     ·dsimp only
      rw[if_neg hz,←zfH (out:=s.2) (by omega) hz];exact hg1.2.1
     ·dsimp only
      rw[if_neg hz];omega),(by dsimp only;omega),sx ⟨⟨_,rfl,LeA.eqi ?_⟩,⟨⟨_,rfl,LeA.glg ?_⟩,trivial⟩⟩ ⟨zad ?_,trivial⟩⟩
 iterate 3 focus (first|rfl|(rw[if_pos (by assumption),Pat.cs_cd,Pat.cs_cd,Pat.cs_cd,List.map_append];done)|(rw[if_neg (by assumption)];done)|(rw[if_pos (by assumption)];simp[Pat.cs_len];done)|(rw[if_neg (by assumption)];simp[Pat.cs_len];done)|(simp;done)|omega|(simp;omega))
 try simp only[Q,Pat.cs_len] at h2p
 refine wc zs2 (znI (hc _ (zal (i:=s.1) (by omega))).1 (hc _ (zal (by omega))).2) rfl rfl ?_
 refine evs [4] [] ?_
 refine sq (fun h3 h3p h3s=>?_) fun h3 h3p h3s=>?_
 try simp only[Q,Pat.cs_len] at h3p
 refine rn0 (r2 rfl rfl) (.tup (.cons (.nild ?_) (.cons (.eqd ?_) .nil)))
 rotate_left 2
 try simp only[Q,Pat.cs_len] at h3p
 refine Walk.append sl45 zz56 rfl .none rfl rfl rfl rfl (zaB rfl (by first|rfl|(simp;done)|(simp;omega))) (by exact zbj _) (by have:=hpl s.1;simp only[Pat.cs_len];omega) (by have:=hpl s.1;simp only[Pat.cs_len];omega) ?_
 refine asg ?_
 refine tv ?_
 refine ar ?_
 refine Exists.intro ((s.1+1,if (nth l s.1).g.op=0 then s.2++zdE (nth l s.1).pat else s.2)) ⟨(by
    have h9:=hpl s.1
    by_cases hz:(nth l s.1).g.op=0
    ·refine⟨by dsimp only;omega, ?_, ?_⟩
     ·dsimp only
      rw[if_pos hz,←zfF (out:=s.2) (by omega) hz (by simp_all)];exact hg1.2.1
     ·dsimp only
      rw[if_pos hz,List.length_append];omega
    ·refine⟨by dsimp only;omega, ?_, ?_⟩
     ·dsimp only
      rw[if_neg hz,←zfH (out:=s.2) (by omega) hz];exact hg1.2.1
     ·dsimp only
      rw[if_neg hz];omega),(by dsimp only;omega),sx ⟨⟨_,rfl,LeA.eqi ?_⟩,⟨⟨_,rfl,LeA.glg ?_⟩,trivial⟩⟩ ⟨zad ?_,trivial⟩⟩
 iterate 3 focus (first|rfl|(rw[if_pos (by assumption),Pat.cs_cd,Pat.cs_cd,Pat.cs_cd,List.map_append];done)|(rw[if_neg (by assumption)];done)|(rw[if_pos (by assumption)];simp[Pat.cs_len];done)|(rw[if_neg (by assumption)];simp[Pat.cs_len];done)|(simp;done)|omega|(simp;omega))
 try simp only[Q,Pat.cs_len] at h1p
 refine rn0 (r2 rfl rfl) (.tup (.cons (.gld ?_) (.cons (.eqd ?_) .nil)))
 rotate_left 2
 all_goals (first|rfl|(rw[←hg1.2.1,zlb (by omega) (by first|assumption|(simp_all;done)) (by assumption)];rfl)|(rw[←hg1.2.1,zlc (by omega)];rfl))
theorem zkx {w:List Data} (hs:Spa w){f:Nat→Nat}{ta tk:Int} (ht:InS (w.length*4) ⟨ta,tk⟩){p:Pat} (hp:p.ok):
  FnD Tryz.prog 118 [.agg [.d (.i p.op),.d (.i p.ctor),.d (.i p.n),.d (.i p.m),.d (.i p.var),.d (zaf p.kids)],.ref 3004 0,.ref 3005 0] [(3004,some (.box [.d (sPtr w f)])),(3005,some (.box [.d (.i ta),.d (.i tk)]))] (.d (.bool (!isP w ⟨ta,tk⟩ p))) []:=by
 refine bd Tryz.f118 13 [] [] fun w0 F0 own kept hk=>?_
 refine Walk.box (id:=3001) .none rfl rfl rfl rfl rfl rfl rfl ?_
 refine ev ?_
 refine wc zs6 (zj0 hs.dp.wt (zcK ht) hp) rfl rfl ?_
 refine evd [] [] ?_
 refine dr ?_
 refine rn [] (r1 rfl) (.eqd ?_) ⟨rfl,rfl⟩ (SubH.get ⟨rfl,⟨rfl,trivial⟩⟩) (fun _ h=>h)
 rotate_left
 all_goals (rfl)
theorem zmu {w:List Data} (hs:Spa w){f:Nat→Nat}{ta tk:Int} (ht:InS (w.length*4) ⟨ta,tk⟩){l:List Pat}{ok:Bool} (hl:∀a∈l,a.ok) (hb:l.length≤1000000000000):
  FnD Tryz.prog 71 [.d (sPtr w f),.agg [.d (.i ta),.d (.i tk)],.d (zaf l),.d (.bool ok)] [] (.tup [.d (zaf (if (ok&&l.all (isP w ⟨ta,tk⟩))=true then l else [])),.d (.bool (ok&&l.all (isP w ⟨ta,tk⟩)))]) []:=by
 have hall:(l.any fun p=> !isP w ⟨ta,tk⟩ p) = !(l.all (isP w ⟨ta,tk⟩)):=by
  induction l with
  |nil=>rfl
  |cons x r ih=>rw[List.any_cons,List.all_cons,ih (fun a ha=>hl a (by simp[ha])) (by simp at hb;omega),Bool.not_and]
 have hcf:=zf5 (xs:=l) (p:=fun p=> !isP w ⟨ta,tk⟩ p) (caps:=[.ref 3004 0,.ref 3005 0]) (hp:=[(3004,some (.box [.d (sPtr w f)])),(3005,some (.box [.d (.i ta),.d (.i tk)]))]) hb zs5 (fun q hq=>zkx hs ht (hl q hq)) ⟨rfl,rfl,trivial⟩ rfl rfl
 rw[hall] at hcf
 clear hall
 generalize l.all (isP w ⟨ta,tk⟩)=q at hcf ⊢
 refine bd Tryz.f71 19 [] [] fun w0 F0 own kept hk=>?_
 refine Walk.box (id:=3004) .none rfl rfl rfl rfl rfl rfl rfl ?_
 refine Walk.box (id:=3005) .none rfl rfl rfl rfl rfl rfl rfl ?_
 refine ev ?_
 refine sq (fun h1 h1p h1s=>?_) fun h1 h1p h1s=>?_
 try simp only[Q] at h1p
 refine sqT ?_
 refine rn0 (r2 rfl rfl) (.tup (.cons (.nild ?_) (.cons (.eqd ?_) .nil)))
 rotate_left 2
 try simp only[Q] at h1p
 refine Walk.closure (xs:=[_,_]) rfl (.some rfl rfl h1) rfl rfl ?_
 refine Walk.call (cr:=[]) zs4 (hcf) rfl (.some rfl rfl h1) rfl rfl (LeL.refl _) ⟨rfl,rfl,trivial⟩ rfl rfl rfl ?_
 refine evs [] [(12,false)] ?_ ⟨⟨_,rfl,h1⟩,trivial⟩
 refine sq (fun h3 h3p h3s=>?_) fun h3 h3p h3s=>?_
 try simp only[Q] at h3p
 refine rn0 (r2 rfl rfl) (.tup (.cons (.nild ?_) (.cons (.eqd ?_) .nil)))
 rotate_left 2
 try simp only[Q] at h3p
 refine wc zs7 (ziN hb hl) rfl rfl ?_
 refine ev ?_
 refine rn0 (r2 rfl rfl) (.tup (.cons (.eqd ?_) (.cons (.eqd ?_) .nil)))
 rotate_left 2
 all_goals (first|rfl|(cases ok<;>cases q<;>first|rfl|(exfalso;simp_all;done)))
theorem zmX {w:List Data}{t:Ty}{l:List Cl} (h:zbA w t l=true) (hl:ClsOk l):∀c∈l,zaw w 10 t c.pat=true∧c.pat.ok:=fun c hc=>by
 unfold zbA at h
 simp only[Bool.and_eq_true,Bool.not_eq_true',List.any_eq_false,Bool.not_eq_true] at h
 have h4:clOk w t c=true:=by simpa using h.2.2 c hc
 unfold clOk isP at h4
 simp only[Bool.and_eq_true] at h4
 exact⟨h4.1.1,hl.2 c hc⟩
theorem zg2 {w:List Data}{t:Ty}:∀a∈[anyQ],zam w 11 t a=true:=fun a ha=>by
 rw[List.mem_singleton.1 ha];exact ziQ
theorem zgZ {w:List Data} (hs:WSmall w){a k:Int}{l:List Cl} (hl:ClsOk l):
  FnD Tryz.prog 26 [.d (zao w),.agg [.d (.i a),.d (.i k)],.d (za6 l)] [] (.tup [.d (zaf ((zbS w ⟨a,k⟩ l).getD [])),.d (.bool (zbS w ⟨a,k⟩ l).isSome)]) []:=by
 have hcv:=zie hs (a:=a) (k:=k) hl
 by_cases hv:zbA w ⟨a,k⟩ l=true
 ·have hm:zbS w ⟨a,k⟩ l=zdO w ⟨a,k⟩ l:=by unfold zbS;rw[if_pos hv]
  rw[hm]
  have htv:=zmh hv
  have hsp:=zpb hs (zd7 htv.1).1
  have hsh:=zmX hv hl
  have hin:InS (w.length*4) ⟨a,k⟩:=by
   obtain⟨_,_,h3⟩:=zd7 htv.1
   by_cases ha:a = -1
   ·exact .inl ha
   ·obtain⟨h4,h5,h6,h7⟩:=h3 ha
    have:=zq6 (n:=w.length) h5 (j:=k.toNat) (by omega)
    rwa [Int.toNat_of_nonneg h4,Int.toNat_of_nonneg h6] at this
  have hco:=zks (w:=w) (t:=⟨a,k⟩) htv.2 hsh
  cases hq:zbC l [] with
  |none=>
   have e:zdO w ⟨a,k⟩ l=none:=by unfold zdO;rw[hq]
   rw[hq] at hco
   rw[e]
   refine bd Tryz.f26 42 [] [] fun w0 F0 own kept hk=>?_
   refine Walk.box (id:=3004) .none rfl rfl rfl rfl rfl rfl rfl ?_
   refine ev ?_
   refine wc zpZ (hcv) rfl rfl ?_
   refine ev ?_
   refine sq (fun h1 h1p h1s=>?_) fun h1 h1p h1s=>?_
   try simp only[Q] at h1p
   exfalso;rw[hv] at h1;exact absurd h1 (by simp)
   try simp only[Q] at h1p
   refine wc zsg (hco) rfl rfl ?_
   refine ev ?_
   refine sq (fun h2 h2p h2s=>?_) fun h2 h2p h2s=>?_
   try simp only[Q] at h2p
   refine rn0 (r2 rfl rfl) (.tup (.cons (.nild ?_) (.cons (.eqd ?_) .nil)))
   rotate_left 2
   try simp only[Q] at h2p
   exfalso;exact absurd h2 (by simp)
   all_goals (rfl)
  |some away=>
   rw[hq] at hco
   obtain⟨p1,p2⟩:=zfG l [] away (fun c hc=>(hsh c hc).1) (by simp) hq
   have hwo:=zlp hsp hin (l:=[anyQ]) (away:=away) zg2 p2 (by simp) (by simp at p1;omega)
   have hrl:(zaK w ⟨a,k⟩ [anyQ] away).isSome=true→((zaK w ⟨a,k⟩ [anyQ] away).getD []).length≤400∧∀x∈(zaK w ⟨a,k⟩ [anyQ] away).getD [],zam w 11 ⟨a,k⟩ x=true:=fun h=>by
    cases hw:zaK w ⟨a,k⟩ [anyQ] away with
    |none=>rw[hw] at h;cases h
    |some r=>exact zf7 away _ r (fun x hx=>zg2 x (List.mem_filter.1 hx).1) (Nat.le_trans (List.length_filter_le _ _) (by simp)) p2 hw
   have hrl2:((zaK w ⟨a,k⟩ [anyQ] away).getD []).length≤400∧∀x∈(zaK w ⟨a,k⟩ [anyQ] away).getD [],x.ok:=by
    cases hw:zaK w ⟨a,k⟩ [anyQ] away with
    |none=>exact⟨by simp,by simp⟩
    |some r=>
     have:=hrl (by rw[hw];rfl)
     rw[hw] at this
     exact⟨this.1,fun x hx=>(zgC hsp 11 hin (this.2 x hx)).1⟩
   have hre:=zmu hsp (f:=zaZ w) hin (l:=(zaK w ⟨a,k⟩ [anyQ] away).getD []) (ok:=(zaK w ⟨a,k⟩ [anyQ] away).isSome) hrl2.2 (by omega)
   have e:zdO w ⟨a,k⟩ l=if ((zaK w ⟨a,k⟩ [anyQ] away).isSome&&((zaK w ⟨a,k⟩ [anyQ] away).getD []).all (isP w ⟨a,k⟩))=true then some ((zaK w ⟨a,k⟩ [anyQ] away).getD []) else none:=by
    unfold zdO
    rw[hq]
    cases hw:zaK w ⟨a,k⟩ [anyQ] away with
    |none=>simp[hw]
    |some r=>simp[hw]
   rw[e]
   generalize ((zaK w ⟨a,k⟩ [anyQ] away).isSome&&((zaK w ⟨a,k⟩ [anyQ] away).getD []).all (isP w ⟨a,k⟩))=q at hre ⊢
   refine bd Tryz.f26 42 [] [] fun w0 F0 own kept hk=>?_
   refine Walk.box (id:=3004) .none rfl rfl rfl rfl rfl rfl rfl ?_
   refine ev ?_
   refine wc zpZ (hcv) rfl rfl ?_
   refine ev ?_
   refine sq (fun h1 h1p h1s=>?_) fun h1 h1p h1s=>?_
   try simp only[Q] at h1p
   exfalso;rw[hv] at h1;exact absurd h1 (by simp)
   try simp only[Q] at h1p
   refine wc zsg (hco) rfl rfl ?_
   refine ev ?_
   refine sq (fun h2 h2p h2s=>?_) fun h2 h2p h2s=>?_
   try simp only[Q] at h2p
   exfalso;exact absurd h2 (by simp)
   try simp only[Q] at h2p
   refine wc zui (zjZ hsp.dp) rfl rfl ?_
   refine ev ?_
   refine wc zjG (zcC) rfl rfl ?_
   refine Walk.sliceLit sl45 tz56 rfl (by decide) (ks:=[0]) (xs:=[_]) rfl rfl (by decide) (by decide) .none rfl rfl rfl rfl ?_
   refine evd [] [] ?_
   refine wc zuj (hwo) rfl rfl ?_
   refine evd [] [] ?_
   refine dr ?_
   refine wc zuk (hre) rfl rfl ?_
   refine ev ?_
   refine rn0 (r2 rfl rfl) (.tup (.cons (.eqd ?_) (.cons (.eqd ?_) .nil)))
   rotate_left 2
   all_goals (first|rfl|(cases q<;>rfl))
 ·have hv':zbA w ⟨a,k⟩ l=false:=by simpa using hv
  have hm:zbS w ⟨a,k⟩ l=none:=by unfold zbS;rw[if_neg hv]
  rw[hm]
  rw[hv'] at hcv
  refine bd Tryz.f26 42 [] [] fun w0 F0 own kept hk=>?_
  refine Walk.box (id:=3004) .none rfl rfl rfl rfl rfl rfl rfl ?_
  refine ev ?_
  refine wc zpZ (hcv) rfl rfl ?_
  refine ev ?_
  refine sq (fun h1 h1p h1s=>?_) fun h1 h1p h1s=>?_
  try simp only[Q] at h1p
  refine rn0 (r2 rfl rfl) (.tup (.cons (.nild ?_) (.cons (.eqd ?_) .nil)))
  rotate_left 2
  try simp only[Q] at h1p
  exfalso;exact absurd h1 (by simp)
  all_goals (rfl)
def exhQ (w:List Data) (t:Ty) (l:List Cl):Bool:=(zbS w t l).isSome&&decide (((zbS w t l).getD []).length=0)
theorem zfT {w:List Data} (hs:WSmall w){a k:Int}{l:List Cl} (hl:ClsOk l):
  FnD Tryz.prog 35 [.d (zao w),.agg [.d (.i a),.d (.i k)],.d (za6 l)] [] (.tup [.d (.bool (exhQ w ⟨a,k⟩ l)),.d (.bool (zbS w ⟨a,k⟩ l).isSome)]) []:=by
 have hmp:=zgZ hs (a:=a) (k:=k) hl
 unfold exhQ
 generalize zbS w ⟨a,k⟩ l=m at *
 refine bd Tryz.f35 24 [] [] fun w0 F0 own kept hk=>?_
 refine Walk.box (id:=3004) .none rfl rfl rfl rfl rfl rfl rfl ?_
 refine ev ?_
 refine wc zuc (hmp) rfl rfl ?_
 refine ev ?_
 refine sq (fun h1 h1p h1s=>?_) fun h1 h1p h1s=>?_
 try simp only[Q,Pat.cs_len,Int.natCast_inj] at h1p
 refine rn0 (r2 rfl rfl) (.tup (.cons (.eqd ?_) (.cons (.eqd ?_) .nil)))
 rotate_left 2
 try simp only[Q,Pat.cs_len,Int.natCast_inj] at h1p
 refine rn0 (r2 rfl rfl) (.tup (.cons (.eqd ?_) (.cons (.eqd ?_) .nil)))
 rotate_left 2
 all_goals (first|rfl|(simp_all[Pat.cs_len];done)|(cases m<;>simp_all[Pat.cs_len];done)|(cases m<;>simp[Pat.cs_len] at *;done))
def zlq (w:List Data) (t:Ty) (b a:Pat):List Pat:=(zav w 10 t a b).filter (zbL w t)
def zeA (w:List Data) (t:Ty) (l:List Pat) (b:Pat) (k:Nat):List Pat:=(l.take k).flatMap (zlq w t b)
theorem zlL {w:List Data}{t:Ty}{l:List Pat}{b:Pat}:zcj w t l b=l.flatMap (zlq w t b):=by
 unfold zcj
 induction l with
 |nil=>rfl
 |cons x r ih=>rw[List.flatMap_cons,List.filter_append,List.flatMap_cons,ih];rfl
theorem zbe {w:List Data}{t:Ty}{l:List Pat}{b:Pat}{k:Nat} (h:l.length≤k):zeA w t l b k=zcj w t l b:=by
 rw[zlL,zeA,List.take_of_length_le h]
theorem zgm {w:List Data}{t:Ty}{l:List Pat}{b:Pat}{k:Nat} (h:k<l.length):zeA w t l b (k+1)=zeA w t l b k++zlq w t b (nth l k):=by
 unfold zeA
 have e:l[k]?=some (nth l k):=by simpa using zay (f:=id) h
 rw[List.take_add_one,e,List.flatMap_append]
 simp
theorem zrO {w:List Data}{t:Ty}{l:List Pat}{b:Pat} (k:Nat):(zeA w t l b k).length≤(zcj w t l b).length:=by
 rw[zlL,zeA]
 conv=>rhs;rw[←List.take_append_drop k l,List.flatMap_append]
 rw[List.length_append];omega
theorem zhr {w:List Data} (hs:Spa w):∀(n:Nat){ta tk:Int}{p:Pat},InS (w.length*4) ⟨ta,tk⟩→zam w n ⟨ta,tk⟩ p=true→
  FnD Tryz.prog 250 [.d (zao w),.d (zhM (w.length*4) (zaZ w)),.agg [.d (.i ta),.d (.i tk)],.agg [.d (.i (p).op),.d (.i (p).ctor),.d (.i (p).n),.d (.i (p).m),.d (.i (p).var),.d (zaf (p).kids)]] [] (.d (.bool (!zbg w (zaZ w) n ⟨ta,tk⟩ p))) []
 |0,ta,tk,p,_,h=>by simp[zam] at h
 |n+1,ta,tk,p,ht,h=>by
  have hdp:=zlZ (f:=zaZ w) ht (by have:=hs.dp.four;omega)
  by_cases h1:p.op=1
  ·rw[zhL h1]
   refine bd Tryz.f250 45 [] [] fun w0 F0 own kept hk=>?_
   refine Walk.box (id:=3006) .none rfl rfl rfl rfl rfl rfl rfl ?_
   refine Walk.box (id:=3007) .none rfl rfl rfl rfl rfl rfl rfl ?_
   refine ev ?_
   refine sq (fun h1 h1p h1s=>?_) fun h1 h1p h1s=>?_
   try simp only[Q] at h1p
   refine wc zqx (hdp) rfl rfl ?_
   refine ev ?_
   refine rn0 (r1 rfl) (.eqd ?_)
   rotate_left
   try simp only[Q] at h1p
   exfalso;omega
   all_goals (refine congrArg D.bool ?_;rw[Bool.eq_iff_iff];simp;omega)
  by_cases h3:p.op=3
  ·rw[zml h h3]
   refine bd Tryz.f250 45 [] [] fun w0 F0 own kept hk=>?_
   refine Walk.box (id:=3006) .none rfl rfl rfl rfl rfl rfl rfl ?_
   refine Walk.box (id:=3007) .none rfl rfl rfl rfl rfl rfl rfl ?_
   refine ev ?_
   refine sq (fun h1 h1p h1s=>?_) fun h1 h1p h1s=>?_
   try simp only[Q] at h1p
   exfalso;omega
   try simp only[Q] at h1p
   refine sq (fun h2 h2p h2s=>?_) fun h2 h2p h2s=>?_
   try simp only[Q] at h2p
   refine rn0 (r1 rfl) (.eqd ?_)
   rotate_left
   try simp only[Q] at h2p
   exfalso;omega
   all_goals (rfl)
  have h4:p.op=4:=by have:=zce h;omega
  obtain⟨c1,c2,c3,-⟩:=zbf h h4
  have h3l:=hs.args ⟨ta,tk⟩ p.ctor ht c1
  have hk:=fun i (hi:i<p.kids.length)=>zbt h hi
  rw[zbG h4] at hk
  rw[zmm h4,Bool.not_not]
  have ih:=fun i (hi:i<p.kids.length)=>zhr hs n (ta:=(nth (zaj w ⟨ta,tk⟩ p.ctor) i).data) (tk:=(nth (zaj w ⟨ta,tk⟩ p.ctor) i).index) (p:=nth p.kids i) (zcv hs.dp ht c1 _ (zal (by omega))) (hk i hi)
  refine bd Tryz.f250 45 [] [] fun w0 F0 own kept hk=>?_
  refine Walk.box (id:=3006) .none rfl rfl rfl rfl rfl rfl rfl ?_
  refine Walk.box (id:=3007) .none rfl rfl rfl rfl rfl rfl rfl ?_
  refine ev ?_
  refine sq (fun h1 h1p h1s=>?_) fun h1 h1p h1s=>?_
  try simp only[Q,Pat.cs_len] at h1p
  exfalso;omega
  try simp only[Q,Pat.cs_len] at h1p
  refine sq (fun h2 h2p h2s=>?_) fun h2 h2p h2s=>?_
  try simp only[Q,Pat.cs_len] at h2p
  exfalso;omega
  try simp only[Q,Pat.cs_len] at h2p
  refine wc ziY (zdF hs.dp.wt (zcK ht) c1) rfl rfl ?_
  refine ev ?_
  refine CWp.loopX (ι:=Nat) hk (fun i=>[(10,.d (.i (i:Int)))]) [8,26,27,28,29,30,31,32,33,34,35,36,37,38,39,40,41,42,43,44] (fun i=>[]) (fun i=>i≤(zaj w ⟨ta,tk⟩ p.ctor).length∧∀i',i'<i→(!zbg w (zaZ w) n (nth (zaj w ⟨ta,tk⟩ p.ctor) i') (nth p.kids i'))=true) (fun i=>(zaj w ⟨ta,tk⟩ p.ctor).length-i) 0 ⟨by omega,fun _ h=>absurd h (by omega)⟩ ⟨⟨_,rfl,LeA.eqi ?_⟩,trivial⟩ trivial (fun x=>rfl) (fun i hg1=>?_)
  focus (first|rfl|(simp;done)|(simp_all;done)|omega)
  refine evc [] [] ?_
  refine sq (fun h3 h3p h3s=>?_) fun h3 h3p h3s=>?_
  try simp only[Q,Pat.cs_len] at h3p
  refine Walk.idx zbd .none rfl rfl rfl rfl (zay (by omega)) rfl ?_
  refine evd [] [] ?_
  refine Walk.idx sl45 .none rfl rfl rfl rfl (zaI (by omega)) rfl ?_
  refine evd [] [] ?_
  refine wc zqK (ih i (by omega)) rfl rfl ?_
  refine evd [] [] ?_
  refine dr ?_
  refine sq (fun h4 h4p h4s=>?_) fun h4 h4p h4s=>?_
  try simp only[Q,Pat.cs_len] at h4p
  refine rn0 (r1 rfl) (.eqd ?_)
  rotate_left
  try simp only[Q,Pat.cs_len] at h4p
  refine ar ?_
  refine Exists.intro (i+1) ⟨⟨by omega,za1 hg1.2 (by first|assumption|(simp;assumption)|(simp_all;done))⟩,(by omega),sx ⟨⟨_,rfl,LeA.eqi ?_⟩,trivial⟩ trivial⟩
  focus (first|rfl|(simp;done)|(simp_all;done)|omega)
  try simp only[Q,Pat.cs_len] at h3p
  refine rn0 (r1 rfl) (.eqd ?_)
  rotate_left
  all_goals (refine congrArg D.bool ?_;first|(rw[zbV (i:=i) (by omega) (by omega) (by first|assumption|(simp;assumption)|(simp_all;done))];done)|(rw[zcp (by omega) (fun x hx=>hg1.2 x (by omega))];done))
theorem zh1 {w:List Data} (hs:Spa w){ta tk:Int} (ht:InS (w.length*4) ⟨ta,tk⟩){l:List Pat} (hl:∀a∈l,zam w 11 ⟨ta,tk⟩ a=true) (hb:l.length≤20000000):
  FnD Tryz.prog 197 [.d (zao w),.d (zhM (w.length*4) (zaZ w)),.agg [.d (.i ta),.d (.i tk)],.d (zaf l)] [] (.d (zaf (l.filter (zbL w ⟨ta,tk⟩)))) []:=by
 have hal:∀a∈l,FnD Tryz.prog 250 [.d (zao w),.d (zhM (w.length*4) (zaZ w)),.agg [.d (.i ta),.d (.i tk)],.agg [.d (.i (a).op),.d (.i (a).ctor),.d (.i (a).n),.d (.i (a).m),.d (.i (a).var),.d (zaf (a).kids)]] [] (.d (.bool (zbL w ⟨ta,tk⟩ a))) []:=fun a ha=>zhr hs 11 ht (hl a ha)
 have hle:∀ {pre rest:List Pat}{y:Pat},pre++y::rest=l→(pre.filter (zbL w ⟨ta,tk⟩)).length+1≤l.length:=fun {pre rest y} h=>by
  have h1:=List.length_filter_le (zbL w ⟨ta,tk⟩) pre
  have h2:=congrArg List.length h
  simp only[List.length_append,List.length_cons] at h2
  omega
 refine bd Tryz.f197 34 [] [] fun w0 F0 own kept hk=>?_
 refine Walk.box (id:=3006) .none rfl rfl rfl rfl rfl rfl rfl ?_
 refine ev ?_
 refine Walk.sliceEmptyG 9 sl45 .none rfl rfl ?_
 refine ev ?_
 refine CWp.loopX (ι:=List (Pat)×List (Pat)) hk (fun x=>[(10,.d (.i (x.1.length:Int))),(9,.gl 9 (Pat.cs (x.1.filter (zbL w ⟨ta,tk⟩))))]) [12,13,14,15,16,17,18,19,20,21,22,23,24,25,26,27,28,29,30,31,32] (fun x=>[(9,some (.tok ((Pat.cs (x.1.filter (zbL w ⟨ta,tk⟩)))).length 6))]) (fun x=>x.1++x.2=l) (fun x=>x.2.length) ([],l) (by simp) ⟨⟨_,rfl,LeA.eqi ?_⟩,⟨⟨_,rfl,LeA.glg ?_⟩,trivial⟩⟩ ⟨zad ?_,trivial⟩ (fun x=>rfl) (fun x hg1=>?_)
 iterate 3 focus (first|rfl|(dsimp only;rw[List.filter_append,List.filter_cons_of_pos (by assumption),List.filter_nil,Pat.cs_cd (List.filter _ _),Pat.cs_cd (_++_),List.map_append];rfl)|(dsimp only;rw[List.filter_append,List.filter_cons_of_neg (by simp_all),List.filter_nil,List.append_nil];done)|(dsimp only;rw[List.filter_append,List.filter_cons_of_pos (by assumption),List.filter_nil];simp[Pat.cs_len];done)|(simp;done)|omega|(simp;omega))
 obtain⟨pre,rest⟩:=x
 dsimp only at hg1 ⊢
 refine evc [] [] ?_
 refine sq (fun h1 h1p h1s=>?_) fun h1 h1p h1s=>?_
 try simp only[Q,Pat.cs_len] at h1p
 rcases rest with _|⟨y,rest⟩
 ·exfalso;simp_all
 refine Walk.idx sl45 .none rfl rfl rfl rfl (Pat.cs_at' hg1) rfl ?_
 refine evd [] [] ?_
 refine wc zqK (hal y (by rw[←hg1];simp)) rfl rfl ?_
 refine dr ?_
 refine sq (fun h2 h2p h2s=>?_) fun h2 h2p h2s=>?_
 try simp only[Q,Pat.cs_len] at h2p
 refine Walk.idx sl45 .none rfl rfl rfl rfl (Pat.cs_at' hg1) rfl ?_
 refine ev ?_
 refine Walk.sliceLit sl45 tz56 rfl (by decide) (ks:=[0]) (xs:=[_]) rfl rfl (by decide) (by decide) .none rfl rfl rfl rfl ?_
 refine Walk.append sl45 zz56 rfl .none rfl rfl rfl rfl (zaB rfl (by first|rfl|(simp;done)|(simp;omega))) (by intro x hx;simp at hx;subst hx;rfl) (by have h9:=hle hg1;simp[Pat.cs_len];omega) (by have h9:=hle hg1;simp[Pat.cs_len];omega) ?_
 refine ev ?_
 refine ar ?_
 refine Exists.intro ((pre++[y],rest)) ⟨(by have hz:=hg1;rw[←hz];simp),(by simp),sx ⟨⟨_,rfl,LeA.eqi ?_⟩,⟨⟨_,rfl,LeA.glg ?_⟩,trivial⟩⟩ ⟨zad ?_,trivial⟩⟩
 iterate 3 focus (first|rfl|(dsimp only;rw[List.filter_append,List.filter_cons_of_pos (by assumption),List.filter_nil,Pat.cs_cd (List.filter _ _),Pat.cs_cd (_++_),List.map_append];rfl)|(dsimp only;rw[List.filter_append,List.filter_cons_of_neg (by simp_all),List.filter_nil,List.append_nil];done)|(dsimp only;rw[List.filter_append,List.filter_cons_of_pos (by assumption),List.filter_nil];simp[Pat.cs_len];done)|(simp;done)|omega|(simp;omega))
 try simp only[Q,Pat.cs_len] at h2p
 refine ar ?_
 refine Exists.intro ((pre++[y],rest)) ⟨(by have hz:=hg1;rw[←hz];simp),(by simp),sx ⟨⟨_,rfl,LeA.eqi ?_⟩,⟨⟨_,rfl,LeA.glg ?_⟩,trivial⟩⟩ ⟨zad ?_,trivial⟩⟩
 iterate 3 focus (first|rfl|(dsimp only;rw[List.filter_append,List.filter_cons_of_pos (by assumption),List.filter_nil,Pat.cs_cd (List.filter _ _),Pat.cs_cd (_++_),List.map_append];rfl)|(dsimp only;rw[List.filter_append,List.filter_cons_of_neg (by simp_all),List.filter_nil,List.append_nil];done)|(dsimp only;rw[List.filter_append,List.filter_cons_of_pos (by assumption),List.filter_nil];simp[Pat.cs_len];done)|(simp;done)|omega|(simp;omega))
 try simp only[Q,Pat.cs_len] at h1p
 have hrest:rest=[]:=by
  rcases rest with _|⟨a,b⟩
  ·rfl
  ·exfalso;have hz:=congrArg List.length (hg1);simp only[List.length_append,List.length_cons,List.length_map] at hz;omega
 subst hrest
 refine rn0 (r1 rfl) (.gld ?_)
 rotate_left
 all_goals (first|rfl|(rw[List.append_nil] at hg1;rw[hg1];done))
theorem zjy {w:List Data} (hs:Spa w){ta tk:Int} (ht:InS (w.length*4) ⟨ta,tk⟩){l away:List Pat} (hl:∀a∈l,zam w 11 ⟨ta,tk⟩ a=true) (hb:∀b∈away,zam w 10 ⟨ta,tk⟩ b=true) (hll:l.length≤400) (hal:away.length≤1000):
  FnD Tryz.prog 124 [.d (zao w),.d (zhM (w.length*4) (zaZ w)),.agg [.d (.i ta),.d (.i tk)],.d (zaf l),.d (zaf away)] [] (.tup [.d (zaf ((zaK w ⟨ta,tk⟩ l away).getD [])),.d (.bool (zaK w ⟨ta,tk⟩ l away).isSome)]) []:=by
 have hke:=zro hs ht hl hb
 have hmi:∀(c:List Pat) (i k:Nat),(∀a∈c,zam w 11 ⟨ta,tk⟩ a=true)→i<away.length→k<c.length→(zav w 10 ⟨ta,tk⟩ (nth c k) (nth away i)).length≤20000000:=fun c i k hc hi hk=>zfu hs (by omega) (by omega) ht (hc _ (zal hk)) (hb _ (zal hi))
 have hkb:∀(c:List Pat) (i k:Nat),(∀a∈c,zam w 11 ⟨ta,tk⟩ a=true)→i<away.length→k<c.length→(zlq w ⟨ta,tk⟩ (nth away i) (nth c k)).length≤20000000:=fun c i k hc hi hk=>Nat.le_trans (List.length_filter_le _ _) (hmi c i k hc hi hk)
 rw[←hke]
 have hno:∀(c:List Pat) (i k:Nat),i<away.length→400<(zeA w ⟨ta,tk⟩ c (nth away i) k).length→subL w ⟨ta,tk⟩ c (away.drop i)=none:=fun c i k hi h=>by
  have:=zrO (w:=w) (t:=⟨ta,tk⟩) (l:=c) (b:=nth away i) k
  rw[zeU hi,if_neg (by omega)]
 refine bd Tryz.f124 60 [] [] fun w0 F0 own kept hk=>?_
 refine Walk.box (id:=3007) .none rfl rfl rfl rfl rfl rfl rfl ?_
 refine ev ?_
 refine CWp.loopX (ι:=Nat×List Pat) hk (fun s=>[(12,.d (.i (s.1:Int))),(3,.d (zaf s.2))]) [10,11,13,14,15,16,17,18,19,20,21,22,23,24,25,26,27,28,29,30,31,32,33,34,35,36,37,38,39,40,41,42,43,44,45,46,47,48,49,50,51,52,53,54] (fun s=>[]) (fun s=>s.1≤away.length∧subL w ⟨ta,tk⟩ s.2 (away.drop s.1)=subL w ⟨ta,tk⟩ l away∧(∀a∈s.2,zam w 11 ⟨ta,tk⟩ a=true)∧s.2.length≤400) (fun s=>away.length-s.1) (0,l) ⟨by simp,rfl,hl,hll⟩ ⟨⟨_,rfl,LeA.eqi ?_⟩,⟨⟨_,rfl, ?_⟩,trivial⟩⟩ trivial (fun x=>rfl) (fun s hg1=>?_)
 focus (first|rfl|(rw[zbe (by omega)];done)|(dsimp only;rw[zbe (by omega)];done)|(simp;done)|omega)
 focus (first|exact LeA.refl _|((first|refine LeA.gld ?_|refine LeA.nild ?_);first|rfl|(rw[zbe (by omega)];done)|(dsimp only;rw[zbe (by omega)];done)|(simp;done)|omega)|(refine LeA.eqsl ?_;first|rfl|(rw[zbe (by omega)];done)|(dsimp only;rw[zbe (by omega)];done)|(simp;done)|omega)|(refine LeA.eqd ?_;first|rfl|(rw[zbe (by omega)];done)|(dsimp only;rw[zbe (by omega)];done)|(simp;done)|omega))
 refine evc [] [] ?_
 refine sq (fun h1 h1p h1s=>?_) fun h1 h1p h1s=>?_
 try simp only[Q,Pat.cs_len] at h1p
 refine Walk.sliceEmptyG 9 sl45 .none rfl rfl ?_
 refine ev ?_
 refine CWp.loopX (ι:=Nat) hk (fun k=>[(14,.d (.i (k:Int))),(13,.gl 9 (Pat.cs (zeA w ⟨ta,tk⟩ s.2 (nth away s.1) k)))]) [22,23,24,25,26,27,28,29,30,31,32,33,34,35,36,37,38,39,40,41,42,43,44,45,46,47,48,49] (fun k=>[(9,some (.tok ((Pat.cs (zeA w ⟨ta,tk⟩ s.2 (nth away s.1) k))).length 6))]) (fun k=>k≤s.2.length) (fun k=>s.2.length-k) 0 (by omega) ⟨⟨_,rfl,LeA.eqi ?_⟩,⟨⟨_,rfl,LeA.glg ?_⟩,trivial⟩⟩ ⟨zad ?_,trivial⟩ (fun x=>rfl) (fun k hg2=>?_)
 iterate 3 focus (first|rfl|(simp[zeA];done)|(rw[zgm (by omega),Pat.cs_cd,Pat.cs_cd,Pat.cs_cd,List.map_append];done)|(rw[zgm (by omega)];simp[Pat.cs_len];done)|omega|(simp;omega))
 refine evc [] [] ?_
 refine sq (fun h2 h2p h2s=>?_) fun h2 h2p h2s=>?_
 try simp only[Q,Pat.cs_len] at h2p
 refine sq (fun h3 h3p h3s=>?_) fun h3 h3p h3s=>?_
 try simp only[Q,Pat.cs_len] at h3p
 refine Walk.idx sl45 .none rfl rfl rfl rfl (zaI (by omega)) rfl ?_
 refine evd [] [] ?_
 refine Walk.idx sl45 .none rfl rfl rfl rfl (zaI (by omega)) rfl ?_
 refine evd [] [] ?_
 refine wc zoh (zhs hs 10 11 (by omega) (by omega) (by omega) ht (hg1.2.2.1 _ (zal (by omega))) (hb _ (zal (by omega)))) rfl rfl ?_
 refine wc zqC (show FnD _ _ _ _ (.d (zaf (zlq w ⟨ta,tk⟩ (nth away s.1) (nth s.2 k)))) _ from zh1 hs ht (zgk 10 11 (by omega) (hg1.2.2.1 _ (zal (by omega))) (hb _ (zal (by omega)))) (hmi s.2 s.1 k hg1.2.2.1 (by omega) (by omega))) rfl rfl ?_
 refine Walk.append sl45 zz56 rfl .none rfl rfl rfl rfl (zaB rfl (by first|rfl|(simp;done)|(simp;omega))) (by exact zbj _) (by have h9:=hkb s.2 s.1 k hg1.2.2.1 (by omega) (by omega);simp only[Pat.cs_len];omega) (by have h9:=hkb s.2 s.1 k hg1.2.2.1 (by omega) (by omega);simp only[Pat.cs_len];omega) ?_
 refine evd [] [] ?_
 refine dr ?_
 refine ar ?_
 refine Exists.intro (k+1) ⟨(by omega),(by omega),sx ⟨⟨_,rfl,LeA.eqi ?_⟩,⟨⟨_,rfl,LeA.glg ?_⟩,trivial⟩⟩ ⟨zad ?_,trivial⟩⟩
 iterate 3 focus (first|rfl|(simp[zeA];done)|(rw[zgm (by omega),Pat.cs_cd,Pat.cs_cd,Pat.cs_cd,List.map_append];done)|(rw[zgm (by omega)];simp[Pat.cs_len];done)|omega|(simp;omega))
 try simp only[Q,Pat.cs_len] at h3p
 refine sq (fun h4 h4p h4s=>?_) fun h4 h4p h4s=>?_
 try simp only[Q,Pat.cs_len] at h4p
 refine Walk.sliceEmpty sl45 .none rfl ?_
 refine ev ?_
 refine rn0 (r2 rfl rfl) (.tup (.cons (.eqd ?_) (.cons (.eqd ?_) .nil)))
 rotate_left 2
 try simp only[Q,Pat.cs_len] at h4p
 refine ar ?_
 refine Exists.intro ((s.1+1,zcj w ⟨ta,tk⟩ s.2 (nth away s.1))) ⟨(by
    have hk:s.2.length≤k:=by omega
    have h4:(zcj w ⟨ta,tk⟩ s.2 (nth away s.1)).length≤400:=by rw[←zbe hk];omega
    have e:=zeU (w:=w) (t:=⟨ta,tk⟩) (l:=s.2) (away:=away) (i:=s.1) (by omega)
    rw[if_pos h4] at e
    refine⟨by dsimp only;omega, ?_,zgl hg1.2.2.1 (hb _ (zal (by omega))),h4⟩
    dsimp only
    rw[←e];exact hg1.2.1),(by dsimp only;omega),sx ⟨⟨_,rfl,LeA.eqi ?_⟩,⟨⟨_,rfl, ?_⟩,trivial⟩⟩ trivial⟩
 focus (first|rfl|(rw[zbe (by omega)];done)|(dsimp only;rw[zbe (by omega)];done)|(simp;done)|omega)
 focus (first|exact LeA.refl _|((first|refine LeA.gld ?_|refine LeA.nild ?_);first|rfl|(rw[zbe (by omega)];done)|(dsimp only;rw[zbe (by omega)];done)|(simp;done)|omega)|(refine LeA.eqsl ?_;first|rfl|(rw[zbe (by omega)];done)|(dsimp only;rw[zbe (by omega)];done)|(simp;done)|omega)|(refine LeA.eqd ?_;first|rfl|(rw[zbe (by omega)];done)|(dsimp only;rw[zbe (by omega)];done)|(simp;done)|omega))
 try simp only[Q,Pat.cs_len] at h2p
 refine sqF ?_
 refine sq (fun h6 h6p h6s=>?_) fun h6 h6p h6s=>?_
 try simp only[Q,Pat.cs_len] at h6p
 refine Walk.sliceEmpty sl45 .none rfl ?_
 refine ev ?_
 refine rn0 (r2 rfl rfl) (.tup (.cons (.eqd ?_) (.cons (.eqd ?_) .nil)))
 rotate_left 2
 try simp only[Q,Pat.cs_len] at h6p
 refine ar ?_
 refine Exists.intro ((s.1+1,zcj w ⟨ta,tk⟩ s.2 (nth away s.1))) ⟨(by
    have hk:s.2.length≤k:=by omega
    have h4:(zcj w ⟨ta,tk⟩ s.2 (nth away s.1)).length≤400:=by rw[←zbe hk];omega
    have e:=zeU (w:=w) (t:=⟨ta,tk⟩) (l:=s.2) (away:=away) (i:=s.1) (by omega)
    rw[if_pos h4] at e
    refine⟨by dsimp only;omega, ?_,zgl hg1.2.2.1 (hb _ (zal (by omega))),h4⟩
    dsimp only
    rw[←e];exact hg1.2.1),(by dsimp only;omega),sx ⟨⟨_,rfl,LeA.eqi ?_⟩,⟨⟨_,rfl, ?_⟩,trivial⟩⟩ trivial⟩
 focus (first|rfl|(rw[zbe (by omega)];done)|(dsimp only;rw[zbe (by omega)];done)|(simp;done)|omega)
 focus (first|exact LeA.refl _|((first|refine LeA.gld ?_|refine LeA.nild ?_);first|rfl|(rw[zbe (by omega)];done)|(dsimp only;rw[zbe (by omega)];done)|(simp;done)|omega)|(refine LeA.eqsl ?_;first|rfl|(rw[zbe (by omega)];done)|(dsimp only;rw[zbe (by omega)];done)|(simp;done)|omega)|(refine LeA.eqd ?_;first|rfl|(rw[zbe (by omega)];done)|(dsimp only;rw[zbe (by omega)];done)|(simp;done)|omega))
 try simp only[Q,Pat.cs_len] at h1p
 refine wc zqC (zh1 hs ht hg1.2.2.1 (by omega)) rfl rfl ?_
 refine ev ?_
 refine rn0 (r2 rfl rfl) (.tup (.cons (.eqd ?_) (.cons (.eqd ?_) .nil)))
 rotate_left 2
 all_goals (first|rfl|(rw[←hg1.2.1,hno s.2 s.1 k (by omega) (by omega)];rfl)|(rw[←hg1.2.1,zo6 (by omega)];rfl))
theorem zfy:∀(n:Nat){p:Pat},p.size≤n→p.ok→FnD Tryz.prog 96 [.agg [.d (.i (p).op),.d (.i (p).ctor),.d (.i (p).n),.d (.i (p).m),.d (.i (p).var),.d (zaf (p).kids)]] [] (.agg [.d (.i (p).op),.d (.i (p).ctor),.d (.i (p).n),.d (.i (p).m),.d (.i (p).var),.d (zaf (p).kids)]) []
 |0,p,h,_=>by rw[Pat.size_eq] at h;omega
 |n+1,p,h,hok=>by
  rw[Pat.size_eq] at h
  rw[Pat.ok_iff] at hok
  have hok1:=hok.1
  refine bd Tryz.f96 26 [] [] fun w0 F0 own kept hk=>?_
  refine Walk.box (id:=3001) .none rfl rfl rfl rfl rfl rfl rfl ?_
  refine Walk.alloc (id:=3002) tz56 rfl .none rfl rfl rfl rfl ?_
  refine tv ?_
  refine Walk.alloc (id:=3003) tz56 rfl .none rfl rfl rfl rfl ?_
  refine Walk.store ty56 .none rfl rfl rfl rfl rfl rfl (by simp) rfl ?_
  refine tv ?_
  refine Walk.store ty45 .none rfl rfl rfl rfl rfl rfl (by simp) rfl ?_
  refine tv ?_
  refine CWp.tokB 3003 5 7 6 rfl rfl rfl rfl ?_
  refine CWp.loopX (ι:=List (Pat)×List (Pat)) hk (fun x=>[(4,.d (.i (x.1.length:Int)))]) [7,8,9,10,11,12,13,14,15,16,17,18,19,20,21,22,23,24] (fun x=>[(3003,some (.box [.d (.i p.op),.d (.i p.ctor),.d (.i p.n),.d (.i p.m),.d (.i p.var),.gl 7 (x.1.map Pat.cc)])),(7,some (.tok (x.1.map Pat.cc).length 6))]) (fun x=>x.1++x.2=p.kids) (fun x=>x.2.length) ([],p.kids) (by simp) ⟨⟨_,rfl,LeA.eqi ?_⟩,trivial⟩ ⟨?_,⟨zad ?_,trivial⟩⟩ (fun x=>rfl) (fun x hg1=>?_)
  focus (first|rfl|(simp;done)|(simp_all;done)|omega|(simp;omega))
  focus (first|rfl|(simp[getH];done))
  focus (first|rfl|(simp;done)|(simp_all;done)|omega|(simp;omega))
  obtain⟨pre,rest⟩:=x
  dsimp only at hg1 ⊢
  refine evc [] [] ?_
  refine sq (fun h1 h1p h1s=>?_) fun h1 h1p h1s=>?_
  try simp only[Q,Pat.cs_len] at h1p
  rcases rest with _|⟨y,rest⟩
  ·exfalso;simp_all
  refine Walk.idx sl45 .none rfl rfl rfl rfl (Pat.cs_at' hg1) rfl ?_
  refine evd [] [] ?_
  refine wc zp0 (zfy n (p:=y) (by have:=Pats.size_mem (l:=p.kids) (v:=y) (by rw[←hg1];simp);omega) (Pats.ok_mem hok.2 y (by rw[←hg1];simp))) rfl rfl ?_
  refine Walk.sliceLit sl45 tz56 rfl (by decide) (ks:=[0]) (xs:=[_]) rfl rfl (by decide) (by decide) .none rfl rfl rfl rfl ?_
  refine Walk.append sl45 zz56 rfl .none rfl rfl rfl rfl (zaB rfl (by first|rfl|(simp;done)|(simp;omega))) (by intro x hx;first|(simp at hx;subst hx;rfl)|exact zbE _ x hx) (by have:=congrArg List.length hg1;simp at this;simp;omega) (by have:=congrArg List.length hg1;simp at this;simp;omega) ?_
  refine evd [] [] ?_
  refine Walk.store ty45 .none rfl rfl rfl rfl rfl rfl (by simp) rfl ?_
  refine dr ?_
  refine ar ?_
  refine Exists.intro ((pre++[y],rest)) ⟨(by have hz:=hg1;rw[←hz];simp),(by simp),sx ⟨⟨_,rfl,LeA.eqi ?_⟩,trivial⟩ ⟨?_,⟨zad ?_,trivial⟩⟩⟩
  focus (first|rfl|(simp;done)|(simp_all;done)|omega|(simp;omega))
  focus (first|rfl|(simp[getH];done))
  focus (first|rfl|(simp;done)|(simp_all;done)|omega|(simp;omega))
  try simp only[Q,Pat.cs_len] at h1p
  have hrest:rest=[]:=by
   rcases rest with _|⟨a,b⟩
   ·rfl
   ·exfalso;have hz:=congrArg List.length (hg1);simp only[List.length_append,List.length_cons,List.length_map] at hz;omega
  subst hrest
  refine Walk.store ty56 .none rfl rfl rfl rfl rfl rfl (by simp) rfl ?_
  refine tv ?_
  refine rn0 (.cons (.cellA ty56 rfl rfl rfl) .nil) (.agg (.cons (.eqd ?_) (.cons (.eqd ?_) (.cons (.eqd ?_) (.cons (.eqd ?_) (.cons (.eqd ?_) (.cons (.gld ?_) .nil)))))))
  rotate_left 6
  all_goals (first|rfl|(rw[List.append_nil] at hg1;rw[←hg1,Pat.cs_cd];done))
theorem znP {l:List Pat} (h:l.length≤1000000000000) (hok:∀p∈l,p.ok):FnD Tryz.prog 201 [.d (zaf l)] [] (.d (zaf l)) []:=by
 refine bd Tryz.f201 21 [] [] fun w0 F0 own kept hk=>?_
 refine Walk.sliceEmptyG 1 sl45 .none rfl rfl ?_
 refine ev ?_
 refine CWp.loopX (ι:=List (Pat)×List (Pat)) hk (fun x=>[(4,.d (.i (x.1.length:Int))),(3,.gl 1 (x.1.map Pat.cc))]) [6,7,8,9,10,11,12,13,14,15,16,17,18,19] (fun x=>[(1,some (.tok ((x.1.map Pat.cc)).length 6))]) (fun x=>x.1++x.2=l) (fun x=>x.2.length) ([],l) (by simp) ⟨⟨_,rfl,LeA.eqi ?_⟩,⟨⟨_,rfl,LeA.glg ?_⟩,trivial⟩⟩ ⟨zad ?_,trivial⟩ (fun x=>rfl) (fun x hg1=>?_)
 iterate 3 focus (first|rfl|(simp;done)|(simp_all;done)|omega|(simp;omega))
 obtain⟨pre,rest⟩:=x
 dsimp only at hg1 ⊢
 refine evc [] [] ?_
 refine sq (fun h1 h1p h1s=>?_) fun h1 h1p h1s=>?_
 try simp only[Q,Pat.cs_len] at h1p
 rcases rest with _|⟨y,rest⟩
 ·exfalso;simp_all
 refine Walk.idx sl45 .none rfl rfl rfl rfl (Pat.cs_at' hg1) rfl ?_
 refine ev ?_
 refine wc zp0 (zfy _ (Nat.le_refl _) (hok y (by rw[←hg1];simp))) rfl rfl ?_
 refine Walk.sliceLit sl45 tz56 rfl (by decide) (ks:=[0]) (xs:=[_]) rfl rfl (by decide) (by decide) .none rfl rfl rfl rfl ?_
 refine Walk.append sl45 zz56 rfl .none rfl rfl rfl rfl (zaB rfl (by first|rfl|(simp;done)|(simp;omega))) (by intro x hx;simp at hx;subst hx;rfl) (by have:=congrArg List.length hg1;simp at this;simp;omega) (by have:=congrArg List.length hg1;simp at this;simp;omega) ?_
 refine ev ?_
 refine ar ?_
 refine Exists.intro ((pre++[y],rest)) ⟨(by have hz:=hg1;rw[←hz];simp),(by simp),sx ⟨⟨_,rfl,LeA.eqi ?_⟩,⟨⟨_,rfl,LeA.glg ?_⟩,trivial⟩⟩ ⟨zad ?_,trivial⟩⟩
 iterate 3 focus (first|rfl|(simp;done)|(simp_all;done)|omega|(simp;omega))
 try simp only[Q,Pat.cs_len] at h1p
 have hrest:rest=[]:=by
  rcases rest with _|⟨a,b⟩
  ·rfl
  ·exfalso;have hz:=congrArg List.length (hg1);simp only[List.length_append,List.length_cons,List.length_map] at hz;omega
 subst hrest
 refine rn0 (r1 rfl) (.gld ?_)
 rotate_left
 all_goals (first|rfl|(rw[List.append_nil] at hg1;rw[←hg1,Pat.cs_cd];done))
theorem znu {p:Pat} (h:zcX p=true):zbb (zaN p)=zdE p:=by
 unfold zcX at h
 have h40:=of_decide_eq_true h
 unfold zbb zdE
 rw[if_pos h40,List.take_of_length_le (by omega)]
theorem zrn {p:Pat}:((40:Int)<((zbb (zaN p)).length:Int))↔zcX p=false:=by
 unfold zcX zbb
 rw[List.length_take,decide_eq_false_iff_not]
 omega
theorem zl7 {w:List Data}{t:Ty}{l:List Cl} (hl:l.length≤8) (hc:∀c∈l,zaw w 10 t c.pat=true∧c.pat.ok):
  FnD Tryz.prog 123 [.d (za6 l),.d (.i (l.length:Int))] [] (.tup [.d (zaf ((zbC l []).getD [])),.d (.bool (zbC l []).isSome)]) []:=by
 have hpl:=fun(i:Nat)=>zgv (zaN (nth l i).pat)
 have hge:=fun(i:Nat)=>zrn (p:=(nth l i).pat)
 refine bd Tryz.f123 35 [] [] fun w0 F0 own kept hk=>?_
 refine Walk.sliceEmptyG 9 sl45 .none rfl rfl ?_
 refine ev ?_
 refine CWp.loopX (ι:=Nat×List Pat) hk (fun s=>[(7,.d (.i (s.1:Int))),(6,.gl 9 (Pat.cs s.2))]) [4,5,8,10,11,12,13,14,15,16,17,18,19,20,21,22,23,24,25,26,27,28,29,30,31,32,33] (fun s=>[(9,some (.tok ((Pat.cs s.2)).length 6))]) (fun s=>s.1≤l.length∧zbC (l.drop s.1) s.2=zbC l []∧s.2.length≤40*s.1) (fun s=>l.length-s.1) (0,[]) ⟨by simp,rfl,by simp⟩ ⟨⟨_,rfl,LeA.eqi ?_⟩,⟨⟨_,rfl,LeA.glg ?_⟩,trivial⟩⟩ ⟨zad ?_,trivial⟩ (fun x=>rfl) (fun s hg1=>?_)
 iterate 3 focus (first|rfl|(dsimp only;rw[if_pos (by assumption),Pat.cs_cd,Pat.cs_cd,Pat.cs_cd,List.map_append];done)|(dsimp only;rw[if_neg (by assumption)];done)|(dsimp only;rw[if_pos (by assumption)];simp[Pat.cs_len];done)|(dsimp only;rw[if_neg (by assumption)];simp[Pat.cs_len];done)|(simp;done)|omega|(simp;omega))
 refine evc [] [] ?_
 refine sq (fun h1 h1p h1s=>?_) fun h1 h1p h1s=>?_
 try simp only[Q,Pat.cs_len,Int.natCast_inj] at h1p
 refine Walk.idx sl28 .none rfl rfl rfl rfl (zay (by omega)) rfl ?_
 refine ev ?_
 refine sq (fun h2 h2p h2s=>?_) fun h2 h2p h2s=>?_
 try simp only[Q,Pat.cs_len,Int.natCast_inj] at h2p
 refine ar ?_
 refine Exists.intro ((s.1+1,if (nth l s.1).g.op=0 then s.2++zbb (zaN (nth l s.1).pat) else s.2)) ⟨(by
    by_cases hz:(nth l s.1).g.op=0
    ·have hp:zcX (nth l s.1).pat=true:=by
      cases hp:zcX (nth l s.1).pat with
      |true=>rfl
      |false=>have:=(hge s.1).2 hp;exfalso;first|omega|contradiction
     have h9:=zgp (nth l s.1).pat
     have e:=znu hp
     refine⟨by dsimp only;omega, ?_, ?_⟩
     ·dsimp only
      rw[if_pos hz,e,←zfF (out:=s.2) (by omega) hz hp];exact hg1.2.1
     ·dsimp only
      rw[if_pos hz,e,List.length_append];omega
    ·refine⟨by dsimp only;omega, ?_, ?_⟩
     ·dsimp only
      rw[if_neg hz,←zfH (out:=s.2) (by omega) hz];exact hg1.2.1
     ·dsimp only
      rw[if_neg hz];omega),(by dsimp only;omega),sx ⟨⟨_,rfl,LeA.eqi ?_⟩,⟨⟨_,rfl,LeA.glg ?_⟩,trivial⟩⟩ ⟨zad ?_,trivial⟩⟩
 iterate 3 focus (first|rfl|(dsimp only;rw[if_pos (by assumption),Pat.cs_cd,Pat.cs_cd,Pat.cs_cd,List.map_append];done)|(dsimp only;rw[if_neg (by assumption)];done)|(dsimp only;rw[if_pos (by assumption)];simp[Pat.cs_len];done)|(dsimp only;rw[if_neg (by assumption)];simp[Pat.cs_len];done)|(simp;done)|omega|(simp;omega))
 try simp only[Q,Pat.cs_len,Int.natCast_inj] at h2p
 refine Walk.idx sl28 .none rfl rfl rfl rfl (zay (by omega)) rfl ?_
 refine ev ?_
 refine wc ztu (zl5 (hc _ (zal (i:=s.1) (by omega))).1 (hc _ (zal (by omega))).2) rfl rfl ?_
 refine ev ?_
 refine sq (fun h3 h3p h3s=>?_) fun h3 h3p h3s=>?_
 try simp only[Q,Pat.cs_len,Int.natCast_inj] at h3p
 refine rn0 (r2 rfl rfl) (.tup (.cons (.nild ?_) (.cons (.eqd ?_) .nil)))
 rotate_left 2
 try simp only[Q,Pat.cs_len,Int.natCast_inj] at h3p
 refine Walk.append sl45 zz56 rfl .none rfl rfl rfl rfl (zaB rfl (by first|rfl|(simp;done)|(simp;omega))) (by exact zbj _) (by have:=hpl s.1;simp only[Pat.cs_len];omega) (by have:=hpl s.1;simp only[Pat.cs_len];omega) ?_
 refine ev ?_
 refine ar ?_
 refine Exists.intro ((s.1+1,if (nth l s.1).g.op=0 then s.2++zbb (zaN (nth l s.1).pat) else s.2)) ⟨(by
    by_cases hz:(nth l s.1).g.op=0
    ·have hp:zcX (nth l s.1).pat=true:=by
      cases hp:zcX (nth l s.1).pat with
      |true=>rfl
      |false=>have:=(hge s.1).2 hp;exfalso;first|omega|contradiction
     have h9:=zgp (nth l s.1).pat
     have e:=znu hp
     refine⟨by dsimp only;omega, ?_, ?_⟩
     ·dsimp only
      rw[if_pos hz,e,←zfF (out:=s.2) (by omega) hz hp];exact hg1.2.1
     ·dsimp only
      rw[if_pos hz,e,List.length_append];omega
    ·refine⟨by dsimp only;omega, ?_, ?_⟩
     ·dsimp only
      rw[if_neg hz,←zfH (out:=s.2) (by omega) hz];exact hg1.2.1
     ·dsimp only
      rw[if_neg hz];omega),(by dsimp only;omega),sx ⟨⟨_,rfl,LeA.eqi ?_⟩,⟨⟨_,rfl,LeA.glg ?_⟩,trivial⟩⟩ ⟨zad ?_,trivial⟩⟩
 iterate 3 focus (first|rfl|(dsimp only;rw[if_pos (by assumption),Pat.cs_cd,Pat.cs_cd,Pat.cs_cd,List.map_append];done)|(dsimp only;rw[if_neg (by assumption)];done)|(dsimp only;rw[if_pos (by assumption)];simp[Pat.cs_len];done)|(dsimp only;rw[if_neg (by assumption)];simp[Pat.cs_len];done)|(simp;done)|omega|(simp;omega))
 try simp only[Q,Pat.cs_len,Int.natCast_inj] at h1p
 refine rn0 (r2 rfl rfl) (.tup (.cons (.gld ?_) (.cons (.eqd ?_) .nil)))
 rotate_left 2
 all_goals (first|rfl|(rw[←hg1.2.1,zlb (by omega) (by assumption) ((hge s.1).1 (by omega))];rfl)|(rw[←hg1.2.1,zlc (by omega)];rfl))
theorem zl6 {w:List Data} (hs:Spa w){ta tk:Int} (ht:InS (w.length*4) ⟨ta,tk⟩){l:List Pat}{ok:Bool} (hl:∀a∈l,a.ok∧a.size≤1000000000000) (hb:l.length≤1000000000000):
  FnD Tryz.prog 126 [.d (zao w),.agg [.d (.i ta),.d (.i tk)],.d (zaf l),.d (.bool ok)] [] (.tup [.d (zaf (if l.all (isP w ⟨ta,tk⟩)=true then l else [])),.d (.bool (l.all (isP w ⟨ta,tk⟩)&&ok))]) []:=by
 have hbad:∀i,i<l.length→isP w ⟨ta,tk⟩ (nth l i)=false→l.all (isP w ⟨ta,tk⟩)=false:=fun i hi h=>by
  cases hq:l.all (isP w ⟨ta,tk⟩) with
  |false=>rfl
  |true=>have:=List.all_eq_true.1 hq _ (zal hi);rw[h] at this;cases this
 have hgood:(∀i,i<l.length→isP w ⟨ta,tk⟩ (nth l i)=true)→l.all (isP w ⟨ta,tk⟩)=true:=fun h=>List.all_eq_true.2 fun x hx=>by
  obtain⟨i,hi,rfl⟩:=List.getElem_of_mem hx
  have:=h i hi
  rwa [zbk hi] at this
 refine bd Tryz.f126 29 [] [] fun w0 F0 own kept hk=>?_
 refine Walk.box (id:=3005) .none rfl rfl rfl rfl rfl rfl rfl ?_
 refine ev ?_
 refine CWp.loopX (ι:=Nat) hk (fun i=>[(10,.d (.i (i:Int)))]) [8,9,11,12,13,14,15,16,17,18,19,20,21,22,23,24,25] (fun i=>[]) (fun i=>i≤l.length∧∀i',i'<i→isP w ⟨ta,tk⟩ (nth l i')=true) (fun i=>l.length-i) 0 ⟨by omega,fun _ h=>absurd h (by omega)⟩ ⟨⟨_,rfl,LeA.eqi ?_⟩,trivial⟩ trivial (fun x=>rfl) (fun i hg1=>?_)
 focus (first|rfl|(simp;done)|(simp_all;done)|omega)
 refine evc [] [] ?_
 refine sq (fun h1 h1p h1s=>?_) fun h1 h1p h1s=>?_
 try simp only[Q,Pat.cs_len] at h1p
 refine Walk.idx sl45 .none rfl rfl rfl rfl (zaI (by omega)) rfl ?_
 refine evd [] [] ?_
 refine wc zog (zgT hs.dp.wt (zcK ht) (hl _ (zal (i:=i) (by omega))).1 (hl _ (zal (by omega))).2) rfl rfl ?_
 refine evd [] [] ?_
 refine dr ?_
 refine sq (fun h2 h2p h2s=>?_) fun h2 h2p h2s=>?_
 try simp only[Q,Pat.cs_len] at h2p
 refine Walk.sliceEmpty sl45 .none rfl ?_
 refine ev ?_
 refine rn0 (r2 rfl rfl) (.tup (.cons (.eqd ?_) (.cons (.eqd ?_) .nil)))
 rotate_left 2
 try simp only[Q,Pat.cs_len] at h2p
 refine ar ?_
 refine Exists.intro (i+1) ⟨⟨by omega,za1 hg1.2 (by assumption)⟩,(by omega),sx ⟨⟨_,rfl,LeA.eqi ?_⟩,trivial⟩ trivial⟩
 focus (first|rfl|(simp;done)|(simp_all;done)|omega)
 try simp only[Q,Pat.cs_len] at h1p
 refine wc ztw (znP hb (fun p hp=>(hl p hp).1)) rfl rfl ?_
 refine ev ?_
 refine rn0 (r2 rfl rfl) (.tup (.cons (.eqd ?_) (.cons (.eqd ?_) .nil)))
 rotate_left 2
 all_goals (first|rfl|(rw[hbad i (by omega) (by assumption)];rfl)|(rw[hgood (fun x hx=>hg1.2 x (by omega))];rfl)|(rw[hgood (fun x hx=>hg1.2 x (by omega))];simp;done))
theorem zmT {w:List Data} (hsp:Spa w){a k:Int} (hin:InS (w.length*4) ⟨a,k⟩){l:List Cl} (h8:l.length≤8) (hsh:∀c∈l,zaw w 10 ⟨a,k⟩ c.pat=true∧c.pat.ok):
  FnD Tryz.prog 73 [.d (zao w),.agg [.d (.i a),.d (.i k)],.d (zaf [anyQ]),.d (za6 l),.d (.i (l.length:Int))] [] (.tup [.d (zaf ((zdO w ⟨a,k⟩ l).getD [])),.d (.bool (zdO w ⟨a,k⟩ l).isSome)]) []:=by
 have hco:=zl7 (w:=w) (t:=⟨a,k⟩) h8 hsh
 cases hq:zbC l [] with
 |none=>
  have e:zdO w ⟨a,k⟩ l=none:=by unfold zdO;rw[hq]
  rw[hq] at hco
  rw[e]
  refine bd Tryz.f73 42 [] [] fun w0 F0 own kept hk=>?_
  refine Walk.box (id:=3006) .none rfl rfl rfl rfl rfl rfl rfl ?_
  refine ev ?_
  refine wc zqv (hco) rfl rfl ?_
  refine ev ?_
  refine sq (fun h1 h1p h1s=>?_) fun h1 h1p h1s=>?_
  try simp only[Q] at h1p
  refine Walk.sliceEmpty sl45 .none rfl ?_
  refine ev ?_
  refine rn0 (r2 rfl rfl) (.tup (.cons (.eqd ?_) (.cons (.eqd ?_) .nil)))
  rotate_left 2
  try simp only[Q] at h1p
  exfalso;exact absurd h1 (by simp)
  all_goals (rfl)
 |some away=>
  rw[hq] at hco
  obtain⟨p1,p2⟩:=zfG l [] away (fun c hc=>(hsh c hc).1) (by simp) hq
  have hwo:=zjy hsp hin (l:=[anyQ]) (away:=away) zg2 p2 (by simp) (by simp at p1;omega)
  have hrl2:((zaK w ⟨a,k⟩ [anyQ] away).getD []).length≤400∧∀x∈(zaK w ⟨a,k⟩ [anyQ] away).getD [],x.ok∧x.size≤1000000000000:=by
   cases hw:zaK w ⟨a,k⟩ [anyQ] away with
   |none=>exact⟨by simp,by simp⟩
   |some r=>
    have:=zf7 away _ r (fun x hx=>zg2 x (List.mem_filter.1 hx).1) (Nat.le_trans (List.length_filter_le _ _) (by simp)) p2 hw
    exact⟨this.1,fun x hx=>⟨(zgC hsp 11 hin (this.2 x hx)).1,by have:=(zgC hsp 11 hin (this.2 x hx)).2;have:=zoS (n:=11) (by omega);omega⟩⟩
  have hre:=zl6 hsp hin (l:=(zaK w ⟨a,k⟩ [anyQ] away).getD []) (ok:=(zaK w ⟨a,k⟩ [anyQ] away).isSome) hrl2.2 (by omega)
  have hem:(zaK w ⟨a,k⟩ [anyQ] away).isSome=false→(zaK w ⟨a,k⟩ [anyQ] away).getD []=[]:=fun h=>by
   cases hw:zaK w ⟨a,k⟩ [anyQ] away with
   |none=>rfl
   |some r=>rw[hw] at h;cases h
  have e:zdO w ⟨a,k⟩ l=if (((zaK w ⟨a,k⟩ [anyQ] away).getD []).all (isP w ⟨a,k⟩)&&(zaK w ⟨a,k⟩ [anyQ] away).isSome)=true then some ((zaK w ⟨a,k⟩ [anyQ] away).getD []) else none:=by
   unfold zdO
   rw[hq]
   cases hw:zaK w ⟨a,k⟩ [anyQ] away with
   |none=>simp[hw]
   |some r=>simp[hw]
  rw[e]
  generalize ((zaK w ⟨a,k⟩ [anyQ] away).getD []).all (isP w ⟨a,k⟩)=q at hre ⊢
  generalize (zaK w ⟨a,k⟩ [anyQ] away).isSome=q2 at hre hwo hem ⊢
  refine bd Tryz.f73 42 [] [] fun w0 F0 own kept hk=>?_
  refine Walk.box (id:=3006) .none rfl rfl rfl rfl rfl rfl rfl ?_
  refine ev ?_
  refine wc zqv (hco) rfl rfl ?_
  refine ev ?_
  refine sq (fun h1 h1p h1s=>?_) fun h1 h1p h1s=>?_
  try simp only[Q] at h1p
  exfalso;exact absurd h1 (by simp)
  try simp only[Q] at h1p
  refine wc ztb (zl1 hsp.dp) rfl rfl ?_
  refine evd [] [] ?_
  refine wc zta (hwo) rfl rfl ?_
  refine evd [] [] ?_
  refine dr ?_
  refine wc ztc (hre) rfl rfl ?_
  refine ev ?_
  refine rn0 (r2 rfl rfl) (.tup (.cons (.eqd ?_) (.cons (.eqd ?_) .nil)))
  rotate_left 2
  all_goals (first|rfl|(cases q<;>cases q2<;>first|rfl|(rw[hem rfl];rfl)))
theorem zg1 {w:List Data} (hs:WSmall w){a k:Int}{l:List Cl} (hl:ClsOk l) (hz:ClsSz l):
  FnD Tryz.prog 27 [.d (zao w),.agg [.d (.i a),.d (.i k)],.d (za6 l)] [] (.tup [.d (zaf ((zbS w ⟨a,k⟩ l).getD [])),.d (.bool (zbS w ⟨a,k⟩ l).isSome)]) []:=by
 have hcv:=ziv hs (a:=a) (k:=k) hl hz
 by_cases hv:zbA w ⟨a,k⟩ l=true
 ·have hm:zbS w ⟨a,k⟩ l=zdO w ⟨a,k⟩ l:=by unfold zbS;rw[if_pos hv]
  rw[hm]
  have htv:=zmh hv
  have hsp:=zpb hs (zd7 htv.1).1
  have hin:InS (w.length*4) ⟨a,k⟩:=by
   obtain⟨_,_,h3⟩:=zd7 htv.1
   by_cases ha:a = -1
   ·exact .inl ha
   ·obtain⟨h4,h5,h6,h7⟩:=h3 ha
    have:=zq6 (n:=w.length) h5 (j:=k.toNat) (by omega)
    rwa [Int.toNat_of_nonneg h4,Int.toNat_of_nonneg h6] at this
  have hre:=zmT hsp hin htv.2 (zmX hv hl)
  have e1:zaf [anyQ]=D.sl [[D.i 1,D.i 0,D.i 0,D.i 0,D.i 0,D.sl []]]:=rfl
  rw[e1] at hre
  rw[←List.length_map (f:=Cl.c)] at hre
  refine bd Tryz.f27 24 [] [] fun w0 F0 own kept hk=>?_
  refine Walk.box (id:=3004) .none rfl rfl rfl rfl rfl rfl rfl ?_
  refine ev ?_
  refine wc zsh (hcv) rfl rfl ?_
  refine ev ?_
  refine sq (fun h1 h1p h1s=>?_) fun h1 h1p h1s=>?_
  try simp only[Q] at h1p
  exfalso;rw[hv] at h1;exact absurd h1 (by simp)
  try simp only[Q] at h1p
  refine wc znY (zeD) rfl rfl ?_
  refine Walk.sliceLit sl45 tz56 rfl (by decide) (ks:=[0]) (xs:=[_]) rfl rfl (by decide) (by decide) .none rfl rfl rfl rfl ?_
  refine evd [] [] ?_
  refine wc zul (hre) rfl rfl ?_
  refine evd [] [] ?_
  refine dr ?_
  refine rn0 (r2 rfl rfl) (.tup (.cons (.eqd ?_) (.cons (.eqd ?_) .nil)))
  rotate_left 2
  all_goals (rfl)
 ·have hv':zbA w ⟨a,k⟩ l=false:=by simpa using hv
  have hm:zbS w ⟨a,k⟩ l=none:=by unfold zbS;rw[if_neg hv]
  rw[hm]
  rw[hv'] at hcv
  refine bd Tryz.f27 24 [] [] fun w0 F0 own kept hk=>?_
  refine Walk.box (id:=3004) .none rfl rfl rfl rfl rfl rfl rfl ?_
  refine ev ?_
  refine wc zsh (hcv) rfl rfl ?_
  refine ev ?_
  refine sq (fun h1 h1p h1s=>?_) fun h1 h1p h1s=>?_
  try simp only[Q] at h1p
  refine Walk.sliceEmpty sl45 .none rfl ?_
  refine ev ?_
  refine rn0 (r2 rfl rfl) (.tup (.cons (.eqd ?_) (.cons (.eqd ?_) .nil)))
  rotate_left 2
  try simp only[Q] at h1p
  exfalso;exact absurd h1 (by simp)
  all_goals (rfl)
theorem zjw {w:List Data} (hs:WSmall w){a k:Int}{l:List Cl} (hl:ClsOk l) (hz:ClsSz l):
  FnD Tryz.prog 47 [.d (zao w),.agg [.d (.i a),.d (.i k)],.d (za6 l)] [] (.tup [.d (.bool (exhQ w ⟨a,k⟩ l)),.d (.bool (zbS w ⟨a,k⟩ l).isSome)]) []:=by
 have hmp:=zg1 hs (a:=a) (k:=k) hl hz
 unfold exhQ
 generalize zbS w ⟨a,k⟩ l=m at *
 refine bd Tryz.f47 24 [] [] fun w0 F0 own kept hk=>?_
 refine Walk.box (id:=3004) .none rfl rfl rfl rfl rfl rfl rfl ?_
 refine ev ?_
 refine wc zud (hmp) rfl rfl ?_
 refine ev ?_
 refine sq (fun h1 h1p h1s=>?_) fun h1 h1p h1s=>?_
 try simp only[Q,Pat.cs_len,Int.natCast_inj] at h1p
 refine rn0 (r2 rfl rfl) (.tup (.cons (.eqd ?_) (.cons (.eqd ?_) .nil)))
 rotate_left 2
 try simp only[Q,Pat.cs_len,Int.natCast_inj] at h1p
 refine rn0 (r2 rfl rfl) (.tup (.cons (.eqd ?_) (.cons (.eqd ?_) .nil)))
 rotate_left 2
 all_goals (first|rfl|(simp_all[Pat.cs_len];done)|(cases m<;>simp_all[Pat.cs_len];done)|(cases m<;>simp[Pat.cs_len] at *;done))
end Go.Proofs.YtcnjkjdmbnhcaaaGreat
namespace Go.Proofs.YtcnjkjdmbnhcaaaGreat
open Go
set_option linter.unusedSimpArgs false
set_option linter.unusedVariables false
theorem zm9 (L:List Nat) (hp:Hp) (i:Nat):getH (L.map (fun j=>(j,(none:Option Res)))++hp) i=if i∈L then none else getH hp i:=by
 induction L with
 |nil=>simp
 |cons x r ih=>
  simp only[List.map_cons,List.cons_append,zai,List.mem_cons]
  by_cases h:i=x
  ·subst h;simp
  ·simp[h,ih]
section
variable {c:Ctx}
theorem R.drop {G:Gh}{s:St}{a:Act}{w:World} (hr:R c G s a w) (L:List Nat) (hk:∀i l,c.kept i=some l→i∉L):R c G ⟨s.env,L.map (fun j=>(j,none))++s.hp⟩ a w:=by
 have hg:=zm9 L s.hp
 have hT:∀i p,tokf (L.map (fun j=>(j,(none:Option Res)))++s.hp) i=some p→tokf s.hp i=some p:=fun i p h=>by
  obtain⟨n,k⟩:=p
  have:=zar.1 h
  rw[hg] at this
  split at this
  ·cases this
  ·exact zar.2 this
 have hm:∀ {x:AV}{v:Value},RelA G (tokf s.hp) w x v→RelA G (tokf (L.map (fun j=>(j,(none:Option Res)))++s.hp)) w x v:=fun hx=>
  hx.mono (fun _ _ ho=>⟨ho,rfl⟩) (fun _ _=> .inl rfl) (fun i _ p hp=>⟨hT i p hp,fun _ _=>⟨rfl,rfl⟩⟩)
 have hs:∀i r,getH (L.map (fun j=>(j,(none:Option Res)))++s.hp) i=some r→getH s.hp i=some r:=fun i r h=>by
  rw[hg] at h
  split at h
  ·cases h
  ·exact h
 have hss:∀i,(getH (L.map (fun j=>(j,(none:Option Res)))++s.hp) i).isSome→(getH s.hp i).isSome:=fun i h=>by
  obtain⟨r,hr⟩:=Option.isSome_iff_exists.1 h
  rw[hs i r hr];rfl
 refine⟨hr.size,hr.defers,fun i v h=>hm (hr.slots i v h),fun i r h=>?_,fun i j h1 h2=>hr.disj i j (hss i h1) (hss j h2),fun i h=>hr.new i (hss i h),hr.frm,hr.top,fun i l hl=>?_⟩
 ·have hh:=hr.heap i r (hs i r h)
  cases r with
  |box cs=>
   obtain⟨b,vs,e,h1,h2,h3,h4,h5⟩:=hh
   exact⟨b,vs,e,h1,h2,h3,h4,fun j hj hv=>hm (h5 j hj hv)⟩
  |tok m k=>exact hh
  |map ks=>exact hh
  |tree cs=>exact zbu hh rfl (fun _ _=>⟨rfl,rfl⟩) (Nat.le_refl _) (fun _ _ _=>hm)
 ·obtain⟨k1,k2,k3⟩:=hr.kept i l hl
  refine⟨k1, ?_, ?_⟩
  ·show(getH (L.map (fun j=>(j,(none:Option Res)))++s.hp) i).isSome
   rw[hg,if_neg (hk i l hl)];exact k2
  ·show tokf (L.map (fun j=>(j,(none:Option Res)))++s.hp) i=none
   cases h:tokf (L.map (fun j=>(j,(none:Option Res)))++s.hp) i with
   |none=>rfl
   |some p=>rw[hT i p h] at k3;cases k3
theorem R.retokG {G G':Gh}{s:St}{a:Act}{w w':World} (hr:R c G s a w){id n n' k:Nat} (htok:getH s.hp id=some (.tok n k)) (hlt:n<n')
  (hF:∀b o,o<G.F b→o<G'.F b∧w'.cell? ⟨b,o,none⟩=w.cell? ⟨b,o,none⟩) (hloc:∀i,i≠id→G'.loc i=G.loc i)
  (hoth:∀b,b<w.heap.size→b∉G.loc id→w'.heap[b]?=w.heap[b]?∧G'.F b=G.F b)
  (hid:∀b,b∈G'.loc id→b<w'.heap.size) (hnew:∀b,b∈G'.loc id→b∈G.loc id∨w.heap.size≤b∨((b∈c.own∨c.w0.heap.size≤b)∧∀i,i≠id→(getH s.hp i).isSome→b∉G.loc i))
  (hos:w'.os=w.os) (htp:w'.tape=w.tape) (hou:w'.output=w.output) (hsz:w.heap.size≤w'.heap.size) (htop:∀b,w'.heap.size≤b→G'.F b=0):
  R c G' { s with hp:=(id,some (.tok n' k))::s.hp } a w':=by
 have hT:tokf s.hp id=some (n,k):=zar.2 htok
 have hT1:tokf ((id,some (.tok n' k))::s.hp) id=some (n',k):=zar.2 (by rw[zai,if_pos rfl])
 have hT2:∀i,i≠id→tokf ((id,some (.tok n' k))::s.hp) i=tokf s.hp i:=fun i hi=>by
  unfold tokf
  rw[zai,if_neg hi]
 have bound:∀i r,getH s.hp i=some r→∀b,b∈G.loc i→b<w.heap.size:=fun i r h=>(hr.heap i r h).bound
 have apart:∀i r,i≠id→getH s.hp i=some r→∀b,b∈G.loc i→b∉G.loc id:=fun i r hi h b hb=>hr.disj i id (by rw[h];rfl) (by rw[htok];rfl) hi b hb
 have hm:∀ {x:AV}{v:Value},RelA G (tokf s.hp) w x v→RelA G' (tokf ((id,some (.tok n' k))::s.hp)) w' x v:=fun hx=>
  hx.retok hF hT hlt hT1 hT2 hloc (fun i p hi hp b hb=>by
   obtain⟨m,k'⟩:=p
   have h1:=zar.1 hp
   exact hoth b (bound i _ h1 b hb) (apart i _ hi h1 b hb))
 have hsome:∀i,(getH ((id,some (.tok n' k))::s.hp) i).isSome→(getH s.hp i).isSome:=fun i h=>by
  rw[zai] at h
  split at h
  ·rename_i e;subst e;rw[htok];rfl
  ·exact h
 have hidnew:=hr.new id (by rw[htok];rfl)
 have far:∀b,b∈G'.loc id→∀i r,i≠id→getH s.hp i=some r→b∉G.loc i:=fun b hb i r hi h hbj=>by
  rcases hnew b hb with h1|h1|h1
  ·exact apart i r hi h b hbj h1
  ·have:=bound i r h b hbj;omega
  ·exact h1.2 i hi (by rw[h];rfl) hbj
 refine⟨hr.size,hr.defers,fun i v h=>hm (hr.slots i v h),fun i r h=>?_,fun i j h1 h2 h3 b hb=>?_,fun i h b hb=>?_,
  hr.frm.trans (own1:=G.loc id) ⟨hos,htp,hou,hsz,hoth,hF⟩ hidnew,htop,fun i l hl=>?_⟩
 ·rw[zai] at h
  by_cases hi:i=id
  ·subst hi
   rw[if_pos rfl] at h
   cases h
   exact hid
  ·rw[if_neg hi] at h
   have hh:=hr.heap i r h
   have ho:∀b,b∈G.loc i→w'.heap[b]?=w.heap[b]?∧G'.F b=G.F b:=fun b hb=>hoth b (bound i r h b hb) (apart i r hi h b hb)
   cases r with
   |box cs=>
    obtain⟨b,vs,e,h1,h2,h3,h4,h5⟩:=hh
    obtain⟨o1,o2⟩:=ho b (by simp[h1])
    exact⟨b,vs,e,(hloc i hi).trans h1,o1.trans h2,h3,o2.trans h4,fun j hj hv=>hm (h5 j hj hv)⟩
   |tok m k'=>exact fun b h1=>Nat.lt_of_lt_of_le (hh b (by rw[hloc i hi] at h1;exact h1)) (by omega)
   |map ks=>
    obtain⟨b,es,cl,h1,h2,h3,h4⟩:=hh
    obtain⟨o1,o2⟩:=ho b (by simp[h1])
    exact⟨b,es,cl,(hloc i hi).trans h1,o1.trans h2,o2.trans h3,h4⟩
   |tree cs=>exact zbu hh (hloc i hi) ho (by omega) (fun _ _ _=>hm)
 ·have s1:=hsome i h1
  have s2:=hsome j h2
  obtain⟨r1,hr1⟩:=Option.isSome_iff_exists.1 s1
  obtain⟨r2,hr2⟩:=Option.isSome_iff_exists.1 s2
  by_cases hi:i=id
  ·subst hi
   rw[hloc j (Ne.symm h3)]
   exact far b hb j r2 (Ne.symm h3) hr2
  ·rw[hloc i hi] at hb
   by_cases hj:j=id
   ·subst hj
    exact fun hbj=>far b hbj i r1 hi hr1 hb
   ·rw[hloc j hj]
    exact hr.disj i j s1 s2 h3 b hb
 ·have s1:=hsome i h
  by_cases hi:i=id
  ·subst hi
   rcases hnew b hb with h' | h' | h'
   ·exact hidnew b h'
   ·right;have:=hr.frm.size;omega
   ·exact h'.1
  ·rw[hloc i hi] at hb
   exact hr.new i s1 b hb
 ·have hk:=hr.kept i l hl
  have hi:i≠id:=fun e=>by subst e;rw[hT] at hk;simp at hk
  refine⟨(congrArg List.head? (hloc i hi)).trans hk.1, ?_,(hT2 i hi).trans hk.2.2⟩
  show(getH ((id,some (.tok n' k))::s.hp) i).isSome
  rw[zai,if_neg hi]
  exact hk.2.1
inductive RowT (hp:Hp):List AV→List D→List (Nat×Nat×Nat)→Prop
 |nil:RowT hp [] [] []
 |sc {x cs ds js} (hs:zjT x=true) (h:RowT hp cs ds js):RowT hp (.d x::cs) (x::ds) js
 |ni {cs ds js} (h:RowT hp cs ds js):RowT hp (.nils::cs) (.sl []::ds) js
 |gt {j zs n k cs ds js} (hj:getH hp j=some (.tok n k)) (hn:n=zs.length) (h:RowT hp cs ds js):RowT hp (.gt j zs::cs) (.sl zs::ds) ((j,n,k)::js)
theorem RowT.toks {hp:Hp}{cs:List AV}{ds:List D}{js:List (Nat×Nat×Nat)} (h:RowT hp cs ds js):∀q,q∈js→getH hp q.1=some (.tok q.2.1 q.2.2):=by
 induction h with
 |nil=>intro q hq;simp at hq
 |sc _ _ ih=>exact ih
 |ni _ ih=>exact ih
 |gt hj _ _ ih=>
  intro q hq
  rcases List.mem_cons.1 hq with rfl|hq
  ·exact hj
  ·exact ih q hq
theorem RowT.move {hp hp':Hp}{cs:List AV}{ds:List D}{js:List (Nat×Nat×Nat)} (h:RowT hp cs ds js):(∀q,q∈js→getH hp' q.1=some (.tok q.2.1 q.2.2))→RowT hp' cs ds js:=by
 induction h with
 |nil=>intro _;exact .nil
 |sc hs _ ih=>intro h;exact .sc hs (ih h)
 |ni _ ih=>intro h;exact .ni (ih h)
 |gt hj hn _ ih=>intro h;exact .gt (h (_,_,_) List.mem_cons_self) hn (ih fun q hq=>h q (List.mem_cons_of_mem _ hq))
theorem RowT.len {hp:Hp}{cs:List AV}{ds:List D}{js:List (Nat×Nat×Nat)} (h:RowT hp cs ds js):ds.length=cs.length:=by
 induction h with
 |nil=>rfl
 |sc _ _ ih=>simp[ih]
 |ni _ ih=>simp[ih]
 |gt _ _ _ ih=>simp[ih]
theorem RowT.trees {G:Gh}{hp:Hp}{w:World}{cs:List AV}{ds:List D}{js:List (Nat×Nat×Nat)} (h:RowT hp cs ds js):∀ {vs:List Value},vs.length=cs.length→
  (∀i (hi:i<cs.length) (hv:i<vs.length),RelA G (tokf hp) w cs[i] vs[i])→
  ∃Sl:List (List Nat),Sl.length=cs.length∧(∀i (hi:i<ds.length) (hv:i<vs.length) (hs:i<Sl.length),TreeD true w ds[i] vs[i] Sl[i])∧Sl.flatten=js.flatMap (fun q=>G.loc q.1)∧
   (∀u,u∈vs→u.oneCell'=true)∧∀q,q∈js→(G.loc q.1).Nodup∧∀b,b∈G.loc q.1→G.F b=0:=by
 induction h with
 |nil=>
  intro vs hl _
  have:vs=[]:=List.eq_nil_of_length_eq_zero hl
  subst this
  exact⟨[],rfl,fun i hi=>by simp at hi,rfl,by simp,by simp⟩
 | @sc x cs ds js hs h ih=>
  intro vs hl hrel
  match vs,hl with
  |v::vs,hl=>
   obtain⟨Sl,h1,h2,h3,h4,h5⟩:=ih (vs:=vs) (by simpa using hl) (fun i hi hv=>hrel (i+1) (by simpa using hi) (by simpa using hv))
   have h0:=(hrel 0 (by simp) (by simp)).d_inv
   simp only[List.getElem_cons_zero] at h0
   obtain⟨f1,f2⟩:=zis hs
   refine⟨[]::Sl,by simp[h1],fun i hi hv hs'=>?_,by simpa using h3,fun u hu=>?_,h5⟩
   ·cases i with
    |zero=>exact TreeD.ofFlat f1 (.inr f2) h0
    |succ i=>exact h2 i (by simpa using hi) (by simpa using hv) (by simpa using hs')
   ·rcases List.mem_cons.1 hu with rfl|hu
    ·exact h0.one
    ·exact h4 u hu
 | @ni cs ds js h ih=>
  intro vs hl hrel
  match vs,hl with
  |v::vs,hl=>
   obtain⟨Sl,h1,h2,h3,h4,h5⟩:=ih (vs:=vs) (by simpa using hl) (fun i hi hv=>hrel (i+1) (by simpa using hi) (by simpa using hv))
   have h0:=hrel 0 (by simp) (by simp)
   simp only[List.getElem_cons_zero] at h0
   have hv:v = .slice none 0 0:=by cases h0;rfl
   subst hv
   refine⟨[]::Sl,by simp[h1],fun i hi hv hs'=>?_,by simpa using h3,fun u hu=>?_,h5⟩
   ·cases i with
    |zero=>exact .nil
    |succ i=>exact h2 i (by simpa using hi) (by simpa using hv) (by simpa using hs')
   ·rcases List.mem_cons.1 hu with rfl|hu
    ·rfl
    ·exact h4 u hu
 | @gt j zs n k cs ds js hj hn h ih=>
  intro vs hl hrel
  match vs,hl with
  |v::vs,hl=>
   obtain⟨Sl,h1,h2,h3,h4,h5⟩:=ih (vs:=vs) (by simpa using hl) (fun i hi hv=>hrel (i+1) (by simpa using hi) (by simpa using hv))
   have h0:=hrel 0 (by simp) (by simp)
   simp only[List.getElem_cons_zero] at h0
   obtain⟨⟨ad,cap0,hv0⟩,hcl⟩:=h0.gt_inv
   obtain⟨hkx,htip⟩:=(hcl n k (zar.2 hj)).2 hn
   have key:TreeD true w (.sl zs) v (G.loc j)∧(G.loc j).Nodup∧∀b,b∈G.loc j→G.F b=0:=by
    rcases htip with ⟨e1,e2,e3⟩|⟨b,cap,us,e,Ss,e1,e2,e3,e4,e5,e6,e7,e8⟩
    ·have hz:zs=[]:=List.eq_nil_of_length_eq_zero (by omega)
     subst hz
     rw[e1,e3]
     exact⟨.nil,by simp,by simp⟩
    ·refine⟨?_,e6,e7⟩
     subst hn
     rw[e1,e2]
     exact TreeD.sl (m:=true) zs k b cap us e Ss hkx e5 e3 e4 e8.1 (fun _ hz=>e8.2 (by rw[hz];rfl))
   refine⟨G.loc j::Sl,by simp[h1],fun i hi hv hs'=>?_,by simp[h3],fun u hu=>?_,fun q hq=>?_⟩
   ·cases i with
    |zero=>exact key.1
    |succ i=>exact h2 i (by simpa using hi) (by simpa using hv) (by simpa using hs')
   ·rcases List.mem_cons.1 hu with rfl|hu
    ·rw[hv0];rfl
    ·exact h4 u hu
   ·rcases List.mem_cons.1 hq with rfl|hq
    ·exact key.2
    ·exact h5 q hq
def ndB:List Nat→Bool
 | []=>true
 |x::r=> !za0 x r&&ndB r
theorem znm:∀ {l:List Nat},ndB l=true→l.Nodup
 | [],_=> .nil
 |x::r,h=>by
  simp only[ndB,Bool.and_eq_true,Bool.not_eq_true'] at h
  refine List.nodup_cons.2 ⟨fun hm=>?_,znm h.2⟩
  rw[zaJ.2 hm] at h;cases h.1
theorem zlN {loc:Nat→List Nat}:∀ {l:List Nat},l.Nodup→(∀j,j∈l→(loc j).Nodup)→(∀i j,i∈l→j∈l→i≠j→∀b,b∈loc i→b∉loc j)→(l.flatMap loc).Nodup
 | [],_,_,_=>by simp
 |x::r,h,h1,h2=>by
  have hn:=List.nodup_cons.1 h
  simp only[List.flatMap_cons,List.nodup_append,List.mem_flatMap]
  refine⟨h1 x (by simp),zlN hn.2 (fun j hj=>h1 j (by simp[hj])) (fun i j hi hj=>h2 i j (by simp[hi]) (by simp[hj])),fun b hb b' hb' e=>?_⟩
  obtain⟨j,hj,hbj⟩:=hb'
  subst e
  exact h2 x j (by simp) (by simp[hj]) (fun e=>by subst e;exact hn.1 hj) b hb hbj
theorem zej {α:Type}{f:Nat→List α} (n m:Nat):(List.range (n+m)).flatMap f=(List.range n).flatMap f++(List.range m).flatMap (fun i=>f (n+i)):=by
 rw[List.range_add,List.flatMap_append]
 congr 1
 simp[List.flatMap_map]
theorem zho {α:Type}:∀(l:List (List α)),(List.range l.length).flatMap (fun i=>l.getD i [])=l.flatten
 | []=>rfl
 |x::r=>by
  rw[List.length_cons,show r.length+1=1+r.length by omega,zej]
  simp only[List.flatten_cons,←zho r]
  congr 1
  ·simp[List.range_succ]
  ·congr 1;funext i;rw[show 1+i=i+1 by omega];rfl
theorem zfj {α:Type}{f g:Nat→List α} (n:Nat) (h:∀i,i<n→f i=g i):(List.range n).flatMap f=(List.range n).flatMap g:=by
 induction n with
 |zero=>rfl
 |succ n ih=>rw[zej,zej,ih (fun i hi=>h i (by omega))];simp[h n (by omega)]
theorem zn8 {t:TypeId}{G:Gh}{s:St}{a:Act}{w:World}{hp1:Hp} (hr:R c G ⟨s.env,hp1⟩ a w){id m k e yb cap2:Nat}{xs ys:List (List D)}{v:Value}{a0:Addr}{news:List Value}{Sl:List (List Nat)} (ht:SlT c.P t e k yb){z:Value} (hz:∃i,c.P.info? e=some i∧i.zero=some z∧z.cells.size=k)
  (htok1:getH hp1 id=some (.tok xs.length k)) (hkx:∀x,x∈xs→x.length=k) (htip:TipT G w id xs.length k v xs) (hky:∀y,y∈ys→y.length=k) (hym:ys.length=m) (hmpos:0<m)
  (hnl:news.length=m*k) (hnews:∀j u,news[j]?=some u→w.cell? (a0.add j)=some u) (hone:∀u,u∈news→u.oneCell'=true) (hSl:Sl.length=m*k)
  (htr:∀i (hi:i<ys.length) j (hj:j<ys[i].length) (hv:i*k+j<news.length),TreeD true w ys[i][j] news[i*k+j] (Sl.getD (i*k+j) []))
  (newNodup:Sl.flatten.Nodup) (newF:∀b,b∈Sl.flatten→G.F b=0) (newLt:∀b,b∈Sl.flatten→b<w.heap.size) (newOwn:∀b,b∈Sl.flatten→b∈c.own∨c.w0.heap.size≤b)
  (newApart1:∀b,b∈Sl.flatten→∀i,i≠id→(getH hp1 i).isSome→b∉G.loc i) (newNe:∀x,x∈Sl.flatten→x∉G.loc id)
  (hb:(xs.length+m)*yb≤140737488355328) (hm:xs.length+m≤9223372036854775807) (opt:TypeId):
  ∃v' w' G',(Builtin.append_ #[t,t] opt #[v,.slice (some a0) m cap2]).run c.P w = .ok v' w'∧
   R c G' ⟨s.env,(id,some (.tok (xs.length+m) k))::hp1⟩ a w'∧
   RelA G' (tokf ((id,some (.tok (xs.length+m) k))::hp1)) w' (.gt id (xs++ys)) v':=by
 obtain⟨i,hi1,hi2,hi3⟩:=ht.inf
 obtain⟨i',z1,z2,z3⟩:=hz
 rw[hi1] at z1
 cases z1
 have hT':tokf ((id,some (.tok (xs.length+m) k))::hp1) id=some (xs.length+m,k):=zar.2 (by rw[zai,if_pos rfl])
 have hlt:∀b o,o<G.F b→b<w.heap.size:=fun b o ho=>by
  rcases Nat.lt_or_ge b w.heap.size with h|h
  ·exact h
  ·rw[hr.top b h] at ho;omega
 have hkx':∀x,x∈xs++ys→x.length=k:=fun x hx=>by
  rcases List.mem_append.1 hx with h|h
  ·exact hkx x h
  ·exact hky x h
 have hmul1:(xs.length+m)*k=xs.length*k+m*k:=by rw[Nat.add_mul]
 have hlen':(xs++ys).length=xs.length+m:=by rw[List.length_append,hym]
 let Sn:(Nat→List Nat)→Nat→List Nat:=fun Ss q=>if q<xs.length*k then Ss q else Sl.getD (q-xs.length*k) []
 have hSn:∀Ss,(List.range ((xs.length+m)*k)).flatMap (Sn Ss)=(List.range (xs.length*k)).flatMap Ss++Sl.flatten:=fun Ss=>by
  rw[hmul1,zej]
  congr 1
  ·exact zfj _ (fun i hi=>by simp[Sn,hi])
  ·rw[←zho Sl,hSl]
   refine zfj _ (fun i hi=>?_)
   simp only[Sn]
   rw[if_neg (by omega),show xs.length*k+i-xs.length*k=i by omega]

 have trees:∀(Ss:Nat→List Nat) (olds:List Value) (tail:List Value) (w':World),olds.length=xs.length*k→(∀b,b∈(List.range (xs.length*k)).flatMap Ss++Sl.flatten→w'.heap[b]?=w.heap[b]?)→
   (∀i (hi:i<xs.length) j (hj:j<xs[i].length),TreeD true w xs[i][j] (olds.getD (i*k+j) undef) (Ss (i*k+j)))→
   ∀i (hi:i<(xs++ys).length) j (hj:j<(xs++ys)[i].length),TreeD true w' (xs++ys)[i][j] ((olds++news++tail).toArray.getD (i*k+j) undef) (Sn Ss (i*k+j)):=by
  intro Ss olds tail w' hol hw hold i hi j hj
  by_cases hix:i<xs.length
  ·have e0:(xs++ys)[i]=xs[i]:=List.getElem_append_left hix
   have hj':j<xs[i].length:=by rw[←e0];exact hj
   have h1:xs[i].length=k:=hkx _ (List.getElem_mem hix)
   have hlt':i*k+j<xs.length*k:=zeb hix (by omega)
   have e1:(olds++news++tail).toArray.getD (i*k+j) undef=olds.getD (i*k+j) undef:=by
    simp[List.getD,List.append_assoc,List.getElem?_append_left (show i*k+j<olds.length by omega)]
   have e2:Sn Ss (i*k+j)=Ss (i*k+j):=by simp[Sn,hlt']
   rw[e1,e2]
   have e3:(xs++ys)[i][j]=xs[i][j]:=by congr 1
   rw[e3]
   refine(hold i hix j hj').mono (fun b hb=>hw b ?_)
   exact List.mem_append_left _ (List.mem_flatMap.2 ⟨i*k+j,List.mem_range.2 hlt',hb⟩)
  ·have hiy:i-xs.length<ys.length:=by omega
   have e0:(xs++ys)[i]=ys[i-xs.length]:=List.getElem_append_right (by omega)
   have hj':j<ys[i-xs.length].length:=by rw[←e0];exact hj
   have e3:(xs++ys)[i][j]=ys[i-xs.length][j]:=by congr 1
   have hjk:j<k:=by rw[←hky _ (List.getElem_mem hiy)];exact hj'
   have hq:(i-xs.length)*k+j<m*k:=zeb (by omega) hjk
   have hpos:i*k+j=xs.length*k+((i-xs.length)*k+j):=by
    rw[show i*k=xs.length*k+(i-xs.length)*k by rw[←Nat.add_mul];congr 1;omega];omega
   have hjn:(i-xs.length)*k+j<news.length:=by omega
   have e1:(olds++news++tail).toArray.getD (i*k+j) undef=news[(i-xs.length)*k+j]:=by
    rw[hpos,←hol]
    simp[List.getD,List.append_assoc,List.getElem?_append_right,List.getElem?_append_left hjn,hjn]
   have hjs:(i-xs.length)*k+j<Sl.length:=by omega
   have e2:Sn Ss (i*k+j)=Sl.getD ((i-xs.length)*k+j) []:=by
    simp only[Sn]
    rw[hpos,if_neg (by omega),show xs.length*k+((i-xs.length)*k+j)-xs.length*k=(i-xs.length)*k+j by omega]
   rw[e1,e2,e3]
   refine(htr _ hiy j hj' hjn).mono (fun b hb=>hw b ?_)
   have e4:Sl.getD ((i-xs.length)*k+j) []=Sl[(i-xs.length)*k+j]:=by simp[List.getD,hjs]
   rw[e4] at hb
   exact List.mem_append_right _ (List.mem_flatten.2 ⟨_,List.getElem_mem hjs,hb⟩)
 have hidlt:∀b,b∈G.loc id→b<w.heap.size:=(hr.heap id _ htok1).bound

 have fresh:∀(Ss:Nat→List Nat) (olds:List Value) (nc:Nat),olds.length=xs.length*k→xs.length+m≤nc→
   ((List.range (xs.length*k)).flatMap Ss).Nodup→(∀b,b∈(List.range (xs.length*k)).flatMap Ss→b∈G.loc id∧G.F b=0)→
   (∀i (hi:i<xs.length) j (hj:j<xs[i].length),TreeD true w xs[i][j] (olds.getD (i*k+j) undef) (Ss (i*k+j)))→
   ∃G',R c G' ⟨s.env,(id,some (.tok (xs.length+m) k))::hp1⟩ a (w.drew.alloc (.cells (olds.toArray++news.toArray++Builtin.zeroCells z.cells (nc-(xs.length+m))) e))∧
    RelA G' (tokf ((id,some (.tok (xs.length+m) k))::hp1)) (w.drew.alloc (.cells (olds.toArray++news.toArray++Builtin.zeroCells z.cells (nc-(xs.length+m))) e))
     (.gt id (xs++ys)) (.slice (some ⟨w.heap.size,0,none⟩) (xs.length+m) nc):=by
  intro Ss olds nc hol hnc' hndS hSin hold
  let cs':Array Value:=olds.toArray++news.toArray++Builtin.zeroCells z.cells (nc-(xs.length+m))
  let G':Gh:={ F:=G.F,loc:=fun j=>bif Nat.beq j id then w.heap.size::(List.range ((xs.length+m)*k)).flatMap (Sn Ss) else G.loc j }
  have hcs:cs'.size=nc*k:=by
   simp only[cs',Array.size_append,List.size_toArray,size_zeroCells,z3,hol,hnl]
   rw[←hmul1,←Nat.add_mul]
   congr 1;omega
  have hcell:∀b o,o<G.F b→o<G'.F b∧(w.drew.alloc (.cells cs' e)).cell? ⟨b,o,none⟩=w.cell? ⟨b,o,none⟩:=fun b o ho=>by
   have hb:=hlt b o ho
   exact⟨ho,by rw[World.cell?_alloc_lt w.drew _ _ hb];rfl⟩
  have hlocne:∀j,j≠id→G'.loc j=G.loc j:=fun j hj=>by simp[G',zdo hj]
  have hlocid:G'.loc id=w.heap.size::(List.range ((xs.length+m)*k)).flatMap (Sn Ss):=by simp[G']
  have hlocid':G'.loc id=w.heap.size::((List.range (xs.length*k)).flatMap Ss++Sl.flatten):=by rw[hlocid,hSn]
  have hmem:∀b,b∈(List.range (xs.length*k)).flatMap Ss++Sl.flatten→b<w.heap.size:=fun b hb=>by
   rcases List.mem_append.1 hb with h|h
   ·exact hidlt b (hSin b h).1
   ·exact newLt b h
  refine⟨G',hr.retokG (G':=G') htok1 (by omega) hcell hlocne (fun b hb _=>⟨zde (w:=w.drew) hb,rfl⟩) (fun b hb=>?_) (fun b hb=>?_) rfl rfl rfl (by simp) (fun b hb=>?_), ?_⟩
  ·rw[hlocid'] at hb
   have hsz1:(w.drew.alloc (.cells cs' e)).heap.size=w.heap.size+1:=by simp
   show b<(w.drew.alloc (.cells cs' e)).heap.size
   rw[hsz1]
   rcases List.mem_cons.1 hb with rfl|hb
   ·exact Nat.lt_succ_self _
   ·exact Nat.lt_succ_of_lt (hmem b hb)
  ·rw[hlocid'] at hb
   rcases List.mem_cons.1 hb with rfl|hb
   ·exact .inr (.inl (Nat.le_refl _))
   ·rcases List.mem_append.1 hb with h|h
    ·exact .inl (hSin b h).1
    ·exact .inr (.inr ⟨newOwn b h,newApart1 b h⟩)
  ·have hb':w.heap.size+1≤b:=by simpa using hb
   exact hr.top b (by omega)
  refine .gt ⟨_,_,by rw[hlen']⟩ (fun n' k' hm'=>?_)
  rw[hT'] at hm'
  cases hm'
  have hnodup:(G'.loc id).Nodup:=by
   rw[hlocid']
   refine List.nodup_cons.2 ⟨fun h=>absurd (hmem _ h) (Nat.lt_irrefl _),List.nodup_append.2 ⟨hndS,newNodup,fun b hb b' hb' e=>?_⟩⟩
   subst e
   exact newNe b hb' (hSin b hb).1
  refine⟨by rw[hlen'];exact Nat.le_refl _,fun _=>⟨hkx',.inr ⟨w.heap.size,nc,cs',e,Sn Ss,hlocid,rfl,zdU (w:=w.drew),by rw[hcs];exact Nat.le_refl _,hnc',hnodup,fun b hb=>?_, ?_,fun h=>by omega⟩⟩⟩
  ·rw[hlocid'] at hb
   rcases List.mem_cons.1 hb with rfl|hb
   ·exact hr.top _ (Nat.le_refl _)
   ·rcases List.mem_append.1 hb with h|h
    ·exact(hSin b h).2
    ·exact newF b h
  ·have:=trees Ss olds (Builtin.zeroCells z.cells (nc-(xs.length+m))).toList (w.drew.alloc (.cells cs' e)) hol (fun b hb=>zde (w:=w.drew) (hmem b hb)) hold
   have ec:cs'=(olds++news++(Builtin.zeroCells z.cells (nc-(xs.length+m))).toList).toArray:=by
    apply Array.ext';simp[cs']
   intro i hi j hj
   rw[ec]
   exact this i hi j hj
 rcases htip with ⟨h1,h2,h3⟩|⟨b,cap,cs,et,Ss,h1,h2,h3,h4,h5,h6,h7,h8,_⟩
 ·
  have hx0:xs=[]:=List.eq_nil_of_length_eq_zero h2
  subst hx0
  subst h3
  have hm':m≤9223372036854775807:=by simpa using hm
  have hb':m*yb≤140737488355328:=by simpa using hb
  have hrun:=run_append_nil (P:=c.P) w t opt e i z ht.und hi1 z2 a0 m cap2 news (by rw[hi2,hnl]) hnews hmpos (by omega) (by rw[hi3];omega)
  obtain⟨G',hR,hA⟩:=fresh (fun _=>[]) [] (grownCap w m 0 e) (by simp) (by
   have:=grownCap_ge w m 0 e;simpa using this) (by simp) (fun b hb=>by simp at hb) (fun i hi=>by simp at hi)
  simp only[List.nil_append,List.length_nil,Nat.zero_add,Array.empty_append] at hR hA hrun ⊢
  exact⟨_,_,G',hrun,hR,hA⟩
 ·subst h2
  have hmul:xs.length*k≤cs.size:=Nat.le_trans (Nat.mul_le_mul_right _ h5) h4
  have hold:∀i (hi:i<xs.length) j (hj:j<xs[i].length),TreeD true w xs[i][j] ((cs.toList.take (xs.length*k)).getD (i*k+j) undef) (Ss (i*k+j)):=fun i hi j hj=>by
   have h9:xs[i].length=k:=hkx _ (List.getElem_mem hi)
   have hlt':i*k+j<xs.length*k:=zeb hi (by omega)
   have e1:(cs.toList.take (xs.length*k)).getD (i*k+j) undef=cs.getD (i*k+j) undef:=by
    have hs:i*k+j<cs.size:=by omega
    simp[List.getD,List.getElem?_take,hlt',Array.getD,hs]
   rw[e1];exact h8 i hi j hj
  have hbl:b∈G.loc id:=by rw[h1];simp
  have hbs:b<w.heap.size:=hidlt b hbl
  have h1n:(b::(List.range (xs.length*k)).flatMap Ss).Nodup:=by rw[←h1];exact h6
  have hin:∀x,x∈(List.range (xs.length*k)).flatMap Ss→x∈G.loc id∧G.F x=0:=fun x hx=>by
   have:x∈G.loc id:=by rw[h1];exact List.mem_cons_of_mem _ hx
   exact⟨this,h7 x this⟩
  by_cases hroom:xs.length+m≤cap
  ·
   have hfit:xs.length*i.size+news.length≤cs.size:=by
    rw[hi2,hnl,←hmul1]
    exact Nat.le_trans (Nat.mul_le_mul_right _ hroom) h4
   have hrun:=zeH (P:=c.P) t opt e i ht.und hi1 b xs.length cap cs et h3 a0 m cap2 news (by rw[hi2,hnl]) hnews hone hroom hfit
   rw[hi2] at hrun hfit
   let rw':Array Value:=(cs.toList.take (xs.length*k)++news++cs.toList.drop (xs.length*k+news.length)).toArray
   have hrs:rw'.size=cs.size:=by
    simp only[rw',List.size_toArray,List.length_append,List.length_take,List.length_drop,Array.length_toList];omega
   let G':Gh:={ F:=G.F,loc:=fun j=>bif Nat.beq j id then b::(List.range ((xs.length+m)*k)).flatMap (Sn Ss) else G.loc j }
   have hlocne:∀j,j≠id→G'.loc j=G.loc j:=fun j hj=>by simp[G',zdo hj]
   have hlocid:G'.loc id=b::(List.range ((xs.length+m)*k)).flatMap (Sn Ss):=by simp[G']
   have hlocid':G'.loc id=b::((List.range (xs.length*k)).flatMap Ss++Sl.flatten):=by rw[hlocid,hSn]
   have hFb:G.F b=0:=h7 b hbl
   have hcell:∀b' o,o<G.F b'→o<G'.F b'∧(w.setRow b rw').cell? ⟨b',o,none⟩=w.cell? ⟨b',o,none⟩:=fun b' o ho=>by
    have hbb:b'≠b:=fun e=>by subst e;omega
    exact⟨ho,cell_setRow_other w b rw' _ hbb⟩
   have hmem:∀x,x∈(List.range (xs.length*k)).flatMap Ss++Sl.flatten→x<w.heap.size∧x≠b:=fun x hx=>by
    rcases List.mem_append.1 hx with h|h
    ·exact⟨hidlt x (hin x h).1,fun e=>by subst e;exact(List.nodup_cons.1 h1n).1 h⟩
    ·exact⟨newLt x h,fun e=>by subst e;exact newNe x h hbl⟩
   refine⟨_,_,G',hrun,hr.retokG (G':=G') htok1 (by omega) hcell hlocne (fun b' hb' hn=>?_) (fun x hx=>?_) (fun x hx=>?_) rfl rfl rfl (by simp) (fun b' hb'=>?_), ?_⟩
   ·have hne:b'≠b:=fun e=>hn (by rw[e];exact hbl)
    exact⟨setRow_other w b b' rw' hne,rfl⟩
   ·rw[hlocid'] at hx
    have:(w.setRow b rw').heap.size=w.heap.size:=by simp
    rw[this]
    rcases List.mem_cons.1 hx with rfl|hx
    ·exact hbs
    ·exact(hmem x hx).1
   ·rw[hlocid'] at hx
    rcases List.mem_cons.1 hx with rfl|hx
    ·exact .inl hbl
    ·rcases List.mem_append.1 hx with h|h
     ·exact .inl (hin x h).1
     ·exact .inr (.inr ⟨newOwn x h,newApart1 x h⟩)
   ·have hb2':w.heap.size≤b':=by simpa using hb'
    exact hr.top b' hb2'
   ·refine .gt ⟨_,_,by rw[hlen']⟩ (fun n' k' hm'=>?_)
    rw[hT'] at hm'
    cases hm'
    have hnodup:(G'.loc id).Nodup:=by
     rw[hlocid']
     refine List.nodup_cons.2 ⟨fun h=>absurd rfl (hmem _ h).2,List.nodup_append.2 ⟨(List.nodup_cons.1 h1n).2,newNodup,fun x hx x' hx' e=>?_⟩⟩
     subst e
     exact newNe x hx' (hin x hx).1
    refine⟨by rw[hlen'];exact Nat.le_refl _,fun _=>⟨hkx',.inr ⟨b,cap,rw',et,Sn Ss,hlocid,rfl,setRow_heap w b cs rw' et _ h3,by rw[hrs];exact h4,hroom,hnodup,fun x hx=>?_, ?_,fun h=>by omega⟩⟩⟩
    ·rw[hlocid'] at hx
     rcases List.mem_cons.1 hx with rfl|hx
     ·exact hFb
     ·rcases List.mem_append.1 hx with h|h
      ·exact(hin x h).2
      ·exact newF x h
    ·exact trees Ss (cs.toList.take (xs.length*k)) _ (w.setRow b rw') (by simp;omega) (fun x hx=>setRow_other w b x rw' (hmem x hx).2) hold
  ·
   have hrun:=run_append_grow (P:=c.P) w t opt e i z ht.und hi1 z2 ⟨b,0,none⟩ xs.length cap (cs.toList.take (xs.length*k)) (by rw[hi2];simp;omega)
    (fun j u hj=>by
     rw[zcu]
     obtain⟨hj1,hj2⟩:=List.getElem?_eq_some_iff.1 hj
     simp only[List.getElem_take] at hj2
     have hjs:j<cs.size:=by simp at hj1;omega
     simp only[World.cell?,h3,Option.isSome_none,Bool.false_eq_true,if_false,Nat.zero_add]
     rw[Array.getElem?_eq_getElem hjs,←hj2]
     simp) a0 m cap2 news (by rw[hi2,hnl]) hnews (by omega) (by omega) (by rw[hi3];exact growslice_fits (by omega) hb)
   obtain⟨G',hR,hA⟩:=fresh Ss (cs.toList.take (xs.length*k)) (grownCap w (xs.length+m) cap e) (by simp;omega) (by have:=grownCap_ge w (xs.length+m) cap e;omega) (List.nodup_cons.1 h1n).2 hin hold
   exact⟨_,_,G',hrun,hR,hA⟩
theorem zn9 {t:TypeId}{G:Gh}{s:St}{a:Act}{w:World} (hr:R c G s a w){id b0 m k e yb:Nat}{xs:List (List D)}{cells:List AV}{row:List D}{js:List (Nat×Nat×Nat)}{v u:Value} (ht:SlT c.P t e k yb){z:Value} (hz:∃i,c.P.info? e=some i∧i.zero=some z∧z.cells.size=k)
  (hkb:∀l,c.kept b0≠some l) (htok:getH s.hp id=some (.tok xs.length k)) (hbox:getH s.hp b0=some (.box cells)) (hrow:RowT s.hp cells row js) (hck:cells.length=k) (hnd:ndB (id::js.map (·.1))=true)
  (hv:RelA G (tokf s.hp) w (.gt id xs) v) (hu:RelA G (tokf s.hp) w (.ms b0 m) u) (hm1:m=1)
  (hb:(xs.length+1)*yb≤140737488355328) (hm:xs.length+1≤9223372036854775807) (opt:TypeId):
  ∃v' w' G',(Builtin.append_ #[t,t] opt #[v,u]).run c.P w = .ok v' w'∧
   R c G' ⟨s.env,(id,some (.tok (xs.length+1) k))::((b0::js.map (·.1)).map (fun j=>(j,none))++s.hp)⟩ a w'∧
   RelA G' (tokf ((id,some (.tok (xs.length+1) k))::((b0::js.map (·.1)).map (fun j=>(j,none))++s.hp))) w' (.gt id (xs++[row])) v':=by
 subst hm1
 obtain⟨⟨base,cap0,hv0⟩,hcl⟩:=hv.gt_inv
 have hT:tokf s.hp id=some (xs.length,k):=zar.2 htok
 obtain⟨hkx,htip⟩:=(hcl _ _ hT).2 rfl

 obtain⟨bb,us,eb,hl0,hat0,hlen0,hF0,hcell0⟩:=hr.heap b0 _ hbox
 have hu':∃cap2,u = .slice (some ⟨bb,0,none⟩) 1 cap2∧1≤cap2:=by
  cases hu with
  | @ms _ _ b cap h hT hcap=>
   have:b=bb:=zcI h hl0
   subst this
   exact⟨cap,rfl,hcap⟩
 obtain⟨cap2,rfl,hcap2⟩:=hu'
 let news:List Value:=us.toList.take k
 have hks:k≤us.size:=by omega
 have hnl:news.length=k:=by simp[news];omega
 have hnews:∀j u,news[j]?=some u→w.cell? ((⟨bb,0,none⟩:Addr).add j)=some u:=fun j u hj=>by
  obtain⟨hj1,hj2⟩:=List.getElem?_eq_some_iff.1 hj
  simp only[news,List.getElem_take] at hj2
  have hjs:j<us.size:=by omega
  rw[zcu]
  simp only[World.cell?,hat0,Option.isSome_none,Bool.false_eq_true,if_false,Nat.zero_add]
  rw[Array.getElem?_eq_getElem hjs,←hj2]
  simp
 have hrel:∀i (hi:i<cells.length) (hv:i<news.length),RelA G (tokf s.hp) w cells[i] news[i]:=fun i hi hv=>by
  have:=hcell0 i hi (by omega)
  have e1:news[i]=us[i]'(by omega):=by simp[news]
  rw[e1];exact this
 obtain⟨Sl,hSl,htr,hfl,hone,hjn⟩:=hrow.trees (by rw[hnl,hck]) hrel
 have hrl:row.length=k:=by rw[hrow.len,hck]
 have hnd':=znm hnd
 have hnd2:=List.nodup_cons.1 hnd'
 have htoks:=hrow.toks
 have tokJ:∀j,j∈js.map (·.1)→∃n q,getH s.hp j=some (.tok n q):=fun j hj=>by
  obtain⟨q,hq,rfl⟩:=List.mem_map.1 hj
  exact⟨_,_,htoks q hq⟩
 have hflm:js.flatMap (fun q=>G.loc q.1)=(js.map (·.1)).flatMap G.loc:=by rw[List.flatMap_map]
 rw[hflm] at hfl
 have newIn:∀b,b∈Sl.flatten→∃j,j∈js.map (·.1)∧b∈G.loc j:=fun b hb=>by rw[hfl] at hb;exact List.mem_flatMap.1 hb
 have hdr:=hr.drop (b0::js.map (·.1)) (fun i l hk hm=>by
  rcases List.mem_cons.1 hm with rfl|hm
  ·exact hkb l hk
  ·obtain⟨n,q,h⟩:=tokJ i hm
   have:=(hr.kept i l hk).2.2
   rw[zar.2 h] at this;cases this)
 have hidb:id∉b0::js.map (·.1):=fun hm=>by
  rcases List.mem_cons.1 hm with rfl|hm
  ·rw[htok] at hbox;cases hbox
  ·exact hnd2.1 hm
 have hg1:∀i,getH ((b0::js.map (·.1)).map (fun j=>(j,(none:Option Res)))++s.hp) i=if i∈b0::js.map (·.1) then none else getH s.hp i:=fun i=>zm9 _ _ _
 exact zn8 (s:=s) hdr (m:=1) (ys:=[row]) (Sl:=Sl) (news:=news) ht hz (by rw[hg1,if_neg hidb];exact htok) hkx htip (fun y hy=>by simp only[List.mem_singleton] at hy;rw[hy];exact hrl) rfl (by omega)
  (by omega) hnews hone (by rw[hSl,hck];omega)
  (fun i hi j hj hvn=>by
   have:i=0:=by simpa using hi
   subst this
   simp only[Nat.zero_mul,Nat.zero_add] at hvn ⊢
   have hj':j<row.length:=hj
   have hjs:j<Sl.length:=by omega
   have e4:Sl.getD j []=Sl[j]:=by simp[List.getD,hjs]
   rw[e4]
   exact htr j hj' hvn hjs)
  (by
   rw[hfl]
   refine zlN hnd2.2 (fun j hj=>?_) (fun i j hi hj hne=>?_)
   ·obtain⟨q,hq,rfl⟩:=List.mem_map.1 hj
    exact(hjn q hq).1
   ·obtain⟨n1,q1,h1⟩:=tokJ i hi
    obtain⟨n2,q2,h2⟩:=tokJ j hj
    exact hr.disj i j (by rw[h1];rfl) (by rw[h2];rfl) hne)
  (fun b hb=>by
   obtain⟨j,hj,hbj⟩:=newIn b hb
   obtain⟨q,hq,rfl⟩:=List.mem_map.1 hj
   exact(hjn q hq).2 b hbj)
  (fun b hb=>by
   obtain⟨j,hj,hbj⟩:=newIn b hb
   obtain⟨n1,q1,h1⟩:=tokJ j hj
   exact(hr.heap j _ h1).bound b hbj)
  (fun b hb=>by
   obtain⟨j,hj,hbj⟩:=newIn b hb
   obtain⟨n1,q1,h1⟩:=tokJ j hj
   exact hr.new j (by rw[h1];rfl) b hbj)
  (fun b hb i _ hs=>by
   rw[hg1] at hs
   split at hs
   ·cases hs
   ·rename_i hni
    intro hbi
    obtain⟨j,hj,hbj⟩:=newIn b hb
    obtain⟨n1,q1,h1⟩:=tokJ j hj
    exact hr.disj j i (by rw[h1];rfl) hs (fun e=>by subst e;exact hni (List.mem_cons_of_mem _ hj)) b hbj hbi)
  (fun b hb hbi=>by
   obtain⟨j,hj,hbj⟩:=newIn b hb
   obtain⟨n1,q1,h1⟩:=tokJ j hj
   exact hr.disj j id (by rw[h1];rfl) (by rw[htok];rfl) (fun e=>by subst e;exact hnd2.1 hj) b hbj hbi) hb hm opt
theorem R.mkTokT {G:Gh}{s:St}{a:Act}{w:World} (hr:R c G s a w){id:Nat} (k:Nat) (h0:getH s.hp id=none) (hocc:zcS id s):
  ∃G',R c G' { s with hp:=(id,some (.tok 0 k))::s.hp } a w∧RelA G' (tokf ((id,some (.tok 0 k))::s.hp)) w (.gt id []) (.slice none 0 0):=by
 have h1:=hr.rename h0 hocc []
 have hl:(fun i=>bif Nat.beq i id then ([]:List Nat) else G.loc i) id=[]:=by simp
 refine⟨_,h1.name h0 hocc (fun b hb=>by simp at hb) (fun i _ b _ hb=>by simp at hb) (fun b hb=>by simp at hb), ?_⟩
 refine .gt ⟨none,0,rfl⟩ (fun n k' hT=>?_)
 have:=zar.1 hT
 rw[zai,if_pos rfl] at this
 cases this
 exact⟨Nat.le_refl _,fun _=>⟨by simp,.inl ⟨hl,rfl,rfl⟩⟩⟩
end
section
variable {c:Ctx}{all:Array Oper}{chk:List Rec→Prop}{os:List Oper}{recs:List Rec}{env:Env}{hp:Hp}{Q:St→Prop}
variable {d ty:Nat}{pos:String}{af:Array Edge}{g:Option (Nat×Bool)}{pg:List (Nat×AV)}
variable {t yt:TypeId}{x y:Operand}
theorem Walk.appendT {ids:List Nat}{id b0 m k e yb:Nat}{xs:List (List D)}{cells:List AV}{row:List D}{js:List (Nat×Nat×Nat)} (hkp:KeptIn c.kept ids) (hkb:za0 b0 ids=false) (ht:SlT c.P t e k yb) (hz:ZeroT c.P e k) (hg:GH all env g pg) (hd:Nat.blt d c.n=true)
  (hx:opd env x=some (.gt id xs)) (hy:opd env y=some (.ms b0 m)) (hm1:m=1) (htok:getH hp id=some (.tok xs.length k)) (hbox:getH hp b0=some (.box cells)) (hrow:RowT hp cells row js) (hck:cells.length=k) (hnd:ndB (id::js.map (·.1))=true)
  (hb:(xs.length+1)*yb≤140737488355328) (hm:xs.length+1≤9223372036854775807)
  (hn:Walk c all chk os (zaq (pg++(opF x (.gt id xs)++opF y (.ms b0 m))) ((id,.tok xs.length k)::(b0,.box cells)::js.map (fun q=>(q.1,.tok q.2.1 q.2.2))) [] ⟨some (d,.gt id (xs++[row])),(id,some (.tok (xs.length+1) k))::(b0::js.map (·.1)).map (fun j=>(j,none))⟩::recs)
   ⟨(d,.gt id (xs++[row]))::env,(id,some (.tok (xs.length+1) k))::((b0::js.map (·.1)).map (fun j=>(j,none))++hp)⟩ Q):
  Walk c all chk (⟨some d,.call ⟨.builtin .append,#[x,y],#[t,t]⟩,ty,pos,af,g⟩::os) recs ⟨env,hp⟩ Q:=by
 refine⟨pg++(opF x (.gt id xs)++opF y (.ms b0 m)),(id,.tok xs.length k)::(b0,.box cells)::js.map (fun q=>(q.1,.tok q.2.1 q.2.2)),[],_, ?_,zax hg.facts (zax (za3 hx) (za3 hy)),fun p hm=>?_,by simp,hn⟩
 ·intro s a w hrel hp' hh _ K Q' hK
  obtain⟨G,hr⟩:=hrel
  have e1:=hr.opd (za4 hx (fun p hm=>hp' p (by simp[hm])))
  have e2:=hr.opd (za4 hy (fun p hm=>hp' p (by simp[hm])))
  obtain⟨i,z,z1,z2,z3⟩:=hz.out
  obtain⟨v',w',G',hrun,hR,hA⟩:=zn9 hr ht ⟨i,z1,z2,z3⟩ (fun l hl=>by have:=zaJ.2 (hkp.mem _ l hl);rw[this] at hkb;cases hkb) (hh (id,_) (by simp)) (hh (b0,_) (by simp))
   (hrow.move (fun q hq=>hh (q.1,.tok q.2.1 q.2.2) (by simp only[List.mem_cons,List.mem_map];exact .inr (.inr ⟨q,hq,rfl⟩)))) hck hnd e1 e2 hm1 hb hm ty
  unfold wpO
  rw[if_pos (hg.gf.wanted hr (fun p hm=>hp' p (by simp[hm])))]
  unfold Oper.wp
  have:(execOp a.eval ⟨some d,.call ⟨.builtin .append,#[x,y],#[t,t]⟩,ty,pos,af,g⟩).run c.P w = .ok (.value v') w':=by
   simp only[execOp,resolve,invoke,builtin,Sem.run_bind,Sem.run_pure,Result.andThen_ok,List.map_toArray,List.map_cons,List.map_nil,hrun]
  rw[this,Oper.upon_value]
  exact hK _ _ ⟨G',hR.put hA hd⟩
 ·rcases List.mem_cons.1 hm with rfl|hm
  ·exact htok
  rcases List.mem_cons.1 hm with rfl|hm
  ·exact hbox
  ·obtain⟨q,hq,rfl⟩:=List.mem_map.1 hm
   exact hrow.toks q hq
end
section
variable {c:Ctx}{env:Env}{hp:Hp}{K:Kt}{code:Code}{ids:List Nat}
theorem CWp.tokBT (b off id k:Nat){cs cs':List AV} (hb:getH hp b=some (.box cs)) (h:cs[off]?=some .nils) (hput:putC cs off [.gt id []]=some cs') (hf:zak env hp [id]=true)
  (hn:CWp c code ⟨env,(b,some (.box cs'))::(id,some (.tok 0 k))::hp⟩ K):CWp c code ⟨env,hp⟩ K:=by
 intro a w hrel
 obtain⟨G,hr⟩:=hrel
 obtain⟨h0,hocc⟩:=zbv hf id (by simp)
 obtain⟨G',h1,h2⟩:=hr.mkTokT k h0 hocc
 have hne:b≠id:=fun e=>by subst e;have h0':getH hp b=none:=h0;rw[h0'] at hb;cases hb
 have hb':getH ((id,some (Res.tok 0 k))::hp) b=some (.box cs):=by rw[zai,if_neg hne];exact hb
 obtain⟨bl,vs,e,e1,e2,e3,e4,e5⟩:=h1.heap b _ hb'
 obtain⟨hlt,hv⟩:=List.getElem?_eq_some_iff.1 h
 have hlv:off<vs.size:=by omega
 have hval:vs[off] = .slice none 0 0:=by
  have:=e5 off hlt hlv
  rw[hv] at this
  generalize vs[off]=v at *
  cases this;rfl
 have hall:PreR G' (tokf ((id,some (.tok 0 k))::hp)) w cs' vs:=by
  obtain⟨p1,p2,p3⟩:=zcf hput
  refine⟨by omega,fun i hi hvi=>?_⟩
  have:=p3 i
  rw[List.getElem?_eq_getElem hi] at this
  by_cases hio:i=off
  ·subst hio
   rw[if_pos (by simp)] at this
   simp only[Nat.sub_self,List.getElem?_cons_zero,Option.some.injEq] at this
   rw[this,hval]
   exact h2
  ·rw[if_neg (by simp only[List.length_cons,List.length_nil];omega)] at this
   have hic:i<cs.length:=by omega
   rw[List.getElem?_eq_getElem hic] at this
   rw[Option.some.inj this]
   exact e5 i hic hvi
 have:=h1.setBox (vs':=vs) hb' e1 e2 e4 hall
 have hw:w.setRow bl vs=w:=setRow_self w bl vs e _ e2
 rw[hw] at this
 exact hn a w ⟨G',this⟩
theorem CWp.tokT (t id k:Nat) (h:getE env t=some .nils) (hf:zak env hp [id]=true)
  (hn:CWp c code ⟨(t,.gt id [])::env,(id,some (.tok 0 k))::hp⟩ K):CWp c code ⟨env,hp⟩ K:=by
 intro a w hrel
 obtain⟨G,hr⟩:=hrel
 obtain⟨h0,hocc⟩:=zbv hf id (by simp)
 obtain⟨G',h1,h2⟩:=hr.mkTokT k h0 hocc
 have hv:a.tmps.getD t undef = .slice none 0 0:=by
  have:=hr.slots t _ h
  revert this
  generalize a.tmps.getD t undef=v
  intro this;cases this;rfl
 exact hn a w ⟨G',h1.slot (by rw[hv];exact h2)⟩
end
section
variable {c:Ctx}{all:Array Oper}{chk:List Rec→Prop}{os:List Oper}{recs:List Rec}{env:Env}{hp:Hp}{Q:St→Prop}
variable {d ty:Nat}{pos:String}{af:Array Edge}{g:Option (Nat×Bool)}{pg:List (Nat×AV)}
variable {t yt:TypeId}{x y:Operand}
theorem Walk.lenGt {xs:List (List D)}{at_ e k yb id:Nat} (ht:SlT c.P at_ e k yb) (hg:GH all env g pg) (hd:Nat.blt d c.n=true) (hx:opd env x=some (.gt id xs))
  (hn:Walk c all chk os (zaq (pg++opF x (.gt id xs)) [] [] ⟨some (d,.d (.i xs.length)),[]⟩::recs) ⟨(d,.d (.i xs.length))::env,hp⟩ Q):
  Walk c all chk (⟨some d,.call ⟨.builtin .len,#[x],#[at_]⟩,ty,pos,af,g⟩::os) recs ⟨env,hp⟩ Q:=
 Walk.pure1 hg hd hx (fun a G T w h=>⟨.int .i64 xs.length,by
  obtain⟨⟨ad,cap,he⟩,_⟩:=h.gt_inv
  simp[execOp,resolve,invoke,builtin,he,zek ht],.d (.int _ _)⟩) hn
theorem Walk.sliceLitB {parts:Array (Nat×Operand)}{n:Nat}{ks:List Nat}{xs:List Operand}{vs zs r:List AV}{e k yb id:Nat} (ht:SlT c.P t e k yb) (hz:TyZ c.P e k zs) (hzk:zs.length=k) (hk:0<k)
  (hparts:parts=(ks.zip xs).toArray) (hlen:ks.length=xs.length) (hsmall:n*k≤16777216) (hpos:0<n) (hg:GH all env g pg) (hd:Nat.blt d c.n=true) (hx:opdL env xs=some vs)
  (hf:zha (fun i=>some (i*k,k)) (zaE n zs) (ks.zip vs)=some r) (hid:za0 id (AV.idsL r)=false) (h0:getH hp id=none) (ho1:occE id env=false) (ho2:occH id hp=false)
  (hn:Walk c all chk os (zaq (pg++opFL xs vs) [] [id] ⟨some (d,.ms id n),[(id,some (.box r))]⟩::recs) ⟨(d,.ms id n)::env,(id,some (.box r))::hp⟩ Q):
  Walk c all chk (⟨some d,.buildSlice t n parts,ty,pos,af,g⟩::os) recs ⟨env,hp⟩ Q:=by
 subst hparts
 refine Walk.mkBox hg hd hx h0 ho1 ho2 hid (fun a G T w h=>?_) hn
 obtain⟨ie,hi1,hi2,hi3⟩:=ht.inf
 obtain⟨i',z,z1,z2,z3,z4⟩:=hz.inf
 rw[hi1] at z1
 cases z1
 have hz0:=zb4 (G:=G) (T:=T) (w:=w) z4
 have hzr:=zeV (by simpa using hz0) n (by omega)
 obtain⟨lv,hlv,hal⟩:=zeX (ks.zip vs) (ks.zip (xs.map a.eval)) _ r _ hf hzr (by simp[h.1]) (zn6 h hlen)
 have hpos':¬n*ie.size=0:=by rw[hi2];exact Nat.ne_of_gt (Nat.mul_pos hpos hk)
 have hrun:=run_buildSlice (P:=c.P) w t e n ((ks.zip xs).toArray.map fun(i,x)=>(i,a.eval x)) lv ie z ht.und hi1 z3 (by rw[hi2];omega) hpos' (by
  rw[hi2,←hlv]
  congr 1
  ·rw[hzk]
  ·simp[List.zip_map_right,Prod.map])
 refine⟨_,lv,e, ?_,hal,fun G' T' w' hl hT=> .ms (by rw[hl];rfl) hT (Nat.le_refl _)⟩
 simp only[execOp,Sem.run_bind,hrun,Result.andThen_ok,Sem.run_pure]
end
end Go.Proofs.YtcnjkjdmbnhcaaaGreat
namespace Go.Proofs.YtcnjkjdmbnhcaaaGreat
open Go
set_option linter.unusedSimpArgs false
set_option linter.unusedVariables false
set_option maxRecDepth 100000
set_option maxHeartbeats 2000000
theorem zd0:∀(n:Nat) (s:Bool){p:Pat},p.size≤n→p.ok→FnD Tryz.prog 100 [.agg [.d (.i p.op),.d (.i p.ctor),.d (.i p.n),.d (.i p.m),.d (.i p.var),.d (zaf p.kids)]] []
  (.agg [.d (.i p.op),.d (.i p.ctor),.d (.i p.n),.d (.i p.m),.d (.i p.var),.gt (bif s then 61 else 63) (p.kids.map Pat.cc)]) [(bif s then 61 else 63,some (.tok (p.kids.map Pat.cc).length 6))]
 |0,_,p,h,_=>by rw[Pat.size_eq] at h;omega
 |n+1,true,p,h,hok=>by
  rw[Pat.size_eq] at h
  rw[Pat.ok_iff] at hok
  have hok1:=hok.1
  have hc:∀y∈p.kids,FnD Tryz.prog 100 [.agg [.d (.i y.op),.d (.i y.ctor),.d (.i y.n),.d (.i y.m),.d (.i y.var),.d (zaf y.kids)]] []
    (.agg [.d (.i y.op),.d (.i y.ctor),.d (.i y.n),.d (.i y.m),.d (.i y.var),.gt 63 (y.kids.map Pat.cc)]) [(63,some (.tok (y.kids.map Pat.cc).length 6))]:=fun y hy=>zd0 n false (p:=y) (by have:=Pats.size_mem hy;omega) (Pats.ok_mem hok.2 y hy)
  show FnD Tryz.prog 100 _ _ (.agg [.d (.i p.op),.d (.i p.ctor),.d (.i p.n),.d (.i p.m),.d (.i p.var),.gt 61 (p.kids.map Pat.cc)]) [(61,some (.tok (p.kids.map Pat.cc).length 6))]
  refine bd Tryz.f100 24 [] [] fun w0 F0 own kept hk=>?_
  refine Walk.box (id:=3001) .none rfl rfl rfl rfl rfl rfl rfl ?_
  refine Walk.alloc (id:=3002) tz56 rfl .none rfl rfl rfl rfl ?_
  refine tv ?_
  refine Walk.store ty45 .none rfl rfl rfl rfl rfl rfl (by simp) rfl ?_
  refine tv ?_
  refine CWp.tokBT 3001 5 61 6 rfl rfl rfl rfl ?_
  refine CWp.loopX (ι:=List (Pat)×List (Pat)) hk (fun x=>[(11,.d (.i (x.1.length:Int)))]) [5,12,13,14,15,16,17,18,19,20,21,22] (fun x=>[(3001,some (.box [.d (.i p.op),.d (.i p.ctor),.d (.i p.n),.d (.i p.m),.d (.i p.var),.gt 61 (x.1.map Pat.cc)])),(61,some (.tok (x.1.map Pat.cc).length 6))]) (fun x=>x.1++x.2=p.kids) (fun x=>x.2.length) ([],p.kids) (by simp) ⟨⟨_,rfl,LeA.eqi ?_⟩,trivial⟩ ⟨?_,⟨zad ?_,trivial⟩⟩ (fun x=>rfl) (fun x hg1=>?_)
  focus (first|rfl|(simp[Pat.cs_cd];done)|(simp;omega))
  focus (first|rfl|(simp[getH,Pat.cs_cd];done))
  focus (first|rfl|(simp[Pat.cs_cd];done)|(simp;omega))
  obtain⟨pre,rest⟩:=x
  dsimp only at hg1 ⊢
  refine evc [] [] ?_
  refine sq (fun h1 h1p h1s=>?_) fun h1 h1p h1s=>?_
  try simp only[Q,Pat.cs_len] at h1p
  rcases rest with _|⟨y,rest⟩
  ·exfalso;simp_all
  refine Walk.idx sl45 .none rfl rfl rfl rfl (Pat.cs_at' hg1) rfl ?_
  refine ev ?_
  refine Walk.alloc (id:=3005) tz56 rfl .none rfl rfl rfl rfl ?_
  refine Walk.store ty56 .none rfl rfl rfl rfl rfl rfl (by simp) rfl ?_
  refine tv ?_
  refine Walk.call (cr:=[63]) zhG (hc y (by rw[←hg1];simp)) rfl .none rfl rfl (LeL.refl _) trivial rfl (by first|rfl|(simp only[zat,List.all_cons,List.all_nil,zaF,zaz,AV.idsL,AV.ids,zab,zaa,List.map_cons,List.map_nil];rfl)) (by first|rfl|(simp only[zak,occH,occE,Res.ids,List.cons_append,List.nil_append,AV.idsL,AV.ids,zab,zaa,zac,zan,List.map_cons,List.map_nil,upC];rfl)) ?_
  refine Walk.sliceLitB (id:=3019) sl45 tz56 rfl (by decide) (ks:=[0]) (xs:=[_]) rfl rfl (by decide) (by decide) .none rfl rfl rfl rfl rfl rfl rfl ?_
  refine Walk.appendT hk rfl sl45 zz56 .none rfl rfl rfl rfl (zaB rfl (by first|rfl|(simp;done)|(simp;omega))) rfl (.sc rfl (.sc rfl (.sc rfl (.sc rfl (.sc rfl (.gt rfl (by first|rfl|(simp;done)) .nil)))))) rfl rfl (by have:=congrArg List.length hg1;simp at this;simp;omega) (by have:=congrArg List.length hg1;simp at this;simp;omega) ?_
  refine evd [] [] ?_
  refine Walk.store ty45 .none rfl rfl rfl rfl rfl rfl (by simp) rfl ?_
  refine dr ?_
  refine ar ?_
  refine Exists.intro ((pre++[y],rest)) ⟨(by have hz:=hg1;rw[←hz];simp),(by simp),sx ⟨⟨_,rfl,LeA.eqi ?_⟩,trivial⟩ ⟨?_,⟨zad ?_,trivial⟩⟩⟩
  focus (first|rfl|(simp[Pat.cs_cd];done)|(simp;omega))
  focus (first|rfl|(simp[getH,Pat.cs_cd];done))
  focus (first|rfl|(simp[Pat.cs_cd];done)|(simp;omega))
  try simp only[Q,Pat.cs_len] at h1p
  have hrest:rest=[]:=by
   rcases rest with _|⟨a,b⟩
   ·rfl
   ·exfalso;have hz:=congrArg List.length (hg1);simp only[List.length_append,List.length_cons,List.length_map] at hz;omega
  subst hrest
  refine Walk.store ty56 .none rfl rfl rfl rfl rfl rfl (by simp) rfl ?_
  refine tv ?_
  refine rn [(61,some (.tok (p.kids.map Pat.cc).length 6))] (.cons (.cellA ty56 rfl rfl rfl) .nil) (.agg (.cons (.eqd ?_) (.cons (.eqd ?_) (.cons (.eqd ?_) (.cons (.eqd ?_) (.cons (.eqd ?_) (.cons (.gtg ?_) .nil))))))) ⟨rfl,rfl⟩ (SubH.get ⟨?_,trivial⟩) (zbc rfl)
  rotate_left 7
  all_goals (first|((first|rfl|(rw[List.append_nil] at hg1;subst hg1;rfl));done)|(rw[List.append_nil] at hg1;subst hg1;rfl))
 |n+1,false,p,h,hok=>by
  rw[Pat.size_eq] at h
  rw[Pat.ok_iff] at hok
  have hok1:=hok.1
  have hc:∀y∈p.kids,FnD Tryz.prog 100 [.agg [.d (.i y.op),.d (.i y.ctor),.d (.i y.n),.d (.i y.m),.d (.i y.var),.d (zaf y.kids)]] []
    (.agg [.d (.i y.op),.d (.i y.ctor),.d (.i y.n),.d (.i y.m),.d (.i y.var),.gt 61 (y.kids.map Pat.cc)]) [(61,some (.tok (y.kids.map Pat.cc).length 6))]:=fun y hy=>zd0 n true (p:=y) (by have:=Pats.size_mem hy;omega) (Pats.ok_mem hok.2 y hy)
  show FnD Tryz.prog 100 _ _ (.agg [.d (.i p.op),.d (.i p.ctor),.d (.i p.n),.d (.i p.m),.d (.i p.var),.gt 63 (p.kids.map Pat.cc)]) [(63,some (.tok (p.kids.map Pat.cc).length 6))]
  refine bd Tryz.f100 24 [] [] fun w0 F0 own kept hk=>?_
  refine Walk.box (id:=3001) .none rfl rfl rfl rfl rfl rfl rfl ?_
  refine Walk.alloc (id:=3002) tz56 rfl .none rfl rfl rfl rfl ?_
  refine tv ?_
  refine Walk.store ty45 .none rfl rfl rfl rfl rfl rfl (by simp) rfl ?_
  refine tv ?_
  refine CWp.tokBT 3001 5 63 6 rfl rfl rfl rfl ?_
  refine CWp.loopX (ι:=List (Pat)×List (Pat)) hk (fun x=>[(11,.d (.i (x.1.length:Int)))]) [5,12,13,14,15,16,17,18,19,20,21,22] (fun x=>[(3001,some (.box [.d (.i p.op),.d (.i p.ctor),.d (.i p.n),.d (.i p.m),.d (.i p.var),.gt 63 (x.1.map Pat.cc)])),(63,some (.tok (x.1.map Pat.cc).length 6))]) (fun x=>x.1++x.2=p.kids) (fun x=>x.2.length) ([],p.kids) (by simp) ⟨⟨_,rfl,LeA.eqi ?_⟩,trivial⟩ ⟨?_,⟨zad ?_,trivial⟩⟩ (fun x=>rfl) (fun x hg1=>?_)
  focus (first|rfl|(simp[Pat.cs_cd];done)|(simp;omega))
  focus (first|rfl|(simp[getH,Pat.cs_cd];done))
  focus (first|rfl|(simp[Pat.cs_cd];done)|(simp;omega))
  obtain⟨pre,rest⟩:=x
  dsimp only at hg1 ⊢
  refine evc [] [] ?_
  refine sq (fun h1 h1p h1s=>?_) fun h1 h1p h1s=>?_
  try simp only[Q,Pat.cs_len] at h1p
  rcases rest with _|⟨y,rest⟩
  ·exfalso;simp_all
  refine Walk.idx sl45 .none rfl rfl rfl rfl (Pat.cs_at' hg1) rfl ?_
  refine ev ?_
  refine Walk.alloc (id:=3005) tz56 rfl .none rfl rfl rfl rfl ?_
  refine Walk.store ty56 .none rfl rfl rfl rfl rfl rfl (by simp) rfl ?_
  refine tv ?_
  refine Walk.call (cr:=[61]) zhG (hc y (by rw[←hg1];simp)) rfl .none rfl rfl (LeL.refl _) trivial rfl (by first|rfl|(simp only[zat,List.all_cons,List.all_nil,zaF,zaz,AV.idsL,AV.ids,zab,zaa,List.map_cons,List.map_nil];rfl)) (by first|rfl|(simp only[zak,occH,occE,Res.ids,List.cons_append,List.nil_append,AV.idsL,AV.ids,zab,zaa,zac,zan,List.map_cons,List.map_nil,upC];rfl)) ?_
  refine Walk.sliceLitB (id:=3019) sl45 tz56 rfl (by decide) (ks:=[0]) (xs:=[_]) rfl rfl (by decide) (by decide) .none rfl rfl rfl rfl rfl rfl rfl ?_
  refine Walk.appendT hk rfl sl45 zz56 .none rfl rfl rfl rfl (zaB rfl (by first|rfl|(simp;done)|(simp;omega))) rfl (.sc rfl (.sc rfl (.sc rfl (.sc rfl (.sc rfl (.gt rfl (by first|rfl|(simp;done)) .nil)))))) rfl rfl (by have:=congrArg List.length hg1;simp at this;simp;omega) (by have:=congrArg List.length hg1;simp at this;simp;omega) ?_
  refine evd [] [] ?_
  refine Walk.store ty45 .none rfl rfl rfl rfl rfl rfl (by simp) rfl ?_
  refine dr ?_
  refine ar ?_
  refine Exists.intro ((pre++[y],rest)) ⟨(by have hz:=hg1;rw[←hz];simp),(by simp),sx ⟨⟨_,rfl,LeA.eqi ?_⟩,trivial⟩ ⟨?_,⟨zad ?_,trivial⟩⟩⟩
  focus (first|rfl|(simp[Pat.cs_cd];done)|(simp;omega))
  focus (first|rfl|(simp[getH,Pat.cs_cd];done))
  focus (first|rfl|(simp[Pat.cs_cd];done)|(simp;omega))
  try simp only[Q,Pat.cs_len] at h1p
  have hrest:rest=[]:=by
   rcases rest with _|⟨a,b⟩
   ·rfl
   ·exfalso;have hz:=congrArg List.length (hg1);simp only[List.length_append,List.length_cons,List.length_map] at hz;omega
  subst hrest
  refine Walk.store ty56 .none rfl rfl rfl rfl rfl rfl (by simp) rfl ?_
  refine tv ?_
  refine rn [(63,some (.tok (p.kids.map Pat.cc).length 6))] (.cons (.cellA ty56 rfl rfl rfl) .nil) (.agg (.cons (.eqd ?_) (.cons (.eqd ?_) (.cons (.eqd ?_) (.cons (.eqd ?_) (.cons (.eqd ?_) (.cons (.gtg ?_) .nil))))))) ⟨rfl,rfl⟩ (SubH.get ⟨?_,trivial⟩) (zbc rfl)
  rotate_left 7
  all_goals (first|((first|rfl|(rw[List.append_nil] at hg1;subst hg1;rfl));done)|(rw[List.append_nil] at hg1;subst hg1;rfl))
theorem zra {w:List Data}{a k:Int}{l:List Cl}{ps:List Pat} (hm:zbS w ⟨a,k⟩ l=some ps):zbA w ⟨a,k⟩ l=true∧∃away,zbC l []=some away∧zaK w ⟨a,k⟩ [anyQ] away=some ps∧ps.all (isP w ⟨a,k⟩)=true:=by
 unfold zbS at hm
 split at hm
 ·rename_i hv
  refine⟨hv, ?_⟩
  unfold zdO at hm
  cases hq:zbC l [] with
  |none=>rw[hq] at hm;simp at hm
  |some away=>
   rw[hq] at hm
   cases hw:zaK w ⟨a,k⟩ [anyQ] away with
   |none=>simp[hw] at hm
   |some r=>
    simp only[hw] at hm
    by_cases hr:r.all (isP w ⟨a,k⟩)=true
    ·refine⟨away,rfl, ?_⟩
     simp[hr] at hm
     subst hm
     exact⟨hw,hr⟩
    ·simp[hr] at hm
 ·cases hm
theorem zoP (m:Bool) (y:Cl) (rest:List Cl):zah m ((y::rest).map Cl.c) = .d (.i y.pat.op):: .d (.i y.pat.ctor):: .d (.i y.pat.n):: .d (.i y.pat.m):: .d (.i y.pat.var):: .own m (zaf y.pat.kids):: .d (.i y.g.op):: .d (.i y.g.var):: .d (.i y.g.n)::zah m (rest.map Cl.c):=rfl
theorem zd2 (m:Bool) (l:List Cl) (y:Cl):zah m ((l++[y]).map Cl.c)=zah m (l.map Cl.c)++[.d (.i y.pat.op),.d (.i y.pat.ctor),.d (.i y.pat.n),.d (.i y.pat.m),.d (.i y.pat.var),.own m (zaf y.pat.kids),.d (.i y.g.op),.d (.i y.g.var),.d (.i y.g.n)]:=by
 rw[List.map_append,zhm]
 rfl
theorem Cl.rows {l:List Cl}:∀x,x∈l.map Cl.c→x.length=9:=by
 intro x hx
 obtain⟨y,_,rfl⟩:=List.mem_map.1 hx
 rfl
theorem zaY (m:Bool) (l:List Cl):(zah m (l.map Cl.c)).length=l.length*9:=by
 rw[zb6 (k:=9) Cl.rows,List.length_map]
def Cl.szM (c:Cl):Int:=c.pat.szM+3
def Cl.one (k:Int) (c:Cl):Cl:=⟨c.pat.one k,⟨k+1+1+1+1+1+szL Pat.szM c.pat.kids,k+1+1+1+1+1+szL Pat.szM c.pat.kids+1,k+1+1+1+1+1+szL Pat.szM c.pat.kids+1+1⟩⟩
theorem Cl.szM_nn (c:Cl):0≤c.szM:=by have:=Pat.szM_nn c.pat;unfold Cl.szM;omega
theorem Cl.szM_kids (c:Cl):c.szM=5+szL Pat.szM c.pat.kids+3:=by unfold Cl.szM;rw[Pat.szM_kids]
theorem Cl.szM_le (c:Cl):c.szM≤8+5*(mCl c:Int):=by have:=Pat.szM_le c.pat;unfold Cl.szM mCl;omega
theorem Cls.szM_le:∀l:List Cl,szL Cl.szM l≤8*(mCls l:Int)
 | []=>by simp[szL,mCls]
 |c::r=>by
  have h1:=Cl.szM_le c
  have h2:=Cls.szM_le r
  simp only[szL,mCls,List.length_cons,List.map_cons,List.sum_cons] at *
  omega
theorem zkD {c:Cl} (hok:c.pat.ok):
  FnD Tryz.prog 51 [.agg [.d (.i c.pat.op),.d (.i c.pat.ctor),.d (.i c.pat.n),.d (.i c.pat.m),.d (.i c.pat.var),.d (zaf c.pat.kids),.d (.i c.g.op),.d (.i c.g.var),.d (.i c.g.n)]] [] (.agg [.d (.i c.pat.op),.d (.i c.pat.ctor),.d (.i c.pat.n),.d (.i c.pat.m),.d (.i c.pat.var),.ms 66 c.pat.kids.length,.d (.i c.g.op),.d (.i c.g.var),.d (.i c.g.n)]) [(66,some (.tree (zah false (Pat.cs c.pat.kids))))]:=by
 refine bd Tryz.f51 13 [] [] fun w0 F0 own kept hk=>?_
 refine Walk.box (id:=3001) .none rfl rfl rfl rfl rfl rfl rfl ?_
 refine Walk.alloc (id:=3002) tz60 rfl .none rfl rfl rfl rfl ?_
 refine tv ?_
 refine Walk.alloc (id:=3003) tz60 rfl .none rfl rfl rfl rfl ?_
 refine tv ?_
 refine Walk.call (cr:=[66]) zp1 (zep _ (Nat.le_refl _) hok) rfl .none rfl rfl (LeL.refl _) trivial rfl (by first|rfl|(simp only[zat,List.all_cons,List.all_nil,zaF,zaz,AV.idsL,AV.ids,zab,zaa,List.map_cons,List.map_nil];rfl)) (by first|rfl|(simp only[zak,occH,occE,Res.ids,List.cons_append,List.nil_append,AV.idsL,AV.ids,zab,zaa,zac,zan,List.map_cons,List.map_nil,upC];rfl)) ?_
 refine ev ?_
 refine Walk.store ty56 .none rfl rfl rfl rfl rfl rfl (by simp) rfl ?_
 refine tv ?_
 refine wc zsk (zhg) rfl rfl ?_
 refine ev ?_
 refine Walk.store ty58 .none rfl rfl rfl rfl rfl rfl (by simp) rfl ?_
 refine tv ?_
 refine Walk.store ty60 .none rfl rfl rfl rfl rfl rfl (by simp) rfl ?_
 refine tv ?_
 focus (refine rn [(66,some (.tree (zah false (Pat.cs c.pat.kids))))] (.cons (.cellA ty60 rfl rfl rfl) .nil) (.agg (.cons (.eqd ?_) (.cons (.eqd ?_) (.cons (.eqd ?_) (.cons (.eqd ?_) (.cons (.eqd ?_) (.cons (LeA.msn ?_) (.cons (.eqd ?_) (.cons (.eqd ?_) (.cons (.eqd ?_) .nil)))))))))) ⟨rfl,rfl⟩ (SubH.get ⟨rfl,trivial⟩) (zbc rfl);all_goals (first|rfl|(simp[];done)|(simp_all;done)|(simp_all;omega)|omega))
theorem zgb {l:List Cl} (hs:ClsOk l):FnD Tryz.prog 16 [.d (za6 l)] [] (.ms 68 l.length) [(68,some (.tree (zah false (l.map Cl.c))))]:=by
 have h:=hs.1
 have hf2:∀c∈l,FnD Tryz.prog 51 [.agg [.d (.i c.pat.op),.d (.i c.pat.ctor),.d (.i c.pat.n),.d (.i c.pat.m),.d (.i c.pat.var),.d (zaf c.pat.kids),.d (.i c.g.op),.d (.i c.g.var),.d (.i c.g.n)]] [] (.agg [.d (.i c.pat.op),.d (.i c.pat.ctor),.d (.i c.pat.n),.d (.i c.pat.m),.d (.i c.pat.var),.ms 67 c.pat.kids.length,.d (.i c.g.op),.d (.i c.g.var),.d (.i c.g.n)]) [(67,some (.tree (zah false (Pat.cs c.pat.kids))))]:=fun v hv=>FnD.out_ren (zaa _ _) rfl (zkD (hs.2 v hv)) 67
 refine bd Tryz.f16 23 [] [2,4] fun w0 F0 own kept hk=>?_
 refine Walk.make (id:=68) sl28 tz60 rfl (by decide) (zb8 rfl) .none rfl rfl rfl (by simp;omega) (by simp;omega) rfl rfl rfl ?_
 refine ev ?_
 refine CWp.boxTree 68 false rfl rfl (zen _ _ _) ?_
 refine evc [] [] ?_
 refine CWp.loopX (ι:=List (Cl)×List (Cl)) hk (fun x=>[(4,.d (.i (x.1.length:Int)))]) [8,9,10,11,12,13,14,15,16,17,18,19,20,21] (fun x=>[(68,some (.tree (zah false (x.1.map Cl.c)++zaE x.2.length [.d (.i 0),.d (.i 0),.d (.i 0),.d (.i 0),.d (.i 0),.own false (.sl []),.d (.i 0),.d (.i 0),.d (.i 0)])))]) (fun x=>x.1++x.2=l) (fun x=>x.2.length) ([],l) (by simp) ⟨⟨_,rfl,LeA.eqi ?_⟩,trivial⟩ ⟨?_,trivial⟩ (fun x=>rfl) (fun x hg1=>?_)
 focus (first|rfl|(simp;done)|(simp_all;done)|omega)
 focus (first|rfl|(show some (Res.tree _)=some (Res.tree _);rw[zd2,List.append_assoc];rfl)|(show some (Res.tree _)=some (Res.tree _);simp[zbs];rfl))
 obtain⟨pre,rest⟩:=x
 dsimp only at hg1 ⊢
 refine evc [] [2,4] ?_
 refine sq (fun h1 h1p h1s=>?_) fun h1 h1p h1s=>?_
 try simp only[Q,Pat.cs_len] at h1p
 rcases rest with _|⟨y,rest⟩
 ·exfalso;simp_all
 refine Walk.idx sl25 .none rfl rfl rfl rfl (zaV hg1) rfl ?_
 refine ev ?_
 refine Walk.call (cr:=[67]) zsc (hf2 y (by rw[←hg1];simp)) rfl .none rfl rfl (LeL.refl _) trivial rfl (by first|rfl|(simp only[zat,List.all_cons,List.all_nil,zaF,zaz,AV.idsL,AV.ids,zab,zaa,List.map_cons,List.map_nil];rfl)) (by first|rfl|(simp only[zak,occH,occE,Res.ids,List.cons_append,List.nil_append,AV.idsL,AV.ids,zab,zaa,zac,zan,List.map_cons,List.map_nil,upC];rfl)) ?_
 refine Walk.idxM sl28 .none rfl rfl rfl rfl (by first|omega|(simp[Pat.cs_len];omega)) ?_
 refine Walk.storeT ty60 .none rfl rfl rfl rfl rfl rfl (by simp) ((zfY (zaY false _) rfl)) ?_
 refine tv ?_
 refine CWp.merge hk 68 (pre.length*9+5) 67 6 _ rfl (zbi (zaY false _) rfl) (by simp[zap,Pat.cs_len]) rfl Pat.cs_rows rfl rfl (zaG (zaY false _) (zcm rfl)) ?_
 refine evc [] [] ?_
 refine ar ?_
 refine Exists.intro ((pre++[y],rest)) ⟨(by have hz:=hg1;rw[←hz];simp),(by simp),sx ⟨⟨_,rfl,LeA.eqi ?_⟩,trivial⟩ ⟨?_,trivial⟩⟩
 focus (first|rfl|(simp;done)|(simp_all;done)|omega)
 focus (first|rfl|(show some (Res.tree _)=some (Res.tree _);rw[zd2,List.append_assoc];rfl)|(show some (Res.tree _)=some (Res.tree _);simp[zbs];rfl))
 try simp only[Q,Pat.cs_len] at h1p
 have hrest:rest=[]:=by
  rcases rest with _|⟨a,b⟩
  ·rfl
  ·exfalso;have hz:=congrArg List.length (hg1);simp only[List.length_append,List.length_cons,List.length_map] at hz;omega
 subst hrest
 refine rn [(68,some (.tree (zah false (l.map Cl.c))))] (r1 rfl) (LeA.msn ?_) ⟨rfl,rfl⟩ (SubH.get ⟨?_,trivial⟩) (zbc rfl)
 rotate_left 2
 all_goals (first|((first|rfl|(simp;done));done)|(first|rfl|(rw[List.append_nil] at hg1;subst hg1;show some (Res.tree _)=some (Res.tree _);simp[zaE];done)))
theorem zlB {m:Bool}{l:List Pat}{k:Int} (h0:0<k) (h1:k+szL Pat.szM l≤1000000000000) (hl:l.length≤1000000000000) (hok:Pats.ok l):FnD Tryz.prog 58 [.ms 47 l.length,.d (.i k)] [(47,some (.tree (zah m (Pat.cs l))))]
  (.d (.i (k+szL Pat.szM l))) [(47,some (.tree (zah false (Pat.cs (mkL Pat.one Pat.szM k l)))))]:=zgO (zil _ (Nat.le_refl _) h0 h1 hl hok)
theorem zfl {m:Bool}{l:List Cl}{k:Int} (h0:0<k) (h1:k+szL Cl.szM l≤1000000000000) (hok:ClsOk l):FnD Tryz.prog 21 [.ms 48 l.length,.d (.i k)] [(48,some (.tree (zah m (l.map Cl.c))))]
  (.d (.i (k+szL Cl.szM l))) [(48,some (.tree (zah false ((mkL Cl.one Cl.szM k l).map Cl.c))))]:=by
 have hl:=hok.1
 have hpk:=fun(c:Cl) (hc:c∈l)=>(Pat.ok_iff c.pat).1 (hok.2 c hc)
 refine bd Tryz.f21 85 [57] [14,15,1000009] fun w0 F0 own kept hk=>?_
 refine CWp.loopX (ι:=List (Cl)×List (Cl)×(Int)) hk (fun x=>[(5,.d (.i (x.1.length:Int))),(1,.d (.i x.2.2))]) [6,7,8,9,10,11,12,13,14,15,16,17,18,19,20,21,22,23,24,25,26,27,28,29,30,31,32,33,34,35,36,37,38,39,40,41,42,43,44,45,46,47,48,49,50,51,52,53,54,55,56,57,58,59,60,61,62,63,64,65,66,67,68,69,70,71,72,73,74,75,76,77,78,79,80,81,82,83] (fun x=>[(48,some (.tree (zah false ((mkL Cl.one Cl.szM k x.1).map Cl.c)++zah m (x.2.1.map Cl.c))))]) (fun x=>x.1++x.2.1=l∧x.2.2=k+szL Cl.szM x.1) (fun x=>x.2.1.length) ([],l,k) ⟨by simp,by simp[szL]⟩ ⟨⟨_,rfl,LeA.eqi ?_⟩,⟨⟨_,rfl,LeA.eqi ?_⟩,trivial⟩⟩ ⟨?_,trivial⟩ (fun x=>rfl) (fun x hg1=>?_)
 iterate 2 focus (first|rfl|(simp;done)|omega|(refine Eq.trans (b:=v+Cl.szM y) ?_ rfl;omega))
 focus (first|rfl|(show some (Res.tree _)=some (Res.tree _);rw[zck,zd2,←hg1.2];simp only[Cl.one,Pat.one_kids,Pat.one_sc y.pat v,List.append_assoc,List.cons_append,List.nil_append];all_goals rfl))
 obtain⟨pre,rest,v⟩:=x
 dsimp only at hg1 ⊢
 refine evc [57] [14,15,1000009] ?_
 refine cq (fun h1 h1p h1s=>?_) fun h1 h1p h1s=>?_
 try simp only[Q] at h1p
 rcases rest with _|⟨y,rest⟩
 ·exfalso;simp_all
 have hsp:=zd5 (sz:=Cl.szM) hg1.1;have hnn:=zaT (l:=rest) Cl.szM_nn;have hnp:=zaT (l:=pre) Cl.szM_nn;have hys:=Cl.szM_kids y;have hya:=zaT (l:=y.pat.kids) Pat.szM_nn;have hv:=hg1.2
 refine CWp.reTree 48 (zah false ((mkL Cl.one Cl.szM k pre).map Cl.c)++(.d (.i y.pat.op):: .d (.i y.pat.ctor):: .d (.i y.pat.n):: .d (.i y.pat.m):: .d (.i y.pat.var):: .own m (zaf y.pat.kids):: .d (.i y.g.op):: .d (.i y.g.var):: .d (.i y.g.n)::zah m (rest.map Cl.c))) rfl (by rw[zoP]) ?_
 refine evc [57] [14,15,1000009] ?_
 refine Walk.idxM sl28 .none rfl rfl rfl rfl (by first|omega|(simp[Pat.cs_nil,Pat.cs_len,Pat.cs];omega)) ?_
 refine evs [57] [] ?_
 refine Walk.storeT ty3 .none rfl rfl rfl rfl rfl rfl (by simp) ((zaG ((zaY false _).trans (by rw[zap];all_goals rfl)) zhX)) ?_
 refine tv ?_
 refine ar ?_
 refine Walk.idxM sl28 .none rfl rfl rfl rfl (by first|omega|(simp[Pat.cs_nil,Pat.cs_len,Pat.cs];omega)) ?_
 refine evs [57] [] ?_
 refine Walk.storeT ty3 .none rfl rfl rfl rfl rfl rfl (by simp) ((zaG ((zaY false _).trans (by rw[zap];all_goals rfl)) zdr)) ?_
 refine tv ?_
 refine ar ?_
 refine Walk.idxM sl28 .none rfl rfl rfl rfl (by first|omega|(simp[Pat.cs_nil,Pat.cs_len,Pat.cs];omega)) ?_
 refine evs [57] [] ?_
 refine Walk.storeT ty3 .none rfl rfl rfl rfl rfl rfl (by simp) ((zaG ((zaY false _).trans (by rw[zap];all_goals rfl)) zjR)) ?_
 refine tv ?_
 refine ar ?_
 refine Walk.idxM sl28 .none rfl rfl rfl rfl (by first|omega|(simp[Pat.cs_nil,Pat.cs_len,Pat.cs];omega)) ?_
 refine evs [57] [] ?_
 refine Walk.storeT ty3 .none rfl rfl rfl rfl rfl rfl (by simp) ((zaG ((zaY false _).trans (by rw[zap];all_goals rfl)) zpI)) ?_
 refine tv ?_
 refine ar ?_
 refine Walk.idxM sl28 .none rfl rfl rfl rfl (by first|omega|(simp[Pat.cs_nil,Pat.cs_len,Pat.cs];omega)) ?_
 refine evs [57] [] ?_
 refine Walk.storeT ty3 .none rfl rfl rfl rfl rfl rfl (by simp) ((zaG ((zaY false _).trans (by rw[zap];all_goals rfl)) zpJ)) ?_
 refine tv ?_
 refine ar ?_
 by_cases hs2:y.pat.kids=[]
 refine CWp.emptyCell 48 (pre.length*9+5) rfl (zbi ((zaY false _).trans (by rw[zap];all_goals rfl)) rfl) (by simp[hs2,Pat.cs_nil,Pat.cs_len,Pat.cs]) (zaG ((zaY false _).trans (by rw[zap];all_goals rfl)) zeS) ?_
 refine evc [57] [] ?_
 refine Walk.idxM sl28 .none rfl rfl rfl rfl (by first|omega|(simp[Pat.cs_nil,Pat.cs_len,Pat.cs];omega)) ?_
 refine evs [57] [] ?_
 refine Walk.loadT ty45 .none rfl rfl rfl ((by rw[zbi ((zaY false _).trans (by rw[zap];all_goals rfl)) rfl];rfl)) ?_
 refine evs [57] [] ?_
 refine Walk.call (cr:=[]) znZ (zeN hs2) rfl .none rfl rfl (LeL.refl _) trivial rfl (by first|rfl|(simp only[zat,List.all_cons,List.all_nil,zaF,zaz,AV.idsL,AV.ids,zab,zaa,List.map_cons,List.map_nil];rfl)) (by first|rfl|(simp only[zak,occH,occE,Res.ids,List.cons_append,List.nil_append,AV.idsL,AV.ids,zab,zaa,zac,zan,List.map_cons,List.map_nil,upC];rfl)) ?_
 refine evs [57] [] ?_
 refine CWp.fullCell 48 (pre.length*9+5) false rfl (xs:=Pat.cs (mkL Pat.one Pat.szM (v+1+1+1+1+1) y.pat.kids)) rfl (zbi ((zaY false _).trans (by rw[zap];all_goals rfl)) rfl) (by simp[hs2,mkL,Pat.cs]) (zaG ((zaY false _).trans (by rw[zap];all_goals rfl)) zeS) ?_
 refine evc [57] [] ?_
 refine Walk.idxM sl28 .none rfl rfl rfl rfl (by first|omega|(simp[Pat.cs_nil,Pat.cs_len,Pat.cs];omega)) ?_
 refine evs [57] [] ?_
 refine Walk.storeT ty3 .none rfl rfl rfl rfl rfl rfl (by simp) ((zaG (o:=pre.length*9) (j:=6) ((zaY false _).trans (by rw[zap])) zpK)) ?_
 refine tv ?_
 refine ar ?_
 refine Walk.idxM sl28 .none rfl rfl rfl rfl (by first|omega|(simp[Pat.cs_nil,Pat.cs_len,Pat.cs];omega)) ?_
 refine evs [57] [] ?_
 refine Walk.storeT ty3 .none rfl rfl rfl rfl rfl rfl (by simp) ((zaG (o:=pre.length*9) (j:=7) ((zaY false _).trans (by rw[zap])) zpL)) ?_
 refine tv ?_
 refine ar ?_
 refine Walk.idxM sl28 .none rfl rfl rfl rfl (by first|omega|(simp[Pat.cs_nil,Pat.cs_len,Pat.cs];omega)) ?_
 refine evs [57] [] ?_
 refine Walk.storeT ty3 .none rfl rfl rfl rfl rfl rfl (by simp) ((zaG (o:=pre.length*9) (j:=8) ((zaY false _).trans (by rw[zap])) zpM)) ?_
 refine tv ?_
 refine ar ?_
 refine ar ?_
 refine Exists.intro ((pre++[y],rest,v+Cl.szM y)) ⟨⟨(by have hz:=hg1.1;rw[←hz];simp),(by show v+Cl.szM y=_;rw[zcL,hg1.2];omega)⟩,(by simp),sx ⟨⟨_,rfl,LeA.eqi ?_⟩,⟨⟨_,rfl,LeA.eqi ?_⟩,trivial⟩⟩ ⟨?_,trivial⟩⟩
 iterate 2 focus (first|rfl|(simp;done)|omega|(refine Eq.trans (b:=v+Cl.szM y) ?_ rfl;omega))
 focus (first|rfl|(show some (Res.tree _)=some (Res.tree _);rw[zck,zd2,←hg1.2];simp only[Cl.one,Pat.one_kids,Pat.one_sc y.pat v,List.append_assoc,List.cons_append,List.nil_append];all_goals rfl))
 refine CWp.split 48 (pre.length*9+5) 47 rfl (zbi ((zaY false _).trans (by rw[zap];all_goals rfl)) rfl) (by simp[hs2,Pat.cs_nil,Pat.cs_len,Pat.cs]) (by first|rfl|(simp only[zak,occH,occE,Res.ids,List.cons_append,List.nil_append,AV.idsL,AV.ids,zab,zaa,zac,zan,List.map_cons,List.map_nil,upC];rfl)) (zaG ((zaY false _).trans (by rw[zap];all_goals rfl)) zeS) ?_
 refine evc [57] [] ?_
 refine Walk.idxM sl28 .none rfl rfl rfl rfl (by first|omega|(simp[Pat.cs_nil,Pat.cs_len,Pat.cs];omega)) ?_
 refine evs [57] [] ?_
 refine Walk.loadT ty45 .none rfl rfl rfl ((by rw[zbi ((zaY false _).trans (by rw[zap];all_goals rfl)) rfl];rfl)) ?_
 refine evs [57] [] ?_
 refine Walk.call (cr:=[]) znZ (zlB (l:=y.pat.kids) (k:=v+1+1+1+1+1) (by omega) (by omega) (hpk y (by rw[←hg1.1];simp)).1 (hpk y (by rw[←hg1.1];simp)).2) rfl .none rfl rfl (.cons (LeA.msn (by first|rfl|(simp[Pat.cs_nil,Pat.cs_len,Pat.cs];done))) (.cons (.refl _) .nil)) ⟨by first|rfl|(simp;rfl),trivial⟩ rfl (by first|rfl|(simp only[zat,List.all_cons,List.all_nil,zaF,zaz,AV.idsL,AV.ids,zab,zaa,List.map_cons,List.map_nil];rfl)) (by first|rfl|(simp only[zak,occH,occE,Res.ids,List.cons_append,List.nil_append,AV.idsL,AV.ids,zab,zaa,zac,zan,List.map_cons,List.map_nil,upC];rfl)) ?_
 refine evs [57] [] ?_
 refine CWp.merge hk 48 (pre.length*9+5) 47 6 _ rfl (zbi ((zaY false _).trans (by rw[zap];all_goals rfl)) rfl) (by simp[zap,Pat.cs_nil,Pat.cs_len,Pat.cs]) rfl Pat.cs_rows rfl rfl (zaG ((zaY false _).trans (by rw[zap];all_goals rfl)) zeS) ?_
 refine evc [57] [] ?_
 refine Walk.idxM sl28 .none rfl rfl rfl rfl (by first|omega|(simp[Pat.cs_nil,Pat.cs_len,Pat.cs];omega)) ?_
 refine evs [57] [] ?_
 refine Walk.storeT ty3 .none rfl rfl rfl rfl rfl rfl (by simp) ((zaG (o:=pre.length*9) (j:=6) ((zaY false _).trans (by rw[zap])) zpK)) ?_
 refine tv ?_
 refine ar ?_
 refine Walk.idxM sl28 .none rfl rfl rfl rfl (by first|omega|(simp[Pat.cs_nil,Pat.cs_len,Pat.cs];omega)) ?_
 refine evs [57] [] ?_
 refine Walk.storeT ty3 .none rfl rfl rfl rfl rfl rfl (by simp) ((zaG (o:=pre.length*9) (j:=7) ((zaY false _).trans (by rw[zap])) zpL)) ?_
 refine tv ?_
 refine ar ?_
 refine Walk.idxM sl28 .none rfl rfl rfl rfl (by first|omega|(simp[Pat.cs_nil,Pat.cs_len,Pat.cs];omega)) ?_
 refine evs [57] [] ?_
 refine Walk.storeT ty3 .none rfl rfl rfl rfl rfl rfl (by simp) ((zaG (o:=pre.length*9) (j:=8) ((zaY false _).trans (by rw[zap])) zpM)) ?_
 refine tv ?_
 refine ar ?_
 refine ar ?_
 refine Exists.intro ((pre++[y],rest,v+Cl.szM y)) ⟨⟨(by have hz:=hg1.1;rw[←hz];simp),(by show v+Cl.szM y=_;rw[zcL,hg1.2];omega)⟩,(by simp),sx ⟨⟨_,rfl,LeA.eqi ?_⟩,⟨⟨_,rfl,LeA.eqi ?_⟩,trivial⟩⟩ ⟨?_,trivial⟩⟩
 iterate 2 focus (first|rfl|(simp;done)|omega|(refine Eq.trans (b:=v+Cl.szM y) ?_ rfl;omega))
 focus (first|rfl|(show some (Res.tree _)=some (Res.tree _);rw[zck,zd2,←hg1.2];simp only[Cl.one,Pat.one_kids,Pat.one_sc y.pat v,List.append_assoc,List.cons_append,List.nil_append];all_goals rfl))
 try simp only[Q] at h1p
 have hrest:rest=[]:=by
  rcases rest with _|⟨a,b⟩
  ·rfl
  ·exfalso;have hz:=congrArg List.length (hg1.1);simp only[List.length_append,List.length_cons,List.length_map] at hz;omega
 subst hrest
 refine evc [57] [14,15,1000009] ?_
 refine rn [(48,some (.tree (zah false ((mkL Cl.one Cl.szM k l).map Cl.c))))] (r1 rfl) (.eqd ?_) ⟨rfl,rfl⟩ (SubO.get ⟨.inr ?_,⟨.inl rfl,trivial⟩⟩) (zbc rfl)
 rotate_left 2
 all_goals (first|((first|rfl|(obtain⟨hg1,hv⟩:=hg1;rw[List.append_nil] at hg1;subst hg1;rw[hv]));done)|(first|rfl|(obtain⟨hg1,_⟩:=hg1;rw[List.append_nil] at hg1;subst hg1;show some (Res.tree _)=some (Res.tree _);simp[zbs];done)))
theorem zhU {pre rest l:List Pat}{y:Pat}{k:Int} (h:pre++y::rest=l):(Pat.cs (mkL Pat.one Pat.szM k l))[pre.length]?=some (Pat.cc (Pat.one (k+szL Pat.szM pre) y)):=by
 rw[Pat.cs_cd];exact zrb h
theorem ze6:∀(n:Nat){l:List Pat}{k:Int},Pats.size l<n→0<k→k+szL Pat.szM l≤1000000000000→l.length≤1000000000000→Pats.ok l→
  FnD Tryz.prog 59 [.d (zaf (mkL Pat.one Pat.szM k l)),.d (.i k)] [] (.d (.i (k+szL Pat.szM l))) []
 |0,l,k,h,_,_,_,_=>absurd h (Nat.not_lt_zero _)
 |n+1,l,k,h,h0,h1,hl,hok=>by
  have hcall:∀(y:Pat) (v:Int) (q:Int),y∈l→v=q→0<v→v+5+szL Pat.szM y.kids≤1000000000000→FnD Tryz.prog 59 [.d (zaf (Pat.one q y).kids),.d (.i (v+1+1+1+1+1))] [] (.d (.i (v+1+1+1+1+1+szL Pat.szM y.kids))) []:=fun y v q hy e h2 h3=>by
   subst e
   rw[Pat.one_kids]
   have ho:=(Pat.ok_iff y).1 (Pats.ok_mem hok y hy)
   exact ze6 n (by have hm:=Pats.size_mem hy;rw[Pat.size_eq] at hm;omega) (by omega) (by omega) ho.1 ho.2
  refine bd Tryz.f59 67 [] [] fun w0 F0 own kept hk=>?_
  refine CWp.loopX (ι:=List (Pat)×List (Pat)×(Int)) hk (fun x=>[(5,.d (.i (x.1.length:Int))),(1,.d (.i x.2.2))]) [4,6,7,8,9,10,11,12,13,14,15,16,17,18,19,20,21,22,23,24,25,26,27,28,29,30,31,32,33,34,35,36,37,38,39,40,41,42,43,44,45,46,47,48,49,50,51,52,53,54,55,56,57,58,59,60,61,62,63,64,65] (fun x=>[]) (fun x=>x.1++x.2.1=l∧x.2.2=k+szL Pat.szM x.1) (fun x=>x.2.1.length) ([],l,k) ⟨by simp,by simp[szL]⟩ ⟨⟨_,rfl,LeA.eqi ?_⟩,⟨⟨_,rfl,LeA.eqi ?_⟩,trivial⟩⟩ trivial (fun x=>rfl) (fun x hg1=>?_)
  iterate 2 focus (first|rfl|(simp;done)|omega|(refine Eq.trans (b:=v+Pat.szM y) ?_ rfl;omega))
  obtain⟨pre,rest,v⟩:=x
  dsimp only at hg1 ⊢
  refine evc [] [] ?_
  refine sq (fun h1 h1p h1s=>?_) fun h1 h1p h1s=>?_
  try simp only[Q,zap,Pat.cs_len] at h1p
  rcases rest with _|⟨y,rest⟩
  ·exfalso;simp_all
  have hsp:=zd5 (sz:=Pat.szM) hg1.1;have hnn:=zaT (l:=rest) Pat.szM_nn;have hnp:=zaT (l:=pre) Pat.szM_nn;have hys:=Pat.szM_kids y;have hya:=zaT (l:=y.kids) Pat.szM_nn;have hv:=hg1.2
  refine Walk.idx sl45 .none rfl rfl rfl rfl (zhU hg1.1) rfl ?_
  refine ev ?_
  refine sq (fun h2 h2p h2s=>?_) fun h2 h2p h2s=>?_
  try simp only[Q,zap,Pat.cs_len] at h2p
  exfalso;revert h2;simp[Pat.one_sc,hv]
  try simp only[Q,zap,Pat.cs_len] at h2p
  refine ar ?_
  refine Walk.idx sl45 .none rfl rfl rfl rfl (zhU hg1.1) rfl ?_
  refine ev ?_
  refine sq (fun h3 h3p h3s=>?_) fun h3 h3p h3s=>?_
  try simp only[Q,zap,Pat.cs_len] at h3p
  exfalso;revert h3;simp[Pat.one_sc,hv]
  try simp only[Q,zap,Pat.cs_len] at h3p
  refine ar ?_
  refine Walk.idx sl45 .none rfl rfl rfl rfl (zhU hg1.1) rfl ?_
  refine ev ?_
  refine sq (fun h4 h4p h4s=>?_) fun h4 h4p h4s=>?_
  try simp only[Q,zap,Pat.cs_len] at h4p
  exfalso;revert h4;simp[Pat.one_sc,hv]
  try simp only[Q,zap,Pat.cs_len] at h4p
  refine ar ?_
  refine Walk.idx sl45 .none rfl rfl rfl rfl (zhU hg1.1) rfl ?_
  refine ev ?_
  refine sq (fun h5 h5p h5s=>?_) fun h5 h5p h5s=>?_
  try simp only[Q,zap,Pat.cs_len] at h5p
  exfalso;revert h5;simp[Pat.one_sc,hv]
  try simp only[Q,zap,Pat.cs_len] at h5p
  refine ar ?_
  refine Walk.idx sl45 .none rfl rfl rfl rfl (zhU hg1.1) rfl ?_
  refine ev ?_
  refine sq (fun h6 h6p h6s=>?_) fun h6 h6p h6s=>?_
  try simp only[Q,zap,Pat.cs_len] at h6p
  exfalso;revert h6;simp[Pat.one_sc,hv]
  try simp only[Q,zap,Pat.cs_len] at h6p
  refine ar ?_
  refine Walk.idx sl45 .none rfl rfl rfl rfl (zhU hg1.1) rfl ?_
  refine ev ?_
  refine wc zsf (hcall y v _ (by rw[←hg1.1];simp) hv (by omega) (by omega)) rfl rfl ?_
  refine ev ?_
  refine sq (fun h7 h7p h7s=>?_) fun h7 h7p h7s=>?_
  try simp only[Q,zap,Pat.cs_len] at h7p
  exfalso;omega
  try simp only[Q,zap,Pat.cs_len] at h7p
  refine ar ?_
  refine Exists.intro ((pre++[y],rest,v+Pat.szM y)) ⟨⟨(by have hz:=hg1.1;rw[←hz];simp),(by show v+Pat.szM y=_;rw[zcL,hg1.2];omega)⟩,(by simp),sx ⟨⟨_,rfl,LeA.eqi ?_⟩,⟨⟨_,rfl,LeA.eqi ?_⟩,trivial⟩⟩ trivial⟩
  iterate 2 focus (first|rfl|(simp;done)|omega|(refine Eq.trans (b:=v+Pat.szM y) ?_ rfl;omega))
  try simp only[Q,zap,Pat.cs_len] at h1p
  have hrest:rest=[]:=by
   rcases rest with _|⟨a,b⟩
   ·rfl
   ·exfalso;have hz:=congrArg List.length (hg1.1);simp only[List.length_append,List.length_cons,List.length_map] at hz;omega
  subst hrest
  refine rn0 (r1 rfl) (.eqd ?_)
  rotate_left
  all_goals (first|rfl|(obtain⟨hg1,hv⟩:=hg1;rw[List.append_nil] at hg1;subst hg1;rw[hv]))
theorem zfb {pre rest l:List Cl}{y:Cl}{k:Int} (h:pre++y::rest=l):((mkL Cl.one Cl.szM k l).map Cl.c)[pre.length]?=some (Cl.c (Cl.one (k+szL Cl.szM pre) y)):=zrb h
theorem zc3 {l:List Cl}{k:Int} (h0:0<k) (h1:k+szL Cl.szM l≤1000000000000) (hok:ClsOk l):
  FnD Tryz.prog 22 [.d (za6 (mkL Cl.one Cl.szM k l)),.d (.i k)] [] (.d (.i (k+szL Cl.szM l))) []:=by
 have hl:=hok.1
 have hcall:∀(y:Cl) (v:Int) (q:Int),y∈l→v=q→0<v→v+5+szL Pat.szM y.pat.kids≤1000000000000→FnD Tryz.prog 59 [.d (zaf (Cl.one q y).pat.kids),.d (.i (v+1+1+1+1+1))] [] (.d (.i (v+1+1+1+1+1+szL Pat.szM y.pat.kids))) []:=fun y v q hy e h2 h3=>by
  subst e
  show FnD Tryz.prog 59 [.d (zaf (Pat.one v y.pat).kids),_] [] _ []
  rw[Pat.one_kids]
  have ho:=(Pat.ok_iff y.pat).1 (hok.2 y hy)
  exact ze6 _ (Nat.lt_succ_self _) (by omega) (by omega) ho.1 ho.2
 refine bd Tryz.f22 103 [] [] fun w0 F0 own kept hk=>?_
 refine CWp.loopX (ι:=List (Cl)×List (Cl)×(Int)) hk (fun x=>[(5,.d (.i (x.1.length:Int))),(1,.d (.i x.2.2))]) [4,6,7,8,9,10,11,12,13,14,15,16,17,18,19,20,21,22,23,24,25,26,27,28,29,30,31,32,33,34,35,36,37,38,39,40,41,42,43,44,45,46,47,48,49,50,51,52,53,54,55,56,57,58,59,60,61,62,63,64,65,66,67,68,69,70,71,72,73,74,75,76,77,78,79,80,81,82,83,84,85,86,87,88,89,90,91,92,93,94,95,96,97,98,99,100,101] (fun x=>[]) (fun x=>x.1++x.2.1=l∧x.2.2=k+szL Cl.szM x.1) (fun x=>x.2.1.length) ([],l,k) ⟨by simp,by simp[szL]⟩ ⟨⟨_,rfl,LeA.eqi ?_⟩,⟨⟨_,rfl,LeA.eqi ?_⟩,trivial⟩⟩ trivial (fun x=>rfl) (fun x hg1=>?_)
 iterate 2 focus (first|rfl|(simp;done)|omega|(refine Eq.trans (b:=v+Cl.szM y) ?_ rfl;omega))
 obtain⟨pre,rest,v⟩:=x
 dsimp only at hg1 ⊢
 refine evc [] [] ?_
 refine sq (fun h1 h1p h1s=>?_) fun h1 h1p h1s=>?_
 try simp only[Q,zap] at h1p
 rcases rest with _|⟨y,rest⟩
 ·exfalso;simp_all
 have hsp:=zd5 (sz:=Cl.szM) hg1.1;have hnn:=zaT (l:=rest) Cl.szM_nn;have hnp:=zaT (l:=pre) Cl.szM_nn;have hys:=Cl.szM_kids y;have hya:=zaT (l:=y.pat.kids) Pat.szM_nn;have hv:=hg1.2
 refine Walk.idx sl28 .none rfl rfl rfl rfl (zfb hg1.1) rfl ?_
 refine ev ?_
 refine sq (fun h2 h2p h2s=>?_) fun h2 h2p h2s=>?_
 try simp only[Q,zap] at h2p
 exfalso;revert h2;simp[Cl.one,Pat.one_sc,hv]
 try simp only[Q,zap] at h2p
 refine ar ?_
 refine Walk.idx sl28 .none rfl rfl rfl rfl (zfb hg1.1) rfl ?_
 refine ev ?_
 refine sq (fun h3 h3p h3s=>?_) fun h3 h3p h3s=>?_
 try simp only[Q,zap] at h3p
 exfalso;revert h3;simp[Cl.one,Pat.one_sc,hv]
 try simp only[Q,zap] at h3p
 refine ar ?_
 refine Walk.idx sl28 .none rfl rfl rfl rfl (zfb hg1.1) rfl ?_
 refine ev ?_
 refine sq (fun h4 h4p h4s=>?_) fun h4 h4p h4s=>?_
 try simp only[Q,zap] at h4p
 exfalso;revert h4;simp[Cl.one,Pat.one_sc,hv]
 try simp only[Q,zap] at h4p
 refine ar ?_
 refine Walk.idx sl28 .none rfl rfl rfl rfl (zfb hg1.1) rfl ?_
 refine ev ?_
 refine sq (fun h5 h5p h5s=>?_) fun h5 h5p h5s=>?_
 try simp only[Q,zap] at h5p
 exfalso;revert h5;simp[Cl.one,Pat.one_sc,hv]
 try simp only[Q,zap] at h5p
 refine ar ?_
 refine Walk.idx sl28 .none rfl rfl rfl rfl (zfb hg1.1) rfl ?_
 refine ev ?_
 refine sq (fun h6 h6p h6s=>?_) fun h6 h6p h6s=>?_
 try simp only[Q,zap] at h6p
 exfalso;revert h6;simp[Cl.one,Pat.one_sc,hv]
 try simp only[Q,zap] at h6p
 refine ar ?_
 refine Walk.idx sl28 .none rfl rfl rfl rfl (zfb hg1.1) rfl ?_
 refine ev ?_
 refine wc zsf (hcall y v _ (by rw[←hg1.1];simp) hv (by omega) (by omega)) rfl rfl ?_
 refine ev ?_
 refine sq (fun h7 h7p h7s=>?_) fun h7 h7p h7s=>?_
 try simp only[Q,zap] at h7p
 exfalso;omega
 try simp only[Q,zap] at h7p
 refine Walk.idx sl28 .none rfl rfl rfl rfl (zfb hg1.1) rfl ?_
 refine ev ?_
 refine sq (fun h8 h8p h8s=>?_) fun h8 h8p h8s=>?_
 try simp only[Q,zap] at h8p
 exfalso;revert h8;simp[Cl.one,hv]
 try simp only[Q,zap] at h8p
 refine ar ?_
 refine Walk.idx sl28 .none rfl rfl rfl rfl (zfb hg1.1) rfl ?_
 refine ev ?_
 refine sq (fun h9 h9p h9s=>?_) fun h9 h9p h9s=>?_
 try simp only[Q,zap] at h9p
 exfalso;revert h9;simp[Cl.one,hv]
 try simp only[Q,zap] at h9p
 refine ar ?_
 refine Walk.idx sl28 .none rfl rfl rfl rfl (zfb hg1.1) rfl ?_
 refine ev ?_
 refine sq (fun h10 h10p h10s=>?_) fun h10 h10p h10s=>?_
 try simp only[Q,zap] at h10p
 exfalso;revert h10;simp[Cl.one,hv]
 try simp only[Q,zap] at h10p
 refine ar ?_
 refine ar ?_
 refine Exists.intro ((pre++[y],rest,v+Cl.szM y)) ⟨⟨(by have hz:=hg1.1;rw[←hz];simp),(by show v+Cl.szM y=_;rw[zcL,hg1.2];omega)⟩,(by simp),sx ⟨⟨_,rfl,LeA.eqi ?_⟩,⟨⟨_,rfl,LeA.eqi ?_⟩,trivial⟩⟩ trivial⟩
 iterate 2 focus (first|rfl|(simp;done)|omega|(refine Eq.trans (b:=v+Cl.szM y) ?_ rfl;omega))
 try simp only[Q,zap] at h1p
 have hrest:rest=[]:=by
  rcases rest with _|⟨a,b⟩
  ·rfl
  ·exfalso;have hz:=congrArg List.length (hg1.1);simp only[List.length_append,List.length_cons,List.length_map] at hz;omega
 subst hrest
 refine rn0 (r1 rfl) (.eqd ?_)
 rotate_left
 all_goals (first|rfl|(obtain⟨hg1,hv⟩:=hg1;rw[List.append_nil] at hg1;subst hg1;rw[hv]))
end Go.Proofs.YtcnjkjdmbnhcaaaGreat
