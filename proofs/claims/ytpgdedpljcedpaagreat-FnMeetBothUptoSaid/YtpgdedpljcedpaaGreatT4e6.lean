/-
  THE ABSTRACT WALK AND THE WALKS, part 6 of 7: the parts F94, F95, F39, F96, F121, F126, F127, F124, L44, Wrap, Dec, L45.
-/
import Derived.Test.YtpgdedpljcedpaaGreatT4e5
namespace Go.Proofs.YtpgdedpljcedpaaGreat
open Go
set_option linter.unusedSimpArgs false
set_option linter.unusedVariables false
set_option maxRecDepth 100000
set_option maxHeartbeats 2000000
theorem ziX {b:Str}{w:List Data} (hb:b.length≤2000) (hd:Dp w) (hf:Few w):∀(n:Nat){a k m:Int}{p:Nat},Deep w n ⟨a,k⟩ m→(n:Int)-10≤m→n≤5→p+bdV n≤1000000→
  FnD Tryz.prog 189 [.ref 900 0,.d (zam w),.d (zeX (w.length*4) (zai w)),.agg [.d (.i a),.d (.i k)],.d (.i m)] [(900,some (rdB b p))]
   (.agg [.d (.i (zbU b w (zai w) n ⟨a,k⟩ m p).1.ctor),.d (.i (zbU b w (zai w) n ⟨a,k⟩ m p).1.num),.d (zbJ (zbU b w (zai w) n ⟨a,k⟩ m p).1.kids)]) [(900,some (rdB b (zbU b w (zai w) n ⟨a,k⟩ m p).2))]
 |0,a,k,m,p,h,_,_,_=>by have:=h.pos;have:=h.le;omega
 |n+1,a,k,m,p,h,hm,hn5,hp=>by
  have ht:=zb3 h.ins;have hml:=h.ml;have h4:=hd.four;have hbd:bdV (n+1)=1+3*bdV n:=rfl;have hfb:∀s,zai w s≤100000:=zot hd (k:=w.length*4+1) (s:=0) (by omega) (by omega) (pre:=[]) (by simp);have hcl:=zhq hd.wt ht;have hfl:(zb9 w (zai w) ⟨a,k⟩ m).length≤(zah w ⟨a,k⟩).length:=List.length_filter_le _ _;have hflm:((((zah w ⟨a,k⟩).filter (zeH w (zai w) ⟨a,k⟩ m)).map fun n=>[D.i n]).length:Int)=(zb9 w (zai w) ⟨a,k⟩ m).length:=by rw[xac];rfl
  have hfp:=fun hne=>zqP hd h hne;have v14:=fun hh=>zc3 (b:=b) (p:=p) (n:=((zb9 w (zai w) ⟨a,k⟩ m).length:Int)) hh;have hmem:=fun hne=>zpw hd h hne b p;have hdm:=zwV (b:=b) (w:=w) (f:=zai w) (n:=n) (p:=p) (t:=⟨a,k⟩) (m:=m);have hdm2:=fun hne=>zwW (b:=b) (w:=w) (f:=zai w) (n:=n) (p:=p) (t:=⟨a,k⟩) (m:=m) hne rfl;generalize hcc:nth (zb9 w (zai w) ⟨a,k⟩ m) (zaz b p (zb9 w (zai w) ⟨a,k⟩ m).length).toNat=cc at *;have hfm:=fun hne=>zkm (hmem hne);have hkid:=fun hne=>zqJ hd h (hmem hne);have hfw:=fun hne=>(hf ⟨a,k⟩ cc (hfm hne).1 ht).1;have hok:=fun u q hu=>zjf (b:=b) hd hf n u (m-1) q hu;have hat:¬a = -1→(((zah w ⟨a,k⟩).filter (zeH w (zai w) ⟨a,k⟩ m)).map fun n=>[D.i n])[(zaz b p (zb9 w (zai w) ⟨a,k⟩ m).length).toNat]?=some [D.i cc]:=fun hne=>by
   rw[←hcc];exact zav (l:=zb9 w (zai w) ⟨a,k⟩ m) (by have:=v14 (by have:=hfp hne;omega);omega)
  refine bd Tryz.f189 98 [] [9,11] fun w0 F0 own kept hk=>?_;refine bx 3008 ?_;refine ab 3010 tz44 ?_;refine tv ?_;refine sq ?_ ?_<;>intro h1 h1p h1s;try simp only[Q] at h1p
  refine wd zdw (zbl (p:=p) (n:=10) hb (by omega) (by omega)) rfl rfl ⟨rfl,trivial⟩ ?_;refine bu [0,1] [_,_] st44 ?_;refine so ty44 ?_;refine tv ?_;refine rn [(900,some (rdB b (zbU b w (zai w) (n+1) ⟨a,k⟩ m p).2))] (.cons (.cellA ty44 rfl rfl rfl) .nil) (.agg (.cons (.eqd ?_) (.cons (.eqd ?_) (.cons (.nild ?_) .nil)))) ⟨rfl,rfl⟩ (SubO.get ⟨.inr ?_,⟨.inl rfl,trivial⟩⟩) (zaA rfl);rotate_left 4;try simp only[Q] at h1p
  refine wc zh6 (zb8 hd.wt ht) rfl rfl ?_;refine ev ?_;refine xbh 5 sl62 .none rfl rfl ?_;refine ev ?_;refine xaj (ι:=List (Int)×List (Int)) hk (fun x=>[(13,.d (.i (x.1.length:Int))),(12,.gl 5 ((x.1.filter (zeH w (zai w) ⟨a,k⟩ m)).map fun n=>[D.i n]))]) [14,28,29,30,31,32,33,34,35,36,37,38,39,40,41,42,43,44,45,46,47,48,49,50,51,52,53,54,55,56,57,58,59,60,61,62] (fun x=>[(5,some (.tok (((x.1.filter (zeH w (zai w) ⟨a,k⟩ m)).map fun n=>[D.i n])).length 1))]) (fun x=>x.1++x.2=zah w ⟨a,k⟩) (fun x=>x.2.length) ([],zah w ⟨a,k⟩) (by simp) ⟨⟨_,rfl,xap ?_⟩,⟨⟨_,rfl,LeA.glg ?_⟩,trivial⟩⟩ ⟨zab ?_,trivial⟩ (fun x=>rfl) (fun x hg1=>?_);iterate 3 focus (rfl)
  obtain⟨pre,rest⟩:=x;dsimp only at hg1 ⊢;refine evc [] [9,11] ?_;refine sq ?_ ?_<;>intro h2 h2p h2s;try simp only[Q] at h2p
  rcases rest with _|⟨y,rest⟩
  ·exfalso;simp_all
  refine xaT sl62 .none rfl rfl rfl rfl (zaK hg1) rfl ?_;refine evd [] [] ?_;refine wc zws (zoE hd.wt ht (c:=y) (by rw[←hg1];simp) (by omega) hfb (zbn hd h.ins (by rw[←hg1];simp))) rfl rfl ?_;refine evd [] [] ?_;refine dr ?_;refine xak ?_;refine xay 14 [(55,.d (.bool (zeH w (zai w) ⟨a,k⟩ m y)))] [42,43,44,45,46,47,48,49,50,51,52,53,54] ?_ ?_;refine ev ?_;refine sq ?_ ?_<;>intro h3 h3p h3s;try simp only[Q] at h3p
  refine sq ?_ ?_<;>intro h4 h4p h4s;try simp only[Q] at h4p
  focus (exact jn rfl (xao (by(unfold zeH;rw[Bool.eq_iff_iff];simp_all;done))))
  try simp only[Q] at h4p
  refine Walk.call (cr:=[]) zj6 (zeh h.ins (by omega)) rfl (.some rfl rfl h4) rfl rfl (LeL.refl _) trivial rfl rfl rfl ?_;refine evs [] [(44,true),(48,false)] ?_ ⟨⟨_,rfl,h3⟩,⟨_,rfl,h4⟩,trivial⟩;focus (exact jn rfl (xao (by(unfold zeH;rw[Bool.eq_iff_iff];simp_all;omega))))
  try simp only[Q] at h3p
  focus (exact jn rfl (xao (by(unfold zeH;rw[Bool.eq_iff_iff];simp_all;done))))
  refine xax ?_;refine tv ?_;refine sq ?_ ?_<;>intro h5 h5p h5s;try simp only[Q] at h5p
  refine xaT sl62 .none rfl rfl rfl rfl (zaK hg1) rfl ?_;refine ev ?_;refine si [0] [_] sl62 tz3 ?_;refine ap sl62 zz3 rfl rfl rfl (by simp) (by(have hz:=congrArg List.length hg1;have hq:=List.length_filter_le (zeH w (zai w) ⟨a,k⟩ m) pre;simp at hz ⊢;omega)) ?_;refine ev ?_;refine ar ?_;refine Exists.intro ((pre++[y],rest)) ⟨(by have hz:=hg1;rw[←hz];simp),(by simp),sx ⟨⟨_,rfl,xap ?_⟩,⟨⟨_,rfl,LeA.glg ?_⟩,trivial⟩⟩ ⟨zab ?_,trivial⟩⟩;iterate 3 focus (first|(simp;done)|(rw[zqQ (by assumption)];all_goals rfl)|(rw[zqQ (by assumption)];simp;done))
  try simp only[Q] at h5p
  refine ar ?_;refine Exists.intro ((pre++[y],rest)) ⟨(by have hz:=hg1;rw[←hz];simp),(by simp),sx ⟨⟨_,rfl,xap ?_⟩,⟨⟨_,rfl,LeA.glg ?_⟩,trivial⟩⟩ ⟨zab ?_,trivial⟩⟩;iterate 3 focus (first|(simp;done)|(rw[zwX (by assumption)];all_goals rfl))
  try simp only[Q] at h2p
  have hrest:rest=[]:=by
   rcases rest with _|⟨a,b⟩
   ·rfl
   ·exfalso;have hz:=congrArg List.length (hg1);simp only[xaa,xab,xac] at hz;omega
  subst hrest;rw[List.append_nil] at hg1;subst hg1;refine evc [] [] ?_;refine wd zdw (zbl (p:=p) (n:=((((zah w ⟨a,k⟩).filter (zeH w (zai w) ⟨a,k⟩ m)).map fun n=>[D.i n]).length:Int)) hb (by omega) (by omega)) rfl rfl ⟨rfl,trivial⟩ ?_;refine xaW (i:=(zaz b p (zb9 w (zai w) ⟨a,k⟩ m).length).toNat) sl62 .none rfl rfl rfl (by rw[hflm];have:=v14 (by have:=hfp (by omega);omega);omega) (hat (by omega)) rfl ?_;refine ev ?_;refine bu [0] [_] st44 ?_;refine ab 3015 tz44 ?_;refine so ty44 ?_;refine tv ?_;refine wc zgD (zck hd.wt ht (hfm (by omega)).1) rfl rfl ?_;refine ev ?_;refine xam 3015 2 1 3 rfl rfl rfl rfl ?_;refine xaj (ι:=List (Ty)×List (Ty)×(Nat)×(List Val)) hk (fun x=>[(17,.d (.i (x.1.length:Int)))]) [76,77,78,79,80,81,82,83,84,85,86,87,88,89,90,91,92,93,94,95,96] (fun x=>[(900,some (.box [.d (zcG b),.d (.i (x.2.2.1:Int))])),(3015,some (.box [.d (.i cc),.d (.i 0),.gl 1 (x.2.2.2.map Val.cc)])),(1,some (.tok (x.2.2.2.map Val.cc).length 3))]) (fun x=>x.1++x.2.1=zaa w ⟨a,k⟩ cc∧x.2.2.1≤p+1+x.1.length*bdV n∧x.2.2.2.length=x.1.length∧(x.2.2.2++(dV (dW b w n m) x.2.1 x.2.2.1).1,(dV (dW b w n m) x.2.1 x.2.2.1).2)=dV (dW b w n m) (zaa w ⟨a,k⟩ cc) (p+1)) (fun x=>x.2.1.length) ([],zaa w ⟨a,k⟩ cc,p+1,[]) ⟨by simp,by simp,by simp,by simp⟩ ⟨⟨_,rfl,xap ?_⟩,trivial⟩ ⟨?_,⟨?_,⟨zab ?_,trivial⟩⟩⟩ (fun x=>rfl) (fun x hg2=>?_);focus (rfl)
  iterate 2 focus (first|rfl|(simp[getH];done))
  focus (rfl)
  obtain⟨pre,rest,q,ks⟩:=x;dsimp only at hg2 ⊢;refine evc [] [9,11] ?_;refine sq ?_ ?_<;>intro h6 h6p h6s;try simp only[Q] at h6p
  rcases rest with _|⟨y,rest⟩
  ·exfalso;simp_all
  have hfw3:=hfw (by omega);have hpm:pre.length*bdV n≤2*bdV n:=Nat.mul_le_mul_right _ (by have hz:=congrArg List.length hg2.1;have:=hfw (by omega);simp at hz;omega);refine xaT zaZ .none rfl rfl rfl rfl (zaK hg2.1) rfl ?_;refine evd [] [] ?_;refine ar ?_;refine wd zqB (ziX hb hd hf n (a:=y.data) (k:=y.index) (m:=m-1) (p:=q) (hkid (by omega) y (by rw[←hg2.1];simp)) (by omega) (by omega) (by omega)) rfl rfl ⟨rfl,trivial⟩ ?_;refine si [0] [_] sl37 tz44 ?_;refine ap sl37 zz44 rfl rfl rfl (by simp) (by(have hz:=congrArg List.length hg2.1;have:=hfw (by omega);simp at hz ⊢;omega)) ?_;refine evd [] [] ?_;refine so ty37 ?_;refine dr ?_;refine ar ?_;refine Exists.intro ((pre++[y],rest,(zbU b w (zai w) n y (m-1) q).2,ks++[(zbU b w (zai w) n y (m-1) q).1])) ⟨⟨(by have hz:=hg2.1;rw[←hz];simp),⟨(by have:=(hok y q (hkid (by omega) y (by rw[←hg2.1];simp))).1;simp only[xaa,xab,xah,Nat.add_mul];omega),(by simp[hg2.2.2.1]),(by rw[←hg2.2.2.2];simp[dV])⟩⟩,(by simp),sx ⟨⟨_,rfl,xap ?_⟩,trivial⟩ ⟨?_,⟨?_,⟨zab ?_,trivial⟩⟩⟩⟩;focus ((simp;done))
  iterate 2 focus (first|rfl|(simp[getH];done))
  focus ((simp;done))
  try simp only[Q] at h6p
  have hrest:rest=[]:=by
   rcases rest with _|⟨a,b⟩
   ·rfl
   ·exfalso;have hz:=congrArg List.length (hg2.1);simp only[xaa,xab,xac] at hz;omega
  subst hrest;refine so ty44 ?_;refine tv ?_;refine rn [(900,some (rdB b (zbU b w (zai w) (n+1) ⟨a,k⟩ m p).2))] (.cons (.cellA ty44 rfl rfl rfl) .nil) (.agg (.cons (.eqd ?_) (.cons (.eqd ?_) (.cons (.gld ?_) .nil)))) ⟨rfl,rfl⟩ (SubO.get ⟨.inr ?_,⟨.inl rfl,trivial⟩⟩) (zaA rfl);rotate_left 4;all_goals (((first|(rw[hdm (by omega)];all_goals rfl)|(rw[hdm2 (by omega)];have hfin:=hg2.2.2.2;simp only[dV,List.append_nil] at hfin;rw[←hfin];all_goals first|rfl|(show _=D.sl (Val.cs _);rw[Val.cs_cc];all_goals rfl)|(show _=Val.cs _;rw[Val.cs_cc];all_goals rfl)));done))
def zfY (b:Str) (p:Nat):Ty:=⟨zaz b (p+1) (za6 b p).length,numV b (p+2) [0,0,1,2]⟩
def typT (b:Str) (p:Nat):Ty:=if dv (zai (za6 b p)) (zfY b p)=0 then ⟨-1,0⟩ else zfY b p
def typV (b:Str) (p:Nat):Val×Nat:=zbU b (za6 b p) (zai (za6 b p)) 4 (typT b p) (numV b (p+3) [3,2,4,1]) (p+4)
theorem zye {n:Nat}{a k:Int} (h1:0≤a) (h2:a<n) (h3:0≤k) (h4:k≤3):InS (n*4) ⟨a,k⟩:=by
 refine .inr ⟨?_, ?_⟩
 ·simp only[zcv];omega
 ·obtain⟨i,rfl⟩:=Int.eq_ofNat_of_zero_le h1;obtain⟨m,rfl⟩:=Int.eq_ofNat_of_zero_le h3;simp only[zcv,Int.toNat_natCast];exact zhZ (by omega)
theorem zw5 (b:Str) (p:Nat):0≤numV b p [0,0,1,2]∧numV b p [0,0,1,2]≤3:=by
 have:=zmj (b:=b) (p:=p) (l:=[0,0,1,2]) (by simp);simp only[List.mem_cons,List.not_mem_nil,or_false] at this;omega
theorem zrQ (b:Str) (p:Nat):InS ((za6 b p).length*4) (zfY b p):=by
 have h1:=zc3 (b:=b) (p:=p+1) (n:=((za6 b p).length:Int)) (by have:=(zgV b p).one;omega);have h2:=zw5 b (p+2);exact zye h1.1 h1.2 h2.1 h2.2
theorem zk4 (b:Str) (p:Nat):Deep (za6 b p) 4 (typT b p) (numV b (p+3) [3,2,4,1]):=by
 have hl:=zd2 b p;have h4:=num4 b (p+3);unfold typT;split
 ·exact⟨.inl rfl,by simp[dv],by simp[dv],by omega⟩
 ·rename_i h;have:=zqb (f:=zai (za6 b p)) (b:=3) hl.low (by omega) (zfY b p);exact⟨zrQ b p,by omega,by omega,by omega⟩
theorem zs1 (b:Str) (p:Nat):(typV b p).2≤p+44∧(typV b p).1.size≤121∧(typV b p).1.ok:=by
 have hl:=zd2 b p;have h:=zjf (b:=b) hl.dp hl.few 4 (typT b p) (numV b (p+3) [3,2,4,1]) (p+4) (zk4 b p);have e1:bdV 4=40:=by decide
 have e2:szV 4=121:=by decide
 unfold typV;exact⟨by omega,by omega,h.2.2⟩
theorem znR {b:Str}{p:Nat} (hb:b.length≤2000) (hp:p≤100000):
  FnD Tryz.prog 144 [.ref 900 0] [(900,some (rdB b p))] (.tup [.d (zam (za6 b p)),.agg [.d (.i (typT b p).data),.d (.i (typT b p).index)],.agg [.d (.i (typV b p).1.ctor),.d (.i (typV b p).1.num),.d (zbJ (typV b p).1.kids)]]) [(900,some (rdB b (typV b p).2))]:=by
 have ho:=zgV b p;have hl:=zd2 b p;have h4:=num4 b (p+3);have hin:=zrQ b p;have hdeep:=zk4 b p;have hT:typT b p=if dv (zai (za6 b p)) (zfY b p)=0 then ⟨-1,0⟩ else zfY b p:=rfl
 have hV:typV b p=zbU b (za6 b p) (zai (za6 b p)) 4 (typT b p) (numV b (p+3) [3,2,4,1]) (p+4):=rfl;have e1:bdV 4=40:=by decide
 have hwd:=znQ (p:=p) hb (by omega);have hpk:=zbl (b:=b) (p:=p+1) (n:=(((za6 b p).map Data.c).length:Int)) hb (by omega) (by have:=ho.small.len;simp;omega);rw[show zaz b (p+1) (((za6 b p).map Data.c).length:Int)=(zfY b p).data by rw[xac];rfl] at hpk;have hnu:=zcT (b:=b) (p:=p+2) (l:=[0,0,1,2]) hb (by omega) (by simp) (by simp);rw[show numV b (p+2) [0,0,1,2]=(zfY b p).index from rfl] at hnu;have hdr:=fun(t:Ty) (h:Deep (za6 b p) 4 t (numV b (p+3) [3,2,4,1]))=>ziX hb hl.dp hl.few 4 (a:=t.data) (k:=t.index) (p:=p+4) h (by omega) (by omega) (by omega);have hdp:=zeh (f:=zai (za6 b p)) (a:=(zfY b p).data) (k:=(zfY b p).index) hin (by have:=hl.dp.four;omega);have htb:=zim hl.dp;generalize za6 b p=w at *;generalize zfY b p=t0 at *;obtain⟨a0,k0⟩:=t0;have hdr2:=hdr ⟨-1,0⟩;have hdr3:=hdr ⟨a0,k0⟩;clear hdr;dsimp only at hT hV hdr2 hdr3;refine bd Tryz.f144 35 [] [] fun w0 F0 own kept hk=>?_;refine ab 3003 tz25 ?_;refine ab 3004 tz44 ?_;refine tv ?_;refine wd zxS (hwd) rfl rfl ⟨rfl,trivial⟩ ?_;refine ev ?_;refine wc zta (htb) rfl rfl ?_;refine ev ?_;refine wd zdw (hpk) rfl rfl ⟨rfl,trivial⟩ ?_;refine ev ?_;refine si [0,1,2,3] [_,_,_,_] sl62 tz3 ?_;refine wd zh5 (hnu) rfl rfl ⟨rfl,trivial⟩ ?_;refine bu [0,1] [_,_] st25 ?_;refine ab 3007 tz25 ?_;refine so ty25 ?_;refine tv ?_;refine wc zj6 (hdp) rfl rfl ?_;refine ev ?_;refine sq ?_ ?_<;>intro h1 h1p h1s;try simp only[Q] at h1p
 have HDR:=hdr2 (by rw[if_pos (by omega)] at hT;rw[←hT];exact hdeep);refine bu [0] [_] st25 ?_;refine so ty25 ?_;refine tv ?_;refine si [0,1,2,3] [_,_,_,_] sl62 tz3 ?_;refine wd zh5 (zcT (b:=b) (p:=p+3) (l:=[3,2,4,1]) hb (by omega) (by simp) (by simp)) rfl rfl ⟨rfl,trivial⟩ ?_;refine wd zqB (HDR) rfl rfl ⟨rfl,trivial⟩ ?_;refine evd [] [] ?_;refine so ty25 ?_;refine so ty44 ?_;refine dr ?_;refine rn [(900,some (rdB b (typV b p).2))] (.cons (.tmp rfl) (.cons (.cellA ty25 rfl rfl rfl) (.cons (.cellA ty44 rfl rfl rfl) .nil))) (.tup (.cons (.eqd ?_) (.cons (.agg (.cons (.eqd ?_) (.cons (.eqd ?_) .nil))) (.cons (.agg (.cons (.eqd ?_) (.cons (.eqd ?_) (.cons (.eqd ?_) .nil)))) .nil)))) ⟨rfl,rfl⟩ (SubO.get ⟨.inr ?_,⟨.inl rfl,trivial⟩⟩) (zaA rfl);rotate_left 7;try simp only[Q] at h1p
 have HDR:=hdr3 (by rw[if_neg (by omega)] at hT;rw[←hT];exact hdeep);refine si [0,1,2,3] [_,_,_,_] sl62 tz3 ?_;refine wd zh5 (zcT (b:=b) (p:=p+3) (l:=[3,2,4,1]) hb (by omega) (by simp) (by simp)) rfl rfl ⟨rfl,trivial⟩ ?_;refine wd zqB (HDR) rfl rfl ⟨rfl,trivial⟩ ?_;refine evd [] [] ?_;refine so ty25 ?_;refine so ty44 ?_;refine dr ?_;refine rn [(900,some (rdB b (typV b p).2))] (.cons (.tmp rfl) (.cons (.cellA ty25 rfl rfl rfl) (.cons (.cellA ty44 rfl rfl rfl) .nil))) (.tup (.cons (.eqd ?_) (.cons (.agg (.cons (.eqd ?_) (.cons (.eqd ?_) .nil))) (.cons (.agg (.cons (.eqd ?_) (.cons (.eqd ?_) (.cons (.eqd ?_) .nil)))) .nil)))) ⟨rfl,rfl⟩ (SubO.get ⟨.inr ?_,⟨.inl rfl,trivial⟩⟩) (zaA rfl);rotate_left 7;all_goals (first|((first|(rw[if_pos (by omega)] at hT;rw[hV,hT];all_goals rfl)|(rw[if_neg (by omega)] at hT;rw[hV,hT];all_goals rfl)|(rw[if_pos (by omega)] at hT;rw[hT];all_goals rfl)|(rw[if_neg (by omega)] at hT;rw[hT];all_goals rfl)|rfl);done)|(first|(rw[if_pos (by omega)] at hT;rw[hV,hT];all_goals rfl)|(rw[if_neg (by omega)] at hT;rw[hV,hT];all_goals rfl)))
structure CaseW (w:List Data):Prop where
 small:WSmall w
 valid:za7 w=true
 one:1≤w.length
 ct:∀k:Int,k=0∨k=1∨k=2→1≤(zah w ⟨0,k⟩).length
theorem xau:∀l:List Pat,l.length≤Pats.size l
 | []=>Nat.zero_le _
 |v::r=>by
  have:=xau r;have h:=Pat.size_eq v;simp only[xab,Pats.size];omega
theorem zsV {x:Pat} (hx:x.ok):∀ {l:List Pat}{i:Nat},Pats.ok l→Pats.ok (l.set i x)
 | [],_,_=>by simp[Pats.ok]
 |y::r,0,h=>⟨hx,h.2⟩
 |y::r,i+1,h=>⟨h.1,zsV hx h.2⟩
theorem zse {x:Pat} (hx:x.ok):∀ {l:List Pat},Pats.ok l→Pats.ok (l++[x])
 | [],_=>⟨hx,trivial⟩
 |y::r,h=>⟨h.1,zse hx h.2⟩
theorem zsW {x:Pat}:∀ {l:List Pat}{i:Nat},Pats.size (l.set i x)≤Pats.size l+x.size
 | [],_=>by simp[Pats.size]
 |y::r,0=>by simp only[List.set_cons_zero,Pats.size];omega
 |y::r,i+1=>by have:=zsW (x:=x) (l:=r) (i:=i);simp only[List.set_cons_succ,Pats.size];omega
theorem zw3 {b:Str}{p:Pat}{q:Nat} (hs:p.size≤1000) (hok:p.ok):(mutP b p q).1.size≤2000∧(mutP b p q).1.ok:=by
 have hv:zcQ.size=1∧zcQ.ok:=⟨by rw[Pat.size_eq];rfl,by rw[Pat.ok_iff];exact⟨by simp[zcQ,Pat.kids],trivial⟩⟩;have h0:=Pat.size_eq p;rw[Pat.ok_iff] at hok;have same:∀a c n m v:Int,(Pat.mk a c n m v p.kids).size≤2000∧(Pat.mk a c n m v p.kids).ok:=fun a c n m v=>by
  refine⟨by rw[Pat.size_eq];show 1+Pats.size p.kids≤_;omega,by rw[Pat.ok_iff];exact hok⟩
 unfold mutP;split;exact same _ _ _ _ _
 split;exact same _ _ _ _ _
 split;exact same _ _ _ _ _
 split
 ·refine⟨?_, ?_⟩
  ·dsimp only;rw[Pat.size_eq];show 1+Pats.size (p.kids++[zcQ])≤_;rw[xav];omega
  ·dsimp only;rw[Pat.ok_iff];refine⟨?_,zse hv.2 hok.2⟩;show(p.kids++[zcQ]).length≤_
   have:=xau p.kids;simp only[xaa,List.length_singleton];omega
 split
 ·refine⟨?_, ?_⟩
  ·dsimp only;rw[Pat.size_eq];show 1+Pats.size (p.kids.set 0 zcQ)≤_;have:=zsW (x:=zcQ) (l:=p.kids) (i:=0);omega
  ·dsimp only;rw[Pat.ok_iff];exact⟨by show(p.kids.set 0 zcQ).length≤_;rw[List.length_set];exact hok.1,zsV hv.2 hok.2⟩
 split;exact same _ _ _ _ _
 exact same _ _ _ _ _
def typP (b:Str) (p:Nat):Pat:=zb7 b (za6 b p) (typT b p) (typV b p).2
def typQ (b:Str) (p:Nat):Nat:=(zc4 b (za6 b p) (typT b p) (typV b p).2).2.2
theorem zi2 (b:Str) (p:Nat):TyIn (za6 b p).length (typT b p):=zb3 (zk4 b p).ins
theorem zoM (b:Str) (p:Nat):(typP b p).size≤242∧(typP b p).ok∧typQ b p≤p+600:=by
 have hl:=zd2 b p;have h1:=znF (b:=b) hl.few (zi2 b p) (typV b p).2;have h2:=zkL (b:=b) hl.few (zi2 b p) (typV b p).2;have h3:=zs1 b p;exact⟨h1.1,h1.2,by unfold typQ;omega⟩
theorem znV {b:Str}{p:Nat} (hb:b.length≤2000) (hp:p≤10000):
  FnD Tryz.prog 89 [.ref 900 0] [(900,some (rdB b p))] (.tup [.d (zam (za6 b p)),.agg [.d (.i (typT b p).data),.d (.i (typT b p).index)],
   .agg [.d (.i (typP b p).op),.d (.i (typP b p).ctor),.d (.i (typP b p).n),.d (.i (typP b p).m),.d (.i (typP b p).var),.d (zad (typP b p).kids)],
   .agg [.d (.i (typV b p).1.ctor),.d (.i (typV b p).1.num),.d (zbJ (typV b p).1.kids)]]) [(900,some (rdB b (typQ b p)))]:=by
 have hl:=zd2 b p;have hv:=zs1 b p;have ht:=zi2 b p;have hty:=znR (p:=p) hb (by omega);have hsm:=zi0 hb hl.dp.wt hl.few (a:=(typT b p).data) (k:=(typT b p).index) (p:=(typV b p).2) (by omega) ht;refine bd Tryz.f89 22 [] [] fun w0 F0 own kept hk=>?_;refine ab 3003 tz25 ?_;refine ab 3004 tz28 ?_;refine ab 3005 tz44 ?_;refine tv ?_;refine wd zxC (hty) rfl rfl ⟨rfl,trivial⟩ ?_;refine ev ?_;refine ab 3007 tz25 ?_;refine ab 3008 tz44 ?_;refine ev ?_;refine so ty25 ?_;refine so ty44 ?_;refine tv ?_;refine wd zwo (hsm) rfl rfl ⟨rfl,trivial⟩ ?_;refine evd [] [] ?_;refine so ty25 ?_;refine so ty28 ?_;refine so ty44 ?_;refine dr ?_;refine rn [(900,some (rdB b (typQ b p)))] (.cons (.tmp rfl) (.cons (.cellA ty25 rfl rfl rfl) (.cons (.cellA ty28 rfl rfl rfl) (.cons (.cellA ty44 rfl rfl rfl) .nil)))) (.tup (.cons (.eqd ?_) (.cons (.agg (.cons (.eqd ?_) (.cons (.eqd ?_) .nil))) (.cons (.agg (.cons (.eqd ?_) (.cons (.eqd ?_) (.cons (.eqd ?_) (.cons (.eqd ?_) (.cons (.eqd ?_) (.cons (.eqd ?_) .nil))))))) (.cons (.agg (.cons (.eqd ?_) (.cons (.eqd ?_) (.cons (.eqd ?_) .nil)))) .nil))))) ⟨rfl,rfl⟩ (SubO.get ⟨.inr ?_,⟨.inl rfl,trivial⟩⟩) (zaA rfl);rotate_left 13;all_goals (first|((rfl);done)|(rfl))
def wid (w:List Data) (u:Ty):Nat:=if u.data = -1 then 10 else (zah w u).length
def zgg (w:List Data):Bool:=(List.range (w.length*4)).all fun s=>decide (((zah w (tyS s)).map fun c=>zbf ((zaa w (tyS s) c).map fun u=>max 1 (wid w u))).sum≤400)
theorem zp2:((List.range 7).all fun i=>zgg (zdk (nth zdF i)).1)=true:=by kernel_rfl
theorem zpq {w:List Data} (h:zgg w=true){t:Ty} (ht:InS (w.length*4) t) (hd:t.data≠ -1):((zah w t).map fun c=>zbf ((zaa w t c).map fun u=>max 1 (wid w u))).sum≤400:=by
 rcases ht with h1|⟨h1,h2⟩
 ·exact absurd h1 hd
 ·have:=List.all_eq_true.1 h _ (List.mem_range.2 h1);rw[h2] at this;exact of_decide_eq_true this
theorem zjS (b:Str) (p:Nat):zgg (za6 b p)=true:=List.all_eq_true.1 zp2 (zaz b p 7).toNat (List.mem_range.2 (zqe b p))
def shal (p:Pat):Prop:=p.op=1∨p.op=3∨∃c l,p=zaY c l∧∀k∈l,k=anyQ
def zgy (p:Pat):Prop:=p.op=1∨p.op=3∨∃c l,p=zaY c l∧∀k∈l,shal k
def PosP (K:Pat→Prop):Prop:=(∀k,K k→shal k)∨∃x,zgy x∧¬shal x∧∀k,K k→k=x
def FormA (L:List Pat):Prop:=∀p∈L,zgy p
def FormB (L:List Pat):Prop:=∃(c:Int) (m:Nat) (K:Nat→Pat→Prop),(∀j,j<m→PosP (K j))∧∀p∈L,CSat K c m p
def Form (L:List Pat):Prop:=FormA L∨FormB L
theorem zrA:shal anyQ:= .inl rfl
theorem zyo {p:Pat} (h:shal p):zgy p:=by
 rcases h with h|h|⟨c,l,h1,h2⟩
 ·exact .inl h
 ·exact .inr (.inl h)
 ·exact .inr (.inr ⟨c,l,h1,fun k hk=>by rw[h2 k hk];exact zrA⟩)
theorem PosP.two {K:Pat→Prop} (h:PosP K){k:Pat} (hk:K k):zgy k:=by
 rcases h with h|⟨x,h1,_,h2⟩
 ·exact zyo (h k hk)
 ·rw[h2 k hk];exact h1
theorem PosP.one {K:Pat→Prop} (h:∀k k',K k→K k'→k=k') (h2:∀k,K k→zgy k):PosP K:=by
 by_cases hx:∃k,K k∧¬shal k
 ·obtain⟨k,h3,h4⟩:=hx;exact .inr ⟨k,h2 k h3,h4,fun k' h5=>h k' k h5 h3⟩
 ·exact .inl fun k hk=>Classical.byContradiction fun h3=>hx ⟨k,hk,h3⟩
theorem ztG {α:Type} [Inhabited α]{P:Int→Nat→Prop}{Q:Int→Nat→α→Prop} (h:∀c j,P c j→∃x,Q c j x):∃f:Int→Nat→α,∀c j,P c j→Q c j (f c j):=by
 classical
 exact⟨fun c j=>if hp:P c j then Classical.choose (h c j hp) else default,fun c j hp=>by simp only[dif_pos hp];exact Classical.choose_spec (h c j hp)⟩
theorem zrp:∀ {a b:List Nat},a.length=b.length→(∀i,i<a.length→nth a i≤nth b i)→zbf a≤zbf b
 | [],[],_,_=>Nat.le_refl _
 |x::a,y::b,h,hi=>Nat.mul_le_mul (hi 0 (by simp)) (zrp (a:=a) (b:=b) (by simpa using h) (fun i hi'=>hi (i+1) (by simpa using hi')))
 | [],_::_,h,_=>by simp at h
 |_::_,[],h,_=>by simp at h
theorem zoL {w:List Data}{c:Int}{us:List Ty}{Vs:Nat→List Val}{g:Ty→Nat} (h:∀j,j<us.length→(Vs j).length≤g (nth us j)):(zhl c us.length Vs).length≤zbf (us.map g):=by
 rw[zv9];refine zrp (by simp) (fun i hi=>?_);rw[xac,List.length_range] at hi;rw[zkE _ hi,zaP (by simpa using hi),List.getElem_map,←zaP hi];exact h i hi
theorem zrI {α:Type}{f g:α→Nat}:∀ {l:List α},(∀x∈l,f x≤g x)→(l.map f).sum≤(l.map g).sum
 | [],_=>Nat.le_refl _
 |x::r,h=>by
  simp only[xae,List.sum_cons];exact Nat.add_le_add (h x (by simp)) (zrI (fun y hy=>h y (by simp[hy])))
theorem znl {x:Nat}:∀ {l:List Nat},x∈l→x≤l.sum
 |a::r,h=>by
  rw[List.sum_cons];rcases List.mem_cons.1 h with rfl|h
  ·omega
  ·have:=znl h;omega
theorem zl3 {α β:Type}{f:α→List β}:∀ {l:List α},(l.flatMap f).length=(l.map fun x=>(f x).length).sum
 | []=>rfl
 |x::r=>by rw[List.flatMap_cons,xaa,xae,List.sum_cons,zl3]
section
variable {w:List Data} (hs:Spa w)
include hs
theorem zsX {t:Ty} (ht:InS (w.length*4) t):∃S V,V.length≤max 1 (wid w t)∧Grid w t S V∧(∀n p,zac w n t p=true→shal p→S p)∧S anyQ:=by
 by_cases hd:t.data = -1
 ·refine⟨fun _=>True,zeq, ?_,zqZ hd,fun _ _ _ _=>trivial,trivial⟩;unfold wid;rw[if_pos hd];simp[zeq]
 ·obtain⟨Vs,hV⟩:=ztG (P:=fun c j=>c∈zah w t∧j<(zaa w t c).length) (Q:=fun c j V=>V.length≤1∧Grid w (nth (zaa w t c) j) (fun p=>p=anyQ) V)
   (fun c j h=>zo8 hs (zbn hs.dp ht h.1 _ (zaf h.2)) (zj2 (n:=0)))
  refine⟨_,_, ?_,zo9 hs ht hd (Ss:=fun _ _ p=>p=anyQ) (Vs:=Vs) (fun c hc j hj=>(hV c j ⟨hc,hj⟩).2) (fun _ _ _=>rfl),fun n p hp hsh=>?_,.inl rfl⟩
  ·rw[zl3];have h1:((zah w t).map fun c=>(zhl c (zaa w t c).length (Vs c)).length).sum≤((zah w t).map fun _=>1).sum:=zrI (fun c hc=>by
    have:=zoL (w:=w) (c:=c) (us:=zaa w t c) (Vs:=Vs c) (g:=fun _=>1) (fun j hj=>(hV c j ⟨hc,hj⟩).1);refine Nat.le_trans this ?_;generalize zaa w t c=us;induction us with
    |nil=>simp[zbf]
    |cons x r ih=>simp only[xae,zbf,Nat.one_mul];exact ih)
   have h2:((zah w t).map fun _=>1).sum=(zah w t).length:=by
    generalize zah w t=l;induction l with
    |nil=>rfl
    |cons x r ih=>rw[xae,List.sum_cons,ih,xab];omega
   unfold wid;rw[if_neg hd];omega
  ·rcases hsh with h|h|⟨c,l,rfl,h2⟩
   ·exact .inl h
   ·exact absurd (zbC hp h).1 hd
   ·obtain⟨m1,m2,m3,m4⟩:=zaw hp rfl;exact .inr ⟨c,m1,l,rfl,m3,fun j hj=>h2 _ (zaf (by have e:l.length=(zaa w t c).length:=m3;omega))⟩
theorem zv0 (hn:zgg w=true){t:Ty} (ht:InS (w.length*4) t):∃S V,V.length≤400∧Grid w t S V∧∀n p,zac w n t p=true→zgy p→S p:=by
 by_cases hd:t.data = -1
 ·exact⟨fun _=>True,zeq,by simp[zeq],zqZ hd,fun _ _ _ _=>trivial⟩
 ·obtain⟨F,hF⟩:=ztG (P:=fun c j=>c∈zah w t∧j<(zaa w t c).length) (Q:=fun c j (SV:(Pat→Prop)×List Val)=>SV.2.length≤max 1 (wid w (nth (zaa w t c) j))∧Grid w (nth (zaa w t c) j) SV.1 SV.2∧(∀n p,zac w n (nth (zaa w t c) j) p=true→shal p→SV.1 p)∧SV.1 anyQ)
   (fun c j h=>by
    obtain⟨S,V,h1,h2,h3,h4⟩:=zsX hs (t:=nth (zaa w t c) j) (zbn hs.dp ht h.1 _ (zaf h.2));exact⟨(S,V),h1,h2,h3,h4⟩)
  refine⟨_,_, ?_,zo9 hs ht hd (Ss:=fun c j p=>(c∈zah w t∧j<(zaa w t c).length)→(F c j).1 p) (Vs:=fun c j=>(F c j).2) (fun c hc j hj=>?_) (fun c hc j h=>(hF c j h).2.2.2),fun n p hp hsh=>?_⟩
  ·rw[zl3];exact Nat.le_trans (zrI (fun c hc=>zoL (w:=w) (g:=fun u=>max 1 (wid w u)) (fun j hj=>(hF c j ⟨hc,hj⟩).1))) (zpq hn ht hd)
  ·have hg:=(hF c j ⟨hc,hj⟩).2.1;exact⟨fun n a b z ha hb h _=>hg.meet n a b z (ha ⟨hc,hj⟩) (hb ⟨hc,hj⟩) h,fun n a b x ha hb h _=>hg.minus n a b x (ha ⟨hc,hj⟩) (hb ⟨hc,hj⟩) h,fun n p hp=>hg.hit n p (hp ⟨hc,hj⟩),hg.fits⟩
  ·cases n with
   |zero=>simp[zac] at hp
   |succ n=>
    rcases hsh with h|h|⟨c,l,rfl,h2⟩
    ·exact .inl h
    ·exact absurd (zbC hp h).1 hd
    ·obtain⟨m1,m2,m3,m4⟩:=zaw hp rfl;have e:l.length=(zaa w t c).length:=m3;refine .inr ⟨c,m1,l,rfl,m3,fun j hj h=>?_⟩;have hk:=zaH hp (i:=j) (by show j<l.length;omega);rw[zaU rfl] at hk;exact(hF c j h).2.2.1 n _ hk (h2 _ (zaf (by omega)))
theorem zvQ {t:Ty} (ht:InS (w.length*4) t){K:Pat→Prop} (hK:PosP K):∃S V,V.length≤max 1 (wid w t)∧Grid w t S V∧∀n p,zac w n t p=true→K p→S p:=by
 by_cases hx:∃n x,zac w n t x=true∧¬shal x∧∀k,K k→k=x
 ·obtain⟨n,x,h1,_,h2⟩:=hx;obtain⟨V,h3,h4⟩:=zo8 hs ht h1;exact⟨_,V,by omega,h4,fun n p _ hp=>h2 p hp⟩
 ·obtain⟨S,V,h1,h2,h3,_⟩:=zsX hs ht;refine⟨S,V,h1,h2,fun n p hp hk=>?_⟩;rcases hK with h|⟨x,h4,h5,h6⟩
  ·exact h3 n p hp (h p hk)
  ·exact absurd ⟨n,x,by rw[←h6 p hk];exact hp,h5,h6⟩ hx
theorem zqV (hn:zgg w=true){t:Ty} (ht:InS (w.length*4) t){l res:List Pat} (hf:Form l) (hl:∀b∈l,zac w 10 t b=true) (h:sepQ w t [] l []=some res):res.length≤400:=by
 rcases hf with hf|⟨c,m,K,hK,hf⟩
 ·obtain⟨S,V,h1,h2,h3⟩:=zv0 hs hn ht;exact Nat.le_trans (zsU hs ht h2 (fun b hb=>⟨hl b hb,h3 10 b (hl b hb) (hf b hb)⟩) h) h1
 ·cases l with
  |nil=>rw[sepQ] at h;cases h;simp
  |cons p0 r=>
   obtain⟨l0,e0,e1,_⟩:=hf p0 (by simp);have hp0:=hl p0 (by simp);have hc:=zaw hp0 (by rw[e0];rfl);rw[e0] at hc;have hcc:c∈zah w t:=hc.1;have hm:m=(zaa w t c).length:=by rw[←e1];exact hc.2.2.1
   subst hm;obtain⟨F,hF⟩:=ztG (P:=fun c' j=>c'=c∧j<(zaa w t c).length) (Q:=fun _ j (SV:(Pat→Prop)×List Val)=>SV.2.length≤max 1 (wid w (nth (zaa w t c) j))∧Grid w (nth (zaa w t c) j) SV.1 SV.2∧∀n p,zac w n (nth (zaa w t c) j) p=true→K j p→SV.1 p)
    (fun c' j h=>by
     obtain⟨S,V,h1,h2,h3⟩:=zvQ hs (t:=nth (zaa w t c) j) (zbn hs.dp ht hcc _ (zaf h.2)) (hK j h.2);exact⟨(S,V),h1,h2,h3⟩)
   have hg:=zib hcc (Ss:=fun j=>(F c j).1) (Vs:=fun j=>(F c j).2) (fun j hj=>(hF c j ⟨rfl,hj⟩).2.1);refine Nat.le_trans (zsU hs ht hg (fun b hb=>⟨hl b hb, ?_⟩) h) ?_
   ·obtain⟨lb,rfl,h1,h2⟩:=hf b hb;refine⟨lb,rfl,h1,fun j hj=>?_⟩;have hk:=zaH (hl _ hb) (i:=j) (by show j<lb.length;omega);rw[zaU rfl] at hk;exact(hF c j ⟨rfl,hj⟩).2.2 9 _ hk (h2 j hj)
   ·have h1:=zoL (w:=w) (c:=c) (us:=zaa w t c) (Vs:=fun j=>(F c j).2) (g:=fun u=>max 1 (wid w u)) (fun j hj=>(hF c j ⟨rfl,hj⟩).1);have h2:=zpq hn ht hc.2.1;have h3:zbf ((zaa w t c).map fun u=>max 1 (wid w u))≤((zah w t).map fun c=>zbf ((zaa w t c).map fun u=>max 1 (wid w u))).sum:=znl (List.mem_map.2 ⟨c,hcc,rfl⟩);omega
end
def Dr:Nat→Pat→Prop
 |0,p=>p=anyQ
 |n+1,p=>p=anyQ∨(p.op=3∧p.kids=[])∨(p.op=5∧p.kids.length=2∧∀k∈p.kids,Dr n k)∨(p.op=4∧∀k∈p.kids,Dr n k)
theorem Dr.any (n:Nat):Dr n anyQ:=by cases n<;>simp[Dr]
theorem Dr.up:∀(n:Nat){p:Pat},Dr n p→Dr (n+1) p
 |0,p,h=> .inl h
 |n+1,p,h=>by
  rcases h with h|h|⟨h1,h2,h3⟩|⟨h1,h2⟩
  ·exact .inl h
  ·exact .inr (.inl h)
  ·exact .inr (.inr (.inl ⟨h1,h2,fun k hk=>Dr.up n (h3 k hk)⟩))
  ·exact .inr (.inr (.inr ⟨h1,fun k hk=>Dr.up n (h2 k hk)⟩))
theorem Dr.le {n m:Nat} (h:n≤m){p:Pat} (hp:Dr n p):Dr m p:=by
 induction h with
 |refl=>exact hp
 |step _ ih=>exact Dr.up _ ih
theorem zuu {f:Ty→Nat→Pat×Nat}{P:Pat→Prop} (h:∀t q,P (f t q).1):∀(l:List Ty) (q:Nat),∀k∈(dA f l q).1,P k
 | [],q,k,hk=>by simp[dA] at hk
 |t::r,q,k,hk=>by
  simp only[dA,List.mem_cons] at hk;rcases hk with rfl|hk
  ·exact h t q
  ·exact zuu h r _ k hk
theorem zsw {b:Str}{w:List Data}:∀(d:Nat) (t:Ty) (p:Nat),Dr d (zaG b w (d+1) t p).1∧Dr 0 (zaG b w 0 t p).1
 |0,t,p=>by
  refine⟨?_,rfl⟩;unfold zaG;rw[if_pos rfl];rfl
 |d+1,t,p=>by
  refine⟨?_,rfl⟩;have ih:=fun t p=>(zsw (b:=b) (w:=w) d t p).1;rw[zaG,if_neg (by omega)];split
  ·exact Dr.any _
  ·split
   ·refine .inr (.inr (.inl ⟨rfl,rfl,fun k hk=>?_⟩));simp only[Pat.kids,List.mem_cons,List.not_mem_nil,or_false] at hk;rcases hk with rfl|rfl
    ·exact ih _ _
    ·exact ih _ _
   ·split
    ·exact .inr (.inl ⟨rfl,rfl⟩)
    ·split
     ·exact Dr.any _
     ·refine .inr (.inr (.inr ⟨rfl,fun k hk=>?_⟩));exact zuu (P:=Dr d) ih _ _ k hk
theorem zfe:∀(n:Nat){p:Pat},Dr n p→zau p=p
 |0,p,h=>by
  rw[show p=anyQ from h,zbj,if_neg (by decide),if_neg (by decide)];rfl
 |n+1,p,h=>by
  have map_id:∀l:List Pat,(∀k∈l,zau k=k)→l.map zau=l:=fun l hl=>by
   induction l with
   |nil=>rfl
   |cons x r ih=>rw[xae,hl x (by simp),ih (fun k hk=>hl k (by simp[hk]))]
  have key:p.op≠2→p.op≠6→(∀k∈p.kids,zau k=k)→zau p=p:=fun h2 h6 hk=>by
   rw[zbj,if_neg h2,if_neg (fun hh=>h6 hh.1),map_id p.kids hk];cases p;rfl
  rcases h with h|⟨h1,h2⟩|⟨h1,h2,h3⟩|⟨h1,h2⟩
  ·exact zfe 0 h
  ·exact key (by omega) (by omega) (by rw[h2];simp)
  ·exact key (by omega) (by omega) (fun k hk=>zfe n (h3 k hk))
  ·exact key (by omega) (by omega) (fun k hk=>zfe n (h2 k hk))
theorem zpo {f:Pat→Int→Nat→Pat×Int×Nat}:∀(l:List Pat) (m:Int) (q:Nat),(∀x∈l,∀m q,zau (f x m q).1=x)→(namL f l m q).1.map zau=l∧∀y∈(namL f l m q).1,zau y∈l
 | [],m,q,_=>by simp[namL]
 |x::r,m,q,h=>by
  have h1:=h x (by simp) m q;have h2:=zpo r (f x m q).2.1 (f x m q).2.2 (fun y hy=>h y (by simp[hy]));simp only[namL];refine⟨by rw[xae,h1,h2.1],fun y hy=>?_⟩;rcases List.mem_cons.1 hy with rfl|hy
  ·rw[h1];simp
  ·exact List.mem_cons_of_mem _ (h2.2 y hy)
structure NamB (p r:Pat):Prop where
 bare:zau r=p
 kids:(∀k∈r.kids,zau k∈p.kids)∨(r.op=6∧r.kids.length=1)
theorem zrg {b:Str}:∀(n:Nat) (d:Nat){p:Pat} (m:Int) (q:Nat),Dr d p→NamB p (namP b n p m q).1
 |0,d,p,m,q,h=>⟨zfe d h,.inl fun k hk=>by
  have:zau k=k:=by
   cases d with
   |zero=>rw[show p=anyQ from h] at hk;simp[namP,za5] at hk
   |succ d=>
    rcases h with h|⟨h1,h2⟩|⟨h1,h2,h3⟩|⟨h1,h2⟩
    ·subst h;simp[namP,za5] at hk
    ·have hk':k∈p.kids:=hk;rw[h2] at hk';simp at hk'
    ·exact zfe d (h3 k hk)
    ·exact zfe d (h2 k hk)
  rw[this];exact hk⟩
 |n+1,d,p,m,q,h=>by
  have hkid:∀k∈p.kids,∃e,Dr e k:=fun k hk=>by
   cases d with
   |zero=>rw[show p=anyQ from h] at hk;simp[za5] at hk
   |succ d=>
    rcases h with h|⟨h1,h2⟩|⟨h1,h2,h3⟩|⟨h1,h2⟩
    ·subst h;simp[za5] at hk
    ·rw[h2] at hk;simp at hk
    ·exact⟨d,h3 k hk⟩
    ·exact⟨d,h2 k hk⟩
  have hb:=zfe d h;have hop:p.op≠2∧p.op≠6:=by
   cases d with
   |zero=>rw[show p=anyQ from h];exact⟨by decide,by decide⟩
   |succ d=>
    rcases h with h|⟨h1,h2⟩|⟨h1,h2,h3⟩|⟨h1,h2⟩
    ·rw[h];exact⟨by decide,by decide⟩
    ·omega
    ·omega
    ·omega
  by_cases c1:5<m∨p.op=5∨p.op=3
  ·rw[zty c1];exact⟨hb,.inl fun k hk=>by obtain⟨e,he⟩:=hkid k hk;rw[zfe e he];exact hk⟩
  by_cases c2:p.op=1∧zaz b q 2=0
  ·rw[ztz c1 c2];have hp:p=anyQ:=by
    cases d with
    |zero=>exact h
    |succ d=>
     rcases h with h|⟨h1,h2⟩|⟨h1,h2,h3⟩|⟨h1,h2⟩
     ·exact h
     ·omega
     ·omega
     ·omega
   exact⟨by rw[hp];exact(zbj _).trans (if_pos rfl),.inl fun k hk=>by simp[za5] at hk⟩
  have hL:=zpo (f:=namP b n) p.kids m (if p.op=1 then q+1 else q) (fun x hx m q=>by obtain⟨e,he⟩:=hkid x hx;exact(zrg n e m q he).bare);generalize hz:namL (namP b n) p.kids m (if p.op=1 then q+1 else q)=z at hL;obtain⟨ks,zm,zq⟩:=z;dsimp only at hL;have hmk:zau (.mk p.op p.ctor p.n p.m p.var ks)=p:=by
   rw[zbj,if_neg (by rw[zcb];exact hop.1),if_neg (by rw[zcb];exact fun hh=>hop.2 hh.1)];simp only[zcb,zfq,mk_n,mk_m,zhP,za5];rw[hL.1];cases p;rfl
  by_cases c3:zm≤5
  ·by_cases c4:zaz b zq 6=0
   ·rw[ztA c1 c2 hz.symm c3 c4];refine⟨?_,.inr ⟨rfl,rfl⟩⟩;rw[zbj,if_neg (by rw[zcb];decide),if_pos ⟨rfl,by rw[za5];simp⟩];exact hmk
   ·rw[ztB c1 c2 hz.symm c3 c4];exact⟨hmk,.inl fun k hk=>hL.2 k hk⟩
  ·rw[ztC c1 c2 hz.symm c3];exact⟨hmk,.inl fun k hk=>hL.2 k hk⟩
theorem zdp {p:Pat} (h5:p.op≠5){y:Pat} (hy:y∈zaq p):∃l,y = .mk p.op p.ctor p.n p.m p.var l∧l.length=p.kids.length∧∀i,i<p.kids.length→nth l i∈zaq (nth p.kids i):=by
 rw[zc5 h5] at hy;obtain⟨l,hl,rfl⟩:=List.mem_map.1 hy;obtain⟨q,hq,r,e,h1,h2⟩:=zij _ _ _ hl;rw[List.mem_singleton] at hq;rw[hq,List.nil_append] at e;subst e;rw[xac] at h1;refine⟨l,rfl,h1,fun i hi=>?_⟩;have:=h2 i (by simpa using hi);rwa [zaP (l:=p.kids.map zaq) (by simpa using hi),List.getElem_map,←zaP hi] at this
theorem dr_1 {p:Pat} (h:Dr 1 p):∃x,∀y∈zaq p,y=x:=by
 rcases h with h|⟨h1,h2⟩|⟨h1,h2,h3⟩|⟨h1,h2⟩
 ·rw[h,zcc];exact⟨anyQ,fun y hy=>List.mem_singleton.1 hy⟩
 ·rw[zdo (by omega) h2];exact⟨p,fun y hy=>List.mem_singleton.1 hy⟩
 ·rw[zdu h1 h2,show nth p.kids 0=anyQ from h3 _ (zaf (by omega)),show nth p.kids 1=anyQ from h3 _ (zaf (by omega)),zcc];exact⟨anyQ,fun y hy=>by simpa using hy⟩
 ·refine⟨p,fun y hy=>?_⟩;obtain⟨l,rfl,h3,h4⟩:=zdp (by omega) hy;have:l=p.kids:=ziN h3 (fun i hi=>by
   have h5:=h4 i (by omega);have h6:nth p.kids i=anyQ:=h2 _ (zaf (by omega));rw[h6,zcc] at h5;rw[h6];exact List.mem_singleton.1 h5)
  rw[this];cases p;rfl
section
variable {w:List Data}{n:Nat}{t:Ty}
theorem zti {p:Pat} (h:Dr 1 p) (hp:∀y∈zaq p,zac w n t y=true):∀y∈zaq p,shal y:=by
 intro y hy;have hpy:=hp y hy;rcases zbh hpy with o|o|o
 ·exact .inl o
 ·exact .inr (.inl o)
 ·refine .inr (.inr ⟨y.ctor,y.kids,(zaw hpy o).2.2.2, ?_⟩);rcases h with h|⟨h1,h2⟩|⟨h1,h2,h3⟩|⟨h1,h2⟩
  ·rw[h,zcc,List.mem_singleton] at hy;rw[hy];simp[za5]
  ·rw[zdo (by omega) h2,List.mem_singleton] at hy;rw[hy,h2];simp
  ·rw[zdu h1 h2,show nth p.kids 0=anyQ from h3 _ (zaf (by omega)),show nth p.kids 1=anyQ from h3 _ (zaf (by omega)),zcc] at hy;have:y=anyQ:=by simpa using hy
   rw[this];simp[za5]
  ·obtain⟨l,rfl,h3,h4⟩:=zdp (by omega) hy;intro k hk;rw[za5] at hk;obtain⟨i,hi,rfl⟩:=List.getElem_of_mem hk;have h5:=h4 i (by omega);rw[show nth p.kids i=anyQ from h2 _ (zaf (by omega)),zcc,List.mem_singleton,zaP hi] at h5;exact h5
theorem dr_2 {p:Pat} (h:Dr 2 p) (hp:∀y∈zaq p,zac w n t y=true):PosP (fun y=>y∈zaq p):=by
 have leaf:∀y,y.op=4→y∈zaq p→p.op≠5→p.op=4:=fun y o hy h5=>by
  obtain⟨l,rfl,_,_⟩:=zdp h5 hy;exact o
 rcases h with h|⟨h1,h2⟩|⟨h1,h2,h3⟩|⟨h1,h2⟩
 ·rw[h,zcc];exact .inl fun k hk=>by rw[List.mem_singleton.1 hk];exact zrA
 ·rw[zdo (by omega) h2];exact .inl fun k hk=>by rw[List.mem_singleton.1 hk];exact .inr (.inl h1)
 ·refine .inl fun y hy=>?_;rw[zdu h1 h2] at hy hp;rcases List.mem_append.1 hy with hy|hy
  ·exact zti (w:=w) (n:=n) (t:=t) (h3 _ (zaf (by omega))) (fun z hz=>hp z (List.mem_append_left _ hz)) y hy
  ·exact zti (w:=w) (n:=n) (t:=t) (h3 _ (zaf (by omega))) (fun z hz=>hp z (List.mem_append_right _ hz)) y hy
 ·refine PosP.one (fun y y' hy hy'=>?_) (fun y hy=>?_)
  ·obtain⟨l,rfl,h3,h4⟩:=zdp (by omega) hy;obtain⟨l',rfl,h5,h6⟩:=zdp (by omega) hy';have:l=l':=ziN (by omega) (fun i hi=>by
    obtain⟨x,hx⟩:=dr_1 (h2 _ (zaf (i:=i) (by omega)));rw[hx _ (h4 i (by omega)),hx _ (h6 i (by omega))])
   rw[this]
  ·have hpy:=hp y hy;have h4p:y.op=4:=by obtain⟨l,rfl,_,_⟩:=zdp (by omega) hy;exact h1
   refine .inr (.inr ⟨y.ctor,y.kids,(zaw hpy h4p).2.2.2,fun k hk=>?_⟩);obtain⟨l,e,h3,h4⟩:=zdp (by omega) hy;have hkl:y.kids=l:=by rw[e];rfl
   rw[hkl] at hk;obtain⟨i,hi,rfl⟩:=List.getElem_of_mem hk;have hmi:=h4 i (by omega);have hd1:=h2 _ (zaf (l:=p.kids) (i:=i) (by omega));obtain⟨x,hx⟩:=dr_1 hd1;cases n with
   |zero=>simp[zac] at hpy
   |succ n=>
    have hk2:=zaH hpy (i:=i) (by rw[hkl];omega);rw[hkl] at hk2;rw[←zaP hi];exact zti (w:=w) (n:=n) (t:=nth (zag w t y) i) hd1 (fun z hz=>by rw[hx z hz,←hx _ hmi];exact hk2) _ hmi
theorem zwz {p:Pat} (h:Dr 2 p) (hp:∀y∈zaq p,zac w n t y=true):∀y∈zaq p,zgy y:=fun y hy=>(dr_2 h hp).two hy
end
theorem znY {n:Nat}{p:Pat} (hb:binP (n+1) p=true) (h5:p.op≠5){i:Nat} (hi:i<p.kids.length){z:Pat} (hz:z∈zaq (nth p.kids i)):∃y∈zaq p,nth y.kids i=z∧y.op=p.op∧y.ctor=p.ctor∧y.kids.length=p.kids.length:=by
 have hne:∀j,j<p.kids.length→∃x,x∈zaq (nth p.kids j):=fun j hj=>by
  have:=(zkf n (zd7 hb hj)).2;exact List.exists_mem_of_length_pos this
 have hch:∃l:List Pat,l.length=p.kids.length∧(∀j,j<p.kids.length→nth l j∈zaq (nth p.kids j))∧nth l i=z:=by
  have:∀k,k≤p.kids.length→∃l:List Pat,l.length=k∧(∀j,j<k→nth l j∈zaq (nth p.kids j))∧(i<k→nth l i=z):=fun k=>by
   induction k with
   |zero=>exact fun _=>⟨[],rfl,fun j hj=>by omega,fun h=>by omega⟩
   |succ k ih=>
    intro hk;obtain⟨l,h1,h2,h3⟩:=ih (by omega);have hx:∃x,x∈zaq (nth p.kids k)∧(i=k→x=z):=by
     by_cases e:i=k
     ·exact⟨z,e ▸ hz,fun _=>rfl⟩
     ·obtain⟨x,hx⟩:=hne k (by omega);exact⟨x,hx,fun h=>absurd h e⟩
    obtain⟨x,hx,hxz⟩:=hx;have e1:nth (l++[x]) k=x:=by
     simp only[nth,List.getD];rw[List.getElem?_append_right (by omega),h1,Nat.sub_self];all_goals rfl
    have e2:∀j,j<k→nth (l++[x]) j=nth l j:=fun j hj=>by
     simp only[nth,List.getD];rw[List.getElem?_append_left (by omega)]
    refine⟨l++[x],by simp[h1],fun j hj=>?_,fun h=>?_⟩
    ·by_cases e:j=k
     ·subst e;rw[e1];exact hx
     ·rw[e2 j (by omega)];exact h2 j (by omega)
    ·by_cases e:i=k
     ·rw[e,e1];exact hxz e
     ·rw[e2 i (by omega)];exact h3 (by omega)
  obtain⟨l,h1,h2,h3⟩:=this p.kids.length (Nat.le_refl _);exact⟨l,h1,h2,h3 hi⟩
 obtain⟨l,h1,h2,h3⟩:=hch;refine⟨.mk p.op p.ctor p.n p.m p.var l, ?_,h3,rfl,rfl,h1⟩;rw[zc5 h5];refine List.mem_map.2 ⟨l, ?_,rfl⟩;have key:∀(ls:List (List Pat)) (r:List Pat) (out:List (List Pat)) (q:List Pat),r.length=ls.length→q∈out→(∀j,j<ls.length→nth r j∈nth ls j)→q++r∈ls.foldl za8 out:=fun ls=>by
  induction ls with
  |nil=>intro r out q hr hq _;rw[List.eq_nil_of_length_eq_zero hr,List.append_nil];exact hq
  |cons a s ih=>
   intro r out q hr hq hm;cases r with
   |nil=>simp at hr
   |cons x r=>
    rw[List.foldl_cons,show q++x::r=q++[x]++r by simp];refine ih r _ (q++[x]) (by simpa using hr) ?_ (fun j hj=>hm (j+1) (by simpa using hj));unfold za8;exact List.mem_flatMap.2 ⟨q,hq,List.mem_map.2 ⟨x,hm 0 (by simp),rfl⟩⟩
 have:=key (p.kids.map zaq) l [[]] [] (by simp[h1]) (by simp) (fun j hj=>by
  rw[xac] at hj;rw[zaP (l:=p.kids.map zaq) (by simpa using hj),List.getElem_map,←zaP hj];exact h2 j hj)
 simpa [zee] using this
section
variable {w:List Data}{n:Nat}{t:Ty}
theorem zo2 {p:Pat} (hb:binP 20 p=true) (h4:p.op=4) (hk:∀k∈p.kids,Dr 2 k) (hp:∀y∈zaq p,zac w n t y=true):FormB (zaq p):=by
 refine⟨p.ctor,p.kids.length,fun j y=>y∈zaq (nth p.kids j),fun j hj=>?_,fun y hy=>?_⟩
 ·cases n with
  |zero=>
   refine .inl fun k hz=>?_;obtain⟨y,hy,_⟩:=znY hb (by omega) hj hz;have:=hp y hy;simp[zac] at this
  |succ n=>
   refine dr_2 (w:=w) (n:=n) (t:=nth (zaa w t p.ctor) j) (hk _ (zaf hj)) (fun z hz=>?_);obtain⟨y,hy,h1,h2,h3,h5⟩:=znY hb (by omega) hj hz;have:=zaH (hp y hy) (i:=j) (by omega);rw[zaU (by omega),h1,h3] at this;exact this
 ·obtain⟨l,e,h1,h2⟩:=zdp (by omega) hy;refine⟨l, ?_,h1,h2⟩;have hpy:=hp y hy;have:=(zaw hpy (by rw[e];exact h4)).2.2.2;rw[this,e];rfl
theorem zof {p:Pat} (h:Dr 3 p) (hb:binP 20 p=true) (hp:∀y∈zaq p,zac w n t y=true):Form (zaq p):=by
 rcases h with h|⟨h1,h2⟩|⟨h1,h2,h3⟩|⟨h1,h2⟩
 ·rw[h,zcc];exact .inl fun k hk=>by rw[List.mem_singleton.1 hk];exact .inl rfl
 ·rw[zdo (by omega) h2];exact .inl fun k hk=>by rw[List.mem_singleton.1 hk];exact .inr (.inl h1)
 ·refine .inl fun y hy=>?_;rw[zdu h1 h2] at hy hp;rcases List.mem_append.1 hy with hy|hy
  ·exact zwz (w:=w) (n:=n) (t:=t) (h3 _ (zaf (by omega))) (fun z hz=>hp z (List.mem_append_left _ hz)) y hy
  ·exact zwz (w:=w) (n:=n) (t:=t) (h3 _ (zaf (by omega))) (fun z hz=>hp z (List.mem_append_right _ hz)) y hy
 ·exact .inr (zo2 hb h1 h2 hp)
def RootOk (p:Pat):Prop:=(∀k∈p.kids,Dr 2 (zau k))∨(p.op=6∧p.kids.length=1∧Dr 3 (zau (nth p.kids 0)))
theorem zxo {m k:Nat} (h:m≤k){p:Pat} (hp:binP m p=true):binP k p=true:=by
 induction h with
 |refl=>exact hp
 |step _ ih=>exact zlV _ ih
theorem zpB {p:Pat} (hr:RootOk p) (hs:zap w 10 t p=true):Form (zaq (zau p)):=by
 have hpt:=zgi 10 hs;have hb:=zxo (k:=20) (by omega) (zgQ 10 hs);rcases hr with hr|⟨h6,h1,h2⟩
 ·rcases zez hs with o|o|o|o|o|o
  ·have hk:=zeQ hs (by omega) (by omega) (by omega);rw[zbj,if_neg (by omega),if_neg (by omega),zdo (by rw[zcb];omega) (by rw[za5,hk];rfl)];exact .inl fun k hk=>by rw[List.mem_singleton.1 hk];exact .inl o
  ·rw[zbj,if_pos o,zcc];exact .inl fun k hk=>by rw[List.mem_singleton.1 hk];exact .inl rfl
  ·have hk:=zeQ hs (by omega) (by omega) (by omega);rw[zbj,if_neg (by omega),if_neg (by omega),zdo (by rw[zcb];omega) (by rw[za5,hk];rfl)];exact .inl fun k hk=>by rw[List.mem_singleton.1 hk];exact .inr (.inl o)
  ·have e:zau p = .mk p.op p.ctor p.n p.m p.var (p.kids.map zau):=by rw[zbj,if_neg (by omega),if_neg (by omega)]
   rw[e] at hpt hb ⊢;refine .inr (zo2 hb (by rw[zcb];exact o) (fun k hk=>?_) hpt);rw[za5] at hk;obtain⟨k0,h3,rfl⟩:=List.mem_map.1 hk;exact hr k0 h3
  ·have e:zau p = .mk p.op p.ctor p.n p.m p.var (p.kids.map zau):=by rw[zbj,if_neg (by omega),if_neg (by omega)]
   rw[e] at hpt hb ⊢;obtain⟨l2,_,_⟩:=zeA hs o;refine zof (w:=w) (n:=10) (t:=t) (.inr (.inr (.inl ⟨by rw[zcb];exact o,by rw[za5];simpa using l2,fun k hk=>?_⟩))) hb hpt;rw[za5] at hk;obtain⟨k0,h3,rfl⟩:=List.mem_map.1 hk;exact hr k0 h3
  ·obtain⟨l1,_⟩:=zey hs o;have e:zau p=zau (nth p.kids 0):=by rw[zbj,if_neg (by omega),if_pos ⟨o,fun e=>by rw[e] at l1;simp at l1⟩]
   rw[e] at hpt hb ⊢;exact zof (Dr.up 2 (hr _ (zaf (by omega)))) hb hpt
 ·have e:zau p=zau (nth p.kids 0):=by rw[zbj,if_neg (by omega),if_pos ⟨h6,fun e=>by rw[e] at h1;simp at h1⟩]
  rw[e] at hpt hb ⊢;exact zof h2 hb hpt
theorem zpD (b:Str) (w:List Data) (t:Ty) (q:Nat):RootOk (zb7 b w t q):=by
 unfold zb7;split
 ·have h4:=num4 b q;have hd:Dr 3 (zaG b w (numV b q [3,2,4,1]).toNat t (q+1)).1:=by
   rcases hn:(numV b q [3,2,4,1]).toNat with _|d
   ·exact Dr.any 3
   ·exact Dr.le (by omega) (zsw (b:=b) (w:=w) d t (q+1)).1
  unfold zc4;have hnb:=zrg (b:=b) (zaG b w (numV b q [3,2,4,1]).toNat t (q+1)).1.size 3 0 (zaG b w (numV b q [3,2,4,1]).toNat t (q+1)).2 hd;rcases hnb.kids with h|⟨h1,h2⟩
  ·refine .inl fun k hk=>?_;have hm:=h k hk;generalize (zaG b w (numV b q [3,2,4,1]).toNat t (q+1)).1=p0 at *;rcases hd with h|⟨h1,h2⟩|⟨h1,h2,h3⟩|⟨h1,h2⟩
   ·rw[h] at hm;simp[za5] at hm
   ·rw[h2] at hm;simp at hm
   ·exact h3 _ hm
   ·exact h2 _ hm
  ·refine .inr ⟨h1,h2, ?_⟩;have:=hnb.bare;rw[zbj,if_neg (by omega),if_pos ⟨h1,fun e=>by rw[e] at h2;simp at h2⟩] at this;rw[this];exact hd
 ·exact .inl fun k hk=>by simp[anyP,Pat.kids] at hk
theorem zvJ {b:Str}{p:Pat}{q:Nat} (hr:RootOk p) (hs:zap w 10 t (mutP b p q).1=true):RootOk (mutP b p q).1:=by
 have hv:zau zcQ=anyQ:=(zbj _).trans (if_pos rfl);have two:∀ {x:Pat},zap w 10 t x=true→(x.op=1∨x.op=2∨x.op=3)→x.kids=[]:=fun h ho=>zeQ h (by omega) (by omega) (by omega);rcases hr with hr|⟨h6,h1,h2⟩
 ·refine .inl ?_;unfold mutP;split;exact hr
  split;exact hr
  split;exact hr
  split
  ·intro k hk;rw[za5] at hk;rcases List.mem_append.1 hk with hk|hk
   ·exact hr k hk
   ·rw[List.mem_singleton.1 hk,hv];exact Dr.any 2
  split
  ·intro k hk;rw[za5] at hk;rcases List.mem_or_eq_of_mem_set hk with hk|rfl
   ·exact hr k hk
   ·rw[hv];exact Dr.any 2
  split;exact hr
  exact hr
 ·have keep:∀c n m v:Int,RootOk (.mk p.op c n m v p.kids):=fun c n m v=> .inr ⟨h6,h1,h2⟩;unfold mutP at hs ⊢;split
  ·rename_i e;rw[if_pos e] at hs;have hm:=zmj (b:=b) (p:=q+1) (l:=[0,7,1,2,5]) (by simp);simp only[List.mem_cons,List.not_mem_nil,or_false] at hm;exfalso;have hs:zap w 10 t (.mk (numV b (q+1) [0,7,1,2,5]) p.ctor p.n p.m p.var p.kids)=true:=hs;have ho:=zez hs;have hk:(Pat.mk (numV b (q+1) [0,7,1,2,5]) p.ctor p.n p.m p.var p.kids).kids.length=1:=h1;by_cases h5:(Pat.mk (numV b (q+1) [0,7,1,2,5]) p.ctor p.n p.m p.var p.kids).op=5
   ·have:=(zeA hs h5).1;omega
   ·rw[zcb] at ho h5;have ho2:(Pat.mk (numV b (q+1) [0,7,1,2,5]) p.ctor p.n p.m p.var p.kids).op=numV b (q+1) [0,7,1,2,5]:=rfl;have:=two hs (by omega);rw[this] at hk;simp at hk
  rename_i e0;rw[if_neg e0] at hs;split;exact keep _ _ _ _
  rename_i e1;rw[if_neg e1] at hs;split;exact keep _ _ _ _
  rename_i e2;rw[if_neg e2] at hs;split
  ·rename_i e3;rw[if_pos e3] at hs;exfalso;have:=(zey hs (by rw[zcb];exact h6)).1;rw[za5,xaa,List.length_singleton] at this;omega
  split
  ·refine .inl fun k hk=>?_;rw[za5] at hk;match hkk:p.kids,h1 with
   | [a],_=>
    rw[hkk] at hk;simp at hk;rw[hk,hv];exact Dr.any 2
  split;exact keep _ _ _ _
  exact keep _ _ _ _
theorem zvI {b b2:Str}{w2:List Data}{t2:Ty}{q q2:Nat} (hs:zap w 10 t (mutP b (zb7 b2 w2 t2 q2) q).1=true):Form (zaq (zau (mutP b (zb7 b2 w2 t2 q2) q).1)):=
 zpB (zvJ (zpD _ _ _ _) hs) hs
end
theorem zsA {w:List Data} (hs:WSmall w) (hn:zgg w=true){a k:Int}{p q:Pat} (h2:zch w a k p q=true) (hf:zap w 10 ⟨a,k⟩ p=true→Form (zaq (zau p))):FewQ w ⟨a,k⟩ (zaF p):=by
 obtain⟨hsp,hin,t1,t2,s1,s2,e1,e2,_⟩:=zdN hs h2;intro res h;rw[e1] at h t1;exact zqV hsp hn hin (hf s1) t1 h
theorem zjN {w:List Data}{t:Ty}{p:Pat}{v:Val}{m:Nat} (h:zap w 10 t p=true) (hv:zaI w m t v=true) (e:zaF p=zaq (zau p)):(zaF p).any (fun x=>hitP x v)=(zay 10 p v).2:=by
 rw[e,Bool.eq_iff_iff,zeY 10 m h hv,List.any_eq_true]
theorem zjs {w:List Data}{a k:Int}{p:Pat}{v:Val} (h1:zbu w ⟨a,k⟩=true) (h2:isP w ⟨a,k⟩ p=true) (hv:isV w ⟨a,k⟩ v=true):(zbp w a k p v).2=(zay 10 p v).2:=by
 have hp:zaL w a k p=true:=by unfold zaL;rw[h1,h2];rfl
 unfold zbp;rw[if_pos ⟨hp,hv⟩,zr0]
theorem zq6 {w:List Data}{t:Ty}{v:Val} (hv:isV w t v=true):zaI w 10 t v=true:=by unfold isV at hv;rw[xad] at hv;exact hv.1
theorem zur {w:List Data}{a k:Int}{z:List Pat}{v:Val} (h1:zbu w ⟨a,k⟩=true) (hv:isV w ⟨a,k⟩ v=true) (hz:∀x∈z,zac w 11 ⟨a,k⟩ x=true∧isP w ⟨a,k⟩ x=true):z.countP (fun x=>(zbp w a k x v).2)=z.countP (fun x=>hitP x v):=by
 refine List.countP_congr (fun x hx=>?_);rw[zjs h1 (hz x hx).2 hv,ztx (hz x hx).2 (hz x hx).1 (zq6 hv)]
theorem zlk {w:List Data}{a k:Int}{p q:Pat}{z:List Pat} (h:meV w a k p q=some z):zch w a k p q=true∧sepV w ⟨a,k⟩ (zbT (zaF p) (zaF q))=some z∧z.all (isP w ⟨a,k⟩)=true:=by
 cases h2:zch w a k p q with
 |false=>rw[zra h2] at h;cases h
 |true=>
  cases h3:sepV w ⟨a,k⟩ (zbT (zaF p) (zaF q)) with
  |none=>rw[ztt h2 h3] at h;cases h
  |some r=>
   rw[ztu h2 h3] at h;split at h
   ·cases h;exact⟨rfl,rfl,by assumption⟩
   ·cases h
theorem zuJ {w:List Data}{t:Ty}{xs ys:List Pat}{v:Val}{m:Nat} (hx:∀x∈xs,zac w 10 t x=true) (hy:∀y∈ys,zac w 10 t y=true) (hv:zaI w m t v=true):(zbT xs ys).any (fun x=>hitP x v)=(xs.any (fun x=>hitP x v)&&ys.any (fun x=>hitP x v)):=by
 rw[Bool.eq_iff_iff,xad,List.any_eq_true,List.any_eq_true,List.any_eq_true];constructor
 ·rintro ⟨z,hz,hh⟩
  obtain⟨x,h1,y,h2,h3⟩:=zdK.1 hz;have:=zju 10 m (hx x h1) (hy y h2) hv 10 (Nat.le_refl _);rw[h3] at this;dsimp only at this;rw[this,xad] at hh;exact⟨⟨x,h1,hh.1⟩,⟨y,h2,hh.2⟩⟩
 ·rintro ⟨⟨x,h1,h2⟩,⟨y,h3,h4⟩⟩
  have:=zju 10 m (hx x h1) (hy y h3) hv 10 (Nat.le_refl _);cases hm:zan 10 x y with
  |none=>rw[hm] at this;dsimp only at this;rw[h2,h4] at this;cases this
  |some z=>
   rw[hm] at this;dsimp only at this;exact⟨z,zdK.2 ⟨x,h1,y,h3,hm⟩,by rw[this,h2,h4];rfl⟩
theorem zoq {w:List Data} (hs:WSmall w){a k:Int}{p q:Pat}{z:List Pat}{v:Val}{m:Nat} (h:meV w a k p q=some z) (hv:zaI w m ⟨a,k⟩ v=true):z.countP (fun x=>hitP x v)=one ((zay 10 p v).2&&(zay 10 q v).2):=by
 obtain⟨h2,h3,h5⟩:=zlk h;obtain⟨hsp,hin,t1,t2,s1,s2,e1,e2,_⟩:=zdN hs h2;rw[zov hsp hin hv _ [] [] (by simp) (zfM t1 t2) h3,zuJ t1 t2 hv,zjN s2 hv e2,zjN s1 hv e1];simp only[List.countP_nil,List.any_nil,Nat.zero_add];rfl
theorem zic {w:List Data} (hs:WSmall w){a k:Int}{p q:Pat}{z:List Pat} (h:meV w a k p q=some z):∀x∈z,zac w 11 ⟨a,k⟩ x=true∧isP w ⟨a,k⟩ x=true∧∃m v,zaI w m ⟨a,k⟩ v=true∧hitP x v=true:=by
 obtain⟨h2,h3,h5⟩:=zlk h;obtain⟨hsp,hin,t1,t2,s1,s2,e1,e2,_⟩:=zdN hs h2;intro x hx;obtain⟨p1,_,p2⟩:=zow (S:=fun _=>True) (fun _ _ _ _ _ _=>trivial) _ [] [] (by simp) (fun b hb=>⟨zfM t1 t2 b hb,trivial⟩) (by simp) h3 x hx;obtain⟨m,v,h6,h7⟩:=zj1 hsp 11 hin p1 (by unfold zbk at p2;simpa using p2);exact⟨p1,List.all_eq_true.1 h5 x hx,m,v,h6,h7⟩
theorem zmf {w:List Data} (hs:WSmall w){a k:Int}{p q:Pat}{z:List Pat}{v:Val} (h:meV w a k p q=some z) (hv:isV w ⟨a,k⟩ v=true):z.countP (fun x=>(zbp w a k x v).2)=one ((zbp w a k p v).2&&(zbp w a k q v).2):=by
 obtain⟨h2,_⟩:=zlk h;obtain⟨hsp,hin,t1,t2,s1,s2,e1,e2,tv,i1,i2⟩:=zdN hs h2;rw[zur tv hv (fun x hx=>⟨(zic hs h x hx).1,(zic hs h x hx).2.1⟩),zoq hs h (zq6 hv),zjs tv i1 hv,zjs tv i2 hv]
theorem zrb {w:List Data} (hs:WSmall w){a k:Int}{p q:Pat}{z:List Pat} (h:meV w a k p q=some z):z.length≤640000∧(∀x∈z,x.ok)∧Spa w∧InS (w.length*4) ⟨a,k⟩:=by
 obtain⟨h2,h3,_⟩:=zlk h;obtain⟨hsp,hin,_⟩:=zdN hs h2;have h4:=zmo _ _ _ h3;have h5:=zkA (zeO p) (zeO q);simp only[xah] at h4;exact⟨by omega,fun x hx=>(zgh hsp 11 hin (zic hs h x hx).1).1,hsp,hin⟩
theorem zq9 {w:List Data} (hs:WSmall w){a k:Int}{p q:Pat}{z y:List Pat} (h:meV w a k p q=some z) (h2:meV w a k q p=some y):z=[]→y=[]:=by
 intro hz;cases y with
 |nil=>rfl
 |cons x r=>
  exfalso;obtain⟨_,_,m,v,h3,h4⟩:=zic hs h2 x (by simp);have h5:0<(x::r).countP (fun y=>hitP y v):=List.countP_pos_iff.2 ⟨x,by simp,h4⟩;rw[zoq hs h2 h3] at h5;have h6:=zoq hs h h3;rw[hz,Bool.and_comm] at h6;rw[←h6] at h5;simp at h5
section
variable {w:List Data}{n:Nat}{t:Ty}
theorem zev {n:Nat}{x y z:Pat} (h:x.op=1) (hm:zan n x y=some z):z=y:=by
 cases n with
 |zero=>simp[zan] at hm
 |succ n=>rw[zgM h] at hm;cases hm;rfl
theorem zgO {n:Nat}{x y z:Pat} (h1:x.op≠1) (h:y.op=1) (hm:zan n x y=some z):z=x:=by
 cases n with
 |zero=>simp[zan] at hm
 |succ n=>rw[zhN h1 h] at hm;cases hm;rfl
theorem zpl {n:Nat}{x y z:Pat} (h:x.op=3) (h2:y.op≠1) (hm:zan n x y=some z):z.op=3:=by
 cases n with
 |zero=>simp[zan] at hm
 |succ n=>
  rw[zhO h h2] at hm;split at hm
  ·cases hm;rfl
  ·cases hm
theorem zfo {n:Nat}{a b z:Pat} (hm:zan n a b=some z) (h:a.op=4) (h2:b.op≠1) (hc:¬a.ctor=b.ctor):False:=by
 cases n with
 |zero=>simp[zan] at hm
 |succ n=>rw[zgc h h2 hc] at hm;cases hm
theorem zdV {n:Nat}{c c':Int}{l l':List Pat}{z:Pat} (hl:l.length=l'.length) (hm:zan n (zaY c l) (zaY c' l')=some z):c=c'∧∃r n',z=zaY c r∧r.length=l.length∧∀i,i<l.length→zan n' (nth l i) (nth l' i)=some (nth r i):=by
 cases n with
 |zero=>simp[zan] at hm
 |succ n=>
  by_cases hc:c=c'
  ·rw[zgN (a:=zaY c l) (b:=zaY c' l') rfl (by show ¬(4:Int)=1;decide) hc] at hm;cases hx:zbv (zan n) (zaY c l).kids (zaY c' l').kids [] with
   |none=>rw[hx] at hm;cases hm
   |some r=>
    rw[hx] at hm;simp only[Option.map_some,Option.some.injEq] at hm;obtain⟨r',e,h1,h2⟩:=zeK (show(zaY c l).kids.length=(zaY c' l').kids.length from hl) hx;rw[List.nil_append] at e;subst e;exact⟨hc,r,n,hm.symm,h1,h2⟩
  ·exact(zfo hm rfl (by(show ¬(4:Int)=1;decide)) hc).elim
theorem zid {n k:Nat}{x y z:Pat} (hx:zac w k t x=true) (hy:zac w k t y=true) (h1:shal x) (h2:shal y) (hm:zan n x y=some z):shal z:=by
 by_cases o1:x.op=1
 ·rw[zev o1 hm];exact h2
 by_cases o2:y.op=1
 ·rw[zgO o1 o2 hm];exact h1
 by_cases o3:x.op=3
 ·exact .inr (.inl (zpl o3 o2 hm))
 have hso:=zbW hx hy o1 o2;have px:=zbh hx;rcases h1 with h|h|⟨c,l,rfl,hl⟩
 ·exact absurd h o1
 ·exact absurd h o3
 rcases h2 with h|h|⟨c',l',rfl,hl'⟩
 ·exact absurd h o2
 ·have:(4:Int)=3:=hso.trans h;omega
 have e1:=(zaw hx rfl).2.2.1;have e2:=(zaw hy rfl).2.2.1;by_cases hc:c=c'
 ·subst hc;obtain⟨_,r,n',rfl,h3,h4⟩:=zdV (show l.length=l'.length from e1.trans e2.symm) hm;refine .inr (.inr ⟨c,r,rfl,fun k hk=>?_⟩);obtain⟨i,hi,rfl⟩:=List.getElem_of_mem hk;have h5:=h4 i (by omega);rw[hl _ (zaf (by omega)),zaP hi] at h5;have:=zev (show anyQ.op=1 from rfl) h5;rw[this];exact hl' _ (zaf (by rw[←show l.length=l'.length from e1.trans e2.symm];omega))
 ·cases n with
  |zero=>simp[zan] at hm
  |succ n=>exact(zfo hm rfl (by(show ¬(4:Int)=1;decide)) hc).elim
theorem zpj {n k:Nat}{x y z:Pat} (hx:zac w k t x=true) (hy:zac w k t y=true) (h1:¬shal x) (h2:shal y) (hm:zan n x y=some z):z=x:=by
 have px:=zbh hx;have x4:x.op=4:=by
  rcases px with h|h|h
  ·exact absurd (.inl h) h1
  ·exact absurd (.inr (.inl h)) h1
  ·exact h
 by_cases o2:y.op=1
 ·exact zgO (by omega) o2 hm
 have hso:=zbW hx hy (by omega) o2;rcases h2 with h|h|⟨c',l',rfl,hl'⟩
 ·exact absurd h o2
 ·omega
 obtain⟨_,_,e1,e3⟩:=zaw hx x4;have e2:=(zaw hy rfl).2.2.1;rw[e3] at hm ⊢;by_cases hc:x.ctor=c'
 ·have hlen:x.kids.length=l'.length:=by rw[e1,hc];exact e2.symm
  obtain⟨_,r,n',rfl,h3,h4⟩:=zdV hlen hm;have:r=x.kids:=ziN h3 (fun i hi=>by
   have h5:=h4 i (by omega);rw[hl' _ (zaf (by omega))] at h5;by_cases o:(nth x.kids i).op=1
   ·have:=zev o h5;rw[this];have hk:=zaH (w:=w) (n:=k-1) (t:=t) (p:=x) (by
     cases k with
     |zero=>simp[zac] at hx
     |succ k=>exact hx) (i:=i) (by omega)
    exact(zyk hk o).symm
   ·exact zgO o rfl h5)
  rw[this]
 ·cases n with
  |zero=>simp[zan] at hm
  |succ n=>exact(zfo hm rfl (by(show ¬(4:Int)=1;decide)) hc).elim
theorem znj {n k:Nat}{x y z:Pat} (hx:zac w k t x=true) (hy:zac w k t y=true) (h1:shal x) (h2:¬shal y) (hm:zan n x y=some z):z=y:=by
 have y4:y.op=4:=by
  rcases zbh hy with h|h|h
  ·exact absurd (.inl h) h2
  ·exact absurd (.inr (.inl h)) h2
  ·exact h
 by_cases o1:x.op=1
 ·exact zev o1 hm
 have hso:=zbW hx hy o1 (by omega);rcases h1 with h|h|⟨c',l',rfl,hl'⟩
 ·exact absurd h o1
 ·omega
 obtain⟨_,_,e1,e3⟩:=zaw hy y4;have e2:=(zaw hx rfl).2.2.1;rw[e3] at hm ⊢;by_cases hc:c'=y.ctor
 ·have hlen:l'.length=y.kids.length:=by rw[e1,←hc];exact e2
  obtain⟨_,r,n',rfl,h3,h4⟩:=zdV hlen hm;have:r=y.kids:=ziN (by omega) (fun i hi=>by
   have h5:=h4 i (by omega);rw[hl' _ (zaf (by omega))] at h5;exact zev rfl h5)
  rw[this,hc]
 ·cases n with
  |zero=>simp[zan] at hm
  |succ n=>exact(zfo hm rfl (by(show ¬(4:Int)=1;decide)) hc).elim
theorem znk {n k:Nat}{x y z:Pat} (hx:zac w (k+1) t x=true) (hy:zac w (k+1) t y=true) (h1:zgy x) (h2:zgy y) (hm:zan n x y=some z):zgy z:=by
 by_cases o1:x.op=1
 ·rw[zev o1 hm];exact h2
 by_cases o2:y.op=1
 ·rw[zgO o1 o2 hm];exact h1
 by_cases o3:x.op=3
 ·exact .inr (.inl (zpl o3 o2 hm))
 have hso:=zbW hx hy o1 o2;rcases h1 with h|h|⟨c,l,rfl,hl⟩
 ·exact absurd h o1
 ·exact absurd h o3
 rcases h2 with h|h|⟨c',l',rfl,hl'⟩
 ·exact absurd h o2
 ·have:(4:Int)=3:=hso.trans h;omega
 have e1:=(zaw hx rfl).2.2.1;have e2:=(zaw hy rfl).2.2.1;by_cases hc:c=c'
 ·subst hc;have hll:l.length=l'.length:=e1.trans e2.symm;obtain⟨_,r,n',rfl,h3,h4⟩:=zdV hll hm;refine .inr (.inr ⟨c,r,rfl,fun q hq=>?_⟩);obtain⟨i,hi,rfl⟩:=List.getElem_of_mem hq;have h5:=h4 i (by omega);rw[zaP hi] at h5;have kx:=zaH hx (i:=i) (by show i<l.length;omega);have ky:=zaH hy (i:=i) (by show i<l'.length;omega);rw[zaU rfl] at kx ky;exact zid kx ky (hl _ (zaf (by omega))) (hl' _ (zaf (by omega))) h5
 ·cases n with
  |zero=>simp[zan] at hm
  |succ n=>exact(zfo hm rfl (by(show ¬(4:Int)=1;decide)) hc).elim
theorem zph {f g:Pat→Pat→Option Pat} (h:∀a b z,f a b=some z→g a b=some z):∀ {a b acc l:List Pat},zbv f a b acc=some l→zbv g a b acc=some l
 | [],b,acc,l,hm=>by
  cases b<;>exact hm
 |p::r,[],acc,l,hm=>hm
 |p::r,q::s,acc,l,hm=>by
  unfold zbv at hm ⊢;cases hf:f p q with
  |none=>rw[hf] at hm;cases hm
  |some x=>
   rw[hf] at hm;rw[h _ _ _ hf];exact zph h hm
theorem zsK:∀(n:Nat){x y z:Pat},zan n x y=some z→zan (n+1) x y=some z
 |0,x,y,z,h=>by simp[zan] at h
 |n+1,x,y,z,h=>by
  rw[zan] at h ⊢;split
  ·rename_i c;rw[if_pos c] at h;exact h
  rename_i c1;rw[if_neg c1] at h;split
  ·rename_i c;rw[if_pos c] at h;exact h
  rename_i c2;rw[if_neg c2] at h;split
  ·rename_i c;rw[if_pos c] at h;exact h
  rename_i c3;rw[if_neg c3] at h;split
  ·rename_i c;rw[if_pos c] at h;cases hl:zbv (zan n) x.kids y.kids [] with
   |none=>rw[hl] at h;cases h
   |some l=>
    rw[hl] at h;rw[zph (fun a b z hz=>zsK n hz) hl];exact h
  ·rename_i c;rw[if_neg c] at h;cases h
theorem zpk {n m:Nat} (h:n≤m){x y z:Pat} (hz:zan n x y=some z):zan m x y=some z:=by
 induction h with
 |refl=>exact hz
 |step _ ih=>exact zsK _ ih
def MeetK (w:List Data) (k:Nat) (t:Ty) (K K':Pat→Prop) (z:Pat):Prop:=∃x y n,K x∧K' y∧zac w k t x=true∧zac w k t y=true∧zan n x y=some z
theorem zvR {k:Nat}{K K':Pat→Prop} (h1:PosP K) (h2:PosP K'):PosP (MeetK w (k+1) t K K'):=by
 rcases h1 with h1|⟨x0,a1,a2,a3⟩
 ·rcases h2 with h2|⟨y0,b1,b2,b3⟩
  ·exact .inl fun z ⟨x,y,n,c1,c2,c3,c4,c5⟩=>zid c3 c4 (h1 x c1) (h2 y c2) c5
  ·exact .inr ⟨y0,b1,b2,fun z ⟨x,y,n,c1,c2,c3,c4,c5⟩=>by
    have:=b3 y c2;subst this;exact znj c3 c4 (h1 x c1) b2 c5⟩
 ·rcases h2 with h2|⟨y0,b1,b2,b3⟩
  ·exact .inr ⟨x0,a1,a2,fun z ⟨x,y,n,c1,c2,c3,c4,c5⟩=>by
    have:=a3 x c1;subst this;exact zpj c3 c4 a2 (h2 y c2) c5⟩
  ·refine PosP.one (fun z z' ⟨x,y,n,c1,c2,c3,c4,c5⟩ ⟨x',y',n',d1,d2,d3,d4,d5⟩=>?_) (fun z ⟨x,y,n,c1,c2,c3,c4,c5⟩=>?_)
   ·have e1:=a3 x c1;have e2:=b3 y c2;have e3:=a3 x' d1;have e4:=b3 y' d2;subst e1;subst e2;rw[e3,e4] at d5;rcases Nat.le_total n n' with h|h
    ·have:=zpk h c5;rw[this] at d5;cases d5;rfl
    ·have:=zpk h d5;rw[this] at c5;cases c5;rfl
   ·have e1:=a3 x c1;have e2:=b3 y c2;subst e1;subst e2;exact znk c3 c4 a1 b1 c5
theorem zw9 {k:Nat}{K:Pat→Prop} (h:PosP K):PosP (fun z=>K z∨MeetK w (k+1) t shal K z):=by
 rcases h with h|⟨y0,b1,b2,b3⟩
 ·refine .inl fun z hz=>?_;rcases hz with hz|⟨x,y,n,c1,c2,c3,c4,c5⟩
  ·exact h z hz
  ·exact zid c3 c4 c1 (h y c2) c5
 ·refine .inr ⟨y0,b1,b2,fun z hz=>?_⟩;rcases hz with hz|⟨x,y,n,c1,c2,c3,c4,c5⟩
  ·exact b3 z hz
  ·have:=b3 y c2;subst this;exact znj c3 c4 c1 b2 c5
theorem zxa {k:Nat}{K:Pat→Prop} (h:PosP K):PosP (fun z=>K z∨MeetK w (k+1) t K shal z):=by
 rcases h with h|⟨y0,b1,b2,b3⟩
 ·refine .inl fun z hz=>?_;rcases hz with hz|⟨x,y,n,c1,c2,c3,c4,c5⟩
  ·exact h z hz
  ·exact zid c3 c4 (h x c1) c2 c5
 ·refine .inr ⟨y0,b1,b2,fun z hz=>?_⟩;rcases hz with hz|⟨x,y,n,c1,c2,c3,c4,c5⟩
  ·exact b3 z hz
  ·have:=b3 x c1;subst this;exact zpj c3 c4 b2 c2 c5
theorem zja {K:Nat→Pat→Prop}{c:Int}{m:Nat}{p:Pat}{n:Nat} (h:CSat K c m p) (hp:zac w n t p=true):m=(zaa w t c).length∧p.op=4∧p.ctor=c:=by
 obtain⟨l,rfl,h1,_⟩:=h;exact⟨by rw[←h1];exact(zaw hp rfl).2.2.1,rfl,rfl⟩
theorem ztl {xs ys:List Pat} (hx:∀x∈xs,zac w 10 t x=true) (hy:∀y∈ys,zac w 10 t y=true) (h1:Form xs) (h2:Form ys):Form (zbT xs ys):=by
 rcases h1 with h1|⟨c,m,K,hK,h1⟩
 ·rcases h2 with h2|⟨c',m',K',hK',h2⟩
  ·refine .inl fun z hz=>?_;obtain⟨x,a1,y,a2,a3⟩:=zdK.1 hz;exact znk (k:=9) (hx x a1) (hy y a2) (h1 x a1) (h2 y a2) a3
  ·refine .inr ⟨c',m',fun j z=>K' j z∨MeetK w 9 (nth (zaa w t c') j) shal (K' j) z,fun j hj=>zw9 (hK' j hj),fun z hz=>?_⟩;obtain⟨x,a1,y,a2,a3⟩:=zdK.1 hz;have px:=hx x a1;have py:=hy y a2;obtain⟨b1,b2,b3⟩:=zja (h2 y a2) py;obtain⟨ly,rfl,b4,b5⟩:=h2 y a2;by_cases o1:x.op=1
   ·rw[zev o1 a3];exact⟨ly,rfl,b4,fun j hj=> .inl (b5 j hj)⟩
   have hso:=zbW px py o1 (by show ¬(4:Int)=1;decide);rcases h1 x a1 with h|h|⟨cx,lx,rfl,hl⟩
   ·exact absurd h o1
   ·have:(4:Int)=3:=by rw[←show(zaY c' ly).op=4 from rfl,←hso];exact h
    omega
   by_cases hc:cx=c'
   ·subst hc;have e1:=(zaw px rfl).2.2.1;have hll:lx.length=ly.length:=by have e:lx.length=(zaa w t cx).length:=e1;omega
    obtain⟨_,r,n',rfl,h3,h4⟩:=zdV hll a3;refine⟨r,rfl,by omega,fun j hj=> .inr ⟨nth lx j,nth ly j,n',hl _ (zaf (by omega)),b5 j hj, ?_, ?_,h4 j (by omega)⟩⟩
    ·have:=zaH px (i:=j) (by show j<lx.length;omega);rwa [zaU rfl] at this
    ·have:=zaH py (i:=j) (by show j<ly.length;omega);rwa [zaU rfl] at this
   ·exact(zfo a3 rfl (by(show ¬(4:Int)=1;decide)) hc).elim
 ·rcases h2 with h2|⟨c',m',K',hK',h2⟩
  ·refine .inr ⟨c,m,fun j z=>K j z∨MeetK w 9 (nth (zaa w t c) j) (K j) shal z,fun j hj=>zxa (hK j hj),fun z hz=>?_⟩;obtain⟨x,a1,y,a2,a3⟩:=zdK.1 hz;have px:=hx x a1;have py:=hy y a2;obtain⟨b1,b2,b3⟩:=zja (h1 x a1) px;obtain⟨lx,rfl,b4,b5⟩:=h1 x a1;by_cases o2:y.op=1
   ·rw[zgO (by show ¬(4:Int)=1;decide) o2 a3];exact⟨lx,rfl,b4,fun j hj=> .inl (b5 j hj)⟩
   have hso:=zbW px py (by show ¬(4:Int)=1;decide) o2;rcases h2 y a2 with h|h|⟨cy,ly,rfl,hl⟩
   ·exact absurd h o2
   ·have:(4:Int)=3:=hso.trans h;omega
   by_cases hc:c=cy
   ·subst hc;have e1:=(zaw py rfl).2.2.1;have hll:lx.length=ly.length:=by have e:ly.length=(zaa w t c).length:=e1;omega
    obtain⟨_,r,n',rfl,h3,h4⟩:=zdV hll a3;refine⟨r,rfl,by omega,fun j hj=> .inr ⟨nth lx j,nth ly j,n',b5 j hj,hl _ (zaf (by omega)), ?_, ?_,h4 j (by omega)⟩⟩
    ·have:=zaH px (i:=j) (by show j<lx.length;omega);rwa [zaU rfl] at this
    ·have:=zaH py (i:=j) (by show j<ly.length;omega);rwa [zaU rfl] at this
   ·exact(zfo a3 rfl (by(show ¬(4:Int)=1;decide)) hc).elim
  ·by_cases hc:c=c'
   ·subst hc;refine .inr ⟨c,m,fun j z=>MeetK w 9 (nth (zaa w t c) j) (K j) (fun y=>j<m'∧K' j y) z,fun j hj=>zvR (hK j hj) ?_,fun z hz=>?_⟩
    ·by_cases hj':j<m'
     ·rcases hK' j hj' with h|⟨x,d1,d2,d3⟩
      ·exact .inl fun k hk=>h k hk.2
      ·exact .inr ⟨x,d1,d2,fun k hk=>d3 k hk.2⟩
     ·exact .inl fun k hk=>absurd hk.1 hj'
    ·obtain⟨x,a1,y,a2,a3⟩:=zdK.1 hz;have px:=hx x a1;have py:=hy y a2;obtain⟨b1,_,_⟩:=zja (h1 x a1) px;obtain⟨d1,_,_⟩:=zja (h2 y a2) py;obtain⟨lx,rfl,b4,b5⟩:=h1 x a1;obtain⟨ly,rfl,d4,d5⟩:=h2 y a2;obtain⟨_,r,n',rfl,h3,h4⟩:=zdV (show lx.length=ly.length by omega) a3;refine⟨r,rfl,by omega,fun j hj=>⟨nth lx j,nth ly j,n',b5 j hj,⟨by omega,d5 j (by omega)⟩, ?_, ?_,h4 j (by omega)⟩⟩
     ·have:=zaH px (i:=j) (by show j<lx.length;omega);rwa [zaU rfl] at this
     ·have:=zaH py (i:=j) (by show j<ly.length;omega);rwa [zaU rfl] at this
   ·refine .inl fun z hz=>?_;obtain⟨x,a1,y,a2,a3⟩:=zdK.1 hz;obtain⟨lx,rfl,_⟩:=h1 x a1;obtain⟨ly,rfl,_⟩:=h2 y a2;exact(zfo a3 rfl (by(show ¬(4:Int)=1;decide)) hc).elim
end
theorem zsz {w:List Data} (hs:WSmall w) (hn:zgg w=true){a k:Int}{p q:Pat} (h2:zch w a k p q=true) (hf:zap w 10 ⟨a,k⟩ p=true→Form (zaq (zau p))) (hg:zap w 10 ⟨a,k⟩ q=true→Form (zaq (zau q))):FewQ w ⟨a,k⟩ (zbT (zaF p) (zaF q)):=by
 obtain⟨hsp,hin,t1,t2,s1,s2,e1,e2,_⟩:=zdN hs h2;intro res h;rw[e1,e2] at h;rw[e1] at t1;rw[e2] at t2;exact zqV hsp hn hin (ztl t1 t2 (hf s1) (hg s2)) (zfM t1 t2) h
def prA (b:Str):Pat:=(mutP b (typP b 0) (typQ b 0)).1
def prQ (b:Str):Nat:=(mutP b (typP b 0) (typQ b 0)).2
def prB (b:Str):Pat:=zb7 b (za6 b 0) (typT b 0) (prQ b)
theorem zyn (b:Str):prQ b≤610:=by
 have h1:=(zoM b 0).2.2;unfold prQ mutP;repeat' split
 all_goals (dsimp only;omega)
theorem zuP (b:Str):(prA b).size≤2000∧(prA b).ok:=by
 have h:=zoM b 0;exact zw3 (by omega) h.2.1
theorem zuQ (b:Str):(prB b).size≤242∧(prB b).ok:=znF (b:=b) (zd2 b 0).few (zi2 b 0) (prQ b)
theorem zrm (b:Str){w:List Data}{t:Ty} (h:zap w 10 t (prA b)=true):Form (zaq (zau (prA b))):=zvI h
theorem zrn (b:Str){w:List Data}{t:Ty} (h:zap w 10 t (prB b)=true):Form (zaq (zau (prB b))):=zpB (zpD _ _ _ _) h
theorem zoJ {b:Str} (hb:b.length≤1000000000000):
  FnD Tryz.prog 45 [.d (zcG b)] [] (.tup [.d (zam (za6 (b.take 2000) 0)),.agg [.d (.i (typT (b.take 2000) 0).data),.d (.i (typT (b.take 2000) 0).index)],
   .agg [.d (.i (prA (b.take 2000)).op),.d (.i (prA (b.take 2000)).ctor),.d (.i (prA (b.take 2000)).n),.d (.i (prA (b.take 2000)).m),.d (.i (prA (b.take 2000)).var),.d (zad (prA (b.take 2000)).kids)],
   .agg [.d (.i (prB (b.take 2000)).op),.d (.i (prB (b.take 2000)).ctor),.d (.i (prB (b.take 2000)).n),.d (.i (prB (b.take 2000)).m),.d (.i (prB (b.take 2000)).var),.d (zad (prB (b.take 2000)).kids)]]) []:=by
 have hop:=znJ hb;have hb2:(b.take 2000).length≤2000:=by rw[List.length_take];omega
 generalize b.take 2000=e at *;have hpo:=zoM e 0;have hl:=zd2 e 0;have hq:=zyn e;have hty:=znV (p:=0) hb2 (by omega);have hmp:=zms (q:=typQ e 0) hb2 (by omega) hpo.2.1;have hso:=zi0 hb2 hl.dp.wt hl.few (a:=(typT e 0).data) (k:=(typT e 0).index) (p:=prQ e) (by omega) (zi2 e 0);rw[show(mutP e (typP e 0) (typQ e 0)).1=prA e from rfl,show(mutP e (typP e 0) (typQ e 0)).2=prQ e from rfl] at hmp;rw[show zb7 e (za6 e 0) ⟨(typT e 0).data,(typT e 0).index⟩ (prQ e)=prB e from rfl] at hso;generalize prA e=x1 at *;generalize prB e=x2 at *;generalize prQ e=q1 at *;refine bd Tryz.f45 29 [] [] fun w0 F0 own kept hk=>?_;refine ab 3003 tz25 ?_;refine ab 3004 tz28 ?_;refine ab 3005 tz28 ?_;refine tv ?_;refine Walk.call (cr:=[900]) zyt (hop) rfl .none rfl rfl (LeL.refl _) trivial rfl (by rfl) (by rfl) ?_;refine ev ?_;refine wd zyz (hty) rfl rfl ⟨rfl,trivial⟩ ?_;refine ev ?_;refine ab 3008 tz25 ?_;refine ab 3009 tz28 ?_;refine ab 3010 tz44 ?_;refine ev ?_;refine so ty25 ?_;refine so ty28 ?_;refine so ty44 ?_;refine tv ?_;refine wd zyA (hmp) rfl rfl ⟨rfl,trivial⟩ ?_;refine evd [] [] ?_;refine wd zwo (hso) rfl rfl ⟨rfl,trivial⟩ ?_;refine evd [] [] ?_;refine so ty25 ?_;refine so ty28 ?_;refine so ty28 ?_;refine dr ?_;focus (refine rn0 (.cons (.tmp rfl) (.cons (.cellA ty25 rfl rfl rfl) (.cons (.cellA ty28 rfl rfl rfl) (.cons (.cellA ty28 rfl rfl rfl) .nil)))) (.tup (.cons (.eqd ?_) (.cons (.agg (.cons (.eqd ?_) (.cons (.eqd ?_) .nil))) (.cons (.agg (.cons (.eqd ?_) (.cons (.eqd ?_) (.cons (.eqd ?_) (.cons (.eqd ?_) (.cons (.eqd ?_) (.cons (.eqd ?_) .nil))))))) (.cons (.agg (.cons (.eqd ?_) (.cons (.eqd ?_) (.cons (.eqd ?_) (.cons (.eqd ?_) (.cons (.eqd ?_) (.cons (.eqd ?_) .nil))))))) .nil)))));all_goals (rfl))
theorem zeC {b:Str} (hb:b.length≤1000000000000):
  FnD Tryz.prog 26 [.d (zcG b)] [] (.tup [.d (zam (za6 (b.take 2000) 0)),.agg [.d (.i (typT (b.take 2000) 0).data),.d (.i (typT (b.take 2000) 0).index)],
   .agg [.d (.i (prA (b.take 2000)).op),.d (.i (prA (b.take 2000)).ctor),.d (.i (prA (b.take 2000)).n),.d (.i (prA (b.take 2000)).m),.d (.i (prA (b.take 2000)).var),.d (zad (prA (b.take 2000)).kids)],
   .agg [.d (.i (prB (b.take 2000)).op),.d (.i (prB (b.take 2000)).ctor),.d (.i (prB (b.take 2000)).n),.d (.i (prB (b.take 2000)).m),.d (.i (prB (b.take 2000)).var),.d (zad (prB (b.take 2000)).kids)]]) []:=by
 refine bd Tryz.f26 12 [] [] fun w0 F0 own kept hk=>?_;refine ab 3003 tz25 ?_;refine ab 3004 tz28 ?_;refine ab 3005 tz28 ?_;refine tv ?_;refine wc zyq (zoJ hb) rfl rfl ?_;refine ev ?_;refine so ty25 ?_;refine so ty28 ?_;refine so ty28 ?_;refine tv ?_;refine rn0 (.cons (.tmp rfl) (.cons (.cellA ty25 rfl rfl rfl) (.cons (.cellA ty28 rfl rfl rfl) (.cons (.cellA ty28 rfl rfl rfl) .nil)))) (.tup (.cons (.eqd ?_) (.cons (.agg (.cons (.eqd ?_) (.cons (.eqd ?_) .nil))) (.cons (.agg (.cons (.eqd ?_) (.cons (.eqd ?_) (.cons (.eqd ?_) (.cons (.eqd ?_) (.cons (.eqd ?_) (.cons (.eqd ?_) .nil))))))) (.cons (.agg (.cons (.eqd ?_) (.cons (.eqd ?_) (.cons (.eqd ?_) (.cons (.eqd ?_) (.cons (.eqd ?_) (.cons (.eqd ?_) .nil))))))) .nil)))));rotate_left 15;all_goals (rfl)
theorem ziB {b c:Str} (hb:b.length≤1000000000000) (hcl:c.length≤1000000000000):FnD Tryz.prog 7 [.d (zcG b),.d (zcG c)] [] (.d (.bool true)) []:=by
 have hdr:=zeC hb;have hs:WSmall (za6 (b.take 2000) 0):=(zgV (b.take 2000) 0).small;have hn:=zjS (b.take 2000) 0;have hp:=zuP (b.take 2000);have hq:=zuQ (b.take 2000);have hf:=fun {w:List Data}{t:Ty}=>zrm (b.take 2000) (w:=w) (t:=t);have hfew:∀ {q},zch (za6 (b.take 2000) 0) (typT (b.take 2000) 0).data (typT (b.take 2000) 0).index (prA (b.take 2000)) q=true→FewQ (za6 (b.take 2000) 0) ⟨(typT (b.take 2000) 0).data,(typT (b.take 2000) 0).index⟩ (zaF (prA (b.take 2000))):=fun h=>zsA hs hn h hf;have hg:=fun {w:List Data}{t:Ty}=>zrn (b.take 2000) (w:=w) (t:=t);have hfewM:zch (za6 (b.take 2000) 0) (typT (b.take 2000) 0).data (typT (b.take 2000) 0).index (prA (b.take 2000)) (prB (b.take 2000))=true→FewQ (za6 (b.take 2000) 0) ⟨(typT (b.take 2000) 0).data,(typT (b.take 2000) 0).index⟩ (zbT (zaF (prA (b.take 2000))) (zaF (prB (b.take 2000)))):=fun h=>zsz hs hn h hf hg;clear hf hg;generalize za6 (b.take 2000) 0=w at *;generalize (typT (b.take 2000) 0).data=a at *;generalize (typT (b.take 2000) 0).index=k at *;generalize prA (b.take 2000)=p at *;generalize prB (b.take 2000)=q at *;have hi:=zdT hs (a:=a) (k:=k) hp.2 hq.2;have hsp:=zfT hs (a:=a) (k:=k) hp.2 hq.2 (by omega) (by omega) hfewM;cases hm:meV w a k p q with
 |none=>
  rw[hm] at hi hsp;refine bd Tryz.f7 130 [54,67] [] fun w0 F0 own kept hk=>?_;refine sq ?_ ?_<;>intro h1 h1p h1s;try simp only[Q] at h1p
  refine sqT ?_;refine rn0 (r1 rfl) (.eqd ?_);rotate_left;try simp only[Q] at h1p
  refine sq ?_ ?_<;>intro h3 h3p h3s;try simp only[Q] at h3p
  refine rn0 (r1 rfl) (.eqd ?_);rotate_left;try simp only[Q] at h3p
  refine wc zmL (hdr) rfl rfl ?_;refine evs [54,67] [] ?_;refine ab 3006 tz25 ?_;refine ab 3007 tz28 ?_;refine ab 3008 tz28 ?_;refine evs [54,67] [] ?_;refine so ty25 ?_;refine so ty28 ?_;refine so ty28 ?_;refine tv ?_;refine wc zh4 (hi) rfl rfl ?_;refine evs [54,67] [] ?_;refine wc zmM (hsp) rfl rfl ?_;refine evs [54,67] [] ?_;refine xa8 un4 .none rfl rfl rfl ?_;refine evs [54,67] [] ?_;refine sq ?_ ?_<;>intro h4 h4p h4s;try simp only[Q] at h4p
  refine sqT ?_;refine sqT ?_;refine xaP un4 .none rfl rfl rfl ?_;refine evs [54,67] [] ?_;refine sq ?_ ?_<;>intro h6 h6p h6s;try simp only[Q] at h6p
  refine Walk.call (cr:=[]) zdv (zaN (l:=[]) (by simp) (by simp)) rfl (.some rfl rfl h6) rfl rfl (LeL.refl _) trivial rfl rfl rfl ?_;refine evs [54,67] [(68,true)] ?_ ⟨⟨_,rfl,h6⟩,trivial⟩;refine rn0 (r1 rfl) (.eqd ?_);rotate_left;try simp only[Q] at h6p
  refine rn0 (r1 rfl) (.eqd ?_);rotate_left;try simp only[Q] at h4p
  refine Walk.call (cr:=[]) zdv (zaN (l:=[]) (by simp) (by simp)) rfl (.some rfl rfl h4) rfl rfl (LeL.refl _) trivial rfl rfl rfl ?_;refine evs [54,67] [(55,false)] ?_ ⟨⟨_,rfl,h4⟩,trivial⟩;refine sq ?_ ?_<;>intro h7 h7p h7s;try simp only[Q] at h7p
  refine sqT ?_;refine xaP un4 .none rfl rfl rfl ?_;refine evs [54,67] [] ?_;refine sq ?_ ?_<;>intro h9 h9p h9s;try simp only[Q] at h9p
  refine Walk.call (cr:=[]) zdv (zaN (l:=[]) (by simp) (by simp)) rfl (.some rfl rfl h9) rfl rfl (LeL.refl _) trivial rfl rfl rfl ?_;refine evs [54,67] [(68,true)] ?_ ⟨⟨_,rfl,h9⟩,trivial⟩;refine rn0 (r1 rfl) (.eqd ?_);rotate_left;try simp only[Q] at h9p
  refine rn0 (r1 rfl) (.eqd ?_);rotate_left;try simp only[Q] at h7p
  refine sq ?_ ?_<;>intro h10 h10p h10s;try simp only[Q] at h10p
  refine xaP un4 .none rfl rfl rfl ?_;refine evs [54,67] [] ?_;refine sq ?_ ?_<;>intro h11 h11p h11s;try simp only[Q] at h11p
  refine Walk.call (cr:=[]) zdv (zaN (l:=[]) (by simp) (by simp)) rfl (.some rfl rfl h11) rfl rfl (LeL.refl _) trivial rfl rfl rfl ?_;refine evs [54,67] [(68,true)] ?_ ⟨⟨_,rfl,h11⟩,trivial⟩;refine rn0 (r1 rfl) (.eqd ?_);rotate_left;try simp only[Q] at h11p
  refine rn0 (r1 rfl) (.eqd ?_);rotate_left;try simp only[Q] at h10p
  focus (exfalso;first|contradiction|(simp at *;done))
  all_goals (first|rfl|contradiction|(exfalso;simp at *;done))
 |some z=>
  obtain⟨hz1,hz2,hsa,hin⟩:=zrb hs hm;rw[hm] at hi hsp;have hmod:0≤((c.map ze0).length:Int) % 3∧((c.map ze0).length:Int) % 3≤2:=by omega
  have hvu:=zgI hs (a:=a) (k:=k) (m:=1+((c.map ze0).length:Int) % 3);have hvl:=zs3 w ⟨a,k⟩ (1+((c.map ze0).length:Int) % 3);have hvok:=zvl hs ⟨a,k⟩ (1+((c.map ze0).length:Int) % 3);have hlaw:∀v∈(vut w ⟨a,k⟩ (1+((c.map ze0).length:Int) % 3)).1,z.countP (fun x=>(zbp w a k x v).2)=one ((zbp w a k p v).2&&(zbp w a k q v).2):=fun v hv=>zmf hs hm (zs2 hsa hin (by omega) hv).1;generalize (vut w ⟨a,k⟩ (1+((c.map ze0).length:Int) % 3)).1=vs at *;refine bd Tryz.f7 130 [54,78,128] [] fun w0 F0 own kept hk=>?_;refine sq ?_ ?_<;>intro h1 h1p h1s;try simp only[Q,Int.natCast_inj,Val.cs_len,Pat.cs_len] at h1p
  refine sqT ?_;refine rn0 (r1 rfl) (.eqd ?_);rotate_left;try simp only[Q,Int.natCast_inj,Val.cs_len,Pat.cs_len] at h1p
  refine sq ?_ ?_<;>intro h3 h3p h3s;try simp only[Q,Int.natCast_inj,Val.cs_len,Pat.cs_len] at h3p
  refine rn0 (r1 rfl) (.eqd ?_);rotate_left;try simp only[Q,Int.natCast_inj,Val.cs_len,Pat.cs_len] at h3p
  refine wc zmL (hdr) rfl rfl ?_;refine evs [54,78,128] [] ?_;refine ab 3006 tz25 ?_;refine ab 3007 tz28 ?_;refine ab 3008 tz28 ?_;refine evs [54,78,128] [] ?_;refine so ty25 ?_;refine so ty28 ?_;refine so ty28 ?_;refine tv ?_;refine wc zh4 (hi) rfl rfl ?_;refine evs [54,78,128] [] ?_;refine wc zmM (hsp) rfl rfl ?_;refine evs [54,78,128] [] ?_;refine xa8 un4 .none rfl rfl rfl ?_;refine evs [54,78,128] [] ?_;refine sq ?_ ?_<;>intro h4 h4p h4s;try simp only[Q,Int.natCast_inj,Val.cs_len,Pat.cs_len] at h4p
  refine sqT ?_;refine sqT ?_;focus (exfalso;first|contradiction|(simp at *;done))
  try simp only[Q,Int.natCast_inj,Val.cs_len,Pat.cs_len] at h4p
  refine Walk.call (cr:=[]) zdv (zaN (l:=z) (by omega) hz2) rfl (.some rfl rfl h4) rfl rfl (LeL.refl _) trivial rfl rfl rfl ?_;refine evs [54,78,128] [(55,false)] ?_ ⟨⟨_,rfl,h4⟩,trivial⟩;refine sq ?_ ?_<;>intro h6 h6p h6s;try simp only[Q,Int.natCast_inj,Val.cs_len,Pat.cs_len] at h6p
  refine sqT ?_;focus (exfalso;first|contradiction|(simp at *;done))
  try simp only[Q,Int.natCast_inj,Val.cs_len,Pat.cs_len] at h6p
  refine sq ?_ ?_<;>intro h8 h8p h8s;try simp only[Q,Int.natCast_inj,Val.cs_len,Pat.cs_len] at h8p
  focus (exfalso;first|contradiction|(simp at *;done))
  try simp only[Q,Int.natCast_inj,Val.cs_len,Pat.cs_len] at h8p
  refine xbf .none rfl rfl rfl (by omega) ?_;refine evs [54,78,128] [] ?_;refine ar ?_;refine wc zwf (hvu) rfl rfl ?_;refine evs [54,78,128] [] ?_;refine xaj (ι:=List (Val)×List (Val)) hk (fun x=>[(15,.d (.i (x.1.length:Int)))]) [4,16,17,18,19,20,83,84,85,86,87,88,89,90,91,92,93,94,95,96,97,98,99,100,101,102,103,104,105,106,107,108,109,110,111,112,113,114,115,116,117,118,119,120,121,122,123,124,125,126,127,128,129] (fun x=>[]) (fun x=>x.1++x.2=vs) (fun x=>x.2.length) ([],vs) (by simp) ⟨⟨_,rfl,xap ?_⟩,trivial⟩ trivial (fun x=>rfl) (fun x hg1=>?_);focus (first|rfl|(simp;done)|(simp_all;done)|omega)
  obtain⟨pre,rest⟩:=x;dsimp only at hg1 ⊢;refine evc [54,78,128] [] ?_;refine sq ?_ ?_<;>intro h9 h9p h9s;try simp only[Q,Int.natCast_inj,Val.cs_len,Pat.cs_len] at h9p
  rcases rest with _|⟨v,rest⟩
  ·exfalso;simp_all
  refine xaT sl37 .none rfl rfl rfl rfl (Val.cs_at hg1) rfl ?_;refine evd [54,78,128] [] ?_;refine wc zs6 (zdS hs hp.2 (hvok v (by rw[←hg1];simp))) rfl rfl ?_;refine evd [54,78,128] [] ?_;refine dr ?_;refine xaT sl37 .none rfl rfl rfl rfl (Val.cs_at hg1) rfl ?_;refine evd [54,78,128] [] ?_;refine wc zs6 (zdS hs hq.2 (hvok v (by rw[←hg1];simp))) rfl rfl ?_;refine evd [54,78,128] [] ?_;refine dr ?_;refine xaT sl37 .none rfl rfl rfl rfl (Val.cs_at hg1) rfl ?_;refine evd [54,78,128] [] ?_;refine wc zs7 (zeV hs (l:=z) (by omega) hz2 (hvok v (by rw[←hg1];simp))) rfl rfl ?_;refine evd [54,78,128] [] ?_;refine dr ?_;refine sq ?_ ?_<;>intro h10 h10p h10s;try simp only[Q,Int.natCast_inj,Val.cs_len,Pat.cs_len] at h10p
  refine sqT ?_;focus (exfalso;have hlw:=hlaw v (by rw[←hg1];simp);generalize List.countP (fun x=>(zbp w a k x v).2) z=nn at *;cases hx:(zbp w a k p v).2<;>cases hy:(zbp w a k q v).2<;>rw[hx,hy] at hlw<;>simp[one] at hlw<;>first|omega|(simp_all;done)|(simp_all;omega))
  try simp only[Q,Int.natCast_inj,Val.cs_len,Pat.cs_len] at h10p
  refine sq ?_ ?_<;>intro h12 h12p h12s;try simp only[Q,Int.natCast_inj,Val.cs_len,Pat.cs_len] at h12p
  refine xa8 un4 (.some rfl rfl h10) rfl rfl rfl ?_;refine evs [54,78,128] [(121,false)] ?_ ⟨⟨_,rfl,h10⟩,trivial⟩;refine sq ?_ ?_<;>intro h13 h13p h13s;try simp only[Q,Int.natCast_inj,Val.cs_len,Pat.cs_len] at h13p
  focus (exfalso;have hlw:=hlaw v (by rw[←hg1];simp);generalize List.countP (fun x=>(zbp w a k x v).2) z=nn at *;cases hx:(zbp w a k p v).2<;>cases hy:(zbp w a k q v).2<;>rw[hx,hy] at hlw<;>simp[one] at hlw<;>first|omega|(simp_all;done)|(simp_all;omega))
  try simp only[Q,Int.natCast_inj,Val.cs_len,Pat.cs_len] at h13p
  refine ar ?_;refine Exists.intro ((pre++[v],rest)) ⟨(by have hz:=hg1;rw[←hz];simp),(by simp),sx ⟨⟨_,rfl,xap ?_⟩,trivial⟩ trivial⟩;focus (first|rfl|(simp;done)|(simp_all;done)|omega)
  try simp only[Q,Int.natCast_inj,Val.cs_len,Pat.cs_len] at h12p
  refine xa8 un4 (.some rfl rfl h10) rfl rfl rfl ?_;refine evs [54,78,128] [(121,false)] ?_ ⟨⟨_,rfl,h10⟩,trivial⟩;refine sq ?_ ?_<;>intro h14 h14p h14s;try simp only[Q,Int.natCast_inj,Val.cs_len,Pat.cs_len] at h14p
  focus (exfalso;have hlw:=hlaw v (by rw[←hg1];simp);generalize List.countP (fun x=>(zbp w a k x v).2) z=nn at *;cases hx:(zbp w a k p v).2<;>cases hy:(zbp w a k q v).2<;>rw[hx,hy] at hlw<;>simp[one] at hlw<;>first|omega|(simp_all;done)|(simp_all;omega))
  try simp only[Q,Int.natCast_inj,Val.cs_len,Pat.cs_len] at h14p
  refine ar ?_;refine Exists.intro ((pre++[v],rest)) ⟨(by have hz:=hg1;rw[←hz];simp),(by simp),sx ⟨⟨_,rfl,xap ?_⟩,trivial⟩ trivial⟩;focus (first|rfl|(simp;done)|(simp_all;done)|omega)
  try simp only[Q,Int.natCast_inj,Val.cs_len,Pat.cs_len] at h9p
  have hrest:rest=[]:=by
   rcases rest with _|⟨a,b⟩
   ·rfl
   ·exfalso;have hz:=congrArg List.length (hg1);simp only[xaa,xab,xac] at hz;omega
  subst hrest;refine rn0 (r1 rfl) (.eqd ?_);rotate_left;all_goals (first|rfl|contradiction|(exfalso;simp at *;done))
end Go.Proofs.YtpgdedpljcedpaaGreat
namespace Go.Proofs.YtpgdedpljcedpaaGreat
open Go Go.ChangeShapes Go.WideShapes Go.ChangeAt Go.RowKit
set_option linter.unusedSimpArgs false
set_option linter.unusedVariables false
set_option linter.unusedVariables false
def FW (W:World) (b:Nat):Nat:=match W.heap[b]? with
 |some (.cells cs _ _)=>cs.size
 |_=>0
theorem FW_cell {W:World}{b o:Nat}{v:Value} (h:W.cell? ⟨b,o,none⟩=some v):o<FW W b:=by
 unfold World.cell? at h;unfold FW;simp only at h;split at h
 ·rename_i c t fr hb;simp only[hb];simp only[Option.isSome_none,Bool.false_eq_true,if_false] at h;exact(Array.getElem?_eq_some_iff.1 h).1
 ·cases h
theorem FW_top {W:World}{b:Nat} (h:W.heap.size≤b):FW W b=0:=by
 unfold FW;rw[Array.getElem?_eq_none h]
structure RelL (W:World) (xs:List D) (cs:List Value):Prop where
 len:xs.length=cs.length
 rel:∀i (h1:i<xs.length) (h2:i<cs.length),RelD (FW W) W xs[i] cs[i]
theorem RelL.append {W:World}{xs ys:List D}{cs ds:List Value} (h:RelL W xs cs) (k:RelL W ys ds):RelL W (xs++ys) (cs++ds):=by
 refine⟨by simp[h.len,k.len],fun i h1 h2=>?_⟩;by_cases hi:i<xs.length
 ·rw[List.getElem_append_left hi,List.getElem_append_left (by rw[←h.len];exact hi)];exact h.rel i hi (by rw[←h.len];exact hi)
 ·have hl:=h.len;rw[List.getElem_append_right (by omega),List.getElem_append_right (by omega)];have e:i-xs.length=i-cs.length:=by omega
  have h1':i-xs.length<ys.length:=by simp only[xaa] at h1;omega
  have h2':i-cs.length<ds.length:=by simp only[xaa] at h2;omega
  have:=k.rel (i-xs.length) h1' (by omega);simp only[e] at this ⊢;exact this
def Dec (P:Program) (W:World) (n:Nat) (t:TypeId){α:Type} (f:α→List D) (m:α→Nat) (R:α→Prop):Prop:=
 ∀(H:Type) (enc:TypeId×Value→H) (cs:List Value) (x:DataW H×List MemPlace),DataW.trod enc P W 0 (fun _=>true) true n t cs=some x→
  ∃a,RelL W (f a) cs∧m a+1≤Rows.uptoBulk x.1∧R a
section
variable {P:Program}{W:World}{n:Nat}{t:TypeId}
theorem Dec.zero {α:Type}{f:α→List D}{m:α→Nat}{R:α→Prop}:Dec P W 0 t f m R:=fun H enc cs x h=>by simp[DataW.trod] at h
theorem Dec.map {α β:Type}{f:α→List D}{m:α→Nat}{R:α→Prop}{f':β→List D}{m':β→Nat}{R':β→Prop} (g:α→β) (h:Dec P W n t f m R)
  (h1:∀a,f' (g a)=f a) (h2:∀a,m' (g a)≤m a) (h3:∀a,R a→R' (g a)):Dec P W n t f' m' R':=fun H enc cs x hx=>by
 obtain⟨a,q1,q2,q3⟩:=h H enc cs x hx;exact⟨g a,by rw[h1];exact q1,by have:=h2 a;omega,h3 a q3⟩
theorem RelL.one {x:D}{v:Value} (h:RelD (FW W) W x v):RelL W [x] [v]:=
 ⟨rfl,fun i h1 h2=>by
  have:i=0:=by simp at h1;omega
  subst this;exact h⟩
theorem Dec.int {k:IntKind} (ht:P.underlying t=some (.int k)):Dec P W n t (fun z:Int=>[.int k z]) (fun _=>0) (fun z=>(Lit.int k z).wf=true):=fun H enc cs x h=>by
 obtain⟨z,rfl,rfl,hw⟩:=DataW.trod_int ht h;exact⟨z,.one (.int k z),by simp[Rows.uptoBulk],hw⟩
theorem Dec.bool (ht:P.underlying t=some .bool):Dec P W n t (fun z:Bool=>[.bool z]) (fun _=>0) (fun _=>True):=fun H enc cs x h=>by
 obtain⟨z,rfl,rfl⟩:=DataW.trod_bool ht h;exact⟨z,.one (.bool z),by simp[Rows.uptoBulk],trivial⟩
theorem Dec.str (ht:P.underlying t=some .string):Dec P W n t (fun s:Str=>[.str s]) (fun s=>s.length) (fun _=>True):=fun H enc cs x h=>by
 obtain⟨s,rfl,rfl,hw⟩:=DataW.trod_string ht h;exact⟨s.data.toList,.one (by have:=RelD.str (F:=FW W) (w:=W) s.data.toList;simpa using this),by simp[Rows.uptoBulk],trivial⟩
def sumM {α:Type} (m:α→Nat):List α→Nat
 | []=>0
 |a::r=>m a+1+sumM m r
theorem zjC {α:Type} (m:α→Nat):∀l:List α,l.length≤sumM m l
 | []=>by simp[sumM]
 |a::r=>by have:=zjC m r;simp only[sumM,xab];omega
theorem zlA {α β:Type}{Q:Nat→α→β→Prop}:∀(l:List β) (o:Nat),(∀i (h:i<l.length),∃a,Q (o+i) a l[i])→∃zs:List α,zs.length=l.length∧∀i (h:i<l.length) (h':i<zs.length),Q (o+i) zs[i] l[i]
 | [],o,_=>⟨[],rfl,fun i h=>by simp at h⟩
 |b::r,o,h=>by
  obtain⟨a,ha⟩:=h 0 (by simp);obtain⟨zs,h1,h2⟩:=zlA (Q:=Q) r (o+1) (fun i hi=>by
   have:=h (i+1) (by simp;omega);rw[show o+1+i=o+(i+1) by omega];simpa using this)
  refine⟨a::zs,by simp[h1],fun i hi hi'=>?_⟩;cases i with
  |zero=>exact ha
  |succ i=>
   have:=h2 i (by simpa using hi) (by simpa using hi');rw[show o+1+i=o+(i+1) by omega] at this;simpa using this
theorem zqr {H α:Type}{m:α→Nat}:∀ {zs:List α}{xs:List (DataW H)},zs.length=xs.length→(∀i (h:i<zs.length) (h':i<xs.length),m zs[i]+1≤Rows.uptoBulk xs[i])→sumM m zs≤Rows.uptoBulkAll xs
 | [],[],_,_=>by simp[sumM,Rows.uptoBulkAll]
 |a::zs,x::xs,hl,h=>by
  have h0:=h 0 (by simp) (by simp);have ih:=zqr (m:=m) (zs:=zs) (xs:=xs) (by simpa using hl) (fun i h1 h2=>by
   have:=h (i+1) (by simp;omega) (by simp;omega);simpa using this)
  simp only[sumM,Rows.uptoBulkAll];simp only[List.getElem_cons_zero] at h0;omega
 | [],_::_,hl,_=>by simp at hl
 |_::_,[],hl,_=>by simp at hl
theorem Dec.sl {α:Type}{f:α→List D}{m:α→Nat}{R:α→Prop}{e:TypeId}{k:Nat} (ht:P.underlying t=some (.slice e)) (hc:P.cellsOf e=k+1) (hk:∀a,(f a).length=k+1) (he:Dec P W n e f m R):
  Dec P W (n+1) t (fun l:List α=>[.sl (l.map f)]) (fun l=>sumM m l) (fun l=>∀a∈l,R a):=fun H enc cs x h=>by
 rcases DataW.trod_slice ht h with ⟨rfl,rfl⟩|⟨a,len,cap,elems,rest,n',hn,rfl,rfl,_,hcap,_,hlen,hel,_,_⟩
 ·exact⟨[],.one .nil,by simp[sumM,Rows.uptoBulk],fun a h=>by simp at h⟩
 obtain rfl:n=n':=by omega
 have each:∀i (hi:i<elems.length),∃y,(∃cs,W.cells? 0 (a.add (i*(k+1))) (k+1)=some cs∧RelL W (f y) cs)∧m y+1≤Rows.uptoBulk (elems[i]).1∧R y:=by
  intro i hi;have:=hel i (by omega);rw[hc,List.getElem?_eq_getElem hi,Option.bind_eq_some_iff] at this;obtain⟨cs,h1,h2⟩:=this;obtain⟨y,h3,h4,h5⟩:=he H enc cs _ h2;exact⟨y,⟨cs,h1,h3⟩,h4,h5⟩
 obtain⟨zs,hal,has⟩:=zlA (Q:=fun i y (el:DataW H×List MemPlace)=>(∃cs,W.cells? 0 (a.add (i*(k+1))) (k+1)=some cs∧RelL W (f y) cs)∧m y+1≤Rows.uptoBulk el.1∧R y) elems 0 (fun i hi=>by simpa using each i hi);refine⟨zs,.one ?_, ?_,fun y hy=>?_⟩
 ·by_cases h0:zs=[]
  ·subst h0;have hz:len=0:=by simp at hal;omega
   subst hz;obtain⟨b,o,s⟩:=a;cases s with
   |none=>exact .sl [] 0 b o cap (fun _=>undef) (by simp) (by simp) (fun n hn=>by simp at hn) (fun i hi=>by simp at hi)
   |some s=>exact .emp b o s cap
  ·have hpos:0<zs.length:=List.length_pos_iff.2 h0;obtain⟨⟨cs0,hc0,hr0⟩,_⟩:=has 0 (by omega) hpos;have hspot:a.spot=none:=by
    have h1:=(World.cells?_some hc0).2.2 0 (by omega);have h2:0<cs0.length:=by have:=(World.cells?_some hc0).2.1;omega
    simp only[Nat.add_zero,Nat.zero_mul,Addr.add,if_true,List.getElem?_eq_getElem h2] at h1;unfold World.cell? at h1;split at h1
    ·cases hs:a.spot with
     |none=>rfl
     |some s=>simp[hs] at h1
    ·cases h1
   obtain⟨b,o,s⟩:=a;simp only at hspot;subst hspot;have hlen':(zs.map f).length=len:=by simp;omega
   have hmulk:∀i j,i<zs.length→j<k+1→i*(k+1)+j<zs.length*(k+1):=fun i j hi hj=>by
    have:(i+1)*(k+1)≤zs.length*(k+1):=Nat.mul_le_mul_right _ (by omega);rw[Nat.add_mul,Nat.one_mul] at this;omega
   have cellAt:∀i (hi:i<zs.length) j (hj:j<(f zs[i]).length),∃v,W.cell? ⟨b,o+(i*(k+1)+j),none⟩=some v∧RelD (FW W) W ((f zs[i])[j]) v:=fun i hi j hj=>by
    obtain⟨⟨cs,hc1,hr1⟩,_⟩:=has i (by omega) hi;have hjk:j<k+1:=by have:=hk zs[i];omega
    obtain⟨_,q1,q2⟩:=World.cells?_some hc1;have q3:=q2 j hjk;rw[List.getElem?_eq_getElem (by omega)] at q3;refine⟨cs[j], ?_,hr1.rel j hj (by omega)⟩;rw[←q3];congr 1
    simp only[Nat.zero_add,Addr.add];split<;>split<;>simp_all<;>omega
   have hv:((zs.map f).length,cap)=(len,cap):=by rw[hlen']
   have goal:RelD (FW W) W (.sl (zs.map f)) (.slice (some ⟨b,o,none⟩) (zs.map f).length cap):=by
    refine .sl _ (k+1) b o cap (fun q=>(W.cell? ⟨b,o+q,none⟩).getD undef) (fun y hy=>?_) (by omega) (fun q hq=>?_) (fun i hi j hj=>?_)
    ·obtain⟨y',_,rfl⟩:=List.mem_map.1 hy;exact hk y'
    ·have hq':q<zs.length*(k+1):=by simpa using hq
     have hi:q / (k+1)<zs.length:=Nat.div_lt_of_lt_mul (by rw[Nat.mul_comm];exact hq');have hj:q % (k+1)<k+1:=Nat.mod_lt _ (by omega);obtain⟨v,h1,_⟩:=cellAt _ hi (q % (k+1)) (by rw[hk];exact hj);rw[Nat.div_add_mod'] at h1;exact⟨FW_cell h1,by rw[h1];rfl⟩
    ·have hi':i<zs.length:=by simpa using hi
     simp only[List.getElem_map] at hj ⊢;obtain⟨v,h1,h2⟩:=cellAt i hi' j hj;show RelD (FW W) W _ ((W.cell? ⟨b,o+(i*(k+1)+j),none⟩).getD undef)
     rw[h1];exact h2
   rw[hlen'] at goal;exact goal
 ·have:=zqr (m:=m) (zs:=zs) (xs:=elems.map (·.1)) (by simp[hal]) (fun i h1 h2=>by
   have:=(has i (by simpa using h2) h1).2.1;simpa using this)
  simp only[Rows.uptoBulk];omega
 ·obtain⟨i,hi,rfl⟩:=List.getElem_of_mem hy;exact(has i (by omega) hi).2.2
def DecF (P:Program) (W:World) (n o K:Nat) (fs:List Field){α:Type} (f:α→List D) (m:α→Nat) (R:α→Prop):Prop:=
 ∀(H:Type) (enc:TypeId×Value→H) (cs:List Value) (xs:List (DataW H×List MemPlace)),cs.length=K→xs.length=fs.length→
  (∀(i:Nat) (fd:Field),fs[i]?=some fd→DataW.trod enc P W 0 (fun _=>true) true n fd.type ((cs.drop fd.offset).take (P.cellsOf fd.type))=xs[i]?)→
  ∃a,RelL W (f a) (cs.drop o)∧m a≤Rows.uptoBulkAll (xs.map (·.1))∧R a
theorem DecF.nil {K:Nat}:DecF P W n K K [] (fun _:Unit=>[]) (fun _=>0) (fun _=>True):=fun H enc cs xs h1 h2 _=>
 ⟨(),by rw[List.drop_of_length_le (by omega)];exact⟨rfl,fun i h=>by simp at h⟩,by simp,trivial⟩
theorem DecF.cons {α β:Type}{f:α→List D}{m:α→Nat}{R:α→Prop}{f2:β→List D}{m2:β→Nat}{R2:β→Prop}{o K k:Nat}{fd:Field}{fs:List Field}
  (h1:Dec P W n fd.type f m R) (ho:fd.offset=o) (hc:P.cellsOf fd.type=k) (h2:DecF P W n (o+k) K fs f2 m2 R2):
  DecF P W n o K (fd::fs) (fun p:α×β=>f p.1++f2 p.2) (fun p=>m p.1+1+m2 p.2) (fun p=>R p.1∧R2 p.2):=fun H enc cs xs hK hl hx=>by
 cases xs with
 |nil=>simp at hl
 |cons y ys=>
  have h0:=hx 0 fd (by simp);simp only[List.getElem?_cons_zero] at h0;rw[ho,hc] at h0;obtain⟨a,q1,q2,q3⟩:=h1 H enc _ _ h0;obtain⟨b,r1,r2,r3⟩:=h2 H enc cs ys hK (by simpa using hl) (fun i fd' hi=>by
   have:=hx (i+1) fd' (by simpa using hi);simpa using this)
  refine⟨(a,b), ?_, ?_,q3,r3⟩
  ·have:cs.drop o=(cs.drop o).take k++cs.drop (o+k):=by
    rw[←List.drop_drop,List.take_append_drop]
   rw[this];exact q1.append r1
  ·simp only[xae,Rows.uptoBulkAll];omega
theorem Dec.struct {α:Type}{f:α→List D}{m:α→Nat}{R:α→Prop}{fs:Array Field} (ht:P.underlying t=some (.struct fs)){K:Nat} (hK:P.cellsOf t=K) (h:DecF P W n 0 K fs.toList f m R):
  Dec P W (n+1) t f m R:=fun H enc cs x hx=>by
 obtain⟨xs,n',hn,rfl,hl,hxl,hf⟩:=DataW.trod_struct ht hx;obtain rfl:n=n':=by omega
 obtain⟨a,q1,q2,q3⟩:=h H enc cs xs (by omega) (by simpa using hxl) (fun i fd hi=>hf i fd (by simpa using hi));refine⟨a,by simpa using q1, ?_,q3⟩;simp only[Rows.uptoBulk];omega
end
section
variable {P:Program}{W:World}{base:Nat}{t:TypeId}{v:Value}{H:Type}{enc:TypeId×Value→H}{d:DataW H}{ps:List MemPlace}
theorem zqo {α:Type}{e:TypeId}{f:α→List D}{m:α→Nat}{R:α→Prop}{k:Nat} (ht:P.underlying t=some (.slice e)) (hc:P.cellsOf e=k+1) (hk:∀a,(f a).length=k+1) (hd:∀n,Dec P W n e f m R)
  (hval:Value.okWide P W .any base t v) (h:DataW.Trod enc P W 0 (fun _=>true) true t v d ps):
  ∃l:List α,(∀G T,G.F=FW W→RelA G T W (.d (.sl (l.map f))) v)∧sumM m l+1≤Rows.uptoBulk d∧∀a∈l,R a:=by
 obtain⟨n,hn⟩:=h;cases n with
 |zero=>simp[DataW.trod] at hn
 |succ n=>
  obtain⟨l,h1,h2,h3⟩:=Dec.sl ht hc hk (hd n) H enc _ _ hn;have hcells:v.cells.toList=[v]:=by
   cases v with
   |agg cs=>simp only[Value.okWide,ht,Cell.okWide,Cell.ok] at hval
   |_=>rfl
  rw[hcells] at h1;exact⟨l,fun G T hG=> .d (by rw[hG];simpa using h1.rel 0 (by simp) (by simp)),h2,h3⟩
end
section
variable {P:Program}{H:Type}{enc:TypeId×Value→H}
theorem zjR (hl:laidOutB P=true){W W':World} (hb:Below W.heap.size W W'):∀ {ts:List TypeId}{vs:List Value}{ds:List (DataW H)}{ps:List MemPlace},
  (∀t∈ts,P.readableRec t=true∧t<P.types.size)→DataW.TrodAll enc P W 0 (fun _=>true) true ts vs ds ps→(∀x∈ps,x.block<W.heap.size)→
  DataW.TrodAll enc P W' 0 (fun b=>decide (b<W.heap.size)) true ts vs ds ps
 | [],[],[],ps,_,h,_=>h
 |t::ts,v::vs,d::ds,ps,hr,h,hlt=>by
  obtain⟨p,q,h1,h2,rfl⟩:=h;exact⟨p,q,Below.trod hl (hr t (by simp)).1 (hr t (by simp)).2 h1 hb (fun x hx=>hlt x (by simp[hx])),
   zjR hl hb (fun t ht=>hr t (by simp[ht])) h2 (fun x hx=>hlt x (by simp[hx])),rfl⟩
theorem zq8 {f:Func}{s:ChangeSpec}{W W':World}{args:Array Value}{ds gs:List (DataW H)}{before:List MemPlace}{tb:TypeId}
  (hW:DataW.Whole enc P f.params.toList s.vars false W args.toList ds gs before) (hvars:s.vars=[]) (hrt:f.resultTypes = #[tb]) (htb:P.underlying tb=some .bool)
  (hs:s.fn H (ds++gs)={ results:=[.lit (.bool true)],args:=ds }) (hl:laidOutB P=true) (hr:∀t∈f.params.toList,P.readableRec t=true∧t<P.types.size)
  (hb:Below W.heap.size W W'):s.post enc P f false true false false W args (.bool true) W':=by
 have hlt:∀p∈before,p.block<W.heap.size:=fun p hp=>hW.lt p hp;have hW0:=hW;obtain⟨p,q,hA,hV,rfl,hfz,_⟩:=hW;rw[hvars] at hV;cases gs with
 |cons g gs=>exact hV.elim
 |nil=>
  have hq:q=[]:=hV;subst hq;simp only[List.append_nil] at *;refine⟨ds,[],p,[],p,[],by simpa [hvars] using hW0, ?_, ?_, ?_,World.keptBut_mono (fun x hx=>⟨hx,.inr (.inl hx)⟩) (hb.frame (·∈p)),fun h=>by cases h⟩
  ·simp only[List.append_nil,hs,hrt];exact trodAll_cons_mk (shut_bool htb _) trodAll_mk0
  ·simp only[List.append_nil,hs];exact zjR hl hb hr hA hlt
  ·simp only[hvars,List.append_nil,hs];rfl
theorem zpd {f:FuncId}{avs:List AV}{W:World}{args:Array Value}{r:AV} (hf:FnD P f avs [] r [])
  (hargs:∀G T,G.F=FW W→AllR G T W avs args):Calls P f args W fun e W'=>∃v G',e = .returned v∧RelA G' (fun _=>none) W' r v∧Below W.heap.size W W':=by
 let G:Gh:={ F:=FW W,loc:=fun _=>[] }
 refine(hf G W args ⟨hargs G _ rfl,fun id r h=>(by simp[getH] at h),fun id id' h=>(by simp[getH] at h),fun b hb=>FW_top hb⟩).mono ?_;rintro e W' ⟨v,r',hp',G',rfl,⟨rfl,rfl⟩,h⟩
 exact⟨v,G',rfl,h.res,⟨h.frm.os,h.frm.tape,h.frm.output,h.frm.size,fun b hb=>(h.frm.block b hb (by simp[zc2])).1⟩⟩
theorem RelA.bool_true {G:Gh}{T:TokF}{w:World}{v:Value} (h:RelA G T w (.d (.bool true)) v):v = .bool true:=by
 cases h with|d h=>cases h;rfl
theorem zqq {H:Type}{l:List (DataW H)} (hk:Rows.uptoSmall H l=true):Rows.uptoBulkAll l≤1048576:=of_decide_eq_true hk
end
end Go.Proofs.YtpgdedpljcedpaaGreat
namespace Go.Proofs.YtpgdedpljcedpaaGreat
open Go Go.ChangeShapes Go.WideShapes Go.ChangeAt Go.RowKit
set_option linter.unusedSimpArgs false
set_option linter.unusedVariables false
set_option maxRecDepth 100000
theorem zoe (W:World) (n:Nat):Dec Tryz.prog W n 5 (fun x:UInt8=>[D.int .u8 (x.toNat:Int)]) (fun _=>0) (fun _=>True):=fun H enc cs x hx=>by
 obtain⟨z,q1,q2,q3⟩:=Dec.int (k:= .u8) Tryz.underlying5 H enc cs x hx;have h:0≤z∧z≤255:=by
  simp[Lit.wf,IntKind.wrap,IntKind.signed,IntKind.bits,IntKind.min,IntKind.max] at q3;omega
 refine⟨UInt8.ofNat z.toNat, ?_,q2,trivial⟩;have e:(((UInt8.ofNat z.toNat).toNat:Nat):Int)=z:=by
  rw[UInt8.toNat_ofNat',Nat.mod_eq_of_lt (by omega)];omega
 show RelL W [D.int .u8 (((UInt8.ofNat z.toNat).toNat:Nat):Int)] cs
 rw[e];exact q1
end Go.Proofs.YtpgdedpljcedpaaGreat
namespace Go.Proofs.YtpgdedpljcedpaaGreat
open Go
set_option linter.unusedSimpArgs false
set_option linter.unusedVariables false
set_option maxRecDepth 100000
set_option maxHeartbeats 2000000
theorem zkx {b:Str} (hb:b.length≤1000000000000):FnD Tryz.prog 8 [.d (zcG b)] [] (.d (.bool true)) []:=by
 have hdr:=zeC hb;have hs:WSmall (za6 (b.take 2000) 0):=(zgV (b.take 2000) 0).small;have hn:=zjS (b.take 2000) 0;have hp:=zuP (b.take 2000);have hq:=zuQ (b.take 2000);have hf:=fun {w:List Data}{t:Ty}=>zrm (b.take 2000) (w:=w) (t:=t);have hfew:∀ {q},zch (za6 (b.take 2000) 0) (typT (b.take 2000) 0).data (typT (b.take 2000) 0).index (prA (b.take 2000)) q=true→FewQ (za6 (b.take 2000) 0) ⟨(typT (b.take 2000) 0).data,(typT (b.take 2000) 0).index⟩ (zaF (prA (b.take 2000))):=fun h=>zsA hs hn h hf;have hg:=fun {w:List Data}{t:Ty}=>zrn (b.take 2000) (w:=w) (t:=t);have hfewM:zch (za6 (b.take 2000) 0) (typT (b.take 2000) 0).data (typT (b.take 2000) 0).index (prA (b.take 2000)) (prB (b.take 2000))=true→FewQ (za6 (b.take 2000) 0) ⟨(typT (b.take 2000) 0).data,(typT (b.take 2000) 0).index⟩ (zbT (zaF (prA (b.take 2000))) (zaF (prB (b.take 2000)))):=fun h=>zsz hs hn h hf hg;clear hf hg;generalize za6 (b.take 2000) 0=w at *;generalize (typT (b.take 2000) 0).data=a at *;generalize (typT (b.take 2000) 0).index=k at *;generalize prA (b.take 2000)=p at *;generalize prB (b.take 2000)=q at *;have hi:=zdT hs (a:=a) (k:=k) hp.2 hq.2;have hi2:=zdT hs (a:=a) (k:=k) hq.2 hp.2;have hsp:=zfT hs (a:=a) (k:=k) hp.2 hq.2 (by omega) (by omega) hfewM;cases hm:meV w a k p q with
 |none=>
  rw[hm] at hi hsp;generalize meV w a k q p=m2 at hi2;refine bd Tryz.f8 111 [52,69] [] fun w0 F0 own kept hk=>?_;refine sq ?_ ?_<;>intro h1 h1p h1s;try simp only[Q] at h1p
  refine rn0 (r1 rfl) (.eqd ?_);rotate_left;try simp only[Q] at h1p
  refine wc zmL (hdr) rfl rfl ?_;refine evs [52,69] [] ?_;refine ab 3004 tz25 ?_;refine ab 3005 tz28 ?_;refine ab 3006 tz28 ?_;refine evs [52,69] [] ?_;refine so ty25 ?_;refine so ty28 ?_;refine so ty28 ?_;refine tv ?_;refine wc zh4 (hi) rfl rfl ?_;refine evs [52,69] [] ?_;refine wc zmM (hsp) rfl rfl ?_;refine evs [52,69] [] ?_;refine wc zh4 (hi2) rfl rfl ?_;refine evs [52,69] [] ?_;refine xa8 un4 .none rfl rfl rfl ?_;refine evs [52,69] [] ?_;refine sq ?_ ?_<;>intro h2 h2p h2s;try simp only[Q] at h2p
  refine sqT ?_;refine sqT ?_;refine sqT ?_;refine xaP un4 .none rfl rfl rfl ?_;refine evs [52,69] [] ?_;refine sq ?_ ?_<;>intro h4 h4p h4s;try simp only[Q] at h4p
  refine Walk.call (cr:=[]) zdv (zaN (l:=[]) (by simp) (by simp)) rfl (.some rfl rfl h4) rfl rfl (LeL.refl _) trivial rfl rfl rfl ?_;refine evs [52,69] [(70,true)] ?_ ⟨⟨_,rfl,h4⟩,trivial⟩;refine rn0 (r1 rfl) (.eqd ?_);rotate_left;try simp only[Q] at h4p
  refine rn0 (r1 rfl) (.eqd ?_);rotate_left;try simp only[Q] at h2p
  refine Walk.call (cr:=[]) zdv (zaN (l:=[]) (by simp) (by simp)) rfl (.some rfl rfl h2) rfl rfl (LeL.refl _) trivial rfl rfl rfl ?_;refine evs [52,69] [(53,false)] ?_ ⟨⟨_,rfl,h2⟩,trivial⟩;refine sq ?_ ?_<;>intro h5 h5p h5s;try simp only[Q] at h5p
  refine sqT ?_;refine sqT ?_;refine xaP un4 .none rfl rfl rfl ?_;refine evs [52,69] [] ?_;refine sq ?_ ?_<;>intro h7 h7p h7s;try simp only[Q] at h7p
  refine Walk.call (cr:=[]) zdv (zaN (l:=[]) (by simp) (by simp)) rfl (.some rfl rfl h7) rfl rfl (LeL.refl _) trivial rfl rfl rfl ?_;refine evs [52,69] [(70,true)] ?_ ⟨⟨_,rfl,h7⟩,trivial⟩;refine rn0 (r1 rfl) (.eqd ?_);rotate_left;try simp only[Q] at h7p
  refine rn0 (r1 rfl) (.eqd ?_);rotate_left;try simp only[Q] at h5p
  refine sq ?_ ?_<;>intro h8 h8p h8s;try simp only[Q] at h8p
  refine sqT ?_;refine xaP un4 .none rfl rfl rfl ?_;refine evs [52,69] [] ?_;refine sq ?_ ?_<;>intro h10 h10p h10s;try simp only[Q] at h10p
  refine Walk.call (cr:=[]) zdv (zaN (l:=[]) (by simp) (by simp)) rfl (.some rfl rfl h10) rfl rfl (LeL.refl _) trivial rfl rfl rfl ?_;refine evs [52,69] [(70,true)] ?_ ⟨⟨_,rfl,h10⟩,trivial⟩;refine rn0 (r1 rfl) (.eqd ?_);rotate_left;try simp only[Q] at h10p
  refine rn0 (r1 rfl) (.eqd ?_);rotate_left;try simp only[Q] at h8p
  refine sq ?_ ?_<;>intro h11 h11p h11s;try simp only[Q] at h11p
  refine xaP un4 .none rfl rfl rfl ?_;refine evs [52,69] [] ?_;refine sq ?_ ?_<;>intro h12 h12p h12s;try simp only[Q] at h12p
  refine Walk.call (cr:=[]) zdv (zaN (l:=[]) (by simp) (by simp)) rfl (.some rfl rfl h12) rfl rfl (LeL.refl _) trivial rfl rfl rfl ?_;refine evs [52,69] [(70,true)] ?_ ⟨⟨_,rfl,h12⟩,trivial⟩;refine rn0 (r1 rfl) (.eqd ?_);rotate_left;try simp only[Q] at h12p
  refine rn0 (r1 rfl) (.eqd ?_);rotate_left;try simp only[Q] at h11p
  focus (exfalso;contradiction)
  all_goals (first|rfl|contradiction)
 |some z=>
  obtain⟨hz1,hz2,hsa,hin⟩:=zrb hs hm;rw[hm] at hi hsp;cases hm2:meV w a k q p with
  |none=>
   rw[hm2] at hi2;refine bd Tryz.f8 111 [52,69] [] fun w0 F0 own kept hk=>?_;refine sq ?_ ?_<;>intro h1 h1p h1s;try simp only[Q] at h1p
   refine rn0 (r1 rfl) (.eqd ?_);rotate_left;try simp only[Q] at h1p
   refine wc zmL (hdr) rfl rfl ?_;refine evs [52,69] [] ?_;refine ab 3004 tz25 ?_;refine ab 3005 tz28 ?_;refine ab 3006 tz28 ?_;refine evs [52,69] [] ?_;refine so ty25 ?_;refine so ty28 ?_;refine so ty28 ?_;refine tv ?_;refine wc zh4 (hi) rfl rfl ?_;refine evs [52,69] [] ?_;refine wc zmM (hsp) rfl rfl ?_;refine evs [52,69] [] ?_;refine wc zh4 (hi2) rfl rfl ?_;refine evs [52,69] [] ?_;refine xa8 un4 .none rfl rfl rfl ?_;refine evs [52,69] [] ?_;refine sq ?_ ?_<;>intro h2 h2p h2s;try simp only[Q] at h2p
   refine sqT ?_;refine sqT ?_;refine sqT ?_;refine xaP un4 .none rfl rfl rfl ?_;refine evs [52,69] [] ?_;refine sq ?_ ?_<;>intro h4 h4p h4s;try simp only[Q] at h4p
   refine Walk.call (cr:=[]) zdv (zaN (l:=z) (by omega) hz2) rfl (.some rfl rfl h4) rfl rfl (LeL.refl _) trivial rfl rfl rfl ?_;refine evs [52,69] [(70,true)] ?_ ⟨⟨_,rfl,h4⟩,trivial⟩;refine rn0 (r1 rfl) (.eqd ?_);rotate_left;try simp only[Q] at h4p
   refine rn0 (r1 rfl) (.eqd ?_);rotate_left;try simp only[Q] at h2p
   refine Walk.call (cr:=[]) zdv (zaN (l:=z) (by omega) hz2) rfl (.some rfl rfl h2) rfl rfl (LeL.refl _) trivial rfl rfl rfl ?_;refine evs [52,69] [(53,false)] ?_ ⟨⟨_,rfl,h2⟩,trivial⟩;refine sq ?_ ?_<;>intro h5 h5p h5s;try simp only[Q] at h5p
   refine sqT ?_;refine sqT ?_;refine xaP un4 .none rfl rfl rfl ?_;refine evs [52,69] [] ?_;refine sq ?_ ?_<;>intro h7 h7p h7s;try simp only[Q] at h7p
   refine Walk.call (cr:=[]) zdv (zaN (l:=z) (by omega) hz2) rfl (.some rfl rfl h7) rfl rfl (LeL.refl _) trivial rfl rfl rfl ?_;refine evs [52,69] [(70,true)] ?_ ⟨⟨_,rfl,h7⟩,trivial⟩;refine rn0 (r1 rfl) (.eqd ?_);rotate_left;try simp only[Q] at h7p
   refine rn0 (r1 rfl) (.eqd ?_);rotate_left;try simp only[Q] at h5p
   refine sq ?_ ?_<;>intro h8 h8p h8s;try simp only[Q] at h8p
   refine sqT ?_;refine xaP un4 .none rfl rfl rfl ?_;refine evs [52,69] [] ?_;refine sq ?_ ?_<;>intro h10 h10p h10s;try simp only[Q] at h10p
   refine Walk.call (cr:=[]) zdv (zaN (l:=z) (by omega) hz2) rfl (.some rfl rfl h10) rfl rfl (LeL.refl _) trivial rfl rfl rfl ?_;refine evs [52,69] [(70,true)] ?_ ⟨⟨_,rfl,h10⟩,trivial⟩;refine rn0 (r1 rfl) (.eqd ?_);rotate_left;try simp only[Q] at h10p
   refine rn0 (r1 rfl) (.eqd ?_);rotate_left;try simp only[Q] at h8p
   refine sq ?_ ?_<;>intro h11 h11p h11s;try simp only[Q] at h11p
   refine xaP un4 .none rfl rfl rfl ?_;refine evs [52,69] [] ?_;refine sq ?_ ?_<;>intro h12 h12p h12s;try simp only[Q] at h12p
   refine Walk.call (cr:=[]) zdv (zaN (l:=z) (by omega) hz2) rfl (.some rfl rfl h12) rfl rfl (LeL.refl _) trivial rfl rfl rfl ?_;refine evs [52,69] [(70,true)] ?_ ⟨⟨_,rfl,h12⟩,trivial⟩;refine rn0 (r1 rfl) (.eqd ?_);rotate_left;try simp only[Q] at h12p
   refine rn0 (r1 rfl) (.eqd ?_);rotate_left;try simp only[Q] at h11p
   focus (exfalso;contradiction)
   all_goals (first|rfl|contradiction)
  |some y=>
   obtain⟨hy1,hy2,_,_⟩:=zrb hs hm2;rw[hm2] at hi2;have hvu:=zgI hs (a:=a) (k:=k) (m:=2);have hvl:=zs3 w ⟨a,k⟩ 2;have hvok:=zvl hs ⟨a,k⟩ 2;have hlaw:∀v∈(vut w ⟨a,k⟩ 2).1,z.countP (fun x=>(zbp w a k x v).2)=y.countP (fun x=>(zbp w a k x v).2):=fun v hv=>by
    have hiv:=(zs2 hsa hin (by omega) hv).1;rw[zmf hs hm hiv,zmf hs hm2 hiv,Bool.and_comm]
   have hlen:decide (z.length=0)=decide (y.length=0):=by
    rw[decide_eq_decide];exact⟨fun h=>by rw[zq9 hs hm hm2 (List.eq_nil_of_length_eq_zero h)];rfl,fun h=>by rw[zq9 hs hm2 hm (List.eq_nil_of_length_eq_zero h)];rfl⟩
   generalize (vut w ⟨a,k⟩ 2).1=vs at *;refine bd Tryz.f8 111 [52,110] [] fun w0 F0 own kept hk=>?_;refine sq ?_ ?_<;>intro h1 h1p h1s;try simp only[Q,Int.natCast_inj,Val.cs_len,Pat.cs_len] at h1p
   refine rn0 (r1 rfl) (.eqd ?_);rotate_left;try simp only[Q,Int.natCast_inj,Val.cs_len,Pat.cs_len] at h1p
   refine wc zmL (hdr) rfl rfl ?_;refine evs [52,110] [] ?_;refine ab 3004 tz25 ?_;refine ab 3005 tz28 ?_;refine ab 3006 tz28 ?_;refine evs [52,110] [] ?_;refine so ty25 ?_;refine so ty28 ?_;refine so ty28 ?_;refine tv ?_;refine wc zh4 (hi) rfl rfl ?_;refine evs [52,110] [] ?_;refine wc zmM (hsp) rfl rfl ?_;refine evs [52,110] [] ?_;refine wc zh4 (hi2) rfl rfl ?_;refine evs [52,110] [] ?_;refine xa8 un4 .none rfl rfl rfl ?_;refine evs [52,110] [] ?_;refine sq ?_ ?_<;>intro h2 h2p h2s;try simp only[Q,Int.natCast_inj,Val.cs_len,Pat.cs_len] at h2p
   refine sqT ?_;refine sqT ?_;refine sqT ?_;focus (exfalso;contradiction)
   try simp only[Q,Int.natCast_inj,Val.cs_len,Pat.cs_len] at h2p
   refine Walk.call (cr:=[]) zdv (zaN (l:=z) (by omega) hz2) rfl (.some rfl rfl h2) rfl rfl (LeL.refl _) trivial rfl rfl rfl ?_;refine evs [52,110] [(53,false)] ?_ ⟨⟨_,rfl,h2⟩,trivial⟩;refine sq ?_ ?_<;>intro h4 h4p h4s;try simp only[Q,Int.natCast_inj,Val.cs_len,Pat.cs_len] at h4p
   refine sqT ?_;refine sqT ?_;focus (exfalso;contradiction)
   try simp only[Q,Int.natCast_inj,Val.cs_len,Pat.cs_len] at h4p
   refine sq ?_ ?_<;>intro h6 h6p h6s;try simp only[Q,Int.natCast_inj,Val.cs_len,Pat.cs_len] at h6p
   refine sqT ?_;focus (exfalso;contradiction)
   try simp only[Q,Int.natCast_inj,Val.cs_len,Pat.cs_len] at h6p
   refine sq ?_ ?_<;>intro h8 h8p h8s;try simp only[Q,Int.natCast_inj,Val.cs_len,Pat.cs_len] at h8p
   focus (exfalso;contradiction)
   try simp only[Q,Int.natCast_inj,Val.cs_len,Pat.cs_len] at h8p
   refine wc zwf (hvu) rfl rfl ?_;refine evs [52,110] [] ?_;refine xaj (ι:=List (Val)×List (Val)) hk (fun x=>[(15,.d (.i (x.1.length:Int)))]) [2,81,82,83,84,85,86,87,88,89,90,91,92,93,94,95,96,97,98,99,100,101,102,103] (fun x=>[]) (fun x=>x.1++x.2=vs) (fun x=>x.2.length) ([],vs) (by simp) ⟨⟨_,rfl,xap ?_⟩,trivial⟩ trivial (fun x=>rfl) (fun x hg1=>?_);focus (rfl)
   obtain⟨pre,rest⟩:=x;dsimp only at hg1 ⊢;refine evc [52,110] [] ?_;refine sq ?_ ?_<;>intro h9 h9p h9s;try simp only[Q,Int.natCast_inj,Val.cs_len,Pat.cs_len] at h9p
   rcases rest with _|⟨v,rest⟩
   ·exfalso;simp_all
   refine xaT sl37 .none rfl rfl rfl rfl (Val.cs_at hg1) rfl ?_;refine evd [52,110] [] ?_;refine wc zs7 (zeV hs (l:=z) (by omega) hz2 (hvok v (by rw[←hg1];simp))) rfl rfl ?_;refine evd [52,110] [] ?_;refine xaT sl37 .none rfl rfl rfl rfl (Val.cs_at hg1) rfl ?_;refine evd [52,110] [] ?_;refine wc zs7 (zeV hs (l:=y) (by omega) hy2 (hvok v (by rw[←hg1];simp))) rfl rfl ?_;refine evd [52,110] [] ?_;refine dr ?_;refine sq ?_ ?_<;>intro h10 h10p h10s;try simp only[Q,Int.natCast_inj,Val.cs_len,Pat.cs_len] at h10p
   focus (exfalso;have hlw:=hlaw v (by rw[←hg1];simp);omega)
   try simp only[Q,Int.natCast_inj,Val.cs_len,Pat.cs_len] at h10p
   refine ar ?_;refine Exists.intro ((pre++[v],rest)) ⟨(by have hz:=hg1;rw[←hz];simp),(by simp),sx ⟨⟨_,rfl,xap ?_⟩,trivial⟩ trivial⟩;focus ((simp;done))
   try simp only[Q,Int.natCast_inj,Val.cs_len,Pat.cs_len] at h9p
   have hrest:rest=[]:=by
    rcases rest with _|⟨a,b⟩
    ·rfl
    ·exfalso;have hz:=congrArg List.length (hg1);simp only[xaa,xab,xac] at hz;omega
   subst hrest;refine xaP un4 .none rfl rfl rfl ?_;refine evs [52,110] [] ?_;refine rn0 (r1 rfl) (.eqd ?_);rotate_left;all_goals ((simp_all[Pat.cs_len];done))
end Go.Proofs.YtpgdedpljcedpaaGreat
