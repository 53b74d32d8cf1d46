/-
  THE ABSTRACT WALK AND THE WALKS, part 5 of 6: the parts F157, F158, F159, F160, F161, F162, G8, F163, F164, F165, F166, G7, G9, G10, G11, F167.
-/
import Derived.Test.YtmchfdpleibpdaaGreatT584
namespace Go.Proofs.YtmchfdpleibpdaaGreat
open Go
set_option linter.unusedSimpArgs false
set_option linter.unusedVariables false
set_option maxRecDepth 100000
set_option maxHeartbeats 4000000
abbrev zdH:Ex:= .mk 0 0 0 []
def argL (f:Ty->Int->Ex×Int) (s:Str):Nat->List Ty->Int->Option (List Ex×Int)
 |_,[],a=>some ([],a)
 |i,t::ts,a=>if za4 s a (if i=0 then 40 else 44)=true then (match argL f s (i+1) ts (f t (a+1)).2 with|none=>none|some r=>some ((f t (a+1)).1::r.1,r.2)) else none
def argV (f:Ty->Int->Ex×Int) (s:Str) (ts:List Ty) (a:Int):List Ex×Int:=
 match argL f s 0 ts a with
 |none=>([],-1)
 |some r=>if ts.length=0 then r else if za4 s r.2 41=true then (r.1,r.2+1) else ([],-1)
theorem zm3 {f:Ty->Int->Ex×Int}{s:Str} (hf:∀t a,EndIn s (f t a).2):∀(ts:List Ty) (i:Nat) (a:Int),EndIn s a->∀r,argL f s i ts a=some r->EndIn s r.2/\r.1.length=ts.length
 | [],_,a,ha,r,h=>by rw[argL] at h;cases h;exact⟨ha,rfl⟩
 |t::ts,i,a,ha,r,h=>by
  rw[argL] at h;by_cases hc:za4 s a (if i=0 then 40 else 44)=true
  ·rw[if_pos hc] at h;cases e:argL f s (i+1) ts (f t (a+1)).2 with
   |none=>rw[e] at h;cases h
   |some r2=>
    rw[e] at h;cases h;have:=zm3 hf ts (i+1) _ (hf t (a+1)) r2 e;exact⟨this.1,by simp[this.2]⟩
  ·rw[if_neg hc] at h;cases h
theorem zjD {f:Ty->Int->Ex×Int}{s:Str} (hf:∀t a,EndIn s (f t a).2){ts:List Ty}{a:Int} (ha:EndIn s a):EndIn s (argV f s ts a).2:=by
 have z:EndIn s ((([]:List Ex),(-1:Int))).2:=⟨Int.le_refl _,by dsimp only;omega⟩;unfold argV;cases e:argL f s 0 ts a with
 |none=>exact z
 |some r=>
  dsimp only;split
  ·exact(zm3 hf ts 0 a ha r e).1
  split
  ·rename_i h;have:=zfK h;exact⟨by dsimp only;omega,by dsimp only;omega⟩
  ·exact z
theorem zlN {f:Ty->Int->Ex×Int}{s:Str}{ts:List Ty}{i:Nat}{a:Int} (hi:i<ts.length):
  argL f s i (ts.drop i) a=if za4 s a (if i=0 then 40 else 44)=true then (match argL f s (i+1) (ts.drop (i+1)) (f (nth ts i) (a+1)).2 with|none=>none|some r=>some ((f (nth ts i) (a+1)).1::r.1,r.2)) else none:=by
 rw[zbd hi,argL]
def addE (acc:List Ex):Option (List Ex×Int)->Option (List Ex×Int)
 |none=>none
 |some r=>some (acc++r.1,r.2)
theorem zqJ (o:Option (List Ex×Int)):addE [] o=o:=by cases o<;>rfl
theorem zqN {f:Ty->Int->Ex×Int}{s:Str}{ts:List Ty}{i:Nat}{a:Int}{acc:List Ex}{o:Option (List Ex×Int)} (hi:i<ts.length)
  (h:addE acc (argL f s i (ts.drop i) a)=o) (hs:za4 s a (if i=0 then 40 else 44)=true):
  addE (acc++[(f (nth ts i) (a+1)).1]) (argL f s (i+1) (ts.drop (i+1)) (f (nth ts i) (a+1)).2)=o:=by
 rw[<-h,zlN hi,if_pos hs];cases argL f s (i+1) (ts.drop (i+1)) (f (nth ts i) (a+1)).2 with
 |none=>rfl
 |some r=>simp[addE]
theorem zrU {f:Ty->Int->Ex×Int}{s:Str}{ts:List Ty}{i:Nat}{a:Int}{acc:List Ex}{o:Option (List Ex×Int)} (hi:i<ts.length)
  (h:addE acc (argL f s i (ts.drop i) a)=o) (hs:za4 s a (if i=0 then 40 else 44)=false):o=none:=by
 rw[<-h,zlN hi,if_neg (by rw[hs];simp)];rfl
theorem zrV {f:Ty->Int->Ex×Int}{s:Str}{ts:List Ty}{i:Nat}{a:Int}{acc:List Ex}{o:Option (List Ex×Int)} (hi:ts.length<=i)
  (h:addE acc (argL f s i (ts.drop i) a)=o):o=some (acc,a):=by
 rw[<-h,List.drop_eq_nil_of_le hi,argL];simp[addE]
theorem zic {s:Str}{a n:Int} (c:UInt8) (hs:s.length<=1000000000000) (h:n=(c.toNat:Int)):FnD Tryz.prog 265 [.d (.str s),.d (.i a),.d (.int .u8 n)] [] (.d (.bool (za4 s a c))) []:=by
 subst h;exact zaG hs
theorem zkY {w:List Data}{funs:List Ft}{s:Str} (hs:s.length<=1000000000000 / 2){ts:List Ty} (hg:ts.length<=3){a0 dep:Int} (ha0:EndIn s a0){f:Ty->Int->Ex×Int} (hfe:∀t a,EndIn s (f t a).2)
  (hf:∀t∈ts,∀a,EndIn s a->FnD Tryz.prog 233 [.d (zak w),.d (zbq funs),.agg [.d (.i t.data),.d (.i t.index)],.d (.str s),.d (.i a),.d (.i dep)] [] (.tup [.agg [.d (.i (f t a).1.op),.d (.i (f t a).1.n),.d (.i (f t a).1.ctor),.d (zaX (f t a).1.kids)],.d (.i (f t a).2)]) []):
  FnD Tryz.prog 269 [.d (zak w),.d (zbq funs),.d (zbI ts),.d (.str s),.d (.i a0),.d (.i dep)] [] (.tup [.d (zaX (argV f s ts a0).1),.d (.i (argV f s ts a0).2)]) []:=by
 have hsl:s.length<=1000000000000:=by omega
 unfold argV;generalize ho:argL f s 0 ts a0=o;have hbad:=fun(i:Nat) (a:Int) (acc:List Ex)=>zrU (f:=f) (s:=s) (ts:=ts) (i:=i) (a:=a) (acc:=acc) (o:=o);have hend:=fun(i:Nat) (a:Int) (acc:List Ex)=>zrV (f:=f) (s:=s) (ts:=ts) (i:=i) (a:=a) (acc:=acc) (o:=o);have hnext:=fun(i:Nat) (a:Int) (acc:List Ex)=>zqN (f:=f) (s:=s) (ts:=ts) (i:=i) (a:=a) (acc:=acc) (o:=o);have hsg:∀(a:Int) (i:Nat) (v:Bool),i=0->za4 s a 40=v->za4 s a (if i=0 then 40 else 44)=v:=fun a i v h h2=>by rw[if_pos h];exact h2
 have hsg2:∀(a:Int) (i:Nat) (v:Bool),¬i=0->za4 s a 44=v->za4 s a (if i=0 then 40 else 44)=v:=fun a i v h h2=>by rw[if_neg h];exact h2
 have hyes:∀ {a:Int}{c:UInt8},za4 s a c=true->0<=a/\a<(s.length:Int):=fun h=>zfK h;have hnt:∀ {a:Int},za4 s a 41=false->¬za4 s a 41=true:=fun h=>by rw[h];simp
 refine bd Tryz.f269 64 [] [] fun w0 F0 own kept hk=>?_;refine xa6 1 sl33 .none rfl rfl ?_;refine ev ?_;refine xak (ι:=Nat×List Ex×Int) hk (fun x=>[(15,.d (.i (x.1:Int))),(14,.gl 1 (x.2.1.map Ex.cc)),(4,.d (.i x.2.2))]) [12,13,16,17,18,20,21,22,23,24,25,26,27,28,29,30,31,32,33,34,35,36,37,38,39,40,41,42,43,44,45,46,47,48,49,50,51] (fun x=>[(1,some (.tok ((x.2.1.map Ex.cc)).length 4))]) (fun x=>x.1<=ts.length/\x.2.1.length<=x.1/\(-1<=x.2.2/\x.2.2<=(s.length:Int))/\addE x.2.1 (argL f s x.1 (ts.drop x.1) x.2.2)=o) (fun x=>ts.length-x.1) (0,[],a0) ⟨by simp,by simp,ha0,by rw[zqJ];exact ho⟩ ⟨⟨_,rfl,xap ?_⟩,⟨⟨_,rfl,LeA.glg ?_⟩,⟨⟨_,rfl,xap ?_⟩,trivial⟩⟩⟩ ⟨zaf ?_,trivial⟩ (fun x=>rfl) (fun x hg1=>?_);iterate 4 focus (first|rfl|(simp;done)|omega|(simp;omega))
 refine evc [] [] ?_;refine sq ?_ ?_<;>intro h1 h1p h1s<;>(try simp only[Q,Int.natCast_inj,xac] at h1p);refine sq ?_ ?_<;>intro h2 h2p h2s<;>(try simp only[Q,Int.natCast_inj,xac] at h2p);refine wc zbN (zic (s:=s) (a:=x.2.2) (if x.1=0 then 40 else 44) hsl (by first|(rw[if_pos (by omega)];rfl)|(rw[if_neg (by omega)];rfl))) rfl rfl ?_;refine ev ?_;refine sq ?_ ?_<;>intro h3 h3p h3s<;>(try simp only[Q,Int.natCast_inj,xac] at h3p);refine rn0 (r2 rfl rfl) (.tup (.cons (.nild ?_) (.cons (.eqd ?_) .nil)));rotate_left 2;refine Walk.idx zax .none rfl rfl rfl rfl (zae (by omega)) rfl ?_;refine ev ?_;refine ar ?_;refine wc znc (hf (nth ts x.1) (zaj (by omega)) (x.2.2+1) (by have:=hyes (a:=x.2.2) (by assumption);exact⟨by omega,by omega⟩)) rfl rfl ?_;refine ev ?_;refine ab 3017 tz40 ?_;refine so ty40 ?_;refine ev ?_;refine si [0] [_] sl33 tz40 ?_;refine ap sl33 zz40 rfl rfl rfl (by intro x hx;simp at hx;subst hx;rfl) (by simp;omega) ?_;refine ev ?_;refine ar ?_;refine xah ((x.1+1,x.2.1++[(f (nth ts x.1) (x.2.2+1)).1],(f (nth ts x.1) (x.2.2+1)).2)) ⟨⟨by dsimp only;omega,by simp;omega,hfe _ _,hnext x.1 x.2.2 x.2.1 (by omega) hg1.2.2.2 (by assumption)⟩,(by dsimp only;omega),sx ⟨⟨_,rfl,xap ?_⟩,⟨⟨_,rfl,LeA.glg ?_⟩,⟨⟨_,rfl,xap ?_⟩,trivial⟩⟩⟩ ⟨zaf ?_,trivial⟩⟩;iterate 4 focus (first|rfl|(simp;done)|omega|(simp;omega))
 refine wc zbN (zic (s:=s) (a:=x.2.2) (if x.1=0 then 40 else 44) hsl (by first|(rw[if_pos (by omega)];rfl)|(rw[if_neg (by omega)];rfl))) rfl rfl ?_;refine ev ?_;refine sq ?_ ?_<;>intro h4 h4p h4s<;>(try simp only[Q,Int.natCast_inj,xac] at h4p);refine rn0 (r2 rfl rfl) (.tup (.cons (.nild ?_) (.cons (.eqd ?_) .nil)));rotate_left 2;refine Walk.idx zax .none rfl rfl rfl rfl (zae (by omega)) rfl ?_;refine ev ?_;refine ar ?_;refine wc znc (hf (nth ts x.1) (zaj (by omega)) (x.2.2+1) (by have:=hyes (a:=x.2.2) (by assumption);exact⟨by omega,by omega⟩)) rfl rfl ?_;refine ev ?_;refine ab 3017 tz40 ?_;refine so ty40 ?_;refine ev ?_;refine si [0] [_] sl33 tz40 ?_;refine ap sl33 zz40 rfl rfl rfl (by intro x hx;simp at hx;subst hx;rfl) (by simp;omega) ?_;refine ev ?_;refine ar ?_;refine xah ((x.1+1,x.2.1++[(f (nth ts x.1) (x.2.2+1)).1],(f (nth ts x.1) (x.2.2+1)).2)) ⟨⟨by dsimp only;omega,by simp;omega,hfe _ _,hnext x.1 x.2.2 x.2.1 (by omega) hg1.2.2.2 (by assumption)⟩,(by dsimp only;omega),sx ⟨⟨_,rfl,xap ?_⟩,⟨⟨_,rfl,LeA.glg ?_⟩,⟨⟨_,rfl,xap ?_⟩,trivial⟩⟩⟩ ⟨zaf ?_,trivial⟩⟩;iterate 4 focus (first|rfl|(simp;done)|omega|(simp;omega))
 refine sq ?_ ?_<;>intro h5 h5p h5s<;>(try simp only[Q,Int.natCast_inj,xac] at h5p);refine rn0 (r2 rfl rfl) (.tup (.cons (.gld ?_) (.cons (.eqd ?_) .nil)));rotate_left 2;refine wc zbN (zaG (s:=s) (a:=x.2.2) (c:=41) hsl) rfl rfl ?_;refine ev ?_;refine sq ?_ ?_<;>intro h6 h6p h6s<;>(try simp only[Q,Int.natCast_inj,xac] at h6p);refine rn0 (r2 rfl rfl) (.tup (.cons (.nild ?_) (.cons (.eqd ?_) .nil)));rotate_left 2;refine ar ?_;refine rn0 (r2 rfl rfl) (.tup (.cons (.gld ?_) (.cons (.eqd ?_) .nil)));rotate_left 2;all_goals (first|(rw[hbad x.1 x.2.2 x.2.1 (by omega) hg1.2.2.2 (by assumption)];all_goals rfl)|(rw[hend x.1 x.2.2 x.2.1 (by omega) hg1.2.2.2];dsimp only;first|(rw[if_pos (show ts.length=0 by omega)];all_goals first|rfl|exact(Ex.cs_cc _).symm|exact congrArg D.sl (Ex.cs_cc _).symm)|(rw[if_neg (show ¬ts.length=0 by omega),if_pos (show za4 s x.2.2 41=true by assumption)];all_goals first|rfl|exact(Ex.cs_cc _).symm|exact congrArg D.sl (Ex.cs_cc _).symm)|(rw[if_neg (show ¬ts.length=0 by omega),if_neg (hnt (by assumption))];all_goals first|rfl|exact(Ex.cs_cc _).symm)))
def zfc (funs:List Ft) (s:Str) (m:Nat):Bool:=decide (s.length<=m+1)||(decide (((nth s (m+1)).toNat:Int)<48)||decide ((funs.length:Int)<=((nth s (m+1)).toNat:Int)-48))
def zas (w:List Data) (funs:List Ft) (s:Str):Nat->Ty->Int->Ex×Int
 |0,_,_=>(zdH,-1)
 |n+1,t,a=>
  if a<0\/(s.length:Int)<=a then (zdH,-1)
  else if zbO (nth s a.toNat)=true then (.mk 1 (((nth s a.toNat).toNat:Int)-48) 0 [],a+1)
  else if zbo (nth s a.toNat)=true then (.mk 2 (((nth s a.toNat).toNat:Int)-97) 0 [],a+1)
  else if nth s a.toNat=43 then (.mk 4 0 0 (argV (zas w funs s n) s [numT,numT] (a+1)).1,(argV (zas w funs s n) s [numT,numT] (a+1)).2)
  else if nth s a.toNat=35 then (if zfc funs s a.toNat=true then (zdH,-1) else (.mk 5 (((nth s (a.toNat+1)).toNat:Int)-48) 0 (argV (zas w funs s n) s [(nth funs ((nth s (a.toNat+1)).toNat-48)).arg] (a+2)).1,(argV (zas w funs s n) s [(nth funs ((nth s (a.toNat+1)).toNat-48)).arg] (a+2)).2))
  else if nmV w t (za1 s a.toNat)<0 then (zdH,-1)
  else (.mk 3 0 (nmV w t (za1 s a.toNat)) (argV (zas w funs s n) s (zaq w t (nmV w t (za1 s a.toNat))) ((a.toNat+zbg (s.drop a.toNat):Nat):Int)).1,(argV (zas w funs s n) s (zaq w t (nmV w t (za1 s a.toNat))) ((a.toNat+zbg (s.drop a.toNat):Nat):Int)).2)
theorem zkp {funs:List Ft}{s:Str}{m:Nat} (h:¬zfc funs s m=true):m+1<s.length/\48<=((nth s (m+1)).toNat:Int)/\((nth s (m+1)).toNat:Int)-48<(funs.length:Int):=by
 unfold zfc at h;simp only[Bool.or_eq_true,decide_eq_true_eq,not_or] at h;omega
theorem zod {funs:List Ft}{s:Str}{m:Nat} (h:s.length<=m+1\/((nth s (m+1)).toNat:Int)<48\/(funs.length:Int)<=((nth s (m+1)).toNat:Int)-48):zfc funs s m=true:=by
 unfold zfc;simp only[Bool.or_eq_true,decide_eq_true_eq];exact h
theorem zhR {w:List Data}{funs:List Ft}{s:Str}:∀(n:Nat) (t:Ty) (a:Int),EndIn s (zas w funs s n t a).2
 |0,_,_=>⟨by simp[zas],by simp[zas]<;>omega⟩
 |n+1,t,a=>by
  have ih:=zhR (w:=w) (funs:=funs) (s:=s) n;have z:EndIn s ((zdH,(-1:Int)):Ex×Int).2:=⟨Int.le_refl _,by dsimp only;omega⟩;unfold zas;split
  ·exact z
  rename_i ha;have ha0:0<=a:=by omega
  have ha1:a<(s.length:Int):=by omega
  split
  ·exact⟨by dsimp only;omega,by dsimp only;omega⟩
  split
  ·exact⟨by dsimp only;omega,by dsimp only;omega⟩
  split
  ·exact zjD ih ⟨by omega,by omega⟩
  split
  ·split
   ·exact z
   ·rename_i h;have:=(zkp h).1;exact zjD ih ⟨by omega,by omega⟩
  split
  ·exact z
  ·exact zjD ih (zgA ha0 ha1)
theorem zat (x:UInt8):IntKind.i64.wrap (IntKind.u8.wrap ((x.toNat:Int)-48))=((x.toNat:Int)-48) % 256:=by
 rw[zlM,zb8 (by omega)]
section
variable {w:List Data}{funs:List Ft}{s:Str}{n m:Nat}{t:Ty}
theorem ztm {a:Int} (h:a<0\/(s.length:Int)<=a):zas w funs s (n+1) t a=(zdH,-1):=by unfold zas;rw[if_pos h]
variable (hm:m<s.length)
include hm
theorem ztk (h1:48<=((nth s m).toNat:Int)) (h2:((nth s m).toNat:Int)<=57):zas w funs s (n+1) t (m:Int)=(.mk 1 (((nth s m).toNat:Int)-48) 0 [],(m:Int)+1):=by
 rw[zas];rw[if_neg (zfz hm),if_pos (show zbO (nth s ((m:Int)).toNat)=true from zoZ h1 h2)];rfl
theorem ztl (h1:97<=((nth s m).toNat:Int)) (h2:((nth s m).toNat:Int)<=122):zas w funs s (n+1) t (m:Int)=(.mk 2 (((nth s m).toNat:Int)-97) 0 [],(m:Int)+1):=by
 rw[zas];rw[if_neg (zfz hm),if_neg (show ¬zbO (nth s ((m:Int)).toNat)=true from zhD (by show ¬(48<=((nth s m).toNat:Int)/\((nth s m).toNat:Int)<=57);omega)),if_pos (show zbo (nth s ((m:Int)).toNat)=true from zo6 h1 h2)];rfl
theorem zti (h:((nth s m).toNat:Int)=43):zas w funs s (n+1) t (m:Int)=(.mk 4 0 0 (argV (zas w funs s n) s [numT,numT] ((m:Int)+1)).1,(argV (zas w funs s n) s [numT,numT] ((m:Int)+1)).2):=by
 rw[zas];rw[if_neg (zfz hm),if_neg (show ¬zbO (nth s ((m:Int)).toNat)=true from zhD (by show ¬(48<=((nth s m).toNat:Int)/\((nth s m).toNat:Int)<=57);omega)),if_neg (show ¬zbo (nth s ((m:Int)).toNat)=true from zkG (by show ¬(97<=((nth s m).toNat:Int)/\((nth s m).toNat:Int)<=122);omega)),if_pos (show nth s ((m:Int)).toNat=43 from b_eq (k:=43) (by omega) h)]
theorem zsf (h:((nth s m).toNat:Int)=35):zas w funs s (n+1) t (m:Int)=(if zfc funs s m=true then (zdH,-1) else (.mk 5 (((nth s (m+1)).toNat:Int)-48) 0 (argV (zas w funs s n) s [(nth funs ((nth s (m+1)).toNat-48)).arg] ((m:Int)+2)).1,(argV (zas w funs s n) s [(nth funs ((nth s (m+1)).toNat-48)).arg] ((m:Int)+2)).2)):=by
 rw[zas];rw[if_neg (zfz hm),if_neg (show ¬zbO (nth s ((m:Int)).toNat)=true from zhD (by show ¬(48<=((nth s m).toNat:Int)/\((nth s m).toNat:Int)<=57);omega)),if_neg (show ¬zbo (nth s ((m:Int)).toNat)=true from zkG (by show ¬(97<=((nth s m).toNat:Int)/\((nth s m).toNat:Int)<=122);omega)),if_neg (show ¬nth s ((m:Int)).toNat=43 from b_ne (by show ¬((nth s m).toNat:Int)=43;omega)),if_pos (show nth s ((m:Int)).toNat=35 from b_eq (k:=35) (by omega) h)];rfl
theorem ztj (h2:¬(48<=((nth s m).toNat:Int)/\((nth s m).toNat:Int)<=57)) (h4:¬(97<=((nth s m).toNat:Int)/\((nth s m).toNat:Int)<=122)) (h1:¬((nth s m).toNat:Int)=43) (h3:¬((nth s m).toNat:Int)=35):
  zas w funs s (n+1) t (m:Int)=if nmV w t (za1 s m)<0 then (zdH,-1) else (.mk 3 0 (nmV w t (za1 s m)) (argV (zas w funs s n) s (zaq w t (nmV w t (za1 s m))) ((m+zbg (s.drop m):Nat):Int)).1,(argV (zas w funs s n) s (zaq w t (nmV w t (za1 s m))) ((m+zbg (s.drop m):Nat):Int)).2):=by
 rw[zas];rw[if_neg (zfz hm),if_neg (show ¬zbO (nth s ((m:Int)).toNat)=true from zhD h2),if_neg (show ¬zbo (nth s ((m:Int)).toNat)=true from zkG h4),if_neg (show ¬nth s ((m:Int)).toNat=43 from b_ne (by show ¬((nth s m).toNat:Int)=43;omega)),if_neg (show ¬nth s ((m:Int)).toNat=35 from b_ne (by show ¬((nth s m).toNat:Int)=35;omega))];rfl
end
theorem zmE {w:List Data}{funs:List Ft}{s:Str} (hw:WT w) (hA3:A3 w) (hfl:funs.length<=1000000000000) (hfu:∀f∈funs,TyIn w.length f.arg) (hs:s.length<=1000000000000 / 2){a k b:Int}:FnD Tryz.prog 233 [.d (zak w),.d (zbq funs),.agg [.d (.i a),.d (.i k)],.d (.str s),.d (.i b),.d (.i ((0:Nat):Int))] [] (.tup [.agg [.d (.i (zas w funs s 0 ⟨a,k⟩ b).1.op),.d (.i (zas w funs s 0 ⟨a,k⟩ b).1.n),.d (.i (zas w funs s 0 ⟨a,k⟩ b).1.ctor),.d (zaX (zas w funs s 0 ⟨a,k⟩ b).1.kids)],.d (.i (zas w funs s 0 ⟨a,k⟩ b).2)]) []:=by
 rw[show zas w funs s 0 ⟨a,k⟩ b=(zdH,-1) from rfl];refine bd Tryz.f233 174 [] [] fun w0 F0 own kept hk=>?_;refine bx 3008 ?_;refine ab 3012 tz40 ?_;refine ev ?_;refine sq ?_ ?_<;>intro h1 h1p h1s<;>(try simp only[Q] at h1p);refine sqT ?_;refine sqT ?_;refine bu [] [] st40 ?_;refine so ty40 ?_;refine ev ?_;focus (refine rn0 (.cons (.cellA ty40 rfl rfl rfl) (.cons (.tmp rfl) .nil)) (.tup (.cons (.agg (.cons (.eqd ?_) (.cons (.eqd ?_) (.cons (.eqd ?_) (.cons (.nild ?_) .nil))))) (.cons (.eqd ?_) .nil)));all_goals (first|rfl|(simp[h1s,h1p];done)|(simp_all;done)|(simp_all;omega)|omega))
 focus (exfalso;first|omega|(simp at h1p;done))
theorem zmD {w:List Data}{funs:List Ft}{s:Str} (hw:WT w) (hA3:A3 w) (hfl:funs.length<=1000000000000) (hfu:∀f∈funs,TyIn w.length f.arg) (hs:s.length<=1000000000000 / 2){n:Nat} (ih:∀ {a k b:Int},TyIn w.length ⟨a,k⟩->EndIn s b->FnD Tryz.prog 233 [.d (zak w),.d (zbq funs),.agg [.d (.i a),.d (.i k)],.d (.str s),.d (.i b),.d (.i (n:Int))] [] (.tup [.agg [.d (.i (zas w funs s n ⟨a,k⟩ b).1.op),.d (.i (zas w funs s n ⟨a,k⟩ b).1.n),.d (.i (zas w funs s n ⟨a,k⟩ b).1.ctor),.d (zaX (zas w funs s n ⟨a,k⟩ b).1.kids)],.d (.i (zas w funs s n ⟨a,k⟩ b).2)]) []){a k b:Int} (hn:n+1<=1000) (ht:TyIn w.length ⟨a,k⟩) (hb:EndIn s b):
  FnD Tryz.prog 233 [.d (zak w),.d (zbq funs),.agg [.d (.i a),.d (.i k)],.d (.str s),.d (.i b),.d (.i ((n+1:Nat):Int))] [] (.tup [.agg [.d (.i (zas w funs s (n+1) ⟨a,k⟩ b).1.op),.d (.i (zas w funs s (n+1) ⟨a,k⟩ b).1.n),.d (.i (zas w funs s (n+1) ⟨a,k⟩ b).1.ctor),.d (zaX (zas w funs s (n+1) ⟨a,k⟩ b).1.kids)],.d (.i (zas w funs s (n+1) ⟨a,k⟩ b).2)]) []:=by
 have hsl:s.length<=1000000000000:=by omega
 by_cases hout:b<0\/(s.length:Int)<=b
 ·rw[ztm hout];obtain⟨hb1,hb2⟩:=hb;refine bd Tryz.f233 174 [] [] fun w0 F0 own kept hk=>?_;refine bx 3008 ?_;refine ab 3012 tz40 ?_;refine ev ?_;refine sq ?_ ?_<;>intro h1 h1p h1s<;>(try simp only[Q] at h1p);refine sqT ?_;refine sqT ?_;refine bu [] [] st40 ?_;refine so ty40 ?_;refine ev ?_;focus (refine rn0 (.cons (.cellA ty40 rfl rfl rfl) (.cons (.tmp rfl) .nil)) (.tup (.cons (.agg (.cons (.eqd ?_) (.cons (.eqd ?_) (.cons (.eqd ?_) (.cons (.nild ?_) .nil))))) (.cons (.eqd ?_) .nil)));all_goals (first|rfl|(simp[h1s,h1p];done)|(simp_all;done)|(simp_all;omega)|omega))
  refine sq ?_ ?_<;>intro h3 h3p h3s<;>(try simp only[Q] at h3p);refine sqT ?_;refine bu [] [] st40 ?_;refine so ty40 ?_;refine ev ?_;focus (refine rn0 (.cons (.cellA ty40 rfl rfl rfl) (.cons (.tmp rfl) .nil)) (.tup (.cons (.agg (.cons (.eqd ?_) (.cons (.eqd ?_) (.cons (.eqd ?_) (.cons (.nild ?_) .nil))))) (.cons (.eqd ?_) .nil)));all_goals (first|rfl|(simp[h1s,h1p,h3s,h3p];done)|(simp_all;done)|(simp_all;omega)|omega))
  refine sq ?_ ?_<;>intro h5 h5p h5s<;>(try simp only[Q] at h5p);refine bu [] [] st40 ?_;refine so ty40 ?_;refine ev ?_;focus (refine rn0 (.cons (.cellA ty40 rfl rfl rfl) (.cons (.tmp rfl) .nil)) (.tup (.cons (.agg (.cons (.eqd ?_) (.cons (.eqd ?_) (.cons (.eqd ?_) (.cons (.nild ?_) .nil))))) (.cons (.eqd ?_) .nil)));all_goals (first|rfl|(simp[h1s,h1p,h3s,h3p,h5s,h5p];done)|(simp_all;done)|(simp_all;omega)|omega))
  focus (exfalso;first|omega|(simp at h5p;done))
 obtain⟨m,rfl⟩:=Int.eq_ofNat_of_zero_le (show 0<=b by omega);have hm:m<s.length:=by omega
 have hint:TyIn w.length numT:= .inl rfl;have harg:∀(ts:List Ty) (a0:Int),ts.length<=3->(∀t∈ts,TyIn w.length t)->EndIn s a0->
   FnD Tryz.prog 269 [.d (zak w),.d (zbq funs),.d (zbI ts),.d (.str s),.d (.i a0),.d (.i (((n+1:Nat):Int)-1))] [] (.tup [.d (zaX (argV (zas w funs s n) s ts a0).1),.d (.i (argV (zas w funs s n) s ts a0).2)]) []:=fun ts a0 q1 q2 q3=>by
  rw[show(((n+1:Nat):Int)-1)=(n:Int) by omega];exact zkY hs q1 q3 (zhR n) (fun t ht' b hb'=>ih (a:=t.data) (k:=t.index) (q2 t ht') hb')
 have hk1:=harg [numT,numT] ((m:Int)+1) (by simp) (by intro t h;simp at h;subst h;exact hint) ⟨by omega,by omega⟩;have hk2:=fun(q:((nth s (m+1)).toNat-48)<funs.length) (h:EndIn s ((m:Int)+2))=>harg [(nth funs ((nth s (m+1)).toNat-48)).arg] ((m:Int)+2) (by simp) (by intro t h;simp at h;subst h;exact hfu _ (zaj q)) h;have hk3:=fun(h:¬nmV w ⟨a,k⟩ (za1 s m)<0)=>harg (zaq w ⟨a,k⟩ (nmV w ⟨a,k⟩ (za1 s m))) ((m+zbg (s.drop m):Nat):Int) (hA3 _ _ ht (zeM h)).1 (hA3 _ _ ht (zeM h)).2 (zgA (a:=(m:Int)) (by omega) (by omega));have hnl:=zhO (s.drop m);rw[List.length_drop] at hnl;have q0:=ztk (w:=w) (funs:=funs) (t:=⟨a,k⟩) (n:=n) hm;have q1:=ztl (w:=w) (funs:=funs) (t:=⟨a,k⟩) (n:=n) hm;have q2:=zti (w:=w) (funs:=funs) (t:=⟨a,k⟩) (n:=n) hm;have q3:=zsf (w:=w) (funs:=funs) (t:=⟨a,k⟩) (n:=n) hm;have q4:=ztj (w:=w) (funs:=funs) (t:=⟨a,k⟩) (n:=n) hm;have hag:=fun(h:¬nmV w ⟨a,k⟩ (za1 s m)<0)=>zcU hw ht (zeM h);have hnm:=zhs hw ht (s:=za1 s m);have hX1:=(nth s (m+1)).toNat_lt;have q3a:=fun(h:((nth s m).toNat:Int)=35) (hs:s.length<=m+1\/((nth s (m+1)).toNat:Int)<48\/(funs.length:Int)<=((nth s (m+1)).toNat:Int)-48)=>(q3 h).trans (if_pos (zod hs));have q3b:=fun(h:((nth s m).toNat:Int)=35) (hs:¬(s.length<=m+1\/((nth s (m+1)).toNat:Int)<48\/(funs.length:Int)<=((nth s (m+1)).toNat:Int)-48))=>(q3 h).trans (if_neg (fun hb=>hs (by
  unfold zfc at hb;simp only[Bool.or_eq_true,decide_eq_true_eq] at hb;exact hb)))
 have q4a:=fun a1 a2 a3 a4 (hs:nmV w ⟨a,k⟩ (za1 s m)<0)=>(q4 a1 a2 a3 a4).trans (if_pos hs);have q4b:=fun a1 a2 a3 a4 (hs:¬nmV w ⟨a,k⟩ (za1 s m)<0)=>(q4 a1 a2 a3 a4).trans (if_neg hs);clear q3 q4 harg;have hW:=zat (nth s (m+1));have hW0:48<=((nth s m).toNat:Int)->((nth s m).toNat:Int)<=57->IntKind.i64.wrap (IntKind.u8.wrap (((nth s m).toNat:Int)-48))=((nth s m).toNat:Int)-48:=fun _ _=>zhE (by omega) (by omega);generalize argV (zas w funs s n) s [numT,numT] ((m:Int)+1)=K1 at *;generalize argV (zas w funs s n) s [(nth funs ((nth s (m+1)).toNat-48)).arg] ((m:Int)+2)=K2 at *;generalize argV (zas w funs s n) s (zaq w ⟨a,k⟩ (nmV w ⟨a,k⟩ (za1 s m))) ((m+zbg (s.drop m):Nat):Int)=K3 at *;generalize nmV w ⟨a,k⟩ (za1 s m)=cc at *;generalize zaq w ⟨a,k⟩ cc=ts at *;generalize zas w funs s (n+1) ⟨a,k⟩ (m:Int)=R at *;refine bd Tryz.f233 174 [51,64,109,120] [] fun w0 F0 own kept hk=>?_;refine bx 3008 ?_;refine ab 3012 tz40 ?_;refine evs [51,64,109,120] [] ?_;refine sq ?_ ?_<;>intro h1 h1p h1s<;>(try simp only[Q,Int.natCast_inj,xac,zat] at h1p);refine sqT ?_;refine sqT ?_;focus (exfalso;first|omega|(simp at HP;done))
 refine sq ?_ ?_<;>intro h3 h3p h3s<;>(try simp only[Q,Int.natCast_inj,xac,zat] at h3p);refine sqT ?_;focus (exfalso;first|omega|(simp at HP;done))
 refine sq ?_ ?_<;>intro h5 h5p h5s<;>(try simp only[Q,Int.natCast_inj,xac,zat] at h5p);focus (exfalso;first|omega|(simp at h5p;done))
 refine bu [0] [_] st29 ?_;refine ab 3014 tz29 ?_;refine so ty29 ?_;refine tv ?_;refine xaR (i:=m) un9 .none rfl rfl rfl rfl (zaZ (by omega)) ?_;refine evs [51,64,109,120] [] ?_;refine sq ?_ ?_<;>intro h6 h6p h6s<;>(try simp only[Q,Int.natCast_inj,xac,zat] at h6p);refine sq ?_ ?_<;>intro h7 h7p h7s<;>(try simp only[Q,Int.natCast_inj,xac,zat] at h7p);refine xbc .none rfl rfl rfl ?_;refine xaH (by rw[un5];rfl) un3 .none rfl rfl ?_;refine bu [0,1] [_,_] st40 ?_;refine evs [51,64,109,120] [] ?_;refine ar ?_;refine so ty40 ?_;refine evs [51,64,109,120] [] ?_;refine rn0 (.cons (.cellA ty40 rfl rfl rfl) (.cons (.tmp rfl) .nil)) (.tup (.cons (.agg (.cons (.eqd ?_) (.cons (.eqd ?_) (.cons (.eqd ?_) (.cons (.nild ?_) .nil))))) (.cons (.eqd ?_) .nil)));rotate_left 5;refine sq ?_ ?_<;>intro h8 h8p h8s<;>(try simp only[Q,Int.natCast_inj,xac,zat] at h8p);refine sq ?_ ?_<;>intro h9 h9p h9s<;>(try simp only[Q,Int.natCast_inj,xac,zat] at h9p);refine xbc .none rfl rfl rfl ?_;refine xaH (by rw[un5];rfl) un3 .none rfl rfl ?_;refine bu [0,1] [_,_] st40 ?_;refine evs [51,64,109,120] [] ?_;refine ar ?_;refine so ty40 ?_;refine evs [51,64,109,120] [] ?_;refine rn0 (.cons (.cellA ty40 rfl rfl rfl) (.cons (.tmp rfl) .nil)) (.tup (.cons (.agg (.cons (.eqd ?_) (.cons (.eqd ?_) (.cons (.eqd ?_) (.cons (.nild ?_) .nil))))) (.cons (.eqd ?_) .nil)));rotate_left 5;refine sq ?_ ?_<;>intro h10 h10p h10s<;>(try simp only[Q,Int.natCast_inj,xac,zat] at h10p);refine si [0,1] [_,_] zax tz29 ?_;refine evs [51,64,109,120] [] ?_;refine ar ?_;refine ar ?_;refine wc zdK (hk1) rfl rfl ?_;refine evs [51,64,109,120] [] ?_;refine bu [0,3] [_,_] st40 ?_;refine evs [51,64,109,120] [] ?_;refine so ty40 ?_;refine evs [51,64,109,120] [] ?_;refine rn0 (.cons (.cellA ty40 rfl rfl rfl) (.cons (.tmp rfl) .nil)) (.tup (.cons (.agg (.cons (.eqd ?_) (.cons (.eqd ?_) (.cons (.eqd ?_) (.cons (.eqd ?_) .nil))))) (.cons (.eqd ?_) .nil)));rotate_left 5;refine sq ?_ ?_<;>intro h11 h11p h11s<;>(try simp only[Q,Int.natCast_inj,xac,zat] at h11p);refine ar ?_;refine sq ?_ ?_<;>intro h12 h12p h12s<;>(try simp only[Q,Int.natCast_inj,xac,zat] at h12p);refine sqT ?_;refine sqT ?_;refine bu [] [] st40 ?_;refine so ty40 ?_;refine evs [51,64,109,120] [] ?_;refine rn0 (.cons (.cellA ty40 rfl rfl rfl) (.cons (.tmp rfl) .nil)) (.tup (.cons (.agg (.cons (.eqd ?_) (.cons (.eqd ?_) (.cons (.eqd ?_) (.cons (.nild ?_) .nil))))) (.cons (.eqd ?_) .nil)));rotate_left 5;refine ar ?_;refine xaR (i:=((m+1:Nat))) un9 (.some rfl rfl h12) rfl rfl rfl (by omega) (zaZ (by omega)) ?_;refine evs [51,64,109,120] [(97,false)] ?_ ⟨⟨_,rfl,h12⟩,trivial⟩;refine sq ?_ ?_<;>intro h14 h14p h14s<;>(try simp only[Q,Int.natCast_inj,xac,zat] at h14p);refine sqT ?_;refine bu [] [] st40 ?_;refine so ty40 ?_;refine evs [51,64,109,120] [] ?_;refine rn0 (.cons (.cellA ty40 rfl rfl rfl) (.cons (.tmp rfl) .nil)) (.tup (.cons (.agg (.cons (.eqd ?_) (.cons (.eqd ?_) (.cons (.eqd ?_) (.cons (.nild ?_) .nil))))) (.cons (.eqd ?_) .nil)));rotate_left 5;refine ar ?_;refine xaR (i:=((m+1:Nat))) un9 (.some rfl rfl h14) rfl rfl rfl (by omega) (zaZ (by omega)) ?_;refine xbc (.some rfl rfl h14) rfl rfl rfl ?_;refine xaH (by rw[un5];rfl) un3 (.some rfl rfl h14) rfl rfl ?_;refine evs [51,64,109,120] [(104,false)] ?_ ⟨⟨_,rfl,h14⟩,trivial⟩;refine sq ?_ ?_<;>intro h16 h16p h16s<;>(try simp only[Q,Int.natCast_inj,xac,zat] at h16p);refine bu [] [] st40 ?_;refine so ty40 ?_;refine evs [51,64,109,120] [] ?_;refine rn0 (.cons (.cellA ty40 rfl rfl rfl) (.cons (.tmp rfl) .nil)) (.tup (.cons (.agg (.cons (.eqd ?_) (.cons (.eqd ?_) (.cons (.eqd ?_) (.cons (.nild ?_) .nil))))) (.cons (.eqd ?_) .nil)));rotate_left 5;refine ar ?_;refine xaR (i:=((m+1:Nat))) un9 .none rfl rfl rfl (by omega) (zaZ (by omega)) ?_;refine xbc .none rfl rfl rfl ?_;refine xaH (by rw[un5];rfl) un3 .none rfl rfl ?_;refine evs [51,64,109,120] [] ?_;refine Walk.idx (i:=((nth s (m+1)).toNat-48)) sl63 .none rfl rfl rfl (by rw[zat];omega) (zae (by omega)) rfl ?_;refine evs [51,64,109,120] [] ?_;refine si [0] [_] zax tz29 ?_;refine evs [51,64,109,120] [] ?_;refine ar ?_;refine ar ?_;refine wc zdK (hk2 (by omega) ⟨by omega,by omega⟩) rfl rfl ?_;refine evs [51,64,109,120] [] ?_;refine bu [0,1,3] [_,_,_] st40 ?_;refine evs [51,64,109,120] [] ?_;refine so ty40 ?_;refine evs [51,64,109,120] [] ?_;refine rn0 (.cons (.cellA ty40 rfl rfl rfl) (.cons (.tmp rfl) .nil)) (.tup (.cons (.agg (.cons (.eqd ?_) (.cons (.eqd ?_) (.cons (.eqd ?_) (.cons (.eqd ?_) .nil))))) (.cons (.eqd ?_) .nil)));rotate_left 5;refine wc zcp (zaU (s:=s) (n:=m) hsl (by omega)) rfl rfl ?_;refine evs [51,64,109,120] [] ?_;refine wc zcq (hnm) rfl rfl ?_;refine evs [51,64,109,120] [] ?_;refine sq ?_ ?_<;>intro h17 h17p h17s<;>(try simp only[Q,Int.natCast_inj,xac,zat] at h17p);refine bu [] [] st40 ?_;refine so ty40 ?_;refine evs [51,64,109,120] [] ?_;refine rn0 (.cons (.cellA ty40 rfl rfl rfl) (.cons (.tmp rfl) .nil)) (.tup (.cons (.agg (.cons (.eqd ?_) (.cons (.eqd ?_) (.cons (.eqd ?_) (.cons (.nild ?_) .nil))))) (.cons (.eqd ?_) .nil)));rotate_left 5;refine wc zbT (hag (by omega)) rfl rfl ?_;refine evs [51,64,109,120] [] ?_;refine ar ?_;refine wc zdK (hk3 (by omega)) rfl rfl ?_;refine evs [51,64,109,120] [] ?_;refine bu [0,2,3] [_,_,_] st40 ?_;refine evs [51,64,109,120] [] ?_;refine so ty40 ?_;refine evs [51,64,109,120] [] ?_;refine rn0 (.cons (.cellA ty40 rfl rfl rfl) (.cons (.tmp rfl) .nil)) (.tup (.cons (.agg (.cons (.eqd ?_) (.cons (.eqd ?_) (.cons (.eqd ?_) (.cons (.eqd ?_) .nil))))) (.cons (.eqd ?_) .nil)));rotate_left 5;refine sqF ?_;refine sq ?_ ?_<;>intro h19 h19p h19s<;>(try simp only[Q,Int.natCast_inj,xac,zat] at h19p);refine si [0,1] [_,_] zax tz29 ?_;refine evs [51,64,109,120] [] ?_;refine ar ?_;refine ar ?_;refine wc zdK (hk1) rfl rfl ?_;refine evs [51,64,109,120] [] ?_;refine bu [0,3] [_,_] st40 ?_;refine evs [51,64,109,120] [] ?_;refine so ty40 ?_;refine evs [51,64,109,120] [] ?_;refine rn0 (.cons (.cellA ty40 rfl rfl rfl) (.cons (.tmp rfl) .nil)) (.tup (.cons (.agg (.cons (.eqd ?_) (.cons (.eqd ?_) (.cons (.eqd ?_) (.cons (.eqd ?_) .nil))))) (.cons (.eqd ?_) .nil)));rotate_left 5;refine sq ?_ ?_<;>intro h20 h20p h20s<;>(try simp only[Q,Int.natCast_inj,xac,zat] at h20p);refine ar ?_;refine sq ?_ ?_<;>intro h21 h21p h21s<;>(try simp only[Q,Int.natCast_inj,xac,zat] at h21p);refine sqT ?_;refine sqT ?_;refine bu [] [] st40 ?_;refine so ty40 ?_;refine evs [51,64,109,120] [] ?_;refine rn0 (.cons (.cellA ty40 rfl rfl rfl) (.cons (.tmp rfl) .nil)) (.tup (.cons (.agg (.cons (.eqd ?_) (.cons (.eqd ?_) (.cons (.eqd ?_) (.cons (.nild ?_) .nil))))) (.cons (.eqd ?_) .nil)));rotate_left 5;refine ar ?_;refine xaR (i:=((m+1:Nat))) un9 (.some rfl rfl h21) rfl rfl rfl (by omega) (zaZ (by omega)) ?_;refine evs [51,64,109,120] [(97,false)] ?_ ⟨⟨_,rfl,h21⟩,trivial⟩;refine sq ?_ ?_<;>intro h23 h23p h23s<;>(try simp only[Q,Int.natCast_inj,xac,zat] at h23p);refine sqT ?_;refine bu [] [] st40 ?_;refine so ty40 ?_;refine evs [51,64,109,120] [] ?_;refine rn0 (.cons (.cellA ty40 rfl rfl rfl) (.cons (.tmp rfl) .nil)) (.tup (.cons (.agg (.cons (.eqd ?_) (.cons (.eqd ?_) (.cons (.eqd ?_) (.cons (.nild ?_) .nil))))) (.cons (.eqd ?_) .nil)));rotate_left 5;refine ar ?_;refine xaR (i:=((m+1:Nat))) un9 (.some rfl rfl h23) rfl rfl rfl (by omega) (zaZ (by omega)) ?_;refine xbc (.some rfl rfl h23) rfl rfl rfl ?_;refine xaH (by rw[un5];rfl) un3 (.some rfl rfl h23) rfl rfl ?_;refine evs [51,64,109,120] [(104,false)] ?_ ⟨⟨_,rfl,h23⟩,trivial⟩;refine sq ?_ ?_<;>intro h25 h25p h25s<;>(try simp only[Q,Int.natCast_inj,xac,zat] at h25p);refine bu [] [] st40 ?_;refine so ty40 ?_;refine evs [51,64,109,120] [] ?_;refine rn0 (.cons (.cellA ty40 rfl rfl rfl) (.cons (.tmp rfl) .nil)) (.tup (.cons (.agg (.cons (.eqd ?_) (.cons (.eqd ?_) (.cons (.eqd ?_) (.cons (.nild ?_) .nil))))) (.cons (.eqd ?_) .nil)));rotate_left 5;refine ar ?_;refine xaR (i:=((m+1:Nat))) un9 .none rfl rfl rfl (by omega) (zaZ (by omega)) ?_;refine xbc .none rfl rfl rfl ?_;refine xaH (by rw[un5];rfl) un3 .none rfl rfl ?_;refine evs [51,64,109,120] [] ?_;refine Walk.idx (i:=((nth s (m+1)).toNat-48)) sl63 .none rfl rfl rfl (by rw[zat];omega) (zae (by omega)) rfl ?_;refine evs [51,64,109,120] [] ?_;refine si [0] [_] zax tz29 ?_;refine evs [51,64,109,120] [] ?_;refine ar ?_;refine ar ?_;refine wc zdK (hk2 (by omega) ⟨by omega,by omega⟩) rfl rfl ?_;refine evs [51,64,109,120] [] ?_;refine bu [0,1,3] [_,_,_] st40 ?_;refine evs [51,64,109,120] [] ?_;refine so ty40 ?_;refine evs [51,64,109,120] [] ?_;refine rn0 (.cons (.cellA ty40 rfl rfl rfl) (.cons (.tmp rfl) .nil)) (.tup (.cons (.agg (.cons (.eqd ?_) (.cons (.eqd ?_) (.cons (.eqd ?_) (.cons (.eqd ?_) .nil))))) (.cons (.eqd ?_) .nil)));rotate_left 5;refine wc zcp (zaU (s:=s) (n:=m) hsl (by omega)) rfl rfl ?_;refine evs [51,64,109,120] [] ?_;refine wc zcq (hnm) rfl rfl ?_;refine evs [51,64,109,120] [] ?_;refine sq ?_ ?_<;>intro h26 h26p h26s<;>(try simp only[Q,Int.natCast_inj,xac,zat] at h26p);refine bu [] [] st40 ?_;refine so ty40 ?_;refine evs [51,64,109,120] [] ?_;refine rn0 (.cons (.cellA ty40 rfl rfl rfl) (.cons (.tmp rfl) .nil)) (.tup (.cons (.agg (.cons (.eqd ?_) (.cons (.eqd ?_) (.cons (.eqd ?_) (.cons (.nild ?_) .nil))))) (.cons (.eqd ?_) .nil)));rotate_left 5;refine wc zbT (hag (by omega)) rfl rfl ?_;refine evs [51,64,109,120] [] ?_;refine ar ?_;refine wc zdK (hk3 (by omega)) rfl rfl ?_;refine evs [51,64,109,120] [] ?_;refine bu [0,2,3] [_,_,_] st40 ?_;refine evs [51,64,109,120] [] ?_;refine so ty40 ?_;refine evs [51,64,109,120] [] ?_;refine rn0 (.cons (.cellA ty40 rfl rfl rfl) (.cons (.tmp rfl) .nil)) (.tup (.cons (.agg (.cons (.eqd ?_) (.cons (.eqd ?_) (.cons (.eqd ?_) (.cons (.eqd ?_) .nil))))) (.cons (.eqd ?_) .nil)));rotate_left 5;refine sqF ?_;refine sq ?_ ?_<;>intro h28 h28p h28s<;>(try simp only[Q,Int.natCast_inj,xac,zat] at h28p);refine sq ?_ ?_<;>intro h29 h29p h29s<;>(try simp only[Q,Int.natCast_inj,xac,zat] at h29p);refine xbc .none rfl rfl rfl ?_;refine xaH (by rw[un5];rfl) un3 .none rfl rfl ?_;refine bu [0,1] [_,_] st40 ?_;refine evs [51,64,109,120] [] ?_;refine ar ?_;refine so ty40 ?_;refine evs [51,64,109,120] [] ?_;refine rn0 (.cons (.cellA ty40 rfl rfl rfl) (.cons (.tmp rfl) .nil)) (.tup (.cons (.agg (.cons (.eqd ?_) (.cons (.eqd ?_) (.cons (.eqd ?_) (.cons (.nild ?_) .nil))))) (.cons (.eqd ?_) .nil)));rotate_left 5;refine sq ?_ ?_<;>intro h30 h30p h30s<;>(try simp only[Q,Int.natCast_inj,xac,zat] at h30p);refine si [0,1] [_,_] zax tz29 ?_;refine evs [51,64,109,120] [] ?_;refine ar ?_;refine ar ?_;refine wc zdK (hk1) rfl rfl ?_;refine evs [51,64,109,120] [] ?_;refine bu [0,3] [_,_] st40 ?_;refine evs [51,64,109,120] [] ?_;refine so ty40 ?_;refine evs [51,64,109,120] [] ?_;refine rn0 (.cons (.cellA ty40 rfl rfl rfl) (.cons (.tmp rfl) .nil)) (.tup (.cons (.agg (.cons (.eqd ?_) (.cons (.eqd ?_) (.cons (.eqd ?_) (.cons (.eqd ?_) .nil))))) (.cons (.eqd ?_) .nil)));rotate_left 5;refine sq ?_ ?_<;>intro h31 h31p h31s<;>(try simp only[Q,Int.natCast_inj,xac,zat] at h31p);refine ar ?_;refine sq ?_ ?_<;>intro h32 h32p h32s<;>(try simp only[Q,Int.natCast_inj,xac,zat] at h32p);refine sqT ?_;refine sqT ?_;refine bu [] [] st40 ?_;refine so ty40 ?_;refine evs [51,64,109,120] [] ?_;refine rn0 (.cons (.cellA ty40 rfl rfl rfl) (.cons (.tmp rfl) .nil)) (.tup (.cons (.agg (.cons (.eqd ?_) (.cons (.eqd ?_) (.cons (.eqd ?_) (.cons (.nild ?_) .nil))))) (.cons (.eqd ?_) .nil)));rotate_left 5;refine ar ?_;refine xaR (i:=((m+1:Nat))) un9 (.some rfl rfl h32) rfl rfl rfl (by omega) (zaZ (by omega)) ?_;refine evs [51,64,109,120] [(97,false)] ?_ ⟨⟨_,rfl,h32⟩,trivial⟩;refine sq ?_ ?_<;>intro h34 h34p h34s<;>(try simp only[Q,Int.natCast_inj,xac,zat] at h34p);refine sqT ?_;refine bu [] [] st40 ?_;refine so ty40 ?_;refine evs [51,64,109,120] [] ?_;refine rn0 (.cons (.cellA ty40 rfl rfl rfl) (.cons (.tmp rfl) .nil)) (.tup (.cons (.agg (.cons (.eqd ?_) (.cons (.eqd ?_) (.cons (.eqd ?_) (.cons (.nild ?_) .nil))))) (.cons (.eqd ?_) .nil)));rotate_left 5;refine ar ?_;refine xaR (i:=((m+1:Nat))) un9 (.some rfl rfl h34) rfl rfl rfl (by omega) (zaZ (by omega)) ?_;refine xbc (.some rfl rfl h34) rfl rfl rfl ?_;refine xaH (by rw[un5];rfl) un3 (.some rfl rfl h34) rfl rfl ?_;refine evs [51,64,109,120] [(104,false)] ?_ ⟨⟨_,rfl,h34⟩,trivial⟩;refine sq ?_ ?_<;>intro h36 h36p h36s<;>(try simp only[Q,Int.natCast_inj,xac,zat] at h36p);refine bu [] [] st40 ?_;refine so ty40 ?_;refine evs [51,64,109,120] [] ?_;refine rn0 (.cons (.cellA ty40 rfl rfl rfl) (.cons (.tmp rfl) .nil)) (.tup (.cons (.agg (.cons (.eqd ?_) (.cons (.eqd ?_) (.cons (.eqd ?_) (.cons (.nild ?_) .nil))))) (.cons (.eqd ?_) .nil)));rotate_left 5;refine ar ?_;refine xaR (i:=((m+1:Nat))) un9 .none rfl rfl rfl (by omega) (zaZ (by omega)) ?_;refine xbc .none rfl rfl rfl ?_;refine xaH (by rw[un5];rfl) un3 .none rfl rfl ?_;refine evs [51,64,109,120] [] ?_;refine Walk.idx (i:=((nth s (m+1)).toNat-48)) sl63 .none rfl rfl rfl (by rw[zat];omega) (zae (by omega)) rfl ?_;refine evs [51,64,109,120] [] ?_;refine si [0] [_] zax tz29 ?_;refine evs [51,64,109,120] [] ?_;refine ar ?_;refine ar ?_;refine wc zdK (hk2 (by omega) ⟨by omega,by omega⟩) rfl rfl ?_;refine evs [51,64,109,120] [] ?_;refine bu [0,1,3] [_,_,_] st40 ?_;refine evs [51,64,109,120] [] ?_;refine so ty40 ?_;refine evs [51,64,109,120] [] ?_;refine rn0 (.cons (.cellA ty40 rfl rfl rfl) (.cons (.tmp rfl) .nil)) (.tup (.cons (.agg (.cons (.eqd ?_) (.cons (.eqd ?_) (.cons (.eqd ?_) (.cons (.eqd ?_) .nil))))) (.cons (.eqd ?_) .nil)));rotate_left 5;refine wc zcp (zaU (s:=s) (n:=m) hsl (by omega)) rfl rfl ?_;refine evs [51,64,109,120] [] ?_;refine wc zcq (hnm) rfl rfl ?_;refine evs [51,64,109,120] [] ?_;refine sq ?_ ?_<;>intro h37 h37p h37s<;>(try simp only[Q,Int.natCast_inj,xac,zat] at h37p);refine bu [] [] st40 ?_;refine so ty40 ?_;refine evs [51,64,109,120] [] ?_;refine rn0 (.cons (.cellA ty40 rfl rfl rfl) (.cons (.tmp rfl) .nil)) (.tup (.cons (.agg (.cons (.eqd ?_) (.cons (.eqd ?_) (.cons (.eqd ?_) (.cons (.nild ?_) .nil))))) (.cons (.eqd ?_) .nil)));rotate_left 5;refine wc zbT (hag (by omega)) rfl rfl ?_;refine evs [51,64,109,120] [] ?_;refine ar ?_;refine wc zdK (hk3 (by omega)) rfl rfl ?_;refine evs [51,64,109,120] [] ?_;refine bu [0,2,3] [_,_,_] st40 ?_;refine evs [51,64,109,120] [] ?_;refine so ty40 ?_;refine evs [51,64,109,120] [] ?_;refine rn0 (.cons (.cellA ty40 rfl rfl rfl) (.cons (.tmp rfl) .nil)) (.tup (.cons (.agg (.cons (.eqd ?_) (.cons (.eqd ?_) (.cons (.eqd ?_) (.cons (.eqd ?_) .nil))))) (.cons (.eqd ?_) .nil)));rotate_left 5;refine sqF ?_;refine sq ?_ ?_<;>intro h39 h39p h39s<;>(try simp only[Q,Int.natCast_inj,xac,zat] at h39p);refine si [0,1] [_,_] zax tz29 ?_;refine evs [51,64,109,120] [] ?_;refine ar ?_;refine ar ?_;refine wc zdK (hk1) rfl rfl ?_;refine evs [51,64,109,120] [] ?_;refine bu [0,3] [_,_] st40 ?_;refine evs [51,64,109,120] [] ?_;refine so ty40 ?_;refine evs [51,64,109,120] [] ?_;refine rn0 (.cons (.cellA ty40 rfl rfl rfl) (.cons (.tmp rfl) .nil)) (.tup (.cons (.agg (.cons (.eqd ?_) (.cons (.eqd ?_) (.cons (.eqd ?_) (.cons (.eqd ?_) .nil))))) (.cons (.eqd ?_) .nil)));rotate_left 5;refine sq ?_ ?_<;>intro h40 h40p h40s<;>(try simp only[Q,Int.natCast_inj,xac,zat] at h40p);refine ar ?_;refine sq ?_ ?_<;>intro h41 h41p h41s<;>(try simp only[Q,Int.natCast_inj,xac,zat] at h41p);refine sqT ?_;refine sqT ?_;refine bu [] [] st40 ?_;refine so ty40 ?_;refine evs [51,64,109,120] [] ?_;refine rn0 (.cons (.cellA ty40 rfl rfl rfl) (.cons (.tmp rfl) .nil)) (.tup (.cons (.agg (.cons (.eqd ?_) (.cons (.eqd ?_) (.cons (.eqd ?_) (.cons (.nild ?_) .nil))))) (.cons (.eqd ?_) .nil)));rotate_left 5;refine ar ?_;refine xaR (i:=((m+1:Nat))) un9 (.some rfl rfl h41) rfl rfl rfl (by omega) (zaZ (by omega)) ?_;refine evs [51,64,109,120] [(97,false)] ?_ ⟨⟨_,rfl,h41⟩,trivial⟩;refine sq ?_ ?_<;>intro h43 h43p h43s<;>(try simp only[Q,Int.natCast_inj,xac,zat] at h43p);refine sqT ?_;refine bu [] [] st40 ?_;refine so ty40 ?_;refine evs [51,64,109,120] [] ?_;refine rn0 (.cons (.cellA ty40 rfl rfl rfl) (.cons (.tmp rfl) .nil)) (.tup (.cons (.agg (.cons (.eqd ?_) (.cons (.eqd ?_) (.cons (.eqd ?_) (.cons (.nild ?_) .nil))))) (.cons (.eqd ?_) .nil)));rotate_left 5;refine ar ?_;refine xaR (i:=((m+1:Nat))) un9 (.some rfl rfl h43) rfl rfl rfl (by omega) (zaZ (by omega)) ?_;refine xbc (.some rfl rfl h43) rfl rfl rfl ?_;refine xaH (by rw[un5];rfl) un3 (.some rfl rfl h43) rfl rfl ?_;refine evs [51,64,109,120] [(104,false)] ?_ ⟨⟨_,rfl,h43⟩,trivial⟩;refine sq ?_ ?_<;>intro h45 h45p h45s<;>(try simp only[Q,Int.natCast_inj,xac,zat] at h45p);refine bu [] [] st40 ?_;refine so ty40 ?_;refine evs [51,64,109,120] [] ?_;refine rn0 (.cons (.cellA ty40 rfl rfl rfl) (.cons (.tmp rfl) .nil)) (.tup (.cons (.agg (.cons (.eqd ?_) (.cons (.eqd ?_) (.cons (.eqd ?_) (.cons (.nild ?_) .nil))))) (.cons (.eqd ?_) .nil)));rotate_left 5;refine ar ?_;refine xaR (i:=((m+1:Nat))) un9 .none rfl rfl rfl (by omega) (zaZ (by omega)) ?_;refine xbc .none rfl rfl rfl ?_;refine xaH (by rw[un5];rfl) un3 .none rfl rfl ?_;refine evs [51,64,109,120] [] ?_;refine Walk.idx (i:=((nth s (m+1)).toNat-48)) sl63 .none rfl rfl rfl (by rw[zat];omega) (zae (by omega)) rfl ?_;refine evs [51,64,109,120] [] ?_;refine si [0] [_] zax tz29 ?_;refine evs [51,64,109,120] [] ?_;refine ar ?_;refine ar ?_;refine wc zdK (hk2 (by omega) ⟨by omega,by omega⟩) rfl rfl ?_;refine evs [51,64,109,120] [] ?_;refine bu [0,1,3] [_,_,_] st40 ?_;refine evs [51,64,109,120] [] ?_;refine so ty40 ?_;refine evs [51,64,109,120] [] ?_;refine rn0 (.cons (.cellA ty40 rfl rfl rfl) (.cons (.tmp rfl) .nil)) (.tup (.cons (.agg (.cons (.eqd ?_) (.cons (.eqd ?_) (.cons (.eqd ?_) (.cons (.eqd ?_) .nil))))) (.cons (.eqd ?_) .nil)));rotate_left 5;refine wc zcp (zaU (s:=s) (n:=m) hsl (by omega)) rfl rfl ?_;refine evs [51,64,109,120] [] ?_;refine wc zcq (hnm) rfl rfl ?_;refine evs [51,64,109,120] [] ?_;refine sq ?_ ?_<;>intro h46 h46p h46s<;>(try simp only[Q,Int.natCast_inj,xac,zat] at h46p);refine bu [] [] st40 ?_;refine so ty40 ?_;refine evs [51,64,109,120] [] ?_;refine rn0 (.cons (.cellA ty40 rfl rfl rfl) (.cons (.tmp rfl) .nil)) (.tup (.cons (.agg (.cons (.eqd ?_) (.cons (.eqd ?_) (.cons (.eqd ?_) (.cons (.nild ?_) .nil))))) (.cons (.eqd ?_) .nil)));rotate_left 5;refine wc zbT (hag (by omega)) rfl rfl ?_;refine evs [51,64,109,120] [] ?_;refine ar ?_;refine wc zdK (hk3 (by omega)) rfl rfl ?_;refine evs [51,64,109,120] [] ?_;refine bu [0,2,3] [_,_,_] st40 ?_;refine evs [51,64,109,120] [] ?_;refine so ty40 ?_;refine evs [51,64,109,120] [] ?_;refine rn0 (.cons (.cellA ty40 rfl rfl rfl) (.cons (.tmp rfl) .nil)) (.tup (.cons (.agg (.cons (.eqd ?_) (.cons (.eqd ?_) (.cons (.eqd ?_) (.cons (.eqd ?_) .nil))))) (.cons (.eqd ?_) .nil)));rotate_left 5;all_goals (first|(rw[q0 (by omega) (by omega)];all_goals first|(rw[hW0 (by omega) (by omega)];all_goals rfl)|rfl)|(rw[q1 (by omega) (by omega)];all_goals first|(rw[zjR (by omega) (by omega)];all_goals rfl)|rfl)|(rw[q2 (by omega)];all_goals rfl)|(rw[q3a (by omega) (by omega)];all_goals rfl)|(rw[q3b (by omega) (by omega)];all_goals first|(rw[zat,show(((nth s (m+1)).toNat:Int)-48) % 256=((nth s (m+1)).toNat:Int)-48 by omega];all_goals rfl)|rfl)|(rw[q4a (by omega) (by omega) (by omega) (by omega) (by omega)];all_goals rfl)|(rw[q4b (by omega) (by omega) (by omega) (by omega) (by omega)];all_goals rfl)|(exfalso;omega))
theorem zgF {w:List Data}{funs:List Ft}{s:Str} (hw:WT w) (hA3:A3 w) (hfl:funs.length<=1000000000000) (hfu:∀f∈funs,TyIn w.length f.arg) (hs:s.length<=1000000000000 / 2):∀(n:Nat){a k:Int}{b:Int},n<=1000->TyIn w.length ⟨a,k⟩->EndIn s b->
  FnD Tryz.prog 233 [.d (zak w),.d (zbq funs),.agg [.d (.i a),.d (.i k)],.d (.str s),.d (.i b),.d (.i (n:Int))] [] (.tup [.agg [.d (.i (zas w funs s n ⟨a,k⟩ b).1.op),.d (.i (zas w funs s n ⟨a,k⟩ b).1.n),.d (.i (zas w funs s n ⟨a,k⟩ b).1.ctor),.d (zaX (zas w funs s n ⟨a,k⟩ b).1.kids)],.d (.i (zas w funs s n ⟨a,k⟩ b).2)]) []
 |0,a,k,b,_,_,_=>zmE hw hA3 hfl hfu hs
 |n+1,a,k,b,hn,ht,hb=>zmD hw hA3 hfl hfu hs (fun {a k b} h1 h2=>zgF hw hA3 hfl hfu hs n (by omega) h1 h2) hn ht hb
def zji (w:List Data) (vars:List Vt) (i:Nat):Bool:=decide (0<=(nth vars i).var)&&(decide ((nth vars i).var<=5)&&((zbn w.length (nth vars i).ty&&decide (0<=(nth vars i).ty.index))&&decide (zaV vars (nth vars i).var=(i:Int))))
def zeg (w:List Data) (vars:List Vt):Bool:=(List.range vars.length).all (zji w vars)
theorem zqE {w:List Data}{vars:List Vt}{i:Nat} (hi:i<vars.length) (h:zji w vars i=false):zeg w vars=false:=by
 cases e:zeg w vars with
 |false=>rfl
 |true=>
  unfold zeg at e;have:=List.all_eq_true.1 e i (List.mem_range.2 hi);rw[h] at this;cases this
theorem zps {w:List Data}{vars:List Vt} (h:∀i,i<vars.length->zji w vars i=true):zeg w vars=true:=by
 unfold zeg;exact List.all_eq_true.2 (fun i hi=>h i (List.mem_range.1 hi))
theorem zk0 {w:List Data}{vars:List Vt} (hv:vars.length<=1000000000000):FnD Tryz.prog 268 [.d (zak w),.d (zbt vars)] [] (.d (.bool (zeg w vars))) []:=by
 have hat:∀i,zji w vars i=(decide (0<=(nth vars i).var)&&(decide ((nth vars i).var<=5)&&((zbn w.length (nth vars i).ty&&decide (0<=(nth vars i).ty.index))&&decide (zaV vars (nth vars i).var=(i:Int))))):=fun _=>rfl;have hno:∀i,i<vars.length->(¬0<=(nth vars i).var\/¬(nth vars i).var<=5\/(zbn w.length (nth vars i).ty&&decide (0<=(nth vars i).ty.index))=false\/¬zaV vars (nth vars i).var=(i:Int))->zeg w vars=false:=fun i hi h=>zqE hi (by
  rw[hat];rcases h with h|h|h|h
  ·rw[decide_eq_false h];rfl
  ·rw[decide_eq_false h];simp
  ·rw[h];simp
  ·rw[decide_eq_false h];simp)
 have hye:∀i,0<=(nth vars i).var->(nth vars i).var<=5->(zbn w.length (nth vars i).ty&&decide (0<=(nth vars i).ty.index))=true->zaV vars (nth vars i).var=(i:Int)->zji w vars i=true:=fun i h1 h2 h3 h4=>by
  rw[hat,decide_eq_true h1,decide_eq_true h2,h3,decide_eq_true h4];rfl
 have hall:=zps (w:=w) (vars:=vars);have hl1:=fun i=>ze3 (w:=w) (a:=(nth vars i).ty.data) (b:=(nth vars i).ty.index);have hfv:=fun n=>zcE (l:=vars) (n:=n) hv;generalize zeg w vars=R at *;refine bd Tryz.f268 47 [] [] fun w0 F0 own kept hk=>?_;refine xak (ι:=Nat) hk (fun i=>[(5,.d (.i (i:Int)))]) [4,6,7,8,9,10,11,12,13,14,15,16,17,18,19,20,21,22,23,24,25,26,27,28,29,30,31,32,33,34,35,36,37,38,39,40,41,42,43,44,45,46] (fun i=>[]) (fun i=>i<=vars.length/\∀j,j<i->zji w vars j=true) (fun i=>vars.length-i) 0 ⟨by omega,fun j h=>by omega⟩ ⟨⟨_,rfl,xap ?_⟩,trivial⟩ trivial (fun x=>rfl) (fun i hg1=>?_);focus (first|rfl|omega|(simp;done))
 refine evc [] [] ?_;refine sq ?_ ?_<;>intro h1 h1p h1s<;>(try simp only[Q,Int.natCast_inj,xac] at h1p);refine Walk.idx sl66 .none rfl rfl rfl rfl (zae (by omega)) rfl ?_;refine ev ?_;refine sq ?_ ?_<;>intro h2 h2p h2s<;>(try simp only[Q,Int.natCast_inj,xac] at h2p);refine sqT ?_;refine sqT ?_;refine sqT ?_;refine rq ?_;rotate_left;refine Walk.idx sl66 (.some rfl rfl h2) rfl rfl rfl rfl (zae (by omega)) rfl ?_;refine evs [] [(18,false)] ?_ ⟨⟨_,rfl,h2⟩,trivial⟩;refine sq ?_ ?_<;>intro h4 h4p h4s<;>(try simp only[Q,Int.natCast_inj,xac] at h4p);refine sqT ?_;refine sqT ?_;refine rq ?_;rotate_left;refine Walk.idx sl66 (.some rfl rfl h4) rfl rfl rfl rfl (zae (by omega)) rfl ?_;refine evs [] [(26,false)] ?_ ⟨⟨_,rfl,h4⟩,trivial⟩;refine Walk.call (cr:=[]) zi6 (hl1 i) rfl (.some rfl rfl h4) rfl rfl (LeL.refl _) trivial rfl rfl rfl ?_;refine evs [] [(26,false)] ?_ ⟨⟨_,rfl,h4⟩,trivial⟩;refine sq ?_ ?_<;>intro h6 h6p h6s<;>(try simp only[Q,Int.natCast_inj,xac] at h6p);refine sqT ?_;refine rq ?_;rotate_left;refine Walk.idx sl66 (.some rfl rfl h6) rfl rfl rfl rfl (zae (by omega)) rfl ?_;refine evs [] [(36,false)] ?_ ⟨⟨_,rfl,h6⟩,trivial⟩;refine Walk.call (cr:=[]) zhe (hfv (nth vars i).var) rfl (.some rfl rfl h6) rfl rfl (LeL.refl _) trivial rfl rfl rfl ?_;refine evs [] [(36,false)] ?_ ⟨⟨_,rfl,h6⟩,trivial⟩;refine sq ?_ ?_<;>intro h8 h8p h8s<;>(try simp only[Q,Int.natCast_inj,xac] at h8p);refine rq ?_;rotate_left;refine ar ?_;refine xah (i+1) ⟨⟨by omega,fun j hj=>by
    by_cases e:j=i
    ·subst e;exact hye j (by omega) (by omega) (by assumption) (by assumption)
    ·exact hg1.2 j (by omega)⟩,(by omega),sx ⟨⟨_,rfl,xap ?_⟩,trivial⟩ trivial⟩
 focus (first|rfl|omega|(simp;done))
 refine rq ?_;rotate_left;all_goals (first|(rw[hno i (by omega) (by first|exact .inl (by omega)|exact .inr (.inl (by omega))|exact .inr (.inr (.inl (by assumption)))|exact .inr (.inr (.inr (by assumption))))];done)|(rw[hall (fun j hj=>hg1.2 j (by omega))];done))
def zfJ (w:List Data) (funs:List Ft) (vars:List Vt) (t:Ty):Bool:=zba w t&&(zbC w funs&&zeg w vars)
theorem zj0 {w:List Data} (hs:WSmall w){funs:List Ft}{vars:List Vt} (hf:funs.length<=1000000000000) (hv:vars.length<=1000000000000){a k:Int}:FnD Tryz.prog 232 [.d (zak w),.d (zbq funs),.d (zbt vars),.agg [.d (.i a),.d (.i k)]] [] (.d (.bool (zfJ w funs vars ⟨a,k⟩))) []:=by
 have h0:=zdF hs (a:=a) (b:=k);have hf0:=zd1 (w:=w) (funs:=funs) (by have:=hs.len;omega) hf;have hv0:=zk0 (w:=w) (vars:=vars) hv;have hR:zfJ w funs vars ⟨a,k⟩=(zba w ⟨a,k⟩&&(zbC w funs&&zeg w vars)):=rfl;rw[hR];generalize zba w ⟨a,k⟩=b1 at *;generalize zbC w funs=b2 at *;generalize zeg w vars=b3 at *;refine bd Tryz.f232 22 [] [] fun w0 F0 own kept hk=>?_;refine bx 3007 ?_;refine ev ?_;refine wc zmO (h0) rfl rfl ?_;refine ev ?_;refine sq ?_ ?_<;>intro h1 h1p h1s<;>(try simp only[Q] at h1p);refine Walk.call (cr:=[]) zgH (hf0) rfl (.some rfl rfl h1) rfl rfl (LeL.refl _) trivial rfl rfl rfl ?_;refine evs [] [(12,true)] ?_ ⟨⟨_,rfl,h1⟩,trivial⟩;refine sq ?_ ?_<;>intro h2 h2p h2s<;>(try simp only[Q] at h2p);refine Walk.call (cr:=[]) zsW (hv0) rfl (.some rfl rfl h2) rfl rfl (LeL.refl _) trivial rfl rfl rfl ?_;refine evs [] [(17,true)] ?_ ⟨⟨_,rfl,h2⟩,trivial⟩;refine rq ?_;rotate_left;refine rq ?_;rotate_left;refine sqF ?_;refine rq ?_;rotate_left;all_goals (first|rfl|(refine congrArg D.bool ?_;cases b1<;>cases b2<;>cases b3<;>first|rfl|contradiction))
theorem zom {f:Ty->Int->Ex×Int}{s:Str}{M:Nat}:∀(ts:List Ty) (i:Nat) (a:Int),(∀t∈ts,∀b,(f t b).1.ok/\(f t b).1.size<=M)->∀r,argL f s i ts a=some r->Exs.ok r.1/\Exs.size r.1<=ts.length*M/\r.1.length=ts.length
 | [],i,a,_,r,h=>by rw[argL] at h;cases h;exact⟨trivial,by simp[Exs.size],rfl⟩
 |t::ts,i,a,hf,r,h=>by
  rw[argL] at h;by_cases hc:za4 s a (if i=0 then 40 else 44)=true
  ·rw[if_pos hc] at h;cases e:argL f s (i+1) ts (f t (a+1)).2 with
   |none=>rw[e] at h;cases h
   |some r2=>
    rw[e] at h;cases h;obtain⟨h1,h2,h3⟩:=zom ts (i+1) _ (fun u hu=>hf u (by simp[hu])) r2 e;have h0:=hf t (by simp) (a+1);refine⟨⟨h0.1,h1⟩, ?_,by simp[h3]⟩;show(f t (a+1)).1.size+Exs.size r2.1<=(ts.length+1)*M
    rw[Nat.add_mul];omega
  ·rw[if_neg hc] at h;cases h
theorem zrT {f:Ty->Int->Ex×Int}{s:Str}{M:Nat}{ts:List Ty}{a:Int} (hl:ts.length<=3) (hf:∀t∈ts,∀b,(f t b).1.ok/\(f t b).1.size<=M):Exs.ok (argV f s ts a).1/\Exs.size (argV f s ts a).1<=3*M/\(argV f s ts a).1.length<=3:=by
 have z:Exs.ok (([]:List Ex),(-1:Int)).1/\Exs.size (([]:List Ex),(-1:Int)).1<=3*M/\(([]:List Ex),(-1:Int)).1.length<=3:=⟨trivial,by simp[Exs.size],by simp⟩;unfold argV;cases e:argL f s 0 ts a with
 |none=>exact z
 |some r=>
  obtain⟨h1,h2,h3⟩:=zom ts 0 a hf r e;have:ts.length*M<=3*M:=Nat.mul_le_mul_right _ hl;have y:Exs.ok r.1/\Exs.size r.1<=3*M/\r.1.length<=3:=⟨h1,by omega,by omega⟩;dsimp only;split
  ·exact y
  split
  ·exact y
  ·exact z
theorem ziI {w:List Data}{funs:List Ft}{s:Str} (hA:A3 w) (hfu:∀f∈funs,TyIn w.length f.arg):∀(n:Nat){t:Ty} (a:Int),TyIn w.length t->(zas w funs s n t a).1.ok/\(zas w funs s n t a).1.size<=4 ^ n
 |0,t,a,_=>⟨by rw[Ex.ok_iff];exact⟨by simp[zas,Ex.kids],trivial⟩,by rw[Ex.size_eq];simp[zas,Ex.kids,Exs.size]⟩
 |n+1,t,a,ht=>by
  have ih:=fun {t:Ty} (b:Int) (h:TyIn w.length t)=>ziI hA hfu (s:=s) n b h;have hp:1<=4 ^ n:=Nat.pow_pos (by omega);have he:4 ^ (n+1)=4*4 ^ n:=by rw[Nat.pow_succ];omega
  have leaf:∀ {x1 x2 x3:Int},(Ex.mk x1 x2 x3 []).ok/\(Ex.mk x1 x2 x3 []).size<=4 ^ (n+1):=fun {x1 x2 x3}=>⟨by rw[Ex.ok_iff];exact⟨by simp[Ex.kids],trivial⟩,by rw[Ex.size_eq];simp[Ex.kids,Exs.size];omega⟩;have node:∀ {x1 x2 x3:Int}{ts:List Ty}{b:Int},ts.length<=3->(∀u∈ts,TyIn w.length u)->(Ex.mk x1 x2 x3 (argV (zas w funs s n) s ts b).1).ok/\(Ex.mk x1 x2 x3 (argV (zas w funs s n) s ts b).1).size<=4 ^ (n+1):=fun {x1 x2 x3 ts b} h1 h2=>by
   obtain⟨k1,k2,k3⟩:=zrT (f:=zas w funs s n) (a:=b) (s:=s) h1 (fun u hu b=>ih b (h2 u hu));refine⟨by rw[Ex.ok_iff];exact⟨by show(argV (zas w funs s n) s ts b).1.length<=_;omega,k1⟩, ?_⟩;rw[Ex.size_eq];show 1+Exs.size (argV (zas w funs s n) s ts b).1<=_
   omega
  unfold zas;split
  ·exact leaf
  split
  ·exact leaf
  split
  ·exact leaf
  split
  ·exact node (by simp) (by intro u hu;simp at hu;subst hu;exact .inl rfl)
  split
  ·split
   ·exact leaf
   ·rename_i hb;have:=zkp hb;exact node (by simp) (by intro u hu;simp at hu;subst hu;exact hfu _ (zaj (by omega)))
  split
  ·exact leaf
  rename_i hc;have hA':=hA t _ ht (zeM hc);exact node hA'.1 hA'.2
def peV (w:List Data) (funs:List Ft) (vars:List Vt) (t:Ty) (s:Str):Option Ex:=
 if zfJ w funs vars t=true/\¬s=[]/\(zas w funs s 10 t 0).2=(s.length:Int)/\isE w funs vars t (zas w funs s 10 t 0).1=true then some (zas w funs s 10 t 0).1 else none
theorem zjm {w:List Data} (hs:WSmall w){funs:List Ft}{vars:List Vt} (hf:funs.length<=1000000000000) (hv:vars.length<=1000000000000){a k:Int}{s:Str} (hsl:s.length<=1000000):
  FnD Tryz.prog 179 [.d (zak w),.d (zbq funs),.d (zbt vars),.agg [.d (.i a),.d (.i k)],.d (.str s)] [] (.tup [.agg [.d (.i ((peV w funs vars ⟨a,k⟩ s).getD zdH).op),.d (.i ((peV w funs vars ⟨a,k⟩ s).getD zdH).n),.d (.i ((peV w funs vars ⟨a,k⟩ s).getD zdH).ctor),.d (zaX ((peV w funs vars ⟨a,k⟩ s).getD zdH).kids)],.d (.bool (peV w funs vars ⟨a,k⟩ s).isSome)]) []:=by
 have hr:=zj0 hs hf hv (a:=a) (k:=k);have hno:(¬(zfJ w funs vars ⟨a,k⟩=true/\¬s=[]/\(zas w funs s 10 ⟨a,k⟩ 0).2=(s.length:Int)/\isE w funs vars ⟨a,k⟩ (zas w funs s 10 ⟨a,k⟩ 0).1=true))->peV w funs vars ⟨a,k⟩ s=none:=fun h=>if_neg h;have hye:zfJ w funs vars ⟨a,k⟩=true->¬s=[]->(zas w funs s 10 ⟨a,k⟩ 0).2=(s.length:Int)->isE w funs vars ⟨a,k⟩ (zas w funs s 10 ⟨a,k⟩ 0).1=true->peV w funs vars ⟨a,k⟩ s=some (zas w funs s 10 ⟨a,k⟩ 0).1:=fun h1 h2 h3 h4=>if_pos ⟨h1,h2,h3,h4⟩;cases hR:zfJ w funs vars ⟨a,k⟩ with
 |false=>
  rw[hno (fun h=>by rw[hR] at h;simp at h)];rw[hR] at hr;clear hno hye;refine bd Tryz.f179 48 [] [] fun w0 F0 own kept hk=>?_;refine bx 3008 ?_;refine ab 3010 tz40 ?_;refine ev ?_;refine wc zpM (hr) rfl rfl ?_;refine ev ?_;refine sq ?_ ?_<;>intro h1 h1p h1s<;>(try simp only[Q] at h1p);refine bu [] [] st40 ?_;refine so ty40 ?_;refine ev ?_;refine rn0 (.cons (.cellA ty40 rfl rfl rfl) (.cons (.tmp rfl) .nil)) (.tup (.cons (.agg (.cons (.eqd ?_) (.cons (.eqd ?_) (.cons (.eqd ?_) (.cons (.nild ?_) .nil))))) (.cons (.eqd ?_) .nil)));rotate_left 5;exfalso;simp at *;all_goals (first|rfl|contradiction|(exfalso;simp at *;done))
 |true=>
  have hR':=hR;unfold zfJ at hR';rw[xad,xad] at hR';obtain⟨tv,hfo,hvo⟩:=hR';obtain⟨wv,ht,_⟩:=zcM tv;have hw:=zdh hs wv;have hA:=zh1 hs wv;have hfa:∀f∈funs,TyOk w.length f.arg:=fun f hm=>zcC (zfG hfo f hm).1;have hps:=zgF hw hA hf (fun f hm=>(hfa f hm).1) (s:=s) (by omega) 10 (by omega) ht (b:=0) ⟨by omega,by omega⟩;obtain⟨p1,p2⟩:=ziI (s:=s) hA (fun f hm=>(hfa f hm).1) 10 0 ht;have his:=zia hw (zh2 wv) hf hv hfa (zmW tv) p1 (Nat.le_trans p2 (by decide));rw[hR] at hr;have hno1:=fun(h:s=[])=>hno (fun q=>q.2.1 h);have hno2:=fun(h:¬(zas w funs s 10 ⟨a,k⟩ 0).2=(s.length:Int))=>hno (fun q=>h q.2.2.1);have hno3:=fun(h:isE w funs vars ⟨a,k⟩ (zas w funs s 10 ⟨a,k⟩ 0).1=false)=>hno (fun q=>by rw[h] at q;simp at q);have hye':=hye hR;have hend:=zhR (w:=w) (funs:=funs) (s:=s) 10 ⟨a,k⟩ 0;clear hno hye hR;generalize peV w funs vars ⟨a,k⟩ s=R at *;generalize zas w funs s 10 ⟨a,k⟩ 0=r at *;generalize isE w funs vars ⟨a,k⟩ r.1=b at *;refine bd Tryz.f179 48 [] [] fun w0 F0 own kept hk=>?_;refine bx 3008 ?_;refine ab 3010 tz40 ?_;refine ev ?_;refine wc zpM (hr) rfl rfl ?_;refine ev ?_;refine sq ?_ ?_<;>intro h1 h1p h1s<;>(try simp only[Q,Int.natCast_inj] at h1p);exfalso;simp at *;refine wc znc (hps) rfl rfl ?_;refine ev ?_;refine ab 3012 tz40 ?_;refine so ty40 ?_;refine ev ?_;refine sq ?_ ?_<;>intro h2 h2p h2s<;>(try simp only[Q,Int.natCast_inj] at h2p);refine sqT ?_;refine sqT ?_;refine bu [] [] st40 ?_;refine so ty40 ?_;refine ev ?_;refine rn0 (.cons (.cellA ty40 rfl rfl rfl) (.cons (.tmp rfl) .nil)) (.tup (.cons (.agg (.cons (.eqd ?_) (.cons (.eqd ?_) (.cons (.eqd ?_) (.cons (.nild ?_) .nil))))) (.cons (.eqd ?_) .nil)));rotate_left 5;refine sq ?_ ?_<;>intro h4 h4p h4s<;>(try simp only[Q,Int.natCast_inj] at h4p);refine sqT ?_;refine bu [] [] st40 ?_;refine so ty40 ?_;refine ev ?_;refine rn0 (.cons (.cellA ty40 rfl rfl rfl) (.cons (.tmp rfl) .nil)) (.tup (.cons (.agg (.cons (.eqd ?_) (.cons (.eqd ?_) (.cons (.eqd ?_) (.cons (.nild ?_) .nil))))) (.cons (.eqd ?_) .nil)));rotate_left 5;refine Walk.call (cr:=[]) zrt (his) rfl (.some rfl rfl h4) rfl rfl (LeL.refl _) trivial rfl rfl rfl ?_;refine evs [] [(37,false)] ?_ ⟨⟨_,rfl,h4⟩,trivial⟩;refine sq ?_ ?_<;>intro h6 h6p h6s<;>(try simp only[Q,Int.natCast_inj] at h6p);refine bu [] [] st40 ?_;refine so ty40 ?_;refine ev ?_;refine rn0 (.cons (.cellA ty40 rfl rfl rfl) (.cons (.tmp rfl) .nil)) (.tup (.cons (.agg (.cons (.eqd ?_) (.cons (.eqd ?_) (.cons (.eqd ?_) (.cons (.nild ?_) .nil))))) (.cons (.eqd ?_) .nil)));rotate_left 5;refine so ty40 ?_;refine ev ?_;refine rn0 (.cons (.cellA ty40 rfl rfl rfl) (.cons (.tmp rfl) .nil)) (.tup (.cons (.agg (.cons (.eqd ?_) (.cons (.eqd ?_) (.cons (.eqd ?_) (.cons (.eqd ?_) .nil))))) (.cons (.eqd ?_) .nil)));rotate_left 5;all_goals (first|(rw[hno1 (by assumption)];all_goals rfl)|(rw[hno2 (by assumption)];all_goals rfl)|(rw[hno3 (by assumption)];all_goals rfl)|(rw[hye' (by assumption) (by assumption) (by assumption)];all_goals rfl))
def zbk (w:List Data) (funs:List Ft):Nat->Ty->Ex->Str
 |0,_,_=>[]
 |n+1,t,e=>
  if e.op=1 then decV e.n
  else if e.op=2 then letV e.n
  else if e.op=4 then [43,40]++zbk w funs n numT (nth e.kids 0)++[44]++zbk w funs n numT (nth e.kids 1)++[41]
  else if e.op=5 then [35]++decV e.n++[40]++zbk w funs n (nth funs e.n.toNat).arg (nth e.kids 0)++[41]
  else (zdo w t e.ctor++zbE (zbk w funs n) true (zaq w t e.ctor) e.kids)++(if 0<(zaq w t e.ctor).length then [41] else [])
theorem zhZ {f:Ty->Ex->Str}:∀(b:Bool) (ts:List Ty) (ks:List Ex),(∀i,i<ts.length->i<ks.length->(f (nth ts i) (nth ks i)).length<=10*(nth ks i).size)->(zbE f b ts ks).length<=ks.length+10*Exs.size ks
 |_,[],ks,_=>by simp[zbE]
 |_,_::_,[],_=>by simp[zbE]
 |b,t::ts,k::ks,h=>by
  have ih:=zhZ false ts ks (fun i h1 h2=>h (i+1) (by simpa using h1) (by simpa using h2));have h0':(f t k).length<=10*k.size:=h 0 (by simp) (by simp);have h3:(if b=true then [(40:UInt8)] else [44]).length=1:=by split<;>rfl
  rw[zbE,xaa,xaa,Exs.size,h3];simp only[xab];omega
theorem zkW:∀(l:List Ex) (i:Nat),Exs.size (l.take i)<=Exs.size l
 | [],i=>by simp
 |x::r,0=>by simp[Exs.size]
 |x::r,i+1=>by
  have:=zkW r i;rw[List.take_succ_cons,Exs.size,Exs.size];omega
theorem zly {l:List Ex}{i:Nat} (h:i<l.length):(nth l i).size<=Exs.size l:=Exs.size_mem (zaj h)
section
variable {w:List Data}{funs:List Ft}{vars:List Vt}{n:Nat}{t:Ty}{e:Ex}
theorem zoF (h:zbr w funs vars (n+1) t e=true):(e.op=1\/e.op=2\/e.op=3\/e.op=4\/e.op=5)/\(e.op=1->0<=e.n/\e.n<=9)/\(e.op=3->e.n=0/\e.ctor∈zaJ w t)/\(e.op=4->t.data = -1)/\(e.op=5->0<=e.n/\e.n<(funs.length:Int)/\e.ctor=0)/\
  (zaz w funs t e).length=e.kids.length/\∀i,i<e.kids.length->zbr w funs vars n (nth (zaz w funs t e) i) (nth e.kids i)=true:=by
 unfold zbr at h;rw[xad] at h;obtain⟨h1,h2⟩:=h;unfold zc2 at h1;rw[xad,decide_eq_true_eq] at h1;obtain⟨h1,hl⟩:=h1;refine⟨?_,fun q=>?_,fun q=>?_,fun q=>?_,fun q=>?_,hl,fun i hi=>?_⟩
 ·by_cases h0:e.op≠1/\e.op≠2/\e.op≠3/\e.op≠4/\e.op≠5
  ·rw[ok_0 h0] at h1;exact absurd h1 (by simp)
  ·omega
 ·rw[ok_1 q] at h1;have:=of_decide_eq_true h1;omega
 ·rw[ok_3 q] at h1;exact of_decide_eq_true h1
 ·rw[ok_4 q] at h1;exact(of_decide_eq_true h1).1
 ·rw[ok_5 q,xad] at h1;exact of_decide_eq_true h1.1
 ·cases hs:zbr w funs vars n (nth (zaz w funs t e) i) (nth e.kids i) with
  |true=>rfl
  |false=>
   have:=zb2 (f:=zbr w funs vars n) (a:=zaz w funs t e) (b:=e.kids) (i:=i) (by omega) hl hs;rw[this] at h2;cases h2
theorem te1 (h:e.op=1):zbk w funs (n+1) t e=decV e.n:=by rw[zbk];rw[if_pos h]
theorem te2 (h:e.op=2):zbk w funs (n+1) t e=letV e.n:=by rw[zbk];rw[if_neg (by omega),if_pos h]
theorem te4 (h:e.op=4):zbk w funs (n+1) t e=[43,40]++zbk w funs n numT (nth e.kids 0)++[44]++zbk w funs n numT (nth e.kids 1)++[41]:=by rw[zbk];rw[if_neg (by omega),if_neg (by omega),if_pos h]
theorem te5 (h:e.op=5):zbk w funs (n+1) t e=[35]++decV e.n++[40]++zbk w funs n (nth funs e.n.toNat).arg (nth e.kids 0)++[41]:=by rw[zbk];rw[if_neg (by omega),if_neg (by omega),if_neg (by omega),if_pos h]
theorem te3 (h:e.op=3):zbk w funs (n+1) t e=(zdo w t e.ctor++zbE (zbk w funs n) true (zaq w t e.ctor) e.kids)++(if 0<(zaq w t e.ctor).length then [41] else []):=by rw[zbk];rw[if_neg (by omega),if_neg (by omega),if_neg (by omega),if_neg (by omega)]
end
theorem ziX {n:Nat}{t:Ty} (h:TyOk n t) (hd:t.data = -1):t=numT:=by
 obtain⟨a,k⟩:=t;have:=h.2 hd;simp only at this hd;subst this;subst hd;rfl
theorem zgW {w:List Data}{funs:List Ft}{vars:List Vt} (hw:WT w) (hb:TB w) (haz:AZ w) (hfa:∀f∈funs,TyOk w.length f.arg):∀(n:Nat){t:Ty}{e:Ex},zbr w funs vars n t e=true->TyOk w.length t->(zbk w funs n t e).length<=10*e.size
 |0,t,e,h,_=>by simp[zbr] at h
 |n+1,t,e,h,ht=>by
  obtain⟨o,o1,o3,o4,o5,hl,hk⟩:=zoF h;have hin:=ziY hw haz hfa ht (e:=e);have hkl:∀i,i<e.kids.length->(zbk w funs n (nth (zaz w funs t e) i) (nth e.kids i)).length<=10*(nth e.kids i).size:=fun i hi=>zgW hw hb haz hfa n (hk i hi) (hin _ (zaj (by omega)));rw[Ex.size_eq];rcases o with h1|h2|h3|h4|h5
  ·rw[te1 h1,zcm];omega
  ·rw[te2 h2,zd7];omega
  ·obtain⟨q1,q2⟩:=o3 h3;rw[ty_3 h3 q1 q2] at hl hkl;obtain⟨a,k⟩:=t;have:=zgB hw hb ht.1 q2;have h1:=zhZ (f:=zbk w funs n) true (zaq w ⟨a,k⟩ e.ctor) e.kids (fun i q1 q2=>hkl i q2);have h3':(if 0<(zaq w ⟨a,k⟩ e.ctor).length then [(41:UInt8)] else []).length<=1:=by split<;>simp
   rw[te3 h3];simp only[xaa];omega
  ·rw[ty_4 h4,ziX ht (o4 h4)] at hl hkl;have hl2:e.kids.length=2:=hl.symm;have k0':(zbk w funs n numT (nth e.kids 0)).length<=10*(nth e.kids 0).size:=hkl 0 (by omega);have k1':(zbk w funs n numT (nth e.kids 1)).length<=10*(nth e.kids 1).size:=hkl 1 (by omega);have hs:(nth e.kids 0).size+(nth e.kids 1).size=Exs.size e.kids:=by
    generalize e.kids=l at *;rcases l with _|⟨x,_|⟨y,_|⟨z,r⟩⟩⟩
    ·simp at hl2
    ·simp at hl2
    ·simp[Exs.size,nth]
    ·simp at hl2
   rw[te4 h4];simp only[xaa,xab,xai];omega
  ·rw[ty_5 h5 (o5 h5)] at hl hkl;have hl2:e.kids.length=1:=hl.symm;have k0':(zbk w funs n (nth funs e.n.toNat).arg (nth e.kids 0)).length<=10*(nth e.kids 0).size:=hkl 0 (by omega);have:=zly (l:=e.kids) (i:=0) (by omega);rw[te5 h5];simp only[xaa,zcm,xab,xai];omega
theorem znE {w:List Data}{funs:List Ft}{vars:List Vt} (hw:WT w) (hb:TB w) (haz:AZ w) (hf9:funs.length<=9) (hfa:∀f∈funs,TyOk w.length f.arg){n:Nat}
  (ih:∀ {a k:Int}{e:Ex},zbr w funs vars n ⟨a,k⟩ e=true->TyOk w.length ⟨a,k⟩->e.ok->e.size<=10000000->FnD Tryz.prog 235 [.d (zak w),.d (zbq funs),.agg [.d (.i a),.d (.i k)],.agg [.d (.i e.op),.d (.i e.n),.d (.i e.ctor),.d (zaX e.kids)]] [] (.d (.str (zbk w funs n ⟨a,k⟩ e))) [])
  {a k:Int}{e:Ex} (h:zbr w funs vars (n+1) ⟨a,k⟩ e=true) (ht:TyOk w.length ⟨a,k⟩) (hok:e.ok) (hsz:e.size<=10000000):
  FnD Tryz.prog 235 [.d (zak w),.d (zbq funs),.agg [.d (.i a),.d (.i k)],.agg [.d (.i e.op),.d (.i e.n),.d (.i e.ctor),.d (zaX e.kids)]] [] (.d (.str (zbk w funs (n+1) ⟨a,k⟩ e))) []:=by
 obtain⟨o,o1,o3,o4,o5,hl,hkf⟩:=zoF h;have hin:=ziY hw haz hfa ht (e:=e);rw[Ex.size_eq] at hsz;rw[Ex.ok_iff] at hok;have hkid:∀i,i<e.kids.length->∀t,t=nth (zaz w funs ⟨a,k⟩ e) i->FnD Tryz.prog 235 [.d (zak w),.d (zbq funs),.agg [.d (.i t.data),.d (.i t.index)],.agg [.d (.i (nth e.kids i).op),.d (.i (nth e.kids i).n),.d (.i (nth e.kids i).ctor),.d (zaX (nth e.kids i).kids)]] [] (.d (.str (zbk w funs n t (nth e.kids i)))) []:=fun i hi t q=>by
  subst q;exact ih (a:=(nth (zaz w funs ⟨a,k⟩ e) i).data) (k:=(nth (zaz w funs ⟨a,k⟩ e) i).index) (hkf i hi) (hin _ (zaj (by omega))) (Exs.ok_mem hok.2 _ (zaj hi)) (by have:=zly hi;omega)
 have hlen:∀i,i<e.kids.length->∀t,t=nth (zaz w funs ⟨a,k⟩ e) i->(zbk w funs n t (nth e.kids i)).length<=100000000:=fun i hi t q=>by
  subst q;have:=zgW hw hb haz hfa n (hkf i hi) (hin _ (zaj (by omega)));have h2:=zly hi;omega
 by_cases h3:e.op=3
 ·obtain⟨z1,z2⟩:=o3 h3;have hkf':=hkf;rw[ty_3 h3 z1 z2] at hl hkid hlen hkf';obtain⟨n1,n2⟩:=zgB hw hb ht.1 z2;have hag:=zcU hw ht.1 z2;obtain⟨d,rfl,hd,j,hj0,hj⟩:=zbA ht.1 z2;have hnm:zdo w ⟨(d:Int),k⟩ e.ctor=(nth (nth w d).ctors j).name:=by unfold zdo;rw[hj0];rfl
  have hnx:=fun i=>zh0 (f:=zbk w funs n) i (b:=true) (ts:=zaq w ⟨(d:Int),k⟩ e.ctor) (ks:=e.kids);have htl:∀i,i<=3->(zbE (zbk w funs n) true ((zaq w ⟨(d:Int),k⟩ e.ctor).take i) (e.kids.take i)).length<=1000000000:=fun i hi=>by
   have h1:=zhZ (f:=zbk w funs n) true ((zaq w ⟨(d:Int),k⟩ e.ctor).take i) (e.kids.take i) (fun i' q1 q2=>by
    rw[List.length_take] at q1 q2;have e1:nth ((zaq w ⟨(d:Int),k⟩ e.ctor).take i) i'=nth (zaq w ⟨(d:Int),k⟩ e.ctor) i':=by rw[zaL (by rw[List.length_take];omega),zaL (by omega),List.getElem_take]
    have e2:nth (e.kids.take i) i'=nth e.kids i':=by rw[zaL (by rw[List.length_take];omega),zaL (by omega),List.getElem_take]
    rw[e1,e2];have h9:=hin (nth (zaq w ⟨(d:Int),k⟩ e.ctor) i') (by rw[ty_3 h3 z1 z2];exact zaj (by omega));exact zgW hw hb haz hfa n (hkf' i' (by omega)) h9)
   have h2:=zkW e.kids i;rw[List.length_take] at h1;omega
  rw[te3 h3,hnm];have hfin:=List.take_length (l:=zaq w ⟨(d:Int),k⟩ e.ctor);have hfin2:=List.take_length (l:=e.kids);clear hkf hkf' ih;generalize zaq w ⟨(d:Int),k⟩ e.ctor=ts at *;refine bd Tryz.f235 118 [95,97,111,116] [] fun w0 F0 own kept hk=>?_;refine bx 3006 ?_;refine bx 3007 ?_;refine evs [95,97,111,116] [] ?_;refine bu [0] [_] st29 ?_;refine ab 3009 tz29 ?_;refine so ty29 ?_;refine tv ?_;refine sq ?_ ?_<;>intro h1 h1p h1s<;>(try simp only[Q,Int.natCast_inj,Ex.cs_len,xac] at h1p);exfalso;omega;refine sq ?_ ?_<;>intro h2 h2p h2s<;>(try simp only[Q,Int.natCast_inj,Ex.cs_len,xac] at h2p);exfalso;omega;refine sq ?_ ?_<;>intro h3 h3p h3s<;>(try simp only[Q,Int.natCast_inj,Ex.cs_len,xac] at h3p);exfalso;omega;refine sq ?_ ?_<;>intro h4 h4p h4s<;>(try simp only[Q,Int.natCast_inj,Ex.cs_len,xac] at h4p);exfalso;omega;refine Walk.idx sl23 .none rfl rfl rfl rfl (zae hd) rfl ?_;refine evd [95,97,111,116] [] ?_;refine Walk.idx (i:=j) zbw .none rfl rfl rfl hj0 (zae hj) rfl ?_;refine evd [95,97,111,116] [] ?_;refine dr ?_;refine wc zbT (hag) rfl rfl ?_;refine evs [95,97,111,116] [] ?_;refine xak (ι:=Nat) hk (fun i=>[(12,.d (.i (i:Int))),(10,.d (.str ((nth (nth w d).ctors j).name++zbE (zbk w funs n) true (ts.take i) (e.kids.take i))))]) [86,87,88,89,90,91,92,93,94,95,96,97,98,99,100,101,102,103,104,105,106,107,108,109,110,111] (fun i=>[]) (fun i=>i<=ts.length) (fun i=>ts.length-i) 0 (by omega) ⟨⟨_,rfl,xap ?_⟩,⟨⟨_,rfl,xaq ?_⟩,trivial⟩⟩ trivial (fun x=>rfl) (fun i hg1=>?_);iterate 2 focus (first|rfl|omega|(rw[hnx i (by omega) (by omega),if_pos ⟨rfl,by omega⟩];simp;done)|(rw[hnx i (by omega) (by omega),if_neg (by omega)];simp;done)|(simp[zbE];done))
  refine evc [95,97,111,116] [] ?_;refine sq ?_ ?_<;>intro h5 h5p h5s<;>(try simp only[Q,Int.natCast_inj,Ex.cs_len,xac] at h5p);refine sq ?_ ?_<;>intro h6 h6p h6s<;>(try simp only[Q,Int.natCast_inj,Ex.cs_len,xac] at h6p);refine xaF .none rfl rfl rfl (by rw[hnm] at n1;have:=htl i (by omega);first|(have:=hlen i (by omega) (nth ts i) rfl;simp only[xaa,xab,xai];omega)|(simp only[xaa,xab,xai];omega)) ?_;refine evs [95,97,111,116] [] ?_;refine Walk.idx zax .none rfl rfl rfl rfl (zae (by omega)) rfl ?_;refine evd [95,97,111,116] [] ?_;refine Walk.idx sl33 .none rfl rfl rfl rfl (zdL (by omega)) rfl ?_;refine evd [95,97,111,116] [] ?_;refine wc zhd (hkid i (by omega) (nth ts i) rfl) rfl rfl ?_;refine xaF .none rfl rfl rfl (by rw[hnm] at n1;have:=htl i (by omega);first|(have:=hlen i (by omega) (nth ts i) rfl;simp only[xaa,xab,xai];omega)|(simp only[xaa,xab,xai];omega)) ?_;refine evd [95,97,111,116] [] ?_;refine dr ?_;refine ar ?_;refine xah (i+1) ⟨(by omega),(by omega),sx ⟨⟨_,rfl,xap ?_⟩,⟨⟨_,rfl,xaq ?_⟩,trivial⟩⟩ trivial⟩;iterate 2 focus (first|rfl|omega|(rw[hnx i (by omega) (by omega),if_pos ⟨rfl,by omega⟩];simp;done)|(rw[hnx i (by omega) (by omega),if_neg (by omega)];simp;done)|(simp[zbE];done))
  refine xaF .none rfl rfl rfl (by rw[hnm] at n1;have:=htl i (by omega);first|(have:=hlen i (by omega) (nth ts i) rfl;simp only[xaa,xab,xai];omega)|(simp only[xaa,xab,xai];omega)) ?_;refine evs [95,97,111,116] [] ?_;refine Walk.idx zax .none rfl rfl rfl rfl (zae (by omega)) rfl ?_;refine evd [95,97,111,116] [] ?_;refine Walk.idx sl33 .none rfl rfl rfl rfl (zdL (by omega)) rfl ?_;refine evd [95,97,111,116] [] ?_;refine wc zhd (hkid i (by omega) (nth ts i) rfl) rfl rfl ?_;refine xaF .none rfl rfl rfl (by rw[hnm] at n1;have:=htl i (by omega);first|(have:=hlen i (by omega) (nth ts i) rfl;simp only[xaa,xab,xai];omega)|(simp only[xaa,xab,xai];omega)) ?_;refine evd [95,97,111,116] [] ?_;refine dr ?_;refine ar ?_;refine xah (i+1) ⟨(by omega),(by omega),sx ⟨⟨_,rfl,xap ?_⟩,⟨⟨_,rfl,xaq ?_⟩,trivial⟩⟩ trivial⟩;iterate 2 focus (first|rfl|omega|(rw[hnx i (by omega) (by omega),if_pos ⟨rfl,by omega⟩];simp;done)|(rw[hnx i (by omega) (by omega),if_neg (by omega)];simp;done)|(simp[zbE];done))
  refine sq ?_ ?_<;>intro h7 h7p h7s<;>(try simp only[Q,Int.natCast_inj,Ex.cs_len,xac] at h7p);refine xaF .none rfl rfl rfl (by rw[hnm] at n1;have:=htl i (by omega);first|(have:=hlen i (by omega) (nth ts i) rfl;simp only[xaa,xab,xai];omega)|(simp only[xaa,xab,xai];omega)) ?_;refine evs [95,97,111,116] [] ?_;refine rq ?_;rotate_left;refine rq ?_;rotate_left;all_goals (have e1:i=ts.length:=(by omega);subst e1;rw[hfin,show ts.length=e.kids.length by omega,hfin2];first|(rw[if_pos (by omega)];done)|(rw[if_neg (by omega),List.append_nil];done))
 ·have e4:e.op=4->e.kids.length=2:=fun q=>by rw[ty_4 q] at hl;exact hl.symm
  have e5:e.op=5->e.kids.length=1:=fun q=>by rw[ty_5 q (o5 q)] at hl;exact hl.symm
  have hk40:=fun(q:e.op=4)=>hkid 0 (by rw[e4 q];omega) numT (by rw[ty_4 q,ziX ht (o4 q)];rfl);have hk41:=fun(q:e.op=4)=>hkid 1 (by rw[e4 q];omega) numT (by rw[ty_4 q,ziX ht (o4 q)];rfl);have hk50:=fun(q:e.op=5)=>hkid 0 (by rw[e5 q];omega) (nth funs e.n.toNat).arg (by rw[ty_5 q (o5 q)];rfl);have hn40:=fun(q:e.op=4)=>hlen 0 (by rw[e4 q];omega) numT (by rw[ty_4 q,ziX ht (o4 q)];rfl);have hn41:=fun(q:e.op=4)=>hlen 1 (by rw[e4 q];omega) numT (by rw[ty_4 q,ziX ht (o4 q)];rfl);have hn50:=fun(q:e.op=5)=>hlen 0 (by rw[e5 q];omega) (nth funs e.n.toNat).arg (by rw[ty_5 q (o5 q)];rfl);have hdl:=zcm e.n;have hll:=zd7 e.n;clear ih hkid hlen hkf;refine bd Tryz.f235 118 [36,37,46,47,53,54,68,69] [] fun w0 F0 own kept hk=>?_;refine bx 3006 ?_;refine bx 3007 ?_;refine evs [36,37,46,47,53,54,68,69] [] ?_;refine bu [0] [_] st29 ?_;refine ab 3009 tz29 ?_;refine so ty29 ?_;refine tv ?_;refine sq ?_ ?_<;>intro h1 h1p h1s<;>(try simp only[Q,Int.natCast_inj,Ex.cs_len,xac] at h1p);refine wc zev (zbz (n:=e.n) (o1 (by omega)).1 (o1 (by omega)).2) rfl rfl ?_;refine evs [36,37,46,47,53,54,68,69] [] ?_;refine rq ?_;rotate_left;refine sq ?_ ?_<;>intro h2 h2p h2s<;>(try simp only[Q,Int.natCast_inj,Ex.cs_len,xac] at h2p);refine wc ziq (zcL (n:=e.n)) rfl rfl ?_;refine evs [36,37,46,47,53,54,68,69] [] ?_;refine rq ?_;rotate_left;refine sq ?_ ?_<;>intro h3 h3p h3s<;>(try simp only[Q,Int.natCast_inj,Ex.cs_len,xac] at h3p);refine Walk.idx (i:=0) sl33 .none rfl rfl rfl rfl (zdL (by first|(rw[e4 (by omega)];omega)|(rw[e5 (by omega)];omega))) rfl ?_;refine evd [36,37,46,47,53,54,68,69] [] ?_;refine wc zhd (hk40 (by omega)) rfl rfl ?_;refine xaF .none rfl rfl rfl (by first|(have:=hn40 (by omega);have:=hn41 (by omega);simp only[xaa,xab,xai];omega)|(have:=hn50 (by omega);simp only[xaa,xab,xai,hdl];omega)|(simp only[xaa,xab,xai,hdl];omega)) ?_;refine xaF .none rfl rfl rfl (by first|(have:=hn40 (by omega);have:=hn41 (by omega);simp only[xaa,xab,xai];omega)|(have:=hn50 (by omega);simp only[xaa,xab,xai,hdl];omega)|(simp only[xaa,xab,xai,hdl];omega)) ?_;refine evd [36,37,46,47,53,54,68,69] [] ?_;refine Walk.idx (i:=1) sl33 .none rfl rfl rfl rfl (zdL (by first|(rw[e4 (by omega)];omega)|(rw[e5 (by omega)];omega))) rfl ?_;refine evd [36,37,46,47,53,54,68,69] [] ?_;refine wc zhd (hk41 (by omega)) rfl rfl ?_;refine xaF .none rfl rfl rfl (by first|(have:=hn40 (by omega);have:=hn41 (by omega);simp only[xaa,xab,xai];omega)|(have:=hn50 (by omega);simp only[xaa,xab,xai,hdl];omega)|(simp only[xaa,xab,xai,hdl];omega)) ?_;refine xaF .none rfl rfl rfl (by first|(have:=hn40 (by omega);have:=hn41 (by omega);simp only[xaa,xab,xai];omega)|(have:=hn50 (by omega);simp only[xaa,xab,xai,hdl];omega)|(simp only[xaa,xab,xai,hdl];omega)) ?_;refine evd [36,37,46,47,53,54,68,69] [] ?_;refine dr ?_;refine rq ?_;rotate_left;refine sq ?_ ?_<;>intro h4 h4p h4s<;>(try simp only[Q,Int.natCast_inj,Ex.cs_len,xac] at h4p);refine wc zev (zbz (n:=e.n) (o5 (by omega)).1 (by have:=(o5 (by omega)).2.1;omega)) rfl rfl ?_;refine xaF .none rfl rfl rfl (by first|(have:=hn40 (by omega);have:=hn41 (by omega);simp only[xaa,xab,xai];omega)|(have:=hn50 (by omega);simp only[xaa,xab,xai,hdl];omega)|(simp only[xaa,xab,xai,hdl];omega)) ?_;refine xaF .none rfl rfl rfl (by first|(have:=hn40 (by omega);have:=hn41 (by omega);simp only[xaa,xab,xai];omega)|(have:=hn50 (by omega);simp only[xaa,xab,xai,hdl];omega)|(simp only[xaa,xab,xai,hdl];omega)) ?_;refine evd [36,37,46,47,53,54,68,69] [] ?_;refine Walk.idx (i:=e.n.toNat) sl63 .none rfl rfl rfl (by have:=o5 (by omega);omega) (zae (by have:=o5 (by omega);omega)) rfl ?_;refine evd [36,37,46,47,53,54,68,69] [] ?_;refine Walk.idx (i:=0) sl33 .none rfl rfl rfl rfl (zdL (by first|(rw[e4 (by omega)];omega)|(rw[e5 (by omega)];omega))) rfl ?_;refine evd [36,37,46,47,53,54,68,69] [] ?_;refine wc zhd (hk50 (by omega)) rfl rfl ?_;refine xaF .none rfl rfl rfl (by first|(have:=hn40 (by omega);have:=hn41 (by omega);simp only[xaa,xab,xai];omega)|(have:=hn50 (by omega);simp only[xaa,xab,xai,hdl];omega)|(simp only[xaa,xab,xai,hdl];omega)) ?_;refine xaF .none rfl rfl rfl (by first|(have:=hn40 (by omega);have:=hn41 (by omega);simp only[xaa,xab,xai];omega)|(have:=hn50 (by omega);simp only[xaa,xab,xai,hdl];omega)|(simp only[xaa,xab,xai,hdl];omega)) ?_;refine evd [36,37,46,47,53,54,68,69] [] ?_;refine dr ?_;refine rq ?_;rotate_left;exfalso;omega;all_goals (first|(rw[te1 (by omega)];done)|(rw[te2 (by omega)];done)|(rw[te4 (by omega)];all_goals rfl)|(rw[te5 (by omega)];all_goals rfl))
theorem zgU {w:List Data}{funs:List Ft}{vars:List Vt} (hw:WT w) (hb:TB w) (haz:AZ w) (hf9:funs.length<=9) (hfa:∀f∈funs,TyOk w.length f.arg):∀(n:Nat){a k:Int}{e:Ex},zbr w funs vars n ⟨a,k⟩ e=true->TyOk w.length ⟨a,k⟩->e.ok->e.size<=10000000->
  FnD Tryz.prog 235 [.d (zak w),.d (zbq funs),.agg [.d (.i a),.d (.i k)],.agg [.d (.i e.op),.d (.i e.n),.d (.i e.ctor),.d (zaX e.kids)]] [] (.d (.str (zbk w funs n ⟨a,k⟩ e))) []
 |0,a,k,e,h,_,_,_=>by simp[zbr] at h
 |n+1,a,k,e,h,ht,hok,hsz=>znE hw hb haz hf9 hfa (fun {a k e} q1 q2 q3 q4=>zgU hw hb haz hf9 hfa n q1 q2 q3 q4) h ht hok hsz
theorem zj5 {w:List Data} (hw:w.length<=1000000000000):FnD Tryz.prog 177 [.d (zak w)] [] (.d (zbY (w.map Data.name))) []:=by
 refine bd Tryz.f177 21 [] [] fun w0 F0 own kept hk=>?_;refine xa6 1 zaD .none rfl rfl ?_;refine ev ?_;refine xak (ι:=List (Data)×List (Data)) hk (fun x=>[(4,.d (.i (x.1.length:Int))),(3,.gl 1 (x.1.map fun d=>[D.str d.name]))]) [6,7,8,9,10,11,12,13,14,15,16,17,18,19] (fun x=>[(1,some (.tok ((x.1.map fun d=>[D.str d.name])).length 1))]) (fun x=>x.1++x.2=w) (fun x=>x.2.length) ([],w) (by simp) ⟨⟨_,rfl,xap ?_⟩,⟨⟨_,rfl,LeA.glg ?_⟩,trivial⟩⟩ ⟨zaf ?_,trivial⟩ (fun x=>rfl) (fun x hg1=>?_);iterate 3 focus (first|rfl|(simp;done)|(simp;omega))
 obtain⟨pre,rest⟩:=x;dsimp only at hg1 ⊢;refine evc [] [] ?_;refine sq ?_ ?_<;>intro h1 h1p h1s<;>(try simp only[Q] at h1p);rcases rest with _|⟨y,rest⟩
 ·exfalso;simp_all
 refine Walk.idx sl23 .none rfl rfl rfl rfl (zaH hg1) rfl ?_;refine ev ?_;refine si [0] [_] zaD tz9 ?_;refine ap zaD zz9 rfl rfl rfl (by intro x hx;simp at hx;subst hx;rfl) (by have hz:=congrArg List.length hg1;simp at hz ⊢;omega) ?_;refine ev ?_;refine ar ?_;refine xah ((pre++[y],rest)) ⟨(by have hz:=hg1;rw[<-hz];simp),(by simp),sx ⟨⟨_,rfl,xap ?_⟩,⟨⟨_,rfl,LeA.glg ?_⟩,trivial⟩⟩ ⟨zaf ?_,trivial⟩⟩;iterate 3 focus (first|rfl|(simp;done)|(simp;omega))
 have hrest:rest=[]:=by
  rcases rest with _|⟨a,b⟩
  ·rfl
  ·exfalso;have hz:=congrArg List.length (hg1);simp only[xaa,xab,xac] at hz;omega
 subst hrest;refine rn0 (r1 rfl) (.gld ?_);rotate_left;all_goals (first|rfl|(rw[List.append_nil] at hg1;rw[<-hg1];simp;done)|(rw[<-hg1];simp;done))
def isTy (w:List Data) (t:Ty):Bool:=zbn w.length t&&decide (0<=t.index)
def ftP (w:List Data) (s:Str):Ft×Bool:=
 if (cutL 62 [] s).length=2 then (⟨zcj (w.map Data.name) (nth (cutL 62 [] s) 0),zcj (w.map Data.name) (nth (cutL 62 [] s) 1)⟩,
  isTy w (zcj (w.map Data.name) (nth (cutL 62 [] s) 0))&&isTy w (zcj (w.map Data.name) (nth (cutL 62 [] s) 1))) else (⟨⟨0,0⟩,⟨0,0⟩⟩,false)
theorem zk3 {w:List Data} (hw:w.length<=1000000){s:Str} (hs:s.length<=1000000):
  FnD Tryz.prog 120 [.d (zak w),.d (.str s)] [] (.tup [.agg [.d (.i (ftP w s).1.arg.data),.d (.i (ftP w s).1.arg.index),.d (.i (ftP w s).1.res.data),.d (.i (ftP w s).1.res.index)],.d (.bool (ftP w s).2)]) []:=by
 have hc:FnD Tryz.prog 117 [.d (.str s),.d (.int .u8 62)] [] (.d (zbY (cutL 62 [] s))) []:=zbb (s:=s) (c:=62) (by omega);have hl:=fun i (h:i<(cutL 62 [] s).length)=>zbV (c:=62) (s:=s) h;have hN:=zj5 (w:=w) (by omega);have hNl:(w.map Data.name).length<=1000000000000:=by simp;omega
 unfold ftP;generalize cutL 62 [] s=P at *;by_cases h2:P.length=2
 ·rw[if_pos h2];have hp:=fun i (h:i<P.length)=>zdT (names:=w.map Data.name) (s:=nth P i) hNl (by have:=hl i h;omega);generalize w.map Data.name=N at *;have hi:=fun t:Ty=>ze3 (w:=w) (a:=t.data) (b:=t.index);have hI:∀t:Ty,isTy w t=(zbn w.length ⟨t.data,t.index⟩&&decide (0<=t.index)):=fun _=>rfl;rw[hI,hI];have hp0:=hp 0 (by omega);have hp1:=hp 1 (by omega);generalize zcj N (nth P 0)=t0 at *;generalize zcj N (nth P 1)=t1 at *;have hi0:=hi t0;have hi1:=hi t1;generalize (zbn w.length ⟨t0.data,t0.index⟩&&decide (0<=t0.index))=b0 at *;generalize (zbn w.length ⟨t1.data,t1.index⟩&&decide (0<=t1.index))=b1 at *;refine bd Tryz.f120 39 [] [] fun w0 F0 own kept hk=>?_;refine ab 3004 tz31 ?_;refine ev ?_;refine wc zbF (hc) rfl rfl ?_;refine ev ?_;refine sq ?_ ?_<;>intro h1 h1p h1s<;>(try simp only[Q,Int.natCast_inj,xac] at h1p);exfalso;omega;refine wc zsH (hN) rfl rfl ?_;refine ev ?_;refine Walk.idx (i:=0) zaD .none rfl rfl rfl rfl (zae (by omega)) rfl ?_;refine evd [] [] ?_;refine wc zkg (hp0) rfl rfl ?_;refine evd [] [] ?_;refine Walk.idx (i:=1) zaD .none rfl rfl rfl rfl (zae (by omega)) rfl ?_;refine evd [] [] ?_;refine wc zkg (hp1) rfl rfl ?_;refine bu [0,1] [_,_] st31 ?_;refine ab 3008 tz31 ?_;refine so ty31 ?_;refine dr ?_;refine wc zi6 (hi0) rfl rfl ?_;refine evd [] [] ?_;refine sq ?_ ?_<;>intro h2 h2p h2s<;>(try simp only[Q,Int.natCast_inj,xac] at h2p);refine Walk.call (cr:=[]) zi6 (hi1) rfl (.some rfl rfl h2) rfl rfl (LeL.refl _) trivial rfl rfl rfl ?_;refine evd [] [(33,true)] ?_ ⟨⟨_,rfl,h2⟩,trivial⟩;refine so ty31 ?_;refine evd [] [] ?_;refine dr ?_;refine rn0 (.cons (.cellA ty31 rfl rfl rfl) (.cons (.tmp rfl) .nil)) (.tup (.cons (.agg (.cons (.eqd ?_) (.cons (.eqd ?_) (.cons (.eqd ?_) (.cons (.eqd ?_) .nil))))) (.cons (.eqd ?_) .nil)));rotate_left 5;refine so ty31 ?_;refine evd [] [] ?_;refine dr ?_;refine rn0 (.cons (.cellA ty31 rfl rfl rfl) (.cons (.tmp rfl) .nil)) (.tup (.cons (.agg (.cons (.eqd ?_) (.cons (.eqd ?_) (.cons (.eqd ?_) (.cons (.eqd ?_) .nil))))) (.cons (.eqd ?_) .nil)));rotate_left 5;all_goals (first|rfl|(refine congrArg D.bool ?_;cases b0<;>cases b1<;>first|rfl|contradiction))
 ·rw[if_neg h2];refine bd Tryz.f120 39 [] [] fun w0 F0 own kept hk=>?_;refine ab 3004 tz31 ?_;refine ev ?_;refine wc zbF (hc) rfl rfl ?_;refine ev ?_;refine sq ?_ ?_<;>intro h1 h1p h1s<;>(try simp only[Q,Int.natCast_inj,xac] at h1p);refine bu [] [] st31 ?_;refine so ty31 ?_;refine ev ?_;focus (refine rn0 (.cons (.cellA ty31 rfl rfl rfl) (.cons (.tmp rfl) .nil)) (.tup (.cons (.agg (.cons (.eqd ?_) (.cons (.eqd ?_) (.cons (.eqd ?_) (.cons (.eqd ?_) .nil))))) (.cons (.eqd ?_) .nil)));all_goals (first|rfl|(simp[h1s,h1p];done)|(simp_all;done)|(simp_all;omega)|omega))
  exfalso;omega
def bodT (w:List Data) (funs:List Ft) (f:Fu):Nat->Str
 |0=>zdN w f.ty.arg++[62]++zdN w f.ty.res
 |n+1=>bodT w funs f n++[47]++zc9 w f.ty.arg (nth f.cls n)++[32]++zbk w funs 10 f.ty.res (nth f.bodies n)
def funT (w:List Data) (l:List Fu):Nat->Str
 |0=>[]
 |n+1=>(if 0<n then funT w l n++[59] else funT w l n)++bodT w (l.map Fu.ty) (nth l n) (nth l n).cls.length
theorem zs7 {w:List Data}{funs:List Ft}{f:Fu} (h:zbD w funs f=true):za7 w f.ty.arg f.cls=true/\f.bodies.length=f.cls.length/\∀i,i<f.bodies.length->isE w funs (zbu w f.ty.arg (nth f.cls i).pat) f.ty.res (nth f.bodies i)=true:=by
 have h1:za7 w f.ty.arg f.cls=true:=by unfold zbD at h;rw[xad] at h;exact h.1
 have h2:f.bodies.length=f.cls.length:=by
  by_cases hl:f.bodies.length=f.cls.length
  ·exact hl
  ·rw[zhz hl] at h;cases h
 refine⟨h1,h2,fun i hi=>?_⟩;cases e:isE w funs (zbu w f.ty.arg (nth f.cls i).pat) f.ty.res (nth f.bodies i) with
 |true=>rfl
 |false=>rw[zin h2 hi e] at h;cases h
theorem zp4 {w:List Data}{funs:List Ft}{vars:List Vt}{t:Ty}{e:Ex} (h:isE w funs vars t e=true):zbr w funs vars 10 t e=true:=by
 unfold isE at h;rw[xad] at h;exact h.1
theorem znB {w:List Data}{funs:List Ft}{vars:List Vt}{t:Ty}{e:Ex} (h:isE w funs vars t e=true):e.size<=60:=by
 unfold isE at h;rw[xad,decide_eq_true_eq] at h;omega
theorem zmr {n:Nat}{t:Ty} (h:za8 n t=true):(t.data = -1\/(0<=t.data/\t.data.toNat<n))/\ -1<=t.index/\t.index<=3:=by
 unfold za8 zal at h;simp only[Bool.or_eq_true,xad,decide_eq_true_eq,and_true] at h;omega
theorem zk2 {w:List Data} (hs:WSmall w) (hv:zaC w=true){funs:List Ft} (hft:zbC w funs=true){f:Fu} (hok:FuOk f) (hz:∀c∈f.cls,c.pat.size<=10000000) (hfv:zbD w funs f=true)
  (ha:za8 w.length f.ty.arg=true) (hr:za8 w.length f.ty.res=true):
  FnD Tryz.prog 180 [.d (zak w),.d (zbq funs),.agg [.d (.i f.ty.arg.data),.d (.i f.ty.arg.index),.d (.i f.ty.res.data),.d (.i f.ty.res.index),.d (zcZ f.cls),.d (zaX f.bodies)]] [] (.d (.str (bodT w funs f f.cls.length))) []/\(bodT w funs f f.cls.length).length<=1000000000:=by
 have hw:=zdh hs hv;have hb:=zh3 hv;have haz:=zh2 hv;obtain⟨f1,f2,f3⟩:=zs7 hfv;obtain⟨tv,f4,f5⟩:=zgI f1;have hta:=zmr ha;have htr:=zmr hr;have t1:=zeo hb (a:=f.ty.arg.data) (k:=f.ty.arg.index) hta.1 hta.2;have t2:=zeo hb (a:=f.ty.res.data) (k:=f.ty.res.index) htr.1 htr.2;have l1:=zeq hb (t:=f.ty.arg) hta.1;have l2:=zeq hb (t:=f.ty.res) htr.1;have hfa:∀u∈funs,TyOk w.length u.arg:=fun u hu=>zcC (zfG hft u hu).1;have hf4:funs.length<=4:=by unfold zbC at hft;rw[xad,decide_eq_true_eq] at hft;omega
 have c1:=fun i (h:i<f.cls.length)=>zfp hw hb (a:=f.ty.arg.data) (k:=f.ty.arg.index) (zcC ha).1 (f5 i h) (hok.1.2 _ (zaj h)) (hz _ (zaj h));have c2:=fun i (h:i<f.cls.length)=>zmn hw hb (a:=f.ty.arg.data) (k:=f.ty.arg.index) (zcC ha).1 (f5 i h) (hz _ (zaj h));have e1:=fun i (h:i<f.bodies.length)=>zgU hw hb haz (by omega) hfa 10 (a:=f.ty.res.data) (k:=f.ty.res.index) (zp4 (f3 i h)) (zcC hr) (Exs.ok_mem hok.2.2 _ (zaj h)) (by have:=znB (f3 i h);omega);have e2:=fun i (h:i<f.bodies.length)=>zgW hw hb haz hfa 10 (zp4 (f3 i h)) (zcC hr);have hlen:∀n,n<=f.cls.length->(bodT w funs f n).length<=10+100001000*n:=by
  intro n;induction n with
  |zero=>intro _;simp only[bodT,xaa,xab,xai];omega
  |succ n ih=>
   intro hn;have h1:=ih (by omega);have h2:(zc9 w f.ty.arg (nth f.cls n)).length<=100000010:=c2 n (by omega);have h3:=e2 n (by omega);have h4:=znB (f3 n (by omega));simp only[bodT,xaa,xab,xai];omega
 refine⟨?_,by have:=hlen _ (Nat.le_refl _);omega⟩;have e3:∀i,i<f.bodies.length->(zbk w funs 10 f.ty.res (nth f.bodies i)).length<=600:=fun i h=>by have:=e2 i h;have:=znB (f3 i h);omega
 have c3:∀i,i<f.cls.length->(zc9 w f.ty.arg (nth f.cls i)).length<=100000010:=fun i h=>c2 i h;have l1':(zdN w ⟨f.ty.arg.data,f.ty.arg.index⟩).length<=2:=l1;have l2':(zdN w ⟨f.ty.res.data,f.ty.res.index⟩).length<=2:=l2;have c3':∀i,i<f.cls.length->(zc9 w ⟨f.ty.arg.data,f.ty.arg.index⟩ (nth f.cls i)).length<=100000010:=c3;have e3':∀i,i<f.bodies.length->(zbk w funs 10 ⟨f.ty.res.data,f.ty.res.index⟩ (nth f.bodies i)).length<=600:=e3;refine bd Tryz.f180 55 [14,20,29,40,41,53] [] fun w0 F0 own kept hk=>?_;refine bx 3005 ?_;refine evs [14,20,29,40,41,53] [] ?_;refine wc zkl (t1) rfl rfl ?_;refine xaF .none rfl rfl rfl (by first|(have:=hlen i (by omega);have:=c3 i (by omega);have:=e3 i (by omega);have:=c3' i (by omega);have:=e3' i (by omega);simp only[xaa,xab,xai];omega)|(simp only[xaa,xab,xai];omega)) ?_;refine evd [14,20,29,40,41,53] [] ?_;refine wc zkl (t2) rfl rfl ?_;refine xaF .none rfl rfl rfl (by first|(have:=hlen i (by omega);have:=c3 i (by omega);have:=e3 i (by omega);have:=c3' i (by omega);have:=e3' i (by omega);simp only[xaa,xab,xai];omega)|(simp only[xaa,xab,xai];omega)) ?_;refine evd [14,20,29,40,41,53] [] ?_;refine dr ?_;refine xak (ι:=Nat) hk (fun i=>[(8,.d (.i (i:Int))),(7,.d (.str (bodT w funs f i)))]) [21,22,23,24,25,26,27,28,29,30,31,32,33,34,35,36,37,38,39,40,41,42,43,44,45,46,47,48,49,50,51,52,53] (fun i=>[]) (fun i=>i<=f.cls.length) (fun i=>f.cls.length-i) 0 (by omega) ⟨⟨_,rfl,xap ?_⟩,⟨⟨_,rfl,xaq ?_⟩,trivial⟩⟩ trivial (fun x=>rfl) (fun i hg1=>?_);iterate 2 focus (first|rfl|omega)
 refine evc [14,20,29,40,41,53] [] ?_;refine sq ?_ ?_<;>intro h1 h1p h1s<;>(try simp only[Q,Int.natCast_inj,Ex.cs_len,xac] at h1p);refine xaF .none rfl rfl rfl (by first|(have:=hlen i (by omega);have:=c3 i (by omega);have:=e3 i (by omega);have:=c3' i (by omega);have:=e3' i (by omega);simp only[xaa,xab,xai];omega)|(simp only[xaa,xab,xai];omega)) ?_;refine evd [14,20,29,40,41,53] [] ?_;refine Walk.idx sl32 .none rfl rfl rfl rfl (zae (by omega)) rfl ?_;refine evd [14,20,29,40,41,53] [] ?_;refine wc znd (c1 i (by omega)) rfl rfl ?_;refine xaF .none rfl rfl rfl (by first|(have:=hlen i (by omega);have:=c3 i (by omega);have:=e3 i (by omega);have:=c3' i (by omega);have:=e3' i (by omega);simp only[xaa,xab,xai];omega)|(simp only[xaa,xab,xai];omega)) ?_;refine xaF .none rfl rfl rfl (by first|(have:=hlen i (by omega);have:=c3 i (by omega);have:=e3 i (by omega);have:=c3' i (by omega);have:=e3' i (by omega);simp only[xaa,xab,xai];omega)|(simp only[xaa,xab,xai];omega)) ?_;refine evd [14,20,29,40,41,53] [] ?_;refine Walk.idx sl33 .none rfl rfl rfl rfl (zdL (by omega)) rfl ?_;refine evd [14,20,29,40,41,53] [] ?_;refine wc zhd (e1 i (by omega)) rfl rfl ?_;refine xaF .none rfl rfl rfl (by first|(have:=hlen i (by omega);have:=c3 i (by omega);have:=e3 i (by omega);have:=c3' i (by omega);have:=e3' i (by omega);simp only[xaa,xab,xai];omega)|(simp only[xaa,xab,xai];omega)) ?_;refine evd [14,20,29,40,41,53] [] ?_;refine dr ?_;refine ar ?_;refine xah (i+1) ⟨(by omega),(by omega),sx ⟨⟨_,rfl,xap ?_⟩,⟨⟨_,rfl,xaq ?_⟩,trivial⟩⟩ trivial⟩;iterate 2 focus (first|rfl|omega)
 refine rq ?_;rotate_left;all_goals (rw[show i=f.cls.length by omega])
theorem zs8 {w:List Data}{l:List Fu} (h:zbe w l=true):zaC w=true/\zbC w (l.map Fu.ty)=true/\∀f∈l,zbD w (l.map Fu.ty) f=true:=by
 unfold zbe at h;rw[xad,xad,List.all_eq_true] at h;exact h
theorem zdG {w:List Data} (hs:WSmall w){l:List Fu} (hl:FusOk l) (hz:∀f∈l,∀c∈f.cls,c.pat.size<=10000000) (hv:zbe w l=true):
  FnD Tryz.prog 122 [.d (zak w),.d (zbs l)] [] (.d (.str (funT w l l.length))) []:=by
 obtain⟨wv,hfo,hfu⟩:=zs8 hv;have hll:=hl.1;have hl4:l.length<=4:=by have:=hfo;unfold zbC at this;rw[xad,decide_eq_true_eq] at this;have h9:=this.1;rw[xac] at h9;omega
 have hty:=fun i (h:i<l.length)=>zfG hfo (nth l i).ty (List.mem_map.2 ⟨_,zaj h,rfl⟩);have hft:=zeG (l:=l) (by omega);have hfn:=fun i (h:i<l.length)=>zk2 hs wv hfo (hl.2 _ (zaj h)) (hz _ (zaj h)) (hfu _ (zaj h)) (hty i h).1 (hty i h).2;have hlen:∀n,n<=l.length->(funT w l n).length<=1000000010*n:=by
  intro n;induction n with
  |zero=>intro _;simp[funT]
  |succ n ih=>
   intro hn;have h1:=ih (by omega);have h2:=(hfn n (by omega)).2;unfold funT;split
   ·simp only[xaa,xab,xai];omega
   ·simp only[xaa];omega
 have hb2:∀i,i<l.length->(bodT w (l.map Fu.ty) (nth l i) (nth l i).cls.length).length<=1000000000:=fun i h=>(hfn i h).2;have hn1:∀i,0<i->funT w l (i+1)=funT w l i++[59]++bodT w (l.map Fu.ty) (nth l i) (nth l i).cls.length:=fun i h=>by rw[funT,if_pos h]
 have hn0:∀i,¬0<i->funT w l (i+1)=funT w l i++bodT w (l.map Fu.ty) (nth l i) (nth l i).cls.length:=fun i h=>by rw[funT,if_neg h]
 refine bd Tryz.f122 28 [16,26] [] fun w0 F0 own kept hk=>?_;refine xak (ι:=Nat) hk (fun i=>[(6,.d (.i (i:Int))),(5,.d (.str (funT w l i)))]) [7,8,9,10,11,12,13,14,15,16,17,18,19,20,21,22,23,24,25,26] (fun i=>[]) (fun i=>i<=l.length) (fun i=>l.length-i) 0 (by omega) ⟨⟨_,rfl,xap ?_⟩,⟨⟨_,rfl,xaq ?_⟩,trivial⟩⟩ trivial (fun x=>rfl) (fun i hg1=>?_);iterate 2 focus (first|rfl|omega|(rw[hn1 i (by omega)];done)|(rw[hn0 i (by omega)];done))
 refine evc [16,26] [] ?_;refine sq ?_ ?_<;>intro h1 h1p h1s<;>(try simp only[Q,Int.natCast_inj,xac] at h1p);refine sq ?_ ?_<;>intro h2 h2p h2s<;>(try simp only[Q,Int.natCast_inj,xac] at h2p);refine xaF .none rfl rfl rfl (by have:=hlen i (by omega);have:=hb2 i (by omega);(try simp only[xaa,xab,xai]);omega) ?_;refine evs [16,26] [] ?_;refine wc zey (hft) rfl rfl ?_;refine evd [16,26] [] ?_;refine Walk.idx sl24 .none rfl rfl rfl rfl (zae (by omega)) rfl ?_;refine evd [16,26] [] ?_;refine wc zpF (hfn i (by omega)).1 rfl rfl ?_;refine xaF .none rfl rfl rfl (by have:=hlen i (by omega);have:=hb2 i (by omega);(try simp only[xaa,xab,xai]);omega) ?_;refine evd [16,26] [] ?_;refine dr ?_;refine ar ?_;refine xah (i+1) ⟨(by omega),(by omega),sx ⟨⟨_,rfl,xap ?_⟩,⟨⟨_,rfl,xaq ?_⟩,trivial⟩⟩ trivial⟩;iterate 2 focus (first|rfl|omega|(rw[hn1 i (by omega)];done)|(rw[hn0 i (by omega)];done))
 refine wc zey (hft) rfl rfl ?_;refine evd [16,26] [] ?_;refine Walk.idx sl24 .none rfl rfl rfl rfl (zae (by omega)) rfl ?_;refine evd [16,26] [] ?_;refine wc zpF (hfn i (by omega)).1 rfl rfl ?_;refine xaF .none rfl rfl rfl (by have:=hlen i (by omega);have:=hb2 i (by omega);(try simp only[xaa,xab,xai]);omega) ?_;refine evd [16,26] [] ?_;refine dr ?_;refine ar ?_;refine xah (i+1) ⟨(by omega),(by omega),sx ⟨⟨_,rfl,xap ?_⟩,⟨⟨_,rfl,xaq ?_⟩,trivial⟩⟩ trivial⟩;iterate 2 focus (first|rfl|omega|(rw[hn1 i (by omega)];done)|(rw[hn0 i (by omega)];done))
 refine rq ?_;rotate_left;all_goals (rw[show i=l.length by omega])
def txtV (ws:List Str):Str:=if ws.length=3 then nth ws 0++[32]++nth ws 1 else nth ws 0
def zfw (ws:List Str):Str:=nth ws (ws.length-1)
def clF (w:List Data) (funs:List Ft) (f:Fu) (s:Str):Fu×Bool:=
 if (wdsV s).length<2\/3<(wdsV s).length then (f,false)
 else match pcV w f.ty.arg (txtV (wdsV s)) with
  |some [c]=>(⟨f.ty,f.cls++[c],f.bodies++[(peV w funs (zbu w f.ty.arg c.pat) f.ty.res (zfw (wdsV s))).getD zdH]⟩,(peV w funs (zbu w f.ty.arg c.pat) f.ty.res (zfw (wdsV s))).isSome)
  |_=>(f,false)
theorem znP {w:List Data} (hs:WSmall w){t:Ty}{s:Str}{l:List Cl} (h:pcV w t s=some l):za7 w t l=true/\∀c∈l,c.pat.ok/\c.pat.size<=10000000:=by
 unfold pcV at h;split at h
 ·rename_i htv;cases e:pcN w t s (zcw s) with
  |none=>rw[e] at h;cases h
  |some r=>
   rw[e] at h;dsimp only at h;split at h
   ·rename_i hc;cases h
    obtain⟨a,k⟩:=t;obtain⟨wv,ht,_⟩:=zcM htv;exact⟨hc.1,(znN (zh1 hs wv) ht e).2⟩
   ·cases h
 ·cases h
theorem zjp {w:List Data} (hs:WSmall w){funs:List Ft} (hfl:funs.length<=1000000000000){f:Fu} (hc9:f.cls.length<=1000) (hb9:f.bodies.length<=1000){s:Str} (hsl:s.length<=400000):
  FnD Tryz.prog 121 [.d (zak w),.d (zbq funs),.agg [.d (.i f.ty.arg.data),.d (.i f.ty.arg.index),.d (.i f.ty.res.data),.d (.i f.ty.res.index),.d (zcZ f.cls),.d (zaX f.bodies)],.d (.str s)] []
   (.tup [.agg [.d (.i (clF w funs f s).1.ty.arg.data),.d (.i (clF w funs f s).1.ty.arg.index),.d (.i (clF w funs f s).1.ty.res.data),.d (.i (clF w funs f s).1.ty.res.index),.d (zcZ (clF w funs f s).1.cls),.d (zaX (clF w funs f s).1.bodies)],.d (.bool (clF w funs f s).2)]) []:=by
 have hcut:FnD Tryz.prog 117 [.d (.str s),.d (.int .u8 32)] [] (.d (zbY (wdsV s))) []:=zbb (s:=s) (c:=32) (by omega);have hwl:∀j,j<(wdsV s).length->(nth (wdsV s) j).length<=400000:=fun j hj=>by have:=zbV (c:=32) (s:=s) hj;exact Nat.le_trans this hsl
 have hdef:clF w funs f s=(if (wdsV s).length<2\/3<(wdsV s).length then (f,false) else match pcV w f.ty.arg (txtV (wdsV s)) with
  |some [c]=>(⟨f.ty,f.cls++[c],f.bodies++[(peV w funs (zbu w f.ty.arg c.pat) f.ty.res (zfw (wdsV s))).getD zdH]⟩,(peV w funs (zbu w f.ty.arg c.pat) f.ty.res (zfw (wdsV s))).isSome)
  |_=>(f,false)):=rfl
 generalize clF w funs f s=R at *;generalize wdsV s=ws at *;by_cases hb:ws.length<2\/3<ws.length
 ·rw[if_pos hb] at hdef;subst hdef;refine bd Tryz.f121 101 [] [] fun w0 F0 own kept hk=>?_;refine bx 3006 ?_;refine ab 3008 tz35 ?_;refine ev ?_;refine wc zbF (hcut) rfl rfl ?_;refine ev ?_;refine sq ?_ ?_<;>intro h1 h1p h1s<;>(try simp only[Q,Int.natCast_inj,xac] at h1p);refine sqT ?_;refine so ty35 ?_;refine ev ?_;focus (refine rn0 (.cons (.cellA ty35 rfl rfl rfl) (.cons (.tmp rfl) .nil)) (.tup (.cons (.agg (.cons (.eqd ?_) (.cons (.eqd ?_) (.cons (.eqd ?_) (.cons (.eqd ?_) (.cons (.eqd ?_) (.cons (.eqd ?_) .nil))))))) (.cons (.eqd ?_) .nil)));all_goals (first|rfl|(simp[h1s,h1p];done)|(simp_all;done)|(simp_all;omega)|omega))
  refine sq ?_ ?_<;>intro h3 h3p h3s<;>(try simp only[Q,Int.natCast_inj,xac] at h3p);refine so ty35 ?_;refine ev ?_;focus (refine rn0 (.cons (.cellA ty35 rfl rfl rfl) (.cons (.tmp rfl) .nil)) (.tup (.cons (.agg (.cons (.eqd ?_) (.cons (.eqd ?_) (.cons (.eqd ?_) (.cons (.eqd ?_) (.cons (.eqd ?_) (.cons (.eqd ?_) .nil))))))) (.cons (.eqd ?_) .nil)));all_goals (first|rfl|(simp[h1s,h1p,h3s,h3p];done)|(simp_all;done)|(simp_all;omega)|omega))
  exfalso;omega
 rw[if_neg hb] at hdef;have hpc:=zhV hs (a:=f.ty.arg.data) (k:=f.ty.arg.index) (s:=txtV ws) (by
  unfold txtV;split
  ·have h0:=hwl 0 (by omega);have h1:=hwl 1 (by omega);simp only[xaa,xab,xai];omega
  ·have h0:=hwl 0 (by omega);omega)
 have hps:=fun(l:List Cl) (h:pcV w f.ty.arg (txtV ws)=some l)=>znP hs h;rw[show pcV w ⟨f.ty.arg.data,f.ty.arg.index⟩ (txtV ws)=pcV w f.ty.arg (txtV ws) from rfl] at hpc;have ht3:ws.length=3->txtV ws=nth ws 0++[32]++nth ws 1:=fun h=>by unfold txtV;rw[if_pos h]
 have ht2:¬ws.length=3->txtV ws=nth ws 0:=fun h=>by unfold txtV;rw[if_neg h]
 have hno:∀o:Option (List Cl),pcV w f.ty.arg (txtV ws)=o->(o.isSome=false\/¬(o.getD []).length=1)->R=(f,false):=fun o h h2=>by
  rw[hdef,h];rcases o with _|_|⟨c,_|⟨d,r⟩⟩
  ·rfl
  ·rfl
  ·simp at h2
  ·rfl
 by_cases h1:∃c,pcV w f.ty.arg (txtV ws)=some [c]
 ·obtain⟨c,hc⟩:=h1;obtain⟨cv,co⟩:=hps _ hc;obtain⟨htv,_,hco⟩:=zgI cv;have hwv:=(zcM (w:=w) (a:=f.ty.arg.data) (k:=f.ty.arg.index) htv).1;have hw:=zdh hs hwv;have hcv:=zfF (hco 0 (by simp));have hcp:=co c (by simp);have hvl:=zge w f.ty.arg c.pat;have hvs:=zep hw 10 (a:=f.ty.arg.data) (k:=f.ty.arg.index) (p:=c.pat) (xs:=[]) hcv.2.1 (by omega) (zmW htv).1 hcp.1 (by simp;omega);rw[show([]:List Vt)++zaE w 10 ⟨f.ty.arg.data,f.ty.arg.index⟩ c.pat=zbu w f.ty.arg c.pat from hcv.2.2] at hvs;have hpe:=zjm hs (funs:=funs) (vars:=zbu w f.ty.arg c.pat) (a:=f.ty.res.data) (k:=f.ty.res.index) (s:=zfw ws) hfl (by omega) (by have:=hwl (ws.length-1) (by omega);unfold zfw;omega);rw[hc] at hpc hdef;dsimp only at hdef;subst hdef;rw[show peV w funs (zbu w f.ty.arg c.pat) ⟨f.ty.res.data,f.ty.res.index⟩ (zfw ws)=peV w funs (zbu w f.ty.arg c.pat) f.ty.res (zfw ws) from rfl] at hpe;generalize peV w funs (zbu w f.ty.arg c.pat) f.ty.res (zfw ws)=oe at *;have hcc:([c]:List Cl).map Cl.c=[Cl.c c]:=rfl;unfold zfw at hpe;generalize zbu w f.ty.arg c.pat=vs at *;generalize hT:txtV ws=tx at *;refine bd Tryz.f121 101 [34,38] [] fun w0 F0 own kept hk=>?_;refine bx 3006 ?_;refine ab 3008 tz35 ?_;refine evs [34,38] [] ?_;refine wc zbF (hcut) rfl rfl ?_;refine evs [34,38] [] ?_;refine sq ?_ ?_<;>intro h1 h1p h1s<;>(try simp only[Q,Int.natCast_inj,xac,Ex.cs_len] at h1p);refine sqT ?_;exfalso;omega;refine sq ?_ ?_<;>intro h3 h3p h3s<;>(try simp only[Q,Int.natCast_inj,xac,Ex.cs_len] at h3p);exfalso;omega;refine Walk.idx (i:=0) zaD .none rfl rfl rfl rfl (zae (by omega)) rfl ?_;refine evs [34,38] [] ?_;refine sq ?_ ?_<;>intro h4 h4p h4s<;>(try simp only[Q,Int.natCast_inj,xac,Ex.cs_len] at h4p);refine xaF .none rfl rfl rfl (by first|(simp only[xaa,xab,xai];have h0:=hwl 0 (by omega);have h1:=hwl 1 (by omega);omega)|(simp[Ex.cs_len];omega)|(have h0:=hwl 0 (by omega);simp only[xaa,xab,xai];omega)) ?_;refine evs [34,38] [] ?_;refine Walk.idx (i:=1) zaD .none rfl rfl rfl rfl (zae (by omega)) rfl ?_;refine evs [34,38] [] ?_;refine xaF .none rfl rfl rfl (by first|(simp only[xaa,xab,xai];have h0:=hwl 0 (by omega);have h1:=hwl 1 (by omega);omega)|(simp[Ex.cs_len];omega)|(have h0:=hwl 0 (by omega);simp only[xaa,xab,xai];omega)) ?_;refine evs [34,38] [] ?_;refine wc zki (by first|(rw[<-ht3 (by omega)];exact hpc)|(rw[<-ht2 (by omega)];exact hpc)) rfl rfl ?_;refine evs [34,38] [] ?_;refine sq ?_ ?_<;>intro h5 h5p h5s<;>(try simp only[Q,Int.natCast_inj,xac,Ex.cs_len] at h5p);refine sqT ?_;focus (exfalso;first|contradiction|(simp at *;done)|omega)
  refine sq ?_ ?_<;>intro h7 h7p h7s<;>(try simp only[Q,Int.natCast_inj,xac,Ex.cs_len] at h7p);focus (exfalso;first|contradiction|(simp at *;done)|omega)
  refine xa6 5 sl66 .none rfl rfl ?_;refine evd [34,38] [] ?_;refine Walk.idx (i:=0) sl32 .none rfl rfl rfl rfl (zae (l:=[c]) (i:=0) (by simp)) rfl ?_;refine evd [34,38] [] ?_;refine xaD 8 zfY (hvs) rfl .none rfl rfl (.cons (.refl _) (.cons (.refl _) (.cons (.refl _) (.cons (.refl _) .nil)))) rfl (by first|rfl|(simp only[zai,occH,occE,Res.ids,xag,List.nil_append,AV.idsL,AV.ids,zab,zaa,zac,zan,xae,List.map_nil,upC];rfl)) ?_;refine evd [34,38] [] ?_;refine ar ?_;refine Walk.idx (i:=(ws.length-1)) zaD .none rfl rfl rfl (by simp;omega) (zae (by omega)) rfl ?_;refine evd [34,38] [] ?_;refine Walk.call (cr:=[]) zpE (hpe) rfl .none rfl rfl (.cons (.refl _) (.cons (.refl _) (.cons (.gl _ _) (.cons (.refl _) (.cons (.refl _) .nil))))) trivial rfl rfl rfl ?_;refine evd [34,38] [] ?_;refine ab 3014 tz40 ?_;refine so ty40 ?_;refine evd [34,38] [] ?_;refine dr ?_;refine xa6 6 sl32 .none rfl rfl ?_;refine evd [34,38] [] ?_;refine Walk.append sl32 zz78 rfl .none rfl rfl rfl rfl (zaW rfl (by first|rfl|(simp;done)|(simp;omega))) (by first|(intro x hx;simp at hx;subst hx;rfl)|(intro x hx;obtain⟨y,_,rfl⟩:=List.mem_map.1 hx;rfl)|(intro x hx;rw[Ex.cs_cc] at hx;obtain⟨y,_,rfl⟩:=List.mem_map.1 hx;rfl)) (by first|(simp only[xaa,xab,xai];have h0:=hwl 0 (by omega);have h1:=hwl 1 (by omega);omega)|(simp[Ex.cs_len];omega)|(have h0:=hwl 0 (by omega);simp only[xaa,xab,xai];omega)) (by first|(simp only[xaa,xab,xai];have h0:=hwl 0 (by omega);have h1:=hwl 1 (by omega);omega)|(simp[Ex.cs_len];omega)|(have h0:=hwl 0 (by omega);simp only[xaa,xab,xai];omega)) ?_;refine evd [34,38] [] ?_;refine Walk.idx (i:=0) sl32 .none rfl rfl rfl rfl (zae (l:=[c]) (i:=0) (by simp)) rfl ?_;refine evd [34,38] [] ?_;refine si [0] [_] sl32 tz78 ?_;refine Walk.append sl32 zz78 rfl .none rfl rfl rfl rfl (zaW rfl (by first|rfl|(simp;done)|(simp;omega))) (by first|(intro x hx;simp at hx;subst hx;rfl)|(intro x hx;obtain⟨y,_,rfl⟩:=List.mem_map.1 hx;rfl)|(intro x hx;rw[Ex.cs_cc] at hx;obtain⟨y,_,rfl⟩:=List.mem_map.1 hx;rfl)) (by first|(simp only[xaa,xab,xai];have h0:=hwl 0 (by omega);have h1:=hwl 1 (by omega);omega)|(simp[Ex.cs_len];omega)|(have h0:=hwl 0 (by omega);simp only[xaa,xab,xai];omega)) (by first|(simp only[xaa,xab,xai];have h0:=hwl 0 (by omega);have h1:=hwl 1 (by omega);omega)|(simp[Ex.cs_len];omega)|(have h0:=hwl 0 (by omega);simp only[xaa,xab,xai];omega)) ?_;refine evd [34,38] [] ?_;refine so ty32 ?_;refine dr ?_;refine xa6 7 sl33 .none rfl rfl ?_;refine evd [34,38] [] ?_;refine ap sl33 zz40 rfl rfl rfl (by first|(intro x hx;simp at hx;subst hx;rfl)|(intro x hx;obtain⟨y,_,rfl⟩:=List.mem_map.1 hx;rfl)|(intro x hx;rw[Ex.cs_cc] at hx;obtain⟨y,_,rfl⟩:=List.mem_map.1 hx;rfl)) (by first|(simp only[xaa,xab,xai];have h0:=hwl 0 (by omega);have h1:=hwl 1 (by omega);omega)|(simp[Ex.cs_len];omega)|(have h0:=hwl 0 (by omega);simp only[xaa,xab,xai];omega)) ?_;refine evd [34,38] [] ?_;refine si [0] [_] sl33 tz40 ?_;refine ap sl33 zz40 rfl rfl rfl (by first|(intro x hx;simp at hx;subst hx;rfl)|(intro x hx;obtain⟨y,_,rfl⟩:=List.mem_map.1 hx;rfl)|(intro x hx;rw[Ex.cs_cc] at hx;obtain⟨y,_,rfl⟩:=List.mem_map.1 hx;rfl)) (by first|(simp only[xaa,xab,xai];have h0:=hwl 0 (by omega);have h1:=hwl 1 (by omega);omega)|(simp[Ex.cs_len];omega)|(have h0:=hwl 0 (by omega);simp only[xaa,xab,xai];omega)) ?_;refine evd [34,38] [] ?_;refine so ty33 ?_;refine dr ?_;refine so ty35 ?_;refine evs [34,38] [] ?_;refine rn0 (.cons (.cellA ty35 rfl rfl rfl) (.cons (.tmp rfl) .nil)) (.tup (.cons (.agg (.cons (.eqd ?_) (.cons (.eqd ?_) (.cons (.eqd ?_) (.cons (.eqd ?_) (.cons (.gld ?_) (.cons (.gld ?_) .nil))))))) (.cons (.eqd ?_) .nil)));rotate_left 7;refine wc zki (by first|(rw[<-ht3 (by omega)];exact hpc)|(rw[<-ht2 (by omega)];exact hpc)) rfl rfl ?_;refine evs [34,38] [] ?_;refine sq ?_ ?_<;>intro h8 h8p h8s<;>(try simp only[Q,Int.natCast_inj,xac,Ex.cs_len] at h8p);refine sqT ?_;focus (exfalso;first|contradiction|(simp at *;done)|omega)
  refine sq ?_ ?_<;>intro h10 h10p h10s<;>(try simp only[Q,Int.natCast_inj,xac,Ex.cs_len] at h10p);focus (exfalso;first|contradiction|(simp at *;done)|omega)
  refine xa6 5 sl66 .none rfl rfl ?_;refine evd [34,38] [] ?_;refine Walk.idx (i:=0) sl32 .none rfl rfl rfl rfl (zae (l:=[c]) (i:=0) (by simp)) rfl ?_;refine evd [34,38] [] ?_;refine xaD 8 zfY (hvs) rfl .none rfl rfl (.cons (.refl _) (.cons (.refl _) (.cons (.refl _) (.cons (.refl _) .nil)))) rfl (by first|rfl|(simp only[zai,occH,occE,Res.ids,xag,List.nil_append,AV.idsL,AV.ids,zab,zaa,zac,zan,xae,List.map_nil,upC];rfl)) ?_;refine evd [34,38] [] ?_;refine ar ?_;refine Walk.idx (i:=(ws.length-1)) zaD .none rfl rfl rfl (by simp;omega) (zae (by omega)) rfl ?_;refine evd [34,38] [] ?_;refine Walk.call (cr:=[]) zpE (hpe) rfl .none rfl rfl (.cons (.refl _) (.cons (.refl _) (.cons (.gl _ _) (.cons (.refl _) (.cons (.refl _) .nil))))) trivial rfl rfl rfl ?_;refine evd [34,38] [] ?_;refine ab 3014 tz40 ?_;refine so ty40 ?_;refine evd [34,38] [] ?_;refine dr ?_;refine xa6 6 sl32 .none rfl rfl ?_;refine evd [34,38] [] ?_;refine Walk.append sl32 zz78 rfl .none rfl rfl rfl rfl (zaW rfl (by first|rfl|(simp;done)|(simp;omega))) (by first|(intro x hx;simp at hx;subst hx;rfl)|(intro x hx;obtain⟨y,_,rfl⟩:=List.mem_map.1 hx;rfl)|(intro x hx;rw[Ex.cs_cc] at hx;obtain⟨y,_,rfl⟩:=List.mem_map.1 hx;rfl)) (by first|(simp only[xaa,xab,xai];have h0:=hwl 0 (by omega);have h1:=hwl 1 (by omega);omega)|(simp[Ex.cs_len];omega)|(have h0:=hwl 0 (by omega);simp only[xaa,xab,xai];omega)) (by first|(simp only[xaa,xab,xai];have h0:=hwl 0 (by omega);have h1:=hwl 1 (by omega);omega)|(simp[Ex.cs_len];omega)|(have h0:=hwl 0 (by omega);simp only[xaa,xab,xai];omega)) ?_;refine evd [34,38] [] ?_;refine Walk.idx (i:=0) sl32 .none rfl rfl rfl rfl (zae (l:=[c]) (i:=0) (by simp)) rfl ?_;refine evd [34,38] [] ?_;refine si [0] [_] sl32 tz78 ?_;refine Walk.append sl32 zz78 rfl .none rfl rfl rfl rfl (zaW rfl (by first|rfl|(simp;done)|(simp;omega))) (by first|(intro x hx;simp at hx;subst hx;rfl)|(intro x hx;obtain⟨y,_,rfl⟩:=List.mem_map.1 hx;rfl)|(intro x hx;rw[Ex.cs_cc] at hx;obtain⟨y,_,rfl⟩:=List.mem_map.1 hx;rfl)) (by first|(simp only[xaa,xab,xai];have h0:=hwl 0 (by omega);have h1:=hwl 1 (by omega);omega)|(simp[Ex.cs_len];omega)|(have h0:=hwl 0 (by omega);simp only[xaa,xab,xai];omega)) (by first|(simp only[xaa,xab,xai];have h0:=hwl 0 (by omega);have h1:=hwl 1 (by omega);omega)|(simp[Ex.cs_len];omega)|(have h0:=hwl 0 (by omega);simp only[xaa,xab,xai];omega)) ?_;refine evd [34,38] [] ?_;refine so ty32 ?_;refine dr ?_;refine xa6 7 sl33 .none rfl rfl ?_;refine evd [34,38] [] ?_;refine ap sl33 zz40 rfl rfl rfl (by first|(intro x hx;simp at hx;subst hx;rfl)|(intro x hx;obtain⟨y,_,rfl⟩:=List.mem_map.1 hx;rfl)|(intro x hx;rw[Ex.cs_cc] at hx;obtain⟨y,_,rfl⟩:=List.mem_map.1 hx;rfl)) (by first|(simp only[xaa,xab,xai];have h0:=hwl 0 (by omega);have h1:=hwl 1 (by omega);omega)|(simp[Ex.cs_len];omega)|(have h0:=hwl 0 (by omega);simp only[xaa,xab,xai];omega)) ?_;refine evd [34,38] [] ?_;refine si [0] [_] sl33 tz40 ?_;refine ap sl33 zz40 rfl rfl rfl (by first|(intro x hx;simp at hx;subst hx;rfl)|(intro x hx;obtain⟨y,_,rfl⟩:=List.mem_map.1 hx;rfl)|(intro x hx;rw[Ex.cs_cc] at hx;obtain⟨y,_,rfl⟩:=List.mem_map.1 hx;rfl)) (by first|(simp only[xaa,xab,xai];have h0:=hwl 0 (by omega);have h1:=hwl 1 (by omega);omega)|(simp[Ex.cs_len];omega)|(have h0:=hwl 0 (by omega);simp only[xaa,xab,xai];omega)) ?_;refine evd [34,38] [] ?_;refine so ty33 ?_;refine dr ?_;refine so ty35 ?_;refine evs [34,38] [] ?_;refine rn0 (.cons (.cellA ty35 rfl rfl rfl) (.cons (.tmp rfl) .nil)) (.tup (.cons (.agg (.cons (.eqd ?_) (.cons (.eqd ?_) (.cons (.eqd ?_) (.cons (.eqd ?_) (.cons (.gld ?_) (.cons (.gld ?_) .nil))))))) (.cons (.eqd ?_) .nil)));rotate_left 7;all_goals (first|rfl|(simp[nth];done)|(simp[Ex.cs_cc];done)|(simp[nth,Ex.cs_cc];done))
 ·have hR:R=(f,false):=hno _ rfl (by
   cases e:pcV w f.ty.arg (txtV ws) with
   |none=>exact .inl rfl
   |some l=>
    refine .inr (fun hl=>h1 ?_);rcases l with _|⟨c,_|⟨d,r⟩⟩
    ·simp at hl
    ·exact⟨c,e⟩
    ·simp at hl)
  have hb2:(pcV w f.ty.arg (txtV ws)).isSome=true->((pcV w f.ty.arg (txtV ws)).getD []).length=1->False:=fun ha hl=>by
   cases e:pcV w f.ty.arg (txtV ws) with
   |none=>rw[e] at ha;cases ha
   |some l=>
    rw[e] at hl;rcases l with _|⟨c,_|⟨d,r⟩⟩
    ·simp at hl
    ·exact h1 ⟨c,e⟩
    ·simp at hl
  subst hR;clear hdef hno hps h1;generalize pcV w f.ty.arg (txtV ws)=o at *;generalize hT:txtV ws=tx at *;refine bd Tryz.f121 101 [34,38] [] fun w0 F0 own kept hk=>?_;refine bx 3006 ?_;refine ab 3008 tz35 ?_;refine evs [34,38] [] ?_;refine wc zbF (hcut) rfl rfl ?_;refine evs [34,38] [] ?_;refine sq ?_ ?_<;>intro h1 h1p h1s<;>(try simp only[Q,Int.natCast_inj,xac] at h1p);refine sqT ?_;exfalso;omega;refine sq ?_ ?_<;>intro h3 h3p h3s<;>(try simp only[Q,Int.natCast_inj,xac] at h3p);exfalso;omega;refine Walk.idx (i:=0) zaD .none rfl rfl rfl rfl (zae (by omega)) rfl ?_;refine evs [34,38] [] ?_;refine sq ?_ ?_<;>intro h4 h4p h4s<;>(try simp only[Q,Int.natCast_inj,xac] at h4p);refine xaF .none rfl rfl rfl (by(have h0:=hwl 0 (by omega);have h1:=hwl 1 (by omega);simp only[xaa,xab,xai];omega)) ?_;refine evs [34,38] [] ?_;refine Walk.idx (i:=1) zaD .none rfl rfl rfl rfl (zae (by omega)) rfl ?_;refine evs [34,38] [] ?_;refine xaF .none rfl rfl rfl (by(have h0:=hwl 0 (by omega);have h1:=hwl 1 (by omega);simp only[xaa,xab,xai];omega)) ?_;refine evs [34,38] [] ?_;refine wc zki (by first|(rw[<-ht3 (by omega)];exact hpc)|(rw[<-ht2 (by omega)];exact hpc)) rfl rfl ?_;refine evs [34,38] [] ?_;refine sq ?_ ?_<;>intro h5 h5p h5s<;>(try simp only[Q,Int.natCast_inj,xac] at h5p);refine sqT ?_;refine so ty35 ?_;refine evs [34,38] [] ?_;focus (refine rn0 (.cons (.cellA ty35 rfl rfl rfl) (.cons (.tmp rfl) .nil)) (.tup (.cons (.agg (.cons (.eqd ?_) (.cons (.eqd ?_) (.cons (.eqd ?_) (.cons (.eqd ?_) (.cons (.eqd ?_) (.cons (.eqd ?_) .nil))))))) (.cons (.eqd ?_) .nil)));all_goals (first|rfl|(simp[h1s,h1p,h3s,h3p,h4s,h4p,h5s,h5p];done)|(simp_all;done)|(simp_all;omega)|omega))
  refine sq ?_ ?_<;>intro h7 h7p h7s<;>(try simp only[Q,Int.natCast_inj,xac] at h7p);refine so ty35 ?_;refine evs [34,38] [] ?_;focus (refine rn0 (.cons (.cellA ty35 rfl rfl rfl) (.cons (.tmp rfl) .nil)) (.tup (.cons (.agg (.cons (.eqd ?_) (.cons (.eqd ?_) (.cons (.eqd ?_) (.cons (.eqd ?_) (.cons (.eqd ?_) (.cons (.eqd ?_) .nil))))))) (.cons (.eqd ?_) .nil)));all_goals (first|rfl|(simp[h1s,h1p,h3s,h3p,h4s,h4p,h5s,h5p,h7s,h7p];done)|(simp_all;done)|(simp_all;omega)|omega))
  exfalso;exact hb2 (by assumption) (by omega);refine wc zki (by first|(rw[<-ht3 (by omega)];exact hpc)|(rw[<-ht2 (by omega)];exact hpc)) rfl rfl ?_;refine evs [34,38] [] ?_;refine sq ?_ ?_<;>intro h8 h8p h8s<;>(try simp only[Q,Int.natCast_inj,xac] at h8p);refine sqT ?_;refine so ty35 ?_;refine evs [34,38] [] ?_;focus (refine rn0 (.cons (.cellA ty35 rfl rfl rfl) (.cons (.tmp rfl) .nil)) (.tup (.cons (.agg (.cons (.eqd ?_) (.cons (.eqd ?_) (.cons (.eqd ?_) (.cons (.eqd ?_) (.cons (.eqd ?_) (.cons (.eqd ?_) .nil))))))) (.cons (.eqd ?_) .nil)));all_goals (first|rfl|(simp[h1s,h1p,h3s,h3p,h4s,h4p,h8s,h8p];done)|(simp_all;done)|(simp_all;omega)|omega))
  refine sq ?_ ?_<;>intro h10 h10p h10s<;>(try simp only[Q,Int.natCast_inj,xac] at h10p);refine so ty35 ?_;refine evs [34,38] [] ?_;focus (refine rn0 (.cons (.cellA ty35 rfl rfl rfl) (.cons (.tmp rfl) .nil)) (.tup (.cons (.agg (.cons (.eqd ?_) (.cons (.eqd ?_) (.cons (.eqd ?_) (.cons (.eqd ?_) (.cons (.eqd ?_) (.cons (.eqd ?_) .nil))))))) (.cons (.eqd ?_) .nil)));all_goals (first|rfl|(simp[h1s,h1p,h3s,h3p,h4s,h4p,h8s,h8p,h10s,h10p];done)|(simp_all;done)|(simp_all;omega)|omega))
  exfalso;exact hb2 (by assumption) (by omega)
end Go.Proofs.YtmchfdpleibpdaaGreat
namespace Go.Proofs.YtmchfdpleibpdaaGreat
open Go
set_option linter.unusedSimpArgs false
set_option linter.unusedVariables false
section
variable {c:Ctx}{env:Env}{hp:Hp}{K:Kt}{code:Code}{ids:List Nat}
theorem R.gtGl2 {G:Gh}{a:Act}{w:World} (hr:R c G ⟨env,hp⟩ a w){id id2 n k:Nat}{xs:List (List D)}{v:Value} (hv:RelA G (tokf hp) w (.gt id xs) v) (hb:getH hp id=some (.tok n k)) (hn:n=xs.length) (h0:getH hp id2=none) (hocc:zcP id2 ⟨env,hp⟩):
  ∃G',R c G' ⟨env,(id2,some (.tok n k))::(id,none)::hp⟩ a w/\RelA G' (tokf ((id2,some (.tok n k))::(id,none)::hp)) w (.gl id2 xs) v:=by
 have h0':getH hp id2=none:=h0;have hne:id2≠id:=fun e=>by subst e;rw[h0'] at hb;cases hb
 obtain⟨⟨ad,cap0,hv0⟩,hcl⟩:=hv.gt_inv;obtain⟨hkx,htip⟩:=(hcl _ _ (zam.2 hb)).2 hn;have s1:(getH hp id).isSome:=by rw[hb];rfl
 have hbd:=(hr.heap id _ hb).bound;let hd:List Nat:=(G.loc id).take 1
 let G':Gh:={ F:=fun x=>bif zaB x hd then n*k else bif zaB x (G.loc id) then szB w x else G.F x,loc:=fun i=>bif Nat.beq i id2 then hd else G.loc i }
 have hdsub:∀x,x∈hd->x∈G.loc id:=fun x hx=>List.mem_of_mem_take hx;have l1:G'.loc id2=hd:=by simp[G']
 have l3:∀i,i≠id2->G'.loc i=G.loc i:=fun i h2=>by simp[G',zb0 h2]
 have nel:∀ {x:Nat}{l:List Nat},x∉l->zaB x l=false:=fun {x l} hx=>by
  cases h:zaB x l with
  |true=>exact absurd (zay.1 h) hx
  |false=>rfl
 have hout:∀x,x∉G.loc id->G'.F x=G.F x:=fun x hx=>by simp[G',nel hx,nel (fun h=>hx (hdsub x h))]
 have hF0:∀x,x∈G.loc id->G.F x=0:=(zlw hn hkx htip).2.2;have g1:getH ((id2,some (Res.tok n k))::(id,none)::hp) id2=some (.tok n k):=by rw[zad,if_pos rfl]
 have g2:getH ((id2,some (Res.tok n k))::(id,none)::hp) id=none:=by rw[zad,if_neg (Ne.symm hne),zad,if_pos rfl]
 have t2:tokf ((id2,some (Res.tok n k))::(id,none)::hp) id=none:=by unfold tokf;rw[g2]
 have t1:tokf ((id2,some (Res.tok n k))::(id,none)::hp) id2=some (n,k):=zam.2 g1;have hturn:Turn c G ⟨env,hp⟩ w G' ((id2,some (.tok n k))::(id,none)::hp) [id,id2]:=by
  refine⟨fun i hi=>?_,fun i hi=>?_,fun x hx=>?_,fun x o ho=>?_,fun x hx=>?_,fun i hi=>?_,fun i hi hs x hx=>?_,fun i hi j hj hij h1 h2 x hx=>?_,fun i hi l hl=>?_⟩
  ·simp only[List.mem_cons,List.not_mem_nil,or_false,not_or] at hi;rw[zad,if_neg hi.2,zad,if_neg hi.1]
  ·simp only[List.mem_cons,List.not_mem_nil,or_false,not_or] at hi;exact l3 i hi.2
  ·exact hout x (hx id (by simp) s1)
  ·by_cases hx:x∈G.loc id
   ·rw[hF0 x hx] at ho;omega
   ·rw[hout x hx];exact ho
  ·by_cases hx':x∈G.loc id
   ·have:=hbd x hx';omega
   ·rw[hout x hx'];exact hr.top x hx
  ·simp only[List.mem_cons,List.not_mem_nil,or_false] at hi;rcases hi with rfl|rfl
   ·exact .inr ⟨.inl (l3 i (Ne.symm hne)),fun p hp=>by rw[t2] at hp;cases hp⟩
   ·exact .inl hocc
  ·simp only[List.mem_cons,List.not_mem_nil,or_false] at hi;rcases hi with rfl|rfl
   ·rw[g2] at hs;cases hs
   ·rw[l1] at hx;exact⟨id,by simp,s1,hdsub x hx⟩
  ·simp only[List.mem_cons,List.not_mem_nil,or_false] at hi hj;rcases hi with rfl|rfl
   ·rw[g2] at h1;cases h1
   ·rcases hj with rfl|rfl
    ·rw[g2] at h2;cases h2
    ·exact absurd rfl hij
  ·simp only[List.mem_cons,List.not_mem_nil,or_false] at hi;have hk0:=hr.kept i l hl;rcases hi with rfl|rfl
   ·have:=hk0.2.2;rw[show(⟨env,hp⟩:St).hp=hp from rfl,zam.2 hb] at this;cases this
   ·have:=hk0.2.1;rw[show(⟨env,hp⟩:St).hp=hp from rfl,h0'] at this;cases this
 refine⟨G',hturn.fin hr (fun i hi r hri=>?_), ?_⟩
 ·simp only[List.mem_cons,List.not_mem_nil,or_false] at hi;rcases hi with rfl|rfl
  ·rw[g2] at hri;cases hri
  ·rw[g1] at hri;cases hri
   intro b hb;rw[l1] at hb;exact hbd b (hdsub b hb)
 ·rcases htip with ⟨e1,e2,e3⟩|⟨b,cap,us,e,Ss,e1,e2,e3,e4,e5,e6,e7,e8,e9⟩
  ·have hz:xs=[]:=List.eq_nil_of_length_eq_zero (by omega);subst hz;rw[e3];refine .gl .nil (fun n' k' hT=>?_);rw[t1] at hT;cases hT;exact⟨by simp,fun _=>⟨hkx,.inl ⟨by rw[l1];simp[hd,e1],e2,rfl⟩⟩⟩
  ·have hhd:hd=[b]:=by simp[hd,e1]
   have hFb:G'.F b=n*k:=by simp[G',hhd,zaB]
   have hbn:∀x,x∈(List.range (n*k)).flatMap Ss->G'.F x=szB w x:=fun x hx=>by
    have hxb:x≠b:=fun e=>by subst e;rw[e1] at e6;exact(List.nodup_cons.1 e6).1 hx
    have h1:zaB x hd=false:=nel (by rw[hhd];simp[hxb]);have h2:zaB x (G.loc id)=true:=zay.2 (by rw[e1];exact List.mem_cons_of_mem _ hx);simp[G',h1,h2]
   rw[e2];have hle:n*k<=us.size:=Nat.le_trans (Nat.mul_le_mul_right _ e5) e4;have hrd:RelD G'.F w (.sl xs) (.slice (some ⟨b,0,none⟩) n cap):=by
    subst hn;refine .sl xs k b 0 cap (fun q=>us.getD q undef) hkx e5 (fun q hq=>⟨by rw[hFb];omega, ?_⟩) (fun i hi j hj=>(e8 i hi j hj).toD (fun x hx=>?_))
    ·have:q<us.size:=by omega
     simp[World.cell?,e3,this]
    ·rw[hbn x (List.mem_flatMap.2 ⟨_,List.mem_range.2 (zcQ hi (by rw[<-hkx _ (List.getElem_mem hi)];exact hj)),hx⟩)];exact Nat.le_refl _
   refine .gl hrd (fun n' k' hT=>?_);rw[t1] at hT;cases hT;exact⟨by omega,fun _=>⟨hkx,.inr ⟨b,cap,us,e,by rw[l1,hhd],rfl,hFb,e3,e4,e5⟩⟩⟩
end
section
variable {c:Ctx}{all:Array Oper}{chk:List Rec->Prop}{os:List Oper}{recs:List Rec}{env:Env}{hp:Hp}{Q:St->Prop}
variable {d ty:Nat}{pos:String}{af:Array Edge}{g:Option (Nat×Bool)}{pg:List (Nat×AV)}
theorem xaU {f:FuncId}{args:Array Operand}{ats:Array TypeId}{xs:List Operand}{vs avs:List AV}{lr:List (Nat×Res)}{id id2 k:Nat}{rows:List (List D)} (hc:Callee c.P f) (hf:FnD c.P f avs [] (.gt id rows) [(id,some (.tok rows.length k))])
  (hargs:args=xs.toArray) (hg:GH all env g pg) (hd:Nat.blt d c.n=true) (hx:opdL env xs=some vs) (hle:LentL lr vs avs) (hsub:subR lr hp) (hall:zeI lr=true) (hok:zew [(id,some (.tok rows.length k))] (.gt id rows) [id,id2]=true)
  (hne:Nat.beq id2 id=false) (hcr:zai env hp [id,id2]=true)
  (hn:Walk c all chk os (zao (pg++opFL xs vs) lr [id,id2] ⟨some (d,.gl id2 rows),[(id2,some (.tok rows.length k)),(id,none),(id,some (.tok rows.length k))]⟩::recs) ⟨(d,.gl id2 rows)::env,[(id2,some (.tok rows.length k)),(id,none),(id,some (.tok rows.length k))]++hp⟩ Q):
  Walk c all chk (⟨some d,.call ⟨.value (.func f),args,ats⟩,ty,pos,af,g⟩::os) recs ⟨env,hp⟩ Q:=by
 subst hargs;refine⟨pg++opFL xs vs,lr,[id,id2],_, ?_,zar hg.facts (zbX hx),zlg hsub,za9 hcr,hn⟩;intro s a w hrel hp' hh hcr' K Q' hK;obtain⟨G,hr⟩:=hrel;have hrl:=zdf hr (zca hx (fun p hm=>hp' p (by simp[hm])));have hall':AllR G (tokf s.hp) w vs (xs.map a.eval).toArray:=by
  refine⟨by simp[hrl.1],fun i hi hv=>?_⟩;have:=hrl.2 i hi (by rw[<-hrl.1];exact hi);simpa using this
 have hcalls:=zp7 hr hh hall hf hall' hle [id,id2] hcr';unfold wpO;rw[if_pos (hg.gf.wanted hr (fun p hm=>hp' p (by simp[hm])))];unfold Oper.wp;have hrun:(execOp a.eval ⟨some d,.call ⟨.value (.func f),xs.toArray,ats⟩,ty,pos,af,g⟩).run c.P w = .ok (.enter f (xs.map a.eval).toArray) w:=by
  have:=hc.run (xs.map a.eval).toArray w;simp only[execOp,resolve,Sem.run_bind,Act.eval,Deferred.ofValue,Sem.run_pure,Result.andThen_ok,invoke];simpa using this
 rw[hrun,Oper.upon_enter];refine hcalls.mono ?_;rintro e w' ⟨v,r',hp1,rfl,⟨rfl,rfl⟩,h⟩
 obtain⟨G',hR,hA⟩:=h hok;obtain⟨f0,f1⟩:=hcr' id2 (by simp);have hnb:id2≠id:=fun e=>by subst e;simp at hne
 have g0:getH ([(id,some (Res.tok rows.length k))]++s.hp) id2=none:=by
  show getH ((id,some (Res.tok rows.length k))::s.hp) id2=none
  rw[zad,if_neg hnb];exact f0
 have g1:getH ([(id,some (Res.tok rows.length k))]++s.hp) id=some (.tok rows.length k):=by
  show getH ((id,some (Res.tok rows.length k))::s.hp) id=_
  rw[zad,if_pos rfl]
 have hocc2:zcP id2 ⟨s.env,[(id,some (Res.tok rows.length k))]++s.hp⟩:=by
  refine⟨f1.1,fun j r hj=>?_⟩;have hj':getH ((id,some (Res.tok rows.length k))::s.hp) j=some r:=hj;rw[zad] at hj';split at hj'
  ·cases hj';simp[Res.ids]
  ·exact f1.2 j r hj'
 obtain⟨G2,h1,h2⟩:=R.gtGl2 (env:=s.env) (hp:=[(id,some (Res.tok rows.length k))]++s.hp) hR hA g1 rfl g0 hocc2;exact hK _ _ ⟨G2,h1.put h2 hd⟩
end
end Go.Proofs.YtmchfdpleibpdaaGreat
namespace Go.Proofs.YtmchfdpleibpdaaGreat
open Go
set_option linter.unusedSimpArgs false
set_option linter.unusedVariables false
set_option maxRecDepth 100000
set_option maxHeartbeats 4000000
theorem zlX (l:List Ft):FlatR (l.map Ft.c):=by
 intro x hx y hy;obtain⟨t,_,rfl⟩:=List.mem_map.1 hx;simp only[Ft.c,List.mem_cons,List.not_mem_nil,or_false] at hy;rcases hy with rfl|rfl|rfl|rfl<;>rfl
theorem zj6 {l:List Fu} (hl:l.length<=1000000000000) (hne:l≠[]):FnD Tryz.prog 34 [.d (zbs l)] [] (.gt 1 ((l.map Fu.ty).map Ft.c)) [(1,some (.tok ((l.map Fu.ty).map Ft.c).length 4))]:=by
 refine bd Tryz.f34 21 [] [6,999999] fun w0 F0 own kept hk=>?_;refine xa9 1 sl63 .none rfl rfl ?_;refine ev ?_;refine xak (ι:=List (Fu)×List (Fu)) hk (fun x=>[(4,.d (.i (x.1.length:Int))),(3,.gv 1 ((x.1.map Fu.ty).map Ft.c))]) [6,7,8,9,10,11,12,13,14,15,16,17,18,19] (fun x=>[(1,some (.tok (((x.1.map Fu.ty).map Ft.c)).length 4))]) (fun x=>x.1++x.2=l) (fun x=>x.2.length) ([],l) (by simp) ⟨⟨_,rfl,xap ?_⟩,⟨⟨_,rfl,xas ?_⟩,trivial⟩⟩ ⟨zaf ?_,trivial⟩ (fun x=>rfl) (fun x hg1=>?_);iterate 3 focus (first|rfl|(simp;done)|(simp;omega))
 obtain⟨pre,rest⟩:=x;dsimp only at hg1 ⊢;refine evc [] [6,999999] ?_;refine sq ?_ ?_<;>intro h1 h1p h1s<;>(try simp only[Q] at h1p);rcases rest with _|⟨y,rest⟩
 ·exfalso;simp_all
 refine Walk.idx sl24 .none rfl rfl rfl rfl (zaH hg1) rfl ?_;refine ev ?_;refine si [0] [_] sl63 tz31 ?_;refine xay sl63 zz31 .none rfl rfl rfl rfl (zaW rfl (by first|rfl|(simp;done)|(simp;omega))) (by intro x hx;simp at hx;subst hx;rfl) (by have hz:=congrArg List.length hg1;simp at hz ⊢;omega) (by have hz:=congrArg List.length hg1;simp at hz ⊢;omega) ?_;refine ev ?_;refine ar ?_;refine xah ((pre++[y],rest)) ⟨(by have hz:=hg1;rw[<-hz];simp),(by simp),sx ⟨⟨_,rfl,xap ?_⟩,⟨⟨_,rfl,xas ?_⟩,trivial⟩⟩ ⟨zaf ?_,trivial⟩⟩;iterate 3 focus (first|rfl|(simp;done)|(simp;omega))
 have hrest:rest=[]:=by
  rcases rest with _|⟨a,b⟩
  ·rfl
  ·exfalso;have hz:=congrArg List.length (hg1);simp only[xaa,xab,xac] at hz;omega
 subst hrest;have hg2:=hg1;refine evc [] [] ?_;refine CWp.gvGt 2 rfl (zlX _) (by rw[List.append_nil] at hg1;subst hg1;simpa using hne) ?_;refine CWp.ret ?_;refine rn [(1,some (.tok ((l.map Fu.ty).map Ft.c).length 4))] (r1 rfl) (.gtg ?_) ⟨rfl,rfl⟩ (SubH.get ⟨?_,trivial⟩) (zaI rfl);rotate_left 2;all_goals (first|((first|rfl|(rw[List.append_nil] at hg1;subst hg1;rfl)|(rw[List.append_nil] at hg1;subst hg1;simp;done));done)|(first|rfl|(rw[List.append_nil] at hg1;subst hg1;rfl)|(rw[List.append_nil] at hg1;subst hg1;simp;done)))
theorem zjr {l:List Fu} (hl:l.length<=1000000000000) (hne:l≠[]):FnD Tryz.prog 34 [.d (zbs l)] [] (.gt 33 ((l.map Fu.ty).map Ft.c)) [(33,some (.tok ((l.map Fu.ty).map Ft.c).length 4))]:=by
 refine bd Tryz.f34 21 [] [6,999999] fun w0 F0 own kept hk=>?_;refine xa9 33 sl63 .none rfl rfl ?_;refine ev ?_;refine xak (ι:=List (Fu)×List (Fu)) hk (fun x=>[(4,.d (.i (x.1.length:Int))),(3,.gv 33 ((x.1.map Fu.ty).map Ft.c))]) [6,7,8,9,10,11,12,13,14,15,16,17,18,19] (fun x=>[(33,some (.tok (((x.1.map Fu.ty).map Ft.c)).length 4))]) (fun x=>x.1++x.2=l) (fun x=>x.2.length) ([],l) (by simp) ⟨⟨_,rfl,xap ?_⟩,⟨⟨_,rfl,xas ?_⟩,trivial⟩⟩ ⟨zaf ?_,trivial⟩ (fun x=>rfl) (fun x hg1=>?_);iterate 3 focus (first|rfl|(simp;done)|(simp;omega))
 obtain⟨pre,rest⟩:=x;dsimp only at hg1 ⊢;refine evc [] [6,999999] ?_;refine sq ?_ ?_<;>intro h1 h1p h1s<;>(try simp only[Q] at h1p);rcases rest with _|⟨y,rest⟩
 ·exfalso;simp_all
 refine Walk.idx sl24 .none rfl rfl rfl rfl (zaH hg1) rfl ?_;refine ev ?_;refine si [0] [_] sl63 tz31 ?_;refine xay sl63 zz31 .none rfl rfl rfl rfl (zaW rfl (by first|rfl|(simp;done)|(simp;omega))) (by intro x hx;simp at hx;subst hx;rfl) (by have hz:=congrArg List.length hg1;simp at hz ⊢;omega) (by have hz:=congrArg List.length hg1;simp at hz ⊢;omega) ?_;refine ev ?_;refine ar ?_;refine xah ((pre++[y],rest)) ⟨(by have hz:=hg1;rw[<-hz];simp),(by simp),sx ⟨⟨_,rfl,xap ?_⟩,⟨⟨_,rfl,xas ?_⟩,trivial⟩⟩ ⟨zaf ?_,trivial⟩⟩;iterate 3 focus (first|rfl|(simp;done)|(simp;omega))
 have hrest:rest=[]:=by
  rcases rest with _|⟨a,b⟩
  ·rfl
  ·exfalso;have hz:=congrArg List.length (hg1);simp only[xaa,xab,xac] at hz;omega
 subst hrest;have hg2:=hg1;refine evc [] [] ?_;refine CWp.gvGt 2 rfl (zlX _) (by rw[List.append_nil] at hg1;subst hg1;simpa using hne) ?_;refine CWp.ret ?_;refine rn [(33,some (.tok ((l.map Fu.ty).map Ft.c).length 4))] (r1 rfl) (.gtg ?_) ⟨rfl,rfl⟩ (SubH.get ⟨?_,trivial⟩) (zaI rfl);rotate_left 2;all_goals (first|((first|rfl|(rw[List.append_nil] at hg1;subst hg1;rfl)|(rw[List.append_nil] at hg1;subst hg1;simp;done));done)|(first|rfl|(rw[List.append_nil] at hg1;subst hg1;rfl)|(rw[List.append_nil] at hg1;subst hg1;simp;done)))
theorem zgQ {α:Type} [Inhabited α]{l:List α}{i:Nat}{x:α} (h:i<l.length):nth (l.set i x) i=x:=by
 rw[zaL (by rw[List.length_set];exact h),List.getElem_set,if_pos rfl]
theorem zmg {α:Type} [Inhabited α]{l:List α}{i j:Nat}{x:α} (h:i≠j):nth (l.set i x) j=nth l j:=by
 by_cases hj:j<l.length
 ·rw[zaL (by rw[List.length_set];exact hj),List.getElem_set,if_neg h,zaL hj]
 ·unfold nth;rw[List.getD_eq_getElem?_getD,List.getD_eq_getElem?_getD,List.getElem?_eq_none (by rw[List.length_set];omega),List.getElem?_eq_none (by omega)]
abbrev zaF (l:List Fu):List AV:=(l.map Fu.c).flatten.map AV.d
theorem zaO (l:List Fu):∀x∈l.map Fu.c,x.length=6:=by
 intro x hx;obtain⟨y,_,rfl⟩:=List.mem_map.1 hx;rfl
theorem zl0 (l:List Fu):(zaF l).length=l.length*6:=by rw[xac,zd5 (zaO l),xac]
theorem zpV:∀ {L:List Fu}{i:Nat},i<L.length->cutC (zaF L) (i*6) 6=some ((nth L i).c.map AV.d)
 | [],i,h=>by simp at h
 |x::r,0,_=>by
  have:zaF (x::r)=x.c.map AV.d++zaF r:=by simp[zaF]
  rw[this,Nat.zero_mul];exact zeK rfl
 |x::r,i+1,h=>by
  have:zaF (x::r)=x.c.map AV.d++zaF r:=by simp[zaF]
  rw[this,show(i+1)*6=6+i*6 by omega];exact zqS rfl (zpV (by simpa using h))
theorem zqq:∀ {L:List Fu}{i:Nat}{e:Fu},i<L.length->putC (zaF L) (i*6) (e.c.map AV.d)=some (zaF (L.set i e))
 | [],i,e,h=>by simp at h
 |x::r,0,e,_=>by
  have h1:zaF (x::r)=x.c.map AV.d++zaF r:=by simp[zaF]
  have h2:zaF (e::r)=e.c.map AV.d++zaF r:=by simp[zaF]
  rw[h1,List.set_cons_zero,h2,Nat.zero_mul];exact ziK rfl
 |x::r,i+1,e,h=>by
  have h1:zaF (x::r)=x.c.map AV.d++zaF r:=by simp[zaF]
  have h2:zaF (x::r.set i e)=x.c.map AV.d++zaF (r.set i e):=by simp[zaF]
  rw[h1,List.set_cons_succ,h2,show(i+1)*6=6+i*6 by omega];exact zdC rfl (zqq (by simpa using h))
def pfL (s:Str):List Str:=cutL 59 [] s
def pfP (s:Str) (i:Nat):List Str:=cutL 47 [] (nth (pfL s) i)
def zbp (s:Str):Nat:=if s=[] then 0 else if (pfL s).length<=5 then (pfL s).length else 5
theorem zqn {s:Str}{i:Nat}:i<zbp s↔(i<(pfL s).length/\i<=4)/\s≠[]:=by
 unfold zbp;split
 ·rename_i h;simp[h]
 ·rename_i h;split<;>simp[h]<;>omega
def pfT (w:List Data) (s:Str):Nat->Option (List Fu)
 |0=>some []
 |n+1=>match pfT w s n with
  |none=>none
  |some r=>if (ftP w (nth (pfP s n) 0)).2=true then some (r++[⟨(ftP w (nth (pfP s n) 0)).1,[],[]⟩]) else none
def pfK (w:List Data) (funs:List Ft) (P:List Str) (f:Fu):Nat->Option Fu
 |0=>some f
 |k+1=>match pfK w funs P f k with
  |none=>none
  |some g=>if (clF w funs g (nth P (k+1))).2=true then some (clF w funs g (nth P (k+1))).1 else none
def kLim (P:List Str):Nat:=if P.length<=10 then P.length-1 else 9
def pfC (w:List Data) (s:Str) (raw:List Fu):Nat->Option (List Fu)
 |0=>some raw
 |n+1=>match pfC w s raw n with
  |none=>none
  |some l=>match pfK w (raw.map Fu.ty) (pfP s n) (nth l n) (kLim (pfP s n)) with
   |none=>none
   |some g=>some (l.set n g)
def pfV (w:List Data) (s:Str):Option (List Fu):=
 if zaC w=true then (match pfT w s (zbp s) with
  |none=>none
  |some raw=>if zbC w (raw.map Fu.ty)=true then (match pfC w s raw raw.length with
   |none=>none
   |some l=>if zbe w l=true/\funT w l l.length=s then some l else none) else none) else none
def GoodF (n:Nat) (f:Fu):Prop:=f.cls.length=n/\f.bodies.length=n/\(∀c∈f.cls,c.pat.ok/\c.pat.size<=10000000)/\∀e∈f.bodies,e.ok/\e.size<=10000000
theorem zq8 {w:List Data} (hs:WSmall w){funs:List Ft}{vars:List Vt}{t:Ty}{s:Str}{e:Ex} (h:peV w funs vars t s=some e):e.ok/\e.size<=10000000:=by
 unfold peV at h;split at h
 ·rename_i hc;cases h
  have hR:=hc.1;unfold zfJ at hR;rw[xad,xad] at hR;obtain⟨tv,hfo,_⟩:=hR;obtain⟨a,k⟩:=t;obtain⟨wv,ht,_⟩:=zcM tv;have:=ziI (s:=s) (zh1 hs wv) (fun f hm=>(zcC (zfG hfo f hm).1).1) 10 0 ht;exact⟨this.1,Nat.le_trans this.2 (by decide)⟩
 ·cases h
theorem zqQ {w:List Data} (hs:WSmall w){funs:List Ft}{n:Nat}{f:Fu}{s:Str} (hf:GoodF n f) (h:(clF w funs f s).2=true):GoodF (n+1) (clF w funs f s).1/\(clF w funs f s).1.ty=f.ty:=by
 unfold clF at h ⊢;split
 ·rename_i hb;rw[if_pos hb] at h;cases h
 ·rename_i hb;rw[if_neg hb] at h;split
  ·rename_i c hc;rw[hc] at h;dsimp only at h;obtain⟨e,he⟩:=Option.isSome_iff_exists.1 h;have hce:=znP hs hc;have hee:=zq8 hs he;rw[he];refine⟨⟨by simp[hf.1],by simp[hf.2.1],fun x hx=>?_,fun x hx=>?_⟩,rfl⟩
   ·rcases List.mem_append.1 hx with hx|hx
    ·exact hf.2.2.1 x hx
    ·rw[List.mem_singleton.1 hx];exact hce.2 c (by simp)
   ·rcases List.mem_append.1 hx with hx|hx
    ·exact hf.2.2.2 x hx
    ·rw[List.mem_singleton.1 hx];exact hee
  ·rename_i hn;exfalso;split at h
   ·rename_i c hc;exact hn c hc
   ·cases h
theorem znS {w:List Data}{s:Str}:∀ {n:Nat}{r:List Fu},pfT w s n=some r->r.length=n/\∀f∈r,GoodF 0 f
 |0,r,h=>by rw[pfT] at h;cases h;simp
 |n+1,r,h=>by
  rw[pfT] at h;cases e:pfT w s n with
  |none=>rw[e] at h;cases h
  |some r0=>
   rw[e] at h;dsimp only at h;split at h
   ·cases h
    obtain⟨h1,h2⟩:=znS e;refine⟨by simp[h1],fun f hf=>?_⟩;rcases List.mem_append.1 hf with hf|hf
    ·exact h2 f hf
    ·rw[List.mem_singleton.1 hf];exact⟨rfl,rfl,fun _ h=>by simp at h,fun _ h=>by simp at h⟩
   ·cases h
theorem zoK {w:List Data}{s:Str}{i:Nat} (hb:(ftP w (nth (pfP s i) 0)).2=false):∀ {n:Nat},i<n->pfT w s n=none
 |0,h=>by omega
 |n+1,h=>by
  rw[pfT];cases e:pfT w s n with
  |none=>rfl
  |some r=>
   by_cases hi:i=n
   ·subst hi;dsimp only;rw[if_neg (by rw[hb];simp)]
   ·rw[zoK hb (show i<n by omega)] at e;cases e
theorem znT {w:List Data}{s:Str}{n:Nat}{r:List Fu} (h:pfT w s n=some r) (hb:(ftP w (nth (pfP s n) 0)).2=true):pfT w s (n+1)=some (r++[⟨(ftP w (nth (pfP s n) 0)).1,[],[]⟩]):=by
 rw[pfT,h];dsimp only;rw[if_pos hb]
theorem znR {w:List Data} (hs:WSmall w){funs:List Ft}{P:List Str}{f:Fu} (hf:GoodF 0 f):∀ {n:Nat}{g:Fu},pfK w funs P f n=some g->GoodF n g/\g.ty=f.ty
 |0,g,h=>by rw[pfK] at h;cases h;exact⟨hf,rfl⟩
 |n+1,g,h=>by
  rw[pfK] at h;cases e:pfK w funs P f n with
  |none=>rw[e] at h;cases h
  |some g0=>
   rw[e] at h;dsimp only at h;split at h
   ·rename_i hc;cases h
    obtain⟨h1,h2⟩:=znR hs hf e;have:=zqQ hs h1 hc;exact⟨this.1,this.2.trans h2⟩
   ·cases h
theorem zoJ {w:List Data}{funs:List Ft}{P:List Str}{f g:Fu}{i:Nat} (hg:pfK w funs P f i=some g) (hb:(clF w funs g (nth P (i+1))).2=false):∀ {n:Nat},i<n->pfK w funs P f n=none
 |0,h=>by omega
 |n+1,h=>by
  rw[pfK];by_cases hi:i=n
  ·subst hi;rw[hg];dsimp only;rw[if_neg (by rw[hb];simp)]
  ·rw[zoJ hg hb (show i<n by omega)]
theorem zjV {w:List Data}{funs:List Ft}{P:List Str}{f g:Fu}{n:Nat} (h:pfK w funs P f n=some g) (hb:(clF w funs g (nth P (n+1))).2=true):pfK w funs P f (n+1)=some (clF w funs g (nth P (n+1))).1:=by
 rw[pfK,h];dsimp only;rw[if_pos hb]
theorem znQ {w:List Data} (hs:WSmall w){s:Str}{raw:List Fu} (hr:∀f∈raw,GoodF 0 f):∀ {n:Nat}{l:List Fu},n<=raw.length->pfC w s raw n=some l->l.length=raw.length/\l.map Fu.ty=raw.map Fu.ty/\(∀i,n<=i->i<raw.length->nth l i=nth raw i)/\∀i,i<raw.length->∃m,m<=9/\GoodF m (nth l i)
 |0,l,_,h=>by
  rw[pfC] at h;cases h;exact⟨rfl,rfl,fun _ _ _=>rfl,fun i hi=>⟨0,by omega,hr _ (zaj hi)⟩⟩
 |n+1,l,hn,h=>by
  rw[pfC] at h;cases e:pfC w s raw n with
  |none=>rw[e] at h;cases h
  |some l0=>
   rw[e] at h;dsimp only at h;obtain⟨h1,h2,h3,h4⟩:=znQ hs hr (by omega) e;cases e2:pfK w (raw.map Fu.ty) (pfP s n) (nth l0 n) (kLim (pfP s n)) with
   |none=>rw[e2] at h;cases h
   |some g=>
    rw[e2] at h;cases h
    have hg0:GoodF 0 (nth l0 n):=by rw[h3 n (by omega) (by omega)];exact hr _ (zaj (by omega))
    obtain⟨k1,k2⟩:=znR hs hg0 e2;have hkl:kLim (pfP s n)<=9:=by unfold kLim;split<;>omega
    refine⟨by simp[h1], ?_,fun i hi hi2=>?_,fun i hi=>?_⟩
    ·rw[List.map_set,k2,<-h2];refine List.ext_getElem (by simp) (fun i q1 q2=>?_);rw[List.getElem_set];split
     ·rename_i hin;subst hin;rw[List.getElem_map,zaL (by omega)]
     ·rfl
    ·rw[zmg (by omega)];exact h3 i (by omega) hi2
    ·by_cases hin:i=n
     ·subst hin;rw[zgQ (by omega)];exact⟨_,hkl,k1⟩
     ·rw[zmg (by omega)];exact h4 i hi
theorem zls {L:List Fu}{i:Nat}{g:Fu} (h:i<L.length):cutC (zaF (L.set i g)) (i*6) 6=some [.d (.i g.ty.arg.data),.d (.i g.ty.arg.index),.d (.i g.ty.res.data),.d (.i g.ty.res.index),.d (zcZ g.cls),.d (zaX g.bodies)]:=by
 rw[zpV (by rw[List.length_set];exact h),zgQ h];rfl
theorem zlA {L:List Fu}{i:Nat}{g e:Fu} (h:i<L.length):putC (zaF (L.set i g)) (i*6) [.d (.i e.ty.arg.data),.d (.i e.ty.arg.index),.d (.i e.ty.res.data),.d (.i e.ty.res.index),.d (zcZ e.cls),.d (zaX e.bodies)]=some (zaF (L.set i e)):=by
 have:=zqq (L:=L.set i g) (i:=i) (e:=e) (by rw[List.length_set];exact h);rw[List.set_set] at this;exact this
theorem zfn {α:Type} [Inhabited α]{l:List α}{i:Nat} (h:i<l.length):l.set i (nth l i)=l:=by
 rw[zaL h];exact List.set_getElem_self h
theorem zgl {l:List Fu}{n:Nat} (h:n=l.length):(zaF l).take (n*6)=(l.map Fu.c).flatten.map .d:=by
 subst h;exact List.take_of_length_le (by rw[zl0];exact Nat.le_refl _)
theorem zeC {n:Nat}{l:List Fu} (h:n=l.length):zbG n 6 (zaF l)=some (l.map Fu.c):=by
 subst h;have:=zfr (f:=Fu.c) (k:=6) (l:=l) (fun x _=>rfl);rw[show zaF l=l.flatMap fun x=>(Fu.c x).map .d by unfold zaF;rw[List.map_flatten,List.map_map];rfl];exact this
theorem zaA (l:List Fu):AV.idsL (zaF l)=[]:=by
 unfold zaF;generalize (l.map Fu.c).flatten=q;induction q with
 |nil=>rfl
 |cons x r ih=>show AV.ids (.d x)++AV.idsL (r.map AV.d)=[];rw[ih];rfl
theorem zg6 {l:List Fu}{F:List Ft} (h:l.map Fu.ty=F) (hl:l.length<=1000000000000) (hne:l≠[]):FnD Tryz.prog 34 [.d (zbs l)] [] (.gt 1 (F.map Ft.c)) [(1,some (.tok (F.map Ft.c).length 4))]:=h ▸ zj6 hl hne
theorem zgy {l:List Fu}{F:List Ft} (h:l.map Fu.ty=F) (hl:l.length<=1000000000000) (hne:l≠[]):FnD Tryz.prog 34 [.d (zbs l)] [] (.gt 33 (F.map Ft.c)) [(33,some (.tok (F.map Ft.c).length 4))]:=h ▸ zjr hl hne
theorem zfk {w:List Data}{s:Str}{raw l:List Fu}{n:Nat}{g:Fu} (h:pfC w s raw n=some l) (hk:pfK w (raw.map Fu.ty) (pfP s n) (nth l n) (kLim (pfP s n))=some g):pfC w s raw (n+1)=some (l.set n g):=by
 rw[pfC,h];dsimp only;rw[hk]
theorem zoI {w:List Data}{s:Str}{raw l:List Fu}{i:Nat} (h:pfC w s raw i=some l) (hk:pfK w (raw.map Fu.ty) (pfP s i) (nth l i) (kLim (pfP s i))=none):∀ {n:Nat},i<n->pfC w s raw n=none
 |0,q=>by omega
 |n+1,q=>by
  rw[pfC];by_cases hi:i=n
  ·subst hi;rw[h];dsimp only;rw[hk]
  ·rw[zoI h hk (show i<n by omega)]
section
variable {w:List Data}{s:Str}{raw l:List Fu}
theorem zub (h:zaC w=false):pfV w s=none:=by unfold pfV;rw[if_neg (by rw[h];simp)]
theorem zua (h:pfT w s (zbp s)=none):pfV w s=none:=by unfold pfV;rw[h];split<;>rfl
theorem zrC (h:pfT w s (zbp s)=some raw) (h2:zbC w (raw.map Fu.ty)=false):pfV w s=none:=by unfold pfV;rw[h];dsimp only;split;rw[if_neg (by rw[h2];simp)];rfl
theorem zt9 (h:pfT w s (zbp s)=some raw) (h2:pfC w s raw raw.length=none):pfV w s=none:=by unfold pfV;rw[h];dsimp only;rw[h2];split;split<;>rfl;rfl
theorem zrD (h:pfT w s (zbp s)=some raw) (h2:pfC w s raw raw.length=some l) (h3:¬(zbe w l=true/\funT w l l.length=s)):pfV w s=none:=by unfold pfV;rw[h];dsimp only;rw[h2];dsimp only;rw[if_neg h3];split;split<;>rfl;rfl
theorem zrE (h0:zaC w=true) (h:pfT w s (zbp s)=some raw) (h1:zbC w (raw.map Fu.ty)=true) (h2:pfC w s raw raw.length=some l) (h3:zbe w l=true) (h4:funT w l l.length=s):pfV w s=some l:=by
 unfold pfV;rw[if_pos h0,h];dsimp only;rw[if_pos h1,h2];dsimp only;rw[if_pos ⟨h3,h4⟩]
end
theorem zcn {P:List Str}{u:Nat}:u<kLim P↔(u+1<P.length/\u+1<=9):=by
 unfold kLim;split<;>omega
theorem zjL {l:List Fu} (hl:l.length<=5) (h:∀i,i<l.length->∃m,m<=9/\GoodF m (nth l i)):FusOk l/\FusSz l/\∀f∈l,∀c∈f.cls,c.pat.size<=10000000:=by
 have h':∀f∈l,∃m,m<=9/\GoodF m f:=fun f hf=>by
  obtain⟨i,hi,rfl⟩:=List.getElem_of_mem hf;rw[<-zaL hi];exact h i hi
 have hex:∀(es:List Ex),(∀e∈es,e.ok)->Exs.ok es:=by
  intro es;induction es with
  |nil=>intro _;trivial
  |cons x r ih=>intro q;exact⟨q x (by simp),ih (fun e he=>q e (by simp[he]))⟩
 refine⟨⟨by omega,fun f hf=>?_⟩,fun f hf=>?_,fun f hf c hc=>?_⟩
 ·obtain⟨m,hm,g1,g2,g3,g4⟩:=h' f hf;exact⟨⟨by omega,fun c hc=>(g3 c hc).1⟩,by omega,hex _ (fun e he=>(g4 e he).1)⟩
 ·obtain⟨m,hm,g1,g2,g3,g4⟩:=h' f hf;exact⟨fun c hc=>by have:=(g3 c hc).2;omega,fun e he=>by have:=(g4 e he).2;omega⟩
 ·obtain⟨m,hm,g1,g2,g3,g4⟩:=h' f hf;exact(g3 c hc).2
theorem zjn {w:List Data} (hs:WSmall w){s:Str} (hsl:s.length<=400000):
  FnD Tryz.prog 58 [.d (zak w),.d (.str s)] [] (.tup [.d (zbs ((pfV w s).getD [])),.d (.bool (pfV w s).isSome)]) []:=by
 have hwl:=hs.len;cases hwv:zaC w with
 |false=>
  have h0:=zeu hs;rw[hwv] at h0;rw[zub hwv];refine bd Tryz.f58 121 [] [] fun w0 F0 own kept hk=>?_;refine xa5 sl24 .none rfl ?_;refine ev ?_;refine wc zhA (h0) rfl rfl ?_;refine ev ?_;refine sq ?_ ?_<;>intro h1 h1p h1s<;>(try simp only[Q] at h1p);focus (refine rn0 (r2 rfl rfl) (.tup (.cons (.eqd ?_) (.cons (.eqd ?_) .nil)));all_goals (first|rfl|(simp[h1s,h1p];done)|(simp_all;done)|(simp_all;omega)|omega))
  exfalso;simp at *
 |true=>
  have h0:=zeu hs;rw[hwv] at h0;have hc1:FnD Tryz.prog 117 [.d (.str s),.d (.int .u8 59)] [] (.d (zbY (pfL s))) []:=zbb (s:=s) (c:=59) (by omega);have hll:∀i,i<(pfL s).length->(nth (pfL s) i).length<=400000:=fun i hi=>Nat.le_trans (zbV (c:=59) (s:=s) hi) hsl;have hc2:∀i,i<(pfL s).length->FnD Tryz.prog 117 [.d (.str (nth (pfL s) i)),.d (.int .u8 47)] [] (.d (zbY (pfP s i))) []:=fun i hi=>zbb (s:=nth (pfL s) i) (c:=47) (by have:=hll i hi;omega);have hp1:∀i,1<=(pfP s i).length:=fun i=>zff 47 _ [];have hpl:∀i,i<(pfL s).length->∀j,j<(pfP s i).length->(nth (pfP s i) j).length<=400000:=fun i hi j hj=>Nat.le_trans (zbV (c:=47) (s:=nth (pfL s) i) hj) (hll i hi);have hft:∀i,i<(pfL s).length->FnD Tryz.prog 120 [.d (zak w),.d (.str (nth (pfP s i) 0))] [] (.tup [.agg [.d (.i (ftP w (nth (pfP s i) 0)).1.arg.data),.d (.i (ftP w (nth (pfP s i) 0)).1.arg.index),.d (.i (ftP w (nth (pfP s i) 0)).1.res.data),.d (.i (ftP w (nth (pfP s i) 0)).1.res.index)],.d (.bool (ftP w (nth (pfP s i) 0)).2)]) []:=fun i hi=>
   zk3 (by have:=zpr hwv;omega) (by have:=hpl i hi 0 (hp1 i);omega)
  have hlim:=fun i=>zqn (s:=s) (i:=i);have hl5:zbp s<=5:=by
   unfold zbp;split
   ·omega
   ·split<;>omega
  have hno:=fun(i:Nat) (h:i<zbp s) (hb:(ftP w (nth (pfP s i) 0)).2=false)=>zua (zoK hb h);have hok:=fun(n:Nat) (r:List Fu) (h:pfT w s n=some r)=>znS h;have hex:∀i:Nat,i<=zbp s->(¬i<(pfL s).length\/4<(i:Int)\/s=[])->i=zbp s:=fun i h1 h2=>by
   by_cases h3:i<zbp s
   ·obtain⟨⟨q1,q2⟩,q3⟩:=(hlim i).1 h3;rcases h2 with h2|h2|h2
    ·exact absurd q1 h2
    ·omega
    ·exact absurd h2 q3
   ·omega
  cases hT:pfT w s (zbp s) with
  |none=>
   refine bd Tryz.f58 121 [] [] fun w0 F0 own kept hk=>?_;refine xa5 sl24 .none rfl ?_;refine ev ?_;refine wc zhA (h0) rfl rfl ?_;refine ev ?_;refine sq ?_ ?_<;>intro h1 h1p h1s<;>(try simp only[Q,Int.natCast_inj,xac] at h1p);exfalso;simp at *;refine xa9 2 sl24 .none rfl rfl ?_;refine ev ?_;refine wc zbF (hc1) rfl rfl ?_;refine ev ?_;refine xak (ι:=Nat×List Fu) hk (fun x=>[(9,.d (.i (x.1:Int))),(7,.gv 2 (x.2.map Fu.c))]) [4,5,10,11,25,26,27,28,29,30,31,32,33,34,35,36,37,38,39,40,41,42,43,44,45,46,47,48,49,50,51,52,53,54,55,56,57,58] (fun x=>[(2,some (.tok ((x.2.map Fu.c)).length 6))]) (fun x=>x.1<=zbp s/\pfT w s x.1=some x.2/\x.2.length<=x.1) (fun x=>zbp s-x.1) (0,[]) ⟨by simp,rfl,by simp⟩ ⟨⟨_,rfl,xap ?_⟩,⟨⟨_,rfl,xas ?_⟩,trivial⟩⟩ ⟨zaf ?_,trivial⟩ (fun x=>rfl) (fun x hg1=>?_);iterate 3 focus (first|rfl|omega|(rw[xaf];rfl)|(simp;done)|(simp;omega))
   refine evc [] [] ?_;refine sq ?_ ?_<;>intro h2 h2p h2s<;>(try simp only[Q,Int.natCast_inj,xac] at h2p);refine sq ?_ ?_<;>intro h3 h3p h3s<;>(try simp only[Q,Int.natCast_inj,xac] at h3p);refine sq ?_ ?_<;>intro h4 h4p h4s<;>(try simp only[Q,Int.natCast_inj,xac] at h4p);refine Walk.idx zaD .none rfl rfl rfl rfl (zae (by first|omega|(have:=hp1 x.1;omega))) rfl ?_;refine ev ?_;refine wc zbF (hc2 x.1 (by omega)) rfl rfl ?_;refine Walk.idx (i:=0) zaD .none rfl rfl rfl rfl (zae (by first|omega|(have:=hp1 x.1;omega))) rfl ?_;refine ev ?_;refine wc zpy (hft x.1 (by omega)) rfl rfl ?_;refine ev ?_;refine ab 3010 tz31 ?_;refine so ty31 ?_;refine ev ?_;refine sq ?_ ?_<;>intro h5 h5p h5s<;>(try simp only[Q,Int.natCast_inj,xac] at h5p);refine rn0 (r2 rfl rfl) (.tup (.cons (.eqd ?_) (.cons (.eqd ?_) .nil)));rotate_left 2;refine bu [0] [_] st35 ?_;refine si [0] [_] sl24 tz35 ?_;refine xay sl24 zz35 .none rfl rfl rfl rfl (zaW rfl (by first|rfl|(simp;done)|(simp;omega))) (by intro x hx;simp at hx;subst hx;rfl) (by simp;omega) (by simp;omega) ?_;refine ev ?_;refine ar ?_;refine xah ((x.1+1,x.2++[⟨(ftP w (nth (pfP s x.1) 0)).1,[],[]⟩])) ⟨(by
        have hi:x.1<zbp s:=(hlim x.1).2 ⟨⟨by omega,by omega⟩,by first|assumption|(simp_all;done)⟩;exact⟨by dsimp only;omega,znT hg1.2.1 (by assumption),by simp;omega⟩),(by
        have hi:x.1<zbp s:=(hlim x.1).2 ⟨⟨by omega,by omega⟩,by first|assumption|(simp_all;done)⟩;dsimp only;omega),sx ⟨⟨_,rfl,xap ?_⟩,⟨⟨_,rfl,xas ?_⟩,trivial⟩⟩ ⟨zaf ?_,trivial⟩⟩
   iterate 3 focus (first|rfl|omega|(rw[xaf];rfl)|(simp;done)|(simp;omega))
   exfalso;have e:=hex x.1 hg1.1 (by first|exact .inl (by omega)|exact .inr (.inl (by omega))|exact .inr (.inr (by assumption))|exact .inr (.inr (by simp_all)));have h9:=hg1.2.1;rw[e,hT] at h9;cases h9;refine sqF ?_;exfalso;have e:=hex x.1 hg1.1 (by first|exact .inl (by omega)|exact .inr (.inl (by omega))|exact .inr (.inr (by assumption))|exact .inr (.inr (by simp_all)));have h9:=hg1.2.1;rw[e,hT] at h9;cases h9;refine sqF ?_;refine sqF ?_;exfalso;have e:=hex x.1 hg1.1 (by first|exact .inl (by omega)|exact .inr (.inl (by omega))|exact .inr (.inr (by assumption))|exact .inr (.inr (by simp_all)));have h9:=hg1.2.1;rw[e,hT] at h9;cases h9;all_goals (first|rfl|(rw[hno x.1 ((hlim x.1).2 ⟨⟨by omega,by omega⟩,by first|assumption|(simp_all;done)⟩) (by assumption)];all_goals rfl))
  |some raw=>
   obtain⟨hrl,hrg⟩:=hok _ _ hT;cases raw with
   |nil=>
    have hl0:zbp s=0:=hrl.symm;have hty:=zeG (l:=[]) (by simp);have hfo:=zd1 (w:=w) (funs:=[]) (by omega) (by simp);have hfv:=zct hs (l:=[]) ⟨by simp,fun _ h=>by simp at h⟩ (fun _ h=>by simp at h);have htx:=fun(h:zbe w []=true)=>zdG hs (l:=[]) ⟨by simp,fun _ h=>by simp at h⟩ (fun _ h=>by simp at h) h;have m1:=zrC (w:=w) (s:=s) hT;have m2:=fun h=>zrD (w:=w) (s:=s) (l:=[]) hT rfl h;have m3:=fun a b c=>zrE (w:=w) (s:=s) (l:=[]) hwv hT a rfl b c;generalize pfV w s=R at *;refine bd Tryz.f58 121 [] [] fun w0 F0 own kept hk=>?_;refine xa5 sl24 .none rfl ?_;refine ev ?_;refine wc zhA (h0) rfl rfl ?_;refine ev ?_;refine sq ?_ ?_<;>intro h1 h1p h1s<;>(try simp only[Q,Int.natCast_inj,xac] at h1p);exfalso;simp at *;refine xa6 2 sl24 .none rfl rfl ?_;refine ev ?_;refine wc zbF (hc1) rfl rfl ?_;refine ev ?_;refine xak (ι:=Unit) hk (fun x=>[(9,.d (.i ((0:Nat):Int))),(7,.gl 2 (([]:List Fu).map Fu.c))]) [4,5,10,11,25,26,27,28,29,30,31,32,33,34,35,36,37,38,39,40,41,42,43,44,45,46,47,48,49,50,51,52,53,54,55,56,57,58] (fun x=>[(2,some (.tok ((([]:List Fu).map Fu.c)).length 6))]) (fun x=>True) (fun x=>0) () trivial ⟨⟨_,rfl,xap ?_⟩,⟨⟨_,rfl,LeA.glg ?_⟩,trivial⟩⟩ ⟨zaf ?_,trivial⟩ (fun x=>rfl) (fun x hg1=>?_);iterate 3 focus (first|rfl|(simp;done)|(simp_all;done)|omega|(simp;omega))
    refine evc [] [] ?_;refine sq ?_ ?_<;>intro h2 h2p h2s<;>(try simp only[Q,Int.natCast_inj,xac] at h2p);refine sq ?_ ?_<;>intro h3 h3p h3s<;>(try simp only[Q,Int.natCast_inj,xac] at h3p);refine sq ?_ ?_<;>intro h4 h4p h4s<;>(try simp only[Q,Int.natCast_inj,xac] at h4p);focus (exfalso;have hi:=(hlim 0).2 ⟨⟨by omega,by omega⟩,by first|assumption|(simp_all;done)⟩;omega)
    refine Walk.call (cr:=[]) zey (hty) rfl .none rfl rfl (.cons (.gl _ _) .nil) trivial rfl rfl rfl ?_;refine wc zgH (hfo) rfl rfl ?_;refine ev ?_;refine sq ?_ ?_<;>intro h5 h5p h5s<;>(try simp only[Q,Int.natCast_inj,xac] at h5p);refine rn0 (r2 rfl rfl) (.tup (.cons (.eqd ?_) (.cons (.eqd ?_) .nil)));rotate_left 2;refine xak (ι:=Unit) hk (fun x=>[(12,.d (.i ((0:Nat):Int)))]) [4,5,13,14,15,16,65,66,67,68,69,70,71,72,73,74,75,76,77,78,79,80,81,82,83,84,85,86,87,88,89,90,91,92,93,94,95,96,97,98,99,100,101,102,103,104,105,106,107] (fun x=>[]) (fun x=>True) (fun x=>0) () trivial ⟨⟨_,rfl,xap ?_⟩,trivial⟩ trivial (fun x=>rfl) (fun x hg2=>?_);focus (first|rfl|(simp;done)|(simp_all;done)|omega)
    refine evc [] [] ?_;refine sq ?_ ?_<;>intro h6 h6p h6s<;>(try simp only[Q,Int.natCast_inj,xac] at h6p);focus (exfalso;first|omega|(simp at h6p;done))
    refine Walk.call (cr:=[]) cal8 (hfv) rfl .none rfl rfl (.cons (.refl _) (.cons (.gl _ _) .nil)) trivial rfl rfl rfl ?_;refine ev ?_;refine sq ?_ ?_<;>intro h7 h7p h7s<;>(try simp only[Q,Int.natCast_inj,xac] at h7p);refine sqT ?_;refine rn0 (r2 rfl rfl) (.tup (.cons (.eqd ?_) (.cons (.eqd ?_) .nil)));rotate_left 2;refine Walk.call (cr:=[]) zhc (htx (by assumption)) rfl (.some rfl rfl h7) rfl rfl (.cons (.refl _) (.cons (.gl _ _) .nil)) trivial rfl rfl rfl ?_;refine evs [] [(112,false)] ?_ ⟨⟨_,rfl,h7⟩,trivial⟩;refine sq ?_ ?_<;>intro h9 h9p h9s<;>(try simp only[Q,Int.natCast_inj,xac] at h9p);refine rn0 (r2 rfl rfl) (.tup (.cons (.eqd ?_) (.cons (.eqd ?_) .nil)));rotate_left 2;refine rn0 (r2 rfl rfl) (.tup (.cons (.gld ?_) (.cons (.eqd ?_) .nil)));rotate_left 2;refine sqF ?_;refine Walk.call (cr:=[]) zey (hty) rfl .none rfl rfl (.cons (.gl _ _) .nil) trivial rfl rfl rfl ?_;refine wc zgH (hfo) rfl rfl ?_;refine ev ?_;refine sq ?_ ?_<;>intro h11 h11p h11s<;>(try simp only[Q,Int.natCast_inj,xac] at h11p);refine rn0 (r2 rfl rfl) (.tup (.cons (.eqd ?_) (.cons (.eqd ?_) .nil)));rotate_left 2;refine xak (ι:=Unit) hk (fun x=>[(12,.d (.i ((0:Nat):Int)))]) [4,5,13,14,15,16,65,66,67,68,69,70,71,72,73,74,75,76,77,78,79,80,81,82,83,84,85,86,87,88,89,90,91,92,93,94,95,96,97,98,99,100,101,102,103,104,105,106,107] (fun x=>[]) (fun x=>True) (fun x=>0) () trivial ⟨⟨_,rfl,xap ?_⟩,trivial⟩ trivial (fun x=>rfl) (fun x hg2=>?_);focus (first|rfl|(simp;done)|(simp_all;done)|omega)
    refine evc [] [] ?_;refine sq ?_ ?_<;>intro h12 h12p h12s<;>(try simp only[Q,Int.natCast_inj,xac] at h12p);focus (exfalso;first|omega|(simp at h12p;done))
    refine Walk.call (cr:=[]) cal8 (hfv) rfl .none rfl rfl (.cons (.refl _) (.cons (.gl _ _) .nil)) trivial rfl rfl rfl ?_;refine ev ?_;refine sq ?_ ?_<;>intro h13 h13p h13s<;>(try simp only[Q,Int.natCast_inj,xac] at h13p);refine sqT ?_;refine rn0 (r2 rfl rfl) (.tup (.cons (.eqd ?_) (.cons (.eqd ?_) .nil)));rotate_left 2;refine Walk.call (cr:=[]) zhc (htx (by assumption)) rfl (.some rfl rfl h13) rfl rfl (.cons (.refl _) (.cons (.gl _ _) .nil)) trivial rfl rfl rfl ?_;refine evs [] [(112,false)] ?_ ⟨⟨_,rfl,h13⟩,trivial⟩;refine sq ?_ ?_<;>intro h15 h15p h15s<;>(try simp only[Q,Int.natCast_inj,xac] at h15p);refine rn0 (r2 rfl rfl) (.tup (.cons (.eqd ?_) (.cons (.eqd ?_) .nil)));rotate_left 2;refine rn0 (r2 rfl rfl) (.tup (.cons (.gld ?_) (.cons (.eqd ?_) .nil)));rotate_left 2;refine sqF ?_;refine sqF ?_;refine Walk.call (cr:=[]) zey (hty) rfl .none rfl rfl (.cons (.gl _ _) .nil) trivial rfl rfl rfl ?_;refine wc zgH (hfo) rfl rfl ?_;refine ev ?_;refine sq ?_ ?_<;>intro h17 h17p h17s<;>(try simp only[Q,Int.natCast_inj,xac] at h17p);refine rn0 (r2 rfl rfl) (.tup (.cons (.eqd ?_) (.cons (.eqd ?_) .nil)));rotate_left 2;refine xak (ι:=Unit) hk (fun x=>[(12,.d (.i ((0:Nat):Int)))]) [4,5,13,14,15,16,65,66,67,68,69,70,71,72,73,74,75,76,77,78,79,80,81,82,83,84,85,86,87,88,89,90,91,92,93,94,95,96,97,98,99,100,101,102,103,104,105,106,107] (fun x=>[]) (fun x=>True) (fun x=>0) () trivial ⟨⟨_,rfl,xap ?_⟩,trivial⟩ trivial (fun x=>rfl) (fun x hg2=>?_);focus (first|rfl|(simp;done)|(simp_all;done)|omega)
    refine evc [] [] ?_;refine sq ?_ ?_<;>intro h18 h18p h18s<;>(try simp only[Q,Int.natCast_inj,xac] at h18p);focus (exfalso;first|omega|(simp at h18p;done))
    refine Walk.call (cr:=[]) cal8 (hfv) rfl .none rfl rfl (.cons (.refl _) (.cons (.gl _ _) .nil)) trivial rfl rfl rfl ?_;refine ev ?_;refine sq ?_ ?_<;>intro h19 h19p h19s<;>(try simp only[Q,Int.natCast_inj,xac] at h19p);refine sqT ?_;refine rn0 (r2 rfl rfl) (.tup (.cons (.eqd ?_) (.cons (.eqd ?_) .nil)));rotate_left 2;refine Walk.call (cr:=[]) zhc (htx (by assumption)) rfl (.some rfl rfl h19) rfl rfl (.cons (.refl _) (.cons (.gl _ _) .nil)) trivial rfl rfl rfl ?_;refine evs [] [(112,false)] ?_ ⟨⟨_,rfl,h19⟩,trivial⟩;refine sq ?_ ?_<;>intro h21 h21p h21s<;>(try simp only[Q,Int.natCast_inj,xac] at h21p);refine rn0 (r2 rfl rfl) (.tup (.cons (.eqd ?_) (.cons (.eqd ?_) .nil)));rotate_left 2;refine rn0 (r2 rfl rfl) (.tup (.cons (.gld ?_) (.cons (.eqd ?_) .nil)));rotate_left 2;all_goals (first|rfl|(rw[m1 (by assumption)];all_goals rfl)|(rw[m3 (by assumption) (by assumption) (by assumption)];all_goals rfl)|(rw[m2 (fun q=>by first|(have q1:=q.1;simp_all;done)|(exact absurd q.2 (by assumption)))];all_goals rfl))
   |cons f0 r0=>
    have hne:(f0::r0:List Fu)≠[]:=by simp
    generalize hraw:(f0::r0:List Fu)=raw at *;clear hraw;have hgc:=fun(n:Nat) (l:List Fu) (q:n<=raw.length) (h:pfC w s raw n=some l)=>znQ hs hrg q h;have hll2:raw.length<=(pfL s).length:=by
     rw[hrl];unfold zbp;split
     ·omega
     ·split<;>omega
    have hfo:=zd1 (w:=w) (funs:=raw.map Fu.ty) (by omega) (by simp;omega);have m0:=zrC (w:=w) (s:=s) hT;have m1:=fun h=>zt9 (w:=w) (s:=s) hT h;have m2:=fun(l:List Fu) (h:pfC w s raw raw.length=some l) h3=>zrD (w:=w) (s:=s) (l:=l) hT h h3;have m3:=fun(l:List Fu) a (h:pfC w s raw raw.length=some l) b c=>zrE (w:=w) (s:=s) (l:=l) hwv hT a h b c;have hkk:=fun(P:List Str) (f:Fu) (h:GoodF 0 f) (n:Nat) (g:Fu) (q:pfK w (raw.map Fu.ty) P f n=some g)=>znR hs h q;have hk9:∀P,kLim P<=9:=fun P=>by unfold kLim;split<;>omega
    have hset:∀(l:List Fu) (i:Nat) (g:Fu),i<l.length->g.ty=(nth l i).ty->l.map Fu.ty=raw.map Fu.ty->(l.set i g).map Fu.ty=raw.map Fu.ty:=fun l i g hi hg hl=>by
     rw[List.map_set,<-hl];refine List.ext_getElem (by simp) (fun j q1 q2=>?_);rw[List.getElem_set];split
     ·rename_i hij;subst hij;rw[List.getElem_map,hg,zaL hi]
     ·rfl
    have hcl:=fun(g:Fu) (m:Nat) (hm:m<=9) (h:GoodF m g) (t:Str) (q:t.length<=400000)=>zjp hs (funs:=raw.map Fu.ty) (f:=g) (s:=t) (by simp;omega) (by have:=h.1;omega) (by have:=h.2.1;omega) q;generalize pfV w s=R at *;refine bd Tryz.f58 121 [93] [13,22,26] fun w0 F0 own kept hk=>?_;refine xa5 sl24 .none rfl ?_;refine evs [93] [] ?_;refine Walk.call (cr:=[]) zhA (h0) rfl .none rfl rfl (LeL.refl _) trivial rfl (by first|rfl|(simp only[zaY,List.all_cons,List.all_nil,zbS,zbB,AV.idsL,AV.ids,zab,zaa,xae,List.map_nil,zaA];rfl)) (by first|rfl|(simp only[zai,occH,occE,Res.ids,xag,List.nil_append,AV.idsL,AV.ids,zab,zaa,zac,zan,xae,List.map_nil,upC,zaA];rfl)) ?_;refine evs [93] [] ?_;refine sq ?_ ?_<;>intro h1 h1p h1s<;>(try simp only[Q,Int.natCast_inj,xac] at h1p);exfalso;simp at *;refine xa9 2 sl24 .none rfl (by first|rfl|(simp only[zai,occH,occE,Res.ids,xag,List.nil_append,AV.idsL,AV.ids,zab,zaa,zac,zan,xae,List.map_nil,upC,zaA];rfl)) ?_;refine evs [93] [] ?_;refine Walk.call (cr:=[]) zbF (hc1) rfl .none rfl rfl (LeL.refl _) trivial rfl (by first|rfl|(simp only[zaY,List.all_cons,List.all_nil,zbS,zbB,AV.idsL,AV.ids,zab,zaa,xae,List.map_nil,zaA];rfl)) (by first|rfl|(simp only[zai,occH,occE,Res.ids,xag,List.nil_append,AV.idsL,AV.ids,zab,zaa,zac,zan,xae,List.map_nil,upC,zaA];rfl)) ?_;refine evs [93] [] ?_;refine xak (ι:=Nat×List Fu) hk (fun x=>[(9,.d (.i (x.1:Int))),(7,.gv 2 (x.2.map Fu.c))]) [4,5,10,11,25,26,27,28,29,30,31,32,33,34,35,36,37,38,39,40,41,42,43,44,45,46,47,48,49,50,51,52,53,54,55,56,57,58] (fun x=>[(2,some (.tok ((x.2.map Fu.c)).length 6))]) (fun x=>x.1<=zbp s/\pfT w s x.1=some x.2/\x.2.length<=x.1) (fun x=>zbp s-x.1) (0,[]) ⟨by simp,rfl,by simp⟩ ⟨⟨_,rfl,xap ?_⟩,⟨⟨_,rfl,xas ?_⟩,trivial⟩⟩ ⟨zaf ?_,trivial⟩ (fun x=>rfl) (fun x hg1=>?_);iterate 3 focus (first|rfl|omega|(rw[xaf];rfl)|(simp;done)|(simp;omega))
    refine evc [93] [13,22,26] ?_;refine sq ?_ ?_<;>intro h2 h2p h2s<;>(try simp only[Q,Int.natCast_inj,xac] at h2p);refine sq ?_ ?_<;>intro h3 h3p h3s<;>(try simp only[Q,Int.natCast_inj,xac] at h3p);refine sq ?_ ?_<;>intro h4 h4p h4s<;>(try simp only[Q,Int.natCast_inj,xac] at h4p);refine Walk.idx zaD .none rfl rfl rfl rfl (zae (by first|omega|(have:=hp1 x.1;omega))) rfl ?_;refine evs [93] [] ?_;refine Walk.call (cr:=[]) zbF (hc2 x.1 (by omega)) rfl .none rfl rfl (LeL.refl _) trivial rfl (by first|rfl|(simp only[zaY,List.all_cons,List.all_nil,zbS,zbB,AV.idsL,AV.ids,zab,zaa,xae,List.map_nil,zaA];rfl)) (by first|rfl|(simp only[zai,occH,occE,Res.ids,xag,List.nil_append,AV.idsL,AV.ids,zab,zaa,zac,zan,xae,List.map_nil,upC,zaA];rfl)) ?_;refine Walk.idx (i:=0) zaD .none rfl rfl rfl rfl (zae (by first|omega|(have:=hp1 x.1;omega))) rfl ?_;refine evs [93] [] ?_;refine Walk.call (cr:=[]) zpy (hft x.1 (by omega)) rfl .none rfl rfl (LeL.refl _) trivial rfl (by first|rfl|(simp only[zaY,List.all_cons,List.all_nil,zbS,zbB,AV.idsL,AV.ids,zab,zaa,xae,List.map_nil,zaA];rfl)) (by first|rfl|(simp only[zai,occH,occE,Res.ids,xag,List.nil_append,AV.idsL,AV.ids,zab,zaa,zac,zan,xae,List.map_nil,upC,zaA];rfl)) ?_;refine evs [93] [] ?_;refine Walk.alloc (id:=3010) tz31 rfl .none rfl (by first|rfl|(simp only[zai,occH,occE,Res.ids,xag,List.nil_append,AV.idsL,AV.ids,zab,zaa,zac,zan,xae,List.map_nil,upC,zaA];rfl)) (by first|rfl|(simp only[zai,occH,occE,Res.ids,xag,List.nil_append,AV.idsL,AV.ids,zab,zaa,zac,zan,xae,List.map_nil,upC,zaA];rfl)) (by first|rfl|(simp only[zai,occH,occE,Res.ids,xag,List.nil_append,AV.idsL,AV.ids,zab,zaa,zac,zan,xae,List.map_nil,upC,zaA];rfl)) ?_;refine so ty31 ?_;refine evs [93] [] ?_;refine sq ?_ ?_<;>intro h5 h5p h5s<;>(try simp only[Q,Int.natCast_inj,xac] at h5p);refine rn0 (r2 rfl rfl) (.tup (.cons (.eqd ?_) (.cons (.eqd ?_) .nil)));rotate_left 2;refine bu [0] [_] st35 ?_;refine si [0] [_] sl24 tz35 ?_;refine xay sl24 zz35 .none rfl rfl rfl rfl (zaW rfl (by first|rfl|(simp;done)|(simp;omega))) (by first|(intro x hx;simp at hx;subst hx;rfl)|exact zaO _) (by simp;omega) (by simp;omega) ?_;refine evs [93] [] ?_;refine ar ?_;refine xah ((x.1+1,x.2++[⟨(ftP w (nth (pfP s x.1) 0)).1,[],[]⟩])) ⟨(by
         have hi:x.1<zbp s:=((hlim x.1).2 ⟨⟨by omega,by omega⟩,by first|assumption|(simp_all;done)⟩);exact⟨by dsimp only;omega,znT hg1.2.1 (by assumption),by simp;omega⟩),(by
         have hi:x.1<zbp s:=((hlim x.1).2 ⟨⟨by omega,by omega⟩,by first|assumption|(simp_all;done)⟩);dsimp only;omega),sx ⟨⟨_,rfl,xap ?_⟩,⟨⟨_,rfl,xas ?_⟩,trivial⟩⟩ ⟨zaf ?_,trivial⟩⟩
    iterate 3 focus (first|rfl|omega|(rw[xaf];rfl)|(simp;done)|(simp;omega))
    refine CWp.fixV hk 7 2 6 rfl rfl rfl (fun hx6=>?_) (fun hx6=>?_);exfalso;have e1:x.1=zbp s:=hex x.1 hg1.1 (by first|exact .inl (by omega)|exact .inr (.inl (by omega))|exact .inr (.inr (by assumption))|exact .inr (.inr (by simp_all)));have h9:=hg1.2.1;rw[e1,hT] at h9;have h8:=Option.some.inj h9;exact hne (h8.trans (by simpa using hx6));have e1:x.1=zbp s:=hex x.1 hg1.1 (by first|exact .inl (by omega)|exact .inr (.inl (by omega))|exact .inr (.inr (by assumption))|exact .inr (.inr (by simp_all)));have eRaw:x.2=raw:=(by have h9:=hg1.2.1;rw[e1,hT] at h9;exact(Option.some.inj h9).symm);have hx2:x.2.length=raw.length:=(by rw[eRaw]);refine evc [93] [] ?_;refine xaU (id:=1) (id2:=30) (lr:=[(2,_)]) zey (zg6 (l:=x.2) (F:=raw.map Fu.ty) (by rw[eRaw]) (by omega) (by rw[eRaw];exact hne)) rfl .none rfl rfl (.cons (.msB (k:=6) List.mem_cons_self (zaO _) rfl (zgl (by simp))) .nil) ⟨rfl,trivial⟩ rfl (by first|rfl|(simp only[zew,zbP,AV.ids];rfl)) rfl (by first|rfl|(simp only[zai,occH,occE,Res.ids,xag,List.nil_append,AV.idsL,AV.ids,zab,zaa,zac,zan,xae,List.map_nil,upC,zaA];rfl)) ?_;refine Walk.call (cr:=[]) zgH (hfo) rfl .none rfl rfl (.cons (.refl _) (.cons (.gl _ _) .nil)) trivial rfl (by first|rfl|(simp only[zaY,List.all_cons,List.all_nil,zbS,zbB,AV.idsL,AV.ids,zab,zaa,xae,List.map_nil,zaA];rfl)) (by first|rfl|(simp only[zai,occH,occE,Res.ids,xag,List.nil_append,AV.idsL,AV.ids,zab,zaa,zac,zan,xae,List.map_nil,upC,zaA];rfl)) ?_;refine evs [93] [] ?_;refine sq ?_ ?_<;>intro h7 h7p h7s<;>(try simp only[Q,Int.natCast_inj,xac] at h7p);refine rn0 (r2 rfl rfl) (.tup (.cons (.eqd ?_) (.cons (.eqd ?_) .nil)));rotate_left 2;refine xak (ι:=Nat×List Fu) hk (fun z=>[(12,.d (.i (z.1:Int)))]) [4,5,13,14,15,16,65,66,67,68,69,70,71,72,73,74,75,76,77,78,79,80,81,82,83,84,85,86,87,88,89,90,91,92,93,94,95,96,97,98,99,100,101,102,103,104,105,106,107] (fun z=>[(2,some (.box (zaF z.2)))]) (fun z=>z.1<=raw.length/\pfC w s raw z.1=some z.2) (fun z=>raw.length-z.1) (0,raw) ⟨by simp,rfl⟩ ⟨⟨_,rfl,xap ?_⟩,trivial⟩ ⟨?_,trivial⟩ (fun x=>rfl) (fun z hg2=>?_);focus (first|rfl|omega)
    focus (first|rfl|exact congrArg (fun l=>some (Res.box (zaF l))) eRaw)
    refine evc [93] [13,22,26] ?_;refine sq ?_ ?_<;>intro h8 h8p h8s<;>(try simp only[Q,Int.natCast_inj,xac] at h8p);refine Walk.idx zaD .none rfl rfl rfl rfl (zae (by first|omega|(have:=hp1 x.1;omega))) rfl ?_;refine evs [93] [] ?_;refine Walk.call (cr:=[]) zbF (hc2 z.1 (by omega)) rfl .none rfl rfl (LeL.refl _) trivial rfl (by first|rfl|(simp only[zaY,List.all_cons,List.all_nil,zbS,zbB,AV.idsL,AV.ids,zab,zaa,xae,List.map_nil,zaA];rfl)) (by first|rfl|(simp only[zai,occH,occE,Res.ids,xag,List.nil_append,AV.idsL,AV.ids,zab,zaa,zac,zan,xae,List.map_nil,upC,zaA];rfl)) ?_;refine evs [93] [] ?_;refine xak (ι:=Nat×Fu) hk (fun u=>[(14,.d (.i ((u.1:Int)+1)))]) [4,5,15,16,76,77,78,79,80,81,82,83,84,85,86,87,88,89,90,91,92,93,94,95,96,97,98,99,100,101,102,103,104,105,106,107] (fun u=>[(2,some (.box (zaF (z.2.set z.1 u.2))))]) (fun u=>u.1<=kLim (pfP s z.1)/\pfK w (raw.map Fu.ty) (pfP s z.1) (nth z.2 z.1) u.1=some u.2) (fun u=>kLim (pfP s z.1)-u.1) (0,nth z.2 z.1) ⟨by simp,rfl⟩ ⟨⟨_,rfl,xap ?_⟩,trivial⟩ ⟨?_,trivial⟩ (fun x=>rfl) (fun u hg3=>?_);focus (first|rfl|omega)
    focus (first|rfl|exact congrArg (fun l=>some (Res.box (zaF l))) (zfn (by have:=hgc z.1 z.2 (by omega) hg2.2;omega)).symm)
    refine evc [93] [13,22,26] ?_;refine sq ?_ ?_<;>intro h9 h9p h9s<;>(try simp only[Q,Int.natCast_inj,xac] at h9p);refine sq ?_ ?_<;>intro h10 h10p h10s<;>(try simp only[Q,Int.natCast_inj,xac] at h10p);have hzr:z.1<raw.length:=(by omega);have hzk:=hgc z.1 z.2 (by omega) hg2.2;have hz0:GoodF 0 (nth z.2 z.1):=(by rw[hzk.2.2.1 z.1 (by omega) hzr];exact hrg _ (zaj hzr));have huk:=hkk _ _ hz0 _ _ hg3.2;have hk9':=hk9 (pfP s z.1);have hse:=hset z.2 z.1 u.2 (by omega) huk.2 hzk.2.1;have hul:u.1<kLim (pfP s z.1):=zcn.2 ⟨by omega,by omega⟩;have hux:=zcn.1 hul;refine evc [93] [] ?_;refine xaU (id:=33) (id2:=31) (lr:=[(2,_)]) zey (zgy (l:=z.2.set z.1 u.2) (F:=raw.map Fu.ty) hse (by simp;omega) (by intro q;have hq:=congrArg List.length q;rw[List.length_set] at hq;simp only[xai] at hq;omega)) rfl .none rfl rfl (.cons (.msB (k:=6) List.mem_cons_self (zaO _) (by simp;omega) (zgl (by simp;omega))) .nil) ⟨rfl,trivial⟩ rfl (by first|rfl|(simp only[zew,zbP,AV.ids];rfl)) rfl (by first|rfl|(simp only[zai,occH,occE,Res.ids,xag,List.nil_append,AV.idsL,AV.ids,zab,zaa,zac,zan,xae,List.map_nil,upC,zaA];rfl)) ?_;refine evd [93] [] ?_;refine xaQ (i:=z.1) sl24 .none rfl rfl rfl rfl (by simp;omega) ?_;refine xaW ty35 .none rfl rfl rfl ((zls (by omega))) ?_;refine evd [93] [] ?_;refine Walk.idx (i:=((u.1+1:Nat))) zaD .none rfl rfl rfl (by omega) (zae (by first|omega|(have:=hp1 x.1;omega))) rfl ?_;refine evd [93] [] ?_;refine Walk.call (cr:=[]) zm7 (hcl u.2 u.1 (by omega) huk.1 (nth (pfP s z.1) (u.1+1)) (hpl z.1 (by omega) (u.1+1) (by omega))) rfl .none rfl rfl (.cons (.refl _) (.cons (.gl _ _) (.cons (.refl _) (.cons (.refl _) .nil)))) trivial rfl (by first|rfl|(simp only[zaY,List.all_cons,List.all_nil,zbS,zbB,AV.idsL,AV.ids,zab,zaa,xae,List.map_nil,zaA];rfl)) (by first|rfl|(simp only[zai,occH,occE,Res.ids,xag,List.nil_append,AV.idsL,AV.ids,zab,zaa,zac,zan,xae,List.map_nil,upC,zaA];rfl)) ?_;refine evd [93] [] ?_;refine Walk.alloc (id:=3015) tz35 rfl .none rfl (by first|rfl|(simp only[zai,occH,occE,Res.ids,xag,List.nil_append,AV.idsL,AV.ids,zab,zaa,zac,zan,xae,List.map_nil,upC,zaA];rfl)) (by first|rfl|(simp only[zai,occH,occE,Res.ids,xag,List.nil_append,AV.idsL,AV.ids,zab,zaa,zac,zan,xae,List.map_nil,upC,zaA];rfl)) (by first|rfl|(simp only[zai,occH,occE,Res.ids,xag,List.nil_append,AV.idsL,AV.ids,zab,zaa,zac,zan,xae,List.map_nil,upC,zaA];rfl)) ?_;refine so ty35 ?_;refine evd [93] [] ?_;refine dr2 [33,31,3015] ?_ (by first|rfl|(simp only[zai,occH,occE,Res.ids,xag,List.nil_append,AV.idsL,AV.ids,zab,zaa,zac,zan,xae,List.map_nil,upC,zaA];rfl));refine sq ?_ ?_<;>intro h11 h11p h11s<;>(try simp only[Q,Int.natCast_inj,xac] at h11p);refine rn0 (r2 rfl rfl) (.tup (.cons (.eqd ?_) (.cons (.eqd ?_) .nil)));rotate_left 2;refine xaQ (i:=z.1) sl24 .none rfl rfl rfl rfl (by simp;omega) ?_;refine Walk.store ty35 .none rfl rfl rfl rfl rfl rfl (by simp) ((zlA (by omega))) ?_;refine tv ?_;refine ar ?_;refine xah ((u.1+1,(clF w (raw.map Fu.ty) u.2 (nth (pfP s z.1) (u.1+1))).1)) ⟨⟨by dsimp only;omega,zjV hg3.2 (by assumption)⟩,(by dsimp only;omega),sx ⟨⟨_,rfl,xap ?_⟩,trivial⟩ ⟨?_,trivial⟩⟩;focus (first|rfl|omega)
    focus (first|rfl|exact congrArg (fun l=>some (Res.box (zaF l))) (zfn (by have:=hgc z.1 z.2 (by omega) hg2.2;omega)).symm)
    refine ar ?_;refine xah ((z.1+1,z.2.set z.1 u.2)) ⟨⟨by dsimp only;omega,by
          have hue:u.1=kLim (pfP s z.1):=(by by_cases q:u.1<kLim (pfP s z.1);(have:=zcn.1 q;omega);omega);refine zfk hg2.2 ?_;rw[<-hue];exact hg3.2⟩,(by dsimp only;omega),sx ⟨⟨_,rfl,xap ?_⟩,trivial⟩ ⟨?_,trivial⟩⟩
    focus (first|rfl|omega)
    focus (first|rfl|exact congrArg (fun l=>some (Res.box (zaF l))) eRaw)
    refine sqF ?_;refine ar ?_;refine xah ((z.1+1,z.2.set z.1 u.2)) ⟨⟨by dsimp only;omega,by
          have hue:u.1=kLim (pfP s z.1):=(by by_cases q:u.1<kLim (pfP s z.1);(have:=zcn.1 q;omega);omega);refine zfk hg2.2 ?_;rw[<-hue];exact hg3.2⟩,(by dsimp only;omega),sx ⟨⟨_,rfl,xap ?_⟩,trivial⟩ ⟨?_,trivial⟩⟩
    focus (first|rfl|omega)
    focus (first|rfl|exact congrArg (fun l=>some (Res.box (zaF l))) eRaw)
    have hze:z.1=raw.length:=(by omega);have hC:pfC w s raw raw.length=some z.2:=(by rw[<-hze];exact hg2.2);have hzk:=hgc _ _ (Nat.le_refl _) hC;have hgd:=zjL (l:=z.2) (by omega) (fun i hi=>hzk.2.2.2 i (by omega));refine CWp.frz hk 7 2 _ 6 (es:=z.2.map Fu.c) rfl rfl (zeC (by simp;omega)) rfl ?_;refine evc [93] [] ?_;refine Walk.call (cr:=[]) cal8 (zct hs (l:=z.2) hgd.1 hgd.2.1) rfl .none rfl rfl (LeL.refl _) trivial rfl (by first|rfl|(simp only[zaY,List.all_cons,List.all_nil,zbS,zbB,AV.idsL,AV.ids,zab,zaa,xae,List.map_nil,zaA];rfl)) (by first|rfl|(simp only[zai,occH,occE,Res.ids,xag,List.nil_append,AV.idsL,AV.ids,zab,zaa,zac,zan,xae,List.map_nil,upC,zaA];rfl)) ?_;refine evs [93] [] ?_;refine sq ?_ ?_<;>intro h13 h13p h13s<;>(try simp only[Q,Int.natCast_inj,xac] at h13p);refine sqT ?_;refine rn0 (r2 rfl rfl) (.tup (.cons (.eqd ?_) (.cons (.eqd ?_) .nil)));rotate_left 2;refine Walk.call (cr:=[]) zhc (zdG hs (l:=z.2) hgd.1 hgd.2.2 (by assumption)) rfl (.some rfl rfl h13) rfl rfl (LeL.refl _) trivial rfl (by first|rfl|(simp only[zaY,List.all_cons,List.all_nil,zbS,zbB,AV.idsL,AV.ids,zab,zaa,xae,List.map_nil,zaA];rfl)) (by first|rfl|(simp only[zai,occH,occE,Res.ids,xag,List.nil_append,AV.idsL,AV.ids,zab,zaa,zac,zan,xae,List.map_nil,upC,zaA];rfl)) ?_;refine evs [93] [(112,false)] ?_ ⟨⟨_,rfl,h13⟩,trivial⟩;refine sq ?_ ?_<;>intro h15 h15p h15s<;>(try simp only[Q,Int.natCast_inj,xac] at h15p);refine rn0 (r2 rfl rfl) (.tup (.cons (.eqd ?_) (.cons (.eqd ?_) .nil)));rotate_left 2;refine rn0 (r2 rfl rfl) (.tup (.cons (.eqd ?_) (.cons (.eqd ?_) .nil)));rotate_left 2;refine sqF ?_;refine CWp.fixV hk 7 2 6 rfl rfl rfl (fun hx17=>?_) (fun hx17=>?_);exfalso;have e1:x.1=zbp s:=hex x.1 hg1.1 (by first|exact .inl (by omega)|exact .inr (.inl (by omega))|exact .inr (.inr (by assumption))|exact .inr (.inr (by simp_all)));have h9:=hg1.2.1;rw[e1,hT] at h9;have h8:=Option.some.inj h9;exact hne (h8.trans (by simpa using hx17));have e1:x.1=zbp s:=hex x.1 hg1.1 (by first|exact .inl (by omega)|exact .inr (.inl (by omega))|exact .inr (.inr (by assumption))|exact .inr (.inr (by simp_all)));have eRaw:x.2=raw:=(by have h9:=hg1.2.1;rw[e1,hT] at h9;exact(Option.some.inj h9).symm);have hx2:x.2.length=raw.length:=(by rw[eRaw]);refine evc [93] [] ?_;refine xaU (id:=1) (id2:=30) (lr:=[(2,_)]) zey (zg6 (l:=x.2) (F:=raw.map Fu.ty) (by rw[eRaw]) (by omega) (by rw[eRaw];exact hne)) rfl .none rfl rfl (.cons (.msB (k:=6) List.mem_cons_self (zaO _) rfl (zgl (by simp))) .nil) ⟨rfl,trivial⟩ rfl (by first|rfl|(simp only[zew,zbP,AV.ids];rfl)) rfl (by first|rfl|(simp only[zai,occH,occE,Res.ids,xag,List.nil_append,AV.idsL,AV.ids,zab,zaa,zac,zan,xae,List.map_nil,upC,zaA];rfl)) ?_;refine Walk.call (cr:=[]) zgH (hfo) rfl .none rfl rfl (.cons (.refl _) (.cons (.gl _ _) .nil)) trivial rfl (by first|rfl|(simp only[zaY,List.all_cons,List.all_nil,zbS,zbB,AV.idsL,AV.ids,zab,zaa,xae,List.map_nil,zaA];rfl)) (by first|rfl|(simp only[zai,occH,occE,Res.ids,xag,List.nil_append,AV.idsL,AV.ids,zab,zaa,zac,zan,xae,List.map_nil,upC,zaA];rfl)) ?_;refine evs [93] [] ?_;refine sq ?_ ?_<;>intro h18 h18p h18s<;>(try simp only[Q,Int.natCast_inj,xac] at h18p);refine rn0 (r2 rfl rfl) (.tup (.cons (.eqd ?_) (.cons (.eqd ?_) .nil)));rotate_left 2;refine xak (ι:=Nat×List Fu) hk (fun z=>[(12,.d (.i (z.1:Int)))]) [4,5,13,14,15,16,65,66,67,68,69,70,71,72,73,74,75,76,77,78,79,80,81,82,83,84,85,86,87,88,89,90,91,92,93,94,95,96,97,98,99,100,101,102,103,104,105,106,107] (fun z=>[(2,some (.box (zaF z.2)))]) (fun z=>z.1<=raw.length/\pfC w s raw z.1=some z.2) (fun z=>raw.length-z.1) (0,raw) ⟨by simp,rfl⟩ ⟨⟨_,rfl,xap ?_⟩,trivial⟩ ⟨?_,trivial⟩ (fun x=>rfl) (fun z hg2=>?_);focus (first|rfl|omega)
    focus (first|rfl|exact congrArg (fun l=>some (Res.box (zaF l))) eRaw)
    refine evc [93] [13,22,26] ?_;refine sq ?_ ?_<;>intro h19 h19p h19s<;>(try simp only[Q,Int.natCast_inj,xac] at h19p);refine Walk.idx zaD .none rfl rfl rfl rfl (zae (by first|omega|(have:=hp1 x.1;omega))) rfl ?_;refine evs [93] [] ?_;refine Walk.call (cr:=[]) zbF (hc2 z.1 (by omega)) rfl .none rfl rfl (LeL.refl _) trivial rfl (by first|rfl|(simp only[zaY,List.all_cons,List.all_nil,zbS,zbB,AV.idsL,AV.ids,zab,zaa,xae,List.map_nil,zaA];rfl)) (by first|rfl|(simp only[zai,occH,occE,Res.ids,xag,List.nil_append,AV.idsL,AV.ids,zab,zaa,zac,zan,xae,List.map_nil,upC,zaA];rfl)) ?_;refine evs [93] [] ?_;refine xak (ι:=Nat×Fu) hk (fun u=>[(14,.d (.i ((u.1:Int)+1)))]) [4,5,15,16,76,77,78,79,80,81,82,83,84,85,86,87,88,89,90,91,92,93,94,95,96,97,98,99,100,101,102,103,104,105,106,107] (fun u=>[(2,some (.box (zaF (z.2.set z.1 u.2))))]) (fun u=>u.1<=kLim (pfP s z.1)/\pfK w (raw.map Fu.ty) (pfP s z.1) (nth z.2 z.1) u.1=some u.2) (fun u=>kLim (pfP s z.1)-u.1) (0,nth z.2 z.1) ⟨by simp,rfl⟩ ⟨⟨_,rfl,xap ?_⟩,trivial⟩ ⟨?_,trivial⟩ (fun x=>rfl) (fun u hg3=>?_);focus (first|rfl|omega)
    focus (first|rfl|exact congrArg (fun l=>some (Res.box (zaF l))) (zfn (by have:=hgc z.1 z.2 (by omega) hg2.2;omega)).symm)
    refine evc [93] [13,22,26] ?_;refine sq ?_ ?_<;>intro h20 h20p h20s<;>(try simp only[Q,Int.natCast_inj,xac] at h20p);refine sq ?_ ?_<;>intro h21 h21p h21s<;>(try simp only[Q,Int.natCast_inj,xac] at h21p);have hzr:z.1<raw.length:=(by omega);have hzk:=hgc z.1 z.2 (by omega) hg2.2;have hz0:GoodF 0 (nth z.2 z.1):=(by rw[hzk.2.2.1 z.1 (by omega) hzr];exact hrg _ (zaj hzr));have huk:=hkk _ _ hz0 _ _ hg3.2;have hk9':=hk9 (pfP s z.1);have hse:=hset z.2 z.1 u.2 (by omega) huk.2 hzk.2.1;have hul:u.1<kLim (pfP s z.1):=zcn.2 ⟨by omega,by omega⟩;have hux:=zcn.1 hul;refine evc [93] [] ?_;refine xaU (id:=33) (id2:=31) (lr:=[(2,_)]) zey (zgy (l:=z.2.set z.1 u.2) (F:=raw.map Fu.ty) hse (by simp;omega) (by intro q;have hq:=congrArg List.length q;rw[List.length_set] at hq;simp only[xai] at hq;omega)) rfl .none rfl rfl (.cons (.msB (k:=6) List.mem_cons_self (zaO _) (by simp;omega) (zgl (by simp;omega))) .nil) ⟨rfl,trivial⟩ rfl (by first|rfl|(simp only[zew,zbP,AV.ids];rfl)) rfl (by first|rfl|(simp only[zai,occH,occE,Res.ids,xag,List.nil_append,AV.idsL,AV.ids,zab,zaa,zac,zan,xae,List.map_nil,upC,zaA];rfl)) ?_;refine evd [93] [] ?_;refine xaQ (i:=z.1) sl24 .none rfl rfl rfl rfl (by simp;omega) ?_;refine xaW ty35 .none rfl rfl rfl ((zls (by omega))) ?_;refine evd [93] [] ?_;refine Walk.idx (i:=((u.1+1:Nat))) zaD .none rfl rfl rfl (by omega) (zae (by first|omega|(have:=hp1 x.1;omega))) rfl ?_;refine evd [93] [] ?_;refine Walk.call (cr:=[]) zm7 (hcl u.2 u.1 (by omega) huk.1 (nth (pfP s z.1) (u.1+1)) (hpl z.1 (by omega) (u.1+1) (by omega))) rfl .none rfl rfl (.cons (.refl _) (.cons (.gl _ _) (.cons (.refl _) (.cons (.refl _) .nil)))) trivial rfl (by first|rfl|(simp only[zaY,List.all_cons,List.all_nil,zbS,zbB,AV.idsL,AV.ids,zab,zaa,xae,List.map_nil,zaA];rfl)) (by first|rfl|(simp only[zai,occH,occE,Res.ids,xag,List.nil_append,AV.idsL,AV.ids,zab,zaa,zac,zan,xae,List.map_nil,upC,zaA];rfl)) ?_;refine evd [93] [] ?_;refine Walk.alloc (id:=3015) tz35 rfl .none rfl (by first|rfl|(simp only[zai,occH,occE,Res.ids,xag,List.nil_append,AV.idsL,AV.ids,zab,zaa,zac,zan,xae,List.map_nil,upC,zaA];rfl)) (by first|rfl|(simp only[zai,occH,occE,Res.ids,xag,List.nil_append,AV.idsL,AV.ids,zab,zaa,zac,zan,xae,List.map_nil,upC,zaA];rfl)) (by first|rfl|(simp only[zai,occH,occE,Res.ids,xag,List.nil_append,AV.idsL,AV.ids,zab,zaa,zac,zan,xae,List.map_nil,upC,zaA];rfl)) ?_;refine so ty35 ?_;refine evd [93] [] ?_;refine dr2 [33,31,3015] ?_ (by first|rfl|(simp only[zai,occH,occE,Res.ids,xag,List.nil_append,AV.idsL,AV.ids,zab,zaa,zac,zan,xae,List.map_nil,upC,zaA];rfl));refine sq ?_ ?_<;>intro h22 h22p h22s<;>(try simp only[Q,Int.natCast_inj,xac] at h22p);refine rn0 (r2 rfl rfl) (.tup (.cons (.eqd ?_) (.cons (.eqd ?_) .nil)));rotate_left 2;refine xaQ (i:=z.1) sl24 .none rfl rfl rfl rfl (by simp;omega) ?_;refine Walk.store ty35 .none rfl rfl rfl rfl rfl rfl (by simp) ((zlA (by omega))) ?_;refine tv ?_;refine ar ?_;refine xah ((u.1+1,(clF w (raw.map Fu.ty) u.2 (nth (pfP s z.1) (u.1+1))).1)) ⟨⟨by dsimp only;omega,zjV hg3.2 (by assumption)⟩,(by dsimp only;omega),sx ⟨⟨_,rfl,xap ?_⟩,trivial⟩ ⟨?_,trivial⟩⟩;focus (first|rfl|omega)
    focus (first|rfl|exact congrArg (fun l=>some (Res.box (zaF l))) (zfn (by have:=hgc z.1 z.2 (by omega) hg2.2;omega)).symm)
    refine ar ?_;refine xah ((z.1+1,z.2.set z.1 u.2)) ⟨⟨by dsimp only;omega,by
          have hue:u.1=kLim (pfP s z.1):=(by by_cases q:u.1<kLim (pfP s z.1);(have:=zcn.1 q;omega);omega);refine zfk hg2.2 ?_;rw[<-hue];exact hg3.2⟩,(by dsimp only;omega),sx ⟨⟨_,rfl,xap ?_⟩,trivial⟩ ⟨?_,trivial⟩⟩
    focus (first|rfl|omega)
    focus (first|rfl|exact congrArg (fun l=>some (Res.box (zaF l))) eRaw)
    refine sqF ?_;refine ar ?_;refine xah ((z.1+1,z.2.set z.1 u.2)) ⟨⟨by dsimp only;omega,by
          have hue:u.1=kLim (pfP s z.1):=(by by_cases q:u.1<kLim (pfP s z.1);(have:=zcn.1 q;omega);omega);refine zfk hg2.2 ?_;rw[<-hue];exact hg3.2⟩,(by dsimp only;omega),sx ⟨⟨_,rfl,xap ?_⟩,trivial⟩ ⟨?_,trivial⟩⟩
    focus (first|rfl|omega)
    focus (first|rfl|exact congrArg (fun l=>some (Res.box (zaF l))) eRaw)
    have hze:z.1=raw.length:=(by omega);have hC:pfC w s raw raw.length=some z.2:=(by rw[<-hze];exact hg2.2);have hzk:=hgc _ _ (Nat.le_refl _) hC;have hgd:=zjL (l:=z.2) (by omega) (fun i hi=>hzk.2.2.2 i (by omega));refine CWp.frz hk 7 2 _ 6 (es:=z.2.map Fu.c) rfl rfl (zeC (by simp;omega)) rfl ?_;refine evc [93] [] ?_;refine Walk.call (cr:=[]) cal8 (zct hs (l:=z.2) hgd.1 hgd.2.1) rfl .none rfl rfl (LeL.refl _) trivial rfl (by first|rfl|(simp only[zaY,List.all_cons,List.all_nil,zbS,zbB,AV.idsL,AV.ids,zab,zaa,xae,List.map_nil,zaA];rfl)) (by first|rfl|(simp only[zai,occH,occE,Res.ids,xag,List.nil_append,AV.idsL,AV.ids,zab,zaa,zac,zan,xae,List.map_nil,upC,zaA];rfl)) ?_;refine evs [93] [] ?_;refine sq ?_ ?_<;>intro h24 h24p h24s<;>(try simp only[Q,Int.natCast_inj,xac] at h24p);refine sqT ?_;refine rn0 (r2 rfl rfl) (.tup (.cons (.eqd ?_) (.cons (.eqd ?_) .nil)));rotate_left 2;refine Walk.call (cr:=[]) zhc (zdG hs (l:=z.2) hgd.1 hgd.2.2 (by assumption)) rfl (.some rfl rfl h24) rfl rfl (LeL.refl _) trivial rfl (by first|rfl|(simp only[zaY,List.all_cons,List.all_nil,zbS,zbB,AV.idsL,AV.ids,zab,zaa,xae,List.map_nil,zaA];rfl)) (by first|rfl|(simp only[zai,occH,occE,Res.ids,xag,List.nil_append,AV.idsL,AV.ids,zab,zaa,zac,zan,xae,List.map_nil,upC,zaA];rfl)) ?_;refine evs [93] [(112,false)] ?_ ⟨⟨_,rfl,h24⟩,trivial⟩;refine sq ?_ ?_<;>intro h26 h26p h26s<;>(try simp only[Q,Int.natCast_inj,xac] at h26p);refine rn0 (r2 rfl rfl) (.tup (.cons (.eqd ?_) (.cons (.eqd ?_) .nil)));rotate_left 2;refine rn0 (r2 rfl rfl) (.tup (.cons (.eqd ?_) (.cons (.eqd ?_) .nil)));rotate_left 2;refine sqF ?_;refine sqF ?_;refine CWp.fixV hk 7 2 6 rfl rfl rfl (fun hx28=>?_) (fun hx28=>?_);exfalso;have e1:x.1=zbp s:=hex x.1 hg1.1 (by first|exact .inl (by omega)|exact .inr (.inl (by omega))|exact .inr (.inr (by assumption))|exact .inr (.inr (by simp_all)));have h9:=hg1.2.1;rw[e1,hT] at h9;have h8:=Option.some.inj h9;exact hne (h8.trans (by simpa using hx28));have e1:x.1=zbp s:=hex x.1 hg1.1 (by first|exact .inl (by omega)|exact .inr (.inl (by omega))|exact .inr (.inr (by assumption))|exact .inr (.inr (by simp_all)));have eRaw:x.2=raw:=(by have h9:=hg1.2.1;rw[e1,hT] at h9;exact(Option.some.inj h9).symm);have hx2:x.2.length=raw.length:=(by rw[eRaw]);refine evc [93] [] ?_;refine xaU (id:=1) (id2:=30) (lr:=[(2,_)]) zey (zg6 (l:=x.2) (F:=raw.map Fu.ty) (by rw[eRaw]) (by omega) (by rw[eRaw];exact hne)) rfl .none rfl rfl (.cons (.msB (k:=6) List.mem_cons_self (zaO _) rfl (zgl (by simp))) .nil) ⟨rfl,trivial⟩ rfl (by first|rfl|(simp only[zew,zbP,AV.ids];rfl)) rfl (by first|rfl|(simp only[zai,occH,occE,Res.ids,xag,List.nil_append,AV.idsL,AV.ids,zab,zaa,zac,zan,xae,List.map_nil,upC,zaA];rfl)) ?_;refine Walk.call (cr:=[]) zgH (hfo) rfl .none rfl rfl (.cons (.refl _) (.cons (.gl _ _) .nil)) trivial rfl (by first|rfl|(simp only[zaY,List.all_cons,List.all_nil,zbS,zbB,AV.idsL,AV.ids,zab,zaa,xae,List.map_nil,zaA];rfl)) (by first|rfl|(simp only[zai,occH,occE,Res.ids,xag,List.nil_append,AV.idsL,AV.ids,zab,zaa,zac,zan,xae,List.map_nil,upC,zaA];rfl)) ?_;refine evs [93] [] ?_;refine sq ?_ ?_<;>intro h29 h29p h29s<;>(try simp only[Q,Int.natCast_inj,xac] at h29p);refine rn0 (r2 rfl rfl) (.tup (.cons (.eqd ?_) (.cons (.eqd ?_) .nil)));rotate_left 2;refine xak (ι:=Nat×List Fu) hk (fun z=>[(12,.d (.i (z.1:Int)))]) [4,5,13,14,15,16,65,66,67,68,69,70,71,72,73,74,75,76,77,78,79,80,81,82,83,84,85,86,87,88,89,90,91,92,93,94,95,96,97,98,99,100,101,102,103,104,105,106,107] (fun z=>[(2,some (.box (zaF z.2)))]) (fun z=>z.1<=raw.length/\pfC w s raw z.1=some z.2) (fun z=>raw.length-z.1) (0,raw) ⟨by simp,rfl⟩ ⟨⟨_,rfl,xap ?_⟩,trivial⟩ ⟨?_,trivial⟩ (fun x=>rfl) (fun z hg2=>?_);focus (first|rfl|omega)
    focus (first|rfl|exact congrArg (fun l=>some (Res.box (zaF l))) eRaw)
    refine evc [93] [13,22,26] ?_;refine sq ?_ ?_<;>intro h30 h30p h30s<;>(try simp only[Q,Int.natCast_inj,xac] at h30p);refine Walk.idx zaD .none rfl rfl rfl rfl (zae (by first|omega|(have:=hp1 x.1;omega))) rfl ?_;refine evs [93] [] ?_;refine Walk.call (cr:=[]) zbF (hc2 z.1 (by omega)) rfl .none rfl rfl (LeL.refl _) trivial rfl (by first|rfl|(simp only[zaY,List.all_cons,List.all_nil,zbS,zbB,AV.idsL,AV.ids,zab,zaa,xae,List.map_nil,zaA];rfl)) (by first|rfl|(simp only[zai,occH,occE,Res.ids,xag,List.nil_append,AV.idsL,AV.ids,zab,zaa,zac,zan,xae,List.map_nil,upC,zaA];rfl)) ?_;refine evs [93] [] ?_;refine xak (ι:=Nat×Fu) hk (fun u=>[(14,.d (.i ((u.1:Int)+1)))]) [4,5,15,16,76,77,78,79,80,81,82,83,84,85,86,87,88,89,90,91,92,93,94,95,96,97,98,99,100,101,102,103,104,105,106,107] (fun u=>[(2,some (.box (zaF (z.2.set z.1 u.2))))]) (fun u=>u.1<=kLim (pfP s z.1)/\pfK w (raw.map Fu.ty) (pfP s z.1) (nth z.2 z.1) u.1=some u.2) (fun u=>kLim (pfP s z.1)-u.1) (0,nth z.2 z.1) ⟨by simp,rfl⟩ ⟨⟨_,rfl,xap ?_⟩,trivial⟩ ⟨?_,trivial⟩ (fun x=>rfl) (fun u hg3=>?_);focus (first|rfl|omega)
    focus (first|rfl|exact congrArg (fun l=>some (Res.box (zaF l))) (zfn (by have:=hgc z.1 z.2 (by omega) hg2.2;omega)).symm)
    refine evc [93] [13,22,26] ?_;refine sq ?_ ?_<;>intro h31 h31p h31s<;>(try simp only[Q,Int.natCast_inj,xac] at h31p);refine sq ?_ ?_<;>intro h32 h32p h32s<;>(try simp only[Q,Int.natCast_inj,xac] at h32p);have hzr:z.1<raw.length:=(by omega);have hzk:=hgc z.1 z.2 (by omega) hg2.2;have hz0:GoodF 0 (nth z.2 z.1):=(by rw[hzk.2.2.1 z.1 (by omega) hzr];exact hrg _ (zaj hzr));have huk:=hkk _ _ hz0 _ _ hg3.2;have hk9':=hk9 (pfP s z.1);have hse:=hset z.2 z.1 u.2 (by omega) huk.2 hzk.2.1;have hul:u.1<kLim (pfP s z.1):=zcn.2 ⟨by omega,by omega⟩;have hux:=zcn.1 hul;refine evc [93] [] ?_;refine xaU (id:=33) (id2:=31) (lr:=[(2,_)]) zey (zgy (l:=z.2.set z.1 u.2) (F:=raw.map Fu.ty) hse (by simp;omega) (by intro q;have hq:=congrArg List.length q;rw[List.length_set] at hq;simp only[xai] at hq;omega)) rfl .none rfl rfl (.cons (.msB (k:=6) List.mem_cons_self (zaO _) (by simp;omega) (zgl (by simp;omega))) .nil) ⟨rfl,trivial⟩ rfl (by first|rfl|(simp only[zew,zbP,AV.ids];rfl)) rfl (by first|rfl|(simp only[zai,occH,occE,Res.ids,xag,List.nil_append,AV.idsL,AV.ids,zab,zaa,zac,zan,xae,List.map_nil,upC,zaA];rfl)) ?_;refine evd [93] [] ?_;refine xaQ (i:=z.1) sl24 .none rfl rfl rfl rfl (by simp;omega) ?_;refine xaW ty35 .none rfl rfl rfl ((zls (by omega))) ?_;refine evd [93] [] ?_;refine Walk.idx (i:=((u.1+1:Nat))) zaD .none rfl rfl rfl (by omega) (zae (by first|omega|(have:=hp1 x.1;omega))) rfl ?_;refine evd [93] [] ?_;refine Walk.call (cr:=[]) zm7 (hcl u.2 u.1 (by omega) huk.1 (nth (pfP s z.1) (u.1+1)) (hpl z.1 (by omega) (u.1+1) (by omega))) rfl .none rfl rfl (.cons (.refl _) (.cons (.gl _ _) (.cons (.refl _) (.cons (.refl _) .nil)))) trivial rfl (by first|rfl|(simp only[zaY,List.all_cons,List.all_nil,zbS,zbB,AV.idsL,AV.ids,zab,zaa,xae,List.map_nil,zaA];rfl)) (by first|rfl|(simp only[zai,occH,occE,Res.ids,xag,List.nil_append,AV.idsL,AV.ids,zab,zaa,zac,zan,xae,List.map_nil,upC,zaA];rfl)) ?_;refine evd [93] [] ?_;refine Walk.alloc (id:=3015) tz35 rfl .none rfl (by first|rfl|(simp only[zai,occH,occE,Res.ids,xag,List.nil_append,AV.idsL,AV.ids,zab,zaa,zac,zan,xae,List.map_nil,upC,zaA];rfl)) (by first|rfl|(simp only[zai,occH,occE,Res.ids,xag,List.nil_append,AV.idsL,AV.ids,zab,zaa,zac,zan,xae,List.map_nil,upC,zaA];rfl)) (by first|rfl|(simp only[zai,occH,occE,Res.ids,xag,List.nil_append,AV.idsL,AV.ids,zab,zaa,zac,zan,xae,List.map_nil,upC,zaA];rfl)) ?_;refine so ty35 ?_;refine evd [93] [] ?_;refine dr2 [33,31,3015] ?_ (by first|rfl|(simp only[zai,occH,occE,Res.ids,xag,List.nil_append,AV.idsL,AV.ids,zab,zaa,zac,zan,xae,List.map_nil,upC,zaA];rfl));refine sq ?_ ?_<;>intro h33 h33p h33s<;>(try simp only[Q,Int.natCast_inj,xac] at h33p);refine rn0 (r2 rfl rfl) (.tup (.cons (.eqd ?_) (.cons (.eqd ?_) .nil)));rotate_left 2;refine xaQ (i:=z.1) sl24 .none rfl rfl rfl rfl (by simp;omega) ?_;refine Walk.store ty35 .none rfl rfl rfl rfl rfl rfl (by simp) ((zlA (by omega))) ?_;refine tv ?_;refine ar ?_;refine xah ((u.1+1,(clF w (raw.map Fu.ty) u.2 (nth (pfP s z.1) (u.1+1))).1)) ⟨⟨by dsimp only;omega,zjV hg3.2 (by assumption)⟩,(by dsimp only;omega),sx ⟨⟨_,rfl,xap ?_⟩,trivial⟩ ⟨?_,trivial⟩⟩;focus (first|rfl|omega)
    focus (first|rfl|exact congrArg (fun l=>some (Res.box (zaF l))) (zfn (by have:=hgc z.1 z.2 (by omega) hg2.2;omega)).symm)
    refine ar ?_;refine xah ((z.1+1,z.2.set z.1 u.2)) ⟨⟨by dsimp only;omega,by
          have hue:u.1=kLim (pfP s z.1):=(by by_cases q:u.1<kLim (pfP s z.1);(have:=zcn.1 q;omega);omega);refine zfk hg2.2 ?_;rw[<-hue];exact hg3.2⟩,(by dsimp only;omega),sx ⟨⟨_,rfl,xap ?_⟩,trivial⟩ ⟨?_,trivial⟩⟩
    focus (first|rfl|omega)
    focus (first|rfl|exact congrArg (fun l=>some (Res.box (zaF l))) eRaw)
    refine sqF ?_;refine ar ?_;refine xah ((z.1+1,z.2.set z.1 u.2)) ⟨⟨by dsimp only;omega,by
          have hue:u.1=kLim (pfP s z.1):=(by by_cases q:u.1<kLim (pfP s z.1);(have:=zcn.1 q;omega);omega);refine zfk hg2.2 ?_;rw[<-hue];exact hg3.2⟩,(by dsimp only;omega),sx ⟨⟨_,rfl,xap ?_⟩,trivial⟩ ⟨?_,trivial⟩⟩
    focus (first|rfl|omega)
    focus (first|rfl|exact congrArg (fun l=>some (Res.box (zaF l))) eRaw)
    have hze:z.1=raw.length:=(by omega);have hC:pfC w s raw raw.length=some z.2:=(by rw[<-hze];exact hg2.2);have hzk:=hgc _ _ (Nat.le_refl _) hC;have hgd:=zjL (l:=z.2) (by omega) (fun i hi=>hzk.2.2.2 i (by omega));refine CWp.frz hk 7 2 _ 6 (es:=z.2.map Fu.c) rfl rfl (zeC (by simp;omega)) rfl ?_;refine evc [93] [] ?_;refine Walk.call (cr:=[]) cal8 (zct hs (l:=z.2) hgd.1 hgd.2.1) rfl .none rfl rfl (LeL.refl _) trivial rfl (by first|rfl|(simp only[zaY,List.all_cons,List.all_nil,zbS,zbB,AV.idsL,AV.ids,zab,zaa,xae,List.map_nil,zaA];rfl)) (by first|rfl|(simp only[zai,occH,occE,Res.ids,xag,List.nil_append,AV.idsL,AV.ids,zab,zaa,zac,zan,xae,List.map_nil,upC,zaA];rfl)) ?_;refine evs [93] [] ?_;refine sq ?_ ?_<;>intro h35 h35p h35s<;>(try simp only[Q,Int.natCast_inj,xac] at h35p);refine sqT ?_;refine rn0 (r2 rfl rfl) (.tup (.cons (.eqd ?_) (.cons (.eqd ?_) .nil)));rotate_left 2;refine Walk.call (cr:=[]) zhc (zdG hs (l:=z.2) hgd.1 hgd.2.2 (by assumption)) rfl (.some rfl rfl h35) rfl rfl (LeL.refl _) trivial rfl (by first|rfl|(simp only[zaY,List.all_cons,List.all_nil,zbS,zbB,AV.idsL,AV.ids,zab,zaa,xae,List.map_nil,zaA];rfl)) (by first|rfl|(simp only[zai,occH,occE,Res.ids,xag,List.nil_append,AV.idsL,AV.ids,zab,zaa,zac,zan,xae,List.map_nil,upC,zaA];rfl)) ?_;refine evs [93] [(112,false)] ?_ ⟨⟨_,rfl,h35⟩,trivial⟩;refine sq ?_ ?_<;>intro h37 h37p h37s<;>(try simp only[Q,Int.natCast_inj,xac] at h37p);refine rn0 (r2 rfl rfl) (.tup (.cons (.eqd ?_) (.cons (.eqd ?_) .nil)));rotate_left 2;refine rn0 (r2 rfl rfl) (.tup (.cons (.eqd ?_) (.cons (.eqd ?_) .nil)));rotate_left 2;all_goals (first|rfl|(rw[hno x.1 ((hlim x.1).2 ⟨⟨by omega,by omega⟩,by first|assumption|(simp_all;done)⟩) (by assumption)];all_goals rfl)|(rw[m0 (by assumption)];all_goals rfl)|(rw[m1 (zoI hg2.2 (zoJ hg3.2 (by assumption) hul) hzr)];all_goals rfl)|(rw[m3 z.2 (by assumption) hC (by assumption) (by assumption)];all_goals rfl)|(rw[m2 z.2 hC (fun q=>by first|(have q1:=q.1;have q2:zbe w z.2=false:=(by assumption);rw[q2] at q1;cases q1)|(exact absurd q.2 (by assumption)))];all_goals rfl))
def zcJ:List (List Str):=[[[76,62,73,47,78,105,108,32,48,47,67,111,110,115,40,97,44,98,41,32,43,40,97,44,35,48,40,98,41,41,59,76,62,76,47,78,105,108,32,78,105,108,47,67,111,110,115,40,97,44,98,41,32,97,60,51,32,35,49,40,98,41,47,67,111,110,115,40,97,44,98,41,32,67,111,110,115,40,43,40,97,44,49,41,44,35,49,40,98,41,41],
  [76,62,76,47,78,105,108,32,78,105,108,47,67,111,110,115,40,97,44,98,41,32,67,111,110,115,40,97,44,35,48,40,98,41,41,59,76,62,73,47,67,111,110,115,40,97,44,95,41,32,97,59,73,62,76,47,97,32,67,111,110,115,40,97,44,35,50,40,97,41,41]],
 [[84,62,73,47,76,101,97,102,32,48,47,78,111,100,101,40,97,44,84,114,117,44,98,41,32,43,40,49,44,43,40,35,48,40,97,41,44,35,48,40,98,41,41,41,47,78,111,100,101,40,97,44,70,108,115,44,98,41,32,43,40,35,48,40,97,41,44,35,48,40,98,41,41,59,66,62,66,47,84,114,117,32,70,108,115,47,70,108,115,32,84,114,117,59,84,62,84,47,76,101,97,102,32,76,101,97,102,47,78,111,100,101,40,97,44,98,44,99,41,32,78,111,100,101,40,35,50,40,99,41,44,35,49,40,98,41,44,35,50,40,97,41,41]],
 [[69,49,62,73,47,78,117,109,40,97,41,32,97,47,65,100,100,40,97,44,98,41,32,43,40,35,48,40,97,41,44,35,48,40,98,41,41,47,73,102,40,97,44,98,44,99,41,32,43,40,35,48,40,98,41,44,35,48,40,99,41,41,59,69,50,62,66,47,66,111,108,40,97,41,32,97,47,73,102,40,97,44,98,44,99,41,32,35,49,40,98,41,59,69,62,73,47,78,117,109,40,97,41,32,97,47,95,32,48],
  [69,49,62,69,49,47,78,117,109,40,97,41,32,78,117,109,40,43,40,97,44,49,41,41,47,65,100,100,40,97,44,98,41,32,65,100,100,40,35,48,40,98,41,44,35,48,40,97,41,41,47,73,102,40,97,44,98,44,99,41,32,73,102,40,97,44,35,48,40,99,41,44,35,48,40,98,41,41]],
 [[79,62,73,47,78,111,110,32,48,47,83,111,109,40,97,41,32,97,59,80,62,73,47,80,97,105,114,40,97,44,98,41,32,43,40,35,48,40,97,41,44,35,48,40,98,41,41,59,73,62,80,47,97,32,97,60,53,32,80,97,105,114,40,83,111,109,40,97,41,44,78,111,110,41,47,97,32,80,97,105,114,40,78,111,110,44,83,111,109,40,97,41,41]],
 [[86,49,62,73,47,69,110,100,32,48,47,84,119,111,40,97,41,32,43,40,35,48,40,97,41,44,50,41,59,86,50,62,73,47,83,111,109,101,40,97,44,98,41,32,43,40,97,44,35,48,40,98,41,41,47,84,119,111,40,97,41,32,35,49,40,97,41]],
 [[66,62,66,47,84,114,117,32,70,108,115,47,70,108,115,32,35,48,40,84,114,117,41]],
 [[83,62,83,47,77,105,120,40,97,44,98,41,32,77,105,120,40,35,48,40,97,41,44,35,48,40,98,41,41,47,97,32,97,59,83,62,73,47,82,101,100,32,49,47,77,105,120,40,97,44,98,41,32,43,40,35,49,40,97,41,44,35,49,40,98,41,41,47,95,32,48]]]
abbrev zt6 (l:List (List Str)):D:= .sl (l.map fun r=>[D.sl (r.map fun s=>[D.str s])])
theorem zpf:zcJ.length=7:=rfl
theorem znV:∀r∈zcJ,1<=r.length/\r.length<=2/\∀s∈r,s.length<=300:=by decide
theorem zih:FnD Tryz.prog 55 [] [] (.d (zt6 zcJ)) []:=by
 refine bd Tryz.f55 9 [] [] fun w0 F0 own kept hk=>?_;refine si [0,1] [_,_] zaD tz9 ?_;refine si [0] [_] zaD tz9 ?_;refine si [0,1] [_,_] zaD tz9 ?_;refine si [0] [_] zaD tz9 ?_;refine si [0] [_] zaD tz9 ?_;refine si [0] [_] zaD tz9 ?_;refine si [0] [_] zaD tz9 ?_;refine si [0,1,2,3,4,5,6] [_,_,_,_,_,_,_] zrH zuk ?_;refine ev ?_;refine rq ?_;rotate_left;all_goals (rfl)
def zdA (b:Str):List Data:=zi2 b 0
def zmQ (b:Str):Str:=nth (nth zcJ (zap b 0 7).toNat) (zap b 1 (((nth zcJ (zap b 0 7).toNat).map fun s=>[D.str s]).length:Int)).toNat
def zi8 (b:Str):List Fu:=(pfV (zdA b) (zmQ b)).getD []
theorem zq9 {w:List Data} (hs:WSmall w){s:Str}:(((pfV w s).getD []).length<=5)/\∀f∈(pfV w s).getD [],∃m,m<=9/\GoodF m f:=by
 cases h:pfV w s with
 |none=>exact⟨by simp,fun f hf=>by simp at hf⟩
 |some l=>
  unfold pfV at h;split at h
  ·cases e:pfT w s (zbp s) with
   |none=>rw[e] at h;cases h
   |some raw=>
    rw[e] at h;dsimp only at h;obtain⟨h1,h2⟩:=znS e;have hl5:zbp s<=5:=by
     unfold zbp;split
     ·omega
     ·split<;>omega
    split at h
    ·cases e2:pfC w s raw raw.length with
     |none=>rw[e2] at h;cases h
     |some l2=>
      rw[e2] at h;dsimp only at h;split at h
      ·cases h
       obtain⟨q1,q2,q3,q4⟩:=znQ hs h2 (Nat.le_refl _) e2;refine⟨by show l.length<=5;omega,fun f hf=>?_⟩;obtain⟨i,hi,rfl⟩:=List.getElem_of_mem (show f∈l from hf);rw[<-zaL hi];exact q4 i (by omega)
      ·cases h
    ·cases h
  ·cases h
theorem zk1 {b:Str} (hb:b.length<=2000):
  FnD Tryz.prog 25 [.ref 900 0] [(900,some (rdB b 0))] (.tup [.d (zak (zdA b)),.d (zbs (zi8 b))]) [(900,some (rdB b 2))]:=by
 have h7:=zpd b 0;have hlen7:=zpf;have hr:=znV _ (zaj (l:=zcJ) (i:=(zap b 0 7).toNat) (by omega));have hp1:=zaT (b:=b) (p:=0) (n:=7) hb (by omega) (by omega);have hp2:=zaT (b:=b) (p:=1) (n:=(((nth zcJ (zap b 0 7).toNat).map fun s=>[D.str s]).length:Int)) hb (by omega) (by simp;omega);have hb2:=zd9 (b:=b) (p:=1) (n:=(((nth zcJ (zap b 0 7).toNat).map fun s=>[D.str s]).length:Int)) (by simp;omega);have hb1:=zd9 (b:=b) (p:=0) (n:=7) (by omega);have hW:zdA b=(zc3 (nth zdM (zap b 0 7).toNat)).1:=rfl;have hS:zmQ b=nth (nth zcJ (zap b 0 7).toNat) (zap b 1 (((nth zcJ (zap b 0 7).toNat).map fun s=>[D.str s]).length:Int)).toNat:=rfl;have hF:zi8 b=(pfV (zdA b) (zmQ b)).getD []:=rfl;rw[hF];have hsm:WSmall (zdA b):=zi3;obtain⟨n0,hn0⟩:=Int.eq_ofNat_of_zero_le hb1.1;rw[hn0] at hp1 hp2 hb1 hb2 hW hS hr h7;simp only[Int.toNat_natCast] at hp2 hb2 hW hS hr h7;obtain⟨n2,hn2⟩:=Int.eq_ofNat_of_zero_le hb2.1;rw[hn2] at hp2 hb2 hS;simp only[Int.toNat_natCast] at hS;have hb2':n2<(nth zcJ n0).length:=by have:=hb2.2;simp at this;omega
 have hpw:=ziS (s:=nth zdM n0) (by have:=zlh (i:=n0) (by omega);omega);rw[<-hW] at hpw;have hpf:=zjn hsm (s:=nth (nth zcJ n0) n2) (by have:=hr.2.2 _ (zaj hb2');omega);rw[<-hS] at hpf;have ht8:=zpm;have hpr:=zih;have htx:=zla;rw[hS] at *;clear hS hW hF hsm hn0 hn2;generalize pfV (zdA b) (nth (nth zcJ n0) n2)=o at *;generalize (zc3 (nth zdM n0)).2=b0 at *;generalize zdA b=w at *;rw[show(7:Int)=((zcJ.map fun r=>[D.sl (r.map fun s=>[D.str s])]).length:Int) from rfl] at hp1;generalize hP:zcJ=P at *;generalize hX:zdM=X at *;refine bd Tryz.f25 40 [] [] fun w0 F0 own kept hk=>?_;refine wc zro (hpr) rfl rfl ?_;refine ev ?_;refine wd zch (hp1) rfl rfl ⟨rfl,trivial⟩ ?_;refine ev ?_;refine wc ztO (htx) rfl rfl ?_;refine ev ?_;refine Walk.idx (i:=n0) zaD .none rfl rfl rfl rfl (zae (by omega)) rfl ?_;refine ev ?_;refine wc ztN (hpw) rfl rfl ?_;refine ev ?_;refine wc zro (hpr) rfl rfl ?_;refine ev ?_;refine Walk.idx (i:=n0) zrH .none rfl rfl rfl rfl (zae (by omega)) rfl ?_;refine ev ?_;refine wd zch (hp2) rfl rfl ⟨rfl,trivial⟩ ?_;refine Walk.idx (i:=n2) zaD .none rfl rfl rfl rfl (zae (by omega)) rfl ?_;refine ev ?_;refine wc ztP (hpf) rfl rfl ?_;refine ev ?_;refine rn [(900,some (rdB b 2))] (r2 rfl rfl) (.tup (.cons (.eqd ?_) (.cons (.eqd ?_) .nil))) ⟨rfl,rfl⟩ (SubO.get ⟨.inr ?_,⟨.inl rfl,trivial⟩⟩) (zaI rfl);rotate_left 3;all_goals (first|((rfl);done)|(rfl))
theorem Ex.cs_rows {l:List Ex}:∀x,x∈Ex.cs l->x.length=4:=by
 intro x hx;rw[Ex.cs_cc] at hx;obtain⟨y,_,rfl⟩:=List.mem_map.1 hx;rfl
def mutE (b:Str):Nat->Nat->Ex->Option (Ex×Nat)
 |0,_,_=>none
 |n+1,p,v=>
  if zap b p 24=0 then some (.mk (numV b (p+1) [0,6,1,2,5]) v.n v.ctor v.kids,p+2)
  else if zap b p 24=1 then some (.mk v.op (numV b (p+1) [10,-1,3]) v.ctor v.kids,p+2)
  else if zap b p 24=2 then some (.mk v.op v.n v.ctor (v.kids++[.mk 1 0 0 []]),p+1)
  else if zap b p 24=3 then
   match v.kids with
   | []=>some (.mk v.op v.n v.ctor v.kids,p+1)
   |k::r=>
    match mutE b n (p+1) k with
    |none=>none
    |some (k1,p1)=>
     match mutE b n p1 k1 with
     |none=>none
     |some (k2,p2)=>some (.mk v.op v.n v.ctor (k2::r),p2)
  else some (.mk v.op v.n v.ctor v.kids,p+1)
theorem Exs.size_app:∀a b:List Ex,Exs.size (a++b)=Exs.size a+Exs.size b
 | [],b=>by simp[Exs.size]
 |x::r,b=>by simp only[xag,Exs.size,Exs.size_app r b];omega
theorem Ex.size_mk (a n c:Int) (k:List Ex):(Ex.mk a n c k).size=1+Exs.size k:=rfl
theorem zqc {b:Str}{n p:Nat}{v:Ex}{k:Ex}{r:List Ex} (h:zap b p 24=3) (hk:v.kids=k::r){k1 k2:Ex}{p1 p2:Nat} (h1:mutE b n (p+1) k=some (k1,p1)) (h2:mutE b n p1 k1=some (k2,p2)):
  mutE b (n+1) p v=some (.mk v.op v.n v.ctor (k2::r),p2):=by
 simp only[mutE];rw[if_neg (by omega),if_neg (by omega),if_neg (by omega),if_pos h,hk];simp only[h1,h2]
theorem zlz {b:Str}{n p:Nat}{v:Ex}{k:Ex}{r:List Ex} (h:zap b p 24=3) (hk:v.kids=k::r){v':Ex}{q:Nat} (hm:mutE b (n+1) p v=some (v',q)):
  ∃k1 p1 k2,mutE b n (p+1) k=some (k1,p1)/\mutE b n p1 k1=some (k2,q)/\v' = .mk v.op v.n v.ctor (k2::r):=by
 simp only[mutE] at hm;rw[if_neg (by omega),if_neg (by omega),if_neg (by omega),if_pos h,hk] at hm;cases h1:mutE b n (p+1) k with
 |none=>simp[h1] at hm
 |some x=>
  obtain⟨k1,p1⟩:=x;cases h2:mutE b n p1 k1 with
  |none=>simp[h1,h2] at hm
  |some y=>
   obtain⟨k2,p2⟩:=y;simp only[h1,h2,Option.some.injEq,Prod.mk.injEq] at hm;obtain⟨rfl,rfl⟩:=hm;exact⟨k1,p1,k2,rfl,h2,rfl⟩
theorem zeL {b:Str}:∀ {n:Nat}{p:Nat}{v:Ex}{x:Ex×Nat},mutE b n p v=some x->∀m,n<=m->mutE b m p v=some x
 |0,p,v,x,h,m,_=>by simp[mutE] at h
 |n+1,p,v,x,h,0,hm=>by omega
 |n+1,p,v,x,h,m+1,hm=>by
  by_cases h3:zap b p 24=3
  ·cases hk:v.kids with
   |nil=>simp only[mutE] at h ⊢;rw[if_neg (by omega),if_neg (by omega),if_neg (by omega),if_pos h3,hk] at h ⊢;exact h
   |cons k r=>
    obtain⟨v',q⟩:=x;obtain⟨k1,p1,k2,h1,h2,rfl⟩:=zlz h3 hk h;exact zqc h3 hk (zeL h1 m (by omega)) (zeL h2 m (by omega))
  ·simp only[mutE] at h ⊢;split at h
   ·rename_i c;rw[if_pos c];exact h
   ·rename_i c;rw[if_neg c];split at h
    ·rename_i c;rw[if_pos c];exact h
    ·rename_i c;rw[if_neg c];split at h
     ·rename_i c;rw[if_pos c];exact h
     ·rename_i c;rw[if_neg c,if_neg h3];exact h
theorem zcS {b:Str}:∀ {n:Nat}{p:Nat}{v v':Ex}{q:Nat},mutE b n p v=some (v',q)->p<q/\v'.size<=v.size+(q-p)
 |0,p,v,v',q,h=>by simp[mutE] at h
 |n+1,p,v,v',q,h=>by
  have hv:=Ex.size_eq v;by_cases h3:zap b p 24=3
  ·cases hk:v.kids with
   |nil=>
    simp only[mutE] at h;rw[if_neg (by omega),if_neg (by omega),if_neg (by omega),if_pos h3,hk] at h;simp only[Option.some.injEq,Prod.mk.injEq] at h;obtain⟨rfl,rfl⟩:=h;rw[Ex.size_mk];simp only[Exs.size];omega
   |cons k r=>
    obtain⟨k1,p1,k2,h1,h2,rfl⟩:=zlz h3 hk h;have a1:=zcS h1;have a2:=zcS h2;rw[hk] at hv;rw[Ex.size_mk];simp only[Exs.size] at hv ⊢;omega
  ·simp only[mutE] at h;split at h
   ·simp only[Option.some.injEq,Prod.mk.injEq] at h;obtain⟨rfl,rfl⟩:=h;rw[Ex.size_mk];omega
   split at h
   ·simp only[Option.some.injEq,Prod.mk.injEq] at h;obtain⟨rfl,rfl⟩:=h;rw[Ex.size_mk];omega
   split at h
   ·simp only[Option.some.injEq,Prod.mk.injEq] at h;obtain⟨rfl,rfl⟩:=h;rw[Ex.size_mk,Exs.size_app];simp only[Exs.size,Ex.size];omega
   ·simp only[Option.some.injEq,Prod.mk.injEq] at h;obtain⟨rfl,rfl⟩:=h;rw[Ex.size_mk];omega
theorem zma {b:Str}:∀(m:Nat) (p:Nat) (v:Ex),sU (uP b) p m<= -1->∃n v' q,mutE b n p v=some (v',q)/\q<=p+m/\ -1<=sU (uP b) p (q-p):=by
 intro m;induction m using Nat.strongRecOn with
 |_ m ih=>
  intro p v hm;cases m with
  |zero=>simp[sU] at hm
  |succ m=>
   simp only[sU] at hm;have hu:uP b p=uv (zap b p 24):=rfl;have hub:=zll (zap b (p+1) 24);by_cases h0:zap b p 24=0\/zap b p 24=1
   ·have hu0:uP b p=0:=by rw[hu];unfold uv;rw[if_neg (by omega),if_pos h0]
    cases m with
    |zero=>simp only[sU] at hm;omega
    |succ m=>
     have hs : -1<=sU (uP b) p (p+2-p):=by
      rw[show p+2-p=2 by omega];show -1<=uP b p+(uP b (p+1)+0)
      have:uP b (p+1)=uv (zap b (p+1) 24):=rfl;omega
     rcases h0 with h0|h0
     ·exact⟨1,_,p+2,by simp only[mutE];rw[if_pos h0],by omega,hs⟩
     ·exact⟨1,_,p+2,by simp only[mutE];rw[if_neg (by omega),if_pos h0],by omega,hs⟩
   ·rw[not_or] at h0;by_cases h3:zap b p 24=3
    ·have hu3:uP b p=1:=by rw[hu];unfold uv;rw[if_pos h3]
     cases hk:v.kids with
     |nil=>
      refine⟨1,_,p+1,by simp only[mutE];rw[if_neg (by omega),if_neg (by omega),if_neg (by omega),if_pos h3,hk],by omega, ?_⟩;rw[show p+1-p=1 by omega];show -1<=uP b p+0
      omega
     |cons k r=>
      obtain⟨n1,k1,p1,a1,a2,a3⟩:=ih m (by omega) (p+1) k (by omega);have a4:=(zcS a1).1;have e1:=zgD (uP b) (p1-(p+1)) (p+1+m-p1) (p+1);rw[show p1-(p+1)+(p+1+m-p1)=m by omega,show p+1+(p1-(p+1))=p1 by omega] at e1;obtain⟨n2,k2,p2,b1,b2,b3⟩:=ih (p+1+m-p1) (by omega) p1 k1 (by omega);have b4:=(zcS b1).1;refine⟨max n1 n2+1,_,p2,zqc h3 hk (zeL a1 _ (Nat.le_max_left _ _)) (zeL b1 _ (Nat.le_max_right _ _)),by omega, ?_⟩;have e2:=zgD (uP b) (p1-(p+1)) (p2-p1) (p+1);rw[show p+1+(p1-(p+1))=p1 by omega] at e2;rw[show p2-p=(p1-(p+1)+(p2-p1))+1 by omega];simp only[sU];omega
    ·have hs : -1<=sU (uP b) p (p+1-p):=by
      rw[show p+1-p=1 by omega];show -1<=uP b p+0
      have:=(zll (zap b p 24)).1;omega
     by_cases h2:zap b p 24=2
     ·exact⟨1,_,p+1,by simp only[mutE];rw[if_neg h0.1,if_neg h0.2,if_pos h2],by omega,hs⟩
     ·exact⟨1,_,p+1,by simp only[mutE];rw[if_neg h0.1,if_neg h0.2,if_neg h2,if_neg h3],by omega,hs⟩
mutual
theorem Ex.ok_sz:∀v:Ex,v.size<=1000000000000->v.ok
 | .mk a n c ks,h=>by
  have h1:1+Exs.size ks<=1000000000000:=h;exact⟨by have:=Exs.len_sz ks;omega,Exs.ok_sz ks (by omega)⟩
theorem Exs.ok_sz:∀l:List Ex,Exs.size l<=1000000000000->Exs.ok l
 | [],_=>trivial
 |v::r,h=>by
  have h1:v.size+Exs.size r<=1000000000000:=h;exact⟨Ex.ok_sz v (by omega),Exs.ok_sz r (by omega)⟩
theorem Exs.len_sz:∀l:List Ex,l.length<=Exs.size l
 | []=>Nat.zero_le _
 |v::r=>by
  have h1:=Exs.len_sz r;have h2:=Ex.size_eq v;show r.length+1<=v.size+Exs.size r
  omega
end
theorem Ex.cs_app (a b:List Ex):Ex.cs (a++b)=Ex.cs a++Ex.cs b:=by rw[Ex.cs_eq,Ex.cs_eq,Ex.cs_eq,xaf]
theorem zdm {b:Str} (hb:b.length<=2000):∀(n:Nat){p:Nat}{v v':Ex}{q:Nat},mutE b n p v=some (v',q)->v.size+(q-p)<=1000000000->q<=1000000000->
  FnD Tryz.prog 62 [.ref 900 0,.agg [.d (.i v.op),.d (.i v.n),.d (.i v.ctor),.d (zaX v.kids)]] [(900,some (rdB b p))] (.agg [.d (.i v'.op),.d (.i v'.n),.d (.i v'.ctor),.d (zaX v'.kids)]) [(900,some (rdB b q))]
 |0,p,v,v',q,h,_,_=>by simp[mutE] at h
 |n+1,p,v,v',q,hm,hsz,hq=>by
  have hpq:=zcS hm;have hvs:=Ex.size_eq v;have hkl:=Exs.len_sz v.kids;have hcl:=Ex.cs_len v.kids;by_cases hn3:zap b p 24=3/\v.kids≠[]
  ·cases hk:v.kids with
   |nil=>exact absurd hk hn3.2
   |cons y r=>
    obtain⟨k1,p1,k2,h1,h2,rfl⟩:=zlz hn3.1 hk hm;have a1:=zcS h1;have a2:=zcS h2;have hc3:=hn3.1;rw[hk] at hvs hkl hcl;simp only[Exs.size,xab] at hvs hkl hcl;have i1:=zdm hb n h1 (by omega) (by omega);have i2:=zdm hb n h2 (by omega) (by omega);have hcs:Ex.cs (y::r)=y.cc::Ex.cs r:=by show y.c::Ex.cs r=_;rw[Ex.c_eq]
    have hrl:(Ex.cs (y::r)).length=(Ex.cs r).length+1:=by rw[hcs];rfl
    clear hm;refine bd Tryz.f62 57 [43,52] [11,12] fun w0 F0 own kept hk=>?_;refine bx 3003 ?_;refine ab 3004 tz40 ?_;refine tv ?_;refine xa9 1 sl33 .none rfl rfl ?_;refine evd [43,52] [] ?_;refine xay sl33 zz40 .none rfl rfl rfl rfl (zaW rfl (by first|rfl|(simp;done)|(simp;omega))) (by intro x hx;exact Ex.cs_rows x hx) (by simp[Ex.cs_len];omega) (by simp[Ex.cs_len];omega) ?_;refine bu [0,1,2,3] [_,_,_,_] st40 ?_;refine ab 3005 tz40 ?_;refine so ty40 ?_;refine dr ?_;refine wd zch (zaT (p:=p) (n:=24) hb (by omega) (by omega)) rfl rfl ⟨rfl,trivial⟩ ?_;refine tv ?_;refine sq ?_ ?_<;>intro h1 h1p h1s<;>(try simp only[Q,Ex.cs_len] at h1p);exfalso;omega;refine sq ?_ ?_<;>intro h2 h2p h2s<;>(try simp only[Q,Ex.cs_len] at h2p);exfalso;omega;refine sq ?_ ?_<;>intro h3 h3p h3s<;>(try simp only[Q,Ex.cs_len] at h3p);exfalso;omega;refine sq ?_ ?_<;>intro h4 h4p h4s<;>(try simp only[Q,Ex.cs_len] at h4p);refine xaT sl33 .none rfl rfl ?_;refine evs [43,52] [] ?_;refine sq ?_ ?_<;>intro h5 h5p h5s<;>(try simp only[Q,Ex.cs_len] at h5p);refine CWp.fixVB 3005 3 1 4 rfl rfl rfl rfl (by first|rfl|(simp;done)) (by rw[hcs];simp) ?_;refine evc [43,52] [] ?_;refine xaQ (i:=0) sl33 .none rfl rfl rfl rfl (by simp;omega) ?_;refine xaW ty40 .none rfl rfl rfl ((cut0 hcs rfl)) ?_;refine wd zmM (i1) rfl rfl ⟨rfl,trivial⟩ ?_;refine wd zmM (i2) rfl rfl ⟨rfl,trivial⟩ ?_;refine xaQ (i:=0) sl33 .none rfl rfl rfl rfl (by simp;omega) ?_;refine Walk.store ty40 .none rfl rfl rfl rfl rfl rfl (by simp) ((put0 hcs rfl)) ?_;refine dr ?_;refine CWp.frzC hk 3005 3 1 _ 4 rfl rfl rfl rfl rfl (by rw[List.nil_append,hrl];exact zni rfl rfl (fun x hx=>Ex.cs_rows x hx)) rfl ?_;refine evc [43,52] [] ?_;refine so ty40 ?_;refine tv ?_;refine rn [(900,some (rdB b q))] (.cons (.cellA ty40 rfl rfl rfl) .nil) (.agg (.cons (.eqd ?_) (.cons (.eqd ?_) (.cons (.eqd ?_) (.cons (.eqd ?_) .nil))))) ⟨rfl,rfl⟩ (SubO.get ⟨.inr ?_,⟨.inl rfl,trivial⟩⟩) (zaI rfl);rotate_left 5;exfalso;rw[List.nil_append,hrl] at h5p;omega;exfalso;omega;all_goals (first|((first|rfl|(show D.sl _=D.sl (Ex.cs (k2::r));rw[show Ex.cs (k2::r)=k2.cc::Ex.cs r by show k2.c::Ex.cs r=_;rw[Ex.c_eq]]));done)|(rfl))
  ·simp only[mutE] at hm;refine bd Tryz.f62 57 [] [] fun w0 F0 own kept hk=>?_;refine bx 3003 ?_;refine ab 3004 tz40 ?_;refine tv ?_;refine xa6 1 sl33 .none rfl rfl ?_;refine evd [] [] ?_;refine ap sl33 zz40 rfl rfl rfl (by first|(intro x hx;exact Ex.cs_rows x hx)|(intro x hx;simp only[List.mem_singleton] at hx;subst hx;rfl)) (by simp[Ex.cs_len];omega) ?_;refine bu [0,1,2,3] [_,_,_,_] st40 ?_;refine ab 3005 tz40 ?_;refine so ty40 ?_;refine dr ?_;refine wd zch (zaT (p:=p) (n:=24) hb (by omega) (by omega)) rfl rfl ⟨rfl,trivial⟩ ?_;refine tv ?_;refine sq ?_ ?_<;>intro h1 h1p h1s<;>(try simp only[Q,Ex.cs_len] at h1p);rw[if_pos (by omega)] at hm;simp only[Option.some.injEq,Prod.mk.injEq] at hm;obtain⟨hv',hq'⟩:=hm;refine si [0,1,2,3,4] [_,_,_,_,_] sl37 tz3 ?_;refine wd zi5 (zdR (p:=p+1) (l:=[0,6,1,2,5]) hb (by omega) (by simp) (by simp)) rfl rfl ⟨rfl,trivial⟩ ?_;refine ev ?_;refine so ty3 ?_;refine tv ?_;refine so ty40 ?_;refine tv ?_;refine rn [(900,some (rdB b q))] (.cons (.cellA ty40 rfl rfl rfl) .nil) (.agg (.cons (.eqd ?_) (.cons (.eqd ?_) (.cons (.eqd ?_) (.cons (.gld ?_) .nil))))) ⟨rfl,rfl⟩ (SubO.get ⟨.inr ?_,⟨.inl rfl,trivial⟩⟩) (zaI rfl);rotate_left 5;refine sq ?_ ?_<;>intro h2 h2p h2s<;>(try simp only[Q,Ex.cs_len] at h2p);rw[if_neg (by omega),if_pos (by omega)] at hm;simp only[Option.some.injEq,Prod.mk.injEq] at hm;obtain⟨hv',hq'⟩:=hm;refine si [0,1,2] [_,_,_] sl37 tz3 ?_;refine wd zi5 (zdR (p:=p+1) (l:=[10,-1,3]) hb (by omega) (by simp) (by simp)) rfl rfl ⟨rfl,trivial⟩ ?_;refine ev ?_;refine so ty3 ?_;refine tv ?_;refine so ty40 ?_;refine tv ?_;refine rn [(900,some (rdB b q))] (.cons (.cellA ty40 rfl rfl rfl) .nil) (.agg (.cons (.eqd ?_) (.cons (.eqd ?_) (.cons (.eqd ?_) (.cons (.gld ?_) .nil))))) ⟨rfl,rfl⟩ (SubO.get ⟨.inr ?_,⟨.inl rfl,trivial⟩⟩) (zaI rfl);rotate_left 5;refine sq ?_ ?_<;>intro h3 h3p h3s<;>(try simp only[Q,Ex.cs_len] at h3p);rw[if_neg (by omega),if_neg (by omega),if_pos (by omega)] at hm;simp only[Option.some.injEq,Prod.mk.injEq] at hm;obtain⟨hv',hq'⟩:=hm;refine bu [0] [_] st40 ?_;refine si [0] [_] sl33 tz40 ?_;refine ap sl33 zz40 rfl rfl rfl (by first|(intro x hx;exact Ex.cs_rows x hx)|(intro x hx;simp only[List.mem_singleton] at hx;subst hx;rfl)) (by simp[Ex.cs_len];omega) ?_;refine ev ?_;refine so ty33 ?_;refine tv ?_;refine so ty40 ?_;refine tv ?_;refine rn [(900,some (rdB b q))] (.cons (.cellA ty40 rfl rfl rfl) .nil) (.agg (.cons (.eqd ?_) (.cons (.eqd ?_) (.cons (.eqd ?_) (.cons (.gld ?_) .nil))))) ⟨rfl,rfl⟩ (SubO.get ⟨.inr ?_,⟨.inl rfl,trivial⟩⟩) (zaI rfl);rotate_left 5;refine sq ?_ ?_<;>intro h4 h4p h4s<;>(try simp only[Q,Ex.cs_len] at h4p);refine sq ?_ ?_<;>intro h5 h5p h5s<;>(try simp only[Q,Ex.cs_len] at h5p);exfalso;apply hn3;refine⟨by omega,fun hh=>?_⟩;rw[hh] at h5p;exact absurd h5p (by decide);have hk0:v.kids=[]:=by cases hk:v.kids with|nil=>rfl|cons y r=>exact absurd ⟨by omega,by rw[hk];simp⟩ hn3
   rw[if_neg (by omega),if_neg (by omega),if_neg (by omega),if_pos (by omega),hk0] at hm;simp only[Option.some.injEq,Prod.mk.injEq] at hm;obtain⟨hv',hq'⟩:=hm;refine so ty40 ?_;refine tv ?_;refine rn [(900,some (rdB b q))] (.cons (.cellA ty40 rfl rfl rfl) .nil) (.agg (.cons (.eqd ?_) (.cons (.eqd ?_) (.cons (.eqd ?_) (.cons (.gld ?_) .nil))))) ⟨rfl,rfl⟩ (SubO.get ⟨.inr ?_,⟨.inl rfl,trivial⟩⟩) (zaI rfl);rotate_left 5;rw[if_neg (by omega),if_neg (by omega),if_neg (by omega),if_neg (by omega)] at hm;simp only[Option.some.injEq,Prod.mk.injEq] at hm;obtain⟨hv',hq'⟩:=hm;refine so ty40 ?_;refine tv ?_;refine rn [(900,some (rdB b q))] (.cons (.cellA ty40 rfl rfl rfl) .nil) (.agg (.cons (.eqd ?_) (.cons (.eqd ?_) (.cons (.eqd ?_) (.cons (.gld ?_) .nil))))) ⟨rfl,rfl⟩ (SubO.get ⟨.inr ?_,⟨.inl rfl,trivial⟩⟩) (zaI rfl);rotate_left 5;all_goals (first|((subst hv';first|rfl|(show D.sl _=D.sl (Ex.cs (v.kids++[.mk 1 0 0 []]));rw[Ex.cs_app];rfl)|(show _=Ex.cs (v.kids++[.mk 1 0 0 []]);rw[Ex.cs_app];rfl)|(rw[hk0];rfl));done)|(subst hq';rfl))
end Go.Proofs.YtmchfdpleibpdaaGreat
namespace Go.Proofs.YtmchfdpleibpdaaGreat
open Go
set_option linter.unusedSimpArgs false
set_option linter.unusedVariables false
section
variable {c:Ctx}
theorem RelA.ga_inv {G:Gh}{T:TokF}{w:World}{id n k:Nat}{js:List Nat}{cs:List AV}{v:Value} (h:RelA G T w (.ga id n js cs) v) (hT:T id=some (n,k)):
  ∃b cap vs e,G.loc id=[b]/\G.F b=0/\w.heap[b]?=some (.cells vs e (0,0))/\cap*k<=vs.size/\n<=cap/\cs.length=n*k/\
   (∀i (hi:i<cs.length) (hv:i<vs.size),RelA G T w cs[i] vs[i])/\(∀x,x∈AV.idsL cs->x∈js)/\v = .slice (some ⟨b,0,none⟩) n cap:=by
 cases h with
 |gaD hv hT'=>exact absurd (hT' n k hT) (Nat.lt_irrefl _)
 |gaL hj hT' hl hF hb hck hn hcs hr=>
  rw[hT] at hT';cases hT'
  exact⟨_,_,_,_,hl,hF,hb,hck,hn,hcs,hr,hj,rfl⟩
theorem xar {id n n':Nat}{js js':List Nat}{cs cs':List AV} (h:n=n'/\js=js'/\cs=cs'):LeA (.ga id n js cs) (.ga id n' js' cs'):=by
 obtain⟨rfl,rfl,rfl⟩:=h;exact .refl _
theorem LeL.atA {cs ds:List AV} (h:LeL cs ds):∀i (hc:i<cs.length) (hi:i<ds.length),LeA cs[i] ds[i]:=by
 induction cs generalizing ds with
 |nil=>intro i hc;simp at hc
 |cons x r ihr=>
  intro i hc hi;cases h with
  |cons h t=>
   cases i with
   |zero=>exact h
   |succ i=>exact ihr t i (by simpa using hc) (by simpa using hi)
theorem zm1 {t:TypeId}{G:Gh}{s:St}{a:Act}{w:World} (hr:R c G s a w){id b0 m n k e yb:Nat}{js js':List Nat}{cs row row':List AV}{v u:Value} (hle:LeL row row') (hjs:js.all (zaB · js')=true) (hjr:(AV.idsL row').all (zaB · js')=true) (ht:SlT c.P t e k yb){z:Value} (hz:∃i,c.P.info? e=some i/\i.zero=some z/\z.cells.size=k)
  (htok:getH s.hp id=some (.tok n k)) (hbox:getH s.hp b0=some (.box row)) (hrk:row.length=k) (hr1:zfB row=true) (hv:RelA G (tokf s.hp) w (.ga id n js cs) v) (hu:RelA G (tokf s.hp) w (.ms b0 m) u) (hm1:m=1)
  (hb:(n+1)*yb<=140737488355328) (hm:n+1<=9223372036854775807) (opt:TypeId):
  ∃v' w' G',(Builtin.append_ #[t,t] opt #[v,u]).run c.P w = .ok v' w'/\
   R c G' ⟨s.env,(id,some (.tok (n+1) k))::s.hp⟩ a w'/\RelA G' (tokf ((id,some (.tok (n+1) k))::s.hp)) w' (.ga id (n+1) js' (cs++row')) v':=by
 subst hm1;obtain⟨i,hi1,hi2,hi3⟩:=ht.inf;obtain⟨i',z1,z2,z3⟩:=hz;rw[hi1] at z1;cases z1
 have hT:tokf s.hp id=some (n,k):=zam.2 htok;have hT':tokf ((id,some (.tok (n+1) k))::s.hp) id=some (n+1,k):=zam.2 (by rw[zad,if_pos rfl]);have hT2:∀i,i≠id->tokf ((id,some (.tok (n+1) k))::s.hp) i=tokf s.hp i:=fun i hi=>by
  unfold tokf;rw[zad,if_neg hi]
 obtain⟨b,cap,vs,et,hl,hF,hat,hck,hncap,hcl,hrel,hj0,rfl⟩:=hv.ga_inv hT;have hj:∀x,x∈AV.idsL (cs++row')->x∈js':=fun x hx=>by
  rw[zab] at hx;rcases List.mem_append.1 hx with h|h
  ·exact zay.1 (List.all_eq_true.1 hjs x (hj0 x h))
  ·exact zay.1 (List.all_eq_true.1 hjr x h)

 obtain⟨bb,us,eb,hl0,hat0,hlen0,hF0,hcell0⟩:=hr.heap b0 _ hbox;have hu':∃cap2,u = .slice (some ⟨bb,0,none⟩) 1 cap2/\1<=cap2:=by
  cases hu with
  | @ms _ _ b cap h hT hcap=>
   have:b=bb:=zcG h hl0;subst this;exact⟨cap,rfl,hcap⟩
 obtain⟨cap2,rfl,hcap2⟩:=hu';let news:List Value:=us.toList.take k
 have hks:k<=us.size:=by omega
 have hnl:news.length=k:=by simp[news];omega
 have hnews:∀j u,news[j]?=some u->w.cell? ((⟨bb,0,none⟩:Addr).add j)=some u:=fun j u hj=>by
  obtain⟨hj1,hj2⟩:=List.getElem?_eq_some_iff.1 hj;simp only[news,List.getElem_take] at hj2;have hjs:j<us.size:=by omega
  rw[zb1];simp only[World.cell?,hat0,Option.isSome_none,Bool.false_eq_true,if_false,Nat.zero_add];rw[Array.getElem?_eq_getElem hjs,<-hj2];simp
 have hnr:∀i (hi:i<row.length) (hv:i<news.length),RelA G (tokf s.hp) w row[i] news[i]:=fun i hi hv=>by
  have:=hcell0 i hi (by omega);have e1:news[i]=us[i]'(by omega):=by simp[news]
  rw[e1];exact this
 have hlt:∀b o,o<G.F b->b<w.heap.size:=fun b o ho=>by
  rcases Nat.lt_or_ge b w.heap.size with h|h
  ·exact h
  ·rw[hr.top b h] at ho;omega
 have bound:∀i r,getH s.hp i=some r->∀b,b∈G.loc i->b<w.heap.size:=fun i r h=>(hr.heap i r h).bound;have apart:∀i r,i≠id->getH s.hp i=some r->∀b,b∈G.loc i->b∉G.loc id:=fun i r hi h b hb=>hr.disj i id (by rw[h];rfl) (by rw[htok];rfl) hi b hb;have hbs:b<w.heap.size:=bound id _ htok b (by rw[hl];simp);have hnk:n*k<=vs.size:=Nat.le_trans (Nat.mul_le_mul_right _ hncap) hck;let olds:List Value:=vs.toList.take (n*k)
 have hol:olds.length=n*k:=by simp[olds];omega
 have hold:∀i (hi:i<cs.length) (hv:i<olds.length),RelA G (tokf s.hp) w cs[i] olds[i]:=fun i hi hv=>by
  have:=hrel i hi (by omega);have e1:olds[i]=vs[i]'(by omega):=by simp[olds]
  rw[e1];exact this
 have hrk':row'.length=k:=by rw[<-hle.len];exact hrk
 have hnr':∀i (hi:i<row'.length) (hv:i<news.length),RelA G (tokf s.hp) w row'[i] news[i]:=fun i hi hv=>
  (hnr i (by rw[hle.len];exact hi) hv).le (hle.atA i (by rw[hle.len];exact hi) hi)
 have both:∀i (hi:i<(cs++row').length) (hv:i<(olds++news).length),RelA G (tokf s.hp) w (cs++row')[i] (olds++news)[i]:=fun i hi hv=>by
  by_cases h:i<cs.length
  ·rw[List.getElem_append_left h,List.getElem_append_left (by omega)];exact hold i h (by omega)
  ·rw[List.getElem_append_right (by omega),List.getElem_append_right (by omega)];have e1:i-cs.length<row'.length:=by simp at hi;omega
   have e2:i-olds.length=i-cs.length:=by omega
   have:=hnr' (i-cs.length) e1 (by omega);simpa only[e2] using this
 have hlen:(olds++news).length=(n+1)*k:=by rw[xaa,hol,hnl,Nat.add_mul,Nat.one_mul]
 have hclen:(cs++row').length=(n+1)*k:=by rw[xaa,hcl,hrk',Nat.add_mul,Nat.one_mul]
 have hone:∀u,u∈news->u.oneCell'=true:=fun u hu=>by
  obtain⟨j,hj,rfl⟩:=List.getElem_of_mem hu;exact(hnr j (by omega) hj).one (zfW hr1 _ (List.getElem_mem _))
 by_cases hroom:n+1<=cap
 ·have hck':(n+1)*k<=vs.size:=Nat.le_trans (Nat.mul_le_mul_right _ hroom) hck;have hfit:n*i.size+news.length<=vs.size:=by
   rw[hi2,hnl];rw[Nat.add_mul,Nat.one_mul] at hck';exact hck'
  have hrun:=zdD (P:=c.P) t opt e i ht.und hi1 b n cap vs et hat ⟨bb,0,none⟩ 1 cap2 news (by rw[hi2,hnl];simp) hnews hone hroom hfit;rw[hi2] at hrun hfit;let row':Array Value:=(vs.toList.take (n*k)++news++vs.toList.drop (n*k+news.length)).toArray
  have hrs:row'.size=vs.size:=by
   simp only[row',List.size_toArray,xaa,List.length_take,List.length_drop,Array.length_toList];omega
  have hcell:∀b' o,o<G.F b'->o<G.F b'/\(w.setRow b row').cell? ⟨b',o,none⟩=w.cell? ⟨b',o,none⟩:=fun b' o ho=>by
   have hbb:b'≠b:=fun e=>by subst e;omega
   exact⟨ho,cell_setRow_other w b row' _ hbb⟩
  have hoth:∀b',b'<w.heap.size->b'∉G.loc id->(w.setRow b row').heap[b']?=w.heap[b']?/\G.F b'=G.F b':=fun b' hb' hn=>by
   have hne:b'≠b:=fun e=>hn (by rw[hl,e];simp);exact⟨setRow_other w b b' row' hne,rfl⟩
  refine⟨_,_,G,hrun,hr.retok (G':=G) htok (by omega) hcell (fun _ _=>rfl) hoth (fun x hx=>by rw[hl] at hx;simp at hx;subst hx;simpa using hbs) (fun b' hb'=> .inl hb') rfl rfl rfl (by simp) (fun b' hb'=>?_), ?_⟩
  ·have hb2':w.heap.size<=b':=by simpa using hb'
   exact hr.top b' hb2'
  ·refine .gaL hj hT' hl hF (setRow_heap w b vs row' et _ hat) (by rw[hrs];exact hck) hroom hclen (fun j hj hjv=>?_);have hj2:j<(olds++news).length:=by omega
   have e1:row'[j]=(olds++news)[j]:=by
    simp only[row',List.getElem_toArray];rw[List.getElem_append_left hj2]
   rw[e1];exact(both j hj hj2).retok hcell hT (by omega) hT' hT2 (fun _ _=>rfl) (fun i p hi hp b' hb'=>by
    obtain⟨m,q⟩:=p;have h1:=zam.1 hp;exact hoth b' (bound i _ h1 b' hb') (apart i _ hi h1 b' hb'))
 ·
  have hrun:=run_append_grow (P:=c.P) w t opt e i z ht.und hi1 z2 ⟨b,0,none⟩ n cap olds (by rw[hi2];omega)
   (fun j u hj=>by
    rw[zb1];obtain⟨hj1,hj2⟩:=List.getElem?_eq_some_iff.1 hj;simp only[olds,List.getElem_take] at hj2;have hjs:j<vs.size:=by simp[olds] at hj1;omega
    simp only[World.cell?,hat,Option.isSome_none,Bool.false_eq_true,if_false,Nat.zero_add];rw[Array.getElem?_eq_getElem hjs,<-hj2];simp) ⟨bb,0,none⟩ 1 cap2 news (by rw[hi2,hnl];simp) hnews (by omega) (by omega) (by rw[hi3];exact growslice_fits (by omega) hb)
  have hnc:n+1<=grownCap w (n+1) cap e:=by have:=grownCap_ge w (n+1) cap e;omega
  generalize grownCap w (n+1) cap e=nc at hrun hnc;let cells:Array Value:=olds.toArray++news.toArray++Builtin.zeroCells z.cells (nc-(n+1))
  let G':Gh:={ F:=G.F,loc:=fun j=>bif Nat.beq j id then [w.heap.size] else G.loc j }
  have hcs:cells.size=nc*k:=by
   simp only[cells,Array.size_append,List.size_toArray,size_zeroCells,z3,hol,hnl];have:nc*k=(n+1)*k+(nc-(n+1))*k:=by rw[<-Nat.add_mul];congr 1;omega
   rw[this,Nat.add_mul,Nat.one_mul]
  have hcell:∀b o,o<G.F b->o<G'.F b/\(w.drew.alloc (.cells cells e)).cell? ⟨b,o,none⟩=w.cell? ⟨b,o,none⟩:=fun b o ho=>by
   have hb:=hlt b o ho;exact⟨ho,by rw[World.cell?_alloc_lt w.drew _ _ hb];rfl⟩
  have hlocne:∀j,j≠id->G'.loc j=G.loc j:=fun j hj=>by simp[G',zb0 hj]
  have hlocid:G'.loc id=[w.heap.size]:=by simp[G']
  have hoth:∀b',b'<w.heap.size->b'∉G.loc id->(w.drew.alloc (.cells cells e)).heap[b']?=w.heap[b']?/\G'.F b'=G.F b':=fun b' hb' _=>⟨zdb (w:=w.drew) hb',rfl⟩;refine⟨_,_,G',hrun,hr.retok (G':=G') htok (by omega) hcell hlocne hoth (fun b hb=>by rw[hlocid] at hb;simp at hb;subst hb;simp)
   (fun b hb=>by rw[hlocid] at hb;simp at hb;exact .inr (by omega)) rfl rfl rfl (by simp) (fun b hb=>?_), ?_⟩
  ·have hb':w.heap.size+1<=b:=by simpa using hb
   exact hr.top b (by omega)
  ·refine .gaL hj hT' hlocid (hr.top _ (Nat.le_refl _)) (zda (w:=w.drew)) (by rw[hcs];exact Nat.le_refl _) hnc hclen (fun j hj hjv=>?_);have hj2:j<(olds++news).length:=by omega
   have ec:cells=(olds++news++(Builtin.zeroCells z.cells (nc-(n+1))).toList).toArray:=by
    apply Array.ext';simp[cells]
   have e1:cells[j]=(olds++news)[j]:=by
    simp only[ec,List.getElem_toArray];rw[List.getElem_append_left hj2]
   rw[e1];exact(both j hj hj2).retok hcell hT (by omega) hT' hT2 hlocne (fun i p hi hp b' hb'=>by
    obtain⟨m,q⟩:=p;have h1:=zam.1 hp;exact hoth b' (bound i _ h1 b' hb') (apart i _ hi h1 b' hb'))
end
section
variable {c:Ctx}{env:Env}{hp:Hp}{K:Kt}{code:Code}{ids:List Nat}
theorem CWp.fixA (hkp:KeptIn c.kept ids) (t id k:Nat){n m:Nat}{js:List Nat}{cs:List AV} (ht:getE env t=some (.ga id n js cs)) (hb:getH hp id=some (.tok m k)) (hm:m=n) (hid:zaB id ids=false)
  (hn:CWp c code ⟨(t,.ms id n)::env,(id,some (.box cs))::hp⟩ K):CWp c code ⟨env,hp⟩ K:=by
 rintro a w ⟨G,hr⟩
 subst hm;obtain⟨b,cap,vs,et,hl,hF,hat,hck,hncap,hcl,hrel,_,hv⟩:=(hr.slots t _ ht).ga_inv (zam.2 hb);have s1:(getH hp id).isSome:=by rw[hb];rfl
 have g1:getH ((id,some (Res.box cs))::hp) id=some (.box cs):=by rw[zad,if_pos rfl]
 have t1:tokf ((id,some (Res.box cs))::hp) id=none:=by unfold tokf;rw[g1]
 have hturn:Turn c G ⟨env,hp⟩ w G ((id,some (.box cs))::hp) [id]:=by
  refine⟨fun i hi=>?_,fun i hi=>rfl,fun _ _=>rfl,fun _ _ h=>h,hr.top,fun i hi=> .inr ⟨.inl rfl, ?_⟩,fun i hi hs x hx=>?_,fun i hi j hj hij=>?_,fun i hi l hl2=>?_⟩<;>
   simp only[List.mem_cons,List.not_mem_nil,or_false] at hi
  ·rw[zad,if_neg hi]
  ·subst hi;intro p hp;rw[t1] at hp;cases hp
  ·subst hi;exact⟨i,by simp,s1,hx⟩
  ·simp only[List.mem_cons,List.not_mem_nil,or_false] at hj;exact absurd (hi.trans hj.symm) hij
  ·subst hi;have:=zay.2 (hkp.mem i l hl2);rw[this] at hid;cases hid
 refine hn a w ⟨G, ?_⟩;have hR:R c G ⟨env,(id,some (.box cs))::hp⟩ a w:=hturn.fin hr (fun i hi r hri=>by
  simp only[List.mem_cons,List.not_mem_nil,or_false] at hi;subst hi;rw[g1] at hri;cases hri
  have:m*k<=cap*k:=Nat.mul_le_mul_right _ hncap;refine⟨b,vs,et,hl,hat,by omega,hF,fun j hj hjv=>?_⟩;exact(hrel j hj hjv).mono (fun _ _ ho=>⟨ho,rfl⟩) (fun _ _=> .inl rfl) (fun q _ p hp'=>by
   obtain⟨n',k'⟩:=p;have hq:=zam.1 hp';rw[zad] at hq;split at hq
   ·cases hq
   ·exact⟨zam.2 hq,fun _ _=>⟨rfl,rfl⟩⟩))
 refine hR.slot ?_;rw[hv];exact .ms (zhQ hl) t1 hncap
end
section
variable {c:Ctx}{all:Array Oper}{chk:List Rec->Prop}{os:List Oper}{recs:List Rec}{env:Env}{hp:Hp}{Q:St->Prop}
variable {d ty:Nat}{pos:String}{af:Array Edge}{g:Option (Nat×Bool)}{pg:List (Nat×AV)}
variable {t yt:TypeId}{x y:Operand}
theorem xav {id b0 m n k e yb:Nat}{js:List Nat}{cs row row':List AV} (js':List Nat) (hle:LeL row row') (hjs:js.all (zaB · js')=true) (hjr:(AV.idsL row').all (zaB · js')=true) (ht:SlT c.P t e k yb) (hz:ZeroT c.P e k) (hg:GH all env g pg) (hd:Nat.blt d c.n=true)
  (hx:opd env x=some (.ga id n js cs)) (hy:opd env y=some (.ms b0 m)) (hm1:m=1) (htok:getH hp id=some (.tok n k)) (hbox:getH hp b0=some (.box row)) (hrk:row.length=k) (h1:zfB row=true)
  (hb:(n+1)*yb<=140737488355328) (hm:n+1<=9223372036854775807)
  (hn:Walk c all chk os (zao (pg++(opF x (.ga id n js cs)++opF y (.ms b0 m))) [(id,.tok n k),(b0,.box row)] [] ⟨some (d,.ga id (n+1) js' (cs++row')),[(id,some (.tok (n+1) k))]⟩::recs)
   ⟨(d,.ga id (n+1) js' (cs++row'))::env,(id,some (.tok (n+1) k))::hp⟩ Q):
  Walk c all chk (⟨some d,.call ⟨.builtin .append,#[x,y],#[t,t]⟩,ty,pos,af,g⟩::os) recs ⟨env,hp⟩ Q:=by
 refine⟨pg++(opF x (.ga id n js cs)++opF y (.ms b0 m)),[(id,.tok n k),(b0,.box row)],[],_, ?_,zar hg.facts (zar (zaR hx) (zaR hy)),fun p hm=>?_,by simp,hn⟩
 ·intro s a w hrel hp' hh _ K Q' hK;obtain⟨G,hr⟩:=hrel;have e1:=hr.opd (zaS hx (fun p hm=>hp' p (by simp[hm])));have e2:=hr.opd (zaS hy (fun p hm=>hp' p (by simp[hm])));obtain⟨i,z,z1,z2,z3⟩:=hz.out;obtain⟨v',w',G',hrun,hR,hA⟩:=zm1 hr hle hjs hjr ht ⟨i,z1,z2,z3⟩ (hh (id,_) (by simp)) (hh (b0,_) (by simp)) hrk h1 e1 e2 hm1 hb hm ty;unfold wpO;rw[if_pos (hg.gf.wanted hr (fun p hm=>hp' p (by simp[hm])))];unfold Oper.wp;have:(execOp a.eval ⟨some d,.call ⟨.builtin .append,#[x,y],#[t,t]⟩,ty,pos,af,g⟩).run c.P w = .ok (.value v') w':=by
   simp only[execOp,resolve,invoke,builtin,Sem.run_bind,Sem.run_pure,Result.andThen_ok,List.map_toArray,xae,List.map_nil,hrun]
  rw[this,Oper.upon_value];exact hK _ _ ⟨G',hR.put hA hd⟩
 ·simp only[List.mem_cons,List.not_mem_nil,or_false] at hm;rcases hm with rfl|rfl
  ·exact htok
  ·exact hbox
theorem xaS {at_ e k yb id n:Nat}{js:List Nat}{cs:List AV} (ht:SlT c.P at_ e k yb) (hg:GH all env g pg) (hd:Nat.blt d c.n=true) (hx:opd env x=some (.ga id n js cs))
  (hn:Walk c all chk os (zao (pg++opF x (.ga id n js cs)) [] [] ⟨some (d,.d (.i n)),[]⟩::recs) ⟨(d,.d (.i n))::env,hp⟩ Q):
  Walk c all chk (⟨some d,.call ⟨.builtin .len,#[x],#[at_]⟩,ty,pos,af,g⟩::os) recs ⟨env,hp⟩ Q:=
 xa0 hg hd hx (fun a G T w h=>⟨.int .i64 n,by
  obtain⟨ad,cap,he⟩:∃ad cap,a.eval x = .slice ad n cap:=by
   generalize a.eval x=v at *;cases h with
   |gaD hv _=>exact hv
   |gaL=>exact⟨_,_,rfl⟩
  simp[execOp,resolve,invoke,builtin,he,ze1 ht],.d (.int _ _)⟩) hn
theorem xa7 {t:TypeId}{e k yb:Nat} (id:Nat) (ht:SlT c.P t e k yb) (hg:GH all env g pg) (hd:Nat.blt d c.n=true) (hfr:zai env hp [id]=true)
  (hn:Walk c all chk os (zao (pg++opFL [] []) [] [id] ⟨some (d,.ga id 0 [] []),[(id,some (.tok 0 k))]⟩::recs) ⟨(d,.ga id 0 [] [])::env,(id,some (.tok 0 k))::hp⟩ Q):
  Walk c all chk (⟨some d,.buildSlice t 0 #[],ty,pos,af,g⟩::os) recs ⟨env,hp⟩ Q:=by
 refine⟨pg++opFL [] [],[],[id],_, ?_,zar hg.facts (by simp[opFL]),by simp,za9 hfr,hn⟩;intro s a w hrel hp' hh hcr K Q' hK;obtain⟨G,hr⟩:=hrel;obtain⟨h0,hocc⟩:=hcr id (by simp);obtain⟨ie,hi1,hi2,hi3⟩:=ht.inf;have e1:(execOp a.eval ⟨some d,.buildSlice t 0 #[],ty,pos,af,g⟩).run c.P w = .ok (.value (.slice (some ⟨w.heap.size,0,none⟩) 0 0)) (w.alloc (.cells #[] e)):=by
  simp[execOp,Instr.buildSlice,run_underlying ht.und,sizeOf,zeb hi1,Instr.fill,newRow,Array.range_zero']
 have hr':=(hr.alloc (.cells #[] e) 0).rename h0 hocc [w.heap.size];have hloc:∀i,i≠id->(bif Nat.beq i id then [w.heap.size] else G.loc i)=G.loc i:=fun i h=>by
  cases hb:Nat.beq i id with
  |true=>exact absurd (Nat.eq_of_beq_eq_true hb) h
  |false=>rfl
 have hR:=hr'.name (r:= .tok 0 k) h0 hocc (fun b hb=>by simp at hb;subst hb;simp) (fun i hi b hb=>by
  have hi':i≠id:=fun e=>by subst e;rw[h0] at hi;cases hi
  have hb':b∈G.loc i:=by have:=hloc i hi';simp only[this] at hb;exact hb
  obtain⟨r,hrr⟩:=Option.isSome_iff_exists.1 hi;have hlt:b<w.heap.size:=(hr.heap i r hrr).bound b hb';simp;omega) (fun b hb=>by
  simp at hb;subst hb;exact .inr hr.frm.size)
 unfold wpO;rw[if_pos (hg.gf.wanted hr (fun p hm=>hp' p (by simp[hm])))];unfold Oper.wp;rw[e1,Oper.upon_value];refine hK _ _ ⟨_,hR.put (v:= .ga id 0 [] []) (.gaL (by simp[AV.idsL]) (k:=k) (vs:=#[]) (e:=e) (b:=w.heap.size) (cap:=0) (zam.2 ?_) (by simp) ?_ zda (by simp) (Nat.le_refl _) (by simp) (fun i hi=>by simp at hi)) hd⟩
 ·show getH ((id,some (Res.tok 0 k))::s.hp) id=_
  rw[zad,if_pos rfl]
 ·simp
end
end Go.Proofs.YtmchfdpleibpdaaGreat
namespace Go.Proofs.YtmchfdpleibpdaaGreat
open Go
set_option linter.unusedSimpArgs false
set_option linter.unusedVariables false
set_option maxRecDepth 100000
set_option maxHeartbeats 2000000
theorem zre {b:Str} (h0:1<=b.length) (hb:b.length<=2000){p:Nat} (hp0:1<=p) (hp:p<=4000):∃m,m<=3000000/\sU (uP b) p m<= -2:=by
 obtain⟨N,n1,n2,hA⟩:=zq3 hb;obtain⟨j,j1,j2,j3⟩:∃j,1<=j/\p<=j*b.length/\(j*b.length<=p+b.length/\(b.length=1->j*b.length=p)):=by
  by_cases h1:b.length=1
  ·exact⟨p,hp0,by rw[h1];omega,by rw[h1];omega,fun _=>by rw[h1];omega⟩
  refine⟨p / b.length+1,Nat.le_add_left 1 _, ?_, ?_,fun h=>absurd h h1⟩
  ·have h1:=Nat.div_add_mod p b.length;have h2:=Nat.mod_lt p (show 0<b.length by omega);rw[Nat.add_mul,Nat.mul_comm (p / b.length)];omega
  ·have h1:=Nat.div_mul_le_self p b.length;rw[Nat.add_mul];omega
 have hNL:N*b.length<=1024*2000:=Nat.mul_le_mul n2 hb;refine⟨(j*b.length-p)+N*b.length,by omega, ?_⟩;rw[zgD,show p+(j*b.length-p)=j*b.length by omega,zqt];have h1:=zrG (u:=uP b) (fun k=>(zll _).2) (j*b.length-p) p;have hj:j*(29*b.length+53)<=441000:=by
  have e:j*(29*b.length+53)=29*(j*b.length)+53*j:=by rw[Nat.mul_add,Nat.mul_left_comm,Nat.mul_comm j 53]
  by_cases hL:7<=b.length
  ·have:j*7<=j*b.length:=Nat.mul_le_mul_left _ hL;omega
  ·have:j<=4007:=by
    have h2:j*1<=j*b.length:=Nat.mul_le_mul_left _ h0;omega
   exact Nat.le_trans (Nat.le_of_eq e) (by omega)
 have h2:=zoE (f:=fun j i=>uP b (j*b.length+i)) (n:=N) (j:=j) (c:= -2) b.length (fun i hi=>by
  rw[zpU h0 hi N j j1 (by rw[Nat.add_mul];omega)];exact hA _ (by have:=ztB b i (by omega);omega))
 omega
theorem zq4 {b:Str} (hb:b.length<=2000){p:Nat} (hp0:1<=p) (hp:p<=4000) (v:Ex):∃n v1 q1 v2 q2,mutE b n p v=some (v1,q1)/\mutE b n q1 v1=some (v2,q2)/\q2<=3010000:=by
 by_cases h0:1<=b.length
 ·obtain⟨m,m1,m2⟩:=zre h0 hb hp0 hp;obtain⟨n1,v1,q1,a1,a2,a3⟩:=zma (b:=b) m p v (by omega);have a4:=(zcS a1).1;have e1:=zgD (uP b) (q1-p) (p+m-q1) p;rw[show q1-p+(p+m-q1)=m by omega,show p+(q1-p)=q1 by omega] at e1;obtain⟨n2,v2,q2,b1,b2,b3⟩:=zma (b:=b) (p+m-q1) q1 v1 (by omega);exact⟨max n1 n2,v1,q1,v2,q2,zeL a1 _ (Nat.le_max_left _ _),zeL b1 _ (Nat.le_max_right _ _),by omega⟩
 ·have hz:∀p,zap b p 24=0:=fun p=>by unfold zap;rw[if_pos (.inr (by omega))]
  exact⟨1,_,p+2,_,p+2+2,by simp only[mutE];rw[if_pos (hz _)],by simp only[mutE];rw[if_pos (hz _)],by omega⟩
def zEx:Ex:= .mk 1 0 0 []
def Fu.idx (f:Fu) (k:Int):Fu:=⟨⟨f.ty.arg,⟨f.ty.res.data,k⟩⟩,f.cls,f.bodies⟩
def Fu.bod (f:Fu) (e:List Ex):Fu:=⟨f.ty,f.cls,e⟩
def Fu.cut (f:Fu):Fu:=⟨f.ty,f.cls.drop 1,f.bodies.drop 1⟩
def MutF (b:Str) (q:Nat) (l:List Fu) (l':List Fu) (q':Nat):Prop:=
 (l=[]/\l'=[]/\q'=q)\/(l≠[]/\∃f,zap b q l.length=(f:Nat)/\f<l.length/\
  ((zap b (q+1) 24=0/\l'=l.set f ((nth l f).idx (numV b (q+2) [1,2,4,0]))/\q'=q+3)\/
   (zap b (q+1) 24=1/\l'=l.set f ((nth l f).bod ((nth l f).bodies++[zEx]))/\q'=q+2)\/
   (zap b (q+1) 24=2/\∃y r n v1 q1 v2,(nth l f).bodies=y::r/\mutE b n (q+2) y=some (v1,q1)/\mutE b n q1 v1=some (v2,q')/\q'<=3010000/\l'=l.set f ((nth l f).bod (v2::r)))\/
   (zap b (q+1) 24=2/\(nth l f).bodies=[]/\l'=l/\q'=q+2)\/
   (zap b (q+1) 24=3/\l'=l.take f/\q'=q+2)\/
   (zap b (q+1) 24=4/\l'=l++List.replicate (5-l.length) (nth l 0)/\q'=q+2)\/
   (zap b (q+1) 24=5/\1<(nth l f).cls.length/\l'=l.set f (nth l f).cut/\q'=q+2)\/
   (zap b (q+1) 24=5/\¬1<(nth l f).cls.length/\l'=l/\q'=q+2)\/
   ((zap b (q+1) 24<0\/5<zap b (q+1) 24)/\l'=l/\q'=q+2)))
theorem zqe {b:Str} (hb:b.length<=2000){q:Nat} (hq:q<=3000) (l:List Fu):∃l' q',MutF b q l l' q':=by
 by_cases h0:l=[]
 ·exact⟨[],q,.inl ⟨h0,rfl,rfl⟩⟩
 have hl:0<l.length:=List.length_pos_iff.2 h0;have hp:=zd9 (b:=b) (p:=q) (n:=(l.length:Int)) (by omega);obtain⟨f,hf⟩:=Int.eq_ofNat_of_zero_le hp.1;have hfl:f<l.length:=by omega
 have mk:∀(P:List Fu->Nat->Prop),(∃l' q',P l' q')->(∀l' q',P l' q'->MutF b q l l' q')->∃l' q',MutF b q l l' q':=fun P h k=>by
  obtain⟨l',q',h⟩:=h;exact⟨l',q',k _ _ h⟩
 by_cases h5:zap b (q+1) 24<0\/5<zap b (q+1) 24
 ·exact⟨_,_,.inr ⟨h0,f,hf,hfl,.inr (.inr (.inr (.inr (.inr (.inr (.inr (.inr ⟨h5,rfl,rfl⟩)))))))⟩⟩
 have hc:zap b (q+1) 24=0\/zap b (q+1) 24=1\/zap b (q+1) 24=2\/zap b (q+1) 24=3\/zap b (q+1) 24=4\/zap b (q+1) 24=5:=by omega
 rcases hc with h|h|h|h|h|h
 ·exact⟨_,_,.inr ⟨h0,f,hf,hfl,.inl ⟨h,rfl,rfl⟩⟩⟩
 ·exact⟨_,_,.inr ⟨h0,f,hf,hfl,.inr (.inl ⟨h,rfl,rfl⟩)⟩⟩
 ·cases hbo:(nth l f).bodies with
  |nil=>exact⟨_,_,.inr ⟨h0,f,hf,hfl,.inr (.inr (.inr (.inl ⟨h,hbo,rfl,rfl⟩)))⟩⟩
  |cons y r=>
   obtain⟨n,v1,q1,v2,q2,a1,a2,a3⟩:=zq4 hb (p:=q+2) (by omega) (by omega) y;exact⟨_,q2,.inr ⟨h0,f,hf,hfl,.inr (.inr (.inl ⟨h,y,r,n,v1,q1,v2,hbo,a1,a2,a3,rfl⟩))⟩⟩
 ·exact⟨_,_,.inr ⟨h0,f,hf,hfl,.inr (.inr (.inr (.inr (.inl ⟨h,rfl,rfl⟩))))⟩⟩
 ·exact⟨_,_,.inr ⟨h0,f,hf,hfl,.inr (.inr (.inr (.inr (.inr (.inl ⟨h,rfl,rfl⟩)))))⟩⟩
 ·by_cases h1:1<(nth l f).cls.length
  ·exact⟨_,_,.inr ⟨h0,f,hf,hfl,.inr (.inr (.inr (.inr (.inr (.inr (.inl ⟨h,h1,rfl,rfl⟩))))))⟩⟩
  ·exact⟨_,_,.inr ⟨h0,f,hf,hfl,.inr (.inr (.inr (.inr (.inr (.inr (.inr (.inl ⟨h,h1,rfl,rfl⟩)))))))⟩⟩
def GoodU (f:Fu):Prop:=f.cls.length<=9/\f.bodies.length<=10/\(∀c∈f.cls,c.pat.ok/\c.pat.size<=10000000)/\∀e∈f.bodies,e.ok/\e.size<=20000000
theorem GoodF.u {m:Nat}{f:Fu} (h:GoodF m f) (hm:m<=9):GoodU f:=⟨by have:=h.1;omega,by have:=h.2.1;omega,h.2.2.1,fun e he=>by have:=h.2.2.2 e he;exact⟨this.1,by omega⟩⟩
theorem zqd {b:Str}{q q':Nat}{l l':List Fu} (hm:MutF b q l l' q') (hl:l.length<=5) (hg:∀f∈l,∃m,m<=9/\GoodF m f):l'.length<=5/\∀f∈l',GoodU f:=by
 have hu:∀f∈l,GoodU f:=fun f hf=>by obtain⟨m,h1,h2⟩:=hg f hf;exact h2.u h1
 have hset:∀f g,GoodU g->∀x∈l.set f g,GoodU x:=fun f g h x hx=>by
  rcases List.mem_or_eq_of_mem_set hx with h1|h1
  ·exact hu x h1
  ·rw[h1];exact h
 rcases hm with ⟨_,rfl,_⟩|⟨h0,f,hf,hfl,hc⟩
 ·exact⟨by simp,by simp⟩
 have hnf:nth l f∈l:=zaj hfl;obtain⟨m,hm9,g1,g2,g3,g4⟩:=hg _ hnf;have gu:=hu _ hnf;rcases hc with ⟨_,rfl,_⟩|⟨_,rfl,_⟩|⟨_,y,r,n,v1,q1,v2,hbo,a1,a2,a3,rfl⟩|⟨_,_,rfl,_⟩|⟨_,rfl,_⟩|⟨_,rfl,_⟩|⟨_,_,rfl,_⟩|⟨_,_,rfl,_⟩|⟨_,rfl,_⟩
 ·exact⟨by simpa using hl,hset _ _ gu⟩
 ·refine⟨by simpa using hl,hset _ _ ⟨gu.1, ?_,gu.2.2.1,fun e he=>?_⟩⟩
  ·show((nth l f).bodies++[zEx]).length<=10
   rw[xaa];simp;omega
  ·rcases List.mem_append.1 (show e∈(nth l f).bodies++[zEx] from he) with h|h
   ·exact gu.2.2.2 e h
   ·simp only[List.mem_singleton] at h;subst h;exact⟨⟨by simp,trivial⟩,by decide⟩
 ·refine⟨by simpa using hl,hset _ _ ⟨gu.1, ?_,gu.2.2.1,fun e he=>?_⟩⟩
  ·show(v2::r).length<=10
   have:=gu.2.1;rw[hbo] at this;simpa using this
  ·rcases List.mem_cons.1 (show e∈v2::r from he) with h|h
   ·subst h;have b1:=zcS a1;have b2:=zcS a2;have b3:=(g4 y (by rw[hbo];simp)).2;have:e.size<=20000000:=by omega
    exact⟨Ex.ok_sz _ (by omega),this⟩
   ·exact gu.2.2.2 e (by rw[hbo];simp[h])
 ·exact⟨hl,hu⟩
 ·exact⟨by rw[List.length_take];omega,fun x hx=>hu x (List.mem_of_mem_take hx)⟩
 ·refine⟨by simp;omega,fun x hx=>?_⟩;rcases List.mem_append.1 hx with h|h
  ·exact hu x h
  ·rw[List.eq_of_mem_replicate h];exact hu _ (zaj (by omega))
 ·refine⟨by simpa using hl,hset _ _ ⟨?_, ?_,fun c hc=>gu.2.2.1 c (List.mem_of_mem_drop hc),fun e he=>gu.2.2.2 e (List.mem_of_mem_drop he)⟩⟩
  ·show((nth l f).cls.drop 1).length<=9
   rw[List.length_drop];have:=gu.1;omega
  ·show((nth l f).bodies.drop 1).length<=10
   rw[List.length_drop];have:=gu.2.1;omega
 ·exact⟨hl,hu⟩
 ·exact⟨hl,hu⟩
theorem zqV {l:List Fu} (hl:l.length<=5) (h:∀f∈l,GoodU f):FusOk l/\FusSz l:=by
 have hex:∀(es:List Ex),(∀e∈es,e.ok)->Exs.ok es:=by
  intro es;induction es with
  |nil=>intro _;trivial
  |cons x r ih=>intro q;exact⟨q x (by simp),ih (fun e he=>q e (by simp[he]))⟩
 refine⟨⟨by omega,fun f hf=>?_⟩,fun f hf=>?_⟩
 ·obtain⟨g1,g2,g3,g4⟩:=h f hf;exact⟨⟨by omega,fun c hc=>(g3 c hc).1⟩,by omega,hex _ (fun e he=>(g4 e he).1)⟩
 ·obtain⟨g1,g2,g3,g4⟩:=h f hf;exact⟨fun c hc=>by have:=(g3 c hc).2;omega,fun e he=>by have:=(g4 e he).2;omega⟩
end Go.Proofs.YtmchfdpleibpdaaGreat
