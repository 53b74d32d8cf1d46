/-
  THE ABSTRACT WALK AND THE WALKS, part 3 of 7: the parts Wv, G1, F20, F21, F24, F25, F13, G2, F22, F26, F23, F27, F28, F29, F40, F14, F16, F42, Val, F7, F8, Wu, F9, F10, F11, F17.
-/
import Derived.Test.YtflgpdjbgfkhoaaGreatR2
namespace Go.Proofs.YtflgpdjbgfkhoaaGreat
open Go
set_option linter.unusedSimpArgs false
set_option linter.unusedVariables false
def zdj (w:List Data):List Str:=w.flatMap fun d=>d.ctors.map (·.name)
structure WV (w:List Data):Prop where
 len:w.length≤4
 data:∀d∈w,zaz d.name=true∧1≤d.ctors.length∧d.ctors.length≤4
 ctor:∀d∈w,∀c∈d.ctors,za1 w.length c=true
 names:(w.map (·.name)).Nodup
 cnames:(zdj w).Nodup
theorem zg1 (n:Nat):∀(l:List Ctor) (met met':List Str),zbw n met l=some met'↔met'=met++l.map (·.name)∧(∀c∈l,za1 n c=true)∧(l.map (·.name)).Nodup∧∀c∈l,c.name∉met
 | [],met,met'=>by
  unfold zbw
  simp only[Option.some.injEq,List.map_nil,List.append_nil]
  exact⟨fun h=>⟨h.symm,by simp,by simp,by simp⟩,fun h=>h.1.symm⟩
 |c::r,met,met'=>by
  unfold zbw
  by_cases h:(za1 n c&& !decide (c.name∈met))=true
  ·rw[if_pos h,zg1 n r]
   simp only[Bool.and_eq_true,Bool.not_eq_true',decide_eq_false_iff_not] at h
   obtain⟨h1,h2⟩:=h
   constructor
   ·rintro ⟨rfl,q1,q2,q3⟩
    refine⟨by simp,fun x hx=>?_, ?_,fun x hx=>?_⟩
    ·rcases List.mem_cons.1 hx with rfl|hx
     ·exact h1
     ·exact q1 x hx
    ·simp only[List.map_cons,List.nodup_cons]
     refine⟨fun hm=>?_,q2⟩
     obtain⟨x,hx,he⟩:=List.mem_map.1 hm
     exact q3 x hx (by rw[he];simp)
    ·rcases List.mem_cons.1 hx with rfl|hx
     ·exact h2
     ·intro hm;exact q3 x hx (by simp[hm])
   ·rintro ⟨rfl,q1,q2,q3⟩
    simp only[List.map_cons,List.nodup_cons] at q2
    refine⟨by simp,fun x hx=>q1 x (List.mem_cons_of_mem _ hx),q2.2,fun x hx hm=>?_⟩
    simp only[List.mem_append,List.mem_singleton] at hm
    rcases hm with hm|hm
    ·exact q3 x (List.mem_cons_of_mem _ hx) hm
    ·exact q2.1 (hm ▸ List.mem_map.2 ⟨x,hx,rfl⟩)
  ·rw[if_neg h]
   constructor
   ·intro h';cases h'
   ·rintro ⟨_,q1,_,q3⟩
    exfalso;apply h
    simp[q1 c (by simp),q3 c (by simp)]
theorem zg2 (n:Nat):∀(l:List Data) (met datas:List Str),zaC n met datas l=true↔
  (∀d∈l,zaz d.name=true∧1≤d.ctors.length∧d.ctors.length≤4)∧(∀d∈l,∀c∈d.ctors,za1 n c=true)∧(l.map (·.name)).Nodup∧(∀d∈l,d.name∉datas)∧
   (zdj l).Nodup∧∀s∈zdj l,s∉met
 | [],met,datas=>by simp[zaC,zdj]
 |d::r,met,datas=>by
  have hcn:zdj (d::r)=d.ctors.map (·.name)++zdj r:=rfl
  have hw:zaf d.ctors.length 1 4=true↔1≤d.ctors.length∧d.ctors.length≤4:=by simp[zaf];omega
  unfold zaC
  simp only[Bool.and_eq_true,Bool.not_eq_true',decide_eq_false_iff_not,hw]
  constructor
  ·rintro ⟨⟨⟨h1,h2⟩,h3⟩,h4⟩
   split at h4
   ·rename_i met' hm
    obtain⟨rfl,c1,c2,c3⟩:=(zg1 n _ _ _).1 hm
    obtain⟨q1,q2,q3,q4,q5,q6⟩:=(zg2 n r _ _).1 h4
    refine⟨fun x hx=>?_,fun x hx=>?_, ?_,fun x hx=>?_, ?_,fun s hs=>?_⟩
    ·rcases List.mem_cons.1 hx with rfl|hx
     ·exact⟨h1,h3⟩
     ·exact q1 x hx
    ·rcases List.mem_cons.1 hx with rfl|hx
     ·exact c1
     ·exact q2 x hx
    ·simp only[List.map_cons,List.nodup_cons]
     refine⟨fun hm=>?_,q3⟩
     obtain⟨x,hx,he⟩:=List.mem_map.1 hm
     exact q4 x hx (by rw[he];simp)
    ·rcases List.mem_cons.1 hx with rfl|hx
     ·exact h2
     ·intro hm;exact q4 x hx (by simp[hm])
    ·rw[hcn,List.nodup_append]
     refine⟨c2,q5,fun a ha b hb he=>?_⟩
     subst he
     exact q6 a hb (by simp only[List.mem_append];exact .inr ha)
    ·rw[hcn] at hs
     rcases List.mem_append.1 hs with hs|hs
     ·obtain⟨c,hc,rfl⟩:=List.mem_map.1 hs
      exact c3 c hc
     ·intro hm;exact q6 s hs (by simp[hm])
   ·cases h4
  ·rintro ⟨q1,q2,q3,q4,q5,q6⟩
   rw[hcn] at q5 q6
   rw[List.nodup_append] at q5
   simp only[List.map_cons,List.nodup_cons] at q3
   have hd:=q1 d (by simp)
   have hm:zbw n met d.ctors=some (met++d.ctors.map (·.name)):=(zg1 n _ _ _).2 ⟨rfl,q2 d (by simp),q5.1,fun c hc=>q6 _ (List.mem_append.2 (.inl (List.mem_map.2 ⟨c,hc,rfl⟩)))⟩
   refine⟨⟨⟨hd.1,q4 d (by simp)⟩,hd.2⟩, ?_⟩
   rw[hm]
   refine(zg2 n r _ _).2 ⟨fun x hx=>q1 x (List.mem_cons_of_mem _ hx),fun x hx=>q2 x (List.mem_cons_of_mem _ hx),q3.2,fun x hx hmem=>?_,q5.2.1,fun s hs hmem=>?_⟩
   ·simp only[List.mem_append,List.mem_singleton] at hmem
    rcases hmem with hmem|hmem
    ·exact q4 x (List.mem_cons_of_mem _ hx) hmem
    ·exact q3.1 (hmem ▸ List.mem_map.2 ⟨x,hx,rfl⟩)
   ·rcases List.mem_append.1 hmem with hmem|hmem
    ·exact q6 s (List.mem_append.2 (.inr hs)) hmem
    ·exact q5.2.2 s hmem s hs rfl
theorem zcI (w:List Data):zaA w=true↔WV w:=by
 unfold zaA
 rw[Bool.and_eq_true,zg2]
 constructor
 ·rintro ⟨h1,q1,q2,q3,_,q5,_⟩
  exact⟨by have:=of_decide_eq_true h1;omega,q1,q2,q3,q5⟩
 ·rintro ⟨h1,q1,q2,q3,q5⟩
  exact⟨decide_eq_true (by omega),q1,q2,q3,by simp,q5,by simp⟩
theorem zmF {l:List Str}:l.Nodup↔∀i j,i<j→j<l.length→nth l i≠nth l j:=by
 unfold List.Nodup
 rw[List.pairwise_iff_getElem]
 constructor
 ·intro h i j hij hj
  have:=h i j (by omega) hj hij
  simpa [nth,List.getD,hj,(by omega:i<l.length)] using this
 ·intro h i j hi hj hij
  have:=h i j hij hj
  simpa [nth,List.getD,hj,hi] using this
theorem za5 {α:Type} [Inhabited α]{l:List α}{i:Nat} (h:i<l.length):nth l i=l[i]:=by simp[nth,List.getD,h]
theorem zkG (w:List Data):(zdj w).Nodup↔(∀d,d<w.length→∀j k,j<k→k<(nth w d).ctors.length→(nth (nth w d).ctors j).name≠(nth (nth w d).ctors k).name)∧
  ∀i d,i<d→d<w.length→∀j k,j<(nth w i).ctors.length→k<(nth w d).ctors.length→(nth (nth w i).ctors j).name≠(nth (nth w d).ctors k).name:=by
 unfold zdj List.Nodup
 rw[List.pairwise_flatMap]
 constructor
 ·rintro ⟨h1,h2⟩
  refine⟨fun d hd j k hjk hk=>?_,fun i d hid hd j k hj hk=>?_⟩
  ·have:=h1 (nth w d) (zai hd)
   rw[List.pairwise_iff_getElem] at this
   have:=this j k (by simp;omega) (by simpa using hk) hjk
   simpa [za5 hk,za5 (show j<(nth w d).ctors.length by omega)] using this
  ·rw[List.pairwise_iff_getElem] at h2
   have:=h2 i d (by omega) hd hid
   rw[←za5 hd,←za5 (show i<w.length by omega)] at this
   exact this _ (List.mem_map.2 ⟨_,zai hj,rfl⟩) _ (List.mem_map.2 ⟨_,zai hk,rfl⟩)
 ·rintro ⟨h1,h2⟩
  refine⟨fun x hx=>?_, ?_⟩
  ·obtain⟨d,hd,rfl⟩:=List.getElem_of_mem hx
   rw[List.pairwise_iff_getElem]
   intro j k hj hk hjk
   have hk':k<(nth w d).ctors.length:=by rw[za5 hd];simpa using hk
   have:=h1 d hd j k hjk hk'
   rw[za5 hk',za5 (show j<(nth w d).ctors.length by omega)] at this
   simp only[za5 hd] at this
   simpa using this
  ·rw[List.pairwise_iff_getElem]
   intro i d hi hd hid x hx y hy
   obtain⟨a,ha,rfl⟩:=List.mem_map.1 hx
   obtain⟨b,hb,rfl⟩:=List.mem_map.1 hy
   obtain⟨j,hj,rfl⟩:=List.getElem_of_mem ha
   obtain⟨k,hk,rfl⟩:=List.getElem_of_mem hb
   have hj':j<(nth w i).ctors.length:=by rw[za5 hi];exact hj
   have hk':k<(nth w d).ctors.length:=by rw[za5 hd];exact hk
   have:=h2 i d hid hd j k hj' hk'
   rw[za5 hj',za5 hk'] at this
   simpa only[za5 hi,za5 hd] using this
theorem zmi (w:List Data):(w.map (·.name)).Nodup↔∀i d,i<d→d<w.length→(nth w i).name≠(nth w d).name:=by
 rw[zmF]
 have e:∀i,i<w.length→nth (w.map (·.name)) i=(nth w i).name:=fun i hi=>by simp[nth,List.getD,hi]
 constructor
 ·intro h i d hid hd
  have:=h i d hid (by simpa using hd)
  rwa [e i (by omega),e d hd] at this
 ·intro h i d hid hd
  have hd':d<w.length:=by simpa using hd
  rw[e i (by omega),e d hd']
  exact h i d hid hd'
theorem zmw (w:List Data) (d k:Nat):zlr w d k=false↔(∀i,i<d→(nth w i).name≠(nth w d).name)∧
  ∀i j,i≤d→j<(nth w i).ctors.length→(i<d∨j<k)→k<(nth w d).ctors.length→(nth (nth w i).ctors j).name≠(nth (nth w d).ctors k).name:=by
 unfold zlr
 rw[List.any_eq_false]
 constructor
 ·intro h
  refine⟨fun i hi he=>?_,fun i j hi hj hij hk he=>?_⟩
  ·apply h i (List.mem_range.2 (by omega))
   unfold zc2;simp[hi,he]
  ·apply h i (List.mem_range.2 (by omega))
   unfold zc2
   rw[zcF hj (by unfold zbz;simp[hk,he];omega)]
   simp
 ·rintro ⟨h1,h2⟩ i hi
  have hi':=List.mem_range.1 hi
  unfold zc2
  simp only[Bool.or_eq_true,Bool.and_eq_true,decide_eq_true_eq,not_or,not_and]
  refine⟨fun hid=>h1 i hid, ?_⟩
  rw[zeO (fun j hj=>?_)]
  ·simp
  ·unfold zbz
   cases hc:((decide (i<d)||decide (j<k))&&(decide (k<(nth w d).ctors.length)&&decide ((nth (nth w i).ctors j).name=(nth (nth w d).ctors k).name))) with
   |false=>rfl
   |true=>
    simp only[Bool.and_eq_true,Bool.or_eq_true,decide_eq_true_eq] at hc
    exact absurd hc.2.2 (h2 i j (by omega) hj hc.1 hc.2.1)
theorem zi5 (w:List Data):zbb w=true↔WV w:=by
 unfold zbb
 rw[Bool.and_eq_true,decide_eq_true_eq,List.all_eq_true]
 have hs:∀d,zcc w d=true↔zaz (nth w d).name=true∧1≤(nth w d).ctors.length∧(nth w d).ctors.length≤4∧∀k,k<(nth w d).ctors.length→za1 w.length (nth (nth w d).ctors k)=true∧zlr w d k=false:=fun d=>by
  unfold zcc
  simp only[Bool.and_eq_true,decide_eq_true_eq,List.all_eq_true,List.mem_range,zd1,Bool.not_eq_true']
 constructor
 ·rintro ⟨h1,h2⟩
  have h3:∀d,d<w.length→_:=fun d hd=>(hs d).1 (h2 d (List.mem_range.2 hd))
  have h4:∀d,d<w.length→∀k,k<(nth w d).ctors.length→_:=fun d hd k hk=>(zmw w d k).1 ((h3 d hd).2.2.2 k hk).2
  refine⟨h1,fun d hd=>?_,fun d hd c hc=>?_,(zmi w).2 (fun i d hid hd=>?_),(zkG w).2 ⟨fun d hd j k hjk hk=>?_,fun i d hid hd j k hj hk=>?_⟩⟩
  ·obtain⟨i,hi,rfl⟩:=List.getElem_of_mem hd
   have:=h3 i hi
   rw[za5 hi] at this
   exact⟨this.1,this.2.1,this.2.2.1⟩
  ·obtain⟨i,hi,rfl⟩:=List.getElem_of_mem hd
   obtain⟨k,hk,rfl⟩:=List.getElem_of_mem hc
   have hk':k<(nth w i).ctors.length:=by rw[za5 hi];exact hk
   have:=((h3 i hi).2.2.2 k hk').1
   rw[za5 hk'] at this
   simpa only[za5 hi] using this
  ·exact(h4 d hd 0 (by have:=(h3 d hd).2.1;omega)).1 i hid
  ·exact(h4 d hd k hk).2 d j (Nat.le_refl _) (by omega) (.inr hjk) hk
  ·exact(h4 d hd k hk).2 i j (by omega) hj (.inl hid) hk
 ·intro h
  refine⟨h.len,fun d hd=>?_⟩
  have hd':=List.mem_range.1 hd
  have hm:=zai hd'
  have hn:=(zmi w).1 h.names
  have hc:=(zkG w).1 h.cnames
  refine(hs d).2 ⟨(h.data _ hm).1,(h.data _ hm).2.1,(h.data _ hm).2.2,fun k hk=>⟨h.ctor _ hm _ (zai hk),(zmw w d k).2 ⟨fun i hi=>hn i d hi hd',fun i j hi hj hij hk'=>?_⟩⟩⟩
  by_cases hid:i<d
  ·exact hc.2 i d hid hd' j k hj hk'
  ·have:i=d:=by omega
   subst this
   exact hc.1 i hd' j k (by omega) hk'
theorem zfR (w:List Data):zbb w=zaA w:=by
 rw[Bool.eq_iff_iff,zi5,zcI]
theorem zp3 {n:Nat}{t:Ty} (h:zbg n t=true):TyIn n t:=by
 unfold zbg at h
 simp only[Bool.or_eq_true,Bool.and_eq_true,decide_eq_true_eq,zaf] at h
 rcases h with h|h
 ·exact .inl h.1
 ·exact .inr ⟨t.data.toNat,by omega,by omega⟩
theorem zpT {n:Nat}{t:Ty} (h:zci n t=true):TyIn n t:=by
 unfold zci at h
 simp only[Bool.or_eq_true,Bool.and_eq_true,decide_eq_true_eq,zaf] at h
 rcases h with h|h
 ·exact .inl h.1
 ·exact .inr ⟨t.data.toNat,by omega,by omega⟩
theorem WV.wt {w:List Data} (hs:WSmall w) (h:WV w):WT w:=⟨hs,fun d hd c hc t ht=>by
 have:=h.ctor d hd c hc
 unfold za1 at this
 simp only[Bool.and_eq_true,Bool.not_eq_true',List.any_eq_false,Bool.not_eq_true,Bool.not_eq_false] at this
 exact zp3 (by have:=this.2.2.2 t ht;simpa using this)⟩
theorem zrp (w:List Data) (t:Ty):(zbb w&&(zbg w.length t&&decide (0≤t.index)))=zbl w t:=by
 rw[zfR]
 unfold zbl
 congr 1
 rw[Bool.eq_iff_iff]
 unfold zbg zci zaf
 simp
 omega
end Go.Proofs.YtflgpdjbgfkhoaaGreat
namespace Go.Proofs.YtflgpdjbgfkhoaaGreat
open Go
set_option linter.unusedSimpArgs false
set_option linter.unusedVariables false
set_option maxRecDepth 100000
set_option maxHeartbeats 2000000
theorem zaT {α:Type} [Inhabited α]{l:List α}{i:Nat} (h:i<l.length):l.drop i=nth l i::l.drop (i+1):=by
 rw[za5 h];exact List.drop_eq_getElem_cons h
def all2 {α β:Type} (f:α→β→Bool):List α→List β→Bool
 | [],[]=>true
 |a::r,b::s=>f a b&&all2 f r s
 |_,_=>false
theorem zdl {α β:Type}{f:α→β→Bool}:∀ {a:List α}{b:List β},a.length≠b.length→all2 f a b=false
 | [],[],h=>by simp at h
 | [],_::_,_=>rfl
 |_::_,[],_=>rfl
 |x::r,y::s,h=>by simp[all2,zdl (a:=r) (b:=s) (by simpa using h)]
theorem zbT {α β:Type} [Inhabited α] [Inhabited β]{f:α→β→Bool}{a:List α}{b:List β}{i:Nat} (h:i<a.length) (hl:a.length=b.length) (h2:f (nth a i) (nth b i)=false):all2 f a b=false:=by
 induction i generalizing a b with
 |zero=>
  cases a with
  |nil=>simp at h
  |cons x r=>
   cases b with
   |nil=>simp[all2]
   |cons y s=>simp[nth] at h2;simp[all2,h2]
 |succ i ih=>
  cases a with
  |nil=>simp at h
  |cons x r=>
   cases b with
   |nil=>simp[all2]
   |cons y s=>simp only[all2];rw[ih (a:=r) (b:=s) (by simpa using h) (by simpa using hl) (by simpa [nth] using h2)];simp
theorem zcm {α β:Type} [Inhabited α] [Inhabited β]{f:α→β→Bool}{a:List α}{b:List β} (hl:a.length=b.length) (h:∀i,i<a.length→f (nth a i) (nth b i)=true):all2 f a b=true:=by
 induction a generalizing b with
 |nil=>cases b with
  |nil=>simp[all2]
  |cons y s=>simp at hl
 |cons x r ih=>cases b with
  |nil=>simp at hl
  |cons y s=>
   have h0:=h 0 (by simp)
   simp only[all2]
   rw[ih (by simpa using hl) (fun i hi=>by simpa [nth] using h (i+1) (by simpa using hi))]
   simpa [nth] using h0
def idxI (l:List Int) (v:Int):Int:=idxF (fun x=>decide (v=x)) l 0
theorem zii {l:List Int}{v:Int} (h:l.length≤1000000000000):FnD Tryz.prog 86 [.d (zcG l),.d (.i v)] [] (.d (.i (idxI l v))) []:=by
 refine bd Tryz.f86 19 [] [] fun w0 F0 own kept hk=>?_
 refine CWp.loopX (ι:=List (Int)×List (Int)) hk (fun x=>[(8,.d (.i (x.1.length:Int)))]) [4,5,9,10,11,12,13,14,15,16,17,18] (fun x=>[]) (fun x=>x.1++x.2=l∧idxF (fun x=>decide (v=x)) x.2 x.1.length=idxF (fun x=>decide (v=x)) l 0) (fun x=>x.2.length) ([],l) ⟨by simp,rfl⟩ ⟨⟨_,rfl,(LeA.eqi (by first|rfl|(simp;done)|(simp_all;done)|omega))⟩,trivial⟩ trivial (fun x=>rfl) (fun x hg1=>?_)
 obtain⟨pre,rest⟩:=x
 dsimp only at hg1 ⊢
 refine evc [] [] ?_
 refine sq (fun h1 h1p h1s=>?_) fun h1 h1p h1s=>?_
 ·try simp only[Q] at h1p
  rcases rest with _|⟨y,rest⟩
  ·exfalso;simp_all
  refine Walk.idx sl75 .none rfl rfl rfl rfl (zaL hg1.1) rfl ?_
  refine ev ?_
  refine sq (fun h2 h2p h2s=>?_) fun h2 h2p h2s=>?_
  ·try simp only[Q] at h2p
   refine rn0 (r1 rfl) (.eqd ?_)
   all_goals (unfold idxI;rw[←hg1.2];simp[idxF,h1s,h1p,h2s,h2p])
  ·try simp only[Q] at h2p
   refine ar ?_
   refine Exists.intro ((pre++[y],rest)) ⟨⟨(by have hz:=hg1.1;rw[←hz];simp),(by rw[←hg1.2];simp[idxF,h2p])⟩,(by simp),Sub.x (by kernel_rfl) (by kernel_rfl) ⟨⟨_,rfl,(LeA.eqi (by first|rfl|(simp;done)|(simp_all;done)|omega))⟩,trivial⟩ (by kernel_rfl) (by kernel_rfl) trivial⟩
 ·try simp only[Q] at h1p
  have hrest:rest=[]:=by
   rcases rest with _|⟨a,b⟩
   ·rfl
   ·exfalso;have hz:=congrArg List.length (hg1.1);simp only[List.length_append,List.length_cons,List.length_map] at hz;omega
  subst hrest
  refine rn0 (r1 rfl) (.eqd ?_)
  all_goals (unfold idxI;rw[←hg1.2];simp[idxF,h1s,h1p])
theorem zbQ {l:List Int}{v:Int} (h:l.length≤1000000000000):FnD Tryz.prog 63 [.d (zcG l),.d (.i v)] [] (.d (.bool (decide (v∈l)))) []:=by
 refine bd Tryz.f63 9 [] [] fun w0 F0 own kept hk=>?_
 refine Walk.call (cr:=[]) zsM (zii h) rfl .none rfl rfl (LeL.refl _) trivial rfl rfl rfl ?_
 refine ev ?_
 refine rn0 (r1 rfl) (.eqd ?_)
 all_goals (refine congrArg D.bool ?_;rw[show idxI l v=idxF (fun x=>decide (v=x)) l 0 from rfl,zfj];simp[List.any_eq,eq_comm])
theorem zcP {l:List Int}{v:Int} (h:l.length≤1000000000000):FnD Tryz.prog 71 [.d (zcG l),.d (.i v)] [] (.d (.bool (decide (v∈l)))) []:=by
 refine bd Tryz.f71 18 [] [] fun w0 F0 own kept hk=>?_
 refine CWp.loopX (ι:=List (Int)×List (Int)) hk (fun x=>[(5,.d (.i (x.1.length:Int)))]) [4,6,7,8,9,10,11,12,13,14,15,16,17] (fun x=>[]) (fun x=>x.1++x.2=l∧v∉x.1) (fun x=>x.2.length) ([],l) ⟨by simp,by simp⟩ ⟨⟨_,rfl,(LeA.eqi (by first|rfl|(simp;done)|(simp_all;done)|omega))⟩,trivial⟩ trivial (fun x=>rfl) (fun x hg1=>?_)
 obtain⟨pre,rest⟩:=x
 dsimp only at hg1 ⊢
 refine evc [] [] ?_
 refine sq (fun h1 h1p h1s=>?_) fun h1 h1p h1s=>?_
 ·try simp only[Q] at h1p
  rcases rest with _|⟨y,rest⟩
  ·exfalso;simp_all
  refine Walk.idx sl75 .none rfl rfl rfl rfl (zaL hg1.1) rfl ?_
  refine ev ?_
  refine sq (fun h2 h2p h2s=>?_) fun h2 h2p h2s=>?_
  ·try simp only[Q] at h2p
   refine rn0 (r1 rfl) (.eqd ?_)
   all_goals (refine congrArg D.bool ?_;first|(symm;rw[decide_eq_true_eq,←hg1.1];simp[h1s,h1p,h2s,h2p];done)|(symm;rw[decide_eq_false_iff_not,←hg1.1];intro hm;simp at hm;exact absurd hm (by simpa using hg1.2)))
  ·try simp only[Q] at h2p
   refine ar ?_
   refine Exists.intro ((pre++[y],rest)) ⟨⟨(by have hz:=hg1.1;rw[←hz];simp),(by have:=hg1.2;simp[this,eq_comm];omega)⟩,(by simp),Sub.x (by kernel_rfl) (by kernel_rfl) ⟨⟨_,rfl,(LeA.eqi (by first|rfl|(simp;done)|(simp_all;done)|omega))⟩,trivial⟩ (by kernel_rfl) (by kernel_rfl) trivial⟩
 ·try simp only[Q] at h1p
  have hrest:rest=[]:=by
   rcases rest with _|⟨a,b⟩
   ·rfl
   ·exfalso;have hz:=congrArg List.length (hg1.1);simp only[List.length_append,List.length_cons,List.length_map] at hz;omega
  subst hrest
  refine rn0 (r1 rfl) (.eqd ?_)
  all_goals (refine congrArg D.bool ?_;first|(symm;rw[decide_eq_true_eq,←hg1.1];simp[h1s,h1p];done)|(symm;rw[decide_eq_false_iff_not,←hg1.1];intro hm;simp at hm;exact absurd hm (by simpa using hg1.2)))
structure Vt where
 var:Int
 ty:Ty
 deriving DecidableEq,Inhabited
abbrev Vt.c (t:Vt):List D:=[.i t.var,.i t.ty.data,.i t.ty.index]
abbrev zcK (l:List Vt):D:= .sl (l.map Vt.c)
def zah (w:List Data) (t:Ty):List Int:=if t.data = -1 then [] else zaX w t
def zaa (w:List Data) (t:Ty) (p:Pat):List Ty:=if p.op=4 then zam w t p.ctor else if p.op=5 then [t,t] else if p.op=6 then [t] else []
def ownP (w:List Data) (t:Ty) (p:Pat):Bool:=decide (((p.op=2∨p.op=6)→0≤p.var∧p.var≤5)∧(¬(p.op=2∨p.op=6)→p.var=0)∧(p.op≠3→p.n=0∧p.m=0)∧(p.op≠4→p.ctor=0)∧
 (p.op=1∨p.op=2∨p.op=5∨p.op=6∨(p.op=3∧t.data = -1∧0≤p.n∧p.n≤p.m∧p.m≤9)∨(p.op=4∧p.ctor∈zah w t)))
def okP (w:List Data) (t:Ty) (p:Pat):Bool:=ownP w t p&&decide (p.kids.length=(zaa w t p).length)
def zdg (w:List Data) (t:Ty) (p:Pat):List Ty:=if p.op=4∧p.ctor∉zah w t then [] else zaa w t p
def zap (w:List Data):Nat→Ty→Pat→Bool
 |0,_,_=>false
 |n+1,t,p=>ownP w t p&&all2 (zap w n) (zaa w t p) p.kids
def zaD (t:Ty) (p:Pat):List Vt:=if p.op=2∨p.op=6 then [⟨p.var,t⟩] else []
def zaS (f:Ty→Pat→List Vt):List Ty→List Pat→List Vt
 |a::r,b::s=>f a b++zaS f r s
 |_,_=>[]
def zcr (w:List Data) (t:Ty) (p:Pat):List Ty:=if p.op=5 then (zaa w t p).take 1 else zaa w t p
def zar (w:List Data):Nat→Ty→Pat→List Vt
 |0,_,_=>[]
 |n+1,t,p=>zaD t p++zaS (zar w n) (zcr w t p) p.kids
def zbv (l:List Vt) (n:Int):Int:=idxF (fun v=>decide (v.var=n)) l 0
def zda (a b:List Vt):Bool:=a.all (fun v=>decide (0≤zbv b v.var∧(nth b (zbv b v.var).toNat).ty=v.ty))&&decide (a.length=b.length)
def zmN (l:List Vt):Bool:=(List.range l.length).all fun(i:Nat)=>decide (zbv l (nth l i).var=(i:Int))
def zdf (a b:List Vt):Bool:=decide (a.length=b.length)&& !a.any fun v=> !decide (v∈b)
def zb2 (l:List Vt):Bool:=decide (l.map Vt.var).Nodup
def linP (w:List Data):Nat→Ty→Pat→Bool
 |0,_,_=>true
 |n+1,t,p=>all2 (linP w n) (zaa w t p) p.kids&&(if p.op=5 then zda (zar w n t (nth p.kids 0)) (zar w n t (nth p.kids 1)) else zmN (zar w (n+1) t p))
theorem zeS (l:List Vt) (n:Int):(zbv l n = -1∧∀v∈l,v.var≠n)∨∃k:Nat,zbv l n=k∧k<l.length∧(nth l k).var=n∧∀j,j<k→(nth l j).var≠n:=by
 have key:∀(l:List Vt) (i:Nat),(idxF (fun v=>decide (v.var=n)) l i = -1∧∀v∈l,v.var≠n)∨∃k:Nat,idxF (fun v=>decide (v.var=n)) l i=((i+k:Nat):Int)∧k<l.length∧(nth l k).var=n∧∀j,j<k→(nth l j).var≠n:=by
  intro l
  induction l with
  |nil=>intro i;exact .inl ⟨rfl,by simp⟩
  |cons x r ih=>
   intro i
   unfold idxF
   by_cases h:x.var=n
   ·exact .inr ⟨0,by simp[h],by simp,by simpa [nth] using h,fun j hj=>absurd hj (by omega)⟩
   ·rcases ih (i+1) with ⟨h1,h2⟩|⟨k,h1,h2,h3,h4⟩
    ·exact .inl ⟨by simpa [h] using h1,fun v hv=>by rcases List.mem_cons.1 hv with rfl|hv;exact h;exact h2 v hv⟩
    ·refine .inr ⟨k+1, ?_,by simpa using h2,by simpa [nth] using h3,fun j hj=>?_⟩
     ·simp only[h,decide_false,Bool.false_eq_true,if_false];rw[h1];congr 1;omega
     ·cases j with
      |zero=>simpa [nth] using h
      |succ j=>simpa [nth] using h4 j (by omega)
 rcases key l 0 with h|⟨k,h1,h2⟩
 ·exact .inl h
 ·exact .inr ⟨k,by unfold zbv;simpa using h1,h2⟩
theorem nodup_iff {l:List Vt}:(l.map Vt.var).Nodup↔∀i j,i<j→j<l.length→(nth l i).var≠(nth l j).var:=by
 unfold List.Nodup
 rw[List.pairwise_iff_getElem]
 constructor
 ·intro h i j hij hj
  have:=h i j (by simp;omega) (by simpa using hj) hij
  simp only[List.getElem_map] at this
  rw[za5 (by omega),za5 hj];exact this
 ·intro h i j hi hj hij
  simp only[List.length_map] at hi hj
  simp only[List.getElem_map]
  rw[←za5 hi,←za5 hj];exact h i j hij hj
theorem ziO {l:List Vt} (h:(l.map Vt.var).Nodup){i j:Nat} (hi:i<l.length) (hj:j<l.length) (he:(nth l i).var=(nth l j).var):i=j:=by
 have h1:=nodup_iff.1 h
 rcases Nat.lt_trichotomy i j with h2|h2|h2
 ·exact absurd he (h1 i j h2 hj)
 ·exact h2
 ·exact absurd he.symm (h1 j i h2 hi)
theorem zm9 (l:List Vt):zmN l=zb2 l:=by
 unfold zb2
 by_cases h:(l.map Vt.var).Nodup
 ·rw[decide_eq_true h]
  refine zcE (fun i hi=>decide_eq_true ?_)
  rcases zeS l (nth l i).var with ⟨_,h2⟩|⟨k,h1,h2,h3,h4⟩
  ·exact absurd rfl (h2 _ (zai hi))
  ·rw[h1,ziO h h2 hi h3]
 ·rw[decide_eq_false h]
  cases hd:zmN l with
  |false=>rfl
  |true=>
   refine absurd ?_ h
   rw[nodup_iff]
   intro i j hij hj he
   have h1:=List.all_eq_true.1 hd i (List.mem_range.2 (by omega))
   have h2:=List.all_eq_true.1 hd j (List.mem_range.2 hj)
   simp only[decide_eq_true_eq] at h1 h2
   rw[he,h2] at h1
   omega
theorem zks {a b:List Vt} (hb:zb2 b=true):zda a b=zdf a b:=by
 unfold zb2 at hb
 simp only[decide_eq_true_eq] at hb
 unfold zda zdf
 rw[Bool.and_comm]
 congr 1
 rw[Bool.eq_iff_iff]
 simp only[List.all_eq_true,Bool.not_eq_true',List.any_eq_false,decide_eq_true_eq,Bool.not_eq_true,decide_eq_false_iff_not,Decidable.not_not]
 refine forall_congr' fun v=>forall_congr' fun hv=>?_
 rcases zeS b v.var with ⟨h1,h2⟩|⟨k,h1,h2,h3,h4⟩
 ·rw[h1]
  exact⟨fun h=>absurd h.1 (by omega),fun h=>absurd rfl (h2 v h)⟩
 ·rw[h1]
  simp only[Int.toNat_natCast]
  constructor
  ·rintro ⟨_,h⟩
   have:nth b k=v:=by
    have e:∀x y:Vt,x.var=y.var→x.ty=y.ty→x=y:=fun x y h1 h2=>by cases x;cases y;simp_all
    exact e _ _ h3 h
   rw[←this];exact zai h2
  ·intro h
   refine⟨by omega, ?_⟩
   obtain⟨j,hj,he⟩:=List.getElem_of_mem h
   have h5:nth b j=v:=by rw[za5 hj];exact he
   have:=ziO hb h2 hj (by rw[h3,h5])
   rw[this,h5]
def zba (g:Ty→Pat→Int→Option (List Vt)×Int) (or:Bool):List Ty→List Pat→Nat→List Vt→Int→Option (List Vt)×Int
 |a::r,b::s,i,acc,c=>match (g a b c).1 with
  |none=>(none,(g a b c).2)
  |some l=>if or=true∧i=1 then (if zdf acc l=true then zba g or r s (i+1) acc (g a b c).2 else (none,(g a b c).2)) else zba g or r s (i+1) (acc++l) (g a b c).2
 |_,_,_,acc,c=>(some acc,c)
def finV (r:Option (List Vt)×Int):Option (List Vt)×Int:=match r.1 with
 |none=>r
 |some l=>if zb2 l=true then r else (none,r.2)
def zaG (w:List Data):Nat→Ty→Pat→Int→Option (List Vt)×Int
 |0,_,_,c=>(none,c+1)
 |n+1,t,p,c=>if 60<c+1 then (none,c+1) else if okP w t p=true then finV (zba (zaG w n) (decide (p.op=5)) (zaa w t p) p.kids 0 (zaD t p) (c+1)) else (none,c+1)
def zbq (w:List Data) (n:Nat) (t:Ty) (p:Pat) (c:Int):Bool:=zap w n t p&&(decide (c+(p.size:Int)≤60)&&linP w n t p)
theorem zdW (w:List Data):∀(n:Nat) (t:Ty) (p:Pat),zap w n t p=true→linP w n t p=true→zb2 (zar w n t p)=true
 |0,t,p,h,_=>by simp[zap] at h
 |n+1,t,p,h,hl=>by
  by_cases h5:p.op=5
  ·simp only[zap,linP,Bool.and_eq_true,if_pos h5] at h hl
   have e1:zaa w t p=[t,t]:=by unfold zaa;rw[if_neg (by omega),if_pos h5]
   rw[e1] at h hl
   rcases hk:p.kids with _|⟨x,_|⟨y,_|⟨z,r⟩⟩⟩
   ·rw[hk] at h;simp[all2] at h
   ·rw[hk] at h;simp[all2] at h
   ·rw[hk] at h hl
    simp only[all2,Bool.and_eq_true,and_true] at h hl
    have:=zdW w n t x h.2.1 hl.1.1
    have e2:zar w (n+1) t p=zar w n t x:=by
     simp only[zar,zaD,zcr,e1,hk,if_pos h5]
     rw[if_neg (by omega)]
     simp[zaS]
    rw[e2];exact this
   ·rw[hk] at h;simp[all2] at h
  ·simp only[linP,if_neg h5,Bool.and_eq_true] at hl
   rw[←zm9];exact hl.2
theorem znD {w:List Data}{n:Nat} (ih:∀t p c,((zaG w n t p c).1=if zbq w n t p c=true then some (zar w n t p) else none)∧(zbq w n t p c=true→(zaG w n t p c).2=c+p.size)):
  ∀(a:List Ty) (b:List Pat) (i:Nat) (acc:List Vt) (c:Int),a.length=b.length→c≤60→
   ((zba (zaG w n) false a b i acc c).1=if (all2 (zap w n) a b&&(decide (c+(Pats.size b:Int)≤60)&&all2 (linP w n) a b))=true then some (acc++zaS (zar w n) a b) else none)∧
   ((all2 (zap w n) a b&&(decide (c+(Pats.size b:Int)≤60)&&all2 (linP w n) a b))=true→(zba (zaG w n) false a b i acc c).2=c+Pats.size b)
 | [],[],i,acc,c,_,hc=>by simp[zba,all2,Pats.size,zaS,hc]
 |x::r,y::s,i,acc,c,hl,hc=>by
  obtain⟨h1,h2⟩:=ih x y c
  have hps:Pats.size (y::s)=y.size+Pats.size s:=rfl
  simp only[zba,zaS]
  by_cases hw:zbq w n x y c=true
  ·have h3:=h2 hw
   rw[if_pos hw] at h1
   rw[h1]
   simp only[Bool.false_eq_true,false_and,if_false]
   have h4:=hw
   simp only[zbq,Bool.and_eq_true,decide_eq_true_eq] at h4
   obtain⟨h5,h6⟩:=znD ih r s (i+1) (acc++zar w n x y) (zaG w n x y c).2 (by simpa using hl) (by omega)
   have e:(all2 (zap w n) (x::r) (y::s)&&(decide (c+(Pats.size (y::s):Int)≤60)&&all2 (linP w n) (x::r) (y::s)))=(all2 (zap w n) r s&&(decide ((zaG w n x y c).2+(Pats.size s:Int)≤60)&&all2 (linP w n) r s)):=by
    rw[all2,all2,h4.1,h4.2.2,h3]
    simp only[Bool.true_and]
    congr 2
    exact decide_eq_decide.2 (by omega)
   rw[e]
   refine⟨?_,fun hx=>?_⟩
   ·rw[h5,List.append_assoc]
   ·rw[h6 hx,h3];omega
  ·rw[if_neg hw] at h1
   rw[h1]
   simp only
   have hf:¬(all2 (zap w n) (x::r) (y::s)&&(decide (c+(Pats.size (y::s):Int)≤60)&&all2 (linP w n) (x::r) (y::s)))=true:=fun h=>by
    simp only[all2,Bool.and_eq_true,decide_eq_true_eq] at h
    refine hw ?_
    simp only[zbq,Bool.and_eq_true,decide_eq_true_eq]
    refine⟨h.1.1, ?_,h.2.2.1⟩
    have:=h.2.1
    omega
   rw[if_neg hf]
   exact⟨rfl,fun h=>absurd h hf⟩
 | [],_::_,_,_,_,hl,_=>by simp at hl
 |_::_,[],_,_,_,hl,_=>by simp at hl
theorem zdZ (w:List Data):∀(n:Nat) (t:Ty) (p:Pat) (c:Int),((zaG w n t p c).1=if zbq w n t p c=true then some (zar w n t p) else none)∧(zbq w n t p c=true→(zaG w n t p c).2=c+p.size)
 |0,t,p,c=>by simp[zaG,zbq,zap]
 |n+1,t,p,c=>by
  have hsz:=Pat.size_eq p
  unfold zaG
  by_cases h1:60<c+1
  ·have hf:¬zbq w (n+1) t p c=true:=fun h=>by
    simp only[zbq,Bool.and_eq_true,decide_eq_true_eq] at h;omega
   rw[if_pos h1,if_neg hf]
   exact⟨rfl,fun h=>absurd h hf⟩
  rw[if_neg h1]
  by_cases h2:okP w t p=true
  ·rw[if_pos h2]
   have h2':=h2
   simp only[okP,Bool.and_eq_true,decide_eq_true_eq] at h2'
   by_cases h5:p.op=5
   ·have e1:zaa w t p=[t,t]:=by unfold zaa;rw[if_neg (by omega),if_pos h5]
    have e3:zaD t p=[]:=by unfold zaD;rw[if_neg (by omega)]
    rw[e1] at h2'
    rcases hk:p.kids with _|⟨x,_|⟨y,_|⟨z,r⟩⟩⟩
    ·rw[hk] at h2';simp at h2'
    ·rw[hk] at h2';simp at h2'
    ·have e4:zar w (n+1) t p=zar w n t x:=by
      simp only[zar,zcr,e1,hk,if_pos h5,e3]
      simp[zaS]
     have e5:zbq w (n+1) t p c=((zap w n t x&&zap w n t y)&&(decide (c+1+(x.size:Int)+y.size≤60)&&((linP w n t x&&linP w n t y)&&zda (zar w n t x) (zar w n t y)))):=by
      simp only[zbq,zap,linP,h2'.1,e1,hk,all2,if_pos h5,Bool.and_true,Bool.true_and,nth,List.getD_cons_zero,List.getD_cons_succ]
      congr 2
      refine decide_eq_decide.2 ?_
      rw[hsz,hk];simp only[Pats.size];push_cast;omega
     rw[e4,e5,e1,e3]
     obtain⟨a1,a2⟩:=zdZ w n t x (c+1)
     simp only[zba,h5,decide_true]
     by_cases w1:zbq w n t x (c+1)=true
     ·have a3:=a2 w1
      rw[if_pos w1] at a1
      have b1:=w1
      simp only[zbq,Bool.and_eq_true,decide_eq_true_eq] at b1
      obtain⟨d1,d2⟩:=zdZ w n t y (zaG w n t x (c+1)).2
      rw[a1]
      simp only[true_and,Nat.zero_ne_one,if_false,List.nil_append]
      by_cases w2:zbq w n t y (zaG w n t x (c+1)).2=true
      ·have d3:=d2 w2
       rw[if_pos w2] at d1
       have b2:=w2
       simp only[zbq,Bool.and_eq_true,decide_eq_true_eq] at b2
       rw[d1]
       simp only[Nat.zero_add,if_true]
       have n1:=zdW w n t x b1.1 b1.2.2
       have n2:=zdW w n t y b2.1 b2.2.2
       have e6:((zap w n t x&&zap w n t y)&&(decide (c+1+(x.size:Int)+y.size≤60)&&((linP w n t x&&linP w n t y)&&zda (zar w n t x) (zar w n t y))))=zdf (zar w n t x) (zar w n t y):=by
        rw[b1.1,b2.1,b1.2.2,b2.2.2,zks n2,decide_eq_true (by omega)];simp
       rw[e6]
       by_cases hs:zdf (zar w n t x) (zar w n t y)=true
       ·rw[if_pos hs,if_pos hs]
        simp only[finV,n1,if_true]
        refine⟨trivial,fun _=>?_⟩
        rw[d3,a3,hsz,hk];simp only[Pats.size];push_cast;omega
       ·rw[if_neg hs,if_neg hs]
        simp only[finV]
        exact⟨trivial,fun h=>absurd h hs⟩
      ·rw[if_neg w2] at d1
       rw[d1]
       simp only[finV]
       have hf:¬((zap w n t x&&zap w n t y)&&(decide (c+1+(x.size:Int)+y.size≤60)&&((linP w n t x&&linP w n t y)&&zda (zar w n t x) (zar w n t y))))=true:=fun h=>by
        simp only[Bool.and_eq_true,decide_eq_true_eq] at h
        refine w2 ?_
        simp only[zbq,Bool.and_eq_true,decide_eq_true_eq]
        exact⟨h.1.2,by omega,h.2.2.1.2⟩
       rw[if_neg hf]
       exact⟨rfl,fun h=>absurd h hf⟩
     ·rw[if_neg w1] at a1
      rw[a1]
      simp only[finV]
      have hf:¬((zap w n t x&&zap w n t y)&&(decide (c+1+(x.size:Int)+y.size≤60)&&((linP w n t x&&linP w n t y)&&zda (zar w n t x) (zar w n t y))))=true:=fun h=>by
       simp only[Bool.and_eq_true,decide_eq_true_eq] at h
       refine w1 ?_
       simp only[zbq,Bool.and_eq_true,decide_eq_true_eq]
       exact⟨h.1.1,by omega,h.2.2.1.1⟩
      rw[if_neg hf]
      exact⟨rfl,fun h=>absurd h hf⟩
    ·rw[hk] at h2';simp at h2'
   ·have e0:(decide (p.op=5))=false:=decide_eq_false h5
    rw[e0]
    obtain⟨a1,a2⟩:=znD (fun t p c=>zdZ w n t p c) (zaa w t p) p.kids 0 (zaD t p) (c+1) h2'.2.symm (by omega)
    have e4:zar w (n+1) t p=zaD t p++zaS (zar w n) (zaa w t p) p.kids:=by simp only[zar,zcr,if_neg h5]
    have e5:zbq w (n+1) t p c=((all2 (zap w n) (zaa w t p) p.kids&&(decide (c+1+(Pats.size p.kids:Int)≤60)&&all2 (linP w n) (zaa w t p) p.kids))&&zb2 (zar w (n+1) t p)):=by
     have:decide (c+(p.size:Int)≤60)=decide (c+1+(Pats.size p.kids:Int)≤60):=decide_eq_decide.2 (by omega)
     simp only[zbq,zap,linP,h2'.1,if_neg h5,Bool.true_and,zm9,this,Bool.and_assoc]
    rw[e5]
    by_cases hw:(all2 (zap w n) (zaa w t p) p.kids&&(decide (c+1+(Pats.size p.kids:Int)≤60)&&all2 (linP w n) (zaa w t p) p.kids))=true
    ·rw[if_pos hw,←e4] at a1
     have a3:=a2 hw
     rw[hw,Bool.true_and]
     unfold finV
     rw[a1]
     by_cases hn:zb2 (zar w (n+1) t p)=true
     ·simp only[hn,if_true]
      exact⟨a1,fun _=>by rw[a3];omega⟩
     ·simp only[hn,Bool.false_eq_true,if_false]
      exact⟨trivial,fun h=>absurd h (by simp)⟩
    ·rw[if_neg hw] at a1
     have hw':(all2 (zap w n) (zaa w t p) p.kids&&(decide (c+1+(Pats.size p.kids:Int)≤60)&&all2 (linP w n) (zaa w t p) p.kids))=false:=by simpa using hw
     rw[hw',Bool.false_and]
     unfold finV
     rw[a1]
     simp[a1]
  ·have hf:¬zbq w (n+1) t p c=true:=fun h=>by
    simp only[zbq,zap,Bool.and_eq_true,decide_eq_true_eq] at h
    refine h2 ?_
    simp only[okP,Bool.and_eq_true,decide_eq_true_eq]
    refine⟨h.1.1, ?_⟩
    by_cases hl:(zaa w t p).length=p.kids.length
    ·exact hl.symm
    ·have:=zdl (f:=zap w n) hl
     rw[this] at h;simp at h
   rw[if_neg h2,if_neg hf]
   exact⟨rfl,fun h=>absurd h hf⟩
mutual
def cntP (m:Int):Pat→Int
 | .mk _ _ _ _ _ ks=>zcR m 1 ks
def zcR (m n:Int):List Pat→Int
 | []=>n
 |k::r=>if n≤m then zcR m (n+cntP (m-n) k) r else n
end
theorem zq8 (m:Int) (v:Pat):cntP m v=zcR m 1 v.kids:=by cases v;rfl
theorem zhB {m n:Int}{l:List Pat} (h:¬n≤m):zcR m n l=n:=by cases l<;>simp[zcR,h]
mutual
theorem zgf:∀(v:Pat) (m:Int),1≤cntP m v∧cntP m v≤v.size
 | .mk _ _ _ _ _ ks,m=>by
  have:=zjX ks m 1 (by omega)
  simp only[cntP,Pat.size];push_cast;omega
theorem zjX:∀(l:List Pat) (m n:Int),1≤n→1≤zcR m n l∧zcR m n l≤n+Pats.size l
 | [],m,n,h=>by simp[zcR,Pats.size];omega
 |k::r,m,n,h=>by
  have h1:=zgf k (m-n)
  have h2:=zjX r m (n+cntP (m-n) k) (by omega)
  simp only[zcR,Pats.size]
  split
  ·push_cast;omega
  ·push_cast;omega
end
mutual
theorem zm4:∀(v:Pat) (m:Int),(cntP m v≤m↔(v.size:Int)≤m)∧(cntP m v≤m→cntP m v=v.size)
 | .mk _ _ _ _ _ ks,m=>by
  have:=zl3 ks m 1
  simp only[cntP,Pat.size];push_cast;exact this
theorem zl3:∀(l:List Pat) (m n:Int),(zcR m n l≤m↔n+(Pats.size l:Int)≤m)∧(zcR m n l≤m→zcR m n l=n+Pats.size l)
 | [],m,n=>by simp[zcR,Pats.size]
 |k::r,m,n=>by
  have h1:=zm4 k (m-n)
  have h2:=zl3 r m (n+cntP (m-n) k)
  have h3:=zjX r m (n+cntP (m-n) k)
  have h4:=zgf k (m-n)
  simp only[zcR,Pats.size]
  push_cast
  by_cases hn:n≤m
  ·rw[if_pos hn]
   by_cases h5:cntP (m-n) k≤m-n
   ·have h6:=h1.2 h5
    rw[h6] at h2 ⊢
    constructor
    ·rw[h2.1];constructor<;>intro h<;>omega
    ·intro h;rw[h2.2 h];omega
   ·have h7:¬(k.size:Int)≤m-n:=fun h=>h5 (h1.1.2 h)
    have h8:¬n+cntP (m-n) k≤m:=by omega
    rw[zhB h8]
    constructor
    ·constructor<;>intro h<;>omega
    ·intro h;omega
  ·rw[if_neg hn]
   constructor
   ·constructor<;>intro h<;>omega
   ·intro h;omega
end
theorem Pats.size_split {pre rest l:List Pat}{y:Pat} (h:pre++y::rest=l):Pats.size l=Pats.size pre+y.size+Pats.size rest:=by
 subst h
 induction pre with
 |nil=>simp[Pats.size]
 |cons x r ih=>simp only[List.cons_append,Pats.size,ih];omega
theorem za8 {l:List Pat}{i:Nat} (h:i<l.length):(nth l i).size≤Pats.size l:=Pats.size_mem (zai h)
theorem zbR {l:List Pat}{i:Nat} (h:i<l.length):Pats.size (l.drop i)=(nth l i).size+Pats.size (l.drop (i+1)):=by
 rw[zaT h];rfl
theorem ze7:∀(n:Nat){v:Pat}{m:Int},v.size≤n→v.size≤1000000000000→v.ok→0≤m→m≤1000000000000→FnD Tryz.prog 92 [.agg [.d (.i v.op),.d (.i v.ctor),.d (.i v.n),.d (.i v.m),.d (.i v.var),.d (zaH v.kids)],.d (.i m)] [] (.d (.i (cntP m v))) []
 |0,v,m,h,_,_,_,_=>by rw[Pat.size_eq] at h;omega
 |n+1,v,m,h,hb,hok,m0,m1=>by
  rw[Pat.size_eq] at h hb
  rw[Pat.ok_iff] at hok
  rw[zq8]
  refine bd Tryz.f92 31 [] [] fun w0 F0 own kept hk=>?_
  refine Walk.box (id:=3002) .none rfl rfl rfl rfl rfl rfl rfl ?_
  refine ev ?_
  refine CWp.loopX (ι:=Nat×Int) hk (fun x=>[(6,.d (.i (x.1:Int))),(5,.d (.i x.2))]) [7,8,9,10,11,12,13,14,15,16,17,18,19,20,21,22,23,24,25,26,27,28,29] (fun x=>[]) (fun x=>x.1≤v.kids.length∧zcR m x.2 (v.kids.drop x.1)=zcR m 1 v.kids∧1≤x.2∧x.2+Pats.size (v.kids.drop x.1)≤1+Pats.size v.kids) (fun x=>v.kids.length-x.1) (0,1) ⟨by simp,by simp,by simp,by simp⟩ ⟨⟨_,rfl,(LeA.eqi (by first|rfl|(simp;done)|(dsimp only;omega)))⟩,⟨⟨_,rfl,(LeA.eqi (by first|rfl|(simp;done)|(dsimp only;omega)))⟩,trivial⟩⟩ trivial (fun x=>rfl) (fun x hg1=>?_)
  refine evc [] [] ?_
  refine sq (fun h1 h1p h1s=>?_) fun h1 h1p h1s=>?_
  ·try simp only[Q,Pat.cs_len] at h1p
   refine sq (fun h2 h2p h2s=>?_) fun h2 h2p h2s=>?_
   ·try simp only[Q,Pat.cs_len] at h2p
    refine Walk.idx sl35 .none rfl rfl rfl rfl (zbm (by omega)) rfl ?_
    refine ev ?_
    refine ar ?_ (by first|(constructor<;>omega)|(have hz:=zgf (nth v.kids x.1) (m-x.2);have hs:=zbR (l:=v.kids) (i:=x.1) (by omega);constructor<;>omega)|(constructor<;>simp[Pat.cs_len]<;>omega))
    refine Walk.call (cr:=[]) zoB (ze7 n (v:=nth v.kids x.1) (by have:=za8 (l:=v.kids) (i:=x.1) (by omega);omega) (by have:=za8 (l:=v.kids) (i:=x.1) (by omega);omega) (Pats.ok_mem hok.2 _ (zai (by omega))) (by omega) (by omega)) rfl .none rfl rfl (LeL.refl _) trivial rfl rfl rfl ?_
    refine ev ?_
    refine ar ?_ (by first|(constructor<;>omega)|(have hz:=zgf (nth v.kids x.1) (m-x.2);have hs:=zbR (l:=v.kids) (i:=x.1) (by omega);constructor<;>omega)|(constructor<;>simp[Pat.cs_len]<;>omega))
    refine ar ?_ (by first|(constructor<;>omega)|(have hz:=zgf (nth v.kids x.1) (m-x.2);have hs:=zbR (l:=v.kids) (i:=x.1) (by omega);constructor<;>omega)|(constructor<;>simp[Pat.cs_len]<;>omega))
    refine Exists.intro ((x.1+1,x.2+cntP (m-x.2) (nth v.kids x.1))) ⟨(by
        have hz:=zgf (nth v.kids x.1) (m-x.2)
        have hs:=zbR (l:=v.kids) (i:=x.1) (by omega)
        refine⟨by dsimp only;omega, ?_,by dsimp only;omega,by dsimp only;omega⟩
        rw[←hg1.2.1,zaT (l:=v.kids) (i:=x.1) (by omega),zcR,if_pos (by omega)]),(by dsimp only;omega),Sub.x (by kernel_rfl) (by kernel_rfl) ⟨⟨_,rfl,(LeA.eqi (by first|rfl|(simp;done)|(dsimp only;omega)))⟩,⟨⟨_,rfl,(LeA.eqi (by first|rfl|(simp;done)|(dsimp only;omega)))⟩,trivial⟩⟩ (by kernel_rfl) (by kernel_rfl) trivial⟩
   ·try simp only[Q,Pat.cs_len] at h2p
    refine rn0 (r1 rfl) (.eqd ?_)
    all_goals (refine congrArg D.i ?_;rw[←hg1.2.1];first|(rw[List.drop_eq_nil_of_le (by omega)];rfl)|(rw[zhB (by omega)]))
  ·try simp only[Q,Pat.cs_len] at h1p
   refine sqF ?_
   refine rn0 (r1 rfl) (.eqd ?_)
   all_goals (refine congrArg D.i ?_;rw[←hg1.2.1];first|(rw[List.drop_eq_nil_of_le (by omega)];rfl)|(rw[zhB (by omega)]))
end Go.Proofs.YtflgpdjbgfkhoaaGreat
namespace Go.Proofs.YtflgpdjbgfkhoaaGreat
open Go
set_option linter.unusedSimpArgs false
set_option linter.unusedVariables false
set_option maxRecDepth 100000
set_option maxHeartbeats 4000000
theorem zgX {w:List Data}{d:Nat}{k:Int}:zah w ⟨d,k⟩=zaX w ⟨d,k⟩:=by unfold zah;rw[if_neg (by simp only;omega)]
theorem zf9 {w:List Data}{k:Int}:zah w ⟨-1,k⟩=[]:=by unfold zah;rw[if_pos rfl]
theorem zga {w:List Data} (hw:WT w){a k:Int} (ht:TyIn w.length ⟨a,k⟩):(zah w ⟨a,k⟩).length≤1000000000000:=by
 rcases ht with ha|⟨d,hd,hlt⟩
 ·simp only at ha;subst ha;rw[zf9];exact Nat.zero_le _
 ·simp only at hd;subst hd;rw[zgX];exact zg0 hw
theorem zcD {w:List Data}{a k c:Int} (ht:TyIn w.length ⟨a,k⟩) (h:c∈zah w ⟨a,k⟩):∃d:Nat,a=d∧d<w.length∧PlaceIn w d c:=by
 rcases ht with ha|⟨d,hd,hlt⟩
 ·simp only at ha;subst ha;rw[zf9] at h;simp at h
 ·simp only at hd;subst hd;rw[zgX] at h;exact⟨d,rfl,hlt,zds h⟩
theorem zfG {w:List Data} (hw:WT w){a k:Int}{p:Pat} (ht:TyIn w.length ⟨a,k⟩) (h:ownP w ⟨a,k⟩ p=true):∀t∈zaa w ⟨a,k⟩ p,TyIn w.length t:=by
 intro t hm
 unfold zaa at hm
 split at hm
 ·rename_i h4
  unfold ownP at h
  have h':=of_decide_eq_true h
  have hc:p.ctor∈zah w ⟨a,k⟩:=by
   rcases h'.2.2.2.2 with h|h|h|h|h|h
   ·omega
   ·omega
   ·omega
   ·omega
   ·omega
   ·exact h.2
  obtain⟨d,rfl,h1,h2⟩:=zcD ht hc
  exact zgD hw h1 h2 hm
 ·split at hm
  ·simp only[List.mem_cons,List.not_mem_nil,or_false] at hm
   rcases hm with rfl|rfl<;>exact ht
  ·split at hm
   ·simp only[List.mem_cons,List.not_mem_nil,or_false] at hm
    subst hm;exact ht
   ·simp at hm
theorem zf5 {w:List Data} (hw:WT w){a k:Int}{p:Pat} (ht:TyIn w.length ⟨a,k⟩) (h:p.op=4→p.ctor∈zah w ⟨a,k⟩):(zaa w ⟨a,k⟩ p).length≤1000000000000:=by
 unfold zaa
 split
 ·rename_i h4
  obtain⟨d,rfl,h1,h2⟩:=zcD ht (h h4)
  exact zeP hw h1 h2
 ·split
  ·simp
  ·split<;>simp
def zed (op:Int):Int:=if op=5 then 2 else if op=6 then 1 else if op=4 then -1 else 0
theorem zlW {op:Int}:FnD Tryz.prog 124 [.d (.i op)] [] (.d (.i (zed op))) []:=by
 refine bd Tryz.f124 10 [] [] fun w0 F0 own kept hk=>?_
 refine sq (fun h1 h1p h1s=>?_) fun h1 h1p h1s=>?_
 ·try simp only[Q] at h1p
  refine rn0 (r1 rfl) (.eqd ?_)
  all_goals (refine congrArg D.i ?_;simp only[zed];simp_all)
 ·try simp only[Q] at h1p
  refine sq (fun h2 h2p h2s=>?_) fun h2 h2p h2s=>?_
  ·try simp only[Q] at h2p
   refine rn0 (r1 rfl) (.eqd ?_)
   all_goals (refine congrArg D.i ?_;simp only[zed];simp_all)
  ·try simp only[Q] at h2p
   refine sq (fun h3 h3p h3s=>?_) fun h3 h3p h3s=>?_
   ·try simp only[Q] at h3p
    refine rn0 (r1 rfl) (.eqd ?_)
    all_goals (refine congrArg D.i ?_;simp only[zed];simp_all)
   ·try simp only[Q] at h3p
    refine rn0 (r1 rfl) (.eqd ?_)
    all_goals (refine congrArg D.i ?_;simp only[zed];simp_all)
theorem zce {w:List Data} (hw:WT w){a k:Int} (ht:TyIn w.length ⟨a,k⟩):FnD Tryz.prog 72 [.d (zag w),.agg [.d (.i a),.d (.i k)]] [] (.d (zcG (zah w ⟨a,k⟩))) []:=by
 rcases ht with ha|⟨d,hd,hlt⟩
 ·simp only at ha;subst ha;rw[zf9];exact zik
 ·simp only at hd;subst hd;rw[zgX];exact ze5 hw hlt
theorem zdA {w:List Data} (hw:WT w){a k c:Int} (ht:TyIn w.length ⟨a,k⟩) (hc:c∈zah w ⟨a,k⟩):FnD Tryz.prog 73 [.d (zag w),.agg [.d (.i a),.d (.i k)],.d (.i c)] [] (.d (zcf (zam w ⟨a,k⟩ c))) []:=by
 obtain⟨d,rfl,h1,h2⟩:=zcD ht hc
 exact zhp hw h1 h2
theorem zfM {w:List Data} (hw:WT w){a k:Int}{p:Pat} (ht:TyIn w.length ⟨a,k⟩):
  FnD Tryz.prog 122 [.d (zag w),.agg [.d (.i a),.d (.i k)],.agg [.d (.i p.op),.d (.i p.ctor),.d (.i p.n),.d (.i p.m),.d (.i p.var),.d (zaH p.kids)]] [] (.d (.bool (ownP w ⟨a,k⟩ p))) []:=by
 have hcl:=zga hw ht
 refine bd Tryz.f122 96 [] [1,2,4,13] fun w0 F0 own kept hk=>?_
 refine Walk.box (id:=3004) .none rfl rfl rfl rfl rfl rfl rfl ?_
 refine Walk.box (id:=3005) .none rfl rfl rfl rfl rfl rfl rfl ?_
 refine ev ?_
 refine CWp.regionJ ?_
 refine WRest.join 8 [(15,.d (.bool (decide (p.op=2∨p.op=6))))] [8,9,10,11,12,13,14] ?_ ?_
 ·
  refine ev ?_
  refine sq (fun h1 h1p h1s=>?_) fun h1 h1p h1s=>?_
  ·try simp only[Q] at h1p
   exact jnb rfl
  ·try simp only[Q] at h1p
   exact jnb rfl
 refine WRest.done ?_
 refine ev ?_
 refine CWp.regionJ ?_
 refine WRest.join 11 [(26,.d (.bool (decide ((p.op=2∨p.op=6)∧(p.var<0∨5<p.var)))))] [16,17,18,19,20,21,22,23,24,25] ?_ ?_
 ·
  refine ev ?_
  refine sq (fun h2 h2p h2s=>?_) fun h2 h2p h2s=>?_
  ·try simp only[Q] at h2p
   refine sq (fun h3 h3p h3s=>?_) fun h3 h3p h3s=>?_
   ·try simp only[Q] at h3p
    exact jnb rfl
   ·try simp only[Q] at h3p
    exact jnb rfl
  ·try simp only[Q] at h2p
   exact jnb rfl
 refine WRest.join 9 [(35,.d (.bool (decide ((p.op=2∨p.op=6)∧(p.var<0∨5<p.var)∨¬(p.op=2∨p.op=6)∧p.var≠0))))] [27,28,29,30,31,32,33,34] ?_ ?_
 ·
  refine ev ?_
  refine sq (fun h4 h4p h4s=>?_) fun h4 h4p h4s=>?_
  ·try simp only[Q] at h4p
   exact jnb rfl
  ·try simp only[Q] at h4p
   refine sq (fun h5 h5p h5s=>?_) fun h5 h5p h5s=>?_
   ·try simp only[Q] at h5p
    exact jnb rfl
   ·try simp only[Q] at h5p
    exact jnb rfl
 refine WRest.done ?_
 refine tv ?_
 refine sq (fun h6 h6p h6s=>?_) fun h6 h6p h6s=>?_
 ·try simp only[Q] at h6p
  refine rn0 (r1 rfl) (.eqd ?_)
  all_goals (refine congrArg D.bool ?_;unfold ownP;rw[Bool.eq_iff_iff];by_cases hmem:p.ctor∈zah w ⟨a,k⟩<;>(simp only[hmem,and_true,and_false,or_false,decide_eq_true_eq,Bool.and_eq_true,Bool.false_eq_true,true_iff,false_iff];simp only[decide_eq_true_eq,decide_eq_false_iff_not] at *;omega))
 ·try simp only[Q] at h6p
  refine CWp.regionJ ?_
  refine WRest.join 13 [(48,.d (.bool (decide (p.op≠3∧(p.n≠0∨p.m≠0)))))] [36,37,38,39,40,41,42,43,44,45,46,47] ?_ ?_
  ·
   refine ev ?_
   refine sq (fun h7 h7p h7s=>?_) fun h7 h7p h7s=>?_
   ·try simp only[Q] at h7p
    refine sq (fun h8 h8p h8s=>?_) fun h8 h8p h8s=>?_
    ·try simp only[Q] at h8p
     exact jnb rfl
    ·try simp only[Q] at h8p
     exact jnb rfl
   ·try simp only[Q] at h7p
    exact jnb rfl
  refine WRest.join 10 [(58,.d (.bool (decide (p.op≠3∧(p.n≠0∨p.m≠0)∨p.op≠4∧p.ctor≠0))))] [49,50,51,52,53,54,55,56,57] ?_ ?_
  ·
   refine ev ?_
   refine sq (fun h9 h9p h9s=>?_) fun h9 h9p h9s=>?_
   ·try simp only[Q] at h9p
    exact jnb rfl
   ·try simp only[Q] at h9p
    refine sq (fun h10 h10p h10s=>?_) fun h10 h10p h10s=>?_
    ·try simp only[Q] at h10p
     exact jnb rfl
    ·try simp only[Q] at h10p
     exact jnb rfl
  refine WRest.done ?_
  refine tv ?_
  refine sq (fun h11 h11p h11s=>?_) fun h11 h11p h11s=>?_
  ·try simp only[Q] at h11p
   refine rn0 (r1 rfl) (.eqd ?_)
   all_goals (refine congrArg D.bool ?_;unfold ownP;rw[Bool.eq_iff_iff];by_cases hmem:p.ctor∈zah w ⟨a,k⟩<;>(simp only[hmem,and_true,and_false,or_false,decide_eq_true_eq,Bool.and_eq_true,Bool.false_eq_true,true_iff,false_iff];simp only[decide_eq_true_eq,decide_eq_false_iff_not] at *;omega))
  ·try simp only[Q] at h11p
   refine sq (fun h12 h12p h12s=>?_) fun h12 h12p h12s=>?_
   ·try simp only[Q] at h12p
    refine sq (fun h13 h13p h13s=>?_) fun h13 h13p h13s=>?_
    ·try simp only[Q] at h13p
     refine rn0 (r1 rfl) (.eqd ?_)
     all_goals (refine congrArg D.bool ?_;unfold ownP;rw[Bool.eq_iff_iff];by_cases hmem:p.ctor∈zah w ⟨a,k⟩<;>(simp only[hmem,and_true,and_false,or_false,decide_eq_true_eq,Bool.and_eq_true,Bool.false_eq_true,true_iff,false_iff];simp only[decide_eq_true_eq,decide_eq_false_iff_not] at *;omega))
    ·try simp only[Q] at h13p
     refine sq (fun h14 h14p h14s=>?_) fun h14 h14p h14s=>?_
     ·try simp only[Q] at h14p
      refine CWp.regionJ ?_
      refine WRest.join 8 [(75,.d (.bool (decide (a = -1∧0≤p.n))))] [68,69,70,71,72,73,74] ?_ ?_
      ·
       refine ev ?_
       refine sq (fun h15 h15p h15s=>?_) fun h15 h15p h15s=>?_
       ·try simp only[Q] at h15p
        exact jnb rfl
       ·try simp only[Q] at h15p
        exact jnb rfl
      refine WRest.join 7 [(82,.d (.bool (decide (a = -1∧0≤p.n∧p.n≤p.m))))] [76,77,78,79,80,81] ?_ ?_
      ·
       refine ev ?_
       refine sq (fun h16 h16p h16s=>?_) fun h16 h16p h16s=>?_
       ·try simp only[Q] at h16p
        exact jnb rfl
       ·try simp only[Q] at h16p
        exact jnb rfl
      refine WRest.join 5 [(87,.d (.bool (decide (a = -1∧0≤p.n∧p.n≤p.m∧p.m≤9))))] [83,84,85,86] ?_ ?_
      ·
       refine ev ?_
       refine sq (fun h17 h17p h17s=>?_) fun h17 h17p h17s=>?_
       ·try simp only[Q] at h17p
        exact jnb rfl
       ·try simp only[Q] at h17p
        exact jnb rfl
      refine WRest.done ?_
      refine ev ?_
      refine rn0 (r1 rfl) (.eqd ?_)
      all_goals (refine congrArg D.bool ?_;unfold ownP;rw[Bool.eq_iff_iff];by_cases hmem:p.ctor∈zah w ⟨a,k⟩<;>(simp only[hmem,and_true,and_false,or_false,decide_eq_true_eq,Bool.and_eq_true,Bool.false_eq_true,true_iff,false_iff];simp only[decide_eq_true_eq,decide_eq_false_iff_not] at *;omega))
     ·try simp only[Q] at h14p
      refine sq (fun h18 h18p h18s=>?_) fun h18 h18p h18s=>?_
      ·try simp only[Q] at h18p
       refine Walk.call (cr:=[]) zfT (zce hw ht) rfl .none rfl rfl (LeL.refl _) trivial rfl rfl rfl ?_
       refine evd [] [] ?_
       refine Walk.call (cr:=[]) zjd (zcP hcl) rfl .none rfl rfl (LeL.refl _) trivial rfl rfl rfl ?_
       refine evd [] [] ?_
       refine dr ?_
       refine rn0 (r1 rfl) (.eqd ?_)
       all_goals (refine congrArg D.bool ?_;unfold ownP;rw[Bool.eq_iff_iff];by_cases hmem:p.ctor∈zah w ⟨a,k⟩<;>(simp only[hmem,and_true,and_false,or_false,decide_eq_true_eq,Bool.and_eq_true,Bool.false_eq_true,true_iff,false_iff];simp only[decide_eq_true_eq,decide_eq_false_iff_not] at *;omega))
      ·try simp only[Q] at h18p
       refine rn0 (r1 rfl) (.eqd ?_)
       all_goals (refine congrArg D.bool ?_;unfold ownP;rw[Bool.eq_iff_iff];by_cases hmem:p.ctor∈zah w ⟨a,k⟩<;>(simp only[hmem,and_true,and_false,or_false,decide_eq_true_eq,Bool.and_eq_true,Bool.false_eq_true,true_iff,false_iff];simp only[decide_eq_true_eq,decide_eq_false_iff_not] at *;omega))
   ·try simp only[Q] at h12p
    refine sq (fun h19 h19p h19s=>?_) fun h19 h19p h19s=>?_
    ·try simp only[Q] at h19p
     refine sq (fun h20 h20p h20s=>?_) fun h20 h20p h20s=>?_
     ·try simp only[Q] at h20p
      refine rn0 (r1 rfl) (.eqd ?_)
      all_goals (refine congrArg D.bool ?_;unfold ownP;rw[Bool.eq_iff_iff];by_cases hmem:p.ctor∈zah w ⟨a,k⟩<;>(simp only[hmem,and_true,and_false,or_false,decide_eq_true_eq,Bool.and_eq_true,Bool.false_eq_true,true_iff,false_iff];simp only[decide_eq_true_eq,decide_eq_false_iff_not] at *;omega))
     ·try simp only[Q] at h20p
      refine sq (fun h21 h21p h21s=>?_) fun h21 h21p h21s=>?_
      ·try simp only[Q] at h21p
       refine CWp.regionJ ?_
       refine WRest.join 8 [(75,.d (.bool (decide (a = -1∧0≤p.n))))] [68,69,70,71,72,73,74] ?_ ?_
       ·
        refine ev ?_
        refine sq (fun h22 h22p h22s=>?_) fun h22 h22p h22s=>?_
        ·try simp only[Q] at h22p
         exact jnb rfl
        ·try simp only[Q] at h22p
         exact jnb rfl
       refine WRest.join 7 [(82,.d (.bool (decide (a = -1∧0≤p.n∧p.n≤p.m))))] [76,77,78,79,80,81] ?_ ?_
       ·
        refine ev ?_
        refine sq (fun h23 h23p h23s=>?_) fun h23 h23p h23s=>?_
        ·try simp only[Q] at h23p
         exact jnb rfl
        ·try simp only[Q] at h23p
         exact jnb rfl
       refine WRest.join 5 [(87,.d (.bool (decide (a = -1∧0≤p.n∧p.n≤p.m∧p.m≤9))))] [83,84,85,86] ?_ ?_
       ·
        refine ev ?_
        refine sq (fun h24 h24p h24s=>?_) fun h24 h24p h24s=>?_
        ·try simp only[Q] at h24p
         exact jnb rfl
        ·try simp only[Q] at h24p
         exact jnb rfl
       refine WRest.done ?_
       refine ev ?_
       refine rn0 (r1 rfl) (.eqd ?_)
       all_goals (refine congrArg D.bool ?_;unfold ownP;rw[Bool.eq_iff_iff];by_cases hmem:p.ctor∈zah w ⟨a,k⟩<;>(simp only[hmem,and_true,and_false,or_false,decide_eq_true_eq,Bool.and_eq_true,Bool.false_eq_true,true_iff,false_iff];simp only[decide_eq_true_eq,decide_eq_false_iff_not] at *;omega))
      ·try simp only[Q] at h21p
       refine sq (fun h25 h25p h25s=>?_) fun h25 h25p h25s=>?_
       ·try simp only[Q] at h25p
        refine Walk.call (cr:=[]) zfT (zce hw ht) rfl .none rfl rfl (LeL.refl _) trivial rfl rfl rfl ?_
        refine evd [] [] ?_
        refine Walk.call (cr:=[]) zjd (zcP hcl) rfl .none rfl rfl (LeL.refl _) trivial rfl rfl rfl ?_
        refine evd [] [] ?_
        refine dr ?_
        refine rn0 (r1 rfl) (.eqd ?_)
        all_goals (refine congrArg D.bool ?_;unfold ownP;rw[Bool.eq_iff_iff];by_cases hmem:p.ctor∈zah w ⟨a,k⟩<;>(simp only[hmem,and_true,and_false,or_false,decide_eq_true_eq,Bool.and_eq_true,Bool.false_eq_true,true_iff,false_iff];simp only[decide_eq_true_eq,decide_eq_false_iff_not] at *;omega))
       ·try simp only[Q] at h25p
        refine rn0 (r1 rfl) (.eqd ?_)
        all_goals (refine congrArg D.bool ?_;unfold ownP;rw[Bool.eq_iff_iff];by_cases hmem:p.ctor∈zah w ⟨a,k⟩<;>(simp only[hmem,and_true,and_false,or_false,decide_eq_true_eq,Bool.and_eq_true,Bool.false_eq_true,true_iff,false_iff];simp only[decide_eq_true_eq,decide_eq_false_iff_not] at *;omega))
    ·try simp only[Q] at h19p
     refine sq (fun h26 h26p h26s=>?_) fun h26 h26p h26s=>?_
     ·try simp only[Q] at h26p
      refine sq (fun h27 h27p h27s=>?_) fun h27 h27p h27s=>?_
      ·try simp only[Q] at h27p
       refine rn0 (r1 rfl) (.eqd ?_)
       all_goals (refine congrArg D.bool ?_;unfold ownP;rw[Bool.eq_iff_iff];by_cases hmem:p.ctor∈zah w ⟨a,k⟩<;>(simp only[hmem,and_true,and_false,or_false,decide_eq_true_eq,Bool.and_eq_true,Bool.false_eq_true,true_iff,false_iff];simp only[decide_eq_true_eq,decide_eq_false_iff_not] at *;omega))
      ·try simp only[Q] at h27p
       refine sq (fun h28 h28p h28s=>?_) fun h28 h28p h28s=>?_
       ·try simp only[Q] at h28p
        refine CWp.regionJ ?_
        refine WRest.join 8 [(75,.d (.bool (decide (a = -1∧0≤p.n))))] [68,69,70,71,72,73,74] ?_ ?_
        ·
         refine ev ?_
         refine sq (fun h29 h29p h29s=>?_) fun h29 h29p h29s=>?_
         ·try simp only[Q] at h29p
          exact jnb rfl
         ·try simp only[Q] at h29p
          exact jnb rfl
        refine WRest.join 7 [(82,.d (.bool (decide (a = -1∧0≤p.n∧p.n≤p.m))))] [76,77,78,79,80,81] ?_ ?_
        ·
         refine ev ?_
         refine sq (fun h30 h30p h30s=>?_) fun h30 h30p h30s=>?_
         ·try simp only[Q] at h30p
          exact jnb rfl
         ·try simp only[Q] at h30p
          exact jnb rfl
        refine WRest.join 5 [(87,.d (.bool (decide (a = -1∧0≤p.n∧p.n≤p.m∧p.m≤9))))] [83,84,85,86] ?_ ?_
        ·
         refine ev ?_
         refine sq (fun h31 h31p h31s=>?_) fun h31 h31p h31s=>?_
         ·try simp only[Q] at h31p
          exact jnb rfl
         ·try simp only[Q] at h31p
          exact jnb rfl
        refine WRest.done ?_
        refine ev ?_
        refine rn0 (r1 rfl) (.eqd ?_)
        all_goals (refine congrArg D.bool ?_;unfold ownP;rw[Bool.eq_iff_iff];by_cases hmem:p.ctor∈zah w ⟨a,k⟩<;>(simp only[hmem,and_true,and_false,or_false,decide_eq_true_eq,Bool.and_eq_true,Bool.false_eq_true,true_iff,false_iff];simp only[decide_eq_true_eq,decide_eq_false_iff_not] at *;omega))
       ·try simp only[Q] at h28p
        refine sq (fun h32 h32p h32s=>?_) fun h32 h32p h32s=>?_
        ·try simp only[Q] at h32p
         refine Walk.call (cr:=[]) zfT (zce hw ht) rfl .none rfl rfl (LeL.refl _) trivial rfl rfl rfl ?_
         refine evd [] [] ?_
         refine Walk.call (cr:=[]) zjd (zcP hcl) rfl .none rfl rfl (LeL.refl _) trivial rfl rfl rfl ?_
         refine evd [] [] ?_
         refine dr ?_
         refine rn0 (r1 rfl) (.eqd ?_)
         all_goals (refine congrArg D.bool ?_;unfold ownP;rw[Bool.eq_iff_iff];by_cases hmem:p.ctor∈zah w ⟨a,k⟩<;>(simp only[hmem,and_true,and_false,or_false,decide_eq_true_eq,Bool.and_eq_true,Bool.false_eq_true,true_iff,false_iff];simp only[decide_eq_true_eq,decide_eq_false_iff_not] at *;omega))
        ·try simp only[Q] at h32p
         refine rn0 (r1 rfl) (.eqd ?_)
         all_goals (refine congrArg D.bool ?_;unfold ownP;rw[Bool.eq_iff_iff];by_cases hmem:p.ctor∈zah w ⟨a,k⟩<;>(simp only[hmem,and_true,and_false,or_false,decide_eq_true_eq,Bool.and_eq_true,Bool.false_eq_true,true_iff,false_iff];simp only[decide_eq_true_eq,decide_eq_false_iff_not] at *;omega))
     ·try simp only[Q] at h26p
      refine sq (fun h33 h33p h33s=>?_) fun h33 h33p h33s=>?_
      ·try simp only[Q] at h33p
       refine rn0 (r1 rfl) (.eqd ?_)
       all_goals (refine congrArg D.bool ?_;unfold ownP;rw[Bool.eq_iff_iff];by_cases hmem:p.ctor∈zah w ⟨a,k⟩<;>(simp only[hmem,and_true,and_false,or_false,decide_eq_true_eq,Bool.and_eq_true,Bool.false_eq_true,true_iff,false_iff];simp only[decide_eq_true_eq,decide_eq_false_iff_not] at *;omega))
      ·try simp only[Q] at h33p
       refine sq (fun h34 h34p h34s=>?_) fun h34 h34p h34s=>?_
       ·try simp only[Q] at h34p
        refine CWp.regionJ ?_
        refine WRest.join 8 [(75,.d (.bool (decide (a = -1∧0≤p.n))))] [68,69,70,71,72,73,74] ?_ ?_
        ·
         refine ev ?_
         refine sq (fun h35 h35p h35s=>?_) fun h35 h35p h35s=>?_
         ·try simp only[Q] at h35p
          exact jnb rfl
         ·try simp only[Q] at h35p
          exact jnb rfl
        refine WRest.join 7 [(82,.d (.bool (decide (a = -1∧0≤p.n∧p.n≤p.m))))] [76,77,78,79,80,81] ?_ ?_
        ·
         refine ev ?_
         refine sq (fun h36 h36p h36s=>?_) fun h36 h36p h36s=>?_
         ·try simp only[Q] at h36p
          exact jnb rfl
         ·try simp only[Q] at h36p
          exact jnb rfl
        refine WRest.join 5 [(87,.d (.bool (decide (a = -1∧0≤p.n∧p.n≤p.m∧p.m≤9))))] [83,84,85,86] ?_ ?_
        ·
         refine ev ?_
         refine sq (fun h37 h37p h37s=>?_) fun h37 h37p h37s=>?_
         ·try simp only[Q] at h37p
          exact jnb rfl
         ·try simp only[Q] at h37p
          exact jnb rfl
        refine WRest.done ?_
        refine ev ?_
        refine rn0 (r1 rfl) (.eqd ?_)
        all_goals (refine congrArg D.bool ?_;unfold ownP;rw[Bool.eq_iff_iff];by_cases hmem:p.ctor∈zah w ⟨a,k⟩<;>(simp only[hmem,and_true,and_false,or_false,decide_eq_true_eq,Bool.and_eq_true,Bool.false_eq_true,true_iff,false_iff];simp only[decide_eq_true_eq,decide_eq_false_iff_not] at *;omega))
       ·try simp only[Q] at h34p
        refine sq (fun h38 h38p h38s=>?_) fun h38 h38p h38s=>?_
        ·try simp only[Q] at h38p
         refine Walk.call (cr:=[]) zfT (zce hw ht) rfl .none rfl rfl (LeL.refl _) trivial rfl rfl rfl ?_
         refine evd [] [] ?_
         refine Walk.call (cr:=[]) zjd (zcP hcl) rfl .none rfl rfl (LeL.refl _) trivial rfl rfl rfl ?_
         refine evd [] [] ?_
         refine dr ?_
         refine rn0 (r1 rfl) (.eqd ?_)
         all_goals (refine congrArg D.bool ?_;unfold ownP;rw[Bool.eq_iff_iff];by_cases hmem:p.ctor∈zah w ⟨a,k⟩<;>(simp only[hmem,and_true,and_false,or_false,decide_eq_true_eq,Bool.and_eq_true,Bool.false_eq_true,true_iff,false_iff];simp only[decide_eq_true_eq,decide_eq_false_iff_not] at *;omega))
        ·try simp only[Q] at h38p
         refine rn0 (r1 rfl) (.eqd ?_)
         all_goals (refine congrArg D.bool ?_;unfold ownP;rw[Bool.eq_iff_iff];by_cases hmem:p.ctor∈zah w ⟨a,k⟩<;>(simp only[hmem,and_true,and_false,or_false,decide_eq_true_eq,Bool.and_eq_true,Bool.false_eq_true,true_iff,false_iff];simp only[decide_eq_true_eq,decide_eq_false_iff_not] at *;omega))
theorem zcX {w:List Data} (hw:WT w){a k:Int}{p:Pat} (ht:TyIn w.length ⟨a,k⟩) (h:p.op=4→p.ctor∈zah w ⟨a,k⟩):
  FnD Tryz.prog 95 [.d (zag w),.agg [.d (.i a),.d (.i k)],.agg [.d (.i p.op),.d (.i p.ctor),.d (.i p.n),.d (.i p.m),.d (.i p.var),.d (zaH p.kids)]] [] (.d (zcf (zaa w ⟨a,k⟩ p))) []:=by
 by_cases h4:p.op=4
 ·have e:zaa w ⟨a,k⟩ p=zam w ⟨a,k⟩ p.ctor:=by unfold zaa;rw[if_pos h4]
  rw[e]
  refine bd Tryz.f95 30 [] [] fun w0 F0 own kept hk=>?_
  refine Walk.box (id:=3004) .none rfl rfl rfl rfl rfl rfl rfl ?_
  refine Walk.box (id:=3005) .none rfl rfl rfl rfl rfl rfl rfl ?_
  refine ev ?_
  refine sq (fun h1 h1p h1s=>?_) fun h1 h1p h1s=>?_
  ·try simp only[Q] at h1p
   refine Walk.call (cr:=[]) zje (zdA hw ht (h h4)) rfl .none rfl rfl (LeL.refl _) trivial rfl rfl rfl ?_
   refine ev ?_
   refine rn0 (r1 rfl) (.eqd ?_)
   all_goals (rfl)
  ·try simp only[Q] at h1p
   exfalso;simp_all
 ·have e:zaa w ⟨a,k⟩ p=List.replicate (zed p.op).toNat ⟨a,k⟩:=by
   unfold zaa zed;rw[if_neg h4]
   by_cases h5:p.op=5
   ·rw[if_pos h5,if_pos h5];rfl
   ·rw[if_neg h5,if_neg h5]
    by_cases h6:p.op=6
    ·rw[if_pos h6,if_pos h6];rfl
    ·rw[if_neg h6,if_neg h6,if_neg h4];rfl
  have hb:0≤zed p.op∧zed p.op≤2:=by unfold zed;split<;>(try split)<;>(try split)<;>omega
  rw[e]
  refine bd Tryz.f95 30 [] [] fun w0 F0 own kept hk=>?_
  refine Walk.box (id:=3004) .none rfl rfl rfl rfl rfl rfl rfl ?_
  refine Walk.box (id:=3005) .none rfl rfl rfl rfl rfl rfl rfl ?_
  refine ev ?_
  refine sq (fun h1 h1p h1s=>?_) fun h1 h1p h1s=>?_
  ·try simp only[Q] at h1p
   exfalso;simp_all
  ·try simp only[Q] at h1p
   refine Walk.sliceEmptyG 5 zaY .none rfl rfl ?_
   refine ev ?_
   refine CWp.loopX (ι:=Nat) hk (fun i=>[(8,.d (.i (i:Int))),(7,.gl 5 ((List.replicate i (⟨a,k⟩:Ty)).map Ty.c))]) [18,19,20,21,22,23,24,25,26,27,28] (fun i=>[(5,some (.tok (((List.replicate i (⟨a,k⟩:Ty)).map Ty.c)).length 2))]) (fun i=>(i:Int)≤zed p.op) (fun i=>(zed p.op).toNat-i) 0 (by omega) ⟨⟨_,rfl,(LeA.eqi (by rfl))⟩,⟨⟨_,rfl,(LeA.glg (by rfl))⟩,trivial⟩⟩ ⟨zae (by rfl),trivial⟩ (fun x=>rfl) (fun i hg1=>?_)
   refine evc [] [] ?_
   refine Walk.call (cr:=[]) zrH (zlW) rfl .none rfl rfl (LeL.refl _) trivial rfl rfl rfl ?_
   refine ev ?_
   refine sq (fun h2 h2p h2s=>?_) fun h2 h2p h2s=>?_
   ·try simp only[Q] at h2p
    refine Walk.sliceLit zaY tz25 rfl (by decide) (ks:=[0]) (xs:=[_]) rfl rfl (by decide) (by decide) .none rfl rfl rfl rfl ?_
    refine Walk.append zaY zz25 rfl .none rfl rfl rfl rfl (zaP rfl (by first|rfl|(simp;done)|(simp;omega))) (by simp) (by simp;omega) (by simp;omega) ?_
    refine ev ?_
    refine ar ?_
    refine Exists.intro (i+1) ⟨(by omega),(by omega),Sub.x (by kernel_rfl) (by kernel_rfl) ⟨⟨_,rfl,(LeA.eqi (by rfl))⟩,⟨⟨_,rfl,(LeA.glg (by(simp[List.replicate_succ'];done)))⟩,trivial⟩⟩ (by kernel_rfl) (by kernel_rfl) ⟨zae (by rfl),trivial⟩⟩
   ·try simp only[Q] at h2p
    refine rn0 (r1 rfl) (.gld ?_)
    all_goals ((obtain rfl:i=(zed p.op).toNat:=by omega);simp)
theorem zcz {w:List Data}{n:Nat}{t:Ty}{p:Pat} (h:zap w (n+1) t p=true):ownP w t p=true∧p.kids.length=(zaa w t p).length:=by
 simp only[zap,Bool.and_eq_true] at h
 refine⟨h.1, ?_⟩
 by_cases hl:(zaa w t p).length=p.kids.length
 ·exact hl.symm
 ·rw[zdl hl] at h;simp at h
theorem zcn {w:List Data}{t:Ty}{p:Pat} (h:ownP w t p=true):p.op=4→p.ctor∈zah w t:=by
 intro h4
 unfold ownP at h
 have h':=(of_decide_eq_true h).2.2.2.2
 rcases h' with h|h|h|h|h|h
 ·omega
 ·omega
 ·omega
 ·omega
 ·omega
 ·exact h.2
theorem zns {w:List Data}{t:Ty}{p:Pat} (h:ownP w t p=true):(p.op=2∨p.op=6)→0≤p.var∧p.var≤5:=by
 unfold ownP at h
 exact(of_decide_eq_true h).1
theorem ze8 {w:List Data} (hw:WT w):∀(n:Nat){a k m:Int}{p:Pat},m=n→n≤1000→TyIn w.length ⟨a,k⟩→p.ok→
  FnD Tryz.prog 91 [.d (zag w),.agg [.d (.i a),.d (.i k)],.agg [.d (.i p.op),.d (.i p.ctor),.d (.i p.n),.d (.i p.m),.d (.i p.var),.d (zaH p.kids)],.d (.i m)] [] (.d (.bool (zap w n ⟨a,k⟩ p))) []
 |0,a,k,m,p,hm,_,ht,hok=>by
  refine bd Tryz.f91 50 [] [1] fun w0 F0 own kept hk=>?_
  refine Walk.box (id:=3005) .none rfl rfl rfl rfl rfl rfl rfl ?_
  refine Walk.box (id:=3006) .none rfl rfl rfl rfl rfl rfl rfl ?_
  refine ev ?_
  refine CWp.regionJ ?_
  refine WRest.join 9 [(19,.d (.bool (true)))] [11,12,13,14,15,16,17,18] ?_ ?_
  ·
   refine ev ?_
   refine sq (fun h1 h1p h1s=>?_) fun h1 h1p h1s=>?_
   ·try simp only[Q] at h1p
    exact jnb rfl
   ·try simp only[Q] at h1p
    refine Walk.call (cr:=[]) zm1 (zfM hw ht) rfl (.some rfl rfl h1) rfl rfl (LeL.refl _) trivial rfl rfl rfl ?_
    refine evs [] [(13,false)] ?_ ⟨⟨_,rfl,h1⟩,trivial⟩
    exact jnb rfl
  refine WRest.done ?_
  refine tv ?_
  refine sq (fun h2 h2p h2s=>?_) fun h2 h2p h2s=>?_
  ·try simp only[Q] at h2p
   refine rn0 (r1 rfl) (.eqd ?_)
   all_goals (rfl)
  ·try simp only[Q] at h2p
   exact absurd h2 (by simp)
 |n+1,a,k,m,p,hm,hn,ht,hok=>by
  rw[Pat.ok_iff] at hok
  by_cases ho:ownP w ⟨a,k⟩ p=true
  ·have hin:=zfG hw ht ho
   have hlen:=zf5 hw ht (zcn ho)
   refine bd Tryz.f91 50 [] [1] fun w0 F0 own kept hk=>?_
   refine Walk.box (id:=3005) .none rfl rfl rfl rfl rfl rfl rfl ?_
   refine Walk.box (id:=3006) .none rfl rfl rfl rfl rfl rfl rfl ?_
   refine ev ?_
   refine CWp.regionJ ?_
   refine WRest.join 9 [(19,.d (.bool (false)))] [11,12,13,14,15,16,17,18] ?_ ?_
   ·
    refine ev ?_
    refine sq (fun h1 h1p h1s=>?_) fun h1 h1p h1s=>?_
    ·try simp only[Q,Pat.cs_len] at h1p
     exact jnb rfl
    ·try simp only[Q,Pat.cs_len] at h1p
     refine Walk.call (cr:=[]) zm1 (zfM hw ht) rfl (.some rfl rfl h1) rfl rfl (LeL.refl _) trivial rfl rfl rfl ?_
     refine evs [] [(13,false)] ?_ ⟨⟨_,rfl,h1⟩,trivial⟩
     exact jnb rfl
   refine WRest.done ?_
   refine tv ?_
   refine sq (fun h2 h2p h2s=>?_) fun h2 h2p h2s=>?_
   ·try simp only[Q,Pat.cs_len] at h2p
    exact absurd h2 (by simp)
   ·try simp only[Q,Pat.cs_len] at h2p
    refine Walk.call (cr:=[]) zkB (zcX hw ht (zcn ho)) rfl .none rfl rfl (LeL.refl _) trivial rfl rfl rfl ?_
    refine ev ?_
    refine sq (fun h3 h3p h3s=>?_) fun h3 h3p h3s=>?_
    ·try simp only[Q,Pat.cs_len] at h3p
     refine rn0 (r1 rfl) (.eqd ?_)
     all_goals (refine congrArg D.bool ?_;unfold zap;rw[ho,Bool.true_and];(rw[zdl (by simp[Pat.cs_len] at *;omega)]))
    ·try simp only[Q,Pat.cs_len] at h3p
     refine CWp.loopX (ι:=Nat) hk (fun i=>[(10,.d (.i (i:Int)))]) [8,30,31,32,33,34,35,36,37,38,39,40,41,42,43,44,45,46,47,48,49] (fun i=>[]) (fun i=>i≤(zaa w ⟨a,k⟩ p).length∧∀i',i'<i→zap w n (nth (zaa w ⟨a,k⟩ p) i') (nth p.kids i')=true) (fun i=>(zaa w ⟨a,k⟩ p).length-i) 0 ⟨by omega,fun _ h=>absurd h (by omega)⟩ ⟨⟨_,rfl,(LeA.eqi (by first|rfl|(simp;done)|(simp_all;done)|omega))⟩,trivial⟩ trivial (fun x=>rfl) (fun i hg1=>?_)
     refine evc [] [1] ?_
     refine sq (fun h4 h4p h4s=>?_) fun h4 h4p h4s=>?_
     ·try simp only[Q,Pat.cs_len] at h4p
      refine Walk.idx zaY .none rfl rfl rfl rfl (zak (by omega)) rfl ?_
      refine evd [] [] ?_
      refine Walk.idx sl35 .none rfl rfl rfl rfl (zbm (by omega)) rfl ?_
      refine evd [] [] ?_
      refine ar ?_
      refine Walk.call (cr:=[]) zoA (ze8 hw n (by omega) (by omega) (hin _ (zai (by omega))) (Pats.ok_mem hok.2 _ (zai (by omega)))) rfl .none rfl rfl (LeL.refl _) trivial rfl rfl rfl ?_
      refine evd [] [] ?_
      refine dr ?_
      refine sq (fun h5 h5p h5s=>?_) fun h5 h5p h5s=>?_
      ·try simp only[Q,Pat.cs_len] at h5p
       refine rn0 (r1 rfl) (.eqd ?_)
       all_goals (refine congrArg D.bool ?_;unfold zap;rw[ho,Bool.true_and];(rw[zbT (i:=i) (by simp[Pat.cs_len] at *;omega) (by simp[Pat.cs_len] at *;omega) (by assumption)]))
      ·try simp only[Q,Pat.cs_len] at h5p
       refine ar ?_
       refine Exists.intro (i+1) ⟨⟨by omega,zaZ hg1.2 (by assumption)⟩,(by omega),Sub.x (by kernel_rfl) (by kernel_rfl) ⟨⟨_,rfl,(LeA.eqi (by first|rfl|(simp;done)|(simp_all;done)|omega))⟩,trivial⟩ (by kernel_rfl) (by kernel_rfl) trivial⟩
     ·try simp only[Q,Pat.cs_len] at h4p
      refine rn0 (r1 rfl) (.eqd ?_)
      all_goals (refine congrArg D.bool ?_;unfold zap;rw[ho,Bool.true_and];(rw[zcm (by simp[Pat.cs_len] at *;omega) (fun x hx=>hg1.2 x (by simp[Pat.cs_len] at *;omega))]))
  ·have ho':ownP w ⟨a,k⟩ p=false:=by simpa using ho
   refine bd Tryz.f91 50 [] [1] fun w0 F0 own kept hk=>?_
   refine Walk.box (id:=3005) .none rfl rfl rfl rfl rfl rfl rfl ?_
   refine Walk.box (id:=3006) .none rfl rfl rfl rfl rfl rfl rfl ?_
   refine ev ?_
   refine CWp.regionJ ?_
   refine WRest.join 9 [(19,.d (.bool (true)))] [11,12,13,14,15,16,17,18] ?_ ?_
   ·
    refine ev ?_
    refine sq (fun h1 h1p h1s=>?_) fun h1 h1p h1s=>?_
    ·try simp only[Q] at h1p
     exact jnb rfl
    ·try simp only[Q] at h1p
     refine Walk.call (cr:=[]) zm1 (zfM hw ht) rfl (.some rfl rfl h1) rfl rfl (LeL.refl _) trivial rfl rfl rfl ?_
     refine evs [] [(13,false)] ?_ ⟨⟨_,rfl,h1⟩,trivial⟩
     exact jnb rfl
   refine WRest.done ?_
   refine tv ?_
   refine sq (fun h2 h2p h2s=>?_) fun h2 h2p h2s=>?_
   ·try simp only[Q] at h2p
    refine rn0 (r1 rfl) (.eqd ?_)
    all_goals (refine congrArg D.bool ?_;unfold zap;rw[ho'];rfl)
   ·try simp only[Q] at h2p
    exact absurd h2 (by simp)
theorem zfo {l:List Vt}{n:Int} (h:l.length≤1000000000000):FnD Tryz.prog 94 [.d (zcK l),.d (.i n)] [] (.d (.i (zbv l n))) []:=by
 refine bd Tryz.f94 20 [] [] fun w0 F0 own kept hk=>?_
 refine CWp.loopX (ι:=List (Vt)×List (Vt)) hk (fun x=>[(5,.d (.i (x.1.length:Int)))]) [4,6,7,8,9,10,11,12,13,14,15,16,17,18,19] (fun x=>[]) (fun x=>x.1++x.2=l∧idxF (fun v=>decide (v.var=n)) x.2 x.1.length=idxF (fun v=>decide (v.var=n)) l 0) (fun x=>x.2.length) ([],l) ⟨by simp,rfl⟩ ⟨⟨_,rfl,(LeA.eqi (by first|rfl|(simp;done)|(simp_all;done)|omega))⟩,trivial⟩ trivial (fun x=>rfl) (fun x hg1=>?_)
 obtain⟨pre,rest⟩:=x
 dsimp only at hg1 ⊢
 refine evc [] [] ?_
 refine sq (fun h1 h1p h1s=>?_) fun h1 h1p h1s=>?_
 ·try simp only[Q] at h1p
  rcases rest with _|⟨y,rest⟩
  ·exfalso;simp_all
  refine Walk.idx sl86 .none rfl rfl rfl rfl (zaL hg1.1) rfl ?_
  refine ev ?_
  refine sq (fun h2 h2p h2s=>?_) fun h2 h2p h2s=>?_
  ·try simp only[Q] at h2p
   refine rn0 (r1 rfl) (.eqd ?_)
   all_goals (refine congrArg D.i ?_;unfold zbv;rw[←hg1.2];simp[idxF,h1s,h1p,h2s,h2p])
  ·try simp only[Q] at h2p
   refine ar ?_
   refine Exists.intro ((pre++[y],rest)) ⟨⟨(by have hz:=hg1.1;rw[←hz];simp),(by rw[←hg1.2];simp_all[idxF])⟩,(by simp),Sub.x (by kernel_rfl) (by kernel_rfl) ⟨⟨_,rfl,(LeA.eqi (by first|rfl|(simp;done)|(simp_all;done)|omega))⟩,trivial⟩ (by kernel_rfl) (by kernel_rfl) trivial⟩
 ·try simp only[Q] at h1p
  have hrest:rest=[]:=by
   rcases rest with _|⟨a,b⟩
   ·rfl
   ·exfalso;have hz:=congrArg List.length (hg1.1);simp only[List.length_append,List.length_cons,List.length_map] at hz;omega
  subst hrest
  refine rn0 (r1 rfl) (.eqd ?_)
  all_goals (refine congrArg D.i ?_;unfold zbv;rw[←hg1.2];simp[idxF,h1s,h1p])
theorem zjz {a b:List Vt}{i:Nat} (h:i<a.length) (h2:¬(0≤zbv b (nth a i).var∧(nth b (zbv b (nth a i).var).toNat).ty=(nth a i).ty)):zda a b=false:=by
 unfold zda
 have:(a.all fun v=>decide (0≤zbv b v.var∧(nth b (zbv b v.var).toNat).ty=v.ty))=false:=List.all_eq_false.2 ⟨_,zai h,by simpa using h2⟩
 rw[this,Bool.false_and]
theorem zou {a b:List Vt} (h:∀i,i<a.length→0≤zbv b (nth a i).var∧(nth b (zbv b (nth a i).var).toNat).ty=(nth a i).ty):zda a b=decide (a.length=b.length):=by
 unfold zda
 have:(a.all fun v=>decide (0≤zbv b v.var∧(nth b (zbv b v.var).toNat).ty=v.ty))=true:=by
  rw[List.all_eq_true]
  intro v hv
  obtain⟨j,hj,he⟩:=List.getElem_of_mem hv
  have:=h j hj
  rw[za5 hj,he] at this
  exact decide_eq_true this
 rw[this,Bool.true_and]
theorem zj1 {l:List Vt}{n:Int} (h:0≤zbv l n):(zbv l n).toNat<l.length∧((zbv l n).toNat:Int)=zbv l n:=by
 rcases zeS l n with ⟨h1,_⟩|⟨k,h1,h2,_⟩
 ·omega
 ·rw[h1];simpa using h2
theorem znP {t u:Ty}:t=u↔t.data=u.data∧t.index=u.index:=by
 cases t;cases u;simp
theorem zli {x y:List Vt} (hx:x.length≤1000000000000) (hy:y.length≤1000000000000):FnD Tryz.prog 123 [.d (zcK x),.d (zcK y)] [] (.d (.bool (zda x y))) []:=by
 refine bd Tryz.f123 40 [33] [] fun w0 F0 own kept hk=>?_
 refine CWp.loopX (ι:=Nat) hk (fun i=>[(5,.d (.i (i:Int)))]) [4,6,7,8,9,10,11,12,13,14,15,16,17,18,19,20,21,22,23,24,25,26,27,28,29,30,31,32,33,34] (fun i=>[]) (fun i=>i≤x.length∧∀j,j<i→0≤zbv y (nth x j).var∧(nth y (zbv y (nth x j).var).toNat).ty=(nth x j).ty) (fun i=>x.length-i) 0 ⟨by omega,fun _ h=>absurd h (by omega)⟩ ⟨⟨_,rfl,(LeA.eqi (by first|rfl|(simp;done)|(simp_all;done)|omega))⟩,trivial⟩ trivial (fun x=>rfl) (fun i hg1=>?_)
 refine evc [33] [] ?_
 refine sq (fun h1 h1p h1s=>?_) fun h1 h1p h1s=>?_
 ·try simp only[Q] at h1p
  refine Walk.idx sl86 .none rfl rfl rfl rfl (zak (by omega)) rfl ?_
  refine evs [33] [] ?_
  refine Walk.call (cr:=[]) zoC (zfo hy) rfl .none rfl rfl (LeL.refl _) trivial rfl rfl rfl ?_
  refine evs [33] [] ?_
  refine sq (fun h2 h2p h2s=>?_) fun h2 h2p h2s=>?_
  ·try simp only[Q] at h2p
   refine dr ?_
   refine sqT ?_
   refine rn0 (r1 rfl) (.eqd ?_)
   all_goals (refine congrArg D.bool ?_;(refine(zjz (i:=i) (by omega) ?_).symm;simp only[znP];first|omega|(simp at h4;omega)))
  ·try simp only[Q] at h2p
   refine Walk.idx (i:=(zbv y (nth x i).var).toNat) sl86 (.some rfl rfl h2) rfl rfl rfl (zj1 (l:=y) (n:=(nth x i).var) (by omega)).2.symm (zak (by exact(zj1 (l:=y) (n:=(nth x i).var) (by omega)).1)) rfl ?_
   refine evd [33] [(22,false)] ?_ ⟨⟨_,rfl,h2⟩,trivial⟩
   refine Walk.idx sl86 (.some rfl rfl h2) rfl rfl rfl rfl (zak (by omega)) rfl ?_
   refine evd [33] [(22,false)] ?_ ⟨⟨_,rfl,h2⟩,trivial⟩
   refine Walk.neV eq25 (.some rfl rfl h2) rfl rfl rfl rfl rfl ?_
   refine evd [33] [(22,false)] ?_ ⟨⟨_,rfl,h2⟩,trivial⟩
   refine dr ?_
   refine sq (fun h4 h4p h4s=>?_) fun h4 h4p h4s=>?_
   ·try simp only[Q] at h4p
    refine rn0 (r1 rfl) (.eqd ?_)
    all_goals (refine congrArg D.bool ?_;(refine(zjz (i:=i) (by omega) ?_).symm;simp only[znP];first|omega|(simp at h4;omega)))
   ·try simp only[Q] at h4p
    refine ar ?_
    refine Exists.intro (i+1) ⟨⟨by omega,zaZ hg1.2 (by rw[znP];first|omega|(simp at h4;omega))⟩,(by omega),Sub.x (by kernel_rfl) (by kernel_rfl) ⟨⟨_,rfl,(LeA.eqi (by first|rfl|(simp;done)|(simp_all;done)|omega))⟩,trivial⟩ (by kernel_rfl) (by kernel_rfl) trivial⟩
 ·try simp only[Q] at h1p
  refine rn0 (r1 rfl) (.eqd ?_)
  all_goals (refine congrArg D.bool ?_;(rw[zou (fun j hj=>hg1.2 j (by simp at h1p;omega))];exact decide_eq_decide.2 (by simp;omega)))
theorem zja {f:Ty→Pat→List Vt} (hf:∀t p,(f t p).length≤p.size):∀(a:List Ty) (b:List Pat),(zaS f a b).length≤Pats.size b
 | [],[]=>by simp[zaS]
 | [],_::_=>by simp[zaS]
 |_::_,[]=>by simp[zaS]
 |x::r,y::s=>by
  have h1:=zja hf r s
  have h2:=hf x y
  simp only[zaS,List.length_append,Pats.size];omega
theorem zd4 (w:List Data):∀(n:Nat) (t:Ty) (p:Pat),(zar w n t p).length≤p.size
 |0,t,p=>by simp[zar]
 |n+1,t,p=>by
  have h1:=zja (zd4 w n) (zcr w t p) p.kids
  have h2:(zaD t p).length≤1:=by unfold zaD;split<;>simp
  rw[Pat.size_eq]
  simp only[zar,List.length_append];omega
theorem zdv {f:Ty→Pat→List Vt}:∀ {a:List Ty}{b:List Pat}{i:Nat},i<a.length→i<b.length→zaS f (a.take (i+1)) (b.take (i+1))=zaS f (a.take i) (b.take i)++f (nth a i) (nth b i)
 |x::r,y::s,0,_,_=>by simp[zaS,nth]
 |x::r,y::s,i+1,h1,h2=>by
  have:=zdv (f:=f) (a:=r) (b:=s) (i:=i) (by simpa using h1) (by simpa using h2)
  simp only[List.take_succ_cons,zaS]
  rw[this,List.append_assoc]
  rfl
theorem zlu {f:Ty→Pat→List Vt}:∀ {a:List Ty}{b:List Pat}{i:Nat},zaS f (a.take i) (b.take i)=zaS f (a.take i) b
 | [],b,i=>by simp[zaS]
 |x::r,[],i=>by simp[zaS]
 |x::r,y::s,0=>by simp[zaS]
 |x::r,y::s,i+1=>by simp only[List.take_succ_cons,zaS];rw[zlu]
theorem znS {f:Ty→Pat→List Vt} (hf:∀t p,(f t p).length≤p.size){a:List Ty}{b:List Pat}{i:Nat} (h:i<b.length):(zaS f (a.take i) (b.take i)).length+(nth b i).size≤Pats.size b:=by
 have h1:=zja hf (a.take i) (b.take i)
 have h2:=Pats.size_split (pre:=b.take i) (y:=nth b i) (rest:=b.drop (i+1)) (l:=b) (by rw[←zaT h,List.take_append_drop])
 omega
def zdh (w:List Data) (t:Ty) (p:Pat):Nat:=(zcr w t p).length
theorem zjb (w:List Data) (t:Ty) (p:Pat):zdh w t p=if p.op=5 then 1 else (zaa w t p).length:=by
 unfold zdh zcr
 by_cases h5:p.op=5
 ·rw[if_pos h5,if_pos h5]
  have:zaa w t p=[t,t]:=by unfold zaa;rw[if_neg (by omega),if_pos h5]
  rw[this];rfl
 ·rw[if_neg h5,if_neg h5]
theorem zgW {w:List Data}{f:Ty→Pat→List Vt}{t:Ty}{p:Pat} (hl:p.kids.length=(zaa w t p).length){i:Nat} (h:i=zdh w t p):zaS f ((zaa w t p).take i) (p.kids.take i)=zaS f (zcr w t p) p.kids:=by
 subst h
 rw[zlu]
 congr 1
 rw[zjb]
 unfold zcr
 by_cases h5:p.op=5
 ·rw[if_pos h5,if_pos h5]
 ·rw[if_neg h5,if_neg h5,List.take_length]
theorem zbS {w:List Data}{n:Nat}{t:Ty}{p:Pat} (h:zap w (n+1) t p=true){i:Nat} (hi:i<p.kids.length):zap w n (nth (zaa w t p) i) (nth p.kids i)=true:=by
 have hl:=(zcz h).2
 cases hs:zap w n (nth (zaa w t p) i) (nth p.kids i) with
 |true=>rfl
 |false=>
  have:=zbT (f:=zap w n) (a:=zaa w t p) (b:=p.kids) (i:=i) (by omega) hl.symm hs
  simp only[zap,this,Bool.and_false] at h
  cases h
theorem zfq {w:List Data} (hw:WT w):∀(n:Nat){a k:Int}{p:Pat}{xs:List Vt},zap w n ⟨a,k⟩ p=true→n≤1000→TyIn w.length ⟨a,k⟩→p.ok→xs.length+p.size≤2000000000000→
  FnD Tryz.prog 70 [.gl 5 (xs.map Vt.c),.d (zag w),.agg [.d (.i a),.d (.i k)],.agg [.d (.i p.op),.d (.i p.ctor),.d (.i p.n),.d (.i p.m),.d (.i p.var),.d (zaH p.kids)]] [(5,some (.tok (xs.map Vt.c).length 3))]
   (.gl 5 ((xs++zar w n ⟨a,k⟩ p).map Vt.c)) [(5,some (.tok ((xs++zar w n ⟨a,k⟩ p).map Vt.c).length 3))]
 |0,a,k,p,xs,hs,_,_,_,_=>by simp[zap] at hs
 |n+1,a,k,p,xs,hs,hn,ht,hok,hb=>by
  rw[Pat.ok_iff] at hok
  rw[Pat.size_eq] at hb
  obtain⟨ho,hl⟩:=zcz hs
  have hin:=zfG hw ht ho
  have hlen:=zf5 hw ht (zcn ho)
  have hvc5:p.op=5→zdh w ⟨a,k⟩ p=1:=fun h=>by rw[zjb,if_pos h]
  have hvc:¬p.op=5→zdh w ⟨a,k⟩ p=(zaa w ⟨a,k⟩ p).length:=fun h=>by rw[zjb,if_neg h]
  have hv2:zdh w ⟨a,k⟩ p≤p.kids.length:=by
   unfold zdh zcr;split
   ·rw[List.length_take];omega
   ·omega
  have e5:p.op=5→(zaa w ⟨a,k⟩ p).length=2:=fun h5=>by unfold zaa;rw[if_neg (by omega),if_pos h5];rfl
  have hnm:(zaD ⟨a,k⟩ p).length≤1:=by unfold zaD;split<;>simp
  refine bd Tryz.f70 58 [] [1,5,6] fun w0 F0 own kept hk=>?_
  refine Walk.box (id:=3006) .none rfl rfl rfl rfl rfl rfl rfl ?_
  refine Walk.box (id:=3007) .none rfl rfl rfl rfl rfl rfl rfl ?_
  refine ev ?_
  refine CWp.regionJ ?_
  refine WRest.join 8 [(18,.d (.bool (decide (p.op=2∨p.op=6))))] [11,12,13,14,15,16,17] ?_ ?_
  ·
   refine ev ?_
   refine sq (fun h1 h1p h1s=>?_) fun h1 h1p h1s=>?_
   ·try simp only[Q,Pat.cs_len] at h1p
    exact jnb rfl
   ·try simp only[Q,Pat.cs_len] at h1p
    exact jnb rfl
  refine WRest.done ?_
  refine tv ?_
  refine sq (fun h2 h2p h2s=>?_) fun h2 h2p h2s=>?_
  ·try simp only[Q,Pat.cs_len] at h2p
   refine Walk.build zoU (ks:=[0,1]) (xs:=[_,_]) rfl rfl .none rfl rfl rfl ?_
   refine Walk.sliceLit sl86 zmU rfl (by decide) (ks:=[0]) (xs:=[_]) rfl rfl (by decide) (by decide) .none rfl rfl rfl rfl ?_
   refine Walk.append sl86 zmX rfl .none rfl rfl rfl rfl (zaP rfl (by first|rfl|(simp;done)|(simp;omega))) (by simp) (by simp;omega) (by simp;omega) ?_
   refine ev ?_
   refine Walk.call (cr:=[]) zkB (zcX hw ht (zcn ho)) rfl .none rfl rfl (LeL.refl _) trivial rfl rfl rfl ?_
   refine ev ?_
   refine CWp.loopT 5 6 (ι:=Nat) hk (fun i=>[(0,.gl 5 ((xs++zaD ⟨a,k⟩ p++zaS (zar w n) ((zaa w ⟨a,k⟩ p).take i) (p.kids.take i)).map Vt.c)),(10,.d (.i (i:Int)))]) [30,31,32,33,34,35,36,37,38,39,40,41,42,43,44,45,46,47,48,49,50,51,52,53,54,55,56] (fun i=>[(5,some (.tok ((xs++zaD ⟨a,k⟩ p++zaS (zar w n) ((zaa w ⟨a,k⟩ p).take i) (p.kids.take i)).map Vt.c).length 3))]) (fun i=>i≤zdh w ⟨a,k⟩ p) (fun i=>zdh w ⟨a,k⟩ p-i) 0 (by omega) ⟨⟨_,rfl,(LeA.glg (by(simp[zaS,zaD, *];done)))⟩,⟨⟨_,rfl,(LeA.eqi (by rfl))⟩,trivial⟩⟩ ⟨zae (by(first|rfl|(simp[zaS,zaD, *];done)|(rw[zdv (by omega) (by omega)];simp[List.append_assoc];done)|omega)),trivial⟩ (fun x=>rfl) (fun i hg1=>?_)
   refine evc [] [1,5,6] ?_
   refine CWp.regionJ ?_
   refine WRest.join 13 [(42,.d (.bool (decide (i<zdh w ⟨a,k⟩ p))))] [30,31,32,33,34,35,36,37,38,39,40,41] ?_ ?_
   ·
    refine ev ?_
    refine sq (fun h3 h3p h3s=>?_) fun h3 h3p h3s=>?_
    ·try simp only[Q,Pat.cs_len] at h3p
     refine sq (fun h4 h4p h4s=>?_) fun h4 h4p h4s=>?_
     ·try simp only[Q,Pat.cs_len] at h4p
      exact jnb rfl
     ·try simp only[Q,Pat.cs_len] at h4p
      exact jnb rfl
    ·try simp only[Q,Pat.cs_len] at h3p
     exact jnb rfl
   refine WRest.done ?_
   refine tv ?_
   refine sq (fun h5 h5p h5s=>?_) fun h5 h5p h5s=>?_
   ·try simp only[Q,Pat.cs_len] at h5p
    refine Walk.idx zaY .none rfl rfl rfl rfl (zak (by omega)) rfl ?_
    refine evd [] [] ?_
    refine Walk.idx sl35 .none rfl rfl rfl rfl (zbm (by omega)) rfl ?_
    refine evd [] [] ?_
    refine Walk.callT 6 zhy (zfq hw n (a:=(nth (zaa w ⟨a,k⟩ p) i).data) (k:=(nth (zaa w ⟨a,k⟩ p) i).index) (p:=nth p.kids i) (xs:=xs++zaD ⟨a,k⟩ p++zaS (zar w n) ((zaa w ⟨a,k⟩ p).take i) (p.kids.take i)) (zbS hs (by omega)) (by omega) (hin _ (zai (by omega))) (Pats.ok_mem hok.2 _ (zai (by omega))) (by have:=znS (zd4 w n) (a:=zaa w ⟨a,k⟩ p) (b:=p.kids) (i:=i) (by omega);simp only[List.length_append];omega)) rfl .none rfl rfl (.cons (.refl _) (.cons (.refl _) (.cons (.refl _) (.cons (.refl _) .nil)))) rfl (by rfl) ?_
    refine evd [] [] ?_
    refine dr ?_
    refine CWp.retok 0 6 5 rfl rfl rfl rfl rfl ?_
    refine evc [] [] ?_
    refine ar ?_
    refine Exists.intro (i+1) ⟨(by omega),(by omega),Sub.x (by kernel_rfl) (by kernel_rfl) ⟨⟨_,rfl,(LeA.glg (by(rw[zdv (by omega) (by omega)];simp[List.append_assoc];done)))⟩,⟨⟨_,rfl,(LeA.eqi (by rfl))⟩,trivial⟩⟩ (by kernel_rfl) (by kernel_rfl) ⟨zae (by(first|rfl|(simp[zaS,zaD, *];done)|(rw[zdv (by omega) (by omega)];simp[List.append_assoc];done)|omega)),trivial⟩⟩
   ·try simp only[Q,Pat.cs_len] at h5p
    refine rn [(5,some (.tok ((xs++zar w (n+1) ⟨a,k⟩ p).map Vt.c).length 3))] (r1 rfl) (.glg ?_) ⟨rfl,rfl⟩ (SubO.get ⟨.inr (by(show some (Res.tok _ _)=some (Res.tok _ _);congr 2;rw[zar,←zgW (f:=zar w n) hl (i:=i) (by omega)];simp)),⟨.inl rfl,trivial⟩⟩) (zaq rfl)
    all_goals (rw[zar,←zgW (f:=zar w n) hl (i:=i) (by omega)];simp)
  ·try simp only[Q,Pat.cs_len] at h2p
   refine Walk.call (cr:=[]) zkB (zcX hw ht (zcn ho)) rfl .none rfl rfl (LeL.refl _) trivial rfl rfl rfl ?_
   refine ev ?_
   refine CWp.loopT 5 6 (ι:=Nat) hk (fun i=>[(0,.gl 5 ((xs++zaD ⟨a,k⟩ p++zaS (zar w n) ((zaa w ⟨a,k⟩ p).take i) (p.kids.take i)).map Vt.c)),(10,.d (.i (i:Int)))]) [30,31,32,33,34,35,36,37,38,39,40,41,42,43,44,45,46,47,48,49,50,51,52,53,54,55,56] (fun i=>[(5,some (.tok ((xs++zaD ⟨a,k⟩ p++zaS (zar w n) ((zaa w ⟨a,k⟩ p).take i) (p.kids.take i)).map Vt.c).length 3))]) (fun i=>i≤zdh w ⟨a,k⟩ p) (fun i=>zdh w ⟨a,k⟩ p-i) 0 (by omega) ⟨⟨_,rfl,(LeA.glg (by(simp[zaS,zaD, *];done)))⟩,⟨⟨_,rfl,(LeA.eqi (by rfl))⟩,trivial⟩⟩ ⟨zae (by(first|rfl|(simp[zaS,zaD, *];done)|(rw[zdv (by omega) (by omega)];simp[List.append_assoc];done)|omega)),trivial⟩ (fun x=>rfl) (fun i hg1=>?_)
   refine evc [] [1,5,6] ?_
   refine CWp.regionJ ?_
   refine WRest.join 13 [(42,.d (.bool (decide (i<zdh w ⟨a,k⟩ p))))] [30,31,32,33,34,35,36,37,38,39,40,41] ?_ ?_
   ·
    refine ev ?_
    refine sq (fun h6 h6p h6s=>?_) fun h6 h6p h6s=>?_
    ·try simp only[Q,Pat.cs_len] at h6p
     refine sq (fun h7 h7p h7s=>?_) fun h7 h7p h7s=>?_
     ·try simp only[Q,Pat.cs_len] at h7p
      exact jnb rfl
     ·try simp only[Q,Pat.cs_len] at h7p
      exact jnb rfl
    ·try simp only[Q,Pat.cs_len] at h6p
     exact jnb rfl
   refine WRest.done ?_
   refine tv ?_
   refine sq (fun h8 h8p h8s=>?_) fun h8 h8p h8s=>?_
   ·try simp only[Q,Pat.cs_len] at h8p
    refine Walk.idx zaY .none rfl rfl rfl rfl (zak (by omega)) rfl ?_
    refine evd [] [] ?_
    refine Walk.idx sl35 .none rfl rfl rfl rfl (zbm (by omega)) rfl ?_
    refine evd [] [] ?_
    refine Walk.callT 6 zhy (zfq hw n (a:=(nth (zaa w ⟨a,k⟩ p) i).data) (k:=(nth (zaa w ⟨a,k⟩ p) i).index) (p:=nth p.kids i) (xs:=xs++zaD ⟨a,k⟩ p++zaS (zar w n) ((zaa w ⟨a,k⟩ p).take i) (p.kids.take i)) (zbS hs (by omega)) (by omega) (hin _ (zai (by omega))) (Pats.ok_mem hok.2 _ (zai (by omega))) (by have:=znS (zd4 w n) (a:=zaa w ⟨a,k⟩ p) (b:=p.kids) (i:=i) (by omega);simp only[List.length_append];omega)) rfl .none rfl rfl (.cons (.refl _) (.cons (.refl _) (.cons (.refl _) (.cons (.refl _) .nil)))) rfl (by rfl) ?_
    refine evd [] [] ?_
    refine dr ?_
    refine CWp.retok 0 6 5 rfl rfl rfl rfl rfl ?_
    refine evc [] [] ?_
    refine ar ?_
    refine Exists.intro (i+1) ⟨(by omega),(by omega),Sub.x (by kernel_rfl) (by kernel_rfl) ⟨⟨_,rfl,(LeA.glg (by(rw[zdv (by omega) (by omega)];simp[List.append_assoc];done)))⟩,⟨⟨_,rfl,(LeA.eqi (by rfl))⟩,trivial⟩⟩ (by kernel_rfl) (by kernel_rfl) ⟨zae (by(first|rfl|(simp[zaS,zaD, *];done)|(rw[zdv (by omega) (by omega)];simp[List.append_assoc];done)|omega)),trivial⟩⟩
   ·try simp only[Q,Pat.cs_len] at h8p
    refine rn [(5,some (.tok ((xs++zar w (n+1) ⟨a,k⟩ p).map Vt.c).length 3))] (r1 rfl) (.glg ?_) ⟨rfl,rfl⟩ (SubO.get ⟨.inr (by(show some (Res.tok _ _)=some (Res.tok _ _);congr 2;rw[zar,←zgW (f:=zar w n) hl (i:=i) (by omega)];simp)),⟨.inl rfl,trivial⟩⟩) (zaq rfl)
    all_goals (rw[zar,←zgW (f:=zar w n) hl (i:=i) (by omega)];simp)
theorem zcY {w:List Data} (hw:WT w){n:Nat}{a k:Int}{p:Pat} (hs:zap w n ⟨a,k⟩ p=true) (hn:n≤1000) (ht:TyIn w.length ⟨a,k⟩) (hok:p.ok) (hb:p.size≤1000000000000):
  FnD Tryz.prog 70 [.nils,.d (zag w),.agg [.d (.i a),.d (.i k)],.agg [.d (.i p.op),.d (.i p.ctor),.d (.i p.n),.d (.i p.m),.d (.i p.var),.d (zaH p.kids)]] [] (.d (zcK (zar w n ⟨a,k⟩ p))) []:=by
 have h:=zfq hw n (xs:=[]) hs hn ht hok (by simp only[List.length_nil];omega)
 exact FnD.nilTok (by simp[AV.idsL,AV.ids]) h
theorem zjH {l:List Vt}{i:Nat} (h:i<l.length) (h2:¬zbv l (nth l i).var=i):zmN l=false:=zcQ h (by simpa using h2)
theorem zeC {w:List Data} (hw:WT w):∀(n:Nat){a k:Int}{p:Pat},zap w n ⟨a,k⟩ p=true→n≤1000→TyIn w.length ⟨a,k⟩→p.ok→p.size≤1000000000000→
  FnD Tryz.prog 93 [.d (zag w),.agg [.d (.i a),.d (.i k)],.agg [.d (.i p.op),.d (.i p.ctor),.d (.i p.n),.d (.i p.m),.d (.i p.var),.d (zaH p.kids)]] [] (.d (.bool (linP w n ⟨a,k⟩ p))) []
 |0,a,k,p,hs,_,_,_,_=>by simp[zap] at hs
 |n+1,a,k,p,hs,hn,ht,hok,hb=>by
  have hok':=hok
  rw[Pat.ok_iff] at hok
  have hb':=hb
  rw[Pat.size_eq] at hb'
  obtain⟨ho,hl⟩:=zcz hs
  have hin:=zfG hw ht ho
  have hlen:=zf5 hw ht (zcn ho)
  have hvl:=zd4 w (n+1) ⟨a,k⟩ p
  have hsz:∀i,i<p.kids.length→(nth p.kids i).size≤1000000000000:=fun i hi=>by have:=za8 hi;omega
  by_cases hop5:p.op=5
  ·have e1:zaa w ⟨a,k⟩ p=[⟨a,k⟩,⟨a,k⟩]:=by unfold zaa;rw[if_neg (by omega),if_pos hop5]
   have hl2:p.kids.length=2:=by rw[hl,e1];rfl
   have s0:zap w n ⟨a,k⟩ (nth p.kids 0)=true:=by have:=zbS hs (i:=0) (by omega);rw[e1] at this;exact this
   have s1:zap w n ⟨a,k⟩ (nth p.kids 1)=true:=by have:=zbS hs (i:=1) (by omega);rw[e1] at this;exact this
   have v0:=zd4 w n ⟨a,k⟩ (nth p.kids 0)
   have v1:=zd4 w n ⟨a,k⟩ (nth p.kids 1)
   have z0:=hsz 0 (by omega)
   have z1:=hsz 1 (by omega)
   refine bd Tryz.f93 70 [] [] fun w0 F0 own kept hk=>?_
   refine Walk.box (id:=3004) .none rfl rfl rfl rfl rfl rfl rfl ?_
   refine Walk.box (id:=3005) .none rfl rfl rfl rfl rfl rfl rfl ?_
   refine ev ?_
   refine Walk.call (cr:=[]) zkB (zcX hw ht (zcn ho)) rfl .none rfl rfl (LeL.refl _) trivial rfl rfl rfl ?_
   refine ev ?_
   refine CWp.loopX (ι:=Nat) hk (fun i=>[(8,.d (.i (i:Int)))]) [6,15,16,17,18,19,20,21,22,23,24,25,26,27,28,29,30,31,32] (fun i=>[]) (fun i=>i≤(zaa w ⟨a,k⟩ p).length∧∀i',i'<i→linP w n (nth (zaa w ⟨a,k⟩ p) i') (nth p.kids i')=true) (fun i=>(zaa w ⟨a,k⟩ p).length-i) 0 ⟨by omega,fun _ h=>absurd h (by omega)⟩ ⟨⟨_,rfl,(LeA.eqi (by first|rfl|(simp;done)|(simp_all;done)|omega))⟩,trivial⟩ trivial (fun x=>rfl) (fun i hg1=>?_)
   refine evc [] [] ?_
   refine sq (fun h1 h1p h1s=>?_) fun h1 h1p h1s=>?_
   ·try simp only[Q,Pat.cs_len] at h1p
    refine Walk.idx zaY .none rfl rfl rfl rfl (zak (by omega)) rfl ?_
    refine evd [] [] ?_
    refine Walk.idx sl35 .none rfl rfl rfl rfl (zbm (by omega)) rfl ?_
    refine evd [] [] ?_
    refine Walk.call (cr:=[]) zmM (zeC hw n (zbS hs (by omega)) (by omega) (hin _ (zai (by omega))) (Pats.ok_mem hok.2 _ (zai (by omega))) (hsz _ (by omega))) rfl .none rfl rfl (LeL.refl _) trivial rfl rfl rfl ?_
    refine evd [] [] ?_
    refine dr ?_
    refine sq (fun h2 h2p h2s=>?_) fun h2 h2p h2s=>?_
    ·try simp only[Q,Pat.cs_len] at h2p
     refine rn0 (r1 rfl) (.eqd ?_)
     all_goals (refine congrArg D.bool ?_;unfold linP;rw[if_pos hop5];(rw[zbT (i:=i) (by omega) (by omega) (by assumption),Bool.false_and]))
    ·try simp only[Q,Pat.cs_len] at h2p
     refine ar ?_
     refine Exists.intro (i+1) ⟨⟨by omega,zaZ hg1.2 (by assumption)⟩,(by omega),Sub.x (by kernel_rfl) (by kernel_rfl) ⟨⟨_,rfl,(LeA.eqi (by first|rfl|(simp;done)|(simp_all;done)|omega))⟩,trivial⟩ (by kernel_rfl) (by kernel_rfl) trivial⟩
   ·try simp only[Q,Pat.cs_len] at h1p
    refine sq (fun h3 h3p h3s=>?_) fun h3 h3p h3s=>?_
    ·try simp only[Q,Pat.cs_len] at h3p
     refine Walk.idx (i:=0) sl35 .none rfl rfl rfl rfl (zbm (by omega)) rfl ?_
     refine evd [] [] ?_
     refine Walk.call (cr:=[]) zhy (zcY hw s0 (by omega) ht (Pats.ok_mem hok.2 _ (zai (by omega))) z0) rfl .none rfl rfl (LeL.refl _) trivial rfl rfl rfl ?_
     refine evd [] [] ?_
     refine Walk.idx (i:=1) sl35 .none rfl rfl rfl rfl (zbm (by omega)) rfl ?_
     refine evd [] [] ?_
     refine Walk.call (cr:=[]) zhy (zcY hw s1 (by omega) ht (Pats.ok_mem hok.2 _ (zai (by omega))) z1) rfl .none rfl rfl (LeL.refl _) trivial rfl rfl rfl ?_
     refine Walk.call (cr:=[]) zrG (zli (by omega) (by omega)) rfl .none rfl rfl (LeL.refl _) trivial rfl rfl rfl ?_
     refine evd [] [] ?_
     refine dr ?_
     refine rn0 (r1 rfl) (.eqd ?_)
     all_goals (refine congrArg D.bool ?_;unfold linP;rw[if_pos hop5];(rw[zcm (by omega) (fun x hx=>hg1.2 x (by omega)),Bool.true_and]))
    ·try simp only[Q,Pat.cs_len] at h3p
     exfalso;simp_all
  ·skip
   refine bd Tryz.f93 70 [] [] fun w0 F0 own kept hk=>?_
   refine Walk.box (id:=3004) .none rfl rfl rfl rfl rfl rfl rfl ?_
   refine Walk.box (id:=3005) .none rfl rfl rfl rfl rfl rfl rfl ?_
   refine ev ?_
   refine Walk.call (cr:=[]) zkB (zcX hw ht (zcn ho)) rfl .none rfl rfl (LeL.refl _) trivial rfl rfl rfl ?_
   refine ev ?_
   refine CWp.loopX (ι:=Nat) hk (fun i=>[(8,.d (.i (i:Int)))]) [6,15,16,17,18,19,20,21,22,23,24,25,26,27,28,29,30,31,32] (fun i=>[]) (fun i=>i≤(zaa w ⟨a,k⟩ p).length∧∀i',i'<i→linP w n (nth (zaa w ⟨a,k⟩ p) i') (nth p.kids i')=true) (fun i=>(zaa w ⟨a,k⟩ p).length-i) 0 ⟨by omega,fun _ h=>absurd h (by omega)⟩ ⟨⟨_,rfl,(LeA.eqi (by first|rfl|(simp;done)|(simp_all;done)|omega))⟩,trivial⟩ trivial (fun x=>rfl) (fun i hg1=>?_)
   refine evc [] [] ?_
   refine sq (fun h1 h1p h1s=>?_) fun h1 h1p h1s=>?_
   ·try simp only[Q,Pat.cs_len] at h1p
    refine Walk.idx zaY .none rfl rfl rfl rfl (zak (by omega)) rfl ?_
    refine evd [] [] ?_
    refine Walk.idx sl35 .none rfl rfl rfl rfl (zbm (by omega)) rfl ?_
    refine evd [] [] ?_
    refine Walk.call (cr:=[]) zmM (zeC hw n (zbS hs (by omega)) (by omega) (hin _ (zai (by omega))) (Pats.ok_mem hok.2 _ (zai (by omega))) (hsz _ (by omega))) rfl .none rfl rfl (LeL.refl _) trivial rfl rfl rfl ?_
    refine evd [] [] ?_
    refine dr ?_
    refine sq (fun h2 h2p h2s=>?_) fun h2 h2p h2s=>?_
    ·try simp only[Q,Pat.cs_len] at h2p
     refine rn0 (r1 rfl) (.eqd ?_)
     all_goals (refine congrArg D.bool ?_;unfold linP;rw[if_neg hop5];(rw[zbT (i:=i) (by omega) (by omega) (by assumption),Bool.false_and];done))
    ·try simp only[Q,Pat.cs_len] at h2p
     refine ar ?_
     refine Exists.intro (i+1) ⟨⟨by omega,zaZ hg1.2 (by assumption)⟩,(by omega),Sub.x (by kernel_rfl) (by kernel_rfl) ⟨⟨_,rfl,(LeA.eqi (by first|rfl|(simp;done)|(simp_all;done)|omega))⟩,trivial⟩ (by kernel_rfl) (by kernel_rfl) trivial⟩
   ·try simp only[Q,Pat.cs_len] at h1p
    refine sq (fun h3 h3p h3s=>?_) fun h3 h3p h3s=>?_
    ·try simp only[Q,Pat.cs_len] at h3p
     exfalso;simp_all
    ·try simp only[Q,Pat.cs_len] at h3p
     refine Walk.call (cr:=[]) zhy (zcY hw hs hn ht hok' hb) rfl .none rfl rfl (LeL.refl _) trivial rfl rfl rfl ?_
     refine ev ?_
     refine CWp.loopX (ι:=Nat) hk (fun j=>[(10,.d (.i (j:Int)))]) [6,55,56,57,58,59,60,61,62,63,64,65,66,67,68,69] (fun j=>[]) (fun j=>j≤(zar w (n+1) ⟨a,k⟩ p).length∧∀j',j'<j→zbv (zar w (n+1) ⟨a,k⟩ p) (nth (zar w (n+1) ⟨a,k⟩ p) j').var=(j':Int)) (fun j=>(zar w (n+1) ⟨a,k⟩ p).length-j) 0 ⟨by omega,fun _ h=>absurd h (by omega)⟩ ⟨⟨_,rfl,(LeA.eqi (by first|rfl|(simp;done)|(simp_all;done)|omega))⟩,trivial⟩ trivial (fun x=>rfl) (fun j hg2=>?_)
     refine evc [] [] ?_
     refine sq (fun h4 h4p h4s=>?_) fun h4 h4p h4s=>?_
     ·try simp only[Q,Pat.cs_len] at h4p
      refine Walk.idx sl86 .none rfl rfl rfl rfl (zak (by omega)) rfl ?_
      refine ev ?_
      refine Walk.call (cr:=[]) zoC (zfo (by omega)) rfl .none rfl rfl (LeL.refl _) trivial rfl rfl rfl ?_
      refine ev ?_
      refine sq (fun h5 h5p h5s=>?_) fun h5 h5p h5s=>?_
      ·try simp only[Q,Pat.cs_len] at h5p
       refine rn0 (r1 rfl) (.eqd ?_)
       all_goals (refine congrArg D.bool ?_;unfold linP;rw[if_neg hop5];(rw[zcm (by omega) (fun x hx=>hg1.2 x (by omega)),Bool.true_and];first|(rw[zjH (i:=j) (by omega) (by omega)];done)|(symm;exact zcE (fun x hx=>decide_eq_true (hg2.2 x (by omega))))))
      ·try simp only[Q,Pat.cs_len] at h5p
       refine ar ?_
       refine Exists.intro (j+1) ⟨⟨by omega,zaZ hg2.2 (by omega)⟩,(by omega),Sub.x (by kernel_rfl) (by kernel_rfl) ⟨⟨_,rfl,(LeA.eqi (by first|rfl|(simp;done)|(simp_all;done)|omega))⟩,trivial⟩ (by kernel_rfl) (by kernel_rfl) trivial⟩
     ·try simp only[Q,Pat.cs_len] at h4p
      refine rn0 (r1 rfl) (.eqd ?_)
      all_goals (refine congrArg D.bool ?_;unfold linP;rw[if_neg hop5];(rw[zcm (by omega) (fun x hx=>hg1.2 x (by omega)),Bool.true_and];first|(rw[zjH (i:=j) (by omega) (by omega)];done)|(symm;exact zcE (fun x hx=>decide_eq_true (hg2.2 x (by omega))))))
def isP (w:List Data) (t:Ty) (p:Pat):Bool:=zap w 10 t p&&(decide ((p.size:Int)≤60)&&linP w 10 t p)
theorem zgy {w:List Data} (hw:WT w){a k:Int}{p:Pat} (ht:TyIn w.length ⟨a,k⟩) (hok:p.ok) (hb:p.size≤1000000000000):
  FnD Tryz.prog 68 [.d (zag w),.agg [.d (.i a),.d (.i k)],.agg [.d (.i p.op),.d (.i p.ctor),.d (.i p.n),.d (.i p.m),.d (.i p.var),.d (zaH p.kids)]] [] (.d (.bool (isP w ⟨a,k⟩ p))) []:=by
 have hc:=zm4 p 60
 by_cases hs:zap w 10 ⟨a,k⟩ p=true
 ·skip
  refine bd Tryz.f68 22 [] [1] fun w0 F0 own kept hk=>?_
  refine Walk.box (id:=3004) .none rfl rfl rfl rfl rfl rfl rfl ?_
  refine Walk.box (id:=3005) .none rfl rfl rfl rfl rfl rfl rfl ?_
  refine ev ?_
  refine CWp.regionJ ?_
  refine WRest.join 9 [(15,.d (.bool (decide ((p.size:Int)≤60))))] [7,8,9,10,11,12,13,14] ?_ ?_
  ·
   refine ev ?_
   refine Walk.call (cr:=[]) zoA (ze8 hw 10 (by omega) (by omega) ht hok) rfl .none rfl rfl (LeL.refl _) trivial rfl rfl rfl ?_
   refine ev ?_
   refine sq (fun h1 h1p h1s=>?_) fun h1 h1p h1s=>?_
   ·try simp only[Q] at h1p
    refine Walk.call (cr:=[]) zoB (ze7 _ (Nat.le_refl _) hb hok (by omega) (by omega)) rfl (.some rfl rfl h1) rfl rfl (LeL.refl _) trivial rfl rfl rfl ?_
    refine evs [] [(11,true)] ?_ ⟨⟨_,rfl,h1⟩,trivial⟩
    exact jnb rfl
   ·try simp only[Q] at h1p
    exact jnb rfl
  refine WRest.done ?_
  refine ev ?_
  refine sq (fun h2 h2p h2s=>?_) fun h2 h2p h2s=>?_
  ·try simp only[Q] at h2p
   refine Walk.call (cr:=[]) zmM (zeC hw 10 hs (by omega) ht hok hb) rfl (.some rfl rfl h2) rfl rfl (LeL.refl _) trivial rfl rfl rfl ?_
   refine evs [] [(16,true)] ?_ ⟨⟨_,rfl,h2⟩,trivial⟩
   refine rn0 (r1 rfl) (.eqd ?_)
   all_goals (refine congrArg D.bool ?_;unfold isP;simp only[hs,Bool.true_and];first|(simp_all;done)|(simp_all;intro;omega))
  ·try simp only[Q] at h2p
   refine rn0 (r1 rfl) (.eqd ?_)
   all_goals (refine congrArg D.bool ?_;unfold isP;simp only[hs,Bool.true_and];first|(simp_all;done)|(simp_all;intro;omega))
 ·have hs':zap w 10 ⟨a,k⟩ p=false:=by simpa using hs
  refine bd Tryz.f68 22 [] [1] fun w0 F0 own kept hk=>?_
  refine Walk.box (id:=3004) .none rfl rfl rfl rfl rfl rfl rfl ?_
  refine Walk.box (id:=3005) .none rfl rfl rfl rfl rfl rfl rfl ?_
  refine ev ?_
  refine CWp.regionJ ?_
  refine WRest.join 9 [(15,.d (.bool (false)))] [7,8,9,10,11,12,13,14] ?_ ?_
  ·
   refine ev ?_
   refine Walk.call (cr:=[]) zoA (ze8 hw 10 (by omega) (by omega) ht hok) rfl .none rfl rfl (LeL.refl _) trivial rfl rfl rfl ?_
   refine ev ?_
   refine sq (fun h1 h1p h1s=>?_) fun h1 h1p h1s=>?_
   ·try simp only[Q] at h1p
    refine Walk.call (cr:=[]) zoB (ze7 _ (Nat.le_refl _) hb hok (by omega) (by omega)) rfl (.some rfl rfl h1) rfl rfl (LeL.refl _) trivial rfl rfl rfl ?_
    refine evs [] [(11,true)] ?_ ⟨⟨_,rfl,h1⟩,trivial⟩
    exact jnb rfl
   ·try simp only[Q] at h1p
    exact jnb rfl
  refine WRest.done ?_
  refine ev ?_
  refine sq (fun h2 h2p h2s=>?_) fun h2 h2p h2s=>?_
  ·try simp only[Q] at h2p
   refine Walk.call (cr:=[]) zmM (show FnD Tryz.prog 93 [.d (zag w),.agg [.d (.i a),.d (.i k)],.agg [.d (.i p.op),.d (.i p.ctor),.d (.i p.n),.d (.i p.m),.d (.i p.var),.d (zaH p.kids)]] [] (.d (.bool true)) [] from absurd (by assumption:(false:Bool)=true) (by simp)) rfl (.some rfl rfl h2) rfl rfl (LeL.refl _) trivial rfl rfl rfl ?_
   refine evs [] [(16,true)] ?_ ⟨⟨_,rfl,h2⟩,trivial⟩
   refine rn0 (r1 rfl) (.eqd ?_)
   all_goals (refine congrArg D.bool ?_;unfold isP;simp_all)
  ·try simp only[Q] at h2p
   refine rn0 (r1 rfl) (.eqd ?_)
   all_goals (refine congrArg D.bool ?_;unfold isP;simp_all)
end Go.Proofs.YtflgpdjbgfkhoaaGreat
namespace Go.Proofs.YtflgpdjbgfkhoaaGreat
open Go
set_option linter.unusedSimpArgs false
set_option linter.unusedVariables false
def tyS (s:Nat):Ty:=⟨((s / 4:Nat):Int),((s % 4:Nat):Int)⟩
def zep (t:Ty):Nat:=t.data.toNat*4+t.index.toNat
def dv (f:Nat→Nat) (t:Ty):Nat:=if t.data = -1 then 1 else f (zep t)
def zbp (f:Nat→Nat):Nat→List Ty→Nat
 |m,[]=>m+1
 |m,t::r=>if dv f t=0 then 0 else zbp f (max m (dv f t)) r
def most (w:List Data) (f:Nat→Nat) (t:Ty) (c:Int):Nat:=zbp f 0 (zam w t c)
def updF (f:Nat→Nat) (s n:Nat):Nat→Nat:=fun i=>if i=s then n else f i
def zbF (w:List Data) (s:Nat) (f:Nat→Nat) (c:Int):Nat→Nat:=
 if 0<most w f (tyS s) c∧(f s=0∨most w f (tyS s) c<f s) then updF f s (most w f (tyS s) c) else f
def zdu (w:List Data) (f:Nat→Nat) (s:Nat):Nat→Nat:=(zaX w (tyS s)).foldl (zbF w s) f
def zgT (w:List Data) (f:Nat→Nat):Nat→Nat:=(List.range (w.length*4)).foldl (zdu w) f
def zbZ (w:List Data):Nat→Nat→Nat
 |0=>fun _=>0
 |k+1=>zgT w (zbZ w k)
def zao (w:List Data):Nat→Nat:=zbZ w (w.length*4+1)
def Hd (w:List Data):Nat→Ty→Prop
 |0,_=>False
 |d+1,t=>t.data = -1∨∃c∈zaX w t,t.data≠ -1∧∀u∈zam w t c,Hd w d u
def InS (n:Nat) (u:Ty):Prop:=u.data = -1∨(zep u<n∧tyS (zep u)=u)
def ClosedT (w:List Data):Prop:=∀s,s<w.length*4→∀c∈zaX w (tyS s),∀u∈zam w (tyS s) c,InS (w.length*4) u
theorem zkq (s:Nat):(tyS s).data≠ -1:=by simp only[tyS];omega
theorem Hd_mono (w:List Data):∀(d:Nat) (t:Ty),Hd w d t→Hd w (d+1) t
 |0,_,h=>h.elim
 |d+1,t,h=>by
  rcases h with h|⟨c,hc,h1,h⟩
  ·exact .inl h
  ·exact .inr ⟨c,hc,h1,fun u hu=>Hd_mono w d u (h u hu)⟩
theorem Hd_le {w:List Data}{d e:Nat}{t:Ty} (h:d≤e) (hd:Hd w d t):Hd w e t:=by
 induction h with
 |refl=>exact hd
 |step _ ih=>exact Hd_mono w _ t ih
section
variable {w:List Data}
def Bet (f g:Nat→Nat):Prop:=∀s,0<f s→0<g s∧g s≤f s
def Snd (w:List Data) (f:Nat→Nat):Prop:=∀s,s<w.length*4→0<f s→Hd w (f s) (tyS s)
def Cmp (w:List Data) (k:Nat) (f:Nat→Nat):Prop:=∀s,s<w.length*4→∀d,d≤k→Hd w d (tyS s)→0<f s∧f s≤d
theorem Bet.refl (f:Nat→Nat):Bet f f:=fun s h=>⟨h,Nat.le_refl _⟩
theorem Bet.trans {f g h:Nat→Nat} (a:Bet f g) (b:Bet g h):Bet f h:=fun s hs=>⟨(b s (a s hs).1).1,Nat.le_trans (b s (a s hs).1).2 (a s hs).2⟩
theorem Cmp.bet {k:Nat}{f g:Nat→Nat} (h:Cmp w k f) (b:Bet f g):Cmp w k g:=fun s hs d hd hh=>
 ⟨(b s (h s hs d hd hh).1).1,Nat.le_trans (b s (h s hs d hd hh).1).2 (h s hs d hd hh).2⟩
theorem ziM {f:Nat→Nat}:∀ {l:List Ty}{m k:Nat},m≤k→(∀u∈l,0<dv f u∧dv f u≤k)→0<zbp f m l∧zbp f m l≤k+1
 | [],m,k,hm,_=>by simp only[zbp];omega
 |t::r,m,k,hm,h=>by
  have h1:=h t (by simp)
  simp only[zbp]
  rw[if_neg (by omega)]
  exact ziM (by omega) (fun u hu=>h u (by simp[hu]))
theorem zgI {f:Nat→Nat}:∀ {l:List Ty}{m:Nat},0<zbp f m l→m<zbp f m l∧∀u∈l,0<dv f u∧dv f u<zbp f m l
 | [],m,_=>⟨by simp only[zbp];omega,fun u hu=>by simp at hu⟩
 |t::r,m,h=>by
  simp only[zbp] at h ⊢
  by_cases h0:dv f t=0
  ·rw[if_pos h0] at h;omega
  ·rw[if_neg h0] at h ⊢
   obtain⟨h1,h2⟩:=zgI h
   refine⟨by omega,fun u hu=>?_⟩
   rcases List.mem_cons.1 hu with rfl|hu
   ·omega
   ·exact h2 u hu
theorem zoG {f:Nat→Nat} (hs:Snd w f){u:Ty} (hu:InS (w.length*4) u) (h:0<dv f u):Hd w (dv f u) u:=by
 unfold dv at h ⊢
 split
 ·rename_i he;exact .inl he
 ·rename_i he
  rw[if_neg he] at h
  rcases hu with hu|⟨h1,h2⟩
  ·exact absurd hu he
  ·have:=hs _ h1 h
   rwa [h2] at this
theorem zna {k:Nat}{f:Nat→Nat} (hc:Cmp w k f){u:Ty} (hu:InS (w.length*4) u) (h:Hd w k u):0<dv f u∧dv f u≤k:=by
 unfold dv
 split
 ·cases k with
  |zero=>exact h.elim
  |succ k=>omega
 ·rename_i he
  rcases hu with hu|⟨h1,h2⟩
  ·exact absurd hu he
  ·exact hc _ h1 k (Nat.le_refl _) (by rw[h2];exact h)
theorem zmn {s:Nat}{f:Nat→Nat}{c:Int}:Bet f (zbF w s f c):=by
 intro i hi
 unfold zbF
 split
 ·rename_i h
  unfold updF
  split
  ·subst i;omega
  ·omega
 ·omega
theorem zpF (hcl:ClosedT w){s:Nat}{f:Nat→Nat}{c:Int} (hs:s<w.length*4) (hc:c∈zaX w (tyS s)) (h:Snd w f):Snd w (zbF w s f c):=by
 unfold zbF
 split
 ·rename_i hn
  intro i hi h0
  unfold updF at h0 ⊢
  by_cases he:i=s
  ·subst he
   rw[if_pos rfl] at h0 ⊢
   obtain⟨h1,h2⟩:=zgI (m:=0) hn.1
   obtain⟨n,hn'⟩:∃n,most w f (tyS i) c=n+1:=⟨most w f (tyS i) c-1,by omega⟩
   rw[hn']
   refine .inr ⟨c,hc,zkq _,fun u hu=>?_⟩
   have h3:=h2 u hu
   have h4:zbp f 0 (zam w (tyS i) c)=n+1:=hn'
   exact Hd_le (by omega) (zoG h (hcl i hi c hc u hu) h3.1)
  ·rw[if_neg he] at h0 ⊢
   exact h i hi h0
 ·exact h
theorem zpD (hcl:ClosedT w){s k:Nat}{f:Nat→Nat}{c:Int} (hs:s<w.length*4) (hc:c∈zaX w (tyS s)) (h:Cmp w k f) (hh:∀u∈zam w (tyS s) c,Hd w k u):
  0<zbF w s f c s∧zbF w s f c s≤k+1:=by
 have hm:=ziM (f:=f) (m:=0) (k:=k) (by omega) (fun u hu=>zna h (hcl s hs c hc u hu) (hh u hu))
 have hm':0<most w f (tyS s) c∧most w f (tyS s) c≤k+1:=hm
 unfold zbF
 split
 ·unfold updF;rw[if_pos rfl];exact hm'
 ·rename_i hn
  have:¬(f s=0∨most w f (tyS s) c<f s):=fun h2=>hn ⟨hm'.1,h2⟩
  omega
theorem zoo (hcl:ClosedT w){s k:Nat} (hs:s<w.length*4):∀(C:List Int) (f:Nat→Nat),(∀c∈C,c∈zaX w (tyS s))→Snd w f→Cmp w k f→
  Bet f (C.foldl (zbF w s) f)∧Snd w (C.foldl (zbF w s) f)∧∀c∈C,(∀u∈zam w (tyS s) c,Hd w k u)→0<C.foldl (zbF w s) f s∧C.foldl (zbF w s) f s≤k+1
 | [],f,_,h1,_=>⟨Bet.refl f,h1,fun c hc=>by simp at hc⟩
 |c::r,f,hC,h1,h2=>by
  have hc:=hC c (by simp)
  obtain⟨g1,g2,g3⟩:=zoo hcl hs r (zbF w s f c) (fun x hx=>hC x (by simp[hx])) (zpF hcl hs hc h1) (h2.bet zmn)
  refine⟨zmn.trans g1,g2,fun x hx hh=>?_⟩
  rcases List.mem_cons.1 hx with rfl|hx
  ·obtain⟨q1,q2⟩:=zpD hcl hs hc h2 hh
   exact⟨(g1 s q1).1,Nat.le_trans (g1 s q1).2 q2⟩
  ·exact g3 x hx hh
theorem zql (hcl:ClosedT w){s k:Nat} (hs:s<w.length*4){f:Nat→Nat} (h1:Snd w f) (h2:Cmp w k f):
  Bet f (zdu w f s)∧Snd w (zdu w f s)∧∀d,d≤k+1→Hd w d (tyS s)→0<zdu w f s s∧zdu w f s s≤d:=by
 obtain⟨g1,g2,g3⟩:=zoo hcl hs (zaX w (tyS s)) f (fun c hc=>hc) h1 h2
 refine⟨g1,g2,fun d hd hh=>?_⟩
 rcases Nat.lt_or_ge d (k+1) with h|h
 ·have:=h2 s hs d (by omega) hh
  exact⟨(g1 s this.1).1,Nat.le_trans (g1 s this.1).2 this.2⟩
 ·obtain rfl:d=k+1:=by omega
  rcases hh with hh|⟨c,hc,_,hh⟩
  ·exact absurd hh (zkq s)
  ·exact g3 c hc hh
theorem zmr (hcl:ClosedT w){k:Nat}:∀(L:List Nat) (f:Nat→Nat),(∀s∈L,s<w.length*4)→Snd w f→Cmp w k f→
  Bet f (L.foldl (zdu w) f)∧Snd w (L.foldl (zdu w) f)∧∀s∈L,∀d,d≤k+1→Hd w d (tyS s)→0<L.foldl (zdu w) f s∧L.foldl (zdu w) f s≤d
 | [],f,_,h1,_=>⟨Bet.refl f,h1,fun s hs=>by simp at hs⟩
 |s::r,f,hL,h1,h2=>by
  obtain⟨p1,p2,p3⟩:=zql hcl (hL s (by simp)) h1 h2
  obtain⟨g1,g2,g3⟩:=zmr hcl r (zdu w f s) (fun x hx=>hL x (by simp[hx])) p2 (h2.bet p1)
  refine⟨p1.trans g1,g2,fun x hx d hd hh=>?_⟩
  rcases List.mem_cons.1 hx with rfl|hx
  ·have:=p3 d hd hh
   exact⟨(g1 x this.1).1,Nat.le_trans (g1 x this.1).2 this.2⟩
  ·exact g3 x hx d hd hh
theorem zpQ (hcl:ClosedT w){k:Nat}{f:Nat→Nat} (h1:Snd w f) (h2:Cmp w k f):Bet f (zgT w f)∧Snd w (zgT w f)∧Cmp w (k+1) (zgT w f):=by
 obtain⟨g1,g2,g3⟩:=zmr hcl (List.range (w.length*4)) f (fun s hs=>List.mem_range.1 hs) h1 h2
 exact⟨g1,g2,fun s hs d hd hh=>g3 s (List.mem_range.2 hs) d hd hh⟩
theorem zdV (hcl:ClosedT w):∀k,Snd w (zbZ w k)∧Cmp w k (zbZ w k)
 |0=>⟨fun s _ h=>absurd h (by simp[zbZ]),fun s _ d hd hh=>by
   obtain rfl:d=0:=by omega
   exact hh.elim⟩
 |k+1=>(zpQ hcl (zdV hcl k).1 (zdV hcl k).2).2
theorem ziz (hcl:ClosedT w){d:Nat} (h1:1≤d) (h:∀s,s<w.length*4→Hd w (d+1) (tyS s)→Hd w d (tyS s)):∀e s,s<w.length*4→Hd w e (tyS s)→Hd w d (tyS s)
 |0,s,_,hh=>hh.elim
 |e+1,s,hs,hh=>by
  refine h s hs ?_
  rcases hh with hh|⟨c,hc,h2,hh⟩
  ·exact .inl hh
  ·refine .inr ⟨c,hc,h2,fun u hu=>?_⟩
   rcases hcl s hs c hc u hu with hi|⟨q1,q2⟩
   ·cases d with
    |zero=>omega
    |succ d=>exact .inl hi
   ·have:=ziz hcl h1 h e _ q1 (by rw[q2];exact hh u hu)
    rwa [q2] at this
open Classical in
noncomputable def cntH (w:List Data) (d:Nat):Nat:=(List.range (w.length*4)).countP (fun s=>decide (Hd w d (tyS s)))
theorem zl4 {p q:Nat→Bool}:∀ {l:List Nat},(∀x∈l,p x=true→q x=true)→(∃x∈l,p x=false∧q x=true)→l.countP p<l.countP q
 | [],_,h=>by obtain⟨x,hx,_⟩:=h;simp at hx
 |y::r,hpq,h=>by
  have hle:r.countP p≤r.countP q:=List.countP_mono_left (fun x hx hp=>hpq x (by simp[hx]) hp)
  rw[List.countP_cons,List.countP_cons]
  obtain⟨x,hx,h1,h2⟩:=h
  rcases List.mem_cons.1 hx with rfl|hx
  ·rw[h1,h2];simp only[Bool.false_eq_true,if_false,if_true];omega
  ·have:=zl4 (fun x hx hp=>hpq x (by simp[hx]) hp) ⟨x,hx,h1,h2⟩
   have h3:=hpq y (by simp)
   cases hp:p y with
   |false=>simp only[Bool.false_eq_true,if_false];omega
   |true=>rw[h3 hp];simp only[if_true];omega
open Classical in
theorem zrT {d:Nat} (h:¬ ∀s,s<w.length*4→Hd w (d+1) (tyS s)→Hd w d (tyS s)):cntH w d<cntH w (d+1):=by
 have h2:∃s,s<w.length*4∧Hd w (d+1) (tyS s)∧¬Hd w d (tyS s):=by
  refine Classical.byContradiction fun hn=>h fun s hs hh=>Classical.byContradiction fun hd=>hn ⟨s,hs,hh,hd⟩
 obtain⟨s,hs,h3,h4⟩:=h2
 unfold cntH
 exact zl4 (fun x _ hx=>by rw[decide_eq_true_eq] at hx ⊢;exact Hd_mono w d _ hx) ⟨s,List.mem_range.2 hs,by simp[h4],by simp[h3]⟩
theorem zpc:∀m,(∀d,1≤d→d≤m→¬ ∀s,s<w.length*4→Hd w (d+1) (tyS s)→Hd w d (tyS s))→m≤cntH w (m+1)
 |0,_=>Nat.zero_le _
 |m+1,h=>by
  have:=zpc m (fun d h1 h2=>h d h1 (by omega))
  have:=zrT (w:=w) (d:=m+1) (h (m+1) (by omega) (by omega))
  omega
theorem zrY (hcl:ClosedT w){e s:Nat} (hs:s<w.length*4) (h:Hd w e (tyS s)):Hd w (w.length*4+1) (tyS s):=by
 have hex:∃d,1≤d∧d≤w.length*4+1∧∀s,s<w.length*4→Hd w (d+1) (tyS s)→Hd w d (tyS s):=by
  refine Classical.byContradiction fun hn=>?_
  have h1:=zpc (w:=w) (w.length*4+1) (fun d h1 h2 h3=>hn ⟨d,h1,h2,h3⟩)
  have h2:cntH w (w.length*4+1+1)≤(List.range (w.length*4)).length:=List.countP_le_length
  rw[List.length_range] at h2
  omega
 obtain⟨d,h1,h2,h3⟩:=hex
 exact Hd_le h2 (ziz hcl h1 h3 e s hs h)
theorem zpE {s i:Nat}{f:Nat→Nat}{c:Int} (h:i≠s):zbF w s f c i=f i:=by
 unfold zbF;split
 ·unfold updF;rw[if_neg h]
 ·rfl
theorem zop {s i:Nat} (h:i≠s):∀(C:List Int) (f:Nat→Nat),C.foldl (zbF w s) f i=f i
 | [],_=>rfl
 |c::r,f=>by rw[List.foldl_cons,zop h r,zpE h]
theorem zms {i:Nat}:∀(L:List Nat) (f:Nat→Nat),i∉L→L.foldl (zdu w) f i=f i
 | [],_,_=>rfl
 |s::r,f,h=>by
  simp only[List.mem_cons,not_or] at h
  rw[List.foldl_cons,zms r _ h.2]
  exact zop h.1 _ _
theorem zhH {i:Nat} (h:w.length*4≤i):∀k,zbZ w k i=0
 |0=>rfl
 |k+1=>by
  show zgT w (zbZ w k) i=0
  unfold zgT
  rw[zms _ _ (by simp;omega),zhH h k]
theorem zrf (hcl:ClosedT w){k:Nat} (hk:w.length*4+1≤k):zbZ w k=zao w:=by
 have key:∀a b,w.length*4+1≤a→w.length*4+1≤b→∀s,s<w.length*4→0<zbZ w a s→0<zbZ w b s∧zbZ w b s≤zbZ w a s:=by
  intro a b ha hb s hs h0
  have h1:=(zdV hcl a).1 s hs h0
  have h2:=zrY hcl hs h1
  have h3:=(zdV hcl a).2 s hs _ ha h2
  exact(zdV hcl b).2 s hs _ (by omega) h1
 funext s
 rcases Nat.lt_or_ge s (w.length*4) with hs|hs
 ·have h1:=key k (w.length*4+1) hk (Nat.le_refl _) s hs
  have h2:=key (w.length*4+1) k (Nat.le_refl _) hk s hs
  show zbZ w k s=zbZ w (w.length*4+1) s
  omega
 ·show zbZ w k s=zbZ w (w.length*4+1) s
  rw[zhH hs,zhH hs]
def Strict (f g:Nat→Nat):Prop:=∃s,0<g s∧(f s=0∨g s<f s)
theorem Strict.bet {f g h:Nat→Nat} (a:Strict f g) (b:Bet g h):Strict f h:=by
 obtain⟨s,h1,h2⟩:=a
 have:=b s h1
 exact⟨s,this.1,by omega⟩
theorem znp {f:Nat→Nat}{b:Nat} (hb:∀s,f s≤b) (h1:1≤b):∀ {l:List Ty}{m:Nat},m≤b→zbp f m l≤b+1
 | [],m,hm=>by simp only[zbp];omega
 |t::r,m,hm=>by
  simp only[zbp]
  split
  ·omega
  ·refine znp hb h1 ?_
   have:dv f t≤b:=by
    unfold dv;split
    ·exact h1
    ·exact hb _
   omega
theorem zqe {s:Nat}{f:Nat→Nat}{c:Int}{b:Nat} (hb:∀s,f s≤b) (h1:1≤b):∀i,zbF w s f c i≤b+1:=by
 intro i
 unfold zbF
 split
 ·unfold updF
  split
  ·exact znp hb h1 (Nat.zero_le _)
  ·have:=hb i;omega
 ·have:=hb i;omega
theorem znz {s:Nat}:∀(C:List Int) (f:Nat→Nat) (b:Nat),(∀s,f s≤b)→1≤b→∀i,C.foldl (zbF w s) f i≤b+C.length
 | [],f,b,hb,_,i=>by have:=hb i;simpa using this
 |c::r,f,b,hb,h1,i=>by
  have:=znz (s:=s) r (zbF w s f c) (b+1) (zqe hb h1) (by omega) i
  rw[List.foldl_cons,List.length_cons];omega
theorem zko {m:Nat}:∀(L:List Nat) (f:Nat→Nat) (b:Nat),(∀s∈L,(zaX w (tyS s)).length≤m)→(∀s,f s≤b)→1≤b→∀i,L.foldl (zdu w) f i≤b+L.length*m
 | [],f,b,_,hb,_,i=>by have:=hb i;simpa using this
 |s::r,f,b,hm,hb,h1,i=>by
  have h2:=znz (w:=w) (s:=s) (zaX w (tyS s)) f b hb h1
  have h3:=hm s (by simp)
  have:=zko r (zdu w f s) (b+m) (fun x hx=>hm x (by simp[hx])) (fun j=>by have:=h2 j;show _≤_;unfold zdu;omega) (by omega) i
  rw[List.foldl_cons,List.length_cons,Nat.add_mul]
  omega
theorem zoc {m:Nat} (hm:∀s,s<w.length*4→(zaX w (tyS s)).length≤m):∀k i,zbZ w k i≤1+k*(w.length*4*m)
 |0,i=>by simp[zbZ]
 |k+1,i=>by
  have:=zko (w:=w) (m:=m) (List.range (w.length*4)) (zbZ w k) (1+k*(w.length*4*m)) (fun s hs=>hm s (List.mem_range.1 hs)) (zoc hm k) (by omega) i
  show zgT w (zbZ w k) i≤_
  unfold zgT
  rw[List.length_range] at this
  rw[Nat.add_mul]
  omega
end
end Go.Proofs.YtflgpdjbgfkhoaaGreat
namespace Go.Proofs.YtflgpdjbgfkhoaaGreat
open Go
set_option linter.unusedSimpArgs false
set_option linter.unusedVariables false
set_option maxRecDepth 100000
set_option maxHeartbeats 2000000
def tabC (n:Nat) (f:Nat→Nat):List AV:=(List.range n).map fun s=> .d (.i (f s:Int))
abbrev zkI (n:Nat) (f:Nat→Nat):D:= .sl ((List.range n).map fun s=>[D.i (f s:Int)])
theorem zl0 {n i s:Nat}{f:Nat→Nat} (h:s<n) (e:i=s):(tabC n f)[i]?=some (.d (.i (f s:Int))):=by
 subst e;simp[tabC,h]
theorem zbi {n:Nat}{f:Nat→Nat}:AV.idsL (tabC n f)=[]:=by
 unfold tabC
 induction List.range n with
 |nil=>rfl
 |cons x r ih=>rw[List.map_cons,AV.idsL,ih];rfl
theorem zo9 {n:Nat}{f:Nat→Nat}:zbO n 1 (tabC n f)=some ((List.range n).map fun s=>[D.i (f s:Int)]):=by
 have:=zfu (f:=fun s=>[D.i (f s:Int)]) (k:=1) (l:=List.range n) (fun _ _=>rfl)
 rw[List.length_range] at this
 rw[←this]
 congr 1
 unfold tabC
 induction List.range n with
 |nil=>rfl
 |cons x r ih=>rw[List.map_cons,List.flatMap_cons,ih];rfl
theorem zol {v:AV}:∀ {cs:List AV}{i:Nat},i<cs.length→putC cs i [v]=some (cs.set i v)
 |x::r,0,_=>by cases r<;>rfl
 |x::r,i+1,h=>by
  have:=zol (v:=v) (cs:=r) (i:=i) (by simpa using h)
  simp only[putC,this,List.set_cons_succ]
theorem zrr {n i s v:Nat}{f:Nat→Nat}{x:Int} (h:s<n) (e:i=s) (ex:x=(v:Int)):putC (tabC n f) i [.d (.i x)]=some (tabC n (updF f s v)):=by
 subst e ex
 rw[zol (by simp[tabC,h])]
 congr 1
 refine List.ext_getElem (by simp[tabC]) (fun j h1 h2=>?_)
 simp only[tabC,List.length_map,List.length_range] at h2
 rw[List.getElem_set]
 simp only[tabC,List.getElem_map,List.getElem_range,updF]
 by_cases hj:i=j
 ·subst hj;simp
 ·rw[if_neg hj,if_neg (fun h=>hj h.symm)]
theorem InS.facts {n:Nat}{a k:Int} (h:InS n ⟨a,k⟩) (ha:¬a = -1):zep ⟨a,k⟩<n∧a*4+k=(zep ⟨a,k⟩:Int)∧0≤a∧0≤k∧k≤3∧a≤n:=by
 rcases h with h|⟨h1,h2⟩
 ·exact absurd h ha
 ·have e1:=congrArg Ty.data h2
  have e2:=congrArg Ty.index h2
  simp only[tyS] at e1 e2
  omega
theorem zmO {f:Nat→Nat}{a k:Int} (ha:¬a = -1):dv f ⟨a,k⟩=f (zep ⟨a,k⟩):=by unfold dv;rw[if_neg ha]
theorem zkH {f:Nat→Nat}{a k:Int} (ha:a = -1):dv f ⟨a,k⟩=1:=by unfold dv;rw[if_pos ha]
theorem zoF {f:Nat→Nat}{b:Nat} (hb:∀s,f s≤b) (h1:1≤b) (t:Ty):dv f t≤b:=by
 unfold dv;split
 ·exact h1
 ·exact hb _
theorem zhq {a k:Int} (ha:0≤a∧a≤1000) (hk:0≤k∧k≤1000):FnD Tryz.prog 84 [.agg [.d (.i a),.d (.i k)]] [] (.d (.i (a*4+k))) []:=by
 refine bd Tryz.f84 9 [] [] fun w0 F0 own kept hk=>?_
 refine Walk.box (id:=3001) .none rfl rfl rfl rfl rfl rfl rfl ?_
 refine ev ?_
 refine ar ?_
 refine ar ?_
 refine rn0 (r1 rfl) (.eqd ?_)
 all_goals (first|rfl|(simp[];done)|(simp_all;done)|(simp_all;omega)|omega)
theorem zlb {n:Nat}{f:Nat→Nat}{a k:Int} (h:InS n ⟨a,k⟩) (hn:n≤100):
  FnD Tryz.prog 59 [.ms 70 n,.agg [.d (.i a),.d (.i k)]] [(70,some (.box (tabC n f)))] (.d (.i (dv f ⟨a,k⟩))) []:=by
 have hs:=h.facts
 refine bd Tryz.f59 13 [12] [] fun w0 F0 own kept hk=>?_
 refine Walk.box (id:=3003) .none rfl rfl rfl (by first|rfl|(simp only[zaN,occH,occE,Res.ids,List.cons_append,List.nil_append,AV.idsL,AV.ids,zas,zat,zaR,zbD,List.map_cons,List.map_nil,upC,zbi];rfl)) (by first|rfl|(simp only[zaN,occH,occE,Res.ids,List.cons_append,List.nil_append,AV.idsL,AV.ids,zas,zat,zaR,zbD,List.map_cons,List.map_nil,upC,zbi];rfl)) (by first|rfl|(simp only[zaN,occH,occE,Res.ids,List.cons_append,List.nil_append,AV.idsL,AV.ids,zas,zat,zaR,zbD,List.map_cons,List.map_nil,upC,zbi];rfl)) (by first|rfl|(simp only[zaN,occH,occE,Res.ids,List.cons_append,List.nil_append,AV.idsL,AV.ids,zas,zat,zaR,zbD,List.map_cons,List.map_nil,upC,zbi];rfl)) ?_
 refine evs [12] [] ?_
 refine sq (fun h1 h1p h1s=>?_) fun h1 h1p h1s=>?_
 ·try simp only[Q] at h1p
  refine rn [] (r1 rfl) (.eqd ?_) ⟨rfl,rfl⟩ (SubH.get ⟨rfl,trivial⟩) (fun _ h=>h)
  all_goals (first|(rw[zkH (by assumption)];rfl)|(rw[zmO (by assumption)]))
 ·try simp only[Q] at h1p
  refine Walk.call (cr:=[]) zqL (zhq (by have:=hs h1p;omega) (by have:=hs h1p;omega)) rfl .none rfl rfl (LeL.refl _) trivial rfl (by first|rfl|(simp only[zbB,List.all_cons,List.all_nil,zd9,zdx,AV.idsL,AV.ids,zas,zat,List.map_cons,List.map_nil,zbi];rfl)) (by first|rfl|(simp only[zaN,occH,occE,Res.ids,List.cons_append,List.nil_append,AV.idsL,AV.ids,zas,zat,zaR,zbD,List.map_cons,List.map_nil,upC,zbi];rfl)) ?_
  refine Walk.idxM (i:=zep ⟨a,k⟩) sl75 .none rfl rfl rfl (hs h1p).2.1 ((hs h1p).1) ?_
  refine Walk.loadB ty3 .none rfl rfl rfl ((zl0 (hs h1p).1 (by omega))) ?_
  refine evs [12] [] ?_
  refine rn [] (r1 rfl) (.eqd ?_) ⟨rfl,rfl⟩ (SubH.get ⟨rfl,trivial⟩) (fun _ h=>h)
  all_goals (first|(rw[zkH (by assumption)];rfl)|(rw[zmO (by assumption)]))
theorem ze6 {n:Nat}{f:Nat→Nat}{a k:Int} (h:InS n ⟨a,k⟩) (hn:n≤100):
  FnD Tryz.prog 59 [.d (zkI n f),.agg [.d (.i a),.d (.i k)]] [] (.d (.i (dv f ⟨a,k⟩))) []:=by
 have hs:=h.facts
 refine bd Tryz.f59 13 [] [] fun w0 F0 own kept hk=>?_
 refine Walk.box (id:=3003) .none rfl rfl rfl rfl rfl rfl rfl ?_
 refine ev ?_
 refine sq (fun h1 h1p h1s=>?_) fun h1 h1p h1s=>?_
 ·try simp only[Q] at h1p
  refine rn0 (r1 rfl) (.eqd ?_)
  all_goals (first|(rw[zkH (by assumption)];rfl)|(rw[zmO (by assumption)]))
 ·try simp only[Q] at h1p
  refine Walk.call (cr:=[]) zqL (zhq (by have:=hs h1p;omega) (by have:=hs h1p;omega)) rfl .none rfl rfl (LeL.refl _) trivial rfl rfl rfl ?_
  refine Walk.idx (i:=zep ⟨a,k⟩) sl75 .none rfl rfl rfl (hs h1p).2.1 (by simp[(hs h1p).1];rfl) rfl ?_
  refine ev ?_
  refine rn0 (r1 rfl) (.eqd ?_)
  all_goals (first|(rw[zkH (by assumption)];rfl)|(rw[zmO (by assumption)]))
theorem zio {w:List Data} (hw:WT w){a k c:Int} (ht:TyIn w.length ⟨a,k⟩) (hc:c∈zah w ⟨a,k⟩):(zam w ⟨a,k⟩ c).length≤1000000000000:=by
 obtain⟨d,rfl,h1,h2⟩:=zcD ht hc
 exact zeP hw h1 h2
theorem zlU {w:List Data} (hw:WT w){n:Nat}{f:Nat→Nat}{a k c:Int} (ht:TyIn w.length ⟨a,k⟩) (hc:c∈zah w ⟨a,k⟩) (hn:n≤100) (hb:∀s,f s≤100000) (hin:∀u∈zam w ⟨a,k⟩ c,InS n u):
  FnD Tryz.prog 83 [.d (zag w),.ms 70 n,.agg [.d (.i a),.d (.i k)],.d (.i c)] [(70,some (.box (tabC n f)))] (.d (.i (most w f ⟨a,k⟩ c))) []:=by
 have hl:=zio hw ht hc
 have hd:=zoF hb (by omega)
 refine bd Tryz.f83 37 [] [] fun w0 F0 own kept hk=>?_
 refine Walk.box (id:=3006) .none rfl rfl rfl (by first|rfl|(simp only[zaN,occH,occE,Res.ids,List.cons_append,List.nil_append,AV.idsL,AV.ids,zas,zat,zaR,zbD,List.map_cons,List.map_nil,upC,zbi];rfl)) (by first|rfl|(simp only[zaN,occH,occE,Res.ids,List.cons_append,List.nil_append,AV.idsL,AV.ids,zas,zat,zaR,zbD,List.map_cons,List.map_nil,upC,zbi];rfl)) (by first|rfl|(simp only[zaN,occH,occE,Res.ids,List.cons_append,List.nil_append,AV.idsL,AV.ids,zas,zat,zaR,zbD,List.map_cons,List.map_nil,upC,zbi];rfl)) (by first|rfl|(simp only[zaN,occH,occE,Res.ids,List.cons_append,List.nil_append,AV.idsL,AV.ids,zas,zat,zaR,zbD,List.map_cons,List.map_nil,upC,zbi];rfl)) ?_
 refine ev ?_
 refine Walk.call (cr:=[]) zje (zdA hw ht hc) rfl .none rfl rfl (LeL.refl _) trivial rfl (by first|rfl|(simp only[zbB,List.all_cons,List.all_nil,zd9,zdx,AV.idsL,AV.ids,zas,zat,List.map_cons,List.map_nil,zbi];rfl)) (by first|rfl|(simp only[zaN,occH,occE,Res.ids,List.cons_append,List.nil_append,AV.idsL,AV.ids,zas,zat,zaR,zbD,List.map_cons,List.map_nil,upC,zbi];rfl)) ?_
 refine ev ?_
 refine CWp.loopX (ι:=List (Ty)×List (Ty)×(Nat)) hk (fun x=>[(11,.d (.i (x.1.length:Int))),(10,.d (.i (x.2.2:Int)))]) [8,12,17,18,19,20,21,22,23,24,25,26,27,28,29,30,31,32,33,34] (fun x=>[]) (fun x=>x.1++x.2.1=zam w ⟨a,k⟩ c∧x.2.2≤100000∧zbp f x.2.2 x.2.1=zbp f 0 (zam w ⟨a,k⟩ c)) (fun x=>x.2.1.length) ([],zam w ⟨a,k⟩ c,0) ⟨by simp,by simp,rfl⟩ ⟨⟨_,rfl,(LeA.eqi (by first|rfl|(simp;done)|omega|(dsimp only;omega)))⟩,⟨⟨_,rfl,(LeA.eqi (by first|rfl|(simp;done)|omega|(dsimp only;omega)))⟩,trivial⟩⟩ trivial (fun x=>rfl) (fun x hg1=>?_)
 obtain⟨pre,rest,m⟩:=x
 dsimp only at hg1 ⊢
 refine evc [] [] ?_
 refine sq (fun h1 h1p h1s=>?_) fun h1 h1p h1s=>?_
 ·try simp only[Q] at h1p
  rcases rest with _|⟨y,rest⟩
  ·exfalso;simp_all
  have hdy:=hd y;have hye:dv f ⟨y.data,y.index⟩=dv f y:=rfl
  refine Walk.idx zaY .none rfl rfl rfl rfl (zaL hg1.1) rfl ?_
  refine ev ?_
  refine Walk.call (cr:=[]) zmL (zlb (f:=f) (a:=y.data) (k:=y.index) (hin y (by rw[←hg1.1];simp)) hn) rfl .none rfl rfl (.cons (LeA.msn (by first|rfl|(simp;done))) (.cons (.refl _) .nil)) ⟨rfl,trivial⟩ rfl (by first|rfl|(simp only[zbB,List.all_cons,List.all_nil,zd9,zdx,AV.idsL,AV.ids,zas,zat,List.map_cons,List.map_nil,zbi];rfl)) (by first|rfl|(simp only[zaN,occH,occE,Res.ids,List.cons_append,List.nil_append,AV.idsL,AV.ids,zas,zat,zaR,zbD,List.map_cons,List.map_nil,upC,zbi];rfl)) ?_
  refine ev ?_
  refine sq (fun h2 h2p h2s=>?_) fun h2 h2p h2s=>?_
  ·try simp only[Q] at h2p
   refine rn [] (r1 rfl) (.eqd ?_) ⟨rfl,rfl⟩ (SubH.get ⟨rfl,trivial⟩) (fun _ h=>h)
   all_goals (refine congrArg D.i ?_;unfold most;rw[←hg1.2.2];first|(simp only[zbp];rw[if_pos (by omega)];rfl)|(simp only[zbp];omega))
  ·try simp only[Q] at h2p
   refine sq (fun h3 h3p h3s=>?_) fun h3 h3p h3s=>?_
   ·try simp only[Q] at h3p
    refine ar ?_
    refine Exists.intro ((pre++[y],rest,max m (dv f y))) ⟨⟨(by have hz:=hg1.1;rw[←hz];simp),⟨(by have:=hd y;dsimp only;omega),(by rw[←hg1.2.2];simp only[zbp];rw[if_neg (by have:=hd y;omega)])⟩⟩,(by simp),Sub.x (by kernel_rfl) (by kernel_rfl) ⟨⟨_,rfl,(LeA.eqi (by first|rfl|(simp;done)|omega|(dsimp only;omega)))⟩,⟨⟨_,rfl,(LeA.eqi (by first|rfl|(simp;done)|omega|(dsimp only;omega)))⟩,trivial⟩⟩ (by kernel_rfl) (by kernel_rfl) trivial⟩
   ·try simp only[Q] at h3p
    refine ar ?_
    refine Exists.intro ((pre++[y],rest,max m (dv f y))) ⟨⟨(by have hz:=hg1.1;rw[←hz];simp),⟨(by have:=hd y;dsimp only;omega),(by rw[←hg1.2.2];simp only[zbp];rw[if_neg (by have:=hd y;omega)])⟩⟩,(by simp),Sub.x (by kernel_rfl) (by kernel_rfl) ⟨⟨_,rfl,(LeA.eqi (by first|rfl|(simp;done)|omega|(dsimp only;omega)))⟩,⟨⟨_,rfl,(LeA.eqi (by first|rfl|(simp;done)|omega|(dsimp only;omega)))⟩,trivial⟩⟩ (by kernel_rfl) (by kernel_rfl) trivial⟩
 ·try simp only[Q] at h1p
  have hrest:rest=[]:=by
   rcases rest with _|⟨a,b⟩
   ·rfl
   ·exfalso;have hz:=congrArg List.length (hg1.1);simp only[List.length_append,List.length_cons,List.length_map] at hz;omega
  subst hrest
  refine ar ?_
  refine rn [] (r1 rfl) (.eqd ?_) ⟨rfl,rfl⟩ (SubH.get ⟨rfl,trivial⟩) (fun _ h=>h)
  all_goals (refine congrArg D.i ?_;unfold most;rw[←hg1.2.2];first|(simp only[zbp];rw[if_pos (by omega)];rfl)|(simp only[zbp];omega))
structure Dp (w:List Data):Prop where
 wt:WT w
 cl:ClosedT w
 four:w.length≤4
 ct:∀s,s<w.length*4→(zaX w (tyS s)).length≤4
def midT (w:List Data) (k s:Nat):Nat→Nat:=(List.range s).foldl (zdu w) (zbZ w k)
def rowT (w:List Data) (k s:Nat) (pre:List Int):Nat→Nat:=pre.foldl (zbF w s) (midT w k s)
theorem zmh {w:List Data}{k s:Nat}:rowT w k s (zaX w (tyS s))=midT w k (s+1):=by
 unfold rowT midT;rw[List.range_succ,List.foldl_append];rfl
theorem ziV {w:List Data}{k s:Nat}{pre:List Int}{c:Int}:rowT w k s (pre++[c])=zbF w s (rowT w k s pre) c:=by
 unfold rowT;rw[List.foldl_append];rfl
theorem zon {w:List Data} (hd:Dp w){k s:Nat} (hk:k≤20) (hs:s≤w.length*4){pre:List Int} (hp:pre.length≤4) (i:Nat):rowT w k s pre i≤100000:=by
 have h4:=hd.four
 have h1:=zoc (w:=w) (m:=4) hd.ct k
 have h2:=zko (w:=w) (m:=4) (List.range s) (zbZ w k) _ (fun x hx=>hd.ct x (by have:=List.mem_range.1 hx;omega)) h1 (by omega)
 have h3:=znz (w:=w) (s:=s) pre (midT w k s) _ h2 (by omega) i
 have e1:k*(w.length*4*4)≤20*(4*4*4):=Nat.mul_le_mul hk (by omega)
 rw[List.length_range] at h3
 show pre.foldl (zbF w s) (midT w k s) i≤100000
 omega
theorem zpS {w:List Data}{s:Nat} (h:s<w.length*4):TyIn w.length (tyS s):= .inr ⟨s / 4,rfl,by omega⟩
theorem znU {w:List Data}{s:Nat}:zah w (tyS s)=zaX w (tyS s):=by unfold zah;rw[if_neg (zkq s)]
theorem zn7 (m:Nat):zbH (m+1) [.d (.i 0)]=zbH m [.d (.i 0)]++[AV.d (.i 0)]:=by
 induction m with
 |zero=>rfl
 |succ m ihm=>
  show [AV.d (.i 0)]++zbH (m+1) [.d (.i 0)]=([AV.d (.i 0)]++zbH m [.d (.i 0)])++[AV.d (.i 0)]
  rw[ihm,List.append_assoc]
theorem zmA (n:Nat):zbH n [.d (.i 0)]=tabC n (fun _=>0):=by
 unfold tabC
 induction n with
 |zero=>rfl
 |succ n ih=>rw[zn7,ih,List.range_succ,List.map_append];rfl
theorem ziT {w:List Data}{s:Nat}{f:Nat→Nat}{c:Int} (h:decide ((0:Int)<(most w f (tyS s) c:Int)∧((f s:Int)=0∨(most w f (tyS s) c:Int)<(f s:Int)))=true):zbF w s f c=updF f s (most w f (tyS s) c):=by
 rw[decide_eq_true_eq] at h
 unfold zbF;rw[if_pos (by omega)]
theorem ziS {w:List Data}{s:Nat}{f:Nat→Nat}{c:Int} (h:decide ((0:Int)<(most w f (tyS s) c:Int)∧((f s:Int)=0∨(most w f (tyS s) c:Int)<(f s:Int)))=false):zbF w s f c=f:=by
 rw[decide_eq_false_iff_not] at h
 unfold zbF;rw[if_neg (by omega)]
theorem zlP {w:List Data} (hw:WT w){s:Nat} (hs:s<w.length*4):FnD Tryz.prog 72 [.d (zag w),.agg [.d (.i ((s:Int) / 4)),.d (.i ((s:Int) % 4))]] [] (.d (zcG (zaX w (tyS s)))) []:=by
 rw[←znU];exact zce hw (zpS hs)
theorem zmH {w:List Data} (hd:Dp w){f:Nat→Nat}{s:Nat}{c:Int} (hs:s<w.length*4) (hc:c∈zaX w (tyS s)) (hb:∀s,f s≤100000):
  FnD Tryz.prog 83 [.d (zag w),.ms 70 (w.length*4),.agg [.d (.i ((s:Int) / 4)),.d (.i ((s:Int) % 4))],.d (.i c)] [(70,some (.box (tabC (w.length*4) f)))] (.d (.i (most w f (tyS s) c))) []:=
 have h4:=hd.four
 zlU (a:=(tyS s).data) (k:=(tyS s).index) hd.wt (zpS hs) (by rw[←znU] at hc;exact hc) (by omega) hb (fun u hu=>hd.cl s hs c hc u hu)
theorem zld {w:List Data} (hd:Dp w):FnD Tryz.prog 58 [.d (zag w)] [] (.d (zkI (w.length*4) (zao w))) []:=by
 have hw:=hd.wt
 have h4:=hd.four
 refine bd Tryz.f58 70 [27,29,54,61] [14,999999] fun w0 F0 own kept hk=>?_
 refine ar ?_
 refine Walk.make (id:=70) (m:=w.length*4) sl75 tz3 rfl (by decide) (zlx rfl) .none rfl (congrArg (fun z:Int=>some (AV.d (D.i z))) (by simp:((w.map Data.c).length:Int)*4=((w.length*4:Nat):Int))) (congrArg (fun z:Int=>some (AV.d (D.i z))) (by simp:((w.map Data.c).length:Int)*4=((w.length*4:Nat):Int))) (by omega) (by omega) (by first|rfl|(simp only[zaN,occH,occE,Res.ids,List.cons_append,List.nil_append,AV.idsL,AV.ids,zas,zat,zaR,zbD,List.map_cons,List.map_nil,upC,zbi];rfl)) (by first|rfl|(simp only[zaN,occH,occE,Res.ids,List.cons_append,List.nil_append,AV.idsL,AV.ids,zas,zat,zaR,zbD,List.map_cons,List.map_nil,upC,zbi];rfl)) (by first|rfl|(simp only[zaN,occH,occE,Res.ids,List.cons_append,List.nil_append,AV.idsL,AV.ids,zas,zat,zaR,zbD,List.map_cons,List.map_nil,upC,zbi];rfl)) ?_
 refine evs [27,29,54,61] [] ?_
 refine CWp.loopX (ι:=Nat) hk (fun n=>[(4,.d (.i (n:Int)))]) [5,6,7,8,9,14,15,16,17,18,19,20,21,22,23,24,25,26,27,28,29,30,31,32,33,34,35,36,37,38,39,40,41,42,43,44,45,46,47,48,49,50,51,52,53,54,55,56,57,58,59,60,61,62,63,64,65,66,67,68] (fun n=>[(70,some (.box (tabC (w.length*4) (zbZ w n))))]) (fun n=>n≤w.length*4+1) (fun n=>w.length*4+1-n) 0 (by simp) ⟨⟨_,rfl,(LeA.eqi (by first|rfl|(simp;done)|(simp_all;done)|omega))⟩,trivial⟩ ⟨(by first|rfl|(show some (Res.box _)=some (Res.box _);rw[zmA];rfl)|(have e:s=w.length*4:=(by omega);rw[e];rfl)),trivial⟩ (fun x=>rfl) (fun n hg1=>?_)
 refine evc [27,29,54,61] [14,999999] ?_
 refine sq (fun h1 h1p h1s=>?_) fun h1 h1p h1s=>?_
 ·try simp only[Q] at h1p
  refine CWp.loopX (ι:=Nat) hk (fun s=>[(5,.d (.i (s:Int)))]) [6,7,8,9,20,21,22,23,24,25,26,27,28,29,30,31,32,33,34,35,36,37,38,39,40,41,42,43,44,45,46,47,48,49,50,51,52,53,54,55,56,57,58,59,60,61,62,63,64,65,66,67,68] (fun s=>[(70,some (.box (tabC (w.length*4) (midT w n s))))]) (fun s=>s≤w.length*4) (fun s=>w.length*4-s) 0 (by simp) ⟨⟨_,rfl,(LeA.eqi (by first|rfl|(simp;done)|(simp_all;done)|omega))⟩,trivial⟩ ⟨(by first|rfl|(show some (Res.box _)=some (Res.box _);rw[←zmh,←hg3,List.append_nil])),trivial⟩ (fun x=>rfl) (fun s hg2=>?_)
  refine evc [27,29,54,61] [14,999999] ?_
  refine sq (fun h2 h2p h2s=>?_) fun h2 h2p h2s=>?_
  ·try simp only[Q] at h2p
   refine Walk.quoI .none rfl rfl rfl (by omega) ?_
   refine evs [27,29,54,61] [] ?_
   refine Walk.remI .none rfl rfl rfl (by omega) ?_
   refine Walk.build st25 (ks:=[0,1]) (xs:=[_,_]) rfl rfl .none rfl rfl rfl ?_
   refine Walk.alloc (id:=3006) tz25 rfl .none rfl (by first|rfl|(simp only[zaN,occH,occE,Res.ids,List.cons_append,List.nil_append,AV.idsL,AV.ids,zas,zat,zaR,zbD,List.map_cons,List.map_nil,upC,zbi];rfl)) (by first|rfl|(simp only[zaN,occH,occE,Res.ids,List.cons_append,List.nil_append,AV.idsL,AV.ids,zas,zat,zaR,zbD,List.map_cons,List.map_nil,upC,zbi];rfl)) (by first|rfl|(simp only[zaN,occH,occE,Res.ids,List.cons_append,List.nil_append,AV.idsL,AV.ids,zas,zat,zaR,zbD,List.map_cons,List.map_nil,upC,zbi];rfl)) ?_
   refine Walk.store ty25 .none rfl rfl rfl rfl rfl rfl (by simp) rfl ?_
   refine tv ?_
   refine Walk.call (cr:=[]) zfT (zlP hw (s:=s) (by omega)) rfl .none rfl rfl (LeL.refl _) trivial rfl (by first|rfl|(simp only[zbB,List.all_cons,List.all_nil,zd9,zdx,AV.idsL,AV.ids,zas,zat,List.map_cons,List.map_nil,zbi];rfl)) (by first|rfl|(simp only[zaN,occH,occE,Res.ids,List.cons_append,List.nil_append,AV.idsL,AV.ids,zas,zat,zaR,zbD,List.map_cons,List.map_nil,upC,zbi];rfl)) ?_
   refine evs [27,29,54,61] [] ?_
   refine CWp.loopX (ι:=List (Int)×List (Int)) hk (fun x=>[(8,.d (.i (x.1.length:Int)))]) [9,34,35,36,37,38,39,40,41,42,43,44,45,46,47,48,49,50,51,52,53,54,55,56,57,58,59,60,61,62,63,64,65,66,67,68] (fun x=>[(70,some (.box (tabC (w.length*4) (rowT w n s x.1))))]) (fun x=>x.1++x.2=zaX w (tyS s)) (fun x=>x.2.length) ([],zaX w (tyS s)) (by simp) ⟨⟨_,rfl,(LeA.eqi (by first|rfl|(simp;done)|(simp_all;done)|omega))⟩,trivial⟩ ⟨(by first|rfl|(show some (Res.box _)=some (Res.box _);rw[ziV];first|(rw[ziT (by assumption)];done)|(rw[ziS (by assumption)];done))),trivial⟩ (fun x=>rfl) (fun x hg3=>?_)
   obtain⟨pre,rest⟩:=x
   dsimp only at hg3 ⊢
   have hct:=hd.ct s (by omega)
   refine evc [27,29,54,61] [14,999999] ?_
   refine sq (fun h3 h3p h3s=>?_) fun h3 h3p h3s=>?_
   ·try simp only[Q] at h3p
    rcases rest with _|⟨c,rest⟩
    ·exfalso;simp_all
    refine Walk.idx sl75 .none rfl rfl rfl rfl (zaL hg3) rfl ?_
    refine evd [27,29,54,61] [] ?_
    refine Walk.call (cr:=[]) zqK (zmH hd (f:=rowT w n s pre) (s:=s) (c:=c) (by omega) (by rw[←hg3];simp) (zon hd (by omega) (by omega) (by have:=hd.ct s (by omega);have hz:=congrArg List.length hg3;simp at hz;omega))) rfl .none rfl rfl (.cons (.refl _) (.cons (LeA.msn (by first|rfl|(simp;done))) (.cons (.refl _) (.cons (.refl _) .nil)))) ⟨rfl,trivial⟩ rfl (by first|rfl|(simp only[zbB,List.all_cons,List.all_nil,zd9,zdx,AV.idsL,AV.ids,zas,zat,List.map_cons,List.map_nil,zbi];rfl)) (by first|rfl|(simp only[zaN,occH,occE,Res.ids,List.cons_append,List.nil_append,AV.idsL,AV.ids,zas,zat,zaR,zbD,List.map_cons,List.map_nil,upC,zbi];rfl)) ?_
    refine evd [27,29,54,61] [] ?_
    refine dr ?_
    refine CWp.regionJ ?_
    refine WRest.join 17 [(64,.d (.bool (decide ((0:Int)<(most w (rowT w n s pre) (tyS s) c:Int)∧((rowT w n s pre s:Int)=0∨(most w (rowT w n s pre) (tyS s) c:Int)<(rowT w n s pre s:Int))))))] [48,49,50,51,52,53,54,55,56,57,58,59,60,61,62,63] ?_ ?_
    ·
     refine evs [27,29,54,61] [] ?_
     refine sq (fun h4 h4p h4s=>?_) fun h4 h4p h4s=>?_
     ·try simp only[Q] at h4p
      refine Walk.idxM (i:=s) sl75 (.some rfl rfl h4) rfl rfl rfl rfl (by omega) ?_
      refine Walk.loadB ty3 (.some rfl rfl h4) rfl rfl rfl ((zl0 (s:=s) (by omega) (by omega))) ?_
      refine evs [27,29,54,61] [(50,true)] ?_ ⟨⟨_,rfl,h4⟩,trivial⟩
      refine sq (fun h5 h5p h5s=>?_) fun h5 h5p h5s=>?_
      ·try simp only[Q] at h5p
       exact jnb rfl
      ·try simp only[Q] at h5p
       refine Walk.idxM (i:=s) sl75 (.some rfl rfl h5) rfl rfl rfl rfl (by omega) ?_
       refine Walk.loadB ty3 (.some rfl rfl h5) rfl rfl rfl ((zl0 (s:=s) (by omega) (by omega))) ?_
       refine evs [27,29,54,61] [(50,true),(56,false)] ?_ ⟨⟨_,rfl,h4⟩,⟨_,rfl,h5⟩,trivial⟩
       exact jnb rfl
     ·try simp only[Q] at h4p
      exact jnb rfl
    refine WRest.done ?_
    refine tv ?_
    refine sq (fun h6 h6p h6s=>?_) fun h6 h6p h6s=>?_
    ·try simp only[Q] at h6p
     refine Walk.idxM (i:=s) sl75 .none rfl rfl rfl rfl (by omega) ?_
     refine Walk.store ty3 .none rfl rfl rfl rfl rfl rfl (by simp) ((zrr (s:=s) (v:=most w (rowT w n s pre) (tyS s) c) (by omega) (by omega) rfl)) ?_
     refine tv ?_
     refine ar ?_
     refine Exists.intro ((pre++[c],rest)) ⟨(by have hz:=hg3;rw[←hz];simp),(by simp),Sub.x (by kernel_rfl) (by kernel_rfl) ⟨⟨_,rfl,(LeA.eqi (by first|rfl|(simp;done)|(simp_all;done)|omega))⟩,trivial⟩ (by kernel_rfl) (by kernel_rfl) ⟨(by first|rfl|(show some (Res.box _)=some (Res.box _);rw[ziV];first|(rw[ziT (by assumption)];done)|(rw[ziS (by assumption)];done))),trivial⟩⟩
    ·try simp only[Q] at h6p
     refine ar ?_
     refine Exists.intro ((pre++[c],rest)) ⟨(by have hz:=hg3;rw[←hz];simp),(by simp),Sub.x (by kernel_rfl) (by kernel_rfl) ⟨⟨_,rfl,(LeA.eqi (by first|rfl|(simp;done)|(simp_all;done)|omega))⟩,trivial⟩ (by kernel_rfl) (by kernel_rfl) ⟨(by first|rfl|(show some (Res.box _)=some (Res.box _);rw[ziV];first|(rw[ziT (by assumption)];done)|(rw[ziS (by assumption)];done))),trivial⟩⟩
   ·try simp only[Q] at h3p
    have hrest:rest=[]:=by
     rcases rest with _|⟨a,b⟩
     ·rfl
     ·exfalso;have hz:=congrArg List.length (hg3);simp only[List.length_append,List.length_cons,List.length_map] at hz;omega
    subst hrest
    refine ar ?_
    refine Exists.intro (s+1) ⟨(by omega),(by omega),Sub.x (by kernel_rfl) (by kernel_rfl) ⟨⟨_,rfl,(LeA.eqi (by first|rfl|(simp;done)|(simp_all;done)|omega))⟩,trivial⟩ (by kernel_rfl) (by kernel_rfl) ⟨(by first|rfl|(show some (Res.box _)=some (Res.box _);rw[←zmh,←hg3,List.append_nil])),trivial⟩⟩
  ·try simp only[Q] at h2p
   refine ar ?_
   refine Exists.intro (n+1) ⟨(by omega),(by omega),Sub.x (by kernel_rfl) (by kernel_rfl) ⟨⟨_,rfl,(LeA.eqi (by first|rfl|(simp;done)|(simp_all;done)|omega))⟩,trivial⟩ (by kernel_rfl) (by kernel_rfl) ⟨(by first|rfl|(show some (Res.box _)=some (Res.box _);rw[zmA];rfl)|(have e:s=w.length*4:=(by omega);rw[e];rfl)),trivial⟩⟩
 ·try simp only[Q] at h1p
  refine CWp.frz hk 2 70 _ _ rfl rfl zo9 rfl ?_
  refine CWp.ret ?_
  refine rn0 (r1 rfl) (.eqd ?_)
  all_goals (first|rfl|(have e:n=w.length*4+1:=(by omega);rw[e];rfl))
theorem zfs {w:List Data} (hs:WSmall w) (hv:zaA w=true):WT w:=WV.wt hs ((zcI w).1 hv)
end Go.Proofs.YtflgpdjbgfkhoaaGreat
namespace Go.Proofs.YtflgpdjbgfkhoaaGreat
open Go
set_option linter.unusedSimpArgs false
set_option linter.unusedVariables false
set_option maxRecDepth 100000
set_option maxHeartbeats 4000000
theorem zeW {p:Pat}{b1 b2 b3:Bool}{k:Int}:FnD Tryz.prog 126 [.agg [.d (.i p.op),.d (.i p.ctor),.d (.i p.n),.d (.i p.m),.d (.i p.var),.d (zaH p.kids)],.d (.bool b1),.d (.bool b2),.d (.bool b3),.d (.i k)] []
  (.d (.bool (decide ((b1=true∨p.ctor=0)∧(b2=true∨p.n=0∧p.m=0)∧(b3=true∨p.var=0)∧(p.kids.length:Int)=k)))) []:=by
 refine bd Tryz.f126 45 [] [1] fun w0 F0 own kept hk=>?_
 refine Walk.box (id:=3005) .none rfl rfl rfl rfl rfl rfl rfl ?_
 refine ev ?_
 refine CWp.regionJ ?_
 refine WRest.join 6 [(16,.d (.bool (decide (b1=true∨p.ctor=0))))] [11,12,13,14,15] ?_ ?_
 ·
  refine ev ?_
  refine sq (fun h1 h1p h1s=>?_) fun h1 h1p h1s=>?_
  ·try simp only[Q,Pat.cs_len] at h1p
   exact jn rfl (LeA.eqb (by((rw[Bool.eq_iff_iff];simp_all[Pat.cs_len];done))))
  ·try simp only[Q,Pat.cs_len] at h1p
   exact jn rfl (LeA.eqb (by((rw[Bool.eq_iff_iff];simp_all[Pat.cs_len];done))))
 refine WRest.join 13 [(29,.d (.bool (decide ((b1=true∨p.ctor=0)∧(b2=true∨p.n=0∧p.m=0)))))] [17,18,19,20,21,22,23,24,25,26,27,28] ?_ ?_
 ·
  refine ev ?_
  refine sq (fun h2 h2p h2s=>?_) fun h2 h2p h2s=>?_
  ·try simp only[Q,Pat.cs_len] at h2p
   refine sq (fun h3 h3p h3s=>?_) fun h3 h3p h3s=>?_
   ·try simp only[Q,Pat.cs_len] at h3p
    exact jn rfl (LeA.eqb (by((rw[Bool.eq_iff_iff];simp_all[Pat.cs_len];done))))
   ·try simp only[Q,Pat.cs_len] at h3p
    refine sq (fun h4 h4p h4s=>?_) fun h4 h4p h4s=>?_
    ·try simp only[Q,Pat.cs_len] at h4p
     exact jn rfl (LeA.eqb (by((rw[Bool.eq_iff_iff];simp_all[Pat.cs_len];done))))
    ·try simp only[Q,Pat.cs_len] at h4p
     exact jn rfl (LeA.eqb (by((rw[Bool.eq_iff_iff];simp_all[Pat.cs_len];done))))
  ·try simp only[Q,Pat.cs_len] at h2p
   exact jn rfl (LeA.eqb (by((rw[Bool.eq_iff_iff];simp_all[Pat.cs_len];done))))
 refine WRest.join 8 [(37,.d (.bool (decide ((b1=true∨p.ctor=0)∧(b2=true∨p.n=0∧p.m=0)∧(b3=true∨p.var=0)))))] [30,31,32,33,34,35,36] ?_ ?_
 ·
  refine ev ?_
  refine sq (fun h5 h5p h5s=>?_) fun h5 h5p h5s=>?_
  ·try simp only[Q,Pat.cs_len] at h5p
   refine sq (fun h6 h6p h6s=>?_) fun h6 h6p h6s=>?_
   ·try simp only[Q,Pat.cs_len] at h6p
    exact jn rfl (LeA.eqb (by((rw[Bool.eq_iff_iff];simp_all[Pat.cs_len];done))))
   ·try simp only[Q,Pat.cs_len] at h6p
    exact jn rfl (LeA.eqb (by((rw[Bool.eq_iff_iff];simp_all[Pat.cs_len];done))))
  ·try simp only[Q,Pat.cs_len] at h5p
   exact jn rfl (LeA.eqb (by((rw[Bool.eq_iff_iff];simp_all[Pat.cs_len];done))))
 refine WRest.join 7 [(44,.d (.bool (decide ((b1=true∨p.ctor=0)∧(b2=true∨p.n=0∧p.m=0)∧(b3=true∨p.var=0)∧(p.kids.length:Int)=k))))] [38,39,40,41,42,43] ?_ ?_
 ·
  refine ev ?_
  refine sq (fun h7 h7p h7s=>?_) fun h7 h7p h7s=>?_
  ·try simp only[Q,Pat.cs_len] at h7p
   exact jn rfl (LeA.eqb (by((rw[Bool.eq_iff_iff];simp_all[Pat.cs_len];done))))
  ·try simp only[Q,Pat.cs_len] at h7p
   exact jn rfl (LeA.eqb (by((rw[Bool.eq_iff_iff];simp_all[Pat.cs_len];done))))
 refine WRest.done ?_
 refine ev ?_
 refine rn0 (r1 rfl) (.eqd ?_)
 all_goals (rfl)
theorem zfw {p:Pat}{k:Int}:FnD Tryz.prog 126 [.agg [.d (.i p.op),.d (.i p.ctor),.d (.i p.n),.d (.i p.m),.d (.i p.var),.d (zaH p.kids)],.d (.bool false),.d (.bool false),.d (.bool false),.d (.i k)] []
  (.d (.bool (decide (p.ctor=0∧(p.n=0∧p.m=0)∧p.var=0∧(p.kids.length:Int)=k)))) []:=by
 have:=zeW (p:=p) (b1:=false) (b2:=false) (b3:=false) (k:=k)
 simpa only[Bool.false_eq_true,false_or] using this
theorem zfx {p:Pat}{k:Int}:FnD Tryz.prog 126 [.agg [.d (.i p.op),.d (.i p.ctor),.d (.i p.n),.d (.i p.m),.d (.i p.var),.d (zaH p.kids)],.d (.bool false),.d (.bool false),.d (.bool true),.d (.i k)] []
  (.d (.bool (decide (p.ctor=0∧(p.n=0∧p.m=0)∧(p.kids.length:Int)=k)))) []:=by
 have:=zeW (p:=p) (b1:=false) (b2:=false) (b3:=true) (k:=k)
 simpa only[Bool.false_eq_true,false_or,true_or,true_and] using this
theorem zjI {p:Pat}{k:Int}:FnD Tryz.prog 126 [.agg [.d (.i p.op),.d (.i p.ctor),.d (.i p.n),.d (.i p.m),.d (.i p.var),.d (zaH p.kids)],.d (.bool false),.d (.bool true),.d (.bool false),.d (.i k)] []
  (.d (.bool (decide (p.ctor=0∧p.var=0∧(p.kids.length:Int)=k)))) []:=by
 have:=zeW (p:=p) (b1:=false) (b2:=true) (b3:=false) (k:=k)
 simpa only[Bool.false_eq_true,false_or,true_or,true_and] using this
theorem znZ {p:Pat}{k:Int}:FnD Tryz.prog 126 [.agg [.d (.i p.op),.d (.i p.ctor),.d (.i p.n),.d (.i p.m),.d (.i p.var),.d (zaH p.kids)],.d (.bool true),.d (.bool false),.d (.bool false),.d (.i k)] []
  (.d (.bool (decide ((p.n=0∧p.m=0)∧p.var=0∧(p.kids.length:Int)=k)))) []:=by
 have:=zeW (p:=p) (b1:=true) (b2:=false) (b3:=false) (k:=k)
 simpa only[Bool.false_eq_true,false_or,true_or,true_and] using this
theorem zev {v:Int}:FnD Tryz.prog 127 [.d (.i v)] [] (.d (.bool (zaf v 0 5))) []:=by
 refine bd Tryz.f127 5 [] [] fun w0 F0 own kept hk=>?_
 refine Walk.call (cr:=[]) zd5 (za6) rfl .none rfl rfl (LeL.refl _) trivial rfl rfl rfl ?_
 refine ev ?_
 refine rn0 (r1 rfl) (.eqd ?_)
 all_goals (rfl)
theorem zhl {w:List Data} (hw:WT w){a k:Int} (ht:TyIn w.length ⟨a,k⟩):FnD Tryz.prog 64 [.d (zag w),.agg [.d (.i a),.d (.i k)]] [] (.d (zcG (zah w ⟨a,k⟩))) []:=by
 rcases ht with ha|⟨d,hd,hlt⟩
 ·simp only at ha;subst ha;rw[zf9];exact zie
 ·simp only at hd;subst hd;rw[zgX];exact zdL hw hlt
theorem zkL {w:List Data} (hw:WT w){a k c:Int} (ht:TyIn w.length ⟨a,k⟩) (hc:c∈zah w ⟨a,k⟩):FnD Tryz.prog 65 [.d (zag w),.agg [.d (.i a),.d (.i k)],.d (.i c)] [] (.d (zcf (zam w ⟨a,k⟩ c))) []:=by
 obtain⟨d,rfl,h1,h2⟩:=zcD ht hc
 exact zex hw h1 h2
theorem zmE {w:List Data} (hw:WT w){a k:Int}{p:Pat} (ht:TyIn w.length ⟨a,k⟩):
  FnD Tryz.prog 102 [.d (zag w),.agg [.d (.i a),.d (.i k)],.agg [.d (.i p.op),.d (.i p.ctor),.d (.i p.n),.d (.i p.m),.d (.i p.var),.d (zaH p.kids)]] [] (.tup [.d (zcf (zdg w ⟨a,k⟩ p)),.d (.bool (okP w ⟨a,k⟩ p))]) []:=by
 have hcl:=zga hw ht
 have ty4:p.op=4→p.ctor∉zah w ⟨a,k⟩→zdg w ⟨a,k⟩ p=[]:=fun h4 hm=>by unfold zdg;rw[if_pos ⟨h4,hm⟩]
 have ty4':p.op=4→p.ctor∈zah w ⟨a,k⟩→zdg w ⟨a,k⟩ p=zam w ⟨a,k⟩ p.ctor:=fun h4 hm=>by unfold zdg zaa;rw[if_neg (fun h=>h.2 hm),if_pos h4]
 have ty5:p.op=5→zdg w ⟨a,k⟩ p=[⟨a,k⟩,⟨a,k⟩]:=fun h5=>by unfold zdg zaa;rw[if_neg (by omega),if_neg (by omega),if_pos h5]
 have ty6:p.op=6→zdg w ⟨a,k⟩ p=[⟨a,k⟩]:=fun h6=>by unfold zdg zaa;rw[if_neg (by omega),if_neg (by omega),if_neg (by omega),if_pos h6]
 have ty0:¬p.op=4→¬p.op=5→¬p.op=6→zdg w ⟨a,k⟩ p=[]:=fun h4 h5 h6=>by unfold zdg zaa;rw[if_neg (fun h=>h4 h.1),if_neg h4,if_neg h5,if_neg h6]
 have ln4:p.op=4→(zaa w ⟨a,k⟩ p).length=(zam w ⟨a,k⟩ p.ctor).length:=fun h4=>by unfold zaa;rw[if_pos h4]
 have ln5:p.op=5→(zaa w ⟨a,k⟩ p).length=2:=fun h5=>by unfold zaa;rw[if_neg (by omega),if_pos h5];rfl
 have ln6:p.op=6→(zaa w ⟨a,k⟩ p).length=1:=fun h6=>by unfold zaa;rw[if_neg (by omega),if_neg (by omega),if_pos h6];rfl
 have ln0:¬p.op=4→¬p.op=5→¬p.op=6→(zaa w ⟨a,k⟩ p).length=0:=fun h4 h5 h6=>by unfold zaa;rw[if_neg h4,if_neg h5,if_neg h6];rfl
 have okI:∀b:Bool,(b=true↔((((p.op=2∨p.op=6)→0≤p.var∧p.var≤5)∧(¬(p.op=2∨p.op=6)→p.var=0)∧(p.op≠3→p.n=0∧p.m=0)∧(p.op≠4→p.ctor=0)∧
   (p.op=1∨p.op=2∨p.op=5∨p.op=6∨(p.op=3∧a = -1∧0≤p.n∧p.n≤p.m∧p.m≤9)∨(p.op=4∧p.ctor∈zah w ⟨a,k⟩)))∧p.kids.length=(zaa w ⟨a,k⟩ p).length))→b=okP w ⟨a,k⟩ p:=fun b h=>by
  rw[Bool.eq_iff_iff,h];unfold okP ownP;simp only[Bool.and_eq_true,decide_eq_true_eq]
 by_cases hmem:p.ctor∈zah w ⟨a,k⟩
 ·have hargs:=zkL hw ht hmem
  have hal:(zam w ⟨a,k⟩ p.ctor).length≤1000000000000:=by
   obtain⟨d,rfl,h1,h2⟩:=zcD ht hmem
   exact zeP hw h1 h2
  simp only[hmem,and_true] at okI
  refine bd Tryz.f102 87 [] [5] fun w0 F0 own kept hk=>?_
  refine Walk.box (id:=3004) .none rfl rfl rfl rfl rfl rfl rfl ?_
  refine Walk.box (id:=3005) .none rfl rfl rfl rfl rfl rfl rfl ?_
  refine ev ?_
  refine sq (fun h1 h1p h1s=>?_) fun h1 h1p h1s=>?_
  ·try simp only[Q] at h1p
   refine Walk.call (cr:=[]) zdM (zfw) rfl .none rfl rfl (LeL.refl _) trivial rfl rfl rfl ?_
   refine ev ?_
   refine rn0 (r2 rfl rfl) (.tup (.cons (.nild ?_) (.cons (.eqd ?_) .nil)))
   all_goals (first|(refine congrArg D.bool (okI _ ?_);(try simp only[decide_eq_true_eq,Bool.false_eq_true,zaf,Bool.and_eq_true,List.length_map,true_iff,false_iff]);omega)|(rw[ty0 (by omega) (by omega) (by omega)];first|done|rfl)|(rw[ty5 (by omega)];first|done|rfl)|(rw[ty6 (by omega)];first|done|rfl)|(rw[ty4' (by omega) hmem];first|done|rfl))
  ·try simp only[Q] at h1p
   refine sq (fun h2 h2p h2s=>?_) fun h2 h2p h2s=>?_
   ·try simp only[Q] at h2p
    refine CWp.regionJ ?_
    refine WRest.join 7 [(23,.d (.bool (decide ((p.ctor=0∧(p.n=0∧p.m=0)∧(p.kids.length:Int)=0)∧0≤p.var∧p.var≤5))))] [17,18,19,20,21,22] ?_ ?_
    ·
     refine ev ?_
     refine Walk.call (cr:=[]) zdM (zfx) rfl .none rfl rfl (LeL.refl _) trivial rfl rfl rfl ?_
     refine ev ?_
     refine sq (fun h3 h3p h3s=>?_) fun h3 h3p h3s=>?_
     ·try simp only[Q] at h3p
      refine Walk.call (cr:=[]) zkw (zev) rfl (.some rfl rfl h3) rfl rfl (LeL.refl _) trivial rfl rfl rfl ?_
      refine evs [] [(19,true)] ?_ ⟨⟨_,rfl,h3⟩,trivial⟩
      exact jn rfl (LeA.eqb (by(rw[Bool.eq_iff_iff];simp only[decide_eq_true_eq,zaf,Bool.and_eq_true,Bool.false_eq_true,false_iff,true_iff];omega)))
     ·try simp only[Q] at h3p
      exact jn rfl (LeA.eqb (by(rw[Bool.eq_iff_iff];simp only[decide_eq_true_eq,zaf,Bool.and_eq_true,Bool.false_eq_true,false_iff,true_iff];omega)))
    refine WRest.done ?_
    refine ev ?_
    refine rn0 (r2 rfl rfl) (.tup (.cons (.nild ?_) (.cons (.eqd ?_) .nil)))
    all_goals (first|(refine congrArg D.bool (okI _ ?_);(try simp only[decide_eq_true_eq,Bool.false_eq_true,zaf,Bool.and_eq_true,List.length_map,true_iff,false_iff]);omega)|(rw[ty0 (by omega) (by omega) (by omega)];first|done|rfl)|(rw[ty5 (by omega)];first|done|rfl)|(rw[ty6 (by omega)];first|done|rfl)|(rw[ty4' (by omega) hmem];first|done|rfl))
   ·try simp only[Q] at h2p
    refine sq (fun h4 h4p h4s=>?_) fun h4 h4p h4s=>?_
    ·try simp only[Q] at h4p
     refine sq (fun h5 h5p h5s=>?_) fun h5 h5p h5s=>?_
     ·try simp only[Q] at h5p
      refine Walk.call (cr:=[]) zdM (zjI) rfl (.some rfl rfl h5) rfl rfl (LeL.refl _) trivial rfl rfl rfl ?_
      refine evd [] [(29,true)] ?_ ⟨⟨_,rfl,h5⟩,trivial⟩
      refine sq (fun h6 h6p h6s=>?_) fun h6 h6p h6s=>?_
      ·try simp only[Q] at h6p
       refine sq (fun h7 h7p h7s=>?_) fun h7 h7p h7s=>?_
       ·try simp only[Q] at h7p
        refine sq (fun h8 h8p h8s=>?_) fun h8 h8p h8s=>?_
        ·try simp only[Q] at h8p
         refine dr ?_
         refine rn0 (r2 rfl rfl) (.tup (.cons (.nild ?_) (.cons (.eqd ?_) .nil)))
         all_goals (first|(refine congrArg D.bool (okI _ ?_);(try simp only[decide_eq_true_eq,Bool.false_eq_true,zaf,Bool.and_eq_true,List.length_map,true_iff,false_iff]);omega)|(rw[ty0 (by omega) (by omega) (by omega)];first|done|rfl)|(rw[ty5 (by omega)];first|done|rfl)|(rw[ty6 (by omega)];first|done|rfl)|(rw[ty4' (by omega) hmem];first|done|rfl))
        ·try simp only[Q] at h8p
         refine dr ?_
         refine rn0 (r2 rfl rfl) (.tup (.cons (.nild ?_) (.cons (.eqd ?_) .nil)))
         all_goals (first|(refine congrArg D.bool (okI _ ?_);(try simp only[decide_eq_true_eq,Bool.false_eq_true,zaf,Bool.and_eq_true,List.length_map,true_iff,false_iff]);omega)|(rw[ty0 (by omega) (by omega) (by omega)];first|done|rfl)|(rw[ty5 (by omega)];first|done|rfl)|(rw[ty6 (by omega)];first|done|rfl)|(rw[ty4' (by omega) hmem];first|done|rfl))
       ·try simp only[Q] at h7p
        refine sqF ?_
        refine dr ?_
        refine rn0 (r2 rfl rfl) (.tup (.cons (.nild ?_) (.cons (.eqd ?_) .nil)))
        all_goals (first|(refine congrArg D.bool (okI _ ?_);(try simp only[decide_eq_true_eq,Bool.false_eq_true,zaf,Bool.and_eq_true,List.length_map,true_iff,false_iff]);omega)|(rw[ty0 (by omega) (by omega) (by omega)];first|done|rfl)|(rw[ty5 (by omega)];first|done|rfl)|(rw[ty6 (by omega)];first|done|rfl)|(rw[ty4' (by omega) hmem];first|done|rfl))
      ·try simp only[Q] at h6p
       refine sqF ?_
       refine sqF ?_
       refine dr ?_
       refine rn0 (r2 rfl rfl) (.tup (.cons (.nild ?_) (.cons (.eqd ?_) .nil)))
       all_goals (first|(refine congrArg D.bool (okI _ ?_);(try simp only[decide_eq_true_eq,Bool.false_eq_true,zaf,Bool.and_eq_true,List.length_map,true_iff,false_iff]);omega)|(rw[ty0 (by omega) (by omega) (by omega)];first|done|rfl)|(rw[ty5 (by omega)];first|done|rfl)|(rw[ty6 (by omega)];first|done|rfl)|(rw[ty4' (by omega) hmem];first|done|rfl))
     ·try simp only[Q] at h5p
      refine sqF ?_
      refine sqF ?_
      refine sqF ?_
      refine dr ?_
      refine rn0 (r2 rfl rfl) (.tup (.cons (.nild ?_) (.cons (.eqd ?_) .nil)))
      all_goals (first|(refine congrArg D.bool (okI _ ?_);(try simp only[decide_eq_true_eq,Bool.false_eq_true,zaf,Bool.and_eq_true,List.length_map,true_iff,false_iff]);omega)|(rw[ty0 (by omega) (by omega) (by omega)];first|done|rfl)|(rw[ty5 (by omega)];first|done|rfl)|(rw[ty6 (by omega)];first|done|rfl)|(rw[ty4' (by omega) hmem];first|done|rfl))
    ·try simp only[Q] at h4p
     refine sq (fun h9 h9p h9s=>?_) fun h9 h9p h9s=>?_
     ·try simp only[Q] at h9p
      refine Walk.call (cr:=[]) zkA (zhl hw ht) rfl .none rfl rfl (LeL.refl _) trivial rfl rfl rfl ?_
      refine evd [] [] ?_
      refine Walk.call (cr:=[]) zkz (zbQ hcl) rfl .none rfl rfl (LeL.refl _) trivial rfl rfl rfl ?_
      refine evd [] [] ?_
      refine dr ?_
      refine sq (fun h10 h10p h10s=>?_) fun h10 h10p h10s=>?_
      ·try simp only[Q] at h10p
       exfalso;simp_all
      ·try simp only[Q] at h10p
       refine Walk.call (cr:=[]) zox (hargs) rfl .none rfl rfl (LeL.refl _) trivial rfl rfl rfl ?_
       refine ev ?_
       refine Walk.call (cr:=[]) zdM (znZ) rfl .none rfl rfl (LeL.refl _) trivial rfl rfl rfl ?_
       refine ev ?_
       refine rn0 (r2 rfl rfl) (.tup (.cons (.eqd ?_) (.cons (.eqd ?_) .nil)))
       all_goals (first|(refine congrArg D.bool (okI _ ?_);(try simp only[decide_eq_true_eq,Bool.false_eq_true,zaf,Bool.and_eq_true,List.length_map,true_iff,false_iff]);omega)|(rw[ty0 (by omega) (by omega) (by omega)];first|done|rfl)|(rw[ty5 (by omega)];first|done|rfl)|(rw[ty6 (by omega)];first|done|rfl)|(rw[ty4' (by omega) hmem];first|done|rfl))
     ·try simp only[Q] at h9p
      refine sq (fun h11 h11p h11s=>?_) fun h11 h11p h11s=>?_
      ·try simp only[Q] at h11p
       refine Walk.sliceLit zaY tz25 rfl (by decide) (ks:=[0,1]) (xs:=[_,_]) rfl rfl (by decide) (by decide) .none rfl rfl rfl rfl ?_
       refine evd [] [] ?_
       refine Walk.call (cr:=[]) zdM (zfw) rfl .none rfl rfl (LeL.refl _) trivial rfl rfl rfl ?_
       refine evd [] [] ?_
       refine dr ?_
       refine rn0 (r2 rfl rfl) (.tup (.cons (.eqd ?_) (.cons (.eqd ?_) .nil)))
       all_goals (first|(refine congrArg D.bool (okI _ ?_);(try simp only[decide_eq_true_eq,Bool.false_eq_true,zaf,Bool.and_eq_true,List.length_map,true_iff,false_iff]);omega)|(rw[ty0 (by omega) (by omega) (by omega)];first|done|rfl)|(rw[ty5 (by omega)];first|done|rfl)|(rw[ty6 (by omega)];first|done|rfl)|(rw[ty4' (by omega) hmem];first|done|rfl))
      ·try simp only[Q] at h11p
       refine sq (fun h12 h12p h12s=>?_) fun h12 h12p h12s=>?_
       ·try simp only[Q] at h12p
        refine Walk.sliceLit zaY tz25 rfl (by decide) (ks:=[0]) (xs:=[_]) rfl rfl (by decide) (by decide) .none rfl rfl rfl rfl ?_
        refine evd [] [] ?_
        refine Walk.call (cr:=[]) zdM (zfx) rfl .none rfl rfl (LeL.refl _) trivial rfl rfl rfl ?_
        refine evd [] [] ?_
        refine sq (fun h13 h13p h13s=>?_) fun h13 h13p h13s=>?_
        ·try simp only[Q] at h13p
         refine Walk.call (cr:=[]) zkw (zev) rfl (.some rfl rfl h13) rfl rfl (LeL.refl _) trivial rfl rfl rfl ?_
         refine evd [] [(82,true)] ?_ ⟨⟨_,rfl,h13⟩,trivial⟩
         refine dr ?_
         refine rn0 (r2 rfl rfl) (.tup (.cons (.eqd ?_) (.cons (.eqd ?_) .nil)))
         all_goals (first|(refine congrArg D.bool (okI _ ?_);(try simp only[decide_eq_true_eq,Bool.false_eq_true,zaf,Bool.and_eq_true,List.length_map,true_iff,false_iff]);omega)|(rw[ty0 (by omega) (by omega) (by omega)];first|done|rfl)|(rw[ty5 (by omega)];first|done|rfl)|(rw[ty6 (by omega)];first|done|rfl)|(rw[ty4' (by omega) hmem];first|done|rfl))
        ·try simp only[Q] at h13p
         refine dr ?_
         refine rn0 (r2 rfl rfl) (.tup (.cons (.eqd ?_) (.cons (.eqd ?_) .nil)))
         all_goals (first|(refine congrArg D.bool (okI _ ?_);(try simp only[decide_eq_true_eq,Bool.false_eq_true,zaf,Bool.and_eq_true,List.length_map,true_iff,false_iff]);omega)|(rw[ty0 (by omega) (by omega) (by omega)];first|done|rfl)|(rw[ty5 (by omega)];first|done|rfl)|(rw[ty6 (by omega)];first|done|rfl)|(rw[ty4' (by omega) hmem];first|done|rfl))
       ·try simp only[Q] at h12p
        refine rn0 (r2 rfl rfl) (.tup (.cons (.nild ?_) (.cons (.eqd ?_) .nil)))
        all_goals (first|(refine congrArg D.bool (okI _ ?_);(try simp only[decide_eq_true_eq,Bool.false_eq_true,zaf,Bool.and_eq_true,List.length_map,true_iff,false_iff]);omega)|(rw[ty0 (by omega) (by omega) (by omega)];first|done|rfl)|(rw[ty5 (by omega)];first|done|rfl)|(rw[ty6 (by omega)];first|done|rfl)|(rw[ty4' (by omega) hmem];first|done|rfl))
 ·simp only[hmem,and_false,or_false] at okI
  refine bd Tryz.f102 87 [] [5] fun w0 F0 own kept hk=>?_
  refine Walk.box (id:=3004) .none rfl rfl rfl rfl rfl rfl rfl ?_
  refine Walk.box (id:=3005) .none rfl rfl rfl rfl rfl rfl rfl ?_
  refine ev ?_
  refine sq (fun h1 h1p h1s=>?_) fun h1 h1p h1s=>?_
  ·try simp only[Q] at h1p
   refine Walk.call (cr:=[]) zdM (zfw) rfl .none rfl rfl (LeL.refl _) trivial rfl rfl rfl ?_
   refine ev ?_
   refine rn0 (r2 rfl rfl) (.tup (.cons (.nild ?_) (.cons (.eqd ?_) .nil)))
   all_goals (first|(refine congrArg D.bool (okI _ ?_);(try simp only[decide_eq_true_eq,Bool.false_eq_true,zaf,Bool.and_eq_true,List.length_map,true_iff,false_iff]);omega)|(rw[ty0 (by omega) (by omega) (by omega)];first|done|rfl)|(rw[ty5 (by omega)];first|done|rfl)|(rw[ty6 (by omega)];first|done|rfl)|(rw[ty4 (by omega) hmem];first|done|rfl))
  ·try simp only[Q] at h1p
   refine sq (fun h2 h2p h2s=>?_) fun h2 h2p h2s=>?_
   ·try simp only[Q] at h2p
    refine CWp.regionJ ?_
    refine WRest.join 7 [(23,.d (.bool (decide ((p.ctor=0∧(p.n=0∧p.m=0)∧(p.kids.length:Int)=0)∧0≤p.var∧p.var≤5))))] [17,18,19,20,21,22] ?_ ?_
    ·
     refine ev ?_
     refine Walk.call (cr:=[]) zdM (zfx) rfl .none rfl rfl (LeL.refl _) trivial rfl rfl rfl ?_
     refine ev ?_
     refine sq (fun h3 h3p h3s=>?_) fun h3 h3p h3s=>?_
     ·try simp only[Q] at h3p
      refine Walk.call (cr:=[]) zkw (zev) rfl (.some rfl rfl h3) rfl rfl (LeL.refl _) trivial rfl rfl rfl ?_
      refine evs [] [(19,true)] ?_ ⟨⟨_,rfl,h3⟩,trivial⟩
      exact jn rfl (LeA.eqb (by(rw[Bool.eq_iff_iff];simp only[decide_eq_true_eq,zaf,Bool.and_eq_true,Bool.false_eq_true,false_iff,true_iff];omega)))
     ·try simp only[Q] at h3p
      exact jn rfl (LeA.eqb (by(rw[Bool.eq_iff_iff];simp only[decide_eq_true_eq,zaf,Bool.and_eq_true,Bool.false_eq_true,false_iff,true_iff];omega)))
    refine WRest.done ?_
    refine ev ?_
    refine rn0 (r2 rfl rfl) (.tup (.cons (.nild ?_) (.cons (.eqd ?_) .nil)))
    all_goals (first|(refine congrArg D.bool (okI _ ?_);(try simp only[decide_eq_true_eq,Bool.false_eq_true,zaf,Bool.and_eq_true,List.length_map,true_iff,false_iff]);omega)|(rw[ty0 (by omega) (by omega) (by omega)];first|done|rfl)|(rw[ty5 (by omega)];first|done|rfl)|(rw[ty6 (by omega)];first|done|rfl)|(rw[ty4 (by omega) hmem];first|done|rfl))
   ·try simp only[Q] at h2p
    refine sq (fun h4 h4p h4s=>?_) fun h4 h4p h4s=>?_
    ·try simp only[Q] at h4p
     refine sq (fun h5 h5p h5s=>?_) fun h5 h5p h5s=>?_
     ·try simp only[Q] at h5p
      refine Walk.call (cr:=[]) zdM (zjI) rfl (.some rfl rfl h5) rfl rfl (LeL.refl _) trivial rfl rfl rfl ?_
      refine evd [] [(29,true)] ?_ ⟨⟨_,rfl,h5⟩,trivial⟩
      refine sq (fun h6 h6p h6s=>?_) fun h6 h6p h6s=>?_
      ·try simp only[Q] at h6p
       refine sq (fun h7 h7p h7s=>?_) fun h7 h7p h7s=>?_
       ·try simp only[Q] at h7p
        refine sq (fun h8 h8p h8s=>?_) fun h8 h8p h8s=>?_
        ·try simp only[Q] at h8p
         refine dr ?_
         refine rn0 (r2 rfl rfl) (.tup (.cons (.nild ?_) (.cons (.eqd ?_) .nil)))
         all_goals (first|(refine congrArg D.bool (okI _ ?_);(try simp only[decide_eq_true_eq,Bool.false_eq_true,zaf,Bool.and_eq_true,List.length_map,true_iff,false_iff]);omega)|(rw[ty0 (by omega) (by omega) (by omega)];first|done|rfl)|(rw[ty5 (by omega)];first|done|rfl)|(rw[ty6 (by omega)];first|done|rfl)|(rw[ty4 (by omega) hmem];first|done|rfl))
        ·try simp only[Q] at h8p
         refine dr ?_
         refine rn0 (r2 rfl rfl) (.tup (.cons (.nild ?_) (.cons (.eqd ?_) .nil)))
         all_goals (first|(refine congrArg D.bool (okI _ ?_);(try simp only[decide_eq_true_eq,Bool.false_eq_true,zaf,Bool.and_eq_true,List.length_map,true_iff,false_iff]);omega)|(rw[ty0 (by omega) (by omega) (by omega)];first|done|rfl)|(rw[ty5 (by omega)];first|done|rfl)|(rw[ty6 (by omega)];first|done|rfl)|(rw[ty4 (by omega) hmem];first|done|rfl))
       ·try simp only[Q] at h7p
        refine sqF ?_
        refine dr ?_
        refine rn0 (r2 rfl rfl) (.tup (.cons (.nild ?_) (.cons (.eqd ?_) .nil)))
        all_goals (first|(refine congrArg D.bool (okI _ ?_);(try simp only[decide_eq_true_eq,Bool.false_eq_true,zaf,Bool.and_eq_true,List.length_map,true_iff,false_iff]);omega)|(rw[ty0 (by omega) (by omega) (by omega)];first|done|rfl)|(rw[ty5 (by omega)];first|done|rfl)|(rw[ty6 (by omega)];first|done|rfl)|(rw[ty4 (by omega) hmem];first|done|rfl))
      ·try simp only[Q] at h6p
       refine sqF ?_
       refine sqF ?_
       refine dr ?_
       refine rn0 (r2 rfl rfl) (.tup (.cons (.nild ?_) (.cons (.eqd ?_) .nil)))
       all_goals (first|(refine congrArg D.bool (okI _ ?_);(try simp only[decide_eq_true_eq,Bool.false_eq_true,zaf,Bool.and_eq_true,List.length_map,true_iff,false_iff]);omega)|(rw[ty0 (by omega) (by omega) (by omega)];first|done|rfl)|(rw[ty5 (by omega)];first|done|rfl)|(rw[ty6 (by omega)];first|done|rfl)|(rw[ty4 (by omega) hmem];first|done|rfl))
     ·try simp only[Q] at h5p
      refine sqF ?_
      refine sqF ?_
      refine sqF ?_
      refine dr ?_
      refine rn0 (r2 rfl rfl) (.tup (.cons (.nild ?_) (.cons (.eqd ?_) .nil)))
      all_goals (first|(refine congrArg D.bool (okI _ ?_);(try simp only[decide_eq_true_eq,Bool.false_eq_true,zaf,Bool.and_eq_true,List.length_map,true_iff,false_iff]);omega)|(rw[ty0 (by omega) (by omega) (by omega)];first|done|rfl)|(rw[ty5 (by omega)];first|done|rfl)|(rw[ty6 (by omega)];first|done|rfl)|(rw[ty4 (by omega) hmem];first|done|rfl))
    ·try simp only[Q] at h4p
     refine sq (fun h9 h9p h9s=>?_) fun h9 h9p h9s=>?_
     ·try simp only[Q] at h9p
      refine Walk.call (cr:=[]) zkA (zhl hw ht) rfl .none rfl rfl (LeL.refl _) trivial rfl rfl rfl ?_
      refine evd [] [] ?_
      refine Walk.call (cr:=[]) zkz (zbQ hcl) rfl .none rfl rfl (LeL.refl _) trivial rfl rfl rfl ?_
      refine evd [] [] ?_
      refine dr ?_
      refine sq (fun h10 h10p h10s=>?_) fun h10 h10p h10s=>?_
      ·try simp only[Q] at h10p
       refine rn0 (r2 rfl rfl) (.tup (.cons (.nild ?_) (.cons (.eqd ?_) .nil)))
       all_goals (first|(refine congrArg D.bool (okI _ ?_);(try simp only[decide_eq_true_eq,Bool.false_eq_true,zaf,Bool.and_eq_true,List.length_map,true_iff,false_iff]);omega)|(rw[ty0 (by omega) (by omega) (by omega)];first|done|rfl)|(rw[ty5 (by omega)];first|done|rfl)|(rw[ty6 (by omega)];first|done|rfl)|(rw[ty4 (by omega) hmem];first|done|rfl))
      ·try simp only[Q] at h10p
       exfalso;simp_all
     ·try simp only[Q] at h9p
      refine sq (fun h11 h11p h11s=>?_) fun h11 h11p h11s=>?_
      ·try simp only[Q] at h11p
       refine Walk.sliceLit zaY tz25 rfl (by decide) (ks:=[0,1]) (xs:=[_,_]) rfl rfl (by decide) (by decide) .none rfl rfl rfl rfl ?_
       refine evd [] [] ?_
       refine Walk.call (cr:=[]) zdM (zfw) rfl .none rfl rfl (LeL.refl _) trivial rfl rfl rfl ?_
       refine evd [] [] ?_
       refine dr ?_
       refine rn0 (r2 rfl rfl) (.tup (.cons (.eqd ?_) (.cons (.eqd ?_) .nil)))
       all_goals (first|(refine congrArg D.bool (okI _ ?_);(try simp only[decide_eq_true_eq,Bool.false_eq_true,zaf,Bool.and_eq_true,List.length_map,true_iff,false_iff]);omega)|(rw[ty0 (by omega) (by omega) (by omega)];first|done|rfl)|(rw[ty5 (by omega)];first|done|rfl)|(rw[ty6 (by omega)];first|done|rfl)|(rw[ty4 (by omega) hmem];first|done|rfl))
      ·try simp only[Q] at h11p
       refine sq (fun h12 h12p h12s=>?_) fun h12 h12p h12s=>?_
       ·try simp only[Q] at h12p
        refine Walk.sliceLit zaY tz25 rfl (by decide) (ks:=[0]) (xs:=[_]) rfl rfl (by decide) (by decide) .none rfl rfl rfl rfl ?_
        refine evd [] [] ?_
        refine Walk.call (cr:=[]) zdM (zfx) rfl .none rfl rfl (LeL.refl _) trivial rfl rfl rfl ?_
        refine evd [] [] ?_
        refine sq (fun h13 h13p h13s=>?_) fun h13 h13p h13s=>?_
        ·try simp only[Q] at h13p
         refine Walk.call (cr:=[]) zkw (zev) rfl (.some rfl rfl h13) rfl rfl (LeL.refl _) trivial rfl rfl rfl ?_
         refine evd [] [(82,true)] ?_ ⟨⟨_,rfl,h13⟩,trivial⟩
         refine dr ?_
         refine rn0 (r2 rfl rfl) (.tup (.cons (.eqd ?_) (.cons (.eqd ?_) .nil)))
         all_goals (first|(refine congrArg D.bool (okI _ ?_);(try simp only[decide_eq_true_eq,Bool.false_eq_true,zaf,Bool.and_eq_true,List.length_map,true_iff,false_iff]);omega)|(rw[ty0 (by omega) (by omega) (by omega)];first|done|rfl)|(rw[ty5 (by omega)];first|done|rfl)|(rw[ty6 (by omega)];first|done|rfl)|(rw[ty4 (by omega) hmem];first|done|rfl))
        ·try simp only[Q] at h13p
         refine dr ?_
         refine rn0 (r2 rfl rfl) (.tup (.cons (.eqd ?_) (.cons (.eqd ?_) .nil)))
         all_goals (first|(refine congrArg D.bool (okI _ ?_);(try simp only[decide_eq_true_eq,Bool.false_eq_true,zaf,Bool.and_eq_true,List.length_map,true_iff,false_iff]);omega)|(rw[ty0 (by omega) (by omega) (by omega)];first|done|rfl)|(rw[ty5 (by omega)];first|done|rfl)|(rw[ty6 (by omega)];first|done|rfl)|(rw[ty4 (by omega) hmem];first|done|rfl))
       ·try simp only[Q] at h12p
        refine rn0 (r2 rfl rfl) (.tup (.cons (.nild ?_) (.cons (.eqd ?_) .nil)))
        all_goals (first|(refine congrArg D.bool (okI _ ?_);(try simp only[decide_eq_true_eq,Bool.false_eq_true,zaf,Bool.and_eq_true,List.length_map,true_iff,false_iff]);omega)|(rw[ty0 (by omega) (by omega) (by omega)];first|done|rfl)|(rw[ty5 (by omega)];first|done|rfl)|(rw[ty6 (by omega)];first|done|rfl)|(rw[ty4 (by omega) hmem];first|done|rfl))
theorem znV {t u:Vt}:t=u↔t.var=u.var∧t.ty.data=u.ty.data∧t.ty.index=u.ty.index:=by
 rcases t with ⟨a,b,c⟩;rcases u with ⟨d,e,f⟩;simp
def zmQ (l:List Vt) (v:Vt):Int:=idxF (fun x=>decide (v=x)) l 0
theorem zi0 {l:List Vt}{v:Vt} (h:l.length≤1000000000000):FnD Tryz.prog 104 [.d (zcK l),.agg [.d (.i v.var),.d (.i v.ty.data),.d (.i v.ty.index)]] [] (.d (.i (zmQ l v))) []:=by
 refine bd Tryz.f104 19 [16] [] fun w0 F0 own kept hk=>?_
 refine Walk.box (id:=3003) .none rfl rfl rfl rfl rfl rfl rfl ?_
 refine evs [16] [] ?_
 refine CWp.loopX (ι:=List (Vt)×List (Vt)) hk (fun x=>[(8,.d (.i (x.1.length:Int)))]) [4,5,9,10,11,12,13,14,15,16,17,18] (fun x=>[]) (fun x=>x.1++x.2=l∧idxF (fun x=>decide (v=x)) x.2 x.1.length=idxF (fun x=>decide (v=x)) l 0) (fun x=>x.2.length) ([],l) ⟨by simp,rfl⟩ ⟨⟨_,rfl,(LeA.eqi (by first|rfl|(simp;done)|(simp_all;done)|omega))⟩,trivial⟩ trivial (fun x=>rfl) (fun x hg1=>?_)
 obtain⟨pre,rest⟩:=x
 dsimp only at hg1 ⊢
 refine evc [16] [] ?_
 refine sq (fun h1 h1p h1s=>?_) fun h1 h1p h1s=>?_
 ·try simp only[Q] at h1p
  rcases rest with _|⟨y,rest⟩
  ·exfalso;simp_all
  refine Walk.idx sl86 .none rfl rfl rfl rfl (zaL hg1.1) rfl ?_
  refine evd [16] [] ?_
  refine Walk.eqV2 zs2 .none rfl rfl rfl rfl rfl ?_
  refine dr ?_
  refine sq (fun h2 h2p h2s=>?_) fun h2 h2p h2s=>?_
  ·try simp only[Q] at h2p
   refine rn0 (r1 rfl) (.eqd ?_)
   all_goals (unfold zmQ;rw[←hg1.2];simp_all[idxF,znV])
  ·try simp only[Q] at h2p
   refine ar ?_
   refine Exists.intro ((pre++[y],rest)) ⟨⟨(by have hz:=hg1.1;rw[←hz];simp),(by rw[←hg1.2];simp[idxF];simp_all[znV])⟩,(by simp),Sub.x (by kernel_rfl) (by kernel_rfl) ⟨⟨_,rfl,(LeA.eqi (by first|rfl|(simp;done)|(simp_all;done)|omega))⟩,trivial⟩ (by kernel_rfl) (by kernel_rfl) trivial⟩
 ·try simp only[Q] at h1p
  have hrest:rest=[]:=by
   rcases rest with _|⟨a,b⟩
   ·rfl
   ·exfalso;have hz:=congrArg List.length (hg1.1);simp only[List.length_append,List.length_cons,List.length_map] at hz;omega
  subst hrest
  refine rn0 (r1 rfl) (.eqd ?_)
  all_goals (unfold zmQ;rw[←hg1.2];simp_all[idxF,znV])
theorem zeK {l:List Vt}{v:Vt} (h:l.length≤1000000000000):FnD Tryz.prog 77 [.d (zcK l),.agg [.d (.i v.var),.d (.i v.ty.data),.d (.i v.ty.index)]] [] (.d (.bool (decide (v∈l)))) []:=by
 refine bd Tryz.f77 9 [] [] fun w0 F0 own kept hk=>?_
 refine Walk.box (id:=3003) .none rfl rfl rfl rfl rfl rfl rfl ?_
 refine ev ?_
 refine Walk.call (cr:=[]) zrB (zi0 h) rfl .none rfl rfl (LeL.refl _) trivial rfl rfl rfl ?_
 refine ev ?_
 refine rn0 (r1 rfl) (.eqd ?_)
 all_goals (refine congrArg D.bool ?_;rw[show zmQ l v=idxF (fun x=>decide (v=x)) l 0 from rfl,zfj];simp[List.any_eq,eq_comm])
theorem zg8 {xs:List Vt}{f:Nat}{caps:List AV}{hp:Hp}{p:Vt→Bool} (hs:xs.length≤1000000000000) (hcal:Callee Tryz.prog f)
  (hf:∀t∈xs,FnD Tryz.prog f ([.agg [.d (.i t.var),.d (.i t.ty.data),.d (.i t.ty.index)]]++caps) hp (.d (.bool (p t))) []) (k1:subH hp hp) (k2:zeZ hp=true) (k3:zbB hp [] (.d .nilp) []=true):
  FnD Tryz.prog 137 [.d (zcK xs),.fn f caps] hp (.d (.i (idxF p xs 0))) []:=by
 refine bd Tryz.f137 19 [] [] fun w0 F0 own kept hk=>?_
 refine CWp.loopX (ι:=List (Vt)×List (Vt)) hk (fun x=>[(8,.d (.i (x.1.length:Int)))]) [4,5,9,10,11,12,13,14,15,16,17,18] (fun x=>[]) (fun x=>x.1++x.2=xs∧idxF p x.2 x.1.length=idxF p xs 0) (fun x=>x.2.length) ([],xs) ⟨by simp,rfl⟩ ⟨⟨_,rfl,(LeA.eqi (by first|rfl|(simp;done)|(simp_all;done)|omega))⟩,trivial⟩ trivial (fun x=>zfS hp) (fun x hg1=>?_)
 obtain⟨pre,rest⟩:=x
 dsimp only at hg1 ⊢
 refine evc [] [] ?_
 refine sq (fun h1 h1p h1s=>?_) fun h1 h1p h1s=>?_
 ·try simp only[Q] at h1p
  rcases rest with _|⟨y,rest⟩
  ·exfalso;simp_all
  refine Walk.idx sl86 .none rfl rfl rfl rfl (zaL hg1.1) rfl ?_
  refine ev ?_
  refine Walk.callV (cr:=[]) hcal (hf y (by rw[←hg1.1];simp)) rfl .none rfl rfl rfl (LeL.refl _) k1 k2 (zez k3 _) rfl ?_
  refine tv ?_
  refine sq (fun h2 h2p h2s=>?_) fun h2 h2p h2s=>?_
  ·try simp only[Q] at h2p
   refine rn [] (r1 rfl) (.eqd ?_) ⟨rfl,rfl⟩ (fun _ _ h=>h) (fun _ h=>h)
   all_goals (rw[←hg1.2];simp[idxF,h1s,h1p,h2s,h2p])
  ·try simp only[Q] at h2p
   refine ar ?_
   refine Exists.intro ((pre++[y],rest)) ⟨⟨(by have hz:=hg1.1;rw[←hz];simp),(by rw[←hg1.2];simp[idxF,h2s])⟩,(by simp),Sub.x (by kernel_rfl) (by kernel_rfl) ⟨⟨_,rfl,(LeA.eqi (by first|rfl|(simp;done)|(simp_all;done)|omega))⟩,trivial⟩ (by simp) (by simp[zdw]) trivial⟩
 ·try simp only[Q] at h1p
  have hrest:rest=[]:=by
   rcases rest with _|⟨a,b⟩
   ·rfl
   ·exfalso;have hz:=congrArg List.length (hg1.1);simp only[List.length_append,List.length_cons,List.length_map] at hz;omega
  subst hrest
  refine rn [] (r1 rfl) (.eqd ?_) ⟨rfl,rfl⟩ (fun _ _ h=>h) (fun _ h=>h)
  all_goals (rw[←hg1.2];simp[idxF,h1s,h1p])
theorem zf3 {xs:List Vt}{f:Nat}{caps:List AV}{hp:Hp}{p:Vt→Bool} (hs:xs.length≤1000000000000) (hcal:Callee Tryz.prog f)
  (hf:∀t∈xs,FnD Tryz.prog f ([.agg [.d (.i t.var),.d (.i t.ty.data),.d (.i t.ty.index)]]++caps) hp (.d (.bool (p t))) []) (k1:subH hp hp) (k2:zeZ hp=true) (k3:zbB hp [] (.d .nilp) []=true):
  FnD Tryz.prog 128 [.d (zcK xs),.fn f caps] hp (.d (.bool (xs.any p))) []:=by
 refine bd Tryz.f128 9 [] [] fun w0 F0 own kept hk=>?_
 refine Walk.call (cr:=[]) zrL (zg8 hs hcal hf k1 k2 k3) rfl .none rfl rfl (LeL.refl _) k1 k2 (zez k3 _) rfl ?_
 refine ev ?_
 refine rn [] (r1 rfl) (.eqd ?_) ⟨rfl,rfl⟩ (fun _ _ h=>h) (fun _ h=>h)
 all_goals (exact congrArg D.bool (zfj p xs 0))
theorem ziD {b:List Vt}{v:Vt} (h:b.length≤1000000000000):FnD Tryz.prog 129 [.agg [.d (.i v.var),.d (.i v.ty.data),.d (.i v.ty.index)],.ref 3003 0] [(3003,some (.box [.d (zcK b)]))] (.d (.bool (!decide (v∈b)))) []:=by
 refine bd Tryz.f129 8 [] [] fun w0 F0 own kept hk=>?_
 refine Walk.box (id:=3001) .none rfl rfl rfl rfl rfl rfl rfl ?_
 refine ev ?_
 refine Walk.call (cr:=[]) zqG (zeK h) rfl .none rfl rfl (LeL.refl _) trivial rfl rfl rfl ?_
 refine ev ?_
 refine rn [] (r1 rfl) (.eqd ?_) ⟨rfl,rfl⟩ (SubH.get ⟨rfl,trivial⟩) (fun _ h=>h)
 all_goals (rfl)
theorem zgs {x y:List Vt} (hx:x.length≤1000000000000) (hy:y.length≤1000000000000):FnD Tryz.prog 103 [.d (zcK x),.d (zcK y)] [] (.d (.bool (zdf x y))) []:=by
 refine bd Tryz.f103 16 [] [] fun w0 F0 own kept hk=>?_
 refine Walk.box (id:=3003) .none rfl rfl rfl rfl rfl rfl rfl ?_
 refine ev ?_
 refine sq (fun h1 h1p h1s=>?_) fun h1 h1p h1s=>?_
 ·try simp only[Q] at h1p
  refine Walk.closure (xs:=[_]) rfl (.some rfl rfl h1) rfl rfl ?_
  refine Walk.call (cr:=[]) zrJ (zf3 (p:=fun v=> !decide (v∈y)) hx zrK (fun t _=>ziD hy) ⟨rfl,trivial⟩ rfl rfl) rfl (.some rfl rfl h1) rfl rfl (LeL.refl _) ⟨rfl,trivial⟩ rfl rfl rfl ?_
  refine evs [] [(10,true)] ?_ ⟨⟨_,rfl,h1⟩,trivial⟩
  refine rn0 (r1 rfl) (.eqd ?_)
  all_goals (refine congrArg D.bool ?_;unfold zdf;first|(simp_all;done)|(simp_all;intro hz;omega))
 ·try simp only[Q] at h1p
  refine rn0 (r1 rfl) (.eqd ?_)
  all_goals (refine congrArg D.bool ?_;unfold zdf;first|(simp_all;done)|(simp_all;intro hz;omega))
def metA (s:List Int):List AV:=(List.range 6).map fun(i:Nat)=> .d (.bool (decide ((i:Int)∈s)))
theorem znn {s:List Int}{v:Int} (h0:0≤v) (h1:v≤5):(metA s)[v.toNat]?=some (.d (.bool (decide (v∈s)))):=by
 unfold metA
 rw[List.getElem?_map,List.getElem?_range (by omega)]
 simp only[Option.map_some]
 rw[Int.toNat_of_nonneg h0]
theorem zno {s:List Int}{v:Int} (h0:0≤v) (h1:v≤5):putC (metA s) v.toNat [.d (.bool true)]=some (metA (s++[v])):=by
 have e:v=0∨v=1∨v=2∨v=3∨v=4∨v=5:=by omega
 rcases e with rfl|rfl|rfl|rfl|rfl|rfl<;>simp[metA,putC,List.range_succ]
theorem zpy (t:Ty) (p:Pat):(zaD t p).length≤1:=by unfold zaD;split<;>simp
theorem ziP:∀ {a b:List Int},a.Nodup→(∀x∈a,x∈b)→a.length≤b.length
 | [],b,_,_=>by simp
 |x::r,b,hn,hs=>by
  have hn':=List.nodup_cons.1 hn
  have hx:=hs x (by simp)
  have h:=ziP (a:=r) (b:=b.erase x) hn'.2 (fun y hy=>by
   have hne:y≠x:=fun e=>hn'.1 (e ▸ hy)
   exact(List.mem_erase_of_ne hne).2 (hs y (by simp[hy])))
  rw[List.length_erase_of_mem hx] at h
  have:=List.length_pos_of_mem hx
  simp only[List.length_cons];omega
def InR (l:List Vt):Prop:=∀v∈l,0≤v.var∧v.var≤5
theorem zmj {l:List Vt} (h:InR l) (hn:zb2 l=true):l.length≤6:=by
 unfold zb2 at hn
 have h1:=of_decide_eq_true hn
 have h2:∀x∈l.map Vt.var,x∈[(0:Int),1,2,3,4,5]:=fun x hx=>by
  obtain⟨v,hv,rfl⟩:=List.mem_map.1 hx
  have:=h v hv
  simp only[List.mem_cons,List.not_mem_nil,or_false];omega
 have:=ziP h1 h2
 simpa using this
theorem zkh {g:Ty→Pat→Int→Option (List Vt)×Int}{or:Bool} (hg:∀t p c l,(g t p c).1=some l→InR l):∀(a:List Ty) (b:List Pat) (i:Nat) (acc:List Vt) (c:Int) (l:List Vt),InR acc→(zba g or a b i acc c).1=some l→InR l
 | [],b,i,acc,c,l,ha,h=>by simp only[zba,Option.some.injEq] at h;subst h;exact ha
 |_::_,[],i,acc,c,l,ha,h=>by simp only[zba,Option.some.injEq] at h;subst h;exact ha
 |x::r,y::s,i,acc,c,l,ha,h=>by
  simp only[zba] at h
  cases hh:(g x y c).1 with
  |none=>rw[hh] at h;cases h
  |some m=>
   rw[hh] at h
   simp only at h
   split at h
   ·split at h
    ·exact zkh hg r s (i+1) acc _ l ha h
    ·cases h
   ·refine zkh hg r s (i+1) _ _ l (fun v hv=>?_) h
    rcases List.mem_append.1 hv with hv|hv
    ·exact ha v hv
    ·exact hg x y c m hh v hv
theorem zh0 (w:List Data):∀(n:Nat) (t:Ty) (p:Pat) (c:Int) (l:List Vt),(zaG w n t p c).1=some l→InR l∧zb2 l=true
 |0,t,p,c,l,h=>by simp[zaG] at h
 |n+1,t,p,c,l,h=>by
  unfold zaG at h
  split at h
  ·cases h
  ·split at h
   ·rename_i h60 ho
    have ho':ownP w t p=true:=by unfold okP at ho;simp only[Bool.and_eq_true] at ho;exact ho.1
    cases hk:(zba (zaG w n) (decide (p.op=5)) (zaa w t p) p.kids 0 (zaD t p) (c+1)).1 with
    |none=>unfold finV at h;rw[hk] at h;simp only at h;rw[hk] at h;cases h
    |some m=>
     have hi:InR m:=zkh (fun t p c l h=>(zh0 w n t p c l h).1) _ _ _ _ _ m (fun v hv=>by
      unfold zaD at hv
      split at hv
      ·rename_i hop
       simp only[List.mem_cons,List.not_mem_nil,or_false] at hv
       subst hv
       exact zns ho' hop
      ·simp at hv) hk
     unfold finV at h
     rw[hk] at h
     simp only at h
     split at h
     ·rename_i hn
      rw[hk] at h
      cases h
      exact⟨hi,hn⟩
     ·cases h
   ·cases h
theorem zqh (w:List Data) (n:Nat) (t:Ty) (p:Pat) (c:Int) (h:(zaG w n t p c).1.isSome=true):c+1≤(zaG w n t p c).2∧(zaG w n t p c).2≤60:=by
 have h1:=zdZ w n t p c
 by_cases hw:zbq w n t p c=true
 ·have h2:=h1.2 hw
  simp only[zbq,Bool.and_eq_true,decide_eq_true_eq] at hw
  have:=Pat.size_eq p
  omega
 ·rw[if_neg hw] at h1;rw[h1.1] at h;cases h
def zc8 (o:Option (List Vt)):List Vt:=o.getD []
theorem zoQ {g:Ty→Pat→Int→Option (List Vt)×Int}{or:Bool}{a:List Ty}{b:List Pat}{i:Nat}{acc:List Vt}{c:Int} (ha:i<a.length) (hl:b.length=a.length) (h:(g (nth a i) (nth b i) c).1.isSome=false):
  zba g or (a.drop i) (b.drop i) i acc c=(none,(g (nth a i) (nth b i) c).2):=by
 rw[zaT ha,zaT (l:=b) (by omega),zba]
 cases hh:(g (nth a i) (nth b i) c).1 with
 |none=>rfl
 |some l=>rw[hh] at h;cases h
theorem zpL {g:Ty→Pat→Int→Option (List Vt)×Int}{or:Bool}{a:List Ty}{b:List Pat}{i:Nat}{acc:List Vt}{c:Int} (ha:i<a.length) (hl:b.length=a.length) (h:(g (nth a i) (nth b i) c).1.isSome=true) (ho:or=true∧i=1) (hs:zdf acc (zc8 (g (nth a i) (nth b i) c).1)=false):
  zba g or (a.drop i) (b.drop i) i acc c=(none,(g (nth a i) (nth b i) c).2):=by
 rw[zaT ha,zaT (l:=b) (by omega),zba]
 cases hh:(g (nth a i) (nth b i) c).1 with
 |none=>rfl
 |some l=>rw[hh] at hs;simp only[zc8,Option.getD_some] at hs;simp only[if_pos ho,hs,Bool.false_eq_true,if_false]
theorem zoP {g:Ty→Pat→Int→Option (List Vt)×Int}{or:Bool}{a:List Ty}{b:List Pat}{i:Nat}{acc:List Vt}{c:Int} (ha:i<a.length) (hl:b.length=a.length) (h:(g (nth a i) (nth b i) c).1.isSome=true) (hs:(or=true∧i=1)→zdf acc (zc8 (g (nth a i) (nth b i) c).1)=true):
  zba g or (a.drop i) (b.drop i) i acc c=zba g or (a.drop (i+1)) (b.drop (i+1)) (i+1) (if or=true∧i=1 then acc else acc++zc8 (g (nth a i) (nth b i) c).1) (g (nth a i) (nth b i) c).2:=by
 rw[zaT ha,zaT (l:=b) (by omega),zba]
 cases hh:(g (nth a i) (nth b i) c).1 with
 |none=>rw[hh] at h;cases h
 |some l=>
  by_cases ho:or=true∧i=1
  ·have:=hs ho;rw[hh] at this;simp only[zc8,Option.getD_some] at this
   simp only[if_pos ho,this,if_true]
  ·simp only[if_neg ho,zc8,Option.getD_some]
theorem zpM {g:Ty→Pat→Int→Option (List Vt)×Int}{or:Bool}{a:List Ty}{b:List Pat}{i:Nat}{acc:List Vt}{c:Int} (ha:a.length≤i):zba g or (a.drop i) (b.drop i) i acc c=(some acc,c):=by
 rw[List.drop_eq_nil_of_le ha,zba]
 intro a r b s h;cases h
theorem zd0 (w:List Data) (n:Nat) (t:Ty) (p:Pat) (c:Int):InR (zc8 (zaG w n t p c).1)∧(zc8 (zaG w n t p c).1).length≤6:=by
 cases h:(zaG w n t p c).1 with
 |none=>exact⟨fun v hv=>by simp[zc8] at hv,by simp[zc8]⟩
 |some l=>
  have:=zh0 w n t p c l h
  exact⟨this.1,zmj this.1 this.2⟩
structure GoodS (w:List Data) (n:Nat) (t:Ty) (p:Pat) (c:Int) (x:Nat×List Vt×Int):Prop where
 le:x.1≤p.kids.length
 eq:zba (zaG w n) (decide (p.op=5)) ((zaa w t p).drop x.1) (p.kids.drop x.1) x.1 x.2.1 x.2.2=zba (zaG w n) (decide (p.op=5)) (zaa w t p) p.kids 0 (zaD t p) (c+1)
 lc:(x.1:Int)≤x.2.2
 c0:0≤x.2.2
 c1:x.2.2≤60
 len:x.2.1.length≤1+6*x.1
 inr:InR x.2.1
def zby (w:List Data) (n:Nat) (t:Ty) (p:Pat) (x:Nat×List Vt×Int):Nat×List Vt×Int:=
 (x.1+1,if decide (p.op=5)=true∧x.1=1 then x.2.1 else x.2.1++zc8 (zaG w n (nth (zaa w t p) x.1) (nth p.kids x.1) x.2.2).1,(zaG w n (nth (zaa w t p) x.1) (nth p.kids x.1) x.2.2).2)
theorem GoodS.next {w:List Data}{n:Nat}{t:Ty}{p:Pat}{c:Int}{x:Nat×List Vt×Int} (hl:p.kids.length=(zaa w t p).length) (hg:GoodS w n t p c x) (hlt:x.1<p.kids.length)
  (hz:(zaG w n (nth (zaa w t p) x.1) (nth p.kids x.1) x.2.2).1.isSome=true) (hs:(decide (p.op=5)=true∧x.1=1)→zdf x.2.1 (zc8 (zaG w n (nth (zaa w t p) x.1) (nth p.kids x.1) x.2.2).1)=true):
  GoodS w n t p c (zby w n t p x):=by
 obtain⟨h1,h2,h3,h4,h5,h6,h7⟩:=hg
 have hb:=zqh w n _ _ _ hz
 have ho:=zd0 w n (nth (zaa w t p) x.1) (nth p.kids x.1) x.2.2
 refine⟨by unfold zby;dsimp only;omega, ?_,by unfold zby;dsimp only;omega,by unfold zby;dsimp only;omega,by unfold zby;dsimp only;omega, ?_, ?_⟩
 ·rw[←h2,zoP (by omega) hl hz hs];rfl
 ·unfold zby;dsimp only
  split
  ·omega
  ·rw[List.length_append];omega
 ·unfold zby;dsimp only
  split
  ·exact h7
  ·intro v hv
   rcases List.mem_append.1 hv with hv|hv
   ·exact h7 v hv
   ·exact ho.1 v hv
theorem GoodS.none {w:List Data}{n:Nat}{t:Ty}{p:Pat}{c:Int}{x:Nat×List Vt×Int} (hl:p.kids.length=(zaa w t p).length) (hg:GoodS w n t p c x) (hlt:x.1<p.kids.length)
  (hz:(zaG w n (nth (zaa w t p) x.1) (nth p.kids x.1) x.2.2).1.isSome=false):
  finV (zba (zaG w n) (decide (p.op=5)) (zaa w t p) p.kids 0 (zaD t p) (c+1))=(none,(zaG w n (nth (zaa w t p) x.1) (nth p.kids x.1) x.2.2).2):=by
 rw[←hg.eq,zoQ (by omega) hl hz];rfl
theorem GoodS.bad {w:List Data}{n:Nat}{t:Ty}{p:Pat}{c:Int}{x:Nat×List Vt×Int} (hl:p.kids.length=(zaa w t p).length) (hg:GoodS w n t p c x) (hlt:x.1<p.kids.length)
  (hz:(zaG w n (nth (zaa w t p) x.1) (nth p.kids x.1) x.2.2).1.isSome=true) (ho:p.op=5∧x.1=1) (hs:zdf x.2.1 (zc8 (zaG w n (nth (zaa w t p) x.1) (nth p.kids x.1) x.2.2).1)=false):
  finV (zba (zaG w n) (decide (p.op=5)) (zaa w t p) p.kids 0 (zaD t p) (c+1))=(Option.none,(zaG w n (nth (zaa w t p) x.1) (nth p.kids x.1) x.2.2).2):=by
 rw[←hg.eq,zpL (by omega) hl hz (by simpa using ho) hs];rfl
theorem GoodS.fin {w:List Data}{n:Nat}{t:Ty}{p:Pat}{c:Int}{x:Nat×List Vt×Int} (hl:p.kids.length=(zaa w t p).length) (hg:GoodS w n t p c x) (hge:p.kids.length≤x.1):
  finV (zba (zaG w n) (decide (p.op=5)) (zaa w t p) p.kids 0 (zaD t p) (c+1))=(if zb2 x.2.1=true then some x.2.1 else Option.none,x.2.2):=by
 rw[←hg.eq,zpM (by omega)]
 unfold finV
 simp only
 split<;>rfl
theorem ziN {pre rest l:List Vt}{y:Vt} (h:pre++y::rest=l) (hm:y.var∈pre.map Vt.var):zb2 l=false:=by
 unfold zb2
 refine decide_eq_false (fun hn=>?_)
 rw[←h,List.map_append,List.map_cons,List.nodup_append] at hn
 exact hn.2.2 _ hm _ (by simp) rfl
theorem zkW {pre:List Vt}{y:Vt} (h:(pre.map Vt.var).Nodup) (hm:y.var∉pre.map Vt.var):((pre++[y]).map Vt.var).Nodup:=by
 rw[List.map_append,List.nodup_append]
 exact⟨h,by simp,fun a ha b hb=>by simp at hb;subst hb;exact fun e=>hm (e ▸ ha)⟩
def retV (r:Option (List Vt)×Int):AV:= .tup [.d (zcK (zc8 r.1)),.d (.bool r.1.isSome)]
theorem zdI {w:List Data} (hw:WT w):∀(n:Nat){a k d c:Int}{p:Pat},d+n=11→n≤10→TyIn w.length ⟨a,k⟩→p.ok→0≤c→c≤1000000000000→
  FnD Tryz.prog 76 [.d (zag w),.agg [.d (.i a),.d (.i k)],.agg [.d (.i p.op),.d (.i p.ctor),.d (.i p.n),.d (.i p.m),.d (.i p.var),.d (zaH p.kids)],.d (.i d),.ref 950 0] [(950,some (.box [.d (.i c)]))]
   (retV (zaG w n ⟨a,k⟩ p c)) [(950,some (.box [.d (.i (zaG w n ⟨a,k⟩ p c).2)]))]
 |0,a,k,d,c,p,hd,_,_,_,c0,c1=>by
  refine bd Tryz.f76 114 [] [2] fun w0 F0 own kept hk=>?_
  refine Walk.box (id:=3006) .none rfl rfl rfl rfl rfl rfl rfl ?_
  refine Walk.box (id:=3007) .none rfl rfl rfl rfl rfl rfl rfl ?_
  refine ev ?_
  refine ar ?_
  refine Walk.store ty3 .none rfl rfl rfl rfl rfl rfl (by simp) rfl ?_
  refine tv ?_
  refine CWp.regionJ ?_
  refine WRest.join 8 [(34,.d (.bool (true)))] [27,28,29,30,31,32,33] ?_ ?_
  ·
   refine ev ?_
   refine sq (fun h1 h1p h1s=>?_) fun h1 h1p h1s=>?_
   ·try simp only[Q] at h1p
    exact jnb rfl
   ·try simp only[Q] at h1p
    exact jnb rfl
  refine WRest.done ?_
  refine tv ?_
  refine sq (fun h2 h2p h2s=>?_) fun h2 h2p h2s=>?_
  ·try simp only[Q] at h2p
   refine rn [(950,some (.box [.d (.i (zaG w 0 ⟨a,k⟩ p c).2)]))] (r2 rfl rfl) (.tup (.cons (.nild ?_) (.cons (.eqd ?_) .nil))) ⟨rfl,rfl⟩ (SubO.get ⟨.inr (by rfl),⟨.inl rfl,trivial⟩⟩) (zaq rfl)
   all_goals (rfl)
  ·try simp only[Q] at h2p
   exact absurd h2 (by simp)
 |n+1,a,k,d,c,p,hd,hn,ht,hok,c0,c1=>by
  by_cases h60:60<c+1
  ·have e:zaG w (n+1) ⟨a,k⟩ p c=(none,c+1):=by unfold zaG;rw[if_pos h60]
   rw[e]
   refine bd Tryz.f76 114 [] [2] fun w0 F0 own kept hk=>?_
   refine Walk.box (id:=3006) .none rfl rfl rfl rfl rfl rfl rfl ?_
   refine Walk.box (id:=3007) .none rfl rfl rfl rfl rfl rfl rfl ?_
   refine ev ?_
   refine ar ?_
   refine Walk.store ty3 .none rfl rfl rfl rfl rfl rfl (by simp) rfl ?_
   refine tv ?_
   refine CWp.regionJ ?_
   refine WRest.join 8 [(34,.d (.bool (true)))] [27,28,29,30,31,32,33] ?_ ?_
   ·
    refine ev ?_
    refine sq (fun h1 h1p h1s=>?_) fun h1 h1p h1s=>?_
    ·try simp only[Q] at h1p
     exact jnb rfl
    ·try simp only[Q] at h1p
     exact jnb rfl
   refine WRest.done ?_
   refine tv ?_
   refine sq (fun h2 h2p h2s=>?_) fun h2 h2p h2s=>?_
   ·try simp only[Q] at h2p
    refine rn [(950,some (.box [.d (.i (c+1))]))] (r2 rfl rfl) (.tup (.cons (.nild ?_) (.cons (.eqd ?_) .nil))) ⟨rfl,rfl⟩ (SubO.get ⟨.inr (by rfl),⟨.inl rfl,trivial⟩⟩) (zaq rfl)
    all_goals (rfl)
   ·try simp only[Q] at h2p
    exact absurd h2 (by simp)
  have hsh:=zmE hw (p:=p) ht
  by_cases hop:okP w ⟨a,k⟩ p=true
  ·have hok':=hok
   rw[Pat.ok_iff] at hok
   have hop':=hop
   unfold okP at hop'
   simp only[Bool.and_eq_true,decide_eq_true_eq] at hop'
   obtain⟨ho,hl⟩:=hop'
   have hin:=zfG hw ht ho
   have hlen:=zf5 hw ht (zcn ho)
   have hst:zdg w ⟨a,k⟩ p=zaa w ⟨a,k⟩ p:=by unfold zdg;rw[if_neg (fun h=>h.2 (zcn ho h.1))]
   rw[hst,hop] at hsh
   have e:zaG w (n+1) ⟨a,k⟩ p c=finV (zba (zaG w n) (decide (p.op=5)) (zaa w ⟨a,k⟩ p) p.kids 0 (zaD ⟨a,k⟩ p) (c+1)):=by
    conv=>lhs;unfold zaG
    rw[if_neg h60,if_pos hop]
   have hnr:InR (zaD ⟨a,k⟩ p):=fun v hv=>by
    unfold zaD at hv
    split at hv
    ·rename_i hop
     simp only[List.mem_cons,List.not_mem_nil,or_false] at hv
     subst hv
     exact zns ho hop
    ·simp at hv
   have hnl:=zpy ⟨a,k⟩ p
   rw[e]
   refine bd Tryz.f76 114 [14,108] [2,8,17] fun w0 F0 own kept hk=>?_
   refine Walk.box (id:=3006) .none rfl rfl rfl rfl rfl rfl rfl ?_
   refine Walk.box (id:=3007) .none rfl rfl rfl rfl rfl rfl rfl ?_
   refine evs [14,108] [] ?_
   refine ar ?_
   refine Walk.store ty3 .none rfl rfl rfl rfl rfl rfl (by simp) rfl ?_
   refine tv ?_
   refine CWp.regionJ ?_
   refine WRest.join 8 [(34,.d (.bool (false)))] [27,28,29,30,31,32,33] ?_ ?_
   ·
    refine evs [14,108] [] ?_
    refine sq (fun h1 h1p h1s=>?_) fun h1 h1p h1s=>?_
    ·try simp only[Q,Pat.cs_len] at h1p
     exact jnb rfl
    ·try simp only[Q,Pat.cs_len] at h1p
     exact jnb rfl
   refine WRest.done ?_
   refine tv ?_
   refine sq (fun h2 h2p h2s=>?_) fun h2 h2p h2s=>?_
   ·try simp only[Q,Pat.cs_len] at h2p
    exact absurd h2 (by simp)
   ·try simp only[Q,Pat.cs_len] at h2p
    refine Walk.call (cr:=[]) zo1 (hsh) rfl .none rfl rfl (LeL.refl _) trivial rfl rfl rfl ?_
    refine evs [14,108] [] ?_
    refine sq (fun h3 h3p h3s=>?_) fun h3 h3p h3s=>?_
    ·try simp only[Q,Pat.cs_len] at h3p
     exact absurd h3 (by simp)
    ·try simp only[Q,Pat.cs_len] at h3p
     refine Walk.assignNil 5 3 .none rfl rfl ?_
     refine tv ?_
     refine CWp.regionJ ?_
     refine WRest.join 8 [(51,.d (.bool (decide (p.op=2∨p.op=6))))] [44,45,46,47,48,49,50] ?_ ?_
     ·
      refine evs [14,108] [] ?_
      refine sq (fun h4 h4p h4s=>?_) fun h4 h4p h4s=>?_
      ·try simp only[Q,Pat.cs_len] at h4p
       exact jnb rfl
      ·try simp only[Q,Pat.cs_len] at h4p
       exact jnb rfl
     refine WRest.done ?_
     refine tv ?_
     refine sq (fun h5 h5p h5s=>?_) fun h5 h5p h5s=>?_
     ·try simp only[Q,Pat.cs_len] at h5p
      refine Walk.build zoU (ks:=[0,1]) (xs:=[_,_]) rfl rfl .none rfl rfl rfl ?_
      refine Walk.sliceLit sl86 zmU rfl (by decide) (ks:=[0]) (xs:=[_]) rfl rfl (by decide) (by decide) .none rfl rfl rfl rfl ?_
      refine Walk.append sl86 zmX rfl .none rfl rfl rfl rfl (zaP rfl (by first|rfl|(simp;done)|(simp;omega))) (by simp) (by(simp;done)) (by(simp;done)) ?_
      refine asg ?_
      refine tv ?_
      refine CWp.loopX (ι:=Nat×List Vt×Int) hk (fun z=>[(62,.d (.i (z.1:Int))),(14,.gl 5 (z.2.1.map Vt.c))]) [10,11,15,16,17,18,63,64,65,66,67,68,69,70,71,72,73,74,75,76,77,78,79,80,81,82,83,84,85,86,87,88,89,90,91,92,93,94,95,96,97,98] (fun z=>[(950,some (.box [.d (.i z.2.2)])),(5,some (.tok ((z.2.1.map Vt.c)).length 3))]) (fun z=>GoodS w n ⟨a,k⟩ p c z) (fun z=>p.kids.length-z.1) (0,zaD ⟨a,k⟩ p,c+1) ⟨by simp,by simp,by dsimp only;omega,by dsimp only;omega,by dsimp only;omega,by dsimp only;omega,hnr⟩ ⟨⟨_,rfl,(LeA.eqi (by rfl))⟩,⟨⟨_,rfl,(LeA.glg (by(simp_all[zaD];done)))⟩,trivial⟩⟩ ⟨(by first|rfl|(simp[getH];done)),⟨zae (by(first|rfl|(simp;done)|(dsimp only;omega)|(simp_all[zaD];done)|(unfold zby;dsimp only;rw[if_neg (by simp_all)];simp;done)|(unfold zby;dsimp only;rw[if_pos (by simp_all)];done))),trivial⟩⟩ (fun x=>rfl) (fun z hg1=>?_)
      obtain⟨s1,_,s3,s4,s5,s6,s7⟩:=id hg1
      refine evc [14,108] [2,8,17] ?_
      refine sq (fun h6 h6p h6s=>?_) fun h6 h6p h6s=>?_
      ·try simp only[Q,Pat.cs_len] at h6p
       refine Walk.idx sl35 .none rfl rfl rfl rfl (zbm (by omega)) rfl ?_
       refine evs [14,108] [] ?_
       refine Walk.alloc (id:=3016) tz37 rfl .none rfl rfl rfl rfl ?_
       refine evs [14,108] [] ?_
       refine Walk.store ty37 .none rfl rfl rfl rfl rfl rfl (by simp) rfl ?_
       refine tv ?_
       refine Walk.idx zaY .none rfl rfl rfl rfl (zak (by omega)) rfl ?_
       refine evd [14,108] [] ?_
       refine ar ?_
       refine Walk.call (cr:=[]) zoz (zdI hw n (a:=(nth (zaa w ⟨a,k⟩ p) z.1).data) (k:=(nth (zaa w ⟨a,k⟩ p) z.1).index) (c:=z.2.2) (p:=nth p.kids z.1) (by omega) (by omega) (hin _ (zai (by omega))) (Pats.ok_mem hok.2 _ (zai (by omega))) (by omega) (by omega)) rfl .none rfl rfl (LeL.refl _) ⟨rfl,trivial⟩ rfl rfl rfl ?_
       refine evd [14,108] [] ?_
       refine dr ?_
       refine sq (fun h7 h7p h7s=>?_) fun h7 h7p h7s=>?_
       ·try simp only[Q,Pat.cs_len] at h7p
        refine rn [(950,some (.box [.d (.i (finV (zba (zaG w n) (decide (p.op=5)) (zaa w ⟨a,k⟩ p) p.kids 0 (zaD ⟨a,k⟩ p) (c+1))).2)]))] (r2 rfl rfl) (.tup (.cons (.nild ?_) (.cons (.eqd ?_) .nil))) ⟨rfl,rfl⟩ (SubO.get ⟨.inr (by(show some (Res.box _)=some (Res.box _);rw[hg1.none hl (by omega) (by assumption)];done)),⟨.inl rfl,trivial⟩⟩) (zaq rfl)
        all_goals ((rw[hg1.none hl (by omega) (by assumption)];first|done|rfl))
       ·try simp only[Q,Pat.cs_len] at h7p
        refine CWp.regionJ ?_
        refine WRest.join 7 [(93,.d (.bool (decide (p.op=5∧z.1=1))))] [87,88,89,90,91,92] ?_ ?_
        ·
         refine evs [14,108] [] ?_
         refine sq (fun h8 h8p h8s=>?_) fun h8 h8p h8s=>?_
         ·try simp only[Q,Pat.cs_len] at h8p
          exact jnb rfl
         ·try simp only[Q,Pat.cs_len] at h8p
          exact jnb rfl
        refine WRest.done ?_
        refine evs [14,108] [] ?_
        refine sq (fun h9 h9p h9s=>?_) fun h9 h9p h9s=>?_
        ·try simp only[Q,Pat.cs_len] at h9p
         refine Walk.call (cr:=[]) zo2 (zgs (by omega) (by have hz:=(zd0 w n ⟨(nth (zaa w ⟨a,k⟩ p) z.1).data,(nth (zaa w ⟨a,k⟩ p) z.1).index⟩ (nth p.kids z.1) z.2.2).2;omega)) rfl .none rfl rfl (.cons (.gl _ _) (.cons (.refl _) .nil)) trivial rfl rfl rfl ?_
         refine evs [14,108] [] ?_
         refine sq (fun h10 h10p h10s=>?_) fun h10 h10p h10s=>?_
         ·try simp only[Q,Pat.cs_len] at h10p
          refine rn [(950,some (.box [.d (.i (finV (zba (zaG w n) (decide (p.op=5)) (zaa w ⟨a,k⟩ p) p.kids 0 (zaD ⟨a,k⟩ p) (c+1))).2)]))] (r2 rfl rfl) (.tup (.cons (.nild ?_) (.cons (.eqd ?_) .nil))) ⟨rfl,rfl⟩ (SubO.get ⟨.inr (by(show some (Res.box _)=some (Res.box _);rw[hg1.bad hl (by omega) (by assumption) (by assumption) (by assumption)];done)),⟨.inl rfl,trivial⟩⟩) (zaq rfl)
          all_goals ((rw[hg1.bad hl (by omega) (by assumption) (by assumption) (by assumption)];first|done|rfl))
         ·try simp only[Q,Pat.cs_len] at h10p
          refine ar ?_
          refine Exists.intro ((zby w n ⟨a,k⟩ p z)) ⟨(hg1.next hl (by omega) (by simp_all) (fun ho=>by simp_all)),(by unfold zby;dsimp only;omega),Sub.x (by kernel_rfl) (by kernel_rfl) ⟨⟨_,rfl,(LeA.eqi (by rfl))⟩,⟨⟨_,rfl,(LeA.glg (by(simp_all[zaD];done)))⟩,trivial⟩⟩ (by kernel_rfl) (by kernel_rfl) ⟨(by first|rfl|(simp[getH];done)),⟨zae (by(simp;omega)),trivial⟩⟩⟩
        ·try simp only[Q,Pat.cs_len] at h9p
         refine Walk.append sl86 zmX rfl .none rfl rfl rfl rfl (zaP rfl (by first|rfl|(simp;done)|(simp;omega))) (by simp) (by(have hz:=(zd0 w n ⟨(nth (zaa w ⟨a,k⟩ p) z.1).data,(nth (zaa w ⟨a,k⟩ p) z.1).index⟩ (nth p.kids z.1) z.2.2).2;simp;omega)) (by(have hz:=(zd0 w n ⟨(nth (zaa w ⟨a,k⟩ p) z.1).data,(nth (zaa w ⟨a,k⟩ p) z.1).index⟩ (nth p.kids z.1) z.2.2).2;simp;omega)) ?_
         refine asg ?_
         refine tv ?_
         refine ar ?_
         refine Exists.intro ((zby w n ⟨a,k⟩ p z)) ⟨(hg1.next hl (by omega) (by simp_all) (fun ho=>by simp_all)),(by unfold zby;dsimp only;omega),Sub.x (by kernel_rfl) (by kernel_rfl) ⟨⟨_,rfl,(LeA.eqi (by rfl))⟩,⟨⟨_,rfl,(LeA.glg (by(unfold zby;dsimp only;rw[if_neg (by simp_all)];simp;done)))⟩,trivial⟩⟩ (by kernel_rfl) (by kernel_rfl) ⟨(by first|rfl|(simp[getH];done)),⟨zae (by(first|rfl|(simp;done)|(dsimp only;omega)|(simp_all[zaD];done)|(unfold zby;dsimp only;rw[if_neg (by simp_all)];simp;done)|(unfold zby;dsimp only;rw[if_pos (by simp_all)];done))),trivial⟩⟩⟩
      ·try simp only[Q,Pat.cs_len] at h6p
       refine Walk.alloc (id:=3019) zq4 rfl .none rfl rfl rfl rfl ?_
       refine tv ?_
       refine CWp.loopX (ι:=List (Vt)×List (Vt)) hk (fun x=>[(101,.d (.i (x.1.length:Int)))]) [10,11,21,102,103,104,105,106,107,108,109,110,111,112] (fun x=>[(3019,some (.box (metA (x.1.map Vt.var))))]) (fun x=>x.1++x.2=z.2.1∧(x.1.map Vt.var).Nodup) (fun x=>x.2.length) ([],z.2.1) ⟨by simp,by simp⟩ ⟨⟨_,rfl,(LeA.eqi (by first|rfl|(simp;done)|(simp_all;done)|omega))⟩,trivial⟩ ⟨(by first|rfl|(simp[getH];done)),trivial⟩ (fun x=>rfl) (fun x hg2=>?_)
       obtain⟨pre,rest⟩:=x
       dsimp only at hg2 ⊢
       refine evc [14,108] [2,8,17] ?_
       refine sq (fun h11 h11p h11s=>?_) fun h11 h11p h11s=>?_
       ·try simp only[Q,Pat.cs_len] at h11p
        rcases rest with _|⟨y,rest⟩
        ·exfalso;simp_all
        have hy:=s7 y (by rw[←hg2.1];simp)
        refine Walk.idxG sl86 .none rfl rfl rfl rfl (zaL hg2.1) rfl ?_
        refine evs [14,108] [] ?_
        refine Walk.alloc (id:=3021) zmU rfl .none rfl rfl rfl rfl ?_
        refine Walk.store zq3 .none rfl rfl rfl rfl rfl rfl (by simp) rfl ?_
        refine tv ?_
        refine Walk.idxA (i:=y.var.toNat) zmJ .none rfl rfl rfl (Int.toNat_of_nonneg hy.1).symm (by omega) ?_
        refine Walk.loadB ty4 .none rfl rfl rfl ((by simpa using znn hy.1 hy.2)) ?_
        refine tv ?_
        refine sq (fun h12 h12p h12s=>?_) fun h12 h12p h12s=>?_
        ·try simp only[Q,Pat.cs_len] at h12p
         refine rn [(950,some (.box [.d (.i (finV (zba (zaG w n) (decide (p.op=5)) (zaa w ⟨a,k⟩ p) p.kids 0 (zaD ⟨a,k⟩ p) (c+1))).2)]))] (r2 rfl rfl) (.tup (.cons (.nild ?_) (.cons (.eqd ?_) .nil))) ⟨rfl,rfl⟩ (SubO.get ⟨.inr (by(show some (Res.box _)=some (Res.box _);rw[hg1.fin hl (by omega)];done)),⟨.inl rfl,trivial⟩⟩) (zaq rfl)
         all_goals ((rw[hg1.fin hl (by omega),if_neg (by rw[ziN hg2.1 (by assumption)];simp)];first|done|rfl))
        ·try simp only[Q,Pat.cs_len] at h12p
         refine Walk.idxA (i:=y.var.toNat) zmJ .none rfl rfl rfl (Int.toNat_of_nonneg hy.1).symm (by omega) ?_
         refine Walk.store ty4 .none rfl rfl rfl rfl rfl rfl (by simp) ((by simpa using zno hy.1 hy.2)) ?_
         refine tv ?_
         refine ar ?_
         refine Exists.intro ((pre++[y],rest)) ⟨⟨(by have hz:=hg2.1;rw[←hz];simp),(zkW hg2.2 (by simp_all))⟩,(by simp),Sub.x (by kernel_rfl) (by kernel_rfl) ⟨⟨_,rfl,(LeA.eqi (by first|rfl|(simp;done)|(simp_all;done)|omega))⟩,trivial⟩ (by kernel_rfl) (by kernel_rfl) ⟨(by first|rfl|(simp[getH];done)),trivial⟩⟩
       ·try simp only[Q,Pat.cs_len] at h11p
        have hrest:rest=[]:=by
         rcases rest with _|⟨a,b⟩
         ·rfl
         ·exfalso;have hz:=congrArg List.length (hg2.1);simp only[List.length_append,List.length_cons,List.length_map] at hz;omega
        subst hrest
        refine rn [(950,some (.box [.d (.i (finV (zba (zaG w n) (decide (p.op=5)) (zaa w ⟨a,k⟩ p) p.kids 0 (zaD ⟨a,k⟩ p) (c+1))).2)]))] (r2 rfl rfl) (.tup (.cons (.gld ?_) (.cons (.eqd ?_) .nil))) ⟨rfl,rfl⟩ (SubO.get ⟨.inr (by(show some (Res.box _)=some (Res.box _);rw[hg1.fin hl (by omega)];done)),⟨.inl rfl,trivial⟩⟩) (zaq rfl)
        all_goals ((rw[hg1.fin hl (by omega),if_pos (by have hz:=hg2.1;rw[List.append_nil] at hz;rw[←hz];exact decide_eq_true hg2.2)];first|done|rfl))
     ·try simp only[Q,Pat.cs_len] at h5p
      refine CWp.loopX (ι:=Nat×List Vt×Int) hk (fun z=>[(62,.d (.i (z.1:Int))),(14,.gl 5 (z.2.1.map Vt.c))]) [10,11,15,16,17,18,63,64,65,66,67,68,69,70,71,72,73,74,75,76,77,78,79,80,81,82,83,84,85,86,87,88,89,90,91,92,93,94,95,96,97,98] (fun z=>[(950,some (.box [.d (.i z.2.2)])),(5,some (.tok ((z.2.1.map Vt.c)).length 3))]) (fun z=>GoodS w n ⟨a,k⟩ p c z) (fun z=>p.kids.length-z.1) (0,zaD ⟨a,k⟩ p,c+1) ⟨by simp,by simp,by dsimp only;omega,by dsimp only;omega,by dsimp only;omega,by dsimp only;omega,hnr⟩ ⟨⟨_,rfl,(LeA.eqi (by rfl))⟩,⟨⟨_,rfl,(LeA.glg (by(simp_all[zaD];done)))⟩,trivial⟩⟩ ⟨(by first|rfl|(simp[getH];done)),⟨zae (by(first|rfl|(simp;done)|(dsimp only;omega)|(simp_all[zaD];done)|(unfold zby;dsimp only;rw[if_neg (by simp_all)];simp;done)|(unfold zby;dsimp only;rw[if_pos (by simp_all)];done))),trivial⟩⟩ (fun x=>rfl) (fun z hg1=>?_)
      obtain⟨s1,_,s3,s4,s5,s6,s7⟩:=id hg1
      refine evc [14,108] [2,8,17] ?_
      refine sq (fun h13 h13p h13s=>?_) fun h13 h13p h13s=>?_
      ·try simp only[Q,Pat.cs_len] at h13p
       refine Walk.idx sl35 .none rfl rfl rfl rfl (zbm (by omega)) rfl ?_
       refine evs [14,108] [] ?_
       refine Walk.alloc (id:=3016) tz37 rfl .none rfl rfl rfl rfl ?_
       refine evs [14,108] [] ?_
       refine Walk.store ty37 .none rfl rfl rfl rfl rfl rfl (by simp) rfl ?_
       refine tv ?_
       refine Walk.idx zaY .none rfl rfl rfl rfl (zak (by omega)) rfl ?_
       refine evd [14,108] [] ?_
       refine ar ?_
       refine Walk.call (cr:=[]) zoz (zdI hw n (a:=(nth (zaa w ⟨a,k⟩ p) z.1).data) (k:=(nth (zaa w ⟨a,k⟩ p) z.1).index) (c:=z.2.2) (p:=nth p.kids z.1) (by omega) (by omega) (hin _ (zai (by omega))) (Pats.ok_mem hok.2 _ (zai (by omega))) (by omega) (by omega)) rfl .none rfl rfl (LeL.refl _) ⟨rfl,trivial⟩ rfl rfl rfl ?_
       refine evd [14,108] [] ?_
       refine dr ?_
       refine sq (fun h14 h14p h14s=>?_) fun h14 h14p h14s=>?_
       ·try simp only[Q,Pat.cs_len] at h14p
        refine rn [(950,some (.box [.d (.i (finV (zba (zaG w n) (decide (p.op=5)) (zaa w ⟨a,k⟩ p) p.kids 0 (zaD ⟨a,k⟩ p) (c+1))).2)]))] (r2 rfl rfl) (.tup (.cons (.nild ?_) (.cons (.eqd ?_) .nil))) ⟨rfl,rfl⟩ (SubO.get ⟨.inr (by(show some (Res.box _)=some (Res.box _);rw[hg1.none hl (by omega) (by assumption)];done)),⟨.inl rfl,trivial⟩⟩) (zaq rfl)
        all_goals ((rw[hg1.none hl (by omega) (by assumption)];first|done|rfl))
       ·try simp only[Q,Pat.cs_len] at h14p
        refine CWp.regionJ ?_
        refine WRest.join 7 [(93,.d (.bool (decide (p.op=5∧z.1=1))))] [87,88,89,90,91,92] ?_ ?_
        ·
         refine evs [14,108] [] ?_
         refine sq (fun h15 h15p h15s=>?_) fun h15 h15p h15s=>?_
         ·try simp only[Q,Pat.cs_len] at h15p
          exact jnb rfl
         ·try simp only[Q,Pat.cs_len] at h15p
          exact jnb rfl
        refine WRest.done ?_
        refine evs [14,108] [] ?_
        refine sq (fun h16 h16p h16s=>?_) fun h16 h16p h16s=>?_
        ·try simp only[Q,Pat.cs_len] at h16p
         refine Walk.call (cr:=[]) zo2 (zgs (by omega) (by have hz:=(zd0 w n ⟨(nth (zaa w ⟨a,k⟩ p) z.1).data,(nth (zaa w ⟨a,k⟩ p) z.1).index⟩ (nth p.kids z.1) z.2.2).2;omega)) rfl .none rfl rfl (.cons (.gl _ _) (.cons (.refl _) .nil)) trivial rfl rfl rfl ?_
         refine evs [14,108] [] ?_
         refine sq (fun h17 h17p h17s=>?_) fun h17 h17p h17s=>?_
         ·try simp only[Q,Pat.cs_len] at h17p
          refine rn [(950,some (.box [.d (.i (finV (zba (zaG w n) (decide (p.op=5)) (zaa w ⟨a,k⟩ p) p.kids 0 (zaD ⟨a,k⟩ p) (c+1))).2)]))] (r2 rfl rfl) (.tup (.cons (.nild ?_) (.cons (.eqd ?_) .nil))) ⟨rfl,rfl⟩ (SubO.get ⟨.inr (by first|(show some (Res.box _)=some (Res.box _);rw[hg1.none hl (by omega) (by assumption)];done)|(show some (Res.box _)=some (Res.box _);rw[hg1.bad hl (by omega) (by assumption) (by assumption) (by assumption)];done)|(show some (Res.box _)=some (Res.box _);rw[hg1.fin hl (by omega)];done)),⟨.inl rfl,trivial⟩⟩) (zaq rfl)
          all_goals ((rw[hg1.bad hl (by omega) (by assumption) (by assumption) (by assumption)];first|done|rfl))
         ·try simp only[Q,Pat.cs_len] at h17p
          refine ar ?_
          refine Exists.intro ((zby w n ⟨a,k⟩ p z)) ⟨(hg1.next hl (by omega) (by simp_all) (fun ho=>by simp_all)),(by unfold zby;dsimp only;omega),Sub.x (by kernel_rfl) (by kernel_rfl) ⟨⟨_,rfl,(LeA.eqi (by rfl))⟩,⟨⟨_,rfl,(LeA.glg (by(unfold zby;dsimp only;rw[if_pos (by simp_all)];done)))⟩,trivial⟩⟩ (by kernel_rfl) (by kernel_rfl) ⟨(by first|rfl|(simp[getH];done)),⟨zae (by(first|rfl|(simp;done)|(dsimp only;omega)|(simp_all[zaD];done)|(unfold zby;dsimp only;rw[if_neg (by simp_all)];simp;done)|(unfold zby;dsimp only;rw[if_pos (by simp_all)];done))),trivial⟩⟩⟩
        ·try simp only[Q,Pat.cs_len] at h16p
         refine Walk.append sl86 zmX rfl .none rfl rfl rfl rfl (zaP rfl (by first|rfl|(simp;done)|(simp;omega))) (by simp) (by(have hz:=(zd0 w n ⟨(nth (zaa w ⟨a,k⟩ p) z.1).data,(nth (zaa w ⟨a,k⟩ p) z.1).index⟩ (nth p.kids z.1) z.2.2).2;simp;omega)) (by(have hz:=(zd0 w n ⟨(nth (zaa w ⟨a,k⟩ p) z.1).data,(nth (zaa w ⟨a,k⟩ p) z.1).index⟩ (nth p.kids z.1) z.2.2).2;simp;omega)) ?_
         refine asg ?_
         refine tv ?_
         refine ar ?_
         refine Exists.intro ((zby w n ⟨a,k⟩ p z)) ⟨(hg1.next hl (by omega) (by simp_all) (fun ho=>by simp_all)),(by unfold zby;dsimp only;omega),Sub.x (by kernel_rfl) (by kernel_rfl) ⟨⟨_,rfl,(LeA.eqi (by rfl))⟩,⟨⟨_,rfl,(LeA.glg (by(unfold zby;dsimp only;rw[if_neg (by simp_all)];simp;done)))⟩,trivial⟩⟩ (by kernel_rfl) (by kernel_rfl) ⟨(by first|rfl|(simp[getH];done)),⟨zae (by(first|rfl|(simp;done)|(dsimp only;omega)|(simp_all[zaD];done)|(unfold zby;dsimp only;rw[if_neg (by simp_all)];simp;done)|(unfold zby;dsimp only;rw[if_pos (by simp_all)];done))),trivial⟩⟩⟩
      ·try simp only[Q,Pat.cs_len] at h13p
       refine Walk.alloc (id:=3019) zq4 rfl .none rfl rfl rfl rfl ?_
       refine tv ?_
       refine CWp.loopX (ι:=List (Vt)×List (Vt)) hk (fun x=>[(101,.d (.i (x.1.length:Int)))]) [10,11,21,102,103,104,105,106,107,108,109,110,111,112] (fun x=>[(3019,some (.box (metA (x.1.map Vt.var))))]) (fun x=>x.1++x.2=z.2.1∧(x.1.map Vt.var).Nodup) (fun x=>x.2.length) ([],z.2.1) ⟨by simp,by simp⟩ ⟨⟨_,rfl,(LeA.eqi (by first|rfl|(simp;done)|(simp_all;done)|omega))⟩,trivial⟩ ⟨(by first|rfl|(simp[getH];done)),trivial⟩ (fun x=>rfl) (fun x hg2=>?_)
       obtain⟨pre,rest⟩:=x
       dsimp only at hg2 ⊢
       refine evc [14,108] [2,8,17] ?_
       refine sq (fun h18 h18p h18s=>?_) fun h18 h18p h18s=>?_
       ·try simp only[Q,Pat.cs_len] at h18p
        rcases rest with _|⟨y,rest⟩
        ·exfalso;simp_all
        have hy:=s7 y (by rw[←hg2.1];simp)
        refine Walk.idxG sl86 .none rfl rfl rfl rfl (zaL hg2.1) rfl ?_
        refine evs [14,108] [] ?_
        refine Walk.alloc (id:=3021) zmU rfl .none rfl rfl rfl rfl ?_
        refine Walk.store zq3 .none rfl rfl rfl rfl rfl rfl (by simp) rfl ?_
        refine tv ?_
        refine Walk.idxA (i:=y.var.toNat) zmJ .none rfl rfl rfl (Int.toNat_of_nonneg hy.1).symm (by omega) ?_
        refine Walk.loadB ty4 .none rfl rfl rfl ((by simpa using znn hy.1 hy.2)) ?_
        refine tv ?_
        refine sq (fun h19 h19p h19s=>?_) fun h19 h19p h19s=>?_
        ·try simp only[Q,Pat.cs_len] at h19p
         refine rn [(950,some (.box [.d (.i (finV (zba (zaG w n) (decide (p.op=5)) (zaa w ⟨a,k⟩ p) p.kids 0 (zaD ⟨a,k⟩ p) (c+1))).2)]))] (r2 rfl rfl) (.tup (.cons (.nild ?_) (.cons (.eqd ?_) .nil))) ⟨rfl,rfl⟩ (SubO.get ⟨.inr (by(show some (Res.box _)=some (Res.box _);rw[hg1.fin hl (by omega)];done)),⟨.inl rfl,trivial⟩⟩) (zaq rfl)
         all_goals ((rw[hg1.fin hl (by omega),if_neg (by rw[ziN hg2.1 (by assumption)];simp)];first|done|rfl))
        ·try simp only[Q,Pat.cs_len] at h19p
         refine Walk.idxA (i:=y.var.toNat) zmJ .none rfl rfl rfl (Int.toNat_of_nonneg hy.1).symm (by omega) ?_
         refine Walk.store ty4 .none rfl rfl rfl rfl rfl rfl (by simp) ((by simpa using zno hy.1 hy.2)) ?_
         refine tv ?_
         refine ar ?_
         refine Exists.intro ((pre++[y],rest)) ⟨⟨(by have hz:=hg2.1;rw[←hz];simp),(zkW hg2.2 (by simp_all))⟩,(by simp),Sub.x (by kernel_rfl) (by kernel_rfl) ⟨⟨_,rfl,(LeA.eqi (by first|rfl|(simp;done)|(simp_all;done)|omega))⟩,trivial⟩ (by kernel_rfl) (by kernel_rfl) ⟨(by first|rfl|(simp[getH];done)),trivial⟩⟩
       ·try simp only[Q,Pat.cs_len] at h18p
        have hrest:rest=[]:=by
         rcases rest with _|⟨a,b⟩
         ·rfl
         ·exfalso;have hz:=congrArg List.length (hg2.1);simp only[List.length_append,List.length_cons,List.length_map] at hz;omega
        subst hrest
        refine rn [(950,some (.box [.d (.i (finV (zba (zaG w n) (decide (p.op=5)) (zaa w ⟨a,k⟩ p) p.kids 0 (zaD ⟨a,k⟩ p) (c+1))).2)]))] (r2 rfl rfl) (.tup (.cons (.gld ?_) (.cons (.eqd ?_) .nil))) ⟨rfl,rfl⟩ (SubO.get ⟨.inr (by(show some (Res.box _)=some (Res.box _);rw[hg1.fin hl (by omega)];done)),⟨.inl rfl,trivial⟩⟩) (zaq rfl)
        all_goals (first|(rw[hg1.none hl (by omega) (by assumption)];first|done|rfl)|(rw[hg1.bad hl (by omega) (by assumption) (by assumption) (by assumption)];first|done|rfl)|(rw[hg1.fin hl (by omega),if_neg (by rw[ziN hg2.1 (by assumption)];simp)];first|done|rfl)|(rw[hg1.fin hl (by omega),if_pos (by have hz:=hg2.1;rw[List.append_nil] at hz;rw[←hz];exact decide_eq_true hg2.2)];first|done|rfl))
  ·have hopf:okP w ⟨a,k⟩ p=false:=by simpa using hop
   have e:zaG w (n+1) ⟨a,k⟩ p c=(none,c+1):=by unfold zaG;rw[if_neg h60,if_neg hop]
   rw[e]
   rw[hopf] at hsh
   refine bd Tryz.f76 114 [] [2] fun w0 F0 own kept hk=>?_
   refine Walk.box (id:=3006) .none rfl rfl rfl rfl rfl rfl rfl ?_
   refine Walk.box (id:=3007) .none rfl rfl rfl rfl rfl rfl rfl ?_
   refine ev ?_
   refine ar ?_
   refine Walk.store ty3 .none rfl rfl rfl rfl rfl rfl (by simp) rfl ?_
   refine tv ?_
   refine CWp.regionJ ?_
   refine WRest.join 8 [(34,.d (.bool (false)))] [27,28,29,30,31,32,33] ?_ ?_
   ·
    refine ev ?_
    refine sq (fun h1 h1p h1s=>?_) fun h1 h1p h1s=>?_
    ·try simp only[Q] at h1p
     exact jnb rfl
    ·try simp only[Q] at h1p
     exact jnb rfl
   refine WRest.done ?_
   refine tv ?_
   refine sq (fun h2 h2p h2s=>?_) fun h2 h2p h2s=>?_
   ·try simp only[Q] at h2p
    exact absurd h2 (by simp)
   ·try simp only[Q] at h2p
    refine Walk.call (cr:=[]) zo1 (hsh) rfl .none rfl rfl (LeL.refl _) trivial rfl rfl rfl ?_
    refine ev ?_
    refine sq (fun h3 h3p h3s=>?_) fun h3 h3p h3s=>?_
    ·try simp only[Q] at h3p
     refine rn [(950,some (.box [.d (.i (c+1))]))] (r2 rfl rfl) (.tup (.cons (.nild ?_) (.cons (.eqd ?_) .nil))) ⟨rfl,rfl⟩ (SubO.get ⟨.inr (by rfl),⟨.inl rfl,trivial⟩⟩) (zaq rfl)
     all_goals (rfl)
    ·try simp only[Q] at h3p
     exact absurd h3 (by simp)
end Go.Proofs.YtflgpdjbgfkhoaaGreat
namespace Go.Proofs.YtflgpdjbgfkhoaaGreat
open Go
set_option linter.unusedSimpArgs false
set_option linter.unusedVariables false
set_option maxRecDepth 100000
set_option maxHeartbeats 2000000
theorem zpR {i j:Nat} (h:j<4):tyS (i*4+j)=⟨(i:Int),(j:Int)⟩:=by
 unfold tyS
 rw[show(i*4+j) / 4=i by omega,show(i*4+j) % 4=j by omega]
end Go.Proofs.YtflgpdjbgfkhoaaGreat
namespace Go.Proofs.YtflgpdjbgfkhoaaGreat
open Go
set_option linter.unusedSimpArgs false
set_option linter.unusedVariables false
set_option maxRecDepth 100000
set_option maxHeartbeats 4000000
theorem zs5 (w:List Data) (t:Ty) (p:Pat):(zaG w 10 t p 0).1.isSome=isP w t p:=by
 have h:=(zdZ w 10 t p 0).1
 rw[h]
 unfold zbq isP
 rw[Int.zero_add]
 split
 ·rename_i hz;rw[hz];rfl
 ·rename_i hz
  cases hc:(zap w 10 t p&&(decide ((p.size:Int)≤60)&&linP w 10 t p)) with
  |true=>exact absurd hc hz
  |false=>rfl
theorem zif {w:List Data} (hw:WT w){a k:Int}{p:Pat} (ht:TyIn w.length ⟨a,k⟩) (hok:p.ok):
  FnD Tryz.prog 49 [.d (zag w),.agg [.d (.i a),.d (.i k)],.agg [.d (.i p.op),.d (.i p.ctor),.d (.i p.n),.d (.i p.m),.d (.i p.var),.d (zaH p.kids)]] [] (.tup [.d (zcK (zc8 (zaG w 10 ⟨a,k⟩ p 0).1)),.d (.bool (isP w ⟨a,k⟩ p))]) []:=by
 rw[←zs5]
 refine bd Tryz.f49 15 [] [] fun w0 F0 own kept hk=>?_
 refine Walk.box (id:=3004) .none rfl rfl rfl rfl rfl rfl rfl ?_
 refine Walk.box (id:=3005) .none rfl rfl rfl rfl rfl rfl rfl ?_
 refine ev ?_
 refine Walk.alloc (id:=950) tz3 rfl .none rfl rfl rfl rfl ?_
 refine Walk.store ty3 .none rfl rfl rfl rfl rfl rfl (by simp) rfl ?_
 refine tv ?_
 refine Walk.call (cr:=[]) zoz (zdI hw 10 (c:=0) (by omega) (by omega) ht hok (by omega) (by omega)) rfl .none rfl rfl (LeL.refl _) ⟨rfl,trivial⟩ rfl rfl rfl ?_
 refine ev ?_
 refine rn0 (r2 rfl rfl) (.tup (.cons (.eqd ?_) (.cons (.eqd ?_) .nil)))
 all_goals (rfl)
end Go.Proofs.YtflgpdjbgfkhoaaGreat
namespace Go.Proofs.YtflgpdjbgfkhoaaGreat
open Go
set_option linter.unusedSimpArgs false
set_option linter.unusedVariables false
set_option maxRecDepth 100000
set_option maxHeartbeats 2000000
theorem zqp {w:List Data} (hs:WSmall w) (hv:zaA w=true):Dp w:=by
 have hw:=zfs hs hv
 have hW:=(zcI w).1 hv
 refine⟨hw,fun s hs c hc u hu=>?_,hW.len,fun s hs=>?_⟩
 ·obtain⟨j,rfl,hj⟩:=zds (d:=s / 4) (k:=((s % 4:Nat):Int)) hc
  have hu':u∈zam w ⟨((s / 4:Nat):Int),((s % 4:Nat):Int)⟩ (j:Int):=hu
  simp only[zam,Int.toNat_natCast,List.mem_map] at hu'
  obtain⟨x,hx,rfl⟩:=hu'
  have hco:=hW.ctor _ (zai (l:=w) (i:=s / 4) (by omega)) _ (zai hj)
  simp only[za1,Bool.and_eq_true,Bool.not_eq_true',List.any_eq_false] at hco
  have hax:zbg w.length x=true:=by
   have:=hco.2.2.2 x hx
   cases h:zbg w.length x with
   |true=>rfl
   |false=>rw[h] at this;exact absurd rfl this
  have hci:=hco.2.2.1
  simp only[zbg,zaf,Bool.or_eq_true,Bool.and_eq_true,decide_eq_true_eq,and_true] at hax hci
  have key:∀y:Ty,(y.data = -1∨(0≤y.data∧y.data<w.length∧0≤y.index∧y.index≤3))→InS (w.length*4) y:=by
   rintro ⟨a,k⟩ h
   rcases h with h|⟨h1,h2,h3,h4⟩
   ·exact .inl h
   ·refine .inr ⟨?_, ?_⟩
    ·simp only[zep] at *;omega
    ·obtain⟨i,rfl⟩:=Int.eq_ofNat_of_zero_le h1
     obtain⟨m,rfl⟩:=Int.eq_ofNat_of_zero_le h3
     simp only[zep,Int.toNat_natCast]
     exact zpR (by simp only at h4;omega)
  refine key _ ?_
  unfold za0 zbh
  split
  ·dsimp only
   rcases hax with h|h
   ·omega
   ·right
    refine⟨by omega,by omega, ?_⟩
    split<;>omega
  ·rcases hax with h|h
   ·exact .inl h.1
   ·right;omega
 ·have h1:=zfJ (tyS s).index (nth w (tyS s).data.toNat).ctors 0
  have h2:=(hW.data _ (zai (l:=w) (i:=s / 4) (by omega))).2.2
  show(zaW (tyS s).index 0 (nth w (tyS s).data.toNat).ctors).length≤4
  have e:(tyS s).data.toNat=s / 4:=by simp only[tyS,Int.toNat_natCast]
  rw[e] at h1 ⊢
  omega
theorem zj9 {n:Nat}{t:Ty} (h:InS (n*4) t):TyIn n t:=by
 rcases h with h|⟨h1,h2⟩
 ·exact .inl h
 ·refine .inr ⟨zep t / 4, ?_,by omega⟩
  have:=congrArg Ty.data h2
  exact this.symm
theorem zjT {w:List Data} (hd:Dp w){t:Ty}{c:Int} (ht:InS (w.length*4) t) (hc:c∈zah w t):∀u∈zam w t c,InS (w.length*4) u:=by
 rcases ht with h|⟨h1,h2⟩
 ·unfold zah at hc;rw[if_pos h] at hc;simp at hc
 ·have hx:=hd.cl _ h1
  rw[h2] at hx
  have:c∈zaX w t:=by
   unfold zah at hc
   split at hc
   ·simp at hc
   ·exact hc
  exact hx c this
structure PKids (w:List Data) (n:Nat) (a k k':Int) (p:Pat):Prop where
 len5:p.op=5→p.kids.length=2
 len6:p.op=6→p.kids.length=1
 len4:p.op=4→p.kids.length=(zam w ⟨a,k⟩ p.ctor).length
 one:p.op=5∨p.op=6→zap w n ⟨a,k'⟩ (nth p.kids 0)=true
 two:p.op=5→zap w n ⟨a,k'⟩ (nth p.kids 1)=true
 arg:p.op=4→∀i,i<(zam w ⟨a,k⟩ p.ctor).length→zap w n ⟨(nth (zam w ⟨a,k⟩ p.ctor) i).data,(nth (zam w ⟨a,k'⟩ p.ctor) i).index⟩ (nth p.kids i)=true
 mem:p.op=4→p.ctor∈zah w ⟨a,k'⟩
 ops:p.op=1∨p.op=2∨(p.op=3∧a = -1)∨p.op=4∨p.op=5∨p.op=6
theorem zd2 {w:List Data}{a k:Int} (h:zbl w ⟨a,k⟩=true):zaA w=true∧TyIn w.length ⟨a,k⟩∧(a≠ -1→0≤a∧a.toNat<w.length∧0≤k∧k≤3):=by
 unfold zbl at h
 rw[Bool.and_eq_true] at h
 obtain⟨h1,h2⟩:=h
 simp only[zci,zaf,Bool.or_eq_true,Bool.and_eq_true,decide_eq_true_eq,and_true] at h2
 refine⟨h1, ?_,fun ha=>by omega⟩
 rcases h2 with h|h
 ·exact .inl h.1
 ·exact .inr ⟨a.toNat,by simp only;omega,by omega⟩
structure PVal (w:List Data) (a k:Int) (p:Pat):Prop where
 dp:Dp w
 tin:TyIn w.length ⟨a,k⟩
 shape:zap w 10 ⟨a,k⟩ p=true
 rng:a≠ -1→0≤a∧a.toNat<w.length∧0≤k∧k≤3
theorem zkj {w:List Data}{a b:Int} (hs:WSmall w):FnD Tryz.prog 38 [.d (zag w),.agg [.d (.i a),.d (.i b)]] [] (.d (.bool (zbl w ⟨a,b⟩))) []:=by
 rw[←zrp];exact zjx hs
theorem zmY {α β:Type} [Inhabited α] [Inhabited β]{f:α→β→Bool}{a:List α}{b:List β} (hl:a.length=b.length) (h:all2 f a b=true):∀i,i<a.length→f (nth a i) (nth b i)=true:=fun i hi=>by
 cases hf:f (nth a i) (nth b i) with
 |true=>rfl
 |false=>rw[zbT hi hl hf] at h;exact absurd h (by simp)
mutual
theorem zlt:∀v:Val,zf7 v v=true
 | .mk _ _ ks=>by simp[zf7,zjS ks]
theorem zjS:∀l:List Val,zca l l=true
 | []=>rfl
 |v::r=>by simp[zca,zlt v,zjS r]
end
theorem Val.c_len (v:Val):v.c.length=3:=by cases v;rfl
theorem Val.cs_rows {l:List Val}:∀x,x∈Val.cs l→x.length=3:=by
 intro x hx
 rw[Val.cs_eq] at hx
 obtain⟨y,_,rfl⟩:=List.mem_map.1 hx
 exact y.c_len
theorem Val.cs_nil (l:List Val):Val.cs l=[]↔l=[]:=by rw[Val.cs_eq];simp
mutual
def mVal:Val→Nat
 | .mk _ _ ks=>zkS ks
def zkS:List Val→Nat
 | []=>0
 |v::r=>1+mVal v+zkS r
end
mutual
def Val.szM:Val→Int
 | .mk _ _ ks=>2+Vals.szM ks
def Vals.szM:List Val→Int
 | []=>0
 |v::r=>v.szM+Vals.szM r
end
mutual
def Val.one (k:Int):Val→Val
 | .mk _ _ ks=> .mk k (k+1) (Vals.one (k+1+1) ks)
def Vals.one (k:Int):List Val→List Val
 | []=>[]
 |v::r=>v.one k::Vals.one (k+v.szM) r
end
theorem Vals.szM_eq:∀l:List Val,Vals.szM l=szL Val.szM l
 | []=>rfl
 |v::r=>by simp only[Vals.szM,szL,Vals.szM_eq r]
theorem Vals.one_eq:∀(l:List Val) (k:Int),Vals.one k l=mkL Val.one Val.szM k l
 | [],_=>rfl
 |v::r,k=>by simp only[Vals.one,mkL,Vals.one_eq r]
theorem Val.szM_kids (v:Val):v.szM=2+szL Val.szM v.kids:=by cases v;simp only[Val.szM,Val.kids,Vals.szM_eq]
theorem Val.one_kids (v:Val) (k:Int):(v.one k).kids=mkL Val.one Val.szM (k+1+1) v.kids:=by cases v;simp only[Val.one,Val.kids,Vals.one_eq]
theorem Val.one_sc (v:Val) (k:Int):(Val.one k v).ctor=k∧(Val.one k v).num=k+1:=by cases v;exact⟨rfl,rfl⟩
mutual
theorem Val.szM_nn:∀v:Val,0≤v.szM
 | .mk _ _ ks=>by have:=Vals.szM_nn ks;simp only[Val.szM];omega
theorem Vals.szM_nn:∀l:List Val,0≤Vals.szM l
 | []=>by simp[Vals.szM]
 |v::r=>by have:=Val.szM_nn v;have:=Vals.szM_nn r;simp only[Vals.szM];omega
end
mutual
theorem Val.szM_le:∀v:Val,v.szM≤2+2*(mVal v:Int)
 | .mk _ _ ks=>by have:=Vals.szM_le ks;simp only[Val.szM,mVal];omega
theorem Vals.szM_le:∀l:List Val,Vals.szM l≤2*(zkS l:Int)
 | []=>by simp[Vals.szM,zkS]
 |v::r=>by have:=Val.szM_le v;have:=Vals.szM_le r;simp only[Vals.szM,zkS];omega
end
def zbY (w:List Data):Nat→Ty→Val→Bool
 |0,_,_=>false
 |n+1,t,v=>if t.data = -1 then decide (v.ctor = -1)&&(decide (0≤v.num)&&(decide (v.num≤9)&&decide (v.kids.length=0)))
   else if v.num=0∧v.ctor∈zaX w t then all2 (zbY w n) (zam w t v.ctor) v.kids else false
def zcy (g:Ty→Val→Int→Bool×Int):List Ty→List Val→Int→Bool×Int
 |a::r,b::s,c=>if (g a b c).1 then zcy g r s (g a b c).2 else (false,(g a b c).2)
 |_,_,c=>(true,c)
def zaI (w:List Data):Nat→Ty→Val→Int→Bool×Int
 |0,_,_,c=>(false,c+1)
 |n+1,t,v,c=>if 60<c+1 then (false,c+1)
   else if t.data = -1 then (decide (v.ctor = -1)&&(decide (0≤v.num)&&(decide (v.num≤9)&&decide (v.kids.length=0))),c+1)
   else if v.num=0∧v.ctor∈zaX w t then (if (zam w t v.ctor).length=v.kids.length then zcy (zaI w n) (zam w t v.ctor) v.kids (c+1) else (false,c+1))
   else (false,c+1)
theorem znE {w:List Data}{n:Nat} (ih:∀t v c,(zaI w n t v c).1=(zbY w n t v&&decide (c+(v.size:Int)≤60))∧((zaI w n t v c).1=true→(zaI w n t v c).2=c+v.size)):
  ∀(a:List Ty) (b:List Val) (c:Int),a.length=b.length→c≤60→(zcy (zaI w n) a b c).1=(all2 (zbY w n) a b&&decide (c+(Vals.size b:Int)≤60))∧((zcy (zaI w n) a b c).1=true→(zcy (zaI w n) a b c).2=c+Vals.size b)
 | [],[],c,_,hc=>by simp[zcy,all2,Vals.size,hc]
 |x::r,y::s,c,hl,hc=>by
  obtain⟨h1,h2⟩:=ih x y c
  simp only[zcy,all2,Vals.size]
  cases hh:(zaI w n x y c).1 with
  |true=>
   have h3:=h2 hh
   rw[hh] at h1
   have h4:=h1.symm
   simp only[Bool.and_eq_true,decide_eq_true_eq] at h4
   obtain⟨h5,h6⟩:=znE ih r s (zaI w n x y c).2 (by simpa using hl) (by omega)
   simp only[if_true]
   rw[h5]
   refine⟨?_,fun hx=>?_⟩
   ·rw[h4.1,h3,Bool.true_and]
    congr 1
    exact decide_eq_decide.2 (by push_cast;omega)
   ·rw[←h5] at hx
    rw[h6 hx,h3];push_cast;omega
  |false=>
   rw[hh] at h1
   simp only[Bool.false_eq_true,if_false,false_implies,and_true]
   have h4:=h1.symm
   simp only[Bool.and_eq_false_imp,decide_eq_false_iff_not] at h4
   symm
   cases hf:zbY w n x y with
   |false=>simp
   |true=>
    have:=h4 hf
    have h7:¬(c+((y.size+Vals.size s:Nat):Int)≤60):=by push_cast;omega
    simp only[Bool.and_eq_false_imp]
    intro _;exact decide_eq_false h7
 | [],_::_,_,hl,_=>by simp at hl
 |_::_,[],_,hl,_=>by simp at hl
theorem Vals.size_nil {l:List Val} (h:l.length=0):Vals.size l=0:=by
 cases l with
 |nil=>rfl
 |cons x r=>simp at h
theorem zki (w:List Data):∀(n:Nat) (t:Ty) (v:Val) (c:Int),(zaI w n t v c).1=(zbY w n t v&&decide (c+(v.size:Int)≤60))∧((zaI w n t v c).1=true→(zaI w n t v c).2=c+v.size)
 |0,t,v,c=>by simp[zaI,zbY]
 |n+1,t,v,c=>by
  have hsz:=Val.size_eq v
  unfold zaI zbY
  by_cases h1:60<c+1
  ·rw[if_pos h1]
   simp only[Bool.false_eq_true,false_implies,and_true]
   symm
   simp only[Bool.and_eq_false_imp,decide_eq_false_iff_not]
   intro _;omega
  ·rw[if_neg h1]
   by_cases h2:t.data = -1
   ·rw[if_pos h2,if_pos h2]
    refine⟨?_,fun hx=>?_⟩
    ·by_cases hk:v.kids.length=0
     ·have:=Vals.size_nil hk
      have h3:decide (c+(v.size:Int)≤60)=true:=decide_eq_true (by omega)
      rw[h3,Bool.and_true]
     ·simp[hk]
    ·simp only[Bool.and_eq_true,decide_eq_true_eq] at hx
     have:=Vals.size_nil hx.2.2.2
     simp only;omega
   ·rw[if_neg h2,if_neg h2]
    by_cases h3:v.num=0∧v.ctor∈zaX w t
    ·rw[if_pos h3,if_pos h3]
     by_cases h4:(zam w t v.ctor).length=v.kids.length
     ·rw[if_pos h4]
      obtain⟨h5,h6⟩:=znE (fun t v c=>zki w n t v c) (zam w t v.ctor) v.kids (c+1) h4 (by omega)
      refine⟨?_,fun hx=>?_⟩
      ·rw[h5]
       congr 1
       exact decide_eq_decide.2 (by omega)
      ·rw[h6 hx];omega
     ·rw[if_neg h4,zdl h4]
      simp
    ·rw[if_neg h3,if_neg h3]
     simp
mutual
def cntV (m:Int):Val→Int
 | .mk _ _ ks=>cntL m 1 ks
def cntL (m n:Int):List Val→Int
 | []=>n
 |k::r=>if n≤m then cntL m (n+cntV (m-n) k) r else n
end
theorem zq9 (m:Int) (v:Val):cntV m v=cntL m 1 v.kids:=by cases v;rfl
theorem zit {m n:Int}{l:List Val} (h:¬n≤m):cntL m n l=n:=by cases l<;>simp[cntL,h]
mutual
theorem zgg:∀(v:Val) (m:Int),1≤cntV m v∧cntV m v≤v.size
 | .mk _ _ ks,m=>by
  have:=zlA ks m 1 (by omega)
  simp only[cntV,Val.size];push_cast;omega
theorem zlA:∀(l:List Val) (m n:Int),1≤n→1≤cntL m n l∧cntL m n l≤n+Vals.size l
 | [],m,n,h=>by simp[cntL,Vals.size];omega
 |k::r,m,n,h=>by
  have h1:=zgg k (m-n)
  have h2:=zlA r m (n+cntV (m-n) k) (by omega)
  simp only[cntL,Vals.size]
  split
  ·push_cast;omega
  ·push_cast;omega
end
mutual
theorem zm5:∀(v:Val) (m:Int),(cntV m v≤m↔(v.size:Int)≤m)∧(cntV m v≤m→cntV m v=v.size)
 | .mk _ _ ks,m=>by
  have:=zm3 ks m 1
  simp only[cntV,Val.size];push_cast;exact this
theorem zm3:∀(l:List Val) (m n:Int),(cntL m n l≤m↔n+(Vals.size l:Int)≤m)∧(cntL m n l≤m→cntL m n l=n+Vals.size l)
 | [],m,n=>by simp[cntL,Vals.size]
 |k::r,m,n=>by
  have h1:=zm5 k (m-n)
  have h2:=zm3 r m (n+cntV (m-n) k)
  have h3:=zlA r m (n+cntV (m-n) k)
  have h4:=zgg k (m-n)
  simp only[cntL,Vals.size]
  push_cast
  by_cases hn:n≤m
  ·rw[if_pos hn]
   by_cases h5:cntV (m-n) k≤m-n
   ·have h6:=h1.2 h5
    rw[h6] at h2 ⊢
    constructor
    ·rw[h2.1];constructor<;>intro h<;>omega
    ·intro h;rw[h2.2 h];omega
   ·have h7:¬(k.size:Int)≤m-n:=fun h=>h5 (h1.1.2 h)
    have h8:¬n+cntV (m-n) k≤m:=by omega
    rw[zit h8]
    constructor
    ·constructor<;>intro h<;>omega
    ·intro h;omega
  ·rw[if_neg hn]
   constructor
   ·constructor<;>intro h<;>omega
   ·intro h;omega
end
theorem Vals.size_split {pre rest l:List Val}{y:Val} (h:pre++y::rest=l):Vals.size l=Vals.size pre+y.size+Vals.size rest:=by
 subst h
 induction pre with
 |nil=>simp[Vals.size]
 |cons x r ih=>simp only[List.cons_append,Vals.size,ih];omega
theorem zke {l:List Val}{i:Nat} (h:i<l.length):(nth l i).size≤Vals.size l:=Vals.size_mem (zai h)
theorem zgO {l:List Val}{i:Nat} (h:i<l.length):Vals.size (l.drop i)=(nth l i).size+Vals.size (l.drop (i+1)):=by
 rw[zaT h];rfl
theorem zgQ:∀(n:Nat){v:Val}{m:Int},v.size≤n→v.size≤1000000000000→v.ok→0≤m→m≤1000000000000→FnD Tryz.prog 41 [.agg [.d (.i v.ctor),.d (.i v.num),.d (zaw v.kids)],.d (.i m)] [] (.d (.i (cntV m v))) []
 |0,v,m,h,_,_,_,_=>by rw[Val.size_eq] at h;omega
 |n+1,v,m,h,hb,hok,m0,m1=>by
  rw[Val.size_eq] at h hb
  rw[Val.ok_iff] at hok
  rw[zq9]
  refine bd Tryz.f41 31 [] [] fun w0 F0 own kept hk=>?_
  refine Walk.box (id:=3002) .none rfl rfl rfl rfl rfl rfl rfl ?_
  refine ev ?_
  refine CWp.loopX (ι:=Nat×Int) hk (fun x=>[(6,.d (.i (x.1:Int))),(5,.d (.i x.2))]) [7,8,9,10,11,12,13,14,15,16,17,18,19,20,21,22,23,24,25,26,27,28,29] (fun x=>[]) (fun x=>x.1≤v.kids.length∧cntL m x.2 (v.kids.drop x.1)=cntL m 1 v.kids∧1≤x.2∧x.2+Vals.size (v.kids.drop x.1)≤1+Vals.size v.kids) (fun x=>v.kids.length-x.1) (0,1) ⟨by simp,by simp,by simp,by simp⟩ ⟨⟨_,rfl,(LeA.eqi (by first|rfl|(simp;done)|(dsimp only;omega)))⟩,⟨⟨_,rfl,(LeA.eqi (by first|rfl|(simp;done)|(dsimp only;omega)))⟩,trivial⟩⟩ trivial (fun x=>rfl) (fun x hg1=>?_)
  refine evc [] [] ?_
  refine sq (fun h1 h1p h1s=>?_) fun h1 h1p h1s=>?_
  ·try simp only[Q,Val.cs_len] at h1p
   refine sq (fun h2 h2p h2s=>?_) fun h2 h2p h2s=>?_
   ·try simp only[Q,Val.cs_len] at h2p
    refine Walk.idx sl27 .none rfl rfl rfl rfl (zeM (by omega)) rfl ?_
    refine ev ?_
    refine ar ?_ (by first|(constructor<;>omega)|(have hz:=zgg (nth v.kids x.1) (m-x.2);have hs:=zgO (l:=v.kids) (i:=x.1) (by omega);constructor<;>omega)|(constructor<;>simp[Val.cs_len]<;>omega))
    refine Walk.call (cr:=[]) zqB (zgQ n (v:=nth v.kids x.1) (by have:=zke (l:=v.kids) (i:=x.1) (by omega);omega) (by have:=zke (l:=v.kids) (i:=x.1) (by omega);omega) (Vals.ok_mem hok.2 _ (zai (by omega))) (by omega) (by omega)) rfl .none rfl rfl (LeL.refl _) trivial rfl rfl rfl ?_
    refine ev ?_
    refine ar ?_ (by first|(constructor<;>omega)|(have hz:=zgg (nth v.kids x.1) (m-x.2);have hs:=zgO (l:=v.kids) (i:=x.1) (by omega);constructor<;>omega)|(constructor<;>simp[Val.cs_len]<;>omega))
    refine ar ?_ (by first|(constructor<;>omega)|(have hz:=zgg (nth v.kids x.1) (m-x.2);have hs:=zgO (l:=v.kids) (i:=x.1) (by omega);constructor<;>omega)|(constructor<;>simp[Val.cs_len]<;>omega))
    refine Exists.intro ((x.1+1,x.2+cntV (m-x.2) (nth v.kids x.1))) ⟨(by
        have hz:=zgg (nth v.kids x.1) (m-x.2)
        have hs:=zgO (l:=v.kids) (i:=x.1) (by omega)
        refine⟨by dsimp only;omega, ?_,by dsimp only;omega,by dsimp only;omega⟩
        rw[←hg1.2.1,zaT (l:=v.kids) (i:=x.1) (by omega),cntL,if_pos (by omega)]),(by dsimp only;omega),Sub.x (by kernel_rfl) (by kernel_rfl) ⟨⟨_,rfl,(LeA.eqi (by first|rfl|(simp;done)|(dsimp only;omega)))⟩,⟨⟨_,rfl,(LeA.eqi (by first|rfl|(simp;done)|(dsimp only;omega)))⟩,trivial⟩⟩ (by kernel_rfl) (by kernel_rfl) trivial⟩
   ·try simp only[Q,Val.cs_len] at h2p
    refine rn0 (r1 rfl) (.eqd ?_)
    all_goals (refine congrArg D.i ?_;rw[←hg1.2.1];first|(rw[List.drop_eq_nil_of_le (by omega)];rfl)|(rw[zit (by omega)]))
  ·try simp only[Q,Val.cs_len] at h1p
   refine sqF ?_
   refine rn0 (r1 rfl) (.eqd ?_)
   all_goals (refine congrArg D.i ?_;rw[←hg1.2.1];first|(rw[List.drop_eq_nil_of_le (by omega)];rfl)|(rw[zit (by omega)]))
theorem zhu {w:List Data} (hw:WT w):∀(n:Nat){a k m:Int}{v:Val},m=n→n≤1000→TyIn w.length ⟨a,k⟩→v.ok→
  FnD Tryz.prog 40 [.d (zag w),.agg [.d (.i a),.d (.i k)],.agg [.d (.i v.ctor),.d (.i v.num),.d (zaw v.kids)],.d (.i m)] [] (.d (.bool (zbY w n ⟨a,k⟩ v))) []
 |0,a,k,m,v,hm,_,_,_=>by
  refine bd Tryz.f40 78 [] [] fun w0 F0 own kept hk=>?_
  refine Walk.box (id:=3005) .none rfl rfl rfl rfl rfl rfl rfl ?_
  refine Walk.box (id:=3006) .none rfl rfl rfl rfl rfl rfl rfl ?_
  refine ev ?_
  refine sq (fun h1 h1p h1s=>?_) fun h1 h1p h1s=>?_
  ·try simp only[Q] at h1p
   refine rn0 (r1 rfl) (.eqd ?_)
   all_goals (rfl)
  ·try simp only[Q] at h1p
   exfalso;simp at h1;omega
 |n+1,a,k,m,v,hm,hn,ht,hok=>by
  rcases ht with ha|⟨d,hd,hlt⟩
  ·have ha':a = -1:=ha
   subst ha'
   refine bd Tryz.f40 78 [] [] fun w0 F0 own kept hk=>?_
   refine Walk.box (id:=3005) .none rfl rfl rfl rfl rfl rfl rfl ?_
   refine Walk.box (id:=3006) .none rfl rfl rfl rfl rfl rfl rfl ?_
   refine ev ?_
   refine sq (fun h1 h1p h1s=>?_) fun h1 h1p h1s=>?_
   ·try simp only[Q] at h1p
    exfalso;simp at h1;omega
   ·try simp only[Q] at h1p
    refine sq (fun h2 h2p h2s=>?_) fun h2 h2p h2s=>?_
    ·try simp only[Q] at h2p
     refine sq (fun h3 h3p h3s=>?_) fun h3 h3p h3s=>?_
     ·try simp only[Q] at h3p
      refine sq (fun h4 h4p h4s=>?_) fun h4 h4p h4s=>?_
      ·try simp only[Q] at h4p
       refine sq (fun h5 h5p h5s=>?_) fun h5 h5p h5s=>?_
       ·try simp only[Q] at h5p
        refine rn0 (r1 rfl) (.eqd ?_)
        all_goals (refine congrArg D.bool ?_;simp[zbY,Val.cs_len,h1s,h1p,h2s,h2p,h3s,h3p,h4s,h4p,h5s,h5p])
       ·try simp only[Q] at h5p
        refine rn0 (r1 rfl) (.eqd ?_)
        all_goals (refine congrArg D.bool ?_;simp[zbY,Val.cs_len,h1s,h1p,h2s,h2p,h3s,h3p,h4s,h4p,h5s,h5p])
      ·try simp only[Q] at h4p
       refine sqF ?_
       refine rn0 (r1 rfl) (.eqd ?_)
       all_goals (refine congrArg D.bool ?_;simp[zbY,Val.cs_len,h1s,h1p,h2s,h2p,h3s,h3p,h4s,h4p])
     ·try simp only[Q] at h3p
      refine sqF ?_
      refine sqF ?_
      refine rn0 (r1 rfl) (.eqd ?_)
      all_goals (refine congrArg D.bool ?_;simp[zbY,Val.cs_len,h1s,h1p,h2s,h2p,h3s,h3p])
    ·try simp only[Q] at h2p
     exact absurd h2 (by simp)
  have hd':a=(d:Int):=hd
  subst hd'
  have hok':=hok
  rw[Val.ok_iff] at hok
  have hcl:=zg0 hw (d:=d) (k:=k)
  have hdn:¬(d:Int) = -1:=by omega
  by_cases hv:v.num=0∧v.ctor∈zaX w ⟨d,k⟩
  ·have hal:=zeP hw hlt (k:=k) (zds (k:=k) (c:=v.ctor) hv.2)
   refine bd Tryz.f40 78 [] [] fun w0 F0 own kept hk=>?_
   refine Walk.box (id:=3005) .none rfl rfl rfl rfl rfl rfl rfl ?_
   refine Walk.box (id:=3006) .none rfl rfl rfl rfl rfl rfl rfl ?_
   refine ev ?_
   refine sq (fun h1 h1p h1s=>?_) fun h1 h1p h1s=>?_
   ·try simp only[Q,Val.cs_len] at h1p
    exfalso;simp at h1;omega
   ·try simp only[Q,Val.cs_len] at h1p
    refine sq (fun h2 h2p h2s=>?_) fun h2 h2p h2s=>?_
    ·try simp only[Q,Val.cs_len] at h2p
     exfalso;simp at h2<;>omega
    ·try simp only[Q,Val.cs_len] at h2p
     refine sq (fun h3 h3p h3s=>?_) fun h3 h3p h3s=>?_
     ·try simp only[Q,Val.cs_len] at h3p
      refine dr ?_
      refine sqT ?_
      exfalso;have e1:=hv.1;have e2:=hv.2;simp_all
     ·try simp only[Q,Val.cs_len] at h3p
      refine Walk.call (cr:=[]) zfT (ze5 hw hlt) rfl (.some rfl rfl h3) rfl rfl (LeL.refl _) trivial rfl rfl rfl ?_
      refine evd [] [(38,false)] ?_ ⟨⟨_,rfl,h3⟩,trivial⟩
      refine Walk.call (cr:=[]) zjd (zcP hcl) rfl (.some rfl rfl h3) rfl rfl (LeL.refl _) trivial rfl rfl rfl ?_
      refine evd [] [(38,false)] ?_ ⟨⟨_,rfl,h3⟩,trivial⟩
      refine dr ?_
      refine sq (fun h5 h5p h5s=>?_) fun h5 h5p h5s=>?_
      ·try simp only[Q,Val.cs_len] at h5p
       exfalso;have e1:=hv.1;have e2:=hv.2;simp_all
      ·try simp only[Q,Val.cs_len] at h5p
       refine Walk.call (cr:=[]) zje (zhp hw hlt (zds (k:=k) (c:=v.ctor) hv.2)) rfl .none rfl rfl (LeL.refl _) trivial rfl rfl rfl ?_
       refine ev ?_
       refine sq (fun h6 h6p h6s=>?_) fun h6 h6p h6s=>?_
       ·try simp only[Q,Val.cs_len] at h6p
        refine rn0 (r1 rfl) (.eqd ?_)
        all_goals (refine congrArg D.bool ?_;unfold zbY;rw[if_neg hdn,if_pos hv];first|(rw[zdl (by simp[Val.cs_len] at *;omega)])|(rw[zcm (by simp[Val.cs_len] at *;omega) (fun x hx=>hg1.2 x (by simp[Val.cs_len] at *;omega))])|(rw[zbT (i:=i) (by simp[Val.cs_len] at *;omega) (by simp[Val.cs_len] at *;omega) (by assumption)]))
       ·try simp only[Q,Val.cs_len] at h6p
        refine CWp.loopX (ι:=Nat) hk (fun i=>[(10,.d (.i (i:Int)))]) [8,58,59,60,61,62,63,64,65,66,67,68,69,70,71,72,73,74,75,76,77] (fun i=>[]) (fun i=>i≤(zam w ⟨d,k⟩ v.ctor).length∧∀i',i'<i→zbY w n (nth (zam w ⟨d,k⟩ v.ctor) i') (nth v.kids i')=true) (fun i=>(zam w ⟨d,k⟩ v.ctor).length-i) 0 ⟨by omega,fun _ h=>absurd h (by omega)⟩ ⟨⟨_,rfl,(LeA.eqi (by first|rfl|(simp;done)|(simp_all;done)|omega))⟩,trivial⟩ trivial (fun x=>rfl) (fun i hg1=>?_)
        refine evc [] [] ?_
        refine sq (fun h7 h7p h7s=>?_) fun h7 h7p h7s=>?_
        ·try simp only[Q,Val.cs_len] at h7p
         refine Walk.idx zaY .none rfl rfl rfl rfl (zak (by omega)) rfl ?_
         refine evd [] [] ?_
         refine Walk.idx sl27 .none rfl rfl rfl rfl (zeM (by omega)) rfl ?_
         refine evd [] [] ?_
         refine ar ?_ (by first|(constructor<;>omega)|(constructor<;>simp[Val.cs_len]<;>omega))
         refine Walk.call (cr:=[]) zqA (zhu hw n (by omega) (by omega) (zgD hw hlt (k:=k) (zds (k:=k) (c:=v.ctor) hv.2) (zai (by omega))) (Vals.ok_mem hok.2 _ (zai (by omega)))) rfl .none rfl rfl (LeL.refl _) trivial rfl rfl rfl ?_
         refine evd [] [] ?_
         refine dr ?_
         refine sq (fun h8 h8p h8s=>?_) fun h8 h8p h8s=>?_
         ·try simp only[Q,Val.cs_len] at h8p
          refine rn0 (r1 rfl) (.eqd ?_)
          all_goals (refine congrArg D.bool ?_;unfold zbY;rw[if_neg hdn,if_pos hv];first|(rw[zdl (by simp[Val.cs_len] at *;omega)])|(rw[zcm (by simp[Val.cs_len] at *;omega) (fun x hx=>hg1.2 x (by simp[Val.cs_len] at *;omega))])|(rw[zbT (i:=i) (by simp[Val.cs_len] at *;omega) (by simp[Val.cs_len] at *;omega) (by assumption)]))
         ·try simp only[Q,Val.cs_len] at h8p
          refine ar ?_ (by first|(constructor<;>omega)|(constructor<;>simp[Val.cs_len]<;>omega))
          refine Exists.intro (i+1) ⟨⟨by omega,zaZ hg1.2 (by assumption)⟩,(by omega),Sub.x (by kernel_rfl) (by kernel_rfl) ⟨⟨_,rfl,(LeA.eqi (by first|rfl|(simp;done)|(simp_all;done)|omega))⟩,trivial⟩ (by kernel_rfl) (by kernel_rfl) trivial⟩
        ·try simp only[Q,Val.cs_len] at h7p
         refine rn0 (r1 rfl) (.eqd ?_)
         all_goals (refine congrArg D.bool ?_;unfold zbY;rw[if_neg hdn,if_pos hv];first|(rw[zdl (by simp[Val.cs_len] at *;omega)])|(rw[zcm (by simp[Val.cs_len] at *;omega) (fun x hx=>hg1.2 x (by simp[Val.cs_len] at *;omega))])|(rw[zbT (i:=i) (by simp[Val.cs_len] at *;omega) (by simp[Val.cs_len] at *;omega) (by assumption)]))
  ·skip
   refine bd Tryz.f40 78 [] [] fun w0 F0 own kept hk=>?_
   refine Walk.box (id:=3005) .none rfl rfl rfl rfl rfl rfl rfl ?_
   refine Walk.box (id:=3006) .none rfl rfl rfl rfl rfl rfl rfl ?_
   refine ev ?_
   refine sq (fun h1 h1p h1s=>?_) fun h1 h1p h1s=>?_
   ·try simp only[Q] at h1p
    exfalso;simp at h1;omega
   ·try simp only[Q] at h1p
    refine sq (fun h2 h2p h2s=>?_) fun h2 h2p h2s=>?_
    ·try simp only[Q] at h2p
     exfalso;simp at h2<;>omega
    ·try simp only[Q] at h2p
     refine sq (fun h3 h3p h3s=>?_) fun h3 h3p h3s=>?_
     ·try simp only[Q] at h3p
      refine dr ?_
      refine sqT ?_
      refine rn0 (r1 rfl) (.eqd ?_)
      all_goals (refine congrArg D.bool ?_;unfold zbY;rw[if_neg hdn,if_neg hv])
     ·try simp only[Q] at h3p
      refine Walk.call (cr:=[]) zfT (ze5 hw hlt) rfl (.some rfl rfl h3) rfl rfl (LeL.refl _) trivial rfl rfl rfl ?_
      refine evd [] [(38,false)] ?_ ⟨⟨_,rfl,h3⟩,trivial⟩
      refine Walk.call (cr:=[]) zjd (zcP hcl) rfl (.some rfl rfl h3) rfl rfl (LeL.refl _) trivial rfl rfl rfl ?_
      refine evd [] [(38,false)] ?_ ⟨⟨_,rfl,h3⟩,trivial⟩
      refine dr ?_
      refine sq (fun h5 h5p h5s=>?_) fun h5 h5p h5s=>?_
      ·try simp only[Q] at h5p
       refine rn0 (r1 rfl) (.eqd ?_)
       all_goals (refine congrArg D.bool ?_;unfold zbY;rw[if_neg hdn,if_neg hv])
      ·try simp only[Q] at h5p
       exfalso;simp_all
def isV (w:List Data) (t:Ty) (v:Val):Bool:=zbY w 10 t v&&decide ((v.size:Int)≤60)
theorem znJ {w:List Data} (hw:WT w){a k:Int}{v:Val} (ht:TyIn w.length ⟨a,k⟩) (hok:v.ok) (hb:v.size≤1000000000000):
  FnD Tryz.prog 21 [.d (zag w),.agg [.d (.i a),.d (.i k)],.agg [.d (.i v.ctor),.d (.i v.num),.d (zaw v.kids)]] [] (.d (.bool (isV w ⟨a,k⟩ v))) []:=by
 have hc:=zm5 v 60
 refine bd Tryz.f21 16 [] [] fun w0 F0 own kept hk=>?_
 refine Walk.box (id:=3004) .none rfl rfl rfl rfl rfl rfl rfl ?_
 refine Walk.box (id:=3005) .none rfl rfl rfl rfl rfl rfl rfl ?_
 refine ev ?_
 refine Walk.call (cr:=[]) zqA (zhu hw 10 (by omega) (by omega) ht hok) rfl .none rfl rfl (LeL.refl _) trivial rfl rfl rfl ?_
 refine ev ?_
 refine sq (fun h1 h1p h1s=>?_) fun h1 h1p h1s=>?_
 ·try simp only[Q] at h1p
  refine Walk.call (cr:=[]) zqB (zgQ _ (Nat.le_refl _) hb hok (by omega) (by omega)) rfl (.some rfl rfl h1) rfl rfl (LeL.refl _) trivial rfl rfl rfl ?_
  refine evs [] [(11,true)] ?_ ⟨⟨_,rfl,h1⟩,trivial⟩
  refine rn0 (r1 rfl) (.eqd ?_)
  all_goals (refine congrArg D.bool ?_;unfold isV;simp only[h1s,h1p];first|rfl|(simp only[Bool.true_and];exact decide_eq_decide.2 hc.1)|(simp;done))
 ·try simp only[Q] at h1p
  refine rn0 (r1 rfl) (.eqd ?_)
  all_goals (refine congrArg D.bool ?_;unfold isV;simp only[h1s,h1p];first|rfl|(simp only[Bool.true_and];exact decide_eq_decide.2 hc.1)|(simp;done))
theorem zf0 {w:List Data}{n:Nat}{a:List Ty}{b:List Val}{i:Nat}{c:Int} (ha:i<a.length) (hl:a.length=b.length) (h:(zaI w n (nth a i) (nth b i) c).1=false):
  zcy (zaI w n) (a.drop i) (b.drop i) c=(false,(zaI w n (nth a i) (nth b i) c).2):=by
 rw[zaT ha,zaT (l:=b) (by omega),zcy,if_neg (by rw[h];simp)]
theorem zoR {w:List Data}{n:Nat}{a:List Ty}{b:List Val}{i:Nat}{c:Int} (ha:i<a.length) (hl:a.length=b.length) (h:(zaI w n (nth a i) (nth b i) c).1=true):
  zcy (zaI w n) (a.drop i) (b.drop i) c=zcy (zaI w n) (a.drop (i+1)) (b.drop (i+1)) (zaI w n (nth a i) (nth b i) c).2:=by
 rw[zaT ha,zaT (l:=b) (by omega),zcy,if_pos h]
theorem zgN {w:List Data}{n:Nat}{a:List Ty}{b:List Val}{i:Nat}{c:Int} (ha:a.length≤i):zcy (zaI w n) (a.drop i) (b.drop i) c=(true,c):=by
 rw[List.drop_eq_nil_of_le ha,zcy]
 simp
theorem zqi (w:List Data) (n:Nat) (t:Ty) (v:Val) (c:Int) (h:(zaI w n t v c).1=true):c≤(zaI w n t v c).2∧(zaI w n t v c).2≤60:=by
 have h1:=(zki w n t v c)
 have h2:=h1.2 h
 rw[h1.1] at h
 simp only[Bool.and_eq_true,decide_eq_true_eq] at h
 omega
theorem zfO {w:List Data} (hw:WT w):∀(n:Nat){a k d c:Int}{v:Val},d+n=11→n≤10→TyIn w.length ⟨a,k⟩→v.ok→0≤c→c≤1000000000000→
  FnD Tryz.prog 37 [.d (zag w),.agg [.d (.i a),.d (.i k)],.agg [.d (.i v.ctor),.d (.i v.num),.d (zaw v.kids)],.d (.i d),.d (.bool false),.ref 950 0] [(950,some (.box [.d (.i c)]))]
   (.d (.bool (zaI w n ⟨a,k⟩ v c).1)) [(950,some (.box [.d (.i (zaI w n ⟨a,k⟩ v c).2)]))]
 |0,a,k,d,c,v,hd,_,_,_,c0,c1=>by
  refine bd Tryz.f37 108 [] [] fun w0 F0 own kept hk=>?_
  refine Walk.box (id:=3007) .none rfl rfl rfl rfl rfl rfl rfl ?_
  refine Walk.box (id:=3008) .none rfl rfl rfl rfl rfl rfl rfl ?_
  refine ev ?_
  refine ar ?_
  refine Walk.store ty3 .none rfl rfl rfl rfl rfl rfl (by simp) rfl ?_
  refine tv ?_
  refine sq (fun h1 h1p h1s=>?_) fun h1 h1p h1s=>?_
  ·try simp only[Q] at h1p
   refine sqT ?_
   refine rn [(950,some (.box [.d (.i (zaI w 0 ⟨a,k⟩ v c).2)]))] (r1 rfl) (.eqd ?_) ⟨rfl,rfl⟩ (SubO.get ⟨.inr (by rfl),⟨.inl rfl,trivial⟩⟩) (zaq rfl)
   all_goals (rfl)
  ·try simp only[Q] at h1p
   refine sq (fun h3 h3p h3s=>?_) fun h3 h3p h3s=>?_
   ·try simp only[Q] at h3p
    refine rn [(950,some (.box [.d (.i (zaI w 0 ⟨a,k⟩ v c).2)]))] (r1 rfl) (.eqd ?_) ⟨rfl,rfl⟩ (SubO.get ⟨.inr (by rfl),⟨.inl rfl,trivial⟩⟩) (zaq rfl)
    all_goals (rfl)
   ·try simp only[Q] at h3p
    exfalso;simp at *;omega
 |n+1,a,k,d,c,v,hd,hn,ht,hok,c0,c1=>by
  by_cases h60:60<c+1
  ·skip
   refine bd Tryz.f37 108 [] [] fun w0 F0 own kept hk=>?_
   refine Walk.box (id:=3007) .none rfl rfl rfl rfl rfl rfl rfl ?_
   refine Walk.box (id:=3008) .none rfl rfl rfl rfl rfl rfl rfl ?_
   refine ev ?_
   refine ar ?_
   refine Walk.store ty3 .none rfl rfl rfl rfl rfl rfl (by simp) rfl ?_
   refine tv ?_
   refine sq (fun h1 h1p h1s=>?_) fun h1 h1p h1s=>?_
   ·try simp only[Q] at h1p
    refine sqT ?_
    refine rn [(950,some (.box [.d (.i (zaI w (n+1) ⟨a,k⟩ v c).2)]))] (r1 rfl) (.eqd ?_) ⟨rfl,rfl⟩ (SubO.get ⟨.inr (by(unfold zaI;rw[if_pos h60];rfl)),⟨.inl rfl,trivial⟩⟩) (zaq rfl)
    all_goals (unfold zaI;rw[if_pos h60])
   ·try simp only[Q] at h1p
    refine sq (fun h3 h3p h3s=>?_) fun h3 h3p h3s=>?_
    ·try simp only[Q] at h3p
     refine rn [(950,some (.box [.d (.i (zaI w (n+1) ⟨a,k⟩ v c).2)]))] (r1 rfl) (.eqd ?_) ⟨rfl,rfl⟩ (SubO.get ⟨.inr (by(unfold zaI;rw[if_pos h60];rfl)),⟨.inl rfl,trivial⟩⟩) (zaq rfl)
     all_goals (unfold zaI;rw[if_pos h60])
    ·try simp only[Q] at h3p
     exfalso;simp at *;omega
  rcases ht with ha|⟨e,he,hlt⟩
  ·have ha':a = -1:=ha
   subst ha'
   refine bd Tryz.f37 108 [] [] fun w0 F0 own kept hk=>?_
   refine Walk.box (id:=3007) .none rfl rfl rfl rfl rfl rfl rfl ?_
   refine Walk.box (id:=3008) .none rfl rfl rfl rfl rfl rfl rfl ?_
   refine ev ?_
   refine ar ?_
   refine Walk.store ty3 .none rfl rfl rfl rfl rfl rfl (by simp) rfl ?_
   refine tv ?_
   refine sq (fun h1 h1p h1s=>?_) fun h1 h1p h1s=>?_
   ·try simp only[Q] at h1p
    refine sqT ?_
    exfalso;simp at *;omega
   ·try simp only[Q] at h1p
    refine sq (fun h3 h3p h3s=>?_) fun h3 h3p h3s=>?_
    ·try simp only[Q] at h3p
     exfalso;simp at *;omega
    ·try simp only[Q] at h3p
     refine sqF ?_
     refine sqF ?_
     refine sq (fun h5 h5p h5s=>?_) fun h5 h5p h5s=>?_
     ·try simp only[Q] at h5p
      refine sq (fun h6 h6p h6s=>?_) fun h6 h6p h6s=>?_
      ·try simp only[Q] at h6p
       refine Walk.call (cr:=[]) zd5 (za6) rfl (.some rfl rfl h6) rfl rfl (LeL.refl _) trivial rfl rfl rfl ?_
       refine evs [] [(52,true)] ?_ ⟨⟨_,rfl,h6⟩,trivial⟩
       refine sq (fun h7 h7p h7s=>?_) fun h7 h7p h7s=>?_
       ·try simp only[Q] at h7p
        refine rn [(950,some (.box [.d (.i (zaI w (n+1) ⟨-1,k⟩ v c).2)]))] (r1 rfl) (.eqd ?_) ⟨rfl,rfl⟩ (SubO.get ⟨.inr (by(unfold zaI;rw[if_neg h60,if_pos rfl];rfl)),⟨.inl rfl,trivial⟩⟩) (zaq rfl)
        all_goals (refine congrArg D.bool ?_;unfold zaI;rw[if_neg h60,if_pos rfl];simp only[zaf] at *;first|(simp_all[Val.cs_len];done)|(simp_all[Val.cs_len];intro h1 h2;omega))
       ·try simp only[Q] at h7p
        refine rn [(950,some (.box [.d (.i (zaI w (n+1) ⟨-1,k⟩ v c).2)]))] (r1 rfl) (.eqd ?_) ⟨rfl,rfl⟩ (SubO.get ⟨.inr (by(unfold zaI;rw[if_neg h60,if_pos rfl];rfl)),⟨.inl rfl,trivial⟩⟩) (zaq rfl)
        all_goals (refine congrArg D.bool ?_;unfold zaI;rw[if_neg h60,if_pos rfl];simp only[zaf] at *;first|(simp_all[Val.cs_len];done)|(simp_all[Val.cs_len];intro h1 h2;omega))
      ·try simp only[Q] at h6p
       refine sqF ?_
       refine rn [(950,some (.box [.d (.i (zaI w (n+1) ⟨-1,k⟩ v c).2)]))] (r1 rfl) (.eqd ?_) ⟨rfl,rfl⟩ (SubO.get ⟨.inr (by(unfold zaI;rw[if_neg h60,if_pos rfl];rfl)),⟨.inl rfl,trivial⟩⟩) (zaq rfl)
       all_goals (refine congrArg D.bool ?_;unfold zaI;rw[if_neg h60,if_pos rfl];simp only[zaf] at *;first|(simp_all[Val.cs_len];done)|(simp_all[Val.cs_len];intro h1 h2;omega))
     ·try simp only[Q] at h5p
      exact absurd h5 (by simp)
  have he':a=(e:Int):=he
  subst he'
  have hok':=hok
  rw[Val.ok_iff] at hok
  have hcl:=zg0 hw (d:=e) (k:=k)
  have hdn:¬(e:Int) = -1:=by omega
  by_cases hv:v.num=0∧v.ctor∈zaX w ⟨e,k⟩
  ·have hal:=zeP hw hlt (k:=k) (zds (k:=k) (c:=v.ctor) hv.2)
   by_cases hlen:(zam w ⟨e,k⟩ v.ctor).length=v.kids.length
   ·have hsc:zaI w (n+1) ⟨e,k⟩ v c=zcy (zaI w n) (zam w ⟨e,k⟩ v.ctor) v.kids (c+1):=by
     conv=>lhs;unfold zaI
     rw[if_neg h60,if_neg hdn,if_pos hv,if_pos hlen]
    rw[hsc]
    refine bd Tryz.f37 108 [] [] fun w0 F0 own kept hk=>?_
    refine Walk.box (id:=3007) .none rfl rfl rfl rfl rfl rfl rfl ?_
    refine Walk.box (id:=3008) .none rfl rfl rfl rfl rfl rfl rfl ?_
    refine ev ?_
    refine ar ?_ (by first|(constructor<;>omega)|(constructor<;>simp[Val.cs_len]<;>omega))
    refine Walk.store ty3 .none rfl rfl rfl rfl rfl rfl (by simp) rfl ?_
    refine tv ?_
    refine sq (fun h1 h1p h1s=>?_) fun h1 h1p h1s=>?_
    ·try simp only[Q,Val.cs_len,Ty.eta] at h1p
     refine sqT ?_
     exfalso;simp at *;omega
    ·try simp only[Q,Val.cs_len,Ty.eta] at h1p
     refine sq (fun h3 h3p h3s=>?_) fun h3 h3p h3s=>?_
     ·try simp only[Q,Val.cs_len,Ty.eta] at h3p
      exfalso;simp at *;omega
     ·try simp only[Q,Val.cs_len,Ty.eta] at h3p
      refine sqF ?_
      refine sqF ?_
      refine sq (fun h5 h5p h5s=>?_) fun h5 h5p h5s=>?_
      ·try simp only[Q,Val.cs_len,Ty.eta] at h5p
       exfalso;simp at * <;>omega
      ·try simp only[Q,Val.cs_len,Ty.eta] at h5p
       refine sq (fun h6 h6p h6s=>?_) fun h6 h6p h6s=>?_
       ·try simp only[Q,Val.cs_len,Ty.eta] at h6p
        refine dr ?_
        refine sqT ?_
        exfalso;have e1:=hv.1;have e2:=hv.2;simp_all
       ·try simp only[Q,Val.cs_len,Ty.eta] at h6p
        refine Walk.call (cr:=[]) zkA (zdL hw hlt) rfl (.some rfl rfl h6) rfl rfl (LeL.refl _) trivial rfl rfl rfl ?_
        refine evd [] [(67,false)] ?_ ⟨⟨_,rfl,h6⟩,trivial⟩
        refine Walk.call (cr:=[]) zkz (zbQ hcl) rfl (.some rfl rfl h6) rfl rfl (LeL.refl _) trivial rfl rfl rfl ?_
        refine evd [] [(67,false)] ?_ ⟨⟨_,rfl,h6⟩,trivial⟩
        refine dr ?_
        refine sq (fun h8 h8p h8s=>?_) fun h8 h8p h8s=>?_
        ·try simp only[Q,Val.cs_len,Ty.eta] at h8p
         exfalso;have e1:=hv.1;have e2:=hv.2;simp_all
        ·try simp only[Q,Val.cs_len,Ty.eta] at h8p
         refine Walk.call (cr:=[]) zox (zex hw hlt (zds (k:=k) (c:=v.ctor) hv.2)) rfl .none rfl rfl (LeL.refl _) trivial rfl rfl rfl ?_
         refine ev ?_
         refine sq (fun h9 h9p h9s=>?_) fun h9 h9p h9s=>?_
         ·try simp only[Q,Val.cs_len,Ty.eta] at h9p
          exfalso;simp[Val.cs_len,hlen] at h9
         ·try simp only[Q,Val.cs_len,Ty.eta] at h9p
          refine CWp.loopX (ι:=Nat×Int) hk (fun x=>[(90,.d (.i (x.1:Int)))]) [12,14,15,91,92,93,94,95,96,97,98,99,100,101,102,103,104,105,106,107] (fun x=>[(950,some (.box [.d (.i x.2)]))]) (fun x=>x.1≤v.kids.length∧zcy (zaI w n) ((zam w ⟨e,k⟩ v.ctor).drop x.1) (v.kids.drop x.1) x.2=zcy (zaI w n) (zam w ⟨e,k⟩ v.ctor) v.kids (c+1)∧0≤x.2∧x.2≤60) (fun x=>v.kids.length-x.1) (0,c+1) ⟨by simp,by simp,by dsimp only;omega,by dsimp only;omega⟩ ⟨⟨_,rfl,(LeA.eqi (by first|rfl|(simp;done)|(dsimp only;omega)))⟩,trivial⟩ ⟨(by first|rfl|(simp[getH];done)),trivial⟩ (fun x=>rfl) (fun x hg1=>?_)
          refine evc [] [] ?_
          refine sq (fun h10 h10p h10s=>?_) fun h10 h10p h10s=>?_
          ·try simp only[Q,Val.cs_len,Ty.eta] at h10p
           refine Walk.idx sl27 .none rfl rfl rfl rfl (zeM (by omega)) rfl ?_
           refine ev ?_
           refine Walk.alloc (id:=3015) tz29 rfl .none rfl rfl rfl rfl ?_
           refine ev ?_
           refine Walk.store ty29 .none rfl rfl rfl rfl rfl rfl (by simp) rfl ?_
           refine tv ?_
           refine Walk.idx zaY .none rfl rfl rfl rfl (zak (by omega)) rfl ?_
           refine evd [] [] ?_
           refine ar ?_ (by first|(constructor<;>omega)|(constructor<;>simp[Val.cs_len]<;>omega))
           refine Walk.call (cr:=[]) zqz (zfO hw n (a:=(nth (zam w ⟨e,k⟩ v.ctor) x.1).data) (k:=(nth (zam w ⟨e,k⟩ v.ctor) x.1).index) (c:=x.2) (by omega) (by omega) (zgD hw hlt (k:=k) (zds (k:=k) (c:=v.ctor) hv.2) (zai (by omega))) (Vals.ok_mem hok.2 _ (zai (by omega))) (by omega) (by omega)) rfl .none rfl rfl (LeL.refl _) ⟨rfl,trivial⟩ rfl rfl rfl ?_
           refine evd [] [] ?_
           refine dr ?_
           refine sq (fun h11 h11p h11s=>?_) fun h11 h11p h11s=>?_
           ·try simp only[Q,Val.cs_len,Ty.eta] at h11p
            refine rn [(950,some (.box [.d (.i (zcy (zaI w n) (zam w ⟨e,k⟩ v.ctor) v.kids (c+1)).2)]))] (r1 rfl) (.eqd ?_) ⟨rfl,rfl⟩ (SubO.get ⟨.inr (by first|(obtain⟨h1,h2,h3,h4⟩:=hg1;show some (Res.box _)=some (Res.box _);rw[←h2,zgN (by simp[Val.cs_len] at *;omega)])|(obtain⟨h1,h2,h3,h4⟩:=hg1;show some (Res.box _)=some (Res.box _);rw[←h2,zf0 (by simp[Val.cs_len] at *;omega) hlen (by simp_all)])),⟨.inl rfl,trivial⟩⟩) (zaq rfl)
            all_goals (refine congrArg D.bool ?_;first|(obtain⟨h1,h2,h3,h4⟩:=hg1;rw[←h2,zgN (by simp[Val.cs_len] at *;omega)])|(obtain⟨h1,h2,h3,h4⟩:=hg1;rw[←h2,zf0 (by simp[Val.cs_len] at *;omega) hlen (by simp_all)]))
           ·try simp only[Q,Val.cs_len,Ty.eta] at h11p
            refine ar ?_ (by first|(constructor<;>omega)|(constructor<;>simp[Val.cs_len]<;>omega))
            refine Exists.intro ((x.1+1,(zaI w n (nth (zam w ⟨e,k⟩ v.ctor) x.1) (nth v.kids x.1) x.2).2)) ⟨(by
                  have hz:(zaI w n (nth (zam w ⟨e,k⟩ v.ctor) x.1) (nth v.kids x.1) x.2).1=true:=by simp_all
                  have hb:=zqi w n _ _ _ hz
                  obtain⟨h1,h2,h3,h4⟩:=hg1
                  refine⟨by dsimp only;omega, ?_,by dsimp only;omega,by dsimp only;omega⟩
                  rw[←h2,zoR (i:=x.1) (by omega) hlen hz]),(by dsimp only;omega),Sub.x (by kernel_rfl) (by kernel_rfl) ⟨⟨_,rfl,(LeA.eqi (by first|rfl|(simp;done)|(dsimp only;omega)))⟩,trivial⟩ (by kernel_rfl) (by kernel_rfl) ⟨(by first|rfl|(simp[getH];done)),trivial⟩⟩
          ·try simp only[Q,Val.cs_len,Ty.eta] at h10p
           refine rn [(950,some (.box [.d (.i (zcy (zaI w n) (zam w ⟨e,k⟩ v.ctor) v.kids (c+1)).2)]))] (r1 rfl) (.eqd ?_) ⟨rfl,rfl⟩ (SubO.get ⟨.inr (by first|(obtain⟨h1,h2,h3,h4⟩:=hg1;show some (Res.box _)=some (Res.box _);rw[←h2,zgN (by simp[Val.cs_len] at *;omega)])|(obtain⟨h1,h2,h3,h4⟩:=hg1;show some (Res.box _)=some (Res.box _);rw[←h2,zf0 (by simp[Val.cs_len] at *;omega) hlen (by simp_all)])),⟨.inl rfl,trivial⟩⟩) (zaq rfl)
           all_goals (refine congrArg D.bool ?_;first|(obtain⟨h1,h2,h3,h4⟩:=hg1;rw[←h2,zgN (by simp[Val.cs_len] at *;omega)])|(obtain⟨h1,h2,h3,h4⟩:=hg1;rw[←h2,zf0 (by simp[Val.cs_len] at *;omega) hlen (by simp_all)]))
   ·have hsc:zaI w (n+1) ⟨e,k⟩ v c=(false,c+1):=by
     conv=>lhs;unfold zaI
     rw[if_neg h60,if_neg hdn,if_pos hv,if_neg hlen]
    rw[hsc]
    refine bd Tryz.f37 108 [] [] fun w0 F0 own kept hk=>?_
    refine Walk.box (id:=3007) .none rfl rfl rfl rfl rfl rfl rfl ?_
    refine Walk.box (id:=3008) .none rfl rfl rfl rfl rfl rfl rfl ?_
    refine ev ?_
    refine ar ?_
    refine Walk.store ty3 .none rfl rfl rfl rfl rfl rfl (by simp) rfl ?_
    refine tv ?_
    refine sq (fun h1 h1p h1s=>?_) fun h1 h1p h1s=>?_
    ·try simp only[Q,Val.cs_len] at h1p
     refine sqT ?_
     exfalso;simp at *;omega
    ·try simp only[Q,Val.cs_len] at h1p
     refine sq (fun h3 h3p h3s=>?_) fun h3 h3p h3s=>?_
     ·try simp only[Q,Val.cs_len] at h3p
      exfalso;simp at *;omega
     ·try simp only[Q,Val.cs_len] at h3p
      refine sqF ?_
      refine sqF ?_
      refine sq (fun h5 h5p h5s=>?_) fun h5 h5p h5s=>?_
      ·try simp only[Q,Val.cs_len] at h5p
       exfalso;simp at * <;>omega
      ·try simp only[Q,Val.cs_len] at h5p
       refine sq (fun h6 h6p h6s=>?_) fun h6 h6p h6s=>?_
       ·try simp only[Q,Val.cs_len] at h6p
        refine dr ?_
        refine sqT ?_
        exfalso;have e1:=hv.1;have e2:=hv.2;simp_all
       ·try simp only[Q,Val.cs_len] at h6p
        refine Walk.call (cr:=[]) zkA (zdL hw hlt) rfl (.some rfl rfl h6) rfl rfl (LeL.refl _) trivial rfl rfl rfl ?_
        refine evd [] [(67,false)] ?_ ⟨⟨_,rfl,h6⟩,trivial⟩
        refine Walk.call (cr:=[]) zkz (zbQ hcl) rfl (.some rfl rfl h6) rfl rfl (LeL.refl _) trivial rfl rfl rfl ?_
        refine evd [] [(67,false)] ?_ ⟨⟨_,rfl,h6⟩,trivial⟩
        refine dr ?_
        refine sq (fun h8 h8p h8s=>?_) fun h8 h8p h8s=>?_
        ·try simp only[Q,Val.cs_len] at h8p
         exfalso;have e1:=hv.1;have e2:=hv.2;simp_all
        ·try simp only[Q,Val.cs_len] at h8p
         refine Walk.call (cr:=[]) zox (zex hw hlt (zds (k:=k) (c:=v.ctor) hv.2)) rfl .none rfl rfl (LeL.refl _) trivial rfl rfl rfl ?_
         refine ev ?_
         refine sq (fun h9 h9p h9s=>?_) fun h9 h9p h9s=>?_
         ·try simp only[Q,Val.cs_len] at h9p
          refine rn [(950,some (.box [.d (.i (c+1))]))] (r1 rfl) (.eqd ?_) ⟨rfl,rfl⟩ (SubO.get ⟨.inr (by rfl),⟨.inl rfl,trivial⟩⟩) (zaq rfl)
          all_goals (rfl)
         ·try simp only[Q,Val.cs_len] at h9p
          exfalso;simp[Val.cs_len] at h9;omega
  ·have hsc:zaI w (n+1) ⟨e,k⟩ v c=(false,c+1):=by
    conv=>lhs;unfold zaI
    rw[if_neg h60,if_neg hdn,if_neg hv]
   rw[hsc]
   refine bd Tryz.f37 108 [] [] fun w0 F0 own kept hk=>?_
   refine Walk.box (id:=3007) .none rfl rfl rfl rfl rfl rfl rfl ?_
   refine Walk.box (id:=3008) .none rfl rfl rfl rfl rfl rfl rfl ?_
   refine ev ?_
   refine ar ?_
   refine Walk.store ty3 .none rfl rfl rfl rfl rfl rfl (by simp) rfl ?_
   refine tv ?_
   refine sq (fun h1 h1p h1s=>?_) fun h1 h1p h1s=>?_
   ·try simp only[Q] at h1p
    refine sqT ?_
    exfalso;simp at *;omega
   ·try simp only[Q] at h1p
    refine sq (fun h3 h3p h3s=>?_) fun h3 h3p h3s=>?_
    ·try simp only[Q] at h3p
     exfalso;simp at *;omega
    ·try simp only[Q] at h3p
     refine sqF ?_
     refine sqF ?_
     refine sq (fun h5 h5p h5s=>?_) fun h5 h5p h5s=>?_
     ·try simp only[Q] at h5p
      exfalso;simp at * <;>omega
     ·try simp only[Q] at h5p
      refine sq (fun h6 h6p h6s=>?_) fun h6 h6p h6s=>?_
      ·try simp only[Q] at h6p
       refine dr ?_
       refine sqT ?_
       refine rn [(950,some (.box [.d (.i (c+1))]))] (r1 rfl) (.eqd ?_) ⟨rfl,rfl⟩ (SubO.get ⟨.inr (by rfl),⟨.inl rfl,trivial⟩⟩) (zaq rfl)
       all_goals (rfl)
      ·try simp only[Q] at h6p
       refine Walk.call (cr:=[]) zkA (zdL hw hlt) rfl (.some rfl rfl h6) rfl rfl (LeL.refl _) trivial rfl rfl rfl ?_
       refine evd [] [(67,false)] ?_ ⟨⟨_,rfl,h6⟩,trivial⟩
       refine Walk.call (cr:=[]) zkz (zbQ hcl) rfl (.some rfl rfl h6) rfl rfl (LeL.refl _) trivial rfl rfl rfl ?_
       refine evd [] [(67,false)] ?_ ⟨⟨_,rfl,h6⟩,trivial⟩
       refine dr ?_
       refine sq (fun h8 h8p h8s=>?_) fun h8 h8p h8s=>?_
       ·try simp only[Q] at h8p
        refine rn [(950,some (.box [.d (.i (c+1))]))] (r1 rfl) (.eqd ?_) ⟨rfl,rfl⟩ (SubO.get ⟨.inr (by rfl),⟨.inl rfl,trivial⟩⟩) (zaq rfl)
        all_goals (rfl)
       ·try simp only[Q] at h8p
        exfalso;simp_all
theorem zkP {w:List Data} (hw:WT w){a k:Int}{v:Val} (ht:TyIn w.length ⟨a,k⟩) (hok:v.ok):
  FnD Tryz.prog 18 [.d (zag w),.agg [.d (.i a),.d (.i k)],.agg [.d (.i v.ctor),.d (.i v.num),.d (zaw v.kids)]] [] (.d (.bool (isV w ⟨a,k⟩ v))) []:=by
 have hz:=(zki w 10 ⟨a,k⟩ v 0).1
 rw[Int.zero_add] at hz
 refine bd Tryz.f18 12 [] [] fun w0 F0 own kept hk=>?_
 refine Walk.box (id:=3004) .none rfl rfl rfl rfl rfl rfl rfl ?_
 refine Walk.box (id:=3005) .none rfl rfl rfl rfl rfl rfl rfl ?_
 refine ev ?_
 refine Walk.alloc (id:=950) tz3 rfl .none rfl rfl rfl rfl ?_
 refine Walk.store ty3 .none rfl rfl rfl rfl rfl rfl (by simp) rfl ?_
 refine tv ?_
 refine Walk.call (cr:=[]) zqz (zfO hw 10 (c:=0) (by omega) (by omega) ht hok (by omega) (by omega)) rfl .none rfl rfl (LeL.refl _) ⟨rfl,trivial⟩ rfl rfl rfl ?_
 refine ev ?_
 refine rn0 (r1 rfl) (.eqd ?_)
 all_goals (rw[hz];rfl)
theorem znW {α β:Type}{f:α→β→Bool}{a:List α}{b:List β} (h:all2 f a b=true):a.length=b.length:=by
 by_cases e:a.length=b.length
 ·exact e
 ·rw[zdl e] at h;exact absurd h (by simp)
structure Bd where
 var:Int
 val:Val
def Bd.c (b:Bd):List D:=[.i b.var,.i b.val.ctor,.i b.val.num,zaw b.val.kids]
abbrev za2 (l:List Bd):D:= .sl (l.map Bd.c)
instance:Inhabited Bd:=⟨⟨0,default⟩⟩
def zbj (f:Pat→Val→List Bd×Bool):List Pat→List Val→List Bd→List Bd×Bool
 |p::r,v::s,acc=>if (f p v).2=true then zbj f r s (acc++(f p v).1) else ([],false)
 |_,_,acc=>(acc,true)
def zaj:Nat→Pat→Val→List Bd×Bool
 |0,_,_=>([],false)
 |n+1,p,v=>
  if p.op=1 then ([],true)
  else if p.op=2 then ([⟨p.var,v⟩],true)
  else if p.op=3 then ([],zaf v.num p.n p.m)
  else if p.op=5 then (if (zaj n (nth p.kids 0) v).2=true then ((zaj n (nth p.kids 0) v).1,true) else zaj n (nth p.kids 1) v)
  else if p.op=6 then (⟨p.var,v⟩::(zaj n (nth p.kids 0) v).1,(zaj n (nth p.kids 0) v).2)
  else if p.ctor=v.ctor then zbj (zaj n) p.kids v.kids [] else ([],false)
section
variable {n:Nat}{p:Pat}{v:Val}
theorem zef (h:p.op=1):zaj (n+1) p v=([],true):=by unfold zaj;rw[if_pos h]
theorem zeI (h:p.op=2):zaj (n+1) p v=([⟨p.var,v⟩],true):=by unfold zaj;rw[if_neg (by omega),if_pos h]
theorem zeg (h:p.op=3):zaj (n+1) p v=([],zaf v.num p.n p.m):=by unfold zaj;rw[if_neg (by omega),if_neg (by omega),if_pos h]
theorem zhR (h:p.op=5) (h2:(zaj n (nth p.kids 0) v).2=true):zaj (n+1) p v=((zaj n (nth p.kids 0) v).1,true):=by
 conv=>lhs;unfold zaj
 rw[if_neg (by omega),if_neg (by omega),if_neg (by omega),if_pos h,if_pos h2]
theorem zhS (h:p.op=5) (h2:(zaj n (nth p.kids 0) v).2=false):zaj (n+1) p v=zaj n (nth p.kids 1) v:=by
 conv=>lhs;unfold zaj
 rw[if_neg (by omega),if_neg (by omega),if_neg (by omega),if_pos h,if_neg (by rw[h2];simp)]
theorem zeh (h:p.op=6):zaj (n+1) p v=(⟨p.var,v⟩::(zaj n (nth p.kids 0) v).1,(zaj n (nth p.kids 0) v).2):=by
 conv=>lhs;unfold zaj
 rw[if_neg (by omega),if_neg (by omega),if_neg (by omega),if_neg (by omega),if_pos h]
theorem zjl (h:p.op=4) (h2:p.ctor=v.ctor):zaj (n+1) p v=zbj (zaj n) p.kids v.kids []:=by
 conv=>lhs;unfold zaj
 rw[if_neg (by omega),if_neg (by omega),if_neg (by omega),if_neg (by omega),if_neg (by omega),if_pos h2]
theorem zhQ (h:p.op=4) (h2:¬p.ctor=v.ctor):zaj (n+1) p v=([],false):=by
 conv=>lhs;unfold zaj
 rw[if_neg (by omega),if_neg (by omega),if_neg (by omega),if_neg (by omega),if_neg (by omega),if_neg h2]
end
theorem zkT {f:Pat→Val→List Bd×Bool}:∀ {a:List Pat}{b:List Val}{acc:List Bd},(zbj f a b acc).2=true→∀i,i<a.length→i<b.length→(f (nth a i) (nth b i)).2=true
 | [],_,_,_,i,h,_=>by simp at h
 |_::_,[],_,_,i,_,h=>by simp at h
 |p::r,v::s,acc,h,i,h1,h2=>by
  unfold zbj at h
  split at h
  ·rename_i hp
   cases i with
   |zero=>exact hp
   |succ i=>exact zkT h i (by simpa using h1) (by simpa using h2)
  ·exact absurd h (by simp)
theorem zjJ {f:Pat→Val→List Bd×Bool}{a:List Pat}{b:List Val}{acc:List Bd}{i:Nat} (h1:i<a.length) (h2:i<b.length) (h:(f (nth a i) (nth b i)).2=true):
  zbj f (a.drop i) (b.drop i) acc=zbj f (a.drop (i+1)) (b.drop (i+1)) (acc++(f (nth a i) (nth b i)).1):=by
 rw[zaT h1,zaT h2]
 conv=>lhs;unfold zbj
 rw[if_pos h]
theorem zoJ {f:Pat→Val→List Bd×Bool}{a:List Pat}{b:List Val}{acc:List Bd}{i:Nat} (h1:i<a.length) (h2:i<b.length) (h:(f (nth a i) (nth b i)).2=false):
  zbj f (a.drop i) (b.drop i) acc=([],false):=by
 rw[zaT h1,zaT h2]
 conv=>lhs;unfold zbj
 rw[if_neg (by rw[h];simp)]
theorem zhP {f:Pat→Val→List Bd×Bool}{a:List Pat}{b:List Val}{acc:List Bd}{i:Nat} (h1:a.length≤i):zbj f (a.drop i) (b.drop i) acc=(acc,true):=by
 rw[List.drop_eq_nil_of_le h1];cases b.drop i<;>rfl
def BdOk (m:Nat) (l:List Bd):Prop:=∀x∈l,x.val.ok∧x.val.size≤m
theorem BdOk.app {m:Nat}{a b:List Bd} (h1:BdOk m a) (h2:BdOk m b):BdOk m (a++b):=fun x hx=>by
 rcases List.mem_append.1 hx with h|h
 ·exact h1 x h
 ·exact h2 x h
theorem BdOk.mono {m k:Nat}{a:List Bd} (h:BdOk m a) (hk:m≤k):BdOk k a:=fun x hx=>⟨(h x hx).1,Nat.le_trans (h x hx).2 hk⟩
theorem zmg {f:Pat→Val→List Bd×Bool}{m:Nat}:∀ {a:List Pat}{b:List Val}{acc:List Bd}{k:Nat},(∀p∈a,∀v∈b,BdOk m (f p v).1∧(f p v).1.length≤p.size)→BdOk m acc→acc.length≤k→BdOk m (zbj f a b acc).1∧(zbj f a b acc).1.length≤k+Pats.size a
 | [],b,acc,k,_,h2,h3=>by cases b<;>exact⟨h2,by simp only[zbj,Pats.size];omega⟩
 |_::_,[],acc,k,_,h2,h3=>⟨h2,by simp only[zbj];omega⟩
 |p::r,v::s,acc,k,h1,h2,h3=>by
  unfold zbj
  split
  ·have h4:=h1 p (by simp) v (by simp)
   have:=zmg (f:=f) (a:=r) (b:=s) (acc:=acc++(f p v).1) (k:=k+p.size) (fun q hq u hu=>h1 q (by simp[hq]) u (by simp[hu])) (h2.app h4.1) (by rw[List.length_append];omega)
   refine⟨this.1, ?_⟩
   simp only[Pats.size];omega
  ·exact⟨fun x hx=>by simp at hx,by simp⟩
theorem zpV {w:List Data}{t:Ty}{p:Pat} (h:p.op=5):zaa w t p=[t,t]:=by unfold zaa;rw[if_neg (by omega),if_pos h]
theorem zpW {w:List Data}{t:Ty}{p:Pat} (h:p.op=6):zaa w t p=[t]:=by unfold zaa;rw[if_neg (by omega),if_neg (by omega),if_pos h]
theorem zr4 {w:List Data}{t:Ty}{p:Pat} (h:p.op=4):zaa w t p=zam w t p.ctor:=by unfold zaa;rw[if_pos h]
theorem zfm {w:List Data}{n:Nat}{t:Ty}{p:Pat} (h:zap w (n+1) t p=true):p.op=1∨p.op=2∨p.op=3∨p.op=4∨p.op=5∨p.op=6:=by
 have h1:=(zcz h).1
 unfold ownP at h1
 have h2:=(of_decide_eq_true h1).2.2.2.2
 omega
theorem ziY {w:List Data}{n:Nat}{t:Ty}{p:Pat} (h:zap w (n+1) t p=true) (h5:p.op=5):p.kids.length=2∧zap w n t (nth p.kids 0)=true∧zap w n t (nth p.kids 1)=true:=by
 have hl:=(zcz h).2
 have h0:=fun i hi=>zbS h (i:=i) hi
 rw[zpV h5] at hl h0
 have hl':p.kids.length=2:=hl
 exact⟨hl',h0 0 (by omega),h0 1 (by omega)⟩
theorem ziX {w:List Data}{n:Nat}{t:Ty}{p:Pat} (h:zap w (n+1) t p=true) (h6:p.op=6):p.kids.length=1∧zap w n t (nth p.kids 0)=true:=by
 have hl:=(zcz h).2
 have h0:=fun i hi=>zbS h (i:=i) hi
 rw[zpW h6] at hl h0
 have hl':p.kids.length=1:=hl
 exact⟨hl',h0 0 (by omega)⟩
theorem zcS {w:List Data}:∀(n:Nat){t:Ty}{p:Pat}{v:Val},zap w n t p=true→v.ok→BdOk v.size (zaj n p v).1∧(zaj n p v).1.length≤p.size
 |0,t,p,v,h,_=>by simp[zap] at h
 |n+1,t,p,v,h,hv=>by
  have hs:=Pat.size_eq p
  have hsv:=Val.size_eq v
  have hv':=hv
  rw[Val.ok_iff] at hv'
  have one:BdOk v.size [⟨p.var,v⟩]:=fun x hx=>by simp only[List.mem_singleton] at hx;subst hx;exact⟨hv,Nat.le_refl _⟩
  have nil:BdOk v.size []:=fun x hx=>by simp at hx
  by_cases h1:p.op=1
  ·rw[zef h1];exact⟨nil,by simp⟩
  by_cases h2:p.op=2
  ·rw[zeI h2];exact⟨one,by simp only[List.length_singleton];omega⟩
  by_cases h3:p.op=3
  ·rw[zeg h3];exact⟨nil,by simp⟩
  by_cases h5:p.op=5
  ·obtain⟨hl,s0,s1⟩:=ziY h h5
   have k0:=zcS n s0 hv
   have k1:=zcS n s1 hv
   have z0:=za8 (l:=p.kids) (i:=0) (by omega)
   have z1:=za8 (l:=p.kids) (i:=1) (by omega)
   cases hm:(zaj n (nth p.kids 0) v).2 with
   |true=>rw[zhR h5 hm];exact⟨k0.1,by have:=k0.2;dsimp only;omega⟩
   |false=>rw[zhS h5 hm];exact⟨k1.1,by have:=k1.2;omega⟩
  by_cases h6:p.op=6
  ·obtain⟨hl,s0⟩:=ziX h h6
   have k0:=zcS n s0 hv
   have z0:=za8 (l:=p.kids) (i:=0) (by omega)
   rw[zeh h6]
   exact⟨one.app k0.1,by have:=k0.2;simp only[List.length_cons];omega⟩
  have h4:p.op=4:=by have:=zfm h;omega
  by_cases hc:p.ctor=v.ctor
  ·rw[zjl h4 hc]
   have:=zmg (f:=zaj n) (m:=v.size) (a:=p.kids) (b:=v.kids) (acc:=[]) (k:=0) (fun q hq u hu=>by
    obtain⟨i,hi,rfl⟩:=List.getElem_of_mem hq
    have e:p.kids[i]=nth p.kids i:=by simp[nth,List.getD,hi]
    have:=zcS n (v:=u) (zbS h hi) (Vals.ok_mem hv'.2 u hu)
    rw[e]
    exact⟨this.1.mono (by have:=Vals.size_mem hu;omega),this.2⟩) nil (by simp)
   exact⟨this.1,by have:=this.2;omega⟩
  ·rw[zhQ h4 hc];exact⟨nil,by simp⟩
theorem zpm {w:List Data}{m:Nat}{t:Ty}{v:Val} (h:zbY w (m+1) t v=true) (hd:t.data≠ -1):v.ctor∈zah w t∧(zam w t v.ctor).length=v.kids.length∧∀i,i<v.kids.length→zbY w m (nth (zam w t v.ctor) i) (nth v.kids i)=true:=by
 unfold zbY at h
 rw[if_neg hd] at h
 split at h
 ·rename_i hc
  have hl:=znW h
  exact⟨by unfold zah;rw[if_neg hd];exact hc.2,hl,fun i hi=>zmY hl h i (by omega)⟩
 ·exact absurd h (by simp)
end Go.Proofs.YtflgpdjbgfkhoaaGreat
namespace Go.Proofs.YtflgpdjbgfkhoaaGreat
open Go
set_option linter.unusedSimpArgs false
set_option linter.unusedVariables false
end Go.Proofs.YtflgpdjbgfkhoaaGreat
namespace Go.Proofs.YtflgpdjbgfkhoaaGreat
open Go
set_option linter.unusedSimpArgs false
set_option linter.unusedVariables false
set_option maxRecDepth 100000
set_option maxHeartbeats 2000000
theorem Val.cs_cc (l:List Val):Val.cs l=l.map Val.cc:=by
 rw[Val.cs_eq];exact List.map_congr_left (fun v _=>Val.c_eq v)
theorem zgr:∀(n:Nat){v:Val},v.size≤n→v.ok→FnD Tryz.prog 56 [.agg [.d (.i v.ctor),.d (.i v.num),.d (zaw v.kids)]] [] (.agg [.d (.i v.ctor),.d (.i v.num),.d (zaw v.kids)]) []
 |0,v,h,_=>by rw[Val.size_eq] at h;omega
 |n+1,v,h,hok=>by
  rw[Val.size_eq] at h
  rw[Val.ok_iff] at hok
  have hok1:=hok.1
  refine bd Tryz.f56 27 [] [] fun w0 F0 own kept hk=>?_
  refine Walk.box (id:=3001) .none rfl rfl rfl rfl rfl rfl rfl ?_
  refine Walk.alloc (id:=3002) tz29 rfl .none rfl rfl rfl rfl ?_
  refine tv ?_
  refine Walk.build st29 (ks:=[0,1]) (xs:=[_,_]) rfl rfl .none rfl rfl rfl ?_
  refine Walk.alloc (id:=3003) tz29 rfl .none rfl rfl rfl rfl ?_
  refine Walk.store ty29 .none rfl rfl rfl rfl rfl rfl (by simp) rfl ?_
  refine tv ?_
  refine CWp.tokB 3003 2 7 3 rfl rfl rfl rfl ?_
  refine CWp.loopX (ι:=List (Val)×List (Val)) hk (fun x=>[(14,.d (.i (x.1.length:Int)))]) [5,15,16,17,18,19,20,21,22,23,24,25] (fun x=>[(3003,some (.box [.d (.i v.ctor),.d (.i v.num),.gl 7 (x.1.map Val.cc)])),(7,some (.tok (x.1.map Val.cc).length 3))]) (fun x=>x.1++x.2=v.kids) (fun x=>x.2.length) ([],v.kids) (by simp) ⟨⟨_,rfl,(LeA.eqi (by first|rfl|(simp;done)|(simp_all;done)|omega))⟩,trivial⟩ ⟨(by first|rfl|(simp[getH];done)),⟨zae (by first|rfl|(simp;done)|(simp;omega)|(first|rfl|(simp;done)|(simp_all;done)|omega)),trivial⟩⟩ (fun x=>rfl) (fun x hg1=>?_)
  obtain⟨pre,rest⟩:=x
  dsimp only at hg1 ⊢
  refine evc [] [] ?_
  refine sq (fun h1 h1p h1s=>?_) fun h1 h1p h1s=>?_
  ·try simp only[Q,Val.cs_len] at h1p
   rcases rest with _|⟨y,rest⟩
   ·exfalso;simp_all
   refine Walk.idx sl27 .none rfl rfl rfl rfl (Val.cs_at hg1) rfl ?_
   refine ev ?_
   refine Walk.alloc (id:=3005) tz29 rfl .none rfl rfl rfl rfl ?_
   refine Walk.store ty29 .none rfl rfl rfl rfl rfl rfl (by simp) rfl ?_
   refine tv ?_
   refine Walk.call (cr:=[]) zqD (zgr n (v:=y) (by have:=Vals.size_mem (l:=v.kids) (v:=y) (by rw[←hg1];simp);omega) (Vals.ok_mem hok.2 y (by rw[←hg1];simp))) rfl .none rfl rfl (LeL.refl _) trivial rfl rfl rfl ?_
   refine Walk.sliceLit sl27 tz29 rfl (by decide) (ks:=[0]) (xs:=[_]) rfl rfl (by decide) (by decide) .none rfl rfl rfl rfl ?_
   refine Walk.append sl27 zz29 rfl .none rfl rfl rfl rfl (zaP rfl (by first|rfl|(simp;done)|(simp;omega))) (by simp) (by have:=congrArg List.length hg1;simp at this;simp;omega) (by have:=congrArg List.length hg1;simp at this;simp;omega) ?_
   refine evd [] [] ?_
   refine Walk.store ty27 .none rfl rfl rfl rfl rfl rfl (by simp) rfl ?_
   refine dr ?_
   refine ar ?_
   refine Exists.intro ((pre++[y],rest)) ⟨(by have hz:=hg1;rw[←hz];simp),(by simp),Sub.x (by kernel_rfl) (by kernel_rfl) ⟨⟨_,rfl,(LeA.eqi (by first|rfl|(simp;done)|(simp_all;done)|omega))⟩,trivial⟩ (by kernel_rfl) (by kernel_rfl) ⟨(by first|rfl|(simp[getH];done)),⟨zae (by first|rfl|(simp;done)|(simp;omega)|(first|rfl|(simp;done)|(simp_all;done)|omega)),trivial⟩⟩⟩
  ·try simp only[Q,Val.cs_len] at h1p
   have hrest:rest=[]:=by
    rcases rest with _|⟨a,b⟩
    ·rfl
    ·exfalso;have hz:=congrArg List.length (hg1);simp only[List.length_append,List.length_cons,List.length_map] at hz;omega
   subst hrest
   refine Walk.store ty29 .none rfl rfl rfl rfl rfl rfl (by simp) rfl ?_
   refine tv ?_
   refine rn0 (.cons (.cellA ty29 rfl rfl rfl) .nil) (.agg (.cons (.eqd ?_) (.cons (.eqd ?_) (.cons (.gld ?_) .nil))))
   all_goals (first|rfl|(rw[List.append_nil] at hg1;rw[←hg1,Val.cs_cc];done))
theorem zhs:∀(n:Nat){v:Val},v.size≤n→v.ok→FnD Tryz.prog 74 [.agg [.d (.i v.ctor),.d (.i v.num),.d (zaw v.kids)]] [] (.agg [.d (.i v.ctor),.d (.i v.num),.d (zaw v.kids)]) []
 |0,v,h,_=>by rw[Val.size_eq] at h;omega
 |n+1,v,h,hok=>by
  rw[Val.size_eq] at h
  rw[Val.ok_iff] at hok
  have hok1:=hok.1
  refine bd Tryz.f74 29 [] [] fun w0 F0 own kept hk=>?_
  refine Walk.box (id:=3001) .none rfl rfl rfl rfl rfl rfl rfl ?_
  refine Walk.alloc (id:=3002) tz29 rfl .none rfl rfl rfl rfl ?_
  refine tv ?_
  refine Walk.build st29 (ks:=[0,1]) (xs:=[_,_]) rfl rfl .none rfl rfl rfl ?_
  refine Walk.alloc (id:=3003) tz29 rfl .none rfl rfl rfl rfl ?_
  refine Walk.store ty29 .none rfl rfl rfl rfl rfl rfl (by simp) rfl ?_
  refine tv ?_
  refine CWp.tokB 3003 2 7 3 rfl rfl rfl rfl ?_
  refine CWp.loopX (ι:=List (Val)×List (Val)) hk (fun x=>[(4,.d (.i (x.1.length:Int)))]) [10,11,12,13,14,15,16,17,18,19,20,21,22,23,24,25,26,27] (fun x=>[(3003,some (.box [.d (.i v.ctor),.d (.i v.num),.gl 7 (x.1.map Val.cc)])),(7,some (.tok (x.1.map Val.cc).length 3))]) (fun x=>x.1++x.2=v.kids) (fun x=>x.2.length) ([],v.kids) (by simp) ⟨⟨_,rfl,(LeA.eqi (by first|rfl|(simp;done)|(simp_all;done)|omega))⟩,trivial⟩ ⟨(by first|rfl|(simp[getH];done)),⟨zae (by first|rfl|(simp;done)|(simp;omega)|(first|rfl|(simp;done)|(simp_all;done)|omega)),trivial⟩⟩ (fun x=>rfl) (fun x hg1=>?_)
  obtain⟨pre,rest⟩:=x
  dsimp only at hg1 ⊢
  refine evc [] [] ?_
  refine sq (fun h1 h1p h1s=>?_) fun h1 h1p h1s=>?_
  ·try simp only[Q,Val.cs_len] at h1p
   rcases rest with _|⟨y,rest⟩
   ·exfalso;simp_all
   refine Walk.idx sl27 .none rfl rfl rfl rfl (Val.cs_at hg1) rfl ?_
   refine evd [] [] ?_
   refine Walk.call (cr:=[]) zqF (zhs n (v:=y) (by have:=Vals.size_mem (l:=v.kids) (v:=y) (by rw[←hg1];simp);omega) (Vals.ok_mem hok.2 y (by rw[←hg1];simp))) rfl .none rfl rfl (LeL.refl _) trivial rfl rfl rfl ?_
   refine Walk.sliceLit sl27 tz29 rfl (by decide) (ks:=[0]) (xs:=[_]) rfl rfl (by decide) (by decide) .none rfl rfl rfl rfl ?_
   refine Walk.append sl27 zz29 rfl .none rfl rfl rfl rfl (zaP rfl (by first|rfl|(simp;done)|(simp;omega))) (by simp) (by have:=congrArg List.length hg1;simp at this;simp;omega) (by have:=congrArg List.length hg1;simp at this;simp;omega) ?_
   refine evd [] [] ?_
   refine Walk.store ty27 .none rfl rfl rfl rfl rfl rfl (by simp) rfl ?_
   refine dr ?_
   refine ar ?_
   refine Exists.intro ((pre++[y],rest)) ⟨(by have hz:=hg1;rw[←hz];simp),(by simp),Sub.x (by kernel_rfl) (by kernel_rfl) ⟨⟨_,rfl,(LeA.eqi (by first|rfl|(simp;done)|(simp_all;done)|omega))⟩,trivial⟩ (by kernel_rfl) (by kernel_rfl) ⟨(by first|rfl|(simp[getH];done)),⟨zae (by first|rfl|(simp;done)|(simp;omega)|(first|rfl|(simp;done)|(simp_all;done)|omega)),trivial⟩⟩⟩
  ·try simp only[Q,Val.cs_len] at h1p
   have hrest:rest=[]:=by
    rcases rest with _|⟨a,b⟩
    ·rfl
    ·exfalso;have hz:=congrArg List.length (hg1);simp only[List.length_append,List.length_cons,List.length_map] at hz;omega
   subst hrest
   refine Walk.store ty29 .none rfl rfl rfl rfl rfl rfl (by simp) rfl ?_
   refine tv ?_
   refine rn0 (.cons (.cellA ty29 rfl rfl rfl) .nil) (.agg (.cons (.eqd ?_) (.cons (.eqd ?_) (.cons (.gld ?_) .nil))))
   all_goals (first|rfl|(rw[List.append_nil] at hg1;rw[←hg1,Val.cs_cc];done))
end Go.Proofs.YtflgpdjbgfkhoaaGreat
namespace Go.Proofs.YtflgpdjbgfkhoaaGreat
open Go
set_option linter.unusedSimpArgs false
set_option linter.unusedVariables false
end Go.Proofs.YtflgpdjbgfkhoaaGreat
namespace Go.Proofs.YtflgpdjbgfkhoaaGreat
open Go
set_option linter.unusedSimpArgs false
set_option linter.unusedVariables false
set_option maxRecDepth 100000
set_option maxHeartbeats 2000000
end Go.Proofs.YtflgpdjbgfkhoaaGreat
