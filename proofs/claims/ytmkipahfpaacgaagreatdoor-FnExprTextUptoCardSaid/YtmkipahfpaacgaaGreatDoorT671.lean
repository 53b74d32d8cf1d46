/-
  THE ABSTRACT WALK AND THE WALKS, part 1 of 5.
-/
import Derived.Orders
import Derived.Laws.World
import Derived.Laws.Sem
import Derived.Laws.NewBlocks
import Derived.Laws.Entries
import Derived.Laws.StructEq
import Derived.Laws.Small
import Derived.Laws.Strings
import Derived.Laws.Slices
import Derived.Laws.Tables
import Derived.ChangeKeysEq
import Derived.Laws.Cells
import Derived.Great.BuildSlice
import Derived.Laws.CopyRow
import Derived.Laws.AppendOwn
import Derived.Laws.MakeOwn
import Derived.Laws.Append
import Derived.MapKept
import Derived.Lib.LazyBuf
import Derived.Laws.BytesArg
import Derived.Test.YtmkipahfpaacgaaGreatDoorProg
import Derived.KernelRfl
import Derived.Below
import Derived.Lib.Join
import Derived.Lib.ItoaNum
import Derived.Shelf.Strings.OnBuilder
import Derived.Shelf.Strconv.Itoa3
import Derived.Shelf.Strings.LastIndex
import Derived.Lib.Bytealg
import Derived.Test.YtmkipahfpaacgaaGreatDoorRows
import Derived.ChangeSame
import Derived.ChangeArms
import Derived.Carry
import Derived.JoinedCond
import Derived.OpenShut
import Derived.ProofKit
import Derived.Test.YtmkipahfpaacgaaGreatDoorCards
import Derived.Test.YtmkipahfpaacgaaGreatDoorTie
import Derived.Deep.DeepHandedRow
import Derived.Lib.LaidTab
namespace Go.Proofs.YtmkipahfpaacgaaGreatDoor
open Go
set_option linter.unusedSimpArgs false
set_option linter.unusedVariables false
theorem od{p:Prop}(h:p:=by omega):p:=h
theorem og{p:Prop}(h:p:=by simp):p:=h
theorem oh{p:Prop}(h:p:=by assumption):p:=h
theorem oj{p:Prop}(h:p:=by kernel_rfl):p:=h
theorem ol{p:Prop}(h:p:=by decide):p:=h
theorem oq{p:Prop}(h:p:=by simp;omega):p:=h
theorem ox{p:Prop}(h:p:=by simp_all):p:=h
theorem I{α:Sort _}{a:α}:a=a:=rfl
theorem O:True:=trivial
theorem xaa {α:Type}{l m:List α}:(l++m).length=l.length+m.length:=List.length_append
theorem xab {α:Type}{a:α}{l:List α}:(a::l).length=l.length+1:=List.length_cons
theorem xac {α β:Type}{l:List α} (f:α->β):(l.map f).length=l.length:=List.length_map _
theorem xad (a b:Bool):((a&&b)=true)=(a=true/\b=true):=Bool.and_eq_true _ _
theorem xae {α:Type} (a b:α):(some a=some b)=(a=b):=Option.some.injEq _ _
theorem xaf {α β:Type}{f:α->β}{a:α}{l:List α}:(a::l).map f=f a::l.map f:=List.map_cons
theorem xag {α β:Type}{f:α->β}{l₁ l₂:List α}:(l₁++l₂).map f=l₁.map f++l₂.map f:=List.map_append
theorem xah {p:Prop} [Decidable p]:(decide p=true)=p:=decide_eq_true_eq
theorem xai {α:Type}{a:α}{l m:List α}:(a::l)++m=a::(l++m):=List.cons_append
theorem xaj {α:Type}{p:α->Prop} (w:α) (h:p w):∃x,p x:=Exists.intro w h
theorem xak {α:Type}:([]:List α).length=0:=List.length_nil
theorem xal {m n:Nat}:((m:Int)=(n:Int))↔m=n:=Int.natCast_inj
theorem xam {α:Sort _}{β:Sort _}{a b:α} (f:α->β) (h:a=b):f a=f b:=congrArg f h
theorem xan {α:Type}{l:List α}{i:Nat} (h:i<l.length):l[i]?=some l[i]:=List.getElem?_eq_getElem h
theorem xao {α:Type}{l:List α}{n:Nat} (h:n<l.length):l[n]∈l:=List.getElem_mem h
theorem xap {n m:Nat} (h:Nat.beq n m=true):n=m:=Nat.eq_of_beq_eq_true h
theorem xaq {α:Type} (l:List α):l++[]=l:=List.append_nil l
theorem xar {α:Type} (a b c:List α):a++b++c=a++(b++c):=List.append_assoc a b c
theorem xas {p:Prop} [Decidable p] (h:decide p=true):p:=of_decide_eq_true h
theorem xat {a b:Bool}:a=b↔(a=true↔b=true):=Bool.eq_iff_iff
theorem xau {α:Type}{a:α}:¬a∈([]:List α):=List.not_mem_nil
theorem xav {m n:Nat} (k:Nat) (h:m<=n):m*k<=n*k:=Nat.mul_le_mul_right k h
theorem xaw {p:Prop} [Decidable p] (h:¬p):decide p=false:=decide_eq_false h
theorem xax {p:Prop} [Decidable p] (h:p):decide p=true:=decide_eq_true h
inductive D where
 |int (k:IntKind) (n:Int)
 |bool (b:Bool)
 |str (s:List UInt8)
 |sl (xs:List (List D))
 |ptr (cs:List D) (off:Nat)
 |nilp
 deriving Inhabited
abbrev D.i (n:Int):D:= .int .i64 n
inductive RelD (F:Nat->Nat) (w:World):D->Value->Prop
 |int (k n):RelD F w (.int k n) (.int k n)
 |bool (b):RelD F w (.bool b) (.bool b)
 |str (s:List UInt8):RelD F w (.str s) (.string ⟨s.toArray⟩)
 |nil:RelD F w (.sl []) (.slice none 0 0)
 |sl (xs:List (List D)) (k b off cap:Nat) (c:Nat->Value)
   (hk:∀x,x∈xs->x.length=k) (hcap:xs.length<=cap)
   (hc:∀n,n<xs.length*k->off+n<F b/\w.cell? ⟨b,off+n,none⟩=some (c n))
   (hr:∀i (hi:i<xs.length) j (hj:j<xs[i].length),RelD F w (xs[i][j]) (c (i*k+j))):
   RelD F w (.sl xs) (.slice (some ⟨b,off,none⟩) xs.length cap)
 |emp (b off s cap:Nat):RelD F w (.sl []) (.slice (some ⟨b,off,some s⟩) 0 cap)
 |ptr (cs:List D) (b o off:Nat) (c:Nat->Value)
   (hc:∀n,n<cs.length->o+n<F b/\w.cell? ⟨b,o+n,none⟩=some (c n))
   (hr:∀n (hn:n<cs.length),RelD F w cs[n] (c n)):
   RelD F w (.ptr cs off) (.pointer (some ⟨b,o+off,none⟩))
 |nilp:RelD F w .nilp (.pointer none)
theorem RelD.mono {F F':Nat->Nat}{w w':World} (hF:∀b o,o<F b->o<F' b/\w'.cell? ⟨b,o,none⟩=w.cell? ⟨b,o,none⟩)
  {x:D}{v:Value} (h:RelD F w x v):RelD F' w' x v:=by
 induction h with
 |int k n=>exact .int k n
 |bool b=>exact .bool b
 |str s=>exact .str s
 |nil=>exact .nil
 |emp b off s cap=>exact .emp b off s cap
 |sl xs k b off cap c hk hcap hc hr ih=>
  refine .sl xs k b off cap c hk hcap (fun n hn=>?_) ih;obtain⟨h1,h2⟩:=hc n hn;obtain⟨h3,h4⟩:=hF b _ h1;exact⟨h3,by rw[h4,h2]⟩
 |ptr cs b o off c hc hr ih=>
  refine .ptr cs b o off c (fun n hn=>?_) ih;obtain⟨h1,h2⟩:=hc n hn;obtain⟨h3,h4⟩:=hF b _ h1;exact⟨h3,by rw[h4,h2]⟩
 |nilp=>exact .nilp
inductive AV where
 |d (x:D)
 |nils
 |sn (xs:List (List D))
 |gl (id:Nat) (xs:List (List D))
 |gv (id:Nat) (xs:List (List D))
 |gt (id:Nat) (xs:List (List D))
 |ref (id off:Nat)
 |ms (id n:Nat)
 |mo (id off n:Nat)
 |mc (id n cap:Nat)
 |ga (id n:Nat) (js:List Nat) (cs:List AV)
 |gp (id n off len:Nat) (js:List Nat) (cs:List AV)
 |gh (id:Nat) (xs:List (List D))
 |ght (id:Nat) (xs:List (List D))
 |mapr (id:Nat)
 |fn (f:FuncId) (caps:List AV)
 |agg (cs:List AV)
 |tup (vs:List AV)
 |own (m:Bool) (x:D)
 |any
 deriving Inhabited
mutual
def AV.ids:AV->List Nat
 | .gl id _=>[id]
 | .gv id _=>[id]
 | .gt id _=>[id]
 | .ref id _=>[id]
 | .ms id _=>[id]
 | .mapr id=>[id]
 | .mo id _ _=>[id]
 | .mc id _ _=>[id]
 | .ga id _ js _=>id::js
 | .gp id _ _ _ js _=>id::js
 | .gh id _=>[id]
 | .ght id _=>[id]
 | .fn _ caps=>AV.idsL caps
 | .agg cs=>AV.idsL cs
 | .tup vs=>AV.idsL vs
 | .d _=>[]
 | .nils=>[]
 | .sn _=>[]
 | .own _ _=>[]
 | .any=>[]
def AV.idsL:List AV->List Nat
 | []=>[]
 |v::r=>v.ids++AV.idsL r
end
theorem xay {id:Nat}{v:AV}:∀ {l:List AV},v∈l->id∈v.ids->id∈AV.idsL l
 |x::r,hm,hi=>by
  simp only[AV.idsL,List.mem_append];rcases List.mem_cons.1 hm with h|h
  ·exact .inl (h ▸ hi)
  ·exact .inr (xay h hi)
structure Gh where
 F:Nat->Nat
 loc:Nat->List Nat
def Tip (G:Gh) (w:World) (id n k:Nat) (v:Value):Prop:=
 (G.loc id=[]/\n=0/\v = .slice none 0 0)\/
 ∃b cap cs e,G.loc id=[b]/\v = .slice (some ⟨b,0,none⟩) n cap/\G.F b=n*k/\
  w.heap[b]?=some (.cells cs e (0,0))/\cap*k<=cs.size/\n<=cap
def TipV (G:Gh) (w:World) (id n k:Nat) (v:Value) (xs:List (List D)):Prop:=
 (G.loc id=[]/\n=0/\v = .slice none 0 0)\/
 ∃b cap cs e,G.loc id=[b]/\v = .slice (some ⟨b,0,none⟩) n cap/\G.F b=0/\
  w.heap[b]?=some (.cells cs e (0,0))/\cap*k<=cs.size/\n<=cap/\∀i (hi:i<xs.length) j (hj:j<xs[i].length),RelD G.F w xs[i][j] (cs.getD (i*k+j) undef)
def zaH (n:Nat):Nat:=2 ^ 70+2*n
def Hole (G:Gh) (w:World) (id k:Nat) (v:Value) (xs:List (List D)):Prop:=
 (∀x,x∈xs->x.length=k)/\∃b cap cs e,G.loc id=[b]/\v = .slice (some ⟨b,0,none⟩) (xs.length+1) cap/\G.F b=0/\
  w.heap[b]?=some (.cells cs e (0,0))/\cap*k<=cs.size/\xs.length+1<=cap/\∀i (hi:i<xs.length) j (hj:j<xs[i].length),RelD G.F w xs[i][j] (cs.getD (i*k+j) undef)
theorem Hole.mono {G G':Gh}{w w':World}{id k:Nat}{v:Value}{xs:List (List D)} (h:Hole G w id k v xs) (hF:∀b o,o<G.F b->o<G'.F b/\w'.cell? ⟨b,o,none⟩=w.cell? ⟨b,o,none⟩) (hl:G'.loc id=G.loc id)
  (hB:∀b,b∈G.loc id->w'.heap[b]?=w.heap[b]?/\G'.F b=G.F b):Hole G' w' id k v xs:=by
 obtain⟨hk,b,cap,cs,e,h1,h2,h3,h4,h5,h6,h7⟩:=h;obtain⟨q1,q2⟩:=hB b (by simp[h1]);exact⟨hk,b,cap,cs,e,hl.trans h1,h2,q2.trans h3,q1.trans h4,h5,h6,fun i hi j hj=>(h7 i hi j hj).mono hF⟩
abbrev TokF:=Nat->Option (Nat×Nat)
def LocEq (T':TokF) (G' G:Gh) (id:Nat):Prop:=G'.loc id=G.loc id\/(T' id=none/\(G'.loc id).head?=(G.loc id).head?)
theorem LocEq.head {T':TokF}{G' G:Gh}{id:Nat} (h:LocEq T' G' G id):(G'.loc id).head?=(G.loc id).head?:=by
 rcases h with h|h
 ·rw[h]
 ·exact h.2
theorem LocEq.full {T':TokF}{G' G:Gh}{id:Nat}{p:Nat×Nat} (h:LocEq T' G' G id) (hT:T' id=some p):G'.loc id=G.loc id:=by
 rcases h with h|h
 ·exact h
 ·rw[hT] at h;cases h.1
theorem zdr {l:List Nat}{b b':Nat} (h:l.head?=some b) (h2:l=[b']):b=b':=by
 subst h2;exact Option.some.inj (h.symm.trans I)
theorem zgZ {l:List Nat}{b:Nat} (h:l=[b]):l.head?=some b:=by rw[h];rfl
inductive TreeD (m:Bool) (w:World):D->Value->List Nat->Prop
 |int (k n):TreeD m w (.int k n) (.int k n) []
 |bool (b):TreeD m w (.bool b) (.bool b) []
 |str (s:List UInt8):TreeD m w (.str s) (.string ⟨s.toArray⟩) []
 |nil:TreeD m w (.sl []) (.slice none 0 0) []
 |emp (b off s cap:Nat) (hm:m=false):TreeD m w (.sl []) (.slice (some ⟨b,off,some s⟩) 0 cap) []
 |em0 (b off cap:Nat) (hm:m=false):TreeD m w (.sl []) (.slice (some ⟨b,off,none⟩) 0 cap) []
 |sl (xs:List (List D)) (k b cap:Nat) (cs:Array Value) (e:TypeId) (Ss:Nat->List Nat)
   (hk:∀x,x∈xs->x.length=k) (hcap:xs.length<=cap) (hb:w.heap[b]?=some (.cells cs e (0,0))) (hc:(bif m then cap else xs.length)*k<=cs.size)
   (hr:∀i (hi:i<xs.length) j (hj:j<xs[i].length),TreeD m w (xs[i][j]) (cs.getD (i*k+j) undef) (Ss (i*k+j)))
   (hz:m=true->xs=[]->cap=0):
   TreeD m w (.sl xs) (.slice (some ⟨b,0,none⟩) xs.length cap) (b::(List.range (xs.length*k)).flatMap Ss)
theorem zfk {i j n k:Nat} (hi:i<n) (hj:j<k):i*k+j<n*k:=by
 have:(i+1)*k<=n*k:=xav _ od;rw[Nat.add_mul] at this;omega
theorem TreeD.mono {m:Bool}{w w':World}{x:D}{v:Value}{S:List Nat} (h:TreeD m w x v S) (hS:∀b,b∈S->w'.heap[b]?=w.heap[b]?):TreeD m w' x v S:=by
 induction h with
 |int k n=>exact .int k n
 |bool b=>exact .bool b
 |str s=>exact .str s
 |nil=>exact .nil
 |emp b off s cap hm=>exact .emp b off s cap hm
 |em0 b off cap hm=>exact .em0 b off cap hm
 |sl xs k b cap cs e Ss hk hcap hb hc hr hz ih=>
  refine .sl xs k b cap cs e Ss hk hcap (by rw[hS b og];exact hb) hc (fun i hi j hj=>ih i hi j hj (fun b' hb'=>hS b' ?_)) hz;refine List.mem_cons_of_mem _ (List.mem_flatMap.2 ⟨i*k+j, ?_,hb'⟩);have:=hk _ (xao hi);exact List.mem_range.2 (zfk hi od)
def szB (w:World) (b:Nat):Nat:=match w.heap[b]? with
 |some (.cells cs _ _)=>cs.size
 |_=>0
theorem TreeD.toD {m:Bool}{F:Nat->Nat}{w:World}{x:D}{v:Value}{S:List Nat} (h:TreeD m w x v S) (hS:∀b,b∈S->szB w b<=F b):RelD F w x v:=by
 induction h with
 |int k n=>exact .int k n
 |bool b=>exact .bool b
 |str s=>exact .str s
 |nil=>exact .nil
 |emp b off s cap _=>exact .emp b off s cap
 |em0 b off cap _=>exact .sl [] 0 b off cap (fun _=>undef) og og (fun n hn=>by simp at hn) (fun i hi=>by simp at hi)
 |sl xs k b cap cs e Ss hk hcap hb hc hr hz ih=>
  have hsz:szB w b=cs.size:=by simp[szB,hb]
  have hF:=hS b og;have hcap':xs.length*k<=cs.size:=by
   refine Nat.le_trans (xav _ ?_) hc;cases m
   ·exact Nat.le_refl _
   ·exact hcap
  refine .sl xs k b 0 cap (fun n=>cs.getD n undef) hk hcap (fun n hn=>⟨by omega, ?_⟩) (fun i hi j hj=>ih i hi j hj (fun b' hb'=>hS b' ?_))
  ·have:n<cs.size:=by omega
   simp[World.cell?,hb,this]
  ·refine List.mem_cons_of_mem _ (List.mem_flatMap.2 ⟨i*k+j, ?_,hb'⟩);have:=hk _ (xao hi);exact List.mem_range.2 (zfk hi od)
def TipT (G:Gh) (w:World) (id n k:Nat) (v:Value) (xs:List (List D)):Prop:=
 (G.loc id=[]/\n=0/\v = .slice none 0 0)\/
 ∃b cap cs e Ss,G.loc id=b::(List.range (n*k)).flatMap Ss/\v = .slice (some ⟨b,0,none⟩) n cap/\
  w.heap[b]?=some (.cells cs e (0,0))/\cap*k<=cs.size/\n<=cap/\(G.loc id).Nodup/\(∀b',b'∈G.loc id->G.F b'=0)/\
  (∀i (hi:i<xs.length) j (hj:j<xs[i].length),TreeD true w xs[i][j] (cs.getD (i*k+j) undef) (Ss (i*k+j)))/\(n=0->cap=0)
def HoleT (G:Gh) (w:World) (id k:Nat) (v:Value) (xs:List (List D)):Prop:=
 (∀x,x∈xs->x.length=k)/\∃b cap cs e Ss extra,G.loc id=b::((List.range (xs.length*k)).flatMap Ss++extra)/\v = .slice (some ⟨b,0,none⟩) (xs.length+1) cap/\
  w.heap[b]?=some (.cells cs e (0,0))/\cap*k<=cs.size/\xs.length+1<=cap/\(G.loc id).Nodup/\(∀b',b'∈G.loc id->G.F b'=0)/\
  (∀i (hi:i<xs.length) j (hj:j<xs[i].length),TreeD true w xs[i][j] (cs.getD (i*k+j) undef) (Ss (i*k+j)))
theorem HoleT.mono {G G':Gh}{w w':World}{id k:Nat}{v:Value}{xs:List (List D)} (h:HoleT G w id k v xs) (hl:G'.loc id=G.loc id)
  (hB:∀b,b∈G.loc id->w'.heap[b]?=w.heap[b]?/\G'.F b=G.F b):HoleT G' w' id k v xs:=by
 obtain⟨hk,b,cap,cs,e,Ss,extra,h1,h2,h3,h4,h5,h6,h7,h8⟩:=h;refine⟨hk,b,cap,cs,e,Ss,extra,hl.trans h1,h2,(hB b (by simp[h1])).1.trans h3,h4,h5,by rw[hl];exact h6,fun b' hb'=>?_,fun i hi j hj=>(h8 i hi j hj).mono (fun b' hb'=>(hB b' ?_).1)⟩
 ·rw[hl] at hb';exact(hB b' hb').2.trans (h7 b' hb')
 ·rw[h1];have:=hk _ (xao hi);exact List.mem_cons_of_mem _ (List.mem_append_left _ (List.mem_flatMap.2 ⟨i*k+j,List.mem_range.2 (zfk hi od),hb'⟩))
theorem TipT.mono {G G':Gh}{w w':World}{id n k:Nat}{v:Value}{xs:List (List D)} (h:TipT G w id n k v xs) (hn:n=xs.length) (hk:∀x,x∈xs->x.length=k) (hl:G'.loc id=G.loc id)
  (hB:∀b,b∈G.loc id->w'.heap[b]?=w.heap[b]?/\G'.F b=G.F b):TipT G' w' id n k v xs:=by
 rcases h with ⟨h1,h2,h3⟩|⟨b,cap,cs,e,Ss,h1,h2,h3,h4,h5,h6,h7,h8,h9⟩
 ·exact .inl ⟨hl.trans h1,h2,h3⟩
 ·refine .inr ⟨b,cap,cs,e,Ss,hl.trans h1,h2,(hB b (by simp[h1])).1.trans h3,h4,h5,by rw[hl];exact h6,fun b' hb'=>?_,fun i hi j hj=>(h8 i hi j hj).mono (fun b' hb'=>(hB b' ?_).1),h9⟩
  ·rw[hl] at hb';exact(hB b' hb').2.trans (h7 b' hb')
  ·rw[h1];have:=hk _ (xao hi);exact List.mem_cons_of_mem _ (List.mem_flatMap.2 ⟨i*k+j,List.mem_range.2 (by subst hn;exact zfk hi od),hb'⟩)
inductive RelA (G:Gh) (T:TokF) (w:World):AV->Value->Prop
 |d {x v} (h:RelD G.F w x v):RelA G T w (.d x) v
 |gl {id xs v} (h:RelD G.F w (.sl xs) v) (ht:∀n k,T id=some (n,k)->xs.length<=n/\(n=xs.length->(∀x,x∈xs->x.length=k)/\Tip G w id n k v)):RelA G T w (.gl id xs) v
 |gv {id xs v} (hv:∃a cap,v = .slice a xs.length cap) (ht:∀n k,T id=some (n,k)->xs.length<=n/\(n=xs.length->(∀x,x∈xs->x.length=k)/\TipV G w id n k v xs)):RelA G T w (.gv id xs) v
 |gt {id xs v} (hv:∃a cap,v = .slice a xs.length cap) (ht:∀n k,T id=some (n,k)->xs.length<=n/\(n=xs.length->(∀x,x∈xs->x.length=k)/\TipT G w id n k v xs)):RelA G T w (.gt id xs) v
 |ref {id off b} (h:(G.loc id).head?=some b) (hT:T id=none):RelA G T w (.ref id off) (.pointer (some ⟨b,off,none⟩))
 |ms {id n b cap} (h:(G.loc id).head?=some b) (hT:T id=none) (hcap:n<=cap):RelA G T w (.ms id n) (.slice (some ⟨b,0,none⟩) n cap)
 |mo {id off o n b cap} (h:(G.loc id).head?=some b) (hT:T id=none) (hcap:n<=cap) (ho:n=0\/o=off):RelA G T w (.mo id off n) (.slice (some ⟨b,o,none⟩) n cap)
 |mc {id n b cap} (h:(G.loc id).head?=some b) (hT:T id=none) (hcap:n<=cap):RelA G T w (.mc id n cap) (.slice (some ⟨b,0,none⟩) n cap)
 |gaD {id n js cs v} (hv:∃a cap,v = .slice a n cap) (hT:∀m k,T id=some (m,k)->n<m):RelA G T w (.ga id n js cs) v
 |gaL {id n k js cs b cap vs e} (hj:∀x,x∈AV.idsL cs->x∈js) (hT:T id=some (n,k)) (hl:G.loc id=[b]) (hF:G.F b=0) (hb:w.heap[b]?=some (.cells vs e (0,0))) (hck:cap*k<=vs.size) (hn:n<=cap) (hcs:cs.length=n*k)
   (hr:∀i (hi:i<cs.length) (hv:i<vs.size),RelA G T w cs[i] vs[i]):RelA G T w (.ga id n js cs) (.slice (some ⟨b,0,none⟩) n cap)
 |gpD {id n off len js cs v} (hv:∃a,v = .pointer (some a)) (hT:∀m k,T id=some (m,k)->n<m):RelA G T w (.gp id n off len js cs) v
 |gpL {id n k off len js cs b vs e} (hj:∀x,x∈AV.idsL cs->x∈js) (hT:T id=some (n,k)) (hl:(G.loc id).head?=some b) (hF:G.F b=0) (hb:w.heap[b]?=some (.cells vs e (0,0))) (hs:off+len<=vs.size)
   (hr:∀i (hi:i<cs.length) (hv:off+i<vs.size),RelA G T w cs[i] vs[off+i]):RelA G T w (.gp id n off len js cs) (.pointer (some ⟨b,off,none⟩))
 |gh {id xs v} (hv:∃a cap,v = .slice a (xs.length+1) cap) (h:∀m k,T id=some (m,k)->(m=zaH xs.length\/m=zaH xs.length+1)->Hole G w id k v xs):RelA G T w (.gh id xs) v
 |ght {id xs v} (hv:∃a cap,v = .slice a (xs.length+1) cap) (h:∀m k,T id=some (m,k)->(m=zaH xs.length\/m=zaH xs.length+1)->HoleT G w id k v xs):RelA G T w (.ght id xs) v
 |mapr {id b} (h:(G.loc id).head?=some b) (hT:T id=none):RelA G T w (.mapr id) (.map (some b))
 |fn {f caps vs} (hn:vs.size=caps.length) (h:∀i (hi:i<caps.length) (hv:i<vs.size),RelA G T w caps[i] vs[i]):RelA G T w (.fn f caps) (.func (.func f) #[] vs)
 |agg {cs vs} (hn:vs.size=cs.length) (h:∀i (hi:i<cs.length) (hv:i<vs.size),RelA G T w cs[i] vs[i]):RelA G T w (.agg cs) (.agg vs)
 |tup {cs vs} (hn:vs.size=cs.length) (h:∀i (hi:i<cs.length) (hv:i<vs.size),RelA G T w cs[i] vs[i]):RelA G T w (.tup cs) (.tuple vs)
 |nils:RelA G T w .nils (.slice none 0 0)
 |sn {xs v} (h:RelD G.F w (.sl xs) v) (hn:∃a n c,v = .slice (some a) n c):RelA G T w (.sn xs) v
 |any (v):RelA G T w .any v
theorem ov{p:Prop}(h:p:=by simp[AV.ids]):p:=h
theorem RelA.mono {G G':Gh}{T T':TokF}{w w':World}{x:AV}{v:Value} (h:RelA G T w x v)
  (hF:∀b o,o<G.F b->o<G'.F b/\w'.cell? ⟨b,o,none⟩=w.cell? ⟨b,o,none⟩)
  (hloc:∀id,id∈x.ids->LocEq T' G' G id)
  (htok:∀id,id∈x.ids->∀p,T' id=some p->T id=some p/\∀b,b∈G.loc id->w'.heap[b]?=w.heap[b]?/\G'.F b=G.F b):
  RelA G' T' w' x v:=by
 have hnone:∀id,id∈x.ids->T id=none->T' id=none:=fun id hm h0=>by
  cases hT:T' id with
  |none=>rfl
  |some p=>rw[(htok id hm p hT).1] at h0;cases h0
 induction h with
 |d h=>exact .d (h.mono hF)
 | @gl id xs v h ht=>
  refine .gl (h.mono hF) (fun n k hT=>?_);obtain⟨hT0,hb⟩:=htok id ov _ hT;have hl:=(hloc id ov).full hT;refine⟨(ht n k hT0).1,fun hn=>?_⟩;obtain⟨hkx,ht⟩:=(ht n k hT0).2 hn;refine⟨hkx, ?_⟩;rcases ht with ⟨h1,h2,h3⟩|⟨b,cap,cs,e,h1,h2,h3,h4,h5,h6⟩
  ·exact .inl ⟨hl.trans h1,h2,h3⟩
  ·obtain⟨hb1,hb2⟩:=hb b (by simp[h1]);exact .inr ⟨b,cap,cs,e,hl.trans h1,h2,hb2.trans h3,hb1.trans h4,h5,h6⟩
 | @gv id xs v hv ht=>
  refine .gv hv (fun n k hT=>?_);obtain⟨hT0,hb⟩:=htok id ov _ hT;have hl:=(hloc id ov).full hT;refine⟨(ht n k hT0).1,fun hn=>?_⟩;obtain⟨hkx,ht⟩:=(ht n k hT0).2 hn;refine⟨hkx, ?_⟩;rcases ht with ⟨h1,h2,h3⟩|⟨b,cap,cs,e,h1,h2,h3,h4,h5,h6,h7⟩
  ·exact .inl ⟨hl.trans h1,h2,h3⟩
  ·obtain⟨hb1,hb2⟩:=hb b (by simp[h1]);exact .inr ⟨b,cap,cs,e,hl.trans h1,h2,hb2.trans h3,hb1.trans h4,h5,h6,fun i hi j hj=>(h7 i hi j hj).mono hF⟩
 | @gt id xs v hv ht=>
  refine .gt hv (fun n k hT=>?_);obtain⟨hT0,hb⟩:=htok id ov _ hT;have hl:=(hloc id ov).full hT;refine⟨(ht n k hT0).1,fun hn=>?_⟩;obtain⟨hkx,ht⟩:=(ht n k hT0).2 hn;exact⟨hkx,ht.mono hn hkx hl hb⟩
 |ref h hT=>exact .ref ((hloc _ ov).head.trans h) (hnone _ ov hT)
 |ms h hT hcap=>exact .ms ((hloc _ ov).head.trans h) (hnone _ ov hT) hcap
 |mo h hT hcap ho=>exact .mo ((hloc _ ov).head.trans h) (hnone _ ov hT) hcap ho
 |mc h hT hcap=>exact .mc ((hloc _ ov).head.trans h) (hnone _ ov hT) hcap
 | @gaD id n js cs v hv hT=>exact .gaD hv (fun m k hT'=>hT m k (htok id ov _ hT').1)
 | @gaL id n k js cs b cap vs e hj hT hl hF0 hb hck hn hcs hr ih=>
  cases hT':T' id with
  |none=>exact .gaD ⟨_,_,I⟩ (fun m k h=>by rw[hT'] at h;cases h)
  |some p=>
   obtain⟨hT0,hbb⟩:=htok id ov _ hT';rw[hT] at hT0;cases hT0
   obtain⟨q1,q2⟩:=hbb b (by simp[hl]);exact .gaL hj hT' (((hloc id ov).full hT').trans hl) (q2.trans hF0) (q1.trans hb) hck hn hcs
    (fun i hi hv=>ih i hi hv (fun id hm=>hloc id (by simp only[AV.ids];exact List.mem_cons_of_mem _ (hj _ (xay (xao hi) hm))))
     (fun id hm=>htok id (by simp only[AV.ids];exact List.mem_cons_of_mem _ (hj _ (xay (xao hi) hm))))
     (fun id hm=>hnone id (by simp only[AV.ids];exact List.mem_cons_of_mem _ (hj _ (xay (xao hi) hm)))))
 | @gpD id n off len js cs v hv hT=>exact .gpD hv (fun m k hT'=>hT m k (htok id ov _ hT').1)
 | @gpL id n k off len js cs b vs e hj hT hl hF0 hb hs hr ih=>
  cases hT':T' id with
  |none=>exact .gpD ⟨_,I⟩ (fun m k h=>by rw[hT'] at h;cases h)
  |some p=>
   obtain⟨hT0,hbb⟩:=htok id ov _ hT';rw[hT] at hT0;cases hT0
   have hbm:b∈G.loc id:=by
    cases hq:G.loc id with
    |nil=>rw[hq] at hl;cases hl
    |cons x r=>rw[hq] at hl;cases hl;simp
   obtain⟨q1,q2⟩:=hbb b hbm;exact .gpL hj hT' (by rw[(hloc id ov).full hT'];exact hl) (q2.trans hF0) (q1.trans hb) hs
    (fun i hi hv=>ih i hi hv (fun id hm=>hloc id (by simp only[AV.ids];exact List.mem_cons_of_mem _ (hj _ (xay (xao hi) hm))))
     (fun id hm=>htok id (by simp only[AV.ids];exact List.mem_cons_of_mem _ (hj _ (xay (xao hi) hm))))
     (fun id hm=>hnone id (by simp only[AV.ids];exact List.mem_cons_of_mem _ (hj _ (xay (xao hi) hm)))))
 | @ght id xs v hv h=>
  refine .ght hv (fun m k hT he=>?_);obtain⟨hT0,hb⟩:=htok id ov _ hT;exact(h m k hT0 he).mono ((hloc id ov).full hT) hb
 | @gh id xs v hv h=>
  refine .gh hv (fun m k hT he=>?_);obtain⟨hT0,hb⟩:=htok id ov _ hT;exact(h m k hT0 he).mono hF ((hloc id ov).full hT) hb
 |mapr h hT=>exact .mapr ((hloc _ ov).head.trans h) (hnone _ ov hT)
 | @fn f caps vs hn h ih=>
  exact .fn hn (fun i hi hv=>ih i hi hv (fun id hm=>hloc id (by simp only[AV.ids];exact xay (xao hi) hm))
   (fun id hm=>htok id (by simp only[AV.ids];exact xay (xao hi) hm))
   (fun id hm=>hnone id (by simp only[AV.ids];exact xay (xao hi) hm)))
 | @agg caps vs hn h ih=>
  exact .agg hn (fun i hi hv=>ih i hi hv (fun id hm=>hloc id (by simp only[AV.ids];exact xay (xao hi) hm))
   (fun id hm=>htok id (by simp only[AV.ids];exact xay (xao hi) hm))
   (fun id hm=>hnone id (by simp only[AV.ids];exact xay (xao hi) hm)))
 | @tup caps vs hn h ih=>
  exact .tup hn (fun i hi hv=>ih i hi hv (fun id hm=>hloc id (by simp only[AV.ids];exact xay (xao hi) hm))
   (fun id hm=>htok id (by simp only[AV.ids];exact xay (xao hi) hm))
   (fun id hm=>hnone id (by simp only[AV.ids];exact xay (xao hi) hm)))
 |nils=>exact .nils
 |sn h hn=>exact .sn (h.mono hF) hn
 |any v=>exact .any v
mutual
inductive LeA:AV->AV->Prop
 |refl (v):LeA v v
 |any (v):LeA v .any
 |nil:LeA .nils (.d (.sl []))
 |sn (xs):LeA (.sn xs) (.d (.sl xs))
 |gl (id xs):LeA (.gl id xs) (.d (.sl xs))
 |agg {cs ds} (h:LeL cs ds):LeA (.agg cs) (.agg ds)
 |tup {cs ds} (h:LeL cs ds):LeA (.tup cs) (.tup ds)
inductive LeL:List AV->List AV->Prop
 |nil:LeL [] []
 |cons {x y l m} (h:LeA x y) (t:LeL l m):LeL (x::l) (y::m)
end
theorem LeL.len:∀ {cs ds:List AV},LeL cs ds->cs.length=ds.length
 | [],_,h=>by cases h;rfl
 |x::r,_,h=>by cases h with|cons h t=>simp[t.len]
theorem RelA.le {G:Gh}{T:TokF}{w:World}{x:AV}{v:Value} (h:RelA G T w x v):∀ {y:AV},LeA x y->RelA G T w y v:=by
 induction h with
 |d h=>intro y hy;cases hy with|refl=>exact .d h|any=>exact .any _
 |gl h ht=>intro y hy;cases hy with|refl=>exact .gl h ht|any=>exact .any _|gl=>exact .d h
 |gv hv ht=>intro y hy;cases hy with|refl=>exact .gv hv ht|any=>exact .any _
 |gt hv ht=>intro y hy;cases hy with|refl=>exact .gt hv ht|any=>exact .any _
 |ref h hT=>intro y hy;cases hy with|refl=>exact .ref h hT|any=>exact .any _
 |ms h hT hc=>intro y hy;cases hy with|refl=>exact .ms h hT hc|any=>exact .any _
 |mo h hT hc ho=>intro y hy;cases hy with|refl=>exact .mo h hT hc ho|any=>exact .any _
 |mc h hT hc=>intro y hy;cases hy with|refl=>exact .mc h hT hc|any=>exact .any _
 |gaD hv hT=>intro y hy;cases hy with|refl=>exact .gaD hv hT|any=>exact .any _
 |gpD hv hT=>intro y hy;cases hy with|refl=>exact .gpD hv hT|any=>exact .any _
 |gpL hj hT hl hF hb hs hr ih=>intro y hy;cases hy with|refl=>exact .gpL hj hT hl hF hb hs hr|any=>exact .any _
 |ght hv h=>intro y hy;cases hy with|refl=>exact .ght hv h|any=>exact .any _
 |gh hv h=>intro y hy;cases hy with|refl=>exact .gh hv h|any=>exact .any _
 |gaL hj hT hl hF hb hck hn hcs hr ih=>intro y hy;cases hy with|refl=>exact .gaL hj hT hl hF hb hck hn hcs hr|any=>exact .any _
 |mapr h hT=>intro y hy;cases hy with|refl=>exact .mapr h hT|any=>exact .any _
 |fn hn h ih=>intro y hy;cases hy with|refl=>exact .fn hn h|any=>exact .any _
 | @agg cs vs hn h ih=>
  intro y hy;cases hy with
  |refl=>exact .agg hn h
  |any=>exact .any _
  |agg hl=>
   refine .agg (by rw[hn,hl.len]) (fun i hi hv=>?_);have hc:i<cs.length:=by rw[hl.len];exact hi
   have key:∀ {cs ds:List AV},LeL cs ds->∀i (hc:i<cs.length) (hi:i<ds.length),LeA cs[i] ds[i]:=by
    intro cs;induction cs with
    |nil=>intro ds _ i hc;simp at hc
    |cons x r ihr=>
     intro ds h i hc hi;cases h with
     |cons h t=>
      cases i with
      |zero=>exact h
      |succ i=>exact ihr t i (by simpa using hc) (by simpa using hi)
   exact ih i hc hv (key hl i hc hi)
 | @tup cs vs hn h ih=>
  intro y hy;cases hy with
  |refl=>exact .tup hn h
  |any=>exact .any _
  |tup hl=>
   refine .tup (by rw[hn,hl.len]) (fun i hi hv=>?_);have hc:i<cs.length:=by rw[hl.len];exact hi
   have key:∀ {cs ds:List AV},LeL cs ds->∀i (hc:i<cs.length) (hi:i<ds.length),LeA cs[i] ds[i]:=by
    intro cs;induction cs with
    |nil=>intro ds _ i hc;simp at hc
    |cons x r ihr=>
     intro ds h i hc hi;cases h with
     |cons h t=>
      cases i with
      |zero=>exact h
      |succ i=>exact ihr t i (by simpa using hc) (by simpa using hi)
   exact ih i hc hv (key hl i hc hi)
 |nils=>intro y hy;cases hy with|refl=>exact .nils|any=>exact .any _|nil=>exact .d .nil
 |sn h hn=>intro y hy;cases hy with|refl=>exact .sn h hn|any=>exact .any _|sn=>exact .d h
 |any v=>intro y hy;cases hy with|refl=>exact .any _|any=>exact .any _
inductive Res where
 |box (cs:List AV)
 |tok (n k:Nat)
 |map (ks:List (List UInt8))
 |tree (cs:List AV)
 deriving Inhabited
def Res.ids:Res->List Nat
 | .box cs=>AV.idsL cs
 | .tree cs=>AV.idsL cs
 |_=>[]
abbrev Env:=List (Nat×AV)
abbrev Hp:=List (Nat×Option Res)
def getE:Env->Nat->Option AV
 | [],_=>none
 |(k,v)::r,i=>bif Nat.beq k i then some v else getE r i
def getH:Hp->Nat->Option Res
 | [],_=>none
 |(k,v)::r,i=>bif Nat.beq k i then v else getH r i
structure St where
 env:Env
 hp:Hp
def tokf (hp:Hp):TokF:=fun id=>match getH hp id with
 |some (.tok n k)=>some (n,k)
 |_=>none
theorem zak {hp:Hp}{id n k:Nat}:tokf hp id=some (n,k)↔getH hp id=some (.tok n k):=by
 unfold tokf;split
 ·rename_i h;simp[h]
 ·rename_i h;exact⟨fun h'=>by simp at h',fun h'=>absurd h' (by intro h2;exact h _ _ h2)⟩
def zfa (ks:List (List UInt8)) (es:Array MapEntry):Prop:=
 es.toList.map (fun e=>(e.key,e.val))=ks.map (fun s=>(.string ⟨s.toArray⟩,.bool true))
def CellR (G:Gh) (T:TokF) (w:World):AV->Value->List Nat->Prop
 | .own m y,v,S=>TreeD m w y v S
 |x,v,S=>S=[]/\RelA G T w x v
theorem CellR.map {G G':Gh}{T T':TokF}{w w':World}{x:AV}{v:Value}{S:List Nat} (h:CellR G T w x v S) (hA:RelA G T w x v->RelA G' T' w' x v)
  (hS:∀b,b∈S->w'.heap[b]?=w.heap[b]?):CellR G' T' w' x v S:=by
 cases x with
 |own m y=>exact TreeD.mono h hS
 |_=>exact⟨h.1,hA h.2⟩
structure TreeR (G:Gh) (T:TokF) (w:World) (id:Nat) (cs:List AV) (b:Nat) (vs:Array Value) (e:TypeId) (Ss:Nat->List Nat):Prop where
 loc:G.loc id=b::(List.range cs.length).flatMap Ss
 at_:w.heap[b]?=some (.cells vs e (0,0))
 len:cs.length<=vs.size
 nodup:(G.loc id).Nodup
 mine:∀b',b'∈G.loc id->G.F b'=0/\b'<w.heap.size
 cell:∀i (hi:i<cs.length) (hv:i<vs.size),CellR G T w cs[i] vs[i] (Ss i)
def RelR (G:Gh) (T:TokF) (w:World) (id:Nat):Res->Prop
 | .box cs=>∃b vs e,G.loc id=[b]/\w.heap[b]?=some (.cells vs e (0,0))/\cs.length<=vs.size/\G.F b=0/\
   ∀i (hi:i<cs.length) (hv:i<vs.size),RelA G T w cs[i] vs[i]
 | .tok _ _=>∀b,b∈G.loc id->b<w.heap.size
 | .map ks=>∃b es clock,G.loc id=[b]/\w.heap[b]?=some (.map es clock)/\G.F b=0/\zfa ks es
 | .tree cs=>∃b vs e Ss,TreeR G T w id cs b vs e Ss
theorem zbh {G G':Gh}{T T':TokF}{w w':World}{id:Nat}{cs:List AV} (h:RelR G T w id (.tree cs)) (hl:G'.loc id=G.loc id)
  (hB:∀b,b∈G.loc id->w'.heap[b]?=w.heap[b]?/\G'.F b=G.F b) (hsz:w.heap.size<=w'.heap.size) (hm:∀x,x∈cs->∀v,RelA G T w x v->RelA G' T' w' x v):RelR G' T' w' id (.tree cs):=by
 obtain⟨b,vs,e,Ss,h1,h2,h3,h4,h5,h6⟩:=h;refine⟨b,vs,e,Ss,hl.trans h1,(hB b (by simp[h1])).1.trans h2,h3,by rw[hl];exact h4,fun b' hb'=>?_,fun i hi hv=>(h6 i hi hv).map (hm _ (xao hi) _) (fun b' hb'=>(hB b' ?_).1)⟩
 ·rw[hl] at hb';exact⟨(hB b' hb').2.trans (h5 b' hb').1,Nat.lt_of_lt_of_le (h5 b' hb').2 hsz⟩
 ·rw[h1];exact List.mem_cons_of_mem _ (List.mem_flatMap.2 ⟨i,List.mem_range.2 hi,hb'⟩)
structure Frm (w0:World) (F0:Nat->Nat) (own:List Nat) (w:World) (F:Nat->Nat):Prop where
 os:w.os=w0.os
 tape:w.tape=w0.tape
 output:w.output=w0.output
 size:w0.heap.size<=w.heap.size
 block:∀b,b<w0.heap.size->b∉own->w.heap[b]?=w0.heap[b]?/\F b=F0 b
 cell:∀b o,o<F0 b->o<F b/\w.cell? ⟨b,o,none⟩=w0.cell? ⟨b,o,none⟩
theorem Frm.refl (w:World) (F:Nat->Nat) (own:List Nat):Frm w F own w F:=
 ⟨rfl,rfl,rfl,Nat.le_refl _,fun _ _ _=>⟨rfl,rfl⟩,fun _ _ h=>⟨h,rfl⟩⟩
theorem Frm.trans {w0 w1 w2:World}{F0 F1 F2:Nat->Nat}{own own1:List Nat} (h:Frm w0 F0 own w1 F1) (k:Frm w1 F1 own1 w2 F2)
  (ho:∀b,b∈own1->b∈own\/w0.heap.size<=b):Frm w0 F0 own w2 F2 where
 os:=k.os.trans h.os
 tape:=k.tape.trans h.tape
 output:=k.output.trans h.output
 size:=Nat.le_trans h.size k.size
 block b hb hn:=by
  have h1:=h.block b hb hn;have h2:=k.block b (Nat.lt_of_lt_of_le hb h.size) (fun hm=>by rcases ho b hm with h' | h';exact hn h';omega);exact⟨h2.1.trans h1.1,h2.2.trans h1.2⟩
 cell b o hlt:=by
  have h1:=h.cell b o hlt;have h2:=k.cell b o h1.1;exact⟨h2.1,h2.2.trans h1.2⟩
structure Ctx where
 P:Program
 n:Nat
 w0:World
 F0:Nat->Nat
 own:List Nat
 kept:Nat->Option (List Nat)
structure R (c:Ctx) (G:Gh) (s:St) (a:Act) (w:World):Prop where
 size:a.tmps.size=c.n
 defers:a.defers=[]
 slots:∀i v,getE s.env i=some v->RelA G (tokf s.hp) w v (a.tmps.getD i undef)
 heap:∀id r,getH s.hp id=some r->RelR G (tokf s.hp) w id r
 disj:∀id id',(getH s.hp id).isSome->(getH s.hp id').isSome->id≠id'->∀b,b∈G.loc id->b∉G.loc id'
 new:∀id,(getH s.hp id).isSome->∀b,b∈G.loc id->b∈c.own\/c.w0.heap.size<=b
 frm:Frm c.w0 c.F0 c.own w G.F
 top:∀b,w.heap.size<=b->G.F b=0
 kept:∀id l,c.kept id=some l->(G.loc id).head?=l.head?/\(getH s.hp id).isSome/\tokf s.hp id=none
def Rel (c:Ctx) (s:St) (a:Act) (w:World):Prop:=∃G,R c G s a w
def zcx (id:Nat) (s:St):Prop:=
 (∀i v,getE s.env i=some v->id∉v.ids)/\(∀j r,getH s.hp j=some r->id∉r.ids)
theorem zmt:∀ {l:Env}{i:Nat}{v:AV},getE l i=some v->(i,v)∈l
 |(k,x)::r,i,v,h=>by
  simp only[getE] at h;cases hb:Nat.beq k i with
  |true=>
   simp only[hb,cond_true,xae] at h;have:k=i:=xap hb;simp[h,this]
  |false=>
   simp only[hb,cond_false] at h;exact List.mem_cons_of_mem _ (zmt h)
theorem zch:∀ {l:Hp}{i:Nat}{v:Res},getH l i=some v->(i,some v)∈l
 |(k,x)::r,i,v,h=>by
  simp only[getH] at h;cases hb:Nat.beq k i with
  |true=>
   simp only[hb,cond_true] at h;have:k=i:=xap hb;simp[h,this]
  |false=>
   simp only[hb,cond_false] at h;exact List.mem_cons_of_mem _ (zch h)
def zaG (n:Nat):List Nat->Bool
 | []=>false
 |x::r=>bif Nat.beq x n then true else zaG n r
theorem zaw {n:Nat}:∀ {l:List Nat},zaG n l=true↔n∈l
 | []=>by simp[zaG]
 |x::r=>by
  simp only[zaG,List.mem_cons];cases hb:Nat.beq x n with
  |true=>simp[xap hb]
  |false=>
   simp only[cond_false,zaw];exact⟨.inr,fun h=>h.resolve_left (fun h'=>by subst h';simp at hb)⟩
def occE (id:Nat):Env->Bool
 | []=>false
 |(_,v)::r=>bif zaG id v.ids then true else occE id r
def occH (id:Nat):Hp->Bool
 | []=>false
 |(_,some v)::r=>bif zaG id v.ids then true else occH id r
 |(_,none)::r=>occH id r
theorem zjK {id:Nat}:∀ {l:Env},occE id l=false->∀p,p∈l->id∉p.2.ids
 |(k,v)::r,h,p,hp=>by
  simp only[occE] at h;cases hb:zaG id v.ids with
  |true=>simp[hb] at h
  |false=>
   simp only[hb,cond_false] at h;rcases List.mem_cons.1 hp with rfl|hp
   ·intro hm;rw[zaw.2 hm] at hb;cases hb
   ·exact zjK h p hp
theorem zfb {id:Nat}:∀ {l:Hp},occH id l=false->∀j r,(j,some r)∈l->id∉r.ids
 |(k,some v)::t,h,j,r,hp=>by
  simp only[occH] at h;cases hb:zaG id v.ids with
  |true=>simp[hb] at h
  |false=>
   simp only[hb,cond_false] at h;rcases List.mem_cons.1 hp with hp|hp
   ·cases hp;intro hm;rw[zaw.2 hm] at hb;cases hb
   ·exact zfb h j r hp
 |(k,none)::t,h,j,r,hp=>by
  simp only[occH] at h;rcases List.mem_cons.1 hp with hp|hp
  ·cases hp
  ·exact zfb h j r hp
theorem ziX {id:Nat}{s:St} (h1:occE id s.env=false) (h2:occH id s.hp=false):zcx id s:=
 ⟨fun _ _ h=>zjK h1 _ (zmt h),fun _ _ h=>zfb h2 _ _ (zch h)⟩
structure Upd where
 sl:Option (Nat×AV)
 hp:Hp
def St.app (s:St) (u:Upd):St:=
 { env:=match u.sl with|some p=>p::s.env|none=>s.env,hp:=u.hp++s.hp }
def wpO (P:Program) (all:Array Oper) (Q:Exit->Act->World->Prop) (o:Oper) (K:Act->World->Prop) (a:Act) (w:World):Prop:=
 if Region.wanted o (yielded all a.tmps) then o.wp P a w K Q else K (a.put o.dst undef) w
def LRule (c:Ctx) (all:Array Oper) (o:Oper) (pre:List (Nat×AV)) (prh:List (Nat×Res)) (cr:List Nat) (u:Upd):Prop:=
 ∀s a w,Rel c s a w->(∀p,p∈pre->getE s.env p.1=some p.2)->(∀p,p∈prh->getH s.hp p.1=some p.2)->
  (∀id,id∈cr->getH s.hp id=none/\zcx id s)->
  ∀(K:Act->World->Prop) (Q:Exit->Act->World->Prop),(∀a' w',Rel c (s.app u) a' w'->K a' w')->wpO c.P all Q o K a w
structure Rec where
 rs:List Nat
 rr:List Nat
 cr:List Nat
 u:Upd
def zam (pre:List (Nat×AV)) (prh:List (Nat×Res)) (cr:List Nat) (u:Upd):Rec:=
 { rs:=pre.map (·.1),rr:=prh.map (·.1),cr:=cr,u:=u }
def Walk (c:Ctx) (all:Array Oper) (chk:List Rec->Prop):List Oper->List Rec->St->(St->Prop)->Prop
 | [],recs,s,Q=>chk recs/\Q s
 |o::os,recs,s,Q=>∃pre prh cr u,LRule c all o pre prh cr u/\(∀p,p∈pre->getE s.env p.1=some p.2)/\
   (∀p,p∈prh->getH s.hp p.1=some p.2)/\(∀id,id∈cr->getH s.hp id=none/\zcx id s)/\
   Walk c all chk os (zam pre prh cr u::recs) (s.app u) Q
structure Kt where
 n:St->Prop
 ex:Nat->St->Prop
 rt:St->Prop
def Kt.post (c:Ctx) (K:Kt):Exit->Act->World->Prop
 | .normal,a,w=>∃s,Rel c s a w/\K.n s
 | .exit id,a,w=>∃s,Rel c s a w/\K.ex id s
 | .ret,a,w=>∃s,Rel c s a w/\K.rt s
 |_,_,_=>False
def CWp (c:Ctx) (code:Code) (s:St) (K:Kt):Prop:=∀a w,Rel c s a w->code.wp c.P (K.post c) a w
def Kt.with (K:Kt) (n:St->Prop):Kt:={ n:=n,ex:=K.ex,rt:=K.rt }
def Kt.blk (K:Kt) (id:Nat):Kt:={ n:=K.n,ex:=fun i s=>bif Nat.beq i id then K.n s else K.ex i s,rt:=K.rt }
section
variable {c:Ctx}{s:St}{K:Kt}
theorem CWp.skip (h:K.n s):CWp c .skip s K:=fun _ _ hr=>wp_skip ⟨s,hr,h⟩
theorem CWp.exit {id:Nat} (h:K.ex id s):CWp c (.exit id) s K:=fun _ _ hr=>wp_exit ⟨s,hr,h⟩
theorem CWp.ret (h:K.rt s):CWp c .ret s K:=fun _ _ hr=>wp_ret ⟨s,hr,h⟩
theorem CWp.label {l:Nat} (h:K.n s):CWp c (.label l) s K:=fun _ _ hr=>wp_label ⟨s,hr,h⟩
theorem CWp.seq {x y:Code} (h:CWp c x s (K.with fun s'=>CWp c y s' K)):CWp c (.seq x y) s K:=by
 intro a w hr;refine wp_seq (wp_mono (h a w hr) ?_);intro e a' w' hq;cases e with
 |normal=>
  obtain⟨s',hr',hn⟩:=hq;exact hn a' w' hr'
 |exit id=>exact hq
 |ret=>exact hq
 |goto l=>exact hq.elim
 |panic ch=>exact hq.elim
 |outgrown=>exact hq.elim
theorem CWp.block {id:Nat}{x:Code} (h:CWp c x s (K.blk id)):CWp c (.block id x) s K:=by
 intro a w hr;refine wp_block (wp_mono (h a w hr) ?_);intro e a' w' hq;cases e with
 |normal=>exact hq
 |exit i=>
  obtain⟨s',hr',hn⟩:=hq;simp only[Exit.inBlock];by_cases hi:i=id
  ·subst hi;simp only[Kt.blk,Nat.beq_refl,cond_true] at hn;rw[if_pos rfl];exact⟨s',hr',hn⟩
  ·have hb:Nat.beq i id=false:=by
    cases hbb:Nat.beq i id with
    |true=>exact absurd (xap hbb) hi
    |false=>rfl
   simp only[Kt.blk,hb,cond_false] at hn;rw[if_neg hi];exact⟨s',hr',hn⟩
 |ret=>exact hq
 |goto l=>exact hq.elim
 |panic ch=>exact hq.elim
 |outgrown=>exact hq.elim
theorem Rel.slot {i:Nat}{v:AV}{a:Act}{w:World} (hr:Rel c s a w) (h:getE s.env i=some v):∃G,RelA G (tokf s.hp) w v (a.tmps.getD i undef):=
 let ⟨G,hg⟩:=hr
 ⟨G,hg.slots i v h⟩
theorem CWp.cond {t:Nat}{b:Bool}{x y:Code} (hc:getE s.env t=some (.d (.bool b))) (ht:b=true->CWp c x s K) (hf:b=false->CWp c y s K):
  CWp c (.cond (.tmp t) x y) s K:=by
 intro a w hr;obtain⟨G,hv⟩:=hr.slot hc;have he:a.eval (.tmp t) = .bool b:=by
  show a.tmps.getD t undef=_
  generalize a.tmps.getD t undef=v at *;cases hv with
  |d h=>cases h;rfl
 exact wp_cond_split he (fun h=>ht h a w hr) (fun h=>hf h a w hr)
structure Sub (s' s:St):Prop where
 env:∀i v,getE s'.env i=some v->v = .any\/∃u,getE s.env i=some u/\LeA u v
 hp:∀i r,getH s'.hp i=some r->getH s.hp i=some r
theorem Rel.sub {s':St}{a:Act}{w:World} (hr:Rel c s a w) (h:Sub s' s) (hk:∀id l,c.kept id=some l->(getH s'.hp id).isSome):Rel c s' a w:=by
 obtain⟨G,hg⟩:=hr;have hTs:∀id p,tokf s'.hp id=some p->tokf s.hp id=some p:=by
  rintro id ⟨n,k⟩ hp
  exact zak.2 (h.hp _ _ (zak.1 hp))
 have hm:∀ {x:AV}{v:Value},RelA G (tokf s.hp) w x v->RelA G (tokf s'.hp) w x v:=fun hx=>
  hx.mono (fun _ _ ho=>⟨ho,rfl⟩) (fun _ _=> .inl rfl) (fun id _ p hp=>⟨hTs id p hp,fun _ _=>⟨rfl,rfl⟩⟩)
 have hsome:∀id,(getH s'.hp id).isSome->(getH s.hp id).isSome:=fun id hi=>by
  obtain⟨r,hr⟩:=Option.isSome_iff_exists.1 hi;rw[h.hp _ _ hr];rfl
 refine⟨G,hg.size,hg.defers,fun i v hi=>by
  rcases h.env i v hi with rfl|⟨u,h1,h2⟩
  ·exact .any _
  ·exact hm ((hg.slots i u h1).le h2),fun id r hi=>?_,fun id id' h1 h2=>hg.disj id id' (hsome _ h1) (hsome _ h2),
  fun id h1=>hg.new id (hsome _ h1),hg.frm,hg.top,fun id l hl=>⟨(hg.kept id l hl).1,hk id l hl,by
   cases hT:tokf s'.hp id with
   |none=>rfl
   |some p=>exact absurd (hg.kept id l hl).2.2 (by rw[hTs id p hT];simp)⟩⟩
 have:=hg.heap id r (h.hp _ _ hi);cases r with
 |box cs=>
  obtain⟨b,vs,e,h1,h2,h3,h4,h5⟩:=this;exact⟨b,vs,e,h1,h2,h3,h4,fun i hi hv=>hm (h5 i hi hv)⟩
 |tok n k=>exact this
 |map ks=>exact this
 |tree cs=>exact zbh this I (fun _ _=>⟨I,I⟩) (Nat.le_refl _) (fun _ _ _=>hm)
theorem CWp.weak {s':St}{code:Code} (h:Sub s' s) (hk:∀id l,c.kept id=some l->(getH s'.hp id).isSome) (hh:CWp c code s' K):CWp c code s K:=
 fun a w hr=>hh a w (hr.sub h hk)
theorem CWp.loop {ι:Type}{body:Code} (S:ι->St) (good:ι->Prop) (μ:ι->Nat) (x0:ι) (h0:good x0) (hs:Sub (S x0) s)
  (hk:∀x id l,c.kept id=some l->(getH (S x).hp id).isSome)
  (hround:∀x,good x->CWp c body (S x) (K.with fun s'=>∃x',good x'/\μ x'<μ x/\Sub (S x') s')):CWp c (.loop body) s K:=by
 intro a w hr;have key:∀n,∀a w x,good x->Rel c (S x) a w->μ x=n->∀b k cs,
   ∃e a' w',K.post c e a' w'/\Arrives c.P (lone (b.at a (.code body:: .inLoop body::k)) cs w) b k cs e a' w':=by
  intro n;induction n using Nat.strongRecOn with
  |_ n ih=>
   intro a w x hx hr hn b k cs;obtain⟨e,a1,w1,hq,harr⟩:=hround x hx a w hr b (.inLoop body::k) cs;cases e with
   |normal=>
    obtain⟨s',hr',x',hx',hlt,hs'⟩:=hq;obtain⟨e2,a2,w2,hq2,harr2⟩:=ih (μ x') (hn ▸ hlt) a1 w1 x' hx' (hr'.sub hs' (hk x')) rfl b k cs;exact⟨e2,a2,w2,hq2,.of_steps (Steps.trans harr (.one step_inLoop)) harr2⟩
   |exit id=>exact⟨.exit id,a1,w1,hq,.pass (x:= .inLoop body) rfl (fun _ _=> .inl og) harr⟩
   |goto l=>exact hq.elim
   |ret=>exact⟨.ret,a1,w1,hq,.pass (x:= .inLoop body) rfl (fun _ _=> .inl og) harr⟩
   |panic ch=>exact hq.elim
   |outgrown=>exact hq.elim
 intro b k cs;obtain⟨e,a',w',hq,harr⟩:=key _ a w x0 h0 (hr.sub hs (hk x0)) rfl b k cs;exact⟨e,a',w',hq,.of_steps (.one step_loop) harr⟩
theorem zi6 {all:Array Oper}{Q:St->Prop}{Q':Exit->Act->World->Prop} (hQ:∀s a w,Rel c s a w->Q s->Q' .normal a w):
  ∀(l:List Nat) (os:List Oper) (recs:List Rec) (s:St) (a:Act) (w:World),l.filterMap (all[·]?)=os->(∀i,i∈l->i<all.size)->
   Walk c all (fun _=>True) os recs s Q->Rel c s a w->wpOps c.P all Q' l a w
 | [],os,recs,s,a,w,hl,_,hw,hr=>by
  simp only[List.filterMap_nil] at hl;subst hl;exact hQ s a w hr hw.2
 |i::l,os,recs,s,a,w,hl,hlt,hw,hr=>by
  have hi:i<all.size:=hlt i og;have ho:all[i]?=some all[i]:=by simp[hi]
  rw[List.filterMap_cons] at hl;simp only[ho] at hl;subst hl;obtain⟨pre,prh,cr,u,hrule,h1,h2,h3,hrest⟩:=hw;rw[wpOps_cons];unfold wpOp;simp only[ho];have:=hrule s a w hr h1 h2 h3 (wpOps c.P all Q' l) Q' (fun a' w' hr'=>
   zi6 hQ l _ _ _ a' w' rfl (fun j hj=>hlt j (by simp[hj])) hrest hr')
  unfold wpO at this;split
  ·rename_i hw;simp only[hw,if_true] at this;exact .inl this
  ·rename_i hw;simp only[hw] at this;exact this
theorem CWp.region {id:Nat}{all:Array Oper}{os:List Oper} (hos:all.toList=os) (h:Walk c all (fun _=>True) os [] s K.n):CWp c (.region id all false) s K:=by
 intro a w hr;refine wp_region (zi6 (Q:=K.n) (fun s a w hr hq=>⟨s,hr,hq⟩) (List.range all.size) os [] s a w ?_ (fun i hi=>by simpa using hi) h hr);subst hos;have:(List.range all.size).filterMap (all[·]?)=all.toList:=by
  have h1:(List.range all.size).filterMap (all[·]?)=(List.range all.toList.length).filterMap (all.toList[·]?):=by simp
  rw[h1];generalize all.toList=l;induction l with
  |nil=>rfl
  |cons x l ih=>
   rw[xab,List.range_succ_eq_map,List.filterMap_cons];simp only[List.getElem?_cons_zero,List.filterMap_map];exact xam (List.cons x) ih
 exact this
end
structure PR where
 pre:List (Nat×AV)
 prh:List (Nat×Res)
 cr:List Nat
 u:Upd
def PR.rcd (p:PR):Rec:=zam p.pre p.prh p.cr p.u
def fs (sel:Nat->Bool):Nat->List PR->St->St
 |_,[],s=>s
 |i,p::r,s=>fs sel (i+1) r (if sel i then s.app p.u else s)
structure OpFacts (c:Ctx) (all:Array Oper) (o:Oper) (p:PR) (s:St):Prop where
 rule:LRule c all o p.pre p.prh p.cr p.u
 pre:∀q,q∈p.pre->getE s.env q.1=some q.2
 prh:∀q,q∈p.prh->getH s.hp q.1=some q.2
 cr:∀id,id∈p.cr->getH s.hp id=none/\zcx id s
theorem zlx {c:Ctx}{all:Array Oper}{chk:List Rec->Prop}{Q:St->Prop}:∀(os:List Oper) (recs:List Rec) (s:St),Walk c all chk os recs s Q->
  ∃ps:List PR,ps.length=os.length/\chk ((ps.map PR.rcd).reverse++recs)/\Q (fs (fun _=>true) 0 ps s)/\
   ∀i o p,os[i]?=some o->ps[i]?=some p->OpFacts c all o p (fs (fun j=>decide (j<i)) 0 ps s)
 | [],recs,s,h=>⟨[],rfl,by simpa using h.1,h.2,fun i o p h1 _=>by simp at h1⟩
 |o::os,recs,s,h=>by
  obtain⟨pre,prh,cr,u,hrule,h1,h2,h3,hrest⟩:=h;obtain⟨ps,hl,hc,hq,hf⟩:=zlx os _ _ hrest;have sh:∀(sel:Nat->Bool) (i:Nat) (ps:List PR) (s:St),fs sel (i+1) ps s=fs (fun j=>sel (j+1)) i ps s:=by
   intro sel i ps;induction ps generalizing i with
   |nil=>intro s;rfl
   |cons p r ih=>intro s;simp only[fs];exact ih _ _
  refine⟨⟨pre,prh,cr,u⟩::ps,by simp[hl], ?_, ?_, ?_⟩
  ·simpa [PR.rcd] using hc
  ·simp only[fs,if_true];rw[sh];exact hq
  ·intro i o' p' ho hp;cases i with
   |zero=>
    simp only[List.getElem?_cons_zero,xae] at ho hp;subst ho hp;have hz:∀(i:Nat) (ps:List PR) (s:St),fs (fun j=>decide (j<0)) i ps s=s:=by
     intro i ps;induction ps generalizing i with
     |nil=>intro s;rfl
     |cons p r ih=>intro s;simp only[fs];rw[ih];simp
    rw[hz];exact⟨hrule,h1,h2,h3⟩
   |succ i=>
    simp only[List.getElem?_cons_succ] at ho hp;have:=hf i o' p' ho hp;simp only[fs,Nat.zero_lt_succ,decide_true,if_true];rw[sh];simpa using this
def Upd.wE (u:Upd) (k:Nat):Bool:=match u.sl with|some p=>Nat.beq p.1 k|none=>false
def Upd.wH (u:Upd) (k:Nat):Bool:=zaG k (u.hp.map (·.1))
theorem zey (s:St) (u:Upd) (k:Nat):getE (s.app u).env k=if u.wE k then u.sl.map (·.2) else getE s.env k:=by
 unfold St.app Upd.wE;cases h:u.sl with
 |none=>simp
 |some p=>
  obtain⟨i,v⟩:=p;simp only[getE];by_cases hb:Nat.beq i k=true
  ·simp[hb]
  ·simp[hb]
theorem zbi (l l':Hp) (k:Nat):getH (l++l') k=if zaG k (l.map (·.1)) then getH l k else getH l' k:=by
 induction l with
 |nil=>simp[zaG]
 |cons x r ih=>
  obtain⟨i,v⟩:=x;simp only[xai,getH,xaf,zaG,ih];cases Nat.beq i k<;>simp
theorem zez (s:St) (u:Upd) (k:Nat):getH (s.app u).hp k=if u.wH k then getH u.hp k else getH s.hp k:=zbi _ _ _
theorem fs_E {sel sel':Nat->Bool}{k:Nat}:∀(ps:List PR) (i:Nat) (s s':St),(∀j p,ps[j]?=some p->p.u.wE k=true->sel (i+j)=sel' (i+j))->
  getE s.env k=getE s'.env k->getE (fs sel i ps s).env k=getE (fs sel' i ps s').env k
 | [],_,_,_,_,h=>h
 |p::r,i,s,s',hw,h=>by
  simp only[fs];apply fs_E r (i+1) _ _ (fun j q hq hk=>by have:=hw (j+1) q (by simpa using hq) hk;rw[show i+1+j=i+(j+1) by omega];exact this);by_cases hk:p.u.wE k=true
  ·have:=hw 0 p og hk;simp only[Nat.add_zero] at this;rw[this];cases sel' i
   ·simpa using h
   ·simp[zey,hk]
  ·have h1:∀t:St,getE (t.app p.u).env k=getE t.env k:=fun t=>by rw[zey,if_neg hk]
   cases sel i<;>cases sel' i<;>simp[h1,h]
theorem fs_H {sel sel':Nat->Bool}{k:Nat}:∀(ps:List PR) (i:Nat) (s s':St),(∀j p,ps[j]?=some p->p.u.wH k=true->sel (i+j)=sel' (i+j))->
  getH s.hp k=getH s'.hp k->getH (fs sel i ps s).hp k=getH (fs sel' i ps s').hp k
 | [],_,_,_,_,h=>h
 |p::r,i,s,s',hw,h=>by
  simp only[fs];apply fs_H r (i+1) _ _ (fun j q hq hk=>by have:=hw (j+1) q (by simpa using hq) hk;rw[show i+1+j=i+(j+1) by omega];exact this);by_cases hk:p.u.wH k=true
  ·have:=hw 0 p og hk;simp only[Nat.add_zero] at this;rw[this];cases sel' i
   ·simpa using h
   ·simp[zez,hk]
  ·have h1:∀t:St,getH (t.app p.u).hp k=getH t.hp k:=fun t=>by rw[zez,if_neg hk]
   cases sel i<;>cases sel' i<;>simp[h1,h]
theorem zpe {sel:Nat->Bool}{k i:Nat}{p:PR}:∀(ps:List PR) (b:Nat) (s:St),ps[i]?=some p->p.u.wE k=true->sel (b+i)=true->
  (∀j q,i<j->ps[j]?=some q->sel (b+j)=true->q.u.wE k=false)->getE (fs sel b ps s).env k=p.u.sl.map (·.2):=by
 induction i with
 |zero=>
  intro ps b s hp hk hs hj;cases ps with
  |nil=>simp at hp
  |cons q r=>
   simp only[List.getElem?_cons_zero,xae] at hp;subst hp;simp only[fs];simp only[Nat.add_zero] at hs;rw[hs,if_pos rfl];have:getE (fs sel (b+1) r (s.app q.u)).env k=getE (fs (fun _=>false) (b+1) r (s.app q.u)).env k:=by
    apply fs_E _ _ _ _ _ rfl;intro j q' hq' hk';cases hsj:sel (b+1+j) with
    |false=>rfl
    |true=>
     have:=hj (j+1) q' od (by simpa using hq') (by rw[show b+(j+1)=b+1+j by omega];exact hsj);rw[this] at hk';cases hk'
   rw[this];have hz:∀(ps:List PR) (i:Nat) (s:St),fs (fun _=>false) i ps s=s:=by
    intro ps;induction ps with
    |nil=>intros;rfl
    |cons p r ih=>intro i s;simp only[fs];rw[ih];rfl
   rw[hz,zey,if_pos hk]
 |succ i ih=>
  intro ps b s hp hk hs hj;cases ps with
  |nil=>simp at hp
  |cons q r=>
   simp only[fs];apply ih r (b+1) _ (by simpa using hp) hk (by rw[show b+1+i=b+(i+1) by omega];exact hs);intro j q' hlt hq' hs';exact hj (j+1) q' od (by simpa using hq') (by rw[show b+(j+1)=b+1+j by omega];exact hs')
theorem zpf {sel:Nat->Bool}{k i:Nat}{p:PR}:∀(ps:List PR) (b:Nat) (s:St),ps[i]?=some p->p.u.wH k=true->sel (b+i)=true->
  (∀j q,i<j->ps[j]?=some q->sel (b+j)=true->q.u.wH k=false)->getH (fs sel b ps s).hp k=getH p.u.hp k:=by
 induction i with
 |zero=>
  intro ps b s hp hk hs hj;cases ps with
  |nil=>simp at hp
  |cons q r=>
   simp only[List.getElem?_cons_zero,xae] at hp;subst hp;simp only[fs];simp only[Nat.add_zero] at hs;rw[hs,if_pos rfl];have:getH (fs sel (b+1) r (s.app q.u)).hp k=getH (fs (fun _=>false) (b+1) r (s.app q.u)).hp k:=by
    apply fs_H _ _ _ _ _ rfl;intro j q' hq' hk';cases hsj:sel (b+1+j) with
    |false=>rfl
    |true=>
     have:=hj (j+1) q' od (by simpa using hq') (by rw[show b+(j+1)=b+1+j by omega];exact hsj);rw[this] at hk';cases hk'
   rw[this];have hz:∀(ps:List PR) (i:Nat) (s:St),fs (fun _=>false) i ps s=s:=by
    intro ps;induction ps with
    |nil=>intros;rfl
    |cons p r ih=>intro i s;simp only[fs];rw[ih];rfl
   rw[hz,zez,if_pos hk]
 |succ i ih=>
  intro ps b s hp hk hs hj;cases ps with
  |nil=>simp at hp
  |cons q r=>
   simp only[fs];apply ih r (b+1) _ (by simpa using hp) hk (by rw[show b+1+i=b+(i+1) by omega];exact hs);intro j q' hlt hq' hs';exact hj (j+1) q' od (by simpa using hq') (by rw[show b+(j+1)=b+1+j by omega];exact hs')
theorem zk7 {sel:Nat->Bool}{k:Nat}{v:AV}:∀(ps:List PR) (b:Nat) (s:St),getE (fs sel b ps s).env k=some v->
  getE s.env k=some v\/∃j p,ps[j]?=some p/\sel (b+j)=true/\p.u.sl=some (k,v)
 | [],_,_,h=> .inl h
 |p::r,b,s,h=>by
  simp only[fs] at h;rcases zk7 r (b+1) _ h with h|⟨j,q,h1,h2,h3⟩
  ·cases hs:sel b with
   |false=>simp only[hs] at h;exact .inl (by simpa using h)
   |true=>
    simp only[hs,if_true] at h;rw[zey] at h;split at h
    ·rename_i hk;refine .inr ⟨0,p,by simp,by simpa using hs, ?_⟩;unfold Upd.wE at hk;cases hsl:p.u.sl with
     |none=>simp[hsl] at h
     |some q=>
      simp only[hsl] at hk h;have:=xap hk;simp only[Option.map_some,xae] at h;rw[<-this,<-h]
    ·exact .inl h
  ·exact .inr ⟨j+1,q,by simpa using h1,by rw[show b+(j+1)=b+1+j by omega];exact h2,h3⟩
theorem zk8 {sel:Nat->Bool}{k:Nat}{v:Res}:∀(ps:List PR) (b:Nat) (s:St),getH (fs sel b ps s).hp k=some v->
  getH s.hp k=some v\/∃j p,ps[j]?=some p/\sel (b+j)=true/\(k,some v)∈p.u.hp
 | [],_,_,h=> .inl h
 |p::r,b,s,h=>by
  simp only[fs] at h;rcases zk8 r (b+1) _ h with h|⟨j,q,h1,h2,h3⟩
  ·cases hs:sel b with
   |false=>simp only[hs] at h;exact .inl (by simpa using h)
   |true=>
    simp only[hs,if_true] at h;rw[zez] at h;split at h
    ·exact .inr ⟨0,p,by simp,by simpa using hs,zch h⟩
    ·exact .inl h
  ·exact .inr ⟨j+1,q,by simpa using h1,by rw[show b+(j+1)=b+1+j by omega];exact h2,h3⟩
theorem Rel.congr {c:Ctx}{s s':St}{a:Act}{w:World} (hr:Rel c s a w) (he:∀k,getE s'.env k=getE s.env k) (hh:∀k,getH s'.hp k=getH s.hp k):Rel c s' a w:=by
 obtain⟨G,hg⟩:=hr;have ht:tokf s'.hp=tokf s.hp:=by funext id;unfold tokf;rw[hh]
 exact⟨G,hg.size,hg.defers,fun i v h=>by rw[ht];exact hg.slots i v (by rw[<-he];exact h),fun id r h=>by rw[ht];exact hg.heap id r (by rw[<-hh];exact h),
  fun id id' h1 h2=>hg.disj id id' (by rw[<-hh];exact h1) (by rw[<-hh];exact h2),fun id h1=>hg.new id (by rw[<-hh];exact h1),hg.frm,hg.top,
  fun id l hl=>by rw[hh,ht];exact hg.kept id l hl⟩
theorem zk0:∀(l:List Bool) (i:Nat),l[i]?=some false->(l.set i true).count false+1=l.count false
 | [],_,h=>by simp at h
 |x::l,0,h=>by
  simp only[List.getElem?_cons_zero,xae] at h;subst h;simp
 |x::l,i+1,h=>by
  have:=zk0 l i (by simpa using h);simp only[List.set_cons_succ,List.count_cons];omega
def zcb (a b:List Nat):Bool:=a.any (zaG · b)
def Upd.keyE (u:Upd):List Nat:=match u.sl with|some p=>[p.1]|none=>[]
def Upd.keyH (u:Upd):List Nat:=u.hp.map (·.1)
def Upd.idsE (u:Upd):List Nat:=match u.sl with|some p=>p.2.ids|none=>[]
def zig:Hp->List Nat
 | []=>[]
 |(_,some r)::t=>r.ids++zig t
 |(_,none)::t=>zig t
def Upd.idsA (u:Upd):List Nat:=u.idsE++zig u.hp
def zcO (a b:Rec):Bool:=
 zcb a.u.keyE b.rs||zcb a.u.keyE b.u.keyE||zcb b.u.keyE a.rs||
 zcb a.u.keyH b.rr||zcb a.u.keyH b.cr||zcb a.u.keyH b.u.keyH||zcb b.u.keyH a.rr||zcb b.u.keyH a.cr||
 zcb a.cr b.u.idsA
def zdC (o:Oper):List Nat:=(o.after.toList.filter (Region.binds .any)).map (·.on)
def zdg (acc:List (List Nat)) (o:Oper):List Nat:=(zdC o).flatMap fun j=>j::acc.getD j []
def zcQ:List (List Nat)->List Oper->List (List Nat)
 |acc,[]=>acc
 |acc,o::os=>zcQ (acc++[zdg acc o]) os
def zic (ps:List (List Nat)):List (Nat×Rec)->Nat->List Rec->Bool
 |_,_,[]=>true
 |done,j,b::rs=>
  done.all (fun a=> !zcb b.cr a.2.u.idsA&&(!zcO a.2 b||zaG a.1 (ps.getD j [])))&&zic ps (done++[(j,b)]) (j+1) rs
def zfr:Nat->List Oper->Bool
 |_,[]=>true
 |j,o::os=>(zdC o).all (fun i=>Nat.blt i j)&&zfr (j+1) os
def chkB (os:List Oper) (s0:St) (rs:List Rec):Bool:=
 zfr 0 os&&rs.all (fun r=>r.cr.all fun id=> !occE id s0.env&& !occH id s0.hp)&&zic (zcQ [] os) [] 0 rs
theorem zn9 {a b:List Nat}:zcb a b=true↔∃x,x∈a/\x∈b:=by
 simp[zcb,zaw]
theorem zbK {a b:List Nat} (h:zcb a b=false):∀x,x∈a->x∉b:=fun x h1 h2=>by
 rw[zn9.2 ⟨x,h1,h2⟩] at h;cases h
theorem zhT:∀(os:List Oper) (acc:List (List Nat)) (j:Nat),j<acc.length->(zcQ acc os).getD j []=acc.getD j []
 | [],_,_,_=>rfl
 |o::os,acc,j,h=>by
  simp only[zcQ];rw[zhT os _ j oq];simp[List.getD,List.getElem?_append_left h]
theorem zmL:∀(os:List Oper) (acc:List (List Nat)) (j:Nat) (o:Oper),os[j]?=some o->
  (zcQ acc os).getD (acc.length+j) []=zdg ((zcQ acc os).take (acc.length+j)) o
 | [],_,_,_,h=>by simp at h
 |o'::os,acc,0,o,h=>by
  simp only[List.getElem?_cons_zero,xae] at h;subst h;simp only[zcQ,Nat.add_zero];have h1:=zhT os (acc++[zdg acc o']) acc.length og;rw[h1];have h2:(zcQ (acc++[zdg acc o']) os).take acc.length=acc:=by
   apply List.ext_getElem?;intro i;rw[List.getElem?_take];split
   ·rename_i hi;have hlen:∀(os:List Oper) (acc:List (List Nat)),acc.length<=(zcQ acc os).length:=by
     intro os;induction os with
     |nil=>intro acc;exact Nat.le_refl _
     |cons o os ih=>intro acc;simp only[zcQ];have:=ih (acc++[zdg acc o]);simp at this;omega
    have h3:=zhT os (acc++[zdg acc o']) i oq;have h4:i<(zcQ (acc++[zdg acc o']) os).length:=by have:=hlen os (acc++[zdg acc o']);simp at this;omega
    simp only[List.getD,List.getElem?_append_left hi] at h3;rw[xan h4,xan hi] at h3 ⊢;simpa using h3
   ·rename_i hi;rw[List.getElem?_eq_none od]
  rw[h2];simp[List.getD]
 |o'::os,acc,j+1,o,h=>by
  simp only[zcQ];have:=zmL os (acc++[zdg acc o']) j o (by simpa using h);simp only[xaa,xab,xak] at this;rw[show acc.length+(j+1)=acc.length+(0+1)+j by omega];exact this
theorem zhv {ps:List (List Nat)}:∀(rs:List Rec) (done:List (Nat×Rec)) (j:Nat),zic ps done j rs=true->∀i b,rs[i]?=some b->
  (∀a,a∈done->zcb b.cr a.2.u.idsA=false/\(zcO a.2 b=true->a.1∈ps.getD (j+i) []))/\
  (∀i' a,i'<i->rs[i']?=some a->zcb b.cr a.u.idsA=false/\(zcO a b=true->(j+i')∈ps.getD (j+i) []))
 | [],_,_,_,i,b,h=>by simp at h
 |r::rs,done,j,hc,i,b,hb=>by
  simp only[zic,xad] at hc;obtain⟨h1,h2⟩:=hc;have hd:∀a,a∈done->zcb r.cr a.2.u.idsA=false/\(zcO a.2 r=true->a.1∈ps.getD j []):=fun a ha=>by
   have:=List.all_eq_true.1 h1 a ha;simp only[xad,Bool.not_eq_true',Bool.or_eq_true] at this;refine⟨this.1,fun hconf=>?_⟩;rcases this.2 with h|h
   ·rw[hconf] at h;cases h
   ·exact zaw.1 h
  cases i with
  |zero=>
   simp only[List.getElem?_cons_zero,xae] at hb;subst hb;exact⟨by simpa using hd,fun i' a h=>by omega⟩
  |succ i=>
   have:=zhv rs _ (j+1) h2 i b (by simpa using hb);rw[show j+1+i=j+(i+1) by omega] at this;refine⟨fun a ha=>this.1 a (by simp[ha]),fun i' a hlt ha=>?_⟩;cases i' with
   |zero=>
    simp only[List.getElem?_cons_zero,xae] at ha;subst ha;simpa using this.1 (j,r) og
   |succ i'=>
    have h3:=this.2 i' a od (by simpa using ha);rw[show j+1+i'=j+(i'+1) by omega] at h3;exact h3
theorem zeU:∀(os:List Oper) (b:Nat),zfr b os=true->∀j o,os[j]?=some o->∀i,i∈zdC o->i<b+j
 | [],_,_,j,o,h=>by simp at h
 |o'::os,b,hc,j,o,h=>by
  simp only[zfr,xad] at hc;cases j with
  |zero=>
   simp only[List.getElem?_cons_zero,xae] at h;subst h;intro i hi;have:=List.all_eq_true.1 hc.1 i hi;simpa [Nat.blt_eq] using this
  |succ j=>
   intro i hi;have:=zeU os (b+1) hc.2 j o (by simpa using h) i hi;omega
theorem zki {u:Upd}{k:Nat}:u.wE k=true↔k∈u.keyE:=by
 unfold Upd.wE Upd.keyE;cases u.sl with
 |none=>simp
 |some p=>simp only[List.mem_singleton];exact⟨fun h=>(xap h).symm,fun h=>by subst h;exact Nat.beq_refl _⟩
theorem zgy {u:Upd}{k:Nat}:u.wH k=true↔k∈u.keyH:=zaw
theorem zhD {id k:Nat}{r:Res}:∀ {l:Hp},(k,some r)∈l->id∈r.ids->id∈zig l
 |(j,some r')::t,h,hi=>by
  simp only[zig,List.mem_append];rcases List.mem_cons.1 h with h|h
  ·cases h;exact .inl hi
  ·exact .inr (zhD h hi)
 |(j,none)::t,h,hi=>by
  simp only[zig];rcases List.mem_cons.1 h with h|h
  ·cases h
  ·exact zhD h hi
theorem zcI {a b:Rec} (h:zcO a b=false):
  (∀x,x∈a.u.keyE->x∉b.rs)/\(∀x,x∈a.u.keyE->x∉b.u.keyE)/\(∀x,x∈b.u.keyE->x∉a.rs)/\
  (∀x,x∈a.u.keyH->x∉b.rr)/\(∀x,x∈a.u.keyH->x∉b.cr)/\(∀x,x∈a.u.keyH->x∉b.u.keyH)/\(∀x,x∈b.u.keyH->x∉a.rr)/\(∀x,x∈b.u.keyH->x∉a.cr)/\
  (∀x,x∈a.cr->x∉b.u.idsA):=by
 simp only[zcO,Bool.or_eq_false_iff] at h;obtain⟨⟨⟨⟨⟨⟨⟨⟨h1,h2⟩,h3⟩,h4⟩,h5⟩,h6⟩,h7⟩,h8⟩,h9⟩:=h;exact⟨zbK h1,zbK h2,zbK h3,zbK h4,zbK h5,zbK h6,zbK h7,zbK h8,zbK h9⟩
section
variable {c:Ctx}{all:Array Oper}{ps:List PR}{s0:St}
def Closed (all:Array Oper) (listed:Array Bool):Prop:=
 ∀j o,all[j]?=some o->listed.getD j false=true->∀i,i∈zdC o->listed.getD i false=true
theorem zhw {listed:Array Bool} (hcl:Closed all listed) (hed:zfr 0 all.toList=true):
  ∀(n j:Nat) (o:Oper),j<n->all[j]?=some o->(∀i,i∈zdC o->listed.getD i false=true)->∀i,i∈(zcQ [] all.toList).getD j []->listed.getD i false=true:=by
 intro n;induction n with
 |zero=>intro j o h;omega
 |succ n ih=>
  intro j o hj ho he i hi;have h1:=zmL all.toList [] j o (by simpa using ho);simp only[xak,Nat.zero_add] at h1;rw[h1] at hi;simp only[zdg,List.mem_flatMap] at hi;obtain⟨k,hk,hki⟩:=hi;have hlt:=zeU all.toList 0 hed j o (by simpa using ho) k hk;have hjs:j<all.size:=by
   rcases Nat.lt_or_ge j all.size with h|h
   ·exact h
   ·simp[Array.getElem?_eq_none h] at ho
  rcases List.mem_cons.1 hki with rfl|hki
  ·exact he _ hk
  ·have hko:all[k]?=some all[k]:=by simp[show k<all.size by omega]
   refine ih k all[k] od hko (fun x hx=>hcl k _ hko (he k hk) x hx) i ?_;have:((zcQ [] all.toList).take j).getD k []=(zcQ [] all.toList).getD k []:=by
    simp only[List.getD,List.getElem?_take];rw[if_pos od]
   rw[this] at hki;exact hki
theorem zo7 {Q:St->Prop}{Q':Exit->Act->World->Prop} (hQ:∀s a w,Rel c s a w->Q s->Q' .normal a w)
  (hlen:ps.length=all.size) (hchk:chkB all.toList s0 (ps.map PR.rcd)=true) (hfin:Q (fs (fun _=>true) 0 ps s0))
  (hf:∀i o p,all.toList[i]?=some o->ps[i]?=some p->OpFacts c all o p (fs (fun j=>decide (j<i)) 0 ps s0)):
  ∀(fuel:Nat) (listed:Array Bool) (a:Act) (w:World),listed.size=all.size->(listed.toList.count false)=fuel->Closed all listed->
   Rel c (fs (fun j=>listed.getD j false) 0 ps s0) a w->wpAny c.P .any all Q' fuel listed a w:=by
 simp only[chkB,xad] at hchk;obtain⟨⟨hed,hocc⟩,hcf⟩:=hchk;have pair:∀i j p q,i<j->ps[i]?=some p->ps[j]?=some q->
   zcb q.rcd.cr p.rcd.u.idsA=false/\(zcO p.rcd q.rcd=true->i∈(zcQ [] all.toList).getD j []):=fun i j p q hlt hp hq=>by
  have:=(zhv (ps.map PR.rcd) [] 0 hcf j q.rcd (by simp[hq])).2 i p.rcd hlt (by simp[hp]);simpa using this
 have all_done:∀listed:Array Bool,listed.size=all.size->Region.ready .any all listed=[]->∀j,j<all.size->listed.getD j false=true:=by
  intro listed hsz hr j;induction j using Nat.strongRecOn with
  |_ j ih=>
   intro hj;cases hb:listed.getD j false with
   |true=>rfl
   |false=>
    have:j∈Region.ready .any all listed:=by
     simp only[Region.ready,List.mem_filter,List.mem_range,xad,Bool.not_eq_true'];refine⟨hj, ?_, ?_⟩
     ·have hjl:j<listed.size:=by omega
      simp only[Array.getD,hjl,dite_true] at hb ⊢;exact hb
     ·have ho:all[j]?=some all[j]:=by simp[hj]
      simp only[ho,Option.map_some,Option.getD_some,Array.all_eq_true_iff_forall_mem];intro e he;cases hbd:Region.binds .any e with
      |false=>simp
      |true=>
       have hmem:e.on∈zdC all[j]:=by
        simp only[zdC,List.mem_map,List.mem_filter];exact⟨e,⟨by simpa using he,hbd⟩,rfl⟩
       have hlt:=zeU all.toList 0 hed j all[j] (by simp[hj]) _ hmem;simp[ih e.on od od]
    rw[hr] at this;cases this
 have finish:∀(listed:Array Bool) (a:Act) (w:World),listed.size=all.size->Region.ready .any all listed=[]->
   Rel c (fs (fun j=>listed.getD j false) 0 ps s0) a w->Q' .normal a w:=by
  intro listed a w hsz hr hrel;have hall:=all_done listed hsz hr;refine hQ _ a w (hrel.congr (fun k=>?_) (fun k=>?_)) hfin
  ·refine fs_E ps 0 s0 s0 (fun j p hp _=>?_) I;have hj:j<ps.length:=by
    rcases Nat.lt_or_ge j ps.length with h|h
    ·exact h
    ·simp[List.getElem?_eq_none h] at hp
   simp[hall j od]
  ·refine fs_H ps 0 s0 s0 (fun j p hp _=>?_) I;have hj:j<ps.length:=by
    rcases Nat.lt_or_ge j ps.length with h|h
    ·exact h
    ·simp[List.getElem?_eq_none h] at hp
   simp[hall j od]
 intro fuel;induction fuel with
 |zero=>
  intro listed a w hsz hcnt hcl hrel;have hr:Region.ready .any all listed=[]:=by
   simp only[Region.ready,List.filter_eq_nil_iff,List.mem_range,xad,Bool.not_eq_true',not_and];intro i hi hb;have hil:i<listed.size:=by omega
   simp only[Array.getD,hil,dite_true] at hb;have hm:false∈listed.toList:=by
    rw[<-hb];exact Array.mem_toList_iff.2 (Array.getElem_mem hil)
   exact absurd hcnt (Nat.ne_of_gt (List.count_pos_iff.2 hm))
  exact⟨hr,finish listed a w hsz hr hrel⟩
 |succ fuel ih=>
  intro listed a w hsz hcnt hcl hrel;refine⟨fun hr=>finish listed a w hsz hr hrel,fun i hi=>?_⟩;simp only[Region.ready,List.mem_filter,List.mem_range,xad,Bool.not_eq_true'] at hi;obtain⟨hia,hib,hie⟩:=hi;have hil:i<listed.size:=by omega
  have hio:all[i]?=some all[i]:=by simp[hia]
  have hsi:listed.getD i false=false:=by
   simp only[Array.getD,hil,dite_true] at hib ⊢;exact hib
  have hedge:∀x,x∈zdC all[i]->listed.getD x false=true:=by
   intro x hx;simp only[zdC,List.mem_map,List.mem_filter] at hx;obtain⟨e,⟨he,hbd⟩,rfl⟩:=hx;simp only[hio,Option.map_some,Option.getD_some,Array.all_eq_true_iff_forall_mem] at hie;have:=hie e (by simpa using he);simpa [hbd] using this
  have hpi:∃p,ps[i]?=some p:=⟨ps[i]' od,by simp[show i<ps.length by omega]⟩;obtain⟨p,hp⟩:=hpi;have hpreds:=zhw hcl hed (i+1) i all[i] od hio hedge

  have before:∀j q,ps[j]?=some q->j<i->zcO q.rcd p.rcd=true->listed.getD j false=true:=fun j q hq hlt hc'=>
   hpreds j ((pair j i q p hlt hq hp).2 hc')
  have behind:∀j q,ps[j]?=some q->i<j->zcO p.rcd q.rcd=true->listed.getD j false=false:=fun j q hq hlt hc'=>by
   cases hb:listed.getD j false with
   |false=>rfl
   |true=>
    have hja:j<all.size:=by
     rcases Nat.lt_or_ge j ps.length with h|h
     ·omega
     ·simp[List.getElem?_eq_none h] at hq
    have hjo:all[j]?=some all[j]:=by simp[hja]
    have:=zhw hcl hed (j+1) j all[j] od hjo (hcl j _ hjo hb) i ((pair i j p q hlt hp hq).2 hc');rw[hsi] at this;cases this
  have hof:=hf i all[i] p (by simp[hia]) hp;have factE:∀k,(k∈p.rcd.rs)->getE (fs (fun j=>listed.getD j false) 0 ps s0).env k=getE (fs (fun j=>decide (j<i)) 0 ps s0).env k:=fun k hk=>by
   refine fs_E ps 0 s0 s0 (fun j q hq hw=>?_) I;simp only[Nat.zero_add];rcases Nat.lt_trichotomy j i with h|h|h
   ·rw[before j q hq h (by
     cases hcb:zcO q.rcd p.rcd with
     |true=>rfl
     |false=>exact absurd hk ((zcI hcb).1 k (zki.1 hw)))]
    simp[h]
   ·subst h;simp[hsi]
   ·rw[behind j q hq h (by
     cases hcb:zcO p.rcd q.rcd with
     |true=>rfl
     |false=>exact absurd hk ((zcI hcb).2.2.1 k (zki.1 hw)))]
    simp;omega
  have factH:∀k,(k∈p.rcd.rr\/k∈p.rcd.cr)->getH (fs (fun j=>listed.getD j false) 0 ps s0).hp k=getH (fs (fun j=>decide (j<i)) 0 ps s0).hp k:=fun k hk=>by
   refine fs_H ps 0 s0 s0 (fun j q hq hw=>?_) I;simp only[Nat.zero_add];rcases Nat.lt_trichotomy j i with h|h|h
   ·rw[before j q hq h (by
     cases hcb:zcO q.rcd p.rcd with
     |true=>rfl
     |false=>
      have hc:=zcI hcb;rcases hk with hk|hk
      ·exact absurd hk (hc.2.2.2.1 k (zgy.1 hw))
      ·exact absurd hk (hc.2.2.2.2.1 k (zgy.1 hw)))]
    simp[h]
   ·subst h;simp[hsi]
   ·rw[behind j q hq h (by
     cases hcb:zcO p.rcd q.rcd with
     |true=>rfl
     |false=>
      have hc:=zcI hcb;rcases hk with hk|hk
      ·exact absurd hk (hc.2.2.2.2.2.2.1 k (zgy.1 hw))
      ·exact absurd hk (hc.2.2.2.2.2.2.2.1 k (zgy.1 hw)))]
    simp;omega

  have nocc:∀id,id∈p.cr->zcx id (fs (fun j=>listed.getD j false) 0 ps s0):=fun id hid=>by
   have h0:occE id s0.env=false/\occH id s0.hp=false:=by
    have:=List.all_eq_true.1 hocc p.rcd (List.mem_map.2 ⟨p,List.mem_of_getElem? hp,rfl⟩);have:=List.all_eq_true.1 this id hid;simpa using this
   have hn0:=ziX h0.1 h0.2;have hu:∀j q,ps[j]?=some q->listed.getD j false=true->id∉q.u.idsA:=fun j q hq hs hm=>by
    rcases Nat.lt_trichotomy j i with h|h|h
    ·exact zbK (pair j i q p h hq hp).1 id hid hm
    ·subst h;rw[hsi] at hs;cases hs
    ·have:=behind j q hq h (by
      cases hcb:zcO p.rcd q.rcd with
      |true=>rfl
      |false=>exact absurd hm ((zcI hcb).2.2.2.2.2.2.2.2 id hid))
     rw[hs] at this;cases this
   refine⟨fun k v hk hm=>?_,fun k r hk hm=>?_⟩
   ·rcases zk7 ps 0 s0 hk with h|⟨j,q,h1,h2,h3⟩
    ·exact hn0.1 k v h hm
    ·exact hu j q h1 (by simpa using h2) (by simp[Upd.idsA,Upd.idsE,h3,hm])
   ·rcases zk8 ps 0 s0 hk with h|⟨j,q,h1,h2,h3⟩
    ·exact hn0.2 k r h hm
    ·exact hu j q h1 (by simpa using h2) (by simp only[Upd.idsA,List.mem_append];exact .inr (zhD h3 hm))
  have step:=hof.rule _ a w hrel
   (fun q hq=>by rw[factE q.1 (List.mem_map.2 ⟨q,hq,rfl⟩)];exact hof.pre q hq)
   (fun q hq=>by rw[factH q.1 (.inl (List.mem_map.2 ⟨q,hq,rfl⟩))];exact hof.prh q hq)
   (fun id hid=>⟨by rw[factH id (.inr hid)];exact(hof.cr id hid).1,nocc id hid⟩)
   (wpAny c.P .any all Q' fuel (listed.setIfInBounds i true)) Q' (fun a' w' hr'=>?_)
  ·unfold wpO at step;unfold wpOp;simp only[hio];split
   ·rename_i hw;simp only[hw,if_true] at step;exact .inl step
   ·rename_i hw;simp only[hw] at step;exact step
  ·have hset:∀j,(listed.setIfInBounds i true).getD j false=(if j=i then true else listed.getD j false):=fun j=>by
    by_cases hji:j=i
    ·subst hji;simp[Array.getD,hil]
    ·simp only[Array.getD_eq_getD_getElem?,Array.getElem?_setIfInBounds,if_neg hji,if_neg (Ne.symm hji)]
   refine ih _ a' w' (by simp[hsz]) ?_ ?_ ?_
   ·have:(listed.setIfInBounds i true).toList.count false+1=listed.toList.count false:=by
     rw[Array.toList_setIfInBounds];refine zk0 _ _ ?_;simp only[Array.getD,hil,dite_true] at hsi;simp[hil,<-hsi]
    omega
   ·intro j o ho hj x hx;rw[hset] at hj ⊢;by_cases hji:j=i
    ·subst hji;rw[hio] at ho;cases ho
     split
     ·rfl
     ·exact hedge x hx
    ·rw[if_neg hji] at hj;split
     ·rfl
     ·exact hcl j o ho hj x hx
   ·refine hr'.congr (fun k=>?_) (fun k=>?_)
    ·by_cases hk:p.u.wE k=true
     ·rw[zey,if_pos hk];refine zpe ps 0 s0 hp hk (by simp[hset]) (fun j q hlt hq hs=>?_);rw[hset] at hs;have hjn:¬(0+j=i):=by omega
      rw[if_neg hjn,Nat.zero_add] at hs;cases hwq:q.u.wE k with
      |false=>rfl
      |true=>
       have:=behind j q hq hlt (by
        cases hcb:zcO p.rcd q.rcd with
        |true=>rfl
        |false=>exact absurd (zki.1 hwq) ((zcI hcb).2.1 k (zki.1 hk)))
       rw[hs] at this;cases this
     ·rw[zey,if_neg hk];refine fs_E ps 0 s0 s0 (fun j q hq hw=>?_) I;rw[hset];split
      ·rename_i hji;rw[Nat.zero_add] at hji;subst hji;rw[hp] at hq;cases hq;exact absurd hw hk
      ·rfl
    ·by_cases hk:p.u.wH k=true
     ·rw[zez,if_pos hk];refine zpf ps 0 s0 hp hk (by simp[hset]) (fun j q hlt hq hs=>?_);rw[hset] at hs;have hjn:¬(0+j=i):=by omega
      rw[if_neg hjn,Nat.zero_add] at hs;cases hwq:q.u.wH k with
      |false=>rfl
      |true=>
       have:=behind j q hq hlt (by
        cases hcb:zcO p.rcd q.rcd with
        |true=>rfl
        |false=>exact absurd (zgy.1 hwq) ((zcI hcb).2.2.2.2.2.1 k (zgy.1 hk)))
       rw[hs] at this;cases this
     ·rw[zez,if_neg hk];refine fs_H ps 0 s0 s0 (fun j q hq hw=>?_) I;rw[hset];split
      ·rename_i hji;rw[Nat.zero_add] at hji;subst hji;rw[hp] at hq;cases hq;exact absurd hw hk
      ·rfl
theorem Rel.drew {s:St}{a:Act}{w:World} (hr:Rel c s a w):Rel c s a { w with drawn:=w.drawn+1 }:=by
 obtain⟨G,hg⟩:=hr;have hm:∀ {x:AV}{v:Value},RelA G (tokf s.hp) w x v->RelA G (tokf s.hp) { w with drawn:=w.drawn+1 } x v:=fun hx=>
  hx.mono (fun _ _ ho=>⟨ho,rfl⟩) (fun _ _=> .inl rfl) (fun id _ p hp=>⟨hp,fun _ _=>⟨rfl,rfl⟩⟩)
 refine⟨G,hg.size,hg.defers,fun i v h=>hm (hg.slots i v h),fun id r h=>?_,hg.disj,hg.new,
  ⟨hg.frm.os,hg.frm.tape,hg.frm.output,hg.frm.size,hg.frm.block,hg.frm.cell⟩,hg.top,hg.kept⟩
 have:=hg.heap id r h;cases r with
 |box cs=>
  obtain⟨b,vs,e,h1,h2,h3,h4,h5⟩:=this;exact⟨b,vs,e,h1,h2,h3,h4,fun i hi hv=>hm (h5 i hi hv)⟩
 |tok n k=>exact this
 |map ks=>exact this
 |tree cs=>exact zbh this I (fun _ _=>⟨I,I⟩) (Nat.le_refl _) (fun _ _ _=>hm)
theorem CWp.drawn {K:Kt}{id:Nat}{os:List Oper}{s:St} (hmix:c.P.follows .mixedOrders=true) (hos:all.toList=os)
  (h:Walk c all (fun recs=>chkB os s recs.reverse=true) os [] s K.n):CWp c (.region id all true) s K:=by
 intro a w hr;subst hos;obtain⟨ps,hl,hc,hq,hf⟩:=zlx _ _ _ h;refine wp_region_any hmix (zo7 (Q:=K.n) (fun s a w hr hq=>⟨s,hr,hq⟩) (by simpa using hl) (by simpa using hc) hq hf all.size _ a _ og og ?_ ?_)
 ·intro j o ho hj;simp[Array.getD] at hj
 ·refine hr.drew.congr (fun k=>?_) (fun k=>?_)
  ·have hz:∀(ps:List PR) (i:Nat) (s:St),fs (fun j=>(Array.replicate all.size false).getD j false) i ps s=s:=by
    intro ps;induction ps with
    |nil=>intros;rfl
    |cons p r ih=>intro i s;simp only[fs];rw[ih];simp[Array.getD]
   rw[hz]
  ·have hz:∀(ps:List PR) (i:Nat) (s:St),fs (fun j=>(Array.replicate all.size false).getD j false) i ps s=s:=by
    intro ps;induction ps with
    |nil=>intros;rfl
    |cons p r ih=>intro i s;simp only[fs];rw[ih];simp[Array.getD]
   rw[hz]
end
def zex:Value->Option AV
 | .int k n=>some (.d (.int k n))
 | .bool b=>some (.d (.bool b))
 | .string s=>some (.d (.str s.data.toList))
 | .slice none 0 0=>some .nils
 | .pointer none=>some (.d .nilp)
 |_=>none
def zfs:List Value->Option (List AV)
 | []=>some []
 |v::r=>match zex v with
  |some x=>match zfs r with|some l=>some (x::l)|none=>none
  |none=>none
def zmd:Value->Option AV
 | .agg vs=>match zfs vs.toList with|some l=>some (.agg l)|none=>none
 |v=>zex v
def opd (env:Env):Operand->Option AV
 | .tmp t=>getE env t
 | .const v=>zmd v
 | .func f=>some (.fn f [])
 | .global _=>none
def opF:Operand->AV->List (Nat×AV)
 | .tmp t,v=>[(t,v)]
 |_,_=>[]
theorem zaX {env env':Env}{x:Operand}{v:AV} (h:opd env x=some v) (hf:∀p,p∈opF x v->getE env' p.1=some p.2):opd env' x=some v:=by
 cases x with
 |tmp t=>exact hf (t,v) (by simp[opF])
 |const c=>exact h
 |global g=>exact h
 |func f=>exact h
theorem zaU {env:Env}{x:Operand}{v:AV} (h:opd env x=some v):∀p,p∈opF x v->getE env p.1=some p.2:=by
 cases x with
 |tmp t=>intro p hp;simp only[opF,List.mem_singleton] at hp;subst hp;exact h
 |const c=>intro p hp;simp[opF] at hp
 |global g=>intro p hp;simp[opF] at hp
 |func f=>intro p hp;simp[opF] at hp
theorem zga {G:Gh}{T:TokF}{w:World}{v:Value}{x:AV} (h:zex v=some x):RelA G T w x v:=by
 unfold zex at h;split at h<;>simp only[xae,reduceCtorEq] at h
 all_goals subst h
 ·exact .d (.int _ _)
 ·exact .d (.bool _)
 ·exact .d (.str _)
 ·exact .nils
 ·exact .d .nilp
theorem zjl {G:Gh}{T:TokF}{w:World}:∀ {vs:List Value}{l:List AV},zfs vs=some l->vs.length=l.length/\∀i (hi:i<l.length) (hv:i<vs.length),RelA G T w l[i] vs[i]
 | [],l,h=>by simp only[zfs,xae] at h;subst h;exact⟨rfl,fun i hi=>by simp at hi⟩
 |v::r,l,h=>by
  simp only[zfs] at h;cases hv:zex v with
  |none=>simp[hv] at h
  |some x=>
   cases hr:zfs r with
   |none=>simp[hv,hr] at h
   |some m=>
    simp only[hv,hr,xae] at h;subst h;obtain⟨h1,h2⟩:=zjl (G:=G) (T:=T) (w:=w) hr;refine⟨by simp[h1],fun i hi hvi=>?_⟩;cases i with
    |zero=>exact zga hv
    |succ i=>exact h2 i (by simpa using hi) (by simpa using hvi)
theorem zn4 {G:Gh}{T:TokF}{w:World}{v:Value}{x:AV} (h:zmd v=some x):RelA G T w x v:=by
 unfold zmd at h;split at h
 ·rename_i vs;cases hr:zfs vs.toList with
  |none=>simp[hr] at h
  |some l=>
   simp only[hr,xae] at h;subst h;obtain⟨h1,h2⟩:=zjl (G:=G) (T:=T) (w:=w) hr;refine .agg (by simpa using h1) (fun i hi hv=>?_);have:=h2 i hi (by simpa using hv);simpa using this
 ·exact zga h
section
variable {c:Ctx}{G:Gh}{s:St}{a:Act}{w:World}
theorem R.opd (hr:R c G s a w){x:Operand}{v:AV} (h:opd s.env x=some v):RelA G (tokf s.hp) w v (a.eval x):=by
 cases x with
 |tmp t=>exact hr.slots t v h
 |const cv=>exact zn4 h
 |global g=>simp[Proofs.YtmkipahfpaacgaaGreatDoor.opd] at h
 |func f=>
  simp only[Proofs.YtmkipahfpaacgaaGreatDoor.opd,xae] at h;subst h;exact .fn og (fun i hi=>by simp at hi)
theorem R.put (hr:R c G s a w){d:Nat}{v:AV}{x:Value} (hv:RelA G (tokf s.hp) w v x) (hd:Nat.blt d c.n=true):
  R c G (s.app ⟨some (d,v),[]⟩) (a.put (some d) x) w:=by
 have hd':d<c.n:=by simpa [Nat.blt_eq] using hd
 refine⟨by simp[Act.put,hr.size],hr.defers,fun i u hi=>?_,hr.heap,hr.disj,hr.new,hr.frm,hr.top,hr.kept⟩;have hi':getE ((d,v)::s.env) i=some u:=hi;simp only[getE] at hi';show RelA G (tokf s.hp) w u ((a.tmps.setIfInBounds d x).getD i undef)
 cases hb:Nat.beq d i with
 |true=>
  simp only[hb,cond_true,xae] at hi';have:d=i:=xap hb;subst this hi';have:d<a.tmps.size:=by rw[hr.size];exact hd'
  simpa [Array.getD,this] using hv
 |false=>
  simp only[hb,cond_false] at hi';have hne:d≠i:=fun h=>by subst h;rw[Nat.beq_refl] at hb;cases hb
  have:=hr.slots i u hi';simpa [Array.getD_eq_getD_getElem?,Array.getElem?_setIfInBounds,hne] using this
theorem R.putNone (hr:R c G s a w){x:Value}:R c G (s.app ⟨none,[]⟩) (a.put none x) w:=hr
def GF (all:Array Oper):Option (Nat×Bool)->List (Nat×AV)->Prop
 |none,pg=>pg=[]
 |some (j,want),pg=>∃d b,(all[j]?).bind (·.dst)=some d/\b=want/\pg=[(d,.d (.bool b))]
theorem GF.wanted {all:Array Oper}{o:Oper}{pg:List (Nat×AV)} (hg:GF all o.guard pg) (hr:R c G s a w) (hf:∀p,p∈pg->getE s.env p.1=some p.2):
  Region.wanted o (yielded all a.tmps)=true:=by
 unfold Region.wanted;cases hgd:o.guard with
 |none=>rfl
 |some g=>
  obtain⟨j,want⟩:=g;rw[hgd] at hg;obtain⟨d,b,h1,rfl,rfl⟩:=hg;have h2:=hr.slots d _ (hf (d,.d (.bool b)) og);simp only[yielded,h1,Option.bind_some];have h3:a.tmps.getD d undef = .bool b:=by
   generalize a.tmps.getD d undef=v at *;cases h2 with|d h=>cases h;rfl
  have h4:a.tmps[d]?=some (.bool b):=by
   cases hh:a.tmps[d]? with
   |none=>simp[Array.getD_eq_getD_getElem?,hh,undef] at h3
   |some v=>simpa [Array.getD_eq_getD_getElem?,hh] using h3
  simp[h4]
theorem xaT {all:Array Oper}{o:Oper}{d:Nat}{v:AV}{pg pre:List (Nat×AV)}{prh:List (Nat×Res)} (hdst:o.dst=some d)
  (hg:GF all o.guard pg) (hd:Nat.blt d c.n=true)
  (h:∀G s a w,R c G s a w->(∀p,p∈pre->getE s.env p.1=some p.2)->(∀p,p∈prh->getH s.hp p.1=some p.2)->
   ∃x,(execOp a.eval o).run c.P w = .ok (.value x) w/\RelA G (tokf s.hp) w v x):
  LRule c all o (pg++pre) prh [] ⟨some (d,v),[]⟩:=by
 intro s a w hrel hp hh _ K Q hK;obtain⟨G,hr⟩:=hrel;obtain⟨x,hx,hv⟩:=h G s a w hr (fun p hm=>hp p (by simp[hm])) hh;unfold wpO;rw[if_pos (hg.wanted hr (fun p hm=>hp p (by simp[hm])))];unfold Oper.wp;rw[hx,Oper.upon_value,hdst];exact hK _ _ ⟨G,hr.put hv hd⟩
end
section
variable {c:Ctx}{all:Array Oper}{chk:List Rec->Prop}{os:List Oper}{recs:List Rec}{env:Env}{hp:Hp}{Q:St->Prop}
variable {d ty:Nat}{pos:String}{af:Array Edge}{g:Option (Nat×Bool)}{pg:List (Nat×AV)}
theorem zat {p q:List (Nat×AV)} (h1:∀x,x∈p->getE env x.1=some x.2) (h2:∀x,x∈q->getE env x.1=some x.2):
  ∀x,x∈p++q->getE env x.1=some x.2:=fun x hx=>by
 rcases List.mem_append.1 hx with h|h
 ·exact h1 x h
 ·exact h2 x h
def GH (all:Array Oper) (env:Env):Option (Nat×Bool)->List (Nat×AV)->Prop
 |none,pg=>pg=[]
 |some (j,want),pg=>∃d b,(all[j]?).bind (·.dst)=some d/\b=want/\pg=[(d,.d (.bool b))]/\getE env d=some (.d (.bool b))
theorem GH.gf (h:GH all env g pg):GF all g pg:=by
 cases g with
 |none=>exact h
 |some g=>obtain⟨d,b,h1,h2,h3,h4⟩:=h;exact⟨d,b,h1,h2,h3⟩
theorem GH.facts (h:GH all env g pg):∀p,p∈pg->getE env p.1=some p.2:=by
 cases g with
 |none=>have h:pg=[]:=h;subst h;intro p hp;simp at hp
 |some g=>
  obtain⟨d,b,h1,h2,h3,h4⟩:=h;subst h3;intro p hp;simp only[List.mem_singleton] at hp;subst hp;exact h4
theorem GH.none:GH all env none []:=rfl
theorem GH.some {j e:Nat}{b want:Bool} (h1:(all[j]?).bind (·.dst)=Option.some e) (h4:getE env e=Option.some (.d (.bool b))) (h2:b=want):
  GH all env (Option.some (j,want)) [(e,.d (.bool b))]:=⟨e,b,h1,h2,rfl,h4⟩
theorem Walk.pass {o:Oper}{j e:Nat}{b want:Bool} (hg:o.guard=some (j,want)) (h1:(all[j]?).bind (·.dst)=some e) (h4:getE env e=some (.d (.bool b)))
  (h2:b = !want) (hdst:o.dst=some d) (hd:Nat.blt d c.n=true) (h:Walk c all chk os (zam [(e,.d (.bool b))] [] [] ⟨some (d,.tup []),[]⟩::recs) ⟨(d,.tup [])::env,hp⟩ Q):
  Walk c all chk (o::os) recs ⟨env,hp⟩ Q:=by
 refine⟨[(e,.d (.bool b))],[],[],⟨some (d,.tup []),[]⟩, ?_, ?_,by simp,by simp,h⟩
 ·intro s' a w hrel hp _ _ K Q' hK;obtain⟨G,hr⟩:=hrel;have hs:=hr.slots e _ (hp (e,.d (.bool b)) og);have h3:a.tmps.getD e undef = .bool b:=by
   generalize a.tmps.getD e undef=v at *;cases hs with|d h=>cases h;rfl
  have h5:a.tmps[e]?=some (.bool b):=by
   cases hh:a.tmps[e]? with
   |none=>simp[Array.getD_eq_getD_getElem?,hh,undef] at h3
   |some v=>simpa [Array.getD_eq_getD_getElem?,hh] using h3
  have hw:Region.wanted o (yielded all a.tmps)=false:=by
   unfold Region.wanted;rw[hg];simp only[yielded,h1,Option.bind_some,h5,h2];cases want<;>rfl
  unfold wpO;rw[if_neg (by simp[hw]),hdst];exact hK _ _ ⟨G,hr.put (.tup I (fun i hi=>absurd hi og)) hd⟩
 ·intro p hp;simp only[List.mem_singleton] at hp;subst hp;exact h4
theorem zlm {o:Oper}{j e:Nat}{want:Bool}{a:Act}{G:Gh}{T:TokF}{w:World} (hg:o.guard=some (j,want)) (h1:(all[j]?).bind (·.dst)=some e) (hs:RelA G T w (.tup []) (a.tmps.getD e undef)):
  Region.wanted o (yielded all a.tmps)=false:=by
 have h3:∃us,a.tmps.getD e undef = .tuple us:=by
  generalize a.tmps.getD e undef=v at *;cases hs with|tup h _=>exact⟨_,rfl⟩
 obtain⟨us,h3⟩:=h3;have h5:yielded all a.tmps j=none:=by
  simp only[yielded,h1,Option.bind_some];cases hh:a.tmps[e]? with
  |none=>rfl
  |some v=>
   have:v = .tuple us:=by simpa [Array.getD_eq_getD_getElem?,hh] using h3
   subst this;rfl
 unfold Region.wanted;rw[hg];simp[h5]
theorem Walk.passU {o:Oper}{j e:Nat}{want:Bool} (hg:o.guard=some (j,want)) (h1:(all[j]?).bind (·.dst)=some e) (h4:getE env e=some (.tup []))
  (hdst:o.dst=some d) (hd:Nat.blt d c.n=true) (h:Walk c all chk os (zam [(e,.tup [])] [] [] ⟨some (d,.tup []),[]⟩::recs) ⟨(d,.tup [])::env,hp⟩ Q):
  Walk c all chk (o::os) recs ⟨env,hp⟩ Q:=by
 refine⟨[(e,.tup [])],[],[],⟨some (d,.tup []),[]⟩, ?_, ?_,by simp,by simp,h⟩
 ·intro s' a w hrel hp _ _ K Q' hK;obtain⟨G,hr⟩:=hrel;have hw:=zlm hg h1 (hr.slots e _ (hp (e,.tup []) og));unfold wpO;rw[if_neg (by simp[hw]),hdst];exact hK _ _ ⟨G,hr.put (.tup I (fun i hi=>absurd hi og)) hd⟩
 ·intro p hp;simp only[List.mem_singleton] at hp;subst hp;exact h4
theorem Walk.passU0 {o:Oper}{j e:Nat}{want:Bool} (hg:o.guard=some (j,want)) (h1:(all[j]?).bind (·.dst)=some e) (h4:getE env e=some (.tup []))
  (hdst:o.dst=none) (h:Walk c all chk os (zam [(e,.tup [])] [] [] ⟨none,[]⟩::recs) ⟨env,hp⟩ Q):
  Walk c all chk (o::os) recs ⟨env,hp⟩ Q:=by
 refine⟨[(e,.tup [])],[],[],⟨none,[]⟩, ?_, ?_,by simp,by simp,h⟩
 ·intro s' a w hrel hp _ _ K Q' hK;obtain⟨G,hr⟩:=hrel;have hw:=zlm hg h1 (hr.slots e _ (hp (e,.tup []) og));unfold wpO;rw[if_neg (by simp[hw]),hdst];exact hK _ _ ⟨G,hr.putNone⟩
 ·intro p hp;simp only[List.mem_singleton] at hp;subst hp;exact h4
theorem Walk.pass0 {o:Oper}{j e:Nat}{b want:Bool} (hg:o.guard=some (j,want)) (h1:(all[j]?).bind (·.dst)=some e) (h4:getE env e=some (.d (.bool b)))
  (h2:b = !want) (hdst:o.dst=none) (h:Walk c all chk os (zam [(e,.d (.bool b))] [] [] ⟨none,[]⟩::recs) ⟨env,hp⟩ Q):
  Walk c all chk (o::os) recs ⟨env,hp⟩ Q:=by
 refine⟨[(e,.d (.bool b))],[],[],⟨none,[]⟩, ?_, ?_,by simp,by simp,h⟩
 ·intro s' a w hrel hp _ _ K Q' hK;obtain⟨G,hr⟩:=hrel;have hs:=hr.slots e _ (hp (e,.d (.bool b)) og);have h3:a.tmps.getD e undef = .bool b:=by
   generalize a.tmps.getD e undef=v at *;cases hs with|d h=>cases h;rfl
  have h5:a.tmps[e]?=some (.bool b):=by
   cases hh:a.tmps[e]? with
   |none=>simp[Array.getD_eq_getD_getElem?,hh,undef] at h3
   |some v=>simpa [Array.getD_eq_getD_getElem?,hh] using h3
  have hw:Region.wanted o (yielded all a.tmps)=false:=by
   unfold Region.wanted;rw[hg];simp only[yielded,h1,Option.bind_some,h5,h2];cases want<;>rfl
  unfold wpO;rw[if_neg (by simp[hw]),hdst];exact hK _ _ ⟨G,hr.putNone⟩
 ·intro p hp;simp only[List.mem_singleton] at hp;subst hp;exact h4
theorem Walk.split {e:Nat}{b:Bool} (h:getE env e=some (.d (.bool b))) (ht:b=true->Walk c all chk os recs ⟨env,hp⟩ Q) (hf:b=false->Walk c all chk os recs ⟨env,hp⟩ Q):
  Walk c all chk os recs ⟨env,hp⟩ Q:=by
 cases b
 ·exact hf I
 ·exact ht I
theorem xbK {op:Op}{x:Operand}{vx v:AV} (hg:GH all env g pg) (hd:Nat.blt d c.n=true) (hx:opd env x=some vx)
  (h:∀(a:Act) (G:Gh) (T:TokF) (w:World),RelA G T w vx (a.eval x)->∃y,(execOp a.eval ⟨some d,op,ty,pos,af,g⟩).run c.P w = .ok (.value y) w/\RelA G T w v y)
  (hn:Walk c all chk os (zam (pg++opF x vx) [] [] ⟨some (d,v),[]⟩::recs) ⟨(d,v)::env,hp⟩ Q):
  Walk c all chk (⟨some d,op,ty,pos,af,g⟩::os) recs ⟨env,hp⟩ Q:=by
 refine⟨pg++opF x vx,[],[],_,xaT rfl hg.gf hd (fun G s' a w hr hp _=>?_),zat hg.facts (zaU hx),by simp,by simp,hn⟩;exact h a G _ w (hr.opd (zaX hx hp))
theorem xbL {op:Op}{x y:Operand}{vx vy v:AV} (hg:GH all env g pg) (hd:Nat.blt d c.n=true) (hx:opd env x=some vx) (hy:opd env y=some vy)
  (h:∀(a:Act) (G:Gh) (T:TokF) (w:World),RelA G T w vx (a.eval x)->RelA G T w vy (a.eval y)->
   ∃z,(execOp a.eval ⟨some d,op,ty,pos,af,g⟩).run c.P w = .ok (.value z) w/\RelA G T w v z)
  (hn:Walk c all chk os (zam (pg++(opF x vx++opF y vy)) [] [] ⟨some (d,v),[]⟩::recs) ⟨(d,v)::env,hp⟩ Q):
  Walk c all chk (⟨some d,op,ty,pos,af,g⟩::os) recs ⟨env,hp⟩ Q:=by
 refine⟨pg++(opF x vx++opF y vy),[],[],_,xaT rfl hg.gf hd (fun G s' a w hr hp _=>?_),
  zat hg.facts (zat (zaU hx) (zaU hy)),by simp,by simp,hn⟩
 exact h a G _ w (hr.opd (zaX hx (fun p hm=>hp p (by simp[hm])))) (hr.opd (zaX hy (fun p hm=>hp p (by simp[hm]))))
theorem Walk.pure0 {op:Op}{v:AV} (hg:GH all env g pg) (hd:Nat.blt d c.n=true)
  (h:∀(a:Act) (G:Gh) (T:TokF) (w:World),∃z,(execOp a.eval ⟨some d,op,ty,pos,af,g⟩).run c.P w = .ok (.value z) w/\RelA G T w v z)
  (hn:Walk c all chk os (zam (pg++[]) [] [] ⟨some (d,v),[]⟩::recs) ⟨(d,v)::env,hp⟩ Q):
  Walk c all chk (⟨some d,op,ty,pos,af,g⟩::os) recs ⟨env,hp⟩ Q:=by
 refine⟨pg++[],[],[],_,xaT rfl hg.gf hd (fun G s' a w hr hp _=>h a G _ w),zat hg.facts og,by simp,by simp,hn⟩
theorem Walk.move {x:Operand}{v:AV} (hg:GH all env g pg) (hd:Nat.blt d c.n=true) (hx:opd env x=some v)
  (hn:Walk c all chk os (zam (pg++opF x v) [] [] ⟨some (d,v),[]⟩::recs) ⟨(d,v)::env,hp⟩ Q):
  Walk c all chk (⟨some d,.move x,ty,pos,af,g⟩::os) recs ⟨env,hp⟩ Q:=
 xbK hg hd hx (fun _ _ _ _ h=>⟨_,rfl,h⟩) hn
theorem Walk.assign {x:Operand}{v:AV} (hg:GH all env g pg) (hd:Nat.blt d c.n=true) (hx:opd env x=some v)
  (hn:Walk c all chk os (zam (pg++opF x v) [] [] ⟨some (d,v),[]⟩::recs) ⟨(d,v)::env,hp⟩ Q):
  Walk c all chk (⟨some d,.assign x,ty,pos,af,g⟩::os) recs ⟨env,hp⟩ Q:=
 xbK hg hd hx (fun _ _ _ _ h=>⟨_,rfl,h⟩) hn
theorem RelA.bool_eq {G:Gh}{T:TokF}{w:World}{b:Bool}{v:Value} (h:RelA G T w (.d (.bool b)) v):v = .bool b:=by
 cases h with|d h=>cases h;rfl
theorem RelA.int_eq {G:Gh}{T:TokF}{w:World}{k:IntKind}{n:Int}{v:Value} (h:RelA G T w (.d (.int k n)) v):v = .int k n:=by
 cases h with|d h=>cases h;rfl
theorem RelA.str_eq {G:Gh}{T:TokF}{w:World}{l:List UInt8}{v:Value} (h:RelA G T w (.d (.str l)) v):v = .string ⟨l.toArray⟩:=by
 cases h with|d h=>cases h;rfl
theorem Walk.pickT {x y z:Operand}{v:AV}{b:Bool} (hg:GH all env g pg) (hd:Nat.blt d c.n=true) (hx:opd env x=some (.d (.bool b))) (hb:b=true) (hy:opd env y=some v)
  (hn:Walk c all chk os (zam (pg++(opF x (.d (.bool b))++opF y v)) [] [] ⟨some (d,v),[]⟩::recs) ⟨(d,v)::env,hp⟩ Q):
  Walk c all chk (⟨some d,.pick x y z,ty,pos,af,g⟩::os) recs ⟨env,hp⟩ Q:=
 xbL hg hd hx hy (fun a _ _ _ h1 h2=>⟨_,by simp[execOp,h1.bool_eq,hb,asBool],h2⟩) hn
theorem Walk.pickF {x y z:Operand}{v:AV}{b:Bool} (hg:GH all env g pg) (hd:Nat.blt d c.n=true) (hx:opd env x=some (.d (.bool b))) (hb:b=false) (hy:opd env z=some v)
  (hn:Walk c all chk os (zam (pg++(opF x (.d (.bool b))++opF z v)) [] [] ⟨some (d,v),[]⟩::recs) ⟨(d,v)::env,hp⟩ Q):
  Walk c all chk (⟨some d,.pick x y z,ty,pos,af,g⟩::os) recs ⟨env,hp⟩ Q:=
 xbL hg hd hx hy (fun a _ _ _ h1 h2=>⟨_,by simp[execOp,h1.bool_eq,hb,asBool],h2⟩) hn
theorem zjR {P:Program}{op:BinOp}{t:TypeId}{x y:Operand}{k k':IntKind}{m n:Int}{w:World}:(eqGuard op t x y (.int k m) (.int k' n)).run P w = .ok () w:=by
 cases op<;>rfl
theorem zfJ {P:Program}{op:BinOp}{t:TypeId}{x y:Operand}{m n:Bool}{w:World}:(eqGuard op t x y (.bool m) (.bool n)).run P w = .ok () w:=by
 cases op<;>rfl
theorem zh0 {P:Program}{op:BinOp}{t:TypeId}{x y:Operand}{m n:ByteArray}{w:World}:(eqGuard op t x y (.string m) (.string n)).run P w = .ok () w:=by
 cases op<;>rfl
section ints
variable {t yt:TypeId}{x y:Operand}{k:IntKind}{m n:Int}
theorem xbm {op:BinOp}{r:D} (hg:GH all env g pg) (hd:Nat.blt d c.n=true) (hx:opd env x=some (.d (.int k m))) (hy:opd env y=some (.d (.int k n)))
  (h:∀w,∃v,(binOp op t (.int k m) (.int k n)).run c.P w = .ok v w/\∀F,RelD F w r v)
  (hn:Walk c all chk os (zam (pg++(opF x (.d (.int k m))++opF y (.d (.int k n)))) [] [] ⟨some (d,.d r),[]⟩::recs) ⟨(d,.d r)::env,hp⟩ Q):
  Walk c all chk (⟨some d,.binOp op t x y yt,ty,pos,af,g⟩::os) recs ⟨env,hp⟩ Q:=by
 refine xbL hg hd hx hy (fun a G T w h1 h2=>?_) hn;obtain⟨v,hv,hr⟩:=h w;refine⟨v, ?_,.d (hr _)⟩;simp only[execOp,h1.int_eq,h2.int_eq];simp only[Sem.run_bind,zjR,Result.andThen_ok,hv,Sem.run_pure]
theorem Walk.eqI (hg:GH all env g pg) (hd:Nat.blt d c.n=true) (hx:opd env x=some (.d (.int k m))) (hy:opd env y=some (.d (.int k n)))
  (hn:Walk c all chk os (zam (pg++(opF x (.d (.int k m))++opF y (.d (.int k n)))) [] [] ⟨some (d,.d (.bool (decide (m=n)))),[]⟩::recs) ⟨(d,.d (.bool (decide (m=n))))::env,hp⟩ Q):
  Walk c all chk (⟨some d,.binOp .eql t x y yt,ty,pos,af,g⟩::os) recs ⟨env,hp⟩ Q:=
 xbm hg hd hx hy (fun w=>⟨_,by rw[binOp_eql];rfl,fun _=> .bool _⟩) hn
theorem Walk.neI (hg:GH all env g pg) (hd:Nat.blt d c.n=true) (hx:opd env x=some (.d (.int k m))) (hy:opd env y=some (.d (.int k n)))
  (hn:Walk c all chk os (zam (pg++(opF x (.d (.int k m))++opF y (.d (.int k n)))) [] [] ⟨some (d,.d (.bool (!decide (m=n)))),[]⟩::recs) ⟨(d,.d (.bool (!decide (m=n))))::env,hp⟩ Q):
  Walk c all chk (⟨some d,.binOp .neq t x y yt,ty,pos,af,g⟩::os) recs ⟨env,hp⟩ Q:=
 xbm hg hd hx hy (fun w=>⟨_,by rw[binOp_neq];rfl,fun _=> .bool _⟩) hn
theorem Walk.ltI (hg:GH all env g pg) (hd:Nat.blt d c.n=true) (hx:opd env x=some (.d (.int k m))) (hy:opd env y=some (.d (.int k n)))
  (hn:Walk c all chk os (zam (pg++(opF x (.d (.int k m))++opF y (.d (.int k n)))) [] [] ⟨some (d,.d (.bool (decide (m<n)))),[]⟩::recs) ⟨(d,.d (.bool (decide (m<n))))::env,hp⟩ Q):
  Walk c all chk (⟨some d,.binOp .lss t x y yt,ty,pos,af,g⟩::os) recs ⟨env,hp⟩ Q:=
 xbm hg hd hx hy (fun w=>⟨_,by rw[binOp_lss];rfl,fun _=> .bool _⟩) hn
theorem Walk.leI (hg:GH all env g pg) (hd:Nat.blt d c.n=true) (hx:opd env x=some (.d (.int k m))) (hy:opd env y=some (.d (.int k n)))
  (hn:Walk c all chk os (zam (pg++(opF x (.d (.int k m))++opF y (.d (.int k n)))) [] [] ⟨some (d,.d (.bool (decide (m<=n)))),[]⟩::recs) ⟨(d,.d (.bool (decide (m<=n))))::env,hp⟩ Q):
  Walk c all chk (⟨some d,.binOp .leq t x y yt,ty,pos,af,g⟩::os) recs ⟨env,hp⟩ Q:=
 xbm hg hd hx hy (fun w=>⟨_,by rw[binOp_leq];rfl,fun _=> .bool _⟩) hn
theorem Walk.gtI (hg:GH all env g pg) (hd:Nat.blt d c.n=true) (hx:opd env x=some (.d (.int k m))) (hy:opd env y=some (.d (.int k n)))
  (hn:Walk c all chk os (zam (pg++(opF x (.d (.int k m))++opF y (.d (.int k n)))) [] [] ⟨some (d,.d (.bool (decide (n<m)))),[]⟩::recs) ⟨(d,.d (.bool (decide (n<m))))::env,hp⟩ Q):
  Walk c all chk (⟨some d,.binOp .gtr t x y yt,ty,pos,af,g⟩::os) recs ⟨env,hp⟩ Q:=
 xbm hg hd hx hy (fun w=>⟨_,by rw[binOp_gtr];rfl,fun _=> .bool _⟩) hn
theorem Walk.geI (hg:GH all env g pg) (hd:Nat.blt d c.n=true) (hx:opd env x=some (.d (.int k m))) (hy:opd env y=some (.d (.int k n)))
  (hn:Walk c all chk os (zam (pg++(opF x (.d (.int k m))++opF y (.d (.int k n)))) [] [] ⟨some (d,.d (.bool (decide (n<=m)))),[]⟩::recs) ⟨(d,.d (.bool (decide (n<=m))))::env,hp⟩ Q):
  Walk c all chk (⟨some d,.binOp .geq t x y yt,ty,pos,af,g⟩::os) recs ⟨env,hp⟩ Q:=
 xbm hg hd hx hy (fun w=>⟨_,by rw[binOp_geq];rfl,fun _=> .bool _⟩) hn
theorem zbU {n:Int} (h : -9223372036854775808<=n/\n<=9223372036854775807):IntKind.i64.wrap n=n:=by
 have e1:(2 ^ IntKind.i64.bits:Int)=18446744073709551616:=by rfl
 have e2:(2 ^ (IntKind.i64.bits-1):Int)=9223372036854775808:=by rfl
 simp only[IntKind.wrap,e1,e2,IntKind.signed,Bool.true_and];obtain⟨h1,h2⟩:=h;by_cases hn:0<=n
 ·have hm:n % 18446744073709551616=n:=Int.emod_eq_of_lt hn od;rw[hm,if_neg oq]
 ·have hm:n % 18446744073709551616=n+18446744073709551616:=by
   rw[<-Int.add_emod_right];exact Int.emod_eq_of_lt od od
  rw[hm,if_pos oq];omega
theorem zea (n:Int):IntKind.u8.wrap n=n % 256:=by
 simp[IntKind.wrap,IntKind.signed,IntKind.bits]
def I64 (n:Int):Prop:= -9223372036854775808<=n/\n<=9223372036854775807
theorem Walk.addI (hg:GH all env g pg) (hd:Nat.blt d c.n=true) (hx:opd env x=some (.d (.int .i64 m))) (hy:opd env y=some (.d (.int .i64 n))) (hb:I64 (m+n))
  (hn:Walk c all chk os (zam (pg++(opF x (.d (.int .i64 m))++opF y (.d (.int .i64 n)))) [] [] ⟨some (d,.d (.int .i64 (m+n))),[]⟩::recs) ⟨(d,.d (.int .i64 (m+n)))::env,hp⟩ Q):
  Walk c all chk (⟨some d,.binOp .add t x y yt,ty,pos,af,g⟩::os) recs ⟨env,hp⟩ Q:=
 xbm hg hd hx hy (fun w=>⟨_,by simp[binOp,Op.intArith,zbU hb],fun _=> .int _ _⟩) hn
theorem Walk.subI (hg:GH all env g pg) (hd:Nat.blt d c.n=true) (hx:opd env x=some (.d (.int .i64 m))) (hy:opd env y=some (.d (.int .i64 n))) (hb:I64 (m-n))
  (hn:Walk c all chk os (zam (pg++(opF x (.d (.int .i64 m))++opF y (.d (.int .i64 n)))) [] [] ⟨some (d,.d (.int .i64 (m-n))),[]⟩::recs) ⟨(d,.d (.int .i64 (m-n)))::env,hp⟩ Q):
  Walk c all chk (⟨some d,.binOp .sub t x y yt,ty,pos,af,g⟩::os) recs ⟨env,hp⟩ Q:=
 xbm hg hd hx hy (fun w=>⟨_,by simp[binOp,Op.intArith,zbU hb],fun _=> .int _ _⟩) hn
theorem Walk.mulI (hg:GH all env g pg) (hd:Nat.blt d c.n=true) (hx:opd env x=some (.d (.int .i64 m))) (hy:opd env y=some (.d (.int .i64 n))) (hb:I64 (m*n))
  (hn:Walk c all chk os (zam (pg++(opF x (.d (.int .i64 m))++opF y (.d (.int .i64 n)))) [] [] ⟨some (d,.d (.int .i64 (m*n))),[]⟩::recs) ⟨(d,.d (.int .i64 (m*n)))::env,hp⟩ Q):
  Walk c all chk (⟨some d,.binOp .mul t x y yt,ty,pos,af,g⟩::os) recs ⟨env,hp⟩ Q:=
 xbm hg hd hx hy (fun w=>⟨_,by simp[binOp,Op.intArith,zbU hb],fun _=> .int _ _⟩) hn
theorem Walk.addW (hg:GH all env g pg) (hd:Nat.blt d c.n=true) (hx:opd env x=some (.d (.int k m))) (hy:opd env y=some (.d (.int k n)))
  (hn:Walk c all chk os (zam (pg++(opF x (.d (.int k m))++opF y (.d (.int k n)))) [] [] ⟨some (d,.d (.int k (k.wrap (m+n)))),[]⟩::recs) ⟨(d,.d (.int k (k.wrap (m+n))))::env,hp⟩ Q):
  Walk c all chk (⟨some d,.binOp .add t x y yt,ty,pos,af,g⟩::os) recs ⟨env,hp⟩ Q:=
 xbm hg hd hx hy (fun w=>⟨_,by simp[binOp,Op.intArith],fun _=> .int _ _⟩) hn
theorem xbU (hg:GH all env g pg) (hd:Nat.blt d c.n=true) (hx:opd env x=some (.d (.int k m))) (hy:opd env y=some (.d (.int k n)))
  (hn:Walk c all chk os (zam (pg++(opF x (.d (.int k m))++opF y (.d (.int k n)))) [] [] ⟨some (d,.d (.int k (k.wrap (m-n)))),[]⟩::recs) ⟨(d,.d (.int k (k.wrap (m-n))))::env,hp⟩ Q):
  Walk c all chk (⟨some d,.binOp .sub t x y yt,ty,pos,af,g⟩::os) recs ⟨env,hp⟩ Q:=
 xbm hg hd hx hy (fun w=>⟨_,by simp[binOp,Op.intArith],fun _=> .int _ _⟩) hn
theorem xbN (hg:GH all env g pg) (hd:Nat.blt d c.n=true) (hx:opd env x=some (.d (.int .i64 m))) (hy:opd env y=some (.d (.int .i64 n))) (hb:0<=m/\m<=9223372036854775807/\0<n)
  (hn:Walk c all chk os (zam (pg++(opF x (.d (.int .i64 m))++opF y (.d (.int .i64 n)))) [] [] ⟨some (d,.d (.int .i64 (m / n))),[]⟩::recs) ⟨(d,.d (.int .i64 (m / n)))::env,hp⟩ Q):
  Walk c all chk (⟨some d,.binOp .quo t x y yt,ty,pos,af,g⟩::os) recs ⟨env,hp⟩ Q:=by
 refine xbm hg hd hx hy (fun w=>⟨.int .i64 (m / n), ?_,fun _=> .int _ _⟩) hn;have h1:n≠0:=by omega
 have h2:m.tdiv n=m / n:=Int.tdiv_eq_ediv_of_nonneg hb.1;have h3:0<=m / n:=Int.ediv_nonneg hb.1 od;have h4:m / n<=m:=Int.ediv_le_self _ hb.1;have h5:I64 (m / n):=⟨by omega,by omega⟩;simp[binOp,Op.intDiv,h1,h2,zbU h5]
theorem xbP (hg:GH all env g pg) (hd:Nat.blt d c.n=true) (hx:opd env x=some (.d (.int .i64 m))) (hy:opd env y=some (.d (.int .i64 n))) (hb:0<=m/\0<n)
  (hn:Walk c all chk os (zam (pg++(opF x (.d (.int .i64 m))++opF y (.d (.int .i64 n)))) [] [] ⟨some (d,.d (.int .i64 (m % n))),[]⟩::recs) ⟨(d,.d (.int .i64 (m % n)))::env,hp⟩ Q):
  Walk c all chk (⟨some d,.binOp .rem t x y yt,ty,pos,af,g⟩::os) recs ⟨env,hp⟩ Q:=by
 refine xbm hg hd hx hy (fun w=>⟨.int .i64 (m % n), ?_,fun _=> .int _ _⟩) hn;have h1:n≠0:=by omega
 have h2:m.tmod n=m % n:=Int.tmod_eq_emod_of_nonneg hb.1;simp[binOp,Op.intDiv,h1,h2]
theorem xbu {k':IntKind} (hs:(c.P.underlying t).isSome=true) (ht:c.P.underlying yt=some (.int k')) (hg:GH all env g pg) (hd:Nat.blt d c.n=true) (hx:opd env x=some (.d (.int k m)))
  (hn:Walk c all chk os (zam (pg++opF x (.d (.int k m))) [] [] ⟨some (d,.d (.int k' (k'.wrap m))),[]⟩::recs) ⟨(d,.d (.int k' (k'.wrap m)))::env,hp⟩ Q):
  Walk c all chk (⟨some d,.convert t yt x,ty,pos,af,g⟩::os) recs ⟨env,hp⟩ Q:=
 xbK hg hd hx (fun a G T w h=>⟨.int k' (k'.wrap m),by
  obtain⟨u,hu⟩:=Option.isSome_iff_exists.1 hs;simp only[execOp,h.int_eq,convert,Sem.run_bind,run_underlying hu,run_underlying ht,Result.andThen_ok];simp[Conv.intToInt],.d (.int _ _)⟩) hn
end ints
section
variable {t yt:TypeId}{x y:Operand}
theorem Walk.not {b:Bool} (hg:GH all env g pg) (hd:Nat.blt d c.n=true) (hx:opd env x=some (.d (.bool b)))
  (hn:Walk c all chk os (zam (pg++opF x (.d (.bool b))) [] [] ⟨some (d,.d (.bool (!b))),[]⟩::recs) ⟨(d,.d (.bool (!b)))::env,hp⟩ Q):
  Walk c all chk (⟨some d,.unOp .not t x,ty,pos,af,g⟩::os) recs ⟨env,hp⟩ Q:=
 xbK hg hd hx (fun a G T w h=>⟨.bool (!b),by simp[execOp,h.bool_eq,Op.unary],.d (.bool _)⟩) hn
theorem Walk.eqB {b b':Bool} (ht:c.P.underlying t=some .bool) (hg:GH all env g pg) (hd:Nat.blt d c.n=true) (hx:opd env x=some (.d (.bool b))) (hy:opd env y=some (.d (.bool b')))
  (hn:Walk c all chk os (zam (pg++(opF x (.d (.bool b))++opF y (.d (.bool b')))) [] [] ⟨some (d,.d (.bool (b == b'))),[]⟩::recs) ⟨(d,.d (.bool (b == b')))::env,hp⟩ Q):
  Walk c all chk (⟨some d,.binOp .eql t x y yt,ty,pos,af,g⟩::os) recs ⟨env,hp⟩ Q:=by
 refine xbL hg hd hx hy (fun a G T w h1 h2=>⟨.bool (b == b'), ?_,.d (.bool _)⟩) hn;simp only[execOp,h1.bool_eq,h2.bool_eq];simp only[Sem.run_bind,zfJ,Result.andThen_ok,run_eql_bool w t b b' ht,Sem.run_pure]
theorem xbJ {b b':Bool} (ht:c.P.underlying t=some .bool) (hg:GH all env g pg) (hd:Nat.blt d c.n=true) (hx:opd env x=some (.d (.bool b))) (hy:opd env y=some (.d (.bool b')))
  (hn:Walk c all chk os (zam (pg++(opF x (.d (.bool b))++opF y (.d (.bool b')))) [] [] ⟨some (d,.d (.bool (!(b == b')))),[]⟩::recs) ⟨(d,.d (.bool (!(b == b'))))::env,hp⟩ Q):
  Walk c all chk (⟨some d,.binOp .neq t x y yt,ty,pos,af,g⟩::os) recs ⟨env,hp⟩ Q:=by
 refine xbL hg hd hx hy (fun a G T w h1 h2=>⟨.bool (!(b == b')), ?_,.d (.bool _)⟩) hn;simp only[execOp,h1.bool_eq,h2.bool_eq];simp only[Sem.run_bind,zfJ,Result.andThen_ok,run_neq_bool w t b b' ht,Sem.run_pure]
theorem zlu (l:List UInt8):(ByteArray.mk l.toArray).toList=l:=by
 simp[ByteArray.toList_eq]
theorem xbn {op:BinOp}{l m:List UInt8}{r:D} (hg:GH all env g pg) (hd:Nat.blt d c.n=true) (hx:opd env x=some (.d (.str l))) (hy:opd env y=some (.d (.str m)))
  (h:∀w,∃v,(binOp op t (.string ⟨l.toArray⟩) (.string ⟨m.toArray⟩)).run c.P w = .ok v w/\∀F,RelD F w r v)
  (hn:Walk c all chk os (zam (pg++(opF x (.d (.str l))++opF y (.d (.str m)))) [] [] ⟨some (d,.d r),[]⟩::recs) ⟨(d,.d r)::env,hp⟩ Q):
  Walk c all chk (⟨some d,.binOp op t x y yt,ty,pos,af,g⟩::os) recs ⟨env,hp⟩ Q:=by
 refine xbL hg hd hx hy (fun a G T w h1 h2=>?_) hn;obtain⟨v,hv,hr⟩:=h w;refine⟨v, ?_,.d (hr _)⟩;simp only[execOp,h1.str_eq,h2.str_eq];simp only[Sem.run_bind,zh0,Result.andThen_ok,hv,Sem.run_pure]
end
end
def aggB:TypeDesc->Bool
 | .struct _=>true
 | .array _ _=>true
 |_=>false
structure TyS (P:Program) (t k:Nat) (agg:Bool):Prop where
 size:∃i,P.info? t=some i/\i.size=k
 agg:∃u,P.underlying t=some u/\aggB u=agg
structure SlT (P:Program) (t e k bytes:Nat):Prop where
 und:P.underlying t=some (.slice e)
 inf:∃i,P.info? e=some i/\i.size=k/\i.bytes=bytes
structure Fd (P:Program) (t f o:Nat):Prop where
 out:∃fs fd,P.underlying t=some (.struct fs)/\fs[f]?=some fd/\fd.offset=o/\∃i,P.info? fd.type=some i/\i.size≠0
section
variable {P:Program}{w:World}{t k e y:Nat}{b:Bool}
theorem zel {i:TypeInfo} (h:P.info? t=some i):(typeInfo t).run P w = .ok i w:=run_typeInfo w h
theorem TyS.run_size (h:TyS P t k b):(sizeOf t).run P w = .ok k w:=by
 obtain⟨i,h1,h2⟩:=h.size;simp[sizeOf,zel h1,h2]
theorem TyS.run_agg (h:TyS P t k b):(isAgg t).run P w = .ok b w:=by
 obtain⟨u,h1,h2⟩:=h.agg;simp only[isAgg,Sem.run_bind,run_underlying h1,Result.andThen_ok];cases u<;>simp only[aggB] at h2<;>subst h2<;>rfl
theorem SlT.run_size (h:SlT P t e k y):(sizeOf e).run P w = .ok k w:=by
 obtain⟨i,h1,h2,h3⟩:=h.inf;simp[sizeOf,zel h1,h2]
theorem zcR (b o n:Nat):(Addr.mk b o none).add n=⟨b,o+n,none⟩:=by
 unfold Addr.add;split
 ·rename_i h;subst h;rfl
 ·rfl
theorem zek (h:TyS P t k false){b o:Nat}{v:Value} (hc:w.cell? ⟨b,o,none⟩=some v):(loadVar t ⟨b,o,none⟩).run P w = .ok v w:=by
 simp only[loadVar,Sem.run_bind,h.run_agg,Result.andThen_ok];simp[hc]
theorem zej (h:TyS P t k true){b o:Nat}{cs:List Value} (hl:cs.length=k) (hc:∀j v,cs[j]?=some v->w.cell? ⟨b,o+j,none⟩=some v):
  (loadVar t ⟨b,o,none⟩).run P w = .ok (.agg cs.toArray) w:=by
 have:=run_loadCells_list (P:=P) (w:=w) ⟨b,o,none⟩ cs (fun j v hj=>by rw[zcR];exact hc j v hj);simp only[loadVar,Sem.run_bind,h.run_agg,Result.andThen_ok,if_true,h.run_size,<-hl,this];rfl
end
def cutC {α:Type}:List α->Nat->Nat->Option (List α)
 |_,_,0=>some []
 | [],_,_+1=>none
 |x::r,0,k+1=>match cutC r 0 k with|some l=>some (x::l)|none=>none
 |_::r,o+1,k+1=>cutC r o (k+1)
theorem zd1 {α:Type}:∀ {cs:List α}{o k:Nat}{l:List α},cutC cs o k=some l->l.length=k/\∀i,i<k->l[i]?=cs[o+i]?
 |cs,o,0,l,h=>by cases cs<;>simp only[cutC,xae] at h<;>subst h<;>exact⟨rfl,fun i hi=>by omega⟩
 | [],o,k+1,l,h=>by simp[cutC] at h
 |x::r,0,k+1,l,h=>by
  simp only[cutC] at h;cases hr:cutC r 0 k with
  |none=>simp[hr] at h
  |some l'=>
   simp only[hr,xae] at h;subst h;obtain⟨h1,h2⟩:=zd1 hr;refine⟨by simp[h1],fun i hi=>?_⟩;cases i with
   |zero=>simp
   |succ i=>
    have:=h2 i od;simp only[Nat.zero_add] at this ⊢;simpa using this
 |x::r,o+1,k+1,l,h=>by
  simp only[cutC] at h;obtain⟨h1,h2⟩:=zd1 h;refine⟨h1,fun i hi=>?_⟩;rw[h2 i hi,show o+1+i=(o+i)+1 by omega];simp
def mapD:List D->Option (List AV)
 | []=>some []
 |x::r=>match mapD r with|some l=>some (.d x::l)|none=>none
theorem znC:∀ {l:List D}{r:List AV},mapD l=some r->r=l.map .d
 | [],r,h=>by simp only[mapD,xae] at h;subst h;rfl
 |x::l,r,h=>by
  simp only[mapD] at h;cases hl:mapD l with
  |none=>simp[hl] at h
  |some l'=>simp only[hl,xae] at h;subst h;rw[znC hl];rfl
section
variable {c:Ctx}{all:Array Oper}{chk:List Rec->Prop}{os:List Oper}{recs:List Rec}{env:Env}{hp:Hp}{Q:St->Prop}
variable {d ty:Nat}{pos:String}{af:Array Edge}{g:Option (Nat×Bool)}{pg:List (Nat×AV)}
theorem xbO {op:Op}{x:Operand}{vx v:AV}{prh:List (Nat×Res)} (hg:GH all env g pg) (hd:Nat.blt d c.n=true) (hx:opd env x=some vx)
  (hh:∀p,p∈prh->getH hp p.1=some p.2)
  (h:∀(a:Act) (G:Gh) (s:St) (w:World),R c G s a w->(∀p,p∈prh->getH s.hp p.1=some p.2)->RelA G (tokf s.hp) w vx (a.eval x)->
   ∃y,(execOp a.eval ⟨some d,op,ty,pos,af,g⟩).run c.P w = .ok (.value y) w/\RelA G (tokf s.hp) w v y)
  (hn:Walk c all chk os (zam (pg++opF x vx) prh [] ⟨some (d,v),[]⟩::recs) ⟨(d,v)::env,hp⟩ Q):
  Walk c all chk (⟨some d,op,ty,pos,af,g⟩::os) recs ⟨env,hp⟩ Q:=by
 refine⟨pg++opF x vx,prh,[],_,xaT rfl hg.gf hd (fun G s' a w hr hp' hh'=>?_),zat hg.facts (zaU hx),hh,by simp,hn⟩;exact h a G s' w hr hh' (hr.opd (zaX hx hp'))
theorem hh1 {id:Nat}{r:Res} (h:getH hp id=some r):∀p,p∈[(id,r)]->getH hp p.1=some p.2:=fun p hp'=>by
 simp only[List.mem_singleton] at hp';subst hp';exact h
theorem hh1' {s:St}{id:Nat}{r:Res} (h:∀p,p∈[(id,r)]->getH s.hp p.1=some p.2):getH s.hp id=some r:=h (id,r) og
theorem RelA.ref_eq {G:Gh}{T:TokF}{w:World}{id off:Nat}{v:Value} (h:RelA G T w (.ref id off) v):∃b,((G.loc id).head?=some b/\T id=none)/\v = .pointer (some ⟨b,off,none⟩):=by
 cases h with|ref h hT=>exact⟨_,⟨h,hT⟩,rfl⟩
theorem RelA.ms_eq {G:Gh}{T:TokF}{w:World}{id n:Nat}{v:Value} (h:RelA G T w (.ms id n) v):∃b cap,((G.loc id).head?=some b/\T id=none)/\v = .slice (some ⟨b,0,none⟩) n cap/\n<=cap:=by
 cases h with|ms h hT hcap=>exact⟨_,_,⟨h,hT⟩,rfl,hcap⟩
theorem RelA.tup_eq {G:Gh}{T:TokF}{w:World}{vs:List AV}{v:Value} (h:RelA G T w (.tup vs) v):
  ∃us:Array Value,v = .tuple us/\us.size=vs.length/\∀i (hi:i<vs.length) (hv:i<us.size),RelA G T w vs[i] us[i]:=by
 cases h with|tup hn h=>exact⟨_,rfl,hn,h⟩
section loads
variable {t k:Nat}{x:Operand}{id off:Nat}
theorem xbE {cs:List AV}{v:AV} (ht:TyS c.P t k false) (hg:GH all env g pg) (hd:Nat.blt d c.n=true) (hx:opd env x=some (.ref id off))
  (hb:getH hp id=some (.box cs)) (hv:cs[off]?=some v)
  (hn:Walk c all chk os (zam (pg++opF x (.ref id off)) [(id,.box cs)] [] ⟨some (d,v),[]⟩::recs) ⟨(d,v)::env,hp⟩ Q):
  Walk c all chk (⟨some d,.load t x,ty,pos,af,g⟩::os) recs ⟨env,hp⟩ Q:=by
 refine xbO hg hd hx (hh1 hb) (fun a G s w hr hh h1=>?_) hn;obtain⟨b,hl,he⟩:=h1.ref_eq;obtain⟨b',vs,e,h2,h3,h4,h5,h6⟩:=hr.heap id _ (hh1' hh);obtain rfl:=zdr hl.1 h2;obtain⟨hlt,hv'⟩:=List.getElem?_eq_some_iff.1 hv;have hlv:off<vs.size:=by omega
 refine⟨vs[off], ?_, ?_⟩
 ·have hcell:w.cell? ⟨b,off,none⟩=some vs[off]:=by simp[World.cell?,h3,hlv]
  simp only[execOp,he,Instr.loadAt,Instr.sureAddr,Sem.run_bind,Sem.run_pure,Result.andThen_ok,zek ht hcell]
 ·have:=h6 off hlt hlv;rw[hv'] at this;exact this
theorem xbF {cs r:List AV} (ht:TyS c.P t k true) (hg:GH all env g pg) (hd:Nat.blt d c.n=true) (hx:opd env x=some (.ref id off))
  (hb:getH hp id=some (.box cs)) (hv:cutC cs off k=some r)
  (hn:Walk c all chk os (zam (pg++opF x (.ref id off)) [(id,.box cs)] [] ⟨some (d,.agg r),[]⟩::recs) ⟨(d,.agg r)::env,hp⟩ Q):
  Walk c all chk (⟨some d,.load t x,ty,pos,af,g⟩::os) recs ⟨env,hp⟩ Q:=by
 refine xbO hg hd hx (hh1 hb) (fun a G s w hr hh h1=>?_) hn;obtain⟨b,hl,he⟩:=h1.ref_eq;obtain⟨b',vs,e,h2,h3,h4,h5,h6⟩:=hr.heap id _ (hh1' hh);obtain rfl:=zdr hl.1 h2;obtain⟨hlen,hget⟩:=zd1 hv;have hbd:∀i,i<k->off+i<cs.length:=fun i hi=>by
  have:=hget i hi;rw[xan od] at this;rcases Nat.lt_or_ge (off+i) cs.length with h|h
  ·exact h
  ·rw[List.getElem?_eq_none h] at this;cases this
 let l:List Value:=(List.range k).map fun i=>vs.getD (off+i) undef
 refine⟨.agg l.toArray, ?_, ?_⟩
 ·have hcell:∀j v,l[j]?=some v->w.cell? ⟨b,off+j,none⟩=some v:=fun j v hj=>by
   simp only[l,List.getElem?_map,Option.map_eq_some_iff] at hj;obtain⟨i,hi,rfl⟩:=hj;obtain⟨hi1,rfl⟩:=List.getElem?_eq_some_iff.1 hi;simp only[List.length_range] at hi1;have:=hbd j hi1;simp[World.cell?,h3,List.getElem_range,show off+j<vs.size by omega]
  simp only[execOp,he,Instr.loadAt,Instr.sureAddr,Sem.run_bind,Sem.run_pure,Result.andThen_ok,zej ht (by simp[l]) hcell]
 ·refine .agg (by simp[l,hlen]) (fun i hi hv'=>?_);have hik:i<k:=by omega
  have h7:=hbd i hik;have h8:r[i]=cs[off+i]:=by
   have:=hget i hik;rw[xan hi,xan h7] at this;exact Option.some.inj this
  rw[h8];have:=h6 (off+i) h7 od;simpa [l,show off+i<vs.size by omega] using this
theorem RelD.ptr_cells {F:Nat->Nat}{w:World}{cs:List D}{off:Nat}{v:Value} (h:RelD F w (.ptr cs off) v):
  ∃b o,v = .pointer (some ⟨b,o+off,none⟩)/\∀n (hn:n<cs.length),∃u,o+n<F b/\w.cell? ⟨b,o+n,none⟩=some u/\RelD F w cs[n] u:=by
 cases h with
 |ptr _ b o _ cf hc hr=>exact⟨b,o,rfl,fun n hn=>⟨cf n,(hc n hn).1,(hc n hn).2,hr n hn⟩⟩
theorem RelD.ptr_inv {F:Nat->Nat}{w:World}{cs:List D}{off:Nat}{v:Value} (h:RelD F w (.ptr cs off) v):
  ∃(b o:Nat) (cf:Nat->Value),v = .pointer (some ⟨b,o+off,none⟩)/\(∀n,n<cs.length->o+n<F b/\w.cell? ⟨b,o+n,none⟩=some (cf n))/\∀n (hn:n<cs.length),RelD F w cs[n] (cf n):=by
 cases h with
 |ptr _ b o _ cf hc hr=>exact⟨b,o,cf,rfl,hc,hr⟩
theorem RelA.d_inv {G:Gh}{T:TokF}{w:World}{x:D}{v:Value} (h:RelA G T w (.d x) v):RelD G.F w x v:=by
 cases h with|d h=>exact h
theorem Walk.loadP {cs:List D}{v:D} (ht:TyS c.P t k false) (hg:GH all env g pg) (hd:Nat.blt d c.n=true) (hx:opd env x=some (.d (.ptr cs off)))
  (hv:cs[off]?=some v)
  (hn:Walk c all chk os (zam (pg++opF x (.d (.ptr cs off))) [] [] ⟨some (d,.d v),[]⟩::recs) ⟨(d,.d v)::env,hp⟩ Q):
  Walk c all chk (⟨some d,.load t x,ty,pos,af,g⟩::os) recs ⟨env,hp⟩ Q:=by
 refine xbO hg hd hx og (fun a G s w hr hh h1=>?_) hn;obtain⟨hlt,hv'⟩:=List.getElem?_eq_some_iff.1 hv;cases h1 with
 |d h1=>
  obtain⟨b,o,he,hc⟩:=h1.ptr_cells;obtain⟨u,h2,h3,h4⟩:=hc off hlt;refine⟨u, ?_,.d (hv' ▸ h4)⟩;simp only[execOp,he,Instr.loadAt,Instr.sureAddr,Sem.run_bind,Sem.run_pure,Result.andThen_ok,zek ht h3]
theorem Walk.loadPA {cs r:List D}{r':List AV} (ht:TyS c.P t k true) (hg:GH all env g pg) (hd:Nat.blt d c.n=true) (hx:opd env x=some (.d (.ptr cs off)))
  (hv:cutC cs off k=some r) (hm:mapD r=some r')
  (hn:Walk c all chk os (zam (pg++opF x (.d (.ptr cs off))) [] [] ⟨some (d,.agg r'),[]⟩::recs) ⟨(d,.agg r')::env,hp⟩ Q):
  Walk c all chk (⟨some d,.load t x,ty,pos,af,g⟩::os) recs ⟨env,hp⟩ Q:=by
 have:=znC hm;subst this;refine xbO hg hd hx og (fun a G s w hr hh h1=>?_) hn;obtain⟨hlen,hget⟩:=zd1 hv;have hbd:∀i,i<k->off+i<cs.length:=fun i hi=>by
  have:=hget i hi;rw[xan od] at this;rcases Nat.lt_or_ge (off+i) cs.length with h|h
  ·exact h
  ·rw[List.getElem?_eq_none h] at this;cases this
 cases h1 with
 |d h1=>
  obtain⟨b,o,he,hc⟩:=h1.ptr_cells;let l:List Value:=(List.range k).map fun i=>(w.cell? ⟨b,o+(off+i),none⟩).getD undef
  refine⟨.agg l.toArray, ?_, ?_⟩
  ·have hcell:∀j v,l[j]?=some v->w.cell? ⟨b,o+off+j,none⟩=some v:=fun j v hj=>by
    simp only[l,List.getElem?_map,Option.map_eq_some_iff] at hj;obtain⟨i,hi,rfl⟩:=hj;obtain⟨hi1,rfl⟩:=List.getElem?_eq_some_iff.1 hi;simp only[List.length_range] at hi1;obtain⟨u,h2,h3,h4⟩:=hc (off+j) (hbd j hi1);rw[List.getElem_range,Nat.add_assoc,h3];rfl
   simp only[execOp,he,Instr.loadAt,Instr.sureAddr,Sem.run_bind,Sem.run_pure,Result.andThen_ok,zej ht (by simp[l]) hcell]
  ·refine .agg (by simp[l,hlen]) (fun i hi hv'=>?_);simp only[xac] at hi;have hik:i<k:=by omega
   have h7:=hbd i hik;have h8:r[i]=cs[off+i]:=by
    have:=hget i hik;rw[xan hi,xan h7] at this;exact Option.some.inj this
   obtain⟨u,h2,h3,h4⟩:=hc (off+i) h7;simp only[List.getElem_map,l,List.getElem_toArray,List.getElem_range,h3,Option.getD_some,h8];exact .d h4
end loads
section addrs
variable {t:Nat}{x y:Operand}{id off:Nat}
theorem Fd.run {P:Program}{t f o b off:Nat}{w:World} (h:Fd P t f o):(Instr.fieldAt t (.pointer (some ⟨b,off,none⟩)) f).run P w = .ok (.pointer (some ⟨b,off+o,none⟩)) w:=by
 obtain⟨fs,fd,h1,h2,h3,i,h4,h5⟩:=h.out;simp only[Instr.fieldAt,Sem.run_bind,run_underlying h1,Result.andThen_ok,h2,Instr.sureAddr,Sem.run_pure,fieldPlace];simp[sizeOf,zel h4,h5,zcR,h3]
theorem xbA {f o:Nat} (ht:Fd c.P t f o) (hg:GH all env g pg) (hd:Nat.blt d c.n=true) (hx:opd env x=some (.ref id off))
  (hn:Walk c all chk os (zam (pg++opF x (.ref id off)) [] [] ⟨some (d,.ref id (off+o)),[]⟩::recs) ⟨(d,.ref id (off+o))::env,hp⟩ Q):
  Walk c all chk (⟨some d,.fieldAddr t x f,ty,pos,af,g⟩::os) recs ⟨env,hp⟩ Q:=
 xbK hg hd hx (fun a G T w h=>by
  obtain⟨b,hl,he⟩:=h.ref_eq;exact⟨.pointer (some ⟨b,off+o,none⟩),by simp only[execOp,he,Sem.run_bind,ht.run,Result.andThen_ok,Sem.run_pure],.ref hl.1 hl.2⟩) hn
theorem Walk.fieldP {f o:Nat}{cs:List D} (ht:Fd c.P t f o) (hg:GH all env g pg) (hd:Nat.blt d c.n=true) (hx:opd env x=some (.d (.ptr cs off)))
  (hn:Walk c all chk os (zam (pg++opF x (.d (.ptr cs off))) [] [] ⟨some (d,.d (.ptr cs (off+o))),[]⟩::recs) ⟨(d,.d (.ptr cs (off+o)))::env,hp⟩ Q):
  Walk c all chk (⟨some d,.fieldAddr t x f,ty,pos,af,g⟩::os) recs ⟨env,hp⟩ Q:=
 xbK hg hd hx (fun a G T w h=>by
  obtain⟨b,o',cf,he,hc,hr⟩:=h.d_inv.ptr_inv;exact⟨.pointer (some ⟨b,o'+(off+o),none⟩),by simp only[execOp,he,Sem.run_bind,ht.run,Result.andThen_ok,Sem.run_pure,Nat.add_assoc],.d (.ptr cs b o' (off+o) cf hc hr)⟩) hn
theorem RelD.sl_elem {F:Nat->Nat}{w:World}{xs:List (List D)}{v:Value}{i:Nat}{e:List D} (h:RelD F w (.sl xs) v) (he:xs[i]?=some e):
  ∃(b off cap:Nat) (cf:Nat->Value),v = .slice (some ⟨b,off,none⟩) xs.length cap/\xs.length<=cap/\
   (∀n,n<e.length->off+i*e.length+n<F b/\w.cell? ⟨b,off+i*e.length+n,none⟩=some (cf n))/\∀n (hn:n<e.length),RelD F w e[n] (cf n):=by
 obtain⟨hi,he'⟩:=List.getElem?_eq_some_iff.1 he;cases h with
 |nil=>simp at hi
 |emp=>simp at hi
 |sl _ k b off cap cf hk hcap hc hr=>
  have hke:e.length=k:=by rw[<-he'];exact hk _ (xao hi)
  refine⟨b,off,cap,fun n=>cf (i*k+n),rfl,hcap,fun n hn=>?_,fun n hn=>?_⟩
  ·have hlt:i*k+n<xs.length*k:=by
    have:(i+1)*k<=xs.length*k:=xav _ od;rw[Nat.add_mul,Nat.one_mul] at this;omega
   have:=hc _ hlt;rw[hke,Nat.add_assoc];exact this
  ·have h1:n<(xs[i]).length:=by rw[he'];exact hn
   have:=hr i hi n h1;simp only[he'] at this;exact this
theorem zdH {P:Program}{t e k y:Nat} (h:SlT P t e k y){b off len cap i:Nat}{kd:IntKind}{w:World} (hi:i<len):
  (Instr.indexAt t (.slice (some ⟨b,off,none⟩) len cap) (.int kd i)).run P w = .ok (.pointer (some ⟨b,off+i*k,none⟩)) w:=by
 obtain⟨inf,h1,h2,h3⟩:=h.inf;have hc:(0:Int)<=(i:Int)/\(i:Int)<(len:Int):=by omega
 simp only[Instr.indexAt,asIntOf,Sem.run_bind,Sem.run_pure,Result.andThen_ok,run_underlying h.und,hc,if_true,and_self];simp[sizeOf,zel h1,h2,zcR]
theorem xbB {e k yb:Nat}{xs:List (List D)}{el:List D}{kd:IntKind}{n:Int}{i:Nat} (ht:SlT c.P t e k yb) (hg:GH all env g pg) (hd:Nat.blt d c.n=true)
  (hx:opd env x=some (.d (.sl xs))) (hy:opd env y=some (.d (.int kd n))) (hi:n = ↑i) (he:xs[i]?=some el) (hk:el.length=k)
  (hn:Walk c all chk os (zam (pg++(opF x (.d (.sl xs))++opF y (.d (.int kd n)))) [] [] ⟨some (d,.d (.ptr el 0)),[]⟩::recs) ⟨(d,.d (.ptr el 0))::env,hp⟩ Q):
  Walk c all chk (⟨some d,.indexAddr t x y,ty,pos,af,g⟩::os) recs ⟨env,hp⟩ Q:=by
 refine xbL hg hd hx hy (fun a G T w h1 h2=>?_) hn;cases h1 with
 |d h1=>
  obtain⟨b,off,cap,cf,hv,hcap,h3,h4⟩:=h1.sl_elem he;obtain⟨hlt,_⟩:=List.getElem?_eq_some_iff.1 he;refine⟨.pointer (some ⟨b,off+i*k,none⟩), ?_,.d ?_⟩
  ·simp only[execOp,hv,h2.int_eq,hi,Sem.run_bind,zdH ht hlt,Result.andThen_ok,Sem.run_pure]
  ·have:=RelD.ptr (F:=G.F) (w:=w) el b (off+i*el.length) 0 cf h3 h4;rw[hk] at this;exact this
theorem ixq {e k yb:Nat}{xs:List (List D)}{el:List D}{kd:IntKind}{n:Int}{i:Nat} (ht:SlT c.P t e k yb)
  (hx:opd env x=some (.d (.sl xs))) (hy:opd env y=some (.d (.int kd n))) (hi:n = ↑i) (he:xs[i]?=some el) (hk:el.length=k)
  (hn:Walk c all chk os (zam ([]++(opF x (.d (.sl xs))++opF y (.d (.int kd n)))) [] [] ⟨some (d,.d (.ptr el 0)),[]⟩::recs) ⟨(d,.d (.ptr el 0))::env,hp⟩ Q) (hd:Nat.blt d c.n=true:=by exact rfl):
  Walk c all chk (⟨some d,.indexAddr t x y,ty,pos,af,none⟩::os) recs ⟨env,hp⟩ Q:=xbB ht .none hd hx hy hi he hk hn
theorem Walk.idxG {e k yb:Nat}{xs:List (List D)}{el:List D}{kd:IntKind}{n:Int}{i:Nat} (ht:SlT c.P t e k yb) (hg:GH all env g pg) (hd:Nat.blt d c.n=true)
  (hx:opd env x=some (.gl id xs)) (hy:opd env y=some (.d (.int kd n))) (hi:n = ↑i) (he:xs[i]?=some el) (hk:el.length=k)
  (hn:Walk c all chk os (zam (pg++(opF x (.gl id xs)++opF y (.d (.int kd n)))) [] [] ⟨some (d,.d (.ptr el 0)),[]⟩::recs) ⟨(d,.d (.ptr el 0))::env,hp⟩ Q):
  Walk c all chk (⟨some d,.indexAddr t x y,ty,pos,af,g⟩::os) recs ⟨env,hp⟩ Q:=by
 refine xbL hg hd hx hy (fun a G T w h1 h2=>?_) hn;cases h1 with
 |gl h1 _=>
  obtain⟨b,off,cap,cf,hv,hcap,h3,h4⟩:=h1.sl_elem he;obtain⟨hlt,_⟩:=List.getElem?_eq_some_iff.1 he;refine⟨.pointer (some ⟨b,off+i*k,none⟩), ?_,.d ?_⟩
  ·simp only[execOp,hv,h2.int_eq,hi,Sem.run_bind,zdH ht hlt,Result.andThen_ok,Sem.run_pure]
  ·have:=RelD.ptr (F:=G.F) (w:=w) el b (off+i*el.length) 0 cf h3 h4;rw[hk] at this;exact this
theorem xbC {e k yb m:Nat}{kd:IntKind}{n:Int}{i:Nat} (ht:SlT c.P t e k yb) (hg:GH all env g pg) (hd:Nat.blt d c.n=true)
  (hx:opd env x=some (.ms id m)) (hy:opd env y=some (.d (.int kd n))) (hi:n = ↑i) (hlt:i<m)
  (hn:Walk c all chk os (zam (pg++(opF x (.ms id m)++opF y (.d (.int kd n)))) [] [] ⟨some (d,.ref id (i*k)),[]⟩::recs) ⟨(d,.ref id (i*k))::env,hp⟩ Q):
  Walk c all chk (⟨some d,.indexAddr t x y,ty,pos,af,g⟩::os) recs ⟨env,hp⟩ Q:=by
 refine xbL hg hd hx hy (fun a G T w h1 h2=>?_) hn;obtain⟨b,cap,hl,he,hcap⟩:=h1.ms_eq;refine⟨.pointer (some ⟨b,0+i*k,none⟩), ?_,by rw[Nat.zero_add];exact .ref hl.1 hl.2⟩;simp only[execOp,he,h2.int_eq,hi,Sem.run_bind,zdH ht hlt,Result.andThen_ok,Sem.run_pure]
structure ArT (P:Program) (t len e k:Nat):Prop where
 und:P.underlying t=some (.array len e)
 inf:∃i,P.info? e=some i/\i.size=k
theorem zkB {P:Program}{t len e k:Nat} (h:ArT P t len e k){b off i:Nat}{kd:IntKind}{w:World} (hi:i<len):
  (Instr.indexAt t (.pointer (some ⟨b,off,none⟩)) (.int kd i)).run P w = .ok (.pointer (some ⟨b,off+i*k,none⟩)) w:=by
 obtain⟨inf,h1,h2⟩:=h.inf;have hc:(0:Int)<=(i:Int)/\(i:Int)<(len:Int):=by omega
 simp only[Instr.indexAt,asIntOf,Sem.run_bind,Sem.run_pure,Result.andThen_ok,run_underlying h.und,Instr.sureAddr,hc,if_true,and_self];simp[sizeOf,zel h1,h2,zcR]
theorem Walk.idxA {len e k:Nat}{kd:IntKind}{n:Int}{i:Nat} (ht:ArT c.P t len e k) (hg:GH all env g pg) (hd:Nat.blt d c.n=true)
  (hx:opd env x=some (.ref id off)) (hy:opd env y=some (.d (.int kd n))) (hi:n = ↑i) (hlt:i<len)
  (hn:Walk c all chk os (zam (pg++(opF x (.ref id off)++opF y (.d (.int kd n)))) [] [] ⟨some (d,.ref id (off+i*k)),[]⟩::recs) ⟨(d,.ref id (off+i*k))::env,hp⟩ Q):
  Walk c all chk (⟨some d,.indexAddr t x y,ty,pos,af,g⟩::os) recs ⟨env,hp⟩ Q:=by
 refine xbL hg hd hx hy (fun a G T w h1 h2=>?_) hn;obtain⟨b,hl,he⟩:=h1.ref_eq;refine⟨.pointer (some ⟨b,off+i*k,none⟩), ?_,.ref hl.1 hl.2⟩;simp only[execOp,he,h2.int_eq,hi,Sem.run_bind,zkB ht hlt,Result.andThen_ok,Sem.run_pure]
theorem Walk.nilCheck {v:AV} (hv:(∃i o,v = .ref i o)\/(∃l o,v = .d (.ptr l o))) (hg:GH all env g pg) (hd:Nat.blt d c.n=true) (hx:opd env x=some v)
  (hn:Walk c all chk os (zam (pg++opF x v) [] [] ⟨some (d,v),[]⟩::recs) ⟨(d,v)::env,hp⟩ Q):
  Walk c all chk (⟨some d,.nilCheck x,ty,pos,af,g⟩::os) recs ⟨env,hp⟩ Q:=
 xbK hg hd hx (fun a G T w h=>by
  rcases hv with ⟨i,o,rfl⟩|⟨l,o,rfl⟩
  ·obtain⟨b,hl,he⟩:=h.ref_eq;exact⟨.pointer (some ⟨b,o,none⟩),by simp only[execOp,he,Sem.run_pure],.ref hl.1 hl.2⟩
  ·cases h with
   |d h=>
    obtain⟨b,o',he,hc⟩:=h.ptr_cells;exact⟨_,by simp only[execOp,he,Sem.run_pure],.d (he ▸ h)⟩) hn
theorem Walk.extract {vs:List AV}{v:AV}{i:Nat} (hg:GH all env g pg) (hd:Nat.blt d c.n=true) (hx:opd env x=some (.tup vs)) (hv:vs[i]?=some v)
  (hn:Walk c all chk os (zam (pg++opF x (.tup vs)) [] [] ⟨some (d,v),[]⟩::recs) ⟨(d,v)::env,hp⟩ Q):
  Walk c all chk (⟨some d,.extract x i,ty,pos,af,g⟩::os) recs ⟨env,hp⟩ Q:=
 xbK hg hd hx (fun a G T w h=>by
  obtain⟨hi,hv'⟩:=List.getElem?_eq_some_iff.1 hv;obtain⟨us,he,hs,h⟩:=h.tup_eq;have:=h i hi od;rw[hv'] at this;refine⟨us[i], ?_,this⟩;simp[execOp,he,Instr.extract,show i<us.size by omega]) hn
end addrs
end
section
variable {c:Ctx}{all:Array Oper}{chk:List Rec->Prop}{os:List Oper}{recs:List Rec}{env:Env}{hp:Hp}{Q:St->Prop}
variable {d ty:Nat}{pos:String}{af:Array Edge}{g:Option (Nat×Bool)}{pg:List (Nat×AV)}
variable {t yt:TypeId}{x y:Operand}
theorem Walk.eqS {l m:List UInt8} (hg:GH all env g pg) (hd:Nat.blt d c.n=true) (hx:opd env x=some (.d (.str l))) (hy:opd env y=some (.d (.str m)))
  (hn:Walk c all chk os (zam (pg++(opF x (.d (.str l))++opF y (.d (.str m)))) [] [] ⟨some (d,.d (.bool (decide (l=m)))),[]⟩::recs) ⟨(d,.d (.bool (decide (l=m))))::env,hp⟩ Q):
  Walk c all chk (⟨some d,.binOp .eql t x y yt,ty,pos,af,g⟩::os) recs ⟨env,hp⟩ Q:=
 xbn hg hd hx hy (fun w=>⟨.bool (decide (l=m)),by
  have:(l == m)=decide (l=m):=by by_cases h:l=m<;>simp[h]
  simp only[binOp_string_eql,zlu,this,Sem.run_pure],fun _=> .bool _⟩) hn
theorem Walk.neS {l m:List UInt8} (hg:GH all env g pg) (hd:Nat.blt d c.n=true) (hx:opd env x=some (.d (.str l))) (hy:opd env y=some (.d (.str m)))
  (hn:Walk c all chk os (zam (pg++(opF x (.d (.str l))++opF y (.d (.str m)))) [] [] ⟨some (d,.d (.bool (!decide (l=m)))),[]⟩::recs) ⟨(d,.d (.bool (!decide (l=m))))::env,hp⟩ Q):
  Walk c all chk (⟨some d,.binOp .neq t x y yt,ty,pos,af,g⟩::os) recs ⟨env,hp⟩ Q:=
 xbn hg hd hx hy (fun w=>⟨.bool (!decide (l=m)),by
  have:(l == m)=decide (l=m):=by by_cases h:l=m<;>simp[h]
  simp only[binOp_string_neq,zlu,this,Sem.run_pure],fun _=> .bool _⟩) hn
theorem xbs {l m:List UInt8} (hg:GH all env g pg) (hd:Nat.blt d c.n=true) (hx:opd env x=some (.d (.str l))) (hy:opd env y=some (.d (.str m))) (hb:l.length+m.length<=9223372036854775807)
  (hn:Walk c all chk os (zam (pg++(opF x (.d (.str l))++opF y (.d (.str m)))) [] [] ⟨some (d,.d (.str (l++m))),[]⟩::recs) ⟨(d,.d (.str (l++m)))::env,hp⟩ Q):
  Walk c all chk (⟨some d,.binOp .add t x y yt,ty,pos,af,g⟩::os) recs ⟨env,hp⟩ Q:=
 xbn hg hd hx hy (fun w=>⟨.string ⟨(l++m).toArray⟩,by
  have h1:(ByteArray.mk l.toArray).size=l.length:=by simp[ByteArray.size]
  have h2:(ByteArray.mk m.toArray).size=m.length:=by simp[ByteArray.size]
  have h3:ByteArray.mk l.toArray++ByteArray.mk m.toArray=ByteArray.mk (l++m).toArray:=by
   apply ByteArray.ext;simp
  simp only[binOp_string_add,Op.stringOp,h1,h2];have:¬((l.length+m.length:Nat):Int)>IntKind.i64.max:=by simp[IntKind.max,IntKind.signed,IntKind.bits];omega
  rw[if_neg this,h3];rfl,fun _=> .str _⟩) hn
theorem xbD {l:List UInt8}{kd:IntKind}{n:Int}{i:Nat}{b:UInt8} (ht:c.P.underlying t=some .string) (hg:GH all env g pg) (hd:Nat.blt d c.n=true)
  (hx:opd env x=some (.d (.str l))) (hy:opd env y=some (.d (.int kd n))) (hi:n = ↑i) (hb:l[i]?=some b)
  (hn:Walk c all chk os (zam (pg++(opF x (.d (.str l))++opF y (.d (.int kd n)))) [] [] ⟨some (d,.d (.int .u8 b.toNat)),[]⟩::recs) ⟨(d,.d (.int .u8 b.toNat))::env,hp⟩ Q):
  Walk c all chk (⟨some d,.index t x y,ty,pos,af,g⟩::os) recs ⟨env,hp⟩ Q:=
 xbL hg hd hx hy (fun a G T w h1 h2=>⟨.int .u8 b.toNat,by
  obtain⟨hlt,hv⟩:=List.getElem?_eq_some_iff.1 hb;have hs:(ByteArray.mk l.toArray)[i]?=some b:=by
   have h1:i<(ByteArray.mk l.toArray).size:=by simpa [ByteArray.size] using hlt
   rw[getElem?_pos (ByteArray.mk l.toArray) i h1];have:(ByteArray.mk l.toArray)[i]=l[i]:=by simp[ByteArray.getElem_eq_getElem_data]
   rw[this,hv]
  have h0:(0:Int)<=(i:Int):=by omega
  simp only[execOp,h1.str_eq,h2.int_eq,hi,Instr.index,asIntOf,Sem.run_bind,Sem.run_pure,Result.andThen_ok,run_underlying ht,h0,if_true,Int.toNat_natCast,hs],.d (.int _ _)⟩) hn
theorem Walk.lenS {l:List UInt8}{at_:Nat} (ht:c.P.underlying at_=some .string) (hg:GH all env g pg) (hd:Nat.blt d c.n=true) (hx:opd env x=some (.d (.str l)))
  (hn:Walk c all chk os (zam (pg++opF x (.d (.str l))) [] [] ⟨some (d,.d (.i l.length)),[]⟩::recs) ⟨(d,.d (.i l.length))::env,hp⟩ Q):
  Walk c all chk (⟨some d,.call ⟨.builtin .len,#[x],#[at_]⟩,ty,pos,af,g⟩::os) recs ⟨env,hp⟩ Q:=
 xbK hg hd hx (fun a G T w h=>⟨.int .i64 l.length,by
  have h1:(ByteArray.mk l.toArray).size=l.length:=by simp[ByteArray.size]
  simp[execOp,resolve,invoke,builtin,Builtin.len_,h.str_eq,run_underlying ht,goInt,h1],.d (.int _ _)⟩) hn
theorem RelD.sl_len {F:Nat->Nat}{w:World}{xs:List (List D)}{v:Value} (h:RelD F w (.sl xs) v):∃a cap,v = .slice a xs.length cap:=by
 cases h with
 |nil=>exact⟨none,0,rfl⟩
 |emp=>exact⟨_,_,rfl⟩
 |sl _ k b off cap cf hk hcap hc hr=>exact⟨_,_,rfl⟩
theorem zfc {P:Program}{w:World}{at_ e k yb ty:Nat} (ht:SlT P at_ e k yb) (a:Option Addr) (n cap:Nat):
  (Builtin.len_ #[at_] ty #[.slice a n cap]).run P w = .ok (.int .i64 n) w:=by
 simp[Builtin.len_,run_underlying ht.und,goInt]
theorem Walk.len {xs:List (List D)}{at_ e k yb:Nat} (ht:SlT c.P at_ e k yb) (hg:GH all env g pg) (hd:Nat.blt d c.n=true) (hx:opd env x=some (.d (.sl xs)))
  (hn:Walk c all chk os (zam (pg++opF x (.d (.sl xs))) [] [] ⟨some (d,.d (.i xs.length)),[]⟩::recs) ⟨(d,.d (.i xs.length))::env,hp⟩ Q):
  Walk c all chk (⟨some d,.call ⟨.builtin .len,#[x],#[at_]⟩,ty,pos,af,g⟩::os) recs ⟨env,hp⟩ Q:=
 xbK hg hd hx (fun a G T w h=>⟨.int .i64 xs.length,by
  obtain⟨ad,cap,he⟩:=h.d_inv.sl_len;simp[execOp,resolve,invoke,builtin,he,zfc ht],.d (.int _ _)⟩) hn
theorem Walk.lenG {xs:List (List D)}{at_ e k yb id:Nat} (ht:SlT c.P at_ e k yb) (hg:GH all env g pg) (hd:Nat.blt d c.n=true) (hx:opd env x=some (.gl id xs))
  (hn:Walk c all chk os (zam (pg++opF x (.gl id xs)) [] [] ⟨some (d,.d (.i xs.length)),[]⟩::recs) ⟨(d,.d (.i xs.length))::env,hp⟩ Q):
  Walk c all chk (⟨some d,.call ⟨.builtin .len,#[x],#[at_]⟩,ty,pos,af,g⟩::os) recs ⟨env,hp⟩ Q:=
 xbK hg hd hx (fun a G T w h=>⟨.int .i64 xs.length,by
  have hh:RelD G.F w (.sl xs) (a.eval x):=by
   generalize a.eval x=v at *;cases h with|gl h _=>exact h
  obtain⟨ad,cap,he⟩:=hh.sl_len;simp[execOp,resolve,invoke,builtin,he,zfc ht],.d (.int _ _)⟩) hn
theorem Walk.lenM {at_ e k yb id n:Nat} (ht:SlT c.P at_ e k yb) (hg:GH all env g pg) (hd:Nat.blt d c.n=true) (hx:opd env x=some (.ms id n))
  (hn:Walk c all chk os (zam (pg++opF x (.ms id n)) [] [] ⟨some (d,.d (.i n)),[]⟩::recs) ⟨(d,.d (.i n))::env,hp⟩ Q):
  Walk c all chk (⟨some d,.call ⟨.builtin .len,#[x],#[at_]⟩,ty,pos,af,g⟩::os) recs ⟨env,hp⟩ Q:=
 xbK hg hd hx (fun a G T w h=>⟨.int .i64 n,by
  obtain⟨b,cap,hl,he,hc⟩:=h.ms_eq;simp[execOp,resolve,invoke,builtin,he,zfc ht],.d (.int _ _)⟩) hn
theorem Walk.func {f:FuncId} (hg:GH all env g pg) (hd:Nat.blt d c.n=true)
  (hn:Walk c all chk os (zam (pg++[]) [] [] ⟨some (d,.fn f []),[]⟩::recs) ⟨(d,.fn f [])::env,hp⟩ Q):
  Walk c all chk (⟨some d,.makeFunc (.func f) #[] #[],ty,pos,af,g⟩::os) recs ⟨env,hp⟩ Q:=
 Walk.pure0 hg hd (fun a G T w=>⟨.func (.func f) #[] #[],by simp[execOp,Instr.makeFunc],.fn og (fun i hi=>by simp at hi)⟩) hn
def opdL (env:Env):List Operand->Option (List AV)
 | []=>some []
 |x::r=>match opd env x with
  |some v=>match opdL env r with|some l=>some (v::l)|none=>none
  |none=>none
def opFL:List Operand->List AV->List (Nat×AV)
 |x::r,v::l=>opF x v++opFL r l
 |_,_=>[]
theorem zca {env env':Env}:∀ {xs:List Operand}{vs:List AV},opdL env xs=some vs->(∀p,p∈opFL xs vs->getE env' p.1=some p.2)->opdL env' xs=some vs
 | [],vs,h,_=>h
 |x::r,vs,h,hf=>by
  simp only[opdL] at h;cases hx:opd env x with
  |none=>simp[hx] at h
  |some v=>
   simp only[hx] at h;cases hr:opdL env r with
   |none=>simp[hr] at h
   |some l=>
    simp only[hr,xae] at h;subst h;have h1:=zaX hx (env':=env') (fun p hp=>hf p (by simp[opFL,hp]));have h2:=zca hr (env':=env') (fun p hp=>hf p (by simp[opFL,hp]));simp only[opdL,h1,h2]
theorem zb9 {env:Env}:∀ {xs:List Operand}{vs:List AV},opdL env xs=some vs->∀p,p∈opFL xs vs->getE env p.1=some p.2
 | [],vs,h,p,hp=>by cases vs<;>simp[opFL] at hp
 |x::r,vs,h,p,hp=>by
  simp only[opdL] at h;cases hx:opd env x with
  |none=>simp[hx] at h
  |some v=>
   simp only[hx] at h;cases hr:opdL env r with
   |none=>simp[hr] at h
   |some l=>
    simp only[hr,xae] at h;subst h;simp only[opFL,List.mem_append] at hp;rcases hp with hp|hp
    ·exact zaU hx p hp
    ·exact zb9 hr p hp
theorem zcJ {G:Gh}{s:St}{a:Act}{w:World} (hr:R c G s a w):∀ {xs:List Operand}{vs:List AV},opdL s.env xs=some vs->
  vs.length=xs.length/\∀i (hi:i<vs.length) (hx:i<xs.length),RelA G (tokf s.hp) w vs[i] (a.eval xs[i])
 | [],vs,h=>by simp only[opdL,xae] at h;subst h;exact⟨rfl,fun i hi=>by simp at hi⟩
 |x::r,vs,h=>by
  simp only[opdL] at h;cases hx:opd s.env x with
  |none=>simp[hx] at h
  |some v=>
   simp only[hx] at h;cases hr':opdL s.env r with
   |none=>simp[hr'] at h
   |some l=>
    simp only[hr',xae] at h;subst h;obtain⟨h1,h2⟩:=zcJ hr hr';refine⟨by simp[h1],fun i hi hxi=>?_⟩;cases i with
    |zero=>simpa using hr.opd hx
    |succ i=>simpa using h2 i (by simpa using hi) (by simpa using hxi)
theorem xbM {op:Op}{xs:List Operand}{vs:List AV}{v:AV} (hg:GH all env g pg) (hd:Nat.blt d c.n=true) (hx:opdL env xs=some vs)
  (h:∀(a:Act) (G:Gh) (T:TokF) (w:World),(vs.length=xs.length/\∀i (hi:i<vs.length) (hx:i<xs.length),RelA G T w vs[i] (a.eval xs[i]))->
   ∃z,(execOp a.eval ⟨some d,op,ty,pos,af,g⟩).run c.P w = .ok (.value z) w/\RelA G T w v z)
  (hn:Walk c all chk os (zam (pg++opFL xs vs) [] [] ⟨some (d,v),[]⟩::recs) ⟨(d,v)::env,hp⟩ Q):
  Walk c all chk (⟨some d,op,ty,pos,af,g⟩::os) recs ⟨env,hp⟩ Q:=by
 refine⟨pg++opFL xs vs,[],[],_,xaT rfl hg.gf hd (fun G s' a w hr hp _=>?_),zat hg.facts (zb9 hx),by simp,by simp,hn⟩;exact h a G _ w (zcJ hr (zca hx hp))
theorem xbt {f:FuncId}{caps:Array Operand}{xs:List Operand}{vs:List AV} (hcaps:caps=xs.toArray) (hg:GH all env g pg) (hd:Nat.blt d c.n=true) (hx:opdL env xs=some vs)
  (hn:Walk c all chk os (zam (pg++opFL xs vs) [] [] ⟨some (d,.fn f vs),[]⟩::recs) ⟨(d,.fn f vs)::env,hp⟩ Q):
  Walk c all chk (⟨some d,.makeFunc (.func f) #[] caps,ty,pos,af,g⟩::os) recs ⟨env,hp⟩ Q:=by
 subst hcaps;refine xbM hg hd hx (fun a G T w h=>?_) hn;refine⟨.func (.func f) #[] (xs.toArray.map a.eval),by simp[execOp,Instr.makeFunc],.fn (by simp[h.1]) (fun i hi hv=>?_)⟩;have:=h.2 i hi (by rw[<-h.1];exact hi);simpa using this
theorem RelD.sub {F:Nat->Nat}{w:World}{xs:List (List D)}{b off cap k:Nat} (h:RelD F w (.sl xs) (.slice (some ⟨b,off,none⟩) xs.length cap))
  (hk:∀x,x∈xs->x.length=k){lo hi:Nat} (h1:lo<=hi) (h2:hi<=xs.length):
  RelD F w (.sl ((xs.drop lo).take (hi-lo))) (.slice (some ⟨b,off+lo*k,none⟩) (hi-lo) (cap-lo)):=by
 generalize hv:Value.slice (some ⟨b,off,none⟩) xs.length cap=v at h;cases h with
 |nil=>cases hv
 |emp=>simp at hv
 |sl _ k' b' off' cap' cf hk' hcap hc hr=>
  simp only[Value.slice.injEq,xae,Addr.mk.injEq] at hv;obtain⟨⟨rfl,rfl,_⟩,_,rfl⟩:=hv;have hlen:((xs.drop lo).take (hi-lo)).length=hi-lo:=by simp;omega
  have hkk:xs≠[]->k'=k:=fun hne=>by
   obtain⟨x,hx⟩:=List.exists_mem_of_ne_nil _ hne;rw[<-hk x hx,hk' x hx]
  by_cases hne:hi-lo=0
  ·have h0:(xs.drop lo).take (hi-lo)=[]:=List.length_eq_zero_iff.1 od;rw[h0,hne];exact .sl [] k b _ _ (fun _=>undef) og og (fun n hn=>by simp at hn) (fun i hi=>by simp at hi)
  have hxs:xs≠[]:=fun h0=>by subst h0;simp at h2;omega
  have:=hkk hxs;subst this;have hg:RelD F w (.sl ((xs.drop lo).take (hi-lo))) (.slice (some ⟨b,off+lo*k',none⟩) ((xs.drop lo).take (hi-lo)).length (cap-lo)):=by
   refine .sl _ k' b _ _ (fun n=>cf (lo*k'+n)) (fun x hx=>hk' x (List.mem_of_mem_drop (List.mem_of_mem_take hx))) od (fun n hn=>?_) (fun i hi' j hj=>?_)
   ·rw[hlen] at hn;have hlt:lo*k'+n<xs.length*k':=by
     have h3:hi*k'<=xs.length*k':=xav _ h2;have h4:(hi-lo)*k'=hi*k'-lo*k':=Nat.sub_mul _ _ _;have h5:lo*k'<=hi*k':=xav _ h1;omega
    rw[Nat.add_assoc];exact hc _ hlt
   ·rw[hlen] at hi';have hli:lo+i<xs.length:=by omega
    have he:((xs.drop lo).take (hi-lo))[i]=xs[lo+i]:=by simp
    have hj':j<xs[lo+i].length:=by rw[<-he];exact hj
    have:=hr (lo+i) hli j hj';have e2:lo*k'+(i*k'+j)=(lo+i)*k'+j:=by rw[Nat.add_mul];omega
    simp only[he,e2];exact this
  rw[hlen] at hg;exact hg
end
structure AllR (G:Gh) (T:TokF) (w:World) (cs:List AV) (vs:Array Value):Prop where
 size:vs.size=cs.length
 rel:∀i (hi:i<cs.length) (hv:i<vs.size),RelA G T w cs[i] vs[i]
structure PreR (G:Gh) (T:TokF) (w:World) (cs:List AV) (vs:Array Value):Prop where
 size:cs.length<=vs.size
 rel:∀i (hi:i<cs.length) (hv:i<vs.size),RelA G T w cs[i] vs[i]
theorem AllR.pre {G:Gh}{T:TokF}{w:World}{cs:List AV}{vs:Array Value} (h:AllR G T w cs vs):PreR G T w cs vs:=⟨by rw[h.size];exact Nat.le_refl _,h.rel⟩
def zbg:AV->Option (List AV)
 | .agg cs=>some cs
 | .tup _=>none
 | .any=>none
 |v=>some [v]
theorem ze7 {G:Gh}{T:TokF}{w:World}{x:AV}{v:Value}{cs:List AV} (h:RelA G T w x v) (hc:zbg x=some cs):AllR G T w cs v.cells:=by
 have one:∀u:Value,u.cells = #[u]->RelA G T w x u->cs=[x]->AllR G T w cs u.cells:=fun u hu hr hx=>by
  subst hx;rw[hu];refine⟨rfl,fun i hi hv=>?_⟩;have:i=0:=by simp at hi;exact hi
  subst this;exact hr
 cases h with
 |d h=>
  simp only[zbg,xae] at hc;refine one _ ?_ (.d h) hc.symm;cases h<;>rfl
 |gl h ht=>
  simp only[zbg,xae] at hc;refine one _ ?_ (.gl h ht) hc.symm;cases h<;>rfl
 |gv hv ht=>simp only[zbg,xae] at hc;exact one _ (by obtain⟨a,c,rfl⟩:=hv;rfl) (.gv hv ht) hc.symm
 |gt hv ht=>simp only[zbg,xae] at hc;exact one _ (by obtain⟨a,c,rfl⟩:=hv;rfl) (.gt hv ht) hc.symm
 |ref h hT=>simp only[zbg,xae] at hc;exact one _ I (.ref h hT) hc.symm
 |ms h hT hcap=>simp only[zbg,xae] at hc;exact one _ I (.ms h hT hcap) hc.symm
 |mo h hT hcap ho=>simp only[zbg,xae] at hc;exact one _ I (.mo h hT hcap ho) hc.symm
 |mc h hT hcap=>simp only[zbg,xae] at hc;exact one _ I (.mc h hT hcap) hc.symm
 |gaD hv hT=>simp only[zbg,xae] at hc;exact one _ (by obtain⟨a,c,rfl⟩:=hv;rfl) (.gaD hv hT) hc.symm
 |gaL hj hT hl hF hb hck hn hcs hr=>simp only[zbg,xae] at hc;exact one _ I (.gaL hj hT hl hF hb hck hn hcs hr) hc.symm
 |gpD hv hT=>simp only[zbg,xae] at hc;exact one _ (by obtain⟨a,rfl⟩:=hv;rfl) (.gpD hv hT) hc.symm
 |gpL hj hT hl hF hb hs hr=>simp only[zbg,xae] at hc;exact one _ I (.gpL hj hT hl hF hb hs hr) hc.symm
 |ght hv h=>simp only[zbg,xae] at hc;exact one _ (by obtain⟨a,c,rfl⟩:=hv;rfl) (.ght hv h) hc.symm
 |gh hv h=>simp only[zbg,xae] at hc;exact one _ (by obtain⟨a,c,rfl⟩:=hv;rfl) (.gh hv h) hc.symm
 |mapr h hT=>simp only[zbg,xae] at hc;exact one _ I (.mapr h hT) hc.symm
 |fn hn h=>simp only[zbg,xae] at hc;exact one _ I (.fn hn h) hc.symm
 |nils=>simp only[zbg,xae] at hc;exact one _ I .nils hc.symm
 |sn h hn=>simp only[zbg,xae] at hc;exact one _ (by obtain⟨a,n,c,rfl⟩:=hn;rfl) (.sn h hn) hc.symm
 |agg hn h=>simp only[zbg,xae] at hc;subst hc;exact⟨hn,h⟩
 |tup hn h=>simp[zbg] at hc
 |any v=>simp[zbg] at hc
def putC {α:Type}:List α->Nat->List α->Option (List α)
 |cs,_,[]=>some cs
 | [],_,_::_=>none
 |_::r,0,v::vs=>match putC r 0 vs with|some l=>some (v::l)|none=>none
 |x::r,o+1,v::vs=>match putC r o (v::vs) with|some l=>some (x::l)|none=>none
theorem zcn {α:Type}:∀ {cs:List α}{o:Nat}{vs l:List α},putC cs o vs=some l->l.length=cs.length/\(vs=[]\/o+vs.length<=cs.length)/\
  ∀i,l[i]?=if o<=i/\i<o+vs.length then vs[i-o]? else cs[i]?
 |cs,o,[],l,h=>by
  have:l=cs:=by cases cs<;>simp only[putC,xae] at h<;>exact h.symm
  subst this;refine⟨rfl,.inl rfl,fun i=>?_⟩;rw[if_neg (by simp only[xak];omega)]
 | [],o,v::vs,l,h=>by simp[putC] at h
 |x::r,0,v::vs,l,h=>by
  simp only[putC] at h;cases hr:putC r 0 vs with
  |none=>simp[hr] at h
  |some l'=>
   simp only[hr,xae] at h;subst h;obtain⟨h1,h2,h3⟩:=zcn hr;refine⟨by simp[h1],.inr ?_,fun i=>?_⟩
   ·simp only[xab];rcases h2 with rfl|h2
    ·simp
    ·omega
   ·cases i with
    |zero=>simp
    |succ i=>
     have:=h3 i;simp only[Nat.zero_le,true_and,Nat.zero_add,Nat.sub_zero,xab,List.getElem?_cons_succ] at this ⊢;rw[this];by_cases hi:i<vs.length
     ·rw[if_pos hi,if_pos od]
     ·rw[if_neg hi,if_neg od]
 |x::r,o+1,v::vs,l,h=>by
  simp only[putC] at h;cases hr:putC r o (v::vs) with
  |none=>simp[hr] at h
  |some l'=>
   simp only[hr,xae] at h;subst h;obtain⟨h1,h2,h3⟩:=zcn hr;refine⟨by simp[h1],.inr ?_,fun i=>?_⟩
   ·simp only[xab];rcases h2 with h2|h2
    ·cases h2
    ·simp only[xab] at h2;omega
   ·cases i with
    |zero=>rw[if_neg od];simp
    |succ i=>
     have:=h3 i;simp only[List.getElem?_cons_succ];rw[this];by_cases hi:o<=i/\i<o+(v::vs).length
     ·rw[if_pos hi,if_pos od,show i+1-(o+1)=i-o by omega]
     ·rw[if_neg hi,if_neg od]
theorem AllR.put {G:Gh}{T:TokF}{w:World}{cs vs l:List AV}{us xs:Array Value}{o:Nat} (h:AllR G T w cs us) (hv:AllR G T w vs xs) (hp:putC cs o vs=some l)
  {ys:Array Value} (hs:ys.size=us.size) (hy:∀i,ys[i]?=if o<=i/\i<o+xs.size then xs[i-o]? else us[i]?):AllR G T w l ys:=by
 obtain⟨h1,h2,h3⟩:=zcn hp;refine⟨by rw[hs,h.size,h1],fun i hi hvi=>?_⟩;have e1:=h3 i;have e2:=hy i;rw[hv.size] at e2;rw[xan hi] at e1;rw[Array.getElem?_eq_getElem hvi] at e2;by_cases hc:o<=i/\i<o+vs.length
 ·rw[if_pos hc] at e1 e2;have hlt:i-o<vs.length:=by omega
  have hlt':i-o<xs.size:=by rw[hv.size];exact hlt
  rw[xan hlt] at e1;rw[Array.getElem?_eq_getElem hlt'] at e2;have:=hv.rel (i-o) hlt hlt';rw[Option.some.inj e1,Option.some.inj e2];exact this
 ·rw[if_neg hc] at e1 e2;have hlt:i<cs.length:=by omega
  have hlt':i<us.size:=by rw[h.size];exact hlt
  rw[xan hlt] at e1;rw[Array.getElem?_eq_getElem hlt'] at e2;rw[Option.some.inj e1,Option.some.inj e2];exact h.rel i hlt hlt'
theorem PreR.put {G:Gh}{T:TokF}{w:World}{cs vs l:List AV}{us xs:Array Value}{o:Nat} (h:PreR G T w cs us) (hv:AllR G T w vs xs) (hp:putC cs o vs=some l)
  {ys:Array Value} (hs:ys.size=us.size) (hy:∀i,ys[i]?=if o<=i/\i<o+xs.size then xs[i-o]? else us[i]?):PreR G T w l ys:=by
 obtain⟨h1,h2,h3⟩:=zcn hp;refine⟨by rw[hs,h1];exact h.size,fun i hi hvi=>?_⟩;have e1:=h3 i;have e2:=hy i;rw[hv.size] at e2;rw[xan hi] at e1;rw[Array.getElem?_eq_getElem hvi] at e2;by_cases hc:o<=i/\i<o+vs.length
 ·rw[if_pos hc] at e1 e2;have hlt:i-o<vs.length:=by omega
  have hlt':i-o<xs.size:=by rw[hv.size];exact hlt
  rw[xan hlt] at e1;rw[Array.getElem?_eq_getElem hlt'] at e2;have:=hv.rel (i-o) hlt hlt';rw[Option.some.inj e1,Option.some.inj e2];exact this
 ·rw[if_neg hc] at e1 e2;have hlt:i<cs.length:=by omega
  have hlt':i<us.size:=Nat.lt_of_lt_of_le hlt h.size;rw[xan hlt] at e1;rw[Array.getElem?_eq_getElem hlt'] at e2;rw[Option.some.inj e1,Option.some.inj e2];exact h.rel i hlt hlt'
theorem zmr (off:Nat):∀(vs:List Value) (j:Nat) (cells:Array Value),off+j+vs.length<=cells.size->
  let r:=(vs.zipIdx j).foldl (fun cs (p:Value×Nat)=>cs.setIfInBounds (off+p.2) p.1) cells
  r.size=cells.size/\∀i,r[i]?=if off+j<=i/\i<off+j+vs.length then vs[i-(off+j)]? else cells[i]?
 | [],j,cells,h=>by
  simp only[List.zipIdx_nil,List.foldl_nil,xak,true_and];intro i;rw[if_neg od]
 |v::vs,j,cells,h=>by
  simp only[xab] at h;have ih:=zmr off vs (j+1) (cells.setIfInBounds (off+j) v) oq;simp only[List.zipIdx_cons,List.foldl_cons] at ih ⊢;refine⟨by rw[ih.1];simp,fun i=>?_⟩;rw[ih.2 i];simp only[xab];by_cases h1:off+(j+1)<=i/\i<off+(j+1)+vs.length
  ·rw[if_pos h1,if_pos od,show i-(off+j)=(i-(off+(j+1)))+1 by omega];simp
  ·rw[if_neg h1];by_cases h2:i=off+j
   ·subst h2;rw[if_pos od];simp[show off+j<cells.size by omega]
   ·rw[if_neg od];simp[Ne.symm h2]
def ze8 (place:Nat->Option (Nat×Nat)):List AV->List (Nat×AV)->Option (List AV)
 |cells,[]=>some cells
 |cells,(i,v)::rest=>match place i,zbg v with
  |some (off,size),some (v0::vs)=>bif Nat.beq (vs.length+1) size then match putC cells off (v0::vs) with
    |some l=>ze8 place l rest
    |none=>none
   else none
  |_,_=>none
theorem ze9 {G:Gh}{T:TokF}{w:World}{place:Nat->Option (Nat×Nat)}:∀(parts:List (Nat×AV)) (pv:List (Nat×Value)) (cells l:List AV) (cv:Array Value),
  ze8 place cells parts=some l->AllR G T w cells cv->pv.length=parts.length->(∀i (h1:i<parts.length) (h2:i<pv.length),pv[i].1=parts[i].1/\RelA G T w parts[i].2 pv[i].2)->
  ∃lv,Instr.fill place cv pv=some lv/\AllR G T w l lv
 | [],pv,cells,l,cv,h,hc,hl,_=>by
  have:pv=[]:=List.length_eq_zero_iff.1 hl;subst this;simp only[ze8,xae] at h;subst h;exact⟨cv,rfl,hc⟩
 |(i,v)::rest,[],cells,l,cv,h,hc,hl,_=>by simp at hl
 |(i,v)::rest,(i',u)::pr,cells,l,cv,h,hc,hl,hr=>by
  obtain⟨e1,e2⟩:=hr 0 og og;simp only[List.getElem_cons_zero] at e1 e2;subst e1;simp only[ze8] at h;cases hp:place i' with
  |none=>simp[hp] at h
  |some os=>
   obtain⟨off,size⟩:=os;cases hcv:zbg v with
   |none=>simp[hp,hcv] at h
   |some vs'=>
    cases vs' with
    |nil=>simp[hp,hcv] at h
    |cons v0 vs=>
     simp only[hp,hcv] at h;cases hb:Nat.beq (vs.length+1) size with
     |false=>simp[hb] at h
     |true=>
      simp only[hb,cond_true] at h;have hsz:(v0::vs).length=size:=xap hb;cases hpc:putC cells off (v0::vs) with
      |none=>simp[hpc] at h
      |some l'=>
       simp only[hpc] at h;have hu:=ze7 e2 hcv;obtain⟨h1,h2,h3⟩:=zcn hpc;simp only[Instr.fill,hp];have h2':off+(v0::vs).length<=cells.length:=h2.resolve_left og;have hs1:=hu.size;have hs2:=hc.size;have hf:=zmr off u.cells.toList 0 cv (by simp only[Array.length_toList];omega);simp only[Nat.add_zero] at hf;have hal:AllR G T w l' ((u.cells.toList.zipIdx 0).foldl (fun cs (p:Value×Nat)=>cs.setIfInBounds (off+p.2) p.1) cv):=
        hc.put hu hpc hf.1 (fun i=>by rw[hf.2 i];simp)
       obtain⟨lv,hlv,hal'⟩:=ze9 rest pr l' l _ h hal (by simpa using hl) (fun i h1 h2=>by
        have:=hr (i+1) (by simpa using h1) (by simpa using h2);simpa only[List.getElem_cons_succ] using this)
       refine⟨lv, ?_,hal'⟩;rw[if_neg (by simp only[Bool.or_eq_true,xah,not_or];omega)];rw[<-hlv];congr 1
       rw[<-Array.foldl_toList];simp
def zc1:List Value->Option (List AV)
 | []=>some []
 |v::r=>match zex v with
  |some x=>match zc1 r with|some l=>some (x::l)|none=>none
  |none=>none
theorem zcS {G:Gh}{T:TokF}{w:World}:∀ {vs:List Value}{l:List AV},zc1 vs=some l->AllR G T w l vs.toArray
 | [],l,h=>by simp only[zc1,xae] at h;subst h;exact⟨rfl,fun i hi=>by simp at hi⟩
 |v::r,l,h=>by
  simp only[zc1] at h;cases hv:zex v with
  |none=>simp[hv] at h
  |some x=>
   simp only[hv] at h;cases hr:zc1 r with
   |none=>simp[hr] at h
   |some l'=>
    simp only[hr,xae] at h;subst h;have ih:=zcS (G:=G) (T:=T) (w:=w) hr;have h1:=ih.size;refine⟨by simpa using h1,fun i hi hvi=>?_⟩;cases i with
    |zero=>simpa using zga hv
    |succ i=>
     have:=ih.rel i (by simpa using hi) (by simpa using hvi);simpa using this
structure TyZ (P:Program) (t k:Nat) (zs:List AV):Prop where
 inf:∃i z,P.info? t=some i/\i.size=k/\i.zero=some z/\zc1 z.cells.toList=some zs
structure StT (P:Program) (t:Nat) (places:List (Nat×Nat)) (zs:List AV):Prop where
 out:∃i z fs,P.info? t=some i/\i.zero=some z/\zc1 z.cells.toList=some zs/\P.underlying t=some (.struct fs)/\
  fs.toList.mapM (fun f=>(P.info? f.type).map fun i=>(f.offset,i.size))=some places
section
variable {c:Ctx}{all:Array Oper}{chk:List Rec->Prop}{os:List Oper}{recs:List Rec}{env:Env}{hp:Hp}{Q:St->Prop}
variable {d ty:Nat}{pos:String}{af:Array Edge}{g:Option (Nat×Bool)}{pg:List (Nat×AV)}
variable {t yt:TypeId}{x y:Operand}
theorem zoB {xs:List Operand}{vs:List AV}{ks:List Nat}{a:Act}{G:Gh}{T:TokF}{w:World}
  (h:vs.length=xs.length/\∀i (hi:i<vs.length) (hx:i<xs.length),RelA G T w vs[i] (a.eval xs[i])) (hk:ks.length=xs.length):
  ∀i (h1:i<(ks.zip vs).length) (h2:i<(ks.zip (xs.map a.eval)).length),(ks.zip (xs.map a.eval))[i].1=(ks.zip vs)[i].1/\RelA G T w (ks.zip vs)[i].2 (ks.zip (xs.map a.eval))[i].2:=by
 intro i h1 h2;simp only[List.length_zip,xac] at h1 h2;simp only[List.getElem_zip,List.getElem_map];exact⟨trivial,h.2 i od od⟩
theorem Walk.build {parts:Array (Nat×Operand)}{ks:List Nat}{xs:List Operand}{vs zs r:List AV}{places:List (Nat×Nat)} (ht:StT c.P t places zs)
  (hparts:parts=(ks.zip xs).toArray) (hlen:ks.length=xs.length) (hg:GH all env g pg) (hd:Nat.blt d c.n=true) (hx:opdL env xs=some vs)
  (hf:ze8 (places[·]?) zs (ks.zip vs)=some r)
  (hn:Walk c all chk os (zam (pg++opFL xs vs) [] [] ⟨some (d,.agg r),[]⟩::recs) ⟨(d,.agg r)::env,hp⟩ Q):
  Walk c all chk (⟨some d,.build t parts,ty,pos,af,g⟩::os) recs ⟨env,hp⟩ Q:=by
 subst hparts;refine xbM hg hd hx (fun a G T w h=>?_) hn;obtain⟨i,z,fs,h1,h2,h3,h4,h5⟩:=ht.out;have hz:=zcS (G:=G) (T:=T) (w:=w) h3;obtain⟨lv,hlv,hal⟩:=ze9 (ks.zip vs) (ks.zip (xs.map a.eval)) zs r z.cells hf (by simpa using hz) (by simp[h.1]) (zoB h hlen);refine⟨.agg lv, ?_,.agg hal.size hal.rel⟩;have hb:c.P.built t ((ks.zip xs).toArray.map fun(i,x)=>(i,a.eval x)).toList=some lv:=by
  unfold Program.built;simp only[h1,h4,h2,h5];rw[<-hlv];congr 1
  ·funext i;simp
  ·simp[List.zip_map_right,Prod.map]
 simp only[execOp,Sem.run_bind,run_build w t _ lv hb,Result.andThen_ok,Sem.run_pure]
theorem RelR.bound {G:Gh}{T:TokF}{w:World}{id:Nat}{r:Res} (h:RelR G T w id r):∀b,b∈G.loc id->b<w.heap.size:=by
 intro b hb;have lt:∀ {b:Nat}{o:Obj},w.heap[b]?=some o->b<w.heap.size:=fun {b o} h=>by
  rcases Nat.lt_or_ge b w.heap.size with h' | h'
  ·exact h'
  ·rw[Array.getElem?_eq_none h'] at h;cases h
 cases r with
 |box cs=>
  obtain⟨b',vs,e,h1,h2,_⟩:=h;rw[h1] at hb;simp only[List.mem_singleton] at hb;subst hb;exact lt h2
 |tok n k=>exact h b hb
 |map ks=>
  obtain⟨b',es,cl,h1,h2,_⟩:=h;rw[h1] at hb;simp only[List.mem_singleton] at hb;subst hb;exact lt h2
 |tree cs=>
  obtain⟨b',vs,e,Ss,h⟩:=h;exact(h.mine b hb).2
theorem R.tokLoc {G:Gh}{s:St}{a:Act}{w:World} (hr:R c G s a w){id n k:Nat} (h:tokf s.hp id=some (n,k)):∀b,b∈G.loc id->b<w.heap.size:=
 (hr.heap id _ (zak.1 h)).bound
theorem R.grow {G G':Gh}{s:St}{a:Act}{w w':World} (hr:R c G s a w) (hF:∀b,b<w.heap.size->w'.heap[b]?=w.heap[b]?/\G'.F b=G.F b) (hloc:G'.loc=G.loc)
  (hos:w'.os=w.os) (htp:w'.tape=w.tape) (hou:w'.output=w.output) (hsz:w.heap.size<=w'.heap.size) (htop:∀b,w'.heap.size<=b->G'.F b=0):R c G' s a w':=by
 have hcell:∀b o,o<G.F b->o<G'.F b/\w'.cell? ⟨b,o,none⟩=w.cell? ⟨b,o,none⟩:=fun b o ho=>by
  have hb:b<w.heap.size:=by
   rcases Nat.lt_or_ge b w.heap.size with h|h
   ·exact h
   ·rw[hr.top b h] at ho;omega
  obtain⟨h1,h2⟩:=hF b hb;exact⟨by rw[h2];exact ho,by simp only[World.cell?,h1]⟩
 have hm:∀ {x:AV}{v:Value},RelA G (tokf s.hp) w x v->RelA G' (tokf s.hp) w' x v:=fun hx=>
  hx.mono hcell (fun id _=> .inl (by rw[hloc])) (fun id _ p hp=>⟨hp,fun b hb=>by obtain⟨n,k⟩:=p;exact hF b (hr.tokLoc hp b hb)⟩)
 refine⟨hr.size,hr.defers,fun i v h=>hm (hr.slots i v h),fun id r h=>?_,fun id id' h1 h2 h3=>by rw[hloc];exact hr.disj id id' h1 h2 h3,
  fun id h=>by rw[hloc];exact hr.new id h,hr.frm.trans (own1:=[]) ⟨hos,htp,hou,hsz,fun b hb _=>hF b hb,hcell⟩ og,htop,fun id l hl=>by rw[hloc];exact hr.kept id l hl⟩
 have h0:=hr.heap id r h;have hb:=h0.bound;cases r with
 |box cs=>
  obtain⟨b,vs,e,h1,h2,h3,h4,h5⟩:=h0;obtain⟨e1,e2⟩:=hF b (hb b (by simp[h1]));exact⟨b,vs,e,by rw[hloc];exact h1,e1.trans h2,h3,e2.trans h4,fun i hi hv=>hm (h5 i hi hv)⟩
 |tok n k=>exact fun b h1=>by rw[hloc] at h1;exact Nat.lt_of_lt_of_le (h0 b h1) hsz
 |map ks=>
  obtain⟨b,es,cl,h1,h2,h3,h4⟩:=h0;obtain⟨e1,e2⟩:=hF b (hb b (by simp[h1]));exact⟨b,es,cl,by rw[hloc];exact h1,e1.trans h2,e2.trans h3,h4⟩
 |tree cs=>exact zbh h0 (by rw[hloc]) (fun b hb'=>hF b (hb b hb')) hsz (fun _ _ _=>hm)
theorem R.rename {G:Gh}{s:St}{a:Act}{w:World} (hr:R c G s a w){id:Nat} (h0:getH s.hp id=none) (hocc:zcx id s) (l:List Nat):R c { G with loc:=fun i=>bif Nat.beq i id then l else G.loc i } s a w:=by
 have hne:∀ {i:Nat},i≠id->(bif Nat.beq i id then l else G.loc i)=G.loc i:=fun {i} h=>by
  cases hb:Nat.beq i id with
  |true=>exact absurd (xap hb) h
  |false=>rfl
 have hm:∀ {x:AV}{v:Value},id∉x.ids->RelA G (tokf s.hp) w x v->RelA { G with loc:=fun i=>bif Nat.beq i id then l else G.loc i } (tokf s.hp) w x v:=fun hx hxx=>
  hxx.mono (fun _ _ ho=>⟨ho,rfl⟩) (fun i hi=> .inl (hne (fun e=>hx (e ▸ hi)))) (fun i _ p hp=>⟨hp,fun _ _=>⟨rfl,rfl⟩⟩)
 have hs:∀ {i:Nat},(getH s.hp i).isSome->i≠id:=fun {i} h e=>by subst e;rw[h0] at h;cases h
 refine⟨hr.size,hr.defers,fun i v h=>hm (hocc.1 i v h) (hr.slots i v h),fun i r h=>?_,fun i j h1 h2 h3 b=>?_,fun i h b=>?_,hr.frm,hr.top,fun i m hm'=>?_⟩
 ·have hi:i≠id:=hs (by rw[h];rfl);have hh:=hr.heap i r h;cases r with
  |box cs=>
   obtain⟨b,vs,e,h1,h2,h3,h4,h5⟩:=hh;refine⟨b,vs,e,(hne hi).trans h1,h2,h3,h4,fun j hj hv=>hm (fun hx=>hocc.2 i _ h ?_) (h5 j hj hv)⟩;exact xay (xao hj) hx
  |tok n k=>exact fun b h1=>hh b (by have h2:=hne hi;simp only[h2] at h1;exact h1)
  |map ks=>
   obtain⟨b,es,cl,h1,h2,h3,h4⟩:=hh;exact⟨b,es,cl,(hne hi).trans h1,h2,h3,h4⟩
  |tree cs=>exact zbh hh (hne hi) (fun _ _=>⟨I,I⟩) (Nat.le_refl _) (fun x hx v=>hm (fun hm'=>hocc.2 i _ h (xay hx hm')))
 ·show b∈(bif Nat.beq i id then l else G.loc i)->b∉(bif Nat.beq j id then l else G.loc j)
  rw[hne (hs h1),hne (hs h2)];exact hr.disj i j h1 h2 h3 b
 ·show b∈(bif Nat.beq i id then l else G.loc i)->_
  rw[hne (hs h)];exact hr.new i h b
 ·have:=hr.kept i m hm';exact⟨(xam List.head? (hne (hs this.2.1))).trans this.1,this.2⟩
theorem R.name {G:Gh}{s:St}{a:Act}{w:World} (hr:R c G s a w){id:Nat}{r:Res} (h0:getH s.hp id=none) (hocc:zcx id s)
  (hrel:RelR G (tokf ((id,some r)::s.hp)) w id r) (hdisj:∀i,(getH s.hp i).isSome->∀b,b∈G.loc i->b∉G.loc id) (hnew:∀b,b∈G.loc id->b∈c.own\/c.w0.heap.size<=b):
  R c G { s with hp:=(id,some r)::s.hp } a w:=by
 have hget:∀i,getH ((id,some r)::s.hp) i=if i=id then some r else getH s.hp i:=fun i=>by
  simp only[getH];by_cases h:i=id
  ·subst h;simp
  ·have:Nat.beq id i=false:=by
    cases hb:Nat.beq id i with
    |true=>exact absurd (xap hb).symm h
    |false=>rfl
   simp[this,h]
 have htok:∀i p,i≠id->tokf ((id,some r)::s.hp) i=some p->tokf s.hp i=some p:=fun i p h1 h2=>by
  obtain⟨n,k⟩:=p;have:=zak.1 h2;rw[hget,if_neg h1] at this;exact zak.2 this
 have hm:∀ {x:AV}{v:Value},id∉x.ids->RelA G (tokf s.hp) w x v->RelA G (tokf ((id,some r)::s.hp)) w x v:=fun hx hxx=>
  hxx.mono (fun _ _ ho=>⟨ho,rfl⟩) (fun _ _=> .inl rfl) (fun i hi p hp=>⟨htok i p (fun e=>hx (e ▸ hi)) hp,fun _ _=>⟨rfl,rfl⟩⟩)
 refine⟨hr.size,hr.defers,fun i v h=>hm (hocc.1 i v h) (hr.slots i v h),fun i r' h=>?_,fun i j h1 h2 h3 b hb=>?_,fun i h b hb=>?_,hr.frm,hr.top,fun i m hm'=>?_⟩
 ·have h':(if i=id then some r else getH s.hp i)=some r':=by rw[<-hget];exact h
  by_cases hi:i=id
  ·subst hi;rw[if_pos rfl] at h';cases h'
   exact hrel
  ·rw[if_neg hi] at h';have hh:=hr.heap i r' h';cases r' with
   |box cs=>
    obtain⟨b,vs,e,h1,h2,h3,h4,h5⟩:=hh;exact⟨b,vs,e,h1,h2,h3,h4,fun j hj hv=>hm (fun hx=>hocc.2 i _ h' (xay (xao hj) hx)) (h5 j hj hv)⟩
   |tok n k=>exact hh
   |map ks=>exact hh
   |tree cs=>exact zbh hh I (fun _ _=>⟨I,I⟩) (Nat.le_refl _) (fun x hx v=>hm (fun hm'=>hocc.2 i _ h' (xay hx hm')))
 ·have e1:(if i=id then some r else getH s.hp i).isSome=true:=by rw[<-hget];exact h1
  have e2:(if j=id then some r else getH s.hp j).isSome=true:=by rw[<-hget];exact h2
  by_cases hi:i=id
  ·subst hi;rw[if_neg (Ne.symm h3)] at e2;intro hb';exact hdisj j e2 b hb' hb
  ·rw[if_neg hi] at e1;by_cases hj:j=id
   ·subst hj;exact hdisj i e1 b hb
   ·rw[if_neg hj] at e2;exact hr.disj i j e1 e2 h3 b hb
 ·have e1:(if i=id then some r else getH s.hp i).isSome=true:=by rw[<-hget];exact h
  by_cases hi:i=id
  ·subst hi;exact hnew b hb
  ·rw[if_neg hi] at e1;exact hr.new i e1 b hb
 ·have:=hr.kept i m hm';have hi:i≠id:=fun e=>by subst e;rw[h0] at this;simp at this
  refine⟨this.1, ?_, ?_⟩
  ·show(getH ((id,some r)::s.hp) i).isSome
   rw[hget,if_neg hi];exact this.2.1
  ·cases hT:tokf ((id,some r)::s.hp) i with
   |none=>rfl
   |some p=>rw[htok i p hi hT] at this;simp at this
theorem zeF {w:World}{o:Obj}{b:Nat} (h:b<w.heap.size):(w.alloc o).heap[b]?=w.heap[b]?:=by
 show(w.heap.push o)[b]?=_
 rw[Array.getElem?_push,if_neg od]
theorem zew {w:World}{o:Obj}:(w.alloc o).heap[w.heap.size]?=some o:=by
 show(w.heap.push o)[w.heap.size]?=_
 simp
theorem R.alloc {G:Gh}{s:St}{a:Act}{w:World} (hr:R c G s a w) (o:Obj) (n:Nat):
  R c { G with F:=fun b=>bif Nat.beq b w.heap.size then n else G.F b } s a (w.alloc o):=by
 refine hr.grow (fun b hb=>⟨zeF hb, ?_⟩) I I I I og (fun b hb=>?_)
 ·have:Nat.beq b w.heap.size=false:=by
   cases h:Nat.beq b w.heap.size with
   |true=>have:=xap h;omega
   |false=>rfl
  simp[this]
 ·simp only[World.size_alloc] at hb;have:Nat.beq b w.heap.size=false:=by
   cases h:Nat.beq b w.heap.size with
   |true=>have:=xap h;omega
   |false=>rfl
  simp only[this,cond_false];exact hr.top b od
theorem R.allocBox {G:Gh}{s:St}{a:Act}{w:World} (hr:R c G s a w){id:Nat}{cs:List AV}{vs:Array Value}{e:TypeId} (h0:getH s.hp id=none) (hocc:zcx id s)
  (hcs:AllR G (tokf s.hp) w cs vs) (hid:id∉AV.idsL cs):
  ∃G',R c G' { s with hp:=(id,some (.box cs))::s.hp } a (w.alloc (.cells vs e))/\G'.loc id=[w.heap.size]:=by
 have h1:=(hr.alloc (.cells vs e) 0).rename h0 hocc [w.heap.size];have hloc:∀i,i≠id->(bif Nat.beq i id then [w.heap.size] else G.loc i)=G.loc i:=fun i h=>by
  cases hb:Nat.beq i id with
  |true=>exact absurd (xap hb) h
  |false=>rfl
 refine⟨_,h1.name h0 hocc ?_ (fun i hi b hb=>?_) (fun b hb=>?_),by simp⟩
 ·refine⟨w.heap.size,vs,e,by simp,zew,hcs.pre.size,by simp,fun i hi hv=>?_⟩;have:=hcs.rel i hi hv;have hx:id∉(cs[i]).ids:=fun h=>hid (xay (xao hi) h);refine this.mono (fun b o ho=>?_) (fun j hj=> .inl (hloc j (fun e=>hx (e ▸ hj)))) (fun j hj p hp=>?_)
  ·have hb:b<w.heap.size:=by
    rcases Nat.lt_or_ge b w.heap.size with h|h
    ·exact h
    ·rw[hr.top b h] at ho;omega
   have:Nat.beq b w.heap.size=false:=by
    cases h:Nat.beq b w.heap.size with
    |true=>have:=xap h;omega
    |false=>rfl
   exact⟨by simpa [this] using ho,World.cell?_alloc_lt w _ _ hb⟩
  ·have hj':j≠id:=fun e=>hx (e ▸ hj);obtain⟨n,k⟩:=p;have hp':=zak.1 hp;simp only[getH] at hp';have hbb:Nat.beq id j=false:=by
    cases hb:Nat.beq id j with
    |true=>exact absurd (xap hb).symm hj'
    |false=>rfl
   rw[hbb] at hp';have hp2:tokf s.hp j=some (n,k):=zak.2 hp';refine⟨hp2,fun b hb=>?_⟩;have hlt:=hr.tokLoc hp2 b hb;have:Nat.beq b w.heap.size=false:=by
    cases h:Nat.beq b w.heap.size with
    |true=>have:=xap h;omega
    |false=>rfl
   exact⟨zeF hlt,by simp[this]⟩
 ·have hi':i≠id:=fun e=>by subst e;rw[h0] at hi;cases hi
  have hb':b∈G.loc i:=by have:=hloc i hi';simp only[this] at hb;exact hb
  have hlt:b<w.heap.size:=by
   obtain⟨r,hrr⟩:=Option.isSome_iff_exists.1 hi;exact(hr.heap i r hrr).bound b hb'
  simp;omega
 ·simp at hb;subst hb;exact .inr hr.frm.size
theorem xbG {op:Op}{xs:List Operand}{vs cs:List AV}{v:AV}{id:Nat} (hg:GH all env g pg) (hd:Nat.blt d c.n=true) (hx:opdL env xs=some vs)
  (h0:getH hp id=none) (ho1:occE id env=false) (ho2:occH id hp=false) (hid:zaG id (AV.idsL cs)=false)
  (h:∀(a:Act) (G:Gh) (T:TokF) (w:World),(vs.length=xs.length/\∀i (hi:i<vs.length) (hx:i<xs.length),RelA G T w vs[i] (a.eval xs[i]))->
   ∃z us e,(execOp a.eval ⟨some d,op,ty,pos,af,g⟩).run c.P w = .ok (.value z) (w.alloc (.cells us e))/\AllR G T w cs us/\
    ∀G' T' w',G'.loc id=[w.heap.size]->T' id=none->RelA G' T' w' v z)
  (hn:Walk c all chk os (zam (pg++opFL xs vs) [] [id] ⟨some (d,v),[(id,some (.box cs))]⟩::recs) ⟨(d,v)::env,(id,some (.box cs))::hp⟩ Q):
  Walk c all chk (⟨some d,op,ty,pos,af,g⟩::os) recs ⟨env,hp⟩ Q:=by
 refine⟨pg++opFL xs vs,[],[id],_, ?_,zat hg.facts (zb9 hx),by simp,fun i hi=>?_,hn⟩
 ·intro s a w hrel hp' hh hcr K Q' hK;obtain⟨G,hr⟩:=hrel;obtain⟨h1,h2⟩:=hcr id og;obtain⟨z,us,e,e1,e2,e3⟩:=h a G (tokf s.hp) w (zcJ hr (zca hx (fun p hm=>hp' p (by simp[hm]))));have hid':id∉AV.idsL cs:=fun hm=>by rw[zaw.2 hm] at hid;cases hid
  obtain⟨G',hr',hl⟩:=hr.allocBox h1 h2 e2 hid' (e:=e);unfold wpO;rw[if_pos (hg.gf.wanted hr (fun p hm=>hp' p (by simp[hm])))];unfold Oper.wp;rw[e1,Oper.upon_value];exact hK _ _ ⟨G',hr'.put (e3 G' _ _ hl (by simp[tokf,getH])) hd⟩
 ·simp only[List.mem_singleton] at hi;subst hi;exact⟨h0,ziX ho1 ho2⟩
theorem zmQ {P:Program}{t:TypeId}{i:TypeInfo}{z:Value}{w:World} (h1:P.info? t=some i) (h2:i.zero=some z):(zeroValue t).run P w = .ok z w:=by
 simp[zeroValue,zel h1,h2]
theorem Walk.alloc {id k:Nat}{zs:List AV} (ht:TyZ c.P t k zs) (hz:AV.idsL zs=[]) (hg:GH all env g pg) (hd:Nat.blt d c.n=true)
  (h0:getH hp id=none) (ho1:occE id env=false) (ho2:occH id hp=false)
  (hn:Walk c all chk os (zam (pg++[]) [] [id] ⟨some (d,.ref id 0),[(id,some (.box zs))]⟩::recs) ⟨(d,.ref id 0)::env,(id,some (.box zs))::hp⟩ Q):
  Walk c all chk (⟨some d,.alloc t,ty,pos,af,g⟩::os) recs ⟨env,hp⟩ Q:=by
 refine xbG (xs:=[]) (vs:=[]) hg hd I h0 ho1 ho2 (by rw[hz];rfl) (fun a G T w _=>?_) hn;obtain⟨i,z,h1,h2,h3,h4⟩:=ht.inf;refine⟨.pointer (some ⟨w.heap.size,0,none⟩),z.cells,t, ?_,by simpa using zcS h4,fun G' T' w' hl hT=> .ref (zgZ hl) hT⟩;simp only[execOp,Instr.alloc,Sem.run_bind,zmQ h1 h3,Result.andThen_ok];simp[newVar,newRow]
theorem Walk.box {id:Nat}{v:AV}{cs:List AV} (hg:GH all env g pg) (hd:Nat.blt d c.n=true) (hx:opd env x=some v) (hc:zbg v=some cs)
  (h0:getH hp id=none) (ho1:occE id env=false) (ho2:occH id hp=false) (hid:zaG id (AV.idsL cs)=false)
  (hn:Walk c all chk os (zam (pg++opFL [x] [v]) [] [id] ⟨some (d,.ref id 0),[(id,some (.box cs))]⟩::recs) ⟨(d,.ref id 0)::env,(id,some (.box cs))::hp⟩ Q):
  Walk c all chk (⟨some d,.box t x,ty,pos,af,g⟩::os) recs ⟨env,hp⟩ Q:=by
 refine xbG (xs:=[x]) (vs:=[v]) hg hd (by simp[opdL,hx]) h0 ho1 ho2 hid (fun a G T w h=>?_) hn;have h1:=h.2 0 og og;simp only[List.getElem_cons_zero] at h1;refine⟨.pointer (some ⟨w.heap.size,0,none⟩),(a.eval x).cells,t, ?_,ze7 h1 hc,fun G' T' w' hl hT=> .ref (zgZ hl) hT⟩;simp[execOp,Instr.box,newVar,newRow]
end
def AV.one:AV->Bool
 | .agg _=>false
 | .tup _=>false
 | .any=>false
 |_=>true
theorem RelA.one {G:Gh}{T:TokF}{w:World}{x:AV}{v:Value} (h:RelA G T w x v) (h1:x.one=true):v.oneCell'=true:=by
 cases h with
 |d h=>cases h<;>rfl
 |gl h _=>cases h<;>rfl
 |gv hv _=>obtain⟨a,c,rfl⟩:=hv;rfl
 |gt hv _=>obtain⟨a,c,rfl⟩:=hv;rfl
 |ref _ _=>rfl
 |ms _ _ _=>rfl
 |mo _ _ _ _=>rfl
 |mc _ _ _=>rfl
 |gaD hv _=>obtain⟨a,c,rfl⟩:=hv;rfl
 |gaL _ _ _ _ _ _ _ _ _=>rfl
 |gpD hv _=>obtain⟨a,rfl⟩:=hv;rfl
 |gpL _ _ _ _ _ _ _=>rfl
 |ght hv _=>obtain⟨a,c,rfl⟩:=hv;rfl
 |gh hv _=>obtain⟨a,c,rfl⟩:=hv;rfl
 |mapr _ _=>rfl
 |fn _ _=>rfl
 |nils=>rfl
 |sn _ hn=>obtain⟨a,n,c,rfl⟩:=hn;rfl
 |agg _ _=>simp[AV.one] at h1
 |tup _ _=>simp[AV.one] at h1
 |any _=>simp[AV.one] at h1
def zgk:List AV->Bool
 | []=>true
 |x::r=>x.one&&zgk r
theorem zgz:∀ {l:List AV},zgk l=true->∀x,x∈l->x.one=true
 |y::r,h,x,hx=>by
  simp only[zgk,xad] at h;rcases List.mem_cons.1 hx with rfl|hx
  ·exact h.1
  ·exact zgz h.2 x hx
section
variable {c:Ctx}
theorem zaa {id i:Nat}{r:Option Res}{hp:Hp}:getH ((id,r)::hp) i=if i=id then r else getH hp i:=by
 simp only[getH];by_cases h:i=id
 ·subst h;simp
 ·have:Nat.beq id i=false:=by
   cases hb:Nat.beq id i with
   |true=>exact absurd (xap hb).symm h
   |false=>rfl
  simp[this,h]
theorem R.setBox {G:Gh}{s:St}{a:Act}{w:World} (hr:R c G s a w){id b:Nat}{cs cs':List AV}{vs vs':Array Value}{e:TypeId} (hb:getH s.hp id=some (.box cs)) (hl:G.loc id=[b])
  (hw:w.heap[b]?=some (.cells vs e (0,0))) (hF:G.F b=0) (hcs:PreR G (tokf s.hp) w cs' vs'):
  R c G { s with hp:=(id,some (.box cs'))::s.hp } a (w.setRow b vs'):=by
 have htok:tokf ((id,some (.box cs'))::s.hp)=tokf s.hp:=by
  funext i
  unfold tokf;rw[zaa];by_cases h:i=id
  ·subst h;rw[if_pos rfl,hb]
  ·rw[if_neg h]
 have hother:∀k,k≠b->(w.setRow b vs').heap[k]?=w.heap[k]?:=fun k hk=>setRow_other w b k vs' hk;have hcell:∀b' o,o<G.F b'->o<G.F b'/\(w.setRow b vs').cell? ⟨b',o,none⟩=w.cell? ⟨b',o,none⟩:=fun b' o ho=>by
  have hne:b'≠b:=fun e=>by subst e;rw[hF] at ho;omega
  exact⟨ho,cell_setRow_other w b vs' _ hne⟩
 have htl:∀i p,tokf s.hp i=some p->∀b',b'∈G.loc i->b'≠b:=fun i p hp b' hb' e=>by
  obtain⟨n,k⟩:=p;have h1:=zak.1 hp;have hne:i≠id:=fun e'=>by subst e';rw[hb] at h1;cases h1
  subst e;exact hr.disj i id (by rw[h1];rfl) (by rw[hb];rfl) hne b' hb' (by simp[hl])
 have hm:∀ {x:AV}{v:Value},RelA G (tokf s.hp) w x v->RelA G (tokf s.hp) (w.setRow b vs') x v:=fun hx=>
  hx.mono hcell (fun _ _=> .inl rfl) (fun i _ p hp=>⟨hp,fun b' hb'=>⟨hother b' (htl i p hp b' hb'),rfl⟩⟩)
 have hbown:=hr.new id (by rw[hb];rfl) b (by simp[hl]);refine⟨hr.size,hr.defers,fun i v h=>by rw[htok];exact hm (hr.slots i v h),fun i r h=>?_,fun i j h1 h2 h3=>hr.disj i j ?_ ?_ h3,fun i h=>hr.new i ?_,
  hr.frm.trans (own1:=[b]) ⟨rfl,rfl,rfl,by simp,fun k _ hk=>⟨hother k (fun e=>hk (by simp[e])),rfl⟩,hcell⟩ (fun k hk=>by simp only[List.mem_singleton] at hk;subst hk;exact hbown),
  fun k hk=>hr.top k (by simpa using hk),fun i l hl'=>⟨(hr.kept i l hl').1, ?_⟩⟩
 ·rw[htok];rw[zaa] at h;by_cases hi:i=id
  ·subst hi;rw[if_pos rfl] at h;cases h
   exact⟨b,vs',e,hl,setRow_heap w b vs vs' e _ hw,hcs.size,hF,fun j hj hv=>hm (hcs.rel j hj hv)⟩
  ·rw[if_neg hi] at h;have hne:∀b',b'∈G.loc i->b'≠b:=fun b' hb' e=>by
    subst e;exact hr.disj i id (by rw[h];rfl) (by rw[hb];rfl) hi b' hb' (by simp[hl])
   have hh:=hr.heap i r h;cases r with
   |box cs2=>
    obtain⟨b2,vs2,e2,h1,h2,h3,h4,h5⟩:=hh;exact⟨b2,vs2,e2,h1,(hother b2 (hne b2 (by simp[h1]))).trans h2,h3,h4,fun j hj hv=>hm (h5 j hj hv)⟩
   |tok n k=>exact fun b2 h1=>by simpa using hh b2 h1
   |map ks=>
    obtain⟨b2,es,cl,h1,h2,h3⟩:=hh;exact⟨b2,es,cl,h1,(hother b2 (hne b2 (by simp[h1]))).trans h2,h3⟩
   |tree cs2=>exact zbh hh I (fun b' hb'=>⟨hother b' (hne b' hb'),I⟩) og (fun _ _ _=>hm)
 ·rw[zaa] at h1;split at h1
  ·rename_i e;subst e;rw[hb];rfl
  ·exact h1
 ·rw[zaa] at h2;split at h2
  ·rename_i e;subst e;rw[hb];rfl
  ·exact h2
 ·rw[zaa] at h;split at h
  ·rename_i e;subst e;rw[hb];rfl
  ·exact h
 ·refine⟨?_,by show tokf ((id,some (.box cs'))::s.hp) i=none;rw[htok];exact(hr.kept i l hl').2.2⟩;show(getH ((id,some (.box cs'))::s.hp) i).isSome
  rw[zaa];split
  ·rfl
  ·exact(hr.kept i l hl').2.1
end
section
variable {c:Ctx}{all:Array Oper}{chk:List Rec->Prop}{os:List Oper}{recs:List Rec}{env:Env}{hp:Hp}{Q:St->Prop}
variable {d ty:Nat}{pos:String}{af:Array Edge}{g:Option (Nat×Bool)}{pg:List (Nat×AV)}
variable {t yt:TypeId}{x y:Operand}
theorem Walk.store {id off k:Nat}{b:Bool}{v:AV}{cs vs cs':List AV} (ht:TyS c.P t k b) (hg:GH all env g pg) (hx:opd env x=some (.ref id off)) (hy:opd env y=some v)
  (hb:getH hp id=some (.box cs)) (hv:zbg v=some vs) (hk:vs.length=k) (h1:zgk vs=true) (hne:vs≠[]) (hput:putC cs off vs=some cs')
  (hn:Walk c all chk os (zam (pg++(opF x (.ref id off)++opF y v)) [(id,.box cs)] [] ⟨none,[(id,some (.box cs'))]⟩::recs) ⟨env,(id,some (.box cs'))::hp⟩ Q):
  Walk c all chk (⟨none,.store t x y,ty,pos,af,g⟩::os) recs ⟨env,hp⟩ Q:=by
 refine⟨pg++(opF x (.ref id off)++opF y v),[(id,.box cs)],[],_, ?_,zat hg.facts (zat (zaU hx) (zaU hy)),hh1 hb,by simp,hn⟩;intro s a w hrel hp' hh _ K Q' hK;obtain⟨G,hr⟩:=hrel;have hbx:=hh1' hh;have e1:=hr.opd (zaX hx (fun p hm=>hp' p (by simp[hm])));have e2:=hr.opd (zaX hy (fun p hm=>hp' p (by simp[hm])));obtain⟨bl,hl,he⟩:=e1.ref_eq;obtain⟨b',us,e,h2,h3,h4,h5,h6⟩:=hr.heap id _ hbx;obtain rfl:=zdr hl.1 h2;have hvr:=ze7 e2 hv;obtain⟨p1,p2,p3⟩:=zcn hput;have p2':=p2.resolve_left hne;have hsz:=hvr.size;have hall:PreR G (tokf s.hp) w cs us:=⟨h4,h6⟩;let vl:=(a.eval y).cells.toList
 have hvl:vl.length=vs.length:=by simp[vl,hsz]
 have hst:=run_storeCells_at c.P bl off e vl 0 us w h3 od (fun u hu=>by
  obtain⟨i,hi,rfl⟩:=List.getElem_of_mem hu;have hi':i<vs.length:=by omega
  have:=hvr.rel i hi' (by simpa [vl] using hi);simpa [vl] using this.one (zgz h1 _ (xao hi')))
 simp only[Nat.add_zero] at hst;have hrow:PreR G (tokf s.hp) w cs' (us.toList.take off++vl++us.toList.drop (off+vl.length)).toArray:=by
  refine hall.put hvr hput ?_ (fun i=>?_)
  ·simp only[List.size_toArray,xaa,List.length_take,List.length_drop,Array.length_toList];omega
  ·simp only[List.getElem?_toArray];rw[xar,List.getElem?_append];simp only[List.length_take,Array.length_toList];by_cases hi:i<off
   ·rw[if_pos od,if_neg od];simp[hi]
   ·rw[if_neg od,List.getElem?_append];have hm:min off us.size=off:=by omega
    rw[hm];by_cases hi2:i<off+vl.length
    ·rw[if_pos od,if_pos od];simp[vl]
    ·rw[if_neg od,if_neg od];rw[List.getElem?_drop,show off+vl.length+(i-off-vl.length)=i by omega];simp
 unfold wpO;rw[if_pos (hg.gf.wanted hr (fun p hm=>hp' p (by simp[hm])))];unfold Oper.wp;have hrun:(execOp a.eval ⟨none,.store t x y,ty,pos,af,g⟩).run c.P w = .ok .skip (w.setRow bl (us.toList.take off++vl++us.toList.drop (off+vl.length)).toArray):=by
  have hsz2:(a.eval y).cells.size=k:=by omega
  simp only[execOp,he,Instr.storeAt,Instr.sureAddr,Sem.run_bind,Sem.run_pure,Result.andThen_ok,storeVar,ht.run_size];simp only[hsz2,ne_eq,not_true_eq_false,if_false];have hst':=hst;simp only[vl] at hst';simp only[Result.andThen_ok,hst',vl]
 rw[hrun,Oper.upon_skip];exact hK _ _ ⟨G,(hr.setBox hbx h2 h3 h5 hrow).putNone⟩
def AV.toD:AV->Option D
 | .d x=>some x
 | .gl _ xs=>some (.sl xs)
 | .nils=>some (.sl [])
 | .sn xs=>some (.sl xs)
 |_=>none
theorem RelA.toD {G:Gh}{T:TokF}{w:World}{x:AV}{v:Value}{y:D} (h:RelA G T w x v) (hy:x.toD=some y):RelD G.F w y v:=by
 cases h with
 |d h=>simp only[AV.toD,xae] at hy;subst hy;exact h
 |gl h _=>simp only[AV.toD,xae] at hy;subst hy;exact h
 |nils=>simp only[AV.toD,xae] at hy;subst hy;exact .nil
 |sn h _=>simp only[AV.toD,xae] at hy;subst hy;exact h
 |_=>simp[AV.toD] at hy
def toDL:List AV->Option (List D)
 | []=>some []
 |x::r=>match x.toD with
  |some y=>match toDL r with|some l=>some (y::l)|none=>none
  |none=>none
theorem zlt:∀ {l:List AV}{m:List D},toDL l=some m->m.length=l.length/\∀i (h1:i<l.length) (h2:i<m.length),(l[i]).toD=some m[i]
 | [],m,h=>by simp only[toDL,xae] at h;subst h;exact⟨rfl,fun i h=>by simp at h⟩
 |x::r,m,h=>by
  simp only[toDL] at h;cases hx:x.toD with
  |none=>simp[hx] at h
  |some y=>
   simp only[hx] at h;cases hr:toDL r with
   |none=>simp[hr] at h
   |some l=>
    simp only[hr,xae] at h;subst h;obtain⟨h1,h2⟩:=zlt hr;refine⟨by simp[h1],fun i hi hj=>?_⟩;cases i with
    |zero=>simpa using hx
    |succ i=>simpa using h2 i (by simpa using hi) (by simpa using hj)
theorem zmq {α:Type}{k:Nat}:∀ {ls:List (List α)},(∀x,x∈ls->x.length=k)->∀i (hi:i<ls.length) j,j<k->(ls.flatten)[i*k+j]?=ls[i][j]?
 | [],_,i,hi,_,_=>by simp at hi
 |x::r,hk,i,hi,j,hj=>by
  have hx:=hk x og;cases i with
  |zero=>simp[List.getElem?_append,hx,hj]
  |succ i=>
   have ih:=zmq (fun y hy=>hk y (List.mem_cons_of_mem _ hy)) i (by simpa using hi) j hj;simp only[List.flatten_cons,List.getElem_cons_succ];rw[List.getElem?_append_right (by rw[hx,Nat.add_mul];omega),hx,<-ih];congr 1
   rw[Nat.add_mul];omega
theorem zfw {α:Type}{k:Nat}:∀ {ls:List (List α)},(∀x,x∈ls->x.length=k)->ls.flatten.length=ls.length*k
 | [],_=>by simp
 |x::r,hk=>by
  simp only[List.flatten_cons,xaa,xab,zfw (fun y hy=>hk y (List.mem_cons_of_mem _ hy)),hk x og,Nat.add_mul];omega
end
def zbY:Nat->Nat->List AV->Option (List (List D))
 |0,_,[]=>some []
 |0,_,_::_=>none
 |n+1,k,l=>match cutC l 0 k with
  |some h=>match toDL h with
   |some e=>match zbY n k (l.drop k) with
    |some r=>some (e::r)
    |none=>none
   |none=>none
  |none=>none
theorem zeH {k:Nat}:∀ {n:Nat}{l:List AV}{es:List (List D)},zbY n k l=some es->es.length=n/\(∀e,e∈es->e.length=k)/\l.length=n*k/\
  ∀i (hi:i<es.length) j (hj:j<es[i].length) (hl:i*k+j<l.length),(l[i*k+j]).toD=some es[i][j]
 |0,[],es,h=>by simp only[zbY,xae] at h;subst h;exact⟨rfl,by simp,by simp,fun i hi=>by simp at hi⟩
 |0,_::_,es,h=>by simp[zbY] at h
 |n+1,l,es,h=>by
  simp only[zbY] at h;cases hc:cutC l 0 k with
  |none=>simp[hc] at h
  |some hd=>
   simp only[hc] at h;cases he:toDL hd with
   |none=>simp[he] at h
   |some e=>
    simp only[he] at h;cases hr:zbY n k (l.drop k) with
    |none=>simp[hr] at h
    |some r=>
     simp only[hr,xae] at h;subst h;obtain⟨c1,c2⟩:=zd1 hc;obtain⟨e1,e2⟩:=zlt he;obtain⟨r1,r2,r3,r4⟩:=zeH hr;have hlk:k<=l.length:=by
      rcases Nat.eq_zero_or_pos k with h0|h0
      ·omega
      ·have:=c2 (k-1) od;rw[xan od] at this;rcases Nat.lt_or_ge (0+(k-1)) l.length with h' | h'
       ·omega
       ·rw[List.getElem?_eq_none h'] at this;cases this
     refine⟨by simp[r1],fun x hx=>?_, ?_,fun i hi j hj hl=>?_⟩
     ·rcases List.mem_cons.1 hx with rfl|hx
      ·omega
      ·exact r2 x hx
     ·simp only[List.length_drop] at r3;rw[Nat.add_mul];omega
     ·cases i with
      |zero=>
       simp only[List.getElem_cons_zero] at hj ⊢;have hjk:j<k:=by omega
       have h1:=c2 j hjk;rw[xan od,xan od] at h1;have h2:=e2 j od hj;have h3:l[0*k+j]=hd[j]:=by
        have:=Option.some.inj h1;rw[this];congr 1
        omega
       rw[h3];exact h2
      |succ i=>
       simp only[List.getElem_cons_succ] at hj ⊢;have hle:(i+1)*k+j=k+(i*k+j):=by rw[Nat.add_mul];omega
       have:=r4 i (by simpa using hi) j hj (by simp only[List.length_drop];omega);rw[List.getElem_drop] at this;simp only[hle];exact this
def zbI:Nat->List AV->List AV
 |0,_=>[]
 |n+1,zs=>zs++zbI n zs
theorem zfj {zs:List AV}:∀ {n:Nat},(zbI n zs).length=n*zs.length
 |0=>by simp[zbI]
 |n+1=>by simp[zbI,zfj (n:=n),Nat.add_mul];omega
theorem zkj {zs:List AV}:∀ {n i:Nat},i<n*zs.length->(zbI n zs)[i]?=zs[i % zs.length]?
 |0,i,h=>by simp at h
 |n+1,i,h=>by
  simp only[zbI];rw[List.getElem?_append];split
  ·rename_i h';rw[Nat.mod_eq_of_lt h']
  ·rename_i h';have h2:zs.length<=i:=by omega
   rw[zkj (by rw[Nat.add_mul] at h;omega),Nat.mod_eq_sub_mod h2]
theorem zib {G:Gh}{T:TokF}{w:World}{zs:List AV}{z:Array Value} (h:AllR G T w zs z) (n:Nat) (hpos:0<zs.length):
  AllR G T w (zbI n zs) ((Array.range (n*zs.length)).map (z[· % z.size]!)):=by
 refine⟨by simp[zfj],fun i hi hv=>?_⟩;rw[zfj] at hi;have hm:i % zs.length<zs.length:=Nat.mod_lt _ hpos;have h1:=zkj hi;rw[xan (by rw[zfj];exact hi),xan hm] at h1;rw[Option.some.inj h1];have hm':i % zs.length<z.size:=by rw[h.size];exact hm
 have:=h.rel (i % zs.length) hm hm';simp only[Array.getElem_map,Array.getElem_range,h.size];rw[getElem!_pos z (i % zs.length) hm'];exact this
section
variable {c:Ctx}{all:Array Oper}{chk:List Rec->Prop}{os:List Oper}{recs:List Rec}{env:Env}{hp:Hp}{Q:St->Prop}
variable {d ty:Nat}{pos:String}{af:Array Edge}{g:Option (Nat×Bool)}{pg:List (Nat×AV)}
variable {t yt:TypeId}{x y:Operand}
theorem xbH {op:Op}{xs:List Operand}{vs:List AV}{es:List (List D)}{k:Nat} (hg:GH all env g pg) (hd:Nat.blt d c.n=true) (hx:opdL env xs=some vs) (hk:∀e,e∈es->e.length=k)
  (h:∀(a:Act) (G:Gh) (T:TokF) (w:World),(vs.length=xs.length/\∀i (hi:i<vs.length) (hx:i<xs.length),RelA G T w vs[i] (a.eval xs[i]))->
   ∃us e,(execOp a.eval ⟨some d,op,ty,pos,af,g⟩).run c.P w = .ok (.value (.slice (some ⟨w.heap.size,0,none⟩) es.length es.length)) (w.alloc (.cells us e))/\us.size=es.length*k/\
    ∀i (hi:i<es.length) j (hj:j<es[i].length) (hu:i*k+j<us.size),RelD G.F w es[i][j] us[i*k+j])
  (hn:Walk c all chk os (zam (pg++opFL xs vs) [] [] ⟨some (d,.d (.sl es)),[]⟩::recs) ⟨(d,.d (.sl es))::env,hp⟩ Q):
  Walk c all chk (⟨some d,op,ty,pos,af,g⟩::os) recs ⟨env,hp⟩ Q:=by
 refine⟨pg++opFL xs vs,[],[],_, ?_,zat hg.facts (zb9 hx),by simp,by simp,hn⟩;intro s a w hrel hp' hh hcr K Q' hK;obtain⟨G,hr⟩:=hrel;obtain⟨us,e,e1,e2,e3⟩:=h a G (tokf s.hp) w (zcJ hr (zca hx (fun p hm=>hp' p (by simp[hm]))));have hr':=hr.alloc (.cells us e) us.size;unfold wpO;rw[if_pos (hg.gf.wanted hr (fun p hm=>hp' p (by simp[hm])))];unfold Oper.wp;rw[e1,Oper.upon_value];refine hK _ _ ⟨_,hr'.put (.d ?_) hd⟩;refine .sl es k w.heap.size 0 es.length (fun n=>us.getD n undef) hk (Nat.le_refl _) (fun n hn=>⟨?_, ?_⟩) (fun i hi j hj=>?_)
 ·simp only[Nat.beq_refl,cond_true];omega
 ·have:n<us.size:=by omega
  simp[World.cell?_alloc_new,this]
 ·have hjk:j<k:=by rw[<-hk _ (xao hi)];exact hj
  have hlt:i*k+j<us.size:=by
   have:(i+1)*k<=es.length*k:=xav _ od;rw[Nat.add_mul] at this;omega
  have h4:=e3 i hi j hj hlt;have h5:us.getD (i*k+j) undef=us[i*k+j]:=by simp[Array.getD,hlt]
  rw[h5];refine h4.mono (fun b o ho=>?_);have hb:b<w.heap.size:=by
   rcases Nat.lt_or_ge b w.heap.size with h|h
   ·exact h
   ·rw[hr.top b h] at ho;omega
  have:Nat.beq b w.heap.size=false:=by
   cases h:Nat.beq b w.heap.size with
   |true=>have:=xap h;omega
   |false=>rfl
  exact⟨by simpa [this] using ho,World.cell?_alloc_lt w _ _ hb⟩
theorem Walk.sliceLit {parts:Array (Nat×Operand)}{n:Nat}{ks:List Nat}{xs:List Operand}{vs zs r:List AV}{es:List (List D)}{e k yb:Nat} (ht:SlT c.P t e k yb) (hz:TyZ c.P e k zs) (hzk:zs.length=k) (hk:0<k)
  (hparts:parts=(ks.zip xs).toArray) (hlen:ks.length=xs.length) (hsmall:n*k<=16777216) (hpos:0<n) (hg:GH all env g pg) (hd:Nat.blt d c.n=true) (hx:opdL env xs=some vs)
  (hf:ze8 (fun i=>some (i*k,k)) (zbI n zs) (ks.zip vs)=some r) (hc:zbY n k r=some es)
  (hn:Walk c all chk os (zam (pg++opFL xs vs) [] [] ⟨some (d,.d (.sl es)),[]⟩::recs) ⟨(d,.d (.sl es))::env,hp⟩ Q):
  Walk c all chk (⟨some d,.buildSlice t n parts,ty,pos,af,g⟩::os) recs ⟨env,hp⟩ Q:=by
 subst hparts;obtain⟨c1,c2,c3,c4⟩:=zeH hc;refine xbH hg hd hx c2 (fun a G T w h=>?_) hn;obtain⟨ie,hi1,hi2,hi3⟩:=ht.inf;obtain⟨i',z,z1,z2,z3,z4⟩:=hz.inf;rw[hi1] at z1;cases z1
 have hz0:=zcS (G:=G) (T:=T) (w:=w) z4;have hzr:=zib (by simpa using hz0) n od;obtain⟨lv,hlv,hal⟩:=ze9 (ks.zip vs) (ks.zip (xs.map a.eval)) _ r _ hf hzr (by simp[h.1]) (zoB h hlen);have hpos':¬n*ie.size=0:=by rw[hi2];exact Nat.ne_of_gt (Nat.mul_pos hpos hk)
 have hrun:=run_buildSlice (P:=c.P) w t e n ((ks.zip xs).toArray.map fun(i,x)=>(i,a.eval x)) lv ie z ht.und hi1 z3 (by rw[hi2];omega) hpos' (by
  rw[hi2,<-hlv];congr 1
  ·rw[hzk]
  ·simp[List.zip_map_right,Prod.map])
 refine⟨lv,e, ?_,by rw[hal.size,c3,c1],fun i hi j hj hu=>?_⟩
 ·rw[c1];simp only[execOp,Sem.run_bind,hrun,Result.andThen_ok,Sem.run_pure]
 ·have hl:i*k+j<r.length:=by rw[<-hal.size];exact hu
  exact(hal.rel _ hl hu).toD (c4 i hi j hj hl)
theorem xbQ {e k yb:Nat} (ht:SlT c.P t e k yb) (hg:GH all env g pg) (hd:Nat.blt d c.n=true)
  (hn:Walk c all chk os (zam (pg++opFL [] []) [] [] ⟨some (d,.d (.sl [])),[]⟩::recs) ⟨(d,.d (.sl []))::env,hp⟩ Q):
  Walk c all chk (⟨some d,.buildSlice t 0 #[],ty,pos,af,g⟩::os) recs ⟨env,hp⟩ Q:=by
 refine xbH (xs:=[]) (vs:=[]) (k:=k) hg hd I og (fun a G T w h=>?_) hn;obtain⟨ie,hi1,hi2,hi3⟩:=ht.inf;refine⟨#[],e, ?_,by simp,fun i hi=>by simp at hi⟩;simp[execOp,Instr.buildSlice,run_underlying ht.und,sizeOf,zel hi1,Instr.fill,newRow,Array.range_zero']
theorem Walk.make {id e k yb m:Nat}{zs:List AV} (ht:SlT c.P t e k yb) (hz:TyZ c.P e k zs) (hzk:zs.length=k) (hk:0<k) (hids:AV.idsL (zbI m zs)=[]) (hg:GH all env g pg) (hd:Nat.blt d c.n=true)
  (hx:opd env x=some (.d (.i m))) (hy:opd env y=some (.d (.i m))) (hb:yb*m<=281474976710656) (hm:(m:Int)<=9223372036854775807)
  (h0:getH hp id=none) (ho1:occE id env=false) (ho2:occH id hp=false)
  (hn:Walk c all chk os (zam (pg++opFL [x,y] [.d (.i m),.d (.i m)]) [] [id] ⟨some (d,.ms id m),[(id,some (.box (zbI m zs)))]⟩::recs) ⟨(d,.ms id m)::env,(id,some (.box (zbI m zs)))::hp⟩ Q):
  Walk c all chk (⟨some d,.makeSlice t x y,ty,pos,af,g⟩::os) recs ⟨env,hp⟩ Q:=by
 refine xbG hg hd (by simp[opdL,hx,hy]) h0 ho1 ho2 (by rw[hids];rfl) (fun a G T w h=>?_) hn;have h1:=h.2 0 og og;have h2:=h.2 1 og og;simp only[List.getElem_cons_zero,List.getElem_cons_succ] at h1 h2;obtain⟨ie,hi1,hi2,hi3⟩:=ht.inf;obtain⟨i',z,z1,z2,z3,z4⟩:=hz.inf;rw[hi1] at z1;cases z1
 have hz0:=zcS (G:=G) (T:=T) (w:=w) z4;have hzr:=zib (by simpa using hz0) m od;have hb':(yb:Int)*(m:Int)<=281474976710656:=by
  have h:((yb*m:Nat):Int)<=281474976710656:=by omega
  rwa [Int.natCast_mul] at h
 have hrun:=run_make (P:=c.P) w t e ie z ht.und hi1 z3 .i64 .i64 m m od (Int.le_refl _) (by rw[hi3];exact hb') hm;refine⟨.slice (some ⟨w.heap.size,0,none⟩) m m,madeCells z.cells (m*k),e, ?_, ?_,fun G' T' w' hl hT=> .ms (zgZ hl) hT (Nat.le_refl _)⟩
 ·simp only[execOp,h1.int_eq,h2.int_eq,Sem.run_bind,hrun,Result.andThen_ok,Sem.run_pure,Int.toNat_natCast,hi2]
 ·have:madeCells z.cells (m*k)=(Array.range (m*zs.length)).map (z.cells[· % z.cells.size]!):=by rw[hzk];rfl
  rw[this];exact hzr
end
theorem RelA.gh_small {G G':Gh}{T T':TokF}{w w':World}{id n' k:Nat} (hn:n'<2 ^ 70) (hT1:T' id=some (n',k)){xs:List (List D)}{v:Value} (h:RelA G T w (.gh id xs) v):RelA G' T' w' (.gh id xs) v:=by
 cases h with
 |gh hv h=>
  refine .gh hv (fun m k hm he=>?_);rw[hT1] at hm;cases hm;unfold zaH at he;omega
theorem RelA.ght_small {G G':Gh}{T T':TokF}{w w':World}{id n' k:Nat} (hn:n'<2 ^ 70) (hT1:T' id=some (n',k)){xs:List (List D)}{v:Value} (h:RelA G T w (.ght id xs) v):RelA G' T' w' (.ght id xs) v:=by
 cases h with
 |ght hv h=>
  refine .ght hv (fun m k hm he=>?_);rw[hT1] at hm;cases hm;unfold zaH at he;omega
theorem RelA.retok {G G':Gh}{T T':TokF}{w w':World}{x:AV}{v:Value}{id n n' k:Nat} (h:RelA G T w x v)
  (hF:∀b o,o<G.F b->o<G'.F b/\w'.cell? ⟨b,o,none⟩=w.cell? ⟨b,o,none⟩)
  (hT:T id=some (n,k)) (hlt:n<n') (hT1:T' id=some (n',k)) (hT2:∀i,i≠id->T' i=T i) (hloc:∀i,i≠id->G'.loc i=G.loc i)
  (htok:∀i p,i≠id->T i=some p->∀b,b∈G.loc i->w'.heap[b]?=w.heap[b]?/\G'.F b=G.F b) (hgh:(∀xs v,RelA G T w (.gh id xs) v->RelA G' T' w' (.gh id xs) v)/\∀xs v,RelA G T w (.ght id xs) v->RelA G' T' w' (.ght id xs) v):RelA G' T' w' x v:=by
 induction h with
 |d h=>exact .d (h.mono hF)
 | @gl i xs v h ht=>
  refine .gl (h.mono hF) (fun m k' hm=>?_);by_cases hi:i=id
  ·subst hi;rw[hT1] at hm;cases hm
   have:=(ht n k hT).1;exact⟨by omega,fun he=>by omega⟩
  ·rw[hT2 i hi] at hm;obtain⟨h1,h2⟩:=ht m k' hm;refine⟨h1,fun hx=>?_⟩;obtain⟨h3,h4⟩:=h2 hx;refine⟨h3, ?_⟩;rcases h4 with ⟨e1,e2,e3⟩|⟨b,cap,cs,e,e1,e2,e3,e4,e5⟩
   ·exact .inl ⟨(hloc i hi).trans e1,e2,e3⟩
   ·obtain⟨f1,f2⟩:=htok i _ hi hm b (by simp[e1]);exact .inr ⟨b,cap,cs,e,(hloc i hi).trans e1,e2,f2.trans e3,f1.trans e4,e5⟩
 | @gv i xs v hv ht=>
  refine .gv hv (fun m k' hm=>?_);by_cases hi:i=id
  ·subst hi;rw[hT1] at hm;cases hm
   have:=(ht n k hT).1;exact⟨by omega,fun he=>by omega⟩
  ·rw[hT2 i hi] at hm;obtain⟨h1,h2⟩:=ht m k' hm;refine⟨h1,fun hx=>?_⟩;obtain⟨h3,h4⟩:=h2 hx;refine⟨h3, ?_⟩;rcases h4 with ⟨e1,e2,e3⟩|⟨b,cap,cs,e,e1,e2,e3,e4,e5,e6,e7⟩
   ·exact .inl ⟨(hloc i hi).trans e1,e2,e3⟩
   ·obtain⟨f1,f2⟩:=htok i _ hi hm b (by simp[e1]);exact .inr ⟨b,cap,cs,e,(hloc i hi).trans e1,e2,f2.trans e3,f1.trans e4,e5,e6,fun i hi j hj=>(e7 i hi j hj).mono hF⟩
 | @gt i xs v hv ht=>
  refine .gt hv (fun m k' hm=>?_);by_cases hi:i=id
  ·subst hi;rw[hT1] at hm;cases hm
   have:=(ht n k hT).1;exact⟨by omega,fun he=>by omega⟩
  ·rw[hT2 i hi] at hm;obtain⟨h1,h2⟩:=ht m k' hm;refine⟨h1,fun hx=>?_⟩;obtain⟨h3,h4⟩:=h2 hx;exact⟨h3,h4.mono hx h3 (hloc i hi) (htok i _ hi hm)⟩
 | @ref i off b h hn=>
  have hi:i≠id:=fun e=>by subst e;rw[hT] at hn;cases hn
  exact .ref ((xam List.head? (hloc i hi)).trans h) ((hT2 i hi).trans hn)
 | @ms i m b cap h hn hc=>
  have hi:i≠id:=fun e=>by subst e;rw[hT] at hn;cases hn
  exact .ms ((xam List.head? (hloc i hi)).trans h) ((hT2 i hi).trans hn) hc
 | @mo i off o m b cap h hn hc ho=>
  have hi:i≠id:=fun e=>by subst e;rw[hT] at hn;cases hn
  exact .mo ((xam List.head? (hloc i hi)).trans h) ((hT2 i hi).trans hn) hc ho
 | @mc i m b cap h hn hc=>
  have hi:i≠id:=fun e=>by subst e;rw[hT] at hn;cases hn
  exact .mc ((xam List.head? (hloc i hi)).trans h) ((hT2 i hi).trans hn) hc
 | @gaD i m js cs v hv ht=>
  refine .gaD hv (fun m' k' hm=>?_);by_cases hi:i=id
  ·subst hi;rw[hT1] at hm;cases hm
   have:=ht _ _ hT;omega
  ·rw[hT2 i hi] at hm;exact ht m' k' hm
 | @gaL i m k' js cs b cap vs e hj ht hl hF0 hb hck hn hcs hr ih=>
  by_cases hi:i=id
  ·subst hi;rw[hT] at ht;cases ht
   refine .gaD ⟨_,_,I⟩ (fun m' k' hm=>?_);rw[hT1] at hm;cases hm
   exact hlt
  ·obtain⟨f1,f2⟩:=htok i _ hi ht b (by simp[hl]);exact .gaL hj ((hT2 i hi).trans ht) ((hloc i hi).trans hl) (f2.trans hF0) (f1.trans hb) hck hn hcs ih
 | @gpD i m off len js cs v hv ht=>
  refine .gpD hv (fun m' k' hm=>?_);by_cases hi:i=id
  ·subst hi;rw[hT1] at hm;cases hm
   have:=ht _ _ hT;omega
  ·rw[hT2 i hi] at hm;exact ht m' k' hm
 | @gpL i m k' off len js cs b vs e hj ht hl hF0 hb hs hr ih=>
  by_cases hi:i=id
  ·subst hi;rw[hT] at ht;cases ht
   refine .gpD ⟨_,I⟩ (fun m' k' hm=>?_);rw[hT1] at hm;cases hm
   exact hlt
  ·have hbm:b∈G.loc i:=by
    cases hq:G.loc i with
    |nil=>rw[hq] at hl;cases hl
    |cons x r=>rw[hq] at hl;cases hl;simp
   obtain⟨f1,f2⟩:=htok i _ hi ht b hbm;exact .gpL hj ((hT2 i hi).trans ht) ((xam List.head? (hloc i hi)).trans hl) (f2.trans hF0) (f1.trans hb) hs ih
 | @ght i xs v hv ht=>
  by_cases hi:i=id
  ·subst hi;exact hgh.2 _ _ (.ght hv ht)
  ·refine .ght hv (fun m' k' hm he=>?_);rw[hT2 i hi] at hm;exact(ht m' k' hm he).mono (hloc i hi) (htok i _ hi hm)
 | @gh i xs v hv ht=>
  by_cases hi:i=id
  ·subst hi;exact hgh.1 _ _ (.gh hv ht)
  ·refine .gh hv (fun m' k' hm he=>?_);rw[hT2 i hi] at hm;exact(ht m' k' hm he).mono hF (hloc i hi) (htok i _ hi hm)
 | @mapr i b h hn=>
  have hi:i≠id:=fun e=>by subst e;rw[hT] at hn;cases hn
  exact .mapr ((xam List.head? (hloc i hi)).trans h) ((hT2 i hi).trans hn)
 |fn hn h ih=>exact .fn hn ih
 |agg hn h ih=>exact .agg hn ih
 |tup hn h ih=>exact .tup hn ih
 |nils=>exact .nils
 |sn h hn=>exact .sn (h.mono hF) hn
 |any v=>exact .any v
section
variable {c:Ctx}
theorem o0{p:Prop}(h:p:=by rw[zaa,if_pos rfl]):p:=h
theorem R.retokH {G G':Gh}{s:St}{a:Act}{w w':World} (hr:R c G s a w){id n n' k:Nat} (htok:getH s.hp id=some (.tok n k)) (hlt:n<n')
  (hgh:(∀xs v,RelA G (tokf s.hp) w (.gh id xs) v->RelA G' (tokf ((id,some (.tok n' k))::s.hp)) w' (.gh id xs) v)/\∀xs v,RelA G (tokf s.hp) w (.ght id xs) v->RelA G' (tokf ((id,some (.tok n' k))::s.hp)) w' (.ght id xs) v)
  (hF:∀b o,o<G.F b->o<G'.F b/\w'.cell? ⟨b,o,none⟩=w.cell? ⟨b,o,none⟩) (hloc:∀i,i≠id->G'.loc i=G.loc i)
  (hoth:∀b,b<w.heap.size->b∉G.loc id->w'.heap[b]?=w.heap[b]?/\G'.F b=G.F b)
  (hid:∀b,b∈G'.loc id->b<w'.heap.size) (hnew:∀b,b∈G'.loc id->b∈G.loc id\/w.heap.size<=b)
  (hos:w'.os=w.os) (htp:w'.tape=w.tape) (hou:w'.output=w.output) (hsz:w.heap.size<=w'.heap.size) (htop:∀b,w'.heap.size<=b->G'.F b=0):
  R c G' { s with hp:=(id,some (.tok n' k))::s.hp } a w':=by
 have hT:tokf s.hp id=some (n,k):=zak.2 htok;have hT1:tokf ((id,some (.tok n' k))::s.hp) id=some (n',k):=zak.2 o0;have hT2:∀i,i≠id->tokf ((id,some (.tok n' k))::s.hp) i=tokf s.hp i:=fun i hi=>by
  unfold tokf;rw[zaa,if_neg hi]
 have bound:∀i r,getH s.hp i=some r->∀b,b∈G.loc i->b<w.heap.size:=fun i r h=>(hr.heap i r h).bound;have apart:∀i r,i≠id->getH s.hp i=some r->∀b,b∈G.loc i->b∉G.loc id:=fun i r hi h b hb=>hr.disj i id (by rw[h];rfl) (by rw[htok];rfl) hi b hb;have hm:∀ {x:AV}{v:Value},RelA G (tokf s.hp) w x v->RelA G' (tokf ((id,some (.tok n' k))::s.hp)) w' x v:=fun hx=>
  hx.retok hF hT hlt hT1 hT2 hloc (fun i p hi hp b hb=>by
   obtain⟨m,k'⟩:=p;have h1:=zak.1 hp;exact hoth b (bound i _ h1 b hb) (apart i _ hi h1 b hb)) hgh
 have hsome:∀i,(getH ((id,some (.tok n' k))::s.hp) i).isSome->(getH s.hp i).isSome:=fun i h=>by
  rw[zaa] at h;split at h
  ·rename_i e;subst e;rw[htok];rfl
  ·exact h
 have hidnew:=hr.new id (by rw[htok];rfl);refine⟨hr.size,hr.defers,fun i v h=>hm (hr.slots i v h),fun i r h=>?_,fun i j h1 h2 h3 b hb=>?_,fun i h b hb=>?_,
  hr.frm.trans (own1:=G.loc id) ⟨hos,htp,hou,hsz,hoth,hF⟩ hidnew,htop,fun i l hl=>?_⟩
 ·rw[zaa] at h;by_cases hi:i=id
  ·subst hi;rw[if_pos rfl] at h;cases h
   exact hid
  ·rw[if_neg hi] at h;have hh:=hr.heap i r h;have ho:∀b,b∈G.loc i->w'.heap[b]?=w.heap[b]?/\G'.F b=G.F b:=fun b hb=>hoth b (bound i r h b hb) (apart i r hi h b hb);cases r with
   |box cs=>
    obtain⟨b,vs,e,h1,h2,h3,h4,h5⟩:=hh;obtain⟨o1,o2⟩:=ho b (by simp[h1]);exact⟨b,vs,e,(hloc i hi).trans h1,o1.trans h2,h3,o2.trans h4,fun j hj hv=>hm (h5 j hj hv)⟩
   |tok m k'=>exact fun b h1=>Nat.lt_of_lt_of_le (hh b (by rw[hloc i hi] at h1;exact h1)) od
   |map ks=>
    obtain⟨b,es,cl,h1,h2,h3,h4⟩:=hh;obtain⟨o1,o2⟩:=ho b (by simp[h1]);exact⟨b,es,cl,(hloc i hi).trans h1,o1.trans h2,o2.trans h3,h4⟩
   |tree cs=>exact zbh hh (hloc i hi) ho od (fun _ _ _=>hm)
 ·have s1:=hsome i h1;have s2:=hsome j h2;obtain⟨r1,hr1⟩:=Option.isSome_iff_exists.1 s1;obtain⟨r2,hr2⟩:=Option.isSome_iff_exists.1 s2;by_cases hi:i=id
  ·subst hi;rw[hloc j (Ne.symm h3)];intro hbj;rcases hnew b hb with h|h
   ·exact apart j r2 (Ne.symm h3) hr2 b hbj h
   ·have:=bound j r2 hr2 b hbj;omega
  ·rw[hloc i hi] at hb;by_cases hj:j=id
   ·subst hj;intro hbj;rcases hnew b hbj with h|h
    ·exact apart i r1 hi hr1 b hb h
    ·have:=bound i r1 hr1 b hb;omega
   ·rw[hloc j hj];exact hr.disj i j s1 s2 h3 b hb
 ·have s1:=hsome i h;by_cases hi:i=id
  ·subst hi;rcases hnew b hb with h' | h'
   ·exact hidnew b h'
   ·right;have:=hr.frm.size;omega
  ·rw[hloc i hi] at hb;exact hr.new i s1 b hb
 ·have hk:=hr.kept i l hl;have hi:i≠id:=fun e=>by subst e;rw[hT] at hk;simp at hk
  refine⟨(xam List.head? (hloc i hi)).trans hk.1, ?_,(hT2 i hi).trans hk.2.2⟩;show(getH ((id,some (.tok n' k))::s.hp) i).isSome
  rw[zaa,if_neg hi];exact hk.2.1
theorem R.retok {G G':Gh}{s:St}{a:Act}{w w':World} (hr:R c G s a w){id n n' k:Nat} (htok:getH s.hp id=some (.tok n k)) (hlt:n<n'/\n'<2 ^ 70)
  (hF:∀b o,o<G.F b->o<G'.F b/\w'.cell? ⟨b,o,none⟩=w.cell? ⟨b,o,none⟩) (hloc:∀i,i≠id->G'.loc i=G.loc i)
  (hoth:∀b,b<w.heap.size->b∉G.loc id->w'.heap[b]?=w.heap[b]?/\G'.F b=G.F b)
  (hid:∀b,b∈G'.loc id->b<w'.heap.size) (hnew:∀b,b∈G'.loc id->b∈G.loc id\/w.heap.size<=b)
  (hos:w'.os=w.os) (htp:w'.tape=w.tape) (hou:w'.output=w.output) (hsz:w.heap.size<=w'.heap.size) (htop:∀b,w'.heap.size<=b->G'.F b=0):
  R c G' { s with hp:=(id,some (.tok n' k))::s.hp } a w':=
 hr.retokH htok hlt.1 ⟨fun _ _ h=>h.gh_small hlt.2 (zak.2 o0),fun _ _ h=>h.ght_small hlt.2 (zak.2 o0)⟩ hF hloc hoth hid hnew hos htp hou hsz htop
theorem RelD.one {F:Nat->Nat}{w:World}{x:D}{v:Value} (h:RelD F w x v):v.oneCell'=true:=by
 cases h<;>rfl
theorem RelD.sl_cells {F:Nat->Nat}{w:World}{ys:List (List D)}{v:Value}{k:Nat} (h:RelD F w (.sl ys) v) (hk:∀e,e∈ys->e.length=k):
  (∃oa cap,v = .slice oa 0 cap/\ys=[]/\∀b o,oa≠some ⟨b,o,none⟩)\/∃(b off cap:Nat) (news:List Value),v = .slice (some ⟨b,off,none⟩) ys.length cap/\ys.length<=cap/\news.length=ys.length*k/\
   (∀j u,news[j]?=some u->off+j<F b/\w.cell? ⟨b,off+j,none⟩=some u)/\(∀u,u∈news->u.oneCell'=true)/\
   ∀i (hi:i<ys.length) j (hj:j<ys[i].length) (hu:i*k+j<news.length),RelD F w ys[i][j] news[i*k+j]:=by
 cases h with
 |nil=>exact .inl ⟨none,0,I,I,fun _ _=>by simp⟩
 |emp b off s cap=>exact .inl ⟨_,_,I,I,fun _ _=>by simp⟩
 |sl _ k' b off cap cf hk' hcap hc hr=>
  right
  have hkk:ys≠[]->k'=k:=fun hne=>by
   obtain⟨x,hx⟩:=List.exists_mem_of_ne_nil _ hne;rw[<-hk x hx,hk' x hx]
  have hlen:ys.length*k=ys.length*k':=by
   by_cases hne:ys=[]
   ·subst hne;simp
   ·rw[hkk hne]
  refine⟨b,off,cap,(List.range (ys.length*k)).map cf,rfl,hcap,by simp,fun j u hj=>?_,fun u hu=>?_,fun i hi j hj hu=>?_⟩
  ·simp only[List.getElem?_map,Option.map_eq_some_iff] at hj;obtain⟨j',hj',rfl⟩:=hj;obtain⟨h1,rfl⟩:=List.getElem?_eq_some_iff.1 hj';simp only[List.length_range] at h1;rw[List.getElem_range];exact hc j od
  ·simp only[List.mem_map,List.mem_range] at hu;obtain⟨j,hj,rfl⟩:=hu;have hne:ys≠[]:=fun e=>by subst e;simp at hj
   have hkk':=hkk hne;subst hkk';have hpos:0<k':=by
    rcases Nat.eq_zero_or_pos k' with h0|h0
    ·subst h0;simp at hj
    ·exact h0
   have hi:j / k'<ys.length:=Nat.div_lt_of_lt_mul (by rw[Nat.mul_comm];exact hj);have hmod:j % k'<(ys[j / k']).length:=by rw[hk' _ (xao hi)];exact Nat.mod_lt _ hpos
   have:=hr (j / k') hi (j % k') hmod;rw[Nat.div_add_mod'] at this;exact this.one
  ·have hne:ys≠[]:=fun e=>by subst e;simp at hi
   have:=hr i hi j hj;rw[hkk hne] at this;simpa using this
theorem RelD.row {F:Nat->Nat}{w:World}{xs ys:List (List D)}{k b cap:Nat}{us:List Value} (hkx:∀e,e∈xs->e.length=k) (hky:∀e,e∈ys->e.length=k)
  (hcap:(xs++ys).length<=cap) (hlen:us.length=(xs++ys).length*k) (hc:∀n u,us[n]?=some u->n<F b/\w.cell? ⟨b,n,none⟩=some u)
  (hx:∀i (hi:i<xs.length) j (hj:j<xs[i].length) (hu:i*k+j<us.length),RelD F w xs[i][j] us[i*k+j])
  (hy:∀i (hi:i<ys.length) j (hj:j<ys[i].length) (hu:(xs.length+i)*k+j<us.length),RelD F w ys[i][j] us[(xs.length+i)*k+j]):
  RelD F w (.sl (xs++ys)) (.slice (some ⟨b,0,none⟩) (xs++ys).length cap):=by
 refine .sl _ k b 0 cap (fun n=>us.getD n undef) (fun e he=>?_) hcap (fun n hn=>?_) (fun i hi j hj=>?_)
 ·rcases List.mem_append.1 he with h|h
  ·exact hkx e h
  ·exact hky e h
 ·have h1:n<us.length:=by omega
  have:=hc n us[n] (by simp[h1]);rw[Nat.zero_add];simpa [List.getD,h1] using this
 ·have hjk:j<k:=by
   have:((xs++ys)[i]).length=k:=by
    rcases List.mem_append.1 (xao hi) with h|h
    ·exact hkx _ h
    ·exact hky _ h
   omega
  have hlt:i*k+j<us.length:=by
   have:(i+1)*k<=(xs++ys).length*k:=xav _ od;rw[Nat.add_mul] at this;omega
  have e1:us.getD (i*k+j) undef=us[i*k+j]:=by simp[List.getD,hlt]
  rw[e1];by_cases h:i<xs.length
  ·have e2:(xs++ys)[i]=xs[i]:=List.getElem_append_left h;have:=hx i h j (by rw[<-e2];exact hj) hlt;simpa only[e2] using this
  ·have h2:i-xs.length<ys.length:=by simp only[xaa] at hi;omega
   have e2:(xs++ys)[i]=ys[i-xs.length]:=List.getElem_append_right od;have e3:xs.length+(i-xs.length)=i:=by omega
   have:=hy (i-xs.length) h2 j (by rw[<-e2];exact hj) (by rw[e3];exact hlt);simp only[e3] at this;simpa only[e2] using this
end
section
variable {P:Program}{w:World}
theorem zfI (t ty e:TypeId) (i:TypeInfo) (ht:P.underlying t=some (.slice e)) (hi:P.info? e=some i)
  (g sLen sCap:Nat) (cur:Array Value) (et:TypeId) (hg:w.heap[g]?=some (.cells cur et (0,0)))
  (a:Addr) (m c:Nat) (news:List Value) (hl:news.length=m*i.size) (hnews:∀j u,news[j]?=some u->w.cell? (a.add j)=some u) (h1:∀u∈news,u.oneCell'=true)
  (hroom:sLen+m<=sCap) (hfit:sLen*i.size+news.length<=cur.size):
  (Builtin.append_ #[t,t] ty #[.slice (some ⟨g,0,none⟩) sLen sCap,.slice (some a) m c]).run P w =
   .ok (.slice (some ⟨g,0,none⟩) (sLen+m) sCap) (w.setRow g (cur.toList.take (sLen*i.size)++news++cur.toList.drop (sLen*i.size+news.length)).toArray):=by
 have hf:=run_firstCells_some (P:=P) w i.size m a m c news hl hnews;have hst:=run_storeCells_at P g (sLen*i.size) et news 0 cur w hg (by simpa using hfit) h1;simp only[Nat.add_zero] at hst;simp[Builtin.append_,run_underlying ht,sizeOf,typeInfo,hi,Builtin.lenOf,hroom,hf,zcR,hst]
theorem zei (t ty e:TypeId) (i:TypeInfo) (ht:P.underlying t=some (.slice e)) (hi:P.info? e=some i)
  (base:Option Addr) (sLen sCap:Nat) (hle:sLen<=sCap) (a:Option Addr) (c:Nat):
  (Builtin.append_ #[t,t] ty #[.slice base sLen sCap,.slice a 0 c]).run P w = .ok (.slice base sLen sCap) w:=by
 cases base<;>cases a<;>
 simp[Builtin.append_,run_underlying ht,sizeOf,typeInfo,hi,Builtin.lenOf,hle,Builtin.firstCells,loadCells,loadCellsFrom,storeCells]
end
section
variable {c:Ctx}{all:Array Oper}{chk:List Rec->Prop}{os:List Oper}{recs:List Rec}{env:Env}{hp:Hp}{Q:St->Prop}
variable {d ty:Nat}{pos:String}{af:Array Edge}{g:Option (Nat×Bool)}{pg:List (Nat×AV)}
variable {t yt:TypeId}{x y:Operand}
theorem RelA.gl_inv {G:Gh}{T:TokF}{w:World}{id:Nat}{xs:List (List D)}{v:Value} (h:RelA G T w (.gl id xs) v):
  RelD G.F w (.sl xs) v/\∀n k,T id=some (n,k)->xs.length<=n/\(n=xs.length->(∀x,x∈xs->x.length=k)/\Tip G w id n k v):=by
 cases h with|gl h ht=>exact⟨h,ht⟩
theorem zmY {hp:Hp}{id n k:Nat} (h:getH hp id=some (.tok n k)) (j:Nat):getH ((id,some (.tok n k))::hp) j=getH hp j:=by
 rw[zaa];split
 ·rename_i e;subst e;exact h.symm
 ·rfl
theorem zf7 {hp:Hp}{id n k:Nat} (h:getH hp id=some (.tok n k)):tokf ((id,some (.tok n k))::hp)=tokf hp:=by
 funext j;unfold tokf;rw[zmY h]
theorem R.same {G:Gh}{s:St}{a:Act}{w:World} (hr:R c G s a w){id n k:Nat} (h:getH s.hp id=some (.tok n k)):R c G { s with hp:=(id,some (.tok n k))::s.hp } a w:=by
 have hsame:=zmY h;have ht2:=zf7 h;exact⟨hr.size,hr.defers,fun i v h=>by rw[ht2];exact hr.slots i v h,fun i r h=>by rw[ht2];exact hr.heap i r (by rw[<-hsame];exact h),
  fun i j h1 h2=>hr.disj i j (by rw[<-hsame];exact h1) (by rw[<-hsame];exact h2),fun i h=>hr.new i (by rw[<-hsame];exact h),hr.frm,hr.top,
  fun i l h'=>by
   show(G.loc i).head?=l.head?/\(getH ((id,some (.tok n k))::s.hp) i).isSome/\tokf ((id,some (.tok n k))::s.hp) i=none
   rw[hsame,ht2];exact hr.kept i l h'⟩
theorem zm2 {G:Gh}{s:St}{a:Act}{w:World} (hr:R c G s a w){id k e yb:Nat}{xs ys:List (List D)}{v u:Value} (ht:SlT c.P t e k yb){z:Value} (hz:∃i,c.P.info? e=some i/\i.zero=some z/\z.cells.size=k)
  (hk:0<k) (htok:getH s.hp id=some (.tok xs.length k)) (hv:RelA G (tokf s.hp) w (.gl id xs) v) (hu:RelD G.F w (.sl ys) u) (hky:∀y,y∈ys->y.length=k)
  (hb:(xs.length+ys.length)*yb<=140737488355328) (hm:xs.length+ys.length<=9223372036854775807) (opt:TypeId):
  ∃v' w' G',(Builtin.append_ #[t,t] opt #[v,u]).run c.P w = .ok v' w'/\
   R c G' { s with hp:=(id,some (.tok (xs.length+ys.length) k))::s.hp } a w'/\
   RelA G' (tokf ((id,some (.tok (xs.length+ys.length) k))::s.hp)) w' (.gl id (xs++ys)) v':=by
 obtain⟨i,hi1,hi2,hi3⟩:=ht.inf;obtain⟨i',z1,z2,z3⟩:=hz;rw[hi1] at z1;cases z1
 obtain⟨hd,hcl⟩:=hv.gl_inv;have hT:tokf s.hp id=some (xs.length,k):=zak.2 htok;obtain⟨hkx,htip⟩:=(hcl _ _ hT).2 rfl;have hT':tokf ((id,some (.tok (xs.length+ys.length) k))::s.hp) id=some (xs.length+ys.length,k):=zak.2 o0;rcases hu.sl_cells hky with ⟨oa0,cap0,rfl,rfl,_⟩|⟨b2,off2,cap2,news,rfl,hcap2,hnl,hnc,hn1,hnr⟩
 ·
  have hle:∃base cap,v = .slice base xs.length cap/\xs.length<=cap:=by
   rcases htip with ⟨h1,h2,h3⟩|⟨b,cap,cs,et,h1,h2,h3,h4,h5,h6⟩
   ·exact⟨none,0,by rw[h2];exact h3,by omega⟩
   ·exact⟨_,cap,h2,h6⟩
  obtain⟨base,cap,rfl,hle⟩:=hle;refine⟨_,w,G,zei t opt e i ht.und hi1 base xs.length cap hle oa0 cap0, ?_, ?_⟩
  ·exact hr.same htok
  ·show RelA G (tokf ((id,some (.tok xs.length k))::s.hp)) w (.gl id (xs++[])) _
   rw[zf7 htok,xaq];exact hv
 ·by_cases hm0:ys.length=0
  ·
   have hy0:ys=[]:=List.eq_nil_of_length_eq_zero hm0;subst hy0;have hle:∃base cap,v = .slice base xs.length cap/\xs.length<=cap:=by
    rcases htip with ⟨h1,h2,h3⟩|⟨b,cap,cs,et,h1,h2,h3,h4,h5,h6⟩
    ·exact⟨none,0,by rw[h2];exact h3,by omega⟩
    ·exact⟨_,cap,h2,h6⟩
   obtain⟨base,cap,rfl,hle⟩:=hle;refine⟨_,w,G,zei t opt e i ht.und hi1 base xs.length cap hle _ cap2, ?_, ?_⟩
   ·exact hr.same htok
   ·show RelA G (tokf ((id,some (.tok xs.length k))::s.hp)) w (.gl id (xs++[])) _
    rw[zf7 htok,xaq];exact hv
  have hmpos:0<ys.length:=by omega
  have hnews:∀j u,news[j]?=some u->w.cell? ((⟨b2,off2,none⟩:Addr).add j)=some u:=fun j u hj=>by rw[zcR];exact(hnc j u hj).2
  have hnl':news.length=ys.length*i.size:=by rw[hi2];exact hnl

  have fresh:∀(olds:List Value) (nc:Nat),olds.length=xs.length*k->xs.length+ys.length<=nc->
    (∀j,∀hj:j<xs.length,∀m,∀hm:m<xs[j].length,∀hu:j*k+m<olds.length,RelD G.F w xs[j][m] olds[j*k+m])->
    ∃G',R c G' { s with hp:=(id,some (.tok (xs.length+ys.length) k))::s.hp } a (w.drew.alloc (.cells (olds.toArray++news.toArray++Builtin.zeroCells z.cells (nc-(xs.length+ys.length))) e))/\
     RelA G' (tokf ((id,some (.tok (xs.length+ys.length) k))::s.hp)) (w.drew.alloc (.cells (olds.toArray++news.toArray++Builtin.zeroCells z.cells (nc-(xs.length+ys.length))) e))
      (.gl id (xs++ys)) (.slice (some ⟨w.heap.size,0,none⟩) (xs.length+ys.length) nc):=by
   intro olds nc hol hnc' hold;let cells:Array Value:=olds.toArray++news.toArray++Builtin.zeroCells z.cells (nc-(xs.length+ys.length))
   let N:=(xs.length+ys.length)*k
   let G':Gh:={ F:=fun b=>bif Nat.beq b w.heap.size then N else G.F b,loc:=fun j=>bif Nat.beq j id then [w.heap.size] else G.loc j }
   have hcs:cells.size=nc*k:=by
    simp only[cells,Array.size_append,List.size_toArray,size_zeroCells,z3,hol,hnl,<-Nat.add_mul];congr 1;omega
   have hFne:∀b,b<w.heap.size->G'.F b=G.F b:=fun b hb=>by
    have:Nat.beq b w.heap.size=false:=by
     cases h:Nat.beq b w.heap.size with
     |true=>have:=xap h;omega
     |false=>rfl
    simp[G',this]
   have hlt:∀b o,o<G.F b->b<w.heap.size:=fun b o ho=>by
    rcases Nat.lt_or_ge b w.heap.size with h|h
    ·exact h
    ·rw[hr.top b h] at ho;omega
   have hcell:∀b o,o<G.F b->o<G'.F b/\(w.drew.alloc (.cells cells e)).cell? ⟨b,o,none⟩=w.cell? ⟨b,o,none⟩:=fun b o ho=>by
    have hb:=hlt b o ho;exact⟨by rw[hFne b hb];exact ho,by rw[World.cell?_alloc_lt w.drew _ _ hb];rfl⟩
   have hlocne:∀j,j≠id->G'.loc j=G.loc j:=fun j hj=>by
    have:Nat.beq j id=false:=by
     cases h:Nat.beq j id with
     |true=>exact absurd (xap h) hj
     |false=>rfl
    simp[G',this]
   have hlocid:G'.loc id=[w.heap.size]:=by simp[G']
   refine⟨G',hr.retok (G':=G') htok od hcell hlocne (fun b hb _=>⟨zeF (w:=w.drew) hb,hFne b hb⟩) (fun b hb=>by rw[hlocid] at hb;simp at hb;subst hb;simp)
    (fun b hb=>by rw[hlocid] at hb;simp at hb;exact .inr od) rfl rfl rfl og (fun b hb=>?_), ?_⟩
   ·have hb':w.heap.size+1<=b:=by simpa using hb
    have:Nat.beq b w.heap.size=false:=by
     cases h:Nat.beq b w.heap.size with
     |true=>have:=xap h;omega
     |false=>rfl
    simp only[G',this,cond_false];exact hr.top b od
   ·have hky':∀e,e∈xs++ys->e.length=k:=fun e he=>by
     rcases List.mem_append.1 he with h|h
     ·exact hkx e h
     ·exact hky e h
    have hup:G.F w.heap.size<=G'.F w.heap.size:=by rw[hr.top _ (Nat.le_refl _)];exact Nat.zero_le _
    have hrow:RelD G'.F (w.drew.alloc (.cells cells e)) (.sl (xs++ys)) (.slice (some ⟨w.heap.size,0,none⟩) (xs++ys).length nc):=by
     refine RelD.row (us:=olds++news) hkx hky (by simpa using hnc') (by simp[hol,hnl,Nat.add_mul]) (fun n u hn=>⟨?_, ?_⟩) (fun i hi j hj hu=>?_) (fun i hi j hj hu=>?_)
     ·obtain⟨h1,_⟩:=List.getElem?_eq_some_iff.1 hn;simp only[xaa,hol,hnl,<-Nat.add_mul] at h1;simp only[G',Nat.beq_refl,cond_true];exact h1
     ·have:(w.drew.alloc (.cells cells e)).cell? ⟨w.heap.size,n,none⟩=cells[n]?:=World.cell?_alloc_new (w:=w.drew) cells e n;rw[this];obtain⟨h1,_⟩:=List.getElem?_eq_some_iff.1 hn;simp only[cells];rw[Array.getElem?_append_left (by simpa using h1)];simpa using hn
     ·have hlt':i*k+j<olds.length:=by
       have h1:xs[i].length=k:=hkx _ (xao hi);have:(i+1)*k<=xs.length*k:=xav _ od;rw[Nat.add_mul] at this;omega
      rw[List.getElem_append_left hlt'];exact(hold i hi j hj hlt').mono hcell
     ·have h1:ys[i].length=k:=hky _ (xao hi);have e1:(xs.length+i)*k+j=olds.length+(i*k+j):=by rw[hol,Nat.add_mul];omega
      have hlt':i*k+j<news.length:=by
       have:(i+1)*k<=ys.length*k:=xav _ od;rw[Nat.add_mul] at this;omega
      have e2:(olds++news)[(xs.length+i)*k+j]=news[i*k+j]:=by
       rw[List.getElem_append_right od];congr 1;omega
      rw[e2];exact(hnr i hi j hj hlt').mono hcell
    rw[xaa] at hrow;refine .gl hrow (fun n' k' hm'=>?_);rw[hT'] at hm';cases hm'
    refine⟨by simp,fun _=>⟨hky',.inr ⟨w.heap.size,nc,cells,e,hlocid,rfl,by simp[G',N],zew (w:=w.drew),by rw[hcs];exact Nat.le_refl _,hnc'⟩⟩⟩
  rcases htip with ⟨h1,h2,h3⟩|⟨b,cap,cs,et,h1,h2,h3,h4,h5,h6⟩
  ·
   have hx0:xs=[]:=List.eq_nil_of_length_eq_zero h2;subst hx0;subst h3;simp only[xak,Nat.zero_add] at hb hm fresh ⊢;have hrun:=run_append_nil (P:=c.P) w t opt e i z ht.und hi1 z2 ⟨b2,off2,none⟩ ys.length cap2 news hnl' hnews hmpos od (by rw[hi3];omega);obtain⟨G',hR,hA⟩:=fresh [] (grownCap w ys.length 0 e) og (by
    have:=grownCap_ge w ys.length 0 e;omega) (fun j hj=>by simp at hj)
   simp only[List.nil_append,Array.empty_append] at hR hA hrun ⊢;exact⟨_,_,G',hrun,hR,hA⟩
  ·subst h2;by_cases hroom:xs.length+ys.length<=cap
   ·
    have hfit:xs.length*i.size+news.length<=cs.size:=by
     rw[hi2,hnl,<-Nat.add_mul];exact Nat.le_trans (xav _ hroom) h5
    have hrun:=zfI (P:=c.P) t opt e i ht.und hi1 b xs.length cap cs et h4 ⟨b2,off2,none⟩ ys.length cap2 news hnl' hnews hn1 hroom hfit;rw[hi2] at hrun hfit;let row:Array Value:=(cs.toList.take (xs.length*k)++news++cs.toList.drop (xs.length*k+news.length)).toArray
    let N:=(xs.length+ys.length)*k
    let G':Gh:={ F:=fun b'=>bif Nat.beq b' b then N else G.F b',loc:=G.loc }
    have hNn:xs.length*k+news.length=N:=by rw[hnl,<-Nat.add_mul]
    have hrs:row.size=cs.size:=by
     simp only[row,List.size_toArray,xaa,List.length_take,List.length_drop,Array.length_toList];omega
    have hrowL:∀n,n<xs.length*k->row[n]?=cs[n]?:=fun n hn=>by
     simp only[row,List.getElem?_toArray];rw[xar,List.getElem?_append_left oq,List.getElem?_take,if_pos hn];simp
    have hrowN:∀n,n<news.length->row[xs.length*k+n]?=news[n]?:=fun n hn=>by
     simp only[row,List.getElem?_toArray];rw[xar,List.getElem?_append_right oq,List.getElem?_append_left oq];congr 1
     simp;omega
    have hFb:G'.F b=N:=by simp[G']
    have hFne:∀b',b'≠b->G'.F b'=G.F b':=fun b' hb=>by
     have:Nat.beq b' b=false:=by
      cases h:Nat.beq b' b with
      |true=>exact absurd (xap h) hb
      |false=>rfl
     simp[G',this]
    have hcell:∀b' o,o<G.F b'->o<G'.F b'/\(w.setRow b row).cell? ⟨b',o,none⟩=w.cell? ⟨b',o,none⟩:=fun b' o ho=>by
     by_cases hbb:b'=b
     ·subst hbb;rw[h3] at ho;refine⟨by rw[hFb];have:xs.length*k<=N:=xav _ od;omega, ?_⟩;rw[cell_setRow_same w b' o cs row et _ h4,hrowL o ho];simp[World.cell?,h4]
     ·exact⟨by rw[hFne b' hbb];exact ho,cell_setRow_other w b row _ hbb⟩
    have hbs:b<w.heap.size:=by
     rcases Nat.lt_or_ge b w.heap.size with h|h
     ·exact h
     ·rw[Array.getElem?_eq_none h] at h4;cases h4
    refine⟨_,_,G',hrun,hr.retok (G':=G') htok od hcell (fun _ _=>rfl) (fun b' hb' hn=>?_) (fun x hx=>by rw[h1] at hx;simp at hx;subst hx;simpa using hbs) (fun b' hb'=> .inl hb') rfl rfl rfl og (fun b' hb'=>?_), ?_⟩
    ·have hne:b'≠b:=fun e=>hn (by rw[h1,e];simp);exact⟨setRow_other w b b' row hne,hFne b' hne⟩
    ·have hb2':w.heap.size<=b':=by simpa using hb'
     rw[hFne b' od];exact hr.top b' hb2'
    ·have hky':∀e,e∈xs++ys->e.length=k:=fun e he=>by
      rcases List.mem_append.1 he with h|h
      ·exact hkx e h
      ·exact hky e h
     have hcellrow:∀n,(w.setRow b row).cell? ⟨b,n,none⟩=row[n]?:=fun n=>cell_setRow_same w b n cs row et _ h4;obtain⟨oa3,cap3,hx,_,hx'⟩|⟨b3,off3,cap3,olds,hxe,hx2,hx3,hx4,hx5,hx6⟩:=hd.sl_cells hkx
     ·simp only[Value.slice.injEq] at hx;exact absurd hx.1.symm (hx' _ _)
     simp only[Value.slice.injEq,xae,Addr.mk.injEq] at hxe;obtain⟨⟨rfl,rfl,_⟩,_,rfl⟩:=hxe;have hrow:RelD G'.F (w.setRow b row) (.sl (xs++ys)) (.slice (some ⟨b,0,none⟩) (xs++ys).length cap):=by
      refine RelD.row (us:=olds++news) hkx hky (by simpa using hroom) (by simp[hx3,hnl,Nat.add_mul]) (fun n u hn=>⟨?_, ?_⟩) (fun i hi j hj hu=>?_) (fun i hi j hj hu=>?_)
      ·obtain⟨hl1,_⟩:=List.getElem?_eq_some_iff.1 hn;simp only[xaa,hx3,hnl,<-Nat.add_mul] at hl1;rw[hFb];exact hl1
      ·rw[hcellrow];by_cases hno:n<olds.length
       ·rw[hrowL n od];rw[List.getElem?_append_left hno] at hn;have:=(hx4 n u hn).2;rw[Nat.zero_add] at this;simpa [World.cell?,h4] using this
       ·rw[List.getElem?_append_right od] at hn;have hl1:=(List.getElem?_eq_some_iff.1 hn).1;have:=hrowN (n-olds.length) hl1;rw[show xs.length*k+(n-olds.length)=n by omega] at this;rw[this];exact hn
      ·have hlt':i*k+j<olds.length:=by
        have h1:xs[i].length=k:=hkx _ (xao hi);have:(i+1)*k<=xs.length*k:=xav _ od;rw[Nat.add_mul] at this;omega
       rw[List.getElem_append_left hlt'];exact(hx6 i hi j hj hlt').mono hcell
      ·have h1:ys[i].length=k:=hky _ (xao hi);have hlt':i*k+j<news.length:=by
        have:(i+1)*k<=ys.length*k:=xav _ od;rw[Nat.add_mul] at this;omega
       have e2:(olds++news)[(xs.length+i)*k+j]=news[i*k+j]:=by
        rw[List.getElem_append_right (by rw[hx3,Nat.add_mul];omega)];congr 1;rw[hx3,Nat.add_mul];omega
       rw[e2];exact(hnr i hi j hj hlt').mono hcell
     rw[xaa] at hrow;refine .gl hrow (fun n' k' hm'=>?_);rw[hT'] at hm';cases hm'
     exact⟨by simp,fun _=>⟨hky',.inr ⟨b,cap,row,et,h1,rfl,hFb,setRow_heap w b cs row et _ h4,by rw[hrs];exact h5,hroom⟩⟩⟩
   ·
    obtain⟨oa3,cap3,hx,_,hx'⟩|⟨b3,off3,cap3,olds,hxe,hx2,hx3,hx4,hx5,hx6⟩:=hd.sl_cells hkx
    ·simp only[Value.slice.injEq] at hx;exact absurd hx.1.symm (hx' _ _)
    simp only[Value.slice.injEq,xae,Addr.mk.injEq] at hxe;obtain⟨⟨rfl,rfl,_⟩,_,rfl⟩:=hxe;have hrun:=run_append_grow (P:=c.P) w t opt e i z ht.und hi1 z2 ⟨b,0,none⟩ xs.length cap olds (by rw[hi2];exact hx3)
     (fun j u hj=>by rw[zcR];exact(hx4 j u hj).2) ⟨b2,off2,none⟩ ys.length cap2 news hnl' hnews od od (by rw[hi3];exact growslice_fits od hb)
    obtain⟨G',hR,hA⟩:=fresh olds (grownCap w (xs.length+ys.length) cap e) hx3 (by have:=grownCap_ge w (xs.length+ys.length) cap e;omega) hx6;exact⟨_,_,G',hrun,hR,hA⟩
end
section
variable {c:Ctx}{all:Array Oper}{chk:List Rec->Prop}{os:List Oper}{recs:List Rec}{env:Env}{hp:Hp}{Q:St->Prop}
variable {d ty:Nat}{pos:String}{af:Array Edge}{g:Option (Nat×Bool)}{pg:List (Nat×AV)}
variable {t yt:TypeId}{x y:Operand}
structure ZeroT (P:Program) (e k:Nat):Prop where
 out:∃i z,P.info? e=some i/\i.zero=some z/\z.cells.size=k
theorem Walk.append {id k e yb:Nat}{xs ys:List (List D)}{vy:AV} (ht:SlT c.P t e k yb) (hz:ZeroT c.P e k) (hk:Nat.blt 0 k=true) (hg:GH all env g pg) (hd:Nat.blt d c.n=true)
  (hx:opd env x=some (.gl id xs)) (hy:opd env y=some vy) (hyd:vy.toD=some (.sl ys)) (htok:getH hp id=some (.tok xs.length k)) (hky:∀y,y∈ys->y.length=k)
  (hb:(xs.length+ys.length)*yb<=140737488355328) (hm:xs.length+ys.length<=9223372036854775807)
  (hn:Walk c all chk os (zam (pg++(opF x (.gl id xs)++opF y vy)) [(id,.tok xs.length k)] [] ⟨some (d,.gl id (xs++ys)),[(id,some (.tok (xs.length+ys.length) k))]⟩::recs)
   ⟨(d,.gl id (xs++ys))::env,(id,some (.tok (xs.length+ys.length) k))::hp⟩ Q):
  Walk c all chk (⟨some d,.call ⟨.builtin .append,#[x,y],#[t,t]⟩,ty,pos,af,g⟩::os) recs ⟨env,hp⟩ Q:=by
 refine⟨pg++(opF x (.gl id xs)++opF y vy),[(id,.tok xs.length k)],[],_, ?_,zat hg.facts (zat (zaU hx) (zaU hy)),hh1 htok,by simp,hn⟩;intro s a w hrel hp' hh _ K Q' hK;obtain⟨G,hr⟩:=hrel;have e1:=hr.opd (zaX hx (fun p hm=>hp' p (by simp[hm])));have e2:=hr.opd (zaX hy (fun p hm=>hp' p (by simp[hm])));obtain⟨i,z,z1,z2,z3⟩:=hz.out;obtain⟨v',w',G',hrun,hR,hA⟩:=zm2 hr ht ⟨i,z1,z2,z3⟩ (by simpa [Nat.blt_eq] using hk) (hh1' hh) e1 (e2.toD hyd) hky hb hm ty;unfold wpO;rw[if_pos (hg.gf.wanted hr (fun p hm=>hp' p (by simp[hm])))];unfold Oper.wp;have:(execOp a.eval ⟨some d,.call ⟨.builtin .append,#[x,y],#[t,t]⟩,ty,pos,af,g⟩).run c.P w = .ok (.value v') w':=by
  simp only[execOp,resolve,invoke,builtin,Sem.run_bind,Sem.run_pure,Result.andThen_ok,List.map_toArray,xaf,List.map_nil,hrun]
 rw[this,Oper.upon_value];exact hK _ _ ⟨G',hR.put hA hd⟩
theorem zg3 {P:Program}{w:World} (isl:Bool) (len cap:Nat){lo hi:Option Value}{a b:Nat} (hlo:(lo=none/\a=0)\/∃kd,lo=some (.int kd a))
  (hhi:(hi=none/\b=len)\/∃kd,hi=some (.int kd b)) (hab:a<=b) (hb:b<=cap):(Instr.sliceBounds isl len cap lo hi none).run P w = .ok (a,b,cap) w:=by
 have h1:(0:Int)<=(a:Int)/\(a:Int)<=(b:Int):=by omega
 have h2:(0:Int)<=(b:Int)/\(b:Int)<=(cap:Int):=by omega
 rcases hlo with ⟨rfl,rfl⟩|⟨k1,rfl⟩<;>rcases hhi with ⟨rfl,rfl⟩|⟨k2,rfl⟩
 ·simp[Instr.sliceBounds]
 ·simp only[Instr.sliceBounds,Instr.sliceBound,asIntOf,Sem.run_bind,Sem.run_pure,Result.andThen_ok,h2,and_self,if_true,Int.toNat_natCast]
 ·simp only[Instr.sliceBounds,Instr.sliceBound,asIntOf,Sem.run_bind,Sem.run_pure,Result.andThen_ok,h1,and_self,if_true,Int.toNat_natCast]
 ·simp only[Instr.sliceBounds,Instr.sliceBound,asIntOf,Sem.run_bind,Sem.run_pure,Result.andThen_ok,h1,h2,and_self,if_true,Int.toNat_natCast]
theorem zgf {P:Program}{w:World} (ht:P.underlying t=some .string){l:List UInt8}{lo hi:Option Value}{a b:Nat} (hlo:(lo=none/\a=0)\/∃kd,lo=some (.int kd a))
  (hhi:(hi=none/\b=l.length)\/∃kd,hi=some (.int kd b)) (hab:a<=b) (hb:b<=l.length):
  (Instr.sliceAt t (.string ⟨l.toArray⟩) lo hi none).run P w = .ok (.string ⟨((l.drop a).take (b-a)).toArray⟩) w:=by
 have hsz:(ByteArray.mk l.toArray).size=l.length:=by simp[ByteArray.size]
 have hext:(ByteArray.mk l.toArray).extract a b=⟨((l.drop a).take (b-a)).toArray⟩:=by
  apply ByteArray.ext;simp[ByteArray.data_extract,List.extract_eq_take_drop]
 have hbd:=zg3 (P:=P) (w:=w) false l.length l.length hlo hhi hab hb;simp only[Instr.sliceAt,Sem.run_bind,run_underlying ht,Result.andThen_ok,Instr.slice,hsz,Option.isSome_none,Bool.false_eq_true,if_false,Sem.run_pure,hbd,hext]
theorem xbv {l:List UInt8}{o:Operand}{kd:IntKind}{n:Int}{b:Nat} (ht:c.P.underlying t=some .string) (hg:GH all env g pg) (hd:Nat.blt d c.n=true)
  (hx:opd env x=some (.d (.str l))) (ho:opd env o=some (.d (.int kd n))) (hi:n = ↑b) (hb:b<=l.length)
  (hn:Walk c all chk os (zam (pg++(opF x (.d (.str l))++opF o (.d (.int kd n)))) [] [] ⟨some (d,.d (.str (l.take b))),[]⟩::recs) ⟨(d,.d (.str (l.take b)))::env,hp⟩ Q):
  Walk c all chk (⟨some d,.slice t x none (some o) none,ty,pos,af,g⟩::os) recs ⟨env,hp⟩ Q:=
 xbL hg hd hx ho (fun a G T w h1 h2=>⟨.string ⟨(l.take b).toArray⟩,by
  have:=zgf (P:=c.P) (w:=w) ht (l:=l) (lo:=none) (hi:=some (.int kd b)) (a:=0) (b:=b) (.inl ⟨rfl,rfl⟩) (.inr ⟨kd,rfl⟩) (Nat.zero_le _) hb;simp only[Nat.sub_zero,List.drop_zero] at this;simp only[execOp,h1.str_eq,h2.int_eq,hi,Option.map_none,Option.map_some,Sem.run_bind,this,Result.andThen_ok,Sem.run_pure],.d (.str _)⟩) hn
theorem xbw {l:List UInt8}{o:Operand}{kd:IntKind}{n:Int}{b:Nat} (ht:c.P.underlying t=some .string) (hg:GH all env g pg) (hd:Nat.blt d c.n=true)
  (hx:opd env x=some (.d (.str l))) (ho:opd env o=some (.d (.int kd n))) (hi:n = ↑b) (hb:b<=l.length)
  (hn:Walk c all chk os (zam (pg++(opF x (.d (.str l))++opF o (.d (.int kd n)))) [] [] ⟨some (d,.d (.str (l.drop b))),[]⟩::recs) ⟨(d,.d (.str (l.drop b)))::env,hp⟩ Q):
  Walk c all chk (⟨some d,.slice t x (some o) none none,ty,pos,af,g⟩::os) recs ⟨env,hp⟩ Q:=
 xbL hg hd hx ho (fun a G T w h1 h2=>⟨.string ⟨(l.drop b).toArray⟩,by
  have:=zgf (P:=c.P) (w:=w) ht (l:=l) (lo:=some (.int kd b)) (hi:=none) (a:=b) (b:=l.length) (.inr ⟨kd,rfl⟩) (.inl ⟨rfl,rfl⟩) hb (Nat.le_refl _);have e:(l.drop b).take (l.length-b)=l.drop b:=List.take_of_length_le og;rw[e] at this;simp only[execOp,h1.str_eq,h2.int_eq,hi,Option.map_none,Option.map_some,Sem.run_bind,this,Result.andThen_ok,Sem.run_pure],.d (.str _)⟩) hn
theorem xbx {l:List UInt8}{o o2:Operand}{kd kd2:IntKind}{n n2:Int}{a b:Nat} (ht:c.P.underlying t=some .string) (hg:GH all env g pg) (hd:Nat.blt d c.n=true)
  (hx:opd env x=some (.d (.str l))) (ho:opd env o=some (.d (.int kd n))) (ho2:opd env o2=some (.d (.int kd2 n2))) (hi:n = ↑a) (hi2:n2 = ↑b) (hab:a<=b) (hb:b<=l.length)
  (hn:Walk c all chk os (zam (pg++opFL [x,o,o2] [.d (.str l),.d (.int kd n),.d (.int kd2 n2)]) [] [] ⟨some (d,.d (.str ((l.drop a).take (b-a)))),[]⟩::recs) ⟨(d,.d (.str ((l.drop a).take (b-a))))::env,hp⟩ Q):
  Walk c all chk (⟨some d,.slice t x (some o) (some o2) none,ty,pos,af,g⟩::os) recs ⟨env,hp⟩ Q:=
 xbM hg hd (by simp[opdL,hx,ho,ho2]) (fun ac G T w h=>⟨.string ⟨((l.drop a).take (b-a)).toArray⟩,by
  have h0:=h.2 0 og og;have h1:=h.2 1 og og;have h2:=h.2 2 og og;simp only[List.getElem_cons_zero,List.getElem_cons_succ] at h0 h1 h2;have:=zgf (P:=c.P) (w:=w) ht (l:=l) (lo:=some (.int kd a)) (hi:=some (.int kd2 b)) (a:=a) (b:=b) (.inr ⟨kd,rfl⟩) (.inr ⟨kd2,rfl⟩) hab hb;simp only[execOp,h0.str_eq,h1.int_eq,h2.int_eq,hi,hi2,Option.map_none,Option.map_some,Sem.run_bind,this,Result.andThen_ok,Sem.run_pure],.d (.str _)⟩) hn
theorem zol {P:Program}{w:World}{F:Nat->Nat}{e k yb:Nat} (ht:SlT P t e k yb){xs:List (List D)}{v:Value} (hv:RelD F w (.sl xs) v) (hk:∀x,x∈xs->x.length=k)
  {lo hi:Option Value}{a b:Nat} (hlo:(lo=none/\a=0)\/∃kd,lo=some (.int kd a))
  (hhi:(hi=none/\b=xs.length)\/∃kd,hi=some (.int kd b)) (hab:a<=b) (hb:b<=xs.length):
  ∃u,(Instr.sliceAt t v lo hi none).run P w = .ok u w/\RelD F w (.sl ((xs.drop a).take (b-a))) u:=by
 obtain⟨ie,hi1,hi2,hi3⟩:=ht.inf;have h0:∀(ad:Option Addr) (cap:Nat),v = .slice ad xs.length cap->xs.length<=cap->
   (Instr.sliceAt t v lo hi none).run P w = .ok (.slice (if cap=a then ad else ad.map (·.add (a*k))) (b-a) (cap-a)) w:=by
  intro ad cap hvv hcap;subst hvv;have hbd:=zg3 (P:=P) (w:=w) true xs.length cap hlo hhi hab od;simp only[Instr.sliceAt,Sem.run_bind,run_underlying ht.und,Result.andThen_ok,Instr.slice,hbd,ht.run_size,Sem.run_pure]
 cases hv with
 |nil=>
  have hb0:b=0:=by simpa using hb
  subst hb0;have ha0:a=0:=by omega
  subst ha0;refine⟨_,h0 none 0 rfl og, ?_⟩;simp;exact .nil
 |emp bl off s cap=>
  have hb0:b=0:=by simpa using hb
  subst hb0;have ha0:a=0:=by omega
  subst ha0;refine⟨_,h0 _ cap rfl og, ?_⟩;simp only[List.drop_nil,List.take_nil,Nat.zero_mul,Option.map_some,Nat.sub_zero];by_cases hz:cap=0
  ·rw[if_pos hz];exact .emp _ _ _ _
  ·rw[if_neg hz];exact .emp _ _ _ _
 |sl _ k' bl off cap cf hk' hcap hc hr=>
  refine⟨_,h0 _ cap rfl hcap, ?_⟩;have:=RelD.sub (RelD.sl (F:=F) (w:=w) xs k' bl off cap cf hk' hcap hc hr) hk hab hb;by_cases hca:cap=a
  ·rw[if_pos hca];have e0:b-a=0:=by omega
   rw[e0];exact .sl [] k bl off _ (fun _=>undef) og og (fun n hn=>by simp at hn) (fun i hi=>by simp at hi)
  ·rw[if_neg hca];simp only[Option.map_some,zcR];exact this
theorem Walk.cut_h {e k yb:Nat}{xs:List (List D)}{vx:AV}{o:Operand}{kd:IntKind}{n:Int}{b:Nat} (ht:SlT c.P t e k yb) (hg:GH all env g pg) (hd:Nat.blt d c.n=true)
  (hx:opd env x=some vx) (hxd:vx.toD=some (.sl xs)) (hk:∀x,x∈xs->x.length=k) (ho:opd env o=some (.d (.int kd n))) (hi:n = ↑b) (hb:b<=xs.length)
  (hn:Walk c all chk os (zam (pg++(opF x vx++opF o (.d (.int kd n)))) [] [] ⟨some (d,.d (.sl (xs.take b))),[]⟩::recs) ⟨(d,.d (.sl (xs.take b)))::env,hp⟩ Q):
  Walk c all chk (⟨some d,.slice t x none (some o) none,ty,pos,af,g⟩::os) recs ⟨env,hp⟩ Q:=
 xbL hg hd hx ho (fun a G T w h1 h2=>by
  obtain⟨u,h3,h4⟩:=zol (P:=c.P) (w:=w) ht (h1.toD hxd) hk (lo:=none) (hi:=some (.int kd b)) (a:=0) (b:=b) (.inl ⟨rfl,rfl⟩) (.inr ⟨kd,rfl⟩) (Nat.zero_le _) hb;simp only[Nat.sub_zero,List.drop_zero] at h4;exact⟨u,by simp only[execOp,h2.int_eq,hi,Option.map_none,Option.map_some,Sem.run_bind,h3,Result.andThen_ok,Sem.run_pure],.d h4⟩) hn
end
def zdu (G:Gh) (hp:Hp):List Nat:=hp.flatMap fun p=>if (getH hp p.1).isSome then G.loc p.1 else []
theorem zgO {hp:Hp}{id:Nat}{r:Res} (h:getH hp id=some r):∃x,(id,x)∈hp:=⟨_,zch h⟩
theorem zg0 {G:Gh}{hp:Hp}{b:Nat}:b∈zdu G hp↔∃id,(getH hp id).isSome/\b∈G.loc id:=by
 simp only[zdu,List.mem_flatMap];constructor
 ·rintro ⟨⟨id,x⟩,hm,hb⟩
  by_cases h:(getH hp id).isSome
  ·rw[if_pos h] at hb;exact⟨id,h,hb⟩
  ·rw[if_neg h] at hb;simp at hb
 ·rintro ⟨id,h,hb⟩
  obtain⟨r,hr⟩:=Option.isSome_iff_exists.1 h;obtain⟨x,hx⟩:=zgO hr;exact⟨(id,x),hx,by rw[if_pos h];exact hb⟩
structure HOK (G:Gh) (w:World) (hp:Hp) (args:List AV) (vals:Array Value):Prop where
 args:AllR G (tokf hp) w args vals
 heap:∀id r,getH hp id=some r->RelR G (tokf hp) w id r
 disj:∀id id',(getH hp id).isSome->(getH hp id').isSome->id≠id'->∀b,b∈G.loc id->b∉G.loc id'
 top:∀b,w.heap.size<=b->G.F b=0
def zb8 (hp:Hp) (id:Nat):Bool:=match getH hp id with
 |some (.tok _ _)=>false
 |some _=>true
 |none=>false
theorem zeg {hp:Hp}{id:Nat} (h:zb8 hp id=true):(getH hp id).isSome/\tokf hp id=none:=by
 unfold zb8 at h;unfold tokf;cases hg:getH hp id with
 |none=>simp[hg] at h
 |some r=>cases r<;>simp_all
structure Ret (P:Program) (G:Gh) (w:World) (hp:Hp) (v:Value) (w':World) (r:AV) (hp':Hp) (G':Gh):Prop where
 res:RelA G' (tokf (hp'++hp)) w' r v
 heap:∀id x,getH (hp'++hp) id=some x->RelR G' (tokf (hp'++hp)) w' id x
 disj:∀id id',(getH (hp'++hp) id).isSome->(getH (hp'++hp) id').isSome->id≠id'->∀b,b∈G'.loc id->b∉G'.loc id'
 new:∀id,(getH (hp'++hp) id).isSome->∀b,b∈G'.loc id->b∈zdu G hp\/w.heap.size<=b
 frm:Frm w G.F (zdu G hp) w' G'.F
 top:∀b,w'.heap.size<=b->G'.F b=0
 kept:∀id,zb8 hp id=true->(G'.loc id).head?=(G.loc id).head?/\(getH (hp'++hp) id).isSome/\tokf (hp'++hp) id=none
def Fn (P:Program) (f:FuncId) (args:List AV) (hp:Hp) (Post:AV->Hp->Prop):Prop:=
 ∀(G:Gh) (w:World) (vals:Array Value),HOK G w hp args vals->
  Calls P f vals w fun e w'=>∃v r hp' G',e = .returned v/\Post r hp'/\Ret P G w hp v w' r hp' G'
def FnD (P:Program) (f:FuncId) (args:List AV) (hp:Hp) (r:AV) (hp':Hp):Prop:=Fn P f args hp fun x y=>x=r/\y=hp'
theorem Fn.mono {P:Program}{f:FuncId}{args:List AV}{hp:Hp}{Post Post':AV->Hp->Prop} (h:Fn P f args hp Post) (hp':∀r h,Post r h->Post' r h):Fn P f args hp Post':=
 fun G w vals hok=>(h G w vals hok).mono fun _ _ ⟨v,r,h,G',e1,e2,e3⟩=>⟨v,r,h,G',e1,hp' _ _ e2,e3⟩
def zgK:Nat->List AV->Env
 |_,[]=>[]
 |i,v::r=>(i,v)::zgK (i+1) r
theorem zk6:∀ {args:List AV}{i j:Nat}{v:AV},getE (zgK i args) j=some v->i<=j/\args[j-i]?=some v
 | [],i,j,v,h=>by simp[zgK,getE] at h
 |x::r,i,j,v,h=>by
  simp only[zgK,getE] at h;cases hb:Nat.beq i j with
  |true=>
   have:=xap hb;subst this;simp only[hb,cond_true,xae] at h;exact⟨Nat.le_refl _,by simpa using h⟩
  |false=>
   simp only[hb,cond_false] at h;obtain⟨h1,h2⟩:=zk6 h;refine⟨by omega, ?_⟩;rw[show j-i=(j-(i+1))+1 by omega];simpa using h2
inductive ResOK (P:Program) (s:St):ResultVar->AV->Prop
 |tmp {t v} (h:getE s.env t=some v):ResOK P s (.tmp t) v
 |cell1 {a t id off k cs v} (ht:TyS P t k false) (h:getE s.env a=some (.ref id off)) (hb:getH s.hp id=some (.box cs)) (hv:cs[off]?=some v):ResOK P s (.cell a t) v
 |cellA {a t id off k cs r} (ht:TyS P t k true) (h:getE s.env a=some (.ref id off)) (hb:getH s.hp id=some (.box cs)) (hv:cutC cs off k=some r):ResOK P s (.cell a t) (.agg r)
inductive ResL (P:Program) (s:St):List ResultVar->List AV->Prop
 |nil:ResL P s [] []
 |cons {x v l m} (h:ResOK P s x v) (t:ResL P s l m):ResL P s (x::l) (v::m)
def zg2:List AV->AV
 | [v]=>v
 |vs=> .tup vs
def HSub (l:Hp) (hp:Hp):Prop:=∀id r,getH l id=some r->getH hp id=some r
def Fin (P:Program) (rs:List ResultVar) (hp:Hp) (Post:AV->Hp->Prop) (s:St):Prop:=
 ∃vs r hp',ResL P s rs vs/\LeA (zg2 vs) r/\Post r hp'/\HSub (hp'++hp) s.hp/\∀id,zb8 hp id=true->zb8 (hp'++hp) id=true
def zeK (hp:Hp):List Nat:=(hp.map (·.1)).filter (zb8 hp)
structure KeptIn (kept:Nat->Option (List Nat)) (ids:List Nat):Prop where
 mem:∀id l,kept id=some l->id∈ids
theorem KeptIn.ok {kept:Nat->Option (List Nat)}{ids:List Nat} (h:KeptIn kept ids){hp:Hp} (ha:ids.all (fun id=>(getH hp id).isSome)=true):∀id l,kept id=some l->(getH hp id).isSome:=
 fun id l hk=>List.all_eq_true.1 ha id (h.mem id l hk)
section
variable {c:Ctx}{G:Gh}{s:St}{a:Act}{w:World}
def resF (a:Act):ResultVar->Sem Value
 | .tmp t=>pure (a.tmps.getD t undef)
 | .cell ad t=>do loadVar t (<-asAddr (a.tmps.getD ad undef))
theorem ResOK.run (hr:R c G s a w){x:ResultVar}{v:AV} (h:ResOK c.P s x v):
  ∃u,(resF a x).run c.P w = .ok u w/\RelA G (tokf s.hp) w v u:=by
 cases h with
 |tmp h=>exact⟨_,rfl,hr.slots _ _ h⟩
 | @cell1 ad t id off k cs v ht h hb hv=>
  obtain⟨b,hl,he⟩:=(hr.slots _ _ h).ref_eq;obtain⟨b',vs,e,h2,h3,h4,h5,h6⟩:=hr.heap id _ hb;obtain rfl:=zdr hl.1 h2;obtain⟨hlt,hv'⟩:=List.getElem?_eq_some_iff.1 hv;have hlv:off<vs.size:=by omega
  have hcell:w.cell? ⟨b,off,none⟩=some vs[off]:=by simp[World.cell?,h3,hlv]
  refine⟨vs[off], ?_,by have:=h6 off hlt hlv;rw[hv'] at this;exact this⟩;simp only[resF,he,asAddr,Sem.run_bind,Sem.run_pure,Result.andThen_ok,zek ht hcell]
 | @cellA ad t id off k cs r ht h hb hv=>
  obtain⟨b,hl,he⟩:=(hr.slots _ _ h).ref_eq;obtain⟨b',vs,e,h2,h3,h4,h5,h6⟩:=hr.heap id _ hb;obtain rfl:=zdr hl.1 h2;obtain⟨hlen,hget⟩:=zd1 hv;have hbd:∀i,i<k->off+i<cs.length:=fun i hi=>by
   have:=hget i hi;rw[xan od] at this;rcases Nat.lt_or_ge (off+i) cs.length with h|h
   ·exact h
   ·rw[List.getElem?_eq_none h] at this;cases this
  let l:List Value:=(List.range k).map fun i=>vs.getD (off+i) undef
  have hcell:∀j v,l[j]?=some v->w.cell? ⟨b,off+j,none⟩=some v:=fun j v hj=>by
   simp only[l,List.getElem?_map,Option.map_eq_some_iff] at hj;obtain⟨i,hi,rfl⟩:=hj;obtain⟨hi1,rfl⟩:=List.getElem?_eq_some_iff.1 hi;simp only[List.length_range] at hi1;have:=hbd j hi1;simp[World.cell?,h3,List.getElem_range,show off+j<vs.size by omega]
  refine⟨.agg l.toArray, ?_,.agg (by simp[l,hlen]) (fun i hi hv'=>?_)⟩
  ·simp only[resF,he,asAddr,Sem.run_bind,Sem.run_pure,Result.andThen_ok,zej ht (by simp[l]) hcell]
  ·have hik:i<k:=by omega
   have h7:=hbd i hik;have h8:r[i]=cs[off+i]:=by
    have:=hget i hik;rw[xan hi,xan h7] at this;exact Option.some.inj this
   rw[h8];have:=h6 (off+i) h7 od;simpa [l,show off+i<vs.size by omega] using this
theorem ResL.run (hr:R c G s a w):∀ {xs:List ResultVar}{vs:List AV},ResL c.P s xs vs->
  ∃us:List Value,(xs.mapM (resF a)).run c.P w = .ok us w/\AllR G (tokf s.hp) w vs us.toArray
 | [],_,h=>by cases h;exact⟨[],by simp,⟨rfl,fun i hi=>by simp at hi⟩⟩
 |x::r,_,h=>by
  cases h with
  |cons h t=>
   obtain⟨u,h1,h2⟩:=h.run hr;obtain⟨us,h3,h4⟩:=ResL.run hr t;refine⟨u::us, ?_, ?_,fun i hi hv=>?_⟩
   ·rw[List.mapM_cons];simp only[Sem.run_bind];rw[h1];simp only[Result.andThen_ok];rw[h3];simp
   ·simpa using h4.size
   ·cases i with
    |zero=>simpa using h2
    |succ i=>
     have:=h4.rel i (by simpa using hi) (by simpa using hv);simpa only[List.getElem_toArray,List.getElem_cons_succ] using this
theorem zm9 (hr:R c G s a w){fn:Func}{vs:List AV} (h:ResL c.P s fn.results.toList vs):
  ∃v,(results fn a.tmps).run c.P w = .ok v w/\RelA G (tokf s.hp) w (zg2 vs) v:=by
 obtain⟨us,h1,h2⟩:=ResL.run hr h;have hm:(fn.results.mapM (resF a)).run c.P w = .ok us.toArray w:=by
  rw[Array.mapM_eq_mapM_toList];simp only[Sem.run_map,h1,Result.andThen_ok]
 have e:results fn a.tmps=(fn.results.mapM (resF a) >>= fun vs=>pure (if h:vs.size=1 then vs[0] else .tuple vs)):=by
  have hF:(fun x=>(match x with | .tmp t=>pure (a.tmps.getD t undef) | .cell ad t=>(do loadVar t (<-asAddr (a.tmps.getD ad undef))):Sem Value))=resF a:=by
   funext x;cases x<;>rfl
  rw[<-hF];rfl
 rw[e];simp only[Sem.run_bind,hm,Result.andThen_ok,Sem.run_pure];have hs:=h2.size;by_cases h1:us.length=1
 ·obtain⟨u,rfl⟩:=List.length_eq_one_iff.1 h1;have hvl:vs.length=1:=by simpa using hs.symm
  obtain⟨v,rfl⟩:=List.length_eq_one_iff.1 hvl;exact⟨u,by simp,by simpa [zg2] using h2.rel 0 og og⟩
 ·refine⟨.tuple us.toArray,by simp[h1], ?_⟩;have hne:vs.length≠1:=by simp at hs;omega
  have:zg2 vs = .tup vs:=by
   unfold zg2;split
   ·simp at hne
   ·rfl
  rw[this];exact .tup h2.size h2.rel
end
theorem Fn.body {P:Program}{f n:Nat}{fn:Func}{code:Code}{rs:List ResultVar}{args:List AV}{hp:Hp}{Post:AV->Hp->Prop} (hf:P.funcs[f]?=some fn) (hb:fn.body=some code) (hnn:fn.ntmps=n)
  (hrs:fn.results.toList=rs) (hn:Nat.ble args.length n=true)
  (h:∀w0 F0 own kept,KeptIn kept (zeK hp)->CWp ⟨P,n,w0,F0,own,kept⟩ code ⟨zgK 0 args,hp⟩ ⟨Fin P rs hp Post,fun _ _=>False,Fin P rs hp Post⟩):
  Fn P f args hp Post:=by
 subst hnn hrs;have hn:args.length<=fn.ntmps:=by simpa using hn
 intro G w vals hok;let kept:Nat->Option (List Nat):=fun id=>if zb8 hp id=true then some (G.loc id) else none
 have hkept:∀id l,kept id=some l->zb8 hp id=true/\G.loc id=l:=fun id l hk=>by
  by_cases hi:zb8 hp id=true
  ·simp only[kept,hi,if_true,xae] at hk;exact⟨hi,hk⟩
  ·simp[kept,hi] at hk
 have hki:KeptIn kept (zeK hp):=⟨fun id l hk=>by
  have hi:=(hkept id l hk).1;have hs:=(zeg hi).1;obtain⟨r,hr⟩:=Option.isSome_iff_exists.1 hs;obtain⟨x,hx⟩:=zgO hr;simp only[zeK,List.mem_filter,List.mem_map];exact⟨⟨(id,x),hx,rfl⟩,hi⟩⟩
 let c:Ctx:=⟨P,fn.ntmps,w,G.F,zdu G hp,kept⟩
 have hsz:=hok.args.size;have hR:R c G ⟨zgK 0 args,hp⟩ { tmps:=vals++Array.replicate (fn.ntmps-vals.size) undef,defers:=[] } w:=by
  refine⟨by simp[c];omega,rfl,fun i v hi=>?_,hok.heap,hok.disj,fun id hs b hb'=> .inl (zg0.2 ⟨id,hs,hb'⟩),Frm.refl _ _ _,hok.top,fun id l hk=>?_⟩
  ·obtain⟨_,h2⟩:=zk6 hi;simp only[Nat.sub_zero] at h2;obtain⟨h3,h4⟩:=List.getElem?_eq_some_iff.1 h2;have h5:i<vals.size:=by omega
   have:=hok.args.rel i h3 h5;rw[h4] at this;have e:(vals++Array.replicate (fn.ntmps-vals.size) undef).getD i undef=vals[i]:=by
    simp only[Array.getD_eq_getD_getElem?];rw[Array.getElem?_append_left h5];simp[h5]
   show RelA G (tokf hp) w v ((vals++Array.replicate (fn.ntmps-vals.size) undef).getD i undef)
   rw[e];exact this
  ·obtain⟨h1,h2⟩:=hkept id l hk;obtain⟨h3,h4⟩:=zeg h1;exact⟨xam List.head? h2,h3,h4⟩
 refine calls_of_wp hf hb (wp_mono (h w G.F (zdu G hp) kept hki _ _ ⟨G,hR⟩) ?_);have fin:∀s a' w',Rel c s a' w'->Fin P fn.results.toList hp Post s->a'.defers=[]/\∃v,(results fn a'.tmps).run P w' = .ok v w'/\
   ∃v' r hp' G',Ending.returned v = .returned v'/\Post r hp'/\Ret P G w hp v' w' r hp' G':=by
  rintro s a' w' ⟨G',hr⟩ ⟨vs,r,hp',h1,h2,h3,h4,h5⟩
  obtain⟨v,hv,hrel⟩:=zm9 hr (fn:=fn) h1;refine⟨hr.defers,v,hv,v,r,hp',G',rfl,h3, ?_⟩;have hT:∀id p,tokf (hp'++hp) id=some p->tokf s.hp id=some p:=by
   rintro id ⟨n,k⟩ hp2
   exact zak.2 (h4 _ _ (zak.1 hp2))
  have hm:∀ {x:AV}{u:Value},RelA G' (tokf s.hp) w' x u->RelA G' (tokf (hp'++hp)) w' x u:=fun hx=>
   hx.mono (fun _ _ ho=>⟨ho,rfl⟩) (fun _ _=> .inl rfl) (fun id _ p hp2=>⟨hT id p hp2,fun _ _=>⟨rfl,rfl⟩⟩)
  have hsome:∀id,(getH (hp'++hp) id).isSome->(getH s.hp id).isSome:=fun id hi=>by
   obtain⟨x,hx⟩:=Option.isSome_iff_exists.1 hi;rw[h4 _ _ hx];rfl
  refine⟨hm (hrel.le h2),fun id x hx=>?_,fun id id' e1 e2=>hr.disj id id' (hsome _ e1) (hsome _ e2),fun id e1=>hr.new id (hsome _ e1),hr.frm,hr.top,fun id hi=>?_⟩
  ·have:=hr.heap id x (h4 _ _ hx);cases x with
   |box cs=>
    obtain⟨b,us,e,e1,e2,e3,e4,e5⟩:=this;exact⟨b,us,e,e1,e2,e3,e4,fun i hi hv=>hm (e5 i hi hv)⟩
   |tok n k=>exact this
   |map ks=>exact this
   |tree cs=>exact zbh this I (fun _ _=>⟨I,I⟩) (Nat.le_refl _) (fun _ _ _=>hm)
  ·have hk:=hr.kept id (G.loc id) (by simp only[c,kept,hi,if_true]);have hb2:=zeg (h5 id hi);exact⟨hk.1,hb2.1,hb2.2⟩
 intro e a' w' hq;cases e with
 |normal=>obtain⟨s,hr,hs⟩:=hq;exact fin s a' w' hr hs
 |ret=>obtain⟨s,hr,hs⟩:=hq;exact fin s a' w' hr hs
 |exit id=>obtain⟨s,hr,hs⟩:=hq;exact hs.elim
 |goto l=>exact hq.elim
 |panic ch=>exact hq.elim
 |outgrown=>exact hq.elim
def subB (a b:List Nat):Bool:=a.all (zaG · b)
theorem zdx {a b:List Nat} (h:subB a b=true):∀x,x∈a->x∈b:=fun x hx=>zaw.1 (List.all_eq_true.1 h x hx)
def zcP (keys:List Nat):Nat×Option Res->Bool
 |(_,some (.box cs))=>subB (AV.idsL cs) keys
 |(_,some (.tree cs))=>subB (AV.idsL cs) keys
 |(_,some (.map _))=>true
 |_=>false
def zcu (cr keys:List Nat):Nat×Option Res->Bool
 |(_,some (.box cs))=>subB (AV.idsL cs) keys
 |(_,some (.tree cs))=>subB (AV.idsL cs) keys
 |(_,some (.map _))=>true
 |(i,some (.tok _ _))=>zaG i cr
 |_=>false
def zbs (hpc hp0:Hp) (r:AV) (cr:List Nat):Bool:=
 let keys:=hpc.map (·.1)++hp0.map (·.1)
 hpc.all (zcP keys)&&hp0.all (zcu cr keys)&&hp0.all (fun p=>zaG p.1 (hpc.map (·.1))||zaG p.1 cr)&&subB r.ids keys
theorem zb3 {hp:Hp}{id:Nat}{r:Res} (h:getH hp id=some r){p:Nat×Option Res->Bool} (ha:hp.all p=true):p (id,some r)=true:=List.all_eq_true.1 ha _ (zch h)
theorem zfz {hp:Hp}{keys:List Nat} (ha:hp.all (zcP keys)=true){id:Nat} (h:id∈hp.map (·.1)):(getH hp id).isSome:=by
 induction hp with
 |nil=>simp at h
 |cons p t ih=>
  obtain⟨i,x⟩:=p;rw[zaa];simp only[List.all_cons,xad] at ha;by_cases hi:id=i
  ·rw[if_pos hi];cases x with
   |none=>simp[zcP] at ha
   |some r=>rfl
  ·rw[if_neg hi];refine ih ha.2 ?_;simp only[xaf,List.mem_cons] at h;exact h.resolve_left hi
theorem zlB {hp:Hp}{cr keys:List Nat} (ha:hp.all (zcu cr keys)=true){id:Nat} (h:id∈hp.map (·.1)):(getH hp id).isSome:=by
 induction hp with
 |nil=>simp at h
 |cons p t ih=>
  obtain⟨i,x⟩:=p;rw[zaa];simp only[List.all_cons,xad] at ha;by_cases hi:id=i
  ·rw[if_pos hi];cases x with
   |none=>simp[zcu] at ha
   |some r=>rfl
  ·rw[if_neg hi];refine ih ha.2 ?_;simp only[xaf,List.mem_cons] at h;exact h.resolve_left hi
section
variable {c:Ctx}
theorem zkW {G:Gh}{s:St}{a:Act}{w:World} (hr:R c G s a w){f:FuncId}{avs:List AV}{hpc:Hp}{Post:AV->Hp->Prop}{vals:Array Value} (hf:Fn c.P f avs hpc Post)
  (hargs:AllR G (tokf s.hp) w avs vals) (hsub:∀id r,getH hpc id=some r->getH s.hp id=some r) (hbox:∀id r,getH hpc id=some r->∀n k,r≠ .tok n k)
  (cr:List Nat) (hcr:∀id,id∈cr->getH s.hp id=none/\zcx id s):
  Calls c.P f vals w fun e w'=>∃v r hp0,e = .returned v/\Post r hp0/\(zbs hpc hp0 r cr=true->
   ∃G',R c G' { s with hp:=hp0++s.hp } a w'/\RelA G' (tokf (hp0++s.hp)) w' r v):=by
 have htc:tokf hpc=fun _=>none:=by
  funext id
  cases hT:tokf hpc id with
  |none=>rfl
  |some p=>obtain⟨n,k⟩:=p;exact absurd I (hbox id _ (zak.1 hT) n k)

 have hok:HOK G w hpc avs vals:=by
  have hm:∀ {x:AV}{v:Value},RelA G (tokf s.hp) w x v->RelA G (tokf hpc) w x v:=fun hx=>
   hx.mono (fun _ _ ho=>⟨ho,rfl⟩) (fun _ _=> .inl rfl) (fun id _ p hp=>by rw[htc] at hp;cases hp)
  have hsome:∀id,(getH hpc id).isSome->(getH s.hp id).isSome:=fun id hi=>by
   obtain⟨x,hx⟩:=Option.isSome_iff_exists.1 hi;rw[hsub _ _ hx];rfl
  refine⟨⟨hargs.size,fun i hi hv=>hm (hargs.rel i hi hv)⟩,fun id r h=>?_,fun id id' h1 h2=>hr.disj id id' (hsome _ h1) (hsome _ h2),hr.top⟩;have:=hr.heap id r (hsub id r h);cases r with
  |box cs=>
   obtain⟨b,us,e,e1,e2,e3,e4,e5⟩:=this;exact⟨b,us,e,e1,e2,e3,e4,fun i hi hv=>hm (e5 i hi hv)⟩
  |tok n k=>exact this
  |map ks=>exact this
  |tree cs=>exact zbh this I (fun _ _=>⟨I,I⟩) (Nat.le_refl _) (fun _ _ _=>hm)
 refine(hf G w vals hok).mono ?_;rintro e w' ⟨v,r,hp0,G',rfl,hP,hret⟩
 refine⟨v,r,hp0,rfl,hP,fun hchk=>?_⟩;simp only[zbs,xad] at hchk;obtain⟨⟨⟨c1,c2⟩,c3⟩,c4⟩:=hchk;let keys:=hpc.map (·.1)++hp0.map (·.1)
 have hkeys:∀id,id∈keys->(getH (hp0++hpc) id).isSome:=fun id hid=>by
  rw[zbi];split
  ·rename_i h;exact zlB c2 (zaw.1 h)
  ·rename_i h;simp only[keys,List.mem_append] at hid;rcases hid with h' | h'
   ·exact zfz c1 h'
   ·exact absurd (zaw.2 h') h
 have hget:∀id,id∈keys->getH (hp0++s.hp) id=getH (hp0++hpc) id:=fun id hid=>by
  rw[zbi,zbi];split
  ·rfl
  ·rename_i h;simp only[keys,List.mem_append] at hid;have h':id∈hpc.map (·.1):=hid.resolve_right (fun h'=>h (zaw.2 h'));obtain⟨x,hx⟩:=Option.isSome_iff_exists.1 (zfz c1 h');rw[hx,hsub _ _ hx]
 have hgetn:∀id,id∉keys->getH (hp0++s.hp) id=getH s.hp id:=fun id hid=>by
  rw[zbi];split
  ·rename_i h;exact absurd (List.mem_append.2 (.inr (zaw.1 h))) hid
  ·rfl
 have ht0:∀id,id∈keys->id∉cr->tokf (hp0++s.hp) id=none:=fun id hid hncr=>by
  cases hT:tokf (hp0++s.hp) id with
  |none=>rfl
  |some p=>
   obtain⟨n,k⟩:=p;have h1:=zak.1 hT;rw[hget id hid,zbi] at h1;split at h1
   ·have:=zb3 h1 c2;exact absurd (zaw.1 this) hncr
   ·have:=zb3 h1 c1;simp[zcP] at this
 have htn:∀id,id∉keys->tokf (hp0++s.hp) id=tokf s.hp id:=fun id hid=>by
  unfold tokf;rw[hgetn id hid]
 let G2:Gh:={ F:=G'.F,loc:=fun id=>bif zaG id keys then G'.loc id else G.loc id }
 have hl1:∀id,id∈keys->G2.loc id=G'.loc id:=fun id hid=>by simp[G2,zaw.2 hid]
 have hl2:∀id,id∉keys->G2.loc id=G.loc id:=fun id hid=>by
  have:zaG id keys=false:=by
   cases h:zaG id keys with
   |true=>exact absurd (zaw.1 h) hid
   |false=>rfl
  simp[G2,this]
 have hboxc:∀id,id∈hpc.map (·.1)->zb8 hpc id=true:=fun id hid=>by
  obtain⟨x,hx⟩:=Option.isSome_iff_exists.1 (zfz c1 hid);unfold zb8;rw[hx];cases x with
  |tok n k=>exact absurd I (hbox id _ hx n k)
  |_=>rfl

 have hkey:∀id,id∈keys->(id∈hpc.map (·.1)/\(G'.loc id).head?=(G.loc id).head?)\/(id∉hpc.map (·.1)/\id∈cr):=fun id hid=>by
  by_cases h:id∈hpc.map (·.1)
  ·exact .inl ⟨h,(hret.kept id (hboxc id h)).1⟩
  ·right
   refine⟨h, ?_⟩;have h0:id∈hp0.map (·.1):=(List.mem_append.1 hid).resolve_left h;obtain⟨p,hp,rfl⟩:=List.mem_map.1 h0;have:=List.all_eq_true.1 c3 p hp;simp only[Bool.or_eq_true] at this;rcases this with h' | h'
   ·exact absurd (zaw.1 h') h
   ·exact zaw.1 h'
 have howned:∀b,b∈zdu G hpc->∃id,(getH s.hp id).isSome/\b∈G.loc id/\id∈hpc.map (·.1):=fun b hb=>by
  obtain⟨id,h1,h2⟩:=zg0.1 hb;obtain⟨x,hx⟩:=Option.isSome_iff_exists.1 h1;exact⟨id,by rw[hsub _ _ hx];rfl,h2,List.mem_map.2 ⟨_,zch hx,rfl⟩⟩
 have bound:∀i r,getH s.hp i=some r->∀b,b∈G.loc i->b<w.heap.size:=fun i r h=>(hr.heap i r h).bound;have away:∀i r,i∉hpc.map (·.1)->getH s.hp i=some r->∀b,b∈G.loc i->b∉zdu G hpc:=fun i r hi h b hb hown=>by
  obtain⟨id,h1,h2,h3⟩:=howned b hown;exact hr.disj i id (by rw[h];rfl) h1 (fun e=>hi (e ▸ h3)) b hb h2
 have hm:∀ {x:AV}{u:Value},(∀id,id∈x.ids->id∉cr)->RelA G (tokf s.hp) w x u->RelA G2 (tokf (hp0++s.hp)) w' x u:=fun hx hxx=>
  hxx.mono hret.frm.cell (fun id hid=>by
   by_cases hk:id∈keys
   ·refine .inr ⟨ht0 id hk (hx id hid), ?_⟩;rw[hl1 id hk];rcases hkey id hk with ⟨_,h⟩|⟨_,h⟩
    ·exact h
    ·exact absurd h (hx id hid)
   ·exact .inl (hl2 id hk)) (fun id hid p hp=>by
   have hk:id∉keys:=fun hk=>by rw[ht0 id hk (hx id hid)] at hp;cases hp
   rw[htn id hk] at hp;obtain⟨n,k⟩:=p;have h1:=zak.1 hp;have hnc:id∉hpc.map (·.1):=fun h=>hk (List.mem_append.2 (.inl h));exact⟨hp,fun b hb=>hret.frm.block b (bound id _ h1 b hb) (away id _ hnc h1 b hb)⟩)
 have hm2:∀ {x:AV}{u:Value},(∀id,id∈x.ids->id∈keys)->RelA G' (tokf (hp0++hpc)) w' x u->RelA G2 (tokf (hp0++s.hp)) w' x u:=fun hx hxx=>
  hxx.mono (fun _ _ ho=>⟨ho,rfl⟩) (fun id hid=> .inl (hl1 id (hx id hid))) (fun id hid p hp=>⟨by
   have hk:=hx id hid;unfold tokf at hp ⊢;rw[hget id hk] at hp;exact hp,fun _ _=>⟨I,I⟩⟩)
 have hsome:∀id,id∉keys->(getH (hp0++s.hp) id).isSome->(getH s.hp id).isSome:=fun id hid h=>by rw[hgetn id hid] at h;exact h
 refine⟨G2,⟨hr.size,hr.defers,fun i x hx=>?_,fun id x hx=>?_,fun id id' h1 h2 hne b hb=>?_,fun id h1 b hb=>?_,hr.frm.trans hret.frm ?_,hret.top,fun id l hl=>?_⟩, ?_⟩
 ·exact hm (fun id hid hc=>(hcr id hc).2.1 i x hx hid) (hr.slots i x hx)
 ·by_cases hk:id∈keys
  ·have hx':getH (hp0++s.hp) id=some x:=hx;rw[hget id hk] at hx';have hh:=hret.heap id x hx';have hids:∀j,j∈x.ids->j∈keys:=fun j hj=>by
    cases x with
    |box cs=>
     have:subB (AV.idsL cs) keys=true:=by
      rw[zbi] at hx';split at hx'
      ·exact zb3 hx' c2
      ·exact zb3 hx' c1
     exact zdx this j hj
    |tok n k=>simp[Res.ids] at hj
    |map ks=>simp[Res.ids] at hj
    |tree cs=>
     have:subB (AV.idsL cs) keys=true:=by
      rw[zbi] at hx';split at hx'
      ·exact zb3 hx' c2
      ·exact zb3 hx' c1
     exact zdx this j hj
   cases x with
   |box cs=>
    obtain⟨b,us,e,e1,e2,e3,e4,e5⟩:=hh;exact⟨b,us,e,(hl1 id hk).trans e1,e2,e3,e4,fun i hi hv=>hm2 (fun j hj=>hids j (xay (xao hi) hj)) (e5 i hi hv)⟩
   |tok n k=>exact fun b e1=>by rw[hl1 id hk] at e1;exact hh b e1
   |map ks=>
    obtain⟨b,es,cl,e1,e2⟩:=hh;exact⟨b,es,cl,(hl1 id hk).trans e1,e2⟩
   |tree cs=>exact zbh hh (hl1 id hk) (fun _ _=>⟨I,I⟩) (Nat.le_refl _) (fun x hx v=>hm2 (fun j hj=>hids j (xay hx hj)))
  ·have hx':getH (hp0++s.hp) id=some x:=hx;rw[hgetn id hk] at hx';have hnc:id∉hpc.map (·.1):=fun h=>hk (List.mem_append.2 (.inl h));have hh:=hr.heap id x hx';have hblk:∀b,b∈G.loc id->w'.heap[b]?=w.heap[b]?/\G'.F b=G.F b:=fun b hb=>hret.frm.block b (bound id x hx' b hb) (away id x hnc hx' b hb);cases x with
   |box cs=>
    obtain⟨b,us,e,e1,e2,e3,e4,e5⟩:=hh;obtain⟨f1,f2⟩:=hblk b (by simp[e1]);exact⟨b,us,e,(hl2 id hk).trans e1,f1.trans e2,e3,f2.trans e4,fun i hi hv=>hm (fun j hj hc=>(hcr j hc).2.2 id _ hx' (xay (xao hi) hj)) (e5 i hi hv)⟩
   |tok n k=>exact fun b e1=>by rw[hl2 id hk] at e1;exact Nat.lt_of_lt_of_le (hh b e1) hret.frm.size
   |map ks=>
    obtain⟨b,es,cl,e1,e2,e3,e4⟩:=hh;obtain⟨f1,f2⟩:=hblk b (by simp[e1]);exact⟨b,es,cl,(hl2 id hk).trans e1,f1.trans e2,f2.trans e3,e4⟩
   |tree cs=>exact zbh hh (hl2 id hk) hblk hret.frm.size (fun x hx v=>hm (fun j hj hc=>(hcr j hc).2.2 id _ hx' (xay hx hj)))
 ·have mix:∀i j,i∈keys->j∉keys->(getH (hp0++s.hp) i).isSome->(getH s.hp j).isSome->∀b,b∈G'.loc i->b∉G.loc j:=fun i j hi hj h1 h2 b hb hbj=>by
   obtain⟨x,hx⟩:=Option.isSome_iff_exists.1 h2;have hnc:j∉hpc.map (·.1):=fun h=>hj (List.mem_append.2 (.inl h));rcases hret.new i (by rw[<-hget i hi];exact h1) b hb with h|h
   ·exact away j x hnc hx b hbj h
   ·have:=bound j x hx b hbj;omega
  by_cases hk:id∈keys<;>by_cases hk':id'∈keys
  ·rw[hl1 id hk] at hb;rw[hl1 id' hk'];exact hret.disj id id' (hkeys id hk) (hkeys id' hk') hne b hb
  ·rw[hl1 id hk] at hb;rw[hl2 id' hk'];exact mix id id' hk hk' h1 (hsome id' hk' h2) b hb
  ·rw[hl2 id hk] at hb;rw[hl1 id' hk'];intro hb';exact mix id' id hk' hk h2 (hsome id hk h1) b hb' hb
  ·rw[hl2 id hk] at hb;rw[hl2 id' hk'];exact hr.disj id id' (hsome id hk h1) (hsome id' hk' h2) hne b hb
 ·by_cases hk:id∈keys
  ·rw[hl1 id hk] at hb;rcases hret.new id (hkeys id hk) b hb with h|h
   ·obtain⟨j,h2,h3,_⟩:=howned b h;exact hr.new j h2 b h3
   ·right;have:=hr.frm.size;omega
  ·rw[hl2 id hk] at hb;exact hr.new id (hsome id hk h1) b hb
 ·intro b hb;obtain⟨j,h2,h3,_⟩:=howned b hb;exact hr.new j h2 b h3
 ·have hk0:=hr.kept id l hl;have hncr:id∉cr:=fun h=>by have:=(hcr id h).1;rw[this] at hk0;simp at hk0
  show(G2.loc id).head?=l.head?/\(getH (hp0++s.hp) id).isSome/\tokf (hp0++s.hp) id=none
  by_cases hk:id∈keys
  ·refine⟨?_,by rw[hget id hk];exact hkeys id hk,ht0 id hk hncr⟩;rw[hl1 id hk];rcases hkey id hk with ⟨_,h⟩|⟨_,h⟩
   ·exact h.trans hk0.1
   ·exact absurd h hncr
  ·exact⟨(xam List.head? (hl2 id hk)).trans hk0.1,by rw[hgetn id hk];exact hk0.2.1,by rw[htn id hk];exact hk0.2.2⟩
 ·exact hm2 (fun j hj=>zdx c4 j hj) hret.res
end
section
variable {c:Ctx}{all:Array Oper}{chk:List Rec->Prop}{os:List Oper}{recs:List Rec}{env:Env}{hp:Hp}{Q:St->Prop}
variable {d ty:Nat}{pos:String}{af:Array Edge}{g:Option (Nat×Bool)}{pg:List (Nat×AV)}
def hpF:Hp->List (Nat×Res)
 | []=>[]
 |(i,some r)::t=>(i,r)::hpF t
 |(_,none)::t=>hpF t
theorem zfl {id:Nat}{r:Res}:∀ {hp:Hp},(id,some r)∈hp->(id,r)∈hpF hp
 |(i,some x)::t,h=>by
  simp only[hpF];rcases List.mem_cons.1 h with h|h
  ·cases h;simp
  ·exact List.mem_cons_of_mem _ (zfl h)
 |(i,none)::t,h=>by
  simp only[hpF];rcases List.mem_cons.1 h with h|h
  ·cases h
  ·exact zfl h
def subH:Hp->Hp->Prop
 | [],_=>True
 |(i,some r)::t,hp=>getH hp i=some r/\subH t hp
 |(_,none)::_,_=>False
theorem zeo:∀ {hpc hp:Hp},subH hpc hp->∀p,p∈hpF hpc->getH hp p.1=some p.2
 | [],_,_,p,h=>by simp[hpF] at h
 |(i,some r)::t,hp,hs,p,h=>by
  simp only[hpF] at h;rcases List.mem_cons.1 h with rfl|h
  ·exact hs.1
  ·exact zeo hs.2 p h
 |(_,none)::_,_,hs,_,_=>hs.elim
def zeh:Hp->Bool
 | []=>true
 |(_,some (.tok _ _))::_=>false
 |_::t=>zeh t
theorem zdG:∀ {hp:Hp},zeh hp=true->∀id r,getH hp id=some r->∀n k,r≠ .tok n k
 |(i,some (.box cs))::t,h,id,r,hg,n,k=>by
  rw[zaa] at hg;split at hg
  ·cases hg;simp
  ·exact zdG (hp:=t) h id r hg n k
 |(i,some (.tree cs))::t,h,id,r,hg,n,k=>by
  rw[zaa] at hg;split at hg
  ·cases hg;simp
  ·exact zdG (hp:=t) h id r hg n k
 |(i,some (.map cs))::t,h,id,r,hg,n,k=>by
  rw[zaa] at hg;split at hg
  ·cases hg;simp
  ·exact zdG (hp:=t) h id r hg n k
 |(i,none)::t,h,id,r,hg,n,k=>by
  rw[zaa] at hg;split at hg
  ·cases hg
  ·exact zdG (hp:=t) h id r hg n k
def zax (env:Env) (hp:Hp):List Nat->Bool
 | []=>true
 |i::r=>(match getH hp i with|none=>true|some _=>false)&& !occE i env&& !occH i hp&&zax env hp r
theorem zbw {env:Env}{hp:Hp}:∀ {l:List Nat},zax env hp l=true->∀id,id∈l->getH hp id=none/\zcx id ⟨env,hp⟩
 |i::r,h,id,hm=>by
  simp only[zax,xad,Bool.not_eq_true'] at h;obtain⟨⟨⟨h1,h2⟩,h3⟩,h4⟩:=h;rcases List.mem_cons.1 hm with rfl|hm
  ·refine⟨?_,ziX h2 h3⟩;cases hg:getH hp id with
   |none=>rfl
   |some x=>simp[hg] at h1
  ·exact zbw h4 id hm
theorem zad {P:Program}{f:FuncId}{fn:Func} (hf:P.funcs[f]?=some fn) (hb:fn.body.isSome=true) (hn:(fn.name == "runtime.NumGoroutine")=false) (args:Array Value) (w:World):
  (callFunc f args).run P w = .ok (.enter f args) w:=by
 obtain⟨b,hb'⟩:=Option.isSome_iff_exists.1 hb;have hn':¬fn.name = "runtime.NumGoroutine" :=by simpa using hn
 simp[callFunc,hf,hn',hb']
structure Callee (P:Program) (f:FuncId):Prop where
 run:∀(args:Array Value) (w:World),(callFunc f args).run P w = .ok (.enter f args) w
theorem Walk.call {f:FuncId}{args:Array Operand}{ats:Array TypeId}{xs:List Operand}{vs avs:List AV}{hpc hp0:Hp}{r:AV}{cr:List Nat} (hc:Callee c.P f) (hf:FnD c.P f avs hpc r hp0)
  (hargs:args=xs.toArray) (hg:GH all env g pg) (hd:Nat.blt d c.n=true) (hx:opdL env xs=some vs) (hle:LeL vs avs) (hsub:subH hpc hp) (hnt:zeh hpc=true) (hok:zbs hpc hp0 r cr=true)
  (hcr:zax env hp cr=true)
  (hn:Walk c all chk os (zam (pg++opFL xs vs) (hpF hpc) cr ⟨some (d,r),hp0⟩::recs) ⟨(d,r)::env,hp0++hp⟩ Q):
  Walk c all chk (⟨some d,.call ⟨.value (.func f),args,ats⟩,ty,pos,af,g⟩::os) recs ⟨env,hp⟩ Q:=by
 subst hargs;refine⟨pg++opFL xs vs,hpF hpc,cr,_, ?_,zat hg.facts (zb9 hx),zeo hsub,zbw hcr,hn⟩;intro s a w hrel hp' hh hcr' K Q' hK;obtain⟨G,hr⟩:=hrel;have hrl:=zcJ hr (zca hx (fun p hm=>hp' p (by simp[hm])));have hle':∀ {l m:List AV},LeL l m->∀i (h1:i<l.length) (h2:i<m.length),LeA l[i] m[i]:=by
  intro l;induction l with
  |nil=>intro m _ i h1;simp at h1
  |cons x r ih=>
   intro m h i h1 h2;cases h with
   |cons h t=>
    cases i with
    |zero=>exact h
    |succ i=>exact ih t i (by simpa using h1) (by simpa using h2)
 have hall:AllR G (tokf s.hp) w avs (xs.map a.eval).toArray:=by
  refine⟨by simp[<-hle.len,hrl.1],fun i hi hv=>?_⟩;have h1:i<vs.length:=by rw[hle.len];exact hi
  have:=(hrl.2 i h1 (by rw[<-hrl.1];exact h1)).le (hle' hle i h1 hi);simpa using this
 have hcalls:=zkW hr hf hall (fun id x hx=>hh (id,x) (zfl (zch hx))) (zdG hnt) cr hcr';unfold wpO;rw[if_pos (hg.gf.wanted hr (fun p hm=>hp' p (by simp[hm])))];unfold Oper.wp;have hrun:(execOp a.eval ⟨some d,.call ⟨.value (.func f),xs.toArray,ats⟩,ty,pos,af,g⟩).run c.P w = .ok (.enter f (xs.map a.eval).toArray) w:=by
  have:=hc.run (xs.map a.eval).toArray w;simp only[execOp,resolve,Sem.run_bind,Act.eval,Deferred.ofValue,Sem.run_pure,Result.andThen_ok,invoke];simpa using this
 rw[hrun,Oper.upon_enter];refine hcalls.mono ?_;rintro e w' ⟨v,r',hp1,rfl,⟨rfl,rfl⟩,h⟩
 obtain⟨G',hR,hA⟩:=h hok;exact hK _ _ ⟨G',hR.put hA hd⟩
end
section
variable {c:Ctx}
theorem R.mkTok {G:Gh}{s:St}{a:Act}{w:World} (hr:R c G s a w){id:Nat} (k:Nat) (h0:getH s.hp id=none) (hocc:zcx id s):
  ∃G',R c G' { s with hp:=(id,some (.tok 0 k))::s.hp } a w/\RelA G' (tokf ((id,some (.tok 0 k))::s.hp)) w (.gl id []) (.slice none 0 0)/\
   (∀x v,id∉AV.ids x->RelA G (tokf s.hp) w x v->RelA G' (tokf ((id,some (.tok 0 k))::s.hp)) w x v):=by
 have h1:=hr.rename h0 hocc [];have hl:(fun i=>bif Nat.beq i id then ([]:List Nat) else G.loc i) id=[]:=by simp
 have hloc:∀i,i≠id->(bif Nat.beq i id then ([]:List Nat) else G.loc i)=G.loc i:=fun i h=>by
  cases hb:Nat.beq i id with
  |true=>exact absurd (xap hb) h
  |false=>rfl
 refine⟨_,h1.name h0 hocc (fun b hb=>by simp at hb) (fun i _ b _ hb=>by simp at hb) (fun b hb=>by simp at hb), ?_,fun x v hx h=>?_⟩
 ·refine .gl .nil (fun n k' hT=>?_);have:=zak.1 hT;rw[zaa,if_pos rfl] at this;cases this
  exact⟨Nat.le_refl _,fun _=>⟨by simp,.inl ⟨hl,rfl,rfl⟩⟩⟩
 ·refine h.mono (fun _ _ ho=>⟨ho,I⟩) (fun i hi=> .inl (hloc i (fun e=>hx (e ▸ hi)))) (fun i hi p hp=>?_);have hne:i≠id:=fun e=>hx (e ▸ hi);obtain⟨n,k'⟩:=p;have:=zak.1 hp;rw[zaa,if_neg hne] at this;exact⟨zak.2 this,fun _ _=>⟨rfl,rfl⟩⟩
theorem CWp.tok {env:Env}{hp:Hp}{K:Kt}{code:Code} (t id k:Nat) (h:getE env t=some .nils) (hf:zax env hp [id]=true)
  (hn:CWp c code ⟨(t,.gl id [])::env,(id,some (.tok 0 k))::hp⟩ K):CWp c code ⟨env,hp⟩ K:=by
 intro a w hrel;obtain⟨G,hr⟩:=hrel;obtain⟨h0,hocc⟩:=zbw hf id og;obtain⟨G',h1,h2,_⟩:=hr.mkTok k h0 hocc;refine hn a w ⟨G',h1.size,h1.defers,fun i v hi=>?_,h1.heap,h1.disj,h1.new,h1.frm,h1.top,h1.kept⟩;simp only[getE] at hi;cases hb:Nat.beq t i with
 |true=>
  have:=xap hb;subst this;simp only[hb,cond_true,xae] at hi;subst hi;have:=hr.slots t _ h;have hv:a.tmps.getD t undef = .slice none 0 0:=by
   generalize a.tmps.getD t undef=v at *;cases this;rfl
  rw[hv];exact h2
 |false=>
  simp only[hb,cond_false] at hi;exact h1.slots i v hi
theorem xaC {env:Env}{hp:Hp}{K:Kt}{code:Code} (b off id k:Nat){cs cs':List AV} (hb:getH hp b=some (.box cs)) (h:cs[off]?=some .nils) (hput:putC cs off [.gl id []]=some cs') (hf:zax env hp [id]=true)
  (hn:CWp c code ⟨env,(b,some (.box cs'))::(id,some (.tok 0 k))::hp⟩ K):CWp c code ⟨env,hp⟩ K:=by
 intro a w hrel;obtain⟨G,hr⟩:=hrel;obtain⟨h0,hocc⟩:=zbw hf id og;obtain⟨G',h1,h2,h3⟩:=hr.mkTok k h0 hocc;have hne:b≠id:=fun e=>by subst e;have h0':getH hp b=none:=h0;rw[h0'] at hb;cases hb
 have hb':getH ((id,some (Res.tok 0 k))::hp) b=some (.box cs):=by rw[zaa,if_neg hne];exact hb
 obtain⟨bl,vs,e,e1,e2,e3,e4,e5⟩:=h1.heap b _ hb';obtain⟨hlt,hv⟩:=List.getElem?_eq_some_iff.1 h;have hlv:off<vs.size:=by omega
 have hval:vs[off] = .slice none 0 0:=by
  have:=e5 off hlt hlv;rw[hv] at this;generalize vs[off]=v at *;cases this;rfl
 have hall:PreR G' (tokf ((id,some (.tok 0 k))::hp)) w cs' vs:=by
  obtain⟨p1,p2,p3⟩:=zcn hput;refine⟨by omega,fun i hi hvi=>?_⟩;have:=p3 i;rw[xan hi] at this;by_cases hio:i=off
  ·subst hio;rw[if_pos og] at this;simp only[Nat.sub_self,List.getElem?_cons_zero,xae] at this;rw[this,hval];exact h2
  ·rw[if_neg (by simp only[xab,xak];omega)] at this;have hic:i<cs.length:=by omega
   rw[xan hic] at this;rw[Option.some.inj this];exact e5 i hic hvi
 have:=h1.setBox (vs':=vs) hb' e1 e2 e4 hall;have hw:w.setRow bl vs=w:=setRow_self w bl vs e _ e2;rw[hw] at this;exact hn a w ⟨G',this⟩
def zgU (env:Env):List Nat->Env
 | []=>[]
 |i::r=>match getE env i with
  |some v=>(i,v)::zgU env r
  |none=>zgU env r
def zgV (hp:Hp):List Nat->Hp
 | []=>[]
 |i::r=>match getH hp i with
  |some v=>(i,some v)::zgV hp r
  |none=>zgV hp r
theorem zhJ {env:Env}:∀ {l:List Nat}{i:Nat}{v:AV},getE (zgU env l) i=some v->getE env i=some v
 | [],i,v,h=>by simp[zgU,getE] at h
 |j::r,i,v,h=>by
  simp only[zgU] at h;cases hj:getE env j with
  |none=>simp only[hj] at h;exact zhJ h
  |some u=>
   simp only[hj,getE] at h;cases hb:Nat.beq j i with
   |true=>
    have:=xap hb;subst this;simp only[hb,cond_true] at h;rw[hj];exact h
   |false=>
    simp only[hb,cond_false] at h;exact zhJ h
theorem zhK {hp:Hp}:∀ {l:List Nat}{i:Nat}{v:Res},getH (zgV hp l) i=some v->getH hp i=some v
 | [],i,v,h=>by simp[zgV,getH] at h
 |j::r,i,v,h=>by
  simp only[zgV] at h;cases hj:getH hp j with
  |none=>simp only[hj] at h;exact zhK h
  |some u=>
   simp only[hj] at h;rw[zaa] at h;by_cases hij:i=j
   ·subst hij;rw[if_pos rfl] at h;rw[hj];exact h
   ·rw[if_neg hij] at h;exact zhK h
theorem CWp.keep {env env':Env}{hp hp':Hp}{K:Kt}{code:Code}{ids:List Nat} (hkp:KeptIn c.kept ids) (le lh:List Nat) (he:zgU env le=env') (hh:zgV hp lh=hp') (hk:ids.all (fun id=>(getH hp' id).isSome)=true)
  (hn:CWp c code ⟨env',hp'⟩ K):CWp c code ⟨env,hp⟩ K:=by
 subst he hh;exact CWp.weak (s':=⟨zgU env le,zgV hp lh⟩) ⟨fun i v h=> .inr ⟨v,zhJ h,.refl _⟩,fun i r h=>zhK h⟩ (hkp.ok hk) hn
def SubE:Env->Env->Prop
 | [],_=>True
 |(i,v)::r,env=>(∃u,getE env i=some u/\LeA u v)/\SubE r env
def SubH:Hp->Hp->Prop
 | [],_=>True
 |(i,r)::t,hp=>getH hp i=r/\SubH t hp
theorem SubE.get:∀ {l env:Env},SubE l env->∀i v,getE l i=some v->∃u,getE env i=some u/\LeA u v
 |(j,x)::r,env,h,i,v,hi=>by
  simp only[getE] at hi;cases hb:Nat.beq j i with
  |true=>
   have:=xap hb;subst this;simp only[hb,cond_true,xae] at hi;subst hi;exact h.1
  |false=>
   simp only[hb,cond_false] at hi;exact SubE.get h.2 i v hi
theorem SubH.get:∀ {l hp:Hp},SubH l hp->HSub l hp
 |(j,x)::t,hp,h,i,r,hi=>by
  rw[zaa] at hi;by_cases hij:i=j
  ·subst hij;rw[if_pos rfl] at hi;rw[h.1];exact hi
  ·rw[if_neg hij] at hi;exact SubH.get h.2 i r hi
theorem Sub.of {e e':Env}{h h':Hp} (he:SubE e' e) (hh:SubH h' h):Sub ⟨e',h'⟩ ⟨e,h⟩:=⟨fun i v hi=> .inr (he.get i v hi),fun i r hi=>hh.get i r hi⟩
end
section
variable {c:Ctx}{all:Array Oper}{chk:List Rec->Prop}{os:List Oper}{recs:List Rec}{env:Env}{hp:Hp}{Q:St->Prop}
variable {d ty:Nat}{pos:String}{af:Array Edge}{g:Option (Nat×Bool)}{pg:List (Nat×AV)}
theorem xbl (id k:Nat) (hg:GH all env g pg) (hd:Nat.blt d c.n=true) (hf:zax env hp [id]=true)
  (hn:Walk c all chk os (zam (pg++[]) [] [id] ⟨some (d,.gl id []),[(id,some (.tok 0 k))]⟩::recs) ⟨(d,.gl id [])::env,(id,some (.tok 0 k))::hp⟩ Q):
  Walk c all chk (⟨some d,.assign (.const (.slice none 0 0)),ty,pos,af,g⟩::os) recs ⟨env,hp⟩ Q:=by
 refine⟨pg++[],[],[id],_, ?_,zat hg.facts og,by simp,zbw hf,hn⟩;intro s a w hrel hp' hh hcr K Q' hK;obtain⟨G,hr⟩:=hrel;obtain⟨h1,h2⟩:=hcr id og;obtain⟨G',hR,hA,_⟩:=hr.mkTok k h1 h2;unfold wpO;rw[if_pos (hg.gf.wanted hr (fun p hm=>hp' p (by simp[hm])))];unfold Oper.wp;have:(execOp a.eval ⟨some d,.assign (.const (.slice none 0 0)),ty,pos,af,g⟩).run c.P w = .ok (.value (.slice none 0 0)) w:=rfl;rw[this,Oper.upon_value];exact hK _ _ ⟨G',hR.put hA hd⟩
theorem Walk.mkRowG {op:Op}{xs:List Operand}{vs:List AV}{es:List (List D)}{k:Nat} (id:Nat) (hg:GH all env g pg) (hd:Nat.blt d c.n=true) (hx:opdL env xs=some vs) (hk:∀e,e∈es->e.length=k)
  (hf:zax env hp [id]=true)
  (h:∀(a:Act) (G:Gh) (T:TokF) (w:World),(vs.length=xs.length/\∀i (hi:i<vs.length) (hx:i<xs.length),RelA G T w vs[i] (a.eval xs[i]))->
   ∃us e,(execOp a.eval ⟨some d,op,ty,pos,af,g⟩).run c.P w = .ok (.value (.slice (some ⟨w.heap.size,0,none⟩) es.length es.length)) (w.alloc (.cells us e))/\us.size=es.length*k/\
    ∀i (hi:i<es.length) j (hj:j<es[i].length) (hu:i*k+j<us.size),RelD G.F w es[i][j] us[i*k+j])
  (hn:Walk c all chk os (zam (pg++opFL xs vs) [] [id] ⟨some (d,.gl id es),[(id,some (.tok es.length k))]⟩::recs) ⟨(d,.gl id es)::env,(id,some (.tok es.length k))::hp⟩ Q):
  Walk c all chk (⟨some d,op,ty,pos,af,g⟩::os) recs ⟨env,hp⟩ Q:=by
 refine⟨pg++opFL xs vs,[],[id],_, ?_,zat hg.facts (zb9 hx),by simp,zbw hf,hn⟩;intro s a w hrel hp' hh hcr K Q' hK;obtain⟨G,hr⟩:=hrel;obtain⟨h0,hocc⟩:=hcr id og;obtain⟨us,e,e1,e2,e3⟩:=h a G (tokf s.hp) w (zcJ hr (zca hx (fun p hm=>hp' p (by simp[hm]))));have hr':=(hr.alloc (.cells us e) us.size).rename h0 hocc [w.heap.size];have hloc:∀i,i≠id->(bif Nat.beq i id then [w.heap.size] else G.loc i)=G.loc i:=fun i h=>by
  cases hb:Nat.beq i id with
  |true=>exact absurd (xap hb) h
  |false=>rfl
 have hR:=hr'.name (r:= .tok es.length k) h0 hocc (fun b hb=>by simp at hb;subst hb;simp) (fun i hi b hb=>by
  have hi':i≠id:=fun e=>by subst e;rw[h0] at hi;cases hi
  have hb':b∈G.loc i:=by have:=hloc i hi';simp only[this] at hb;exact hb
  obtain⟨r,hrr⟩:=Option.isSome_iff_exists.1 hi;have hlt:b<w.heap.size:=(hr.heap i r hrr).bound b hb';simp;omega) (fun b hb=>by
  simp at hb;subst hb;exact .inr hr.frm.size)
 unfold wpO;rw[if_pos (hg.gf.wanted hr (fun p hm=>hp' p (by simp[hm])))];unfold Oper.wp;rw[e1,Oper.upon_value];refine hK _ _ ⟨_,hR.put (v:= .gl id es) (.gl ?_ (fun n k' hT=>?_)) hd⟩
 ·refine .sl es k w.heap.size 0 es.length (fun n=>us.getD n undef) hk (Nat.le_refl _) (fun n hn=>⟨?_, ?_⟩) (fun i hi j hj=>?_)
  ·simp only[Nat.beq_refl,cond_true];omega
  ·have:n<us.size:=by omega
   simp[World.cell?_alloc_new,this]
  ·have hjk:j<k:=by rw[<-hk _ (xao hi)];exact hj
   have hlt:i*k+j<us.size:=by
    have:(i+1)*k<=es.length*k:=xav _ od;rw[Nat.add_mul] at this;omega
   have h4:=e3 i hi j hj hlt;have h5:us.getD (i*k+j) undef=us[i*k+j]:=by simp[Array.getD,hlt]
   rw[h5];refine h4.mono (fun b o ho=>?_);have hb:b<w.heap.size:=by
    rcases Nat.lt_or_ge b w.heap.size with h|h
    ·exact h
    ·rw[hr.top b h] at ho;omega
   have:Nat.beq b w.heap.size=false:=by
    cases h:Nat.beq b w.heap.size with
    |true=>have:=xap h;omega
    |false=>rfl
   exact⟨by simpa [this] using ho,World.cell?_alloc_lt w _ _ hb⟩
 ·have:=zak.1 hT;have h2:getH ((id,some (Res.tok es.length k))::s.hp) id=some (.tok n k'):=this;rw[zaa,if_pos rfl] at h2;cases h2
  exact⟨Nat.le_refl _,fun _=>⟨hk,.inr ⟨w.heap.size,es.length,us,e,by simp,rfl,by simp[e2],zew,by rw[e2];exact Nat.le_refl _,Nat.le_refl _⟩⟩⟩
theorem xbR {t:TypeId}{e k yb:Nat} (id:Nat) (ht:SlT c.P t e k yb) (hg:GH all env g pg) (hd:Nat.blt d c.n=true) (hfr:zax env hp [id]=true)
  (hn:Walk c all chk os (zam (pg++opFL [] []) [] [id] ⟨some (d,.gl id []),[(id,some (.tok 0 k))]⟩::recs) ⟨(d,.gl id [])::env,(id,some (.tok 0 k))::hp⟩ Q):
  Walk c all chk (⟨some d,.buildSlice t 0 #[],ty,pos,af,g⟩::os) recs ⟨env,hp⟩ Q:=by
 refine Walk.mkRowG (xs:=[]) (vs:=[]) (es:=[]) (k:=k) id hg hd I og hfr (fun a G T w h=>?_) hn;obtain⟨ie,hi1,hi2,hi3⟩:=ht.inf;refine⟨#[],e, ?_,by simp,fun i hi=>by simp at hi⟩;simp[execOp,Instr.buildSlice,run_underlying ht.und,sizeOf,zel hi1,Instr.fill,newRow,Array.range_zero']
end
section
variable {P:Program}{t:Nat}
def zlV (P:Program) (t:Nat):Option (Nat×Bool):=match P.info? t,P.underlying t with
 |some i,some u=>some (i.size,aggB u)
 |_,_=>none
theorem xa7 {k:Nat}{b:Bool} (h:zlV P t=some (k,b)):TyS P t k b:=by
 unfold zlV at h;split at h
 ·rename_i i u h1 h2;simp only[xae,Prod.mk.injEq] at h;exact⟨⟨i,h1,h.1⟩,⟨u,h2,h.2⟩⟩
 ·cases h
def zop (P:Program) (t:Nat):Option (Nat×Nat×Nat):=match P.underlying t with
 |some (.slice e)=>match P.info? e with
  |some i=>some (e,i.size,i.bytes)
  |none=>none
 |_=>none
theorem xa5 {e k y:Nat} (h:zop P t=some (e,k,y)):SlT P t e k y:=by
 unfold zop at h;split at h
 ·rename_i e' h1;split at h
  ·rename_i i h2;simp only[xae,Prod.mk.injEq] at h;obtain⟨rfl,h3,h4⟩:=h;exact⟨h1,⟨i,h2,h3,h4⟩⟩
  ·cases h
 ·cases h
def zrm (P:Program) (t:Nat):Option (Nat×Option (List AV)):=match P.info? t with
 |some i=>match i.zero with
  |some z=>some (i.size,zc1 z.cells.toList)
  |none=>none
 |none=>none
theorem xa8 {k:Nat}{zs:List AV} (h:zrm P t=some (k,some zs)):TyZ P t k zs:=by
 unfold zrm at h;split at h
 ·rename_i i h1;split at h
  ·rename_i z h2;simp only[xae,Prod.mk.injEq] at h;exact⟨⟨i,z,h1,h.1,h2,h.2⟩⟩
  ·cases h
 ·cases h
def zrp (P:Program) (t:Nat):Option Nat:=match P.info? t with
 |some i=>match i.zero with
  |some z=>some z.cells.size
  |none=>none
 |none=>none
theorem xbV {k:Nat} (h:zrp P t=some k):ZeroT P t k:=by
 unfold zrp at h;split at h
 ·rename_i i h1;split at h
  ·rename_i z h2;simp only[xae] at h;exact⟨⟨i,z,h1,h2,h⟩⟩
  ·cases h
 ·cases h
def zrh (P:Program) (t:Nat):Option (Option (List AV)×Option (List (Nat×Nat))):=match P.info? t,P.underlying t with
 |some i,some (.struct fs)=>match i.zero with
  |some z=>some (zc1 z.cells.toList,fs.toList.mapM (fun f=>(P.info? f.type).map fun i=>(f.offset,i.size)))
  |none=>none
 |_,_=>none
theorem xa6 {pl:List (Nat×Nat)}{zs:List AV} (h:zrh P t=some (some zs,some pl)):StT P t pl zs:=by
 unfold zrh at h;split at h
 ·rename_i i fs h1 h2;split at h
  ·rename_i z h3;simp only[xae,Prod.mk.injEq] at h;exact⟨⟨i,z,fs,h1,h3,h.1,h2,h.2⟩⟩
  ·cases h
 ·cases h
def zn6 (P:Program) (t f:Nat):Option (Nat×Bool):=match P.underlying t with
 |some (.struct fs)=>match fs[f]? with
  |some fd=>match P.info? fd.type with
   |some i=>some (fd.offset,Nat.beq i.size 0)
   |none=>none
  |none=>none
 |_=>none
theorem Fd.of {f o:Nat} (h:zn6 P t f=some (o,false)):Fd P t f o:=by
 unfold zn6 at h;split at h
 ·rename_i fs h1;split at h
  ·rename_i fd h2;split at h
   ·rename_i i h3;simp only[xae,Prod.mk.injEq] at h;refine⟨⟨fs,fd,h1,h2,h.1,i,h3,fun h0=>?_⟩⟩;rw[h0] at h;simp at h
   ·cases h
  ·cases h
 ·cases h
def zqS (P:Program) (t:Nat):Option (Nat×Nat×Nat):=match P.underlying t with
 |some (.array n e)=>match P.info? e with
  |some i=>some (n,e,i.size)
  |none=>none
 |_=>none
theorem ArT.of {n e k:Nat} (h:zqS P t=some (n,e,k)):ArT P t n e k:=by
 unfold zqS at h;split at h
 ·rename_i n' e' h1;split at h
  ·rename_i i h2;simp only[xae,Prod.mk.injEq] at h;obtain⟨rfl,rfl,h3⟩:=h;exact⟨h1,⟨i,h2,h3⟩⟩
  ·cases h
 ·cases h
end
theorem LeL.refl:∀l:List AV,LeL l l
 | []=> .nil
 |x::r=> .cons (.refl x) (LeL.refl r)
theorem LeA.eqd {x y:D} (h:x=y):LeA (.d x) (.d y):=h ▸ .refl _
theorem xaV {n m:Int} (h:n=m):LeA (.d (.i n)) (.d (.i m)):=h ▸ .refl _
theorem xaU {n m:Bool} (h:n=m):LeA (.d (.bool n)) (.d (.bool m)):=h ▸ .refl _
theorem xaW {n m:List UInt8} (h:n=m):LeA (.d (.str n)) (.d (.str m)):=h ▸ .refl _
theorem LeA.gld {id:Nat}{xs ys:List (List D)} (h:xs=ys):LeA (.gl id xs) (.d (.sl ys)):=h ▸ .gl _ _
theorem LeA.glg {id:Nat}{xs ys:List (List D)} (h:xs=ys):LeA (.gl id xs) (.gl id ys):=h ▸ .refl _
theorem LeA.nild {ys:List (List D)} (h:[]=ys):LeA .nils (.d (.sl ys)):=h ▸ .nil
theorem qe {x0 y0:D}(h0:x0=y0):LeL [.d x0] [.d y0]:=.cons (.eqd h0) .nil
theorem qee {x0 y0:D}{x1 y1:D}(h0:x0=y0)(h1:x1=y1):LeL [.d x0,.d x1] [.d y0,.d y1]:=.cons (.eqd h0) (.cons (.eqd h1) .nil)
theorem qeee {x0 y0:D}{x1 y1:D}{x2 y2:D}(h0:x0=y0)(h1:x1=y1)(h2:x2=y2):LeL [.d x0,.d x1,.d x2] [.d y0,.d y1,.d y2]:=.cons (.eqd h0) (.cons (.eqd h1) (.cons (.eqd h2) .nil))
theorem qeeee {x0 y0:D}{x1 y1:D}{x2 y2:D}{x3 y3:D}(h0:x0=y0)(h1:x1=y1)(h2:x2=y2)(h3:x3=y3):LeL [.d x0,.d x1,.d x2,.d x3] [.d y0,.d y1,.d y2,.d y3]:=.cons (.eqd h0) (.cons (.eqd h1) (.cons (.eqd h2) (.cons (.eqd h3) .nil)))
theorem qeeeg {x0 y0:D}{x1 y1:D}{x2 y2:D}{i3:Nat}{x3 y3:List (List D)}(h0:x0=y0)(h1:x1=y1)(h2:x2=y2)(h3:x3=y3):LeL [.d x0,.d x1,.d x2,.gl i3 x3] [.d y0,.d y1,.d y2,.d (.sl y3)]:=.cons (.eqd h0) (.cons (.eqd h1) (.cons (.eqd h2) (.cons (.gld h3) .nil)))
theorem qeeen {x0 y0:D}{x1 y1:D}{x2 y2:D}{y3:List (List D)}(h0:x0=y0)(h1:x1=y1)(h2:x2=y2)(h3:[]=y3):LeL [.d x0,.d x1,.d x2,.nils] [.d y0,.d y1,.d y2,.d (.sl y3)]:=.cons (.eqd h0) (.cons (.eqd h1) (.cons (.eqd h2) (.cons (.nild h3) .nil)))
theorem qeeg {x0 y0:D}{x1 y1:D}{i2:Nat}{x2 y2:List (List D)}(h0:x0=y0)(h1:x1=y1)(h2:x2=y2):LeL [.d x0,.d x1,.gl i2 x2] [.d y0,.d y1,.d (.sl y2)]:=.cons (.eqd h0) (.cons (.eqd h1) (.cons (.gld h2) .nil))
theorem qeen {x0 y0:D}{x1 y1:D}{y2:List (List D)}(h0:x0=y0)(h1:x1=y1)(h2:[]=y2):LeL [.d x0,.d x1,.nils] [.d y0,.d y1,.d (.sl y2)]:=.cons (.eqd h0) (.cons (.eqd h1) (.cons (.nild h2) .nil))
theorem qege {x0 y0:D}{i1:Nat}{x1 y1:List (List D)}{x2 y2:D}(h0:x0=y0)(h1:x1=y1)(h2:x2=y2):LeL [.d x0,.gl i1 x1,.d x2] [.d y0,.d (.sl y1),.d y2]:=.cons (.eqd h0) (.cons (.gld h1) (.cons (.eqd h2) .nil))
theorem qene {x0 y0:D}{y1:List (List D)}{x2 y2:D}(h0:x0=y0)(h1:[]=y1)(h2:x2=y2):LeL [.d x0,.nils,.d x2] [.d y0,.d (.sl y1),.d y2]:=.cons (.eqd h0) (.cons (.nild h1) (.cons (.eqd h2) .nil))
theorem qge {i0:Nat}{x0 y0:List (List D)}{x1 y1:D}(h0:x0=y0)(h1:x1=y1):LeL [.gl i0 x0,.d x1] [.d (.sl y0),.d y1]:=.cons (.gld h0) (.cons (.eqd h1) .nil)
theorem qne {y0:List (List D)}{x1 y1:D}(h0:[]=y0)(h1:x1=y1):LeL [.nils,.d x1] [.d (.sl y0),.d y1]:=.cons (.nild h0) (.cons (.eqd h1) .nil)
theorem HSub.nil {hp:Hp}:HSub ([]++[]) hp:=fun _ _ h=>by cases h
theorem ztp:∀id,zb8 [] id=true->zb8 ([]++[]) id=true:=fun _ h=>h
theorem zaj {hp hp':Hp} (h:(zeK hp).all (zb8 (hp'++hp))=true):∀id,zb8 hp id=true->zb8 (hp'++hp) id=true:=fun id hi=>by
 have hs:=(zeg hi).1;obtain⟨r,hr⟩:=Option.isSome_iff_exists.1 hs;obtain⟨x,hx⟩:=zgO hr;exact List.all_eq_true.1 h id (by simp only[zeK,List.mem_filter,List.mem_map];exact⟨⟨(id,x),hx,rfl⟩,hi⟩)
theorem zaq {n m:Nat} (h:n=m){k:Nat}:(some (Res.tok n k):Option Res)=some (.tok m k):=by rw[h]
theorem q1 {b:Bool}:((!b)=true)=(b=false):=by cases b<;>simp
theorem q2 {b:Bool}:((!b)=false)=(b=true):=by cases b<;>simp
theorem q3 {p:Prop} [Decidable p]:(decide p=true)=p:=xah
theorem q4 {p:Prop} [Decidable p]:decide p=false↔¬p:=decide_eq_false_iff_not
theorem q5 {b:Bool}:(!!b)=b:=Bool.not_not b
theorem q6 {α β:Type}{l:List α}{f:α->β}:(l.map f).length=l.length:=xac f
theorem q7 {a b:Bool}:((a&&b)=true)=(a=true/\b=true):=xad a b
theorem q8 {a b:Bool}:(a||b)=false↔a=false/\b=false:=Bool.or_eq_false_iff
theorem Q:(∀b:Bool,((!b)=true)=(b=false))/\(∀b:Bool,((!b)=false)=(b=true))/\(∀(p:Prop) [Decidable p],(decide p=true)=p)/\(∀(p:Prop) [Decidable p],decide p=false↔¬p)/\(∀b:Bool,(!!b)=b)/\
 (∀(α β:Type) (l:List α) (f:α->β),(l.map f).length=l.length)/\(∀a b:Bool,((a&&b)=true)=(a=true/\b=true))/\(∀a b:Bool,(a||b)=false↔a=false/\b=false):=
 ⟨fun _=>q1,fun _=>q2,fun _ _=>q3,fun _ _=>q4,fun _=>q5,fun _ _ _ _=>q6,fun _ _=>q7,fun _ _=>q8⟩
theorem BQ:(∀(p:Prop) [Decidable p],(decide p=true)=p)/\(∀a b:Bool,((a&&b)=true)=(a=true/\b=true))/\(∀a b:Bool,((a||b)=true)=(a=true\/b=true))/\(∀b:Bool,((!b)=true)=(b=false))/\
 (∀(p:Prop) [Decidable p],decide p=false↔¬p)/\((false=true)=False)/\(∀p:Prop,(True↔p)=p)/\(∀p:Prop,(False↔p) = ¬p):=
 ⟨fun _ _=>q3,fun _ _=>q7,fun a b=>Bool.or_eq_true a b,fun _=>q1,fun _ _=>q4,by simp,fun p=>by simp,fun p=>by simp⟩
section
variable {c:Ctx}{all:Array Oper}{chk:List Rec->Prop}{os:List Oper}{recs:List Rec}{env:Env}{hp:Hp}{Q:St->Prop}
variable {d ty:Nat}{pos:String}{af:Array Edge}{v:AV}{x:Operand}{K:Kt}{s:St}
theorem sr {id:Nat}{y:Code} (h:Walk c all (fun _=>True) all.toList [] s (K.with fun s'=>CWp c y s' K).n):CWp c (.seq (.region id all false) y) s K:=CWp.seq (CWp.region rfl h)
theorem tv (h:Q s):Walk c all (fun _=>True) [] recs s Q:=⟨trivial,h⟩
theorem asg (hn:Walk c all chk os (zam ([]++opF x v) [] [] ⟨some (d,v),[]⟩::recs) ⟨(d,v)::env,hp⟩ Q) (hd:Nat.blt d c.n=true:=by exact rfl) (hx:opd env x=some v:=by exact rfl):
  Walk c all chk (⟨some d,.assign x,ty,pos,af,none⟩::os) recs ⟨env,hp⟩ Q:=Walk.assign .none hd hx hn
theorem ps {o:Oper}{j e:Nat}{b want:Bool} (h2:b = !want) (h:Walk c all chk os (zam [(e,.d (.bool b))] [] [] ⟨some (d,.tup []),[]⟩::recs) ⟨(d,.tup [])::env,hp⟩ Q)
  (hg:o.guard=some (j,want):=by exact rfl) (h1:(all[j]?).bind (·.dst)=some e:=by exact rfl) (h4:getE env e=some (.d (.bool b)):=by exact rfl) (hdst:o.dst=some d:=by exact rfl) (hd:Nat.blt d c.n=true:=by exact rfl):
  Walk c all chk (o::os) recs ⟨env,hp⟩ Q:=Walk.pass hg h1 h4 h2 hdst hd h
end
def zc4:List Nat->Env
 | []=>[]
 |i::r=>(i,.any)::zc4 r
def zdF:Env->List Nat
 | []=>[]
 |p::r=>p.1::zdF r
def zcw:Hp->List Nat
 | []=>[]
 |p::r=>p.1::zcw r
theorem zee {i:Nat}:∀ {a b:Env},i∈zdF a->getE (a++b) i=getE a i
 |(j,v)::r,b,h=>by
  simp only[xai,getE];cases hb:Nat.beq j i with
  |true=>rfl
  |false=>
   simp only[cond_false];refine zee ?_;rcases List.mem_cons.1 h with h|h
   ·subst h;simp at hb
   ·exact h
theorem zdj {i:Nat}:∀ {a b:Env},i∉zdF a->getE (a++b) i=getE b i
 | [],_,_=>rfl
 |(j,v)::r,b,h=>by
  simp only[xai,getE];have h1:j≠i:=fun e=>h (by simp[zdF,e]);cases hb:Nat.beq j i with
  |true=>exact absurd (xap hb) h1
  |false=>
   simp only[cond_false];exact zdj (fun hm=>h (by simp[zdF,hm]))
theorem zk9 {i:Nat}{v:AV}:∀ {ks:List Nat},getE (zc4 ks) i=some v->v = .any
 |j::r,h=>by
  simp only[zc4,getE] at h;cases hb:Nat.beq j i with
  |true=>simp only[hb,cond_true,xae] at h;exact h.symm
  |false=>simp only[hb,cond_false] at h;exact zk9 h
theorem zgW:∀ks:List Nat,zdF (zc4 ks)=ks
 | []=>rfl
 |i::r=>by simp[zc4,zdF,zgW r]
theorem zfV {i:Nat}:∀ {a b:Hp},i∈zcw a->getH (a++b) i=getH a i
 |(j,v)::r,b,h=>by
  simp only[xai,getH];cases hb:Nat.beq j i with
  |true=>rfl
  |false=>
   simp only[cond_false];refine zfV ?_;rcases List.mem_cons.1 h with h|h
   ·subst h;simp at hb
   ·exact h
theorem zef {i:Nat}:∀ {a b:Hp},i∉zcw a->getH (a++b) i=getH b i
 | [],_,_=>rfl
 |(j,v)::r,b,h=>by
  simp only[xai,getH];have h1:j≠i:=fun e=>h (by simp[zcw,e]);cases hb:Nat.beq j i with
  |true=>exact absurd (xap hb) h1
  |false=>
   simp only[cond_false];exact zef (fun hm=>h (by simp[zcw,hm]))
def zeM (ks:List Nat):Env->Bool
 | []=>true
 |p::r=>zaG p.1 ks&&zeM ks r
def zdo (ks ks':List Nat):Hp->Bool
 | []=>true
 |p::r=>(zaG p.1 ks|| !zaG p.1 ks')&&zdo ks ks' r
theorem ziy {ks:List Nat}:∀ {e:Env},zeM ks e=true->∀i,i∈zdF e->i∈ks
 |p::r,h,i,hi=>by
  simp only[zeM,xad] at h;rcases List.mem_cons.1 hi with rfl|hi
  ·exact zaw.1 h.1
  ·exact ziy h.2 i hi
theorem ziz {ks ks':List Nat}:∀ {e:Hp},zdo ks ks' e=true->∀i,i∈zcw e->i∈ks\/i∉ks'
 |p::r,h,i,hi=>by
  simp only[zdo,xad,Bool.or_eq_true,Bool.not_eq_true'] at h;rcases List.mem_cons.1 hi with rfl|hi
  ·rcases h.1 with h|h
   ·exact .inl (zaw.1 h)
   ·exact .inr (fun hm=>by rw[zaw.2 hm] at h;cases h)
  ·exact ziz h.2 i hi
theorem zla {i:Nat}{r:Res}:∀ {hp:Hp},getH hp i=some r->i∈zcw hp
 |(j,v)::t,h=>by
  rw[zaa] at h;split at h
  ·rename_i e;simp[zcw,e]
  ·simp[zcw,zla h]
theorem Sub.x {E e' env:Env}{H h' hp:Hp}{ks:List Nat} (he:e'.drop (e'.length-env.length)=env) (hc:zeM (zdF E++ks) (e'.take (e'.length-env.length))=true) (hE:SubE E e')
  (hh:h'.drop (h'.length-hp.length)=hp) (hhc:zdo (zcw H) (zcw hp) (h'.take (h'.length-hp.length))=true) (hH:SubH H h'):
  Sub ⟨E++(zc4 ks++env),H++hp⟩ ⟨e',h'⟩:=by
 generalize e'.length-env.length=n at *;generalize h'.length-hp.length=m at *;have e1:e'.take n++env=e':=by rw[<-he];simp
 have h1:h'.take m++hp=h':=by rw[<-hh];simp
 refine⟨fun i v hi=>?_,fun i r hi=>?_⟩
 ·show v = .any\/∃u,getE e' i=some u/\LeA u v
  have hi:getE (E++(zc4 ks++env)) i=some v:=hi;by_cases hE':i∈zdF E
  ·rw[zee hE'] at hi;exact .inr (hE.get i v hi)
  ·rw[zdj hE'] at hi;by_cases hk:i∈ks
   ·rw[zee (by rw[zgW];exact hk)] at hi;exact .inl (zk9 hi)
   ·rw[zdj (by rw[zgW];exact hk)] at hi;refine .inr ⟨v, ?_,.refl _⟩;rw[<-e1,zdj (fun hm=>?_)]
    ·exact hi
    ·rcases List.mem_append.1 (ziy hc i hm) with h|h
     ·exact hE' h
     ·exact hk h
 ·show getH h' i=some r
  have hi:getH (H++hp) i=some r:=hi;by_cases hH':i∈zcw H
  ·rw[zfV hH'] at hi;exact hH.get i r hi
  ·rw[zef hH'] at hi;rw[<-h1,zef (fun hm=>?_)]
   ·exact hi
   ·rcases ziz hhc i hm with h|h
    ·exact hH' h
    ·exact h (zla hi)
section
variable {c:Ctx}{K:Kt}
theorem xaA {ι:Type}{body:Code}{env:Env}{hp:Hp}{ids:List Nat} (hkp:KeptIn c.kept ids) (E:ι->Env) (ks:List Nat) (H:ι->Hp) (good:ι->Prop) (μ:ι->Nat) (x0:ι) (h0:good x0)
  (he0:SubE (E x0) env) (hh0:SubH (H x0) hp) (hk:∀x,ids.all (fun id=>(getH (H x++hp) id).isSome)=true)
  (hround:∀x,good x->CWp c body ⟨E x++(zc4 ks++env),H x++hp⟩ (K.with fun s'=>∃x',good x'/\μ x'<μ x/\Sub ⟨E x'++(zc4 ks++env),H x'++hp⟩ s')):
  CWp c (.loop body) ⟨env,hp⟩ K:=
 CWp.loop (fun x=>⟨E x++(zc4 ks++env),H x++hp⟩) good μ x0 h0
  (Sub.x og (by simp[zeM]) he0 og (by simp[zdo]) hh0) (fun x=>hkp.ok (hk x)) hround
end
section
variable {c:Ctx}
theorem R.setMap {G:Gh}{s:St}{a:Act}{w:World} (hr:R c G s a w){id b:Nat}{ks ks':List (List UInt8)}{es es':Array MapEntry}{cl cl':Nat} (hb:getH s.hp id=some (.map ks)) (hl:G.loc id=[b])
  (hw:w.heap[b]?=some (.map es cl)) (hF:G.F b=0) (hes:zfa ks' es'):
  R c G { s with hp:=(id,some (.map ks'))::s.hp } a { w with heap:=w.heap.setIfInBounds b (.map es' cl') }:=by
 have htok:tokf ((id,some (.map ks'))::s.hp)=tokf s.hp:=by
  funext i
  unfold tokf;rw[zaa];by_cases h:i=id
  ·subst h;rw[if_pos rfl,hb]
  ·rw[if_neg h]
 have hset:=MapKept.heap_set (o':= .map es' cl') hw;have hother:∀k,k≠b->(w.heap.setIfInBounds b (.map es' cl'))[k]?=w.heap[k]?:=hset.2;have hcell:∀b' o,o<G.F b'->o<G.F b'/\({ w with heap:=w.heap.setIfInBounds b (.map es' cl') }:World).cell? ⟨b',o,none⟩=w.cell? ⟨b',o,none⟩:=fun b' o ho=>by
  have hne:b'≠b:=fun e=>by subst e;rw[hF] at ho;omega
  refine⟨ho, ?_⟩;simp only[World.cell?,hother b' hne]
 have htl:∀i p,tokf s.hp i=some p->∀b',b'∈G.loc i->b'≠b:=fun i p hp b' hb' e=>by
  obtain⟨n,k⟩:=p;have h1:=zak.1 hp;have hne:i≠id:=fun e'=>by subst e';rw[hb] at h1;cases h1
  subst e;exact hr.disj i id (by rw[h1];rfl) (by rw[hb];rfl) hne b' hb' (by simp[hl])
 have hm:∀ {x:AV}{v:Value},RelA G (tokf s.hp) w x v->RelA G (tokf s.hp) { w with heap:=w.heap.setIfInBounds b (.map es' cl') } x v:=fun hx=>
  hx.mono hcell (fun _ _=> .inl rfl) (fun i _ p hp=>⟨hp,fun b' hb'=>⟨hother b' (htl i p hp b' hb'),rfl⟩⟩)
 have hbown:=hr.new id (by rw[hb];rfl) b (by simp[hl]);have hsz:(w.heap.setIfInBounds b (.map es' cl')).size=w.heap.size:=by simp
 refine⟨hr.size,hr.defers,fun i v h=>by rw[htok];exact hm (hr.slots i v h),fun i r h=>?_,fun i j h1 h2 h3=>hr.disj i j ?_ ?_ h3,fun i h=>hr.new i ?_,
  hr.frm.trans (own1:=[b]) ⟨rfl,rfl,rfl,by simp,fun k _ hk=>⟨hother k (fun e=>hk (by simp[e])),rfl⟩,hcell⟩ (fun k hk=>by simp only[List.mem_singleton] at hk;subst hk;exact hbown),
  fun k hk=>hr.top k (by simpa using hk),fun i l hl'=>⟨(hr.kept i l hl').1, ?_⟩⟩
 ·rw[htok];rw[zaa] at h;by_cases hi:i=id
  ·subst hi;rw[if_pos rfl] at h;cases h
   exact⟨b,es',cl',hl,hset.1,hF,hes⟩
  ·rw[if_neg hi] at h;have hne:∀b',b'∈G.loc i->b'≠b:=fun b' hb' e=>by
    subst e;exact hr.disj i id (by rw[h];rfl) (by rw[hb];rfl) hi b' hb' (by simp[hl])
   have hh:=hr.heap i r h;cases r with
   |box cs2=>
    obtain⟨b2,vs2,e2,h1,h2,h3,h4,h5⟩:=hh;exact⟨b2,vs2,e2,h1,(hother b2 (hne b2 (by simp[h1]))).trans h2,h3,h4,fun j hj hv=>hm (h5 j hj hv)⟩
   |tok n k=>exact fun b2 h1=>by simpa using hh b2 h1
   |map ks=>
    obtain⟨b2,es,cl,h1,h2,h3⟩:=hh;exact⟨b2,es,cl,h1,(hother b2 (hne b2 (by simp[h1]))).trans h2,h3⟩
   |tree cs2=>exact zbh hh I (fun b' hb'=>⟨hother b' (hne b' hb'),I⟩) og (fun _ _ _=>hm)
 ·rw[zaa] at h1;split at h1
  ·rename_i e;subst e;rw[hb];rfl
  ·exact h1
 ·rw[zaa] at h2;split at h2
  ·rename_i e;subst e;rw[hb];rfl
  ·exact h2
 ·rw[zaa] at h;split at h
  ·rename_i e;subst e;rw[hb];rfl
  ·exact h
 ·refine⟨?_,by show tokf ((id,some (.map ks'))::s.hp) i=none;rw[htok];exact(hr.kept i l hl').2.2⟩;show(getH ((id,some (.map ks'))::s.hp) i).isSome
  rw[zaa];split
  ·rfl
  ·exact(hr.kept i l hl').2.1
theorem RelA.mapr_eq {G:Gh}{T:TokF}{w:World}{id:Nat}{v:Value} (h:RelA G T w (.mapr id) v):∃b,((G.loc id).head?=some b/\T id=none)/\v = .map (some b):=by
 cases h with
 |mapr h hT=>exact⟨_,⟨h,hT⟩,rfl⟩
theorem zgd {s:List UInt8}:∀ {l:List MapEntry}{ks:List (List UInt8)} (i:Nat),l.map (fun e=>(e.key,e.val))=ks.map (fun s=>(Value.string ⟨s.toArray⟩,Value.bool true))->
  ∃r,Instr.findNow .string (.string ⟨s.toArray⟩) l i=some r/\r.map (·.2)=(if s∈ks then some (Value.bool true) else none)
 | [],ks,i,h=>by
  cases ks with
  |nil=>exact⟨none,rfl,by simp⟩
  |cons k r=>simp at h
 |e::es,ks,i,h=>by
  cases ks with
  |nil=>simp at h
  |cons k r=>
   simp only[xaf,List.cons.injEq,Prod.mk.injEq] at h;obtain⟨⟨h1,h2⟩,h3⟩:=h;have hs:Instr.sameNow .string (.string ⟨s.toArray⟩) e.key=some (decide (s=k)):=by
    rw[h1];simp only[Instr.sameNow];congr 1
    by_cases hh:s=k
    ·subst hh;simp[MapKept.bytes_beq]
    ·have:¬((⟨s.toArray⟩:ByteArray) == ⟨k.toArray⟩)=true:=fun hb=>hh (by
      have:=(MapKept.bytes_beq _ _).1 hb;simpa using xam (fun x:ByteArray=>x.data.toList) this)
     simp[this,hh]
   by_cases hh:s=k
   ·refine⟨some (i,e.val), ?_,by simp[hh,h2]⟩;have hd:decide (s=k)=true:=xax hh;rw[hd] at hs;unfold Instr.findNow;rw[hs]
   ·obtain⟨r',hr1,hr2⟩:=zgd (s:=s) (i+1) h3;refine⟨r', ?_,by rw[hr2];simp[hh]⟩;have hd:decide (s=k)=false:=xaw hh;rw[hd] at hs;unfold Instr.findNow;rw[hs];exact hr1
structure MapT (P:Program) (t:Nat):Prop where
 inf:∃k e,P.underlying t=some (.map k e)/\P.underlying k=some .string/\∃i,P.info? e=some i/\i.zero=some (.bool false)
def zra (P:Program) (t:Nat):Bool:=match P.underlying t with
 |some (.map k e)=>match P.underlying k,P.info? e with
  |some .string,some i=>match i.zero with
   |some (.bool false)=>true
   |_=>false
  |_,_=>false
 |_=>false
theorem MapT.of {P:Program}{t:Nat} (h:zra P t=true):MapT P t:=by
 unfold zra at h;split at h
 ·rename_i k e h1;split at h
  ·rename_i i h2 h3;split at h
   ·rename_i h4;exact⟨k,e,h1,h2,i,h3,h4⟩
   ·cases h
  ·cases h
 ·cases h
end
section
variable {c:Ctx}{all:Array Oper}{chk:List Rec->Prop}{os:List Oper}{recs:List Rec}{env:Env}{hp:Hp}{Q:St->Prop}
variable {d ty:Nat}{pos:String}{af:Array Edge}{g:Option (Nat×Bool)}{pg:List (Nat×AV)}
variable {t yt:TypeId}{x y z:Operand}
theorem Walk.makeMap {id:Nat} (hg:GH all env g pg) (hd:Nat.blt d c.n=true) (hf:zax env hp [id]=true)
  (hn:Walk c all chk os (zam (pg++[]) [] [id] ⟨some (d,.mapr id),[(id,some (.map []))]⟩::recs) ⟨(d,.mapr id)::env,(id,some (.map []))::hp⟩ Q):
  Walk c all chk (⟨some d,.makeMap t none,ty,pos,af,g⟩::os) recs ⟨env,hp⟩ Q:=by
 refine⟨pg++[],[],[id],_, ?_,zat hg.facts og,by simp,zbw hf,hn⟩;intro s a w hrel hp' hh hcr K Q' hK;obtain⟨G,hr⟩:=hrel;obtain⟨h0,hocc⟩:=hcr id og;have hr':=(hr.alloc (.map #[] 0) 0).rename h0 hocc [w.heap.size];have hloc:∀i,i≠id->(bif Nat.beq i id then [w.heap.size] else G.loc i)=G.loc i:=fun i h=>by
  cases hb:Nat.beq i id with
  |true=>exact absurd (xap hb) h
  |false=>rfl
 have hR:=hr'.name (r:= .map []) h0 hocc ⟨w.heap.size,#[],0,by simp,zew,by simp,by simp[zfa]⟩ (fun i hi b hb=>by
  have hi':i≠id:=fun e=>by subst e;rw[h0] at hi;cases hi
  have hb':b∈G.loc i:=by have:=hloc i hi';simp only[this] at hb;exact hb
  obtain⟨r,hrr⟩:=Option.isSome_iff_exists.1 hi;have hlt:b<w.heap.size:=(hr.heap i r hrr).bound b hb';simp;omega) (fun b hb=>by
  simp at hb;subst hb;exact .inr hr.frm.size)
 unfold wpO;rw[if_pos (hg.gf.wanted hr (fun p hm=>hp' p (by simp[hm])))];unfold Oper.wp;have hrun:(execOp a.eval ⟨some d,.makeMap t none,ty,pos,af,g⟩).run c.P w = .ok (.value (.map (some w.heap.size))) (w.alloc (.map #[] 0)):=by
  have:(Instr.makeMap t none).run c.P w = .ok (.map (some w.heap.size)) (w.alloc (.map #[] 0)):=rfl;simp only[execOp,Option.map_none,Sem.run_bind,this,Result.andThen_ok,Sem.run_pure]
 rw[hrun,Oper.upon_value];exact hK _ _ ⟨_,hR.put (v:= .mapr id) (.mapr og (by simp[tokf,getH])) hd⟩
theorem Walk.lookup {id:Nat}{ks:List (List UInt8)}{l:List UInt8} (ht:MapT c.P t) (hg:GH all env g pg) (hd:Nat.blt d c.n=true) (hx:opd env x=some (.mapr id)) (hy:opd env y=some (.d (.str l)))
  (hb:getH hp id=some (.map ks))
  (hn:Walk c all chk os (zam (pg++(opF x (.mapr id)++opF y (.d (.str l)))) [(id,.map ks)] [] ⟨some (d,.d (.bool (decide (l∈ks)))),[]⟩::recs) ⟨(d,.d (.bool (decide (l∈ks))))::env,hp⟩ Q):
  Walk c all chk (⟨some d,.lookup t x y false,ty,pos,af,g⟩::os) recs ⟨env,hp⟩ Q:=by
 refine⟨pg++(opF x (.mapr id)++opF y (.d (.str l))),[(id,.map ks)],[],_, ?_,zat hg.facts (zat (zaU hx) (zaU hy)),hh1 hb,by simp,hn⟩;intro s a w hrel hp' hh _ K Q' hK;obtain⟨G,hr⟩:=hrel;have hbx:=hh1' hh;have e1:=hr.opd (zaX hx (fun p hm=>hp' p (by simp[hm])));have e2:=hr.opd (zaX hy (fun p hm=>hp' p (by simp[hm])));obtain⟨bl,hl,he⟩:=e1.mapr_eq;have he2:=e2.str_eq;obtain⟨b',es,cl,h2,h3,h4,h5⟩:=hr.heap id _ hbx;obtain rfl:=zdr hl.1 h2;obtain⟨k,e,u1,u2,i,u3,u4⟩:=ht.inf;obtain⟨r,f1,f2⟩:=zgd (s:=l) 0 h5;have hck:(Instr.checkKey es.isEmpty 10000 k (.string ⟨l.toArray⟩)).run c.P w = .ok () w:=MapKept.run_checkKey (k:= .string ⟨l.toArray⟩) u2 (by simp[MapKept.IsKey]) _ 9999;have hz:(zeroValue e).run c.P w = .ok (.bool false) w:=zmQ u3 u4;unfold wpO;rw[if_pos (hg.gf.wanted hr (fun p hm=>hp' p (by simp[hm])))];unfold Oper.wp;have hrun:(execOp a.eval ⟨some d,.lookup t x y false,ty,pos,af,g⟩).run c.P w = .ok (.value (.bool (decide (l∈ks)))) w:=by
  simp only[execOp,he,he2,Instr.lookup,Sem.run_bind,run_underlying u1,Result.andThen_ok,MapKept.run_getObj_map h3,Sem.run_pure,hck,MapKept.run_findKey u2 f1];cases r with
  |none=>
   have hm:l∉ks:=fun hm=>by simp[hm] at f2
   simp only[Sem.run_bind,hz,Result.andThen_ok,Sem.run_pure,hm,decide_false];rfl
  |some p=>
   obtain⟨j,v⟩:=p;have hm:l∈ks:=by
    by_cases hm:l∈ks
    ·exact hm
    ·simp[hm] at f2
   simp[hm] at f2;subst f2;simp[hm]
 rw[hrun,Oper.upon_value];exact hK _ _ ⟨G,hr.put (.d (.bool _)) hd⟩
theorem Walk.mapUpdate {id:Nat}{ks:List (List UInt8)}{l:List UInt8} (ht:MapT c.P t) (hg:GH all env g pg) (hx:opd env x=some (.mapr id)) (hy:opd env y=some (.d (.str l))) (hz:opd env z=some (.d (.bool true)))
  (hb:getH hp id=some (.map ks)) (hl0:l∉ks)
  (hn:Walk c all chk os (zam (pg++(opF x (.mapr id)++(opF y (.d (.str l))++opF z (.d (.bool true))))) [(id,.map ks)] [] ⟨none,[(id,some (.map (ks++[l])))]⟩::recs) ⟨env,(id,some (.map (ks++[l])))::hp⟩ Q):
  Walk c all chk (⟨none,.mapUpdate t x y z,ty,pos,af,g⟩::os) recs ⟨env,hp⟩ Q:=by
 refine⟨pg++(opF x (.mapr id)++(opF y (.d (.str l))++opF z (.d (.bool true)))),[(id,.map ks)],[],_, ?_,zat hg.facts (zat (zaU hx) (zat (zaU hy) (zaU hz))),hh1 hb,by simp,hn⟩;intro s a w hrel hp' hh _ K Q' hK;obtain⟨G,hr⟩:=hrel;have hbx:=hh1' hh;have e1:=hr.opd (zaX hx (fun p hm=>hp' p (by simp[hm])));have e2:=hr.opd (zaX hy (fun p hm=>hp' p (by simp[hm])));have e3:=hr.opd (zaX hz (fun p hm=>hp' p (by simp[hm])));obtain⟨bl,hl,he⟩:=e1.mapr_eq;have he2:=e2.str_eq;have he3:=e3.bool_eq;obtain⟨b',es,cl,h2,h3,h4,h5⟩:=hr.heap id _ hbx;obtain rfl:=zdr hl.1 h2;obtain⟨k,e,u1,u2,i,u3,u4⟩:=ht.inf;obtain⟨r,f1,f2⟩:=zgd (s:=l) 0 h5;have hck:(Instr.checkKey false 10000 k (.string ⟨l.toArray⟩)).run c.P w = .ok () w:=MapKept.run_checkKey (k:= .string ⟨l.toArray⟩) u2 (by simp[MapKept.IsKey]) _ 9999;have hrn:r=none:=by
  cases r with
  |none=>rfl
  |some p=>simp[hl0] at f2
 subst hrn;unfold wpO;rw[if_pos (hg.gf.wanted hr (fun p hm=>hp' p (by simp[hm])))];unfold Oper.wp;have hrun:(execOp a.eval ⟨none,.mapUpdate t x y z,ty,pos,af,g⟩).run c.P w = .ok .skip { w with heap:=w.heap.setIfInBounds bl (.map (es.push { key:= .string ⟨l.toArray⟩,val:= .bool true,born:=cl }) (cl+1)) }:=by
  simp only[execOp,he,he2,he3,Instr.mapUpdate,Sem.run_bind,run_underlying u1,Result.andThen_ok,MapKept.run_getObj_map h3,Sem.run_pure,hck,MapKept.run_findKey u2 f1,MapKept.run_setObj_map _ h3]
 rw[hrun,Oper.upon_skip];refine hK _ _ ⟨G,(hr.setMap hbx h2 h3 h4 ?_).putNone⟩;simp only[zfa] at h5 ⊢;simp[h5]
def zeQ (P:Program):Nat->List Field->Bool
 |_,[]=>true
 |i,f::r=>(f.name != "_")&&Nat.beq f.offset i&&(match P.underlying f.type with|some (.int _)=>true|_=>false)&&zeQ P (i+1) r
structure EqT (P:Program) (t k:Nat):Prop where
 len:(P.fieldsOf t).size=k
 und:P.underlying t=some (.struct (P.fieldsOf t))
 held:P.stoodInHeld t=false
 grd:P.eqGuardType P.depth t=false
 fld:zeQ P 0 (P.fieldsOf t).toList=true
def eqC:List AV->List AV->Option Bool
 | [],[]=>some true
 | .d (.int .i64 a)::r,.d (.int .i64 b)::s=>match eqC r s with
  |some t=>some (decide (a=b)&&t)
  |none=>none
 |_,_=>none
theorem zg8 {P:Program}{w:World}{G:Gh}{T:TokF}:∀ {fs:List Field}{i:Nat}{xs ys:List AV}{b:Bool}{us vs:Array Value},zeQ P i fs=true->eqC xs ys=some b->fs.length=xs.length->
  (∀j (h:j<xs.length),∃u,us[i+j]?=some u/\RelA G T w xs[j] u)->(∀j (h:j<ys.length),∃u,vs[i+j]?=some u/\RelA G T w ys[j] u)->
  (Op.eqFields 9999 us vs fs).run P w = .ok b w
 | [],i,[],[],b,us,vs,_,h,_,_,_=>by simp only[eqC,xae] at h;subst h;simp[Op.eqFields]
 | [],i,[],_::_,b,us,vs,_,h,_,_,_=>by simp[eqC] at h
 | [],i,_::_,_,b,us,vs,_,_,h,_,_=>by simp at h
 |f::fs,i,[],_,b,us,vs,_,_,h,_,_=>by simp at h
 |f::fs,i,x::xs,ys,b,us,vs,hf,he,hl,hx,hy=>by
  cases ys with
  |nil=>unfold eqC at he;split at he<;>simp_all
  |cons y ys=>
   unfold eqC at he;split at he
   ·rename_i h1 h2;simp at h1
   ·rename_i a r b' s h1 h2;simp only[List.cons.injEq] at h1 h2;obtain⟨rfl,rfl⟩:=h1;obtain⟨rfl,rfl⟩:=h2;split at he
    ·rename_i t ht;simp only[xae] at he;subst he;simp only[zeQ,xad,bne_iff_ne] at hf;obtain⟨⟨⟨f1,f2⟩,f3⟩,f4⟩:=hf;have f2':=xap f2;obtain⟨u,hu,hru⟩:=hx 0 og;obtain⟨v,hv,hrv⟩:=hy 0 og;have hu':=hru.int_eq;have hv':=hrv.int_eq;subst hu' hv';have ih:=zg8 (P:=P) (w:=w) (us:=us) (vs:=vs) f4 ht (by simpa using hl)
      (fun j h=>by obtain⟨u,h1,h2⟩:=hx (j+1) (by simpa using h);exact⟨u,by rw[show i+1+j=i+(j+1) by omega];exact h1,by simpa using h2⟩)
      (fun j h=>by obtain⟨u,h1,h2⟩:=hy (j+1) (by simpa using h);exact⟨u,by rw[show i+1+j=i+(j+1) by omega];exact h1,by simpa using h2⟩)
     split at f3
     ·rename_i kd hk;have p1:(part f.type us f.offset).run P w = .ok (.int .i64 a) w:=by
       have hu0:us[i]?=some (.int .i64 a):=by simpa using hu
       simp only[part,isAgg,Sem.run_bind,run_underlying hk,Result.andThen_ok,Sem.run_pure,f2',hu0,Bool.false_eq_true,if_false]
      have p2:(part f.type vs f.offset).run P w = .ok (.int .i64 b') w:=by
       have hv0:vs[i]?=some (.int .i64 b'):=by simpa using hv
       simp only[part,isAgg,Sem.run_bind,run_underlying hk,Result.andThen_ok,Sem.run_pure,f2',hv0,Bool.false_eq_true,if_false]
      simp only[Op.eqFields];rw[if_pos f1];simp only[Sem.run_bind,p1,p2,Result.andThen_ok,run_equalIn_int w 9998 f.type .i64 kd a b' hk];by_cases hab:a=b'
      ·subst hab;simp[ih]
      ·simp[hab]
     ·cases f3
    ·cases he
   ·cases he
theorem zrP {P:Program}{w:World}{G:Gh}{T:TokF}{t:TypeId}{xs ys:List AV}{b:Bool}{u v:Value}{k:Nat} (ht:EqT P t k) (hl0:xs.length=k) (he:eqC xs ys=some b) (hu:RelA G T w (.agg xs) u) (hv:RelA G T w (.agg ys) v):
  ∃us vs,u = .agg us/\v = .agg vs/\(Op.equalIn 10000 t (.agg us) (.agg vs)).run P w = .ok b w:=by
 have hl:(P.fieldsOf t).size=xs.length:=ht.len.trans hl0.symm;cases hu with
 |agg h1 h2=>
  cases hv with
  |agg h3 h4=>
   refine⟨_,_,rfl,rfl, ?_⟩;rw[show(10000:Nat)=9999+1 from rfl,run_equalIn_agg w 9999 t _ _ ht.und ht.held];refine zg8 (G:=G) (T:=T) (i:=0) ht.fld he (by simpa using hl) (fun j h=>?_) (fun j h=>?_)
   ·rename_i us vs;have hj:j<us.size:=by rw[h1];exact h
    exact⟨us[j],by rw[Nat.zero_add,Array.getElem?_eq_getElem hj],h2 j h hj⟩
   ·rename_i us vs;have hj:j<vs.size:=by rw[h3];exact h
    exact⟨vs[j],by rw[Nat.zero_add,Array.getElem?_eq_getElem hj],h4 j h hj⟩
theorem xbz {xs ys:List AV}{b:Bool}{k:Nat} (ht:EqT c.P t k) (hg:GH all env g pg) (hd:Nat.blt d c.n=true) (hx:opd env x=some (.agg xs)) (hy:opd env y=some (.agg ys)) (he:eqC xs ys=some b) (hl:xs.length=k)
  (hn:Walk c all chk os (zam (pg++(opF x (.agg xs)++opF y (.agg ys))) [] [] ⟨some (d,.d (.bool b)),[]⟩::recs) ⟨(d,.d (.bool b))::env,hp⟩ Q):
  Walk c all chk (⟨some d,.binOp .eql t x y yt,ty,pos,af,g⟩::os) recs ⟨env,hp⟩ Q:=by
 refine xbL hg hd hx hy (fun a G T w h1 h2=>⟨.bool b, ?_,.d (.bool _)⟩) hn;obtain⟨us,vs,e1,e2,e3⟩:=zrP ht hl he h1 h2;simp only[execOp,e1,e2];simp only[Sem.run_bind,run_eqGuard_agg w .eql t x y us vs ht.grd,Result.andThen_ok,run_eql_struct,e3,Sem.run_pure]
theorem LeL.get:∀ {l m:List AV},LeL l m->∀i (h1:i<l.length) (h2:i<m.length),LeA l[i] m[i]
 |_,_,.nil,i,h1,_=>by simp at h1
 |_,_,.cons h t,0,_,_=>h
 |_,_,.cons h t,i+1,h1,h2=>LeL.get t i (by simpa using h1) (by simpa using h2)
theorem RelA.fn_eq {G:Gh}{T:TokF}{w:World}{f:FuncId}{caps:List AV}{v:Value} (h:RelA G T w (.fn f caps) v):
  ∃us,v = .func (.func f) #[] us/\us.size=caps.length/\∀i (hi:i<caps.length) (hv:i<us.size),RelA G T w caps[i] us[i]:=by
 cases h with
 |fn hn h=>exact⟨_,rfl,hn,h⟩
theorem xbq {f:FuncId}{args:Array Operand}{ats:Array TypeId}{xs:List Operand}{caps vs avs:List AV}{hpc hp0:Hp}{r:AV}{cr:List Nat} (hc:Callee c.P f) (hf:FnD c.P f avs hpc r hp0)
  (hargs:args=xs.toArray) (hg:GH all env g pg) (hd:Nat.blt d c.n=true) (hfx:opd env x=some (.fn f caps)) (hx:opdL env xs=some vs) (hle:LeL (vs++caps) avs) (hsub:subH hpc hp) (hnt:zeh hpc=true) (hok:zbs hpc hp0 r cr=true)
  (hcr:zax env hp cr=true)
  (hn:Walk c all chk os (zam (pg++(opF x (.fn f caps)++opFL xs vs)) (hpF hpc) cr ⟨some (d,r),hp0⟩::recs) ⟨(d,r)::env,hp0++hp⟩ Q):
  Walk c all chk (⟨some d,.call ⟨.value x,args,ats⟩,ty,pos,af,g⟩::os) recs ⟨env,hp⟩ Q:=by
 subst hargs;refine⟨pg++(opF x (.fn f caps)++opFL xs vs),hpF hpc,cr,_, ?_,zat hg.facts (zat (zaU hfx) (zb9 hx)),zeo hsub,zbw hcr,hn⟩;intro s a w hrel hp' hh hcr' K Q' hK;obtain⟨G,hr⟩:=hrel;have hfr:=hr.opd (zaX hfx (fun p hm=>hp' p (by simp[hm])));obtain⟨us,hfe,hus,hur⟩:=hfr.fn_eq;have hrl:=zcJ hr (zca hx (fun p hm=>hp' p (by simp[hm])));have hall:AllR G (tokf s.hp) w avs ((xs.map a.eval).toArray++us):=by
  have hlen:=hle.len;simp only[xaa] at hlen;refine⟨by simp[<-hlen,hrl.1,hus],fun i hi hv=>?_⟩;have h1:i<(vs++caps).length:=by rw[hle.len];exact hi
  have hA:=LeL.get hle i h1 hi;by_cases hiv:i<vs.length
  ·have h2:=hrl.2 i hiv (by rw[<-hrl.1];exact hiv);have e1:(vs++caps)[i]=vs[i]:=List.getElem_append_left hiv;rw[e1] at hA;have e2:((xs.map a.eval).toArray++us)[i]=a.eval (xs[i]'(by rw[<-hrl.1];exact hiv)):=by
    rw[Array.getElem_append_left (by simp;rw[<-hrl.1];exact hiv)];simp
   rw[e2];exact h2.le hA
  ·have hic:i-vs.length<caps.length:=by simp only[xaa] at h1;omega
   have e1:(vs++caps)[i]=caps[i-vs.length]:=List.getElem_append_right od;rw[e1] at hA;have e2:((xs.map a.eval).toArray++us)[i]=us[i-vs.length]' od:=by
    rw[Array.getElem_append_right oq];simp[hrl.1]
   rw[e2];exact(hur _ hic od).le hA
 have hcalls:=zkW hr hf hall (fun id x hx=>hh (id,x) (zfl (zch hx))) (zdG hnt) cr hcr';unfold wpO;rw[if_pos (hg.gf.wanted hr (fun p hm=>hp' p (by simp[hm])))];unfold Oper.wp;have hrun:(execOp a.eval ⟨some d,.call ⟨.value x,xs.toArray,ats⟩,ty,pos,af,g⟩).run c.P w = .ok (.enter f ((xs.map a.eval).toArray++us)) w:=by
  have:=hc.run ((xs.map a.eval).toArray++us) w;simp only[execOp,resolve,Sem.run_bind,hfe,Deferred.ofValue,Sem.run_pure,Result.andThen_ok,invoke];simpa using this
 rw[hrun,Oper.upon_enter];refine hcalls.mono ?_;rintro e w' ⟨v,r',hp1,rfl,⟨rfl,rfl⟩,h⟩
 obtain⟨G',hR,hA⟩:=h hok;exact hK _ _ ⟨G',hR.put hA hd⟩
end
end Go.Proofs.YtmkipahfpaacgaaGreatDoor
