/-
  THE ABSTRACT WALK AND THE WALKS, part 4 of 6: the parts F24, F25, F22, F26, F23, F27, F28, F29, F40, F14, F16, F42, F50, F51, F52, F53, F54, F55, F56, F57, F58, F70, Val, F7, F8, Wu, F9, F71, F72, F74, F75.
-/
import Derived.Test.YtfiihhedihkdoaaGreatM3
namespace Go.Proofs.YtfiihhedihkdoaaGreat
open Go
set_option linter.unusedSimpArgs false
set_option linter.unusedVariables false
def tyS (s:Nat):Ty:=⟨((s / 4:Nat):Int),((s % 4:Nat):Int)⟩
def zcX (t:Ty):Nat:=t.data.toNat*4+t.index.toNat
def dv (f:Nat→Nat) (t:Ty):Nat:=if t.data = -1 then 1 else f (zcX t)
def zb9 (f:Nat→Nat):Nat→List Ty→Nat
 |m,[]=>m+1
 |m,t::r=>if dv f t=0 then 0 else zb9 f (max m (dv f t)) r
def most (w:List Data) (f:Nat→Nat) (t:Ty) (c:Int):Nat:=zb9 f 0 (zaj w t c)
def updF (f:Nat→Nat) (s n:Nat):Nat→Nat:=fun i=>if i=s then n else f i
def zbT (w:List Data) (s:Nat) (f:Nat→Nat) (c:Int):Nat→Nat:=
 if 0<most w f (tyS s) c∧(f s=0∨most w f (tyS s) c<f s) then updF f s (most w f (tyS s) c) else f
def zdx (w:List Data) (f:Nat→Nat) (s:Nat):Nat→Nat:=(zbo w (tyS s)).foldl (zbT w s) f
def zgy (w:List Data) (f:Nat→Nat):Nat→Nat:=(List.range (w.length*4)).foldl (zdx w) f
def zbq (w:List Data):Nat→Nat→Nat
 |0=>fun _=>0
 |k+1=>zgy w (zbq w k)
def zaZ (w:List Data):Nat→Nat:=zbq w (w.length*4+1)
def Hd (w:List Data):Nat→Ty→Prop
 |0,_=>False
 |d+1,t=>t.data = -1∨∃c∈zbo w t,t.data≠ -1∧∀u∈zaj w t c,Hd w d u
def InS (n:Nat) (u:Ty):Prop:=u.data = -1∨(zcX u<n∧tyS (zcX u)=u)
def ClosedT (w:List Data):Prop:=∀s,s<w.length*4→∀c∈zbo w (tyS s),∀u∈zaj w (tyS s) c,InS (w.length*4) u
theorem zkJ (s:Nat):(tyS s).data≠ -1:=by simp only[tyS];omega
theorem Hd_mono (w:List Data):∀(d:Nat) (t:Ty),Hd w d t→Hd w (d+1) t
 |0,_,h=>h.elim
 |d+1,t,h=>by
  rcases h with h|⟨c,hc,h1,h⟩
  ·exact .inl h
  ·exact .inr ⟨c,hc,h1,fun u hu=>Hd_mono w d u (h u hu)⟩
theorem Hd_le {w:List Data}{d e:Nat}{t:Ty} (h:d≤e) (hd:Hd w d t):Hd w e t:=by
 induction h with
 |refl=>exact hd
 |step _ ih=>exact Hd_mono w _ t ih
section
variable {w:List Data}
def Bet (f g:Nat→Nat):Prop:=∀s,0<f s→0<g s∧g s≤f s
def Snd (w:List Data) (f:Nat→Nat):Prop:=∀s,s<w.length*4→0<f s→Hd w (f s) (tyS s)
def Cmp (w:List Data) (k:Nat) (f:Nat→Nat):Prop:=∀s,s<w.length*4→∀d,d≤k→Hd w d (tyS s)→0<f s∧f s≤d
theorem Bet.refl (f:Nat→Nat):Bet f f:=fun s h=>⟨h,Nat.le_refl _⟩
theorem Bet.trans {f g h:Nat→Nat} (a:Bet f g) (b:Bet g h):Bet f h:=fun s hs=>⟨(b s (a s hs).1).1,Nat.le_trans (b s (a s hs).1).2 (a s hs).2⟩
theorem Cmp.bet {k:Nat}{f g:Nat→Nat} (h:Cmp w k f) (b:Bet f g):Cmp w k g:=fun s hs d hd hh=>
 ⟨(b s (h s hs d hd hh).1).1,Nat.le_trans (b s (h s hs d hd hh).1).2 (h s hs d hd hh).2⟩
theorem zna {f:Nat→Nat}:∀ {l:List Ty}{m k:Nat},m≤k→(∀u∈l,0<dv f u∧dv f u≤k)→0<zb9 f m l∧zb9 f m l≤k+1
 | [],m,k,hm,_=>by simp only[zb9];omega
 |t::r,m,k,hm,h=>by
  have h1:=h t (by simp)
  simp only[zb9]
  rw[if_neg (by omega)]
  exact zna (by omega) (fun u hu=>h u (by simp[hu]))
theorem znb {f:Nat→Nat}:∀ {l:List Ty}{m:Nat},0<zb9 f m l→m<zb9 f m l∧∀u∈l,0<dv f u∧dv f u<zb9 f m l
 | [],m,_=>⟨by simp only[zb9];omega,fun u hu=>by simp at hu⟩
 |t::r,m,h=>by
  simp only[zb9] at h ⊢
  by_cases h0:dv f t=0
  ·rw[if_pos h0] at h;omega
  ·rw[if_neg h0] at h ⊢
   obtain⟨h1,h2⟩:=znb h
   refine⟨by omega,fun u hu=>?_⟩
   rcases List.mem_cons.1 hu with rfl|hu
   ·omega
   ·exact h2 u hu
theorem zsb {f:Nat→Nat} (hs:Snd w f){u:Ty} (hu:InS (w.length*4) u) (h:0<dv f u):Hd w (dv f u) u:=by
 unfold dv at h ⊢
 split
 ·rename_i he;exact .inl he
 ·rename_i he
  rw[if_neg he] at h
  rcases hu with hu|⟨h1,h2⟩
  ·exact absurd hu he
  ·have:=hs _ h1 h
   rwa [h2] at this
theorem zqH {k:Nat}{f:Nat→Nat} (hc:Cmp w k f){u:Ty} (hu:InS (w.length*4) u) (h:Hd w k u):0<dv f u∧dv f u≤k:=by
 unfold dv
 split
 ·cases k with
  |zero=>exact h.elim
  |succ k=>omega
 ·rename_i he
  rcases hu with hu|⟨h1,h2⟩
  ·exact absurd hu he
  ·exact hc _ h1 k (Nat.le_refl _) (by rw[h2];exact h)
theorem zjk {s:Nat}{f:Nat→Nat}{c:Int}:Bet f (zbT w s f c):=by
 intro i hi
 unfold zbT
 split
 ·rename_i h
  unfold updF
  split
  ·subst i;omega
  ·omega
 ·omega
theorem zqZ (hcl:ClosedT w){s:Nat}{f:Nat→Nat}{c:Int} (hs:s<w.length*4) (hc:c∈zbo w (tyS s)) (h:Snd w f):Snd w (zbT w s f c):=by
 unfold zbT
 split
 ·rename_i hn
  intro i hi h0
  unfold updF at h0 ⊢
  by_cases he:i=s
  ·subst he
   rw[if_pos rfl] at h0 ⊢
   obtain⟨h1,h2⟩:=znb (m:=0) hn.1
   obtain⟨n,hn'⟩:∃n,most w f (tyS i) c=n+1:=⟨most w f (tyS i) c-1,by omega⟩
   rw[hn']
   refine .inr ⟨c,hc,zkJ _,fun u hu=>?_⟩
   have h3:=h2 u hu
   have h4:zb9 f 0 (zaj w (tyS i) c)=n+1:=hn'
   exact Hd_le (by omega) (zsb h (hcl i hi c hc u hu) h3.1)
  ·rw[if_neg he] at h0 ⊢
   exact h i hi h0
 ·exact h
theorem zqX (hcl:ClosedT w){s k:Nat}{f:Nat→Nat}{c:Int} (hs:s<w.length*4) (hc:c∈zbo w (tyS s)) (h:Cmp w k f) (hh:∀u∈zaj w (tyS s) c,Hd w k u):
  0<zbT w s f c s∧zbT w s f c s≤k+1:=by
 have hm:=zna (f:=f) (m:=0) (k:=k) (by omega) (fun u hu=>zqH h (hcl s hs c hc u hu) (hh u hu))
 have hm':0<most w f (tyS s) c∧most w f (tyS s) c≤k+1:=hm
 unfold zbT
 split
 ·unfold updF;rw[if_pos rfl];exact hm'
 ·rename_i hn
  have:¬(f s=0∨most w f (tyS s) c<f s):=fun h2=>hn ⟨hm'.1,h2⟩
  omega
theorem zpA (hcl:ClosedT w){s k:Nat} (hs:s<w.length*4):∀(C:List Int) (f:Nat→Nat),(∀c∈C,c∈zbo w (tyS s))→Snd w f→Cmp w k f→
  Bet f (C.foldl (zbT w s) f)∧Snd w (C.foldl (zbT w s) f)∧∀c∈C,(∀u∈zaj w (tyS s) c,Hd w k u)→0<C.foldl (zbT w s) f s∧C.foldl (zbT w s) f s≤k+1
 | [],f,_,h1,_=>⟨Bet.refl f,h1,fun c hc=>by simp at hc⟩
 |c::r,f,hC,h1,h2=>by
  have hc:=hC c (by simp)
  obtain⟨g1,g2,g3⟩:=zpA hcl hs r (zbT w s f c) (fun x hx=>hC x (by simp[hx])) (zqZ hcl hs hc h1) (h2.bet zjk)
  refine⟨zjk.trans g1,g2,fun x hx hh=>?_⟩
  rcases List.mem_cons.1 hx with rfl|hx
  ·obtain⟨q1,q2⟩:=zqX hcl hs hc h2 hh
   exact⟨(g1 s q1).1,Nat.le_trans (g1 s q1).2 q2⟩
  ·exact g3 x hx hh
theorem zrE (hcl:ClosedT w){s k:Nat} (hs:s<w.length*4){f:Nat→Nat} (h1:Snd w f) (h2:Cmp w k f):
  Bet f (zdx w f s)∧Snd w (zdx w f s)∧∀d,d≤k+1→Hd w d (tyS s)→0<zdx w f s s∧zdx w f s s≤d:=by
 obtain⟨g1,g2,g3⟩:=zpA hcl hs (zbo w (tyS s)) f (fun c hc=>hc) h1 h2
 refine⟨g1,g2,fun d hd hh=>?_⟩
 rcases Nat.lt_or_ge d (k+1) with h|h
 ·have:=h2 s hs d (by omega) hh
  exact⟨(g1 s this.1).1,Nat.le_trans (g1 s this.1).2 this.2⟩
 ·obtain rfl:d=k+1:=by omega
  rcases hh with hh|⟨c,hc,_,hh⟩
  ·exact absurd hh (zkJ s)
  ·exact g3 c hc hh
theorem znm (hcl:ClosedT w){k:Nat}:∀(L:List Nat) (f:Nat→Nat),(∀s∈L,s<w.length*4)→Snd w f→Cmp w k f→
  Bet f (L.foldl (zdx w) f)∧Snd w (L.foldl (zdx w) f)∧∀s∈L,∀d,d≤k+1→Hd w d (tyS s)→0<L.foldl (zdx w) f s∧L.foldl (zdx w) f s≤d
 | [],f,_,h1,_=>⟨Bet.refl f,h1,fun s hs=>by simp at hs⟩
 |s::r,f,hL,h1,h2=>by
  obtain⟨p1,p2,p3⟩:=zrE hcl (hL s (by simp)) h1 h2
  obtain⟨g1,g2,g3⟩:=znm hcl r (zdx w f s) (fun x hx=>hL x (by simp[hx])) p2 (h2.bet p1)
  refine⟨p1.trans g1,g2,fun x hx d hd hh=>?_⟩
  rcases List.mem_cons.1 hx with rfl|hx
  ·have:=p3 d hd hh
   exact⟨(g1 x this.1).1,Nat.le_trans (g1 x this.1).2 this.2⟩
  ·exact g3 x hx d hd hh
theorem zq4 (hcl:ClosedT w){k:Nat}{f:Nat→Nat} (h1:Snd w f) (h2:Cmp w k f):Bet f (zgy w f)∧Snd w (zgy w f)∧Cmp w (k+1) (zgy w f):=by
 obtain⟨g1,g2,g3⟩:=znm hcl (List.range (w.length*4)) f (fun s hs=>List.mem_range.1 hs) h1 h2
 exact⟨g1,g2,fun s hs d hd hh=>g3 s (List.mem_range.2 hs) d hd hh⟩
theorem zfA (hcl:ClosedT w):∀k,Snd w (zbq w k)∧Cmp w k (zbq w k)
 |0=>⟨fun s _ h=>absurd h (by simp[zbq]),fun s _ d hd hh=>by
   obtain rfl:d=0:=by omega
   exact hh.elim⟩
 |k+1=>(zq4 hcl (zfA hcl k).1 (zfA hcl k).2).2
theorem zm2 (hcl:ClosedT w){d:Nat} (h1:1≤d) (h:∀s,s<w.length*4→Hd w (d+1) (tyS s)→Hd w d (tyS s)):∀e s,s<w.length*4→Hd w e (tyS s)→Hd w d (tyS s)
 |0,s,_,hh=>hh.elim
 |e+1,s,hs,hh=>by
  refine h s hs ?_
  rcases hh with hh|⟨c,hc,h2,hh⟩
  ·exact .inl hh
  ·refine .inr ⟨c,hc,h2,fun u hu=>?_⟩
   rcases hcl s hs c hc u hu with hi|⟨q1,q2⟩
   ·cases d with
    |zero=>omega
    |succ d=>exact .inl hi
   ·have:=zm2 hcl h1 h e _ q1 (by rw[q2];exact hh u hu)
    rwa [q2] at this
open Classical in
noncomputable def cntH (w:List Data) (d:Nat):Nat:=(List.range (w.length*4)).countP (fun s=>decide (Hd w d (tyS s)))
theorem zmR {p q:Nat→Bool}:∀ {l:List Nat},(∀x∈l,p x=true→q x=true)→(∃x∈l,p x=false∧q x=true)→l.countP p<l.countP q
 | [],_,h=>by obtain⟨x,hx,_⟩:=h;simp at hx
 |y::r,hpq,h=>by
  have hle:r.countP p≤r.countP q:=List.countP_mono_left (fun x hx hp=>hpq x (by simp[hx]) hp)
  rw[List.countP_cons,List.countP_cons]
  obtain⟨x,hx,h1,h2⟩:=h
  rcases List.mem_cons.1 hx with rfl|hx
  ·rw[h1,h2];simp only[Bool.false_eq_true,if_false,if_true];omega
  ·have:=zmR (fun x hx hp=>hpq x (by simp[hx]) hp) ⟨x,hx,h1,h2⟩
   have h3:=hpq y (by simp)
   cases hp:p y with
   |false=>simp only[Bool.false_eq_true,if_false];omega
   |true=>rw[h3 hp];simp only[if_true];omega
open Classical in
theorem ztt {d:Nat} (h:¬ ∀s,s<w.length*4→Hd w (d+1) (tyS s)→Hd w d (tyS s)):cntH w d<cntH w (d+1):=by
 have h2:∃s,s<w.length*4∧Hd w (d+1) (tyS s)∧¬Hd w d (tyS s):=by
  refine Classical.byContradiction fun hn=>h fun s hs hh=>Classical.byContradiction fun hd=>hn ⟨s,hs,hh,hd⟩
 obtain⟨s,hs,h3,h4⟩:=h2
 unfold cntH
 exact zmR (fun x _ hx=>by rw[decide_eq_true_eq] at hx ⊢;exact Hd_mono w d _ hx) ⟨s,List.mem_range.2 hs,by simp[h4],by simp[h3]⟩
theorem zqB:∀m,(∀d,1≤d→d≤m→¬ ∀s,s<w.length*4→Hd w (d+1) (tyS s)→Hd w d (tyS s))→m≤cntH w (m+1)
 |0,_=>Nat.zero_le _
 |m+1,h=>by
  have:=zqB m (fun d h1 h2=>h d h1 (by omega))
  have:=ztt (w:=w) (d:=m+1) (h (m+1) (by omega) (by omega))
  omega
theorem zol (hcl:ClosedT w){e s:Nat} (hs:s<w.length*4) (h:Hd w e (tyS s)):Hd w (w.length*4+1) (tyS s):=by
 have hex:∃d,1≤d∧d≤w.length*4+1∧∀s,s<w.length*4→Hd w (d+1) (tyS s)→Hd w d (tyS s):=by
  refine Classical.byContradiction fun hn=>?_
  have h1:=zqB (w:=w) (w.length*4+1) (fun d h1 h2 h3=>hn ⟨d,h1,h2,h3⟩)
  have h2:cntH w (w.length*4+1+1)≤(List.range (w.length*4)).length:=List.countP_le_length
  rw[List.length_range] at h2
  omega
 obtain⟨d,h1,h2,h3⟩:=hex
 exact Hd_le h2 (zm2 hcl h1 h3 e s hs h)
theorem zqY {s i:Nat}{f:Nat→Nat}{c:Int} (h:i≠s):zbT w s f c i=f i:=by
 unfold zbT;split
 ·unfold updF;rw[if_neg h]
 ·rfl
theorem zpB {s i:Nat} (h:i≠s):∀(C:List Int) (f:Nat→Nat),C.foldl (zbT w s) f i=f i
 | [],_=>rfl
 |c::r,f=>by rw[List.foldl_cons,zpB h r,zqY h]
theorem zno {i:Nat}:∀(L:List Nat) (f:Nat→Nat),i∉L→L.foldl (zdx w) f i=f i
 | [],_,_=>rfl
 |s::r,f,h=>by
  simp only[List.mem_cons,not_or] at h
  rw[List.foldl_cons,zno r _ h.2]
  exact zpB h.1 _ _
theorem zkr {i:Nat} (h:w.length*4≤i):∀k,zbq w k i=0
 |0=>rfl
 |k+1=>by
  show zgy w (zbq w k) i=0
  unfold zgy
  rw[zno _ _ (by simp;omega),zkr h k]
theorem zmn (hcl:ClosedT w){k:Nat} (hk:w.length*4+1≤k):zbq w k=zaZ w:=by
 have key:∀a b,w.length*4+1≤a→w.length*4+1≤b→∀s,s<w.length*4→0<zbq w a s→0<zbq w b s∧zbq w b s≤zbq w a s:=by
  intro a b ha hb s hs h0
  have h1:=(zfA hcl a).1 s hs h0
  have h2:=zol hcl hs h1
  have h3:=(zfA hcl a).2 s hs _ ha h2
  exact(zfA hcl b).2 s hs _ (by omega) h1
 funext s
 rcases Nat.lt_or_ge s (w.length*4) with hs|hs
 ·have h1:=key k (w.length*4+1) hk (Nat.le_refl _) s hs
  have h2:=key (w.length*4+1) k (Nat.le_refl _) hk s hs
  show zbq w k s=zbq w (w.length*4+1) s
  omega
 ·show zbq w k s=zbq w (w.length*4+1) s
  rw[zkr hs,zkr hs]
theorem zrp (hcl:ClosedT w){k:Nat} (h:zbq w (k+1)=zbq w k):zbq w k=zaZ w:=by
 have:∀j,zbq w (k+j)=zbq w k:=by
  intro j
  induction j with
  |zero=>rfl
  |succ j ih=>
   show zgy w (zbq w (k+j))=zbq w k
   rw[ih];exact h
 rw[←this (w.length*4+1)]
 exact zmn hcl (by omega)
def Strict (f g:Nat→Nat):Prop:=∃s,0<g s∧(f s=0∨g s<f s)
theorem Strict.bet {f g h:Nat→Nat} (a:Strict f g) (b:Bet g h):Strict f h:=by
 obtain⟨s,h1,h2⟩:=a
 have:=b s h1
 exact⟨s,this.1,by omega⟩
theorem Strict.ne {f g:Nat→Nat} (a:Strict f g):f≠g:=by
 rintro rfl
 obtain⟨s,h1,h2⟩:=a
 omega
theorem zmB {s:Nat}:∀(C:List Int) (f:Nat→Nat),Bet f (C.foldl (zbT w s) f)
 | [],f=>Bet.refl f
 |c::r,f=>zjk.trans (zmB r _)
theorem znn:∀(L:List Nat) (f:Nat→Nat),Bet f (L.foldl (zdx w) f)
 | [],f=>Bet.refl f
 |s::r,f=>(zmB _ _).trans (znn r _)
theorem zoy {f:Nat→Nat}{b:Nat} (hb:∀s,f s≤b) (h1:1≤b):∀ {l:List Ty}{m:Nat},m≤b→zb9 f m l≤b+1
 | [],m,hm=>by simp only[zb9];omega
 |t::r,m,hm=>by
  simp only[zb9]
  split
  ·omega
  ·refine zoy hb h1 ?_
   have:dv f t≤b:=by
    unfold dv;split
    ·exact h1
    ·exact hb _
   omega
theorem zry {s:Nat}{f:Nat→Nat}{c:Int}{b:Nat} (hb:∀s,f s≤b) (h1:1≤b):∀i,zbT w s f c i≤b+1:=by
 intro i
 unfold zbT
 split
 ·unfold updF
  split
  ·exact zoy hb h1 (Nat.zero_le _)
  ·have:=hb i;omega
 ·have:=hb i;omega
theorem zoJ {s:Nat}:∀(C:List Int) (f:Nat→Nat) (b:Nat),(∀s,f s≤b)→1≤b→∀i,C.foldl (zbT w s) f i≤b+C.length
 | [],f,b,hb,_,i=>by have:=hb i;simpa using this
 |c::r,f,b,hb,h1,i=>by
  have:=zoJ (s:=s) r (zbT w s f c) (b+1) (zry hb h1) (by omega) i
  rw[List.foldl_cons,List.length_cons];omega
theorem zkH {m:Nat}:∀(L:List Nat) (f:Nat→Nat) (b:Nat),(∀s∈L,(zbo w (tyS s)).length≤m)→(∀s,f s≤b)→1≤b→∀i,L.foldl (zdx w) f i≤b+L.length*m
 | [],f,b,_,hb,_,i=>by have:=hb i;simpa using this
 |s::r,f,b,hm,hb,h1,i=>by
  have h2:=zoJ (w:=w) (s:=s) (zbo w (tyS s)) f b hb h1
  have h3:=hm s (by simp)
  have:=zkH r (zdx w f s) (b+m) (fun x hx=>hm x (by simp[hx])) (fun j=>by have:=h2 j;show _≤_;unfold zdx;omega) (by omega) i
  rw[List.foldl_cons,List.length_cons,Nat.add_mul]
  omega
theorem zpq {m:Nat} (hm:∀s,s<w.length*4→(zbo w (tyS s)).length≤m):∀k i,zbq w k i≤1+k*(w.length*4*m)
 |0,i=>by simp[zbq]
 |k+1,i=>by
  have:=zkH (w:=w) (m:=m) (List.range (w.length*4)) (zbq w k) (1+k*(w.length*4*m)) (fun s hs=>hm s (List.mem_range.1 hs)) (zpq hm k) (by omega) i
  show zgy w (zbq w k) i≤_
  unfold zgy
  rw[List.length_range] at this
  rw[Nat.add_mul]
  omega
end
end Go.Proofs.YtfiihhedihkdoaaGreat
namespace Go.Proofs.YtfiihhedihkdoaaGreat
open Go
set_option linter.unusedSimpArgs false
set_option linter.unusedVariables false
set_option maxRecDepth 100000
set_option maxHeartbeats 2000000
section
variable {c:Ctx}{all:Array Oper}{chk:List Rec→Prop}{os:List Oper}{recs:List Rec}{env:Env}{hp:Hp}{Q:St→Prop}
variable {d ty:Nat}{pos:String}{af:Array Edge}{g:Option (Nat×Bool)}{pg:List (Nat×AV)}
theorem Walk.buildZ {t n e m k:Nat}{zs:List AV} (ht:TyZ c.P t k zs) (ha:ArT c.P t n e m) (hg:GH all env g pg) (hd:Nat.blt d c.n=true)
  (hn:Walk c all chk os (zaq (pg++[]) [] [] ⟨some (d,.agg zs),[]⟩::recs) ⟨(d,.agg zs)::env,hp⟩ Q):
  Walk c all chk (⟨some d,.build t #[],ty,pos,af,g⟩::os) recs ⟨env,hp⟩ Q:=by
 refine Walk.pure0 hg hd (fun a G T w=>?_) hn
 obtain⟨i,z,h1,h2,h3,h4⟩:=ht.inf
 obtain⟨j,h5,h6⟩:=ha.inf
 have hz:=zca (G:=G) (T:=T) (w:=w) h4
 refine⟨.agg z.cells, ?_, ?_⟩
 ·have hb:c.P.built t []=some z.cells:=by
   unfold Program.built
   simp only[h1,ha.und,h3,h5]
   rfl
  have:=run_build w t #[] z.cells hb
  simp only[execOp,Sem.run_bind,Array.map_empty,this,Result.andThen_ok,Sem.run_pure]
 ·have hz':AllR G T w zs z.cells:=by simpa using hz
  exact .agg hz'.size hz'.rel
end
def tabC (n:Nat) (f:Nat→Nat):List AV:=(List.range n).map fun s=> .d (.i (f s:Int))
def tabD (n:Nat) (f:Nat→Nat):List D:=(List.range n).map fun s=> .i (f s:Int)
abbrev zhM (n:Nat) (f:Nat→Nat):D:= .sl ((List.range n).map fun s=>[D.i (f s:Int)])
theorem zjS {n i s:Nat}{f:Nat→Nat} (h:s<n) (e:i=s):(tabC n f)[i]?=some (.d (.i (f s:Int))):=by
 subst e;simp[tabC,h]
theorem zrF {n i s:Nat}{f:Nat→Nat} (h:s<n) (e:i=s):(tabD n f)[i]?=some (.i (f s:Int)):=by
 subst e;simp[tabD,h]
theorem zaB {n:Nat}{f:Nat→Nat}:AV.idsL (tabC n f)=[]:=by
 unfold tabC
 induction List.range n with
 |nil=>rfl
 |cons x r ih=>rw[List.map_cons,AV.idsL,ih];rfl
theorem zrH:∀ {n:Nat}{f:Nat→Nat},toDL (tabC n f)=some (tabD n f):=by
 intro n f
 unfold tabC tabD
 have:=zkI ((List.range n).map fun s=>D.i (f s:Int))
 rwa [List.map_map] at this
theorem zqv {n:Nat}{f:Nat→Nat}:zcp n 1 (tabC n f)=some ((List.range n).map fun s=>[D.i (f s:Int)]):=by
 have:=zez (f:=fun s=>[D.i (f s:Int)]) (k:=1) (l:=List.range n) (fun _ _=>rfl)
 rw[List.length_range] at this
 rw[←this]
 congr 1
 unfold tabC
 induction List.range n with
 |nil=>rfl
 |cons x r ih=>rw[List.map_cons,List.flatMap_cons,ih];rfl
theorem zpt {v:AV}:∀ {cs:List AV}{i:Nat},i<cs.length→putC cs i [v]=some (cs.set i v)
 |x::r,0,_=>by cases r<;>rfl
 |x::r,i+1,h=>by
  have:=zpt (v:=v) (cs:=r) (i:=i) (by simpa using h)
  simp only[putC,this,List.set_cons_succ]
theorem zpE {n i s v:Nat}{f:Nat→Nat}{x:Int} (h:s<n) (e:i=s) (ex:x=(v:Int)):putC (tabC n f) i [.d (.i x)]=some (tabC n (updF f s v)):=by
 subst e ex
 rw[zpt (by simp[tabC,h])]
 congr 1
 refine List.ext_getElem (by simp[tabC]) (fun j h1 h2=>?_)
 simp only[tabC,List.length_map,List.length_range] at h2
 rw[List.getElem_set]
 simp only[tabC,List.getElem_map,List.getElem_range,updF]
 by_cases hj:i=j
 ·subst hj;simp
 ·rw[if_neg hj,if_neg (fun h=>hj h.symm)]
theorem InS.facts {n:Nat}{a k:Int} (h:InS n ⟨a,k⟩) (ha:¬a = -1):zcX ⟨a,k⟩<n∧a*4+k=(zcX ⟨a,k⟩:Int)∧0≤a∧0≤k∧k≤3∧a≤n:=by
 rcases h with h|⟨h1,h2⟩
 ·exact absurd h ha
 ·have e1:=congrArg Ty.data h2
  have e2:=congrArg Ty.index h2
  simp only[tyS] at e1 e2
  omega
theorem zk6 {f:Nat→Nat}{a k:Int} (ha:¬a = -1):dv f ⟨a,k⟩=f (zcX ⟨a,k⟩):=by unfold dv;rw[if_neg ha]
theorem zk7 {f:Nat→Nat}{a k:Int} (ha:a = -1):dv f ⟨a,k⟩=1:=by unfold dv;rw[if_pos ha]
theorem zsa {f:Nat→Nat}{b:Nat} (hb:∀s,f s≤b) (h1:1≤b) (t:Ty):dv f t≤b:=by
 unfold dv;split
 ·exact h1
 ·exact hb _
theorem zhZ {a k:Int} (ha:0≤a∧a≤1000) (hk:0≤k∧k≤1000):FnD Tryz.prog 203 [.agg [.d (.i a),.d (.i k)]] [] (.d (.i (a*4+k))) []:=by
 refine bd Tryz.f203 9 [] [] fun w0 F0 own kept hk=>?_
 refine Walk.box (id:=3001) .none rfl rfl rfl rfl rfl rfl rfl ?_
 refine ev ?_
 refine ar ?_
 refine ar ?_
 focus (refine rn0 (r1 rfl) (.eqd ?_);all_goals (first|rfl|(simp[];done)|(simp_all;done)|(simp_all;omega)|omega))
theorem zlR {n:Nat}{f:Nat→Nat}{a k:Int} (h:InS n ⟨a,k⟩) (hn:n≤100):
  FnD Tryz.prog 173 [.ms 70 n,.agg [.d (.i a),.d (.i k)]] [(70,some (.box (tabC n f)))] (.d (.i (dv f ⟨a,k⟩))) []:=by
 have hs:=h.facts
 refine bd Tryz.f173 13 [12] [] fun w0 F0 own kept hk=>?_
 refine Walk.box (id:=3003) .none rfl rfl rfl (by first|rfl|(simp only[zak,occH,occE,Res.ids,List.cons_append,List.nil_append,AV.idsL,AV.ids,zab,zaa,zac,zan,List.map_cons,List.map_nil,upC,zaB];rfl)) (by first|rfl|(simp only[zak,occH,occE,Res.ids,List.cons_append,List.nil_append,AV.idsL,AV.ids,zab,zaa,zac,zan,List.map_cons,List.map_nil,upC,zaB];rfl)) (by first|rfl|(simp only[zak,occH,occE,Res.ids,List.cons_append,List.nil_append,AV.idsL,AV.ids,zab,zaa,zac,zan,List.map_cons,List.map_nil,upC,zaB];rfl)) (by first|rfl|(simp only[zak,occH,occE,Res.ids,List.cons_append,List.nil_append,AV.idsL,AV.ids,zab,zaa,zac,zan,List.map_cons,List.map_nil,upC,zaB];rfl)) ?_
 refine evs [12] [] ?_
 refine sq (fun h1 h1p h1s=>?_) fun h1 h1p h1s=>?_
 try simp only[Q] at h1p
 refine rn [] (r1 rfl) (.eqd ?_) ⟨rfl,rfl⟩ (SubH.get ⟨rfl,trivial⟩) (fun _ h=>h)
 rotate_left
 try simp only[Q] at h1p
 refine Walk.call (cr:=[]) zqs (zhZ (by have:=hs h1p;omega) (by have:=hs h1p;omega)) rfl .none rfl rfl (LeL.refl _) trivial rfl (by first|rfl|(simp only[zat,List.all_cons,List.all_nil,zaE,zaz,AV.idsL,AV.ids,zab,zaa,List.map_cons,List.map_nil,zaB];rfl)) (by first|rfl|(simp only[zak,occH,occE,Res.ids,List.cons_append,List.nil_append,AV.idsL,AV.ids,zab,zaa,zac,zan,List.map_cons,List.map_nil,upC,zaB];rfl)) ?_
 refine Walk.idxM (i:=zcX ⟨a,k⟩) zbU .none rfl rfl rfl (hs h1p).2.1 ((hs h1p).1) ?_
 refine Walk.loadB ty3 .none rfl rfl rfl ((zjS (hs h1p).1 (by omega))) ?_
 refine evs [12] [] ?_
 refine rn [] (r1 rfl) (.eqd ?_) ⟨rfl,rfl⟩ (SubH.get ⟨rfl,trivial⟩) (fun _ h=>h)
 rotate_left
 all_goals (first|(rw[zk7 (by assumption)];rfl)|(rw[zk6 (by assumption)]))
theorem zlQ {n:Nat}{f:Nat→Nat}{a k:Int} (h:InS n ⟨a,k⟩) (hn:n≤100):
  FnD Tryz.prog 173 [.d (zhM n f),.agg [.d (.i a),.d (.i k)]] [] (.d (.i (dv f ⟨a,k⟩))) []:=by
 have hs:=h.facts
 refine bd Tryz.f173 13 [] [] fun w0 F0 own kept hk=>?_
 refine Walk.box (id:=3003) .none rfl rfl rfl rfl rfl rfl rfl ?_
 refine ev ?_
 refine sq (fun h1 h1p h1s=>?_) fun h1 h1p h1s=>?_
 try simp only[Q] at h1p
 refine rn0 (r1 rfl) (.eqd ?_)
 rotate_left
 try simp only[Q] at h1p
 refine Walk.call (cr:=[]) zqs (zhZ (by have:=hs h1p;omega) (by have:=hs h1p;omega)) rfl .none rfl rfl (LeL.refl _) trivial rfl rfl rfl ?_
 refine Walk.idx (i:=zcX ⟨a,k⟩) zbU .none rfl rfl rfl (hs h1p).2.1 (by simp[(hs h1p).1];rfl) rfl ?_
 refine ev ?_
 refine rn0 (r1 rfl) (.eqd ?_)
 rotate_left
 all_goals (first|(rw[zk7 (by assumption)];rfl)|(rw[zk6 (by assumption)]))
theorem ziQ {w:List Data} (hw:WT w){a k c:Int} (ht:TyIn w.length ⟨a,k⟩) (hc:c∈zaA w ⟨a,k⟩):(zaj w ⟨a,k⟩ c).length≤1000000000000:=by
 obtain⟨d,rfl,h1,h2⟩:=zc0 ht hc
 exact zh5 hw h1 h2
theorem zmI {w:List Data} (hw:WT w){n:Nat}{f:Nat→Nat}{a k c:Int} (ht:TyIn w.length ⟨a,k⟩) (hc:c∈zaA w ⟨a,k⟩) (hn:n≤100) (hb:∀s,f s≤100000) (hin:∀u∈zaj w ⟨a,k⟩ c,InS n u):
  FnD Tryz.prog 111 [.d (zao w),.ms 70 n,.agg [.d (.i a),.d (.i k)],.d (.i c)] [(70,some (.box (tabC n f)))] (.d (.i (most w f ⟨a,k⟩ c))) []:=by
 have hl:=ziQ hw ht hc
 have hd:=zsa hb (by omega)
 refine bd Tryz.f111 37 [] [] fun w0 F0 own kept hk=>?_
 refine Walk.box (id:=3006) .none rfl rfl rfl (by first|rfl|(simp only[zak,occH,occE,Res.ids,List.cons_append,List.nil_append,AV.idsL,AV.ids,zab,zaa,zac,zan,List.map_cons,List.map_nil,upC,zaB];rfl)) (by first|rfl|(simp only[zak,occH,occE,Res.ids,List.cons_append,List.nil_append,AV.idsL,AV.ids,zab,zaa,zac,zan,List.map_cons,List.map_nil,upC,zaB];rfl)) (by first|rfl|(simp only[zak,occH,occE,Res.ids,List.cons_append,List.nil_append,AV.idsL,AV.ids,zab,zaa,zac,zan,List.map_cons,List.map_nil,upC,zaB];rfl)) (by first|rfl|(simp only[zak,occH,occE,Res.ids,List.cons_append,List.nil_append,AV.idsL,AV.ids,zab,zaa,zac,zan,List.map_cons,List.map_nil,upC,zaB];rfl)) ?_
 refine ev ?_
 refine Walk.call (cr:=[]) ziX (zdR hw ht hc) rfl .none rfl rfl (LeL.refl _) trivial rfl (by first|rfl|(simp only[zat,List.all_cons,List.all_nil,zaE,zaz,AV.idsL,AV.ids,zab,zaa,List.map_cons,List.map_nil,zaB];rfl)) (by first|rfl|(simp only[zak,occH,occE,Res.ids,List.cons_append,List.nil_append,AV.idsL,AV.ids,zab,zaa,zac,zan,List.map_cons,List.map_nil,upC,zaB];rfl)) ?_
 refine ev ?_
 refine CWp.loopX (ι:=List (Ty)×List (Ty)×(Nat)) hk (fun x=>[(11,.d (.i (x.1.length:Int))),(10,.d (.i (x.2.2:Int)))]) [8,12,17,18,19,20,21,22,23,24,25,26,27,28,29,30,31,32,33,34] (fun x=>[]) (fun x=>x.1++x.2.1=zaj w ⟨a,k⟩ c∧x.2.2≤100000∧zb9 f x.2.2 x.2.1=zb9 f 0 (zaj w ⟨a,k⟩ c)) (fun x=>x.2.1.length) ([],zaj w ⟨a,k⟩ c,0) ⟨by simp,by simp,rfl⟩ ⟨⟨_,rfl,(LeA.eqi (by first|rfl|(simp;done)|omega|(dsimp only;omega)))⟩,⟨⟨_,rfl,(LeA.eqi (by first|rfl|(simp;done)|omega|(dsimp only;omega)))⟩,trivial⟩⟩ trivial (fun x=>rfl) (fun x hg1=>?_)
 obtain⟨pre,rest,m⟩:=x
 dsimp only at hg1 ⊢
 refine evc [] [] ?_
 refine sq (fun h1 h1p h1s=>?_) fun h1 h1p h1s=>?_
 try simp only[Q] at h1p
 rcases rest with _|⟨y,rest⟩
 ·exfalso;simp_all
 have hdy:=hd y;have hye:dv f ⟨y.data,y.index⟩=dv f y:=rfl
 refine Walk.idx zbf .none rfl rfl rfl rfl (za0 hg1.1) rfl ?_
 refine ev ?_
 refine Walk.call (cr:=[]) zql (zlR (f:=f) (a:=y.data) (k:=y.index) (hin y (by rw[←hg1.1];simp)) hn) rfl .none rfl rfl (.cons (LeA.msn (by first|rfl|(simp;done))) (.cons (.refl _) .nil)) ⟨rfl,trivial⟩ rfl (by first|rfl|(simp only[zat,List.all_cons,List.all_nil,zaE,zaz,AV.idsL,AV.ids,zab,zaa,List.map_cons,List.map_nil,zaB];rfl)) (by first|rfl|(simp only[zak,occH,occE,Res.ids,List.cons_append,List.nil_append,AV.idsL,AV.ids,zab,zaa,zac,zan,List.map_cons,List.map_nil,upC,zaB];rfl)) ?_
 refine ev ?_
 refine sq (fun h2 h2p h2s=>?_) fun h2 h2p h2s=>?_
 try simp only[Q] at h2p
 refine rn [] (r1 rfl) (.eqd ?_) ⟨rfl,rfl⟩ (SubH.get ⟨rfl,trivial⟩) (fun _ h=>h)
 rotate_left
 try simp only[Q] at h2p
 refine sq (fun h3 h3p h3s=>?_) fun h3 h3p h3s=>?_
 try simp only[Q] at h3p
 refine ar ?_
 refine Exists.intro ((pre++[y],rest,max m (dv f y))) ⟨⟨(by have hz:=hg1.1;rw[←hz];simp),⟨(by have:=hd y;dsimp only;omega),(by rw[←hg1.2.2];simp only[zb9];rw[if_neg (by have:=hd y;omega)])⟩⟩,(by simp),Sub.x (by kernel_rfl) (by kernel_rfl) ⟨⟨_,rfl,(LeA.eqi (by first|rfl|(simp;done)|omega|(dsimp only;omega)))⟩,⟨⟨_,rfl,(LeA.eqi (by first|rfl|(simp;done)|omega|(dsimp only;omega)))⟩,trivial⟩⟩ (by kernel_rfl) (by kernel_rfl) trivial⟩
 try simp only[Q] at h3p
 refine ar ?_
 refine Exists.intro ((pre++[y],rest,max m (dv f y))) ⟨⟨(by have hz:=hg1.1;rw[←hz];simp),⟨(by have:=hd y;dsimp only;omega),(by rw[←hg1.2.2];simp only[zb9];rw[if_neg (by have:=hd y;omega)])⟩⟩,(by simp),Sub.x (by kernel_rfl) (by kernel_rfl) ⟨⟨_,rfl,(LeA.eqi (by first|rfl|(simp;done)|omega|(dsimp only;omega)))⟩,⟨⟨_,rfl,(LeA.eqi (by first|rfl|(simp;done)|omega|(dsimp only;omega)))⟩,trivial⟩⟩ (by kernel_rfl) (by kernel_rfl) trivial⟩
 try simp only[Q] at h1p
 have hrest:rest=[]:=by
  rcases rest with _|⟨a,b⟩
  ·rfl
  ·exfalso;have hz:=congrArg List.length (hg1.1);simp only[List.length_append,List.length_cons,List.length_map] at hz;omega
 subst hrest
 refine ar ?_
 refine rn [] (r1 rfl) (.eqd ?_) ⟨rfl,rfl⟩ (SubH.get ⟨rfl,trivial⟩) (fun _ h=>h)
 rotate_left
 all_goals (refine congrArg D.i ?_;unfold most;rw[←hg1.2.2];first|(simp only[zb9];rw[if_pos (by omega)];rfl)|(simp only[zb9];omega))
structure Dp (w:List Data):Prop where
 wt:WT w
 cl:ClosedT w
 four:w.length≤4
 ct:∀s,s<w.length*4→(zbo w (tyS s)).length≤4
def midT (w:List Data) (k s:Nat):Nat→Nat:=(List.range s).foldl (zdx w) (zbq w k)
def rowT (w:List Data) (k s:Nat) (pre:List Int):Nat→Nat:=pre.foldl (zbT w s) (midT w k s)
theorem zf0 {w:List Data}{k s:Nat}:rowT w k s (zbo w (tyS s))=midT w k (s+1):=by
 unfold rowT midT;rw[List.range_succ,List.foldl_append];rfl
theorem zdG {w:List Data}{k s:Nat}{pre:List Int}{c:Int}:rowT w k s (pre++[c])=zbT w s (rowT w k s pre) c:=by
 unfold rowT;rw[List.foldl_append];rfl
theorem zpz {w:List Data} (hd:Dp w){k s:Nat} (hk:k≤20) (hs:s≤w.length*4){pre:List Int} (hp:pre.length≤4) (i:Nat):rowT w k s pre i≤100000:=by
 have h4:=hd.four
 have h1:=zpq (w:=w) (m:=4) hd.ct k
 have h2:=zkH (w:=w) (m:=4) (List.range s) (zbq w k) _ (fun x hx=>hd.ct x (by have:=List.mem_range.1 hx;omega)) h1 (by omega)
 have h3:=zoJ (w:=w) (s:=s) pre (midT w k s) _ h2 (by omega) i
 have e1:k*(w.length*4*4)≤20*(4*4*4):=Nat.mul_le_mul hk (by omega)
 rw[List.length_range] at h3
 show pre.foldl (zbT w s) (midT w k s) i≤100000
 omega
theorem zq5 {w:List Data}{s:Nat} (h:s<w.length*4):TyIn w.length (tyS s):= .inr ⟨s / 4,rfl,by omega⟩
theorem ziu {w:List Data}{s:Nat}:zaA w (tyS s)=zbo w (tyS s):=by unfold zaA;rw[if_neg (zkJ s)]
theorem zpf (m:Nat):zaD (m+1) [.d (.i 0)]=zaD m [.d (.i 0)]++[AV.d (.i 0)]:=by
 induction m with
 |zero=>rfl
 |succ m ihm=>
  show [AV.d (.i 0)]++zaD (m+1) [.d (.i 0)]=([AV.d (.i 0)]++zaD m [.d (.i 0)])++[AV.d (.i 0)]
  rw[ihm,List.append_assoc]
theorem znw (n:Nat):zaD n [.d (.i 0)]=tabC n (fun _=>0):=by
 unfold tabC
 induction n with
 |zero=>rfl
 |succ n ih=>rw[zpf,ih,List.range_succ,List.map_append];rfl
theorem zed {w:List Data}{s:Nat}{f:Nat→Nat}{c:Int} (h:decide ((0:Int)<(most w f (tyS s) c:Int)∧((f s:Int)=0∨(most w f (tyS s) c:Int)<(f s:Int)))=true):zbT w s f c=updF f s (most w f (tyS s) c):=by
 rw[decide_eq_true_eq] at h
 unfold zbT;rw[if_pos (by omega)]
theorem zdF {w:List Data}{s:Nat}{f:Nat→Nat}{c:Int} (h:decide ((0:Int)<(most w f (tyS s) c:Int)∧((f s:Int)=0∨(most w f (tyS s) c:Int)<(f s:Int)))=false):zbT w s f c=f:=by
 rw[decide_eq_false_iff_not] at h
 unfold zbT;rw[if_neg (by omega)]
theorem zmF {w:List Data} (hw:WT w){s:Nat} (hs:s<w.length*4):FnD Tryz.prog 110 [.d (zao w),.agg [.d (.i ((s:Int) / 4)),.d (.i ((s:Int) % 4))]] [] (.d (zcL (zbo w (tyS s)))) []:=by
 rw[←ziu];exact zc2 hw (zq5 hs)
theorem znE {w:List Data} (hd:Dp w){f:Nat→Nat}{s:Nat}{c:Int} (hs:s<w.length*4) (hc:c∈zbo w (tyS s)) (hb:∀s,f s≤100000):
  FnD Tryz.prog 111 [.d (zao w),.ms 70 (w.length*4),.agg [.d (.i ((s:Int) / 4)),.d (.i ((s:Int) % 4))],.d (.i c)] [(70,some (.box (tabC (w.length*4) f)))] (.d (.i (most w f (tyS s) c))) []:=
 have h4:=hd.four
 zmI (a:=(tyS s).data) (k:=(tyS s).index) hd.wt (zq5 hs) (by rw[←ziu] at hc;exact hc) (by omega) hb (fun u hu=>hd.cl s hs c hc u hu)
theorem zlS {w:List Data} (hd:Dp w):FnD Tryz.prog 60 [.d (zao w)] [] (.d (zhM (w.length*4) (zaZ w))) []:=by
 have hw:=hd.wt
 have h4:=hd.four
 refine bd Tryz.f60 70 [27,29,54,61] [14,999999] fun w0 F0 own kept hk=>?_
 refine ar ?_
 refine Walk.make (id:=70) (m:=w.length*4) zbU tz3 rfl (by decide) (zce rfl) .none rfl (congrArg (fun z:Int=>some (AV.d (D.i z))) (by simp:((w.map Data.c).length:Int)*4=((w.length*4:Nat):Int))) (congrArg (fun z:Int=>some (AV.d (D.i z))) (by simp:((w.map Data.c).length:Int)*4=((w.length*4:Nat):Int))) (by omega) (by omega) (by first|rfl|(simp only[zak,occH,occE,Res.ids,List.cons_append,List.nil_append,AV.idsL,AV.ids,zab,zaa,zac,zan,List.map_cons,List.map_nil,upC,zaB];rfl)) (by first|rfl|(simp only[zak,occH,occE,Res.ids,List.cons_append,List.nil_append,AV.idsL,AV.ids,zab,zaa,zac,zan,List.map_cons,List.map_nil,upC,zaB];rfl)) (by first|rfl|(simp only[zak,occH,occE,Res.ids,List.cons_append,List.nil_append,AV.idsL,AV.ids,zab,zaa,zac,zan,List.map_cons,List.map_nil,upC,zaB];rfl)) ?_
 refine evs [27,29,54,61] [] ?_
 refine CWp.loopX (ι:=Nat) hk (fun n=>[(4,.d (.i (n:Int)))]) [5,6,7,8,9,14,15,16,17,18,19,20,21,22,23,24,25,26,27,28,29,30,31,32,33,34,35,36,37,38,39,40,41,42,43,44,45,46,47,48,49,50,51,52,53,54,55,56,57,58,59,60,61,62,63,64,65,66,67,68] (fun n=>[(70,some (.box (tabC (w.length*4) (zbq w n))))]) (fun n=>n≤w.length*4+1) (fun n=>w.length*4+1-n) 0 (by simp) ⟨⟨_,rfl,(LeA.eqi (by first|rfl|(simp;done)|(simp_all;done)|omega))⟩,trivial⟩ ⟨(by first|rfl|(show some (Res.box _)=some (Res.box _);rw[znw];rfl)|(have e:s=w.length*4:=(by omega);rw[e];rfl)),trivial⟩ (fun x=>rfl) (fun n hg1=>?_)
 refine evc [27,29,54,61] [14,999999] ?_
 refine sq (fun h1 h1p h1s=>?_) fun h1 h1p h1s=>?_
 try simp only[Q] at h1p
 refine CWp.loopX (ι:=Nat) hk (fun s=>[(5,.d (.i (s:Int)))]) [6,7,8,9,20,21,22,23,24,25,26,27,28,29,30,31,32,33,34,35,36,37,38,39,40,41,42,43,44,45,46,47,48,49,50,51,52,53,54,55,56,57,58,59,60,61,62,63,64,65,66,67,68] (fun s=>[(70,some (.box (tabC (w.length*4) (midT w n s))))]) (fun s=>s≤w.length*4) (fun s=>w.length*4-s) 0 (by simp) ⟨⟨_,rfl,(LeA.eqi (by first|rfl|(simp;done)|(simp_all;done)|omega))⟩,trivial⟩ ⟨(by first|rfl|(show some (Res.box _)=some (Res.box _);rw[←zf0,←hg3,List.append_nil])),trivial⟩ (fun x=>rfl) (fun s hg2=>?_)
 refine evc [27,29,54,61] [14,999999] ?_
 refine sq (fun h2 h2p h2s=>?_) fun h2 h2p h2s=>?_
 try simp only[Q] at h2p
 refine Walk.quoI .none rfl rfl rfl (by omega) ?_
 refine evs [27,29,54,61] [] ?_
 refine Walk.remI .none rfl rfl rfl (by omega) ?_
 refine Walk.build st33 (ks:=[0,1]) (xs:=[_,_]) rfl rfl .none rfl rfl rfl ?_
 refine Walk.alloc (id:=3006) tz33 rfl .none rfl (by first|rfl|(simp only[zak,occH,occE,Res.ids,List.cons_append,List.nil_append,AV.idsL,AV.ids,zab,zaa,zac,zan,List.map_cons,List.map_nil,upC,zaB];rfl)) (by first|rfl|(simp only[zak,occH,occE,Res.ids,List.cons_append,List.nil_append,AV.idsL,AV.ids,zab,zaa,zac,zan,List.map_cons,List.map_nil,upC,zaB];rfl)) (by first|rfl|(simp only[zak,occH,occE,Res.ids,List.cons_append,List.nil_append,AV.idsL,AV.ids,zab,zaa,zac,zan,List.map_cons,List.map_nil,upC,zaB];rfl)) ?_
 refine Walk.store ty33 .none rfl rfl rfl rfl rfl rfl (by simp) rfl ?_
 refine tv ?_
 refine Walk.call (cr:=[]) zhI (zmF hw (s:=s) (by omega)) rfl .none rfl rfl (LeL.refl _) trivial rfl (by first|rfl|(simp only[zat,List.all_cons,List.all_nil,zaE,zaz,AV.idsL,AV.ids,zab,zaa,List.map_cons,List.map_nil,zaB];rfl)) (by first|rfl|(simp only[zak,occH,occE,Res.ids,List.cons_append,List.nil_append,AV.idsL,AV.ids,zab,zaa,zac,zan,List.map_cons,List.map_nil,upC,zaB];rfl)) ?_
 refine evs [27,29,54,61] [] ?_
 refine CWp.loopX (ι:=List (Int)×List (Int)) hk (fun x=>[(8,.d (.i (x.1.length:Int)))]) [9,34,35,36,37,38,39,40,41,42,43,44,45,46,47,48,49,50,51,52,53,54,55,56,57,58,59,60,61,62,63,64,65,66,67,68] (fun x=>[(70,some (.box (tabC (w.length*4) (rowT w n s x.1))))]) (fun x=>x.1++x.2=zbo w (tyS s)) (fun x=>x.2.length) ([],zbo w (tyS s)) (by simp) ⟨⟨_,rfl,(LeA.eqi (by first|rfl|(simp;done)|(simp_all;done)|omega))⟩,trivial⟩ ⟨(by first|rfl|(show some (Res.box _)=some (Res.box _);rw[zdG];first|(rw[zed (by assumption)];done)|(rw[zdF (by assumption)];done))),trivial⟩ (fun x=>rfl) (fun x hg3=>?_)
 obtain⟨pre,rest⟩:=x
 dsimp only at hg3 ⊢
 have hct:=hd.ct s (by omega)
 refine evc [27,29,54,61] [14,999999] ?_
 refine sq (fun h3 h3p h3s=>?_) fun h3 h3p h3s=>?_
 try simp only[Q] at h3p
 rcases rest with _|⟨c,rest⟩
 ·exfalso;simp_all
 refine Walk.idx zbU .none rfl rfl rfl rfl (za0 hg3) rfl ?_
 refine evd [27,29,54,61] [] ?_
 refine Walk.call (cr:=[]) zsQ (znE hd (f:=rowT w n s pre) (s:=s) (c:=c) (by omega) (by rw[←hg3];simp) (zpz hd (by omega) (by omega) (by have:=hd.ct s (by omega);have hz:=congrArg List.length hg3;simp at hz;omega))) rfl .none rfl rfl (.cons (.refl _) (.cons (LeA.msn (by first|rfl|(simp;done))) (.cons (.refl _) (.cons (.refl _) .nil)))) ⟨rfl,trivial⟩ rfl (by first|rfl|(simp only[zat,List.all_cons,List.all_nil,zaE,zaz,AV.idsL,AV.ids,zab,zaa,List.map_cons,List.map_nil,zaB];rfl)) (by first|rfl|(simp only[zak,occH,occE,Res.ids,List.cons_append,List.nil_append,AV.idsL,AV.ids,zab,zaa,zac,zan,List.map_cons,List.map_nil,upC,zaB];rfl)) ?_
 refine evd [27,29,54,61] [] ?_
 refine dr ?_
 refine CWp.regionJ ?_
 refine WRest.join 17 [(64,.d (.bool (decide ((0:Int)<(most w (rowT w n s pre) (tyS s) c:Int)∧((rowT w n s pre s:Int)=0∨(most w (rowT w n s pre) (tyS s) c:Int)<(rowT w n s pre s:Int))))))] [48,49,50,51,52,53,54,55,56,57,58,59,60,61,62,63] ?_ ?_
 refine evs [27,29,54,61] [] ?_
 refine sq (fun h4 h4p h4s=>?_) fun h4 h4p h4s=>?_
 try simp only[Q] at h4p
 refine Walk.idxM (i:=s) zbU (.some rfl rfl h4) rfl rfl rfl rfl (by omega) ?_
 refine Walk.loadB ty3 (.some rfl rfl h4) rfl rfl rfl ((zjS (s:=s) (by omega) (by omega))) ?_
 refine evs [27,29,54,61] [(50,true)] ?_ ⟨⟨_,rfl,h4⟩,trivial⟩
 refine sq (fun h5 h5p h5s=>?_) fun h5 h5p h5s=>?_
 try simp only[Q] at h5p
 exact jnb rfl
 try simp only[Q] at h5p
 refine Walk.idxM (i:=s) zbU (.some rfl rfl h5) rfl rfl rfl rfl (by omega) ?_
 refine Walk.loadB ty3 (.some rfl rfl h5) rfl rfl rfl ((zjS (s:=s) (by omega) (by omega))) ?_
 refine evs [27,29,54,61] [(50,true),(56,false)] ?_ ⟨⟨_,rfl,h4⟩,⟨_,rfl,h5⟩,trivial⟩
 exact jnb rfl
 try simp only[Q] at h4p
 exact jnb rfl
 refine WRest.done ?_
 refine tv ?_
 refine sq (fun h6 h6p h6s=>?_) fun h6 h6p h6s=>?_
 try simp only[Q] at h6p
 refine Walk.idxM (i:=s) zbU .none rfl rfl rfl rfl (by omega) ?_
 refine Walk.store ty3 .none rfl rfl rfl rfl rfl rfl (by simp) ((zpE (s:=s) (v:=most w (rowT w n s pre) (tyS s) c) (by omega) (by omega) rfl)) ?_
 refine tv ?_
 refine ar ?_
 refine Exists.intro ((pre++[c],rest)) ⟨(by have hz:=hg3;rw[←hz];simp),(by simp),Sub.x (by kernel_rfl) (by kernel_rfl) ⟨⟨_,rfl,(LeA.eqi (by first|rfl|(simp;done)|(simp_all;done)|omega))⟩,trivial⟩ (by kernel_rfl) (by kernel_rfl) ⟨(by first|rfl|(show some (Res.box _)=some (Res.box _);rw[zdG];first|(rw[zed (by assumption)];done)|(rw[zdF (by assumption)];done))),trivial⟩⟩
 try simp only[Q] at h6p
 refine ar ?_
 refine Exists.intro ((pre++[c],rest)) ⟨(by have hz:=hg3;rw[←hz];simp),(by simp),Sub.x (by kernel_rfl) (by kernel_rfl) ⟨⟨_,rfl,(LeA.eqi (by first|rfl|(simp;done)|(simp_all;done)|omega))⟩,trivial⟩ (by kernel_rfl) (by kernel_rfl) ⟨(by first|rfl|(show some (Res.box _)=some (Res.box _);rw[zdG];first|(rw[zed (by assumption)];done)|(rw[zdF (by assumption)];done))),trivial⟩⟩
 try simp only[Q] at h3p
 have hrest:rest=[]:=by
  rcases rest with _|⟨a,b⟩
  ·rfl
  ·exfalso;have hz:=congrArg List.length (hg3);simp only[List.length_append,List.length_cons,List.length_map] at hz;omega
 subst hrest
 refine ar ?_
 refine Exists.intro (s+1) ⟨(by omega),(by omega),Sub.x (by kernel_rfl) (by kernel_rfl) ⟨⟨_,rfl,(LeA.eqi (by first|rfl|(simp;done)|(simp_all;done)|omega))⟩,trivial⟩ (by kernel_rfl) (by kernel_rfl) ⟨(by first|rfl|(show some (Res.box _)=some (Res.box _);rw[←zf0,←hg3,List.append_nil])),trivial⟩⟩
 try simp only[Q] at h2p
 refine ar ?_
 refine Exists.intro (n+1) ⟨(by omega),(by omega),Sub.x (by kernel_rfl) (by kernel_rfl) ⟨⟨_,rfl,(LeA.eqi (by first|rfl|(simp;done)|(simp_all;done)|omega))⟩,trivial⟩ (by kernel_rfl) (by kernel_rfl) ⟨(by first|rfl|(show some (Res.box _)=some (Res.box _);rw[znw];rfl)|(have e:s=w.length*4:=(by omega);rw[e];rfl)),trivial⟩⟩
 try simp only[Q] at h1p
 refine CWp.frz hk 2 70 _ _ rfl rfl zqv rfl ?_
 refine CWp.ret ?_
 refine rn0 (r1 rfl) (.eqd ?_)
 rotate_left
 all_goals (first|rfl|(have e:n=w.length*4+1:=(by omega);rw[e];rfl))
end Go.Proofs.YtfiihhedihkdoaaGreat
namespace Go.Proofs.YtfiihhedihkdoaaGreat
open Go
set_option linter.unusedSimpArgs false
set_option linter.unusedVariables false
set_option maxRecDepth 100000
set_option maxHeartbeats 4000000
theorem zfc {p:Pat}{b1 b2 b3:Bool}{k:Int}:FnD Tryz.prog 223 [.agg [.d (.i p.op),.d (.i p.ctor),.d (.i p.n),.d (.i p.m),.d (.i p.var),.d (zad p.kids)],.d (.bool b1),.d (.bool b2),.d (.bool b3),.d (.i k)] []
  (.d (.bool (decide ((b1=true∨p.ctor=0)∧(b2=true∨p.n=0∧p.m=0)∧(b3=true∨p.var=0)∧(p.kids.length:Int)=k)))) []:=by
 refine bd Tryz.f223 45 [] [1] fun w0 F0 own kept hk=>?_
 refine Walk.box (id:=3005) .none rfl rfl rfl rfl rfl rfl rfl ?_
 refine ev ?_
 refine CWp.regionJ ?_
 refine WRest.join 6 [(16,.d (.bool (decide (b1=true∨p.ctor=0))))] [11,12,13,14,15] ?_ ?_
 refine ev ?_
 refine sq (fun h1 h1p h1s=>?_) fun h1 h1p h1s=>?_
 try simp only[Q,Pat.cs_len] at h1p
 exact jn rfl (LeA.eqb (by(first|rfl|(rw[Bool.eq_iff_iff];simp_all[Pat.cs_len];done))))
 try simp only[Q,Pat.cs_len] at h1p
 exact jn rfl (LeA.eqb (by(first|rfl|(rw[Bool.eq_iff_iff];simp_all[Pat.cs_len];done))))
 refine WRest.join 13 [(29,.d (.bool (decide ((b1=true∨p.ctor=0)∧(b2=true∨p.n=0∧p.m=0)))))] [17,18,19,20,21,22,23,24,25,26,27,28] ?_ ?_
 refine ev ?_
 refine sq (fun h2 h2p h2s=>?_) fun h2 h2p h2s=>?_
 try simp only[Q,Pat.cs_len] at h2p
 refine sq (fun h3 h3p h3s=>?_) fun h3 h3p h3s=>?_
 try simp only[Q,Pat.cs_len] at h3p
 exact jn rfl (LeA.eqb (by(first|rfl|(rw[Bool.eq_iff_iff];simp_all[Pat.cs_len];done))))
 try simp only[Q,Pat.cs_len] at h3p
 refine sq (fun h4 h4p h4s=>?_) fun h4 h4p h4s=>?_
 try simp only[Q,Pat.cs_len] at h4p
 exact jn rfl (LeA.eqb (by(first|rfl|(rw[Bool.eq_iff_iff];simp_all[Pat.cs_len];done))))
 try simp only[Q,Pat.cs_len] at h4p
 exact jn rfl (LeA.eqb (by(first|rfl|(rw[Bool.eq_iff_iff];simp_all[Pat.cs_len];done))))
 try simp only[Q,Pat.cs_len] at h2p
 exact jn rfl (LeA.eqb (by(first|rfl|(rw[Bool.eq_iff_iff];simp_all[Pat.cs_len];done))))
 refine WRest.join 8 [(37,.d (.bool (decide ((b1=true∨p.ctor=0)∧(b2=true∨p.n=0∧p.m=0)∧(b3=true∨p.var=0)))))] [30,31,32,33,34,35,36] ?_ ?_
 refine ev ?_
 refine sq (fun h5 h5p h5s=>?_) fun h5 h5p h5s=>?_
 try simp only[Q,Pat.cs_len] at h5p
 refine sq (fun h6 h6p h6s=>?_) fun h6 h6p h6s=>?_
 try simp only[Q,Pat.cs_len] at h6p
 exact jn rfl (LeA.eqb (by(first|rfl|(rw[Bool.eq_iff_iff];simp_all[Pat.cs_len];done))))
 try simp only[Q,Pat.cs_len] at h6p
 exact jn rfl (LeA.eqb (by(first|rfl|(rw[Bool.eq_iff_iff];simp_all[Pat.cs_len];done))))
 try simp only[Q,Pat.cs_len] at h5p
 exact jn rfl (LeA.eqb (by(first|rfl|(rw[Bool.eq_iff_iff];simp_all[Pat.cs_len];done))))
 refine WRest.join 7 [(44,.d (.bool (decide ((b1=true∨p.ctor=0)∧(b2=true∨p.n=0∧p.m=0)∧(b3=true∨p.var=0)∧(p.kids.length:Int)=k))))] [38,39,40,41,42,43] ?_ ?_
 refine ev ?_
 refine sq (fun h7 h7p h7s=>?_) fun h7 h7p h7s=>?_
 try simp only[Q,Pat.cs_len] at h7p
 exact jn rfl (LeA.eqb (by(first|rfl|(rw[Bool.eq_iff_iff];simp_all[Pat.cs_len];done))))
 try simp only[Q,Pat.cs_len] at h7p
 exact jn rfl (LeA.eqb (by(first|rfl|(rw[Bool.eq_iff_iff];simp_all[Pat.cs_len];done))))
 refine WRest.done ?_
 refine ev ?_
 refine rn0 (r1 rfl) (.eqd ?_)
 rotate_left
 all_goals (rfl)
theorem zfN {p:Pat}{k:Int}:FnD Tryz.prog 223 [.agg [.d (.i p.op),.d (.i p.ctor),.d (.i p.n),.d (.i p.m),.d (.i p.var),.d (zad p.kids)],.d (.bool false),.d (.bool false),.d (.bool false),.d (.i k)] []
  (.d (.bool (decide (p.ctor=0∧(p.n=0∧p.m=0)∧p.var=0∧(p.kids.length:Int)=k)))) []:=by
 have:=zfc (p:=p) (b1:=false) (b2:=false) (b3:=false) (k:=k)
 simpa only[Bool.false_eq_true,false_or] using this
theorem zfO {p:Pat}{k:Int}:FnD Tryz.prog 223 [.agg [.d (.i p.op),.d (.i p.ctor),.d (.i p.n),.d (.i p.m),.d (.i p.var),.d (zad p.kids)],.d (.bool false),.d (.bool false),.d (.bool true),.d (.i k)] []
  (.d (.bool (decide (p.ctor=0∧(p.n=0∧p.m=0)∧(p.kids.length:Int)=k)))) []:=by
 have:=zfc (p:=p) (b1:=false) (b2:=false) (b3:=true) (k:=k)
 simpa only[Bool.false_eq_true,false_or,true_or,true_and] using this
theorem zj8 {p:Pat}{k:Int}:FnD Tryz.prog 223 [.agg [.d (.i p.op),.d (.i p.ctor),.d (.i p.n),.d (.i p.m),.d (.i p.var),.d (zad p.kids)],.d (.bool false),.d (.bool true),.d (.bool false),.d (.i k)] []
  (.d (.bool (decide (p.ctor=0∧p.var=0∧(p.kids.length:Int)=k)))) []:=by
 have:=zfc (p:=p) (b1:=false) (b2:=true) (b3:=false) (k:=k)
 simpa only[Bool.false_eq_true,false_or,true_or,true_and] using this
theorem zo7 {p:Pat}{k:Int}:FnD Tryz.prog 223 [.agg [.d (.i p.op),.d (.i p.ctor),.d (.i p.n),.d (.i p.m),.d (.i p.var),.d (zad p.kids)],.d (.bool true),.d (.bool false),.d (.bool false),.d (.i k)] []
  (.d (.bool (decide ((p.n=0∧p.m=0)∧p.var=0∧(p.kids.length:Int)=k)))) []:=by
 have:=zfc (p:=p) (b1:=true) (b2:=false) (b3:=false) (k:=k)
 simpa only[Bool.false_eq_true,false_or,true_or,true_and] using this
theorem zeG {v:Int}:FnD Tryz.prog 148 [.d (.i v)] [] (.d (.bool (zar v 0 5))) []:=by
 refine bd Tryz.f148 5 [] [] fun w0 F0 own kept hk=>?_
 refine Walk.call (cr:=[]) zey (zbO) rfl .none rfl rfl (LeL.refl _) trivial rfl rfl rfl ?_
 refine ev ?_
 refine rn0 (r1 rfl) (.eqd ?_)
 rotate_left
 all_goals (rfl)
theorem zem {w:List Data} (hw:WT w){a k:Int} (ht:TyIn w.length ⟨a,k⟩):FnD Tryz.prog 122 [.d (zao w),.agg [.d (.i a),.d (.i k)]] [] (.d (zcL (zaA w ⟨a,k⟩))) []:=by
 rcases ht with ha|⟨d,hd,hlt⟩
 ·simp only at ha;subst ha;rw[zgA];exact ziI
 ·simp only at hd;subst hd;rw[zhx];exact zlb hw hlt
theorem zde {w:List Data} (hw:WT w){a k c:Int} (ht:TyIn w.length ⟨a,k⟩) (hc:c∈zaA w ⟨a,k⟩):FnD Tryz.prog 132 [.d (zao w),.agg [.d (.i a),.d (.i k)],.d (.i c)] [] (.d (zby (zaj w ⟨a,k⟩ c))) []:=by
 obtain⟨d,rfl,h1,h2⟩:=zc0 ht hc
 exact zkl hw h1 h2
theorem ziB {w:List Data} (hw:WT w){a k:Int}{p:Pat} (ht:TyIn w.length ⟨a,k⟩):
  FnD Tryz.prog 204 [.d (zao w),.agg [.d (.i a),.d (.i k)],.agg [.d (.i p.op),.d (.i p.ctor),.d (.i p.n),.d (.i p.m),.d (.i p.var),.d (zad p.kids)]] [] (.tup [.d (zby (zcU w ⟨a,k⟩ p)),.d (.bool (okP w ⟨a,k⟩ p))]) []:=by
 have hcl:=zl5 hw ht
 have ty4:p.op=4→p.ctor∉zaA w ⟨a,k⟩→zcU w ⟨a,k⟩ p=[]:=fun h4 hm=>by unfold zcU;rw[if_pos ⟨h4,hm⟩]
 have ty4':p.op=4→p.ctor∈zaA w ⟨a,k⟩→zcU w ⟨a,k⟩ p=zaj w ⟨a,k⟩ p.ctor:=fun h4 hm=>by unfold zcU zag;rw[if_neg (fun h=>h.2 hm),if_pos h4]
 have ty5:p.op=5→zcU w ⟨a,k⟩ p=[⟨a,k⟩,⟨a,k⟩]:=fun h5=>by unfold zcU zag;rw[if_neg (by omega),if_neg (by omega),if_pos h5]
 have ty6:p.op=6→zcU w ⟨a,k⟩ p=[⟨a,k⟩]:=fun h6=>by unfold zcU zag;rw[if_neg (by omega),if_neg (by omega),if_neg (by omega),if_pos h6]
 have ty0:¬p.op=4→¬p.op=5→¬p.op=6→zcU w ⟨a,k⟩ p=[]:=fun h4 h5 h6=>by unfold zcU zag;rw[if_neg (fun h=>h4 h.1),if_neg h4,if_neg h5,if_neg h6]
 have ln4:p.op=4→(zag w ⟨a,k⟩ p).length=(zaj w ⟨a,k⟩ p.ctor).length:=fun h4=>by unfold zag;rw[if_pos h4]
 have ln5:p.op=5→(zag w ⟨a,k⟩ p).length=2:=fun h5=>by unfold zag;rw[if_neg (by omega),if_pos h5];rfl
 have ln6:p.op=6→(zag w ⟨a,k⟩ p).length=1:=fun h6=>by unfold zag;rw[if_neg (by omega),if_neg (by omega),if_pos h6];rfl
 have ln0:¬p.op=4→¬p.op=5→¬p.op=6→(zag w ⟨a,k⟩ p).length=0:=fun h4 h5 h6=>by unfold zag;rw[if_neg h4,if_neg h5,if_neg h6];rfl
 have okI:∀b:Bool,(b=true↔((((p.op=2∨p.op=6)→0≤p.var∧p.var≤5)∧(¬(p.op=2∨p.op=6)→p.var=0)∧(p.op≠3→p.n=0∧p.m=0)∧(p.op≠4→p.ctor=0)∧
   (p.op=1∨p.op=2∨p.op=5∨p.op=6∨(p.op=3∧a = -1∧0≤p.n∧p.n≤p.m∧p.m≤9)∨(p.op=4∧p.ctor∈zaA w ⟨a,k⟩)))∧p.kids.length=(zag w ⟨a,k⟩ p).length))→b=okP w ⟨a,k⟩ p:=fun b h=>by
  rw[Bool.eq_iff_iff,h];unfold okP ownP;simp only[Bool.and_eq_true,decide_eq_true_eq]
 by_cases hmem:p.ctor∈zaA w ⟨a,k⟩
 ·have hargs:=zde hw ht hmem
  have hal:(zaj w ⟨a,k⟩ p.ctor).length≤1000000000000:=by
   obtain⟨d,rfl,h1,h2⟩:=zc0 ht hmem
   exact zh5 hw h1 h2
  simp only[hmem,and_true] at okI
  refine bd Tryz.f204 87 [] [5] fun w0 F0 own kept hk=>?_
  refine Walk.box (id:=3004) .none rfl rfl rfl rfl rfl rfl rfl ?_
  refine Walk.box (id:=3005) .none rfl rfl rfl rfl rfl rfl rfl ?_
  refine ev ?_
  refine sq (fun h1 h1p h1s=>?_) fun h1 h1p h1s=>?_
  try simp only[Q] at h1p
  refine Walk.call (cr:=[]) zd7 (zfN) rfl .none rfl rfl (LeL.refl _) trivial rfl rfl rfl ?_
  refine ev ?_
  refine rn0 (r2 rfl rfl) (.tup (.cons (.nild ?_) (.cons (.eqd ?_) .nil)))
  rotate_left 2
  try simp only[Q] at h1p
  refine sq (fun h2 h2p h2s=>?_) fun h2 h2p h2s=>?_
  try simp only[Q] at h2p
  refine CWp.regionJ ?_
  refine WRest.join 7 [(23,.d (.bool (decide ((p.ctor=0∧(p.n=0∧p.m=0)∧(p.kids.length:Int)=0)∧0≤p.var∧p.var≤5))))] [17,18,19,20,21,22] ?_ ?_
  refine ev ?_
  refine Walk.call (cr:=[]) zd7 (zfO) rfl .none rfl rfl (LeL.refl _) trivial rfl rfl rfl ?_
  refine ev ?_
  refine sq (fun h3 h3p h3s=>?_) fun h3 h3p h3s=>?_
  try simp only[Q] at h3p
  refine Walk.call (cr:=[]) zkU (zeG) rfl (.some rfl rfl h3) rfl rfl (LeL.refl _) trivial rfl rfl rfl ?_
  refine evs [] [(19,true)] ?_ ⟨⟨_,rfl,h3⟩,trivial⟩
  exact jn rfl (LeA.eqb (by(rw[Bool.eq_iff_iff];simp only[decide_eq_true_eq,zar,Bool.and_eq_true,Bool.false_eq_true,false_iff,true_iff];omega)))
  try simp only[Q] at h3p
  exact jn rfl (LeA.eqb (by(rw[Bool.eq_iff_iff];simp only[decide_eq_true_eq,zar,Bool.and_eq_true,Bool.false_eq_true,false_iff,true_iff];omega)))
  refine WRest.done ?_
  refine ev ?_
  refine rn0 (r2 rfl rfl) (.tup (.cons (.nild ?_) (.cons (.eqd ?_) .nil)))
  rotate_left 2
  try simp only[Q] at h2p
  refine sq (fun h4 h4p h4s=>?_) fun h4 h4p h4s=>?_
  try simp only[Q] at h4p
  refine sq (fun h5 h5p h5s=>?_) fun h5 h5p h5s=>?_
  try simp only[Q] at h5p
  refine Walk.call (cr:=[]) zd7 (zj8) rfl (.some rfl rfl h5) rfl rfl (LeL.refl _) trivial rfl rfl rfl ?_
  refine evd [] [(29,true)] ?_ ⟨⟨_,rfl,h5⟩,trivial⟩
  refine sq (fun h6 h6p h6s=>?_) fun h6 h6p h6s=>?_
  try simp only[Q] at h6p
  refine sq (fun h7 h7p h7s=>?_) fun h7 h7p h7s=>?_
  try simp only[Q] at h7p
  refine sq (fun h8 h8p h8s=>?_) fun h8 h8p h8s=>?_
  try simp only[Q] at h8p
  refine dr ?_
  refine rn0 (r2 rfl rfl) (.tup (.cons (.nild ?_) (.cons (.eqd ?_) .nil)))
  rotate_left 2
  try simp only[Q] at h8p
  refine dr ?_
  refine rn0 (r2 rfl rfl) (.tup (.cons (.nild ?_) (.cons (.eqd ?_) .nil)))
  rotate_left 2
  try simp only[Q] at h7p
  refine sqF ?_
  refine dr ?_
  refine rn0 (r2 rfl rfl) (.tup (.cons (.nild ?_) (.cons (.eqd ?_) .nil)))
  rotate_left 2
  try simp only[Q] at h6p
  refine sqF ?_
  refine sqF ?_
  refine dr ?_
  refine rn0 (r2 rfl rfl) (.tup (.cons (.nild ?_) (.cons (.eqd ?_) .nil)))
  rotate_left 2
  try simp only[Q] at h5p
  refine sqF ?_
  refine sqF ?_
  refine sqF ?_
  refine dr ?_
  refine rn0 (r2 rfl rfl) (.tup (.cons (.nild ?_) (.cons (.eqd ?_) .nil)))
  rotate_left 2
  try simp only[Q] at h4p
  refine sq (fun h9 h9p h9s=>?_) fun h9 h9p h9s=>?_
  try simp only[Q] at h9p
  refine Walk.call (cr:=[]) zkS (zem hw ht) rfl .none rfl rfl (LeL.refl _) trivial rfl rfl rfl ?_
  refine evd [] [] ?_
  refine Walk.call (cr:=[]) zqu (zeE hcl) rfl .none rfl rfl (LeL.refl _) trivial rfl rfl rfl ?_
  refine evd [] [] ?_
  refine dr ?_
  refine sq (fun h10 h10p h10s=>?_) fun h10 h10p h10s=>?_
  try simp only[Q] at h10p
  exfalso;simp_all
  try simp only[Q] at h10p
  refine Walk.call (cr:=[]) ziU (hargs) rfl .none rfl rfl (LeL.refl _) trivial rfl rfl rfl ?_
  refine ev ?_
  refine Walk.call (cr:=[]) zd7 (zo7) rfl .none rfl rfl (LeL.refl _) trivial rfl rfl rfl ?_
  refine ev ?_
  refine rn0 (r2 rfl rfl) (.tup (.cons (.eqd ?_) (.cons (.eqd ?_) .nil)))
  rotate_left 2
  try simp only[Q] at h9p
  refine sq (fun h11 h11p h11s=>?_) fun h11 h11p h11s=>?_
  try simp only[Q] at h11p
  refine Walk.sliceLit zbf tz33 rfl (by decide) (ks:=[0,1]) (xs:=[_,_]) rfl rfl (by decide) (by decide) .none rfl rfl rfl rfl ?_
  refine evd [] [] ?_
  refine Walk.call (cr:=[]) zd7 (zfN) rfl .none rfl rfl (LeL.refl _) trivial rfl rfl rfl ?_
  refine evd [] [] ?_
  refine dr ?_
  refine rn0 (r2 rfl rfl) (.tup (.cons (.eqd ?_) (.cons (.eqd ?_) .nil)))
  rotate_left 2
  try simp only[Q] at h11p
  refine sq (fun h12 h12p h12s=>?_) fun h12 h12p h12s=>?_
  try simp only[Q] at h12p
  refine Walk.sliceLit zbf tz33 rfl (by decide) (ks:=[0]) (xs:=[_]) rfl rfl (by decide) (by decide) .none rfl rfl rfl rfl ?_
  refine evd [] [] ?_
  refine Walk.call (cr:=[]) zd7 (zfO) rfl .none rfl rfl (LeL.refl _) trivial rfl rfl rfl ?_
  refine evd [] [] ?_
  refine sq (fun h13 h13p h13s=>?_) fun h13 h13p h13s=>?_
  try simp only[Q] at h13p
  refine Walk.call (cr:=[]) zkU (zeG) rfl (.some rfl rfl h13) rfl rfl (LeL.refl _) trivial rfl rfl rfl ?_
  refine evd [] [(82,true)] ?_ ⟨⟨_,rfl,h13⟩,trivial⟩
  refine dr ?_
  refine rn0 (r2 rfl rfl) (.tup (.cons (.eqd ?_) (.cons (.eqd ?_) .nil)))
  rotate_left 2
  try simp only[Q] at h13p
  refine dr ?_
  refine rn0 (r2 rfl rfl) (.tup (.cons (.eqd ?_) (.cons (.eqd ?_) .nil)))
  rotate_left 2
  try simp only[Q] at h12p
  refine rn0 (r2 rfl rfl) (.tup (.cons (.nild ?_) (.cons (.eqd ?_) .nil)))
  rotate_left 2
  all_goals (first|(refine congrArg D.bool (okI _ ?_);(try simp only[decide_eq_true_eq,Bool.false_eq_true,zar,Bool.and_eq_true,List.length_map,true_iff,false_iff]);omega)|(rw[ty0 (by omega) (by omega) (by omega)];first|done|rfl)|(rw[ty5 (by omega)];first|done|rfl)|(rw[ty6 (by omega)];first|done|rfl)|(rw[ty4' (by omega) hmem];first|done|rfl))
 ·simp only[hmem,and_false,or_false] at okI
  refine bd Tryz.f204 87 [] [5] fun w0 F0 own kept hk=>?_
  refine Walk.box (id:=3004) .none rfl rfl rfl rfl rfl rfl rfl ?_
  refine Walk.box (id:=3005) .none rfl rfl rfl rfl rfl rfl rfl ?_
  refine ev ?_
  refine sq (fun h1 h1p h1s=>?_) fun h1 h1p h1s=>?_
  try simp only[Q] at h1p
  refine Walk.call (cr:=[]) zd7 (zfN) rfl .none rfl rfl (LeL.refl _) trivial rfl rfl rfl ?_
  refine ev ?_
  refine rn0 (r2 rfl rfl) (.tup (.cons (.nild ?_) (.cons (.eqd ?_) .nil)))
  rotate_left 2
  try simp only[Q] at h1p
  refine sq (fun h2 h2p h2s=>?_) fun h2 h2p h2s=>?_
  try simp only[Q] at h2p
  refine CWp.regionJ ?_
  refine WRest.join 7 [(23,.d (.bool (decide ((p.ctor=0∧(p.n=0∧p.m=0)∧(p.kids.length:Int)=0)∧0≤p.var∧p.var≤5))))] [17,18,19,20,21,22] ?_ ?_
  refine ev ?_
  refine Walk.call (cr:=[]) zd7 (zfO) rfl .none rfl rfl (LeL.refl _) trivial rfl rfl rfl ?_
  refine ev ?_
  refine sq (fun h3 h3p h3s=>?_) fun h3 h3p h3s=>?_
  try simp only[Q] at h3p
  refine Walk.call (cr:=[]) zkU (zeG) rfl (.some rfl rfl h3) rfl rfl (LeL.refl _) trivial rfl rfl rfl ?_
  refine evs [] [(19,true)] ?_ ⟨⟨_,rfl,h3⟩,trivial⟩
  exact jn rfl (LeA.eqb (by(rw[Bool.eq_iff_iff];simp only[decide_eq_true_eq,zar,Bool.and_eq_true,Bool.false_eq_true,false_iff,true_iff];omega)))
  try simp only[Q] at h3p
  exact jn rfl (LeA.eqb (by(rw[Bool.eq_iff_iff];simp only[decide_eq_true_eq,zar,Bool.and_eq_true,Bool.false_eq_true,false_iff,true_iff];omega)))
  refine WRest.done ?_
  refine ev ?_
  refine rn0 (r2 rfl rfl) (.tup (.cons (.nild ?_) (.cons (.eqd ?_) .nil)))
  rotate_left 2
  try simp only[Q] at h2p
  refine sq (fun h4 h4p h4s=>?_) fun h4 h4p h4s=>?_
  try simp only[Q] at h4p
  refine sq (fun h5 h5p h5s=>?_) fun h5 h5p h5s=>?_
  try simp only[Q] at h5p
  refine Walk.call (cr:=[]) zd7 (zj8) rfl (.some rfl rfl h5) rfl rfl (LeL.refl _) trivial rfl rfl rfl ?_
  refine evd [] [(29,true)] ?_ ⟨⟨_,rfl,h5⟩,trivial⟩
  refine sq (fun h6 h6p h6s=>?_) fun h6 h6p h6s=>?_
  try simp only[Q] at h6p
  refine sq (fun h7 h7p h7s=>?_) fun h7 h7p h7s=>?_
  try simp only[Q] at h7p
  refine sq (fun h8 h8p h8s=>?_) fun h8 h8p h8s=>?_
  try simp only[Q] at h8p
  refine dr ?_
  refine rn0 (r2 rfl rfl) (.tup (.cons (.nild ?_) (.cons (.eqd ?_) .nil)))
  rotate_left 2
  try simp only[Q] at h8p
  refine dr ?_
  refine rn0 (r2 rfl rfl) (.tup (.cons (.nild ?_) (.cons (.eqd ?_) .nil)))
  rotate_left 2
  try simp only[Q] at h7p
  refine sqF ?_
  refine dr ?_
  refine rn0 (r2 rfl rfl) (.tup (.cons (.nild ?_) (.cons (.eqd ?_) .nil)))
  rotate_left 2
  try simp only[Q] at h6p
  refine sqF ?_
  refine sqF ?_
  refine dr ?_
  refine rn0 (r2 rfl rfl) (.tup (.cons (.nild ?_) (.cons (.eqd ?_) .nil)))
  rotate_left 2
  try simp only[Q] at h5p
  refine sqF ?_
  refine sqF ?_
  refine sqF ?_
  refine dr ?_
  refine rn0 (r2 rfl rfl) (.tup (.cons (.nild ?_) (.cons (.eqd ?_) .nil)))
  rotate_left 2
  try simp only[Q] at h4p
  refine sq (fun h9 h9p h9s=>?_) fun h9 h9p h9s=>?_
  try simp only[Q] at h9p
  refine Walk.call (cr:=[]) zkS (zem hw ht) rfl .none rfl rfl (LeL.refl _) trivial rfl rfl rfl ?_
  refine evd [] [] ?_
  refine Walk.call (cr:=[]) zqu (zeE hcl) rfl .none rfl rfl (LeL.refl _) trivial rfl rfl rfl ?_
  refine evd [] [] ?_
  refine dr ?_
  refine sq (fun h10 h10p h10s=>?_) fun h10 h10p h10s=>?_
  try simp only[Q] at h10p
  refine rn0 (r2 rfl rfl) (.tup (.cons (.nild ?_) (.cons (.eqd ?_) .nil)))
  rotate_left 2
  try simp only[Q] at h10p
  exfalso;simp_all
  try simp only[Q] at h9p
  refine sq (fun h11 h11p h11s=>?_) fun h11 h11p h11s=>?_
  try simp only[Q] at h11p
  refine Walk.sliceLit zbf tz33 rfl (by decide) (ks:=[0,1]) (xs:=[_,_]) rfl rfl (by decide) (by decide) .none rfl rfl rfl rfl ?_
  refine evd [] [] ?_
  refine Walk.call (cr:=[]) zd7 (zfN) rfl .none rfl rfl (LeL.refl _) trivial rfl rfl rfl ?_
  refine evd [] [] ?_
  refine dr ?_
  refine rn0 (r2 rfl rfl) (.tup (.cons (.eqd ?_) (.cons (.eqd ?_) .nil)))
  rotate_left 2
  try simp only[Q] at h11p
  refine sq (fun h12 h12p h12s=>?_) fun h12 h12p h12s=>?_
  try simp only[Q] at h12p
  refine Walk.sliceLit zbf tz33 rfl (by decide) (ks:=[0]) (xs:=[_]) rfl rfl (by decide) (by decide) .none rfl rfl rfl rfl ?_
  refine evd [] [] ?_
  refine Walk.call (cr:=[]) zd7 (zfO) rfl .none rfl rfl (LeL.refl _) trivial rfl rfl rfl ?_
  refine evd [] [] ?_
  refine sq (fun h13 h13p h13s=>?_) fun h13 h13p h13s=>?_
  try simp only[Q] at h13p
  refine Walk.call (cr:=[]) zkU (zeG) rfl (.some rfl rfl h13) rfl rfl (LeL.refl _) trivial rfl rfl rfl ?_
  refine evd [] [(82,true)] ?_ ⟨⟨_,rfl,h13⟩,trivial⟩
  refine dr ?_
  refine rn0 (r2 rfl rfl) (.tup (.cons (.eqd ?_) (.cons (.eqd ?_) .nil)))
  rotate_left 2
  try simp only[Q] at h13p
  refine dr ?_
  refine rn0 (r2 rfl rfl) (.tup (.cons (.eqd ?_) (.cons (.eqd ?_) .nil)))
  rotate_left 2
  try simp only[Q] at h12p
  refine rn0 (r2 rfl rfl) (.tup (.cons (.nild ?_) (.cons (.eqd ?_) .nil)))
  rotate_left 2
  all_goals (first|(refine congrArg D.bool (okI _ ?_);(try simp only[decide_eq_true_eq,Bool.false_eq_true,zar,Bool.and_eq_true,List.length_map,true_iff,false_iff]);omega)|(rw[ty0 (by omega) (by omega) (by omega)];first|done|rfl)|(rw[ty5 (by omega)];first|done|rfl)|(rw[ty6 (by omega)];first|done|rfl)|(rw[ty4 (by omega) hmem];first|done|rfl))
theorem zrd {t u:Vt}:t=u↔t.var=u.var∧t.ty.data=u.ty.data∧t.ty.index=u.ty.index:=by
 rcases t with ⟨a,b,c⟩;rcases u with ⟨d,e,f⟩;simp
def zpU (l:List Vt) (v:Vt):Int:=idxF (fun x=>decide (v=x)) l 0
theorem zjr {l:List Vt}{v:Vt} (h:l.length≤1000000000000):FnD Tryz.prog 206 [.d (zc3 l),.agg [.d (.i v.var),.d (.i v.ty.data),.d (.i v.ty.index)]] [] (.d (.i (zpU l v))) []:=by
 refine bd Tryz.f206 19 [16] [] fun w0 F0 own kept hk=>?_
 refine Walk.box (id:=3003) .none rfl rfl rfl rfl rfl rfl rfl ?_
 refine evs [16] [] ?_
 refine CWp.loopX (ι:=List (Vt)×List (Vt)) hk (fun x=>[(8,.d (.i (x.1.length:Int)))]) [4,5,9,10,11,12,13,14,15,16,17,18] (fun x=>[]) (fun x=>x.1++x.2=l∧idxF (fun x=>decide (v=x)) x.2 x.1.length=idxF (fun x=>decide (v=x)) l 0) (fun x=>x.2.length) ([],l) ⟨by simp,rfl⟩ ⟨⟨_,rfl,(LeA.eqi (by first|rfl|(simp;done)|(simp_all;done)|omega))⟩,trivial⟩ trivial (fun x=>rfl) (fun x hg1=>?_)
 obtain⟨pre,rest⟩:=x
 dsimp only at hg1 ⊢
 refine evc [16] [] ?_
 refine sq (fun h1 h1p h1s=>?_) fun h1 h1p h1s=>?_
 try simp only[Q] at h1p
 rcases rest with _|⟨y,rest⟩
 ·exfalso;simp_all
 refine Walk.idx zdv .none rfl rfl rfl rfl (za0 hg1.1) rfl ?_
 refine evd [16] [] ?_
 refine Walk.eqV2 zt6 .none rfl rfl rfl rfl rfl ?_
 refine dr ?_
 refine sq (fun h2 h2p h2s=>?_) fun h2 h2p h2s=>?_
 try simp only[Q] at h2p
 refine rn0 (r1 rfl) (.eqd ?_)
 rotate_left
 try simp only[Q] at h2p
 refine ar ?_
 refine Exists.intro ((pre++[y],rest)) ⟨⟨(by have hz:=hg1.1;rw[←hz];simp),(by rw[←hg1.2];simp[idxF];simp_all[zrd])⟩,(by simp),Sub.x (by kernel_rfl) (by kernel_rfl) ⟨⟨_,rfl,(LeA.eqi (by first|rfl|(simp;done)|(simp_all;done)|omega))⟩,trivial⟩ (by kernel_rfl) (by kernel_rfl) trivial⟩
 try simp only[Q] at h1p
 have hrest:rest=[]:=by
  rcases rest with _|⟨a,b⟩
  ·rfl
  ·exfalso;have hz:=congrArg List.length (hg1.1);simp only[List.length_append,List.length_cons,List.length_map] at hz;omega
 subst hrest
 refine rn0 (r1 rfl) (.eqd ?_)
 rotate_left
 all_goals (unfold zpU;rw[←hg1.2];simp_all[idxF,zrd])
theorem ze2 {l:List Vt}{v:Vt} (h:l.length≤1000000000000):FnD Tryz.prog 177 [.d (zc3 l),.agg [.d (.i v.var),.d (.i v.ty.data),.d (.i v.ty.index)]] [] (.d (.bool (decide (v∈l)))) []:=by
 refine bd Tryz.f177 9 [] [] fun w0 F0 own kept hk=>?_
 refine Walk.box (id:=3003) .none rfl rfl rfl rfl rfl rfl rfl ?_
 refine ev ?_
 refine Walk.call (cr:=[]) ztl (zjr h) rfl .none rfl rfl (LeL.refl _) trivial rfl rfl rfl ?_
 refine ev ?_
 refine rn0 (r1 rfl) (.eqd ?_)
 rotate_left
 all_goals (refine congrArg D.bool ?_;rw[show zpU l v=idxF (fun x=>decide (v=x)) l 0 from rfl,zeN];simp[List.any_eq,eq_comm])
theorem zhF {xs:List Vt}{f:Nat}{caps:List AV}{hp:Hp}{p:Vt→Bool} (hs:xs.length≤1000000000000) (hcal:Callee Tryz.prog f)
  (hf:∀t∈xs,FnD Tryz.prog f ([.agg [.d (.i t.var),.d (.i t.ty.data),.d (.i t.ty.index)]]++caps) hp (.d (.bool (p t))) []) (k1:subH hp hp) (k2:zeo hp=true) (k3:zat hp [] (.d .nilp) []=true):
  FnD Tryz.prog 227 [.d (zc3 xs),.fn f caps] hp (.d (.i (idxF p xs 0))) []:=by
 refine bd Tryz.f227 19 [] [] fun w0 F0 own kept hk=>?_
 refine CWp.loopX (ι:=List (Vt)×List (Vt)) hk (fun x=>[(8,.d (.i (x.1.length:Int)))]) [4,5,9,10,11,12,13,14,15,16,17,18] (fun x=>[]) (fun x=>x.1++x.2=xs∧idxF p x.2 x.1.length=idxF p xs 0) (fun x=>x.2.length) ([],xs) ⟨by simp,rfl⟩ ⟨⟨_,rfl,(LeA.eqi (by first|rfl|(simp;done)|(simp_all;done)|omega))⟩,trivial⟩ trivial (fun x=>zgi hp) (fun x hg1=>?_)
 obtain⟨pre,rest⟩:=x
 dsimp only at hg1 ⊢
 refine evc [] [] ?_
 refine sq (fun h1 h1p h1s=>?_) fun h1 h1p h1s=>?_
 try simp only[Q] at h1p
 rcases rest with _|⟨y,rest⟩
 ·exfalso;simp_all
 refine Walk.idx zdv .none rfl rfl rfl rfl (za0 hg1.1) rfl ?_
 refine ev ?_
 refine Walk.callV (cr:=[]) hcal (hf y (by rw[←hg1.1];simp)) rfl .none rfl rfl rfl (LeL.refl _) k1 k2 (zc5 k3 _) rfl ?_
 refine tv ?_
 refine sq (fun h2 h2p h2s=>?_) fun h2 h2p h2s=>?_
 try simp only[Q] at h2p
 focus (refine rn [] (r1 rfl) (.eqd ?_) ⟨rfl,rfl⟩ (fun _ _ h=>h) (fun _ h=>h);all_goals (rw[←hg1.2];simp[idxF,h1s,h1p,h2s,h2p]))
 try simp only[Q] at h2p
 refine ar ?_
 refine Exists.intro ((pre++[y],rest)) ⟨⟨(by have hz:=hg1.1;rw[←hz];simp),(by rw[←hg1.2];simp[idxF,h2s])⟩,(by simp),Sub.x (by kernel_rfl) (by kernel_rfl) ⟨⟨_,rfl,(LeA.eqi (by first|rfl|(simp;done)|(simp_all;done)|omega))⟩,trivial⟩ (by simp) (by simp[zdN]) trivial⟩
 try simp only[Q] at h1p
 have hrest:rest=[]:=by
  rcases rest with _|⟨a,b⟩
  ·rfl
  ·exfalso;have hz:=congrArg List.length (hg1.1);simp only[List.length_append,List.length_cons,List.length_map] at hz;omega
 subst hrest
 focus (refine rn [] (r1 rfl) (.eqd ?_) ⟨rfl,rfl⟩ (fun _ _ h=>h) (fun _ h=>h);all_goals (rw[←hg1.2];simp[idxF,h1s,h1p]))
theorem zgv {xs:List Vt}{f:Nat}{caps:List AV}{hp:Hp}{p:Vt→Bool} (hs:xs.length≤1000000000000) (hcal:Callee Tryz.prog f)
  (hf:∀t∈xs,FnD Tryz.prog f ([.agg [.d (.i t.var),.d (.i t.ty.data),.d (.i t.ty.index)]]++caps) hp (.d (.bool (p t))) []) (k1:subH hp hp) (k2:zeo hp=true) (k3:zat hp [] (.d .nilp) []=true):
  FnD Tryz.prog 224 [.d (zc3 xs),.fn f caps] hp (.d (.bool (xs.any p))) []:=by
 refine bd Tryz.f224 9 [] [] fun w0 F0 own kept hk=>?_
 refine Walk.call (cr:=[]) ztp (zhF hs hcal hf k1 k2 k3) rfl .none rfl rfl (LeL.refl _) k1 k2 (zc5 k3 _) rfl ?_
 refine ev ?_
 refine rn [] (r1 rfl) (.eqd ?_) ⟨rfl,rfl⟩ (fun _ _ h=>h) (fun _ h=>h)
 rotate_left
 all_goals (exact congrArg D.bool (zeN p xs 0))
theorem zi8 {b:List Vt}{v:Vt} (h:b.length≤1000000000000):FnD Tryz.prog 225 [.agg [.d (.i v.var),.d (.i v.ty.data),.d (.i v.ty.index)],.ref 3003 0] [(3003,some (.box [.d (zc3 b)]))] (.d (.bool (!decide (v∈b)))) []:=by
 refine bd Tryz.f225 8 [] [] fun w0 F0 own kept hk=>?_
 refine Walk.box (id:=3001) .none rfl rfl rfl rfl rfl rfl rfl ?_
 refine ev ?_
 refine Walk.call (cr:=[]) zqo (ze2 h) rfl .none rfl rfl (LeL.refl _) trivial rfl rfl rfl ?_
 refine ev ?_
 refine rn [] (r1 rfl) (.eqd ?_) ⟨rfl,rfl⟩ (SubH.get ⟨rfl,trivial⟩) (fun _ h=>h)
 rotate_left
 all_goals (rfl)
theorem zgR {x y:List Vt} (hx:x.length≤1000000000000) (hy:y.length≤1000000000000):FnD Tryz.prog 205 [.d (zc3 x),.d (zc3 y)] [] (.d (.bool (zee x y))) []:=by
 refine bd Tryz.f205 16 [] [] fun w0 F0 own kept hk=>?_
 refine Walk.box (id:=3003) .none rfl rfl rfl rfl rfl rfl rfl ?_
 refine ev ?_
 refine sq (fun h1 h1p h1s=>?_) fun h1 h1p h1s=>?_
 try simp only[Q] at h1p
 refine Walk.closure (xs:=[_]) rfl (.some rfl rfl h1) rfl rfl ?_
 refine Walk.call (cr:=[]) ztn (zgv (p:=fun v=> !decide (v∈y)) hx zto (fun t _=>zi8 hy) ⟨rfl,trivial⟩ rfl rfl) rfl (.some rfl rfl h1) rfl rfl (LeL.refl _) ⟨rfl,trivial⟩ rfl rfl rfl ?_
 refine evs [] [(10,true)] ?_ ⟨⟨_,rfl,h1⟩,trivial⟩
 refine rn0 (r1 rfl) (.eqd ?_)
 rotate_left
 try simp only[Q] at h1p
 refine rn0 (r1 rfl) (.eqd ?_)
 rotate_left
 all_goals (refine congrArg D.bool ?_;unfold zee;first|(simp_all;done)|(simp_all;intro hz;omega))
def metA (s:List Int):List AV:=(List.range 6).map fun(i:Nat)=> .d (.bool (decide ((i:Int)∈s)))
theorem zov {s:List Int}{v:Int} (h0:0≤v) (h1:v≤5):(metA s)[v.toNat]?=some (.d (.bool (decide (v∈s)))):=by
 unfold metA
 rw[List.getElem?_map,List.getElem?_range (by omega)]
 simp only[Option.map_some]
 rw[Int.toNat_of_nonneg h0]
theorem zow {s:List Int}{v:Int} (h0:0≤v) (h1:v≤5):putC (metA s) v.toNat [.d (.bool true)]=some (metA (s++[v])):=by
 have e:v=0∨v=1∨v=2∨v=3∨v=4∨v=5:=by omega
 rcases e with rfl|rfl|rfl|rfl|rfl|rfl<;>simp[metA,putC,List.range_succ]
theorem zqR (t:Ty) (p:Pat):(zaJ t p).length≤1:=by unfold zaJ;split<;>simp
theorem znf:∀ {a b:List Int},a.Nodup→(∀x∈a,x∈b)→a.length≤b.length
 | [],b,_,_=>by simp
 |x::r,b,hn,hs=>by
  have hn':=List.nodup_cons.1 hn
  have hx:=hs x (by simp)
  have h:=znf (a:=r) (b:=b.erase x) hn'.2 (fun y hy=>by
   have hne:y≠x:=fun e=>hn'.1 (e ▸ hy)
   exact(List.mem_erase_of_ne hne).2 (hs y (by simp[hy])))
  rw[List.length_erase_of_mem hx] at h
  have:=List.length_pos_of_mem hx
  simp only[List.length_cons];omega
def InR (l:List Vt):Prop:=∀v∈l,0≤v.var∧v.var≤5
theorem zqT {l:List Vt} (h:InR l) (hn:zcT l=true):l.length≤6:=by
 unfold zcT at hn
 have h1:=of_decide_eq_true hn
 have h2:∀x∈l.map Vt.var,x∈[(0:Int),1,2,3,4,5]:=fun x hx=>by
  obtain⟨v,hv,rfl⟩:=List.mem_map.1 hx
  have:=h v hv
  simp only[List.mem_cons,List.not_mem_nil,or_false];omega
 have:=znf h1 h2
 simpa using this
theorem zkC {g:Ty→Pat→Int→Option (List Vt)×Int}{or:Bool} (hg:∀t p c l,(g t p c).1=some l→InR l):∀(a:List Ty) (b:List Pat) (i:Nat) (acc:List Vt) (c:Int) (l:List Vt),InR acc→(zbA g or a b i acc c).1=some l→InR l
 | [],b,i,acc,c,l,ha,h=>by simp only[zbA,Option.some.injEq] at h;subst h;exact ha
 |_::_,[],i,acc,c,l,ha,h=>by simp only[zbA,Option.some.injEq] at h;subst h;exact ha
 |x::r,y::s,i,acc,c,l,ha,h=>by
  simp only[zbA] at h
  cases hh:(g x y c).1 with
  |none=>rw[hh] at h;cases h
  |some m=>
   rw[hh] at h
   simp only at h
   split at h
   ·split at h
    ·exact zkC hg r s (i+1) acc _ l ha h
    ·cases h
   ·refine zkC hg r s (i+1) _ _ l (fun v hv=>?_) h
    rcases List.mem_append.1 hv with hv|hv
    ·exact ha v hv
    ·exact hg x y c m hh v hv
theorem zoL (w:List Data):∀(n:Nat) (t:Ty) (p:Pat) (c:Int) (l:List Vt),(zaV w n t p c).1=some l→InR l∧zcT l=true
 |0,t,p,c,l,h=>by simp[zaV] at h
 |n+1,t,p,c,l,h=>by
  unfold zaV at h
  split at h
  ·cases h
  ·split at h
   ·rename_i h60 ho
    have ho':ownP w t p=true:=by unfold okP at ho;simp only[Bool.and_eq_true] at ho;exact ho.1
    cases hk:(zbA (zaV w n) (decide (p.op=5)) (zag w t p) p.kids 0 (zaJ t p) (c+1)).1 with
    |none=>unfold finV at h;rw[hk] at h;simp only at h;rw[hk] at h;cases h
    |some m=>
     have hi:InR m:=zkC (fun t p c l h=>(zoL w n t p c l h).1) _ _ _ _ _ m (fun v hv=>by
      unfold zaJ at hv
      split at hv
      ·rename_i hop
       simp only[List.mem_cons,List.not_mem_nil,or_false] at hv
       subst hv
       exact zoA ho' hop
      ·simp at hv) hk
     unfold finV at h
     rw[hk] at h
     simp only at h
     split at h
     ·rename_i hn
      rw[hk] at h
      cases h
      exact⟨hi,hn⟩
     ·cases h
   ·cases h
theorem zrA (w:List Data) (n:Nat) (t:Ty) (p:Pat) (c:Int) (h:(zaV w n t p c).1.isSome=true):c+1≤(zaV w n t p c).2∧(zaV w n t p c).2≤60:=by
 have h1:=zfE w n t p c
 by_cases hw:zb5 w n t p c=true
 ·have h2:=h1.2 hw
  simp only[zb5,Bool.and_eq_true,decide_eq_true_eq] at hw
  have:=Pat.size_eq p
  omega
 ·rw[if_neg hw] at h1;rw[h1.1] at h;cases h
def zdw (o:Option (List Vt)):List Vt:=o.getD []
theorem zp1 {g:Ty→Pat→Int→Option (List Vt)×Int}{or:Bool}{a:List Ty}{b:List Pat}{i:Nat}{acc:List Vt}{c:Int} (ha:i<a.length) (hl:b.length=a.length) (h:(g (nth a i) (nth b i) c).1.isSome=false):
  zbA g or (a.drop i) (b.drop i) i acc c=(none,(g (nth a i) (nth b i) c).2):=by
 rw[zbc ha,zbc (l:=b) (by omega),zbA]
 cases hh:(g (nth a i) (nth b i) c).1 with
 |none=>rfl
 |some l=>rw[hh] at h;cases h
theorem zq0 {g:Ty→Pat→Int→Option (List Vt)×Int}{or:Bool}{a:List Ty}{b:List Pat}{i:Nat}{acc:List Vt}{c:Int} (ha:i<a.length) (hl:b.length=a.length) (h:(g (nth a i) (nth b i) c).1.isSome=true) (ho:or=true∧i=1) (hs:zee acc (zdw (g (nth a i) (nth b i) c).1)=false):
  zbA g or (a.drop i) (b.drop i) i acc c=(none,(g (nth a i) (nth b i) c).2):=by
 rw[zbc ha,zbc (l:=b) (by omega),zbA]
 cases hh:(g (nth a i) (nth b i) c).1 with
 |none=>rfl
 |some l=>rw[hh] at hs;simp only[zdw,Option.getD_some] at hs;simp only[if_pos ho,hs,Bool.false_eq_true,if_false]
theorem zp0 {g:Ty→Pat→Int→Option (List Vt)×Int}{or:Bool}{a:List Ty}{b:List Pat}{i:Nat}{acc:List Vt}{c:Int} (ha:i<a.length) (hl:b.length=a.length) (h:(g (nth a i) (nth b i) c).1.isSome=true) (hs:(or=true∧i=1)→zee acc (zdw (g (nth a i) (nth b i) c).1)=true):
  zbA g or (a.drop i) (b.drop i) i acc c=zbA g or (a.drop (i+1)) (b.drop (i+1)) (i+1) (if or=true∧i=1 then acc else acc++zdw (g (nth a i) (nth b i) c).1) (g (nth a i) (nth b i) c).2:=by
 rw[zbc ha,zbc (l:=b) (by omega),zbA]
 cases hh:(g (nth a i) (nth b i) c).1 with
 |none=>rw[hh] at h;cases h
 |some l=>
  by_cases ho:or=true∧i=1
  ·have:=hs ho;rw[hh] at this;simp only[zdw,Option.getD_some] at this
   simp only[if_pos ho,this,if_true]
  ·simp only[if_neg ho,zdw,Option.getD_some]
theorem zq1 {g:Ty→Pat→Int→Option (List Vt)×Int}{or:Bool}{a:List Ty}{b:List Pat}{i:Nat}{acc:List Vt}{c:Int} (ha:a.length≤i):zbA g or (a.drop i) (b.drop i) i acc c=(some acc,c):=by
 rw[List.drop_eq_nil_of_le ha,zbA]
 intro a r b s h;cases h
theorem zdm (w:List Data) (n:Nat) (t:Ty) (p:Pat) (c:Int):InR (zdw (zaV w n t p c).1)∧(zdw (zaV w n t p c).1).length≤6:=by
 cases h:(zaV w n t p c).1 with
 |none=>exact⟨fun v hv=>by simp[zdw] at hv,by simp[zdw]⟩
 |some l=>
  have:=zoL w n t p c l h
  exact⟨this.1,zqT this.1 this.2⟩
structure GoodS (w:List Data) (n:Nat) (t:Ty) (p:Pat) (c:Int) (x:Nat×List Vt×Int):Prop where
 le:x.1≤p.kids.length
 eq:zbA (zaV w n) (decide (p.op=5)) ((zag w t p).drop x.1) (p.kids.drop x.1) x.1 x.2.1 x.2.2=zbA (zaV w n) (decide (p.op=5)) (zag w t p) p.kids 0 (zaJ t p) (c+1)
 lc:(x.1:Int)≤x.2.2
 c0:0≤x.2.2
 c1:x.2.2≤60
 len:x.2.1.length≤1+6*x.1
 inr:InR x.2.1
def za7 (w:List Data) (n:Nat) (t:Ty) (p:Pat) (x:Nat×List Vt×Int):Nat×List Vt×Int:=
 (x.1+1,if decide (p.op=5)=true∧x.1=1 then x.2.1 else x.2.1++zdw (zaV w n (nth (zag w t p) x.1) (nth p.kids x.1) x.2.2).1,(zaV w n (nth (zag w t p) x.1) (nth p.kids x.1) x.2.2).2)
theorem GoodS.next {w:List Data}{n:Nat}{t:Ty}{p:Pat}{c:Int}{x:Nat×List Vt×Int} (hl:p.kids.length=(zag w t p).length) (hg:GoodS w n t p c x) (hlt:x.1<p.kids.length)
  (hz:(zaV w n (nth (zag w t p) x.1) (nth p.kids x.1) x.2.2).1.isSome=true) (hs:(decide (p.op=5)=true∧x.1=1)→zee x.2.1 (zdw (zaV w n (nth (zag w t p) x.1) (nth p.kids x.1) x.2.2).1)=true):
  GoodS w n t p c (za7 w n t p x):=by
 obtain⟨h1,h2,h3,h4,h5,h6,h7⟩:=hg
 have hb:=zrA w n _ _ _ hz
 have ho:=zdm w n (nth (zag w t p) x.1) (nth p.kids x.1) x.2.2
 refine⟨by unfold za7;dsimp only;omega, ?_,by unfold za7;dsimp only;omega,by unfold za7;dsimp only;omega,by unfold za7;dsimp only;omega, ?_, ?_⟩
 ·rw[←h2,zp0 (by omega) hl hz hs];rfl
 ·unfold za7;dsimp only
  split
  ·omega
  ·rw[List.length_append];omega
 ·unfold za7;dsimp only
  split
  ·exact h7
  ·intro v hv
   rcases List.mem_append.1 hv with hv|hv
   ·exact h7 v hv
   ·exact ho.1 v hv
theorem GoodS.none {w:List Data}{n:Nat}{t:Ty}{p:Pat}{c:Int}{x:Nat×List Vt×Int} (hl:p.kids.length=(zag w t p).length) (hg:GoodS w n t p c x) (hlt:x.1<p.kids.length)
  (hz:(zaV w n (nth (zag w t p) x.1) (nth p.kids x.1) x.2.2).1.isSome=false):
  finV (zbA (zaV w n) (decide (p.op=5)) (zag w t p) p.kids 0 (zaJ t p) (c+1))=(none,(zaV w n (nth (zag w t p) x.1) (nth p.kids x.1) x.2.2).2):=by
 rw[←hg.eq,zp1 (by omega) hl hz];rfl
theorem GoodS.bad {w:List Data}{n:Nat}{t:Ty}{p:Pat}{c:Int}{x:Nat×List Vt×Int} (hl:p.kids.length=(zag w t p).length) (hg:GoodS w n t p c x) (hlt:x.1<p.kids.length)
  (hz:(zaV w n (nth (zag w t p) x.1) (nth p.kids x.1) x.2.2).1.isSome=true) (ho:p.op=5∧x.1=1) (hs:zee x.2.1 (zdw (zaV w n (nth (zag w t p) x.1) (nth p.kids x.1) x.2.2).1)=false):
  finV (zbA (zaV w n) (decide (p.op=5)) (zag w t p) p.kids 0 (zaJ t p) (c+1))=(Option.none,(zaV w n (nth (zag w t p) x.1) (nth p.kids x.1) x.2.2).2):=by
 rw[←hg.eq,zq0 (by omega) hl hz (by simpa using ho) hs];rfl
theorem GoodS.fin {w:List Data}{n:Nat}{t:Ty}{p:Pat}{c:Int}{x:Nat×List Vt×Int} (hl:p.kids.length=(zag w t p).length) (hg:GoodS w n t p c x) (hge:p.kids.length≤x.1):
  finV (zbA (zaV w n) (decide (p.op=5)) (zag w t p) p.kids 0 (zaJ t p) (c+1))=(if zcT x.2.1=true then some x.2.1 else Option.none,x.2.2):=by
 rw[←hg.eq,zq1 (by omega)]
 unfold finV
 simp only
 split<;>rfl
theorem zqS {pre rest l:List Vt}{y:Vt} (h:pre++y::rest=l) (hm:y.var∈pre.map Vt.var):zcT l=false:=by
 unfold zcT
 refine decide_eq_false (fun hn=>?_)
 rw[←h,List.map_append,List.map_cons,List.nodup_append] at hn
 exact hn.2.2 _ hm _ (by simp) rfl
theorem zlF {pre:List Vt}{y:Vt} (h:(pre.map Vt.var).Nodup) (hm:y.var∉pre.map Vt.var):((pre++[y]).map Vt.var).Nodup:=by
 rw[List.map_append,List.nodup_append]
 exact⟨h,by simp,fun a ha b hb=>by simp at hb;subst hb;exact fun e=>hm (e ▸ ha)⟩
def retV (r:Option (List Vt)×Int):AV:= .tup [.d (zc3 (zdw r.1)),.d (.bool r.1.isSome)]
theorem zdY {w:List Data} (hw:WT w):∀(n:Nat){a k d c:Int}{p:Pat},d+n=11→n≤10→TyIn w.length ⟨a,k⟩→p.ok→0≤c→c≤1000000000000→
  FnD Tryz.prog 176 [.d (zao w),.agg [.d (.i a),.d (.i k)],.agg [.d (.i p.op),.d (.i p.ctor),.d (.i p.n),.d (.i p.m),.d (.i p.var),.d (zad p.kids)],.d (.i d),.ref 950 0] [(950,some (.box [.d (.i c)]))]
   (retV (zaV w n ⟨a,k⟩ p c)) [(950,some (.box [.d (.i (zaV w n ⟨a,k⟩ p c).2)]))]
 |0,a,k,d,c,p,hd,_,_,_,c0,c1=>by
  refine bd Tryz.f176 114 [] [2] fun w0 F0 own kept hk=>?_
  refine Walk.box (id:=3006) .none rfl rfl rfl rfl rfl rfl rfl ?_
  refine Walk.box (id:=3007) .none rfl rfl rfl rfl rfl rfl rfl ?_
  refine ev ?_
  refine ar ?_
  refine Walk.store ty3 .none rfl rfl rfl rfl rfl rfl (by simp) rfl ?_
  refine tv ?_
  refine CWp.regionJ ?_
  refine WRest.join 8 [(34,.d (.bool (true)))] [27,28,29,30,31,32,33] ?_ ?_
  refine ev ?_
  refine sq (fun h1 h1p h1s=>?_) fun h1 h1p h1s=>?_
  try simp only[Q] at h1p
  exact jnb rfl
  try simp only[Q] at h1p
  exact jnb rfl
  refine WRest.done ?_
  refine tv ?_
  refine sq (fun h2 h2p h2s=>?_) fun h2 h2p h2s=>?_
  try simp only[Q] at h2p
  refine rn [(950,some (.box [.d (.i (zaV w 0 ⟨a,k⟩ p c).2)]))] (r2 rfl rfl) (.tup (.cons (.nild ?_) (.cons (.eqd ?_) .nil))) ⟨rfl,rfl⟩ (SubO.get ⟨.inr ?_,⟨.inl rfl,trivial⟩⟩) (zbj rfl)
  rotate_left 3
  try simp only[Q] at h2p
  exact absurd h2 (by simp)
  all_goals (first|((rfl);done)|(rfl))
 |n+1,a,k,d,c,p,hd,hn,ht,hok,c0,c1=>by
  by_cases h60:60<c+1
  ·have e:zaV w (n+1) ⟨a,k⟩ p c=(none,c+1):=by unfold zaV;rw[if_pos h60]
   rw[e]
   refine bd Tryz.f176 114 [] [2] fun w0 F0 own kept hk=>?_
   refine Walk.box (id:=3006) .none rfl rfl rfl rfl rfl rfl rfl ?_
   refine Walk.box (id:=3007) .none rfl rfl rfl rfl rfl rfl rfl ?_
   refine ev ?_
   refine ar ?_
   refine Walk.store ty3 .none rfl rfl rfl rfl rfl rfl (by simp) rfl ?_
   refine tv ?_
   refine CWp.regionJ ?_
   refine WRest.join 8 [(34,.d (.bool (true)))] [27,28,29,30,31,32,33] ?_ ?_
   refine ev ?_
   refine sq (fun h1 h1p h1s=>?_) fun h1 h1p h1s=>?_
   try simp only[Q] at h1p
   exact jnb rfl
   try simp only[Q] at h1p
   exact jnb rfl
   refine WRest.done ?_
   refine tv ?_
   refine sq (fun h2 h2p h2s=>?_) fun h2 h2p h2s=>?_
   try simp only[Q] at h2p
   refine rn [(950,some (.box [.d (.i (c+1))]))] (r2 rfl rfl) (.tup (.cons (.nild ?_) (.cons (.eqd ?_) .nil))) ⟨rfl,rfl⟩ (SubO.get ⟨.inr ?_,⟨.inl rfl,trivial⟩⟩) (zbj rfl)
   rotate_left 3
   try simp only[Q] at h2p
   exact absurd h2 (by simp)
   all_goals (first|((rfl);done)|(rfl))
  have hsh:=ziB hw (p:=p) ht
  by_cases hop:okP w ⟨a,k⟩ p=true
  ·have hok':=hok
   rw[Pat.ok_iff] at hok
   have hop':=hop
   unfold okP at hop'
   simp only[Bool.and_eq_true,decide_eq_true_eq] at hop'
   obtain⟨ho,hl⟩:=hop'
   have hin:=zf4 hw ht ho
   have hlen:=zgz hw ht (zcC ho)
   have hst:zcU w ⟨a,k⟩ p=zag w ⟨a,k⟩ p:=by unfold zcU;rw[if_neg (fun h=>h.2 (zcC ho h.1))]
   rw[hst,hop] at hsh
   have e:zaV w (n+1) ⟨a,k⟩ p c=finV (zbA (zaV w n) (decide (p.op=5)) (zag w ⟨a,k⟩ p) p.kids 0 (zaJ ⟨a,k⟩ p) (c+1)):=by
    conv=>lhs;unfold zaV
    rw[if_neg h60,if_pos hop]
   have hnr:InR (zaJ ⟨a,k⟩ p):=fun v hv=>by
    unfold zaJ at hv
    split at hv
    ·rename_i hop
     simp only[List.mem_cons,List.not_mem_nil,or_false] at hv
     subst hv
     exact zoA ho hop
    ·simp at hv
   have hnl:=zqR ⟨a,k⟩ p
   rw[e]
   refine bd Tryz.f176 114 [14,108] [2,8,17] fun w0 F0 own kept hk=>?_
   refine Walk.box (id:=3006) .none rfl rfl rfl rfl rfl rfl rfl ?_
   refine Walk.box (id:=3007) .none rfl rfl rfl rfl rfl rfl rfl ?_
   refine evs [14,108] [] ?_
   refine ar ?_
   refine Walk.store ty3 .none rfl rfl rfl rfl rfl rfl (by simp) rfl ?_
   refine tv ?_
   refine CWp.regionJ ?_
   refine WRest.join 8 [(34,.d (.bool (false)))] [27,28,29,30,31,32,33] ?_ ?_
   refine evs [14,108] [] ?_
   refine sq (fun h1 h1p h1s=>?_) fun h1 h1p h1s=>?_
   try simp only[Q,Pat.cs_len] at h1p
   exact jnb rfl
   try simp only[Q,Pat.cs_len] at h1p
   exact jnb rfl
   refine WRest.done ?_
   refine tv ?_
   refine sq (fun h2 h2p h2s=>?_) fun h2 h2p h2s=>?_
   try simp only[Q,Pat.cs_len] at h2p
   exact absurd h2 (by simp)
   try simp only[Q,Pat.cs_len] at h2p
   refine Walk.call (cr:=[]) zn8 (hsh) rfl .none rfl rfl (LeL.refl _) trivial rfl rfl rfl ?_
   refine evs [14,108] [] ?_
   refine sq (fun h3 h3p h3s=>?_) fun h3 h3p h3s=>?_
   try simp only[Q,Pat.cs_len] at h3p
   exact absurd h3 (by simp)
   try simp only[Q,Pat.cs_len] at h3p
   refine Walk.assignNil 5 3 .none rfl rfl ?_
   refine tv ?_
   refine CWp.regionJ ?_
   refine WRest.join 8 [(51,.d (.bool (decide (p.op=2∨p.op=6))))] [44,45,46,47,48,49,50] ?_ ?_
   refine evs [14,108] [] ?_
   refine sq (fun h4 h4p h4s=>?_) fun h4 h4p h4s=>?_
   try simp only[Q,Pat.cs_len] at h4p
   exact jnb rfl
   try simp only[Q,Pat.cs_len] at h4p
   exact jnb rfl
   refine WRest.done ?_
   refine tv ?_
   refine sq (fun h5 h5p h5s=>?_) fun h5 h5p h5s=>?_
   try simp only[Q,Pat.cs_len] at h5p
   refine Walk.build zp4 (ks:=[0,1]) (xs:=[_,_]) rfl rfl .none rfl rfl rfl ?_
   refine Walk.sliceLit zdv znR rfl (by decide) (ks:=[0]) (xs:=[_]) rfl rfl (by decide) (by decide) .none rfl rfl rfl rfl ?_
   refine Walk.append zdv znT rfl .none rfl rfl rfl rfl (zaG rfl (by first|rfl|(simp;done)|(simp;omega))) (by simp) (by first|(simp;done)|(simp;omega)|(have hz:=(zdm w n ⟨(nth (zag w ⟨a,k⟩ p) z.1).data,(nth (zag w ⟨a,k⟩ p) z.1).index⟩ (nth p.kids z.1) z.2.2).2;simp;omega)) (by first|(simp;done)|(simp;omega)|(have hz:=(zdm w n ⟨(nth (zag w ⟨a,k⟩ p) z.1).data,(nth (zag w ⟨a,k⟩ p) z.1).index⟩ (nth p.kids z.1) z.2.2).2;simp;omega)) ?_
   refine asg ?_
   refine tv ?_
   refine CWp.loopX (ι:=Nat×List Vt×Int) hk (fun z=>[(62,.d (.i (z.1:Int))),(14,.gl 5 (z.2.1.map Vt.c))]) [10,11,15,16,17,18,63,64,65,66,67,68,69,70,71,72,73,74,75,76,77,78,79,80,81,82,83,84,85,86,87,88,89,90,91,92,93,94,95,96,97,98] (fun z=>[(950,some (.box [.d (.i z.2.2)])),(5,some (.tok ((z.2.1.map Vt.c)).length 3))]) (fun z=>GoodS w n ⟨a,k⟩ p c z) (fun z=>p.kids.length-z.1) (0,zaJ ⟨a,k⟩ p,c+1) ⟨by simp,by simp,by dsimp only;omega,by dsimp only;omega,by dsimp only;omega,by dsimp only;omega,hnr⟩ ⟨⟨_,rfl,(LeA.eqi (by first|rfl|(simp;done)|(dsimp only;omega)|(simp_all[zaJ];done)|(unfold za7;dsimp only;rw[if_neg (by simp_all)];simp;done)|(unfold za7;dsimp only;rw[if_pos (by simp_all)];done)))⟩,⟨⟨_,rfl,(LeA.glg (by first|rfl|(simp;done)|(dsimp only;omega)|(simp_all[zaJ];done)|(unfold za7;dsimp only;rw[if_neg (by simp_all)];simp;done)|(unfold za7;dsimp only;rw[if_pos (by simp_all)];done)))⟩,trivial⟩⟩ ⟨(by first|rfl|(simp[getH];done)),⟨zae (by first|rfl|(simp;done)|(simp;omega)|(first|rfl|(simp;done)|(dsimp only;omega)|(simp_all[zaJ];done)|(unfold za7;dsimp only;rw[if_neg (by simp_all)];simp;done)|(unfold za7;dsimp only;rw[if_pos (by simp_all)];done))),trivial⟩⟩ (fun x=>rfl) (fun z hg1=>?_)
   obtain⟨s1,_,s3,s4,s5,s6,s7⟩:=id hg1
   refine evc [14,108] [2,8,17] ?_
   refine sq (fun h6 h6p h6s=>?_) fun h6 h6p h6s=>?_
   try simp only[Q,Pat.cs_len] at h6p
   refine Walk.idx sl28 .none rfl rfl rfl rfl (zaK (by omega)) rfl ?_
   refine evs [14,108] [] ?_
   refine Walk.alloc (id:=3016) tz77 rfl .none rfl rfl rfl rfl ?_
   refine evs [14,108] [] ?_
   refine Walk.store ty77 .none rfl rfl rfl rfl rfl rfl (by simp) rfl ?_
   refine tv ?_
   refine Walk.idx zbf .none rfl rfl rfl rfl (zay (by omega)) rfl ?_
   refine evd [14,108] [] ?_
   refine ar ?_
   refine Walk.call (cr:=[]) zn6 (zdY hw n (a:=(nth (zag w ⟨a,k⟩ p) z.1).data) (k:=(nth (zag w ⟨a,k⟩ p) z.1).index) (c:=z.2.2) (p:=nth p.kids z.1) (by omega) (by omega) (hin _ (zal (by omega))) (Pats.ok_mem hok.2 _ (zal (by omega))) (by omega) (by omega)) rfl .none rfl rfl (LeL.refl _) ⟨rfl,trivial⟩ rfl rfl rfl ?_
   refine evd [14,108] [] ?_
   refine dr ?_
   refine sq (fun h7 h7p h7s=>?_) fun h7 h7p h7s=>?_
   try simp only[Q,Pat.cs_len] at h7p
   refine rn [(950,some (.box [.d (.i (finV (zbA (zaV w n) (decide (p.op=5)) (zag w ⟨a,k⟩ p) p.kids 0 (zaJ ⟨a,k⟩ p) (c+1))).2)]))] (r2 rfl rfl) (.tup (.cons (.nild ?_) (.cons (.eqd ?_) .nil))) ⟨rfl,rfl⟩ (SubO.get ⟨.inr ?_,⟨.inl rfl,trivial⟩⟩) (zbj rfl)
   rotate_left 3
   try simp only[Q,Pat.cs_len] at h7p
   refine CWp.regionJ ?_
   refine WRest.join 7 [(93,.d (.bool (decide (p.op=5∧z.1=1))))] [87,88,89,90,91,92] ?_ ?_
   refine evs [14,108] [] ?_
   refine sq (fun h8 h8p h8s=>?_) fun h8 h8p h8s=>?_
   try simp only[Q,Pat.cs_len] at h8p
   exact jnb rfl
   try simp only[Q,Pat.cs_len] at h8p
   exact jnb rfl
   refine WRest.done ?_
   refine evs [14,108] [] ?_
   refine sq (fun h9 h9p h9s=>?_) fun h9 h9p h9s=>?_
   try simp only[Q,Pat.cs_len] at h9p
   refine Walk.call (cr:=[]) zqt (zgR (by omega) (by have hz:=(zdm w n ⟨(nth (zag w ⟨a,k⟩ p) z.1).data,(nth (zag w ⟨a,k⟩ p) z.1).index⟩ (nth p.kids z.1) z.2.2).2;omega)) rfl .none rfl rfl (.cons (.gl _ _) (.cons (.refl _) .nil)) trivial rfl rfl rfl ?_
   refine evs [14,108] [] ?_
   refine sq (fun h10 h10p h10s=>?_) fun h10 h10p h10s=>?_
   try simp only[Q,Pat.cs_len] at h10p
   refine rn [(950,some (.box [.d (.i (finV (zbA (zaV w n) (decide (p.op=5)) (zag w ⟨a,k⟩ p) p.kids 0 (zaJ ⟨a,k⟩ p) (c+1))).2)]))] (r2 rfl rfl) (.tup (.cons (.nild ?_) (.cons (.eqd ?_) .nil))) ⟨rfl,rfl⟩ (SubO.get ⟨.inr ?_,⟨.inl rfl,trivial⟩⟩) (zbj rfl)
   rotate_left 3
   try simp only[Q,Pat.cs_len] at h10p
   refine ar ?_
   refine Exists.intro ((za7 w n ⟨a,k⟩ p z)) ⟨(hg1.next hl (by omega) (by simp_all) (fun ho=>by simp_all)),(by unfold za7;dsimp only;omega),Sub.x (by kernel_rfl) (by kernel_rfl) ⟨⟨_,rfl,(LeA.eqi (by first|rfl|(simp;done)|(dsimp only;omega)|(simp_all[zaJ];done)|(unfold za7;dsimp only;rw[if_neg (by simp_all)];simp;done)|(unfold za7;dsimp only;rw[if_pos (by simp_all)];done)))⟩,⟨⟨_,rfl,(LeA.glg (by first|rfl|(simp;done)|(dsimp only;omega)|(simp_all[zaJ];done)|(unfold za7;dsimp only;rw[if_neg (by simp_all)];simp;done)|(unfold za7;dsimp only;rw[if_pos (by simp_all)];done)))⟩,trivial⟩⟩ (by kernel_rfl) (by kernel_rfl) ⟨(by first|rfl|(simp[getH];done)),⟨zae (by first|rfl|(simp;done)|(simp;omega)|(first|rfl|(simp;done)|(dsimp only;omega)|(simp_all[zaJ];done)|(unfold za7;dsimp only;rw[if_neg (by simp_all)];simp;done)|(unfold za7;dsimp only;rw[if_pos (by simp_all)];done))),trivial⟩⟩⟩
   try simp only[Q,Pat.cs_len] at h9p
   refine Walk.append zdv znT rfl .none rfl rfl rfl rfl (zaG rfl (by first|rfl|(simp;done)|(simp;omega))) (by simp) (by first|(simp;done)|(simp;omega)|(have hz:=(zdm w n ⟨(nth (zag w ⟨a,k⟩ p) z.1).data,(nth (zag w ⟨a,k⟩ p) z.1).index⟩ (nth p.kids z.1) z.2.2).2;simp;omega)) (by first|(simp;done)|(simp;omega)|(have hz:=(zdm w n ⟨(nth (zag w ⟨a,k⟩ p) z.1).data,(nth (zag w ⟨a,k⟩ p) z.1).index⟩ (nth p.kids z.1) z.2.2).2;simp;omega)) ?_
   refine asg ?_
   refine tv ?_
   refine ar ?_
   refine Exists.intro ((za7 w n ⟨a,k⟩ p z)) ⟨(hg1.next hl (by omega) (by simp_all) (fun ho=>by simp_all)),(by unfold za7;dsimp only;omega),Sub.x (by kernel_rfl) (by kernel_rfl) ⟨⟨_,rfl,(LeA.eqi (by first|rfl|(simp;done)|(dsimp only;omega)|(simp_all[zaJ];done)|(unfold za7;dsimp only;rw[if_neg (by simp_all)];simp;done)|(unfold za7;dsimp only;rw[if_pos (by simp_all)];done)))⟩,⟨⟨_,rfl,(LeA.glg (by first|rfl|(simp;done)|(dsimp only;omega)|(simp_all[zaJ];done)|(unfold za7;dsimp only;rw[if_neg (by simp_all)];simp;done)|(unfold za7;dsimp only;rw[if_pos (by simp_all)];done)))⟩,trivial⟩⟩ (by kernel_rfl) (by kernel_rfl) ⟨(by first|rfl|(simp[getH];done)),⟨zae (by first|rfl|(simp;done)|(simp;omega)|(first|rfl|(simp;done)|(dsimp only;omega)|(simp_all[zaJ];done)|(unfold za7;dsimp only;rw[if_neg (by simp_all)];simp;done)|(unfold za7;dsimp only;rw[if_pos (by simp_all)];done))),trivial⟩⟩⟩
   try simp only[Q,Pat.cs_len] at h6p
   refine Walk.alloc (id:=3019) zsj rfl .none rfl rfl rfl rfl ?_
   refine tv ?_
   refine CWp.loopX (ι:=List (Vt)×List (Vt)) hk (fun x=>[(101,.d (.i (x.1.length:Int)))]) [10,11,21,102,103,104,105,106,107,108,109,110,111,112] (fun x=>[(3019,some (.box (metA (x.1.map Vt.var))))]) (fun x=>x.1++x.2=z.2.1∧(x.1.map Vt.var).Nodup) (fun x=>x.2.length) ([],z.2.1) ⟨by simp,by simp⟩ ⟨⟨_,rfl,(LeA.eqi (by first|rfl|(simp;done)|(simp_all;done)|omega))⟩,trivial⟩ ⟨(by first|rfl|(simp[getH];done)),trivial⟩ (fun x=>rfl) (fun x hg2=>?_)
   obtain⟨pre,rest⟩:=x
   dsimp only at hg2 ⊢
   refine evc [14,108] [2,8,17] ?_
   refine sq (fun h11 h11p h11s=>?_) fun h11 h11p h11s=>?_
   try simp only[Q,Pat.cs_len] at h11p
   rcases rest with _|⟨y,rest⟩
   ·exfalso;simp_all
   have hy:=s7 y (by rw[←hg2.1];simp)
   refine Walk.idxG zdv .none rfl rfl rfl rfl (za0 hg2.1) rfl ?_
   refine evs [14,108] [] ?_
   refine Walk.alloc (id:=3021) znR rfl .none rfl rfl rfl rfl ?_
   refine Walk.store zsi .none rfl rfl rfl rfl rfl rfl (by simp) rfl ?_
   refine tv ?_
   refine Walk.idxA (i:=y.var.toNat) znI .none rfl rfl rfl (Int.toNat_of_nonneg hy.1).symm (by omega) ?_
   refine Walk.loadB ty4 .none rfl rfl rfl ((by simpa using zov hy.1 hy.2)) ?_
   refine tv ?_
   refine sq (fun h12 h12p h12s=>?_) fun h12 h12p h12s=>?_
   try simp only[Q,Pat.cs_len] at h12p
   refine rn [(950,some (.box [.d (.i (finV (zbA (zaV w n) (decide (p.op=5)) (zag w ⟨a,k⟩ p) p.kids 0 (zaJ ⟨a,k⟩ p) (c+1))).2)]))] (r2 rfl rfl) (.tup (.cons (.nild ?_) (.cons (.eqd ?_) .nil))) ⟨rfl,rfl⟩ (SubO.get ⟨.inr ?_,⟨.inl rfl,trivial⟩⟩) (zbj rfl)
   rotate_left 3
   try simp only[Q,Pat.cs_len] at h12p
   refine Walk.idxA (i:=y.var.toNat) znI .none rfl rfl rfl (Int.toNat_of_nonneg hy.1).symm (by omega) ?_
   refine Walk.store ty4 .none rfl rfl rfl rfl rfl rfl (by simp) ((by simpa using zow hy.1 hy.2)) ?_
   refine tv ?_
   refine ar ?_
   refine Exists.intro ((pre++[y],rest)) ⟨⟨(by have hz:=hg2.1;rw[←hz];simp),(zlF hg2.2 (by simp_all))⟩,(by simp),Sub.x (by kernel_rfl) (by kernel_rfl) ⟨⟨_,rfl,(LeA.eqi (by first|rfl|(simp;done)|(simp_all;done)|omega))⟩,trivial⟩ (by kernel_rfl) (by kernel_rfl) ⟨(by first|rfl|(simp[getH];done)),trivial⟩⟩
   try simp only[Q,Pat.cs_len] at h11p
   have hrest:rest=[]:=by
    rcases rest with _|⟨a,b⟩
    ·rfl
    ·exfalso;have hz:=congrArg List.length (hg2.1);simp only[List.length_append,List.length_cons,List.length_map] at hz;omega
   subst hrest
   refine rn [(950,some (.box [.d (.i (finV (zbA (zaV w n) (decide (p.op=5)) (zag w ⟨a,k⟩ p) p.kids 0 (zaJ ⟨a,k⟩ p) (c+1))).2)]))] (r2 rfl rfl) (.tup (.cons (.gld ?_) (.cons (.eqd ?_) .nil))) ⟨rfl,rfl⟩ (SubO.get ⟨.inr ?_,⟨.inl rfl,trivial⟩⟩) (zbj rfl)
   rotate_left 3
   try simp only[Q,Pat.cs_len] at h5p
   refine CWp.loopX (ι:=Nat×List Vt×Int) hk (fun z=>[(62,.d (.i (z.1:Int))),(14,.gl 5 (z.2.1.map Vt.c))]) [10,11,15,16,17,18,63,64,65,66,67,68,69,70,71,72,73,74,75,76,77,78,79,80,81,82,83,84,85,86,87,88,89,90,91,92,93,94,95,96,97,98] (fun z=>[(950,some (.box [.d (.i z.2.2)])),(5,some (.tok ((z.2.1.map Vt.c)).length 3))]) (fun z=>GoodS w n ⟨a,k⟩ p c z) (fun z=>p.kids.length-z.1) (0,zaJ ⟨a,k⟩ p,c+1) ⟨by simp,by simp,by dsimp only;omega,by dsimp only;omega,by dsimp only;omega,by dsimp only;omega,hnr⟩ ⟨⟨_,rfl,(LeA.eqi (by first|rfl|(simp;done)|(dsimp only;omega)|(simp_all[zaJ];done)|(unfold za7;dsimp only;rw[if_neg (by simp_all)];simp;done)|(unfold za7;dsimp only;rw[if_pos (by simp_all)];done)))⟩,⟨⟨_,rfl,(LeA.glg (by first|rfl|(simp;done)|(dsimp only;omega)|(simp_all[zaJ];done)|(unfold za7;dsimp only;rw[if_neg (by simp_all)];simp;done)|(unfold za7;dsimp only;rw[if_pos (by simp_all)];done)))⟩,trivial⟩⟩ ⟨(by first|rfl|(simp[getH];done)),⟨zae (by first|rfl|(simp;done)|(simp;omega)|(first|rfl|(simp;done)|(dsimp only;omega)|(simp_all[zaJ];done)|(unfold za7;dsimp only;rw[if_neg (by simp_all)];simp;done)|(unfold za7;dsimp only;rw[if_pos (by simp_all)];done))),trivial⟩⟩ (fun x=>rfl) (fun z hg1=>?_)
   obtain⟨s1,_,s3,s4,s5,s6,s7⟩:=id hg1
   refine evc [14,108] [2,8,17] ?_
   refine sq (fun h13 h13p h13s=>?_) fun h13 h13p h13s=>?_
   try simp only[Q,Pat.cs_len] at h13p
   refine Walk.idx sl28 .none rfl rfl rfl rfl (zaK (by omega)) rfl ?_
   refine evs [14,108] [] ?_
   refine Walk.alloc (id:=3016) tz77 rfl .none rfl rfl rfl rfl ?_
   refine evs [14,108] [] ?_
   refine Walk.store ty77 .none rfl rfl rfl rfl rfl rfl (by simp) rfl ?_
   refine tv ?_
   refine Walk.idx zbf .none rfl rfl rfl rfl (zay (by omega)) rfl ?_
   refine evd [14,108] [] ?_
   refine ar ?_
   refine Walk.call (cr:=[]) zn6 (zdY hw n (a:=(nth (zag w ⟨a,k⟩ p) z.1).data) (k:=(nth (zag w ⟨a,k⟩ p) z.1).index) (c:=z.2.2) (p:=nth p.kids z.1) (by omega) (by omega) (hin _ (zal (by omega))) (Pats.ok_mem hok.2 _ (zal (by omega))) (by omega) (by omega)) rfl .none rfl rfl (LeL.refl _) ⟨rfl,trivial⟩ rfl rfl rfl ?_
   refine evd [14,108] [] ?_
   refine dr ?_
   refine sq (fun h14 h14p h14s=>?_) fun h14 h14p h14s=>?_
   try simp only[Q,Pat.cs_len] at h14p
   refine rn [(950,some (.box [.d (.i (finV (zbA (zaV w n) (decide (p.op=5)) (zag w ⟨a,k⟩ p) p.kids 0 (zaJ ⟨a,k⟩ p) (c+1))).2)]))] (r2 rfl rfl) (.tup (.cons (.nild ?_) (.cons (.eqd ?_) .nil))) ⟨rfl,rfl⟩ (SubO.get ⟨.inr ?_,⟨.inl rfl,trivial⟩⟩) (zbj rfl)
   rotate_left 3
   try simp only[Q,Pat.cs_len] at h14p
   refine CWp.regionJ ?_
   refine WRest.join 7 [(93,.d (.bool (decide (p.op=5∧z.1=1))))] [87,88,89,90,91,92] ?_ ?_
   refine evs [14,108] [] ?_
   refine sq (fun h15 h15p h15s=>?_) fun h15 h15p h15s=>?_
   try simp only[Q,Pat.cs_len] at h15p
   exact jnb rfl
   try simp only[Q,Pat.cs_len] at h15p
   exact jnb rfl
   refine WRest.done ?_
   refine evs [14,108] [] ?_
   refine sq (fun h16 h16p h16s=>?_) fun h16 h16p h16s=>?_
   try simp only[Q,Pat.cs_len] at h16p
   refine Walk.call (cr:=[]) zqt (zgR (by omega) (by have hz:=(zdm w n ⟨(nth (zag w ⟨a,k⟩ p) z.1).data,(nth (zag w ⟨a,k⟩ p) z.1).index⟩ (nth p.kids z.1) z.2.2).2;omega)) rfl .none rfl rfl (.cons (.gl _ _) (.cons (.refl _) .nil)) trivial rfl rfl rfl ?_
   refine evs [14,108] [] ?_
   refine sq (fun h17 h17p h17s=>?_) fun h17 h17p h17s=>?_
   try simp only[Q,Pat.cs_len] at h17p
   refine rn [(950,some (.box [.d (.i (finV (zbA (zaV w n) (decide (p.op=5)) (zag w ⟨a,k⟩ p) p.kids 0 (zaJ ⟨a,k⟩ p) (c+1))).2)]))] (r2 rfl rfl) (.tup (.cons (.nild ?_) (.cons (.eqd ?_) .nil))) ⟨rfl,rfl⟩ (SubO.get ⟨.inr ?_,⟨.inl rfl,trivial⟩⟩) (zbj rfl)
   rotate_left 3
   try simp only[Q,Pat.cs_len] at h17p
   refine ar ?_
   refine Exists.intro ((za7 w n ⟨a,k⟩ p z)) ⟨(hg1.next hl (by omega) (by simp_all) (fun ho=>by simp_all)),(by unfold za7;dsimp only;omega),Sub.x (by kernel_rfl) (by kernel_rfl) ⟨⟨_,rfl,(LeA.eqi (by first|rfl|(simp;done)|(dsimp only;omega)|(simp_all[zaJ];done)|(unfold za7;dsimp only;rw[if_neg (by simp_all)];simp;done)|(unfold za7;dsimp only;rw[if_pos (by simp_all)];done)))⟩,⟨⟨_,rfl,(LeA.glg (by first|rfl|(simp;done)|(dsimp only;omega)|(simp_all[zaJ];done)|(unfold za7;dsimp only;rw[if_neg (by simp_all)];simp;done)|(unfold za7;dsimp only;rw[if_pos (by simp_all)];done)))⟩,trivial⟩⟩ (by kernel_rfl) (by kernel_rfl) ⟨(by first|rfl|(simp[getH];done)),⟨zae (by first|rfl|(simp;done)|(simp;omega)|(first|rfl|(simp;done)|(dsimp only;omega)|(simp_all[zaJ];done)|(unfold za7;dsimp only;rw[if_neg (by simp_all)];simp;done)|(unfold za7;dsimp only;rw[if_pos (by simp_all)];done))),trivial⟩⟩⟩
   try simp only[Q,Pat.cs_len] at h16p
   refine Walk.append zdv znT rfl .none rfl rfl rfl rfl (zaG rfl (by first|rfl|(simp;done)|(simp;omega))) (by simp) (by first|(simp;done)|(simp;omega)|(have hz:=(zdm w n ⟨(nth (zag w ⟨a,k⟩ p) z.1).data,(nth (zag w ⟨a,k⟩ p) z.1).index⟩ (nth p.kids z.1) z.2.2).2;simp;omega)) (by first|(simp;done)|(simp;omega)|(have hz:=(zdm w n ⟨(nth (zag w ⟨a,k⟩ p) z.1).data,(nth (zag w ⟨a,k⟩ p) z.1).index⟩ (nth p.kids z.1) z.2.2).2;simp;omega)) ?_
   refine asg ?_
   refine tv ?_
   refine ar ?_
   refine Exists.intro ((za7 w n ⟨a,k⟩ p z)) ⟨(hg1.next hl (by omega) (by simp_all) (fun ho=>by simp_all)),(by unfold za7;dsimp only;omega),Sub.x (by kernel_rfl) (by kernel_rfl) ⟨⟨_,rfl,(LeA.eqi (by first|rfl|(simp;done)|(dsimp only;omega)|(simp_all[zaJ];done)|(unfold za7;dsimp only;rw[if_neg (by simp_all)];simp;done)|(unfold za7;dsimp only;rw[if_pos (by simp_all)];done)))⟩,⟨⟨_,rfl,(LeA.glg (by first|rfl|(simp;done)|(dsimp only;omega)|(simp_all[zaJ];done)|(unfold za7;dsimp only;rw[if_neg (by simp_all)];simp;done)|(unfold za7;dsimp only;rw[if_pos (by simp_all)];done)))⟩,trivial⟩⟩ (by kernel_rfl) (by kernel_rfl) ⟨(by first|rfl|(simp[getH];done)),⟨zae (by first|rfl|(simp;done)|(simp;omega)|(first|rfl|(simp;done)|(dsimp only;omega)|(simp_all[zaJ];done)|(unfold za7;dsimp only;rw[if_neg (by simp_all)];simp;done)|(unfold za7;dsimp only;rw[if_pos (by simp_all)];done))),trivial⟩⟩⟩
   try simp only[Q,Pat.cs_len] at h13p
   refine Walk.alloc (id:=3019) zsj rfl .none rfl rfl rfl rfl ?_
   refine tv ?_
   refine CWp.loopX (ι:=List (Vt)×List (Vt)) hk (fun x=>[(101,.d (.i (x.1.length:Int)))]) [10,11,21,102,103,104,105,106,107,108,109,110,111,112] (fun x=>[(3019,some (.box (metA (x.1.map Vt.var))))]) (fun x=>x.1++x.2=z.2.1∧(x.1.map Vt.var).Nodup) (fun x=>x.2.length) ([],z.2.1) ⟨by simp,by simp⟩ ⟨⟨_,rfl,(LeA.eqi (by first|rfl|(simp;done)|(simp_all;done)|omega))⟩,trivial⟩ ⟨(by first|rfl|(simp[getH];done)),trivial⟩ (fun x=>rfl) (fun x hg2=>?_)
   obtain⟨pre,rest⟩:=x
   dsimp only at hg2 ⊢
   refine evc [14,108] [2,8,17] ?_
   refine sq (fun h18 h18p h18s=>?_) fun h18 h18p h18s=>?_
   try simp only[Q,Pat.cs_len] at h18p
   rcases rest with _|⟨y,rest⟩
   ·exfalso;simp_all
   have hy:=s7 y (by rw[←hg2.1];simp)
   refine Walk.idxG zdv .none rfl rfl rfl rfl (za0 hg2.1) rfl ?_
   refine evs [14,108] [] ?_
   refine Walk.alloc (id:=3021) znR rfl .none rfl rfl rfl rfl ?_
   refine Walk.store zsi .none rfl rfl rfl rfl rfl rfl (by simp) rfl ?_
   refine tv ?_
   refine Walk.idxA (i:=y.var.toNat) znI .none rfl rfl rfl (Int.toNat_of_nonneg hy.1).symm (by omega) ?_
   refine Walk.loadB ty4 .none rfl rfl rfl ((by simpa using zov hy.1 hy.2)) ?_
   refine tv ?_
   refine sq (fun h19 h19p h19s=>?_) fun h19 h19p h19s=>?_
   try simp only[Q,Pat.cs_len] at h19p
   refine rn [(950,some (.box [.d (.i (finV (zbA (zaV w n) (decide (p.op=5)) (zag w ⟨a,k⟩ p) p.kids 0 (zaJ ⟨a,k⟩ p) (c+1))).2)]))] (r2 rfl rfl) (.tup (.cons (.nild ?_) (.cons (.eqd ?_) .nil))) ⟨rfl,rfl⟩ (SubO.get ⟨.inr ?_,⟨.inl rfl,trivial⟩⟩) (zbj rfl)
   rotate_left 3
   try simp only[Q,Pat.cs_len] at h19p
   refine Walk.idxA (i:=y.var.toNat) znI .none rfl rfl rfl (Int.toNat_of_nonneg hy.1).symm (by omega) ?_
   refine Walk.store ty4 .none rfl rfl rfl rfl rfl rfl (by simp) ((by simpa using zow hy.1 hy.2)) ?_
   refine tv ?_
   refine ar ?_
   refine Exists.intro ((pre++[y],rest)) ⟨⟨(by have hz:=hg2.1;rw[←hz];simp),(zlF hg2.2 (by simp_all))⟩,(by simp),Sub.x (by kernel_rfl) (by kernel_rfl) ⟨⟨_,rfl,(LeA.eqi (by first|rfl|(simp;done)|(simp_all;done)|omega))⟩,trivial⟩ (by kernel_rfl) (by kernel_rfl) ⟨(by first|rfl|(simp[getH];done)),trivial⟩⟩
   try simp only[Q,Pat.cs_len] at h18p
   have hrest:rest=[]:=by
    rcases rest with _|⟨a,b⟩
    ·rfl
    ·exfalso;have hz:=congrArg List.length (hg2.1);simp only[List.length_append,List.length_cons,List.length_map] at hz;omega
   subst hrest
   refine rn [(950,some (.box [.d (.i (finV (zbA (zaV w n) (decide (p.op=5)) (zag w ⟨a,k⟩ p) p.kids 0 (zaJ ⟨a,k⟩ p) (c+1))).2)]))] (r2 rfl rfl) (.tup (.cons (.gld ?_) (.cons (.eqd ?_) .nil))) ⟨rfl,rfl⟩ (SubO.get ⟨.inr ?_,⟨.inl rfl,trivial⟩⟩) (zbj rfl)
   rotate_left 3
   all_goals (first|((first|(rw[hg1.none hl (by omega) (by assumption)];first|done|rfl)|(rw[hg1.bad hl (by omega) (by assumption) (by assumption) (by assumption)];first|done|rfl)|(rw[hg1.fin hl (by omega),if_neg (by rw[zqS hg2.1 (by assumption)];simp)];first|done|rfl)|(rw[hg1.fin hl (by omega),if_pos (by have hz:=hg2.1;rw[List.append_nil] at hz;rw[←hz];exact decide_eq_true hg2.2)];first|done|rfl));done)|(first|(show some (Res.box _)=some (Res.box _);rw[hg1.none hl (by omega) (by assumption)];done)|(show some (Res.box _)=some (Res.box _);rw[hg1.bad hl (by omega) (by assumption) (by assumption) (by assumption)];done)|(show some (Res.box _)=some (Res.box _);rw[hg1.fin hl (by omega)];done)))
  ·have hopf:okP w ⟨a,k⟩ p=false:=by simpa using hop
   have e:zaV w (n+1) ⟨a,k⟩ p c=(none,c+1):=by unfold zaV;rw[if_neg h60,if_neg hop]
   rw[e]
   rw[hopf] at hsh
   refine bd Tryz.f176 114 [] [2] fun w0 F0 own kept hk=>?_
   refine Walk.box (id:=3006) .none rfl rfl rfl rfl rfl rfl rfl ?_
   refine Walk.box (id:=3007) .none rfl rfl rfl rfl rfl rfl rfl ?_
   refine ev ?_
   refine ar ?_
   refine Walk.store ty3 .none rfl rfl rfl rfl rfl rfl (by simp) rfl ?_
   refine tv ?_
   refine CWp.regionJ ?_
   refine WRest.join 8 [(34,.d (.bool (false)))] [27,28,29,30,31,32,33] ?_ ?_
   refine ev ?_
   refine sq (fun h1 h1p h1s=>?_) fun h1 h1p h1s=>?_
   try simp only[Q] at h1p
   exact jnb rfl
   try simp only[Q] at h1p
   exact jnb rfl
   refine WRest.done ?_
   refine tv ?_
   refine sq (fun h2 h2p h2s=>?_) fun h2 h2p h2s=>?_
   try simp only[Q] at h2p
   exact absurd h2 (by simp)
   try simp only[Q] at h2p
   refine Walk.call (cr:=[]) zn8 (hsh) rfl .none rfl rfl (LeL.refl _) trivial rfl rfl rfl ?_
   refine ev ?_
   refine sq (fun h3 h3p h3s=>?_) fun h3 h3p h3s=>?_
   try simp only[Q] at h3p
   refine rn [(950,some (.box [.d (.i (c+1))]))] (r2 rfl rfl) (.tup (.cons (.nild ?_) (.cons (.eqd ?_) .nil))) ⟨rfl,rfl⟩ (SubO.get ⟨.inr ?_,⟨.inl rfl,trivial⟩⟩) (zbj rfl)
   rotate_left 3
   try simp only[Q] at h3p
   exact absurd h3 (by simp)
   all_goals (first|((rfl);done)|(rfl))
end Go.Proofs.YtfiihhedihkdoaaGreat
namespace Go.Proofs.YtfiihhedihkdoaaGreat
open Go
set_option linter.unusedSimpArgs false
set_option linter.unusedVariables false
set_option maxRecDepth 100000
set_option maxHeartbeats 2000000
abbrev dPtr (f:Nat→Nat):D:= .ptr (tabD 16 f) 0
abbrev sPtr (w:List Data) (f:Nat→Nat):D:= .ptr [zao w,dPtr f] 0
theorem zj7 {n:Nat}{f:Nat→Nat}{a k:Int} (h:InS n ⟨a,k⟩) (hn:n≤16):
  FnD Tryz.prog 124 [.ref 71 0,.agg [.d (.i a),.d (.i k)]] [(71,some (.box (tabC 16 f)))] (.d (.i (dv f ⟨a,k⟩))) []:=by
 have hs:=h.facts
 refine bd Tryz.f124 17 [16] [] fun w0 F0 own kept hk=>?_
 refine Walk.box (id:=3003) .none rfl rfl rfl (by first|rfl|(simp only[zak,occH,occE,Res.ids,List.cons_append,List.nil_append,AV.idsL,AV.ids,zab,zaa,zac,zan,List.map_cons,List.map_nil,upC,zaB];rfl)) (by first|rfl|(simp only[zak,occH,occE,Res.ids,List.cons_append,List.nil_append,AV.idsL,AV.ids,zab,zaa,zac,zan,List.map_cons,List.map_nil,upC,zaB];rfl)) (by first|rfl|(simp only[zak,occH,occE,Res.ids,List.cons_append,List.nil_append,AV.idsL,AV.ids,zab,zaa,zac,zan,List.map_cons,List.map_nil,upC,zaB];rfl)) (by first|rfl|(simp only[zak,occH,occE,Res.ids,List.cons_append,List.nil_append,AV.idsL,AV.ids,zab,zaa,zac,zan,List.map_cons,List.map_nil,upC,zaB];rfl)) ?_
 refine evs [16] [] ?_
 refine sq (fun h1 h1p h1s=>?_) fun h1 h1p h1s=>?_
 try simp only[Q] at h1p
 refine rn [] (r1 rfl) (.eqd ?_) ⟨rfl,rfl⟩ (SubH.get ⟨rfl,trivial⟩) (fun _ h=>h)
 rotate_left
 try simp only[Q] at h1p
 refine Walk.idxA (i:=a.toNat) znH .none rfl rfl rfl (by have:=hs h1p;omega) (by have:=hs h1p;omega) ?_
 refine Walk.idxA (i:=k.toNat) zpI .none rfl rfl rfl (by have:=hs h1p;omega) (by have:=hs h1p;omega) ?_
 refine Walk.loadB ty3 .none rfl rfl rfl ((zjS (s:=zcX ⟨a,k⟩) (by have:=hs h1p;omega) (by have:=hs h1p;omega))) ?_
 refine evd [16] [] ?_
 refine dr ?_
 refine rn [] (r1 rfl) (.eqd ?_) ⟨rfl,rfl⟩ (SubH.get ⟨rfl,trivial⟩) (fun _ h=>h)
 rotate_left
 all_goals (first|(rw[zk7 (by assumption)];rfl)|(rw[zk6 (by assumption)]))
theorem zlf {n:Nat}{f:Nat→Nat}{a k:Int} (h:InS n ⟨a,k⟩) (hn:n≤16):
  FnD Tryz.prog 124 [.d (dPtr f),.agg [.d (.i a),.d (.i k)]] [] (.d (.i (dv f ⟨a,k⟩))) []:=by
 have hs:=h.facts
 refine bd Tryz.f124 17 [16] [] fun w0 F0 own kept hk=>?_
 refine Walk.box (id:=3003) .none rfl rfl rfl rfl rfl rfl rfl ?_
 refine evs [16] [] ?_
 refine sq (fun h1 h1p h1s=>?_) fun h1 h1p h1s=>?_
 try simp only[Q] at h1p
 refine rn0 (r1 rfl) (.eqd ?_)
 rotate_left
 try simp only[Q] at h1p
 refine Walk.idxAP (i:=a.toNat) znH .none rfl rfl rfl (by have:=hs h1p;omega) (by have:=hs h1p;omega) ?_
 refine Walk.idxAP (i:=k.toNat) zpI .none rfl rfl rfl (by have:=hs h1p;omega) (by have:=hs h1p;omega) ?_
 refine Walk.loadP ty3 .none rfl rfl (zrF (s:=zcX ⟨a,k⟩) (by have:=hs h1p;omega) (by have:=hs h1p;omega)) ?_
 refine evd [16] [] ?_
 refine dr ?_
 refine rn0 (r1 rfl) (.eqd ?_)
 rotate_left
 all_goals (first|(rw[zk7 (by assumption)];rfl)|(rw[zk6 (by assumption)]))
theorem zle {w:List Data} (hw:WT w){n:Nat}{f:Nat→Nat}{a k c:Int} (ht:TyIn w.length ⟨a,k⟩) (hc:c∈zaA w ⟨a,k⟩) (hn:n≤16) (hb:∀s,f s≤100000) (hin:∀u∈zaj w ⟨a,k⟩ c,InS n u):
  FnD Tryz.prog 123 [.ref 71 0,.d (zao w),.agg [.d (.i a),.d (.i k)],.d (.i c)] [(71,some (.box (tabC 16 f)))] (.d (.i (most w f ⟨a,k⟩ c))) []:=by
 have hl:=ziQ hw ht hc
 have hd:=zsa hb (by omega)
 refine bd Tryz.f123 33 [] [] fun w0 F0 own kept hk=>?_
 refine Walk.box (id:=3006) .none rfl rfl rfl (by first|rfl|(simp only[zak,occH,occE,Res.ids,List.cons_append,List.nil_append,AV.idsL,AV.ids,zab,zaa,zac,zan,List.map_cons,List.map_nil,upC,zaB];rfl)) (by first|rfl|(simp only[zak,occH,occE,Res.ids,List.cons_append,List.nil_append,AV.idsL,AV.ids,zab,zaa,zac,zan,List.map_cons,List.map_nil,upC,zaB];rfl)) (by first|rfl|(simp only[zak,occH,occE,Res.ids,List.cons_append,List.nil_append,AV.idsL,AV.ids,zab,zaa,zac,zan,List.map_cons,List.map_nil,upC,zaB];rfl)) (by first|rfl|(simp only[zak,occH,occE,Res.ids,List.cons_append,List.nil_append,AV.idsL,AV.ids,zab,zaa,zac,zan,List.map_cons,List.map_nil,upC,zaB];rfl)) ?_
 refine ev ?_
 refine Walk.call (cr:=[]) ziU (zde hw ht hc) rfl .none rfl rfl (LeL.refl _) trivial rfl (by first|rfl|(simp only[zat,List.all_cons,List.all_nil,zaE,zaz,AV.idsL,AV.ids,zab,zaa,List.map_cons,List.map_nil,zaB];rfl)) (by first|rfl|(simp only[zak,occH,occE,Res.ids,List.cons_append,List.nil_append,AV.idsL,AV.ids,zab,zaa,zac,zan,List.map_cons,List.map_nil,upC,zaB];rfl)) ?_
 refine ev ?_
 refine CWp.loopX (ι:=List (Ty)×List (Ty)×(Nat)) hk (fun x=>[(18,.d (.i (x.1.length:Int))),(9,.d (.i (x.2.2:Int)))]) [8,11,12,19,20,21,22,23,24,25,26,27,28,29,30] (fun x=>[]) (fun x=>x.1++x.2.1=zaj w ⟨a,k⟩ c∧x.2.2≤100000∧zb9 f x.2.2 x.2.1=zb9 f 0 (zaj w ⟨a,k⟩ c)) (fun x=>x.2.1.length) ([],zaj w ⟨a,k⟩ c,0) ⟨by simp,by simp,rfl⟩ ⟨⟨_,rfl,(LeA.eqi (by first|rfl|(simp;done)|omega|(dsimp only;omega)|(dsimp only;split<;>omega)))⟩,⟨⟨_,rfl,(LeA.eqi (by first|rfl|(simp;done)|omega|(dsimp only;omega)|(dsimp only;split<;>omega)))⟩,trivial⟩⟩ trivial (fun x=>rfl) (fun x hg1=>?_)
 obtain⟨pre,rest,m⟩:=x
 dsimp only at hg1 ⊢
 refine evc [] [] ?_
 refine sq (fun h1 h1p h1s=>?_) fun h1 h1p h1s=>?_
 try simp only[Q] at h1p
 rcases rest with _|⟨y,rest⟩
 ·exfalso;simp_all
 have hdy:=hd y;have hye:dv f ⟨y.data,y.index⟩=dv f y:=rfl
 refine Walk.idx zbf .none rfl rfl rfl rfl (za0 hg1.1) rfl ?_
 refine ev ?_
 refine Walk.alloc (id:=3011) tz33 rfl .none rfl (by first|rfl|(simp only[zak,occH,occE,Res.ids,List.cons_append,List.nil_append,AV.idsL,AV.ids,zab,zaa,zac,zan,List.map_cons,List.map_nil,upC,zaB];rfl)) (by first|rfl|(simp only[zak,occH,occE,Res.ids,List.cons_append,List.nil_append,AV.idsL,AV.ids,zab,zaa,zac,zan,List.map_cons,List.map_nil,upC,zaB];rfl)) (by first|rfl|(simp only[zak,occH,occE,Res.ids,List.cons_append,List.nil_append,AV.idsL,AV.ids,zab,zaa,zac,zan,List.map_cons,List.map_nil,upC,zaB];rfl)) ?_
 refine Walk.store ty33 .none rfl rfl rfl rfl rfl rfl (by simp) rfl ?_
 refine tv ?_
 refine Walk.call (cr:=[]) ziT (zj7 (f:=f) (a:=y.data) (k:=y.index) (hin y (by rw[←hg1.1];simp)) hn) rfl .none rfl rfl (LeL.refl _) ⟨rfl,trivial⟩ rfl (by first|rfl|(simp only[zat,List.all_cons,List.all_nil,zaE,zaz,AV.idsL,AV.ids,zab,zaa,List.map_cons,List.map_nil,zaB];rfl)) (by first|rfl|(simp only[zak,occH,occE,Res.ids,List.cons_append,List.nil_append,AV.idsL,AV.ids,zab,zaa,zac,zan,List.map_cons,List.map_nil,upC,zaB];rfl)) ?_
 refine ev ?_
 refine sq (fun h2 h2p h2s=>?_) fun h2 h2p h2s=>?_
 try simp only[Q] at h2p
 refine rn [] (r1 rfl) (.eqd ?_) ⟨rfl,rfl⟩ (SubH.get ⟨rfl,trivial⟩) (fun _ h=>h)
 rotate_left
 try simp only[Q] at h2p
 refine Walk.maxI .none rfl rfl rfl ?_
 refine ev ?_
 refine ar ?_
 refine Exists.intro ((pre++[y],rest,max m (dv f y))) ⟨⟨(by have hz:=hg1.1;rw[←hz];simp),⟨(by have:=hd y;dsimp only;omega),(by rw[←hg1.2.2];simp only[zb9];rw[if_neg (by have:=hd y;omega)])⟩⟩,(by simp),Sub.x (by kernel_rfl) (by kernel_rfl) ⟨⟨_,rfl,(LeA.eqi (by first|rfl|(simp;done)|omega|(dsimp only;omega)|(dsimp only;split<;>omega)))⟩,⟨⟨_,rfl,(LeA.eqi (by first|rfl|(simp;done)|omega|(dsimp only;omega)|(dsimp only;split<;>omega)))⟩,trivial⟩⟩ (by kernel_rfl) (by kernel_rfl) trivial⟩
 try simp only[Q] at h1p
 have hrest:rest=[]:=by
  rcases rest with _|⟨a,b⟩
  ·rfl
  ·exfalso;have hz:=congrArg List.length (hg1.1);simp only[List.length_append,List.length_cons,List.length_map] at hz;omega
 subst hrest
 refine ar ?_
 refine rn [] (r1 rfl) (.eqd ?_) ⟨rfl,rfl⟩ (SubH.get ⟨rfl,trivial⟩) (fun _ h=>h)
 rotate_left
 all_goals (refine congrArg D.i ?_;unfold most;rw[←hg1.2.2];first|(simp only[zb9];rw[if_pos (by omega)];rfl)|(simp only[zb9];omega))
theorem zh3 {i j:Nat} (h:j<4):tyS (i*4+j)=⟨(i:Int),(j:Int)⟩:=by
 unfold tyS
 rw[show(i*4+j) / 4=i by omega,show(i*4+j) % 4=j by omega]
theorem zpj {w:List Data}{k s:Nat}{pre:List Int}:Bet (zbq w k) (rowT w k s pre):=(znn _ _).trans (zmB _ _)
theorem zjx {w:List Data}{g f:Nat→Nat}{s:Nat}{c:Int} (hB:Bet g f)
  (h:decide ((0:Int)<(most w f (tyS s) c:Int)∧((f s:Int)=0∨(most w f (tyS s) c:Int)<(f s:Int)))=true):Strict g (zbT w s f c):=by
 rw[zed h]
 rw[decide_eq_true_eq] at h
 refine⟨s,by unfold updF;rw[if_pos rfl];omega, ?_⟩
 unfold updF;rw[if_pos rfl]
 rcases Nat.eq_zero_or_pos (g s) with h0|h0
 ·exact .inl h0
 ·have:=hB s h0
  right;omega
theorem zla {w:List Data} (hw:WT w){i j:Nat} (hi:i<w.length) (hj:j<4):FnD Tryz.prog 122 [.d (zao w),.agg [.d (.i (i:Int)),.d (.i (j:Int))]] [] (.d (zcL (zbo w (tyS (i*4+j))))) []:=by
 rw[←ziu,zh3 hj];exact zem hw (.inr ⟨i,rfl,hi⟩)
theorem zlg {w:List Data}{f:Nat→Nat}{i j:Nat} (hi:i<w.length) (h4:w.length≤4) (hj:j<4):
  FnD Tryz.prog 124 [.ref 71 0,.agg [.d (.i (i:Int)),.d (.i (j:Int))]] [(71,some (.box (tabC 16 f)))] (.d (.i (f (i*4+j)))) []:=by
 have h:=zj7 (n:=w.length*4) (f:=f) (a:=(i:Int)) (k:=(j:Int)) (.inr ⟨by simp only[zcX,Int.toNat_natCast];omega,by simp only[zcX,Int.toNat_natCast];exact zh3 hj⟩) (by omega)
 have e:zcX ⟨(i:Int),(j:Int)⟩=i*4+j:=by simp only[zcX,Int.toNat_natCast]
 rwa [zk6 (by omega),e] at h
theorem zmj {w:List Data} (hd:Dp w){f:Nat→Nat}{i j:Nat}{c:Int} (hi:i<w.length) (hj:j<4) (hc:c∈zbo w (tyS (i*4+j))) (hb:∀s,f s≤100000):
  FnD Tryz.prog 123 [.ref 71 0,.d (zao w),.agg [.d (.i (i:Int)),.d (.i (j:Int))],.d (.i c)] [(71,some (.box (tabC 16 f)))] (.d (.i (most w f (tyS (i*4+j)) c))) []:=by
 have h4:=hd.four
 have hcl:=hd.cl (i*4+j) (by omega) c hc
 rw[←ziu,zh3 hj] at hc
 rw[zh3 hj] at hcl ⊢
 exact zle hd.wt (.inr ⟨i,rfl,hi⟩) hc (n:=w.length*4) (by omega) hb hcl
theorem zko {w:List Data} (hd:Dp w):FnD Tryz.prog 70 [.d (zao w)] [] (.d (dPtr (zaZ w))) []:=by
 have hw:=hd.wt
 have hw4:=hd.four
 have hlw:((w.map Data.c).length:Int)=w.length:=by simp
 refine bd Tryz.f70 64 [] [16,20] fun w0 F0 own kept hk=>?_
 refine Walk.buildZ zuc znH .none rfl ?_
 refine Walk.box (id:=71) .none rfl rfl rfl (by first|rfl|(simp only[zak,occH,occE,Res.ids,List.cons_append,List.nil_append,AV.idsL,AV.ids,zab,zaa,zac,zan,List.map_cons,List.map_nil,upC,zaB];rfl)) (by first|rfl|(simp only[zak,occH,occE,Res.ids,List.cons_append,List.nil_append,AV.idsL,AV.ids,zab,zaa,zac,zan,List.map_cons,List.map_nil,upC,zaB];rfl)) (by first|rfl|(simp only[zak,occH,occE,Res.ids,List.cons_append,List.nil_append,AV.idsL,AV.ids,zab,zaa,zac,zan,List.map_cons,List.map_nil,upC,zaB];rfl)) (by first|rfl|(simp only[zak,occH,occE,Res.ids,List.cons_append,List.nil_append,AV.idsL,AV.ids,zab,zaa,zac,zan,List.map_cons,List.map_nil,upC,zaB];rfl)) ?_
 refine ev ?_
 refine CWp.loopX (ι:=Nat×Bool) hk (fun o=>[(4,.d (.bool o.2))]) [5,6,7,9,10,13,14,15,16,17,18,19,20,21,22,23,24,25,26,27,28,29,30,31,32,33,34,35,36,37,38,39,40,41,42,43,44,45,46,47,48,49,50,51,52,53,54,55,56,57,58,59,60,61,62] (fun o=>[(71,some (.box (tabC 16 (zbq w o.1))))]) (fun o=>(o.2=false→zbq w o.1=zaZ w)∧(o.2=true→o.1≤w.length*4+1)) (fun o=>if o.2 then w.length*4+2-o.1 else 0) (0,true) ⟨by simp,by simp⟩ ⟨⟨_,rfl,(LeA.eqb (by first|rfl|(simp;done)|(simp_all;done)|omega))⟩,trivial⟩ ⟨(by first|rfl|(have e:y.1=w.length:=(by omega);rw[e];rfl)),trivial⟩ (fun x=>rfl) (fun o hg1=>?_)
 refine evc [] [16,20] ?_
 refine sq (fun h1 h1p h1s=>?_) fun h1 h1p h1s=>?_
 try simp only[Q] at h1p
 refine CWp.loopX (ι:=Nat×Bool) hk (fun y=>[(16,.d (.i (y.1:Int))),(4,.d (.bool y.2))]) [5,6,7,9,10,17,18,19,20,21,22,23,24,25,26,27,28,29,30,31,32,33,34,35,36,37,38,39,40,41,42,43,44,45,46,47,48,49,50,51,52,53,54,55,56,57,58,59,60,61,62] (fun y=>[(71,some (.box (tabC 16 (midT w o.1 (y.1*4)))))]) (fun y=>y.1≤w.length∧(y.2=false→midT w o.1 (y.1*4)=zbq w o.1)∧(y.2=true→Strict (zbq w o.1) (midT w o.1 (y.1*4)))) (fun y=>w.length-y.1) (0,false) ⟨by simp,fun _=>rfl,by simp⟩ ⟨⟨_,rfl,(LeA.eqi (by first|rfl|(simp;done)|(simp_all;done)|omega))⟩,⟨⟨_,rfl,(LeA.eqb (by first|rfl|(simp;done)|(simp_all;done)|omega))⟩,trivial⟩⟩ ⟨(by first|rfl|(have e:z.1=4:=(by omega);rw[e,←Nat.succ_mul];rfl)),trivial⟩ (fun x=>rfl) (fun y hg2=>?_)
 have ho:=hg1.2 h1s
 refine evc [] [16,20] ?_
 refine sq (fun h2 h2p h2s=>?_) fun h2 h2p h2s=>?_
 try simp only[Q] at h2p
 refine CWp.loopX (ι:=Nat×Bool) hk (fun z=>[(6,.d (.i (z.1:Int))),(4,.d (.bool z.2))]) [7,9,10,19,20,21,22,23,24,25,26,27,28,29,30,31,32,33,34,35,36,37,38,39,40,41,42,43,44,45,46,47,48,49,50,51,52,53,54,55,56,57,58,59,60,61] (fun z=>[(71,some (.box (tabC 16 (midT w o.1 (y.1*4+z.1)))))]) (fun z=>z.1≤4∧(z.2=false→midT w o.1 (y.1*4+z.1)=zbq w o.1)∧(z.2=true→Strict (zbq w o.1) (midT w o.1 (y.1*4+z.1)))) (fun z=>4-z.1) (0,y.2) ⟨by simp,hg2.2⟩ ⟨⟨_,rfl,(LeA.eqi (by first|rfl|(simp;done)|(simp_all;done)|omega))⟩,⟨⟨_,rfl,(LeA.eqb (by first|rfl|(simp;done)|(simp_all;done)|omega))⟩,trivial⟩⟩ ⟨(by first|rfl|(show some (Res.box _)=some (Res.box _);rw[←hg4.1,List.append_nil] at *;done)|(show some (Res.box _)=some (Res.box _);rw[←Nat.add_assoc,←zf0,←hg4.1,List.append_nil])),trivial⟩ (fun x=>rfl) (fun z hg3=>?_)
 refine evc [] [16,20] ?_
 refine sq (fun h3 h3p h3s=>?_) fun h3 h3p h3s=>?_
 try simp only[Q] at h3p
 refine Walk.build st33 (ks:=[0,1]) (xs:=[_,_]) rfl rfl .none rfl rfl rfl ?_
 refine Walk.alloc (id:=3007) tz33 rfl .none rfl (by first|rfl|(simp only[zak,occH,occE,Res.ids,List.cons_append,List.nil_append,AV.idsL,AV.ids,zab,zaa,zac,zan,List.map_cons,List.map_nil,upC,zaB];rfl)) (by first|rfl|(simp only[zak,occH,occE,Res.ids,List.cons_append,List.nil_append,AV.idsL,AV.ids,zab,zaa,zac,zan,List.map_cons,List.map_nil,upC,zaB];rfl)) (by first|rfl|(simp only[zak,occH,occE,Res.ids,List.cons_append,List.nil_append,AV.idsL,AV.ids,zab,zaa,zac,zan,List.map_cons,List.map_nil,upC,zaB];rfl)) ?_
 refine Walk.store ty33 .none rfl rfl rfl rfl rfl rfl (by simp) rfl ?_
 refine tv ?_
 refine Walk.call (cr:=[]) zkS (zla hw (i:=y.1) (j:=z.1) (by omega) (by omega)) rfl .none rfl rfl (LeL.refl _) trivial rfl (by first|rfl|(simp only[zat,List.all_cons,List.all_nil,zaE,zaz,AV.idsL,AV.ids,zab,zaa,List.map_cons,List.map_nil,zaB];rfl)) (by first|rfl|(simp only[zak,occH,occE,Res.ids,List.cons_append,List.nil_append,AV.idsL,AV.ids,zab,zaa,zac,zan,List.map_cons,List.map_nil,upC,zaB];rfl)) ?_
 refine ev ?_
 refine CWp.loopX (ι:=List (Int)×List (Int)×(Bool)) hk (fun x=>[(30,.d (.i (x.1.length:Int))),(4,.d (.bool x.2.2))]) [9,10,31,32,33,34,35,36,37,38,39,40,41,42,43,44,45,46,47,48,49,50,51,52,53,54,55,56,57,58,59,60,61] (fun x=>[(71,some (.box (tabC 16 (rowT w o.1 (y.1*4+z.1) x.1))))]) (fun x=>x.1++x.2.1=zbo w (tyS (y.1*4+z.1))∧(x.2.2=false→rowT w o.1 (y.1*4+z.1) x.1=zbq w o.1)∧(x.2.2=true→Strict (zbq w o.1) (rowT w o.1 (y.1*4+z.1) x.1))) (fun x=>x.2.1.length) ([],zbo w (tyS (y.1*4+z.1)),z.2) ⟨by simp,hg3.2⟩ ⟨⟨_,rfl,(LeA.eqi (by first|rfl|(simp;done)|(rw[h7];rfl)|(rw[h7,Bool.false_or];done)|(rw[h7,Bool.true_or];done)|omega))⟩,⟨⟨_,rfl,(LeA.eqb (by first|rfl|(simp;done)|(rw[h7];rfl)|(rw[h7,Bool.false_or];done)|(rw[h7,Bool.true_or];done)|omega))⟩,trivial⟩⟩ ⟨(by first|rfl|(show some (Res.box _)=some (Res.box _);rw[zdG];first|(rw[zed (by assumption)];done)|(rw[zdF (by assumption)];done))),trivial⟩ (fun x=>rfl) (fun x hg4=>?_)
 obtain⟨pre,rest,b⟩:=x
 dsimp only at hg4 ⊢
 have hct:=hd.ct (y.1*4+z.1) (by omega)
 refine evc [] [16,20] ?_
 refine sq (fun h4 h4p h4s=>?_) fun h4 h4p h4s=>?_
 try simp only[Q] at h4p
 rcases rest with _|⟨c,rest⟩
 ·exfalso;simp_all
 refine Walk.idx zbU .none rfl rfl rfl rfl (za0 hg4.1) rfl ?_
 refine ev ?_
 refine Walk.call (cr:=[]) zsW (zmj hd (f:=rowT w o.1 (y.1*4+z.1) pre) (i:=y.1) (j:=z.1) (c:=c) (by omega) (by omega) (by rw[←hg4.1];simp) (zpz hd (by omega) (by omega) (by have hz:=congrArg List.length hg4.1;simp at hz;omega))) rfl .none rfl rfl (LeL.refl _) ⟨rfl,trivial⟩ rfl (by first|rfl|(simp only[zat,List.all_cons,List.all_nil,zaE,zaz,AV.idsL,AV.ids,zab,zaa,List.map_cons,List.map_nil,zaB];rfl)) (by first|rfl|(simp only[zak,occH,occE,Res.ids,List.cons_append,List.nil_append,AV.idsL,AV.ids,zab,zaa,zac,zan,List.map_cons,List.map_nil,upC,zaB];rfl)) ?_
 refine ev ?_
 refine CWp.regionJ ?_
 refine WRest.join 15 [(53,.d (.bool (decide ((0:Int)<(most w (rowT w o.1 (y.1*4+z.1) pre) (tyS (y.1*4+z.1)) c:Int)∧((rowT w o.1 (y.1*4+z.1) pre (y.1*4+z.1):Int)=0∨(most w (rowT w o.1 (y.1*4+z.1) pre) (tyS (y.1*4+z.1)) c:Int)<(rowT w o.1 (y.1*4+z.1) pre (y.1*4+z.1):Int))))))] [39,40,41,42,43,44,45,46,47,48,49,50,51,52] ?_ ?_
 refine ev ?_
 refine sq (fun h5 h5p h5s=>?_) fun h5 h5p h5s=>?_
 try simp only[Q] at h5p
 refine Walk.call (cr:=[]) ziT (zlg (w:=w) (f:=rowT w o.1 (y.1*4+z.1) pre) (i:=y.1) (j:=z.1) (by omega) hw4 (by omega)) rfl (.some rfl rfl h5) rfl rfl (LeL.refl _) ⟨rfl,trivial⟩ rfl (by first|rfl|(simp only[zat,List.all_cons,List.all_nil,zaE,zaz,AV.idsL,AV.ids,zab,zaa,List.map_cons,List.map_nil,zaB];rfl)) (by first|rfl|(simp only[zak,occH,occE,Res.ids,List.cons_append,List.nil_append,AV.idsL,AV.ids,zab,zaa,zac,zan,List.map_cons,List.map_nil,upC,zaB];rfl)) ?_
 refine evs [] [(41,true)] ?_ ⟨⟨_,rfl,h5⟩,trivial⟩
 refine sq (fun h6 h6p h6s=>?_) fun h6 h6p h6s=>?_
 try simp only[Q] at h6p
 exact jnb rfl
 try simp only[Q] at h6p
 refine Walk.call (cr:=[]) ziT (zlg (w:=w) (f:=rowT w o.1 (y.1*4+z.1) pre) (i:=y.1) (j:=z.1) (by omega) hw4 (by omega)) rfl (.some rfl rfl h6) rfl rfl (LeL.refl _) ⟨rfl,trivial⟩ rfl (by first|rfl|(simp only[zat,List.all_cons,List.all_nil,zaE,zaz,AV.idsL,AV.ids,zab,zaa,List.map_cons,List.map_nil,zaB];rfl)) (by first|rfl|(simp only[zak,occH,occE,Res.ids,List.cons_append,List.nil_append,AV.idsL,AV.ids,zab,zaa,zac,zan,List.map_cons,List.map_nil,upC,zaB];rfl)) ?_
 refine evs [] [(41,true),(46,false)] ?_ ⟨⟨_,rfl,h5⟩,⟨_,rfl,h6⟩,trivial⟩
 exact jnb rfl
 try simp only[Q] at h5p
 exact jnb rfl
 refine WRest.done ?_
 refine tv ?_
 refine sq (fun h7 h7p h7s=>?_) fun h7 h7p h7s=>?_
 try simp only[Q] at h7p
 refine Walk.idxA (i:=y.1) znH .none rfl rfl rfl rfl (by omega) ?_
 refine Walk.idxA (i:=z.1) zpI .none rfl rfl rfl rfl (by omega) ?_
 refine Walk.store ty3 .none rfl rfl rfl rfl rfl rfl (by simp) ((zpE (s:=y.1*4+z.1) (v:=most w (rowT w o.1 (y.1*4+z.1) pre) (tyS (y.1*4+z.1)) c) (by omega) (by omega) rfl)) ?_
 refine ev ?_
 refine ar ?_
 refine Exists.intro ((pre++[c],rest,(decide ((0:Int)<(most w (rowT w o.1 (y.1*4+z.1) pre) (tyS (y.1*4+z.1)) c:Int)∧((rowT w o.1 (y.1*4+z.1) pre (y.1*4+z.1):Int)=0∨(most w (rowT w o.1 (y.1*4+z.1) pre) (tyS (y.1*4+z.1)) c:Int)<(rowT w o.1 (y.1*4+z.1) pre (y.1*4+z.1):Int))))||b)) ⟨⟨(by have hz:=hg4.1;rw[←hz];simp),(by
    dsimp only
    rw[zdG]
    cases hq:decide ((0:Int)<(most w (rowT w o.1 (y.1*4+z.1) pre) (tyS (y.1*4+z.1)) c:Int)∧((rowT w o.1 (y.1*4+z.1) pre (y.1*4+z.1):Int)=0∨(most w (rowT w o.1 (y.1*4+z.1) pre) (tyS (y.1*4+z.1)) c:Int)<(rowT w o.1 (y.1*4+z.1) pre (y.1*4+z.1):Int))) with
    |true=>exact⟨fun h=>by simp at h,fun _=>zjx zpj hq⟩
    |false=>rw[zdF hq];exact hg4.2)⟩,(by simp),Sub.x (by kernel_rfl) (by kernel_rfl) ⟨⟨_,rfl,(LeA.eqi (by first|rfl|(simp;done)|(rw[h7];rfl)|(rw[h7,Bool.false_or];done)|(rw[h7,Bool.true_or];done)|omega))⟩,⟨⟨_,rfl,(LeA.eqb (by first|rfl|(simp;done)|(rw[h7];rfl)|(rw[h7,Bool.false_or];done)|(rw[h7,Bool.true_or];done)|omega))⟩,trivial⟩⟩ (by kernel_rfl) (by kernel_rfl) ⟨(by first|rfl|(show some (Res.box _)=some (Res.box _);rw[zdG];first|(rw[zed (by assumption)];done)|(rw[zdF (by assumption)];done))),trivial⟩⟩
 try simp only[Q] at h7p
 refine ar ?_
 refine Exists.intro ((pre++[c],rest,(decide ((0:Int)<(most w (rowT w o.1 (y.1*4+z.1) pre) (tyS (y.1*4+z.1)) c:Int)∧((rowT w o.1 (y.1*4+z.1) pre (y.1*4+z.1):Int)=0∨(most w (rowT w o.1 (y.1*4+z.1) pre) (tyS (y.1*4+z.1)) c:Int)<(rowT w o.1 (y.1*4+z.1) pre (y.1*4+z.1):Int))))||b)) ⟨⟨(by have hz:=hg4.1;rw[←hz];simp),(by
    dsimp only
    rw[zdG]
    cases hq:decide ((0:Int)<(most w (rowT w o.1 (y.1*4+z.1) pre) (tyS (y.1*4+z.1)) c:Int)∧((rowT w o.1 (y.1*4+z.1) pre (y.1*4+z.1):Int)=0∨(most w (rowT w o.1 (y.1*4+z.1) pre) (tyS (y.1*4+z.1)) c:Int)<(rowT w o.1 (y.1*4+z.1) pre (y.1*4+z.1):Int))) with
    |true=>exact⟨fun h=>by simp at h,fun _=>zjx zpj hq⟩
    |false=>rw[zdF hq];exact hg4.2)⟩,(by simp),Sub.x (by kernel_rfl) (by kernel_rfl) ⟨⟨_,rfl,(LeA.eqi (by first|rfl|(simp;done)|(rw[h7];rfl)|(rw[h7,Bool.false_or];done)|(rw[h7,Bool.true_or];done)|omega))⟩,⟨⟨_,rfl,(LeA.eqb (by first|rfl|(simp;done)|(rw[h7];rfl)|(rw[h7,Bool.false_or];done)|(rw[h7,Bool.true_or];done)|omega))⟩,trivial⟩⟩ (by kernel_rfl) (by kernel_rfl) ⟨(by first|rfl|(show some (Res.box _)=some (Res.box _);rw[zdG];first|(rw[zed (by assumption)];done)|(rw[zdF (by assumption)];done))),trivial⟩⟩
 try simp only[Q] at h4p
 have hrest:rest=[]:=by
  rcases rest with _|⟨a,b⟩
  ·rfl
  ·exfalso;have hz:=congrArg List.length (hg4.1);simp only[List.length_append,List.length_cons,List.length_map] at hz;omega
 subst hrest
 refine ar ?_
 refine Exists.intro ((z.1+1,b)) ⟨(by
    obtain⟨p1,p2⟩:=hg4
    rw[List.append_nil] at p1
    rw[p1,zf0,Nat.add_assoc] at p2
    exact⟨by dsimp only;omega,p2⟩),(by dsimp only;omega),Sub.x (by kernel_rfl) (by kernel_rfl) ⟨⟨_,rfl,(LeA.eqi (by first|rfl|(simp;done)|(simp_all;done)|omega))⟩,⟨⟨_,rfl,(LeA.eqb (by first|rfl|(simp;done)|(simp_all;done)|omega))⟩,trivial⟩⟩ (by kernel_rfl) (by kernel_rfl) ⟨(by first|rfl|(show some (Res.box _)=some (Res.box _);rw[←hg4.1,List.append_nil] at *;done)|(show some (Res.box _)=some (Res.box _);rw[←Nat.add_assoc,←zf0,←hg4.1,List.append_nil])),trivial⟩⟩
 try simp only[Q] at h3p
 refine ar ?_
 refine Exists.intro ((y.1+1,z.2)) ⟨(by
    have e:z.1=4:=by omega
    obtain⟨_,q1,q2⟩:=hg3
    rw[e,←Nat.succ_mul] at q1 q2
    exact⟨by dsimp only;omega,q1,q2⟩),(by dsimp only;omega),Sub.x (by kernel_rfl) (by kernel_rfl) ⟨⟨_,rfl,(LeA.eqi (by first|rfl|(simp;done)|(simp_all;done)|omega))⟩,⟨⟨_,rfl,(LeA.eqb (by first|rfl|(simp;done)|(simp_all;done)|omega))⟩,trivial⟩⟩ (by kernel_rfl) (by kernel_rfl) ⟨(by first|rfl|(have e:z.1=4:=(by omega);rw[e,←Nat.succ_mul];rfl)),trivial⟩⟩
 try simp only[Q] at h2p
 refine Exists.intro ((o.1+1,y.2)) ⟨⟨(fun h=>by
    have e:y.1=w.length:=by omega
    have h1:=hg2.2.1 h
    rw[e] at h1
    have h2:zbq w (o.1+1)=zbq w o.1:=h1
    rw[h2];exact zrp hd.cl h2),(fun h=>by
    have e:y.1=w.length:=by omega
    have h1:=hg2.2.2 h
    rw[e] at h1
    have h3:=hg1.2 h1s
    show o.1+1≤w.length*4+1
    rcases Nat.lt_or_ge o.1 (w.length*4+1) with h4|h4
    ·omega
    ·refine absurd ?_ (Strict.ne h1)
     rw[zmn hd.cl h4]
     exact(zmn hd.cl (k:=o.1+1) (by omega)).symm)⟩,(by have h3:=hg1.2 h1s;rw[h1s];dsimp only;simp only[if_true];split<;>omega),Sub.x (by kernel_rfl) (by kernel_rfl) ⟨⟨_,rfl,(LeA.eqb (by first|rfl|(simp;done)|(simp_all;done)|omega))⟩,trivial⟩ (by kernel_rfl) (by kernel_rfl) ⟨(by first|rfl|(have e:y.1=w.length:=(by omega);rw[e];rfl)),trivial⟩⟩
 try simp only[Q] at h1p
 refine CWp.frzB hk 3 71 0 rfl rfl zrH rfl ?_
 refine evc [] [] ?_
 refine rn0 (r1 rfl) (.eqd ?_)
 rotate_left
 all_goals (rw[hg1.1 h1s])
end Go.Proofs.YtfiihhedihkdoaaGreat
namespace Go.Proofs.YtfiihhedihkdoaaGreat
open Go
set_option linter.unusedSimpArgs false
set_option linter.unusedVariables false
set_option maxRecDepth 100000
set_option maxHeartbeats 4000000
theorem zt9 (w:List Data) (t:Ty) (p:Pat):(zaV w 10 t p 0).1.isSome=isP w t p:=by
 have h:=(zfE w 10 t p 0).1
 rw[h]
 unfold zb5 isP
 rw[Int.zero_add]
 split
 ·rename_i hz;rw[hz];rfl
 ·rename_i hz
  cases hc:(zaw w 10 t p&&(decide ((p.size:Int)≤60)&&linP w 10 t p)) with
  |true=>exact absurd hc hz
  |false=>rfl
theorem zft {w:List Data} (hw:WT w){a k:Int}{p:Pat} (ht:TyIn w.length ⟨a,k⟩) (hok:p.ok):
  FnD Tryz.prog 117 [.d (zao w),.agg [.d (.i a),.d (.i k)],.agg [.d (.i p.op),.d (.i p.ctor),.d (.i p.n),.d (.i p.m),.d (.i p.var),.d (zad p.kids)]] [] (.tup [.d (zc3 (zdw (zaV w 10 ⟨a,k⟩ p 0).1)),.d (.bool (isP w ⟨a,k⟩ p))]) []:=by
 rw[←zt9]
 refine bd Tryz.f117 15 [] [] fun w0 F0 own kept hk=>?_
 refine Walk.box (id:=3004) .none rfl rfl rfl rfl rfl rfl rfl ?_
 refine Walk.box (id:=3005) .none rfl rfl rfl rfl rfl rfl rfl ?_
 refine ev ?_
 refine Walk.alloc (id:=950) tz3 rfl .none rfl rfl rfl rfl ?_
 refine Walk.store ty3 .none rfl rfl rfl rfl rfl rfl (by simp) rfl ?_
 refine tv ?_
 refine Walk.call (cr:=[]) zn6 (zdY hw 10 (c:=0) (by omega) (by omega) ht hok (by omega) (by omega)) rfl .none rfl rfl (LeL.refl _) ⟨rfl,trivial⟩ rfl rfl rfl ?_
 refine ev ?_
 refine rn0 (r2 rfl rfl) (.tup (.cons (.eqd ?_) (.cons (.eqd ?_) .nil)))
 rotate_left 2
 all_goals (rfl)
theorem zjV {w:List Data} (hw:WT w){a k:Int}{p:Pat} (ht:TyIn w.length ⟨a,k⟩) (hok:p.ok):
  FnD Tryz.prog 75 [.d (zao w),.agg [.d (.i a),.d (.i k)],.agg [.d (.i p.op),.d (.i p.ctor),.d (.i p.n),.d (.i p.m),.d (.i p.var),.d (zad p.kids)]] [] (.d (.bool (isP w ⟨a,k⟩ p))) []:=by
 refine bd Tryz.f75 17 [] [] fun w0 F0 own kept hk=>?_
 refine Walk.box (id:=3004) .none rfl rfl rfl rfl rfl rfl rfl ?_
 refine Walk.box (id:=3005) .none rfl rfl rfl rfl rfl rfl rfl ?_
 refine ev ?_
 refine Walk.call (cr:=[]) zqe (zft hw ht hok) rfl .none rfl rfl (LeL.refl _) trivial rfl rfl rfl ?_
 refine ev ?_
 refine rn0 (r1 rfl) (.eqd ?_)
 rotate_left
 all_goals (rfl)
end Go.Proofs.YtfiihhedihkdoaaGreat
namespace Go.Proofs.YtfiihhedihkdoaaGreat
open Go
set_option linter.unusedSimpArgs false
set_option linter.unusedVariables false
set_option maxRecDepth 100000
set_option maxHeartbeats 2000000
theorem zrJ {w:List Data} (hs:WSmall w) (hv:zbb w=true):Dp w:=by
 have hw:=zkL hs hv
 have hW:=(zdD w).1 hv
 refine⟨hw,fun s hs c hc u hu=>?_,hW.len,fun s hs=>?_⟩
 ·obtain⟨j,rfl,hj⟩:=zoE (d:=s / 4) (k:=((s % 4:Nat):Int)) hc
  have hu':u∈zaj w ⟨((s / 4:Nat):Int),((s % 4:Nat):Int)⟩ (j:Int):=hu
  simp only[zaj,Int.toNat_natCast,List.mem_map] at hu'
  obtain⟨x,hx,rfl⟩:=hu'
  have hco:=hW.ctor _ (zal (l:=w) (i:=s / 4) (by omega)) _ (zal hj)
  simp only[zaR,Bool.and_eq_true,Bool.not_eq_true',List.any_eq_false] at hco
  have hax:zbz w.length x=true:=by
   have:=hco.2.2.2 x hx
   cases h:zbz w.length x with
   |true=>rfl
   |false=>rw[h] at this;exact absurd rfl this
  have hci:=hco.2.2.1
  simp only[zbz,zar,Bool.or_eq_true,Bool.and_eq_true,decide_eq_true_eq,and_true] at hax hci
  have key:∀y:Ty,(y.data = -1∨(0≤y.data∧y.data<w.length∧0≤y.index∧y.index≤3))→InS (w.length*4) y:=by
   rintro ⟨a,k⟩ h
   rcases h with h|⟨h1,h2,h3,h4⟩
   ·exact .inl h
   ·refine .inr ⟨?_, ?_⟩
    ·simp only[zcX] at *;omega
    ·obtain⟨i,rfl⟩:=Int.eq_ofNat_of_zero_le h1
     obtain⟨m,rfl⟩:=Int.eq_ofNat_of_zero_le h3
     simp only[zcX,Int.toNat_natCast]
     exact zh3 (by simp only at h4;omega)
  refine key _ ?_
  unfold zbp zbF
  split
  ·dsimp only
   rcases hax with h|h
   ·omega
   ·right
    refine⟨by omega,by omega, ?_⟩
    split<;>omega
  ·rcases hax with h|h
   ·exact .inl h.1
   ·right;omega
 ·have h1:=zf6 (tyS s).index (nth w (tyS s).data.toNat).ctors 0
  have h2:=(hW.data _ (zal (l:=w) (i:=s / 4) (by omega))).2.2
  show(za3 (tyS s).index 0 (nth w (tyS s).data.toNat).ctors).length≤4
  have e:(tyS s).data.toNat=s / 4:=by simp only[tyS,Int.toNat_natCast]
  rw[e] at h1 ⊢
  omega
theorem zcR {n:Nat}{t:Ty} (h:InS (n*4) t):TyIn n t:=by
 rcases h with h|⟨h1,h2⟩
 ·exact .inl h
 ·refine .inr ⟨zcX t / 4, ?_,by omega⟩
  have:=congrArg Ty.data h2
  exact this.symm
theorem zcz {w:List Data} (hd:Dp w){t:Ty}{c:Int} (ht:InS (w.length*4) t) (hc:c∈zaA w t):∀u∈zaj w t c,InS (w.length*4) u:=by
 rcases ht with h|⟨h1,h2⟩
 ·unfold zaA at hc;rw[if_pos h] at hc;simp at hc
 ·have hx:=hd.cl _ h1
  rw[h2] at hx
  have:c∈zbo w t:=by
   unfold zaA at hc
   split at hc
   ·simp at hc
   ·exact hc
  exact hx c this
theorem ziR {w:List Data}{a k k' c:Int}:(zaj w ⟨a,k⟩ c).length=(zaj w ⟨a,k'⟩ c).length∧∀i,(nth (zaj w ⟨a,k⟩ c) i).data=(nth (zaj w ⟨a,k'⟩ c) i).data:=by
 have hd:∀(k:Int) (t:Ty),(zbp k t).data=t.data:=fun k t=>by unfold zbp;split<;>rfl
 refine⟨by simp[zaj],fun i=>?_⟩
 unfold zaj
 dsimp only
 generalize nth (nth w a.toNat).ctors c.toNat=q
 simp only[nth,List.getD_eq_getElem?_getD,List.getElem?_map]
 cases q.args[i]? with
 |none=>rfl
 |some x=>simp only[Option.map_some,Option.getD_some,hd]
structure PKids (w:List Data) (n:Nat) (a k k':Int) (p:Pat):Prop where
 len5:p.op=5→p.kids.length=2
 len6:p.op=6→p.kids.length=1
 len4:p.op=4→p.kids.length=(zaj w ⟨a,k⟩ p.ctor).length
 one:p.op=5∨p.op=6→zaw w n ⟨a,k'⟩ (nth p.kids 0)=true
 two:p.op=5→zaw w n ⟨a,k'⟩ (nth p.kids 1)=true
 arg:p.op=4→∀i,i<(zaj w ⟨a,k⟩ p.ctor).length→zaw w n ⟨(nth (zaj w ⟨a,k⟩ p.ctor) i).data,(nth (zaj w ⟨a,k'⟩ p.ctor) i).index⟩ (nth p.kids i)=true
 mem:p.op=4→p.ctor∈zaA w ⟨a,k'⟩
 ops:p.op=1∨p.op=2∨(p.op=3∧a = -1)∨p.op=4∨p.op=5∨p.op=6
theorem zt8 {w:List Data}{n:Nat}{a k k':Int}{p:Pat} (h:zaw w (n+1) ⟨a,k'⟩ p=true):PKids w n a k k' p:=by
 obtain⟨ho,hl⟩:=zb3 h
 have hk:=fun i (hi:i<p.kids.length)=>zb2 h hi
 have ht4:p.op=4→zag w ⟨a,k'⟩ p=zaj w ⟨a,k'⟩ p.ctor:=fun h=>by unfold zag;rw[if_pos h]
 have ht5:p.op=5→zag w ⟨a,k'⟩ p=[⟨a,k'⟩,⟨a,k'⟩]:=fun h=>by unfold zag;rw[if_neg (by omega),if_pos h]
 have ht6:p.op=6→zag w ⟨a,k'⟩ p=[⟨a,k'⟩]:=fun h=>by unfold zag;rw[if_neg (by omega),if_neg (by omega),if_pos h]
 have l5:p.op=5→p.kids.length=2:=fun h=>by rw[hl,ht5 h];rfl
 have l6:p.op=6→p.kids.length=1:=fun h=>by rw[hl,ht6 h];rfl
 refine⟨l5,l6,fun h=>by rw[hl,ht4 h,ziR.1],fun h=>?_,fun h=>?_,fun h i hi=>?_,zcC ho, ?_⟩
 ·rcases h with h|h
  ·have:=hk 0 (by rw[l5 h];omega);rwa [ht5 h] at this
  ·have:=hk 0 (by rw[l6 h];omega);rwa [ht6 h] at this
 ·have:=hk 1 (by rw[l5 h];omega);rwa [ht5 h] at this
 ·rw[(ziR (k':=k')).1] at hi
  have:=hk i (by rw[hl,ht4 h];exact hi)
  rw[ht4 h] at this
  rw[(ziR (k':=k')).2]
  exact this
 ·unfold ownP at ho
  have:=of_decide_eq_true ho
  obtain⟨_,_,_,_,q⟩:=this
  simp only at q
  omega
theorem zga {w:List Data} (hd:Dp w):FnD Tryz.prog 36 [.d (zao w)] [] (.d (sPtr w (zaZ w))) []:=by
 refine bd Tryz.f36 8 [] [999999] fun w0 F0 own kept hk=>?_
 refine Walk.call (cr:=[]) ztY (zko hd) rfl .none rfl rfl (LeL.refl _) trivial rfl rfl rfl ?_
 refine Walk.build zua (ks:=[0,1]) (xs:=[_,_]) rfl rfl .none rfl rfl rfl ?_
 refine Walk.box (id:=3007) .none rfl rfl rfl rfl rfl rfl rfl ?_
 refine ev ?_
 refine CWp.frzB hk 2 3007 0 rfl rfl rfl rfl ?_
 refine CWp.ret ?_
 focus (refine rn0 (r1 rfl) (.refl _);all_goals (first|rfl|(simp[];done)|(simp_all;done)|(simp_all;omega)|omega))
theorem zdo {w:List Data}{a k:Int} (h:zbH w ⟨a,k⟩=true):zbb w=true∧TyIn w.length ⟨a,k⟩∧(a≠ -1→0≤a∧a.toNat<w.length∧0≤k∧k≤3):=by
 unfold zbH at h
 rw[Bool.and_eq_true] at h
 obtain⟨h1,h2⟩:=h
 simp only[zcK,zar,Bool.or_eq_true,Bool.and_eq_true,decide_eq_true_eq,and_true] at h2
 refine⟨h1, ?_,fun ha=>by omega⟩
 rcases h2 with h|h
 ·exact .inl h.1
 ·exact .inr ⟨a.toNat,by simp only;omega,by omega⟩
theorem zor {n d j:Nat} (hd:d<n) (hj:j<4):InS (n*4) ⟨(d:Int),(j:Int)⟩:=
 .inr ⟨by simp only[zcX,Int.toNat_natCast];omega,by simp only[zcX,Int.toNat_natCast];exact zh3 hj⟩
structure PVal (w:List Data) (a k:Int) (p:Pat):Prop where
 dp:Dp w
 tin:TyIn w.length ⟨a,k⟩
 shape:zaw w 10 ⟨a,k⟩ p=true
 rng:a≠ -1→0≤a∧a.toNat<w.length∧0≤k∧k≤3
theorem zkE {w:List Data}{a b:Int} (hs:WSmall w):FnD Tryz.prog 56 [.d (zao w),.agg [.d (.i a),.d (.i b)]] [] (.d (.bool (zbH w ⟨a,b⟩))) []:=by
 rw[←zsH];exact zj2 hs
def zbi (w:List Data) (f:Nat→Nat):Nat→Ty→Pat→Bool
 |0,_,_=>true
 |n+1,t,p=>
  if p.op=1∨p.op=2 then decide (dv f t=0)
  else if p.op=5 then zbi w f n t (nth p.kids 0)&&zbi w f n t (nth p.kids 1)
  else !(all2 (fun u q=> !zbi w f n u q) (zag w t p) p.kids)
theorem zfM {w:List Data}{f:Nat→Nat}{n:Nat}{t:Ty}{p:Pat}:zbi w f (n+1) t p=if p.op=1∨p.op=2 then decide (dv f t=0)
  else if p.op=5 then zbi w f n t (nth p.kids 0)&&zbi w f n t (nth p.kids 1)
  else !(all2 (fun u q=> !zbi w f n u q) (zag w t p) p.kids):=rfl
theorem zrf {α β:Type} [Inhabited α] [Inhabited β]{f:α→β→Bool}{a:List α}{b:List β} (hl:a.length=b.length) (h:all2 f a b=true):∀i,i<a.length→f (nth a i) (nth b i)=true:=fun i hi=>by
 cases hf:f (nth a i) (nth b i) with
 |true=>rfl
 |false=>rw[zbZ hi hl hf] at h;exact absurd h (by simp)
theorem zrc {w:List Data}{t:Ty}{c:Int} (h:c∈zaA w t):c∈zbo w t:=by
 unfold zaA at h
 split at h
 ·simp at h
 ·exact h
theorem zkq {w:List Data} (hw:WT w){a k:Int}{p:Pat} (ht:TyIn w.length ⟨a,k⟩):
  FnD Tryz.prog 178 [.d (zao w),.agg [.d (.i a),.d (.i k)],.agg [.d (.i p.op),.d (.i p.ctor),.d (.i p.n),.d (.i p.m),.d (.i p.var),.d (zad p.kids)]] [] (.d (zby (zcU w ⟨a,k⟩ p))) []:=by
 have hsh:=ziB hw (p:=p) ht
 refine bd Tryz.f178 17 [] [] fun w0 F0 own kept hk=>?_
 refine Walk.box (id:=3004) .none rfl rfl rfl rfl rfl rfl rfl ?_
 refine Walk.box (id:=3005) .none rfl rfl rfl rfl rfl rfl rfl ?_
 refine ev ?_
 refine Walk.call (cr:=[]) zn8 (hsh) rfl .none rfl rfl (LeL.refl _) trivial rfl rfl rfl ?_
 refine ev ?_
 refine rn0 (r1 rfl) (.eqd ?_)
 rotate_left
 all_goals (rfl)
theorem zcQ {w:List Data} (hd:Dp w){f:Nat→Nat}:∀(n:Nat){a k:Int}{p:Pat},zaw w n ⟨a,k⟩ p=true→InS (w.length*4) ⟨a,k⟩→p.ok→
  FnD Tryz.prog 128 [.d (sPtr w f),.agg [.d (.i a),.d (.i k)],.agg [.d (.i p.op),.d (.i p.ctor),.d (.i p.n),.d (.i p.m),.d (.i p.var),.d (zad p.kids)]] [] (.d (.bool (zbi w f n ⟨a,k⟩ p))) []
 |0,a,k,p,h,_,_=>by simp[zaw] at h
 |n+1,a,k,p,h,hi,hok=>by
  rw[Pat.ok_iff] at hok
  have hw:=hd.wt
  have hw4:=hd.four
  have ht:=zcR hi
  have pk:=zt8 (k:=k) h
  obtain⟨ho,hlen⟩:=zb3 h
  have hkid:=fun i (hi:i<p.kids.length)=>zb2 h hi
  have hops:=pk.ops
  have l5:=pk.len5
  have hk1:=pk.one
  have hk2:=pk.two
  have hsT:zcU w ⟨a,k⟩ p=zag w ⟨a,k⟩ p:=by
   unfold zcU;rw[if_neg (fun h=>h.2 (pk.mem h.1))]
  have hkt:=zkq hw (p:=p) ht
  rw[hsT] at hkt
  have hins:∀i,i<(zag w ⟨a,k⟩ p).length→InS (w.length*4) (nth (zag w ⟨a,k⟩ p) i):=fun i hl=>by
   have hm:=zal hl
   unfold zag at hm ⊢
   split
   ·rename_i h4
    rw[if_pos h4] at hm
    exact zcz hd hi (pk.mem h4) _ hm
   ·rename_i h4
    rw[if_neg h4] at hm
    split
    ·rename_i h5
     rw[if_pos h5] at hm
     simp only[List.mem_cons,List.not_mem_nil,or_false,or_self] at hm
     rw[hm];exact hi
    ·rename_i h5
     rw[if_neg h5] at hm
     split
     ·rename_i h6
      rw[if_pos h6] at hm
      simp only[List.mem_cons,List.not_mem_nil,or_false] at hm
      rw[hm];exact hi
     ·rename_i h6
      rw[if_neg h6] at hm
      simp at hm
  have htl:(zag w ⟨a,k⟩ p).length≤1000000000000:=by have:=hok.1;omega
  refine bd Tryz.f128 61 [] [] fun w0 F0 own kept hk=>?_
  refine Walk.box (id:=3004) .none rfl rfl rfl rfl rfl rfl rfl ?_
  refine Walk.box (id:=3005) .none rfl rfl rfl rfl rfl rfl rfl ?_
  refine ev ?_
  refine sq (fun h1 h1p h1s=>?_) fun h1 h1p h1s=>?_
  try simp only[Q,Pat.cs_len] at h1p
  refine sq (fun h2 h2p h2s=>?_) fun h2 h2p h2s=>?_
  try simp only[Q,Pat.cs_len] at h2p
  refine Walk.call (cr:=[]) ziT (zlf (n:=w.length*4) (f:=f) hi (by omega)) rfl .none rfl rfl (LeL.refl _) trivial rfl rfl rfl ?_
  refine evd [] [] ?_
  refine dr ?_
  refine rn0 (r1 rfl) (.eqd ?_)
  rotate_left
  try simp only[Q,Pat.cs_len] at h2p
  refine sq (fun h3 h3p h3s=>?_) fun h3 h3p h3s=>?_
  try simp only[Q,Pat.cs_len] at h3p
  refine Walk.idx (i:=0) sl28 .none rfl rfl rfl rfl (zaK (by omega)) rfl ?_
  refine evd [] [] ?_
  refine Walk.call (cr:=[]) zgH (zcQ hd n (hk1 (by omega)) hi (Pats.ok_mem hok.2 _ (zal (i:=0) (by omega)))) rfl .none rfl rfl (LeL.refl _) trivial rfl rfl rfl ?_
  refine evd [] [] ?_
  refine sq (fun h4 h4p h4s=>?_) fun h4 h4p h4s=>?_
  try simp only[Q,Pat.cs_len] at h4p
  refine Walk.idx (i:=1) sl28 (.some rfl rfl h4) rfl rfl rfl rfl (zaK (by omega)) rfl ?_
  refine evd [] [(30,true)] ?_ ⟨⟨_,rfl,h4⟩,trivial⟩
  refine Walk.call (cr:=[]) zgH (zcQ hd n (hk2 (by omega)) hi (Pats.ok_mem hok.2 _ (zal (i:=1) (by omega)))) rfl (.some rfl rfl h4) rfl rfl (LeL.refl _) trivial rfl rfl rfl ?_
  refine evd [] [(30,true)] ?_ ⟨⟨_,rfl,h4⟩,trivial⟩
  refine dr ?_
  refine rn0 (r1 rfl) (.eqd ?_)
  rotate_left
  try simp only[Q,Pat.cs_len] at h4p
  refine dr ?_
  refine rn0 (r1 rfl) (.eqd ?_)
  rotate_left
  try simp only[Q,Pat.cs_len] at h3p
  refine Walk.call (cr:=[]) zqp (hkt) rfl .none rfl rfl (LeL.refl _) trivial rfl rfl rfl ?_
  refine evd [] [] ?_
  refine dr ?_
  refine CWp.loopX (ι:=Nat) hk (fun i=>[(47,.d (.i (i:Int)))]) [6,7,8,48,49,50,51,52,53,54,55,56,57,58,59,60] (fun i=>[]) (fun i=>i≤(zag w ⟨a,k⟩ p).length∧∀i',i'<i→zbi w f n (nth (zag w ⟨a,k⟩ p) i') (nth p.kids i')=false) (fun i=>(zag w ⟨a,k⟩ p).length-i) 0 ⟨by omega,fun _ h=>absurd h (by omega)⟩ ⟨⟨_,rfl,(LeA.eqi (by first|rfl|(simp;done)|(simp_all;done)|omega))⟩,trivial⟩ trivial (fun x=>rfl) (fun i hg1=>?_)
  refine evc [] [] ?_
  refine sq (fun h5 h5p h5s=>?_) fun h5 h5p h5s=>?_
  try simp only[Q,Pat.cs_len] at h5p
  refine Walk.idx zbf .none rfl rfl rfl rfl (zay (by omega)) rfl ?_
  refine ev ?_
  refine Walk.alloc (id:=3008) tz33 rfl .none rfl rfl rfl rfl ?_
  refine ev ?_
  refine Walk.store ty33 .none rfl rfl rfl rfl rfl rfl (by simp) rfl ?_
  refine tv ?_
  refine Walk.idx sl28 .none rfl rfl rfl rfl (zaK (by omega)) rfl ?_
  refine evd [] [] ?_
  refine Walk.call (cr:=[]) zgH (zcQ hd n (hkid i (by omega)) (hins i (by omega)) (Pats.ok_mem hok.2 _ (zal (by omega)))) rfl .none rfl rfl (LeL.refl _) trivial rfl rfl rfl ?_
  refine dr ?_
  refine sq (fun h6 h6p h6s=>?_) fun h6 h6p h6s=>?_
  try simp only[Q,Pat.cs_len] at h6p
  refine rn0 (r1 rfl) (.eqd ?_)
  rotate_left
  try simp only[Q,Pat.cs_len] at h6p
  refine ar ?_
  refine Exists.intro (i+1) ⟨⟨by omega,za2 hg1.2 (by assumption)⟩,(by omega),Sub.x (by kernel_rfl) (by kernel_rfl) ⟨⟨_,rfl,(LeA.eqi (by first|rfl|(simp;done)|(simp_all;done)|omega))⟩,trivial⟩ (by kernel_rfl) (by kernel_rfl) trivial⟩
  try simp only[Q,Pat.cs_len] at h5p
  refine rn0 (r1 rfl) (.eqd ?_)
  rotate_left
  try simp only[Q,Pat.cs_len] at h1p
  refine sq (fun h7 h7p h7s=>?_) fun h7 h7p h7s=>?_
  try simp only[Q,Pat.cs_len] at h7p
  refine Walk.call (cr:=[]) ziT (zlf (n:=w.length*4) (f:=f) hi (by omega)) rfl .none rfl rfl (LeL.refl _) trivial rfl rfl rfl ?_
  refine evd [] [] ?_
  refine dr ?_
  refine rn0 (r1 rfl) (.eqd ?_)
  rotate_left
  try simp only[Q,Pat.cs_len] at h7p
  refine sq (fun h8 h8p h8s=>?_) fun h8 h8p h8s=>?_
  try simp only[Q,Pat.cs_len] at h8p
  refine Walk.idx (i:=0) sl28 .none rfl rfl rfl rfl (zaK (by omega)) rfl ?_
  refine evd [] [] ?_
  refine Walk.call (cr:=[]) zgH (zcQ hd n (hk1 (by omega)) hi (Pats.ok_mem hok.2 _ (zal (i:=0) (by omega)))) rfl .none rfl rfl (LeL.refl _) trivial rfl rfl rfl ?_
  refine evd [] [] ?_
  refine sq (fun h9 h9p h9s=>?_) fun h9 h9p h9s=>?_
  try simp only[Q,Pat.cs_len] at h9p
  refine Walk.idx (i:=1) sl28 (.some rfl rfl h9) rfl rfl rfl rfl (zaK (by omega)) rfl ?_
  refine evd [] [(30,true)] ?_ ⟨⟨_,rfl,h9⟩,trivial⟩
  refine Walk.call (cr:=[]) zgH (zcQ hd n (hk2 (by omega)) hi (Pats.ok_mem hok.2 _ (zal (i:=1) (by omega)))) rfl (.some rfl rfl h9) rfl rfl (LeL.refl _) trivial rfl rfl rfl ?_
  refine evd [] [(30,true)] ?_ ⟨⟨_,rfl,h9⟩,trivial⟩
  refine dr ?_
  refine rn0 (r1 rfl) (.eqd ?_)
  rotate_left
  try simp only[Q,Pat.cs_len] at h9p
  refine dr ?_
  refine rn0 (r1 rfl) (.eqd ?_)
  rotate_left
  try simp only[Q,Pat.cs_len] at h8p
  refine Walk.call (cr:=[]) zqp (hkt) rfl .none rfl rfl (LeL.refl _) trivial rfl rfl rfl ?_
  refine evd [] [] ?_
  refine dr ?_
  refine CWp.loopX (ι:=Nat) hk (fun i=>[(47,.d (.i (i:Int)))]) [6,7,8,48,49,50,51,52,53,54,55,56,57,58,59,60] (fun i=>[]) (fun i=>i≤(zag w ⟨a,k⟩ p).length∧∀i',i'<i→zbi w f n (nth (zag w ⟨a,k⟩ p) i') (nth p.kids i')=false) (fun i=>(zag w ⟨a,k⟩ p).length-i) 0 ⟨by omega,fun _ h=>absurd h (by omega)⟩ ⟨⟨_,rfl,(LeA.eqi (by first|rfl|(simp;done)|(simp_all;done)|omega))⟩,trivial⟩ trivial (fun x=>rfl) (fun i hg1=>?_)
  refine evc [] [] ?_
  refine sq (fun h10 h10p h10s=>?_) fun h10 h10p h10s=>?_
  try simp only[Q,Pat.cs_len] at h10p
  refine Walk.idx zbf .none rfl rfl rfl rfl (zay (by omega)) rfl ?_
  refine ev ?_
  refine Walk.alloc (id:=3008) tz33 rfl .none rfl rfl rfl rfl ?_
  refine ev ?_
  refine Walk.store ty33 .none rfl rfl rfl rfl rfl rfl (by simp) rfl ?_
  refine tv ?_
  refine Walk.idx sl28 .none rfl rfl rfl rfl (zaK (by omega)) rfl ?_
  refine evd [] [] ?_
  refine Walk.call (cr:=[]) zgH (zcQ hd n (hkid i (by omega)) (hins i (by omega)) (Pats.ok_mem hok.2 _ (zal (by omega)))) rfl .none rfl rfl (LeL.refl _) trivial rfl rfl rfl ?_
  refine dr ?_
  refine sq (fun h11 h11p h11s=>?_) fun h11 h11p h11s=>?_
  try simp only[Q,Pat.cs_len] at h11p
  refine rn0 (r1 rfl) (.eqd ?_)
  rotate_left
  try simp only[Q,Pat.cs_len] at h11p
  refine ar ?_
  refine Exists.intro (i+1) ⟨⟨by omega,za2 hg1.2 (by assumption)⟩,(by omega),Sub.x (by kernel_rfl) (by kernel_rfl) ⟨⟨_,rfl,(LeA.eqi (by first|rfl|(simp;done)|(simp_all;done)|omega))⟩,trivial⟩ (by kernel_rfl) (by kernel_rfl) trivial⟩
  try simp only[Q,Pat.cs_len] at h10p
  refine rn0 (r1 rfl) (.eqd ?_)
  rotate_left
  all_goals (refine congrArg D.bool ?_;rw[zfM];first|(rw[if_pos (by omega)];exact decide_eq_decide.2 (by omega))|(rw[if_neg (by omega),if_pos (by omega)];first|rfl|(simp_all;done))|(rw[if_neg (by omega),if_neg (by omega)];first|(rw[zbZ (i:=i) (by omega) (by omega) (by show(!_)=false;rw[Bool.not_eq_false'];assumption)];rfl)|(rw[zcv (by omega) (fun x hx=>by have:=hg1.2 x (by omega);simp_all)];rfl)))
mutual
theorem zp8:∀v:Val,zp7 v v=true
 | .mk _ _ ks=>by simp[zp7,zke ks]
theorem zke:∀l:List Val,zl3 l l=true
 | []=>rfl
 |v::r=>by simp[zl3,zp8 v,zke r]
end
theorem Val.c_len (v:Val):v.c.length=3:=by cases v;rfl
theorem Val.cs_rows {l:List Val}:∀x,x∈Val.cs l→x.length=3:=by
 intro x hx
 rw[Val.cs_eq] at hx
 obtain⟨y,_,rfl⟩:=List.mem_map.1 hx
 exact y.c_len
theorem Val.cs_nil (l:List Val):Val.cs l=[]↔l=[]:=by rw[Val.cs_eq];simp
mutual
def mVal:Val→Nat
 | .mk _ _ ks=>zlr ks
def zlr:List Val→Nat
 | []=>0
 |v::r=>1+mVal v+zlr r
end
mutual
def Val.szM:Val→Int
 | .mk _ _ ks=>2+Vals.szM ks
def Vals.szM:List Val→Int
 | []=>0
 |v::r=>v.szM+Vals.szM r
end
mutual
def Val.one (k:Int):Val→Val
 | .mk _ _ ks=> .mk k (k+1) (Vals.one (k+1+1) ks)
def Vals.one (k:Int):List Val→List Val
 | []=>[]
 |v::r=>v.one k::Vals.one (k+v.szM) r
end
theorem Vals.szM_eq:∀l:List Val,Vals.szM l=szL Val.szM l
 | []=>rfl
 |v::r=>by simp only[Vals.szM,szL,Vals.szM_eq r]
theorem Vals.one_eq:∀(l:List Val) (k:Int),Vals.one k l=mkL Val.one Val.szM k l
 | [],_=>rfl
 |v::r,k=>by simp only[Vals.one,mkL,Vals.one_eq r]
theorem Val.szM_kids (v:Val):v.szM=2+szL Val.szM v.kids:=by cases v;simp only[Val.szM,Val.kids,Vals.szM_eq]
theorem Val.one_kids (v:Val) (k:Int):(v.one k).kids=mkL Val.one Val.szM (k+1+1) v.kids:=by cases v;simp only[Val.one,Val.kids,Vals.one_eq]
theorem Val.one_sc (v:Val) (k:Int):(Val.one k v).ctor=k∧(Val.one k v).num=k+1:=by cases v;exact⟨rfl,rfl⟩
mutual
theorem Val.szM_nn:∀v:Val,0≤v.szM
 | .mk _ _ ks=>by have:=Vals.szM_nn ks;simp only[Val.szM];omega
theorem Vals.szM_nn:∀l:List Val,0≤Vals.szM l
 | []=>by simp[Vals.szM]
 |v::r=>by have:=Val.szM_nn v;have:=Vals.szM_nn r;simp only[Vals.szM];omega
end
mutual
theorem Val.szM_le:∀v:Val,v.szM≤2+2*(mVal v:Int)
 | .mk _ _ ks=>by have:=Vals.szM_le ks;simp only[Val.szM,mVal];omega
theorem Vals.szM_le:∀l:List Val,Vals.szM l≤2*(zlr l:Int)
 | []=>by simp[Vals.szM,zlr]
 |v::r=>by have:=Val.szM_le v;have:=Vals.szM_le r;simp only[Vals.szM,zlr];omega
end
def zsd (w:List Data):Nat→Ty→Val→Bool
 |0,_,_=>false
 |n+1,t,v=>if t.data = -1 then decide (v.ctor = -1)&&(decide (0≤v.num)&&(decide (v.num≤9)&&decide (v.kids.length=0)))
   else if v.num=0∧v.ctor∈zbo w t then all2 (zsd w n) (zaj w t v.ctor) v.kids else false
mutual
def cntV (m:Int):Val→Int
 | .mk _ _ ks=>cntL m 1 ks
def cntL (m n:Int):List Val→Int
 | []=>n
 |k::r=>if n≤m then cntL m (n+cntV (m-n) k) r else n
end
theorem zqy {m n:Int}{l:List Val} (h:¬n≤m):cntL m n l=n:=by cases l<;>simp[cntL,h]
mutual
theorem zpo:∀(v:Val) (m:Int),1≤cntV m v∧cntV m v≤v.size
 | .mk _ _ ks,m=>by
  have:=zl9 ks m 1 (by omega)
  simp only[cntV,Val.size];push_cast;omega
theorem zl9:∀(l:List Val) (m n:Int),1≤n→1≤cntL m n l∧cntL m n l≤n+Vals.size l
 | [],m,n,h=>by simp[cntL,Vals.size];omega
 |k::r,m,n,h=>by
  have h1:=zpo k (m-n)
  have h2:=zl9 r m (n+cntV (m-n) k) (by omega)
  simp only[cntL,Vals.size]
  split
  ·push_cast;omega
  ·push_cast;omega
end
mutual
theorem zrk:∀(v:Val) (m:Int),(cntV m v≤m↔(v.size:Int)≤m)∧(cntV m v≤m→cntV m v=v.size)
 | .mk _ _ ks,m=>by
  have:=zn9 ks m 1
  simp only[cntV,Val.size];push_cast;exact this
theorem zn9:∀(l:List Val) (m n:Int),(cntL m n l≤m↔n+(Vals.size l:Int)≤m)∧(cntL m n l≤m→cntL m n l=n+Vals.size l)
 | [],m,n=>by simp[cntL,Vals.size]
 |k::r,m,n=>by
  have h1:=zrk k (m-n)
  have h2:=zn9 r m (n+cntV (m-n) k)
  have h3:=zl9 r m (n+cntV (m-n) k)
  have h4:=zpo k (m-n)
  simp only[cntL,Vals.size]
  push_cast
  by_cases hn:n≤m
  ·rw[if_pos hn]
   by_cases h5:cntV (m-n) k≤m-n
   ·have h6:=h1.2 h5
    rw[h6] at h2 ⊢
    constructor
    ·rw[h2.1];constructor<;>intro h<;>omega
    ·intro h;rw[h2.2 h];omega
   ·have h7:¬(k.size:Int)≤m-n:=fun h=>h5 (h1.1.2 h)
    have h8:¬n+cntV (m-n) k≤m:=by omega
    rw[zqy h8]
    constructor
    ·constructor<;>intro h<;>omega
    ·intro h;omega
  ·rw[if_neg hn]
   constructor
   ·constructor<;>intro h<;>omega
   ·intro h;omega
end
theorem Vals.size_split {pre rest l:List Val}{y:Val} (h:pre++y::rest=l):Vals.size l=Vals.size pre+y.size+Vals.size rest:=by
 subst h
 induction pre with
 |nil=>simp[Vals.size]
 |cons x r ih=>simp only[List.cons_append,Vals.size,ih];omega
structure Bd where
 var:Int
 val:Val
def Bd.c (b:Bd):List D:=[.i b.var,.i b.val.ctor,.i b.val.num,zsx b.val.kids]
instance:Inhabited Bd:=⟨⟨0,default⟩⟩
def BdOk (m:Nat) (l:List Bd):Prop:=∀x∈l,x.val.ok∧x.val.size≤m
theorem BdOk.app {m:Nat}{a b:List Bd} (h1:BdOk m a) (h2:BdOk m b):BdOk m (a++b):=fun x hx=>by
 rcases List.mem_append.1 hx with h|h
 ·exact h1 x h
 ·exact h2 x h
theorem BdOk.mono {m k:Nat}{a:List Bd} (h:BdOk m a) (hk:m≤k):BdOk k a:=fun x hx=>⟨(h x hx).1,Nat.le_trans (h x hx).2 hk⟩
theorem ztG {w:List Data}{t:Ty}{p:Pat} (h:p.op=5):zag w t p=[t,t]:=by unfold zag;rw[if_neg (by omega),if_pos h]
theorem ztH {w:List Data}{t:Ty}{p:Pat} (h:p.op=6):zag w t p=[t]:=by unfold zag;rw[if_neg (by omega),if_neg (by omega),if_pos h]
theorem zbK {w:List Data}{t:Ty}{p:Pat} (h:p.op=4):zag w t p=zaj w t p.ctor:=by unfold zag;rw[if_pos h]
theorem zrB {w:List Data}{n:Nat}{t:Ty}{p:Pat} (h:zaw w (n+1) t p=true):p.op=1∨p.op=2∨p.op=3∨p.op=4∨p.op=5∨p.op=6:=by
 have h1:=(zb3 h).1
 unfold ownP at h1
 have h2:=(of_decide_eq_true h1).2.2.2.2
 omega
theorem zjo {w:List Data}{n:Nat}{t:Ty}{p:Pat} (h:zaw w (n+1) t p=true) (h5:p.op=5):p.kids.length=2∧zaw w n t (nth p.kids 0)=true∧zaw w n t (nth p.kids 1)=true:=by
 have hl:=(zb3 h).2
 have h0:=fun i hi=>zb2 h (i:=i) hi
 rw[ztG h5] at hl h0
 have hl':p.kids.length=2:=hl
 exact⟨hl',h0 0 (by omega),h0 1 (by omega)⟩
theorem zjn {w:List Data}{n:Nat}{t:Ty}{p:Pat} (h:zaw w (n+1) t p=true) (h6:p.op=6):p.kids.length=1∧zaw w n t (nth p.kids 0)=true:=by
 have hl:=(zb3 h).2
 have h0:=fun i hi=>zb2 h (i:=i) hi
 rw[ztH h6] at hl h0
 have hl':p.kids.length=1:=hl
 exact⟨hl',h0 0 (by omega)⟩
inductive Ex where
 |mk (op n ctor:Int) (kids:List Ex)
 deriving Inhabited
mutual
def Ex.c:Ex→List D
 | .mk op n ctor kids=>[.i op,.i n,.i ctor,.sl (Ex.cs kids)]
def Ex.cs:List Ex→List (List D)
 | []=>[]
 |v::r=>v.c::Ex.cs r
end
abbrev ztw (l:List Ex):D:= .sl (Ex.cs l)
theorem Ex.cs_eq:∀l:List Ex,Ex.cs l=l.map Ex.c
 | []=>rfl
 |v::r=>by simp[Ex.cs,Ex.cs_eq r]
theorem Ex.cs_len (l:List Ex):(Ex.cs l).length=l.length:=by simp[Ex.cs_eq]
def Ex.op:Ex→Int | .mk a0 _ _ _=>a0
def Ex.n:Ex→Int | .mk _ a1 _ _=>a1
def Ex.ctor:Ex→Int | .mk _ _ a2 _=>a2
def Ex.kids:Ex→List Ex | .mk _ _ _ k=>k
abbrev Ex.cc (v:Ex):List D:=[.i v.op,.i v.n,.i v.ctor,.sl (Ex.cs v.kids)]
theorem Ex.c_eq (v:Ex):v.c=v.cc:=by cases v;rfl
theorem Ex.eta (v:Ex):Ex.mk v.op v.n v.ctor v.kids=v:=by cases v;rfl
theorem Ex.cs_at' {pre:List Ex}{x:Ex}{rest xs:List Ex} (h:pre++x::rest=xs):(Ex.cs xs)[pre.length]?=some x.cc:=by rw[Ex.cs_eq,←Ex.c_eq];exact za0 h
mutual
def exEq:Ex→Ex→Bool
 | .mk a0 a1 a2 ks,.mk b0 b1 b2 ls=>decide (a0=b0)&&(decide (a1=b1)&&(decide (a2=b2)&&znN ks ls))
def znN:List Ex→List Ex→Bool
 | [],[]=>true
 |x::r,y::s=>exEq x y&&znN r s
 |_,_=>false
end
mutual
def Ex.ok:Ex→Prop
 | .mk _ _ _ ks=>ks.length≤1000000000000∧Exs.ok ks
def Exs.ok:List Ex→Prop
 | []=>True
 |v::r=>v.ok∧Exs.ok r
end
theorem Exs.ok_mem:∀ {l:List Ex},Exs.ok l→∀v,v∈l→v.ok
 |x::r,h,v,hv=>by
  simp only[Exs.ok] at h
  rcases List.mem_cons.1 hv with rfl|hv
  ·exact h.1
  ·exact Exs.ok_mem h.2 v hv
mutual
def Ex.size:Ex→Nat
 | .mk _ _ _ ks=>1+Exs.size ks
def Exs.size:List Ex→Nat
 | []=>0
 |v::r=>v.size+Exs.size r
end
theorem Exs.size_mem:∀ {l:List Ex}{v:Ex},v∈l→v.size≤Exs.size l
 |x::r,v,hv=>by
  simp only[Exs.size]
  rcases List.mem_cons.1 hv with rfl|hv
  ·omega
  ·have:=Exs.size_mem hv;omega
theorem Ex.ok_iff (v:Ex):v.ok↔v.kids.length≤1000000000000∧Exs.ok v.kids:=by cases v;rfl
theorem Ex.size_eq (v:Ex):v.size=1+Exs.size v.kids:=by cases v;rfl
mutual
theorem zqK:∀v:Ex,exEq v v=true
 | .mk _ _ _ ks=>by simp[exEq,zk8 ks]
theorem zk8:∀l:List Ex,znN l l=true
 | []=>rfl
 |v::r=>by simp[znN,zqK v,zk8 r]
end
theorem Ex.cs_cc (l:List Ex):Ex.cs l=l.map Ex.cc:=by
 rw[Ex.cs_eq];exact List.map_congr_left (fun v _=>Ex.c_eq v)
mutual
def mEx:Ex→Nat
 | .mk _ _ _ ks=>mExs ks
def mExs:List Ex→Nat
 | []=>0
 |v::r=>1+mEx v+mExs r
end
structure Gd where
 op:Int
 var:Int
 n:Int
 deriving Inhabited
structure Cl where
 pat:Pat
 g:Gd
 deriving Inhabited
structure Ft where
 arg:Ty
 res:Ty
 deriving Inhabited
structure Fu where
 ty:Ft
 cls:List Cl
 bodies:List Ex
 deriving Inhabited
abbrev Cl.c (x:Cl):List D:=[.i x.pat.op,.i x.pat.ctor,.i x.pat.n,.i x.pat.m,.i x.pat.var,.sl (Pat.cs x.pat.kids),.i x.g.op,.i x.g.var,.i x.g.n]
abbrev zbM (l:List Cl):D:= .sl (l.map Cl.c)
abbrev Ft.c (x:Ft):List D:=[.i x.arg.data,.i x.arg.index,.i x.res.data,.i x.res.index]
abbrev Fu.c (x:Fu):List D:=[.i x.ty.arg.data,.i x.ty.arg.index,.i x.ty.res.data,.i x.ty.res.index,zbM x.cls,ztw x.bodies]
def ClsOk (l:List Cl):Prop:=l.length≤1000000000000∧∀c∈l,c.pat.ok
def mCl (c:Cl):Nat:=mPat c.pat
def mCls (l:List Cl):Nat:=l.length+(l.map mCl).sum
def gdEq (a b:Gd):Bool:=decide (a.op=b.op)&&(decide (a.var=b.var)&&decide (a.n=b.n))
def clEq (a b:Cl):Bool:=zfS a.pat b.pat&&gdEq a.g b.g
def zr8 (a b:List Cl):Bool:=all2 clEq a b
theorem zmM {α:Type}{f:α→α→Bool} (h:∀x,f x x=true):∀l:List α,all2 f l l=true
 | []=>rfl
 |x::r=>by simp[all2,h x,zmM h r]
theorem zqw (a:Cl):clEq a a=true:=by simp[clEq,gdEq,zlI]
theorem zgk (l:List Cl):zr8 l l=true:=zmM zqw l
theorem zku {c:Cl}{left:Int} (hok:c.pat.ok) (k0:0≤left) (k1:left≤1000000000000):
  FnD Tryz.prog 28 [.agg [.d (.i c.pat.op),.d (.i c.pat.ctor),.d (.i c.pat.n),.d (.i c.pat.m),.d (.i c.pat.var),.d (zad c.pat.kids),.d (.i c.g.op),.d (.i c.g.var),.d (.i c.g.n)],.d (.i left)] [] (.d (.i (szr left (mCl c)))) []:=by
 have z:=zbX (left:=left) (mCl c)
 refine bd Tryz.f28 12 [] [] fun w0 F0 own kept hk=>?_
 refine Walk.box (id:=3002) .none rfl rfl rfl rfl rfl rfl rfl ?_
 refine ev ?_
 refine Walk.call (cr:=[]) zrZ (zgd _ (Nat.le_refl _) hok k0 k1) rfl .none rfl rfl (LeL.refl _) trivial rfl rfl rfl ?_
 refine ev ?_
 refine sq (fun h1 h1p h1s=>?_) fun h1 h1p h1s=>?_
 try simp only[Q] at h1p
 refine rn0 (r1 rfl) (.eqd ?_)
 rotate_left
 try simp only[Q] at h1p
 refine rn0 (r1 rfl) (.eqd ?_)
 rotate_left
 all_goals (refine congrArg D.i ?_;unfold mCl at *;omega)
theorem zgc {l:List Cl}{left:Int} (hs:ClsOk l) (k0:0≤left) (k1:left≤1000000000000):FnD Tryz.prog 7 [.d (zbM l),.d (.i left)] [] (.d (.i (szr left (mCls l)))) []:=by
 have h:=hs.1
 have z:=zbX (left:=left) (mCls l)
 simp only[mCls] at z ⊢
 refine bd Tryz.f7 27 [] [] fun w0 F0 own kept hk=>?_
 refine ar ?_
 refine sq (fun h1 h1p h1s=>?_) fun h1 h1p h1s=>?_
 try simp only[Q] at h1p
 refine rn0 (r1 rfl) (.eqd ?_)
 rotate_left
 try simp only[Q] at h1p
 refine CWp.loopX (ι:=List (Cl)×List (Cl)×(Int)) hk (fun x=>[(5,.d (.i (x.1.length:Int))),(1,.d (.i x.2.2))]) [4,12,13,14,15,16,17,18,19,20,21,22,23,24,25] (fun x=>[]) (fun x=>x.1++x.2.1=l∧x.2.2=left-l.length-(x.1.map mCl).sum∧0≤x.2.2) (fun x=>x.2.1.length) ([],l,left-l.length) ⟨by simp,by simp,by simp at *;omega⟩ ⟨⟨_,rfl,(LeA.eqi (by first|rfl|(simp;done)))⟩,⟨⟨_,rfl,(LeA.eqi (by first|rfl|(simp;done)))⟩,trivial⟩⟩ trivial (fun x=>rfl) (fun x hg1=>?_)
 obtain⟨pre,rest,v⟩:=x
 dsimp only at hg1 ⊢
 refine evc [] [] ?_
 refine sq (fun h2 h2p h2s=>?_) fun h2 h2p h2s=>?_
 try simp only[Q] at h2p
 rcases rest with _|⟨y,rest⟩
 ·exfalso;simp_all
 refine Walk.idx sl25 .none rfl rfl rfl rfl (za0 hg1.1) rfl ?_
 refine ev ?_
 refine Walk.call (cr:=[]) ztJ (zku (c:=y) (hs.2 y (by rw[←hg1.1];simp)) (by omega) (by omega)) rfl .none rfl rfl (LeL.refl _) trivial rfl rfl rfl ?_
 refine ev ?_
 refine sq (fun h3 h3p h3s=>?_) fun h3 h3p h3s=>?_
 try simp only[Q] at h3p
 refine rn0 (r1 rfl) (.eqd ?_)
 rotate_left
 try simp only[Q] at h3p
 refine ar ?_
 refine Exists.intro ((pre++[y],rest,szr v (mCl y))) ⟨⟨(by have hz:=hg1.1;rw[←hz];simp),(by have e:=zdH (f:=mCl) hg1.1;have z3:=zbX (left:=v) (mCl y);simp;omega)⟩,(by simp),Sub.x (by kernel_rfl) (by kernel_rfl) ⟨⟨_,rfl,(LeA.eqi (by first|rfl|(simp;done)))⟩,⟨⟨_,rfl,(LeA.eqi (by first|rfl|(simp;done)))⟩,trivial⟩⟩ (by kernel_rfl) (by kernel_rfl) trivial⟩
 try simp only[Q] at h2p
 have hrest:rest=[]:=by
  rcases rest with _|⟨a,b⟩
  ·rfl
  ·exfalso;have hz:=congrArg List.length (hg1.1);simp only[List.length_append,List.length_cons,List.length_map] at hz;omega
 subst hrest
 refine rn0 (r1 rfl) (.eqd ?_)
 rotate_left
 all_goals (refine congrArg D.i ?_;first|omega|(have e:=zdH (f:=mCl) hg1.1;have z3:=zbX (left:=v) (mCl y);omega)|(rw[List.append_nil] at hg1;rw[hg1.1] at hg1;omega))
theorem zhi {a b c:Int}:FnD Tryz.prog 64 [.agg [.d (.i a),.d (.i b),.d (.i c)]] [] (.agg [.d (.i a),.d (.i b),.d (.i c)]) []:=by
 refine bd Tryz.f64 14 [] [] fun w0 F0 own kept hk=>?_
 refine Walk.box (id:=3001) .none rfl rfl rfl rfl rfl rfl rfl ?_
 refine Walk.alloc (id:=3002) tz83 rfl .none rfl rfl rfl rfl ?_
 refine tv ?_
 refine Walk.alloc (id:=3003) tz83 rfl .none rfl rfl rfl rfl ?_
 refine tv ?_
 refine Walk.store ty3 .none rfl rfl rfl rfl rfl rfl (by simp) rfl ?_
 refine tv ?_
 refine Walk.store ty3 .none rfl rfl rfl rfl rfl rfl (by simp) rfl ?_
 refine tv ?_
 refine Walk.store ty3 .none rfl rfl rfl rfl rfl rfl (by simp) rfl ?_
 refine tv ?_
 refine Walk.store ty83 .none rfl rfl rfl rfl rfl rfl (by simp) rfl ?_
 refine tv ?_
 focus (refine rn0 (.cons (.cellA ty83 rfl rfl rfl) .nil) (.agg (.cons (.eqd ?_) (.cons (.eqd ?_) (.cons (.eqd ?_) .nil))));all_goals (first|rfl|(simp[];done)|(simp_all;done)|(simp_all;omega)|omega))
theorem zkv {c:Cl} (hok:c.pat.ok):
  FnD Tryz.prog 33 [.agg [.d (.i c.pat.op),.d (.i c.pat.ctor),.d (.i c.pat.n),.d (.i c.pat.m),.d (.i c.pat.var),.d (zad c.pat.kids),.d (.i c.g.op),.d (.i c.g.var),.d (.i c.g.n)]] [] (.agg [.d (.i c.pat.op),.d (.i c.pat.ctor),.d (.i c.pat.n),.d (.i c.pat.m),.d (.i c.pat.var),.d (zad c.pat.kids),.d (.i c.g.op),.d (.i c.g.var),.d (.i c.g.n)]) []:=by
 refine bd Tryz.f33 13 [] [] fun w0 F0 own kept hk=>?_
 refine Walk.box (id:=3001) .none rfl rfl rfl rfl rfl rfl rfl ?_
 refine Walk.alloc (id:=3002) tz85 rfl .none rfl rfl rfl rfl ?_
 refine tv ?_
 refine Walk.alloc (id:=3003) tz85 rfl .none rfl rfl rfl rfl ?_
 refine tv ?_
 refine Walk.call (cr:=[]) zpL (zjZ hok) rfl .none rfl rfl (LeL.refl _) trivial rfl rfl rfl ?_
 refine ev ?_
 refine Walk.store ty77 .none rfl rfl rfl rfl rfl rfl (by simp) rfl ?_
 refine tv ?_
 refine Walk.call (cr:=[]) zr2 (zhi) rfl .none rfl rfl (LeL.refl _) trivial rfl rfl rfl ?_
 refine ev ?_
 refine Walk.store ty83 .none rfl rfl rfl rfl rfl rfl (by simp) rfl ?_
 refine tv ?_
 refine Walk.store ty85 .none rfl rfl rfl rfl rfl rfl (by simp) rfl ?_
 refine tv ?_
 focus (refine rn0 (.cons (.cellA ty85 rfl rfl rfl) .nil) (.agg (.cons (.eqd ?_) (.cons (.eqd ?_) (.cons (.eqd ?_) (.cons (.eqd ?_) (.cons (.eqd ?_) (.cons (.eqd ?_) (.cons (.eqd ?_) (.cons (.eqd ?_) (.cons (.eqd ?_) .nil))))))))));all_goals (first|rfl|(simp[];done)|(simp_all;done)|(simp_all;omega)|omega))
theorem zcu {l:List Cl} (hs:ClsOk l):FnD Tryz.prog 11 [.d (zbM l)] [] (.d (zbM l)) []:=by
 have h:=hs.1
 refine bd Tryz.f11 23 [] [999999] fun w0 F0 own kept hk=>?_
 refine Walk.make (id:=3007) sl35 tz85 rfl (by decide) (zce rfl) .none rfl rfl rfl (by simp;omega) (by simp;omega) rfl rfl rfl ?_
 refine ev ?_
 refine CWp.loopX (ι:=List (Cl)×List (Cl)) hk (fun x=>[(4,.d (.i (x.1.length:Int)))]) [8,9,10,11,12,13,14,15,16,17,18,19,20,21] (fun x=>[(3007,some (.box ((x.1.flatMap fun x=>(Cl.c x).map AV.d)++zaD x.2.length [.d (.i 0),.d (.i 0),.d (.i 0),.d (.i 0),.d (.i 0),.nils,.d (.i 0),.d (.i 0),.d (.i 0)])))]) (fun x=>x.1++x.2=l) (fun x=>x.2.length) ([],l) (by simp) ⟨⟨_,rfl,(LeA.eqi (by first|rfl|(simp;done)|(simp_all;done)|omega))⟩,trivial⟩ ⟨(by first|rfl|(show some (Res.box _)=some (Res.box _);simp;done)),trivial⟩ (fun x=>rfl) (fun x hg1=>?_)
 obtain⟨pre,rest⟩:=x
 dsimp only at hg1 ⊢
 refine evc [] [999999] ?_
 refine sq (fun h1 h1p h1s=>?_) fun h1 h1p h1s=>?_
 try simp only[Q] at h1p
 rcases rest with _|⟨y,rest⟩
 ·exfalso;simp_all
 refine Walk.idx sl25 .none rfl rfl rfl rfl (za0 hg1) rfl ?_
 refine ev ?_
 refine Walk.call (cr:=[]) zrS (zkv (c:=y) (hs.2 y (by rw[←hg1];simp))) rfl .none rfl rfl (LeL.refl _) trivial rfl rfl rfl ?_
 refine Walk.idxM sl35 .none rfl rfl rfl rfl (by first|omega|(simp ;omega)) ?_
 refine Walk.store ty85 .none rfl rfl rfl rfl rfl rfl (by simp) ((zho (k:=9) (by intro x _;rfl) (by first|rfl|simp) rfl)) ?_
 refine tv ?_
 refine ar ?_
 refine Exists.intro ((pre++[y],rest)) ⟨(by have hz:=hg1;rw[←hz];simp),(by simp),Sub.x (by kernel_rfl) (by kernel_rfl) ⟨⟨_,rfl,(LeA.eqi (by first|rfl|(simp;done)|(simp_all;done)|omega))⟩,trivial⟩ (by kernel_rfl) (by kernel_rfl) ⟨(by first|rfl|(show some (Res.box _)=some (Res.box _);simp;done)),trivial⟩⟩
 try simp only[Q] at h1p
 have hrest:rest=[]:=by
  rcases rest with _|⟨a,b⟩
  ·rfl
  ·exfalso;have hz:=congrArg List.length (hg1);simp only[List.length_append,List.length_cons,List.length_map] at hz;omega
 subst hrest
 refine CWp.frz hk 2 3007 _ _ rfl rfl (zfJ (f:=Cl.c) (k:=9) hg1 (by simp) (by intro x _;rfl)) rfl ?_
 refine CWp.ret ?_
 focus (refine rn0 (r1 rfl) (.eqd ?_);all_goals (first|rfl|(simp[h1s,h1p];done)|(simp_all;done)|(simp_all;omega)|omega))
theorem zlj {a b:Gd}:FnD Tryz.prog 78 [.agg [.d (.i a.op),.d (.i a.var),.d (.i a.n)],.agg [.d (.i b.op),.d (.i b.var),.d (.i b.n)]] [] (.d (.bool (gdEq a b))) []:=by
 refine bd Tryz.f78 20 [] [] fun w0 F0 own kept hk=>?_
 refine Walk.box (id:=3002) .none rfl rfl rfl rfl rfl rfl rfl ?_
 refine Walk.box (id:=3003) .none rfl rfl rfl rfl rfl rfl rfl ?_
 refine ev ?_
 refine sq (fun h1 h1p h1s=>?_) fun h1 h1p h1s=>?_
 try simp only[Q] at h1p
 focus (refine rn0 (r1 rfl) (.eqd ?_);all_goals (refine congrArg D.bool ?_;simp[gdEq,h1s,h1p]))
 try simp only[Q] at h1p
 refine sq (fun h2 h2p h2s=>?_) fun h2 h2p h2s=>?_
 try simp only[Q] at h2p
 focus (refine rn0 (r1 rfl) (.eqd ?_);all_goals (refine congrArg D.bool ?_;simp[gdEq,h1s,h1p,h2s,h2p]))
 try simp only[Q] at h2p
 refine sq (fun h3 h3p h3s=>?_) fun h3 h3p h3s=>?_
 try simp only[Q] at h3p
 focus (refine rn0 (r1 rfl) (.eqd ?_);all_goals (refine congrArg D.bool ?_;simp[gdEq,h1s,h1p,h2s,h2p,h3s,h3p]))
 try simp only[Q] at h3p
 focus (refine rn0 (r1 rfl) (.eqd ?_);all_goals (refine congrArg D.bool ?_;simp[gdEq,h1s,h1p,h2s,h2p,h3s,h3p]))
theorem zks {a b:Cl} (hok:a.pat.ok):
  FnD Tryz.prog 42 [.agg [.d (.i a.pat.op),.d (.i a.pat.ctor),.d (.i a.pat.n),.d (.i a.pat.m),.d (.i a.pat.var),.d (zad a.pat.kids),.d (.i a.g.op),.d (.i a.g.var),.d (.i a.g.n)],.agg [.d (.i b.pat.op),.d (.i b.pat.ctor),.d (.i b.pat.n),.d (.i b.pat.m),.d (.i b.pat.var),.d (zad b.pat.kids),.d (.i b.g.op),.d (.i b.g.var),.d (.i b.g.n)]] [] (.d (.bool (clEq a b))) []:=by
 refine bd Tryz.f42 17 [] [] fun w0 F0 own kept hk=>?_
 refine Walk.box (id:=3002) .none rfl rfl rfl rfl rfl rfl rfl ?_
 refine Walk.box (id:=3003) .none rfl rfl rfl rfl rfl rfl rfl ?_
 refine ev ?_
 refine Walk.call (cr:=[]) zrW (zev (a:=a.pat) (b:=b.pat) _ (Nat.le_refl _) hok) rfl .none rfl rfl (LeL.refl _) trivial rfl rfl rfl ?_
 refine ev ?_
 refine sq (fun h1 h1p h1s=>?_) fun h1 h1p h1s=>?_
 try simp only[Q] at h1p
 focus (refine rn0 (r1 rfl) (.eqd ?_);all_goals (refine congrArg D.bool ?_;simp[clEq,h1s,h1p]))
 try simp only[Q] at h1p
 refine Walk.call (cr:=[]) zt1 (zlj (a:=a.g) (b:=b.g)) rfl .none rfl rfl (LeL.refl _) trivial rfl rfl rfl ?_
 refine ev ?_
 refine sq (fun h2 h2p h2s=>?_) fun h2 h2p h2s=>?_
 try simp only[Q] at h2p
 focus (refine rn0 (r1 rfl) (.eqd ?_);all_goals (refine congrArg D.bool ?_;simp[clEq,h1s,h1p,h2s,h2p]))
 try simp only[Q] at h2p
 focus (refine rn0 (r1 rfl) (.eqd ?_);all_goals (refine congrArg D.bool ?_;simp[clEq,h1s,h1p,h2s,h2p]))
theorem zgb {l m:List Cl} (hs:ClsOk l):FnD Tryz.prog 15 [.d (zbM l),.d (zbM m)] [] (.d (.bool (zr8 l m))) []:=by
 have h:=hs.1
 refine bd Tryz.f15 27 [] [] fun w0 F0 own kept hk=>?_
 refine sq (fun h1 h1p h1s=>?_) fun h1 h1p h1s=>?_
 try simp only[Q,Int.natCast_inj] at h1p
 refine rn0 (r1 rfl) (.eqd ?_)
 rotate_left
 try simp only[Q,Int.natCast_inj] at h1p
 refine CWp.loopX (ι:=Nat) hk (fun i=>[(5,.d (.i (i:Int)))]) [4,11,12,13,14,15,16,17,18,19,20,21,22,23,24,25,26] (fun i=>[]) (fun i=>i≤l.length∧∀i',i'<i→clEq (nth l i') (nth m i')=true) (fun i=>l.length-i) 0 ⟨by omega,fun _ h=>absurd h (by omega)⟩ ⟨⟨_,rfl,(LeA.eqi (by first|rfl|(simp;done)|(simp_all;done)|omega))⟩,trivial⟩ trivial (fun x=>rfl) (fun i hg1=>?_)
 refine evc [] [] ?_
 refine sq (fun h2 h2p h2s=>?_) fun h2 h2p h2s=>?_
 try simp only[Q,Int.natCast_inj] at h2p
 refine Walk.idx sl35 .none rfl rfl rfl rfl (zay (by omega)) rfl ?_
 refine evd [] [] ?_
 refine Walk.idx sl35 .none rfl rfl rfl rfl (zay (by omega)) rfl ?_
 refine evd [] [] ?_
 refine Walk.call (cr:=[]) ztM (zks (a:=nth l i) (b:=nth m i) (hs.2 _ (zal (by omega)))) rfl .none rfl rfl (LeL.refl _) trivial rfl rfl rfl ?_
 refine evd [] [] ?_
 refine dr ?_
 refine sq (fun h3 h3p h3s=>?_) fun h3 h3p h3s=>?_
 try simp only[Q,Int.natCast_inj] at h3p
 refine rn0 (r1 rfl) (.eqd ?_)
 rotate_left
 try simp only[Q,Int.natCast_inj] at h3p
 refine ar ?_
 refine Exists.intro (i+1) ⟨⟨by omega,za2 hg1.2 (by assumption)⟩,(by omega),Sub.x (by kernel_rfl) (by kernel_rfl) ⟨⟨_,rfl,(LeA.eqi (by first|rfl|(simp;done)|(simp_all;done)|omega))⟩,trivial⟩ (by kernel_rfl) (by kernel_rfl) trivial⟩
 try simp only[Q,Int.natCast_inj] at h2p
 refine rn0 (r1 rfl) (.eqd ?_)
 rotate_left
 all_goals (refine congrArg D.bool ?_;first|(refine(zgF ?_).symm;omega)|(refine(zcv (by omega) (fun x hx=>hg1.2 x (by omega))).symm)|(refine(zbZ (i:=i) (by omega) (by omega) ?_).symm;assumption))
mutual
def cntE (m:Int):Ex→Int
 | .mk _ _ _ ks=>zej m 1 ks
def zej (m n:Int):List Ex→Int
 | []=>n
 |k::r=>if n≤m then zej m (n+cntE (m-n) k) r else n
end
theorem zpO {m n:Int}{l:List Ex} (h:¬n≤m):zej m n l=n:=by cases l<;>simp[zej,h]
mutual
theorem zpk:∀(v:Ex) (m:Int),1≤cntE m v∧cntE m v≤v.size
 | .mk _ _ _ ks,m=>by
  have:=zkh ks m 1 (by omega)
  simp only[cntE,Ex.size];push_cast;omega
theorem zkh:∀(l:List Ex) (m n:Int),1≤n→1≤zej m n l∧zej m n l≤n+Exs.size l
 | [],m,n,h=>by simp[zej,Exs.size];omega
 |k::r,m,n,h=>by
  have h1:=zpk k (m-n)
  have h2:=zkh r m (n+cntE (m-n) k) (by omega)
  simp only[zej,Exs.size]
  split
  ·push_cast;omega
  ·push_cast;omega
end
mutual
theorem zrj:∀(v:Ex) (m:Int),(cntE m v≤m↔(v.size:Int)≤m)∧(cntE m v≤m→cntE m v=v.size)
 | .mk _ _ _ ks,m=>by
  have:=zmP ks m 1
  simp only[cntE,Ex.size];push_cast;exact this
theorem zmP:∀(l:List Ex) (m n:Int),(zej m n l≤m↔n+(Exs.size l:Int)≤m)∧(zej m n l≤m→zej m n l=n+Exs.size l)
 | [],m,n=>by simp[zej,Exs.size]
 |k::r,m,n=>by
  have h1:=zrj k (m-n)
  have h2:=zmP r m (n+cntE (m-n) k)
  have h3:=zkh r m (n+cntE (m-n) k)
  have h4:=zpk k (m-n)
  simp only[zej,Exs.size]
  push_cast
  by_cases hn:n≤m
  ·rw[if_pos hn]
   by_cases h5:cntE (m-n) k≤m-n
   ·have h6:=h1.2 h5
    rw[h6] at h2 ⊢
    constructor
    ·rw[h2.1];constructor<;>intro h<;>omega
    ·intro h;rw[h2.2 h];omega
   ·have h7:¬(k.size:Int)≤m-n:=fun h=>h5 (h1.1.2 h)
    have h8:¬n+cntE (m-n) k≤m:=by omega
    rw[zpO h8]
    constructor
    ·constructor<;>intro h<;>omega
    ·intro h;omega
  ·rw[if_neg hn]
   constructor
   ·constructor<;>intro h<;>omega
   ·intro h;omega
end
def TyOk (n:Nat) (t:Ty):Prop:=TyIn n t∧(t.data = -1→t.index=0)
def gdOk (g:Gd) (vars:List Vt):Bool:=if g.op=0 then decide (g.var=0∧g.n=0) else decide (1≤g.op∧g.op≤2∧0≤g.n∧g.n≤9)&&decide ((⟨g.var,⟨-1,0⟩⟩:Vt)∈vars)
def zg2 (w:List Data) (t:Ty) (p:Pat):List Vt:=zdw (zaV w 10 t p 0).1
def clOk (w:List Data) (t:Ty) (c:Cl):Bool:=isP w t c.pat&&gdOk c.g (zg2 w t c.pat)
def zbD (w:List Data) (t:Ty) (l:List Cl):Bool:=zbH w t&&(decide ((l.length:Int)≤8)&& !l.any fun c=> !clOk w t c)
theorem zhD {xs:List Cl}{f:Nat}{caps:List AV}{hp:Hp}{p:Cl→Bool} (hs:xs.length≤1000000000000) (hcal:Callee Tryz.prog f)
  (hf:∀t∈xs,FnD Tryz.prog f ([.agg [.d (.i t.pat.op),.d (.i t.pat.ctor),.d (.i t.pat.n),.d (.i t.pat.m),.d (.i t.pat.var),.d (zad t.pat.kids),.d (.i t.g.op),.d (.i t.g.var),.d (.i t.g.n)]]++caps) hp (.d (.bool (p t))) []) (k1:subH hp hp) (k2:zeo hp=true) (k3:zat hp [] (.d .nilp) []=true):
  FnD Tryz.prog 116 [.d (zbM xs),.fn f caps] hp (.d (.i (idxF p xs 0))) []:=by
 refine bd Tryz.f116 19 [] [] fun w0 F0 own kept hk=>?_
 refine CWp.loopX (ι:=List (Cl)×List (Cl)) hk (fun x=>[(8,.d (.i (x.1.length:Int)))]) [4,5,9,10,11,12,13,14,15,16,17,18] (fun x=>[]) (fun x=>x.1++x.2=xs∧idxF p x.2 x.1.length=idxF p xs 0) (fun x=>x.2.length) ([],xs) ⟨by simp,rfl⟩ ⟨⟨_,rfl,(LeA.eqi (by first|rfl|(simp;done)|(simp_all;done)|omega))⟩,trivial⟩ trivial (fun x=>zgi hp) (fun x hg1=>?_)
 obtain⟨pre,rest⟩:=x
 dsimp only at hg1 ⊢
 refine evc [] [] ?_
 refine sq (fun h1 h1p h1s=>?_) fun h1 h1p h1s=>?_
 try simp only[Q] at h1p
 rcases rest with _|⟨y,rest⟩
 ·exfalso;simp_all
 refine Walk.idx sl35 .none rfl rfl rfl rfl (za0 hg1.1) rfl ?_
 refine ev ?_
 refine Walk.callV (cr:=[]) hcal (hf y (by rw[←hg1.1];simp)) rfl .none rfl rfl rfl (LeL.refl _) k1 k2 (zc5 k3 _) rfl ?_
 refine tv ?_
 refine sq (fun h2 h2p h2s=>?_) fun h2 h2p h2s=>?_
 try simp only[Q] at h2p
 focus (refine rn [] (r1 rfl) (.eqd ?_) ⟨rfl,rfl⟩ (fun _ _ h=>h) (fun _ h=>h);all_goals (rw[←hg1.2];simp[idxF,h1s,h1p,h2s,h2p]))
 try simp only[Q] at h2p
 refine ar ?_
 refine Exists.intro ((pre++[y],rest)) ⟨⟨(by have hz:=hg1.1;rw[←hz];simp),(by rw[←hg1.2];simp[idxF,h2s])⟩,(by simp),Sub.x (by kernel_rfl) (by kernel_rfl) ⟨⟨_,rfl,(LeA.eqi (by first|rfl|(simp;done)|(simp_all;done)|omega))⟩,trivial⟩ (by simp) (by simp[zdN]) trivial⟩
 try simp only[Q] at h1p
 have hrest:rest=[]:=by
  rcases rest with _|⟨a,b⟩
  ·rfl
  ·exfalso;have hz:=congrArg List.length (hg1.1);simp only[List.length_append,List.length_cons,List.length_map] at hz;omega
 subst hrest
 focus (refine rn [] (r1 rfl) (.eqd ?_) ⟨rfl,rfl⟩ (fun _ _ h=>h) (fun _ h=>h);all_goals (rw[←hg1.2];simp[idxF,h1s,h1p]))
theorem zgt {xs:List Cl}{f:Nat}{caps:List AV}{hp:Hp}{p:Cl→Bool} (hs:xs.length≤1000000000000) (hcal:Callee Tryz.prog f)
  (hf:∀t∈xs,FnD Tryz.prog f ([.agg [.d (.i t.pat.op),.d (.i t.pat.ctor),.d (.i t.pat.n),.d (.i t.pat.m),.d (.i t.pat.var),.d (zad t.pat.kids),.d (.i t.g.op),.d (.i t.g.var),.d (.i t.g.n)]]++caps) hp (.d (.bool (p t))) []) (k1:subH hp hp) (k2:zeo hp=true) (k3:zat hp [] (.d .nilp) []=true):
  FnD Tryz.prog 66 [.d (zbM xs),.fn f caps] hp (.d (.bool (xs.any p))) []:=by
 refine bd Tryz.f66 9 [] [] fun w0 F0 own kept hk=>?_
 refine Walk.call (cr:=[]) zsU (zhD hs hcal hf k1 k2 k3) rfl .none rfl rfl (LeL.refl _) k1 k2 (zc5 k3 _) rfl ?_
 refine ev ?_
 refine rn [] (r1 rfl) (.eqd ?_) ⟨rfl,rfl⟩ (fun _ _ h=>h) (fun _ h=>h)
 rotate_left
 all_goals (exact congrArg D.bool (zeN p xs 0))
theorem zp9 (w:List Data) (t:Ty) (p:Pat):(zg2 w t p).length≤6:=(zdm w 10 t p 0).2
theorem zlc {g:Gd}{vars:List Vt} (hv:vars.length≤1000000000000):FnD Tryz.prog 118 [.agg [.d (.i g.op),.d (.i g.var),.d (.i g.n)],.d (zc3 vars)] [] (.d (.bool (gdOk g vars))) []:=by
 refine bd Tryz.f118 27 [10] [] fun w0 F0 own kept hk=>?_
 refine Walk.box (id:=3002) .none rfl rfl rfl rfl rfl rfl rfl ?_
 refine evs [10] [] ?_
 refine sq (fun h1 h1p h1s=>?_) fun h1 h1p h1s=>?_
 try simp only[Q,zar] at h1p
 refine Walk.build st83 (ks:=[]) (xs:=[]) rfl rfl .none rfl rfl rfl ?_
 refine Walk.eqV eq83 .none rfl rfl rfl rfl rfl ?_
 refine evs [10] [] ?_
 refine rn0 (r1 rfl) (.eqd ?_)
 rotate_left
 try simp only[Q,zar] at h1p
 refine Walk.call (cr:=[]) zey (zbO) rfl .none rfl rfl (LeL.refl _) trivial rfl rfl rfl ?_
 refine evs [10] [] ?_
 refine sq (fun h2 h2p h2s=>?_) fun h2 h2p h2s=>?_
 try simp only[Q,zar] at h2p
 refine Walk.call (cr:=[]) zey (zbO) rfl (.some rfl rfl h2) rfl rfl (LeL.refl _) trivial rfl rfl rfl ?_
 refine evs [10] [(14,true)] ?_ ⟨⟨_,rfl,h2⟩,trivial⟩
 refine sq (fun h3 h3p h3s=>?_) fun h3 h3p h3s=>?_
 try simp only[Q,zar] at h3p
 refine Walk.build st33 (ks:=[0]) (xs:=[_]) rfl rfl (.some rfl rfl h3) rfl rfl rfl ?_
 refine Walk.build zp4 (ks:=[0,1]) (xs:=[_,_]) rfl rfl (.some rfl rfl h3) rfl rfl rfl ?_
 refine Walk.call (cr:=[]) zqo (ze2 (v:=⟨g.var,⟨-1,0⟩⟩) hv) rfl (.some rfl rfl h3) rfl rfl (LeL.refl _) trivial rfl rfl rfl ?_
 refine evs [10] [(19,true)] ?_ ⟨⟨_,rfl,h3⟩,trivial⟩
 refine rn0 (r1 rfl) (.eqd ?_)
 rotate_left
 try simp only[Q,zar] at h3p
 refine rn0 (r1 rfl) (.eqd ?_)
 rotate_left
 try simp only[Q,zar] at h2p
 refine sqF ?_
 refine rn0 (r1 rfl) (.eqd ?_)
 rotate_left
 all_goals (refine congrArg D.bool ?_;unfold gdOk;first|(rw[if_pos (by omega)];simp_all;done)|(rw[if_neg (by omega)];simp_all[zar];done)|(rw[if_neg (by omega),decide_eq_false (by omega),Bool.false_and];done)|(rw[if_neg (by omega),decide_eq_true (by omega),Bool.true_and];done)|(rw[if_neg (by omega)];simp_all[zar];omega))
theorem zkm {w:List Data} (hw:WT w){t:Ty}{c:Cl} (ht:TyIn w.length t) (hok:c.pat.ok):
  FnD Tryz.prog 68 [.d (zao w),.agg [.d (.i t.data),.d (.i t.index)],.agg [.d (.i c.pat.op),.d (.i c.pat.ctor),.d (.i c.pat.n),.d (.i c.pat.m),.d (.i c.pat.var),.d (zad c.pat.kids),.d (.i c.g.op),.d (.i c.g.var),.d (.i c.g.n)]] [] (.d (.bool (clOk w t c))) []:=by
 have ht':TyIn w.length ⟨t.data,t.index⟩:=ht
 have hvl:=zp9 w t c.pat
 refine bd Tryz.f68 24 [] [] fun w0 F0 own kept hk=>?_
 refine Walk.box (id:=3004) .none rfl rfl rfl rfl rfl rfl rfl ?_
 refine Walk.box (id:=3005) .none rfl rfl rfl rfl rfl rfl rfl ?_
 refine ev ?_
 refine Walk.call (cr:=[]) zqe (zft hw ht' hok) rfl .none rfl rfl (LeL.refl _) trivial rfl rfl rfl ?_
 refine ev ?_
 refine sq (fun h1 h1p h1s=>?_) fun h1 h1p h1s=>?_
 try simp only[Q] at h1p
 refine Walk.call (cr:=[]) zsV (zlc (g:=c.g) (vars:=zg2 w t c.pat) (by omega)) rfl (.some rfl rfl h1) rfl rfl (LeL.refl _) trivial rfl rfl rfl ?_
 refine evs [] [(18,true)] ?_ ⟨⟨_,rfl,h1⟩,trivial⟩
 refine rn0 (r1 rfl) (.eqd ?_)
 rotate_left
 try simp only[Q] at h1p
 refine rn0 (r1 rfl) (.eqd ?_)
 rotate_left
 all_goals (refine congrArg D.bool ?_;unfold clOk;have hte:(⟨t.data,t.index⟩:Ty)=t:=rfl;first|(simp_all;done)|(rw[hte] at *;simp_all;done))
theorem zhB {w:List Data} (hw:WT w){a k:Int}{c:Cl} (ht:TyIn w.length ⟨a,k⟩) (hok:c.pat.ok):
  FnD Tryz.prog 67 [.agg [.d (.i c.pat.op),.d (.i c.pat.ctor),.d (.i c.pat.n),.d (.i c.pat.m),.d (.i c.pat.var),.d (zad c.pat.kids),.d (.i c.g.op),.d (.i c.g.var),.d (.i c.g.n)],.ref 3003 0,.ref 3004 0] [(3003,some (.box [.d (zao w)])),(3004,some (.box [.d (.i a),.d (.i k)]))] (.d (.bool (!clOk w ⟨a,k⟩ c))) []:=by
 refine bd Tryz.f67 10 [] [] fun w0 F0 own kept hk=>?_
 refine Walk.box (id:=3901) .none rfl rfl rfl rfl rfl rfl rfl ?_
 refine ev ?_
 refine Walk.call (cr:=[]) ztW (zkm (t:=⟨a,k⟩) (c:=c) hw ht hok) rfl .none rfl rfl (LeL.refl _) trivial rfl rfl rfl ?_
 refine ev ?_
 refine rn [] (r1 rfl) (.eqd ?_) ⟨rfl,rfl⟩ (SubH.get ⟨rfl,⟨rfl,trivial⟩⟩) (fun _ h=>h)
 rotate_left
 all_goals (rfl)
theorem zfb {w:List Data} (hs:WSmall w){a k:Int}{l:List Cl} (hl:ClsOk l):
  FnD Tryz.prog 34 [.d (zao w),.agg [.d (.i a),.d (.i k)],.d (zbM l)] [] (.d (.bool (zbD w ⟨a,k⟩ l))) []:=by
 have hll:=hl.1
 refine bd Tryz.f34 21 [] [] fun w0 F0 own kept hk=>?_
 refine Walk.box (id:=3003) .none rfl rfl rfl rfl rfl rfl rfl ?_
 refine Walk.box (id:=3004) .none rfl rfl rfl rfl rfl rfl rfl ?_
 refine ev ?_
 refine Walk.call (cr:=[]) ztT (zjU hs) rfl .none rfl rfl (LeL.refl _) trivial rfl rfl rfl ?_
 refine ev ?_
 refine sq (fun h1 h1p h1s=>?_) fun h1 h1p h1s=>?_
 try simp only[Q] at h1p
 refine sq (fun h2 h2p h2s=>?_) fun h2 h2p h2s=>?_
 try simp only[Q] at h2p
 refine Walk.closure (xs:=[_,_]) rfl (.some rfl rfl h2) rfl rfl ?_
 refine Walk.call (cr:=[]) ztU (zgt (p:=fun c=> !clOk w ⟨a,k⟩ c) hl.1 ztV (fun t htm=>zhB (zkL hs (zdo (by assumption)).1) (zdo (by assumption)).2.1 (hl.2 t htm)) ⟨rfl,rfl,trivial⟩ rfl rfl) rfl (.some rfl rfl h2) rfl rfl (LeL.refl _) ⟨rfl,rfl,trivial⟩ rfl rfl rfl ?_
 refine evs [] [(15,true)] ?_ ⟨⟨_,rfl,h2⟩,trivial⟩
 refine rn0 (r1 rfl) (.eqd ?_)
 rotate_left
 try simp only[Q] at h2p
 refine rn0 (r1 rfl) (.eqd ?_)
 rotate_left
 try simp only[Q] at h1p
 refine sqF ?_
 refine rn0 (r1 rfl) (.eqd ?_)
 rotate_left
 all_goals (refine congrArg D.bool ?_;unfold zbD;first|(simp_all;done)|(simp_all;omega))
def AZ (w:List Data):Prop:=∀t c,c∈zaA w t→TyIn w.length t→∀u∈zaj w t c,u.data = -1→u.index=0
theorem zrI {w:List Data} (hv:zbb w=true):AZ w:=by
 have hW:=(zdD w).1 hv
 rintro ⟨a,k⟩ c hc ht u hu hd
 obtain⟨d,rfl,h1,j,rfl,h3⟩:=zc0 ht hc
 have hco:=hW.ctor _ (zal h1) _ (zal h3)
 simp only[zaR,Bool.and_eq_true,decide_eq_true_eq,Bool.not_eq_true',List.any_eq_false,Bool.not_eq_false'] at hco
 have hall:=hco.2.2.2
 simp only[zaj,Int.toNat_natCast] at hu
 obtain⟨x,hx,rfl⟩:=List.mem_map.1 hu
 have hxo:=hall x hx
 simp only[zbz,zar,Bool.or_eq_true,Bool.and_eq_true,decide_eq_true_eq,and_true,Bool.not_eq_true',Bool.not_eq_false] at hxo
 unfold zbp at hd ⊢
 split at hd
 ·rename_i hi
  rw[if_pos hi]
  dsimp only at hd ⊢
  omega
 ·rename_i hi
  rw[if_neg hi]
  omega
theorem zq8 {n:Nat}{t:Ty} (h:zcK n t=true):TyOk n t:=by
 refine⟨zq7 h,fun hd=>?_⟩
 simp only[zcK,zar,Bool.or_eq_true,Bool.and_eq_true,decide_eq_true_eq,and_true] at h
 omega
theorem zra {w:List Data}{t:Ty}{p:Pat} (h:isP w t p=true):zg2 w t p=zaO w 10 t p:=by
 unfold isP at h
 simp only[Bool.and_eq_true,decide_eq_true_eq] at h
 have e:=(zfE w 10 t p 0).1
 have hw:zb5 w 10 t p 0=true:=by
  unfold zb5;rw[h.1,h.2.2,decide_eq_true (by omega)];rfl
 rw[if_pos hw] at e
 unfold zg2;rw[e];rfl
theorem zrb {w:List Data}{t:Ty}{p:Pat} (h:isP w t p=true):zcT (zaO w 10 t p)=true:=by
 unfold isP at h
 simp only[Bool.and_eq_true] at h
 exact zhk w 10 t p h.1 h.2.2
theorem zoZ {w:List Data} (hw:WT w) (haz:AZ w):∀(n:Nat){t:Ty}{p:Pat},zaw w n t p=true→TyOk w.length t→∀v∈zaO w n t p,TyOk w.length v.ty
 |0,t,p,h,_=>by simp[zaw] at h
 |n+1,t,p,h,ht=>by
  obtain⟨ho,hlen⟩:=zb3 h
  intro v hv
  have hto:∀u∈zag w t p,TyOk w.length u:=fun u hu=>by
   refine⟨zf4 (a:=t.data) (k:=t.index) hw ht.1 ho u hu,fun hd=>?_⟩
   unfold zag at hu
   split at hu
   ·rename_i h4;exact haz t p.ctor (zcC ho h4) ht.1 u hu hd
   ·split at hu
    ·simp only[List.mem_cons,List.not_mem_nil,or_false,or_self] at hu
     rw[hu] at hd ⊢;exact ht.2 hd
    ·split at hu
     ·simp only[List.mem_cons,List.not_mem_nil,or_false] at hu
      rw[hu] at hd ⊢;exact ht.2 hd
     ·simp at hu
  simp only[zaO,List.mem_append] at hv
  rcases hv with hv|hv
  ·unfold zaJ at hv
   split at hv
   ·simp only[List.mem_cons,List.not_mem_nil,or_false] at hv
    rw[hv];exact ht
   ·simp at hv
  ·have key:∀(a:List Ty) (b:List Pat),(∀i,i<a.length→i<b.length→∀v∈zaO w n (nth a i) (nth b i),TyOk w.length v.ty)→∀v∈zbg (zaO w n) a b,TyOk w.length v.ty:=by
    intro a
    induction a with
    |nil=>intro b _ v hv;simp[zbg] at hv
    |cons x r ih=>
     intro b h v hv
     cases b with
     |nil=>simp[zbg] at hv
     |cons y s=>
      simp only[zbg,List.mem_append] at hv
      rcases hv with hv|hv
      ·exact h 0 (by simp) (by simp) v hv
      ·exact ih s (fun i h1 h2=>h (i+1) (by simpa using h1) (by simpa using h2)) v hv
   refine key (zdC w t p) p.kids (fun i h1 h2=>?_) v hv
   have hvt:i<(zag w t p).length∧nth (zdC w t p) i=nth (zag w t p) i:=by
    unfold zdC at h1 ⊢
    split at h1
    ·rename_i h5
     rw[if_pos h5]
     rw[List.length_take] at h1
     refine⟨by omega, ?_⟩
     have:i=0:=by omega
     subst this
     cases hT:zag w t p with
     |nil=>rfl
     |cons a b=>rfl
    ·rename_i h5
     rw[if_neg h5];exact⟨h1,rfl⟩
   rw[hvt.2]
   exact zoZ hw haz n (zb2 h (by omega)) (hto _ (zal hvt.1))
def gdS (g:Gd) (vars:List Vt):Bool:=if g.op=0 then decide (g.var=0∧g.n=0) else decide (1≤g.op∧g.op≤2∧0≤g.n∧g.n≤9)&&(decide (0≤zbR vars g.var)&&decide ((nth vars (zbR vars g.var).toNat).ty.data = -1))
theorem ztA {n:Nat}{g:Gd}{vars:List Vt} (hn:zcT vars=true) (hv:∀v∈vars,TyOk n v.ty):gdS g vars=gdOk g vars:=by
 unfold gdS gdOk
 split
 ·rfl
 ·congr 1
  have hnod:=of_decide_eq_true hn
  rw[Bool.eq_iff_iff]
  simp only[Bool.and_eq_true,decide_eq_true_eq]
  constructor
  ·rintro ⟨h1,h2⟩
   rcases ze7 vars g.var with ⟨h3,_⟩|⟨k,h3,h4,h5,_⟩
   ·omega
   ·rw[h3] at h2
    simp only[Int.toNat_natCast] at h2
    have hm:=zal h4
    have ho:=(hv _ hm).2 h2
    have:nth vars k=⟨g.var,⟨-1,0⟩⟩:=by
     generalize nth vars k=z at *
     obtain⟨zv,⟨za,zk⟩⟩:=z
     dsimp only at h5 h2 ho
     rw[h5,h2,ho]
    rw[←this];exact hm
  ·intro hm
   rcases ze7 vars g.var with ⟨_,h4⟩|⟨k,h3,h4,h5,_⟩
   ·exact absurd rfl (h4 _ hm)
   ·refine⟨by omega, ?_⟩
    rw[h3]
    simp only[Int.toNat_natCast]
    obtain⟨j,hj,e⟩:=List.getElem_of_mem hm
    have ej:nth vars j=⟨g.var,⟨-1,0⟩⟩:=by simp[nth,List.getD,hj,e]
    have:k=j:=zjg hnod h4 hj (by rw[h5,ej])
    rw[this,ej]
theorem zlV {g:Gd}{vars:List Vt} (hv:vars.length≤1000000000000):FnD Tryz.prog 105 [.agg [.d (.i g.op),.d (.i g.var),.d (.i g.n)],.d (zc3 vars)] [] (.d (.bool (gdS g vars))) []:=by
 have hlt:=fun h=>zic (l:=vars) (n:=g.var) h
 refine bd Tryz.f105 50 [] [3] fun w0 F0 own kept hk=>?_
 refine Walk.box (id:=3002) .none rfl rfl rfl rfl rfl rfl rfl ?_
 refine ev ?_
 refine sq (fun h1 h1p h1s=>?_) fun h1 h1p h1s=>?_
 try simp only[Q] at h1p
 refine sq (fun h2 h2p h2s=>?_) fun h2 h2p h2s=>?_
 try simp only[Q] at h2p
 refine rn0 (r1 rfl) (.eqd ?_)
 rotate_left
 try simp only[Q] at h2p
 refine rn0 (r1 rfl) (.eqd ?_)
 rotate_left
 try simp only[Q] at h1p
 refine CWp.regionJ ?_
 refine WRest.join 18 [(34,.d (.bool (decide (¬(1≤g.op∧g.op≤2∧0≤g.n∧g.n≤9)))))] [17,18,19,20,21,22,23,24,25,26,27,28,29,30,31,32,33] ?_ ?_
 refine ev ?_
 refine sq (fun h3 h3p h3s=>?_) fun h3 h3p h3s=>?_
 try simp only[Q] at h3p
 refine sq (fun h4 h4p h4s=>?_) fun h4 h4p h4s=>?_
 try simp only[Q] at h4p
 refine sqT ?_
 exact jn rfl (LeA.eqb (by(first|rfl|(rw[Bool.eq_iff_iff];simp_all;done)|(rw[Bool.eq_iff_iff];simp_all;omega))))
 try simp only[Q] at h4p
 refine sq (fun h5 h5p h5s=>?_) fun h5 h5p h5s=>?_
 try simp only[Q] at h5p
 exact jn rfl (LeA.eqb (by(first|rfl|(rw[Bool.eq_iff_iff];simp_all;done)|(rw[Bool.eq_iff_iff];simp_all;omega))))
 try simp only[Q] at h5p
 exact jn rfl (LeA.eqb (by(first|rfl|(rw[Bool.eq_iff_iff];simp_all;done)|(rw[Bool.eq_iff_iff];simp_all;omega))))
 try simp only[Q] at h3p
 refine sqF ?_
 refine sq (fun h6 h6p h6s=>?_) fun h6 h6p h6s=>?_
 try simp only[Q] at h6p
 exact jn rfl (LeA.eqb (by(first|rfl|(rw[Bool.eq_iff_iff];simp_all;done)|(rw[Bool.eq_iff_iff];simp_all;omega))))
 try simp only[Q] at h6p
 exact jn rfl (LeA.eqb (by(first|rfl|(rw[Bool.eq_iff_iff];simp_all;done)|(rw[Bool.eq_iff_iff];simp_all;omega))))
 refine WRest.done ?_
 refine tv ?_
 refine sq (fun h7 h7p h7s=>?_) fun h7 h7p h7s=>?_
 try simp only[Q] at h7p
 refine rn0 (r1 rfl) (.eqd ?_)
 rotate_left
 try simp only[Q] at h7p
 refine Walk.call (cr:=[]) zn5 (zfF hv) rfl .none rfl rfl (LeL.refl _) trivial rfl rfl rfl ?_
 refine ev ?_
 refine sq (fun h8 h8p h8s=>?_) fun h8 h8p h8s=>?_
 try simp only[Q] at h8p
 refine Walk.idx (i:=(zbR vars g.var).toNat) zdv (.some rfl rfl h8) rfl rfl rfl (by have:=hlt (by omega);omega) (zay (by have:=hlt (by omega);omega)) rfl ?_
 refine evs [] [(41,true)] ?_ ⟨⟨_,rfl,h8⟩,trivial⟩
 refine rn0 (r1 rfl) (.eqd ?_)
 rotate_left
 try simp only[Q] at h8p
 refine rn0 (r1 rfl) (.eqd ?_)
 rotate_left
 all_goals (refine congrArg D.bool ?_;unfold gdS;first|(rw[if_pos (by omega)];simp_all;done)|(rw[if_neg (by omega),decide_eq_false (by omega),Bool.false_and];done)|(rw[if_neg (by omega),decide_eq_true (by omega),Bool.true_and];simp_all;done)|(rw[if_neg (by omega),decide_eq_true (by omega),Bool.true_and,decide_eq_false (by omega),Bool.false_and];done)|(rw[if_neg (by omega)];simp_all;done))
theorem zoN {w:List Data} (hw:WT w) (haz:AZ w){t:Ty}{c:Cl} (ht:TyOk w.length t) (hok:c.pat.ok) (hsz:c.pat.size≤1000000000000):
  FnD Tryz.prog 57 [.d (zao w),.agg [.d (.i t.data),.d (.i t.index)],.agg [.d (.i c.pat.op),.d (.i c.pat.ctor),.d (.i c.pat.n),.d (.i c.pat.m),.d (.i c.pat.var),.d (zad c.pat.kids),.d (.i c.g.op),.d (.i c.g.var),.d (.i c.g.n)]] [] (.d (.bool (clOk w t c))) []:=by
 have ht':TyIn w.length ⟨t.data,t.index⟩:=ht.1
 have hcl:clOk w t c=(isP w t c.pat&&gdOk c.g (zg2 w t c.pat)):=rfl
 cases hp:isP w t c.pat with
 |false=>
  have hpi:=zgX hw ht' hok hsz
  have hpi':FnD Tryz.prog 104 [.d (zao w),.agg [.d (.i t.data),.d (.i t.index)],.agg [.d (.i c.pat.op),.d (.i c.pat.ctor),.d (.i c.pat.n),.d (.i c.pat.m),.d (.i c.pat.var),.d (zad c.pat.kids)]] [] (.d (.bool false)) []:=by rw[←hp];exact hpi
  rw[hcl,hp,Bool.false_and]
  refine bd Tryz.f57 22 [] [] fun w0 F0 own kept hk=>?_
  refine Walk.box (id:=3004) .none rfl rfl rfl rfl rfl rfl rfl ?_
  refine Walk.box (id:=3005) .none rfl rfl rfl rfl rfl rfl rfl ?_
  refine ev ?_
  refine Walk.call (cr:=[]) znZ (hpi') rfl .none rfl rfl (LeL.refl _) trivial rfl rfl rfl ?_
  refine evd [] [] ?_
  refine sq (fun h1 h1p h1s=>?_) fun h1 h1p h1s=>?_
  try simp only[Q] at h1p
  exfalso;contradiction
  try simp only[Q] at h1p
  refine dr ?_
  refine rn0 (r1 rfl) (.eqd ?_)
  rotate_left
  all_goals (rfl)
 |true=>
  have hpi:=zgX hw ht' hok hsz
  have hpi':FnD Tryz.prog 104 [.d (zao w),.agg [.d (.i t.data),.d (.i t.index)],.agg [.d (.i c.pat.op),.d (.i c.pat.ctor),.d (.i c.pat.n),.d (.i c.pat.m),.d (.i c.pat.var),.d (zad c.pat.kids)]] [] (.d (.bool true)) []:=by rw[←hp];exact hpi
  have hsh:zaw w 10 ⟨t.data,t.index⟩ c.pat=true:=by
   have:=hp;unfold isP at this;simp only[Bool.and_eq_true] at this;exact this.1
  have hvl:=zeg w 10 ⟨t.data,t.index⟩ c.pat
  have hge:=ztA (g:=c.g) (zrb hp) (zoZ hw haz 10 hsh ht)
  have hge':gdS c.g (zaO w 10 ⟨t.data,t.index⟩ c.pat)=gdOk c.g (zg2 w t c.pat):=by rw[zra hp];exact hge
  rw[hcl,hp,Bool.true_and,←hge']
  refine bd Tryz.f57 22 [] [] fun w0 F0 own kept hk=>?_
  refine Walk.box (id:=3004) .none rfl rfl rfl rfl rfl rfl rfl ?_
  refine Walk.box (id:=3005) .none rfl rfl rfl rfl rfl rfl rfl ?_
  refine ev ?_
  refine Walk.call (cr:=[]) znZ (hpi') rfl .none rfl rfl (LeL.refl _) trivial rfl rfl rfl ?_
  refine evd [] [] ?_
  refine sq (fun h1 h1p h1s=>?_) fun h1 h1p h1s=>?_
  try simp only[Q] at h1p
  refine Walk.call (cr:=[]) zhH (zd5 hw hsh (by omega) ht' hok hsz) rfl (.some rfl rfl h1) rfl rfl (LeL.refl _) trivial rfl rfl rfl ?_
  refine Walk.call (cr:=[]) zsO (zlV (g:=c.g) (by omega)) rfl (.some rfl rfl h1) rfl rfl (LeL.refl _) trivial rfl rfl rfl ?_
  refine evd [] [(12,true)] ?_ ⟨⟨_,rfl,h1⟩,trivial⟩
  refine dr ?_
  refine rn0 (r1 rfl) (.eqd ?_)
  rotate_left
  try simp only[Q] at h1p
  exfalso;contradiction
  all_goals (rfl)
def ClsSz (l:List Cl):Prop:=∀c∈l,c.pat.size≤1000000000000
theorem zub {w:List Data}{t:Ty} (h:zbH w t=true):TyOk w.length t:=by
 unfold zbH at h;rw[Bool.and_eq_true] at h;exact zq8 h.2
theorem ztr {w:List Data}{t:Ty}{l:List Cl}{i:Nat} (hi:i<l.length) (h:clOk w t (nth l i)=false):zbD w t l=false:=by
 unfold zbD
 have:l.any (fun c=> !clOk w t c)=true:=List.any_eq_true.2 ⟨nth l i,zal hi,by rw[h];rfl⟩
 rw[this];simp
theorem zsq {w:List Data}{t:Ty}{l:List Cl} (ht:zbH w t=true) (hl:l.length≤8) (h:∀i,i<l.length→clOk w t (nth l i)=true):zbD w t l=true:=by
 unfold zbD
 rw[ht,decide_eq_true (by omega),Bool.true_and,Bool.true_and,Bool.not_eq_true',List.any_eq_false]
 intro c hc
 obtain⟨i,hi,rfl⟩:=List.getElem_of_mem hc
 have:=h i hi
 simp only[nth,List.getD,List.getElem?_eq_getElem hi,Option.getD_some] at this
 simp[this]
theorem zsr {w:List Data}{t:Ty}{l:List Cl} (h:8<l.length):zbD w t l=false:=by
 unfold zbD;rw[decide_eq_false (by omega),Bool.false_and,Bool.and_false]
theorem zts {w:List Data}{t:Ty}{l:List Cl} (h:zbH w t=false):zbD w t l=false:=by
 unfold zbD;rw[h,Bool.false_and]
theorem ziq {w:List Data} (hs:WSmall w){a k:Int}{l:List Cl} (hl:ClsOk l) (hz:ClsSz l):
  FnD Tryz.prog 29 [.d (zao w),.agg [.d (.i a),.d (.i k)],.d (zbM l)] [] (.d (.bool (zbD w ⟨a,k⟩ l))) []:=by
 have hll:=hl.1
 refine bd Tryz.f29 31 [] [] fun w0 F0 own kept hk=>?_
 refine Walk.box (id:=3004) .none rfl rfl rfl rfl rfl rfl rfl ?_
 refine ev ?_
 refine Walk.call (cr:=[]) ztO (zkE hs) rfl .none rfl rfl (LeL.refl _) trivial rfl rfl rfl ?_
 refine ev ?_
 refine sq (fun h1 h1p h1s=>?_) fun h1 h1p h1s=>?_
 try simp only[Q,Int.natCast_inj] at h1p
 refine sqT ?_
 refine rn0 (r1 rfl) (.eqd ?_)
 rotate_left
 try simp only[Q,Int.natCast_inj] at h1p
 refine sq (fun h3 h3p h3s=>?_) fun h3 h3p h3s=>?_
 try simp only[Q,Int.natCast_inj] at h3p
 refine rn0 (r1 rfl) (.eqd ?_)
 rotate_left
 try simp only[Q,Int.natCast_inj] at h3p
 refine CWp.loopX (ι:=Nat) hk (fun i=>[(7,.d (.i (i:Int)))]) [6,17,18,19,20,21,22,23,24,25,26,27,28,29,30] (fun i=>[]) (fun i=>i≤l.length∧∀i',i'<i→clOk w ⟨a,k⟩ (nth l i')=true) (fun i=>l.length-i) 0 ⟨by omega,fun _ h=>absurd h (by omega)⟩ ⟨⟨_,rfl,(LeA.eqi (by first|rfl|(simp;done)|(simp_all;done)|omega))⟩,trivial⟩ trivial (fun x=>rfl) (fun i hg1=>?_)
 refine evc [] [] ?_
 refine sq (fun h4 h4p h4s=>?_) fun h4 h4p h4s=>?_
 try simp only[Q,Int.natCast_inj] at h4p
 refine Walk.idx sl35 .none rfl rfl rfl rfl (zay (by omega)) rfl ?_
 refine evd [] [] ?_
 refine Walk.call (cr:=[]) ztP (zoN (t:=⟨a,k⟩) (c:=nth l i) (zkL hs (zdo (by assumption)).1) (zrI (zdo (by assumption)).1) (zub (by assumption)) (hl.2 _ (zal (by omega))) (hz _ (zal (by omega)))) rfl .none rfl rfl (LeL.refl _) trivial rfl rfl rfl ?_
 refine evd [] [] ?_
 refine dr ?_
 refine sq (fun h5 h5p h5s=>?_) fun h5 h5p h5s=>?_
 try simp only[Q,Int.natCast_inj] at h5p
 refine rn0 (r1 rfl) (.eqd ?_)
 rotate_left
 try simp only[Q,Int.natCast_inj] at h5p
 refine ar ?_
 refine Exists.intro (i+1) ⟨⟨by omega,za2 hg1.2 (by assumption)⟩,(by omega),Sub.x (by kernel_rfl) (by kernel_rfl) ⟨⟨_,rfl,(LeA.eqi (by first|rfl|(simp;done)|(simp_all;done)|omega))⟩,trivial⟩ (by kernel_rfl) (by kernel_rfl) trivial⟩
 try simp only[Q,Int.natCast_inj] at h4p
 refine rn0 (r1 rfl) (.eqd ?_)
 rotate_left
 all_goals (refine congrArg D.bool ?_;first|(rw[zts (by assumption)];done)|(rw[zsr (by omega)];done)|(rw[ztr (i:=i) (by omega) (by assumption)];done)|(rw[zsq (by assumption) (by omega) (fun x hx=>hg1.2 x (by omega))];done))
theorem zds {a b c d e:Int}{l:List Pat}:(Pat.mk a b c d e l).op=a:=rfl
theorem zcB {a b c d e:Int}{l:List Pat}:(Pat.mk a b c d e l).ctor=b:=rfl
theorem mk_n {a b c d e:Int}{l:List Pat}:(Pat.mk a b c d e l).n=c:=rfl
theorem mk_m {a b c d e:Int}{l:List Pat}:(Pat.mk a b c d e l).m=d:=rfl
theorem zc4 {a b c d e:Int}{l:List Pat}:(Pat.mk a b c d e l).var=e:=rfl
theorem zb1 {a b c d e:Int}{l:List Pat}:(Pat.mk a b c d e l).kids=l:=rfl
abbrev anyQ:Pat:= .mk 1 0 0 0 0 []
abbrev zsl:Pat:= .mk 0 0 0 0 0 []
mutual
def zaQ:Pat→Pat
 | .mk op c n m v ks=>if op=2 then anyQ else if op=6∧ks≠[] then zjG ks else .mk op c n m v (zg7 ks)
def zjG:List Pat→Pat
 | []=>anyQ
 |k::_=>zaQ k
def zg7:List Pat→List Pat
 | []=>[]
 |k::r=>zaQ k::zg7 r
end
theorem zkg:∀l:List Pat,zg7 l=l.map zaQ
 | []=>rfl
 |k::r=>by simp[zg7,zkg r]
theorem zgG (p:Pat):zaQ p=if p.op=2 then anyQ else if p.op=6∧p.kids≠[] then zaQ (nth p.kids 0) else .mk p.op p.ctor p.n p.m p.var (p.kids.map zaQ):=by
 cases p with|mk op c n m v ks=>
 have e:zaQ (.mk op c n m v ks)=if op=2 then anyQ else if op=6∧ks≠[] then zjG ks else .mk op c n m v (zg7 ks):=by conv=>lhs;unfold zaQ
 rw[e,zkg]
 by_cases h2:op=2
 ·rw[if_pos h2]
  exact(if_pos (c:=(Pat.mk op c n m v ks).op=2) h2).symm
 ·rw[if_neg h2]
  refine Eq.trans ?_ (if_neg (c:=(Pat.mk op c n m v ks).op=2) h2).symm
  by_cases h6:op=6∧ks≠[]
  ·rw[if_pos h6]
   refine Eq.trans ?_ (if_pos (c:=(Pat.mk op c n m v ks).op=6∧(Pat.mk op c n m v ks).kids≠[]) h6).symm
   cases ks with
   |nil=>exact absurd rfl h6.2
   |cons k r=>rfl
  ·rw[if_neg h6]
   exact(if_neg (c:=(Pat.mk op c n m v ks).op=6∧(Pat.mk op c n m v ks).kids≠[]) h6).symm
def zbs (out:List (List Pat)) (l:List Pat):List (List Pat):=out.flatMap fun q=>l.map fun c=>q++[c]
def zeK (ls:List (List Pat)):List (List Pat):=ls.foldl zbs [[]]
mutual
def zaC:Pat→List Pat
 | .mk op c n m v ks=>if op=5 then ztF ks else (zeK (zjQ ks)).map fun l=> .mk op c n m v l
def ztF:List Pat→List Pat
 | []=>[]
 |a::r=>zaC a++zsI r
def zsI:List Pat→List Pat
 | []=>[]
 |b::_=>zaC b
def zjQ:List Pat→List (List Pat)
 | []=>[]
 |k::r=>zaC k::zjQ r
end
theorem zlZ:∀l:List Pat,zjQ l=l.map zaC
 | []=>rfl
 |k::r=>by simp[zjQ,zlZ r]
theorem zeS {p:Pat} (h:p.op≠5):zaC p=(zeK (p.kids.map zaC)).map fun l=> .mk p.op p.ctor p.n p.m p.var l:=by
 cases p with|mk op c n m v ks=>
 have h':¬op=5:=h
 conv=>lhs;unfold zaC
 rw[if_neg h',zlZ];rfl
theorem zgZ {p:Pat} (h:p.op=5) (hk:p.kids.length=2):zaC p=zaC (nth p.kids 0)++zaC (nth p.kids 1):=by
 cases p with|mk op c n m v ks=>
 have h':op=5:=h
 conv=>lhs;unfold zaC
 rw[if_pos h']
 have hk':ks.length=2:=hk
 match ks,hk' with
 | [a,b],_=>rfl
mutual
def cntS:Pat→Int
 | .mk op _ _ _ _ ks=>if op=5 then cntO ks 0 else cntM ks 1
def cntO:List Pat→Int→Int
 | [],n=>n
 |k::r,n=>cntO r (cap (n+cntS k))
def cntM:List Pat→Int→Int
 | [],n=>n
 |k::r,n=>cntM r (cap (n*cntS k))
end
theorem zmb (p:Pat):cntS p=if p.op=5 then cntO p.kids 0 else cntM p.kids 1:=by
 cases p with|mk op c n m v ks=>
 conv=>lhs;unfold cntS
 rfl
mutual
theorem zma:∀p:Pat,0≤cntS p∧cntS p≤401
 | .mk op _ _ _ _ ks=>by
  unfold cntS
  split
  ·exact zpn ks 0 (by omega) (by omega)
  ·exact zpl ks 1 (by omega) (by omega)
theorem zpn:∀(l:List Pat) (n:Int),0≤n→n≤401→0≤cntO l n∧cntO l n≤401
 | [],n,h1,h2=>⟨h1,h2⟩
 |k::r,n,h1,h2=>by
  unfold cntO
  have h3:=zma k
  have h4:=zkZ (x:=n+cntS k) (by omega)
  exact zpn r _ h4.1 h4.2
theorem zpl:∀(l:List Pat) (n:Int),0≤n→n≤401→0≤cntM l n∧cntM l n≤401
 | [],n,h1,h2=>⟨h1,h2⟩
 |k::r,n,h1,h2=>by
  unfold cntM
  have h3:=zma k
  have h4:=zkZ (x:=n*cntS k) (Int.mul_nonneg h1 h3.1)
  exact zpl r _ h4.1 h4.2
end
theorem zqA {l:List Pat}{i:Nat}{n:Int} (h:i<l.length):cntO (l.drop i) n=cntO (l.drop (i+1)) (cap (n+cntS (nth l i))):=by
 rw[zbc h];rfl
theorem zqz {l:List Pat}{i:Nat}{n:Int} (h:i<l.length):cntM (l.drop i) n=cntM (l.drop (i+1)) (cap (n*cntS (nth l i))):=by
 rw[zbc h];rfl
def binP:Nat→Pat→Bool
 |0,_=>false
 |n+1,p=>decide (p.op=5→p.kids.length=2)&&p.kids.all (binP n)
theorem zei {n:Nat}{p:Pat} (h:binP (n+1) p=true){i:Nat} (hi:i<p.kids.length):binP n (nth p.kids i)=true:=by
 unfold binP at h
 rw[Bool.and_eq_true,List.all_eq_true] at h
 exact h.2 _ (zal hi)
theorem zjC {n:Nat}{p:Pat} (h:binP (n+1) p=true) (h5:p.op=5):p.kids.length=2:=by
 unfold binP at h
 rw[Bool.and_eq_true] at h
 exact(of_decide_eq_true h.1) h5
theorem znX:∀(n:Nat){p:Pat},binP n p=true→binP (n+1) p=true
 |0,p,h=>by simp[binP] at h
 |n+1,p,h=>by
  have h':=h
  unfold binP at h ⊢
  rw[Bool.and_eq_true,List.all_eq_true] at h ⊢
  exact⟨h.1,fun k hk=>znX n (h.2 k hk)⟩
theorem zhr {w:List Data}:∀(n:Nat){t:Ty}{p:Pat},zaw w n t p=true→binP n (zaQ p)=true
 |0,t,p,h=>by simp[zaw] at h
 |n+1,t,p,h=>by
  obtain⟨ho,hlen⟩:=zb3 h
  have hany:binP (n+1) anyQ=true:=by simp[binP,anyQ,Pat.op,Pat.kids]
  rw[zgG]
  by_cases h2:p.op=2
  ·rw[if_pos h2];exact hany
  rw[if_neg h2]
  by_cases h6:p.op=6
  ·obtain⟨hl,s0⟩:=zjn h h6
   rw[if_pos ⟨h6,fun e=>by rw[e] at hl;simp at hl⟩]
   exact znX n (zhr n s0)
  rw[if_neg (fun h=>h6 h.1)]
  unfold binP
  rw[Bool.and_eq_true,List.all_eq_true]
  refine⟨decide_eq_true (fun h5=>?_),fun k hk=>?_⟩
  ·have:=(zjo h h5).1;simpa [Pat.kids] using this
  ·simp only[Pat.kids,List.mem_map] at hk
   obtain⟨x,hx,rfl⟩:=hk
   obtain⟨i,hi,rfl⟩:=List.getElem_of_mem hx
   have:=zhr n (zb2 h hi)
   have e:nth p.kids i=p.kids[i]:=za9 hi
   rw[e] at this
   exact this
theorem zf3 (out:List (List Pat)) (l:List Pat):(zbs out l).length=out.length*l.length:=by
 unfold zbs
 induction out with
 |nil=>simp
 |cons q r ih=>rw[List.flatMap_cons,List.length_append,ih,List.length_map,List.length_cons,Nat.succ_mul];omega
theorem zpY (ls:List (List Pat)) (l:List Pat):zeK (ls++[l])=zbs (zeK ls) l:=by unfold zeK;rw[List.foldl_append];rfl
theorem zsp {a b:Nat}:cap (cap (a:Int)*cap (b:Int))=cap ((a*b:Nat):Int):=by
 unfold cap
 rcases Nat.eq_zero_or_pos a with rfl|ha
 ·simp
 rcases Nat.eq_zero_or_pos b with rfl|hb
 ·simp
 have h1:a≤a*b:=Nat.le_mul_of_pos_right a hb
 have h2:b≤a*b:=Nat.le_mul_of_pos_left b ha
 have hab:((a*b:Nat):Int)=(a:Int)*(b:Int):=by push_cast;rfl
 by_cases ca:401<(a:Int)
 ·rw[if_pos ca]
  by_cases cb:401<(b:Int)
  ·rw[if_pos cb,if_pos (by omega),if_pos (by omega)]
  ·rw[if_neg cb]
   have h3:(401:Int)*1≤401*(b:Int):=Int.mul_le_mul_of_nonneg_left (by omega) (by omega)
   rw[if_pos (show 401<((a*b:Nat):Int) by omega)]
   split<;>omega
 ·rw[if_neg ca]
  by_cases cb:401<(b:Int)
  ·rw[if_pos cb]
   have h3:(1:Int)*401≤(a:Int)*401:=Int.mul_le_mul_of_nonneg_right (by omega) (by omega)
   rw[if_pos (show 401<((a*b:Nat):Int) by omega)]
   split<;>omega
  ·rw[if_neg cb,hab]
theorem zsn {a b:Nat}:cap (cap (a:Int)+cap (b:Int))=cap ((a+b:Nat):Int):=by
 unfold cap
 push_cast
 split<;>split<;>split<;>(try split)<;>omega
theorem zso {x:Int}:cap (cap x)=cap x:=by unfold cap;split<;>(try split)<;>omega
theorem zpm:∀(l:List Pat) (out:List (List Pat)),(∀k∈l,cntS k=cap ((zaC k).length:Int)∧0<(zaC k).length)→cntM l (cap (out.length:Int))=cap (((l.map zaC).foldl zbs out).length:Int)∧(0<out.length→0<((l.map zaC).foldl zbs out).length)
 | [],out,_=>⟨rfl,fun h=>h⟩
 |k::r,out,h=>by
  have hk:=h k (by simp)
  unfold cntM
  rw[hk.1,zsp]
  have:=zpm r (zbs out (zaC k)) (fun x hx=>h x (by simp[hx]))
  rw[zf3] at this
  rw[List.map_cons,List.foldl_cons]
  exact⟨this.1,fun ho=>this.2 (Nat.mul_pos ho hk.2)⟩
theorem zk3:∀(n:Nat){p:Pat},binP n p=true→cntS p=cap ((zaC p).length:Int)∧0<(zaC p).length
 |0,p,h=>by simp[binP] at h
 |n+1,p,h=>by
  have ih:=fun i (hi:i<p.kids.length)=>zk3 n (zei h hi)
  rw[zmb]
  by_cases h5:p.op=5
  ·have hl:=zjC h h5
   rw[if_pos h5,zgZ h5 hl,List.length_append]
   have k0:=ih 0 (by omega)
   have k1:=ih 1 (by omega)
   have e:p.kids=[nth p.kids 0,nth p.kids 1]:=by
    match hk:p.kids,hl with
    | [a,b],_=>rfl
   refine⟨?_,by omega⟩
   rw[e]
   simp only[cntO]
   rw[Int.zero_add,k0.1,zso,k1.1]
   show cap (cap ((zaC (nth p.kids 0)).length:Int)+cap ((zaC (nth p.kids 1)).length:Int))=_
   rw[zsn];rfl
  ·rw[if_neg h5,zeS h5,List.length_map]
   have:=zpm p.kids [[]] (fun k hk=>by
    obtain⟨i,hi,rfl⟩:=List.getElem_of_mem hk
    have:=ih i hi
    simpa [nth,List.getD,hi] using this)
   exact⟨this.1,this.2 (by simp)⟩
theorem zgL:∀(ls:List (List Pat)) (out:List (List Pat)),(∀l∈ls,0<l.length)→out.length≤(ls.foldl zbs out).length
 | [],out,_=>Nat.le_refl _
 |l::r,out,h=>by
  rw[List.foldl_cons]
  have h1:=zgL r (zbs out l) (fun x hx=>h x (by simp[hx]))
  rw[zf3] at h1
  have h2:out.length≤out.length*l.length:=Nat.le_mul_of_pos_right _ (h l (by simp))
  omega
theorem ziz:∀(ls:List (List Pat)) (out:List (List Pat)),(∀l∈ls,0<l.length)→0<out.length→∀l∈ls,l.length≤(ls.foldl zbs out).length
 | [],out,_,_,l,hl=>by simp at hl
 |x::r,out,h,ho,l,hl=>by
  rw[List.foldl_cons]
  have hx:=h x (by simp)
  have hp:0<(zbs out x).length:=by rw[zf3];exact Nat.mul_pos ho hx
  rcases List.mem_cons.1 hl with rfl|hl
  ·have h1:=zgL r (zbs out l) (fun y hy=>h y (by simp[hy]))
   rw[zf3] at h1
   have h2:l.length≤out.length*l.length:=Nat.le_mul_of_pos_left _ ho
   omega
  ·exact ziz r (zbs out x) (fun y hy=>h y (by simp[hy])) hp l hl
theorem zhu {n:Nat}{p:Pat} (h:binP (n+1) p=true){i:Nat} (hi:i<p.kids.length):(zaC (nth p.kids i)).length≤(zaC p).length:=by
 by_cases h5:p.op=5
 ·have hl:=zjC h h5
  rw[zgZ h5 hl,List.length_append]
  have:i=0∨i=1:=by omega
  rcases this with rfl|rfl<;>omega
 ·rw[zeS h5,List.length_map]
  refine ziz _ [[]] (fun l hl=>?_) (by simp) _ (List.mem_map.2 ⟨_,zal hi,rfl⟩)
  obtain⟨k,hk,rfl⟩:=List.mem_map.1 hl
  obtain⟨j,hj,rfl⟩:=List.getElem_of_mem hk
  have:=(zk3 n (zei h hj)).2
  simpa [nth,List.getD,hj] using this
theorem zpe {n:Nat}{p:Pat} (h:binP (n+1) p=true) (h5:p.op≠5) (i:Nat):(zeK ((p.kids.take i).map zaC)).length≤(zaC p).length:=by
 rw[zeS h5,List.length_map]
 have e:p.kids.map zaC=(p.kids.take i).map zaC++(p.kids.drop i).map zaC:=by rw[←List.map_append,List.take_append_drop]
 unfold zeK
 rw[e,List.foldl_append]
 refine zgL _ _ (fun l hl=>?_)
 obtain⟨k,hk,rfl⟩:=List.mem_map.1 hl
 obtain⟨j,hj,rfl⟩:=List.getElem_of_mem (List.mem_of_mem_drop hk)
 have:=(zk3 n (zei h hj)).2
 simpa [nth,List.getD,hj] using this
def zam (w:List Data):Nat→Ty→Pat→Bool
 |0,_,_=>false
 |n+1,t,p=>(ownP w t p&&decide (p.op=1∨p.op=3∨p.op=4))&&all2 (zam w n) (zag w t p) p.kids
theorem zkf {α β:Type}{f g:α→β→Bool}:∀ {a:List α}{b:List β},(∀x∈a,∀y∈b,f x y=true→g x y=true)→all2 f a b=true→all2 g a b=true
 | [],[],_,_=>rfl
 |x::r,y::s,h,h2=>by
  simp only[all2,Bool.and_eq_true] at h2 ⊢
  exact⟨h x (by simp) y (by simp) h2.1,zkf (fun a ha b hb=>h a (by simp[ha]) b (by simp[hb])) h2.2⟩
 | [],_::_,_,h2=>by simp[all2] at h2
 |_::_,[],_,h2=>by simp[all2] at h2
theorem zgq {w:List Data}:∀(n:Nat){t:Ty}{p:Pat},zam w n t p=true→zaw w n t p=true
 |0,t,p,h=>by simp[zam] at h
 |n+1,t,p,h=>by
  unfold zam at h
  unfold zaw
  simp only[Bool.and_eq_true] at h ⊢
  exact⟨h.1.1,zkf (fun x _ y _ hh=>zgq n hh) h.2⟩
theorem zf1 {w:List Data}:∀(n:Nat){t:Ty}{p:Pat},zam w n t p=true→zam w (n+1) t p=true
 |0,t,p,h=>by simp[zam] at h
 |n+1,t,p,h=>by
  unfold zam at h ⊢
  simp only[Bool.and_eq_true] at h ⊢
  exact⟨h.1,zkf (fun x _ y _ hh=>zf1 n hh) h.2⟩
theorem zck {w:List Data}{n:Nat}{t:Ty}{p:Pat} (h:zam w n t p=true):p.op=1∨p.op=3∨p.op=4:=by
 cases n with
 |zero=>simp[zam] at h
 |succ n=>unfold zam at h;simp only[Bool.and_eq_true] at h;exact of_decide_eq_true h.1.2
theorem zgU {w:List Data}{n:Nat}{t:Ty}{p:Pat} (h:zam w n t p=true):ownP w t p=true∧p.kids.length=(zag w t p).length:=by
 cases n with
 |zero=>simp[zam] at h
 |succ n=>exact zb3 (zgq _ h)
theorem zbw {w:List Data}{n:Nat}{t:Ty}{p:Pat} (h:zam w (n+1) t p=true){i:Nat} (hi:i<p.kids.length):zam w n (nth (zag w t p) i) (nth p.kids i)=true:=by
 have hl:=(zgU h).2
 unfold zam at h
 simp only[Bool.and_eq_true] at h
 exact zrf hl.symm h.2 i (by omega)
theorem zsF {w:List Data}{t:Ty}{p:Pat}{l:List Pat}:ownP w t (.mk p.op p.ctor p.n p.m p.var l)=ownP w t p:=rfl
theorem zq9 {w:List Data}{t:Ty}{p:Pat}{l:List Pat}:zag w t (.mk p.op p.ctor p.n p.m p.var l)=zag w t p:=rfl
theorem zji:∀(ls:List (List Pat)) (out:List (List Pat)) (l:List Pat),l∈ls.foldl zbs out→∃q∈out,∃r:List Pat,l=q++r∧r.length=ls.length∧∀i,i<ls.length→nth r i∈nth ls i
 | [],out,l,h=>⟨l,h,[],by simp,rfl,fun i hi=>by simp at hi⟩
 |x::rs,out,l,h=>by
  rw[List.foldl_cons] at h
  obtain⟨q,hq,r,e,hl,hm⟩:=zji rs (zbs out x) l h
  unfold zbs at hq
  simp only[List.mem_flatMap,List.mem_map] at hq
  obtain⟨q0,hq0,c,hc,rfl⟩:=hq
  refine⟨q0,hq0,c::r,by rw[e];simp,by simp[hl],fun i hi=>?_⟩
  cases i with
  |zero=>exact hc
  |succ i=>exact hm i (by simpa using hi)
theorem ziO {w:List Data}{n:Nat}{t:Ty}:zam w (n+1) t anyQ=true:=by
 unfold zam
 have h1:zag w t anyQ=[]:=by unfold zag;rw[if_neg (by decide),if_neg (by decide),if_neg (by decide)]
 rw[h1]
 have h2:ownP w t anyQ=true:=by unfold ownP;exact decide_eq_true (by simp[anyQ,Pat.op,Pat.var,Pat.n,Pat.m,Pat.ctor])
 rw[h2];rfl
theorem zpH:zaC anyQ=[anyQ]:=by
 rw[zeS (by decide)];rfl
theorem zp2 {w:List Data}{n:Nat}{t:Ty}{p:Pat} (h:zaw w (n+1) t p=true) (h4:p.op≠4) (h5:p.op≠5) (h6:p.op≠6):p.kids=[]:=by
 have hl:=(zb3 h).2
 unfold zag at hl
 rw[if_neg h4,if_neg h5,if_neg h6] at hl
 exact List.eq_nil_of_length_eq_zero hl
theorem zgV {w:List Data}:∀(n:Nat){t:Ty}{p:Pat},zaw w n t p=true→∀x∈zaC (zaQ p),zam w n t x=true
 |0,t,p,h=>by simp[zaw] at h
 |n+1,t,p,h=>by
  obtain⟨ho,hlen⟩:=zb3 h
  have hop:=zrB h
  intro x hx
  rw[zgG] at hx
  by_cases h2:p.op=2
  ·rw[if_pos h2,zpH,List.mem_singleton] at hx
   rw[hx];exact ziO
  rw[if_neg h2] at hx
  by_cases h6:p.op=6
  ·obtain⟨hl,s0⟩:=zjn h h6
   rw[if_pos ⟨h6,fun e=>by rw[e] at hl;simp at hl⟩] at hx
   exact zf1 n (zgV n s0 x hx)
  rw[if_neg (fun h=>h6 h.1)] at hx
  by_cases h5:p.op=5
  ·obtain⟨hl,s0,s1⟩:=zjo h h5
   have hl2:(p.kids.map zaQ).length=2:=by rw[List.length_map];exact hl
   rw[zgZ (p:= .mk p.op p.ctor p.n p.m p.var (p.kids.map zaQ)) h5 hl2] at hx
   have e0:nth (p.kids.map zaQ) 0=zaQ (nth p.kids 0):=by
    match hk:p.kids,hl with
    | [a,b],_=>rfl
   have e1:nth (p.kids.map zaQ) 1=zaQ (nth p.kids 1):=by
    match hk:p.kids,hl with
    | [a,b],_=>rfl
   simp only[zb1] at hx
   rw[e0,e1] at hx
   rcases List.mem_append.1 hx with hx|hx
   ·exact zf1 n (zgV n s0 x hx)
   ·exact zf1 n (zgV n s1 x hx)
  rw[zeS (p:= .mk p.op p.ctor p.n p.m p.var (p.kids.map zaQ)) h5] at hx
  simp only[zb1,zds,zcB,mk_n,mk_m,zc4,List.mem_map] at hx
  obtain⟨l,hl,rfl⟩:=hx
  obtain⟨q,hq,r,e,hlr,hm⟩:=zji _ _ _ hl
  rw[List.mem_singleton] at hq
  rw[hq,List.nil_append] at e
  subst e
  simp only[List.map_map,List.length_map] at hlr hm
  unfold zam
  rw[zsF,zq9,ho,decide_eq_true (show _∨_∨_ from by rw[zds];omega),Bool.true_and,Bool.true_and]
  refine zcv (by rw[zb1];omega) (fun i hi=>?_)
  have hm':=hm i (by omega)
  have e2:nth (p.kids.map (zaC ∘ zaQ)) i=zaC (zaQ (nth p.kids i)):=by
   rw[za9 (by simp;omega)];simp[nth,List.getD,show i<p.kids.length by omega]
  rw[e2] at hm'
  exact zgV n (zb2 h (by omega)) _ hm'
theorem Pats.ok_of:∀ {l:List Pat},(∀k∈l,k.ok)→Pats.ok l
 | [],_=>trivial
 |k::r,h=>⟨h k (by simp),Pats.ok_of (fun x hx=>h x (by simp[hx]))⟩
theorem Pats.size_of {m:Nat}:∀ {l:List Pat},(∀k∈l,k.size≤m)→Pats.size l≤l.length*m
 | [],_=>by simp[Pats.size]
 |k::r,h=>by
  have h1:=h k (by simp)
  have h2:=Pats.size_of (l:=r) (fun x hx=>h x (by simp[hx]))
  simp only[Pats.size,List.length_cons,Nat.succ_mul];omega
mutual
theorem zjB:∀p:Pat,p.ok→(zaQ p).ok
 | .mk op c n m v ks,h=>by
  unfold zaQ
  split
  ·exact⟨by simp,trivial⟩
  ·split
   ·exact zro ks h.2
   ·exact⟨by rw[zkg,List.length_map];exact h.1,znW ks h.2⟩
theorem zro:∀l:List Pat,Pats.ok l→(zjG l).ok
 | [],_=>⟨by simp,trivial⟩
 |k::r,h=>zjB k h.1
theorem znW:∀l:List Pat,Pats.ok l→Pats.ok (zg7 l)
 | [],_=>trivial
 |k::r,h=>⟨zjB k h.1,znW r h.2⟩
end
mutual
theorem zmN:∀p:Pat,(zaQ p).size≤p.size
 | .mk op c n m v ks=>by
  unfold zaQ
  split
  ·simp[anyQ,Pat.size,Pats.size]
  ·split
   ·have:=zpT ks;simp only[Pat.size];omega
   ·have:=zkP ks;simp only[Pat.size];omega
theorem zpT:∀l:List Pat,(zjG l).size≤1+Pats.size l
 | []=>by simp[zjG,anyQ,Pat.size,Pats.size]
 |k::r=>by have:=zmN k;simp only[zjG,Pats.size];omega
theorem zkP:∀l:List Pat,Pats.size (zg7 l)≤Pats.size l
 | []=>Nat.le_refl _
 |k::r=>by have:=zmN k;have:=zkP r;simp only[zg7,Pats.size];omega
end
end Go.Proofs.YtfiihhedihkdoaaGreat
namespace Go.Proofs.YtfiihhedihkdoaaGreat
open Go
set_option linter.unusedSimpArgs false
set_option linter.unusedVariables false
def capN (n:Nat):Nat:=if 401<n then 401 else n
end Go.Proofs.YtfiihhedihkdoaaGreat
namespace Go.Proofs.YtfiihhedihkdoaaGreat
open Go
set_option linter.unusedSimpArgs false
set_option linter.unusedVariables false
set_option maxRecDepth 100000
set_option maxHeartbeats 2000000
theorem Val.cs_cc (l:List Val):Val.cs l=l.map Val.cc:=by
 rw[Val.cs_eq];exact List.map_congr_left (fun v _=>Val.c_eq v)
end Go.Proofs.YtfiihhedihkdoaaGreat
namespace Go.Proofs.YtfiihhedihkdoaaGreat
open Go
set_option linter.unusedSimpArgs false
set_option linter.unusedVariables false
theorem Vals.ok_of:∀ {l:List Val},(∀v∈l,v.ok)→Vals.ok l
 | [],_=>trivial
 |v::r,h=>⟨h v (by simp),Vals.ok_of (fun x hx=>h x (List.mem_cons_of_mem _ hx))⟩
end Go.Proofs.YtfiihhedihkdoaaGreat
namespace Go.Proofs.YtfiihhedihkdoaaGreat
open Go
set_option linter.unusedSimpArgs false
set_option linter.unusedVariables false
set_option maxRecDepth 100000
set_option maxHeartbeats 2000000
theorem Pat.cs_cd (l:List Pat):Pat.cs l=l.map Pat.cc:=by
 rw[Pat.cs_eq];exact List.map_congr_left (fun v _=>Pat.c_eq v)
theorem zbm (l:List Pat):∀x∈Pat.cs l,x.length=6:=Pat.cs_rows
theorem zbI (l:List Pat):∀x∈l.map Pat.cc,x.length=6:=fun x hx=>by
 obtain⟨y,_,rfl⟩:=List.mem_map.1 hx;rfl
theorem zpg {p:Pat} (h:p.op=2):zaQ p=anyQ:=by rw[zgG,if_pos h]
theorem zph {p:Pat} (h:p.op=6) (h2:0<p.kids.length):zaQ p=zaQ (nth p.kids 0):=by
 rw[zgG,if_neg (by omega),if_pos ⟨h,fun e=>by rw[e] at h2;simp at h2⟩]
theorem zpi {p:Pat} (h:p.op≠2) (h2:¬(p.op=6∧0<p.kids.length)):zaQ p = .mk p.op p.ctor p.n p.m p.var (p.kids.map zaQ):=by
 rw[zgG,if_neg h,if_neg (fun hh=>h2 ⟨hh.1,List.length_pos_iff.2 hh.2⟩)]
theorem zfY:∀(n:Nat){p:Pat},p.size≤n→p.ok→FnD Tryz.prog 136 [.agg [.d (.i p.op),.d (.i p.ctor),.d (.i p.n),.d (.i p.m),.d (.i p.var),.d (zad p.kids)]] [] (.agg [.d (.i p.op),.d (.i p.ctor),.d (.i p.n),.d (.i p.m),.d (.i p.var),.d (zad p.kids)]) []
 |0,p,h,_=>by rw[Pat.size_eq] at h;omega
 |n+1,p,h,hok=>by
  rw[Pat.size_eq] at h
  rw[Pat.ok_iff] at hok
  have hok1:=hok.1
  refine bd Tryz.f136 24 [] [] fun w0 F0 own kept hk=>?_
  refine Walk.box (id:=3001) .none rfl rfl rfl rfl rfl rfl rfl ?_
  refine Walk.alloc (id:=3002) tz77 rfl .none rfl rfl rfl rfl ?_
  refine tv ?_
  refine Walk.store ty28 .none rfl rfl rfl rfl rfl rfl (by simp) rfl ?_
  refine tv ?_
  refine CWp.tokB 3001 5 7 6 rfl rfl rfl rfl ?_
  refine CWp.loopX (ι:=List (Pat)×List (Pat)) hk (fun x=>[(11,.d (.i (x.1.length:Int)))]) [5,12,13,14,15,16,17,18,19,20,21,22] (fun x=>[(3001,some (.box [.d (.i p.op),.d (.i p.ctor),.d (.i p.n),.d (.i p.m),.d (.i p.var),.gl 7 (x.1.map Pat.cc)])),(7,some (.tok (x.1.map Pat.cc).length 6))]) (fun x=>x.1++x.2=p.kids) (fun x=>x.2.length) ([],p.kids) (by simp) ⟨⟨_,rfl,(LeA.eqi (by first|rfl|(simp;done)|(simp_all;done)|omega))⟩,trivial⟩ ⟨(by first|rfl|(simp[getH];done)),⟨zae (by first|rfl|(simp;done)|(simp;omega)|(first|rfl|(simp;done)|(simp_all;done)|omega)),trivial⟩⟩ (fun x=>rfl) (fun x hg1=>?_)
  obtain⟨pre,rest⟩:=x
  dsimp only at hg1 ⊢
  refine evc [] [] ?_
  refine sq (fun h1 h1p h1s=>?_) fun h1 h1p h1s=>?_
  try simp only[Q,Pat.cs_len] at h1p
  rcases rest with _|⟨y,rest⟩
  ·exfalso;simp_all
  refine Walk.idx sl28 .none rfl rfl rfl rfl (Pat.cs_at' hg1) rfl ?_
  refine ev ?_
  refine Walk.alloc (id:=3005) tz77 rfl .none rfl rfl rfl rfl ?_
  refine Walk.store ty77 .none rfl rfl rfl rfl rfl rfl (by simp) rfl ?_
  refine tv ?_
  refine Walk.call (cr:=[]) ziV (zfY n (p:=y) (by have:=Pats.size_mem (l:=p.kids) (v:=y) (by rw[←hg1];simp);omega) (Pats.ok_mem hok.2 y (by rw[←hg1];simp))) rfl .none rfl rfl (LeL.refl _) trivial rfl rfl rfl ?_
  refine Walk.sliceLit sl28 tz77 rfl (by decide) (ks:=[0]) (xs:=[_]) rfl rfl (by decide) (by decide) .none rfl rfl rfl rfl ?_
  refine Walk.append sl28 zz77 rfl .none rfl rfl rfl rfl (zaG rfl (by first|rfl|(simp;done)|(simp;omega))) (by intro x hx;first|(simp at hx;subst hx;rfl)|exact zbI _ x hx) (by have:=congrArg List.length hg1;simp at this;simp;omega) (by have:=congrArg List.length hg1;simp at this;simp;omega) ?_
  refine evd [] [] ?_
  refine Walk.store ty28 .none rfl rfl rfl rfl rfl rfl (by simp) rfl ?_
  refine dr ?_
  refine ar ?_
  refine Exists.intro ((pre++[y],rest)) ⟨(by have hz:=hg1;rw[←hz];simp),(by simp),Sub.x (by kernel_rfl) (by kernel_rfl) ⟨⟨_,rfl,(LeA.eqi (by first|rfl|(simp;done)|(simp_all;done)|omega))⟩,trivial⟩ (by kernel_rfl) (by kernel_rfl) ⟨(by first|rfl|(simp[getH];done)),⟨zae (by first|rfl|(simp;done)|(simp;omega)|(first|rfl|(simp;done)|(simp_all;done)|omega)),trivial⟩⟩⟩
  try simp only[Q,Pat.cs_len] at h1p
  have hrest:rest=[]:=by
   rcases rest with _|⟨a,b⟩
   ·rfl
   ·exfalso;have hz:=congrArg List.length (hg1);simp only[List.length_append,List.length_cons,List.length_map] at hz;omega
  subst hrest
  refine Walk.store ty77 .none rfl rfl rfl rfl rfl rfl (by simp) rfl ?_
  refine tv ?_
  refine rn0 (.cons (.cellA ty77 rfl rfl rfl) .nil) (.agg (.cons (.eqd ?_) (.cons (.eqd ?_) (.cons (.eqd ?_) (.cons (.eqd ?_) (.cons (.eqd ?_) (.cons (.gld ?_) .nil)))))))
  rotate_left 6
  all_goals (first|rfl|(rw[List.append_nil] at hg1;rw[←hg1,Pat.cs_cd];done))
theorem ziJ {l:List Pat} (h:l.length≤1000000000000) (hok:∀p∈l,p.ok):FnD Tryz.prog 76 [.d (zad l)] [] (.d (zad l)) []:=by
 refine bd Tryz.f76 19 [3] [] fun w0 F0 own kept hk=>?_
 refine Walk.assignNil 1 6 .none rfl rfl ?_
 refine tv ?_
 refine CWp.loopX (ι:=List (Pat)×List (Pat)) hk (fun x=>[(8,.d (.i (x.1.length:Int))),(3,.gl 1 (x.1.map Pat.cc))]) [5,9,10,11,12,13,14,15,16,17] (fun x=>[(1,some (.tok ((x.1.map Pat.cc)).length 6))]) (fun x=>x.1++x.2=l) (fun x=>x.2.length) ([],l) (by simp) ⟨⟨_,rfl,(LeA.eqi (by first|rfl|(simp;done)|(simp_all;done)|omega))⟩,⟨⟨_,rfl,(LeA.glg (by first|rfl|(simp;done)|(simp_all;done)|omega))⟩,trivial⟩⟩ ⟨zae (by first|rfl|(simp;done)|(simp;omega)|(first|rfl|(simp;done)|(simp_all;done)|omega)),trivial⟩ (fun x=>rfl) (fun x hg1=>?_)
 obtain⟨pre,rest⟩:=x
 dsimp only at hg1 ⊢
 refine evc [3] [] ?_
 refine sq (fun h1 h1p h1s=>?_) fun h1 h1p h1s=>?_
 try simp only[Q,Pat.cs_len] at h1p
 rcases rest with _|⟨y,rest⟩
 ·exfalso;simp_all
 refine Walk.idx sl28 .none rfl rfl rfl rfl (Pat.cs_at' hg1) rfl ?_
 refine evs [3] [] ?_
 refine Walk.alloc (id:=3005) tz77 rfl .none rfl rfl rfl rfl ?_
 refine Walk.store ty77 .none rfl rfl rfl rfl rfl rfl (by simp) rfl ?_
 refine tv ?_
 refine Walk.call (cr:=[]) ziV (zfY _ (Nat.le_refl _) (hok y (by rw[←hg1];simp))) rfl .none rfl rfl (LeL.refl _) trivial rfl rfl rfl ?_
 refine Walk.sliceLit sl28 tz77 rfl (by decide) (ks:=[0]) (xs:=[_]) rfl rfl (by decide) (by decide) .none rfl rfl rfl rfl ?_
 refine Walk.append sl28 zz77 rfl .none rfl rfl rfl rfl (zaG rfl (by first|rfl|(simp;done)|(simp;omega))) (by intro x hx;simp at hx;subst hx;rfl) (by have:=congrArg List.length hg1;simp at this;simp;omega) (by have:=congrArg List.length hg1;simp at this;simp;omega) ?_
 refine asg ?_
 refine tv ?_
 refine ar ?_
 refine Exists.intro ((pre++[y],rest)) ⟨(by have hz:=hg1;rw[←hz];simp),(by simp),Sub.x (by kernel_rfl) (by kernel_rfl) ⟨⟨_,rfl,(LeA.eqi (by first|rfl|(simp;done)|(simp_all;done)|omega))⟩,⟨⟨_,rfl,(LeA.glg (by first|rfl|(simp;done)|(simp_all;done)|omega))⟩,trivial⟩⟩ (by kernel_rfl) (by kernel_rfl) ⟨zae (by first|rfl|(simp;done)|(simp;omega)|(first|rfl|(simp;done)|(simp_all;done)|omega)),trivial⟩⟩
 try simp only[Q,Pat.cs_len] at h1p
 have hrest:rest=[]:=by
  rcases rest with _|⟨a,b⟩
  ·rfl
  ·exfalso;have hz:=congrArg List.length (hg1);simp only[List.length_append,List.length_cons,List.length_map] at hz;omega
 subst hrest
 refine rn0 (r1 rfl) (.gld ?_)
 rotate_left
 all_goals (first|rfl|(rw[List.append_nil] at hg1;rw[←hg1,Pat.cs_cd];done))
theorem zdd:FnD Tryz.prog 38 [] [] (.agg [.d (.i 1),.d (.i 0),.d (.i 0),.d (.i 0),.d (.i 0),.d (.sl [])]) []:=by
 refine bd Tryz.f38 2 [] [] fun w0 F0 own kept hk=>?_
 refine Walk.alloc (id:=3000) tz77 rfl .none rfl rfl rfl rfl ?_
 refine tv ?_
 refine Walk.build st77 (ks:=[0]) (xs:=[_]) rfl rfl .none rfl rfl rfl ?_
 refine Walk.store ty77 .none rfl rfl rfl rfl rfl rfl (by simp) rfl ?_
 refine tv ?_
 focus (refine rn0 (.cons (.cellA ty77 rfl rfl rfl) .nil) (.agg (.cons (.eqd ?_) (.cons (.eqd ?_) (.cons (.eqd ?_) (.cons (.eqd ?_) (.cons (.eqd ?_) (.cons (.nild ?_) .nil)))))));all_goals (first|rfl|(simp[];done)|(simp_all;done)|(simp_all;omega)|omega))
theorem zc6:∀(n:Nat){p:Pat},p.size≤n→p.ok→FnD Tryz.prog 119 [.agg [.d (.i p.op),.d (.i p.ctor),.d (.i p.n),.d (.i p.m),.d (.i p.var),.d (zad p.kids)]] [] (.agg [.d (.i (zaQ p).op),.d (.i (zaQ p).ctor),.d (.i (zaQ p).n),.d (.i (zaQ p).m),.d (.i (zaQ p).var),.d (zad (zaQ p).kids)]) []
 |0,p,h,_=>by rw[Pat.size_eq] at h;omega
 |n+1,p,h,hok=>by
  rw[Pat.size_eq] at h
  rw[Pat.ok_iff] at hok
  have hok1:=hok.1
  by_cases h2:p.op=2
  ·rw[zpg h2]
   refine bd Tryz.f119 44 [] [] fun w0 F0 own kept hk=>?_
   refine Walk.box (id:=3001) .none rfl rfl rfl rfl rfl rfl rfl ?_
   refine Walk.alloc (id:=3002) tz77 rfl .none rfl rfl rfl rfl ?_
   refine tv ?_
   refine sq (fun h1 h1p h1s=>?_) fun h1 h1p h1s=>?_
   try simp only[Q] at h1p
   refine Walk.call (cr:=[]) znL (zdd) rfl .none rfl rfl (LeL.refl _) trivial rfl rfl rfl ?_
   refine Walk.store ty77 .none rfl rfl rfl rfl rfl rfl (by simp) rfl ?_
   refine tv ?_
   refine rn0 (.cons (.cellA ty77 rfl rfl rfl) .nil) (.agg (.cons (.eqd ?_) (.cons (.eqd ?_) (.cons (.eqd ?_) (.cons (.eqd ?_) (.cons (.eqd ?_) (.cons (.eqd ?_) .nil)))))))
   rotate_left 6
   try simp only[Q] at h1p
   exfalso;omega
   all_goals (rfl)
  by_cases h6:p.op=6∧0<p.kids.length
  ·rw[zph h6.1 h6.2]
   refine bd Tryz.f119 44 [] [] fun w0 F0 own kept hk=>?_
   refine Walk.box (id:=3001) .none rfl rfl rfl rfl rfl rfl rfl ?_
   refine Walk.alloc (id:=3002) tz77 rfl .none rfl rfl rfl rfl ?_
   refine tv ?_
   refine sq (fun h1 h1p h1s=>?_) fun h1 h1p h1s=>?_
   try simp only[Q,Pat.cs_len] at h1p
   exfalso;omega
   try simp only[Q,Pat.cs_len] at h1p
   refine sq (fun h2 h2p h2s=>?_) fun h2 h2p h2s=>?_
   try simp only[Q,Pat.cs_len] at h2p
   refine sq (fun h3 h3p h3s=>?_) fun h3 h3p h3s=>?_
   try simp only[Q,Pat.cs_len] at h3p
   refine Walk.idx (i:=0) sl28 .none rfl rfl rfl rfl (zaK h6.2) rfl ?_
   refine ev ?_
   refine Walk.call (cr:=[]) ziS (zc6 n (p:=nth p.kids 0) (by have:=Pats.size_mem (zal h6.2);omega) (Pats.ok_mem hok.2 _ (zal h6.2))) rfl .none rfl rfl (LeL.refl _) trivial rfl rfl rfl ?_
   refine Walk.store ty77 .none rfl rfl rfl rfl rfl rfl (by simp) rfl ?_
   refine tv ?_
   refine rn0 (.cons (.cellA ty77 rfl rfl rfl) .nil) (.agg (.cons (.eqd ?_) (.cons (.eqd ?_) (.cons (.eqd ?_) (.cons (.eqd ?_) (.cons (.eqd ?_) (.cons (.eqd ?_) .nil)))))))
   rotate_left 6
   try simp only[Q,Pat.cs_len] at h3p
   exfalso;first|omega|(simp_all;done)
   try simp only[Q,Pat.cs_len] at h2p
   exfalso;omega
   all_goals (rfl)
  ·rw[zpi h2 h6]
   refine bd Tryz.f119 44 [] [] fun w0 F0 own kept hk=>?_
   refine Walk.box (id:=3001) .none rfl rfl rfl rfl rfl rfl rfl ?_
   refine Walk.alloc (id:=3002) tz77 rfl .none rfl rfl rfl rfl ?_
   refine tv ?_
   refine sq (fun h1 h1p h1s=>?_) fun h1 h1p h1s=>?_
   try simp only[Q,Pat.cs_len] at h1p
   exfalso;omega
   try simp only[Q,Pat.cs_len] at h1p
   refine sq (fun h2 h2p h2s=>?_) fun h2 h2p h2s=>?_
   try simp only[Q,Pat.cs_len] at h2p
   refine sq (fun h3 h3p h3s=>?_) fun h3 h3p h3s=>?_
   try simp only[Q,Pat.cs_len] at h3p
   exfalso;apply h6;first|omega|(simp_all;done)
   try simp only[Q,Pat.cs_len] at h3p
   refine Walk.store ty28 .none rfl rfl rfl rfl rfl rfl (by simp) rfl ?_
   refine tv ?_
   refine CWp.tokB 3001 5 7 6 rfl rfl rfl rfl ?_
   refine CWp.loopX (ι:=List (Pat)×List (Pat)) hk (fun x=>[(31,.d (.i (x.1.length:Int)))]) [5,32,33,34,35,36,37,38,39,40,41,42] (fun x=>[(3001,some (.box [.d (.i p.op),.d (.i p.ctor),.d (.i p.n),.d (.i p.m),.d (.i p.var),.gl 7 ((x.1.map zaQ).map Pat.cc)])),(7,some (.tok ((x.1.map zaQ).map Pat.cc).length 6))]) (fun x=>x.1++x.2=p.kids) (fun x=>x.2.length) ([],p.kids) (by simp) ⟨⟨_,rfl,(LeA.eqi (by first|rfl|(simp;done)|(simp_all;done)|omega))⟩,trivial⟩ ⟨(by first|rfl|(simp[getH];done)),⟨zae (by first|rfl|(simp;done)|(simp;omega)|(first|rfl|(simp;done)|(simp_all;done)|omega)),trivial⟩⟩ (fun x=>rfl) (fun x hg1=>?_)
   obtain⟨pre,rest⟩:=x
   dsimp only at hg1 ⊢
   refine evc [] [] ?_
   refine sq (fun h4 h4p h4s=>?_) fun h4 h4p h4s=>?_
   try simp only[Q,Pat.cs_len] at h4p
   rcases rest with _|⟨y,rest⟩
   ·exfalso;simp_all
   refine Walk.idx sl28 .none rfl rfl rfl rfl (Pat.cs_at' hg1) rfl ?_
   refine ev ?_
   refine Walk.alloc (id:=3005) tz77 rfl .none rfl rfl rfl rfl ?_
   refine Walk.store ty77 .none rfl rfl rfl rfl rfl rfl (by simp) rfl ?_
   refine tv ?_
   refine Walk.call (cr:=[]) ziS (zc6 n (p:=y) (by have:=Pats.size_mem (l:=p.kids) (v:=y) (by rw[←hg1];simp);omega) (Pats.ok_mem hok.2 y (by rw[←hg1];simp))) rfl .none rfl rfl (LeL.refl _) trivial rfl rfl rfl ?_
   refine Walk.sliceLit sl28 tz77 rfl (by decide) (ks:=[0]) (xs:=[_]) rfl rfl (by decide) (by decide) .none rfl rfl rfl rfl ?_
   refine Walk.append sl28 zz77 rfl .none rfl rfl rfl rfl (zaG rfl (by first|rfl|(simp;done)|(simp;omega))) (by intro x hx;first|(simp at hx;subst hx;rfl)|exact zbI _ x hx) (by have:=congrArg List.length hg1;simp at this;simp;omega) (by have:=congrArg List.length hg1;simp at this;simp;omega) ?_
   refine evd [] [] ?_
   refine Walk.store ty28 .none rfl rfl rfl rfl rfl rfl (by simp) rfl ?_
   refine dr ?_
   refine ar ?_
   refine Exists.intro ((pre++[y],rest)) ⟨(by have hz:=hg1;rw[←hz];simp),(by simp),Sub.x (by kernel_rfl) (by kernel_rfl) ⟨⟨_,rfl,(LeA.eqi (by first|rfl|(simp;done)|(simp_all;done)|omega))⟩,trivial⟩ (by kernel_rfl) (by kernel_rfl) ⟨(by first|rfl|(simp[getH];done)),⟨zae (by first|rfl|(simp;done)|(simp;omega)|(first|rfl|(simp;done)|(simp_all;done)|omega)),trivial⟩⟩⟩
   try simp only[Q,Pat.cs_len] at h4p
   have hrest:rest=[]:=by
    rcases rest with _|⟨a,b⟩
    ·rfl
    ·exfalso;have hz:=congrArg List.length (hg1);simp only[List.length_append,List.length_cons,List.length_map] at hz;omega
   subst hrest
   refine Walk.store ty77 .none rfl rfl rfl rfl rfl rfl (by simp) rfl ?_
   refine tv ?_
   refine rn0 (.cons (.cellA ty77 rfl rfl rfl) .nil) (.agg (.cons (.eqd ?_) (.cons (.eqd ?_) (.cons (.eqd ?_) (.cons (.eqd ?_) (.cons (.eqd ?_) (.cons (.gld ?_) .nil)))))))
   rotate_left 6
   try simp only[Q,Pat.cs_len] at h2p
   refine sqF ?_
   refine Walk.store ty28 .none rfl rfl rfl rfl rfl rfl (by simp) rfl ?_
   refine tv ?_
   refine CWp.tokB 3001 5 7 6 rfl rfl rfl rfl ?_
   refine CWp.loopX (ι:=List (Pat)×List (Pat)) hk (fun x=>[(31,.d (.i (x.1.length:Int)))]) [5,32,33,34,35,36,37,38,39,40,41,42] (fun x=>[(3001,some (.box [.d (.i p.op),.d (.i p.ctor),.d (.i p.n),.d (.i p.m),.d (.i p.var),.gl 7 ((x.1.map zaQ).map Pat.cc)])),(7,some (.tok ((x.1.map zaQ).map Pat.cc).length 6))]) (fun x=>x.1++x.2=p.kids) (fun x=>x.2.length) ([],p.kids) (by simp) ⟨⟨_,rfl,(LeA.eqi (by first|rfl|(simp;done)|(simp_all;done)|omega))⟩,trivial⟩ ⟨(by first|rfl|(simp[getH];done)),⟨zae (by first|rfl|(simp;done)|(simp;omega)|(first|rfl|(simp;done)|(simp_all;done)|omega)),trivial⟩⟩ (fun x=>rfl) (fun x hg1=>?_)
   obtain⟨pre,rest⟩:=x
   dsimp only at hg1 ⊢
   refine evc [] [] ?_
   refine sq (fun h6 h6p h6s=>?_) fun h6 h6p h6s=>?_
   try simp only[Q,Pat.cs_len] at h6p
   rcases rest with _|⟨y,rest⟩
   ·exfalso;simp_all
   refine Walk.idx sl28 .none rfl rfl rfl rfl (Pat.cs_at' hg1) rfl ?_
   refine ev ?_
   refine Walk.alloc (id:=3005) tz77 rfl .none rfl rfl rfl rfl ?_
   refine Walk.store ty77 .none rfl rfl rfl rfl rfl rfl (by simp) rfl ?_
   refine tv ?_
   refine Walk.call (cr:=[]) ziS (zc6 n (p:=y) (by have:=Pats.size_mem (l:=p.kids) (v:=y) (by rw[←hg1];simp);omega) (Pats.ok_mem hok.2 y (by rw[←hg1];simp))) rfl .none rfl rfl (LeL.refl _) trivial rfl rfl rfl ?_
   refine Walk.sliceLit sl28 tz77 rfl (by decide) (ks:=[0]) (xs:=[_]) rfl rfl (by decide) (by decide) .none rfl rfl rfl rfl ?_
   refine Walk.append sl28 zz77 rfl .none rfl rfl rfl rfl (zaG rfl (by first|rfl|(simp;done)|(simp;omega))) (by intro x hx;first|(simp at hx;subst hx;rfl)|exact zbI _ x hx) (by have:=congrArg List.length hg1;simp at this;simp;omega) (by have:=congrArg List.length hg1;simp at this;simp;omega) ?_
   refine evd [] [] ?_
   refine Walk.store ty28 .none rfl rfl rfl rfl rfl rfl (by simp) rfl ?_
   refine dr ?_
   refine ar ?_
   refine Exists.intro ((pre++[y],rest)) ⟨(by have hz:=hg1;rw[←hz];simp),(by simp),Sub.x (by kernel_rfl) (by kernel_rfl) ⟨⟨_,rfl,(LeA.eqi (by first|rfl|(simp;done)|(simp_all;done)|omega))⟩,trivial⟩ (by kernel_rfl) (by kernel_rfl) ⟨(by first|rfl|(simp[getH];done)),⟨zae (by first|rfl|(simp;done)|(simp;omega)|(first|rfl|(simp;done)|(simp_all;done)|omega)),trivial⟩⟩⟩
   try simp only[Q,Pat.cs_len] at h6p
   have hrest:rest=[]:=by
    rcases rest with _|⟨a,b⟩
    ·rfl
    ·exfalso;have hz:=congrArg List.length (hg1);simp only[List.length_append,List.length_cons,List.length_map] at hz;omega
   subst hrest
   refine Walk.store ty77 .none rfl rfl rfl rfl rfl rfl (by simp) rfl ?_
   refine tv ?_
   refine rn0 (.cons (.cellA ty77 rfl rfl rfl) .nil) (.agg (.cons (.eqd ?_) (.cons (.eqd ?_) (.cons (.eqd ?_) (.cons (.eqd ?_) (.cons (.eqd ?_) (.cons (.gld ?_) .nil)))))))
   rotate_left 6
   all_goals (first|rfl|(rw[List.append_nil] at hg1;rw[←hg1,Pat.cs_cd];done)|(rw[List.append_nil] at hg1;subst hg1;rw[←Pat.cs_cd];all_goals rfl))
theorem zd9:∀(n:Nat){p:Pat},p.size≤n→p.ok→FnD Tryz.prog 120 [.agg [.d (.i p.op),.d (.i p.ctor),.d (.i p.n),.d (.i p.m),.d (.i p.var),.d (zad p.kids)]] [] (.d (.i (cntS p))) []
 |0,p,h,_=>by rw[Pat.size_eq] at h;omega
 |n+1,p,h,hok=>by
  rw[Pat.size_eq] at h
  rw[Pat.ok_iff] at hok
  have hok1:=hok.1
  have hbd:=fun i=>zma (nth p.kids i)
  by_cases h5:p.op=5
  ·rw[zmb,if_pos h5]
   refine bd Tryz.f120 31 [] [] fun w0 F0 own kept hk=>?_
   refine Walk.box (id:=3001) .none rfl rfl rfl rfl rfl rfl rfl ?_
   refine ev ?_
   refine sq (fun h1 h1p h1s=>?_) fun h1 h1p h1s=>?_
   try simp only[Q,Pat.cs_len] at h1p
   refine CWp.loopX (ι:=Nat×Int) hk (fun x=>[(12,.d (.i (x.1:Int))),(3,.d (.i x.2))]) [5,13,14,15,16,17,18,19,20,21,22,23,24,25,26,27,28,29] (fun x=>[]) (fun x=>x.1≤p.kids.length∧cntO (p.kids.drop x.1) x.2=cntO p.kids 0∧0≤x.2∧x.2≤401) (fun x=>p.kids.length-x.1) (0,0) ⟨by simp,rfl,by simp,by simp⟩ ⟨⟨_,rfl,(LeA.eqi (by first|rfl|(dsimp only;omega)|(simp;done)))⟩,⟨⟨_,rfl,(LeA.eqi (by first|rfl|(dsimp only;omega)|(simp;done)))⟩,trivial⟩⟩ trivial (fun x=>rfl) (fun x hg1=>?_)
   refine evc [] [] ?_
   refine sq (fun h2 h2p h2s=>?_) fun h2 h2p h2s=>?_
   try simp only[Q,Pat.cs_len] at h2p
   refine Walk.idx sl28 .none rfl rfl rfl rfl (zaK (by omega)) rfl ?_
   refine ev ?_
   refine Walk.alloc (id:=3005) tz77 rfl .none rfl rfl rfl rfl ?_
   refine Walk.store ty77 .none rfl rfl rfl rfl rfl rfl (by simp) rfl ?_
   refine tv ?_
   refine sq (fun h3 h3p h3s=>?_) fun h3 h3p h3s=>?_
   try simp only[Q,Pat.cs_len] at h3p
   refine Walk.call (cr:=[]) zkQ (zd9 n (p:=nth p.kids x.1) (by have:=Pats.size_mem (zal (l:=p.kids) (i:=x.1) (by omega));omega) (Pats.ok_mem hok.2 _ (zal (by omega)))) rfl .none rfl rfl (LeL.refl _) trivial rfl rfl rfl ?_
   refine ev ?_
   refine ar ?_ (by first|(constructor<;>omega)|(have hb:=hbd x.1;constructor<;>omega)|(constructor<;>simp[Pat.cs_len]<;>omega))
   refine Walk.minI .none rfl rfl rfl ?_
   refine ev ?_
   refine ar ?_ (by first|(constructor<;>omega)|(have hb:=hbd x.1;constructor<;>omega)|(constructor<;>simp[Pat.cs_len]<;>omega))
   refine Exists.intro ((x.1+1,cap (x.2+cntS (nth p.kids x.1)))) ⟨(by
        have hb:=hbd x.1
        have hc:=zkZ (x:=x.2+cntS (nth p.kids x.1)) (by omega)
        exact⟨by dsimp only;omega,by dsimp only;rw[←zqA (by omega)];exact hg1.2.1,hc.1,hc.2⟩),(by dsimp only;omega),Sub.x (by kernel_rfl) (by kernel_rfl) ⟨⟨_,rfl,(LeA.eqi (by first|rfl|(dsimp only;omega)|(simp;done)))⟩,⟨⟨_,rfl,(LeA.eqi (by first|rfl|(dsimp only;omega)|(simp;done)))⟩,trivial⟩⟩ (by kernel_rfl) (by kernel_rfl) trivial⟩
   try simp only[Q,Pat.cs_len] at h3p
   exfalso;omega
   try simp only[Q,Pat.cs_len] at h2p
   refine rn0 (r1 rfl) (.eqd ?_)
   rotate_left
   try simp only[Q,Pat.cs_len] at h1p
   exfalso;omega
   all_goals (refine congrArg D.i ?_;rw[←hg1.2.1,List.drop_eq_nil_of_le (by omega)];rfl)
  ·rw[zmb,if_neg h5]
   refine bd Tryz.f120 31 [] [] fun w0 F0 own kept hk=>?_
   refine Walk.box (id:=3001) .none rfl rfl rfl rfl rfl rfl rfl ?_
   refine ev ?_
   refine sq (fun h1 h1p h1s=>?_) fun h1 h1p h1s=>?_
   try simp only[Q,Pat.cs_len] at h1p
   exfalso;omega
   try simp only[Q,Pat.cs_len] at h1p
   refine CWp.loopX (ι:=Nat×Int) hk (fun x=>[(12,.d (.i (x.1:Int))),(3,.d (.i x.2))]) [5,13,14,15,16,17,18,19,20,21,22,23,24,25,26,27,28,29] (fun x=>[]) (fun x=>x.1≤p.kids.length∧cntM (p.kids.drop x.1) x.2=cntM p.kids 1∧0≤x.2∧x.2≤401) (fun x=>p.kids.length-x.1) (0,1) ⟨by simp,rfl,by simp,by simp⟩ ⟨⟨_,rfl,(LeA.eqi (by first|rfl|(dsimp only;omega)|(simp;done)))⟩,⟨⟨_,rfl,(LeA.eqi (by first|rfl|(dsimp only;omega)|(simp;done)))⟩,trivial⟩⟩ trivial (fun x=>rfl) (fun x hg1=>?_)
   refine evc [] [] ?_
   refine sq (fun h2 h2p h2s=>?_) fun h2 h2p h2s=>?_
   try simp only[Q,Pat.cs_len] at h2p
   refine Walk.idx sl28 .none rfl rfl rfl rfl (zaK (by omega)) rfl ?_
   refine ev ?_
   refine Walk.alloc (id:=3005) tz77 rfl .none rfl rfl rfl rfl ?_
   refine Walk.store ty77 .none rfl rfl rfl rfl rfl rfl (by simp) rfl ?_
   refine tv ?_
   refine sq (fun h3 h3p h3s=>?_) fun h3 h3p h3s=>?_
   try simp only[Q,Pat.cs_len] at h3p
   exfalso;omega
   try simp only[Q,Pat.cs_len] at h3p
   refine Walk.call (cr:=[]) zkQ (zd9 n (p:=nth p.kids x.1) (by have:=Pats.size_mem (zal (l:=p.kids) (i:=x.1) (by omega));omega) (Pats.ok_mem hok.2 _ (zal (by omega)))) rfl .none rfl rfl (LeL.refl _) trivial rfl rfl rfl ?_
   refine ev ?_
   refine ar ?_ (by first|(constructor<;>omega)|(have hb:=hbd x.1;have h3:=Int.mul_le_mul hg1.2.2.2 hb.2 hb.1 (by omega);have h4:=Int.mul_nonneg hg1.2.2.1 hb.1;constructor<;>omega)|(constructor<;>simp[Pat.cs_len]<;>omega))
   refine Walk.minI .none rfl rfl rfl ?_
   refine ev ?_
   refine ar ?_ (by first|(constructor<;>omega)|(have hb:=hbd x.1;have h3:=Int.mul_le_mul hg1.2.2.2 hb.2 hb.1 (by omega);have h4:=Int.mul_nonneg hg1.2.2.1 hb.1;constructor<;>omega)|(constructor<;>simp[Pat.cs_len]<;>omega))
   refine Exists.intro ((x.1+1,cap (x.2*cntS (nth p.kids x.1)))) ⟨(by
        have hb:=hbd x.1
        have hc:=zkZ (x:=x.2*cntS (nth p.kids x.1)) (Int.mul_nonneg hg1.2.2.1 hb.1)
        exact⟨by dsimp only;omega,by dsimp only;rw[←zqz (by omega)];exact hg1.2.1,hc.1,hc.2⟩),(by dsimp only;omega),Sub.x (by kernel_rfl) (by kernel_rfl) ⟨⟨_,rfl,(LeA.eqi (by first|rfl|(dsimp only;omega)|(simp;done)))⟩,⟨⟨_,rfl,(LeA.eqi (by first|rfl|(dsimp only;omega)|(simp;done)))⟩,trivial⟩⟩ (by kernel_rfl) (by kernel_rfl) trivial⟩
   try simp only[Q,Pat.cs_len] at h2p
   refine rn0 (r1 rfl) (.eqd ?_)
   rotate_left
   all_goals (refine congrArg D.i ?_;rw[←hg1.2.1,List.drop_eq_nil_of_le (by omega)];rfl)
theorem zfu {xs:List Pat} (hs:xs.length≤1000000000000):FnD Tryz.prog 126 [.d (zad xs)] [] (.gl 77 (Pat.cs xs)) [(77,some (.tok (Pat.cs xs).length 6))]:=by
 refine Fn.body (fn:=Tryz.f126) (n:=8) rfl rfl rfl rfl rfl (fun w0 F0 own kept hk=>?_)
 refine CWp.splitNil 0 rfl (fun hx0=>?_) ?_
 refine evc [2,4] [] ?_
 refine asg ?_
 refine tv ?_
 refine Walk.eqNilT sl28 .none rfl rfl ?_
 refine tv ?_
 refine sqT ?_
 refine Walk.assignNil 77 6 .none rfl rfl ?_
 refine tv ?_
 refine rn [(77,some (.tok (Pat.cs xs).length 6))] (r1 rfl) (.glg ?_) ⟨rfl,rfl⟩ (SubH.get ⟨?_,trivial⟩) (zbj rfl)
 rotate_left 2
 refine evc [2,4] [] ?_
 refine asg ?_
 refine tv ?_
 refine Walk.eqNilF sl28 .none rfl rfl ?_
 refine tv ?_
 refine sqF ?_
 refine Walk.sliceEmptyG 77 sl28 .none rfl rfl ?_
 refine evs [2,4] [] ?_
 refine Walk.append sl28 zz77 rfl .none rfl rfl rfl rfl (zaG rfl (by first|rfl|(simp;done)|(simp;omega))) (by intro y hy;rw[Pat.cs_cd] at hy;obtain⟨z,_,rfl⟩:=List.mem_map.1 hy;rfl) (by simp[Pat.cs_len];omega) (by simp[Pat.cs_len];omega) ?_
 refine asg ?_
 refine tv ?_
 refine rn [(77,some (.tok (Pat.cs xs).length 6))] (r1 rfl) (.glg ?_) ⟨rfl,rfl⟩ (SubH.get ⟨?_,trivial⟩) (zbj rfl)
 rotate_left 2
 all_goals (first|((first|rfl|exact hx0.symm|(simp;done));done)|(first|rfl|(simp[hx0];rfl)|(simp;rfl)))
def zbC (C:List Pat) (q:Pat):List Pat:=C.map fun c=> .mk q.op q.ctor q.n q.m q.var (q.kids++[c])
theorem zpS {ls:List (List Pat)}{C:List Pat}{a b c d e:Int}:((zeK ls).map (fun l=>Pat.mk a b c d e l)).flatMap (zbC C)=(zeK (ls++[C])).map (fun l=>Pat.mk a b c d e l):=by
 rw[zpY]
 unfold zbs zbC
 rw[List.flatMap_map,List.map_flatMap]
 congr 1
 funext q
 simp[zds,zcB,mk_n,mk_m,zc4,zb1]
def zch (p:Pat) (i:Nat):List Pat:=(zeK ((p.kids.take i).map zaC)).map fun l=>Pat.mk p.op p.ctor p.n p.m p.var l
theorem zrn (p:Pat):zch p 0=[.mk p.op p.ctor p.n p.m p.var []]:=by unfold zch;simp[zeK]
theorem zo6 {p:Pat}{i:Nat} (h:i<p.kids.length):(zch p i).flatMap (zbC (zaC (nth p.kids i)))=zch p (i+1):=by
 unfold zch
 rw[zpS,List.take_succ_eq_append_getElem h,List.map_append,←za9 h];rfl
theorem zpQ {p:Pat}{i:Nat} (h5:p.op≠5) (h:p.kids.length≤i):zch p i=zaC p:=by
 unfold zch;rw[zeS h5,List.take_of_length_le h]
theorem zpR {n:Nat}{p:Pat} (h:binP (n+1) p=true) (h5:p.op≠5) (i:Nat):(zch p i).length≤(zaC p).length:=by
 unfold zch;rw[List.length_map];exact zpe h h5 i
theorem zo5 {p:Pat}{i:Nat}{q:Pat} (h:q∈zch p i):q.kids.length≤p.kids.length:=by
 unfold zch at h
 obtain⟨l,hl,rfl⟩:=List.mem_map.1 h
 obtain⟨q0,hq,r,e,hlr,_⟩:=zji _ _ _ hl
 rw[List.mem_singleton] at hq
 rw[hq,List.nil_append] at e
 rw[zb1,e,hlr];simp;omega
theorem zfX {α β:Type}{f:α→List β}{k:Nat} (hf:∀x,(f x).length≤k):∀l:List α,(l.flatMap f).length≤l.length*k
 | []=>by simp
 |x::r=>by
  rw[List.flatMap_cons,List.length_append,List.length_cons,Nat.succ_mul]
  have:=hf x;have:=zfX hf r;omega
theorem zeH:∀(n:Nat){p:Pat},binP n p=true→p.ok→(zaC p).length≤40→FnD Tryz.prog 121 [.agg [.d (.i p.op),.d (.i p.ctor),.d (.i p.n),.d (.i p.m),.d (.i p.var),.d (zad p.kids)]] [] (.gl 9 (Pat.cs (zaC p))) [(9,some (.tok (Pat.cs (zaC p)).length 6))]
 |0,p,h,_,_=>by simp[binP] at h
 |n+1,p,h,hok,hlen=>by
  have hok':=(Pat.ok_iff p).1 hok
  have hok1:=hok'.1
  by_cases h5:p.op=5
  ·have hl:=zjC h h5
   have e5:=zgZ h5 hl
   have l0:=zhu h (i:=0) (by omega)
   have l1:=zhu h (i:=1) (by omega)
   have c0:=zeH n (zei h (i:=0) (by omega)) (Pats.ok_mem hok'.2 _ (zal (by omega))) (by omega)
   have c1:=FnD.glD (zeH n (zei h (i:=1) (by omega)) (Pats.ok_mem hok'.2 _ (zal (by omega))) (by omega))
   rw[e5]
   refine bd Tryz.f121 70 [] [] fun w0 F0 own kept hk=>?_
   refine Walk.box (id:=3001) .none rfl rfl rfl rfl rfl rfl rfl ?_
   refine ev ?_
   refine sq (fun h1 h1p h1s=>?_) fun h1 h1p h1s=>?_
   try simp only[Q,Pat.cs_len] at h1p
   refine Walk.idx (i:=0) sl28 .none rfl rfl rfl rfl (zaK (by omega)) rfl ?_
   refine evd [] [] ?_
   refine Walk.call (cr:=[9]) zkR (c0) rfl .none rfl rfl (LeL.refl _) trivial rfl rfl rfl ?_
   refine evd [] [] ?_
   refine Walk.idx (i:=1) sl28 .none rfl rfl rfl rfl (zaK (by omega)) rfl ?_
   refine evd [] [] ?_
   refine Walk.call (cr:=[]) zkR (c1) rfl .none rfl rfl (LeL.refl _) trivial rfl rfl rfl ?_
   refine Walk.append sl28 zz77 rfl .none rfl rfl rfl rfl (zaG rfl (by first|rfl|(simp;done)|(simp;omega))) (by intro x hx;exact zbm _ x hx) (by simp[Pat.cs_len];omega) (by simp[Pat.cs_len];omega) ?_
   refine evd [] [] ?_
   refine dr ?_
   refine rn [(9,some (.tok (Pat.cs (zaC (nth p.kids 0)++zaC (nth p.kids 1))).length 6))] (r1 rfl) (.glg ?_) ⟨rfl,rfl⟩ (SubH.get ⟨?_,trivial⟩) (zbj rfl)
   rotate_left 2
   try simp only[Q,Pat.cs_len] at h1p
   exfalso;omega
   all_goals (first|((first|rfl|(simp[Pat.cs_cd];done));done)|(first|rfl|(simp[Pat.cs_cd];rfl)))
  ·have hfl:=zpR h h5
   have hfk:=fun(i:Nat) (q:Pat) (hq:q∈zch p i)=>zo5 hq
   have hf0:=zrn p
   have hfe:=fun(i:Nat) (hi:p.kids.length≤i)=>zpQ h5 hi
   have hfn:=fun(i:Nat) (hi:i<p.kids.length)=>zo6 hi
   have hcal:=fun(i:Nat) (hi:i<p.kids.length)=>FnD.glD (zeH n (zei h hi) (Pats.ok_mem hok'.2 _ (zal hi)) (by have:=zhu h hi;omega))
   have hcl:=fun(i:Nat) (hi:i<p.kids.length)=>zhu h hi
   have hgl:=fun(C:List Pat) (q:Pat)=>show(zbC C q).length≤C.length from by unfold zbC;simp
   generalize zaC p=SP at *
   refine bd Tryz.f121 70 [8] [10,23] fun w0 F0 own kept hk=>?_
   refine Walk.box (id:=3001) .none rfl rfl rfl rfl rfl rfl rfl ?_
   refine evs [8] [] ?_
   refine sq (fun h1 h1p h1s=>?_) fun h1 h1p h1s=>?_
   try simp only[Q,Pat.cs_len] at h1p
   exfalso;omega
   try simp only[Q,Pat.cs_len] at h1p
   refine Walk.store ty28 .none rfl rfl rfl rfl rfl rfl (by simp) rfl ?_
   refine tv ?_
   refine Walk.sliceLitG 9 sl28 tz77 rfl (by decide) (ks:=[0]) (xs:=[_]) rfl rfl (by decide) (by decide) .none rfl rfl rfl rfl rfl ?_
   refine evs [8] [] ?_
   refine CWp.loopX (ι:=Nat) hk (fun i=>[(35,.d (.i (i:Int))),(4,.gl 9 ((zch p i).map Pat.cc)),(32,.any)]) [6,7,8,10,12,13,36,37,38,39,40,41,42,43,44,45,46,47,48,49,50,51,52,53,54,55,56,57,58,59,60,61,62,63,64,65,66,67,68] (fun i=>[(9,some (.tok (((zch p i).map Pat.cc)).length 6))]) (fun i=>i≤p.kids.length) (fun i=>p.kids.length-i) 0 (by omega) ⟨⟨_,rfl,(LeA.eqi (by first|rfl|(rw[hf0];rfl)|(rw[←hfn i (by omega),←hg2];done)|omega|(simp;done)))⟩,⟨⟨_,rfl,(LeA.glg (by first|rfl|(rw[hf0];rfl)|(rw[←hfn i (by omega),←hg2];done)|omega|(simp;done)))⟩,⟨⟨_,rfl,LeA.any _⟩,trivial⟩⟩⟩ ⟨zae (by first|rfl|(simp;done)|(simp;omega)|(first|rfl|(rw[hf0];rfl)|(rw[←hfn i (by omega),←hg2];done)|omega|(simp;done))),trivial⟩ (fun x=>rfl) (fun i hg1=>?_)
   refine evc [8] [10,23] ?_
   refine sq (fun h2 h2p h2s=>?_) fun h2 h2p h2s=>?_
   try simp only[Q,Pat.cs_len] at h2p
   refine Walk.idx sl28 .none rfl rfl rfl rfl (zaK (by omega)) rfl ?_
   refine evs [8] [] ?_
   refine Walk.alloc (id:=3006) tz77 rfl .none rfl rfl rfl rfl ?_
   refine Walk.store ty77 .none rfl rfl rfl rfl rfl rfl (by simp) rfl ?_
   refine tv ?_
   refine Walk.call (cr:=[]) zkR (hcal i (by omega)) rfl .none rfl rfl (LeL.refl _) trivial rfl rfl rfl ?_
   refine evs [8] [] ?_
   refine CWp.tokDrop 4 9 rfl rfl ?_
   refine evc [8] [] ?_
   refine Walk.assignNil 3 6 .none rfl rfl ?_
   refine tv ?_
   refine CWp.loopX (ι:=List (Pat)×List (Pat)) hk (fun x=>[(43,.d (.i (x.1.length:Int))),(8,.gl 3 ((x.1.flatMap (zbC (zaC (nth p.kids i)))).map Pat.cc))]) [10,12,13,44,45,46,47,48,49,50,51,52,53,54,55,56,57,58,59,60,61,62,63,64,65,66] (fun x=>[(3,some (.tok (((x.1.flatMap (zbC (zaC (nth p.kids i)))).map Pat.cc)).length 6))]) (fun x=>x.1++x.2=zch p i) (fun x=>x.2.length) ([],zch p i) (by simp) ⟨⟨_,rfl,(LeA.eqi (by first|rfl|(simp;done)|(rw[List.append_nil] at hg3;rw[List.flatMap_append,List.map_append];simp[zbC,←hg3];done)))⟩,⟨⟨_,rfl,(LeA.glg (by first|rfl|(simp;done)|(rw[List.append_nil] at hg3;rw[List.flatMap_append,List.map_append];simp[zbC,←hg3];done)))⟩,trivial⟩⟩ ⟨zae (by first|rfl|(simp;done)|(simp;omega)|(first|rfl|(simp;done)|(rw[List.append_nil] at hg3;rw[List.flatMap_append,List.map_append];simp[zbC,←hg3];done))),trivial⟩ (fun x=>rfl) (fun x hg2=>?_)
   obtain⟨pre2,rest2⟩:=x
   dsimp only at hg2 ⊢
   refine evc [8] [10,23] ?_
   refine sq (fun h3 h3p h3s=>?_) fun h3 h3p h3s=>?_
   try simp only[Q,Pat.cs_len] at h3p
   rcases rest2 with _|⟨q,rest2⟩
   ·exfalso;simp_all
   have hqk:=hfk i q (by rw[←hg2];simp);have hl2:=congrArg List.length hg2;simp only[List.length_append,List.length_cons] at hl2;have hl2b:=hfl i
   refine Walk.idx sl28 .none rfl rfl rfl rfl (za0 hg2) rfl ?_
   refine evs [8] [] ?_
   refine Walk.alloc (id:=3010) tz77 rfl .none rfl rfl rfl rfl ?_
   refine Walk.store ty77 .none rfl rfl rfl rfl rfl rfl (by simp) rfl ?_
   refine tv ?_
   refine CWp.loopX (ι:=List (Pat)×List (Pat)) hk (fun x=>[(49,.d (.i (x.1.length:Int))),(8,.gl 3 ((pre2.flatMap (zbC (zaC (nth p.kids i)))++zbC x.1 q).map Pat.cc))]) [12,13,50,51,52,53,54,55,56,57,58,59,60,61,62,63,64,65] (fun x=>[(3,some (.tok (((pre2.flatMap (zbC (zaC (nth p.kids i)))++zbC x.1 q).map Pat.cc)).length 6))]) (fun x=>x.1++x.2=zaC (nth p.kids i)) (fun x=>x.2.length) ([],zaC (nth p.kids i)) (by simp) ⟨⟨_,rfl,(LeA.eqi (by first|rfl|(simp[zbC];done)|(simp[zbC];omega)|(simp[zbC,zds,zcB,mk_n,mk_m,zc4,zb1,Pat.cs_cd];done)))⟩,⟨⟨_,rfl,(LeA.glg (by first|rfl|(simp[zbC];done)|(simp[zbC];omega)|(simp[zbC,zds,zcB,mk_n,mk_m,zc4,zb1,Pat.cs_cd];done)))⟩,trivial⟩⟩ ⟨zae (by first|rfl|(simp;done)|(simp;omega)|(first|rfl|(simp[zbC];done)|(simp[zbC];omega)|(simp[zbC,zds,zcB,mk_n,mk_m,zc4,zb1,Pat.cs_cd];done))),trivial⟩ (fun x=>rfl) (fun x hg3=>?_)
   obtain⟨pre3,rest3⟩:=x
   dsimp only at hg3 ⊢
   refine evc [8] [10,23] ?_
   refine sq (fun h4 h4p h4s=>?_) fun h4 h4p h4s=>?_
   try simp only[Q,Pat.cs_len] at h4p
   rcases rest3 with _|⟨y,rest3⟩
   ·exfalso;simp_all
   have hl3:=congrArg List.length hg3;simp only[List.length_append,List.length_cons] at hl3;have hl3b:=hcl i (by omega)
   refine Walk.idx sl28 .none rfl rfl rfl rfl (Pat.cs_at' hg3) rfl ?_
   refine evs [8] [] ?_
   refine Walk.alloc (id:=3012) tz77 rfl .none rfl rfl rfl rfl ?_
   refine Walk.store ty77 .none rfl rfl rfl rfl rfl rfl (by simp) rfl ?_
   refine tv ?_
   refine Walk.alloc (id:=3013) tz77 rfl .none rfl rfl rfl rfl ?_
   refine Walk.store ty77 .none rfl rfl rfl rfl rfl rfl (by simp) rfl ?_
   refine tv ?_
   refine Walk.call (cr:=[77]) zn1 (zfu (xs:=q.kids) (by omega)) rfl .none rfl rfl (LeL.refl _) trivial rfl rfl rfl ?_
   refine evd [8] [] ?_
   refine Walk.sliceLit sl28 tz77 rfl (by decide) (ks:=[0]) (xs:=[_]) rfl rfl (by decide) (by decide) .none rfl rfl rfl rfl ?_
   refine Walk.append sl28 zz77 rfl .none rfl rfl rfl rfl (zaG rfl (by first|rfl|(simp;done)|(simp;omega))) (by intro x hx;first|(simp at hx;subst hx;rfl)|exact zbI _ x hx|exact zbm _ x hx) (by first|(simp;omega)|(simp only[Pat.cs_len,List.length_append,List.length_cons,List.length_nil];omega)|(have h10:=hgl pre3 q;have h8:=congrArg List.length hg2;have h9:=congrArg List.length hg3;have h7:=zfX (hgl (zaC (nth p.kids i))) pre2;have h6:=hfl i;have h5:=hcl i (by omega);simp only[List.length_append,List.length_cons,List.length_map,List.length_nil] at *;have h4:pre2.length*(zaC (nth p.kids i)).length≤40*40:=Nat.mul_le_mul (by omega) (by omega);omega)) (by first|(simp;omega)|(simp only[Pat.cs_len,List.length_append,List.length_cons,List.length_nil];omega)|(have h10:=hgl pre3 q;have h8:=congrArg List.length hg2;have h9:=congrArg List.length hg3;have h7:=zfX (hgl (zaC (nth p.kids i))) pre2;have h6:=hfl i;have h5:=hcl i (by omega);simp only[List.length_append,List.length_cons,List.length_map,List.length_nil] at *;have h4:pre2.length*(zaC (nth p.kids i)).length≤40*40:=Nat.mul_le_mul (by omega) (by omega);omega)) ?_
   refine evd [8] [] ?_
   refine Walk.store ty28 .none rfl rfl rfl rfl rfl rfl (by simp) rfl ?_
   refine dr ?_
   refine Walk.sliceLit sl28 tz77 rfl (by decide) (ks:=[0]) (xs:=[_]) rfl rfl (by decide) (by decide) .none rfl rfl rfl rfl ?_
   refine Walk.append sl28 zz77 rfl .none rfl rfl rfl rfl (zaG rfl (by first|rfl|(simp;done)|(simp;omega))) (by intro x hx;first|(simp at hx;subst hx;rfl)|exact zbI _ x hx|exact zbm _ x hx) (by first|(simp;omega)|(simp only[Pat.cs_len,List.length_append,List.length_cons,List.length_nil];omega)|(have h10:=hgl pre3 q;have h8:=congrArg List.length hg2;have h9:=congrArg List.length hg3;have h7:=zfX (hgl (zaC (nth p.kids i))) pre2;have h6:=hfl i;have h5:=hcl i (by omega);simp only[List.length_append,List.length_cons,List.length_map,List.length_nil] at *;have h4:pre2.length*(zaC (nth p.kids i)).length≤40*40:=Nat.mul_le_mul (by omega) (by omega);omega)) (by first|(simp;omega)|(simp only[Pat.cs_len,List.length_append,List.length_cons,List.length_nil];omega)|(have h10:=hgl pre3 q;have h8:=congrArg List.length hg2;have h9:=congrArg List.length hg3;have h7:=zfX (hgl (zaC (nth p.kids i))) pre2;have h6:=hfl i;have h5:=hcl i (by omega);simp only[List.length_append,List.length_cons,List.length_map,List.length_nil] at *;have h4:pre2.length*(zaC (nth p.kids i)).length≤40*40:=Nat.mul_le_mul (by omega) (by omega);omega)) ?_
   refine asg ?_
   refine tv ?_
   refine ar ?_
   refine Exists.intro ((pre3++[y],rest3)) ⟨(by have hz:=hg3;rw[←hz];simp),(by simp),Sub.x (by kernel_rfl) (by kernel_rfl) ⟨⟨_,rfl,(LeA.eqi (by first|rfl|(simp[zbC];done)|(simp[zbC];omega)|(simp[zbC,zds,zcB,mk_n,mk_m,zc4,zb1,Pat.cs_cd];done)))⟩,⟨⟨_,rfl,(LeA.glg (by first|rfl|(simp[zbC];done)|(simp[zbC];omega)|(simp[zbC,zds,zcB,mk_n,mk_m,zc4,zb1,Pat.cs_cd];done)))⟩,trivial⟩⟩ (by kernel_rfl) (by kernel_rfl) ⟨zae (by first|rfl|(simp;done)|(simp;omega)|(first|rfl|(simp[zbC];done)|(simp[zbC];omega)|(simp[zbC,zds,zcB,mk_n,mk_m,zc4,zb1,Pat.cs_cd];done))),trivial⟩⟩
   try simp only[Q,Pat.cs_len] at h4p
   have hrest3:rest3=[]:=by
    rcases rest3 with _|⟨a,b⟩
    ·rfl
    ·exfalso;have hz:=congrArg List.length (hg3);simp only[List.length_append,List.length_cons,List.length_map] at hz;omega
   subst hrest3
   refine ar ?_
   refine Exists.intro ((pre2++[q],rest2)) ⟨(by have hz:=hg2;rw[←hz];simp),(by simp),Sub.x (by kernel_rfl) (by kernel_rfl) ⟨⟨_,rfl,(LeA.eqi (by first|rfl|(simp;done)|(rw[List.append_nil] at hg3;rw[List.flatMap_append,List.map_append];simp[zbC,←hg3];done)))⟩,⟨⟨_,rfl,(LeA.glg (by first|rfl|(simp;done)|(rw[List.append_nil] at hg3;rw[List.flatMap_append,List.map_append];simp[zbC,←hg3];done)))⟩,trivial⟩⟩ (by kernel_rfl) (by kernel_rfl) ⟨zae (by first|rfl|(simp;done)|(simp;omega)|(first|rfl|(simp;done)|(rw[List.append_nil] at hg3;rw[List.flatMap_append,List.map_append];simp[zbC,←hg3];done))),trivial⟩⟩
   try simp only[Q,Pat.cs_len] at h3p
   have hrest2:rest2=[]:=by
    rcases rest2 with _|⟨a,b⟩
    ·rfl
    ·exfalso;have hz:=congrArg List.length (hg2);simp only[List.length_append,List.length_cons,List.length_map] at hz;omega
   subst hrest2
   refine CWp.tokRen 4 3 9 rfl rfl (by kernel_rfl) ?_
   refine evc [8] [] ?_
   refine ar ?_
   rw[List.append_nil] at hg2
   refine Exists.intro (i+1) ⟨(by omega),(by omega),Sub.x (by kernel_rfl) (by kernel_rfl) ⟨⟨_,rfl,(LeA.eqi (by first|rfl|(rw[hf0];rfl)|(rw[←hfn i (by omega),←hg2];done)|omega|(simp;done)))⟩,⟨⟨_,rfl,(LeA.glg (by first|rfl|(rw[hf0];rfl)|(rw[←hfn i (by omega),←hg2];done)|omega|(simp;done)))⟩,⟨⟨_,rfl,LeA.any _⟩,trivial⟩⟩⟩ (by kernel_rfl) (by kernel_rfl) ⟨zae (by first|rfl|(simp;done)|(simp;omega)|(first|rfl|(rw[hf0];rfl)|(rw[←hfn i (by omega),←hg2];done)|omega|(simp;done))),trivial⟩⟩
   try simp only[Q,Pat.cs_len] at h2p
   refine rn [(9,some (.tok (Pat.cs SP).length 6))] (r1 rfl) (.glg ?_) ⟨rfl,rfl⟩ (SubH.get ⟨?_,trivial⟩) (zbj rfl)
   rotate_left 2
   all_goals (first|(((rw[←hfe i (by omega),show Pat.cs (zch p i)=(zch p i).map Pat.cc from Pat.cs_cd _];all_goals rfl));done)|((rw[←hfe i (by omega),show Pat.cs (zch p i)=(zch p i).map Pat.cc from Pat.cs_cd _];all_goals rfl)))
def zdP (p:Pat):List Pat:=if (zaC (zaQ p)).length≤40 then zaC (zaQ p) else []
def zc1 (p:Pat):Bool:=decide ((zaC (zaQ p)).length≤40)
theorem znz {w:List Data}{n:Nat}{t:Ty}{p:Pat} (h:zaw w n t p=true) (hok:p.ok):FnD Tryz.prog 69 [.agg [.d (.i p.op),.d (.i p.ctor),.d (.i p.n),.d (.i p.m),.d (.i p.var),.d (zad p.kids)]] [] (.tup [.d (zad (zdP p)),.d (.bool (zc1 p))]) []:=by
 have hb:=zhr n h
 have hbo:=zjB p hok
 have hce:=(zk3 n hb).1
 have hbp:=zc6 _ (Nat.le_refl _) hok
 have hcs:=zd9 _ (Nat.le_refl _) hbo
 have hsp:=fun h40=>FnD.glD (zeH n hb hbo h40)
 rw[hce] at hcs
 unfold zdP zc1
 generalize zaQ p=b at *
 by_cases h40:(zaC b).length≤40
 ·rw[if_pos h40,decide_eq_true h40]
  have hc40:cap ((zaC b).length:Int)≤40:=by unfold cap;split<;>omega
  refine bd Tryz.f69 12 [] [] fun w0 F0 own kept hk=>?_
  refine Walk.box (id:=3001) .none rfl rfl rfl rfl rfl rfl rfl ?_
  refine ev ?_
  refine Walk.call (cr:=[]) ziS (hbp) rfl .none rfl rfl (LeL.refl _) trivial rfl rfl rfl ?_
  refine Walk.alloc (id:=3004) tz77 rfl .none rfl rfl rfl rfl ?_
  refine Walk.store ty77 .none rfl rfl rfl rfl rfl rfl (by simp) rfl ?_
  refine tv ?_
  refine Walk.call (cr:=[]) zkQ (hcs) rfl .none rfl rfl (LeL.refl _) trivial rfl rfl rfl ?_
  refine ev ?_
  refine sq (fun h1 h1p h1s=>?_) fun h1 h1p h1s=>?_
  try simp only[Q] at h1p
  exfalso;omega
  try simp only[Q] at h1p
  refine Walk.call (cr:=[]) zkR (hsp h40) rfl .none rfl rfl (LeL.refl _) trivial rfl rfl rfl ?_
  refine ev ?_
  refine rn0 (r2 rfl rfl) (.tup (.cons (.eqd ?_) (.cons (.eqd ?_) .nil)))
  rotate_left 2
  all_goals (rfl)
 ·rw[if_neg h40,decide_eq_false h40]
  have hc40:¬cap ((zaC b).length:Int)≤40:=by unfold cap;split<;>omega
  refine bd Tryz.f69 12 [] [] fun w0 F0 own kept hk=>?_
  refine Walk.box (id:=3001) .none rfl rfl rfl rfl rfl rfl rfl ?_
  refine ev ?_
  refine Walk.call (cr:=[]) ziS (hbp) rfl .none rfl rfl (LeL.refl _) trivial rfl rfl rfl ?_
  refine Walk.alloc (id:=3004) tz77 rfl .none rfl rfl rfl rfl ?_
  refine Walk.store ty77 .none rfl rfl rfl rfl rfl rfl (by simp) rfl ?_
  refine tv ?_
  refine Walk.call (cr:=[]) zkQ (hcs) rfl .none rfl rfl (LeL.refl _) trivial rfl rfl rfl ?_
  refine ev ?_
  refine sq (fun h1 h1p h1s=>?_) fun h1 h1p h1s=>?_
  try simp only[Q] at h1p
  refine rn0 (r2 rfl rfl) (.tup (.cons (.nild ?_) (.cons (.eqd ?_) .nil)))
  rotate_left 2
  try simp only[Q] at h1p
  exfalso;omega
  all_goals (rfl)
structure Spa (w:List Data):Prop where
 dp:Dp w
 ctors:∀t,InS (w.length*4) t→(zaA w t).length≤4∧(zaA w t).Nodup
 args:∀t c,InS (w.length*4) t→c∈zaA w t→(zaj w t c).length≤3
theorem zi1 (k:Int):∀(l:List Ctor) (i:Nat),(za3 k i l).Pairwise (· < ·)
 | [],_=>by simp[za3]
 |x::r,i=>by
  unfold za3
  have ih:=zi1 k r (i+1)
  split
  ·refine List.pairwise_cons.2 ⟨fun y hy=>?_,ih⟩
   obtain⟨j,rfl,h1,_⟩:=zf7 k r (i+1) y hy
   omega
  ·exact ih
theorem zkK {w:List Data} (hs:WSmall w) (hv:zbb w=true):Spa w:=by
 have hd:=zrJ hs hv
 have hW:=(zdD w).1 hv
 refine⟨hd,fun t ht=>?_,fun t c ht hc=>?_⟩
 ·unfold zaA
  split
  ·simp
  ·rename_i he
   refine⟨?_,(zi1 _ _ _).imp (fun h=>by omega)⟩
   rcases ht with h|⟨h1,h2⟩
   ·exact absurd h he
   ·have:=hd.ct _ h1;rw[h2] at this;exact this
 ·have hti:=zcR ht
  obtain⟨d,h1,h2,j,h3,h4⟩:=zc0 (a:=t.data) (k:=t.index) hti hc
  have hco:=hW.ctor _ (zal h2) _ (zal h4)
  simp only[zaR,Bool.and_eq_true,decide_eq_true_eq] at hco
  unfold zaj
  rw[h1,h3]
  simp only[Int.toNat_natCast,List.length_map]
  omega
abbrev intQ (n m:Int):Pat:= .mk 3 0 n m 0 []
abbrev zb8 (c:Int) (l:List Pat):Pat:= .mk 4 c 0 0 0 l
def zcn (w:List Data) (t:Ty) (c:Int):Pat:=zb8 c ((zaj w t c).map fun _=>anyQ)
def lowQ (p:Pat):Int:=if p.op=1 then 0 else p.n
def zdc (p:Pat):Int:=if p.op=1 then 9 else p.m
def minQ (a b:Int):Int:=if b<a then b else a
def maxQ (a b:Int):Int:=if a<b then b else a
def zcm (n m:Int):List Pat:=if n≤m then [intQ n m] else []
def zcN (f:Pat→Pat→Option Pat):List Pat→List Pat→List Pat→Option (List Pat)
 |p::r,q::s,acc=>match f p q with
  |none=>none
  |some x=>zcN f r s (acc++[x])
 |_,_,acc=>some acc
def zaW:Nat→Pat→Pat→Option Pat
 |0,_,_=>none
 |n+1,a,b=>if a.op=1 then some b else if b.op=1 then some a else if a.op=3 then (if maxQ a.n b.n≤minQ a.m b.m then some (intQ (maxQ a.n b.n) (minQ a.m b.m)) else none)
  else if a.ctor=b.ctor then (zcN (zaW n) a.kids b.kids []).map (zb8 a.ctor) else none
def zbk (f:Ty→Pat→Pat→List Pat) (c:Int):List Ty→List Pat→List Pat→List Pat→List Pat
 |u::r,x::s,y::q,front=>(f u x y).map (fun z=>zb8 c (front++[z]++s))++(match zaW 11 x y with
  |none=>[]
  |some both=>zbk f c r s q (front++[both]))
 |_,_,_,_=>[]
def zdf (f:Ty→Pat→Pat→List Pat) (w:List Data) (t:Ty) (a b:Pat):List Pat:=if a.ctor=b.ctor then zbk f a.ctor (zaj w t a.ctor) a.kids b.kids [] else [a]
def zeD (a b:Pat):List Pat:=zcm (lowQ a) (minQ (zdc a) (b.n-1))++zcm (maxQ (lowQ a) (b.m+1)) (zdc a)
def zav (w:List Data):Nat→Ty→Pat→Pat→List Pat
 |0,_,_,_=>[]
 |n+1,t,a,b=>if b.op=1 then [] else if b.op=3 then zeD a b else if a.op=1 then (zaA w t).flatMap fun c=>zdf (zav w n) w t (zcn w t c) b else zdf (zav w n) w t a b
section
variable {w:List Data}{n:Nat}{t:Ty}{a b:Pat}
theorem zhS (h:b.op=1):zav w (n+1) t a b=[]:=by unfold zav;rw[if_pos h]
theorem zjL (h:b.op=3):zav w (n+1) t a b=zeD a b:=by unfold zav;rw[if_neg (by omega),if_pos h]
theorem zhT (h:b.op=4) (h2:a.op=1):zav w (n+1) t a b=(zaA w t).flatMap fun c=>zdf (zav w n) w t (zcn w t c) b:=by
 conv=>lhs;unfold zav
 rw[if_neg (by omega),if_neg (by omega),if_pos h2]
theorem zen (h:b.op=4) (h2:a.op=4):zav w (n+1) t a b=zdf (zav w n) w t a b:=by
 conv=>lhs;unfold zav
 rw[if_neg (by omega),if_neg (by omega),if_neg (by omega)]
theorem zlv (h:a.op=1):zaW (n+1) a b=some b:=by unfold zaW;rw[if_pos h]
theorem zlw (h:a.op≠1) (h2:b.op=1):zaW (n+1) a b=some a:=by unfold zaW;rw[if_neg h,if_pos h2]
theorem zlx (h:a.op=3) (h2:b.op≠1):zaW (n+1) a b=if maxQ a.n b.n≤minQ a.m b.m then some (intQ (maxQ a.n b.n) (minQ a.m b.m)) else none:=by
 conv=>lhs;unfold zaW
 rw[if_neg (by omega),if_neg h2,if_pos h]
theorem zly (h:a.op=4) (h2:b.op≠1) (hc:a.ctor=b.ctor):zaW (n+1) a b=(zcN (zaW n) a.kids b.kids []).map (zb8 a.ctor):=by
 conv=>lhs;unfold zaW
 rw[if_neg (by omega),if_neg h2,if_neg (by omega),if_pos hc]
theorem zjK (h:a.op=4) (h2:b.op≠1) (hc:¬a.ctor=b.ctor):zaW (n+1) a b=none:=by
 conv=>lhs;unfold zaW
 rw[if_neg (by omega),if_neg h2,if_neg (by omega),if_neg hc]
end
theorem zcD {w:List Data}{n:Nat}{t:Ty}{p:Pat} (h:zam w n t p=true) (h3:p.op=3):t.data = -1∧0≤p.n∧p.n≤p.m∧p.m≤9:=by
 have ho:=(zgU h).1
 unfold ownP at ho
 have:=(of_decide_eq_true ho).2.2.2.2
 omega
theorem zbh {w:List Data}{n:Nat}{t:Ty}{p:Pat} (h:zam w n t p=true) (h4:p.op=4):p.ctor∈zaA w t∧t.data≠ -1∧p.kids.length=(zaj w t p.ctor).length∧p=zb8 p.ctor p.kids:=by
 obtain⟨ho,hl⟩:=zgU h
 have hm:=zcC ho h4
 refine⟨hm,fun e=>by unfold zaA at hm;rw[if_pos e] at hm;simp at hm,by rw[zbK h4] at hl;exact hl, ?_⟩
 unfold ownP at ho
 have hh:=of_decide_eq_true ho
 have h1:=hh.2.1 (by omega)
 have h2:=hh.2.2.1 (by omega)
 obtain⟨op,c,m,k,v,ks⟩:=p
 change op=4 at h4
 change v=0 at h1
 change m=0∧k=0 at h2
 rw[h4,h1,h2.1,h2.2];rfl
theorem zm4 {w:List Data}{n:Nat}{t:Ty}{a b:Int} (ht:t.data = -1) (h0:0≤a) (h1:a≤b) (h2:b≤9):zam w (n+1) t (intQ a b)=true:=by
 unfold zam
 have e:zag w t (intQ a b)=[]:=rfl
 rw[e]
 have ho:ownP w t (intQ a b)=true:=by
  unfold ownP
  refine decide_eq_true ⟨fun h=>?_,fun _=>rfl,fun h=>absurd rfl h,fun _=>rfl,.inr (.inr (.inr (.inr (.inl ⟨rfl,ht,h0,h1,h2⟩))))⟩
  exfalso;change (3:Int)=2∨(3:Int)=6 at h;omega
 rw[ho];rfl
theorem zh8 {w:List Data}{n:Nat}{t:Ty}{c:Int}{l:List Pat} (hc:c∈zaA w t) (hl:l.length=(zaj w t c).length) (hk:∀i,i<l.length→zam w n (nth (zaj w t c) i) (nth l i)=true):zam w (n+1) t (zb8 c l)=true:=by
 unfold zam
 have e:zag w t (zb8 c l)=zaj w t c:=zbK rfl
 have ho:ownP w t (zb8 c l)=true:=by
  unfold ownP
  refine decide_eq_true ⟨fun h=>?_,fun _=>rfl,fun _=>⟨rfl,rfl⟩,fun h=>absurd rfl h,.inr (.inr (.inr (.inr (.inr ⟨rfl,hc⟩))))⟩
  exfalso;change (4:Int)=2∨(4:Int)=6 at h;omega
 rw[ho,e,zb1]
 exact zcv hl.symm (fun i hi=>hk i (by omega))
theorem zjM {w:List Data}{n m:Nat} (h:n≤m){t:Ty}{p:Pat} (hp:zam w n t p=true):zam w m t p=true:=by
 induction h with
 |refl=>exact hp
 |step _ ih=>exact zf1 _ ih
theorem zdW {w:List Data}{n:Nat}{t:Ty}{c:Int} (hc:c∈zaA w t):zam w (n+2) t (zcn w t c)=true:=by
 unfold zcn
 refine zh8 hc (by simp) (fun i hi=>?_)
 have e:nth ((zaj w t c).map fun _=>anyQ) i=anyQ:=by
  rw[za9 hi];simp
 rw[e];exact ziO
theorem zlt {f:Pat→Pat→Option Pat}{a b:List Pat}{i:Nat}{acc:List Pat} (h1:i<a.length) (h2:i<b.length) (h:f (nth a i) (nth b i)=none):zcN f (a.drop i) (b.drop i) acc=none:=by
 rw[zbc h1,zbc h2,zcN,h]
theorem zlu {f:Pat→Pat→Option Pat}{a b:List Pat}{i:Nat}{acc:List Pat}{x:Pat} (h1:i<a.length) (h2:i<b.length) (h:f (nth a i) (nth b i)=some x):zcN f (a.drop i) (b.drop i) acc=zcN f (a.drop (i+1)) (b.drop (i+1)) (acc++[x]):=by
 rw[zbc h1,zbc h2,zcN,h]
theorem zeX {f:Pat→Pat→Option Pat}{a b:List Pat}{i:Nat}{acc:List Pat} (h1:a.length≤i):zcN f (a.drop i) (b.drop i) acc=some acc:=by
 rw[List.drop_eq_nil_of_le h1];cases b.drop i<;>rfl
theorem zii {f:Pat→Pat→Option Pat}:∀ {a b acc l:List Pat},a.length=b.length→zcN f a b acc=some l→∃r,l=acc++r∧r.length=a.length∧∀i,i<a.length→f (nth a i) (nth b i)=some (nth r i)
 | [],[],acc,l,_,h=>by
  simp only[zcN,Option.some.injEq] at h
  exact⟨[],by simp[h],rfl,fun i hi=>by simp at hi⟩
 |p::r,q::s,acc,l,hl,h=>by
  unfold zcN at h
  cases hf:f p q with
  |none=>rw[hf] at h;cases h
  |some x=>
   rw[hf] at h
   obtain⟨z,e,hz,hm⟩:=zii (a:=r) (b:=s) (by simpa using hl) h
   refine⟨x::z,by rw[e];simp,by simp[hz],fun i hi=>?_⟩
   cases i with
   |zero=>exact hf
   |succ i=>exact hm i (by simpa using hi)
 | [],_::_,_,_,hl,_=>by simp at hl
 |_::_,[],_,_,hl,_=>by simp at hl
theorem zdV {w:List Data}{n m:Nat}{t:Ty}{a b:Pat} (ha:zam w n t a=true) (hb:zam w m t b=true) (h1:a.op≠1) (h2:b.op≠1):a.op=b.op:=by
 have oa:=zck ha
 have ob:=zck hb
 rcases oa with h|h|h
 ·exact absurd h h1
 ·rcases ob with h' | h' | h'
  ·exact absurd h' h2
  ·omega
  ·exact absurd (zcD ha h).1 (zbh hb h').2.1
 ·rcases ob with h' | h' | h'
  ·exact absurd h' h2
  ·exact absurd (zcD hb h').1 (zbh ha h).2.1
  ·omega
theorem zsD (a b:Int):minQ a b≤a∧minQ a b≤b:=by unfold minQ;split<;>omega
theorem zsB (a b:Int):a≤maxQ a b∧b≤maxQ a b:=by unfold maxQ;split<;>omega
theorem zsE (a b:Int):minQ a b=a∨minQ a b=b:=by unfold minQ;split<;>omega
theorem zsC (a b:Int):maxQ a b=a∨maxQ a b=b:=by unfold maxQ;split<;>omega
theorem zm8 {w:List Data}:∀(n m:Nat){t:Ty}{a b x:Pat},zam w m t a=true→zam w m t b=true→zaW n a b=some x→zam w m t x=true
 |0,m,t,a,b,x,_,_,h=>by simp[zaW] at h
 |n+1,0,t,a,b,x,ha,_,_=>by simp[zam] at ha
 |n+1,m+1,t,a,b,x,ha,hb,h=>by
  by_cases h1:a.op=1
  ·rw[zlv h1] at h;cases h;exact hb
  by_cases h2:b.op=1
  ·rw[zlw h1 h2] at h;cases h;exact ha
  have hs:=zdV ha hb h1 h2
  have oa:=zck ha
  by_cases h3:a.op=3
  ·rw[zlx h3 h2] at h
   split at h
   ·cases h
    have ia:=zcD ha h3
    have ib:=zcD hb (by omega)
    have q1:=zsE a.m b.m
    have q2:=zsC a.n b.n
    refine zm4 ia.1 (by omega) (by assumption) (by omega)
   ·cases h
  have h4:a.op=4:=by omega
  by_cases hc:a.ctor=b.ctor
  ·rw[zly h4 h2 hc] at h
   obtain⟨m1,m2,m3,m4⟩:=zbh ha h4
   obtain⟨n1,n2,n3,n4⟩:=zbh hb (by omega)
   rw[←hc] at n3
   cases hl:zcN (zaW n) a.kids b.kids [] with
   |none=>rw[hl] at h;cases h
   |some l=>
    rw[hl] at h
    simp only[Option.map_some,Option.some.injEq] at h
    subst h
    obtain⟨r,e,hr,hm⟩:=zii (by omega) hl
    rw[List.nil_append] at e
    subst e
    refine zh8 m1 (by omega) (fun i hi=>?_)
    have ka:=zbw ha (i:=i) (by omega)
    have kb:=zbw hb (i:=i) (by omega)
    rw[zbK h4] at ka
    rw[zbK (by omega),←hc] at kb
    exact zm8 n m ka kb (hm i (by omega))
  ·rw[zjK h4 h2 hc] at h;cases h
theorem zlM {w:List Data}{n:Nat}{t:Ty}{a b:Int} (ht:t.data = -1) (h0:0≤a) (h2:b≤9):∀x∈zcm a b,zam w (n+1) t x=true:=by
 intro x hx
 unfold zcm at hx
 split at hx
 ·rename_i h1
  rw[List.mem_singleton] at hx
  rw[hx];exact zm4 ht h0 h1 h2
 ·simp at hx
theorem zos {w:List Data}{n:Nat}{t:Ty}{a:Pat} (ha:zam w n t a=true) (ht:t.data = -1):0≤lowQ a∧zdc a≤9∧lowQ a≤zdc a:=by
 have oa:=zck ha
 unfold lowQ zdc
 by_cases h1:a.op=1
 ·rw[if_pos h1,if_pos h1];omega
 ·rw[if_neg h1,if_neg h1]
  by_cases h3:a.op=3
  ·have:=zcD ha h3;omega
  ·exact absurd ht (zbh ha (by omega)).2.1
theorem zpX (a b:Pat):(zeD a b).length≤2:=by
 have h:∀x y,(zcm x y).length≤1:=fun x y=>by unfold zcm;split<;>simp
 unfold zeD
 rw[List.length_append]
 have:=h (lowQ a) (minQ (zdc a) (b.n-1));have:=h (maxQ (lowQ a) (b.m+1)) (zdc a);omega
theorem zo9 {w:List Data}{f:Ty→Pat→Pat→List Pat}{m:Nat}{t:Ty}{c:Int} (hc:c∈zaA w t) (hf:∀u x y,zam w m u x=true→zam w m u y=true→∀z∈f u x y,zam w m u z=true):
  ∀(i:Nat){xs bs front:List Pat},front.length=i→xs.length+i=(zaj w t c).length→bs.length=xs.length→(∀j,j<i→zam w m (nth (zaj w t c) j) (nth front j)=true)→
   (∀j,j<xs.length→zam w m (nth (zaj w t c) (i+j)) (nth xs j)=true∧zam w m (nth (zaj w t c) (i+j)) (nth bs j)=true)→
   ∀x∈zbk f c ((zaj w t c).drop i) xs bs front,zam w (m+1) t x=true:=by
 intro i xs
 induction xs generalizing i with
 |nil=>
  intro bs front _ _ _ _ _ x hx
  cases hT:(zaj w t c).drop i<;>(rw[hT] at hx;simp[zbk] at hx)
 |cons a0 s ih=>
  intro bs front hfl hal hbl hfr hab x hx
  cases bs with
  |nil=>simp at hbl
  |cons b0 q=>
   have hi:i<(zaj w t c).length:=by simp at hal;omega
   rw[zbc hi] at hx
   have h0:=hab 0 (by simp)
   simp only[Nat.add_zero] at h0
   have e0:nth (a0::s) 0=a0:=rfl
   have e1:nth (b0::q) 0=b0:=rfl
   rw[e0,e1] at h0
   unfold zbk at hx
   have hpiece:∀z,zam w m (nth (zaj w t c) i) z=true→∀j,j<(front++[z]++s).length→zam w m (nth (zaj w t c) j) (nth (front++[z]++s) j)=true:=fun z hz j hj=>by
    by_cases hj1:j<i
    ·have e:nth (front++[z]++s) j=nth front j:=by
      simp only[nth,List.getD,List.append_assoc]
      rw[List.getElem?_append_left (by omega)]
     rw[e];exact hfr j hj1
    ·by_cases hj2:j=i
     ·have e:nth (front++[z]++s) j=z:=by
       simp only[nth,List.getD,List.append_assoc]
       rw[List.getElem?_append_right (by omega),show j-front.length=0 by omega];rfl
      rw[e,hj2];exact hz
     ·obtain⟨k,rfl⟩:∃k,j=i+1+k:=⟨j-(i+1),by omega⟩
      have e:nth (front++[z]++s) (i+1+k)=nth (a0::s) (k+1):=by
       simp only[nth,List.getD,List.append_assoc]
       rw[List.getElem?_append_right (by omega),show i+1+k-front.length=k+1 by omega];rfl
      rw[e]
      have:=(hab (k+1) (by simp at hj ⊢;omega)).1
      rwa [show i+(k+1)=i+1+k by omega] at this
   rcases List.mem_append.1 hx with hx|hx
   ·obtain⟨z,hz,rfl⟩:=List.mem_map.1 hx
    refine zh8 hc (by simp at hal ⊢;omega) (hpiece z (hf _ _ _ h0.1 h0.2 z hz))
   ·cases hm:zaW 11 a0 b0 with
    |none=>rw[hm] at hx;simp at hx
    |some both=>
     rw[hm] at hx
     have hbp:=zm8 11 m h0.1 h0.2 hm
     refine ih (i+1) (bs:=q) (front:=front++[both]) (by simp[hfl]) (by simp at hal ⊢;omega) (by simpa using hbl) (fun j hj=>?_) (fun j hj=>?_) x hx
     ·have:=hpiece both hbp j (by simp;omega)
      have e:nth (front++[both]++s) j=nth (front++[both]) j:=by
       simp only[nth,List.getD]
       rw[List.getElem?_append_left (by simp;omega)]
      rwa [e] at this
     ·have:=hab (j+1) (by simpa using hj)
      rwa [show i+(j+1)=i+1+j by omega] at this
theorem zgn {w:List Data}:∀(n m:Nat){t:Ty}{a b:Pat},n<m→zam w m t a=true→zam w n t b=true→∀x∈zav w n t a b,zam w m t x=true
 |0,m,t,a,b,_,_,hb=>by simp[zam] at hb
 |n+1,0,t,a,b,hn,_,_=>by omega
 |n+1,m+1,t,a,b,hn,ha,hb=>by
  have ob:=zck hb
  have oa:=zck ha
  have hf:∀u x y,zam w m u x=true→zam w n u y=true→∀z∈zav w n u x y,zam w m u z=true:=fun u x y hx hy=>zgn n m (by omega) hx hy
  have hcc:∀a,zam w (m+1) t a=true→a.op=4→b.op=4→∀x∈zdf (zav w n) w t a b,zam w (m+1) t x=true:=fun a ha h4 h4b=>by
   obtain⟨m1,m2,m3,m4⟩:=zbh ha h4
   obtain⟨n1,n2,n3,n4⟩:=zbh hb h4b
   intro x hx
   unfold zdf at hx
   split at hx
   ·rename_i hc
    have key:=zo9 (w:=w) (f:=fun u x y=>if zam w m u x=true∧zam w n u y=true then zav w n u x y else []) (m:=m) (t:=t) (c:=a.ctor) m1 (fun u x y hx hy z hz=>by
     split at hz
     ·rename_i hh;exact hf u x y hh.1 hh.2 z hz
     ·simp at hz) 0 (xs:=a.kids) (bs:=b.kids) (front:=[]) rfl (by omega) (by rw[hc] at m3;omega) (fun j hj=>by omega) (fun j hj=>by
      have ka:=zbw ha (i:=j) hj
      have kb:=zbw hb (i:=j) (by rw[hc] at m3;omega)
      rw[zbK h4] at ka
      rw[zbK h4b,←hc] at kb
      rw[Nat.zero_add]
      exact⟨ka,zjM (by omega) kb⟩) x
    refine key ?_
    have e:∀(ts:List Ty) (xs bs front:List Pat),(∀j,j<ts.length→j<xs.length→j<bs.length→zam w m (nth ts j) (nth xs j)=true∧zam w n (nth ts j) (nth bs j)=true)→
      zbk (fun u x y=>if zam w m u x=true∧zam w n u y=true then zav w n u x y else []) a.ctor ts xs bs front=zbk (zav w n) a.ctor ts xs bs front:=by
     intro ts
     induction ts with
     |nil=>intro xs bs front _;simp[zbk]
     |cons u r ih=>
      intro xs bs front h
      cases xs with
      |nil=>simp[zbk]
      |cons x s=>
       cases bs with
       |nil=>simp[zbk]
       |cons y q=>
        have h0:=h 0 (by simp) (by simp) (by simp)
        change zam w m u x=true∧zam w n u y=true at h0
        unfold zbk
        rw[if_pos h0]
        congr 1
        cases hmm:zaW 11 x y with
        |none=>rfl
        |some both=>exact ih s q (front++[both]) (fun j h1 h2 h3=>h (j+1) (by simpa using h1) (by simpa using h2) (by simpa using h3))
    rw[List.drop_zero,e _ _ _ _ (fun j h1 h2 h3=>?_)]
    ·exact hx
    ·have ka:=zbw ha (i:=j) h2
     have kb:=zbw hb (i:=j) h3
     rw[zbK h4] at ka
     rw[zbK h4b,←hc] at kb
     exact⟨ka,kb⟩
   ·rw[List.mem_singleton] at hx
    rw[hx];exact ha
  rcases ob with h1|h3|h4
  ·rw[zhS h1];simp
  ·rw[zjL h3]
   intro x hx
   have hl:=zos ha (zcD hb h3).1
   have ib:=zcD hb h3
   have q1:=zsD (zdc a) (b.n-1)
   have q2:=zsB (lowQ a) (b.m+1)
   unfold zeD at hx
   rcases List.mem_append.1 hx with h|h
   ·exact zlM ib.1 (by omega) (by omega) x h
   ·exact zlM ib.1 (by omega) (by omega) x h
  ·by_cases ha1:a.op=1
   ·rw[zhT h4 ha1]
    intro x hx
    obtain⟨c,hc,hx⟩:=List.mem_flatMap.1 hx
    refine hcc _ ?_ rfl h4 x hx
    obtain⟨k,rfl⟩:∃k,m=k+1:=⟨m-1,by omega⟩
    exact zdW hc
   ·have ha4:a.op=4:=by
     have:=zdV ha hb ha1 (by omega);omega
    rw[zen h4 ha4]
    exact hcc a ha ha4 h4
theorem zfC {w:List Data} (hs:Spa w):∀(n:Nat){t:Ty}{p:Pat},InS (w.length*4) t→zam w n t p=true→p.ok∧p.size≤4 ^ n
 |0,t,p,_,h=>by simp[zam] at h
 |n+1,t,p,ht,h=>by
  have hk:=fun i (hi:i<p.kids.length)=>zbw h hi
  have hl:=(zgU h).2
  have op:=zck h
  have hpow:4 ^ (n+1)=4 ^ n*4:=rfl
  have hpos:0<4 ^ n:=Nat.pow_pos (by omega)
  by_cases h4:p.op=4
  ·obtain⟨m1,m2,m3,m4⟩:=zbh h h4
   have h3:=hs.args t p.ctor ht m1
   rw[zbK h4] at hk
   have ih:∀k∈p.kids,k.ok∧k.size≤4 ^ n:=fun k hkm=>by
    obtain⟨i,hi,rfl⟩:=List.getElem_of_mem hkm
    have e:nth p.kids i=p.kids[i]:=za9 hi
    have:=zfC hs n (zcz hs.dp ht m1 _ (zal (i:=i) (by omega))) (hk i hi)
    rwa [e] at this
   have hz:=Pats.size_of (m:=4 ^ n) (fun k hk=>(ih k hk).2)
   rw[Pat.ok_iff,Pat.size_eq]
   refine⟨⟨by omega,Pats.ok_of (fun k hk=>(ih k hk).1)⟩, ?_⟩
   have:p.kids.length*4 ^ n≤3*4 ^ n:=Nat.mul_le_mul_right _ (by omega)
   omega
  ·have hk0:p.kids=[]:=zp2 (zgq _ h) h4 (by omega) (by omega)
   rw[Pat.ok_iff,Pat.size_eq,hk0]
   exact⟨⟨by simp,trivial⟩,by simp only[Pats.size];omega⟩
theorem zmW {α:Type}{g:Int→List α}{c0:Int}{X:Nat}:∀ {cs:List Int},cs.Nodup→(∀c∈cs,c≠c0→(g c).length≤1)→(g c0).length≤X→(cs.flatMap g).length≤cs.length+X
 | [],_,_,_=>by simp
 |c::r,hn,h1,h2=>by
  obtain⟨n1,n2⟩:=List.nodup_cons.1 hn
  rw[List.flatMap_cons,List.length_append,List.length_cons]
  by_cases hc:c=c0
  ·have key:∀l:List Int,c0∉l→(∀x∈l,x≠c0→(g x).length≤1)→(l.flatMap g).length≤l.length:=by
    intro l
    induction l with
    |nil=>intro _ _;simp
    |cons y s ih=>
     intro hm hh
     rw[List.flatMap_cons,List.length_append,List.length_cons]
     have a1:=hh y (by simp) (fun e=>hm (by rw[e];simp))
     have a2:=ih (fun e=>hm (by simp[e])) (fun x hx=>hh x (by simp[hx]))
     omega
   have:=key r (by rw[←hc];exact n1) (fun x hx=>h1 x (by simp[hx]))
   rw[hc];omega
  ·have a1:=h1 c (by simp) hc
   have a2:=zmW (X:=X) n2 (fun x hx=>h1 x (by simp[hx])) h2
   omega
theorem zlA {f:Ty→Pat→Pat→List Pat}{c:Int} (L:Pat→Nat):∀(ts:List Ty) (xs bs front:List Pat),(∀i,i<ts.length→i<xs.length→i<bs.length→(f (nth ts i) (nth xs i) (nth bs i)).length≤L (nth bs i))→(zbk f c ts xs bs front).length≤(bs.map L).sum
 | [],xs,bs,front,_=>by simp[zbk]
 |_::_,[],bs,front,_=>by simp[zbk]
 |_::_,_::_,[],front,_=>by simp[zbk]
 |u::r,x::s,y::q,front,h=>by
  have h0:=h 0 (by simp) (by simp) (by simp)
  change (f u x y).length≤L y at h0
  unfold zbk
  rw[List.length_append,List.length_map,List.map_cons,List.sum_cons]
  cases hm:zaW 11 x y with
  |none=>simp;omega
  |some both=>
   have:=zlA (c:=c) L r s q (front++[both]) (fun i h1 h2 h3=>h (i+1) (by simpa using h1) (by simpa using h2) (by simpa using h3))
   dsimp only;omega
theorem zpW {w:List Data}{f:Ty→Pat→Pat→List Pat}{t:Ty}{a b:Pat}{L:Pat→Nat} (h:∀i,i<(zaj w t a.ctor).length→i<a.kids.length→i<b.kids.length→(f (nth (zaj w t a.ctor) i) (nth a.kids i) (nth b.kids i)).length≤L (nth b.kids i)):
  (zdf f w t a b).length≤if a.ctor=b.ctor then (b.kids.map L).sum else 1:=by
 unfold zdf
 split
 ·exact zlA L _ _ _ _ h
 ·simp
theorem sum4:∀l:List Pat,(l.map fun b=>4*b.size).sum=4*Pats.size l
 | []=>rfl
 |k::r=>by simp only[List.map_cons,List.sum_cons,Pats.size,sum4 r];omega
theorem zm9 {w:List Data} (hs:Spa w):∀(n m:Nat){t:Ty}{a b:Pat},n<m→InS (w.length*4) t→zam w m t a=true→zam w n t b=true→(zav w n t a b).length≤4*b.size
 |0,m,t,a,b,_,_,_,hb=>by simp[zam] at hb
 |n+1,0,t,a,b,hn,_,_,_=>by omega
 |n+1,m+1,t,a,b,hn,ht,ha,hb=>by
  have ob:=zck hb
  have hz:=Pat.size_eq b
  rcases ob with h1|h3|h4
  ·rw[zhS h1];simp
  ·rw[zjL h3];have:=zpX a b;omega
  ·obtain⟨n1,n2,n3,n4⟩:=zbh hb h4
   have hcc:∀a,zam w (m+1) t a=true→a.op=4→(zdf (zav w n) w t a b).length≤if a.ctor=b.ctor then 4*Pats.size b.kids else 1:=fun a ha h4a=>by
    obtain⟨m1,m2,m3,m4⟩:=zbh ha h4a
    rw[←sum4]
    by_cases hc:a.ctor=b.ctor
    ·have:=zpW (w:=w) (f:=zav w n) (t:=t) (a:=a) (b:=b) (L:=fun b=>4*b.size) (fun i h1 h2 h3=>by
      have ka:=zbw ha (i:=i) h2
      have kb:=zbw hb (i:=i) h3
      rw[zbK h4a] at ka
      rw[zbK h4,←hc] at kb
      exact zm9 hs n m (by omega) (zcz hs.dp ht m1 _ (zal h1)) ka kb)
     exact this
    ·unfold zdf;rw[if_neg hc,if_neg hc];simp
   by_cases ha1:a.op=1
   ·rw[zhT h4 ha1]
    obtain⟨c1,c2⟩:=hs.ctors t ht
    have hw:∀c,c∈zaA w t→(zdf (zav w n) w t (zcn w t c) b).length≤if c=b.ctor then 4*Pats.size b.kids else 1:=fun c hc=>by
     obtain⟨k,rfl⟩:∃k,m=k+1:=⟨m-1,by omega⟩
     exact hcc _ (zdW hc) rfl
    have:=zmW (g:=fun c=>zdf (zav w n) w t (zcn w t c) b) (c0:=b.ctor) (X:=4*Pats.size b.kids) c2 (fun c hc hne=>by have:=hw c hc;rwa [if_neg hne] at this) (by have:=hw _ n1;rwa [if_pos rfl] at this)
    omega
   ·have ha4:a.op=4:=by have:=zdV ha hb ha1 (by omega);omega
    rw[zen h4 ha4]
    have:=hcc a ha ha4
    split at this<;>omega
theorem zkN {α β:Type} [Inhabited α] [Inhabited β]{f:α→β→Bool}:∀ {a:List α}{b:List β},a.length=b.length→all2 f a b=false→∃i,i<a.length∧f (nth a i) (nth b i)=false
 | [],[],_,h=>by simp[all2] at h
 |x::r,y::s,hl,h=>by
  simp only[all2,Bool.and_eq_false_iff] at h
  rcases h with h|h
  ·exact⟨0,by simp,h⟩
  ·obtain⟨i,h1,h2⟩:=zkN (by simpa using hl) h
   exact⟨i+1,by simpa using h1,h2⟩
 | [],_::_,hl,_=>by simp at hl
 |_::_,[],hl,_=>by simp at hl
theorem zhL {w:List Data}{f:Nat→Nat}{n:Nat}{t:Ty}{p:Pat} (h:p.op=1):zbi w f (n+1) t p=decide (dv f t=0):=by rw[zfM,if_pos (.inl h)]
theorem zmc {w:List Data}{f:Nat→Nat}{n m:Nat}{t:Ty}{p:Pat} (hp:zam w m t p=true) (h:p.op=3):zbi w f (n+1) t p=false:=by
 rw[zfM,if_neg (by omega),if_neg (by omega)]
 have e:zag w t p=[]:=by unfold zag;rw[if_neg (by omega),if_neg (by omega),if_neg (by omega)]
 have hl:=(zgU hp).2
 rw[e] at hl ⊢
 rw[List.eq_nil_of_length_eq_zero hl];rfl
theorem zmd {w:List Data}{f:Nat→Nat}{n:Nat}{t:Ty}{p:Pat} (h:p.op=4):zbi w f (n+1) t p = !(all2 (fun u q=> !zbi w f n u q) (zaj w t p.ctor) p.kids):=by
 rw[zfM,if_neg (by omega),if_neg (by omega),zbK h]
theorem zob {w:List Data}{f:Nat→Nat}{n m:Nat}{t:Ty}{p:Pat} (hp:zam w m t p=true) (h:p.op=4) (hd:zbi w f (n+1) t p=true):∃i,i<p.kids.length∧zbi w f n (nth (zaj w t p.ctor) i) (nth p.kids i)=true:=by
 rw[zmd h] at hd
 have hl:=(zbh hp h).2.2.1
 obtain⟨i,h1,h2⟩:=zkN (a:=zaj w t p.ctor) (b:=p.kids) (f:=fun u q=> !zbi w f n u q) hl.symm (by simpa using hd)
 exact⟨i,by omega,by simpa using h2⟩
theorem zgS {w:List Data}{f:Nat→Nat}{n:Nat}{t:Ty}{c:Int}{l:List Pat}{i:Nat} (hi:i<l.length) (hl:l.length=(zaj w t c).length) (hd:zbi w f n (nth (zaj w t c) i) (nth l i)=true):zbi w f (n+1) t (zb8 c l)=true:=by
 rw[zmd rfl]
 have:=zbZ (f:=fun u q=> !zbi w f n u q) (a:=zaj w t c) (b:=l) (i:=i) (by omega) hl.symm (by rw[hd];rfl)
 show(!all2 (fun u q=> !zbi w f n u q) (zaj w t c) l)=true
 rw[this];rfl
theorem ztC {w:List Data} (hd:Dp w){t:Ty}{c:Int} (ht:InS (w.length*4) t) (hc:c∈zaA w t) (h0:dv (zaZ w) t=0):∃i,i<(zaj w t c).length∧dv (zaZ w) (nth (zaj w t c) i)=0:=by
 by_cases hx:∃i,i<(zaj w t c).length∧dv (zaZ w) (nth (zaj w t c) i)=0
 ·exact hx
 ·exfalso
  have a:Snd w (zaZ w)∧Cmp w (w.length*4+1) (zaZ w):=zfA hd.cl (w.length*4+1)
  have hdt:t.data≠ -1:=fun e=>by unfold zaA at hc;rw[if_pos e] at hc;simp at hc
  have hb:∀u∈zaj w t c,Hd w (w.length*4+1) u:=fun u hu=>by
   obtain⟨i,hi,rfl⟩:=List.getElem_of_mem hu
   have hpos:0<dv (zaZ w) (zaj w t c)[i]:=by
    have e:nth (zaj w t c) i=(zaj w t c)[i]:=za9 hi
    rcases Nat.eq_zero_or_pos (dv (zaZ w) (zaj w t c)[i]) with h|h
    ·exact absurd ⟨i,hi,by rw[e];exact h⟩ hx
    ·exact h
   have hin:=zcz hd ht hc _ hu
   have h1:=zsb a.1 hin hpos
   rcases hin with h2|⟨h2,h3⟩
   ·exact .inl h2
   ·rw[←h3] at h1 ⊢
    exact zol hd.cl h2 h1
  have h2:Hd w (w.length*4+2) t:= .inr ⟨c,zrc hc,hdt,hb⟩
  rcases ht with h3|⟨h3,h4⟩
  ·exact hdt h3
  ·rw[←h4] at h2
   have h5:=zol hd.cl h3 h2
   rw[h4] at h5
   have:=(zqH a.2 (.inr ⟨h3,h4⟩) h5).1
   omega
section
variable {w:List Data} (hs:Spa w)
include hs
theorem zi2:∀(n:Nat){t:Ty}{p:Pat},InS (w.length*4) t→zam w n t p=true→dv (zaZ w) t=0→zbi w (zaZ w) n t p=true
 |0,t,p,_,h,_=>by simp[zam] at h
 |n+1,t,p,ht,h,h0=>by
  rcases zck h with h1|h3|h4
  ·rw[zhL h1];exact decide_eq_true h0
  ·have:=(zcD h h3).1
   unfold dv at h0;rw[if_pos this] at h0;omega
  ·obtain⟨m1,m2,m3,m4⟩:=zbh h h4
   obtain⟨i,h5,h6⟩:=ztC hs.dp ht m1 h0
   rw[m4]
   have hk:=zbw h (i:=i) (by omega)
   rw[zbK h4] at hk
   exact zgS (by omega) m3 (zi2 n (zcz hs.dp ht m1 _ (zal h5)) hk h6)
theorem zm7:∀(n k:Nat){t:Ty}{a b x:Pat},InS (w.length*4) t→zam w n t a=true→zam w n t b=true→zbi w (zaZ w) n t a=true→zaW k a b=some x→zbi w (zaZ w) n t x=true
 |0,k,t,a,b,x,_,h,_,_,_=>by simp[zam] at h
 |n+1,0,t,a,b,x,_,_,_,_,h=>by simp[zaW] at h
 |n+1,k+1,t,a,b,x,ht,ha,hb,hd,h=>by
  by_cases h1:a.op=1
  ·rw[zlv h1] at h;cases h
   rw[zhL h1] at hd
   exact zi2 hs (n+1) ht hb (of_decide_eq_true hd)
  by_cases h2:b.op=1
  ·rw[zlw h1 h2] at h;cases h;exact hd
  by_cases h3:a.op=3
  ·rw[zmc ha h3] at hd;cases hd
  have h4:a.op=4:=by have:=zck ha;omega
  have hso:=zdV ha hb h1 h2
  by_cases hc:a.ctor=b.ctor
  ·rw[zly h4 h2 hc] at h
   obtain⟨m1,m2,m3,m4⟩:=zbh ha h4
   obtain⟨n1,n2,n3,n4⟩:=zbh hb (by omega)
   rw[←hc] at n3
   cases hl:zcN (zaW k) a.kids b.kids [] with
   |none=>rw[hl] at h;cases h
   |some l=>
    rw[hl] at h
    simp only[Option.map_some,Option.some.injEq] at h
    subst h
    obtain⟨r,e,hr,hm⟩:=zii (by omega) hl
    rw[List.nil_append] at e
    subst e
    obtain⟨i,hi,hde⟩:=zob ha h4 hd
    have ka:=zbw ha (i:=i) hi
    have kb:=zbw hb (i:=i) (by omega)
    rw[zbK h4] at ka
    rw[zbK (by omega),←hc] at kb
    exact zgS (i:=i) (by omega) (by omega) (zm7 n k (zcz hs.dp ht m1 _ (zal (by omega))) ka kb hde (hm i hi))
  ·rw[zjK h4 h2 hc] at h;cases h
theorem zo8 {f:Ty→Pat→Pat→List Pat}{m:Nat}{t:Ty}{c:Int} (ht:InS (w.length*4) t) (hc:c∈zaA w t):
  ∀(i:Nat){xs bs front:List Pat},front.length=i→xs.length+i=(zaj w t c).length→bs.length=xs.length→
   (∀j,j<xs.length→zam w m (nth (zaj w t c) (i+j)) (nth xs j)=true∧zam w m (nth (zaj w t c) (i+j)) (nth bs j)=true∧(zbi w (zaZ w) m (nth (zaj w t c) (i+j)) (nth xs j)=true→∀z∈f (nth (zaj w t c) (i+j)) (nth xs j) (nth bs j),zbi w (zaZ w) m (nth (zaj w t c) (i+j)) z=true))→
   ((∃j,j<i∧zbi w (zaZ w) m (nth (zaj w t c) j) (nth front j)=true)∨∃j,j<xs.length∧zbi w (zaZ w) m (nth (zaj w t c) (i+j)) (nth xs j)=true)→
   ∀x∈zbk f c ((zaj w t c).drop i) xs bs front,zbi w (zaZ w) (m+1) t x=true:=by
 intro i xs
 induction xs generalizing i with
 |nil=>
  intro bs front _ _ _ _ _ x hx
  cases hT:(zaj w t c).drop i<;>(rw[hT] at hx;simp[zbk] at hx)
 |cons a0 s ih=>
  intro bs front hfl hal hbl hab hde x hx
  cases bs with
  |nil=>simp at hbl
  |cons b0 q=>
   have hi:i<(zaj w t c).length:=by simp at hal;omega
   rw[zbc hi] at hx
   have h0:=hab 0 (by simp)
   simp only[Nat.add_zero] at h0
   have e0:nth (a0::s) 0=a0:=rfl
   have e1:nth (b0::q) 0=b0:=rfl
   rw[e0,e1] at h0
   unfold zbk at hx
   have f1:∀z j,j<i→nth (front++[z]++s) j=nth front j:=fun z j hj=>by
    simp only[nth,List.getD,List.append_assoc]
    rw[List.getElem?_append_left (by omega)]
   have f2:∀z,nth (front++[z]++s) i=z:=fun z=>by
    simp only[nth,List.getD,List.append_assoc]
    rw[List.getElem?_append_right (by omega),show i-front.length=0 by omega];rfl
   have f3:∀z k,nth (front++[z]++s) (i+1+k)=nth (a0::s) (k+1):=fun z k=>by
    simp only[nth,List.getD,List.append_assoc]
    rw[List.getElem?_append_right (by omega),show i+1+k-front.length=k+1 by omega];rfl
   have hfl2:∀z,(front++[z]++s).length=(zaj w t c).length:=fun z=>by simp at hal ⊢;omega
   rcases List.mem_append.1 hx with hx|hx
   ·obtain⟨z,hz,rfl⟩:=List.mem_map.1 hx
    rcases hde with ⟨j,hj,hd⟩|⟨j,hj,hd⟩
    ·exact zgS (i:=j) (by rw[hfl2];omega) (hfl2 z) (by rw[f1 z j hj];exact hd)
    ·cases j with
     |zero=>exact zgS (i:=i) (by rw[hfl2];omega) (hfl2 z) (by rw[f2 z];exact h0.2.2 hd z hz)
     |succ k=>exact zgS (i:=i+1+k) (by rw[hfl2];simp at hj;simp at hal;omega) (hfl2 z) (by rw[f3 z k,show i+1+k=i+(k+1) by omega];exact hd)
   ·cases hm:zaW 11 a0 b0 with
    |none=>rw[hm] at hx;simp at hx
    |some both=>
     rw[hm] at hx
     refine ih (i+1) (bs:=q) (front:=front++[both]) (by simp[hfl]) (by simp at hal ⊢;omega) (by simpa using hbl) (fun j hj=>?_) ?_ x hx
     ·have:=hab (j+1) (by simpa using hj)
      rwa [show i+(j+1)=i+1+j by omega] at this
     ·rcases hde with ⟨j,hj,hd⟩|⟨j,hj,hd⟩
      ·refine .inl ⟨j,by omega, ?_⟩
       have e:nth (front++[both]) j=nth front j:=by
        simp only[nth,List.getD]
        rw[List.getElem?_append_left (by omega)]
       rw[e];exact hd
      ·cases j with
       |zero=>
        refine .inl ⟨i,by omega, ?_⟩
        have e:nth (front++[both]) i=both:=by
         simp only[nth,List.getD]
         rw[List.getElem?_append_right (by omega),show i-front.length=0 by omega];rfl
        rw[e]
        exact zm7 hs m 11 (zcz hs.dp ht hc _ (zal hi)) h0.1 h0.2.1 hd hm
       |succ k=>
        refine .inr ⟨k,by simpa using hj, ?_⟩
        rw[show i+1+k=i+(k+1) by omega];exact hd
theorem zlB:∀(n m:Nat){t:Ty}{a b:Pat},n<m→InS (w.length*4) t→zam w m t a=true→zam w n t b=true→zbi w (zaZ w) m t a=true→∀x∈zav w n t a b,zbi w (zaZ w) m t x=true
 |0,m,t,a,b,_,_,_,hb,_=>by simp[zam] at hb
 |n+1,0,t,a,b,hn,_,_,_,_=>by omega
 |n+1,m+1,t,a,b,hn,ht,ha,hb,hd=>by
  have hcc:∀a,zam w (m+1) t a=true→a.op=4→b.op=4→zbi w (zaZ w) (m+1) t a=true→∀x∈zdf (zav w n) w t a b,zbi w (zaZ w) (m+1) t x=true:=fun a ha h4 h4b hd=>by
   obtain⟨m1,m2,m3,m4⟩:=zbh ha h4
   obtain⟨n1,n2,n3,n4⟩:=zbh hb h4b
   intro x hx
   unfold zdf at hx
   split at hx
   ·rename_i hc
    obtain⟨j,hj,hdj⟩:=zob ha h4 hd
    refine zo8 hs ht m1 0 (xs:=a.kids) (bs:=b.kids) (front:=[]) rfl (by omega) (by rw[hc] at m3;omega) (fun j hj=>?_) (.inr ⟨j,hj,by rw[Nat.zero_add];exact hdj⟩) x hx
    have ka:=zbw ha (i:=j) hj
    have kb:=zbw hb (i:=j) (by rw[hc] at m3;omega)
    rw[zbK h4] at ka
    rw[zbK h4b,←hc] at kb
    rw[Nat.zero_add]
    exact⟨ka,zjM (by omega) kb,fun hdk z hz=>zlB n m (by omega) (zcz hs.dp ht m1 _ (zal (by omega))) ka kb hdk z hz⟩
   ·rw[List.mem_singleton] at hx
    rw[hx];exact hd
  rcases zck hb with h1|h3|h4
  ·rw[zhS h1];simp
  ·have hl:=zos ha (zcD hb h3).1
   rcases zck ha with h|h|h
   ·rw[zhL h] at hd
    have:=of_decide_eq_true hd
    unfold dv at this;rw[if_pos (zcD hb h3).1] at this;omega
   ·rw[zmc ha h] at hd;cases hd
   ·exact absurd (zcD hb h3).1 (zbh ha h).2.1
  ·by_cases ha1:a.op=1
   ·rw[zhT h4 ha1]
    rw[zhL ha1] at hd
    intro x hx
    obtain⟨c,hc,hx⟩:=List.mem_flatMap.1 hx
    obtain⟨k,rfl⟩:∃k,m=k+1:=⟨m-1,by omega⟩
    exact hcc _ (zdW hc) rfl h4 (zi2 hs _ ht (zdW hc) (of_decide_eq_true hd)) x hx
   ·have ha4:a.op=4:=by have:=zdV ha hb ha1 (by omega);omega
    rw[zen h4 ha4]
    exact hcc a ha ha4 h4 hd
end
def zbP (w:List Data) (t:Ty) (p:Pat):Bool:= !zbi w (zaZ w) 11 t p
def zco (w:List Data) (t:Ty) (l:List Pat) (b:Pat):List Pat:=(l.flatMap fun a=>zav w 10 t a b).filter (zbP w t)
def subL (w:List Data) (t:Ty):List Pat→List Pat→Option (List Pat)
 |l,[]=>some l
 |l,b::r=>if (zco w t l b).length≤400 then subL w t (zco w t l b) r else none
def zaN (w:List Data) (t:Ty) (l away:List Pat):Option (List Pat):=subL w t (l.filter (zbP w t)) away
theorem zoz {w:List Data} (hs:Spa w){t:Ty} (ht:InS (w.length*4) t){l:List Pat}{b:Pat} (hl:∀a∈l,zam w 11 t a=true) (hb:zam w 10 t b=true):zco w t (l.filter (zbP w t)) b=zco w t l b:=by
 unfold zco
 induction l with
 |nil=>rfl
 |cons a r ih=>
  have ih':=ih (fun x hx=>hl x (by simp[hx]))
  rw[List.flatMap_cons,List.filter_append]
  by_cases h:zbP w t a=true
  ·rw[List.filter_cons_of_pos h,List.flatMap_cons,List.filter_append,ih']
  ·rw[List.filter_cons_of_neg h,ih']
   have hd:zbi w (zaZ w) 11 t a=true:=by unfold zbP at h;simpa using h
   have:(zav w 10 t a b).filter (zbP w t)=[]:=by
    rw[List.filter_eq_nil_iff]
    intro x hx
    have:=zlB hs 10 11 (by omega) ht (hl a (by simp)) hb hd x hx
    unfold zbP;rw[this];simp
   rw[this,List.nil_append]
theorem zkc {w:List Data}{t:Ty}{l:List Pat}{b:Pat}:(zco w t l b).filter (zbP w t)=zco w t l b:=by
 unfold zco;rw[List.filter_filter];simp
theorem zl0 {w:List Data}{t:Ty}:∀(away:List Pat){l:List Pat},l.filter (zbP w t)=l→(subL w t l away).map (List.filter (zbP w t))=subL w t l away
 | [],l,h=>by simp only[subL,Option.map_some,h]
 |b::r,l,h=>by
  unfold subL
  split
  ·exact zl0 r zkc
  ·rfl
theorem zq3 {w:List Data} (hs:Spa w){t:Ty} (ht:InS (w.length*4) t){l away:List Pat} (hl:∀a∈l,zam w 11 t a=true) (hb:∀b∈away,zam w 10 t b=true):(subL w t l away).map (List.filter (zbP w t))=zaN w t l away:=by
 unfold zaN
 cases away with
 |nil=>rfl
 |cons b r=>
  unfold subL
  rw[zoz hs ht hl (hb b (by simp))]
  split
  ·exact zl0 r zkc
  ·rfl
theorem zgo {w:List Data}{t:Ty}{l:List Pat}{b:Pat} (hl:∀a∈l,zam w 11 t a=true) (hb:zam w 10 t b=true):∀x∈zco w t l b,zam w 11 t x=true:=fun x hx=>by
 unfold zco at hx
 obtain⟨a,ha,hx⟩:=List.mem_flatMap.1 (List.mem_filter.1 hx).1
 exact zgn 10 11 (by omega) (hl a ha) hb x hx
end Go.Proofs.YtfiihhedihkdoaaGreat
