/-
  THE ABSTRACT WALK AND THE WALKS, part 3 of 6: the parts F21, F24, F25, F13, G2, F22, F26, F23, F27, F28, F29, F40, F14, F16, F42, Val, F7, F8, Wu, F9, F10, F11, F17, F43, F44, F45, F46, F112, G3, G4, F52, F53, F54, F55, F56, F57, F58, F70, F71.
-/
import Derived.Test.YtpgdedpljcedpaaGreatT462
namespace Go.Proofs.YtpgdedpljcedpaaGreat
open Go
set_option linter.unusedSimpArgs false
set_option linter.unusedVariables false
set_option maxRecDepth 100000
set_option maxHeartbeats 4000000
theorem zhz {w:List Data}{d:Nat}{k:Int}:zah w ⟨d,k⟩=za2 w ⟨d,k⟩:=by unfold zah;rw[if_neg (by simp only;omega)]
theorem zgC {w:List Data}{k:Int}:zah w ⟨-1,k⟩=[]:=by unfold zah;rw[if_pos rfl]
theorem zgD {w:List Data} (hw:WT w){a k:Int} (ht:TyIn w.length ⟨a,k⟩):(zah w ⟨a,k⟩).length≤1000000000000:=by
 rcases ht with ha|⟨d,hd,hlt⟩
 ·simp only at ha;subst ha;rw[zgC];exact Nat.zero_le _
 ·simp only at hd;subst hd;rw[zhz];exact zp5 hw
theorem zck {w:List Data}{a k c:Int} (ht:TyIn w.length ⟨a,k⟩) (h:c∈zah w ⟨a,k⟩):∃d:Nat,a=d∧d<w.length∧PlaceIn w d c:=by
 rcases ht with ha|⟨d,hd,hlt⟩
 ·simp only at ha;subst ha;rw[zgC] at h;simp at h
 ·simp only at hd;subst hd;rw[zhz] at h;exact⟨d,rfl,hlt,zpt h⟩
theorem zf5 {w:List Data} (hw:WT w){a k:Int}{p:Pat} (ht:TyIn w.length ⟨a,k⟩) (h:ownP w ⟨a,k⟩ p=true):∀t∈zaf w ⟨a,k⟩ p,TyIn w.length t:=by
 intro t hm
 unfold zaf at hm
 split at hm
 ·rename_i h4
  unfold ownP at h
  have h':=of_decide_eq_true h
  have hc:p.ctor∈zah w ⟨a,k⟩:=by
   rcases h'.2.2.2.2 with h|h|h|h|h|h
   ·omega
   ·omega
   ·omega
   ·omega
   ·omega
   ·exact h.2
  obtain⟨d,rfl,h1,h2⟩:=zck ht hc
  exact zne hw h1 h2 hm
 ·split at hm
  ·simp only[List.mem_cons,List.not_mem_nil,or_false] at hm
   rcases hm with rfl|rfl<;>exact ht
  ·split at hm
   ·simp only[List.mem_cons,List.not_mem_nil,or_false] at hm
    subst hm;exact ht
   ·simp at hm
theorem zgA {w:List Data} (hw:WT w){a k:Int}{p:Pat} (ht:TyIn w.length ⟨a,k⟩) (h:p.op=4→p.ctor∈zah w ⟨a,k⟩):(zaf w ⟨a,k⟩ p).length≤1000000000000:=by
 unfold zaf
 split
 ·rename_i h4
  obtain⟨d,rfl,h1,h2⟩:=zck ht (h h4)
  exact zh8 hw h1 h2
 ·split
  ·simp
  ·split<;>simp
def zfK (op:Int):Int:=if op=5 then 2 else if op=6 then 1 else if op=4 then -1 else 0
theorem zm8 {op:Int}:FnD Tryz.prog 221 [.d (.i op)] [] (.d (.i (zfK op))) []:=by
 refine bd Tryz.f221 10 [] [] fun w0 F0 own kept hk=>?_
 refine sq (fun h1 h1p h1s=>?_) fun h1 h1p h1s=>?_
 try simp only[Q] at h1p
 refine rn0 (r1 rfl) (.eqd ?_)
 rotate_left
 try simp only[Q] at h1p
 refine sq (fun h2 h2p h2s=>?_) fun h2 h2p h2s=>?_
 try simp only[Q] at h2p
 refine rn0 (r1 rfl) (.eqd ?_)
 rotate_left
 try simp only[Q] at h2p
 refine sq (fun h3 h3p h3s=>?_) fun h3 h3p h3s=>?_
 try simp only[Q] at h3p
 refine rn0 (r1 rfl) (.eqd ?_)
 rotate_left
 try simp only[Q] at h3p
 refine rn0 (r1 rfl) (.eqd ?_)
 rotate_left
 all_goals (refine congrArg D.i ?_;simp only[zfK];simp_all)
theorem zbW {w:List Data} (hw:WT w){a k:Int} (ht:TyIn w.length ⟨a,k⟩):FnD Tryz.prog 97 [.d (zam w),.agg [.d (.i a),.d (.i k)]] [] (.d (zcb (zah w ⟨a,k⟩))) []:=by
 rcases ht with ha|⟨d,hd,hlt⟩
 ·simp only at ha;subst ha;rw[zgC];exact ziY
 ·simp only at hd;subst hd;rw[zhz];exact zmg hw hlt
theorem zb5 {w:List Data} (hw:WT w){a k c:Int} (ht:TyIn w.length ⟨a,k⟩) (hc:c∈zah w ⟨a,k⟩):FnD Tryz.prog 131 [.d (zam w),.agg [.d (.i a),.d (.i k)],.d (.i c)] [] (.d (zb8 (zaa w ⟨a,k⟩ c))) []:=by
 obtain⟨d,rfl,h1,h2⟩:=zck ht hc
 exact zmZ hw h1 h2
theorem zge {w:List Data} (hw:WT w){a k:Int}{p:Pat} (ht:TyIn w.length ⟨a,k⟩):
  FnD Tryz.prog 191 [.d (zam w),.agg [.d (.i a),.d (.i k)],.agg [.d (.i p.op),.d (.i p.ctor),.d (.i p.n),.d (.i p.m),.d (.i p.var),.d (zad p.kids)]] [] (.d (.bool (ownP w ⟨a,k⟩ p))) []:=by
 have hcl:=zgD hw ht
 refine bd Tryz.f191 96 [] [1,2,4,13] fun w0 F0 own kept hk=>?_
 refine bx 3004 ?_
 refine bx 3005 ?_
 refine ev ?_
 refine CWp.regionJ ?_
 refine WRest.join 8 [(15,.d (.bool (decide (p.op=2∨p.op=6))))] [8,9,10,11,12,13,14] ?_ ?_
 refine ev ?_
 refine sq (fun h1 h1p h1s=>?_) fun h1 h1p h1s=>?_
 try simp only[Q] at h1p
 exact jnb rfl
 try simp only[Q] at h1p
 exact jnb rfl
 refine WRest.done ?_
 refine ev ?_
 refine CWp.regionJ ?_
 refine WRest.join 11 [(26,.d (.bool (decide ((p.op=2∨p.op=6)∧(p.var<0∨5<p.var)))))] [16,17,18,19,20,21,22,23,24,25] ?_ ?_
 refine ev ?_
 refine sq (fun h2 h2p h2s=>?_) fun h2 h2p h2s=>?_
 try simp only[Q] at h2p
 refine sq (fun h3 h3p h3s=>?_) fun h3 h3p h3s=>?_
 try simp only[Q] at h3p
 exact jnb rfl
 try simp only[Q] at h3p
 exact jnb rfl
 try simp only[Q] at h2p
 exact jnb rfl
 refine WRest.join 9 [(35,.d (.bool (decide ((p.op=2∨p.op=6)∧(p.var<0∨5<p.var)∨¬(p.op=2∨p.op=6)∧p.var≠0))))] [27,28,29,30,31,32,33,34] ?_ ?_
 refine ev ?_
 refine sq (fun h4 h4p h4s=>?_) fun h4 h4p h4s=>?_
 try simp only[Q] at h4p
 exact jnb rfl
 try simp only[Q] at h4p
 refine sq (fun h5 h5p h5s=>?_) fun h5 h5p h5s=>?_
 try simp only[Q] at h5p
 exact jnb rfl
 try simp only[Q] at h5p
 exact jnb rfl
 refine WRest.done ?_
 refine tv ?_
 refine sq (fun h6 h6p h6s=>?_) fun h6 h6p h6s=>?_
 try simp only[Q] at h6p
 refine rn0 (r1 rfl) (.eqd ?_)
 rotate_left
 try simp only[Q] at h6p
 refine CWp.regionJ ?_
 refine WRest.join 13 [(48,.d (.bool (decide (p.op≠3∧(p.n≠0∨p.m≠0)))))] [36,37,38,39,40,41,42,43,44,45,46,47] ?_ ?_
 refine ev ?_
 refine sq (fun h7 h7p h7s=>?_) fun h7 h7p h7s=>?_
 try simp only[Q] at h7p
 refine sq (fun h8 h8p h8s=>?_) fun h8 h8p h8s=>?_
 try simp only[Q] at h8p
 exact jnb rfl
 try simp only[Q] at h8p
 exact jnb rfl
 try simp only[Q] at h7p
 exact jnb rfl
 refine WRest.join 10 [(58,.d (.bool (decide (p.op≠3∧(p.n≠0∨p.m≠0)∨p.op≠4∧p.ctor≠0))))] [49,50,51,52,53,54,55,56,57] ?_ ?_
 refine ev ?_
 refine sq (fun h9 h9p h9s=>?_) fun h9 h9p h9s=>?_
 try simp only[Q] at h9p
 exact jnb rfl
 try simp only[Q] at h9p
 refine sq (fun h10 h10p h10s=>?_) fun h10 h10p h10s=>?_
 try simp only[Q] at h10p
 exact jnb rfl
 try simp only[Q] at h10p
 exact jnb rfl
 refine WRest.done ?_
 refine tv ?_
 refine sq (fun h11 h11p h11s=>?_) fun h11 h11p h11s=>?_
 try simp only[Q] at h11p
 refine rn0 (r1 rfl) (.eqd ?_)
 rotate_left
 try simp only[Q] at h11p
 refine sq (fun h12 h12p h12s=>?_) fun h12 h12p h12s=>?_
 try simp only[Q] at h12p
 refine sq (fun h13 h13p h13s=>?_) fun h13 h13p h13s=>?_
 try simp only[Q] at h13p
 refine rn0 (r1 rfl) (.eqd ?_)
 rotate_left
 try simp only[Q] at h13p
 refine sq (fun h14 h14p h14s=>?_) fun h14 h14p h14s=>?_
 try simp only[Q] at h14p
 refine CWp.regionJ ?_
 refine WRest.join 8 [(75,.d (.bool (decide (a = -1∧0≤p.n))))] [68,69,70,71,72,73,74] ?_ ?_
 refine ev ?_
 refine sq (fun h15 h15p h15s=>?_) fun h15 h15p h15s=>?_
 try simp only[Q] at h15p
 exact jnb rfl
 try simp only[Q] at h15p
 exact jnb rfl
 refine WRest.join 7 [(82,.d (.bool (decide (a = -1∧0≤p.n∧p.n≤p.m))))] [76,77,78,79,80,81] ?_ ?_
 refine ev ?_
 refine sq (fun h16 h16p h16s=>?_) fun h16 h16p h16s=>?_
 try simp only[Q] at h16p
 exact jnb rfl
 try simp only[Q] at h16p
 exact jnb rfl
 refine WRest.join 5 [(87,.d (.bool (decide (a = -1∧0≤p.n∧p.n≤p.m∧p.m≤9))))] [83,84,85,86] ?_ ?_
 refine ev ?_
 refine sq (fun h17 h17p h17s=>?_) fun h17 h17p h17s=>?_
 try simp only[Q] at h17p
 exact jnb rfl
 try simp only[Q] at h17p
 exact jnb rfl
 refine WRest.done ?_
 refine ev ?_
 refine rn0 (r1 rfl) (.eqd ?_)
 rotate_left
 try simp only[Q] at h14p
 refine sq (fun h18 h18p h18s=>?_) fun h18 h18p h18s=>?_
 try simp only[Q] at h18p
 refine wc zhc (zbW hw ht) rfl rfl ?_
 refine evd [] [] ?_
 refine wc zll (zeu hcl) rfl rfl ?_
 refine evd [] [] ?_
 refine dr ?_
 refine rn0 (r1 rfl) (.eqd ?_)
 rotate_left
 try simp only[Q] at h18p
 refine rn0 (r1 rfl) (.eqd ?_)
 rotate_left
 try simp only[Q] at h12p
 refine sq (fun h19 h19p h19s=>?_) fun h19 h19p h19s=>?_
 try simp only[Q] at h19p
 refine sq (fun h20 h20p h20s=>?_) fun h20 h20p h20s=>?_
 try simp only[Q] at h20p
 refine rn0 (r1 rfl) (.eqd ?_)
 rotate_left
 try simp only[Q] at h20p
 refine sq (fun h21 h21p h21s=>?_) fun h21 h21p h21s=>?_
 try simp only[Q] at h21p
 refine CWp.regionJ ?_
 refine WRest.join 8 [(75,.d (.bool (decide (a = -1∧0≤p.n))))] [68,69,70,71,72,73,74] ?_ ?_
 refine ev ?_
 refine sq (fun h22 h22p h22s=>?_) fun h22 h22p h22s=>?_
 try simp only[Q] at h22p
 exact jnb rfl
 try simp only[Q] at h22p
 exact jnb rfl
 refine WRest.join 7 [(82,.d (.bool (decide (a = -1∧0≤p.n∧p.n≤p.m))))] [76,77,78,79,80,81] ?_ ?_
 refine ev ?_
 refine sq (fun h23 h23p h23s=>?_) fun h23 h23p h23s=>?_
 try simp only[Q] at h23p
 exact jnb rfl
 try simp only[Q] at h23p
 exact jnb rfl
 refine WRest.join 5 [(87,.d (.bool (decide (a = -1∧0≤p.n∧p.n≤p.m∧p.m≤9))))] [83,84,85,86] ?_ ?_
 refine ev ?_
 refine sq (fun h24 h24p h24s=>?_) fun h24 h24p h24s=>?_
 try simp only[Q] at h24p
 exact jnb rfl
 try simp only[Q] at h24p
 exact jnb rfl
 refine WRest.done ?_
 refine ev ?_
 refine rn0 (r1 rfl) (.eqd ?_)
 rotate_left
 try simp only[Q] at h21p
 refine sq (fun h25 h25p h25s=>?_) fun h25 h25p h25s=>?_
 try simp only[Q] at h25p
 refine wc zhc (zbW hw ht) rfl rfl ?_
 refine evd [] [] ?_
 refine wc zll (zeu hcl) rfl rfl ?_
 refine evd [] [] ?_
 refine dr ?_
 refine rn0 (r1 rfl) (.eqd ?_)
 rotate_left
 try simp only[Q] at h25p
 refine rn0 (r1 rfl) (.eqd ?_)
 rotate_left
 try simp only[Q] at h19p
 refine sq (fun h26 h26p h26s=>?_) fun h26 h26p h26s=>?_
 try simp only[Q] at h26p
 refine sq (fun h27 h27p h27s=>?_) fun h27 h27p h27s=>?_
 try simp only[Q] at h27p
 refine rn0 (r1 rfl) (.eqd ?_)
 rotate_left
 try simp only[Q] at h27p
 refine sq (fun h28 h28p h28s=>?_) fun h28 h28p h28s=>?_
 try simp only[Q] at h28p
 refine CWp.regionJ ?_
 refine WRest.join 8 [(75,.d (.bool (decide (a = -1∧0≤p.n))))] [68,69,70,71,72,73,74] ?_ ?_
 refine ev ?_
 refine sq (fun h29 h29p h29s=>?_) fun h29 h29p h29s=>?_
 try simp only[Q] at h29p
 exact jnb rfl
 try simp only[Q] at h29p
 exact jnb rfl
 refine WRest.join 7 [(82,.d (.bool (decide (a = -1∧0≤p.n∧p.n≤p.m))))] [76,77,78,79,80,81] ?_ ?_
 refine ev ?_
 refine sq (fun h30 h30p h30s=>?_) fun h30 h30p h30s=>?_
 try simp only[Q] at h30p
 exact jnb rfl
 try simp only[Q] at h30p
 exact jnb rfl
 refine WRest.join 5 [(87,.d (.bool (decide (a = -1∧0≤p.n∧p.n≤p.m∧p.m≤9))))] [83,84,85,86] ?_ ?_
 refine ev ?_
 refine sq (fun h31 h31p h31s=>?_) fun h31 h31p h31s=>?_
 try simp only[Q] at h31p
 exact jnb rfl
 try simp only[Q] at h31p
 exact jnb rfl
 refine WRest.done ?_
 refine ev ?_
 refine rn0 (r1 rfl) (.eqd ?_)
 rotate_left
 try simp only[Q] at h28p
 refine sq (fun h32 h32p h32s=>?_) fun h32 h32p h32s=>?_
 try simp only[Q] at h32p
 refine wc zhc (zbW hw ht) rfl rfl ?_
 refine evd [] [] ?_
 refine wc zll (zeu hcl) rfl rfl ?_
 refine evd [] [] ?_
 refine dr ?_
 refine rn0 (r1 rfl) (.eqd ?_)
 rotate_left
 try simp only[Q] at h32p
 refine rn0 (r1 rfl) (.eqd ?_)
 rotate_left
 try simp only[Q] at h26p
 refine sq (fun h33 h33p h33s=>?_) fun h33 h33p h33s=>?_
 try simp only[Q] at h33p
 refine rn0 (r1 rfl) (.eqd ?_)
 rotate_left
 try simp only[Q] at h33p
 refine sq (fun h34 h34p h34s=>?_) fun h34 h34p h34s=>?_
 try simp only[Q] at h34p
 refine CWp.regionJ ?_
 refine WRest.join 8 [(75,.d (.bool (decide (a = -1∧0≤p.n))))] [68,69,70,71,72,73,74] ?_ ?_
 refine ev ?_
 refine sq (fun h35 h35p h35s=>?_) fun h35 h35p h35s=>?_
 try simp only[Q] at h35p
 exact jnb rfl
 try simp only[Q] at h35p
 exact jnb rfl
 refine WRest.join 7 [(82,.d (.bool (decide (a = -1∧0≤p.n∧p.n≤p.m))))] [76,77,78,79,80,81] ?_ ?_
 refine ev ?_
 refine sq (fun h36 h36p h36s=>?_) fun h36 h36p h36s=>?_
 try simp only[Q] at h36p
 exact jnb rfl
 try simp only[Q] at h36p
 exact jnb rfl
 refine WRest.join 5 [(87,.d (.bool (decide (a = -1∧0≤p.n∧p.n≤p.m∧p.m≤9))))] [83,84,85,86] ?_ ?_
 refine ev ?_
 refine sq (fun h37 h37p h37s=>?_) fun h37 h37p h37s=>?_
 try simp only[Q] at h37p
 exact jnb rfl
 try simp only[Q] at h37p
 exact jnb rfl
 refine WRest.done ?_
 refine ev ?_
 refine rn0 (r1 rfl) (.eqd ?_)
 rotate_left
 try simp only[Q] at h34p
 refine sq (fun h38 h38p h38s=>?_) fun h38 h38p h38s=>?_
 try simp only[Q] at h38p
 refine wc zhc (zbW hw ht) rfl rfl ?_
 refine evd [] [] ?_
 refine wc zll (zeu hcl) rfl rfl ?_
 refine evd [] [] ?_
 refine dr ?_
 refine rn0 (r1 rfl) (.eqd ?_)
 rotate_left
 try simp only[Q] at h38p
 refine rn0 (r1 rfl) (.eqd ?_)
 rotate_left
 all_goals (refine congrArg D.bool ?_;unfold ownP;rw[Bool.eq_iff_iff];by_cases hmem:p.ctor∈zah w ⟨a,k⟩<;>(simp only[hmem,and_true,and_false,or_false,decide_eq_true_eq,Bool.and_eq_true,Bool.false_eq_true,true_iff,false_iff];simp only[decide_eq_true_eq,decide_eq_false_iff_not] at *;omega))
theorem zc7 {w:List Data} (hw:WT w){a k:Int}{p:Pat} (ht:TyIn w.length ⟨a,k⟩) (h:p.op=4→p.ctor∈zah w ⟨a,k⟩):
  FnD Tryz.prog 192 [.d (zam w),.agg [.d (.i a),.d (.i k)],.agg [.d (.i p.op),.d (.i p.ctor),.d (.i p.n),.d (.i p.m),.d (.i p.var),.d (zad p.kids)]] [] (.d (zb8 (zaf w ⟨a,k⟩ p))) []:=by
 by_cases h4:p.op=4
 ·have e:zaf w ⟨a,k⟩ p=zaa w ⟨a,k⟩ p.ctor:=by unfold zaf;rw[if_pos h4]
  rw[e]
  refine bd Tryz.f192 30 [] [] fun w0 F0 own kept hk=>?_
  refine bx 3004 ?_
  refine bx 3005 ?_
  refine ev ?_
  refine sq (fun h1 h1p h1s=>?_) fun h1 h1p h1s=>?_
  try simp only[Q] at h1p
  refine wc zfQ (zb5 hw ht (h h4)) rfl rfl ?_
  refine ev ?_
  refine rn0 (r1 rfl) (.eqd ?_)
  rotate_left
  try simp only[Q] at h1p
  exfalso;simp_all
  all_goals (rfl)
 ·have e:zaf w ⟨a,k⟩ p=List.replicate (zfK p.op).toNat ⟨a,k⟩:=by
   unfold zaf zfK;rw[if_neg h4]
   by_cases h5:p.op=5
   ·rw[if_pos h5,if_pos h5];rfl
   ·rw[if_neg h5,if_neg h5]
    by_cases h6:p.op=6
    ·rw[if_pos h6,if_pos h6];rfl
    ·rw[if_neg h6,if_neg h6,if_neg h4];rfl
  have hb:0≤zfK p.op∧zfK p.op≤2:=by unfold zfK;split<;>(try split)<;>(try split)<;>omega
  rw[e]
  refine bd Tryz.f192 30 [] [] fun w0 F0 own kept hk=>?_
  refine bx 3004 ?_
  refine bx 3005 ?_
  refine ev ?_
  refine sq (fun h1 h1p h1s=>?_) fun h1 h1p h1s=>?_
  try simp only[Q] at h1p
  exfalso;simp_all
  try simp only[Q] at h1p
  refine Walk.sliceEmptyG 5 za0 .none rfl rfl ?_
  refine ev ?_
  refine CWp.loopX (ι:=Nat) hk (fun i=>[(8,.d (.i (i:Int))),(7,.gl 5 ((List.replicate i (⟨a,k⟩:Ty)).map Ty.c))]) [18,19,20,21,22,23,24,25,26,27,28] (fun i=>[(5,some (.tok (((List.replicate i (⟨a,k⟩:Ty)).map Ty.c)).length 2))]) (fun i=>(i:Int)≤zfK p.op) (fun i=>(zfK p.op).toNat-i) 0 (by omega) ⟨⟨_,rfl,LeA.eqi ?_⟩,⟨⟨_,rfl,LeA.glg ?_⟩,trivial⟩⟩ ⟨zab ?_,trivial⟩ (fun x=>rfl) (fun i hg1=>?_)
  iterate 3 focus (rfl)
  refine evc [] [] ?_
  refine wc zvQ (zm8) rfl rfl ?_
  refine ev ?_
  refine sq (fun h2 h2p h2s=>?_) fun h2 h2p h2s=>?_
  try simp only[Q] at h2p
  refine si [0] [_] za0 tz25 ?_
  refine ap za0 zz25 rfl rfl rfl (by simp) (by simp;omega) ?_
  refine ev ?_
  refine ar ?_
  refine Exists.intro (i+1) ⟨(by omega),(by omega),sx ⟨⟨_,rfl,LeA.eqi ?_⟩,⟨⟨_,rfl,LeA.glg ?_⟩,trivial⟩⟩ ⟨zab ?_,trivial⟩⟩
  iterate 3 focus ((simp[List.replicate_succ'];done))
  try simp only[Q] at h2p
  refine rn0 (r1 rfl) (.gld ?_)
  rotate_left
  all_goals ((obtain rfl:i=(zfK p.op).toNat:=by omega);simp)
theorem zbH {w:List Data}{n:Nat}{t:Ty}{p:Pat} (h:zas w (n+1) t p=true):ownP w t p=true∧p.kids.length=(zaf w t p).length:=by
 simp only[zas,Bool.and_eq_true] at h
 refine⟨h.1, ?_⟩
 by_cases hl:(zaf w t p).length=p.kids.length
 ·exact hl.symm
 ·rw[zgK hl] at h;simp at h
theorem zb3 {w:List Data}{t:Ty}{p:Pat} (h:ownP w t p=true):p.op=4→p.ctor∈zah w t:=by
 intro h4
 unfold ownP at h
 have h':=(of_decide_eq_true h).2.2.2.2
 rcases h' with h|h|h|h|h|h
 ·omega
 ·omega
 ·omega
 ·omega
 ·omega
 ·exact h.2
theorem zpq {w:List Data}{t:Ty}{p:Pat} (h:ownP w t p=true):(p.op=2∨p.op=6)→0≤p.var∧p.var≤5:=by
 unfold ownP at h
 exact(of_decide_eq_true h).1
theorem zfc {w:List Data} (hw:WT w):∀(n:Nat){a k m:Int}{p:Pat},m=n→n≤1000→TyIn w.length ⟨a,k⟩→p.ok→
  FnD Tryz.prog 159 [.d (zam w),.agg [.d (.i a),.d (.i k)],.agg [.d (.i p.op),.d (.i p.ctor),.d (.i p.n),.d (.i p.m),.d (.i p.var),.d (zad p.kids)],.d (.i m)] [] (.d (.bool (zas w n ⟨a,k⟩ p))) []
 |0,a,k,m,p,hm,_,ht,hok=>by
  refine bd Tryz.f159 50 [] [1] fun w0 F0 own kept hk=>?_
  refine bx 3005 ?_
  refine bx 3006 ?_
  refine ev ?_
  refine CWp.regionJ ?_
  refine WRest.join 9 [(19,.d (.bool (true)))] [11,12,13,14,15,16,17,18] ?_ ?_
  refine ev ?_
  refine sq (fun h1 h1p h1s=>?_) fun h1 h1p h1s=>?_
  try simp only[Q] at h1p
  exact jnb rfl
  try simp only[Q] at h1p
  refine Walk.call (cr:=[]) zoP (zge hw ht) rfl (.some rfl rfl h1) rfl rfl (LeL.refl _) trivial rfl rfl rfl ?_
  refine evs [] [(13,false)] ?_ ⟨⟨_,rfl,h1⟩,trivial⟩
  exact jnb rfl
  refine WRest.done ?_
  refine tv ?_
  refine sq (fun h2 h2p h2s=>?_) fun h2 h2p h2s=>?_
  try simp only[Q] at h2p
  refine rn0 (r1 rfl) (.eqd ?_)
  rotate_left
  try simp only[Q] at h2p
  exact absurd h2 (by simp)
  all_goals (rfl)
 |n+1,a,k,m,p,hm,hn,ht,hok=>by
  rw[Pat.ok_iff] at hok
  by_cases ho:ownP w ⟨a,k⟩ p=true
  ·have hin:=zf5 hw ht ho
   have hlen:=zgA hw ht (zb3 ho)
   refine bd Tryz.f159 50 [] [1] fun w0 F0 own kept hk=>?_
   refine bx 3005 ?_
   refine bx 3006 ?_
   refine ev ?_
   refine CWp.regionJ ?_
   refine WRest.join 9 [(19,.d (.bool (false)))] [11,12,13,14,15,16,17,18] ?_ ?_
   refine ev ?_
   refine sq (fun h1 h1p h1s=>?_) fun h1 h1p h1s=>?_
   try simp only[Q,Pat.cs_len] at h1p
   exact jnb rfl
   try simp only[Q,Pat.cs_len] at h1p
   refine Walk.call (cr:=[]) zoP (zge hw ht) rfl (.some rfl rfl h1) rfl rfl (LeL.refl _) trivial rfl rfl rfl ?_
   refine evs [] [(13,false)] ?_ ⟨⟨_,rfl,h1⟩,trivial⟩
   exact jnb rfl
   refine WRest.done ?_
   refine tv ?_
   refine sq (fun h2 h2p h2s=>?_) fun h2 h2p h2s=>?_
   try simp only[Q,Pat.cs_len] at h2p
   exact absurd h2 (by simp)
   try simp only[Q,Pat.cs_len] at h2p
   refine wc zi9 (zc7 hw ht (zb3 ho)) rfl rfl ?_
   refine ev ?_
   refine sq (fun h3 h3p h3s=>?_) fun h3 h3p h3s=>?_
   try simp only[Q,Pat.cs_len] at h3p
   refine rn0 (r1 rfl) (.eqd ?_)
   rotate_left
   try simp only[Q,Pat.cs_len] at h3p
   refine CWp.loopX (ι:=Nat) hk (fun i=>[(10,.d (.i (i:Int)))]) [8,30,31,32,33,34,35,36,37,38,39,40,41,42,43,44,45,46,47,48,49] (fun i=>[]) (fun i=>i≤(zaf w ⟨a,k⟩ p).length∧∀i',i'<i→zas w n (nth (zaf w ⟨a,k⟩ p) i') (nth p.kids i')=true) (fun i=>(zaf w ⟨a,k⟩ p).length-i) 0 ⟨by omega,fun _ h=>absurd h (by omega)⟩ ⟨⟨_,rfl,LeA.eqi ?_⟩,trivial⟩ trivial (fun x=>rfl) (fun i hg1=>?_)
   focus (first|(simp;done)|(simp_all;done))
   refine evc [] [1] ?_
   refine sq (fun h4 h4p h4s=>?_) fun h4 h4p h4s=>?_
   try simp only[Q,Pat.cs_len] at h4p
   refine Walk.idx za0 .none rfl rfl rfl rfl (zau (by omega)) rfl ?_
   refine evd [] [] ?_
   refine Walk.idx sl26 .none rfl rfl rfl rfl (zaH (by omega)) rfl ?_
   refine evd [] [] ?_
   refine ar ?_
   refine wc zoK (zfc hw n (by omega) (by omega) (hin _ (zae (by omega))) (Pats.ok_mem hok.2 _ (zae (by omega)))) rfl rfl ?_
   refine evd [] [] ?_
   refine dr ?_
   refine sq (fun h5 h5p h5s=>?_) fun h5 h5p h5s=>?_
   try simp only[Q,Pat.cs_len] at h5p
   refine rn0 (r1 rfl) (.eqd ?_)
   rotate_left
   try simp only[Q,Pat.cs_len] at h5p
   refine ar ?_
   refine Exists.intro (i+1) ⟨⟨by omega,za7 hg1.2 (by assumption)⟩,(by omega),sx ⟨⟨_,rfl,LeA.eqi ?_⟩,trivial⟩ trivial⟩
   focus (first|(simp;done)|(simp_all;done))
   try simp only[Q,Pat.cs_len] at h4p
   refine rn0 (r1 rfl) (.eqd ?_)
   rotate_left
   all_goals (refine congrArg D.bool ?_;unfold zas;rw[ho,Bool.true_and];first|(rw[zgK (by simp[Pat.cs_len] at *;omega)])|(rw[zb4 (by simp[Pat.cs_len] at *;omega) (fun x hx=>hg1.2 x (by simp[Pat.cs_len] at *;omega))])|(rw[zbR (i:=i) (by simp[Pat.cs_len] at *;omega) (by simp[Pat.cs_len] at *;omega) (by assumption)]))
  ·have ho':ownP w ⟨a,k⟩ p=false:=by simpa using ho
   refine bd Tryz.f159 50 [] [1] fun w0 F0 own kept hk=>?_
   refine bx 3005 ?_
   refine bx 3006 ?_
   refine ev ?_
   refine CWp.regionJ ?_
   refine WRest.join 9 [(19,.d (.bool (true)))] [11,12,13,14,15,16,17,18] ?_ ?_
   refine ev ?_
   refine sq (fun h1 h1p h1s=>?_) fun h1 h1p h1s=>?_
   try simp only[Q] at h1p
   exact jnb rfl
   try simp only[Q] at h1p
   refine Walk.call (cr:=[]) zoP (zge hw ht) rfl (.some rfl rfl h1) rfl rfl (LeL.refl _) trivial rfl rfl rfl ?_
   refine evs [] [(13,false)] ?_ ⟨⟨_,rfl,h1⟩,trivial⟩
   exact jnb rfl
   refine WRest.done ?_
   refine tv ?_
   refine sq (fun h2 h2p h2s=>?_) fun h2 h2p h2s=>?_
   try simp only[Q] at h2p
   refine rn0 (r1 rfl) (.eqd ?_)
   rotate_left
   try simp only[Q] at h2p
   exact absurd h2 (by simp)
   all_goals (refine congrArg D.bool ?_;unfold zas;rw[ho'];rfl)
theorem zfB {l:List Vt}{n:Int} (h:l.length≤1000000000000):FnD Tryz.prog 194 [.d (zcK l),.d (.i n)] [] (.d (.i (zbx l n))) []:=by
 refine bd Tryz.f194 20 [] [] fun w0 F0 own kept hk=>?_
 refine CWp.loopX (ι:=List (Vt)×List (Vt)) hk (fun x=>[(5,.d (.i (x.1.length:Int)))]) [4,6,7,8,9,10,11,12,13,14,15,16,17,18,19] (fun x=>[]) (fun x=>x.1++x.2=l∧idxF (fun v=>decide (v.var=n)) x.2 x.1.length=idxF (fun v=>decide (v.var=n)) l 0) (fun x=>x.2.length) ([],l) ⟨by simp,rfl⟩ ⟨⟨_,rfl,LeA.eqi ?_⟩,trivial⟩ trivial (fun x=>rfl) (fun x hg1=>?_)
 focus (rfl)
 obtain⟨pre,rest⟩:=x
 dsimp only at hg1 ⊢
 refine evc [] [] ?_
 refine sq (fun h1 h1p h1s=>?_) fun h1 h1p h1s=>?_
 try simp only[Q] at h1p
 rcases rest with _|⟨y,rest⟩
 ·exfalso;simp_all
 refine Walk.idx zdi .none rfl rfl rfl rfl (zaK hg1.1) rfl ?_
 refine ev ?_
 refine sq (fun h2 h2p h2s=>?_) fun h2 h2p h2s=>?_
 try simp only[Q] at h2p
 focus (refine rn0 (r1 rfl) (.eqd ?_);all_goals (refine congrArg D.i ?_;unfold zbx;rw[←hg1.2];simp[idxF,h1s,h1p,h2s,h2p]))
 try simp only[Q] at h2p
 refine ar ?_
 refine Exists.intro ((pre++[y],rest)) ⟨⟨(by have hz:=hg1.1;rw[←hz];simp),(by rw[←hg1.2];simp_all[idxF])⟩,(by simp),sx ⟨⟨_,rfl,LeA.eqi ?_⟩,trivial⟩ trivial⟩
 focus ((simp;done))
 try simp only[Q] at h1p
 have hrest:rest=[]:=by
  rcases rest with _|⟨a,b⟩
  ·rfl
  ·exfalso;have hz:=congrArg List.length (hg1.1);simp only[List.length_append,List.length_cons,List.length_map] at hz;omega
 subst hrest
 focus (refine rn0 (r1 rfl) (.eqd ?_);all_goals (refine congrArg D.i ?_;unfold zbx;rw[←hg1.2];simp[idxF,h1s,h1p]))
theorem zp3 {a b:List Vt}{i:Nat} (h:i<a.length) (h2:¬(0≤zbx b (nth a i).var∧(nth b (zbx b (nth a i).var).toNat).ty=(nth a i).ty)):zdE a b=false:=by
 unfold zdE
 have:(a.all fun v=>decide (0≤zbx b v.var∧(nth b (zbx b v.var).toNat).ty=v.ty))=false:=List.all_eq_false.2 ⟨_,zae h,by simpa using h2⟩
 rw[this,Bool.false_and]
theorem zrc {a b:List Vt} (h:∀i,i<a.length→0≤zbx b (nth a i).var∧(nth b (zbx b (nth a i).var).toNat).ty=(nth a i).ty):zdE a b=decide (a.length=b.length):=by
 unfold zdE
 have:(a.all fun v=>decide (0≤zbx b v.var∧(nth b (zbx b v.var).toNat).ty=v.ty))=true:=by
  rw[List.all_eq_true]
  intro v hv
  obtain⟨j,hj,he⟩:=List.getElem_of_mem hv
  have:=h j hj
  rw[zaG hj,he] at this
  exact decide_eq_true this
 rw[this,Bool.true_and]
theorem zkG {l:List Vt}{n:Int} (h:0≤zbx l n):(zbx l n).toNat<l.length∧((zbx l n).toNat:Int)=zbx l n:=by
 rcases zeV l n with ⟨h1,_⟩|⟨k,h1,h2,_⟩
 ·omega
 ·rw[h1];simpa using h2
theorem zs4 {t u:Ty}:t=u↔t.data=u.data∧t.index=u.index:=by
 cases t;cases u;simp
theorem zmn {x y:List Vt} (hx:x.length≤1000000000000) (hy:y.length≤1000000000000):FnD Tryz.prog 193 [.d (zcK x),.d (zcK y)] [] (.d (.bool (zdE x y))) []:=by
 refine bd Tryz.f193 40 [33] [] fun w0 F0 own kept hk=>?_
 refine CWp.loopX (ι:=Nat) hk (fun i=>[(5,.d (.i (i:Int)))]) [4,6,7,8,9,10,11,12,13,14,15,16,17,18,19,20,21,22,23,24,25,26,27,28,29,30,31,32,33,34] (fun i=>[]) (fun i=>i≤x.length∧∀j,j<i→0≤zbx y (nth x j).var∧(nth y (zbx y (nth x j).var).toNat).ty=(nth x j).ty) (fun i=>x.length-i) 0 ⟨by omega,fun _ h=>absurd h (by omega)⟩ ⟨⟨_,rfl,LeA.eqi ?_⟩,trivial⟩ trivial (fun x=>rfl) (fun i hg1=>?_)
 focus (rfl)
 refine evc [33] [] ?_
 refine sq (fun h1 h1p h1s=>?_) fun h1 h1p h1s=>?_
 try simp only[Q] at h1p
 refine Walk.idx zdi .none rfl rfl rfl rfl (zau (by omega)) rfl ?_
 refine evs [33] [] ?_
 refine wc zoQ (zfB hy) rfl rfl ?_
 refine evs [33] [] ?_
 refine sq (fun h2 h2p h2s=>?_) fun h2 h2p h2s=>?_
 try simp only[Q] at h2p
 refine dr ?_
 refine sqT ?_
 refine rn0 (r1 rfl) (.eqd ?_)
 rotate_left
 try simp only[Q] at h2p
 refine Walk.idx (i:=(zbx y (nth x i).var).toNat) zdi (.some rfl rfl h2) rfl rfl rfl (zkG (l:=y) (n:=(nth x i).var) (by omega)).2.symm (zau (by exact(zkG (l:=y) (n:=(nth x i).var) (by omega)).1)) rfl ?_
 refine evd [33] [(22,false)] ?_ ⟨⟨_,rfl,h2⟩,trivial⟩
 refine Walk.idx zdi (.some rfl rfl h2) rfl rfl rfl rfl (zau (by omega)) rfl ?_
 refine evd [33] [(22,false)] ?_ ⟨⟨_,rfl,h2⟩,trivial⟩
 refine Walk.neV eq25 (.some rfl rfl h2) rfl rfl rfl rfl rfl ?_
 refine evd [33] [(22,false)] ?_ ⟨⟨_,rfl,h2⟩,trivial⟩
 refine dr ?_
 refine sq (fun h4 h4p h4s=>?_) fun h4 h4p h4s=>?_
 try simp only[Q] at h4p
 refine rn0 (r1 rfl) (.eqd ?_)
 rotate_left
 try simp only[Q] at h4p
 refine ar ?_
 refine Exists.intro (i+1) ⟨⟨by omega,za7 hg1.2 (by rw[zs4];first|omega|(simp at h4;omega))⟩,(by omega),sx ⟨⟨_,rfl,LeA.eqi ?_⟩,trivial⟩ trivial⟩
 focus (rfl)
 try simp only[Q] at h1p
 refine rn0 (r1 rfl) (.eqd ?_)
 rotate_left
 all_goals (refine congrArg D.bool ?_;first|(refine(zp3 (i:=i) (by omega) ?_).symm;simp only[zs4];first|omega|(simp at h4;omega))|(rw[zrc (fun j hj=>hg1.2 j (by simp at h1p;omega))];exact decide_eq_decide.2 (by simp;omega)))
theorem zjT {f:Ty→Pat→List Vt} (hf:∀t p,(f t p).length≤p.size):∀(a:List Ty) (b:List Pat),(zbi f a b).length≤Pats.size b
 | [],[]=>by simp[zbi]
 | [],_::_=>by simp[zbi]
 |_::_,[]=>by simp[zbi]
 |x::r,y::s=>by
  have h1:=zjT hf r s
  have h2:=hf x y
  simp only[zbi,List.length_append,Pats.size];omega
theorem zd3 (w:List Data):∀(n:Nat) (t:Ty) (p:Pat),(zaL w n t p).length≤p.size
 |0,t,p=>by simp[zaL]
 |n+1,t,p=>by
  have h1:=zjT (zd3 w n) (zdq w t p) p.kids
  have h2:(zaT t p).length≤1:=by unfold zaT;split<;>simp
  rw[Pat.size_eq]
  simp only[zaL,List.length_append];omega
theorem ziF {f:Ty→Pat→List Vt}:∀ {a:List Ty}{b:List Pat}{i:Nat},i<a.length→i<b.length→zbi f (a.take (i+1)) (b.take (i+1))=zbi f (a.take i) (b.take i)++f (nth a i) (nth b i)
 |x::r,y::s,0,_,_=>by simp[zbi,nth]
 |x::r,y::s,i+1,h1,h2=>by
  have:=ziF (f:=f) (a:=r) (b:=s) (i:=i) (by simpa using h1) (by simpa using h2)
  simp only[List.take_succ_cons,zbi]
  rw[this,List.append_assoc]
  rfl
theorem zmz {f:Ty→Pat→List Vt}:∀ {a:List Ty}{b:List Pat}{i:Nat},zbi f (a.take i) (b.take i)=zbi f (a.take i) b
 | [],b,i=>by simp[zbi]
 |x::r,[],i=>by simp[zbi]
 |x::r,y::s,0=>by simp[zbi]
 |x::r,y::s,i+1=>by simp only[List.take_succ_cons,zbi];rw[zmz]
theorem zp1 {f:Ty→Pat→List Vt} (hf:∀t p,(f t p).length≤p.size){a:List Ty}{b:List Pat}{i:Nat} (h:i<b.length):(zbi f (a.take i) (b.take i)).length+(nth b i).size≤Pats.size b:=by
 have h1:=zjT hf (a.take i) (b.take i)
 have h2:=Pats.size_split (pre:=b.take i) (y:=nth b i) (rest:=b.drop (i+1)) (l:=b) (by rw[←zaW h,List.take_append_drop])
 omega
def zdp (w:List Data) (t:Ty) (p:Pat):Nat:=(zdq w t p).length
theorem zjU (w:List Data) (t:Ty) (p:Pat):zdp w t p=if p.op=5 then 1 else (zaf w t p).length:=by
 unfold zdp zdq
 by_cases h5:p.op=5
 ·rw[if_pos h5,if_pos h5]
  have:zaf w t p=[t,t]:=by unfold zaf;rw[if_neg (by omega),if_pos h5]
  rw[this];rfl
 ·rw[if_neg h5,if_neg h5]
theorem zn5 {w:List Data}{f:Ty→Pat→List Vt}{t:Ty}{p:Pat} (hl:p.kids.length=(zaf w t p).length){i:Nat} (h:i=zdp w t p):zbi f ((zaf w t p).take i) (p.kids.take i)=zbi f (zdq w t p) p.kids:=by
 subst h
 rw[zmz]
 congr 1
 rw[zjU]
 unfold zdq
 by_cases h5:p.op=5
 ·rw[if_pos h5,if_pos h5]
 ·rw[if_neg h5,if_neg h5,List.take_length]
theorem zbG {w:List Data}{n:Nat}{t:Ty}{p:Pat} (h:zas w (n+1) t p=true){i:Nat} (hi:i<p.kids.length):zas w n (nth (zaf w t p) i) (nth p.kids i)=true:=by
 have hl:=(zbH h).2
 cases hs:zas w n (nth (zaf w t p) i) (nth p.kids i) with
 |true=>rfl
 |false=>
  have:=zbR (f:=zas w n) (a:=zaf w t p) (b:=p.kids) (i:=i) (by omega) hl.symm hs
  simp only[zas,this,Bool.and_false] at h
  cases h
theorem zfD {w:List Data} (hw:WT w):∀(n:Nat){a k:Int}{p:Pat}{xs:List Vt},zas w n ⟨a,k⟩ p=true→n≤1000→TyIn w.length ⟨a,k⟩→p.ok→xs.length+p.size≤2000000000000→
  FnD Tryz.prog 172 [.gl 5 (xs.map Vt.c),.d (zam w),.agg [.d (.i a),.d (.i k)],.agg [.d (.i p.op),.d (.i p.ctor),.d (.i p.n),.d (.i p.m),.d (.i p.var),.d (zad p.kids)]] [(5,some (.tok (xs.map Vt.c).length 3))]
   (.gl 5 ((xs++zaL w n ⟨a,k⟩ p).map Vt.c)) [(5,some (.tok ((xs++zaL w n ⟨a,k⟩ p).map Vt.c).length 3))]
 |0,a,k,p,xs,hs,_,_,_,_=>by simp[zas] at hs
 |n+1,a,k,p,xs,hs,hn,ht,hok,hb=>by
  rw[Pat.ok_iff] at hok
  rw[Pat.size_eq] at hb
  obtain⟨ho,hl⟩:=zbH hs
  have hin:=zf5 hw ht ho
  have hlen:=zgA hw ht (zb3 ho)
  have hvc5:p.op=5→zdp w ⟨a,k⟩ p=1:=fun h=>by rw[zjU,if_pos h]
  have hvc:¬p.op=5→zdp w ⟨a,k⟩ p=(zaf w ⟨a,k⟩ p).length:=fun h=>by rw[zjU,if_neg h]
  have hv2:zdp w ⟨a,k⟩ p≤p.kids.length:=by
   unfold zdp zdq;split
   ·rw[List.length_take];omega
   ·omega
  have e5:p.op=5→(zaf w ⟨a,k⟩ p).length=2:=fun h5=>by unfold zaf;rw[if_neg (by omega),if_pos h5];rfl
  have hnm:(zaT ⟨a,k⟩ p).length≤1:=by unfold zaT;split<;>simp
  refine bd Tryz.f172 58 [] [1,5,6] fun w0 F0 own kept hk=>?_
  refine bx 3006 ?_
  refine bx 3007 ?_
  refine ev ?_
  refine CWp.regionJ ?_
  refine WRest.join 8 [(18,.d (.bool (decide (p.op=2∨p.op=6))))] [11,12,13,14,15,16,17] ?_ ?_
  refine ev ?_
  refine sq (fun h1 h1p h1s=>?_) fun h1 h1p h1s=>?_
  try simp only[Q,Pat.cs_len] at h1p
  exact jnb rfl
  try simp only[Q,Pat.cs_len] at h1p
  exact jnb rfl
  refine WRest.done ?_
  refine tv ?_
  refine sq (fun h2 h2p h2s=>?_) fun h2 h2p h2s=>?_
  try simp only[Q,Pat.cs_len] at h2p
  refine bu [0,1] [_,_] zrN ?_
  refine si [0] [_] zdi zoC ?_
  refine ap zdi zoD rfl rfl rfl (by simp) (by simp;omega) ?_
  refine ev ?_
  refine wc zi9 (zc7 hw ht (zb3 ho)) rfl rfl ?_
  refine ev ?_
  refine CWp.loopT 5 6 (ι:=Nat) hk (fun i=>[(0,.gl 5 ((xs++zaT ⟨a,k⟩ p++zbi (zaL w n) ((zaf w ⟨a,k⟩ p).take i) (p.kids.take i)).map Vt.c)),(10,.d (.i (i:Int)))]) [30,31,32,33,34,35,36,37,38,39,40,41,42,43,44,45,46,47,48,49,50,51,52,53,54,55,56] (fun i=>[(5,some (.tok ((xs++zaT ⟨a,k⟩ p++zbi (zaL w n) ((zaf w ⟨a,k⟩ p).take i) (p.kids.take i)).map Vt.c).length 3))]) (fun i=>i≤zdp w ⟨a,k⟩ p) (fun i=>zdp w ⟨a,k⟩ p-i) 0 (by omega) ⟨⟨_,rfl,LeA.glg ?_⟩,⟨⟨_,rfl,LeA.eqi ?_⟩,trivial⟩⟩ ⟨zab ?_,trivial⟩ (fun x=>rfl) (fun i hg1=>?_)
  iterate 3 focus ((simp[zbi,zaT, *];done))
  refine evc [] [1,5,6] ?_
  refine CWp.regionJ ?_
  refine WRest.join 13 [(42,.d (.bool (decide (i<zdp w ⟨a,k⟩ p))))] [30,31,32,33,34,35,36,37,38,39,40,41] ?_ ?_
  refine ev ?_
  refine sq (fun h3 h3p h3s=>?_) fun h3 h3p h3s=>?_
  try simp only[Q,Pat.cs_len] at h3p
  refine sq (fun h4 h4p h4s=>?_) fun h4 h4p h4s=>?_
  try simp only[Q,Pat.cs_len] at h4p
  exact jnb rfl
  try simp only[Q,Pat.cs_len] at h4p
  exact jnb rfl
  try simp only[Q,Pat.cs_len] at h3p
  exact jnb rfl
  refine WRest.done ?_
  refine tv ?_
  refine sq (fun h5 h5p h5s=>?_) fun h5 h5p h5s=>?_
  try simp only[Q,Pat.cs_len] at h5p
  refine Walk.idx za0 .none rfl rfl rfl rfl (zau (by omega)) rfl ?_
  refine evd [] [] ?_
  refine Walk.idx sl26 .none rfl rfl rfl rfl (zaH (by omega)) rfl ?_
  refine evd [] [] ?_
  refine Walk.callT 6 zhK (zfD hw n (a:=(nth (zaf w ⟨a,k⟩ p) i).data) (k:=(nth (zaf w ⟨a,k⟩ p) i).index) (p:=nth p.kids i) (xs:=xs++zaT ⟨a,k⟩ p++zbi (zaL w n) ((zaf w ⟨a,k⟩ p).take i) (p.kids.take i)) (zbG hs (by omega)) (by omega) (hin _ (zae (by omega))) (Pats.ok_mem hok.2 _ (zae (by omega))) (by have:=zp1 (zd3 w n) (a:=zaf w ⟨a,k⟩ p) (b:=p.kids) (i:=i) (by omega);simp only[List.length_append];omega)) rfl .none rfl rfl (.cons (.refl _) (.cons (.refl _) (.cons (.refl _) (.cons (.refl _) .nil)))) rfl (by rfl) ?_
  refine evd [] [] ?_
  refine dr ?_
  refine CWp.retok 0 6 5 rfl rfl rfl rfl rfl ?_
  refine evc [] [] ?_
  refine ar ?_
  refine Exists.intro (i+1) ⟨(by omega),(by omega),sx ⟨⟨_,rfl,LeA.glg ?_⟩,⟨⟨_,rfl,LeA.eqi ?_⟩,trivial⟩⟩ ⟨zab ?_,trivial⟩⟩
  iterate 3 focus (first|rfl|(rw[ziF (by omega) (by omega)];simp[List.append_assoc];done))
  try simp only[Q,Pat.cs_len] at h5p
  refine rn [(5,some (.tok ((xs++zaL w (n+1) ⟨a,k⟩ p).map Vt.c).length 3))] (r1 rfl) (.glg ?_) ⟨rfl,rfl⟩ (SubO.get ⟨.inr ?_,⟨.inl rfl,trivial⟩⟩) (zaF rfl)
  rotate_left 2
  try simp only[Q,Pat.cs_len] at h2p
  refine wc zi9 (zc7 hw ht (zb3 ho)) rfl rfl ?_
  refine ev ?_
  refine CWp.loopT 5 6 (ι:=Nat) hk (fun i=>[(0,.gl 5 ((xs++zaT ⟨a,k⟩ p++zbi (zaL w n) ((zaf w ⟨a,k⟩ p).take i) (p.kids.take i)).map Vt.c)),(10,.d (.i (i:Int)))]) [30,31,32,33,34,35,36,37,38,39,40,41,42,43,44,45,46,47,48,49,50,51,52,53,54,55,56] (fun i=>[(5,some (.tok ((xs++zaT ⟨a,k⟩ p++zbi (zaL w n) ((zaf w ⟨a,k⟩ p).take i) (p.kids.take i)).map Vt.c).length 3))]) (fun i=>i≤zdp w ⟨a,k⟩ p) (fun i=>zdp w ⟨a,k⟩ p-i) 0 (by omega) ⟨⟨_,rfl,LeA.glg ?_⟩,⟨⟨_,rfl,LeA.eqi ?_⟩,trivial⟩⟩ ⟨zab ?_,trivial⟩ (fun x=>rfl) (fun i hg1=>?_)
  iterate 3 focus ((simp[zbi,zaT, *];done))
  refine evc [] [1,5,6] ?_
  refine CWp.regionJ ?_
  refine WRest.join 13 [(42,.d (.bool (decide (i<zdp w ⟨a,k⟩ p))))] [30,31,32,33,34,35,36,37,38,39,40,41] ?_ ?_
  refine ev ?_
  refine sq (fun h6 h6p h6s=>?_) fun h6 h6p h6s=>?_
  try simp only[Q,Pat.cs_len] at h6p
  refine sq (fun h7 h7p h7s=>?_) fun h7 h7p h7s=>?_
  try simp only[Q,Pat.cs_len] at h7p
  exact jnb rfl
  try simp only[Q,Pat.cs_len] at h7p
  exact jnb rfl
  try simp only[Q,Pat.cs_len] at h6p
  exact jnb rfl
  refine WRest.done ?_
  refine tv ?_
  refine sq (fun h8 h8p h8s=>?_) fun h8 h8p h8s=>?_
  try simp only[Q,Pat.cs_len] at h8p
  refine Walk.idx za0 .none rfl rfl rfl rfl (zau (by omega)) rfl ?_
  refine evd [] [] ?_
  refine Walk.idx sl26 .none rfl rfl rfl rfl (zaH (by omega)) rfl ?_
  refine evd [] [] ?_
  refine Walk.callT 6 zhK (zfD hw n (a:=(nth (zaf w ⟨a,k⟩ p) i).data) (k:=(nth (zaf w ⟨a,k⟩ p) i).index) (p:=nth p.kids i) (xs:=xs++zaT ⟨a,k⟩ p++zbi (zaL w n) ((zaf w ⟨a,k⟩ p).take i) (p.kids.take i)) (zbG hs (by omega)) (by omega) (hin _ (zae (by omega))) (Pats.ok_mem hok.2 _ (zae (by omega))) (by have:=zp1 (zd3 w n) (a:=zaf w ⟨a,k⟩ p) (b:=p.kids) (i:=i) (by omega);simp only[List.length_append];omega)) rfl .none rfl rfl (.cons (.refl _) (.cons (.refl _) (.cons (.refl _) (.cons (.refl _) .nil)))) rfl (by rfl) ?_
  refine evd [] [] ?_
  refine dr ?_
  refine CWp.retok 0 6 5 rfl rfl rfl rfl rfl ?_
  refine evc [] [] ?_
  refine ar ?_
  refine Exists.intro (i+1) ⟨(by omega),(by omega),sx ⟨⟨_,rfl,LeA.glg ?_⟩,⟨⟨_,rfl,LeA.eqi ?_⟩,trivial⟩⟩ ⟨zab ?_,trivial⟩⟩
  iterate 3 focus (first|rfl|(rw[ziF (by omega) (by omega)];simp[List.append_assoc];done))
  try simp only[Q,Pat.cs_len] at h8p
  refine rn [(5,some (.tok ((xs++zaL w (n+1) ⟨a,k⟩ p).map Vt.c).length 3))] (r1 rfl) (.glg ?_) ⟨rfl,rfl⟩ (SubO.get ⟨.inr ?_,⟨.inl rfl,trivial⟩⟩) (zaF rfl)
  rotate_left 2
  all_goals (first|((rw[zaL,←zn5 (f:=zaL w n) hl (i:=i) (by omega)];simp);done)|((show some (Res.tok _ _)=some (Res.tok _ _);congr 2;rw[zaL,←zn5 (f:=zaL w n) hl (i:=i) (by omega)];simp)))
theorem zdP {w:List Data} (hw:WT w){n:Nat}{a k:Int}{p:Pat} (hs:zas w n ⟨a,k⟩ p=true) (hn:n≤1000) (ht:TyIn w.length ⟨a,k⟩) (hok:p.ok) (hb:p.size≤1000000000000):
  FnD Tryz.prog 172 [.nils,.d (zam w),.agg [.d (.i a),.d (.i k)],.agg [.d (.i p.op),.d (.i p.ctor),.d (.i p.n),.d (.i p.m),.d (.i p.var),.d (zad p.kids)]] [] (.d (zcK (zaL w n ⟨a,k⟩ p))) []:=by
 have h:=zfD hw n (xs:=[]) hs hn ht hok (by simp only[List.length_nil];omega)
 exact FnD.nilTok (by simp[AV.idsL,AV.ids]) h
theorem zp6 {l:List Vt}{i:Nat} (h:i<l.length) (h2:¬zbx l (nth l i).var=i):zov l=false:=zcZ h (by simpa using h2)
theorem zey {w:List Data} (hw:WT w):∀(n:Nat){a k:Int}{p:Pat},zas w n ⟨a,k⟩ p=true→n≤1000→TyIn w.length ⟨a,k⟩→p.ok→p.size≤1000000000000→
  FnD Tryz.prog 161 [.d (zam w),.agg [.d (.i a),.d (.i k)],.agg [.d (.i p.op),.d (.i p.ctor),.d (.i p.n),.d (.i p.m),.d (.i p.var),.d (zad p.kids)]] [] (.d (.bool (linP w n ⟨a,k⟩ p))) []
 |0,a,k,p,hs,_,_,_,_=>by simp[zas] at hs
 |n+1,a,k,p,hs,hn,ht,hok,hb=>by
  have hok':=hok
  rw[Pat.ok_iff] at hok
  have hb':=hb
  rw[Pat.size_eq] at hb'
  obtain⟨ho,hl⟩:=zbH hs
  have hin:=zf5 hw ht ho
  have hlen:=zgA hw ht (zb3 ho)
  have hvl:=zd3 w (n+1) ⟨a,k⟩ p
  have hsz:∀i,i<p.kids.length→(nth p.kids i).size≤1000000000000:=fun i hi=>by have:=zeM hi;omega
  by_cases hop5:p.op=5
  ·have e1:zaf w ⟨a,k⟩ p=[⟨a,k⟩,⟨a,k⟩]:=by unfold zaf;rw[if_neg (by omega),if_pos hop5]
   have hl2:p.kids.length=2:=by rw[hl,e1];rfl
   have s0:zas w n ⟨a,k⟩ (nth p.kids 0)=true:=by have:=zbG hs (i:=0) (by omega);rw[e1] at this;exact this
   have s1:zas w n ⟨a,k⟩ (nth p.kids 1)=true:=by have:=zbG hs (i:=1) (by omega);rw[e1] at this;exact this
   have v0:=zd3 w n ⟨a,k⟩ (nth p.kids 0)
   have v1:=zd3 w n ⟨a,k⟩ (nth p.kids 1)
   have z0:=hsz 0 (by omega)
   have z1:=hsz 1 (by omega)
   refine bd Tryz.f161 70 [] [] fun w0 F0 own kept hk=>?_
   refine bx 3004 ?_
   refine bx 3005 ?_
   refine ev ?_
   refine wc zi9 (zc7 hw ht (zb3 ho)) rfl rfl ?_
   refine ev ?_
   refine CWp.loopX (ι:=Nat) hk (fun i=>[(8,.d (.i (i:Int)))]) [6,15,16,17,18,19,20,21,22,23,24,25,26,27,28,29,30,31,32] (fun i=>[]) (fun i=>i≤(zaf w ⟨a,k⟩ p).length∧∀i',i'<i→linP w n (nth (zaf w ⟨a,k⟩ p) i') (nth p.kids i')=true) (fun i=>(zaf w ⟨a,k⟩ p).length-i) 0 ⟨by omega,fun _ h=>absurd h (by omega)⟩ ⟨⟨_,rfl,LeA.eqi ?_⟩,trivial⟩ trivial (fun x=>rfl) (fun i hg1=>?_)
   focus (first|rfl|(simp;done))
   refine evc [] [] ?_
   refine sq (fun h1 h1p h1s=>?_) fun h1 h1p h1s=>?_
   try simp only[Q,Pat.cs_len] at h1p
   refine Walk.idx za0 .none rfl rfl rfl rfl (zau (by omega)) rfl ?_
   refine evd [] [] ?_
   refine Walk.idx sl26 .none rfl rfl rfl rfl (zaH (by omega)) rfl ?_
   refine evd [] [] ?_
   refine wc zli (zey hw n (zbG hs (by omega)) (by omega) (hin _ (zae (by omega))) (Pats.ok_mem hok.2 _ (zae (by omega))) (hsz _ (by omega))) rfl rfl ?_
   refine evd [] [] ?_
   refine dr ?_
   refine sq (fun h2 h2p h2s=>?_) fun h2 h2p h2s=>?_
   try simp only[Q,Pat.cs_len] at h2p
   refine rn0 (r1 rfl) (.eqd ?_)
   rotate_left
   try simp only[Q,Pat.cs_len] at h2p
   refine ar ?_
   refine Exists.intro (i+1) ⟨⟨by omega,za7 hg1.2 (by assumption)⟩,(by omega),sx ⟨⟨_,rfl,LeA.eqi ?_⟩,trivial⟩ trivial⟩
   focus (first|rfl|(simp;done))
   try simp only[Q,Pat.cs_len] at h1p
   refine sq (fun h3 h3p h3s=>?_) fun h3 h3p h3s=>?_
   try simp only[Q,Pat.cs_len] at h3p
   refine Walk.idx (i:=0) sl26 .none rfl rfl rfl rfl (zaH (by omega)) rfl ?_
   refine evd [] [] ?_
   refine wc zhK (zdP hw s0 (by omega) ht (Pats.ok_mem hok.2 _ (zae (by omega))) z0) rfl rfl ?_
   refine evd [] [] ?_
   refine Walk.idx (i:=1) sl26 .none rfl rfl rfl rfl (zaH (by omega)) rfl ?_
   refine evd [] [] ?_
   refine wc zhK (zdP hw s1 (by omega) ht (Pats.ok_mem hok.2 _ (zae (by omega))) z1) rfl rfl ?_
   refine wc zvJ (zmn (by omega) (by omega)) rfl rfl ?_
   refine evd [] [] ?_
   refine dr ?_
   refine rn0 (r1 rfl) (.eqd ?_)
   rotate_left
   try simp only[Q,Pat.cs_len] at h3p
   exfalso;simp_all
   all_goals (refine congrArg D.bool ?_;unfold linP;rw[if_pos hop5];first|(rw[zb4 (by omega) (fun x hx=>hg1.2 x (by omega)),Bool.true_and])|(rw[zbR (i:=i) (by omega) (by omega) (by assumption),Bool.false_and]))
  ·skip
   refine bd Tryz.f161 70 [] [] fun w0 F0 own kept hk=>?_
   refine bx 3004 ?_
   refine bx 3005 ?_
   refine ev ?_
   refine wc zi9 (zc7 hw ht (zb3 ho)) rfl rfl ?_
   refine ev ?_
   refine CWp.loopX (ι:=Nat) hk (fun i=>[(8,.d (.i (i:Int)))]) [6,15,16,17,18,19,20,21,22,23,24,25,26,27,28,29,30,31,32] (fun i=>[]) (fun i=>i≤(zaf w ⟨a,k⟩ p).length∧∀i',i'<i→linP w n (nth (zaf w ⟨a,k⟩ p) i') (nth p.kids i')=true) (fun i=>(zaf w ⟨a,k⟩ p).length-i) 0 ⟨by omega,fun _ h=>absurd h (by omega)⟩ ⟨⟨_,rfl,LeA.eqi ?_⟩,trivial⟩ trivial (fun x=>rfl) (fun i hg1=>?_)
   focus (first|rfl|(simp;done))
   refine evc [] [] ?_
   refine sq (fun h1 h1p h1s=>?_) fun h1 h1p h1s=>?_
   try simp only[Q,Pat.cs_len] at h1p
   refine Walk.idx za0 .none rfl rfl rfl rfl (zau (by omega)) rfl ?_
   refine evd [] [] ?_
   refine Walk.idx sl26 .none rfl rfl rfl rfl (zaH (by omega)) rfl ?_
   refine evd [] [] ?_
   refine wc zli (zey hw n (zbG hs (by omega)) (by omega) (hin _ (zae (by omega))) (Pats.ok_mem hok.2 _ (zae (by omega))) (hsz _ (by omega))) rfl rfl ?_
   refine evd [] [] ?_
   refine dr ?_
   refine sq (fun h2 h2p h2s=>?_) fun h2 h2p h2s=>?_
   try simp only[Q,Pat.cs_len] at h2p
   refine rn0 (r1 rfl) (.eqd ?_)
   rotate_left
   try simp only[Q,Pat.cs_len] at h2p
   refine ar ?_
   refine Exists.intro (i+1) ⟨⟨by omega,za7 hg1.2 (by assumption)⟩,(by omega),sx ⟨⟨_,rfl,LeA.eqi ?_⟩,trivial⟩ trivial⟩
   focus (first|rfl|(simp;done))
   try simp only[Q,Pat.cs_len] at h1p
   refine sq (fun h3 h3p h3s=>?_) fun h3 h3p h3s=>?_
   try simp only[Q,Pat.cs_len] at h3p
   exfalso;simp_all
   try simp only[Q,Pat.cs_len] at h3p
   refine wc zhK (zdP hw hs hn ht hok' hb) rfl rfl ?_
   refine ev ?_
   refine CWp.loopX (ι:=Nat) hk (fun j=>[(10,.d (.i (j:Int)))]) [6,55,56,57,58,59,60,61,62,63,64,65,66,67,68,69] (fun j=>[]) (fun j=>j≤(zaL w (n+1) ⟨a,k⟩ p).length∧∀j',j'<j→zbx (zaL w (n+1) ⟨a,k⟩ p) (nth (zaL w (n+1) ⟨a,k⟩ p) j').var=(j':Int)) (fun j=>(zaL w (n+1) ⟨a,k⟩ p).length-j) 0 ⟨by omega,fun _ h=>absurd h (by omega)⟩ ⟨⟨_,rfl,LeA.eqi ?_⟩,trivial⟩ trivial (fun x=>rfl) (fun j hg2=>?_)
   focus (first|rfl|(simp;done))
   refine evc [] [] ?_
   refine sq (fun h4 h4p h4s=>?_) fun h4 h4p h4s=>?_
   try simp only[Q,Pat.cs_len] at h4p
   refine Walk.idx zdi .none rfl rfl rfl rfl (zau (by omega)) rfl ?_
   refine ev ?_
   refine wc zoQ (zfB (by omega)) rfl rfl ?_
   refine ev ?_
   refine sq (fun h5 h5p h5s=>?_) fun h5 h5p h5s=>?_
   try simp only[Q,Pat.cs_len] at h5p
   refine rn0 (r1 rfl) (.eqd ?_)
   rotate_left
   try simp only[Q,Pat.cs_len] at h5p
   refine ar ?_
   refine Exists.intro (j+1) ⟨⟨by omega,za7 hg2.2 (by omega)⟩,(by omega),sx ⟨⟨_,rfl,LeA.eqi ?_⟩,trivial⟩ trivial⟩
   focus (first|rfl|(simp;done))
   try simp only[Q,Pat.cs_len] at h4p
   refine rn0 (r1 rfl) (.eqd ?_)
   rotate_left
   all_goals (refine congrArg D.bool ?_;unfold linP;rw[if_neg hop5];first|(rw[zbR (i:=i) (by omega) (by omega) (by assumption),Bool.false_and];done)|(rw[zb4 (by omega) (fun x hx=>hg1.2 x (by omega)),Bool.true_and];first|(rw[zp6 (i:=j) (by omega) (by omega)];done)|(symm;exact zdl (fun x hx=>decide_eq_true (hg2.2 x (by omega))))))
def isP (w:List Data) (t:Ty) (p:Pat):Bool:=zas w 10 t p&&(decide ((p.size:Int)≤60)&&linP w 10 t p)
theorem zd0 {w:List Data} (hw:WT w){a k:Int}{p:Pat} (ht:TyIn w.length ⟨a,k⟩) (hok:p.ok) (hb:p.size≤1000000000000):
  FnD Tryz.prog 101 [.d (zam w),.agg [.d (.i a),.d (.i k)],.agg [.d (.i p.op),.d (.i p.ctor),.d (.i p.n),.d (.i p.m),.d (.i p.var),.d (zad p.kids)]] [] (.d (.bool (isP w ⟨a,k⟩ p))) []:=by
 have hc:=zoT p 60
 by_cases hs:zas w 10 ⟨a,k⟩ p=true
 ·skip
  refine bd Tryz.f101 22 [] [1] fun w0 F0 own kept hk=>?_
  refine bx 3004 ?_
  refine bx 3005 ?_
  refine ev ?_
  refine CWp.regionJ ?_
  refine WRest.join 9 [(15,.d (.bool (decide ((p.size:Int)≤60))))] [7,8,9,10,11,12,13,14] ?_ ?_
  refine ev ?_
  refine wc zoK (zfc hw 10 (by omega) (by omega) ht hok) rfl rfl ?_
  refine ev ?_
  refine sq (fun h1 h1p h1s=>?_) fun h1 h1p h1s=>?_
  try simp only[Q] at h1p
  refine Walk.call (cr:=[]) zoL (zfb _ (Nat.le_refl _) hb hok (by omega) (by omega)) rfl (.some rfl rfl h1) rfl rfl (LeL.refl _) trivial rfl rfl rfl ?_
  refine evs [] [(11,true)] ?_ ⟨⟨_,rfl,h1⟩,trivial⟩
  exact jnb rfl
  try simp only[Q] at h1p
  exact jnb rfl
  refine WRest.done ?_
  refine ev ?_
  refine sq (fun h2 h2p h2s=>?_) fun h2 h2p h2s=>?_
  try simp only[Q] at h2p
  refine Walk.call (cr:=[]) zli (zey hw 10 hs (by omega) ht hok hb) rfl (.some rfl rfl h2) rfl rfl (LeL.refl _) trivial rfl rfl rfl ?_
  refine evs [] [(16,true)] ?_ ⟨⟨_,rfl,h2⟩,trivial⟩
  refine rn0 (r1 rfl) (.eqd ?_)
  rotate_left
  try simp only[Q] at h2p
  refine rn0 (r1 rfl) (.eqd ?_)
  rotate_left
  all_goals (refine congrArg D.bool ?_;unfold isP;simp only[hs,Bool.true_and];first|(simp_all;done)|(simp_all;intro;omega))
 ·have hs':zas w 10 ⟨a,k⟩ p=false:=by simpa using hs
  refine bd Tryz.f101 22 [] [1] fun w0 F0 own kept hk=>?_
  refine bx 3004 ?_
  refine bx 3005 ?_
  refine ev ?_
  refine CWp.regionJ ?_
  refine WRest.join 9 [(15,.d (.bool (false)))] [7,8,9,10,11,12,13,14] ?_ ?_
  refine ev ?_
  refine wc zoK (zfc hw 10 (by omega) (by omega) ht hok) rfl rfl ?_
  refine ev ?_
  refine sq (fun h1 h1p h1s=>?_) fun h1 h1p h1s=>?_
  try simp only[Q] at h1p
  refine Walk.call (cr:=[]) zoL (zfb _ (Nat.le_refl _) hb hok (by omega) (by omega)) rfl (.some rfl rfl h1) rfl rfl (LeL.refl _) trivial rfl rfl rfl ?_
  refine evs [] [(11,true)] ?_ ⟨⟨_,rfl,h1⟩,trivial⟩
  exact jnb rfl
  try simp only[Q] at h1p
  exact jnb rfl
  refine WRest.done ?_
  refine ev ?_
  refine sq (fun h2 h2p h2s=>?_) fun h2 h2p h2s=>?_
  try simp only[Q] at h2p
  refine Walk.call (cr:=[]) zli (show FnD Tryz.prog 161 [.d (zam w),.agg [.d (.i a),.d (.i k)],.agg [.d (.i p.op),.d (.i p.ctor),.d (.i p.n),.d (.i p.m),.d (.i p.var),.d (zad p.kids)]] [] (.d (.bool true)) [] from absurd (by assumption:(false:Bool)=true) (by simp)) rfl (.some rfl rfl h2) rfl rfl (LeL.refl _) trivial rfl rfl rfl ?_
  refine evs [] [(16,true)] ?_ ⟨⟨_,rfl,h2⟩,trivial⟩
  refine rn0 (r1 rfl) (.eqd ?_)
  rotate_left
  try simp only[Q] at h2p
  refine rn0 (r1 rfl) (.eqd ?_)
  rotate_left
  all_goals (refine congrArg D.bool ?_;unfold isP;simp_all)
end Go.Proofs.YtpgdedpljcedpaaGreat
namespace Go.Proofs.YtpgdedpljcedpaaGreat
open Go
set_option linter.unusedSimpArgs false
set_option linter.unusedVariables false
def tyS (s:Nat):Ty:=⟨((s / 4:Nat):Int),((s % 4:Nat):Int)⟩
def zcj (t:Ty):Nat:=t.data.toNat*4+t.index.toNat
def dv (f:Nat→Nat) (t:Ty):Nat:=if t.data = -1 then 1 else f (zcj t)
def zbq (f:Nat→Nat):Nat→List Ty→Nat
 |m,[]=>m+1
 |m,t::r=>if dv f t=0 then 0 else zbq f (max m (dv f t)) r
def most (w:List Data) (f:Nat→Nat) (t:Ty) (c:Int):Nat:=zbq f 0 (zaa w t c)
def updF (f:Nat→Nat) (s n:Nat):Nat→Nat:=fun i=>if i=s then n else f i
def zby (w:List Data) (s:Nat) (f:Nat→Nat) (c:Int):Nat→Nat:=
 if 0<most w f (tyS s) c∧(f s=0∨most w f (tyS s) c<f s) then updF f s (most w f (tyS s) c) else f
def zdk (w:List Data) (f:Nat→Nat) (s:Nat):Nat→Nat:=(za2 w (tyS s)).foldl (zby w s) f
def zgx (w:List Data) (f:Nat→Nat):Nat→Nat:=(List.range (w.length*4)).foldl (zdk w) f
def zbb (w:List Data):Nat→Nat→Nat
 |0=>fun _=>0
 |k+1=>zgx w (zbb w k)
def zai (w:List Data):Nat→Nat:=zbb w (w.length*4+1)
def Hd (w:List Data):Nat→Ty→Prop
 |0,_=>False
 |d+1,t=>t.data = -1∨∃c∈za2 w t,t.data≠ -1∧∀u∈zaa w t c,Hd w d u
def InS (n:Nat) (u:Ty):Prop:=u.data = -1∨(zcj u<n∧tyS (zcj u)=u)
def ClosedT (w:List Data):Prop:=∀s,s<w.length*4→∀c∈za2 w (tyS s),∀u∈zaa w (tyS s) c,InS (w.length*4) u
theorem zk8 (s:Nat):(tyS s).data≠ -1:=by simp only[tyS];omega
theorem Hd_mono (w:List Data):∀(d:Nat) (t:Ty),Hd w d t→Hd w (d+1) t
 |0,_,h=>h.elim
 |d+1,t,h=>by
  rcases h with h|⟨c,hc,h1,h⟩
  ·exact .inl h
  ·exact .inr ⟨c,hc,h1,fun u hu=>Hd_mono w d u (h u hu)⟩
theorem Hd_le {w:List Data}{d e:Nat}{t:Ty} (h:d≤e) (hd:Hd w d t):Hd w e t:=by
 induction h with
 |refl=>exact hd
 |step _ ih=>exact Hd_mono w _ t ih
section
variable {w:List Data}
def Bet (f g:Nat→Nat):Prop:=∀s,0<f s→0<g s∧g s≤f s
def Snd (w:List Data) (f:Nat→Nat):Prop:=∀s,s<w.length*4→0<f s→Hd w (f s) (tyS s)
def Cmp (w:List Data) (k:Nat) (f:Nat→Nat):Prop:=∀s,s<w.length*4→∀d,d≤k→Hd w d (tyS s)→0<f s∧f s≤d
theorem Bet.refl (f:Nat→Nat):Bet f f:=fun s h=>⟨h,Nat.le_refl _⟩
theorem Bet.trans {f g h:Nat→Nat} (a:Bet f g) (b:Bet g h):Bet f h:=fun s hs=>⟨(b s (a s hs).1).1,Nat.le_trans (b s (a s hs).1).2 (a s hs).2⟩
theorem Cmp.bet {k:Nat}{f g:Nat→Nat} (h:Cmp w k f) (b:Bet f g):Cmp w k g:=fun s hs d hd hh=>
 ⟨(b s (h s hs d hd hh).1).1,Nat.le_trans (b s (h s hs d hd hh).1).2 (h s hs d hd hh).2⟩
theorem zjv {f:Nat→Nat}:∀ {l:List Ty}{m k:Nat},m≤k→(∀u∈l,0<dv f u∧dv f u≤k)→0<zbq f m l∧zbq f m l≤k+1
 | [],m,k,hm,_=>by simp only[zbq];omega
 |t::r,m,k,hm,h=>by
  have h1:=h t (by simp)
  simp only[zbq]
  rw[if_neg (by omega)]
  exact zjv (by omega) (fun u hu=>h u (by simp[hu]))
theorem zhm {f:Nat→Nat}:∀ {l:List Ty}{m:Nat},0<zbq f m l→m<zbq f m l∧∀u∈l,0<dv f u∧dv f u<zbq f m l
 | [],m,_=>⟨by simp only[zbq];omega,fun u hu=>by simp at hu⟩
 |t::r,m,h=>by
  simp only[zbq] at h ⊢
  by_cases h0:dv f t=0
  ·rw[if_pos h0] at h;omega
  ·rw[if_neg h0] at h ⊢
   obtain⟨h1,h2⟩:=zhm h
   refine⟨by omega,fun u hu=>?_⟩
   rcases List.mem_cons.1 hu with rfl|hu
   ·omega
   ·exact h2 u hu
theorem zls {f:Nat→Nat} (hs:Snd w f){u:Ty} (hu:InS (w.length*4) u) (h:0<dv f u):Hd w (dv f u) u:=by
 unfold dv at h ⊢
 split
 ·rename_i he;exact .inl he
 ·rename_i he
  rw[if_neg he] at h
  rcases hu with hu|⟨h1,h2⟩
  ·exact absurd hu he
  ·have:=hs _ h1 h
   rwa [h2] at this
theorem zjg {k:Nat}{f:Nat→Nat} (hc:Cmp w k f){u:Ty} (hu:InS (w.length*4) u) (h:Hd w k u):0<dv f u∧dv f u≤k:=by
 unfold dv
 split
 ·cases k with
  |zero=>exact h.elim
  |succ k=>omega
 ·rename_i he
  rcases hu with hu|⟨h1,h2⟩
  ·exact absurd hu he
  ·exact hc _ h1 k (Nat.le_refl _) (by rw[h2];exact h)
theorem zjE {s:Nat}{f:Nat→Nat}{c:Int}:Bet f (zby w s f c):=by
 intro i hi
 unfold zby
 split
 ·rename_i h
  unfold updF
  split
  ·subst i;omega
  ·omega
 ·omega
theorem zsS (hcl:ClosedT w){s:Nat}{f:Nat→Nat}{c:Int} (hs:s<w.length*4) (hc:c∈za2 w (tyS s)) (h:Snd w f):Snd w (zby w s f c):=by
 unfold zby
 split
 ·rename_i hn
  intro i hi h0
  unfold updF at h0 ⊢
  by_cases he:i=s
  ·subst he
   rw[if_pos rfl] at h0 ⊢
   obtain⟨h1,h2⟩:=zhm (m:=0) hn.1
   obtain⟨n,hn'⟩:∃n,most w f (tyS i) c=n+1:=⟨most w f (tyS i) c-1,by omega⟩
   rw[hn']
   refine .inr ⟨c,hc,zk8 _,fun u hu=>?_⟩
   have h3:=h2 u hu
   have h4:zbq f 0 (zaa w (tyS i) c)=n+1:=hn'
   exact Hd_le (by omega) (zls h (hcl i hi c hc u hu) h3.1)
  ·rw[if_neg he] at h0 ⊢
   exact h i hi h0
 ·exact h
theorem zsQ (hcl:ClosedT w){s k:Nat}{f:Nat→Nat}{c:Int} (hs:s<w.length*4) (hc:c∈za2 w (tyS s)) (h:Cmp w k f) (hh:∀u∈zaa w (tyS s) c,Hd w k u):
  0<zby w s f c s∧zby w s f c s≤k+1:=by
 have hm:=zjv (f:=f) (m:=0) (k:=k) (by omega) (fun u hu=>zjg h (hcl s hs c hc u hu) (hh u hu))
 have hm':0<most w f (tyS s) c∧most w f (tyS s) c≤k+1:=hm
 unfold zby
 split
 ·unfold updF;rw[if_pos rfl];exact hm'
 ·rename_i hn
  have:¬(f s=0∨most w f (tyS s) c<f s):=fun h2=>hn ⟨hm'.1,h2⟩
  omega
theorem zqY (hcl:ClosedT w){s k:Nat} (hs:s<w.length*4):∀(C:List Int) (f:Nat→Nat),(∀c∈C,c∈za2 w (tyS s))→Snd w f→Cmp w k f→
  Bet f (C.foldl (zby w s) f)∧Snd w (C.foldl (zby w s) f)∧∀c∈C,(∀u∈zaa w (tyS s) c,Hd w k u)→0<C.foldl (zby w s) f s∧C.foldl (zby w s) f s≤k+1
 | [],f,_,h1,_=>⟨Bet.refl f,h1,fun c hc=>by simp at hc⟩
 |c::r,f,hC,h1,h2=>by
  have hc:=hC c (by simp)
  obtain⟨g1,g2,g3⟩:=zqY hcl hs r (zby w s f c) (fun x hx=>hC x (by simp[hx])) (zsS hcl hs hc h1) (h2.bet zjE)
  refine⟨zjE.trans g1,g2,fun x hx hh=>?_⟩
  rcases List.mem_cons.1 hx with rfl|hx
  ·obtain⟨q1,q2⟩:=zsQ hcl hs hc h2 hh
   exact⟨(g1 s q1).1,Nat.le_trans (g1 s q1).2 q2⟩
  ·exact g3 x hx hh
theorem ztQ (hcl:ClosedT w){s k:Nat} (hs:s<w.length*4){f:Nat→Nat} (h1:Snd w f) (h2:Cmp w k f):
  Bet f (zdk w f s)∧Snd w (zdk w f s)∧∀d,d≤k+1→Hd w d (tyS s)→0<zdk w f s s∧zdk w f s s≤d:=by
 obtain⟨g1,g2,g3⟩:=zqY hcl hs (za2 w (tyS s)) f (fun c hc=>hc) h1 h2
 refine⟨g1,g2,fun d hd hh=>?_⟩
 rcases Nat.lt_or_ge d (k+1) with h|h
 ·have:=h2 s hs d (by omega) hh
  exact⟨(g1 s this.1).1,Nat.le_trans (g1 s this.1).2 this.2⟩
 ·obtain rfl:d=k+1:=by omega
  rcases hh with hh|⟨c,hc,_,hh⟩
  ·exact absurd hh (zk8 s)
  ·exact g3 c hc hh
theorem znZ (hcl:ClosedT w){k:Nat}:∀(L:List Nat) (f:Nat→Nat),(∀s∈L,s<w.length*4)→Snd w f→Cmp w k f→
  Bet f (L.foldl (zdk w) f)∧Snd w (L.foldl (zdk w) f)∧∀s∈L,∀d,d≤k+1→Hd w d (tyS s)→0<L.foldl (zdk w) f s∧L.foldl (zdk w) f s≤d
 | [],f,_,h1,_=>⟨Bet.refl f,h1,fun s hs=>by simp at hs⟩
 |s::r,f,hL,h1,h2=>by
  obtain⟨p1,p2,p3⟩:=ztQ hcl (hL s (by simp)) h1 h2
  obtain⟨g1,g2,g3⟩:=znZ hcl r (zdk w f s) (fun x hx=>hL x (by simp[hx])) p2 (h2.bet p1)
  refine⟨p1.trans g1,g2,fun x hx d hd hh=>?_⟩
  rcases List.mem_cons.1 hx with rfl|hx
  ·have:=p3 d hd hh
   exact⟨(g1 x this.1).1,Nat.le_trans (g1 x this.1).2 this.2⟩
  ·exact g3 x hx d hd hh
theorem zs1 (hcl:ClosedT w){k:Nat}{f:Nat→Nat} (h1:Snd w f) (h2:Cmp w k f):Bet f (zgx w f)∧Snd w (zgx w f)∧Cmp w (k+1) (zgx w f):=by
 obtain⟨g1,g2,g3⟩:=znZ hcl (List.range (w.length*4)) f (fun s hs=>List.mem_range.1 hs) h1 h2
 exact⟨g1,g2,fun s hs d hd hh=>g3 s (List.mem_range.2 hs) d hd hh⟩
theorem zcM (hcl:ClosedT w):∀k,Snd w (zbb w k)∧Cmp w k (zbb w k)
 |0=>⟨fun s _ h=>absurd h (by simp[zbb]),fun s _ d hd hh=>by
   obtain rfl:d=0:=by omega
   exact hh.elim⟩
 |k+1=>(zs1 hcl (zcM hcl k).1 (zcM hcl k).2).2
theorem zjk (hcl:ClosedT w){d:Nat} (h1:1≤d) (h:∀s,s<w.length*4→Hd w (d+1) (tyS s)→Hd w d (tyS s)):∀e s,s<w.length*4→Hd w e (tyS s)→Hd w d (tyS s)
 |0,s,_,hh=>hh.elim
 |e+1,s,hs,hh=>by
  refine h s hs ?_
  rcases hh with hh|⟨c,hc,h2,hh⟩
  ·exact .inl hh
  ·refine .inr ⟨c,hc,h2,fun u hu=>?_⟩
   rcases hcl s hs c hc u hu with hi|⟨q1,q2⟩
   ·cases d with
    |zero=>omega
    |succ d=>exact .inl hi
   ·have:=zjk hcl h1 h e _ q1 (by rw[q2];exact hh u hu)
    rwa [q2] at this
open Classical in
noncomputable def cntH (w:List Data) (d:Nat):Nat:=(List.range (w.length*4)).countP (fun s=>decide (Hd w d (tyS s)))
theorem znl {p q:Nat→Bool}:∀ {l:List Nat},(∀x∈l,p x=true→q x=true)→(∃x∈l,p x=false∧q x=true)→l.countP p<l.countP q
 | [],_,h=>by obtain⟨x,hx,_⟩:=h;simp at hx
 |y::r,hpq,h=>by
  have hle:r.countP p≤r.countP q:=List.countP_mono_left (fun x hx hp=>hpq x (by simp[hx]) hp)
  rw[List.countP_cons,List.countP_cons]
  obtain⟨x,hx,h1,h2⟩:=h
  rcases List.mem_cons.1 hx with rfl|hx
  ·rw[h1,h2];simp only[Bool.false_eq_true,if_false,if_true];omega
  ·have:=znl (fun x hx hp=>hpq x (by simp[hx]) hp) ⟨x,hx,h1,h2⟩
   have h3:=hpq y (by simp)
   cases hp:p y with
   |false=>simp only[Bool.false_eq_true,if_false];omega
   |true=>rw[h3 hp];simp only[if_true];omega
open Classical in
theorem zvX {d:Nat} (h:¬ ∀s,s<w.length*4→Hd w (d+1) (tyS s)→Hd w d (tyS s)):cntH w d<cntH w (d+1):=by
 have h2:∃s,s<w.length*4∧Hd w (d+1) (tyS s)∧¬Hd w d (tyS s):=by
  refine Classical.byContradiction fun hn=>h fun s hs hh=>Classical.byContradiction fun hd=>hn ⟨s,hs,hh,hd⟩
 obtain⟨s,hs,h3,h4⟩:=h2
 unfold cntH
 exact znl (fun x _ hx=>by rw[decide_eq_true_eq] at hx ⊢;exact Hd_mono w d _ hx) ⟨s,List.mem_range.2 hs,by simp[h4],by simp[h3]⟩
theorem zsm:∀m,(∀d,1≤d→d≤m→¬ ∀s,s<w.length*4→Hd w (d+1) (tyS s)→Hd w d (tyS s))→m≤cntH w (m+1)
 |0,_=>Nat.zero_le _
 |m+1,h=>by
  have:=zsm m (fun d h1 h2=>h d h1 (by omega))
  have:=zvX (w:=w) (d:=m+1) (h (m+1) (by omega) (by omega))
  omega
theorem zlB (hcl:ClosedT w){e s:Nat} (hs:s<w.length*4) (h:Hd w e (tyS s)):Hd w (w.length*4+1) (tyS s):=by
 have hex:∃d,1≤d∧d≤w.length*4+1∧∀s,s<w.length*4→Hd w (d+1) (tyS s)→Hd w d (tyS s):=by
  refine Classical.byContradiction fun hn=>?_
  have h1:=zsm (w:=w) (w.length*4+1) (fun d h1 h2 h3=>hn ⟨d,h1,h2,h3⟩)
  have h2:cntH w (w.length*4+1+1)≤(List.range (w.length*4)).length:=List.countP_le_length
  rw[List.length_range] at h2
  omega
 obtain⟨d,h1,h2,h3⟩:=hex
 exact Hd_le h2 (zjk hcl h1 h3 e s hs h)
theorem zsR {s i:Nat}{f:Nat→Nat}{c:Int} (h:i≠s):zby w s f c i=f i:=by
 unfold zby;split
 ·unfold updF;rw[if_neg h]
 ·rfl
theorem zqZ {s i:Nat} (h:i≠s):∀(C:List Int) (f:Nat→Nat),C.foldl (zby w s) f i=f i
 | [],_=>rfl
 |c::r,f=>by rw[List.foldl_cons,zqZ h r,zsR h]
theorem zn1 {i:Nat}:∀(L:List Nat) (f:Nat→Nat),i∉L→L.foldl (zdk w) f i=f i
 | [],_,_=>rfl
 |s::r,f,h=>by
  simp only[List.mem_cons,not_or] at h
  rw[List.foldl_cons,zn1 r _ h.2]
  exact zqZ h.1 _ _
theorem ziq {i:Nat} (h:w.length*4≤i):∀k,zbb w k i=0
 |0=>rfl
 |k+1=>by
  show zgx w (zbb w k) i=0
  unfold zgx
  rw[zn1 _ _ (by simp;omega),ziq h k]
theorem zj6 (hcl:ClosedT w){k:Nat} (hk:w.length*4+1≤k):zbb w k=zai w:=by
 have key:∀a b,w.length*4+1≤a→w.length*4+1≤b→∀s,s<w.length*4→0<zbb w a s→0<zbb w b s∧zbb w b s≤zbb w a s:=by
  intro a b ha hb s hs h0
  have h1:=(zcM hcl a).1 s hs h0
  have h2:=zlB hcl hs h1
  have h3:=(zcM hcl a).2 s hs _ ha h2
  exact(zcM hcl b).2 s hs _ (by omega) h1
 funext s
 rcases Nat.lt_or_ge s (w.length*4) with hs|hs
 ·have h1:=key k (w.length*4+1) hk (Nat.le_refl _) s hs
  have h2:=key (w.length*4+1) k (Nat.le_refl _) hk s hs
  show zbb w k s=zbb w (w.length*4+1) s
  omega
 ·show zbb w k s=zbb w (w.length*4+1) s
  rw[ziq hs,ziq hs]
theorem ztq (hcl:ClosedT w){k:Nat} (h:zbb w (k+1)=zbb w k):zbb w k=zai w:=by
 have:∀j,zbb w (k+j)=zbb w k:=by
  intro j
  induction j with
  |zero=>rfl
  |succ j ih=>
   show zgx w (zbb w (k+j))=zbb w k
   rw[ih];exact h
 rw[←this (w.length*4+1)]
 exact zj6 hcl (by omega)
def Strict (f g:Nat→Nat):Prop:=∃s,0<g s∧(f s=0∨g s<f s)
theorem Strict.bet {f g h:Nat→Nat} (a:Strict f g) (b:Bet g h):Strict f h:=by
 obtain⟨s,h1,h2⟩:=a
 have:=b s h1
 exact⟨s,this.1,by omega⟩
theorem Strict.ne {f g:Nat→Nat} (a:Strict f g):f≠g:=by
 rintro rfl
 obtain⟨s,h1,h2⟩:=a
 omega
theorem zmV {s:Nat}:∀(C:List Int) (f:Nat→Nat),Bet f (C.foldl (zby w s) f)
 | [],f=>Bet.refl f
 |c::r,f=>zjE.trans (zmV r _)
theorem zn0:∀(L:List Nat) (f:Nat→Nat),Bet f (L.foldl (zdk w) f)
 | [],f=>Bet.refl f
 |s::r,f=>(zmV _ _).trans (zn0 r _)
theorem zpn {f:Nat→Nat}{b:Nat} (hb:∀s,f s≤b) (h1:1≤b):∀ {l:List Ty}{m:Nat},m≤b→zbq f m l≤b+1
 | [],m,hm=>by simp only[zbq];omega
 |t::r,m,hm=>by
  simp only[zbq]
  split
  ·omega
  ·refine zpn hb h1 ?_
   have:dv f t≤b:=by
    unfold dv;split
    ·exact h1
    ·exact hb _
   omega
theorem ztK {s:Nat}{f:Nat→Nat}{c:Int}{b:Nat} (hb:∀s,f s≤b) (h1:1≤b):∀i,zby w s f c i≤b+1:=by
 intro i
 unfold zby
 split
 ·unfold updF
  split
  ·exact zpn hb h1 (Nat.zero_le _)
  ·have:=hb i;omega
 ·have:=hb i;omega
theorem zpB {s:Nat}:∀(C:List Int) (f:Nat→Nat) (b:Nat),(∀s,f s≤b)→1≤b→∀i,C.foldl (zby w s) f i≤b+C.length
 | [],f,b,hb,_,i=>by have:=hb i;simpa using this
 |c::r,f,b,hb,h1,i=>by
  have:=zpB (s:=s) r (zby w s f c) (b+1) (ztK hb h1) (by omega) i
  rw[List.foldl_cons,List.length_cons];omega
theorem zk5 {m:Nat}:∀(L:List Nat) (f:Nat→Nat) (b:Nat),(∀s∈L,(za2 w (tyS s)).length≤m)→(∀s,f s≤b)→1≤b→∀i,L.foldl (zdk w) f i≤b+L.length*m
 | [],f,b,_,hb,_,i=>by have:=hb i;simpa using this
 |s::r,f,b,hm,hb,h1,i=>by
  have h2:=zpB (w:=w) (s:=s) (za2 w (tyS s)) f b hb h1
  have h3:=hm s (by simp)
  have:=zk5 r (zdk w f s) (b+m) (fun x hx=>hm x (by simp[hx])) (fun j=>by have:=h2 j;show _≤_;unfold zdk;omega) (by omega) i
  rw[List.foldl_cons,List.length_cons,Nat.add_mul]
  omega
theorem zqM {m:Nat} (hm:∀s,s<w.length*4→(za2 w (tyS s)).length≤m):∀k i,zbb w k i≤1+k*(w.length*4*m)
 |0,i=>by simp[zbb]
 |k+1,i=>by
  have:=zk5 (w:=w) (m:=m) (List.range (w.length*4)) (zbb w k) (1+k*(w.length*4*m)) (fun s hs=>hm s (List.mem_range.1 hs)) (zqM hm k) (by omega) i
  show zgx w (zbb w k) i≤_
  unfold zgx
  rw[List.length_range] at this
  rw[Nat.add_mul]
  omega
end
end Go.Proofs.YtpgdedpljcedpaaGreat
namespace Go.Proofs.YtpgdedpljcedpaaGreat
open Go
set_option linter.unusedSimpArgs false
set_option linter.unusedVariables false
set_option maxRecDepth 100000
set_option maxHeartbeats 2000000
section
variable {c:Ctx}{all:Array Oper}{chk:List Rec→Prop}{os:List Oper}{recs:List Rec}{env:Env}{hp:Hp}{Q:St→Prop}
variable {d ty:Nat}{pos:String}{af:Array Edge}{g:Option (Nat×Bool)}{pg:List (Nat×AV)}
theorem Walk.buildZ {t n e m k:Nat}{zs:List AV} (ht:TyZ c.P t k zs) (ha:ArT c.P t n e m) (hg:GH all env g pg) (hd:Nat.blt d c.n=true)
  (hn:Walk c all chk os (zao (pg++[]) [] [] ⟨some (d,.agg zs),[]⟩::recs) ⟨(d,.agg zs)::env,hp⟩ Q):
  Walk c all chk (⟨some d,.build t #[],ty,pos,af,g⟩::os) recs ⟨env,hp⟩ Q:=by
 refine Walk.pure0 hg hd (fun a G T w=>?_) hn
 obtain⟨i,z,h1,h2,h3,h4⟩:=ht.inf
 obtain⟨j,h5,h6⟩:=ha.inf
 have hz:=zb1 (G:=G) (T:=T) (w:=w) h4
 refine⟨.agg z.cells, ?_, ?_⟩
 ·have hb:c.P.built t []=some z.cells:=by
   unfold Program.built
   simp only[h1,ha.und,h3,h5]
   rfl
  have:=run_build w t #[] z.cells hb
  simp only[execOp,Sem.run_bind,Array.map_empty,this,Result.andThen_ok,Sem.run_pure]
 ·have hz':AllR G T w zs z.cells:=by simpa using hz
  exact .agg hz'.size hz'.rel
end
def tabC (n:Nat) (f:Nat→Nat):List AV:=(List.range n).map fun s=> .d (.i (f s:Int))
def tabD (n:Nat) (f:Nat→Nat):List D:=(List.range n).map fun s=> .i (f s:Int)
abbrev zeo (n:Nat) (f:Nat→Nat):D:= .sl ((List.range n).map fun s=>[D.i (f s:Int)])
theorem zkb {n i s:Nat}{f:Nat→Nat} (h:s<n) (e:i=s):(tabC n f)[i]?=some (.d (.i (f s:Int))):=by
 subst e;simp[tabC,h]
theorem ztS {n i s:Nat}{f:Nat→Nat} (h:s<n) (e:i=s):(tabD n f)[i]?=some (.i (f s:Int)):=by
 subst e;simp[tabD,h]
theorem zaB {n:Nat}{f:Nat→Nat}:AV.idsL (tabC n f)=[]:=by
 unfold tabC
 induction List.range n with
 |nil=>rfl
 |cons x r ih=>rw[List.map_cons,AV.idsL,ih];rfl
theorem ztU:∀ {n:Nat}{f:Nat→Nat},toDL (tabC n f)=some (tabD n f):=by
 intro n f
 unfold tabC tabD
 have:=zk7 ((List.range n).map fun s=>D.i (f s:Int))
 rwa [List.map_map] at this
theorem zsh {n:Nat}{f:Nat→Nat}:zbS n 1 (tabC n f)=some ((List.range n).map fun s=>[D.i (f s:Int)]):=by
 have:=zem (f:=fun s=>[D.i (f s:Int)]) (k:=1) (l:=List.range n) (fun _ _=>rfl)
 rw[List.length_range] at this
 rw[←this]
 congr 1
 unfold tabC
 induction List.range n with
 |nil=>rfl
 |cons x r ih=>rw[List.map_cons,List.flatMap_cons,ih];rfl
theorem zqW {v:AV}:∀ {cs:List AV}{i:Nat},i<cs.length→putC cs i [v]=some (cs.set i v)
 |x::r,0,_=>by cases r<;>rfl
 |x::r,i+1,h=>by
  have:=zqW (v:=v) (cs:=r) (i:=i) (by simpa using h)
  simp only[putC,this,List.set_cons_succ]
theorem zq9 {n i s v:Nat}{f:Nat→Nat}{x:Int} (h:s<n) (e:i=s) (ex:x=(v:Int)):putC (tabC n f) i [.d (.i x)]=some (tabC n (updF f s v)):=by
 subst e ex
 rw[zqW (by simp[tabC,h])]
 congr 1
 refine List.ext_getElem (by simp[tabC]) (fun j h1 h2=>?_)
 simp only[tabC,List.length_map,List.length_range] at h2
 rw[List.getElem_set]
 simp only[tabC,List.getElem_map,List.getElem_range,updF]
 by_cases hj:i=j
 ·subst hj;simp
 ·rw[if_neg hj,if_neg (fun h=>hj h.symm)]
theorem InS.facts {n:Nat}{a k:Int} (h:InS n ⟨a,k⟩) (ha:¬a = -1):zcj ⟨a,k⟩<n∧a*4+k=(zcj ⟨a,k⟩:Int)∧0≤a∧0≤k∧k≤3∧a≤n:=by
 rcases h with h|⟨h1,h2⟩
 ·exact absurd h ha
 ·have e1:=congrArg Ty.data h2
  have e2:=congrArg Ty.index h2
  simp only[tyS] at e1 e2
  omega
theorem zlt {f:Nat→Nat}{a k:Int} (ha:¬a = -1):dv f ⟨a,k⟩=f (zcj ⟨a,k⟩):=by unfold dv;rw[if_neg ha]
theorem zlu {f:Nat→Nat}{a k:Int} (ha:a = -1):dv f ⟨a,k⟩=1:=by unfold dv;rw[if_pos ha]
theorem zow {f:Nat→Nat}{b:Nat} (hb:∀s,f s≤b) (h1:1≤b) (t:Ty):dv f t≤b:=by
 unfold dv;split
 ·exact h1
 ·exact hb _
theorem zhY {a k:Int} (ha:0≤a∧a≤1000) (hk:0≤k∧k≤1000):FnD Tryz.prog 181 [.agg [.d (.i a),.d (.i k)]] [] (.d (.i (a*4+k))) []:=by
 refine bd Tryz.f181 9 [] [] fun w0 F0 own kept hk=>?_
 refine bx 3001 ?_
 refine ev ?_
 refine ar ?_
 refine ar ?_
 focus (refine rn0 (r1 rfl) (.eqd ?_);all_goals ((simp[];done)))
theorem zmh {n:Nat}{f:Nat→Nat}{a k:Int} (h:InS n ⟨a,k⟩) (hn:n≤100):
  FnD Tryz.prog 130 [.ms 70 n,.agg [.d (.i a),.d (.i k)]] [(70,some (.box (tabC n f)))] (.d (.i (dv f ⟨a,k⟩))) []:=by
 have hs:=h.facts
 refine bd Tryz.f130 13 [12] [] fun w0 F0 own kept hk=>?_
 refine Walk.box (id:=3003) .none rfl rfl rfl (by first|rfl|(simp only[zaA,occH,occE,Res.ids,List.cons_append,List.nil_append,AV.idsL,AV.ids,zal,zak,zav,zaO,List.map_cons,List.map_nil,upC,zaB];rfl)) (by first|rfl|(simp only[zaA,occH,occE,Res.ids,List.cons_append,List.nil_append,AV.idsL,AV.ids,zal,zak,zav,zaO,List.map_cons,List.map_nil,upC,zaB];rfl)) (by first|rfl|(simp only[zaA,occH,occE,Res.ids,List.cons_append,List.nil_append,AV.idsL,AV.ids,zal,zak,zav,zaO,List.map_cons,List.map_nil,upC,zaB];rfl)) (by first|rfl|(simp only[zaA,occH,occE,Res.ids,List.cons_append,List.nil_append,AV.idsL,AV.ids,zal,zak,zav,zaO,List.map_cons,List.map_nil,upC,zaB];rfl)) ?_
 refine evs [12] [] ?_
 refine sq (fun h1 h1p h1s=>?_) fun h1 h1p h1s=>?_
 try simp only[Q] at h1p
 refine rn [] (r1 rfl) (.eqd ?_) ⟨rfl,rfl⟩ (SubH.get ⟨rfl,trivial⟩) (fun _ h=>h)
 rotate_left
 try simp only[Q] at h1p
 refine Walk.call (cr:=[]) zsa (zhY (by have:=hs h1p;omega) (by have:=hs h1p;omega)) rfl .none rfl rfl (LeL.refl _) trivial rfl (by first|rfl|(simp only[zbf,List.all_cons,List.all_nil,zcg,zbU,AV.idsL,AV.ids,zal,zak,List.map_cons,List.map_nil,zaB];rfl)) (by first|rfl|(simp only[zaA,occH,occE,Res.ids,List.cons_append,List.nil_append,AV.idsL,AV.ids,zal,zak,zav,zaO,List.map_cons,List.map_nil,upC,zaB];rfl)) ?_
 refine Walk.idxM (i:=zcj ⟨a,k⟩) sl62 .none rfl rfl rfl (hs h1p).2.1 ((hs h1p).1) ?_
 refine Walk.loadB ty3 .none rfl rfl rfl ((zkb (hs h1p).1 (by omega))) ?_
 refine evs [12] [] ?_
 refine rn [] (r1 rfl) (.eqd ?_) ⟨rfl,rfl⟩ (SubH.get ⟨rfl,trivial⟩) (fun _ h=>h)
 rotate_left
 all_goals (first|(rw[zlu (by assumption)];rfl)|(rw[zlt (by assumption)]))
theorem zdN {n:Nat}{f:Nat→Nat}{a k:Int} (h:InS n ⟨a,k⟩) (hn:n≤100):
  FnD Tryz.prog 130 [.d (zeo n f),.agg [.d (.i a),.d (.i k)]] [] (.d (.i (dv f ⟨a,k⟩))) []:=by
 have hs:=h.facts
 refine bd Tryz.f130 13 [] [] fun w0 F0 own kept hk=>?_
 refine bx 3003 ?_
 refine ev ?_
 refine sq (fun h1 h1p h1s=>?_) fun h1 h1p h1s=>?_
 try simp only[Q] at h1p
 refine rn0 (r1 rfl) (.eqd ?_)
 rotate_left
 try simp only[Q] at h1p
 refine wc zsa (zhY (by have:=hs h1p;omega) (by have:=hs h1p;omega)) rfl rfl ?_
 refine Walk.idx (i:=zcj ⟨a,k⟩) sl62 .none rfl rfl rfl (hs h1p).2.1 (by simp[(hs h1p).1];rfl) rfl ?_
 refine ev ?_
 refine rn0 (r1 rfl) (.eqd ?_)
 rotate_left
 all_goals (first|(rw[zlu (by assumption)];rfl)|(rw[zlt (by assumption)]))
theorem zgM {w:List Data} (hw:WT w){a k c:Int} (ht:TyIn w.length ⟨a,k⟩) (hc:c∈zah w ⟨a,k⟩):(zaa w ⟨a,k⟩ c).length≤1000000000000:=by
 obtain⟨d,rfl,h1,h2⟩:=zck ht hc
 exact zh8 hw h1 h2
theorem zm6 {w:List Data} (hw:WT w){n:Nat}{f:Nat→Nat}{a k c:Int} (ht:TyIn w.length ⟨a,k⟩) (hc:c∈zah w ⟨a,k⟩) (hn:n≤100) (hb:∀s,f s≤100000) (hin:∀u∈zaa w ⟨a,k⟩ c,InS n u):
  FnD Tryz.prog 98 [.d (zam w),.ms 70 n,.agg [.d (.i a),.d (.i k)],.d (.i c)] [(70,some (.box (tabC n f)))] (.d (.i (most w f ⟨a,k⟩ c))) []:=by
 have hl:=zgM hw ht hc
 have hd:=zow hb (by omega)
 refine bd Tryz.f98 37 [] [] fun w0 F0 own kept hk=>?_
 refine Walk.box (id:=3006) .none rfl rfl rfl (by(simp only[zaA,occH,occE,Res.ids,List.cons_append,List.nil_append,AV.idsL,AV.ids,zal,zak,zav,zaO,List.map_cons,List.map_nil,upC,zaB];rfl)) (by(simp only[zaA,occH,occE,Res.ids,List.cons_append,List.nil_append,AV.idsL,AV.ids,zal,zak,zav,zaO,List.map_cons,List.map_nil,upC,zaB];rfl)) (by(simp only[zaA,occH,occE,Res.ids,List.cons_append,List.nil_append,AV.idsL,AV.ids,zal,zak,zav,zaO,List.map_cons,List.map_nil,upC,zaB];rfl)) (by(simp only[zaA,occH,occE,Res.ids,List.cons_append,List.nil_append,AV.idsL,AV.ids,zal,zak,zav,zaO,List.map_cons,List.map_nil,upC,zaB];rfl)) ?_
 refine ev ?_
 refine Walk.call (cr:=[]) zfQ (zb5 hw ht hc) rfl .none rfl rfl (LeL.refl _) trivial rfl (by first|rfl|(simp only[zbf,List.all_cons,List.all_nil,zcg,zbU,AV.idsL,AV.ids,zal,zak,List.map_cons,List.map_nil,zaB];rfl)) (by first|rfl|(simp only[zaA,occH,occE,Res.ids,List.cons_append,List.nil_append,AV.idsL,AV.ids,zal,zak,zav,zaO,List.map_cons,List.map_nil,upC,zaB];rfl)) ?_
 refine ev ?_
 refine CWp.loopX (ι:=List (Ty)×List (Ty)×(Nat)) hk (fun x=>[(11,.d (.i (x.1.length:Int))),(10,.d (.i (x.2.2:Int)))]) [8,12,17,18,19,20,21,22,23,24,25,26,27,28,29,30,31,32,33,34] (fun x=>[]) (fun x=>x.1++x.2.1=zaa w ⟨a,k⟩ c∧x.2.2≤100000∧zbq f x.2.2 x.2.1=zbq f 0 (zaa w ⟨a,k⟩ c)) (fun x=>x.2.1.length) ([],zaa w ⟨a,k⟩ c,0) ⟨by simp,by simp,rfl⟩ ⟨⟨_,rfl,LeA.eqi ?_⟩,⟨⟨_,rfl,LeA.eqi ?_⟩,trivial⟩⟩ trivial (fun x=>rfl) (fun x hg1=>?_)
 iterate 2 focus ((simp;done))
 obtain⟨pre,rest,m⟩:=x
 dsimp only at hg1 ⊢
 refine evc [] [] ?_
 refine sq (fun h1 h1p h1s=>?_) fun h1 h1p h1s=>?_
 try simp only[Q] at h1p
 rcases rest with _|⟨y,rest⟩
 ·exfalso;simp_all
 have hdy:=hd y;have hye:dv f ⟨y.data,y.index⟩=dv f y:=rfl
 refine Walk.idx za0 .none rfl rfl rfl rfl (zaK hg1.1) rfl ?_
 refine ev ?_
 refine Walk.call (cr:=[]) zi7 (zmh (f:=f) (a:=y.data) (k:=y.index) (hin y (by rw[←hg1.1];simp)) hn) rfl .none rfl rfl (.cons (LeA.msn (by first|rfl|(simp;done))) (.cons (.refl _) .nil)) ⟨rfl,trivial⟩ rfl (by first|rfl|(simp only[zbf,List.all_cons,List.all_nil,zcg,zbU,AV.idsL,AV.ids,zal,zak,List.map_cons,List.map_nil,zaB];rfl)) (by first|rfl|(simp only[zaA,occH,occE,Res.ids,List.cons_append,List.nil_append,AV.idsL,AV.ids,zal,zak,zav,zaO,List.map_cons,List.map_nil,upC,zaB];rfl)) ?_
 refine ev ?_
 refine sq (fun h2 h2p h2s=>?_) fun h2 h2p h2s=>?_
 try simp only[Q] at h2p
 refine rn [] (r1 rfl) (.eqd ?_) ⟨rfl,rfl⟩ (SubH.get ⟨rfl,trivial⟩) (fun _ h=>h)
 rotate_left
 try simp only[Q] at h2p
 refine sq (fun h3 h3p h3s=>?_) fun h3 h3p h3s=>?_
 try simp only[Q] at h3p
 refine ar ?_
 refine Exists.intro ((pre++[y],rest,max m (dv f y))) ⟨⟨(by have hz:=hg1.1;rw[←hz];simp),⟨(by have:=hd y;dsimp only;omega),(by rw[←hg1.2.2];simp only[zbq];rw[if_neg (by have:=hd y;omega)])⟩⟩,(by simp),sx ⟨⟨_,rfl,LeA.eqi ?_⟩,⟨⟨_,rfl,LeA.eqi ?_⟩,trivial⟩⟩ trivial⟩
 iterate 2 focus (first|(simp;done)|(dsimp only;omega))
 try simp only[Q] at h3p
 refine ar ?_
 refine Exists.intro ((pre++[y],rest,max m (dv f y))) ⟨⟨(by have hz:=hg1.1;rw[←hz];simp),⟨(by have:=hd y;dsimp only;omega),(by rw[←hg1.2.2];simp only[zbq];rw[if_neg (by have:=hd y;omega)])⟩⟩,(by simp),sx ⟨⟨_,rfl,LeA.eqi ?_⟩,⟨⟨_,rfl,LeA.eqi ?_⟩,trivial⟩⟩ trivial⟩
 iterate 2 focus (first|(simp;done)|(dsimp only;omega))
 try simp only[Q] at h1p
 have hrest:rest=[]:=by
  rcases rest with _|⟨a,b⟩
  ·rfl
  ·exfalso;have hz:=congrArg List.length (hg1.1);simp only[List.length_append,List.length_cons,List.length_map] at hz;omega
 subst hrest
 refine ar ?_
 refine rn [] (r1 rfl) (.eqd ?_) ⟨rfl,rfl⟩ (SubH.get ⟨rfl,trivial⟩) (fun _ h=>h)
 rotate_left
 all_goals (refine congrArg D.i ?_;unfold most;rw[←hg1.2.2];first|(simp only[zbq];rw[if_pos (by omega)];rfl)|(simp only[zbq];omega))
structure Dp (w:List Data):Prop where
 wt:WT w
 cl:ClosedT w
 four:w.length≤4
 ct:∀s,s<w.length*4→(za2 w (tyS s)).length≤4
def midT (w:List Data) (k s:Nat):Nat→Nat:=(List.range s).foldl (zdk w) (zbb w k)
def rowT (w:List Data) (k s:Nat) (pre:List Int):Nat→Nat:=pre.foldl (zby w s) (midT w k s)
theorem zhk {w:List Data}{k s:Nat}:rowT w k s (za2 w (tyS s))=midT w k (s+1):=by
 unfold rowT midT;rw[List.range_succ,List.foldl_append];rfl
theorem zdu {w:List Data}{k s:Nat}{pre:List Int}{c:Int}:rowT w k s (pre++[c])=zby w s (rowT w k s pre) c:=by
 unfold rowT;rw[List.foldl_append];rfl
theorem zmU {w:List Data} (hd:Dp w){k s:Nat} (hk:k≤20) (hs:s≤w.length*4){pre:List Int} (hp:pre.length≤4) (i:Nat):rowT w k s pre i≤100000:=by
 have h4:=hd.four
 have h1:=zqM (w:=w) (m:=4) hd.ct k
 have h2:=zk5 (w:=w) (m:=4) (List.range s) (zbb w k) _ (fun x hx=>hd.ct x (by have:=List.mem_range.1 hx;omega)) h1 (by omega)
 have h3:=zpB (w:=w) (s:=s) pre (midT w k s) _ h2 (by omega) i
 have e1:k*(w.length*4*4)≤20*(4*4*4):=Nat.mul_le_mul hk (by omega)
 rw[List.length_range] at h3
 show pre.foldl (zby w s) (midT w k s) i≤100000
 omega
theorem zs3 {w:List Data}{s:Nat} (h:s<w.length*4):TyIn w.length (tyS s):= .inr ⟨s / 4,rfl,by omega⟩
theorem ziG {w:List Data}{s:Nat}:zah w (tyS s)=za2 w (tyS s):=by unfold zah;rw[if_neg (zk8 s)]
theorem zqm (m:Nat):za8 (m+1) [.d (.i 0)]=za8 m [.d (.i 0)]++[AV.d (.i 0)]:=by
 induction m with
 |zero=>rfl
 |succ m ihm=>
  show [AV.d (.i 0)]++za8 (m+1) [.d (.i 0)]=([AV.d (.i 0)]++za8 m [.d (.i 0)])++[AV.d (.i 0)]
  rw[ihm,List.append_assoc]
theorem zn9 (n:Nat):za8 n [.d (.i 0)]=tabC n (fun _=>0):=by
 unfold tabC
 induction n with
 |zero=>rfl
 |succ n ih=>rw[zqm,ih,List.range_succ,List.map_append];rfl
theorem zdX {w:List Data}{s:Nat}{f:Nat→Nat}{c:Int} (h:decide ((0:Int)<(most w f (tyS s) c:Int)∧((f s:Int)=0∨(most w f (tyS s) c:Int)<(f s:Int)))=true):zby w s f c=updF f s (most w f (tyS s) c):=by
 rw[decide_eq_true_eq] at h
 unfold zby;rw[if_pos (by omega)]
theorem zdt {w:List Data}{s:Nat}{f:Nat→Nat}{c:Int} (h:decide ((0:Int)<(most w f (tyS s) c:Int)∧((f s:Int)=0∨(most w f (tyS s) c:Int)<(f s:Int)))=false):zby w s f c=f:=by
 rw[decide_eq_false_iff_not] at h
 unfold zby;rw[if_neg (by omega)]
theorem zm1 {w:List Data} (hw:WT w){s:Nat} (hs:s<w.length*4):FnD Tryz.prog 97 [.d (zam w),.agg [.d (.i ((s:Int) / 4)),.d (.i ((s:Int) % 4))]] [] (.d (zcb (za2 w (tyS s)))) []:=by
 rw[←ziG];exact zbW hw (zs3 hs)
theorem zog {w:List Data} (hd:Dp w){f:Nat→Nat}{s:Nat}{c:Int} (hs:s<w.length*4) (hc:c∈za2 w (tyS s)) (hb:∀s,f s≤100000):
  FnD Tryz.prog 98 [.d (zam w),.ms 70 (w.length*4),.agg [.d (.i ((s:Int) / 4)),.d (.i ((s:Int) % 4))],.d (.i c)] [(70,some (.box (tabC (w.length*4) f)))] (.d (.i (most w f (tyS s) c))) []:=
 have h4:=hd.four
 zm6 (a:=(tyS s).data) (k:=(tyS s).index) hd.wt (zs3 hs) (by rw[←ziG] at hc;exact hc) (by omega) hb (fun u hu=>hd.cl s hs c hc u hu)
theorem zhr {w:List Data} (hd:Dp w):FnD Tryz.prog 52 [.d (zam w)] [] (.d (zeo (w.length*4) (zai w))) []:=by
 have hw:=hd.wt
 have h4:=hd.four
 refine bd Tryz.f52 70 [27,29,54,61] [14,999999] fun w0 F0 own kept hk=>?_
 refine ar ?_
 refine Walk.make (id:=70) (m:=w.length*4) sl62 tz3 rfl (by decide) (ziH rfl) .none rfl (congrArg (fun z:Int=>some (AV.d (D.i z))) (by simp:((w.map Data.c).length:Int)*4=((w.length*4:Nat):Int))) (congrArg (fun z:Int=>some (AV.d (D.i z))) (by simp:((w.map Data.c).length:Int)*4=((w.length*4:Nat):Int))) (by omega) (by omega) (by first|rfl|(simp only[zaA,occH,occE,Res.ids,List.cons_append,List.nil_append,AV.idsL,AV.ids,zal,zak,zav,zaO,List.map_cons,List.map_nil,upC,zaB];rfl)) (by first|rfl|(simp only[zaA,occH,occE,Res.ids,List.cons_append,List.nil_append,AV.idsL,AV.ids,zal,zak,zav,zaO,List.map_cons,List.map_nil,upC,zaB];rfl)) (by first|rfl|(simp only[zaA,occH,occE,Res.ids,List.cons_append,List.nil_append,AV.idsL,AV.ids,zal,zak,zav,zaO,List.map_cons,List.map_nil,upC,zaB];rfl)) ?_
 refine evs [27,29,54,61] [] ?_
 refine CWp.loopX (ι:=Nat) hk (fun n=>[(4,.d (.i (n:Int)))]) [5,6,7,8,9,14,15,16,17,18,19,20,21,22,23,24,25,26,27,28,29,30,31,32,33,34,35,36,37,38,39,40,41,42,43,44,45,46,47,48,49,50,51,52,53,54,55,56,57,58,59,60,61,62,63,64,65,66,67,68] (fun n=>[(70,some (.box (tabC (w.length*4) (zbb w n))))]) (fun n=>n≤w.length*4+1) (fun n=>w.length*4+1-n) 0 (by simp) ⟨⟨_,rfl,LeA.eqi ?_⟩,trivial⟩ ⟨?_,trivial⟩ (fun x=>rfl) (fun n hg1=>?_)
 focus ((simp;done))
 focus ((show some (Res.box _)=some (Res.box _);rw[zn9];rfl))
 refine evc [27,29,54,61] [14,999999] ?_
 refine sq (fun h1 h1p h1s=>?_) fun h1 h1p h1s=>?_
 try simp only[Q] at h1p
 refine CWp.loopX (ι:=Nat) hk (fun s=>[(5,.d (.i (s:Int)))]) [6,7,8,9,20,21,22,23,24,25,26,27,28,29,30,31,32,33,34,35,36,37,38,39,40,41,42,43,44,45,46,47,48,49,50,51,52,53,54,55,56,57,58,59,60,61,62,63,64,65,66,67,68] (fun s=>[(70,some (.box (tabC (w.length*4) (midT w n s))))]) (fun s=>s≤w.length*4) (fun s=>w.length*4-s) 0 (by simp) ⟨⟨_,rfl,LeA.eqi ?_⟩,trivial⟩ ⟨?_,trivial⟩ (fun x=>rfl) (fun s hg2=>?_)
 focus ((simp;done))
 focus (first|rfl|(show some (Res.box _)=some (Res.box _);rw[←zhk,←hg3,List.append_nil]))
 refine evc [27,29,54,61] [14,999999] ?_
 refine sq (fun h2 h2p h2s=>?_) fun h2 h2p h2s=>?_
 try simp only[Q] at h2p
 refine Walk.quoI .none rfl rfl rfl (by omega) ?_
 refine evs [27,29,54,61] [] ?_
 refine Walk.remI .none rfl rfl rfl (by omega) ?_
 refine bu [0,1] [_,_] st25 ?_
 refine Walk.alloc (id:=3006) tz25 rfl .none rfl (by(simp only[zaA,occH,occE,Res.ids,List.cons_append,List.nil_append,AV.idsL,AV.ids,zal,zak,zav,zaO,List.map_cons,List.map_nil,upC,zaB];rfl)) (by(simp only[zaA,occH,occE,Res.ids,List.cons_append,List.nil_append,AV.idsL,AV.ids,zal,zak,zav,zaO,List.map_cons,List.map_nil,upC,zaB];rfl)) (by(simp only[zaA,occH,occE,Res.ids,List.cons_append,List.nil_append,AV.idsL,AV.ids,zal,zak,zav,zaO,List.map_cons,List.map_nil,upC,zaB];rfl)) ?_
 refine so ty25 ?_
 refine tv ?_
 refine Walk.call (cr:=[]) zhc (zm1 hw (s:=s) (by omega)) rfl .none rfl rfl (LeL.refl _) trivial rfl (by first|rfl|(simp only[zbf,List.all_cons,List.all_nil,zcg,zbU,AV.idsL,AV.ids,zal,zak,List.map_cons,List.map_nil,zaB];rfl)) (by first|rfl|(simp only[zaA,occH,occE,Res.ids,List.cons_append,List.nil_append,AV.idsL,AV.ids,zal,zak,zav,zaO,List.map_cons,List.map_nil,upC,zaB];rfl)) ?_
 refine evs [27,29,54,61] [] ?_
 refine CWp.loopX (ι:=List (Int)×List (Int)) hk (fun x=>[(8,.d (.i (x.1.length:Int)))]) [9,34,35,36,37,38,39,40,41,42,43,44,45,46,47,48,49,50,51,52,53,54,55,56,57,58,59,60,61,62,63,64,65,66,67,68] (fun x=>[(70,some (.box (tabC (w.length*4) (rowT w n s x.1))))]) (fun x=>x.1++x.2=za2 w (tyS s)) (fun x=>x.2.length) ([],za2 w (tyS s)) (by simp) ⟨⟨_,rfl,LeA.eqi ?_⟩,trivial⟩ ⟨?_,trivial⟩ (fun x=>rfl) (fun x hg3=>?_)
 focus ((simp;done))
 focus (first|rfl|(show some (Res.box _)=some (Res.box _);rw[zdu];first|(rw[zdX (by assumption)];done)|(rw[zdt (by assumption)];done)))
 obtain⟨pre,rest⟩:=x
 dsimp only at hg3 ⊢
 have hct:=hd.ct s (by omega)
 refine evc [27,29,54,61] [14,999999] ?_
 refine sq (fun h3 h3p h3s=>?_) fun h3 h3p h3s=>?_
 try simp only[Q] at h3p
 rcases rest with _|⟨c,rest⟩
 ·exfalso;simp_all
 refine Walk.idx sl62 .none rfl rfl rfl rfl (zaK hg3) rfl ?_
 refine evd [27,29,54,61] [] ?_
 refine Walk.call (cr:=[]) zue (zog hd (f:=rowT w n s pre) (s:=s) (c:=c) (by omega) (by rw[←hg3];simp) (zmU hd (by omega) (by omega) (by have:=hd.ct s (by omega);have hz:=congrArg List.length hg3;simp at hz;omega))) rfl .none rfl rfl (.cons (.refl _) (.cons (LeA.msn (by first|rfl|(simp;done))) (.cons (.refl _) (.cons (.refl _) .nil)))) ⟨rfl,trivial⟩ rfl (by first|rfl|(simp only[zbf,List.all_cons,List.all_nil,zcg,zbU,AV.idsL,AV.ids,zal,zak,List.map_cons,List.map_nil,zaB];rfl)) (by first|rfl|(simp only[zaA,occH,occE,Res.ids,List.cons_append,List.nil_append,AV.idsL,AV.ids,zal,zak,zav,zaO,List.map_cons,List.map_nil,upC,zaB];rfl)) ?_
 refine evd [27,29,54,61] [] ?_
 refine dr ?_
 refine CWp.regionJ ?_
 refine WRest.join 17 [(64,.d (.bool (decide ((0:Int)<(most w (rowT w n s pre) (tyS s) c:Int)∧((rowT w n s pre s:Int)=0∨(most w (rowT w n s pre) (tyS s) c:Int)<(rowT w n s pre s:Int))))))] [48,49,50,51,52,53,54,55,56,57,58,59,60,61,62,63] ?_ ?_
 refine evs [27,29,54,61] [] ?_
 refine sq (fun h4 h4p h4s=>?_) fun h4 h4p h4s=>?_
 try simp only[Q] at h4p
 refine Walk.idxM (i:=s) sl62 (.some rfl rfl h4) rfl rfl rfl rfl (by omega) ?_
 refine Walk.loadB ty3 (.some rfl rfl h4) rfl rfl rfl ((zkb (s:=s) (by omega) (by omega))) ?_
 refine evs [27,29,54,61] [(50,true)] ?_ ⟨⟨_,rfl,h4⟩,trivial⟩
 refine sq (fun h5 h5p h5s=>?_) fun h5 h5p h5s=>?_
 try simp only[Q] at h5p
 exact jnb rfl
 try simp only[Q] at h5p
 refine Walk.idxM (i:=s) sl62 (.some rfl rfl h5) rfl rfl rfl rfl (by omega) ?_
 refine Walk.loadB ty3 (.some rfl rfl h5) rfl rfl rfl ((zkb (s:=s) (by omega) (by omega))) ?_
 refine evs [27,29,54,61] [(50,true),(56,false)] ?_ ⟨⟨_,rfl,h4⟩,⟨_,rfl,h5⟩,trivial⟩
 exact jnb rfl
 try simp only[Q] at h4p
 exact jnb rfl
 refine WRest.done ?_
 refine tv ?_
 refine sq (fun h6 h6p h6s=>?_) fun h6 h6p h6s=>?_
 try simp only[Q] at h6p
 refine Walk.idxM (i:=s) sl62 .none rfl rfl rfl rfl (by omega) ?_
 refine Walk.store ty3 .none rfl rfl rfl rfl rfl rfl (by simp) ((zq9 (s:=s) (v:=most w (rowT w n s pre) (tyS s) c) (by omega) (by omega) rfl)) ?_
 refine tv ?_
 refine ar ?_
 refine Exists.intro ((pre++[c],rest)) ⟨(by have hz:=hg3;rw[←hz];simp),(by simp),sx ⟨⟨_,rfl,LeA.eqi ?_⟩,trivial⟩ ⟨?_,trivial⟩⟩
 focus ((simp;done))
 focus ((show some (Res.box _)=some (Res.box _);rw[zdu];first|(rw[zdX (by assumption)];done)|(rw[zdt (by assumption)];done)))
 try simp only[Q] at h6p
 refine ar ?_
 refine Exists.intro ((pre++[c],rest)) ⟨(by have hz:=hg3;rw[←hz];simp),(by simp),sx ⟨⟨_,rfl,LeA.eqi ?_⟩,trivial⟩ ⟨?_,trivial⟩⟩
 focus ((simp;done))
 focus ((show some (Res.box _)=some (Res.box _);rw[zdu];first|(rw[zdX (by assumption)];done)|(rw[zdt (by assumption)];done)))
 try simp only[Q] at h3p
 have hrest:rest=[]:=by
  rcases rest with _|⟨a,b⟩
  ·rfl
  ·exfalso;have hz:=congrArg List.length (hg3);simp only[List.length_append,List.length_cons,List.length_map] at hz;omega
 subst hrest
 refine ar ?_
 refine Exists.intro (s+1) ⟨(by omega),(by omega),sx ⟨⟨_,rfl,LeA.eqi ?_⟩,trivial⟩ ⟨?_,trivial⟩⟩
 focus ((simp;done))
 focus ((show some (Res.box _)=some (Res.box _);rw[←zhk,←hg3,List.append_nil]))
 try simp only[Q] at h2p
 refine ar ?_
 refine Exists.intro (n+1) ⟨(by omega),(by omega),sx ⟨⟨_,rfl,LeA.eqi ?_⟩,trivial⟩ ⟨?_,trivial⟩⟩
 focus ((simp;done))
 focus (first|(show some (Res.box _)=some (Res.box _);rw[zn9];rfl)|(have e:s=w.length*4:=(by omega);rw[e];rfl))
 try simp only[Q] at h1p
 refine CWp.frz hk 2 70 _ _ rfl rfl zsh rfl ?_
 refine CWp.ret ?_
 refine rn0 (r1 rfl) (.eqd ?_)
 rotate_left
 all_goals ((have e:n=w.length*4+1:=(by omega);rw[e];rfl))
theorem znA {α:Type} [Inhabited α] (p:α→Bool):∀(l:List α) (i:Nat),(idxF p l i = -1∧∀x∈l,p x=false)∨∃k:Nat,idxF p l i=((i+k:Nat):Int)∧k<l.length∧(l.take (k+1)).filter (fun x=> !p x)=l.take k
 | [],i=> .inl ⟨rfl,by simp⟩
 |x::r,i=>by
  unfold idxF
  cases h:p x with
  |true=>exact .inr ⟨0,by simp,by simp,by simp[h]⟩
  |false=>
   rcases znA p r (i+1) with ⟨h1,h2⟩|⟨k,h1,h2,h3⟩
   ·exact .inl ⟨by simpa using h1,fun y hy=>by rcases List.mem_cons.1 hy with rfl|hy;exact h;exact h2 y hy⟩
   ·refine .inr ⟨k+1,by simp only[Bool.false_eq_true,if_false];rw[h1];congr 1;omega,by simpa using h2, ?_⟩
    simp only[List.take_succ_cons,List.filter_cons,h,Bool.not_false,if_true,List.cons.injEq,true_and]
    simpa using h3
theorem ziS {α:Type} [Inhabited α]{s:List α}{i:Nat}{t:α} (h:i<s.length):(s.set i t).take (i+1)=s.take i++[t]:=by
 rw[List.set_eq_take_append_cons_drop,if_pos h,List.take_append,List.take_take]
 have:(s.take i).length=i:=by simp;omega
 simp[this,Nat.min_eq_right]
theorem zoa {α:Type}{s:List α}{i j:Nat}{t:α} (h:i≤j):(s.set i t).drop (j+1)=s.drop (j+1):=by
 rw[List.drop_set,if_pos (by omega)]
theorem zgQ {α:Type} [Inhabited α]{p:α→Bool}{l:List α}{j:Nat} (h:j<l.length):(l.take (j+1)).filter p=(l.take j).filter p++(if p (nth l j) then [nth l j] else []):=by
 rw[List.take_add_one,List.getElem?_eq_getElem h,List.filter_append,zaG h]
 simp[List.filter_cons]
theorem zqd {α:Type} [Inhabited α]{s l:List α}{j:Nat} (h:s.drop j=l.drop j) (hl:s.length=l.length) (hj:j<l.length):nth s j=nth l j:=by
 have h1:=zaW (l:=s) (i:=j) (by omega)
 have h2:=zaW (l:=l) (i:=j) hj
 rw[h1,h2] at h
 exact(List.cons.inj h).1
theorem zhd {α:Type}{s l:List α}{j:Nat} (h:s.drop j=l.drop j):s.drop (j+1)=l.drop (j+1):=by
 have:=congrArg (List.drop 1) h
 simpa [List.drop_drop,Nat.add_comm] using this
theorem zez {w:List Data} (hs:WSmall w) (hv:za1 w=true):WT w:=WV.wt hs ((zce w).1 hv)
end Go.Proofs.YtpgdedpljcedpaaGreat
namespace Go.Proofs.YtpgdedpljcedpaaGreat
open Go
set_option linter.unusedSimpArgs false
set_option linter.unusedVariables false
set_option maxRecDepth 100000
set_option maxHeartbeats 4000000
theorem zeZ {p:Pat}{b1 b2 b3:Bool}{k:Int}:FnD Tryz.prog 216 [.agg [.d (.i p.op),.d (.i p.ctor),.d (.i p.n),.d (.i p.m),.d (.i p.var),.d (zad p.kids)],.d (.bool b1),.d (.bool b2),.d (.bool b3),.d (.i k)] []
  (.d (.bool (decide ((b1=true∨p.ctor=0)∧(b2=true∨p.n=0∧p.m=0)∧(b3=true∨p.var=0)∧(p.kids.length:Int)=k)))) []:=by
 refine bd Tryz.f216 45 [] [1] fun w0 F0 own kept hk=>?_
 refine bx 3005 ?_
 refine ev ?_
 refine CWp.regionJ ?_
 refine WRest.join 6 [(16,.d (.bool (decide (b1=true∨p.ctor=0))))] [11,12,13,14,15] ?_ ?_
 refine ev ?_
 refine sq (fun h1 h1p h1s=>?_) fun h1 h1p h1s=>?_
 try simp only[Q,Pat.cs_len] at h1p
 focus (exact jn rfl (LeA.eqb (by(first|rfl|(rw[Bool.eq_iff_iff];simp_all[Pat.cs_len];done)))))
 try simp only[Q,Pat.cs_len] at h1p
 focus (exact jn rfl (LeA.eqb (by(first|rfl|(rw[Bool.eq_iff_iff];simp_all[Pat.cs_len];done)))))
 refine WRest.join 13 [(29,.d (.bool (decide ((b1=true∨p.ctor=0)∧(b2=true∨p.n=0∧p.m=0)))))] [17,18,19,20,21,22,23,24,25,26,27,28] ?_ ?_
 refine ev ?_
 refine sq (fun h2 h2p h2s=>?_) fun h2 h2p h2s=>?_
 try simp only[Q,Pat.cs_len] at h2p
 refine sq (fun h3 h3p h3s=>?_) fun h3 h3p h3s=>?_
 try simp only[Q,Pat.cs_len] at h3p
 focus (exact jn rfl (LeA.eqb (by(first|rfl|(rw[Bool.eq_iff_iff];simp_all[Pat.cs_len];done)))))
 try simp only[Q,Pat.cs_len] at h3p
 refine sq (fun h4 h4p h4s=>?_) fun h4 h4p h4s=>?_
 try simp only[Q,Pat.cs_len] at h4p
 focus (exact jn rfl (LeA.eqb (by(first|rfl|(rw[Bool.eq_iff_iff];simp_all[Pat.cs_len];done)))))
 try simp only[Q,Pat.cs_len] at h4p
 focus (exact jn rfl (LeA.eqb (by(first|rfl|(rw[Bool.eq_iff_iff];simp_all[Pat.cs_len];done)))))
 try simp only[Q,Pat.cs_len] at h2p
 focus (exact jn rfl (LeA.eqb (by(first|rfl|(rw[Bool.eq_iff_iff];simp_all[Pat.cs_len];done)))))
 refine WRest.join 8 [(37,.d (.bool (decide ((b1=true∨p.ctor=0)∧(b2=true∨p.n=0∧p.m=0)∧(b3=true∨p.var=0)))))] [30,31,32,33,34,35,36] ?_ ?_
 refine ev ?_
 refine sq (fun h5 h5p h5s=>?_) fun h5 h5p h5s=>?_
 try simp only[Q,Pat.cs_len] at h5p
 refine sq (fun h6 h6p h6s=>?_) fun h6 h6p h6s=>?_
 try simp only[Q,Pat.cs_len] at h6p
 focus (exact jn rfl (LeA.eqb (by(first|rfl|(rw[Bool.eq_iff_iff];simp_all[Pat.cs_len];done)))))
 try simp only[Q,Pat.cs_len] at h6p
 focus (exact jn rfl (LeA.eqb (by(first|rfl|(rw[Bool.eq_iff_iff];simp_all[Pat.cs_len];done)))))
 try simp only[Q,Pat.cs_len] at h5p
 focus (exact jn rfl (LeA.eqb (by(first|rfl|(rw[Bool.eq_iff_iff];simp_all[Pat.cs_len];done)))))
 refine WRest.join 7 [(44,.d (.bool (decide ((b1=true∨p.ctor=0)∧(b2=true∨p.n=0∧p.m=0)∧(b3=true∨p.var=0)∧(p.kids.length:Int)=k))))] [38,39,40,41,42,43] ?_ ?_
 refine ev ?_
 refine sq (fun h7 h7p h7s=>?_) fun h7 h7p h7s=>?_
 try simp only[Q,Pat.cs_len] at h7p
 focus (exact jn rfl (LeA.eqb (by(first|rfl|(rw[Bool.eq_iff_iff];simp_all[Pat.cs_len];done)))))
 try simp only[Q,Pat.cs_len] at h7p
 focus (exact jn rfl (LeA.eqb (by(first|rfl|(rw[Bool.eq_iff_iff];simp_all[Pat.cs_len];done)))))
 refine WRest.done ?_
 refine ev ?_
 refine rn0 (r1 rfl) (.eqd ?_)
 rotate_left
 all_goals (rfl)
theorem zfI {p:Pat}{k:Int}:FnD Tryz.prog 216 [.agg [.d (.i p.op),.d (.i p.ctor),.d (.i p.n),.d (.i p.m),.d (.i p.var),.d (zad p.kids)],.d (.bool false),.d (.bool false),.d (.bool false),.d (.i k)] []
  (.d (.bool (decide (p.ctor=0∧(p.n=0∧p.m=0)∧p.var=0∧(p.kids.length:Int)=k)))) []:=by
 have:=zeZ (p:=p) (b1:=false) (b2:=false) (b3:=false) (k:=k)
 simpa only[Bool.false_eq_true,false_or] using this
theorem zfJ {p:Pat}{k:Int}:FnD Tryz.prog 216 [.agg [.d (.i p.op),.d (.i p.ctor),.d (.i p.n),.d (.i p.m),.d (.i p.var),.d (zad p.kids)],.d (.bool false),.d (.bool false),.d (.bool true),.d (.i k)] []
  (.d (.bool (decide (p.ctor=0∧(p.n=0∧p.m=0)∧(p.kids.length:Int)=k)))) []:=by
 have:=zeZ (p:=p) (b1:=false) (b2:=false) (b3:=true) (k:=k)
 simpa only[Bool.false_eq_true,false_or,true_or,true_and] using this
theorem zko {p:Pat}{k:Int}:FnD Tryz.prog 216 [.agg [.d (.i p.op),.d (.i p.ctor),.d (.i p.n),.d (.i p.m),.d (.i p.var),.d (zad p.kids)],.d (.bool false),.d (.bool true),.d (.bool false),.d (.i k)] []
  (.d (.bool (decide (p.ctor=0∧p.var=0∧(p.kids.length:Int)=k)))) []:=by
 have:=zeZ (p:=p) (b1:=false) (b2:=true) (b3:=false) (k:=k)
 simpa only[Bool.false_eq_true,false_or,true_or,true_and] using this
theorem zqa {p:Pat}{k:Int}:FnD Tryz.prog 216 [.agg [.d (.i p.op),.d (.i p.ctor),.d (.i p.n),.d (.i p.m),.d (.i p.var),.d (zad p.kids)],.d (.bool true),.d (.bool false),.d (.bool false),.d (.i k)] []
  (.d (.bool (decide ((p.n=0∧p.m=0)∧p.var=0∧(p.kids.length:Int)=k)))) []:=by
 have:=zeZ (p:=p) (b1:=true) (b2:=false) (b3:=false) (k:=k)
 simpa only[Bool.false_eq_true,false_or,true_or,true_and] using this
theorem zes {v:Int}:FnD Tryz.prog 217 [.d (.i v)] [] (.d (.bool (zar v 0 5))) []:=by
 refine bd Tryz.f217 5 [] [] fun w0 F0 own kept hk=>?_
 refine wc zfF (zbw) rfl rfl ?_
 refine ev ?_
 refine rn0 (r1 rfl) (.eqd ?_)
 rotate_left
 all_goals (rfl)
theorem zd9 {w:List Data} (hw:WT w){a k:Int} (ht:TyIn w.length ⟨a,k⟩):FnD Tryz.prog 105 [.d (zam w),.agg [.d (.i a),.d (.i k)]] [] (.d (zcb (zah w ⟨a,k⟩))) []:=by
 rcases ht with ha|⟨d,hd,hlt⟩
 ·simp only at ha;subst ha;rw[zgC];exact ziU
 ·simp only at hd;subst hd;rw[zhz];exact zlE hw hlt
theorem zc1 {w:List Data} (hw:WT w){a k c:Int} (ht:TyIn w.length ⟨a,k⟩) (hc:c∈zah w ⟨a,k⟩):FnD Tryz.prog 106 [.d (zam w),.agg [.d (.i a),.d (.i k)],.d (.i c)] [] (.d (zb8 (zaa w ⟨a,k⟩ c))) []:=by
 obtain⟨d,rfl,h1,h2⟩:=zck ht hc
 exact zkL hw h1 h2
theorem ziN {w:List Data} (hw:WT w){a k:Int}{p:Pat} (ht:TyIn w.length ⟨a,k⟩):
  FnD Tryz.prog 180 [.d (zam w),.agg [.d (.i a),.d (.i k)],.agg [.d (.i p.op),.d (.i p.ctor),.d (.i p.n),.d (.i p.m),.d (.i p.var),.d (zad p.kids)]] [] (.tup [.d (zb8 (zcv w ⟨a,k⟩ p)),.d (.bool (okP w ⟨a,k⟩ p))]) []:=by
 have hcl:=zgD hw ht
 have ty4:p.op=4→p.ctor∉zah w ⟨a,k⟩→zcv w ⟨a,k⟩ p=[]:=fun h4 hm=>by unfold zcv;rw[if_pos ⟨h4,hm⟩]
 have ty4':p.op=4→p.ctor∈zah w ⟨a,k⟩→zcv w ⟨a,k⟩ p=zaa w ⟨a,k⟩ p.ctor:=fun h4 hm=>by unfold zcv zaf;rw[if_neg (fun h=>h.2 hm),if_pos h4]
 have ty5:p.op=5→zcv w ⟨a,k⟩ p=[⟨a,k⟩,⟨a,k⟩]:=fun h5=>by unfold zcv zaf;rw[if_neg (by omega),if_neg (by omega),if_pos h5]
 have ty6:p.op=6→zcv w ⟨a,k⟩ p=[⟨a,k⟩]:=fun h6=>by unfold zcv zaf;rw[if_neg (by omega),if_neg (by omega),if_neg (by omega),if_pos h6]
 have ty0:¬p.op=4→¬p.op=5→¬p.op=6→zcv w ⟨a,k⟩ p=[]:=fun h4 h5 h6=>by unfold zcv zaf;rw[if_neg (fun h=>h4 h.1),if_neg h4,if_neg h5,if_neg h6]
 have ln4:p.op=4→(zaf w ⟨a,k⟩ p).length=(zaa w ⟨a,k⟩ p.ctor).length:=fun h4=>by unfold zaf;rw[if_pos h4]
 have ln5:p.op=5→(zaf w ⟨a,k⟩ p).length=2:=fun h5=>by unfold zaf;rw[if_neg (by omega),if_pos h5];rfl
 have ln6:p.op=6→(zaf w ⟨a,k⟩ p).length=1:=fun h6=>by unfold zaf;rw[if_neg (by omega),if_neg (by omega),if_pos h6];rfl
 have ln0:¬p.op=4→¬p.op=5→¬p.op=6→(zaf w ⟨a,k⟩ p).length=0:=fun h4 h5 h6=>by unfold zaf;rw[if_neg h4,if_neg h5,if_neg h6];rfl
 have okI:∀b:Bool,(b=true↔((((p.op=2∨p.op=6)→0≤p.var∧p.var≤5)∧(¬(p.op=2∨p.op=6)→p.var=0)∧(p.op≠3→p.n=0∧p.m=0)∧(p.op≠4→p.ctor=0)∧
   (p.op=1∨p.op=2∨p.op=5∨p.op=6∨(p.op=3∧a = -1∧0≤p.n∧p.n≤p.m∧p.m≤9)∨(p.op=4∧p.ctor∈zah w ⟨a,k⟩)))∧p.kids.length=(zaf w ⟨a,k⟩ p).length))→b=okP w ⟨a,k⟩ p:=fun b h=>by
  rw[Bool.eq_iff_iff,h];unfold okP ownP;simp only[Bool.and_eq_true,decide_eq_true_eq]
 by_cases hmem:p.ctor∈zah w ⟨a,k⟩
 ·have hargs:=zc1 hw ht hmem
  have hal:(zaa w ⟨a,k⟩ p.ctor).length≤1000000000000:=by
   obtain⟨d,rfl,h1,h2⟩:=zck ht hmem
   exact zh8 hw h1 h2
  simp only[hmem,and_true] at okI
  refine bd Tryz.f180 87 [] [5] fun w0 F0 own kept hk=>?_
  refine bx 3004 ?_
  refine bx 3005 ?_
  refine ev ?_
  refine sq (fun h1 h1p h1s=>?_) fun h1 h1p h1s=>?_
  try simp only[Q] at h1p
  refine wc zdQ (zfI) rfl rfl ?_
  refine ev ?_
  refine rn0 (r2 rfl rfl) (.tup (.cons (.nild ?_) (.cons (.eqd ?_) .nil)))
  rotate_left 2
  try simp only[Q] at h1p
  refine sq (fun h2 h2p h2s=>?_) fun h2 h2p h2s=>?_
  try simp only[Q] at h2p
  refine CWp.regionJ ?_
  refine WRest.join 7 [(23,.d (.bool (decide ((p.ctor=0∧(p.n=0∧p.m=0)∧(p.kids.length:Int)=0)∧0≤p.var∧p.var≤5))))] [17,18,19,20,21,22] ?_ ?_
  refine ev ?_
  refine wc zdQ (zfJ) rfl rfl ?_
  refine ev ?_
  refine sq (fun h3 h3p h3s=>?_) fun h3 h3p h3s=>?_
  try simp only[Q] at h3p
  refine Walk.call (cr:=[]) zlk (zes) rfl (.some rfl rfl h3) rfl rfl (LeL.refl _) trivial rfl rfl rfl ?_
  refine evs [] [(19,true)] ?_ ⟨⟨_,rfl,h3⟩,trivial⟩
  exact jn rfl (LeA.eqb (by(rw[Bool.eq_iff_iff];simp only[decide_eq_true_eq,zar,Bool.and_eq_true,Bool.false_eq_true,false_iff,true_iff];omega)))
  try simp only[Q] at h3p
  exact jn rfl (LeA.eqb (by(rw[Bool.eq_iff_iff];simp only[decide_eq_true_eq,zar,Bool.and_eq_true,Bool.false_eq_true,false_iff,true_iff];omega)))
  refine WRest.done ?_
  refine ev ?_
  refine rn0 (r2 rfl rfl) (.tup (.cons (.nild ?_) (.cons (.eqd ?_) .nil)))
  rotate_left 2
  try simp only[Q] at h2p
  refine sq (fun h4 h4p h4s=>?_) fun h4 h4p h4s=>?_
  try simp only[Q] at h4p
  refine sq (fun h5 h5p h5s=>?_) fun h5 h5p h5s=>?_
  try simp only[Q] at h5p
  refine Walk.call (cr:=[]) zdQ (zko) rfl (.some rfl rfl h5) rfl rfl (LeL.refl _) trivial rfl rfl rfl ?_
  refine evd [] [(29,true)] ?_ ⟨⟨_,rfl,h5⟩,trivial⟩
  refine sq (fun h6 h6p h6s=>?_) fun h6 h6p h6s=>?_
  try simp only[Q] at h6p
  refine sq (fun h7 h7p h7s=>?_) fun h7 h7p h7s=>?_
  try simp only[Q] at h7p
  refine sq (fun h8 h8p h8s=>?_) fun h8 h8p h8s=>?_
  try simp only[Q] at h8p
  refine dr ?_
  refine rn0 (r2 rfl rfl) (.tup (.cons (.nild ?_) (.cons (.eqd ?_) .nil)))
  rotate_left 2
  try simp only[Q] at h8p
  refine dr ?_
  refine rn0 (r2 rfl rfl) (.tup (.cons (.nild ?_) (.cons (.eqd ?_) .nil)))
  rotate_left 2
  try simp only[Q] at h7p
  refine sqF ?_
  refine dr ?_
  refine rn0 (r2 rfl rfl) (.tup (.cons (.nild ?_) (.cons (.eqd ?_) .nil)))
  rotate_left 2
  try simp only[Q] at h6p
  refine sqF ?_
  refine sqF ?_
  refine dr ?_
  refine rn0 (r2 rfl rfl) (.tup (.cons (.nild ?_) (.cons (.eqd ?_) .nil)))
  rotate_left 2
  try simp only[Q] at h5p
  refine sqF ?_
  refine sqF ?_
  refine sqF ?_
  refine dr ?_
  refine rn0 (r2 rfl rfl) (.tup (.cons (.nild ?_) (.cons (.eqd ?_) .nil)))
  rotate_left 2
  try simp only[Q] at h4p
  refine sq (fun h9 h9p h9s=>?_) fun h9 h9p h9s=>?_
  try simp only[Q] at h9p
  refine wc zld (zd9 hw ht) rfl rfl ?_
  refine evd [] [] ?_
  refine wc zr8 (zeq hcl) rfl rfl ?_
  refine evd [] [] ?_
  refine dr ?_
  refine sq (fun h10 h10p h10s=>?_) fun h10 h10p h10s=>?_
  try simp only[Q] at h10p
  exfalso;simp_all
  try simp only[Q] at h10p
  refine wc zi5 (hargs) rfl rfl ?_
  refine ev ?_
  refine wc zdQ (zqa) rfl rfl ?_
  refine ev ?_
  refine rn0 (r2 rfl rfl) (.tup (.cons (.eqd ?_) (.cons (.eqd ?_) .nil)))
  rotate_left 2
  try simp only[Q] at h9p
  refine sq (fun h11 h11p h11s=>?_) fun h11 h11p h11s=>?_
  try simp only[Q] at h11p
  refine si [0,1] [_,_] za0 tz25 ?_
  refine evd [] [] ?_
  refine wc zdQ (zfI) rfl rfl ?_
  refine evd [] [] ?_
  refine dr ?_
  refine rn0 (r2 rfl rfl) (.tup (.cons (.eqd ?_) (.cons (.eqd ?_) .nil)))
  rotate_left 2
  try simp only[Q] at h11p
  refine sq (fun h12 h12p h12s=>?_) fun h12 h12p h12s=>?_
  try simp only[Q] at h12p
  refine si [0] [_] za0 tz25 ?_
  refine evd [] [] ?_
  refine wc zdQ (zfJ) rfl rfl ?_
  refine evd [] [] ?_
  refine sq (fun h13 h13p h13s=>?_) fun h13 h13p h13s=>?_
  try simp only[Q] at h13p
  refine Walk.call (cr:=[]) zlk (zes) rfl (.some rfl rfl h13) rfl rfl (LeL.refl _) trivial rfl rfl rfl ?_
  refine evd [] [(82,true)] ?_ ⟨⟨_,rfl,h13⟩,trivial⟩
  refine dr ?_
  refine rn0 (r2 rfl rfl) (.tup (.cons (.eqd ?_) (.cons (.eqd ?_) .nil)))
  rotate_left 2
  try simp only[Q] at h13p
  refine dr ?_
  refine rn0 (r2 rfl rfl) (.tup (.cons (.eqd ?_) (.cons (.eqd ?_) .nil)))
  rotate_left 2
  try simp only[Q] at h12p
  refine rn0 (r2 rfl rfl) (.tup (.cons (.nild ?_) (.cons (.eqd ?_) .nil)))
  rotate_left 2
  all_goals (first|(refine congrArg D.bool (okI _ ?_);(try simp only[decide_eq_true_eq,Bool.false_eq_true,zar,Bool.and_eq_true,List.length_map,true_iff,false_iff]);omega)|(rw[ty0 (by omega) (by omega) (by omega)];first|done|rfl)|(rw[ty5 (by omega)];first|done|rfl)|(rw[ty6 (by omega)];first|done|rfl)|(rw[ty4' (by omega) hmem];first|done|rfl))
 ·simp only[hmem,and_false,or_false] at okI
  refine bd Tryz.f180 87 [] [5] fun w0 F0 own kept hk=>?_
  refine bx 3004 ?_
  refine bx 3005 ?_
  refine ev ?_
  refine sq (fun h1 h1p h1s=>?_) fun h1 h1p h1s=>?_
  try simp only[Q] at h1p
  refine wc zdQ (zfI) rfl rfl ?_
  refine ev ?_
  refine rn0 (r2 rfl rfl) (.tup (.cons (.nild ?_) (.cons (.eqd ?_) .nil)))
  rotate_left 2
  try simp only[Q] at h1p
  refine sq (fun h2 h2p h2s=>?_) fun h2 h2p h2s=>?_
  try simp only[Q] at h2p
  refine CWp.regionJ ?_
  refine WRest.join 7 [(23,.d (.bool (decide ((p.ctor=0∧(p.n=0∧p.m=0)∧(p.kids.length:Int)=0)∧0≤p.var∧p.var≤5))))] [17,18,19,20,21,22] ?_ ?_
  refine ev ?_
  refine wc zdQ (zfJ) rfl rfl ?_
  refine ev ?_
  refine sq (fun h3 h3p h3s=>?_) fun h3 h3p h3s=>?_
  try simp only[Q] at h3p
  refine Walk.call (cr:=[]) zlk (zes) rfl (.some rfl rfl h3) rfl rfl (LeL.refl _) trivial rfl rfl rfl ?_
  refine evs [] [(19,true)] ?_ ⟨⟨_,rfl,h3⟩,trivial⟩
  exact jn rfl (LeA.eqb (by(rw[Bool.eq_iff_iff];simp only[decide_eq_true_eq,zar,Bool.and_eq_true,Bool.false_eq_true,false_iff,true_iff];omega)))
  try simp only[Q] at h3p
  exact jn rfl (LeA.eqb (by(rw[Bool.eq_iff_iff];simp only[decide_eq_true_eq,zar,Bool.and_eq_true,Bool.false_eq_true,false_iff,true_iff];omega)))
  refine WRest.done ?_
  refine ev ?_
  refine rn0 (r2 rfl rfl) (.tup (.cons (.nild ?_) (.cons (.eqd ?_) .nil)))
  rotate_left 2
  try simp only[Q] at h2p
  refine sq (fun h4 h4p h4s=>?_) fun h4 h4p h4s=>?_
  try simp only[Q] at h4p
  refine sq (fun h5 h5p h5s=>?_) fun h5 h5p h5s=>?_
  try simp only[Q] at h5p
  refine Walk.call (cr:=[]) zdQ (zko) rfl (.some rfl rfl h5) rfl rfl (LeL.refl _) trivial rfl rfl rfl ?_
  refine evd [] [(29,true)] ?_ ⟨⟨_,rfl,h5⟩,trivial⟩
  refine sq (fun h6 h6p h6s=>?_) fun h6 h6p h6s=>?_
  try simp only[Q] at h6p
  refine sq (fun h7 h7p h7s=>?_) fun h7 h7p h7s=>?_
  try simp only[Q] at h7p
  refine sq (fun h8 h8p h8s=>?_) fun h8 h8p h8s=>?_
  try simp only[Q] at h8p
  refine dr ?_
  refine rn0 (r2 rfl rfl) (.tup (.cons (.nild ?_) (.cons (.eqd ?_) .nil)))
  rotate_left 2
  try simp only[Q] at h8p
  refine dr ?_
  refine rn0 (r2 rfl rfl) (.tup (.cons (.nild ?_) (.cons (.eqd ?_) .nil)))
  rotate_left 2
  try simp only[Q] at h7p
  refine sqF ?_
  refine dr ?_
  refine rn0 (r2 rfl rfl) (.tup (.cons (.nild ?_) (.cons (.eqd ?_) .nil)))
  rotate_left 2
  try simp only[Q] at h6p
  refine sqF ?_
  refine sqF ?_
  refine dr ?_
  refine rn0 (r2 rfl rfl) (.tup (.cons (.nild ?_) (.cons (.eqd ?_) .nil)))
  rotate_left 2
  try simp only[Q] at h5p
  refine sqF ?_
  refine sqF ?_
  refine sqF ?_
  refine dr ?_
  refine rn0 (r2 rfl rfl) (.tup (.cons (.nild ?_) (.cons (.eqd ?_) .nil)))
  rotate_left 2
  try simp only[Q] at h4p
  refine sq (fun h9 h9p h9s=>?_) fun h9 h9p h9s=>?_
  try simp only[Q] at h9p
  refine wc zld (zd9 hw ht) rfl rfl ?_
  refine evd [] [] ?_
  refine wc zr8 (zeq hcl) rfl rfl ?_
  refine evd [] [] ?_
  refine dr ?_
  refine sq (fun h10 h10p h10s=>?_) fun h10 h10p h10s=>?_
  try simp only[Q] at h10p
  refine rn0 (r2 rfl rfl) (.tup (.cons (.nild ?_) (.cons (.eqd ?_) .nil)))
  rotate_left 2
  try simp only[Q] at h10p
  exfalso;simp_all
  try simp only[Q] at h9p
  refine sq (fun h11 h11p h11s=>?_) fun h11 h11p h11s=>?_
  try simp only[Q] at h11p
  refine si [0,1] [_,_] za0 tz25 ?_
  refine evd [] [] ?_
  refine wc zdQ (zfI) rfl rfl ?_
  refine evd [] [] ?_
  refine dr ?_
  refine rn0 (r2 rfl rfl) (.tup (.cons (.eqd ?_) (.cons (.eqd ?_) .nil)))
  rotate_left 2
  try simp only[Q] at h11p
  refine sq (fun h12 h12p h12s=>?_) fun h12 h12p h12s=>?_
  try simp only[Q] at h12p
  refine si [0] [_] za0 tz25 ?_
  refine evd [] [] ?_
  refine wc zdQ (zfJ) rfl rfl ?_
  refine evd [] [] ?_
  refine sq (fun h13 h13p h13s=>?_) fun h13 h13p h13s=>?_
  try simp only[Q] at h13p
  refine Walk.call (cr:=[]) zlk (zes) rfl (.some rfl rfl h13) rfl rfl (LeL.refl _) trivial rfl rfl rfl ?_
  refine evd [] [(82,true)] ?_ ⟨⟨_,rfl,h13⟩,trivial⟩
  refine dr ?_
  refine rn0 (r2 rfl rfl) (.tup (.cons (.eqd ?_) (.cons (.eqd ?_) .nil)))
  rotate_left 2
  try simp only[Q] at h13p
  refine dr ?_
  refine rn0 (r2 rfl rfl) (.tup (.cons (.eqd ?_) (.cons (.eqd ?_) .nil)))
  rotate_left 2
  try simp only[Q] at h12p
  refine rn0 (r2 rfl rfl) (.tup (.cons (.nild ?_) (.cons (.eqd ?_) .nil)))
  rotate_left 2
  all_goals (first|(refine congrArg D.bool (okI _ ?_);(try simp only[decide_eq_true_eq,Bool.false_eq_true,zar,Bool.and_eq_true,List.length_map,true_iff,false_iff]);omega)|(rw[ty0 (by omega) (by omega) (by omega)];first|done|rfl)|(rw[ty5 (by omega)];first|done|rfl)|(rw[ty6 (by omega)];first|done|rfl)|(rw[ty4 (by omega) hmem];first|done|rfl))
theorem ztb {t u:Vt}:t=u↔t.var=u.var∧t.ty.data=u.ty.data∧t.ty.index=u.ty.index:=by
 rcases t with ⟨a,b,c⟩;rcases u with ⟨d,e,f⟩;simp
def zru (l:List Vt) (v:Vt):Int:=idxF (fun x=>decide (v=x)) l 0
theorem zjK {l:List Vt}{v:Vt} (h:l.length≤1000000000000):FnD Tryz.prog 227 [.d (zcK l),.agg [.d (.i v.var),.d (.i v.ty.data),.d (.i v.ty.index)]] [] (.d (.i (zru l v))) []:=by
 refine bd Tryz.f227 19 [16] [] fun w0 F0 own kept hk=>?_
 refine bx 3003 ?_
 refine evs [16] [] ?_
 refine CWp.loopX (ι:=List (Vt)×List (Vt)) hk (fun x=>[(8,.d (.i (x.1.length:Int)))]) [4,5,9,10,11,12,13,14,15,16,17,18] (fun x=>[]) (fun x=>x.1++x.2=l∧idxF (fun x=>decide (v=x)) x.2 x.1.length=idxF (fun x=>decide (v=x)) l 0) (fun x=>x.2.length) ([],l) ⟨by simp,rfl⟩ ⟨⟨_,rfl,LeA.eqi ?_⟩,trivial⟩ trivial (fun x=>rfl) (fun x hg1=>?_)
 focus (first|rfl|omega)
 obtain⟨pre,rest⟩:=x
 dsimp only at hg1 ⊢
 refine evc [16] [] ?_
 refine sq (fun h1 h1p h1s=>?_) fun h1 h1p h1s=>?_
 try simp only[Q] at h1p
 rcases rest with _|⟨y,rest⟩
 ·exfalso;simp_all
 refine Walk.idx zdi .none rfl rfl rfl rfl (zaK hg1.1) rfl ?_
 refine evd [16] [] ?_
 refine Walk.eqV2 zwz .none rfl rfl rfl rfl rfl ?_
 refine dr ?_
 refine sq (fun h2 h2p h2s=>?_) fun h2 h2p h2s=>?_
 try simp only[Q] at h2p
 refine rn0 (r1 rfl) (.eqd ?_)
 rotate_left
 try simp only[Q] at h2p
 refine ar ?_
 refine Exists.intro ((pre++[y],rest)) ⟨⟨(by have hz:=hg1.1;rw[←hz];simp),(by rw[←hg1.2];simp[idxF];simp_all[ztb])⟩,(by simp),sx ⟨⟨_,rfl,LeA.eqi ?_⟩,trivial⟩ trivial⟩
 focus (first|rfl|(simp;done)|omega)
 try simp only[Q] at h1p
 have hrest:rest=[]:=by
  rcases rest with _|⟨a,b⟩
  ·rfl
  ·exfalso;have hz:=congrArg List.length (hg1.1);simp only[List.length_append,List.length_cons,List.length_map] at hz;omega
 subst hrest
 refine rn0 (r1 rfl) (.eqd ?_)
 rotate_left
 all_goals (unfold zru;rw[←hg1.2];simp_all[idxF,ztb])
theorem zeP {l:List Vt}{v:Vt} (h:l.length≤1000000000000):FnD Tryz.prog 209 [.d (zcK l),.agg [.d (.i v.var),.d (.i v.ty.data),.d (.i v.ty.index)]] [] (.d (.bool (decide (v∈l)))) []:=by
 refine bd Tryz.f209 9 [] [] fun w0 F0 own kept hk=>?_
 refine bx 3003 ?_
 refine ev ?_
 refine wc zvR (zjK h) rfl rfl ?_
 refine ev ?_
 refine rn0 (r1 rfl) (.eqd ?_)
 rotate_left
 all_goals (refine congrArg D.bool ?_;rw[show zru l v=idxF (fun x=>decide (v=x)) l 0 from rfl,zfo];simp[List.any_eq,eq_comm])
theorem zhH {xs:List Vt}{f:Nat}{caps:List AV}{hp:Hp}{p:Vt→Bool} (hs:xs.length≤1000000000000) (hcal:Callee Tryz.prog f)
  (hf:∀t∈xs,FnD Tryz.prog f ([.agg [.d (.i t.var),.d (.i t.ty.data),.d (.i t.ty.index)]]++caps) hp (.d (.bool (p t))) []) (k1:subH hp hp) (k2:zed hp=true) (k3:zbf hp [] (.d .nilp) []=true):
  FnD Tryz.prog 232 [.d (zcK xs),.fn f caps] hp (.d (.i (idxF p xs 0))) []:=by
 refine bd Tryz.f232 19 [] [] fun w0 F0 own kept hk=>?_
 refine CWp.loopX (ι:=List (Vt)×List (Vt)) hk (fun x=>[(8,.d (.i (x.1.length:Int)))]) [4,5,9,10,11,12,13,14,15,16,17,18] (fun x=>[]) (fun x=>x.1++x.2=xs∧idxF p x.2 x.1.length=idxF p xs 0) (fun x=>x.2.length) ([],xs) ⟨by simp,rfl⟩ ⟨⟨_,rfl,LeA.eqi ?_⟩,trivial⟩ trivial (fun x=>zh9 hp) (fun x hg1=>?_)
 focus (first|rfl|omega)
 obtain⟨pre,rest⟩:=x
 dsimp only at hg1 ⊢
 refine evc [] [] ?_
 refine sq (fun h1 h1p h1s=>?_) fun h1 h1p h1s=>?_
 try simp only[Q] at h1p
 rcases rest with _|⟨y,rest⟩
 ·exfalso;simp_all
 refine Walk.idx zdi .none rfl rfl rfl rfl (zaK hg1.1) rfl ?_
 refine ev ?_
 refine Walk.callV (cr:=[]) hcal (hf y (by rw[←hg1.1];simp)) rfl .none rfl rfl rfl (LeL.refl _) k1 k2 (zdA k3 _) rfl ?_
 refine tv ?_
 refine sq (fun h2 h2p h2s=>?_) fun h2 h2p h2s=>?_
 try simp only[Q] at h2p
 focus (refine rn [] (r1 rfl) (.eqd ?_) ⟨rfl,rfl⟩ (fun _ _ h=>h) (fun _ h=>h);all_goals (rw[←hg1.2];simp[idxF,h1s,h1p,h2s,h2p]))
 try simp only[Q] at h2p
 refine ar ?_
 refine Exists.intro ((pre++[y],rest)) ⟨⟨(by have hz:=hg1.1;rw[←hz];simp),(by rw[←hg1.2];simp[idxF,h2s])⟩,(by simp),Sub.x (by kernel_rfl) (by kernel_rfl) ⟨⟨_,rfl,LeA.eqi ?_⟩,trivial⟩ (by simp) (by simp[zdF]) trivial⟩
 focus (first|rfl|(simp;done)|omega)
 try simp only[Q] at h1p
 have hrest:rest=[]:=by
  rcases rest with _|⟨a,b⟩
  ·rfl
  ·exfalso;have hz:=congrArg List.length (hg1.1);simp only[List.length_append,List.length_cons,List.length_map] at hz;omega
 subst hrest
 focus (refine rn [] (r1 rfl) (.eqd ?_) ⟨rfl,rfl⟩ (fun _ _ h=>h) (fun _ h=>h);all_goals (rw[←hg1.2];simp[idxF,h1s,h1p]))
theorem zgv {xs:List Vt}{f:Nat}{caps:List AV}{hp:Hp}{p:Vt→Bool} (hs:xs.length≤1000000000000) (hcal:Callee Tryz.prog f)
  (hf:∀t∈xs,FnD Tryz.prog f ([.agg [.d (.i t.var),.d (.i t.ty.data),.d (.i t.ty.index)]]++caps) hp (.d (.bool (p t))) []) (k1:subH hp hp) (k2:zed hp=true) (k3:zbf hp [] (.d .nilp) []=true):
  FnD Tryz.prog 229 [.d (zcK xs),.fn f caps] hp (.d (.bool (xs.any p))) []:=by
 refine bd Tryz.f229 9 [] [] fun w0 F0 own kept hk=>?_
 refine Walk.call (cr:=[]) zvV (zhH hs hcal hf k1 k2 k3) rfl .none rfl rfl (LeL.refl _) k1 k2 (zdA k3 _) rfl ?_
 refine ev ?_
 refine rn [] (r1 rfl) (.eqd ?_) ⟨rfl,rfl⟩ (fun _ _ h=>h) (fun _ h=>h)
 rotate_left
 all_goals (exact congrArg D.bool (zfo p xs 0))
theorem zjo {b:List Vt}{v:Vt} (h:b.length≤1000000000000):FnD Tryz.prog 230 [.agg [.d (.i v.var),.d (.i v.ty.data),.d (.i v.ty.index)],.ref 3003 0] [(3003,some (.box [.d (zcK b)]))] (.d (.bool (!decide (v∈b)))) []:=by
 refine bd Tryz.f230 8 [] [] fun w0 F0 own kept hk=>?_
 refine bx 3001 ?_
 refine ev ?_
 refine wc zsc (zeP h) rfl rfl ?_
 refine ev ?_
 refine rn [] (r1 rfl) (.eqd ?_) ⟨rfl,rfl⟩ (SubH.get ⟨rfl,trivial⟩) (fun _ h=>h)
 rotate_left
 all_goals (rfl)
theorem zgV {x y:List Vt} (hx:x.length≤1000000000000) (hy:y.length≤1000000000000):FnD Tryz.prog 218 [.d (zcK x),.d (zcK y)] [] (.d (.bool (zdY x y))) []:=by
 refine bd Tryz.f218 16 [] [] fun w0 F0 own kept hk=>?_
 refine bx 3003 ?_
 refine ev ?_
 refine sq (fun h1 h1p h1s=>?_) fun h1 h1p h1s=>?_
 try simp only[Q] at h1p
 refine Walk.closure (xs:=[_]) rfl (.some rfl rfl h1) rfl rfl ?_
 refine Walk.call (cr:=[]) zvT (zgv (p:=fun v=> !decide (v∈y)) hx zvU (fun t _=>zjo hy) ⟨rfl,trivial⟩ rfl rfl) rfl (.some rfl rfl h1) rfl rfl (LeL.refl _) ⟨rfl,trivial⟩ rfl rfl rfl ?_
 refine evs [] [(10,true)] ?_ ⟨⟨_,rfl,h1⟩,trivial⟩
 refine rn0 (r1 rfl) (.eqd ?_)
 rotate_left
 try simp only[Q] at h1p
 refine rn0 (r1 rfl) (.eqd ?_)
 rotate_left
 all_goals (refine congrArg D.bool ?_;unfold zdY;first|(simp_all;done)|(simp_all;intro hz;omega))
def metA (s:List Int):List AV:=(List.range 6).map fun(i:Nat)=> .d (.bool (decide ((i:Int)∈s)))
theorem zpk {s:List Int}{v:Int} (h0:0≤v) (h1:v≤5):(metA s)[v.toNat]?=some (.d (.bool (decide (v∈s)))):=by
 unfold metA
 rw[List.getElem?_map,List.getElem?_range (by omega)]
 simp only[Option.map_some]
 rw[Int.toNat_of_nonneg h0]
theorem zpl {s:List Int}{v:Int} (h0:0≤v) (h1:v≤5):putC (metA s) v.toNat [.d (.bool true)]=some (metA (s++[v])):=by
 have e:v=0∨v=1∨v=2∨v=3∨v=4∨v=5:=by omega
 rcases e with rfl|rfl|rfl|rfl|rfl|rfl<;>simp[metA,putC,List.range_succ]
theorem zsH (t:Ty) (p:Pat):(zaT t p).length≤1:=by unfold zaT;split<;>simp
theorem znQ:∀ {a b:List Int},a.Nodup→(∀x∈a,x∈b)→a.length≤b.length
 | [],b,_,_=>by simp
 |x::r,b,hn,hs=>by
  have hn':=List.nodup_cons.1 hn
  have hx:=hs x (by simp)
  have h:=znQ (a:=r) (b:=b.erase x) hn'.2 (fun y hy=>by
   have hne:y≠x:=fun e=>hn'.1 (e ▸ hy)
   exact(List.mem_erase_of_ne hne).2 (hs y (by simp[hy])))
  rw[List.length_erase_of_mem hx] at h
  have:=List.length_pos_of_mem hx
  simp only[List.length_cons];omega
def InR (l:List Vt):Prop:=∀v∈l,0≤v.var∧v.var≤5
theorem zsJ {l:List Vt} (h:InR l) (hn:zcu l=true):l.length≤6:=by
 unfold zcu at hn
 have h1:=of_decide_eq_true hn
 have h2:∀x∈l.map Vt.var,x∈[(0:Int),1,2,3,4,5]:=fun x hx=>by
  obtain⟨v,hv,rfl⟩:=List.mem_map.1 hx
  have:=h v hv
  simp only[List.mem_cons,List.not_mem_nil,or_false];omega
 have:=znQ h1 h2
 simpa using this
theorem zk0 {g:Ty→Pat→Int→Option (List Vt)×Int}{or:Bool} (hg:∀t p c l,(g t p c).1=some l→InR l):∀(a:List Ty) (b:List Pat) (i:Nat) (acc:List Vt) (c:Int) (l:List Vt),InR acc→(zbk g or a b i acc c).1=some l→InR l
 | [],b,i,acc,c,l,ha,h=>by simp only[zbk,Option.some.injEq] at h;subst h;exact ha
 |_::_,[],i,acc,c,l,ha,h=>by simp only[zbk,Option.some.injEq] at h;subst h;exact ha
 |x::r,y::s,i,acc,c,l,ha,h=>by
  simp only[zbk] at h
  cases hh:(g x y c).1 with
  |none=>rw[hh] at h;cases h
  |some m=>
   rw[hh] at h
   simp only at h
   split at h
   ·split at h
    ·exact zk0 hg r s (i+1) acc _ l ha h
    ·cases h
   ·refine zk0 hg r s (i+1) _ _ l (fun v hv=>?_) h
    rcases List.mem_append.1 hv with hv|hv
    ·exact ha v hv
    ·exact hg x y c m hh v hv
theorem zpD (w:List Data):∀(n:Nat) (t:Ty) (p:Pat) (c:Int) (l:List Vt),(zaM w n t p c).1=some l→InR l∧zcu l=true
 |0,t,p,c,l,h=>by simp[zaM] at h
 |n+1,t,p,c,l,h=>by
  unfold zaM at h
  split at h
  ·cases h
  ·split at h
   ·rename_i h60 ho
    have ho':ownP w t p=true:=by unfold okP at ho;simp only[Bool.and_eq_true] at ho;exact ho.1
    cases hk:(zbk (zaM w n) (decide (p.op=5)) (zaf w t p) p.kids 0 (zaT t p) (c+1)).1 with
    |none=>unfold finV at h;rw[hk] at h;simp only at h;rw[hk] at h;cases h
    |some m=>
     have hi:InR m:=zk0 (fun t p c l h=>(zpD w n t p c l h).1) _ _ _ _ _ m (fun v hv=>by
      unfold zaT at hv
      split at hv
      ·rename_i hop
       simp only[List.mem_cons,List.not_mem_nil,or_false] at hv
       subst hv
       exact zpq ho' hop
      ·simp at hv) hk
     unfold finV at h
     rw[hk] at h
     simp only at h
     split at h
     ·rename_i hn
      rw[hk] at h
      cases h
      exact⟨hi,hn⟩
     ·cases h
   ·cases h
theorem ztM (w:List Data) (n:Nat) (t:Ty) (p:Pat) (c:Int) (h:(zaM w n t p c).1.isSome=true):c+1≤(zaM w n t p c).2∧(zaM w n t p c).2≤60:=by
 have h1:=zfy w n t p c
 by_cases hw:zbI w n t p c=true
 ·have h2:=h1.2 hw
  simp only[zbI,Bool.and_eq_true,decide_eq_true_eq] at hw
  have:=Pat.size_eq p
  omega
 ·rw[if_neg hw] at h1;rw[h1.1] at h;cases h
def zdj (o:Option (List Vt)):List Vt:=o.getD []
theorem zrL {g:Ty→Pat→Int→Option (List Vt)×Int}{or:Bool}{a:List Ty}{b:List Pat}{i:Nat}{acc:List Vt}{c:Int} (ha:i<a.length) (hl:b.length=a.length) (h:(g (nth a i) (nth b i) c).1.isSome=false):
  zbk g or (a.drop i) (b.drop i) i acc c=(none,(g (nth a i) (nth b i) c).2):=by
 rw[zaW ha,zaW (l:=b) (by omega),zbk]
 cases hh:(g (nth a i) (nth b i) c).1 with
 |none=>rfl
 |some l=>rw[hh] at h;cases h
theorem zsU {g:Ty→Pat→Int→Option (List Vt)×Int}{or:Bool}{a:List Ty}{b:List Pat}{i:Nat}{acc:List Vt}{c:Int} (ha:i<a.length) (hl:b.length=a.length) (h:(g (nth a i) (nth b i) c).1.isSome=true) (ho:or=true∧i=1) (hs:zdY acc (zdj (g (nth a i) (nth b i) c).1)=false):
  zbk g or (a.drop i) (b.drop i) i acc c=(none,(g (nth a i) (nth b i) c).2):=by
 rw[zaW ha,zaW (l:=b) (by omega),zbk]
 cases hh:(g (nth a i) (nth b i) c).1 with
 |none=>rfl
 |some l=>rw[hh] at hs;simp only[zdj,Option.getD_some] at hs;simp only[if_pos ho,hs,Bool.false_eq_true,if_false]
theorem zrK {g:Ty→Pat→Int→Option (List Vt)×Int}{or:Bool}{a:List Ty}{b:List Pat}{i:Nat}{acc:List Vt}{c:Int} (ha:i<a.length) (hl:b.length=a.length) (h:(g (nth a i) (nth b i) c).1.isSome=true) (hs:(or=true∧i=1)→zdY acc (zdj (g (nth a i) (nth b i) c).1)=true):
  zbk g or (a.drop i) (b.drop i) i acc c=zbk g or (a.drop (i+1)) (b.drop (i+1)) (i+1) (if or=true∧i=1 then acc else acc++zdj (g (nth a i) (nth b i) c).1) (g (nth a i) (nth b i) c).2:=by
 rw[zaW ha,zaW (l:=b) (by omega),zbk]
 cases hh:(g (nth a i) (nth b i) c).1 with
 |none=>rw[hh] at h;cases h
 |some l=>
  by_cases ho:or=true∧i=1
  ·have:=hs ho;rw[hh] at this;simp only[zdj,Option.getD_some] at this
   simp only[if_pos ho,this,if_true]
  ·simp only[if_neg ho,zdj,Option.getD_some]
theorem zsV {g:Ty→Pat→Int→Option (List Vt)×Int}{or:Bool}{a:List Ty}{b:List Pat}{i:Nat}{acc:List Vt}{c:Int} (ha:a.length≤i):zbk g or (a.drop i) (b.drop i) i acc c=(some acc,c):=by
 rw[List.drop_eq_nil_of_le ha,zbk]
 intro a r b s h;cases h
theorem zfz (w:List Data) (n:Nat) (t:Ty) (p:Pat) (c:Int):InR (zdj (zaM w n t p c).1)∧(zdj (zaM w n t p c).1).length≤6:=by
 cases h:(zaM w n t p c).1 with
 |none=>exact⟨fun v hv=>by simp[zdj] at hv,by simp[zdj]⟩
 |some l=>
  have:=zpD w n t p c l h
  exact⟨this.1,zsJ this.1 this.2⟩
structure GoodS (w:List Data) (n:Nat) (t:Ty) (p:Pat) (c:Int) (x:Nat×List Vt×Int):Prop where
 le:x.1≤p.kids.length
 eq:zbk (zaM w n) (decide (p.op=5)) ((zaf w t p).drop x.1) (p.kids.drop x.1) x.1 x.2.1 x.2.2=zbk (zaM w n) (decide (p.op=5)) (zaf w t p) p.kids 0 (zaT t p) (c+1)
 lc:(x.1:Int)≤x.2.2
 c0:0≤x.2.2
 c1:x.2.2≤60
 len:x.2.1.length≤1+6*x.1
 inr:InR x.2.1
def zci (w:List Data) (n:Nat) (t:Ty) (p:Pat) (x:Nat×List Vt×Int):Nat×List Vt×Int:=
 (x.1+1,if decide (p.op=5)=true∧x.1=1 then x.2.1 else x.2.1++zdj (zaM w n (nth (zaf w t p) x.1) (nth p.kids x.1) x.2.2).1,(zaM w n (nth (zaf w t p) x.1) (nth p.kids x.1) x.2.2).2)
theorem GoodS.next {w:List Data}{n:Nat}{t:Ty}{p:Pat}{c:Int}{x:Nat×List Vt×Int} (hl:p.kids.length=(zaf w t p).length) (hg:GoodS w n t p c x) (hlt:x.1<p.kids.length)
  (hz:(zaM w n (nth (zaf w t p) x.1) (nth p.kids x.1) x.2.2).1.isSome=true) (hs:(decide (p.op=5)=true∧x.1=1)→zdY x.2.1 (zdj (zaM w n (nth (zaf w t p) x.1) (nth p.kids x.1) x.2.2).1)=true):
  GoodS w n t p c (zci w n t p x):=by
 obtain⟨h1,h2,h3,h4,h5,h6,h7⟩:=hg
 have hb:=ztM w n _ _ _ hz
 have ho:=zfz w n (nth (zaf w t p) x.1) (nth p.kids x.1) x.2.2
 refine⟨by unfold zci;dsimp only;omega, ?_,by unfold zci;dsimp only;omega,by unfold zci;dsimp only;omega,by unfold zci;dsimp only;omega, ?_, ?_⟩
 ·rw[←h2,zrK (by omega) hl hz hs];rfl
 ·unfold zci;dsimp only
  split
  ·omega
  ·rw[List.length_append];omega
 ·unfold zci;dsimp only
  split
  ·exact h7
  ·intro v hv
   rcases List.mem_append.1 hv with hv|hv
   ·exact h7 v hv
   ·exact ho.1 v hv
theorem GoodS.none {w:List Data}{n:Nat}{t:Ty}{p:Pat}{c:Int}{x:Nat×List Vt×Int} (hl:p.kids.length=(zaf w t p).length) (hg:GoodS w n t p c x) (hlt:x.1<p.kids.length)
  (hz:(zaM w n (nth (zaf w t p) x.1) (nth p.kids x.1) x.2.2).1.isSome=false):
  finV (zbk (zaM w n) (decide (p.op=5)) (zaf w t p) p.kids 0 (zaT t p) (c+1))=(none,(zaM w n (nth (zaf w t p) x.1) (nth p.kids x.1) x.2.2).2):=by
 rw[←hg.eq,zrL (by omega) hl hz];rfl
theorem GoodS.bad {w:List Data}{n:Nat}{t:Ty}{p:Pat}{c:Int}{x:Nat×List Vt×Int} (hl:p.kids.length=(zaf w t p).length) (hg:GoodS w n t p c x) (hlt:x.1<p.kids.length)
  (hz:(zaM w n (nth (zaf w t p) x.1) (nth p.kids x.1) x.2.2).1.isSome=true) (ho:p.op=5∧x.1=1) (hs:zdY x.2.1 (zdj (zaM w n (nth (zaf w t p) x.1) (nth p.kids x.1) x.2.2).1)=false):
  finV (zbk (zaM w n) (decide (p.op=5)) (zaf w t p) p.kids 0 (zaT t p) (c+1))=(Option.none,(zaM w n (nth (zaf w t p) x.1) (nth p.kids x.1) x.2.2).2):=by
 rw[←hg.eq,zsU (by omega) hl hz (by simpa using ho) hs];rfl
theorem GoodS.fin {w:List Data}{n:Nat}{t:Ty}{p:Pat}{c:Int}{x:Nat×List Vt×Int} (hl:p.kids.length=(zaf w t p).length) (hg:GoodS w n t p c x) (hge:p.kids.length≤x.1):
  finV (zbk (zaM w n) (decide (p.op=5)) (zaf w t p) p.kids 0 (zaT t p) (c+1))=(if zcu x.2.1=true then some x.2.1 else Option.none,x.2.2):=by
 rw[←hg.eq,zsV (by omega)]
 unfold finV
 simp only
 split<;>rfl
theorem zsI {pre rest l:List Vt}{y:Vt} (h:pre++y::rest=l) (hm:y.var∈pre.map Vt.var):zcu l=false:=by
 unfold zcu
 refine decide_eq_false (fun hn=>?_)
 rw[←h,List.map_append,List.map_cons,List.nodup_append] at hn
 exact hn.2.2 _ hm _ (by simp) rfl
theorem zl3 {pre:List Vt}{y:Vt} (h:(pre.map Vt.var).Nodup) (hm:y.var∉pre.map Vt.var):((pre++[y]).map Vt.var).Nodup:=by
 rw[List.map_append,List.nodup_append]
 exact⟨h,by simp,fun a ha b hb=>by simp at hb;subst hb;exact fun e=>hm (e ▸ ha)⟩
def retV (r:Option (List Vt)×Int):AV:= .tup [.d (zcK (zdj r.1)),.d (.bool r.1.isSome)]
theorem zdJ {w:List Data} (hw:WT w):∀(n:Nat){a k d c:Int}{p:Pat},d+n=11→n≤10→TyIn w.length ⟨a,k⟩→p.ok→0≤c→c≤1000000000000→
  FnD Tryz.prog 183 [.d (zam w),.agg [.d (.i a),.d (.i k)],.agg [.d (.i p.op),.d (.i p.ctor),.d (.i p.n),.d (.i p.m),.d (.i p.var),.d (zad p.kids)],.d (.i d),.ref 950 0] [(950,some (.box [.d (.i c)]))]
   (retV (zaM w n ⟨a,k⟩ p c)) [(950,some (.box [.d (.i (zaM w n ⟨a,k⟩ p c).2)]))]
 |0,a,k,d,c,p,hd,_,_,_,c0,c1=>by
  refine bd Tryz.f183 114 [] [2] fun w0 F0 own kept hk=>?_
  refine bx 3006 ?_
  refine bx 3007 ?_
  refine ev ?_
  refine ar ?_
  refine so ty3 ?_
  refine tv ?_
  refine CWp.regionJ ?_
  refine WRest.join 8 [(34,.d (.bool (true)))] [27,28,29,30,31,32,33] ?_ ?_
  refine ev ?_
  refine sq (fun h1 h1p h1s=>?_) fun h1 h1p h1s=>?_
  try simp only[Q] at h1p
  exact jnb rfl
  try simp only[Q] at h1p
  exact jnb rfl
  refine WRest.done ?_
  refine tv ?_
  refine sq (fun h2 h2p h2s=>?_) fun h2 h2p h2s=>?_
  try simp only[Q] at h2p
  refine rn [(950,some (.box [.d (.i (zaM w 0 ⟨a,k⟩ p c).2)]))] (r2 rfl rfl) (.tup (.cons (.nild ?_) (.cons (.eqd ?_) .nil))) ⟨rfl,rfl⟩ (SubO.get ⟨.inr ?_,⟨.inl rfl,trivial⟩⟩) (zaF rfl)
  rotate_left 3
  try simp only[Q] at h2p
  exact absurd h2 (by simp)
  all_goals (first|((rfl);done)|(rfl))
 |n+1,a,k,d,c,p,hd,hn,ht,hok,c0,c1=>by
  by_cases h60:60<c+1
  ·have e:zaM w (n+1) ⟨a,k⟩ p c=(none,c+1):=by unfold zaM;rw[if_pos h60]
   rw[e]
   refine bd Tryz.f183 114 [] [2] fun w0 F0 own kept hk=>?_
   refine bx 3006 ?_
   refine bx 3007 ?_
   refine ev ?_
   refine ar ?_
   refine so ty3 ?_
   refine tv ?_
   refine CWp.regionJ ?_
   refine WRest.join 8 [(34,.d (.bool (true)))] [27,28,29,30,31,32,33] ?_ ?_
   refine ev ?_
   refine sq (fun h1 h1p h1s=>?_) fun h1 h1p h1s=>?_
   try simp only[Q] at h1p
   exact jnb rfl
   try simp only[Q] at h1p
   exact jnb rfl
   refine WRest.done ?_
   refine tv ?_
   refine sq (fun h2 h2p h2s=>?_) fun h2 h2p h2s=>?_
   try simp only[Q] at h2p
   refine rn [(950,some (.box [.d (.i (c+1))]))] (r2 rfl rfl) (.tup (.cons (.nild ?_) (.cons (.eqd ?_) .nil))) ⟨rfl,rfl⟩ (SubO.get ⟨.inr ?_,⟨.inl rfl,trivial⟩⟩) (zaF rfl)
   rotate_left 3
   try simp only[Q] at h2p
   exact absurd h2 (by simp)
   all_goals (first|((rfl);done)|(rfl))
  have hsh:=ziN hw (p:=p) ht
  by_cases hop:okP w ⟨a,k⟩ p=true
  ·have hok':=hok
   rw[Pat.ok_iff] at hok
   have hop':=hop
   unfold okP at hop'
   simp only[Bool.and_eq_true,decide_eq_true_eq] at hop'
   obtain⟨ho,hl⟩:=hop'
   have hin:=zf5 hw ht ho
   have hlen:=zgA hw ht (zb3 ho)
   have hst:zcv w ⟨a,k⟩ p=zaf w ⟨a,k⟩ p:=by unfold zcv;rw[if_neg (fun h=>h.2 (zb3 ho h.1))]
   rw[hst,hop] at hsh
   have e:zaM w (n+1) ⟨a,k⟩ p c=finV (zbk (zaM w n) (decide (p.op=5)) (zaf w ⟨a,k⟩ p) p.kids 0 (zaT ⟨a,k⟩ p) (c+1)):=by
    conv=>lhs;unfold zaM
    rw[if_neg h60,if_pos hop]
   have hnr:InR (zaT ⟨a,k⟩ p):=fun v hv=>by
    unfold zaT at hv
    split at hv
    ·rename_i hop
     simp only[List.mem_cons,List.not_mem_nil,or_false] at hv
     subst hv
     exact zpq ho hop
    ·simp at hv
   have hnl:=zsH ⟨a,k⟩ p
   rw[e]
   refine bd Tryz.f183 114 [14,108] [2,8,17] fun w0 F0 own kept hk=>?_
   refine bx 3006 ?_
   refine bx 3007 ?_
   refine evs [14,108] [] ?_
   refine ar ?_
   refine so ty3 ?_
   refine tv ?_
   refine CWp.regionJ ?_
   refine WRest.join 8 [(34,.d (.bool (false)))] [27,28,29,30,31,32,33] ?_ ?_
   refine evs [14,108] [] ?_
   refine sq (fun h1 h1p h1s=>?_) fun h1 h1p h1s=>?_
   try simp only[Q,Pat.cs_len] at h1p
   exact jnb rfl
   try simp only[Q,Pat.cs_len] at h1p
   exact jnb rfl
   refine WRest.done ?_
   refine tv ?_
   refine sq (fun h2 h2p h2s=>?_) fun h2 h2p h2s=>?_
   try simp only[Q,Pat.cs_len] at h2p
   exact absurd h2 (by simp)
   try simp only[Q,Pat.cs_len] at h2p
   refine wc zoM (hsh) rfl rfl ?_
   refine evs [14,108] [] ?_
   refine sq (fun h3 h3p h3s=>?_) fun h3 h3p h3s=>?_
   try simp only[Q,Pat.cs_len] at h3p
   exact absurd h3 (by simp)
   try simp only[Q,Pat.cs_len] at h3p
   refine Walk.assignNil 5 3 .none rfl rfl ?_
   refine tv ?_
   refine CWp.regionJ ?_
   refine WRest.join 8 [(51,.d (.bool (decide (p.op=2∨p.op=6))))] [44,45,46,47,48,49,50] ?_ ?_
   refine evs [14,108] [] ?_
   refine sq (fun h4 h4p h4s=>?_) fun h4 h4p h4s=>?_
   try simp only[Q,Pat.cs_len] at h4p
   exact jnb rfl
   try simp only[Q,Pat.cs_len] at h4p
   exact jnb rfl
   refine WRest.done ?_
   refine tv ?_
   refine sq (fun h5 h5p h5s=>?_) fun h5 h5p h5s=>?_
   try simp only[Q,Pat.cs_len] at h5p
   refine bu [0,1] [_,_] zrN ?_
   refine si [0] [_] zdi zoC ?_
   refine ap zdi zoD rfl rfl rfl (by simp) (by(simp;done)) ?_
   refine asg ?_
   refine tv ?_
   refine CWp.loopX (ι:=Nat×List Vt×Int) hk (fun z=>[(62,.d (.i (z.1:Int))),(14,.gl 5 (z.2.1.map Vt.c))]) [10,11,15,16,17,18,63,64,65,66,67,68,69,70,71,72,73,74,75,76,77,78,79,80,81,82,83,84,85,86,87,88,89,90,91,92,93,94,95,96,97,98] (fun z=>[(950,some (.box [.d (.i z.2.2)])),(5,some (.tok ((z.2.1.map Vt.c)).length 3))]) (fun z=>GoodS w n ⟨a,k⟩ p c z) (fun z=>p.kids.length-z.1) (0,zaT ⟨a,k⟩ p,c+1) ⟨by simp,by simp,by dsimp only;omega,by dsimp only;omega,by dsimp only;omega,by dsimp only;omega,hnr⟩ ⟨⟨_,rfl,LeA.eqi ?_⟩,⟨⟨_,rfl,LeA.glg ?_⟩,trivial⟩⟩ ⟨?_,⟨zab ?_,trivial⟩⟩ (fun x=>rfl) (fun z hg1=>?_)
   iterate 2 focus (first|rfl|(simp_all[zaT];done))
   focus (first|rfl|(simp[getH];done))
   focus (first|rfl|(simp_all[zaT];done))
   obtain⟨s1,_,s3,s4,s5,s6,s7⟩:=id hg1
   refine evc [14,108] [2,8,17] ?_
   refine sq (fun h6 h6p h6s=>?_) fun h6 h6p h6s=>?_
   try simp only[Q,Pat.cs_len] at h6p
   refine Walk.idx sl26 .none rfl rfl rfl rfl (zaH (by omega)) rfl ?_
   refine evs [14,108] [] ?_
   refine ab 3016 tz28 ?_
   refine evs [14,108] [] ?_
   refine so ty28 ?_
   refine tv ?_
   refine Walk.idx za0 .none rfl rfl rfl rfl (zau (by omega)) rfl ?_
   refine evd [14,108] [] ?_
   refine ar ?_
   refine wc zoN (zdJ hw n (a:=(nth (zaf w ⟨a,k⟩ p) z.1).data) (k:=(nth (zaf w ⟨a,k⟩ p) z.1).index) (c:=z.2.2) (p:=nth p.kids z.1) (by omega) (by omega) (hin _ (zae (by omega))) (Pats.ok_mem hok.2 _ (zae (by omega))) (by omega) (by omega)) rfl rfl ?_
   refine evd [14,108] [] ?_
   refine dr ?_
   refine sq (fun h7 h7p h7s=>?_) fun h7 h7p h7s=>?_
   try simp only[Q,Pat.cs_len] at h7p
   refine rn [(950,some (.box [.d (.i (finV (zbk (zaM w n) (decide (p.op=5)) (zaf w ⟨a,k⟩ p) p.kids 0 (zaT ⟨a,k⟩ p) (c+1))).2)]))] (r2 rfl rfl) (.tup (.cons (.nild ?_) (.cons (.eqd ?_) .nil))) ⟨rfl,rfl⟩ (SubO.get ⟨.inr ?_,⟨.inl rfl,trivial⟩⟩) (zaF rfl)
   rotate_left 3
   try simp only[Q,Pat.cs_len] at h7p
   refine CWp.regionJ ?_
   refine WRest.join 7 [(93,.d (.bool (decide (p.op=5∧z.1=1))))] [87,88,89,90,91,92] ?_ ?_
   refine evs [14,108] [] ?_
   refine sq (fun h8 h8p h8s=>?_) fun h8 h8p h8s=>?_
   try simp only[Q,Pat.cs_len] at h8p
   exact jnb rfl
   try simp only[Q,Pat.cs_len] at h8p
   exact jnb rfl
   refine WRest.done ?_
   refine evs [14,108] [] ?_
   refine sq (fun h9 h9p h9s=>?_) fun h9 h9p h9s=>?_
   try simp only[Q,Pat.cs_len] at h9p
   refine Walk.call (cr:=[]) zsg (zgV (by omega) (by have hz:=(zfz w n ⟨(nth (zaf w ⟨a,k⟩ p) z.1).data,(nth (zaf w ⟨a,k⟩ p) z.1).index⟩ (nth p.kids z.1) z.2.2).2;omega)) rfl .none rfl rfl (.cons (.gl _ _) (.cons (.refl _) .nil)) trivial rfl rfl rfl ?_
   refine evs [14,108] [] ?_
   refine sq (fun h10 h10p h10s=>?_) fun h10 h10p h10s=>?_
   try simp only[Q,Pat.cs_len] at h10p
   refine rn [(950,some (.box [.d (.i (finV (zbk (zaM w n) (decide (p.op=5)) (zaf w ⟨a,k⟩ p) p.kids 0 (zaT ⟨a,k⟩ p) (c+1))).2)]))] (r2 rfl rfl) (.tup (.cons (.nild ?_) (.cons (.eqd ?_) .nil))) ⟨rfl,rfl⟩ (SubO.get ⟨.inr ?_,⟨.inl rfl,trivial⟩⟩) (zaF rfl)
   rotate_left 3
   try simp only[Q,Pat.cs_len] at h10p
   refine ar ?_
   refine Exists.intro ((zci w n ⟨a,k⟩ p z)) ⟨(hg1.next hl (by omega) (by simp_all) (fun ho=>by simp_all)),(by unfold zci;dsimp only;omega),sx ⟨⟨_,rfl,LeA.eqi ?_⟩,⟨⟨_,rfl,LeA.glg ?_⟩,trivial⟩⟩ ⟨?_,⟨zab ?_,trivial⟩⟩⟩
   iterate 2 focus (first|rfl|(simp_all[zaT];done))
   focus (first|rfl|(simp[getH];done))
   focus (first|rfl|(simp_all[zaT];done))
   try simp only[Q,Pat.cs_len] at h9p
   refine ap zdi zoD rfl rfl rfl (by simp) (by first|(simp;done)|(have hz:=(zfz w n ⟨(nth (zaf w ⟨a,k⟩ p) z.1).data,(nth (zaf w ⟨a,k⟩ p) z.1).index⟩ (nth p.kids z.1) z.2.2).2;simp;omega)) ?_
   refine asg ?_
   refine tv ?_
   refine ar ?_
   refine Exists.intro ((zci w n ⟨a,k⟩ p z)) ⟨(hg1.next hl (by omega) (by simp_all) (fun ho=>by simp_all)),(by unfold zci;dsimp only;omega),sx ⟨⟨_,rfl,LeA.eqi ?_⟩,⟨⟨_,rfl,LeA.glg ?_⟩,trivial⟩⟩ ⟨?_,⟨zab ?_,trivial⟩⟩⟩
   iterate 2 focus (first|rfl|(simp_all[zaT];done)|(unfold zci;dsimp only;rw[if_neg (by simp_all)];simp;done))
   focus (first|rfl|(simp[getH];done))
   focus (first|rfl|(simp_all[zaT];done)|(unfold zci;dsimp only;rw[if_neg (by simp_all)];simp;done))
   try simp only[Q,Pat.cs_len] at h6p
   refine ab 3019 zuv ?_
   refine tv ?_
   refine CWp.loopX (ι:=List (Vt)×List (Vt)) hk (fun x=>[(101,.d (.i (x.1.length:Int)))]) [10,11,21,102,103,104,105,106,107,108,109,110,111,112] (fun x=>[(3019,some (.box (metA (x.1.map Vt.var))))]) (fun x=>x.1++x.2=z.2.1∧(x.1.map Vt.var).Nodup) (fun x=>x.2.length) ([],z.2.1) ⟨by simp,by simp⟩ ⟨⟨_,rfl,LeA.eqi ?_⟩,trivial⟩ ⟨?_,trivial⟩ (fun x=>rfl) (fun x hg2=>?_)
   focus (first|rfl|omega)
   focus (first|rfl|(simp[getH];done))
   obtain⟨pre,rest⟩:=x
   dsimp only at hg2 ⊢
   refine evc [14,108] [2,8,17] ?_
   refine sq (fun h11 h11p h11s=>?_) fun h11 h11p h11s=>?_
   try simp only[Q,Pat.cs_len] at h11p
   rcases rest with _|⟨y,rest⟩
   ·exfalso;simp_all
   have hy:=s7 y (by rw[←hg2.1];simp)
   refine Walk.idxG zdi .none rfl rfl rfl rfl (zaK hg2.1) rfl ?_
   refine evs [14,108] [] ?_
   refine ab 3021 zoC ?_
   refine so zuu ?_
   refine tv ?_
   refine Walk.idxA (i:=y.var.toNat) zoo .none rfl rfl rfl (Int.toNat_of_nonneg hy.1).symm (by omega) ?_
   refine Walk.loadB ty4 .none rfl rfl rfl ((by simpa using zpk hy.1 hy.2)) ?_
   refine tv ?_
   refine sq (fun h12 h12p h12s=>?_) fun h12 h12p h12s=>?_
   try simp only[Q,Pat.cs_len] at h12p
   refine rn [(950,some (.box [.d (.i (finV (zbk (zaM w n) (decide (p.op=5)) (zaf w ⟨a,k⟩ p) p.kids 0 (zaT ⟨a,k⟩ p) (c+1))).2)]))] (r2 rfl rfl) (.tup (.cons (.nild ?_) (.cons (.eqd ?_) .nil))) ⟨rfl,rfl⟩ (SubO.get ⟨.inr ?_,⟨.inl rfl,trivial⟩⟩) (zaF rfl)
   rotate_left 3
   try simp only[Q,Pat.cs_len] at h12p
   refine Walk.idxA (i:=y.var.toNat) zoo .none rfl rfl rfl (Int.toNat_of_nonneg hy.1).symm (by omega) ?_
   refine Walk.store ty4 .none rfl rfl rfl rfl rfl rfl (by simp) ((by simpa using zpl hy.1 hy.2)) ?_
   refine tv ?_
   refine ar ?_
   refine Exists.intro ((pre++[y],rest)) ⟨⟨(by have hz:=hg2.1;rw[←hz];simp),(zl3 hg2.2 (by simp_all))⟩,(by simp),sx ⟨⟨_,rfl,LeA.eqi ?_⟩,trivial⟩ ⟨?_,trivial⟩⟩
   focus (first|rfl|(simp;done)|omega)
   focus (first|rfl|(simp[getH];done))
   try simp only[Q,Pat.cs_len] at h11p
   have hrest:rest=[]:=by
    rcases rest with _|⟨a,b⟩
    ·rfl
    ·exfalso;have hz:=congrArg List.length (hg2.1);simp only[List.length_append,List.length_cons,List.length_map] at hz;omega
   subst hrest
   refine rn [(950,some (.box [.d (.i (finV (zbk (zaM w n) (decide (p.op=5)) (zaf w ⟨a,k⟩ p) p.kids 0 (zaT ⟨a,k⟩ p) (c+1))).2)]))] (r2 rfl rfl) (.tup (.cons (.gld ?_) (.cons (.eqd ?_) .nil))) ⟨rfl,rfl⟩ (SubO.get ⟨.inr ?_,⟨.inl rfl,trivial⟩⟩) (zaF rfl)
   rotate_left 3
   try simp only[Q,Pat.cs_len] at h5p
   refine CWp.loopX (ι:=Nat×List Vt×Int) hk (fun z=>[(62,.d (.i (z.1:Int))),(14,.gl 5 (z.2.1.map Vt.c))]) [10,11,15,16,17,18,63,64,65,66,67,68,69,70,71,72,73,74,75,76,77,78,79,80,81,82,83,84,85,86,87,88,89,90,91,92,93,94,95,96,97,98] (fun z=>[(950,some (.box [.d (.i z.2.2)])),(5,some (.tok ((z.2.1.map Vt.c)).length 3))]) (fun z=>GoodS w n ⟨a,k⟩ p c z) (fun z=>p.kids.length-z.1) (0,zaT ⟨a,k⟩ p,c+1) ⟨by simp,by simp,by dsimp only;omega,by dsimp only;omega,by dsimp only;omega,by dsimp only;omega,hnr⟩ ⟨⟨_,rfl,LeA.eqi ?_⟩,⟨⟨_,rfl,LeA.glg ?_⟩,trivial⟩⟩ ⟨?_,⟨zab ?_,trivial⟩⟩ (fun x=>rfl) (fun z hg1=>?_)
   iterate 2 focus (first|rfl|(simp_all[zaT];done))
   focus (first|rfl|(simp[getH];done))
   focus (first|rfl|(simp_all[zaT];done))
   obtain⟨s1,_,s3,s4,s5,s6,s7⟩:=id hg1
   refine evc [14,108] [2,8,17] ?_
   refine sq (fun h13 h13p h13s=>?_) fun h13 h13p h13s=>?_
   try simp only[Q,Pat.cs_len] at h13p
   refine Walk.idx sl26 .none rfl rfl rfl rfl (zaH (by omega)) rfl ?_
   refine evs [14,108] [] ?_
   refine ab 3016 tz28 ?_
   refine evs [14,108] [] ?_
   refine so ty28 ?_
   refine tv ?_
   refine Walk.idx za0 .none rfl rfl rfl rfl (zau (by omega)) rfl ?_
   refine evd [14,108] [] ?_
   refine ar ?_
   refine wc zoN (zdJ hw n (a:=(nth (zaf w ⟨a,k⟩ p) z.1).data) (k:=(nth (zaf w ⟨a,k⟩ p) z.1).index) (c:=z.2.2) (p:=nth p.kids z.1) (by omega) (by omega) (hin _ (zae (by omega))) (Pats.ok_mem hok.2 _ (zae (by omega))) (by omega) (by omega)) rfl rfl ?_
   refine evd [14,108] [] ?_
   refine dr ?_
   refine sq (fun h14 h14p h14s=>?_) fun h14 h14p h14s=>?_
   try simp only[Q,Pat.cs_len] at h14p
   refine rn [(950,some (.box [.d (.i (finV (zbk (zaM w n) (decide (p.op=5)) (zaf w ⟨a,k⟩ p) p.kids 0 (zaT ⟨a,k⟩ p) (c+1))).2)]))] (r2 rfl rfl) (.tup (.cons (.nild ?_) (.cons (.eqd ?_) .nil))) ⟨rfl,rfl⟩ (SubO.get ⟨.inr ?_,⟨.inl rfl,trivial⟩⟩) (zaF rfl)
   rotate_left 3
   try simp only[Q,Pat.cs_len] at h14p
   refine CWp.regionJ ?_
   refine WRest.join 7 [(93,.d (.bool (decide (p.op=5∧z.1=1))))] [87,88,89,90,91,92] ?_ ?_
   refine evs [14,108] [] ?_
   refine sq (fun h15 h15p h15s=>?_) fun h15 h15p h15s=>?_
   try simp only[Q,Pat.cs_len] at h15p
   exact jnb rfl
   try simp only[Q,Pat.cs_len] at h15p
   exact jnb rfl
   refine WRest.done ?_
   refine evs [14,108] [] ?_
   refine sq (fun h16 h16p h16s=>?_) fun h16 h16p h16s=>?_
   try simp only[Q,Pat.cs_len] at h16p
   refine Walk.call (cr:=[]) zsg (zgV (by omega) (by have hz:=(zfz w n ⟨(nth (zaf w ⟨a,k⟩ p) z.1).data,(nth (zaf w ⟨a,k⟩ p) z.1).index⟩ (nth p.kids z.1) z.2.2).2;omega)) rfl .none rfl rfl (.cons (.gl _ _) (.cons (.refl _) .nil)) trivial rfl rfl rfl ?_
   refine evs [14,108] [] ?_
   refine sq (fun h17 h17p h17s=>?_) fun h17 h17p h17s=>?_
   try simp only[Q,Pat.cs_len] at h17p
   refine rn [(950,some (.box [.d (.i (finV (zbk (zaM w n) (decide (p.op=5)) (zaf w ⟨a,k⟩ p) p.kids 0 (zaT ⟨a,k⟩ p) (c+1))).2)]))] (r2 rfl rfl) (.tup (.cons (.nild ?_) (.cons (.eqd ?_) .nil))) ⟨rfl,rfl⟩ (SubO.get ⟨.inr ?_,⟨.inl rfl,trivial⟩⟩) (zaF rfl)
   rotate_left 3
   try simp only[Q,Pat.cs_len] at h17p
   refine ar ?_
   refine Exists.intro ((zci w n ⟨a,k⟩ p z)) ⟨(hg1.next hl (by omega) (by simp_all) (fun ho=>by simp_all)),(by unfold zci;dsimp only;omega),sx ⟨⟨_,rfl,LeA.eqi ?_⟩,⟨⟨_,rfl,LeA.glg ?_⟩,trivial⟩⟩ ⟨?_,⟨zab ?_,trivial⟩⟩⟩
   iterate 2 focus (first|rfl|(simp_all[zaT];done)|(unfold zci;dsimp only;rw[if_pos (by simp_all)];done))
   focus (first|rfl|(simp[getH];done))
   focus (first|rfl|(simp_all[zaT];done)|(unfold zci;dsimp only;rw[if_pos (by simp_all)];done))
   try simp only[Q,Pat.cs_len] at h16p
   refine ap zdi zoD rfl rfl rfl (by simp) (by first|(simp;done)|(have hz:=(zfz w n ⟨(nth (zaf w ⟨a,k⟩ p) z.1).data,(nth (zaf w ⟨a,k⟩ p) z.1).index⟩ (nth p.kids z.1) z.2.2).2;simp;omega)) ?_
   refine asg ?_
   refine tv ?_
   refine ar ?_
   refine Exists.intro ((zci w n ⟨a,k⟩ p z)) ⟨(hg1.next hl (by omega) (by simp_all) (fun ho=>by simp_all)),(by unfold zci;dsimp only;omega),sx ⟨⟨_,rfl,LeA.eqi ?_⟩,⟨⟨_,rfl,LeA.glg ?_⟩,trivial⟩⟩ ⟨?_,⟨zab ?_,trivial⟩⟩⟩
   iterate 2 focus (first|rfl|(simp_all[zaT];done)|(unfold zci;dsimp only;rw[if_neg (by simp_all)];simp;done))
   focus (first|rfl|(simp[getH];done))
   focus (first|rfl|(simp_all[zaT];done)|(unfold zci;dsimp only;rw[if_neg (by simp_all)];simp;done))
   try simp only[Q,Pat.cs_len] at h13p
   refine ab 3019 zuv ?_
   refine tv ?_
   refine CWp.loopX (ι:=List (Vt)×List (Vt)) hk (fun x=>[(101,.d (.i (x.1.length:Int)))]) [10,11,21,102,103,104,105,106,107,108,109,110,111,112] (fun x=>[(3019,some (.box (metA (x.1.map Vt.var))))]) (fun x=>x.1++x.2=z.2.1∧(x.1.map Vt.var).Nodup) (fun x=>x.2.length) ([],z.2.1) ⟨by simp,by simp⟩ ⟨⟨_,rfl,LeA.eqi ?_⟩,trivial⟩ ⟨?_,trivial⟩ (fun x=>rfl) (fun x hg2=>?_)
   focus (first|rfl|omega)
   focus (first|rfl|(simp[getH];done))
   obtain⟨pre,rest⟩:=x
   dsimp only at hg2 ⊢
   refine evc [14,108] [2,8,17] ?_
   refine sq (fun h18 h18p h18s=>?_) fun h18 h18p h18s=>?_
   try simp only[Q,Pat.cs_len] at h18p
   rcases rest with _|⟨y,rest⟩
   ·exfalso;simp_all
   have hy:=s7 y (by rw[←hg2.1];simp)
   refine Walk.idxG zdi .none rfl rfl rfl rfl (zaK hg2.1) rfl ?_
   refine evs [14,108] [] ?_
   refine ab 3021 zoC ?_
   refine so zuu ?_
   refine tv ?_
   refine Walk.idxA (i:=y.var.toNat) zoo .none rfl rfl rfl (Int.toNat_of_nonneg hy.1).symm (by omega) ?_
   refine Walk.loadB ty4 .none rfl rfl rfl ((by simpa using zpk hy.1 hy.2)) ?_
   refine tv ?_
   refine sq (fun h19 h19p h19s=>?_) fun h19 h19p h19s=>?_
   try simp only[Q,Pat.cs_len] at h19p
   refine rn [(950,some (.box [.d (.i (finV (zbk (zaM w n) (decide (p.op=5)) (zaf w ⟨a,k⟩ p) p.kids 0 (zaT ⟨a,k⟩ p) (c+1))).2)]))] (r2 rfl rfl) (.tup (.cons (.nild ?_) (.cons (.eqd ?_) .nil))) ⟨rfl,rfl⟩ (SubO.get ⟨.inr ?_,⟨.inl rfl,trivial⟩⟩) (zaF rfl)
   rotate_left 3
   try simp only[Q,Pat.cs_len] at h19p
   refine Walk.idxA (i:=y.var.toNat) zoo .none rfl rfl rfl (Int.toNat_of_nonneg hy.1).symm (by omega) ?_
   refine Walk.store ty4 .none rfl rfl rfl rfl rfl rfl (by simp) ((by simpa using zpl hy.1 hy.2)) ?_
   refine tv ?_
   refine ar ?_
   refine Exists.intro ((pre++[y],rest)) ⟨⟨(by have hz:=hg2.1;rw[←hz];simp),(zl3 hg2.2 (by simp_all))⟩,(by simp),sx ⟨⟨_,rfl,LeA.eqi ?_⟩,trivial⟩ ⟨?_,trivial⟩⟩
   focus (first|rfl|(simp;done)|omega)
   focus (first|rfl|(simp[getH];done))
   try simp only[Q,Pat.cs_len] at h18p
   have hrest:rest=[]:=by
    rcases rest with _|⟨a,b⟩
    ·rfl
    ·exfalso;have hz:=congrArg List.length (hg2.1);simp only[List.length_append,List.length_cons,List.length_map] at hz;omega
   subst hrest
   refine rn [(950,some (.box [.d (.i (finV (zbk (zaM w n) (decide (p.op=5)) (zaf w ⟨a,k⟩ p) p.kids 0 (zaT ⟨a,k⟩ p) (c+1))).2)]))] (r2 rfl rfl) (.tup (.cons (.gld ?_) (.cons (.eqd ?_) .nil))) ⟨rfl,rfl⟩ (SubO.get ⟨.inr ?_,⟨.inl rfl,trivial⟩⟩) (zaF rfl)
   rotate_left 3
   all_goals (((first|(rw[hg1.none hl (by omega) (by assumption)];first|done|rfl)|(rw[hg1.bad hl (by omega) (by assumption) (by assumption) (by assumption)];first|done|rfl)|(rw[hg1.fin hl (by omega),if_neg (by rw[zsI hg2.1 (by assumption)];simp)];first|done|rfl)|(rw[hg1.fin hl (by omega),if_pos (by have hz:=hg2.1;rw[List.append_nil] at hz;rw[←hz];exact decide_eq_true hg2.2)];first|done|rfl));done))
  ·have hopf:okP w ⟨a,k⟩ p=false:=by simpa using hop
   have e:zaM w (n+1) ⟨a,k⟩ p c=(none,c+1):=by unfold zaM;rw[if_neg h60,if_neg hop]
   rw[e]
   rw[hopf] at hsh
   refine bd Tryz.f183 114 [] [2] fun w0 F0 own kept hk=>?_
   refine bx 3006 ?_
   refine bx 3007 ?_
   refine ev ?_
   refine ar ?_
   refine so ty3 ?_
   refine tv ?_
   refine CWp.regionJ ?_
   refine WRest.join 8 [(34,.d (.bool (false)))] [27,28,29,30,31,32,33] ?_ ?_
   refine ev ?_
   refine sq (fun h1 h1p h1s=>?_) fun h1 h1p h1s=>?_
   try simp only[Q] at h1p
   exact jnb rfl
   try simp only[Q] at h1p
   exact jnb rfl
   refine WRest.done ?_
   refine tv ?_
   refine sq (fun h2 h2p h2s=>?_) fun h2 h2p h2s=>?_
   try simp only[Q] at h2p
   exact absurd h2 (by simp)
   try simp only[Q] at h2p
   refine wc zoM (hsh) rfl rfl ?_
   refine ev ?_
   refine sq (fun h3 h3p h3s=>?_) fun h3 h3p h3s=>?_
   try simp only[Q] at h3p
   refine rn [(950,some (.box [.d (.i (c+1))]))] (r2 rfl rfl) (.tup (.cons (.nild ?_) (.cons (.eqd ?_) .nil))) ⟨rfl,rfl⟩ (SubO.get ⟨.inr ?_,⟨.inl rfl,trivial⟩⟩) (zaF rfl)
   rotate_left 3
   try simp only[Q] at h3p
   exact absurd h3 (by simp)
   all_goals (first|((rfl);done)|(rfl))
end Go.Proofs.YtpgdedpljcedpaaGreat
namespace Go.Proofs.YtpgdedpljcedpaaGreat
open Go
set_option linter.unusedSimpArgs false
set_option linter.unusedVariables false
set_option maxRecDepth 100000
set_option maxHeartbeats 2000000
abbrev dPtr (f:Nat→Nat):D:= .ptr (tabD 16 f) 0
abbrev sPtr (w:List Data) (f:Nat→Nat):D:= .ptr [zam w,dPtr f] 0
theorem zkn {n:Nat}{f:Nat→Nat}{a k:Int} (h:InS n ⟨a,k⟩) (hn:n≤16):
  FnD Tryz.prog 128 [.ref 71 0,.agg [.d (.i a),.d (.i k)]] [(71,some (.box (tabC 16 f)))] (.d (.i (dv f ⟨a,k⟩))) []:=by
 have hs:=h.facts
 refine bd Tryz.f128 17 [16] [] fun w0 F0 own kept hk=>?_
 refine Walk.box (id:=3003) .none rfl rfl rfl (by first|rfl|(simp only[zaA,occH,occE,Res.ids,List.cons_append,List.nil_append,AV.idsL,AV.ids,zal,zak,zav,zaO,List.map_cons,List.map_nil,upC,zaB];rfl)) (by first|rfl|(simp only[zaA,occH,occE,Res.ids,List.cons_append,List.nil_append,AV.idsL,AV.ids,zal,zak,zav,zaO,List.map_cons,List.map_nil,upC,zaB];rfl)) (by first|rfl|(simp only[zaA,occH,occE,Res.ids,List.cons_append,List.nil_append,AV.idsL,AV.ids,zal,zak,zav,zaO,List.map_cons,List.map_nil,upC,zaB];rfl)) (by first|rfl|(simp only[zaA,occH,occE,Res.ids,List.cons_append,List.nil_append,AV.idsL,AV.ids,zal,zak,zav,zaO,List.map_cons,List.map_nil,upC,zaB];rfl)) ?_
 refine evs [16] [] ?_
 refine sq (fun h1 h1p h1s=>?_) fun h1 h1p h1s=>?_
 try simp only[Q] at h1p
 refine rn [] (r1 rfl) (.eqd ?_) ⟨rfl,rfl⟩ (SubH.get ⟨rfl,trivial⟩) (fun _ h=>h)
 rotate_left
 try simp only[Q] at h1p
 refine Walk.idxA (i:=a.toNat) zon .none rfl rfl rfl (by have:=hs h1p;omega) (by have:=hs h1p;omega) ?_
 refine Walk.idxA (i:=k.toNat) zrd .none rfl rfl rfl (by have:=hs h1p;omega) (by have:=hs h1p;omega) ?_
 refine Walk.loadB ty3 .none rfl rfl rfl ((zkb (s:=zcj ⟨a,k⟩) (by have:=hs h1p;omega) (by have:=hs h1p;omega))) ?_
 refine evd [16] [] ?_
 refine dr ?_
 refine rn [] (r1 rfl) (.eqd ?_) ⟨rfl,rfl⟩ (SubH.get ⟨rfl,trivial⟩) (fun _ h=>h)
 rotate_left
 all_goals (first|(rw[zlu (by assumption)];rfl)|(rw[zlt (by assumption)]))
theorem zlI {n:Nat}{f:Nat→Nat}{a k:Int} (h:InS n ⟨a,k⟩) (hn:n≤16):
  FnD Tryz.prog 128 [.d (dPtr f),.agg [.d (.i a),.d (.i k)]] [] (.d (.i (dv f ⟨a,k⟩))) []:=by
 have hs:=h.facts
 refine bd Tryz.f128 17 [16] [] fun w0 F0 own kept hk=>?_
 refine bx 3003 ?_
 refine evs [16] [] ?_
 refine sq (fun h1 h1p h1s=>?_) fun h1 h1p h1s=>?_
 try simp only[Q] at h1p
 refine rn0 (r1 rfl) (.eqd ?_)
 rotate_left
 try simp only[Q] at h1p
 refine Walk.idxAP (i:=a.toNat) zon .none rfl rfl rfl (by have:=hs h1p;omega) (by have:=hs h1p;omega) ?_
 refine Walk.idxAP (i:=k.toNat) zrd .none rfl rfl rfl (by have:=hs h1p;omega) (by have:=hs h1p;omega) ?_
 refine Walk.loadP ty3 .none rfl rfl (ztS (s:=zcj ⟨a,k⟩) (by have:=hs h1p;omega) (by have:=hs h1p;omega)) ?_
 refine evd [16] [] ?_
 refine dr ?_
 refine rn0 (r1 rfl) (.eqd ?_)
 rotate_left
 all_goals (first|(rw[zlu (by assumption)];rfl)|(rw[zlt (by assumption)]))
theorem zlH {w:List Data} (hw:WT w){n:Nat}{f:Nat→Nat}{a k c:Int} (ht:TyIn w.length ⟨a,k⟩) (hc:c∈zah w ⟨a,k⟩) (hn:n≤16) (hb:∀s,f s≤100000) (hin:∀u∈zaa w ⟨a,k⟩ c,InS n u):
  FnD Tryz.prog 145 [.ref 71 0,.d (zam w),.agg [.d (.i a),.d (.i k)],.d (.i c)] [(71,some (.box (tabC 16 f)))] (.d (.i (most w f ⟨a,k⟩ c))) []:=by
 have hl:=zgM hw ht hc
 have hd:=zow hb (by omega)
 refine bd Tryz.f145 33 [] [] fun w0 F0 own kept hk=>?_
 refine Walk.box (id:=3006) .none rfl rfl rfl (by first|rfl|(simp only[zaA,occH,occE,Res.ids,List.cons_append,List.nil_append,AV.idsL,AV.ids,zal,zak,zav,zaO,List.map_cons,List.map_nil,upC,zaB];rfl)) (by first|rfl|(simp only[zaA,occH,occE,Res.ids,List.cons_append,List.nil_append,AV.idsL,AV.ids,zal,zak,zav,zaO,List.map_cons,List.map_nil,upC,zaB];rfl)) (by first|rfl|(simp only[zaA,occH,occE,Res.ids,List.cons_append,List.nil_append,AV.idsL,AV.ids,zal,zak,zav,zaO,List.map_cons,List.map_nil,upC,zaB];rfl)) (by first|rfl|(simp only[zaA,occH,occE,Res.ids,List.cons_append,List.nil_append,AV.idsL,AV.ids,zal,zak,zav,zaO,List.map_cons,List.map_nil,upC,zaB];rfl)) ?_
 refine ev ?_
 refine Walk.call (cr:=[]) zi5 (zc1 hw ht hc) rfl .none rfl rfl (LeL.refl _) trivial rfl (by first|rfl|(simp only[zbf,List.all_cons,List.all_nil,zcg,zbU,AV.idsL,AV.ids,zal,zak,List.map_cons,List.map_nil,zaB];rfl)) (by first|rfl|(simp only[zaA,occH,occE,Res.ids,List.cons_append,List.nil_append,AV.idsL,AV.ids,zal,zak,zav,zaO,List.map_cons,List.map_nil,upC,zaB];rfl)) ?_
 refine ev ?_
 refine CWp.loopX (ι:=List (Ty)×List (Ty)×(Nat)) hk (fun x=>[(18,.d (.i (x.1.length:Int))),(9,.d (.i (x.2.2:Int)))]) [8,11,12,19,20,21,22,23,24,25,26,27,28,29,30] (fun x=>[]) (fun x=>x.1++x.2.1=zaa w ⟨a,k⟩ c∧x.2.2≤100000∧zbq f x.2.2 x.2.1=zbq f 0 (zaa w ⟨a,k⟩ c)) (fun x=>x.2.1.length) ([],zaa w ⟨a,k⟩ c,0) ⟨by simp,by simp,rfl⟩ ⟨⟨_,rfl,LeA.eqi ?_⟩,⟨⟨_,rfl,LeA.eqi ?_⟩,trivial⟩⟩ trivial (fun x=>rfl) (fun x hg1=>?_)
 iterate 2 focus (first|rfl|(simp;done))
 obtain⟨pre,rest,m⟩:=x
 dsimp only at hg1 ⊢
 refine evc [] [] ?_
 refine sq (fun h1 h1p h1s=>?_) fun h1 h1p h1s=>?_
 try simp only[Q] at h1p
 rcases rest with _|⟨y,rest⟩
 ·exfalso;simp_all
 have hdy:=hd y;have hye:dv f ⟨y.data,y.index⟩=dv f y:=rfl
 refine Walk.idx za0 .none rfl rfl rfl rfl (zaK hg1.1) rfl ?_
 refine ev ?_
 refine Walk.alloc (id:=3011) tz25 rfl .none rfl (by first|rfl|(simp only[zaA,occH,occE,Res.ids,List.cons_append,List.nil_append,AV.idsL,AV.ids,zal,zak,zav,zaO,List.map_cons,List.map_nil,upC,zaB];rfl)) (by first|rfl|(simp only[zaA,occH,occE,Res.ids,List.cons_append,List.nil_append,AV.idsL,AV.ids,zal,zak,zav,zaO,List.map_cons,List.map_nil,upC,zaB];rfl)) (by first|rfl|(simp only[zaA,occH,occE,Res.ids,List.cons_append,List.nil_append,AV.idsL,AV.ids,zal,zak,zav,zaO,List.map_cons,List.map_nil,upC,zaB];rfl)) ?_
 refine so ty25 ?_
 refine tv ?_
 refine Walk.call (cr:=[]) zi6 (zkn (f:=f) (a:=y.data) (k:=y.index) (hin y (by rw[←hg1.1];simp)) hn) rfl .none rfl rfl (LeL.refl _) ⟨rfl,trivial⟩ rfl (by first|rfl|(simp only[zbf,List.all_cons,List.all_nil,zcg,zbU,AV.idsL,AV.ids,zal,zak,List.map_cons,List.map_nil,zaB];rfl)) (by first|rfl|(simp only[zaA,occH,occE,Res.ids,List.cons_append,List.nil_append,AV.idsL,AV.ids,zal,zak,zav,zaO,List.map_cons,List.map_nil,upC,zaB];rfl)) ?_
 refine ev ?_
 refine sq (fun h2 h2p h2s=>?_) fun h2 h2p h2s=>?_
 try simp only[Q] at h2p
 refine rn [] (r1 rfl) (.eqd ?_) ⟨rfl,rfl⟩ (SubH.get ⟨rfl,trivial⟩) (fun _ h=>h)
 rotate_left
 try simp only[Q] at h2p
 refine Walk.maxI .none rfl rfl rfl ?_
 refine ev ?_
 refine ar ?_
 refine Exists.intro ((pre++[y],rest,max m (dv f y))) ⟨⟨(by have hz:=hg1.1;rw[←hz];simp),⟨(by have:=hd y;dsimp only;omega),(by rw[←hg1.2.2];simp only[zbq];rw[if_neg (by have:=hd y;omega)])⟩⟩,(by simp),sx ⟨⟨_,rfl,LeA.eqi ?_⟩,⟨⟨_,rfl,LeA.eqi ?_⟩,trivial⟩⟩ trivial⟩
 iterate 2 focus (first|rfl|(simp;done)|(dsimp only;omega))
 try simp only[Q] at h1p
 have hrest:rest=[]:=by
  rcases rest with _|⟨a,b⟩
  ·rfl
  ·exfalso;have hz:=congrArg List.length (hg1.1);simp only[List.length_append,List.length_cons,List.length_map] at hz;omega
 subst hrest
 refine ar ?_
 refine rn [] (r1 rfl) (.eqd ?_) ⟨rfl,rfl⟩ (SubH.get ⟨rfl,trivial⟩) (fun _ h=>h)
 rotate_left
 all_goals (refine congrArg D.i ?_;unfold most;rw[←hg1.2.2];first|(simp only[zbq];rw[if_pos (by omega)];rfl)|(simp only[zbq];omega))
theorem zg6 {i j:Nat} (h:j<4):tyS (i*4+j)=⟨(i:Int),(j:Int)⟩:=by
 unfold tyS
 rw[show(i*4+j) / 4=i by omega,show(i*4+j) % 4=j by omega]
theorem zqs {w:List Data}{k s:Nat}{pre:List Int}:Bet (zbb w k) (rowT w k s pre):=(zn0 _ _).trans (zmV _ _)
theorem zjQ {w:List Data}{g f:Nat→Nat}{s:Nat}{c:Int} (hB:Bet g f)
  (h:decide ((0:Int)<(most w f (tyS s) c:Int)∧((f s:Int)=0∨(most w f (tyS s) c:Int)<(f s:Int)))=true):Strict g (zby w s f c):=by
 rw[zdX h]
 rw[decide_eq_true_eq] at h
 refine⟨s,by unfold updF;rw[if_pos rfl];omega, ?_⟩
 unfold updF;rw[if_pos rfl]
 rcases Nat.eq_zero_or_pos (g s) with h0|h0
 ·exact .inl h0
 ·have:=hB s h0
  right;omega
theorem zlD {w:List Data} (hw:WT w){i j:Nat} (hi:i<w.length) (hj:j<4):FnD Tryz.prog 105 [.d (zam w),.agg [.d (.i (i:Int)),.d (.i (j:Int))]] [] (.d (zcb (za2 w (tyS (i*4+j))))) []:=by
 rw[←ziG,zg6 hj];exact zd9 hw (.inr ⟨i,rfl,hi⟩)
theorem zlJ {w:List Data}{f:Nat→Nat}{i j:Nat} (hi:i<w.length) (h4:w.length≤4) (hj:j<4):
  FnD Tryz.prog 128 [.ref 71 0,.agg [.d (.i (i:Int)),.d (.i (j:Int))]] [(71,some (.box (tabC 16 f)))] (.d (.i (f (i*4+j)))) []:=by
 have h:=zkn (n:=w.length*4) (f:=f) (a:=(i:Int)) (k:=(j:Int)) (.inr ⟨by simp only[zcj,Int.toNat_natCast];omega,by simp only[zcj,Int.toNat_natCast];exact zg6 hj⟩) (by omega)
 have e:zcj ⟨(i:Int),(j:Int)⟩=i*4+j:=by simp only[zcj,Int.toNat_natCast]
 rwa [zlt (by omega),e] at h
theorem zmQ {w:List Data} (hd:Dp w){f:Nat→Nat}{i j:Nat}{c:Int} (hi:i<w.length) (hj:j<4) (hc:c∈za2 w (tyS (i*4+j))) (hb:∀s,f s≤100000):
  FnD Tryz.prog 145 [.ref 71 0,.d (zam w),.agg [.d (.i (i:Int)),.d (.i (j:Int))],.d (.i c)] [(71,some (.box (tabC 16 f)))] (.d (.i (most w f (tyS (i*4+j)) c))) []:=by
 have h4:=hd.four
 have hcl:=hd.cl (i*4+j) (by omega) c hc
 rw[←ziG,zg6 hj] at hc
 rw[zg6 hj] at hcl ⊢
 exact zlH hd.wt (.inr ⟨i,rfl,hi⟩) hc (n:=w.length*4) (by omega) hb hcl
theorem zkO {w:List Data} (hd:Dp w):FnD Tryz.prog 91 [.d (zam w)] [] (.d (dPtr (zai w))) []:=by
 have hw:=hd.wt
 have hw4:=hd.four
 have hlw:((w.map Data.c).length:Int)=w.length:=by simp
 refine bd Tryz.f91 64 [] [16,20] fun w0 F0 own kept hk=>?_
 refine Walk.buildZ zwH zon .none rfl ?_
 refine Walk.box (id:=71) .none rfl rfl rfl (by first|rfl|(simp only[zaA,occH,occE,Res.ids,List.cons_append,List.nil_append,AV.idsL,AV.ids,zal,zak,zav,zaO,List.map_cons,List.map_nil,upC,zaB];rfl)) (by first|rfl|(simp only[zaA,occH,occE,Res.ids,List.cons_append,List.nil_append,AV.idsL,AV.ids,zal,zak,zav,zaO,List.map_cons,List.map_nil,upC,zaB];rfl)) (by first|rfl|(simp only[zaA,occH,occE,Res.ids,List.cons_append,List.nil_append,AV.idsL,AV.ids,zal,zak,zav,zaO,List.map_cons,List.map_nil,upC,zaB];rfl)) (by first|rfl|(simp only[zaA,occH,occE,Res.ids,List.cons_append,List.nil_append,AV.idsL,AV.ids,zal,zak,zav,zaO,List.map_cons,List.map_nil,upC,zaB];rfl)) ?_
 refine ev ?_
 refine CWp.loopX (ι:=Nat×Bool) hk (fun o=>[(4,.d (.bool o.2))]) [5,6,7,9,10,13,14,15,16,17,18,19,20,21,22,23,24,25,26,27,28,29,30,31,32,33,34,35,36,37,38,39,40,41,42,43,44,45,46,47,48,49,50,51,52,53,54,55,56,57,58,59,60,61,62] (fun o=>[(71,some (.box (tabC 16 (zbb w o.1))))]) (fun o=>(o.2=false→zbb w o.1=zai w)∧(o.2=true→o.1≤w.length*4+1)) (fun o=>if o.2 then w.length*4+2-o.1 else 0) (0,true) ⟨by simp,by simp⟩ ⟨⟨_,rfl,LeA.eqb ?_⟩,trivial⟩ ⟨?_,trivial⟩ (fun x=>rfl) (fun o hg1=>?_)
 focus (first|rfl|(simp;done))
 focus (first|rfl|(have e:y.1=w.length:=(by omega);rw[e];rfl))
 refine evc [] [16,20] ?_
 refine sq (fun h1 h1p h1s=>?_) fun h1 h1p h1s=>?_
 try simp only[Q] at h1p
 refine CWp.loopX (ι:=Nat×Bool) hk (fun y=>[(16,.d (.i (y.1:Int))),(4,.d (.bool y.2))]) [5,6,7,9,10,17,18,19,20,21,22,23,24,25,26,27,28,29,30,31,32,33,34,35,36,37,38,39,40,41,42,43,44,45,46,47,48,49,50,51,52,53,54,55,56,57,58,59,60,61,62] (fun y=>[(71,some (.box (tabC 16 (midT w o.1 (y.1*4)))))]) (fun y=>y.1≤w.length∧(y.2=false→midT w o.1 (y.1*4)=zbb w o.1)∧(y.2=true→Strict (zbb w o.1) (midT w o.1 (y.1*4)))) (fun y=>w.length-y.1) (0,false) ⟨by simp,fun _=>rfl,by simp⟩ ⟨⟨_,rfl,LeA.eqi ?_⟩,⟨⟨_,rfl,LeA.eqb ?_⟩,trivial⟩⟩ ⟨?_,trivial⟩ (fun x=>rfl) (fun y hg2=>?_)
 iterate 2 focus (first|rfl|(simp;done))
 focus (first|rfl|(have e:z.1=4:=(by omega);rw[e,←Nat.succ_mul];rfl))
 have ho:=hg1.2 h1s
 refine evc [] [16,20] ?_
 refine sq (fun h2 h2p h2s=>?_) fun h2 h2p h2s=>?_
 try simp only[Q] at h2p
 refine CWp.loopX (ι:=Nat×Bool) hk (fun z=>[(6,.d (.i (z.1:Int))),(4,.d (.bool z.2))]) [7,9,10,19,20,21,22,23,24,25,26,27,28,29,30,31,32,33,34,35,36,37,38,39,40,41,42,43,44,45,46,47,48,49,50,51,52,53,54,55,56,57,58,59,60,61] (fun z=>[(71,some (.box (tabC 16 (midT w o.1 (y.1*4+z.1)))))]) (fun z=>z.1≤4∧(z.2=false→midT w o.1 (y.1*4+z.1)=zbb w o.1)∧(z.2=true→Strict (zbb w o.1) (midT w o.1 (y.1*4+z.1)))) (fun z=>4-z.1) (0,y.2) ⟨by simp,hg2.2⟩ ⟨⟨_,rfl,LeA.eqi ?_⟩,⟨⟨_,rfl,LeA.eqb ?_⟩,trivial⟩⟩ ⟨?_,trivial⟩ (fun x=>rfl) (fun z hg3=>?_)
 iterate 2 focus (first|rfl|(simp;done))
 focus (first|rfl|(show some (Res.box _)=some (Res.box _);rw[←hg4.1,List.append_nil] at *;done))
 refine evc [] [16,20] ?_
 refine sq (fun h3 h3p h3s=>?_) fun h3 h3p h3s=>?_
 try simp only[Q] at h3p
 refine bu [0,1] [_,_] st25 ?_
 refine Walk.alloc (id:=3007) tz25 rfl .none rfl (by first|rfl|(simp only[zaA,occH,occE,Res.ids,List.cons_append,List.nil_append,AV.idsL,AV.ids,zal,zak,zav,zaO,List.map_cons,List.map_nil,upC,zaB];rfl)) (by first|rfl|(simp only[zaA,occH,occE,Res.ids,List.cons_append,List.nil_append,AV.idsL,AV.ids,zal,zak,zav,zaO,List.map_cons,List.map_nil,upC,zaB];rfl)) (by first|rfl|(simp only[zaA,occH,occE,Res.ids,List.cons_append,List.nil_append,AV.idsL,AV.ids,zal,zak,zav,zaO,List.map_cons,List.map_nil,upC,zaB];rfl)) ?_
 refine so ty25 ?_
 refine tv ?_
 refine Walk.call (cr:=[]) zld (zlD hw (i:=y.1) (j:=z.1) (by omega) (by omega)) rfl .none rfl rfl (LeL.refl _) trivial rfl (by first|rfl|(simp only[zbf,List.all_cons,List.all_nil,zcg,zbU,AV.idsL,AV.ids,zal,zak,List.map_cons,List.map_nil,zaB];rfl)) (by first|rfl|(simp only[zaA,occH,occE,Res.ids,List.cons_append,List.nil_append,AV.idsL,AV.ids,zal,zak,zav,zaO,List.map_cons,List.map_nil,upC,zaB];rfl)) ?_
 refine ev ?_
 refine CWp.loopX (ι:=List (Int)×List (Int)×(Bool)) hk (fun x=>[(30,.d (.i (x.1.length:Int))),(4,.d (.bool x.2.2))]) [9,10,31,32,33,34,35,36,37,38,39,40,41,42,43,44,45,46,47,48,49,50,51,52,53,54,55,56,57,58,59,60,61] (fun x=>[(71,some (.box (tabC 16 (rowT w o.1 (y.1*4+z.1) x.1))))]) (fun x=>x.1++x.2.1=za2 w (tyS (y.1*4+z.1))∧(x.2.2=false→rowT w o.1 (y.1*4+z.1) x.1=zbb w o.1)∧(x.2.2=true→Strict (zbb w o.1) (rowT w o.1 (y.1*4+z.1) x.1))) (fun x=>x.2.1.length) ([],za2 w (tyS (y.1*4+z.1)),z.2) ⟨by simp,hg3.2⟩ ⟨⟨_,rfl,LeA.eqi ?_⟩,⟨⟨_,rfl,LeA.eqb ?_⟩,trivial⟩⟩ ⟨?_,trivial⟩ (fun x=>rfl) (fun x hg4=>?_)
 iterate 2 focus (first|rfl|(simp;done))
 focus (first|rfl|(show some (Res.box _)=some (Res.box _);rw[zdu];first|(rw[zdX (by assumption)];done)|(rw[zdt (by assumption)];done)))
 obtain⟨pre,rest,b⟩:=x
 dsimp only at hg4 ⊢
 have hct:=hd.ct (y.1*4+z.1) (by omega)
 refine evc [] [16,20] ?_
 refine sq (fun h4 h4p h4s=>?_) fun h4 h4p h4s=>?_
 try simp only[Q] at h4p
 rcases rest with _|⟨c,rest⟩
 ·exfalso;simp_all
 refine Walk.idx sl62 .none rfl rfl rfl rfl (zaK hg4.1) rfl ?_
 refine ev ?_
 refine Walk.call (cr:=[]) zvq (zmQ hd (f:=rowT w o.1 (y.1*4+z.1) pre) (i:=y.1) (j:=z.1) (c:=c) (by omega) (by omega) (by rw[←hg4.1];simp) (zmU hd (by omega) (by omega) (by have hz:=congrArg List.length hg4.1;simp at hz;omega))) rfl .none rfl rfl (LeL.refl _) ⟨rfl,trivial⟩ rfl (by first|rfl|(simp only[zbf,List.all_cons,List.all_nil,zcg,zbU,AV.idsL,AV.ids,zal,zak,List.map_cons,List.map_nil,zaB];rfl)) (by first|rfl|(simp only[zaA,occH,occE,Res.ids,List.cons_append,List.nil_append,AV.idsL,AV.ids,zal,zak,zav,zaO,List.map_cons,List.map_nil,upC,zaB];rfl)) ?_
 refine ev ?_
 refine CWp.regionJ ?_
 refine WRest.join 15 [(53,.d (.bool (decide ((0:Int)<(most w (rowT w o.1 (y.1*4+z.1) pre) (tyS (y.1*4+z.1)) c:Int)∧((rowT w o.1 (y.1*4+z.1) pre (y.1*4+z.1):Int)=0∨(most w (rowT w o.1 (y.1*4+z.1) pre) (tyS (y.1*4+z.1)) c:Int)<(rowT w o.1 (y.1*4+z.1) pre (y.1*4+z.1):Int))))))] [39,40,41,42,43,44,45,46,47,48,49,50,51,52] ?_ ?_
 refine ev ?_
 refine sq (fun h5 h5p h5s=>?_) fun h5 h5p h5s=>?_
 try simp only[Q] at h5p
 refine Walk.call (cr:=[]) zi6 (zlJ (w:=w) (f:=rowT w o.1 (y.1*4+z.1) pre) (i:=y.1) (j:=z.1) (by omega) hw4 (by omega)) rfl (.some rfl rfl h5) rfl rfl (LeL.refl _) ⟨rfl,trivial⟩ rfl (by first|rfl|(simp only[zbf,List.all_cons,List.all_nil,zcg,zbU,AV.idsL,AV.ids,zal,zak,List.map_cons,List.map_nil,zaB];rfl)) (by first|rfl|(simp only[zaA,occH,occE,Res.ids,List.cons_append,List.nil_append,AV.idsL,AV.ids,zal,zak,zav,zaO,List.map_cons,List.map_nil,upC,zaB];rfl)) ?_
 refine evs [] [(41,true)] ?_ ⟨⟨_,rfl,h5⟩,trivial⟩
 refine sq (fun h6 h6p h6s=>?_) fun h6 h6p h6s=>?_
 try simp only[Q] at h6p
 exact jnb rfl
 try simp only[Q] at h6p
 refine Walk.call (cr:=[]) zi6 (zlJ (w:=w) (f:=rowT w o.1 (y.1*4+z.1) pre) (i:=y.1) (j:=z.1) (by omega) hw4 (by omega)) rfl (.some rfl rfl h6) rfl rfl (LeL.refl _) ⟨rfl,trivial⟩ rfl (by first|rfl|(simp only[zbf,List.all_cons,List.all_nil,zcg,zbU,AV.idsL,AV.ids,zal,zak,List.map_cons,List.map_nil,zaB];rfl)) (by first|rfl|(simp only[zaA,occH,occE,Res.ids,List.cons_append,List.nil_append,AV.idsL,AV.ids,zal,zak,zav,zaO,List.map_cons,List.map_nil,upC,zaB];rfl)) ?_
 refine evs [] [(41,true),(46,false)] ?_ ⟨⟨_,rfl,h5⟩,⟨_,rfl,h6⟩,trivial⟩
 exact jnb rfl
 try simp only[Q] at h5p
 exact jnb rfl
 refine WRest.done ?_
 refine tv ?_
 refine sq (fun h7 h7p h7s=>?_) fun h7 h7p h7s=>?_
 try simp only[Q] at h7p
 refine Walk.idxA (i:=y.1) zon .none rfl rfl rfl rfl (by omega) ?_
 refine Walk.idxA (i:=z.1) zrd .none rfl rfl rfl rfl (by omega) ?_
 refine Walk.store ty3 .none rfl rfl rfl rfl rfl rfl (by simp) ((zq9 (s:=y.1*4+z.1) (v:=most w (rowT w o.1 (y.1*4+z.1) pre) (tyS (y.1*4+z.1)) c) (by omega) (by omega) rfl)) ?_
 refine ev ?_
 refine ar ?_
 refine Exists.intro ((pre++[c],rest,(decide ((0:Int)<(most w (rowT w o.1 (y.1*4+z.1) pre) (tyS (y.1*4+z.1)) c:Int)∧((rowT w o.1 (y.1*4+z.1) pre (y.1*4+z.1):Int)=0∨(most w (rowT w o.1 (y.1*4+z.1) pre) (tyS (y.1*4+z.1)) c:Int)<(rowT w o.1 (y.1*4+z.1) pre (y.1*4+z.1):Int))))||b)) ⟨⟨(by have hz:=hg4.1;rw[←hz];simp),(by
    dsimp only
    rw[zdu]
    cases hq:decide ((0:Int)<(most w (rowT w o.1 (y.1*4+z.1) pre) (tyS (y.1*4+z.1)) c:Int)∧((rowT w o.1 (y.1*4+z.1) pre (y.1*4+z.1):Int)=0∨(most w (rowT w o.1 (y.1*4+z.1) pre) (tyS (y.1*4+z.1)) c:Int)<(rowT w o.1 (y.1*4+z.1) pre (y.1*4+z.1):Int))) with
    |true=>exact⟨fun h=>by simp at h,fun _=>zjQ zqs hq⟩
    |false=>rw[zdt hq];exact hg4.2)⟩,(by simp),sx ⟨⟨_,rfl,LeA.eqi ?_⟩,⟨⟨_,rfl,LeA.eqb ?_⟩,trivial⟩⟩ ⟨?_,trivial⟩⟩
 iterate 2 focus (first|rfl|(simp;done)|(rw[h7];rfl))
 focus (first|rfl|(show some (Res.box _)=some (Res.box _);rw[zdu];first|(rw[zdX (by assumption)];done)|(rw[zdt (by assumption)];done)))
 try simp only[Q] at h7p
 refine ar ?_
 refine Exists.intro ((pre++[c],rest,(decide ((0:Int)<(most w (rowT w o.1 (y.1*4+z.1) pre) (tyS (y.1*4+z.1)) c:Int)∧((rowT w o.1 (y.1*4+z.1) pre (y.1*4+z.1):Int)=0∨(most w (rowT w o.1 (y.1*4+z.1) pre) (tyS (y.1*4+z.1)) c:Int)<(rowT w o.1 (y.1*4+z.1) pre (y.1*4+z.1):Int))))||b)) ⟨⟨(by have hz:=hg4.1;rw[←hz];simp),(by
    dsimp only
    rw[zdu]
    cases hq:decide ((0:Int)<(most w (rowT w o.1 (y.1*4+z.1) pre) (tyS (y.1*4+z.1)) c:Int)∧((rowT w o.1 (y.1*4+z.1) pre (y.1*4+z.1):Int)=0∨(most w (rowT w o.1 (y.1*4+z.1) pre) (tyS (y.1*4+z.1)) c:Int)<(rowT w o.1 (y.1*4+z.1) pre (y.1*4+z.1):Int))) with
    |true=>exact⟨fun h=>by simp at h,fun _=>zjQ zqs hq⟩
    |false=>rw[zdt hq];exact hg4.2)⟩,(by simp),sx ⟨⟨_,rfl,LeA.eqi ?_⟩,⟨⟨_,rfl,LeA.eqb ?_⟩,trivial⟩⟩ ⟨?_,trivial⟩⟩
 iterate 2 focus (first|rfl|(simp;done)|(rw[h7];rfl))
 focus (first|rfl|(show some (Res.box _)=some (Res.box _);rw[zdu];first|(rw[zdX (by assumption)];done)|(rw[zdt (by assumption)];done)))
 try simp only[Q] at h4p
 have hrest:rest=[]:=by
  rcases rest with _|⟨a,b⟩
  ·rfl
  ·exfalso;have hz:=congrArg List.length (hg4.1);simp only[List.length_append,List.length_cons,List.length_map] at hz;omega
 subst hrest
 refine ar ?_
 refine Exists.intro ((z.1+1,b)) ⟨(by
    obtain⟨p1,p2⟩:=hg4
    rw[List.append_nil] at p1
    rw[p1,zhk,Nat.add_assoc] at p2
    exact⟨by dsimp only;omega,p2⟩),(by dsimp only;omega),sx ⟨⟨_,rfl,LeA.eqi ?_⟩,⟨⟨_,rfl,LeA.eqb ?_⟩,trivial⟩⟩ ⟨?_,trivial⟩⟩
 iterate 2 focus (first|rfl|(simp;done))
 focus (first|rfl|(show some (Res.box _)=some (Res.box _);rw[←hg4.1,List.append_nil] at *;done)|(show some (Res.box _)=some (Res.box _);rw[←Nat.add_assoc,←zhk,←hg4.1,List.append_nil]))
 try simp only[Q] at h3p
 refine ar ?_
 refine Exists.intro ((y.1+1,z.2)) ⟨(by
    have e:z.1=4:=by omega
    obtain⟨_,q1,q2⟩:=hg3
    rw[e,←Nat.succ_mul] at q1 q2
    exact⟨by dsimp only;omega,q1,q2⟩),(by dsimp only;omega),sx ⟨⟨_,rfl,LeA.eqi ?_⟩,⟨⟨_,rfl,LeA.eqb ?_⟩,trivial⟩⟩ ⟨?_,trivial⟩⟩
 iterate 2 focus (first|rfl|(simp;done))
 focus (first|rfl|(have e:z.1=4:=(by omega);rw[e,←Nat.succ_mul];rfl))
 try simp only[Q] at h2p
 refine Exists.intro ((o.1+1,y.2)) ⟨⟨(fun h=>by
    have e:y.1=w.length:=by omega
    have h1:=hg2.2.1 h
    rw[e] at h1
    have h2:zbb w (o.1+1)=zbb w o.1:=h1
    rw[h2];exact ztq hd.cl h2),(fun h=>by
    have e:y.1=w.length:=by omega
    have h1:=hg2.2.2 h
    rw[e] at h1
    have h3:=hg1.2 h1s
    show o.1+1≤w.length*4+1
    rcases Nat.lt_or_ge o.1 (w.length*4+1) with h4|h4
    ·omega
    ·refine absurd ?_ (Strict.ne h1)
     rw[zj6 hd.cl h4]
     exact(zj6 hd.cl (k:=o.1+1) (by omega)).symm)⟩,(by have h3:=hg1.2 h1s;rw[h1s];dsimp only;simp only[if_true];split<;>omega),sx ⟨⟨_,rfl,LeA.eqb ?_⟩,trivial⟩ ⟨?_,trivial⟩⟩
 focus (first|rfl|(simp;done))
 focus (first|rfl|(have e:y.1=w.length:=(by omega);rw[e];rfl))
 try simp only[Q] at h1p
 refine CWp.frzB hk 3 71 0 rfl rfl ztU rfl ?_
 refine evc [] [] ?_
 refine rn0 (r1 rfl) (.eqd ?_)
 rotate_left
 all_goals (rw[hg1.1 h1s])
end Go.Proofs.YtpgdedpljcedpaaGreat
namespace Go.Proofs.YtpgdedpljcedpaaGreat
open Go
set_option linter.unusedSimpArgs false
set_option linter.unusedVariables false
set_option maxRecDepth 100000
set_option maxHeartbeats 4000000
theorem zwC (w:List Data) (t:Ty) (p:Pat):(zaM w 10 t p 0).1.isSome=isP w t p:=by
 have h:=(zfy w 10 t p 0).1
 rw[h]
 unfold zbI isP
 rw[Int.zero_add]
 split
 ·rename_i hz;rw[hz];rfl
 ·rename_i hz
  cases hc:(zas w 10 t p&&(decide ((p.size:Int)≤60)&&linP w 10 t p)) with
  |true=>exact absurd hc hz
  |false=>rfl
theorem zfg {w:List Data} (hw:WT w){a k:Int}{p:Pat} (ht:TyIn w.length ⟨a,k⟩) (hok:p.ok):
  FnD Tryz.prog 132 [.d (zam w),.agg [.d (.i a),.d (.i k)],.agg [.d (.i p.op),.d (.i p.ctor),.d (.i p.n),.d (.i p.m),.d (.i p.var),.d (zad p.kids)]] [] (.tup [.d (zcK (zdj (zaM w 10 ⟨a,k⟩ p 0).1)),.d (.bool (isP w ⟨a,k⟩ p))]) []:=by
 rw[←zwC]
 refine bd Tryz.f132 15 [] [] fun w0 F0 own kept hk=>?_
 refine bx 3004 ?_
 refine bx 3005 ?_
 refine ev ?_
 refine ab 950 tz3 ?_
 refine so ty3 ?_
 refine tv ?_
 refine wc zoN (zdJ hw 10 (c:=0) (by omega) (by omega) ht hok (by omega) (by omega)) rfl rfl ?_
 refine ev ?_
 refine rn0 (r2 rfl rfl) (.tup (.cons (.eqd ?_) (.cons (.eqd ?_) .nil)))
 rotate_left 2
 all_goals (rfl)
theorem zek {w:List Data} (hw:WT w){a k:Int}{p:Pat} (ht:TyIn w.length ⟨a,k⟩) (hok:p.ok):
  FnD Tryz.prog 77 [.d (zam w),.agg [.d (.i a),.d (.i k)],.agg [.d (.i p.op),.d (.i p.ctor),.d (.i p.n),.d (.i p.m),.d (.i p.var),.d (zad p.kids)]] [] (.d (.bool (isP w ⟨a,k⟩ p))) []:=by
 refine bd Tryz.f77 17 [] [] fun w0 F0 own kept hk=>?_
 refine bx 3004 ?_
 refine bx 3005 ?_
 refine ev ?_
 refine wc zr1 (zfg hw ht hok) rfl rfl ?_
 refine ev ?_
 refine rn0 (r1 rfl) (.eqd ?_)
 rotate_left
 all_goals (rfl)
end Go.Proofs.YtpgdedpljcedpaaGreat
namespace Go.Proofs.YtpgdedpljcedpaaGreat
open Go
set_option linter.unusedSimpArgs false
set_option linter.unusedVariables false
set_option maxRecDepth 100000
set_option maxHeartbeats 2000000
theorem zp0 {w:List Data} (hs:WSmall w) (hv:za1 w=true):Dp w:=by
 have hw:=zez hs hv
 have hW:=(zce w).1 hv
 refine⟨hw,fun s hs c hc u hu=>?_,hW.len,fun s hs=>?_⟩
 ·obtain⟨j,rfl,hj⟩:=zpt (d:=s / 4) (k:=((s % 4:Nat):Int)) hc
  have hu':u∈zaa w ⟨((s / 4:Nat):Int),((s % 4:Nat):Int)⟩ (j:Int):=hu
  simp only[zaa,Int.toNat_natCast,List.mem_map] at hu'
  obtain⟨x,hx,rfl⟩:=hu'
  have hco:=hW.ctor _ (zae (l:=w) (i:=s / 4) (by omega)) _ (zae hj)
  simp only[zbs,Bool.and_eq_true,Bool.not_eq_true',List.any_eq_false] at hco
  have hax:zbA w.length x=true:=by
   have:=hco.2.2.2 x hx
   cases h:zbA w.length x with
   |true=>rfl
   |false=>rw[h] at this;exact absurd rfl this
  have hci:=hco.2.2.1
  simp only[zbA,zar,Bool.or_eq_true,Bool.and_eq_true,decide_eq_true_eq,and_true] at hax hci
  have key:∀y:Ty,(y.data = -1∨(0≤y.data∧y.data<w.length∧0≤y.index∧y.index≤3))→InS (w.length*4) y:=by
   rintro ⟨a,k⟩ h
   rcases h with h|⟨h1,h2,h3,h4⟩
   ·exact .inl h
   ·refine .inr ⟨?_, ?_⟩
    ·simp only[zcj] at *;omega
    ·obtain⟨i,rfl⟩:=Int.eq_ofNat_of_zero_le h1
     obtain⟨m,rfl⟩:=Int.eq_ofNat_of_zero_le h3
     simp only[zcj,Int.toNat_natCast]
     exact zg6 (by simp only at h4;omega)
  refine key _ ?_
  unfold zcf zcq
  split
  ·dsimp only
   rcases hax with h|h
   ·omega
   ·right
    refine⟨by omega,by omega, ?_⟩
    split<;>omega
  ·rcases hax with h|h
   ·exact .inl h.1
   ·right;omega
 ·have h1:=zf9 (tyS s).index (nth w (tyS s).data.toNat).ctors 0
  have h2:=(hW.data _ (zae (l:=w) (i:=s / 4) (by omega))).2.2
  show(zaV (tyS s).index 0 (nth w (tyS s).data.toNat).ctors).length≤4
  have e:(tyS s).data.toNat=s / 4:=by simp only[tyS,Int.toNat_natCast]
  rw[e] at h1 ⊢
  omega
theorem zbQ {n:Nat}{t:Ty} (h:InS (n*4) t):TyIn n t:=by
 rcases h with h|⟨h1,h2⟩
 ·exact .inl h
 ·refine .inr ⟨zcj t / 4, ?_,by omega⟩
  have:=congrArg Ty.data h2
  exact this.symm
theorem zbl {w:List Data} (hd:Dp w){t:Ty}{c:Int} (ht:InS (w.length*4) t) (hc:c∈zah w t):∀u∈zaa w t c,InS (w.length*4) u:=by
 rcases ht with h|⟨h1,h2⟩
 ·unfold zah at hc;rw[if_pos h] at hc;simp at hc
 ·have hx:=hd.cl _ h1
  rw[h2] at hx
  have:c∈za2 w t:=by
   unfold zah at hc
   split at hc
   ·simp at hc
   ·exact hc
  exact hx c this
theorem zi3 {w:List Data}{a k k' c:Int}:(zaa w ⟨a,k⟩ c).length=(zaa w ⟨a,k'⟩ c).length∧∀i,(nth (zaa w ⟨a,k⟩ c) i).data=(nth (zaa w ⟨a,k'⟩ c) i).data:=by
 have hd:∀(k:Int) (t:Ty),(zcf k t).data=t.data:=fun k t=>by unfold zcf;split<;>rfl
 refine⟨by simp[zaa],fun i=>?_⟩
 unfold zaa
 dsimp only
 generalize nth (nth w a.toNat).ctors c.toNat=q
 simp only[nth,List.getD_eq_getElem?_getD,List.getElem?_map]
 cases q.args[i]? with
 |none=>rfl
 |some x=>simp only[Option.map_some,Option.getD_some,hd]
structure PKids (w:List Data) (n:Nat) (a k k':Int) (p:Pat):Prop where
 len5:p.op=5→p.kids.length=2
 len6:p.op=6→p.kids.length=1
 len4:p.op=4→p.kids.length=(zaa w ⟨a,k⟩ p.ctor).length
 one:p.op=5∨p.op=6→zas w n ⟨a,k'⟩ (nth p.kids 0)=true
 two:p.op=5→zas w n ⟨a,k'⟩ (nth p.kids 1)=true
 arg:p.op=4→∀i,i<(zaa w ⟨a,k⟩ p.ctor).length→zas w n ⟨(nth (zaa w ⟨a,k⟩ p.ctor) i).data,(nth (zaa w ⟨a,k'⟩ p.ctor) i).index⟩ (nth p.kids i)=true
 mem:p.op=4→p.ctor∈zah w ⟨a,k'⟩
 ops:p.op=1∨p.op=2∨(p.op=3∧a = -1)∨p.op=4∨p.op=5∨p.op=6
theorem zwB {w:List Data}{n:Nat}{a k k':Int}{p:Pat} (h:zas w (n+1) ⟨a,k'⟩ p=true):PKids w n a k k' p:=by
 obtain⟨ho,hl⟩:=zbH h
 have hk:=fun i (hi:i<p.kids.length)=>zbG h hi
 have ht4:p.op=4→zaf w ⟨a,k'⟩ p=zaa w ⟨a,k'⟩ p.ctor:=fun h=>by unfold zaf;rw[if_pos h]
 have ht5:p.op=5→zaf w ⟨a,k'⟩ p=[⟨a,k'⟩,⟨a,k'⟩]:=fun h=>by unfold zaf;rw[if_neg (by omega),if_pos h]
 have ht6:p.op=6→zaf w ⟨a,k'⟩ p=[⟨a,k'⟩]:=fun h=>by unfold zaf;rw[if_neg (by omega),if_neg (by omega),if_pos h]
 have l5:p.op=5→p.kids.length=2:=fun h=>by rw[hl,ht5 h];rfl
 have l6:p.op=6→p.kids.length=1:=fun h=>by rw[hl,ht6 h];rfl
 refine⟨l5,l6,fun h=>by rw[hl,ht4 h,zi3.1],fun h=>?_,fun h=>?_,fun h i hi=>?_,zb3 ho, ?_⟩
 ·rcases h with h|h
  ·have:=hk 0 (by rw[l5 h];omega);rwa [ht5 h] at this
  ·have:=hk 0 (by rw[l6 h];omega);rwa [ht6 h] at this
 ·have:=hk 1 (by rw[l5 h];omega);rwa [ht5 h] at this
 ·rw[(zi3 (k':=k')).1] at hi
  have:=hk i (by rw[hl,ht4 h];exact hi)
  rw[ht4 h] at this
  rw[(zi3 (k':=k')).2]
  exact this
 ·unfold ownP at ho
  have:=of_decide_eq_true ho
  obtain⟨_,_,_,_,q⟩:=this
  simp only at q
  omega
theorem zke {w:List Data} (hd:Dp w):FnD Tryz.prog 47 [.d (zam w)] [] (.d (sPtr w (zai w))) []:=by
 refine bd Tryz.f47 8 [] [999999] fun w0 F0 own kept hk=>?_
 refine wc zws (zkO hd) rfl rfl ?_
 refine bu [0,1] [_,_] zwD ?_
 refine bx 3007 ?_
 refine ev ?_
 refine CWp.frzB hk 2 3007 0 rfl rfl rfl rfl ?_
 refine CWp.ret ?_
 focus (refine rn0 (r1 rfl) (.refl _);all_goals (first|rfl|(simp[];done)|(simp_all;done)|(simp_all;omega)|omega))
theorem zct {w:List Data}{a k:Int} (h:zbL w ⟨a,k⟩=true):za1 w=true∧TyIn w.length ⟨a,k⟩∧(a≠ -1→0≤a∧a.toNat<w.length∧0≤k∧k≤3):=by
 unfold zbL at h
 rw[Bool.and_eq_true] at h
 obtain⟨h1,h2⟩:=h
 simp only[zd2,zar,Bool.or_eq_true,Bool.and_eq_true,decide_eq_true_eq,and_true] at h2
 refine⟨h1, ?_,fun ha=>by omega⟩
 rcases h2 with h|h
 ·exact .inl h.1
 ·exact .inr ⟨a.toNat,by simp only;omega,by omega⟩
theorem zv3 {n d j:Nat} (hd:d<n) (hj:j<4):InS (n*4) ⟨(d:Int),(j:Int)⟩:=
 .inr ⟨by simp only[zcj,Int.toNat_natCast];omega,by simp only[zcj,Int.toNat_natCast];exact zg6 hj⟩
def zaN (w:List Data) (a k:Int) (p:Pat):Bool:=zbL w ⟨a,k⟩&&isP w ⟨a,k⟩ p
structure PVal (w:List Data) (a k:Int) (p:Pat):Prop where
 dp:Dp w
 tin:TyIn w.length ⟨a,k⟩
 shape:zas w 10 ⟨a,k⟩ p=true
 rng:a≠ -1→0≤a∧a.toNat<w.length∧0≤k∧k≤3
theorem zio {w:List Data} (hs:WSmall w){a k:Int}{p:Pat} (hok:p.ok):
  FnD Tryz.prog 34 [.d (zam w),.agg [.d (.i a),.d (.i k)],.agg [.d (.i p.op),.d (.i p.ctor),.d (.i p.n),.d (.i p.m),.d (.i p.var),.d (zad p.kids)]] [] (.d (.bool (zaN w a k p))) []:=by
 refine bd Tryz.f34 16 [] [] fun w0 F0 own kept hk=>?_
 refine bx 3004 ?_
 refine bx 3005 ?_
 refine ev ?_
 refine wc zt9 (zgg hs) rfl rfl ?_
 refine ev ?_
 refine sq (fun h1 h1p h1s=>?_) fun h1 h1p h1s=>?_
 refine Walk.call (cr:=[]) zou (zek (zez hs (zct h1s).1) (zct h1s).2.1 hok) rfl (.some rfl rfl h1) rfl rfl (LeL.refl _) trivial rfl rfl rfl ?_
 refine evs [] [(10,true)] ?_ ⟨⟨_,rfl,h1⟩,trivial⟩
 refine rn0 (r1 rfl) (.eqd ?_)
 rotate_left
 refine rn0 (r1 rfl) (.eqd ?_)
 rotate_left
 all_goals (refine congrArg D.bool ?_;unfold zaN;simp_all)
theorem zg3 {w:List Data}{a b:Int} (hs:WSmall w):FnD Tryz.prog 118 [.d (zam w),.agg [.d (.i a),.d (.i b)]] [] (.d (.bool (zbL w ⟨a,b⟩))) []:=by
 rw[←zu4];exact zkg hs
theorem zfa {w:List Data} (hs:WSmall w){a k:Int}{p:Pat} (hok:p.ok) (hb:p.size≤1000000000000):
  FnD Tryz.prog 75 [.d (zam w),.agg [.d (.i a),.d (.i k)],.agg [.d (.i p.op),.d (.i p.ctor),.d (.i p.n),.d (.i p.m),.d (.i p.var),.d (zad p.kids)]] [] (.d (.bool (zaN w a k p))) []:=by
 refine bd Tryz.f75 16 [] [] fun w0 F0 own kept hk=>?_
 refine bx 3004 ?_
 refine bx 3005 ?_
 refine ev ?_
 refine wc zrY (zg3 hs) rfl rfl ?_
 refine ev ?_
 refine sq (fun h1 h1p h1s=>?_) fun h1 h1p h1s=>?_
 refine Walk.call (cr:=[]) zi4 (zd0 (zez hs (zct h1s).1) (zct h1s).2.1 hok hb) rfl (.some rfl rfl h1) rfl rfl (LeL.refl _) trivial rfl rfl rfl ?_
 refine evs [] [(10,true)] ?_ ⟨⟨_,rfl,h1⟩,trivial⟩
 refine rn0 (r1 rfl) (.eqd ?_)
 rotate_left
 refine rn0 (r1 rfl) (.eqd ?_)
 rotate_left
 all_goals (refine congrArg D.bool ?_;unfold zaN;simp_all)
def zaQ (w:List Data) (f:Nat→Nat):Nat→Ty→Pat→Bool
 |0,_,_=>true
 |n+1,t,p=>
  if p.op=1∨p.op=2 then decide (dv f t=0)
  else if p.op=5 then zaQ w f n t (nth p.kids 0)&&zaQ w f n t (nth p.kids 1)
  else !(all2 (fun u q=> !zaQ w f n u q) (zaf w t p) p.kids)
theorem zfG {w:List Data}{f:Nat→Nat}{n:Nat}{t:Ty}{p:Pat}:zaQ w f (n+1) t p=if p.op=1∨p.op=2 then decide (dv f t=0)
  else if p.op=5 then zaQ w f n t (nth p.kids 0)&&zaQ w f n t (nth p.kids 1)
  else !(all2 (fun u q=> !zaQ w f n u q) (zaf w t p) p.kids):=rfl
theorem zfk {α β:Type} [Inhabited α] [Inhabited β]{f:α→β→Bool}{a:List α}{b:List β} (hl:a.length=b.length) (h:all2 f a b=true):∀i,i<a.length→f (nth a i) (nth b i)=true:=fun i hi=>by
 cases hf:f (nth a i) (nth b i) with
 |true=>rfl
 |false=>rw[zbR hi hl hf] at h;exact absurd h (by simp)
theorem zjV {w:List Data}{t:Ty}{c:Int} (h:c∈zah w t):c∈za2 w t:=by
 unfold zah at h
 split at h
 ·simp at h
 ·exact h
theorem zkQ {w:List Data} (hw:WT w){a k:Int}{p:Pat} (ht:TyIn w.length ⟨a,k⟩):
  FnD Tryz.prog 129 [.d (zam w),.agg [.d (.i a),.d (.i k)],.agg [.d (.i p.op),.d (.i p.ctor),.d (.i p.n),.d (.i p.m),.d (.i p.var),.d (zad p.kids)]] [] (.d (zb8 (zcv w ⟨a,k⟩ p))) []:=by
 have hsh:=ziN hw (p:=p) ht
 refine bd Tryz.f129 17 [] [] fun w0 F0 own kept hk=>?_
 refine bx 3004 ?_
 refine bx 3005 ?_
 refine ev ?_
 refine wc zoM (hsh) rfl rfl ?_
 refine ev ?_
 refine rn0 (r1 rfl) (.eqd ?_)
 rotate_left
 all_goals (rfl)
theorem zcs {w:List Data} (hd:Dp w){f:Nat→Nat}:∀(n:Nat){a k:Int}{p:Pat},zas w n ⟨a,k⟩ p=true→InS (w.length*4) ⟨a,k⟩→p.ok→
  FnD Tryz.prog 74 [.d (sPtr w f),.agg [.d (.i a),.d (.i k)],.agg [.d (.i p.op),.d (.i p.ctor),.d (.i p.n),.d (.i p.m),.d (.i p.var),.d (zad p.kids)]] [] (.d (.bool (zaQ w f n ⟨a,k⟩ p))) []
 |0,a,k,p,h,_,_=>by simp[zas] at h
 |n+1,a,k,p,h,hi,hok=>by
  rw[Pat.ok_iff] at hok
  have hw:=hd.wt
  have hw4:=hd.four
  have ht:=zbQ hi
  have pk:=zwB (k:=k) h
  obtain⟨ho,hlen⟩:=zbH h
  have hkid:=fun i (hi:i<p.kids.length)=>zbG h hi
  have hops:=pk.ops
  have l5:=pk.len5
  have hk1:=pk.one
  have hk2:=pk.two
  have hsT:zcv w ⟨a,k⟩ p=zaf w ⟨a,k⟩ p:=by
   unfold zcv;rw[if_neg (fun h=>h.2 (pk.mem h.1))]
  have hkt:=zkQ hw (p:=p) ht
  rw[hsT] at hkt
  have hins:∀i,i<(zaf w ⟨a,k⟩ p).length→InS (w.length*4) (nth (zaf w ⟨a,k⟩ p) i):=fun i hl=>by
   have hm:=zae hl
   unfold zaf at hm ⊢
   split
   ·rename_i h4
    rw[if_pos h4] at hm
    exact zbl hd hi (pk.mem h4) _ hm
   ·rename_i h4
    rw[if_neg h4] at hm
    split
    ·rename_i h5
     rw[if_pos h5] at hm
     simp only[List.mem_cons,List.not_mem_nil,or_false,or_self] at hm
     rw[hm];exact hi
    ·rename_i h5
     rw[if_neg h5] at hm
     split
     ·rename_i h6
      rw[if_pos h6] at hm
      simp only[List.mem_cons,List.not_mem_nil,or_false] at hm
      rw[hm];exact hi
     ·rename_i h6
      rw[if_neg h6] at hm
      simp at hm
  have htl:(zaf w ⟨a,k⟩ p).length≤1000000000000:=by have:=hok.1;omega
  refine bd Tryz.f74 61 [] [] fun w0 F0 own kept hk=>?_
  refine bx 3004 ?_
  refine bx 3005 ?_
  refine ev ?_
  refine sq (fun h1 h1p h1s=>?_) fun h1 h1p h1s=>?_
  try simp only[Q,Pat.cs_len] at h1p
  refine sq (fun h2 h2p h2s=>?_) fun h2 h2p h2s=>?_
  try simp only[Q,Pat.cs_len] at h2p
  refine wc zi6 (zlI (n:=w.length*4) (f:=f) hi (by omega)) rfl rfl ?_
  refine evd [] [] ?_
  refine dr ?_
  refine rn0 (r1 rfl) (.eqd ?_)
  rotate_left
  try simp only[Q,Pat.cs_len] at h2p
  refine sq (fun h3 h3p h3s=>?_) fun h3 h3p h3s=>?_
  try simp only[Q,Pat.cs_len] at h3p
  refine Walk.idx (i:=0) sl26 .none rfl rfl rfl rfl (zaH (by omega)) rfl ?_
  refine evd [] [] ?_
  refine wc zia (zcs hd n (hk1 (by omega)) hi (Pats.ok_mem hok.2 _ (zae (i:=0) (by omega)))) rfl rfl ?_
  refine evd [] [] ?_
  refine sq (fun h4 h4p h4s=>?_) fun h4 h4p h4s=>?_
  try simp only[Q,Pat.cs_len] at h4p
  refine Walk.idx (i:=1) sl26 (.some rfl rfl h4) rfl rfl rfl rfl (zaH (by omega)) rfl ?_
  refine evd [] [(30,true)] ?_ ⟨⟨_,rfl,h4⟩,trivial⟩
  refine Walk.call (cr:=[]) zia (zcs hd n (hk2 (by omega)) hi (Pats.ok_mem hok.2 _ (zae (i:=1) (by omega)))) rfl (.some rfl rfl h4) rfl rfl (LeL.refl _) trivial rfl rfl rfl ?_
  refine evd [] [(30,true)] ?_ ⟨⟨_,rfl,h4⟩,trivial⟩
  refine dr ?_
  refine rn0 (r1 rfl) (.eqd ?_)
  rotate_left
  try simp only[Q,Pat.cs_len] at h4p
  refine dr ?_
  refine rn0 (r1 rfl) (.eqd ?_)
  rotate_left
  try simp only[Q,Pat.cs_len] at h3p
  refine wc zr0 (hkt) rfl rfl ?_
  refine evd [] [] ?_
  refine dr ?_
  refine CWp.loopX (ι:=Nat) hk (fun i=>[(47,.d (.i (i:Int)))]) [6,7,8,48,49,50,51,52,53,54,55,56,57,58,59,60] (fun i=>[]) (fun i=>i≤(zaf w ⟨a,k⟩ p).length∧∀i',i'<i→zaQ w f n (nth (zaf w ⟨a,k⟩ p) i') (nth p.kids i')=false) (fun i=>(zaf w ⟨a,k⟩ p).length-i) 0 ⟨by omega,fun _ h=>absurd h (by omega)⟩ ⟨⟨_,rfl,LeA.eqi ?_⟩,trivial⟩ trivial (fun x=>rfl) (fun i hg1=>?_)
  focus (first|rfl|(simp;done)|(simp_all;done)|omega)
  refine evc [] [] ?_
  refine sq (fun h5 h5p h5s=>?_) fun h5 h5p h5s=>?_
  try simp only[Q,Pat.cs_len] at h5p
  refine Walk.idx za0 .none rfl rfl rfl rfl (zau (by omega)) rfl ?_
  refine ev ?_
  refine ab 3008 tz25 ?_
  refine ev ?_
  refine so ty25 ?_
  refine tv ?_
  refine Walk.idx sl26 .none rfl rfl rfl rfl (zaH (by omega)) rfl ?_
  refine evd [] [] ?_
  refine wc zia (zcs hd n (hkid i (by omega)) (hins i (by omega)) (Pats.ok_mem hok.2 _ (zae (by omega)))) rfl rfl ?_
  refine dr ?_
  refine sq (fun h6 h6p h6s=>?_) fun h6 h6p h6s=>?_
  try simp only[Q,Pat.cs_len] at h6p
  refine rn0 (r1 rfl) (.eqd ?_)
  rotate_left
  try simp only[Q,Pat.cs_len] at h6p
  refine ar ?_
  refine Exists.intro (i+1) ⟨⟨by omega,za7 hg1.2 (by assumption)⟩,(by omega),sx ⟨⟨_,rfl,LeA.eqi ?_⟩,trivial⟩ trivial⟩
  focus (first|rfl|(simp;done)|(simp_all;done)|omega)
  try simp only[Q,Pat.cs_len] at h5p
  refine rn0 (r1 rfl) (.eqd ?_)
  rotate_left
  try simp only[Q,Pat.cs_len] at h1p
  refine sq (fun h7 h7p h7s=>?_) fun h7 h7p h7s=>?_
  try simp only[Q,Pat.cs_len] at h7p
  refine wc zi6 (zlI (n:=w.length*4) (f:=f) hi (by omega)) rfl rfl ?_
  refine evd [] [] ?_
  refine dr ?_
  refine rn0 (r1 rfl) (.eqd ?_)
  rotate_left
  try simp only[Q,Pat.cs_len] at h7p
  refine sq (fun h8 h8p h8s=>?_) fun h8 h8p h8s=>?_
  try simp only[Q,Pat.cs_len] at h8p
  refine Walk.idx (i:=0) sl26 .none rfl rfl rfl rfl (zaH (by omega)) rfl ?_
  refine evd [] [] ?_
  refine wc zia (zcs hd n (hk1 (by omega)) hi (Pats.ok_mem hok.2 _ (zae (i:=0) (by omega)))) rfl rfl ?_
  refine evd [] [] ?_
  refine sq (fun h9 h9p h9s=>?_) fun h9 h9p h9s=>?_
  try simp only[Q,Pat.cs_len] at h9p
  refine Walk.idx (i:=1) sl26 (.some rfl rfl h9) rfl rfl rfl rfl (zaH (by omega)) rfl ?_
  refine evd [] [(30,true)] ?_ ⟨⟨_,rfl,h9⟩,trivial⟩
  refine Walk.call (cr:=[]) zia (zcs hd n (hk2 (by omega)) hi (Pats.ok_mem hok.2 _ (zae (i:=1) (by omega)))) rfl (.some rfl rfl h9) rfl rfl (LeL.refl _) trivial rfl rfl rfl ?_
  refine evd [] [(30,true)] ?_ ⟨⟨_,rfl,h9⟩,trivial⟩
  refine dr ?_
  refine rn0 (r1 rfl) (.eqd ?_)
  rotate_left
  try simp only[Q,Pat.cs_len] at h9p
  refine dr ?_
  refine rn0 (r1 rfl) (.eqd ?_)
  rotate_left
  try simp only[Q,Pat.cs_len] at h8p
  refine wc zr0 (hkt) rfl rfl ?_
  refine evd [] [] ?_
  refine dr ?_
  refine CWp.loopX (ι:=Nat) hk (fun i=>[(47,.d (.i (i:Int)))]) [6,7,8,48,49,50,51,52,53,54,55,56,57,58,59,60] (fun i=>[]) (fun i=>i≤(zaf w ⟨a,k⟩ p).length∧∀i',i'<i→zaQ w f n (nth (zaf w ⟨a,k⟩ p) i') (nth p.kids i')=false) (fun i=>(zaf w ⟨a,k⟩ p).length-i) 0 ⟨by omega,fun _ h=>absurd h (by omega)⟩ ⟨⟨_,rfl,LeA.eqi ?_⟩,trivial⟩ trivial (fun x=>rfl) (fun i hg1=>?_)
  focus (first|rfl|(simp;done)|(simp_all;done)|omega)
  refine evc [] [] ?_
  refine sq (fun h10 h10p h10s=>?_) fun h10 h10p h10s=>?_
  try simp only[Q,Pat.cs_len] at h10p
  refine Walk.idx za0 .none rfl rfl rfl rfl (zau (by omega)) rfl ?_
  refine ev ?_
  refine ab 3008 tz25 ?_
  refine ev ?_
  refine so ty25 ?_
  refine tv ?_
  refine Walk.idx sl26 .none rfl rfl rfl rfl (zaH (by omega)) rfl ?_
  refine evd [] [] ?_
  refine wc zia (zcs hd n (hkid i (by omega)) (hins i (by omega)) (Pats.ok_mem hok.2 _ (zae (by omega)))) rfl rfl ?_
  refine dr ?_
  refine sq (fun h11 h11p h11s=>?_) fun h11 h11p h11s=>?_
  try simp only[Q,Pat.cs_len] at h11p
  refine rn0 (r1 rfl) (.eqd ?_)
  rotate_left
  try simp only[Q,Pat.cs_len] at h11p
  refine ar ?_
  refine Exists.intro (i+1) ⟨⟨by omega,za7 hg1.2 (by assumption)⟩,(by omega),sx ⟨⟨_,rfl,LeA.eqi ?_⟩,trivial⟩ trivial⟩
  focus (first|rfl|(simp;done)|(simp_all;done)|omega)
  try simp only[Q,Pat.cs_len] at h10p
  refine rn0 (r1 rfl) (.eqd ?_)
  rotate_left
  all_goals (refine congrArg D.bool ?_;rw[zfG];first|(rw[if_pos (by omega)];exact decide_eq_decide.2 (by omega))|(rw[if_neg (by omega),if_pos (by omega)];first|rfl|(simp_all;done))|(rw[if_neg (by omega),if_neg (by omega)];first|(rw[zbR (i:=i) (by omega) (by omega) (by show(!_)=false;rw[Bool.not_eq_false'];assumption)];rfl)|(rw[zb4 (by omega) (fun x hx=>by have:=hg1.2 x (by omega);simp_all)];rfl)))
mutual
theorem zrT:∀v:Val,zrS v v=true
 | .mk _ _ ks=>by simp[zrS,zkw ks]
theorem zkw:∀l:List Val,zmy l l=true
 | []=>rfl
 |v::r=>by simp[zmy,zrT v,zkw r]
end
theorem Val.c_len (v:Val):v.c.length=3:=by cases v;rfl
theorem Val.cs_rows {l:List Val}:∀x,x∈Val.cs l→x.length=3:=by
 intro x hx
 rw[Val.cs_eq] at hx
 obtain⟨y,_,rfl⟩:=List.mem_map.1 hx
 exact y.c_len
theorem Val.cs_nil (l:List Val):Val.cs l=[]↔l=[]:=by rw[Val.cs_eq];simp
mutual
def mVal:Val→Nat
 | .mk _ _ ks=>zlO ks
def zlO:List Val→Nat
 | []=>0
 |v::r=>1+mVal v+zlO r
end
mutual
def Val.szM:Val→Int
 | .mk _ _ ks=>2+Vals.szM ks
def Vals.szM:List Val→Int
 | []=>0
 |v::r=>v.szM+Vals.szM r
end
mutual
def Val.one (k:Int):Val→Val
 | .mk _ _ ks=> .mk k (k+1) (Vals.one (k+1+1) ks)
def Vals.one (k:Int):List Val→List Val
 | []=>[]
 |v::r=>v.one k::Vals.one (k+v.szM) r
end
mutual
theorem Val.szM_nn:∀v:Val,0≤v.szM
 | .mk _ _ ks=>by have:=Vals.szM_nn ks;simp only[Val.szM];omega
theorem Vals.szM_nn:∀l:List Val,0≤Vals.szM l
 | []=>by simp[Vals.szM]
 |v::r=>by have:=Val.szM_nn v;have:=Vals.szM_nn r;simp only[Vals.szM];omega
end
mutual
theorem Val.szM_le:∀v:Val,v.szM≤2+2*(mVal v:Int)
 | .mk _ _ ks=>by have:=Vals.szM_le ks;simp only[Val.szM,mVal];omega
theorem Vals.szM_le:∀l:List Val,Vals.szM l≤2*(zlO l:Int)
 | []=>by simp[Vals.szM,zlO]
 |v::r=>by have:=Val.szM_le v;have:=Vals.szM_le r;simp only[Vals.szM,zlO];omega
end
def zaP (w:List Data):Nat→Ty→Val→Bool
 |0,_,_=>false
 |n+1,t,v=>if t.data = -1 then decide (v.ctor = -1)&&(decide (0≤v.num)&&(decide (v.num≤9)&&decide (v.kids.length=0)))
   else if v.num=0∧v.ctor∈za2 w t then all2 (zaP w n) (zaa w t v.ctor) v.kids else false
mutual
def cntV (m:Int):Val→Int
 | .mk _ _ ks=>cntL m 1 ks
def cntL (m n:Int):List Val→Int
 | []=>n
 |k::r=>if n≤m then cntL m (n+cntV (m-n) k) r else n
end
theorem zsi {m n:Int}{l:List Val} (h:¬n≤m):cntL m n l=n:=by cases l<;>simp[cntL,h]
mutual
theorem zqx:∀(v:Val) (m:Int),1≤cntV m v∧cntV m v≤v.size
 | .mk _ _ ks,m=>by
  have:=zmF ks m 1 (by omega)
  simp only[cntV,Val.size];push_cast;omega
theorem zmF:∀(l:List Val) (m n:Int),1≤n→1≤cntL m n l∧cntL m n l≤n+Vals.size l
 | [],m,n,h=>by simp[cntL,Vals.size];omega
 |k::r,m,n,h=>by
  have h1:=zqx k (m-n)
  have h2:=zmF r m (n+cntV (m-n) k) (by omega)
  simp only[cntL,Vals.size]
  split
  ·push_cast;omega
  ·push_cast;omega
end
mutual
theorem zti:∀(v:Val) (m:Int),(cntV m v≤m↔(v.size:Int)≤m)∧(cntV m v≤m→cntV m v=v.size)
 | .mk _ _ ks,m=>by
  have:=zoS ks m 1
  simp only[cntV,Val.size];push_cast;exact this
theorem zoS:∀(l:List Val) (m n:Int),(cntL m n l≤m↔n+(Vals.size l:Int)≤m)∧(cntL m n l≤m→cntL m n l=n+Vals.size l)
 | [],m,n=>by simp[cntL,Vals.size]
 |k::r,m,n=>by
  have h1:=zti k (m-n)
  have h2:=zoS r m (n+cntV (m-n) k)
  have h3:=zmF r m (n+cntV (m-n) k)
  have h4:=zqx k (m-n)
  simp only[cntL,Vals.size]
  push_cast
  by_cases hn:n≤m
  ·rw[if_pos hn]
   by_cases h5:cntV (m-n) k≤m-n
   ·have h6:=h1.2 h5
    rw[h6] at h2 ⊢
    constructor
    ·rw[h2.1];constructor<;>intro h<;>omega
    ·intro h;rw[h2.2 h];omega
   ·have h7:¬(k.size:Int)≤m-n:=fun h=>h5 (h1.1.2 h)
    have h8:¬n+cntV (m-n) k≤m:=by omega
    rw[zsi h8]
    constructor
    ·constructor<;>intro h<;>omega
    ·intro h;omega
  ·rw[if_neg hn]
   constructor
   ·constructor<;>intro h<;>omega
   ·intro h;omega
end
theorem Vals.size_split {pre rest l:List Val}{y:Val} (h:pre++y::rest=l):Vals.size l=Vals.size pre+y.size+Vals.size rest:=by
 subst h
 induction pre with
 |nil=>simp[Vals.size]
 |cons x r ih=>simp only[List.cons_append,Vals.size,ih];omega
theorem zhB {α β:Type}{f:α→β→Bool}{a:List α}{b:List β} (h:all2 f a b=true):a.length=b.length:=by
 by_cases e:a.length=b.length
 ·exact e
 ·rw[zgK e] at h;exact absurd h (by simp)
structure Bd where
 var:Int
 val:Val
def Bd.c (b:Bd):List D:=[.i b.var,.i b.val.ctor,.i b.val.num,zj1 b.val.kids]
instance:Inhabited Bd:=⟨⟨0,default⟩⟩
def zhU (f:Pat→Val→List Bd×Bool):List Pat→List Val→List Bd→List Bd×Bool
 |p::r,v::s,acc=>if (f p v).2=true then zhU f r s (acc++(f p v).1) else ([],false)
 |_,_,acc=>(acc,true)
def za9:Nat→Pat→Val→List Bd×Bool
 |0,_,_=>([],false)
 |n+1,p,v=>
  if p.op=1 then ([],true)
  else if p.op=2 then ([⟨p.var,v⟩],true)
  else if p.op=3 then ([],zar v.num p.n p.m)
  else if p.op=5 then (if (za9 n (nth p.kids 0) v).2=true then ((za9 n (nth p.kids 0) v).1,true) else za9 n (nth p.kids 1) v)
  else if p.op=6 then (⟨p.var,v⟩::(za9 n (nth p.kids 0) v).1,(za9 n (nth p.kids 0) v).2)
  else if p.ctor=v.ctor then zhU (za9 n) p.kids v.kids [] else ([],false)
section
variable {n:Nat}{p:Pat}{v:Val}
theorem zuO (h:p.op=1):za9 (n+1) p v=([],true):=by unfold za9;rw[if_pos h]
theorem zuP (h:p.op=2):za9 (n+1) p v=([⟨p.var,v⟩],true):=by unfold za9;rw[if_neg (by omega),if_pos h]
theorem zuQ (h:p.op=3):za9 (n+1) p v=([],zar v.num p.n p.m):=by unfold za9;rw[if_neg (by omega),if_neg (by omega),if_pos h]
theorem ztv (h:p.op=5) (h2:(za9 n (nth p.kids 0) v).2=true):za9 (n+1) p v=((za9 n (nth p.kids 0) v).1,true):=by
 conv=>lhs;unfold za9
 rw[if_neg (by omega),if_neg (by omega),if_neg (by omega),if_pos h,if_pos h2]
theorem ztw (h:p.op=5) (h2:(za9 n (nth p.kids 0) v).2=false):za9 (n+1) p v=za9 n (nth p.kids 1) v:=by
 conv=>lhs;unfold za9
 rw[if_neg (by omega),if_neg (by omega),if_neg (by omega),if_pos h,if_neg (by rw[h2];simp)]
theorem zuS (h:p.op=6):za9 (n+1) p v=(⟨p.var,v⟩::(za9 n (nth p.kids 0) v).1,(za9 n (nth p.kids 0) v).2):=by
 conv=>lhs;unfold za9
 rw[if_neg (by omega),if_neg (by omega),if_neg (by omega),if_neg (by omega),if_pos h]
theorem zuR (h:p.op=4) (h2:p.ctor=v.ctor):za9 (n+1) p v=zhU (za9 n) p.kids v.kids []:=by
 conv=>lhs;unfold za9
 rw[if_neg (by omega),if_neg (by omega),if_neg (by omega),if_neg (by omega),if_neg (by omega),if_pos h2]
theorem ztu (h:p.op=4) (h2:¬p.ctor=v.ctor):za9 (n+1) p v=([],false):=by
 conv=>lhs;unfold za9
 rw[if_neg (by omega),if_neg (by omega),if_neg (by omega),if_neg (by omega),if_neg (by omega),if_neg h2]
end
def BdOk (m:Nat) (l:List Bd):Prop:=∀x∈l,x.val.ok∧x.val.size≤m
theorem BdOk.app {m:Nat}{a b:List Bd} (h1:BdOk m a) (h2:BdOk m b):BdOk m (a++b):=fun x hx=>by
 rcases List.mem_append.1 hx with h|h
 ·exact h1 x h
 ·exact h2 x h
theorem BdOk.mono {m k:Nat}{a:List Bd} (h:BdOk m a) (hk:m≤k):BdOk k a:=fun x hx=>⟨(h x hx).1,Nat.le_trans (h x hx).2 hk⟩
theorem zwg {w:List Data}{t:Ty}{p:Pat} (h:p.op=5):zaf w t p=[t,t]:=by unfold zaf;rw[if_neg (by omega),if_pos h]
theorem zwh {w:List Data}{t:Ty}{p:Pat} (h:p.op=6):zaf w t p=[t]:=by unfold zaf;rw[if_neg (by omega),if_neg (by omega),if_pos h]
theorem zaR {w:List Data}{t:Ty}{p:Pat} (h:p.op=4):zaf w t p=zaa w t p.ctor:=by unfold zaf;rw[if_pos h]
theorem ziB {w:List Data}{n:Nat}{t:Ty}{p:Pat} (h:zas w (n+1) t p=true):p.op=1∨p.op=2∨p.op=3∨p.op=4∨p.op=5∨p.op=6:=by
 have h1:=(zbH h).1
 unfold ownP at h1
 have h2:=(of_decide_eq_true h1).2.2.2.2
 omega
theorem zeO {w:List Data}{n:Nat}{t:Ty}{p:Pat} (h:zas w (n+1) t p=true) (h5:p.op=5):p.kids.length=2∧zas w n t (nth p.kids 0)=true∧zas w n t (nth p.kids 1)=true:=by
 have hl:=(zbH h).2
 have h0:=fun i hi=>zbG h (i:=i) hi
 rw[zwg h5] at hl h0
 have hl':p.kids.length=2:=hl
 exact⟨hl',h0 0 (by omega),h0 1 (by omega)⟩
theorem zeN {w:List Data}{n:Nat}{t:Ty}{p:Pat} (h:zas w (n+1) t p=true) (h6:p.op=6):p.kids.length=1∧zas w n t (nth p.kids 0)=true:=by
 have hl:=(zbH h).2
 have h0:=fun i hi=>zbG h (i:=i) hi
 rw[zwh h6] at hl h0
 have hl':p.kids.length=1:=hl
 exact⟨hl',h0 0 (by omega)⟩
theorem zqI {w:List Data}:∀(m:Nat){t:Ty}{v:Val},zaP w m t v=true→Hd w m t
 |0,_,_,h=>by simp[zaP] at h
 |m+1,t,v,h=>by
  by_cases hd:t.data = -1
  ·exact .inl hd
  ·unfold zaP at h
   rw[if_neg hd] at h
   split at h
   ·rename_i hc
    have hl:=zhB h
    refine .inr ⟨v.ctor,hc.2,hd,fun u hu=>?_⟩
    obtain⟨i,hi,rfl⟩:=List.getElem_of_mem hu
    have:=zfk hl h i hi
    have e:(zaa w t v.ctor)[i]=nth (zaa w t v.ctor) i:=by simp[nth,List.getD,hi]
    rw[e]
    exact zqI m this
   ·exact absurd h (by simp)
theorem zuL {w:List Data} (hd:Dp w){m:Nat}{t:Ty}{v:Val} (ht:InS (w.length*4) t) (h:zaP w m t v=true):0<dv (zai w) t:=by
 have a:Snd w (zai w)∧Cmp w (w.length*4+1) (zai w):=zcM hd.cl (w.length*4+1)
 have h1:=zqI m h
 rcases ht with ht|ht
 ·unfold dv;rw[if_pos ht];omega
 ·refine(zjg (k:=w.length*4+1) a.2 (.inr ht) ?_).1
  have:=ht.2
  rw[←this] at h1 ⊢
  exact zlB hd.cl ht.1 h1
theorem zeE {w:List Data}{m:Nat}{t:Ty}{v:Val} (h:zaP w (m+1) t v=true) (hd:t.data≠ -1):v.ctor∈zah w t∧(zaa w t v.ctor).length=v.kids.length∧∀i,i<v.kids.length→zaP w m (nth (zaa w t v.ctor) i) (nth v.kids i)=true:=by
 unfold zaP at h
 rw[if_neg hd] at h
 split at h
 ·rename_i hc
  have hl:=zhB h
  exact⟨by unfold zah;rw[if_neg hd];exact hc.2,hl,fun i hi=>zfk hl h i (by omega)⟩
 ·exact absurd h (by simp)
end Go.Proofs.YtpgdedpljcedpaaGreat
namespace Go.Proofs.YtpgdedpljcedpaaGreat
open Go
set_option linter.unusedSimpArgs false
set_option linter.unusedVariables false
def zl8 (ls:List (List Val)):List (List Val):=ls.foldl (fun acc l=>acc.flatMap fun o=>l.map fun y=>o++[y]) [[]]
def zeU:List Val:=(List.range 10).map fun(n:Nat)=>Val.mk (-1) n []
def zj2 (w:List Data):Nat→Ty→List Val
 |0,_=>[]
 |n+1,t=>if t.data = -1 then zeU else (za2 w t).flatMap fun c=>(zl8 ((zaa w t c).map (zj2 w n))).map (Val.mk c 0)
def zdC:List Nat→Nat
 | []=>1
 |a::r=>a*zdC r
theorem ztR (acc:List (List Val)) (l:List Val):(acc.flatMap fun o=>l.map fun y=>o++[y]).length=acc.length*l.length:=by
 induction acc with
 |nil=>simp
 |cons a r ih=>simp only[List.flatMap_cons,List.length_append,List.length_map,ih,List.length_cons,Nat.add_mul];omega
theorem zsx (ls:List (List Val)):∀acc:List (List Val),(ls.foldl (fun acc l=>acc.flatMap fun o=>l.map fun y=>o++[y]) acc).length=acc.length*zdC (ls.map List.length):=by
 induction ls with
 |nil=>intro acc;simp[zdC]
 |cons l r ih=>intro acc;simp only[List.foldl_cons,ih,ztR,List.map_cons,zdC,Nat.mul_assoc]
theorem zsM (ls:List (List Val)):(zl8 ls).length=zdC (ls.map List.length):=by unfold zl8;rw[zsx];simp
def capN (n:Nat):Nat:=if 401<n then 401 else n
end Go.Proofs.YtpgdedpljcedpaaGreat
namespace Go.Proofs.YtpgdedpljcedpaaGreat
open Go
set_option linter.unusedSimpArgs false
set_option linter.unusedVariables false
set_option maxRecDepth 100000
set_option maxHeartbeats 2000000
theorem Val.cs_cc (l:List Val):Val.cs l=l.map Val.cc:=by
 rw[Val.cs_eq];exact List.map_congr_left (fun v _=>Val.c_eq v)
end Go.Proofs.YtpgdedpljcedpaaGreat
namespace Go.Proofs.YtpgdedpljcedpaaGreat
open Go
set_option linter.unusedSimpArgs false
set_option linter.unusedVariables false
theorem Vals.ok_of:∀ {l:List Val},(∀v∈l,v.ok)→Vals.ok l
 | [],_=>trivial
 |v::r,h=>⟨h v (by simp),Vals.ok_of (fun x hx=>h x (List.mem_cons_of_mem _ hx))⟩
end Go.Proofs.YtpgdedpljcedpaaGreat
namespace Go.Proofs.YtpgdedpljcedpaaGreat
open Go
set_option linter.unusedSimpArgs false
set_option linter.unusedVariables false
set_option maxRecDepth 100000
set_option maxHeartbeats 2000000
theorem zd1 {α:Type}{N:Nat}{X Y:List α} (h:N≤X.length):(X++Y).take N=X.take N:=by
 rw[List.take_append,(by omega:N-X.length=0)];simp
theorem zu8 {α β:Type} [Inhabited β]{X:List α}{l:List β}{h:β→α}{j m:Nat} (hj:j<l.length) (hl:((X++(l.take j).map h).take (m+1)).length≤m):
  (X++(l.take (j+1)).map h).take (m+1)=(X++(l.take j).map h).take (m+1)++[h (nth l j)]:=by
 have e1:l.take (j+1)=l.take j++[nth l j]:=by rw[List.take_succ_eq_append_getElem hj,zaG hj]
 rw[List.length_take] at hl
 have h2:(X++(l.take j).map h).length≤m:=by omega
 rw[e1,List.map_append,←List.append_assoc,List.take_of_length_le (by simp at h2 ⊢;omega),List.take_of_length_le (l:=X++(l.take j).map h) (by omega)]
 rfl
theorem zu7 {α β:Type}{X:List α}{l:List β}{h:β→α}{j m:Nat} (hc:¬j<l.length∨¬((X++(l.take j).map h).take (m+1)).length≤m):
  (X++(l.take j).map h).take (m+1)=(X++l.map h).take (m+1):=by
 rcases hc with hc|hc
 ·rw[List.take_of_length_le (l:=l) (by omega)]
 ·rw[List.length_take] at hc
  have e:l.map h=(l.take j).map h++(l.drop j).map h:=by rw[←List.map_append,List.take_append_drop]
  rw[e,←List.append_assoc,zd1 (X:=X++(l.take j).map h) (by omega)]
theorem zqJ {α β:Type} [Inhabited β]{l:List β}{g:β→List α}{j:Nat} (hj:j<l.length):(l.take (j+1)).flatMap g=(l.take j).flatMap g++g (nth l j):=by
 rw[List.take_succ_eq_append_getElem hj,List.flatMap_append,zaG hj];simp
theorem zmL {α β:Type}{l:List β}{g:β→List α}{j m:Nat} (hc:¬j<l.length∨¬(((l.take j).flatMap g).take (m+1)).length≤m):
  ((l.take j).flatMap g).take (m+1)=(l.flatMap g).take (m+1):=by
 rcases hc with hc|hc
 ·rw[List.take_of_length_le (l:=l) (by omega)]
 ·rw[List.length_take] at hc
  have e:l.flatMap g=(l.take j).flatMap g++(l.drop j).flatMap g:=by rw[←List.flatMap_append,List.take_append_drop]
  rw[e,zd1 (X:=(l.take j).flatMap g) (by omega)]
structure MatchOk (w:List Data) (n m:Nat) (t:Ty) (p:Pat) (v:Val):Prop where
 shape:zas w n t p=true
 fits:zaP w m t v=true
 pok:p.ok
 vok:v.ok
 psz:p.size≤100
 vsz:v.size≤100
theorem MatchOk.two {w:List Data}{n m:Nat}{t:Ty}{p:Pat}{v:Val} (h:MatchOk w (n+1) m t p v) (h5:p.op=5):
  p.kids.length=2∧MatchOk w n m t (nth p.kids 0) v∧MatchOk w n m t (nth p.kids 1) v:=by
 obtain⟨hl,s0,s1⟩:=zeO h.shape h5
 have hpk:=(Pat.ok_iff p).1 h.pok
 have hps:=Pat.size_eq p
 have z0:=zeM (l:=p.kids) (i:=0) (by omega)
 have z1:=zeM (l:=p.kids) (i:=1) (by omega)
 have hs:=h.psz
 exact⟨hl,⟨s0,h.fits,Pats.ok_mem hpk.2 _ (zae (by omega)),h.vok,by omega,h.vsz⟩,⟨s1,h.fits,Pats.ok_mem hpk.2 _ (zae (by omega)),h.vok,by omega,h.vsz⟩⟩
theorem MatchOk.one {w:List Data}{n m:Nat}{t:Ty}{p:Pat}{v:Val} (h:MatchOk w (n+1) m t p v) (h6:p.op=6):
  p.kids.length=1∧MatchOk w n m t (nth p.kids 0) v:=by
 obtain⟨hl,s0⟩:=zeN h.shape h6
 have hpk:=(Pat.ok_iff p).1 h.pok
 have hps:=Pat.size_eq p
 have z0:=zeM (l:=p.kids) (i:=0) (by omega)
 have hs:=h.psz
 exact⟨hl,⟨s0,h.fits,Pats.ok_mem hpk.2 _ (zae (by omega)),h.vok,by omega,h.vsz⟩⟩
structure VarsOk (l:List Bd) (vs:List Vt):Prop where
 len:l.length=vs.length
 nod:(l.map Bd.var).Nodup
 sub:∀x∈l.map Bd.var,x∈vs.map Vt.var
end Go.Proofs.YtpgdedpljcedpaaGreat
namespace Go.Proofs.YtpgdedpljcedpaaGreat
open Go
set_option linter.unusedSimpArgs false
set_option linter.unusedVariables false
section
variable {c:Ctx}{all:Array Oper}{chk:List Rec→Prop}{os:List Oper}{recs:List Rec}{env:Env}{hp:Hp}{Q:St→Prop}
variable {ty:Nat}{pos:String}{af:Array Edge}{g:Option (Nat×Bool)}{pg:List (Nat×AV)}{t:TypeId}{x:Operand}
theorem Walk.clearB {id off n k e yb:Nat}{cs cs' zs:List AV} (ht:SlT c.P t e k yb) (hz:TyZ c.P e k zs) (hzk:zs.length=k) (hk:0<k) (h1:zhI zs=true) (hg:GH all env g pg) (hx:opd env x=some (.mo id off n))
  (hb:getH hp id=some (.box cs)) (hput:putC cs off (za8 n zs)=some cs')
  (hn:Walk c all chk os (zao (pg++opF x (.mo id off n)) [(id,.box cs)] [] ⟨none,[(id,some (.box cs'))]⟩::recs) ⟨env,(id,some (.box cs'))::hp⟩ Q):
  Walk c all chk (⟨none,.call ⟨.builtin .clear,#[x],#[t]⟩,ty,pos,af,g⟩::os) recs ⟨env,hp⟩ Q:=by
 refine⟨pg++opF x (.mo id off n),[(id,.box cs)],[],_, ?_,zaz hg.facts (za5 hx),hh1 hb,by simp,hn⟩
 intro s a w hrel hp' hh _ K Q' hK
 obtain⟨G,hr⟩:=hrel
 have hbx:=hh1' hh
 have e1:=hr.opd (za6 hx (fun p hm=>hp' p (by simp[hm])))
 obtain⟨bl,o,cap,hl,he,hcap,ho⟩:=e1.mo_eq
 obtain⟨b',us,et,h2,h3,h4,h5,h6⟩:=hr.heap id _ hbx
 obtain rfl:=zcL hl.1 h2
 have hall:PreR G (tokf s.hp) w cs us:=⟨h4,h6⟩
 unfold wpO
 rw[if_pos (hg.gf.wanted hr (fun p hm=>hp' p (by simp[hm])))]
 unfold Oper.wp
 rcases Nat.eq_zero_or_pos n with hn0|hn0
 ·subst hn0
  have hcs:cs'=cs:=by
   simp only[za8] at hput
   cases cs<;>simp only[putC,Option.some.injEq] at hput<;>exact hput.symm
  subst hcs
  have hrun:(execOp a.eval ⟨none,.call ⟨.builtin .clear,#[x],#[t]⟩,ty,pos,af,g⟩).run c.P w = .ok (.value (.tuple #[])) w:=by
   simp[execOp,resolve,invoke,builtin,he,Builtin.clear_,run_underlying ht.und]
  rw[hrun,Oper.upon_value]
  refine hK _ _ ⟨G, ?_⟩
  have hsame:∀i,getH ((id,some (Res.box cs'))::s.hp) i=getH s.hp i:=fun i=>by
   rw[zaj]
   split
   ·rename_i e;subst e;exact hbx.symm
   ·rfl
  have htk:tokf ((id,some (Res.box cs'))::s.hp)=tokf s.hp:=by funext i;unfold tokf;rw[hsame]
  have:R c G ⟨s.env,(id,some (Res.box cs'))::s.hp⟩ a w:=
   ⟨hr.size,hr.defers,fun i v h=>by rw[htk];exact hr.slots i v h,fun i r h=>by rw[htk];exact hr.heap i r (by rw[←hsame];exact h),
   fun i j h1 h2=>hr.disj i j (by rw[←hsame];exact h1) (by rw[←hsame];exact h2),fun i h=>hr.new i (by rw[←hsame];exact h),hr.frm,hr.top,
   fun i l h'=>by
    show(G.loc i).head?=l.head?∧(getH ((id,some (Res.box cs'))::s.hp) i).isSome∧tokf ((id,some (Res.box cs'))::s.hp) i=none
    rw[hsame,htk];exact hr.kept i l h'⟩
  exact this.putNone
 ·obtain rfl:o=off:=ho.resolve_left (by omega)
  obtain⟨ie,z,z1,z2,z3,z4⟩:=hz.inf
  have hz0:=zb1 (G:=G) (T:=tokf s.hp) (w:=w) z4
  have hzr:=zf7 (by simpa using hz0) n (by omega)
  have hzs:z.cells.size=k:=by have:=hz0.size;simp at this;omega
  let vl:List Value:=(Builtin.zeroCells z.cells n).toList
  have hvl:vl.toArray=(Array.range (n*zs.length)).map (z.cells[· % z.cells.size]!):=by
   simp only[vl,Builtin.zeroCells,Array.toArray_toList]
   rw[hzs,hzk]
  have hvr:AllR G (tokf s.hp) w (za8 n zs) vl.toArray:=by rw[hvl];exact hzr
  have hne:za8 n zs≠[]:=fun h=>by
   have:=congrArg List.length h
   rw[zei] at this
   have h2:0<n*zs.length:=Nat.mul_pos hn0 (by omega)
   simp only[List.length_nil] at this
   omega
  obtain⟨p1,p2,p3⟩:=zc5 hput
  have p2':=p2.resolve_left hne
  have hsz:=hvr.size
  have hsv:vl.toArray.size=vl.length:=by simp only[List.size_toArray]
  simp only[List.size_toArray] at hsz
  have hzone:∀i (hi:i<zs.length) (hv:i<z.cells.size),z.cells[i].oneCell'=true:=fun i hi hv=>by
   have:=hz0.rel i hi (by simpa using hv)
   simp only[List.getElem_toArray,Array.getElem_toList] at this
   exact this.one (zh6 h1 _ (List.getElem_mem hi))
  have hst:=run_storeCells_at c.P bl o et vl 0 us w h3 (by omega) (fun u hu=>by
   simp only[vl,Builtin.zeroCells,Array.toList_map,List.mem_map] at hu
   obtain⟨i,_,rfl⟩:=hu
   have hm:i % z.cells.size<z.cells.size:=Nat.mod_lt _ (by omega)
   rw[getElem!_pos z.cells _ hm]
   exact hzone _ (by omega) hm)
  simp only[Nat.add_zero] at hst
  have hrow:PreR G (tokf s.hp) w cs' (us.toList.take o++vl++us.toList.drop (o+vl.length)).toArray:=by
   refine hall.put hvr hput ?_ (fun i=>?_)
   ·simp only[List.size_toArray,List.length_append,List.length_take,List.length_drop,Array.length_toList];omega
   ·simp only[List.getElem?_toArray]
    rw[List.append_assoc,List.getElem?_append]
    simp only[List.length_take,Array.length_toList]
    by_cases hi:i<o
    ·rw[if_pos (by omega),if_neg (by omega)]
     simp[hi]
    ·rw[if_neg (by omega),List.getElem?_append]
     have hm:min o us.size=o:=by omega
     rw[hm]
     by_cases hi2:i<o+vl.length
     ·rw[if_pos (by omega),if_pos (by omega)]
     ·rw[if_neg (by omega),if_neg (by omega)]
      rw[List.getElem?_drop,show o+vl.length+(i-o-vl.length)=i by omega]
      simp
  have hrun:(execOp a.eval ⟨none,.call ⟨.builtin .clear,#[x],#[t]⟩,ty,pos,af,g⟩).run c.P w = .ok (.value (.tuple #[])) (w.setRow bl (us.toList.take o++vl++us.toList.drop (o+vl.length)).toArray):=by
   obtain⟨m,rfl⟩:∃m,n=m+1:=⟨n-1,by omega⟩
   have hzv:(zeroValue e).run c.P w = .ok z w:=zkZ z1 z3
   simp only[vl] at hst
   simp[execOp,resolve,invoke,builtin,he,Builtin.clear_,run_underlying ht.und,hzv,hst,vl]
  rw[hrun,Oper.upon_value]
  exact hK _ _ ⟨G,(hr.setBox hbx h2 h3 h5 hrow).putNone⟩
end
theorem zuM {G G':Gh}{T T':TokF}{w:World}{id n k b:Nat}{us:Array Value}{e:TypeId}{x:Value}{cs:List AV}{es:List (List D)} (hx:RelA G T w (.ms id n) x) (h1:G.loc id=[b]) (h2:w.heap[b]?=some (.cells us e (0,0))) (h3:cs.length≤us.size)
  (h5:∀i (hi:i<cs.length) (hv:i<us.size),RelA G T w cs[i] us[i]) (hFb:G'.F b=us.size) (hcell:∀y o,o<G.F y→o<G'.F y∧w.cell? ⟨y,o,none⟩=w.cell? ⟨y,o,none⟩) (hc:zbS n k (cs.take (n*k))=some es):RelA G' T' w (.d (.sl es)) x:=by
 obtain⟨c1,c2,c3,c4⟩:=zen hc
 have c3':n*k≤cs.length:=by rw[List.length_take] at c3;omega
 obtain⟨b',cap,hl,he,hcap⟩:=hx.ms_eq
 obtain rfl:=(zcL hl.1 h1).symm
 rw[he]
 refine .d ?_
 have hn':n=es.length:=c1.symm
 rw[hn']
 refine .sl es k b 0 cap (fun x=>us.getD x undef) c2 (by omega) (fun x hx=>?_) (fun i hi j hj=>?_)
 ·have h3':x<cs.length:=by rw[←c1] at c3';omega
  have hxs:x<us.size:=Nat.lt_of_lt_of_le h3' h3
  refine⟨by rw[hFb];omega, ?_⟩
  simp[World.cell?,h2,hxs]
 ·have hjk:j<k:=by rw[←c2 _ (List.getElem_mem hi)];exact hj
  have hltn:i*k+j<n*k:=by
   rw[←c1]
   have:(i+1)*k≤es.length*k:=Nat.mul_le_mul_right _ (by omega)
   rw[Nat.add_mul] at this
   omega
  have hlt:i*k+j<cs.length:=by omega
  have hlu:i*k+j<us.size:=by omega
  have h8:=c4 i hi j hj (by rw[List.length_take];omega)
  rw[List.getElem_take] at h8
  have h6:=(h5 _ hlt hlu).toD h8
  have h7:us.getD (i*k+j) undef=us[i*k+j]:=by simp[Array.getD,hlu]
  rw[h7]
  exact h6.mono hcell
def zo7 (env:Env) (hp:Hp) (j:Nat):Bool:=
 (match getH hp j with|none=>true|some _=>false)&&(env.all fun x=>match getE env x.1 with|some v=> !za4 j v.ids|none=>true)&&(hp.all fun x=>match getH hp x.1 with|some r=> !za4 j r.ids|none=>true)
theorem zo8:∀ {env:Env}{i:Nat}{v:AV},getE env i=some v→∃u,(i,u)∈env
 |(k,x)::r,i,v,h=>by
  simp only[getE] at h
  cases hb:Nat.beq k i with
  |true=>obtain rfl:=Nat.eq_of_beq_eq_true hb;exact⟨x,by simp⟩
  |false=>
   simp only[hb,cond_false] at h
   obtain⟨u,hu⟩:=zo8 h
   exact⟨u,List.mem_cons_of_mem _ hu⟩
theorem zp7 {env:Env}{hp:Hp}{j:Nat} (h:zo7 env hp j=true):getH hp j=none∧zc3 j ⟨env,hp⟩:=by
 simp only[zo7,Bool.and_eq_true,List.all_eq_true] at h
 obtain⟨⟨h1,h2⟩,h3⟩:=h
 refine⟨?_,fun i v hv hm=>?_,fun i r hr hm=>?_⟩
 ·cases hg:getH hp j with
  |none=>rfl
  |some x=>simp[hg] at h1
 ·obtain⟨u,hu⟩:=zo8 hv
  have:=h2 _ hu
  rw[show getE env (i,u).1=some v from hv] at this
  change (!za4 j v.ids)=true at this
  rw[zaY.2 hm] at this
  cases this
 ·obtain⟨u,hu⟩:=zim hr
  have:=h3 _ hu
  rw[show getH hp (i,u).1=some r from hr] at this
  change (!za4 j r.ids)=true at this
  rw[zaY.2 hm] at this
  cases this
theorem CWp.tokDrop {c:Ctx}{env:Env}{hp:Hp}{K:Kt}{code:Code} (t i:Nat){n k:Nat}{xs:List (List D)} (ht:getE env t=some (.gl i xs)) (hi:getH hp i=some (.tok n k))
  (hn:CWp c code ⟨(t,.d (.sl xs))::env,(i,none)::hp⟩ K):CWp c code ⟨env,hp⟩ K:=by
 rintro a w ⟨G,hr⟩
 have g1:∀x,x≠i→getH ((i,none)::hp) x=getH hp x:=fun x h1=>by rw[zaj,if_neg h1]
 have gi:getH ((i,none)::hp) i=none:=by rw[zaj,if_pos rfl]
 have Ti:tokf hp i=some (n,k):=zaw.2 hi
 have Ti':tokf ((i,none)::hp) i=none:=by unfold tokf;rw[gi]
 have hT:Turn c G ⟨env,hp⟩ w G ((i,none)::hp) [i]:=by
  refine⟨fun x hx=>?_,fun x hx=>rfl,fun b _=>rfl,fun b o ho=>ho,hr.top,fun x hx=>?_,fun x hx hs b hb=>?_,fun x hx y hy hxy h1 h2 b hb=>?_,fun x hx l hl=>?_⟩
  ·simp only[List.mem_cons,List.not_mem_nil,or_false] at hx
   exact g1 x hx
  ·simp only[List.mem_cons,List.not_mem_nil,or_false] at hx
   subst hx
   exact .inr ⟨.inl rfl,fun p hp'=>by rw[Ti'] at hp';cases hp'⟩
  ·simp only[List.mem_cons,List.not_mem_nil,or_false] at hx
   subst hx
   rw[gi] at hs;cases hs
  ·simp only[List.mem_cons,List.not_mem_nil,or_false] at hx hy
   exact absurd (hx.trans hy.symm) hxy
  ·have hk:=hr.kept x l hl
   simp only[List.mem_cons,List.not_mem_nil,or_false] at hx
   subst hx
   have:=hk.2.2
   rw[show tokf (St.mk env hp).hp x=some (n,k) from Ti] at this;cases this
 have hR:=hT.fin hr (fun x hx r hxr=>by
  simp only[List.mem_cons,List.not_mem_nil,or_false] at hx
  subst hx
  rw[gi] at hxr;cases hxr)
 refine hn a w ⟨G,hR.slot ?_⟩
 have hs:=hr.slots t _ ht
 cases hs with
 |gl h h2=>exact .d h
theorem R.tokMove {c:Ctx}{G:Gh}{s:St}{a:Act}{w:World} (hr:R c G s a w) (i j:Nat){n k:Nat} (m:Nat) (hi:getH s.hp i=some (.tok n k)) (h0:getH s.hp j=none) (hocc:zc3 j s):
  ∃G':Gh,R c G' ⟨s.env,(j,some (.tok m k))::(i,none)::s.hp⟩ a w∧G'.F=G.F∧G'.loc j=G.loc i∧tokf ((j,some (Res.tok m k))::(i,none)::s.hp) j=some (m,k):=by
 have hji:j≠i:=fun e=>by subst e;rw[h0] at hi;cases hi
 have g1:∀x,x≠j→x≠i→getH ((j,some (Res.tok m k))::(i,none)::s.hp) x=getH s.hp x:=fun x h1 h2=>by
  rw[zaj,if_neg h1,zaj,if_neg h2]
 have gj:getH ((j,some (Res.tok m k))::(i,none)::s.hp) j=some (.tok m k):=by rw[zaj,if_pos rfl]
 have gi:getH ((j,some (Res.tok m k))::(i,none)::s.hp) i=none:=by rw[zaj,if_neg (fun e=>hji e.symm),zaj,if_pos rfl]
 have Ti:tokf s.hp i=some (n,k):=zaw.2 hi
 have Tj:tokf ((j,some (Res.tok m k))::(i,none)::s.hp) j=some (m,k):=zaw.2 gj
 have Ti':tokf ((j,some (Res.tok m k))::(i,none)::s.hp) i=none:=by unfold tokf;rw[gi]
 let G':Gh:={ G with loc:=fun x=>bif Nat.beq x j then G.loc i else G.loc x }
 have lj:G'.loc j=G.loc i:=by simp[G']
 have lo:∀x,x≠j→G'.loc x=G.loc x:=fun x h=>by simp[G',zfN h]
 have hsi:(getH s.hp i).isSome:=by rw[hi];rfl
 have hT:Turn c G s w G' ((j,some (Res.tok m k))::(i,none)::s.hp) [i,j]:=by
  refine⟨fun x hx=>?_,fun x hx=>?_,fun b _=>rfl,fun b o ho=>ho,hr.top,fun x hx=>?_,fun x hx hs b hb=>?_,fun x hx y hy hxy h1 h2 b hb=>?_,fun x hx l hl=>?_⟩
  ·simp only[List.mem_cons,List.not_mem_nil,or_false,not_or] at hx
   exact g1 x hx.2 hx.1
  ·simp only[List.mem_cons,List.not_mem_nil,or_false,not_or] at hx
   exact lo x hx.2
  ·simp only[List.mem_cons,List.not_mem_nil,or_false] at hx
   rcases hx with rfl|rfl
   ·exact .inr ⟨.inl (lo _ (fun e=>hji e.symm)),fun p hp'=>by rw[Ti'] at hp';cases hp'⟩
   ·exact .inl hocc
  ·simp only[List.mem_cons,List.not_mem_nil,or_false] at hx
   rcases hx with rfl|rfl
   ·rw[gi] at hs;cases hs
   ·exact⟨i,by simp,hsi,by rw[lj] at hb;exact hb⟩
  ·simp only[List.mem_cons,List.not_mem_nil,or_false] at hx hy
   rcases hx with rfl|rfl
   ·rw[gi] at h1;cases h1
   ·rcases hy with rfl|rfl
    ·rw[gi] at h2;cases h2
    ·exact absurd rfl hxy
  ·have hk:=hr.kept x l hl
   simp only[List.mem_cons,List.not_mem_nil,or_false] at hx
   rcases hx with rfl|rfl
   ·have:=hk.2.2
    rw[Ti] at this;cases this
   ·have:=hk.2.1
    rw[h0] at this;cases this
 have hR:=hT.fin hr (fun x hx r hxr=>by
  simp only[List.mem_cons,List.not_mem_nil,or_false] at hx
  rcases hx with rfl|rfl
  ·rw[gi] at hxr;cases hxr
  ·rw[gj] at hxr;cases hxr
   intro b hb
   rw[lj] at hb
   exact hr.heap i _ hi b hb)
 exact⟨G',hR,rfl,lj,Tj⟩
theorem CWp.tokRen {c:Ctx}{env:Env}{hp:Hp}{K:Kt}{code:Code} (t i j:Nat){n k:Nat}{xs:List (List D)} (ht:getE env t=some (.gl i xs)) (hi:getH hp i=some (.tok n k)) (hf:zo7 env hp j=true)
  (hn:CWp c code ⟨(t,.gl j xs)::env,(j,some (.tok n k))::(i,none)::hp⟩ K):CWp c code ⟨env,hp⟩ K:=by
 rintro a w ⟨G,hr⟩
 obtain⟨h0,hocc⟩:=zp7 hf
 have Ti:tokf hp i=some (n,k):=zaw.2 hi
 obtain⟨G',hR,hF,lj,Tj⟩:=hr.tokMove i j n hi h0 hocc
 refine hn a w ⟨G',hR.slot ?_⟩
 have hs:=hr.slots t _ ht
 cases hs with
 |gl h h2=>
  refine .gl (by rw[hF];exact h) (fun n' k' hT'=>?_)
  have hT2:tokf ((j,some (Res.tok n k))::(i,none)::hp) j=some (n',k'):=hT'
  rw[Tj] at hT2
  cases hT2
  obtain⟨q1,q2⟩:=h2 n k Ti
  refine⟨q1,fun hn'=>⟨(q2 hn').1, ?_⟩⟩
  have:=(q2 hn').2
  unfold Tip at this ⊢
  rw[lj,hF]
  exact this
section
variable {c:Ctx}{all:Array Oper}{chk:List Rec→Prop}{os:List Oper}{recs:List Rec}{env:Env}{hp:Hp}{Q:St→Prop}
variable {d ty:Nat}{pos:String}{af:Array Edge}{g:Option (Nat×Bool)}{pg:List (Nat×AV)}{t:TypeId}{x:Operand}
theorem Walk.cutV_h {id e k yb:Nat} (j:Nat){xs:List (List D)}{o:Operand}{kd:IntKind}{n:Int}{b:Nat} (ht:SlT c.P t e k yb) (hg:GH all env g pg) (hd:Nat.blt d c.n=true)
  (hx:opd env x=some (.gv id xs)) (htok:getH hp id=some (.tok xs.length k)) (ho:opd env o=some (.d (.int kd n))) (hi:n = ↑b) (hb:b≤xs.length) (hpos:0<xs.length) (hf:zaA env hp [j]=true)
  (hn:Walk c all chk os (zao (pg++(opF x (.gv id xs)++opF o (.d (.int kd n)))) [(id,.tok xs.length k)] [j] ⟨some (d,.gv j (xs.take b)),[(j,some (.tok b k)),(id,none)]⟩::recs)
   ⟨(d,.gv j (xs.take b))::env,(j,some (.tok b k))::(id,none)::hp⟩ Q):
  Walk c all chk (⟨some d,.slice t x none (some o) none,ty,pos,af,g⟩::os) recs ⟨env,hp⟩ Q:=by
 refine⟨pg++(opF x (.gv id xs)++opF o (.d (.int kd n))),[(id,.tok xs.length k)],[j],_, ?_,zaz hg.facts (zaz (za5 hx) (za5 ho)),hh1 htok,zbv hf,hn⟩
 intro s a w hrel hp' hh hcr K Q' hK
 obtain⟨G,hr⟩:=hrel
 have e1:=hr.opd (za6 hx (fun p hm=>hp' p (by simp[hm])))
 have e2:=hr.opd (za6 ho (fun p hm=>hp' p (by simp[hm])))
 have htk:=hh1' hh
 obtain⟨h0,hocc⟩:=hcr j (by simp)
 obtain⟨⟨ad,cap0,hv0⟩,hcl⟩:=e1.gv_inv
 have Ti:tokf s.hp id=some (xs.length,k):=zaw.2 htk
 obtain⟨hkx,htip⟩:=(hcl _ _ Ti).2 rfl
 rcases htip with ⟨_,q2,_⟩|⟨bl,cap,cs,et,q1,q2,q3,q4,q5,q6,q7⟩
 ·omega
 obtain⟨G',hR,hF,lj,Tj⟩:=hr.tokMove id j b htk h0 hocc
 unfold wpO
 rw[if_pos (hg.gf.wanted hr (fun p hm=>hp' p (by simp[hm])))]
 unfold Oper.wp
 have hbd:=zef (P:=c.P) (w:=w) true xs.length cap (lo:=none) (hi:=some (.int kd b)) (a:=0) (b:=b) (.inl ⟨rfl,rfl⟩) (.inr ⟨kd,rfl⟩) (Nat.zero_le _) (by omega)
 have hrun:(execOp a.eval ⟨some d,.slice t x none (some o) none,ty,pos,af,g⟩).run c.P w = .ok (.value (.slice (some ⟨bl,0,none⟩) b cap)) w:=by
  simp only[execOp,e2.int_eq,hi,q2,Option.map_none,Option.map_some,Instr.sliceAt,Sem.run_bind,run_underlying ht.und,Result.andThen_ok,Instr.slice,hbd,ht.run_size,Sem.run_pure,Nat.zero_mul,Nat.sub_zero,zcF,Nat.zero_add,ite_self]
 rw[hrun,Oper.upon_value]
 have hl:(xs.take b).length=b:=by rw[List.length_take];omega
 have hA:RelA G' (tokf ((j,some (Res.tok b k))::(id,none)::s.hp)) w (.gv j (xs.take b)) (.slice (some ⟨bl,0,none⟩) b cap):=by
  refine .gv ⟨some ⟨bl,0,none⟩,cap,by rw[hl]⟩ (fun n' k' hT'=>?_)
  rw[Tj] at hT'
  cases hT'
  refine⟨by omega,fun _=>⟨fun y hy=>hkx y (List.mem_of_mem_take hy),.inr ⟨bl,cap,cs,et,by rw[lj];exact q1,rfl,by rw[hF];exact q3,q4,q5,by omega,fun i hi' jj hj'=>?_⟩⟩⟩
  have hix:i<xs.length:=by rw[hl] at hi';omega
  have h9:=q7 i hix jj (by simpa [List.getElem_take] using hj')
  rw[hF]
  simpa [List.getElem_take] using h9
 exact hK _ _ ⟨G',hR.put hA hd⟩
end
theorem FnD.glD {P:Program}{f:FuncId}{i n k:Nat}{args:List AV}{xs:List (List D)} (h:FnD P f args [] (.gl i xs) [(i,some (.tok n k))]):FnD P f args [] (.d (.sl xs)) []:=by
 intro G w vals hok
 refine(h G w vals hok).mono ?_
 rintro e w' ⟨v,r',hp',G',rfl,⟨rfl,rfl⟩,hret⟩
 refine⟨v,_,_,G',rfl,⟨rfl,rfl⟩, ?_,fun id x hx=>(by cases hx),fun id id' h1=>(by cases h1),fun id h1=>(by cases h1),hret.frm,hret.top,fun id hi=>(by simp[zbY,getH] at hi)⟩
 have:=hret.res
 cases this with
 |gl h1 h2=>exact .d h1
theorem FnD.gvRen {P:Program}{f:FuncId}{i k:Nat} (j:Nat){args:List AV}{xs:List (List D)} (h:FnD P f args [] (.gv i xs) [(i,some (.tok xs.length k))]):FnD P f args [] (.gv j xs) [(j,some (.tok xs.length k))]:=by
 intro G w vals hok
 refine(h G w vals hok).mono ?_
 rintro e w' ⟨v,r',hp',G',rfl,⟨rfl,rfl⟩,hret⟩
 have gi:getH ([(i,some (Res.tok xs.length k))]++[]) i=some (.tok xs.length k):=by simp[getH]
 have gj:∀x,(getH ([(j,some (Res.tok xs.length k))]++[]) x).isSome→x=j:=fun x hx=>by
  by_cases e:j=x
  ·exact e.symm
  ·simp[getH,zfN e] at hx
 have Ti:tokf ([(i,some (Res.tok xs.length k))]++[]) i=some (xs.length,k):=zaw.2 gi
 let G2:Gh:={ G' with loc:=fun x=>G'.loc i }
 refine⟨v,_,_,G2,rfl,⟨rfl,rfl⟩, ?_,fun id x hx=>?_,fun id id' h1 h2 hne=>absurd ((gj id h1).trans (gj id' h2).symm) hne,fun id h1 b hb=>hret.new i (by rw[gi];rfl) b hb,hret.frm,hret.top,fun id hi=>(by simp[zbY,getH] at hi)⟩
 ·have:=hret.res
  cases this with
  |gv hv h2=>
   refine .gv hv (fun n' k' hT'=>?_)
   have hT2:=zaw.1 hT'
   have e1:Res.tok xs.length k=Res.tok n' k':=by simp[getH] at hT2;rw[hT2.1,hT2.2]
   cases e1
   obtain⟨q1,q2⟩:=h2 _ _ Ti
   refine⟨q1,fun hn'=>⟨(q2 hn').1, ?_⟩⟩
   have:=(q2 hn').2
   unfold TipV at this ⊢
   exact this
 ·have e1:=gj id (by rw[hx];rfl)
  subst e1
  have e2:x=Res.tok xs.length k:=by simp[getH] at hx;exact hx.symm
  subst e2
  intro b hb
  exact hret.heap i _ gi b hb
theorem FnD.gvD {P:Program}{f:FuncId}{i k:Nat}{args:List AV}{xs:List (List D)} (h:FnD P f args [] (.gv i xs) [(i,some (.tok xs.length k))]):FnD P f args [] (.d (.sl xs)) []:=by
 intro G w vals hok
 refine(h G w vals hok).mono ?_
 rintro e w' ⟨v,r',hp',G',rfl,⟨rfl,rfl⟩,hret⟩
 have gi:getH ([(i,some (Res.tok xs.length k))]++[]) i=some (.tok xs.length k):=by simp[getH]
 have Ti:tokf ([(i,some (Res.tok xs.length k))]++[]) i=some (xs.length,k):=zaw.2 gi
 have hown:∀b,b∉zcN G []:=fun b hb=>by simp[zcN] at hb
 have hnew:∀b,b∈G'.loc i→w.heap.size≤b:=fun b hb=>(hret.new i (by rw[gi];rfl) b hb).resolve_left (hown b)
 have hlt:∀b,b∈G'.loc i→b<w'.heap.size:=hret.heap i _ gi
 have hres:=hret.res
 obtain⟨hv,hcl⟩:=hres.gv_inv
 obtain⟨hkx,htip⟩:=(hcl _ _ Ti).2 rfl
 rcases htip with ⟨_,q2,q3⟩|⟨bl,cap,cs,et,q1,q2,q3,q4,q5,q6,q7⟩
 ·have hxs:xs=[]:=List.eq_nil_of_length_eq_zero q2
  subst hxs
  refine⟨v,_,_,G',rfl,⟨rfl,rfl⟩, ?_,fun id x hx=>(by cases hx),fun id id' h1=>(by cases h1),fun id h1=>(by cases h1),hret.frm,hret.top,fun id hi=>(by simp[zbY,getH] at hi)⟩
  rw[q3];exact .d .nil
 ·let G2:Gh:={ G' with F:=fun x=>bif Nat.beq x bl then cs.size else G'.F x }
  have hin:G2.F bl=cs.size:=by simp[G2]
  have hout:∀x,x≠bl→G2.F x=G'.F x:=fun x hx=>by simp[G2,zfN hx]
  have hbl:bl∈G'.loc i:=by rw[q1];simp
  have hle:∀b o,o<G'.F b→o<G2.F b:=fun x o ho=>by
   by_cases hx:x=bl
   ·subst hx;rw[q3] at ho;omega
   ·rw[hout x hx];exact ho
  refine⟨v,_,_,G2,rfl,⟨rfl,rfl⟩, ?_,fun id x hx=>(by cases hx),fun id id' h1=>(by cases h1),fun id h1=>(by cases h1), ?_,fun x hx=>?_,fun id hi=>(by simp[zbY,getH] at hi)⟩
  ·rw[q2]
   have hsz:xs.length*k≤cs.size:=Nat.le_trans (Nat.mul_le_mul_right _ q6) q5
   refine .d (.sl xs k bl 0 cap (fun n=>cs.getD n undef) hkx q6 (fun q hq=>⟨by rw[hin];omega, ?_⟩) (fun q hq jj hj=>?_))
   ·have:q<cs.size:=by omega
    simp[World.cell?,q4,this]
   ·exact(q7 q hq jj hj).mono (fun b o ho=>⟨hle b o ho,rfl⟩)
  ·have hf:=hret.frm
   exact⟨hf.os,hf.tape,hf.output,hf.size,fun x hx hn=>⟨(hf.block x hx hn).1,by
    rw[hout x (fun e=>by subst e;have:=hnew x hbl;omega)];exact(hf.block x hx hn).2⟩,fun x o ho=>⟨hle x o (hf.cell x o ho).1,(hf.cell x o ho).2⟩⟩
  ·by_cases hx':x=bl
   ·subst hx';have:=hlt x hbl;omega
   ·rw[hout x hx'];exact hret.top x hx
theorem zn8 {zs:List AV}:∀ {n i j:Nat},i<n→j<zs.length→(za8 n zs)[i*zs.length+j]?=zs[j]?
 |n+1,0,j,_,hj=>by
  simp only[za8,Nat.zero_mul,Nat.zero_add]
  rw[List.getElem?_append_left hj]
 |n+1,i+1,j,hi,hj=>by
  simp only[za8]
  rw[List.getElem?_append_right (by rw[Nat.add_mul];omega),show(i+1)*zs.length+j-zs.length=i*zs.length+j by rw[Nat.add_mul];omega]
  exact zn8 (by omega) hj
section
variable {c:Ctx}
theorem R.freshV {G:Gh}{s:St}{a:Act}{w:World} (hr:R c G s a w){id k nc:Nat}{es:List (List D)}{cells:Array Value}{e:TypeId} (htok:getH s.hp id=some (.tok 0 k)) (hpos:0<es.length)
  (hk:∀x,x∈es→x.length=k) (hcs:cells.size=nc*k) (hn:es.length≤nc)
  (hrow:∀i (hi:i<es.length) j (hj:j<es[i].length),RelD G.F w es[i][j] (cells.getD (i*k+j) undef)):
  ∃G',R c G' { s with hp:=(id,some (.tok es.length k))::s.hp } a (w.drew.alloc (.cells cells e))∧
   RelA G' (tokf ((id,some (.tok es.length k))::s.hp)) (w.drew.alloc (.cells cells e)) (.gv id es) (.slice (some ⟨w.heap.size,0,none⟩) es.length nc):=by
 let G':Gh:={ F:=G.F,loc:=fun j=>bif Nat.beq j id then [w.heap.size] else G.loc j }
 have hlt:∀b o,o<G.F b→b<w.heap.size:=fun b o ho=>by
  rcases Nat.lt_or_ge b w.heap.size with h|h
  ·exact h
  ·rw[hr.top b h] at ho;omega
 have hcell:∀b o,o<G.F b→o<G'.F b∧(w.drew.alloc (.cells cells e)).cell? ⟨b,o,none⟩=w.cell? ⟨b,o,none⟩:=fun b o ho=>by
  have hb:=hlt b o ho
  exact⟨ho,by rw[World.cell?_alloc_lt w.drew _ _ hb];rfl⟩
 have hlocne:∀j,j≠id→G'.loc j=G.loc j:=fun j hj=>by
  have:Nat.beq j id=false:=by
   cases h:Nat.beq j id with
   |true=>exact absurd (Nat.eq_of_beq_eq_true h) hj
   |false=>rfl
  simp[G',this]
 have hlocid:G'.loc id=[w.heap.size]:=by simp[G']
 have hT':tokf ((id,some (.tok es.length k))::s.hp) id=some (es.length,k):=zaw.2 (by rw[zaj,if_pos rfl])
 refine⟨G',hr.retok (G':=G') htok hpos hcell hlocne (fun b hb _=>⟨zel (w:=w.drew) hb,rfl⟩) (fun b hb=>by rw[hlocid] at hb;simp at hb;subst hb;simp)
  (fun b hb=>by rw[hlocid] at hb;simp at hb;exact .inr (by omega)) rfl rfl rfl (by simp) (fun b hb=>?_), ?_⟩
 ·have hb':w.heap.size+1≤b:=by simpa using hb
  exact hr.top b (by omega)
 refine .gv ⟨_,_,rfl⟩ (fun n' k' hm'=>?_)
 rw[hT'] at hm'
 cases hm'
 exact⟨Nat.le_refl _,fun _=>⟨hk,.inr ⟨w.heap.size,nc,cells,e,hlocid,rfl,hr.top _ (Nat.le_refl _),zev (w:=w.drew),by rw[hcs];exact Nat.le_refl _,hn,fun i hi j hj=>(hrow i hi j hj).mono hcell⟩⟩⟩
end
section
variable {c:Ctx}{all:Array Oper}{chk:List Rec→Prop}{os:List Oper}{recs:List Rec}{env:Env}{hp:Hp}{Q:St→Prop}
variable {d ty:Nat}{pos:String}{af:Array Edge}{g:Option (Nat×Bool)}{pg:List (Nat×AV)}{t:TypeId}{x y:Operand}
theorem RelA.nils_eq {G:Gh}{T:TokF}{w:World}{v:Value} (h:RelA G T w .nils v):v = .slice none 0 0:=by cases h;rfl
theorem Walk.capN {at_ e k yb:Nat} (ht:SlT c.P at_ e k yb) (hg:GH all env g pg) (hd:Nat.blt d c.n=true) (hx:opd env x=some .nils)
  (hn:Walk c all chk os (zao (pg++opF x .nils) [] [] ⟨some (d,.d (.i 0)),[]⟩::recs) ⟨(d,.d (.i 0))::env,hp⟩ Q):
  Walk c all chk (⟨some d,.call ⟨.builtin .cap,#[x],#[at_]⟩,ty,pos,af,g⟩::os) recs ⟨env,hp⟩ Q:=
 Walk.pure1 hg hd hx (fun a G T w h=>⟨.int .i64 (0:Nat),by
  simp[execOp,resolve,invoke,builtin,h.nils_eq,Builtin.cap_,run_underlying ht.und,goInt],.d (.int _ _)⟩) hn
theorem Walk.cutN_h {e k yb:Nat}{o:Operand}{kd:IntKind} (ht:SlT c.P t e k yb) (hg:GH all env g pg) (hd:Nat.blt d c.n=true)
  (hx:opd env x=some .nils) (ho:opd env o=some (.d (.int kd 0)))
  (hn:Walk c all chk os (zao (pg++(opF x .nils++opF o (.d (.int kd 0)))) [] [] ⟨some (d,.nils),[]⟩::recs) ⟨(d,.nils)::env,hp⟩ Q):
  Walk c all chk (⟨some d,.slice t x none (some o) none,ty,pos,af,g⟩::os) recs ⟨env,hp⟩ Q:=by
 refine Walk.pure2 hg hd hx ho (fun a G T w h1 h2=>⟨.slice none 0 0, ?_,.nils⟩) hn
 have hbd:=zef (P:=c.P) (w:=w) true 0 0 (lo:=none) (hi:=some (.int kd (0:Nat))) (a:=0) (b:=0) (.inl ⟨rfl,rfl⟩) (.inr ⟨kd,rfl⟩) (Nat.le_refl _) (Nat.le_refl _)
 have e2:a.eval o = .int kd ((0:Nat):Int):=h2.int_eq
 simp only[execOp,e2,h1.nils_eq,Option.map_none,Option.map_some,Instr.sliceAt,Sem.run_bind,run_underlying ht.und,Result.andThen_ok,Instr.slice,hbd,ht.run_size,Sem.run_pure,Nat.zero_mul,Nat.sub_zero,ite_self]
theorem Walk.growZ {e k yb n:Nat} (id:Nat){zs:List AV}{zr:List D}{tn:TypeId}{kn:IntKind}{m:Int} (ht:SlT c.P t e k yb) (htn:c.P.underlying tn=some (.int kn)) (hz:TyZ c.P e k zs) (hzk:zs.length=k) (hk:0<k) (hzr:toDL zs=some zr)
  (hg:GH all env g pg) (hd:Nat.blt d c.n=true) (hx:opd env x=some .nils) (hy:opd env y=some (.d (.i m))) (hm:m = ↑n) (hn0:0<n) (hb:n*yb≤281474976710656) (h63:(n:Int)≤9223372036854775807) (hf:zaA env hp [id]=true)
  (hn:Walk c all chk os (zao (pg++(opF x .nils++opF y (.d (.i m)))) [] [id] ⟨some (d,.gv id (List.replicate n zr)),[(id,some (.tok n k)),(id,some (.tok 0 k))]⟩::recs)
   ⟨(d,.gv id (List.replicate n zr))::env,(id,some (.tok n k))::(id,some (.tok 0 k))::hp⟩ Q):
  Walk c all chk (⟨some d,.call ⟨.builtin .append,#[x,y],#[t,tn]⟩,ty,pos,af,g⟩::os) recs ⟨env,hp⟩ Q:=by
 refine⟨pg++(opF x .nils++opF y (.d (.i m))),[],[id],_, ?_,zaz hg.facts (zaz (za5 hx) (za5 hy)),by simp,zbv hf,hn⟩
 intro s a w hrel hp' hh hcr K Q' hK
 obtain⟨G,hr⟩:=hrel
 have e1:=(hr.opd (za6 hx (fun p hm=>hp' p (by simp[hm])))).nils_eq
 have e2:=(hr.opd (za6 hy (fun p hm=>hp' p (by simp[hm])))).int_eq
 obtain⟨h0,hocc⟩:=hcr id (by simp)
 obtain⟨G1,hr1,_⟩:=hr.mkTokV k h0 hocc
 obtain⟨ie,hi1,hi2,hi3⟩:=ht.inf
 obtain⟨i',z,z1,z2,z3,z4⟩:=hz.inf
 rw[hi1] at z1
 cases z1
 have hrun:=Go.Lib.run_append_nil_zeros (P:=c.P) w t tn ty e ie z .i64 kn ht.und htn hi1 z3 n hn0 (by omega) h63 (by rw[hi3];exact hb)
 have hz0:=zb1 (G:=G1) (T:=tokf ((id,some (.tok 0 k))::s.hp)) (w:=w) z4
 have hzz:=zf7 (by simpa using hz0) n (by omega)
 obtain⟨c1,c2⟩:=zhx hzr
 have hsz:z.cells.size=k:=by have:=hz0.1;simp at this;omega
 have hle:n≤grownCap w n 0 e:=by have:=grownCap_ge w n 0 e;omega
 have ez:Builtin.zeroCells z.cells n=(Array.range (n*zs.length)).map (z.cells[· % z.cells.size]!):=by
  unfold Builtin.zeroCells;rw[hsz,hzk]
 rw[←ez] at hzz
 have hl:(List.replicate n zr).length=n:=List.length_replicate
 have hcs:(Builtin.zeroCells z.cells n++Builtin.zeroCells z.cells (grownCap w n 0 e-n)).size=grownCap w n 0 e*k:=by
  simp only[Array.size_append,size_zeroCells,hsz,←Nat.add_mul]
  congr 1;omega
 have key:∀i (hi:i<(List.replicate n zr).length) j (hj:j<(List.replicate n zr)[i].length),RelD G1.F w (List.replicate n zr)[i][j] ((Builtin.zeroCells z.cells n++Builtin.zeroCells z.cells (grownCap w n 0 e-n)).getD (i*k+j) undef):=by
  intro i hi j hj
  have hi2:i<n:=by simpa using hi
  have hj2:j<zr.length:=by simpa using hj
  have hj3:j<zs.length:=by omega
  have hlt:i*k+j<(Builtin.zeroCells z.cells n).size:=by
   rw[size_zeroCells,hsz]
   have:(i+1)*k≤n*k:=Nat.mul_le_mul_right _ (by omega)
   rw[Nat.add_mul] at this
   omega
  have hlz:i*k+j<(za8 n zs).length:=by have:=hzz.1;rw[←this];exact hlt
  have h5:=hzz.2 (i*k+j) hlz hlt
  have h6:=zn8 (zs:=zs) hi2 hj3
  rw[hzk,List.getElem?_eq_getElem hlz,List.getElem?_eq_getElem hj3] at h6
  rw[Option.some.inj h6] at h5
  have h7:=h5.toD (c2 j hj3 hj2)
  have e5:(Builtin.zeroCells z.cells n++Builtin.zeroCells z.cells (grownCap w n 0 e-n)).getD (i*k+j) undef=(Builtin.zeroCells z.cells n)[i*k+j]:=by
   rw[Array.getD_eq_getD_getElem?,Array.getElem?_append_left hlt,Array.getElem?_eq_getElem hlt];rfl
  rw[e5]
  simp only[List.getElem_replicate]
  exact h7
 obtain⟨G',hR,hA⟩:=hr1.freshV (nc:=grownCap w n 0 e) (e:=e) (es:=List.replicate n zr) (by rw[zaj,if_pos rfl]) (by rw[hl];exact hn0) (fun y hy=>by obtain⟨_,rfl⟩:=List.mem_replicate.1 hy;omega) hcs (by rw[hl];exact hle) key
 rw[hl] at hR hA
 unfold wpO
 rw[if_pos (hg.gf.wanted hr (fun p hm=>hp' p (by simp[hm])))]
 unfold Oper.wp
 have:(execOp a.eval ⟨some d,.call ⟨.builtin .append,#[x,y],#[t,tn]⟩,ty,pos,af,g⟩).run c.P w = .ok (.value (.slice (some ⟨w.heap.size,0,none⟩) n (grownCap w n 0 e))) (w.drew.alloc (.cells (Builtin.zeroCells z.cells n++Builtin.zeroCells z.cells (grownCap w n 0 e-n)) e)):=by
  simp only[execOp,resolve,invoke,builtin,Sem.run_bind,Sem.run_pure,Result.andThen_ok,List.map_toArray,List.map_cons,List.map_nil,e1,e2,hm,hrun]
 rw[this,Oper.upon_value]
 exact hK _ _ ⟨G',hR.put hA hd⟩
end
end Go.Proofs.YtpgdedpljcedpaaGreat
namespace Go.Proofs.YtpgdedpljcedpaaGreat
open Go
set_option linter.unusedSimpArgs false
set_option linter.unusedVariables false
set_option maxRecDepth 100000
set_option maxHeartbeats 2000000
mutual
def cntE (m:Int):Ex→Int
 | .mk _ _ _ ks=>zd6 m 1 ks
def zd6 (m n:Int):List Ex→Int
 | []=>n
 |k::r=>if n≤m then zd6 m (n+cntE (m-n) k) r else n
end
theorem zrk {m n:Int}{l:List Ex} (h:¬n≤m):zd6 m n l=n:=by cases l<;>simp[zd6,h]
mutual
theorem zqt:∀(v:Ex) (m:Int),1≤cntE m v∧cntE m v≤v.size
 | .mk _ _ _ ks,m=>by
  have:=zkz ks m 1 (by omega)
  simp only[cntE,Ex.size];push_cast;omega
theorem zkz:∀(l:List Ex) (m n:Int),1≤n→1≤zd6 m n l∧zd6 m n l≤n+Exs.size l
 | [],m,n,h=>by simp[zd6,Exs.size];omega
 |k::r,m,n,h=>by
  have h1:=zqt k (m-n)
  have h2:=zkz r m (n+cntE (m-n) k) (by omega)
  simp only[zd6,Exs.size]
  split
  ·push_cast;omega
  ·push_cast;omega
end
mutual
theorem zth:∀(v:Ex) (m:Int),(cntE m v≤m↔(v.size:Int)≤m)∧(cntE m v≤m→cntE m v=v.size)
 | .mk _ _ _ ks,m=>by
  have:=znh ks m 1
  simp only[cntE,Ex.size];push_cast;exact this
theorem znh:∀(l:List Ex) (m n:Int),(zd6 m n l≤m↔n+(Exs.size l:Int)≤m)∧(zd6 m n l≤m→zd6 m n l=n+Exs.size l)
 | [],m,n=>by simp[zd6,Exs.size]
 |k::r,m,n=>by
  have h1:=zth k (m-n)
  have h2:=znh r m (n+cntE (m-n) k)
  have h3:=zkz r m (n+cntE (m-n) k)
  have h4:=zqt k (m-n)
  simp only[zd6,Exs.size]
  push_cast
  by_cases hn:n≤m
  ·rw[if_pos hn]
   by_cases h5:cntE (m-n) k≤m-n
   ·have h6:=h1.2 h5
    rw[h6] at h2 ⊢
    constructor
    ·rw[h2.1];constructor<;>intro h<;>omega
    ·intro h;rw[h2.2 h];omega
   ·have h7:¬(k.size:Int)≤m-n:=fun h=>h5 (h1.1.2 h)
    have h8:¬n+cntE (m-n) k≤m:=by omega
    rw[zrk h8]
    constructor
    ·constructor<;>intro h<;>omega
    ·intro h;omega
  ·rw[if_neg hn]
   constructor
   ·constructor<;>intro h<;>omega
   ·intro h;omega
end
def TyOk (n:Nat) (t:Ty):Prop:=TyIn n t∧(t.data = -1→t.index=0)
def gdOk (g:Gd) (vars:List Vt):Bool:=if g.op=0 then decide (g.var=0∧g.n=0) else decide (1≤g.op∧g.op≤2∧0≤g.n∧g.n≤9)&&decide ((⟨g.var,⟨-1,0⟩⟩:Vt)∈vars)
def zg7 (w:List Data) (t:Ty) (p:Pat):List Vt:=zdj (zaM w 10 t p 0).1
def clOk (w:List Data) (t:Ty) (c:Cl):Bool:=isP w t c.pat&&gdOk c.g (zg7 w t c.pat)
theorem zrU (w:List Data) (t:Ty) (p:Pat):(zg7 w t p).length≤6:=(zfz w 10 t p 0).2
theorem zlF {g:Gd}{vars:List Vt} (hv:vars.length≤1000000000000):FnD Tryz.prog 169 [.agg [.d (.i g.op),.d (.i g.var),.d (.i g.n)],.d (zcK vars)] [] (.d (.bool (gdOk g vars))) []:=by
 refine bd Tryz.f169 27 [10] [] fun w0 F0 own kept hk=>?_
 refine bx 3002 ?_
 refine evs [10] [] ?_
 refine sq (fun h1 h1p h1s=>?_) fun h1 h1p h1s=>?_
 try simp only[Q,zar] at h1p
 refine bu [] [] st48 ?_
 refine Walk.eqV eq48 .none rfl rfl rfl rfl rfl ?_
 refine evs [10] [] ?_
 refine rn0 (r1 rfl) (.eqd ?_)
 rotate_left
 try simp only[Q,zar] at h1p
 refine wc zfF (zbw) rfl rfl ?_
 refine evs [10] [] ?_
 refine sq (fun h2 h2p h2s=>?_) fun h2 h2p h2s=>?_
 try simp only[Q,zar] at h2p
 refine Walk.call (cr:=[]) zfF (zbw) rfl (.some rfl rfl h2) rfl rfl (LeL.refl _) trivial rfl rfl rfl ?_
 refine evs [10] [(14,true)] ?_ ⟨⟨_,rfl,h2⟩,trivial⟩
 refine sq (fun h3 h3p h3s=>?_) fun h3 h3p h3s=>?_
 try simp only[Q,zar] at h3p
 refine Walk.build st25 (ks:=[0]) (xs:=[_]) rfl rfl (.some rfl rfl h3) rfl rfl rfl ?_
 refine Walk.build zrN (ks:=[0,1]) (xs:=[_,_]) rfl rfl (.some rfl rfl h3) rfl rfl rfl ?_
 refine Walk.call (cr:=[]) zsc (zeP (v:=⟨g.var,⟨-1,0⟩⟩) hv) rfl (.some rfl rfl h3) rfl rfl (LeL.refl _) trivial rfl rfl rfl ?_
 refine evs [10] [(19,true)] ?_ ⟨⟨_,rfl,h3⟩,trivial⟩
 refine rn0 (r1 rfl) (.eqd ?_)
 rotate_left
 try simp only[Q,zar] at h3p
 refine rn0 (r1 rfl) (.eqd ?_)
 rotate_left
 try simp only[Q,zar] at h2p
 refine sqF ?_
 refine rn0 (r1 rfl) (.eqd ?_)
 rotate_left
 all_goals (refine congrArg D.bool ?_;unfold gdOk;first|(rw[if_pos (by omega)];simp_all;done)|(rw[if_neg (by omega)];simp_all[zar];done)|(rw[if_neg (by omega),decide_eq_false (by omega),Bool.false_and];done)|(rw[if_neg (by omega),decide_eq_true (by omega),Bool.true_and];done)|(rw[if_neg (by omega)];simp_all[zar];omega))
theorem zkM {w:List Data} (hw:WT w){t:Ty}{c:Cl} (ht:TyIn w.length t) (hok:c.pat.ok):
  FnD Tryz.prog 117 [.d (zam w),.agg [.d (.i t.data),.d (.i t.index)],.agg [.d (.i c.pat.op),.d (.i c.pat.ctor),.d (.i c.pat.n),.d (.i c.pat.m),.d (.i c.pat.var),.d (zad c.pat.kids),.d (.i c.g.op),.d (.i c.g.var),.d (.i c.g.n)]] [] (.d (.bool (clOk w t c))) []:=by
 have ht':TyIn w.length ⟨t.data,t.index⟩:=ht
 have hvl:=zrU w t c.pat
 refine bd Tryz.f117 24 [] [] fun w0 F0 own kept hk=>?_
 refine bx 3004 ?_
 refine bx 3005 ?_
 refine ev ?_
 refine wc zr1 (zfg hw ht' hok) rfl rfl ?_
 refine ev ?_
 refine sq (fun h1 h1p h1s=>?_) fun h1 h1p h1s=>?_
 refine Walk.call (cr:=[]) zvz (zlF (g:=c.g) (vars:=zg7 w t c.pat) (by omega)) rfl (.some rfl rfl h1) rfl rfl (LeL.refl _) trivial rfl rfl rfl ?_
 refine evs [] [(18,true)] ?_ ⟨⟨_,rfl,h1⟩,trivial⟩
 refine rn0 (r1 rfl) (.eqd ?_)
 rotate_left
 refine rn0 (r1 rfl) (.eqd ?_)
 rotate_left
 all_goals (refine congrArg D.bool ?_;unfold clOk;have hte:(⟨t.data,t.index⟩:Ty)=t:=rfl;first|(simp_all;done)|(rw[hte] at *;simp_all;done))
def AZ (w:List Data):Prop:=∀t c,c∈zah w t→TyIn w.length t→∀u∈zaa w t c,u.data = -1→u.index=0
theorem ztW {w:List Data} (hv:za1 w=true):AZ w:=by
 have hW:=(zce w).1 hv
 rintro ⟨a,k⟩ c hc ht u hu hd
 obtain⟨d,rfl,h1,j,rfl,h3⟩:=zck ht hc
 have hco:=hW.ctor _ (zae h1) _ (zae h3)
 simp only[zbs,Bool.and_eq_true,decide_eq_true_eq,Bool.not_eq_true',List.any_eq_false,Bool.not_eq_false'] at hco
 have hall:=hco.2.2.2
 simp only[zaa,Int.toNat_natCast] at hu
 obtain⟨x,hx,rfl⟩:=List.mem_map.1 hu
 have hxo:=hall x hx
 simp only[zbA,zar,Bool.or_eq_true,Bool.and_eq_true,decide_eq_true_eq,and_true,Bool.not_eq_true',Bool.not_eq_false] at hxo
 unfold zcf at hd ⊢
 split at hd
 ·rename_i hi
  rw[if_pos hi]
  dsimp only at hd ⊢
  omega
 ·rename_i hi
  rw[if_neg hi]
  omega
theorem zs6 {n:Nat}{t:Ty} (h:zd2 n t=true):TyOk n t:=by
 refine⟨zs5 h,fun hd=>?_⟩
 simp only[zd2,zar,Bool.or_eq_true,Bool.and_eq_true,decide_eq_true_eq,and_true] at h
 omega
theorem zs9 {w:List Data}{t:Ty}{p:Pat} (h:isP w t p=true):zg7 w t p=zaL w 10 t p:=by
 unfold isP at h
 simp only[Bool.and_eq_true,decide_eq_true_eq] at h
 have e:=(zfy w 10 t p 0).1
 have hw:zbI w 10 t p 0=true:=by
  unfold zbI;rw[h.1,h.2.2,decide_eq_true (by omega)];rfl
 rw[if_pos hw] at e
 unfold zg7;rw[e];rfl
theorem zta {w:List Data}{t:Ty}{p:Pat} (h:isP w t p=true):zcu (zaL w 10 t p)=true:=by
 unfold isP at h
 simp only[Bool.and_eq_true] at h
 exact zhi w 10 t p h.1 h.2.2
theorem zp2 {w:List Data} (hw:WT w) (haz:AZ w):∀(n:Nat){t:Ty}{p:Pat},zas w n t p=true→TyOk w.length t→∀v∈zaL w n t p,TyOk w.length v.ty
 |0,t,p,h,_=>by simp[zas] at h
 |n+1,t,p,h,ht=>by
  obtain⟨ho,hlen⟩:=zbH h
  intro v hv
  have hto:∀u∈zaf w t p,TyOk w.length u:=fun u hu=>by
   refine⟨zf5 (a:=t.data) (k:=t.index) hw ht.1 ho u hu,fun hd=>?_⟩
   unfold zaf at hu
   split at hu
   ·rename_i h4;exact haz t p.ctor (zb3 ho h4) ht.1 u hu hd
   ·split at hu
    ·simp only[List.mem_cons,List.not_mem_nil,or_false,or_self] at hu
     rw[hu] at hd ⊢;exact ht.2 hd
    ·split at hu
     ·simp only[List.mem_cons,List.not_mem_nil,or_false] at hu
      rw[hu] at hd ⊢;exact ht.2 hd
     ·simp at hu
  simp only[zaL,List.mem_append] at hv
  rcases hv with hv|hv
  ·unfold zaT at hv
   split at hv
   ·simp only[List.mem_cons,List.not_mem_nil,or_false] at hv
    rw[hv];exact ht
   ·simp at hv
  ·have key:∀(a:List Ty) (b:List Pat),(∀i,i<a.length→i<b.length→∀v∈zaL w n (nth a i) (nth b i),TyOk w.length v.ty)→∀v∈zbi (zaL w n) a b,TyOk w.length v.ty:=by
    intro a
    induction a with
    |nil=>intro b _ v hv;simp[zbi] at hv
    |cons x r ih=>
     intro b h v hv
     cases b with
     |nil=>simp[zbi] at hv
     |cons y s=>
      simp only[zbi,List.mem_append] at hv
      rcases hv with hv|hv
      ·exact h 0 (by simp) (by simp) v hv
      ·exact ih s (fun i h1 h2=>h (i+1) (by simpa using h1) (by simpa using h2)) v hv
   refine key (zdq w t p) p.kids (fun i h1 h2=>?_) v hv
   have hvt:i<(zaf w t p).length∧nth (zdq w t p) i=nth (zaf w t p) i:=by
    unfold zdq at h1 ⊢
    split at h1
    ·rename_i h5
     rw[if_pos h5]
     rw[List.length_take] at h1
     refine⟨by omega, ?_⟩
     have:i=0:=by omega
     subst this
     cases hT:zaf w t p with
     |nil=>rfl
     |cons a b=>rfl
    ·rename_i h5
     rw[if_neg h5];exact⟨h1,rfl⟩
   rw[hvt.2]
   exact zp2 hw haz n (zbG h (by omega)) (hto _ (zae hvt.1))
def gdS (g:Gd) (vars:List Vt):Bool:=if g.op=0 then decide (g.var=0∧g.n=0) else decide (1≤g.op∧g.op≤2∧0≤g.n∧g.n≤9)&&(decide (0≤zbx vars g.var)&&decide ((nth vars (zbx vars g.var).toNat).ty.data = -1))
theorem zv1 {n:Nat}{g:Gd}{vars:List Vt} (hn:zcu vars=true) (hv:∀v∈vars,TyOk n v.ty):gdS g vars=gdOk g vars:=by
 unfold gdS gdOk
 split
 ·rfl
 ·congr 1
  have hnod:=of_decide_eq_true hn
  rw[Bool.eq_iff_iff]
  simp only[Bool.and_eq_true,decide_eq_true_eq]
  constructor
  ·rintro ⟨h1,h2⟩
   rcases zeV vars g.var with ⟨h3,_⟩|⟨k,h3,h4,h5,_⟩
   ·omega
   ·rw[h3] at h2
    simp only[Int.toNat_natCast] at h2
    have hm:=zae h4
    have ho:=(hv _ hm).2 h2
    have:nth vars k=⟨g.var,⟨-1,0⟩⟩:=by
     generalize nth vars k=z at *
     obtain⟨zv,⟨za,zk⟩⟩:=z
     dsimp only at h5 h2 ho
     rw[h5,h2,ho]
    rw[←this];exact hm
  ·intro hm
   rcases zeV vars g.var with ⟨_,h4⟩|⟨k,h3,h4,h5,_⟩
   ·exact absurd rfl (h4 _ hm)
   ·refine⟨by omega, ?_⟩
    rw[h3]
    simp only[Int.toNat_natCast]
    obtain⟨j,hj,e⟩:=List.getElem_of_mem hm
    have ej:nth vars j=⟨g.var,⟨-1,0⟩⟩:=by simp[nth,List.getD,hj,e]
    have:k=j:=zjx hnod h4 hj (by rw[h5,ej])
    rw[this,ej]
theorem zmr {g:Gd}{vars:List Vt} (hv:vars.length≤1000000000000):FnD Tryz.prog 171 [.agg [.d (.i g.op),.d (.i g.var),.d (.i g.n)],.d (zcK vars)] [] (.d (.bool (gdS g vars))) []:=by
 have hlt:=fun h=>zkG (l:=vars) (n:=g.var) h
 refine bd Tryz.f171 50 [] [3] fun w0 F0 own kept hk=>?_
 refine bx 3002 ?_
 refine ev ?_
 refine sq (fun h1 h1p h1s=>?_) fun h1 h1p h1s=>?_
 try simp only[Q] at h1p
 refine sq (fun h2 h2p h2s=>?_) fun h2 h2p h2s=>?_
 try simp only[Q] at h2p
 refine rn0 (r1 rfl) (.eqd ?_)
 rotate_left
 try simp only[Q] at h2p
 refine rn0 (r1 rfl) (.eqd ?_)
 rotate_left
 try simp only[Q] at h1p
 refine CWp.regionJ ?_
 refine WRest.join 18 [(34,.d (.bool (decide (¬(1≤g.op∧g.op≤2∧0≤g.n∧g.n≤9)))))] [17,18,19,20,21,22,23,24,25,26,27,28,29,30,31,32,33] ?_ ?_
 refine ev ?_
 refine sq (fun h3 h3p h3s=>?_) fun h3 h3p h3s=>?_
 try simp only[Q] at h3p
 refine sq (fun h4 h4p h4s=>?_) fun h4 h4p h4s=>?_
 try simp only[Q] at h4p
 refine sqT ?_
 focus (exact jn rfl (LeA.eqb (by(first|rfl|(rw[Bool.eq_iff_iff];simp_all;done)|(rw[Bool.eq_iff_iff];simp_all;omega)))))
 try simp only[Q] at h4p
 refine sq (fun h5 h5p h5s=>?_) fun h5 h5p h5s=>?_
 try simp only[Q] at h5p
 focus (exact jn rfl (LeA.eqb (by(first|rfl|(rw[Bool.eq_iff_iff];simp_all;done)|(rw[Bool.eq_iff_iff];simp_all;omega)))))
 try simp only[Q] at h5p
 focus (exact jn rfl (LeA.eqb (by(first|rfl|(rw[Bool.eq_iff_iff];simp_all;done)|(rw[Bool.eq_iff_iff];simp_all;omega)))))
 try simp only[Q] at h3p
 refine sqF ?_
 refine sq (fun h6 h6p h6s=>?_) fun h6 h6p h6s=>?_
 try simp only[Q] at h6p
 focus (exact jn rfl (LeA.eqb (by(first|rfl|(rw[Bool.eq_iff_iff];simp_all;done)|(rw[Bool.eq_iff_iff];simp_all;omega)))))
 try simp only[Q] at h6p
 focus (exact jn rfl (LeA.eqb (by(first|rfl|(rw[Bool.eq_iff_iff];simp_all;done)|(rw[Bool.eq_iff_iff];simp_all;omega)))))
 refine WRest.done ?_
 refine tv ?_
 refine sq (fun h7 h7p h7s=>?_) fun h7 h7p h7s=>?_
 try simp only[Q] at h7p
 refine rn0 (r1 rfl) (.eqd ?_)
 rotate_left
 try simp only[Q] at h7p
 refine wc zoQ (zfB hv) rfl rfl ?_
 refine ev ?_
 refine sq (fun h8 h8p h8s=>?_) fun h8 h8p h8s=>?_
 try simp only[Q] at h8p
 refine Walk.idx (i:=(zbx vars g.var).toNat) zdi (.some rfl rfl h8) rfl rfl rfl (by have:=hlt (by omega);omega) (zau (by have:=hlt (by omega);omega)) rfl ?_
 refine evs [] [(41,true)] ?_ ⟨⟨_,rfl,h8⟩,trivial⟩
 refine rn0 (r1 rfl) (.eqd ?_)
 rotate_left
 try simp only[Q] at h8p
 refine rn0 (r1 rfl) (.eqd ?_)
 rotate_left
 all_goals (refine congrArg D.bool ?_;unfold gdS;first|(rw[if_pos (by omega)];simp_all;done)|(rw[if_neg (by omega),decide_eq_false (by omega),Bool.false_and];done)|(rw[if_neg (by omega),decide_eq_true (by omega),Bool.true_and];simp_all;done)|(rw[if_neg (by omega),decide_eq_true (by omega),Bool.true_and,decide_eq_false (by omega),Bool.false_and];done)|(rw[if_neg (by omega)];simp_all;done))
theorem zpJ {w:List Data} (hw:WT w) (haz:AZ w){t:Ty}{c:Cl} (ht:TyOk w.length t) (hok:c.pat.ok) (hsz:c.pat.size≤1000000000000):
  FnD Tryz.prog 119 [.d (zam w),.agg [.d (.i t.data),.d (.i t.index)],.agg [.d (.i c.pat.op),.d (.i c.pat.ctor),.d (.i c.pat.n),.d (.i c.pat.m),.d (.i c.pat.var),.d (zad c.pat.kids),.d (.i c.g.op),.d (.i c.g.var),.d (.i c.g.n)]] [] (.d (.bool (clOk w t c))) []:=by
 have ht':TyIn w.length ⟨t.data,t.index⟩:=ht.1
 have hcl:clOk w t c=(isP w t c.pat&&gdOk c.g (zg7 w t c.pat)):=rfl
 cases hp:isP w t c.pat with
 |false=>
  have hpi:=zd0 hw ht' hok hsz
  have hpi':FnD Tryz.prog 101 [.d (zam w),.agg [.d (.i t.data),.d (.i t.index)],.agg [.d (.i c.pat.op),.d (.i c.pat.ctor),.d (.i c.pat.n),.d (.i c.pat.m),.d (.i c.pat.var),.d (zad c.pat.kids)]] [] (.d (.bool false)) []:=by rw[←hp];exact hpi
  rw[hcl,hp,Bool.false_and]
  refine bd Tryz.f119 22 [] [] fun w0 F0 own kept hk=>?_
  refine bx 3004 ?_
  refine bx 3005 ?_
  refine ev ?_
  refine wc zi4 (hpi') rfl rfl ?_
  refine evd [] [] ?_
  refine sq (fun h1 h1p h1s=>?_) fun h1 h1p h1s=>?_
  exfalso;contradiction
  refine dr ?_
  refine rn0 (r1 rfl) (.eqd ?_)
  rotate_left
  all_goals (rfl)
 |true=>
  have hpi:=zd0 hw ht' hok hsz
  have hpi':FnD Tryz.prog 101 [.d (zam w),.agg [.d (.i t.data),.d (.i t.index)],.agg [.d (.i c.pat.op),.d (.i c.pat.ctor),.d (.i c.pat.n),.d (.i c.pat.m),.d (.i c.pat.var),.d (zad c.pat.kids)]] [] (.d (.bool true)) []:=by rw[←hp];exact hpi
  have hsh:zas w 10 ⟨t.data,t.index⟩ c.pat=true:=by
   have:=hp;unfold isP at this;simp only[Bool.and_eq_true] at this;exact this.1
  have hvl:=zd3 w 10 ⟨t.data,t.index⟩ c.pat
  have hge:=zv1 (g:=c.g) (zta hp) (zp2 hw haz 10 hsh ht)
  have hge':gdS c.g (zaL w 10 ⟨t.data,t.index⟩ c.pat)=gdOk c.g (zg7 w t c.pat):=by rw[zs9 hp];exact hge
  rw[hcl,hp,Bool.true_and,←hge']
  refine bd Tryz.f119 22 [] [] fun w0 F0 own kept hk=>?_
  refine bx 3004 ?_
  refine bx 3005 ?_
  refine ev ?_
  refine wc zi4 (hpi') rfl rfl ?_
  refine evd [] [] ?_
  refine sq (fun h1 h1p h1s=>?_) fun h1 h1p h1s=>?_
  refine Walk.call (cr:=[]) zhK (zdP hw hsh (by omega) ht' hok hsz) rfl (.some rfl rfl h1) rfl rfl (LeL.refl _) trivial rfl rfl rfl ?_
  refine Walk.call (cr:=[]) zvB (zmr (g:=c.g) (by omega)) rfl (.some rfl rfl h1) rfl rfl (LeL.refl _) trivial rfl rfl rfl ?_
  refine evd [] [(12,true)] ?_ ⟨⟨_,rfl,h1⟩,trivial⟩
  refine dr ?_
  refine rn0 (r1 rfl) (.eqd ?_)
  rotate_left
  exfalso;contradiction
  all_goals (rfl)
theorem zwF {w:List Data}{t:Ty} (h:zbL w t=true):TyOk w.length t:=by
 unfold zbL at h;rw[Bool.and_eq_true] at h;exact zs6 h.2
theorem zbZ {a b c d e:Int}{l:List Pat}:(Pat.mk a b c d e l).op=a:=rfl
theorem zeI {a b c d e:Int}{l:List Pat}:(Pat.mk a b c d e l).ctor=b:=rfl
theorem mk_n {a b c d e:Int}{l:List Pat}:(Pat.mk a b c d e l).n=c:=rfl
theorem mk_m {a b c d e:Int}{l:List Pat}:(Pat.mk a b c d e l).m=d:=rfl
theorem zgZ {a b c d e:Int}{l:List Pat}:(Pat.mk a b c d e l).var=e:=rfl
theorem zaZ {a b c d e:Int}{l:List Pat}:(Pat.mk a b c d e l).kids=l:=rfl
abbrev anyQ:Pat:= .mk 1 0 0 0 0 []
abbrev zux:Pat:= .mk 0 0 0 0 0 []
mutual
def zat:Pat→Pat
 | .mk op c n m v ks=>if op=2 then anyQ else if op=6∧ks≠[] then zj3 ks else .mk op c n m v (zha ks)
def zj3:List Pat→Pat
 | []=>anyQ
 |k::_=>zat k
def zha:List Pat→List Pat
 | []=>[]
 |k::r=>zat k::zha r
end
theorem zkx:∀l:List Pat,zha l=l.map zat
 | []=>rfl
 |k::r=>by simp[zha,zkx r]
theorem zbd (p:Pat):zat p=if p.op=2 then anyQ else if p.op=6∧p.kids≠[] then zat (nth p.kids 0) else .mk p.op p.ctor p.n p.m p.var (p.kids.map zat):=by
 cases p with|mk op c n m v ks=>
 have e:zat (.mk op c n m v ks)=if op=2 then anyQ else if op=6∧ks≠[] then zj3 ks else .mk op c n m v (zha ks):=by conv=>lhs;unfold zat
 rw[e,zkx]
 by_cases h2:op=2
 ·rw[if_pos h2]
  exact(if_pos (c:=(Pat.mk op c n m v ks).op=2) h2).symm
 ·rw[if_neg h2]
  refine Eq.trans ?_ (if_neg (c:=(Pat.mk op c n m v ks).op=2) h2).symm
  by_cases h6:op=6∧ks≠[]
  ·rw[if_pos h6]
   refine Eq.trans ?_ (if_pos (c:=(Pat.mk op c n m v ks).op=6∧(Pat.mk op c n m v ks).kids≠[]) h6).symm
   cases ks with
   |nil=>exact absurd rfl h6.2
   |cons k r=>rfl
  ·rw[if_neg h6]
   exact(if_neg (c:=(Pat.mk op c n m v ks).op=6∧(Pat.mk op c n m v ks).kids≠[]) h6).symm
def za3 (out:List (List Pat)) (l:List Pat):List (List Pat):=out.flatMap fun q=>l.map fun c=>q++[c]
def zdL (ls:List (List Pat)):List (List Pat):=ls.foldl za3 [[]]
mutual
def zap:Pat→List Pat
 | .mk op c n m v ks=>if op=5 then zwf ks else (zdL (zj9 ks)).map fun l=> .mk op c n m v l
def zwf:List Pat→List Pat
 | []=>[]
 |a::r=>zap a++zu5 r
def zu5:List Pat→List Pat
 | []=>[]
 |b::_=>zap b
def zj9:List Pat→List (List Pat)
 | []=>[]
 |k::r=>zap k::zj9 r
end
theorem zmt:∀l:List Pat,zj9 l=l.map zap
 | []=>rfl
 |k::r=>by simp[zj9,zmt r]
theorem zcQ {p:Pat} (h:p.op≠5):zap p=(zdL (p.kids.map zap)).map fun l=> .mk p.op p.ctor p.n p.m p.var l:=by
 cases p with|mk op c n m v ks=>
 have h':¬op=5:=h
 conv=>lhs;unfold zap
 rw[if_neg h',zmt];rfl
theorem zde {p:Pat} (h:p.op=5) (hk:p.kids.length=2):zap p=zap (nth p.kids 0)++zap (nth p.kids 1):=by
 cases p with|mk op c n m v ks=>
 have h':op=5:=h
 conv=>lhs;unfold zap
 rw[if_pos h']
 have hk':ks.length=2:=hk
 match ks,hk' with
 | [a,b],_=>rfl
mutual
def cntS:Pat→Int
 | .mk op _ _ _ _ ks=>if op=5 then cntO ks 0 else cntM ks 1
def cntO:List Pat→Int→Int
 | [],n=>n
 |k::r,n=>cntO r (cap (n+cntS k))
def cntM:List Pat→Int→Int
 | [],n=>n
 |k::r,n=>cntM r (cap (n*cntS k))
end
theorem zmH (p:Pat):cntS p=if p.op=5 then cntO p.kids 0 else cntM p.kids 1:=by
 cases p with|mk op c n m v ks=>
 conv=>lhs;unfold cntS
 rfl
mutual
theorem zmG:∀p:Pat,0≤cntS p∧cntS p≤401
 | .mk op _ _ _ _ ks=>by
  unfold cntS
  split
  ·exact zqw ks 0 (by omega) (by omega)
  ·exact zqu ks 1 (by omega) (by omega)
theorem zqw:∀(l:List Pat) (n:Int),0≤n→n≤401→0≤cntO l n∧cntO l n≤401
 | [],n,h1,h2=>⟨h1,h2⟩
 |k::r,n,h1,h2=>by
  unfold cntO
  have h3:=zmG k
  have h4:=zlm (x:=n+cntS k) (by omega)
  exact zqw r _ h4.1 h4.2
theorem zqu:∀(l:List Pat) (n:Int),0≤n→n≤401→0≤cntM l n∧cntM l n≤401
 | [],n,h1,h2=>⟨h1,h2⟩
 |k::r,n,h1,h2=>by
  unfold cntM
  have h3:=zmG k
  have h4:=zlm (x:=n*cntS k) (Int.mul_nonneg h1 h3.1)
  exact zqu r _ h4.1 h4.2
end
theorem zsk {l:List Pat}{i:Nat}{n:Int} (h:i<l.length):cntO (l.drop i) n=cntO (l.drop (i+1)) (cap (n+cntS (nth l i))):=by
 rw[zaW h];rfl
theorem zsj {l:List Pat}{i:Nat}{n:Int} (h:i<l.length):cntM (l.drop i) n=cntM (l.drop (i+1)) (cap (n*cntS (nth l i))):=by
 rw[zaW h];rfl
def binP:Nat→Pat→Bool
 |0,_=>false
 |n+1,p=>decide (p.op=5→p.kids.length=2)&&p.kids.all (binP n)
theorem zdH {n:Nat}{p:Pat} (h:binP (n+1) p=true){i:Nat} (hi:i<p.kids.length):binP n (nth p.kids i)=true:=by
 unfold binP at h
 rw[Bool.and_eq_true,List.all_eq_true] at h
 exact h.2 _ (zae hi)
theorem zjX {n:Nat}{p:Pat} (h:binP (n+1) p=true) (h5:p.op=5):p.kids.length=2:=by
 unfold binP at h
 rw[Bool.and_eq_true] at h
 exact(of_decide_eq_true h.1) h5
theorem zky:∀(n:Nat){p:Pat},binP n p=true→binP (n+1) p=true
 |0,p,h=>by simp[binP] at h
 |n+1,p,h=>by
  have h':=h
  unfold binP at h ⊢
  rw[Bool.and_eq_true,List.all_eq_true] at h ⊢
  exact⟨h.1,fun k hk=>zky n (h.2 k hk)⟩
theorem zf0 {w:List Data}:∀(n:Nat){t:Ty}{p:Pat},zas w n t p=true→binP n (zat p)=true
 |0,t,p,h=>by simp[zas] at h
 |n+1,t,p,h=>by
  obtain⟨ho,hlen⟩:=zbH h
  have hany:binP (n+1) anyQ=true:=by simp[binP,anyQ,Pat.op,Pat.kids]
  rw[zbd]
  by_cases h2:p.op=2
  ·rw[if_pos h2];exact hany
  rw[if_neg h2]
  by_cases h6:p.op=6
  ·obtain⟨hl,s0⟩:=zeN h h6
   rw[if_pos ⟨h6,fun e=>by rw[e] at hl;simp at hl⟩]
   exact zky n (zf0 n s0)
  rw[if_neg (fun h=>h6 h.1)]
  unfold binP
  rw[Bool.and_eq_true,List.all_eq_true]
  refine⟨decide_eq_true (fun h5=>?_),fun k hk=>?_⟩
  ·have:=(zeO h h5).1;simpa [Pat.kids] using this
  ·simp only[Pat.kids,List.mem_map] at hk
   obtain⟨x,hx,rfl⟩:=hk
   obtain⟨i,hi,rfl⟩:=List.getElem_of_mem hx
   have:=zf0 n (zbG h hi)
   have e:nth p.kids i=p.kids[i]:=zaG hi
   rw[e] at this
   exact this
theorem zf2 (out:List (List Pat)) (l:List Pat):(za3 out l).length=out.length*l.length:=by
 unfold za3
 induction out with
 |nil=>simp
 |cons q r ih=>rw[List.flatMap_cons,List.length_append,ih,List.length_map,List.length_cons,Nat.succ_mul];omega
theorem zrJ (ls:List (List Pat)) (l:List Pat):zdL (ls++[l])=za3 (zdL ls) l:=by unfold zdL;rw[List.foldl_append];rfl
theorem zuB {a b:Nat}:cap (cap (a:Int)*cap (b:Int))=cap ((a*b:Nat):Int):=by
 unfold cap
 rcases Nat.eq_zero_or_pos a with rfl|ha
 ·simp
 rcases Nat.eq_zero_or_pos b with rfl|hb
 ·simp
 have h1:a≤a*b:=Nat.le_mul_of_pos_right a hb
 have h2:b≤a*b:=Nat.le_mul_of_pos_left b ha
 have hab:((a*b:Nat):Int)=(a:Int)*(b:Int):=by push_cast;rfl
 by_cases ca:401<(a:Int)
 ·rw[if_pos ca]
  by_cases cb:401<(b:Int)
  ·rw[if_pos cb,if_pos (by omega),if_pos (by omega)]
  ·rw[if_neg cb]
   have h3:(401:Int)*1≤401*(b:Int):=Int.mul_le_mul_of_nonneg_left (by omega) (by omega)
   rw[if_pos (show 401<((a*b:Nat):Int) by omega)]
   split<;>omega
 ·rw[if_neg ca]
  by_cases cb:401<(b:Int)
  ·rw[if_pos cb]
   have h3:(1:Int)*401≤(a:Int)*401:=Int.mul_le_mul_of_nonneg_right (by omega) (by omega)
   rw[if_pos (show 401<((a*b:Nat):Int) by omega)]
   split<;>omega
  ·rw[if_neg cb,hab]
theorem zuz {a b:Nat}:cap (cap (a:Int)+cap (b:Int))=cap ((a+b:Nat):Int):=by
 unfold cap
 push_cast
 split<;>split<;>split<;>(try split)<;>omega
theorem zuA {x:Int}:cap (cap x)=cap x:=by unfold cap;split<;>(try split)<;>omega
theorem zqv:∀(l:List Pat) (out:List (List Pat)),(∀k∈l,cntS k=cap ((zap k).length:Int)∧0<(zap k).length)→cntM l (cap (out.length:Int))=cap (((l.map zap).foldl za3 out).length:Int)∧(0<out.length→0<((l.map zap).foldl za3 out).length)
 | [],out,_=>⟨rfl,fun h=>h⟩
 |k::r,out,h=>by
  have hk:=h k (by simp)
  unfold cntM
  rw[hk.1,zuB]
  have:=zqv r (za3 out (zap k)) (fun x hx=>h x (by simp[hx]))
  rw[zf2] at this
  rw[List.map_cons,List.foldl_cons]
  exact⟨this.1,fun ho=>this.2 (Nat.mul_pos ho hk.2)⟩
theorem zjd:∀(n:Nat){p:Pat},binP n p=true→cntS p=cap ((zap p).length:Int)∧0<(zap p).length
 |0,p,h=>by simp[binP] at h
 |n+1,p,h=>by
  have ih:=fun i (hi:i<p.kids.length)=>zjd n (zdH h hi)
  rw[zmH]
  by_cases h5:p.op=5
  ·have hl:=zjX h h5
   rw[if_pos h5,zde h5 hl,List.length_append]
   have k0:=ih 0 (by omega)
   have k1:=ih 1 (by omega)
   have e:p.kids=[nth p.kids 0,nth p.kids 1]:=by
    match hk:p.kids,hl with
    | [a,b],_=>rfl
   refine⟨?_,by omega⟩
   rw[e]
   simp only[cntO]
   rw[Int.zero_add,k0.1,zuA,k1.1]
   show cap (cap ((zap (nth p.kids 0)).length:Int)+cap ((zap (nth p.kids 1)).length:Int))=_
   rw[zuz];rfl
  ·rw[if_neg h5,zcQ h5,List.length_map]
   have:=zqv p.kids [[]] (fun k hk=>by
    obtain⟨i,hi,rfl⟩:=List.getElem_of_mem hk
    have:=ih i hi
    simpa [nth,List.getD,hi] using this)
   exact⟨this.1,this.2 (by simp)⟩
theorem zgR:∀(ls:List (List Pat)) (out:List (List Pat)),(∀l∈ls,0<l.length)→out.length≤(ls.foldl za3 out).length
 | [],out,_=>Nat.le_refl _
 |l::r,out,h=>by
  rw[List.foldl_cons]
  have h1:=zgR r (za3 out l) (fun x hx=>h x (by simp[hx]))
  rw[zf2] at h1
  have h2:out.length≤out.length*l.length:=Nat.le_mul_of_pos_right _ (h l (by simp))
  omega
theorem ziK:∀(ls:List (List Pat)) (out:List (List Pat)),(∀l∈ls,0<l.length)→0<out.length→∀l∈ls,l.length≤(ls.foldl za3 out).length
 | [],out,_,_,l,hl=>by simp at hl
 |x::r,out,h,ho,l,hl=>by
  rw[List.foldl_cons]
  have hx:=h x (by simp)
  have hp:0<(za3 out x).length:=by rw[zf2];exact Nat.mul_pos ho hx
  rcases List.mem_cons.1 hl with rfl|hl
  ·have h1:=zgR r (za3 out l) (fun y hy=>h y (by simp[hy]))
   rw[zf2] at h1
   have h2:l.length≤out.length*l.length:=Nat.le_mul_of_pos_left _ ho
   omega
  ·exact ziK r (za3 out x) (fun y hy=>h y (by simp[hy])) hp l hl
theorem zhw {n:Nat}{p:Pat} (h:binP (n+1) p=true){i:Nat} (hi:i<p.kids.length):(zap (nth p.kids i)).length≤(zap p).length:=by
 by_cases h5:p.op=5
 ·have hl:=zjX h h5
  rw[zde h5 hl,List.length_append]
  have:i=0∨i=1:=by omega
  rcases this with rfl|rfl<;>omega
 ·rw[zcQ h5,List.length_map]
  refine ziK _ [[]] (fun l hl=>?_) (by simp) _ (List.mem_map.2 ⟨_,zae hi,rfl⟩)
  obtain⟨k,hk,rfl⟩:=List.mem_map.1 hl
  obtain⟨j,hj,rfl⟩:=List.getElem_of_mem hk
  have:=(zjd n (zdH h hj)).2
  simpa [nth,List.getD,hj] using this
theorem zqi {n:Nat}{p:Pat} (h:binP (n+1) p=true) (h5:p.op≠5) (i:Nat):(zdL ((p.kids.take i).map zap)).length≤(zap p).length:=by
 rw[zcQ h5,List.length_map]
 have e:p.kids.map zap=(p.kids.take i).map zap++(p.kids.drop i).map zap:=by rw[←List.map_append,List.take_append_drop]
 unfold zdL
 rw[e,List.foldl_append]
 refine zgR _ _ (fun l hl=>?_)
 obtain⟨k,hk,rfl⟩:=List.mem_map.1 hl
 obtain⟨j,hj,rfl⟩:=List.getElem_of_mem (List.mem_of_mem_drop hk)
 have:=(zjd n (zdH h hj)).2
 simpa [nth,List.getD,hj] using this
def zac (w:List Data):Nat→Ty→Pat→Bool
 |0,_,_=>false
 |n+1,t,p=>(ownP w t p&&decide (p.op=1∨p.op=3∨p.op=4))&&all2 (zac w n) (zaf w t p) p.kids
theorem zgJ {α β:Type}{f g:α→β→Bool}:∀ {a:List α}{b:List β},(∀x∈a,∀y∈b,f x y=true→g x y=true)→all2 f a b=true→all2 g a b=true
 | [],[],_,_=>rfl
 |x::r,y::s,h,h2=>by
  simp only[all2,Bool.and_eq_true] at h2 ⊢
  exact⟨h x (by simp) y (by simp) h2.1,zgJ (fun a ha b hb=>h a (by simp[ha]) b (by simp[hb])) h2.2⟩
 | [],_::_,_,h2=>by simp[all2] at h2
 |_::_,[],_,h2=>by simp[all2] at h2
theorem zgr {w:List Data}:∀(n:Nat){t:Ty}{p:Pat},zac w n t p=true→zas w n t p=true
 |0,t,p,h=>by simp[zac] at h
 |n+1,t,p,h=>by
  unfold zac at h
  unfold zas
  simp only[Bool.and_eq_true] at h ⊢
  exact⟨h.1.1,zgJ (fun x _ y _ hh=>zgr n hh) h.2⟩
theorem zfZ {w:List Data}:∀(n:Nat){t:Ty}{p:Pat},zac w n t p=true→zac w (n+1) t p=true
 |0,t,p,h=>by simp[zac] at h
 |n+1,t,p,h=>by
  unfold zac at h ⊢
  simp only[Bool.and_eq_true] at h ⊢
  exact⟨h.1,zgJ (fun x _ y _ hh=>zfZ n hh) h.2⟩
theorem zbc {w:List Data}{n:Nat}{t:Ty}{p:Pat} (h:zac w n t p=true):p.op=1∨p.op=3∨p.op=4:=by
 cases n with
 |zero=>simp[zac] at h
 |succ n=>unfold zac at h;simp only[Bool.and_eq_true] at h;exact of_decide_eq_true h.1.2
theorem zex {w:List Data}{n:Nat}{t:Ty}{p:Pat} (h:zac w n t p=true):ownP w t p=true∧p.kids.length=(zaf w t p).length:=by
 cases n with
 |zero=>simp[zac] at h
 |succ n=>exact zbH (zgr _ h)
theorem zaE {w:List Data}{n:Nat}{t:Ty}{p:Pat} (h:zac w (n+1) t p=true){i:Nat} (hi:i<p.kids.length):zac w n (nth (zaf w t p) i) (nth p.kids i)=true:=by
 have hl:=(zex h).2
 unfold zac at h
 simp only[Bool.and_eq_true] at h
 exact zfk hl.symm h.2 i (by omega)
theorem zuZ {w:List Data}{t:Ty}{p:Pat}{l:List Pat}:ownP w t (.mk p.op p.ctor p.n p.m p.var l)=ownP w t p:=rfl
theorem zs7 {w:List Data}{t:Ty}{p:Pat}{l:List Pat}:zaf w t (.mk p.op p.ctor p.n p.m p.var l)=zaf w t p:=rfl
theorem zhp:∀(ls:List (List Pat)) (out:List (List Pat)) (l:List Pat),l∈ls.foldl za3 out→∃q∈out,∃r:List Pat,l=q++r∧r.length=ls.length∧∀i,i<ls.length→nth r i∈nth ls i
 | [],out,l,h=>⟨l,h,[],by simp,rfl,fun i hi=>by simp at hi⟩
 |x::rs,out,l,h=>by
  rw[List.foldl_cons] at h
  obtain⟨q,hq,r,e,hl,hm⟩:=zhp rs (za3 out x) l h
  unfold za3 at hq
  simp only[List.mem_flatMap,List.mem_map] at hq
  obtain⟨q0,hq0,c,hc,rfl⟩:=hq
  refine⟨q0,hq0,c::r,by rw[e];simp,by simp[hl],fun i hi=>?_⟩
  cases i with
  |zero=>exact hc
  |succ i=>exact hm i (by simpa using hi)
theorem zi1 {w:List Data}{n:Nat}{t:Ty}:zac w (n+1) t anyQ=true:=by
 unfold zac
 have h1:zaf w t anyQ=[]:=by unfold zaf;rw[if_neg (by decide),if_neg (by decide),if_neg (by decide)]
 rw[h1]
 have h2:ownP w t anyQ=true:=by unfold ownP;exact decide_eq_true (by simp[anyQ,Pat.op,Pat.var,Pat.n,Pat.m,Pat.ctor])
 rw[h2];rfl
theorem zb0:zap anyQ=[anyQ]:=by
 rw[zcQ (by decide)];rfl
theorem zeg {w:List Data}{n:Nat}{t:Ty}{p:Pat} (h:zas w (n+1) t p=true) (h4:p.op≠4) (h5:p.op≠5) (h6:p.op≠6):p.kids=[]:=by
 have hl:=(zbH h).2
 unfold zaf at hl
 rw[if_neg h4,if_neg h5,if_neg h6] at hl
 exact List.eq_nil_of_length_eq_zero hl
theorem zfv {w:List Data}:∀(n:Nat){t:Ty}{p:Pat},zas w n t p=true→∀x∈zap (zat p),zac w n t x=true
 |0,t,p,h=>by simp[zas] at h
 |n+1,t,p,h=>by
  obtain⟨ho,hlen⟩:=zbH h
  have hop:=ziB h
  intro x hx
  rw[zbd] at hx
  by_cases h2:p.op=2
  ·rw[if_pos h2,zb0,List.mem_singleton] at hx
   rw[hx];exact zi1
  rw[if_neg h2] at hx
  by_cases h6:p.op=6
  ·obtain⟨hl,s0⟩:=zeN h h6
   rw[if_pos ⟨h6,fun e=>by rw[e] at hl;simp at hl⟩] at hx
   exact zfZ n (zfv n s0 x hx)
  rw[if_neg (fun h=>h6 h.1)] at hx
  by_cases h5:p.op=5
  ·obtain⟨hl,s0,s1⟩:=zeO h h5
   have hl2:(p.kids.map zat).length=2:=by rw[List.length_map];exact hl
   rw[zde (p:= .mk p.op p.ctor p.n p.m p.var (p.kids.map zat)) h5 hl2] at hx
   have e0:nth (p.kids.map zat) 0=zat (nth p.kids 0):=by
    match hk:p.kids,hl with
    | [a,b],_=>rfl
   have e1:nth (p.kids.map zat) 1=zat (nth p.kids 1):=by
    match hk:p.kids,hl with
    | [a,b],_=>rfl
   simp only[zaZ] at hx
   rw[e0,e1] at hx
   rcases List.mem_append.1 hx with hx|hx
   ·exact zfZ n (zfv n s0 x hx)
   ·exact zfZ n (zfv n s1 x hx)
  rw[zcQ (p:= .mk p.op p.ctor p.n p.m p.var (p.kids.map zat)) h5] at hx
  simp only[zaZ,zbZ,zeI,mk_n,mk_m,zgZ,List.mem_map] at hx
  obtain⟨l,hl,rfl⟩:=hx
  obtain⟨q,hq,r,e,hlr,hm⟩:=zhp _ _ _ hl
  rw[List.mem_singleton] at hq
  rw[hq,List.nil_append] at e
  subst e
  simp only[List.map_map,List.length_map] at hlr hm
  unfold zac
  rw[zuZ,zs7,ho,decide_eq_true (show _∨_∨_ from by rw[zbZ];omega),Bool.true_and,Bool.true_and]
  refine zb4 (by rw[zaZ];omega) (fun i hi=>?_)
  have hm':=hm i (by omega)
  have e2:nth (p.kids.map (zap ∘ zat)) i=zap (zat (nth p.kids i)):=by
   rw[zaG (by simp;omega)];simp[nth,List.getD,show i<p.kids.length by omega]
  rw[e2] at hm'
  exact zfv n (zbG h (by omega)) _ hm'
theorem Pats.ok_of:∀ {l:List Pat},(∀k∈l,k.ok)→Pats.ok l
 | [],_=>trivial
 |k::r,h=>⟨h k (by simp),Pats.ok_of (fun x hx=>h x (by simp[hx]))⟩
theorem Pats.size_of {m:Nat}:∀ {l:List Pat},(∀k∈l,k.size≤m)→Pats.size l≤l.length*m
 | [],_=>by simp[Pats.size]
 |k::r,h=>by
  have h1:=h k (by simp)
  have h2:=Pats.size_of (l:=r) (fun x hx=>h x (by simp[hx]))
  simp only[Pats.size,List.length_cons,Nat.succ_mul];omega
mutual
theorem zjW:∀p:Pat,p.ok→(zat p).ok
 | .mk op c n m v ks,h=>by
  unfold zat
  split
  ·exact⟨by simp,trivial⟩
  ·split
   ·exact ztp ks h.2
   ·exact⟨by rw[zkx,List.length_map];exact h.1,zoE ks h.2⟩
theorem ztp:∀l:List Pat,Pats.ok l→(zj3 l).ok
 | [],_=>⟨by simp,trivial⟩
 |k::r,h=>zjW k h.1
theorem zoE:∀l:List Pat,Pats.ok l→Pats.ok (zha l)
 | [],_=>trivial
 |k::r,h=>⟨zjW k h.1,zoE r h.2⟩
end
mutual
theorem znf:∀p:Pat,(zat p).size≤p.size
 | .mk op c n m v ks=>by
  unfold zat
  split
  ·simp[anyQ,Pat.size,Pats.size]
  ·split
   ·have:=zrt ks;simp only[Pat.size];omega
   ·have:=zlb ks;simp only[Pat.size];omega
theorem zrt:∀l:List Pat,(zj3 l).size≤1+Pats.size l
 | []=>by simp[zj3,anyQ,Pat.size,Pats.size]
 |k::r=>by have:=znf k;simp only[zj3,Pats.size];omega
theorem zlb:∀l:List Pat,Pats.size (zha l)≤Pats.size l
 | []=>Nat.le_refl _
 |k::r=>by have:=znf k;have:=zlb r;simp only[zha,Pats.size];omega
end
theorem Pat.cs_cd (l:List Pat):Pat.cs l=l.map Pat.cc:=by
 rw[Pat.cs_eq];exact List.map_congr_left (fun v _=>Pat.c_eq v)
theorem zbD (l:List Pat):∀x∈Pat.cs l,x.length=6:=Pat.cs_rows
theorem zfw (l:List Pat):∀x∈l.map Pat.cc,x.length=6:=fun x hx=>by
 obtain⟨y,_,rfl⟩:=List.mem_map.1 hx;rfl
theorem zqp {p:Pat} (h:p.op=2):zat p=anyQ:=by rw[zbd,if_pos h]
theorem zqq {p:Pat} (h:p.op=6) (h2:0<p.kids.length):zat p=zat (nth p.kids 0):=by
 rw[zbd,if_neg (by omega),if_pos ⟨h,fun e=>by rw[e] at h2;simp at h2⟩]
theorem zqr {p:Pat} (h:p.op≠2) (h2:¬(p.op=6∧0<p.kids.length)):zat p = .mk p.op p.ctor p.n p.m p.var (p.kids.map zat):=by
 rw[zbd,if_neg h,if_neg (fun hh=>h2 ⟨hh.1,List.length_pos_iff.2 hh.2⟩)]
theorem zfU:∀(n:Nat){p:Pat},p.size≤n→p.ok→FnD Tryz.prog 153 [.agg [.d (.i p.op),.d (.i p.ctor),.d (.i p.n),.d (.i p.m),.d (.i p.var),.d (zad p.kids)]] [] (.agg [.d (.i p.op),.d (.i p.ctor),.d (.i p.n),.d (.i p.m),.d (.i p.var),.d (zad p.kids)]) []
 |0,p,h,_=>by rw[Pat.size_eq] at h;omega
 |n+1,p,h,hok=>by
  rw[Pat.size_eq] at h
  rw[Pat.ok_iff] at hok
  have hok1:=hok.1
  refine bd Tryz.f153 24 [] [] fun w0 F0 own kept hk=>?_
  refine bx 3001 ?_
  refine ab 3002 tz28 ?_
  refine tv ?_
  refine so ty26 ?_
  refine tv ?_
  refine CWp.tokB 3001 5 7 6 rfl rfl rfl rfl ?_
  refine CWp.loopX (ι:=List (Pat)×List (Pat)) hk (fun x=>[(11,.d (.i (x.1.length:Int)))]) [5,12,13,14,15,16,17,18,19,20,21,22] (fun x=>[(3001,some (.box [.d (.i p.op),.d (.i p.ctor),.d (.i p.n),.d (.i p.m),.d (.i p.var),.gl 7 (x.1.map Pat.cc)])),(7,some (.tok (x.1.map Pat.cc).length 6))]) (fun x=>x.1++x.2=p.kids) (fun x=>x.2.length) ([],p.kids) (by simp) ⟨⟨_,rfl,LeA.eqi ?_⟩,trivial⟩ ⟨?_,⟨zab ?_,trivial⟩⟩ (fun x=>rfl) (fun x hg1=>?_)
  focus (rfl)
  focus (first|rfl|(simp[getH];done))
  focus (rfl)
  obtain⟨pre,rest⟩:=x
  dsimp only at hg1 ⊢
  refine evc [] [] ?_
  refine sq (fun h1 h1p h1s=>?_) fun h1 h1p h1s=>?_
  try simp only[Q,Pat.cs_len] at h1p
  rcases rest with _|⟨y,rest⟩
  ·exfalso;simp_all
  refine Walk.idx sl26 .none rfl rfl rfl rfl (Pat.cs_at' hg1) rfl ?_
  refine ev ?_
  refine ab 3005 tz28 ?_
  refine so ty28 ?_
  refine tv ?_
  refine wc zr4 (zfU n (p:=y) (by have:=Pats.size_mem (l:=p.kids) (v:=y) (by rw[←hg1];simp);omega) (Pats.ok_mem hok.2 y (by rw[←hg1];simp))) rfl rfl ?_
  refine si [0] [_] sl26 tz28 ?_
  refine ap sl26 zz28 rfl rfl rfl (by intro x hx;(simp at hx;subst hx;rfl)) (by have:=congrArg List.length hg1;simp at this;simp;omega) ?_
  refine evd [] [] ?_
  refine so ty26 ?_
  refine dr ?_
  refine ar ?_
  refine Exists.intro ((pre++[y],rest)) ⟨(by have hz:=hg1;rw[←hz];simp),(by simp),sx ⟨⟨_,rfl,LeA.eqi ?_⟩,trivial⟩ ⟨?_,⟨zab ?_,trivial⟩⟩⟩
  focus ((simp;done))
  focus (first|rfl|(simp[getH];done))
  focus ((simp;done))
  try simp only[Q,Pat.cs_len] at h1p
  have hrest:rest=[]:=by
   rcases rest with _|⟨a,b⟩
   ·rfl
   ·exfalso;have hz:=congrArg List.length (hg1);simp only[List.length_append,List.length_cons,List.length_map] at hz;omega
  subst hrest
  refine so ty28 ?_
  refine tv ?_
  refine rn0 (.cons (.cellA ty28 rfl rfl rfl) .nil) (.agg (.cons (.eqd ?_) (.cons (.eqd ?_) (.cons (.eqd ?_) (.cons (.eqd ?_) (.cons (.eqd ?_) (.cons (.gld ?_) .nil)))))))
  rotate_left 6
  all_goals (first|rfl|(rw[List.append_nil] at hg1;rw[←hg1,Pat.cs_cd];done))
theorem ziV {l:List Pat} (h:l.length≤1000000000000) (hok:∀p∈l,p.ok):FnD Tryz.prog 96 [.d (zad l)] [] (.d (zad l)) []:=by
 refine bd Tryz.f96 19 [3] [] fun w0 F0 own kept hk=>?_
 refine Walk.assignNil 1 6 .none rfl rfl ?_
 refine tv ?_
 refine CWp.loopX (ι:=List (Pat)×List (Pat)) hk (fun x=>[(8,.d (.i (x.1.length:Int))),(3,.gl 1 (x.1.map Pat.cc))]) [5,9,10,11,12,13,14,15,16,17] (fun x=>[(1,some (.tok ((x.1.map Pat.cc)).length 6))]) (fun x=>x.1++x.2=l) (fun x=>x.2.length) ([],l) (by simp) ⟨⟨_,rfl,LeA.eqi ?_⟩,⟨⟨_,rfl,LeA.glg ?_⟩,trivial⟩⟩ ⟨zab ?_,trivial⟩ (fun x=>rfl) (fun x hg1=>?_)
 iterate 3 focus (rfl)
 obtain⟨pre,rest⟩:=x
 dsimp only at hg1 ⊢
 refine evc [3] [] ?_
 refine sq (fun h1 h1p h1s=>?_) fun h1 h1p h1s=>?_
 try simp only[Q,Pat.cs_len] at h1p
 rcases rest with _|⟨y,rest⟩
 ·exfalso;simp_all
 refine Walk.idx sl26 .none rfl rfl rfl rfl (Pat.cs_at' hg1) rfl ?_
 refine evs [3] [] ?_
 refine ab 3005 tz28 ?_
 refine so ty28 ?_
 refine tv ?_
 refine wc zr4 (zfU _ (Nat.le_refl _) (hok y (by rw[←hg1];simp))) rfl rfl ?_
 refine si [0] [_] sl26 tz28 ?_
 refine ap sl26 zz28 rfl rfl rfl (by intro x hx;simp at hx;subst hx;rfl) (by have:=congrArg List.length hg1;simp at this;simp;omega) ?_
 refine asg ?_
 refine tv ?_
 refine ar ?_
 refine Exists.intro ((pre++[y],rest)) ⟨(by have hz:=hg1;rw[←hz];simp),(by simp),sx ⟨⟨_,rfl,LeA.eqi ?_⟩,⟨⟨_,rfl,LeA.glg ?_⟩,trivial⟩⟩ ⟨zab ?_,trivial⟩⟩
 iterate 3 focus ((simp;done))
 try simp only[Q,Pat.cs_len] at h1p
 have hrest:rest=[]:=by
  rcases rest with _|⟨a,b⟩
  ·rfl
  ·exfalso;have hz:=congrArg List.length (hg1);simp only[List.length_append,List.length_cons,List.length_map] at hz;omega
 subst hrest
 refine rn0 (r1 rfl) (.gld ?_)
 rotate_left
 all_goals ((rw[List.append_nil] at hg1;rw[←hg1,Pat.cs_cd];done))
theorem zfT:FnD Tryz.prog 186 [] [] (.agg [.d (.i 1),.d (.i 0),.d (.i 0),.d (.i 0),.d (.i 0),.d (.sl [])]) []:=by
 refine bd Tryz.f186 2 [] [] fun w0 F0 own kept hk=>?_
 refine ab 3000 tz28 ?_
 refine tv ?_
 refine bu [0] [_] st28 ?_
 refine so ty28 ?_
 refine tv ?_
 focus (refine rn0 (.cons (.cellA ty28 rfl rfl rfl) .nil) (.agg (.cons (.eqd ?_) (.cons (.eqd ?_) (.cons (.eqd ?_) (.cons (.eqd ?_) (.cons (.eqd ?_) (.cons (.nild ?_) .nil)))))));all_goals (rfl))
theorem zcS:∀(n:Nat){p:Pat},p.size≤n→p.ok→FnD Tryz.prog 139 [.agg [.d (.i p.op),.d (.i p.ctor),.d (.i p.n),.d (.i p.m),.d (.i p.var),.d (zad p.kids)]] [] (.agg [.d (.i (zat p).op),.d (.i (zat p).ctor),.d (.i (zat p).n),.d (.i (zat p).m),.d (.i (zat p).var),.d (zad (zat p).kids)]) []
 |0,p,h,_=>by rw[Pat.size_eq] at h;omega
 |n+1,p,h,hok=>by
  rw[Pat.size_eq] at h
  rw[Pat.ok_iff] at hok
  have hok1:=hok.1
  by_cases h2:p.op=2
  ·rw[zqp h2]
   refine bd Tryz.f139 44 [] [] fun w0 F0 own kept hk=>?_
   refine bx 3001 ?_
   refine ab 3002 tz28 ?_
   refine tv ?_
   refine sq (fun h1 h1p h1s=>?_) fun h1 h1p h1s=>?_
   try simp only[Q] at h1p
   refine wc zsb (zfT) rfl rfl ?_
   refine so ty28 ?_
   refine tv ?_
   refine rn0 (.cons (.cellA ty28 rfl rfl rfl) .nil) (.agg (.cons (.eqd ?_) (.cons (.eqd ?_) (.cons (.eqd ?_) (.cons (.eqd ?_) (.cons (.eqd ?_) (.cons (.eqd ?_) .nil)))))))
   rotate_left 6
   try simp only[Q] at h1p
   exfalso;omega
   all_goals (rfl)
  by_cases h6:p.op=6∧0<p.kids.length
  ·rw[zqq h6.1 h6.2]
   refine bd Tryz.f139 44 [] [] fun w0 F0 own kept hk=>?_
   refine bx 3001 ?_
   refine ab 3002 tz28 ?_
   refine tv ?_
   refine sq (fun h1 h1p h1s=>?_) fun h1 h1p h1s=>?_
   try simp only[Q,Pat.cs_len] at h1p
   exfalso;omega
   try simp only[Q,Pat.cs_len] at h1p
   refine sq (fun h2 h2p h2s=>?_) fun h2 h2p h2s=>?_
   try simp only[Q,Pat.cs_len] at h2p
   refine sq (fun h3 h3p h3s=>?_) fun h3 h3p h3s=>?_
   try simp only[Q,Pat.cs_len] at h3p
   refine Walk.idx (i:=0) sl26 .none rfl rfl rfl rfl (zaH h6.2) rfl ?_
   refine ev ?_
   refine wc zi8 (zcS n (p:=nth p.kids 0) (by have:=Pats.size_mem (zae h6.2);omega) (Pats.ok_mem hok.2 _ (zae h6.2))) rfl rfl ?_
   refine so ty28 ?_
   refine tv ?_
   refine rn0 (.cons (.cellA ty28 rfl rfl rfl) .nil) (.agg (.cons (.eqd ?_) (.cons (.eqd ?_) (.cons (.eqd ?_) (.cons (.eqd ?_) (.cons (.eqd ?_) (.cons (.eqd ?_) .nil)))))))
   rotate_left 6
   try simp only[Q,Pat.cs_len] at h3p
   focus (exfalso;first|omega|(simp_all;done))
   try simp only[Q,Pat.cs_len] at h2p
   exfalso;omega
   all_goals (rfl)
  ·rw[zqr h2 h6]
   refine bd Tryz.f139 44 [] [] fun w0 F0 own kept hk=>?_
   refine bx 3001 ?_
   refine ab 3002 tz28 ?_
   refine tv ?_
   refine sq (fun h1 h1p h1s=>?_) fun h1 h1p h1s=>?_
   try simp only[Q,Pat.cs_len] at h1p
   exfalso;omega
   try simp only[Q,Pat.cs_len] at h1p
   refine sq (fun h2 h2p h2s=>?_) fun h2 h2p h2s=>?_
   try simp only[Q,Pat.cs_len] at h2p
   refine sq (fun h3 h3p h3s=>?_) fun h3 h3p h3s=>?_
   try simp only[Q,Pat.cs_len] at h3p
   focus (exfalso;apply h6;first|omega|(simp_all;done))
   try simp only[Q,Pat.cs_len] at h3p
   refine so ty26 ?_
   refine tv ?_
   refine CWp.tokB 3001 5 7 6 rfl rfl rfl rfl ?_
   refine CWp.loopX (ι:=List (Pat)×List (Pat)) hk (fun x=>[(31,.d (.i (x.1.length:Int)))]) [5,32,33,34,35,36,37,38,39,40,41,42] (fun x=>[(3001,some (.box [.d (.i p.op),.d (.i p.ctor),.d (.i p.n),.d (.i p.m),.d (.i p.var),.gl 7 ((x.1.map zat).map Pat.cc)])),(7,some (.tok ((x.1.map zat).map Pat.cc).length 6))]) (fun x=>x.1++x.2=p.kids) (fun x=>x.2.length) ([],p.kids) (by simp) ⟨⟨_,rfl,LeA.eqi ?_⟩,trivial⟩ ⟨?_,⟨zab ?_,trivial⟩⟩ (fun x=>rfl) (fun x hg1=>?_)
   focus (rfl)
   focus (first|rfl|(simp[getH];done))
   focus (rfl)
   obtain⟨pre,rest⟩:=x
   dsimp only at hg1 ⊢
   refine evc [] [] ?_
   refine sq (fun h4 h4p h4s=>?_) fun h4 h4p h4s=>?_
   try simp only[Q,Pat.cs_len] at h4p
   rcases rest with _|⟨y,rest⟩
   ·exfalso;simp_all
   refine Walk.idx sl26 .none rfl rfl rfl rfl (Pat.cs_at' hg1) rfl ?_
   refine ev ?_
   refine ab 3005 tz28 ?_
   refine so ty28 ?_
   refine tv ?_
   refine wc zi8 (zcS n (p:=y) (by have:=Pats.size_mem (l:=p.kids) (v:=y) (by rw[←hg1];simp);omega) (Pats.ok_mem hok.2 y (by rw[←hg1];simp))) rfl rfl ?_
   refine si [0] [_] sl26 tz28 ?_
   refine ap sl26 zz28 rfl rfl rfl (by intro x hx;(simp at hx;subst hx;rfl)) (by have:=congrArg List.length hg1;simp at this;simp;omega) ?_
   refine evd [] [] ?_
   refine so ty26 ?_
   refine dr ?_
   refine ar ?_
   refine Exists.intro ((pre++[y],rest)) ⟨(by have hz:=hg1;rw[←hz];simp),(by simp),sx ⟨⟨_,rfl,LeA.eqi ?_⟩,trivial⟩ ⟨?_,⟨zab ?_,trivial⟩⟩⟩
   focus ((simp;done))
   focus (first|rfl|(simp[getH];done))
   focus ((simp;done))
   try simp only[Q,Pat.cs_len] at h4p
   have hrest:rest=[]:=by
    rcases rest with _|⟨a,b⟩
    ·rfl
    ·exfalso;have hz:=congrArg List.length (hg1);simp only[List.length_append,List.length_cons,List.length_map] at hz;omega
   subst hrest
   refine so ty28 ?_
   refine tv ?_
   refine rn0 (.cons (.cellA ty28 rfl rfl rfl) .nil) (.agg (.cons (.eqd ?_) (.cons (.eqd ?_) (.cons (.eqd ?_) (.cons (.eqd ?_) (.cons (.eqd ?_) (.cons (.gld ?_) .nil)))))))
   rotate_left 6
   try simp only[Q,Pat.cs_len] at h2p
   refine sqF ?_
   refine so ty26 ?_
   refine tv ?_
   refine CWp.tokB 3001 5 7 6 rfl rfl rfl rfl ?_
   refine CWp.loopX (ι:=List (Pat)×List (Pat)) hk (fun x=>[(31,.d (.i (x.1.length:Int)))]) [5,32,33,34,35,36,37,38,39,40,41,42] (fun x=>[(3001,some (.box [.d (.i p.op),.d (.i p.ctor),.d (.i p.n),.d (.i p.m),.d (.i p.var),.gl 7 ((x.1.map zat).map Pat.cc)])),(7,some (.tok ((x.1.map zat).map Pat.cc).length 6))]) (fun x=>x.1++x.2=p.kids) (fun x=>x.2.length) ([],p.kids) (by simp) ⟨⟨_,rfl,LeA.eqi ?_⟩,trivial⟩ ⟨?_,⟨zab ?_,trivial⟩⟩ (fun x=>rfl) (fun x hg1=>?_)
   focus (rfl)
   focus (first|rfl|(simp[getH];done))
   focus (rfl)
   obtain⟨pre,rest⟩:=x
   dsimp only at hg1 ⊢
   refine evc [] [] ?_
   refine sq (fun h6 h6p h6s=>?_) fun h6 h6p h6s=>?_
   try simp only[Q,Pat.cs_len] at h6p
   rcases rest with _|⟨y,rest⟩
   ·exfalso;simp_all
   refine Walk.idx sl26 .none rfl rfl rfl rfl (Pat.cs_at' hg1) rfl ?_
   refine ev ?_
   refine ab 3005 tz28 ?_
   refine so ty28 ?_
   refine tv ?_
   refine wc zi8 (zcS n (p:=y) (by have:=Pats.size_mem (l:=p.kids) (v:=y) (by rw[←hg1];simp);omega) (Pats.ok_mem hok.2 y (by rw[←hg1];simp))) rfl rfl ?_
   refine si [0] [_] sl26 tz28 ?_
   refine ap sl26 zz28 rfl rfl rfl (by intro x hx;(simp at hx;subst hx;rfl)) (by have:=congrArg List.length hg1;simp at this;simp;omega) ?_
   refine evd [] [] ?_
   refine so ty26 ?_
   refine dr ?_
   refine ar ?_
   refine Exists.intro ((pre++[y],rest)) ⟨(by have hz:=hg1;rw[←hz];simp),(by simp),sx ⟨⟨_,rfl,LeA.eqi ?_⟩,trivial⟩ ⟨?_,⟨zab ?_,trivial⟩⟩⟩
   focus ((simp;done))
   focus (first|rfl|(simp[getH];done))
   focus ((simp;done))
   try simp only[Q,Pat.cs_len] at h6p
   have hrest:rest=[]:=by
    rcases rest with _|⟨a,b⟩
    ·rfl
    ·exfalso;have hz:=congrArg List.length (hg1);simp only[List.length_append,List.length_cons,List.length_map] at hz;omega
   subst hrest
   refine so ty28 ?_
   refine tv ?_
   refine rn0 (.cons (.cellA ty28 rfl rfl rfl) .nil) (.agg (.cons (.eqd ?_) (.cons (.eqd ?_) (.cons (.eqd ?_) (.cons (.eqd ?_) (.cons (.eqd ?_) (.cons (.gld ?_) .nil)))))))
   rotate_left 6
   all_goals (first|rfl|(rw[List.append_nil] at hg1;subst hg1;rw[←Pat.cs_cd];all_goals rfl))
theorem zdT:∀(n:Nat){p:Pat},p.size≤n→p.ok→FnD Tryz.prog 140 [.agg [.d (.i p.op),.d (.i p.ctor),.d (.i p.n),.d (.i p.m),.d (.i p.var),.d (zad p.kids)]] [] (.d (.i (cntS p))) []
 |0,p,h,_=>by rw[Pat.size_eq] at h;omega
 |n+1,p,h,hok=>by
  rw[Pat.size_eq] at h
  rw[Pat.ok_iff] at hok
  have hok1:=hok.1
  have hbd:=fun i=>zmG (nth p.kids i)
  by_cases h5:p.op=5
  ·rw[zmH,if_pos h5]
   refine bd Tryz.f140 31 [] [] fun w0 F0 own kept hk=>?_
   refine bx 3001 ?_
   refine ev ?_
   refine sq (fun h1 h1p h1s=>?_) fun h1 h1p h1s=>?_
   try simp only[Q,Pat.cs_len] at h1p
   refine CWp.loopX (ι:=Nat×Int) hk (fun x=>[(12,.d (.i (x.1:Int))),(3,.d (.i x.2))]) [5,13,14,15,16,17,18,19,20,21,22,23,24,25,26,27,28,29] (fun x=>[]) (fun x=>x.1≤p.kids.length∧cntO (p.kids.drop x.1) x.2=cntO p.kids 0∧0≤x.2∧x.2≤401) (fun x=>p.kids.length-x.1) (0,0) ⟨by simp,rfl,by simp,by simp⟩ ⟨⟨_,rfl,LeA.eqi ?_⟩,⟨⟨_,rfl,LeA.eqi ?_⟩,trivial⟩⟩ trivial (fun x=>rfl) (fun x hg1=>?_)
   iterate 2 focus (rfl)
   refine evc [] [] ?_
   refine sq (fun h2 h2p h2s=>?_) fun h2 h2p h2s=>?_
   try simp only[Q,Pat.cs_len] at h2p
   refine Walk.idx sl26 .none rfl rfl rfl rfl (zaH (by omega)) rfl ?_
   refine ev ?_
   refine ab 3005 tz28 ?_
   refine so ty28 ?_
   refine tv ?_
   refine sq (fun h3 h3p h3s=>?_) fun h3 h3p h3s=>?_
   try simp only[Q,Pat.cs_len] at h3p
   refine wc zlf (zdT n (p:=nth p.kids x.1) (by have:=Pats.size_mem (zae (l:=p.kids) (i:=x.1) (by omega));omega) (Pats.ok_mem hok.2 _ (zae (by omega)))) rfl rfl ?_
   refine ev ?_
   refine ar ?_ (by(have hb:=hbd x.1;constructor<;>omega))
   refine Walk.minI .none rfl rfl rfl ?_
   refine ev ?_
   refine ar ?_ (by(constructor<;>omega))
   refine Exists.intro ((x.1+1,cap (x.2+cntS (nth p.kids x.1)))) ⟨(by
        have hb:=hbd x.1
        have hc:=zlm (x:=x.2+cntS (nth p.kids x.1)) (by omega)
        exact⟨by dsimp only;omega,by dsimp only;rw[←zsk (by omega)];exact hg1.2.1,hc.1,hc.2⟩),(by dsimp only;omega),sx ⟨⟨_,rfl,LeA.eqi ?_⟩,⟨⟨_,rfl,LeA.eqi ?_⟩,trivial⟩⟩ trivial⟩
   iterate 2 focus (rfl)
   try simp only[Q,Pat.cs_len] at h3p
   exfalso;omega
   try simp only[Q,Pat.cs_len] at h2p
   refine rn0 (r1 rfl) (.eqd ?_)
   rotate_left
   try simp only[Q,Pat.cs_len] at h1p
   exfalso;omega
   all_goals (refine congrArg D.i ?_;rw[←hg1.2.1,List.drop_eq_nil_of_le (by omega)];rfl)
  ·rw[zmH,if_neg h5]
   refine bd Tryz.f140 31 [] [] fun w0 F0 own kept hk=>?_
   refine bx 3001 ?_
   refine ev ?_
   refine sq (fun h1 h1p h1s=>?_) fun h1 h1p h1s=>?_
   try simp only[Q,Pat.cs_len] at h1p
   exfalso;omega
   try simp only[Q,Pat.cs_len] at h1p
   refine CWp.loopX (ι:=Nat×Int) hk (fun x=>[(12,.d (.i (x.1:Int))),(3,.d (.i x.2))]) [5,13,14,15,16,17,18,19,20,21,22,23,24,25,26,27,28,29] (fun x=>[]) (fun x=>x.1≤p.kids.length∧cntM (p.kids.drop x.1) x.2=cntM p.kids 1∧0≤x.2∧x.2≤401) (fun x=>p.kids.length-x.1) (0,1) ⟨by simp,rfl,by simp,by simp⟩ ⟨⟨_,rfl,LeA.eqi ?_⟩,⟨⟨_,rfl,LeA.eqi ?_⟩,trivial⟩⟩ trivial (fun x=>rfl) (fun x hg1=>?_)
   iterate 2 focus (rfl)
   refine evc [] [] ?_
   refine sq (fun h2 h2p h2s=>?_) fun h2 h2p h2s=>?_
   try simp only[Q,Pat.cs_len] at h2p
   refine Walk.idx sl26 .none rfl rfl rfl rfl (zaH (by omega)) rfl ?_
   refine ev ?_
   refine ab 3005 tz28 ?_
   refine so ty28 ?_
   refine tv ?_
   refine sq (fun h3 h3p h3s=>?_) fun h3 h3p h3s=>?_
   try simp only[Q,Pat.cs_len] at h3p
   exfalso;omega
   try simp only[Q,Pat.cs_len] at h3p
   refine wc zlf (zdT n (p:=nth p.kids x.1) (by have:=Pats.size_mem (zae (l:=p.kids) (i:=x.1) (by omega));omega) (Pats.ok_mem hok.2 _ (zae (by omega)))) rfl rfl ?_
   refine ev ?_
   refine ar ?_ (by(have hb:=hbd x.1;have h3:=Int.mul_le_mul hg1.2.2.2 hb.2 hb.1 (by omega);have h4:=Int.mul_nonneg hg1.2.2.1 hb.1;constructor<;>omega))
   refine Walk.minI .none rfl rfl rfl ?_
   refine ev ?_
   refine ar ?_ (by(constructor<;>omega))
   refine Exists.intro ((x.1+1,cap (x.2*cntS (nth p.kids x.1)))) ⟨(by
        have hb:=hbd x.1
        have hc:=zlm (x:=x.2*cntS (nth p.kids x.1)) (Int.mul_nonneg hg1.2.2.1 hb.1)
        exact⟨by dsimp only;omega,by dsimp only;rw[←zsj (by omega)];exact hg1.2.1,hc.1,hc.2⟩),(by dsimp only;omega),sx ⟨⟨_,rfl,LeA.eqi ?_⟩,⟨⟨_,rfl,LeA.eqi ?_⟩,trivial⟩⟩ trivial⟩
   iterate 2 focus (rfl)
   try simp only[Q,Pat.cs_len] at h2p
   refine rn0 (r1 rfl) (.eqd ?_)
   rotate_left
   all_goals (refine congrArg D.i ?_;rw[←hg1.2.1,List.drop_eq_nil_of_le (by omega)];rfl)
theorem zfh {xs:List Pat} (hs:xs.length≤1000000000000):FnD Tryz.prog 147 [.d (zad xs)] [] (.gl 77 (Pat.cs xs)) [(77,some (.tok (Pat.cs xs).length 6))]:=by
 refine Fn.body (fn:=Tryz.f147) (n:=8) rfl rfl rfl rfl rfl (fun w0 F0 own kept hk=>?_)
 refine CWp.splitNil 0 rfl (fun hx0=>?_) ?_
 refine evc [2,4] [] ?_
 refine asg ?_
 refine tv ?_
 refine Walk.eqNilT sl26 .none rfl rfl ?_
 refine tv ?_
 refine sqT ?_
 refine Walk.assignNil 77 6 .none rfl rfl ?_
 refine tv ?_
 refine rn [(77,some (.tok (Pat.cs xs).length 6))] (r1 rfl) (.glg ?_) ⟨rfl,rfl⟩ (SubH.get ⟨?_,trivial⟩) (zaF rfl)
 rotate_left 2
 refine evc [2,4] [] ?_
 refine asg ?_
 refine tv ?_
 refine Walk.eqNilF sl26 .none rfl rfl ?_
 refine tv ?_
 refine sqF ?_
 refine Walk.sliceEmptyG 77 sl26 .none rfl rfl ?_
 refine evs [2,4] [] ?_
 refine ap sl26 zz28 rfl rfl rfl (by intro y hy;rw[Pat.cs_cd] at hy;obtain⟨z,_,rfl⟩:=List.mem_map.1 hy;rfl) (by simp[Pat.cs_len];omega) ?_
 refine asg ?_
 refine tv ?_
 refine rn [(77,some (.tok (Pat.cs xs).length 6))] (r1 rfl) (.glg ?_) ⟨rfl,rfl⟩ (SubH.get ⟨?_,trivial⟩) (zaF rfl)
 rotate_left 2
 all_goals (first|((first|rfl|exact hx0.symm|(simp;done));done)|(first|rfl|(simp[hx0];rfl)|(simp;rfl)))
end Go.Proofs.YtpgdedpljcedpaaGreat
