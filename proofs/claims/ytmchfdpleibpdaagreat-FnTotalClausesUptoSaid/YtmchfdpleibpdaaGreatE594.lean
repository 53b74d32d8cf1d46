/-
  THE ABSTRACT WALK AND THE WALKS, part 4 of 6.
-/
import Derived.Test.YtmchfdpleibpdaaGreatE593
namespace Go.Proofs.YtmchfdpleibpdaaGreat
open Go
set_option linter.unusedSimpArgs false
set_option linter.unusedVariables false
set_option maxRecDepth 100000
set_option maxHeartbeats 2000000
def AZ (w:List Data):Prop:=∀t c,c∈zas w t->TyIn w.length t->∀u∈zae w t c,u.data = -1->u.index=0
theorem zjR {w:List Data} (hv:zaI w=true):AZ w:=by
 have hW:=(zdo w).1 hv;rintro ⟨a,k⟩ c hc ht u hu hd
 obtain⟨d,rfl,h1,j,rfl,h3⟩:=zbE ht hc;have hco:=hW.ctor _ (zaf h1) _ (zaf h3);simp only[zbT,xad,xah,Bool.not_eq_true',List.any_eq_false,Bool.not_eq_false'] at hco;have hall:=hco.2.2.2;simp only[zae,Int.toNat_natCast] at hu;obtain⟨x,hx,rfl⟩:=List.mem_map.1 hu;have hxo:=hall x hx;simp only[zbr,zan,Bool.or_eq_true,xad,xah,and_true,Bool.not_eq_true',Bool.not_eq_false] at hxo;unfold zcJ at hd ⊢;split at hd
 ·rename_i hi;rw[if_pos hi];dsimp only at hd ⊢;omega
 ·rename_i hi;rw[if_neg hi];omega
theorem zdj {n:Nat}{t:Ty} (h:zbm n t=true):TyOk n t:=by
 refine⟨ziy h,fun hd=>?_⟩;simp only[zbm,zan,Bool.or_eq_true,xad,xah,and_true] at h;omega
theorem zk9 {w:List Data} (hw:WT w) (haz:AZ w){funs:List Ft} (hf:∀f∈funs,TyOk w.length f.arg){t:Ty} (ht:TyOk w.length t){e:Ex}:∀u∈zaK w funs t e,TyOk w.length u:=by
 intro u hu;refine⟨zpW hw (fun f h=>(hf f h).1) ht.1 u hu,fun hd=>?_⟩;unfold zaK at hu;split at hu
 ·split at hu
  ·rename_i h;exact haz t e.ctor h.2 ht.1 u hu hd
  ·simp at hu
 ·split at hu
  ·simp only[List.mem_cons,xau,or_false,or_self] at hu;rw[hu] at hd ⊢;exact ht.2 hd
  ·split at hu
   ·split at hu
    ·rename_i h;simp only[List.mem_cons,xau,or_false] at hu;rw[hu] at hd ⊢;exact(hf _ (zaf od)).2 hd
    ·simp at hu
   ·simp at hu
theorem zey {a b:Ty}:FnD Tryz.prog 247 [.agg [.d (.i a.data),.d (.i a.index)],.agg [.d (.i b.data),.d (.i b.index)]] [] (.d (.bool (zid a b))) []:=by
 refine bd Tryz.f247 22 [] [] fun _ _ _ _ hk=>?_;refine bx 3002 ?_;refine bx 3003 ?_;refine ev ?_;apply sq<;>intro h1 h1p h1s;apply sq<;>intro h2 h2p h2s;refine rq ?_;rotate_left;refine rq ?_;rotate_left;refine rq ?_;rotate_left;all_goals (refine xam D.bool ?_;unfold zid;simp_all)
def numT:Ty:=⟨-1,0⟩
def zf5 (w:List Data) (funs:List Ft) (t:Ty) (e:Ex):List Ty:=
 if (e.op≠3/\e.ctor≠0)\/((e.op=3\/e.op=4)/\e.n≠0) then [] else if e.op=4 then [numT,numT] else zaK w funs t e
theorem zvs {w:List Data}{funs:List Ft}{vars:List Vt}{t:Ty} (ht:TyOk w.length t){e:Ex} (h:okE w funs vars t e=true):zf5 w funs t e=zaK w funs t e:=by
 have hop:e.op=1\/e.op=2\/e.op=3\/e.op=4\/e.op=5:=by
  by_cases h0:e.op≠1/\e.op≠2/\e.op≠3/\e.op≠4/\e.op≠5
  ·rw[ok_0 h0] at h;exact absurd h oi
  ·omega
 unfold zf5;rcases hop with h1|h1|h1|h1|h1
 ·rw[ok_1 h1] at h;have:=xas h;rw[if_neg od,if_neg od]
 ·rw[ok_2 h1] at h;simp only[xad,xah] at h;rw[if_neg od,if_neg od]
 ·rw[ok_3 h1] at h;have:=xas h;rw[if_neg od,if_neg od]
 ·rw[ok_4 h1] at h;have:=xas h;rw[if_neg od,if_pos h1,ty_4 h1];have h2:=ht.2 this.1;have h3:t=numT:=by
   obtain⟨a,k⟩:=t;have h4:=this.1;dsimp only at h2 h4;rw[h4,h2];rfl
  rw[h3]
 ·rw[ok_5 h1] at h;simp only[xad,xah] at h;rw[if_neg od,if_neg od]
section
variable {w:List Data}{funs:List Ft}{vars:List Vt}{t:Ty}{e:Ex}
theorem ts_x (h:(e.op≠3/\e.ctor≠0)\/((e.op=3\/e.op=4)/\e.n≠0)):zf5 w funs t e=[]:=by unfold zf5;rw[if_pos h]
theorem ts_4 (h:¬((e.op≠3/\e.ctor≠0)\/((e.op=3\/e.op=4)/\e.n≠0))) (h4:e.op=4):zf5 w funs t e=[numT,numT]:=by unfold zf5;rw[if_neg h,if_pos h4]
theorem ts_o (h:¬((e.op≠3/\e.ctor≠0)\/((e.op=3\/e.op=4)/\e.n≠0))) (h4:e.op≠4):zf5 w funs t e=zaK w funs t e:=by unfold zf5;rw[if_neg h,if_neg h4]
theorem ok_x (h:(e.op≠3/\e.ctor≠0)\/((e.op=3\/e.op=4)/\e.n≠0)):okE w funs vars t e=false:=by
 unfold okE;split
 ·exact xaw od
 ·split
  ·rw[xaw (p:=e.ctor=0) od,Bool.and_false,Bool.and_false]
  ·split
   ·exact xaw od
   ·split
    ·exact xaw od
    ·split
     ·rw[xaw od,Bool.false_and]
     ·rfl
end
theorem znY {w:List Data}{funs:List Ft}{vars:List Vt} (hw:WT w) (hfl:funs.length<=1000000000000) (hvl:vars.length<=1000000000000){t:Ty} (ht:TyOk w.length t){e:Ex}:
  FnD Tryz.prog 191 [.d (zaj w),.d (zbG funs),.d (zbK vars),.agg [.d (.i t.data),.d (.i t.index)],.agg [.d (.i e.op),.d (.i e.n),.d (.i e.ctor),.d (zbj e.kids)]] [] (.tup [.d (zbZ (zf5 w funs t e)),.d (.bool (okE w funs vars t e))]) []:=by
 have ht':TyIn w.length ⟨t.data,t.index⟩:=ht.1;have hcl:=zf6 hw ht';have hlt:=fun h=>zhH (l:=vars) (n:=e.n) h;have hvt:0<=zba vars e.n->zgC vars e.n=(nth vars (zba vars e.n).toNat).ty:=fun h=>by unfold zgC;rw[if_pos h]
 have hte:t=numT↔(t.data = -1/\t.index=0):=by
  constructor
  ·intro h;rw[h];exact⟨rfl,rfl⟩
  ·rintro ⟨h1,h2⟩;obtain⟨a,k⟩:=t;dsimp only at h1 h2;rw[h1,h2];rfl
 have ht2:=ht.2;by_cases hx:(e.op≠3/\e.ctor≠0)\/((e.op=3\/e.op=4)/\e.n≠0)
 ·rw[ts_x hx,ok_x hx];refine bd Tryz.f191 123 [] [2] fun _ _ _ _ hk=>?_;refine bx 3008 ?_;refine bx 3009 ?_;refine ev (bu [0] [_] st29 ?_);refine ab 3012 tz29 ?_;refine so ty29 ?_;apply tv;refine xaC (xbn 23 [(37,.d (.bool (decide ((e.op≠3/\e.ctor≠0)\/((e.op=3\/e.op=4)/\e.n≠0)))))] [15,16,17,18,19,20,21,22,23,24,25,26,27,28,29,30,31,32,33,34,35,36] ?_ ?_);refine ev ?_;apply sq<;>intro h1 h1p h1s;apply sq<;>intro h2 h2p h2s;focus (exact jn Z (xaT (by((rw[xat];simp_all;done)))))
  apply sq<;>intro h3 h3p h3s;refine sqT ?_;focus (exact jn Z (xaT (by((rw[xat];simp_all;done)))))
  apply sq<;>intro h4 h4p h4s;focus (exact jn Z (xaT (by((rw[xat];simp_all;done)))))
  focus (exact jn Z (xaT (by((rw[xat];simp_all;done)))))
  refine sqF ?_;apply sq<;>intro h5 h5p h5s;refine sqT ?_;focus (exact jn Z (xaT (by((rw[xat];simp_all;done)))))
  apply sq<;>intro h6 h6p h6s;focus (exact jn Z (xaT (by((rw[xat];simp_all;done)))))
  focus (exact jn Z (xaT (by((rw[xat];simp_all;done)))))
  refine xbm ?_;apply tv;apply sq<;>intro h7 h7p h7s;refine rn0 (r2 Z Z) (.tup (qne ?_ ?_));rotate_left 2;focus (exfalso;(simp_all;done))
  all_goals (rfl)
 by_cases hmem:e.ctor∈zas w t
 ·have hmem':e.ctor∈zas w ⟨t.data,t.index⟩:=hmem;have hcon:=zdA (v:=e.ctor) hcl;refine bd Tryz.f191 123 [45,81] [2] fun _ _ _ _ hk=>?_;refine bx 3008 ?_;refine bx 3009 ?_;refine evs [45,81] [] (bu [0] [_] st29 ?_);refine ab 3012 tz29 ?_;refine so ty29 ?_;apply tv;refine xaC (xbn 23 [(37,.d (.bool (decide ((e.op≠3/\e.ctor≠0)\/((e.op=3\/e.op=4)/\e.n≠0)))))] [15,16,17,18,19,20,21,22,23,24,25,26,27,28,29,30,31,32,33,34,35,36] ?_ ?_);refine evs [45,81] [] ?_;apply sq<;>intro h1 h1p h1s;apply sq<;>intro h2 h2p h2s;focus (exact jn Z (xaT (by((rw[xat];simp_all;done)))))
  apply sq<;>intro h3 h3p h3s;refine sqT ?_;focus (exact jn Z (xaT (by((rw[xat];simp_all;done)))))
  apply sq<;>intro h4 h4p h4s;focus (exact jn Z (xaT (by((rw[xat];simp_all;done)))))
  focus (exact jn Z (xaT (by((rw[xat];simp_all;done)))))
  refine sqF ?_;apply sq<;>intro h5 h5p h5s;refine sqT ?_;focus (exact jn Z (xaT (by((rw[xat];simp_all;done)))))
  apply sq<;>intro h6 h6p h6s;focus (exact jn Z (xaT (by((rw[xat];simp_all;done)))))
  focus (exact jn Z (xaT (by((rw[xat];simp_all;done)))))
  refine xbm ?_;apply tv;apply sq<;>intro h7 h7p h7s;try simp only[Q] at h7p
  exfalso;apply hx;omega;apply sq<;>intro h8 h8p h8s<;>(try simp only[Q] at h8p);refine xb7 zaz .none Z (evd [45,81] [] (xbI eq29 .none Z Z Z Z Z (evd [45,81] [] ?_)));apply sq<;>intro h9 h9p h9s<;>(try simp only[Q] at h9p);apply sq<;>intro h10 h10p h10s<;>(try simp only[Q] at h10p);refine dr (rn0 (r2 Z Z) (.tup (qee ?_ ?_)));rotate_left 2;refine dr (rn0 (r2 Z Z) (.tup (qee ?_ ?_)));rotate_left 2;refine sqF ?_;refine dr (rn0 (r2 Z Z) (.tup (qee ?_ ?_)));rotate_left 2;apply sq<;>intro h11 h11p h11s<;>(try simp only[Q] at h11p);refine wc ziR (zdn hvl) Z Z ?_;refine evs [45,81] [] (xb7 zaz .none Z (evd [45,81] [] ?_));apply sq<;>intro h12 h12p h12s<;>(try simp only[Q] at h12p);refine Walk.idx (i:=(zba vars e.n).toNat) sl66 (.some Z Z h12) Z Z Z (by have:=hlt od;omega) (zah (by have:=hlt od;omega)) Z ?_;refine evd [45,81] [(65,true)] ?_ ⟨⟨_,Z,h12⟩,O⟩;refine Walk.call (cr:=[]) zm0 (zey (a:=(nth vars (zba vars e.n).toNat).ty) (b:=t)) Z (.some Z Z h12) Z Z (LeL.refl _) O Z Z Z (evd [45,81] [(65,true)] ?_ ⟨⟨_,Z,h12⟩,O⟩);refine dr (rn0 (r2 Z Z) (.tup (qee ?_ ?_)));rotate_left 2;refine dr (rn0 (r2 Z Z) (.tup (qee ?_ ?_)));rotate_left 2;apply sq<;>intro h13 h13p h13s<;>(try simp only[Q] at h13p);refine si [0,1] [_,_] zaz tz29 ?_;refine evd [45,81] [] (xbI eq29 .none Z Z Z Z Z (evd [45,81] [] (dr (rn0 (r2 Z Z) (.tup (qee ?_ ?_))))));rotate_left 2;apply sq<;>intro h14 h14p h14s<;>(try simp only[Q] at h14p);refine wc zfL (zb5 hw ht') Z Z ?_;refine evd [45,81] [] (wc ziS hcon Z Z ?_);refine evd [45,81] [] (dr ?_);apply sq<;>intro h15 h15p h15s<;>(try simp only[Q] at h15p);refine rn0 (r2 Z Z) (.tup (qne ?_ ?_));rotate_left 2;refine wc zbX (zb4 hw ht' hmem') Z Z ?_;refine evs [45,81] [] (rn0 (r2 Z Z) (.tup (qee ?_ ?_)));rotate_left 2;apply sq<;>intro h16 h16p h16s<;>(try simp only[Q] at h16p);apply sq<;>intro h17 h17p h17s<;>(try simp only[Q] at h17p);refine sqT ?_;refine rn0 (r2 Z Z) (.tup (qne ?_ ?_));rotate_left 2;apply sq<;>intro h19 h19p h19s<;>(try simp only[Q] at h19p);refine rn0 (r2 Z Z) (.tup (qne ?_ ?_));rotate_left 2;refine ixq (i:=e.n.toNat) sl63 Z Z od (zah od) Z ?_;refine evd [45,81] [] (si [0] [_] zaz tz29 ?_);refine evd [45,81] [] (ixq (i:=e.n.toNat) sl63 Z Z od (zah od) Z ?_);refine evd [45,81] [] (wc zm0 (zey (a:=(nth funs e.n.toNat).res) (b:=t)) Z Z ?_);refine evd [45,81] [] (dr (rn0 (r2 Z Z) (.tup (qee ?_ ?_))));rotate_left 2;refine rn0 (r2 Z Z) (.tup (qne ?_ ?_));rotate_left 2;all_goals (first|(rw[ts_4 hx od];all_goals rfl)|(rw[ts_o hx od,ty_0 od];all_goals rfl)|(rw[ts_o hx od,ty_3 od od hmem];all_goals rfl)|(rw[ts_o hx od,zly od od];all_goals rfl)|(rw[ts_o hx od,ty_5 od od];all_goals rfl)|(refine xam D.bool ?_;rw[ok_1 od,xaw od];done)|(refine xam D.bool ?_;rw[ok_1 od];simp_all;done)|(refine xam D.bool ?_;rw[ok_2 od,xaw od,Bool.false_and];done)|(refine xam D.bool ?_;rw[ok_2 od,hvt od];simp_all;done)|(refine xam D.bool ?_;rw[ok_3 od];simp_all;done)|(refine xam D.bool ?_;rw[ok_4 od];simp_all;done)|(refine xam D.bool ?_;rw[ok_5 od];first|(rw[xax od,Bool.true_and];done)|(rw[xaw od,Bool.false_and];done))|(refine xam D.bool ?_;rw[ok_0 od];done)|(exfalso;simp_all;done))
 ·have hmem':e.ctor∉zas w ⟨t.data,t.index⟩:=hmem;have hcon:=zdA (v:=e.ctor) hcl;rw[xaw hmem'] at hcon;refine bd Tryz.f191 123 [45,81] [2] fun _ _ _ _ hk=>?_;refine bx 3008 ?_;refine bx 3009 ?_;refine evs [45,81] [] (bu [0] [_] st29 ?_);refine ab 3012 tz29 ?_;refine so ty29 ?_;apply tv;refine xaC (xbn 23 [(37,.d (.bool (decide ((e.op≠3/\e.ctor≠0)\/((e.op=3\/e.op=4)/\e.n≠0)))))] [15,16,17,18,19,20,21,22,23,24,25,26,27,28,29,30,31,32,33,34,35,36] ?_ ?_);refine evs [45,81] [] ?_;apply sq<;>intro h1 h1p h1s;apply sq<;>intro h2 h2p h2s;focus (exact jn Z (xaT (by((rw[xat];simp_all;done)))))
  apply sq<;>intro h3 h3p h3s;refine sqT ?_;focus (exact jn Z (xaT (by((rw[xat];simp_all;done)))))
  apply sq<;>intro h4 h4p h4s;focus (exact jn Z (xaT (by((rw[xat];simp_all;done)))))
  focus (exact jn Z (xaT (by((rw[xat];simp_all;done)))))
  refine sqF ?_;apply sq<;>intro h5 h5p h5s;refine sqT ?_;focus (exact jn Z (xaT (by((rw[xat];simp_all;done)))))
  apply sq<;>intro h6 h6p h6s;focus (exact jn Z (xaT (by((rw[xat];simp_all;done)))))
  focus (exact jn Z (xaT (by((rw[xat];simp_all;done)))))
  refine xbm ?_;apply tv;apply sq<;>intro h7 h7p h7s;try simp only[Q] at h7p
  exfalso;apply hx;omega;apply sq<;>intro h8 h8p h8s<;>(try simp only[Q] at h8p);refine xb7 zaz .none Z (evd [45,81] [] (xbI eq29 .none Z Z Z Z Z (evd [45,81] [] ?_)));apply sq<;>intro h9 h9p h9s<;>(try simp only[Q] at h9p);apply sq<;>intro h10 h10p h10s<;>(try simp only[Q] at h10p);refine dr (rn0 (r2 Z Z) (.tup (qee ?_ ?_)));rotate_left 2;refine dr (rn0 (r2 Z Z) (.tup (qee ?_ ?_)));rotate_left 2;refine sqF ?_;refine dr (rn0 (r2 Z Z) (.tup (qee ?_ ?_)));rotate_left 2;apply sq<;>intro h11 h11p h11s<;>(try simp only[Q] at h11p);refine wc ziR (zdn hvl) Z Z ?_;refine evs [45,81] [] (xb7 zaz .none Z (evd [45,81] [] ?_));apply sq<;>intro h12 h12p h12s<;>(try simp only[Q] at h12p);refine Walk.idx (i:=(zba vars e.n).toNat) sl66 (.some Z Z h12) Z Z Z (by have:=hlt od;omega) (zah (by have:=hlt od;omega)) Z ?_;refine evd [45,81] [(65,true)] ?_ ⟨⟨_,Z,h12⟩,O⟩;refine Walk.call (cr:=[]) zm0 (zey (a:=(nth vars (zba vars e.n).toNat).ty) (b:=t)) Z (.some Z Z h12) Z Z (LeL.refl _) O Z Z Z (evd [45,81] [(65,true)] ?_ ⟨⟨_,Z,h12⟩,O⟩);refine dr (rn0 (r2 Z Z) (.tup (qee ?_ ?_)));rotate_left 2;refine dr (rn0 (r2 Z Z) (.tup (qee ?_ ?_)));rotate_left 2;apply sq<;>intro h13 h13p h13s<;>(try simp only[Q] at h13p);refine si [0,1] [_,_] zaz tz29 ?_;refine evd [45,81] [] (xbI eq29 .none Z Z Z Z Z (evd [45,81] [] (dr (rn0 (r2 Z Z) (.tup (qee ?_ ?_))))));rotate_left 2;apply sq<;>intro h14 h14p h14s<;>(try simp only[Q] at h14p);refine wc zfL (zb5 hw ht') Z Z ?_;refine evd [45,81] [] (wc ziS hcon Z Z ?_);refine evd [45,81] [] (dr ?_);apply sq<;>intro h15 h15p h15s<;>(try simp only[Q] at h15p);refine rn0 (r2 Z Z) (.tup (qne ?_ ?_));rotate_left 2;exfalso;simp_all;apply sq<;>intro h16 h16p h16s<;>(try simp only[Q] at h16p);apply sq<;>intro h17 h17p h17s<;>(try simp only[Q] at h17p);refine sqT ?_;refine rn0 (r2 Z Z) (.tup (qne ?_ ?_));rotate_left 2;apply sq<;>intro h19 h19p h19s<;>(try simp only[Q] at h19p);refine rn0 (r2 Z Z) (.tup (qne ?_ ?_));rotate_left 2;refine ixq (i:=e.n.toNat) sl63 Z Z od (zah od) Z ?_;refine evd [45,81] [] (si [0] [_] zaz tz29 ?_);refine evd [45,81] [] (ixq (i:=e.n.toNat) sl63 Z Z od (zah od) Z ?_);refine evd [45,81] [] (wc zm0 (zey (a:=(nth funs e.n.toNat).res) (b:=t)) Z Z ?_);refine evd [45,81] [] (dr (rn0 (r2 Z Z) (.tup (qee ?_ ?_))));rotate_left 2;refine rn0 (r2 Z Z) (.tup (qne ?_ ?_));rotate_left 2;all_goals (first|(rw[ts_4 hx od];all_goals rfl)|(rw[ts_o hx od,ty_0 od];all_goals rfl)|(rw[ts_o hx od,zwN od hmem];all_goals rfl)|(rw[ts_o hx od,zly od od];all_goals rfl)|(rw[ts_o hx od,ty_5 od od];all_goals rfl)|(refine xam D.bool ?_;rw[ok_1 od,xaw od];done)|(refine xam D.bool ?_;rw[ok_1 od];simp_all;done)|(refine xam D.bool ?_;rw[ok_2 od,xaw od,Bool.false_and];done)|(refine xam D.bool ?_;rw[ok_2 od,hvt od];simp_all;done)|(refine xam D.bool ?_;rw[ok_3 od];simp_all;done)|(refine xam D.bool ?_;rw[ok_4 od];simp_all;done)|(refine xam D.bool ?_;rw[ok_5 od];first|(rw[xax od,Bool.true_and];done)|(rw[xaw od,Bool.false_and];done))|(refine xam D.bool ?_;rw[ok_0 od];done))
theorem zhZ {w:List Data}{funs:List Ft}{vars:List Vt} (hw:WT w) (haz:AZ w) (hfl:funs.length<=1000000000000) (hvl:vars.length<=1000000000000) (hfa:∀f∈funs,TyOk w.length f.arg):∀(n:Nat){t:Ty}{m:Int}{e:Ex},m=n->n<=1000->TyOk w.length t->e.ok->
  FnD Tryz.prog 137 [.d (zaj w),.d (zbG funs),.d (zbK vars),.agg [.d (.i t.data),.d (.i t.index)],.agg [.d (.i e.op),.d (.i e.n),.d (.i e.ctor),.d (zbj e.kids)],.d (.i m)] [] (.d (.bool (zb0 w funs vars n t e))) []
 |0,t,m,e,hm,_,_,_=>by
  refine bd Tryz.f137 59 [] [] fun _ _ _ _ hk=>?_;refine bx 3009 ?_;refine bx 3010 ?_;refine ev ?_;apply sq<;>intro h1 h1p h1s;refine rq ?_;rotate_left;try simp only[Q] at h1p
  exfalso;omega;all_goals (rfl)
 |n+1,t,m,e,hm,hn,ht,hok=>by
  rw[xaL] at hok;have hkd:=znY hw hfl hvl ht (e:=e) (funs:=funs) (vars:=vars);have htl:=zon hw ht.1 (funs:=funs) (e:=e);have hti:=zk9 hw haz hfa ht (e:=e);cases ho:okE w funs vars t e with
  |false=>
   have hsc:zb0 w funs vars (n+1) t e=false:=by
    conv=>lhs;unfold zb0 zfp
    rw[ho];rfl
   rw[ho] at hkd;rw[hsc];refine bd Tryz.f137 59 [] [] fun _ _ _ _ hk=>?_;refine bx 3009 ?_;refine bx 3010 ?_;refine ev ?_;apply sq<;>intro h1 h1p h1s;try simp only[Q] at h1p
   exfalso;omega;refine wc zqO hkd Z Z ?_;refine ev ?_;apply sq<;>intro h2 h2p h2s;refine sqT ?_;refine rq ?_;rotate_left;apply sq<;>intro h4 h4p h4s;refine rq ?_;rotate_left;exfalso;simp_all;all_goals (rfl)
  |true=>
   rw[ho,zvs ht ho] at hkd;by_cases hlen:(zaK w funs t e).length=e.kids.length
   ·have hsc:zb0 w funs vars (n+1) t e=all2 (zb0 w funs vars n) (zaK w funs t e) e.kids:=by
     conv=>lhs;unfold zb0 zfp
     rw[ho,xax hlen];rfl
    rw[hsc];refine bd Tryz.f137 59 [] [] fun _ _ _ _ hk=>?_;refine bx 3009 ?_;refine bx 3010 ?_;refine ev ?_;apply sq<;>intro h1 h1p h1s;try simp only[Q,xaJ] at h1p
    exfalso;omega;refine wc zqO hkd Z Z ?_;refine ev ?_;apply sq<;>intro h2 h2p h2s;refine sqT ?_;focus (exfalso;(simp_all[xaJ];done))
    apply sq<;>intro h4 h4p h4s;try simp only[Q,xaJ] at h4p
    focus (exfalso;omega)
    refine xaB (ι:=Nat) hk (fun i=>[(15,.d (.i (i:Int)))]) [12,37,38,39,40,41,42,43,44,45,46,47,48,49,50,51,52,53,54,55,56,57,58] (fun i=>[]) (fun i=>i<=(zaK w funs t e).length/\∀i',i'<i->zb0 w funs vars n (nth (zaK w funs t e) i') (nth e.kids i')=true) (fun i=>(zaK w funs t e).length-i) 0 ⟨by omega,fun _ h=>absurd h od⟩ ⟨⟨_,Z,xaU ?_⟩,O⟩ O (fun x=>rfl) (fun i hg1=>?_);focus (rfl)
    refine evc [] [] ?_;apply sq<;>intro h5 h5p h5s<;>(try simp only[Q,xaJ] at h5p);refine ixq zaz Z Z Z (zah od) Z ?_;refine evd [] [] (ixq sl33 Z Z Z (zeE od) Z ?_);refine evd [] [] (ar (wc zt4 (zhZ hw haz hfl hvl hfa n (t:=nth (zaK w funs t e) i) od od (hti _ (zaf od)) (xaP hok.2 _ (zaf od))) Z Z ?_));refine evd [] [] (dr ?_);apply sq<;>intro h6 h6p h6s;refine rq ?_;rotate_left;try simp only[Q,xaJ] at h6p
    refine ar (xaj (i+1) ⟨⟨by omega,zaZ hg1.2 o7⟩,od,sx ⟨⟨_,Z,xaU ?_⟩,O⟩ O⟩);focus (rfl)
    refine rq ?_;rotate_left;all_goals (refine xam D.bool ?_;first|(refine(zci od (fun x hx=>hg1.2 x od)).symm)|(refine(zbJ (i:=i) od od ?_).symm;simp_all))
   ·have hsc:zb0 w funs vars (n+1) t e=false:=by
     conv=>lhs;unfold zb0 zfp
     rw[ho,xaw hlen];rfl
    rw[hsc];refine bd Tryz.f137 59 [] [] fun _ _ _ _ hk=>?_;refine bx 3009 ?_;refine bx 3010 ?_;refine ev ?_;apply sq<;>intro h1 h1p h1s;try simp only[Q,xaJ] at h1p
    exfalso;omega;refine wc zqO hkd Z Z ?_;refine ev ?_;apply sq<;>intro h2 h2p h2s;refine sqT ?_;refine rq ?_;rotate_left;apply sq<;>intro h4 h4p h4s;refine rq ?_;rotate_left;try simp only[Q,xaJ] at h4p
    exfalso;omega;all_goals (rfl)
theorem zhX:∀(n:Nat){v:Ex}{m:Int},v.size<=n->v.size<=1000000000000->v.ok->0<=m->m<=1000000000000->FnD Tryz.prog 138 [.agg [.d (.i v.op),.d (.i v.n),.d (.i v.ctor),.d (zbj v.kids)],.d (.i m)] [] (.d (.i (cntE m v))) []
 |0,v,m,h,_,_,_,_=>by rw[xaM] at h;omega
 |n+1,v,m,h,hb,hok,m0,m1=>by
  rw[xaM] at h hb;rw[xaL] at hok;rw[zw2];refine bd Tryz.f138 31 [] [] fun _ _ _ _ hk=>?_;refine bx 3002 ?_;refine ev (xaB (ι:=Nat×Int) hk (fun x=>[(6,.d (.i (x.1:Int))),(5,.d (.i x.2))]) [7,8,9,10,11,12,13,14,15,16,17,18,19,20,21,22,23,24,25,26,27,28,29] (fun x=>[]) (fun x=>x.1<=v.kids.length/\zdC m x.2 (v.kids.drop x.1)=zdC m 1 v.kids/\1<=x.2/\x.2+Exs.size (v.kids.drop x.1)<=1+Exs.size v.kids) (fun x=>v.kids.length-x.1) (0,1) ⟨by simp,by simp,by simp,by simp⟩ ⟨⟨_,Z,xaU ?_⟩,⟨⟨_,Z,xaU ?_⟩,O⟩⟩ O (fun x=>rfl) (fun x hg1=>?_));iterate 2 focus (rfl)
  refine evc [] [] ?_;apply sq<;>intro h1 h1p h1s<;>(try simp only[Q,xaJ] at h1p);apply sq<;>intro h2 h2p h2s<;>(try simp only[Q,xaJ] at h2p);refine ixq sl33 Z Z Z (zeE od) Z ?_;refine ev (ar ?_ (by(constructor<;>omega)));refine wc zt5 (zhX n (v:=nth v.kids x.1) (by have:=zpg (l:=v.kids) (i:=x.1) od;omega) (by have:=zpg (l:=v.kids) (i:=x.1) od;omega) (xaP hok.2 _ (zaf od)) od od) Z Z ?_;refine ev (ar ?_ (by(have hz:=zli (nth v.kids x.1) (m-x.2);have hs:=znf (l:=v.kids) (i:=x.1) od;constructor<;>omega)));refine ar ?_ (by(constructor<;>omega));refine xaj ((x.1+1,x.2+cntE (m-x.2) (nth v.kids x.1))) ⟨(by
      obtain⟨h1,h2,h3,h4⟩:=hg1;have hz:=zli (nth v.kids x.1) (m-x.2);have hs:=znf (l:=v.kids) (i:=x.1) od;refine⟨by dsimp only;omega, ?_,by dsimp only;omega,by dsimp only;omega⟩;rw[<-h2,zaF (l:=v.kids) (i:=x.1) od,zdC,if_pos od]),ox,sx ⟨⟨_,rfl,xaU ?_⟩,⟨⟨_,rfl,xaU ?_⟩,trivial⟩⟩ trivial⟩
  iterate 2 focus (rfl)
  refine rq ?_;rotate_left;refine sqF ?_;refine rq ?_;rotate_left;all_goals (refine xam D.i ?_;rw[<-hg1.2.1];first|(rw[List.drop_eq_nil_of_le od];rfl)|(rw[zm7 od]))
theorem zj2 {w:List Data}{funs:List Ft}{vars:List Vt} (hw:WT w) (haz:AZ w) (hfl:funs.length<=1000000000000) (hvl:vars.length<=1000000000000) (hfa:∀f∈funs,TyOk w.length f.arg){t:Ty}{e:Ex} (ht:TyOk w.length t) (hok:e.ok) (hsz:e.size<=1000000000000):
  FnD Tryz.prog 81 [.d (zaj w),.d (zbG funs),.d (zbK vars),.agg [.d (.i t.data),.d (.i t.index)],.agg [.d (.i e.op),.d (.i e.n),.d (.i e.ctor),.d (zbj e.kids)]] [] (.d (.bool (isE w funs vars t e))) []:=by
 have hc:=zqZ e 60;refine bd Tryz.f81 22 [] [] fun _ _ _ _ hk=>?_;refine bx 3008 ?_;refine bx 3009 ?_;refine ev (wc zt4 (zhZ hw haz hfl hvl hfa 10 Z od ht hok) Z Z ?_);refine ev ?_;apply sq<;>intro h1 h1p h1s;refine Walk.call (cr:=[]) zt5 (zhX _ (Nat.le_refl _) hsz hok od od) Z (.some Z Z h1) Z Z (LeL.refl _) O Z Z Z ?_;refine evs [] [(17,true)] ?_ ⟨⟨_,Z,h1⟩,O⟩;refine rq ?_;rotate_left;refine rq ?_;rotate_left;all_goals (refine xam D.bool ?_;unfold isE;(simp_all;done))
theorem zl1 {w:List Data}{a b:Int}:FnD Tryz.prog 78 [.d (zaj w),.agg [.d (.i a),.d (.i b)]] [] (.d (.bool (zbm w.length ⟨a,b⟩))) []:=by
 have e:(zbr w.length ⟨a,b⟩&&decide (0<=b))=zbm w.length ⟨a,b⟩:=by
  rw[xat];simp only[zbr,zbm,zan,xad,Bool.or_eq_true,xah,and_true];omega
 rw[<-e];exact zf1
theorem zez {w:List Data}{funs:List Ft} (hs:w.length<=1000000000000) (hfl:funs.length<=1000000000000):FnD Tryz.prog 36 [.d (zaj w),.d (zbG funs)] [] (.d (.bool (zcc w funs))) []:=by
 have hbad:∀i,i<funs.length->(zbm w.length (nth funs i).arg&&zbm w.length (nth funs i).res)=false->zcc w funs=false:=fun i hi h=>by
  unfold zcc;have:funs.any (fun f=> !(zbm w.length f.arg&&zbm w.length f.res))=true:=List.any_eq_true.2 ⟨nth funs i,zaf hi,by rw[h];rfl⟩;rw[this];simp
 have hgood:funs.length<=4->(∀i,i<funs.length->(zbm w.length (nth funs i).arg&&zbm w.length (nth funs i).res)=true)->zcc w funs=true:=fun h4 h=>by
  unfold zcc;rw[xax od,Bool.true_and,Bool.not_eq_true',List.any_eq_false];intro f hf;obtain⟨i,hi,rfl⟩:=List.getElem_of_mem hf;have:=h i hi;simp only[nth,List.getD,xan hi,Option.getD_some] at this;simp[this]
 have hmany:4<funs.length->zcc w funs=false:=fun h=>by unfold zcc;rw[xaw od,Bool.false_and]
 refine bd Tryz.f36 37 [] [] fun _ _ _ _ hk=>?_;refine xaB (ι:=Nat) hk (fun i=>[(5,.d (.i (i:Int)))]) [4,6,7,8,9,10,11,12,13,14,15,16,17,18,19,20,21,22,23,24,25,26,27,28,29,30,31,32,33] (fun i=>[]) (fun i=>i<=funs.length/\i<=5/\∀i',i'<i->(zbm w.length (nth funs i').arg&&zbm w.length (nth funs i').res)=true) (fun i=>5-i) 0 ⟨by omega,by omega,fun _ h=>absurd h od⟩ ⟨⟨_,Z,xaU ?_⟩,O⟩ O (fun x=>rfl) (fun i hg1=>?_);focus (rfl)
 refine evc [] [] ?_;apply sq<;>intro h1 h1p h1s<;>(try simp only[Q,xac] at h1p);apply sq<;>intro h2 h2p h2s<;>(try simp only[Q,xac] at h2p);refine ixq sl63 Z Z Z (zah od) Z ?_;refine ev (wc zlg (zl1 (a:=(nth funs i).arg.data) (b:=(nth funs i).arg.index)) Z Z ?_);refine ev ?_;apply sq<;>intro h3 h3p h3s<;>(try simp only[Q,xac] at h3p);refine sqT ?_;refine rq ?_;rotate_left;refine Walk.idx sl63 (.some Z Z h3) Z Z Z Z (zah od) Z ?_;refine evs [] [(24,false)] ?_ ⟨⟨_,Z,h3⟩,O⟩;refine Walk.call (cr:=[]) zlg (zl1 (a:=(nth funs i).res.data) (b:=(nth funs i).res.index)) Z (.some Z Z h3) Z Z (LeL.refl _) O Z Z Z (evs [] [(24,false)] ?_ ⟨⟨_,Z,h3⟩,O⟩);apply sq<;>intro h5 h5p h5s<;>(try simp only[Q,xac] at h5p);refine rq ?_;rotate_left;refine ar (xaj (i+1) ⟨⟨by omega,by omega,zaZ hg1.2.2 o7⟩,od,sx ⟨⟨_,Z,xaU ?_⟩,O⟩ O⟩);focus (rfl)
 refine rq ?_;rotate_left;refine sqF ?_;refine rq ?_;rotate_left;all_goals (refine xam D.bool ?_;first|(rw[hbad i od o7];done)|(by_cases h44:funs.length<=4<;>first|(rw[hgood h44 (fun x hx=>hg1.2.2 x od)];exact xax ot)|(rw[hmany od];exact xaw ot)))
theorem zfu {l:List Fu} (hl:l.length<=1000000000000):FnD Tryz.prog 34 [.d (zbB l)] [] (.d (zbG (l.map Fu.ty))) []:=by
 refine bd Tryz.f34 21 [] [] fun _ _ _ _ hk=>?_;refine xb8 1 sl63 .none Z Z (ev (xaB (ι:=List (Fu)×List (Fu)) hk (fun x=>[(4,.d (.i (x.1.length:Int))),(3,.gl 1 ((x.1.map Fu.ty).map Ft.c))]) [6,7,8,9,10,11,12,13,14,15,16,17,18,19] (fun x=>[(1,some (.tok (((x.1.map Fu.ty).map Ft.c)).length 4))]) (fun x=>x.1++x.2=l) (fun x=>x.2.length) ([],l) oi ⟨⟨_,Z,xaU ?_⟩,⟨⟨_,Z,LeA.glg ?_⟩,O⟩⟩ ⟨zac ?_,O⟩ (fun x=>rfl) (fun x hg1=>?_)));iterate 3 focus (rfl)
 obtain⟨pre,rest⟩:=x;dsimp only at hg1 ⊢;refine evc [] [] ?_;apply sq<;>intro h1 h1p h1s<;>(try simp only[Q] at h1p);rcases rest with _|⟨y,rest⟩
 ·exfalso;simp_all
 refine ixq sl24 Z Z Z (zaA hg1) Z (ev (si [0] [_] sl63 tz31 ?_));refine ap sl63 zz31 Z Z Z oi (by have hz:=xam List.length hg1;simp at hz ⊢;omega) ?_;refine ev (ar (xaj ((pre++[y],rest)) ⟨(by have hz:=hg1;rw[<-hz];simp),oi,sx ⟨⟨_,Z,xaU ?_⟩,⟨⟨_,Z,LeA.glg ?_⟩,O⟩⟩ ⟨zac ?_,O⟩⟩));iterate 3 focus ((simp;done))
 have hrest:rest=[]:=by
  rcases rest with _|⟨a,b⟩
  ·rfl
  ·exfalso;have hz:=xam List.length (hg1);simp only[xaa,xab,xac] at hz;omega
 subst hrest;refine rn0 (r1 Z) (.gld ?_);rotate_left;all_goals ((rw[xaq] at hg1;subst hg1;simp;done))
theorem zpY {w:List Data}{t:Ty}{p:Pat} (h:isP w t p=true):zbM w t p=zaL w 10 t p:=by
 unfold isP at h;simp only[xad,xah] at h;have e:=(zgl w 10 t p 0).1;have hw:zb6 w 10 t p 0=true:=by
  unfold zb6;rw[h.1,h.2.2,xax od];rfl
 rw[if_pos hw] at e;unfold zbM;rw[e];rfl
theorem zvu {w:List Data}{t:Ty}{p:Pat} (h:isP w t p=true):zc7 (zaL w 10 t p)=true:=by
 unfold isP at h;simp only[xad] at h;exact zih w 10 t p h.1 h.2.2
theorem zsj {w:List Data} (hw:WT w) (haz:AZ w):∀(n:Nat){t:Ty}{p:Pat},zat w n t p=true->TyOk w.length t->∀v∈zaL w n t p,TyOk w.length v.ty
 |0,t,p,h,_=>by simp[zat] at h
 |n+1,t,p,h,ht=>by
  obtain⟨ho,hlen⟩:=zbR h;intro v hv;have hto:∀u∈zai w t p,TyOk w.length u:=fun u hu=>by
   refine⟨zeT (a:=t.data) (k:=t.index) hw ht.1 ho u hu,fun hd=>?_⟩;unfold zai at hu;split at hu
   ·rename_i h4;exact haz t p.ctor (zcF ho h4) ht.1 u hu hd
   ·split at hu
    ·simp only[List.mem_cons,xau,or_false,or_self] at hu;rw[hu] at hd ⊢;exact ht.2 hd
    ·split at hu
     ·simp only[List.mem_cons,xau,or_false] at hu;rw[hu] at hd ⊢;exact ht.2 hd
     ·simp at hu
  simp only[zaL,List.mem_append] at hv;rcases hv with hv|hv
  ·unfold zaY at hv;split at hv
   ·simp only[List.mem_cons,xau,or_false] at hv;rw[hv];exact ht
   ·simp at hv
  ·have key:∀(a:List Ty) (b:List Pat),(∀i,i<a.length->i<b.length->∀v∈zaL w n (nth a i) (nth b i),TyOk w.length v.ty)->∀v∈zbs (zaL w n) a b,TyOk w.length v.ty:=by
    intro a;induction a with
    |nil=>intro b _ v hv;simp[zbs] at hv
    |cons x r ih=>
     intro b h v hv;cases b with
     |nil=>simp[zbs] at hv
     |cons y s=>
      simp only[zbs,List.mem_append] at hv;rcases hv with hv|hv
      ·exact h 0 oi oi v hv
      ·exact ih s (fun i h1 h2=>h (i+1) (by simpa using h1) (by simpa using h2)) v hv
   refine key (zd1 w t p) p.kids (fun i h1 h2=>?_) v hv;have hvt:i<(zai w t p).length/\nth (zd1 w t p) i=nth (zai w t p) i:=by
    unfold zd1 at h1 ⊢;split at h1
    ·rename_i h5;rw[if_pos h5];rw[List.length_take] at h1;refine⟨by omega, ?_⟩;have:i=0:=by omega
     subst this;cases hT:zai w t p with
     |nil=>rfl
     |cons a b=>rfl
    ·rename_i h5;rw[if_neg h5];exact⟨h1,rfl⟩
   rw[hvt.2];exact zsj hw haz n (zbC h od) (hto _ (zaf hvt.1))
def gdS (g:Gd) (vars:List Vt):Bool:=if g.op=0 then decide (g.var=0/\g.n=0) else decide (1<=g.op/\g.op<=2/\0<=g.n/\g.n<=9)&&(decide (0<=zba vars g.var)&&decide ((nth vars (zba vars g.var).toNat).ty.data = -1))
theorem zyK {n:Nat}{g:Gd}{vars:List Vt} (hn:zc7 vars=true) (hv:∀v∈vars,TyOk n v.ty):gdS g vars=gdOk g vars:=by
 unfold gdS gdOk;split
 ·rfl
 ·congr 1
  have hnod:=xas hn;rw[xat];simp only[xad,xah];constructor
  ·rintro ⟨h1,h2⟩
   rcases zfO vars g.var with ⟨h3,_⟩|⟨k,h3,h4,h5,_⟩
   ·omega
   ·rw[h3] at h2;simp only[Int.toNat_natCast] at h2;have hm:=zaf h4;have ho:=(hv _ hm).2 h2;have:nth vars k=⟨g.var,⟨-1,0⟩⟩:=by
     generalize nth vars k=z at *;obtain⟨zv,⟨za,zk⟩⟩:=z;dsimp only at h5 h2 ho;rw[h5,h2,ho]
    rw[<-this];exact hm
  ·intro hm;rcases zfO vars g.var with ⟨_,h4⟩|⟨k,h3,h4,h5,_⟩
   ·exact absurd Z (h4 _ hm)
   ·refine⟨by omega, ?_⟩;rw[h3];simp only[Int.toNat_natCast];obtain⟨j,hj,e⟩:=List.getElem_of_mem hm;have ej:nth vars j=⟨g.var,⟨-1,0⟩⟩:=by simp[nth,List.getD,hj,e]
    have:k=j:=zkG hnod h4 hj (by rw[h5,ej]);rw[this,ej]
theorem zod {g:Gd}{vars:List Vt} (hv:vars.length<=1000000000000):FnD Tryz.prog 189 [.agg [.d (.i g.op),.d (.i g.var),.d (.i g.n)],.d (zbK vars)] [] (.d (.bool (gdS g vars))) []:=by
 have hlt:=fun h=>zhH (l:=vars) (n:=g.var) h;refine bd Tryz.f189 50 [] [3] fun _ _ _ _ hk=>?_;refine bx 3002 ?_;refine ev ?_;apply sq<;>intro h1 h1p h1s<;>(try simp only[Q] at h1p);apply sq<;>intro h2 h2p h2s<;>(try simp only[Q] at h2p);refine rq ?_;rotate_left;refine rq ?_;rotate_left;refine xaC (xbn 18 [(34,.d (.bool (decide (¬(1<=g.op/\g.op<=2/\0<=g.n/\g.n<=9)))))] [17,18,19,20,21,22,23,24,25,26,27,28,29,30,31,32,33] ?_ ?_);refine ev ?_;apply sq<;>intro h3 h3p h3s<;>(try simp only[Q] at h3p);apply sq<;>intro h4 h4p h4s<;>(try simp only[Q] at h4p);refine sqT ?_;focus (exact jn Z (xaT (by((rw[xat];simp_all;omega)))))
 apply sq<;>intro h5 h5p h5s<;>(try simp only[Q] at h5p);focus (exact jn Z (xaT (by((rw[xat];simp_all;done)))))
 focus (exact jn Z (xaT (by((rw[xat];simp_all;done)))))
 refine sqF ?_;apply sq<;>intro h6 h6p h6s<;>(try simp only[Q] at h6p);focus (exact jn Z (xaT (by((rw[xat];simp_all;done)))))
 focus (exact jn Z (xaT (by((rw[xat];simp_all;done)))))
 refine xbm ?_;apply tv;apply sq<;>intro h7 h7p h7s<;>(try simp only[Q] at h7p);refine rq ?_;rotate_left;refine wc ziR (zdn hv) Z Z ?_;refine ev ?_;apply sq<;>intro h8 h8p h8s<;>(try simp only[Q] at h8p);refine Walk.idx (i:=(zba vars g.var).toNat) sl66 (.some Z Z h8) Z Z Z (by have:=hlt od;omega) (zah (by have:=hlt od;omega)) Z ?_;refine evs [] [(41,true)] ?_ ⟨⟨_,Z,h8⟩,O⟩;refine rq ?_;rotate_left;refine rq ?_;rotate_left;all_goals (refine xam D.bool ?_;unfold gdS;first|(rw[if_pos od];simp_all;done)|(rw[if_neg od,xaw od,Bool.false_and];done)|(rw[if_neg od,xax od,Bool.true_and,xaw od,Bool.false_and];done)|(rw[if_neg od];simp_all;done))
theorem zr3 {w:List Data} (hw:WT w) (haz:AZ w){t:Ty}{c:Cl} (ht:TyOk w.length t) (hok:c.pat.ok) (hsz:c.pat.size<=1000000000000):
  FnD Tryz.prog 135 [.d (zaj w),.agg [.d (.i t.data),.d (.i t.index)],.agg [.d (.i c.pat.op),.d (.i c.pat.ctor),.d (.i c.pat.n),.d (.i c.pat.m),.d (.i c.pat.var),.d (zak c.pat.kids),.d (.i c.g.op),.d (.i c.g.var),.d (.i c.g.n)]] [] (.d (.bool (clOk w t c))) []:=by
 have ht':TyIn w.length ⟨t.data,t.index⟩:=ht.1;have hcl:clOk w t c=(isP w t c.pat&&gdOk c.g (zbM w t c.pat)):=rfl;cases hp:isP w t c.pat with
 |false=>
  have hpi:=zh0 hw ht' hok hsz;have hpi':FnD Tryz.prog 188 [.d (zaj w),.agg [.d (.i t.data),.d (.i t.index)],.agg [.d (.i c.pat.op),.d (.i c.pat.ctor),.d (.i c.pat.n),.d (.i c.pat.m),.d (.i c.pat.var),.d (zak c.pat.kids)]] [] (.d (.bool false)) []:=by rw[<-hp];exact hpi
  rw[hcl,hp,Bool.false_and];refine bd Tryz.f135 22 [] [] fun _ _ _ _ hk=>?_;refine bx 3004 ?_;refine bx 3005 ?_;refine ev (wc zqN hpi' Z Z ?_);refine evd [] [] ?_;apply sq<;>intro h1 h1p h1s<;>(try simp only[Q] at h1p);exfalso;contradiction;refine dr (rq ?_);rotate_left;all_goals (rfl)
 |true=>
  have hpi:=zh0 hw ht' hok hsz;have hpi':FnD Tryz.prog 188 [.d (zaj w),.agg [.d (.i t.data),.d (.i t.index)],.agg [.d (.i c.pat.op),.d (.i c.pat.ctor),.d (.i c.pat.n),.d (.i c.pat.m),.d (.i c.pat.var),.d (zak c.pat.kids)]] [] (.d (.bool true)) []:=by rw[<-hp];exact hpi
  have hsh:zat w 10 ⟨t.data,t.index⟩ c.pat=true:=by
   have:=hp;unfold isP at this;simp only[xad] at this;exact this.1
  have hvl:=zeV w 10 ⟨t.data,t.index⟩ c.pat;have hge:=zyK (g:=c.g) (zvu hp) (zsj hw haz 10 hsh ht);have hge':gdS c.g (zaL w 10 ⟨t.data,t.index⟩ c.pat)=gdOk c.g (zbM w t c.pat):=by rw[zpY hp];exact hge
  rw[hcl,hp,Bool.true_and,<-hge'];refine bd Tryz.f135 22 [] [] fun _ _ _ _ hk=>?_;refine bx 3004 ?_;refine bx 3005 ?_;refine ev (wc zqN hpi' Z Z ?_);refine evd [] [] ?_;apply sq<;>intro h1 h1p h1s<;>(try simp only[Q] at h1p);refine Walk.call (cr:=[]) zg5 (zdN hw hsh od ht' hok hsz) Z (.some Z Z h1) Z Z (LeL.refl _) O Z Z Z ?_;refine Walk.call (cr:=[]) zx6 (zod (g:=c.g) od) Z (.some Z Z h1) Z Z (LeL.refl _) O Z Z Z ?_;refine evd [] [(12,true)] ?_ ⟨⟨_,Z,h1⟩,O⟩;refine dr (rq ?_);rotate_left;exfalso;contradiction;all_goals (rfl)
def ClsSz (l:List Cl):Prop:=∀c∈l,c.pat.size<=1000000000000
def FusSz (l:List Fu):Prop:=∀f∈l,ClsSz f.cls/\∀e∈f.bodies,e.size<=1000000000000
theorem zqw {w:List Data}{t:Ty} (h:zbn w t=true):TyOk w.length t:=by
 unfold zbn at h;rw[xad] at h;exact zdj h.2
theorem zyC {w:List Data}{t:Ty}{l:List Cl}{i:Nat} (hi:i<l.length) (h:clOk w t (nth l i)=false):zaW w t l=false:=by
 unfold zaW;have:l.any (fun c=> !clOk w t c)=true:=List.any_eq_true.2 ⟨nth l i,zaf hi,by rw[h];rfl⟩;rw[this];simp
theorem zw0 {w:List Data}{t:Ty}{l:List Cl} (ht:zbn w t=true) (hl:l.length<=8) (h:∀i,i<l.length->clOk w t (nth l i)=true):zaW w t l=true:=by
 unfold zaW;rw[ht,xax od,Bool.true_and,Bool.true_and,Bool.not_eq_true',List.any_eq_false];intro c hc;obtain⟨i,hi,rfl⟩:=List.getElem_of_mem hc;have:=h i hi;simp only[nth,List.getD,xan hi,Option.getD_some] at this;simp[this]
theorem zw1 {w:List Data}{t:Ty}{l:List Cl} (h:8<l.length):zaW w t l=false:=by
 unfold zaW;rw[xaw od,Bool.false_and,Bool.and_false]
theorem zyD {w:List Data}{t:Ty}{l:List Cl} (h:zbn w t=false):zaW w t l=false:=by
 unfold zaW;rw[h,Bool.false_and]
theorem zia {w:List Data}{t:Ty}{l:List Cl} (h:zaW w t l=true):zbn w t=true/\l.length<=8/\∀i,i<l.length->clOk w t (nth l i)=true:=by
 unfold zaW at h;simp only[xad,xah,Bool.not_eq_true',List.any_eq_false,Bool.not_eq_false'] at h;refine⟨h.1,by omega,fun i hi=>?_⟩;simpa using h.2.2 _ (zaf hi)
theorem zgF {w:List Data}{t:Ty}{c:Cl} (h:clOk w t c=true):isP w t c.pat=true/\zat w 10 t c.pat=true/\zaL w 10 t c.pat=zbM w t c.pat:=by
 unfold clOk at h;rw[xad] at h;refine⟨h.1, ?_,(zpY h.1).symm⟩;have:=h.1;unfold isP at this;simp only[xad] at this;exact this.1
theorem zdg {w:List Data} (hs:WSmall w){a k:Int}{l:List Cl} (hl:ClsOk l) (hz:ClsSz l):
  FnD Tryz.prog 79 [.d (zaj w),.agg [.d (.i a),.d (.i k)],.d (zcg l)] [] (.d (.bool (zaW w ⟨a,k⟩ l))) []:=by
 have hll:=hl.1;refine bd Tryz.f79 31 [] [] fun _ _ _ _ hk=>?_;refine bx 3004 ?_;refine ev (wc zqn (zed hs) Z Z ?_);refine ev ?_;apply sq<;>intro h1 h1p h1s;refine sqT ?_;refine rq ?_;rotate_left;apply sq<;>intro h3 h3p h3s<;>(try simp only[Q,xal] at h3p);refine rq ?_;rotate_left;refine xaB (ι:=Nat) hk (fun i=>[(7,.d (.i (i:Int)))]) [6,17,18,19,20,21,22,23,24,25,26,27,28,29,30] (fun i=>[]) (fun i=>i<=l.length/\∀i',i'<i->clOk w ⟨a,k⟩ (nth l i')=true) (fun i=>l.length-i) 0 ⟨by omega,fun _ h=>absurd h od⟩ ⟨⟨_,Z,xaU ?_⟩,O⟩ O (fun x=>rfl) (fun i hg1=>?_);focus (rfl)
 refine evc [] [] ?_;apply sq<;>intro h4 h4p h4s<;>(try simp only[Q,xal] at h4p);refine ixq sl32 Z Z Z (zah od) Z ?_;refine evd [] [] (wc zxV (zr3 (t:=⟨a,k⟩) (c:=nth l i) (zds hs (zcj ol).1) (zjR (zcj ol).1) (zqw ol) (hl.2 _ (zaf od)) (hz _ (zaf od))) Z Z ?_);refine evd [] [] (dr ?_);apply sq<;>intro h5 h5p h5s<;>(try simp only[Q,xal] at h5p);refine rq ?_;rotate_left;refine ar (xaj (i+1) ⟨⟨by omega,zaZ hg1.2 ol⟩,od,sx ⟨⟨_,Z,xaU ?_⟩,O⟩ O⟩);focus (rfl)
 refine rq ?_;rotate_left;all_goals (refine xam D.bool ?_;first|(rw[zyD ol];done)|(rw[zw1 od];done)|(rw[zyC (i:=i) od ol];done)|(rw[zw0 ol od (fun x hx=>hg1.2 x od)];done))
theorem zqc {w:List Data} (hs:WSmall w){funs:List Ft} (hfl:funs.length<=1000000000000) (hfa:∀f∈funs,TyOk w.length f.arg){f:Fu} (hok:FuOk f) (hz:ClsSz f.cls/\∀e∈f.bodies,e.size<=1000000000000) (hres:TyOk w.length f.ty.res):
  FnD Tryz.prog 37 [.d (zaj w),.d (zbG funs),.agg [.d (.i f.ty.arg.data),.d (.i f.ty.arg.index),.d (.i f.ty.res.data),.d (.i f.ty.res.index),.d (zcg f.cls),.d (zbj f.bodies)]] [] (.d (.bool (zcl w funs f))) []:=by
 have hcl:=hok.1.1;have hbl:=hok.2.1;cases hv:zaW w f.ty.arg f.cls with
 |false=>
  have hcv:=zdg hs (a:=f.ty.arg.data) (k:=f.ty.arg.index) hok.1 hz.1;rw[show zaW w ⟨f.ty.arg.data,f.ty.arg.index⟩ f.cls=false from hv] at hcv;have hfv:zcl w funs f=false:=by unfold zcl;rw[hv,Bool.false_and]
  rw[hfv];refine bd Tryz.f37 57 [] [] fun _ _ _ _ hk=>?_;refine bx 3005 ?_;refine ev (wc zjp hcv Z Z ?_);refine ev ?_;apply sq<;>intro h1 h1p h1s;refine sqT ?_;refine rq ?_;rotate_left;exfalso;contradiction;all_goals (rfl)
 |true=>
  have hcv:=zdg hs (a:=f.ty.arg.data) (k:=f.ty.arg.index) hok.1 hz.1;rw[show zaW w ⟨f.ty.arg.data,f.ty.arg.index⟩ f.cls=true from hv] at hcv;obtain⟨htv,h8,hco⟩:=zia hv;have hwv:=(zcj (w:=w) (a:=f.ty.arg.data) (k:=f.ty.arg.index) htv).1;have hw:=zds hs hwv;have haz:=zjR hwv;have hta:=zqw htv;have hvl:=zhq w f.ty.arg;have hv3:∀i,i<f.cls.length->FnD Tryz.prog 80 [.nils,.d (zaj w),.agg [.d (.i f.ty.arg.data),.d (.i f.ty.arg.index)],.agg [.d (.i (nth f.cls i).pat.op),.d (.i (nth f.cls i).pat.ctor),.d (.i (nth f.cls i).pat.n),.d (.i (nth f.cls i).pat.m),.d (.i (nth f.cls i).pat.var),.d (zak (nth f.cls i).pat.kids)]] [] (.d (zbK (zbM w f.ty.arg (nth f.cls i).pat))) []:=fun i hi=>by
   have hc:=zgF (hco i hi);rw[<-hc.2.2];exact zdN hw hc.2.1 od hta.1 (hok.1.2 _ (zaf hi)) (hz.1 _ (zaf hi))
  refine bd Tryz.f37 57 [] [] fun _ _ _ _ hk=>?_;refine bx 3005 ?_;refine ev (wc zjp hcv Z Z ?_);refine ev ?_;apply sq<;>intro h1 h1p h1s;exfalso;contradiction;apply sq<;>intro h2 h2p h2s<;>(try simp only[Q,xal,xaJ] at h2p);refine rq ?_;rotate_left;refine xaB (ι:=Nat) hk (fun i=>[(7,.d (.i (i:Int)))]) [6,8,26,27,28,29,30,31,32,33,34,35,36,37,38,39,40,41,42,43,44,45,46,47,48,49,50,51,52,53,54,55,56] (fun i=>[]) (fun i=>i<=f.cls.length/\∀i',i'<i->isE w funs (zbM w f.ty.arg (nth f.cls i').pat) f.ty.res (nth f.bodies i')=true) (fun i=>f.cls.length-i) 0 ⟨by omega,fun _ h=>absurd h od⟩ ⟨⟨_,Z,xaU ?_⟩,O⟩ O (fun x=>rfl) (fun i hg1=>?_);focus (rfl)
  refine evc [] [] ?_;apply sq<;>intro h3 h3p h3s<;>(try simp only[Q,xal,xaJ] at h3p);refine ixq sl32 Z Z Z (zah od) Z ?_;refine evd [] [] (wc zg5 (hv3 i od) Z Z ?_);refine evd [] [] (dr (ixq sl33 Z Z Z (zeE od) Z ?_));refine evd [] [] (wc zwp (zj2 (t:=f.ty.res) (e:=nth f.bodies i) hw haz hfl (by have:=hvl (nth f.cls i).pat;omega) hfa hres (xaP hok.2.2 _ (zaf od)) (hz.2 _ (zaf od))) Z Z ?_);refine evd [] [] (dr ?_);apply sq<;>intro h4 h4p h4s<;>(try simp only[Q,xal,xaJ] at h4p);refine rq ?_;rotate_left;refine ar (xaj (i+1) ⟨⟨by omega,zaZ hg1.2 ol⟩,od,sx ⟨⟨_,Z,xaU ?_⟩,O⟩ O⟩);focus (rfl)
  refine rq ?_;rotate_left;all_goals (refine xam D.bool ?_;first|(rw[zjn od];done)|(rw[zkk (i:=i) od od ol];done)|(rw[zmO hv od (fun x hx=>hg1.2 x od)];done))
theorem zc9 {w:List Data} (hs:WSmall w){l:List Fu} (hl:FusOk l) (hz:FusSz l):FnD Tryz.prog 8 [.d (zaj w),.d (zbB l)] [] (.d (.bool (zb9 w l))) []:=by
 have hll:=hl.1;have hfm:=fun(y:Fu) (hy:y∈l) (ho:zcc w (l.map Fu.ty)=true)=>zdj (zgG ho y.ty (List.mem_map.2 ⟨y,hy,rfl⟩)).2;have hfa:=fun(ho:zcc w (l.map Fu.ty)=true) (f:Ft) (hf:f∈l.map Fu.ty)=>zdj (zgG ho f hf).1;have hml:(l.map Fu.ty).length<=1000000000000:=by simp;omega
 unfold zb9;generalize hF:l.map Fu.ty=funs at *;have hft:=zfu hl.1;rw[hF] at hft;have hWV:=zeQ hs;rw[zfc] at hWV;refine bd Tryz.f8 32 [] [] fun _ _ _ _ hk=>?_;refine wc zfl hft Z Z ?_;refine ev (wc zjo hWV Z Z ?_);refine ev ?_;apply sq<;>intro h1 h1p h1s;refine sqT ?_;refine rq ?_;rotate_left;refine Walk.call (cr:=[]) zh9 (zez hs.len hml) Z (.some Z Z h1) Z Z (LeL.refl _) O Z Z Z (evs [] [(12,false)] ?_ ⟨⟨_,Z,h1⟩,O⟩);apply sq<;>intro h3 h3p h3s;refine rq ?_;rotate_left;refine xaB (ι:=List (Fu)×List (Fu)) hk (fun x=>[(6,.d (.i (x.1.length:Int)))]) [4,18,19,20,21,22,23,24,25,26,27,28,29,30,31] (fun x=>[]) (fun x=>x.1++x.2=l/\x.1.all (zcl w funs)=true) (fun x=>x.2.length) ([],l) ⟨by simp,by simp⟩ ⟨⟨_,Z,xaU ?_⟩,O⟩ O (fun x=>rfl) (fun x hg1=>?_);focus (rfl)
 obtain⟨pre,rest⟩:=x;dsimp only at hg1 ⊢;refine evc [] [] ?_;apply sq<;>intro h4 h4p h4s<;>(try simp only[Q,xal] at h4p);rcases rest with _|⟨y,rest⟩
 ·exfalso;simp_all
 refine ixq sl24 Z Z Z (zaA hg1.1) Z (ev (wc zzg (zqc hs hml (hfa ol) (f:=y) (hl.2 y (by rw[<-hg1.1];simp)) (hz y (by rw[<-hg1.1];simp)) (hfm y (by rw[<-hg1.1];simp) ol)) Z Z ?_));refine ev ?_;apply sq<;>intro h5 h5p h5s<;>(try simp only[Q,xal] at h5p);refine rq ?_;rotate_left;refine ar (xaj ((pre++[y],rest)) ⟨⟨by simp[hg1.1],by rw[List.all_append,hg1.2];simp only[List.all_cons,List.all_nil,Bool.and_true,Bool.true_and];assumption⟩,oi,sx ⟨⟨_,Z,xaU ?_⟩,O⟩ O⟩);focus ((simp;done))
 have hrest:rest=[]:=by
  rcases rest with _|⟨a,b⟩
  ·rfl
  ·exfalso;have hz:=xam List.length (hg1.1);simp only[xaa,xab,xac] at hz;omega
 subst hrest;refine rq ?_;rotate_left;all_goals (refine xam D.bool ?_;first|(simp_all;done)|(rw[ztY hg1.1 ol];simp_all;done))
def zbh (s:Str) (a:Int) (c:UInt8):Bool:=decide (0<=a)&&(decide (a<(s.length:Int))&&decide (nth s a.toNat=c))
theorem zgN {s:Str}{a:Int}{c:UInt8} (h:zbh s a c=true):0<=a/\a<(s.length:Int):=by
 unfold zbh at h;simp only[xad,xah] at h;exact⟨h.1,h.2.1⟩
theorem zaP {s:Str}{a:Int}{c:UInt8} (hs:s.length<=1000000000000):FnD Tryz.prog 265 [.d (.str s),.d (.i a),.d (.int .u8 (c.toNat:Int))] [] (.d (.bool (zbh s a c))) []:=by
 by_cases h0:0<=a
 ·obtain⟨n,rfl⟩:=Int.eq_ofNat_of_zero_le h0;refine bd Tryz.f265 22 [] [] fun _ _ _ _ hk=>?_;apply sq<;>intro h1 h1p h1s;apply sq<;>intro h2 h2p h2s;try simp only[Q,ztT] at h2p
  refine xbN un9 (.some Z Z h2) Z Z Z Z (zbc od) ?_;refine evs [] [(15,true)] ?_ ⟨⟨_,Z,h2⟩,O⟩;refine rq ?_;rotate_left;refine rq ?_;rotate_left;refine sqF ?_;refine rq ?_;rotate_left;all_goals (refine xam D.bool ?_;unfold zbh;rw[show decide (nth s ((n:Int)).toNat=c)=decide (((nth s n).toNat:Int)=(c.toNat:Int)) from by rw[decide_eq_decide];exact ztT.symm];first|(simp_all;done)|(simp_all;omega))
 ·have hv:zbh s a c=false:=by unfold zbh;rw[xaw h0];rfl
  rw[hv];refine bd Tryz.f265 22 [] [] fun _ _ _ _ hk=>?_;apply sq<;>intro h1 h1p h1s;exfalso;first|omega|(simp at h1p;omega)
  refine sqF ?_;refine rq ?_;rotate_left;all_goals (first|rfl|(simp_all;done))
def lowL:Str->Nat
 | []=>0
 |x::r=>if zbH x=true then lowL r+1 else 0
def zbw:Str->Nat
 | []=>0
 |x::r=>if zcS x=true then lowL r+1 else 0
theorem zsW:∀s:Str,lowL s<=s.length
 | []=>Nat.le_refl _
 |x::r=>by
  have:=zsW r;show(if zbH x=true then lowL r+1 else 0)<=_
  split<;>simp<;>omega
theorem zjF:∀s:Str,zbw s<=s.length
 | []=>Nat.le_refl _
 |x::r=>by
  have:=zsW r;show(if zcS x=true then lowL r+1 else 0)<=_
  split<;>simp<;>omega
def zbe (s:Str) (n:Nat):Str:=(s.drop n).take (zbw (s.drop n))
theorem zuZ {s:Str}{n e:Nat} (hn:n<=e) (he:e<s.length) (hg:(if e=n then n+zbw (s.drop n) else e+lowL (s.drop e))=n+zbw (s.drop n))
  (hc:(e=n/\zcS (nth s e)=true)\/(n<e/\zbH (nth s e)=true)):(if e+1=n then n+zbw (s.drop n) else e+1+lowL (s.drop (e+1)))=n+zbw (s.drop n):=by
 rw[if_neg od];have hd:s.drop e=nth s e::s.drop (e+1):=zaF he;rcases hc with ⟨rfl,h⟩|⟨h1,h⟩
 ·rw[hd,zbw,if_pos h];omega
 ·rw[if_neg od,hd,lowL,if_pos h] at hg;omega
theorem zu0 {s:Str}{n e:Nat} (hn:n<=e) (he:e<=s.length) (hg:(if e=n then n+zbw (s.drop n) else e+lowL (s.drop e))=n+zbw (s.drop n))
  (hc:e=s.length\/(e=n/\zcS (nth s e)=false)\/(n<e/\zbH (nth s e)=false)):e=n+zbw (s.drop n):=by
 by_cases hl:e=s.length
 ·subst hl;by_cases hen:s.length=n
  ·subst hen;rw[List.drop_length];simp[zbw]
  ·rw[if_neg hen,List.drop_length] at hg;simpa [lowL] using hg
 ·have hd:s.drop e=nth s e::s.drop (e+1):=zaF od;rcases hc with h|⟨rfl,h⟩|⟨h1,h⟩
  ·exact absurd h hl
  ·rw[hd,zbw,if_neg (by rw[h];simp)];omega
  ·rw[if_neg od,hd,lowL,if_neg (by rw[h];simp)] at hg;omega
theorem za9 {s:Str}{n:Nat} (hs:s.length<=1000000000000) (hn:n<=s.length):FnD Tryz.prog 266 [.d (.str s),.d (.i n)] [] (.tup [.d (.str (zbe s n)),.d (.i ((n+zbw (s.drop n):Nat):Int))]) []:=by
 have hle:=zjF (s.drop n);rw[List.length_drop] at hle;have hstop:=fun(e:Nat)=>zu0 (s:=s) (n:=n) (e:=e);have hstep:=fun(e:Nat)=>zuZ (s:=s) (n:=n) (e:=e);refine bd Tryz.f266 47 [] [] fun _ _ _ _ hk=>?_;refine xaB (ι:=Nat) hk (fun e=>[(6,.d (.i (e:Int)))]) [8,9,10,11,12,13,14,15,16,17,18,19,20,21,22,23,24,25,26,27,28,29,30,31,32,33,34,35,36,37,38,39,40,41] (fun e=>[]) (fun e=>n<=e/\e<=s.length/\(if e=n then n+zbw (s.drop n) else e+lowL (s.drop e))=n+zbw (s.drop n)) (fun e=>s.length-e) n ⟨Nat.le_refl _,hn,by rw[if_pos rfl]⟩ ⟨⟨_,Z,xaU ?_⟩,O⟩ O (fun x=>rfl) (fun e hg1=>?_);focus (first|rfl|(simp;done)|omega)
 refine evc [] [] ?_;apply sq<;>intro h1 h1p h1s<;>(try simp only[Q,xal] at h1p);apply sq<;>intro h2 h2p h2s<;>(try simp only[Q,xal] at h2p);refine xbN un9 (.some Z Z h2) Z Z Z Z (zbc od) ?_;refine Walk.call (cr:=[]) zqK (zgY (n:=((nth s e).toNat:Int))) Z (.some Z Z h2) Z Z (LeL.refl _) O Z Z Z (evs [] [(12,true),(16,true)] ?_ ⟨⟨_,Z,h1⟩,⟨_,Z,h2⟩,O⟩);apply sq<;>intro h3 h3p h3s;try simp only[Q,xal] at h3p
 refine sqT ?_;refine ar (xaj (e+1) ⟨⟨by omega,by omega,hstep e hg1.1 od hg1.2.2 (by exact .inl ⟨by omega,by assumption⟩)⟩,od,sx ⟨⟨_,Z,xaU ?_⟩,O⟩ O⟩);focus (first|rfl|(simp;done)|omega)
 apply sq<;>intro h5 h5p h5s;try simp only[Q,xal] at h5p
 refine xbN un9 (.some Z Z h5) Z Z Z Z (zbc od) ?_;refine evs [] [(12,true),(22,false),(26,true)] ?_ ⟨⟨_,Z,h1⟩,⟨_,Z,h3⟩,⟨_,Z,h5⟩,O⟩;apply sq<;>intro h6 h6p h6s;try simp only[Q,xal] at h6p
 refine xbN un9 (.some Z Z h6) Z Z Z Z (zbc od) ?_;refine evs [] [(12,true),(22,false),(32,true)] ?_ ⟨⟨_,Z,h1⟩,⟨_,Z,h3⟩,⟨_,Z,h6⟩,O⟩;apply sq<;>intro h7 h7p h7s;try simp only[Q,xal] at h7p
 refine ar (xaj (e+1) ⟨⟨by omega,by omega,hstep e hg1.1 od hg1.2.2 (by exact .inr ⟨by omega,by unfold zbH;rw[xad,xah,xah];omega⟩)⟩,od,sx ⟨⟨_,Z,xaU ?_⟩,O⟩ O⟩);focus (first|rfl|(simp;done)|omega)
 refine xbB un9 .none Z Z Z Z Z Z od od ?_;refine ev (rn0 (r2 Z Z) (.tup (qee ?_ ?_)));rotate_left 2;refine sqF ?_;refine xbB un9 .none Z Z Z Z Z Z od od ?_;refine ev (rn0 (r2 Z Z) (.tup (qee ?_ ?_)));rotate_left 2;refine sqF ?_;refine sqF ?_;refine xbB un9 .none Z Z Z Z Z Z od od ?_;refine ev (rn0 (r2 Z Z) (.tup (qee ?_ ?_)));rotate_left 2;refine sqF ?_;apply sq<;>intro h10 h10p h10s<;>(try simp only[Q,xal] at h10p);refine xbN un9 (.some Z Z h10) Z Z Z Z (zbc od) ?_;refine evs [] [(12,true),(22,false),(26,true)] ?_ ⟨⟨_,Z,h1⟩,⟨_,Z,Z⟩,⟨_,Z,h10⟩,O⟩;apply sq<;>intro h11 h11p h11s<;>(try simp only[Q,xal] at h11p);refine xbN un9 (.some Z Z h11) Z Z Z Z (zbc od) ?_;refine evs [] [(12,true),(22,false),(32,true)] ?_ ⟨⟨_,Z,h1⟩,⟨_,Z,Z⟩,⟨_,Z,h11⟩,O⟩;apply sq<;>intro h12 h12p h12s<;>(try simp only[Q,xal] at h12p);refine ar (xaj (e+1) ⟨⟨by omega,by omega,hstep e hg1.1 od hg1.2.2 (by exact .inr ⟨by omega,by unfold zbH;rw[xad,xah,xah];omega⟩)⟩,od,sx ⟨⟨_,Z,xaU ?_⟩,O⟩ O⟩);focus (first|rfl|(simp;done)|omega)
 refine xbB un9 .none Z Z Z Z Z Z od od ?_;refine ev (rn0 (r2 Z Z) (.tup (qee ?_ ?_)));rotate_left 2;refine sqF ?_;refine xbB un9 .none Z Z Z Z Z Z od od ?_;refine ev (rn0 (r2 Z Z) (.tup (qee ?_ ?_)));rotate_left 2;refine sqF ?_;refine sqF ?_;refine xbB un9 .none Z Z Z Z Z Z od od ?_;refine ev (rn0 (r2 Z Z) (.tup (qee ?_ ?_)));rotate_left 2;refine sqF ?_;refine xbB un9 .none Z Z Z Z Z Z od od ?_;refine ev (rn0 (r2 Z Z) (.tup (qee ?_ ?_)));rotate_left 2;all_goals (have hE:=hstop e hg1.1 hg1.2.1 hg1.2.2 (by first|exact .inl od|exact .inr (.inl ⟨by omega,by assumption⟩)|exact .inr (.inr ⟨by omega,by unfold zbH;rw[Bool.and_eq_false_iff,decide_eq_false_iff_not,decide_eq_false_iff_not];omega⟩));first|(rw[<-hE];done)|(unfold zbe;rw[show e-n=zbw (s.drop n) by omega];done)|(unfold zbe;rw[<-zl9,show e-n=zbw (s.drop n) by omega];done))
def za7 (w:List Data) (f:Nat->Nat):Nat->Ty->Pat->Bool
 |0,_,_=>true
 |n+1,t,p=>
  if p.op=1\/p.op=2 then decide (dv f t=0)
  else if p.op=5 then za7 w f n t (nth p.kids 0)&&za7 w f n t (nth p.kids 1)
  else !(all2 (fun u q=> !za7 w f n u q) (zai w t p) p.kids)
theorem zgs {w:List Data}{f:Nat->Nat}{n:Nat}{t:Ty}{p:Pat}:za7 w f (n+1) t p=if p.op=1\/p.op=2 then decide (dv f t=0)
  else if p.op=5 then za7 w f n t (nth p.kids 0)&&za7 w f n t (nth p.kids 1)
  else !(all2 (fun u q=> !za7 w f n u q) (zai w t p) p.kids):=rfl
theorem zvC {α β:Type} [Inhabited α] [Inhabited β]{f:α->β->Bool}{a:List α}{b:List β} (hl:a.length=b.length) (h:all2 f a b=true):∀i,i<a.length->f (nth a i) (nth b i)=true:=fun i hi=>by
 cases hf:f (nth a i) (nth b i) with
 |true=>rfl
 |false=>rw[zbJ hi hl hf] at h;exact absurd h oi
theorem zvv {w:List Data}{t:Ty}{c:Int} (h:c∈zas w t):c∈zbg w t:=by
 unfold zas at h;split at h
 ·simp at h
 ·exact h
theorem zmk {w:List Data} (hw:WT w){a k:Int}{p:Pat} (ht:TyIn w.length ⟨a,k⟩):
  FnD Tryz.prog 260 [.d (zaj w),.agg [.d (.i a),.d (.i k)],.agg [.d (.i p.op),.d (.i p.ctor),.d (.i p.n),.d (.i p.m),.d (.i p.var),.d (zak p.kids)]] [] (.d (zbZ (zc8 w ⟨a,k⟩ p))) []:=by
 have hsh:=zj0 hw (p:=p) ht;refine bd Tryz.f260 17 [] [] fun _ _ _ _ hk=>?_;refine bx 3004 ?_;refine bx 3005 ?_;refine ev (wc zqM hsh Z Z ?_);refine ev (rq ?_);rotate_left;all_goals (rfl)
theorem zc1 {w:List Data} (hd:Dp w){f:Nat->Nat}:∀(n:Nat){a k:Int}{p:Pat},zat w n ⟨a,k⟩ p=true->InS (w.length*4) ⟨a,k⟩->p.ok->
  FnD Tryz.prog 218 [.d (sPtr w f),.agg [.d (.i a),.d (.i k)],.agg [.d (.i p.op),.d (.i p.ctor),.d (.i p.n),.d (.i p.m),.d (.i p.var),.d (zak p.kids)]] [] (.d (.bool (za7 w f n ⟨a,k⟩ p))) []
 |0,a,k,p,h,_,_=>by simp[zat] at h
 |n+1,a,k,p,h,hi,hok=>by
  rw[xa4] at hok;have hw:=hd.wt;have hw4:=hd.four;have ht:=zc2 hi;have pk:=zzK (k:=k) h;obtain⟨ho,hlen⟩:=zbR h;have hkid:=fun i (hi:i<p.kids.length)=>zbC h hi;have hops:=pk.ops;have l5:=pk.len5;have hk1:=pk.one;have hk2:=pk.two;have hsT:zc8 w ⟨a,k⟩ p=zai w ⟨a,k⟩ p:=by
   unfold zc8;rw[if_neg (fun h=>h.2 (pk.mem h.1))]
  have hkt:=zmk hw (p:=p) ht;rw[hsT] at hkt;have hins:∀i,i<(zai w ⟨a,k⟩ p).length->InS (w.length*4) (nth (zai w ⟨a,k⟩ p) i):=fun i hl=>by
   have hm:=zaf hl;unfold zai at hm ⊢;split
   ·rename_i h4;rw[if_pos h4] at hm;exact zcz hd hi (pk.mem h4) _ hm
   ·rename_i h4;rw[if_neg h4] at hm;split
    ·rename_i h5;rw[if_pos h5] at hm;simp only[List.mem_cons,xau,or_false,or_self] at hm;rw[hm];exact hi
    ·rename_i h5;rw[if_neg h5] at hm;split
     ·rename_i h6;rw[if_pos h6] at hm;simp only[List.mem_cons,xau,or_false] at hm;rw[hm];exact hi
     ·rename_i h6;rw[if_neg h6] at hm;simp at hm
  have htl:(zai w ⟨a,k⟩ p).length<=1000000000000:=by have:=hok.1;omega
  refine bd Tryz.f218 61 [] [] fun _ _ _ _ hk=>?_;refine bx 3004 ?_;refine bx 3005 ?_;refine ev ?_;apply sq<;>intro h1 h1p h1s<;>(try simp only[Q,xa3] at h1p);apply sq<;>intro h2 h2p h2s<;>(try simp only[Q,xa3] at h2p);refine wc zkn (zno (n:=w.length*4) (f:=f) hi od) Z Z ?_;refine evd [] [] (dr (rq ?_));rotate_left;apply sq<;>intro h3 h3p h3s<;>(try simp only[Q,xa3] at h3p);refine ixq (i:=0) sl72 Z Z Z (zaE od) Z ?_;refine evd [] [] (wc zhC (zc1 hd n (hk1 od) hi (xa6 hok.2 _ (zaf (i:=0) od))) Z Z ?_);refine evd [] [] ?_;apply sq<;>intro h4 h4p h4s<;>(try simp only[Q,xa3] at h4p);refine Walk.idx (i:=1) sl72 (.some Z Z h4) Z Z Z Z (zaE od) Z ?_;refine evd [] [(30,true)] ?_ ⟨⟨_,Z,h4⟩,O⟩;refine Walk.call (cr:=[]) zhC (zc1 hd n (hk2 od) hi (xa6 hok.2 _ (zaf (i:=1) od))) Z (.some Z Z h4) Z Z (LeL.refl _) O Z Z Z ?_;refine evd [] [(30,true)] ?_ ⟨⟨_,Z,h4⟩,O⟩;refine dr (rq ?_);rotate_left;refine dr (rq ?_);rotate_left;refine wc zum hkt Z Z ?_;refine evd [] [] (dr (xaB (ι:=Nat) hk (fun i=>[(47,.d (.i (i:Int)))]) [6,7,8,48,49,50,51,52,53,54,55,56,57,58,59,60] (fun i=>[]) (fun i=>i<=(zai w ⟨a,k⟩ p).length/\∀i',i'<i->za7 w f n (nth (zai w ⟨a,k⟩ p) i') (nth p.kids i')=false) (fun i=>(zai w ⟨a,k⟩ p).length-i) 0 ⟨by omega,fun _ h=>absurd h od⟩ ⟨⟨_,Z,xaU ?_⟩,O⟩ O (fun x=>rfl) (fun i hg1=>?_)));focus (rfl)
  refine evc [] [] ?_;apply sq<;>intro h5 h5p h5s<;>(try simp only[Q,xa3] at h5p);refine ixq zaz Z Z Z (zah od) Z ?_;refine ev (ab 3008 tz29 ?_);refine ev (so ty29 ?_);apply tv;refine ixq sl72 Z Z Z (zaE od) Z ?_;refine evd [] [] (wc zhC (zc1 hd n (hkid i od) (hins i od) (xa6 hok.2 _ (zaf od))) Z Z ?_);refine dr ?_;apply sq<;>intro h6 h6p h6s<;>(try simp only[Q,xa3] at h6p);refine rq ?_;rotate_left;refine ar (xaj (i+1) ⟨⟨by omega,zaZ hg1.2 ol⟩,od,sx ⟨⟨_,Z,xaU ?_⟩,O⟩ O⟩);focus (rfl)
  refine rq ?_;rotate_left;apply sq<;>intro h7 h7p h7s<;>(try simp only[Q,xa3] at h7p);refine wc zkn (zno (n:=w.length*4) (f:=f) hi od) Z Z ?_;refine evd [] [] (dr (rq ?_));rotate_left;apply sq<;>intro h8 h8p h8s<;>(try simp only[Q,xa3] at h8p);refine ixq (i:=0) sl72 Z Z Z (zaE od) Z ?_;refine evd [] [] (wc zhC (zc1 hd n (hk1 od) hi (xa6 hok.2 _ (zaf (i:=0) od))) Z Z ?_);refine evd [] [] ?_;apply sq<;>intro h9 h9p h9s<;>(try simp only[Q,xa3] at h9p);refine Walk.idx (i:=1) sl72 (.some Z Z h9) Z Z Z Z (zaE od) Z ?_;refine evd [] [(30,true)] ?_ ⟨⟨_,Z,h9⟩,O⟩;refine Walk.call (cr:=[]) zhC (zc1 hd n (hk2 od) hi (xa6 hok.2 _ (zaf (i:=1) od))) Z (.some Z Z h9) Z Z (LeL.refl _) O Z Z Z ?_;refine evd [] [(30,true)] ?_ ⟨⟨_,Z,h9⟩,O⟩;refine dr (rq ?_);rotate_left;refine dr (rq ?_);rotate_left;refine wc zum hkt Z Z ?_;refine evd [] [] (dr (xaB (ι:=Nat) hk (fun i=>[(47,.d (.i (i:Int)))]) [6,7,8,48,49,50,51,52,53,54,55,56,57,58,59,60] (fun i=>[]) (fun i=>i<=(zai w ⟨a,k⟩ p).length/\∀i',i'<i->za7 w f n (nth (zai w ⟨a,k⟩ p) i') (nth p.kids i')=false) (fun i=>(zai w ⟨a,k⟩ p).length-i) 0 ⟨by omega,fun _ h=>absurd h od⟩ ⟨⟨_,Z,xaU ?_⟩,O⟩ O (fun x=>rfl) (fun i hg1=>?_)));focus (rfl)
  refine evc [] [] ?_;apply sq<;>intro h10 h10p h10s<;>(try simp only[Q,xa3] at h10p);refine ixq zaz Z Z Z (zah od) Z ?_;refine ev (ab 3008 tz29 ?_);refine ev (so ty29 ?_);apply tv;refine ixq sl72 Z Z Z (zaE od) Z ?_;refine evd [] [] (wc zhC (zc1 hd n (hkid i od) (hins i od) (xa6 hok.2 _ (zaf od))) Z Z ?_);refine dr ?_;apply sq<;>intro h11 h11p h11s<;>(try simp only[Q,xa3] at h11p);refine rq ?_;rotate_left;refine ar (xaj (i+1) ⟨⟨by omega,zaZ hg1.2 ol⟩,od,sx ⟨⟨_,Z,xaU ?_⟩,O⟩ O⟩);focus (rfl)
  refine rq ?_;rotate_left;all_goals (refine xam D.bool ?_;rw[zgs];first|(rw[if_pos od];exact decide_eq_decide.2 od)|(rw[if_neg od,if_pos od];first|rfl|(simp_all;done))|(rw[if_neg od,if_neg od];first|(rw[zbJ (i:=i) od od (by show(!_)=false;rw[Bool.not_eq_false'];assumption)];rfl)|(rw[zci od (fun x hx=>by have:=hg1.2 x od;simp_all)];rfl)))
def zwu (w:List Data):Nat->Ty->Val->Bool
 |0,_,_=>false
 |n+1,t,v=>if t.data = -1 then decide (v.ctor = -1)&&(decide (0<=v.num)&&(decide (v.num<=9)&&decide (v.kids.length=0)))
   else if v.num=0/\v.ctor∈zbg w t then all2 (zwu w n) (zae w t v.ctor) v.kids else false
mutual
def cntV (m:Int):Val->Int
 | .mk _ _ ks=>cntL m 1 ks
def cntL (m n:Int):List Val->Int
 | []=>n
 |k::r=>if n<=m then cntL m (n+cntV (m-n) k) r else n
end
theorem zuv {m n:Int}{l:List Val} (h:¬n<=m):cntL m n l=n:=by cases l<;>simp[cntL,h]
mutual
theorem zsN:∀(v:Val) (m:Int),1<=cntV m v/\cntV m v<=v.size
 | .mk _ _ ks,m=>by
  have:=zou ks m 1 od;simp only[cntV,Val.size];push_cast;omega
theorem zou:∀(l:List Val) (m n:Int),1<=n->1<=cntL m n l/\cntL m n l<=n+Vals.size l
 | [],m,n,h=>by simp[cntL,Vals.size];omega
 |k::r,m,n,h=>by
  have h1:=zsN k (m-n);have h2:=zou r m (n+cntV (m-n) k) od;simp only[cntL,Vals.size];split
  ·push_cast;omega
  ·push_cast;omega
end
mutual
theorem zvJ:∀(v:Val) (m:Int),(cntV m v<=m↔(v.size:Int)<=m)/\(cntV m v<=m->cntV m v=v.size)
 | .mk _ _ ks,m=>by
  have:=zq0 ks m 1;simp only[cntV,Val.size];push_cast;exact this
theorem zq0:∀(l:List Val) (m n:Int),(cntL m n l<=m↔n+(Vals.size l:Int)<=m)/\(cntL m n l<=m->cntL m n l=n+Vals.size l)
 | [],m,n=>by simp[cntL,Vals.size]
 |k::r,m,n=>by
  have h1:=zvJ k (m-n);have h2:=zq0 r m (n+cntV (m-n) k);have h3:=zou r m (n+cntV (m-n) k);have h4:=zsN k (m-n);simp only[cntL,Vals.size];push_cast
  by_cases hn:n<=m
  ·rw[if_pos hn];by_cases h5:cntV (m-n) k<=m-n
   ·have h6:=h1.2 h5;rw[h6] at h2 ⊢;constructor
    ·rw[h2.1];constructor<;>intro h<;>omega
    ·intro h;rw[h2.2 h];omega
   ·have h7:¬(k.size:Int)<=m-n:=fun h=>h5 (h1.1.2 h);have h8:¬n+cntV (m-n) k<=m:=by omega
    rw[zuv h8];constructor
    ·constructor<;>intro h<;>omega
    ·intro h;omega
  ·rw[if_neg hn];constructor
   ·constructor<;>intro h<;>omega
   ·intro h;omega
end
theorem Vals.size_split {pre rest l:List Val}{y:Val} (h:pre++y::rest=l):Vals.size l=Vals.size pre+y.size+Vals.size rest:=by
 subst h;induction pre with
 |nil=>simp[Vals.size]
 |cons x r ih=>simp only[xai,Vals.size,ih];omega
structure Bd where
 var:Int
 val:Val
def Bd.c (b:Bd):List D:=[.i b.var,.i b.val.ctor,.i b.val.num,zw7 b.val.kids]
instance:Inhabited Bd:=⟨⟨0,default⟩⟩
def BdOk (m:Nat) (l:List Bd):Prop:=∀x∈l,x.val.ok/\x.val.size<=m
theorem BdOk.app {m:Nat}{a b:List Bd} (h1:BdOk m a) (h2:BdOk m b):BdOk m (a++b):=fun x hx=>by
 rcases List.mem_append.1 hx with h|h
 ·exact h1 x h
 ·exact h2 x h
theorem BdOk.mono {m k:Nat}{a:List Bd} (h:BdOk m a) (hk:m<=k):BdOk k a:=fun x hx=>⟨(h x hx).1,Nat.le_trans (h x hx).2 hk⟩
theorem zy1 {w:List Data}{t:Ty}{p:Pat} (h:p.op=5):zai w t p=[t,t]:=by unfold zai;rw[if_neg od,if_pos h]
theorem zy2 {w:List Data}{t:Ty}{p:Pat} (h:p.op=6):zai w t p=[t]:=by unfold zai;rw[if_neg od,if_neg od,if_pos h]
theorem zbP {w:List Data}{t:Ty}{p:Pat} (h:p.op=4):zai w t p=zae w t p.ctor:=by unfold zai;rw[if_pos h]
theorem zv9 {w:List Data}{n:Nat}{t:Ty}{p:Pat} (h:zat w (n+1) t p=true):p.op=1\/p.op=2\/p.op=3\/p.op=4\/p.op=5\/p.op=6:=by
 have h1:=(zbR h).1;unfold ownP at h1;have h2:=(xas h1).2.2.2.2;omega
theorem zkT {w:List Data}{n:Nat}{t:Ty}{p:Pat} (h:zat w (n+1) t p=true) (h5:p.op=5):p.kids.length=2/\zat w n t (nth p.kids 0)=true/\zat w n t (nth p.kids 1)=true:=by
 have hl:=(zbR h).2;have h0:=fun i hi=>zbC h (i:=i) hi;rw[zy1 h5] at hl h0;have hl':p.kids.length=2:=hl;exact⟨hl',h0 0 od,h0 1 od⟩
theorem zkS {w:List Data}{n:Nat}{t:Ty}{p:Pat} (h:zat w (n+1) t p=true) (h6:p.op=6):p.kids.length=1/\zat w n t (nth p.kids 0)=true:=by
 have hl:=(zbR h).2;have h0:=fun i hi=>zbC h (i:=i) hi;rw[zy2 h6] at hl h0;have hl':p.kids.length=1:=hl;exact⟨hl',h0 0 od⟩
theorem zlr {a b c d e:Int}{l:List Pat}:(Pat.mk a b c d e l).op=a:=rfl
theorem zi5 {a b c d e:Int}{l:List Pat}:(Pat.mk a b c d e l).ctor=b:=rfl
theorem mk_n {a b c d e:Int}{l:List Pat}:(Pat.mk a b c d e l).n=c:=rfl
theorem mk_m {a b c d e:Int}{l:List Pat}:(Pat.mk a b c d e l).m=d:=rfl
theorem zkE {a b c d e:Int}{l:List Pat}:(Pat.mk a b c d e l).var=e:=rfl
theorem ze2 {a b c d e:Int}{l:List Pat}:(Pat.mk a b c d e l).kids=l:=rfl
abbrev anyQ:Pat:= .mk 1 0 0 0 0 []
abbrev ze9:Pat:= .mk 0 0 0 0 0 []
mutual
def zaS:Pat->Pat
 | .mk op c n m v ks=>if op=2 then anyQ else if op=6/\ks≠[] then zlm ks else .mk op c n m v (zh8 ks)
def zlm:List Pat->Pat
 | []=>anyQ
 |k::_=>zaS k
def zh8:List Pat->List Pat
 | []=>[]
 |k::r=>zaS k::zh8 r
end
theorem zl5:∀l:List Pat,zh8 l=l.map zaS
 | []=>rfl
 |k::r=>by simp[zh8,zl5 r]
theorem zhB (p:Pat):zaS p=if p.op=2 then anyQ else if p.op=6/\p.kids≠[] then zaS (nth p.kids 0) else .mk p.op p.ctor p.n p.m p.var (p.kids.map zaS):=by
 cases p with|mk op c n m v ks=>
 have e:zaS (.mk op c n m v ks)=if op=2 then anyQ else if op=6/\ks≠[] then zlm ks else .mk op c n m v (zh8 ks):=by conv=>lhs;unfold zaS
 rw[e,zl5];by_cases h2:op=2
 ·rw[if_pos h2];exact(if_pos (c:=(Pat.mk op c n m v ks).op=2) h2).symm
 ·rw[if_neg h2];refine Eq.trans ?_ (if_neg (c:=(Pat.mk op c n m v ks).op=2) h2).symm;by_cases h6:op=6/\ks≠[]
  ·rw[if_pos h6];refine Eq.trans ?_ (if_pos (c:=(Pat.mk op c n m v ks).op=6/\(Pat.mk op c n m v ks).kids≠[]) h6).symm;cases ks with
   |nil=>exact absurd Z h6.2
   |cons k r=>rfl
  ·rw[if_neg h6];exact(if_neg (c:=(Pat.mk op c n m v ks).op=6/\(Pat.mk op c n m v ks).kids≠[]) h6).symm
def zbp (out:List (List Pat)) (l:List Pat):List (List Pat):=out.flatMap fun q=>l.map fun c=>q++[c]
def zfq (ls:List (List Pat)):List (List Pat):=ls.foldl zbp [[]]
mutual
def zaG:Pat->List Pat
 | .mk op c n m v ks=>if op=5 then zy0 ks else (zfq (zlv ks)).map fun l=> .mk op c n m v l
def zy0:List Pat->List Pat
 | []=>[]
 |a::r=>zaG a++zxv r
def zxv:List Pat->List Pat
 | []=>[]
 |b::_=>zaG b
def zlv:List Pat->List (List Pat)
 | []=>[]
 |k::r=>zaG k::zlv r
end
theorem zoi:∀l:List Pat,zlv l=l.map zaG
 | []=>rfl
 |k::r=>by simp[zlv,zoi r]
theorem zfw {p:Pat} (h:p.op≠5):zaG p=(zfq (p.kids.map zaG)).map fun l=> .mk p.op p.ctor p.n p.m p.var l:=by
 cases p with|mk op c n m v ks=>
 have h':¬op=5:=h;conv=>lhs;unfold zaG
 rw[if_neg h',zoi];rfl
theorem zh2 {p:Pat} (h:p.op=5) (hk:p.kids.length=2):zaG p=zaG (nth p.kids 0)++zaG (nth p.kids 1):=by
 cases p with|mk op c n m v ks=>
 have h':op=5:=h;conv=>lhs;unfold zaG
 rw[if_pos h'];have hk':ks.length=2:=hk;match ks,hk' with
 | [a,b],_=>rfl
mutual
def cntS:Pat->Int
 | .mk op _ _ _ _ ks=>if op=5 then cntO ks 0 else cntM ks 1
def cntO:List Pat->Int->Int
 | [],n=>n
 |k::r,n=>cntO r (cap (n+cntS k))
def cntM:List Pat->Int->Int
 | [],n=>n
 |k::r,n=>cntM r (cap (n*cntS k))
end
theorem zow (p:Pat):cntS p=if p.op=5 then cntO p.kids 0 else cntM p.kids 1:=by
 cases p with|mk op c n m v ks=>
 conv=>lhs;unfold cntS
 rfl
mutual
theorem zov:∀p:Pat,0<=cntS p/\cntS p<=401
 | .mk op _ _ _ _ ks=>by
  unfold cntS;split
  ·exact zsM ks 0 od od
  ·exact zsK ks 1 od od
theorem zsM:∀(l:List Pat) (n:Int),0<=n->n<=401->0<=cntO l n/\cntO l n<=401
 | [],n,h1,h2=>⟨h1,h2⟩
 |k::r,n,h1,h2=>by
  unfold cntO;have h3:=zov k;have h4:=zm3 (x:=n+cntS k) od;exact zsM r _ h4.1 h4.2
theorem zsK:∀(l:List Pat) (n:Int),0<=n->n<=401->0<=cntM l n/\cntM l n<=401
 | [],n,h1,h2=>⟨h1,h2⟩
 |k::r,n,h1,h2=>by
  unfold cntM;have h3:=zov k;have h4:=zm3 (x:=n*cntS k) (Int.mul_nonneg h1 h3.1);exact zsK r _ h4.1 h4.2
end
theorem zux {l:List Pat}{i:Nat}{n:Int} (h:i<l.length):cntO (l.drop i) n=cntO (l.drop (i+1)) (cap (n+cntS (nth l i))):=by
 rw[zaF h];rfl
theorem zuw {l:List Pat}{i:Nat}{n:Int} (h:i<l.length):cntM (l.drop i) n=cntM (l.drop (i+1)) (cap (n*cntS (nth l i))):=by
 rw[zaF h];rfl
def binP:Nat->Pat->Bool
 |0,_=>false
 |n+1,p=>decide (p.op=5->p.kids.length=2)&&p.kids.all (binP n)
theorem zeX {n:Nat}{p:Pat} (h:binP (n+1) p=true){i:Nat} (hi:i<p.kids.length):binP n (nth p.kids i)=true:=by
 unfold binP at h;rw[xad,List.all_eq_true] at h;exact h.2 _ (zaf hi)
theorem zlf {n:Nat}{p:Pat} (h:binP (n+1) p=true) (h5:p.op=5):p.kids.length=2:=by
 unfold binP at h;rw[xad] at h;exact(xas h.1) h5
theorem zqF:∀(n:Nat){p:Pat},binP n p=true->binP (n+1) p=true
 |0,p,h=>by simp[binP] at h
 |n+1,p,h=>by
  have h':=h;unfold binP at h ⊢;rw[xad,List.all_eq_true] at h ⊢;exact⟨h.1,fun k hk=>zqF n (h.2 k hk)⟩
theorem zin {w:List Data}:∀(n:Nat){t:Ty}{p:Pat},zat w n t p=true->binP n (zaS p)=true
 |0,t,p,h=>by simp[zat] at h
 |n+1,t,p,h=>by
  obtain⟨ho,hlen⟩:=zbR h;have hany:binP (n+1) anyQ=true:=by simp[binP,anyQ,Pat.op,Pat.kids]
  rw[zhB];by_cases h2:p.op=2
  ·rw[if_pos h2];exact hany
  rw[if_neg h2];by_cases h6:p.op=6
  ·obtain⟨hl,s0⟩:=zkS h h6;rw[if_pos ⟨h6,fun e=>by rw[e] at hl;simp at hl⟩];exact zqF n (zin n s0)
  rw[if_neg (fun h=>h6 h.1)];unfold binP;rw[xad,List.all_eq_true];refine⟨xax (fun h5=>?_),fun k hk=>?_⟩
  ·have:=(zkT h h5).1;simpa [Pat.kids] using this
  ·simp only[Pat.kids,List.mem_map] at hk;obtain⟨x,hx,rfl⟩:=hk;obtain⟨i,hi,rfl⟩:=List.getElem_of_mem hx;have:=zin n (zbC h hi);have e:nth p.kids i=p.kids[i]:=zaJ hi;rw[e] at this;exact this
theorem zgO (out:List (List Pat)) (l:List Pat):(zbp out l).length=out.length*l.length:=by
 unfold zbp;induction out with
 |nil=>simp
 |cons q r ih=>rw[List.flatMap_cons,xaa,ih,xac,xab,Nat.succ_mul];omega
theorem ztF (ls:List (List Pat)) (l:List Pat):zfq (ls++[l])=zbp (zfq ls) l:=by unfold zfq;rw[List.foldl_append];rfl
theorem zwZ {a b:Nat}:cap (cap (a:Int)*cap (b:Int))=cap ((a*b:Nat):Int):=by
 unfold cap;rcases Nat.eq_zero_or_pos a with rfl|ha
 ·simp
 rcases Nat.eq_zero_or_pos b with rfl|hb
 ·simp
 have h1:a<=a*b:=Nat.le_mul_of_pos_right a hb;have h2:b<=a*b:=Nat.le_mul_of_pos_left b ha;have hab:((a*b:Nat):Int)=(a:Int)*(b:Int):=by push_cast;rfl
 by_cases ca:401<(a:Int)
 ·rw[if_pos ca];by_cases cb:401<(b:Int)
  ·rw[if_pos cb,if_pos od,if_pos od]
  ·rw[if_neg cb];have h3:(401:Int)*1<=401*(b:Int):=Int.mul_le_mul_of_nonneg_left od od;rw[if_pos (show 401<((a*b:Nat):Int) by omega)];split<;>omega
 ·rw[if_neg ca];by_cases cb:401<(b:Int)
  ·rw[if_pos cb];have h3:(1:Int)*401<=(a:Int)*401:=Int.mul_le_mul_of_nonneg_right od od;rw[if_pos (show 401<((a*b:Nat):Int) by omega)];split<;>omega
  ·rw[if_neg cb,hab]
theorem zwX {a b:Nat}:cap (cap (a:Int)+cap (b:Int))=cap ((a+b:Nat):Int):=by
 unfold cap;push_cast
 split<;>split<;>split<;>(try split)<;>omega
theorem zwY {x:Int}:cap (cap x)=cap x:=by unfold cap;split<;>(try split)<;>omega
theorem zsL:∀(l:List Pat) (out:List (List Pat)),(∀k∈l,cntS k=cap ((zaG k).length:Int)/\0<(zaG k).length)->cntM l (cap (out.length:Int))=cap (((l.map zaG).foldl zbp out).length:Int)/\(0<out.length->0<((l.map zaG).foldl zbp out).length)
 | [],out,_=>⟨rfl,fun h=>h⟩
 |k::r,out,h=>by
  have hk:=h k oi;unfold cntM;rw[hk.1,zwZ];have:=zsL r (zbp out (zaG k)) (fun x hx=>h x (by simp[hx]));rw[zgO] at this;rw[xaf,List.foldl_cons];exact⟨this.1,fun ho=>this.2 (Nat.mul_pos ho hk.2)⟩
theorem zm9:∀(n:Nat){p:Pat},binP n p=true->cntS p=cap ((zaG p).length:Int)/\0<(zaG p).length
 |0,p,h=>by simp[binP] at h
 |n+1,p,h=>by
  have ih:=fun i (hi:i<p.kids.length)=>zm9 n (zeX h hi);rw[zow];by_cases h5:p.op=5
  ·have hl:=zlf h h5;rw[if_pos h5,zh2 h5 hl,xaa];have k0:=ih 0 od;have k1:=ih 1 od;have e:p.kids=[nth p.kids 0,nth p.kids 1]:=by
    match hk:p.kids,hl with
    | [a,b],_=>rfl
   refine⟨?_,by omega⟩;rw[e];simp only[cntO];rw[Int.zero_add,k0.1,zwY,k1.1];show cap (cap ((zaG (nth p.kids 0)).length:Int)+cap ((zaG (nth p.kids 1)).length:Int))=_
   rw[zwX];rfl
  ·rw[if_neg h5,zfw h5,xac];have:=zsL p.kids [[]] (fun k hk=>by
    obtain⟨i,hi,rfl⟩:=List.getElem_of_mem hk;have:=ih i hi;simpa [nth,List.getD,hi] using this)
   exact⟨this.1,this.2 oi⟩
theorem zhI:∀(ls:List (List Pat)) (out:List (List Pat)),(∀l∈ls,0<l.length)->out.length<=(ls.foldl zbp out).length
 | [],out,_=>Nat.le_refl _
 |l::r,out,h=>by
  rw[List.foldl_cons];have h1:=zhI r (zbp out l) (fun x hx=>h x (by simp[hx]));rw[zgO] at h1;have h2:out.length<=out.length*l.length:=Nat.le_mul_of_pos_right _ (h l oi);omega
theorem zjY:∀(ls:List (List Pat)) (out:List (List Pat)),(∀l∈ls,0<l.length)->0<out.length->∀l∈ls,l.length<=(ls.foldl zbp out).length
 | [],out,_,_,l,hl=>by simp at hl
 |x::r,out,h,ho,l,hl=>by
  rw[List.foldl_cons];have hx:=h x oi;have hp:0<(zbp out x).length:=by rw[zgO];exact Nat.mul_pos ho hx
  rcases List.mem_cons.1 hl with rfl|hl
  ·have h1:=zhI r (zbp out l) (fun y hy=>h y (by simp[hy]));rw[zgO] at h1;have h2:l.length<=out.length*l.length:=Nat.le_mul_of_pos_left _ ho;omega
  ·exact zjY r (zbp out x) (fun y hy=>h y (by simp[hy])) hp l hl
theorem zit {n:Nat}{p:Pat} (h:binP (n+1) p=true){i:Nat} (hi:i<p.kids.length):(zaG (nth p.kids i)).length<=(zaG p).length:=by
 by_cases h5:p.op=5
 ·have hl:=zlf h h5;rw[zh2 h5 hl,xaa];have:i=0\/i=1:=by omega
  rcases this with rfl|rfl<;>omega
 ·rw[zfw h5,xac];refine zjY _ [[]] (fun l hl=>?_) oi _ (List.mem_map.2 ⟨_,zaf hi,Z⟩);obtain⟨k,hk,rfl⟩:=List.mem_map.1 hl;obtain⟨j,hj,rfl⟩:=List.getElem_of_mem hk;have:=(zm9 n (zeX h hj)).2;simpa [nth,List.getD,hj] using this
theorem zsB {n:Nat}{p:Pat} (h:binP (n+1) p=true) (h5:p.op≠5) (i:Nat):(zfq ((p.kids.take i).map zaG)).length<=(zaG p).length:=by
 rw[zfw h5,xac];have e:p.kids.map zaG=(p.kids.take i).map zaG++(p.kids.drop i).map zaG:=by rw[<-xag,List.take_append_drop]
 unfold zfq;rw[e,List.foldl_append];refine zhI _ _ (fun l hl=>?_);obtain⟨k,hk,rfl⟩:=List.mem_map.1 hl;obtain⟨j,hj,rfl⟩:=List.getElem_of_mem (List.mem_of_mem_drop hk);have:=(zm9 n (zeX h hj)).2;simpa [nth,List.getD,hj] using this
def zao (w:List Data):Nat->Ty->Pat->Bool
 |0,_,_=>false
 |n+1,t,p=>(ownP w t p&&decide (p.op=1\/p.op=3\/p.op=4))&&all2 (zao w n) (zai w t p) p.kids
theorem zl3 {α β:Type}{f g:α->β->Bool}:∀ {a:List α}{b:List β},(∀x∈a,∀y∈b,f x y=true->g x y=true)->all2 f a b=true->all2 g a b=true
 | [],[],_,_=>rfl
 |x::r,y::s,h,h2=>by
  simp only[all2,xad] at h2 ⊢;exact⟨h x oi y oi h2.1,zl3 (fun a ha b hb=>h a (by simp[ha]) b (by simp[hb])) h2.2⟩
 | [],_::_,_,h2=>by simp[all2] at h2
 |_::_,[],_,h2=>by simp[all2] at h2
theorem zhe {w:List Data}:∀(n:Nat){t:Ty}{p:Pat},zao w n t p=true->zat w n t p=true
 |0,t,p,h=>by simp[zao] at h
 |n+1,t,p,h=>by
  unfold zao at h;unfold zat;simp only[xad] at h ⊢;exact⟨h.1.1,zl3 (fun x _ y _ hh=>zhe n hh) h.2⟩
theorem zgK {w:List Data}:∀(n:Nat){t:Ty}{p:Pat},zao w n t p=true->zao w (n+1) t p=true
 |0,t,p,h=>by simp[zao] at h
 |n+1,t,p,h=>by
  unfold zao at h ⊢;simp only[xad] at h ⊢;exact⟨h.1,zl3 (fun x _ y _ hh=>zgK n hh) h.2⟩
theorem zcm {w:List Data}{n:Nat}{t:Ty}{p:Pat} (h:zao w n t p=true):p.op=1\/p.op=3\/p.op=4:=by
 cases n with
 |zero=>simp[zao] at h
 |succ n=>unfold zao at h;simp only[xad] at h;exact xas h.1.2
theorem zhS {w:List Data}{n:Nat}{t:Ty}{p:Pat} (h:zao w n t p=true):ownP w t p=true/\p.kids.length=(zai w t p).length:=by
 cases n with
 |zero=>simp[zao] at h
 |succ n=>exact zbR (zhe _ h)
theorem zbt {w:List Data}{n:Nat}{t:Ty}{p:Pat} (h:zao w (n+1) t p=true){i:Nat} (hi:i<p.kids.length):zao w n (nth (zai w t p) i) (nth p.kids i)=true:=by
 have hl:=(zhS h).2;unfold zao at h;simp only[xad] at h;exact zvC hl.symm h.2 i od
theorem zxj {w:List Data}{t:Ty}{p:Pat}{l:List Pat}:ownP w t (.mk p.op p.ctor p.n p.m p.var l)=ownP w t p:=rfl
theorem zvr {w:List Data}{t:Ty}{p:Pat}{l:List Pat}:zai w t (.mk p.op p.ctor p.n p.m p.var l)=zai w t p:=rfl
theorem zkK:∀(ls:List (List Pat)) (out:List (List Pat)) (l:List Pat),l∈ls.foldl zbp out->∃q∈out,∃r:List Pat,l=q++r/\r.length=ls.length/\∀i,i<ls.length->nth r i∈nth ls i
 | [],out,l,h=>⟨l,h,[],by simp,rfl,fun i hi=>by simp at hi⟩
 |x::rs,out,l,h=>by
  rw[List.foldl_cons] at h;obtain⟨q,hq,r,e,hl,hm⟩:=zkK rs (zbp out x) l h;unfold zbp at hq;simp only[List.mem_flatMap,List.mem_map] at hq;obtain⟨q0,hq0,c,hc,rfl⟩:=hq;refine⟨q0,hq0,c::r,by rw[e];simp,by simp[hl],fun i hi=>?_⟩;cases i with
  |zero=>exact hc
  |succ i=>exact hm i (by simpa using hi)
theorem zkf {w:List Data}{n:Nat}{t:Ty}:zao w (n+1) t anyQ=true:=by
 unfold zao;have h1:zai w t anyQ=[]:=by unfold zai;rw[if_neg om,if_neg om,if_neg om]
 rw[h1];have h2:ownP w t anyQ=true:=by unfold ownP;exact xax (by simp[anyQ,Pat.op,Pat.var,Pat.n,Pat.m,Pat.ctor])
 rw[h2];rfl
theorem zte:zaG anyQ=[anyQ]:=by
 rw[zfw om];rfl
theorem ztK {w:List Data}{n:Nat}{t:Ty}{p:Pat} (h:zat w (n+1) t p=true) (h4:p.op≠4) (h5:p.op≠5) (h6:p.op≠6):p.kids=[]:=by
 have hl:=(zbR h).2;unfold zai at hl;rw[if_neg h4,if_neg h5,if_neg h6] at hl;exact List.eq_nil_of_length_eq_zero hl
theorem zhT {w:List Data}:∀(n:Nat){t:Ty}{p:Pat},zat w n t p=true->∀x∈zaG (zaS p),zao w n t x=true
 |0,t,p,h=>by simp[zat] at h
 |n+1,t,p,h=>by
  obtain⟨ho,hlen⟩:=zbR h;have hop:=zv9 h;intro x hx;rw[zhB] at hx;by_cases h2:p.op=2
  ·rw[if_pos h2,zte,List.mem_singleton] at hx;rw[hx];exact zkf
  rw[if_neg h2] at hx;by_cases h6:p.op=6
  ·obtain⟨hl,s0⟩:=zkS h h6;rw[if_pos ⟨h6,fun e=>by rw[e] at hl;simp at hl⟩] at hx;exact zgK n (zhT n s0 x hx)
  rw[if_neg (fun h=>h6 h.1)] at hx;by_cases h5:p.op=5
  ·obtain⟨hl,s0,s1⟩:=zkT h h5;have hl2:(p.kids.map zaS).length=2:=by rw[xac];exact hl
   rw[zh2 (p:= .mk p.op p.ctor p.n p.m p.var (p.kids.map zaS)) h5 hl2] at hx;have e0:nth (p.kids.map zaS) 0=zaS (nth p.kids 0):=by
    match hk:p.kids,hl with
    | [a,b],_=>rfl
   have e1:nth (p.kids.map zaS) 1=zaS (nth p.kids 1):=by
    match hk:p.kids,hl with
    | [a,b],_=>rfl
   simp only[ze2] at hx;rw[e0,e1] at hx;rcases List.mem_append.1 hx with hx|hx
   ·exact zgK n (zhT n s0 x hx)
   ·exact zgK n (zhT n s1 x hx)
  rw[zfw (p:= .mk p.op p.ctor p.n p.m p.var (p.kids.map zaS)) h5] at hx;simp only[ze2,zlr,zi5,mk_n,mk_m,zkE,List.mem_map] at hx;obtain⟨l,hl,rfl⟩:=hx;obtain⟨q,hq,r,e,hlr,hm⟩:=zkK _ _ _ hl;rw[List.mem_singleton] at hq;rw[hq,List.nil_append] at e;subst e;simp only[List.map_map,xac] at hlr hm;unfold zao;rw[zxj,zvr,ho,xax (show _\/_\/_ from by rw[zlr];omega),Bool.true_and,Bool.true_and];refine zci (by rw[ze2];omega) (fun i hi=>?_);have hm':=hm i od;have e2:nth (p.kids.map (zaG ∘ zaS)) i=zaG (zaS (nth p.kids i)):=by
   rw[zaJ ot];simp[nth,List.getD,show i<p.kids.length by omega]
  rw[e2] at hm';exact zhT n (zbC h od) _ hm'
theorem xa7:∀ {l:List Pat},(∀k∈l,k.ok)->Pats.ok l
 | [],_=>trivial
 |k::r,h=>⟨h k oi,xa7 (fun x hx=>h x (by simp[hx]))⟩
theorem xa9 {m:Nat}:∀ {l:List Pat},(∀k∈l,k.size<=m)->Pats.size l<=l.length*m
 | [],_=>by simp[Pats.size]
 |k::r,h=>by
  have h1:=h k oi;have h2:=xa9 (l:=r) (fun x hx=>h x (by simp[hx]));simp only[Pats.size,xab,Nat.succ_mul];omega
mutual
theorem zle:∀p:Pat,p.ok->(zaS p).ok
 | .mk op c n m v ks,h=>by
  unfold zaS;split
  ·exact⟨by simp,trivial⟩
  ·split
   ·exact zvP ks h.2
   ·exact⟨by rw[zl5,xac];exact h.1,zqE ks h.2⟩
theorem zvP:∀l:List Pat,Pats.ok l->(zlm l).ok
 | [],_=>⟨by simp,trivial⟩
 |k::r,h=>zle k h.1
theorem zqE:∀l:List Pat,Pats.ok l->Pats.ok (zh8 l)
 | [],_=>trivial
 |k::r,h=>⟨zle k h.1,zqE r h.2⟩
end
mutual
theorem zo8:∀p:Pat,(zaS p).size<=p.size
 | .mk op c n m v ks=>by
  unfold zaS;split
  ·simp[anyQ,Pat.size,Pats.size]
  ·split
   ·have:=ztw ks;simp only[Pat.size];omega
   ·have:=zmN ks;simp only[Pat.size];omega
theorem ztw:∀l:List Pat,(zlm l).size<=1+Pats.size l
 | []=>by simp[zlm,anyQ,Pat.size,Pats.size]
 |k::r=>by have:=zo8 k;simp only[zlm,Pats.size];omega
theorem zmN:∀l:List Pat,Pats.size (zh8 l)<=Pats.size l
 | []=>Nat.le_refl _
 |k::r=>by have:=zo8 k;have:=zmN r;simp only[zh8,Pats.size];omega
end
section
variable {c:Ctx}{all:Array Oper}{chk:List Rec->Prop}{os:List Oper}{recs:List Rec}{env:Env}{hp:Hp}{Q:St->Prop}
variable {ty:Nat}{pos:String}{af:Array Edge}{g:Option (Nat×Bool)}{pg:List (Nat×AV)}{t:TypeId}{x:Operand}
theorem Walk.clearB {id off n k e yb:Nat}{cs cs' zs:List AV} (ht:SlT c.P t e k yb) (hz:TyZ c.P e k zs) (hzk:zs.length=k) (hk:0<k) (h1:zgD zs=true) (hg:GH all env g pg) (hx:opd env x=some (.mo id off n))
  (hb:getH hp id=some (.box cs)) (hput:putC cs off (zbd n zs)=some cs')
  (hn:Walk c all chk os (zap (pg++opF x (.mo id off n)) [(id,.box cs)] [] ⟨none,[(id,some (.box cs'))]⟩::recs) ⟨env,(id,some (.box cs'))::hp⟩ Q):
  Walk c all chk (⟨none,.call ⟨.builtin .clear,#[x],#[t]⟩,ty,pos,af,g⟩::os) recs ⟨env,hp⟩ Q:=by
 refine⟨pg++opF x (.mo id off n),[(id,.box cs)],[],_, ?_,zav hg.facts (za4 hx),hh1 hb,by simp,hn⟩;intro s a w hrel hp' hh _ K Q' hK;obtain⟨G,hr⟩:=hrel;have hbx:=hh1' hh;have e1:=hr.opd (za5 hx (fun p hm=>hp' p (by simp[hm])));obtain⟨bl,o,cap,hl,he,hcap,ho⟩:=e1.mo_eq;obtain⟨b',us,et,h2,h3,h4,h5,h6⟩:=hr.heap id _ hbx;obtain rfl:=zcD hl.1 h2;have hall:PreR G (tokf s.hp) w cs us:=⟨h4,h6⟩;unfold wpO;rw[if_pos (hg.gf.wanted hr (fun p hm=>hp' p (by simp[hm])))];unfold Oper.wp;rcases Nat.eq_zero_or_pos n with hn0|hn0
 ·subst hn0;have hcs:cs'=cs:=by
   simp only[zbd] at hput;cases cs<;>simp only[putC,xae] at hput<;>exact hput.symm
  subst hcs;have hrun:(execOp a.eval ⟨none,.call ⟨.builtin .clear,#[x],#[t]⟩,ty,pos,af,g⟩).run c.P w = .ok (.value (.tuple #[])) w:=by
   simp[execOp,resolve,invoke,builtin,he,Builtin.clear_,run_underlying ht.und]
  rw[hrun,Oper.upon_value];refine hK _ _ ⟨G, ?_⟩;have hsame:∀i,getH ((id,some (Res.box cs'))::s.hp) i=getH s.hp i:=fun i=>by
   rw[zal];split
   ·rename_i e;subst e;exact hbx.symm
   ·rfl
  have htk:tokf ((id,some (Res.box cs'))::s.hp)=tokf s.hp:=by funext i;unfold tokf;rw[hsame]
  have:R c G ⟨s.env,(id,some (Res.box cs'))::s.hp⟩ a w:=
   ⟨hr.size,hr.defers,fun i v h=>by rw[htk];exact hr.slots i v h,fun i r h=>by rw[htk];exact hr.heap i r (by rw[<-hsame];exact h),
   fun i j h1 h2=>hr.disj i j (by rw[<-hsame];exact h1) (by rw[<-hsame];exact h2),fun i h=>hr.new i (by rw[<-hsame];exact h),hr.frm,hr.top,
   fun i l h'=>by
    show(G.loc i).head?=l.head?/\(getH ((id,some (Res.box cs'))::s.hp) i).isSome/\tokf ((id,some (Res.box cs'))::s.hp) i=none
    rw[hsame,htk];exact hr.kept i l h'⟩
  exact this.putNone
 ·obtain rfl:o=off:=ho.resolve_left od;obtain⟨ie,z,z1,z2,z3,z4⟩:=hz.inf;have hz0:=zcf (G:=G) (T:=tokf s.hp) (w:=w) z4;have hzr:=zfI (by simpa using hz0) n od;have hzs:z.cells.size=k:=by have:=hz0.size;simp at this;omega
  let vl:List Value:=(Builtin.zeroCells z.cells n).toList
  have hvl:vl.toArray=(Array.range (n*zs.length)).map (z.cells[· % z.cells.size]!):=by
   simp only[vl,Builtin.zeroCells,Array.toArray_toList];rw[hzs,hzk]
  have hvr:AllR G (tokf s.hp) w (zbd n zs) vl.toArray:=by rw[hvl];exact hzr
  have hne:zbd n zs≠[]:=fun h=>by
   have:=xam List.length h;rw[zfa] at this;have h2:0<n*zs.length:=Nat.mul_pos hn0 od;simp only[xak] at this;omega
  obtain⟨p1,p2,p3⟩:=zdi hput;have p2':=p2.resolve_left hne;have hsz:=hvr.size;have hsv:vl.toArray.size=vl.length:=by simp only[List.size_toArray]
  simp only[List.size_toArray] at hsz;have hzone:∀i (hi:i<zs.length) (hv:i<z.cells.size),z.cells[i].oneCell'=true:=fun i hi hv=>by
   have:=hz0.rel i hi (by simpa using hv);simp only[List.getElem_toArray,Array.getElem_toList] at this;exact this.one (zg4 h1 _ (xao hi))
  have hst:=run_storeCells_at c.P bl o et vl 0 us w h3 od (fun u hu=>by
   simp only[vl,Builtin.zeroCells,Array.toList_map,List.mem_map] at hu;obtain⟨i,_,rfl⟩:=hu;have hm:i % z.cells.size<z.cells.size:=Nat.mod_lt _ od;rw[getElem!_pos z.cells _ hm];exact hzone _ od hm)
  simp only[Nat.add_zero] at hst;have hrow:PreR G (tokf s.hp) w cs' (us.toList.take o++vl++us.toList.drop (o+vl.length)).toArray:=by
   refine hall.put hvr hput ?_ (fun i=>?_)
   ·simp only[List.size_toArray,xaa,List.length_take,List.length_drop,Array.length_toList];omega
   ·simp only[List.getElem?_toArray];rw[xar,List.getElem?_append];simp only[List.length_take,Array.length_toList];by_cases hi:i<o
    ·rw[if_pos od,if_neg od];simp[hi]
    ·rw[if_neg od,List.getElem?_append];have hm:min o us.size=o:=by omega
     rw[hm];by_cases hi2:i<o+vl.length
     ·rw[if_pos od,if_pos od]
     ·rw[if_neg od,if_neg od];rw[List.getElem?_drop,show o+vl.length+(i-o-vl.length)=i by omega];simp
  have hrun:(execOp a.eval ⟨none,.call ⟨.builtin .clear,#[x],#[t]⟩,ty,pos,af,g⟩).run c.P w = .ok (.value (.tuple #[])) (w.setRow bl (us.toList.take o++vl++us.toList.drop (o+vl.length)).toArray):=by
   obtain⟨m,rfl⟩:∃m,n=m+1:=⟨n-1,by omega⟩;have hzv:(zeroValue e).run c.P w = .ok z w:=zmt z1 z3;simp only[vl] at hst;simp[execOp,resolve,invoke,builtin,he,Builtin.clear_,run_underlying ht.und,hzv,hst,vl]
  rw[hrun,Oper.upon_value];exact hK _ _ ⟨G,(hr.setBox hbx h2 h3 h5 hrow).putNone⟩
end
theorem uc{p:Prop}(h:p:=by rw[List.length_take];omega):p:=h
theorem zw8 {G G':Gh}{T T':TokF}{w:World}{id n k b:Nat}{us:Array Value}{e:TypeId}{x:Value}{cs:List AV}{es:List (List D)} (hx:RelA G T w (.ms id n) x) (h1:G.loc id=[b]) (h2:w.heap[b]?=some (.cells us e (0,0))) (h3:cs.length<=us.size)
  (h5:∀i (hi:i<cs.length) (hv:i<us.size),RelA G T w cs[i] us[i]) (hFb:G'.F b=us.size) (hcell:∀y o,o<G.F y->o<G'.F y/\w.cell? ⟨y,o,none⟩=w.cell? ⟨y,o,none⟩) (hc:zbS n k (cs.take (n*k))=some es):RelA G' T' w (.d (.sl es)) x:=by
 obtain⟨c1,c2,c3,c4⟩:=zff hc;have c3':n*k<=cs.length:=by rw[List.length_take] at c3;omega
 obtain⟨b',cap,hl,he,hcap⟩:=hx.ms_eq;obtain rfl:=(zcD hl.1 h1).symm;rw[he];refine .d ?_;have hn':n=es.length:=c1.symm;rw[hn'];refine .sl es k b 0 cap (fun x=>us.getD x undef) c2 od (fun x hx=>?_) (fun i hi j hj=>?_)
 ·have h3':x<cs.length:=by rw[<-c1] at c3';omega
  have hxs:x<us.size:=Nat.lt_of_lt_of_le h3' h3;refine⟨by rw[hFb];omega, ?_⟩;simp[World.cell?,h2,hxs]
 ·have hjk:j<k:=by rw[<-c2 _ (xao hi)];exact hj
  have hltn:i*k+j<n*k:=by
   rw[<-c1];have:(i+1)*k<=es.length*k:=xav _ od;rw[Nat.add_mul] at this;omega
  have hlt:i*k+j<cs.length:=by omega
  have hlu:i*k+j<us.size:=by omega
  have h8:=c4 i hi j hj uc;rw[List.getElem_take] at h8;have h6:=(h5 _ hlt hlu).toD h8;have h7:us.getD (i*k+j) undef=us[i*k+j]:=by simp[Array.getD,hlu]
  rw[h7];exact h6.mono hcell
def zrc (env:Env) (hp:Hp) (j:Nat):Bool:=
 (match getH hp j with|none=>true|some _=>false)&&(env.all fun x=>match getE env x.1 with|some v=> !zaT j v.ids|none=>true)&&(hp.all fun x=>match getH hp x.1 with|some r=> !zaT j r.ids|none=>true)
theorem zrd:∀ {env:Env}{i:Nat}{v:AV},getE env i=some v->∃u,(i,u)∈env
 |(k,x)::r,i,v,h=>by
  simp only[getE] at h;cases hb:Nat.beq k i with
  |true=>obtain rfl:=xap hb;exact⟨x,by simp⟩
  |false=>
   simp only[hb,cond_false] at h;obtain⟨u,hu⟩:=zrd h;exact⟨u,List.mem_cons_of_mem _ hu⟩
theorem zsq {env:Env}{hp:Hp}{j:Nat} (h:zrc env hp j=true):getH hp j=none/\zcW j ⟨env,hp⟩:=by
 simp only[zrc,xad,List.all_eq_true] at h;obtain⟨⟨h1,h2⟩,h3⟩:=h;refine⟨?_,fun i v hv hm=>?_,fun i r hr hm=>?_⟩
 ·cases hg:getH hp j with
  |none=>rfl
  |some x=>simp[hg] at h1
 ·obtain⟨u,hu⟩:=zrd hv;have:=h2 _ hu;rw[show getE env (i,u).1=some v from hv] at this;change (!zaT j v.ids)=true at this
  rw[zaM.2 hm] at this;cases this
 ·obtain⟨u,hu⟩:=zjx hr;have:=h3 _ hu;rw[show getH hp (i,u).1=some r from hr] at this;change (!zaT j r.ids)=true at this
  rw[zaM.2 hm] at this;cases this
theorem CWp.tokDrop {c:Ctx}{env:Env}{hp:Hp}{K:Kt}{code:Code} (t i:Nat){n k:Nat}{xs:List (List D)} (ht:getE env t=some (.gl i xs)) (hi:getH hp i=some (.tok n k))
  (hn:CWp c code ⟨(t,.d (.sl xs))::env,(i,none)::hp⟩ K):CWp c code ⟨env,hp⟩ K:=by
 rintro a w ⟨G,hr⟩
 have g1:∀x,x≠i->getH ((i,none)::hp) x=getH hp x:=fun x h1=>by rw[zal,if_neg h1]
 have gi:getH ((i,none)::hp) i=none:=by rw[zal,if_pos rfl]
 have Ti:tokf hp i=some (n,k):=zar.2 hi;have Ti':tokf ((i,none)::hp) i=none:=by unfold tokf;rw[gi]
 have hT:Turn c G ⟨env,hp⟩ w G ((i,none)::hp) [i]:=by
  refine⟨fun x hx=>?_,fun x hx=>rfl,fun b _=>rfl,fun b o ho=>ho,hr.top,fun x hx=>?_,fun x hx hs b hb=>?_,fun x hx y hy hxy h1 h2 b hb=>?_,fun x hx l hl=>?_⟩
  ·simp only[List.mem_cons,xau,or_false] at hx;exact g1 x hx
  ·simp only[List.mem_cons,xau,or_false] at hx;subst hx;exact .inr ⟨.inl Z,fun p hp'=>by rw[Ti'] at hp';cases hp'⟩
  ·simp only[List.mem_cons,xau,or_false] at hx;subst hx;rw[gi] at hs;cases hs
  ·simp only[List.mem_cons,xau,or_false] at hx hy;exact absurd (hx.trans hy.symm) hxy
  ·have hk:=hr.kept x l hl;simp only[List.mem_cons,xau,or_false] at hx;subst hx;have:=hk.2.2;rw[show tokf (St.mk env hp).hp x=some (n,k) from Ti] at this;cases this
 have hR:=hT.fin hr (fun x hx r hxr=>by
  simp only[List.mem_cons,xau,or_false] at hx;subst hx;rw[gi] at hxr;cases hxr)
 refine hn a w ⟨G,hR.slot ?_⟩;have hs:=hr.slots t _ ht;cases hs with
 |gl h h2=>exact .d h
theorem R.tokMove {c:Ctx}{G:Gh}{s:St}{a:Act}{w:World} (hr:R c G s a w) (i j:Nat){n k:Nat} (m:Nat) (hi:getH s.hp i=some (.tok n k)) (h0:getH s.hp j=none) (hocc:zcW j s):
  ∃G':Gh,R c G' ⟨s.env,(j,some (.tok m k))::(i,none)::s.hp⟩ a w/\G'.F=G.F/\G'.loc j=G.loc i/\tokf ((j,some (Res.tok m k))::(i,none)::s.hp) j=some (m,k):=by
 have hji:j≠i:=fun e=>by subst e;rw[h0] at hi;cases hi
 have g1:∀x,x≠j->x≠i->getH ((j,some (Res.tok m k))::(i,none)::s.hp) x=getH s.hp x:=fun x h1 h2=>by
  rw[zal,if_neg h1,zal,if_neg h2]
 have gj:getH ((j,some (Res.tok m k))::(i,none)::s.hp) j=some (.tok m k):=by rw[zal,if_pos rfl]
 have gi:getH ((j,some (Res.tok m k))::(i,none)::s.hp) i=none:=by rw[zal,if_neg (fun e=>hji e.symm),zal,if_pos rfl]
 have Ti:tokf s.hp i=some (n,k):=zar.2 hi;have Tj:tokf ((j,some (Res.tok m k))::(i,none)::s.hp) j=some (m,k):=zar.2 gj;have Ti':tokf ((j,some (Res.tok m k))::(i,none)::s.hp) i=none:=by unfold tokf;rw[gi]
 let G':Gh:={ G with loc:=fun x=>bif Nat.beq x j then G.loc i else G.loc x }
 have lj:G'.loc j=G.loc i:=by simp[G']
 have lo:∀x,x≠j->G'.loc x=G.loc x:=fun x h=>by simp[G',zeB h]
 have hsi:(getH s.hp i).isSome:=by rw[hi];rfl
 have hT:Turn c G s w G' ((j,some (Res.tok m k))::(i,none)::s.hp) [i,j]:=by
  refine⟨fun x hx=>?_,fun x hx=>?_,fun b _=>rfl,fun b o ho=>ho,hr.top,fun x hx=>?_,fun x hx hs b hb=>?_,fun x hx y hy hxy h1 h2 b hb=>?_,fun x hx l hl=>?_⟩
  ·simp only[List.mem_cons,xau,or_false,not_or] at hx;exact g1 x hx.2 hx.1
  ·simp only[List.mem_cons,xau,or_false,not_or] at hx;exact lo x hx.2
  ·simp only[List.mem_cons,xau,or_false] at hx;rcases hx with rfl|rfl
   ·exact .inr ⟨.inl (lo _ (fun e=>hji e.symm)),fun p hp'=>by rw[Ti'] at hp';cases hp'⟩
   ·exact .inl hocc
  ·simp only[List.mem_cons,xau,or_false] at hx;rcases hx with rfl|rfl
   ·rw[gi] at hs;cases hs
   ·exact⟨i,by simp,hsi,by rw[lj] at hb;exact hb⟩
  ·simp only[List.mem_cons,xau,or_false] at hx hy;rcases hx with rfl|rfl
   ·rw[gi] at h1;cases h1
   ·rcases hy with rfl|rfl
    ·rw[gi] at h2;cases h2
    ·exact absurd Z hxy
  ·have hk:=hr.kept x l hl;simp only[List.mem_cons,xau,or_false] at hx;rcases hx with rfl|rfl
   ·have:=hk.2.2;rw[Ti] at this;cases this
   ·have:=hk.2.1;rw[h0] at this;cases this
 have hR:=hT.fin hr (fun x hx r hxr=>by
  simp only[List.mem_cons,xau,or_false] at hx;rcases hx with rfl|rfl
  ·rw[gi] at hxr;cases hxr
  ·rw[gj] at hxr;cases hxr;intro b hb;rw[lj] at hb;exact hr.heap i _ hi b hb)
 exact⟨G',hR,rfl,lj,Tj⟩
theorem CWp.tokRen {c:Ctx}{env:Env}{hp:Hp}{K:Kt}{code:Code} (t i j:Nat){n k:Nat}{xs:List (List D)} (ht:getE env t=some (.gl i xs)) (hi:getH hp i=some (.tok n k)) (hf:zrc env hp j=true)
  (hn:CWp c code ⟨(t,.gl j xs)::env,(j,some (.tok n k))::(i,none)::hp⟩ K):CWp c code ⟨env,hp⟩ K:=by
 rintro a w ⟨G,hr⟩
 obtain⟨h0,hocc⟩:=zsq hf;have Ti:tokf hp i=some (n,k):=zar.2 hi;obtain⟨G',hR,hF,lj,Tj⟩:=hr.tokMove i j n hi h0 hocc;refine hn a w ⟨G',hR.slot ?_⟩;have hs:=hr.slots t _ ht;cases hs with
 |gl h h2=>
  refine .gl (by rw[hF];exact h) (fun n' k' hT'=>?_);have hT2:tokf ((j,some (Res.tok n k))::(i,none)::hp) j=some (n',k'):=hT';rw[Tj] at hT2;cases hT2
  obtain⟨q1,q2⟩:=h2 n k Ti;refine⟨q1,fun hn'=>⟨(q2 hn').1, ?_⟩⟩;have:=(q2 hn').2;unfold Tip at this ⊢;rw[lj,hF];exact this
section
variable {c:Ctx}{all:Array Oper}{chk:List Rec->Prop}{os:List Oper}{recs:List Rec}{env:Env}{hp:Hp}{Q:St->Prop}
variable {d ty:Nat}{pos:String}{af:Array Edge}{g:Option (Nat×Bool)}{pg:List (Nat×AV)}{t:TypeId}{x:Operand}
theorem xbC {id e k yb:Nat} (j:Nat){xs:List (List D)}{o:Operand}{kd:IntKind}{n:Int}{b:Nat} (ht:SlT c.P t e k yb) (hg:GH all env g pg) (hd:Nat.blt d c.n=true)
  (hx:opd env x=some (.gv id xs)) (htok:getH hp id=some (.tok xs.length k)) (ho:opd env o=some (.d (.int kd n))) (hi:n = ↑b) (hb:b<=xs.length) (hpos:0<xs.length) (hf:zam env hp [j]=true)
  (hn:Walk c all chk os (zap (pg++(opF x (.gv id xs)++opF o (.d (.int kd n)))) [(id,.tok xs.length k)] [j] ⟨some (d,.gv j (xs.take b)),[(j,some (.tok b k)),(id,none)]⟩::recs)
   ⟨(d,.gv j (xs.take b))::env,(j,some (.tok b k))::(id,none)::hp⟩ Q):
  Walk c all chk (⟨some d,.slice t x none (some o) none,ty,pos,af,g⟩::os) recs ⟨env,hp⟩ Q:=by
 refine⟨pg++(opF x (.gv id xs)++opF o (.d (.int kd n))),[(id,.tok xs.length k)],[j],_, ?_,zav hg.facts (zav (za4 hx) (za4 ho)),hh1 htok,zbD hf,hn⟩;intro s a w hrel hp' hh hcr K Q' hK;obtain⟨G,hr⟩:=hrel;have e1:=hr.opd (za5 hx (fun p hm=>hp' p (by simp[hm])));have e2:=hr.opd (za5 ho (fun p hm=>hp' p (by simp[hm])));have htk:=hh1' hh;obtain⟨h0,hocc⟩:=hcr j oi;obtain⟨⟨ad,cap0,hv0⟩,hcl⟩:=e1.gv_inv;have Ti:tokf s.hp id=some (xs.length,k):=zar.2 htk;obtain⟨hkx,htip⟩:=(hcl _ _ Ti).2 rfl;rcases htip with ⟨_,q2,_⟩|⟨bl,cap,cs,et,q1,q2,q3,q4,q5,q6,q7⟩
 ·omega
 obtain⟨G',hR,hF,lj,Tj⟩:=hr.tokMove id j b htk h0 hocc;unfold wpO;rw[if_pos (hg.gf.wanted hr (fun p hm=>hp' p (by simp[hm])))];unfold Oper.wp;have hbd:=ze4 (P:=c.P) (w:=w) true xs.length cap (lo:=none) (hi:=some (.int kd b)) (a:=0) (b:=b) (.inl ⟨rfl,rfl⟩) (.inr ⟨kd,rfl⟩) (Nat.zero_le _) od;have hrun:(execOp a.eval ⟨some d,.slice t x none (some o) none,ty,pos,af,g⟩).run c.P w = .ok (.value (.slice (some ⟨bl,0,none⟩) b cap)) w:=by
  simp only[execOp,e2.int_eq,hi,q2,Option.map_none,Option.map_some,Instr.sliceAt,Sem.run_bind,run_underlying ht.und,Result.andThen_ok,Instr.slice,hbd,ht.run_size,Sem.run_pure,Nat.zero_mul,Nat.sub_zero,zcy,Nat.zero_add,ite_self]
 rw[hrun,Oper.upon_value];have hl:(xs.take b).length=b:=by rw[List.length_take];omega
 have hA:RelA G' (tokf ((j,some (Res.tok b k))::(id,none)::s.hp)) w (.gv j (xs.take b)) (.slice (some ⟨bl,0,none⟩) b cap):=by
  refine .gv ⟨some ⟨bl,0,none⟩,cap,by rw[hl]⟩ (fun n' k' hT'=>?_);rw[Tj] at hT';cases hT'
  refine⟨by omega,fun _=>⟨fun y hy=>hkx y (List.mem_of_mem_take hy),.inr ⟨bl,cap,cs,et,by rw[lj];exact q1,Z,by rw[hF];exact q3,q4,q5,by omega,fun i hi' jj hj'=>?_⟩⟩⟩;have hix:i<xs.length:=by rw[hl] at hi';omega
  have h9:=q7 i hix jj (by simpa [List.getElem_take] using hj');rw[hF];simpa [List.getElem_take] using h9
 exact hK _ _ ⟨G',hR.put hA hd⟩
end
theorem FnD.glD {P:Program}{f:FuncId}{i n k:Nat}{args:List AV}{xs:List (List D)} (h:FnD P f args [] (.gl i xs) [(i,some (.tok n k))]):FnD P f args [] (.d (.sl xs)) []:=by
 intro G w vals hok;refine(h G w vals hok).mono ?_;rintro e w' ⟨v,r',hp',G',rfl,⟨rfl,rfl⟩,hret⟩
 refine⟨v,_,_,G',rfl,⟨rfl,rfl⟩, ?_,fun id x hx=>(by cases hx),fun id id' h1=>(by cases h1),fun id h1=>(by cases h1),hret.frm,hret.top,fun id hi=>(by simp[zcp,getH] at hi)⟩;have:=hret.res;cases this with
 |gl h1 h2=>exact .d h1
theorem FnD.gvRen {P:Program}{f:FuncId}{i k:Nat} (j:Nat){args:List AV}{xs:List (List D)} (h:FnD P f args [] (.gv i xs) [(i,some (.tok xs.length k))]):FnD P f args [] (.gv j xs) [(j,some (.tok xs.length k))]:=by
 intro G w vals hok;refine(h G w vals hok).mono ?_;rintro e w' ⟨v,r',hp',G',rfl,⟨rfl,rfl⟩,hret⟩
 have gi:getH ([(i,some (Res.tok xs.length k))]++[]) i=some (.tok xs.length k):=by simp[getH]
 have gj:∀x,(getH ([(j,some (Res.tok xs.length k))]++[]) x).isSome->x=j:=fun x hx=>by
  by_cases e:j=x
  ·exact e.symm
  ·simp[getH,zeB e] at hx
 have Ti:tokf ([(i,some (Res.tok xs.length k))]++[]) i=some (xs.length,k):=zar.2 gi;let G2:Gh:={ G' with loc:=fun x=>G'.loc i }
 refine⟨v,_,_,G2,rfl,⟨rfl,rfl⟩, ?_,fun id x hx=>?_,fun id id' h1 h2 hne=>absurd ((gj id h1).trans (gj id' h2).symm) hne,fun id h1 b hb=>hret.new i (by rw[gi];rfl) b hb,hret.frm,hret.top,fun id hi=>(by simp[zcp,getH] at hi)⟩
 ·have:=hret.res;cases this with
  |gv hv h2=>
   refine .gv hv (fun n' k' hT'=>?_);have hT2:=zar.1 hT';have e1:Res.tok xs.length k=Res.tok n' k':=by simp[getH] at hT2;rw[hT2.1,hT2.2]
   cases e1
   obtain⟨q1,q2⟩:=h2 _ _ Ti;refine⟨q1,fun hn'=>⟨(q2 hn').1, ?_⟩⟩;have:=(q2 hn').2;unfold TipV at this ⊢;exact this
 ·have e1:=gj id (by rw[hx];rfl);subst e1;have e2:x=Res.tok xs.length k:=by simp[getH] at hx;exact hx.symm
  subst e2;intro b hb;exact hret.heap i _ gi b hb
theorem FnD.gvD {P:Program}{f:FuncId}{i k:Nat}{args:List AV}{xs:List (List D)} (h:FnD P f args [] (.gv i xs) [(i,some (.tok xs.length k))]):FnD P f args [] (.d (.sl xs)) []:=by
 intro G w vals hok;refine(h G w vals hok).mono ?_;rintro e w' ⟨v,r',hp',G',rfl,⟨rfl,rfl⟩,hret⟩
 have gi:getH ([(i,some (Res.tok xs.length k))]++[]) i=some (.tok xs.length k):=by simp[getH]
 have Ti:tokf ([(i,some (Res.tok xs.length k))]++[]) i=some (xs.length,k):=zar.2 gi;have hown:∀b,b∉zcQ G []:=fun b hb=>by simp[zcQ] at hb
 have hnew:∀b,b∈G'.loc i->w.heap.size<=b:=fun b hb=>(hret.new i (by rw[gi];rfl) b hb).resolve_left (hown b);have hlt:∀b,b∈G'.loc i->b<w'.heap.size:=hret.heap i _ gi;have hres:=hret.res;obtain⟨hv,hcl⟩:=hres.gv_inv;obtain⟨hkx,htip⟩:=(hcl _ _ Ti).2 rfl;rcases htip with ⟨_,q2,q3⟩|⟨bl,cap,cs,et,q1,q2,q3,q4,q5,q6,q7⟩
 ·have hxs:xs=[]:=List.eq_nil_of_length_eq_zero q2;subst hxs;refine⟨v,_,_,G',rfl,⟨rfl,rfl⟩, ?_,fun id x hx=>(by cases hx),fun id id' h1=>(by cases h1),fun id h1=>(by cases h1),hret.frm,hret.top,fun id hi=>(by simp[zcp,getH] at hi)⟩;rw[q3];exact .d .nil
 ·let G2:Gh:={ G' with F:=fun x=>bif Nat.beq x bl then cs.size else G'.F x }
  have hin:G2.F bl=cs.size:=by simp[G2]
  have hout:∀x,x≠bl->G2.F x=G'.F x:=fun x hx=>by simp[G2,zeB hx]
  have hbl:bl∈G'.loc i:=by rw[q1];simp
  have hle:∀b o,o<G'.F b->o<G2.F b:=fun x o ho=>by
   by_cases hx:x=bl
   ·subst hx;rw[q3] at ho;omega
   ·rw[hout x hx];exact ho
  refine⟨v,_,_,G2,rfl,⟨rfl,rfl⟩, ?_,fun id x hx=>(by cases hx),fun id id' h1=>(by cases h1),fun id h1=>(by cases h1), ?_,fun x hx=>?_,fun id hi=>(by simp[zcp,getH] at hi)⟩
  ·rw[q2];have hsz:xs.length*k<=cs.size:=Nat.le_trans (xav _ q6) q5;refine .d (.sl xs k bl 0 cap (fun n=>cs.getD n undef) hkx q6 (fun q hq=>⟨by rw[hin];omega, ?_⟩) (fun q hq jj hj=>?_))
   ·have:q<cs.size:=by omega
    simp[World.cell?,q4,this]
   ·exact(q7 q hq jj hj).mono (fun b o ho=>⟨hle b o ho,rfl⟩)
  ·have hf:=hret.frm;exact⟨hf.os,hf.tape,hf.output,hf.size,fun x hx hn=>⟨(hf.block x hx hn).1,by
    rw[hout x (fun e=>by subst e;have:=hnew x hbl;omega)];exact(hf.block x hx hn).2⟩,fun x o ho=>⟨hle x o (hf.cell x o ho).1,(hf.cell x o ho).2⟩⟩
  ·by_cases hx':x=bl
   ·subst hx';have:=hlt x hbl;omega
   ·rw[hout x hx'];exact hret.top x hx
theorem Vals.ok_of:∀ {l:List Val},(∀v∈l,v.ok)->Vals.ok l
 | [],_=>trivial
 |v::r,h=>⟨h v oi,Vals.ok_of (fun x hx=>h x (List.mem_cons_of_mem _ hx))⟩
theorem xa1 (l:List Pat):Pat.cs l=l.map Pat.cc:=by
 rw[xa2];exact List.map_congr_left (fun v _=>xaY v)
theorem zcv (l:List Pat):∀x∈Pat.cs l,x.length=6:=Pat.cs_rows
theorem zhw (l:List Pat):∀x∈l.map Pat.cc,x.length=6:=fun x hx=>by
 obtain⟨y,_,rfl⟩:=List.mem_map.1 hx;rfl
theorem zsE {p:Pat} (h:p.op=2):zaS p=anyQ:=by rw[zhB,if_pos h]
theorem zsF {p:Pat} (h:p.op=6) (h2:0<p.kids.length):zaS p=zaS (nth p.kids 0):=by
 rw[zhB,if_neg od,if_pos ⟨h,fun e=>by rw[e] at h2;simp at h2⟩]
theorem zsG {p:Pat} (h:p.op≠2) (h2:¬(p.op=6/\0<p.kids.length)):zaS p = .mk p.op p.ctor p.n p.m p.var (p.kids.map zaS):=by
 rw[zhB,if_neg h,if_neg (fun hh=>h2 ⟨hh.1,List.length_pos_iff.2 hh.2⟩)]
theorem oy{p:Prop}(h:p:=by intro x hx;(simp at hx;subst hx;rfl)):p:=h
theorem zgJ:∀(n:Nat){p:Pat},p.size<=n->p.ok->FnD Tryz.prog 225 [.agg [.d (.i p.op),.d (.i p.ctor),.d (.i p.n),.d (.i p.m),.d (.i p.var),.d (zak p.kids)]] [] (.agg [.d (.i p.op),.d (.i p.ctor),.d (.i p.n),.d (.i p.m),.d (.i p.var),.d (zak p.kids)]) []
 |0,p,h,_=>by rw[xa5] at h;omega
 |n+1,p,h,hok=>by
  rw[xa5] at h;rw[xa4] at hok;have hok1:=hok.1;refine bd Tryz.f225 24 [] [] fun _ _ _ _ hk=>?_;refine bx 3001 ?_;refine ab 3002 tz74 ?_;apply tv;refine so ty72 ?_;apply tv;refine xaE 3001 5 7 6 Z Z Z Z (xaB (ι:=List (Pat)×List (Pat)) hk (fun x=>[(11,.d (.i (x.1.length:Int)))]) [5,12,13,14,15,16,17,18,19,20,21,22] (fun x=>[(3001,some (.box [.d (.i p.op),.d (.i p.ctor),.d (.i p.n),.d (.i p.m),.d (.i p.var),.gl 7 (x.1.map Pat.cc)])),(7,some (.tok (x.1.map Pat.cc).length 6))]) (fun x=>x.1++x.2=p.kids) (fun x=>x.2.length) ([],p.kids) oi ⟨⟨_,Z,xaU ?_⟩,O⟩ ⟨?_,⟨zac ?_,O⟩⟩ (fun x=>rfl) (fun x hg1=>?_));focus (rfl)
  focus (first|rfl|(simp[getH];done))
  focus (rfl)
  obtain⟨pre,rest⟩:=x;dsimp only at hg1 ⊢;refine evc [] [] ?_;apply sq<;>intro h1 h1p h1s<;>(try simp only[Q,xa3] at h1p);rcases rest with _|⟨y,rest⟩
  ·exfalso;simp_all
  refine ixq sl72 Z Z Z (xaZ hg1) Z (ev (ab 3005 tz74 ?_));refine so ty74 ?_;apply tv;refine wc zuh (zgJ n (p:=y) (by have:=xa8 (l:=p.kids) (v:=y) (by rw[<-hg1];simp);omega) (xa6 hok.2 y (by rw[<-hg1];simp))) Z Z ?_;refine si [0] [_] sl72 tz74 ?_;refine ap sl72 zz74 Z Z Z oy (by have:=xam List.length hg1;simp at this;simp;omega) ?_;refine evd [] [] (so ty72 ?_);refine dr (ar (xaj ((pre++[y],rest)) ⟨(by have hz:=hg1;rw[<-hz];simp),oi,sx ⟨⟨_,Z,xaU ?_⟩,O⟩ ⟨?_,⟨zac ?_,O⟩⟩⟩));focus ((simp;done))
  focus (first|rfl|(simp[getH];done))
  focus ((simp;done))
  have hrest:rest=[]:=by
   rcases rest with _|⟨a,b⟩
   ·rfl
   ·exfalso;have hz:=xam List.length (hg1);simp only[xaa,xab,xac] at hz;omega
  subst hrest;refine so ty74 ?_;apply tv;refine rn0 (ra ty74) (.agg (qeeeeeg ?_ ?_ ?_ ?_ ?_ ?_));rotate_left 6;all_goals (first|rfl|(rw[xaq] at hg1;rw[<-hg1,xa1];done))
theorem ov{p:Prop}(h:p:=by intro x hx;simp at hx;subst hx;rfl):p:=h
theorem zj9 {l:List Pat} (h:l.length<=1000000000000) (hok:∀p∈l,p.ok):FnD Tryz.prog 174 [.d (zak l)] [] (.d (zak l)) []:=by
 refine bd Tryz.f174 19 [3] [] fun _ _ _ _ hk=>?_;refine xbr 1 6 .none Z Z ?_;apply tv;refine xaB (ι:=List (Pat)×List (Pat)) hk (fun x=>[(8,.d (.i (x.1.length:Int))),(3,.gl 1 (x.1.map Pat.cc))]) [5,9,10,11,12,13,14,15,16,17] (fun x=>[(1,some (.tok ((x.1.map Pat.cc)).length 6))]) (fun x=>x.1++x.2=l) (fun x=>x.2.length) ([],l) oi ⟨⟨_,Z,xaU ?_⟩,⟨⟨_,Z,LeA.glg ?_⟩,O⟩⟩ ⟨zac ?_,O⟩ (fun x=>rfl) (fun x hg1=>?_);iterate 3 focus (rfl)
 obtain⟨pre,rest⟩:=x;dsimp only at hg1 ⊢;refine evc [3] [] ?_;apply sq<;>intro h1 h1p h1s<;>(try simp only[Q,xa3] at h1p);rcases rest with _|⟨y,rest⟩
 ·exfalso;simp_all
 refine ixq sl72 Z Z Z (xaZ hg1) Z (evs [3] [] (ab 3005 tz74 ?_));refine so ty74 ?_;apply tv;refine wc zuh (zgJ _ (Nat.le_refl _) (hok y (by rw[<-hg1];simp))) Z Z ?_;refine si [0] [_] sl72 tz74 ?_;refine ap sl72 zz74 Z Z Z ov (by have:=xam List.length hg1;simp at this;simp;omega) ?_;refine asg ?_;apply tv;refine ar (xaj ((pre++[y],rest)) ⟨(by have hz:=hg1;rw[<-hz];simp),oi,sx ⟨⟨_,Z,xaU ?_⟩,⟨⟨_,Z,LeA.glg ?_⟩,O⟩⟩ ⟨zac ?_,O⟩⟩);iterate 3 focus ((simp;done))
 have hrest:rest=[]:=by
  rcases rest with _|⟨a,b⟩
  ·rfl
  ·exfalso;have hz:=xam List.length (hg1);simp only[xaa,xab,xac] at hz;omega
 subst hrest;refine rn0 (r1 Z) (.gld ?_);rotate_left;all_goals ((rw[xaq] at hg1;rw[<-hg1,xa1];done))
theorem zeH:FnD Tryz.prog 115 [] [] (.agg [.d (.i 1),.d (.i 0),.d (.i 0),.d (.i 0),.d (.i 0),.d (.sl [])]) []:=by
 refine bd Tryz.f115 2 [] [] fun _ _ _ _ hk=>?_;refine ab 3000 tz74 ?_;apply tv;refine bu [0] [_] st74 ?_;refine so ty74 ?_;apply tv;focus (refine rn0 (ra ty74) (.agg (qeeeeen ?_ ?_ ?_ ?_ ?_ ?_));all_goals (rfl))
theorem zdt:∀(n:Nat){p:Pat},p.size<=n->p.ok->FnD Tryz.prog 213 [.agg [.d (.i p.op),.d (.i p.ctor),.d (.i p.n),.d (.i p.m),.d (.i p.var),.d (zak p.kids)]] [] (.agg [.d (.i (zaS p).op),.d (.i (zaS p).ctor),.d (.i (zaS p).n),.d (.i (zaS p).m),.d (.i (zaS p).var),.d (zak (zaS p).kids)]) []
 |0,p,h,_=>by rw[xa5] at h;omega
 |n+1,p,h,hok=>by
  rw[xa5] at h;rw[xa4] at hok;have hok1:=hok.1;by_cases h2:p.op=2
  ·rw[zsE h2];refine bd Tryz.f213 44 [] [] fun _ _ _ _ hk=>?_;refine bx 3001 ?_;refine ab 3002 tz74 ?_;apply tv;apply sq<;>intro h1 h1p h1s;refine wc zqH zeH Z Z ?_;refine so ty74 ?_;apply tv;refine rn0 (ra ty74) (.agg (qeeeeee ?_ ?_ ?_ ?_ ?_ ?_));rotate_left 6;try simp only[Q] at h1p
   exfalso;omega;all_goals (rfl)
  by_cases h6:p.op=6/\0<p.kids.length
  ·rw[zsF h6.1 h6.2];refine bd Tryz.f213 44 [] [] fun _ _ _ _ hk=>?_;refine bx 3001 ?_;refine ab 3002 tz74 ?_;apply tv;apply sq<;>intro h1 h1p h1s;try simp only[Q,xa3] at h1p
   exfalso;omega;apply sq<;>intro h2 h2p h2s;apply sq<;>intro h3 h3p h3s;refine ixq (i:=0) sl72 Z Z Z (zaE h6.2) Z (ev (wc zkm (zdt n (p:=nth p.kids 0) (by have:=xa8 (zaf h6.2);omega) (xa6 hok.2 _ (zaf h6.2))) Z Z ?_));refine so ty74 ?_;apply tv;refine rn0 (ra ty74) (.agg (qeeeeee ?_ ?_ ?_ ?_ ?_ ?_));rotate_left 6;try simp only[Q,xa3] at h3p
   focus (exfalso;first|omega|(simp_all;done))
   try simp only[Q,xa3] at h2p
   exfalso;omega;all_goals (rfl)
  ·rw[zsG h2 h6];refine bd Tryz.f213 44 [] [] fun _ _ _ _ hk=>?_;refine bx 3001 ?_;refine ab 3002 tz74 ?_;apply tv;apply sq<;>intro h1 h1p h1s;try simp only[Q,xa3] at h1p
   exfalso;omega;apply sq<;>intro h2 h2p h2s;apply sq<;>intro h3 h3p h3s;try simp only[Q,xa3] at h3p
   focus (exfalso;apply h6;first|omega|(simp_all;done))
   refine so ty72 ?_;apply tv;refine xaE 3001 5 7 6 Z Z Z Z (xaB (ι:=List (Pat)×List (Pat)) hk (fun x=>[(31,.d (.i (x.1.length:Int)))]) [5,32,33,34,35,36,37,38,39,40,41,42] (fun x=>[(3001,some (.box [.d (.i p.op),.d (.i p.ctor),.d (.i p.n),.d (.i p.m),.d (.i p.var),.gl 7 ((x.1.map zaS).map Pat.cc)])),(7,some (.tok ((x.1.map zaS).map Pat.cc).length 6))]) (fun x=>x.1++x.2=p.kids) (fun x=>x.2.length) ([],p.kids) oi ⟨⟨_,Z,xaU ?_⟩,O⟩ ⟨?_,⟨zac ?_,O⟩⟩ (fun x=>rfl) (fun x hg1=>?_));focus (rfl)
   focus (first|rfl|(simp[getH];done))
   focus (rfl)
   obtain⟨pre,rest⟩:=x;dsimp only at hg1 ⊢;refine evc [] [] ?_;apply sq<;>intro h4 h4p h4s<;>(try simp only[Q,xa3] at h4p);rcases rest with _|⟨y,rest⟩
   ·exfalso;simp_all
   refine ixq sl72 Z Z Z (xaZ hg1) Z (ev (ab 3005 tz74 ?_));refine so ty74 ?_;apply tv;refine wc zkm (zdt n (p:=y) (by have:=xa8 (l:=p.kids) (v:=y) (by rw[<-hg1];simp);omega) (xa6 hok.2 y (by rw[<-hg1];simp))) Z Z ?_;refine si [0] [_] sl72 tz74 ?_;refine ap sl72 zz74 Z Z Z oy (by have:=xam List.length hg1;simp at this;simp;omega) ?_;refine evd [] [] (so ty72 ?_);refine dr (ar (xaj ((pre++[y],rest)) ⟨(by have hz:=hg1;rw[<-hz];simp),oi,sx ⟨⟨_,Z,xaU ?_⟩,O⟩ ⟨?_,⟨zac ?_,O⟩⟩⟩));focus ((simp;done))
   focus (first|rfl|(simp[getH];done))
   focus ((simp;done))
   have hrest:rest=[]:=by
    rcases rest with _|⟨a,b⟩
    ·rfl
    ·exfalso;have hz:=xam List.length (hg1);simp only[xaa,xab,xac] at hz;omega
   subst hrest;refine so ty74 ?_;apply tv;refine rn0 (ra ty74) (.agg (qeeeeeg ?_ ?_ ?_ ?_ ?_ ?_));rotate_left 6;refine sqF ?_;refine so ty72 ?_;apply tv;refine xaE 3001 5 7 6 Z Z Z Z (xaB (ι:=List (Pat)×List (Pat)) hk (fun x=>[(31,.d (.i (x.1.length:Int)))]) [5,32,33,34,35,36,37,38,39,40,41,42] (fun x=>[(3001,some (.box [.d (.i p.op),.d (.i p.ctor),.d (.i p.n),.d (.i p.m),.d (.i p.var),.gl 7 ((x.1.map zaS).map Pat.cc)])),(7,some (.tok ((x.1.map zaS).map Pat.cc).length 6))]) (fun x=>x.1++x.2=p.kids) (fun x=>x.2.length) ([],p.kids) oi ⟨⟨_,Z,xaU ?_⟩,O⟩ ⟨?_,⟨zac ?_,O⟩⟩ (fun x=>rfl) (fun x hg1=>?_));focus (rfl)
   focus (first|rfl|(simp[getH];done))
   focus (rfl)
   obtain⟨pre,rest⟩:=x;dsimp only at hg1 ⊢;refine evc [] [] ?_;apply sq<;>intro h6 h6p h6s<;>(try simp only[Q,xa3] at h6p);rcases rest with _|⟨y,rest⟩
   ·exfalso;simp_all
   refine ixq sl72 Z Z Z (xaZ hg1) Z (ev (ab 3005 tz74 ?_));refine so ty74 ?_;apply tv;refine wc zkm (zdt n (p:=y) (by have:=xa8 (l:=p.kids) (v:=y) (by rw[<-hg1];simp);omega) (xa6 hok.2 y (by rw[<-hg1];simp))) Z Z ?_;refine si [0] [_] sl72 tz74 ?_;refine ap sl72 zz74 Z Z Z oy (by have:=xam List.length hg1;simp at this;simp;omega) ?_;refine evd [] [] (so ty72 ?_);refine dr (ar (xaj ((pre++[y],rest)) ⟨(by have hz:=hg1;rw[<-hz];simp),oi,sx ⟨⟨_,Z,xaU ?_⟩,O⟩ ⟨?_,⟨zac ?_,O⟩⟩⟩));focus ((simp;done))
   focus (first|rfl|(simp[getH];done))
   focus ((simp;done))
   have hrest:rest=[]:=by
    rcases rest with _|⟨a,b⟩
    ·rfl
    ·exfalso;have hz:=xam List.length (hg1);simp only[xaa,xab,xac] at hz;omega
   subst hrest;refine so ty74 ?_;apply tv;refine rn0 (ra ty74) (.agg (qeeeeeg ?_ ?_ ?_ ?_ ?_ ?_));rotate_left 6;all_goals (first|rfl|(rw[xaq] at hg1;subst hg1;rw[<-xa1];all_goals rfl))
theorem zeI:∀(n:Nat){p:Pat},p.size<=n->p.ok->FnD Tryz.prog 150 [.agg [.d (.i p.op),.d (.i p.ctor),.d (.i p.n),.d (.i p.m),.d (.i p.var),.d (zak p.kids)]] [] (.d (.i (cntS p))) []
 |0,p,h,_=>by rw[xa5] at h;omega
 |n+1,p,h,hok=>by
  rw[xa5] at h;rw[xa4] at hok;have hok1:=hok.1;have hbd:=fun i=>zov (nth p.kids i);by_cases h5:p.op=5
  ·rw[zow,if_pos h5];refine bd Tryz.f150 31 [] [] fun _ _ _ _ hk=>?_;refine bx 3001 ?_;refine ev ?_;apply sq<;>intro h1 h1p h1s;refine xaB (ι:=Nat×Int) hk (fun x=>[(12,.d (.i (x.1:Int))),(3,.d (.i x.2))]) [5,13,14,15,16,17,18,19,20,21,22,23,24,25,26,27,28,29] (fun x=>[]) (fun x=>x.1<=p.kids.length/\cntO (p.kids.drop x.1) x.2=cntO p.kids 0/\0<=x.2/\x.2<=401) (fun x=>p.kids.length-x.1) (0,0) ⟨by simp,Z,by simp,by simp⟩ ⟨⟨_,Z,xaU ?_⟩,⟨⟨_,Z,xaU ?_⟩,O⟩⟩ O (fun x=>rfl) (fun x hg1=>?_);iterate 2 focus (rfl)
   refine evc [] [] ?_;apply sq<;>intro h2 h2p h2s<;>(try simp only[Q,xa3] at h2p);refine ixq sl72 Z Z Z (zaE od) Z ?_;refine ev (ab 3005 tz74 ?_);refine so ty74 ?_;apply tv;apply sq<;>intro h3 h3p h3s<;>(try simp only[Q,xa3] at h3p);refine wc zmQ (zeI n (p:=nth p.kids x.1) (by have:=xa8 (zaf (l:=p.kids) (i:=x.1) od);omega) (xa6 hok.2 _ (zaf od))) Z Z ?_;refine ev (ar ?_ (by(have hb:=hbd x.1;constructor<;>omega)));refine xbV .none Z Z Z (ev (ar ?_ (by(constructor<;>omega))));refine xaj ((x.1+1,cap (x.2+cntS (nth p.kids x.1)))) ⟨(by
        have hb:=hbd x.1;have hc:=zm3 (x:=x.2+cntS (nth p.kids x.1)) od;exact⟨by dsimp only;omega,by dsimp only;rw[<-zux od];exact hg1.2.1,hc.1,hc.2⟩),ox,sx ⟨⟨_,rfl,xaU ?_⟩,⟨⟨_,rfl,xaU ?_⟩,trivial⟩⟩ trivial⟩
   iterate 2 focus (rfl)
   exfalso;omega;refine rq ?_;rotate_left;try simp only[Q,xa3] at h1p
   exfalso;omega;all_goals (refine xam D.i ?_;rw[<-hg1.2.1,List.drop_eq_nil_of_le od];rfl)
  ·rw[zow,if_neg h5];refine bd Tryz.f150 31 [] [] fun _ _ _ _ hk=>?_;refine bx 3001 ?_;refine ev ?_;apply sq<;>intro h1 h1p h1s;try simp only[Q,xa3] at h1p
   exfalso;omega;refine xaB (ι:=Nat×Int) hk (fun x=>[(12,.d (.i (x.1:Int))),(3,.d (.i x.2))]) [5,13,14,15,16,17,18,19,20,21,22,23,24,25,26,27,28,29] (fun x=>[]) (fun x=>x.1<=p.kids.length/\cntM (p.kids.drop x.1) x.2=cntM p.kids 1/\0<=x.2/\x.2<=401) (fun x=>p.kids.length-x.1) (0,1) ⟨by simp,Z,by simp,by simp⟩ ⟨⟨_,Z,xaU ?_⟩,⟨⟨_,Z,xaU ?_⟩,O⟩⟩ O (fun x=>rfl) (fun x hg1=>?_);iterate 2 focus (rfl)
   refine evc [] [] ?_;apply sq<;>intro h2 h2p h2s<;>(try simp only[Q,xa3] at h2p);refine ixq sl72 Z Z Z (zaE od) Z ?_;refine ev (ab 3005 tz74 ?_);refine so ty74 ?_;apply tv;apply sq<;>intro h3 h3p h3s;try simp only[Q,xa3] at h3p
   exfalso;omega;refine wc zmQ (zeI n (p:=nth p.kids x.1) (by have:=xa8 (zaf (l:=p.kids) (i:=x.1) od);omega) (xa6 hok.2 _ (zaf od))) Z Z ?_;refine ev (ar ?_ (by(have hb:=hbd x.1;have h3:=Int.mul_le_mul hg1.2.2.2 hb.2 hb.1 od;have h4:=Int.mul_nonneg hg1.2.2.1 hb.1;constructor<;>omega)));refine xbV .none Z Z Z (ev (ar ?_ (by(constructor<;>omega))));refine xaj ((x.1+1,cap (x.2*cntS (nth p.kids x.1)))) ⟨(by
        have hb:=hbd x.1;have hc:=zm3 (x:=x.2*cntS (nth p.kids x.1)) (Int.mul_nonneg hg1.2.2.1 hb.1);exact⟨by dsimp only;omega,by dsimp only;rw[<-zuw od];exact hg1.2.1,hc.1,hc.2⟩),ox,sx ⟨⟨_,rfl,xaU ?_⟩,⟨⟨_,rfl,xaU ?_⟩,trivial⟩⟩ trivial⟩
   iterate 2 focus (rfl)
   refine rq ?_;rotate_left;all_goals (refine xam D.i ?_;rw[<-hg1.2.1,List.drop_eq_nil_of_le od];rfl)
theorem ud{p:Prop}(h:p:=by simp[xa3];omega):p:=h
theorem zf7 {xs:List Pat} (hs:xs.length<=1000000000000):FnD Tryz.prog 197 [.d (zak xs)] [] (.gl 77 (Pat.cs xs)) [(77,some (.tok (Pat.cs xs).length 6))]:=by
 refine Fn.body (fn:=Tryz.f197) (n:=8) Z Z Z Z Z (fun _ _ _ _ hk=>?_);refine xaD 0 Z (fun hx0=>?_) ?_;refine evc [2,4] [] (asg ?_);apply tv;refine xbH sl72 .none Z Z ?_;apply tv;refine sqT ?_;refine xbr 77 6 .none Z Z ?_;apply tv;refine rn [(77,some (.tok (Pat.cs xs).length 6))] (r1 Z) (.glg ?_) ⟨Z,Z⟩ (SubH.get ⟨?_,O⟩) (zaQ Z);rotate_left 2;refine evc [2,4] [] (asg ?_);apply tv;refine xbG sl72 .none Z Z ?_;apply tv;refine sqF ?_;refine xb8 77 sl72 .none Z Z (evs [2,4] [] (ap sl72 zz74 Z Z Z (by intro y hy;rw[xa1] at hy;obtain⟨z,_,rfl⟩:=List.mem_map.1 hy;rfl) ud ?_));refine asg ?_;apply tv;refine rn [(77,some (.tok (Pat.cs xs).length 6))] (r1 Z) (.glg ?_) ⟨Z,Z⟩ (SubH.get ⟨?_,O⟩) (zaQ Z);rotate_left 2;all_goals (first|((first|rfl|exact hx0.symm|(simp;done));done)|(first|rfl|(simp[hx0];rfl)|(simp;rfl)))
def zdZ (w:List Data) (t:Ty) (k:Int):Str:=(nth (nth w t.data.toNat).ctors k.toNat).name
def isNm (w:List Data) (t:Ty) (s:Str) (k:Int):Bool:=decide (zdZ w t k=s)
def nmV (w:List Data) (t:Ty) (s:Str):Int:=((zas w t).find? (isNm w t s)).getD (-1)
theorem zfD {w:List Data}{t:Ty}{s:Str} (h:¬nmV w t s<0):nmV w t s∈zas w t:=by
 unfold nmV at h ⊢;cases e:(zas w t).find? (isNm w t s) with
 |none=>rw[e] at h;simp at h
 |some k=>exact List.mem_of_find?_eq_some e
theorem zjd {w:List Data} (hw:WT w){a k:Int} (ht:TyIn w.length ⟨a,k⟩){s:Str}:
  FnD Tryz.prog 267 [.d (zaj w),.agg [.d (.i a),.d (.i k)],.d (.str s)] [] (.d (.i (nmV w ⟨a,k⟩ s))) []:=by
 have hct:=zb5 hw ht;have hpl:=fun(c:Int) (h:c∈zas w ⟨a,k⟩)=>zbE ht h;have hcl:=zf6 hw ht;have hnm:∀(d m:Nat),a=d->(zdZ w ⟨a,k⟩ (m:Int))=(nth (nth w d).ctors m).name:=fun d m h=>by unfold zdZ;subst h;rfl
 have hdef:nmV w ⟨a,k⟩ s=((zas w ⟨a,k⟩).find? (isNm w ⟨a,k⟩ s)).getD (-1):=rfl;rw[hdef];have hisn:∀c,isNm w ⟨a,k⟩ s c=decide (zdZ w ⟨a,k⟩ c=s):=fun _=>rfl;generalize zas w ⟨a,k⟩=l at *;refine bd Tryz.f267 37 [] [] fun _ _ _ _ hk=>?_;refine bx 3004 ?_;refine ev (wc zfL hct Z Z ?_);refine ev (xaB (ι:=List (Int)×List (Int)) hk (fun x=>[(8,.d (.i (x.1.length:Int)))]) [6,12,13,14,15,16,17,18,19,20,21,22,23,24,25,26,27,28,29,30,31,32,33,34,35,36] (fun x=>[]) (fun x=>x.1++x.2=l/\x.2.find? (isNm w ⟨a,k⟩ s)=l.find? (isNm w ⟨a,k⟩ s)) (fun x=>x.2.length) ([],l) ⟨by simp,Z⟩ ⟨⟨_,Z,xaU ?_⟩,O⟩ O (fun x=>rfl) (fun x hg1=>?_));focus (rfl)
 obtain⟨pre,rest⟩:=x;dsimp only at hg1 ⊢;refine evc [] [] ?_;apply sq<;>intro h1 h1p h1s<;>(try simp only[Q,xal] at h1p);rcases rest with _|⟨y,rest⟩
 ·exfalso;simp_all
 refine Walk.idx (i:=(hpl y (by rw[<-hg1.1];simp)).choose) sl23 .none Z Z Z (hpl y (by rw[<-hg1.1];simp)).choose_spec.1 (zah (hpl y (by rw[<-hg1.1];simp)).choose_spec.2.1) Z ?_;refine evd [] [] (ixq sl37 Z Z Z (zaA hg1.1) Z (evd [] [] (Walk.idx (i:=(hpl y (by rw[<-hg1.1];simp)).choose_spec.2.2.choose) zcw .none Z Z Z (hpl y (by rw[<-hg1.1];simp)).choose_spec.2.2.choose_spec.1 (zah (hpl y (by rw[<-hg1.1];simp)).choose_spec.2.2.choose_spec.2) Z ?_)));refine evd [] [] (dr ?_);apply sq<;>intro h2 h2p h2s<;>(try simp only[Q,xal] at h2p);refine ixq sl37 Z Z Z (zaA hg1.1) Z (ev (rq ?_));rotate_left;refine ar (xaj ((pre++[y],rest)) ⟨⟨(by have hz:=hg1.1;rw[<-hz];simp),(by rw[<-hg1.2,List.find?_cons_of_neg];rw[hisn,(hpl y (by rw[<-hg1.1];simp)).choose_spec.2.2.choose_spec.1,hnm _ _ (hpl y (by rw[<-hg1.1];simp)).choose_spec.1];simp_all)⟩,oi,sx ⟨⟨_,Z,xaU ?_⟩,O⟩ O⟩);focus ((simp;done))
 have hrest:rest=[]:=by
  rcases rest with _|⟨a,b⟩
  ·rfl
  ·exfalso;have hz:=xam List.length (hg1.1);simp only[xaa,xab,xac] at hz;omega
 subst hrest;refine rq ?_;rotate_left;all_goals ((refine xam D.i ?_;rw[<-hg1.2];first|rfl|(rw[List.find?_cons_of_pos (by rw[hisn,(hpl y (by rw[<-hg1.1];simp)).choose_spec.2.2.choose_spec.1,hnm _ _ (hpl y (by rw[<-hg1.1];simp)).choose_spec.1];simp_all)];rfl)))
def zb8 (x:UInt8):Bool:=decide (48<=(x.toNat:Int))&&decide ((x.toNat:Int)<=57)
def digV (s:Str) (n:Nat):Int:=((nth s n).toNat:Int)-48
def intP (s:Str) (n:Nat):Pat×Int:=
 if zbh s ((n:Int)+1) 45=true/\n+2<s.length/\zb8 (nth s (n+2))=true then (.mk 3 0 (digV s n) (digV s (n+2)) 0 [],(n:Int)+3)
 else (.mk 3 0 (digV s n) (digV s n) 0 [],(n:Int)+1)
theorem zsP {x:UInt8} (h:zb8 x=true):IntKind.i64.wrap (IntKind.u8.wrap ((x.toNat:Int)-48))=(x.toNat:Int)-48:=by
 unfold zb8 at h;rw[xad,xah,xah] at h;exact zju od od
theorem zqf {s:Str}{n:Nat} (hs:s.length<=1000000000000) (hn:n<s.length) (hd:zb8 (nth s n)=true):
  FnD Tryz.prog 263 [.d (.str s),.d (.i n)] [] (.tup [.agg [.d (.i (intP s n).1.op),.d (.i (intP s n).1.ctor),.d (.i (intP s n).1.n),.d (.i (intP s n).1.m),.d (.i (intP s n).1.var),.d (zak (intP s n).1.kids)],.d (.i (intP s n).2)]) []:=by
 have w1:=zsP hd;by_cases hc:zbh s ((n:Int)+1) 45=true/\n+2<s.length/\zb8 (nth s (n+2))=true
 ·have w2:=zsP hc.2.2;have e:intP s n=(.mk 3 0 (digV s n) (digV s (n+2)) 0 [],(n:Int)+3):=by unfold intP;rw[if_pos hc]
  rw[e];obtain⟨c1,c2,c3⟩:=hc;have hsg:=zaP (s:=s) (a:=(n:Int)+1) (c:=45) hs;rw[c1] at hsg;unfold zb8 at c3;rw[xad,xah,xah] at c3;refine bd Tryz.f263 52 [10,42] [] fun _ _ _ _ hk=>?_;refine ab 3004 tz74 ?_;refine evs [10,42] [] (xbN un9 .none Z Z Z Z (zbc od) ?_);refine xcd .none Z Z Z (xbz oz un3 .none Z Z ?_);refine evs [10,42] [] (ar (wc zb7 hsg Z Z ?_));refine evs [10,42] [] ?_;apply sq<;>intro h1 h1p h1s;refine ar ?_;apply sq<;>intro h2 h2p h2s;refine ar (xbN (i:=((n+2:Nat))) un9 (.some Z Z h2) Z Z Z od (zbc od) ?_);refine evs [10,42] [(23,true)] ?_ ⟨⟨_,Z,h2⟩,O⟩;apply sq<;>intro h3 h3p h3s;refine ar (xbN (i:=((n+2:Nat))) un9 (.some Z Z h3) Z Z Z od (zbc od) ?_);refine evs [10,42] [(30,true)] ?_ ⟨⟨_,Z,h3⟩,O⟩;apply sq<;>intro h4 h4p h4s;refine ar (xbN (i:=((n+2:Nat))) un9 .none Z Z Z od (zbc od) ?_);refine xcd .none Z Z Z (xbz oz un3 .none Z Z ?_);refine bu [0,2,3] [_,_,_] st74 ?_;refine evs [10,42] [] (ar (so ty74 ?_));refine evs [10,42] [] (rn0 (rc ty74) (.tup (.cons (.agg (qeeeeen ?_ ?_ ?_ ?_ ?_ ?_)) (qe ?_))));rotate_left 7;try simp only[Q,xal] at h4p
  focus (exfalso;omega)
  try simp only[Q,xal] at h3p
  refine sqF ?_;focus (exfalso;omega)
  try simp only[Q,xal] at h2p
  refine sqF ?_;refine sqF ?_;focus (exfalso;omega)
  refine sqF ?_;refine sqF ?_;refine sqF ?_;focus (exfalso;contradiction)
  all_goals (first|rfl|(refine xam D.i ?_;first|rfl|omega|exact w1|exact w2))
 ·have e:intP s n=(.mk 3 0 (digV s n) (digV s n) 0 [],(n:Int)+1):=by unfold intP;rw[if_neg hc]
  rw[e];have hsg:=zaP (s:=s) (a:=(n:Int)+1) (c:=45) hs;have hdg:∀x:UInt8,zb8 x=(decide (48<=(x.toNat:Int))&&decide ((x.toNat:Int)<=57)):=fun _=>rfl;have hno:zbh s ((n:Int)+1) 45=true->n+2<s.length->48<=((nth s (n+2)).toNat:Int)->((nth s (n+2)).toNat:Int)<=57->False:=fun h1 h2 h3 h4=>hc ⟨h1,h2,by rw[hdg,xad,xah,xah];exact⟨h3,h4⟩⟩;refine bd Tryz.f263 52 [10] [] fun _ _ _ _ hk=>?_;refine ab 3004 tz74 ?_;refine evs [10] [] (xbN un9 .none Z Z Z Z (zbc od) ?_);refine xcd .none Z Z Z (xbz oz un3 .none Z Z ?_);refine evs [10] [] (ar (wc zb7 hsg Z Z ?_));refine evs [10] [] ?_;apply sq<;>intro h1 h1p h1s;refine ar ?_;apply sq<;>intro h2 h2p h2s;try simp only[Q,xal] at h2p
  refine ar (xbN (i:=((n+2:Nat))) un9 (.some Z Z h2) Z Z Z od (zbc od) ?_);refine evs [10] [(23,true)] ?_ ⟨⟨_,Z,h2⟩,O⟩;apply sq<;>intro h3 h3p h3s;try simp only[Q,xal] at h3p
  refine ar (xbN (i:=((n+2:Nat))) un9 (.some Z Z h3) Z Z Z od (zbc od) ?_);refine evs [10] [(30,true)] ?_ ⟨⟨_,Z,h3⟩,O⟩;apply sq<;>intro h4 h4p h4s;try simp only[Q,xal] at h4p
  exfalso;exact hno ol od od od;refine bu [0,2,3] [_,_,_] st74 ?_;refine evs [10] [] (ar (so ty74 ?_));refine evs [10] [] (rn0 (rc ty74) (.tup (.cons (.agg (qeeeeen ?_ ?_ ?_ ?_ ?_ ?_)) (qe ?_))));rotate_left 7;refine sqF ?_;refine bu [0,2,3] [_,_,_] st74 ?_;refine evs [10] [] (ar (so ty74 ?_));refine evs [10] [] (rn0 (rc ty74) (.tup (.cons (.agg (qeeeeen ?_ ?_ ?_ ?_ ?_ ?_)) (qe ?_))));rotate_left 7;refine sqF ?_;refine sqF ?_;refine bu [0,2,3] [_,_,_] st74 ?_;refine evs [10] [] (ar (so ty74 ?_));refine evs [10] [] (rn0 (rc ty74) (.tup (.cons (.agg (qeeeeen ?_ ?_ ?_ ?_ ?_ ?_)) (qe ?_))));rotate_left 7;refine sqF ?_;refine sqF ?_;refine sqF ?_;refine bu [0,2,3] [_,_,_] st74 ?_;refine evs [10] [] (ar (so ty74 ?_));refine evs [10] [] (rn0 (rc ty74) (.tup (.cons (.agg (qeeeeen ?_ ?_ ?_ ?_ ?_ ?_)) (qe ?_))));rotate_left 7;all_goals (first|rfl|(refine xam D.i ?_;first|rfl|omega|exact w1))
def kidL (f:Ty->Int->Pat×Int) (s:Str):List Ty->List UInt8->Int->Option (List Pat×Int)
 | [],_,a=>some ([],a)
 |_::_,[],_=>none
 |t::ts,c::cs,a=>if zbh s a c=true then (match kidL f s ts cs (f t (a+1)).2 with|none=>none|some r=>some ((f t (a+1)).1::r.1,r.2)) else none
def kidV (f:Ty->Int->Pat×Int) (s:Str) (ts:List Ty) (sg:List UInt8) (a:Int):List Pat×Int:=(kidL f s ts sg a).getD ([],-1)
def zaC (w:List Data) (s:Str):Nat->Ty->Int->Pat×Int
 |0,_,_=>(ze9,-1)
 |n+1,t,a=>
  if a<0\/(s.length:Int)<=a then (ze9,-1)
  else if nth s a.toNat=95 then (.mk 1 0 0 0 0 [],a+1)
  else if zb8 (nth s a.toNat)=true then intP s a.toNat
  else if nth s a.toNat=40 then (if zbh s (kidV (zaC w s n) s [t,t] [40,124] a).2 41=true then (.mk 5 0 0 0 0 (kidV (zaC w s n) s [t,t] [40,124] a).1,(kidV (zaC w s n) s [t,t] [40,124] a).2+1) else (ze9,-1))
  else if zbH (nth s a.toNat)=true/\zbh s (a+1) 64=true then (.mk 6 0 0 0 (((nth s a.toNat).toNat:Int)-97) (kidV (zaC w s n) s [t] [64] (a+1)).1,(kidV (zaC w s n) s [t] [64] (a+1)).2)
  else if zbH (nth s a.toNat)=true then (.mk 2 0 0 0 (((nth s a.toNat).toNat:Int)-97) [],a+1)
  else if nmV w t (zbe s a.toNat)<0 then (ze9,-1)
  else if (zae w t (nmV w t (zbe s a.toNat))).length=0 then (.mk 4 (nmV w t (zbe s a.toNat)) 0 0 0 (kidV (zaC w s n) s (zae w t (nmV w t (zbe s a.toNat))) [40,44,44] ((a.toNat+zbw (s.drop a.toNat):Nat):Int)).1,(kidV (zaC w s n) s (zae w t (nmV w t (zbe s a.toNat))) [40,44,44] ((a.toNat+zbw (s.drop a.toNat):Nat):Int)).2)
  else if zbh s (kidV (zaC w s n) s (zae w t (nmV w t (zbe s a.toNat))) [40,44,44] ((a.toNat+zbw (s.drop a.toNat):Nat):Int)).2 41=true then (.mk 4 (nmV w t (zbe s a.toNat)) 0 0 0 (kidV (zaC w s n) s (zae w t (nmV w t (zbe s a.toNat))) [40,44,44] ((a.toNat+zbw (s.drop a.toNat):Nat):Int)).1,(kidV (zaC w s n) s (zae w t (nmV w t (zbe s a.toNat))) [40,44,44] ((a.toNat+zbw (s.drop a.toNat):Nat):Int)).2+1)
  else (ze9,-1)
def EndIn (s:Str) (a:Int):Prop:= -1<=a/\a<=(s.length:Int)
theorem zvQ {s:Str}{n:Nat} (hn:n<s.length):EndIn s (intP s n).2:=by
 unfold intP EndIn;split
 ·rename_i h;have:=h.2.1;dsimp only;omega
 ·dsimp only;omega
theorem zrr {f:Ty->Int->Pat×Int}{s:Str} (hf:∀t a,EndIn s (f t a).2):∀(ts:List Ty) (sg:List UInt8) (a:Int),EndIn s a->∀r,kidL f s ts sg a=some r->EndIn s r.2/\r.1.length=ts.length
 | [],_,a,ha,r,h=>by rw[kidL] at h;cases h;exact⟨ha,rfl⟩
 |_::_,[],_,_,r,h=>by rw[kidL] at h;cases h
 |t::ts,c::cs,a,ha,r,h=>by
  rw[kidL] at h;split at h
  ·cases e:kidL f s ts cs (f t (a+1)).2 with
   |none=>rw[e] at h;cases h
   |some r2=>
    rw[e] at h;cases h;have:=zrr hf ts cs _ (hf t (a+1)) r2 e;exact⟨this.1,by simp[this.2]⟩
  ·cases h
theorem zjB {f:Ty->Int->Pat×Int}{s:Str} (hf:∀t a,EndIn s (f t a).2){ts:List Ty}{sg:List UInt8}{a:Int} (ha:EndIn s a):EndIn s (kidV f s ts sg a).2:=by
 unfold kidV;cases e:kidL f s ts sg a with
 |none=>exact⟨Int.le_refl _,by simp[Option.getD]<;>omega⟩
 |some r=>exact(zrr hf ts sg a ha r e).1
theorem zhP {s:Str}{a:Int} (h0:0<=a) (h1:a<(s.length:Int)):EndIn s ((a.toNat+zbw (s.drop a.toNat):Nat):Int):=by
 have:=zjF (s.drop a.toNat);rw[List.length_drop] at this;exact⟨by omega,by omega⟩
theorem zhd {w:List Data}{s:Str}:∀(n:Nat) (t:Ty) (a:Int),EndIn s (zaC w s n t a).2
 |0,_,_=>⟨by simp[zaC],by simp[zaC]<;>omega⟩
 |n+1,t,a=>by
  have ih:=zhd (w:=w) (s:=s) n;have z:EndIn s ((ze9,(-1:Int)):Pat×Int).2:=⟨Int.le_refl _,by dsimp only;omega⟩;unfold zaC;split
  ·exact z
  rename_i ha;have ha0:0<=a:=by omega
  have ha1:a<(s.length:Int):=by omega
  have hst:∀ {b:Int},zbh s b 41=true->EndIn s (b+1):=fun h=>by have:=zgN h;exact⟨by omega,by omega⟩
  split
  ·exact⟨by dsimp only;omega,by dsimp only;omega⟩
  split
  ·exact zvQ od
  split
  ·split
   ·rename_i h;exact hst h
   ·exact z
  split
  ·rename_i h;exact zjB ih (by have:=zgN h.2;exact⟨by omega,by omega⟩)
  split
  ·exact⟨by dsimp only;omega,by dsimp only;omega⟩
  split
  ·exact z
  split
  ·exact zjB ih (zhP ha0 ha1)
  split
  ·rename_i h;exact hst h
  ·exact z
theorem zpu {f:Ty->Int->Pat×Int}{s:Str}{ts:List Ty}{sg:List UInt8}{i:Nat}{a:Int} (hi:i<ts.length) (hg:ts.length<=sg.length):
  kidL f s (ts.drop i) (sg.drop i) a=if zbh s a (nth sg i)=true then (match kidL f s (ts.drop (i+1)) (sg.drop (i+1)) (f (nth ts i) (a+1)).2 with|none=>none|some r=>some ((f (nth ts i) (a+1)).1::r.1,r.2)) else none:=by
 rw[zaF hi,zaF (show i<sg.length by omega),kidL]
def addK (acc:List Pat):Option (List Pat×Int)->Option (List Pat×Int)
 |none=>none
 |some r=>some (acc++r.1,r.2)
theorem zvB (o:Option (List Pat×Int)):addK [] o=o:=by cases o<;>rfl
theorem zvS {f:Ty->Int->Pat×Int}{s:Str}{ts:List Ty}{sg:List UInt8}{i:Nat}{a:Int}{acc:List Pat}{o:Option (List Pat×Int)} (hi:i<ts.length) (hg:ts.length<=sg.length)
  (h:addK acc (kidL f s (ts.drop i) (sg.drop i) a)=o) (hs:zbh s a (nth sg i)=true):
  addK (acc++[(f (nth ts i) (a+1)).1]) (kidL f s (ts.drop (i+1)) (sg.drop (i+1)) (f (nth ts i) (a+1)).2)=o:=by
 rw[<-h,zpu hi hg,if_pos hs];cases kidL f s (ts.drop (i+1)) (sg.drop (i+1)) (f (nth ts i) (a+1)).2 with
 |none=>rfl
 |some r=>simp[addK]
theorem zxb {f:Ty->Int->Pat×Int}{s:Str}{ts:List Ty}{sg:List UInt8}{i:Nat}{a:Int}{acc:List Pat}{o:Option (List Pat×Int)} (hi:i<ts.length) (hg:ts.length<=sg.length)
  (h:addK acc (kidL f s (ts.drop i) (sg.drop i) a)=o) (hs:zbh s a (nth sg i)=false):o=none:=by
 rw[<-h,zpu hi hg,if_neg (by rw[hs];simp)];rfl
theorem zxc {f:Ty->Int->Pat×Int}{s:Str}{ts:List Ty}{sg:List UInt8}{i:Nat}{a:Int}{acc:List Pat}{o:Option (List Pat×Int)} (hi:ts.length<=i)
  (h:addK acc (kidL f s (ts.drop i) (sg.drop i) a)=o):o=some (acc,a):=by
 rw[<-h,List.drop_eq_nil_of_le hi,kidL];simp[addK]
theorem zqg {w:List Data}{s:Str} (hs:s.length<=1000000000000 / 2){ts:List Ty}{sg:List UInt8} (hg:ts.length<=sg.length) (hg2:sg.length<=3){a0 dep:Int} (ha0:EndIn s a0){f:Ty->Int->Pat×Int} (hfe:∀t a,EndIn s (f t a).2)
  (hf:∀t∈ts,∀a,EndIn s a->FnD Tryz.prog 229 [.d (zaj w),.agg [.d (.i t.data),.d (.i t.index)],.d (.str s),.d (.i a),.d (.i dep)] [] (.tup [.agg [.d (.i (f t a).1.op),.d (.i (f t a).1.ctor),.d (.i (f t a).1.n),.d (.i (f t a).1.m),.d (.i (f t a).1.var),.d (zak (f t a).1.kids)],.d (.i (f t a).2)]) []):
  FnD Tryz.prog 264 [.d (zaj w),.d (zbZ ts),.d (zd9 sg),.d (.str s),.d (.i a0),.d (.i dep)] [] (.tup [.d (zak (kidV f s ts sg a0).1),.d (.i (kidV f s ts sg a0).2)]) []:=by
 unfold kidV;generalize ho:kidL f s ts sg a0=o;have hsl:s.length<=1000000000000:=by omega
 have hbad:=fun(i:Nat) (a:Int) (acc:List Pat)=>zxb (f:=f) (s:=s) (ts:=ts) (sg:=sg) (i:=i) (a:=a) (acc:=acc) (o:=o);have hend:=fun(i:Nat) (a:Int) (acc:List Pat)=>zxc (f:=f) (s:=s) (ts:=ts) (sg:=sg) (i:=i) (a:=a) (acc:=acc) (o:=o);have hnext:=fun(i:Nat) (a:Int) (acc:List Pat)=>zvS (f:=f) (s:=s) (ts:=ts) (sg:=sg) (i:=i) (a:=a) (acc:=acc) (o:=o);refine bd Tryz.f264 53 [] [] fun _ _ _ _ hk=>?_;refine xb8 1 sl72 .none Z Z (ev (xaB (ι:=Nat×List Pat×Int) hk (fun x=>[(15,.d (.i (x.1:Int))),(14,.gl 1 (x.2.1.map Pat.cc)),(4,.d (.i x.2.2))]) [12,13,16,17,19,20,21,22,23,24,25,26,27,28,29,30,31,32,33,34,35,36,37,38,39,40,41,42,43,44,45,46,47,48,49,50] (fun x=>[(1,some (.tok ((x.2.1.map Pat.cc)).length 6))]) (fun x=>x.1<=ts.length/\x.2.1.length<=x.1/\(-1<=x.2.2/\x.2.2<=(s.length:Int))/\addK x.2.1 (kidL f s (ts.drop x.1) (sg.drop x.1) x.2.2)=o) (fun x=>ts.length-x.1) (0,[],a0) ⟨by simp,by simp,ha0,by rw[zvB];exact ho⟩ ⟨⟨_,Z,xaU ?_⟩,⟨⟨_,Z,LeA.glg ?_⟩,⟨⟨_,Z,xaU ?_⟩,O⟩⟩⟩ ⟨zac ?_,O⟩ (fun x=>rfl) (fun x hg1=>?_)));iterate 4 focus (rfl)
 refine evc [] [] ?_;apply sq<;>intro h1 h1p h1s<;>(try simp only[Q,xal,xac] at h1p);refine ixq sl22 Z Z Z (zah od) Z ?_;refine ev (wc zb7 (zaP (s:=s) (a:=x.2.2) (c:=nth sg x.1) hsl) Z Z ?_);refine ev ?_;apply sq<;>intro h2 h2p h2s;refine rn0 (r2 Z Z) (.tup (qne ?_ ?_));rotate_left 2;try simp only[Q,xal,xac] at h2p
 refine ixq zaz Z Z Z (zah od) Z ?_;refine ev (ar (wc zui (hf (nth ts x.1) (zaf od) (x.2.2+1) (by have:=zgN (s:=s) (a:=x.2.2) ol;exact⟨by omega,by omega⟩)) Z Z ?_));refine ev (ab 3016 tz74 ?_);refine so ty74 ?_;refine ev (si [0] [_] sl72 tz74 ?_);refine ap sl72 zz74 Z Z Z ov ot ?_;refine ev (ar (xaj ((x.1+1,x.2.1++[(f (nth ts x.1) (x.2.2+1)).1],(f (nth ts x.1) (x.2.2+1)).2)) ⟨⟨by dsimp only;omega,by simp;omega,hfe _ _,hnext x.1 x.2.2 x.2.1 od hg hg1.2.2.2 ol⟩,ox,sx ⟨⟨_,Z,xaU ?_⟩,⟨⟨_,Z,LeA.glg ?_⟩,⟨⟨_,Z,xaU ?_⟩,O⟩⟩⟩ ⟨zac ?_,O⟩⟩));iterate 4 focus ((simp;done))
 refine rn0 (r2 Z Z) (.tup (qge ?_ ?_));rotate_left 2;all_goals (first|(rw[hbad x.1 x.2.2 x.2.1 od hg hg1.2.2.2 ol];rfl)|(rw[hend x.1 x.2.2 x.2.1 od hg1.2.2.2];first|rfl|exact(xa1 _).symm))
set_option maxHeartbeats 4000000
theorem zmn {x:Int} (h1:97<=x) (h2:x<=122):IntKind.i64.wrap (IntKind.u8.wrap (x-97))=x-97:=by
 rw[zo6,zcI od];omega
section
variable {w:List Data}{s:Str}{n m:Nat}{t:Ty}
theorem zyY {a:Int} (h:a<0\/(s.length:Int)<=a):zaC w s (n+1) t a=(ze9,-1):=by unfold zaC;rw[if_pos h]
variable (hm:m<s.length)
include hm
theorem zgB:¬((m:Int)<0\/(s.length:Int)<=(m:Int)):=by omega
omit hm in
theorem ztp {x:UInt8} (h1:48<=(x.toNat:Int)) (h2:(x.toNat:Int)<=57):zb8 x=true:=by unfold zb8;rw[xad,xah,xah];exact⟨h1,h2⟩
omit hm in
theorem zjt {x:UInt8} (h:¬(48<=(x.toNat:Int)/\(x.toNat:Int)<=57)):¬zb8 x=true:=by unfold zb8;rw[xad,xah,xah];exact h
omit hm in
theorem ztz {x:UInt8} (h1:97<=(x.toNat:Int)) (h2:(x.toNat:Int)<=122):zbH x=true:=by unfold zbH;rw[xad,xah,xah];exact⟨h1,h2⟩
omit hm in
theorem znu {x:UInt8} (h:¬(97<=(x.toNat:Int)/\(x.toNat:Int)<=122)):¬zbH x=true:=by unfold zbH;rw[xad,xah,xah];exact h
omit hm in
theorem b_eq {x:UInt8}{k:Nat} (hk:k<256) (h:(x.toNat:Int)=(k:Int)):x=UInt8.ofNat k:=by
 rw[<-UInt8.toNat_inj,UInt8.toNat_ofNat_of_lt' hk];omega
omit hm in
theorem b_ne {x y:UInt8} (h:¬(x.toNat:Int)=(y.toNat:Int)):¬x=y:=fun e=>h (by rw[e])
theorem zyU (h:((nth s m).toNat:Int)=95):zaC w s (n+1) t (m:Int)=(.mk 1 0 0 0 0 [],(m:Int)+1):=by
 unfold zaC;rw[if_neg (zgB hm),if_pos (show nth s ((m:Int)).toNat=95 from b_eq (k:=95) od h)]
theorem zyW (h1:48<=((nth s m).toNat:Int)) (h2:((nth s m).toNat:Int)<=57):zaC w s (n+1) t (m:Int)=intP s m:=by
 unfold zaC;rw[if_neg (zgB hm),if_neg (show ¬nth s ((m:Int)).toNat=95 from b_ne (by show ¬((nth s m).toNat:Int)=95;omega)),if_pos (show zb8 (nth s ((m:Int)).toNat)=true from ztp h1 h2)];rfl
theorem zzL (h:((nth s m).toNat:Int)=40):zaC w s (n+1) t (m:Int)=(if zbh s (kidV (zaC w s n) s [t,t] [40,124] (m:Int)).2 41=true then (.mk 5 0 0 0 0 (kidV (zaC w s n) s [t,t] [40,124] (m:Int)).1,(kidV (zaC w s n) s [t,t] [40,124] (m:Int)).2+1) else (ze9,-1)):=by
 rw[zaC];rw[if_neg (zgB hm),if_neg (show ¬nth s ((m:Int)).toNat=95 from b_ne (by show ¬((nth s m).toNat:Int)=95;omega)),if_neg (show ¬zb8 (nth s ((m:Int)).toNat)=true from zjt (by show ¬(48<=((nth s m).toNat:Int)/\((nth s m).toNat:Int)<=57);omega)),if_pos (show nth s ((m:Int)).toNat=40 from b_eq (k:=40) od h)]
theorem zyX (h1:97<=((nth s m).toNat:Int)) (h2:((nth s m).toNat:Int)<=122):zaC w s (n+1) t (m:Int)=if zbh s ((m:Int)+1) 64=true then (.mk 6 0 0 0 (((nth s m).toNat:Int)-97) (kidV (zaC w s n) s [t] [64] ((m:Int)+1)).1,(kidV (zaC w s n) s [t] [64] ((m:Int)+1)).2) else (.mk 2 0 0 0 (((nth s m).toNat:Int)-97) [],(m:Int)+1):=by
 rw[zaC];rw[if_neg (zgB hm),if_neg (show ¬nth s ((m:Int)).toNat=95 from b_ne (by show ¬((nth s m).toNat:Int)=95;omega)),if_neg (show ¬zb8 (nth s ((m:Int)).toNat)=true from zjt (by show ¬(48<=((nth s m).toNat:Int)/\((nth s m).toNat:Int)<=57);omega)),if_neg (show ¬nth s ((m:Int)).toNat=40 from b_ne (by show ¬((nth s m).toNat:Int)=40;omega))];by_cases hg:zbh s ((m:Int)+1) 64=true
 ·rw[if_pos ⟨ztz h1 h2,hg⟩,if_pos hg];rfl
 ·rw[if_neg (fun h=>hg h.2),if_pos (show zbH (nth s ((m:Int)).toNat)=true from ztz h1 h2),if_neg hg];rfl
def conP (w:List Data) (s:Str) (n:Nat) (t:Ty) (m:Nat):Pat×Int:=
 if nmV w t (zbe s m)<0 then (ze9,-1)
 else if (zae w t (nmV w t (zbe s m))).length=0 then (.mk 4 (nmV w t (zbe s m)) 0 0 0 (kidV (zaC w s n) s (zae w t (nmV w t (zbe s m))) [40,44,44] ((m+zbw (s.drop m):Nat):Int)).1,(kidV (zaC w s n) s (zae w t (nmV w t (zbe s m))) [40,44,44] ((m+zbw (s.drop m):Nat):Int)).2)
 else if zbh s (kidV (zaC w s n) s (zae w t (nmV w t (zbe s m))) [40,44,44] ((m+zbw (s.drop m):Nat):Int)).2 41=true then (.mk 4 (nmV w t (zbe s m)) 0 0 0 (kidV (zaC w s n) s (zae w t (nmV w t (zbe s m))) [40,44,44] ((m+zbw (s.drop m):Nat):Int)).1,(kidV (zaC w s n) s (zae w t (nmV w t (zbe s m))) [40,44,44] ((m+zbw (s.drop m):Nat):Int)).2+1)
 else (ze9,-1)
theorem zyV (h1:¬((nth s m).toNat:Int)=95) (h2:¬(48<=((nth s m).toNat:Int)/\((nth s m).toNat:Int)<=57)) (h3:¬((nth s m).toNat:Int)=40) (h4:¬(97<=((nth s m).toNat:Int)/\((nth s m).toNat:Int)<=122)):
  zaC w s (n+1) t (m:Int)=conP w s n t m:=by
 rw[zaC];rw[if_neg (zgB hm),if_neg (show ¬nth s ((m:Int)).toNat=95 from b_ne (by show ¬((nth s m).toNat:Int)=95;omega)),if_neg (show ¬zb8 (nth s ((m:Int)).toNat)=true from zjt h2),if_neg (show ¬nth s ((m:Int)).toNat=40 from b_ne (by show ¬((nth s m).toNat:Int)=40;omega)),
  if_neg (fun h=>znu h4 h.1),if_neg (show ¬zbH (nth s ((m:Int)).toNat)=true from znu h4)]
 rfl
end
def A3 (w:List Data):Prop:=∀t c,TyIn w.length t->c∈zas w t->(zae w t c).length<=3/\∀u∈zae w t c,TyIn w.length u
theorem ziq {w:List Data}{s:Str} (hw:WT w) (hA3:A3 w) (hs:s.length<=1000000000000 / 2):∀(n:Nat){a k:Int}{b:Int},n<=1000->TyIn w.length ⟨a,k⟩->EndIn s b->
  FnD Tryz.prog 229 [.d (zaj w),.agg [.d (.i a),.d (.i k)],.d (.str s),.d (.i b),.d (.i n)] [] (.tup [.agg [.d (.i (zaC w s n ⟨a,k⟩ b).1.op),.d (.i (zaC w s n ⟨a,k⟩ b).1.ctor),.d (.i (zaC w s n ⟨a,k⟩ b).1.n),.d (.i (zaC w s n ⟨a,k⟩ b).1.m),.d (.i (zaC w s n ⟨a,k⟩ b).1.var),.d (zak (zaC w s n ⟨a,k⟩ b).1.kids)],.d (.i (zaC w s n ⟨a,k⟩ b).2)]) []
 |0,a,k,b,_,_,_=>by
  rw[show zaC w s 0 ⟨a,k⟩ b=(ze9,-1) from rfl];refine bd Tryz.f229 172 [] [] fun _ _ _ _ hk=>?_;refine bx 3006 ?_;refine ab 3010 tz74 ?_;refine ev ?_;apply sq<;>intro h1 h1p h1s<;>(try simp only[Q] at h1p);refine sqT ?_;refine sqT ?_;refine bu [] [] st74 ?_;refine so ty74 ?_;refine ev ?_;focus (refine rn0 (rc ty74) (.tup (.cons (.agg (qeeeeen ?_ ?_ ?_ ?_ ?_ ?_)) (qe ?_)));all_goals (first|rfl|(simp[h1s,h1p];done)|(simp_all;done)|(simp_all;omega)|omega))
  focus (exfalso;first|omega|(simp at h1p;done))
 |n+1,a,k,b,hn,ht,hb=>by
  have hsl:s.length<=1000000000000:=by omega
  by_cases hout:b<0\/(s.length:Int)<=b
  ·rw[zyY hout];obtain⟨hb1,hb2⟩:=hb;refine bd Tryz.f229 172 [] [] fun _ _ _ _ hk=>?_;refine bx 3006 ?_;refine ab 3010 tz74 ?_;refine ev ?_;apply sq<;>intro h1 h1p h1s<;>(try simp only[Q] at h1p);refine sqT ?_;refine sqT ?_;refine bu [] [] st74 ?_;refine so ty74 ?_;refine ev ?_;focus (refine rn0 (rc ty74) (.tup (.cons (.agg (qeeeeen ?_ ?_ ?_ ?_ ?_ ?_)) (qe ?_)));all_goals (first|rfl|(simp[h1s,h1p];done)|(simp_all;done)|(simp_all;omega)|omega))
   apply sq<;>intro h3 h3p h3s<;>(try simp only[Q] at h3p);refine sqT ?_;refine bu [] [] st74 ?_;refine so ty74 ?_;refine ev ?_;focus (refine rn0 (rc ty74) (.tup (.cons (.agg (qeeeeen ?_ ?_ ?_ ?_ ?_ ?_)) (qe ?_)));all_goals (first|rfl|(simp[h1s,h1p,h3s,h3p];done)|(simp_all;done)|(simp_all;omega)|omega))
   apply sq<;>intro h5 h5p h5s<;>(try simp only[Q] at h5p);refine bu [] [] st74 ?_;refine so ty74 ?_;refine ev ?_;focus (refine rn0 (rc ty74) (.tup (.cons (.agg (qeeeeen ?_ ?_ ?_ ?_ ?_ ?_)) (qe ?_)));all_goals (first|rfl|(simp[h1s,h1p,h3s,h3p,h5s,h5p];done)|(simp_all;done)|(simp_all;omega)|omega))
   focus (exfalso;first|omega|(simp at h5p;done))
  obtain⟨m,rfl⟩:=Int.eq_ofNat_of_zero_le (show 0<=b by omega);have hm:m<s.length:=by omega
  have hkid:∀(ts:List Ty) (sg:List UInt8) (a0:Int),ts.length<=sg.length->sg.length<=3->(∀t∈ts,TyIn w.length t)->EndIn s a0->
    FnD Tryz.prog 264 [.d (zaj w),.d (zbZ ts),.d (zd9 sg),.d (.str s),.d (.i a0),.d (.i (((n+1:Nat):Int)-1))] [] (.tup [.d (zak (kidV (zaC w s n) s ts sg a0).1),.d (.i (kidV (zaC w s n) s ts sg a0).2)]) []:=fun ts sg a0 h1 h2 h3' h4=>by
   rw[show(((n+1:Nat):Int)-1)=(n:Int) by omega];exact zqg hs h1 h2 h4 (zhd n) (fun t ht' b hb'=>ziq hw hA3 hs n (a:=t.data) (k:=t.index) od (h3' t ht') hb')
  have hk1:=hkid [⟨a,k⟩,⟨a,k⟩] [40,124] (m:Int) oi oi (by intro t h;simp at h;subst h;exact ht) hb;have hk2:=fun h=>hkid [⟨a,k⟩] [64] ((m:Int)+1) oi oi (by intro t h;simp at h;subst h;exact ht) h;have hk3:=fun(h:¬nmV w ⟨a,k⟩ (zbe s m)<0)=>hkid (zae w ⟨a,k⟩ (nmV w ⟨a,k⟩ (zbe s m))) [40,44,44] ((m+zbw (s.drop m):Nat):Int) (by have:=(hA3 _ _ ht (zfD h)).1;simp;omega) oi (hA3 _ _ ht (zfD h)).2 (zhP (a:=(m:Int)) od od);have he1:EndIn s (kidV (zaC w s n) s [⟨a,k⟩,⟨a,k⟩] [40,124] (m:Int)).2:=zjB (zhd n) hb;have he3:EndIn s (kidV (zaC w s n) s (zae w ⟨a,k⟩ (nmV w ⟨a,k⟩ (zbe s m))) [40,44,44] ((m+zbw (s.drop m):Nat):Int)).2:=zjB (zhd n) (zhP (a:=(m:Int)) od od);have hnl:=zjF (s.drop m);rw[List.length_drop] at hnl;have q0:=zyU (w:=w) (t:=⟨a,k⟩) (n:=n) hm;have q1:=zyW (w:=w) (t:=⟨a,k⟩) (n:=n) hm;have q2:=zzL (w:=w) (t:=⟨a,k⟩) (n:=n) hm;have q3:=zyX (w:=w) (t:=⟨a,k⟩) (n:=n) hm;have q4:=zyV (w:=w) (t:=⟨a,k⟩) (n:=n) hm;unfold conP at q4;have hag:=fun(h:¬nmV w ⟨a,k⟩ (zbe s m)<0)=>zb4 hw ht (zfD h);have hnm:=zjd hw ht (s:=zbe s m);generalize hK1:kidV (zaC w s n) s [⟨a,k⟩,⟨a,k⟩] [40,124] (m:Int)=K1 at *;generalize hK2:kidV (zaC w s n) s [⟨a,k⟩] [64] ((m:Int)+1)=K2 at *;generalize hK3:kidV (zaC w s n) s (zae w ⟨a,k⟩ (nmV w ⟨a,k⟩ (zbe s m))) [40,44,44] ((m+zbw (s.drop m):Nat):Int)=K3 at *;clear hK1 hK2 hK3 hkid;generalize nmV w ⟨a,k⟩ (zbe s m)=cc at *;generalize zae w ⟨a,k⟩ cc=ts at *;generalize zaC w s (n+1) ⟨a,k⟩ (m:Int)=R at *;have q2a:=fun(h:((nth s m).toNat:Int)=40) (hs:zbh s K1.2 41=true)=>(q2 h).trans (if_pos hs);have q2b:=fun(h:((nth s m).toNat:Int)=40) (hs:zbh s K1.2 41=false)=>(q2 h).trans (if_neg (by rw[hs];simp));have q3a:=fun(h:97<=((nth s m).toNat:Int)) (h':((nth s m).toNat:Int)<=122) (hs:zbh s ((m:Int)+1) 64=true)=>(q3 h h').trans (if_pos hs);have q3b:=fun(h:97<=((nth s m).toNat:Int)) (h':((nth s m).toNat:Int)<=122) (hs:zbh s ((m:Int)+1) 64=false)=>(q3 h h').trans (if_neg (by rw[hs];simp));have q4a:=fun a1 a2 a3 a4 (hs:cc<0)=>(q4 a1 a2 a3 a4).trans (if_pos hs);have q4b:=fun a1 a2 a3 a4 (hs:¬cc<0) (h0:ts.length=0)=>((q4 a1 a2 a3 a4).trans (if_neg hs)).trans (if_pos h0);have q4c:=fun a1 a2 a3 a4 (hs:¬cc<0) (h0:¬ts.length=0) (h9:zbh s K3.2 41=true)=>(((q4 a1 a2 a3 a4).trans (if_neg hs)).trans (if_neg h0)).trans (if_pos h9);have q4d:=fun a1 a2 a3 a4 (hs:¬cc<0) (h0:¬ts.length=0) (h9:zbh s K3.2 41=false)=>(((q4 a1 a2 a3 a4).trans (if_neg hs)).trans (if_neg h0)).trans (if_neg (by rw[h9];simp));clear q2 q3 q4;obtain⟨he1a,he1b⟩:=he1;obtain⟨he3a,he3b⟩:=he3;refine bd Tryz.f229 172 [110,123] [] fun _ _ _ _ hk=>?_;refine bx 3006 ?_;refine ab 3010 tz74 ?_;refine evs [110,123] [] ?_;apply sq<;>intro h1 h1p h1s<;>(try simp only[Q,xal,xac] at h1p);refine sqT ?_;refine sqT ?_;focus (exfalso;first|omega|(simp at HP;done))
  apply sq<;>intro h3 h3p h3s<;>(try simp only[Q,xal,xac] at h3p);refine sqT ?_;focus (exfalso;first|omega|(simp at HP;done))
  apply sq<;>intro h5 h5p h5s<;>(try simp only[Q,xal,xac] at h5p);focus (exfalso;first|omega|(simp at h5p;done))
  refine xbN un9 .none Z Z Z Z (zbc od) ?_;refine evs [110,123] [] ?_;apply sq<;>intro h6 h6p h6s<;>(try simp only[Q,xal,xac] at h6p);refine bu [0] [_] st74 ?_;refine evs [110,123] [] (ar (so ty74 ?_));refine evs [110,123] [] (rn0 (rc ty74) (.tup (.cons (.agg (qeeeeen ?_ ?_ ?_ ?_ ?_ ?_)) (qe ?_))));rotate_left 7;apply sq<;>intro h7 h7p h7s<;>(try simp only[Q,xal,xac] at h7p);apply sq<;>intro h8 h8p h8s<;>(try simp only[Q,xal,xac] at h8p);refine wc zyt (zqf hsl hm (ztp od od)) Z Z ?_;refine evs [110,123] [] (so ty74 ?_);refine evs [110,123] [] (rn0 (rc ty74) (.tup (.cons (.agg (qeeeeee ?_ ?_ ?_ ?_ ?_ ?_)) (qe ?_))));rotate_left 7;apply sq<;>intro h9 h9p h9s<;>(try simp only[Q,xal,xac] at h9p);refine si [0,1] [_,_] zaz tz29 ?_;refine si [0,1] [_,_] sl22 tz5 ?_;refine evs [110,123] [] (ar (wc zc4 hk1 Z Z ?_));refine evs [110,123] [] (wc zb7 (zaP (s:=s) (a:=K1.2) (c:=41) hsl) Z Z ?_);refine evs [110,123] [] ?_;apply sq<;>intro h10 h10p h10s<;>(try simp only[Q,xal,xac] at h10p);refine bu [] [] st74 ?_;refine so ty74 ?_;refine evs [110,123] [] (rn0 (rc ty74) (.tup (.cons (.agg (qeeeeen ?_ ?_ ?_ ?_ ?_ ?_)) (qe ?_))));rotate_left 7;refine bu [0,5] [_,_] st74 ?_;refine evs [110,123] [] (ar (so ty74 ?_));refine evs [110,123] [] (rn0 (rc ty74) (.tup (.cons (.agg (qeeeeee ?_ ?_ ?_ ?_ ?_ ?_)) (qe ?_))));rotate_left 7;apply sq<;>intro h11 h11p h11s<;>(try simp only[Q,xal,xac] at h11p);apply sq<;>intro h12 h12p h12s<;>(try simp only[Q,xal,xac] at h12p);refine ar (Walk.call (cr:=[]) zb7 (zaP (s:=s) (a:=(m:Int)+1) (c:=64) hsl) Z (.some Z Z h12) Z Z (LeL.refl _) O Z Z Z (evs [110,123] [(90,true)] ?_ ⟨⟨_,Z,h12⟩,O⟩));apply sq<;>intro h13 h13p h13s<;>(try simp only[Q,xal,xac] at h13p);refine si [0] [_] zaz tz29 ?_;refine si [0] [_] sl22 tz5 ?_;refine evs [110,123] [] (ar (ar (wc zc4 (hk2 ⟨by omega,by omega⟩) Z Z ?_)));refine evs [110,123] [] (xcd .none Z Z Z (xbz oz un3 .none Z Z ?_));refine evs [110,123] [] (bu [0,4,5] [_,_,_] st74 ?_);refine evs [110,123] [] (so ty74 ?_);refine evs [110,123] [] (rn0 (rc ty74) (.tup (.cons (.agg (qeeeeee ?_ ?_ ?_ ?_ ?_ ?_)) (qe ?_))));rotate_left 7;apply sq<;>intro h14 h14p h14s<;>(try simp only[Q,xal,xac] at h14p);apply sq<;>intro h15 h15p h15s<;>(try simp only[Q,xal,xac] at h15p);refine xcd .none Z Z Z (xbz oz un3 .none Z Z ?_);refine bu [0,4] [_,_] st74 ?_;refine evs [110,123] [] (ar (so ty74 ?_));refine evs [110,123] [] (rn0 (rc ty74) (.tup (.cons (.agg (qeeeeen ?_ ?_ ?_ ?_ ?_ ?_)) (qe ?_))));rotate_left 7;refine wc zc5 (za9 (s:=s) (n:=m) hsl od) Z Z ?_;refine evs [110,123] [] (wc zc6 hnm Z Z ?_);refine evs [110,123] [] ?_;apply sq<;>intro h16 h16p h16s<;>(try simp only[Q,xal,xac] at h16p);refine bu [] [] st74 ?_;refine so ty74 ?_;refine evs [110,123] [] (rn0 (rc ty74) (.tup (.cons (.agg (qeeeeen ?_ ?_ ?_ ?_ ?_ ?_)) (qe ?_))));rotate_left 7;refine wc zbX (hag od) Z Z ?_;refine evs [110,123] [] (si [0,1,2] [_,_,_] sl22 tz5 ?_);refine evs [110,123] [] (ar (wc zc4 (hk3 od) Z Z ?_));refine evs [110,123] [] (bu [0,1,5] [_,_,_] st74 ?_);refine ab 3023 tz74 ?_;refine so ty74 ?_;apply tv;apply sq<;>intro h17 h17p h17s<;>(try simp only[Q,xal,xac] at h17p);refine so ty74 ?_;refine evs [110,123] [] (rn0 (rc ty74) (.tup (.cons (.agg (qeeeeee ?_ ?_ ?_ ?_ ?_ ?_)) (qe ?_))));rotate_left 7;refine wc zb7 (zaP (s:=s) (a:=K3.2) (c:=41) hsl) Z Z ?_;refine evs [110,123] [] ?_;apply sq<;>intro h18 h18p h18s<;>(try simp only[Q,xal,xac] at h18p);refine bu [] [] st74 ?_;refine so ty74 ?_;refine evs [110,123] [] (rn0 (rc ty74) (.tup (.cons (.agg (qeeeeen ?_ ?_ ?_ ?_ ?_ ?_)) (qe ?_))));rotate_left 7;refine ar (so ty74 ?_);refine evs [110,123] [] (rn0 (rc ty74) (.tup (.cons (.agg (qeeeeee ?_ ?_ ?_ ?_ ?_ ?_)) (qe ?_))));rotate_left 7;refine sqF ?_;refine wc zc5 (za9 (s:=s) (n:=m) hsl od) Z Z ?_;refine evs [110,123] [] (wc zc6 hnm Z Z ?_);refine evs [110,123] [] ?_;apply sq<;>intro h20 h20p h20s<;>(try simp only[Q,xal,xac] at h20p);refine bu [] [] st74 ?_;refine so ty74 ?_;refine evs [110,123] [] (rn0 (rc ty74) (.tup (.cons (.agg (qeeeeen ?_ ?_ ?_ ?_ ?_ ?_)) (qe ?_))));rotate_left 7;refine wc zbX (hag od) Z Z ?_;refine evs [110,123] [] (si [0,1,2] [_,_,_] sl22 tz5 ?_);refine evs [110,123] [] (ar (wc zc4 (hk3 od) Z Z ?_));refine evs [110,123] [] (bu [0,1,5] [_,_,_] st74 ?_);refine ab 3023 tz74 ?_;refine so ty74 ?_;apply tv;apply sq<;>intro h21 h21p h21s<;>(try simp only[Q,xal,xac] at h21p);refine so ty74 ?_;refine evs [110,123] [] (rn0 (rc ty74) (.tup (.cons (.agg (qeeeeee ?_ ?_ ?_ ?_ ?_ ?_)) (qe ?_))));rotate_left 7;refine wc zb7 (zaP (s:=s) (a:=K3.2) (c:=41) hsl) Z Z ?_;refine evs [110,123] [] ?_;apply sq<;>intro h22 h22p h22s<;>(try simp only[Q,xal,xac] at h22p);refine bu [] [] st74 ?_;refine so ty74 ?_;refine evs [110,123] [] (rn0 (rc ty74) (.tup (.cons (.agg (qeeeeen ?_ ?_ ?_ ?_ ?_ ?_)) (qe ?_))));rotate_left 7;refine ar (so ty74 ?_);refine evs [110,123] [] (rn0 (rc ty74) (.tup (.cons (.agg (qeeeeee ?_ ?_ ?_ ?_ ?_ ?_)) (qe ?_))));rotate_left 7;refine sqF ?_;apply sq<;>intro h24 h24p h24s<;>(try simp only[Q,xal,xac] at h24p);apply sq<;>intro h25 h25p h25s<;>(try simp only[Q,xal,xac] at h25p);refine xcd .none Z Z Z (xbz oz un3 .none Z Z ?_);refine bu [0,4] [_,_] st74 ?_;refine evs [110,123] [] (ar (so ty74 ?_));refine evs [110,123] [] (rn0 (rc ty74) (.tup (.cons (.agg (qeeeeen ?_ ?_ ?_ ?_ ?_ ?_)) (qe ?_))));rotate_left 7;refine wc zc5 (za9 (s:=s) (n:=m) hsl od) Z Z ?_;refine evs [110,123] [] (wc zc6 hnm Z Z ?_);refine evs [110,123] [] ?_;apply sq<;>intro h26 h26p h26s<;>(try simp only[Q,xal,xac] at h26p);refine bu [] [] st74 ?_;refine so ty74 ?_;refine evs [110,123] [] (rn0 (rc ty74) (.tup (.cons (.agg (qeeeeen ?_ ?_ ?_ ?_ ?_ ?_)) (qe ?_))));rotate_left 7;refine wc zbX (hag od) Z Z ?_;refine evs [110,123] [] (si [0,1,2] [_,_,_] sl22 tz5 ?_);refine evs [110,123] [] (ar (wc zc4 (hk3 od) Z Z ?_));refine evs [110,123] [] (bu [0,1,5] [_,_,_] st74 ?_);refine ab 3023 tz74 ?_;refine so ty74 ?_;apply tv;apply sq<;>intro h27 h27p h27s<;>(try simp only[Q,xal,xac] at h27p);refine so ty74 ?_;refine evs [110,123] [] (rn0 (rc ty74) (.tup (.cons (.agg (qeeeeee ?_ ?_ ?_ ?_ ?_ ?_)) (qe ?_))));rotate_left 7;refine wc zb7 (zaP (s:=s) (a:=K3.2) (c:=41) hsl) Z Z ?_;refine evs [110,123] [] ?_;apply sq<;>intro h28 h28p h28s<;>(try simp only[Q,xal,xac] at h28p);refine bu [] [] st74 ?_;refine so ty74 ?_;refine evs [110,123] [] (rn0 (rc ty74) (.tup (.cons (.agg (qeeeeen ?_ ?_ ?_ ?_ ?_ ?_)) (qe ?_))));rotate_left 7;refine ar (so ty74 ?_);refine evs [110,123] [] (rn0 (rc ty74) (.tup (.cons (.agg (qeeeeee ?_ ?_ ?_ ?_ ?_ ?_)) (qe ?_))));rotate_left 7;refine sqF ?_;refine wc zc5 (za9 (s:=s) (n:=m) hsl od) Z Z ?_;refine evs [110,123] [] (wc zc6 hnm Z Z ?_);refine evs [110,123] [] ?_;apply sq<;>intro h30 h30p h30s<;>(try simp only[Q,xal,xac] at h30p);refine bu [] [] st74 ?_;refine so ty74 ?_;refine evs [110,123] [] (rn0 (rc ty74) (.tup (.cons (.agg (qeeeeen ?_ ?_ ?_ ?_ ?_ ?_)) (qe ?_))));rotate_left 7;refine wc zbX (hag od) Z Z ?_;refine evs [110,123] [] (si [0,1,2] [_,_,_] sl22 tz5 ?_);refine evs [110,123] [] (ar (wc zc4 (hk3 od) Z Z ?_));refine evs [110,123] [] (bu [0,1,5] [_,_,_] st74 ?_);refine ab 3023 tz74 ?_;refine so ty74 ?_;apply tv;apply sq<;>intro h31 h31p h31s<;>(try simp only[Q,xal,xac] at h31p);refine so ty74 ?_;refine evs [110,123] [] (rn0 (rc ty74) (.tup (.cons (.agg (qeeeeee ?_ ?_ ?_ ?_ ?_ ?_)) (qe ?_))));rotate_left 7;refine wc zb7 (zaP (s:=s) (a:=K3.2) (c:=41) hsl) Z Z ?_;refine evs [110,123] [] ?_;apply sq<;>intro h32 h32p h32s<;>(try simp only[Q,xal,xac] at h32p);refine bu [] [] st74 ?_;refine so ty74 ?_;refine evs [110,123] [] (rn0 (rc ty74) (.tup (.cons (.agg (qeeeeen ?_ ?_ ?_ ?_ ?_ ?_)) (qe ?_))));rotate_left 7;refine ar (so ty74 ?_);refine evs [110,123] [] (rn0 (rc ty74) (.tup (.cons (.agg (qeeeeee ?_ ?_ ?_ ?_ ?_ ?_)) (qe ?_))));rotate_left 7;refine sqF ?_;refine sqF ?_;apply sq<;>intro h34 h34p h34s<;>(try simp only[Q,xal,xac] at h34p);apply sq<;>intro h35 h35p h35s<;>(try simp only[Q,xal,xac] at h35p);refine xcd .none Z Z Z (xbz oz un3 .none Z Z ?_);refine bu [0,4] [_,_] st74 ?_;refine evs [110,123] [] (ar (so ty74 ?_));refine evs [110,123] [] (rn0 (rc ty74) (.tup (.cons (.agg (qeeeeen ?_ ?_ ?_ ?_ ?_ ?_)) (qe ?_))));rotate_left 7;refine wc zc5 (za9 (s:=s) (n:=m) hsl od) Z Z ?_;refine evs [110,123] [] (wc zc6 hnm Z Z ?_);refine evs [110,123] [] ?_;apply sq<;>intro h36 h36p h36s<;>(try simp only[Q,xal,xac] at h36p);refine bu [] [] st74 ?_;refine so ty74 ?_;refine evs [110,123] [] (rn0 (rc ty74) (.tup (.cons (.agg (qeeeeen ?_ ?_ ?_ ?_ ?_ ?_)) (qe ?_))));rotate_left 7;refine wc zbX (hag od) Z Z ?_;refine evs [110,123] [] (si [0,1,2] [_,_,_] sl22 tz5 ?_);refine evs [110,123] [] (ar (wc zc4 (hk3 od) Z Z ?_));refine evs [110,123] [] (bu [0,1,5] [_,_,_] st74 ?_);refine ab 3023 tz74 ?_;refine so ty74 ?_;apply tv;apply sq<;>intro h37 h37p h37s<;>(try simp only[Q,xal,xac] at h37p);refine so ty74 ?_;refine evs [110,123] [] (rn0 (rc ty74) (.tup (.cons (.agg (qeeeeee ?_ ?_ ?_ ?_ ?_ ?_)) (qe ?_))));rotate_left 7;refine wc zb7 (zaP (s:=s) (a:=K3.2) (c:=41) hsl) Z Z ?_;refine evs [110,123] [] ?_;apply sq<;>intro h38 h38p h38s<;>(try simp only[Q,xal,xac] at h38p);refine bu [] [] st74 ?_;refine so ty74 ?_;refine evs [110,123] [] (rn0 (rc ty74) (.tup (.cons (.agg (qeeeeen ?_ ?_ ?_ ?_ ?_ ?_)) (qe ?_))));rotate_left 7;refine ar (so ty74 ?_);refine evs [110,123] [] (rn0 (rc ty74) (.tup (.cons (.agg (qeeeeee ?_ ?_ ?_ ?_ ?_ ?_)) (qe ?_))));rotate_left 7;refine sqF ?_;refine wc zc5 (za9 (s:=s) (n:=m) hsl od) Z Z ?_;refine evs [110,123] [] (wc zc6 hnm Z Z ?_);refine evs [110,123] [] ?_;apply sq<;>intro h40 h40p h40s<;>(try simp only[Q,xal,xac] at h40p);refine bu [] [] st74 ?_;refine so ty74 ?_;refine evs [110,123] [] (rn0 (rc ty74) (.tup (.cons (.agg (qeeeeen ?_ ?_ ?_ ?_ ?_ ?_)) (qe ?_))));rotate_left 7;refine wc zbX (hag od) Z Z ?_;refine evs [110,123] [] (si [0,1,2] [_,_,_] sl22 tz5 ?_);refine evs [110,123] [] (ar (wc zc4 (hk3 od) Z Z ?_));refine evs [110,123] [] (bu [0,1,5] [_,_,_] st74 ?_);refine ab 3023 tz74 ?_;refine so ty74 ?_;apply tv;apply sq<;>intro h41 h41p h41s<;>(try simp only[Q,xal,xac] at h41p);refine so ty74 ?_;refine evs [110,123] [] (rn0 (rc ty74) (.tup (.cons (.agg (qeeeeee ?_ ?_ ?_ ?_ ?_ ?_)) (qe ?_))));rotate_left 7;refine wc zb7 (zaP (s:=s) (a:=K3.2) (c:=41) hsl) Z Z ?_;refine evs [110,123] [] ?_;apply sq<;>intro h42 h42p h42s<;>(try simp only[Q,xal,xac] at h42p);refine bu [] [] st74 ?_;refine so ty74 ?_;refine evs [110,123] [] (rn0 (rc ty74) (.tup (.cons (.agg (qeeeeen ?_ ?_ ?_ ?_ ?_ ?_)) (qe ?_))));rotate_left 7;refine ar (so ty74 ?_);refine evs [110,123] [] (rn0 (rc ty74) (.tup (.cons (.agg (qeeeeee ?_ ?_ ?_ ?_ ?_ ?_)) (qe ?_))));rotate_left 7;refine sqF ?_;apply sq<;>intro h44 h44p h44s<;>(try simp only[Q,xal,xac] at h44p);refine si [0,1] [_,_] zaz tz29 ?_;refine si [0,1] [_,_] sl22 tz5 ?_;refine evs [110,123] [] (ar (wc zc4 hk1 Z Z ?_));refine evs [110,123] [] (wc zb7 (zaP (s:=s) (a:=K1.2) (c:=41) hsl) Z Z ?_);refine evs [110,123] [] ?_;apply sq<;>intro h45 h45p h45s<;>(try simp only[Q,xal,xac] at h45p);refine bu [] [] st74 ?_;refine so ty74 ?_;refine evs [110,123] [] (rn0 (rc ty74) (.tup (.cons (.agg (qeeeeen ?_ ?_ ?_ ?_ ?_ ?_)) (qe ?_))));rotate_left 7;refine bu [0,5] [_,_] st74 ?_;refine evs [110,123] [] (ar (so ty74 ?_));refine evs [110,123] [] (rn0 (rc ty74) (.tup (.cons (.agg (qeeeeee ?_ ?_ ?_ ?_ ?_ ?_)) (qe ?_))));rotate_left 7;apply sq<;>intro h46 h46p h46s<;>(try simp only[Q,xal,xac] at h46p);apply sq<;>intro h47 h47p h47s<;>(try simp only[Q,xal,xac] at h47p);refine ar (Walk.call (cr:=[]) zb7 (zaP (s:=s) (a:=(m:Int)+1) (c:=64) hsl) Z (.some Z Z h47) Z Z (LeL.refl _) O Z Z Z (evs [110,123] [(90,true)] ?_ ⟨⟨_,Z,h47⟩,O⟩));apply sq<;>intro h48 h48p h48s<;>(try simp only[Q,xal,xac] at h48p);refine si [0] [_] zaz tz29 ?_;refine si [0] [_] sl22 tz5 ?_;refine evs [110,123] [] (ar (ar (wc zc4 (hk2 ⟨by omega,by omega⟩) Z Z ?_)));refine evs [110,123] [] (xcd .none Z Z Z (xbz oz un3 .none Z Z ?_));refine evs [110,123] [] (bu [0,4,5] [_,_,_] st74 ?_);refine evs [110,123] [] (so ty74 ?_);refine evs [110,123] [] (rn0 (rc ty74) (.tup (.cons (.agg (qeeeeee ?_ ?_ ?_ ?_ ?_ ?_)) (qe ?_))));rotate_left 7;apply sq<;>intro h49 h49p h49s<;>(try simp only[Q,xal,xac] at h49p);apply sq<;>intro h50 h50p h50s<;>(try simp only[Q,xal,xac] at h50p);refine xcd .none Z Z Z (xbz oz un3 .none Z Z ?_);refine bu [0,4] [_,_] st74 ?_;refine evs [110,123] [] (ar (so ty74 ?_));refine evs [110,123] [] (rn0 (rc ty74) (.tup (.cons (.agg (qeeeeen ?_ ?_ ?_ ?_ ?_ ?_)) (qe ?_))));rotate_left 7;refine wc zc5 (za9 (s:=s) (n:=m) hsl od) Z Z ?_;refine evs [110,123] [] (wc zc6 hnm Z Z ?_);refine evs [110,123] [] ?_;apply sq<;>intro h51 h51p h51s<;>(try simp only[Q,xal,xac] at h51p);refine bu [] [] st74 ?_;refine so ty74 ?_;refine evs [110,123] [] (rn0 (rc ty74) (.tup (.cons (.agg (qeeeeen ?_ ?_ ?_ ?_ ?_ ?_)) (qe ?_))));rotate_left 7;refine wc zbX (hag od) Z Z ?_;refine evs [110,123] [] (si [0,1,2] [_,_,_] sl22 tz5 ?_);refine evs [110,123] [] (ar (wc zc4 (hk3 od) Z Z ?_));refine evs [110,123] [] (bu [0,1,5] [_,_,_] st74 ?_);refine ab 3023 tz74 ?_;refine so ty74 ?_;apply tv;apply sq<;>intro h52 h52p h52s<;>(try simp only[Q,xal,xac] at h52p);refine so ty74 ?_;refine evs [110,123] [] (rn0 (rc ty74) (.tup (.cons (.agg (qeeeeee ?_ ?_ ?_ ?_ ?_ ?_)) (qe ?_))));rotate_left 7;refine wc zb7 (zaP (s:=s) (a:=K3.2) (c:=41) hsl) Z Z ?_;refine evs [110,123] [] ?_;apply sq<;>intro h53 h53p h53s<;>(try simp only[Q,xal,xac] at h53p);refine bu [] [] st74 ?_;refine so ty74 ?_;refine evs [110,123] [] (rn0 (rc ty74) (.tup (.cons (.agg (qeeeeen ?_ ?_ ?_ ?_ ?_ ?_)) (qe ?_))));rotate_left 7;refine ar (so ty74 ?_);refine evs [110,123] [] (rn0 (rc ty74) (.tup (.cons (.agg (qeeeeee ?_ ?_ ?_ ?_ ?_ ?_)) (qe ?_))));rotate_left 7;refine sqF ?_;refine wc zc5 (za9 (s:=s) (n:=m) hsl od) Z Z ?_;refine evs [110,123] [] (wc zc6 hnm Z Z ?_);refine evs [110,123] [] ?_;apply sq<;>intro h55 h55p h55s<;>(try simp only[Q,xal,xac] at h55p);refine bu [] [] st74 ?_;refine so ty74 ?_;refine evs [110,123] [] (rn0 (rc ty74) (.tup (.cons (.agg (qeeeeen ?_ ?_ ?_ ?_ ?_ ?_)) (qe ?_))));rotate_left 7;refine wc zbX (hag od) Z Z ?_;refine evs [110,123] [] (si [0,1,2] [_,_,_] sl22 tz5 ?_);refine evs [110,123] [] (ar (wc zc4 (hk3 od) Z Z ?_));refine evs [110,123] [] (bu [0,1,5] [_,_,_] st74 ?_);refine ab 3023 tz74 ?_;refine so ty74 ?_;apply tv;apply sq<;>intro h56 h56p h56s<;>(try simp only[Q,xal,xac] at h56p);refine so ty74 ?_;refine evs [110,123] [] (rn0 (rc ty74) (.tup (.cons (.agg (qeeeeee ?_ ?_ ?_ ?_ ?_ ?_)) (qe ?_))));rotate_left 7;refine wc zb7 (zaP (s:=s) (a:=K3.2) (c:=41) hsl) Z Z ?_;refine evs [110,123] [] ?_;apply sq<;>intro h57 h57p h57s<;>(try simp only[Q,xal,xac] at h57p);refine bu [] [] st74 ?_;refine so ty74 ?_;refine evs [110,123] [] (rn0 (rc ty74) (.tup (.cons (.agg (qeeeeen ?_ ?_ ?_ ?_ ?_ ?_)) (qe ?_))));rotate_left 7;refine ar (so ty74 ?_);refine evs [110,123] [] (rn0 (rc ty74) (.tup (.cons (.agg (qeeeeee ?_ ?_ ?_ ?_ ?_ ?_)) (qe ?_))));rotate_left 7;refine sqF ?_;apply sq<;>intro h59 h59p h59s<;>(try simp only[Q,xal,xac] at h59p);apply sq<;>intro h60 h60p h60s<;>(try simp only[Q,xal,xac] at h60p);refine xcd .none Z Z Z (xbz oz un3 .none Z Z ?_);refine bu [0,4] [_,_] st74 ?_;refine evs [110,123] [] (ar (so ty74 ?_));refine evs [110,123] [] (rn0 (rc ty74) (.tup (.cons (.agg (qeeeeen ?_ ?_ ?_ ?_ ?_ ?_)) (qe ?_))));rotate_left 7;refine wc zc5 (za9 (s:=s) (n:=m) hsl od) Z Z ?_;refine evs [110,123] [] (wc zc6 hnm Z Z ?_);refine evs [110,123] [] ?_;apply sq<;>intro h61 h61p h61s<;>(try simp only[Q,xal,xac] at h61p);refine bu [] [] st74 ?_;refine so ty74 ?_;refine evs [110,123] [] (rn0 (rc ty74) (.tup (.cons (.agg (qeeeeen ?_ ?_ ?_ ?_ ?_ ?_)) (qe ?_))));rotate_left 7;refine wc zbX (hag od) Z Z ?_;refine evs [110,123] [] (si [0,1,2] [_,_,_] sl22 tz5 ?_);refine evs [110,123] [] (ar (wc zc4 (hk3 od) Z Z ?_));refine evs [110,123] [] (bu [0,1,5] [_,_,_] st74 ?_);refine ab 3023 tz74 ?_;refine so ty74 ?_;apply tv;apply sq<;>intro h62 h62p h62s<;>(try simp only[Q,xal,xac] at h62p);refine so ty74 ?_;refine evs [110,123] [] (rn0 (rc ty74) (.tup (.cons (.agg (qeeeeee ?_ ?_ ?_ ?_ ?_ ?_)) (qe ?_))));rotate_left 7;refine wc zb7 (zaP (s:=s) (a:=K3.2) (c:=41) hsl) Z Z ?_;refine evs [110,123] [] ?_;apply sq<;>intro h63 h63p h63s<;>(try simp only[Q,xal,xac] at h63p);refine bu [] [] st74 ?_;refine so ty74 ?_;refine evs [110,123] [] (rn0 (rc ty74) (.tup (.cons (.agg (qeeeeen ?_ ?_ ?_ ?_ ?_ ?_)) (qe ?_))));rotate_left 7;refine ar (so ty74 ?_);refine evs [110,123] [] (rn0 (rc ty74) (.tup (.cons (.agg (qeeeeee ?_ ?_ ?_ ?_ ?_ ?_)) (qe ?_))));rotate_left 7;refine sqF ?_;refine wc zc5 (za9 (s:=s) (n:=m) hsl od) Z Z ?_;refine evs [110,123] [] (wc zc6 hnm Z Z ?_);refine evs [110,123] [] ?_;apply sq<;>intro h65 h65p h65s<;>(try simp only[Q,xal,xac] at h65p);refine bu [] [] st74 ?_;refine so ty74 ?_;refine evs [110,123] [] (rn0 (rc ty74) (.tup (.cons (.agg (qeeeeen ?_ ?_ ?_ ?_ ?_ ?_)) (qe ?_))));rotate_left 7;refine wc zbX (hag od) Z Z ?_;refine evs [110,123] [] (si [0,1,2] [_,_,_] sl22 tz5 ?_);refine evs [110,123] [] (ar (wc zc4 (hk3 od) Z Z ?_));refine evs [110,123] [] (bu [0,1,5] [_,_,_] st74 ?_);refine ab 3023 tz74 ?_;refine so ty74 ?_;apply tv;apply sq<;>intro h66 h66p h66s<;>(try simp only[Q,xal,xac] at h66p);refine so ty74 ?_;refine evs [110,123] [] (rn0 (rc ty74) (.tup (.cons (.agg (qeeeeee ?_ ?_ ?_ ?_ ?_ ?_)) (qe ?_))));rotate_left 7;refine wc zb7 (zaP (s:=s) (a:=K3.2) (c:=41) hsl) Z Z ?_;refine evs [110,123] [] ?_;apply sq<;>intro h67 h67p h67s<;>(try simp only[Q,xal,xac] at h67p);refine bu [] [] st74 ?_;refine so ty74 ?_;refine evs [110,123] [] (rn0 (rc ty74) (.tup (.cons (.agg (qeeeeen ?_ ?_ ?_ ?_ ?_ ?_)) (qe ?_))));rotate_left 7;refine ar (so ty74 ?_);refine evs [110,123] [] (rn0 (rc ty74) (.tup (.cons (.agg (qeeeeee ?_ ?_ ?_ ?_ ?_ ?_)) (qe ?_))));rotate_left 7;refine sqF ?_;refine sqF ?_;apply sq<;>intro h69 h69p h69s<;>(try simp only[Q,xal,xac] at h69p);apply sq<;>intro h70 h70p h70s<;>(try simp only[Q,xal,xac] at h70p);refine xcd .none Z Z Z (xbz oz un3 .none Z Z ?_);refine bu [0,4] [_,_] st74 ?_;refine evs [110,123] [] (ar (so ty74 ?_));refine evs [110,123] [] (rn0 (rc ty74) (.tup (.cons (.agg (qeeeeen ?_ ?_ ?_ ?_ ?_ ?_)) (qe ?_))));rotate_left 7;refine wc zc5 (za9 (s:=s) (n:=m) hsl od) Z Z ?_;refine evs [110,123] [] (wc zc6 hnm Z Z ?_);refine evs [110,123] [] ?_;apply sq<;>intro h71 h71p h71s<;>(try simp only[Q,xal,xac] at h71p);refine bu [] [] st74 ?_;refine so ty74 ?_;refine evs [110,123] [] (rn0 (rc ty74) (.tup (.cons (.agg (qeeeeen ?_ ?_ ?_ ?_ ?_ ?_)) (qe ?_))));rotate_left 7;refine wc zbX (hag od) Z Z ?_;refine evs [110,123] [] (si [0,1,2] [_,_,_] sl22 tz5 ?_);refine evs [110,123] [] (ar (wc zc4 (hk3 od) Z Z ?_));refine evs [110,123] [] (bu [0,1,5] [_,_,_] st74 ?_);refine ab 3023 tz74 ?_;refine so ty74 ?_;apply tv;apply sq<;>intro h72 h72p h72s<;>(try simp only[Q,xal,xac] at h72p);refine so ty74 ?_;refine evs [110,123] [] (rn0 (rc ty74) (.tup (.cons (.agg (qeeeeee ?_ ?_ ?_ ?_ ?_ ?_)) (qe ?_))));rotate_left 7;refine wc zb7 (zaP (s:=s) (a:=K3.2) (c:=41) hsl) Z Z ?_;refine evs [110,123] [] ?_;apply sq<;>intro h73 h73p h73s<;>(try simp only[Q,xal,xac] at h73p);refine bu [] [] st74 ?_;refine so ty74 ?_;refine evs [110,123] [] (rn0 (rc ty74) (.tup (.cons (.agg (qeeeeen ?_ ?_ ?_ ?_ ?_ ?_)) (qe ?_))));rotate_left 7;refine ar (so ty74 ?_);refine evs [110,123] [] (rn0 (rc ty74) (.tup (.cons (.agg (qeeeeee ?_ ?_ ?_ ?_ ?_ ?_)) (qe ?_))));rotate_left 7;refine sqF ?_;refine wc zc5 (za9 (s:=s) (n:=m) hsl od) Z Z ?_;refine evs [110,123] [] (wc zc6 hnm Z Z ?_);refine evs [110,123] [] ?_;apply sq<;>intro h75 h75p h75s<;>(try simp only[Q,xal,xac] at h75p);refine bu [] [] st74 ?_;refine so ty74 ?_;refine evs [110,123] [] (rn0 (rc ty74) (.tup (.cons (.agg (qeeeeen ?_ ?_ ?_ ?_ ?_ ?_)) (qe ?_))));rotate_left 7;refine wc zbX (hag od) Z Z ?_;refine evs [110,123] [] (si [0,1,2] [_,_,_] sl22 tz5 ?_);refine evs [110,123] [] (ar (wc zc4 (hk3 od) Z Z ?_));refine evs [110,123] [] (bu [0,1,5] [_,_,_] st74 ?_);refine ab 3023 tz74 ?_;refine so ty74 ?_;apply tv;apply sq<;>intro h76 h76p h76s<;>(try simp only[Q,xal,xac] at h76p);refine so ty74 ?_;refine evs [110,123] [] (rn0 (rc ty74) (.tup (.cons (.agg (qeeeeee ?_ ?_ ?_ ?_ ?_ ?_)) (qe ?_))));rotate_left 7;refine wc zb7 (zaP (s:=s) (a:=K3.2) (c:=41) hsl) Z Z ?_;refine evs [110,123] [] ?_;apply sq<;>intro h77 h77p h77s<;>(try simp only[Q,xal,xac] at h77p);refine bu [] [] st74 ?_;refine so ty74 ?_;refine evs [110,123] [] (rn0 (rc ty74) (.tup (.cons (.agg (qeeeeen ?_ ?_ ?_ ?_ ?_ ?_)) (qe ?_))));rotate_left 7;refine ar (so ty74 ?_);refine evs [110,123] [] (rn0 (rc ty74) (.tup (.cons (.agg (qeeeeee ?_ ?_ ?_ ?_ ?_ ?_)) (qe ?_))));rotate_left 7;all_goals (first|(rw[q0 od];all_goals rfl)|(rw[q1 od od];done)|(rw[q1 od od];all_goals rfl)|(rw[q2a od ol];all_goals rfl)|(rw[q2b od ol];all_goals rfl)|(rw[q3a od od ol];all_goals first|(rw[zmn od od];all_goals rfl)|rfl)|(rw[q3b od od ol];all_goals first|(rw[zmn od od];all_goals rfl)|rfl)|(rw[q4a od od od od od];all_goals rfl)|(rw[q4b od od od od od od];all_goals rfl)|(rw[q4c od od od od od od ol];all_goals rfl)|(rw[q4d od od od od od od ol];all_goals rfl)|(exfalso;omega))
def letV (n:Int):Str:=strN [IntKind.u8.wrap (97+IntKind.u8.wrap n)]
theorem zeK (n:Int):(letV n).length=1:=rfl
def zcr {α:Type} (f:Ty->α->Str):Bool->List Ty->List α->Str
 |b,t::ts,p::ps=>((if b=true then [40] else [44])++f t p)++zcr f false ts ps
 |_,_,_=>[]
theorem zjO {α:Type} [Inhabited α]{f:Ty->α->Str}:∀(i:Nat){b:Bool}{ts:List Ty}{ks:List α},i<ts.length->i<ks.length->
  zcr f b (ts.take (i+1)) (ks.take (i+1))=zcr f b (ts.take i) (ks.take i)++((if b=true/\i=0 then [40] else [44])++f (nth ts i) (nth ks i))
 |_,_,[],_,h,_=>by simp at h
 |_,_,_::_,[],_,h=>by simp at h
 |0,b,t::ts,k::ks,_,_=>by
  simp only[List.take_succ_cons,List.take_zero,zcr,xaq,List.nil_append,and_true];rfl
 |i+1,b,t::ts,k::ks,h1,h2=>by
  have ih:=zjO (f:=f) i (b:=false) (ts:=ts) (ks:=ks) (by simpa using h1) (by simpa using h2);rw[if_neg (fun h=>absurd h.1 oi)] at ih;have e:(if b=true/\i+1=0 then ([40]:Str) else [44])=[44]:=if_neg od;rw[List.take_succ_cons,List.take_succ_cons,zcr,ih,List.take_succ_cons,List.take_succ_cons,zcr,e,xar ((if b=true then [40] else [44])++f t k)];rfl
theorem zpM:∀(l:List Pat) (i:Nat),Pats.size (l.take i)<=Pats.size l
 | [],i=>by simp
 |x::r,0=>by simp[Pats.size]
 |x::r,i+1=>by
  have:=zpM r i;rw[List.take_succ_cons,Pats.size,Pats.size];omega
theorem zk5 {f:Ty->Pat->Str}:∀(b:Bool) (ts:List Ty) (ks:List Pat),(∀i,i<ts.length->i<ks.length->(f (nth ts i) (nth ks i)).length<=10*(nth ks i).size)->(zcr f b ts ks).length<=ks.length+10*Pats.size ks
 |_,[],ks,_=>by simp[zcr]
 |_,_::_,[],_=>by simp[zcr]
 |b,t::ts,k::ks,h=>by
  have ih:=zk5 false ts ks (fun i h1 h2=>h (i+1) (by simpa using h1) (by simpa using h2));have h0:=h 0 oi oi;have h0':(f t k).length<=10*k.size:=h0;have h3:(if b=true then [(40:UInt8)] else [44]).length=1:=by split<;>rfl
  rw[zcr,xaa,xaa,Pats.size,h3];simp only[xab];omega
def zbf (w:List Data):Nat->Ty->Pat->Str
 |0,_,_=>[]
 |n+1,t,p=>
  if p.op=1 then [95]
  else if p.op=2 then letV p.var
  else if p.op=3 then (if p.n=p.m then decV p.n else decV p.n++[45]++decV p.m)
  else if p.op=5 then [40]++zbf w n t (nth p.kids 0)++[124]++zbf w n t (nth p.kids 1)++[41]
  else if p.op=6 then letV p.var++[64]++zbf w n t (nth p.kids 0)
  else (zdZ w t p.ctor++zcr (zbf w n) true (zae w t p.ctor) p.kids)++(if 0<(zae w t p.ctor).length then [41] else [])
theorem zhQ {w:List Data} (hw:WT w) (hb:TB w){a k c:Int} (ht:TyIn w.length ⟨a,k⟩) (hc:c∈zas w ⟨a,k⟩):(zdZ w ⟨a,k⟩ c).length<=5/\(zae w ⟨a,k⟩ c).length<=3:=by
 obtain⟨d,rfl,hd,j,rfl,hj⟩:=zbE ht hc;have:=hb.cn (nth w d) (zaf hd) (nth (nth w d).ctors j) (zaf hj);refine⟨this.1, ?_⟩;unfold zae;simp only[xac];exact this.2.1
theorem zu3 {w:List Data}{t:Ty}{p:Pat} (h:ownP w t p=true):(p.op=1\/p.op=2\/p.op=3\/p.op=5\/p.op=6\/p.op=4)/\((p.op=2\/p.op=6)->0<=p.var/\p.var<=5)/\(p.op=3->0<=p.n/\p.n<=p.m/\p.m<=9)/\(p.op=4->p.ctor∈zas w t):=by
 unfold ownP at h;have h':=xas h;refine⟨?_,h'.1,fun h3=>?_,fun h4=>?_⟩
 ·rcases h'.2.2.2.2 with h|h|h|h|h|h<;>omega
 ·rcases h'.2.2.2.2 with h|h|h|h|h|h<;>omega
 ·rcases h'.2.2.2.2 with h|h|h|h|h|h
  all_goals first|exact h.2|omega
theorem zlz {w:List Data}{t:Ty}{p:Pat} (h:p.op=4):zai w t p=zae w t p.ctor:=by unfold zai;rw[if_pos h]
theorem zhy {w:List Data}{t:Ty}{p:Pat} (h:p.op=5):zai w t p=[t,t]:=by unfold zai;rw[if_neg od,if_pos h]
theorem zlA {w:List Data}{t:Ty}{p:Pat} (h:p.op=6):zai w t p=[t]:=by unfold zai;rw[if_neg od,if_neg od,if_pos h]
theorem zrs {l:List Pat}{i:Nat} (h:i<l.length):(nth l i).size<=Pats.size l:=xa8 (zaf h)
theorem zgQ {w:List Data} (hw:WT w) (hb:TB w):∀(n:Nat){a k:Int}{p:Pat},zat w n ⟨a,k⟩ p=true->TyIn w.length ⟨a,k⟩->(zbf w n ⟨a,k⟩ p).length<=10*p.size
 |0,a,k,p,h,_=>by simp[zat] at h
 |n+1,a,k,p,h,ht=>by
  obtain⟨ho,hl⟩:=zbR h;have hin:=zeT hw ht ho;obtain⟨o1,o2,o3,o4⟩:=zu3 ho;have hk:∀i,i<p.kids.length->(zbf w n (nth (zai w ⟨a,k⟩ p) i) (nth p.kids i)).length<=10*(nth p.kids i).size:=fun i hi=>
   zgQ hw hb n (a:=(nth (zai w ⟨a,k⟩ p) i).data) (k:=(nth (zai w ⟨a,k⟩ p) i).index) (zbC h hi) (hin _ (zaf od))
  rw[xa5];unfold zbf;split
  ·simp;omega
  split
  ·rw[zeK];omega
  split
  ·split
   ·rw[zc0];omega
   ·simp only[xaa,zc0,xab,xak];omega
  split
  ·rename_i h5;rw[zhy h5] at hl hk;have hl2:p.kids.length=2:=hl;have k0:=hk 0 od;have k1:=hk 1 od;have k0':(zbf w n ⟨a,k⟩ (nth p.kids 0)).length<=10*(nth p.kids 0).size:=k0;have k1':(zbf w n ⟨a,k⟩ (nth p.kids 1)).length<=10*(nth p.kids 1).size:=k1;have hs:(nth p.kids 0).size+(nth p.kids 1).size=Pats.size p.kids:=by
    generalize p.kids=l at *;rcases l with _|⟨x,_|⟨y,_|⟨z,r⟩⟩⟩
    ·simp at hl2
    ·simp at hl2
    ·simp[Pats.size,nth]
    ·simp at hl2
   simp only[xaa,xab,xak];omega
  split
  ·rename_i h6;rw[zlA h6] at hl hk;have hl2:p.kids.length=1:=hl;have k0':(zbf w n ⟨a,k⟩ (nth p.kids 0)).length<=10*(nth p.kids 0).size:=hk 0 od;have:=zrs (l:=p.kids) (i:=0) od;simp only[xaa,zeK,xab,xak];omega
  ·have h4:p.op=4:=by omega
   rw[zlz h4] at hl hk;have:=zhQ hw hb ht (o4 h4);have h1:=zk5 (f:=zbf w n) true (zae w ⟨a,k⟩ p.ctor) p.kids (fun i h1 h2=>hk i h2);have h3:(if 0<(zae w ⟨a,k⟩ p.ctor).length then [(41:UInt8)] else []).length<=1:=by split<;>simp
   simp only[xaa];omega
theorem zdr {n:Int}:FnD Tryz.prog 271 [.d (.i n)] [] (.d (.str (letV n))) []:=by
 refine bd Tryz.f271 8 [5] [] fun _ _ _ _ hk=>?_;refine xbz (by rw[un3];rfl) un5 .none Z Z ?_;refine Walk.addW .none Z Z Z (si [0] [_] sl22 tz5 ?_);refine xbu sl22 un9 oq .none Z Z Z (by first|rfl|exact zkH _) ?_;refine evs [5] [] ?_;focus (refine rq ?_;all_goals (rfl))
section
variable {w:List Data}{n:Nat}{t:Ty}{p:Pat}
theorem tx1 (h:p.op=1):zbf w (n+1) t p=[95]:=by unfold zbf;rw[if_pos h]
theorem tx2 (h:p.op=2):zbf w (n+1) t p=letV p.var:=by unfold zbf;rw[if_neg od,if_pos h]
theorem tx3a (h:p.op=3) (h2:p.n=p.m):zbf w (n+1) t p=decV p.n:=by unfold zbf;rw[if_neg od,if_neg od,if_pos h,if_pos h2]
theorem tx3b (h:p.op=3) (h2:¬p.n=p.m):zbf w (n+1) t p=decV p.n++[45]++decV p.m:=by unfold zbf;rw[if_neg od,if_neg od,if_pos h,if_neg h2]
theorem tx5 (h:p.op=5):zbf w (n+1) t p=[40]++zbf w n t (nth p.kids 0)++[124]++zbf w n t (nth p.kids 1)++[41]:=by rw[zbf];rw[if_neg od,if_neg od,if_neg od,if_pos h]
theorem tx6 (h:p.op=6):zbf w (n+1) t p=letV p.var++[64]++zbf w n t (nth p.kids 0):=by rw[zbf];rw[if_neg od,if_neg od,if_neg od,if_neg od,if_pos h]
theorem tx4 (h:p.op=4):zbf w (n+1) t p=(zdZ w t p.ctor++zcr (zbf w n) true (zae w t p.ctor) p.kids)++(if 0<(zae w t p.ctor).length then [41] else []):=by rw[zbf];rw[if_neg od,if_neg od,if_neg od,if_neg od,if_neg od]
end
theorem zjf {w:List Data} (hw:WT w) (hb:TB w):∀(n:Nat){a k:Int}{p:Pat},zat w n ⟨a,k⟩ p=true->TyIn w.length ⟨a,k⟩->p.ok->p.size<=10000000->
  FnD Tryz.prog 270 [.d (zaj w),.agg [.d (.i a),.d (.i k)],.agg [.d (.i p.op),.d (.i p.ctor),.d (.i p.n),.d (.i p.m),.d (.i p.var),.d (zak p.kids)]] [] (.d (.str (zbf w n ⟨a,k⟩ p))) []
 |0,a,k,p,h,_,_,_=>by simp[zat] at h
 |n+1,a,k,p,h,ht,hok,hsz=>by
  obtain⟨ho,hl⟩:=zbR h;have hin:=zeT hw ht ho;obtain⟨o1,o2,o3,o4⟩:=zu3 ho;rw[xa5] at hsz;rw[xa4] at hok;have hkid:∀i,i<p.kids.length->∀t,t=nth (zai w ⟨a,k⟩ p) i->FnD Tryz.prog 270 [.d (zaj w),.agg [.d (.i t.data),.d (.i t.index)],.agg [.d (.i (nth p.kids i).op),.d (.i (nth p.kids i).ctor),.d (.i (nth p.kids i).n),.d (.i (nth p.kids i).m),.d (.i (nth p.kids i).var),.d (zak (nth p.kids i).kids)]] [] (.d (.str (zbf w n t (nth p.kids i)))) []:=fun i hi t e=>by
   subst e;exact zjf hw hb n (a:=(nth (zai w ⟨a,k⟩ p) i).data) (k:=(nth (zai w ⟨a,k⟩ p) i).index) (zbC h hi) (hin _ (zaf od)) (xa6 hok.2 _ (zaf hi)) (by have:=zrs hi;omega)
  have hlen:∀i,i<p.kids.length->∀t,t=nth (zai w ⟨a,k⟩ p) i->(zbf w n t (nth p.kids i)).length<=100000000:=fun i hi t e=>by
   subst e;have:=zgQ hw hb n (a:=(nth (zai w ⟨a,k⟩ p) i).data) (k:=(nth (zai w ⟨a,k⟩ p) i).index) (zbC h hi) (hin _ (zaf od));have h2:=zrs hi;have h3:(zbf w n (nth (zai w ⟨a,k⟩ p) i) (nth p.kids i)).length<=10*(nth p.kids i).size:=this;omega
  by_cases h4:p.op=4
  ·rw[zlz h4] at hl hkid hlen;have hc:=o4 h4;obtain⟨n1,n2⟩:=zhQ hw hb ht hc;have hag:=zb4 hw ht hc;obtain⟨d,rfl,hd,j,hj0,hj⟩:=zbE ht hc;have hnm:zdZ w ⟨(d:Int),k⟩ p.ctor=(nth (nth w d).ctors j).name:=by unfold zdZ;rw[hj0];rfl
   have hnx:=fun i=>zjO (f:=zbf w n) i (b:=true) (ts:=zae w ⟨(d:Int),k⟩ p.ctor) (ks:=p.kids);have htl:∀i,i<=3->(zcr (zbf w n) true ((zae w ⟨(d:Int),k⟩ p.ctor).take i) (p.kids.take i)).length<=1000000000:=fun i hi=>by
    have h1:=zk5 (f:=zbf w n) true ((zae w ⟨(d:Int),k⟩ p.ctor).take i) (p.kids.take i) (fun i' q1 q2=>by
     rw[List.length_take] at q1 q2;have e1:nth ((zae w ⟨(d:Int),k⟩ p.ctor).take i) i'=nth (zae w ⟨(d:Int),k⟩ p.ctor) i':=by rw[zaJ uc,zaJ od,List.getElem_take]
     have e2:nth (p.kids.take i) i'=nth p.kids i':=by rw[zaJ uc,zaJ od,List.getElem_take]
     rw[e1,e2];have:=zgQ hw hb n (a:=(nth (zai w ⟨(d:Int),k⟩ p) i').data) (k:=(nth (zai w ⟨(d:Int),k⟩ p) i').index) (zbC h (i:=i') od) (hin _ (zaf (by rw[zlz h4];omega)));rw[zlz h4] at this;exact this)
    have h2:=zpM p.kids i;rw[List.length_take] at h1;omega
   rw[tx4 h4,hnm];have hfin:=List.take_length (l:=zae w ⟨(d:Int),k⟩ p.ctor);have hfin2:=List.take_length (l:=p.kids);generalize zae w ⟨(d:Int),k⟩ p.ctor=ts at *;refine bd Tryz.f270 118 [96,98,111,116] [] fun _ _ _ _ hk=>?_;refine bx 3004 ?_;refine bx 3005 ?_;refine evs [96,98,111,116] [] ?_;apply sq<;>intro h1 h1p h1s;try simp only[Q,xal,xa3,xac] at h1p
   exfalso;omega;apply sq<;>intro h2 h2p h2s;try simp only[Q,xal,xa3,xac] at h2p
   exfalso;omega;apply sq<;>intro h3 h3p h3s;try simp only[Q,xal,xa3,xac] at h3p
   exfalso;omega;apply sq<;>intro h4 h4p h4s;try simp only[Q,xal,xa3,xac] at h4p
   exfalso;omega;apply sq<;>intro h5 h5p h5s;try simp only[Q,xal,xa3,xac] at h5p
   exfalso;omega;refine ixq sl23 Z Z Z (zah hd) Z (evd [96,98,111,116] [] (ixq (i:=j) zcw Z Z hj0 (zah hj) Z (evd [96,98,111,116] [] (dr (wc zbX hag Z Z ?_)))));refine evs [96,98,111,116] [] (xaB (ι:=Nat) hk (fun i=>[(9,.d (.i (i:Int))),(7,.d (.str ((nth (nth w d).ctors j).name++zcr (zbf w n) true (ts.take i) (p.kids.take i))))]) [87,88,89,90,91,92,93,94,95,96,97,98,99,100,101,102,103,104,105,106,107,108,109,110,111] (fun i=>[]) (fun i=>i<=ts.length) (fun i=>ts.length-i) 0 od ⟨⟨_,Z,xaU ?_⟩,⟨⟨_,Z,xaV ?_⟩,O⟩⟩ O (fun x=>rfl) (fun i hg1=>?_));iterate 2 focus ((simp[zcr];done))
   refine evc [96,98,111,116] [] ?_;apply sq<;>intro h6 h6p h6s<;>(try simp only[Q,xal,xa3,xac] at h6p);apply sq<;>intro h7 h7p h7s<;>(try simp only[Q,xal,xa3,xac] at h7p);refine xbx .none Z Z Z (by rw[hnm] at n1;have:=htl i od;(have:=hlen i od (nth ts i) rfl;simp only[xaa,xab,xak];omega)) ?_;refine evs [96,98,111,116] [] (ixq zaz Z Z Z (zah od) Z ?_);refine evd [96,98,111,116] [] (ixq sl72 Z Z Z (zaE od) Z ?_);refine evd [96,98,111,116] [] (wc ziT (hkid i od (nth ts i) Z) Z Z ?_);refine xbx .none Z Z Z (by rw[hnm] at n1;have:=htl i od;(have:=hlen i od (nth ts i) rfl;simp only[xaa,xab,xak];omega)) ?_;refine evd [96,98,111,116] [] (dr (ar (xaj (i+1) ⟨od,od,sx ⟨⟨_,Z,xaU ?_⟩,⟨⟨_,Z,xaV ?_⟩,O⟩⟩ O⟩)));iterate 2 focus (first|rfl|(rw[hnx i od od,if_pos ⟨rfl,by omega⟩];simp;done))
   refine xbx .none Z Z Z (by rw[hnm] at n1;have:=htl i od;(have:=hlen i od (nth ts i) rfl;simp only[xaa,xab,xak];omega)) ?_;refine evs [96,98,111,116] [] (ixq zaz Z Z Z (zah od) Z ?_);refine evd [96,98,111,116] [] (ixq sl72 Z Z Z (zaE od) Z ?_);refine evd [96,98,111,116] [] (wc ziT (hkid i od (nth ts i) Z) Z Z ?_);refine xbx .none Z Z Z (by rw[hnm] at n1;have:=htl i od;(have:=hlen i od (nth ts i) rfl;simp only[xaa,xab,xak];omega)) ?_;refine evd [96,98,111,116] [] (dr (ar (xaj (i+1) ⟨od,od,sx ⟨⟨_,Z,xaU ?_⟩,⟨⟨_,Z,xaV ?_⟩,O⟩⟩ O⟩)));iterate 2 focus (first|rfl|(rw[hnx i od od,if_neg od];simp;done))
   apply sq<;>intro h8 h8p h8s<;>(try simp only[Q,xal,xa3,xac] at h8p);refine xbx .none Z Z Z (by rw[hnm] at n1;have:=htl i od;(simp only[xaa,xab,xak];omega)) ?_;refine evs [96,98,111,116] [] (rq ?_);rotate_left;refine rq ?_;rotate_left;all_goals (have e1:i=ts.length:=od;subst e1;rw[hfin,show ts.length=p.kids.length by omega,hfin2];first|(rw[if_pos od];done)|(rw[if_neg od,xaq];done))
  ·have e5:p.op=5->p.kids.length=2:=fun h=>by rw[zhy h] at hl;exact hl
   have e6:p.op=6->p.kids.length=1:=fun h=>by rw[zlA h] at hl;exact hl
   have hk0:=fun(h:p.op=5\/p.op=6)=>hkid 0 (by rcases h with h|h;rw[e5 h];omega;rw[e6 h];omega) ⟨a,k⟩ (by rcases h with h|h;rw[zhy h];rfl;rw[zlA h];rfl);have hk1:=fun(h:p.op=5)=>hkid 1 (by rw[e5 h];omega) ⟨a,k⟩ (by rw[zhy h];rfl);have hn0:=fun(h:p.op=5\/p.op=6)=>hlen 0 (by rcases h with h|h;rw[e5 h];omega;rw[e6 h];omega) ⟨a,k⟩ (by rcases h with h|h;rw[zhy h];rfl;rw[zlA h];rfl);have hn1:=fun(h:p.op=5)=>hlen 1 (by rw[e5 h];omega) ⟨a,k⟩ (by rw[zhy h];rfl);have hdl:=zc0;have hll:=zeK p.var;refine bd Tryz.f270 118 [32,36,46,47,55,56,62,70] [] fun _ _ _ _ hk=>?_;refine bx 3004 ?_;refine bx 3005 ?_;refine evs [32,36,46,47,55,56,62,70] [] ?_;apply sq<;>intro h1 h1p h1s<;>(try simp only[Q,xal,xa3] at h1p);refine rq ?_;rotate_left;apply sq<;>intro h2 h2p h2s<;>(try simp only[Q,xal,xa3] at h2p);refine wc zko (zdr (n:=p.var)) Z Z ?_;refine evs [32,36,46,47,55,56,62,70] [] (rq ?_);rotate_left;apply sq<;>intro h3 h3p h3s<;>(try simp only[Q,xal,xa3] at h3p);apply sq<;>intro h4 h4p h4s<;>(try simp only[Q,xal,xa3] at h4p);refine wc zfe (zbV (n:=p.n) (by have:=o3 od;omega) (by have:=o3 od;omega)) Z Z ?_;refine evs [32,36,46,47,55,56,62,70] [] (rq ?_);rotate_left;refine wc zfe (zbV (n:=p.n) (by have:=o3 od;omega) (by have:=o3 od;omega)) Z Z ?_;refine xbx .none Z Z Z (by(simp only[xaa,xab,xak,hdl];omega)) (evd [32,36,46,47,55,56,62,70] [] (wc zfe (zbV (n:=p.m) (by have:=o3 od;omega) (by have:=o3 od;omega)) Z Z ?_));refine xbx .none Z Z Z (by(simp only[xaa,xab,xak,hdl];omega)) (evd [32,36,46,47,55,56,62,70] [] (dr (rq ?_)));rotate_left;apply sq<;>intro h5 h5p h5s<;>(try simp only[Q,xal,xa3] at h5p);refine ixq (i:=0) sl72 Z Z Z (zaE (by(rw[e5 od];omega))) Z ?_;refine evd [32,36,46,47,55,56,62,70] [] (wc ziT (hk0 od) Z Z ?_);refine xbx .none Z Z Z (by(have:=hn0 (.inl od);have:=hn1 od;simp only[xaa,xab,xak];omega)) ?_;refine xbx .none Z Z Z (by(have:=hn0 (.inl od);have:=hn1 od;simp only[xaa,xab,xak];omega)) ?_;refine evd [32,36,46,47,55,56,62,70] [] (ixq (i:=1) sl72 Z Z Z (zaE (by(rw[e5 od];omega))) Z ?_);refine evd [32,36,46,47,55,56,62,70] [] (wc ziT (hk1 od) Z Z ?_);refine xbx .none Z Z Z (by(have:=hn0 (.inl od);have:=hn1 od;simp only[xaa,xab,xak];omega)) ?_;refine xbx .none Z Z Z (by(have:=hn0 (.inl od);have:=hn1 od;simp only[xaa,xab,xak];omega)) ?_;refine evd [32,36,46,47,55,56,62,70] [] (dr (rq ?_));rotate_left;apply sq<;>intro h6 h6p h6s<;>(try simp only[Q,xal,xa3] at h6p);refine wc zko (zdr (n:=p.var)) Z Z ?_;refine xbx .none Z Z Z (by(have:=hn0 (.inr od);simp only[xaa,xab,xak];omega)) ?_;refine evd [32,36,46,47,55,56,62,70] [] (ixq (i:=0) sl72 Z Z Z (zaE (by(rw[e6 od];omega))) Z ?_);refine evd [32,36,46,47,55,56,62,70] [] (wc ziT (hk0 od) Z Z ?_);refine xbx .none Z Z Z (by(have:=hn0 (.inr od);simp only[xaa,xab,xak];omega)) ?_;refine evd [32,36,46,47,55,56,62,70] [] (dr (rq ?_));rotate_left;exfalso;omega;all_goals (first|(rw[tx1 od];done)|(rw[tx2 od];done)|(rw[tx3a od od];done)|(rw[tx3b od od];done)|(rw[tx5 od];done)|(rw[tx6 od];done))
set_option maxHeartbeats 2000000
theorem Pat.cs_ccs (l:List Pat):Pat.cs l=l.map Pat.cc:=by
 rw[xa2];exact List.map_congr_left (fun v _=>xaY v)
theorem Ex.cs_ccs (l:List Ex):Ex.cs l=l.map Ex.cc:=by
 rw[xaI];exact List.map_congr_left (fun v _=>xaG v)
theorem zfb {xs:List Pat}{f:Nat}{caps:List AV}{hp:Hp}{p:Pat->Bool} (hs:xs.length<=1000000000000) (hcal:Callee Tryz.prog f)
  (hf:∀t∈xs,FnD Tryz.prog f ([.agg [.d (.i t.op),.d (.i t.ctor),.d (.i t.n),.d (.i t.m),.d (.i t.var),.d (zak t.kids)]]++caps) hp (.d (.bool (p t))) []) (k1:subH hp hp) (k2:zdJ hp=true) (k3:zaH hp [] (.d .nilp) []=true):
  FnD Tryz.prog 224 [.d (zak xs),.fn f caps] hp (.d (.i (idxF p xs 0))) []:=by
 rw[show zak xs=D.sl (xs.map Pat.cc) by show D.sl (Pat.cs xs)=_;rw[Pat.cs_ccs]];refine bd Tryz.f224 19 [] [] fun _ _ _ _ hk=>?_;refine xaB (ι:=List (Pat)×List (Pat)) hk (fun x=>[(8,.d (.i (x.1.length:Int)))]) [4,5,9,10,11,12,13,14,15,16,17,18] (fun x=>[]) (fun x=>x.1++x.2=xs/\idxF p x.2 x.1.length=idxF p xs 0) (fun x=>x.2.length) ([],xs) ⟨by simp,Z⟩ ⟨⟨_,Z,xaU ?_⟩,O⟩ O (fun x=>zfK hp) (fun x hg1=>?_);focus (first|rfl|(simp;done)|(simp_all;done)|omega)
 obtain⟨pre,rest⟩:=x;dsimp only at hg1 ⊢;refine evc [] [] ?_;apply sq<;>intro h1 h1p h1s<;>(try simp only[Q] at h1p);rcases rest with _|⟨y,rest⟩
 ·exfalso;simp_all
 refine ixq sl72 Z Z Z (zaA hg1.1) Z (ev (xbw (cr:=[]) hcal (hf y (by rw[<-hg1.1];simp)) Z .none Z Z Z (LeL.refl _) k1 k2 (zcE k3 _) Z ?_));apply tv;apply sq<;>intro h2 h2p h2s<;>(try simp only[Q] at h2p);focus (refine rn [] (r1 Z) (.eqd ?_) ⟨Z,Z⟩ (fun _ _ h=>h) (fun _ h=>h);all_goals (rw[<-hg1.2];simp[idxF,h1s,h1p,h2s,h2p]))
 refine ar (xaj ((pre++[y],rest)) ⟨⟨(by have hz:=hg1.1;rw[<-hz];simp),(by rw[<-hg1.2];simp[idxF,h2s])⟩,oi,Sub.x oq oq ⟨⟨_,Z,xaU ?_⟩,O⟩ oi (by simp[zdE]) O⟩);focus (first|rfl|(simp;done)|(simp_all;done)|omega)
 have hrest:rest=[]:=by
  rcases rest with _|⟨a,b⟩
  ·rfl
  ·exfalso;have hz:=xam List.length (hg1.1);simp only[xaa,xab,xac] at hz;omega
 subst hrest;focus (refine rn [] (r1 Z) (.eqd ?_) ⟨Z,Z⟩ (fun _ _ h=>h) (fun _ h=>h);all_goals (rw[<-hg1.2];simp[idxF,h1s,h1p]))
theorem zgX {xs:List Pat}{f:Nat}{caps:List AV}{hp:Hp}{p:Pat->Bool} (hs:xs.length<=1000000000000) (hcal:Callee Tryz.prog f)
  (hf:∀t∈xs,FnD Tryz.prog f ([.agg [.d (.i t.op),.d (.i t.ctor),.d (.i t.n),.d (.i t.m),.d (.i t.var),.d (zak t.kids)]]++caps) hp (.d (.bool (p t))) []) (k1:subH hp hp) (k2:zdJ hp=true) (k3:zaH hp [] (.d .nilp) []=true):
  FnD Tryz.prog 171 [.d (zak xs),.fn f caps] hp (.d (.bool (xs.any p))) []:=by
 refine bd Tryz.f171 9 [] [] fun _ _ _ _ hk=>?_;refine Walk.call (cr:=[]) zmX (zfb hs hcal hf k1 k2 k3) Z .none Z Z (LeL.refl _) k1 k2 (zcE k3 _) Z (ev (rn [] (r1 Z) (.eqd ?_) ⟨Z,Z⟩ (fun _ _ h=>h) (fun _ h=>h)));rotate_left;all_goals (exact xam D.bool (zeG p xs 0))
theorem zeR {α:Type}{N:Nat}{X Y:List α} (h:N<=X.length):(X++Y).take N=X.take N:=by
 rw[List.take_append,(by omega:N-X.length=0)];simp
theorem zxx {α β:Type} [Inhabited β]{X:List α}{l:List β}{h:β->α}{j m:Nat} (hj:j<l.length) (hl:((X++(l.take j).map h).take (m+1)).length<=m):
  (X++(l.take (j+1)).map h).take (m+1)=(X++(l.take j).map h).take (m+1)++[h (nth l j)]:=by
 have e1:l.take (j+1)=l.take j++[nth l j]:=by rw[List.take_succ_eq_append_getElem hj,zaJ hj]
 rw[List.length_take] at hl;have h2:(X++(l.take j).map h).length<=m:=by omega
 rw[e1,xag,<-xar,List.take_of_length_le (by simp at h2 ⊢;omega),List.take_of_length_le (l:=X++(l.take j).map h) od];rfl
theorem zxw {α β:Type}{X:List α}{l:List β}{h:β->α}{j m:Nat} (hc:¬j<l.length\/¬((X++(l.take j).map h).take (m+1)).length<=m):
  (X++(l.take j).map h).take (m+1)=(X++l.map h).take (m+1):=by
 rcases hc with hc|hc
 ·rw[List.take_of_length_le (l:=l) od]
 ·rw[List.length_take] at hc;have e:l.map h=(l.take j).map h++(l.drop j).map h:=by rw[<-xag,List.take_append_drop]
  rw[e,<-xar,zeR (X:=X++(l.take j).map h) od]
theorem zsQ {α β:Type} [Inhabited β]{l:List β}{g:β->List α}{j:Nat} (hj:j<l.length):(l.take (j+1)).flatMap g=(l.take j).flatMap g++g (nth l j):=by
 rw[List.take_succ_eq_append_getElem hj,List.flatMap_append,zaJ hj];simp
theorem zoC {α β:Type}{l:List β}{g:β->List α}{j m:Nat} (hc:¬j<l.length\/¬(((l.take j).flatMap g).take (m+1)).length<=m):
  ((l.take j).flatMap g).take (m+1)=(l.flatMap g).take (m+1):=by
 rcases hc with hc|hc
 ·rw[List.take_of_length_le (l:=l) od]
 ·rw[List.length_take] at hc;have e:l.flatMap g=(l.take j).flatMap g++(l.drop j).flatMap g:=by rw[<-List.flatMap_append,List.take_append_drop]
  rw[e,zeR (X:=(l.take j).flatMap g) od]
structure MatchOk (w:List Data) (n m:Nat) (t:Ty) (p:Pat) (v:Val):Prop where
 shape:zat w n t p=true
 fits:zwu w m t v=true
 pok:p.ok
 vok:v.ok
 psz:p.size<=100
 vsz:v.size<=100
theorem MatchOk.two {w:List Data}{n m:Nat}{t:Ty}{p:Pat}{v:Val} (h:MatchOk w (n+1) m t p v) (h5:p.op=5):
  p.kids.length=2/\MatchOk w n m t (nth p.kids 0) v/\MatchOk w n m t (nth p.kids 1) v:=by
 obtain⟨hl,s0,s1⟩:=zkT h.shape h5;have hpk:=(xa4 p).1 h.pok;have hps:=xa5 p;have z0:=zfF (l:=p.kids) (i:=0) od;have z1:=zfF (l:=p.kids) (i:=1) od;have hs:=h.psz;exact⟨hl,⟨s0,h.fits,xa6 hpk.2 _ (zaf od),h.vok,by omega,h.vsz⟩,⟨s1,h.fits,xa6 hpk.2 _ (zaf od),h.vok,by omega,h.vsz⟩⟩
theorem MatchOk.one {w:List Data}{n m:Nat}{t:Ty}{p:Pat}{v:Val} (h:MatchOk w (n+1) m t p v) (h6:p.op=6):
  p.kids.length=1/\MatchOk w n m t (nth p.kids 0) v:=by
 obtain⟨hl,s0⟩:=zkS h.shape h6;have hpk:=(xa4 p).1 h.pok;have hps:=xa5 p;have z0:=zfF (l:=p.kids) (i:=0) od;have hs:=h.psz;exact⟨hl,⟨s0,h.fits,xa6 hpk.2 _ (zaf od),h.vok,by omega,h.vsz⟩⟩
structure VarsOk (l:List Bd) (vs:List Vt):Prop where
 len:l.length=vs.length
 nod:(l.map Bd.var).Nodup
 sub:∀x∈l.map Bd.var,x∈vs.map Vt.var
theorem zsJ {w:List Data}{a k:Int}{l:List Cl} (h:zaW w ⟨a,k⟩ l=true):zbn w ⟨a,k⟩=true/\l.length<=8:=by
 unfold zaW at h;simp only[xad,xah] at h;exact⟨h.1,by omega⟩
set_option maxHeartbeats 4000000
def zdF (s:Str):Gd:=if s.length=3 then ⟨if nth s 1=60 then 1 else if nth s 1=61 then 2 else -1,((nth s 0).toNat:Int)-97,((nth s 2).toNat:Int)-48⟩ else ⟨-1,0,0⟩
theorem zjK {s:Str} (hs:s.length<=1000000000000):FnD Tryz.prog 230 [.d (.str s)] [] (.agg [.d (.i (zdF s).op),.d (.i (zdF s).var),.d (.i (zdF s).n)]) []:=by
 have v0:=zld (nth s 0);have v2:=zld (nth s 2);have b0:=(nth s 0).toNat_lt;have b2:=(nth s 2).toNat_lt;by_cases h3:s.length=3
 ·have g60:((nth s 1).toNat:Int)=60->zdF s=⟨1,((nth s 0).toNat:Int)-97,((nth s 2).toNat:Int)-48⟩:=fun h=>by unfold zdF;rw[if_pos h3,if_pos (show nth s 1=60 from b_eq (k:=60) od h)]
  have g61:((nth s 1).toNat:Int)=61->zdF s=⟨2,((nth s 0).toNat:Int)-97,((nth s 2).toNat:Int)-48⟩:=fun h=>by unfold zdF;rw[if_pos h3,if_neg (show ¬nth s 1=60 from b_ne (by show ¬((nth s 1).toNat:Int)=60;omega)),if_pos (show nth s 1=61 from b_eq (k:=61) od h)]
  have gno:¬((nth s 1).toNat:Int)=60->¬((nth s 1).toNat:Int)=61->zdF s=⟨-1,((nth s 0).toNat:Int)-97,((nth s 2).toNat:Int)-48⟩:=fun h h'=>by unfold zdF;rw[if_pos h3,if_neg (show ¬nth s 1=60 from b_ne (by show ¬((nth s 1).toNat:Int)=60;omega)),if_neg (show ¬nth s 1=61 from b_ne (by show ¬((nth s 1).toNat:Int)=61;omega))]
  generalize zdF s=g at *;refine bd Tryz.f230 26 [] [] fun _ _ _ _ hk=>?_;refine ab 3002 tz76 ?_;apply tv;apply sq<;>intro h1 h1p h1s;try simp only[Q,xal] at h1p
  exfalso;omega;refine xbN (i:=0) un9 .none Z Z Z Z (zbc od) ?_;refine xbz oz un3 .none Z Z ?_;refine evd [] [] (ar (xbN (i:=2) un9 .none Z Z Z Z (zbc od) ?_));refine xbz oz un3 .none Z Z ?_;refine evd [] [] (ar (bu [0,1,2] [_,_,_] st76 ?_));refine ab 3003 tz76 ?_;refine so ty76 ?_;refine dr (xbN (i:=1) un9 .none Z Z Z Z (zbc od) ?_);apply tv;apply sq<;>intro h2 h2p h2s<;>(try simp only[Q,xal] at h2p);refine so ty3 ?_;apply tv;refine so ty76 ?_;apply tv;refine rn0 (ra ty76) (.agg (qeee ?_ ?_ ?_));rotate_left 3;apply sq<;>intro h3 h3p h3s<;>(try simp only[Q,xal] at h3p);refine so ty3 ?_;apply tv;refine so ty76 ?_;apply tv;refine rn0 (ra ty76) (.agg (qeee ?_ ?_ ?_));rotate_left 3;refine so ty76 ?_;apply tv;refine rn0 (ra ty76) (.agg (qeee ?_ ?_ ?_));rotate_left 3;all_goals (first|(rw[g60 od];all_goals first|rfl|exact xam D.i (by rw[v0])|exact xam D.i (by rw[v2]))|(rw[g61 od];all_goals first|rfl|exact xam D.i (by rw[v0])|exact xam D.i (by rw[v2]))|(rw[gno od od];all_goals first|rfl|exact xam D.i (by rw[v0])|exact xam D.i (by rw[v2])))
 ·have e:zdF s=⟨-1,0,0⟩:=by unfold zdF;rw[if_neg h3]
  rw[e];refine bd Tryz.f230 26 [] [] fun _ _ _ _ hk=>?_;refine ab 3002 tz76 ?_;apply tv;apply sq<;>intro h1 h1p h1s;refine bu [0] [_] st76 ?_;refine so ty76 ?_;apply tv;focus (refine rn0 (ra ty76) (.agg (qeee ?_ ?_ ?_));all_goals (rfl))
  try simp only[Q,xal] at h1p
  exfalso;omega
def zdO (w:List Data) (t:Ty) (c:Cl):Str:=
 if c.g.op=1 then zbf w 10 t c.pat++[32]++letV c.g.var++[60]++decV c.g.n
 else if c.g.op=2 then zbf w 10 t c.pat++[32]++letV c.g.var++[61]++decV c.g.n
 else zbf w 10 t c.pat
theorem gd_n {w:List Data}{t:Ty}{c:Cl} (h:clOk w t c=true):c.g.op=1\/c.g.op=2->0<=c.g.n/\c.g.n<=9:=fun hop=>by
 unfold clOk at h;rw[xad] at h;have h2:=h.2;unfold gdOk at h2;rw[if_neg od,xad] at h2;have h3:=xas h2.1;exact⟨h3.2.2.1,h3.2.2.2⟩
theorem zpS {w:List Data} (hw:WT w) (hb:TB w){a k:Int}{c:Cl} (ht:TyIn w.length ⟨a,k⟩) (h:clOk w ⟨a,k⟩ c=true) (hsz:c.pat.size<=10000000):(zdO w ⟨a,k⟩ c).length<=100000010:=by
 have h1:=zgQ hw hb 10 (zgF h).2.1 ht;unfold zdO;split
 ·simp only[xaa,zeK,zc0,xab,xak];omega
 split
 ·simp only[xaa,zeK,zc0,xab,xak];omega
 ·omega
theorem zgo {w:List Data} (hw:WT w) (hb:TB w){a k:Int}{c:Cl} (ht:TyIn w.length ⟨a,k⟩) (h:clOk w ⟨a,k⟩ c=true) (hok:c.pat.ok) (hsz:c.pat.size<=10000000):
  FnD Tryz.prog 234 [.d (zaj w),.agg [.d (.i a),.d (.i k)],.agg [.d (.i c.pat.op),.d (.i c.pat.ctor),.d (.i c.pat.n),.d (.i c.pat.m),.d (.i c.pat.var),.d (zak c.pat.kids),.d (.i c.g.op),.d (.i c.g.var),.d (.i c.g.n)]] [] (.d (.str (zdO w ⟨a,k⟩ c))) []:=by
 have hn:=gd_n h;have hl:=zgQ hw hb 10 (zgF h).2.1 ht;have ht1:=zjf hw hb 10 (zgF h).2.1 ht hok hsz;have e1:c.g.op=1->zdO w ⟨a,k⟩ c=zbf w 10 ⟨a,k⟩ c.pat++[32]++letV c.g.var++[60]++decV c.g.n:=fun h=>by unfold zdO;rw[if_pos h]
 have e2:c.g.op=2->zdO w ⟨a,k⟩ c=zbf w 10 ⟨a,k⟩ c.pat++[32]++letV c.g.var++[61]++decV c.g.n:=fun h=>by unfold zdO;rw[if_neg od,if_pos h]
 have e3:¬c.g.op=1->¬c.g.op=2->zdO w ⟨a,k⟩ c=zbf w 10 ⟨a,k⟩ c.pat:=fun h h'=>by unfold zdO;rw[if_neg h,if_neg h']
 have hd:=zc0 c.g.n;have hv:=zeK c.g.var;generalize zdO w ⟨a,k⟩ c=R at *;generalize zbf w 10 ⟨a,k⟩ c.pat=T at *;refine bd Tryz.f234 47 [19,24,25,30,34,39,40,45] [] fun _ _ _ _ hk=>?_;refine bx 3004 ?_;refine bx 3005 ?_;refine evs [19,24,25,30,34,39,40,45] [] (wc ziT ht1 Z Z ?_);refine evs [19,24,25,30,34,39,40,45] [] ?_;apply sq<;>intro h1 h1p h1s<;>(try simp only[Q,xal] at h1p);refine xbx .none Z Z Z (by simp only[xaa,xab,xak,hd,hv];omega) ?_;refine evd [19,24,25,30,34,39,40,45] [] (wc zko (zdr (n:=c.g.var)) Z Z ?_);refine xbx .none Z Z Z (by simp only[xaa,xab,xak,hd,hv];omega) ?_;refine xbx .none Z Z Z (by simp only[xaa,xab,xak,hd,hv];omega) ?_;refine evd [19,24,25,30,34,39,40,45] [] (wc zfe (zbV (n:=c.g.n) (hn od).1 (hn od).2) Z Z ?_);refine xbx .none Z Z Z (by simp only[xaa,xab,xak,hd,hv];omega) ?_;refine evd [19,24,25,30,34,39,40,45] [] (dr (rq ?_));rotate_left;apply sq<;>intro h2 h2p h2s<;>(try simp only[Q,xal] at h2p);refine xbx .none Z Z Z (by simp only[xaa,xab,xak,hd,hv];omega) ?_;refine evd [19,24,25,30,34,39,40,45] [] (wc zko (zdr (n:=c.g.var)) Z Z ?_);refine xbx .none Z Z Z (by simp only[xaa,xab,xak,hd,hv];omega) ?_;refine xbx .none Z Z Z (by simp only[xaa,xab,xak,hd,hv];omega) ?_;refine evd [19,24,25,30,34,39,40,45] [] (wc zfe (zbV (n:=c.g.n) (hn od).1 (hn od).2) Z Z ?_);refine xbx .none Z Z Z (by simp only[xaa,xab,xak,hd,hv];omega) ?_;refine evd [19,24,25,30,34,39,40,45] [] (dr (rq ?_));rotate_left;refine rq ?_;rotate_left;all_goals (first|(rw[e1 od];done)|(rw[e2 od];done)|(rw[e3 od od];done))
def zem (w:List Data) (t:Ty):Bool->List Cl->Str
 |_,[]=>[]
 |b,c::r=>((if b=true then [] else [47])++zdO w t c)++zem w t false r
theorem zoe {w:List Data} (hs:WSmall w){a k:Int}{l:List Cl} (hl:ClsOk l) (hz:∀c∈l,c.pat.size<=10000000) (hv:zaW w ⟨a,k⟩ l=true):
  FnD Tryz.prog 231 [.d (zaj w),.agg [.d (.i a),.d (.i k)],.d (zcg l)] [] (.d (.str (zem w ⟨a,k⟩ true l))) []:=by
 obtain⟨tv,hl8,hc⟩:=zia hv;obtain⟨wv,ht,_⟩:=zcj tv;have hw:=zds hs wv;have hb:=zjS wv;have hc':∀c∈l,clOk w ⟨a,k⟩ c=true:=fun c hm=>by
  obtain⟨i,hi,rfl⟩:=List.getElem_of_mem hm;rw[<-zaJ hi];exact hc i hi
 have hlen:=fun(c:Cl) (hm:c∈l)=>zpS hw hb ht (hc' c hm) (hz c hm);refine bd Tryz.f231 29 [18,27] [] fun _ _ _ _ hk=>?_;refine bx 3004 ?_;refine evs [18,27] [] (xaB (ι:=List (Cl)×List (Cl)×(Str)) hk (fun x=>[(8,.d (.i (x.1.length:Int))),(7,.d (.str x.2.2))]) [9,10,11,12,13,14,15,16,17,18,19,20,21,22,23,24,25,26,27] (fun x=>[]) (fun x=>x.1++x.2.1=l/\x.2.2.length<=100000020*x.1.length/\x.2.2++zem w ⟨a,k⟩ (decide (x.1.length=0)) x.2.1=zem w ⟨a,k⟩ true l) (fun x=>x.2.1.length) ([],l,[]) ⟨by simp,by simp,by simp⟩ ⟨⟨_,Z,xaU ?_⟩,⟨⟨_,Z,xaV ?_⟩,O⟩⟩ O (fun x=>rfl) (fun x hg1=>?_));iterate 2 focus (rfl)
 obtain⟨pre,rest,o⟩:=x;dsimp only at hg1 ⊢;refine evc [18,27] [] ?_;apply sq<;>intro h1 h1p h1s;rcases rest with _|⟨y,rest⟩
 ·exfalso;simp_all
 have hym:y∈l:=(by rw[<-hg1.1];simp);have hyl:=hlen y hym;have hpl:pre.length<l.length:=(by rw[<-hg1.1];simp);apply sq<;>intro h2 h2p h2s<;>(try simp only[Q,xal,xac] at h2p);refine xbx .none Z Z Z (by(try simp only[xaa,xab,xak]);omega) (evs [18,27] [] (ixq sl32 Z Z Z (zaA hg1.1) Z (evd [18,27] [] (wc zqT (zgo hw hb ht (hc' y hym) (hl.2 y hym) (hz y hym)) Z Z ?_))));refine xbx .none Z Z Z (by(try simp only[xaa,xab,xak]);omega) (evd [18,27] [] (dr (ar (xaj ((pre++[y],rest,o++((if pre.length=0 then [] else [47])++zdO w ⟨a,k⟩ y))) ⟨⟨(by have hz:=hg1.1;rw[<-hz];simp),⟨(by have h3:(if pre.length=0 then ([]:Str) else [47]).length<=1:=(by split<;>simp);simp only[xaa,xab,xak];omega),(by rw[<-hg1.2.2];simp[zem])⟩⟩,oi,sx ⟨⟨_,Z,xaU ?_⟩,⟨⟨_,Z,xaV ?_⟩,O⟩⟩ O⟩))));iterate 2 focus (first|(simp;done)|(dsimp only;rw[if_neg od];simp;done))
 refine ixq sl32 Z Z Z (zaA hg1.1) Z (evd [18,27] [] (wc zqT (zgo hw hb ht (hc' y hym) (hl.2 y hym) (hz y hym)) Z Z ?_));refine xbx .none Z Z Z (by(try simp only[xaa,xab,xak]);omega) (evd [18,27] [] (dr (ar (xaj ((pre++[y],rest,o++((if pre.length=0 then [] else [47])++zdO w ⟨a,k⟩ y))) ⟨⟨(by have hz:=hg1.1;rw[<-hz];simp),⟨(by have h3:(if pre.length=0 then ([]:Str) else [47]).length<=1:=(by split<;>simp);simp only[xaa,xab,xak];omega),(by rw[<-hg1.2.2];simp[zem])⟩⟩,oi,sx ⟨⟨_,Z,xaU ?_⟩,⟨⟨_,Z,xaV ?_⟩,O⟩⟩ O⟩))));iterate 2 focus (first|(simp;done)|(dsimp only;rw[if_pos od];simp;done))
 try simp only[Q,xal,xac] at h1p
 have hrest:rest=[]:=by
  rcases rest with _|⟨a,b⟩
  ·rfl
  ·exfalso;have hz:=xam List.length (hg1.1);simp only[xaa,xab,xac] at hz;omega
 subst hrest;refine rq ?_;rotate_left;all_goals (refine xam D.str ?_;have hfin:=hg1.2.2;simp only[zem,xaq] at hfin;exact hfin)
theorem zjQ {w:List Data} (hs:WSmall w) (hv:zaI w=true):A3 w:=fun t c ht hc=>by
 obtain⟨a,k⟩:=t;have hw:=zds hs hv;refine⟨(zhQ hw (zjS hv) ht hc).2,fun u hu=>?_⟩;obtain⟨d,rfl,hd,hp⟩:=zbE ht hc;exact zkh hw hd hp hu
theorem zsT {f:Ty->Int->Pat×Int}{s:Str}{M:Nat}:∀(ts:List Ty) (sg:List UInt8) (a:Int),(∀t∈ts,∀b,(f t b).1.ok/\(f t b).1.size<=M)->∀r,kidL f s ts sg a=some r->Pats.ok r.1/\Pats.size r.1<=ts.length*M/\r.1.length=ts.length
 | [],_,a,_,r,h=>by rw[kidL] at h;cases h;exact⟨trivial,by simp[Pats.size],rfl⟩
 |_::_,[],_,_,r,h=>by rw[kidL] at h;cases h
 |t::ts,c::cs,a,hf,r,h=>by
  rw[kidL] at h;split at h
  ·cases e:kidL f s ts cs (f t (a+1)).2 with
   |none=>rw[e] at h;cases h
   |some r2=>
    rw[e] at h;cases h;obtain⟨h1,h2,h3⟩:=zsT ts cs _ (fun u hu=>hf u (by simp[hu])) r2 e;have h0:=hf t oi (a+1);refine⟨⟨h0.1,h1⟩, ?_,by simp[h3]⟩;show(f t (a+1)).1.size+Pats.size r2.1<=(ts.length+1)*M
    rw[Nat.add_mul];omega
  ·cases h
theorem zxa {f:Ty->Int->Pat×Int}{s:Str}{M:Nat}{ts:List Ty}{sg:List UInt8}{a:Int} (hl:ts.length<=3) (hf:∀t∈ts,∀b,(f t b).1.ok/\(f t b).1.size<=M):Pats.ok (kidV f s ts sg a).1/\Pats.size (kidV f s ts sg a).1<=3*M/\(kidV f s ts sg a).1.length<=3:=by
 unfold kidV;cases e:kidL f s ts sg a with
 |none=>exact⟨trivial,by simp[Pats.size,Option.getD],by simp[Option.getD]⟩
 |some r=>
  obtain⟨h1,h2,h3⟩:=zsT ts sg a hf r e;refine⟨h1, ?_,by show r.1.length<=3;omega⟩;have:ts.length*M<=3*M:=xav _ hl;show Pats.size r.1<=3*M
  omega
theorem zpJ {w:List Data}{s:Str} (hA:A3 w):∀(n:Nat){t:Ty} (a:Int),TyIn w.length t->(zaC w s n t a).1.ok/\(zaC w s n t a).1.size<=4 ^ n
 |0,t,a,_=>⟨by rw[xa4];exact⟨by simp[zaC,Pat.kids],trivial⟩,by rw[xa5];simp[zaC,Pat.kids,Pats.size]⟩
 |n+1,t,a,ht=>by
  have ih:=fun {t:Ty} (b:Int) (h:TyIn w.length t)=>zpJ hA (s:=s) n b h;have hp:1<=4 ^ n:=Nat.pow_pos od;have he:4 ^ (n+1)=4*4 ^ n:=by rw[Nat.pow_succ];omega
  have leaf:∀ {x1 x2 x3 x4 x5:Int},(Pat.mk x1 x2 x3 x4 x5 []).ok/\(Pat.mk x1 x2 x3 x4 x5 []).size<=4 ^ (n+1):=fun {x1 x2 x3 x4 x5}=>⟨by rw[xa4];exact⟨by simp[Pat.kids],trivial⟩,by rw[xa5];simp[Pat.kids,Pats.size];omega⟩;have node:∀ {x1 x2 x3 x4 x5:Int}{ts:List Ty}{sg:List UInt8}{b:Int},ts.length<=3->(∀u∈ts,TyIn w.length u)->(Pat.mk x1 x2 x3 x4 x5 (kidV (zaC w s n) s ts sg b).1).ok/\(Pat.mk x1 x2 x3 x4 x5 (kidV (zaC w s n) s ts sg b).1).size<=4 ^ (n+1):=fun {x1 x2 x3 x4 x5 ts sg b} h1 h2=>by
   obtain⟨k1,k2,k3⟩:=zxa (f:=zaC w s n) (sg:=sg) (a:=b) (s:=s) h1 (fun u hu b=>ih b (h2 u hu));refine⟨by rw[xa4];exact⟨by show(kidV (zaC w s n) s ts sg b).1.length<=_;omega,k1⟩, ?_⟩;rw[xa5];show 1+Pats.size (kidV (zaC w s n) s ts sg b).1<=_
   omega
  have h2:∀u∈[t,t],TyIn w.length u:=by intro u hu;simp at hu;subst hu;exact ht
  have h1:∀u∈[t],TyIn w.length u:=by intro u hu;simp at hu;subst hu;exact ht
  unfold zaC;split
  ·exact leaf
  split
  ·exact leaf
  split
  ·unfold intP;split
   ·exact leaf
   ·exact leaf
  split
  ·split
   ·exact node oi h2
   ·exact leaf
  split
  ·exact node oi h1
  split
  ·exact leaf
  split
  ·exact leaf
  rename_i hc;have hA':=hA t _ ht (zfD hc);split
  ·exact node hA'.1 hA'.2
  split
  ·exact node hA'.1 hA'.2
  ·exact leaf
def wdsV (p:Str):List Str:=cutL 32 [] p
def prV (w:List Data) (t:Ty) (p:Str):Pat×Int:=zaC w (nth (wdsV p) 0) 10 t 0
def zjH (w:List Data) (t:Ty) (p:Str):Bool:= !decide ((prV w t p).2=((nth (wdsV p) 0).length:Int))||(decide (nth (wdsV p) 0=[])||decide (2<(wdsV p).length))
def pcC (w:List Data) (t:Ty) (p:Str):Cl:=⟨(prV w t p).1,if (wdsV p).length=2 then zdF (nth (wdsV p) 1) else ⟨0,0,0⟩⟩
theorem zzG {w:List Data}{t:Ty}{p:Str} (h:(wdsV p).length=2):pcC w t p=⟨(prV w t p).1,zdF (nth (wdsV p) 1)⟩:=by unfold pcC;rw[if_pos h]
theorem zzF {w:List Data}{t:Ty}{p:Str} (h:¬(wdsV p).length=2):pcC w t p=⟨(prV w t p).1,⟨0,0,0⟩⟩:=by unfold pcC;rw[if_neg h]
def pcP (s:Str):List Str:=cutL 47 [] s
def zdc (s:Str):Nat:=if s=[] then 0 else if (pcP s).length<=9 then (pcP s).length else 9
theorem zu4 {s:Str}{i:Nat}:i<zdc s↔(i<(pcP s).length/\i<=8)/\s≠[]:=by
 unfold zdc;split
 ·rename_i h;simp[h]
 ·rename_i h;split<;>simp[h]<;>omega
def pcN (w:List Data) (t:Ty) (s:Str):Nat->Option (List Cl)
 |0=>some []
 |n+1=>match pcN w t s n with
  |none=>none
  |some r=>if zjH w t (nth (pcP s) n)=true then none else some (r++[pcC w t (nth (pcP s) n)])
theorem zrH {w:List Data}{t:Ty}{s:Str}{n:Nat}{r:List Cl} (h:pcN w t s n=some r) (hb:zjH w t (nth (pcP s) n)=false):pcN w t s (n+1)=some (r++[pcC w t (nth (pcP s) n)]):=by
 rw[pcN,h];dsimp only;rw[if_neg (by rw[hb];simp)]
theorem zs1 {w:List Data}{t:Ty}{s:Str}{i:Nat} (hb:zjH w t (nth (pcP s) i)=true):∀ {n:Nat},i<n->pcN w t s n=none
 |0,h=>by omega
 |n+1,h=>by
  rw[pcN];cases e:pcN w t s n with
  |none=>rfl
  |some r=>
   by_cases hi:i=n
   ·subst hi;dsimp only;rw[if_pos hb]
   ·rw[zs1 hb (show i<n by omega)] at e;cases e
theorem zrG {w:List Data}{t:Ty}{s:Str} (hA:A3 w) (ht:TyIn w.length t):∀ {n:Nat}{r:List Cl},pcN w t s n=some r->r.length=n/\∀c∈r,c.pat.ok/\c.pat.size<=10000000
 |0,r,h=>by rw[pcN] at h;cases h;simp
 |n+1,r,h=>by
  rw[pcN] at h;cases e:pcN w t s n with
  |none=>rw[e] at h;cases h
  |some r0=>
   rw[e] at h;dsimp only at h;split at h
   ·cases h
   ·cases h
    obtain⟨h1,h2⟩:=zrG hA ht e;refine⟨by simp[h1],fun c hc=>?_⟩;rcases List.mem_append.1 hc with hc|hc
    ·exact h2 c hc
    ·rw[List.mem_singleton.1 hc];have:=zpJ (s:=nth (wdsV (nth (pcP s) n)) 0) hA 10 (t:=t) 0 ht;exact⟨this.1,Nat.le_trans this.2 om⟩
def pcV (w:List Data) (t:Ty) (s:Str):Option (List Cl):=
 if zbn w t=true then (match pcN w t s (zdc s) with|none=>none|some l=>if zaW w t l=true/\zem w t true l=s then some l else none) else none
theorem zyN {w:List Data}{t:Ty}{s:Str} (h:zbn w t=false):pcV w t s=none:=by unfold pcV;rw[if_neg (by rw[h];simp)]
theorem zxk {w:List Data}{t:Ty}{s:Str} (h:pcN w t s (zdc s)=none):pcV w t s=none:=by unfold pcV;rw[h];split<;>rfl
theorem zxn {w:List Data}{t:Ty}{s:Str}{l:List Cl} (h0:zbn w t=true) (h:pcN w t s (zdc s)=some l) (h1:zaW w t l=true) (h2:zem w t true l=s):pcV w t s=some l:=by unfold pcV;rw[if_pos h0,h];dsimp only;rw[if_pos ⟨h1,h2⟩]
theorem zxl {w:List Data}{t:Ty}{s:Str}{l:List Cl} (h:pcN w t s (zdc s)=some l) (h1:zaW w t l=false):pcV w t s=none:=by unfold pcV;rw[h];dsimp only;split;rw[if_neg (fun h=>by rw[h1] at h;simp at h)];rfl
theorem zxm {w:List Data}{t:Ty}{s:Str}{l:List Cl} (h:pcN w t s (zdc s)=some l) (h2:¬zem w t true l=s):pcV w t s=none:=by unfold pcV;rw[h];dsimp only;split;rw[if_neg (fun h=>h2 h.2)];rfl
theorem ztb (p:Str):1<=(wdsV p).length:=zgb 32 p []
theorem zjJ {w:List Data} (hs:WSmall w){a k:Int}{s:Str} (hsl:s.length<=1000000):
  FnD Tryz.prog 178 [.d (zaj w),.agg [.d (.i a),.d (.i k)],.d (.str s)] [] (.tup [.d (zcg ((pcV w ⟨a,k⟩ s).getD [])),.d (.bool (pcV w ⟨a,k⟩ s).isSome)]) []:=by
 cases htv:zbn w ⟨a,k⟩ with
 |false=>
  have h0:=zed hs (a:=a) (b:=k);rw[htv] at h0;rw[zyN htv];refine bd Tryz.f178 98 [] [] fun _ _ _ _ hk=>?_;refine bx 3004 ?_;refine ev (xb7 sl32 .none Z (ev (wc zqn h0 Z Z ?_)));refine ev ?_;apply sq<;>intro h1 h1p h1s;focus (refine rn0 (r2 Z Z) (.tup (qee ?_ ?_));all_goals (rfl))
  exfalso;simp at *
 |true=>
  have h0:=zed hs (a:=a) (b:=k);rw[htv] at h0;obtain⟨wv,ht,_⟩:=zcj htv;have hw:=zds hs wv;have hA:=zjQ hs wv;have hc1:FnD Tryz.prog 117 [.d (.str s),.d (.int .u8 47)] [] (.d (zcC (pcP s))) []:=zbq (s:=s) (c:=47) od;have hpl:∀i,i<(pcP s).length->(nth (pcP s) i).length<=1000000:=fun i hi=>by have:=zct (c:=47) (s:=s) hi;exact Nat.le_trans this hsl
  have hc2:∀i,i<(pcP s).length->FnD Tryz.prog 117 [.d (.str (nth (pcP s) i)),.d (.int .u8 32)] [] (.d (zcC (wdsV (nth (pcP s) i)))) []:=fun i hi=>zbq (s:=nth (pcP s) i) (c:=32) (by have:=hpl i hi;omega);have hwl:∀i,i<(pcP s).length->∀j,j<(wdsV (nth (pcP s) i)).length->(nth (wdsV (nth (pcP s) i)) j).length<=1000000:=fun i hi j hj=>by have:=zct (c:=32) (s:=nth (pcP s) i) hj;exact Nat.le_trans this (hpl i hi)
  have hpp:∀i,i<(pcP s).length->FnD Tryz.prog 229 [.d (zaj w),.agg [.d (.i a),.d (.i k)],.d (.str (nth (wdsV (nth (pcP s) i)) 0)),.d (.i 0),.d (.i 10)] [] (.tup [.agg [.d (.i (prV w ⟨a,k⟩ (nth (pcP s) i)).1.op),.d (.i (prV w ⟨a,k⟩ (nth (pcP s) i)).1.ctor),.d (.i (prV w ⟨a,k⟩ (nth (pcP s) i)).1.n),.d (.i (prV w ⟨a,k⟩ (nth (pcP s) i)).1.m),.d (.i (prV w ⟨a,k⟩ (nth (pcP s) i)).1.var),.d (zak (prV w ⟨a,k⟩ (nth (pcP s) i)).1.kids)],.d (.i (prV w ⟨a,k⟩ (nth (pcP s) i)).2)]) []:=fun i hi=>
   ziq hw hA (s:=nth (wdsV (nth (pcP s) i)) 0) (by have:=hwl i hi 0 (ztb _);omega) 10 od ht ⟨by omega,by omega⟩
  have hlim:=fun i=>zu4 (s:=s) (i:=i);have hll:zdc s<=9:=by
   unfold zdc;split
   ·omega
   ·split<;>omega
  have hwd:=fun p:Str=>ztb p;have hbd:∀i,zjH w ⟨a,k⟩ (nth (pcP s) i)=(!decide ((prV w ⟨a,k⟩ (nth (pcP s) i)).2=((nth (wdsV (nth (pcP s) i)) 0).length:Int))||(decide (nth (wdsV (nth (pcP s) i)) 0=[])||decide (2<(wdsV (nth (pcP s) i)).length))):=fun _=>rfl;have hby:∀i,(¬(prV w ⟨a,k⟩ (nth (pcP s) i)).2=((nth (wdsV (nth (pcP s) i)) 0).length:Int)\/nth (wdsV (nth (pcP s) i)) 0=[]\/2<(wdsV (nth (pcP s) i)).length)->zjH w ⟨a,k⟩ (nth (pcP s) i)=true:=fun i h=>by
   rw[hbd];rcases h with h|h|h
   ·rw[xaw h];rfl
   ·rw[xax h];simp
   ·rw[xax h];simp
  have hbn:∀i,(prV w ⟨a,k⟩ (nth (pcP s) i)).2=((nth (wdsV (nth (pcP s) i)) 0).length:Int)->¬nth (wdsV (nth (pcP s) i)) 0=[]->¬2<(wdsV (nth (pcP s) i)).length->zjH w ⟨a,k⟩ (nth (pcP s) i)=false:=fun i h h1 h2=>by
   rw[hbd,xax h,xaw h1,xaw h2];rfl
  have hno:=fun(i:Nat) (h:i<zdc s) (hb:zjH w ⟨a,k⟩ (nth (pcP s) i)=true)=>zxk (zs1 hb h);have hok:=fun(n:Nat) (r:List Cl) (h:pcN w ⟨a,k⟩ s n=some r)=>zrG hA ht h;have hcv:=fun(n:Nat) (r:List Cl) (hn:n<=9) (h:pcN w ⟨a,k⟩ s n=some r)=>zdg hs (a:=a) (k:=k) (l:=r) ⟨by have:=(hok n r h).1;omega,fun c hc=>((hok n r h).2 c hc).1⟩ (fun c hc=>by have:=((hok n r h).2 c hc).2;omega);have htx:=fun(n:Nat) (r:List Cl) (hn:n<=9) (h:pcN w ⟨a,k⟩ s n=some r) (hv:zaW w ⟨a,k⟩ r=true)=>zoe hs (l:=r) ⟨by have:=(hok n r h).1;omega,fun c hc=>((hok n r h).2 c hc).1⟩ (fun c hc=>((hok n r h).2 c hc).2) hv;refine bd Tryz.f178 98 [] [] fun _ _ _ _ hk=>?_;refine bx 3004 ?_;refine ev (xb8 1 sl32 .none Z Z (ev (wc zqn h0 Z Z ?_)));refine ev ?_;apply sq<;>intro h1 h1p h1s;exfalso;simp at *;refine wc zb2 hc1 Z Z ?_;refine ev (xaB (ι:=Nat×List Cl) hk (fun x=>[(10,.d (.i (x.1:Int))),(8,.gl 1 (x.2.map Cl.c))]) [6,7,11,12,13,14,23,24,25,26,27,28,29,30,31,32,33,34,35,36,37,38,39,40,41,42,43,44,45,46,47,48,49,50,51,52,53,54,55,56,57,58,59,60,61,62,63,64,65,66,67,68,69,70,71,72,73,74,75,76,77,78,79,80,81,82] (fun x=>[(1,some (.tok ((x.2.map Cl.c)).length 9))]) (fun x=>x.1<=zdc s/\pcN w ⟨a,k⟩ s x.1=some x.2/\x.2.length<=x.1) (fun x=>zdc s-x.1) (0,[]) ⟨by simp,Z,by simp⟩ ⟨⟨_,Z,xaU ?_⟩,⟨⟨_,Z,LeA.glg ?_⟩,O⟩⟩ ⟨zac ?_,O⟩ (fun x=>rfl) (fun x hg1=>?_));iterate 3 focus (rfl)
  refine evc [] [] ?_;apply sq<;>intro h2 h2p h2s<;>(try simp only[Q,xal,xac] at h2p);apply sq<;>intro h3 h3p h3s<;>(try simp only[Q,xal,xac] at h3p);apply sq<;>intro h4 h4p h4s<;>(try simp only[Q,xal,xac] at h4p);refine ixq zaO Z Z Z (zah od) Z ?_;refine ev (wc zb2 (hc2 x.1 od) Z Z ?_);refine ev (ixq (i:=0) zaO Z Z Z (zah (by(have:=hwd (nth (pcP s) x.1);omega))) Z (evd [] [] (wc zui (hpp x.1 od) Z Z ?_)));refine evd [] [] (ab 3012 tz74 ?_);refine so ty74 ?_;refine evd [] [] (dr (ixq (i:=0) zaO Z Z Z (zah (by(have:=hwd (nth (pcP s) x.1);omega))) Z (ev ?_)));apply sq<;>intro h5 h5p h5s<;>(try simp only[Q,xal,xac] at h5p);refine sqT ?_;refine sqT ?_;refine xb7 sl32 .none Z (ev (rn0 (r2 Z Z) (.tup (qee ?_ ?_))));rotate_left 2;refine Walk.idx (i:=0) zaO (.some Z Z h5) Z Z Z Z (zah (by(have:=hwd (nth (pcP s) x.1);omega))) Z (evs [] [(57,false)] ?_ ⟨⟨_,Z,h5⟩,O⟩);apply sq<;>intro h7 h7p h7s<;>(try simp only[Q,xal,xac] at h7p);refine sqT ?_;refine xb7 sl32 .none Z (ev (rn0 (r2 Z Z) (.tup (qee ?_ ?_))));rotate_left 2;apply sq<;>intro h9 h9p h9s<;>(try simp only[Q,xal,xac] at h9p);refine xb7 sl32 .none Z (ev (rn0 (r2 Z Z) (.tup (qee ?_ ?_))));rotate_left 2;refine bu [0] [_] st78 ?_;refine ab 3014 tz78 ?_;refine so ty78 ?_;apply tv;apply sq<;>intro h10 h10p h10s<;>(try simp only[Q,xal,xac] at h10p);refine ixq (i:=1) zaO Z Z Z (zah od) Z ?_;refine ev (wc zyi (zjK (s:=nth (wdsV (nth (pcP s) x.1)) 1) (by have:=hwl x.1 od 1 od;omega)) Z Z ?_);refine ev (so ty76 ?_);apply tv;refine si [0] [_] sl32 tz78 ?_;refine Walk.append sl32 zz78 Z .none Z Z Z Z (za3 Z o8) ov ot ot ?_;refine ev (ar ?_);refine xaj ((x.1+1,x.2++[pcC w ⟨a,k⟩ (nth (pcP s) x.1)])) ⟨(by
      have hi:x.1<zdc s:=(hlim x.1).2 ⟨⟨by omega,by omega⟩,by first|assumption|(simp_all;done)⟩;exact⟨by dsimp only;omega,zrH hg1.2.1 (hbn x.1 od ol od),by simp;omega⟩),(by
      have hi:x.1<zdc s:=(hlim x.1).2 ⟨⟨by omega,by omega⟩,by first|assumption|(simp_all;done)⟩;dsimp only;omega),sx ⟨⟨_,rfl,xaU ?_⟩,⟨⟨_,rfl,LeA.glg ?_⟩,trivial⟩⟩ ⟨zac ?_,trivial⟩⟩
  iterate 3 focus (first|(rw[zzG od,xag];rfl)|(simp;done))
  refine si [0] [_] sl32 tz78 ?_;refine Walk.append sl32 zz78 Z .none Z Z Z Z (za3 Z o8) ov ot ot ?_;refine ev (ar ?_);refine xaj ((x.1+1,x.2++[pcC w ⟨a,k⟩ (nth (pcP s) x.1)])) ⟨(by
      have hi:x.1<zdc s:=(hlim x.1).2 ⟨⟨by omega,by omega⟩,by first|assumption|(simp_all;done)⟩;exact⟨by dsimp only;omega,zrH hg1.2.1 (hbn x.1 od ol od),by simp;omega⟩),(by
      have hi:x.1<zdc s:=(hlim x.1).2 ⟨⟨by omega,by omega⟩,by first|assumption|(simp_all;done)⟩;dsimp only;omega),sx ⟨⟨_,rfl,xaU ?_⟩,⟨⟨_,rfl,LeA.glg ?_⟩,trivial⟩⟩ ⟨zac ?_,trivial⟩⟩
  iterate 3 focus (first|(rw[zzF od,xag];rfl)|(simp;done))
  refine Walk.call (cr:=[]) zjp (hcv x.1 x.2 od hg1.2.1) Z .none Z Z (.cons (.refl _) (.cons (.refl _) (.cons (.gl _ _) .nil))) O Z Z Z ?_;refine ev ?_;apply sq<;>intro h11 h11p h11s<;>(try simp only[Q,xal,xac] at h11p);refine sqT ?_;refine xb7 sl32 .none Z (ev (rn0 (r2 Z Z) (.tup (qee ?_ ?_))));rotate_left 2;refine Walk.call (cr:=[]) zqR (htx x.1 x.2 od hg1.2.1 ol) Z (.some Z Z h11) Z Z (.cons (.refl _) (.cons (.refl _) (.cons (.gl _ _) .nil))) O Z Z Z ?_;refine evs [] [(88,false)] ?_ ⟨⟨_,Z,h11⟩,O⟩;apply sq<;>intro h13 h13p h13s<;>(try simp only[Q,xal,xac] at h13p);refine xb7 sl32 .none Z (ev (rn0 (r2 Z Z) (.tup (qee ?_ ?_))));rotate_left 2;refine rn0 (r2 Z Z) (.tup (qge ?_ ?_));rotate_left 2;refine sqF ?_;refine Walk.call (cr:=[]) zjp (hcv x.1 x.2 od hg1.2.1) Z .none Z Z (.cons (.refl _) (.cons (.refl _) (.cons (.gl _ _) .nil))) O Z Z Z ?_;refine ev ?_;apply sq<;>intro h15 h15p h15s<;>(try simp only[Q,xal,xac] at h15p);refine sqT ?_;refine xb7 sl32 .none Z (ev (rn0 (r2 Z Z) (.tup (qee ?_ ?_))));rotate_left 2;refine Walk.call (cr:=[]) zqR (htx x.1 x.2 od hg1.2.1 ol) Z (.some Z Z h15) Z Z (.cons (.refl _) (.cons (.refl _) (.cons (.gl _ _) .nil))) O Z Z Z ?_;refine evs [] [(88,false)] ?_ ⟨⟨_,Z,h15⟩,O⟩;apply sq<;>intro h17 h17p h17s<;>(try simp only[Q,xal,xac] at h17p);refine xb7 sl32 .none Z (ev (rn0 (r2 Z Z) (.tup (qee ?_ ?_))));rotate_left 2;refine rn0 (r2 Z Z) (.tup (qge ?_ ?_));rotate_left 2;refine sqF ?_;refine sqF ?_;refine Walk.call (cr:=[]) zjp (hcv x.1 x.2 od hg1.2.1) Z .none Z Z (.cons (.refl _) (.cons (.refl _) (.cons (.gl _ _) .nil))) O Z Z Z ?_;refine ev ?_;apply sq<;>intro h19 h19p h19s<;>(try simp only[Q,xal,xac] at h19p);refine sqT ?_;refine xb7 sl32 .none Z (ev (rn0 (r2 Z Z) (.tup (qee ?_ ?_))));rotate_left 2;refine Walk.call (cr:=[]) zqR (htx x.1 x.2 od hg1.2.1 ol) Z (.some Z Z h19) Z Z (.cons (.refl _) (.cons (.refl _) (.cons (.gl _ _) .nil))) O Z Z Z ?_;refine evs [] [(88,false)] ?_ ⟨⟨_,Z,h19⟩,O⟩;apply sq<;>intro h21 h21p h21s<;>(try simp only[Q,xal,xac] at h21p);refine xb7 sl32 .none Z (ev (rn0 (r2 Z Z) (.tup (qee ?_ ?_))));rotate_left 2;refine rn0 (r2 Z Z) (.tup (qge ?_ ?_));rotate_left 2;all_goals (first|(rw[hno x.1 ((hlim x.1).2 ⟨⟨by omega,by omega⟩,by first|assumption|(simp_all;done)⟩) (hby x.1 (by first|exact .inl od|exact .inr (.inl ol)|exact .inr (.inr od)))];rfl)|(have e:x.1=zdc s:=(by have h9:=(hlim x.1);by_cases hi:x.1<zdc s;(exfalso;have h8:=h9.1 hi;first|omega|exact h8.2 ol|(simp_all;done));omega);have hN:=hg1.2.1;rw[e] at hN;first|(rw[zxn htv hN ol ol];all_goals rfl)|(rw[zxl hN ol];all_goals rfl)|(rw[zxm hN ol];all_goals rfl)))
abbrev zef:Ex:= .mk 0 0 0 []
def argL (f:Ty->Int->Ex×Int) (s:Str):Nat->List Ty->Int->Option (List Ex×Int)
 |_,[],a=>some ([],a)
 |i,t::ts,a=>if zbh s a (if i=0 then 40 else 44)=true then (match argL f s (i+1) ts (f t (a+1)).2 with|none=>none|some r=>some ((f t (a+1)).1::r.1,r.2)) else none
def argV (f:Ty->Int->Ex×Int) (s:Str) (ts:List Ty) (a:Int):List Ex×Int:=
 match argL f s 0 ts a with
 |none=>([],-1)
 |some r=>if ts.length=0 then r else if zbh s r.2 41=true then (r.1,r.2+1) else ([],-1)
theorem zqD {f:Ty->Int->Ex×Int}{s:Str} (hf:∀t a,EndIn s (f t a).2):∀(ts:List Ty) (i:Nat) (a:Int),EndIn s a->∀r,argL f s i ts a=some r->EndIn s r.2/\r.1.length=ts.length
 | [],_,a,ha,r,h=>by rw[argL] at h;cases h;exact⟨ha,rfl⟩
 |t::ts,i,a,ha,r,h=>by
  rw[argL] at h;by_cases hc:zbh s a (if i=0 then 40 else 44)=true
  ·rw[if_pos hc] at h;cases e:argL f s (i+1) ts (f t (a+1)).2 with
   |none=>rw[e] at h;cases h
   |some r2=>
    rw[e] at h;cases h;have:=zqD hf ts (i+1) _ (hf t (a+1)) r2 e;exact⟨this.1,by simp[this.2]⟩
  ·rw[if_neg hc] at h;cases h
theorem zl4 {f:Ty->Int->Ex×Int}{s:Str} (hf:∀t a,EndIn s (f t a).2){ts:List Ty}{a:Int} (ha:EndIn s a):EndIn s (argV f s ts a).2:=by
 have z:EndIn s ((([]:List Ex),(-1:Int))).2:=⟨Int.le_refl _,by dsimp only;omega⟩;unfold argV;cases e:argL f s 0 ts a with
 |none=>exact z
 |some r=>
  dsimp only;split
  ·exact(zqD hf ts 0 a ha r e).1
  split
  ·rename_i h;have:=zgN h;exact⟨by dsimp only;omega,by dsimp only;omega⟩
  ·exact z
theorem zo7 {f:Ty->Int->Ex×Int}{s:Str}{ts:List Ty}{i:Nat}{a:Int} (hi:i<ts.length):
  argL f s i (ts.drop i) a=if zbh s a (if i=0 then 40 else 44)=true then (match argL f s (i+1) (ts.drop (i+1)) (f (nth ts i) (a+1)).2 with|none=>none|some r=>some ((f (nth ts i) (a+1)).1::r.1,r.2)) else none:=by
 rw[zaF hi,argL]
def addE (acc:List Ex):Option (List Ex×Int)->Option (List Ex×Int)
 |none=>none
 |some r=>some (acc++r.1,r.2)
theorem zvA (o:Option (List Ex×Int)):addE [] o=o:=by cases o<;>rfl
theorem zvF {f:Ty->Int->Ex×Int}{s:Str}{ts:List Ty}{i:Nat}{a:Int}{acc:List Ex}{o:Option (List Ex×Int)} (hi:i<ts.length)
  (h:addE acc (argL f s i (ts.drop i) a)=o) (hs:zbh s a (if i=0 then 40 else 44)=true):
  addE (acc++[(f (nth ts i) (a+1)).1]) (argL f s (i+1) (ts.drop (i+1)) (f (nth ts i) (a+1)).2)=o:=by
 rw[<-h,zo7 hi,if_pos hs];cases argL f s (i+1) (ts.drop (i+1)) (f (nth ts i) (a+1)).2 with
 |none=>rfl
 |some r=>simp[addE]
theorem zwT {f:Ty->Int->Ex×Int}{s:Str}{ts:List Ty}{i:Nat}{a:Int}{acc:List Ex}{o:Option (List Ex×Int)} (hi:i<ts.length)
  (h:addE acc (argL f s i (ts.drop i) a)=o) (hs:zbh s a (if i=0 then 40 else 44)=false):o=none:=by
 rw[<-h,zo7 hi,if_neg (by rw[hs];simp)];rfl
theorem zwU {f:Ty->Int->Ex×Int}{s:Str}{ts:List Ty}{i:Nat}{a:Int}{acc:List Ex}{o:Option (List Ex×Int)} (hi:ts.length<=i)
  (h:addE acc (argL f s i (ts.drop i) a)=o):o=some (acc,a):=by
 rw[<-h,List.drop_eq_nil_of_le hi,argL];simp[addE]
theorem zj4 {s:Str}{a n:Int} (c:UInt8) (hs:s.length<=1000000000000) (h:n=(c.toNat:Int)):FnD Tryz.prog 265 [.d (.str s),.d (.i a),.d (.int .u8 n)] [] (.d (.bool (zbh s a c))) []:=by
 subst h;exact zaP hs
theorem znX {w:List Data}{funs:List Ft}{s:Str} (hs:s.length<=1000000000000 / 2){ts:List Ty} (hg:ts.length<=3){a0 dep:Int} (ha0:EndIn s a0){f:Ty->Int->Ex×Int} (hfe:∀t a,EndIn s (f t a).2)
  (hf:∀t∈ts,∀a,EndIn s a->FnD Tryz.prog 233 [.d (zaj w),.d (zbG funs),.agg [.d (.i t.data),.d (.i t.index)],.d (.str s),.d (.i a),.d (.i dep)] [] (.tup [.agg [.d (.i (f t a).1.op),.d (.i (f t a).1.n),.d (.i (f t a).1.ctor),.d (zbj (f t a).1.kids)],.d (.i (f t a).2)]) []):
  FnD Tryz.prog 269 [.d (zaj w),.d (zbG funs),.d (zbZ ts),.d (.str s),.d (.i a0),.d (.i dep)] [] (.tup [.d (zbj (argV f s ts a0).1),.d (.i (argV f s ts a0).2)]) []:=by
 have hsl:s.length<=1000000000000:=by omega
 unfold argV;generalize ho:argL f s 0 ts a0=o;have hbad:=fun(i:Nat) (a:Int) (acc:List Ex)=>zwT (f:=f) (s:=s) (ts:=ts) (i:=i) (a:=a) (acc:=acc) (o:=o);have hend:=fun(i:Nat) (a:Int) (acc:List Ex)=>zwU (f:=f) (s:=s) (ts:=ts) (i:=i) (a:=a) (acc:=acc) (o:=o);have hnext:=fun(i:Nat) (a:Int) (acc:List Ex)=>zvF (f:=f) (s:=s) (ts:=ts) (i:=i) (a:=a) (acc:=acc) (o:=o);have hsg:∀(a:Int) (i:Nat) (v:Bool),i=0->zbh s a 40=v->zbh s a (if i=0 then 40 else 44)=v:=fun a i v h h2=>by rw[if_pos h];exact h2
 have hsg2:∀(a:Int) (i:Nat) (v:Bool),¬i=0->zbh s a 44=v->zbh s a (if i=0 then 40 else 44)=v:=fun a i v h h2=>by rw[if_neg h];exact h2
 have hyes:∀ {a:Int}{c:UInt8},zbh s a c=true->0<=a/\a<(s.length:Int):=fun h=>zgN h;have hnt:∀ {a:Int},zbh s a 41=false->¬zbh s a 41=true:=fun h=>by rw[h];simp
 refine bd Tryz.f269 64 [] [] fun _ _ _ _ hk=>?_;refine xb8 1 sl33 .none Z Z (ev (xaB (ι:=Nat×List Ex×Int) hk (fun x=>[(15,.d (.i (x.1:Int))),(14,.gl 1 (x.2.1.map Ex.cc)),(4,.d (.i x.2.2))]) [12,13,16,17,18,20,21,22,23,24,25,26,27,28,29,30,31,32,33,34,35,36,37,38,39,40,41,42,43,44,45,46,47,48,49,50,51] (fun x=>[(1,some (.tok ((x.2.1.map Ex.cc)).length 4))]) (fun x=>x.1<=ts.length/\x.2.1.length<=x.1/\(-1<=x.2.2/\x.2.2<=(s.length:Int))/\addE x.2.1 (argL f s x.1 (ts.drop x.1) x.2.2)=o) (fun x=>ts.length-x.1) (0,[],a0) ⟨by simp,by simp,ha0,by rw[zvA];exact ho⟩ ⟨⟨_,Z,xaU ?_⟩,⟨⟨_,Z,LeA.glg ?_⟩,⟨⟨_,Z,xaU ?_⟩,O⟩⟩⟩ ⟨zac ?_,O⟩ (fun x=>rfl) (fun x hg1=>?_)));iterate 4 focus (rfl)
 refine evc [] [] ?_;apply sq<;>intro h1 h1p h1s<;>(try simp only[Q,xal,xac] at h1p);apply sq<;>intro h2 h2p h2s<;>(try simp only[Q,xal,xac] at h2p);refine wc zb7 (zj4 (s:=s) (a:=x.2.2) (if x.1=0 then 40 else 44) hsl (by(rw[if_pos od];rfl))) Z Z ?_;refine ev ?_;apply sq<;>intro h3 h3p h3s<;>(try simp only[Q,xal,xac] at h3p);refine rn0 (r2 Z Z) (.tup (qne ?_ ?_));rotate_left 2;refine ixq zaz Z Z Z (zah od) Z ?_;refine ev (ar (wc zqS (hf (nth ts x.1) (zaf od) (x.2.2+1) (by have:=hyes (a:=x.2.2) ol;exact⟨by omega,by omega⟩)) Z Z ?_));refine ev (ab 3017 tz40 ?_);refine so ty40 ?_;refine ev (si [0] [_] sl33 tz40 ?_);refine ap sl33 zz40 Z Z Z ov ot ?_;refine ev (ar (xaj ((x.1+1,x.2.1++[(f (nth ts x.1) (x.2.2+1)).1],(f (nth ts x.1) (x.2.2+1)).2)) ⟨⟨by dsimp only;omega,by simp;omega,hfe _ _,hnext x.1 x.2.2 x.2.1 od hg1.2.2.2 ol⟩,ox,sx ⟨⟨_,Z,xaU ?_⟩,⟨⟨_,Z,LeA.glg ?_⟩,⟨⟨_,Z,xaU ?_⟩,O⟩⟩⟩ ⟨zac ?_,O⟩⟩));iterate 4 focus ((simp;done))
 refine wc zb7 (zj4 (s:=s) (a:=x.2.2) (if x.1=0 then 40 else 44) hsl (by(rw[if_neg od];rfl))) Z Z ?_;refine ev ?_;apply sq<;>intro h4 h4p h4s<;>(try simp only[Q,xal,xac] at h4p);refine rn0 (r2 Z Z) (.tup (qne ?_ ?_));rotate_left 2;refine ixq zaz Z Z Z (zah od) Z ?_;refine ev (ar (wc zqS (hf (nth ts x.1) (zaf od) (x.2.2+1) (by have:=hyes (a:=x.2.2) ol;exact⟨by omega,by omega⟩)) Z Z ?_));refine ev (ab 3017 tz40 ?_);refine so ty40 ?_;refine ev (si [0] [_] sl33 tz40 ?_);refine ap sl33 zz40 Z Z Z ov ot ?_;refine ev (ar (xaj ((x.1+1,x.2.1++[(f (nth ts x.1) (x.2.2+1)).1],(f (nth ts x.1) (x.2.2+1)).2)) ⟨⟨by dsimp only;omega,by simp;omega,hfe _ _,hnext x.1 x.2.2 x.2.1 od hg1.2.2.2 ol⟩,ox,sx ⟨⟨_,Z,xaU ?_⟩,⟨⟨_,Z,LeA.glg ?_⟩,⟨⟨_,Z,xaU ?_⟩,O⟩⟩⟩ ⟨zac ?_,O⟩⟩));iterate 4 focus ((simp;done))
 apply sq<;>intro h5 h5p h5s<;>(try simp only[Q,xal,xac] at h5p);refine rn0 (r2 Z Z) (.tup (qge ?_ ?_));rotate_left 2;refine wc zb7 (zaP (s:=s) (a:=x.2.2) (c:=41) hsl) Z Z ?_;refine ev ?_;apply sq<;>intro h6 h6p h6s<;>(try simp only[Q,xal,xac] at h6p);refine rn0 (r2 Z Z) (.tup (qne ?_ ?_));rotate_left 2;refine ar (rn0 (r2 Z Z) (.tup (qge ?_ ?_)));rotate_left 2;all_goals (first|(rw[hbad x.1 x.2.2 x.2.1 od hg1.2.2.2 ol];all_goals rfl)|(rw[hend x.1 x.2.2 x.2.1 od hg1.2.2.2];dsimp only;first|(rw[if_pos (show ts.length=0 by omega)];all_goals first|rfl|exact(xaH _).symm|exact xam D.sl (xaH _).symm)|(rw[if_neg (show ¬ts.length=0 by omega),if_pos (show zbh s x.2.2 41=true by assumption)];all_goals first|rfl|exact(xaH _).symm|exact xam D.sl (xaH _).symm)|(rw[if_neg (show ¬ts.length=0 by omega),if_neg (hnt ol)];all_goals first|rfl|exact(xaH _).symm)))
def zf8 (funs:List Ft) (s:Str) (m:Nat):Bool:=decide (s.length<=m+1)||(decide (((nth s (m+1)).toNat:Int)<48)||decide ((funs.length:Int)<=((nth s (m+1)).toNat:Int)-48))
def zaw (w:List Data) (funs:List Ft) (s:Str):Nat->Ty->Int->Ex×Int
 |0,_,_=>(zef,-1)
 |n+1,t,a=>
  if a<0\/(s.length:Int)<=a then (zef,-1)
  else if zb8 (nth s a.toNat)=true then (.mk 1 (((nth s a.toNat).toNat:Int)-48) 0 [],a+1)
  else if zbH (nth s a.toNat)=true then (.mk 2 (((nth s a.toNat).toNat:Int)-97) 0 [],a+1)
  else if nth s a.toNat=43 then (.mk 4 0 0 (argV (zaw w funs s n) s [numT,numT] (a+1)).1,(argV (zaw w funs s n) s [numT,numT] (a+1)).2)
  else if nth s a.toNat=35 then (if zf8 funs s a.toNat=true then (zef,-1) else (.mk 5 (((nth s (a.toNat+1)).toNat:Int)-48) 0 (argV (zaw w funs s n) s [(nth funs ((nth s (a.toNat+1)).toNat-48)).arg] (a+2)).1,(argV (zaw w funs s n) s [(nth funs ((nth s (a.toNat+1)).toNat-48)).arg] (a+2)).2))
  else if nmV w t (zbe s a.toNat)<0 then (zef,-1)
  else (.mk 3 0 (nmV w t (zbe s a.toNat)) (argV (zaw w funs s n) s (zae w t (nmV w t (zbe s a.toNat))) ((a.toNat+zbw (s.drop a.toNat):Nat):Int)).1,(argV (zaw w funs s n) s (zae w t (nmV w t (zbe s a.toNat))) ((a.toNat+zbw (s.drop a.toNat):Nat):Int)).2)
theorem zm2 {funs:List Ft}{s:Str}{m:Nat} (h:¬zf8 funs s m=true):m+1<s.length/\48<=((nth s (m+1)).toNat:Int)/\((nth s (m+1)).toNat:Int)-48<(funs.length:Int):=by
 unfold zf8 at h;simp only[Bool.or_eq_true,xah,not_or] at h;omega
theorem zsm {funs:List Ft}{s:Str}{m:Nat} (h:s.length<=m+1\/((nth s (m+1)).toNat:Int)<48\/(funs.length:Int)<=((nth s (m+1)).toNat:Int)-48):zf8 funs s m=true:=by
 unfold zf8;simp only[Bool.or_eq_true,xah];exact h
theorem zjG {w:List Data}{funs:List Ft}{s:Str}:∀(n:Nat) (t:Ty) (a:Int),EndIn s (zaw w funs s n t a).2
 |0,_,_=>⟨by simp[zaw],by simp[zaw]<;>omega⟩
 |n+1,t,a=>by
  have ih:=zjG (w:=w) (funs:=funs) (s:=s) n;have z:EndIn s ((zef,(-1:Int)):Ex×Int).2:=⟨Int.le_refl _,by dsimp only;omega⟩;unfold zaw;split
  ·exact z
  rename_i ha;have ha0:0<=a:=by omega
  have ha1:a<(s.length:Int):=by omega
  split
  ·exact⟨by dsimp only;omega,by dsimp only;omega⟩
  split
  ·exact⟨by dsimp only;omega,by dsimp only;omega⟩
  split
  ·exact zl4 ih ⟨by omega,by omega⟩
  split
  ·split
   ·exact z
   ·rename_i h;have:=(zm2 h).1;exact zl4 ih ⟨by omega,by omega⟩
  split
  ·exact z
  ·exact zl4 ih (zhP ha0 ha1)
theorem zay (x:UInt8):IntKind.i64.wrap (IntKind.u8.wrap ((x.toNat:Int)-48))=((x.toNat:Int)-48) % 256:=by
 rw[zo6,zcI od]
section
variable {w:List Data}{funs:List Ft}{s:Str}{n m:Nat}{t:Ty}
theorem zyT {a:Int} (h:a<0\/(s.length:Int)<=a):zaw w funs s (n+1) t a=(zef,-1):=by unfold zaw;rw[if_pos h]
variable (hm:m<s.length)
include hm
theorem zyR (h1:48<=((nth s m).toNat:Int)) (h2:((nth s m).toNat:Int)<=57):zaw w funs s (n+1) t (m:Int)=(.mk 1 (((nth s m).toNat:Int)-48) 0 [],(m:Int)+1):=by
 rw[zaw];rw[if_neg (zgB hm),if_pos (show zb8 (nth s ((m:Int)).toNat)=true from ztp h1 h2)];rfl
theorem zyS (h1:97<=((nth s m).toNat:Int)) (h2:((nth s m).toNat:Int)<=122):zaw w funs s (n+1) t (m:Int)=(.mk 2 (((nth s m).toNat:Int)-97) 0 [],(m:Int)+1):=by
 rw[zaw];rw[if_neg (zgB hm),if_neg (show ¬zb8 (nth s ((m:Int)).toNat)=true from zjt (by show ¬(48<=((nth s m).toNat:Int)/\((nth s m).toNat:Int)<=57);omega)),if_pos (show zbH (nth s ((m:Int)).toNat)=true from ztz h1 h2)];rfl
theorem zyP (h:((nth s m).toNat:Int)=43):zaw w funs s (n+1) t (m:Int)=(.mk 4 0 0 (argV (zaw w funs s n) s [numT,numT] ((m:Int)+1)).1,(argV (zaw w funs s n) s [numT,numT] ((m:Int)+1)).2):=by
 rw[zaw];rw[if_neg (zgB hm),if_neg (show ¬zb8 (nth s ((m:Int)).toNat)=true from zjt (by show ¬(48<=((nth s m).toNat:Int)/\((nth s m).toNat:Int)<=57);omega)),if_neg (show ¬zbH (nth s ((m:Int)).toNat)=true from znu (by show ¬(97<=((nth s m).toNat:Int)/\((nth s m).toNat:Int)<=122);omega)),if_pos (show nth s ((m:Int)).toNat=43 from b_eq (k:=43) od h)]
theorem zxp (h:((nth s m).toNat:Int)=35):zaw w funs s (n+1) t (m:Int)=(if zf8 funs s m=true then (zef,-1) else (.mk 5 (((nth s (m+1)).toNat:Int)-48) 0 (argV (zaw w funs s n) s [(nth funs ((nth s (m+1)).toNat-48)).arg] ((m:Int)+2)).1,(argV (zaw w funs s n) s [(nth funs ((nth s (m+1)).toNat-48)).arg] ((m:Int)+2)).2)):=by
 rw[zaw];rw[if_neg (zgB hm),if_neg (show ¬zb8 (nth s ((m:Int)).toNat)=true from zjt (by show ¬(48<=((nth s m).toNat:Int)/\((nth s m).toNat:Int)<=57);omega)),if_neg (show ¬zbH (nth s ((m:Int)).toNat)=true from znu (by show ¬(97<=((nth s m).toNat:Int)/\((nth s m).toNat:Int)<=122);omega)),if_neg (show ¬nth s ((m:Int)).toNat=43 from b_ne (by show ¬((nth s m).toNat:Int)=43;omega)),if_pos (show nth s ((m:Int)).toNat=35 from b_eq (k:=35) od h)];rfl
theorem zyQ (h2:¬(48<=((nth s m).toNat:Int)/\((nth s m).toNat:Int)<=57)) (h4:¬(97<=((nth s m).toNat:Int)/\((nth s m).toNat:Int)<=122)) (h1:¬((nth s m).toNat:Int)=43) (h3:¬((nth s m).toNat:Int)=35):
  zaw w funs s (n+1) t (m:Int)=if nmV w t (zbe s m)<0 then (zef,-1) else (.mk 3 0 (nmV w t (zbe s m)) (argV (zaw w funs s n) s (zae w t (nmV w t (zbe s m))) ((m+zbw (s.drop m):Nat):Int)).1,(argV (zaw w funs s n) s (zae w t (nmV w t (zbe s m))) ((m+zbw (s.drop m):Nat):Int)).2):=by
 rw[zaw];rw[if_neg (zgB hm),if_neg (show ¬zb8 (nth s ((m:Int)).toNat)=true from zjt h2),if_neg (show ¬zbH (nth s ((m:Int)).toNat)=true from znu h4),if_neg (show ¬nth s ((m:Int)).toNat=43 from b_ne (by show ¬((nth s m).toNat:Int)=43;omega)),if_neg (show ¬nth s ((m:Int)).toNat=35 from b_ne (by show ¬((nth s m).toNat:Int)=35;omega))];rfl
end
theorem zp9 {w:List Data}{funs:List Ft}{s:Str} (hw:WT w) (hA3:A3 w) (hfl:funs.length<=1000000000000) (hfu:∀f∈funs,TyIn w.length f.arg) (hs:s.length<=1000000000000 / 2){a k b:Int}:FnD Tryz.prog 233 [.d (zaj w),.d (zbG funs),.agg [.d (.i a),.d (.i k)],.d (.str s),.d (.i b),.d (.i ((0:Nat):Int))] [] (.tup [.agg [.d (.i (zaw w funs s 0 ⟨a,k⟩ b).1.op),.d (.i (zaw w funs s 0 ⟨a,k⟩ b).1.n),.d (.i (zaw w funs s 0 ⟨a,k⟩ b).1.ctor),.d (zbj (zaw w funs s 0 ⟨a,k⟩ b).1.kids)],.d (.i (zaw w funs s 0 ⟨a,k⟩ b).2)]) []:=by
 rw[show zaw w funs s 0 ⟨a,k⟩ b=(zef,-1) from rfl];refine bd Tryz.f233 174 [] [] fun _ _ _ _ hk=>?_;refine bx 3008 ?_;refine ab 3012 tz40 ?_;refine ev ?_;apply sq<;>intro h1 h1p h1s;refine sqT ?_;refine sqT ?_;refine bu [] [] st40 ?_;refine so ty40 ?_;refine ev ?_;focus (refine rn0 (rc ty40) (.tup (.cons (.agg (qeeen ?_ ?_ ?_ ?_)) (qe ?_)));all_goals (rfl))
 focus (exfalso;first|omega|(simp at h1p;done))
theorem zp8 {w:List Data}{funs:List Ft}{s:Str} (hw:WT w) (hA3:A3 w) (hfl:funs.length<=1000000000000) (hfu:∀f∈funs,TyIn w.length f.arg) (hs:s.length<=1000000000000 / 2){n:Nat} (ih:∀ {a k b:Int},TyIn w.length ⟨a,k⟩->EndIn s b->FnD Tryz.prog 233 [.d (zaj w),.d (zbG funs),.agg [.d (.i a),.d (.i k)],.d (.str s),.d (.i b),.d (.i (n:Int))] [] (.tup [.agg [.d (.i (zaw w funs s n ⟨a,k⟩ b).1.op),.d (.i (zaw w funs s n ⟨a,k⟩ b).1.n),.d (.i (zaw w funs s n ⟨a,k⟩ b).1.ctor),.d (zbj (zaw w funs s n ⟨a,k⟩ b).1.kids)],.d (.i (zaw w funs s n ⟨a,k⟩ b).2)]) []){a k b:Int} (hn:n+1<=1000) (ht:TyIn w.length ⟨a,k⟩) (hb:EndIn s b):
  FnD Tryz.prog 233 [.d (zaj w),.d (zbG funs),.agg [.d (.i a),.d (.i k)],.d (.str s),.d (.i b),.d (.i ((n+1:Nat):Int))] [] (.tup [.agg [.d (.i (zaw w funs s (n+1) ⟨a,k⟩ b).1.op),.d (.i (zaw w funs s (n+1) ⟨a,k⟩ b).1.n),.d (.i (zaw w funs s (n+1) ⟨a,k⟩ b).1.ctor),.d (zbj (zaw w funs s (n+1) ⟨a,k⟩ b).1.kids)],.d (.i (zaw w funs s (n+1) ⟨a,k⟩ b).2)]) []:=by
 have hsl:s.length<=1000000000000:=by omega
 by_cases hout:b<0\/(s.length:Int)<=b
 ·rw[zyT hout];obtain⟨hb1,hb2⟩:=hb;refine bd Tryz.f233 174 [] [] fun _ _ _ _ hk=>?_;refine bx 3008 ?_;refine ab 3012 tz40 ?_;refine ev ?_;apply sq<;>intro h1 h1p h1s;refine sqT ?_;refine sqT ?_;refine bu [] [] st40 ?_;refine so ty40 ?_;refine ev ?_;focus (refine rn0 (rc ty40) (.tup (.cons (.agg (qeeen ?_ ?_ ?_ ?_)) (qe ?_)));all_goals (rfl))
  apply sq<;>intro h3 h3p h3s;refine sqT ?_;refine bu [] [] st40 ?_;refine so ty40 ?_;refine ev ?_;focus (refine rn0 (rc ty40) (.tup (.cons (.agg (qeeen ?_ ?_ ?_ ?_)) (qe ?_)));all_goals (rfl))
  try simp only[Q] at h3p
  apply sq<;>intro h5 h5p h5s<;>(try simp only[Q] at h5p);refine bu [] [] st40 ?_;refine so ty40 ?_;refine ev ?_;focus (refine rn0 (rc ty40) (.tup (.cons (.agg (qeeen ?_ ?_ ?_ ?_)) (qe ?_)));all_goals (rfl))
  focus (exfalso;first|omega|(simp at h5p;done))
 obtain⟨m,rfl⟩:=Int.eq_ofNat_of_zero_le (show 0<=b by omega);have hm:m<s.length:=by omega
 have hint:TyIn w.length numT:= .inl rfl;have harg:∀(ts:List Ty) (a0:Int),ts.length<=3->(∀t∈ts,TyIn w.length t)->EndIn s a0->
   FnD Tryz.prog 269 [.d (zaj w),.d (zbG funs),.d (zbZ ts),.d (.str s),.d (.i a0),.d (.i (((n+1:Nat):Int)-1))] [] (.tup [.d (zbj (argV (zaw w funs s n) s ts a0).1),.d (.i (argV (zaw w funs s n) s ts a0).2)]) []:=fun ts a0 q1 q2 q3=>by
  rw[show(((n+1:Nat):Int)-1)=(n:Int) by omega];exact znX hs q1 q3 (zjG n) (fun t ht' b hb'=>ih (a:=t.data) (k:=t.index) (q2 t ht') hb')
 have hk1:=harg [numT,numT] ((m:Int)+1) oi (by intro t h;simp at h;subst h;exact hint) ⟨by omega,by omega⟩;have hk2:=fun(q:((nth s (m+1)).toNat-48)<funs.length) (h:EndIn s ((m:Int)+2))=>harg [(nth funs ((nth s (m+1)).toNat-48)).arg] ((m:Int)+2) oi (by intro t h;simp at h;subst h;exact hfu _ (zaf q)) h;have hk3:=fun(h:¬nmV w ⟨a,k⟩ (zbe s m)<0)=>harg (zae w ⟨a,k⟩ (nmV w ⟨a,k⟩ (zbe s m))) ((m+zbw (s.drop m):Nat):Int) (hA3 _ _ ht (zfD h)).1 (hA3 _ _ ht (zfD h)).2 (zhP (a:=(m:Int)) od od);have hnl:=zjF (s.drop m);rw[List.length_drop] at hnl;have q0:=zyR (w:=w) (funs:=funs) (t:=⟨a,k⟩) (n:=n) hm;have q1:=zyS (w:=w) (funs:=funs) (t:=⟨a,k⟩) (n:=n) hm;have q2:=zyP (w:=w) (funs:=funs) (t:=⟨a,k⟩) (n:=n) hm;have q3:=zxp (w:=w) (funs:=funs) (t:=⟨a,k⟩) (n:=n) hm;have q4:=zyQ (w:=w) (funs:=funs) (t:=⟨a,k⟩) (n:=n) hm;have hag:=fun(h:¬nmV w ⟨a,k⟩ (zbe s m)<0)=>zb4 hw ht (zfD h);have hnm:=zjd hw ht (s:=zbe s m);have hX1:=(nth s (m+1)).toNat_lt;have q3a:=fun(h:((nth s m).toNat:Int)=35) (hs:s.length<=m+1\/((nth s (m+1)).toNat:Int)<48\/(funs.length:Int)<=((nth s (m+1)).toNat:Int)-48)=>(q3 h).trans (if_pos (zsm hs));have q3b:=fun(h:((nth s m).toNat:Int)=35) (hs:¬(s.length<=m+1\/((nth s (m+1)).toNat:Int)<48\/(funs.length:Int)<=((nth s (m+1)).toNat:Int)-48))=>(q3 h).trans (if_neg (fun hb=>hs (by
  unfold zf8 at hb;simp only[Bool.or_eq_true,xah] at hb;exact hb)))
 have q4a:=fun a1 a2 a3 a4 (hs:nmV w ⟨a,k⟩ (zbe s m)<0)=>(q4 a1 a2 a3 a4).trans (if_pos hs);have q4b:=fun a1 a2 a3 a4 (hs:¬nmV w ⟨a,k⟩ (zbe s m)<0)=>(q4 a1 a2 a3 a4).trans (if_neg hs);clear q3 q4 harg;have hW:=zay (nth s (m+1));have hW0:48<=((nth s m).toNat:Int)->((nth s m).toNat:Int)<=57->IntKind.i64.wrap (IntKind.u8.wrap (((nth s m).toNat:Int)-48))=((nth s m).toNat:Int)-48:=fun _ _=>zju od od;generalize argV (zaw w funs s n) s [numT,numT] ((m:Int)+1)=K1 at *;generalize argV (zaw w funs s n) s [(nth funs ((nth s (m+1)).toNat-48)).arg] ((m:Int)+2)=K2 at *;generalize argV (zaw w funs s n) s (zae w ⟨a,k⟩ (nmV w ⟨a,k⟩ (zbe s m))) ((m+zbw (s.drop m):Nat):Int)=K3 at *;generalize nmV w ⟨a,k⟩ (zbe s m)=cc at *;generalize zae w ⟨a,k⟩ cc=ts at *;generalize zaw w funs s (n+1) ⟨a,k⟩ (m:Int)=R at *;refine bd Tryz.f233 174 [51,64,109,120] [] fun _ _ _ _ hk=>?_;refine bx 3008 ?_;refine ab 3012 tz40 ?_;refine evs [51,64,109,120] [] ?_;apply sq<;>intro h1 h1p h1s;try simp only[Q,xal,xac,zay] at h1p
 refine sqT ?_;refine sqT ?_;focus (exfalso;first|omega|(simp at HP;done))
 apply sq<;>intro h3 h3p h3s;try simp only[Q,xal,xac,zay] at h3p
 refine sqT ?_;focus (exfalso;first|omega|(simp at HP;done))
 apply sq<;>intro h5 h5p h5s;try simp only[Q,xal,xac,zay] at h5p
 focus (exfalso;first|omega|(simp at h5p;done))
 refine bu [0] [_] st29 ?_;refine ab 3014 tz29 ?_;refine so ty29 ?_;apply tv;refine xbN (i:=m) un9 .none Z Z Z Z (zbc od) ?_;refine evs [51,64,109,120] [] ?_;apply sq<;>intro h6 h6p h6s<;>(try simp only[Q,xal,xac,zay] at h6p);apply sq<;>intro h7 h7p h7s<;>(try simp only[Q,xal,xac,zay] at h7p);refine xcd .none Z Z Z (xbz oz un3 .none Z Z ?_);refine bu [0,1] [_,_] st40 ?_;refine evs [51,64,109,120] [] (ar (so ty40 ?_));refine evs [51,64,109,120] [] (rn0 (rc ty40) (.tup (.cons (.agg (qeeen ?_ ?_ ?_ ?_)) (qe ?_))));rotate_left 5;apply sq<;>intro h8 h8p h8s<;>(try simp only[Q,xal,xac,zay] at h8p);apply sq<;>intro h9 h9p h9s<;>(try simp only[Q,xal,xac,zay] at h9p);refine xcd .none Z Z Z (xbz oz un3 .none Z Z ?_);refine bu [0,1] [_,_] st40 ?_;refine evs [51,64,109,120] [] (ar (so ty40 ?_));refine evs [51,64,109,120] [] (rn0 (rc ty40) (.tup (.cons (.agg (qeeen ?_ ?_ ?_ ?_)) (qe ?_))));rotate_left 5;apply sq<;>intro h10 h10p h10s<;>(try simp only[Q,xal,xac,zay] at h10p);refine si [0,1] [_,_] zaz tz29 ?_;refine evs [51,64,109,120] [] (ar (ar (wc zeh hk1 Z Z ?_)));refine evs [51,64,109,120] [] (bu [0,3] [_,_] st40 ?_);refine evs [51,64,109,120] [] (so ty40 ?_);refine evs [51,64,109,120] [] (rn0 (rc ty40) (.tup (.cons (.agg (qeeee ?_ ?_ ?_ ?_)) (qe ?_))));rotate_left 5;apply sq<;>intro h11 h11p h11s<;>(try simp only[Q,xal,xac,zay] at h11p);refine ar ?_;apply sq<;>intro h12 h12p h12s<;>(try simp only[Q,xal,xac,zay] at h12p);refine sqT ?_;refine sqT ?_;refine bu [] [] st40 ?_;refine so ty40 ?_;refine evs [51,64,109,120] [] (rn0 (rc ty40) (.tup (.cons (.agg (qeeen ?_ ?_ ?_ ?_)) (qe ?_))));rotate_left 5;refine ar (xbN (i:=((m+1:Nat))) un9 (.some Z Z h12) Z Z Z od (zbc od) ?_);refine evs [51,64,109,120] [(97,false)] ?_ ⟨⟨_,Z,h12⟩,O⟩;apply sq<;>intro h14 h14p h14s<;>(try simp only[Q,xal,xac,zay] at h14p);refine sqT ?_;refine bu [] [] st40 ?_;refine so ty40 ?_;refine evs [51,64,109,120] [] (rn0 (rc ty40) (.tup (.cons (.agg (qeeen ?_ ?_ ?_ ?_)) (qe ?_))));rotate_left 5;refine ar (xbN (i:=((m+1:Nat))) un9 (.some Z Z h14) Z Z Z od (zbc od) ?_);refine xcd (.some Z Z h14) Z Z Z (xbz oz un3 (.some Z Z h14) Z Z ?_);refine evs [51,64,109,120] [(104,false)] ?_ ⟨⟨_,Z,h14⟩,O⟩;apply sq<;>intro h16 h16p h16s<;>(try simp only[Q,xal,xac,zay] at h16p);refine bu [] [] st40 ?_;refine so ty40 ?_;refine evs [51,64,109,120] [] (rn0 (rc ty40) (.tup (.cons (.agg (qeeen ?_ ?_ ?_ ?_)) (qe ?_))));rotate_left 5;refine ar (xbN (i:=((m+1:Nat))) un9 .none Z Z Z od (zbc od) ?_);refine xcd .none Z Z Z (xbz oz un3 .none Z Z ?_);refine evs [51,64,109,120] [] (Walk.idx (i:=((nth s (m+1)).toNat-48)) sl63 .none Z Z Z (by rw[zay];omega) (zah od) Z ?_);refine evs [51,64,109,120] [] (si [0] [_] zaz tz29 ?_);refine evs [51,64,109,120] [] (ar (ar (wc zeh (hk2 od ⟨by omega,by omega⟩) Z Z ?_)));refine evs [51,64,109,120] [] (bu [0,1,3] [_,_,_] st40 ?_);refine evs [51,64,109,120] [] (so ty40 ?_);refine evs [51,64,109,120] [] (rn0 (rc ty40) (.tup (.cons (.agg (qeeee ?_ ?_ ?_ ?_)) (qe ?_))));rotate_left 5;refine wc zc5 (za9 (s:=s) (n:=m) hsl od) Z Z ?_;refine evs [51,64,109,120] [] (wc zc6 hnm Z Z ?_);refine evs [51,64,109,120] [] ?_;apply sq<;>intro h17 h17p h17s<;>(try simp only[Q,xal,xac,zay] at h17p);refine bu [] [] st40 ?_;refine so ty40 ?_;refine evs [51,64,109,120] [] (rn0 (rc ty40) (.tup (.cons (.agg (qeeen ?_ ?_ ?_ ?_)) (qe ?_))));rotate_left 5;refine wc zbX (hag od) Z Z ?_;refine evs [51,64,109,120] [] (ar (wc zeh (hk3 od) Z Z ?_));refine evs [51,64,109,120] [] (bu [0,2,3] [_,_,_] st40 ?_);refine evs [51,64,109,120] [] (so ty40 ?_);refine evs [51,64,109,120] [] (rn0 (rc ty40) (.tup (.cons (.agg (qeeee ?_ ?_ ?_ ?_)) (qe ?_))));rotate_left 5;refine sqF ?_;apply sq<;>intro h19 h19p h19s<;>(try simp only[Q,xal,xac,zay] at h19p);refine si [0,1] [_,_] zaz tz29 ?_;refine evs [51,64,109,120] [] (ar (ar (wc zeh hk1 Z Z ?_)));refine evs [51,64,109,120] [] (bu [0,3] [_,_] st40 ?_);refine evs [51,64,109,120] [] (so ty40 ?_);refine evs [51,64,109,120] [] (rn0 (rc ty40) (.tup (.cons (.agg (qeeee ?_ ?_ ?_ ?_)) (qe ?_))));rotate_left 5;apply sq<;>intro h20 h20p h20s<;>(try simp only[Q,xal,xac,zay] at h20p);refine ar ?_;apply sq<;>intro h21 h21p h21s<;>(try simp only[Q,xal,xac,zay] at h21p);refine sqT ?_;refine sqT ?_;refine bu [] [] st40 ?_;refine so ty40 ?_;refine evs [51,64,109,120] [] (rn0 (rc ty40) (.tup (.cons (.agg (qeeen ?_ ?_ ?_ ?_)) (qe ?_))));rotate_left 5;refine ar (xbN (i:=((m+1:Nat))) un9 (.some Z Z h21) Z Z Z od (zbc od) ?_);refine evs [51,64,109,120] [(97,false)] ?_ ⟨⟨_,Z,h21⟩,O⟩;apply sq<;>intro h23 h23p h23s<;>(try simp only[Q,xal,xac,zay] at h23p);refine sqT ?_;refine bu [] [] st40 ?_;refine so ty40 ?_;refine evs [51,64,109,120] [] (rn0 (rc ty40) (.tup (.cons (.agg (qeeen ?_ ?_ ?_ ?_)) (qe ?_))));rotate_left 5;refine ar (xbN (i:=((m+1:Nat))) un9 (.some Z Z h23) Z Z Z od (zbc od) ?_);refine xcd (.some Z Z h23) Z Z Z (xbz oz un3 (.some Z Z h23) Z Z ?_);refine evs [51,64,109,120] [(104,false)] ?_ ⟨⟨_,Z,h23⟩,O⟩;apply sq<;>intro h25 h25p h25s<;>(try simp only[Q,xal,xac,zay] at h25p);refine bu [] [] st40 ?_;refine so ty40 ?_;refine evs [51,64,109,120] [] (rn0 (rc ty40) (.tup (.cons (.agg (qeeen ?_ ?_ ?_ ?_)) (qe ?_))));rotate_left 5;refine ar (xbN (i:=((m+1:Nat))) un9 .none Z Z Z od (zbc od) ?_);refine xcd .none Z Z Z (xbz oz un3 .none Z Z ?_);refine evs [51,64,109,120] [] (Walk.idx (i:=((nth s (m+1)).toNat-48)) sl63 .none Z Z Z (by rw[zay];omega) (zah od) Z ?_);refine evs [51,64,109,120] [] (si [0] [_] zaz tz29 ?_);refine evs [51,64,109,120] [] (ar (ar (wc zeh (hk2 od ⟨by omega,by omega⟩) Z Z ?_)));refine evs [51,64,109,120] [] (bu [0,1,3] [_,_,_] st40 ?_);refine evs [51,64,109,120] [] (so ty40 ?_);refine evs [51,64,109,120] [] (rn0 (rc ty40) (.tup (.cons (.agg (qeeee ?_ ?_ ?_ ?_)) (qe ?_))));rotate_left 5;refine wc zc5 (za9 (s:=s) (n:=m) hsl od) Z Z ?_;refine evs [51,64,109,120] [] (wc zc6 hnm Z Z ?_);refine evs [51,64,109,120] [] ?_;apply sq<;>intro h26 h26p h26s<;>(try simp only[Q,xal,xac,zay] at h26p);refine bu [] [] st40 ?_;refine so ty40 ?_;refine evs [51,64,109,120] [] (rn0 (rc ty40) (.tup (.cons (.agg (qeeen ?_ ?_ ?_ ?_)) (qe ?_))));rotate_left 5;refine wc zbX (hag od) Z Z ?_;refine evs [51,64,109,120] [] (ar (wc zeh (hk3 od) Z Z ?_));refine evs [51,64,109,120] [] (bu [0,2,3] [_,_,_] st40 ?_);refine evs [51,64,109,120] [] (so ty40 ?_);refine evs [51,64,109,120] [] (rn0 (rc ty40) (.tup (.cons (.agg (qeeee ?_ ?_ ?_ ?_)) (qe ?_))));rotate_left 5;refine sqF ?_;apply sq<;>intro h28 h28p h28s<;>(try simp only[Q,xal,xac,zay] at h28p);apply sq<;>intro h29 h29p h29s<;>(try simp only[Q,xal,xac,zay] at h29p);refine xcd .none Z Z Z (xbz oz un3 .none Z Z ?_);refine bu [0,1] [_,_] st40 ?_;refine evs [51,64,109,120] [] (ar (so ty40 ?_));refine evs [51,64,109,120] [] (rn0 (rc ty40) (.tup (.cons (.agg (qeeen ?_ ?_ ?_ ?_)) (qe ?_))));rotate_left 5;apply sq<;>intro h30 h30p h30s<;>(try simp only[Q,xal,xac,zay] at h30p);refine si [0,1] [_,_] zaz tz29 ?_;refine evs [51,64,109,120] [] (ar (ar (wc zeh hk1 Z Z ?_)));refine evs [51,64,109,120] [] (bu [0,3] [_,_] st40 ?_);refine evs [51,64,109,120] [] (so ty40 ?_);refine evs [51,64,109,120] [] (rn0 (rc ty40) (.tup (.cons (.agg (qeeee ?_ ?_ ?_ ?_)) (qe ?_))));rotate_left 5;apply sq<;>intro h31 h31p h31s<;>(try simp only[Q,xal,xac,zay] at h31p);refine ar ?_;apply sq<;>intro h32 h32p h32s<;>(try simp only[Q,xal,xac,zay] at h32p);refine sqT ?_;refine sqT ?_;refine bu [] [] st40 ?_;refine so ty40 ?_;refine evs [51,64,109,120] [] (rn0 (rc ty40) (.tup (.cons (.agg (qeeen ?_ ?_ ?_ ?_)) (qe ?_))));rotate_left 5;refine ar (xbN (i:=((m+1:Nat))) un9 (.some Z Z h32) Z Z Z od (zbc od) ?_);refine evs [51,64,109,120] [(97,false)] ?_ ⟨⟨_,Z,h32⟩,O⟩;apply sq<;>intro h34 h34p h34s<;>(try simp only[Q,xal,xac,zay] at h34p);refine sqT ?_;refine bu [] [] st40 ?_;refine so ty40 ?_;refine evs [51,64,109,120] [] (rn0 (rc ty40) (.tup (.cons (.agg (qeeen ?_ ?_ ?_ ?_)) (qe ?_))));rotate_left 5;refine ar (xbN (i:=((m+1:Nat))) un9 (.some Z Z h34) Z Z Z od (zbc od) ?_);refine xcd (.some Z Z h34) Z Z Z (xbz oz un3 (.some Z Z h34) Z Z ?_);refine evs [51,64,109,120] [(104,false)] ?_ ⟨⟨_,Z,h34⟩,O⟩;apply sq<;>intro h36 h36p h36s<;>(try simp only[Q,xal,xac,zay] at h36p);refine bu [] [] st40 ?_;refine so ty40 ?_;refine evs [51,64,109,120] [] (rn0 (rc ty40) (.tup (.cons (.agg (qeeen ?_ ?_ ?_ ?_)) (qe ?_))));rotate_left 5;refine ar (xbN (i:=((m+1:Nat))) un9 .none Z Z Z od (zbc od) ?_);refine xcd .none Z Z Z (xbz oz un3 .none Z Z ?_);refine evs [51,64,109,120] [] (Walk.idx (i:=((nth s (m+1)).toNat-48)) sl63 .none Z Z Z (by rw[zay];omega) (zah od) Z ?_);refine evs [51,64,109,120] [] (si [0] [_] zaz tz29 ?_);refine evs [51,64,109,120] [] (ar (ar (wc zeh (hk2 od ⟨by omega,by omega⟩) Z Z ?_)));refine evs [51,64,109,120] [] (bu [0,1,3] [_,_,_] st40 ?_);refine evs [51,64,109,120] [] (so ty40 ?_);refine evs [51,64,109,120] [] (rn0 (rc ty40) (.tup (.cons (.agg (qeeee ?_ ?_ ?_ ?_)) (qe ?_))));rotate_left 5;refine wc zc5 (za9 (s:=s) (n:=m) hsl od) Z Z ?_;refine evs [51,64,109,120] [] (wc zc6 hnm Z Z ?_);refine evs [51,64,109,120] [] ?_;apply sq<;>intro h37 h37p h37s<;>(try simp only[Q,xal,xac,zay] at h37p);refine bu [] [] st40 ?_;refine so ty40 ?_;refine evs [51,64,109,120] [] (rn0 (rc ty40) (.tup (.cons (.agg (qeeen ?_ ?_ ?_ ?_)) (qe ?_))));rotate_left 5;refine wc zbX (hag od) Z Z ?_;refine evs [51,64,109,120] [] (ar (wc zeh (hk3 od) Z Z ?_));refine evs [51,64,109,120] [] (bu [0,2,3] [_,_,_] st40 ?_);refine evs [51,64,109,120] [] (so ty40 ?_);refine evs [51,64,109,120] [] (rn0 (rc ty40) (.tup (.cons (.agg (qeeee ?_ ?_ ?_ ?_)) (qe ?_))));rotate_left 5;refine sqF ?_;apply sq<;>intro h39 h39p h39s<;>(try simp only[Q,xal,xac,zay] at h39p);refine si [0,1] [_,_] zaz tz29 ?_;refine evs [51,64,109,120] [] (ar (ar (wc zeh hk1 Z Z ?_)));refine evs [51,64,109,120] [] (bu [0,3] [_,_] st40 ?_);refine evs [51,64,109,120] [] (so ty40 ?_);refine evs [51,64,109,120] [] (rn0 (rc ty40) (.tup (.cons (.agg (qeeee ?_ ?_ ?_ ?_)) (qe ?_))));rotate_left 5;apply sq<;>intro h40 h40p h40s<;>(try simp only[Q,xal,xac,zay] at h40p);refine ar ?_;apply sq<;>intro h41 h41p h41s<;>(try simp only[Q,xal,xac,zay] at h41p);refine sqT ?_;refine sqT ?_;refine bu [] [] st40 ?_;refine so ty40 ?_;refine evs [51,64,109,120] [] (rn0 (rc ty40) (.tup (.cons (.agg (qeeen ?_ ?_ ?_ ?_)) (qe ?_))));rotate_left 5;refine ar (xbN (i:=((m+1:Nat))) un9 (.some Z Z h41) Z Z Z od (zbc od) ?_);refine evs [51,64,109,120] [(97,false)] ?_ ⟨⟨_,Z,h41⟩,O⟩;apply sq<;>intro h43 h43p h43s<;>(try simp only[Q,xal,xac,zay] at h43p);refine sqT ?_;refine bu [] [] st40 ?_;refine so ty40 ?_;refine evs [51,64,109,120] [] (rn0 (rc ty40) (.tup (.cons (.agg (qeeen ?_ ?_ ?_ ?_)) (qe ?_))));rotate_left 5;refine ar (xbN (i:=((m+1:Nat))) un9 (.some Z Z h43) Z Z Z od (zbc od) ?_);refine xcd (.some Z Z h43) Z Z Z (xbz oz un3 (.some Z Z h43) Z Z ?_);refine evs [51,64,109,120] [(104,false)] ?_ ⟨⟨_,Z,h43⟩,O⟩;apply sq<;>intro h45 h45p h45s<;>(try simp only[Q,xal,xac,zay] at h45p);refine bu [] [] st40 ?_;refine so ty40 ?_;refine evs [51,64,109,120] [] (rn0 (rc ty40) (.tup (.cons (.agg (qeeen ?_ ?_ ?_ ?_)) (qe ?_))));rotate_left 5;refine ar (xbN (i:=((m+1:Nat))) un9 .none Z Z Z od (zbc od) ?_);refine xcd .none Z Z Z (xbz oz un3 .none Z Z ?_);refine evs [51,64,109,120] [] (Walk.idx (i:=((nth s (m+1)).toNat-48)) sl63 .none Z Z Z (by rw[zay];omega) (zah od) Z ?_);refine evs [51,64,109,120] [] (si [0] [_] zaz tz29 ?_);refine evs [51,64,109,120] [] (ar (ar (wc zeh (hk2 od ⟨by omega,by omega⟩) Z Z ?_)));refine evs [51,64,109,120] [] (bu [0,1,3] [_,_,_] st40 ?_);refine evs [51,64,109,120] [] (so ty40 ?_);refine evs [51,64,109,120] [] (rn0 (rc ty40) (.tup (.cons (.agg (qeeee ?_ ?_ ?_ ?_)) (qe ?_))));rotate_left 5;refine wc zc5 (za9 (s:=s) (n:=m) hsl od) Z Z ?_;refine evs [51,64,109,120] [] (wc zc6 hnm Z Z ?_);refine evs [51,64,109,120] [] ?_;apply sq<;>intro h46 h46p h46s<;>(try simp only[Q,xal,xac,zay] at h46p);refine bu [] [] st40 ?_;refine so ty40 ?_;refine evs [51,64,109,120] [] (rn0 (rc ty40) (.tup (.cons (.agg (qeeen ?_ ?_ ?_ ?_)) (qe ?_))));rotate_left 5;refine wc zbX (hag od) Z Z ?_;refine evs [51,64,109,120] [] (ar (wc zeh (hk3 od) Z Z ?_));refine evs [51,64,109,120] [] (bu [0,2,3] [_,_,_] st40 ?_);refine evs [51,64,109,120] [] (so ty40 ?_);refine evs [51,64,109,120] [] (rn0 (rc ty40) (.tup (.cons (.agg (qeeee ?_ ?_ ?_ ?_)) (qe ?_))));rotate_left 5;all_goals (first|(rw[q0 od od];all_goals first|(rw[hW0 od od];all_goals rfl)|rfl)|(rw[q1 od od];all_goals first|(rw[zmn od od];all_goals rfl)|rfl)|(rw[q2 od];all_goals rfl)|(rw[q3a od od];all_goals rfl)|(rw[q3b od od];all_goals first|(rw[zay,show(((nth s (m+1)).toNat:Int)-48) % 256=((nth s (m+1)).toNat:Int)-48 by omega];all_goals rfl)|rfl)|(rw[q4a od od od od od];all_goals rfl)|(rw[q4b od od od od od];all_goals rfl))
theorem zhY {w:List Data}{funs:List Ft}{s:Str} (hw:WT w) (hA3:A3 w) (hfl:funs.length<=1000000000000) (hfu:∀f∈funs,TyIn w.length f.arg) (hs:s.length<=1000000000000 / 2):∀(n:Nat){a k:Int}{b:Int},n<=1000->TyIn w.length ⟨a,k⟩->EndIn s b->
  FnD Tryz.prog 233 [.d (zaj w),.d (zbG funs),.agg [.d (.i a),.d (.i k)],.d (.str s),.d (.i b),.d (.i (n:Int))] [] (.tup [.agg [.d (.i (zaw w funs s n ⟨a,k⟩ b).1.op),.d (.i (zaw w funs s n ⟨a,k⟩ b).1.n),.d (.i (zaw w funs s n ⟨a,k⟩ b).1.ctor),.d (zbj (zaw w funs s n ⟨a,k⟩ b).1.kids)],.d (.i (zaw w funs s n ⟨a,k⟩ b).2)]) []
 |0,a,k,b,_,_,_=>zp9 hw hA3 hfl hfu hs
 |n+1,a,k,b,hn,ht,hb=>zp8 hw hA3 hfl hfu hs (fun {a k b} h1 h2=>zhY hw hA3 hfl hfu hs n od h1 h2) hn ht hb
def zlB (w:List Data) (vars:List Vt) (i:Nat):Bool:=decide (0<=(nth vars i).var)&&(decide ((nth vars i).var<=5)&&((zbr w.length (nth vars i).ty&&decide (0<=(nth vars i).ty.index))&&decide (zba vars (nth vars i).var=(i:Int))))
def zeU (w:List Data) (vars:List Vt):Bool:=(List.range vars.length).all (zlB w vars)
theorem zvt {w:List Data}{vars:List Vt}{i:Nat} (hi:i<vars.length) (h:zlB w vars i=false):zeU w vars=false:=by
 cases e:zeU w vars with
 |false=>rfl
 |true=>
  unfold zeU at e;have:=List.all_eq_true.1 e i (List.mem_range.2 hi);rw[h] at this;cases this
theorem ztX {w:List Data}{vars:List Vt} (h:∀i,i<vars.length->zlB w vars i=true):zeU w vars=true:=by
 unfold zeU;exact List.all_eq_true.2 (fun i hi=>h i (List.mem_range.1 hi))
theorem znZ {w:List Data}{vars:List Vt} (hv:vars.length<=1000000000000):FnD Tryz.prog 268 [.d (zaj w),.d (zbK vars)] [] (.d (.bool (zeU w vars))) []:=by
 have hat:∀i,zlB w vars i=(decide (0<=(nth vars i).var)&&(decide ((nth vars i).var<=5)&&((zbr w.length (nth vars i).ty&&decide (0<=(nth vars i).ty.index))&&decide (zba vars (nth vars i).var=(i:Int))))):=fun _=>rfl;have hno:∀i,i<vars.length->(¬0<=(nth vars i).var\/¬(nth vars i).var<=5\/(zbr w.length (nth vars i).ty&&decide (0<=(nth vars i).ty.index))=false\/¬zba vars (nth vars i).var=(i:Int))->zeU w vars=false:=fun i hi h=>zvt hi (by
  rw[hat];rcases h with h|h|h|h
  ·rw[xaw h];rfl
  ·rw[xaw h];simp
  ·rw[h];simp
  ·rw[xaw h];simp)
 have hye:∀i,0<=(nth vars i).var->(nth vars i).var<=5->(zbr w.length (nth vars i).ty&&decide (0<=(nth vars i).ty.index))=true->zba vars (nth vars i).var=(i:Int)->zlB w vars i=true:=fun i h1 h2 h3 h4=>by
  rw[hat,xax h1,xax h2,h3,xax h4];rfl
 have hall:=ztX (w:=w) (vars:=vars);have hl1:=fun i=>zf1 (w:=w) (a:=(nth vars i).ty.data) (b:=(nth vars i).ty.index);have hfv:=fun n=>zdn (l:=vars) (n:=n) hv;generalize zeU w vars=R at *;refine bd Tryz.f268 47 [] [] fun _ _ _ _ hk=>?_;refine xaB (ι:=Nat) hk (fun i=>[(5,.d (.i (i:Int)))]) [4,6,7,8,9,10,11,12,13,14,15,16,17,18,19,20,21,22,23,24,25,26,27,28,29,30,31,32,33,34,35,36,37,38,39,40,41,42,43,44,45,46] (fun i=>[]) (fun i=>i<=vars.length/\∀j,j<i->zlB w vars j=true) (fun i=>vars.length-i) 0 ⟨by omega,fun j h=>by omega⟩ ⟨⟨_,Z,xaU ?_⟩,O⟩ O (fun x=>rfl) (fun i hg1=>?_);focus (first|rfl|omega|(simp;done))
 refine evc [] [] ?_;apply sq<;>intro h1 h1p h1s<;>(try simp only[Q,xal,xac] at h1p);refine ixq sl66 Z Z Z (zah od) Z ?_;refine ev ?_;apply sq<;>intro h2 h2p h2s<;>(try simp only[Q,xal,xac] at h2p);refine sqT ?_;refine sqT ?_;refine sqT ?_;refine rq ?_;rotate_left;refine Walk.idx sl66 (.some Z Z h2) Z Z Z Z (zah od) Z ?_;refine evs [] [(18,false)] ?_ ⟨⟨_,Z,h2⟩,O⟩;apply sq<;>intro h4 h4p h4s<;>(try simp only[Q,xal,xac] at h4p);refine sqT ?_;refine sqT ?_;refine rq ?_;rotate_left;refine Walk.idx sl66 (.some Z Z h4) Z Z Z Z (zah od) Z ?_;refine evs [] [(26,false)] ?_ ⟨⟨_,Z,h4⟩,O⟩;refine Walk.call (cr:=[]) zlg (hl1 i) Z (.some Z Z h4) Z Z (LeL.refl _) O Z Z Z (evs [] [(26,false)] ?_ ⟨⟨_,Z,h4⟩,O⟩);apply sq<;>intro h6 h6p h6s<;>(try simp only[Q,xal,xac] at h6p);refine sqT ?_;refine rq ?_;rotate_left;refine Walk.idx sl66 (.some Z Z h6) Z Z Z Z (zah od) Z ?_;refine evs [] [(36,false)] ?_ ⟨⟨_,Z,h6⟩,O⟩;refine Walk.call (cr:=[]) ziR (hfv (nth vars i).var) Z (.some Z Z h6) Z Z (LeL.refl _) O Z Z Z (evs [] [(36,false)] ?_ ⟨⟨_,Z,h6⟩,O⟩);apply sq<;>intro h8 h8p h8s<;>(try simp only[Q,xal,xac] at h8p);refine rq ?_;rotate_left;refine ar ?_;refine xaj (i+1) ⟨⟨by omega,fun j hj=>by
    by_cases e:j=i
    ·subst e;exact hye j od od ol ol
    ·exact hg1.2 j od⟩,od,sx ⟨⟨_,rfl,xaU ?_⟩,trivial⟩ trivial⟩
 focus (first|rfl|omega|(simp;done))
 refine rq ?_;rotate_left;all_goals (first|(rw[hno i od (by first|exact .inl od|exact .inr (.inl od)|exact .inr (.inr (.inl ol))|exact .inr (.inr (.inr ol)))];done)|(rw[hall (fun j hj=>hg1.2 j od)];done))
def zgM (w:List Data) (funs:List Ft) (vars:List Vt) (t:Ty):Bool:=zbn w t&&(zcc w funs&&zeU w vars)
theorem zmx {w:List Data} (hs:WSmall w){funs:List Ft}{vars:List Vt} (hf:funs.length<=1000000000000) (hv:vars.length<=1000000000000){a k:Int}:FnD Tryz.prog 232 [.d (zaj w),.d (zbG funs),.d (zbK vars),.agg [.d (.i a),.d (.i k)]] [] (.d (.bool (zgM w funs vars ⟨a,k⟩))) []:=by
 have h0:=zed hs (a:=a) (b:=k);have hf0:=zez (w:=w) (funs:=funs) (by have:=hs.len;omega) hf;have hv0:=znZ (w:=w) (vars:=vars) hv;have hR:zgM w funs vars ⟨a,k⟩=(zbn w ⟨a,k⟩&&(zcc w funs&&zeU w vars)):=rfl;rw[hR];generalize zbn w ⟨a,k⟩=b1 at *;generalize zcc w funs=b2 at *;generalize zeU w vars=b3 at *;refine bd Tryz.f232 22 [] [] fun _ _ _ _ hk=>?_;refine bx 3007 ?_;refine ev (wc zqn h0 Z Z ?_);refine ev ?_;apply sq<;>intro h1 h1p h1s;refine Walk.call (cr:=[]) zh9 hf0 Z (.some Z Z h1) Z Z (LeL.refl _) O Z Z Z (evs [] [(12,true)] ?_ ⟨⟨_,Z,h1⟩,O⟩);apply sq<;>intro h2 h2p h2s;refine Walk.call (cr:=[]) zyu hv0 Z (.some Z Z h2) Z Z (LeL.refl _) O Z Z Z (evs [] [(17,true)] ?_ ⟨⟨_,Z,h2⟩,O⟩);refine rq ?_;rotate_left;refine rq ?_;rotate_left;refine sqF ?_;refine rq ?_;rotate_left;all_goals ((refine xam D.bool ?_;cases b1<;>cases b2<;>cases b3<;>first|rfl|contradiction))
theorem zsD {f:Ty->Int->Ex×Int}{s:Str}{M:Nat}:∀(ts:List Ty) (i:Nat) (a:Int),(∀t∈ts,∀b,(f t b).1.ok/\(f t b).1.size<=M)->∀r,argL f s i ts a=some r->Exs.ok r.1/\Exs.size r.1<=ts.length*M/\r.1.length=ts.length
 | [],i,a,_,r,h=>by rw[argL] at h;cases h;exact⟨trivial,by simp[Exs.size],rfl⟩
 |t::ts,i,a,hf,r,h=>by
  rw[argL] at h;by_cases hc:zbh s a (if i=0 then 40 else 44)=true
  ·rw[if_pos hc] at h;cases e:argL f s (i+1) ts (f t (a+1)).2 with
   |none=>rw[e] at h;cases h
   |some r2=>
    rw[e] at h;cases h;obtain⟨h1,h2,h3⟩:=zsD ts (i+1) _ (fun u hu=>hf u (by simp[hu])) r2 e;have h0:=hf t oi (a+1);refine⟨⟨h0.1,h1⟩, ?_,by simp[h3]⟩;show(f t (a+1)).1.size+Exs.size r2.1<=(ts.length+1)*M
    rw[Nat.add_mul];omega
  ·rw[if_neg hc] at h;cases h
theorem zwS {f:Ty->Int->Ex×Int}{s:Str}{M:Nat}{ts:List Ty}{a:Int} (hl:ts.length<=3) (hf:∀t∈ts,∀b,(f t b).1.ok/\(f t b).1.size<=M):Exs.ok (argV f s ts a).1/\Exs.size (argV f s ts a).1<=3*M/\(argV f s ts a).1.length<=3:=by
 have z:Exs.ok (([]:List Ex),(-1:Int)).1/\Exs.size (([]:List Ex),(-1:Int)).1<=3*M/\(([]:List Ex),(-1:Int)).1.length<=3:=⟨trivial,by simp[Exs.size],by simp⟩;unfold argV;cases e:argL f s 0 ts a with
 |none=>exact z
 |some r=>
  obtain⟨h1,h2,h3⟩:=zsD ts 0 a hf r e;have:ts.length*M<=3*M:=xav _ hl;have y:Exs.ok r.1/\Exs.size r.1<=3*M/\r.1.length<=3:=⟨h1,by omega,by omega⟩;dsimp only;split
  ·exact y
  split
  ·exact y
  ·exact z
theorem zkI {w:List Data}{funs:List Ft}{s:Str} (hA:A3 w) (hfu:∀f∈funs,TyIn w.length f.arg):∀(n:Nat){t:Ty} (a:Int),TyIn w.length t->(zaw w funs s n t a).1.ok/\(zaw w funs s n t a).1.size<=4 ^ n
 |0,t,a,_=>⟨by rw[xaL];exact⟨by simp[zaw,Ex.kids],trivial⟩,by rw[xaM];simp[zaw,Ex.kids,Exs.size]⟩
 |n+1,t,a,ht=>by
  have ih:=fun {t:Ty} (b:Int) (h:TyIn w.length t)=>zkI hA hfu (s:=s) n b h;have hp:1<=4 ^ n:=Nat.pow_pos od;have he:4 ^ (n+1)=4*4 ^ n:=by rw[Nat.pow_succ];omega
  have leaf:∀ {x1 x2 x3:Int},(Ex.mk x1 x2 x3 []).ok/\(Ex.mk x1 x2 x3 []).size<=4 ^ (n+1):=fun {x1 x2 x3}=>⟨by rw[xaL];exact⟨by simp[Ex.kids],trivial⟩,by rw[xaM];simp[Ex.kids,Exs.size];omega⟩;have node:∀ {x1 x2 x3:Int}{ts:List Ty}{b:Int},ts.length<=3->(∀u∈ts,TyIn w.length u)->(Ex.mk x1 x2 x3 (argV (zaw w funs s n) s ts b).1).ok/\(Ex.mk x1 x2 x3 (argV (zaw w funs s n) s ts b).1).size<=4 ^ (n+1):=fun {x1 x2 x3 ts b} h1 h2=>by
   obtain⟨k1,k2,k3⟩:=zwS (f:=zaw w funs s n) (a:=b) (s:=s) h1 (fun u hu b=>ih b (h2 u hu));refine⟨by rw[xaL];exact⟨by show(argV (zaw w funs s n) s ts b).1.length<=_;omega,k1⟩, ?_⟩;rw[xaM];show 1+Exs.size (argV (zaw w funs s n) s ts b).1<=_
   omega
  unfold zaw;split
  ·exact leaf
  split
  ·exact leaf
  split
  ·exact leaf
  split
  ·exact node oi (by intro u hu;simp at hu;subst hu;exact .inl rfl)
  split
  ·split
   ·exact leaf
   ·rename_i hb;have:=zm2 hb;exact node oi (by intro u hu;simp at hu;subst hu;exact hfu _ (zaf od))
  split
  ·exact leaf
  rename_i hc;have hA':=hA t _ ht (zfD hc);exact node hA'.1 hA'.2
def peV (w:List Data) (funs:List Ft) (vars:List Vt) (t:Ty) (s:Str):Option Ex:=
 if zgM w funs vars t=true/\¬s=[]/\(zaw w funs s 10 t 0).2=(s.length:Int)/\isE w funs vars t (zaw w funs s 10 t 0).1=true then some (zaw w funs s 10 t 0).1 else none
theorem zlJ {w:List Data} (hs:WSmall w){funs:List Ft}{vars:List Vt} (hf:funs.length<=1000000000000) (hv:vars.length<=1000000000000){a k:Int}{s:Str} (hsl:s.length<=1000000):
  FnD Tryz.prog 179 [.d (zaj w),.d (zbG funs),.d (zbK vars),.agg [.d (.i a),.d (.i k)],.d (.str s)] [] (.tup [.agg [.d (.i ((peV w funs vars ⟨a,k⟩ s).getD zef).op),.d (.i ((peV w funs vars ⟨a,k⟩ s).getD zef).n),.d (.i ((peV w funs vars ⟨a,k⟩ s).getD zef).ctor),.d (zbj ((peV w funs vars ⟨a,k⟩ s).getD zef).kids)],.d (.bool (peV w funs vars ⟨a,k⟩ s).isSome)]) []:=by
 have hr:=zmx hs hf hv (a:=a) (k:=k);have hno:(¬(zgM w funs vars ⟨a,k⟩=true/\¬s=[]/\(zaw w funs s 10 ⟨a,k⟩ 0).2=(s.length:Int)/\isE w funs vars ⟨a,k⟩ (zaw w funs s 10 ⟨a,k⟩ 0).1=true))->peV w funs vars ⟨a,k⟩ s=none:=fun h=>if_neg h;have hye:zgM w funs vars ⟨a,k⟩=true->¬s=[]->(zaw w funs s 10 ⟨a,k⟩ 0).2=(s.length:Int)->isE w funs vars ⟨a,k⟩ (zaw w funs s 10 ⟨a,k⟩ 0).1=true->peV w funs vars ⟨a,k⟩ s=some (zaw w funs s 10 ⟨a,k⟩ 0).1:=fun h1 h2 h3 h4=>if_pos ⟨h1,h2,h3,h4⟩;cases hR:zgM w funs vars ⟨a,k⟩ with
 |false=>
  rw[hno (fun h=>by rw[hR] at h;simp at h)];rw[hR] at hr;clear hno hye;refine bd Tryz.f179 48 [] [] fun _ _ _ _ hk=>?_;refine bx 3008 ?_;refine ab 3010 tz40 ?_;refine ev (wc zuj hr Z Z ?_);refine ev ?_;apply sq<;>intro h1 h1p h1s;refine bu [] [] st40 ?_;refine so ty40 ?_;refine ev (rn0 (rc ty40) (.tup (.cons (.agg (qeeen ?_ ?_ ?_ ?_)) (qe ?_))));rotate_left 5;exfalso;simp at *;all_goals (rfl)
 |true=>
  have hR':=hR;unfold zgM at hR';rw[xad,xad] at hR';obtain⟨tv,hfo,hvo⟩:=hR';obtain⟨wv,ht,_⟩:=zcj tv;have hw:=zds hs wv;have hA:=zjQ hs wv;have hfa:∀f∈funs,TyOk w.length f.arg:=fun f hm=>zdj (zgG hfo f hm).1;have hps:=zhY hw hA hf (fun f hm=>(hfa f hm).1) (s:=s) od 10 od ht (b:=0) ⟨by omega,by omega⟩;obtain⟨p1,p2⟩:=zkI (s:=s) hA (fun f hm=>(hfa f hm).1) 10 0 ht;have his:=zj2 hw (zjR wv) hf hv hfa (zqw tv) p1 (Nat.le_trans p2 om);rw[hR] at hr;have hno1:=fun(h:s=[])=>hno (fun q=>q.2.1 h);have hno2:=fun(h:¬(zaw w funs s 10 ⟨a,k⟩ 0).2=(s.length:Int))=>hno (fun q=>h q.2.2.1);have hno3:=fun(h:isE w funs vars ⟨a,k⟩ (zaw w funs s 10 ⟨a,k⟩ 0).1=false)=>hno (fun q=>by rw[h] at q;simp at q);have hye':=hye hR;have hend:=zjG (w:=w) (funs:=funs) (s:=s) 10 ⟨a,k⟩ 0;clear hno hye hR;generalize peV w funs vars ⟨a,k⟩ s=R at *;generalize zaw w funs s 10 ⟨a,k⟩ 0=r at *;generalize isE w funs vars ⟨a,k⟩ r.1=b at *;refine bd Tryz.f179 48 [] [] fun _ _ _ _ hk=>?_;refine bx 3008 ?_;refine ab 3010 tz40 ?_;refine ev (wc zuj hr Z Z ?_);refine ev ?_;apply sq<;>intro h1 h1p h1s;exfalso;simp at *;refine wc zqS hps Z Z ?_;refine ev (ab 3012 tz40 ?_);refine so ty40 ?_;refine ev ?_;apply sq<;>intro h2 h2p h2s<;>(try simp only[Q,xal] at h2p);refine sqT ?_;refine sqT ?_;refine bu [] [] st40 ?_;refine so ty40 ?_;refine ev (rn0 (rc ty40) (.tup (.cons (.agg (qeeen ?_ ?_ ?_ ?_)) (qe ?_))));rotate_left 5;apply sq<;>intro h4 h4p h4s<;>(try simp only[Q,xal] at h4p);refine sqT ?_;refine bu [] [] st40 ?_;refine so ty40 ?_;refine ev (rn0 (rc ty40) (.tup (.cons (.agg (qeeen ?_ ?_ ?_ ?_)) (qe ?_))));rotate_left 5;refine Walk.call (cr:=[]) zwp his Z (.some Z Z h4) Z Z (LeL.refl _) O Z Z Z (evs [] [(37,false)] ?_ ⟨⟨_,Z,h4⟩,O⟩);apply sq<;>intro h6 h6p h6s<;>(try simp only[Q,xal] at h6p);refine bu [] [] st40 ?_;refine so ty40 ?_;refine ev (rn0 (rc ty40) (.tup (.cons (.agg (qeeen ?_ ?_ ?_ ?_)) (qe ?_))));rotate_left 5;refine so ty40 ?_;refine ev (rn0 (rc ty40) (.tup (.cons (.agg (qeeee ?_ ?_ ?_ ?_)) (qe ?_))));rotate_left 5;all_goals (first|(rw[hno1 ol];all_goals rfl)|(rw[hno2 ol];all_goals rfl)|(rw[hno3 ol];all_goals rfl)|(rw[hye' ol ol ol];all_goals rfl))
def zbz (w:List Data) (funs:List Ft):Nat->Ty->Ex->Str
 |0,_,_=>[]
 |n+1,t,e=>
  if e.op=1 then decV e.n
  else if e.op=2 then letV e.n
  else if e.op=4 then [43,40]++zbz w funs n numT (nth e.kids 0)++[44]++zbz w funs n numT (nth e.kids 1)++[41]
  else if e.op=5 then [35]++decV e.n++[40]++zbz w funs n (nth funs e.n.toNat).arg (nth e.kids 0)++[41]
  else (zdZ w t e.ctor++zcr (zbz w funs n) true (zae w t e.ctor) e.kids)++(if 0<(zae w t e.ctor).length then [41] else [])
theorem zjN {f:Ty->Ex->Str}:∀(b:Bool) (ts:List Ty) (ks:List Ex),(∀i,i<ts.length->i<ks.length->(f (nth ts i) (nth ks i)).length<=10*(nth ks i).size)->(zcr f b ts ks).length<=ks.length+10*Exs.size ks
 |_,[],ks,_=>by simp[zcr]
 |_,_::_,[],_=>by simp[zcr]
 |b,t::ts,k::ks,h=>by
  have ih:=zjN false ts ks (fun i h1 h2=>h (i+1) (by simpa using h1) (by simpa using h2));have h0':(f t k).length<=10*k.size:=h 0 oi oi;have h3:(if b=true then [(40:UInt8)] else [44]).length=1:=by split<;>rfl
  rw[zcr,xaa,xaa,Exs.size,h3];simp only[xab];omega
theorem znW:∀(l:List Ex) (i:Nat),Exs.size (l.take i)<=Exs.size l
 | [],i=>by simp
 |x::r,0=>by simp[Exs.size]
 |x::r,i+1=>by
  have:=znW r i;rw[List.take_succ_cons,Exs.size,Exs.size];omega
theorem zoJ {l:List Ex}{i:Nat} (h:i<l.length):(nth l i).size<=Exs.size l:=xaR (zaf h)
section
variable {w:List Data}{funs:List Ft}{vars:List Vt}{n:Nat}{t:Ty}{e:Ex}
theorem zs0 (h:zb0 w funs vars (n+1) t e=true):(e.op=1\/e.op=2\/e.op=3\/e.op=4\/e.op=5)/\(e.op=1->0<=e.n/\e.n<=9)/\(e.op=3->e.n=0/\e.ctor∈zas w t)/\(e.op=4->t.data = -1)/\(e.op=5->0<=e.n/\e.n<(funs.length:Int)/\e.ctor=0)/\
  (zaK w funs t e).length=e.kids.length/\∀i,i<e.kids.length->zb0 w funs vars n (nth (zaK w funs t e) i) (nth e.kids i)=true:=by
 unfold zb0 at h;rw[xad] at h;obtain⟨h1,h2⟩:=h;unfold zfp at h1;rw[xad,xah] at h1;obtain⟨h1,hl⟩:=h1;refine⟨?_,fun q=>?_,fun q=>?_,fun q=>?_,fun q=>?_,hl,fun i hi=>?_⟩
 ·by_cases h0:e.op≠1/\e.op≠2/\e.op≠3/\e.op≠4/\e.op≠5
  ·rw[ok_0 h0] at h1;exact absurd h1 oi
  ·omega
 ·rw[ok_1 q] at h1;have:=xas h1;omega
 ·rw[ok_3 q] at h1;exact xas h1
 ·rw[ok_4 q] at h1;exact(xas h1).1
 ·rw[ok_5 q,xad] at h1;exact xas h1.1
 ·cases hs:zb0 w funs vars n (nth (zaK w funs t e) i) (nth e.kids i) with
  |true=>rfl
  |false=>
   have:=zbJ (f:=zb0 w funs vars n) (a:=zaK w funs t e) (b:=e.kids) (i:=i) od hl hs;rw[this] at h2;cases h2
theorem te1 (h:e.op=1):zbz w funs (n+1) t e=decV e.n:=by rw[zbz];rw[if_pos h]
theorem te2 (h:e.op=2):zbz w funs (n+1) t e=letV e.n:=by rw[zbz];rw[if_neg od,if_pos h]
theorem te4 (h:e.op=4):zbz w funs (n+1) t e=[43,40]++zbz w funs n numT (nth e.kids 0)++[44]++zbz w funs n numT (nth e.kids 1)++[41]:=by rw[zbz];rw[if_neg od,if_neg od,if_pos h]
theorem te5 (h:e.op=5):zbz w funs (n+1) t e=[35]++decV e.n++[40]++zbz w funs n (nth funs e.n.toNat).arg (nth e.kids 0)++[41]:=by rw[zbz];rw[if_neg od,if_neg od,if_neg od,if_pos h]
theorem te3 (h:e.op=3):zbz w funs (n+1) t e=(zdZ w t e.ctor++zcr (zbz w funs n) true (zae w t e.ctor) e.kids)++(if 0<(zae w t e.ctor).length then [41] else []):=by rw[zbz];rw[if_neg od,if_neg od,if_neg od,if_neg od]
end
theorem zk8 {n:Nat}{t:Ty} (h:TyOk n t) (hd:t.data = -1):t=numT:=by
 obtain⟨a,k⟩:=t;have:=h.2 hd;simp only at this hd;subst this;subst hd;rfl
theorem ziu {w:List Data}{funs:List Ft}{vars:List Vt} (hw:WT w) (hb:TB w) (haz:AZ w) (hfa:∀f∈funs,TyOk w.length f.arg):∀(n:Nat){t:Ty}{e:Ex},zb0 w funs vars n t e=true->TyOk w.length t->(zbz w funs n t e).length<=10*e.size
 |0,t,e,h,_=>by simp[zb0] at h
 |n+1,t,e,h,ht=>by
  obtain⟨o,o1,o3,o4,o5,hl,hk⟩:=zs0 h;have hin:=zk9 hw haz hfa ht (e:=e);have hkl:∀i,i<e.kids.length->(zbz w funs n (nth (zaK w funs t e) i) (nth e.kids i)).length<=10*(nth e.kids i).size:=fun i hi=>ziu hw hb haz hfa n (hk i hi) (hin _ (zaf od));rw[xaM];rcases o with h1|h2|h3|h4|h5
  ·rw[te1 h1,zc0];omega
  ·rw[te2 h2,zeK];omega
  ·obtain⟨q1,q2⟩:=o3 h3;rw[ty_3 h3 q1 q2] at hl hkl;obtain⟨a,k⟩:=t;have:=zhQ hw hb ht.1 q2;have h1:=zjN (f:=zbz w funs n) true (zae w ⟨a,k⟩ e.ctor) e.kids (fun i q1 q2=>hkl i q2);have h3':(if 0<(zae w ⟨a,k⟩ e.ctor).length then [(41:UInt8)] else []).length<=1:=by split<;>simp
   rw[te3 h3];simp only[xaa];omega
  ·rw[ty_4 h4,zk8 ht (o4 h4)] at hl hkl;have hl2:e.kids.length=2:=hl.symm;have k0':(zbz w funs n numT (nth e.kids 0)).length<=10*(nth e.kids 0).size:=hkl 0 od;have k1':(zbz w funs n numT (nth e.kids 1)).length<=10*(nth e.kids 1).size:=hkl 1 od;have hs:(nth e.kids 0).size+(nth e.kids 1).size=Exs.size e.kids:=by
    generalize e.kids=l at *;rcases l with _|⟨x,_|⟨y,_|⟨z,r⟩⟩⟩
    ·simp at hl2
    ·simp at hl2
    ·simp[Exs.size,nth]
    ·simp at hl2
   rw[te4 h4];simp only[xaa,xab,xak];omega
  ·rw[ty_5 h5 (o5 h5)] at hl hkl;have hl2:e.kids.length=1:=hl.symm;have k0':(zbz w funs n (nth funs e.n.toNat).arg (nth e.kids 0)).length<=10*(nth e.kids 0).size:=hkl 0 od;have:=zoJ (l:=e.kids) (i:=0) od;rw[te5 h5];simp only[xaa,zc0,xab,xak];omega
theorem zrt {w:List Data}{funs:List Ft}{vars:List Vt} (hw:WT w) (hb:TB w) (haz:AZ w) (hf9:funs.length<=9) (hfa:∀f∈funs,TyOk w.length f.arg){n:Nat}
  (ih:∀ {a k:Int}{e:Ex},zb0 w funs vars n ⟨a,k⟩ e=true->TyOk w.length ⟨a,k⟩->e.ok->e.size<=10000000->FnD Tryz.prog 235 [.d (zaj w),.d (zbG funs),.agg [.d (.i a),.d (.i k)],.agg [.d (.i e.op),.d (.i e.n),.d (.i e.ctor),.d (zbj e.kids)]] [] (.d (.str (zbz w funs n ⟨a,k⟩ e))) [])
  {a k:Int}{e:Ex} (h:zb0 w funs vars (n+1) ⟨a,k⟩ e=true) (ht:TyOk w.length ⟨a,k⟩) (hok:e.ok) (hsz:e.size<=10000000):
  FnD Tryz.prog 235 [.d (zaj w),.d (zbG funs),.agg [.d (.i a),.d (.i k)],.agg [.d (.i e.op),.d (.i e.n),.d (.i e.ctor),.d (zbj e.kids)]] [] (.d (.str (zbz w funs (n+1) ⟨a,k⟩ e))) []:=by
 obtain⟨o,o1,o3,o4,o5,hl,hkf⟩:=zs0 h;have hin:=zk9 hw haz hfa ht (e:=e);rw[xaM] at hsz;rw[xaL] at hok;have hkid:∀i,i<e.kids.length->∀t,t=nth (zaK w funs ⟨a,k⟩ e) i->FnD Tryz.prog 235 [.d (zaj w),.d (zbG funs),.agg [.d (.i t.data),.d (.i t.index)],.agg [.d (.i (nth e.kids i).op),.d (.i (nth e.kids i).n),.d (.i (nth e.kids i).ctor),.d (zbj (nth e.kids i).kids)]] [] (.d (.str (zbz w funs n t (nth e.kids i)))) []:=fun i hi t q=>by
  subst q;exact ih (a:=(nth (zaK w funs ⟨a,k⟩ e) i).data) (k:=(nth (zaK w funs ⟨a,k⟩ e) i).index) (hkf i hi) (hin _ (zaf od)) (xaP hok.2 _ (zaf hi)) (by have:=zoJ hi;omega)
 have hlen:∀i,i<e.kids.length->∀t,t=nth (zaK w funs ⟨a,k⟩ e) i->(zbz w funs n t (nth e.kids i)).length<=100000000:=fun i hi t q=>by
  subst q;have:=ziu hw hb haz hfa n (hkf i hi) (hin _ (zaf od));have h2:=zoJ hi;omega
 by_cases h3:e.op=3
 ·obtain⟨z1,z2⟩:=o3 h3;have hkf':=hkf;rw[ty_3 h3 z1 z2] at hl hkid hlen hkf';obtain⟨n1,n2⟩:=zhQ hw hb ht.1 z2;have hag:=zb4 hw ht.1 z2;obtain⟨d,rfl,hd,j,hj0,hj⟩:=zbE ht.1 z2;have hnm:zdZ w ⟨(d:Int),k⟩ e.ctor=(nth (nth w d).ctors j).name:=by unfold zdZ;rw[hj0];rfl
  have hnx:=fun i=>zjO (f:=zbz w funs n) i (b:=true) (ts:=zae w ⟨(d:Int),k⟩ e.ctor) (ks:=e.kids);have htl:∀i,i<=3->(zcr (zbz w funs n) true ((zae w ⟨(d:Int),k⟩ e.ctor).take i) (e.kids.take i)).length<=1000000000:=fun i hi=>by
   have h1:=zjN (f:=zbz w funs n) true ((zae w ⟨(d:Int),k⟩ e.ctor).take i) (e.kids.take i) (fun i' q1 q2=>by
    rw[List.length_take] at q1 q2;have e1:nth ((zae w ⟨(d:Int),k⟩ e.ctor).take i) i'=nth (zae w ⟨(d:Int),k⟩ e.ctor) i':=by rw[zaJ uc,zaJ od,List.getElem_take]
    have e2:nth (e.kids.take i) i'=nth e.kids i':=by rw[zaJ uc,zaJ od,List.getElem_take]
    rw[e1,e2];have h9:=hin (nth (zae w ⟨(d:Int),k⟩ e.ctor) i') (by rw[ty_3 h3 z1 z2];exact zaf od);exact ziu hw hb haz hfa n (hkf' i' od) h9)
   have h2:=znW e.kids i;rw[List.length_take] at h1;omega
  rw[te3 h3,hnm];have hfin:=List.take_length (l:=zae w ⟨(d:Int),k⟩ e.ctor);have hfin2:=List.take_length (l:=e.kids);clear hkf hkf' ih;generalize zae w ⟨(d:Int),k⟩ e.ctor=ts at *;refine bd Tryz.f235 118 [95,97,111,116] [] fun _ _ _ _ hk=>?_;refine bx 3006 ?_;refine bx 3007 ?_;refine evs [95,97,111,116] [] (bu [0] [_] st29 ?_);refine ab 3009 tz29 ?_;refine so ty29 ?_;apply tv;apply sq<;>intro h1 h1p h1s;try simp only[Q,xal,xaJ,xac] at h1p
  exfalso;omega;apply sq<;>intro h2 h2p h2s;try simp only[Q,xal,xaJ,xac] at h2p
  exfalso;omega;apply sq<;>intro h3 h3p h3s;try simp only[Q,xal,xaJ,xac] at h3p
  exfalso;omega;apply sq<;>intro h4 h4p h4s;try simp only[Q,xal,xaJ,xac] at h4p
  exfalso;omega;refine ixq sl23 Z Z Z (zah hd) Z (evd [95,97,111,116] [] (ixq (i:=j) zcw Z Z hj0 (zah hj) Z (evd [95,97,111,116] [] (dr (wc zbX hag Z Z ?_)))));refine evs [95,97,111,116] [] (xaB (ι:=Nat) hk (fun i=>[(12,.d (.i (i:Int))),(10,.d (.str ((nth (nth w d).ctors j).name++zcr (zbz w funs n) true (ts.take i) (e.kids.take i))))]) [86,87,88,89,90,91,92,93,94,95,96,97,98,99,100,101,102,103,104,105,106,107,108,109,110,111] (fun i=>[]) (fun i=>i<=ts.length) (fun i=>ts.length-i) 0 od ⟨⟨_,Z,xaU ?_⟩,⟨⟨_,Z,xaV ?_⟩,O⟩⟩ O (fun x=>rfl) (fun i hg1=>?_));iterate 2 focus ((simp[zcr];done))
  refine evc [95,97,111,116] [] ?_;apply sq<;>intro h5 h5p h5s<;>(try simp only[Q,xal,xaJ,xac] at h5p);apply sq<;>intro h6 h6p h6s<;>(try simp only[Q,xal,xaJ,xac] at h6p);refine xbx .none Z Z Z (by rw[hnm] at n1;have:=htl i od;(have:=hlen i od (nth ts i) rfl;simp only[xaa,xab,xak];omega)) ?_;refine evs [95,97,111,116] [] (ixq zaz Z Z Z (zah od) Z ?_);refine evd [95,97,111,116] [] (ixq sl33 Z Z Z (zeE od) Z ?_);refine evd [95,97,111,116] [] (wc ziQ (hkid i od (nth ts i) Z) Z Z ?_);refine xbx .none Z Z Z (by rw[hnm] at n1;have:=htl i od;(have:=hlen i od (nth ts i) rfl;simp only[xaa,xab,xak];omega)) ?_;refine evd [95,97,111,116] [] (dr (ar (xaj (i+1) ⟨od,od,sx ⟨⟨_,Z,xaU ?_⟩,⟨⟨_,Z,xaV ?_⟩,O⟩⟩ O⟩)));iterate 2 focus (first|rfl|(rw[hnx i od od,if_pos ⟨rfl,by omega⟩];simp;done))
  refine xbx .none Z Z Z (by rw[hnm] at n1;have:=htl i od;(have:=hlen i od (nth ts i) rfl;simp only[xaa,xab,xak];omega)) ?_;refine evs [95,97,111,116] [] (ixq zaz Z Z Z (zah od) Z ?_);refine evd [95,97,111,116] [] (ixq sl33 Z Z Z (zeE od) Z ?_);refine evd [95,97,111,116] [] (wc ziQ (hkid i od (nth ts i) Z) Z Z ?_);refine xbx .none Z Z Z (by rw[hnm] at n1;have:=htl i od;(have:=hlen i od (nth ts i) rfl;simp only[xaa,xab,xak];omega)) ?_;refine evd [95,97,111,116] [] (dr (ar (xaj (i+1) ⟨od,od,sx ⟨⟨_,Z,xaU ?_⟩,⟨⟨_,Z,xaV ?_⟩,O⟩⟩ O⟩)));iterate 2 focus (first|rfl|(rw[hnx i od od,if_neg od];simp;done))
  apply sq<;>intro h7 h7p h7s<;>(try simp only[Q,xal,xaJ,xac] at h7p);refine xbx .none Z Z Z (by rw[hnm] at n1;have:=htl i od;(simp only[xaa,xab,xak];omega)) ?_;refine evs [95,97,111,116] [] (rq ?_);rotate_left;refine rq ?_;rotate_left;all_goals (have e1:i=ts.length:=od;subst e1;rw[hfin,show ts.length=e.kids.length by omega,hfin2];first|(rw[if_pos od];done)|(rw[if_neg od,xaq];done))
 ·have e4:e.op=4->e.kids.length=2:=fun q=>by rw[ty_4 q] at hl;exact hl.symm
  have e5:e.op=5->e.kids.length=1:=fun q=>by rw[ty_5 q (o5 q)] at hl;exact hl.symm
  have hk40:=fun(q:e.op=4)=>hkid 0 (by rw[e4 q];omega) numT (by rw[ty_4 q,zk8 ht (o4 q)];rfl);have hk41:=fun(q:e.op=4)=>hkid 1 (by rw[e4 q];omega) numT (by rw[ty_4 q,zk8 ht (o4 q)];rfl);have hk50:=fun(q:e.op=5)=>hkid 0 (by rw[e5 q];omega) (nth funs e.n.toNat).arg (by rw[ty_5 q (o5 q)];rfl);have hn40:=fun(q:e.op=4)=>hlen 0 (by rw[e4 q];omega) numT (by rw[ty_4 q,zk8 ht (o4 q)];rfl);have hn41:=fun(q:e.op=4)=>hlen 1 (by rw[e4 q];omega) numT (by rw[ty_4 q,zk8 ht (o4 q)];rfl);have hn50:=fun(q:e.op=5)=>hlen 0 (by rw[e5 q];omega) (nth funs e.n.toNat).arg (by rw[ty_5 q (o5 q)];rfl);have hdl:=zc0 e.n;have hll:=zeK e.n;clear ih hkid hlen hkf;refine bd Tryz.f235 118 [36,37,46,47,53,54,68,69] [] fun _ _ _ _ hk=>?_;refine bx 3006 ?_;refine bx 3007 ?_;refine evs [36,37,46,47,53,54,68,69] [] (bu [0] [_] st29 ?_);refine ab 3009 tz29 ?_;refine so ty29 ?_;apply tv;apply sq<;>intro h1 h1p h1s<;>(try simp only[Q,xal,xaJ,xac] at h1p);refine wc zfe (zbV (n:=e.n) (o1 od).1 (o1 od).2) Z Z ?_;refine evs [36,37,46,47,53,54,68,69] [] (rq ?_);rotate_left;apply sq<;>intro h2 h2p h2s<;>(try simp only[Q,xal,xaJ,xac] at h2p);refine wc zko (zdr (n:=e.n)) Z Z ?_;refine evs [36,37,46,47,53,54,68,69] [] (rq ?_);rotate_left;apply sq<;>intro h3 h3p h3s<;>(try simp only[Q,xal,xaJ,xac] at h3p);refine ixq (i:=0) sl33 Z Z Z (zeE (by(rw[e4 od];omega))) Z ?_;refine evd [36,37,46,47,53,54,68,69] [] (wc ziQ (hk40 od) Z Z ?_);refine xbx .none Z Z Z (by(have:=hn40 od;have:=hn41 od;simp only[xaa,xab,xak];omega)) ?_;refine xbx .none Z Z Z (by(have:=hn40 od;have:=hn41 od;simp only[xaa,xab,xak];omega)) ?_;refine evd [36,37,46,47,53,54,68,69] [] (ixq (i:=1) sl33 Z Z Z (zeE (by(rw[e4 od];omega))) Z ?_);refine evd [36,37,46,47,53,54,68,69] [] (wc ziQ (hk41 od) Z Z ?_);refine xbx .none Z Z Z (by(have:=hn40 od;have:=hn41 od;simp only[xaa,xab,xak];omega)) ?_;refine xbx .none Z Z Z (by(have:=hn40 od;have:=hn41 od;simp only[xaa,xab,xak];omega)) ?_;refine evd [36,37,46,47,53,54,68,69] [] (dr (rq ?_));rotate_left;apply sq<;>intro h4 h4p h4s<;>(try simp only[Q,xal,xaJ,xac] at h4p);refine wc zfe (zbV (n:=e.n) (o5 od).1 (by have:=(o5 od).2.1;omega)) Z Z ?_;refine xbx .none Z Z Z (by(have:=hn50 od;simp only[xaa,xab,xak,hdl];omega)) ?_;refine xbx .none Z Z Z (by(have:=hn50 od;simp only[xaa,xab,xak,hdl];omega)) ?_;refine evd [36,37,46,47,53,54,68,69] [] (ixq (i:=e.n.toNat) sl63 Z Z (by have:=o5 od;omega) (zah (by have:=o5 od;omega)) Z ?_);refine evd [36,37,46,47,53,54,68,69] [] (ixq (i:=0) sl33 Z Z Z (zeE (by(rw[e5 od];omega))) Z ?_);refine evd [36,37,46,47,53,54,68,69] [] (wc ziQ (hk50 od) Z Z ?_);refine xbx .none Z Z Z (by(have:=hn50 od;simp only[xaa,xab,xak,hdl];omega)) ?_;refine xbx .none Z Z Z (by(have:=hn50 od;simp only[xaa,xab,xak,hdl];omega)) ?_;refine evd [36,37,46,47,53,54,68,69] [] (dr (rq ?_));rotate_left;exfalso;omega;all_goals (first|(rw[te1 od];done)|(rw[te2 od];done)|(rw[te4 od];all_goals rfl)|(rw[te5 od];all_goals rfl))
theorem zio {w:List Data}{funs:List Ft}{vars:List Vt} (hw:WT w) (hb:TB w) (haz:AZ w) (hf9:funs.length<=9) (hfa:∀f∈funs,TyOk w.length f.arg):∀(n:Nat){a k:Int}{e:Ex},zb0 w funs vars n ⟨a,k⟩ e=true->TyOk w.length ⟨a,k⟩->e.ok->e.size<=10000000->
  FnD Tryz.prog 235 [.d (zaj w),.d (zbG funs),.agg [.d (.i a),.d (.i k)],.agg [.d (.i e.op),.d (.i e.n),.d (.i e.ctor),.d (zbj e.kids)]] [] (.d (.str (zbz w funs n ⟨a,k⟩ e))) []
 |0,a,k,e,h,_,_,_=>by simp[zb0] at h
 |n+1,a,k,e,h,ht,hok,hsz=>zrt hw hb haz hf9 hfa (fun {a k e} q1 q2 q3 q4=>zio hw hb haz hf9 hfa n q1 q2 q3 q4) h ht hok hsz
theorem zmC {w:List Data} (hw:w.length<=1000000000000):FnD Tryz.prog 177 [.d (zaj w)] [] (.d (zcC (w.map Data.name))) []:=by
 refine bd Tryz.f177 21 [] [] fun _ _ _ _ hk=>?_;refine xb8 1 zaO .none Z Z (ev (xaB (ι:=List (Data)×List (Data)) hk (fun x=>[(4,.d (.i (x.1.length:Int))),(3,.gl 1 (x.1.map fun d=>[D.str d.name]))]) [6,7,8,9,10,11,12,13,14,15,16,17,18,19] (fun x=>[(1,some (.tok ((x.1.map fun d=>[D.str d.name])).length 1))]) (fun x=>x.1++x.2=w) (fun x=>x.2.length) ([],w) oi ⟨⟨_,Z,xaU ?_⟩,⟨⟨_,Z,LeA.glg ?_⟩,O⟩⟩ ⟨zac ?_,O⟩ (fun x=>rfl) (fun x hg1=>?_)));iterate 3 focus (rfl)
 obtain⟨pre,rest⟩:=x;dsimp only at hg1 ⊢;refine evc [] [] ?_;apply sq<;>intro h1 h1p h1s<;>(try simp only[Q] at h1p);rcases rest with _|⟨y,rest⟩
 ·exfalso;simp_all
 refine ixq sl23 Z Z Z (zaA hg1) Z (ev (si [0] [_] zaO tz9 ?_));refine ap zaO zz9 Z Z Z ov (by have hz:=xam List.length hg1;simp at hz ⊢;omega) ?_;refine ev (ar (xaj ((pre++[y],rest)) ⟨(by have hz:=hg1;rw[<-hz];simp),oi,sx ⟨⟨_,Z,xaU ?_⟩,⟨⟨_,Z,LeA.glg ?_⟩,O⟩⟩ ⟨zac ?_,O⟩⟩));iterate 3 focus ((simp;done))
 have hrest:rest=[]:=by
  rcases rest with _|⟨a,b⟩
  ·rfl
  ·exfalso;have hz:=xam List.length (hg1);simp only[xaa,xab,xac] at hz;omega
 subst hrest;refine rn0 (r1 Z) (.gld ?_);rotate_left;all_goals ((rw[xaq] at hg1;rw[<-hg1];simp;done))
def isTy (w:List Data) (t:Ty):Bool:=zbr w.length t&&decide (0<=t.index)
def ftP (w:List Data) (s:Str):Ft×Bool:=
 if (cutL 62 [] s).length=2 then (⟨zcX (w.map Data.name) (nth (cutL 62 [] s) 0),zcX (w.map Data.name) (nth (cutL 62 [] s) 1)⟩,
  isTy w (zcX (w.map Data.name) (nth (cutL 62 [] s) 0))&&isTy w (zcX (w.map Data.name) (nth (cutL 62 [] s) 1))) else (⟨⟨0,0⟩,⟨0,0⟩⟩,false)
theorem zn2 {w:List Data} (hw:w.length<=1000000){s:Str} (hs:s.length<=1000000):
  FnD Tryz.prog 120 [.d (zaj w),.d (.str s)] [] (.tup [.agg [.d (.i (ftP w s).1.arg.data),.d (.i (ftP w s).1.arg.index),.d (.i (ftP w s).1.res.data),.d (.i (ftP w s).1.res.index)],.d (.bool (ftP w s).2)]) []:=by
 have hc:FnD Tryz.prog 117 [.d (.str s),.d (.int .u8 62)] [] (.d (zcC (cutL 62 [] s))) []:=zbq (s:=s) (c:=62) od;have hl:=fun i (h:i<(cutL 62 [] s).length)=>zct (c:=62) (s:=s) h;have hN:=zmC (w:=w) od;have hNl:(w.map Data.name).length<=1000000000000:=by simp;omega
 unfold ftP;generalize cutL 62 [] s=P at *;by_cases h2:P.length=2
 ·rw[if_pos h2];have hp:=fun i (h:i<P.length)=>zet (names:=w.map Data.name) (s:=nth P i) hNl (by have:=hl i h;omega);generalize w.map Data.name=N at *;have hi:=fun t:Ty=>zf1 (w:=w) (a:=t.data) (b:=t.index);have hI:∀t:Ty,isTy w t=(zbr w.length ⟨t.data,t.index⟩&&decide (0<=t.index)):=fun _=>rfl;rw[hI,hI];have hp0:=hp 0 od;have hp1:=hp 1 od;generalize zcX N (nth P 0)=t0 at *;generalize zcX N (nth P 1)=t1 at *;have hi0:=hi t0;have hi1:=hi t1;generalize (zbr w.length ⟨t0.data,t0.index⟩&&decide (0<=t0.index))=b0 at *;generalize (zbr w.length ⟨t1.data,t1.index⟩&&decide (0<=t1.index))=b1 at *;refine bd Tryz.f120 39 [] [] fun _ _ _ _ hk=>?_;refine ab 3004 tz31 ?_;refine ev (wc zb2 hc Z Z ?_);refine ev ?_;apply sq<;>intro h1 h1p h1s;try simp only[Q,xal,xac] at h1p
  exfalso;omega;refine wc zx4 hN Z Z ?_;refine ev (ixq (i:=0) zaO Z Z Z (zah od) Z ?_);refine evd [] [] (wc zmS hp0 Z Z ?_);refine evd [] [] (ixq (i:=1) zaO Z Z Z (zah od) Z ?_);refine evd [] [] (wc zmS hp1 Z Z ?_);refine bu [0,1] [_,_] st31 ?_;refine ab 3008 tz31 ?_;refine so ty31 ?_;refine dr (wc zlg hi0 Z Z ?_);refine evd [] [] ?_;apply sq<;>intro h2 h2p h2s;refine Walk.call (cr:=[]) zlg hi1 Z (.some Z Z h2) Z Z (LeL.refl _) O Z Z Z (evd [] [(33,true)] ?_ ⟨⟨_,Z,h2⟩,O⟩);refine so ty31 ?_;refine evd [] [] (dr (rn0 (rc ty31) (.tup (.cons (.agg (qeeee ?_ ?_ ?_ ?_)) (qe ?_)))));rotate_left 5;refine so ty31 ?_;refine evd [] [] (dr (rn0 (rc ty31) (.tup (.cons (.agg (qeeee ?_ ?_ ?_ ?_)) (qe ?_)))));rotate_left 5;all_goals (first|rfl|(refine xam D.bool ?_;cases b0<;>cases b1<;>first|rfl|contradiction))
 ·rw[if_neg h2];refine bd Tryz.f120 39 [] [] fun _ _ _ _ hk=>?_;refine ab 3004 tz31 ?_;refine ev (wc zb2 hc Z Z ?_);refine ev ?_;apply sq<;>intro h1 h1p h1s;refine bu [] [] st31 ?_;refine so ty31 ?_;refine ev ?_;focus (refine rn0 (rc ty31) (.tup (.cons (.agg (qeeee ?_ ?_ ?_ ?_)) (qe ?_)));all_goals (rfl))
  try simp only[Q,xal,xac] at h1p
  exfalso;omega
def bodT (w:List Data) (funs:List Ft) (f:Fu):Nat->Str
 |0=>zej w f.ty.arg++[62]++zej w f.ty.res
 |n+1=>bodT w funs f n++[47]++zdO w f.ty.arg (nth f.cls n)++[32]++zbz w funs 10 f.ty.res (nth f.bodies n)
def funT (w:List Data) (l:List Fu):Nat->Str
 |0=>[]
 |n+1=>(if 0<n then funT w l n++[59] else funT w l n)++bodT w (l.map Fu.ty) (nth l n) (nth l n).cls.length
theorem zyI {w:List Data}{funs:List Ft}{f:Fu} (h:zcl w funs f=true):zaW w f.ty.arg f.cls=true/\f.bodies.length=f.cls.length/\∀i,i<f.bodies.length->isE w funs (zbM w f.ty.arg (nth f.cls i).pat) f.ty.res (nth f.bodies i)=true:=by
 have h1:zaW w f.ty.arg f.cls=true:=by unfold zcl at h;rw[xad] at h;exact h.1
 have h2:f.bodies.length=f.cls.length:=by
  by_cases hl:f.bodies.length=f.cls.length
  ·exact hl
  ·rw[zjn hl] at h;cases h
 refine⟨h1,h2,fun i hi=>?_⟩;cases e:isE w funs (zbM w f.ty.arg (nth f.cls i).pat) f.ty.res (nth f.bodies i) with
 |true=>rfl
 |false=>rw[zkk h2 hi e] at h;cases h
theorem zuO {w:List Data}{funs:List Ft}{vars:List Vt}{t:Ty}{e:Ex} (h:isE w funs vars t e=true):zb0 w funs vars 10 t e=true:=by
 unfold isE at h;rw[xad] at h;exact h.1
theorem zrq {w:List Data}{funs:List Ft}{vars:List Vt}{t:Ty}{e:Ex} (h:isE w funs vars t e=true):e.size<=60:=by
 unfold isE at h;rw[xad,xah] at h;omega
theorem zpV {n:Nat}{t:Ty} (h:zbm n t=true):(t.data = -1\/(0<=t.data/\t.data.toNat<n))/\ -1<=t.index/\t.index<=3:=by
 unfold zbm zan at h;simp only[Bool.or_eq_true,xad,xah,and_true] at h;omega
theorem zn1 {w:List Data} (hs:WSmall w) (hv:zaI w=true){funs:List Ft} (hft:zcc w funs=true){f:Fu} (hok:FuOk f) (hz:∀c∈f.cls,c.pat.size<=10000000) (hfv:zcl w funs f=true)
  (ha:zbm w.length f.ty.arg=true) (hr:zbm w.length f.ty.res=true):
  FnD Tryz.prog 180 [.d (zaj w),.d (zbG funs),.agg [.d (.i f.ty.arg.data),.d (.i f.ty.arg.index),.d (.i f.ty.res.data),.d (.i f.ty.res.index),.d (zcg f.cls),.d (zbj f.bodies)]] [] (.d (.str (bodT w funs f f.cls.length))) []/\(bodT w funs f f.cls.length).length<=1000000000:=by
 have hw:=zds hs hv;have hb:=zjS hv;have haz:=zjR hv;obtain⟨f1,f2,f3⟩:=zyI hfv;obtain⟨tv,f4,f5⟩:=zia f1;have hta:=zpV ha;have htr:=zpV hr;have t1:=ze6 hb (a:=f.ty.arg.data) (k:=f.ty.arg.index) hta.1 hta.2;have t2:=ze6 hb (a:=f.ty.res.data) (k:=f.ty.res.index) htr.1 htr.2;have l1:=ze8 hb (t:=f.ty.arg) hta.1;have l2:=ze8 hb (t:=f.ty.res) htr.1;have hfa:∀u∈funs,TyOk w.length u.arg:=fun u hu=>zdj (zgG hft u hu).1;have hf4:funs.length<=4:=by unfold zcc at hft;rw[xad,xah] at hft;omega
 have c1:=fun i (h:i<f.cls.length)=>zgo hw hb (a:=f.ty.arg.data) (k:=f.ty.arg.index) (zdj ha).1 (f5 i h) (hok.1.2 _ (zaf h)) (hz _ (zaf h));have c2:=fun i (h:i<f.cls.length)=>zpS hw hb (a:=f.ty.arg.data) (k:=f.ty.arg.index) (zdj ha).1 (f5 i h) (hz _ (zaf h));have e1:=fun i (h:i<f.bodies.length)=>zio hw hb haz od hfa 10 (a:=f.ty.res.data) (k:=f.ty.res.index) (zuO (f3 i h)) (zdj hr) (xaP hok.2.2 _ (zaf h)) (by have:=zrq (f3 i h);omega);have e2:=fun i (h:i<f.bodies.length)=>ziu hw hb haz hfa 10 (zuO (f3 i h)) (zdj hr);have hlen:∀n,n<=f.cls.length->(bodT w funs f n).length<=10+100001000*n:=by
  intro n;induction n with
  |zero=>intro _;simp only[bodT,xaa,xab,xak];omega
  |succ n ih=>
   intro hn;have h1:=ih od;have h2:(zdO w f.ty.arg (nth f.cls n)).length<=100000010:=c2 n od;have h3:=e2 n od;have h4:=zrq (f3 n od);simp only[bodT,xaa,xab,xak];omega
 refine⟨?_,by have:=hlen _ (Nat.le_refl _);omega⟩;have e3:∀i,i<f.bodies.length->(zbz w funs 10 f.ty.res (nth f.bodies i)).length<=600:=fun i h=>by have:=e2 i h;have:=zrq (f3 i h);omega
 have c3:∀i,i<f.cls.length->(zdO w f.ty.arg (nth f.cls i)).length<=100000010:=fun i h=>c2 i h;have l1':(zej w ⟨f.ty.arg.data,f.ty.arg.index⟩).length<=2:=l1;have l2':(zej w ⟨f.ty.res.data,f.ty.res.index⟩).length<=2:=l2;have c3':∀i,i<f.cls.length->(zdO w ⟨f.ty.arg.data,f.ty.arg.index⟩ (nth f.cls i)).length<=100000010:=c3;have e3':∀i,i<f.bodies.length->(zbz w funs 10 ⟨f.ty.res.data,f.ty.res.index⟩ (nth f.bodies i)).length<=600:=e3;refine bd Tryz.f180 55 [14,20,29,40,41,53] [] fun _ _ _ _ hk=>?_;refine bx 3005 ?_;refine evs [14,20,29,40,41,53] [] (wc zmY t1 Z Z ?_);refine xbx .none Z Z Z (by(simp only[xaa,xab,xak];omega)) (evd [14,20,29,40,41,53] [] (wc zmY t2 Z Z ?_));refine xbx .none Z Z Z (by(simp only[xaa,xab,xak];omega)) (evd [14,20,29,40,41,53] [] (dr (xaB (ι:=Nat) hk (fun i=>[(8,.d (.i (i:Int))),(7,.d (.str (bodT w funs f i)))]) [21,22,23,24,25,26,27,28,29,30,31,32,33,34,35,36,37,38,39,40,41,42,43,44,45,46,47,48,49,50,51,52,53] (fun i=>[]) (fun i=>i<=f.cls.length) (fun i=>f.cls.length-i) 0 od ⟨⟨_,Z,xaU ?_⟩,⟨⟨_,Z,xaV ?_⟩,O⟩⟩ O (fun x=>rfl) (fun i hg1=>?_))));iterate 2 focus (first|rfl|omega)
 refine evc [14,20,29,40,41,53] [] ?_;apply sq<;>intro h1 h1p h1s<;>(try simp only[Q,xal,xaJ,xac] at h1p);refine xbx .none Z Z Z (by(have:=hlen i od;have:=c3 i od;have:=e3 i od;have:=c3' i od;have:=e3' i od;simp only[xaa,xab,xak];omega)) ?_;refine evd [14,20,29,40,41,53] [] (ixq sl32 Z Z Z (zah od) Z ?_);refine evd [14,20,29,40,41,53] [] (wc zqT (c1 i od) Z Z ?_);refine xbx .none Z Z Z (by(have:=hlen i od;have:=c3 i od;have:=e3 i od;have:=c3' i od;have:=e3' i od;simp only[xaa,xab,xak];omega)) ?_;refine xbx .none Z Z Z (by(have:=hlen i od;have:=c3 i od;have:=e3 i od;have:=c3' i od;have:=e3' i od;simp only[xaa,xab,xak];omega)) ?_;refine evd [14,20,29,40,41,53] [] (ixq sl33 Z Z Z (zeE od) Z ?_);refine evd [14,20,29,40,41,53] [] (wc ziQ (e1 i od) Z Z ?_);refine xbx .none Z Z Z (by(have:=hlen i od;have:=c3 i od;have:=e3 i od;have:=c3' i od;have:=e3' i od;simp only[xaa,xab,xak];omega)) ?_;refine evd [14,20,29,40,41,53] [] (dr (ar (xaj (i+1) ⟨od,od,sx ⟨⟨_,Z,xaU ?_⟩,⟨⟨_,Z,xaV ?_⟩,O⟩⟩ O⟩)));iterate 2 focus (first|rfl|omega)
 refine rq ?_;rotate_left;all_goals (rw[show i=f.cls.length by omega])
theorem zyJ {w:List Data}{l:List Fu} (h:zb9 w l=true):zaI w=true/\zcc w (l.map Fu.ty)=true/\∀f∈l,zcl w (l.map Fu.ty) f=true:=by
 unfold zb9 at h;rw[xad,xad,List.all_eq_true] at h;exact h
theorem zee {w:List Data} (hs:WSmall w){l:List Fu} (hl:FusOk l) (hz:∀f∈l,∀c∈f.cls,c.pat.size<=10000000) (hv:zb9 w l=true):
  FnD Tryz.prog 122 [.d (zaj w),.d (zbB l)] [] (.d (.str (funT w l l.length))) []:=by
 obtain⟨wv,hfo,hfu⟩:=zyJ hv;have hll:=hl.1;have hl4:l.length<=4:=by have:=hfo;unfold zcc at this;rw[xad,xah] at this;have h9:=this.1;rw[xac] at h9;omega
 have hty:=fun i (h:i<l.length)=>zgG hfo (nth l i).ty (List.mem_map.2 ⟨_,zaf h,rfl⟩);have hft:=zfu (l:=l) od;have hfn:=fun i (h:i<l.length)=>zn1 hs wv hfo (hl.2 _ (zaf h)) (hz _ (zaf h)) (hfu _ (zaf h)) (hty i h).1 (hty i h).2;have hlen:∀n,n<=l.length->(funT w l n).length<=1000000010*n:=by
  intro n;induction n with
  |zero=>intro _;simp[funT]
  |succ n ih=>
   intro hn;have h1:=ih od;have h2:=(hfn n od).2;unfold funT;split
   ·simp only[xaa,xab,xak];omega
   ·simp only[xaa];omega
 have hb2:∀i,i<l.length->(bodT w (l.map Fu.ty) (nth l i) (nth l i).cls.length).length<=1000000000:=fun i h=>(hfn i h).2;have hn1:∀i,0<i->funT w l (i+1)=funT w l i++[59]++bodT w (l.map Fu.ty) (nth l i) (nth l i).cls.length:=fun i h=>by rw[funT,if_pos h]
 have hn0:∀i,¬0<i->funT w l (i+1)=funT w l i++bodT w (l.map Fu.ty) (nth l i) (nth l i).cls.length:=fun i h=>by rw[funT,if_neg h]
 refine bd Tryz.f122 28 [16,26] [] fun _ _ _ _ hk=>?_;refine xaB (ι:=Nat) hk (fun i=>[(6,.d (.i (i:Int))),(5,.d (.str (funT w l i)))]) [7,8,9,10,11,12,13,14,15,16,17,18,19,20,21,22,23,24,25,26] (fun i=>[]) (fun i=>i<=l.length) (fun i=>l.length-i) 0 od ⟨⟨_,Z,xaU ?_⟩,⟨⟨_,Z,xaV ?_⟩,O⟩⟩ O (fun x=>rfl) (fun i hg1=>?_);iterate 2 focus (rfl)
 refine evc [16,26] [] ?_;apply sq<;>intro h1 h1p h1s<;>(try simp only[Q,xal,xac] at h1p);apply sq<;>intro h2 h2p h2s<;>(try simp only[Q,xal,xac] at h2p);refine xbx .none Z Z Z (by have:=hlen i od;have:=hb2 i od;(try simp only[xaa,xab,xak]);omega) ?_;refine evs [16,26] [] (wc zfl hft Z Z ?_);refine evd [16,26] [] (ixq sl24 Z Z Z (zah od) Z ?_);refine evd [16,26] [] (wc zt9 (hfn i od).1 Z Z ?_);refine xbx .none Z Z Z (by have:=hlen i od;have:=hb2 i od;(try simp only[xaa,xab,xak]);omega) ?_;refine evd [16,26] [] (dr (ar (xaj (i+1) ⟨od,od,sx ⟨⟨_,Z,xaU ?_⟩,⟨⟨_,Z,xaV ?_⟩,O⟩⟩ O⟩)));iterate 2 focus (first|rfl|(rw[hn1 i od];done))
 refine wc zfl hft Z Z ?_;refine evd [16,26] [] (ixq sl24 Z Z Z (zah od) Z ?_);refine evd [16,26] [] (wc zt9 (hfn i od).1 Z Z ?_);refine xbx .none Z Z Z (by have:=hlen i od;have:=hb2 i od;(try simp only[xaa,xab,xak]);omega) ?_;refine evd [16,26] [] (dr (ar (xaj (i+1) ⟨od,od,sx ⟨⟨_,Z,xaU ?_⟩,⟨⟨_,Z,xaV ?_⟩,O⟩⟩ O⟩)));iterate 2 focus (first|rfl|(rw[hn0 i od];done))
 refine rq ?_;rotate_left;all_goals (rw[show i=l.length by omega])
end Go.Proofs.YtmchfdpleibpdaaGreat
