/-
  THE LAW FnExactStepsCost: whatever the arguments of bulk at most 1048576 are, the call returns true, and the arguments read as before.
  Conditions: the bulk alone.
-/
import Derived.Test.YtmchfdpleibpdaaGreatU604
namespace Go.Proofs.YtmchfdpleibpdaaGreat
open Go
set_option linter.unusedSimpArgs false
set_option linter.unusedVariables false
set_option maxRecDepth 100000
set_option maxHeartbeats 4000000
theorem zqp (i:Nat) (out:List Stp) (ps:List Pat):(zc6 i out ps).length=(zbO i out ps).length:=by rw[ziA,ziB,xaa,xaa,zkh,zkg]
theorem zay (i:Nat) (out:List Stp){ps:List Pat}{k:Nat} (h:k<ps.length):zc6 i out (ps.take (k+1))=zf2 i (zc6 i out (ps.take k)) (nth ps k):=by
 have e:ps[k]?=some (nth ps k):=by simpa using zao (f:=id) h
 unfold zc6;rw[List.take_add_one,e,List.foldl_append];rfl
theorem zhJ {c:Nat->Bool}{O:List Stp}{tl:List AV}{L n m:Nat} (hn:O.length<=n) (hm:m=O.length):(stB (patL (cN c n) L O) tl).take (m*8)=((patL c L O).map Stp.c).flatten.map AV.d:=by
 rw[znO hn,zn8 (by rw[zax];exact hm)]
theorem zq9 {k:Nat}{xs:List (List D)} (hk:∀x,x∈xs->x.length=k):zbN xs.length k (xs.flatten.map .d)=some xs:=by
 have:=zdW (f:=id) (k:=k) (l:=xs) hk;rw[List.map_id] at this;rw[<-this];congr 1
 rw[List.map_flatten,List.flatMap_def];rfl
theorem zcl (i:Nat) (F:List Stp) (p:Pat):(patL (zci F.length) (F.length+(zaA p).length+1) (F++zaA p)).map Stp.c++[[D.i 2,.sl [],.i 0,.i 0,.i 0,.i (i:Int),zcB (zbV p),.i 0]]=(zf2 i F p).map Stp.c:=by
 unfold zf2;rw[xag];rfl
theorem zdf {i:Nat}{F:List Stp}{p:Pat} (h:zaA p=[]):(F++zaA p).map Stp.c++[[D.i 2,.sl [],.i 0,.i 0,.i 0,.i (i:Int),zcB (zbV p),.i 0]]=(zf2 i F p).map Stp.c:=by
 rw[ziW,h];simp[zdq]
theorem za8 (i:Nat) (F:List Stp) (p:Pat):(zf2 i F p).length=F.length+(zaA p).length+1:=by rw[ziW];simp;omega
theorem zry {w:List Data}{t:Ty}{l:List Cl} (h:zaU w t l=true) (hf:fewS l=true):zeQ l=(l.map fun c=>zae c.pat,true):=by
 unfold zeQ;rw[if_pos hf];congr 1
 refine List.map_congr_left (fun c hc=>?_);have h1:=zhf h c hc;unfold isP at h1;simp only[xad] at h1;have h2:=xas (List.all_eq_true.1 hf c hc);exact((zoF (zf5 10 h1.1)).2 h2).1.symm
theorem zt4 {l:List Cl}{i:Nat} (h:i<l.length):((l.map fun c=>zae c.pat).map zd6)[i]?=some [.sl (Pat.cs (zae (nth l i).pat))]:=by
 rw[List.map_map];exact zao (f:=fun c:Cl=>zd6 (zae c.pat)) h
theorem zgD {n:Nat}{L:List Pb} (h:n=(L.map Pb.c).length):zbN n 2 (pbC L)=some (L.map Pb.c):=by subst h;exact zra L
theorem zqC {L L':List Pb}:zbi [(9,some (.box (pbC L)))] [(9,some (.box (pbC L')))] (AV.tup []) []=true:=ziU
theorem zhF {w:List Data} (hs:WSmall w){a k:Int}{l:List Cl} (hok:ClsOk l) (h:zaU w ⟨a,k⟩ l=false):
  FnD Tryz.prog 46 [.d (zap w),.agg [.d (.i a),.d (.i k)],.d (zbD l)] [] (.tup [.d (zeZ []),.d (.bool false)]) []:=by
 have hcv:=zc8 hs (a:=a) (k:=k) hok;rw[h] at hcv;refine bd Tryz.f46 98 [] [] fun _ _ _ _ hk=>?_;refine bx 3004 ?_;refine ev (wc zpb hcv Z Z ?_);refine ev ?_;apply sq<;>intro h1 h1p h1s<;>(try simp only[Q] at h1p);focus (refine rn0 (r2 Z Z) (.tup (qne ?_ ?_));all_goals (first|rfl|(simp[h1s,h1p];done)|(simp_all;done)|(simp_all;omega)|omega))
 exfalso;exact absurd h1 oj
theorem zg5 {w:List Data} (hs:WSmall w){a k:Int}{l:List Cl} (hok:ClsOk l) (h:zaU w ⟨a,k⟩ l=true) (hq:zeQ l=([],false)):
  FnD Tryz.prog 46 [.d (zap w),.agg [.d (.i a),.d (.i k)],.d (zbD l)] [] (.tup [.d (zeZ []),.d (.bool false)]) []:=by
 have hcv:=zc8 hs (a:=a) (k:=k) hok;rw[h] at hcv;have hpo:=zfi h hok;have hsp:=zeC (l:=l) (by have:=hpo.len;omega) hpo.bin;rw[hq] at hsp;refine bd Tryz.f46 98 [] [] fun _ _ _ _ hk=>?_;refine bx 3004 ?_;refine ev (wc zpb hcv Z Z ?_);refine ev ?_;apply sq<;>intro h1 h1p h1s<;>(try simp only[Q] at h1p);exfalso;exact absurd h1 oj;refine wc zrT hsp Z Z ?_;refine ev ?_;apply sq<;>intro h2 h2p h2s<;>(try simp only[Q] at h2p);focus (refine rn0 (r2 Z Z) (.tup (qne ?_ ?_));all_goals (first|rfl|(simp[h1s,h1p,h2s,h2p];done)|(simp_all;done)|(simp_all;omega)|omega))
 exfalso;exact absurd h2 oj
theorem oh{p:Prop}(h:p:=by first|rfl|(simp only[zaq,occH,occE,Res.ids,xai,List.nil_append,AV.idsL,AV.ids,zah,zaj,zal,zaF,xaf,List.map_nil,upC,zaO,zbe,zaZ,zbb];rfl)):p:=h
theorem ov{p:Prop}(h:p:=by first|(simp;omega)|(simp[zax];omega)):p:=h
theorem ox{p:Prop}(h:p:=by first|rfl|(simp only[zbi,List.all_cons,List.all_nil,zc5,zcC,AV.idsL,AV.ids,zah,zaj,xaf,List.map_nil,zaO,zbe,zaZ,zbb];rfl)):p:=h
theorem zhk {w:List Data} (hs:WSmall w){a b:Int}{l:List Cl} (hok:ClsOk l) (h:zaU w ⟨a,b⟩ l=true) (hf:fewS l=true):
  FnD Tryz.prog 46 [.d (zap w),.agg [.d (.i a),.d (.i b)],.d (zbD l)] [] (.tup [.d (zeZ (za7 l)),.d (.bool true)]) []:=by
 have hcv:=zc8 hs (a:=a) (k:=b) hok;rw[h] at hcv;have hpo:=zfi h hok;have hpats:=zhf h;have hparts:=zir h;have hsp:=zeC (l:=l) (by have:=hpo.len;omega) hpo.bin;rw[zry h hf] at hsp;have hll:=hpo.len;have hp1:∀i,i<l.length->∀k,k<(zae (nth l i).pat).length->(nth (zae (nth l i).pat) k).size<=60/\(nth (zae (nth l i).pat) k).ok/\asOk (nth (zae (nth l i).pat) k).size (nth (zae (nth l i).pat) k):=fun i hi k hk=>hpo.part _ (zai hi) _ (zai hk);have hp401:=fun i=>zdQ (nth l i).pat;have hcl:=fun i (hi:i<=l.length)=>zgE hpo i hi;have hfl:∀i,i<l.length->∀k,k<=(zae (nth l i).pat).length->(zc6 i (zam l i) ((zae (nth l i).pat).take k)).length<=100000000/\(zam l i).length+k<=(zc6 i (zam l i) ((zae (nth l i).pat).take k)).length:=fun i hi k hk=>by
  rw[zqp];have h1:=hcl i od;have h2:=zgG i ((zae (nth l i).pat).take k) (zam l i) (m:=60) (fun p hp=>(hpo.part _ (zai hi) p (List.mem_of_mem_take hp)).1);have h3:=hp401 i;have h4:i*(401*(60+1))<=100*(401*(60+1)):=xav _ od;have h5:((zae (nth l i).pat).take k).length*(60+1)<=401*(60+1):=xav _ (by rw[List.length_take];omega);rw[List.length_take] at h2;rw[List.length_take] at h5;rw[Nat.min_eq_left hk] at h2 h5;omega
 have hts:∀i,i<l.length->∀k,k<(zae (nth l i).pat).length->∀F:List Stp,F.length<=100000000->FnD Tryz.prog 97 [.agg [.d (.i (nth (zae (nth l i).pat) k).op),.d (.i (nth (zae (nth l i).pat) k).ctor),.d (.i (nth (zae (nth l i).pat) k).n),.d (.i (nth (zae (nth l i).pat) k).m),.d (.i (nth (zae (nth l i).pat) k).var),.d (zau (nth (zae (nth l i).pat) k).kids)],.nils,.ref 901 0,.ref 902 0]
   (tsIn F []) (.tup []) (zlq (F++zaA (nth (zae (nth l i).pat) k)) (zar (nth (zae (nth l i).pat) k).size (nth (zae (nth l i).pat) k) [])):=fun i hi k hk F hF=>by
  have hq:=hp1 i hi k hk;have e:=zo3 (w:=w) (nth (zae (nth l i).pat) k).size 10 (t:=⟨a,b⟩) (p:=nth (zae (nth l i).pat) k) [] (hparts _ (zai hi) _ (zai hk)).1;have:=zh7 (nth (zae (nth l i).pat) k).size (p:=nth (zae (nth l i).pat) k) (xs:=F) (ys:=[]) (path:=[]) (Nat.le_refl _) hq.2.1 ot od ot;rw[e] at this;exact xaM (.cons (.refl _) (.cons .nil (.cons (.refl _) (.cons (.refl _) .nil)))) this
 have hbd:∀i,i<l.length->∀k,k<(zae (nth l i).pat).length->∀N (path:List Int),(zar N (nth (zae (nth l i).pat) k) path).length<=6/\zbK (zar N (nth (zae (nth l i).pat) k) path) 6=zfr (zar N (nth (zae (nth l i).pat) k) path):=fun i hi k hk N path=>
  (zpv (hpats _ (zai hi)) (zlp (zai hk)) N path).2.2
 have hso:∀L:List Pb,L.length<=6->FnD Tryz.prog 98 [.ms 9 (L.map Pb.c).length,.fn 99 []] [(9,some (.box (pbC L)))] (.tup []) [(9,some (.box (pbC (zfr L))))]:=fun L hL=>by
  rw[xac];exact zho (L:=L) od ztY (fun a b=>zg4)
 have hsn:=zha (f:=99);have htl:=fun(p:Pat)=>zdR p.size p [];have hc8:(zam l l.length).length<=100000000:=by
  have h1:=hcl l.length (Nat.le_refl _);have h4:l.length*(401*(60+1))<=100*(401*(60+1)):=xav _ od;omega
 have hV:za7 l=zam l l.length++[zhB]:=rfl;rw[hV];refine bd Tryz.f46 98 [40,48,56,63,77,85,90] [7,11,13,16,17,18,22,24,29,999999] fun _ _ _ _ hk=>?_;refine Walk.box (id:=3004) .none Z Z Z oh oh oh oh ?_;refine evs [40,48,56,63,77,85,90] [] (Walk.call (cr:=[]) zpb hcv Z .none Z Z (LeL.refl _) I Z ox oh ?_);refine evs [40,48,56,63,77,85,90] [] ?_;apply sq<;>intro h1 h1p h1s<;>(try simp only[Q,xaW,xal,xac,xaa] at h1p);exfalso;exact absurd h1 oj;refine Walk.call (cr:=[]) zrT hsp Z .none Z Z (LeL.refl _) I Z ox oh ?_;refine evs [40,48,56,63,77,85,90] [] ?_;apply sq<;>intro h2 h2p h2s<;>(try simp only[Q,xaW,xal,xac,xaa] at h2p);exfalso;exact absurd h2 og;refine Walk.alloc (id:=901) tz96 Z .none Z oh oh oh ?_;apply tv;refine CWp.tokBV 901 0 5 8 Z Z Z Z (evc [40,48,56,63,77,85,90] [] (xaD (ι:=Nat) hk (fun i=>[(34,.d (.i (i:Int)))]) [11,12,13,15,16,17,18,19,35,36,37,38,39,40,41,42,43,44,45,46,47,48,49,50,51,52,53,54,55,56,57,58,59,60,61,62,63,64,65,66,67,68,69,70,71,72,73,74,75,76,77,78,79,80,81,82,83,84,85,86,87,88,89,90,91,92,93] (fun i=>[(901,some (.box [.gv 5 ((zam l i).map Stp.c)])),(5,some (.tok ((zam l i).map Stp.c).length 8))]) (fun i=>i<=l.length) (fun i=>l.length-i) 0 od ⟨⟨_,Z,xaQ ?_⟩,I⟩ ⟨?_,⟨zac ?_,I⟩⟩ (fun x=>rfl) (fun i hg1=>?_)));focus (first|rfl|omega|(simp;omega))
 focus (first|rfl|(simp[getH];done))
 focus (first|rfl|omega|(simp;omega))
 refine evc [40,48,56,63,77,85,90] [7,11,13,16,17,18,22,24,29,999999] ?_;apply sq<;>intro h3 h3p h3s<;>(try simp only[Q,xaW,xal,xac,xaa] at h3p);refine ixq zdn Z Z Z (zt4 od) Z ?_;refine evs [40,48,56,63,77,85,90] [] (xbK sl96 .none Z Z (evs [40,48,56,63,77,85,90] [] (CWp.kill [39] (evc [40,48,56,63,77,85,90] [] (xaD (ι:=Nat) hk (fun k=>[(43,.d (.i (k:Int)))]) [15,16,17,18,44,45,46,47,48,49,50,51,52,53,54,55,56,57,58,59,60,61,62,63,64,65,66,67,68,69,70,71,72,73] (fun k=>[(901,some (.box [.gv 5 ((zc6 i (zam l i) ((zae (nth l i).pat).take k)).map Stp.c)])),(5,some (.tok ((zc6 i (zam l i) ((zae (nth l i).pat).take k)).map Stp.c).length 8))]) (fun k=>k<=(zae (nth l i).pat).length) (fun k=>(zae (nth l i).pat).length-k) 0 od ⟨⟨_,Z,xaQ ?_⟩,I⟩ ⟨?_,⟨zac ?_,I⟩⟩ (fun x=>rfl) (fun k hg2=>?_))))));focus (first|rfl|omega|(rw[zay i (zam l i) (ps:=zae (nth l i).pat) (k:=k) od,<-hF];simp[zax,za8];done)|(rw[zay i (zam l i) (ps:=zae (nth l i).pat) (k:=k) od,<-hF];simp[zax,za8];omega)|(simp;omega))
 focus (first|rfl|(show some (Res.box [AV.gv _ _])=some (Res.box [AV.gv _ _]);rw[zay i (zam l i) (ps:=zae (nth l i).pat) (k:=k) od,<-hF,<-zcl,hbs];all_goals rfl)|(show some (Res.box [AV.gv _ _])=some (Res.box [AV.gv _ _]);rw[zay i (zam l i) (ps:=zae (nth l i).pat) (k:=k) od,<-hF,<-zcl,hbs,hB];all_goals rfl)|(show some (Res.box [AV.gv _ _])=some (Res.box [AV.gv _ _]);rw[zay i (zam l i) (ps:=zae (nth l i).pat) (k:=k) od,<-hF,<-zdf hT,hbs];all_goals rfl)|(show some (Res.box [AV.gv _ _])=some (Res.box [AV.gv _ _]);rw[zay i (zam l i) (ps:=zae (nth l i).pat) (k:=k) od,<-hF,<-zdf hT,hbs,hB];all_goals rfl))
 focus (first|rfl|omega|(rw[zay i (zam l i) (ps:=zae (nth l i).pat) (k:=k) od,<-hF];simp[zax,za8];done)|(rw[zay i (zam l i) (ps:=zae (nth l i).pat) (k:=k) od,<-hF];simp[zax,za8];omega)|(simp;omega))
 refine evc [40,48,56,63,77,85,90] [7,11,13,16,17,18,22,24,29,999999] ?_;apply sq<;>intro h4 h4p h4s<;>(try simp only[Q,xaW,xal,xac,xaa] at h4p);have hpk:=hp1 i od k od;have hfk:=hfl i od k od;have hb9:=hbd i od k od (nth (zae (nth l i).pat) k).size [];have hT9:(zaA (nth (zae (nth l i).pat) k)).length<=(nth (zae (nth l i).pat) k).size:=htl (nth (zae (nth l i).pat) k);have hbs:zbV (nth (zae (nth l i).pat) k)=zfr (zar (nth (zae (nth l i).pat) k).size (nth (zae (nth l i).pat) k) []):=hb9.2;obtain⟨F,hF⟩:∃F,F=zc6 i (zam l i) ((zae (nth l i).pat).take k):=⟨_,rfl⟩;rw[<-hF] at hfk ⊢;refine evc [40,48,56,63,77,85,90] [] (ixq sl72 Z Z Z (zaS od) Z ?_);refine evs [40,48,56,63,77,85,90] [] (Walk.alloc (id:=3015) tz74 Z .none Z oh oh oh ?_);refine so ty74 ?_;apply tv;refine xbK sl96 .none Z Z (evs [40,48,56,63,77,85,90] [] (Walk.alloc (id:=902) zua Z .none Z oh oh oh ?_));apply tv;refine CWp.kill [47] ?_;refine CWp.tokBV 902 0 6 2 Z Z Z Z ?_;refine evc [40,48,56,63,77,85,90] [] (xbv [5,6] [7,9] zev (hts i od k od F od) Z .none Z Z (LeL.refl _) ⟨Z,Z,Z,Z,I⟩ Z oh ?_);apply tv;by_cases hB:zar (nth (zae (nth l i).pat) k).size (nth (zae (nth l i).pat) k) []=[]
 first|(refine CWp.fixVC 902 0 9 2 Z Z Z Z (by intro q;exact hB (List.map_eq_nil_iff.1 q)) ?_)|(refine xaz 902 0 9 2 Z Z Z Z (by rw[hB];rfl) ?_)
 refine evc [40,48,56,63,77,85,90] [] (Walk.call (cr:=[]) zrU hsn Z .none Z Z (LeL.refl _) I Z ox oh ?_);apply tv;by_cases hT:zaA (nth (zae (nth l i).pat) k)=[]
 first|(refine xaB hk 902 0 9 _ 2 Z Z Z Z Z (zgD (by rw[xac,xac,zfC])) Z ?_)|skip
 first|(refine xaA 901 0 7 8 Z Z Z Z (by intro q;exact hT (List.append_eq_nil_iff.1 (List.map_eq_nil_iff.1 q)).2) (fun cap hcap=>?_))|skip
 refine evc [40,48,56,63,77,85,90] [] (xaD (ι:=Unit) hk (fun u=>[(18,.d (.i (F.length:Int)))]) [54,55,56,57,58,59,60,61,62,63,64,65,66] (fun u=>[]) (fun u=>True) (fun u=>0) () I ⟨⟨_,Z,xaQ ?_⟩,I⟩ I (fun x=>rfl) (fun u hg3=>?_));focus (first|rfl|(simp;done)|(simp_all;done)|omega)
 refine evc [40,48,56,63,77,85,90] [7,11,13,16,17,18,22,24,29,999999] (xbK sl96 .none Z Z (evs [40,48,56,63,77,85,90] [] ?_));apply sq<;>intro h5 h5p h5s<;>(try simp only[Q,xaW,xal,xac,xaa] at h5p);exfalso;have hq:=xam List.length hT;simp only[xak] at hq;omega;first|(refine xaI 901 0 7 5 Z Z Z Z ?_)|(refine xaE hk 901 0 7 5 8 (xs:=(patL (zci F.length) (F.length+(zaA (nth (zae (nth l i).pat) k)).length+1) (F++zaA (nth (zae (nth l i).pat) k))).map Stp.c) Z Z Z Z (by rw[xac,xac,zax]) (zdb _) (zgt o9 hcap) (zhJ o0 o9) Z Z Z (zaO _ _) ?_)
 refine evc [40,48,56,63,77,85,90] [] (bu [0,5,6] [_,_,_] zeS ?_);refine si [0] [_] sl96 zdS ?_;refine xbr sl96 zeT .none Z Z Z Z (zbG Z oq) ou ov ov ?_;refine so ty96 ?_;apply tv;refine ar (xaj (k+1) ⟨od,od,sx ⟨⟨_,Z,xaQ ?_⟩,I⟩ ⟨?_,⟨zac ?_,I⟩⟩⟩);focus (first|rfl|omega|(rw[zay i (zam l i) (ps:=zae (nth l i).pat) (k:=k) od,<-hF];simp[zax,za8];done)|(rw[zay i (zam l i) (ps:=zae (nth l i).pat) (k:=k) od,<-hF];simp[zax,za8];omega)|(simp;omega))
 focus (first|rfl|(show some (Res.box [AV.gv _ _])=some (Res.box [AV.gv _ _]);rw[zay i (zam l i) (ps:=zae (nth l i).pat) (k:=k) od,<-hF,<-zcl,hbs];all_goals rfl)|(show some (Res.box [AV.gv _ _])=some (Res.box [AV.gv _ _]);rw[zay i (zam l i) (ps:=zae (nth l i).pat) (k:=k) od,<-hF,<-zcl,hbs,hB];all_goals rfl)|(show some (Res.box [AV.gv _ _])=some (Res.box [AV.gv _ _]);rw[zay i (zam l i) (ps:=zae (nth l i).pat) (k:=k) od,<-hF,<-zdf hT,hbs];all_goals rfl)|(show some (Res.box [AV.gv _ _])=some (Res.box [AV.gv _ _]);rw[zay i (zam l i) (ps:=zae (nth l i).pat) (k:=k) od,<-hF,<-zdf hT,hbs,hB];all_goals rfl))
 focus (first|rfl|omega|(rw[zay i (zam l i) (ps:=zae (nth l i).pat) (k:=k) od,<-hF];simp[zax,za8];done)|(rw[zay i (zam l i) (ps:=zae (nth l i).pat) (k:=k) od,<-hF];simp[zax,za8];omega)|(simp;omega))
 first|(refine xaB hk 902 0 9 _ 2 Z Z Z Z Z (zgD (by rw[xac,xac,zfC])) Z ?_)|skip
 first|(refine xaA 901 0 7 8 Z Z Z Z (by intro q;exact hT (List.append_eq_nil_iff.1 (List.map_eq_nil_iff.1 q)).2) (fun cap hcap=>?_))|skip
 refine evc [40,48,56,63,77,85,90] [] (xaD (ι:=Nat) hk (fun n=>[(18,.d (.i (n:Int)))]) [54,55,56,57,58,59,60,61,62,63,64,65,66] (fun n=>[(7,some (.box (stB (patL (cN (zci F.length) n) (F.length+(zaA (nth (zae (nth l i).pat) k)).length+1) (F++zaA (nth (zae (nth l i).pat) k))) (List.replicate ((cap-((F++zaA (nth (zae (nth l i).pat) k)).map Stp.c).length)*8) .any))))]) (fun n=>F.length<=n/\n<=F.length+(zaA (nth (zae (nth l i).pat) k)).length) (fun n=>F.length+(zaA (nth (zae (nth l i).pat) k)).length-n) F.length ⟨by omega,by omega⟩ ⟨⟨_,Z,xaQ ?_⟩,I⟩ ⟨?_,I⟩ (fun x=>rfl) (fun n hg3=>?_));focus (first|rfl|(simp;done)|(simp_all;done)|omega)
 focus (first|rfl|(show some (Res.box _)=some (Res.box _);rw[zbT (c:=zci F.length) (fun j hj=>xaw od)];rfl))
 refine evc [40,48,56,63,77,85,90] [7,11,13,16,17,18,22,24,29,999999] (xbJ sl96 .none Z Z (evs [40,48,56,63,77,85,90] [] ?_));apply sq<;>intro h6 h6p h6s<;>(try simp only[Q,xaW,xal,xac,xaa] at h6p);refine xbJ sl96 .none Z Z (evs [40,48,56,63,77,85,90] [] (ar (xbH (i:=n) sl96 .none Z Z Z Z (by rw[xac,xaa];omega) ?_)));refine evs [40,48,56,63,77,85,90] [] (Walk.store ty3 .none Z Z Z Z Z Z og ((zgx (n:=n) od (by rw[xac,xaa];omega) o0 (xax od))) ?_);apply tv;refine ar (xaj (n+1) ⟨⟨by omega,by omega⟩,od,sx ⟨⟨_,Z,xaQ ?_⟩,I⟩ ⟨?_,I⟩⟩);focus (first|rfl|(simp;done)|(simp_all;done)|omega)
 focus (first|rfl|(show some (Res.box _)=some (Res.box _);rw[zbT (c:=zci F.length) (fun j hj=>xaw od)];rfl))
 first|(refine xaI 901 0 7 5 Z Z Z Z ?_)|(refine xaE hk 901 0 7 5 8 (xs:=(patL (zci F.length) (F.length+(zaA (nth (zae (nth l i).pat) k)).length+1) (F++zaA (nth (zae (nth l i).pat) k))).map Stp.c) Z Z Z Z (by rw[xac,xac,zax]) (zdb _) (zgt o9 hcap) (zhJ o0 o9) Z Z Z (zaO _ _) ?_)
 refine evc [40,48,56,63,77,85,90] [] (bu [0,5,6] [_,_,_] zeS ?_);refine si [0] [_] sl96 zdS ?_;refine xbr sl96 zeT .none Z Z Z Z (zbG Z oq) ou ov ov ?_;refine so ty96 ?_;apply tv;refine ar (xaj (k+1) ⟨od,od,sx ⟨⟨_,Z,xaQ ?_⟩,I⟩ ⟨?_,⟨zac ?_,I⟩⟩⟩);focus (first|rfl|omega|(rw[zay i (zam l i) (ps:=zae (nth l i).pat) (k:=k) od,<-hF];simp[zax,za8];done)|(rw[zay i (zam l i) (ps:=zae (nth l i).pat) (k:=k) od,<-hF];simp[zax,za8];omega)|(simp;omega))
 focus (first|rfl|(show some (Res.box [AV.gv _ _])=some (Res.box [AV.gv _ _]);rw[zay i (zam l i) (ps:=zae (nth l i).pat) (k:=k) od,<-hF,<-zcl,hbs];all_goals rfl)|(show some (Res.box [AV.gv _ _])=some (Res.box [AV.gv _ _]);rw[zay i (zam l i) (ps:=zae (nth l i).pat) (k:=k) od,<-hF,<-zcl,hbs,hB];all_goals rfl)|(show some (Res.box [AV.gv _ _])=some (Res.box [AV.gv _ _]);rw[zay i (zam l i) (ps:=zae (nth l i).pat) (k:=k) od,<-hF,<-zdf hT,hbs];all_goals rfl)|(show some (Res.box [AV.gv _ _])=some (Res.box [AV.gv _ _]);rw[zay i (zam l i) (ps:=zae (nth l i).pat) (k:=k) od,<-hF,<-zdf hT,hbs,hB];all_goals rfl))
 focus (first|rfl|omega|(rw[zay i (zam l i) (ps:=zae (nth l i).pat) (k:=k) od,<-hF];simp[zax,za8];done)|(rw[zay i (zam l i) (ps:=zae (nth l i).pat) (k:=k) od,<-hF];simp[zax,za8];omega)|(simp;omega))
 first|(refine CWp.fixVC 902 0 9 2 Z Z Z Z (by intro q;exact hB (List.map_eq_nil_iff.1 q)) ?_)|(refine xaz 902 0 9 2 Z Z Z Z (by rw[hB];rfl) ?_)
 refine evc [40,48,56,63,77,85,90] [] (Walk.call (cr:=[]) zrU (hso _ hb9.1) Z .none Z Z (.cons (xaR (by first|rfl|(simp[xaW,xal,xac,xaa];done))) (.cons (.refl _) .nil)) ⟨Z,I⟩ Z zqC Z ?_);apply tv;by_cases hT:zaA (nth (zae (nth l i).pat) k)=[]
 first|(refine xaB hk 902 0 9 _ 2 Z Z Z Z Z (zgD (by rw[xac,xac,zfC])) Z ?_)|skip
 first|(refine xaA 901 0 7 8 Z Z Z Z (by intro q;exact hT (List.append_eq_nil_iff.1 (List.map_eq_nil_iff.1 q)).2) (fun cap hcap=>?_))|skip
 refine evc [40,48,56,63,77,85,90] [] (xaD (ι:=Unit) hk (fun u=>[(18,.d (.i (F.length:Int)))]) [54,55,56,57,58,59,60,61,62,63,64,65,66] (fun u=>[]) (fun u=>True) (fun u=>0) () I ⟨⟨_,Z,xaQ ?_⟩,I⟩ I (fun x=>rfl) (fun u hg3=>?_));focus (first|rfl|(simp;done)|(simp_all;done)|omega)
 refine evc [40,48,56,63,77,85,90] [7,11,13,16,17,18,22,24,29,999999] (xbK sl96 .none Z Z (evs [40,48,56,63,77,85,90] [] ?_));apply sq<;>intro h7 h7p h7s<;>(try simp only[Q,xaW,xal,xac,xaa] at h7p);exfalso;have hq:=xam List.length hT;simp only[xak] at hq;omega;first|(refine xaI 901 0 7 5 Z Z Z Z ?_)|(refine xaE hk 901 0 7 5 8 (xs:=(patL (zci F.length) (F.length+(zaA (nth (zae (nth l i).pat) k)).length+1) (F++zaA (nth (zae (nth l i).pat) k))).map Stp.c) Z Z Z Z (by rw[xac,xac,zax]) (zdb _) (zgt o9 hcap) (zhJ o0 o9) Z Z Z (zaO _ _) ?_)
 refine evc [40,48,56,63,77,85,90] [] (bu [0,5,6] [_,_,_] zeS ?_);refine si [0] [_] sl96 zdS ?_;refine xbr sl96 zeT .none Z Z Z Z (zbG Z oq) ou ov ov ?_;refine so ty96 ?_;apply tv;refine ar (xaj (k+1) ⟨od,od,sx ⟨⟨_,Z,xaQ ?_⟩,I⟩ ⟨?_,⟨zac ?_,I⟩⟩⟩);focus (first|rfl|omega|(rw[zay i (zam l i) (ps:=zae (nth l i).pat) (k:=k) od,<-hF];simp[zax,za8];done)|(rw[zay i (zam l i) (ps:=zae (nth l i).pat) (k:=k) od,<-hF];simp[zax,za8];omega)|(simp;omega))
 focus (first|rfl|(show some (Res.box [AV.gv _ _])=some (Res.box [AV.gv _ _]);rw[zay i (zam l i) (ps:=zae (nth l i).pat) (k:=k) od,<-hF,<-zcl,hbs];all_goals rfl)|(show some (Res.box [AV.gv _ _])=some (Res.box [AV.gv _ _]);rw[zay i (zam l i) (ps:=zae (nth l i).pat) (k:=k) od,<-hF,<-zcl,hbs,hB];all_goals rfl)|(show some (Res.box [AV.gv _ _])=some (Res.box [AV.gv _ _]);rw[zay i (zam l i) (ps:=zae (nth l i).pat) (k:=k) od,<-hF,<-zdf hT,hbs];all_goals rfl)|(show some (Res.box [AV.gv _ _])=some (Res.box [AV.gv _ _]);rw[zay i (zam l i) (ps:=zae (nth l i).pat) (k:=k) od,<-hF,<-zdf hT,hbs,hB];all_goals rfl))
 focus (first|rfl|omega|(rw[zay i (zam l i) (ps:=zae (nth l i).pat) (k:=k) od,<-hF];simp[zax,za8];done)|(rw[zay i (zam l i) (ps:=zae (nth l i).pat) (k:=k) od,<-hF];simp[zax,za8];omega)|(simp;omega))
 first|(refine xaB hk 902 0 9 _ 2 Z Z Z Z Z (zgD (by rw[xac,xac,zfC])) Z ?_)|skip
 first|(refine xaA 901 0 7 8 Z Z Z Z (by intro q;exact hT (List.append_eq_nil_iff.1 (List.map_eq_nil_iff.1 q)).2) (fun cap hcap=>?_))|skip
 refine evc [40,48,56,63,77,85,90] [] (xaD (ι:=Nat) hk (fun n=>[(18,.d (.i (n:Int)))]) [54,55,56,57,58,59,60,61,62,63,64,65,66] (fun n=>[(7,some (.box (stB (patL (cN (zci F.length) n) (F.length+(zaA (nth (zae (nth l i).pat) k)).length+1) (F++zaA (nth (zae (nth l i).pat) k))) (List.replicate ((cap-((F++zaA (nth (zae (nth l i).pat) k)).map Stp.c).length)*8) .any))))]) (fun n=>F.length<=n/\n<=F.length+(zaA (nth (zae (nth l i).pat) k)).length) (fun n=>F.length+(zaA (nth (zae (nth l i).pat) k)).length-n) F.length ⟨by omega,by omega⟩ ⟨⟨_,Z,xaQ ?_⟩,I⟩ ⟨?_,I⟩ (fun x=>rfl) (fun n hg3=>?_));focus (first|rfl|(simp;done)|(simp_all;done)|omega)
 focus (first|rfl|(show some (Res.box _)=some (Res.box _);rw[zbT (c:=zci F.length) (fun j hj=>xaw od)];rfl))
 refine evc [40,48,56,63,77,85,90] [7,11,13,16,17,18,22,24,29,999999] (xbJ sl96 .none Z Z (evs [40,48,56,63,77,85,90] [] ?_));apply sq<;>intro h8 h8p h8s<;>(try simp only[Q,xaW,xal,xac,xaa] at h8p);refine xbJ sl96 .none Z Z (evs [40,48,56,63,77,85,90] [] (ar (xbH (i:=n) sl96 .none Z Z Z Z (by rw[xac,xaa];omega) ?_)));refine evs [40,48,56,63,77,85,90] [] (Walk.store ty3 .none Z Z Z Z Z Z og ((zgx (n:=n) od (by rw[xac,xaa];omega) o0 (xax od))) ?_);apply tv;refine ar (xaj (n+1) ⟨⟨by omega,by omega⟩,od,sx ⟨⟨_,Z,xaQ ?_⟩,I⟩ ⟨?_,I⟩⟩);focus (first|rfl|(simp;done)|(simp_all;done)|omega)
 focus (first|rfl|(show some (Res.box _)=some (Res.box _);rw[zbT (c:=zci F.length) (fun j hj=>xaw od)];rfl))
 first|(refine xaI 901 0 7 5 Z Z Z Z ?_)|(refine xaE hk 901 0 7 5 8 (xs:=(patL (zci F.length) (F.length+(zaA (nth (zae (nth l i).pat) k)).length+1) (F++zaA (nth (zae (nth l i).pat) k))).map Stp.c) Z Z Z Z (by rw[xac,xac,zax]) (zdb _) (zgt o9 hcap) (zhJ o0 o9) Z Z Z (zaO _ _) ?_)
 refine evc [40,48,56,63,77,85,90] [] (bu [0,5,6] [_,_,_] zeS ?_);refine si [0] [_] sl96 zdS ?_;refine xbr sl96 zeT .none Z Z Z Z (zbG Z oq) ou ov ov ?_;refine so ty96 ?_;apply tv;refine ar (xaj (k+1) ⟨od,od,sx ⟨⟨_,Z,xaQ ?_⟩,I⟩ ⟨?_,⟨zac ?_,I⟩⟩⟩);focus (first|rfl|omega|(rw[zay i (zam l i) (ps:=zae (nth l i).pat) (k:=k) od,<-hF];simp[zax,za8];done)|(rw[zay i (zam l i) (ps:=zae (nth l i).pat) (k:=k) od,<-hF];simp[zax,za8];omega)|(simp;omega))
 focus (first|rfl|(show some (Res.box [AV.gv _ _])=some (Res.box [AV.gv _ _]);rw[zay i (zam l i) (ps:=zae (nth l i).pat) (k:=k) od,<-hF,<-zcl,hbs];all_goals rfl)|(show some (Res.box [AV.gv _ _])=some (Res.box [AV.gv _ _]);rw[zay i (zam l i) (ps:=zae (nth l i).pat) (k:=k) od,<-hF,<-zcl,hbs,hB];all_goals rfl)|(show some (Res.box [AV.gv _ _])=some (Res.box [AV.gv _ _]);rw[zay i (zam l i) (ps:=zae (nth l i).pat) (k:=k) od,<-hF,<-zdf hT,hbs];all_goals rfl)|(show some (Res.box [AV.gv _ _])=some (Res.box [AV.gv _ _]);rw[zay i (zam l i) (ps:=zae (nth l i).pat) (k:=k) od,<-hF,<-zdf hT,hbs,hB];all_goals rfl))
 focus (first|rfl|omega|(rw[zay i (zam l i) (ps:=zae (nth l i).pat) (k:=k) od,<-hF];simp[zax,za8];done)|(rw[zay i (zam l i) (ps:=zae (nth l i).pat) (k:=k) od,<-hF];simp[zax,za8];omega)|(simp;omega))
 have hk9:k=(zae (nth l i).pat).length:=od;have hne:=List.length_pos_iff.2 (hpo.ne _ (zai (l:=l) (i:=i) od));have hf2:=hfl i od k od;obtain⟨O2,hO2⟩:∃O2,O2=zc6 i (zam l i) ((zae (nth l i).pat).take k):=⟨_,rfl⟩;rw[<-hO2] at hf2 ⊢;refine xaA 901 0 5 8 Z Z Z Z (by intro q;have q2:=xam List.length q;rw[xac] at q2;simp at q2;rw[q2] at hf2;simp at hf2;omega) (fun cap2 hcap2=>?_);rw[hk9,List.take_length] at hO2;refine evc [40,48,56,63,77,85,90] [] (xaD (ι:=Nat) hk (fun n2=>[(19,.d (.i (n2:Int)))]) [75,76,77,78,79,80,81,82,83,84,85,86,87,88,89,90,91,92] (fun n2=>[(5,some (.box (stB (patL (cN (zbl (zam l i).length O2) n2) O2.length O2) (List.replicate ((cap2-(O2.map Stp.c).length)*8) .any))))]) (fun n2=>(zam l i).length<=n2/\n2<=O2.length) (fun n2=>O2.length-n2) (zam l i).length ⟨by omega,by omega⟩ ⟨⟨_,Z,xaQ ?_⟩,I⟩ ⟨?_,I⟩ (fun x=>rfl) (fun n2 hg4=>?_));focus (first|rfl|(simp;done)|(simp_all;done)|omega)
 focus (first|rfl|(show some (Res.box _)=some (Res.box _);rw[zbT (c:=zbl (zam l i).length O2) (fun j hj=>by unfold zbl;rw[xaw od];rfl)];rfl)|(show some (Res.box _)=some (Res.box _);rw[zgi (c:=zbl (zam l i).length O2) (i:=n2) (by unfold zbl;rw[show decide ((nth O2 n2).op=2)=false from xaw ol,Bool.and_false])]))
 refine evc [40,48,56,63,77,85,90] [7,11,13,16,17,18,22,24,29,999999] (xbJ sl96 .none Z Z (evs [40,48,56,63,77,85,90] [] ?_));apply sq<;>intro h9 h9p h9s<;>(try simp only[Q,xaW,xal,xac,xaa] at h9p);refine xbH (i:=n2) sl96 .none Z Z Z Z (by rw[xac];omega) ?_;refine evs [40,48,56,63,77,85,90] [] (xbL ty3 .none Z Z Z ((zo0 (n:=n2) od od)) ?_);refine evs [40,48,56,63,77,85,90] [] ?_;apply sq<;>intro h10 h10p h10s<;>(try simp only[Q,xaW,xal,xac,xaa] at h10p);refine xbJ sl96 .none Z Z (xbH (i:=n2) sl96 .none Z Z Z Z (by rw[xac];omega) ?_);refine evs [40,48,56,63,77,85,90] [] (Walk.store ty3 .none Z Z Z Z Z Z og ((zgx (n:=n2) od o9 od (by unfold zbl;rw[xax (show(zam l i).length<=n2 by omega),xax (show(nth O2 n2).op=2 by assumption)];rfl))) ?_);apply tv;refine ar (xaj (n2+1) ⟨⟨by omega,by omega⟩,od,sx ⟨⟨_,Z,xaQ ?_⟩,I⟩ ⟨?_,I⟩⟩);focus (first|rfl|(simp;done)|(simp_all;done)|omega)
 focus (first|rfl|(show some (Res.box _)=some (Res.box _);rw[zbT (c:=zbl (zam l i).length O2) (fun j hj=>by unfold zbl;rw[xaw od];rfl)];rfl)|(show some (Res.box _)=some (Res.box _);rw[zgi (c:=zbl (zam l i).length O2) (i:=n2) (by unfold zbl;rw[show decide ((nth O2 n2).op=2)=false from xaw ol,Bool.and_false])]))
 refine ar (xaj (n2+1) ⟨⟨by omega,by omega⟩,od,sx ⟨⟨_,Z,xaQ ?_⟩,I⟩ ⟨?_,I⟩⟩);focus (first|rfl|(simp;done)|(simp_all;done)|omega)
 focus (first|rfl|(show some (Res.box _)=some (Res.box _);rw[zbT (c:=zbl (zam l i).length O2) (fun j hj=>by unfold zbl;rw[xaw od];rfl)];rfl)|(show some (Res.box _)=some (Res.box _);rw[zgi (c:=zbl (zam l i).length O2) (i:=n2) (by unfold zbl;rw[show decide ((nth O2 n2).op=2)=false from xaw ol,Bool.and_false])]))
 refine CWp.kill [76] ?_;refine xaE hk 901 0 5 7 8 (xs:=(clsS i (zam l i) (zae (nth l i).pat)).map Stp.c) Z Z Z Z (by rw[xac,xac,<-zoz,hO2];unfold endS;rw[zax]) (zdb _) (zgt o9 hcap2) (by rw[zlV od o9,<-zoz,<-hO2];rfl) Z Z Z (zaO _ _) ?_;refine xaI 901 0 7 5 Z Z Z Z ?_;refine evc [40,48,56,63,77,85,90] [] (ar (xaj (i+1) ⟨od,od,sx ⟨⟨_,Z,xaQ ?_⟩,I⟩ ⟨?_,⟨zac ?_,I⟩⟩⟩));focus (first|rfl|omega|(simp;omega))
 focus (first|rfl|(simp[getH];done))
 focus (first|rfl|omega|(simp;omega))
 obtain rfl:i=l.length:=od;refine bu [0] [_] zeS ?_;refine si [0] [_] sl96 zdS ?_;refine xbr sl96 zeT .none Z Z Z Z (zbG Z oq) ou ov ov ?_;refine evs [40,48,56,63,77,85,90] [] (CWp.fixV hk 6 5 8 Z (zbG Z og) Z (fun hx=>absurd hx og) (fun hx=>?_));refine CWp.frz hk 6 5 _ 8 Z Z (zq9 (fun x hx=>(List.mem_append.1 hx).elim (zdb _ x) (fun h=>by simp at h;subst h;rfl))) Z ?_;refine CWp.ret (rn0 (r2 Z Z) (.tup (qee ?_ ?_)));rotate_left 2;all_goals (first|rfl|(show _=D.sl (List.map Stp.c (_++_));rw[xag];rfl))
theorem zhE {w:List Data} (hs:WSmall w){a k:Int}{l:List Cl} (hok:ClsOk l):
  FnD Tryz.prog 46 [.d (zap w),.agg [.d (.i a),.d (.i k)],.d (zbD l)] [] (.tup [.d (zeZ (zbI w ⟨a,k⟩ l).1),.d (.bool (zbI w ⟨a,k⟩ l).2)]) []:=by
 cases hv:zaU w ⟨a,k⟩ l with
 |false=>rw[zmC hv];exact zhF hs hok hv
 |true=>
  cases hf:fewS l with
  |false=>
   have e1:zbI w ⟨a,k⟩ l=([],false):=if_neg (fun q=>by rw[hf] at q;exact absurd q.2 og);have e2:zeQ l=([],false):=if_neg (by rw[hf];simp);rw[e1];exact zg5 hs hok hv e2
  |true=>
   have e1:zbI w ⟨a,k⟩ l=(za7 l,true):=if_pos ⟨hv,hf⟩;rw[e1];exact zhk hs hok hv hf
theorem zjy {w:List Data} (hs:WSmall w){a k m:Int}{l:List Cl} (hok:ClsOk l):
  FnD Tryz.prog 17 [.d (zap w),.agg [.d (.i a),.d (.i k)],.d (zbD l),.d (.i m)] [] (.tup [.d (.i (zfV w ⟨a,k⟩ l m).1),.d (.bool (zfV w ⟨a,k⟩ l m).2)]) []:=by
 have hco:=zhE hs (a:=a) (k:=k) hok;have hva:=ziG hs (a:=a) (k:=k) (m:=m);cases h1:(zbI w ⟨a,k⟩ l).2 with
 |false=>
  rw[h1] at hco;rw[zhz (.inl h1)];generalize (zbI w ⟨a,k⟩ l).1=c1 at *;generalize vut w ⟨a,k⟩ m=z at *;refine bd Tryz.f17 59 [] [] fun _ _ _ _ hk=>?_;refine bx 3005 ?_;refine ev (wc zpe hco Z Z ?_);refine ev (wc zpf hva Z Z ?_);refine ev ?_;apply sq<;>intro h1 h1p h1s<;>(try simp only[Q] at h1p);refine sqT ?_;focus (refine rn0 (r2 Z Z) (.tup (qee ?_ ?_));all_goals (first|rfl|(simp[h1s,h1p];done)|(simp_all;done)|(simp_all;omega)|omega))
  apply sq<;>intro h3 h3p h3s<;>(try simp only[Q] at h3p);focus (refine rn0 (r2 Z Z) (.tup (qee ?_ ?_));all_goals (first|rfl|(simp[h1s,h1p,h3s,h3p];done)|(simp_all;done)|(simp_all;omega)|omega))
  exfalso;simp_all
 |true=>
  rw[h1] at hco;obtain⟨hv,hc⟩:=zn9 h1;rw[hc] at hco;cases h2:(vut w ⟨a,k⟩ m).2 with
  |false=>
   rw[h2] at hva;rw[zhz (.inr h2)];generalize (vut w ⟨a,k⟩ m).1=z at *;refine bd Tryz.f17 59 [] [] fun _ _ _ _ hk=>?_;refine bx 3005 ?_;refine ev (wc zpe hco Z Z ?_);refine ev (wc zpf hva Z Z ?_);refine ev ?_;apply sq<;>intro h1 h1p h1s<;>(try simp only[Q] at h1p);refine sqT ?_;focus (refine rn0 (r2 Z Z) (.tup (qee ?_ ?_));all_goals (first|rfl|(simp[h1s,h1p];done)|(simp_all;done)|(simp_all;omega)|omega))
   apply sq<;>intro h3 h3p h3s<;>(try simp only[Q] at h3p);focus (refine rn0 (r2 Z Z) (.tup (qee ?_ ?_));all_goals (first|rfl|(simp[h1s,h1p,h3s,h3p];done)|(simp_all;done)|(simp_all;omega)|omega))
   exfalso;simp_all
  |true=>
   rw[h2] at hva;rw[zmj h1 h2];have hrv:=zoV hs hv hok h2;have hvl:(vut w ⟨a,k⟩ m).1.length<=400:=zo5 _ _ _;have hl8:=(zhe hv).2;have hcl:=ziu hv hok;have hrun:=fun(v:Val) (h:RunV l v)=>zj6 (l:=l) (code:=za7 l) (v:=v) (zqf l) od hcl h.vok (n:=(za7 l).length) od h.ok h.val;generalize (vut w ⟨a,k⟩ m).1=vs at *;clear h1 h2 hc;refine bd Tryz.f17 59 [] [] fun _ _ _ _ hk=>?_;refine bx 3005 ?_;refine ev (wc zpe hco Z Z ?_);refine ev (wc zpf hva Z Z ?_);refine ev ?_;apply sq<;>intro h1 h1p h1s<;>(try simp only[Q,xbg,xac] at h1p);refine sqT ?_;exfalso;simp_all;apply sq<;>intro h3 h3p h3s<;>(try simp only[Q,xbg,xac] at h3p);exfalso;simp_all;refine xaD (ι:=List (Val)×List (Val)×(Int)) hk (fun x=>[(42,.d (.i (x.1.length:Int))),(14,.d (.i x.2.2))]) [16,17,18,19,43,44,45,46,47,48,49,50,51,52,53,54,55,56,57] (fun x=>[]) (fun x=>x.1++x.2.1=vs/\x.2.2+zcA l x.2.1=zcA l vs/\(0<=x.2.2/\x.2.2<=x.1.length*1000000)) (fun x=>x.2.1.length) ([],vs,(0:Int)) ⟨by simp,by simp,by simp⟩ ⟨⟨_,Z,xaQ ?_⟩,⟨⟨_,Z,xaQ ?_⟩,I⟩⟩ I (fun x=>rfl) (fun x hg1=>?_);iterate 2 focus (first|rfl|omega|(simp;done))
   obtain⟨pre,rest,acc⟩:=x;dsimp only at hg1 ⊢;refine evc [] [] ?_;apply sq<;>intro h4 h4p h4s<;>(try simp only[Q,xbg,xac] at h4p);rcases rest with _|⟨y,rest⟩
   ·exfalso;simp_all
   refine ixq sl99 Z Z Z (zoh hg1.1) Z (ev (ab 3016 zbM ?_));refine so zb6 ?_;apply tv;refine wc ztD (hrun y (hrv y (by rw[<-hg1.1];simp))) Z Z ?_;refine ev (ar ?_ (by have hy:=(hrv y (by rw[<-hg1.1];simp)).len;have hle:=xam List.length hg1.1;have h9:=hg1.2.2;simp only[xaa,xab] at hle;first|(constructor<;>simp<;>omega)|(constructor<;>omega)));refine ar ?_ (by have hy:=(hrv y (by rw[<-hg1.1];simp)).len;have hle:=xam List.length hg1.1;have h9:=hg1.2.2;simp only[xaa,xab] at hle;first|(constructor<;>simp<;>omega)|(constructor<;>omega));refine xaj ((pre++[y],rest,(acc+((runR l y).2.2.length:Int)))) ⟨⟨(by have hz:=hg1.1;rw[<-hz];simp),⟨by have h9:=hg1.2.1;rw[show zcA l (y::rest)=((runR l y).2.2.length:Int)+zcA l rest from rfl] at h9;show(acc+((runR l y).2.2.length:Int))+zcA l rest=zcA l vs;omega,by have hy:=(hrv y (by rw[<-hg1.1];simp)).len;have h9:=hg1.2.2;simp only[xaa,xab,xak];omega⟩⟩,og,sx ⟨⟨_,Z,xaQ ?_⟩,⟨⟨_,Z,xaQ ?_⟩,I⟩⟩ I⟩;iterate 2 focus (first|rfl|omega|(simp;done))
   have hrest:rest=[]:=by
    rcases rest with _|⟨a,b⟩
    ·rfl
    ·exfalso;have hz:=xam List.length (hg1.1);simp only[xaa,xab,xac] at hz;omega
   subst hrest;refine rn0 (r2 Z Z) (.tup (qee ?_ ?_));rotate_left 2;all_goals (first|rfl|(rw[<-hg1.2.1];simp[zcA];done))
set_option maxHeartbeats 2000000
theorem zgs {w:List Data} (hs:WSmall w){a k m:Int}{l:List Cl} (hok:ClsOk l) (hz:ClsSz l):FnD Tryz.prog 4 [.d (zap w),.agg [.d (.i a),.d (.i k)],.d (zbD l),.d (.i m)] [] (.d (.bool true)) []:=by
 have z:=zbL (left:=1048576) (zk3 w);have hspec:=zjE hs (a:=a) (k:=k) (m:=m) hok hz;have himp:=zjy hs (a:=a) (k:=k) (m:=m) hok;generalize zfV w ⟨a,k⟩ l m=q at hspec himp;refine bd Tryz.f4 68 [56] [] fun _ _ _ _ hk=>?_;refine bx 3005 ?_;refine evs [56] [] (wc ztq (zkY hs od od) Z Z ?_);refine evs [56] [] ?_;apply sq<;>intro h1 h1p h1s<;>(try simp only[Q] at h1p);refine rq ?_;rotate_left;refine wc ztr (zjA hok od od) Z Z ?_;refine evs [56] [] ?_;apply sq<;>intro h2 h2p h2s<;>(try simp only[Q] at h2p);refine rq ?_;rotate_left;refine wc zo8 (zeE hs) Z Z ?_;refine evd [56] [] (wc zo9 ze4 Z Z ?_);refine evd [56] [] (wc zpa (zdU hok) Z Z ?_);refine evd [56] [] (wc zts hspec Z Z ?_);refine evd [56] [] (dr (wc zo8 (zeE hs) Z Z ?_));refine evs [56] [] (wc zpa (zdU hok) Z Z ?_);refine evs [56] [] (wc zo9 ze4 Z Z ?_);refine evs [56] [] (wc ztt himp Z Z ?_);refine evs [56] [] ?_;apply sq<;>intro h3 h3p h3s<;>(try simp only[Q] at h3p);refine sqT ?_;refine rq ?_;rotate_left;refine Walk.neB un4 (.some Z Z h3) Z Z Z (evs [56] [(53,false)] ?_ ⟨⟨_,Z,h3⟩,I⟩);apply sq<;>intro h5 h5p h5s<;>(try simp only[Q] at h5p);refine rq ?_;rotate_left;refine wc zo8 (zeE hs) Z Z ?_;refine wc ztu (zkU hs) Z Z ?_;refine evs [56] [] ?_;apply sq<;>intro h6 h6p h6s<;>(try simp only[Q] at h6p);refine rq ?_;rotate_left;refine wc zpa (zdU hok) Z Z ?_;refine wc ztv (zjz hok) Z Z ?_;refine evs [56] [] ?_;apply sq<;>intro h7 h7p h7s<;>(try simp only[Q] at h7p);refine rq ?_;rotate_left;refine rq ?_;rotate_left;all_goals (first|rfl|(exfalso;simp_all[zkz];done)|(exfalso;simp[zkz] at *;done))
end Go.Proofs.YtmchfdpleibpdaaGreat
namespace Go.Proofs.YtmchfdpleibpdaaGreat
open Go Go.ChangeShapes Go.WideShapes Go.ChangeAt Go.RowKit
set_option linter.unusedSimpArgs false
set_option linter.unusedVariables false
set_option linter.unusedVariables false
def FW (W:World) (b:Nat):Nat:=match W.heap[b]? with
 |some (.cells cs _ _)=>cs.size
 |_=>0
theorem FW_cell {W:World}{b o:Nat}{v:Value} (h:W.cell? ⟨b,o,none⟩=some v):o<FW W b:=by
 unfold World.cell? at h;unfold FW;simp only at h;split at h
 ·rename_i c t fr hb;simp only[hb];simp only[Option.isSome_none,Bool.false_eq_true,if_false] at h;exact(Array.getElem?_eq_some_iff.1 h).1
 ·cases h
theorem FW_top {W:World}{b:Nat} (h:W.heap.size<=b):FW W b=0:=by
 unfold FW;rw[Array.getElem?_eq_none h]
structure RelL (W:World) (xs:List D) (cs:List Value):Prop where
 len:xs.length=cs.length
 rel:∀i (h1:i<xs.length) (h2:i<cs.length),RelD (FW W) W xs[i] cs[i]
theorem RelL.append {W:World}{xs ys:List D}{cs ds:List Value} (h:RelL W xs cs) (k:RelL W ys ds):RelL W (xs++ys) (cs++ds):=by
 refine⟨by simp[h.len,k.len],fun i h1 h2=>?_⟩;by_cases hi:i<xs.length
 ·rw[List.getElem_append_left hi,List.getElem_append_left (by rw[<-h.len];exact hi)];exact h.rel i hi (by rw[<-h.len];exact hi)
 ·have hl:=h.len;rw[List.getElem_append_right od,List.getElem_append_right od];have e:i-xs.length=i-cs.length:=by omega
  have h1':i-xs.length<ys.length:=by simp only[xaa] at h1;omega
  have h2':i-cs.length<ds.length:=by simp only[xaa] at h2;omega
  have:=k.rel (i-xs.length) h1' od;simp only[e] at this ⊢;exact this
def Dec (P:Program) (W:World) (n:Nat) (t:TypeId){α:Type} (f:α->List D) (m:α->Nat) (R:α->Prop):Prop:=
 ∀(H:Type) (enc:TypeId×Value->H) (cs:List Value) (x:DataW H×List MemPlace),DataW.trod enc P W 0 (fun _=>true) true n t cs=some x->
  ∃a,RelL W (f a) cs/\m a+1<=Rows.uptoBulk x.1/\R a
section
variable {P:Program}{W:World}{n:Nat}{t:TypeId}
theorem Dec.zero {α:Type}{f:α->List D}{m:α->Nat}{R:α->Prop}:Dec P W 0 t f m R:=fun H enc cs x h=>by simp[DataW.trod] at h
theorem Dec.map {α β:Type}{f:α->List D}{m:α->Nat}{R:α->Prop}{f':β->List D}{m':β->Nat}{R':β->Prop} (g:α->β) (h:Dec P W n t f m R)
  (h1:∀a,f' (g a)=f a) (h2:∀a,m' (g a)<=m a) (h3:∀a,R a->R' (g a)):Dec P W n t f' m' R':=fun H enc cs x hx=>by
 obtain⟨a,q1,q2,q3⟩:=h H enc cs x hx;exact⟨g a,by rw[h1];exact q1,by have:=h2 a;omega,h3 a q3⟩
theorem RelL.one {x:D}{v:Value} (h:RelD (FW W) W x v):RelL W [x] [v]:=
 ⟨rfl,fun i h1 h2=>by
  have:i=0:=by simp at h1;omega
  subst this;exact h⟩
theorem Dec.int {k:IntKind} (ht:P.underlying t=some (.int k)):Dec P W n t (fun z:Int=>[.int k z]) (fun _=>0) (fun z=>(Lit.int k z).wf=true):=fun H enc cs x h=>by
 obtain⟨z,rfl,rfl,hw⟩:=DataW.trod_int ht h;exact⟨z,.one (.int k z),by simp[Rows.uptoBulk],hw⟩
theorem Dec.bool (ht:P.underlying t=some .bool):Dec P W n t (fun z:Bool=>[.bool z]) (fun _=>0) (fun _=>True):=fun H enc cs x h=>by
 obtain⟨z,rfl,rfl⟩:=DataW.trod_bool ht h;exact⟨z,.one (.bool z),by simp[Rows.uptoBulk],trivial⟩
theorem Dec.str (ht:P.underlying t=some .string):Dec P W n t (fun s:Str=>[.str s]) (fun s=>s.length) (fun _=>True):=fun H enc cs x h=>by
 obtain⟨s,rfl,rfl,hw⟩:=DataW.trod_string ht h;exact⟨s.data.toList,.one (by have:=RelD.str (F:=FW W) (w:=W) s.data.toList;simpa using this),by simp[Rows.uptoBulk],trivial⟩
def sumM {α:Type} (m:α->Nat):List α->Nat
 | []=>0
 |a::r=>m a+1+sumM m r
theorem zgy {α:Type} (m:α->Nat):∀l:List α,l.length<=sumM m l
 | []=>by simp[sumM]
 |a::r=>by have:=zgy m r;simp only[sumM,xab];omega
theorem zfd {α:Type}{m:α->Nat}:∀ {l:List α}{a:α},a∈l->m a+1<=sumM m l
 |b::r,a,h=>by
  simp only[sumM];rcases List.mem_cons.1 h with rfl|h
  ·omega
  ·have:=zfd (m:=m) h;omega
theorem zjI {α β:Type}{Q:Nat->α->β->Prop}:∀(l:List β) (o:Nat),(∀i (h:i<l.length),∃a,Q (o+i) a l[i])->∃zs:List α,zs.length=l.length/\∀i (h:i<l.length) (h':i<zs.length),Q (o+i) zs[i] l[i]
 | [],o,_=>⟨[],rfl,fun i h=>by simp at h⟩
 |b::r,o,h=>by
  obtain⟨a,ha⟩:=h 0 og;obtain⟨zs,h1,h2⟩:=zjI (Q:=Q) r (o+1) (fun i hi=>by
   have:=h (i+1) ot;rw[show o+1+i=o+(i+1) by omega];simpa using this)
  refine⟨a::zs,by simp[h1],fun i hi hi'=>?_⟩;cases i with
  |zero=>exact ha
  |succ i=>
   have:=h2 i (by simpa using hi) (by simpa using hi');rw[show o+1+i=o+(i+1) by omega] at this;simpa using this
theorem zng {H α:Type}{m:α->Nat}:∀ {zs:List α}{xs:List (DataW H)},zs.length=xs.length->(∀i (h:i<zs.length) (h':i<xs.length),m zs[i]+1<=Rows.uptoBulk xs[i])->sumM m zs<=Rows.uptoBulkAll xs
 | [],[],_,_=>by simp[sumM,Rows.uptoBulkAll]
 |a::zs,x::xs,hl,h=>by
  have h0:=h 0 og og;have ih:=zng (m:=m) (zs:=zs) (xs:=xs) (by simpa using hl) (fun i h1 h2=>by
   have:=h (i+1) ot ot;simpa using this)
  simp only[sumM,Rows.uptoBulkAll];simp only[List.getElem_cons_zero] at h0;omega
 | [],_::_,hl,_=>by simp at hl
 |_::_,[],hl,_=>by simp at hl
theorem Dec.sl {α:Type}{f:α->List D}{m:α->Nat}{R:α->Prop}{e:TypeId}{k:Nat} (ht:P.underlying t=some (.slice e)) (hc:P.cellsOf e=k+1) (hk:∀a,(f a).length=k+1) (he:Dec P W n e f m R):
  Dec P W (n+1) t (fun l:List α=>[.sl (l.map f)]) (fun l=>sumM m l) (fun l=>∀a∈l,R a):=fun H enc cs x h=>by
 rcases DataW.trod_slice ht h with ⟨rfl,rfl⟩|⟨a,len,cap,elems,rest,n',hn,rfl,rfl,_,hcap,_,hlen,hel,_,_⟩
 ·exact⟨[],.one .nil,by simp[sumM,Rows.uptoBulk],fun a h=>by simp at h⟩
 obtain rfl:n=n':=by omega
 have each:∀i (hi:i<elems.length),∃y,(∃cs,W.cells? 0 (a.add (i*(k+1))) (k+1)=some cs/\RelL W (f y) cs)/\m y+1<=Rows.uptoBulk (elems[i]).1/\R y:=by
  intro i hi;have:=hel i od;rw[hc,xan hi,Option.bind_eq_some_iff] at this;obtain⟨cs,h1,h2⟩:=this;obtain⟨y,h3,h4,h5⟩:=he H enc cs _ h2;exact⟨y,⟨cs,h1,h3⟩,h4,h5⟩
 obtain⟨zs,hal,has⟩:=zjI (Q:=fun i y (el:DataW H×List MemPlace)=>(∃cs,W.cells? 0 (a.add (i*(k+1))) (k+1)=some cs/\RelL W (f y) cs)/\m y+1<=Rows.uptoBulk el.1/\R y) elems 0 (fun i hi=>by simpa using each i hi);refine⟨zs,.one ?_, ?_,fun y hy=>?_⟩
 ·by_cases h0:zs=[]
  ·subst h0;have hz:len=0:=by simp at hal;omega
   subst hz;obtain⟨b,o,s⟩:=a;cases s with
   |none=>exact .sl [] 0 b o cap (fun _=>undef) og og (fun n hn=>by simp at hn) (fun i hi=>by simp at hi)
   |some s=>exact .emp b o s cap
  ·have hpos:0<zs.length:=List.length_pos_iff.2 h0;obtain⟨⟨cs0,hc0,hr0⟩,_⟩:=has 0 od hpos;have hspot:a.spot=none:=by
    have h1:=(World.cells?_some hc0).2.2 0 od;have h2:0<cs0.length:=by have:=(World.cells?_some hc0).2.1;omega
    simp only[Nat.add_zero,Nat.zero_mul,Addr.add,if_true,xan h2] at h1;unfold World.cell? at h1;split at h1
    ·cases hs:a.spot with
     |none=>rfl
     |some s=>simp[hs] at h1
    ·cases h1
   obtain⟨b,o,s⟩:=a;simp only at hspot;subst hspot;have hlen':(zs.map f).length=len:=by simp;omega
   have hmulk:∀i j,i<zs.length->j<k+1->i*(k+1)+j<zs.length*(k+1):=fun i j hi hj=>by
    have:(i+1)*(k+1)<=zs.length*(k+1):=xav _ od;rw[Nat.add_mul,Nat.one_mul] at this;omega
   have cellAt:∀i (hi:i<zs.length) j (hj:j<(f zs[i]).length),∃v,W.cell? ⟨b,o+(i*(k+1)+j),none⟩=some v/\RelD (FW W) W ((f zs[i])[j]) v:=fun i hi j hj=>by
    obtain⟨⟨cs,hc1,hr1⟩,_⟩:=has i od hi;have hjk:j<k+1:=by have:=hk zs[i];omega
    obtain⟨_,q1,q2⟩:=World.cells?_some hc1;have q3:=q2 j hjk;rw[xan od] at q3;refine⟨cs[j], ?_,hr1.rel j hj od⟩;rw[<-q3];congr 1
    simp only[Nat.zero_add,Addr.add];split<;>split<;>simp_all<;>omega
   have hv:((zs.map f).length,cap)=(len,cap):=by rw[hlen']
   have goal:RelD (FW W) W (.sl (zs.map f)) (.slice (some ⟨b,o,none⟩) (zs.map f).length cap):=by
    refine .sl _ (k+1) b o cap (fun q=>(W.cell? ⟨b,o+q,none⟩).getD undef) (fun y hy=>?_) od (fun q hq=>?_) (fun i hi j hj=>?_)
    ·obtain⟨y',_,rfl⟩:=List.mem_map.1 hy;exact hk y'
    ·have hq':q<zs.length*(k+1):=by simpa using hq
     have hi:q / (k+1)<zs.length:=Nat.div_lt_of_lt_mul (by rw[Nat.mul_comm];exact hq');have hj:q % (k+1)<k+1:=Nat.mod_lt _ od;obtain⟨v,h1,_⟩:=cellAt _ hi (q % (k+1)) (by rw[hk];exact hj);rw[Nat.div_add_mod'] at h1;exact⟨FW_cell h1,by rw[h1];rfl⟩
    ·have hi':i<zs.length:=by simpa using hi
     simp only[List.getElem_map] at hj ⊢;obtain⟨v,h1,h2⟩:=cellAt i hi' j hj;show RelD (FW W) W _ ((W.cell? ⟨b,o+(i*(k+1)+j),none⟩).getD undef)
     rw[h1];exact h2
   rw[hlen'] at goal;exact goal
 ·have:=zng (m:=m) (zs:=zs) (xs:=elems.map (·.1)) (by simp[hal]) (fun i h1 h2=>by
   have:=(has i (by simpa using h2) h1).2.1;simpa using this)
  simp only[Rows.uptoBulk];omega
 ·obtain⟨i,hi,rfl⟩:=List.getElem_of_mem hy;exact(has i od hi).2.2
def DecF (P:Program) (W:World) (n o K:Nat) (fs:List Field){α:Type} (f:α->List D) (m:α->Nat) (R:α->Prop):Prop:=
 ∀(H:Type) (enc:TypeId×Value->H) (cs:List Value) (xs:List (DataW H×List MemPlace)),cs.length=K->xs.length=fs.length->
  (∀(i:Nat) (fd:Field),fs[i]?=some fd->DataW.trod enc P W 0 (fun _=>true) true n fd.type ((cs.drop fd.offset).take (P.cellsOf fd.type))=xs[i]?)->
  ∃a,RelL W (f a) (cs.drop o)/\m a<=Rows.uptoBulkAll (xs.map (·.1))/\R a
theorem DecF.nil {K:Nat}:DecF P W n K K [] (fun _:Unit=>[]) (fun _=>0) (fun _=>True):=fun H enc cs xs h1 h2 _=>
 ⟨(),by rw[List.drop_of_length_le od];exact⟨rfl,fun i h=>by simp at h⟩,by simp,trivial⟩
theorem DecF.cons {α β:Type}{f:α->List D}{m:α->Nat}{R:α->Prop}{f2:β->List D}{m2:β->Nat}{R2:β->Prop}{o K k:Nat}{fd:Field}{fs:List Field}
  (h1:Dec P W n fd.type f m R) (ho:fd.offset=o) (hc:P.cellsOf fd.type=k) (h2:DecF P W n (o+k) K fs f2 m2 R2):
  DecF P W n o K (fd::fs) (fun p:α×β=>f p.1++f2 p.2) (fun p=>m p.1+1+m2 p.2) (fun p=>R p.1/\R2 p.2):=fun H enc cs xs hK hl hx=>by
 cases xs with
 |nil=>simp at hl
 |cons y ys=>
  have h0:=hx 0 fd og;simp only[List.getElem?_cons_zero] at h0;rw[ho,hc] at h0;obtain⟨a,q1,q2,q3⟩:=h1 H enc _ _ h0;obtain⟨b,r1,r2,r3⟩:=h2 H enc cs ys hK (by simpa using hl) (fun i fd' hi=>by
   have:=hx (i+1) fd' (by simpa using hi);simpa using this)
  refine⟨(a,b), ?_, ?_,q3,r3⟩
  ·have:cs.drop o=(cs.drop o).take k++cs.drop (o+k):=by
    rw[<-List.drop_drop,List.take_append_drop]
   rw[this];exact q1.append r1
  ·simp only[xaf,Rows.uptoBulkAll];omega
theorem Dec.struct {α:Type}{f:α->List D}{m:α->Nat}{R:α->Prop}{fs:Array Field} (ht:P.underlying t=some (.struct fs)){K:Nat} (hK:P.cellsOf t=K) (h:DecF P W n 0 K fs.toList f m R):
  Dec P W (n+1) t f m R:=fun H enc cs x hx=>by
 obtain⟨xs,n',hn,rfl,hl,hxl,hf⟩:=DataW.trod_struct ht hx;obtain rfl:n=n':=by omega
 obtain⟨a,q1,q2,q3⟩:=h H enc cs xs od (by simpa using hxl) (fun i fd hi=>hf i fd (by simpa using hi));refine⟨a,by simpa using q1, ?_,q3⟩;simp only[Rows.uptoBulk];omega
end
section
variable {P:Program}{W:World}{base:Nat}{t:TypeId}{v:Value}{H:Type}{enc:TypeId×Value->H}{d:DataW H}{ps:List MemPlace}
theorem zpQ {α:Type}{e:TypeId}{f:α->List D}{m:α->Nat}{R:α->Prop}{k:Nat} (ht:P.underlying t=some (.slice e)) (hc:P.cellsOf e=k+1) (hk:∀a,(f a).length=k+1) (hd:∀n,Dec P W n e f m R)
  (hval:Value.okWide P W .any base t v) (h:DataW.Trod enc P W 0 (fun _=>true) true t v d ps):
  ∃l:List α,(∀G T,G.F=FW W->RelA G T W (.d (.sl (l.map f))) v)/\sumM m l+1<=Rows.uptoBulk d/\∀a∈l,R a:=by
 obtain⟨n,hn⟩:=h;cases n with
 |zero=>simp[DataW.trod] at hn
 |succ n=>
  obtain⟨l,h1,h2,h3⟩:=Dec.sl ht hc hk (hd n) H enc _ _ hn;have hcells:v.cells.toList=[v]:=by
   cases v with
   |agg cs=>simp only[Value.okWide,ht,Cell.okWide,Cell.ok] at hval
   |_=>rfl
  rw[hcells] at h1;exact⟨l,fun G T hG=> .d (by rw[hG];simpa using h1.rel 0 og og),h2,h3⟩
theorem zsc {k:IntKind} (ht:P.underlying t=some (.int k)) (hval:Value.okWide P W .any base t v) (h:DataW.Trod enc P W 0 (fun _=>true) true t v d ps):
  ∃n:Int,(∀G T,G.F=FW W->RelA G T W (.d (.int k n)) v)/\(Lit.int k n).wf=true:=by
 obtain⟨n,hn⟩:=h;obtain⟨s,h1,h2,h3⟩:=Dec.int ht H enc _ _ hn;have hcells:v.cells.toList=[v]:=by
  cases v with
  |agg cs=>simp only[Value.okWide,ht,Cell.okWide,Cell.ok] at hval
  |_=>rfl
 rw[hcells] at h1;exact⟨s,fun G T hG=> .d (by rw[hG];simpa using h1.rel 0 og og),h3⟩
theorem zo7 {α:Type}{f:α->List D}{m:α->Nat}{R:α->Prop}{fs:Array Field} (ht:P.underlying t=some (.struct fs)) (hd:∀n,Dec P W n t f m R)
  (hval:Value.okWide P W .any base t v) (h:DataW.Trod enc P W 0 (fun _=>true) true t v d ps):
  ∃a:α,(∀G T,G.F=FW W->RelA G T W (.agg ((f a).map .d)) v)/\m a+1<=Rows.uptoBulk d/\R a:=by
 obtain⟨n,hn⟩:=h;obtain⟨a,h1,h2,h3⟩:=hd n H enc _ _ hn;simp only[Value.okWide,ht] at hval;obtain⟨cs,rfl,_,_⟩:=hval;refine⟨a,fun G T hG=> .agg (by have:=h1.len;simp[Value.cells] at this ⊢;omega) (fun i hi hv=>?_),h2,h3⟩;have hi':i<(f a).length:=by simpa using hi
 have:=h1.rel i hi' (by simpa [Value.cells] using hv);simp only[List.getElem_map];exact .d (by rw[hG];simpa [Value.cells] using this)
end
section
variable {P:Program}{H:Type}{enc:TypeId×Value->H}
theorem zid (hl:laidOutB P=true){W W':World} (hb:Below W.heap.size W W'):∀ {ts:List TypeId}{vs:List Value}{ds:List (DataW H)}{ps:List MemPlace},
  (∀t∈ts,P.readableRec t=true/\t<P.types.size)->DataW.TrodAll enc P W 0 (fun _=>true) true ts vs ds ps->(∀x∈ps,x.block<W.heap.size)->
  DataW.TrodAll enc P W' 0 (fun b=>decide (b<W.heap.size)) true ts vs ds ps
 | [],[],[],ps,_,h,_=>h
 |t::ts,v::vs,d::ds,ps,hr,h,hlt=>by
  obtain⟨p,q,h1,h2,rfl⟩:=h;exact⟨p,q,Below.trod hl (hr t og).1 (hr t og).2 h1 hb (fun x hx=>hlt x (by simp[hx])),
   zid hl hb (fun t ht=>hr t (by simp[ht])) h2 (fun x hx=>hlt x (by simp[hx])),rfl⟩
theorem zrm {f:Func}{s:ChangeSpec}{W W':World}{args:Array Value}{ds gs:List (DataW H)}{before:List MemPlace}{tb:TypeId}
  (hW:DataW.Whole enc P f.params.toList s.vars false W args.toList ds gs before) (hvars:s.vars=[]) (hrt:f.resultTypes = #[tb]) (htb:P.underlying tb=some .bool)
  (hs:s.fn H (ds++gs)={ results:=[.lit (.bool true)],args:=ds }) (hl:laidOutB P=true) (hr:∀t∈f.params.toList,P.readableRec t=true/\t<P.types.size)
  (hb:Below W.heap.size W W'):s.post enc P f false true false false W args (.bool true) W':=by
 have hlt:∀p∈before,p.block<W.heap.size:=fun p hp=>hW.lt p hp;have hW0:=hW;obtain⟨p,q,hA,hV,rfl,hfz,_⟩:=hW;rw[hvars] at hV;cases gs with
 |cons g gs=>exact hV.elim
 |nil=>
  have hq:q=[]:=hV;subst hq;simp only[xaq] at *;refine⟨ds,[],p,[],p,[],by simpa [hvars] using hW0, ?_, ?_, ?_,World.keptBut_mono (fun x hx=>⟨hx,.inr (.inl hx)⟩) (hb.frame (·∈p)),fun h=>by cases h⟩
  ·simp only[xaq,hs,hrt];exact trodAll_cons_mk (shut_bool htb _) trodAll_mk0
  ·simp only[xaq,hs];exact zid hl hb hr hA hlt
  ·simp only[hvars,xaq,hs];rfl
theorem zqx {f:FuncId}{avs:List AV}{W:World}{args:Array Value}{r:AV} (hf:FnD P f avs [] r [])
  (hargs:∀G T,G.F=FW W->AllR G T W avs args):Calls P f args W fun e W'=>∃v G',e = .returned v/\RelA G' (fun _=>none) W' r v/\Below W.heap.size W W':=by
 let G:Gh:={ F:=FW W,loc:=fun _=>[] }
 refine(hf G W args ⟨hargs G _ rfl,fun id r h=>(by simp[getH] at h),fun id id' h=>(by simp[getH] at h),fun b hb=>FW_top hb⟩).mono ?_;rintro e W' ⟨v,r',hp',G',rfl,⟨rfl,rfl⟩,h⟩
 exact⟨v,G',rfl,h.res,⟨h.frm.os,h.frm.tape,h.frm.output,h.frm.size,fun b hb=>(h.frm.block b hb (by simp[zbE])).1⟩⟩
theorem RelA.bool_true {G:Gh}{T:TokF}{w:World}{v:Value} (h:RelA G T w (.d (.bool true)) v):v = .bool true:=by
 cases h with|d h=>cases h;rfl
theorem zq4 {H:Type}{l:List (DataW H)} (hk:Rows.uptoSmall H l=true):Rows.uptoBulkAll l<=1048576:=xas hk
end
set_option maxRecDepth 100000
theorem zdv (W:World) (n:Nat):Dec Tryz.prog W n 3 (fun z:Int=>[.i z]) (fun _=>0) (fun _=>True):=Dec.map (f:=fun z:Int=>[D.i z]) (R:=fun z=>(Lit.int .i64 z).wf=true) id (Dec.int Tryz.underlying3) (fun _=>rfl) (fun _=>Nat.le_refl _) (fun _ _=>trivial)
theorem zqi (W:World) (n:Nat):Dec Tryz.prog W n 9 (fun s:Str=>[.str s]) (fun s=>s.length) (fun _=>True):=Dec.str Tryz.underlying9
theorem zrW (W:World):∀n,Dec Tryz.prog W n 43 Ty.c (fun _=>0) (fun _=>True)
 |0=>Dec.zero
 |n+1=>Dec.map (fun p:Int×Int×Unit=>(⟨p.1,p.2.1⟩:Ty)) (Dec.struct Tryz.underlying43 oi (DecF.cons (k:=1) (zdv W n) rfl oi (DecF.cons (k:=1) (zdv W n) rfl oi DecF.nil))) (fun _=>rfl) (fun _=>Nat.zero_le _) (fun _ _=>trivial)
theorem zte (W:World):∀n,Dec Tryz.prog W n 221 (fun l:List Ty=>[zbn l]) (fun l=>l.length) (fun _=>True)
 |0=>Dec.zero
 |n+1=>Dec.map id (Dec.sl (k:=1) Tryz.underlying221 oi (fun _=>rfl) (zrW W n)) (fun _=>rfl) (fun l=>zgy _ l) (fun _ _=>trivial)
def zht (c:Ctor):Nat:=c.name.length+c.args.length
theorem zsk (W:World):∀n,Dec Tryz.prog W n 223 Ctor.c zht (fun _=>True)
 |0=>Dec.zero
 |n+1=>Dec.map (fun p:Str×List Ty×Int×Unit=>(⟨p.1,p.2.1,p.2.2.1⟩:Ctor)) (Dec.struct Tryz.underlying223 oi (DecF.cons (k:=1) (zqi W n) rfl oi (DecF.cons (k:=1) (zte W n) rfl oi (DecF.cons (k:=1) (zdv W n) rfl oi DecF.nil))))
   (fun _=>rfl) (fun p=>by simp only[zht];omega) (fun _ _=>trivial)
theorem zrd (W:World):∀n,Dec Tryz.prog W n 86 (fun l:List Ctor=>[zce l]) (fun l=>sumM zht l) (fun _=>True)
 |0=>Dec.zero
 |n+1=>Dec.map id (Dec.sl (k:=2) Tryz.underlying86 oi (fun _=>rfl) (zsk W n)) (fun _=>rfl) (fun l=>Nat.le_refl _) (fun _ _=>trivial)
def zgC (d:Data):Nat:=d.name.length+sumM zht d.ctors
theorem zsl (W:World):∀n,Dec Tryz.prog W n 88 Data.c zgC (fun _=>True)
 |0=>Dec.zero
 |n+1=>Dec.map (fun p:Str×List Ctor×Unit=>(⟨p.1,p.2.1⟩:Data)) (Dec.struct Tryz.underlying88 oi (DecF.cons (k:=1) (zqi W n) rfl oi (DecF.cons (k:=1) (zrd W n) rfl oi DecF.nil)))
   (fun _=>rfl) (fun p=>by simp only[zgC];omega) (fun _ _=>trivial)
theorem zq0 {w:List Data}{N:Nat} (h:sumM zgC w+1<=N) (hN:N<=1048576):WSmall w:=by
 refine⟨by have:=zgy zgC w;omega,fun d hd=>?_,fun d hd c hc=>?_⟩
 ·have h1:=zfd (m:=zgC) hd;have h2:=zgy zht d.ctors;simp only[zgC] at h1;omega
 ·have h1:=zfd (m:=zgC) hd;have h2:=zfd (m:=zht) hc;simp only[zgC] at h1;simp only[zht] at h2;omega
theorem ztd (W:World):∀n,Dec Tryz.prog W n 92 Pat.cc (fun v=>Pats.size v.kids) (fun _=>True):=by
 intro n;induction n using Nat.strongRecOn with
 |_ n ih=>
  cases n with
  |zero=>exact Dec.zero
  |succ n=>
   have hk:Dec Tryz.prog W n 90 (fun l:List Pat=>[.sl (l.map Pat.cc)]) (fun l=>Pats.size l) (fun _=>True):=by
    cases n with
    |zero=>exact Dec.zero
    |succ n=>
     refine Dec.map id (Dec.sl (k:=5) Tryz.underlying90 oi (fun _=>rfl) (ih n od)) (fun _=>rfl) (fun l=>?_) (fun _ _=>trivial);have:∀l:List Pat,Pats.size l<=sumM (fun v=>Pats.size v.kids) l:=by
      intro l;induction l with
      |nil=>simp[Pats.size,sumM]
      |cons a r ih2=>simp only[Pats.size,sumM,xaZ];omega
     exact this l
   refine Dec.map (fun p:Int×Int×Int×Int×Int×List Pat×Unit=>Pat.mk p.1 p.2.1 p.2.2.1 p.2.2.2.1 p.2.2.2.2.1 p.2.2.2.2.2.1) (Dec.struct Tryz.underlying92 oi (DecF.cons (k:=1) (zdv W n) Z oi (DecF.cons (k:=1) (zdv W n) Z oi (DecF.cons (k:=1) (zdv W n) Z oi (DecF.cons (k:=1) (zdv W n) Z oi (DecF.cons (k:=1) (zdv W n) Z oi (DecF.cons (k:=1) hk Z oi DecF.nil))))))) (fun p=>?_) (fun p=>?_) (fun _ _=>trivial)
   ·show [D.i _,D.i _,D.i _,D.i _,D.i _,D.sl (Pat.cs _)]=_
    rw[show Pat.cs (Pat.mk p.1 p.2.1 p.2.2.1 p.2.2.2.1 p.2.2.2.2.1 p.2.2.2.2.2.1).kids=p.2.2.2.2.2.1.map Pat.cc by rw[xaV];exact List.map_congr_left (fun v _=>xaS v)];rfl
   ·show Pats.size p.2.2.2.2.2.1<=0+1+(0+1+(0+1+(0+1+(0+1+(Pats.size p.2.2.2.2.2.1+1+0)))))
    omega
theorem Pats.ok_size:∀(n:Nat) (l:List Pat),Pats.size l<=n->n<=1048576->l.length<=1048576/\Pats.ok l:=by
 intro n;induction n with
 |zero=>
  intro l h hn;cases l with
  |nil=>exact⟨by simp,trivial⟩
  |cons x r=>simp only[Pats.size,xaZ] at h;omega
 |succ n ih=>
  intro l;induction l with
  |nil=>intro _ _;exact⟨by simp,trivial⟩
  |cons x r ihr=>
   intro h hn;simp only[Pats.size] at h;have hx:=xaZ x;have h1:=ih x.kids od od;have h2:=ih r od od;refine⟨?_,(xaY x).2 ⟨by have:=h1.1;omega,h1.2⟩,h2.2⟩;have:∀l:List Pat,l.length<=Pats.size l:=by
    intro l;induction l with
    |nil=>simp
    |cons y s ihs=>simp only[Pats.size,xab,xaZ];omega
   have:=this r;simp only[xab];omega
theorem zqF {v:Pat} (h:Pats.size v.kids<=1048576):v.ok:=by
 have:=Pats.ok_size _ _ (Nat.le_refl _) h;exact(xaY v).2 ⟨by omega,this.2⟩
def bCl (c:Cl):Nat:=Pats.size c.pat.kids
theorem zt1 (W:World):∀n,Dec Tryz.prog W n 93 (fun g:Gd=>[.i g.op,.i g.var,.i g.n]) (fun _=>0) (fun _=>True)
 |0=>Dec.zero
 |n+1=>Dec.map (fun p:Int×Int×Int×Unit=>(⟨p.1,p.2.1,p.2.2.1⟩:Gd)) (Dec.struct Tryz.underlying93 oi (DecF.cons (k:=1) (zdv W n) rfl oi (DecF.cons (k:=1) (zdv W n) rfl oi (DecF.cons (k:=1) (zdv W n) rfl oi DecF.nil)))) (fun _=>rfl) (fun _=>Nat.zero_le _) (fun _ _=>trivial)
theorem zt0 (W:World):∀n,Dec Tryz.prog W n 95 Cl.c bCl (fun _=>True)
 |0=>Dec.zero
 |n+1=>Dec.map (fun p:Pat×Gd×Unit=>(⟨p.1,p.2.1⟩:Cl)) (Dec.struct Tryz.underlying95 oi (DecF.cons (k:=6) (ztd W n) rfl oi (DecF.cons (k:=3) (zt1 W n) rfl oi DecF.nil))) (fun _=>rfl) (fun p=>by simp only[bCl];omega) (fun _ _=>trivial)
theorem zqb {l:List Cl} (h:sumM bCl l<=1048576):ClsOk l/\ClsSz l:=by
 refine⟨⟨by have:=zgy bCl l;omega,fun c hc=>?_⟩,fun c hc=>?_⟩
 ·have h1:=zfd (m:=bCl) hc;simp only[bCl] at h1;exact zqF od
 ·have h1:=zfd (m:=bCl) hc;simp only[bCl] at h1;rw[xaZ];omega
end Go.Proofs.YtmchfdpleibpdaaGreat
namespace Go.Proofs.YtmchfdpleibpdaaGreat.fnExactStepsCost
open Go Go.ChangeShapes Go.WideShapes Go.ChangeAt Go.RowKit
set_option linter.unusedSimpArgs false
set_option linter.unusedVariables false
theorem own:ownKnob Tryz.prog.godebug=none:=by kernel_rfl
theorem laidOut:laidOutB Tryz.prog=true:=by kernel_rfl
set_option maxRecDepth 100000 in
theorem contract (H:Type) (enc:TypeId×Value→H) (W:World) (base:Nat) (args:Array Value) (ds gs:List (DataW H)) (before:List MemPlace)
  (hval:∀(j:Nat) t v,Tryz.f4.params[j]?=some t→args[j]?=some v→Value.okWide Tryz.prog W .any base t v)
  (hW:DataW.Whole enc Tryz.prog Tryz.f4.params.toList Rows.fnExactStepsCostSpec.vars false W args.toList ds gs before) (hk:Rows.uptoSmall H (ds++gs)=true):
  Calls Tryz.prog 4 args W fun e W'=>∃v,e = .returned v∧Rows.fnExactStepsCostSpec.post enc Tryz.prog Tryz.f4 false true false false W args v W':=by
 have hb:=zq4 hk
 have hW':=hW
 obtain⟨p,q,hA0,hV,rfl,hfz,hnd⟩:=hW
 have hA:DataW.TrodAll enc Tryz.prog W 0 (fun _=>true) true Tryz.f4.params.toList args.toList ds p:=hA0
 rw[Tryz.params4] at hA hval
 obtain⟨v0,vs0,d0,ds0,p0,q0,hargs,rfl,rfl,h0,r0⟩:=trodAll_cons hA
 obtain⟨v1,vs1,d1,ds1,p1,q1,rfl,rfl,rfl,h1,r1⟩:=trodAll_cons r0
 obtain⟨v2,vs2,d2,ds2,p2,q2,rfl,rfl,rfl,h2,r2⟩:=trodAll_cons r1
 obtain⟨v3,vs3,d3,ds3,p3,q3,rfl,rfl,rfl,h3,r3⟩:=trodAll_cons r2
 obtain⟨rfl,rfl,rfl⟩:=trodAll_nil r3
 obtain rfl:args = #[v0,v1,v2,v3]:=by cases args;simp_all
 obtain⟨rfl,rfl⟩:=trodVars_none hV
 simp only[xaq,Rows.uptoBulkAll] at hb
 obtain⟨w,a0,b0,_⟩:=zpQ (k:=1) Tryz.underlying42 (by kernel_rfl) (fun _=>rfl) (zsl W) (hval 0 _ v0 rfl rfl) h0
 obtain⟨t,a1,b1,_⟩:=zo7 Tryz.underlying43 (zrW W) (hval 1 _ v1 rfl rfl) h1
 obtain⟨l,a2,b2,_⟩:=zpQ (k:=8) Tryz.underlying44 (by kernel_rfl) (fun _=>rfl) (zt0 W) (hval 2 _ v2 rfl rfl) h2
 obtain⟨i,a3,c3⟩:=zsc Tryz.underlying3 (hval 3 _ v3 rfl rfl) h3
 have hs:WSmall w:=zq0 b0 (by omega)
 obtain⟨ok_l,sz_l⟩:=zqb (l:=l) (by omega)
 refine(zqx ((zgs hs (a:=t.data) (k:=t.index) (m:=i) ok_l sz_l)) (W:=W) (args:=#[v0,v1,v2,v3]) (fun G T hG=>⟨rfl,fun i hi hv=>?_⟩)).mono ?_
 ·match i,hi with
  |0,_=>exact a0 G T hG
  |1,_=>exact a1 G T hG
  |2,_=>exact a2 G T hG
  |3,_=>exact a3 G T hG
 ·rintro e W' ⟨v,G',rfl,hr,hbelow⟩
  obtain rfl:=hr.bool_true
  exact⟨_,rfl,zrm hW' rfl rfl Tryz.underlying4 rfl laidOut (fun t ht=>by
   simp only[Tryz.params4,List.mem_cons,xau,or_false] at ht
   rcases ht with rfl|rfl|rfl|rfl<;>exact⟨by kernel_rfl,xas (by kernel_rfl)⟩) hbelow⟩
set_option maxRecDepth 100000 in
theorem lifted (os:Os) (started:os.Started) (H:Type) (enc:TypeId×Value→H) (F:Stop.Interp):
  ReturnsInHanded {} Tryz.checked os 4 .any ((Rows.OpenSpec.upto Rows.fnExactStepsCostSpec).pre6 enc Tryz.prog Tryz.f4 Rows.fnExactStepsCostUptoRow.domain false) (((Rows.OpenSpec.upto Rows.fnExactStepsCostSpec).at F).post enc Tryz.prog Tryz.f4 false true false false):=by
 refine returnsInHanded_of_cond (C:=Tryz.checked) (s:=Rows.OpenSpec.upto Rows.fnExactStepsCostSpec) (k:=Rows.uptoSmall) rfl own started (by kernel_rfl) Tryz.func4
  (OpenSpec.witness (enc:=enc) (C:=Tryz.checked) (s:=Rows.OpenSpec.upto Rows.fnExactStepsCostSpec) (k:=Rows.uptoSmall) rfl false ⟨#[],#[.slice none 0 0,.agg #[.int .i64 0,.int .i64 0],.slice none 0 0,.int .i64 0],[]⟩ 8 (by kernel_rfl) (by kernel_rfl) (by kernel_rfl)
   (x:=([.nil,.agg [.lit (.int .i64 0),.lit (.int .i64 0)],.nil,.lit (.int .i64 0)],[],[])) (by kernel_rfl) rfl (by kernel_rfl)) ?_
 intro W base args ds gs before hval hW _ hk _
 exact contract H enc W base args ds gs before hval hW hk
theorem kf1:(Rows.fnExactStepsCostUptoRow.inPlace == Tryz.pinned.checked.prog.inPlace 4)=true:=by kernel_rfl
theorem kf2:(Rows.fnExactStepsCostUptoRow.unfollowed == Tryz.pinned.checked.prog.unfollowed 4)=true:=by kernel_rfl
theorem kf3:(Rows.fnExactStepsCostUptoRow.recurses == Tryz.pinned.checked.prog.recurses 4)=true:=by kernel_rfl
theorem kf4:(Rows.fnExactStepsCostUptoRow.named == Tryz.pinned.checked.prog.varsNamed 4)=true:=by kernel_rfl
theorem kf5:laidOutB Tryz.pinned.checked.prog=true:=by kernel_rfl
theorem kf6:mapsRowed Tryz.pinned.checked.prog=true:=by kernel_rfl
theorem kf7:Tryz.pinned.checked.prog.stopsHeard=true:=by kernel_rfl
theorem kf8:Tryz.pinned.checked.prog.mayEnter=true:=by kernel_rfl
theorem kf9:(Rows.fnExactStepsCostUptoRow.lifted == Tryz.pinned.checked.prog.liftsFinal)=true:=by kernel_rfl
theorem kf0:(Rows.fnExactStepsCostUptoRow.plainKeys == Tryz.pinned.checked.prog.plainKeys)=true:=by kernel_rfl
theorem facts:joinedFacts Tryz.pinned.checked.prog 4 Tryz.f4 (Rows.OpenSpec.upto Rows.fnExactStepsCostSpec).bare Rows.fnExactStepsCostUptoRow=true:=by
 unfold joinedFacts
 rw[kf1,kf2,kf3,kf4,kf5,kf6,kf7,kf8,kf9,kf0]
 kernel_rfl
theorem named:Tryz.pinned.checked.prog.funcNamed Rows.fnExactStepsCostUptoRow.func=some 4:=by kernel_rfl
theorem over:Rows.fnExactStepsCostUptoRow.holds Tryz.pinned (Rows.OpenSpec.upto Rows.fnExactStepsCostSpec):=
 OpenClaim.holds_of_cond 4 Tryz.f4 rfl rfl rfl rfl rfl rfl rfl ⟨rfl,rfl,rfl,rfl,rfl⟩ rfl rfl rfl rfl rfl named Tryz.func4 facts
  (xas (by as_aux_lemma=>kernel_rfl)) (by as_aux_lemma=>unfold Func.isWrapper;first|(rw[if_pos (by decide +kernel)];kernel_rfl)|(rw[if_neg (by decide +kernel)];exact⟨rfl,rfl⟩))
  (fun os started H enc _ F=>lifted os started H enc F)
theorem proved:Rows.FnExactStepsCostUptoSaid:=over
end Go.Proofs.YtmchfdpleibpdaaGreat.fnExactStepsCost
