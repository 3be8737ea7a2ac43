/- Texts joined: Rl Rm Rn Ro Rp Rq Ha Hb Hc Hd He Hf Ii Xi Rr. -/
import Derived.Test.YtannldafjkjjbaaGreatVe
import Derived.Test.YtannldafjkjjbaaGreatVf
import Derived.Test.YtannldafjkjjbaaGreatVh
set_option linter.all false
set_option maxHeartbeats 16000000
open Nat renaming reduceEqDiff → zn1, reduceLT → zn2, reduceLeDiff → zn3, reduceAdd → zn4, reduceMul → zn5, reduceSub → zn6, reduceBEq → zn7, mul_one → zn8, zero_add → zn9, one_mul → zna, le_refl → znb, zero_le → znc, add_sub_cancel_left → znd, sub_eq_zero_of_le → zne, add_assoc → znf
open Int renaming reduceToNat → zi1, reducePow → zi2
open List renaming length_append → zl1, drop_zero → zl2, take_succ_cons → zl3, take_zero → zl4, getElem?_drop → zl5, append_assoc → zl6, nil_append → zl7, cons_append → zl8, drop_succ_cons → zl9, take_of_length_le → zla, getElem?_eq_getElem → zlb, getElem?_eq_some_iff → zlc, map_cons → zld, map_nil → zle, all_eq_true → zlf
namespace Go.Proofs.YtannldafjkjjbaaGreat
section
open Go.RowKit
theorem rnew_s(h w nx:Nat)(hn:h<=1000000)(hw:w<=1000000):InlQ Tryz.prog 75 [.sc (.int .i64 h),.sc (.int .i64 w)] [] nx (MatQ w (zeroL h w) nx):=by
 have hzl:(zeroL h w).length=h:=by simp[zeroL]
 refine InlQ.run Tryz.func75 rfl Tryz.ntmps75 (by simp) qT fun B hB=> ?_
 refine qWD ?_
 refine SC.loop (fun x:Nat×List Nat×Nat×Nat=>⟨[(0,.sc (.int .i64 h)),(1,.sc (.int .i64 w)),(4,.pt nx 0),(5,.sl x.2.2.1 0 x.1 1 none),(6,.sc (.int .i64 x.1))],(nx,⟨28,[.sc (.int .i64 0),.sc (.int .i64 0),.sc (.slice none 0 0)],false⟩)::(x.2.2.1,⟨41,slR 2 w x.2.1,false⟩)::rowsH 68 x.2.1 (rI (zeroL x.1 w)),x.2.2.2,22⟩)
  (fun x=>x.1<=h/\RowsOk x.2.2.1 x.2.1 x.1 nx x.2.2.2/\nx∉x.2.1/\nx<x.2.2.1) (fun x=>h-x.1) (0,[],nx+1,nx+2) ?_ ?_ ?_
 ·exact qM
 ·exact⟨znc _,⟨rfl,List.nodup_nil,by simp,by simp only;omega,by simp⟩,by simp,by simp only;omega⟩
 ·rintro⟨i,ids,o,m⟩ ⟨hi,hR,hnx,hno⟩ K hK
  simp only at hi hR hnx hno⊢
  have hlt: ∀j∈ids,j<m:=fun j hj=>(hR.lt j hj).2
  by_cases hc:i<h
  ·have q1:=decide_eq_true (p:=(i:Int)<(h:Int)) om
   have g1:=slR_len 2 w ids
   rw[hR.len]at g1
   have ht:(slR 2 w ids).take i=slR 2 w ids:=zla om
   have g2:(slR 2 w ids).all V.one=true:=by
    rw[zlf];intro x hx;obtain⟨n,_,rfl⟩:=List.mem_map.1 hx;rfl
   have g3:=rows_del (ty:=68) (rs:=rI (zeroL i w)) (i:=o) (ids:=ids) hR.o2
   have ho:=hR.o1
   have g4:=slR_len 2 w ids
   refine qWDf (Q5 @q1 @g1 @g2 @g3 @ht) ?_
   have hne: ∀j∈ids,j≠nx:=fun j hj e=>hnx (e▸hj)
   refine hK _ (i+1,ids++ [m],m+1+1,m+1+1+1) ?_ ⟨by simp only;omega,?_,?_,by simp only;omega⟩ (by simp only;omega)
   ·dsimp only
    refine Le.rowsTo [(nx,_)] ⟨nx,hB,by omega⟩ (fun j k hj=> ?_) ?_ (fun k hk1 hk2=> ?_) ?_
    ·simp only[hget]at hj
     split at hj
     ·rename_i e
      cases hj;subst e
      refine⟨rfl,?_⟩
      simp only[hget]
      rw[if_neg om,if_neg om,if_neg om,if_pos trivial]
     ·cases hj
    ·refine⟨_,by simp only[hget];rw[if_pos trivial],?_⟩
     have:=cellsTo (z:=2) (m:=w) (n:=m) (nx:=m+1+1+1) (cap:=some w) (ids:=ids) (rest:=[]) (fun j hj=>by have:=hlt j hj;omega) om (fun x hx=>by cases hx)
     simpa using this
    ·rw[rI_len,zeroL_len]at hk2
     rw[rI_getD,zeroL_get hk2]
     rcases ids_snoc hk1 with⟨g,e⟩|⟨g,e⟩
     ·have hm:=getD_mem' g
      have h1:=hlt _ hm
      have h2:=hne _ hm
      have:=rows_get (ty:=68) (rs:=rI (zeroL i w)) (k:=k) hR.nod g (by rw[rI_len,zeroL_len,hR.len])
      rw[rI_getD,zeroL_get (by rw[hR.len]at g;exact g)]at this
      rw[e]
      exact⟨_,by simp only[hget];rw[if_neg om,if_neg om,if_neg om,if_neg h2,this],cloTo (clS_of (ivR_clo _))⟩
     ·rw[e]
      exact⟨zer w,by simp only[hget];rw[if_neg om,if_neg om,if_pos trivial];rfl,zer_map w⟩
    ·exact qN
   ·refine⟨by simp[hR.len],?_,fun j hj=> ?_,by simp only;omega,?_⟩
    ·rw[List.nodup_append]
     exact⟨hR.nod,by simp,fun a ha b hb=>by simp at hb;subst hb;have:=hlt a ha;omega⟩
    ·rcases List.mem_append.1 hj with g|g
     ·have:=hR.lt j g;simp only;omega
     ·simp at g;simp only;omega
    ·intro h
     rcases List.mem_append.1 h with g|g
     ·have:=hlt _ g;simp only at this;omega
     ·have:=List.mem_singleton.1 g;simp only at this;omega
   ·intro h
    rcases List.mem_append.1 h with g|g
    ·exact hnx g
    ·simp at g;omega
  ·have q1:=decide_eq_false (p:=(i:Int)<(h:Int)) om
   have hin:i=h:=by omega
   subst hin
   refine qWDf @q1 ?_
   refine retIQ_ret (.ag [.sc (.int .i64 i),.sc (.int .i64 w),.sl o 0 i 1 none]) ((o,⟨41,slR 2 w ids,false⟩)::rowsH 68 ids (rI (zeroL i w))) m Tryz.results75 qT ⟨o,ids,by rw[hzl];exact hR,by rw[hzl],rfl⟩ ?_
   have ho:=hR.o1
   refine Le.rowsDown [] pre0 ⟨nx,hB,by omega⟩ om hlt (rI_clo _) (less_new (fun id k hk=>hk) (fun id k hk=> ?_)) ?_
   ·rcases inR_rows (fun i hi=>hi) id k hk with e|e
    ·omega
    ·exact fun e2=>hnx (e2▸e)
   ·refine mapSl_cons (x:= .ag [.sc (.int .i64 i),.sc (.int .i64 w),.sl o 0 i 1 none]) (by simp(disch:=omega) only[go_sem,↓reduceIte,zn1,zn2,zn3,zn4,zn5,zn6,reduceCtorEq,zn7,zi1,zi2,if_pos,if_neg,Int.reduceAdd]) (VMap.ag rfl fun j x y hx hy=> ?_) trivial
    match j,hx,hy with
    |0,hx,hy=>cases hx;cases hy;exact VMap.sc _
    |1,hx,hy=>cases hx;cases hy;exact VMap.sc _
    |2,hx,hy=>cases hx;cases hy;exact VMap.cap rfl om
end
section
open Go.RowKit
set_option maxRecDepth 8000 in
theorem rident_s(n:Nat)(hn:n<=1000000):Spec Tryz.prog 43 [.sc (.int .i64 n)] (mat n (idL n)):=by
 have c0:=rnew_s n n 1 hn hn
 have c1:=of_i 1 om om
 unfold iv sv at c1
 refine qF Tryz.func43 Tryz.ntmps43 fun B hB=> ?_
 refine qWD ?_
 refine SO.inlQ qS Tab.go75 qS qS (SInlQ.newR c0 ?_ ?_ ?_)
 ·exact klc om kln
 ·exact fun x hp' nx' h=>matQ_new h
 rintro x hp' nx ⟨o,ids,hR,rfl,rfl⟩
 have ho:=hR.o1
 rw[zeroL_len]at hR⊢
 rw[mkM_zero]
 refine qWD ?_
 have e0:mkM n n (fun _ _=>0)=mkM n n (fun r c=>if r=c/\r<0 then 1 else 0):=mkM_congr fun r c _ _=>by rw[if_neg om]
 rw[e0]
 refine SC.loop (fun i:Nat=>⟨[(0,.sc (.int .i64 n)),(2,.pt 0 0),(3,.pt nx 0),(4,.sc (.int .i64 i))],(nx,⟨28,[.sc (.int .i64 n),.sc (.int .i64 n),.sl o 0 n 1 none],false⟩)::(0,⟨28,[.sc (.int .i64 0),.sc (.int .i64 0),.sc (.slice none 0 0)],false⟩)::(o,⟨41,slR 2 n ids,false⟩)::rowsH 68 ids (rI (mkM n n (fun r c=>if r=c/\r<i then 1 else 0))),nx+1,22⟩)
  (fun i=>i<=n) (fun i=>n-i) 0 ?_ ?_ ?_
 ·exact qM
 ·exact znc _
 ·intro i hi K hK
  have hidl:=hR.len
  have g1:=slR_len 2 n ids
  rw[hidl]at g1
  by_cases hc:i<n
  ·have q1:=decide_eq_true (p:=(i:Int)<(n:Int)) om
   have gi:=slR_get (z:=2) (m:=n) (ids:=ids) (k:=i) om
   obtain⟨gR,gl,gd,gs,hrs⟩:=cellF (ty:=68) (f:=fun r c=>if r=c/\r<i then(1:Int)else 0) (z:=1) (j:=i) hR.nod hidl hc hc
   have e1:mkM n n (fun r c=>if r=i/\c=i then(1:Int)else if r=c/\r<i then 1 else 0)=mkM n n (fun r c=>if r=c/\r<i+1 then 1 else 0):=mkM_congr fun r c _ _=>by
    by_cases e:r=i/\c=i
    ·rw[if_pos e,if_pos om]
    ·rw[if_neg e]
     by_cases e2:r=c/\r<i
     ·rw[if_pos e2,if_pos om]
     ·rw[if_neg e2,if_neg om]
   rw[e1]at hrs
   have hkl:=klB_rows (ty:=68) (rs:=rI (mkM n n fun r c=>if r=c/\r<i then(1:Int)else 0)) (n:=nx+1) (fun j hj=>by have:=hR.lt j hj;omega)
   have hmem:=getD_mem' (ids:=ids) (k:=i) om
   have hidk:=hR.lt _ hmem
   have hne:ids.getD i 0≠o:=fun e=>hR.o2 (by rw[<-e];exact hmem)
   generalize hH:rowsH 68 ids (rI (mkM n n fun r c=>if r=c/\r<i then(1:Int)else 0))=H at*
   generalize mkR n (fun c=>if i=c/\i<i then(1:Int)else 0)=row at*
   generalize ids.getD i 0=idk at*
   unfold ivC sv at gs
   have g2:i*2<(ivR row).length:=by omega
   refine qWDf (Q9 @q1 @g1 @gi @gR @gl @gs @hrs @g2 @hkl) ?_
   refine hK _ (i+1) ?_ om om
   exact qM
  ·have q1:=decide_eq_false (p:=(i:Int)<(n:Int)) om
   have hin:i=n:=by omega
   subst hin
   have e1:mkM i i (fun r c=>if r=c/\r<i then(1:Int)else 0)=idL i:=mkM_congr fun r c hr _=>by
    by_cases e:r=c
    ·rw[if_pos ⟨e,hr⟩,if_pos e]
    ·rw[if_neg (fun h=>e h.1),if_neg e]
   rw[e1]
   have hA:MI i i 1 (idL i):=mk_mi fun r c _ _=>fits01
   have hAl:=hA.len
   by_cases h0:i=0
   ·subst h0
    have hids:ids=[]:=List.eq_nil_of_length_eq_zero om
    subst hids
    (repeat(first|refine DO.nilF (fun i=>i+1-nx) (by simp(disch:=omega) only[go_sem,↓reduceIte,zn1,zn2,zn3,zn4,zn5,zn6,reduceCtorEq,zn7,zi1,zi2,if_pos,if_neg,Int.reduceAdd,zld,zle,Option.map_some,Option.map_none,znd,zne,znf]<;>rfl) (by kernel_rfl) ?_|(with_reducible refine SC.condB (qTf @q1) ?_;first|with_reducible refine pickT ?_|with_reducible refine pickF ?_)|(with_reducible refine qO ?_)|((with_reducible apply SC.region);(focus(simp(disch:=omega) only[go_sem,↓reduceIte,zn1,zn2,zn3,zn4,zn5,zn6,reduceCtorEq,zn7,zi1,zi2,if_pos,if_neg,Int.reduceAdd,q1];rfl)))|(with_reducible refine SC.draw Tab.mixed rfl ?_;(repeat(refine DO.run (qTf @q1) ?_));refine DO.nilF (fun i=>i+1-nx) (by simp(disch:=omega) only[go_sem,↓reduceIte,zn1,zn2,zn3,zn4,zn5,zn6,reduceCtorEq,zn7,zi1,zi2,if_pos,if_neg,Int.reduceAdd,zld,zle,Option.map_some,Option.map_none,znd,zne,znf]<;>rfl) (by kernel_rfl) ?_)))
    exact qE Tryz.results43
   ·have hrows: ∀C D:List V,∀k,k<ids.length->hget ((nx,(⟨28,C,false⟩:Blk))::(0,⟨28,D,false⟩)::(o,⟨41,slR 2 i ids,false⟩)::rowsH 68 ids (rI (idL i))) (ids.getD k 0)=some ⟨68,(rI (idL i)).getD k [],false⟩:=by
     intro C D k hk
     have hm:=getD_mem' hk
     have:=hR.lt _ hm
     simp only[hget]
     rw[if_neg om,if_neg om,if_neg (fun e=>hR.o2 (by rw[<-e];exact hm))]
     exact rows_get hR.nod hk (by rw[rI_len];omega)
    have hfz:=fun C D:List V=>frz_rowsA (n:=5) (z:=2) (m:=i) (ty:=68) (ids:=ids) (rs:=rI (idL i)) om (by rw[rI_len];omega) (hrows C D) (rI_rows hA)
    have hsl:=slR_some (z:=2) (m:=i) (ids:=ids) om
    have ht:(slR 2 i ids).take i=slR 2 i ids:=zla om
    have hne:nx≠o:=by omega
    unfold mat
    rw[hAl]
    (repeat(first|refine DO.nilF (fun i=>i+1-nx) (by simp(disch:=omega) only[go_sem,↓reduceIte,zn1,zn2,zn3,zn4,zn5,zn6,reduceCtorEq,zn7,zi1,zi2,if_pos,if_neg,Int.reduceAdd,zld,zle,Option.map_some,Option.map_none,znd,zne,znf]<;>rfl) (by kernel_rfl) ?_|(with_reducible refine SC.condB (qTf @q1) ?_;first|with_reducible refine pickT ?_|with_reducible refine pickF ?_)|(with_reducible refine qO ?_)|((with_reducible apply SC.region);(focus(simp(disch:=omega) only[go_sem,↓reduceIte,zn1,zn2,zn3,zn4,zn5,zn6,reduceCtorEq,zn7,zi1,zi2,if_pos,if_neg,Int.reduceAdd,q1];rfl)))|(with_reducible refine SC.draw Tab.mixed rfl ?_;(repeat(refine DO.run (qTf @q1) ?_));refine DO.nilF (fun i=>i+1-nx) (by simp(disch:=omega) only[go_sem,↓reduceIte,zn1,zn2,zn3,zn4,zn5,zn6,reduceCtorEq,zn7,zi1,zi2,if_pos,if_neg,Int.reduceAdd,zld,zle,Option.map_some,Option.map_none,znd,zne,znf]<;>rfl) (by kernel_rfl) ?_)))
    exact retQ_ret Tryz.results43 qS (qSf (Q4 @hfz @hsl @ht @g1)) rfl
end
section
open Go.RowKit
def dotI(f g:Nat->Int):Nat->Int
 |0=>0
 |k+1=>dotI f g k+f k*g k
def ent2(M:List (List Int))(r c:Nat):Int:=(M.getD r []).getD c 0
def mulM(h n w:Nat)(A C:List (List Int)):List (List Int):=mkM h w fun r c=>dotI (fun t=>ent2 A r t) (fun t=>ent2 C t c) n
def Fm(n:Nat)(A C:List (List Int))(i j k r c:Nat):Int:=
 if r<i\/(r=i/\c<j)then dotI (fun t=>ent2 A r t) (fun t=>ent2 C t c) n else if r=i/\c=j then dotI (fun t=>ent2 A r t) (fun t=>ent2 C t c) k else 0
theorem dot_fits{f g:Nat->Int}{K:Nat}: ∀{k:Nat},k<=1000000->(∀t,t<k->Fits K (f t)/\Fits K (g t))->Fits (2*K+1) (dotI f g k):=by
 intro k hk hf
 have key: ∀m,m<=k->(dotI f g m).natAbs<=m*(4294967296^K*4294967296^K):=by
  intro m hm
  induction m with
  |zero=>simp[dotI]
  | succ m ih=>
   have h1:=ih om
   obtain⟨h2,h3⟩:=hf m om
   unfold Fits at h2 h3
   have h4:(f m*g m).natAbs<=4294967296^K*4294967296^K:=by
    rw[Int.natAbs_mul];exact Nat.mul_le_mul (Nat.le_of_lt h2) (Nat.le_of_lt h3)
   have h5:=Int.natAbs_add_le (dotI f g m) (f m*g m)
   rw[dotI,Nat.add_mul,zna]
   omega
 have h1:=key k (znb _)
 unfold Fits
 have e:4294967296^(2*K+1)=4294967296*(4294967296^K*4294967296^K):=by
  rw[Nat.pow_succ,Nat.two_mul,Nat.pow_add,Nat.mul_comm]
 rw[e]
 have h3:0<4294967296^K*4294967296^K:=Nat.mul_pos (Nat.pow_pos om) (Nat.pow_pos om)
 generalize 4294967296^K*4294967296^K=T at*
 calc _<=k*T:=h1
  _<4294967296*T:=Nat.mul_lt_mul_of_pos_right om h3
set_option maxRecDepth 8000 in
theorem rmul_s{h n w K:Nat}{A C:List (List Int)}(hA:MI h n K A)(hC:MI n w K C)(hK:K<=100000000000)(hn:h<=1000000)(hnn:n<=1000000)(hw:w<=1000000):
  Spec Tryz.prog 125 [mat n A,mat w C] (.tu [mat w (mulM h n w A C),.sc (.int .i64 0)]):=by
 have c0:=rnew_s h w 3 hn hw
 have hAl:=hA.len
 have hCl:=hC.len
 have hml:(mulM h n w A C).length=h:=mkM_len
 have gA:=imI_len n A
 have gC:=imI_len w C
 unfold mat
 rw[hml]
 rw[hAl]at gA⊢
 rw[hCl]at gC⊢
 refine qF Tryz.func125 Tryz.ntmps125 fun B hB=> ?_
 refine qWD ?_
 refine SO.inlQ qS Tab.go75 qS qS (SInlQ.newR c0 ?_ ?_ ?_)
 ·exact klc om (klc om (klc om kln))
 ·exact fun x hp' nx' h=>matQ_new h
 rintro x hp' nx ⟨o,ids,hR,rfl,rfl⟩
 have ho:=hR.o1
 rw[zeroL_len]at hR⊢
 have e0:zeroL h w=mkM h w (Fm n A C 0 0 0):=by
  rw[mkM_zero]
  exact mkM_congr fun r c _ _=>by
   unfold Fm
   rw[if_neg om]
   split<;>rfl
 rw[e0]
 have hidl:=hR.len
 have g1:=slR_len 2 w ids
 rw[hidl]at g1
 refine qWD ?_
 refine SC.loop (fun i:Nat=>⟨[(2,.pt 0 0),(3,.pt 1 0),(4,.pt 2 0),(6,.pt nx 0),(7,.sc (.int .i64 i))],(nx,⟨28,[.sc (.int .i64 h),.sc (.int .i64 w),.sl o 0 h 1 none],false⟩)::(2,⟨28,[.sc (.int .i64 0),.sc (.int .i64 0),.sc (.slice none 0 0)],false⟩)::(1,⟨28,[.sc (.int .i64 n),.sc (.int .i64 w),.im (imR w (rI C)) n],false⟩)::(0,⟨28,[.sc (.int .i64 h),.sc (.int .i64 n),.im (imR n (rI A)) h],false⟩)::(o,⟨41,slR 2 w ids,false⟩)::rowsH 68 ids (rI (mkM h w (Fm n A C i 0 0))),nx+1,73⟩)
  (fun i=>i<=h) (fun i=>h-i) 0 ?_ ?_ ?_
 ·exact qM
 ·exact znc _
 ·intro i hi K1 hK1
  by_cases hc:i<h
  ·have q1:=decide_eq_true (p:=(i:Int)<(h:Int)) om
   refine qWDf @q1 ?_
   refine SC.loop (fun j:Nat=>⟨[(2,.pt 0 0),(3,.pt 1 0),(4,.pt 2 0),(6,.pt nx 0),(7,.sc (.int .i64 i)),(8,.sc (.int .i64 j))],(nx,⟨28,[.sc (.int .i64 h),.sc (.int .i64 w),.sl o 0 h 1 none],false⟩)::(2,⟨28,[.sc (.int .i64 0),.sc (.int .i64 0),.sc (.slice none 0 0)],false⟩)::(1,⟨28,[.sc (.int .i64 n),.sc (.int .i64 w),.im (imR w (rI C)) n],false⟩)::(0,⟨28,[.sc (.int .i64 h),.sc (.int .i64 n),.im (imR n (rI A)) h],false⟩)::(o,⟨41,slR 2 w ids,false⟩)::rowsH 68 ids (rI (mkM h w (Fm n A C i j 0))),nx+1,73⟩)
    (fun j=>j<=w) (fun j=>w-j) 0 ?_ ?_ ?_
   ·exact qM
   ·exact znc _
   ·intro j hj K2 hK2
    by_cases hc2:j<w
    ·have q2:=decide_eq_true (p:=(j:Int)<(w:Int)) om
     refine qWDf @q2 ?_
     refine SC.loop (fun k:Nat=>⟨[(2,.pt 0 0),(3,.pt 1 0),(4,.pt 2 0),(6,.pt nx 0),(7,.sc (.int .i64 i)),(8,.sc (.int .i64 j)),(9,.sc (.int .i64 k))],(nx,⟨28,[.sc (.int .i64 h),.sc (.int .i64 w),.sl o 0 h 1 none],false⟩)::(2,⟨28,[.sc (.int .i64 0),.sc (.int .i64 0),.sc (.slice none 0 0)],false⟩)::(1,⟨28,[.sc (.int .i64 n),.sc (.int .i64 w),.im (imR w (rI C)) n],false⟩)::(0,⟨28,[.sc (.int .i64 h),.sc (.int .i64 n),.im (imR n (rI A)) h],false⟩)::(o,⟨41,slR 2 w ids,false⟩)::rowsH 68 ids (rI (mkM h w (Fm n A C i j k))),nx+1,73⟩)
      (fun k=>k<=n) (fun k=>n-k) 0 ?_ ?_ ?_
     ·exact qM
     ·exact znc _
     ·intro k hk K3 hK3
      by_cases hc3:k<n
      ·have q3:=decide_eq_true (p:=(k:Int)<(n:Int)) om
       have gi:=slR_get (z:=2) (m:=w) (ids:=ids) (k:=i) om
       have hfx:=hA.fit hc hc3
       have hfy:=hC.fit hc3 hc2
       have hfd:=dot_fits (f:=fun t=>ent2 A i t) (g:=fun t=>ent2 C t j) (K:=K) (k:=k) om (fun t ht=>⟨hA.fit hc om,hC.fit om hc2⟩)
       obtain⟨gR,gl,gd,gs,hrs⟩:=cellF (ty:=68) (f:=Fm n A C i j k) (z:=dotI (fun t=>ent2 A i t) (fun t=>ent2 C t j) k+ent2 A i k*ent2 C k j) (j:=j) hR.nod hidl hc hc2
       have e1:(mkM h w fun r c=>if r=i/\c=j then dotI (fun t=>ent2 A i t) (fun t=>ent2 C t j) k+ent2 A i k*ent2 C k j else Fm n A C i j k r c)=mkM h w (Fm n A C i j (k+1)):=mkM_congr fun r c _ _=>by
        unfold Fm
        by_cases e:r=i/\c=j
        ·obtain⟨rfl,rfl⟩:=e
         rw[if_pos ⟨rfl,rfl⟩,if_neg om,if_pos ⟨rfl,rfl⟩,dotI]
        ·rw[if_neg e,if_neg e,if_neg e]
       rw[e1]at hrs
       have e2:Fm n A C i j k i j=dotI (fun t=>ent2 A i t) (fun t=>ent2 C t j) k:=by
        unfold Fm
        rw[if_neg om,if_pos ⟨rfl,rfl⟩]
       rw[e2]at gd
       have gAi:=imI_get (w:=n) (M:=A) (i:=i) om
       have gCk:=imI_get (w:=w) (M:=C) (i:=k) om
       have hAi:=hA.get hc
       have hCk:=hC.get hc3
       have gdA:=ivR_drop (l:=A.getD i []) (i:=k) om
       have gdC:=ivR_drop (l:=C.getD k []) (i:=j) om
       have glA:=ivR_len (A.getD i [])
       have glC:=ivR_len (C.getD k [])
       have hx:(A.getD i []).getD k 0=ent2 A i k:=rfl
       have hy:(C.getD k []).getD j 0=ent2 C k j:=rfl
       rw[hx]at gdA hfx
       rw[hy]at gdC hfy
       rw[hAi.1]at glA
       rw[hCk.1]at glC
       have c1:=mul_i (ent2 A i k) (ent2 C k j) K hfx hfy om
       have hxy:Fits (2*K+1) (ent2 A i k*ent2 C k j):=by
        have:=dot_fits (f:=fun _=>ent2 A i k) (g:=fun _=>ent2 C k j) (K:=K) (k:=1) om (fun _ _=>⟨hfx,hfy⟩)
        simpa[dotI]using this
       have c2:=add_i _ _ (2*K+1) hfd hxy om
       have hkl:=klB_rows (ty:=68) (rs:=rI (mkM h w (Fm n A C i j k))) (n:=nx+1) (fun j hj=>by have:=hR.lt j hj;omega)
       have hmem:=getD_mem' (ids:=ids) (k:=i) om
       have hidk:=hR.lt _ hmem
       have hne:ids.getD i 0≠o:=fun e=>hR.o2 (by rw[<-e];exact hmem)
       clear hfx hfy hfd hxy e1 e2 hx hy
       generalize hH:rowsH 68 ids (rI (mkM h w (Fm n A C i j k)))=H at*
       generalize mkR w (Fm n A C i j k i)=row at*
       generalize ids.getD i 0=idk at*
       generalize dotI (fun t=>ent2 A i t) (fun t=>ent2 C t j) k=d at*
       generalize ent2 A i k=x at*
       generalize ent2 C k j=y at*
       generalize(ivR row).drop ((j+1)*2)=D1 at*
       generalize(ivR (A.getD i [])).drop ((k+1)*2)=D2 at*
       generalize(ivR (C.getD k [])).drop ((j+1)*2)=D3 at*
       generalize ivR (A.getD i [])=RA at*
       generalize ivR (C.getD k [])=RC at*
       generalize hRr:ivR row=RR at*
       unfold iv sv at c1 c2
       unfold ivC sv at gs gd gdA gdC
       simp only[zl8,zl7]at gd gdA gdC
       have g2:j*2<RR.length:=by omega
       have g3:k*2<RA.length:=by omega
       have g4:j*2<RC.length:=by omega
       refine qWDf (Q21 @q3 @g1 @gi @gR @gl @gd @gs @hrs @g2 @g3 @g4 @glA @glC @gAi @gCk @gdA @gdC @gA @gC @hkl @gD) ?_
       refine hK3 _ (k+1) ?_ om om
       exact qM
      ·have q3:=decide_eq_false (p:=(k:Int)<(n:Int)) om
       have hkn:k=n:=by omega
       subst hkn
       refine qWDf @q3 ?_
       refine hK2 _ (j+1) ?_ om om
       have e1:mkM h w (Fm k A C i j k)=mkM h w (Fm k A C i (j+1) 0):=mkM_congr fun r c _ _=>by
        unfold Fm
        by_cases e:r<i\/(r=i/\c<j)
        ·rw[if_pos e,if_pos om]
        ·rw[if_neg e]
         by_cases e2:r=i/\c=j
         ·rw[if_pos e2,if_pos om]
         ·rw[if_neg e2,if_neg om]
          split<;>rfl
       rw[e1]
       exact qM
    ·have q2:=decide_eq_false (p:=(j:Int)<(w:Int)) om
     have hjw:j=w:=by omega
     subst hjw
     refine qWDf @q2 ?_
     refine hK1 _ (i+1) ?_ om om
     have e1:mkM h j (Fm n A C i j 0)=mkM h j (Fm n A C (i+1) 0 0):=mkM_congr fun r c _ hcj=>by
      unfold Fm
      by_cases e:r<i\/(r=i/\c<j)
      ·rw[if_pos e,if_pos om]
      ·rw[if_neg e,if_neg om,if_neg om]
       split<;>rfl
     rw[e1]
     exact qM
  ·have q1:=decide_eq_false (p:=(i:Int)<(h:Int)) om
   have hih:i=h:=by omega
   subst hih
   have e1:mkM i w (Fm n A C i 0 0)=mulM i n w A C:=mkM_congr fun r c hr _=>by
    unfold Fm
    rw[if_pos (.inl hr)]
   rw[e1]
   have hM:MI i w (2*K+1) (mulM i n w A C):=mk_mi fun r c hr hc=>dot_fits om (fun t ht=>⟨hA.fit hr ht,hC.fit ht hc⟩)
   generalize mulM i n w A C=Z at*
   have hZl:=hM.len
   by_cases h0:i=0
   ·subst h0
    have hids:ids=[]:=List.eq_nil_of_length_eq_zero om
    have hZ:Z=[]:=List.eq_nil_of_length_eq_zero om
    subst hids;subst hZ
    refine qWDf @q1 ?_
    exact qE Tryz.results125
   ·have hrows: ∀C1 C2 C3 C4:List V,∀k,k<ids.length->hget ((nx,(⟨28,C1,false⟩:Blk))::(2,⟨28,C2,false⟩)::(1,⟨28,C3,false⟩)::(0,⟨28,C4,false⟩)::(o,⟨41,slR 2 w ids,false⟩)::rowsH 68 ids (rI Z)) (ids.getD k 0)=some ⟨68,(rI Z).getD k [],false⟩:=by
     intro C1 C2 C3 C4 k hk
     have hm:=getD_mem' hk
     have:=hR.lt _ hm
     simp only[hget]
     rw[if_neg om,if_neg om,if_neg om,if_neg om,if_neg (fun e=>hR.o2 (by rw[<-e];exact hm))]
     exact rows_get hR.nod hk (by rw[rI_len];omega)
    have hfz:=fun C1 C2 C3 C4:List V=>frz_rowsA (n:=4) (z:=2) (m:=w) (ty:=68) (ids:=ids) (rs:=rI Z) om (by rw[rI_len];omega) (hrows C1 C2 C3 C4) (rI_rows hM)
    have hsl:=slR_some (z:=2) (m:=w) (ids:=ids) om
    have ht:(slR 2 w ids).take i=slR 2 w ids:=zla om
    have hne:nx≠o:=by omega
    refine qWDf @q1 ?_
    exact retQ_ret Tryz.results125 qS (qSf (Q4 @hfz @hsl @ht @g1)) rfl
theorem rprod_s{h n w K:Nat}{A C:List (List Int)}(hA:MI h n K A)(hC:MI n w K C)(hK:K<=100000000000)(hn:h<=1000000)(hnn:n<=1000000)(hw:w<=1000000):
  Spec Tryz.prog 98 [mat n A,mat w C] (mat w (mulM h n w A C)):=by
 have c0:=rmul_s hA hC hK hn hnn hw
 unfold mat at*
 refine qF Tryz.func98 Tryz.ntmps98 fun B hB=> ?_
 refine qWD ?_
 exact qE Tryz.results98
end
section
open Go.RowKit
def invO(o:OpL):OpL:=⟨o.kd,o.i,o.j,-o.k⟩
def invL(l:List OpL):List OpL:=(l.map invO).reverse
theorem invO_ok{n:Nat}{o:OpL}(h:OkOp n o):OkOp n (invO o):=by
 refine⟨h.i,?_,?_⟩
 ·have:=h.k
  unfold Fits at*
  show(-o.k).natAbs<_
  rwa[Int.natAbs_neg]
 ·rcases h.c with⟨a,b,c,d⟩|⟨a,b,d⟩|⟨a,b,c⟩
  ·exact .inl ⟨a,b,c,by show-o.k=0;omega⟩
  ·exact .inr (.inl ⟨a,b,by show-o.k=0;omega⟩)
  ·exact .inr (.inr ⟨a,b,c⟩)
theorem invL_ok{n:Nat}{l:List OpL}(h: ∀o∈l,OkOp n o): ∀o∈invL l,OkOp n o:=by
 intro o ho
 simp only[invL,List.mem_reverse,List.mem_map]at ho
 obtain⟨p,hp,rfl⟩:=ho
 exact invO_ok (h p hp)
theorem invL_len(l:List OpL):(invL l).length=l.length:=by simp[invL]
theorem mkOps:mkOf Tryz.prog 32=some (80,56,[.int .i64 0,.int .i64 0,.int .i64 0,.bool false,.slice none 0 0]):=by kernel_rfl
@[go_sem high] theorem exMake_ops {n nx:Nat} (hn:n<=2000000000):exMake Tryz.prog 32 nx (.sc (.int .i64 0)) (.sc (.int .i64 (n:Int)))=some (.sl nx 0 0 5 (some n),.new ⟨80,reps n [.sc (.int .i64 0),.sc (.int .i64 0),.sc (.int .i64 0),.sc (.bool false),.sc (.slice none 0 0)],false⟩):=by
 have hc:(0:Int)<=0/\(0:Int)<=(n:Int)/\(n:Int)<1125899906842624/\((56:Nat):Int)*(n:Int)<=140737488355328:=⟨by omega,by omega,by omega,by omega⟩
 rw[exMake_eq,mkOps,Option.bind_some];exact if_pos hc
theorem run1_mks{ops:Array Oper}{sl:List (Nat×V)}{hp:List (Nat×Blk)}{nx nt n t d:Nat}{ty:TypeId}{pos:String}{aft:Array Edge}(hn:n<=2000000000)(ht:get sl t= .sc (.int .i64 (n:Int)))(hd:d<nt):
  run1 Tryz.prog ops ⟨sl,hp,nx,nt⟩ ⟨some d,.makeSlice 32 (.const (.int .i64 0)) (.tmp t),ty,pos,aft,none⟩=some ((⟨sl,hp,nx,nt⟩:SS).put (some d) (.sl nx 0 0 5 (some n)) (.new ⟨80,reps n [.sc (.int .i64 0),.sc (.int .i64 0),.sc (.int .i64 0),.sc (.bool false),.sc (.slice none 0 0)],false⟩)):=by
 have h1:exOp Tryz.prog sl hp nx (.makeSlice 32 (.const (.int .i64 0)) (.tmp t))=some (.sl nx 0 0 5 (some n),.new ⟨80,reps n [.sc (.int .i64 0),.sc (.int .i64 0),.sc (.int .i64 0),.sc (.bool false),.sc (.slice none 0 0)],false⟩):=by
  rw[exOp_makeSlice]
  show exMake _ _ _ _ (get sl t)=_
  rw[ht]
  exact exMake_ops hn
 have h2:dstOk (some d) nt=true:=by simp[dstOk,hd]
 unfold run1
 rw[if_pos h2]
 have hg:guardV ops sl none=some true:=rfl
 simp only[hg,h1]
 rfl
theorem reps1(l:List V):reps 1 l=l:=by unfold reps;split<;>simp
theorem opsC_app(a b:List OpL):opsC (a++b)=opsC a++opsC b:=by
 induction a with
 |nil=>rfl
 |cons x r ih=>rw[zl8,opsC,opsC,ih,zl6]
theorem invL_take{l:List OpL}{k:Nat}(h:k<l.length):(invL l).take (k+1)=(invL l).take k++ [invO (l.getD (l.length-1-k) ⟨0,0,0,0⟩)]:=by
 have hl:=invL_len l
 rw[take_snoc (d:=⟨0,0,0,0⟩) om]
 congr 2
 unfold invL
 rw[List.getD_eq_getElem?_getD,List.getElem?_reverse (by rw[List.length_map];exact h),List.getElem?_map,List.length_map,List.getD_eq_getElem?_getD]
 rw[zlb om];rfl
theorem invO_k0{o:OpL}(h:o.k=0):invO o=o:=by
 obtain⟨a,b,c,d⟩:=o
 simp only at h
 subst h;rfl
theorem opsC_one(l:List OpL):(opsC l).all V.one=true:=by
 induction l with
 |nil=>rfl
 |cons x r ih=>rw[opsC,List.all_append,ih];rfl
theorem opsC_clo(l:List OpL):(opsC l).all clo=true:=by
 induction l with
 |nil=>rfl
 |cons x r ih=>rw[opsC,List.all_append,ih];rfl
end
section
open Go.RowKit
attribute [-go_sem] exMake_eq
set_option maxRecDepth 8000 in
theorem iinv_s{n:Nat}{l:List OpL}(h: ∀o∈l,OkOp n o)(hl:l.length<=1000000000):Spec Tryz.prog 83 [.im (opsC l) l.length] (.im (opsC (invL l)) l.length):=by
 refine qF Tryz.func83 Tryz.ntmps83 fun B hB=> ?_
 refine SC.seq ?_
 refine SC.region qT ?_
 refine SC.seq ?_
 refine SC.ops ?_
 refine SO.run qT ?_
 refine SO.run qT ?_
 refine SO.run (run1_mks (n:=l.length) om (by simp(disch:=omega) only[go_sem,↓reduceIte,zn1,zn2,zn3,zn4,zn5,zn6,reduceCtorEq,zn7,zi1,zi2,if_pos,if_neg,Int.reduceAdd]) om) ?_
 refine qW ?_
 refine SC.loop (fun k:Nat=>⟨[(0,.im (opsC l) l.length),(2,.sc (.slice none 0 0)),(3,.sl 0 0 k 5 none),(4,.sc (.int .i64 ((l.length:Int)-1-(k:Int))))],[(0,⟨80,opsC ((invL l).take k),false⟩)],1,32⟩)
  (fun k=>k<=l.length) (fun k=>l.length-k) 0 ?_ ?_ ?_
 ·refine Le.map (fun i=>i) (fun i=>i<1) hB (fun i hi=>by omega) (fun i h=>h) (fun i j _ _ e=>e) ?_ (fun i k' hk' hlt=> ?_)
  ·have e:(l.length:Int)-1-((0:Nat):Int)=(l.length:Int)-1:=by omega
   rw[e]
   exact qN
  ·simp only[hget]at hk'
   split at hk'
   ·rename_i e
    subst e
    cases hk'
    exact⟨_,rfl,rfl,rfl,fun j y hy=>by cases hy⟩
   ·cases hk'
 ·exact znc _
 ·intro k hk K hK
  have hil:=invL_len l
  have gl:=opsC_len ((invL l).take k)
  rw[List.length_take,hil,Nat.min_eq_left hk,Nat.mul_comm]at gl
  by_cases hc:k<l.length
  ·have q1:decide ((0:Int)<=(l.length:Int)-1-(k:Int))=true:=decide_eq_true om
   have hix:((l.length:Int)-1-(k:Int)).toNat=l.length-1-k:=by omega
   have g1:=opsC_drop (l:=l) (i:=l.length-1-k) om
   have g2:(l.length-1-k)*5<(opsC l).length:=by rw[opsC_len];omega
   have hok:=h _ (getD_mem (d:=⟨0,0,0,0⟩) (l:=l) (i:=l.length-1-k) om)
   have hts:=invL_take hc
   have hone:=opsC_one ((invL l).take k)
   have hnew:opsC ((invL l).take (k+1))=opsC ((invL l).take k)++opC (invO (l.getD (l.length-1-k) ⟨0,0,0,0⟩)):=by rw[hts,opsC_app];show _++(_++ [])=_;rw[List.append_nil]
   have ht:(opsC ((invL l).take k)).take (k*5)=opsC ((invL l).take k):=zla om
   have hclo:=opsC_clo ((invL l).take (k+1))
   generalize l.getD (l.length-1-k) ⟨0,0,0,0⟩=op at*
   generalize(opsC l).drop ((l.length-1-k+1)*5)=D at*
   generalize opsC ((invL l).take k)=Z at*
   generalize hZ':opsC ((invL l).take (k+1))=Z' at*
   by_cases h3:op.kd=3
   ·obtain⟨kd,a,b,f⟩:=op
    simp only at h3
    subst h3
    have c1:=pneg_i f OL hok.k (by have:=OL_le;omega)
    unfold opC invO at hnew
    unfold opC at g1
    unfold iv sv at c1
    unfold sv at hnew g1
    simp only[zl8,zl7]at g1
    simp only at hnew
    have q3:(((3:Nat):Int)==3)=true:=rfl
    refine qWf (Q9 @q1 @hix @g1 @g2 @q3 @gl @ht @hone @reps1) ?_
    refine hK _ (k+1) ?_ om om
    simp only[hZ',hnew]
    rw[hnew]at hclo
    refine Le.ren 0 3 hB om om om ?_ ?_
    ·exact qN
    ·(repeat' (first|exact mapHp_nil|refine mapHp_cons (qSf @hclo) ?_ ?_|exact BMap.clo (by first|rfl|assumption|exact wv_clo _|exact imR_clo _ _|exact nv_clo _)|refine BMap.list ?_|exact mapL_nil|refine mapL_cons ?_ ?_|exact VMap.junk _|exact VMap.sc _|exact VMap.clo rfl|exact VMap.sl rfl om|exact VMap.cap rfl om|exact VMap.pt rfl om|exact VMap.nil_sl _ _ _|exact VMap.int (by first|rfl|omega|(dsimp only;omega))))
   ·have hk0:op.k=0:=by rcases hok.c with⟨_,_,_,d⟩|⟨_,_,d⟩|⟨d,_⟩;exact d;exact d;exact absurd d h3
    rw[invO_k0 hk0]at hnew
    obtain⟨kd,a,b,f⟩:=op
    simp only at h3
    unfold opC sv at hnew g1
    simp only[zl8,zl7]at g1
    simp only at hnew
    have q3:((kd:Int)==3)=false:=by rw[beq_eq_false_iff_ne];omega
    refine qWf (Q9 @q1 @hix @g1 @g2 @q3 @gl @ht @hone @reps1) ?_
    refine hK _ (k+1) ?_ om om
    simp only[hZ',hnew]
    rw[hnew]at hclo
    refine Le.ren 0 3 hB om om om ?_ ?_
    ·exact qN
    ·(repeat' (first|exact mapHp_nil|refine mapHp_cons (qSf @hclo) ?_ ?_|exact BMap.clo (by first|rfl|assumption|exact wv_clo _|exact imR_clo _ _|exact nv_clo _)|refine BMap.list ?_|exact mapL_nil|refine mapL_cons ?_ ?_|exact VMap.junk _|exact VMap.sc _|exact VMap.clo rfl|exact VMap.sl rfl om|exact VMap.cap rfl om|exact VMap.pt rfl om|exact VMap.nil_sl _ _ _|exact VMap.int (by first|rfl|omega|(dsimp only;omega))))
  ·have q1:decide ((0:Int)<=(l.length:Int)-1-(k:Int))=false:=decide_eq_false om
   have hkl:k=l.length:=by omega
   have hz:(invL l).take k=invL l:=zla om
   have hclo:=opsC_clo (invL l)
   have ht:(opsC (invL l)).take (k*5)=opsC (invL l):=by rw[<-hz];exact zla om
   rw[hz]at gl⊢
   rw[hkl]at gl ht
   refine qWf @q1 ?_
   rw[hkl]
   exact retQ_ret Tryz.results83 qS (qSf (Q3 @hclo @ht @gl)) rfl
theorem iundo_s{h w K:Nat}{M:List (List Int)}{l:List OpL}(hM:MI h w K M)(hl: ∀o∈l,OkOp h o)(hS: ∀i,i<=l.length->MI h w K (actsO M ((invL l).take i)))(hK:K<=90000000000)(hll:l.length<=1000000000)(hn:h<=1000000)(hw:w<=1000000):
  Spec Tryz.prog 50 [.im (opsC l) l.length,mat w M] (.tu [mat w (actsO M (invL l)),.sc (.int .i64 0)]):=by
 have hml:=hM.len
 have c1:=ivalid_s hl hn om
 have c2:=iinv_s hl om
 have c3:=iapply_s (l:=invL l) hM (invL_ok hl) (by rw[invL_len];exact hS) hK (by rw[invL_len];exact hll) hn hw
 rw[invL_len]at c3
 generalize actsO M (invL l)=F at*
 generalize opsC (invL l)=L at*
 unfold mat at*
 rw[hml]at*
 refine qF Tryz.func50 Tryz.ntmps50 fun B hB=> ?_
 refine qW ?_
 exact qE Tryz.results50
end
section
open Go.RowKit
theorem dot_congr{f f' g g':Nat->Int}: ∀{n:Nat},(∀t,t<n->f t=f' t/\g t=g' t)->dotI f g n=dotI f' g' n
 |0,_=>rfl
 |n+1,h=>by
  rw[dotI,dotI,dot_congr (fun t ht=>h t om),(h n om).1,(h n om).2]
theorem dot_neg{f g:Nat->Int}: ∀{n:Nat},dotI (fun t=> -(f t)) g n= -(dotI f g n)
 |0=>rfl
 |n+1=>by rw[dotI,dotI,dot_neg,Int.neg_add,Int.neg_mul]
theorem dot_add{f e g:Nat->Int}{k:Int}: ∀{n:Nat},dotI (fun t=>f t+k*e t) g n=dotI f g n+k*dotI e g n
 |0=>by simp[dotI]
 |n+1=>by
  rw[dotI,dotI,dotI,dot_add,Int.mul_add,Int.add_mul,Int.mul_assoc];omega
theorem dot_unit{g:Nat->Int}{r:Nat}: ∀{n:Nat},dotI (fun t=>if r=t then 1 else 0) g n=if r<n then g r else 0
 |0=>by simp[dotI]
 | n+1=>by
  rw[dotI,dot_unit]
  by_cases e:r=n
  ·subst e;simp
  ·rw[if_neg e]
   by_cases h:r<n
   ·rw[if_pos h,if_pos om];simp
   ·rw[if_neg h,if_neg om];simp
theorem ent_mk{h w r c:Nat}{f:Nat->Nat->Int}(hr:r<h)(hc:c<w):ent2 (mkM h w f) r c=f r c:=by
 unfold ent2;rw[mkM_get hr,mkR_get hc]
theorem mat_ent{h w K K':Nat}{A C:List (List Int)}(hA:MI h w K A)(hC:MI h w K' C)(he: ∀r c,r<h->c<w->ent2 A r c=ent2 C r c):A=C:=by
 rw[<-mkM_of hA,<-mkM_of hC]
 exact mkM_congr he
theorem act_ent{h w K:Nat}{M:List (List Int)}(hM:MI h w K M){o:OpL}(ho:OkOp h o){r c:Nat}(hr:r<h)(hc:c<w):
  ent2 (actO M o) r c=if o.kd=1 then(if r=o.j then ent2 M o.i c else if r=o.i then ent2 M o.j c else ent2 M r c)else if o.kd=2 then(if r=o.i then-(ent2 M r c)else ent2 M r c)else(if r=o.i then ent2 M r c+o.k*ent2 M o.j c else ent2 M r c):=by
 have hl:=hM.len
 have hi:=ho.i
 unfold actO
 by_cases h1:o.kd=1
 ·have hj:o.j<h:=by rcases ho.c with⟨_,hj,_⟩|⟨e,_⟩|⟨e,_⟩<;>omega
  rw[if_pos h1,if_pos h1]
  unfold ent2
  rw[swapI_get om om]
  by_cases a:r=o.j
  ·rw[if_pos a,if_pos a]
  ·rw[if_neg a,if_neg a]
   by_cases b:r=o.i
   ·rw[if_pos b,if_pos b]
   ·rw[if_neg b,if_neg b]
 ·rw[if_neg h1,if_neg h1]
  by_cases h2:o.kd=2
  ·rw[if_pos h2,if_pos h2]
   unfold ent2
   rw[getD_set om]
   by_cases b:r=o.i
   ·rw[if_pos b,if_pos b,negI_get (by rw[(hM.get hi).1];exact hc),b]
   ·rw[if_neg b,if_neg b]
  ·rw[if_neg h2,if_neg h2]
   unfold ent2
   rw[getD_set om]
   by_cases b:r=o.i
   ·rw[if_pos b,if_pos b,addI_get (by rw[(hM.get hi).1];exact hc),b]
   ·rw[if_neg b,if_neg b]
end
section
open Go.RowKit
set_option maxRecDepth 8000 in
theorem rident_q(n n0:Nat)(hn:n<=1000000):InlQ Tryz.prog 43 [.sc (.int .i64 n)] [] n0 (MatQ n (idL n) n0):=by
 have c0:=rnew_s n n (n0+1) hn hn
 have c1:=of_i 1 om om
 have hil:(idL n).length=n:=mkM_len
 unfold iv sv at c1
 refine InlQ.run Tryz.func43 rfl Tryz.ntmps43 (by simp) qT fun B hB=> ?_
 refine qWD ?_
 refine SO.inlQ qS Tab.go75 qS qS (SInlQ.newR c0 ?_ ?_ ?_)
 ·exact klc om kln
 ·exact fun x hp' nx' h=>matQ_new h
 rintro x hp' nx ⟨o,ids,hR,rfl,rfl⟩
 have ho:=hR.o1
 have hn0:n0+1-nx=0:=by omega
 have ho0:o+1-nx=0:=by omega
 rw[zeroL_len]at hR⊢
 rw[mkM_zero]
 refine qWD ?_
 have e0:mkM n n (fun _ _=>0)=mkM n n (fun r c=>if r=c/\r<0 then 1 else 0):=mkM_congr fun r c _ _=>by rw[if_neg om]
 rw[e0]
 refine SC.loop (fun i:Nat=>⟨[(0,.sc (.int .i64 n)),(2,.pt n0 0),(3,.pt nx 0),(4,.sc (.int .i64 i))],(nx,⟨28,[.sc (.int .i64 n),.sc (.int .i64 n),.sl o 0 n 1 none],false⟩)::(n0,⟨28,[.sc (.int .i64 0),.sc (.int .i64 0),.sc (.slice none 0 0)],false⟩)::(o,⟨41,slR 2 n ids,false⟩)::rowsH 68 ids (rI (mkM n n (fun r c=>if r=c/\r<i then 1 else 0))),nx+1,22⟩)
  (fun i=>i<=n) (fun i=>n-i) 0 ?_ ?_ ?_
 ·exact qM
 ·exact znc _
 ·intro i hi K hK
  have hidl:=hR.len
  have g1:=slR_len 2 n ids
  rw[hidl]at g1
  by_cases hc:i<n
  ·have q1:=decide_eq_true (p:=(i:Int)<(n:Int)) om
   have gi:=slR_get (z:=2) (m:=n) (ids:=ids) (k:=i) om
   obtain⟨gR,gl,gd,gs,hrs⟩:=cellF (ty:=68) (f:=fun r c=>if r=c/\r<i then(1:Int)else 0) (z:=1) (j:=i) hR.nod hidl hc hc
   have e1:mkM n n (fun r c=>if r=i/\c=i then(1:Int)else if r=c/\r<i then 1 else 0)=mkM n n (fun r c=>if r=c/\r<i+1 then 1 else 0):=mkM_congr fun r c _ _=>by
    by_cases e:r=i/\c=i
    ·rw[if_pos e,if_pos om]
    ·rw[if_neg e]
     by_cases e2:r=c/\r<i
     ·rw[if_pos e2,if_pos om]
     ·rw[if_neg e2,if_neg om]
   rw[e1]at hrs
   have hkl:=klB_rows (ty:=68) (rs:=rI (mkM n n fun r c=>if r=c/\r<i then(1:Int)else 0)) (n:=nx+1) (fun j hj=>by have:=hR.lt j hj;omega)
   have hmem:=getD_mem' (ids:=ids) (k:=i) om
   have hidk:=hR.lt _ hmem
   have hne:ids.getD i 0≠o:=fun e=>hR.o2 (by rw[<-e];exact hmem)
   generalize hH:rowsH 68 ids (rI (mkM n n fun r c=>if r=c/\r<i then(1:Int)else 0))=H at*
   generalize mkR n (fun c=>if i=c/\i<i then(1:Int)else 0)=row at*
   generalize ids.getD i 0=idk at*
   unfold ivC sv at gs
   have g2:i*2<(ivR row).length:=by omega
   refine qWDf (Q9 @q1 @g1 @gi @gR @gl @gs @hrs @g2 @hkl) ?_
   refine hK _ (i+1) ?_ om om
   exact qM
  ·have q1:=decide_eq_false (p:=(i:Int)<(n:Int)) om
   have hin:i=n:=by omega
   subst hin
   have e1:mkM i i (fun r c=>if r=c/\r<i then(1:Int)else 0)=idL i:=mkM_congr fun r c hr _=>by
    by_cases e:r=c
    ·rw[if_pos ⟨e,hr⟩,if_pos e]
    ·rw[if_neg (fun h=>e h.1),if_neg e]
   rw[e1]
   refine qWDf @q1 ?_
   refine retIQ_ret (.ag [.sc (.int .i64 i),.sc (.int .i64 i),.sl o 0 i 1 none]) ((o,⟨41,slR 2 i ids,false⟩)::rowsH 68 ids (rI (idL i))) nx Tryz.results43 qT ⟨o,ids,?_,by rw[hil],rfl⟩ ?_
   ·rw[hil];exact⟨hR.len,hR.nod,fun j hj=>by have:=hR.lt j hj;omega,by omega,hR.o2⟩
   refine Le.rowsDown [] pre0 ⟨n0,hB,by omega⟩ om (fun j hj=>(hR.lt j hj).2) (rI_clo _) (less_new (less_new (fun id k hk=>hk) (fun id k hk=> ?_)) (fun id k hk=> ?_)) ?_
   ·rcases inR_rows (fun i hi=>hi) id k hk with e|e
    ·omega
    ·have:=hR.lt _ e;omega
   ·rcases inR_rows (fun i hi=>hi) id k hk with e|e
    ·omega
    ·have:=hR.lt _ e;omega
   ·refine mapSl_cons (x:= .ag [.sc (.int .i64 i),.sc (.int .i64 i),.sl o 0 i 1 none]) (by simp(disch:=omega) only[go_sem,↓reduceIte,zn1,zn2,zn3,zn4,zn5,zn6,reduceCtorEq,zn7,zi1,zi2,if_pos,if_neg,Int.reduceAdd]) (VMap.ag rfl fun j x y hx hy=> ?_) trivial
    match j,hx,hy with
    |0,hx,hy=>cases hx;cases hy;exact VMap.sc _
    |1,hx,hy=>cases hx;cases hy;exact VMap.sc _
    |2,hx,hy=>cases hx;cases hy;exact VMap.cap rfl om
end
section
open Go.RowKit
def Sf(A:List (List Int))(k:Int)(i j r c:Nat):Int:=if r<i\/(r=i/\c<j)then ent2 A r c*k else 0
def scaleM(h w:Nat)(A:List (List Int))(k:Int):List (List Int):=mkM h w fun r c=>ent2 A r c*k
theorem scaleM_one{h w K:Nat}{A:List (List Int)}(hA:MI h w K A):scaleM h w A 1=A:=by
 rw[<-mkM_of hA]
 unfold scaleM
 refine mkM_congr fun r c _ _=> ?_
 rw[Int.mul_one,mkM_of hA];rfl
set_option maxRecDepth 8000 in
theorem rscale_q{h w K:Nat}{A:List (List Int)}{k:Int}(n0:Nat)(hA:MI h w K A)(hk:Fits K k)(hK:K<=100000000000)(hn:h<=1000000)(hw:w<=1000000):
  InlQ Tryz.prog 71 [mat w A,iv k] [] n0 (MatQ w (scaleM h w A k) n0):=by
 have c0:=rnew_s h w (n0+3) hn hw
 have hAl:=hA.len
 have hml:(scaleM h w A k).length=h:=mkM_len
 have gA:=imI_len w A
 unfold mat iv sv
 rw[hAl]at gA⊢
 refine InlQ.run Tryz.func71 rfl Tryz.ntmps71 (by simp) qT fun B hB=> ?_
 refine qWD ?_
 refine SO.inlQ qS Tab.go75 qS qS (SInlQ.newR c0 ?_ ?_ ?_)
 ·exact klc om (klc om (klc om kln))
 ·exact fun x hp' nx' h=>matQ_new h
 rintro x hp' nx ⟨o,ids,hR,rfl,rfl⟩
 have ho:=hR.o1
 have hn0:n0+1-nx=0:=by omega
 have hn1:n0+1+1-nx=0:=by omega
 have hn2:n0+1+1+1-nx=0:=by omega
 have ho0:o+1-nx=0:=by omega
 rw[zeroL_len]at hR⊢
 have e0:zeroL h w=mkM h w (Sf A k 0 0):=by
  rw[mkM_zero]
  exact mkM_congr fun r c _ _=>by unfold Sf;rw[if_neg om]
 rw[e0]
 have hidl:=hR.len
 have g1:=slR_len 2 w ids
 rw[hidl]at g1
 refine qWD ?_
 refine SC.loop (fun i:Nat=>⟨[(2,.pt n0 0),(3,.pt (n0+1) 0),(4,.pt (n0+1+1) 0),(5,.pt nx 0),(6,.sc (.int .i64 i))],(nx,⟨28,[.sc (.int .i64 h),.sc (.int .i64 w),.sl o 0 h 1 none],false⟩)::(n0+1+1,⟨28,[.sc (.int .i64 0),.sc (.int .i64 0),.sc (.slice none 0 0)],false⟩)::(n0+1,⟨68,[.sc (.bool (decide (k<0))),.im (lv (limbsOf k.natAbs)) (limbsOf k.natAbs).length],false⟩)::(n0,⟨28,[.sc (.int .i64 h),.sc (.int .i64 w),.im (imR w (rI A)) h],false⟩)::(o,⟨41,slR 2 w ids,false⟩)::rowsH 68 ids (rI (mkM h w (Sf A k i 0))),nx+1,43⟩)
  (fun i=>i<=h) (fun i=>h-i) 0 ?_ ?_ ?_
 ·exact qM
 ·exact znc _
 ·intro i hi K1 hK1
  by_cases hc:i<h
  ·have q1:=decide_eq_true (p:=(i:Int)<(h:Int)) om
   refine qWDf @q1 ?_
   refine SC.loop (fun j:Nat=>⟨[(2,.pt n0 0),(3,.pt (n0+1) 0),(4,.pt (n0+1+1) 0),(5,.pt nx 0),(6,.sc (.int .i64 i)),(7,.sc (.int .i64 j))],(nx,⟨28,[.sc (.int .i64 h),.sc (.int .i64 w),.sl o 0 h 1 none],false⟩)::(n0+1+1,⟨28,[.sc (.int .i64 0),.sc (.int .i64 0),.sc (.slice none 0 0)],false⟩)::(n0+1,⟨68,[.sc (.bool (decide (k<0))),.im (lv (limbsOf k.natAbs)) (limbsOf k.natAbs).length],false⟩)::(n0,⟨28,[.sc (.int .i64 h),.sc (.int .i64 w),.im (imR w (rI A)) h],false⟩)::(o,⟨41,slR 2 w ids,false⟩)::rowsH 68 ids (rI (mkM h w (Sf A k i j))),nx+1,43⟩)
    (fun j=>j<=w) (fun j=>w-j) 0 ?_ ?_ ?_
   ·exact qM
   ·exact znc _
   ·intro j hj K2 hK2
    by_cases hc2:j<w
    ·have q2:=decide_eq_true (p:=(j:Int)<(w:Int)) om
     have gi:=slR_get (z:=2) (m:=w) (ids:=ids) (k:=i) om
     have hfx:=hA.fit hc hc2
     obtain⟨gR,gl,gd,gs,hrs⟩:=cellF (ty:=68) (f:=Sf A k i j) (z:=ent2 A i j*k) (j:=j) hR.nod hidl hc hc2
     have e1:(mkM h w fun r c=>if r=i/\c=j then ent2 A i j*k else Sf A k i j r c)=mkM h w (Sf A k i (j+1)):=mkM_congr fun r c _ _=>by
      unfold Sf
      by_cases e:r=i/\c=j
      ·obtain⟨rfl,rfl⟩:=e
       rw[if_pos ⟨rfl,rfl⟩,if_pos om]
      ·rw[if_neg e]
       by_cases e2:r<i\/(r=i/\c<j)
       ·rw[if_pos e2,if_pos om]
       ·rw[if_neg e2,if_neg om]
     rw[e1]at hrs
     have gAi:=imI_get (w:=w) (M:=A) (i:=i) om
     have hAi:=hA.get hc
     have gdA:=ivR_drop (l:=A.getD i []) (i:=j) om
     have glA:=ivR_len (A.getD i [])
     have hx:(A.getD i []).getD j 0=ent2 A i j:=rfl
     rw[hx]at gdA hfx
     rw[hAi.1]at glA
     have c1:=mul_i (ent2 A i j) k K hfx hk om
     have hkl:=klB_rows (ty:=68) (rs:=rI (mkM h w (Sf A k i j))) (n:=nx+1) (fun j hj=>by have:=hR.lt j hj;omega)
     have hmem:=getD_mem' (ids:=ids) (k:=i) om
     have hidk:=hR.lt _ hmem
     have hne:ids.getD i 0≠o:=fun e=>hR.o2 (by rw[<-e];exact hmem)
     clear hfx e1 hx
     generalize hH:rowsH 68 ids (rI (mkM h w (Sf A k i j)))=H at*
     generalize mkR w (Sf A k i j i)=row at*
     generalize ids.getD i 0=idk at*
     generalize ent2 A i j=x at*
     generalize(ivR row).drop ((j+1)*2)=D1 at*
     generalize(ivR (A.getD i [])).drop ((j+1)*2)=D2 at*
     generalize ivR (A.getD i [])=RA at*
     generalize hRr:ivR row=RR at*
     unfold iv sv at c1
     unfold ivC sv at gs gd gdA
     simp only[zl8,zl7]at gd gdA
     have g2:j*2<RR.length:=by omega
     have g4:j*2<RA.length:=by omega
     refine qWDf (Q16 @q2 @g1 @gi @gR @gl @gd @gs @hrs @g2 @g4 @glA @gAi @gdA @gA @hkl @gD) ?_
     refine hK2 _ (j+1) ?_ om om
     exact qM
    ·have q2:=decide_eq_false (p:=(j:Int)<(w:Int)) om
     have hjw:j=w:=by omega
     subst hjw
     refine qWDf @q2 ?_
     refine hK1 _ (i+1) ?_ om om
     have e1:mkM h j (Sf A k i j)=mkM h j (Sf A k (i+1) 0):=mkM_congr fun r c _ hcj=>by
      unfold Sf
      by_cases e:r<i\/(r=i/\c<j)
      ·rw[if_pos e,if_pos om]
      ·rw[if_neg e,if_neg om]
     rw[e1]
     exact qM
  ·have q1:=decide_eq_false (p:=(i:Int)<(h:Int)) om
   have hih:i=h:=by omega
   subst hih
   have e1:mkM i w (Sf A k i 0)=scaleM i w A k:=mkM_congr fun r c hr _=>by
    unfold Sf
    rw[if_pos (.inl hr)]
   rw[e1]
   refine qWDf @q1 ?_
   refine retIQ_ret (.ag [.sc (.int .i64 i),.sc (.int .i64 w),.sl o 0 i 1 none]) ((o,⟨41,slR 2 w ids,false⟩)::rowsH 68 ids (rI (scaleM i w A k))) nx Tryz.results71 qT ⟨o,ids,?_,by rw[hml],rfl⟩ ?_
   ·rw[hml];exact⟨hR.len,hR.nod,fun j hj=>by have:=hR.lt j hj;omega,by omega,hR.o2⟩
   refine Le.rowsDown [] pre0 ⟨n0,hB,by omega⟩ om (fun j hj=>(hR.lt j hj).2) (rI_clo _) (less_new (less_new (less_new (less_new (fun id k hk=>hk) (fun id k hk=> ?_)) (fun id k hk=> ?_)) (fun id k hk=> ?_)) (fun id k hk=> ?_)) ?_
   ·rcases inR_rows (fun i hi=>hi) id k hk with e|e
    ·omega
    ·have:=hR.lt _ e;omega
   ·rcases inR_rows (fun i hi=>hi) id k hk with e|e
    ·omega
    ·have:=hR.lt _ e;omega
   ·rcases inR_rows (fun i hi=>hi) id k hk with e|e
    ·omega
    ·have:=hR.lt _ e;omega
   ·rcases inR_rows (fun i hi=>hi) id k hk with e|e
    ·omega
    ·have:=hR.lt _ e;omega
   ·refine mapSl_cons (x:= .ag [.sc (.int .i64 i),.sc (.int .i64 w),.sl o 0 i 1 none]) (by simp(disch:=omega) only[go_sem,↓reduceIte,zn1,zn2,zn3,zn4,zn5,zn6,reduceCtorEq,zn7,zi1,zi2,if_pos,if_neg,Int.reduceAdd]) (VMap.ag rfl fun j x y hx hy=> ?_) trivial
    match j,hx,hy with
    |0,hx,hy=>cases hx;cases hy;exact VMap.sc _
    |1,hx,hy=>cases hx;cases hy;exact VMap.sc _
    |2,hx,hy=>cases hx;cases hy;exact VMap.cap rfl om
end
section
open Go.RowKit
set_option maxRecDepth 8000 in
theorem rcopyI_q{h w K:Nat}{A:List (List Int)}(n0:Nat)(hA:MI h w K A)(hK:K<=90000000000)(hn:h<=1000000)(hw:w<=1000000):
  InlQ Tryz.prog 38 [mat w A] [] n0 (MatQ w A n0):=by
 have hA1:=hA.mono (Nat.le_add_right K 1)
 have c0:=rscale_q (n0+2) hA1 (k:=1) (by unfold Fits;exact Nat.one_lt_pow om om) om hn hw
 rw[scaleM_one hA1]at c0
 have hAl:=hA.len
 have c1:=of_i 1 om om
 have nx:=n0
 unfold iv sv at c1 c0
 unfold mat at c0⊢
 rw[hAl]at c0⊢
 refine InlQ.run Tryz.func38 rfl Tryz.ntmps38 (by simp) qT fun B hB=> ?_
 (repeat(first|refine DO.nilF (fun i=>i+1-nx) (by simp(disch:=omega) only[go_sem,↓reduceIte,zn1,zn2,zn3,zn4,zn5,zn6,reduceCtorEq,zn7,zi1,zi2,if_pos,if_neg,Int.reduceAdd,zld,zle,Option.map_some,Option.map_none,znd,zne,znf]<;>rfl) (by kernel_rfl) ?_|(with_reducible refine SC.condB qT ?_;first|with_reducible refine pickT ?_|with_reducible refine pickF ?_)|(with_reducible refine qO ?_)|((with_reducible apply SC.region);exact qT)|(with_reducible refine SC.draw Tab.mixed rfl ?_;(repeat(refine DO.run qT ?_));refine DO.nilF (fun i=>i+1-nx) (by simp(disch:=omega) only[go_sem,↓reduceIte,zn1,zn2,zn3,zn4,zn5,zn6,reduceCtorEq,zn7,zi1,zi2,if_pos,if_neg,Int.reduceAdd,zld,zle,Option.map_some,Option.map_none,znd,zne,znf]<;>rfl) (by kernel_rfl) ?_)))
 refine SC.drawT 2 (by simp only[zl3,zl4];rfl) (by simp only[zl9,zl2];rfl) Tab.mixed ?_ (by kernel_rfl) ?_
 ·simp(disch:=omega) only[go_sem,↓reduceIte,zn1,zn2,zn3,zn4,zn5,zn6,reduceCtorEq,zn7,zi1,zi2,if_pos,if_neg,Int.reduceAdd]
  intro id q hq
  repeat' (split at hq)
  all_goals first|omega|cases hq
 refine qWD ?_
 show SO _ _ _ _ _ _ _
 refine SO.inlQ qS (by rfl) qS qS (SInlQ.newR c0 ?_ ?_ ?_)
 ·exact klc om (klc om kln)
 ·exact fun x hp' nx' h=>matQ_new h
 rintro x hp' nx ⟨o,ids,hR,rfl,rfl⟩
 have ho:=hR.o1
 rw[hAl]at hR⊢
 refine qWD ?_
 refine retIQ_ret (.ag [.sc (.int .i64 h),.sc (.int .i64 w),.sl o 0 h 1 none]) ((o,⟨41,slR 2 w ids,false⟩)::rowsH 68 ids (rI A)) nx Tryz.results38 qT ⟨o,ids,?_,by rw[hAl],rfl⟩ ?_
 ·rw[hAl];exact⟨hR.len,hR.nod,fun j hj=>by have:=hR.lt j hj;omega,by omega,hR.o2⟩
 refine Le.rowsDown [] pre0 ⟨n0,hB,by omega⟩ om (fun j hj=>(hR.lt j hj).2) (rI_clo _) (less_new (less_new (fun id k hk=>hk) (fun id k hk=> ?_)) (fun id k hk=> ?_)) ?_
 ·rcases inR_rows (fun i hi=>hi) id k hk with e|e
  ·omega
  ·have:=hR.lt _ e;omega
 ·rcases inR_rows (fun i hi=>hi) id k hk with e|e
  ·omega
  ·have:=hR.lt _ e;omega
 ·refine mapSl_cons (x:= .ag [.sc (.int .i64 h),.sc (.int .i64 w),.sl o 0 h 1 none]) (by simp(disch:=omega) only[go_sem,↓reduceIte,zn1,zn2,zn3,zn4,zn5,zn6,reduceCtorEq,zn7,zi1,zi2,if_pos,if_neg,Int.reduceAdd]) (VMap.ag rfl fun j x y hx hy=> ?_) trivial
  match j,hx,hy with
  |0,hx,hy=>cases hx;cases hy;exact VMap.sc _
  |1,hx,hy=>cases hx;cases hy;exact VMap.sc _
  |2,hx,hy=>cases hx;cases hy;exact VMap.cap rfl om
end
section
open Go.RowKit
def matH(o w:Nat)(ids:List Nat)(M:List (List Int)):List (Nat×Blk):=(o,⟨41,slR 2 w ids,false⟩)::rowsH 68 ids (rI M)
def matT(o h w:Nat):V:= .ag [.sc (.int .i64 h),.sc (.int .i64 w),.sl o 0 h 1 none]
def workC(h w oM oU oV:Nat):List V:=[.sc (.int .i64 h),.sc (.int .i64 w),.sl oM 0 h 1 none,.sc (.int .i64 h),.sc (.int .i64 h),.sl oU 0 h 1 none,.sc (.int .i64 h),.sc (.int .i64 h),.sl oV 0 h 1 none]
def StP(n0 h w:Nat)(b0:Blk)(A:List (List Int))(L:Nat->Bool)(sl:List (Nat×V))(hp:List (Nat×Blk))(nx:Nat):Prop:=
 (L 1=false/\hp=[(n0,b0)]/\nx=n0+1)\/
 (∃oM a,L 1=true/\L 4=false/\RowsOk oM a h (n0+1) nx/\get sl 4=matT oM h w/\hp=[(n0,b0)]++matH oM w a A)\/
 (∃oM a n1 oU b,L 4=true/\L 7=false/\RowsOk oM a h (n0+1) n1/\RowsOk oU b h n1 nx/\get sl 4=matT oM h w/\get sl 7=matT oU h h/\hp=[(n0,b0)]++matH oM w a A++matH oU h b (idL h))\/
 (∃oM a n1 oU b n2 oV c,L 7=true/\L 8=false/\RowsOk oM a h (n0+1) n1/\RowsOk oU b h n1 n2/\RowsOk oV c h n2 nx/\get sl 4=matT oM h w/\get sl 7=matT oU h h/\get sl 10=matT oV h h/\hp=[(n0,b0)]++matH oM w a A++matH oU h b (idL h)++matH oV h c (idL h))\/
 (∃oM a n1 oU b n2 oV c,L 8=true/\L 9=false/\RowsOk oM a h (n0+1) n1/\RowsOk oU b h n1 n2/\RowsOk oV c h n2 nx/\get sl 11= .ag (workC h w oM oU oV)/\hp=[(n0,b0)]++matH oM w a A++matH oU h b (idL h)++matH oV h c (idL h))\/
 (∃oM a n1 oU b n2 oV c p,L 9=true/\L 10=false/\RowsOk oM a h (n0+1) n1/\RowsOk oU b h n1 n2/\RowsOk oV c h n2 p/\nx=p+1/\get sl 12= .pt p 0/\hp=(p,⟨111,workC h w oM oU oV,false⟩)::([(n0,b0)]++matH oM w a A++matH oU h b (idL h)++matH oV h c (idL h)))\/
 (∃oM a n1 oU b n2 oV c p,L 10=true/\RowsOk oM a h (n0+1) n1/\RowsOk oU b h n1 n2/\RowsOk oV c h n2 p/\nx=p+1/\get sl 2= .pt p 0/\hp=(p,⟨111,workC h w oM oU oV,false⟩)::([(n0,b0)]++matH oM w a A++matH oU h b (idL h)++matH oV h c (idL h)))
def StJ(n0 h w:Nat)(b0:Blk)(A:List (List Int))(L:Nat->Bool)(s:SS):Prop:=
 s.nt=13/\get s.sl 1= .pt n0 0/\(L 0=true->get s.sl 3= .ag b0.cs)/\(L 2=true->get s.sl 5= .pt n0 0)/\(L 3=true->get s.sl 6= .sc (.int .i64 h))/\(L 5=true->get s.sl 8= .pt n0 0)/\(L 6=true->get s.sl 9= .sc (.int .i64 h))/\hget s.hp n0=some b0/\StP n0 h w b0 A L s.sl s.hp s.nx
structure WOk(p oM oU oV:Nat)(a b c:List Nat)(h lo hi:Nat):Prop where
 la:a.length=h
 lb:b.length=h
 lc:c.length=h
 nod:(p::oM::oU::oV::(a++b++c)).Nodup
 rng: ∀i∈p::oM::oU::oV::(a++b++c),lo<=i/\i<hi
def wkH(p oM oU oV h w:Nat)(a b c:List Nat)(W:List (List Int)):List (Nat×Blk):=
 (p,⟨111,workC h w oM oU oV,false⟩)::(oM,⟨41,slR 2 w a,false⟩)::(oU,⟨41,slR 2 h b,false⟩)::(oV,⟨41,slR 2 h c,false⟩)::rowsH 68 (a++b++c) (rI W)
def WorkQ(h w:Nat)(W:List (List Int))(nx:Nat)(x:V)(hp':List (Nat×Blk))(nx':Nat):Prop:=
 ∃p oM oU oV a b c,WOk p oM oU oV a b c h nx nx'/\x= .pt p 0/\hp'=wkH p oM oU oV h w a b c W
theorem pushF{L:Nat->Bool}{i j t u:Nat}{sl:List (Nat×V)}{x v:V}(hij:j≠i)(htu:u≠t)(f:L j=true->get sl u=v):addL L i j=true->get ((t,x)::sl) u=v:=by
 intro e
 unfold addL at e
 rw[if_neg hij]at e
 simp only[get]
 rw[if_neg htu]
 exact f e
theorem addL_ne{L:Nat->Bool}{i j:Nat}(h:j≠i):addL L i j=L j:=by unfold addL;rw[if_neg h]
theorem addL_eq{L:Nat->Bool}{i:Nat}:addL L i i=true:=by unfold addL;rw[if_pos rfl]
theorem get_push{sl:List (Nat×V)}{t u:Nat}{x:V}(h:u≠t):get ((t,x)::sl) u=get sl u:=by simp only[get];rw[if_neg h]
theorem StP.push{n0 h w:Nat}{b0:Blk}{A:List (List Int)}{L:Nat->Bool}{sl:List (Nat×V)}{hp:List (Nat×Blk)}{nx i t:Nat}{x:V}(hi:i∈ [0,2,3,5,6])(ht:t∈ [3,5,6,8,9])(hP:StP n0 h w b0 A L sl hp nx):StP n0 h w b0 A (addL L i) ((t,x)::sl) hp nx:=by
 have i1:1≠i:=by rintro rfl;simp at hi
 have i4:4≠i:=by rintro rfl;simp at hi
 have i7:7≠i:=by rintro rfl;simp at hi
 have i8:8≠i:=by rintro rfl;simp at hi
 have i9:9≠i:=by rintro rfl;simp at hi
 have i10:10≠i:=by rintro rfl;simp at hi
 have t4:4≠t:=by rintro rfl;simp at ht
 have t7:7≠t:=by rintro rfl;simp at ht
 have t10:10≠t:=by rintro rfl;simp at ht
 have t11:11≠t:=by rintro rfl;simp at ht
 have t12:12≠t:=by rintro rfl;simp at ht
 have t2:2≠t:=by rintro rfl;simp at ht
 unfold StP at hP⊢
 simp only[addL_ne i1,addL_ne i4,addL_ne i7,addL_ne i8,addL_ne i9,addL_ne i10,get_push t4,get_push t7,get_push t10,get_push t11,get_push t12,get_push t2]
 exact hP
theorem rowsH_app{ty:TypeId}: ∀{a b:List Nat} {r q:List (List V)},a.length=r.length->rowsH ty (a++b) (r++q)=rowsH ty a r++rowsH ty b q
 |[],b,[],q,_=>rfl
 |x::a,b,y::r,q,h=>by
  rw[zl8,zl8,rowsH,rowsH,rowsH_app (by simpa using h)];rfl
theorem kl_mat{o w h lo hi:Nat}{ids:List Nat}{M:List (List Int)}(hR:RowsOk o ids h lo hi): ∀id k,hget (matH o w ids M) id=some k->lo<=id/\id<hi:=by
 intro id k hk
 rcases inR_rows (fun i hi=>hi) id k hk with e|e
 ·subst e;exact hR.o1
 ·exact hR.lt _ e
theorem kl_app{a b:List (Nat×Blk)}{n:Nat}(h1: ∀id k,hget a id=some k->id<n)(h2: ∀id k,hget b id=some k->id<n): ∀id k,hget (a++b) id=some k->id<n:=by
 intro id k hk
 rw[hget_app]at hk
 cases e:hget a id with
 |some q=>exact h1 id q e
 |none=>rw[e]at hk;exact h2 id k hk
theorem wok_of{oM oU oV h lo n1 n2 p:Nat}{a b c:List Nat}(p3:RowsOk oM a h lo n1)(p4:RowsOk oU b h n1 n2)(p5:RowsOk oV c h n2 p):WOk p oM oU oV a b c h lo (p+1):=by
 have ho:=p3.o1
 have ho2:=p4.o1
 have ho3:=p5.o1
 have mem: ∀i,i∈a++b++c->(i∈a/\lo<=i/\i<n1)\/(i∈b/\n1<=i/\i<n2)\/(i∈c/\n2<=i/\i<p):=by
  intro i hi
  rcases List.mem_append.1 hi with hi|hi
  ·rcases List.mem_append.1 hi with hi|hi
   ·exact .inl ⟨hi,p3.lt i hi⟩
   ·exact .inr (.inl ⟨hi,p4.lt i hi⟩)
  ·exact .inr (.inr ⟨hi,p5.lt i hi⟩)
 refine⟨p3.len,p4.len,p5.len,?_,?_⟩
 ·refine List.nodup_cons.2 ⟨fun hm=> ?_,List.nodup_cons.2 ⟨fun hm=> ?_,List.nodup_cons.2 ⟨fun hm=> ?_,List.nodup_cons.2 ⟨fun hm=> ?_,?_⟩⟩⟩⟩
  ·simp only[List.mem_cons]at hm
   rcases hm with e|e|e|e
   ·omega
   ·omega
   ·omega
   ·have:=mem p e;omega
  ·simp only[List.mem_cons]at hm
   rcases hm with e|e|e
   ·omega
   ·omega
   ·rcases mem oM e with⟨h1,_⟩|h1|h1
    ·exact p3.o2 h1
    ·omega
    ·omega
  ·simp only[List.mem_cons]at hm
   rcases hm with e|e
   ·omega
   ·rcases mem oU e with h1|⟨h1,_⟩|h1
    ·omega
    ·exact p4.o2 h1
    ·omega
  ·rcases mem oV hm with h1|h1|⟨h1,_⟩
   ·omega
   ·omega
   ·exact p5.o2 h1
  ·rw[List.nodup_append,List.nodup_append]
   refine⟨⟨p3.nod,p4.nod,fun x hx y hy=> ?_⟩,p5.nod,fun x hx y hy=> ?_⟩
   ·have:=p3.lt x hx;have:=p4.lt y hy;omega
   ·have:=mem x (List.mem_append_left _ hx)
    have h5:=p5.lt y hy
    rcases List.mem_append.1 hx with hx|hx
    ·have:=p3.lt x hx;omega
    ·have:=p4.lt x hx;omega
 ·intro i hi
  simp only[List.mem_cons]at hi
  rcases hi with rfl|rfl|rfl|rfl|hi
  ·omega
  ·omega
  ·omega
  ·omega
  ·have:=mem i hi;omega
theorem wk_heap{oM oU oV h w lo n0 n1 n2 p:Nat}{a b c:List Nat}{b0:Blk}{A U C:List (List Int)}(p3:RowsOk oM a h lo n1)(p4:RowsOk oU b h n1 n2)(p5:RowsOk oV c h n2 p)(hn:n0<lo)(hA:A.length=h)(hU:U.length=h)(hC:C.length=h):
  ∀id k,hget (wkH p oM oU oV h w a b c (A++U++C)) id=some k->hget ((p,⟨111,workC h w oM oU oV,false⟩)::([(n0,b0)]++matH oM w a A++matH oU h b U++matH oV h c C)) id=some k:=by
 have ho:=p3.o1
 have ho2:=p4.o1
 have ho3:=p5.o1
 have e1:rI (A++U++C)=rI A++rI U++rI C:=by simp[rI]
 have e2:rowsH 68 (a++b++c) (rI (A++U++C))=rowsH 68 a (rI A)++rowsH 68 b (rI U)++rowsH 68 c (rI C):=by
  rw[e1,rowsH_app (by rw[zl1,zl1,rI_len,rI_len,p3.len,p4.len];omega),rowsH_app (by rw[rI_len,p3.len];omega)]
 have na: ∀id,n1<=id->hget (rowsH 68 a (rI A)) id=none:=fun id h1=>rows_none fun hm=>by have:=p3.lt id hm;omega
 have nb: ∀id,n2<=id->hget (rowsH 68 b (rI U)) id=none:=fun id h1=>rows_none fun hm=>by have:=p4.lt id hm;omega
 have sa: ∀id k,hget (rowsH 68 a (rI A)) id=some k->lo<=id/\id<n1:=fun id k hk=>by
  obtain⟨q,q1,_,q3,_⟩:=rows_inv hk
  rw[<-q3];exact p3.lt _ (getD_mem' q1)
 have sb: ∀id k,hget (rowsH 68 b (rI U)) id=some k->n1<=id/\id<n2:=fun id k hk=>by
  obtain⟨q,q1,_,q3,_⟩:=rows_inv hk
  rw[<-q3];exact p4.lt _ (getD_mem' q1)
 have sc: ∀id k,hget (rowsH 68 c (rI C)) id=some k->n2<=id/\id<p:=fun id k hk=>by
  obtain⟨q,q1,_,q3,_⟩:=rows_inv hk
  rw[<-q3];exact p5.lt _ (getD_mem' q1)
 intro id k hk
 unfold wkH at hk
 rw[e2]at hk
 unfold matH
 simp only[hget,hget_app,zl8,zl7,zl6]at hk⊢
 by_cases c1:id=p
 ·rw[if_pos c1]at hk⊢;exact hk
 rw[if_neg c1]at hk⊢
 by_cases c2:id=oM
 ·rw[if_pos c2]at hk
  rw[if_neg om,if_pos c2];exact hk
 rw[if_neg c2]at hk
 by_cases c3:id=oU
 ·rw[if_pos c3]at hk
  rw[if_neg om,if_neg c2,na id om]
  simp only
  rw[if_pos c3];exact hk
 rw[if_neg c3]at hk
 by_cases c4:id=oV
 ·rw[if_pos c4]at hk
  rw[if_neg om,if_neg c2,na id om]
  simp only
  rw[if_neg c3,nb id om]
  simp only
  rw[if_pos c4];exact hk
 rw[if_neg c4]at hk
 have hlo:lo<=id:=by
  cases x1:hget (rowsH 68 a (rI A)) id with
  |some q=>exact(sa id q x1).1
  | none=>
   rw[x1]at hk
   simp only at hk
   cases x2:hget (rowsH 68 b (rI U)) id with
   |some q=>have:=sb id q x2;omega
   |none=>
    rw[x2]at hk
    simp only at hk
    have:=sc id k hk;omega
 rw[if_neg om,if_neg c2,if_neg c3,if_neg c4]
 exact hk
set_option maxRecDepth 8000 in
theorem hstart_q{h w K:Nat}{A:List (List Int)}(n0:Nat)(hA:MI h w K A)(hK:K<=90000000000)(hn:h<=1000000)(hw:w<=1000000):
  InlQ Tryz.prog 64 [mat w A] [] n0 (WorkQ h w (A++idL h++idL h) n0):=by
 have hAl:=hA.len
 have c1:=fun n=>rcopyI_q n hA hK hn hw
 have c2:=fun n=>rident_q h n hn
 unfold mat at c1⊢
 rw[hAl]at c1⊢
 refine InlQ.run Tryz.func64 rfl Tryz.ntmps64 (by simp) qT fun B hB=> ?_
 have nx:=n0
 refine qY ?_
 refine SC.inv (StJ n0 h w ⟨28,[.sc (.int .i64 h),.sc (.int .i64 w),.im (imR w (rI A)) h],false⟩ A) Tab.mixed (by kernel_rfl) ?_ ?_ ?_
 ·refine⟨rfl,rfl,(fun e=>by cases e),(fun e=>by cases e),(fun e=>by cases e),(fun e=>by cases e),(fun e=>by cases e),by simp[hget],.inl ⟨rfl,rfl,rfl⟩⟩
 ·intro L s i o hcl hJ ho hi hd
  obtain⟨sl,hp,m,nt⟩:=s
  obtain⟨hnt,g1,f0,f2,f3,f5,f6,hG,hP⟩:=hJ
  simp only at hnt g1 f0 f2 f3 f5 f6 hG hP
  subst hnt
  have k41:L 4=true->L 1=true:=fun e=>hcl 4 1 e (by kernel_rfl)
  have k74:L 7=true->L 4=true:=fun e=>hcl 7 4 e (by kernel_rfl)
  have k87:L 8=true->L 7=true:=fun e=>hcl 8 7 e (by kernel_rfl)
  have k98:L 9=true->L 8=true:=fun e=>hcl 9 8 e (by kernel_rfl)
  have k109:L 10=true->L 9=true:=fun e=>hcl 10 9 e (by kernel_rfl)
  match i,ho,hi,hd with
  |0,ho,hi,hd=>
   cases ho
   refine SO.run (qTf (Q2 @g1 @hG)) (SO.nil ?_)
   exact⟨rfl,g1,fun _=>rfl,pushF (by decide) (by decide) f2,pushF (by decide) (by decide) f3,pushF (by decide) (by decide) f5,pushF (by decide) (by decide) f6,hG,hP.push (by decide) (by decide)⟩
  |2,ho,hi,hd=>
   cases ho
   refine SO.run (qTf (Q2 @g1 @hG)) (SO.nil ?_)
   exact⟨rfl,g1,pushF (by decide) (by decide) f0,fun _=>rfl,pushF (by decide) (by decide) f3,pushF (by decide) (by decide) f5,pushF (by decide) (by decide) f6,hG,hP.push (by decide) (by decide)⟩
  |3,ho,hi,hd=>
   cases ho
   have f2':=f2 (hd 2 (by kernel_rfl))
   refine SO.run (qTf (Q3 @g1 @hG @f2')) (SO.nil ?_)
   exact⟨rfl,g1,pushF (by decide) (by decide) f0,pushF (by decide) (by decide) f2,fun _=>rfl,pushF (by decide) (by decide) f5,pushF (by decide) (by decide) f6,hG,hP.push (by decide) (by decide)⟩
  |5,ho,hi,hd=>
   cases ho
   refine SO.run (qTf (Q2 @g1 @hG)) (SO.nil ?_)
   exact⟨rfl,g1,pushF (by decide) (by decide) f0,pushF (by decide) (by decide) f2,pushF (by decide) (by decide) f3,fun _=>rfl,pushF (by decide) (by decide) f6,hG,hP.push (by decide) (by decide)⟩
  |6,ho,hi,hd=>
   cases ho
   have f5':=f5 (hd 5 (by kernel_rfl))
   refine SO.run (qTf (Q3 @g1 @hG @f5')) (SO.nil ?_)
   exact⟨rfl,g1,pushF (by decide) (by decide) f0,pushF (by decide) (by decide) f2,pushF (by decide) (by decide) f3,pushF (by decide) (by decide) f5,fun _=>rfl,hG,hP.push (by decide) (by decide)⟩
  | 1,ho,hi,hd=>
   cases ho
   have f0':=f0 (hd 0 (by kernel_rfl))
   rcases hP with⟨_,rfl,rfl⟩|⟨_,_,e,_⟩|⟨_,_,_,_,_,e,_⟩|⟨_,_,_,_,_,_,_,_,e,_⟩|⟨_,_,_,_,_,_,_,_,e,_⟩|⟨_,_,_,_,_,_,_,_,_,e,_⟩|⟨_,_,_,_,_,_,_,_,_,e,_⟩
   ·refine SO.inlQ qS (by rfl) (qSf @f0') qS (SInlQ.newR (c1 (n0+1)) ?_ ?_ ?_)
    ·exact klc om kln
    ·exact fun x hp' nx' h=>matQ_new h
    rintro x hp' nx' ⟨o,ids,hR,rfl,rfl⟩
    rw[hAl]at hR⊢
    refine SO.nil ?_
    refine⟨rfl,g1,pushF (by decide) (by decide) f0,pushF (by decide) (by decide) f2,pushF (by decide) (by decide) f3,pushF (by decide) (by decide) f5,pushF (by decide) (by decide) f6,by simp[hget],.inr (.inl ⟨o,ids,addL_eq,?_,hR,rfl,rfl⟩)⟩
    rw[addL_ne (by decide)]
    cases h4:L 4 with
    |false=>rfl
    |true=>rw[k41 h4]at hi;cases hi
   all_goals(exfalso;simp_all)
  | 4,ho,hi,hd=>
   cases ho
   have f3':=f3 (hd 3 (by kernel_rfl))
   have d1:=hd 1 (by kernel_rfl)
   rcases hP with⟨e,_⟩|⟨oM,a,p1,p2,p3,p4,rfl⟩|⟨oM,a,n1,oU,b,p1,p2,p3,p4,p5,p6,rfl⟩|⟨oM,a,n1,oU,b,n2,oV,c,p1,p2,p3,p4,p5,p6,p7,p8,rfl⟩|⟨oM,a,n1,oU,b,n2,oV,c,p1,p2,p3,p4,p5,p6,rfl⟩|⟨oM,a,n1,oU,b,n2,oV,c,p,p1,p2,p3,p4,p5,rfl,p6,rfl⟩|⟨oM,a,n1,oU,b,n2,oV,c,p,p1,p3,p4,p5,rfl,p6,rfl⟩
   ·rw[d1]at e;cases e
   ·have q1:=kl_mat (w:=w) (M:=A) p3
    have ho:=p3.o1
    refine SO.inlQ qS (by rfl) (qSf @f3') qS (SInlQ.newR (c2 m) ?_ ?_ ?_)
    ·exact kl_app (klc om kln) fun id k hk=>(q1 id k hk).2
    ·exact fun x hp' nx' h=>matQ_new h
    rintro x hp' nx' ⟨o,ids,hR,rfl,rfl⟩
    have hil:(idL h).length=h:=mkM_len
    rw[hil]at hR⊢
    refine SO.nil ?_
    refine⟨rfl,g1,pushF (by decide) (by decide) f0,pushF (by decide) (by decide) f2,pushF (by decide) (by decide) f3,pushF (by decide) (by decide) f5,pushF (by decide) (by decide) f6,by simp[hget],.inr (.inr (.inl ⟨oM,a,m,o,ids,addL_eq,?_,p3,hR,(get_push (by decide)).trans p4,rfl,rfl⟩))⟩
    rw[addL_ne (by decide)]
    cases h4:L 7 with
    |false=>rfl
    |true=>rw[k74 h4]at hi;cases hi
   ·rw[hi]at p1;cases p1
   ·rw[k74 p1]at hi;cases hi
   ·rw[k74 (k87 p1)]at hi;cases hi
   ·rw[k74 (k87 (k98 p1))]at hi;cases hi
   ·rw[k74 (k87 (k98 (k109 p1)))]at hi;cases hi
  | 7,ho,hi,hd=>
   cases ho
   have f6':=f6 (hd 6 (by kernel_rfl))
   have d1:=hd 4 (by kernel_rfl)
   rcases hP with⟨e,_⟩|⟨oM,a,p1,p2,p3,p4,rfl⟩|⟨oM,a,n1,oU,b,p1,p2,p3,p4,p5,p6,rfl⟩|⟨oM,a,n1,oU,b,n2,oV,c,p1,p2,p3,p4,p5,p6,p7,p8,rfl⟩|⟨oM,a,n1,oU,b,n2,oV,c,p1,p2,p3,p4,p5,p6,rfl⟩|⟨oM,a,n1,oU,b,n2,oV,c,p,p1,p2,p3,p4,p5,rfl,p6,rfl⟩|⟨oM,a,n1,oU,b,n2,oV,c,p,p1,p3,p4,p5,rfl,p6,rfl⟩
   ·rw[k41 d1]at e;cases e
   ·rw[d1]at p2;cases p2
   ·have q1:=kl_mat (w:=w) (M:=A) p3
    have q2:=kl_mat (w:=h) (M:=idL h) p4
    have ho:=p3.o1
    have ho2:=p4.o1
    refine SO.inlQ qS (by rfl) (qSf @f6') qS (SInlQ.newR (c2 m) ?_ ?_ ?_)
    ·exact kl_app (kl_app (klc om kln) fun id k hk=>by have:=q1 id k hk;omega) fun id k hk=>(q2 id k hk).2
    ·exact fun x hp' nx' h=>matQ_new h
    rintro x hp' nx' ⟨o,ids,hR,rfl,rfl⟩
    have hil:(idL h).length=h:=mkM_len
    rw[hil]at hR⊢
    refine SO.nil ?_
    refine⟨rfl,g1,pushF (by decide) (by decide) f0,pushF (by decide) (by decide) f2,pushF (by decide) (by decide) f3,pushF (by decide) (by decide) f5,pushF (by decide) (by decide) f6,by simp[hget],.inr (.inr (.inr (.inl ⟨oM,a,n1,oU,b,m,o,ids,addL_eq,?_,p3,p4,hR,(get_push (by decide)).trans p5,(get_push (by decide)).trans p6,rfl,rfl⟩)))⟩
    rw[addL_ne (by decide)]
    cases h4:L 8 with
    |false=>rfl
    |true=>rw[k87 h4]at hi;cases hi
   ·rw[hi]at p1;cases p1
   ·rw[k87 p1]at hi;cases hi
   ·rw[k87 (k98 p1)]at hi;cases hi
   ·rw[k87 (k98 (k109 p1))]at hi;cases hi
  | 8,ho,hi,hd=>
   cases ho
   have d1:=hd 7 (by kernel_rfl)
   rcases hP with⟨e,_⟩|⟨oM,a,p1,p2,p3,p4,rfl⟩|⟨oM,a,n1,oU,b,p1,p2,p3,p4,p5,p6,rfl⟩|⟨oM,a,n1,oU,b,n2,oV,c,p1,p2,p3,p4,p5,p6,p7,p8,rfl⟩|⟨oM,a,n1,oU,b,n2,oV,c,p1,p2,p3,p4,p5,p6,rfl⟩|⟨oM,a,n1,oU,b,n2,oV,c,p,p1,p2,p3,p4,p5,rfl,p6,rfl⟩|⟨oM,a,n1,oU,b,n2,oV,c,p,p1,p3,p4,p5,rfl,p6,rfl⟩
   ·rw[k41 (k74 d1)]at e;cases e
   ·rw[k74 d1]at p2;cases p2
   ·rw[d1]at p2;cases p2
   ·unfold matT at p6 p7 p8
    refine SO.run (qTf (Q3 @p6 @p7 @p8)) (SO.nil ?_)
    refine⟨rfl,g1,pushF (by decide) (by decide) f0,pushF (by decide) (by decide) f2,pushF (by decide) (by decide) f3,pushF (by decide) (by decide) f5,pushF (by decide) (by decide) f6,by simp[hget],.inr (.inr (.inr (.inr (.inl ⟨oM,a,n1,oU,b,n2,oV,c,addL_eq,?_,p3,p4,p5,rfl,rfl⟩))))⟩
    rw[addL_ne (by decide)]
    cases h4:L 9 with
    |false=>rfl
    |true=>rw[k98 h4]at hi;cases hi
   ·rw[hi]at p1;cases p1
   ·rw[k98 p1]at hi;cases hi
   ·rw[k98 (k109 p1)]at hi;cases hi
  | 9,ho,hi,hd=>
   cases ho
   have d1:=hd 8 (by kernel_rfl)
   rcases hP with⟨e,_⟩|⟨oM,a,p1,p2,p3,p4,rfl⟩|⟨oM,a,n1,oU,b,p1,p2,p3,p4,p5,p6,rfl⟩|⟨oM,a,n1,oU,b,n2,oV,c,p1,p2,p3,p4,p5,p6,p7,p8,rfl⟩|⟨oM,a,n1,oU,b,n2,oV,c,p1,p2,p3,p4,p5,p6,rfl⟩|⟨oM,a,n1,oU,b,n2,oV,c,p,p1,p2,p3,p4,p5,rfl,p6,rfl⟩|⟨oM,a,n1,oU,b,n2,oV,c,p,p1,p3,p4,p5,rfl,p6,rfl⟩
   ·rw[k41 (k74 (k87 d1))]at e;cases e
   ·rw[k74 (k87 d1)]at p2;cases p2
   ·rw[k87 d1]at p2;cases p2
   ·rw[d1]at p2;cases p2
   ·unfold workC at p6
    refine SO.run (qTf @p6) (SO.nil ?_)
    have ho:=p3.o1
    have ho2:=p4.o1
    have ho3:=p5.o1
    refine⟨rfl,g1,pushF (by decide) (by decide) f0,pushF (by decide) (by decide) f2,pushF (by decide) (by decide) f3,pushF (by decide) (by decide) f5,pushF (by decide) (by decide) f6,?_,.inr (.inr (.inr (.inr (.inr (.inl ⟨oM,a,n1,oU,b,n2,oV,c,m,addL_eq,?_,p3,p4,p5,rfl,rfl,rfl⟩)))))⟩
    ·exact(if_neg om).trans hG
    rw[addL_ne (by decide)]
    cases h4:L 10 with
    |false=>rfl
    |true=>rw[k109 h4]at hi;cases hi
   ·rw[hi]at p1;cases p1
   ·rw[k109 p1]at hi;cases hi
  | 10,ho,hi,hd=>
   cases ho
   have d1:=hd 9 (by kernel_rfl)
   rcases hP with⟨e,_⟩|⟨oM,a,p1,p2,p3,p4,rfl⟩|⟨oM,a,n1,oU,b,p1,p2,p3,p4,p5,p6,rfl⟩|⟨oM,a,n1,oU,b,n2,oV,c,p1,p2,p3,p4,p5,p6,p7,p8,rfl⟩|⟨oM,a,n1,oU,b,n2,oV,c,p1,p2,p3,p4,p5,p6,rfl⟩|⟨oM,a,n1,oU,b,n2,oV,c,p,p1,p2,p3,p4,p5,rfl,p6,rfl⟩|⟨oM,a,n1,oU,b,n2,oV,c,p,p1,p3,p4,p5,rfl,p6,rfl⟩
   ·rw[k41 (k74 (k87 (k98 d1)))]at e;cases e
   ·rw[k74 (k87 (k98 d1))]at p2;cases p2
   ·rw[k87 (k98 d1)]at p2;cases p2
   ·rw[k98 d1]at p2;cases p2
   ·rw[d1]at p2;cases p2
   ·refine SO.run (qTf @p6) (SO.nil ?_)
    exact⟨rfl,g1,pushF (by decide) (by decide) f0,pushF (by decide) (by decide) f2,pushF (by decide) (by decide) f3,pushF (by decide) (by decide) f5,pushF (by decide) (by decide) f6,hG,.inr (.inr (.inr (.inr (.inr (.inr ⟨oM,a,n1,oU,b,n2,oV,c,p,addL_eq,p3,p4,p5,rfl,rfl,rfl⟩)))))⟩
   ·rw[hi]at p1;cases p1
  |n+11,ho,hi,hd=>cases ho
 ·intro L s hL hJ
  obtain⟨sl,hp,m,nt⟩:=s
  obtain⟨hnt,g1,f0,f2,f3,f5,f6,hG,hP⟩:=hJ
  simp only at hnt g1 f0 f2 f3 f5 f6 hG hP
  subst hnt
  have l1:L 1=true:=hL 1 (by decide)
  have l4:L 4=true:=hL 4 (by decide)
  have l7:L 7=true:=hL 7 (by decide)
  have l8:L 8=true:=hL 8 (by decide)
  have l9:L 9=true:=hL 9 (by decide)
  have l10:L 10=true:=hL 10 (by decide)
  rcases hP with⟨e,_⟩|⟨oM,a,p1,p2,p3,p4,rfl⟩|⟨oM,a,n1,oU,b,p1,p2,p3,p4,p5,p6,rfl⟩|⟨oM,a,n1,oU,b,n2,oV,c,p1,p2,p3,p4,p5,p6,p7,p8,rfl⟩|⟨oM,a,n1,oU,b,n2,oV,c,p1,p2,p3,p4,p5,p6,rfl⟩|⟨oM,a,n1,oU,b,n2,oV,c,p,p1,p2,p3,p4,p5,rfl,p6,rfl⟩|⟨oM,a,n1,oU,b,n2,oV,c,p,p1,p3,p4,p5,rfl,p6,rfl⟩
  ·rw[l1]at e;cases e
  ·rw[l4]at p2;cases p2
  ·rw[l7]at p2;cases p2
  ·rw[l8]at p2;cases p2
  ·rw[l9]at p2;cases p2
  ·rw[l10]at p2;cases p2
  ·have ho:=p3.o1
   have hil:(idL h).length=h:=mkM_len
   refine qY ?_
   refine retIQ_ret (.pt p 0) (wkH p oM oU oV h w a b c (A++idL h++idL h)) (p+1) Tryz.results64 (qTf @p6) ⟨p,oM,oU,oV,a,b,c,?_,rfl,rfl⟩ ?_
   ·have hw:=wok_of p3 p4 p5
    exact⟨hw.la,hw.lb,hw.lc,hw.nod,fun i hi=>by have:=hw.rng i hi;omega⟩
   ·refine Le.slots ?_ (wk_heap p3 p4 p5 om hAl hil hil) (znb _)
    exact leSl_cons rfl (VLe.refl rfl) leSl_nil
end
section
open Go.RowKit
structure WIds(p oM oU oV:Nat)(a b c:List Nat)(h nx:Nat):Prop where
 la:a.length=h
 lb:b.length=h
 lc:c.length=h
 nod:(p::oM::oU::oV::(a++b++c)).Nodup
 rng: ∀i∈p::oM::oU::oV::(a++b++c),i<nx
structure WI(h w K:Nat)(W:List (List Int)):Prop where
 len:W.length=3*h
 rowM: ∀q,q<h->(W.getD q []).length=w
 rowU: ∀q,h<=q->q<3*h->(W.getD q []).length=h
 fit: ∀q t,Fits K ((W.getD q []).getD t 0)
theorem WI.mono{h w K L:Nat}{W:List (List Int)}(hW:WI h w K W)(hl:K<=L):WI h w L W:=⟨hW.len,hW.rowM,hW.rowU,fun q t=>(hW.fit q t).mono hl⟩
theorem fits0{K:Nat}:Fits K 0:=by unfold Fits;exact Nat.pow_pos om
theorem WI.set{h w K q:Nat}{W:List (List Int)}{r:List Int}(hW:WI h w K W)(hq:q<3*h)(hr:r.length=(W.getD q []).length)(hf: ∀t,Fits K (r.getD t 0)):WI h w K (W.set q r):=by
 have hl:=hW.len
 refine⟨by rw[List.length_set];exact hl,fun i hi=> ?_,fun i h1 h2=> ?_,fun i t=> ?_⟩
 ·rw[getD_set om]
  split
  ·rename_i e;rw[hr,<-e];exact hW.rowM i hi
  ·exact hW.rowM i hi
 ·rw[getD_set om]
  split
  ·rename_i e;rw[hr,<-e];exact hW.rowU i h1 h2
  ·exact hW.rowU i h1 h2
 ·rw[getD_set om]
  split
  ·exact hf t
  ·exact hW.fit i t
theorem nodup_four{p oM oU oV:Nat}{l:List Nat}(h:(p::oM::oU::oV::l).Nodup):p≠oM/\p≠oU/\p≠oV/\oM≠oU/\oM≠oV/\oU≠oV/\p∉l/\oM∉l/\oU∉l/\oV∉l/\l.Nodup:=by
 simp only[List.nodup_cons,List.mem_cons,not_or]at h
 obtain⟨⟨h1,h2,h3,h4⟩,⟨h5,h6,h7⟩,⟨h8,h9⟩,h10,h11⟩:=h
 exact⟨h1,h2,h3,h5,h6,h8,h4,h7,h9,h10,h11⟩
theorem getD_app1{a b:List Nat}{i:Nat}(h:i<a.length):(a++b).getD i 0=a.getD i 0:=by
 rw[List.getD_eq_getElem?_getD,List.getElem?_append_left h,List.getD_eq_getElem?_getD]
theorem getD_app2{a b:List Nat}{i:Nat}:(a++b).getD (a.length+i) 0=b.getD i 0:=by
 rw[List.getD_eq_getElem?_getD,List.getElem?_append_right om,znd,List.getD_eq_getElem?_getD]
section
variable {p oM oU oV h w K nx:Nat} {a b c:List Nat} {W:List (List Int)}
theorem WIds.iM(hI:WIds p oM oU oV a b c h nx){i:Nat}(hi:i<h):(a++b++c).getD i 0=a.getD i 0:=by
 have:=hI.la;have:=hI.lb
 rw[getD_app1 (by rw[zl1];omega),getD_app1 om]
theorem WIds.iU(hI:WIds p oM oU oV a b c h nx){i:Nat}(hi:i<h):(a++b++c).getD (h+i) 0=b.getD i 0:=by
 have h1:=hI.la;have:=hI.lb
 rw[getD_app1 (by rw[zl1];omega)]
 have:=getD_app2 (a:=a) (b:=b) (i:=i)
 rwa[h1]at this
theorem WIds.iV(hI:WIds p oM oU oV a b c h nx){i:Nat}:(a++b++c).getD (2*h+i) 0=c.getD i 0:=by
 have h1:=hI.la;have h2:=hI.lb
 have:=getD_app2 (a:=a++b) (b:=c) (i:=i)
 rwa[zl1,h1,h2,<-Nat.two_mul]at this
theorem WIds.row(hI:WIds p oM oU oV a b c h nx)(hl:W.length=3*h){q:Nat}(hq:q<3*h):
  hget (rowsH 68 (a++b++c) (rI W)) ((a++b++c).getD q 0)=some ⟨68,ivR (W.getD q []),false⟩/\(a++b++c).getD q 0<nx/\(a++b++c).getD q 0≠p/\(a++b++c).getD q 0≠oM/\(a++b++c).getD q 0≠oU/\(a++b++c).getD q 0≠oV:=by
 obtain⟨_,_,_,_,_,_,n1,n2,n3,n4,n5⟩:=nodup_four hI.nod
 have hll:(a++b++c).length=3*h:=by rw[zl1,zl1,hI.la,hI.lb,hI.lc];omega
 have hm:=getD_mem' (ids:=a++b++c) (k:=q) om
 have hg:=rows_get (ty:=68) (rs:=rI W) (k:=q) n5 om (by rw[rI_len];omega)
 rw[rI_getD]at hg
 refine⟨hg,hI.rng _ (by simp only[List.mem_cons];exact .inr (.inr (.inr (.inr hm)))),fun e=>n1 (e▸hm),fun e=>n2 (e▸hm),fun e=>n3 (e▸hm),fun e=>n4 (e▸hm)⟩
theorem WIds.rowF(hI:WIds p oM oU oV a b c h nx)(hl:W.length=3*h){q:Nat}(hq:q<3*h):
  hget (rowsH 68 (a++b++c) (rI W)) ((a++b++c).getD q 0)=some ⟨68,ivR (W.getD q []),false⟩/\(a++b++c).getD q 0<nx/\((a++b++c).getD q 0=p)=False/\((a++b++c).getD q 0=oM)=False/\((a++b++c).getD q 0=oU)=False/\((a++b++c).getD q 0=oV)=False:=by
 obtain⟨h1,h2,h3,h4,h5,h6⟩:=hI.row hl hq
 exact⟨h1,h2,eq_false h3,eq_false h4,eq_false h5,eq_false h6⟩
theorem WIds.nes(hI:WIds p oM oU oV a b c h nx):(oM=p)=False/\(oU=p)=False/\(oU=oM)=False/\(oV=p)=False/\(oV=oM)=False/\(oV=oU)=False:=by
 obtain⟨z1,z2,z3,z4,z5,z6,_⟩:=nodup_four hI.nod
 exact⟨eq_false z1.symm,eq_false z2.symm,eq_false z4.symm,eq_false z3.symm,eq_false z5.symm,eq_false z6.symm⟩
theorem WIds.rset(hI:WIds p oM oU oV a b c h nx)(hl:W.length=3*h){q:Nat}(hq:q<3*h)(r:List Int):
  hset (rowsH 68 (a++b++c) (rI W)) ((a++b++c).getD q 0) ⟨68,ivR r,false⟩=rowsH 68 (a++b++c) (rI (W.set q r)):=by
 obtain⟨_,_,_,_,_,_,_,_,_,_,n5⟩:=nodup_four hI.nod
 have hll:(a++b++c).length=3*h:=by rw[zl1,zl1,hI.la,hI.lb,hI.lc];omega
 have hs:=rows_set (ty:=68) (rs:=rI W) (k:=q) (r:=ivR r) n5 om (by rw[rI_len];omega)
 rwa[rI_set]at hs
theorem WIds.ne(hI:WIds p oM oU oV a b c h nx){q t:Nat}(hq:q<3*h)(ht:t<3*h)(hqt:q≠t):(a++b++c).getD q 0≠(a++b++c).getD t 0:=by
 obtain⟨_,_,_,_,_,_,_,_,_,_,n5⟩:=nodup_four hI.nod
 have hll:(a++b++c).length=3*h:=by rw[zl1,zl1,hI.la,hI.lb,hI.lc];omega
 exact fun e=>hqt (nodup_getD n5 om om e)
theorem WIds.kl(hI:WIds p oM oU oV a b c h nx){m:Nat}(hm:nx<=m):klB (rowsH 68 (a++b++c) (rI W)) m=true:=
 klB_rows fun j hj=>Nat.lt_of_lt_of_le (hI.rng j (by simp only[List.mem_cons];exact .inr (.inr (.inr (.inr hj))))) hm
theorem WIds.lts(hI:WIds p oM oU oV a b c h nx):p<nx/\oM<nx/\oU<nx/\oV<nx:=⟨hI.rng _ (by simp),hI.rng _ (by simp),hI.rng _ (by simp),hI.rng _ (by simp)⟩
theorem Le.wkDown{B:Base}{sl sl':List (Nat×V)}{hp:List (Nat×Blk)}{nx1 nt:Nat}(hB: ∃m,B.Old m/\m<=nx)(hI:WIds p oM oU oV a b c h nx)
  (hs: ∀id k,hget (wkH p oM oU oV h w a b c W) id=some k->hget hp id=some k) (h1:mapSl (fun i=>i) (fun i=>i<nx) sl sl'):
  Le B ⟨sl,hp,nx1,nt⟩ ⟨sl',wkH p oM oU oV h w a b c W,nx,nt⟩:=by
 obtain⟨m0,hB,hm0⟩:=hB
 obtain⟨l1,l2,l3,l4⟩:=hI.lts
 have lr: ∀i∈a++b++c,i<nx:=fun i hi=>hI.rng i (by simp only[List.mem_cons];exact .inr (.inr (.inr (.inr hi))))
 refine Le.map (fun i=>i) (fun i=>i<nx) hB (fun i hi=>⟨by omega,rfl⟩) (fun i h=>h) (fun i j _ _ e=>e) h1 (fun i k' hk' hlt=> ?_)
 rw[hs i k' hk']
 unfold wkH at hk'
 simp only[hget]at hk'
 split at hk'
 ·cases hk'
  exact BMap.list (mapL_cons (VMap.sc _) (mapL_cons (VMap.sc _) (mapL_cons (VMap.sl rfl l2) (mapL_cons (VMap.sc _) (mapL_cons (VMap.sc _) (mapL_cons (VMap.sl rfl l3) (mapL_cons (VMap.sc _) (mapL_cons (VMap.sc _) (mapL_cons (VMap.sl rfl l4) mapL_nil)))))))))
 split at hk'
 ·cases hk'
  refine⟨_,rfl,rfl,rfl,fun j y hy=>⟨y,hy,?_⟩⟩
  obtain⟨q,hq,rfl⟩:=List.mem_map.1 (List.mem_of_getElem? hy)
  exact VMap.sl rfl (lr q (List.mem_append_left _ (List.mem_append_left _ hq)))
 split at hk'
 ·cases hk'
  refine⟨_,rfl,rfl,rfl,fun j y hy=>⟨y,hy,?_⟩⟩
  obtain⟨q,hq,rfl⟩:=List.mem_map.1 (List.mem_of_getElem? hy)
  exact VMap.sl rfl (lr q (List.mem_append_left _ (List.mem_append_right _ hq)))
 split at hk'
 ·cases hk'
  refine⟨_,rfl,rfl,rfl,fun j y hy=>⟨y,hy,?_⟩⟩
  obtain⟨q,hq,rfl⟩:=List.mem_map.1 (List.mem_of_getElem? hy)
  exact VMap.sl rfl (lr q (List.mem_append_right _ hq))
 ·obtain⟨q,q1,q2,q3,rfl⟩:=rows_inv hk'
  exact BMap.clo (rI_clo W _ (by rw[List.getD_eq_getElem?_getD,zlb q2];exact List.getElem_mem q2))
theorem wk_lt(hI:WIds p oM oU oV a b c h nx): ∀id k,hget (wkH p oM oU oV h w a b c W) id=some k->id<nx:=by
 obtain⟨l1,l2,l3,l4⟩:=hI.lts
 intro id k hk
 unfold wkH at hk
 simp only[hget]at hk
 split at hk
 ·omega
 split at hk
 ·omega
 split at hk
 ·omega
 split at hk
 ·omega
 ·obtain⟨q,q1,_,q3,_⟩:=rows_inv hk
  rw[<-q3];exact hI.rng _ (by simp only[List.mem_cons];exact .inr (.inr (.inr (.inr (getD_mem' q1)))))
end
end
section
open Go.RowKit
theorem fits_mulL{K L:Nat}{y k:Int}(hy:Fits K y)(hk:Fits L k):Fits (K+L) (k*y):=by
 unfold Fits at*
 rw[Int.natAbs_mul,Nat.pow_add]
 calc k.natAbs*y.natAbs=y.natAbs*k.natAbs:=Nat.mul_comm _ _
  _<4294967296^K*4294967296^L:=Nat.mul_lt_mul'' hy hk
theorem fits_sum{K:Nat}{x y:Int}(hx:Fits K x)(hy:Fits K y):Fits (K+1) (x+y):=by
 unfold Fits at*
 have h1:=Int.natAbs_add_le x y
 have h3:0<4294967296^K:=Nat.pow_pos om
 rw[Nat.pow_succ]
 generalize 4294967296^K=T at*
 omega
theorem fits_neg{K:Nat}{x:Int}(hx:Fits K x):Fits K (-x):=by unfold Fits at*;rwa[Int.natAbs_neg]
theorem fits_addL{K L:Nat}{x y k:Int}(hx:Fits K x)(hy:Fits K y)(hk:Fits L k):Fits (K+L+1) (x+k*y):=fits_sum (hx.mono om) (fits_mulL hy hk)
theorem fits_subL{K L:Nat}{x y k:Int}(hx:Fits K x)(hy:Fits K y)(hk:Fits L k):Fits (K+L+1) (x-k*y):=by
 rw[Int.sub_eq_add_neg];exact fits_sum (hx.mono om) (fits_neg (fits_mulL hy hk))
def colPre(h i j:Nat)(k:Int)(r:Nat)(W:List (List Int)):List (List Int):=W.mapIdx fun q row=>if 2*h<=q/\q<2*h+r then row.set j (row.getD j 0-k*row.getD i 0)else row
theorem colPre_len{h i j:Nat}{k:Int}{r:Nat}{W:List (List Int)}:(colPre h i j k r W).length=W.length:=by simp[colPre]
theorem colPre_get{h i j:Nat}{k:Int}{r q:Nat}{W:List (List Int)}(hq:q<W.length):(colPre h i j k r W).getD q []=if 2*h<=q/\q<2*h+r then(W.getD q []).set j ((W.getD q []).getD j 0-k*(W.getD q []).getD i 0)else W.getD q []:=by
 unfold colPre
 rw[List.getD_eq_getElem?_getD,List.getElem?_mapIdx,getD_get' (d:=[]) hq];rfl
theorem rows_ext{a b:List (List Int)}(h:a.length=b.length)(hx: ∀q,q<a.length->a.getD q []=b.getD q []):a=b:=by
 refine List.ext_getElem h fun q h1 h2=> ?_
 have:=hx q h1
 rw[List.getD_eq_getElem?_getD,List.getD_eq_getElem?_getD,zlb h1,zlb h2]at this
 simpa using this
theorem colPre_zero{h i j:Nat}{k:Int}{W:List (List Int)}:colPre h i j k 0 W=W:=rows_ext colPre_len fun q hq=>by
 rw[colPre_len]at hq
 rw[colPre_get hq,if_neg om]
theorem colPre_set{h i j:Nat}{k:Int}{r:Nat}{W:List (List Int)}(hr:2*h+r<W.length):(colPre h i j k r W).set (2*h+r) ((W.getD (2*h+r) []).set j ((W.getD (2*h+r) []).getD j 0-k*(W.getD (2*h+r) []).getD i 0))=colPre h i j k (r+1) W:=by
 refine rows_ext (by rw[List.length_set,colPre_len,colPre_len]) fun q hq=> ?_
 rw[List.length_set,colPre_len]at hq
 rw[getD_set (by rw[colPre_len];exact hr),colPre_get hq,colPre_get hq]
 by_cases e:q=2*h+r
 ·rw[if_pos e,if_pos om,e]
 ·rw[if_neg e]
  by_cases e2:2*h<=q/\q<2*h+r
  ·rw[if_pos e2,if_pos om]
  ·rw[if_neg e2,if_neg om]
def addW(h i j:Nat)(k:Int)(W:List (List Int)):List (List Int):=
 colPre h i j k h ((W.set i (addI (W.getD i []) (W.getD j []) k)).set (h+i) (addI (W.getD (h+i) []) (W.getD (h+j) []) k))
theorem addW_wi{h w K L i j:Nat}{k:Int}{W:List (List Int)}(hW:WI h w K W)(hi:i<h)(hj:j<h)(hk:Fits L k):WI h w (K+L+1) (addW h i j k W):=by
 have hl:=hW.len
 have key: ∀q q',q<3*h->q'<3*h-> ∀t,Fits (K+L+1) ((addI (W.getD q []) (W.getD q' []) k).getD t 0):=by
  intro q q' _ _ t
  by_cases ht:t<(W.getD q []).length
  ·rw[addI_get ht];exact fits_addL (hW.fit q t) (hW.fit q' t) hk
  ·rw[List.getD_eq_getElem?_getD,List.getElem?_eq_none (by rw[addI_len];omega)];exact fits0
 have h1:=(hW.mono (Nat.le_add_right K (L+1))).set (q:=i) (r:=addI (W.getD i []) (W.getD j []) k) om (by rw[addI_len]) (key i j om om)
 have h2:=h1.set (q:=h+i) (r:=addI (W.getD (h+i) []) (W.getD (h+j) []) k) om (by rw[addI_len,getD_set om,if_neg om]) (key (h+i) (h+j) om om)
 unfold addW
 generalize hX:(W.set i (addI (W.getD i []) (W.getD j []) k)).set (h+i) (addI (W.getD (h+i) []) (W.getD (h+j) []) k)=X at*
 have hX2: ∀q,2*h<=q->q<3*h->X.getD q []=W.getD q []:=by
  intro q h3 h4
  rw[<-hX,getD_set (by rw[List.length_set];omega),if_neg om,getD_set om,if_neg om]
 have hxl:=h2.len
 refine⟨by rw[colPre_len];exact hxl,fun q hq=> ?_,fun q h3 h4=> ?_,fun q t=> ?_⟩
 ·rw[colPre_get om,if_neg om];exact h2.rowM q hq
 ·rw[colPre_get om]
  split
  ·rw[List.length_set];exact h2.rowU q h3 h4
  ·exact h2.rowU q h3 h4
 ·by_cases hq:q<3*h
  ·rw[colPre_get om]
   split
   ·rename_i hc
    rw[hX2 q om hq]
    have hrl:=hW.rowU q om hq
    rw[getD_set om]
    split
    ·exact fits_subL (hW.fit q j) (hW.fit q i) hk
    ·exact(hW.fit q t).mono om
   ·exact h2.fit q t
  ·rw[List.getD_eq_getElem?_getD (l:=colPre _ _ _ _ _ _),List.getElem?_eq_none (by rw[colPre_len];omega)]
   exact fits0
set_option maxRecDepth 8000 in
theorem addto_q{h w K L p oM oU oV nx i j:Nat}{a b c:List Nat}{W:List (List Int)}{k:Int}(hW:WI h w K W)(hk:Fits L k)(hK:K+L<=100000000000)(hI:WIds p oM oU oV a b c h nx)(hi:i<h)(hj:j<h)(hij:i≠j)(hn:h<=1000000)(hw:w<=1000000):
  InlQ Tryz.prog 67 [.pt p 0,.sc (.int .i64 i),.sc (.int .i64 j),iv k] (wkH p oM oU oV h w a b c W) nx (fun x hp' nx'=>x= .tu []/\nx'=nx/\hp'=wkH p oM oU oV h w a b c (addW h i j k W)):=by
 have hl:=hW.len
 obtain⟨l1,l2,l3,l4⟩:=hI.lts
 obtain⟨z1,z2,z3,z4,z5,z6⟩:=hI.nes
 have v1:p+1-nx=0:=by omega
 have v2:oM+1-nx=0:=by omega
 have v3:oU+1-nx=0:=by omega
 have v4:oV+1-nx=0:=by omega
 have la:=hI.la
 have lb:=hI.lb
 have lc:=hI.lc
 have ga:=slR_len 2 w a
 have gb:=slR_len 2 h b
 have gc:=slR_len 2 h c
 rw[la]at ga
 rw[lb]at gb
 rw[lc]at gc
 unfold iv sv
 refine InlQ.run Tryz.func67 rfl Tryz.ntmps67 (by simp) (by unfold wkH workC;simp(disch:=omega) only[go_sem,↓reduceIte,zn1,zn2,zn3,zn4,zn5,zn6,reduceCtorEq,zn7,zi1,zi2,if_pos,if_neg,Int.reduceAdd];rfl) fun B hB=> ?_
 refine qWD ?_
 have e1:(W).set (i) (addPreI 0 (W.getD (i) []) (W.getD (j) []) k)=W:=by
  rw[addPreI_zero]
  have:=setI_self (M:=W) (i:=i) om
  exact this
 refine SC.loop (fun t:Nat=>⟨[(0,.pt p 0),(1,.sc (.int .i64 i)),(2,.sc (.int .i64 j)),(7,.pt nx 0),(8,.sc (.int .i64 t))],(nx,⟨68,[.sc (.bool (decide (k<0))),.im (lv (limbsOf k.natAbs)) (limbsOf k.natAbs).length],false⟩)::wkH p oM oU oV h w a b c ((W).set (i) (addPreI t (W.getD (i) []) (W.getD (j) []) k)),nx+1,143⟩)
  (fun t=>t<=w) (fun t=>w-t) 0 ?_ ?_ ?_
 ·rw[e1]
  unfold wkH workC
  exact qM
 ·exact znc _
 ·intro t ht K2 hK2
  have hrl:(W.getD (i) []).length=w:=hW.rowM i hi
  have hrlj:(W.getD (j) []).length=w:=hW.rowM j hj
  by_cases hc:t<w
  ·as_aux_lemma=>
    have q1:=decide_eq_true (p:=(t:Int)<(w:Int)) om
    have hWl:((W).set (i) (addPreI t (W.getD (i) []) (W.getD (j) []) k)).length=3*h:=by rw[List.length_set];exact hl
    have gi:=slR_get (z:=2) (m:=w) (ids:=a) (k:=i) om
    have gj:=slR_get (z:=2) (m:=w) (ids:=a) (k:=j) om
    obtain⟨gR,y1,y2,y3,y4,y5⟩:=hI.rowF hWl (q:=i) om
    obtain⟨gRj,u1,u2,u3,u4,u5⟩:=hI.rowF hWl (q:=j) om
    rw[getD_set om,if_pos rfl]at gR
    rw[getD_set om,if_neg (fun e=>hij e.symm)]at gRj
    have c1:=mul_i k ((W.getD (j) []).getD t 0) (K+L) (hk.mono om) ((hW.fit (j) t).mono om) om
    have c2:=add_i ((W.getD (i) []).getD t 0) (k*(W.getD (j) []).getD t 0) (K+L) ((hW.fit (i) t).mono om) (fits_mulL (hW.fit (j) t) hk) om
    have gdj:=ivR_drop (l:=W.getD (j) []) (i:=t) om
    have glj:=ivR_len (W.getD (j) [])
    rw[hrlj]at glj
    have gl:=ivR_len (addPreI t (W.getD (i) []) (W.getD (j) []) k)
    rw[addPreI_len,hrl]at gl
    have gd:=ivR_drop (l:=addPreI t (W.getD (i) []) (W.getD (j) []) k) (i:=t) (by rw[addPreI_len];omega)
    rw[addPreI_get om,if_neg om]at gd
    have gs:=ivR_set (l:=addPreI t (W.getD (i) []) (W.getD (j) []) k) (i:=t) ((W.getD (i) []).getD t 0+k*(W.getD (j) []).getD t 0) (by rw[addPreI_len];omega)
    rw[addPreI_set om]at gs
    have hrs:=hI.rset hWl (q:=i) om (addPreI (t+1) (W.getD (i) []) (W.getD (j) []) k)
    rw[List.set_set]at hrs
    have hkl:=hI.kl (W:=(W).set (i) (addPreI t (W.getD (i) []) (W.getD (j) []) k)) (m:=nx+1) om
    rw[hI.iM hi]at gR y1 y2 y3 y4 y5 hrs
    rw[hI.iM hj]at gRj u1 u2 u3 u4 u5
    have v5:a.getD i 0+1-nx=0:=zne y1
    have v6:a.getD j 0+1-nx=0:=zne u1
    unfold wkH workC at*
    generalize(ivR (addPreI t (W.getD (i) []) (W.getD (j) []) k)).drop ((t+1)*2)=D at*
    generalize hA:ivR (addPreI t (W.getD (i) []) (W.getD (j) []) k)=A at*
    generalize(W.getD (i) []).getD t 0=x at*
    generalize(ivR (W.getD (j) [])).drop ((t+1)*2)=Dj at*
    generalize hAj:ivR (W.getD (j) [])=Aj at*
    generalize(W.getD (j) []).getD t 0=y at*
    generalize hA':ivR (addPreI (t+1) (W.getD (i) []) (W.getD (j) []) k)=A' at*
    generalize hH:rowsH 68 (a++b++c) (rI ((W).set (i) (addPreI t (W.getD (i) []) (W.getD (j) []) k)))=H at*
    generalize a.getD i 0=idk at*
    generalize a.getD j 0=idj at*
    unfold iv sv at c1 c2
    unfold ivC sv at gd gs gdj
    simp only[zl8,zl7]at gd gdj
    have g2j:t*2<Aj.length:=by omega
    have g2:t*2<A.length:=by omega
    refine qWDf (Q2 (Q16 @q1 @ga @gb @gc @gi @gj @gR @gRj @gl @glj @gd @gdj @gs @g2 @g2j @hrs) (Q15 @hkl @z1 @z2 @z3 @z4 @z5 @z6 @y2 @y3 @y4 @y5 @u2 @u3 @u4 @u5)) ?_
    refine hK2 _ (t+1) ?_ om om
    exact qM
  ·have htw:t=w:=by omega
   have q1:=decide_eq_false (p:=(w:Int)<(w:Int)) om
   rw[htw,addPreI_end hrl]
   unfold wkH workC
   refine qWDf (Q7 @q1 @z1 @z2 @z3 @z4 @z5 @z6) ?_
   have e2:(W.set i (addI (W.getD i []) (W.getD j []) k)).set (h+i) (addPreI 0 (W.getD (h+i) []) (W.getD (h+j) []) k)=W.set i (addI (W.getD i []) (W.getD j []) k):=by
    rw[addPreI_zero]
    have:=setI_self (M:=W.set i (addI (W.getD i []) (W.getD j []) k)) (i:=h+i) (by rw[List.length_set];omega)
    rwa[getD_set om,if_neg om]at this
   refine SC.loop (fun t:Nat=>⟨[(0,.pt p 0),(1,.sc (.int .i64 i)),(2,.sc (.int .i64 j)),(7,.pt nx 0),(9,.sc (.int .i64 t))],(nx,⟨68,[.sc (.bool (decide (k<0))),.im (lv (limbsOf k.natAbs)) (limbsOf k.natAbs).length],false⟩)::wkH p oM oU oV h w a b c ((W.set i (addI (W.getD i []) (W.getD j []) k)).set (h+i) (addPreI t (W.getD (h+i) []) (W.getD (h+j) []) k)),nx+1,143⟩)
    (fun t=>t<=h) (fun t=>h-t) 0 ?_ ?_ ?_
   ·rw[e2]
    unfold wkH workC
    exact qM
   ·exact znc _
   ·intro t ht K2 hK2
    have hrl:(W.getD (h+i) []).length=h:=hW.rowU (h+i) om om
    have hrlj:(W.getD (h+j) []).length=h:=hW.rowU (h+j) om om
    by_cases hc:t<h
    ·as_aux_lemma=>
      have q1:=decide_eq_true (p:=(t:Int)<(h:Int)) om
      have hWl:((W.set i (addI (W.getD i []) (W.getD j []) k)).set (h+i) (addPreI t (W.getD (h+i) []) (W.getD (h+j) []) k)).length=3*h:=by rw[List.length_set,List.length_set];exact hl
      have gi:=slR_get (z:=2) (m:=h) (ids:=b) (k:=i) om
      have gj:=slR_get (z:=2) (m:=h) (ids:=b) (k:=j) om
      obtain⟨gR,y1,y2,y3,y4,y5⟩:=hI.rowF hWl (q:=h+i) om
      obtain⟨gRj,u1,u2,u3,u4,u5⟩:=hI.rowF hWl (q:=h+j) om
      rw[getD_set (by rw[List.length_set];omega),if_pos rfl]at gR
      rw[getD_set (by rw[List.length_set];omega),if_neg (fun e=>hij (Nat.add_left_cancel e).symm),getD_set om,if_neg om]at gRj
      have c1:=mul_i k ((W.getD (h+j) []).getD t 0) (K+L) (hk.mono om) ((hW.fit (h+j) t).mono om) om
      have c2:=add_i ((W.getD (h+i) []).getD t 0) (k*(W.getD (h+j) []).getD t 0) (K+L) ((hW.fit (h+i) t).mono om) (fits_mulL (hW.fit (h+j) t) hk) om
      have gdj:=ivR_drop (l:=W.getD (h+j) []) (i:=t) om
      have glj:=ivR_len (W.getD (h+j) [])
      rw[hrlj]at glj
      have gl:=ivR_len (addPreI t (W.getD (h+i) []) (W.getD (h+j) []) k)
      rw[addPreI_len,hrl]at gl
      have gd:=ivR_drop (l:=addPreI t (W.getD (h+i) []) (W.getD (h+j) []) k) (i:=t) (by rw[addPreI_len];omega)
      rw[addPreI_get om,if_neg om]at gd
      have gs:=ivR_set (l:=addPreI t (W.getD (h+i) []) (W.getD (h+j) []) k) (i:=t) ((W.getD (h+i) []).getD t 0+k*(W.getD (h+j) []).getD t 0) (by rw[addPreI_len];omega)
      rw[addPreI_set om]at gs
      have hrs:=hI.rset hWl (q:=h+i) om (addPreI (t+1) (W.getD (h+i) []) (W.getD (h+j) []) k)
      rw[List.set_set]at hrs
      have hkl:=hI.kl (W:=(W.set i (addI (W.getD i []) (W.getD j []) k)).set (h+i) (addPreI t (W.getD (h+i) []) (W.getD (h+j) []) k)) (m:=nx+1) om
      rw[hI.iU hi]at gR y1 y2 y3 y4 y5 hrs
      rw[hI.iU hj]at gRj u1 u2 u3 u4 u5
      have v5:b.getD i 0+1-nx=0:=zne y1
      have v6:b.getD j 0+1-nx=0:=zne u1
      unfold wkH workC at*
      generalize(ivR (addPreI t (W.getD (h+i) []) (W.getD (h+j) []) k)).drop ((t+1)*2)=D at*
      generalize hA:ivR (addPreI t (W.getD (h+i) []) (W.getD (h+j) []) k)=A at*
      generalize(W.getD (h+i) []).getD t 0=x at*
      generalize(ivR (W.getD (h+j) [])).drop ((t+1)*2)=Dj at*
      generalize hAj:ivR (W.getD (h+j) [])=Aj at*
      generalize(W.getD (h+j) []).getD t 0=y at*
      generalize hA':ivR (addPreI (t+1) (W.getD (h+i) []) (W.getD (h+j) []) k)=A' at*
      generalize hH:rowsH 68 (a++b++c) (rI ((W.set i (addI (W.getD i []) (W.getD j []) k)).set (h+i) (addPreI t (W.getD (h+i) []) (W.getD (h+j) []) k)))=H at*
      generalize b.getD i 0=idk at*
      generalize b.getD j 0=idj at*
      unfold iv sv at c1 c2
      unfold ivC sv at gd gs gdj
      simp only[zl8,zl7]at gd gdj
      have g2j:t*2<Aj.length:=by omega
      have g2:t*2<A.length:=by omega
      refine qWDf (Q2 (Q16 @q1 @ga @gb @gc @gi @gj @gR @gRj @gl @glj @gd @gdj @gs @g2 @g2j @hrs) (Q15 @hkl @z1 @z2 @z3 @z4 @z5 @z6 @y2 @y3 @y4 @y5 @u2 @u3 @u4 @u5)) ?_
      refine hK2 _ (t+1) ?_ om om
      exact qM
    ·have htw:t=h:=by omega
     have q1:=decide_eq_false (p:=(h:Int)<(h:Int)) om
     rw[htw,addPreI_end hrl]
     unfold wkH workC
     refine qWDf (Q7 @q1 @z1 @z2 @z3 @z4 @z5 @z6) ?_
     have e3:colPre h i j k 0 ((W.set i (addI (W.getD i []) (W.getD j []) k)).set (h+i) (addI (W.getD (h+i) []) (W.getD (h+j) []) k))=(W.set i (addI (W.getD i []) (W.getD j []) k)).set (h+i) (addI (W.getD (h+i) []) (W.getD (h+j) []) k):=colPre_zero
     have eA:addW h i j k W=colPre h i j k h ((W.set i (addI (W.getD i []) (W.getD j []) k)).set (h+i) (addI (W.getD (h+i) []) (W.getD (h+j) []) k)):=rfl
     have hX2: ∀q,2*h<=q->q<3*h->((W.set i (addI (W.getD i []) (W.getD j []) k)).set (h+i) (addI (W.getD (h+i) []) (W.getD (h+j) []) k)).getD q []=W.getD q []:=by
      intro q h3 h4
      rw[getD_set (by rw[List.length_set];omega),if_neg om,getD_set om,if_neg om]
     have hXl:((W.set i (addI (W.getD i []) (W.getD j []) k)).set (h+i) (addI (W.getD (h+i) []) (W.getD (h+j) []) k)).length=3*h:=by rw[List.length_set,List.length_set];exact hl
     rw[<-e3,eA]
     generalize(W.set i (addI (W.getD i []) (W.getD j []) k)).set (h+i) (addI (W.getD (h+i) []) (W.getD (h+j) []) k)=X at*
     refine SC.loop (fun t:Nat=>⟨[(0,.pt p 0),(1,.sc (.int .i64 i)),(2,.sc (.int .i64 j)),(7,.pt nx 0),(10,.sc (.int .i64 t))],(nx,⟨68,[.sc (.bool (decide (k<0))),.im (lv (limbsOf k.natAbs)) (limbsOf k.natAbs).length],false⟩)::wkH p oM oU oV h w a b c (colPre h i j k t X),nx+1,143⟩)
      (fun t=>t<=h) (fun t=>h-t) 0 ?_ ?_ ?_
     ·unfold wkH workC
      exact qM
     ·exact znc _
     ·intro t ht K3 hK3
      by_cases hc:t<h
      ·as_aux_lemma=>
        have q1:=decide_eq_true (p:=(t:Int)<(h:Int)) om
        have hrl:(W.getD (2*h+t) []).length=h:=hW.rowU (2*h+t) om om
        have hWl:(colPre h i j k t X).length=3*h:=by rw[colPre_len];exact hXl
        have gi:=slR_get (z:=2) (m:=h) (ids:=c) (k:=t) om
        obtain⟨gR,y1,y2,y3,y4,y5⟩:=hI.rowF hWl (q:=2*h+t) om
        rw[colPre_get om,if_neg om,hX2 _ om om]at gR
        have c1:=mul_i k ((W.getD (2*h+t) []).getD i 0) (K+L) (hk.mono om) ((hW.fit (2*h+t) i).mono om) om
        have c2:=sub_i ((W.getD (2*h+t) []).getD j 0) (k*(W.getD (2*h+t) []).getD i 0) (K+L) ((hW.fit (2*h+t) j).mono om) (fits_mulL (hW.fit (2*h+t) i) hk) om
        have gl:=ivR_len (W.getD (2*h+t) [])
        rw[hrl]at gl
        have gd:=ivR_drop (l:=W.getD (2*h+t) []) (i:=i) om
        have gdj:=ivR_drop (l:=W.getD (2*h+t) []) (i:=j) om
        have gs:=ivR_set (l:=W.getD (2*h+t) []) (i:=j) ((W.getD (2*h+t) []).getD j 0-k*(W.getD (2*h+t) []).getD i 0) om
        have hrs:=hI.rset hWl (q:=2*h+t) om ((W.getD (2*h+t) []).set j ((W.getD (2*h+t) []).getD j 0-k*(W.getD (2*h+t) []).getD i 0))
        have hcs:=colPre_set (h:=h) (i:=i) (j:=j) (k:=k) (r:=t) (W:=X) om
        rw[hX2 _ om om]at hcs
        rw[hcs]at hrs
        have hkl:=hI.kl (W:=colPre h i j k t X) (m:=nx+1) om
        rw[hI.iV]at gR y1 y2 y3 y4 y5 hrs
        have v5:c.getD t 0+1-nx=0:=zne y1
        clear hcs
        unfold wkH workC at*
        generalize(ivR (W.getD (2*h+t) [])).drop ((i+1)*2)=Di at*
        generalize(ivR (W.getD (2*h+t) [])).drop ((j+1)*2)=Dj at*
        generalize hA:ivR (W.getD (2*h+t) [])=A at*
        generalize hA':ivR ((W.getD (2*h+t) []).set j ((W.getD (2*h+t) []).getD j 0-k*(W.getD (2*h+t) []).getD i 0))=A' at*
        generalize(W.getD (2*h+t) []).getD i 0=x at*
        generalize(W.getD (2*h+t) []).getD j 0=y at*
        generalize hH:rowsH 68 (a++b++c) (rI (colPre h i j k t X))=H at*
        generalize c.getD t 0=idk at*
        unfold iv sv at c1 c2
        unfold ivC sv at gd gs gdj
        simp only[zl8,zl7]at gd gdj
        have g2:i*2<A.length:=by omega
        have g2j:j*2<A.length:=by omega
        refine qWDf (Q24 @q1 @ga @gb @gc @gi @gR @gl @gd @gdj @gs @g2 @g2j @hrs @hkl @z1 @z2 @z3 @z4 @z5 @z6 @y2 @y3 @y4 @y5) ?_
        refine hK3 _ (t+1) ?_ om om
        exact qM
      ·have htw:t=h:=by omega
       have q1:=decide_eq_false (p:=(h:Int)<(h:Int)) om
       rw[htw]
       unfold wkH workC
       refine qWDf (Q7 @q1 @z1 @z2 @z3 @z4 @z5 @z6) ?_
       refine retIQ_normal (rs:=[]) (.tu []) (wkH p oM oU oV h w a b c (colPre h i j k h X)) nx Tryz.results67 rfl ⟨rfl,rfl,rfl⟩ ?_
       refine Le.wkDown ⟨nx,hB,znb _⟩ hI (less_new (fun id q hq=>hq) fun id q hq=>Nat.ne_of_lt (wk_lt hI id q hq)) ?_
       exact mapSl_cons rfl VMap.tu0 trivial
end
section
open Go.RowKit
def raiI(h w:Nat)(M:List (List Int))(u v:List Int):List (List Int):=mkM h w fun r c=>ent2 M r c+u.getD r 0*v.getD c 0
def raiF(M:List (List Int))(u v:List Int)(i j:Nat):Nat->Nat->Int:=fun r c=>if r<i\/(r=i/\c<j)then ent2 M r c+u.getD r 0*v.getD c 0 else ent2 M r c
set_option maxRecDepth 8000 in
theorem applyP_s{h w K:Nat}{M:List (List Int)}{u v:List Int}(hM:MI h w K M)(hK:K<=100000000000)(hn:h<=1000000)(hw:w<=1000000)(hu:u.length=h)(hv:v.length=w)(hfu: ∀x∈u,Fits K x)(hfv: ∀x∈v,Fits K x):
  Spec Tryz.prog 174 [.ag [.im (ivR u) u.length,.im (ivR v) v.length],mat w M] (mat w (raiI h w M u v)):=by
 have hl:=hM.len
 have c1:=ucopied_q hM 3 hn hw
 have gu:=ivR_len u
 have gv:=ivR_len v
 unfold mat at*
 rw[hv]at gv⊢
 rw[hu]at gu⊢
 refine qF Tryz.func174 Tryz.ntmps174 fun B hB=> ?_
 refine qWD ?_
 refine SO.inlQ qS Tab.go51 qS qS (SInlQ.newR c1 ?_ ?_ ?_)
 ·exact klc om (klc om (klc om kln))
 ·exact fun x hp' nx' h=>matQ_new h
 rintro x hp' q ⟨o,ids,hR,rfl,rfl⟩
 have ho:=hR.o1
 rw[hl]at hR⊢
 refine qWD ?_
 obtain⟨nx,hnx⟩: ∃nx,nx=q+1:=⟨_,rfl⟩
 rw[<-hnx]
 have hidl:=hR.len
 have g1:=slR_len 2 w ids
 rw[hidl]at g1
 have e00:M=mkM h w (raiF M u v 0 0):=by
  rw[<-mkM_of hM]
  exact mkM_congr fun r c hr hc=>by unfold raiF;rw[if_neg om];rw[mkM_of hM];rfl
 refine SC.loop (fun i:Nat=>⟨[(2,.pt 0 0),(4,.pt 2 0),(5,.pt q 0),(12,.sl o 0 h 1 none),(13,.sc (.int .i64 h)),(14,.sc (.int .i64 i))],(q,⟨28,[.sc (.int .i64 h),.sc (.int .i64 w),.sl o 0 h 1 none],false⟩)::(2,⟨28,[.sc (.int .i64 0),.sc (.int .i64 0),.sc (.slice none 0 0)],false⟩)::(0,⟨99,[.im (ivR u) h,.im (ivR v) w],false⟩)::(o,⟨41,slR 2 w ids,false⟩)::rowsH 68 ids (rI (mkM h w (raiF M u v i 0))),nx,46⟩)
  (fun i=>i<=h) (fun i=>h-i) 0 ?_ ?_ ?_
 ·rw[<-e00]
  refine Le.slots (leSl_cons qS (VLe.refl rfl) (leSl_cons qS (VLe.refl rfl) (leSl_cons qS (VLe.refl rfl) (leSl_cons qS (VLe.refl rfl) (leSl_cons qS (VLe.refl rfl) (leSl_cons qS (VLe.refl rfl) leSl_nil)))))) (fun id k hk=> ?_) (znb _)
  by_cases e:id=1
  ·subst e
   simp only[hget]at hk
   rw[if_neg om,if_neg om,if_neg om,if_neg om]at hk
   obtain⟨j,j1,_,j3,_⟩:=rows_inv hk
   have:=hR.lt _ (getD_mem' j1);omega
  ·simp only[hget]at hk⊢
   rw[if_neg e];exact hk
 ·exact znc _
 ·intro i hi K2 hK2
  by_cases hc:i<h
  ·have q1:=decide_eq_true (p:=(i:Int)<(h:Int)) om
   have gi:=slR_get (z:=2) (m:=w) (ids:=ids) (k:=i) om
   have hmem:=getD_mem' (ids:=ids) (k:=i) om
   have hal:=hR.lt _ hmem
   have hao:ids.getD i 0≠o:=fun e=>hR.o2 (e▸hmem)
   have n5:(o=q)=False:=eq_false om
   have n6:(o=2)=False:=eq_false om
   have n7:(o=0)=False:=eq_false om
   have gRl: ∀j:Nat,hget (rowsH 68 ids (rI (mkM h w (raiF M u v i j)))) (ids.getD i 0)=some ⟨68,ivR (mkR w (raiF M u v i j i)),false⟩:=fun j=>by
    have gR:=rows_get (ty:=68) (rs:=rI (mkM h w (raiF M u v i j))) (k:=i) hR.nod om (by rw[rI_len,mkM_len];omega)
    rwa[rI_getD,mkM_get hc]at gR
   refine qWDf (Q6 @q1 @gi @g1 @n5 @n6 @n7) ?_
   refine SC.loop (fun j:Nat=>⟨[(2,.pt 0 0),(4,.pt 2 0),(5,.pt q 0),(12,.sl o 0 h 1 none),(13,.sc (.int .i64 h)),(14,.sc (.int .i64 i)),(6,.sc (.int .i64 i)),(7,.sl (ids.getD i 0) 0 w 2 none),(20,.sc (.int .i64 w)),(21,.sc (.int .i64 j))],(q,⟨28,[.sc (.int .i64 h),.sc (.int .i64 w),.sl o 0 h 1 none],false⟩)::(2,⟨28,[.sc (.int .i64 0),.sc (.int .i64 0),.sc (.slice none 0 0)],false⟩)::(0,⟨99,[.im (ivR u) h,.im (ivR v) w],false⟩)::(o,⟨41,slR 2 w ids,false⟩)::rowsH 68 ids (rI (mkM h w (raiF M u v i j))),nx,46⟩)
    (fun j=>j<=w) (fun j=>w-j) 0 ?_ ?_ ?_
   ·exact qM
   ·exact znc _
   ·intro j hj K3 hK3
    by_cases hc2:j<w
    ·have q2:=decide_eq_true (p:=(j:Int)<(w:Int)) om
     have hfx:=hM.fit hc hc2
     have hux:=hfu _ (getD_mem (d:=0) (l:=u) (i:=i) om)
     have hvx:=hfv _ (getD_mem (d:=0) (l:=v) (i:=j) om)
     have c2:=pmul_i _ _ K hux hvx om
     have c3:=padd_i _ _ (K+K) (hfx.mono om) (fits_mulK hvx hux) om
     obtain⟨gR,gl,gd,gs,hrs⟩:=cellF (ty:=68) (f:=raiF M u v i j) (z:=(M.getD i []).getD j 0+u.getD i 0*v.getD j 0) hR.nod hidl hc hc2
     have ef:raiF M u v i j i j=(M.getD i []).getD j 0:=by unfold raiF;rw[if_neg om];rfl
     have en:mkM h w (fun r c=>if r=i/\c=j then(M.getD i []).getD j 0+u.getD i 0*v.getD j 0 else raiF M u v i j r c)=mkM h w (raiF M u v i (j+1)):=mkM_congr fun r c _ _=>by
      unfold raiF
      by_cases e:r=i/\c=j
      ·rw[if_pos e,if_pos om,e.1,e.2];rfl
      ·rw[if_neg e]
       by_cases e2:r<i\/r=i/\c<j
       ·rw[if_pos e2,if_pos om]
       ·rw[if_neg e2,if_neg om]
     rw[ef]at gd
     rw[en]at hrs
     have gud:=ivR_drop (l:=u) (i:=i) om
     have gvd:=ivR_drop (l:=v) (i:=j) om
     have gu2:i*2<(ivR u).length:=by omega
     have gv2:j*2<(ivR v).length:=by omega
     have hkl:=klB_rows (ty:=68) (ids:=ids) (rs:=rI (mkM h w (raiF M u v i j))) (n:=nx) (fun j hj=>by have:=hR.lt j hj;omega)
     have n1:(ids.getD i 0=q)=False:=eq_false om
     have n2:(ids.getD i 0=2)=False:=eq_false om
     have n3:(ids.getD i 0=0)=False:=eq_false om
     have n4:(ids.getD i 0=o)=False:=eq_false hao
     have hd3:ids.getD i 0+1<=nx:=by omega
     generalize(ivR (mkR w (raiF M u v i j i))).drop ((j+1)*2)=D1 at*
     generalize(ivR u).drop ((i+1)*2)=D2 at*
     generalize(ivR v).drop ((j+1)*2)=D3 at*
     generalize hA1:ivR (mkR w (raiF M u v i j i))=A1 at*
     generalize hA2:ivR u=A2 at*
     generalize hA3:ivR v=A3 at*
     generalize hA4:ivR ((mkR w (raiF M u v i j i)).set j ((M.getD i []).getD j 0+u.getD i 0*v.getD j 0))=A4 at*
     generalize(M.getD i []).getD j 0=x at*
     generalize u.getD i 0=y at*
     generalize v.getD j 0=z at*
     generalize hH1:rowsH 68 ids (rI (mkM h w (raiF M u v i j)))=H1 at*
     generalize hH2:rowsH 68 ids (rI (mkM h w (raiF M u v i (j+1))))=H2 at*
     generalize ids.getD i 0=a at*
     unfold iv sv at c2 c3
     unfold ivC sv at gd gs gud gvd
     simp only[zl8,zl7]at gd gud gvd
     have g2:j*2<A1.length:=by omega
     have m1:(q<nx)=True:=eq_true om
     have m2:(o<nx)=True:=eq_true om
     have m4:(2<nx)=True:=eq_true om
     have m5:(0<nx)=True:=eq_true om
     have d2:q+1<=nx:=by omega
     have d4:3<=nx:=by omega
     have d5:1<=nx:=by omega
     refine qWDf (Q24 @q2 @gR @gl @gd @gs @g2 @gud @gvd @gu2 @gv2 @hrs @hkl @n1 @n2 @n3 @n4 @m1 @m2 @m4 @m5 @hd3 @d2 @d4 @d5) ?_
     refine hK3 _ (j+1) ?_ om om
     simp only[hH2]
     exact qM
    ·have q2:=decide_eq_false (p:=(j:Int)<(w:Int)) om
     refine qWDf @q2 ?_
     refine hK2 _ (i+1) ?_ om om
     have en:mkM h w (raiF M u v i j)=mkM h w (raiF M u v (i+1) 0):=mkM_congr fun r c _ hcw=>by
      unfold raiF
      by_cases e2:r<i\/r=i/\c<j
      ·rw[if_pos e2,if_pos om]
      ·rw[if_neg e2,if_neg om]
     rw[en]
     exact qM
  ·have q1:=decide_eq_false (p:=(i:Int)<(h:Int)) om
   have hin:i=h:=by omega
   have eE:mkM h w (raiF M u v i 0)=raiI h w M u v:=mkM_congr fun r c hr _=>by unfold raiF;rw[if_pos om]
   have b1:(o=q)=False:=eq_false om
   have b2:(o=2)=False:=eq_false om
   have b3:(o=0)=False:=eq_false om
   have b4:(q=2)=False:=eq_false om
   have b5:(2=q)=False:=eq_false om
   have hI:MI h w (K+K+1) (raiI h w M u v):=mk_mi fun r c hr hcw=>fits_sum ((hM.fit hr hcw).mono om) (fits_mulK (hfv _ (getD_mem (d:=0) om)) (hfu _ (getD_mem (d:=0) om)))
   have hIl:=hI.len
   rw[eE]
   by_cases h0:h=0
   ·subst h0
    have hids:ids=[]:=List.eq_nil_of_length_eq_zero om
    have hm0:raiI 0 w M u v=[]:=rfl
    subst hids
    rw[hm0]
    refine qWDf (Q4 @q1 @b1 @b4 @b5) ?_
    exact retQ_ret Tryz.results174 qS (qSf (Q5 @b1 @b2 @b3 @b4 @b5)) rfl
   ·have hrows: ∀C:List V,∀k,k<ids.length->hget ((q,(⟨28,[.sc (.int .i64 h),.sc (.int .i64 w),.sl o 0 h 1 none],false⟩:Blk))::(2,⟨28,C,false⟩)::(0,⟨99,[.im (ivR u) h,.im (ivR v) w],false⟩)::(o,⟨41,slR 2 w ids,false⟩)::rowsH 68 ids (rI (raiI h w M u v))) (ids.getD k 0)=some ⟨68,(rI (raiI h w M u v)).getD k [],false⟩:=by
     intro C k hk
     have hm:=getD_mem' hk
     have:=hR.lt _ hm
     simp only[hget]
     rw[if_neg om,if_neg om,if_neg om,if_neg (fun e=>hR.o2 (by rw[<-e];exact hm))]
     exact rows_get hR.nod hk (by rw[rI_len];omega)
    have hfz:=fun C:List V=>frz_rowsA (n:=5) (z:=2) (m:=w) (ty:=68) (ids:=ids) (rs:=rI (raiI h w M u v)) om (by rw[rI_len];omega) (hrows C) (rI_rows hI)
    have hsl:=slR_some (z:=2) (m:=w) (ids:=ids) om
    have ht:(slR 2 w ids).take h=slR 2 w ids:=zla om
    rw[hIl]
    refine qWDf (Q4 @q1 @b1 @b4 @b5) ?_
    exact retQ_ret Tryz.results174 qS (qSf (Q9 @hfz @hsl @ht @g1 @b1 @b2 @b3 @b4 @b5)) rfl
end
section
open Go.RowKit
set_option maxRecDepth 8000 in
theorem rraise1{h w K:Nat}{M:List (List Int)}{u v:List Int}(hM:MI h w K M)(hK:K<=80000000000)(hn:h<=1000000)(hw:w<=1000000)(hu:u.length=h)(hv:v.length=w)(hfu: ∀x∈u,Fits K x)(hfv: ∀x∈v,Fits K x):
  Spec Tryz.prog 25 [mat w M,.im (ivR u) u.length,.im (ivR v) v.length] (.tu [mat w (raiI h w M u v),.sc (.int .i64 0)]):=by
 have hl:=hM.len
 have c1:=rcopyI_q 2 hM om hn hw
 have gu:=ivR_len u
 have gv:=ivR_len v
 unfold mat at*
 rw[hl]at c1⊢
 rw[hv]at gv⊢
 rw[hu]at gu⊢
 refine qF Tryz.func25 Tryz.ntmps25 fun B hB=> ?_
 refine qWD ?_
 refine SO.inlQ qS Tab.go38 qS qS (SInlQ.newR c1 ?_ ?_ ?_)
 ·exact klc om (klc om kln)
 ·exact fun x hp' nx' h=>matQ_new h
 rintro x hp' q ⟨o,ids,hR,rfl,rfl⟩
 have ho:=hR.o1
 rw[hl]at hR⊢
 refine qWD ?_
 obtain⟨nx,hnx⟩: ∃nx,nx=q+1:=⟨_,rfl⟩
 rw[<-hnx]
 have hidl:=hR.len
 have g1:=slR_len 2 w ids
 rw[hidl]at g1
 have e00:M=mkM h w (raiF M u v 0 0):=by
  rw[<-mkM_of hM]
  exact mkM_congr fun r c hr hc=>by unfold raiF;rw[if_neg om];rw[mkM_of hM];rfl
 refine SC.loop (fun i:Nat=>⟨[(1,.im (ivR u) h),(2,.im (ivR v) w),(3,.pt 0 0),(6,.pt 1 0),(7,.sc (.int .i64 0)),(8,.pt q 0),(9,.sc (.int .i64 i))],(q,⟨28,[.sc (.int .i64 h),.sc (.int .i64 w),.sl o 0 h 1 none],false⟩)::(1,⟨28,[.sc (.int .i64 0),.sc (.int .i64 0),.sc (.slice none 0 0)],false⟩)::(0,⟨28,[.sc (.int .i64 h),.sc (.int .i64 w),.im (imR w (rI M)) h],false⟩)::(o,⟨41,slR 2 w ids,false⟩)::rowsH 68 ids (rI (mkM h w (raiF M u v i 0))),nx,64⟩)
  (fun i=>i<=h) (fun i=>h-i) 0 ?_ ?_ ?_
 ·rw[<-e00]
  exact qM
 ·exact znc _
 ·intro i hi K2 hK2
  by_cases hc:i<h
  ·have q1:=decide_eq_true (p:=(i:Int)<(h:Int)) om
   have gi:=slR_get (z:=2) (m:=w) (ids:=ids) (k:=i) om
   have hmem:=getD_mem' (ids:=ids) (k:=i) om
   have hal:=hR.lt _ hmem
   have hao:ids.getD i 0≠o:=fun e=>hR.o2 (e▸hmem)
   have n5:(o=q)=False:=eq_false om
   have n6:(o=1)=False:=eq_false om
   have n7:(o=0)=False:=eq_false om
   have gRl: ∀j:Nat,hget (rowsH 68 ids (rI (mkM h w (raiF M u v i j)))) (ids.getD i 0)=some ⟨68,ivR (mkR w (raiF M u v i j i)),false⟩:=fun j=>by
    have gR:=rows_get (ty:=68) (rs:=rI (mkM h w (raiF M u v i j))) (k:=i) hR.nod om (by rw[rI_len,mkM_len];omega)
    rwa[rI_getD,mkM_get hc]at gR
   refine qWDf (Q6 @q1 @gi @g1 @n5 @n6 @n7) ?_
   refine SC.loop (fun j:Nat=>⟨[(1,.im (ivR u) h),(2,.im (ivR v) w),(3,.pt 0 0),(6,.pt 1 0),(7,.sc (.int .i64 0)),(8,.pt q 0),(9,.sc (.int .i64 i)),(10,.sc (.int .i64 j))],(q,⟨28,[.sc (.int .i64 h),.sc (.int .i64 w),.sl o 0 h 1 none],false⟩)::(1,⟨28,[.sc (.int .i64 0),.sc (.int .i64 0),.sc (.slice none 0 0)],false⟩)::(0,⟨28,[.sc (.int .i64 h),.sc (.int .i64 w),.im (imR w (rI M)) h],false⟩)::(o,⟨41,slR 2 w ids,false⟩)::rowsH 68 ids (rI (mkM h w (raiF M u v i j))),nx,64⟩)
    (fun j=>j<=w) (fun j=>w-j) 0 ?_ ?_ ?_
   ·exact qM
   ·exact znc _
   ·intro j hj K3 hK3
    by_cases hc2:j<w
    ·have q2:=decide_eq_true (p:=(j:Int)<(w:Int)) om
     have hfx:=hM.fit hc hc2
     have hux:=hfu _ (getD_mem (d:=0) (l:=u) (i:=i) om)
     have hvx:=hfv _ (getD_mem (d:=0) (l:=v) (i:=j) om)
     have c2:=mul_i _ _ K hux hvx om
     have c3:=add_i _ _ (K+K) (hfx.mono om) (fits_mulK hvx hux) om
     obtain⟨gR,gl,gd,gs,hrs⟩:=cellF (ty:=68) (f:=raiF M u v i j) (z:=(M.getD i []).getD j 0+u.getD i 0*v.getD j 0) hR.nod hidl hc hc2
     have ef:raiF M u v i j i j=(M.getD i []).getD j 0:=by unfold raiF;rw[if_neg om];rfl
     have en:mkM h w (fun r c=>if r=i/\c=j then(M.getD i []).getD j 0+u.getD i 0*v.getD j 0 else raiF M u v i j r c)=mkM h w (raiF M u v i (j+1)):=mkM_congr fun r c _ _=>by
      unfold raiF
      by_cases e:r=i/\c=j
      ·rw[if_pos e,if_pos om,e.1,e.2];rfl
      ·rw[if_neg e]
       by_cases e2:r<i\/r=i/\c<j
       ·rw[if_pos e2,if_pos om]
       ·rw[if_neg e2,if_neg om]
     rw[ef]at gd
     rw[en]at hrs
     have gud:=ivR_drop (l:=u) (i:=i) om
     have gvd:=ivR_drop (l:=v) (i:=j) om
     have gu2:i*2<(ivR u).length:=by omega
     have gv2:j*2<(ivR v).length:=by omega
     have hkl:=klB_rows (ty:=68) (ids:=ids) (rs:=rI (mkM h w (raiF M u v i j))) (n:=nx) (fun j hj=>by have:=hR.lt j hj;omega)
     have n1:(ids.getD i 0=q)=False:=eq_false om
     have n2:(ids.getD i 0=1)=False:=eq_false om
     have n3:(ids.getD i 0=0)=False:=eq_false om
     have n4:(ids.getD i 0=o)=False:=eq_false hao
     have hd3:ids.getD i 0+1<=nx:=by omega
     generalize(ivR (mkR w (raiF M u v i j i))).drop ((j+1)*2)=D1 at*
     generalize(ivR u).drop ((i+1)*2)=D2 at*
     generalize(ivR v).drop ((j+1)*2)=D3 at*
     generalize hA1:ivR (mkR w (raiF M u v i j i))=A1 at*
     generalize hA2:ivR u=A2 at*
     generalize hA3:ivR v=A3 at*
     generalize hA4:ivR ((mkR w (raiF M u v i j i)).set j ((M.getD i []).getD j 0+u.getD i 0*v.getD j 0))=A4 at*
     generalize(M.getD i []).getD j 0=x at*
     generalize u.getD i 0=y at*
     generalize v.getD j 0=z at*
     generalize hH1:rowsH 68 ids (rI (mkM h w (raiF M u v i j)))=H1 at*
     generalize hH2:rowsH 68 ids (rI (mkM h w (raiF M u v i (j+1))))=H2 at*
     generalize ids.getD i 0=a at*
     unfold iv sv at c2 c3
     unfold ivC sv at gd gs gud gvd
     simp only[zl8,zl7]at gd gud gvd
     have g2:j*2<A1.length:=by omega
     have m1:(q<nx)=True:=eq_true om
     have m2:(o<nx)=True:=eq_true om
     have m4:(1<nx)=True:=eq_true om
     have m5:(0<nx)=True:=eq_true om
     have d2:q+1<=nx:=by omega
     have d4:2<=nx:=by omega
     have d5:1<=nx:=by omega
     refine qWDf (Q2 (Q15 @q2 @gi @g1 @n5 @n6 @n7 @gR @gl @gd @gs @g2 @gud @gvd @gu2 @gv2) (Q14 @hrs @hkl @n1 @n2 @n3 @n4 @m1 @m2 @m4 @m5 @hd3 @d2 @d4 @d5)) ?_
     refine hK3 _ (j+1) ?_ om om
     simp only[hH2]
     exact qM
    ·have q2:=decide_eq_false (p:=(j:Int)<(w:Int)) om
     refine qWDf @q2 ?_
     refine hK2 _ (i+1) ?_ om om
     have en:mkM h w (raiF M u v i j)=mkM h w (raiF M u v (i+1) 0):=mkM_congr fun r c _ hcw=>by
      unfold raiF
      by_cases e2:r<i\/r=i/\c<j
      ·rw[if_pos e2,if_pos om]
      ·rw[if_neg e2,if_neg om]
     rw[en]
     exact qM
  ·have q1:=decide_eq_false (p:=(i:Int)<(h:Int)) om
   have hin:i=h:=by omega
   have eE:mkM h w (raiF M u v i 0)=raiI h w M u v:=mkM_congr fun r c hr _=>by unfold raiF;rw[if_pos om]
   have b1:(o=q)=False:=eq_false om
   have b2:(o=1)=False:=eq_false om
   have b3:(o=0)=False:=eq_false om
   have b4:(q=1)=False:=eq_false om
   have b5:(1=q)=False:=eq_false om
   have hI:MI h w (K+K+1) (raiI h w M u v):=mk_mi fun r c hr hcw=>fits_sum ((hM.fit hr hcw).mono om) (fits_mulK (hfv _ (getD_mem (d:=0) om)) (hfu _ (getD_mem (d:=0) om)))
   have hIl:=hI.len
   rw[eE]
   by_cases h0:h=0
   ·subst h0
    have hids:ids=[]:=List.eq_nil_of_length_eq_zero om
    have hm0:raiI 0 w M u v=[]:=rfl
    subst hids
    rw[hm0]
    refine qWDf (Q4 @q1 @b1 @b4 @b5) ?_
    exact retQ_ret Tryz.results25 qS (qSf (Q5 @b1 @b2 @b3 @b4 @b5)) rfl
   ·have hrows: ∀C:List V,∀k,k<ids.length->hget ((q,(⟨28,[.sc (.int .i64 h),.sc (.int .i64 w),.sl o 0 h 1 none],false⟩:Blk))::(1,⟨28,C,false⟩)::(0,⟨28,[.sc (.int .i64 h),.sc (.int .i64 w),.im (imR w (rI M)) h],false⟩)::(o,⟨41,slR 2 w ids,false⟩)::rowsH 68 ids (rI (raiI h w M u v))) (ids.getD k 0)=some ⟨68,(rI (raiI h w M u v)).getD k [],false⟩:=by
     intro C k hk
     have hm:=getD_mem' hk
     have:=hR.lt _ hm
     simp only[hget]
     rw[if_neg om,if_neg om,if_neg om,if_neg (fun e=>hR.o2 (by rw[<-e];exact hm))]
     exact rows_get hR.nod hk (by rw[rI_len];omega)
    have hfz:=fun C:List V=>frz_rowsA (n:=4) (z:=2) (m:=w) (ty:=68) (ids:=ids) (rs:=rI (raiI h w M u v)) om (by rw[rI_len];omega) (hrows C) (rI_rows hI)
    have hsl:=slR_some (z:=2) (m:=w) (ids:=ids) om
    have ht:(slR 2 w ids).take h=slR 2 w ids:=zla om
    rw[hIl]
    refine qWDf (Q4 @q1 @b1 @b4 @b5) ?_
    exact retQ_ret Tryz.results25 qS (qSf (Q9 @hfz @hsl @ht @g1 @b1 @b2 @b3 @b4 @b5)) rfl
end
section
open Go.RowKit
theorem mul_mi{h n w K:Nat}{A C:List (List Int)}(hA:MI h n K A)(hC:MI n w K C)(hn:n<=1000000):MI h w (2*K+1) (mulM h n w A C):=
 mk_mi fun _ _ hr hc=>dot_fits hn fun _ ht=>⟨hA.fit hr ht,hC.fit ht hc⟩
theorem act_mul{h n w K:Nat}{A C:List (List Int)}(hA:MI h n K A)(hC:MI n w K C)(hn:n<=1000000){o:OpL}(ho:OkOp h o):actO (mulM h n w A C) o=mulM h n w (actO A o) C:=by
 have hA':=hA.act ho
 have hC':=hC.mono ((show K<=K+OL+1 by omega))
 have hM:=mul_mi hA hC hn
 refine mat_ent (hM.act ho) (mul_mi hA' hC' hn) fun r c hr hc=> ?_
 rw[act_ent hM ho hr hc]
 have hi:=ho.i
 unfold mulM
 rw[ent_mk hr hc,ent_mk hr hc]
 have e: ∀t,t<n->ent2 (actO A o) r t=_:=fun t ht=>act_ent hA ho hr ht
 by_cases h1:o.kd=1
 ·have hj:o.j<h:=by rcases ho.c with⟨_,hj,_⟩|⟨e,_⟩|⟨e,_⟩<;>omega
  rw[if_pos h1]
  rw[ent_mk hi hc,ent_mk hj hc]
  by_cases a:r=o.j
  ·rw[if_pos a]
   exact dot_congr fun t ht=>⟨by rw[e t ht,if_pos h1,if_pos a],rfl⟩
  ·rw[if_neg a]
   by_cases b:r=o.i
   ·rw[if_pos b]
    exact dot_congr fun t ht=>⟨by rw[e t ht,if_pos h1,if_neg a,if_pos b],rfl⟩
   ·rw[if_neg b]
    exact dot_congr fun t ht=>⟨by rw[e t ht,if_pos h1,if_neg a,if_neg b],rfl⟩
 ·rw[if_neg h1]
  by_cases h2:o.kd=2
  ·rw[if_pos h2]
   by_cases b:r=o.i
   ·rw[if_pos b,<-dot_neg]
    exact dot_congr fun t ht=>⟨by rw[e t ht,if_neg h1,if_pos h2,if_pos b],rfl⟩
   ·rw[if_neg b]
    exact dot_congr fun t ht=>⟨by rw[e t ht,if_neg h1,if_pos h2,if_neg b],rfl⟩
  ·have hj:o.j<h:=by rcases ho.c with⟨e,_⟩|⟨e,_⟩|⟨_,hj,_⟩<;>omega
   rw[if_neg h2]
   by_cases b:r=o.i
   ·rw[if_pos b,ent_mk hj hc,<-dot_add]
    exact dot_congr fun t ht=>⟨by rw[e t ht,if_neg h1,if_neg h2,if_pos b],rfl⟩
   ·rw[if_neg b]
    exact dot_congr fun t ht=>⟨by rw[e t ht,if_neg h1,if_neg h2,if_neg b],rfl⟩
theorem acts_mul{h n w:Nat}(hn:n<=1000000): ∀{l:List OpL} {K:Nat} {A C:List (List Int)},MI h n K A->MI n w K C->(∀o∈l,OkOp h o)->actsO (mulM h n w A C) l=mulM h n w (actsO A l) C
 |[],_,_,_,_,_,_=>rfl
 |o::l,K,A,C,hA,hC,hl=>by
  rw[actsO,actsO,act_mul hA hC hn (hl o (by simp))]
  exact acts_mul hn (hA.act (hl o (by simp))) (hC.mono ((show K<=K+OL+1 by omega))) fun p hp=>hl p (by simp[hp])
theorem id_mul{h w K:Nat}{A:List (List Int)}(hA:MI h w K A):mulM h h w (idL h) A=A:=by
 rw[<-mkM_of hA]
 unfold mulM
 refine mkM_congr fun r c hr hc=> ?_
 rw[dot_congr (f':=fun t=>if r=t then 1 else 0) (g':=fun t=>ent2 A t c) fun t ht=>⟨by unfold idL;rw[ent_mk hr ht],by unfold ent2;rw[mkM_of hA]⟩,dot_unit,if_pos hr]
 rfl
theorem act_inv{h w K:Nat}{M:List (List Int)}(hM:MI h w K M){o:OpL}(ho:OkOp h o):actO (actO M o) (invO o)=M/\actO (actO M (invO o)) o=M:=by
 have hi:=ho.i
 have ho':=invO_ok ho
 have key: ∀o,OkOp h o->actO (actO M o) (invO o)=M:=by
  intro o ho
  have ho':=invO_ok ho
  have hM1:=hM.act ho
  refine mat_ent (hM1.act ho') hM fun r c hr hc=> ?_
  rw[act_ent hM1 ho' hr hc]
  show(if o.kd=1 then(if r=o.j then ent2 (actO M o) o.i c else if r=o.i then ent2 (actO M o) o.j c else ent2 (actO M o) r c)else if o.kd=2 then(if r=o.i then-(ent2 (actO M o) r c)else ent2 (actO M o) r c)else(if r=o.i then ent2 (actO M o) r c+(-o.k)*ent2 (actO M o) o.j c else ent2 (actO M o) r c))=_
  rw[act_ent hM ho hr hc,act_ent hM ho ho.i hc]
  by_cases h1:o.kd=1
  ·obtain⟨hj,hij⟩:o.j<h/\o.i≠o.j:=by rcases ho.c with⟨_,hj,hij,_⟩|⟨e,_⟩|⟨e,_⟩<;>first|exact⟨hj,hij⟩|omega
   rw[act_ent hM ho hj hc]
   simp only[h1,if_true,if_neg hij]
   by_cases a:r=o.j
   ·subst a;simp
   ·by_cases b:r=o.i
    ·subst b;simp[hij]
    ·simp[a,b]
  ·by_cases h2:o.kd=2
   ·simp only[h2]
    by_cases b:r=o.i
    ·simp[b]
    ·simp[b]
   ·obtain⟨hj,hij⟩:o.j<h/\o.i≠o.j:=by rcases ho.c with⟨e,_⟩|⟨e,_⟩|⟨_,hj,hij⟩<;>first|exact⟨hj,hij⟩|omega
    rw[act_ent hM ho hj hc]
    simp only[if_neg h1,if_neg h2,if_neg (Ne.symm hij)]
    by_cases b:r=o.i
    ·simp only[if_pos b];rw[Int.neg_mul];omega
    ·simp only[if_neg b]
 refine⟨key o ho,?_⟩
 have:=key (invO o) ho'
 rwa[show invO (invO o)=o by obtain⟨a,b,c,d⟩:=o;simp[invO]]at this
theorem actsO_app: ∀(a b:List OpL) (M:List (List Int)),actsO M (a++b)=actsO (actsO M a) b
 |[],_,_=>rfl
 |o::a,b,M=>by rw[zl8,actsO,actsO,actsO_app a b]
theorem acts_mi{h w:Nat}: ∀{l:List OpL} {K:Nat} {M:List (List Int)},MI h w K M->(∀o∈l,OkOp h o)->MI h w (K+(OL+1)*l.length) (actsO M l)
 |[],_,_,hM,_=>hM
 |o::l,K,M,hM,hl=>by
  rw[actsO]
  exact(acts_mi (hM.act (hl o (by simp))) fun p hp=>hl p (by simp[hp])).mono (by rw[List.length_cons,Nat.mul_succ];omega)
theorem invL_cons(o:OpL)(l:List OpL):invL (o::l)=invL l++ [invO o]:=by simp[invL]
theorem acts_inv{h w:Nat}: ∀{l:List OpL} {K:Nat} {M:List (List Int)},MI h w K M->(∀o∈l,OkOp h o)->actsO (actsO M l) (invL l)=M/\actsO (actsO M (invL l)) l=M
 |[],_,_,_,_=>⟨rfl,rfl⟩
 | o::l,K,M,hM,hl=>by
  have ho:=hl o (by simp)
  have hl': ∀p∈l,OkOp h p:=fun p hp=>hl p (by simp[hp])
  constructor
  ·rw[actsO,invL_cons,actsO_app,(acts_inv (hM.act ho) hl').1]
   exact(act_inv hM ho).1
  ·rw[invL_cons,actsO_app,actsO]
   show actsO (actO (actO (actsO M (invL l)) (invO o)) o) l=M
   rw[(act_inv (acts_mi hM (invL_ok hl')) ho).2]
   exact(acts_inv hM hl').2
end
end Go.Proofs.YtannldafjkjjbaaGreat
