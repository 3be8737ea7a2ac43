/- Texts joined: Rs Rt Hg Hh Yb Yc Yd Ya Hi Ye Ka. -/
import Derived.Test.YtannldafjkjjbaaGreatVi
set_option linter.all false
set_option maxHeartbeats 16000000
open Nat renaming reduceEqDiff → zn1, reduceLT → zn2, reduceLeDiff → zn3, reduceAdd → zn4, reduceMul → zn5, reduceSub → zn6, reduceBEq → zn7, mul_one → zn8, zero_add → zn9, one_mul → zna, le_refl → znb, zero_le → znc, add_sub_cancel_left → znd, sub_eq_zero_of_le → zne, add_assoc → znf
open Int renaming reduceToNat → zi1, reducePow → zi2
open List renaming length_append → zl1, drop_zero → zl2, take_succ_cons → zl3, take_zero → zl4, getElem?_drop → zl5, append_assoc → zl6, nil_append → zl7, cons_append → zl8, drop_succ_cons → zl9, take_of_length_le → zla, getElem?_eq_getElem → zlb, getElem?_eq_some_iff → zlc, map_cons → zld, map_nil → zle, all_eq_true → zlf
namespace Go.Proofs.YtannldafjkjjbaaGreat
section
open Go.RowKit
def bv8(l:List Int):List V:=l.map fun n=> .sc (.int .i8 n)
theorem bv8_len(l:List Int):(bv8 l).length=l.length:=by simp[bv8]
theorem bv8_get{r:List Int}{j:Nat}(h:j<r.length):(bv8 r)[j]? =some (.sc (.int .i8 (r.getD j 0))):=by
 unfold bv8;rw[List.getElem?_map,getD_get' (d:=0) h];rfl
def dgt(l:List Int)(k:Nat):Int:=if k<l.length then(l.getD k 0).tmod 10 else 0
theorem dgt_small{l:List Int}{k:Nat}(h: ∀x∈l,-128<=x/\x<=127): -9<=dgt l k/\dgt l k<=9:=by
 unfold dgt
 split
 ·rename_i hc
  have hx:=h _ (getD_mem (d:=0) hc)
  generalize l.getD k 0=x at*
  have:=Int.tmod_def x 10
  have h1:=Int.tmod_lt_of_pos x (b:=10) om
  have h2:=Int.lt_tmod_of_pos x (b:=10) om
  omega
 ·omega
def Gf(w:Nat)(l:List Int)(i j r c:Nat):Int:=if r<i\/(r=i/\c<j)then dgt l (r*w+c)else 0
def filL(h w:Nat)(l:List Int):List (List Int):=mkM h w fun r c=>dgt l (r*w+c)
set_option maxRecDepth 8000 in
theorem filled_s{h w:Nat}{l:List Int}(hn:h<=16)(hw:w<=16)(hb: ∀x∈l,-128<=x/\x<=127)(hl:l.length<=9223372036854775807):
  Spec Tryz.prog 45 [.sc (.int .i64 h),.sc (.int .i64 w),.im (bv8 l) l.length] (mat w (filL h w l)):=by
 have c0:=rnew_s h w 1 om om
 have hm1:max (h:Int) 0=h:=by omega
 have hm2:max (w:Int) 0=w:=by omega
 have hm3:min (h:Int) 16=h:=by omega
 have hm4:min (w:Int) 16=w:=by omega
 refine qF Tryz.func45 Tryz.ntmps45 fun B hB=> ?_
 refine qWDf (Q4 @hm1 @hm2 @hm3 @hm4) ?_
 refine SO.inlQ qS Tab.go75 qS qS (SInlQ.newR c0 ?_ ?_ ?_)
 ·exact klc om kln
 ·exact fun x hp' nx' h=>matQ_new h
 rintro x hp' nx ⟨o,ids,hR,rfl,rfl⟩
 have ho:=hR.o1
 rw[zeroL_len]at hR⊢
 have e0:zeroL h w=mkM h w (Gf w l 0 0):=by
  rw[mkM_zero]
  exact mkM_congr fun r c _ _=>by
   unfold Gf
   rw[if_neg om]
 rw[e0]
 have hidl:=hR.len
 have g1:=slR_len 2 w ids
 rw[hidl]at g1
 refine qWD ?_
 refine SC.loop (fun i:Nat=>⟨[(2,.im (bv8 l) l.length),(6,.pt 0 0),(7,.pt nx 0),(8,.sc (.int .i64 i))],(nx,⟨28,[.sc (.int .i64 h),.sc (.int .i64 w),.sl o 0 h 1 none],false⟩)::(0,⟨28,[.sc (.int .i64 0),.sc (.int .i64 0),.sc (.slice none 0 0)],false⟩)::(o,⟨41,slR 2 w ids,false⟩)::rowsH 68 ids (rI (mkM h w (Gf w l i 0))),nx+1,60⟩)
  (fun i=>i<=h) (fun i=>h-i) 0 ?_ ?_ ?_
 ·exact qM
 ·exact znc _
 ·intro i hi K1 hK1
  by_cases hc:i<h
  ·have q1:=decide_eq_true (p:=(i:Int)<(h:Int)) om
   refine qWDf @q1 ?_
   refine SC.loop (fun j:Nat=>⟨[(2,.im (bv8 l) l.length),(6,.pt 0 0),(7,.pt nx 0),(8,.sc (.int .i64 i)),(9,.sc (.int .i64 j))],(nx,⟨28,[.sc (.int .i64 h),.sc (.int .i64 w),.sl o 0 h 1 none],false⟩)::(0,⟨28,[.sc (.int .i64 0),.sc (.int .i64 0),.sc (.slice none 0 0)],false⟩)::(o,⟨41,slR 2 w ids,false⟩)::rowsH 68 ids (rI (mkM h w (Gf w l i j))),nx+1,60⟩)
    (fun j=>j<=w) (fun j=>w-j) 0 ?_ ?_ ?_
   ·exact qM
   ·exact znc _
   ·intro j hj K2 hK2
    have hiw:i*w<=16*16:=Nat.mul_le_mul om hw
    have hww:(i:Int)*(w:Int)=((i*w:Nat):Int):=by simp
    by_cases hc2:j<w
    ·have q2:=decide_eq_true (p:=(j:Int)<(w:Int)) om
     have gl:=bv8_len l
     by_cases hc3:i*w+j<l.length
     ·have q3:=decide_eq_true (p:=((i*w:Nat):Int)+(j:Int)<(l.length:Int)) om
      have gi:=slR_get (z:=2) (m:=w) (ids:=ids) (k:=i) om
      obtain⟨gR,gl2,gd,gs,hrs⟩:=cellF (ty:=68) (f:=Gf w l i j) (z:=dgt l (i*w+j)) (j:=j) hR.nod hidl hc hc2
      have e1:(mkM h w fun r c=>if r=i/\c=j then dgt l (i*w+j)else Gf w l i j r c)=mkM h w (Gf w l i (j+1)):=mkM_congr fun r c _ _=>by
       unfold Gf
       by_cases e:r=i/\c=j
       ·obtain⟨rfl,rfl⟩:=e
        rw[if_pos ⟨rfl,rfl⟩,if_pos om]
       ·rw[if_neg e]
        by_cases e2:r<i\/(r=i/\c<j)
        ·rw[if_pos e2,if_pos om]
        ·rw[if_neg e2,if_neg om]
      rw[e1]at hrs
      have hd:=dgt_small (k:=i*w+j) hb
      have c1:=of_i (dgt l (i*w+j)) om om
      have ed:dgt l (i*w+j)=(l.getD (i*w+j) 0).tmod 10:=by unfold dgt;rw[if_pos hc3]
      rw[ed]at c1 gs hrs
      have g3:=bv8_get hc3
      have hx:=hb _ (getD_mem (d:=0) hc3)
      have hkl:=klB_rows (ty:=68) (rs:=rI (mkM h w (Gf w l i j))) (n:=nx+1) (fun j hj=>by have:=hR.lt j hj;omega)
      have hmem:=getD_mem' (ids:=ids) (k:=i) om
      have hidk:=hR.lt _ hmem
      have hne:ids.getD i 0≠o:=fun e=>hR.o2 (by rw[<-e];exact hmem)
      have hix:(((i*w:Nat):Int)+(j:Int)).toNat=i*w+j:=by omega
      generalize hH:rowsH 68 ids (rI (mkM h w (Gf w l i j)))=H at*
      generalize mkR w (Gf w l i j i)=row at*
      generalize ids.getD i 0=idk at*
      generalize hRr:ivR row=RR at*
      generalize l.getD (i*w+j) 0=dd at*
      unfold iv sv at c1
      unfold ivC sv at gs
      have g2:j*2<RR.length:=by omega
      refine qWDf (Q15 @q2 @q3 @hww @hix @g1 @gi @gR @gl @gl2 @gs @hrs @g2 @g3 @hkl @gD) ?_
      refine hK2 _ (j+1) ?_ om om
      exact qM
     ·have q3:=decide_eq_false (p:=((i*w:Nat):Int)+(j:Int)<(l.length:Int)) om
      refine qWDf (Q4 @q2 @q3 @hww @gl) ?_
      refine hK1 _ (i+1) ?_ om om
      have e1:mkM h w (Gf w l i j)=mkM h w (Gf w l (i+1) 0):=mkM_congr fun r c _ hcw=>by
       unfold Gf
       by_cases e:r<i\/(r=i/\c<j)
       ·rw[if_pos e,if_pos om]
       ·rw[if_neg e]
        by_cases e2:r=i
        ·subst e2
         rw[if_pos om]
         unfold dgt
         rw[if_neg om]
        ·rw[if_neg om]
      rw[e1]
      exact qM
    ·have q2:=decide_eq_false (p:=(j:Int)<(w:Int)) om
     have hjw:j=w:=by omega
     refine qWDf @q2 ?_
     refine hK1 _ (i+1) ?_ om om
     have e1:mkM h w (Gf w l i j)=mkM h w (Gf w l (i+1) 0):=mkM_congr fun r c _ hcw=>by
      unfold Gf
      by_cases e:r<i\/(r=i/\c<j)
      ·rw[if_pos e,if_pos om]
      ·rw[if_neg e]
       by_cases e2:r=i
       ·subst e2
        rw[if_pos om]
        unfold dgt
        rw[if_neg om]
       ·rw[if_neg om]
     rw[e1]
     exact qM
  ·have q1:=decide_eq_false (p:=(i:Int)<(h:Int)) om
   have hih:i=h:=by omega
   subst hih
   have e1:mkM i w (Gf w l i 0)=filL i w l:=mkM_congr fun r c hr _=>by
    unfold Gf
    rw[if_pos (.inl hr)]
   rw[e1]
   have hM:MI i w 1 (filL i w l):=mk_mi fun r c _ _=>by
    have:=dgt_small (k:=r*w+c) hb
    unfold Fits;omega
   generalize filL i w l=Z at*
   have hZl:=hM.len
   by_cases h0:i=0
   ·subst h0
    have hids:ids=[]:=List.eq_nil_of_length_eq_zero om
    have hZ:Z=[]:=List.eq_nil_of_length_eq_zero om
    subst hids;subst hZ
    refine qWDf @q1 ?_
    exact qE Tryz.results45
   ·have hrows: ∀C1 C2:List V,∀k,k<ids.length->hget ((nx,(⟨28,C1,false⟩:Blk))::(0,⟨28,C2,false⟩)::(o,⟨41,slR 2 w ids,false⟩)::rowsH 68 ids (rI Z)) (ids.getD k 0)=some ⟨68,(rI Z).getD k [],false⟩:=by
     intro C1 C2 k hk
     have hm:=getD_mem' hk
     have:=hR.lt _ hm
     simp only[hget]
     rw[if_neg om,if_neg om,if_neg (fun e=>hR.o2 (by rw[<-e];exact hm))]
     exact rows_get hR.nod hk (by rw[rI_len];omega)
    have hfz:=fun C1 C2:List V=>frz_rowsA (n:=5) (z:=2) (m:=w) (ty:=68) (ids:=ids) (rs:=rI Z) om (by rw[rI_len];omega) (hrows C1 C2) (rI_rows hM)
    have hsl:=slR_some (z:=2) (m:=w) (ids:=ids) om
    have ht:(slR 2 w ids).take i=slR 2 w ids:=zla om
    have hne:nx≠o:=by omega
    unfold mat
    rw[hZl]
    refine qWDf @q1 ?_
    exact retQ_ret Tryz.results45 qS (qSf (Q4 @hfz @hsl @ht @g1)) rfl
end
section
open Go.RowKit
theorem rmade_s{a b:Nat}{l:List Int}(ha:a<256)(hb:b<256)(hx: ∀x∈l,-128<=x/\x<=127)(hl:l.length<=9223372036854775807):
  Spec Tryz.prog 13 [.ag [.sc (.int .u8 a),.sc (.int .u8 b),.im (bv8 l) l.length]] (mat (b % 5) (filL (a % 5) (b % 5) l)):=by
 have c1:=filled_s (h:=a % 5) (w:=b % 5) (l:=l) om om hx hl
 have r1:(a:Int).tmod 5=((a % 5:Nat):Int):=by rw[Int.tmod_eq_emod_of_nonneg om];simp
 have r2:(b:Int).tmod 5=((b % 5:Nat):Int):=by rw[Int.tmod_eq_emod_of_nonneg om];simp
 generalize filL (a % 5) (b % 5) l=F at*
 unfold mat at*
 refine qF Tryz.func13 Tryz.ntmps13 fun B hB=> ?_
 refine qWf (Q2 @r1 @r2) ?_
 exact qE Tryz.results13
end
section
open Go.RowKit
def colNeg(h i r:Nat)(W:List (List Int)):List (List Int):=W.mapIdx fun q row=>if 2*h<=q/\q<2*h+r then row.set i (-(row.getD i 0))else row
theorem colNeg_len{h i r:Nat}{W:List (List Int)}:(colNeg h i r W).length=W.length:=by simp[colNeg]
theorem colNeg_get{h i r q:Nat}{W:List (List Int)}(hq:q<W.length):(colNeg h i r W).getD q []=if 2*h<=q/\q<2*h+r then(W.getD q []).set i (-((W.getD q []).getD i 0))else W.getD q []:=by
 unfold colNeg
 rw[List.getD_eq_getElem?_getD,List.getElem?_mapIdx,getD_get' (d:=[]) hq];rfl
theorem colNeg_zero{h i:Nat}{W:List (List Int)}:colNeg h i 0 W=W:=rows_ext colNeg_len fun q hq=>by
 rw[colNeg_len]at hq
 rw[colNeg_get hq,if_neg om]
theorem colNeg_set{h i r:Nat}{W:List (List Int)}(hr:2*h+r<W.length):(colNeg h i r W).set (2*h+r) ((W.getD (2*h+r) []).set i (-((W.getD (2*h+r) []).getD i 0)))=colNeg h i (r+1) W:=by
 refine rows_ext (by rw[List.length_set,colNeg_len,colNeg_len]) fun q hq=> ?_
 rw[List.length_set,colNeg_len]at hq
 rw[getD_set (by rw[colNeg_len];exact hr),colNeg_get hq,colNeg_get hq]
 by_cases e:q=2*h+r
 ·rw[if_pos e,if_pos om,e]
 ·rw[if_neg e]
  by_cases e2:2*h<=q/\q<2*h+r
  ·rw[if_pos e2,if_pos om]
  ·rw[if_neg e2,if_neg om]
def negW(h i:Nat)(W:List (List Int)):List (List Int):=
 colNeg h i h ((W.set i (negI (W.getD i []))).set (h+i) (negI (W.getD (h+i) [])))
theorem negW_wi{h w K i:Nat}{W:List (List Int)}(hW:WI h w K W)(hi:i<h):WI h w K (negW h i W):=by
 have hl:=hW.len
 have key: ∀q,∀t,Fits K ((negI (W.getD q [])).getD t 0):=by
  intro q t
  by_cases ht:t<(W.getD q []).length
  ·rw[negI_get ht];exact fits_neg (hW.fit q t)
  ·rw[List.getD_eq_getElem?_getD,List.getElem?_eq_none (by rw[negI_len];omega)];exact fits0
 have h1:=hW.set (q:=i) (r:=negI (W.getD i [])) om (by rw[negI_len]) (key i)
 have h2:=h1.set (q:=h+i) (r:=negI (W.getD (h+i) [])) om (by rw[negI_len,getD_set om,if_neg om]) (key (h+i))
 unfold negW
 generalize hX:(W.set i (negI (W.getD i []))).set (h+i) (negI (W.getD (h+i) []))=X at*
 have hX2: ∀q,2*h<=q->q<3*h->X.getD q []=W.getD q []:=by
  intro q h3 h4
  rw[<-hX,getD_set (by rw[List.length_set];omega),if_neg om,getD_set om,if_neg om]
 have hxl:=h2.len
 refine⟨by rw[colNeg_len];exact hxl,fun q hq=> ?_,fun q h3 h4=> ?_,fun q t=> ?_⟩
 ·rw[colNeg_get om,if_neg om];exact h2.rowM q hq
 ·rw[colNeg_get om]
  split
  ·rw[List.length_set];exact h2.rowU q h3 h4
  ·exact h2.rowU q h3 h4
 ·by_cases hq:q<3*h
  ·rw[colNeg_get om]
   split
   ·rename_i hc
    rw[hX2 q om hq]
    have hrl:=hW.rowU q om hq
    rw[getD_set om]
    split
    ·exact fits_neg (hW.fit q i)
    ·exact hW.fit q t
   ·exact h2.fit q t
  ·rw[List.getD_eq_getElem?_getD (l:=colNeg _ _ _ _),List.getElem?_eq_none (by rw[colNeg_len];omega)]
   exact fits0
set_option maxRecDepth 8000 in
theorem negate_q{h w K p oM oU oV nx i:Nat}{a b c:List Nat}{W:List (List Int)}(hW:WI h w K W)(hK:K<=100000000000)(hI:WIds p oM oU oV a b c h nx)(hi:i<h)(hn:h<=1000000)(hw:w<=1000000):
  InlQ Tryz.prog 66 [.pt p 0,.sc (.int .i64 i)] (wkH p oM oU oV h w a b c W) nx (fun x hp' nx'=>x= .tu []/\nx'=nx/\hp'=wkH p oM oU oV h w a b c (negW h i W)):=by
 have hl:=hW.len
 obtain⟨l1,l2,l3,l4⟩:=hI.lts
 have v1:p+1-nx=0:=by omega
 have v2:oM+1-nx=0:=by omega
 have v3:oU+1-nx=0:=by omega
 have v4:oV+1-nx=0:=by omega
 obtain⟨z1,z2,z3,z4,z5,z6⟩:=hI.nes
 have la:=hI.la
 have lb:=hI.lb
 have lc:=hI.lc
 have ga:=slR_len 2 w a
 have gb:=slR_len 2 h b
 have gc:=slR_len 2 h c
 rw[la]at ga
 rw[lb]at gb
 rw[lc]at gc
 refine InlQ.run Tryz.func66 rfl Tryz.ntmps66 (by simp) (by unfold wkH workC;simp(disch:=omega) only[go_sem,↓reduceIte,zn1,zn2,zn3,zn4,zn5,zn6,reduceCtorEq,zn7,zi1,zi2,if_pos,if_neg,Int.reduceAdd];rfl) fun B hB=> ?_
 refine qWD ?_
 have e1:(W).set (i) (negPre 0 (W.getD (i) []))=W:=by
  rw[negPre_zero]
  have:=setI_self (M:=W) (i:=i) om
  exact this
 refine SC.loop (fun t:Nat=>⟨[(0,.pt p 0),(1,.sc (.int .i64 i)),(4,.sc (.int .i64 t))],wkH p oM oU oV h w a b c ((W).set (i) (negPre t (W.getD (i) []))),nx,100⟩)
  (fun t=>t<=w) (fun t=>w-t) 0 ?_ ?_ ?_
 ·rw[e1]
  unfold wkH workC
  exact qM
 ·exact znc _
 ·intro t ht K2 hK2
  have hrl:(W.getD (i) []).length=w:=hW.rowM i hi
  by_cases hc:t<w
  ·as_aux_lemma=>
    have q1:=decide_eq_true (p:=(t:Int)<(w:Int)) om
    have hWl:((W).set (i) (negPre t (W.getD (i) []))).length=3*h:=by rw[List.length_set];exact hl
    have gi:=slR_get (z:=2) (m:=w) (ids:=a) (k:=i) om
    obtain⟨gR,y1,y2,y3,y4,y5⟩:=hI.rowF hWl (q:=i) om
    rw[getD_set om,if_pos rfl]at gR
    have c1:=neg_i ((W.getD (i) []).getD t 0) K (hW.fit (i) t) om
    have gl:=ivR_len (negPre t (W.getD (i) []))
    rw[negPre_len,hrl]at gl
    have gd:=ivR_drop (l:=negPre t (W.getD (i) [])) (i:=t) (by rw[negPre_len];omega)
    rw[negPre_get om,if_neg om]at gd
    have gs:=ivR_set (l:=negPre t (W.getD (i) [])) (i:=t) (-((W.getD (i) []).getD t 0)) (by rw[negPre_len];omega)
    rw[negPre_set om]at gs
    have hrs:=hI.rset hWl (q:=i) om (negPre (t+1) (W.getD (i) []))
    rw[List.set_set]at hrs
    have hkl:=hI.kl (W:=(W).set (i) (negPre t (W.getD (i) []))) (m:=nx) om
    rw[hI.iM hi]at gR y1 y2 y3 y4 y5 hrs
    have v5:a.getD i 0+1-nx=0:=zne y1
    unfold wkH workC at*
    generalize(ivR (negPre t (W.getD (i) []))).drop ((t+1)*2)=D at*
    generalize hA:ivR (negPre t (W.getD (i) []))=A at*
    generalize(W.getD (i) []).getD t 0=x at*
    generalize hA':ivR (negPre (t+1) (W.getD (i) []))=A' at*
    generalize hH:rowsH 68 (a++b++c) (rI ((W).set (i) (negPre t (W.getD (i) []))))=H at*
    generalize a.getD i 0=idk at*
    unfold iv sv at c1
    unfold ivC sv at gd gs
    simp only[zl8,zl7]at gd
    have g2:t*2<A.length:=by omega
    refine qWDf (Q22 @q1 @ga @gb @gc @gi @gR @gl @gd @gs @g2 @hrs @hkl @z1 @z2 @z3 @z4 @z5 @z6 @y2 @y3 @y4 @y5) ?_
    refine hK2 _ (t+1) ?_ om om
    exact qM
  ·have htw:t=w:=by omega
   have q1:=decide_eq_false (p:=(w:Int)<(w:Int)) om
   rw[htw,negPre_end hrl]
   unfold wkH workC
   refine qWDf (Q7 @q1 @z1 @z2 @z3 @z4 @z5 @z6) ?_
   have e2:(W.set i (negI (W.getD i []))).set (h+i) (negPre 0 (W.getD (h+i) []))=W.set i (negI (W.getD i [])):=by
    rw[negPre_zero]
    have:=setI_self (M:=W.set i (negI (W.getD i []))) (i:=h+i) (by rw[List.length_set];omega)
    rwa[getD_set om,if_neg om]at this
   refine SC.loop (fun t:Nat=>⟨[(0,.pt p 0),(1,.sc (.int .i64 i)),(5,.sc (.int .i64 t))],wkH p oM oU oV h w a b c ((W.set i (negI (W.getD i []))).set (h+i) (negPre t (W.getD (h+i) []))),nx,100⟩)
    (fun t=>t<=h) (fun t=>h-t) 0 ?_ ?_ ?_
   ·rw[e2]
    unfold wkH workC
    exact qM
   ·exact znc _
   ·intro t ht K2 hK2
    have hrl:(W.getD (h+i) []).length=h:=hW.rowU (h+i) om om
    by_cases hc:t<h
    ·as_aux_lemma=>
      have q1:=decide_eq_true (p:=(t:Int)<(h:Int)) om
      have hWl:((W.set i (negI (W.getD i []))).set (h+i) (negPre t (W.getD (h+i) []))).length=3*h:=by rw[List.length_set,List.length_set];exact hl
      have gi:=slR_get (z:=2) (m:=h) (ids:=b) (k:=i) om
      obtain⟨gR,y1,y2,y3,y4,y5⟩:=hI.rowF hWl (q:=h+i) om
      rw[getD_set (by rw[List.length_set];omega),if_pos rfl]at gR
      have c1:=neg_i ((W.getD (h+i) []).getD t 0) K (hW.fit (h+i) t) om
      have gl:=ivR_len (negPre t (W.getD (h+i) []))
      rw[negPre_len,hrl]at gl
      have gd:=ivR_drop (l:=negPre t (W.getD (h+i) [])) (i:=t) (by rw[negPre_len];omega)
      rw[negPre_get om,if_neg om]at gd
      have gs:=ivR_set (l:=negPre t (W.getD (h+i) [])) (i:=t) (-((W.getD (h+i) []).getD t 0)) (by rw[negPre_len];omega)
      rw[negPre_set om]at gs
      have hrs:=hI.rset hWl (q:=h+i) om (negPre (t+1) (W.getD (h+i) []))
      rw[List.set_set]at hrs
      have hkl:=hI.kl (W:=(W.set i (negI (W.getD i []))).set (h+i) (negPre t (W.getD (h+i) []))) (m:=nx) om
      rw[hI.iU hi]at gR y1 y2 y3 y4 y5 hrs
      have v5:b.getD i 0+1-nx=0:=zne y1
      unfold wkH workC at*
      generalize(ivR (negPre t (W.getD (h+i) []))).drop ((t+1)*2)=D at*
      generalize hA:ivR (negPre t (W.getD (h+i) []))=A at*
      generalize(W.getD (h+i) []).getD t 0=x at*
      generalize hA':ivR (negPre (t+1) (W.getD (h+i) []))=A' at*
      generalize hH:rowsH 68 (a++b++c) (rI ((W.set i (negI (W.getD i []))).set (h+i) (negPre t (W.getD (h+i) []))))=H at*
      generalize b.getD i 0=idk at*
      unfold iv sv at c1
      unfold ivC sv at gd gs
      simp only[zl8,zl7]at gd
      have g2:t*2<A.length:=by omega
      refine qWDf (Q22 @q1 @ga @gb @gc @gi @gR @gl @gd @gs @g2 @hrs @hkl @z1 @z2 @z3 @z4 @z5 @z6 @y2 @y3 @y4 @y5) ?_
      refine hK2 _ (t+1) ?_ om om
      exact qM
    ·have htw:t=h:=by omega
     have q1:=decide_eq_false (p:=(h:Int)<(h:Int)) om
     rw[htw,negPre_end hrl]
     unfold wkH workC
     refine qWDf (Q7 @q1 @z1 @z2 @z3 @z4 @z5 @z6) ?_
     have e3:colNeg h i 0 ((W.set i (negI (W.getD i []))).set (h+i) (negI (W.getD (h+i) [])))=(W.set i (negI (W.getD i []))).set (h+i) (negI (W.getD (h+i) [])):=colNeg_zero
     have eA:negW h i W=colNeg h i h ((W.set i (negI (W.getD i []))).set (h+i) (negI (W.getD (h+i) []))):=rfl
     have hX2: ∀q,2*h<=q->q<3*h->((W.set i (negI (W.getD i []))).set (h+i) (negI (W.getD (h+i) []))).getD q []=W.getD q []:=by
      intro q h3 h4
      rw[getD_set (by rw[List.length_set];omega),if_neg om,getD_set om,if_neg om]
     have hXl:((W.set i (negI (W.getD i []))).set (h+i) (negI (W.getD (h+i) []))).length=3*h:=by rw[List.length_set,List.length_set];exact hl
     rw[<-e3,eA]
     generalize(W.set i (negI (W.getD i []))).set (h+i) (negI (W.getD (h+i) []))=X at*
     refine SC.loop (fun t:Nat=>⟨[(0,.pt p 0),(1,.sc (.int .i64 i)),(6,.sc (.int .i64 t))],wkH p oM oU oV h w a b c (colNeg h i t X),nx,100⟩)
      (fun t=>t<=h) (fun t=>h-t) 0 ?_ ?_ ?_
     ·unfold wkH workC
      exact qM
     ·exact znc _
     ·intro t ht K3 hK3
      by_cases hc:t<h
      ·as_aux_lemma=>
        have q1:=decide_eq_true (p:=(t:Int)<(h:Int)) om
        have hrl:(W.getD (2*h+t) []).length=h:=hW.rowU (2*h+t) om om
        have hWl:(colNeg h i t X).length=3*h:=by rw[colNeg_len];exact hXl
        have gi:=slR_get (z:=2) (m:=h) (ids:=c) (k:=t) om
        obtain⟨gR,y1,y2,y3,y4,y5⟩:=hI.rowF hWl (q:=2*h+t) om
        rw[colNeg_get om,if_neg om,hX2 _ om om]at gR
        have c1:=neg_i ((W.getD (2*h+t) []).getD i 0) K (hW.fit (2*h+t) i) om
        have gl:=ivR_len (W.getD (2*h+t) [])
        rw[hrl]at gl
        have gd:=ivR_drop (l:=W.getD (2*h+t) []) (i:=i) om
        have gs:=ivR_set (l:=W.getD (2*h+t) []) (i:=i) (-((W.getD (2*h+t) []).getD i 0)) om
        have hrs:=hI.rset hWl (q:=2*h+t) om ((W.getD (2*h+t) []).set i (-((W.getD (2*h+t) []).getD i 0)))
        have hcs:=colNeg_set (h:=h) (i:=i) (r:=t) (W:=X) om
        rw[hX2 _ om om]at hcs
        rw[hcs]at hrs
        have hkl:=hI.kl (W:=colNeg h i t X) (m:=nx) om
        rw[hI.iV]at gR y1 y2 y3 y4 y5 hrs
        have v5:c.getD t 0+1-nx=0:=zne y1
        clear hcs
        unfold wkH workC at*
        generalize(ivR (W.getD (2*h+t) [])).drop ((i+1)*2)=Di at*
        generalize hA:ivR (W.getD (2*h+t) [])=A at*
        generalize hA':ivR ((W.getD (2*h+t) []).set i (-((W.getD (2*h+t) []).getD i 0)))=A' at*
        generalize(W.getD (2*h+t) []).getD i 0=x at*
        generalize hH:rowsH 68 (a++b++c) (rI (colNeg h i t X))=H at*
        generalize c.getD t 0=idk at*
        unfold iv sv at c1
        unfold ivC sv at gd gs
        simp only[zl8,zl7]at gd
        have g2:i*2<A.length:=by omega
        refine qWDf (Q22 @q1 @ga @gb @gc @gi @gR @gl @gd @gs @g2 @hrs @hkl @z1 @z2 @z3 @z4 @z5 @z6 @y2 @y3 @y4 @y5) ?_
        refine hK3 _ (t+1) ?_ om om
        exact qM
      ·have htw:t=h:=by omega
       have q1:=decide_eq_false (p:=(h:Int)<(h:Int)) om
       rw[htw]
       unfold wkH workC
       refine qWDf (Q7 @q1 @z1 @z2 @z3 @z4 @z5 @z6) ?_
       refine retIQ_normal (rs:=[]) (.tu []) (wkH p oM oU oV h w a b c (colNeg h i h X)) nx Tryz.results66 rfl ⟨rfl,rfl,rfl⟩ ?_
       refine Le.wkDown ⟨nx,hB,znb _⟩ hI (fun id q hq=>hq) ?_
       exact mapSl_cons rfl VMap.tu0 trivial
end
section
open Go.RowKit
def swpR(i j:Nat)(row:List Int):List Int:=(row.set i (row.getD j 0)).set j (row.getD i 0)
theorem swpR_len{i j:Nat}{row:List Int}:(swpR i j row).length=row.length:=by simp[swpR]
theorem swpR_get{i j t:Nat}{row:List Int}(hi:i<row.length)(hj:j<row.length):(swpR i j row).getD t 0=if t=j then row.getD i 0 else if t=i then row.getD j 0 else row.getD t 0:=by
 unfold swpR
 rw[getD_set (by rw[List.length_set];exact hj),getD_set hi]
def colSwp(h i j r:Nat)(W:List (List Int)):List (List Int):=W.mapIdx fun q row=>if 2*h<=q/\q<2*h+r then swpR i j row else row
theorem colSwp_len{h i j r:Nat}{W:List (List Int)}:(colSwp h i j r W).length=W.length:=by simp[colSwp]
theorem colSwp_get{h i j r q:Nat}{W:List (List Int)}(hq:q<W.length):(colSwp h i j r W).getD q []=if 2*h<=q/\q<2*h+r then swpR i j (W.getD q [])else W.getD q []:=by
 unfold colSwp
 rw[List.getD_eq_getElem?_getD,List.getElem?_mapIdx,getD_get' (d:=[]) hq];rfl
theorem colSwp_zero{h i j:Nat}{W:List (List Int)}:colSwp h i j 0 W=W:=rows_ext colSwp_len fun q hq=>by
 rw[colSwp_len]at hq
 rw[colSwp_get hq,if_neg om]
theorem colSwp_set{h i j r:Nat}{W:List (List Int)}(hr:2*h+r<W.length):(colSwp h i j r W).set (2*h+r) (swpR i j (W.getD (2*h+r) []))=colSwp h i j (r+1) W:=by
 refine rows_ext (by rw[List.length_set,colSwp_len,colSwp_len]) fun q hq=> ?_
 rw[List.length_set,colSwp_len]at hq
 rw[getD_set (by rw[colSwp_len];exact hr),colSwp_get hq,colSwp_get hq]
 by_cases e:q=2*h+r
 ·rw[if_pos e,if_pos om,e]
 ·rw[if_neg e]
  by_cases e2:2*h<=q/\q<2*h+r
  ·rw[if_pos e2,if_pos om]
  ·rw[if_neg e2,if_neg om]
def swapW(h i j:Nat)(W:List (List Int)):List (List Int):=swapI (swapI (colSwp h i j h W) i j) (h+i) (h+j)
theorem WI.swapI{h w K q t:Nat}{W:List (List Int)}(hW:WI h w K W)(hq:q<3*h)(ht:t<3*h)(he:(q<h/\t<h)\/(h<=q/\h<=t)):WI h w K (swapI W q t):=by
 have hl:=hW.len
 have e:=fun k=>swapI_get (M:=W) (i:=q) (j:=t) om om k
 refine⟨by rw[swapI_len];exact hl,fun k hk=> ?_,fun k h1 h2=> ?_,fun k s=> ?_⟩
 ·rw[e]
  split
  ·exact hW.rowM q om
  ·split
   ·exact hW.rowM t om
   ·exact hW.rowM k hk
 ·rw[e]
  split
  ·exact hW.rowU q om hq
  ·split
   ·exact hW.rowU t om ht
   ·exact hW.rowU k h1 h2
 ·rw[e]
  split
  ·exact hW.fit q s
  ·split
   ·exact hW.fit t s
   ·exact hW.fit k s
theorem swapW_wi{h w K i j:Nat}{W:List (List Int)}(hW:WI h w K W)(hi:i<h)(hj:j<h):WI h w K (swapW h i j W):=by
 have hl:=hW.len
 have h1:WI h w K (colSwp h i j h W):=by
  refine⟨by rw[colSwp_len];exact hl,fun q hq=> ?_,fun q h3 h4=> ?_,fun q t=> ?_⟩
  ·rw[colSwp_get om,if_neg om];exact hW.rowM q hq
  ·rw[colSwp_get om]
   split
   ·rw[swpR_len];exact hW.rowU q h3 h4
   ·exact hW.rowU q h3 h4
  ·by_cases hq:q<3*h
   ·rw[colSwp_get om]
    split
    ·rename_i hc
     have hrl:=hW.rowU q om hq
     rw[swpR_get om om]
     split
     ·exact hW.fit q i
     ·split
      ·exact hW.fit q j
      ·exact hW.fit q t
    ·exact hW.fit q t
   ·rw[List.getD_eq_getElem?_getD (l:=colSwp _ _ _ _ _),List.getElem?_eq_none (by rw[colSwp_len];omega)]
    exact fits0
 exact(h1.swapI om om om).swapI om om om
theorem swapN_app1{a b:List Nat}{i j:Nat}(hi:i<a.length)(hj:j<a.length):swapN (a++b) i j=swapN a i j++b:=by
 unfold swapN
 rw[List.set_append_left _ _ hi,List.set_append_left _ _ (by rw[List.length_set];exact hj),getD_app1 hi,getD_app1 hj]
theorem swapN_app2{a b:List Nat}{i j:Nat}:swapN (a++b) (a.length+i) (a.length+j)=a++swapN b i j:=by
 unfold swapN
 rw[List.set_append_right _ _ om,List.set_append_right _ _ om,getD_app2,getD_app2,znd,znd]
theorem swapN_len{a:List Nat}{i j:Nat}:(swapN a i j).length=a.length:=by simp[swapN]
section
variable {p oM oU oV h w K nx i j:Nat} {a b c:List Nat} {W:List (List Int)}
theorem WIds.swapL(hI:WIds p oM oU oV a b c h nx)(hi:i<h)(hj:j<h):swapN (swapN (a++b++c) i j) (h+i) (h+j)=swapN a i j++swapN b i j++c:=by
 have la:=hI.la;have lb:=hI.lb
 rw[zl6,swapN_app1 om om]
 have e:=swapN_app2 (a:=swapN a i j) (b:=b++c) (i:=i) (j:=j)
 rw[swapN_len,la]at e
 rw[e,swapN_app1 om om,zl6]
theorem nodup_swap{l:List Nat}{i j M:Nat}(hM: ∀x∈l,x<M)(hl:l.Nodup)(hi:i<l.length)(hj:j<l.length):(swapN l i j).Nodup/\ ∀x∈swapN l i j,x∈l:=by
 have:=Ids.swap (o:=M) (ids0:=l) (ids:=l) (n:=l.length) (nx:=M+1) ⟨rfl,hl,fun _ h=>h,fun x hx=>by have:=hM x hx;omega,by omega,fun hm=>by have:=hM M hm;omega⟩ hi hj
 exact⟨this.nod,this.sub⟩
theorem WIds.swap(hI:WIds p oM oU oV a b c h nx)(hi:i<h)(hj:j<h):WIds p oM oU oV (swapN a i j) (swapN b i j) c h nx:=by
 have la:=hI.la;have lb:=hI.lb;have lc:=hI.lc
 obtain⟨z1,z2,z3,z4,z5,z6,n1,n2,n3,n4,n5⟩:=nodup_four hI.nod
 have hll:(a++b++c).length=3*h:=by rw[zl1,zl1];omega
 have lr: ∀x∈a++b++c,x<nx:=fun x hx=>hI.rng x (by simp only[List.mem_cons];exact .inr (.inr (.inr (.inr hx))))
 have s1:=nodup_swap (i:=i) (j:=j) lr n5 om om
 have s2:=nodup_swap (i:=h+i) (j:=h+j) (fun x hx=>lr x (s1.2 x hx)) s1.1 (by rw[swapN_len];omega) (by rw[swapN_len];omega)
 rw[hI.swapL hi hj]at s2
 have sub: ∀x∈swapN a i j++swapN b i j++c,x∈a++b++c:=fun x hx=>s1.2 x (s2.2 x hx)
 refine⟨by rw[swapN_len];exact la,by rw[swapN_len];exact lb,lc,?_,fun x hx=> ?_⟩
 ·simp only[List.nodup_cons,List.mem_cons,not_or]
  exact⟨⟨z1,z2,z3,fun hm=>n1 (sub _ hm)⟩,⟨z4,z5,fun hm=>n2 (sub _ hm)⟩,⟨z6,fun hm=>n3 (sub _ hm)⟩,fun hm=>n4 (sub _ hm),s2.1⟩
 ·simp only[List.mem_cons]at hx
  rcases hx with rfl|rfl|rfl|rfl|hx
  ·exact hI.rng _ (by simp)
  ·exact hI.rng _ (by simp)
  ·exact hI.rng _ (by simp)
  ·exact hI.rng _ (by simp)
  ·exact hI.rng _ (by simp only[List.mem_cons];exact .inr (.inr (.inr (.inr (sub x hx)))))
def wkX(p oM oU oV h w:Nat)(a b c l:List Nat)(W:List (List Int)):List (Nat×Blk):=
 (p,⟨111,workC h w oM oU oV,false⟩)::(oM,⟨41,slR 2 w a,false⟩)::(oU,⟨41,slR 2 h b,false⟩)::(oV,⟨41,slR 2 h c,false⟩)::rowsH 68 l (rI W)
theorem Le.wkXDown{B:Base}{sl sl':List (Nat×V)}{hp:List (Nat×Blk)}{nx1 nt:Nat}{l:List Nat}(hB: ∃m,B.Old m/\m<=nx)(l2:oM<nx)(l3:oU<nx)(l4:oV<nx)(ra: ∀i∈a,i<nx)(rb: ∀i∈b,i<nx)(rc: ∀i∈c,i<nx)
  (hs: ∀id k,hget (wkX p oM oU oV h w a b c l W) id=some k->hget hp id=some k) (h1:mapSl (fun i=>i) (fun i=>i<nx) sl sl'):
  Le B ⟨sl,hp,nx1,nt⟩ ⟨sl',wkX p oM oU oV h w a b c l W,nx,nt⟩:=by
 obtain⟨m0,hB,hm0⟩:=hB
 refine Le.map (fun i=>i) (fun i=>i<nx) hB (fun i hi=>⟨by omega,rfl⟩) (fun i h=>h) (fun i j _ _ e=>e) h1 (fun i k' hk' hlt=> ?_)
 rw[hs i k' hk']
 unfold wkX at hk'
 simp only[hget]at hk'
 split at hk'
 ·cases hk'
  exact BMap.list (mapL_cons (VMap.sc _) (mapL_cons (VMap.sc _) (mapL_cons (VMap.sl rfl l2) (mapL_cons (VMap.sc _) (mapL_cons (VMap.sc _) (mapL_cons (VMap.sl rfl l3) (mapL_cons (VMap.sc _) (mapL_cons (VMap.sc _) (mapL_cons (VMap.sl rfl l4) mapL_nil)))))))))
 split at hk'
 ·cases hk'
  refine⟨_,rfl,rfl,rfl,fun j y hy=>⟨y,hy,?_⟩⟩
  obtain⟨q,hq,rfl⟩:=List.mem_map.1 (List.mem_of_getElem? hy)
  exact VMap.sl rfl (ra q hq)
 split at hk'
 ·cases hk'
  refine⟨_,rfl,rfl,rfl,fun j y hy=>⟨y,hy,?_⟩⟩
  obtain⟨q,hq,rfl⟩:=List.mem_map.1 (List.mem_of_getElem? hy)
  exact VMap.sl rfl (rb q hq)
 split at hk'
 ·cases hk'
  refine⟨_,rfl,rfl,rfl,fun j y hy=>⟨y,hy,?_⟩⟩
  obtain⟨q,hq,rfl⟩:=List.mem_map.1 (List.mem_of_getElem? hy)
  exact VMap.sl rfl (rc q hq)
 ·obtain⟨q,q1,q2,q3,rfl⟩:=rows_inv hk'
  exact BMap.clo (rI_clo W _ (by rw[List.getD_eq_getElem?_getD,zlb q2];exact List.getElem_mem q2))
theorem wkX_lt{l:List Nat}(h1:p<nx)(h2:oM<nx)(h3:oU<nx)(h4:oV<nx)(hr: ∀i∈l,i<nx): ∀id k,hget (wkX p oM oU oV h w a b c l W) id=some k->id<nx:=by
 intro id k hk
 unfold wkX at hk
 simp only[hget]at hk
 split at hk
 ·omega
 split at hk
 ·omega
 split at hk
 ·omega
 split at hk
 ·omega
 ·obtain⟨q,q1,_,q3,_⟩:=rows_inv hk
  rw[<-q3];exact hr _ (getD_mem' q1)
theorem wkX_swap(hI:WIds p oM oU oV a b c h nx)(hi:i<h)(hj:j<h)(hl:W.length=3*h): ∀id k,hget (wkH p oM oU oV h w (swapN a i j) (swapN b i j) c (Go.Proofs.YtannldafjkjjbaaGreat.swapI (Go.Proofs.YtannldafjkjjbaaGreat.swapI W i j) (h+i) (h+j))) id=some k->hget (wkX p oM oU oV h w (swapN a i j) (swapN b i j) c (a++b++c) W) id=some k:=by
 have la:=hI.la;have lb:=hI.lb;have lc:=hI.lc
 obtain⟨_,_,_,_,_,_,_,_,_,_,n5⟩:=nodup_four hI.nod
 have hll:(a++b++c).length=3*h:=by rw[zl1,zl1];omega
 have lr: ∀x∈a++b++c,x<nx:=fun x hx=>hI.rng x (by simp only[List.mem_cons];exact .inr (.inr (.inr (.inr hx))))
 have s1:=nodup_swap (i:=i) (j:=j) lr n5 om om
 have r1:=rowsI_swap (ty:=68) (ids:=a++b++c) (M:=W) (k:=i) (q:=j) n5 om om om
 have r2:=rowsI_swap (ty:=68) (ids:=swapN (a++b++c) i j) (M:=Go.Proofs.YtannldafjkjjbaaGreat.swapI W i j) (k:=h+i) (q:=h+j) s1.1 (by rw[swapN_len,swapI_len];omega) (by rw[swapN_len];omega) (by rw[swapN_len];omega)
 rw[hI.swapL hi hj]at r2
 intro id k hk
 unfold wkH at hk
 unfold wkX
 simp only[hget]at hk⊢
 by_cases c1:id=p
 ·rw[if_pos c1]at hk⊢;exact hk
 rw[if_neg c1]at hk⊢
 by_cases c2:id=oM
 ·rw[if_pos c2]at hk⊢;exact hk
 rw[if_neg c2]at hk⊢
 by_cases c3:id=oU
 ·rw[if_pos c3]at hk⊢;exact hk
 rw[if_neg c3]at hk⊢
 by_cases c4:id=oV
 ·rw[if_pos c4]at hk⊢;exact hk
 rw[if_neg c4]at hk⊢
 exact r1 id k (r2 id k hk)
end
set_option maxRecDepth 8000 in
theorem swap_q{h w K p oM oU oV nx i j:Nat}{a b c:List Nat}{W:List (List Int)}(hW:WI h w K W)(hI:WIds p oM oU oV a b c h nx)(hi:i<h)(hj:j<h)(hn:h<=1000000)(hw:w<=1000000):
  InlQ Tryz.prog 65 [.pt p 0,.sc (.int .i64 i),.sc (.int .i64 j)] (wkH p oM oU oV h w a b c W) nx (fun x hp' nx'=>x= .tu []/\nx'=nx/\hp'=wkH p oM oU oV h w (swapN a i j) (swapN b i j) c (swapW h i j W)):=by
 have hl:=hW.len
 obtain⟨l1,l2,l3,l4⟩:=hI.lts
 have v1:p+1-nx=0:=by omega
 have v2:oM+1-nx=0:=by omega
 have v3:oU+1-nx=0:=by omega
 have v4:oV+1-nx=0:=by omega
 obtain⟨z1,z2,z3,z4,z5,z6⟩:=hI.nes
 have la:=hI.la
 have lb:=hI.lb
 have lc:=hI.lc
 have ga:=slR_len 2 w a
 have gb:=slR_len 2 h b
 have gc:=slR_len 2 h c
 rw[la]at ga
 rw[lb]at gb
 rw[lc]at gc
 have hI2:=hI.swap hi hj
 have lr: ∀x∈a++b++c,x<nx:=fun x hx=>hI.rng x (by simp only[List.mem_cons];exact .inr (.inr (.inr (.inr hx))))
 have lr2: ∀x∈swapN a i j++swapN b i j++c,x<nx:=fun x hx=>hI2.rng x (by simp only[List.mem_cons];exact .inr (.inr (.inr (.inr hx))))
 have ra: ∀x∈swapN a i j,x<nx:=fun x hx=>lr2 x (List.mem_append_left _ (List.mem_append_left _ hx))
 have rb: ∀x∈swapN b i j,x<nx:=fun x hx=>lr2 x (List.mem_append_left _ (List.mem_append_right _ hx))
 have rc: ∀x∈c,x<nx:=fun x hx=>lr2 x (List.mem_append_right _ hx)
 have gai:=slR_get (z:=2) (m:=w) (ids:=a) (k:=i) om
 have gaj:=slR_get (z:=2) (m:=w) (ids:=a) (k:=j) om
 have gbi:=slR_get (z:=2) (m:=h) (ids:=b) (k:=i) om
 have gbj:=slR_get (z:=2) (m:=h) (ids:=b) (k:=j) om
 have hsa:(a.set i (a.getD j 0)).set j (a.getD i 0)=swapN a i j:=rfl
 have hsb:(b.set i (b.getD j 0)).set j (b.getD i 0)=swapN b i j:=rfl
 have hkl:=hI.kl (W:=W) (m:=nx) (znb _)
 refine InlQ.run Tryz.func65 rfl Tryz.ntmps65 (by simp) (by unfold wkH workC;simp(disch:=omega) only[go_sem,↓reduceIte,zn1,zn2,zn3,zn4,zn5,zn6,reduceCtorEq,zn7,zi1,zi2,if_pos,if_neg,Int.reduceAdd];rfl) fun B hB=> ?_
 refine qWDf (Q21 @ga @gb @gc @gai @gaj @gbi @gbj @slR_set @slR_len @la @lb @lc @hsa @hsb @hkl @z1 @z2 @z3 @z4 @z5 @z6) ?_
 have eW:colSwp h i j 0 W=W:=colSwp_zero
 refine SC.loop (fun t:Nat=>⟨[(0,.pt p 0),(1,.sc (.int .i64 i)),(2,.sc (.int .i64 j)),(7,.sc (.int .i64 t))],wkX p oM oU oV h w (swapN a i j) (swapN b i j) c (a++b++c) (colSwp h i j t W),nx,123⟩)
  (fun t=>t<=h) (fun t=>h-t) 0 ?_ ?_ ?_
 ·rw[eW]
  unfold wkX workC
  exact qM
 ·exact znc _
 ·intro t ht K3 hK3
  by_cases hc:t<h
  ·as_aux_lemma=>
    have q1:=decide_eq_true (p:=(t:Int)<(h:Int)) om
    have hrl:(W.getD (2*h+t) []).length=h:=hW.rowU (2*h+t) om om
    have hWl:(colSwp h i j t W).length=3*h:=by rw[colSwp_len];exact hl
    have gi:=slR_get (z:=2) (m:=h) (ids:=c) (k:=t) om
    obtain⟨gR,y1,y2,y3,y4,y5⟩:=hI.rowF hWl (q:=2*h+t) om
    rw[colSwp_get om,if_neg om]at gR
    have gl:=ivR_len (W.getD (2*h+t) [])
    rw[hrl]at gl
    have gd:=ivR_drop (l:=W.getD (2*h+t) []) (i:=i) om
    have gdj:=ivR_drop (l:=W.getD (2*h+t) []) (i:=j) om
    have gs:=ivR_set (l:=W.getD (2*h+t) []) (i:=i) ((W.getD (2*h+t) []).getD j 0) om
    have gs2:=ivR_set (l:=(W.getD (2*h+t) []).set i ((W.getD (2*h+t) []).getD j 0)) (i:=j) ((W.getD (2*h+t) []).getD i 0) (by rw[List.length_set];omega)
    have gl2:=ivR_len ((W.getD (2*h+t) []).set i ((W.getD (2*h+t) []).getD j 0))
    rw[List.length_set,hrl]at gl2
    have hrs:=hI.rset hWl (q:=2*h+t) om ((W.getD (2*h+t) []).set i ((W.getD (2*h+t) []).getD j 0))
    have hWl2:((colSwp h i j t W).set (2*h+t) ((W.getD (2*h+t) []).set i ((W.getD (2*h+t) []).getD j 0))).length=3*h:=by rw[List.length_set];exact hWl
    have gR2:=(hI.rowF hWl2 (q:=2*h+t) om).1
    rw[getD_set om,if_pos rfl]at gR2
    have hrs2:=hI.rset hWl2 (q:=2*h+t) om (((W.getD (2*h+t) []).set i ((W.getD (2*h+t) []).getD j 0)).set j ((W.getD (2*h+t) []).getD i 0))
    have hcs:=colSwp_set (h:=h) (i:=i) (j:=j) (r:=t) (W:=W) om
    unfold swpR at hcs
    rw[List.set_set,hcs]at hrs2
    have hkl:=hI.kl (W:=colSwp h i j t W) (m:=nx+1) om
    have hkl2:=hI.kl (W:=(colSwp h i j t W).set (2*h+t) ((W.getD (2*h+t) []).set i ((W.getD (2*h+t) []).getD j 0))) (m:=nx+1) om
    rw[hI.iV]at gR gR2 y1 y2 y3 y4 y5 hrs hrs2
    have v5:c.getD t 0+1-nx=0:=zne y1
    have gla:=slR_len 2 w (swapN a i j)
    have glb:=slR_len 2 h (swapN b i j)
    rw[swapN_len,la]at gla
    rw[swapN_len,lb]at glb
    have hsame: ∀id k,hget (wkX p oM oU oV h w (swapN a i j) (swapN b i j) c (a++b++c) (colSwp h i j (t+1) W)) id=some k->id<nx:=wkX_lt l1 l2 l3 l4 lr
    clear hcs hWl2
    unfold wkX workC
    generalize(ivR (W.getD (2*h+t) [])).drop ((i+1)*2)=Di at*
    generalize(ivR (W.getD (2*h+t) [])).drop ((j+1)*2)=Dj at*
    generalize hA:ivR (W.getD (2*h+t) [])=A at*
    generalize hA2:ivR (((W.getD (2*h+t) []).set i ((W.getD (2*h+t) []).getD j 0)).set j ((W.getD (2*h+t) []).getD i 0))=A2 at*
    generalize hA1:ivR ((W.getD (2*h+t) []).set i ((W.getD (2*h+t) []).getD j 0))=A1 at*
    generalize hH1:rowsH 68 (a++b++c) (rI ((colSwp h i j t W).set (2*h+t) ((W.getD (2*h+t) []).set i ((W.getD (2*h+t) []).getD j 0))))=H1 at*
    generalize(W.getD (2*h+t) []).getD i 0=x at*
    generalize(W.getD (2*h+t) []).getD j 0=y at*
    generalize hH:rowsH 68 (a++b++c) (rI (colSwp h i j t W))=H at*
    generalize c.getD t 0=idk at*
    unfold ivC sv at gd gs gdj gs2
    simp only[zl8,zl7]at gd gdj
    have g2:i*2<A.length:=by omega
    have g2j:j*2<A.length:=by omega
    have g3j:j*2<A1.length:=by omega
    refine qWDf (Q2 (Q15 @q1 @gla @glb @gc @gi @gR @gR2 @gl @gl2 @gd @gdj @gs @gs2 @g2 @g2j) (Q15 @g3j @hrs @hrs2 @hkl @hkl2 @z1 @z2 @z3 @z4 @z5 @z6 @y2 @y3 @y4 @y5)) ?_
    refine hK3 _ (t+1) ?_ om om
    refine Le.wkXDown ⟨nx,hB,znb _⟩ l2 l3 l4 ra rb rc (less_new (fun id q hq=>hq) fun id q hq=>Nat.ne_of_lt (hsame id q hq)) ?_
    exact qN
  ·have htw:t=h:=by omega
   have q1:=decide_eq_false (p:=(h:Int)<(h:Int)) om
   rw[htw]
   unfold wkX workC
   refine qWDf (Q7 @q1 @z1 @z2 @z3 @z4 @z5 @z6) ?_
   refine retIQ_normal (rs:=[]) (.tu []) (wkH p oM oU oV h w (swapN a i j) (swapN b i j) c (swapW h i j W)) nx Tryz.results65 rfl ⟨rfl,rfl,rfl⟩ ?_
   refine Le.wkDown ⟨nx,hB,znb _⟩ hI2 (wkX_swap hI hi hj (by rw[colSwp_len];exact hl)) ?_
   exact mapSl_cons rfl VMap.tu0 trivial
end
section
structure WS(h w:Nat)(W:List (List Int)):Prop where
 len:W.length=3*h
 rowM: ∀q,q<h->(W.getD q []).length=w
 rowU: ∀q,h<=q->q<3*h->(W.getD q []).length=h
theorem addI_getD{a b:List Int}{k:Int}(hl:a.length=b.length)(t:Nat):(addI a b k).getD t 0=a.getD t 0+k*b.getD t 0:=by
 by_cases ht:t<a.length
 ·exact addI_get ht
 ·rw[List.getD_eq_getElem?_getD,List.getElem?_eq_none (by rw[addI_len];omega),List.getD_eq_getElem?_getD,List.getElem?_eq_none om,List.getD_eq_getElem?_getD,List.getElem?_eq_none om]
  simp
theorem negI_getD{a:List Int}(t:Nat):(negI a).getD t 0= -(a.getD t 0):=by
 by_cases ht:t<a.length
 ·exact negI_get ht
 ·rw[List.getD_eq_getElem?_getD,List.getElem?_eq_none (by rw[negI_len];omega),List.getD_eq_getElem?_getD,List.getElem?_eq_none om]
  simp
def swi(i j q:Nat):Nat:=if q=i then j else if q=j then i else q
theorem swi_lt{i j q n:Nat}(hi:i<n)(hj:j<n)(hq:q<n):swi i j q<n:=by unfold swi;split<;>(try split)<;>omega
section
variable {h w i j q t:Nat} {k:Int} {W:List (List Int)}
theorem addW_row(hl:W.length=3*h)(hi:i<h)(hq:q<3*h):(addW h i j k W).getD q []=if q=i then addI (W.getD i []) (W.getD j []) k else if q=h+i then addI (W.getD (h+i) []) (W.getD (h+j) []) k else if 2*h<=q then(W.getD q []).set j ((W.getD q []).getD j 0-k*(W.getD q []).getD i 0)else W.getD q []:=by
 unfold addW
 rw[colPre_get (by rw[List.length_set,List.length_set];omega),getD_set (by rw[List.length_set];omega),getD_set om]
 by_cases h1:q=i
 ·subst h1
  rw[if_neg om,if_neg om,if_pos rfl,if_pos rfl]
 ·by_cases h2:q=h+i
  ·subst h2
   rw[if_neg om,if_pos rfl,if_neg h1,if_pos rfl]
  ·rw[if_neg h2,if_neg h1,if_neg h1,if_neg h2]
   by_cases h3:2*h<=q
   ·rw[if_pos ⟨h3,by omega⟩,if_pos h3]
   ·rw[if_neg om,if_neg h3]
theorem addW_ws(hW:WS h w W)(hi:i<h)(hj:j<h):WS h w (addW h i j k W):=by
 refine⟨by unfold addW;rw[colPre_len,List.length_set,List.length_set];exact hW.len,fun q hq=> ?_,fun q h1 h2=> ?_⟩
 ·rw[addW_row hW.len hi om]
  split
  ·rw[addI_len];exact hW.rowM i hi
  ·rw[if_neg om,if_neg om];exact hW.rowM q hq
 ·rw[addW_row hW.len hi h2,if_neg om]
  split
  ·rw[addI_len];exact hW.rowU _ om om
  ·split
   ·rw[List.length_set];exact hW.rowU q h1 h2
   ·exact hW.rowU q h1 h2
theorem addW_ent(hW:WS h w W)(hi:i<h)(hj:j<h)(hq:q<3*h):ent2 (addW h i j k W) q t=if q=i then ent2 W i t+k*ent2 W j t else if q=h+i then ent2 W (h+i) t+k*ent2 W (h+j) t else if 2*h<=q/\t=j then ent2 W q j-k*ent2 W q i else ent2 W q t:=by
 unfold ent2
 rw[addW_row hW.len hi hq]
 by_cases h1:q=i
 ·rw[if_pos h1,if_pos h1,addI_getD (by rw[hW.rowM i hi,hW.rowM j hj])]
 ·rw[if_neg h1,if_neg h1]
  by_cases h2:q=h+i
  ·rw[if_pos h2,if_pos h2,addI_getD (by rw[hW.rowU (h+i) om om,hW.rowU (h+j) om om])]
  ·rw[if_neg h2,if_neg h2]
   by_cases h3:2*h<=q
   ·rw[if_pos h3,getD_set (by rw[hW.rowU q om hq];exact hj)]
    by_cases h4:t=j
    ·rw[if_pos h4,if_pos ⟨h3,h4⟩]
    ·rw[if_neg h4,if_neg fun hh=>h4 hh.2]
   ·rw[if_neg h3,if_neg fun hh=>h3 hh.1]
theorem negW_row(hl:W.length=3*h)(hi:i<h)(hq:q<3*h):(negW h i W).getD q []=if q=i then negI (W.getD i [])else if q=h+i then negI (W.getD (h+i) [])else if 2*h<=q then(W.getD q []).set i (-((W.getD q []).getD i 0))else W.getD q []:=by
 unfold negW
 rw[colNeg_get (by rw[List.length_set,List.length_set];omega),getD_set (by rw[List.length_set];omega),getD_set om]
 by_cases h1:q=i
 ·subst h1
  rw[if_neg om,if_neg om,if_pos rfl,if_pos rfl]
 ·by_cases h2:q=h+i
  ·subst h2
   rw[if_neg om,if_pos rfl,if_neg h1,if_pos rfl]
  ·rw[if_neg h2,if_neg h1,if_neg h1,if_neg h2]
   by_cases h3:2*h<=q
   ·rw[if_pos ⟨h3,by omega⟩,if_pos h3]
   ·rw[if_neg om,if_neg h3]
theorem negW_ws(hW:WS h w W)(hi:i<h):WS h w (negW h i W):=by
 refine⟨by unfold negW;rw[colNeg_len,List.length_set,List.length_set];exact hW.len,fun q hq=> ?_,fun q h1 h2=> ?_⟩
 ·rw[negW_row hW.len hi om]
  split
  ·rw[negI_len];exact hW.rowM i hi
  ·rw[if_neg om,if_neg om];exact hW.rowM q hq
 ·rw[negW_row hW.len hi h2,if_neg om]
  split
  ·rw[negI_len];exact hW.rowU _ om om
  ·split
   ·rw[List.length_set];exact hW.rowU q h1 h2
   ·exact hW.rowU q h1 h2
theorem negW_ent(hW:WS h w W)(hi:i<h)(hq:q<3*h):ent2 (negW h i W) q t=if q=i\/q=h+i\/(2*h<=q/\t=i)then-(ent2 W q t)else ent2 W q t:=by
 unfold ent2
 rw[negW_row hW.len hi hq]
 by_cases h1:q=i
 ·rw[if_pos h1,if_pos (.inl h1),negI_getD,h1]
 ·rw[if_neg h1]
  by_cases h2:q=h+i
  ·rw[if_pos h2,if_pos (.inr (.inl h2)),negI_getD,h2]
  ·rw[if_neg h2]
   by_cases h3:2*h<=q
   ·rw[if_pos h3,getD_set (by rw[hW.rowU q om hq];exact hi)]
    by_cases h4:t=i
    ·rw[if_pos h4,if_pos (.inr (.inr ⟨h3,h4⟩)),h4]
    ·rw[if_neg h4,if_neg om]
   ·rw[if_neg h3,if_neg om]
theorem swapW_row(hl:W.length=3*h)(hi:i<h)(hj:j<h)(hq:q<3*h):(swapW h i j W).getD q []=if q<h then W.getD (swi i j q) []else if q<2*h then W.getD (h+swi i j (q-h)) []else swpR i j (W.getD q []):=by
 have hc: ∀q,q<3*h->(colSwp h i j h W).getD q []=if 2*h<=q then swpR i j (W.getD q [])else W.getD q []:=fun q hq=>by
  rw[colSwp_get om]
  by_cases h1:2*h<=q
  ·rw[if_pos ⟨h1,by omega⟩,if_pos h1]
  ·rw[if_neg om,if_neg h1]
 unfold swapW
 rw[swapI_get (by rw[swapI_len,colSwp_len];omega) (by rw[swapI_len,colSwp_len];omega)]
 have hs: ∀q,(swapI (colSwp h i j h W) i j).getD q []=if q=j then(colSwp h i j h W).getD i []else if q=i then(colSwp h i j h W).getD j []else(colSwp h i j h W).getD q []:=fun q=>swapI_get (by rw[colSwp_len];omega) (by rw[colSwp_len];omega) q
 simp only[hs]
 rw[if_neg (show¬h+i=j by omega),if_neg (show¬h+i=i by omega),if_neg (show¬h+j=j by omega),if_neg (show¬h+j=i by omega)]
 rw[hc i om,hc j om,hc (h+i) om,hc (h+j) om,hc q hq,if_neg (show¬2*h<=i by omega),if_neg (show¬2*h<=j by omega),if_neg (show¬2*h<=h+i by omega),if_neg (show¬2*h<=h+j by omega)]
 unfold swi
 by_cases h1:q<h
 ·rw[if_neg (show¬q=h+j by omega),if_neg (show¬q=h+i by omega),if_pos h1,if_neg (show¬2*h<=q by omega)]
  by_cases e1:q=j
  ·rw[if_pos e1]
   by_cases e2:q=i
   ·rw[if_pos e2,<-e1,e2]
   ·rw[if_neg e2,if_pos e1]
  ·rw[if_neg e1]
   by_cases e2:q=i
   ·rw[if_pos e2,if_pos e2]
   ·rw[if_neg e2,if_neg e2,if_neg e1]
 ·rw[if_neg h1]
  by_cases h2:q<2*h
  ·rw[if_pos h2,if_neg (show¬q=j by omega),if_neg (show¬q=i by omega),if_neg (show¬2*h<=q by omega)]
   by_cases e1:q=h+j
   ·rw[if_pos e1]
    by_cases e2:q=h+i
    ·rw[if_pos om,show j=i by omega]
    ·rw[if_neg om,if_pos om]
   ·rw[if_neg e1]
    by_cases e2:q=h+i
    ·rw[if_pos e2,if_pos om]
    ·rw[if_neg e2,if_neg om,if_neg om,show h+(q-h)=q by omega]
  ·rw[if_neg h2,if_neg om,if_neg om,if_neg om,if_neg om,if_pos om]
theorem swapW_ws(hW:WS h w W)(hi:i<h)(hj:j<h):WS h w (swapW h i j W):=by
 refine⟨by unfold swapW;rw[swapI_len,swapI_len,colSwp_len];exact hW.len,fun q hq=> ?_,fun q h1 h2=> ?_⟩
 ·rw[swapW_row hW.len hi hj om,if_pos hq]
  exact hW.rowM _ (swi_lt hi hj hq)
 ·rw[swapW_row hW.len hi hj h2,if_neg om]
  split
  ·have:=swi_lt (q:=q-h) hi hj om
   exact hW.rowU _ om om
  ·rw[swpR_len];exact hW.rowU q h1 h2
theorem swapW_ent(hW:WS h w W)(hi:i<h)(hj:j<h)(hq:q<3*h):ent2 (swapW h i j W) q t=if q<h then ent2 W (swi i j q) t else if q<2*h then ent2 W (h+swi i j (q-h)) t else ent2 W q (swi i j t):=by
 unfold ent2
 rw[swapW_row hW.len hi hj hq]
 by_cases h1:q<h
 ·rw[if_pos h1,if_pos h1]
 ·rw[if_neg h1,if_neg h1]
  by_cases h2:q<2*h
  ·rw[if_pos h2,if_pos h2]
  ·rw[if_neg h2,if_neg h2]
   have hr:=hW.rowU q om hq
   rw[swpR_get om om]
   unfold swi
   by_cases e1:t=j
   ·rw[if_pos e1]
    by_cases e2:t=i
    ·rw[if_pos e2,<-e1,e2]
    ·rw[if_neg e2,if_pos e1]
   ·rw[if_neg e1]
    by_cases e2:t=i
    ·rw[if_pos e2,if_pos e2]
    ·rw[if_neg e2,if_neg e2,if_neg e1]
end
structure Gb(h:Nat)(W:List (List Int))(bM bV:Nat->Nat):Prop where
 m: ∀q t,q<h->(ent2 W q t).natAbs<=bM q
 u: ∀q t,q<h->(ent2 W (h+q) t).natAbs<=bM q
 v: ∀q t,q<h->t<h->(ent2 W (2*h+q) t).natAbs<=bV t
def upd(b:Nat->Nat)(i x:Nat):Nat->Nat:=fun q=>if q=i then x else b q
theorem abs_addmul{x y k:Int}{a b Q:Nat}(hx:x.natAbs<=a)(hy:y.natAbs<=b)(hk:k.natAbs<=Q):(x+k*y).natAbs<=a+Q*b:=by
 have h1:=Int.natAbs_add_le x (k*y)
 rw[Int.natAbs_mul]at h1
 have h2:=Nat.mul_le_mul hk hy
 omega
section
variable {h w i j:Nat} {k:Int} {W:List (List Int)} {bM bV cM cV:Nat->Nat}
theorem Gb.mono(hG:Gb h W bM bV)(h1: ∀q,q<h->bM q<=cM q)(h2: ∀q,q<h->bV q<=cV q):Gb h W cM cV:=
 ⟨fun q t hq=>Nat.le_trans (hG.m q t hq) (h1 q hq),fun q t hq=>Nat.le_trans (hG.u q t hq) (h1 q hq),fun q t hq ht=>Nat.le_trans (hG.v q t hq ht) (h2 t ht)⟩
theorem Gb.add(hG:Gb h W bM bV)(hW:WS h w W)(hi:i<h)(hj:j<h){Q:Nat}(hk:k.natAbs<=Q):Gb h (addW h i j k W) (upd bM i (bM i+Q*bM j)) (upd bV j (bV j+Q*bV i)):=by
 refine⟨fun q t hq=> ?_,fun q t hq=> ?_,fun q t hq ht=> ?_⟩
 ·rw[addW_ent hW hi hj om]
  unfold upd
  by_cases h1:q=i
  ·rw[if_pos h1,if_pos h1];exact abs_addmul (hG.m i t hi) (hG.m j t hj) hk
  ·rw[if_neg h1,if_neg h1,if_neg om,if_neg om];exact hG.m q t hq
 ·rw[addW_ent hW hi hj om,if_neg om]
  unfold upd
  by_cases h1:q=i
  ·rw[if_pos om,if_pos h1];exact abs_addmul (hG.u i t hi) (hG.u j t hj) hk
  ·rw[if_neg om,if_neg h1,if_neg om];exact hG.u q t hq
 ·rw[addW_ent hW hi hj om,if_neg om,if_neg om]
  unfold upd
  by_cases h1:t=j
  ·rw[if_pos ⟨by omega,h1⟩,if_pos h1,Int.sub_eq_add_neg,<-Int.neg_mul]
   exact abs_addmul (hG.v q j hq hj) (hG.v q i hq hi) (by rw[Int.natAbs_neg];exact hk)
  ·rw[if_neg om,if_neg h1];exact hG.v q t hq ht
theorem Gb.neg(hG:Gb h W bM bV)(hW:WS h w W)(hi:i<h):Gb h (negW h i W) bM bV:=by
 have key: ∀q t,q<3*h->(ent2 (negW h i W) q t).natAbs=(ent2 W q t).natAbs:=fun q t hq=>by
  rw[negW_ent hW hi hq]
  split
  ·rw[Int.natAbs_neg]
  ·rfl
 exact⟨fun q t hq=>by rw[key q t om];exact hG.m q t hq,fun q t hq=>by rw[key _ t om];exact hG.u q t hq,fun q t hq ht=>by rw[key _ t om];exact hG.v q t hq ht⟩
theorem Gb.swap(hG:Gb h W bM bV)(hW:WS h w W)(hi:i<h)(hj:j<h):Gb h (swapW h i j W) (fun q=>bM (swi i j q)) (fun q=>bV (swi i j q)):=by
 refine⟨fun q t hq=> ?_,fun q t hq=> ?_,fun q t hq ht=> ?_⟩
 ·rw[swapW_ent hW hi hj om,if_pos hq];exact hG.m _ t (swi_lt hi hj hq)
 ·rw[swapW_ent hW hi hj om,if_neg om,if_pos om,znd];exact hG.u _ t (swi_lt hi hj hq)
 ·rw[swapW_ent hW hi hj om,if_neg om,if_neg om];exact hG.v q _ hq (swi_lt hi hj ht)
theorem Gb.wi(hG:Gb h W bM bV)(hW:WS h w W){K:Nat}(h1: ∀q,q<h->bM q<4294967296^K)(h2: ∀q,q<h->bV q<4294967296^K):WI h w K W:=by
 refine⟨hW.len,hW.rowM,hW.rowU,fun q t=> ?_⟩
 have hz: ∀{l:List Int},l.length<=t->Fits K (l.getD t 0):=fun hl=>by
  rw[List.getD_eq_getElem?_getD,List.getElem?_eq_none hl];exact fits0
 rcases Nat.lt_or_ge q h with hq|hq
 ·exact Nat.lt_of_le_of_lt (hG.m q t hq) (h1 q hq)
 ·rcases Nat.lt_or_ge q (2*h)with hq2|hq2
  ·have:=hG.u (q-h) t om
   rw[show h+(q-h)=q by omega]at this
   exact Nat.lt_of_le_of_lt this (h1 _ om)
  ·rcases Nat.lt_or_ge q (3*h)with hq3|hq3
   ·rcases Nat.lt_or_ge t h with ht|ht
    ·have:=hG.v (q-2*h) t om ht
     rw[show 2*h+(q-2*h)=q by omega]at this
     exact Nat.lt_of_le_of_lt this (h2 _ ht)
    ·exact hz (by rw[hW.rowU q om hq3];exact ht)
   ·rw[List.getD_eq_getElem?_getD (l:=W),List.getElem?_eq_none (by rw[hW.len];exact hq3)]
    exact hz (by simp)
end
def sumI(f:Nat->Int):Nat->Int
 |0=>0
 |n+1=>sumI f n+f n
theorem dot_sum(f g:Nat->Int): ∀n,dotI f g n=sumI (fun t=>f t*g t) n
 |0=>rfl
 |n+1=>by show dotI f g n+_=sumI _ n+_;rw[dot_sum f g n]
theorem sum_congr{f g:Nat->Int}: ∀{n:Nat},(∀t,t<n->f t=g t)->sumI f n=sumI g n
 |0,_=>rfl
 |n+1,h=>by show sumI f n+f n=sumI g n+g n;rw[sum_congr fun t ht=>h t om,h n om]
theorem sum_one{f g:Nat->Int}{i:Nat}: ∀{n:Nat},i<n->(∀t,t<n->t≠i->f t=g t)->sumI f n=sumI g n+(f i-g i)
 |0,h,_=>by omega
 | n+1,hi,h=>by
  show sumI f n+f n=sumI g n+g n+_
  by_cases e:n=i
  ·subst e
   rw[sum_congr fun t ht=>h t om om];omega
  ·rw[sum_one (i:=i) om fun t ht=>h t om,h n om e];omega
theorem sum_two{f g:Nat->Int}{i j n:Nat}(hi:i<n)(hj:j<n)(hij:i≠j)(h: ∀t,t<n->t≠i->t≠j->f t=g t)(he:f i+f j=g i+g j):sumI f n=sumI g n:=by
 have h1:=sum_one (f:=f) (g:=fun t=>if t=i then f i else g t) (i:=j) hj fun t ht hn=>by
  by_cases e:t=i
  ·rw[if_pos e,e]
  ·rw[if_neg e];exact h t ht e hn
 have h2:=sum_one (f:=fun t=>if t=i then f i else g t) (g:=g) (i:=i) hi fun t ht hn=>if_neg hn
 rw[if_neg (Ne.symm hij)]at h1
 rw[if_pos rfl]at h2
 omega
theorem dot_zero'{c g:Nat->Int}: ∀{n:Nat},(∀t,t<n->c t*g t=0)->dotI c g n=0
 |0,_=>rfl
 |n+1,h=>by
  show dotI c g n+c n*g n=0
  rw[dot_zero' fun t ht=>h t om,h n om];rfl
theorem dot_dot{c:Nat->Int}{M:Nat->Nat->Int}{g:Nat->Int}{n:Nat}: ∀{m:Nat},dotI (fun s=>dotI c (fun u=>M u s) m) g n=dotI c (fun u=>dotI (fun s=>M u s) g n) m
 |0=>dot_zero' fun s _=>by show(0:Int)*g s=0;omega
 |m+1=>by
  show dotI (fun s=>dotI c (fun u=>M u s) m+c m*M m s) g n=dotI c (fun u=>dotI (fun s=>M u s) g n) m+c m*dotI (fun s=>M m s) g n
  rw[dot_add (f:=fun s=>dotI c (fun u=>M u s) m) (e:=fun s=>M m s),dot_dot]
structure LinI(h w:Nat)(A W:List (List Int)):Prop where
 l1: ∀q t,q<h->t<w->ent2 W q t=dotI (fun s=>ent2 W (h+q) s) (fun s=>ent2 A s t) h
 l2: ∀s t,s<h->t<w->ent2 A s t=dotI (fun q=>ent2 W (2*h+s) q) (fun q=>ent2 W q t) h
section
variable {h w i j:Nat} {k:Int} {A W:List (List Int)}
theorem LinI.add(hL:LinI h w A W)(hW:WS h w W)(hi:i<h)(hj:j<h)(hij:i≠j):LinI h w A (addW h i j k W):=by
 refine⟨fun q t hq ht=> ?_,fun s t hs ht=> ?_⟩
 ·rw[addW_ent hW hi hj om]
  by_cases h1:q=i
  ·subst h1
   have e: ∀s,ent2 (addW h q j k W) (h+q) s=ent2 W (h+q) s+k*ent2 W (h+j) s:=fun s=>by rw[addW_ent hW hi hj om,if_neg om,if_pos rfl]
   rw[if_pos rfl,hL.l1 q t hq ht,hL.l1 j t hj ht]
   simp only[e]
   rw[dot_add]
  ·have e: ∀s,ent2 (addW h i j k W) (h+q) s=ent2 W (h+q) s:=fun s=>by rw[addW_ent hW hi hj om,if_neg om,if_neg om,if_neg om]
   rw[if_neg h1,if_neg om,if_neg om]
   simp only[e]
   exact hL.l1 q t hq ht
 ·rw[hL.l2 s t hs ht,dot_sum,dot_sum]
  have eV: ∀q,ent2 (addW h i j k W) (2*h+s) q=if q=j then ent2 W (2*h+s) j-k*ent2 W (2*h+s) i else ent2 W (2*h+s) q:=fun q=>by
   rw[addW_ent hW hi hj om,if_neg om,if_neg om]
   by_cases e:q=j
   ·rw[if_pos ⟨by omega,e⟩,if_pos e]
   ·rw[if_neg om,if_neg e]
  have eM: ∀q,q<h->ent2 (addW h i j k W) q t=if q=i then ent2 W i t+k*ent2 W j t else ent2 W q t:=fun q hq=>by
   rw[addW_ent hW hi hj om]
   by_cases e:q=i
   ·rw[if_pos e,if_pos e]
   ·rw[if_neg e,if_neg e,if_neg om,if_neg om]
  refine sum_two hi hj hij (fun q hq n1 n2=> ?_) ?_
  ·rw[eV,eM q hq,if_neg n2,if_neg n1]
  ·rw[eV,eV,eM i hi,eM j hj,if_neg hij,if_pos rfl,if_pos rfl,if_neg (Ne.symm hij)]
   generalize ent2 W (2*h+s) i=a
   generalize ent2 W (2*h+s) j=b
   generalize ent2 W i t=x
   generalize ent2 W j t=y
   rw[Int.mul_add,Int.sub_mul,Int.mul_left_comm,Int.mul_assoc];omega
theorem LinI.neg(hL:LinI h w A W)(hW:WS h w W)(hi:i<h):LinI h w A (negW h i W):=by
 refine⟨fun q t hq ht=> ?_,fun s t hs ht=> ?_⟩
 ·rw[negW_ent hW hi om]
  by_cases h1:q=i
  ·have e: ∀s,ent2 (negW h i W) (h+q) s= -(ent2 W (h+q) s):=fun s=>by rw[negW_ent hW hi om,if_pos (.inr (.inl om))]
   rw[if_pos (.inl h1),hL.l1 q t hq ht]
   simp only[e]
   rw[dot_neg]
  ·have e: ∀s,ent2 (negW h i W) (h+q) s=ent2 W (h+q) s:=fun s=>by rw[negW_ent hW hi om,if_neg om]
   rw[if_neg om]
   simp only[e]
   exact hL.l1 q t hq ht
 ·rw[hL.l2 s t hs ht]
  refine(dot_sum _ _ _).trans (.trans (sum_congr fun q hq=> ?_) (dot_sum _ _ _).symm)
  rw[negW_ent hW hi om,negW_ent hW hi om]
  by_cases e:q=i
  ·rw[if_pos (.inr (.inr ⟨by omega,e⟩)),if_pos (.inl e),Int.neg_mul_neg]
  ·rw[if_neg om,if_neg om]
theorem swi_i(i j:Nat):swi i j i=j:=if_pos rfl
theorem swi_j(i j:Nat):swi i j j=i:=by
 unfold swi
 by_cases e:j=i
 ·rw[if_pos e,e]
 ·rw[if_neg e,if_pos rfl]
theorem swi_ne{i j q:Nat}(h1:q≠i)(h2:q≠j):swi i j q=q:=by unfold swi;rw[if_neg h1,if_neg h2]
theorem LinI.swap(hL:LinI h w A W)(hW:WS h w W)(hi:i<h)(hj:j<h)(hij:i≠j):LinI h w A (swapW h i j W):=by
 refine⟨fun q t hq ht=> ?_,fun s t hs ht=> ?_⟩
 ·have e: ∀s,ent2 (swapW h i j W) (h+q) s=ent2 W (h+swi i j q) s:=fun s=>by rw[swapW_ent hW hi hj om,if_neg om,if_pos om,znd]
  rw[swapW_ent hW hi hj om,if_pos hq]
  simp only[e]
  exact hL.l1 _ t (swi_lt hi hj hq) ht
 ·rw[hL.l2 s t hs ht,dot_sum,dot_sum]
  have eV: ∀q,ent2 (swapW h i j W) (2*h+s) q=ent2 W (2*h+s) (swi i j q):=fun q=>by rw[swapW_ent hW hi hj om,if_neg om,if_neg om]
  have eM: ∀q,q<h->ent2 (swapW h i j W) q t=ent2 W (swi i j q) t:=fun q hq=>by rw[swapW_ent hW hi hj om,if_pos hq]
  refine sum_two hi hj hij (fun q hq n1 n2=> ?_) ?_
  ·rw[eV,eM q hq,swi_ne n1 n2]
  ·rw[eV,eV,eM i hi,eM j hj,swi_i,swi_j];omega
end
end
section
def stepE(h c top i:Nat)(W:List (List Int)):List (List Int):=swapW h top i (if ent2 W top c=0 then W else addW h top i (-(ent2 W top c/ent2 W i c)) W)
def bp(top i a b:Nat)(g:Nat->Nat):Nat->Nat:=fun q=>if q=top then a else if q=i then b else g q
def gB(top B0 B:Nat):Nat->Nat:=fun q=>if q<top then B0 else B
def PhE(x y:Int)(a b N B D:Nat):Prop:=
 (a<=B/\b<=B/\12*(N*B)<=D)\/(0<=x/\0<=y/\x.natAbs*b+y.natAbs*a<=D)\/(x<0/\0<=y/\y.natAbs<=x.natAbs/\3*(x.natAbs*b+y.natAbs*a)<=D)\/y=0
theorem euc_nat{x y:Int}(hy:y≠0):0<=x % y/\(x % y).natAbs<y.natAbs/\(0<=x->y.natAbs*(x/y).natAbs+(x % y).natAbs=x.natAbs)/\(x<0->y.natAbs*(x/y).natAbs=x.natAbs+(x % y).natAbs):=by
 have h1:=Int.mul_ediv_add_emod x y
 have h2:=Int.emod_nonneg x hy
 have h3:=Int.emod_lt x hy
 have h4:=Int.natAbs_mul y (x/y)
 have h5:(x/y).natAbs≠0->y.natAbs<=y.natAbs*(x/y).natAbs:=fun h=>Nat.le_mul_of_pos_right _ om
 have h6:(x/y).natAbs=0->y.natAbs*(x/y).natAbs=0:=fun h=>by rw[h,Nat.mul_zero]
 generalize y.natAbs*(x/y).natAbs=P at*
 generalize y*(x/y)=Z at*
 generalize x % y=R at*
 refine⟨h2,by omega,fun h=> ?_,fun h=>by omega⟩
 by_cases hq:(x/y).natAbs=0
 ·have:=h6 hq;omega
 ·have:=h5 hq;omega
theorem phE_step{x y:Int}{a b N B D:Nat}(hx:x.natAbs<=N)(hy:y.natAbs<=N)(h0:y≠0)(hP:PhE x y a b N B D):PhE y (x % y) b (a+(x/y).natAbs*b) N B D/\a+(x/y).natAbs*b<=D:=by
 obtain⟨r0,r1,e1,e2⟩:=euc_nat (x:=x) h0
 have eT:y.natAbs*(a+(x/y).natAbs*b)=y.natAbs*a+y.natAbs*(x/y).natAbs*b:=by rw[Nat.mul_add,Nat.mul_assoc]
 have hY:1<=y.natAbs:=by omega
 have hle:a+(x/y).natAbs*b<=y.natAbs*(a+(x/y).natAbs*b):=Nat.le_mul_of_pos_left _ hY
 have f1:0<=x->y.natAbs*(x/y).natAbs*b+(x % y).natAbs*b=x.natAbs*b:=fun h=>by rw[<-Nat.add_mul,e1 h]
 have f2:x<0->y.natAbs*(x/y).natAbs*b=x.natAbs*b+(x % y).natAbs*b:=fun h=>by rw[<-Nat.add_mul,e2 h]
 have g1:(x % y).natAbs*b<=y.natAbs*b:=Nat.mul_le_mul_right b (Nat.le_of_lt r1)
 have key:(0<y->y.natAbs*(a+(x/y).natAbs*b)+(x % y).natAbs*b<=D)/\(y<0->3*(y.natAbs*(a+(x/y).natAbs*b)+(x % y).natAbs*b)<=D):=by
  rcases hP with⟨ha,hb,hD⟩|⟨hx0,hy0,hT⟩|⟨hx0,hy0,hyx,hT⟩|hP
  ·have k1:=Nat.mul_le_mul hy ha
   have k2:=Nat.mul_le_mul hx hb
   have k3:=Nat.mul_le_mul hy hb
   rcases Int.lt_or_le x 0 with hs|hs
   ·have:=f2 hs;omega
   ·have:=f1 hs;omega
  ·have:=f1 hx0;omega
  ·have:=f2 hx0
   have k3:=Nat.mul_le_mul_right b hyx
   omega
  ·exact absurd hP h0
 rcases Int.lt_trichotomy y 0 with hs|hs|hs
 ·have:=key.2 hs
  exact⟨.inr (.inr (.inl ⟨hs,r0,by omega,this⟩)),by omega⟩
 ·exact absurd hs h0
 ·have:=key.1 hs
  exact⟨.inr (.inl ⟨by omega,r0,this⟩),by omega⟩
section
variable {h w c top i N B0 B D:Nat} {A W W':List (List Int)}
theorem stepE_ws(hW:WS h w W)(ht:top<h)(hi:i<h):WS h w (stepE h c top i W):=by
 unfold stepE
 split
 ·exact swapW_ws hW ht hi
 ·exact swapW_ws (addW_ws hW ht hi) ht hi
theorem stepE_ent(hW:WS h w W)(hti:top<i)(hi:i<h){q t:Nat}(hq:q<h):ent2 (stepE h c top i W) q t=if q=top then ent2 W i t else if q=i then ent2 W top t-ent2 W top c/ent2 W i c*ent2 W i t else ent2 W q t:=by
 have ht:top<h:=by omega
 have hW1:WS h w (if ent2 W top c=0 then W else addW h top i (-(ent2 W top c/ent2 W i c)) W):=by
  split
  ·exact hW
  ·exact addW_ws hW ht hi
 have e1: ∀q,q<h->ent2 (if ent2 W top c=0 then W else addW h top i (-(ent2 W top c/ent2 W i c)) W) q t=if q=top then ent2 W top t-ent2 W top c/ent2 W i c*ent2 W i t else ent2 W q t:=fun q hq=>by
  by_cases h0:ent2 W top c=0
  ·rw[if_pos h0,h0,Int.zero_ediv,Int.zero_mul,Int.sub_zero]
   by_cases e:q=top
   ·rw[if_pos e,e]
   ·rw[if_neg e]
  ·rw[if_neg h0,addW_ent hW ht hi om]
   by_cases e:q=top
   ·rw[if_pos e,if_pos e,Int.neg_mul,Int.sub_eq_add_neg]
   ·rw[if_neg e,if_neg e,if_neg om,if_neg om]
 unfold stepE
 rw[swapW_ent hW1 ht hi om,if_pos hq,e1 _ (swi_lt ht hi hq)]
 by_cases e2:q=top
 ·subst e2
  rw[swi_i,if_neg om,if_pos rfl]
 ·rw[if_neg e2]
  by_cases e3:q=i
  ·subst e3
   rw[swi_j,if_pos rfl,if_pos rfl]
  ·rw[swi_ne e2 e3,if_neg e2,if_neg e3]
structure PairI(h w c top i N B0 B D:Nat)(W:List (List Int)):Prop where
 ws:WS h w W
 bd: ∃a b,Gb h W (bp top i a b (gB top B0 B)) (bp top i b a (gB top B0 B))/\a<=D/\b<=D/\PhE (ent2 W top c) (ent2 W i c) a b N B D
 col: ∀q,top<=q->q<h->(ent2 W q c).natAbs<=N
theorem bp_swap{a b:Nat}{g:Nat->Nat}(hti:top≠i):(fun q=>bp top i a b g (swi top i q))=bp top i b a g:=by
 funext q
 unfold bp
 by_cases e1:q=top
 ·subst e1
  rw[swi_i,if_neg (Ne.symm hti),if_pos rfl,if_pos rfl]
 ·by_cases e2:q=i
  ·subst e2
   rw[swi_j,if_pos rfl,if_neg e1,if_pos rfl]
  ·rw[swi_ne e1 e2,if_neg e1,if_neg e2,if_neg e1,if_neg e2]
theorem PairI.step(hP:PairI h w c top i N B0 B D W)(hti:top<i)(hi:i<h)(hne:ent2 W i c≠0):PairI h w c top i N B0 B D (stepE h c top i W)/\(ent2 (stepE h c top i W) i c).natAbs<(ent2 W i c).natAbs:=by
 have ht:top<h:=by omega
 obtain⟨ws,⟨a,b,hG,ha,hb,hPh⟩,hc⟩:=hP
 have hx:=hc top (znb _) ht
 have hy:=hc i om hi
 obtain⟨r0,r1,_,_⟩:=euc_nat (x:=ent2 W top c) hne
 have eX:ent2 (stepE h c top i W) top c=ent2 W i c:=by rw[stepE_ent ws hti hi ht,if_pos rfl]
 have eY:ent2 (stepE h c top i W) i c=ent2 W top c % ent2 W i c:=by
  rw[stepE_ent ws hti hi hi,if_neg om,if_pos rfl]
  have:=Int.mul_ediv_add_emod (ent2 W top c) (ent2 W i c)
  rw[Int.mul_comm]at this;omega
 have h1:=phE_step hx hy hne hPh
 refine⟨⟨stepE_ws ws ht hi,?_,fun q h1 h2=> ?_⟩,by rw[eY];exact r1⟩
 ·rw [eX,eY]
  refine⟨b,a+(ent2 W top c/ent2 W i c).natAbs*b,?_,hb,h1.2,h1.1⟩
  unfold stepE
  by_cases h0:ent2 W top c=0
  ·rw[if_pos h0,h0,Int.zero_ediv]
   have:=hG.swap ws ht hi
   rw[bp_swap om,bp_swap om]at this
   simpa using this
  ·rw[if_neg h0]
   have h2:=hG.add ws ht hi (k:= -(ent2 W top c/ent2 W i c)) (Q:=(ent2 W top c/ent2 W i c).natAbs) (by rw[Int.natAbs_neg];exact znb _)
   have e1:bp top i a b (gB top B0 B) top=a:=if_pos rfl
   have e2:bp top i a b (gB top B0 B) i=b:=by unfold bp;rw[if_neg om,if_pos rfl]
   have e3:bp top i b a (gB top B0 B) i=a:=by unfold bp;rw[if_neg om,if_pos rfl]
   have e4:bp top i b a (gB top B0 B) top=b:=if_pos rfl
   rw[e1,e2,e3,e4]at h2
   have e5: ∀x,upd (bp top i a b (gB top B0 B)) top x=bp top i x b (gB top B0 B):=fun x=>by
    funext q
    unfold upd bp
    by_cases e:q=top
    ·rw[if_pos e,if_pos e]
    ·rw[if_neg e,if_neg e,if_neg e]
   have e6: ∀x,upd (bp top i b a (gB top B0 B)) i x=bp top i b x (gB top B0 B):=fun x=>by
    funext q
    unfold upd bp
    by_cases e:q=i
    ·rw[if_pos e,if_neg om,if_pos e]
    ·rw[if_neg e]
     by_cases e7:q=top
     ·rw[if_pos e7,if_pos e7]
     ·rw[if_neg e7,if_neg e7,if_neg e,if_neg e]
   rw[e5,e6]at h2
   have h3:=h2.swap (addW_ws ws ht hi) ht hi
   rwa[bp_swap om,bp_swap om]at h3
 ·by_cases e1:q=top
  ·rw[e1,eX];exact hy
  ·by_cases e2:q=i
   ·rw[e2,eY];omega
   ·rw[stepE_ent ws hti hi h2,if_neg e1,if_neg e2];exact hc q h1 h2
inductive Euc(h c top i:Nat):List (List Int)->List (List Int)->Prop
 |stop {W:List (List Int)}:ent2 W i c=0->Euc h c top i W W
 |step {W W':List (List Int)}:ent2 W i c≠0->Euc h c top i (stepE h c top i W) W'->Euc h c top i W W'
theorem Euc.ex(hti:top<i)(hi:i<h): ∀(n:Nat) {W:List (List Int)},(ent2 W i c).natAbs<=n->PairI h w c top i N B0 B D W-> ∃W',Euc h c top i W W'
 |0,W,hn,_=>⟨W,.stop om⟩
 | n+1,W,hn,hP=>by
  by_cases h0:ent2 W i c=0
  ·exact⟨W,.stop h0⟩
  ·obtain⟨h1,h2⟩:=hP.step hti hi h0
   obtain⟨W',hW'⟩:=Euc.ex hti hi n om h1
   exact⟨W',.step h0 hW'⟩
theorem Euc.zero(hE:Euc h c top i W W'):ent2 W' i c=0:=by
 induction hE with
 |stop h0=>exact h0
 |step _ _ ih=>exact ih
theorem Euc.pair(hE:Euc h c top i W W')(hti:top<i)(hi:i<h):PairI h w c top i N B0 B D W->PairI h w c top i N B0 B D W':=by
 induction hE with
 |stop h0=>exact fun h=>h
 |step h0 _ ih=>exact fun h=>ih (h.step hti hi h0).1
theorem Euc.rest(hE:Euc h c top i W W')(hti:top<i)(hi:i<h):WS h w W-> ∀q,q<h->q≠top->q≠i-> ∀t,ent2 W' q t=ent2 W q t:=by
 induction hE with
 |stop h0=>exact fun _ _ _ _ _ _=>rfl
 |step h0 _ ih=>exact fun hW q hq h1 h2 t=>by rw[ih (stepE_ws hW om hi) q hq h1 h2 t,stepE_ent hW hti hi hq,if_neg h1,if_neg h2]
theorem Euc.left(hE:Euc h c top i W W')(hti:top<i)(hi:i<h){t:Nat}:WS h w W->ent2 W top t=0->ent2 W i t=0->ent2 W' top t=0/\ent2 W' i t=0:=by
 induction hE with
 |stop h0=>exact fun _ a b=>⟨a,b⟩
 |step h0 _ ih=>exact fun hW a b=>ih (stepE_ws hW om hi) (by rw[stepE_ent hW hti hi om,if_pos rfl];exact b) (by rw[stepE_ent hW hti hi hi,if_neg om,if_pos rfl,a,b];simp)
theorem Euc.lin(hE:Euc h c top i W W')(hti:top<i)(hi:i<h):WS h w W->LinI h w A W->LinI h w A W':=by
 induction hE with
 |stop h0=>exact fun _ h=>h
 | @step W W' h0 _ ih=>
  intro hW hL
  refine ih (stepE_ws hW om hi) ?_
  unfold stepE
  split
  ·exact hL.swap hW om hi om
  ·exact(hL.add hW om hi om).swap (addW_ws hW om hi) om hi om
end
end
section
inductive RowsE(h c top:Nat):Nat->List (List Int)->List (List Int)->Prop
 |done {i:Nat} {W:List (List Int)}:h<=i->RowsE h c top i W W
 |next {i:Nat} {W W1 W':List (List Int)}:i<h->Euc h c top i W W1->RowsE h c top (i+1) W1 W'->RowsE h c top i W W'
structure RowI(h w c top N B0 B i:Nat)(W:List (List Int)):Prop where
 ws:WS h w W
 bd:Gb h W (gB top B0 (B*(12*N)^(i-(top+1)))) (gB top B0 (B*(12*N)^(i-(top+1))))
 col: ∀q,top<=q->q<h->(ent2 W q c).natAbs<=N
 zer: ∀q,top<q->q<i->q<h->ent2 W q c=0
section
variable {h w c top i N B0 B:Nat} {A W W':List (List Int)}
theorem gB_bp{D:Nat}(hti:top<i):bp top i B B (gB top B0 B)=gB top B0 B:=by
 funext q
 unfold bp gB
 by_cases e1:q=top
 ·rw[if_pos e1,if_neg om]
 ·by_cases e2:q=i
  ·rw[if_neg e1,if_pos e2,if_neg om]
  ·rw[if_neg e1,if_neg e2]
theorem RowI.pair(hR:RowI h w c top N B0 B i W)(hti:top<i)(hN:1<=N):PairI h w c top i N B0 (B*(12*N)^(i-(top+1))) (B*(12*N)^(i+1-(top+1))) W:=by
 have e:B*(12*N)^(i+1-(top+1))=12*(N*(B*(12*N)^(i-(top+1)))):=by
  rw[show i+1-(top+1)=i-(top+1)+1 by omega,Nat.pow_succ,<-Nat.mul_assoc,Nat.mul_comm (B*_) (12*N),Nat.mul_assoc 12]
 have hB: ∀X:Nat,X<=12*(N*X):=fun X=>by
  have:=Nat.le_mul_of_pos_left X (show 0<N by omega)
  omega
 refine⟨hR.ws,⟨_,_,?_,?_,?_,.inl ⟨znb _,znb _,?_⟩⟩,hR.col⟩
 ·have:=hR.bd
  rw[gB_bp (D:=0) hti]
  exact this
 ·rw[e];exact hB _
 ·rw[e];exact hB _
 ·rw[e];exact znb _
theorem PairI.row{W0:List (List Int)}(hR:RowI h w c top N B0 B i W0)(hE:Euc h c top i W0 W)(hti:top<i)(hi:i<h)(hN:1<=N):RowI h w c top N B0 B (i+1) W:=by
 obtain⟨ws,⟨a,b,hG,ha,hb,_⟩,hc⟩:=hE.pair hti hi (hR.pair hti hN)
 have hle:B*(12*N)^(i-(top+1))<=B*(12*N)^(i+1-(top+1)):=Nat.mul_le_mul_left B (Nat.pow_le_pow_right om om)
 have hb': ∀x y,x<=B*(12*N)^(i+1-(top+1))->y<=B*(12*N)^(i+1-(top+1))-> ∀q,q<h->bp top i x y (gB top B0 (B*(12*N)^(i-(top+1)))) q<=gB top B0 (B*(12*N)^(i+1-(top+1))) q:=fun x y hx hy q hq=>by
  unfold bp gB
  by_cases e1:q=top
  ·rw[if_pos e1,if_neg om];exact hx
  ·rw[if_neg e1]
   by_cases e2:q=i
   ·rw[if_pos e2,if_neg om];exact hy
   ·rw[if_neg e2]
    by_cases e3:q<top
    ·rw[if_pos e3,if_pos e3];exact znb _
    ·rw[if_neg e3,if_neg e3];exact hle
 refine⟨ws,hG.mono (hb' a b ha hb) (hb' b a hb ha),hc,fun q h1 h2 h3=> ?_⟩
 by_cases e:q=i
 ·rw[e];exact hE.zero
 ·rw[hE.rest hti hi hR.ws q h3 om e]
  exact hR.zer q h1 om h3
theorem RowsE.ex(hN:1<=N): ∀(n:Nat) {i:Nat} {W:List (List Int)},h-i<=n->top<i->RowI h w c top N B0 B i W-> ∃W',RowsE h c top i W W'
 |0,i,W,hn,_,_=>⟨W,.done om⟩
 | n+1,i,W,hn,hti,hR=>by
  by_cases hi:i<h
  ·obtain⟨W1,hE⟩:=Euc.ex hti hi _ (znb _) (hR.pair hti hN)
   obtain⟨W',hW'⟩:=RowsE.ex hN n om om (PairI.row hR hE hti hi hN)
   exact⟨W',.next hi hE hW'⟩
  ·exact⟨W,.done om⟩
theorem RowsE.row(hE:RowsE h c top i W W')(hN:1<=N):top<i->i<=h->RowI h w c top N B0 B i W->RowI h w c top N B0 B h W':=by
 induction hE with
 |done h0=>exact fun _ h1 hR=>by rwa[show _=h from Nat.le_antisymm h1 h0]at hR
 |next h0 hE _ ih=>exact fun hti _ hR=>ih om om (PairI.row hR hE hti h0 hN)
theorem Euc.ws(hE:Euc h c top i W W')(hti:top<i)(hi:i<h):WS h w W->WS h w W':=by
 induction hE with
 |stop h0=>exact fun h=>h
 |step h0 _ ih=>exact fun h=>ih (stepE_ws h om hi)
theorem RowsE.above(hE:RowsE h c top i W W'):top<i->WS h w W-> ∀q,q<top-> ∀t,ent2 W' q t=ent2 W q t:=by
 induction hE with
 |done h0=>exact fun _ _ _ _ _=>rfl
 |next h0 hE _ ih=>exact fun hti hW q hq t=>by rw[ih om (hE.ws hti h0 hW) q hq t,hE.rest hti h0 hW q om om om]
theorem RowsE.left{t:Nat}(hE:RowsE h c top i W W'):top<i->WS h w W->(∀q,top<=q->q<h->ent2 W q t=0)-> ∀q,top<=q->q<h->ent2 W' q t=0:=by
 induction hE with
 |done h0=>exact fun _ _ hz=>hz
 | @next i W W1 W' h0 hE _ ih=>
  intro hti hW hz
  refine ih om (hE.ws hti h0 hW) fun q h1 h2=> ?_
  have hl:=hE.left hti h0 hW (hz top (znb _) om) (hz _ om h0)
  by_cases e1:q=top
  ·rw[e1];exact hl.1
  ·by_cases e2:q=i
   ·rw[e2];exact hl.2
   ·rw[hE.rest hti h0 hW q h2 e1 e2];exact hz q h1 h2
theorem RowsE.lin(hE:RowsE h c top i W W'):top<i->WS h w W->LinI h w A W->LinI h w A W':=by
 induction hE with
 |done h0=>exact fun _ _ h=>h
 |next h0 hE _ ih=>exact fun hti hW hL=>ih om (hE.ws hti h0 hW) (hE.lin hti h0 hW hL)
end
def redW(h c top:Nat):Nat->Nat->List (List Int)->List (List Int)
 |0,_,W=>W
 |n+1,i,W=>redW h c top n (i+1) (addW h i top (-(ent2 W i c/ent2 W top c)) W)
structure RedI(h w c top B0 B1 i:Nat)(Z W:List (List Int)):Prop where
 ws:WS h w W
 bd:Gb h W (fun q=>if q<i then B0+B0*B1 else if q<top then B0 else B1) (fun t=>if t<top then B0 else if t=top then B1+i*(B0*B0)else B1)
 row: ∀q,q<h->i<=q-> ∀t,ent2 W q t=ent2 Z q t
 left: ∀q,q<h-> ∀t,t<c->ent2 W q t=ent2 Z q t
 red: ∀q,q<i->0<=ent2 W q c/\ent2 W q c<ent2 Z top c
section
variable {h w c top i B0 B1:Nat} {A Z W W':List (List Int)}
theorem RedI.next(hR:RedI h w c top B0 B1 i Z W)(hi:i<top)(ht:top<h)(hp:0<ent2 Z top c)(hz: ∀t,t<c->ent2 Z top t=0):RedI h w c top B0 B1 (i+1) Z (addW h i top (-(ent2 W i c/ent2 W top c)) W):=by
 have hih:i<h:=by omega
 obtain⟨ws,bd,row,left,red⟩:=hR
 have eP: ∀t,ent2 W top t=ent2 Z top t:=row top ht om
 have eA: ∀q,q<h-> ∀t,ent2 (addW h i top (-(ent2 W i c/ent2 W top c)) W) q t=if q=i then ent2 W i t-ent2 W i c/ent2 W top c*ent2 W top t else ent2 W q t:=fun q hq t=>by
  rw[addW_ent ws hih ht om]
  by_cases e:q=i
  ·rw[if_pos e,if_pos e,Int.neg_mul,Int.sub_eq_add_neg]
  ·rw[if_neg e,if_neg e,if_neg om,if_neg om]
 have hx:(ent2 W i c).natAbs<=B0:=by
  have:=bd.m i c hih
  rwa[if_neg om,if_pos hi]at this
 have hk:(-(ent2 W i c/ent2 W top c)).natAbs<=B0:=by
  rw[Int.natAbs_neg]
  exact Nat.le_trans (Int.natAbs_ediv_le_natAbs _ _) hx
 refine⟨addW_ws ws hih ht,(bd.add ws hih ht hk).mono (fun q hq=> ?_) (fun q hq=> ?_),fun q hq h1 t=> ?_,fun q hq t h1=> ?_,fun q h1=> ?_⟩
 ·show(if q=i then(if i<i then B0+B0*B1 else if i<top then B0 else B1)+B0*(if top<i then B0+B0*B1 else if top<top then B0 else B1)else(if q<i then B0+B0*B1 else if q<top then B0 else B1))<=(if q<i+1 then B0+B0*B1 else if q<top then B0 else B1)
  by_cases e:q=i
  ·rw[if_pos e,if_neg (show¬i<i by omega),if_pos hi,if_neg (show¬top<i by omega),if_neg (show¬top<top by omega),if_pos (show q<i+1 by omega)]
   exact znb _
  ·rw[if_neg e]
   by_cases e2:q<i
   ·rw[if_pos e2,if_pos om];exact znb _
   ·rw[if_neg e2,if_neg (show¬q<i+1 by omega)];exact znb _
 ·show(if q=top then(if top<top then B0 else if top=top then B1+i*(B0*B0)else B1)+B0*(if i<top then B0 else if i=top then B1+i*(B0*B0)else B1)else(if q<top then B0 else if q=top then B1+i*(B0*B0)else B1))<=(if q<top then B0 else if q=top then B1+(i+1)*(B0*B0)else B1)
  by_cases e:q=top
  ·rw[if_pos e,if_neg (show¬top<top by omega),if_pos rfl,if_pos hi,if_neg (show¬q<top by omega),if_pos e,Nat.add_mul,zna];omega
  ·rw[if_neg e,if_neg e,if_neg e]
   exact znb _
 ·rw[eA q hq,if_neg om];exact row q hq om t
 ·rw[eA q hq]
  by_cases e:q=i
  ·rw[if_pos e,eP t,hz t h1,Int.mul_zero,Int.sub_zero,e];exact left i hih t h1
  ·rw[if_neg e];exact left q hq t h1
 ·rw[eA q om]
  by_cases e:q=i
  ·rw[if_pos e,eP c]
   have h1:=Int.mul_ediv_add_emod (ent2 W i c) (ent2 Z top c)
   have h2:=Int.emod_nonneg (ent2 W i c) (show ent2 Z top c≠0 by omega)
   have h3:=Int.emod_lt_of_pos (ent2 W i c) hp
   rw[Int.mul_comm]at h1
   omega
  ·rw[if_neg e];exact red q om
theorem redW_inv(ht:top<h)(hp:0<ent2 Z top c)(hz: ∀t,t<c->ent2 Z top t=0): ∀(n:Nat) {i:Nat} {W:List (List Int)},n+i=top->RedI h w c top B0 B1 i Z W->RedI h w c top B0 B1 top Z (redW h c top n i W)
 |0,i,W,hn,hR=>by rw[zn9]at hn;subst hn;exact hR
 |n+1,i,W,hn,hR=>redW_inv ht hp hz n om (hR.next om ht hp hz)
theorem redW_lin(ht:top<h): ∀(n:Nat) {i:Nat} {W:List (List Int)},n+i=top->WS h w W->LinI h w A W->LinI h w A (redW h c top n i W)
 |0,_,_,_,_,hL=>hL
 |n+1,i,W,hn,hW,hL=>redW_lin ht n om (addW_ws hW om ht) (hL.add hW om ht om)
end
end
section
structure IsH(h w:Nat)(M:Nat->Nat->Int)(r:Nat)(p:Nat->Nat):Prop where
 rh:r<=h
 pw: ∀i,i<r->p i<w
 pos: ∀i,i<r->0<M i (p i)
 lead: ∀i,i<r-> ∀j,j<p i->M i j=0
 inc: ∀i k,i<k->k<r->p i<p k
 red: ∀i k,i<k->k<r->0<=M i (p k)/\M i (p k)<M k (p k)
 zero: ∀i,r<=i->i<h-> ∀j,j<w->M i j=0
theorem dot_zero{c g:Nat->Int}: ∀{n:Nat},(∀t,t<n->c t*g t=0)->dotI c g n=0
 |0,_=>rfl
 |n+1,h=>by
  show dotI c g n+c n*g n=0
  rw[dot_zero fun t ht=>h t om,h n om];rfl
theorem dot_one{c g:Nat->Int}{i:Nat}: ∀{n:Nat},i<n->(∀t,t<n->t≠i->c t*g t=0)->dotI c g n=c i*g i
 |0,h,_=>by omega
 | n+1,hi,h=>by
  show dotI c g n+c n*g n=_
  by_cases e:n=i
  ·subst e
   rw[dot_zero fun t ht=>h t om om,Int.zero_add]
  ·rw[dot_one (i:=i) om fun t ht=>h t om,h n om e,Int.add_zero]
theorem least_of{P:Nat->Prop}{n:Nat}(h:P n): ∃k,P k/\ ∀j,j<k-> ¬P j:=by
 induction n using Nat.strongRecOn with
 | ind n ih=>
  by_cases hx: ∃j,j<n/\P j
  ·obtain⟨j,hj,hp⟩:=hx
   exact ih j hj hp
  ·exact⟨n,h,fun j hj hp=>hx ⟨j,hj,hp⟩⟩
section
variable {h w r s:Nat} {M N:Nat->Nat->Int} {p q:Nat->Nat}
theorem IsH.leadL(H:IsH h w M r p){c:Nat->Int}{k:Nat}(hk:k<w)(h0: ∀j,j<k->dotI c (fun t=>M t j) h=0)(hne:dotI c (fun t=>M t k) h≠0): ∃i,i<r/\p i=k/\M i k∣dotI c (fun t=>M t k) h:=by
 have hrh:=H.rh
 have hex: ∃i,i<r/\c i≠0:=by
  apply Classical.byContradiction
  intro hn
  apply hne
  refine dot_zero fun t ht=> ?_
  by_cases htr:t<r
  ·have:c t=0:=Classical.byContradiction fun hc=>hn ⟨t,htr,hc⟩
   rw[this,Int.zero_mul]
  ·rw[H.zero t om ht k hk,Int.mul_zero]
 obtain⟨i0,hi0⟩:=hex
 obtain⟨i,⟨hi,hc⟩,hl⟩:=least_of (P:=fun i=>i<r/\c i≠0) hi0
 have hc0: ∀t,t<i->c t=0:=fun t ht=>Classical.byContradiction fun hcc=>(hl t ht) ⟨by omega,hcc⟩
 have key: ∀j,j<w->j<=p i->dotI c (fun t=>M t j) h=c i*M i j:=fun j hj hji=>by
  refine dot_one om fun t ht hti=> ?_
  by_cases h1:t<i
  ·rw[hc0 t h1,Int.zero_mul]
  ·by_cases h2:t<r
   ·have:=H.inc i t om h2
    rw[H.lead t h2 j om,Int.mul_zero]
   ·rw[H.zero t om ht j hj,Int.mul_zero]
 have hpi:p i=k:=by
  have hpw:=H.pw i hi
  rcases Nat.lt_trichotomy (p i) k with h|h|h
  ·have e:=h0 (p i) h
   rw[key (p i) hpw (znb _)]at e
   have:=H.pos i hi
   rcases Int.mul_eq_zero.1 e with e|e
   ·exact absurd e hc
   ·omega
  ·exact h
  ·rw[key k hk om,H.lead i hi k h,Int.mul_zero]at hne
   exact absurd rfl hne
 refine⟨i,hi,hpi,?_⟩
 rw[key k hk om]
 exact Int.dvd_mul_left _ _
def SubL(h w:Nat)(M N:Nat->Nat->Int):Prop:= ∀i,i<h-> ∃c:Nat->Int,∀j,j<w->N i j=dotI c (fun t=>M t j) h
theorem IsH.piv(HM:IsH h w M r p)(HN:IsH h w N s q)(hs:SubL h w M N){i:Nat}(hi:i<s): ∃k,k<r/\p k=q i/\M k (q i)∣N i (q i):=by
 have hsh:=HN.rh
 obtain⟨c,hc⟩:=hs i om
 have hw:=HN.pw i hi
 have hp:=HN.pos i hi
 obtain⟨k,h1,h2,h3⟩:=HM.leadL (c:=c) hw (fun j hj=>by rw[<-hc j om];exact HN.lead i hi j hj) (by rw[<-hc _ hw];omega)
 exact⟨k,h1,h2,by rw[hc _ hw];exact h3⟩
theorem IsH.same_piv(HM:IsH h w M r p)(HN:IsH h w N s q)(h1:SubL h w M N)(h2:SubL h w N M): ∀i,(i<r↔i<s)/\(i<r->p i=q i):=by
 intro i
 induction i using Nat.strongRecOn with
 | ind i ih=>
  have a:i<r-> ∃k,k<s/\i<=k/\q k=p i:=fun hi=>by
   obtain⟨k,k1,k2,_⟩:=HN.piv HM h2 hi
   refine⟨k,k1,Nat.le_of_not_lt fun hki=> ?_,k2⟩
   have e:=(ih k hki).2 om
   have:=HM.inc k i hki hi
   omega
  have b:i<s-> ∃k,k<r/\i<=k/\p k=q i:=fun hi=>by
   obtain⟨k,k1,k2,_⟩:=HM.piv HN h1 hi
   refine⟨k,k1,Nat.le_of_not_lt fun hki=> ?_,k2⟩
   have e:=(ih k hki).2 k1
   have:=HN.inc k i hki hi
   omega
  refine⟨⟨fun hi=>by obtain⟨k,k1,k2,_⟩:=a hi;omega,fun hi=>by obtain⟨k,k1,k2,_⟩:=b hi;omega⟩,fun hi=> ?_⟩
  obtain⟨k,k1,k2,k3⟩:=a hi
  obtain⟨l,l1,l2,l3⟩:=b om
  have m1:q i<=q k:=by
   rcases Nat.eq_or_lt_of_le k2 with e|e
   ·rw[e];exact znb _
   ·exact Nat.le_of_lt (HN.inc i k e k1)
  have m2:p i<=p l:=by
   rcases Nat.eq_or_lt_of_le l2 with e|e
   ·rw[e];exact znb _
   ·exact Nat.le_of_lt (HM.inc i l e l1)
  omega
theorem IsH.inj(H:IsH h w M r p){i k:Nat}(hi:i<r)(hk:k<r)(e:p i=p k):i=k:=by
 rcases Nat.lt_trichotomy i k with h|h|h
 ·have:=H.inc i k h hk;omega
 ·exact h
 ·have:=H.inc k i h hi;omega
theorem IsH.uniq(HM:IsH h w M r p)(HN:IsH h w N s q)(h1:SubL h w M N)(h2:SubL h w N M){i j:Nat}(hi:i<h)(hj:j<w):M i j=N i j:=by
 have sp:=HM.same_piv HN h1 h2
 have rs:r=s:=by
  rcases Nat.lt_trichotomy r s with e|e|e
  ·have:=(sp r).1;omega
  ·exact e
  ·have:=(sp s).1;omega
 subst rs
 have pq: ∀i,i<r->p i=q i:=fun i hi=>(sp i).2 hi
 have val: ∀i,i<r->M i (p i)=N i (p i):=fun i hi=>by
  obtain⟨k,k1,k2,k3⟩:=HM.piv HN h1 hi
  rw[<-pq i hi]at k2 k3
  have:=HM.inj k1 hi k2
  subst this
  obtain⟨l,l1,l2,l3⟩:=HN.piv HM h2 hi
  rw[<-pq l l1]at l2
  have:=HM.inj l1 hi l2
  subst this
  have a1:=HM.pos l hi
  have a2:=HN.pos l hi
  rw[<-pq l hi]at a2
  have b1:=Int.le_of_dvd a2 k3
  have b2:=Int.le_of_dvd a1 l3
  omega
 by_cases hir:i<r
 ·by_cases he:M i j=N i j
  ·exact he
  ·exfalso
   obtain⟨k,⟨hk,hne⟩,hl⟩:=least_of (P:=fun k=>k<w/\M i k≠N i k) ⟨hj,he⟩
   obtain⟨c,hc⟩:=h1 i hi
   have hD: ∀j,j<w->dotI (fun t=>(if i=t then 1 else 0)+(-1)*c t) (fun t=>M t j) h=M i j-N i j:=fun j hj=>by
    rw[dot_add,dot_unit,if_pos hi,<-hc j hj];omega
   obtain⟨t,t1,t2,t3⟩:=HM.leadL (c:=fun t=>(if i=t then 1 else 0)+(-1)*c t) hk
    (fun j hj=>by
     rw[hD j om]
     have: ¬(M i j≠N i j):=fun h=>hl j hj ⟨by omega,h⟩
     omega) (by rw[hD k hk];omega)
   rw[hD k hk]at t3
   rcases Nat.lt_trichotomy t i with h|h|h
   ·have a:=HM.inc t i h hir
    have e1:=HM.lead i hir k om
    have e2:=HN.lead i hir k (by rw[<-pq i hir];omega)
    omega
   ·subst h
    have:=val t hir
    rw[t2]at this
    omega
   ·obtain⟨a1,a2⟩:=HM.red i t h t1
    obtain⟨b1,b2⟩:=HN.red i t h t1
    have v:=val t t1
    rw[<-pq t t1]at b1 b2
    rw[t2]at a1 a2 b1 b2 v
    have:=Int.eq_zero_of_dvd_of_natAbs_lt_natAbs t3 om
    omega
 ·rw[HM.zero i om hi j hj,HN.zero i om hi j hj]
end
end
section
open Go.RowKit
def actW(h:Nat)(W:List (List Int))(o:OpL):List (List Int):=if o.kd=1 then swapW h o.i o.j W else if o.kd=2 then negW h o.i W else addW h o.i o.j o.k W
def actsW(h:Nat):List (List Int)->List OpL->List (List Int)
 |W,[]=>W
 |W,o::l=>actsW h (actW h W o) l
theorem take_get{M:List (List Int)}{h q:Nat}(hq:q<h):(M.take h).getD q []=M.getD q []:=by
 rw[List.getD_eq_getElem?_getD,List.getElem?_take_of_lt hq,List.getD_eq_getElem?_getD]
theorem WI.take{h w K:Nat}{W:List (List Int)}(hW:WI h w K W):MI h w K (W.take h):=by
 have hl:=hW.len
 have htl:(W.take h).length=h:=by rw[List.length_take];omega
 refine⟨htl,fun r hr=> ?_⟩
 obtain⟨q,hq,rfl⟩:=List.mem_iff_getElem.1 hr
 have e:(W.take h)[q]=W.getD q []:=by
  rw[<-take_get (M:=W) (h:=h) om,List.getD_eq_getElem?_getD,zlb hq];rfl
 rw[e]
 refine⟨hW.rowM q om,fun x hx=> ?_⟩
 obtain⟨t,ht,rfl⟩:=List.mem_iff_getElem.1 hx
 have:=hW.fit q t
 rwa[List.getD_eq_getElem?_getD,zlb ht]at this
theorem actW_take{h w K n:Nat}{W:List (List Int)}(hW:WI h w K W){o:OpL}(ho:OkOp n o)(hn:n=h):(actW h W o).take h=actO (W.take h) o:=by
 subst hn
 have hl:=hW.len
 have hi:=ho.i
 have htl:(W.take n).length=n:=by rw[List.length_take];omega
 refine rows_ext ?_ fun q hq=> ?_
 ·rw[actO_len,htl,List.length_take]
  unfold actW swapW negW addW
  split
  ·rw[swapI_len,swapI_len,colSwp_len];omega
  ·split
   ·rw[colNeg_len,List.length_set,List.length_set];omega
   ·rw[colPre_len,List.length_set,List.length_set];omega
 ·have hqn:q<n:=by rw[List.length_take]at hq;omega
  rw[take_get hqn]
  unfold actW actO
  by_cases h1:o.kd=1
  ·have hj:o.j<n:=by rcases ho.c with⟨_,hj,_⟩|⟨e,_⟩|⟨e,_⟩<;>omega
   have e1:=swapI_get (M:=W.take n) (i:=o.i) (j:=o.j) om om q
   have e2:=swapI_get (M:=swapI (colSwp n o.i o.j n W) o.i o.j) (i:=n+o.i) (j:=n+o.j) (by rw[swapI_len,colSwp_len];omega) (by rw[swapI_len,colSwp_len];omega) q
   have e3:=swapI_get (M:=colSwp n o.i o.j n W) (i:=o.i) (j:=o.j) (by rw[colSwp_len];omega) (by rw[colSwp_len];omega) q
   rw[if_pos h1,if_pos h1,e1]
   unfold swapW
   rw[e2,if_neg om,if_neg om,e3]
   have e4: ∀q,q<n->(colSwp n o.i o.j n W).getD q []=W.getD q []:=fun q hq=>by rw[colSwp_get om,if_neg om]
   rw[e4 _ hi,e4 _ hj,e4 _ hqn,take_get hi,take_get hj,take_get hqn]
  ·rw[if_neg h1,if_neg h1]
   by_cases h2:o.kd=2
   ·rw[if_pos h2,if_pos h2,getD_set om]
    unfold negW
    rw[colNeg_get (by rw[List.length_set,List.length_set];omega),if_neg om,getD_set (by rw[List.length_set];omega),if_neg om,getD_set om,take_get hi,take_get hqn]
   ·have hj:o.j<n:=by rcases ho.c with⟨e,_⟩|⟨e,_⟩|⟨_,hj,_⟩<;>omega
    rw[if_neg h2,if_neg h2,getD_set om]
    unfold addW
    rw[colPre_get (by rw[List.length_set,List.length_set];omega),if_neg om,getD_set (by rw[List.length_set];omega),if_neg om,getD_set om,take_get hi,take_get hj,take_get hqn]
theorem actW_wi{h w K:Nat}{W:List (List Int)}(hW:WI h w K W){o:OpL}(ho:OkOp h o):WI h w (K+OL+1) (actW h W o):=by
 unfold actW
 split
 ·rename_i h1
  have hj:o.j<h:=by rcases ho.c with⟨_,hj,_⟩|⟨e,_⟩|⟨e,_⟩<;>omega
  exact(swapW_wi hW ho.i hj).mono om
 ·split
  ·exact(negW_wi hW ho.i).mono om
  ·have hj:o.j<h:=by rcases ho.c with⟨e,_⟩|⟨e,_⟩|⟨_,hj,_⟩<;>omega
   exact addW_wi hW ho.i hj ho.k
theorem actsW_take{h w:Nat}: ∀{l:List OpL} {K:Nat} {W:List (List Int)},WI h w K W->(∀o∈l,OkOp h o)->(actsW h W l).take h=actsO (W.take h) l
 |[],_,_,_,_=>rfl
 |o::l,K,W,hW,hl=>by
  rw[actsW,actsO,<-actW_take hW (hl o (by simp)) rfl]
  exact actsW_take (actW_wi hW (hl o (by simp))) fun p hp=>hl p (by simp[hp])
theorem actsW_snoc(h:Nat): ∀(l:List OpL) (o:OpL) (W:List (List Int)),actsW h W (l++ [o])=actW h (actsW h W l) o
 |[],_,_=>rfl
 |p::l,o,W=>by rw[zl8,actsW,actsW,actsW_snoc h l o]
theorem actsW_succ{h i:Nat}{l:List OpL}(hi:i<l.length){W:List (List Int)}:actsW h W (l.take (i+1))=actW h (actsW h W (l.take i)) (l.getD i ⟨0,0,0,0⟩):=by
 rw[List.take_succ_eq_append_getElem hi,actsW_snoc,List.getD_eq_getElem?_getD,zlb hi];rfl
theorem actsW_drop{h i:Nat}{l:List OpL}{W:List (List Int)}(hi:i<l.length):actsW h W (l.drop i)=actsW h (actW h W (l.getD i ⟨0,0,0,0⟩)) (l.drop (i+1)):=by
 rw[List.drop_eq_getElem_cons hi,actsW,List.getD_eq_getElem?_getD,zlb hi];rfl
theorem work0_wi{h w K:Nat}{A:List (List Int)}(hA:MI h w K A):WI h w (K+1) (A++idL h++idL h):=by
 have hAl:=hA.len
 have hI:=mk_mi (h:=h) (w:=h) (K:=1) (f:=fun r c=>if r=c then(1:Int)else 0) fun _ _ _ _=>fits01
 have hil:(idL h).length=h:=mkM_len
 have fitI: ∀q t,Fits (K+1) (((idL h).getD q []).getD t 0):=by
  intro q t
  by_cases hq:q<h
  ·by_cases ht:t<h
   ·exact(hI.fit hq ht).mono om
   ·have:=(hI.get hq).1
    rw[List.getD_eq_getElem?_getD (l:=(idL h).getD q []),List.getElem?_eq_none (by unfold idL;omega)];exact fits0
  ·rw[List.getD_eq_getElem?_getD (l:=idL h),List.getElem?_eq_none om]
   simp only[Option.getD_none]
   exact fits0
 have rowI: ∀q,q<h->((idL h).getD q []).length=h:=fun q hq=>(hI.get hq).1
 have g1: ∀q,q<h->(A++idL h++idL h).getD q []=A.getD q []:=fun q hq=>by
  rw[List.getD_eq_getElem?_getD,zl6,List.getElem?_append_left om,List.getD_eq_getElem?_getD]
 have g2: ∀q,h<=q->q<2*h->(A++idL h++idL h).getD q []=(idL h).getD (q-h) []:=fun q h1 h2=>by
  rw[List.getD_eq_getElem?_getD,zl6,List.getElem?_append_right om,List.getElem?_append_left om,hAl,List.getD_eq_getElem?_getD]
 have g3: ∀q,2*h<=q->(A++idL h++idL h).getD q []=(idL h).getD (q-2*h) []:=fun q h1=>by
  rw[List.getD_eq_getElem?_getD,List.getElem?_append_right (by rw[zl1];omega),zl1,hAl,hil,<-Nat.two_mul,List.getD_eq_getElem?_getD]
 refine⟨by rw[zl1,zl1];omega,fun q hq=>by rw[g1 q hq];exact(hA.get hq).1,fun q h1 h2=> ?_,fun q t=> ?_⟩
 ·by_cases hq:q<2*h
  ·rw[g2 q h1 hq];exact rowI _ om
  ·rw[g3 q om];exact rowI _ om
 ·by_cases hq:q<h
  ·rw[g1 q hq]
   by_cases ht:t<w
   ·exact(hA.fit hq ht).mono om
   ·have:=(hA.get hq).1
    rw[List.getD_eq_getElem?_getD (l:=A.getD q []),List.getElem?_eq_none om];exact fits0
  ·by_cases hq2:q<2*h
   ·rw[g2 q om hq2];exact fitI _ _
   ·rw[g3 q om];exact fitI _ _
theorem work0_take{h w K:Nat}{A:List (List Int)}(hA:MI h w K A):(A++idL h++idL h).take h=A:=by
 have hAl:=hA.len
 rw[zl6,List.take_append_of_le_length om,zla om]
theorem inside_s(i n:Nat):Spec Tryz.prog 100 [.sc (.int .i64 i),.sc (.int .i64 n)] (.sc (.bool (decide ((i:Int)<n)))):=by
 have q1:decide ((0:Int)<=(i:Int))=true:=decide_eq_true om
 refine qF Tryz.func100 Tryz.ntmps100 fun B hB=> ?_
 refine qWf @q1 ?_
 exact qE Tryz.results100
end
section
inductive ColsE(h w:Nat):Nat->Nat->List (List Int)->List (List Int)->Prop
 |done {c top:Nat} {W:List (List Int)}: ¬(c<w/\top<h)->ColsE h w c top W W
 |skip {c top:Nat} {W W1 W':List (List Int)}:c<w->top<h->RowsE h c top (top+1) W W1->ent2 W1 top c=0->ColsE h w (c+1) top W1 W'->ColsE h w c top W W'
 |piv {c top:Nat} {W W1 W':List (List Int)}:c<w->top<h->RowsE h c top (top+1) W W1->ent2 W1 top c≠0->ColsE h w (c+1) (top+1) (redW h c top top 0 (if ent2 W1 top c<0 then negW h top W1 else W1)) W'->ColsE h w c top W W'
def fact:Nat->Nat
 |0=>1
 |n+1=>(n+1)*fact n
theorem fact_pos: ∀n,0<fact n
 |0=>Nat.one_pos
 |n+1=>Nat.mul_pos (Nat.succ_pos n) (fact_pos n)
structure HS(h w c top:Nat)(p:Nat->Nat)(W:List (List Int)):Prop where
 th:top<=h
 cw:c<=w
 pc: ∀i,i<top->p i<c
 pos: ∀i,i<top->0<ent2 W i (p i)
 lead: ∀i,i<top-> ∀j,j<p i->ent2 W i j=0
 inc: ∀i k,i<k->k<top->p i<p k
 red: ∀i k,i<k->k<top->0<=ent2 W i (p k)/\ent2 W i (p k)<ent2 W k (p k)
 zero: ∀q,top<=q->q<h-> ∀t,t<c->ent2 W q t=0
section
variable {h w c top G:Nat} {p:Nat->Nat} {A W W1 W':List (List Int)}
theorem HS.isH(hS:HS h w c top p W)(he: ¬(c<w/\top<h)):IsH h w (ent2 W) top p:=by
 have:=hS.th
 have:=hS.cw
 refine⟨hS.th,fun i hi=> ?_,hS.pos,hS.lead,hS.inc,hS.red,fun i h1 h2 j hj=>hS.zero i h1 h2 j om⟩
 have:=hS.pc i hi;omega
theorem Euc.keep{i:Nat}(hE:Euc h c top i W W')(hti:top<i)(hi:i<h):WS h w W->ent2 W' top c=0->W'=W/\ent2 W i c=0:=by
 induction hE with
 |stop h0=>exact fun _ _=>⟨rfl,h0⟩
 | @step W W' h0 _ ih=>
  intro hW hz
  exfalso
  obtain⟨e1,e2⟩:=ih (stepE_ws hW om hi) hz
  rw[e1,stepE_ent hW hti hi om,if_pos rfl]at hz
  exact h0 hz
theorem RowsE.keep{i:Nat}(hE:RowsE h c top i W W'):top<i->WS h w W->ent2 W' top c=0->W'=W/\ ∀q,i<=q->q<h->ent2 W q c=0:=by
 induction hE with
 |done h0=>exact fun _ _ _=>⟨rfl,fun q h1 h2=>by omega⟩
 | @next i W W1 W' h0 hE _ ih=>
  intro hti hW hz
  obtain⟨e1,e2⟩:=ih om (hE.ws hti h0 hW) hz
  obtain⟨e3,e4⟩:=hE.keep hti h0 hW (by rw[<-e1];exact hz)
  refine⟨by rw[e1,e3],fun q h1 h2=> ?_⟩
  by_cases e:q=i
  ·rw[e];exact e4
  ·rw[<-e3];exact e2 q om h2
structure ColI(h w c top G:Nat)(p:Nat->Nat)(A W:List (List Int)):Prop where
 ws:WS h w W
 hs:HS h w c top p W
 lin:LinI h w A W
 bd: ∃K,Gb h W (fun _=>4294967296^K) (fun _=>4294967296^K)/\(K+1)*fact (h-top+1)<=G
theorem gB_const{B n:Nat}:gB top B (B*(12*B)^(n-n))=fun _=>B:=by
 funext q
 unfold gB
 rw[Nat.sub_self,Nat.pow_zero,zn8]
 split<;>rfl
theorem ColI.row0{K:Nat}(hI:ColI h w c top G p A W)(hG:Gb h W (fun _=>4294967296^K) (fun _=>4294967296^K)):RowI h w c top (4294967296^K) (4294967296^K) (4294967296^K) (top+1) W:=
 ⟨hI.ws,by rw[gB_const];exact hG,fun q _ h2=>hG.m q c h2,fun q h1 h2 _=>by omega⟩
theorem ColI.skip(hI:ColI h w c top G p A W)(hc:c<w)(hE:RowsE h c top (top+1) W W1)(h0:ent2 W1 top c=0):W1=W/\ColI h w (c+1) top G p A W:=by
 obtain⟨e1,e2⟩:=hE.keep om hI.ws h0
 refine⟨e1,hI.ws,⟨hI.hs.th,hc,fun i hi=>Nat.lt_succ_of_lt (hI.hs.pc i hi),hI.hs.pos,hI.hs.lead,hI.hs.inc,hI.hs.red,fun q h1 h2 t ht=> ?_⟩,hI.lin,hI.bd⟩
 by_cases e:t=c
 ·rw[e]
  by_cases e3:q=top
  ·rw[e3,<-e1];exact h0
  ·exact e2 q om h2
 ·exact hI.hs.zero q h1 h2 t om
theorem pow12(K:Nat):12*4294967296^K<=4294967296^(K+1):=by
 rw[Nat.pow_succ]
 generalize 4294967296^K=T
 omega
theorem bd_rows(K n:Nat):4294967296^K*(12*4294967296^K)^n<=4294967296^(K+(K+1)*n):=by
 rw[Nat.pow_add,Nat.pow_mul]
 exact Nat.mul_le_mul_left _ (Nat.pow_le_pow_left (pow12 K) n)
theorem pow_ge1(K:Nat):1<=4294967296^K:=Nat.pow_pos om
theorem bd_col{K n B1:Nat}(hh:top+n+1<=1000000)(h1:B1=4294967296^K*(12*4294967296^K)^n):
  4294967296^K<=B1/\B1<=4294967296^(1+2*K+(K+1)*n)/\4294967296^K+4294967296^K*B1<=4294967296^(1+2*K+(K+1)*n)/\ ∀t,t<=top->B1+t*(4294967296^K*4294967296^K)<=4294967296^(1+2*K+(K+1)*n):=by
 have e1:=bd_rows K n
 have e2:4294967296^(1+2*K+(K+1)*n)=4294967296*(4294967296^K*4294967296^(K+(K+1)*n)):=by
  rw[<-Nat.pow_add,show 1+2*K+(K+1)*n=(K+(K+(K+1)*n))+1 by omega,Nat.pow_succ,Nat.mul_comm]
 have hT:=pow_ge1 K
 have hP:1<=(12*4294967296^K)^n:=Nat.pow_pos om
 have e3:4294967296^K<=B1:=by rw[h1];exact Nat.le_mul_of_pos_right _ hP
 rw[<-h1]at e1
 rw[e2]
 generalize 4294967296^(K+(K+1)*n)=Y at*
 generalize 4294967296^K=T at*
 clear h1 e2 hP
 have k1:T*B1<=T*Y:=Nat.mul_le_mul_left T e1
 have k2:T*T<=T*Y:=Nat.mul_le_mul_left T om
 have k3:B1<=T*B1:=Nat.le_mul_of_pos_left _ om
 have k4:T<=T*B1:=Nat.le_mul_of_pos_right _ om
 refine⟨e3,by omega,by omega,fun t ht=> ?_⟩
 have k5:t*(T*T)<=1000000*(T*T):=Nat.mul_le_mul_right _ om
 omega
theorem neg_fix(hW:WS h w W1)(ht:top<h)(h0:ent2 W1 top c≠0)(hz: ∀t,t<c->ent2 W1 top t=0)(hL:LinI h w A W1){bM bV:Nat->Nat}(hG:Gb h W1 bM bV):
  WS h w (if ent2 W1 top c<0 then negW h top W1 else W1)/\LinI h w A (if ent2 W1 top c<0 then negW h top W1 else W1)/\Gb h (if ent2 W1 top c<0 then negW h top W1 else W1) bM bV/\0<ent2 (if ent2 W1 top c<0 then negW h top W1 else W1) top c/\(∀t,t<c->ent2 (if ent2 W1 top c<0 then negW h top W1 else W1) top t=0)/\ ∀q,q<h->q≠top-> ∀t,ent2 (if ent2 W1 top c<0 then negW h top W1 else W1) q t=ent2 W1 q t:=by
 by_cases hs:ent2 W1 top c<0
 ·rw[if_pos hs]
  refine⟨negW_ws hW ht,hL.neg hW ht,hG.neg hW ht,?_,fun t h1=> ?_,fun q hq h1 t=> ?_⟩
  ·rw[negW_ent hW ht om,if_pos (.inl rfl)];omega
  ·rw[negW_ent hW ht om,if_pos (.inl rfl),hz t h1];rfl
  ·rw[negW_ent hW ht om,if_neg om]
 ·rw[if_neg hs]
  exact⟨hW,hL,hG,by omega,hz,fun q _ _ t=>rfl⟩
theorem ColI.red0{K:Nat}(hI:ColI h w c top G p A W)(hG:Gb h W (fun _=>4294967296^K) (fun _=>4294967296^K))(ht:top<h)(hE:RowsE h c top (top+1) W W1)(h0:ent2 W1 top c≠0)(hh:h<=1000000):
  (∀t,t<c->ent2 W1 top t=0)/\0<ent2 (if ent2 W1 top c<0 then negW h top W1 else W1) top c/\(∀t,t<c->ent2 (if ent2 W1 top c<0 then negW h top W1 else W1) top t=0)/\
  RedI h w c top (4294967296^K) (4294967296^K*(12*4294967296^K)^(h-(top+1))) 0 (if ent2 W1 top c<0 then negW h top W1 else W1) (if ent2 W1 top c<0 then negW h top W1 else W1)/\LinI h w A (if ent2 W1 top c<0 then negW h top W1 else W1):=by
 have hR:=hE.row (pow_ge1 K) om om (hI.row0 hG)
 have hz: ∀t,t<c->ent2 W1 top t=0:=fun t h1=>hE.left om hI.ws (fun q h2 h3=>hI.hs.zero q h2 h3 t h1) top (znb _) ht
 obtain⟨f1,f2,f3,f4,f5,f6⟩:=neg_fix hR.ws ht h0 hz (hE.lin om hI.ws hI.lin) hR.bd
 obtain⟨b1,_⟩:=bd_col (top:=top) (K:=K) (n:=h-(top+1)) om rfl
 refine⟨hz,f4,f5,⟨f1,f3.mono (fun q hq=> ?_) (fun q hq=> ?_),fun _ _ _ _=>rfl,fun _ _ _ _=>rfl,fun q h1=>by omega⟩,f2⟩
 ·show(if q<top then 4294967296^K else(4294967296^K*(12*4294967296^K)^(h-(top+1))))<=(if q<0 then 4294967296^K+4294967296^K*(4294967296^K*(12*4294967296^K)^(h-(top+1)))else if q<top then 4294967296^K else(4294967296^K*(12*4294967296^K)^(h-(top+1))))
  rw[if_neg (show¬q<0 by omega)]
  exact znb _
 ·show(if q<top then 4294967296^K else(4294967296^K*(12*4294967296^K)^(h-(top+1))))<=(if q<top then 4294967296^K else if q=top then(4294967296^K*(12*4294967296^K)^(h-(top+1)))+0*(4294967296^K*4294967296^K)else(4294967296^K*(12*4294967296^K)^(h-(top+1))))
  rw[Nat.zero_mul,Nat.add_zero]
  by_cases e:q<top
  ·rw[if_pos e,if_pos e];exact znb _
  ·rw[if_neg e,if_neg e]
   split<;>exact znb _
theorem RedI.bd1{K n:Nat}{Z:List (List Int)}{i:Nat}(hn:n=h-(top+1))(ht:top<h)(hh:h<=1000000)(hi:i<=top)(hR:RedI h w c top (4294967296^K) (4294967296^K*(12*4294967296^K)^n) i Z W):
  Gb h W (fun _=>4294967296^(1+2*K+(K+1)*n)) (fun _=>4294967296^(1+2*K+(K+1)*n)):=by
 obtain⟨b1,b2,b3,b4⟩:=bd_col (top:=top) (K:=K) (n:=n) om rfl
 refine hR.bd.mono (fun q hq=> ?_) (fun q hq=> ?_)
 ·split
  ·exact b3
  ·split
   ·exact Nat.le_trans b1 b2
   ·exact b2
 ·split
  ·exact Nat.le_trans b1 b2
  ·split
   ·exact b4 i hi
   ·exact b2
theorem ColI.piv(hI:ColI h w c top G p A W)(hc:c<w)(ht:top<h)(hE:RowsE h c top (top+1) W W1)(h0:ent2 W1 top c≠0)(hh:h<=1000000):
  ColI h w (c+1) (top+1) G (upd p top c) A (redW h c top top 0 (if ent2 W1 top c<0 then negW h top W1 else W1)):=by
 obtain⟨K,hG,hK⟩:=hI.bd
 obtain⟨r1,r2,r3,r4,r5⟩:=hI.red0 hG ht hE h0 hh
 have hab: ∀q,q<top-> ∀t,ent2 W1 q t=ent2 W q t:=fun q hq t=>hE.above om hI.ws q hq t
 have hR:=hE.row (pow_ge1 K) om om (hI.row0 hG)
 obtain⟨f1,f2,f3,f4,f5,f6⟩:=neg_fix hR.ws ht h0 r1 (hE.lin om hI.ws hI.lin) hR.bd
 generalize(if ent2 W1 top c<0 then negW h top W1 else W1)=Z at*
 have hF:=redW_inv ht r2 r3 top om r4
 have hL:=redW_lin (c:=c) ht top (i:=0) om f1 r5
 have hlow: ∀q,top<=q->q<h-> ∀t,t<c->ent2 Z q t=0:=fun q h1 h2 t h3=>by
  by_cases e:q=top
  ·rw[e];exact r3 t h3
  ·rw[f6 q h2 e];exact hE.left om hI.ws (fun q h4 h5=>hI.hs.zero q h4 h5 t h3) q h1 h2
 have hcol: ∀q,top<q->q<h->ent2 Z q c=0:=fun q h1 h2=>by rw[f6 q h2 om];exact hR.zer q h1 h2 h2
 have hB:=hF.bd1 rfl ht hh (znb _)
 generalize redW h c top top 0 Z=Y at*
 have eY: ∀q,q<top-> ∀t,t<c->ent2 Y q t=ent2 W q t:=fun q h1 t h2=>by rw[hF.left q om t h2,f6 q om om,hab q h1]
 have eT: ∀q,top<=q->q<h-> ∀t,ent2 Y q t=ent2 Z q t:=fun q h1 h2 t=>hF.row q h2 h1 t
 have hu: ∀i,i<top->upd p top c i=p i:=fun i hi=>if_neg om
 have hut:upd p top c top=c:=if_pos rfl
 refine⟨hF.ws,⟨by omega,hc,fun i hi=> ?_,fun i hi=> ?_,fun i hi j hj=> ?_,fun i k h1 h2=> ?_,fun i k h1 h2=> ?_,fun q h1 h2 t h3=> ?_⟩,hL,⟨_,hB,?_⟩⟩
 ·by_cases e:i=top
  ·rw[e,hut];omega
  ·rw[hu i om];have:=hI.hs.pc i om;omega
 ·by_cases e:i=top
  ·rw[e,hut,eT top (znb _) ht];exact r2
  ·rw[hu i om,eY i om _ (hI.hs.pc i om)];exact hI.hs.pos i om
 ·by_cases e:i=top
  ·rw[e,hut]at hj
   rw[e,eT top (znb _) ht];exact r3 j hj
  ·rw[hu i om]at hj
   have:=hI.hs.pc i om
   rw[eY i om j om];exact hI.hs.lead i om j hj
 ·by_cases e:k=top
  ·rw[e,hut,hu i om];exact hI.hs.pc i om
  ·rw[hu k om,hu i om];exact hI.hs.inc i k h1 om
 ·by_cases e:k=top
  ·rw[e,hut,eT top (znb _) ht];exact hF.red i om
  ·have:=hI.hs.pc k om
   rw[hu k om,eY i om _ this,eY k om _ this];exact hI.hs.red i k h1 om
 ·rw[eT q om h2]
  by_cases e:t=c
  ·rw[e];exact hcol q om h2
  ·exact hlow q om h2 t om
 ·have e1:1+2*K+(K+1)*(h-(top+1))+1=(K+1)*(h-top+1):=by
   obtain⟨n,hn⟩: ∃n,h=top+1+n:=⟨h-(top+1),by omega⟩
   subst hn
   rw[show top+1+n-(top+1)=n by omega,show top+1+n-top+1=n+2 by omega,Nat.mul_add (K+1) n 2];omega
  rw[e1,show h-(top+1)+1=h-top by omega,Nat.mul_assoc]
  have e2:fact (h-top+1)=(h-top+1)*fact (h-top):=rfl
  rw[<-e2];exact hK
theorem ColsE.ex(hh:h<=1000000): ∀(n:Nat) {c top:Nat} {p:Nat->Nat} {W:List (List Int)},w-c<=n->ColI h w c top G p A W-> ∃W',ColsE h w c top W W'
 |0,c,top,p,W,hn,_=>⟨W,.done om⟩
 | n+1,c,top,p,W,hn,hI=>by
  by_cases hd:c<w/\top<h
  ·obtain⟨K,hG,hK⟩:=hI.bd
   obtain⟨W1,hE⟩:=RowsE.ex (pow_ge1 K) h om om (hI.row0 hG)
   by_cases h0:ent2 W1 top c=0
   ·obtain⟨e,hI2⟩:=hI.skip hd.1 hE h0
    obtain⟨W',hW'⟩:=ColsE.ex hh n om (e▸hI2)
    exact⟨W',.skip hd.1 hd.2 hE h0 hW'⟩
   ·obtain⟨W',hW'⟩:=ColsE.ex hh n om (hI.piv hd.1 hd.2 hE h0 hh)
    exact⟨W',.piv hd.1 hd.2 hE h0 hW'⟩
  ·exact⟨W,.done hd⟩
theorem ColsE.inv(hh:h<=1000000)(hE:ColsE h w c top W W'): ∀{p:Nat->Nat},ColI h w c top G p A W-> ∃c' top' p',¬(c'<w/\top'<h)/\ColI h w c' top' G p' A W':=by
 induction hE with
 |done h0=>exact fun hI=>⟨_,_,_,h0,hI⟩
 |skip hc ht hE h0 _ ih=>
  intro p hI
  obtain⟨e,hI2⟩:=hI.skip hc hE h0
  exact ih (e▸hI2)
 |piv hc ht hE h0 _ ih=>exact fun hI=>ih (hI.piv hc ht hE h0 hh)
end
end
section
structure Sh(h w:Nat)(M:List (List Int)):Prop where
 len:M.length=h
 row: ∀r,r<h->(M.getD r []).length=w
structure OkI(h:Nat)(o:OpL):Prop where
 i:o.i<h
 c:(o.kd=1/\o.j<h/\o.i≠o.j/\o.k=0)\/(o.kd=2/\o.j=0/\o.k=0)\/(o.kd=3/\o.j<h/\o.i≠o.j)
section
variable {h w r c:Nat} {M M':List (List Int)} {o:OpL}
theorem sh_ent(hM:Sh h w M)(ho:OkI h o){q t:Nat}(hq:q<h):
  ent2 (actO M o) q t=if o.kd=1 then(if q=o.j then ent2 M o.i t else if q=o.i then ent2 M o.j t else ent2 M q t)else if o.kd=2 then(if q=o.i then-(ent2 M q t)else ent2 M q t)else(if q=o.i then ent2 M q t+o.k*ent2 M o.j t else ent2 M q t):=by
 have hl:=hM.len
 have hi:=ho.i
 unfold actO
 by_cases h1:o.kd=1
 ·have hj:o.j<h:=by rcases ho.c with⟨_,hj,_⟩|⟨e,_⟩|⟨e,_⟩<;>omega
  rw[if_pos h1,if_pos h1]
  unfold ent2
  rw[swapI_get om om]
  by_cases a:q=o.j
  ·rw[if_pos a,if_pos a]
  ·rw[if_neg a,if_neg a]
   by_cases b:q=o.i
   ·rw[if_pos b,if_pos b]
   ·rw[if_neg b,if_neg b]
 ·rw[if_neg h1,if_neg h1]
  by_cases h2:o.kd=2
  ·rw[if_pos h2,if_pos h2]
   unfold ent2
   rw[getD_set om]
   by_cases b:q=o.i
   ·rw[if_pos b,if_pos b,negI_getD,b]
   ·rw[if_neg b,if_neg b]
  ·have hj:o.j<h:=by rcases ho.c with⟨_,hj,_⟩|⟨e,_⟩|⟨e,hj,_⟩<;>omega
   rw[if_neg h2,if_neg h2]
   unfold ent2
   rw[getD_set om]
   by_cases b:q=o.i
   ·rw[if_pos b,if_pos b,addI_getD (by rw[hM.row _ hi,hM.row _ hj]),b]
   ·rw[if_neg b,if_neg b]
theorem sh_act(hM:Sh h w M)(ho:OkI h o):Sh h w (actO M o):=by
 have hl:=hM.len
 have hi:=ho.i
 refine⟨by rw[actO_len,hl],fun q hq=> ?_⟩
 unfold actO
 by_cases h1:o.kd=1
 ·have hj:o.j<h:=by rcases ho.c with⟨_,hj,_⟩|⟨e,_⟩|⟨e,_⟩<;>omega
  rw[if_pos h1,swapI_get om om]
  repeat' split
  ·exact hM.row _ hi
  ·exact hM.row _ hj
  ·exact hM.row _ hq
 ·rw[if_neg h1]
  by_cases h2:o.kd=2
  ·rw[if_pos h2,getD_set om]
   split
   ·rw[negI_len];exact hM.row _ hi
   ·exact hM.row _ hq
  ·rw[if_neg h2,getD_set om]
   split
   ·rw[addI_len];exact hM.row _ hi
   ·exact hM.row _ hq
def Bd(h N:Nat)(M:List (List Int)):Prop:= ∀q t,q<h->(ent2 M q t).natAbs<=N
theorem bd_act{N:Nat}(hM:Sh h w M)(ho:OkI h o)(hB:Bd h N M):Bd h (N*(1+o.k.natAbs)) (actO M o):=by
 intro q t hq
 have hi:=ho.i
 have hN:N<=N*(1+o.k.natAbs):=Nat.le_mul_of_pos_right _ om
 rw[sh_ent hM ho hq]
 by_cases h1:o.kd=1
 ·have hj:o.j<h:=by rcases ho.c with⟨_,hj,_⟩|⟨e,_⟩|⟨e,_⟩<;>omega
  rw[if_pos h1]
  repeat' split
  ·exact Nat.le_trans (hB _ t hi) hN
  ·exact Nat.le_trans (hB _ t hj) hN
  ·exact Nat.le_trans (hB _ t hq) hN
 ·rw[if_neg h1]
  by_cases h2:o.kd=2
  ·rw[if_pos h2]
   split
   ·rw[Int.natAbs_neg];exact Nat.le_trans (hB _ t hq) hN
   ·exact Nat.le_trans (hB _ t hq) hN
  ·have hj:o.j<h:=by rcases ho.c with⟨_,hj,_⟩|⟨e,_⟩|⟨e,hj,_⟩<;>omega
   rw[if_neg h2]
   split
   ·have:=abs_addmul (hB q t hq) (hB o.j t hj) (znb o.k.natAbs)
    rw[Nat.mul_add,zn8,Nat.mul_comm N];exact this
   ·exact Nat.le_trans (hB _ t hq) hN
def prd:List OpL->Nat
 |[]=>1
 |o::l=>(1+o.k.natAbs)*prd l
theorem prd_pos: ∀l:List OpL,1<=prd l
 |[]=>znb _
 |o::l=>Nat.mul_le_mul (show 1<=1+o.k.natAbs by omega) (prd_pos l)
theorem prd_app: ∀l m:List OpL,prd (l++m)=prd l*prd m
 |[],m=>by rw[zl7,prd,zna]
 |o::l,m=>by rw[zl8,prd,prd,prd_app l m,Nat.mul_assoc]
theorem prd_take(l:List OpL)(i:Nat):prd (l.take i)<=prd l:=by
 have h:=prd_app (l.take i) (l.drop i)
 rw[List.take_append_drop]at h
 rw[h];exact Nat.le_mul_of_pos_right _ (prd_pos _)
def leastT(M:List (List Int))(c r:Nat):Nat->Option Nat
 |0=>none
 |t+1=>match leastT M c r t with
  |none=>if ent2 M (r+t) c=0 then none else some (r+t)
  |some a=>if ent2 M (r+t) c≠0/\(ent2 M (r+t) c).natAbs<(ent2 M a c).natAbs then some (r+t)else some a
theorem least_none: ∀{t:Nat},leastT M c r t=none-> ∀k,r<=k->k<r+t->ent2 M k c=0
 |0,_,k,h1,h2=>by omega
 | t+1,h,k,h1,h2=>by
  unfold leastT at h
  split at h
  ·rename_i hn
   split at h
   ·rename_i h0
    by_cases e:k=r+t
    ·rw[e];exact h0
    ·exact least_none hn k h1 om
   ·cases h
  ·split at h<;>cases h
theorem least_some: ∀{t a:Nat},leastT M c r t=some a->r<=a/\a<r+t/\ent2 M a c≠0/\ ∀k,r<=k->k<r+t->ent2 M k c=0\/(ent2 M a c).natAbs<=(ent2 M k c).natAbs
 |0,a,h=>by cases h
 | t +1,a,h=>by
  unfold leastT at h
  split at h
  ·rename_i hn
   split at h
   ·cases h
   ·rename_i h0
    cases h
    refine⟨by omega,by omega,h0,fun k h1 h2=> ?_⟩
    by_cases e:k=r+t
    ·rw[e];exact .inr (znb _)
    ·exact .inl (least_none hn k h1 om)
  ·rename_i b hs
   obtain⟨b1,b2,b3,b4⟩:=least_some hs
   split at h
   ·rename_i hc
    cases h
    refine⟨by omega,by omega,hc.1,fun k h1 h2=> ?_⟩
    by_cases e:k=r+t
    ·rw[e];exact .inr (znb _)
    ·rcases b4 k h1 om with e2|e2
     ·exact .inl e2
     ·exact .inr om
   ·rename_i hc
    cases h
    refine⟨b1,by omega,b3,fun k h1 h2=> ?_⟩
    by_cases e:k=r+t
    ·rw[e]
     by_cases h0:ent2 M (r+t) c=0
     ·exact .inl h0
     ·exact .inr (Nat.le_of_not_lt fun hl=>hc ⟨h0,hl⟩)
    ·exact b4 k h1 om
theorem least_uniq{t a:Nat}(h1:r<=a)(h2:a<r+t)(h3:ent2 M a c≠0)(h4: ∀k,r<=k->k<r+t->k≠a->ent2 M k c=0\/(ent2 M a c).natAbs<(ent2 M k c).natAbs):leastT M c r t=some a:=by
 cases hl:leastT M c r t with
 |none=>exact absurd (least_none hl a h1 h2) h3
 | some b=>
  obtain⟨b1,b2,b3,b4⟩:=least_some hl
  by_cases e:b=a
  ·rw[e]
  ·rcases h4 b b1 b2 e with h|h
   ·exact absurd h b3
   ·rcases b4 a h1 h2 with h'|h'
    ·exact absurd h' h3
    ·omega
theorem least_first: ∀{t:Nat},0<t->ent2 M r c≠0->(∀k,r<k->k<r+t->ent2 M k c=0\/(ent2 M r c).natAbs<=(ent2 M k c).natAbs)->leastT M c r t=some r
 |0,h,_,_=>by omega
 |1,_,h0,_=>by
  unfold leastT leastT
  simp only[Nat.add_zero]
  rw[if_neg h0]
 |t+2,_,h0,h4=>by
  rw[leastT,least_first (t:=t+1) om h0 fun k h1 h2=>h4 k h1 om]
  simp only
  rw[if_neg]
  rintro⟨a,b⟩
  rcases h4 (r+(t+1)) om om with h|h
  ·exact a h
  ·omega
def nearI(x p:Int):Int:=(x+x+p)/(p+p)
theorem near_spec{x p:Int}(hp:0<p):2*(x-nearI x p*p).natAbs<=p.natAbs/\2*((nearI x p).natAbs*p.natAbs)<=2*x.natAbs+p.natAbs:=by
 have h1:=Int.emod_nonneg (x+x+p) (show p+p≠0 by omega)
 have h2:=Int.emod_lt_of_pos (x+x+p) (show 0<p+p by omega)
 have h3:=Int.mul_ediv_add_emod (x+x+p) (p+p)
 unfold nearI
 generalize(x+x+p)/(p+p)=q at*
 generalize(x+x+p) % (p+p)=s at*
 have h4:(p+p)*q=2*(q*p):=by rw[Int.add_mul,Int.mul_comm p q];omega
 rw[h4]at h3
 have h5:q.natAbs*p.natAbs=(q*p).natAbs:=(Int.natAbs_mul q p).symm
 rw[h5]
 generalize q*p=z at*
 omega
inductive Nx(h r c:Nat)(M:List (List Int)):OpL->Prop
 |swap {i:Nat}:leastT M c r (h-r)=some i->i≠r->Nx h r c M ⟨1,r,i,0⟩
 |neg:leastT M c r (h-r)=some r->ent2 M r c<0->Nx h r c M ⟨2,r,0,0⟩
 |low {k:Nat}:leastT M c r (h-r)=some r->0<ent2 M r c->r<k->k<h->ent2 M k c≠0->(∀j,r<j->j<k->ent2 M j c=0)->Nx h r c M ⟨3,k,r,-(nearI (ent2 M k c) (ent2 M r c))⟩
 |up {k:Nat}:leastT M c r (h-r)=some r->0<ent2 M r c->(∀j,r<j->j<h->ent2 M j c=0)->k<r->ent2 M k c/ent2 M r c≠0->(∀j,j<k->ent2 M j c/ent2 M r c=0)->Nx h r c M ⟨3,k,r,-(ent2 M k c/ent2 M r c)⟩
def NxNo(h r c:Nat)(M:List (List Int)):Prop:=
 leastT M c r (h-r)=none\/(leastT M c r (h-r)=some r/\0<ent2 M r c/\(∀j,r<j->j<h->ent2 M j c=0)/\ ∀j,j<r->ent2 M j c/ent2 M r c=0)
theorem Nx.ok(hx:Nx h r c M o)(hr:r<h):OkI h o:=by
 cases hx with
 |swap h1 h2=>obtain⟨a,b,_,_⟩:=least_some h1;exact⟨hr,.inl ⟨rfl,by simp only;omega,fun e=>h2 e.symm,rfl⟩⟩
 |neg=>exact⟨hr,.inr (.inl ⟨rfl,rfl,rfl⟩)⟩
 |low _ _ h1 h2=>exact⟨h2,.inr (.inr ⟨rfl,hr,by simp only;omega⟩)⟩
 |up _ _ _ h1=>exact⟨by simp only;omega,.inr (.inr ⟨rfl,hr,by simp only;omega⟩)⟩
inductive Path(h r c:Nat):List (List Int)->List OpL->List (List Int)->Prop
 |nil {M:List (List Int)}:Path h r c M [] M
 |cons {M M':List (List Int)} {o:OpL} {l:List OpL}:Nx h r c M o->Path h r c (actO M o) l M'->Path h r c M (o::l) M'
theorem Path.app{M M1 M2:List (List Int)}{l m:List OpL}(hp:Path h r c M l M1):Path h r c M1 m M2->Path h r c M (l++m) M2:=by
 induction hp with
 |nil=>exact id
 |cons hx _ ih=>exact fun hq=> .cons hx (ih hq)
theorem Path.acts{l:List OpL}(hp:Path h r c M l M'):M'=actsO M l:=by
 induction hp with
 |nil=>rfl
 |cons _ _ ih=>exact ih
theorem Path.ok{l:List OpL}(hp:Path h r c M l M')(hr:r<h): ∀o∈l,OkI h o:=by
 induction hp with
 |nil=>intro o ho;cases ho
 |cons hx _ ih=>
  intro o ho
  rcases List.mem_cons.1 ho with rfl|ho
  ·exact hx.ok hr
  ·exact ih o ho
theorem acts_sh{l:List OpL}: ∀{M:List (List Int)},Sh h w M->(∀o∈l,OkI h o)->Sh h w (actsO M l):=by
 induction l with
 |nil=>exact fun hM _=>hM
 |cons o l ih=>exact fun hM ho=>ih (sh_act hM (ho o (by simp))) fun p hp=>ho p (by simp[hp])
theorem acts_bd{l:List OpL}: ∀{M:List (List Int)} {N:Nat},Sh h w M->(∀o∈l,OkI h o)->Bd h N M->Bd h (N*prd l) (actsO M l):=by
 induction l with
 |nil=>exact fun _ _ hB=>by rw[prd,zn8];exact hB
 |cons o l ih=>
  intro M N hM ho hB
  have:=ih (sh_act hM (ho o (by simp))) (fun p hp=>ho p (by simp[hp])) (bd_act hM (ho o (by simp)) hB)
  rw[Nat.mul_assoc]at this
  exact this
theorem Nx.left(hx:Nx h r c M o)(hr:r<h)(hM:Sh h w M){t:Nat}(hz: ∀q,r<=q->q<h->ent2 M q t=0){q:Nat}(hq:q<h):ent2 (actO M o) q t=ent2 M q t:=by
 rw[sh_ent hM (hx.ok hr) hq]
 cases hx with
 | @swap i h1 h2=>
  obtain⟨a,b,_,_⟩:=least_some h1
  rw[if_pos rfl]
  have hi:i<h:=by omega
  simp only
  by_cases e1:q=i
  ·rw[if_pos e1,hz r (znb _) hr,e1,hz i a hi]
  ·rw[if_neg e1]
   by_cases e2:q=r
   ·rw[if_pos e2,hz i a hi,e2,hz r (znb _) hr]
   ·rw[if_neg e2]
 |neg h1 h2=>
  rw[if_neg (by simp),if_pos rfl]
  simp only
  split
  ·rename_i e;rw[e,hz r (znb _) hr];rfl
  ·rfl
 |low=>
  rw[if_neg (by simp),if_neg (by simp)]
  simp only
  rw[hz r (znb _) hr,Int.mul_zero,Int.add_zero];split<;>rfl
 |up=>
  rw[if_neg (by simp),if_neg (by simp)]
  simp only
  rw[hz r (znb _) hr,Int.mul_zero,Int.add_zero];split<;>rfl
theorem Path.left{l:List OpL}(hp:Path h r c M l M')(hr:r<h){t:Nat}:Sh h w M->(∀q,r<=q->q<h->ent2 M q t=0)-> ∀q,q<h->ent2 M' q t=ent2 M q t:=by
 induction hp with
 |nil=>exact fun _ _ _ _=>rfl
 |cons hx _ ih=>
  intro hM hz q hq
  rw[ih (sh_act hM (hx.ok hr)) (fun q h1 h2=>by rw[hx.left hr hM hz h2];exact hz q h1 h2) q hq,hx.left hr hM hz hq]
end
end
end Go.Proofs.YtannldafjkjjbaaGreat
