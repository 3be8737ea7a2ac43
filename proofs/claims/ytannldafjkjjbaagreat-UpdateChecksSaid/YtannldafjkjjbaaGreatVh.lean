/- Texts joined: Ri Rj Rk Tt Tl Ia Tf Tg Tw Ib Ie Rl Rm Rn Ro Rp Rq Ha Hb Hc. -/
import Derived.Test.YtannldafjkjjbaaGreatVe
import Derived.Test.YtannldafjkjjbaaGreatVf
import Derived.Test.YtannldafjkjjbaaGreatVg
set_option linter.all false
set_option maxHeartbeats 16000000
open Nat renaming reduceEqDiff → zn1, reduceLT → zn2, reduceLeDiff → zn3, reduceAdd → zn4, reduceMul → zn5, reduceSub → zn6, reduceBEq → zn7, mul_one → zn8, zero_add → zn9, one_mul → zna, le_refl → znb, zero_le → znc, add_sub_cancel_left → znd, sub_eq_zero_of_le → zne, add_assoc → znf
open Int renaming reduceToNat → zi1, reducePow → zi2
open List renaming length_append → zl1, drop_zero → zl2, take_succ_cons → zl3, take_zero → zl4, getElem?_drop → zl5, append_assoc → zl6, nil_append → zl7, cons_append → zl8, drop_succ_cons → zl9, take_of_length_le → zla, getElem?_eq_getElem → zlb, getElem?_eq_some_iff → zlc, map_cons → zld, map_nil → zle, all_eq_true → zlf
namespace Go.Proofs.YtannldafjkjjbaaGreat
section
open Go.RowKit
theorem actsO_drop{l:List OpL}{i:Nat}{M:List (List Int)}(h:i<l.length):actsO M (l.drop i)=actsO (actO M (l.getD i ⟨0,0,0,0⟩)) (l.drop (i+1)):=by rw[List.drop_eq_getElem_cons h,actsO,List.getD_eq_getElem?_getD,zlb h];rfl
theorem ivR_same{l:List Int}{i:Nat}(h:i<l.length):setAll (ivR l) (i*2) (ivC (l.getD i 0))=ivR l:=by rw[ivR_set _ h];congr 1;rw[List.getD_eq_getElem?_getD,zlb h];exact List.set_getElem_self h
theorem pre2{n m:Nat}{b c:Blk}(hb:b.cs.all clS=true)(hc:c.cs.all clS=true): ∀i k,hget [(n,b),(m,c)] i=some k->k.cs.all clS=true:=λi k h=>by
 simp only[hget]at h;split at h;·cases h;exact hb
 ·split at h;·cases h;exact hc
  ·cases h
theorem pre3{n m q:Nat}{b c d:Blk}(hb:b.cs.all clS=true)(hc:c.cs.all clS=true)(hd:d.cs.all clS=true): ∀i k,hget [(n,b),(m,c),(q,d)] i=some k->k.cs.all clS=true:=λi k h=>by
 simp only[hget]at h;split at h;·cases h;exact hb
 ·split at h;·cases h;exact hc
  ·split at h;·cases h;exact hd
   ·cases h
theorem acts_snoc: ∀(l:List OpL) (o:OpL) (M:List (List Int)),actsO M (l++ [o])=actO (actsO M l) o
 |[],_,_=>rfl
 |p::l,o,M=>by rw[zl8,actsO,actsO,acts_snoc l o]
theorem acts_succ{l:List OpL}{i:Nat}(h:i<l.length){M:List (List Int)}:actsO M (l.take (i+1))=actO (actsO M (l.take i)) (l.getD i ⟨0,0,0,0⟩):=by rw[List.take_succ_eq_append_getElem h,acts_snoc,List.getD_eq_getElem?_getD,zlb h];rfl
set_option maxRecDepth 8000 in
theorem iapply_s{h w K:Nat}{M:List (List Int)}{l:List OpL}(hM:MI h w K M)(hl: ∀o∈l,OkOp h o)(hS: ∀i,i<=l.length->MI h w K (actsO M (l.take i)))(hK:K<=90000000000)(hll:l.length<=1000000000)(hn:h<=1000000)(hw:w<=1000000):
  Spec Tryz.prog 48 [.im (opsC l) l.length,mat w M] (.tu [mat w (actsO M l),.sc (.int .i64 0)]):=by
 have hml:=hM.len;have c1:=imValid_s hM om hn hw;have c2:=ivalid_s hl hn om;have c3:=icopied_s hM (nx:=2) hn hw;have c4:=perfs_s;have e0:actsO M (l.drop 0)=actsO M l:=rfl;generalize hF:actsO M l=F at*;unfold mat mI at*;rw[hml]at c1 c3⊢;unfold perfs at c4;refine qF Tryz.func48 Tryz.ntmps48 λB hB=> ?_;refine qWD ?_;refine SO.inlQ qS Tab.go77 qS qS (SInlQ.newR c3 ?_ ?_ ?_);·exact klc om (klc om kln)
 ·exact λx hp' nx' h=>rowsI_new h
 rintro x hp' nx ⟨o,ids0,hR,rfl,rfl⟩;have ho:=hR.o1;have hI0:Ids o ids0 ids0 h nx:=⟨by rw[hR.len,hml],hR.nod,λi h=>h,λi h=>(hR.lt i h).2,hR.o1.2,hR.o2⟩
 rw[hml];refine qWD ?_;refine SC.loop (λx:Nat×List (List Int)×List Nat=>⟨[(3,.pt 0 0),(4,.pt 1 0),(6,.sl o 0 h 1 none),(7,.pt nx 0),(29,.im (opsC l) l.length),(30,.sc (.int .i64 l.length)),(31,.sc (.int .i64 x.1))],(nx,⟨125,[.sc .nilFunc,.sc (.func (.func 102) #[] #[]),.sc (.func (.func 103) #[] #[]),.sc (.func (.func 105) #[] #[])],false⟩)::(1,⟨28,[.sc (.int .i64 0),.sc (.int .i64 0),.sc (.slice none 0 0)],false⟩)::(0,⟨28,[.sc (.int .i64 h),.sc (.int .i64 w),.im (imR w (rI M)) h],false⟩)::(o,⟨41,slR 2 w x.2.2,false⟩)::rowsH 68 x.2.2 (rI x.2.1),nx+1,73⟩)
  (λx=>x.1<=l.length/\x.2.1=actsO M (l.take x.1)/\Ids o ids0 x.2.2 h nx/\actsO x.2.1 (l.drop x.1)=F) (λx=>l.length-x.1) (0,M,ids0) ?_ ?_ ?_
 ·exact qM
 ·exact⟨znc _,rfl,hI0,e0⟩
 ·rintro⟨i,A,ids⟩ ⟨hi,hAe,hI,hF2⟩ K2 hK2;simp only at hi hAe hI hF2⊢;have hA:=hS i hi;rw[<-hAe]at hA;by_cases hc:i<l.length
  ·have q1:=decide_eq_true (p:=(i:Int)<(l.length:Int)) om;have g1:=opsC_drop hc;have g2:i*5<(opsC l).length:=by rw[opsC_len];omega
   have hok:=hl _ (getD_mem (d:=⟨0,0,0,0⟩) hc);rw[actsO_drop hc]at hF2;have hA':=hS (i+1) om;rw[acts_succ hc,<-hAe]at hA';have hAe':actO A (l.getD i ⟨0,0,0,0⟩)=actsO M (l.take (i+1)):=by rw[acts_succ hc,<-hAe]
   have c5:=perf_s hA om (hI.more (Nat.le_add_right nx 2)) hok hn hw;have hnx2:nx+1+1=nx+2:=rfl;generalize hop:l.getD i ⟨0,0,0,0⟩=op at*;obtain⟨kd,a,b,k⟩:=op;generalize(opsC l).drop ((i+1)*5)=D at*;unfold opC at g1 c5;simp only[zl8,zl7]at g1 c5
   (repeat(first|refine DO.nilF (λi=>i+1-nx) (by simp(disch:=omega) only[go_sem,↓reduceIte,zn1,zn2,zn3,zn4,zn5,zn6,reduceCtorEq,zn7,zi1,zi2,if_pos,if_neg,Int.reduceAdd,zld,zle,Option.map_some,Option.map_none,znd,zne,znf]<;>rfl) (by kernel_rfl) ?_|(with_reducible refine SC.condB (qTf (Q3 @q1 @g1 @g2)) ?_;first|with_reducible refine pickT ?_|with_reducible refine pickF ?_)|(with_reducible refine qO ?_)|((with_reducible apply SC.region);(focus(simp(disch:=omega) only[go_sem,↓reduceIte,zn1,zn2,zn3,zn4,zn5,zn6,reduceCtorEq,zn7,zi1,zi2,if_pos,if_neg,Int.reduceAdd,q1,g1,g2];rfl)))|(with_reducible refine SC.draw Tab.mixed rfl ?_;(repeat(refine DO.run (qTf (Q3 @q1 @g1 @g2)) ?_));refine DO.nilF (λi=>i+1-nx) (by simp(disch:=omega) only[go_sem,↓reduceIte,zn1,zn2,zn3,zn4,zn5,zn6,reduceCtorEq,zn7,zi1,zi2,if_pos,if_neg,Int.reduceAdd,zld,zle,Option.map_some,Option.map_none,znd,zne,znf]<;>rfl) (by kernel_rfl) ?_)))
   refine SC.drawT 6 (by simp only[zl3,zl4];rfl) (by simp only[zl9,zl2];rfl) Tab.mixed ?_ (by kernel_rfl) ?_
   ·simp(disch:=omega) only[go_sem,↓reduceIte,zn1,zn2,zn3,zn4,zn5,zn6,reduceCtorEq,zn7,zi1,zi2,if_pos,if_neg,Int.reduceAdd];intro id q hq
    repeat' (split at hq)
    all_goals first|omega|exact klr (n:=nx+1+1) (λj hj=>by have:=hI.lt j hj;omega) id q hq
   obtain⟨_,_,hcs⟩:=hok;simp only at hcs;have hkd:kd=1\/kd=2\/kd=3:=by rcases hcs with⟨e,_⟩|⟨e,_⟩|⟨e,_⟩<;>omega
   clear hcs;rcases hkd with rfl|rfl|rfl
   all_goals
    refine qWD ?_;show SO _ _ _ _ _ _ _;refine SO.inlQ qS (by rfl) qS qS (SInlQ.part [(nx+1,_),(nx,_),(1,_),(0,_)] (inR o ids0) c5 ?_ ?_ ?_ ?_)
    ·refine λid k hk=> ?_;have hnot: ∀i,i<2\/nx<=i-> ¬inR o ids0 i:=by
      rintro i hi' (e|e);·omega
      ·have:=hR.lt i e;omega
     simp only[hget]at hk;refine hnot id ?_
     repeat' (first|(split at hk;first|omega|skip)|(cases hk;done))
    ·exact inR_rows hI.sub
    ·exact λx hp' nx' h=>actQ_part h
    rintro x hp' nx' ⟨ids',hI',rfl,rfl,rfl⟩;refine qWD ?_;have hI2:Ids o ids0 ids' h nx:=⟨hI'.len,hI'.nod,hI'.sub,λi hi'=>hI0.lt i (hI'.sub i hi'),hI0.o1,hI'.o2⟩
    refine hK2 _ (i+1,_,ids') ?_ ⟨by simp only;omega,hAe',hI2,hF2⟩ (by simp only;omega);refine Le.rowsDown [(nx,_),(1,_),(0,_)] (pre3 rfl rfl rfl) ⟨0,hB,znc _⟩ (by first|omega|(simp only;omega)) (λc hc=>by have:=hI2.lt c hc;first|omega|(simp only;omega)) (rI_clo _) (λid b hb=> ?_) ?_;·exact less_new (λid b hb=>hb) (λid b hb=>Nat.ne_of_lt (klc (Nat.lt_succ_self nx) (klc (show 1<nx+1 by omega) (klc (show 0<nx+1 by omega) (rows_lt (show o<nx+1 by omega) λc hc=>Nat.lt_succ_of_lt (hI2.lt c hc)))) id b hb)) id b hb
    ·exact qN
  ·have q1:=decide_eq_false (p:=(i:Int)<(l.length:Int)) om;have hil:i=l.length:=by omega
   have hAF:A=F:=by rw[<-hF2,hil,List.drop_length];rfl
   subst hAF;have hidl:=hI.len;have hal:=hA.len;have g1:=slR_len 2 w ids;rw[hidl]at g1;clear hK2 hF2 c1 c2 c3 c4 e0
   (repeat(first|refine DO.nilF (λi=>i+1-nx) (by simp(disch:=omega) only[go_sem,↓reduceIte,zn1,zn2,zn3,zn4,zn5,zn6,reduceCtorEq,zn7,zi1,zi2,if_pos,if_neg,Int.reduceAdd,zld,zle,Option.map_some,Option.map_none,znd,zne,znf]<;>rfl) (by kernel_rfl) ?_|(with_reducible refine SC.condB (qTf (Q2 @q1 @g1)) ?_;first|with_reducible refine pickT ?_|with_reducible refine pickF ?_)|(with_reducible refine qO ?_)|((with_reducible apply SC.region);(focus(simp(disch:=omega) only[go_sem,↓reduceIte,zn1,zn2,zn3,zn4,zn5,zn6,reduceCtorEq,zn7,zi1,zi2,if_pos,if_neg,Int.reduceAdd,q1,g1];rfl)))|(with_reducible refine SC.draw Tab.mixed rfl ?_;(repeat(refine DO.run (qTf (Q2 @q1 @g1)) ?_));refine DO.nilF (λi=>i+1-nx) (by simp(disch:=omega) only[go_sem,↓reduceIte,zn1,zn2,zn3,zn4,zn5,zn6,reduceCtorEq,zn7,zi1,zi2,if_pos,if_neg,Int.reduceAdd,zld,zle,Option.map_some,Option.map_none,znd,zne,znf]<;>rfl) (by kernel_rfl) ?_)))
   refine SC.loop (λi:Nat=>⟨[(3,.pt 0 0),(4,.pt 1 0),(6,.sl o 0 h 1 none),(43,.sl o 0 h 1 none),(44,.sc (.int .i64 h)),(45,.sc (.int .i64 i))],(1,⟨28,[.sc (.int .i64 0),.sc (.int .i64 0),.sc (.slice none 0 0)],false⟩)::(0,⟨28,[.sc (.int .i64 h),.sc (.int .i64 w),.im (imR w (rI M)) h],false⟩)::(o,⟨41,slR 2 w ids,false⟩)::rowsH 68 ids (rI A),nx,73⟩)
    (λi=>i<=h) (λi=>h-i) 0 ?_ ?_ ?_
   ·refine Le.rowsDown [(1,_),(0,_)] (pre2 rfl rfl) ⟨0,hB,znc _⟩ ho.2 hI.lt (rI_clo _) (λid b hb=> ?_) ?_;·exact less_new (λid b hb=>hb) (λid b hb=>Nat.ne_of_lt (klc (show 1<nx by omega) (klc (show 0<nx by omega) (rows_lt ho.2 hI.lt)) id b hb)) id b hb
    ·exact qN
   ·exact znc _
   ·intro i hi K3 hK3;by_cases hc2:i<h
    ·have q2:=decide_eq_true (p:=(i:Int)<(h:Int)) om;have gi:=slR_get (z:=2) (m:=w) (ids:=ids) (k:=i) om;have gR:=rows_get (ty:=68) (rs:=rI A) (k:=i) hI.nod om (by rw[rI_len];omega);rw[rI_getD]at gR;have hrs:=rows_set (ty:=68) (rs:=rI A) (k:=i) (r:=ivR (A.getD i [])) hI.nod om (by rw[rI_len];omega);rw[rI_set,setI_self om]at hrs;have hkl:=klB_rows (ty:=68) (rs:=rI A) (n:=nx+1) (λj hj=>by have:=hI.lt j hj;omega);have hmem:=getD_mem' (ids:=ids) (k:=i) om;have hidk:=hI.lt _ hmem;have hidk2:=(hR.lt _ (hI.sub _ hmem)).1;have hne:ids.getD i 0≠o:=λe=>hI.o2 (by rw[<-e];exact hmem);have hr:=hA.get hc2;have glr:=ivR_len (A.getD i []);rw[hr.1]at glr;have hgd:=λt (ht:t<w)=>ivR_drop (l:=A.getD i []) (i:=t) om;have hgs:=λt (ht:t<w)=>ivR_same (l:=A.getD i []) (i:=t) om;have hfx:=λt (ht:t<w)=>hr.2 _ (getD_mem (d:=0) (l:=A.getD i []) (i:=t) om);generalize hH:rowsH 68 ids (rI A)=H at*;generalize A.getD i []=r at*;generalize ids.getD i 0=idk at*
     (repeat(first|refine DO.nilF (λi=>i+1-nx) (by simp(disch:=omega) only[go_sem,↓reduceIte,zn1,zn2,zn3,zn4,zn5,zn6,reduceCtorEq,zn7,zi1,zi2,if_pos,if_neg,Int.reduceAdd,zld,zle,Option.map_some,Option.map_none,znd,zne,znf]<;>rfl) (by kernel_rfl) ?_|(with_reducible refine SC.condB (qTf (Q3 @q2 @gi @g1)) ?_;first|with_reducible refine pickT ?_|with_reducible refine pickF ?_)|(with_reducible refine qO ?_)|((with_reducible apply SC.region);(focus(simp(disch:=omega) only[go_sem,↓reduceIte,zn1,zn2,zn3,zn4,zn5,zn6,reduceCtorEq,zn7,zi1,zi2,if_pos,if_neg,Int.reduceAdd,q2,gi,g1];rfl)))|(with_reducible refine SC.draw Tab.mixed rfl ?_;(repeat(refine DO.run (qTf (Q3 @q2 @gi @g1)) ?_));refine DO.nilF (λi=>i+1-nx) (by simp(disch:=omega) only[go_sem,↓reduceIte,zn1,zn2,zn3,zn4,zn5,zn6,reduceCtorEq,zn7,zi1,zi2,if_pos,if_neg,Int.reduceAdd,zld,zle,Option.map_some,Option.map_none,znd,zne,znf]<;>rfl) (by kernel_rfl) ?_)))
     refine SC.loop (λt:Nat=>⟨[(3,.pt 0 0),(4,.pt 1 0),(6,.sl o 0 h 1 none),(43,.sl o 0 h 1 none),(44,.sc (.int .i64 h)),(45,.sc (.int .i64 i)),(11,.sl idk 0 w 2 none),(49,.sl idk 0 w 2 none),(50,.sc (.int .i64 w)),(51,.sc (.int .i64 t))],(1,⟨28,[.sc (.int .i64 0),.sc (.int .i64 0),.sc (.slice none 0 0)],false⟩)::(0,⟨28,[.sc (.int .i64 h),.sc (.int .i64 w),.im (imR w (rI M)) h],false⟩)::(o,⟨41,slR 2 w ids,false⟩)::H,nx,73⟩)
      (λt=>t<=w) (λt=>w-t) 0 ?_ ?_ ?_
     ·exact qM
     ·exact znc _
     ·intro t ht K4 hK4;by_cases hc3:t<w
      ·have q3:=decide_eq_true (p:=(t:Int)<(w:Int)) om;have gd:=hgd t hc3;have gs:=hgs t hc3;have hlx:=fits_len (hfx t hc3);have c6:=clone_s (lv (limbsOf (r.getD t 0).natAbs)) (List.all_eq_true.2 λx hx=>by obtain⟨n,_,rfl⟩:=List.mem_map.1 hx;rfl) (List.all_eq_true.2 λx hx=>by obtain⟨n,_,rfl⟩:=List.mem_map.1 hx;rfl) (by rw[lv_len];omega);rw[lv_len]at c6;generalize(ivR r).drop ((t+1)*2)=D at*;generalize hRR:ivR r=RR at*;generalize r.getD t 0=x at*;unfold ivC sv at gd gs;simp only[zl8,zl7]at gd;have g2:t*2<RR.length:=by omega
       refine qWDf (Q8 @q3 @gR @glr @gd @gs @g2 @hrs @hkl) ?_;refine hK4 _ (t+1) ?_ om om;rw[<-hH];refine Le.rowsDown [(1,_),(0,_)] (pre2 rfl rfl) ⟨0,hB,znc _⟩ ho.2 hI.lt (rI_clo _) (λid b hb=> ?_) ?_;·exact less_new (λid b hb=>hb) (λid b hb=>Nat.ne_of_lt (klc (show 1<nx by omega) (klc (show 0<nx by omega) (rows_lt ho.2 hI.lt)) id b hb)) id b hb
       ·exact qN
      ·have q3:=decide_eq_false (p:=(t:Int)<(w:Int)) om
       (repeat(first|refine DO.nilF (λi=>i+1-nx) (by simp(disch:=omega) only[go_sem,↓reduceIte,zn1,zn2,zn3,zn4,zn5,zn6,reduceCtorEq,zn7,zi1,zi2,if_pos,if_neg,Int.reduceAdd,zld,zle,Option.map_some,Option.map_none,znd,zne,znf]<;>rfl) (by kernel_rfl) ?_|(with_reducible refine SC.condB (qTf @q3) ?_;first|with_reducible refine pickT ?_|with_reducible refine pickF ?_)|(with_reducible refine qO ?_)|((with_reducible apply SC.region);(focus(simp(disch:=omega) only[go_sem,↓reduceIte,zn1,zn2,zn3,zn4,zn5,zn6,reduceCtorEq,zn7,zi1,zi2,if_pos,if_neg,Int.reduceAdd,q3];rfl)))|(with_reducible refine SC.draw Tab.mixed rfl ?_;(repeat(refine DO.run (qTf @q3) ?_));refine DO.nilF (λi=>i+1-nx) (by simp(disch:=omega) only[go_sem,↓reduceIte,zn1,zn2,zn3,zn4,zn5,zn6,reduceCtorEq,zn7,zi1,zi2,if_pos,if_neg,Int.reduceAdd,zld,zle,Option.map_some,Option.map_none,znd,zne,znf]<;>rfl) (by kernel_rfl) ?_)))
       refine hK3 _ (i+1) ?_ om om;exact qM
    ·have q2:=decide_eq_false (p:=(i:Int)<(h:Int)) om;have hAl:=hA.len;by_cases h0:h=0
     ·have hids:ids=[]:=List.eq_nil_of_length_eq_zero om;have hAn:A=[]:=List.eq_nil_of_length_eq_zero om;subst hids;subst hAn;subst h0
      (repeat(first|refine DO.nilF (λi=>i+1-nx) (by simp(disch:=omega) only[go_sem,↓reduceIte,zn1,zn2,zn3,zn4,zn5,zn6,reduceCtorEq,zn7,zi1,zi2,if_pos,if_neg,Int.reduceAdd,zld,zle,Option.map_some,Option.map_none,znd,zne,znf]<;>rfl) (by kernel_rfl) ?_|(with_reducible refine SC.condB (qTf @q2) ?_;first|with_reducible refine pickT ?_|with_reducible refine pickF ?_)|(with_reducible refine qO ?_)|((with_reducible apply SC.region);(focus(simp(disch:=omega) only[go_sem,↓reduceIte,zn1,zn2,zn3,zn4,zn5,zn6,reduceCtorEq,zn7,zi1,zi2,if_pos,if_neg,Int.reduceAdd,q2];rfl)))|(with_reducible refine SC.draw Tab.mixed rfl ?_;(repeat(refine DO.run (qTf @q2) ?_));refine DO.nilF (λi=>i+1-nx) (by simp(disch:=omega) only[go_sem,↓reduceIte,zn1,zn2,zn3,zn4,zn5,zn6,reduceCtorEq,zn7,zi1,zi2,if_pos,if_neg,Int.reduceAdd,zld,zle,Option.map_some,Option.map_none,znd,zne,znf]<;>rfl) (by kernel_rfl) ?_)))
      exact qE Tryz.results48
     ·have hrows: ∀C:List V,∀k,k<ids.length->hget ((1,(⟨28,C,false⟩:Blk))::(0,⟨28,[.sc (.int .i64 h),.sc (.int .i64 w),.im (imR w (rI M)) h],false⟩)::(o,⟨41,slR 2 w ids,false⟩)::rowsH 68 ids (rI A)) (ids.getD k 0)=some ⟨68,(rI A).getD k [],false⟩:=by
       intro C k hk;have hm:=getD_mem' hk;have:=hR.lt _ (hI.sub _ hm);simp only[hget];rw[if_neg om,if_neg om,if_neg (λe=>hI.o2 (by rw[<-e];exact hm))];exact rows_get hI.nod hk (by rw[rI_len];omega)
      have hfz:=λC:List V=>frz_rowsA (n:=4) (z:=2) (m:=w) (ty:=68) (ids:=ids) (rs:=rI A) om (by rw[rI_len];omega) (hrows C) (rI_rows hA);have hsl:=slR_some (z:=2) (m:=w) (ids:=ids) om;have ht:(slR 2 w ids).take h=slR 2 w ids:=zla om;rw[hAl]
      (repeat(first|refine DO.nilF (λi=>i+1-nx) (by simp(disch:=omega) only[go_sem,↓reduceIte,zn1,zn2,zn3,zn4,zn5,zn6,reduceCtorEq,zn7,zi1,zi2,if_pos,if_neg,Int.reduceAdd,zld,zle,Option.map_some,Option.map_none,znd,zne,znf]<;>rfl) (by kernel_rfl) ?_|(with_reducible refine SC.condB (qTf @q2) ?_;first|with_reducible refine pickT ?_|with_reducible refine pickF ?_)|(with_reducible refine qO ?_)|((with_reducible apply SC.region);(focus(simp(disch:=omega) only[go_sem,↓reduceIte,zn1,zn2,zn3,zn4,zn5,zn6,reduceCtorEq,zn7,zi1,zi2,if_pos,if_neg,Int.reduceAdd,q2];rfl)))|(with_reducible refine SC.draw Tab.mixed rfl ?_;(repeat(refine DO.run (qTf @q2) ?_));refine DO.nilF (λi=>i+1-nx) (by simp(disch:=omega) only[go_sem,↓reduceIte,zn1,zn2,zn3,zn4,zn5,zn6,reduceCtorEq,zn7,zi1,zi2,if_pos,if_neg,Int.reduceAdd,zld,zle,Option.map_some,Option.map_none,znd,zne,znf]<;>rfl) (by kernel_rfl) ?_)))
      exact retQ_ret Tryz.results48 qS (qSf (Q4 @hfz @hsl @ht @g1)) rfl
end
section
open Go.RowKit
theorem Le.rowsG(pre:List (Nat×Blk)){B:Base}{sl sl':List (Nat×V)}{hp:List (Nat×Blk)}{o nx nx1 nt:Nat}{ty tr:TypeId}{ids:List Nat}{rs:List (List V)}{C':List V}(hB: ∃m,B.Old m/\m<=nx)
  (hpre: ∀i k,hget pre i=some k->(∀y∈k.cs,VMap (λi=>i) (λi=>i<nx) y y)/\hget hp i=some k)
  (ho: ∃C,hget hp o=some ⟨ty,C,false⟩/\ ∀(j:Nat) (y:V),C'[j]? =some y-> ∃x,C[j]? =some x/\VMap (λi=>i) (λi=>i<nx) x y)
  (hr: ∀k,k<ids.length->k<rs.length-> ∃C,hget hp (ids.getD k 0)=some ⟨tr,C,false⟩/\ ∀(j:Nat) (y:V),(rs.getD k [])[j]? =some y-> ∃x,C[j]? =some x/\VMap (λi=>i) (λi=>i<nx) x y)
  (h1:mapSl (λi=>i) (λi=>i<nx) sl sl'):
  Le B ⟨sl,hp,nx1,nt⟩ ⟨sl',pre++(o,⟨ty,C',false⟩)::rowsH tr ids rs,nx,nt⟩:=by
 obtain⟨m0,hB,hm0⟩:=hB;refine Le.map (λi=>i) (λi=>i<nx) hB (λi hi=>⟨by omega,rfl⟩) (λi h=>h) (λi j _ _ e=>e) h1 (λi k' hk' hlt=> ?_);rw[hget_app]at hk';cases hp:hget pre i with
 |some q=>
  rw[hp]at hk';cases hk';obtain⟨p1,p2⟩:=hpre i _ hp;rw[p2];exact⟨_,rfl,rfl,rfl,λj y hy=>⟨y,hy,p1 y (List.mem_of_getElem? hy)⟩⟩
 | none=>
  rw[hp]at hk';simp only[hget]at hk';split at hk'
  ·rename_i e;cases hk';obtain⟨C,h2,h3⟩:=ho;subst e;rw[h2];exact⟨_,rfl,rfl,rfl,h3⟩
  ·obtain⟨q,q1,q2,q3,rfl⟩:=rows_inv hk';obtain⟨C,h2,h3⟩:=hr q q1 q2;subst q3;rw[h2];exact⟨_,rfl,rfl,rfl,h3⟩
theorem Le.rowsTo(pre:List (Nat×Blk)){B:Base}{sl sl':List (Nat×V)}{hp:List (Nat×Blk)}{o nx nx1 nt:Nat}{ty tr:TypeId}{ids:List Nat}{rs:List (List V)}{C':List V}(hB: ∃m,B.Old m/\m<=nx)
  (hpre: ∀i k,hget pre i=some k->k.cs.all clS=true/\hget hp i=some k)
  (ho: ∃C,hget hp o=some ⟨ty,C,false⟩/\ ∀(j:Nat) (y:V),C'[j]? =some y-> ∃x,C[j]? =some x/\VMap (λi=>i) (λi=>i<nx) x y)
  (hr: ∀k,k<ids.length->k<rs.length-> ∃C,hget hp (ids.getD k 0)=some ⟨tr,C,false⟩/\ ∀(j:Nat) (y:V),(rs.getD k [])[j]? =some y-> ∃x,C[j]? =some x/\VMap (λi=>i) (λi=>i<nx) x y)
  (h1:mapSl (λi=>i) (λi=>i<nx) sl sl'):
  Le B ⟨sl,hp,nx1,nt⟩ ⟨sl',pre++(o,⟨ty,C',false⟩)::rowsH tr ids rs,nx,nt⟩:=
 Le.rowsG pre hB (λi k h=>⟨λy hy=>VMap.clS (List.all_eq_true.1 (hpre i k h).1 y hy),(hpre i k h).2⟩) ho hr h1
theorem cellsTo{z m n nx:Nat}{cap:Option Nat}{ids:List Nat}{rest:List V}(hi: ∀i∈ids,i<nx)(hn:n<nx)(hrest: ∀x∈rest,x= .sc (.slice none 0 0)): ∀(j:Nat) (y:V),(slR z m (ids++ [n])++rest)[j]? =some y-> ∃x,(slR z m ids++V.sl n 0 m z cap::rest)[j]? =some x/\VMap (λi=>i) (λi=>i<nx) x y:=by
 intro j y hy;rw[<-slR_app]at hy;have hlen:=slR_len z m ids;rcases Nat.lt_trichotomy j ids.length with g|g|g
 ·rw[zl6,List.getElem?_append_left om,slR_get g]at hy;rw[List.getElem?_append_left om,slR_get g];cases hy;exact⟨_,rfl,VMap.sl rfl (hi _ (getD_mem' g))⟩
 ·rw[zl6,List.getElem?_append_right om,hlen,g,Nat.sub_self]at hy;rw[List.getElem?_append_right om,hlen,g,Nat.sub_self];have:(slR z m [n]++rest)[0]? =some (V.sl n 0 m z none):=rfl;rw[this]at hy;cases hy;exact⟨_,rfl,VMap.cap rfl hn⟩
 ·rw[zl6,List.getElem?_append_right om,hlen]at hy;rw[List.getElem?_append_right om,hlen];obtain⟨q,hq⟩: ∃q,j-ids.length=q+1:=⟨j-ids.length-1,by omega⟩
  rw[hq]at hy⊢;have e1:(slR z m [n]++rest)[q+1]? =rest[q]? :=rfl;rw[e1]at hy;rw[List.getElem?_cons_succ];refine⟨y,hy,?_⟩;rw[hrest y (List.mem_of_getElem? hy)];exact VMap.nil
theorem cloTo{r:List V}{f:Nat->Nat}{D:Nat->Prop}(h:r.all clS=true): ∀(j:Nat) (y:V),r[j]? =some y-> ∃x,r[j]? =some x/\VMap f D x y:=λj y hy=>⟨y,hy,VMap.clS (List.all_eq_true.1 h y (List.mem_of_getElem? hy))⟩
theorem clS_of{r:List V}(h:r.all clo=true):r.all clS=true:=by rw[zlf]at h⊢;intro x hx;have:=h x hx;cases x<;>first|rfl|exact this
theorem ids_snoc{ids:List Nat}{n k:Nat}(h:k<(ids++ [n]).length):(k<ids.length/\(ids++ [n]).getD k 0=ids.getD k 0)\/(k=ids.length/\(ids++ [n]).getD k 0=n):=by
 simp only[zl1,List.length_singleton]at h;rcases Nat.lt_or_ge k ids.length with g|g;·exact .inl ⟨g,by rw[List.getD_eq_getElem?_getD,List.getElem?_append_left g,List.getD_eq_getElem?_getD]⟩
 ·have e:k=ids.length:=by omega
  exact .inr ⟨e,by rw[e,List.getD_eq_getElem?_getD,List.getElem?_append_right (znb _),Nat.sub_self];rfl⟩
def zer(w:Nat):List V:=(List.replicate w [V.sc (.bool false),V.sc (.slice none 0 0)]).flatten
def zeroL(h w:Nat):List (List Int):=List.replicate h (List.replicate w 0)
theorem zer_map{f:Nat->Nat}{D:Nat->Prop}: ∀(w j:Nat) (y:V),(ivR (List.replicate w 0))[j]? =some y-> ∃x,(zer w)[j]? =some x/\VMap f D x y
 |0,j,y,h=>by cases h
 |w+1,j,y,h=>by
  have e1:ivR (List.replicate (w+1) 0)=V.sc (.bool false)::V.im [] 0::ivR (List.replicate w 0):=rfl;have e2:zer (w+1)=V.sc (.bool false)::V.sc (.slice none 0 0)::zer w:=rfl;rw[e1]at h;rw[e2]
  match j,h with
  |0,h=>cases h;exact⟨_,rfl,VMap.sc _⟩
  |1,h=>cases h;exact⟨_,rfl,VMap.nil_im⟩
  |j+2,h=>exact zer_map w j y h
theorem zeroL_get{h w k:Nat}(hk:k<h):(zeroL h w).getD k []=List.replicate w 0:=by unfold zeroL;rw[List.getD_eq_getElem?_getD,List.getElem?_replicate,if_pos hk];rfl
theorem zeroL_len{h w:Nat}:(zeroL h w).length=h:=by simp[zeroL]
def MatQ(w:Nat)(M:List (List Int))(nx:Nat)(x:V)(hp':List (Nat×Blk))(nx':Nat):Prop:=
 ∃o ids,RowsOk o ids M.length nx nx'/\x= .ag [.sc (.int .i64 M.length),.sc (.int .i64 w),.sl o 0 M.length 1 none]/\hp'=(o,⟨41,slR 2 w ids,false⟩)::rowsH 68 ids (rI M)
theorem idle85:Idle Tryz.prog 111:=Idle.of Tab.go111 Tryz.func111 rfl rfl rfl rfl Tryz.ntmps111 Tryz.results111
theorem pnew_s(h w nx:Nat)(hn:h<=1000000)(hw:w<=1000000):InlQ Tryz.prog 81 [.sc (.int .i64 h),.sc (.int .i64 w)] [] nx (MatQ w (zeroL h w) nx):=by
 have hzl:(zeroL h w).length=h:=by simp[zeroL]
 have hm1:max (h:Int) 0=h:=by omega
 have hm2:max (w:Int) 0=w:=by omega
 refine InlQ.runD Tryz.func81 rfl rfl rfl rfl idle85 Tryz.ntmps81 (by simp) qT qT λB hB=> ?_;refine qWDf (Q2 @hm1 @hm2) ?_;refine SC.loop (λx:Nat×List Nat=>⟨[(0,.sc (.int .i64 h)),(1,.sc (.int .i64 w)),(4,.pt nx 0),(5,.sl (nx+1) 0 h 1 (some h)),(14,.sc (.int .i64 h)),(15,.sc (.int .i64 x.1))],(nx,⟨28,[.sc (.int .i64 0),.sc (.int .i64 0),.sc (.slice none 0 0)],false⟩)::(nx+1,⟨41,slR 2 w x.2++List.replicate (h-x.1) (.sc (.slice none 0 0)),false⟩)::rowsH 68 x.2 (rI (zeroL x.1 w)),nx+2+x.1,28⟩)
  (λx=>x.1<=h/\RowsOk (nx+1) x.2 x.1 nx (nx+2+x.1)/\nx∉x.2) (λx=>h-x.1) (0,[]) ?_ ?_ ?_
 ·exact qM
 ·exact⟨znc _,⟨rfl,List.nodup_nil,by simp,by omega,by simp⟩,by simp⟩
 ·rintro⟨i,ids⟩ ⟨hi,hR,hnx⟩ K hK;simp only at hi hR hnx⊢;have hlt: ∀j∈ids,j<nx+2+i:=λj hj=>(hR.lt j hj).2;by_cases hc:i<h
  ·have q1:=decide_eq_true (p:=(i:Int)<(h:Int)) om;have hcells:(slR 2 w ids++List.replicate (h-i) (V.sc (.slice none 0 0))).length=h:=by simp[slR_len,hR.len];omega
   have hset:(slR 2 w ids++List.replicate (h-i) (V.sc (.slice none 0 0))).set i (V.sl (nx+2+i) 0 w 2 (some w))=slR 2 w ids++V.sl (nx+2+i) 0 w 2 (some w)::List.replicate (h-(i+1)) (V.sc (.slice none 0 0)):=by rw[List.set_append_right _ _ (by rw[slR_len,hR.len];exact znb _),slR_len,hR.len,Nat.sub_self,show h-i=(h-(i+1))+1 by omega,List.replicate_succ,List.set_cons_zero]
   generalize hC:slR 2 w ids++List.replicate (h-i) (V.sc (.slice none 0 0))=C at*;refine qWDf (Q3 @q1 @hcells @hset) ?_;have hne: ∀j∈ids,j≠nx/\j≠nx+1:=λj hj=>⟨λe=>hnx (e▸hj),λe=>hR.o2 (e▸hj)⟩
   refine hK _ (i+1,ids++ [nx+2+i]) ?_ ⟨by simp only;omega,?_,?_⟩ (by simp only;omega)
   ·refine Le.rowsTo [(nx,_)] ⟨nx,hB,by omega⟩ (λj k hj=> ?_) ?_ (λk hk1 hk2=> ?_) ?_
    ·simp only[hget]at hj;split at hj
     ·rename_i e;cases hj;subst e;refine⟨rfl,?_⟩;simp only[hget];rw[if_neg om,if_pos trivial]
     ·cases hj
    ·refine⟨_,by simp only[hget];rw[if_neg om,if_neg om,if_pos trivial],cellsTo (λj hj=>by have:=hlt j hj;omega) om (λx hx=>List.eq_of_mem_replicate hx)⟩
    ·rw[rI_len,zeroL_len]at hk2;rw[rI_getD,zeroL_get hk2];rcases ids_snoc hk1 with⟨g,e⟩|⟨g,e⟩
     ·have hm:=getD_mem' g;have h1:=hlt _ hm;have h2:=hne _ hm;have:=rows_get (ty:=68) (rs:=rI (zeroL i w)) (k:=k) hR.nod g (by rw[rI_len,zeroL_len,hR.len]);rw[rI_getD,zeroL_get (by rw[hR.len]at g;exact g)]at this;rw[e];exact⟨_,by simp only[hget];rw[if_neg om,if_neg h2.1,if_neg h2.2,this],cloTo (clS_of (ivR_clo _))⟩
     ·rw[e];exact⟨zer w,by simp only[hget];rw[if_pos trivial];rfl,zer_map w⟩
    ·exact qN
   ·refine⟨by simp[hR.len],?_,λj hj=> ?_,by omega,?_⟩
    ·rw[List.nodup_append];exact⟨hR.nod,by simp,λa ha b hb=>by simp at hb;subst hb;have:=hlt a ha;omega⟩
    ·rcases List.mem_append.1 hj with g|g;·have:=hR.lt j g;omega
     ·simp at g;omega
    ·intro h;rcases List.mem_append.1 h with g|g;·exact hR.o2 g
     ·simp at g;omega
   ·intro h;rcases List.mem_append.1 h with g|g;·exact hnx g
    ·simp at g;omega
  ·have q1:=decide_eq_false (p:=(i:Int)<(h:Int)) om;have hin:i=h:=by omega
   subst hin;refine qWDf @q1 ?_;refine retIQ_ret (.ag [.sc (.int .i64 i),.sc (.int .i64 w),.sl (nx+1) 0 i 1 none]) ((nx+1,⟨41,slR 2 w ids,false⟩)::rowsH 68 ids (rI (zeroL i w))) (nx+2+i) Tryz.results81 qT ⟨nx+1,ids,by rw[hzl];exact⟨hR.len,hR.nod,hR.lt,hR.o1,hR.o2⟩,by rw[hzl],rfl⟩ ?_;rw[Nat.sub_self];simp only[List.replicate_zero,List.append_nil];refine Le.rowsDown [] pre0 ⟨nx,hB,by omega⟩ om hlt (rI_clo _) (less_new (λid k hk=>hk) (λid k hk=> ?_)) ?_
   ·rcases inR_rows (λi hi=>hi) id k hk with e|e;·omega
    ·exact λe2=>hnx (e2▸e)
   ·refine mapSl_cons (x:= .ag [.sc (.int .i64 i),.sc (.int .i64 w),.sl (nx+1) 0 i 1 (some i)]) (by simp(disch:=omega) only[go_sem,↓reduceIte,zn1,zn2,zn3,zn4,zn5,zn6,reduceCtorEq,zn7,zi1,zi2,if_pos,if_neg,Int.reduceAdd]) (VMap.ag rfl λj x y hx hy=> ?_) trivial
    match j,hx,hy with
    |0,hx,hy=>cases hx;cases hy;exact VMap.sc _
    |1,hx,hy=>cases hx;cases hy;exact VMap.sc _
    |2,hx,hy=>cases hx;cases hy;exact VMap.cap rfl om
end
section
open Go.RowKit
def mkR(w:Nat)(f:Nat->Int):List Int:=(List.range w).map f
def mkM(h w:Nat)(f:Nat->Nat->Int):List (List Int):=(List.range h).map λr=>mkR w (f r)
theorem mkR_len{w:Nat}{f:Nat->Int}:(mkR w f).length=w:=by simp[mkR]
theorem mkM_len{h w:Nat}{f:Nat->Nat->Int}:(mkM h w f).length=h:=by simp[mkM]
theorem mkR_get{w c:Nat}{f:Nat->Int}(h:c<w):(mkR w f).getD c 0=f c:=by unfold mkR;rw[List.getD_eq_getElem?_getD,List.getElem?_map,List.getElem?_range h];rfl
theorem mkM_get{h w r:Nat}{f:Nat->Nat->Int}(hr:r<h):(mkM h w f).getD r []=mkR w (f r):=by unfold mkM;rw[List.getD_eq_getElem?_getD,List.getElem?_map,List.getElem?_range hr];rfl
theorem mkR_congr{w:Nat}{f g:Nat->Int}(h: ∀c,c<w->f c=g c):mkR w f=mkR w g:=by unfold mkR;exact List.map_congr_left λc hc=>h c (List.mem_range.1 hc)
theorem mkM_congr{h w:Nat}{f g:Nat->Nat->Int}(hh: ∀r c,r<h->c<w->f r c=g r c):mkM h w f=mkM h w g:=by unfold mkM;exact List.map_congr_left λr hr=>mkR_congr λc hc=>hh r c (List.mem_range.1 hr) hc
theorem mkM_of{h w K:Nat}{M:List (List Int)}(hM:MI h w K M):mkM h w (λr c=>(M.getD r []).getD c 0)=M:=by
 refine List.ext_getElem (by rw[mkM_len,hM.len]) λr h1 h2=> ?_;rw[mkM_len]at h1;have e1:=mkM_get (w:=w) (f:=λr c=>(M.getD r []).getD c 0) h1;rw[List.getD_eq_getElem?_getD,zlb (by rw[mkM_len];exact h1)]at e1;simp only[Option.getD_some]at e1;rw[e1];have e2:M.getD r []=M[r]:=by rw[List.getD_eq_getElem?_getD,zlb h2];rfl
 have hl:=(hM.get h1).1;rw[<-e2];refine ilist_ext (by rw[mkR_len,hl]) λj hj=> ?_;rw[mkR_len]at hj;rw[mkR_get hj]
theorem mkM_set{h w i j:Nat}{f:Nat->Nat->Int}{x:Int}(hi:i<h)(hj:j<w):(mkM h w f).set i ((mkR w (f i)).set j x)=mkM h w λr c=>if r=i/\c=j then x else f r c:=by
 refine List.ext_getElem (by simp[mkM_len]) λr h1 h2=> ?_;rw[mkM_len]at h2;have e1:((mkM h w f).set i ((mkR w (f i)).set j x)).getD r []=(mkM h w λr c=>if r=i/\c=j then x else f r c).getD r []:=by
  rw[getD_set (by rw[mkM_len];exact hi),mkM_get h2,mkM_get h2];by_cases e:r=i
  ·subst e;rw[if_pos rfl];refine ilist_ext (by rw[List.length_set,mkR_len,mkR_len]) λc hc=> ?_;rw[List.length_set,mkR_len]at hc;rw[getD_set (by rw[mkR_len];exact hj),mkR_get hc,mkR_get hc];by_cases e2:c=j;·rw[if_pos e2,if_pos ⟨rfl,e2⟩]
   ·rw[if_neg e2,if_neg (λh=>e2 h.2)]
  ·rw[if_neg e];exact mkR_congr λc _=>by rw[if_neg (λh=>e h.1)]
 rw[List.getD_eq_getElem?_getD,zlb h1,List.getD_eq_getElem?_getD,zlb (by rw[mkM_len];exact h2)]at e1;simpa using e1
theorem mkM_zero{h w:Nat}:zeroL h w=mkM h w λ_ _=>0:=by
 refine List.ext_getElem (by rw[zeroL_len,mkM_len]) λr h1 h2=> ?_;rw[zeroL_len]at h1;have e:(zeroL h w).getD r []=(mkM h w λ_ _=>0).getD r []:=by rw[zeroL_get h1,mkM_get h1];refine ilist_ext (by rw[mkR_len];simp) λc hc=> ?_;simp only[List.length_replicate]at hc;rw[mkR_get hc,List.getD_eq_getElem?_getD,List.getElem?_replicate,if_pos hc];rfl
 rw[List.getD_eq_getElem?_getD,zlb (by rw[zeroL_len];exact h1),List.getD_eq_getElem?_getD,zlb (by rw[mkM_len];exact h1)]at e;simpa using e
theorem mk_mi{h w K:Nat}{f:Nat->Nat->Int}(hf: ∀r c,r<h->c<w->Fits K (f r c)):MI h w K (mkM h w f):=by refine⟨mkM_len,λr hr=> ?_⟩;obtain⟨i,hi,rfl⟩:=List.mem_map.1 hr;refine⟨mkR_len,λx hx=> ?_⟩;obtain⟨c,hc,rfl⟩:=List.mem_map.1 hx;exact hf i c (List.mem_range.1 hi) (List.mem_range.1 hc)
theorem matQ_new{w nx:Nat}{M:List (List Int)}{x:V}{hp':List (Nat×Blk)}{nx':Nat}(h:MatQ w M nx x hp' nx'):Only (λi=>nx<=i) x/\OnlyH (λi=>nx<=i) hp'/\ ∀id k,hget hp' id=some k->nx<=id:=by
 obtain⟨o,ids,hR,rfl,rfl⟩:=h;have:=rowsI_new (w:=w) (M:=M) (nx:=nx) (nx':=nx') ⟨o,ids,hR,rfl,rfl⟩;refine⟨.ag λy hy=> ?_,this.2⟩;simp only[List.mem_cons,List.not_mem_nil,or_false]at hy;rcases hy with rfl|rfl|rfl;·exact .sc _
 ·exact .sc _
 ·exact this.1
theorem cellF{h w i j:Nat}{ty:TypeId}{ids:List Nat}{f:Nat->Nat->Int}{z:Int}(hnod:ids.Nodup)(hlen:ids.length=h)(hi:i<h)(hj:j<w):
  hget (rowsH ty ids (rI (mkM h w f))) (ids.getD i 0)=some ⟨ty,ivR (mkR w (f i)),false⟩/\(ivR (mkR w (f i))).length=2*w/\(ivR (mkR w (f i))).drop (j*2)=ivC (f i j)++(ivR (mkR w (f i))).drop ((j+1)*2)/\
  setAll (ivR (mkR w (f i))) (j*2) (ivC z)=ivR ((mkR w (f i)).set j z)/\hset (rowsH ty ids (rI (mkM h w f))) (ids.getD i 0) ⟨ty,ivR ((mkR w (f i)).set j z),false⟩=rowsH ty ids (rI (mkM h w λr c=>if r=i/\c=j then z else f r c)):=by
 have gR:=rows_get (ty:=ty) (rs:=rI (mkM h w f)) (k:=i) hnod om (by rw[rI_len,mkM_len];omega);rw[rI_getD,mkM_get hi]at gR;have gd:=ivR_drop (l:=mkR w (f i)) (i:=j) (by rw[mkR_len];exact hj);rw[mkR_get hj]at gd;have hrs:=rows_set (ty:=ty) (rs:=rI (mkM h w f)) (k:=i) (r:=ivR ((mkR w (f i)).set j z)) hnod om (by rw[rI_len,mkM_len];omega);rw[rI_set,mkM_set hi hj]at hrs;exact⟨gR,by rw[ivR_len,mkR_len],gd,ivR_set z (by rw[mkR_len];exact hj),hrs⟩
def idL(n:Nat):List (List Int):=mkM n n λr c=>if r=c then 1 else 0
theorem fits01{p:Prop} [Decidable p]:Fits 1 (if p then 1 else 0):=by unfold Fits;split<;>decide
set_option maxRecDepth 8000 in
theorem pident_s(n:Nat)(hn:n<=1000000):Spec Tryz.prog 49 [.sc (.int .i64 n)] (mat n (idL n)):=by
 have c0:=pnew_s n n 1 hn hn;have c1:=pof_i 1 om om;unfold iv sv at c1;refine qF Tryz.func49 Tryz.ntmps49 λB hB=> ?_;refine qWD ?_;refine SO.inlQ qS Tab.go81 qS qS (SInlQ.newR c0 ?_ ?_ ?_);·exact klc om kln
 ·exact λx hp' nx' h=>matQ_new h
 rintro x hp' nx ⟨o,ids,hR,rfl,rfl⟩;have ho:=hR.o1;rw[zeroL_len]at hR⊢;rw[mkM_zero];refine qWD ?_;have e0:mkM n n (λ_ _=>0)=mkM n n (λr c=>if r=c/\r<0 then 1 else 0):=mkM_congr λr c _ _=>by rw[if_neg om]
 rw[e0];refine SC.loop (λi:Nat=>⟨[(2,.pt 0 0),(3,.pt nx 0),(10,.sc (.int .i64 n)),(11,.sc (.int .i64 i))],(nx,⟨28,[.sc (.int .i64 n),.sc (.int .i64 n),.sl o 0 n 1 none],false⟩)::(0,⟨28,[.sc (.int .i64 0),.sc (.int .i64 0),.sc (.slice none 0 0)],false⟩)::(o,⟨41,slR 2 n ids,false⟩)::rowsH 68 ids (rI (mkM n n (λr c=>if r=c/\r<i then 1 else 0))),nx+1,24⟩)
  (λi=>i<=n) (λi=>n-i) 0 ?_ ?_ ?_
 ·exact qM
 ·exact znc _
 ·intro i hi K hK;have hidl:=hR.len;have g1:=slR_len 2 n ids;rw[hidl]at g1;by_cases hc:i<n
  ·have q1:=decide_eq_true (p:=(i:Int)<(n:Int)) om;have gi:=slR_get (z:=2) (m:=n) (ids:=ids) (k:=i) om;obtain⟨gR,gl,gd,gs,hrs⟩:=cellF (ty:=68) (f:=λr c=>if r=c/\r<i then(1:Int)else 0) (z:=1) (j:=i) hR.nod hidl hc hc;have e1:mkM n n (λr c=>if r=i/\c=i then(1:Int)else if r=c/\r<i then 1 else 0)=mkM n n (λr c=>if r=c/\r<i+1 then 1 else 0):=mkM_congr λr c _ _=>by
    by_cases e:r=i/\c=i;·rw[if_pos e,if_pos om]
    ·rw[if_neg e];by_cases e2:r=c/\r<i;·rw[if_pos e2,if_pos om]
     ·rw[if_neg e2,if_neg om]
   rw[e1]at hrs;have hkl:=klB_rows (ty:=68) (rs:=rI (mkM n n λr c=>if r=c/\r<i then(1:Int)else 0)) (n:=nx+1) (λj hj=>by have:=hR.lt j hj;omega);have hmem:=getD_mem' (ids:=ids) (k:=i) om;have hidk:=hR.lt _ hmem;have hne:ids.getD i 0≠o:=λe=>hR.o2 (by rw[<-e];exact hmem);generalize hH:rowsH 68 ids (rI (mkM n n λr c=>if r=c/\r<i then(1:Int)else 0))=H at*;generalize mkR n (λc=>if i=c/\i<i then(1:Int)else 0)=row at*;generalize ids.getD i 0=idk at*;unfold ivC sv at gs;have g2:i*2<(ivR row).length:=by omega
   refine qWDf (Q9 @q1 @g1 @gi @gR @gl @gs @hrs @g2 @hkl) ?_;refine hK _ (i+1) ?_ om om;exact qM
  ·have q1:=decide_eq_false (p:=(i:Int)<(n:Int)) om;have hin:i=n:=by omega
   subst hin;have e1:mkM i i (λr c=>if r=c/\r<i then(1:Int)else 0)=idL i:=mkM_congr λr c hr _=>by
    by_cases e:r=c;·rw[if_pos ⟨e,hr⟩,if_pos e]
    ·rw[if_neg (λh=>e h.1),if_neg e]
   rw[e1];have hA:MI i i 1 (idL i):=mk_mi λr c _ _=>fits01;have hAl:=hA.len;by_cases h0:i=0
   ·subst h0;have hids:ids=[]:=List.eq_nil_of_length_eq_zero om;subst hids
    (repeat(first|refine DO.nilF (λi=>i+1-nx) (by simp(disch:=omega) only[go_sem,↓reduceIte,zn1,zn2,zn3,zn4,zn5,zn6,reduceCtorEq,zn7,zi1,zi2,if_pos,if_neg,Int.reduceAdd,zld,zle,Option.map_some,Option.map_none,znd,zne,znf]<;>rfl) (by kernel_rfl) ?_|(with_reducible refine SC.condB (qTf @q1) ?_;first|with_reducible refine pickT ?_|with_reducible refine pickF ?_)|(with_reducible refine qO ?_)|((with_reducible apply SC.region);(focus(simp(disch:=omega) only[go_sem,↓reduceIte,zn1,zn2,zn3,zn4,zn5,zn6,reduceCtorEq,zn7,zi1,zi2,if_pos,if_neg,Int.reduceAdd,q1];rfl)))|(with_reducible refine SC.draw Tab.mixed rfl ?_;(repeat(refine DO.run (qTf @q1) ?_));refine DO.nilF (λi=>i+1-nx) (by simp(disch:=omega) only[go_sem,↓reduceIte,zn1,zn2,zn3,zn4,zn5,zn6,reduceCtorEq,zn7,zi1,zi2,if_pos,if_neg,Int.reduceAdd,zld,zle,Option.map_some,Option.map_none,znd,zne,znf]<;>rfl) (by kernel_rfl) ?_)))
    exact qE Tryz.results49
   ·have hrows: ∀C D:List V,∀k,k<ids.length->hget ((nx,(⟨28,C,false⟩:Blk))::(0,⟨28,D,false⟩)::(o,⟨41,slR 2 i ids,false⟩)::rowsH 68 ids (rI (idL i))) (ids.getD k 0)=some ⟨68,(rI (idL i)).getD k [],false⟩:=by
     intro C D k hk;have hm:=getD_mem' hk;have:=hR.lt _ hm;simp only[hget];rw[if_neg om,if_neg om,if_neg (λe=>hR.o2 (by rw[<-e];exact hm))];exact rows_get hR.nod hk (by rw[rI_len];omega)
    have hfz:=λC D:List V=>frz_rowsA (n:=5) (z:=2) (m:=i) (ty:=68) (ids:=ids) (rs:=rI (idL i)) om (by rw[rI_len];omega) (hrows C D) (rI_rows hA);have hsl:=slR_some (z:=2) (m:=i) (ids:=ids) om;have ht:(slR 2 i ids).take i=slR 2 i ids:=zla om;have hne:nx≠o:=by omega
    unfold mat;rw[hAl]
    (repeat(first|refine DO.nilF (λi=>i+1-nx) (by simp(disch:=omega) only[go_sem,↓reduceIte,zn1,zn2,zn3,zn4,zn5,zn6,reduceCtorEq,zn7,zi1,zi2,if_pos,if_neg,Int.reduceAdd,zld,zle,Option.map_some,Option.map_none,znd,zne,znf]<;>rfl) (by kernel_rfl) ?_|(with_reducible refine SC.condB (qTf @q1) ?_;first|with_reducible refine pickT ?_|with_reducible refine pickF ?_)|(with_reducible refine qO ?_)|((with_reducible apply SC.region);(focus(simp(disch:=omega) only[go_sem,↓reduceIte,zn1,zn2,zn3,zn4,zn5,zn6,reduceCtorEq,zn7,zi1,zi2,if_pos,if_neg,Int.reduceAdd,q1];rfl)))|(with_reducible refine SC.draw Tab.mixed rfl ?_;(repeat(refine DO.run (qTf @q1) ?_));refine DO.nilF (λi=>i+1-nx) (by simp(disch:=omega) only[go_sem,↓reduceIte,zn1,zn2,zn3,zn4,zn5,zn6,reduceCtorEq,zn7,zi1,zi2,if_pos,if_neg,Int.reduceAdd,zld,zle,Option.map_some,Option.map_none,znd,zne,znf]<;>rfl) (by kernel_rfl) ?_)))
    exact retQ_ret Tryz.results49 qS (qSf (Q4 @hfz @hsl @ht @g1)) rfl
end
section
open Go.RowKit
section
variable {P:Program}
theorem Spec.ofQ{f:Nat}{args:List V}{x:V}{C:V->List (Nat×Blk)->Nat->Prop}(hI:InlQ P f args [] 0 C)(hf: ∀y hp' nx',C y hp' nx'-> ∃ids,frz 8 hp' y=some (x,ids)):Spec P f args x:=by
 intro S w vs hS hT hargs;have hm:Mem ⟨w,S,λ_=>False,λ_=>0,λ_=>False,[]⟩ S (λ_=>0) (λ_=>False) [] w:={
  cells:=λid k hk=>by cases hk
  fz:=λid k hk=>by cases hk
  own:=λid k hk=>by cases hk
  inj:=λid id' k k' hk=>by cases hk
  slt:=hS
  sub:=λ_ h=>h
  base:=λ_ h=> .inl h
  frame:=⟨rfl,rfl,rfl,znb _,λ_ _ _=>rfl,λ_ _=>rfl,λ_ _ h=>h,hS,hT⟩
  keep:=λid h=>h.elim}
 refine(hI.callsI hm (λ_ h=>h.elim) (vs:=vs) hargs).mono ?_;rintro e w' ⟨v,rfl,y,hp',nx',S',rho',A',hC,h1,h2,h3,h4,h5⟩;have hL: ∀b,¬(Base.inner S (λ_=>0) (λ_=>False) [] w).L b:=by rintro b ⟨i,kk,hi,ha,hr⟩;cases hi
 obtain⟨ids,hz⟩:=hf _ _ _ hC;have h6:=frz_sound h3 8 y v x ids hz h5;have hmf:=h3.freeze ids h6.live;refine⟨v,rfl,⟨h3.frame.os,h3.frame.tape,h3.frame.output,h3.frame.size,λb hb=>h3.frame.block b hb (hL b)⟩,?_⟩;refine(h6.rep.wide λb hb=> ?_).rho;rcases hmf.base b hb with h|h|h;·exact .inl h
 ·exact .inr ⟨h,hmf.slt b hb⟩
 ·exact(hL _ h).elim
theorem NewX.ofQ{f:Nat}{args:List V}{k:Blk}{len z:Nat}(hc:k.cs.all clo=true)(hz:k.fz=false)(hI:InlQ P f args [] 0 λy hp' nx'=> ∃q,q<nx'/\y= .sl q 0 len z none/\hp'=[(q,k)]):NewX P f args k (λid=> .sl id 0 len z none) false:=by
 refine⟨rx_sl 0 len z none,?_⟩;intro S w vs hS hT hargs;have hm:Mem ⟨w,S,λ_=>False,λ_=>0,λ_=>False,[]⟩ S (λ_=>0) (λ_=>False) [] w:={
  cells:=λid k hk=>by cases hk
  fz:=λid k hk=>by cases hk
  own:=λid k hk=>by cases hk
  inj:=λid id' k k' hk=>by cases hk
  slt:=hS
  sub:=λ_ h=>h
  base:=λ_ h=> .inl h
  frame:=⟨rfl,rfl,rfl,znb _,λ_ _ _=>rfl,λ_ _=>rfl,λ_ _ h=>h,hS,hT⟩
  keep:=λid h=>h.elim}
 refine(hI.callsI hm (λ_ h=>h.elim) (vs:=vs) hargs).mono ?_;rintro e w' ⟨v,rfl,x,hp',nx',S',rho',A',⟨q,hq,rfl,rfl⟩,h1,h2,h3,h4,h5⟩;have hL: ∀b,¬(Base.inner S (λ_=>0) (λ_=>False) [] w).L b:=by rintro b ⟨i,kk,hi,ha,hr⟩;cases hi
 have hk:hget [(q,k)] q=some k:=by simp[hget]
 refine⟨v,rfl,⟨h3.frame.os,h3.frame.tape,h3.frame.output,h3.frame.size,λb hb=>h3.frame.block b hb (hL b)⟩,?_⟩;cases h5 with
 |sln h=>exact .inr λS rho w A id=> .sln h
 | sl h0 hl' hm' hcp hz0=>
  refine .inl ⟨rho' q,S',?_,λc hc'=>⟨rfl,?_⟩,h3.fz q k hk h0 hz,?_,.sl rfl hl' hm' hcp hz0⟩;·exact(h3.own q k hk h0).elim (λh=>h) (λh=>(hL _ h).elim)
  ·rcases h3.base c hc' with h|h|h;·exact .inl h
   ·exact .inr ⟨h,h3.slt c hc'⟩
   ·exact(hL _ h).elim
  ·obtain⟨cells,c1,c2⟩:=h3.cells q k hk h0;refine⟨cells,c1,λi x hx=> ?_⟩;obtain⟨u,hu,hr⟩:=c2 i x hx;exact⟨u,hu,(clo_sound (List.all_eq_true.1 hc x (List.mem_of_getElem? hx)) hr).rho⟩
end
end
section
open Go.RowKit
variable {P:Program}
theorem retIQ.mono{fn:Func}{B:Base}{Q Q':V->List (Nat×Blk)->Nat->Prop}(h: ∀y hp nx,Q y hp nx->Q' y hp nx){e:Exit}{s:SS}(hr:retIQ P fn B Q e s):retIQ P fn B Q' e s:=by cases e<;>first|exact hr.elim|exact(let⟨y,x,hp,nx,h1,h2,h3⟩:=hr;⟨y,x,hp,nx,h1,h _ _ _ h2,h3⟩)
theorem InlQ.mono{f:Nat}{args:List V}{hp:List (Nat×Blk)}{nx:Nat}{Q Q':V->List (Nat×Blk)->Nat->Prop}(hI:InlQ P f args hp nx Q)(h: ∀y hp nx,Q y hp nx->Q' y hp nx):InlQ P f args hp nx Q':=by obtain⟨fn,c,h1,h2,h3,h4⟩:=hI;refine⟨fn,c,h1,h2,h3,h4.imp (λh4 B hB=>SWp.mono (h4 B hB) λe s=>retIQ.mono h) ?_⟩;rintro⟨s1,rest,h5,h6⟩;exact⟨s1,rest,h5,λB hB=>SWp.mono (h6 B hB) λe s=>retIQ.mono h⟩
theorem AppC.of{f id:Nat}{ys:List V}{k k':Blk}{off len z:Nat}{cap:Option Nat}(hl:0<len)(hfz:k'.fz=false)(hsc2: ∀y∈k'.cs,∃v,y= .sc v)
  (hI: ∀nx,id<nx->InlQ P f ys [(id,k)] nx λy hp' nx'=> ∃q,q<nx'/\y= .sl q off len z cap/\hp'=[(q,k')]):AppC P f ys id k off len z cap k':=by
 intro B S rho A w vs m hm hA hv;have hb: ∀j,A j->j<m+id+1:=λj hj=>by have:=hA j hj;omega
 refine((hI (m+id+1) om).callsI hm hb hv).mono ?_;rintro e w' ⟨v,rfl,x,hp',nx',S',rho',A',⟨q,hq,rfl,rfl⟩,h1,h2,h3,h4,h5⟩;have hk:hget [(q,k')] q=some k':=by simp[hget]
 have hL: ∀b,(Base.inner S rho A [(id,k)] w).L b->A id/\rho id=b:=by
  rintro b ⟨i,kk,hi,ha,hr⟩;simp only[hget]at hi;split at hi;·rename_i e;subst e;exact⟨ha,hr⟩
  ·cases hi
 cases h5 with
 |sln h=>omega
 |sl h0 hl' hm' hc hz=>
  refine⟨_,rho' q,rfl,⟨h3.frame.os,h3.frame.tape,h3.frame.output,h3.frame.size,λb hb hn=>h3.frame.block b hb (λh=>hn (hL b h)),hm.innerSz h3.frame⟩,λb hb=>(h1 b hb).2,(h3.own q k' hk h0).imp (λh=>h) (hL _),λh=>h3.fz q k' hk h0 hfz (h1 _ h).1,?_,.sl rfl hl' hm' hc hz⟩;obtain⟨cells,c1,c2⟩:=h3.cells q k' hk h0;refine⟨cells,c1,λi x hx=> ?_⟩;obtain⟨u,hu,hr⟩:=c2 i x hx;obtain⟨v,rfl⟩:=hsc2 x (List.mem_of_getElem? hx);cases hr;exact⟨_,hu,.sc _⟩
section
variable {B:Base} {s:SS}
end
end
section
open Go.RowKit
theorem cloneI_n{r:List Int}{w:Nat}(hr:r.length=w)(hw:w<=1000000):NewX Tryz.prog 84 [.im (ivR r) w] ⟨68,ivR r,false⟩ (λid=> .sl id 0 w 2 none) false:=
 NewX.ofQ (ivR_clo r) rfl (InlQ.mono (cloneI_s r w 0 hr hw).toQ λy hp nx h=>⟨0,by omega,h.1,h.2.1⟩)
def upS(h w o:Nat)(c:Option Nat):Blk:=⟨28,[.sc (.int .i64 h),.sc (.int .i64 w),.sl o 0 h 1 c],false⟩
theorem ucopied_q{h w K:Nat}{M:List (List Int)}(hM:MI h w K M)(nx:Nat)(hn:h<=1000000)(hw:w<=1000000):InlQ Tryz.prog 51 [mat w M] [] nx (MatQ w M nx):=by
 have hl:=hM.len;have gl:=imI_len w M;unfold mat;refine InlQ.run Tryz.func51 rfl Tryz.ntmps51 (by simp) qT λB hB=> ?_;refine qWD ?_;obtain⟨n0,rfl⟩: ∃n0,n0=nx:=⟨nx,rfl⟩
 refine SC.loop (λx:Nat×List Nat=>⟨[(2,.pt (n0+1) 0),(3,.pt (n0+3) 0),(15,.im (imR w (rI M)) M.length),(16,.sc (.int .i64 M.length)),(17,.sc (.int .i64 x.1))],(n0+3,upS M.length w (n0+2) (some M.length))::(n0+1,⟨28,[.sc (.int .i64 0),.sc (.int .i64 0),.sc (.slice none 0 0)],false⟩)::(n0+2,⟨41,slR 2 w x.2++List.replicate (h-x.1) (.sc (.slice none 0 0)),false⟩)::rowsH 68 x.2 (rI (M.take x.1)),n0+4+x.1,30⟩)
  (λx=>x.1<=h/\RowsOk (n0+2) x.2 x.1 n0 (n0+4+x.1)/\ ∀j∈x.2,n0+4<=j) (λx=>h-x.1) (0,[]) ?_ ?_ ?_
 ·rw[<-hl];unfold upS;exact qM
 ·exact⟨znc _,⟨rfl,List.nodup_nil,by simp,by omega,by simp⟩,by simp⟩
 ·rintro⟨i,ids⟩ ⟨hi,hR,hg⟩ K hK;simp only at hi hR hg⊢;have hlt: ∀j∈ids,j<n0+4+i:=λj hj=>(hR.lt j hj).2;by_cases hc:i<h
  ·have q1:=decide_eq_true (p:=(i:Int)<(M.length:Int)) om;have g1:=imI_get (w:=w) (M:=M) (i:=i) om;have hr:=hM.get hc;have c1:=cloneI_n hr.1 hw;have hts:=take_snoc (d:=[]) (l:=M) (i:=i) om;have hcl:=ivR_clo (M.getD i []);have hcells:(slR 2 w ids++List.replicate (h-i) (V.sc (.slice none 0 0))).length=h:=by simp[slR_len,hR.len];omega
   have hset:(slR 2 w ids++List.replicate (h-i) (V.sc (.slice none 0 0))).set i (V.sl (n0+4+i) 0 w 2 none)=slR 2 w ids++V.sl (n0+4+i) 0 w 2 none::List.replicate (h-(i+1)) (V.sc (.slice none 0 0)):=by rw[List.set_append_right _ _ (by rw[slR_len,hR.len];exact znb _),slR_len,hR.len,Nat.sub_self,show h-i=(h-(i+1))+1 by omega,List.replicate_succ,List.set_cons_zero]
   generalize M.getD i []=r at*;generalize hC:slR 2 w ids++List.replicate (h-i) (V.sc (.slice none 0 0))=C at*;unfold upS;obtain⟨nx,hnx⟩: ∃nx,nx=n0+4+i:=⟨_,rfl⟩
   rw[<-hnx]at hset⊢;have hkl:=klB_rows (ty:=68) (rs:=rI (M.take i)) (n:=nx) (λj hj=>by have:=hlt j hj;omega);have b3:(n0+3<nx)=True:=eq_true om;have b2:(n0+2<nx)=True:=eq_true om;have b1:(n0+1<nx)=True:=eq_true om;have d3:n0+(3+1)<=nx:=by omega
   have d2:n0+(2+1)<=nx:=by omega
   refine qWDf (Q12 @q1 @gl @g1 @gD @hcells @hset @hkl @b1 @b2 @b3 @d2 @d3) ?_
   repeat(refine DO.run qT ?_)
   refine DO.callN Tab.go84 qS qS ?_;refine DNew.ofX c1 rfl qT ?_
   repeat(refine DO.run (qTf (Q2 @hcells @hset)) ?_)
   refine DO.nilF (λi=>i+1-nx) (by simp(disch:=omega) only[go_sem,↓reduceIte,zn1,zn2,zn3,zn4,zn5,zn6,reduceCtorEq,zn7,zi1,zi2,if_pos,if_neg,Int.reduceAdd,zld,zle,Option.map_some,Option.map_none,znd,zne,znf,d2,d3]<;>rfl) (by kernel_rfl) ?_;refine qWD ?_;subst hnx;refine hK _ (i+1,ids++ [n0+4+i]) ?_ ⟨by simp only;omega,?_,λj hj=> ?_⟩ (by simp only;omega)
   ·rw [hts];have e:rI (M.take i++ [r])=rI (M.take i)++ [ivR r]:=by simp[rI]
    simp only[e];unfold upS;refine Le.rowsG [(n0+3,_),(n0+1,_)] ⟨n0,hB,by omega⟩ (λj k hj=> ?_) ?_ (λk hk1 hk2=> ?_) ?_
    ·simp only[hget]at hj;split at hj
     ·rename_i e;cases hj;subst e;refine⟨?_,by simp only[hget];rw[if_neg om,if_pos trivial]⟩;simp only[List.mem_cons,List.not_mem_nil,or_false];rintro y (rfl|rfl|rfl);·exact VMap.sc _
      ·exact VMap.sc _
      ·exact VMap.sl rfl om
     ·split at hj
      ·rename_i e;cases hj;subst e;refine⟨λy hy=> ?_,by simp only[hget];rw[if_neg om,if_neg om,if_pos trivial]⟩;simp only[List.mem_cons,List.not_mem_nil,or_false]at hy;rcases hy with rfl|rfl|rfl<;>exact VMap.sc _
      ·cases hj
    ·refine⟨_,by simp only[hget];rw[if_neg om,if_neg om,if_neg om,if_pos trivial],cellsTo (λj hj=>by have:=hlt j hj;omega) om (λx hx=>List.eq_of_mem_replicate hx)⟩
    ·have hil:(rI (M.take i)).length=i:=by rw[rI_len,List.length_take];omega
     rcases ids_snoc hk1 with⟨g,e⟩|⟨g,e⟩
     ·have hm:=getD_mem' g;have h1:=hlt _ hm;have h2:=hg _ hm;have hlg:k<(rI (M.take i)).length:=by rw[hil,<-hR.len];exact g
      have:=rows_get (ty:=68) (rs:=rI (M.take i)) (k:=k) hR.nod g (by rw[hil,hR.len]);have e2:(rI (M.take i)++ [ivR r]).getD k []=(rI (M.take i)).getD k []:=by rw[List.getD_eq_getElem?_getD,List.getElem?_append_left hlg,<-List.getD_eq_getElem?_getD]
      rw[e,e2];exact⟨_,by simp only[hget];rw[if_neg om,if_neg om,if_neg om,if_neg om,this],cloTo (clS_of (List.all_eq_true.2 λy hy=>List.all_eq_true.1 (rI_clo _ _ (getD_mem (d:=[]) hlg)) y hy))⟩
     ·have e2:(rI (M.take i)++ [ivR r]).getD k []=ivR r:=by rw[List.getD_eq_getElem?_getD,List.getElem?_append_right (by rw[hil,g,hR.len];exact znb _),hil,g,hR.len,Nat.sub_self];rfl
      rw[e,e2];exact⟨_,by simp only[hget];rw[if_pos trivial],cloTo (clS_of hcl)⟩
    ·exact qN
   ·refine⟨by simp[hR.len],?_,λj hj=> ?_,by omega,?_⟩
    ·rw[List.nodup_append];exact⟨hR.nod,by simp,λa ha b hb=>by simp at hb;subst hb;have:=hlt a ha;omega⟩
    ·rcases List.mem_append.1 hj with g|g;·have:=hR.lt j g;omega
     ·simp at g;omega
    ·intro h;rcases List.mem_append.1 h with g|g;·exact hR.o2 g
     ·simp at g;omega
   ·rcases List.mem_append.1 hj with g|g;·exact hg j g
    ·simp at g;omega
  ·have q1:=decide_eq_false (p:=(i:Int)<(M.length:Int)) om;have hin:i=h:=by omega
   subst hin;unfold upS;refine qWDf @q1 ?_;refine retIQ_ret _ _ _ Tryz.results51 qT ⟨n0+2,ids,by rw[hl];exact⟨hR.len,hR.nod,hR.lt,by omega,hR.o2⟩,rfl,rfl⟩ ?_;rw[Nat.sub_self,zla om];simp only[List.replicate_zero,List.append_nil];refine Le.slots (leSl_cons qS (VLe.ag (LLe.cons (VLe.refl rfl) (LLe.cons (VLe.refl rfl) (LLe.cons (VLe.cap (cap:=some M.length) rfl rfl) (LLe.nil [])))) rfl) leSl_nil) (λid k h=> ?_) om;have hid:id=n0+2\/n0+4<=id:=by
    simp only[hget]at h;split at h;·exact .inl ‹_›
    ·obtain⟨q,q1,_,rfl,_⟩:=rows_inv h;exact .inr (hg _ (getD_mem' q1))
   simp only[hget]at h⊢;rw[if_neg om,if_neg om];exact h
end
section
open Go.RowKit
variable {P:Program} {B:Base}
theorem fz_keep{hp:List (Nat×Blk)}{ids:List Nat}{i:Nat}{b:Blk}(hi:i∉ids)(h:hget hp i=some b):hget (fzHp hp ids) i=some b:=by
 rw[hget_fz,h];have:ids.contains i=false:=by
  cases hc:ids.contains i with
  |false=>rfl
  |true=>exact absurd (by simpa using hc) hi
 rw[Option.map_some,this,if_neg (by simp)]
theorem frzCell{sl:List (Nat×V)}{hp hp':List (Nat×Blk)}{nx nt:Nat}{k:Blk}{x y:V}{ids:List Nat}(id j:Nat)(hk:hget hp id=some k)(hx:k.cs[j]? =some x)(h:frz 8 hp x=some (y,ids))(hid:id∉ids)
  (hh: ∀i b,hget hp' i=some b->(i=id/\b=⟨k.ty,k.cs.set j y,k.fz⟩)\/(i≠id/\i∉ids/\hget hp i=some b)):Le B ⟨sl,hp,nx,nt⟩ ⟨sl,hp',nx,nt⟩:=by
 intro S rho A a w hr;by_cases hA:A id
 ·obtain⟨cells,h1,h2⟩:=hr.mem.cells id k hk hA;obtain⟨u,hu,hru⟩:=h2 j x hx;have hf:=frz_sound hr.mem 8 _ _ _ _ h hru;have hm:=hr.mem.freeze ids hf.live;have hg: ∀i b,hget hp' i=some b-> ∃b0,hget (fzHp hp ids) i=some b0/\b0.fz=b.fz:=by
   intro i b hb;rcases hh i b hb with⟨rfl,rfl⟩|⟨_,h4,h5⟩;·exact⟨k,fz_keep hid hk,rfl⟩
   ·exact⟨b,fz_keep h4 h5,rfl⟩
  refine⟨addS S rho A ids,rho,A,λt=>(hr.slots t).wide λb hb=> .inl hb,?_,hr.alt,hr.nt,hr.defs⟩;exact{
   cells:=λi b hb ha=>by
    rcases hh i b hb with⟨rfl,rfl⟩|⟨_,h4,h5⟩
    ·refine⟨cells,h1,λi' z hz=> ?_⟩;simp only[List.getElem?_set]at hz;split at hz
     ·rename_i e;subst e;split at hz;·cases hz;exact⟨u,hu,hf.rep.open⟩
      ·cases hz
     ·obtain⟨v,hv,hrv⟩:=h2 i' z hz;exact⟨v,hv,hrv.wide λb hb=> .inl hb⟩
    ·exact hm.cells i b (fz_keep h4 h5) ha
   fz:=λi b hb ha hf'=>let⟨b0,g1,g2⟩:=hg i b hb;hm.fz i b0 g1 ha (g2.trans hf')
   own:=λi b hb=>let⟨b0,g1,_⟩:=hg i b hb;hm.own i b0 g1
   inj:=λi i' b b' hb hb'=>let⟨b0,g1,_⟩:=hg i b hb;let⟨b0',g1',_⟩:=hg i' b' hb';hm.inj i i' b0 b0' g1 g1'
   slt:=hm.slt,sub:=hm.sub,base:=hm.base,frame:=hm.frame,keep:=hm.keep}
 ·have hm:=hr.mem;have hg: ∀i b,hget hp' i=some b->A i->hget hp i=some b:=by
   intro i b hb ha;rcases hh i b hb with⟨rfl,_⟩|⟨_,_,h5⟩;·exact absurd ha hA
   ·exact h5
  refine⟨S,rho,A,hr.slots,?_,hr.alt,hr.nt,hr.defs⟩;exact{
   cells:=λi b hb ha=>hm.cells i b (hg i b hb ha) ha
   fz:=λi b hb ha=>hm.fz i b (hg i b hb ha) ha
   own:=λi b hb ha=>hm.own i b (hg i b hb ha) ha
   inj:=λi i' b b' hb hb' ha ha'=>hm.inj i i' b b' (hg i b hb ha) (hg i' b' hb' ha') ha ha'
   slt:=hm.slt,sub:=hm.sub,base:=hm.base,frame:=hm.frame,keep:=hm.keep}
end
section
open Go.RowKit
variable {P:Program} {B:Base}
def mapL(f:Nat->Nat)(D:Nat->Prop):List V->List V->Prop
 |_,[]=>True
 |x::xs,y::ys=>VMap f D x y/\mapL f D xs ys
 |[],_::_=>False
theorem mapL_get{f:Nat->Nat}{D:Nat->Prop}: ∀{xs ys:List V},mapL f D xs ys-> ∀(i:Nat) (y:V),ys[i]? =some y-> ∃x,xs[i]? =some x/\VMap f D x y
 |_,[],_,i,y,h=>by simp at h
 |x::xs,y0::ys,hm,i,y,h=>by
  cases i with
  |zero=>cases h;exact⟨x,rfl,hm.1⟩
  |succ i=>simp at h⊢;exact mapL_get hm.2 i y h
 |[],_::_,hm,_,_,_=>hm.elim
theorem mapL_nil{f:Nat->Nat}{D:Nat->Prop}{xs:List V}:mapL f D xs []:=by cases xs<;>trivial
theorem mapL_cons{f:Nat->Nat}{D:Nat->Prop}{x y:V}{xs ys:List V}(h:VMap f D x y)(k:mapL f D xs ys):mapL f D (x::xs) (y::ys):=⟨h,k⟩
theorem BMap.list{f:Nat->Nat}{D:Nat->Prop}{ty:TypeId}{fz:Bool}{xs ys:List V}(h:mapL f D xs ys):BMap f D (some ⟨ty,xs,fz⟩) ⟨ty,ys,fz⟩:=⟨_,rfl,rfl,rfl,mapL_get h⟩
def mapHp(f:Nat->Nat)(D:Nat->Prop)(hp:List (Nat×Blk)):List (Nat×Blk)->Prop
 |[]=>True
 |p::r=>BMap f D (hget hp (f p.1)) p.2/\mapHp f D hp r
theorem mapHp_get{f:Nat->Nat}{D:Nat->Prop}{hp:List (Nat×Blk)}: ∀{r:List (Nat×Blk)},mapHp f D hp r-> ∀i k',hget r i=some k'->BMap f D (hget hp (f i)) k'
 |[],_,i,k',h=>by cases h
 |p::r,hr,i,k',h=>by
  simp only[hget]at h;split at h;·rename_i e;subst e;cases h;exact hr.1
  ·exact mapHp_get hr.2 i k' h
theorem mapHp_nil{f:Nat->Nat}{D:Nat->Prop}{hp:List (Nat×Blk)}:mapHp f D hp []:=trivial
theorem mapHp_cons{f:Nat->Nat}{D:Nat->Prop}{hp r:List (Nat×Blk)}{i:Nat}{k k':Blk}(h:hget hp (f i)=some k)(h1:BMap f D (some k) k')(h2:mapHp f D hp r):mapHp f D hp ((i,k')::r):=⟨h▸h1,h2⟩
theorem Le.ren{sl sl':List (Nat×V)}{hp hp':List (Nat×Blk)}{nx nx' nt m:Nat}(a b:Nat)(hB:B.Old m)(ha:m<=a)(hb:nx'<=b)(hm:m<=nx')
  (h1:mapSl (λi=>if i=a then b else i) (λi=>i<nx') sl sl') (h2:mapHp (λi=>if i=a then b else i) (λi=>i<nx') hp hp'):Le B ⟨sl,hp,nx,nt⟩ ⟨sl',hp',nx',nt⟩:=
 Le.map (λi=>if i=a then b else i) (λi=>i<nx') hB (λi hi=>⟨by omega,if_neg om⟩) (λi hi=>hi) (λi j hi hj e=>by split at e<;>split at e<;>omega) h1 λi k' h _=>mapHp_get h2 i k' h
end
section
open Go.RowKit
theorem okL_clo{ok:Nat->Bool}{x:V}(h:clo x=true):okL ok x=true:=by cases x<;>first|rfl|(cases h;done)
theorem LLe.cl{ok:Nat->Bool}{l l':List V}(e:l=l')(h:l.all clo=true):LLe ok l l':=by
 subst e;exact⟨znb _,λi y x h1 h2=>by rw[h1]at h2;cases h2;exact VLe.okL (okL_clo (List.all_eq_true.1 h _ (List.mem_of_getElem? h1)))⟩
theorem renL_clo(f:Nat->Nat): ∀{l:List V},l.all clo=true->V.renL f l=l
 |[],_=>by simp[V.renL]
 |x::r,h=>by rw[List.all_cons,Bool.and_eq_true]at h;rw[V.renL,renL_clo f h.2];congr 1;have h1:=h.1;cases x<;>first|(simp[V.ren];done)|(cases h1;done)
theorem LLe.clR{ok:Nat->Bool}{f:Nat->Nat}{l l':List V}(e:l=l')(h:l.all clo=true):LLe ok (V.renL f l) l':=by rw[renL_clo f h];exact LLe.cl e h
theorem hdel_no{a:Nat}: ∀{X:List (Nat×Blk)},(∀k,hget X a=some k->False)->hdel X a=X
 |[],_=>rfl
 | (i,b)::r,h=>by
  by_cases e:a=i;·exact(h b (by simp only[hget];rw[if_pos e])).elim
  ·have:=hdel_no (a:=a) (X:=r) λk hk=>h k (by simp only[hget];rw[if_neg e];exact hk);rw[hdel_cons,if_neg (λx=>e x.symm),this]
end
section
open Go.RowKit
theorem matQ_val{h w K nx nx':Nat}{M:List (List Int)}{y:V}{hp:List (Nat×Blk)}(hM:MI h w K M)(hq:MatQ w M nx y hp nx'): ∃ids,frz 8 hp y=some (mat w M,ids):=by
 obtain⟨o,ids,hR,rfl,rfl⟩:=hq;have hidl:=hR.len;have g1:=slR_len 2 w ids;rw[hidl]at g1;unfold mat;by_cases h0:M.length=0
 ·have hM0:M=[]:=List.eq_nil_of_length_eq_zero h0;subst hM0;have hids:ids=[]:=List.eq_nil_of_length_eq_zero (by simpa using hidl);subst hids;exact⟨_,by simp(disch:=omega) only[go_sem,↓reduceIte,zn1,zn2,zn3,zn4,zn5,zn6,reduceCtorEq,zn7,zi1,zi2,if_pos,if_neg,Int.reduceAdd]<;>rfl⟩
 ·have hrows: ∀k,k<ids.length->hget ((o,(⟨41,slR 2 w ids,false⟩:Blk))::rowsH 68 ids (rI M)) (ids.getD k 0)=some ⟨68,(rI M).getD k [],false⟩:=by
   intro k hk;have hm:=getD_mem' hk;simp only[hget];rw[if_neg (λe=>hR.o2 (by rw[<-e];exact hm))];exact rows_get hR.nod hk (by rw[rI_len];omega)
  have hfz:=frz_rowsA (n:=5) (z:=2) (m:=w) (ty:=68) (ids:=ids) (rs:=rI M) om (by rw[rI_len];omega) hrows (rI_rows hM);have hsl:=slR_some (z:=2) (m:=w) (ids:=ids) om;have ht:(slR 2 w ids).take M.length=slR 2 w ids:=zla om;exact⟨_,by simp(disch:=omega) only[go_sem,↓reduceIte,zn1,zn2,zn3,zn4,zn5,zn6,reduceCtorEq,zn7,zi1,zi2,if_pos,if_neg,Int.reduceAdd,hfz,hsl,ht,g1]<;>rfl⟩
theorem ucopied_s{h w K:Nat}{M:List (List Int)}(hM:MI h w K M)(hn:h<=1000000)(hw:w<=1000000):Spec Tryz.prog 51 [mat w M] (mat w M):=
 Spec.ofQ (ucopied_q hM 0 hn hw) λ_ _ _ hq=>matQ_val hM hq
theorem rowsIm{B:Base}{sl:List (Nat×V)}{nx nt o w:Nat}{ty tr:TypeId}{pre:List (Nat×Blk)}: ∀{ids:List Nat} {rs:List (List V)} {D:List V},ids.length=rs.length->(∀r∈rs,r.length=w*2/\r.all clo=true)->ids.Nodup->o∉ids->(∀i k,hget pre i=some k->i∉ids/\i≠o)->
  Le B ⟨sl,pre++(o,⟨ty,D++slR 2 w ids,false⟩)::rowsH tr ids rs,nx,nt⟩ ⟨sl,pre++ [(o,⟨ty,D++imR w rs,false⟩)],nx,nt⟩
 |[],[],D,_,_,_,_,_=>Le.refl _ _
 | a::ids,r::rs,D,hl,hr,hn,ho,hp=>by
  obtain⟨hr1,hr2⟩:=hr r (by simp);have hpo:hget pre o=none:=by cases e:hget pre o with|none=>rfl|some k=>exact absurd rfl (hp o k e).2
  have hpa:hget pre a=none:=by cases e:hget pre a with|none=>rfl|some k=>exact absurd (List.mem_cons_self) (hp a k e).1
  have hoa:o≠a:=λe=>ho (e▸List.mem_cons_self);have hgo:hget (pre++(o,(⟨ty,D++slR 2 w (a::ids),false⟩:Blk))::rowsH tr (a::ids) (r::rs)) o=some ⟨ty,D++slR 2 w (a::ids),false⟩:=by rw[hget_app,hpo];simp[hget]
  have hga:hget (pre++(o,(⟨ty,D++slR 2 w (a::ids),false⟩:Blk))::rowsH tr (a::ids) (r::rs)) a=some ⟨tr,r,false⟩:=by rw[hget_app,hpa];simp only[hget,rowsH];rw[if_neg (λe=>hoa e.symm),if_pos trivial]
  have hf:frz 8 (pre++(o,(⟨ty,D++slR 2 w (a::ids),false⟩:Blk))::rowsH tr (a::ids) (r::rs)) (V.sl a 0 w 2 none)=some (V.im r w,[a]):=by rw[frz_sl,hga,srcG_some,if_pos om,zl2,zla om,fzQ_some,frzL_eq,if_pos hr2];rfl
  refine Le.trans (frzCell (hp':=pre++(o,⟨ty,(D++ [V.im r w])++slR 2 w ids,false⟩)::rowsH tr ids rs) o D.length hgo (by show(D++V.sl a 0 w 2 none::slR 2 w ids)[D.length]? =_;rw[List.getElem?_append_right (znb _),Nat.sub_self];rfl) hf (by simpa using hoa) λi b hb=> ?_) (by
   have:=rowsIm (B:=B) (sl:=sl) (nx:=nx) (nt:=nt) (o:=o) (w:=w) (ty:=ty) (tr:=tr) (pre:=pre) (ids:=ids) (rs:=rs) (D:=D++ [V.im r w]) (by simpa using hl) (λq hq=>hr q (by simp[hq])) (List.nodup_cons.1 hn).2 (λh=>ho (by simp[h])) (λi k hk=>⟨λh=>(hp i k hk).1 (by simp[h]),(hp i k hk).2⟩);have e:D++ [V.im r w]++imR w rs=D++imR w (r::rs):=by rw[zl6];rfl
   rw[e]at this;exact this)
  rw[hget_app]at hb⊢;cases e:hget pre i with
  |some q=>
   rw[e]at hb;obtain⟨p1,p2⟩:=hp i q e;exact .inr ⟨p2,λh=>p1 (by simp at h;simp[h]),hb⟩
  | none=>
   rw[e]at hb;simp only[hget]at hb⊢;by_cases eo:i=o
   ·rw[if_pos eo]at hb;cases hb;refine .inl ⟨eo,?_⟩;show _=(⟨ty,(D++V.sl a 0 w 2 none::slR 2 w ids).set D.length (V.im r w),false⟩:Blk)
    rw[List.set_append_right _ _ (znb _),Nat.sub_self,List.set_cons_zero,zl6];rfl
   ·rw[if_neg eo]at hb;obtain⟨q,q1,_,q3,_⟩:=rows_inv hb;have hia:i≠a:=λh=>(List.nodup_cons.1 hn).1 (by rw[<-h,<-q3];exact getD_mem' q1);refine .inr ⟨eo,by simpa using hia,?_⟩;rw[if_neg eo,rowsH];simp only[hget];rw[if_neg hia];exact hb
 |[],_::_,_,hl,_,_,_,_=>by simp at hl
 |_::_,[],_,hl,_,_,_,_=>by simp at hl
end
section
open Go.RowKit
theorem ulength_s(v:List Int)(n:Nat)(hv:v.length<=1000000)(hn:n<=1000000):Spec Tryz.prog 166 [.im (ivR v) v.length,.sc (.int .i64 n)] (.sc (.int .i64 (if v.length=n then 0 else 50))):=by
 refine qF Tryz.func166 Tryz.ntmps166 λB hB=> ?_;by_cases h:v.length=n
 ·have e:(((v.length:Nat):Int) !=(n:Int))=false:=by rw[h];simp
  rw[if_pos h];refine qWf @e ?_;exact qE Tryz.results166
 ·have e:(((v.length:Nat):Int) !=(n:Int))=true:=by rw[bne_iff_ne];omega
  rw[if_neg h];refine qWf @e ?_;exact qE Tryz.results166
section
variable {h w K:Nat} {M:List (List Int)}
theorem fitI_s(hM:MI h w K M)(hn:h<=1000000)(hw:w<=1000000)(i:Int)(v:List Int)(hv:v.length<=1000000):
  Spec Tryz.prog 163 [.ag [.sc (.int .i64 i),.im (ivR v) v.length],mat w M] (.sc (.int .i64 (if i<0\/(h:Int)<i then 1 else if v.length=w then 0 else 50))):=by
 have hl:=hM.len;have c1:=ulength_s v w hv hw;unfold mat;rw[hl];refine qF Tryz.func163 Tryz.ntmps163 λB hB=> ?_;by_cases h1:i<0
 ·have e1:decide (i<0)=true:=decide_eq_true h1;rw[if_pos (.inl h1)];clear c1;refine qWf @e1 ?_;exact qE Tryz.results163
 ·have e1:decide (i<0)=false:=decide_eq_false h1;by_cases h2:(h:Int)<i
  ·have e2:decide (i>(h:Int))=true:=decide_eq_true h2;rw[if_pos (.inr h2)];clear c1;refine qWf (Q2 @e1 @e2) ?_;exact qE Tryz.results163
  ·have e2:decide (i>(h:Int))=false:=decide_eq_false h2;rw[if_neg om];refine qWf (Q2 @e1 @e2) ?_;exact qE Tryz.results163
theorem fitD_s(hM:MI h w K M)(hn:h<=1000000)(i:Int):
  Spec Tryz.prog 172 [.ag [.sc (.int .i64 i)],mat w M] (.sc (.int .i64 (if i<0\/(h:Int)<=i then 1 else 0))):=by
 have hl:=hM.len;unfold mat;rw[hl];refine qF Tryz.func172 Tryz.ntmps172 λB hB=> ?_;by_cases h1:i<0
 ·have e1:decide (i<0)=true:=decide_eq_true h1;rw[if_pos (.inl h1)];refine qWf @e1 ?_;exact qE Tryz.results172
 ·have e1:decide (i<0)=false:=decide_eq_false h1;by_cases h2:(h:Int)<=i
  ·have e2:decide (i>=(h:Int))=true:=decide_eq_true h2;rw[if_pos (.inr h2)];refine qWf (Q2 @e1 @e2) ?_;exact qE Tryz.results172
  ·have e2:decide (i>=(h:Int))=false:=decide_eq_false h2;rw[if_neg om];refine qWf (Q2 @e1 @e2) ?_;exact qE Tryz.results172
theorem fitP_s(hM:MI h w K M)(hn:h<=1000000)(hw:w<=1000000)(u v:List Int)(hu:u.length<=1000000)(hv:v.length<=1000000):
  Spec Tryz.prog 175 [.ag [.im (ivR u) u.length,.im (ivR v) v.length],mat w M] (.sc (.int .i64 (if u.length=h/\v.length=w then 0 else 50))):=by
 have hl:=hM.len;have c1:=ulength_s u h hu hn;have c2:=ulength_s v w hv hw;unfold mat;rw[hl];refine qF Tryz.func175 Tryz.ntmps175 λB hB=> ?_;by_cases h1:u.length=h
 ·rw[if_pos h1]at c1;rw[show(if u.length=h/\v.length=w then(0:Int)else 50)=if v.length=w then 0 else 50 by by_cases h2:v.length=w<;>simp[h1,h2]];refine qW ?_;exact qE Tryz.results175
 ·rw[if_neg h1]at c1;rw[if_neg λe=>h1 e.1];refine qW ?_;exact qE Tryz.results175
theorem fitC_s(hM:MI h w K M)(hn:h<=1000000)(v:List Int)(hv:v.length<=1000000):
  Spec Tryz.prog 177 [.ag [.im (ivR v) v.length],mat w M] (.sc (.int .i64 (if v.length=h then 0 else 50))):=by
 have hl:=hM.len;have c1:=ulength_s v h hv hn;unfold mat;rw[hl];refine qF Tryz.func177 Tryz.ntmps177 λB hB=> ?_;refine qW ?_;exact qE Tryz.results177
end
end
section
open Go.RowKit
theorem rnew_s(h w nx:Nat)(hn:h<=1000000)(hw:w<=1000000):InlQ Tryz.prog 75 [.sc (.int .i64 h),.sc (.int .i64 w)] [] nx (MatQ w (zeroL h w) nx):=by
 have hzl:(zeroL h w).length=h:=by simp[zeroL]
 refine InlQ.run Tryz.func75 rfl Tryz.ntmps75 (by simp) qT λB hB=> ?_;refine qWD ?_;refine SC.loop (λx:Nat×List Nat×Nat×Nat=>⟨[(0,.sc (.int .i64 h)),(1,.sc (.int .i64 w)),(4,.pt nx 0),(5,.sl x.2.2.1 0 x.1 1 none),(6,.sc (.int .i64 x.1))],(nx,⟨28,[.sc (.int .i64 0),.sc (.int .i64 0),.sc (.slice none 0 0)],false⟩)::(x.2.2.1,⟨41,slR 2 w x.2.1,false⟩)::rowsH 68 x.2.1 (rI (zeroL x.1 w)),x.2.2.2,22⟩)
  (λx=>x.1<=h/\RowsOk x.2.2.1 x.2.1 x.1 nx x.2.2.2/\nx∉x.2.1/\nx<x.2.2.1) (λx=>h-x.1) (0,[],nx+1,nx+2) ?_ ?_ ?_
 ·exact qM
 ·exact⟨znc _,⟨rfl,List.nodup_nil,by simp,by simp only;omega,by simp⟩,by simp,by simp only;omega⟩
 ·rintro⟨i,ids,o,m⟩ ⟨hi,hR,hnx,hno⟩ K hK;simp only at hi hR hnx hno⊢;have hlt: ∀j∈ids,j<m:=λj hj=>(hR.lt j hj).2;by_cases hc:i<h
  ·have q1:=decide_eq_true (p:=(i:Int)<(h:Int)) om;have g1:=slR_len 2 w ids;rw[hR.len]at g1;have ht:(slR 2 w ids).take i=slR 2 w ids:=zla om;have g2:(slR 2 w ids).all V.one=true:=by
    rw[zlf];intro x hx;obtain⟨n,_,rfl⟩:=List.mem_map.1 hx;rfl
   have g3:=rows_del (ty:=68) (rs:=rI (zeroL i w)) (i:=o) (ids:=ids) hR.o2;have ho:=hR.o1;have g4:=slR_len 2 w ids;refine qWDf (Q5 @q1 @g1 @g2 @g3 @ht) ?_;have hne: ∀j∈ids,j≠nx:=λj hj e=>hnx (e▸hj);refine hK _ (i+1,ids++ [m],m+1+1,m+1+1+1) ?_ ⟨by simp only;omega,?_,?_,by simp only;omega⟩ (by simp only;omega)
   ·dsimp only;refine Le.rowsTo [(nx,_)] ⟨nx,hB,by omega⟩ (λj k hj=> ?_) ?_ (λk hk1 hk2=> ?_) ?_
    ·simp only[hget]at hj;split at hj
     ·rename_i e;cases hj;subst e;refine⟨rfl,?_⟩;simp only[hget];rw[if_neg om,if_neg om,if_neg om,if_pos trivial]
     ·cases hj
    ·refine⟨_,by simp only[hget];rw[if_pos trivial],?_⟩;have:=cellsTo (z:=2) (m:=w) (n:=m) (nx:=m+1+1+1) (cap:=some w) (ids:=ids) (rest:=[]) (λj hj=>by have:=hlt j hj;omega) om (λx hx=>by cases hx);simpa using this
    ·rw[rI_len,zeroL_len]at hk2;rw[rI_getD,zeroL_get hk2];rcases ids_snoc hk1 with⟨g,e⟩|⟨g,e⟩
     ·have hm:=getD_mem' g;have h1:=hlt _ hm;have h2:=hne _ hm;have:=rows_get (ty:=68) (rs:=rI (zeroL i w)) (k:=k) hR.nod g (by rw[rI_len,zeroL_len,hR.len]);rw[rI_getD,zeroL_get (by rw[hR.len]at g;exact g)]at this;rw[e];exact⟨_,by simp only[hget];rw[if_neg om,if_neg om,if_neg om,if_neg h2,this],cloTo (clS_of (ivR_clo _))⟩
     ·rw[e];exact⟨zer w,by simp only[hget];rw[if_neg om,if_neg om,if_pos trivial];rfl,zer_map w⟩
    ·exact qN
   ·refine⟨by simp[hR.len],?_,λj hj=> ?_,by simp only;omega,?_⟩
    ·rw[List.nodup_append];exact⟨hR.nod,by simp,λa ha b hb=>by simp at hb;subst hb;have:=hlt a ha;omega⟩
    ·rcases List.mem_append.1 hj with g|g;·have:=hR.lt j g;simp only;omega
     ·simp at g;simp only;omega
    ·intro h;rcases List.mem_append.1 h with g|g;·have:=hlt _ g;simp only at this;omega
     ·have:=List.mem_singleton.1 g;simp only at this;omega
   ·intro h;rcases List.mem_append.1 h with g|g;·exact hnx g
    ·simp at g;omega
  ·have q1:=decide_eq_false (p:=(i:Int)<(h:Int)) om;have hin:i=h:=by omega
   subst hin;refine qWDf @q1 ?_;refine retIQ_ret (.ag [.sc (.int .i64 i),.sc (.int .i64 w),.sl o 0 i 1 none]) ((o,⟨41,slR 2 w ids,false⟩)::rowsH 68 ids (rI (zeroL i w))) m Tryz.results75 qT ⟨o,ids,by rw[hzl];exact hR,by rw[hzl],rfl⟩ ?_;have ho:=hR.o1;refine Le.rowsDown [] pre0 ⟨nx,hB,by omega⟩ om hlt (rI_clo _) (less_new (λid k hk=>hk) (λid k hk=> ?_)) ?_
   ·rcases inR_rows (λi hi=>hi) id k hk with e|e;·omega
    ·exact λe2=>hnx (e2▸e)
   ·refine mapSl_cons (x:= .ag [.sc (.int .i64 i),.sc (.int .i64 w),.sl o 0 i 1 none]) (by simp(disch:=omega) only[go_sem,↓reduceIte,zn1,zn2,zn3,zn4,zn5,zn6,reduceCtorEq,zn7,zi1,zi2,if_pos,if_neg,Int.reduceAdd]) (VMap.ag rfl λj x y hx hy=> ?_) trivial
    match j,hx,hy with
    |0,hx,hy=>cases hx;cases hy;exact VMap.sc _
    |1,hx,hy=>cases hx;cases hy;exact VMap.sc _
    |2,hx,hy=>cases hx;cases hy;exact VMap.cap rfl om
end
section
open Go.RowKit
set_option maxRecDepth 8000 in
theorem rident_s(n:Nat)(hn:n<=1000000):Spec Tryz.prog 43 [.sc (.int .i64 n)] (mat n (idL n)):=by
 have c0:=rnew_s n n 1 hn hn;have c1:=of_i 1 om om;unfold iv sv at c1;refine qF Tryz.func43 Tryz.ntmps43 λB hB=> ?_;refine qWD ?_;refine SO.inlQ qS Tab.go75 qS qS (SInlQ.newR c0 ?_ ?_ ?_);·exact klc om kln
 ·exact λx hp' nx' h=>matQ_new h
 rintro x hp' nx ⟨o,ids,hR,rfl,rfl⟩;have ho:=hR.o1;rw[zeroL_len]at hR⊢;rw[mkM_zero];refine qWD ?_;have e0:mkM n n (λ_ _=>0)=mkM n n (λr c=>if r=c/\r<0 then 1 else 0):=mkM_congr λr c _ _=>by rw[if_neg om]
 rw[e0];refine SC.loop (λi:Nat=>⟨[(0,.sc (.int .i64 n)),(2,.pt 0 0),(3,.pt nx 0),(4,.sc (.int .i64 i))],(nx,⟨28,[.sc (.int .i64 n),.sc (.int .i64 n),.sl o 0 n 1 none],false⟩)::(0,⟨28,[.sc (.int .i64 0),.sc (.int .i64 0),.sc (.slice none 0 0)],false⟩)::(o,⟨41,slR 2 n ids,false⟩)::rowsH 68 ids (rI (mkM n n (λr c=>if r=c/\r<i then 1 else 0))),nx+1,22⟩)
  (λi=>i<=n) (λi=>n-i) 0 ?_ ?_ ?_
 ·exact qM
 ·exact znc _
 ·intro i hi K hK;have hidl:=hR.len;have g1:=slR_len 2 n ids;rw[hidl]at g1;by_cases hc:i<n
  ·have q1:=decide_eq_true (p:=(i:Int)<(n:Int)) om;have gi:=slR_get (z:=2) (m:=n) (ids:=ids) (k:=i) om;obtain⟨gR,gl,gd,gs,hrs⟩:=cellF (ty:=68) (f:=λr c=>if r=c/\r<i then(1:Int)else 0) (z:=1) (j:=i) hR.nod hidl hc hc;have e1:mkM n n (λr c=>if r=i/\c=i then(1:Int)else if r=c/\r<i then 1 else 0)=mkM n n (λr c=>if r=c/\r<i+1 then 1 else 0):=mkM_congr λr c _ _=>by
    by_cases e:r=i/\c=i;·rw[if_pos e,if_pos om]
    ·rw[if_neg e];by_cases e2:r=c/\r<i;·rw[if_pos e2,if_pos om]
     ·rw[if_neg e2,if_neg om]
   rw[e1]at hrs;have hkl:=klB_rows (ty:=68) (rs:=rI (mkM n n λr c=>if r=c/\r<i then(1:Int)else 0)) (n:=nx+1) (λj hj=>by have:=hR.lt j hj;omega);have hmem:=getD_mem' (ids:=ids) (k:=i) om;have hidk:=hR.lt _ hmem;have hne:ids.getD i 0≠o:=λe=>hR.o2 (by rw[<-e];exact hmem);generalize hH:rowsH 68 ids (rI (mkM n n λr c=>if r=c/\r<i then(1:Int)else 0))=H at*;generalize mkR n (λc=>if i=c/\i<i then(1:Int)else 0)=row at*;generalize ids.getD i 0=idk at*;unfold ivC sv at gs;have g2:i*2<(ivR row).length:=by omega
   refine qWDf (Q9 @q1 @g1 @gi @gR @gl @gs @hrs @g2 @hkl) ?_;refine hK _ (i+1) ?_ om om;exact qM
  ·have q1:=decide_eq_false (p:=(i:Int)<(n:Int)) om;have hin:i=n:=by omega
   subst hin;have e1:mkM i i (λr c=>if r=c/\r<i then(1:Int)else 0)=idL i:=mkM_congr λr c hr _=>by
    by_cases e:r=c;·rw[if_pos ⟨e,hr⟩,if_pos e]
    ·rw[if_neg (λh=>e h.1),if_neg e]
   rw[e1];have hA:MI i i 1 (idL i):=mk_mi λr c _ _=>fits01;have hAl:=hA.len;by_cases h0:i=0
   ·subst h0;have hids:ids=[]:=List.eq_nil_of_length_eq_zero om;subst hids
    (repeat(first|refine DO.nilF (λi=>i+1-nx) (by simp(disch:=omega) only[go_sem,↓reduceIte,zn1,zn2,zn3,zn4,zn5,zn6,reduceCtorEq,zn7,zi1,zi2,if_pos,if_neg,Int.reduceAdd,zld,zle,Option.map_some,Option.map_none,znd,zne,znf]<;>rfl) (by kernel_rfl) ?_|(with_reducible refine SC.condB (qTf @q1) ?_;first|with_reducible refine pickT ?_|with_reducible refine pickF ?_)|(with_reducible refine qO ?_)|((with_reducible apply SC.region);(focus(simp(disch:=omega) only[go_sem,↓reduceIte,zn1,zn2,zn3,zn4,zn5,zn6,reduceCtorEq,zn7,zi1,zi2,if_pos,if_neg,Int.reduceAdd,q1];rfl)))|(with_reducible refine SC.draw Tab.mixed rfl ?_;(repeat(refine DO.run (qTf @q1) ?_));refine DO.nilF (λi=>i+1-nx) (by simp(disch:=omega) only[go_sem,↓reduceIte,zn1,zn2,zn3,zn4,zn5,zn6,reduceCtorEq,zn7,zi1,zi2,if_pos,if_neg,Int.reduceAdd,zld,zle,Option.map_some,Option.map_none,znd,zne,znf]<;>rfl) (by kernel_rfl) ?_)))
    exact qE Tryz.results43
   ·have hrows: ∀C D:List V,∀k,k<ids.length->hget ((nx,(⟨28,C,false⟩:Blk))::(0,⟨28,D,false⟩)::(o,⟨41,slR 2 i ids,false⟩)::rowsH 68 ids (rI (idL i))) (ids.getD k 0)=some ⟨68,(rI (idL i)).getD k [],false⟩:=by
     intro C D k hk;have hm:=getD_mem' hk;have:=hR.lt _ hm;simp only[hget];rw[if_neg om,if_neg om,if_neg (λe=>hR.o2 (by rw[<-e];exact hm))];exact rows_get hR.nod hk (by rw[rI_len];omega)
    have hfz:=λC D:List V=>frz_rowsA (n:=5) (z:=2) (m:=i) (ty:=68) (ids:=ids) (rs:=rI (idL i)) om (by rw[rI_len];omega) (hrows C D) (rI_rows hA);have hsl:=slR_some (z:=2) (m:=i) (ids:=ids) om;have ht:(slR 2 i ids).take i=slR 2 i ids:=zla om;have hne:nx≠o:=by omega
    unfold mat;rw[hAl]
    (repeat(first|refine DO.nilF (λi=>i+1-nx) (by simp(disch:=omega) only[go_sem,↓reduceIte,zn1,zn2,zn3,zn4,zn5,zn6,reduceCtorEq,zn7,zi1,zi2,if_pos,if_neg,Int.reduceAdd,zld,zle,Option.map_some,Option.map_none,znd,zne,znf]<;>rfl) (by kernel_rfl) ?_|(with_reducible refine SC.condB (qTf @q1) ?_;first|with_reducible refine pickT ?_|with_reducible refine pickF ?_)|(with_reducible refine qO ?_)|((with_reducible apply SC.region);(focus(simp(disch:=omega) only[go_sem,↓reduceIte,zn1,zn2,zn3,zn4,zn5,zn6,reduceCtorEq,zn7,zi1,zi2,if_pos,if_neg,Int.reduceAdd,q1];rfl)))|(with_reducible refine SC.draw Tab.mixed rfl ?_;(repeat(refine DO.run (qTf @q1) ?_));refine DO.nilF (λi=>i+1-nx) (by simp(disch:=omega) only[go_sem,↓reduceIte,zn1,zn2,zn3,zn4,zn5,zn6,reduceCtorEq,zn7,zi1,zi2,if_pos,if_neg,Int.reduceAdd,zld,zle,Option.map_some,Option.map_none,znd,zne,znf]<;>rfl) (by kernel_rfl) ?_)))
    exact retQ_ret Tryz.results43 qS (qSf (Q4 @hfz @hsl @ht @g1)) rfl
end
section
open Go.RowKit
def dotI(f g:Nat->Int):Nat->Int
 |0=>0
 |k+1=>dotI f g k+f k*g k
def ent2(M:List (List Int))(r c:Nat):Int:=(M.getD r []).getD c 0
def mulM(h n w:Nat)(A C:List (List Int)):List (List Int):=mkM h w λr c=>dotI (λt=>ent2 A r t) (λt=>ent2 C t c) n
def Fm(n:Nat)(A C:List (List Int))(i j k r c:Nat):Int:=
 if r<i\/(r=i/\c<j)then dotI (λt=>ent2 A r t) (λt=>ent2 C t c) n else if r=i/\c=j then dotI (λt=>ent2 A r t) (λt=>ent2 C t c) k else 0
theorem dot_fits{f g:Nat->Int}{K:Nat}: ∀{k:Nat},k<=1000000->(∀t,t<k->Fits K (f t)/\Fits K (g t))->Fits (2*K+1) (dotI f g k):=by
 intro k hk hf;have key: ∀m,m<=k->(dotI f g m).natAbs<=m*(4294967296^K*4294967296^K):=by
  intro m hm;induction m with
  |zero=>simp[dotI]
  | succ m ih=>
   have h1:=ih om;obtain⟨h2,h3⟩:=hf m om;unfold Fits at h2 h3;have h4:(f m*g m).natAbs<=4294967296^K*4294967296^K:=by rw[Int.natAbs_mul];exact Nat.mul_le_mul (Nat.le_of_lt h2) (Nat.le_of_lt h3)
   have h5:=Int.natAbs_add_le (dotI f g m) (f m*g m);rw[dotI,Nat.add_mul,zna];omega
 have h1:=key k (znb _);unfold Fits;have e:4294967296^(2*K+1)=4294967296*(4294967296^K*4294967296^K):=by rw[Nat.pow_succ,Nat.two_mul,Nat.pow_add,Nat.mul_comm]
 rw[e];have h3:0<4294967296^K*4294967296^K:=Nat.mul_pos (Nat.pow_pos om) (Nat.pow_pos om);generalize 4294967296^K*4294967296^K=T at*
 calc _<=k*T:=h1
  _<4294967296*T:=Nat.mul_lt_mul_of_pos_right om h3
set_option maxRecDepth 8000 in
theorem rmul_s{h n w K:Nat}{A C:List (List Int)}(hA:MI h n K A)(hC:MI n w K C)(hK:K<=100000000000)(hn:h<=1000000)(hnn:n<=1000000)(hw:w<=1000000):
  Spec Tryz.prog 125 [mat n A,mat w C] (.tu [mat w (mulM h n w A C),.sc (.int .i64 0)]):=by
 have c0:=rnew_s h w 3 hn hw;have hAl:=hA.len;have hCl:=hC.len;have hml:(mulM h n w A C).length=h:=mkM_len;have gA:=imI_len n A;have gC:=imI_len w C;unfold mat;rw[hml];rw[hAl]at gA⊢;rw[hCl]at gC⊢;refine qF Tryz.func125 Tryz.ntmps125 λB hB=> ?_;refine qWD ?_;refine SO.inlQ qS Tab.go75 qS qS (SInlQ.newR c0 ?_ ?_ ?_);·exact klc om (klc om (klc om kln))
 ·exact λx hp' nx' h=>matQ_new h
 rintro x hp' nx ⟨o,ids,hR,rfl,rfl⟩;have ho:=hR.o1;rw[zeroL_len]at hR⊢;have e0:zeroL h w=mkM h w (Fm n A C 0 0 0):=by
  rw[mkM_zero];exact mkM_congr λr c _ _=>by unfold Fm;rw[if_neg om];split<;>rfl
 rw[e0];have hidl:=hR.len;have g1:=slR_len 2 w ids;rw[hidl]at g1;refine qWD ?_;refine SC.loop (λi:Nat=>⟨[(2,.pt 0 0),(3,.pt 1 0),(4,.pt 2 0),(6,.pt nx 0),(7,.sc (.int .i64 i))],(nx,⟨28,[.sc (.int .i64 h),.sc (.int .i64 w),.sl o 0 h 1 none],false⟩)::(2,⟨28,[.sc (.int .i64 0),.sc (.int .i64 0),.sc (.slice none 0 0)],false⟩)::(1,⟨28,[.sc (.int .i64 n),.sc (.int .i64 w),.im (imR w (rI C)) n],false⟩)::(0,⟨28,[.sc (.int .i64 h),.sc (.int .i64 n),.im (imR n (rI A)) h],false⟩)::(o,⟨41,slR 2 w ids,false⟩)::rowsH 68 ids (rI (mkM h w (Fm n A C i 0 0))),nx+1,73⟩)
  (λi=>i<=h) (λi=>h-i) 0 ?_ ?_ ?_
 ·exact qM
 ·exact znc _
 ·intro i hi K1 hK1;by_cases hc:i<h
  ·have q1:=decide_eq_true (p:=(i:Int)<(h:Int)) om;refine qWDf @q1 ?_;refine SC.loop (λj:Nat=>⟨[(2,.pt 0 0),(3,.pt 1 0),(4,.pt 2 0),(6,.pt nx 0),(7,.sc (.int .i64 i)),(8,.sc (.int .i64 j))],(nx,⟨28,[.sc (.int .i64 h),.sc (.int .i64 w),.sl o 0 h 1 none],false⟩)::(2,⟨28,[.sc (.int .i64 0),.sc (.int .i64 0),.sc (.slice none 0 0)],false⟩)::(1,⟨28,[.sc (.int .i64 n),.sc (.int .i64 w),.im (imR w (rI C)) n],false⟩)::(0,⟨28,[.sc (.int .i64 h),.sc (.int .i64 n),.im (imR n (rI A)) h],false⟩)::(o,⟨41,slR 2 w ids,false⟩)::rowsH 68 ids (rI (mkM h w (Fm n A C i j 0))),nx+1,73⟩)
    (λj=>j<=w) (λj=>w-j) 0 ?_ ?_ ?_
   ·exact qM
   ·exact znc _
   ·intro j hj K2 hK2;by_cases hc2:j<w
    ·have q2:=decide_eq_true (p:=(j:Int)<(w:Int)) om;refine qWDf @q2 ?_;refine SC.loop (λk:Nat=>⟨[(2,.pt 0 0),(3,.pt 1 0),(4,.pt 2 0),(6,.pt nx 0),(7,.sc (.int .i64 i)),(8,.sc (.int .i64 j)),(9,.sc (.int .i64 k))],(nx,⟨28,[.sc (.int .i64 h),.sc (.int .i64 w),.sl o 0 h 1 none],false⟩)::(2,⟨28,[.sc (.int .i64 0),.sc (.int .i64 0),.sc (.slice none 0 0)],false⟩)::(1,⟨28,[.sc (.int .i64 n),.sc (.int .i64 w),.im (imR w (rI C)) n],false⟩)::(0,⟨28,[.sc (.int .i64 h),.sc (.int .i64 n),.im (imR n (rI A)) h],false⟩)::(o,⟨41,slR 2 w ids,false⟩)::rowsH 68 ids (rI (mkM h w (Fm n A C i j k))),nx+1,73⟩)
      (λk=>k<=n) (λk=>n-k) 0 ?_ ?_ ?_
     ·exact qM
     ·exact znc _
     ·intro k hk K3 hK3;by_cases hc3:k<n
      ·have q3:=decide_eq_true (p:=(k:Int)<(n:Int)) om;have gi:=slR_get (z:=2) (m:=w) (ids:=ids) (k:=i) om;have hfx:=hA.fit hc hc3;have hfy:=hC.fit hc3 hc2;have hfd:=dot_fits (f:=λt=>ent2 A i t) (g:=λt=>ent2 C t j) (K:=K) (k:=k) om (λt ht=>⟨hA.fit hc om,hC.fit om hc2⟩);obtain⟨gR,gl,gd,gs,hrs⟩:=cellF (ty:=68) (f:=Fm n A C i j k) (z:=dotI (λt=>ent2 A i t) (λt=>ent2 C t j) k+ent2 A i k*ent2 C k j) (j:=j) hR.nod hidl hc hc2;have e1:(mkM h w λr c=>if r=i/\c=j then dotI (λt=>ent2 A i t) (λt=>ent2 C t j) k+ent2 A i k*ent2 C k j else Fm n A C i j k r c)=mkM h w (Fm n A C i j (k+1)):=mkM_congr λr c _ _=>by
        unfold Fm;by_cases e:r=i/\c=j
        ·obtain⟨rfl,rfl⟩:=e;rw[if_pos ⟨rfl,rfl⟩,if_neg om,if_pos ⟨rfl,rfl⟩,dotI]
        ·rw[if_neg e,if_neg e,if_neg e]
       rw[e1]at hrs;have e2:Fm n A C i j k i j=dotI (λt=>ent2 A i t) (λt=>ent2 C t j) k:=by unfold Fm;rw[if_neg om,if_pos ⟨rfl,rfl⟩]
       rw[e2]at gd;have gAi:=imI_get (w:=n) (M:=A) (i:=i) om;have gCk:=imI_get (w:=w) (M:=C) (i:=k) om;have hAi:=hA.get hc;have hCk:=hC.get hc3;have gdA:=ivR_drop (l:=A.getD i []) (i:=k) om;have gdC:=ivR_drop (l:=C.getD k []) (i:=j) om;have glA:=ivR_len (A.getD i []);have glC:=ivR_len (C.getD k []);have hx:(A.getD i []).getD k 0=ent2 A i k:=rfl;have hy:(C.getD k []).getD j 0=ent2 C k j:=rfl;rw[hx]at gdA hfx;rw[hy]at gdC hfy;rw[hAi.1]at glA;rw[hCk.1]at glC;have c1:=mul_i (ent2 A i k) (ent2 C k j) K hfx hfy om;have hxy:Fits (2*K+1) (ent2 A i k*ent2 C k j):=by have:=dot_fits (f:=λ_=>ent2 A i k) (g:=λ_=>ent2 C k j) (K:=K) (k:=1) om (λ_ _=>⟨hfx,hfy⟩);simpa[dotI]using this
       have c2:=add_i _ _ (2*K+1) hfd hxy om;have hkl:=klB_rows (ty:=68) (rs:=rI (mkM h w (Fm n A C i j k))) (n:=nx+1) (λj hj=>by have:=hR.lt j hj;omega);have hmem:=getD_mem' (ids:=ids) (k:=i) om;have hidk:=hR.lt _ hmem;have hne:ids.getD i 0≠o:=λe=>hR.o2 (by rw[<-e];exact hmem);clear hfx hfy hfd hxy e1 e2 hx hy;generalize hH:rowsH 68 ids (rI (mkM h w (Fm n A C i j k)))=H at*;generalize mkR w (Fm n A C i j k i)=row at*;generalize ids.getD i 0=idk at*;generalize dotI (λt=>ent2 A i t) (λt=>ent2 C t j) k=d at*;generalize ent2 A i k=x at*;generalize ent2 C k j=y at*;generalize(ivR row).drop ((j+1)*2)=D1 at*;generalize(ivR (A.getD i [])).drop ((k+1)*2)=D2 at*;generalize(ivR (C.getD k [])).drop ((j+1)*2)=D3 at*;generalize ivR (A.getD i [])=RA at*;generalize ivR (C.getD k [])=RC at*;generalize hRr:ivR row=RR at*;unfold iv sv at c1 c2;unfold ivC sv at gs gd gdA gdC;simp only[zl8,zl7]at gd gdA gdC;have g2:j*2<RR.length:=by omega
       have g3:k*2<RA.length:=by omega
       have g4:j*2<RC.length:=by omega
       refine qWDf (Q21 @q3 @g1 @gi @gR @gl @gd @gs @hrs @g2 @g3 @g4 @glA @glC @gAi @gCk @gdA @gdC @gA @gC @hkl @gD) ?_;refine hK3 _ (k+1) ?_ om om;exact qM
      ·have q3:=decide_eq_false (p:=(k:Int)<(n:Int)) om;have hkn:k=n:=by omega
       subst hkn;refine qWDf @q3 ?_;refine hK2 _ (j+1) ?_ om om;have e1:mkM h w (Fm k A C i j k)=mkM h w (Fm k A C i (j+1) 0):=mkM_congr λr c _ _=>by
        unfold Fm;by_cases e:r<i\/(r=i/\c<j);·rw[if_pos e,if_pos om]
        ·rw[if_neg e];by_cases e2:r=i/\c=j;·rw[if_pos e2,if_pos om]
         ·rw[if_neg e2,if_neg om];split<;>rfl
       rw[e1];exact qM
    ·have q2:=decide_eq_false (p:=(j:Int)<(w:Int)) om;have hjw:j=w:=by omega
     subst hjw;refine qWDf @q2 ?_;refine hK1 _ (i+1) ?_ om om;have e1:mkM h j (Fm n A C i j 0)=mkM h j (Fm n A C (i+1) 0 0):=mkM_congr λr c _ hcj=>by
      unfold Fm;by_cases e:r<i\/(r=i/\c<j);·rw[if_pos e,if_pos om]
      ·rw[if_neg e,if_neg om,if_neg om];split<;>rfl
     rw[e1];exact qM
  ·have q1:=decide_eq_false (p:=(i:Int)<(h:Int)) om;have hih:i=h:=by omega
   subst hih;have e1:mkM i w (Fm n A C i 0 0)=mulM i n w A C:=mkM_congr λr c hr _=>by unfold Fm;rw[if_pos (.inl hr)]
   rw[e1];have hM:MI i w (2*K+1) (mulM i n w A C):=mk_mi λr c hr hc=>dot_fits om (λt ht=>⟨hA.fit hr ht,hC.fit ht hc⟩);generalize mulM i n w A C=Z at*;have hZl:=hM.len;by_cases h0:i=0
   ·subst h0;have hids:ids=[]:=List.eq_nil_of_length_eq_zero om;have hZ:Z=[]:=List.eq_nil_of_length_eq_zero om;subst hids;subst hZ;refine qWDf @q1 ?_;exact qE Tryz.results125
   ·have hrows: ∀C1 C2 C3 C4:List V,∀k,k<ids.length->hget ((nx,(⟨28,C1,false⟩:Blk))::(2,⟨28,C2,false⟩)::(1,⟨28,C3,false⟩)::(0,⟨28,C4,false⟩)::(o,⟨41,slR 2 w ids,false⟩)::rowsH 68 ids (rI Z)) (ids.getD k 0)=some ⟨68,(rI Z).getD k [],false⟩:=by
     intro C1 C2 C3 C4 k hk;have hm:=getD_mem' hk;have:=hR.lt _ hm;simp only[hget];rw[if_neg om,if_neg om,if_neg om,if_neg om,if_neg (λe=>hR.o2 (by rw[<-e];exact hm))];exact rows_get hR.nod hk (by rw[rI_len];omega)
    have hfz:=λC1 C2 C3 C4:List V=>frz_rowsA (n:=4) (z:=2) (m:=w) (ty:=68) (ids:=ids) (rs:=rI Z) om (by rw[rI_len];omega) (hrows C1 C2 C3 C4) (rI_rows hM);have hsl:=slR_some (z:=2) (m:=w) (ids:=ids) om;have ht:(slR 2 w ids).take i=slR 2 w ids:=zla om;have hne:nx≠o:=by omega
    refine qWDf @q1 ?_;exact retQ_ret Tryz.results125 qS (qSf (Q4 @hfz @hsl @ht @g1)) rfl
theorem rprod_s{h n w K:Nat}{A C:List (List Int)}(hA:MI h n K A)(hC:MI n w K C)(hK:K<=100000000000)(hn:h<=1000000)(hnn:n<=1000000)(hw:w<=1000000):
  Spec Tryz.prog 98 [mat n A,mat w C] (mat w (mulM h n w A C)):=by
 have c0:=rmul_s hA hC hK hn hnn hw;unfold mat at*;refine qF Tryz.func98 Tryz.ntmps98 λB hB=> ?_;refine qWD ?_;exact qE Tryz.results98
end
section
open Go.RowKit
def invO(o:OpL):OpL:=⟨o.kd,o.i,o.j,-o.k⟩
def invL(l:List OpL):List OpL:=(l.map invO).reverse
theorem invO_ok{n:Nat}{o:OpL}(h:OkOp n o):OkOp n (invO o):=by
 refine⟨h.i,?_,?_⟩
 ·have:=h.k;unfold Fits at*;show(-o.k).natAbs<_;rwa[Int.natAbs_neg]
 ·rcases h.c with⟨a,b,c,d⟩|⟨a,b,d⟩|⟨a,b,c⟩;·exact .inl ⟨a,b,c,by show-o.k=0;omega⟩
  ·exact .inr (.inl ⟨a,b,by show-o.k=0;omega⟩)
  ·exact .inr (.inr ⟨a,b,c⟩)
theorem invL_ok{n:Nat}{l:List OpL}(h: ∀o∈l,OkOp n o): ∀o∈invL l,OkOp n o:=by intro o ho;simp only[invL,List.mem_reverse,List.mem_map]at ho;obtain⟨p,hp,rfl⟩:=ho;exact invO_ok (h p hp)
theorem invL_len(l:List OpL):(invL l).length=l.length:=by simp[invL]
theorem mkOps:mkOf Tryz.prog 32=some (80,56,[.int .i64 0,.int .i64 0,.int .i64 0,.bool false,.slice none 0 0]):=by kernel_rfl
@[go_sem high] theorem exMake_ops {n nx:Nat} (hn:n<=2000000000):exMake Tryz.prog 32 nx (.sc (.int .i64 0)) (.sc (.int .i64 (n:Int)))=some (.sl nx 0 0 5 (some n),.new ⟨80,reps n [.sc (.int .i64 0),.sc (.int .i64 0),.sc (.int .i64 0),.sc (.bool false),.sc (.slice none 0 0)],false⟩):=by
 have hc:(0:Int)<=0/\(0:Int)<=(n:Int)/\(n:Int)<1125899906842624/\((56:Nat):Int)*(n:Int)<=140737488355328:=⟨by omega,by omega,by omega,by omega⟩
 rw[exMake_eq,mkOps,Option.bind_some];exact if_pos hc
theorem run1_mks{ops:Array Oper}{sl:List (Nat×V)}{hp:List (Nat×Blk)}{nx nt n t d:Nat}{ty:TypeId}{pos:String}{aft:Array Edge}(hn:n<=2000000000)(ht:get sl t= .sc (.int .i64 (n:Int)))(hd:d<nt):
  run1 Tryz.prog ops ⟨sl,hp,nx,nt⟩ ⟨some d,.makeSlice 32 (.const (.int .i64 0)) (.tmp t),ty,pos,aft,none⟩=some ((⟨sl,hp,nx,nt⟩:SS).put (some d) (.sl nx 0 0 5 (some n)) (.new ⟨80,reps n [.sc (.int .i64 0),.sc (.int .i64 0),.sc (.int .i64 0),.sc (.bool false),.sc (.slice none 0 0)],false⟩)):=by
 have h1:exOp Tryz.prog sl hp nx (.makeSlice 32 (.const (.int .i64 0)) (.tmp t))=some (.sl nx 0 0 5 (some n),.new ⟨80,reps n [.sc (.int .i64 0),.sc (.int .i64 0),.sc (.int .i64 0),.sc (.bool false),.sc (.slice none 0 0)],false⟩):=by rw[exOp_makeSlice];show exMake _ _ _ _ (get sl t)=_;rw[ht];exact exMake_ops hn
 have h2:dstOk (some d) nt=true:=by simp[dstOk,hd]
 unfold run1;rw[if_pos h2];have hg:guardV ops sl none=some true:=rfl;simp only[hg,h1];rfl
theorem reps1(l:List V):reps 1 l=l:=by unfold reps;split<;>simp
theorem opsC_app(a b:List OpL):opsC (a++b)=opsC a++opsC b:=by
 induction a with
 |nil=>rfl
 |cons x r ih=>rw[zl8,opsC,opsC,ih,zl6]
theorem invL_take{l:List OpL}{k:Nat}(h:k<l.length):(invL l).take (k+1)=(invL l).take k++ [invO (l.getD (l.length-1-k) ⟨0,0,0,0⟩)]:=by have hl:=invL_len l;rw[take_snoc (d:=⟨0,0,0,0⟩) om];congr 2;unfold invL;rw[List.getD_eq_getElem?_getD,List.getElem?_reverse (by rw[List.length_map];exact h),List.getElem?_map,List.length_map,List.getD_eq_getElem?_getD];rw[zlb om];rfl
theorem invO_k0{o:OpL}(h:o.k=0):invO o=o:=by obtain⟨a,b,c,d⟩:=o;simp only at h;subst h;rfl
theorem opsC_one(l:List OpL):(opsC l).all V.one=true:=by
 induction l with
 |nil=>rfl
 |cons x r ih=>rw[opsC,List.all_append,ih];rfl
theorem opsC_clo(l:List OpL):(opsC l).all clo=true:=by
 induction l with
 |nil=>rfl
 |cons x r ih=>rw[opsC,List.all_append,ih];rfl
end
section
open Go.RowKit
attribute [-go_sem] exMake_eq
set_option maxRecDepth 8000 in
theorem iinv_s{n:Nat}{l:List OpL}(h: ∀o∈l,OkOp n o)(hl:l.length<=1000000000):Spec Tryz.prog 83 [.im (opsC l) l.length] (.im (opsC (invL l)) l.length):=by
 refine qF Tryz.func83 Tryz.ntmps83 λB hB=> ?_;refine SC.seq ?_;refine SC.region qT ?_;refine SC.seq ?_;refine SC.ops ?_;refine SO.run qT ?_;refine SO.run qT ?_;refine SO.run (run1_mks (n:=l.length) om (by simp(disch:=omega) only[go_sem,↓reduceIte,zn1,zn2,zn3,zn4,zn5,zn6,reduceCtorEq,zn7,zi1,zi2,if_pos,if_neg,Int.reduceAdd]) om) ?_;refine qW ?_;refine SC.loop (λk:Nat=>⟨[(0,.im (opsC l) l.length),(2,.sc (.slice none 0 0)),(3,.sl 0 0 k 5 none),(4,.sc (.int .i64 ((l.length:Int)-1-(k:Int))))],[(0,⟨80,opsC ((invL l).take k),false⟩)],1,32⟩)
  (λk=>k<=l.length) (λk=>l.length-k) 0 ?_ ?_ ?_
 ·refine Le.map (λi=>i) (λi=>i<1) hB (λi hi=>by omega) (λi h=>h) (λi j _ _ e=>e) ?_ (λi k' hk' hlt=> ?_)
  ·have e:(l.length:Int)-1-((0:Nat):Int)=(l.length:Int)-1:=by omega
   rw[e];exact qN
  ·simp only[hget]at hk';split at hk'
   ·rename_i e;subst e;cases hk';exact⟨_,rfl,rfl,rfl,λj y hy=>by cases hy⟩
   ·cases hk'
 ·exact znc _
 ·intro k hk K hK;have hil:=invL_len l;have gl:=opsC_len ((invL l).take k);rw[List.length_take,hil,Nat.min_eq_left hk,Nat.mul_comm]at gl;by_cases hc:k<l.length
  ·have q1:decide ((0:Int)<=(l.length:Int)-1-(k:Int))=true:=decide_eq_true om;have hix:((l.length:Int)-1-(k:Int)).toNat=l.length-1-k:=by omega
   have g1:=opsC_drop (l:=l) (i:=l.length-1-k) om;have g2:(l.length-1-k)*5<(opsC l).length:=by rw[opsC_len];omega
   have hok:=h _ (getD_mem (d:=⟨0,0,0,0⟩) (l:=l) (i:=l.length-1-k) om);have hts:=invL_take hc;have hone:=opsC_one ((invL l).take k);have hnew:opsC ((invL l).take (k+1))=opsC ((invL l).take k)++opC (invO (l.getD (l.length-1-k) ⟨0,0,0,0⟩)):=by rw[hts,opsC_app];show _++(_++ [])=_;rw[List.append_nil]
   have ht:(opsC ((invL l).take k)).take (k*5)=opsC ((invL l).take k):=zla om;have hclo:=opsC_clo ((invL l).take (k+1));generalize l.getD (l.length-1-k) ⟨0,0,0,0⟩=op at*;generalize(opsC l).drop ((l.length-1-k+1)*5)=D at*;generalize opsC ((invL l).take k)=Z at*;generalize hZ':opsC ((invL l).take (k+1))=Z' at*;by_cases h3:op.kd=3
   ·obtain⟨kd,a,b,f⟩:=op;simp only at h3;subst h3;have c1:=pneg_i f OL hok.k (by have:=OL_le;omega);unfold opC invO at hnew;unfold opC at g1;unfold iv sv at c1;unfold sv at hnew g1;simp only[zl8,zl7]at g1;simp only at hnew;have q3:(((3:Nat):Int)==3)=true:=rfl;refine qWf (Q9 @q1 @hix @g1 @g2 @q3 @gl @ht @hone @reps1) ?_;refine hK _ (k+1) ?_ om om;simp only[hZ',hnew];rw[hnew]at hclo;refine Le.ren 0 3 hB om om om ?_ ?_;·exact qN
    ·(repeat' (first|exact mapHp_nil|refine mapHp_cons (qSf @hclo) ?_ ?_|exact BMap.clo (by first|rfl|assumption|exact wv_clo _|exact imR_clo _ _|exact nv_clo _)|refine BMap.list ?_|exact mapL_nil|refine mapL_cons ?_ ?_|exact VMap.junk _|exact VMap.sc _|exact VMap.clo rfl|exact VMap.sl rfl om|exact VMap.cap rfl om|exact VMap.pt rfl om|exact VMap.nil_sl _ _ _|exact VMap.int (by first|rfl|omega|(dsimp only;omega))))
   ·have hk0:op.k=0:=by rcases hok.c with⟨_,_,_,d⟩|⟨_,_,d⟩|⟨d,_⟩;exact d;exact d;exact absurd d h3
    rw[invO_k0 hk0]at hnew;obtain⟨kd,a,b,f⟩:=op;simp only at h3;unfold opC sv at hnew g1;simp only[zl8,zl7]at g1;simp only at hnew;have q3:((kd:Int)==3)=false:=by rw[beq_eq_false_iff_ne];omega
    refine qWf (Q9 @q1 @hix @g1 @g2 @q3 @gl @ht @hone @reps1) ?_;refine hK _ (k+1) ?_ om om;simp only[hZ',hnew];rw[hnew]at hclo;refine Le.ren 0 3 hB om om om ?_ ?_;·exact qN
    ·(repeat' (first|exact mapHp_nil|refine mapHp_cons (qSf @hclo) ?_ ?_|exact BMap.clo (by first|rfl|assumption|exact wv_clo _|exact imR_clo _ _|exact nv_clo _)|refine BMap.list ?_|exact mapL_nil|refine mapL_cons ?_ ?_|exact VMap.junk _|exact VMap.sc _|exact VMap.clo rfl|exact VMap.sl rfl om|exact VMap.cap rfl om|exact VMap.pt rfl om|exact VMap.nil_sl _ _ _|exact VMap.int (by first|rfl|omega|(dsimp only;omega))))
  ·have q1:decide ((0:Int)<=(l.length:Int)-1-(k:Int))=false:=decide_eq_false om;have hkl:k=l.length:=by omega
   have hz:(invL l).take k=invL l:=zla om;have hclo:=opsC_clo (invL l);have ht:(opsC (invL l)).take (k*5)=opsC (invL l):=by rw[<-hz];exact zla om
   rw[hz]at gl⊢;rw[hkl]at gl ht;refine qWf @q1 ?_;rw[hkl];exact retQ_ret Tryz.results83 qS (qSf (Q3 @hclo @ht @gl)) rfl
theorem iundo_s{h w K:Nat}{M:List (List Int)}{l:List OpL}(hM:MI h w K M)(hl: ∀o∈l,OkOp h o)(hS: ∀i,i<=l.length->MI h w K (actsO M ((invL l).take i)))(hK:K<=90000000000)(hll:l.length<=1000000000)(hn:h<=1000000)(hw:w<=1000000):
  Spec Tryz.prog 50 [.im (opsC l) l.length,mat w M] (.tu [mat w (actsO M (invL l)),.sc (.int .i64 0)]):=by
 have hml:=hM.len;have c1:=ivalid_s hl hn om;have c2:=iinv_s hl om;have c3:=iapply_s (l:=invL l) hM (invL_ok hl) (by rw[invL_len];exact hS) hK (by rw[invL_len];exact hll) hn hw;rw[invL_len]at c3;generalize actsO M (invL l)=F at*;generalize opsC (invL l)=L at*;unfold mat at*;rw[hml]at*;refine qF Tryz.func50 Tryz.ntmps50 λB hB=> ?_;refine qW ?_;exact qE Tryz.results50
end
section
open Go.RowKit
theorem dot_congr{f f' g g':Nat->Int}: ∀{n:Nat},(∀t,t<n->f t=f' t/\g t=g' t)->dotI f g n=dotI f' g' n
 |0,_=>rfl
 |n+1,h=>by rw[dotI,dotI,dot_congr (λt ht=>h t om),(h n om).1,(h n om).2]
theorem dot_neg{f g:Nat->Int}: ∀{n:Nat},dotI (λt=> -(f t)) g n= -(dotI f g n)
 |0=>rfl
 |n+1=>by rw[dotI,dotI,dot_neg,Int.neg_add,Int.neg_mul]
theorem dot_add{f e g:Nat->Int}{k:Int}: ∀{n:Nat},dotI (λt=>f t+k*e t) g n=dotI f g n+k*dotI e g n
 |0=>by simp[dotI]
 |n+1=>by rw[dotI,dotI,dotI,dot_add,Int.mul_add,Int.add_mul,Int.mul_assoc];omega
theorem dot_unit{g:Nat->Int}{r:Nat}: ∀{n:Nat},dotI (λt=>if r=t then 1 else 0) g n=if r<n then g r else 0
 |0=>by simp[dotI]
 | n+1=>by
  rw[dotI,dot_unit];by_cases e:r=n;·subst e;simp
  ·rw[if_neg e];by_cases h:r<n;·rw[if_pos h,if_pos om];simp
   ·rw[if_neg h,if_neg om];simp
theorem ent_mk{h w r c:Nat}{f:Nat->Nat->Int}(hr:r<h)(hc:c<w):ent2 (mkM h w f) r c=f r c:=by unfold ent2;rw[mkM_get hr,mkR_get hc]
theorem mat_ent{h w K K':Nat}{A C:List (List Int)}(hA:MI h w K A)(hC:MI h w K' C)(he: ∀r c,r<h->c<w->ent2 A r c=ent2 C r c):A=C:=by rw[<-mkM_of hA,<-mkM_of hC];exact mkM_congr he
theorem act_ent{h w K:Nat}{M:List (List Int)}(hM:MI h w K M){o:OpL}(ho:OkOp h o){r c:Nat}(hr:r<h)(hc:c<w):
  ent2 (actO M o) r c=if o.kd=1 then(if r=o.j then ent2 M o.i c else if r=o.i then ent2 M o.j c else ent2 M r c)else if o.kd=2 then(if r=o.i then-(ent2 M r c)else ent2 M r c)else(if r=o.i then ent2 M r c+o.k*ent2 M o.j c else ent2 M r c):=by
 have hl:=hM.len;have hi:=ho.i;unfold actO;by_cases h1:o.kd=1
 ·have hj:o.j<h:=by rcases ho.c with⟨_,hj,_⟩|⟨e,_⟩|⟨e,_⟩<;>omega
  rw[if_pos h1,if_pos h1];unfold ent2;rw[swapI_get om om];by_cases a:r=o.j;·rw[if_pos a,if_pos a]
  ·rw[if_neg a,if_neg a];by_cases b:r=o.i;·rw[if_pos b,if_pos b]
   ·rw[if_neg b,if_neg b]
 ·rw[if_neg h1,if_neg h1];by_cases h2:o.kd=2
  ·rw[if_pos h2,if_pos h2];unfold ent2;rw[getD_set om];by_cases b:r=o.i;·rw[if_pos b,if_pos b,negI_get (by rw[(hM.get hi).1];exact hc),b]
   ·rw[if_neg b,if_neg b]
  ·rw[if_neg h2,if_neg h2];unfold ent2;rw[getD_set om];by_cases b:r=o.i;·rw[if_pos b,if_pos b,addI_get (by rw[(hM.get hi).1];exact hc),b]
   ·rw[if_neg b,if_neg b]
end
section
open Go.RowKit
set_option maxRecDepth 8000 in
theorem rident_q(n n0:Nat)(hn:n<=1000000):InlQ Tryz.prog 43 [.sc (.int .i64 n)] [] n0 (MatQ n (idL n) n0):=by
 have c0:=rnew_s n n (n0+1) hn hn;have c1:=of_i 1 om om;have hil:(idL n).length=n:=mkM_len;unfold iv sv at c1;refine InlQ.run Tryz.func43 rfl Tryz.ntmps43 (by simp) qT λB hB=> ?_;refine qWD ?_;refine SO.inlQ qS Tab.go75 qS qS (SInlQ.newR c0 ?_ ?_ ?_);·exact klc om kln
 ·exact λx hp' nx' h=>matQ_new h
 rintro x hp' nx ⟨o,ids,hR,rfl,rfl⟩;have ho:=hR.o1;have hn0:n0+1-nx=0:=by omega
 have ho0:o+1-nx=0:=by omega
 rw[zeroL_len]at hR⊢;rw[mkM_zero];refine qWD ?_;have e0:mkM n n (λ_ _=>0)=mkM n n (λr c=>if r=c/\r<0 then 1 else 0):=mkM_congr λr c _ _=>by rw[if_neg om]
 rw[e0];refine SC.loop (λi:Nat=>⟨[(0,.sc (.int .i64 n)),(2,.pt n0 0),(3,.pt nx 0),(4,.sc (.int .i64 i))],(nx,⟨28,[.sc (.int .i64 n),.sc (.int .i64 n),.sl o 0 n 1 none],false⟩)::(n0,⟨28,[.sc (.int .i64 0),.sc (.int .i64 0),.sc (.slice none 0 0)],false⟩)::(o,⟨41,slR 2 n ids,false⟩)::rowsH 68 ids (rI (mkM n n (λr c=>if r=c/\r<i then 1 else 0))),nx+1,22⟩)
  (λi=>i<=n) (λi=>n-i) 0 ?_ ?_ ?_
 ·exact qM
 ·exact znc _
 ·intro i hi K hK;have hidl:=hR.len;have g1:=slR_len 2 n ids;rw[hidl]at g1;by_cases hc:i<n
  ·have q1:=decide_eq_true (p:=(i:Int)<(n:Int)) om;have gi:=slR_get (z:=2) (m:=n) (ids:=ids) (k:=i) om;obtain⟨gR,gl,gd,gs,hrs⟩:=cellF (ty:=68) (f:=λr c=>if r=c/\r<i then(1:Int)else 0) (z:=1) (j:=i) hR.nod hidl hc hc;have e1:mkM n n (λr c=>if r=i/\c=i then(1:Int)else if r=c/\r<i then 1 else 0)=mkM n n (λr c=>if r=c/\r<i+1 then 1 else 0):=mkM_congr λr c _ _=>by
    by_cases e:r=i/\c=i;·rw[if_pos e,if_pos om]
    ·rw[if_neg e];by_cases e2:r=c/\r<i;·rw[if_pos e2,if_pos om]
     ·rw[if_neg e2,if_neg om]
   rw[e1]at hrs;have hkl:=klB_rows (ty:=68) (rs:=rI (mkM n n λr c=>if r=c/\r<i then(1:Int)else 0)) (n:=nx+1) (λj hj=>by have:=hR.lt j hj;omega);have hmem:=getD_mem' (ids:=ids) (k:=i) om;have hidk:=hR.lt _ hmem;have hne:ids.getD i 0≠o:=λe=>hR.o2 (by rw[<-e];exact hmem);generalize hH:rowsH 68 ids (rI (mkM n n λr c=>if r=c/\r<i then(1:Int)else 0))=H at*;generalize mkR n (λc=>if i=c/\i<i then(1:Int)else 0)=row at*;generalize ids.getD i 0=idk at*;unfold ivC sv at gs;have g2:i*2<(ivR row).length:=by omega
   refine qWDf (Q9 @q1 @g1 @gi @gR @gl @gs @hrs @g2 @hkl) ?_;refine hK _ (i+1) ?_ om om;exact qM
  ·have q1:=decide_eq_false (p:=(i:Int)<(n:Int)) om;have hin:i=n:=by omega
   subst hin;have e1:mkM i i (λr c=>if r=c/\r<i then(1:Int)else 0)=idL i:=mkM_congr λr c hr _=>by
    by_cases e:r=c;·rw[if_pos ⟨e,hr⟩,if_pos e]
    ·rw[if_neg (λh=>e h.1),if_neg e]
   rw[e1];refine qWDf @q1 ?_;refine retIQ_ret (.ag [.sc (.int .i64 i),.sc (.int .i64 i),.sl o 0 i 1 none]) ((o,⟨41,slR 2 i ids,false⟩)::rowsH 68 ids (rI (idL i))) nx Tryz.results43 qT ⟨o,ids,?_,by rw[hil],rfl⟩ ?_;·rw[hil];exact⟨hR.len,hR.nod,λj hj=>by have:=hR.lt j hj;omega,by omega,hR.o2⟩
   refine Le.rowsDown [] pre0 ⟨n0,hB,by omega⟩ om (λj hj=>(hR.lt j hj).2) (rI_clo _) (less_new (less_new (λid k hk=>hk) (λid k hk=> ?_)) (λid k hk=> ?_)) ?_
   ·rcases inR_rows (λi hi=>hi) id k hk with e|e;·omega
    ·have:=hR.lt _ e;omega
   ·rcases inR_rows (λi hi=>hi) id k hk with e|e;·omega
    ·have:=hR.lt _ e;omega
   ·refine mapSl_cons (x:= .ag [.sc (.int .i64 i),.sc (.int .i64 i),.sl o 0 i 1 none]) (by simp(disch:=omega) only[go_sem,↓reduceIte,zn1,zn2,zn3,zn4,zn5,zn6,reduceCtorEq,zn7,zi1,zi2,if_pos,if_neg,Int.reduceAdd]) (VMap.ag rfl λj x y hx hy=> ?_) trivial
    match j,hx,hy with
    |0,hx,hy=>cases hx;cases hy;exact VMap.sc _
    |1,hx,hy=>cases hx;cases hy;exact VMap.sc _
    |2,hx,hy=>cases hx;cases hy;exact VMap.cap rfl om
end
section
open Go.RowKit
def Sf(A:List (List Int))(k:Int)(i j r c:Nat):Int:=if r<i\/(r=i/\c<j)then ent2 A r c*k else 0
def scaleM(h w:Nat)(A:List (List Int))(k:Int):List (List Int):=mkM h w λr c=>ent2 A r c*k
theorem scaleM_one{h w K:Nat}{A:List (List Int)}(hA:MI h w K A):scaleM h w A 1=A:=by rw[<-mkM_of hA];unfold scaleM;refine mkM_congr λr c _ _=> ?_;rw[Int.mul_one,mkM_of hA];rfl
set_option maxRecDepth 8000 in
theorem rscale_q{h w K:Nat}{A:List (List Int)}{k:Int}(n0:Nat)(hA:MI h w K A)(hk:Fits K k)(hK:K<=100000000000)(hn:h<=1000000)(hw:w<=1000000):
  InlQ Tryz.prog 71 [mat w A,iv k] [] n0 (MatQ w (scaleM h w A k) n0):=by
 have c0:=rnew_s h w (n0+3) hn hw;have hAl:=hA.len;have hml:(scaleM h w A k).length=h:=mkM_len;have gA:=imI_len w A;unfold mat iv sv;rw[hAl]at gA⊢;refine InlQ.run Tryz.func71 rfl Tryz.ntmps71 (by simp) qT λB hB=> ?_;refine qWD ?_;refine SO.inlQ qS Tab.go75 qS qS (SInlQ.newR c0 ?_ ?_ ?_);·exact klc om (klc om (klc om kln))
 ·exact λx hp' nx' h=>matQ_new h
 rintro x hp' nx ⟨o,ids,hR,rfl,rfl⟩;have ho:=hR.o1;have hn0:n0+1-nx=0:=by omega
 have hn1:n0+1+1-nx=0:=by omega
 have hn2:n0+1+1+1-nx=0:=by omega
 have ho0:o+1-nx=0:=by omega
 rw[zeroL_len]at hR⊢;have e0:zeroL h w=mkM h w (Sf A k 0 0):=by rw[mkM_zero];exact mkM_congr λr c _ _=>by unfold Sf;rw[if_neg om]
 rw[e0];have hidl:=hR.len;have g1:=slR_len 2 w ids;rw[hidl]at g1;refine qWD ?_;refine SC.loop (λi:Nat=>⟨[(2,.pt n0 0),(3,.pt (n0+1) 0),(4,.pt (n0+1+1) 0),(5,.pt nx 0),(6,.sc (.int .i64 i))],(nx,⟨28,[.sc (.int .i64 h),.sc (.int .i64 w),.sl o 0 h 1 none],false⟩)::(n0+1+1,⟨28,[.sc (.int .i64 0),.sc (.int .i64 0),.sc (.slice none 0 0)],false⟩)::(n0+1,⟨68,[.sc (.bool (decide (k<0))),.im (lv (limbsOf k.natAbs)) (limbsOf k.natAbs).length],false⟩)::(n0,⟨28,[.sc (.int .i64 h),.sc (.int .i64 w),.im (imR w (rI A)) h],false⟩)::(o,⟨41,slR 2 w ids,false⟩)::rowsH 68 ids (rI (mkM h w (Sf A k i 0))),nx+1,43⟩)
  (λi=>i<=h) (λi=>h-i) 0 ?_ ?_ ?_
 ·exact qM
 ·exact znc _
 ·intro i hi K1 hK1;by_cases hc:i<h
  ·have q1:=decide_eq_true (p:=(i:Int)<(h:Int)) om;refine qWDf @q1 ?_;refine SC.loop (λj:Nat=>⟨[(2,.pt n0 0),(3,.pt (n0+1) 0),(4,.pt (n0+1+1) 0),(5,.pt nx 0),(6,.sc (.int .i64 i)),(7,.sc (.int .i64 j))],(nx,⟨28,[.sc (.int .i64 h),.sc (.int .i64 w),.sl o 0 h 1 none],false⟩)::(n0+1+1,⟨28,[.sc (.int .i64 0),.sc (.int .i64 0),.sc (.slice none 0 0)],false⟩)::(n0+1,⟨68,[.sc (.bool (decide (k<0))),.im (lv (limbsOf k.natAbs)) (limbsOf k.natAbs).length],false⟩)::(n0,⟨28,[.sc (.int .i64 h),.sc (.int .i64 w),.im (imR w (rI A)) h],false⟩)::(o,⟨41,slR 2 w ids,false⟩)::rowsH 68 ids (rI (mkM h w (Sf A k i j))),nx+1,43⟩)
    (λj=>j<=w) (λj=>w-j) 0 ?_ ?_ ?_
   ·exact qM
   ·exact znc _
   ·intro j hj K2 hK2;by_cases hc2:j<w
    ·have q2:=decide_eq_true (p:=(j:Int)<(w:Int)) om;have gi:=slR_get (z:=2) (m:=w) (ids:=ids) (k:=i) om;have hfx:=hA.fit hc hc2;obtain⟨gR,gl,gd,gs,hrs⟩:=cellF (ty:=68) (f:=Sf A k i j) (z:=ent2 A i j*k) (j:=j) hR.nod hidl hc hc2;have e1:(mkM h w λr c=>if r=i/\c=j then ent2 A i j*k else Sf A k i j r c)=mkM h w (Sf A k i (j+1)):=mkM_congr λr c _ _=>by
      unfold Sf;by_cases e:r=i/\c=j
      ·obtain⟨rfl,rfl⟩:=e;rw[if_pos ⟨rfl,rfl⟩,if_pos om]
      ·rw[if_neg e];by_cases e2:r<i\/(r=i/\c<j);·rw[if_pos e2,if_pos om]
       ·rw[if_neg e2,if_neg om]
     rw[e1]at hrs;have gAi:=imI_get (w:=w) (M:=A) (i:=i) om;have hAi:=hA.get hc;have gdA:=ivR_drop (l:=A.getD i []) (i:=j) om;have glA:=ivR_len (A.getD i []);have hx:(A.getD i []).getD j 0=ent2 A i j:=rfl;rw[hx]at gdA hfx;rw[hAi.1]at glA;have c1:=mul_i (ent2 A i j) k K hfx hk om;have hkl:=klB_rows (ty:=68) (rs:=rI (mkM h w (Sf A k i j))) (n:=nx+1) (λj hj=>by have:=hR.lt j hj;omega);have hmem:=getD_mem' (ids:=ids) (k:=i) om;have hidk:=hR.lt _ hmem;have hne:ids.getD i 0≠o:=λe=>hR.o2 (by rw[<-e];exact hmem);clear hfx e1 hx;generalize hH:rowsH 68 ids (rI (mkM h w (Sf A k i j)))=H at*;generalize mkR w (Sf A k i j i)=row at*;generalize ids.getD i 0=idk at*;generalize ent2 A i j=x at*;generalize(ivR row).drop ((j+1)*2)=D1 at*;generalize(ivR (A.getD i [])).drop ((j+1)*2)=D2 at*;generalize ivR (A.getD i [])=RA at*;generalize hRr:ivR row=RR at*;unfold iv sv at c1;unfold ivC sv at gs gd gdA;simp only[zl8,zl7]at gd gdA;have g2:j*2<RR.length:=by omega
     have g4:j*2<RA.length:=by omega
     refine qWDf (Q16 @q2 @g1 @gi @gR @gl @gd @gs @hrs @g2 @g4 @glA @gAi @gdA @gA @hkl @gD) ?_;refine hK2 _ (j+1) ?_ om om;exact qM
    ·have q2:=decide_eq_false (p:=(j:Int)<(w:Int)) om;have hjw:j=w:=by omega
     subst hjw;refine qWDf @q2 ?_;refine hK1 _ (i+1) ?_ om om;have e1:mkM h j (Sf A k i j)=mkM h j (Sf A k (i+1) 0):=mkM_congr λr c _ hcj=>by
      unfold Sf;by_cases e:r<i\/(r=i/\c<j);·rw[if_pos e,if_pos om]
      ·rw[if_neg e,if_neg om]
     rw[e1];exact qM
  ·have q1:=decide_eq_false (p:=(i:Int)<(h:Int)) om;have hih:i=h:=by omega
   subst hih;have e1:mkM i w (Sf A k i 0)=scaleM i w A k:=mkM_congr λr c hr _=>by unfold Sf;rw[if_pos (.inl hr)]
   rw[e1];refine qWDf @q1 ?_;refine retIQ_ret (.ag [.sc (.int .i64 i),.sc (.int .i64 w),.sl o 0 i 1 none]) ((o,⟨41,slR 2 w ids,false⟩)::rowsH 68 ids (rI (scaleM i w A k))) nx Tryz.results71 qT ⟨o,ids,?_,by rw[hml],rfl⟩ ?_;·rw[hml];exact⟨hR.len,hR.nod,λj hj=>by have:=hR.lt j hj;omega,by omega,hR.o2⟩
   refine Le.rowsDown [] pre0 ⟨n0,hB,by omega⟩ om (λj hj=>(hR.lt j hj).2) (rI_clo _) (less_new (less_new (less_new (less_new (λid k hk=>hk) (λid k hk=> ?_)) (λid k hk=> ?_)) (λid k hk=> ?_)) (λid k hk=> ?_)) ?_
   ·rcases inR_rows (λi hi=>hi) id k hk with e|e;·omega
    ·have:=hR.lt _ e;omega
   ·rcases inR_rows (λi hi=>hi) id k hk with e|e;·omega
    ·have:=hR.lt _ e;omega
   ·rcases inR_rows (λi hi=>hi) id k hk with e|e;·omega
    ·have:=hR.lt _ e;omega
   ·rcases inR_rows (λi hi=>hi) id k hk with e|e;·omega
    ·have:=hR.lt _ e;omega
   ·refine mapSl_cons (x:= .ag [.sc (.int .i64 i),.sc (.int .i64 w),.sl o 0 i 1 none]) (by simp(disch:=omega) only[go_sem,↓reduceIte,zn1,zn2,zn3,zn4,zn5,zn6,reduceCtorEq,zn7,zi1,zi2,if_pos,if_neg,Int.reduceAdd]) (VMap.ag rfl λj x y hx hy=> ?_) trivial
    match j,hx,hy with
    |0,hx,hy=>cases hx;cases hy;exact VMap.sc _
    |1,hx,hy=>cases hx;cases hy;exact VMap.sc _
    |2,hx,hy=>cases hx;cases hy;exact VMap.cap rfl om
end
section
open Go.RowKit
set_option maxRecDepth 8000 in
theorem rcopyI_q{h w K:Nat}{A:List (List Int)}(n0:Nat)(hA:MI h w K A)(hK:K<=90000000000)(hn:h<=1000000)(hw:w<=1000000):
  InlQ Tryz.prog 38 [mat w A] [] n0 (MatQ w A n0):=by
 have hA1:=hA.mono (Nat.le_add_right K 1);have c0:=rscale_q (n0+2) hA1 (k:=1) (by unfold Fits;exact Nat.one_lt_pow om om) om hn hw;rw[scaleM_one hA1]at c0;have hAl:=hA.len;have c1:=of_i 1 om om;have nx:=n0;unfold iv sv at c1 c0;unfold mat at c0⊢;rw[hAl]at c0⊢;refine InlQ.run Tryz.func38 rfl Tryz.ntmps38 (by simp) qT λB hB=> ?_
 (repeat(first|refine DO.nilF (λi=>i+1-nx) (by simp(disch:=omega) only[go_sem,↓reduceIte,zn1,zn2,zn3,zn4,zn5,zn6,reduceCtorEq,zn7,zi1,zi2,if_pos,if_neg,Int.reduceAdd,zld,zle,Option.map_some,Option.map_none,znd,zne,znf]<;>rfl) (by kernel_rfl) ?_|(with_reducible refine SC.condB qT ?_;first|with_reducible refine pickT ?_|with_reducible refine pickF ?_)|(with_reducible refine qO ?_)|((with_reducible apply SC.region);exact qT)|(with_reducible refine SC.draw Tab.mixed rfl ?_;(repeat(refine DO.run qT ?_));refine DO.nilF (λi=>i+1-nx) (by simp(disch:=omega) only[go_sem,↓reduceIte,zn1,zn2,zn3,zn4,zn5,zn6,reduceCtorEq,zn7,zi1,zi2,if_pos,if_neg,Int.reduceAdd,zld,zle,Option.map_some,Option.map_none,znd,zne,znf]<;>rfl) (by kernel_rfl) ?_)))
 refine SC.drawT 2 (by simp only[zl3,zl4];rfl) (by simp only[zl9,zl2];rfl) Tab.mixed ?_ (by kernel_rfl) ?_
 ·simp(disch:=omega) only[go_sem,↓reduceIte,zn1,zn2,zn3,zn4,zn5,zn6,reduceCtorEq,zn7,zi1,zi2,if_pos,if_neg,Int.reduceAdd];intro id q hq
  repeat' (split at hq)
  all_goals first|omega|cases hq
 refine qWD ?_;show SO _ _ _ _ _ _ _;refine SO.inlQ qS (by rfl) qS qS (SInlQ.newR c0 ?_ ?_ ?_);·exact klc om (klc om kln)
 ·exact λx hp' nx' h=>matQ_new h
 rintro x hp' nx ⟨o,ids,hR,rfl,rfl⟩;have ho:=hR.o1;rw[hAl]at hR⊢;refine qWD ?_;refine retIQ_ret (.ag [.sc (.int .i64 h),.sc (.int .i64 w),.sl o 0 h 1 none]) ((o,⟨41,slR 2 w ids,false⟩)::rowsH 68 ids (rI A)) nx Tryz.results38 qT ⟨o,ids,?_,by rw[hAl],rfl⟩ ?_;·rw[hAl];exact⟨hR.len,hR.nod,λj hj=>by have:=hR.lt j hj;omega,by omega,hR.o2⟩
 refine Le.rowsDown [] pre0 ⟨n0,hB,by omega⟩ om (λj hj=>(hR.lt j hj).2) (rI_clo _) (less_new (less_new (λid k hk=>hk) (λid k hk=> ?_)) (λid k hk=> ?_)) ?_
 ·rcases inR_rows (λi hi=>hi) id k hk with e|e;·omega
  ·have:=hR.lt _ e;omega
 ·rcases inR_rows (λi hi=>hi) id k hk with e|e;·omega
  ·have:=hR.lt _ e;omega
 ·refine mapSl_cons (x:= .ag [.sc (.int .i64 h),.sc (.int .i64 w),.sl o 0 h 1 none]) (by simp(disch:=omega) only[go_sem,↓reduceIte,zn1,zn2,zn3,zn4,zn5,zn6,reduceCtorEq,zn7,zi1,zi2,if_pos,if_neg,Int.reduceAdd]) (VMap.ag rfl λj x y hx hy=> ?_) trivial
  match j,hx,hy with
  |0,hx,hy=>cases hx;cases hy;exact VMap.sc _
  |1,hx,hy=>cases hx;cases hy;exact VMap.sc _
  |2,hx,hy=>cases hx;cases hy;exact VMap.cap rfl om
end
end Go.Proofs.YtannldafjkjjbaaGreat
