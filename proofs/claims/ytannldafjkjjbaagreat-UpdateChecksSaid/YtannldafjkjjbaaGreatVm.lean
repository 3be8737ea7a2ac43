/- Texts joined: Xd Iw Ix Iz Iy Xc Io Ip Iq Xe Xf Xj Xk Xl Xm Xq Xr Xs Xt Xu Xv Xx Xy. -/
import Derived.Test.YtannldafjkjjbaaGreatVd
import Derived.Test.YtannldafjkjjbaaGreatVe
import Derived.Test.YtannldafjkjjbaaGreatVg
import Derived.Test.YtannldafjkjjbaaGreatVh
import Derived.Test.YtannldafjkjjbaaGreatVi
import Derived.Test.YtannldafjkjjbaaGreatVj
import Derived.Test.YtannldafjkjjbaaGreatVk
import Derived.Test.YtannldafjkjjbaaGreatVl
set_option linter.all false
set_option maxHeartbeats 16000000
open Nat renaming reduceEqDiff → zn1, reduceLT → zn2, reduceLeDiff → zn3, reduceAdd → zn4, reduceMul → zn5, reduceSub → zn6, reduceBEq → zn7, mul_one → zn8, zero_add → zn9, one_mul → zna, le_refl → znb, zero_le → znc, add_sub_cancel_left → znd, sub_eq_zero_of_le → zne, add_assoc → znf
open Int renaming reduceToNat → zi1, reducePow → zi2
open List renaming length_append → zl1, drop_zero → zl2, take_succ_cons → zl3, take_zero → zl4, getElem?_drop → zl5, append_assoc → zl6, nil_append → zl7, cons_append → zl8, drop_succ_cons → zl9, take_of_length_le → zla, getElem?_eq_getElem → zlb, getElem?_eq_some_iff → zlc, map_cons → zld, map_nil → zle, all_eq_true → zlf
namespace Go.Proofs.YtannldafjkjjbaaGreat
section
open Go.RowKit
theorem idleMul:Idle Tryz.prog 118:=Idle.of Tab.go118 Tryz.func118 rfl rfl rfl rfl Tryz.ntmps118 Tryz.results118
set_option maxRecDepth 8000 in
theorem pmulM_s{h n w K:Nat}{A C:List (List Int)}(hA:MI h n K A)(hC:MI n w K C)(hK:K<=40000000000)(hn:h<=1000000)(hnn:n<=1000000)(hw:w<=1000000):
  Spec Tryz.prog 88 [mat n A,mat w C] (.tu [mat w (mulM h n w A C),.sc (.int .i64 0)]):=by
 have hAl:=hA.len;have hCl:=hC.len;have hml:(mulM h n w A C).length=h:=mkM_len;have gA:=imI_len n A;have gR:=imI_len w (mulM h n w A C);have c1:=pvalid2_s hA hC om hn hnn hnn hw;have gCl:=imR_clo w (rI (mulM h n w A C));have c2:=λi (hi:i<h)=>times_s (v:=A.getD i []) (hA.get hi).1 (hA.get hi).2 hC hK hnn hw;have gi:=λi (hi:i<h)=>imI_get (w:=w) (M:=mulM h n w A C) (i:=i) om;have er: ∀i,i<h->(mulM h n w A C).getD i []=mkR w λc=>dotI (λt=>(A.getD i []).getD t 0) (λt=>ent2 C t c) n:=λi hi=>by unfold mulM;rw[mkM_get hi];rfl
 unfold mat at c2⊢;rw[hml]at gR⊢;rw[hAl]at gA⊢;rw[hCl]at c2⊢;refine Spec.runD Tryz.func88 rfl rfl rfl rfl idleMul Tryz.ntmps88 (by simp) qT qT λB hB=> ?_;refine qW ?_;generalize hP:mulM h n w A C=P at*;generalize hX:imR w (rI P)=X at*;refine SC.loop (λx:Nat×List V=>⟨[(2,.pt 0 0),(3,.pt 1 0),(4,.pt 2 0),(5,.sc (.int .i64 0)),(6,.pt 5 0),(31,.im (imR n (rI A)) h),(32,.sc (.int .i64 h)),(33,.sc (.int .i64 x.1))],[(5,⟨28,[.sc (.int .i64 h),.sc (.int .i64 w),.sl 4 0 h 1 (some h)],false⟩),(4,⟨41,x.2,false⟩),(2,⟨28,[.sc (.int .i64 0),.sc (.int .i64 0),.sc (.slice none 0 0)],false⟩),(1,⟨28,[.sc (.int .i64 n),.sc (.int .i64 w),.im (imR w (rI C)) n],false⟩),(0,⟨28,[.sc (.int .i64 h),.sc (.int .i64 n),.im (imR n (rI A)) h],false⟩)],6,47⟩)
  (λx=>x.1<=h/\x.2=X.take x.1++List.replicate (h-x.1) (V.sc (.slice none 0 0))) (λx=>h-x.1) (0,List.replicate h (V.sc (.slice none 0 0))) ?_ ⟨znc _,rfl⟩ ?_
 ·refine qLn0r ?_;exact LLe.refl (List.all_eq_true.2 λx hx=>by rw[List.eq_of_mem_replicate hx];rfl)
 rintro⟨i,D⟩ ⟨hi,hD⟩ K1 hK1;simp only at hi hD⊢;have gT:(X.take i).length=i:=by rw[List.length_take];omega
 have gL:D.length=h:=by rw[hD,zl1,gT,List.length_replicate];omega
 by_cases hc:i<h
 ·have q1:=decide_eq_true (p:=(i:Int)<(h:Int)) om;have g1:=imI_get (w:=n) (M:=A) (i:=i) om;have c3:=c2 i hc;rw[<-er i hc]at c3;have gX:=gi i hc;have eS:D.set i (V.im (ivR (P.getD i [])) w)=X.take (i+1)++List.replicate (h-(i+1)) (V.sc (.slice none 0 0)):=by
   rw[hD,List.set_append_right _ _ om,gT,Nat.sub_self,show h-i=(h-(i+1))+1 by omega,List.replicate_succ,List.set_cons_zero,List.take_add_one,gX];simp
  have hiD:i<D.length:=by omega
  have hcl: ∀ok:Nat->Bool,(D.set i (V.im (ivR (P.getD i [])) w)).all (Go.Proofs.YtannldafjkjjbaaGreat.okL ok)=true:=λok=>by rw[eS,List.all_append,Bool.and_eq_true];exact⟨List.all_eq_true.2 λx hx=>okL_clo (List.all_eq_true.1 gCl x (List.mem_of_mem_take hx)),List.all_eq_true.2 λx hx=>by rw[List.eq_of_mem_replicate hx];rfl⟩
  clear c1 c2;generalize ivR (P.getD i [])=row at*;generalize ivR (A.getD i [])=ra at*;refine qWf (Q6 @q1 @g1 @gA @gL @hiD @gD) ?_;refine hK1 _ (i+1,_) ?_ ⟨by simp only;omega,eS⟩ (by simp only;omega);refine qLn0r ?_;exact LLe.refl (hcl _)
 ·have q1:=decide_eq_false (p:=(i:Int)<(h:Int)) om;have hin:i=h:=by omega
  subst hin;have hD:D=X:=by rw[hD,Nat.sub_self,List.replicate_zero,List.append_nil,zla om]
  subst hD;have ht:D.take i=D:=zla om;refine qWf @q1 ?_;exact retQ_ret Tryz.results88 qS (qSf (Q3 @gCl @gL @ht)) rfl
end
section
open Go.RowKit
theorem sizes1_s{h w:Nat}{X:List V}:Spec Tryz.prog 92 [.im [.sc (.int .i64 h),.sc (.int .i64 w),.im X h] 1] (.im [.sc (.int .i64 h),.sc (.int .i64 w)] 1):=by
 refine qF Tryz.func92 Tryz.ntmps92 λB hB=> ?_
 (repeat(first|refine DO.nil (by kernel_rfl) ?_|(with_reducible refine qO ?_)|((first|apply SO.call|apply DO.call);(iterate 3 exact qS);(first|apply SCall.ofX|apply DCall.ofX);assumption;exact qS)|((with_reducible first|apply wa|apply wb|apply wc|apply wd);exact qS;(first|refine pT ?_|refine pF ?_|fail_if_success with_reducible refine pA ?_))|((with_reducible refine SC.draw Tab.mixed ?_ ?_);(focus(first|rfl|simp(disch:=omega) only[go_sem,↓reduceIte,zn1,zn2,zn3,zn4,zn5,zn6,reduceCtorEq,zn7,zi1,zi2,if_pos,if_neg,Int.reduceAdd])))|(with_reducible apply SC.ops)|(with_reducible apply SR.next)|refine SC.loopN 3 ?_))
 exact qE Tryz.results92
theorem eqSizes_s{h w:Nat}:Spec Tryz.prog 91 [.im [.sc (.int .i64 h),.sc (.int .i64 w)] 1,.im [.sc (.int .i64 h),.sc (.int .i64 w)] 1] (.sc (.bool true)):=by
 refine qF Tryz.func91 Tryz.ntmps91 λB hB=> ?_
 (repeat(first|refine DO.nil (by kernel_rfl) ?_|(with_reducible refine qO ?_)|((first|apply SO.call|apply DO.call);(iterate 3 exact qS);(first|apply SCall.ofX|apply DCall.ofX);assumption;exact qS)|((with_reducible first|apply wa|apply wb|apply wc|apply wd);exact qS;(first|refine pT ?_|refine pF ?_|fail_if_success with_reducible refine pA ?_))|((with_reducible refine SC.draw Tab.mixed ?_ ?_);(focus(first|rfl|simp(disch:=omega) only[go_sem,↓reduceIte,zn1,zn2,zn3,zn4,zn5,zn6,reduceCtorEq,zn7,zi1,zi2,if_pos,if_neg,Int.reduceAdd])))|(with_reducible apply SC.ops)|(with_reducible apply SR.next)|refine SC.loopN 3 ?_))
 exact qE Tryz.results91
end
section
open Go.RowKit
theorem eqc_s{x y:Int}{K:Nat}(hx:Fits K x)(hy:Fits K y)(hK:K<=100000000000):Spec Tryz.prog 93 [iv x,iv y] (.sc (.bool (decide (x=y)))):=by
 have c1:=pcmp_i x y K hx hy om;have e:((x-y).sign==0)=decide (x=y):=by
  by_cases h:x=y;·rw[h,Int.sub_self,decide_eq_true rfl];rfl
  ·rw[decide_eq_false h,beq_eq_false_iff_ne];intro e;have:=Int.sign_eq_zero_iff_zero.1 e;omega
 rw[<-e];unfold iv sv at*;refine qF Tryz.func93 Tryz.ntmps93 λB hB=> ?_;refine qW ?_;exact qE Tryz.results93
end
section
open Go.RowKit
def bC(l:List Bool):List V:=l.map λb=> .sc (.bool b)
def idF:List Bool->Nat->Int
 |[],_=> -1
 |b::l,n=>if b then idF l (n+1)else n
theorem idF_all: ∀(l:List Bool) (n:Nat),decide (idF l n>=0)= !l.all id
 |[],_=>rfl
 |true::l,n=>by show decide (idF l (n+1)>=0)=_;rw[idF_all l (n+1)];rfl
 |false::l,n=>by show decide ((n:Int)>=0)=_;rw[decide_eq_true om];rfl
theorem bC_get{l:List Bool}{i:Nat}(h:i<l.length):(bC l)[i]? =some (.sc (.bool (l.getD i true))):=by unfold bC;rw[List.getElem?_map,zlb h,List.getD_eq_getElem?_getD,zlb h];rfl
theorem bC_len(l:List Bool):(bC l).length=l.length:=by unfold bC;rw[List.length_map]
theorem bC_clo(l:List Bool):(bC l).all clo=true:=List.all_eq_true.2 λx hx=>by unfold bC at hx;obtain⟨b,_,rfl⟩:=List.mem_map.1 hx;rfl
theorem bindex_s{l:List Bool}(hl:l.length<=1000000):Spec Tryz.prog 124 [.im (bC l) l.length,.sc (.bool false)] (.sc (.int .i64 (idF l 0))):=by
 have gl:=bC_len l;obtain⟨G,hG⟩: ∃G,idF l 0=G:=⟨_,rfl⟩
 rw[hG];refine qF Tryz.func124 Tryz.ntmps124 λB hB=> ?_;refine qW ?_;refine SC.loop (λi:Nat=>⟨[(0,.im (bC l) l.length),(1,.sc (.bool false)),(7,.sc (.int .i64 l.length)),(8,.sc (.int .i64 i))],[],0,19⟩) (λi=>i<=l.length/\idF (l.drop i) i=G) (λi=>l.length-i) 0 ?_ ⟨znc _,hG⟩ ?_;·exact qL
 ·rintro i ⟨hi,hg⟩ K hK;by_cases hc:i<l.length
  ·have q1:=decide_eq_true (p:=(i:Int)<(l.length:Int)) om;have gi:=bC_get hc;have e:l.drop i=l.getD i true::l.drop (i+1):=by rw[List.drop_eq_getElem_cons hc,List.getD_eq_getElem?_getD,zlb hc];rfl
   rw[e,idF]at hg;cases hb:l.getD i true
   ·rw[hb,if_neg (by simp)]at hg;subst hg;rw[hb]at gi;refine qWf (Q4 @q1 @gi @gl @gD) ?_;exact qE Tryz.results124
   ·rw[hb,if_pos rfl]at hg;rw[hb]at gi;refine qWf (Q4 @q1 @gi @gl @gD) ?_;refine hK _ (i+1) ?_ ⟨by omega,hg⟩ om;exact qL
  ·have q1:=decide_eq_false (p:=(i:Int)<(l.length:Int)) om;rw[List.drop_of_length_le om]at hg;have hg: -1=G:=hg;subst hg;refine qWf @q1 ?_;exact qE Tryz.results124
theorem bcont_s{l:List Bool}(hl:l.length<=1000000):Spec Tryz.prog 95 [.im (bC l) l.length,.sc (.bool false)] (.sc (.bool (!l.all id))):=by have c1:=bindex_s hl;rw[<-idF_all l 0];refine qF Tryz.func95 Tryz.ntmps95 λB hB=> ?_;refine qW ?_;exact qE Tryz.results95
end
section
open Go.RowKit
def eqB(a b:List Int)(n:Nat):List Bool:=(List.range n).map λi=>decide (a.getD i 0=b.getD i 0)
theorem eqB_len(a b:List Int)(n:Nat):(eqB a b n).length=n:=by unfold eqB;simp
theorem eqB_all{a b:List Int}{w:Nat}(ha:a.length=w)(hb:b.length=w):(eqB a b w).all id=decide (a=b):=by
 by_cases h:a=b
 ·rw[decide_eq_true h,zlf];intro x hx;unfold eqB at hx;obtain⟨i,_,rfl⟩:=List.mem_map.1 hx;rw[h];simp
 ·rw[decide_eq_false h,Bool.eq_false_iff];intro e;refine h (List.ext_getElem om λi h1 h2=> ?_);have:=List.all_eq_true.1 e (decide (a.getD i 0=b.getD i 0)) (List.mem_map.2 ⟨i,List.mem_range.2 om,rfl⟩);have:=of_decide_eq_true this;rw[List.getD_eq_getElem?_getD,zlb h1,List.getD_eq_getElem?_getD,zlb h2]at this;exact this
theorem combine_s{w K:Nat}{a b:List Int}(ha:a.length=w)(hb:b.length=w)(hfa: ∀x∈a,Fits K x)(hfb: ∀x∈b,Fits K x)(hK:K<=100000000000)(hw:w<=1000000):
  Spec Tryz.prog 96 [.im (ivR a) w,.im (ivR b) w,.sc (.func (.func 93) #[] #[])] (.im (bC (eqB a b w)) w):=by
 have gla:=ivR_len a;have glb:=ivR_len b;refine qF Tryz.func96 Tryz.ntmps96 λB hB=> ?_;refine qW ?_;refine SC.loop (λx:Nat×List V=>⟨[(7,.sl 0 0 w 1 (some w)),(13,.sc (.int .i64 w)),(14,.sc (.int .i64 x.1)),(0,.im (ivR a) w),(1,.im (ivR b) w),(2,.sc (.func (.func 93) #[] #[]))],[(0,⟨4,x.2,false⟩)],1,32⟩) (λx=>x.1<=w/\x.2=bC (eqB a b x.1)++List.replicate (w-x.1) (V.sc (Value.bool false))) (λx=>w-x.1) (0,List.replicate w (V.sc (Value.bool false))) ?_ ⟨znc _,rfl⟩ ?_
 ·refine qLn0r ?_;exact LLe.cl rfl (List.all_eq_true.2 λx hx=>by rw[List.eq_of_mem_replicate hx];rfl)
 ·rintro⟨i,C⟩ ⟨hi,hC⟩ K1 hK1;simp only at hi hC⊢;by_cases hc:i<w
  ·have q1:=decide_eq_true (p:=(i:Int)<(w:Int)) om;have c1:=eqc_s (hfa _ (getD_mem (d:=0) (l:=a) (i:=i) om)) (hfb _ (getD_mem (d:=0) (l:=b) (i:=i) om)) hK;have gda:=ivR_drop (l:=a) (i:=i) om;have gdb:=ivR_drop (l:=b) (i:=i) om;have g2:i*2<(ivR a).length:=by omega
   have g3:i*2<(ivR b).length:=by omega
   have gL:C.length=w:=by rw[hC,zl1,bC_len,eqB_len,List.length_replicate];omega
   have gS:C.set i (.sc (.bool (decide (a.getD i 0=b.getD i 0))))=bC (eqB a b (i+1))++List.replicate (w-(i+1)) (V.sc (Value.bool false)):=by
    have e:(bC (eqB a b i)).length=i:=by rw[bC_len,eqB_len]
    rw[hC,List.set_append_right _ _ om,e,Nat.sub_self,show w-i=(w-(i+1))+1 by omega,List.replicate_succ,List.set_cons_zero];unfold eqB bC;rw[List.range_succ,List.map_append,List.map_append,zl6];rfl
   have hiC:i<C.length:=by omega
   generalize(ivR a).drop ((i+1)*2)=D1 at*;generalize(ivR b).drop ((i+1)*2)=D2 at*;generalize hA1:ivR a=A1 at*;generalize hA2:ivR b=A2 at*;generalize a.getD i 0=x at*;generalize b.getD i 0=y at*;unfold iv sv at c1;unfold ivC sv at gda gdb;simp only[zl8,zl7]at gda gdb;refine qWf (Q8 @q1 @gda @gdb @g2 @g3 @gla @glb @gL) ?_
   repeat(refine DO.run (qSf (Q7 @gda @gdb @g2 @g3 @gla @glb @gL)) ?_)
   refine DO.callV qS Tab.go93 qS (by simp(disch:=omega) only[go_sem,↓reduceIte,zn1,zn2,zn3,zn4,zn5,zn6,reduceCtorEq,zn7,zi1,zi2,if_pos,if_neg,Int.reduceAdd]) (DCall.of c1 qS ?_)
   repeat(refine DO.run (qSf (Q8 @gda @gdb @g2 @g3 @gla @glb @gL @hiC)) ?_)
   refine DO.nil (by kernel_rfl) ?_;refine qW ?_;refine hK1 _ (i+1,_) ?_ ⟨by simp only;omega,gS⟩ (by simp only;omega);refine qLn0r ?_;refine LLe.cl rfl ?_;rw[gS,List.all_append,bC_clo,Bool.true_and];exact List.all_eq_true.2 λx hx=>by rw[List.eq_of_mem_replicate hx];rfl
  ·have q1:=decide_eq_false (p:=(i:Int)<(w:Int)) om;have hin:i=w:=by omega
   subst hin;rw[Nat.sub_self,List.replicate_zero,List.append_nil]at hC;subst hC;have hcl:=bC_clo (eqB a b i);have hle:(bC (eqB a b i)).length=i:=by rw[bC_len,eqB_len]
   have ht:(bC (eqB a b i)).take i=bC (eqB a b i):=zla om;refine qWf @q1 ?_;exact retQ_ret Tryz.results96 qS (qSf (Q3 @hcl @hle @ht)) rfl
end
section
open Go.RowKit
set_option maxRecDepth 8000 in
theorem pequal_s{h w K:Nat}{M N:List (List Int)}(hM:MI h w K M)(hN:MI h w K N)(hK:K<=100000000000)(hn:h<=1000000)(hw:w<=1000000):Spec Tryz.prog 55 [mat w M,mat w N] (.sc (.bool (decide (M=N)))):=by
 have hl:=hM.len;have hl2:=hN.len;have gl:=imI_len w M;have gl2:=imI_len w N;have c1:=pvalid2_s hM hN hK hn hw hn hw;have c2:=sizes1_s (h:=h) (w:=w) (X:=imR w (rI M));have c3:=sizes1_s (h:=h) (w:=w) (X:=imR w (rI N));have c4:=eqSizes_s (h:=h) (w:=w);unfold mat;rw[hl]at gl⊢;rw[hl2]at gl2⊢;refine qF Tryz.func55 Tryz.ntmps55 λB hB=> ?_;refine qW ?_;refine SC.loop (λi:Nat=>⟨[(2,.pt 0 0),(3,.pt 1 0),(5,.sc (.func (.func 93) #[] #[])),(24,.im (imR w (rI M)) h),(25,.sc (.int .i64 h)),(26,.sc (.int .i64 i))],[(1,⟨28,[.sc (.int .i64 h),.sc (.int .i64 w),.im (imR w (rI N)) h],false⟩),(0,⟨28,[.sc (.int .i64 h),.sc (.int .i64 w),.im (imR w (rI M)) h],false⟩)],2,41⟩)
  (λt=>t<=h/\ ∀i,i<t->M.getD i []=N.getD i []) (λi=>h-i) 0 ?_ ?_ ?_
 ·exact qL
 ·exact⟨znc _,λi h=>by omega⟩
 ·rintro t ⟨ht,he⟩ K2 hK2;by_cases hc:t<h
  ·have q1:=decide_eq_true (p:=(t:Int)<(h:Int)) om;have g1:=imI_get (w:=w) (M:=M) (i:=t) om;have g2:=imI_get (w:=w) (M:=N) (i:=t) om;have hr:=hM.get hc;have hr2:=hN.get hc;have c5:=combine_s hr.1 hr2.1 hr.2 hr2.2 hK hw;have c6:=bcont_s (l:=eqB (M.getD t []) (N.getD t []) w) (by rw[eqB_len];exact hw);rw[eqB_len,eqB_all hr.1 hr2.1]at c6;have hnx:M.getD t []=N.getD t []-> ∀i,i<t+1->M.getD i []=N.getD i []:=λh i hi=>by
    by_cases e:i=t;·rw[e];exact h
    ·exact he i om
   clear c1 c2 c3 c4;generalize bC (eqB (M.getD t []) (N.getD t []) w)=E at*;by_cases hxy:M.getD t []=N.getD t []
   ·rw[decide_eq_true hxy]at c6;refine qWf (Q6 @q1 @g1 @g2 @gl @gl2 @gD) ?_;refine hK2 _ (t+1) ?_ ⟨by omega,hnx hxy⟩ om;exact qL
   ·rw[decide_eq_false hxy]at c6;rw[decide_eq_false (λe:M=N=>hxy (by rw[e]))];refine qWf (Q6 @q1 @g1 @g2 @gl @gl2 @gD) ?_;exact qE Tryz.results55
  ·have q1:=decide_eq_false (p:=(t:Int)<(h:Int)) om;rw[decide_eq_true (list_upto (d:=[]) om λi hi=>he i om)];refine qWf @q1 ?_;exact qE Tryz.results55
end
section
open Go.RowKit
theorem leading_s{r:List Int}{w K:Nat}(hw:r.length=w)(hf: ∀x∈r,Fits K x)(hK:K<=100000000000)(hl:w<=1000000):Spec Tryz.prog 115 [.im (ivR r) w] (.sc (.int .i64 (pivI r))):=by
 have gl:=ivR_len r;refine qF Tryz.func115 Tryz.ntmps115 λB hB=> ?_;refine qW ?_;refine SC.loop (λc:Nat=>⟨[(3,.sc (.int .i64 (-1))),(6,.im (ivR r) w),(7,.sc (.int .i64 w)),(8,.sc (.int .i64 c))],[],0,20⟩) (λc=>c<=w/\ ∀k,k<c->r.getD k 0=0) (λc=>w-c) 0 ?_ ⟨znc _,λk hk=>by omega⟩ ?_;·exact qL
 ·rintro c ⟨hc,hz⟩ K1 hK1;by_cases hlt:c<w
  ·have q1:=decide_eq_true (p:=(c:Int)<(w:Int)) om;have gd:=ivR_drop (l:=r) (i:=c) om;have g2:c*2<(ivR r).length:=by omega
   have c1:=psign_i (r.getD c 0) K (hf _ (getD_mem (d:=0) om)) om;by_cases h0:r.getD c 0=0
   ·have q2:((r.getD c 0).sign==0)=true:=by rw[h0];rfl
    have hz2: ∀k,k<c+1->r.getD k 0=0:=λk hk=>by
     by_cases e:k=c;·rw[e];exact h0
     ·exact hz k om
    generalize r.getD c 0=z at*;unfold iv sv at c1;unfold ivC sv at gd;simp only[zl8,zl7]at gd;refine qWf (Q5 @q1 @q2 @gl @gd @g2) ?_;refine hK1 _ (c+1) ?_ ⟨by omega,hz2⟩ om;exact qL
   ·have q2:((r.getD c 0).sign==0)=false:=by rw[beq_eq_false_iff_ne];intro e;exact h0 (Int.sign_eq_zero_iff_zero.1 e)
    rw[piv_at om hz h0];generalize r.getD c 0=z at*;unfold iv sv at c1;unfold ivC sv at gd;simp only[zl8,zl7]at gd;refine qWf (Q5 @q1 @q2 @gl @gd @g2) ?_;exact qE Tryz.results115
  ·have q1:=decide_eq_false (p:=(c:Int)<(w:Int)) om;rw[piv_no λk hk=>hz k om];refine qWf @q1 ?_;exact qE Tryz.results115
end
section
open Go.RowKit
def outF(i c w:Nat)(row:List Int):V:= .fn (.func 116) [] [.pi [.sc (.int .i64 c)],.pi [.im (ivR row) w]]
theorem outside_s{w K c:Nat}{a row:List Int}(ha:a.length=w)(hr:row.length=w)(hfa: ∀x∈a,Fits K x)(hfr: ∀x∈row,Fits K x)(hK:K<=100000000000)(hl:w<=1000000)(hc:c<w):
  Spec Tryz.prog 116 [.im (ivR a) w,.pi [.sc (.int .i64 c)],.pi [.im (ivR row) w]] (.sc (.bool (decide (a.getD c 0<0\/row.getD c 0<=a.getD c 0)))):=by
 have hfx:=hfa _ (getD_mem (d:=0) (l:=a) (i:=c) om);have hfy:=hfr _ (getD_mem (d:=0) (l:=row) (i:=c) om);have c1:=psign_i _ K hfx om;have c2:=pcmp_i _ (row.getD c 0) K hfx hfy om;have gda:=ivR_drop (l:=a) (i:=c) om;have gdr:=ivR_drop (l:=row) (i:=c) om;have gla:=ivR_len a;have glr:=ivR_len row;have g2:c*2<(ivR a).length:=by omega
 have g3:c*2<(ivR row).length:=by omega
 generalize(ivR a).drop ((c+1)*2)=D at*;generalize ivR a=A at*;generalize(ivR row).drop ((c+1)*2)=D2 at*;generalize ivR row=A2 at*;generalize a.getD c 0=x at*;generalize row.getD c 0=y at*;unfold iv sv at c1 c2;unfold ivC sv at gda gdr;simp only[zl8,zl7]at gda gdr;refine qF Tryz.func116 Tryz.ntmps116 λB hB=> ?_;by_cases h1:x<0
 ·have q1:decide (x.sign<0)=true:=decide_eq_true (Int.sign_neg_iff.2 h1);rw[decide_eq_true (.inl h1)];refine qWf (Q5 @gda @gdr @g2 @g3 @q1) ?_;exact qE Tryz.results116
 ·have q1:decide (x.sign<0)=false:=decide_eq_false (λe=>h1 (Int.sign_neg_iff.1 e));have q2:decide ((x-y).sign>=0)=decide (x<0\/y<=x):=by
   by_cases h2:y<=x
   ·have:=Int.sign_nonneg_iff.2 (show 0<=x-y by omega);exact(decide_eq_true this).trans (decide_eq_true (.inr h2)).symm
   ·have:=Int.sign_neg_iff.2 (show x-y<0 by omega);exact(decide_eq_false om).trans (decide_eq_false om).symm
  refine qWf (Q6 @gda @gdr @g2 @g3 @q1 @q2) ?_;exact qE Tryz.results116
theorem first_bad{p:Nat->Prop} [DecidablePred p]: ∀{i:Nat},¬(∀r,r<i->p r)-> ∃m,m<i/\ ¬p m/\ ∀r,r<m->p r
 |0,h=>absurd (λr hr=>by omega) h
 | i+1,h=>by
  by_cases h0: ∀r,r<i->p r
  ·refine⟨i,by omega,λhp=>h λr hr=> ?_,h0⟩;by_cases e:r=i;·rw[e];exact hp
   ·exact h0 r om
  ·obtain⟨m,m1,m2,m3⟩:=first_bad h0;exact⟨m,by omega,m2,m3⟩
theorem indexO_s{h w K c i:Nat}{M:List (List Int)}{row:List Int}(hM:MI h w K M)(hr:row.length=w)(hfr: ∀x∈row,Fits K x)(hK:K<=100000000000)(hn:h<=1000000)(hl:w<=1000000)(hc:c<w)(hi:i<=h):
  ∃z:Int,(decide (z>=0)= !decide (∀r,r<i->0<=ent2 M r c/\ent2 M r c<row.getD c 0))/\Spec Tryz.prog 134 [.im ((imR w (rI M)).take i) i,outF i c w row] (.sc (.int .i64 z)):=by
 have hml:=hM.len;have gl:((imR w (rI M)).take i).length=i:=by rw[List.length_take,imI_len];omega
 have gt: ∀k,k<i->((imR w (rI M)).take i)[k]? =some (.im (ivR (M.getD k [])) w):=λk hk=>by rw[List.getElem?_take_of_lt hk];exact imI_get om
 have cO:=λk (hk:k<i)=>outside_s (c:=c) (hM.get (show k<h by omega)).1 hr (hM.get (show k<h by omega)).2 hfr hK hl hc;have hz: ∃z:Int,∃n:Nat,n<=i/\(∀r,r<n->0<=ent2 M r c/\ent2 M r c<row.getD c 0)/\((n=i/\z= -1/\ ∀r,r<i->0<=ent2 M r c/\ent2 M r c<row.getD c 0)\/(n<i/\z=n/\ ¬(0<=ent2 M n c/\ent2 M n c<row.getD c 0))):=by
  by_cases hall: ∀r,r<i->0<=ent2 M r c/\ent2 M r c<row.getD c 0;·exact⟨-1,i,znb _,hall,.inl ⟨rfl,rfl,hall⟩⟩
  ·obtain⟨m,m1,m2,m3⟩:=first_bad hall;exact⟨m,m,by omega,m3,.inr ⟨m1,rfl,m2⟩⟩
 obtain⟨z,n,hni,hok,hz⟩:=hz;have hz1:decide (z>=0)= !decide (∀r,r<i->0<=ent2 M r c/\ent2 M r c<row.getD c 0):=by
  rcases hz with⟨_,rfl,ha⟩|⟨h1,rfl,hb⟩;·rw[decide_eq_true ha];rfl
  ·rw[decide_eq_false (p:= ∀r,r<i->0<=ent2 M r c/\ent2 M r c<row.getD c 0) (λe=>hb (e n h1)),decide_eq_true (p:=((n:Int)>=0)) om];rfl
 refine⟨z,hz1,?_⟩;clear hz1;generalize(imR w (rI M)).take i=C at*;unfold outF;refine qF Tryz.func134 Tryz.ntmps134 λB hB=> ?_;refine qW ?_;refine SC.loop (λk:Nat=>⟨[(0,.im C i),(1,.fn (.func 116) [] [.pi [.sc (.int .i64 c)],.pi [.im (ivR row) w]]),(7,.sc (.int .i64 i)),(8,.sc (.int .i64 k))],[],0,19⟩) (λk=>k<=n) (λk=>i-k) 0 ?_ (znc _) ?_;·exact qL
 ·intro k hk K1 hK1;by_cases hki:k<i
  ·have q1:=decide_eq_true (p:=(k:Int)<(i:Int)) om;have g1:=gt k hki;have c1:=cO k hki;have hke:ent2 M k c=(M.getD k []).getD c 0:=rfl;by_cases hkn:k<n
   ·rw[decide_eq_false (by have:=hok k hkn;omega)]at c1;refine qWf (Q4 @q1 @g1 @gl @gD) ?_;refine SO.callV qS Tab.go116 qS qS (SCallV.of c1 qS ?_);refine qW ?_;refine hK1 _ (k+1) ?_ om om;exact qL
   ·rcases hz with⟨h1,_,_⟩|⟨h1,rfl,hb⟩;·omega
    ·have hkn2:k=n:=by omega
     subst hkn2;rw[decide_eq_true om]at c1;refine qWf (Q4 @q1 @g1 @gl @gD) ?_;refine SO.callV qS Tab.go116 qS qS (SCallV.of c1 qS ?_);refine qW ?_;exact qE Tryz.results134
  ·have q1:=decide_eq_false (p:=(k:Int)<(i:Int)) om;rcases hz with⟨h1,rfl,_⟩|⟨h1,_,_⟩
   ·refine qWf @q1 ?_;exact qE Tryz.results134
   ·omega
theorem containsO_s{h w K c i:Nat}{M:List (List Int)}{row:List Int}(hM:MI h w K M)(hr:row.length=w)(hfr: ∀x∈row,Fits K x)(hK:K<=100000000000)(hn:h<=1000000)(hl:w<=1000000)(hc:c<w)(hi:i<=h):
  Spec Tryz.prog 117 [.im ((imR w (rI M)).take i) i,outF i c w row] (.sc (.bool (!decide (∀r,r<i->0<=ent2 M r c/\ent2 M r c<row.getD c 0)))):=by
 obtain⟨z,hz,c1⟩:=indexO_s hM hr hfr hK hn hl hc hi;rw[<-hz];generalize(imR w (rI M)).take i=C at*;unfold outF at*;refine qF Tryz.func117 Tryz.ntmps117 λB hB=> ?_;refine qW ?_;exact qE Tryz.results117
end
section
open Go.RowKit
theorem piv_nonzero{r:List Int}{p:Nat}(h:pivI r=p):r.getD p 0≠0:=by
 unfold pivI at h;split at h
 ·rename_i hlt;have e:r.findIdx (λx=>x !=0)=p:=by omega
  have:=List.findIdx_getElem (w:=hlt);rw[List.getD_eq_getElem?_getD,<-e,zlb hlt];simpa using this
 ·omega
set_option maxRecDepth 8000 in
theorem pis_s{h w K:Nat}{M:List (List Int)}(hM:MI h w K M)(hK:K<=100000000000)(hn:h<=1000000)(hw:w<=1000000):Spec Tryz.prog 87 [mat w M] (.sc (.bool (isF M w h 0 (-1)))):=by
 have hl:=hM.len;have gl:=imI_len w M;have c1:=imValid_s hM hK hn hw;obtain⟨G,hG0⟩: ∃G,isF M w h 0 (-1)=G:=⟨_,rfl⟩
 rw[hG0];unfold mat at*;rw[hl]at gl c1⊢;refine qF Tryz.func87 Tryz.ntmps87 λB hB=> ?_;refine qW ?_;refine SC.loop (λx:Nat×Int×Bool=>⟨[(1,.pt 0 0),(3,.sc (.int .i64 x.2.1)),(4,.sc (.bool x.2.2)),(13,.im (imR w (rI M)) h),(14,.sc (.int .i64 h)),(15,.sc (.int .i64 x.1))],[(0,⟨28,[.sc (.int .i64 h),.sc (.int .i64 w),.im (imR w (rI M)) h],false⟩)],1,49⟩)
  (λx=>x.1<=h/\isF M w (h-x.1) x.1 (if x.2.2=true then(w:Int)else x.2.1)=G) (λx=>h-x.1) (0,-1,false) ?_ ?_ ?_
 ·exact qL
 ·exact⟨znc _,hG0⟩
 ·rintro⟨i,last,en⟩ ⟨hi,hG⟩ K2 hK2;simp only at hi hG⊢;obtain⟨L,hL⟩: ∃L:Int,(if en=true then(w:Int)else last)=L:=⟨_,rfl⟩
  rw[hL]at hG;by_cases hc:i<h
  ·have q1:=decide_eq_true (p:=(i:Int)<(h:Int)) om;have g1:=imI_get (w:=w) (M:=M) (i:=i) om;have hr:=hM.get hc;have c2:=leading_s hr.1 hr.2 hK hw;obtain⟨p1,p2⟩:=pivI_lt (M.getD i []);rw[hr.1]at p1;rw[show h-i=(h-(i+1))+1 by omega,isF]at hG;by_cases h1:pivI (M.getD i [])<0
   ·rw[if_pos h1]at hG;have q2:=decide_eq_true h1;refine qWf (Q5 @q1 @g1 @gl @gD @q2) ?_;refine hK2 _ (i+1,last,true) ?_ ⟨by simp only;omega,hG⟩ (by simp only;omega);exact qL
   ·rw [if_neg h1]at hG;obtain⟨p,hp⟩: ∃p:Nat,pivI (M.getD i [])=p:=⟨(pivI (M.getD i [])).toNat,(Int.toNat_of_nonneg om).symm⟩
    rw[hp]at hG c2 h1 p1;have hpw:p<w:=by omega
    rw[Int.toNat_natCast]at hG;have hx:=hM.fit hc hpw;have c3:=psign_i _ K hx om;have c4:=containsO_s (i:=i) hM hr.1 hr.2 hK hn hw hpw om;have gd:=ivR_drop (l:=M.getD i []) (i:=p) om;have glr:=ivR_len (M.getD i []);have g2:p*2<(ivR (M.getD i [])).length:=by omega
    have hxe:ent2 M i p=(M.getD i []).getD p 0:=rfl;rw[hxe]at hG;have q2:decide ((p:Int)<0)=false:=decide_eq_false om;have hnz:(M.getD i []).getD p 0≠0:=piv_nonzero hp;unfold outF at c4;generalize hR:ivR (M.getD i [])=R at*;generalize hD:R.drop ((p+1)*2)=D at*;generalize hxx:(M.getD i []).getD p 0=x at*;unfold iv sv at c3;unfold ivC sv at gd;simp only[zl8,zl7]at gd;cases en with
    |true=>
     rw[if_pos rfl]at hL;rw[if_pos (c:=(p:Int)<=L\/x<=0) (.inl om)]at hG;subst hG;refine qWf (Q7 @q1 @g1 @gl @gD @q2 @gd @g2) ?_;exact qE Tryz.results87
    | false=>
     rw[if_neg (by simp)]at hL;subst hL;by_cases h2:(p:Int)<=last
     ·rw[if_pos (c:=(p:Int)<=last\/x<=0) (.inl h2)]at hG;subst hG;have q3:=decide_eq_true h2;refine qWf (Q8 @q1 @g1 @gl @gD @q2 @q3 @gd @g2) ?_;exact qE Tryz.results87
     ·have q3:=decide_eq_false h2;by_cases h3:x<0
      ·rw[if_pos (c:=(p:Int)<=last\/x<=0) (.inr om)]at hG;subst hG;have q4:decide (x.sign<0)=true:=decide_eq_true (Int.sign_neg_iff.2 h3);refine qWf (Q9 @q1 @g1 @gl @gD @q2 @q3 @q4 @gd @g2) ?_;exact qE Tryz.results87
      ·rw[if_neg (c:=(p:Int)<=last\/x<=0) om]at hG;have q4:decide (x.sign<0)=false:=decide_eq_false (λe=>h3 (Int.sign_neg_iff.1 e));by_cases h4: ∀r,r<i->0<=ent2 M r p/\ent2 M r p<x
       ·rw[if_pos h4]at hG;rw[decide_eq_true h4]at c4;refine qWf (Q9 @q1 @g1 @gl @gD @q2 @q3 @q4 @gd @g2) ?_;refine hK2 _ (i+1,(p:Int),false) ?_ ⟨by simp only;omega,hG⟩ (by simp only;omega);exact qL
       ·rw[if_neg h4]at hG;rw[decide_eq_false h4]at c4;subst hG;refine qWf (Q9 @q1 @g1 @gl @gD @q2 @q3 @q4 @gd @g2) ?_;exact qE Tryz.results87
  ·have q1:=decide_eq_false (p:=(i:Int)<(h:Int)) om;have hin:h-i=0:=by omega
   rw[hin,isF]at hG;subst hG;refine qWf @q1 ?_;exact qE Tryz.results87
end
section
open Go.RowKit
theorem hcheck_s{h w K:Nat}{A H U C:List (List Int)}(hA:MI h w K A)(hH:MI h w K H)(hU:MI h h K U)(hC:MI h h K C)(hK:K<=40000000000)(hn:h<=1000000)(hw:w<=1000000):Spec Tryz.prog 53 [mat w A,herm h w H U C] (.sc (.bool (chkF h w A H U C))):=by
 have hP:=mul_mi hU hA hn;have hQ:=mul_mi hU hC hn;have hI:MI h h (2*K+1) (idL h):=(mk_mi (K:=1) λ_ _ _ _=>fits01).mono om;have c1:=imValid_s hA om hn hw;have c2:=pis_s hH om hn hw;have c3:=imValid_s hU om hn hn;have c4:=imValid_s hC om hn hn;have c5:=pmulM_s hU hA om hn hn hw;have c6:=pmulM_s hU hC om hn hn hn;have c7:=pident_s h hn;have c8:=pequal_s hP (hH.mono om) om hn hw;have c9:=pequal_s hQ hI om hn hn;have l1:=hA.len;have l2:=hH.len;have l3:=hU.len;have l4:=hC.len;have l5:=hP.len;have l6:=hQ.len;have l7:=hI.len;unfold chkF;generalize isF H w h 0 (-1)=b1 at*;generalize mulM h h w U A=P at*;generalize mulM h h h U C=Q at*;generalize idL h=I at*;generalize decide (P=H)=b2 at*;generalize decide (Q=I)=b3 at*;unfold herm mat at*;simp only[l1,l2,l3,l4,l5,l6,l7]at*;refine qF Tryz.func53 Tryz.ntmps53 λB hB=> ?_;cases b1<;>cases b2<;>cases b3
 all_goals
  (repeat(first|refine DO.nil (by kernel_rfl) ?_|(with_reducible refine qO ?_)|((first|apply SO.call|apply DO.call);(iterate 3 exact qS);(first|apply SCall.ofX|apply DCall.ofX);assumption;exact qS)|((with_reducible first|apply wa|apply wb|apply wc|apply wd);exact qS;(first|refine pT ?_|refine pF ?_|fail_if_success with_reducible refine pA ?_))|((with_reducible refine SC.draw Tab.mixed ?_ ?_);(focus(first|rfl|simp(disch:=omega) only[go_sem,↓reduceIte,zn1,zn2,zn3,zn4,zn5,zn6,reduceCtorEq,zn7,zi1,zi2,if_pos,if_neg,Int.reduceAdd])))|(with_reducible apply SC.ops)|(with_reducible apply SR.next)|refine SC.loopN 3 ?_))
  exact qE Tryz.results53
end
section
open Go.RowKit
theorem pcheck_s{h w K:Nat}{A H U C:List (List Int)}{l:List OpL}(hI:MI h h K (idL h))(hA:MI h w K A)(hH:MI h w K H)(hU:MI h h K U)(hC:MI h h K C)(hK:K<=40000000000)(hn:h<=1000000)(hw:w<=1000000)(hl: ∀o∈l,OkOp h o)(hll:l.length<=1000000000)(hS: ∀i,i<=l.length->MI h h K (actsO (idL h) (l.take i)))(hE:MI h h K (actsO (idL h) l)):
  Spec Tryz.prog 16 [kept h w A H U C l] (.sc (.bool (chkF h w A H U C&&decide (actsO (idL h) l=U)))):=by
 have c1:=hcheck_s hA hH hU hC hK hn hw;have c2:=pident_s h hn;have c3:=iapply_s (K:=K) (M:=idL h) hI hl hS om hll hn hn;have c4:=pequal_s hE hU om hn hn;have c5:=imValid_s hA om hn hw;have c6:=ivalid_s hl hn hll;have l1:=hA.len;have l2:=hI.len;have l3:=hU.len;have l4:=hE.len;generalize chkF h w A H U C=b1 at*;generalize actsO (idL h) l=E at*;generalize decide (E=U)=b2 at*;unfold herm kept mat at*;simp only[l1,l2,l3,l4]at*;generalize idL h=I at*;refine qF Tryz.func16 Tryz.ntmps16 λB hB=> ?_;cases b1<;>cases b2
 all_goals
  refine qW ?_;exact qE Tryz.results16
end
section
open Go.RowKit
section
variable {N h w:Nat} {A:List (List Int)} {l:List OpL}
theorem Kp.mH(hk:Kp h w KR A l):MI h w KR (actsO A l):=by have:=hk.red.st l.length;rwa[List.take_length]at this
theorem Kp.mU(hk:Kp h w KR A l):MI h h KR (actsO (idL h) l):=by have:=hk.red.su l.length;rwa[List.take_length]at this
theorem Kp.mC(hk:Kp h w KR A l):MI h h KR (actsO (idL h) (invL l)):=by have:=hk.red.sv (invL l).length;rwa[List.take_length]at this
theorem Kp.mA(hk:Kp h w KR A l):MI h w KR A:=hk.red.st 0
theorem Kp.mI(hk:Kp h w KR A l):MI h h KR (idL h):=hk.red.su 0
theorem kr_le:KR<=1000000:=by unfold KR;omega
theorem Kp.rcheck(hk:Kp h w KR A l)(hh:h+w<=12):Spec Tryz.prog 30 [keptS h w A l] (.sc (.bool true)):=by have hkr:=kr_le;have:=rcheck_s hk.mI hk.mA hk.mH hk.mU hk.mC om om om hk.red.ok hk.red.len (λi _=>hk.hS i) hk.mU;rwa[hk.chk,decide_eq_true rfl]at this
theorem Kp.pcheck(hk:Kp h w KR A l)(hh:h+w<=12):Spec Tryz.prog 16 [keptS h w A l] (.sc (.bool true)):=by have hkr:=kr_le;have:=pcheck_s hk.mI hk.mA hk.mH hk.mU hk.mC om om om hk.red.ok hk.red.len (λi _=>hk.red.su i) hk.mU;rwa[hk.chk,decide_eq_true rfl]at this
end
end
section
open Go.RowKit
section
variable {N h w:Nat} {A:List (List Int)} {l l1:List OpL}
theorem fits_small{v:List Int}(hv: ∀x∈v,x.natAbs<=511): ∀x∈v,Fits 1 x:=λx hx=>by have:=hv x hx;unfold Fits;omega
theorem start_ok(hk:Kp h w KR A l)(hh:h+w<=12):Spec Tryz.prog 14 [mat w A] (keptS h w A l):=(hk.redd hh).start
theorem ins_ok{i:Nat}{v:List Int}(hk:Kp h w KR A l)(hk1:Kp (h+1) w KR (insI A i v) l1)(hh:h+1+w<=12)(hi:i<=h)(hv:v.length=w):Spec Tryz.prog 19 [keptS h w A l,.sc (.int .i64 i),.im (ivR v) w] (.tu [keptS (h+1) w (insI A i v) l1,.sc (.int .i64 0)]):=by have hkr:=kr_le;have h1:=uinsert_s (H:=actsO A l) (U:=actsO (idL h) l) (C:=actsO (idL h) (invL l)) (l:=l) (e:=0) (K1:=KR) (l1:=l1) hk.mA om om om i v om (by rw[if_neg om,if_pos hv]) (λ_=>by rw[Int.toNat_natCast];exact hk1.redd hh);rw[if_pos rfl,hv,Int.toNat_natCast]at h1;exact h1
theorem ins_no{i:Int}{v:List Int}{e:Int}(hk:Kp h w KR A l)(hh:h+w<=12)(hv:v.length<=1000)(he:e=if i<0\/(h:Int)<i then 1 else if v.length=w then 0 else 50)(h0:e≠0):Spec Tryz.prog 19 [keptS h w A l,.sc (.int .i64 i),.im (ivR v) v.length] (.tu [keptZ,.sc (.int .i64 e)]):=by have hkr:=kr_le;have h1:=uinsert_s (H:=actsO A l) (U:=actsO (idL h) l) (C:=actsO (idL h) (invL l)) (l:=l) (e:=e) (K1:=KR) (l1:=l) hk.mA om om om i v om he (λh=>absurd h h0);rw[if_neg h0]at h1;exact h1
theorem del_ok{i:Nat}(hk:Kp h w KR A l)(hk1:Kp (h-1) w KR (delI A i) l1)(hh:h+w<=12)(hi:i<h):Spec Tryz.prog 22 [keptS h w A l,.sc (.int .i64 i)] (.tu [keptS (h-1) w (delI A i) l1,.sc (.int .i64 0)]):=by have hkr:=kr_le;have h1:=udelete_s (H:=actsO A l) (U:=actsO (idL h) l) (C:=actsO (idL h) (invL l)) (l:=l) (e:=0) (K1:=KR) (l1:=l1) hk.mA om om om i (by rw[if_neg om]) (λ_=>by rw[Int.toNat_natCast];exact hk1.redd om);rw[if_pos rfl,Int.toNat_natCast]at h1;exact h1
theorem del_no{i:Int}(hk:Kp h w KR A l)(hh:h+w<=12)(hi:i<0\/(h:Int)<=i):Spec Tryz.prog 22 [keptS h w A l,.sc (.int .i64 i)] (.tu [keptZ,.sc (.int .i64 1)]):=by have hkr:=kr_le;have h1:=udelete_s (H:=actsO A l) (U:=actsO (idL h) l) (C:=actsO (idL h) (invL l)) (l:=l) (e:=1) (K1:=KR) (l1:=l) hk.mA om om om i (by rw[if_pos hi]) (λh=>by omega);rw[if_neg om]at h1;exact h1
theorem rai_ok{u v:List Int}(hk:Kp h w KR A l)(hk1:Kp h w KR (raiI h w A u v) l1)(hh:h+w<=12)(hu:u.length=h)(hv:v.length=w)(hfu: ∀x∈u,x.natAbs<=511)(hfv: ∀x∈v,x.natAbs<=511):Spec Tryz.prog 24 [keptS h w A l,.im (ivR u) h,.im (ivR v) w] (.tu [keptS h w (raiI h w A u v) l1,.sc (.int .i64 0)]):=by
 have hkr:=kr_le;have hkr1:1<=KR:=by unfold KR;omega
 have h1:=urank_s (H:=actsO A l) (U:=actsO (idL h) l) (C:=actsO (idL h) (invL l)) (l:=l) (e:=0) (K1:=KR) (l1:=l1) hk.mA om om om u v om om (λx hx=>(fits_small hfu x hx).mono hkr1) (λx hx=>(fits_small hfv x hx).mono hkr1) (by rw[if_pos ⟨hu,hv⟩]) (λ_=>hk1.redd hh);rw[if_pos rfl,hu,hv]at h1;exact h1
theorem rai_no{u v:List Int}(hk:Kp h w KR A l)(hh:h+w<=12)(hul:u.length<=1000)(hvl:v.length<=1000)(hfu: ∀x∈u,x.natAbs<=511)(hfv: ∀x∈v,x.natAbs<=511)(hn: ¬(u.length=h/\v.length=w)):Spec Tryz.prog 24 [keptS h w A l,.im (ivR u) u.length,.im (ivR v) v.length] (.tu [keptZ,.sc (.int .i64 50)]):=by
 have hkr:=kr_le;have hkr1:1<=KR:=by unfold KR;omega
 have h1:=urank_s (H:=actsO A l) (U:=actsO (idL h) l) (C:=actsO (idL h) (invL l)) (l:=l) (e:=50) (K1:=KR) (l1:=l) hk.mA om om om u v om om (λx hx=>(fits_small hfu x hx).mono hkr1) (λx hx=>(fits_small hfv x hx).mono hkr1) (by rw[if_neg hn]) (λh=>by omega);rw[if_neg om]at h1;exact h1
theorem col_ok{v:List Int}(hk:Kp h w KR A l)(hk1:Kp h (w+1) KR (widI A v) l1)(hh:h+(w+1)<=12)(hv:v.length=h):Spec Tryz.prog 26 [keptS h w A l,.im (ivR v) h] (.tu [keptS h (w+1) (widI A v) l1,.sc (.int .i64 0)]):=by have hkr:=kr_le;have h1:=ucolumn_s (H:=actsO A l) (U:=actsO (idL h) l) (C:=actsO (idL h) (invL l)) (l:=l) (e:=0) (K1:=KR) (l1:=l1) hk.mA om om om v om (by rw[if_pos hv]) (λ_=>hk1.redd hh);rw[if_pos rfl,hv]at h1;exact h1
theorem col_no{v:List Int}(hk:Kp h w KR A l)(hh:h+w<=12)(hvl:v.length<=1000)(hv:v.length≠h):Spec Tryz.prog 26 [keptS h w A l,.im (ivR v) v.length] (.tu [keptZ,.sc (.int .i64 50)]):=by have hkr:=kr_le;have h1:=ucolumn_s (H:=actsO A l) (U:=actsO (idL h) l) (C:=actsO (idL h) (invL l)) (l:=l) (e:=50) (K1:=KR) (l1:=l) hk.mA om om om v om (by rw[if_neg hv]) (λh=>by omega);rw[if_neg om]at h1;exact h1
theorem mul_sub{U:List (List Int)}{M:List (List Int)}(e:mulM h h w U A=M):SubL h w (ent2 A) (ent2 M):=λi hi=>⟨λt=>ent2 U i t,λj hj=>by rw[<-e];unfold mulM ent2;rw[mkM_get hi,mkR_get hj]⟩
theorem Kp.eq{G U V:List (List Int)}{r:Nat}{p:Nat->Nat}(hk:Kp h w KR A l)(hh:h<=1000000)(hG:MI h w KR G)(hH:IsH h w (ent2 G) r p)(h1:mulM h h w U A=G)(h2:mulM h h w V G=A):actsO A l=G:=by obtain⟨r',p',hI⟩:=hk.isH;have e1:=acts_prod hk.mA hk.red.ok hh;have e2:=acts_prod hk.mH (λo ho=>invL_ok hk.red.ok o ho) hh (l:=invL l);rw[hk.back]at e2;exact mat_ent hk.mH hG λi j hi hj=>IsH.uniq hI hH (SubL.trans (mul_sub e2) (mul_sub h1)) (SubL.trans (mul_sub h2) (mul_sub e1)) hi hj
end
end
section
open Go.RowKit
def bmB(N h w:Nat)(A:List (List Int)):Bool:=decide (A.length=h)&&A.all λr=>decide (r.length=w)&&r.all λx=>decide (x.natAbs<=N)
theorem bmB_s{N h w:Nat}{A:List (List Int)}(h1:bmB N h w A=true):Bm N h w A:=by
 unfold bmB at h1;rw[Bool.and_eq_true,decide_eq_true_eq,zlf]at h1;have h2: ∀r,r<h->(A.getD r []).length=w/\ ∀x∈A.getD r [],x.natAbs<=N:=λr hr=>by have:=h1.2 _ (getD_mem (d:=[]) (l:=A) (i:=r) om);rw[Bool.and_eq_true,decide_eq_true_eq,zlf]at this;exact⟨this.1,λx hx=>of_decide_eq_true (this.2 x hx)⟩
 exact⟨⟨h1.1,λr hr=>(h2 r hr).1⟩,λq t hq=>bm_row (i:=0) (h2 q hq).2⟩
def isHB(h w:Nat)(M:Nat->Nat->Int)(r:Nat)(p:Nat->Nat):Bool:=decide (r<=h/\(∀i,i<r->p i<w/\0<M i (p i))/\(∀i,i<r-> ∀j,j<p i->M i j=0)/\(∀k,k<r-> ∀i,i<k->p i<p k/\0<=M i (p k)/\M i (p k)<M k (p k))/\(∀i,i<h->r<=i-> ∀j,j<w->M i j=0))
theorem isHB_s{h w r:Nat}{M:Nat->Nat->Int}{p:Nat->Nat}(hb:isHB h w M r p=true):IsH h w M r p:=by obtain⟨h1,h2,h3,h4,h5⟩:=of_decide_eq_true hb;exact⟨h1,λi hi=>(h2 i hi).1,λi hi=>(h2 i hi).2,h3,λi k hi hk=>(h4 k hk i hi).1,λi k hi hk=>(h4 k hk i hi).2,λi hi hh=>h5 i hh hi⟩
def inl19(f:Nat):Bool:=f==75
theorem evn19{f:Nat}{ys:List V}{x:V}(h:runV Tryz.prog (λ_ _=>none) (exX Tryz.prog (λ_ _=>none) inl19 200) f ys=some x):Spec Tryz.prog f ys x:=Spec.eval (K:=λ_ _=>none) (λ_ _ _ h=>by cases h) 200 inl19 h
theorem is_s{h w:Nat}{A G:List (List Int)}{l:List OpL}(hk:Kp h w KR A l)(hh:h+w<=12)(hG:actsO A l=G):Spec Tryz.prog 44 [keptS h w A l,mat w A,mat w G] (.sc (.bool true)):=by subst hG;have hkr:=kr_le;have c1:=hk.rcheck hh;have c2:=isame_s hk.mA om om om;have c4:=isame_s hk.mH om om om;have l1:=hk.mA.len;have l2:=hk.mH.len;unfold keptS kept mat at*;simp only[l1,l2]at c1 c2 c4⊢;generalize actsO A l=H at*;generalize imR h (rI (actsO (idL h) l))=U at*;generalize imR h (rI (actsO (idL h) (invL l)))=C at*;generalize imR w (rI H)=F1 at*;generalize imR w (rI A)=M1 at*;refine qF Tryz.func44 Tryz.ntmps44 λB hB=> ?_;refine qW ?_;exact qE Tryz.results44
theorem kept_op(h w:Nat)(A:List (List Int))(l:List OpL): ∃v1 v2 X1 n1 v3 v4 X2 n2 v5 v6 X3 n3 v7 v8 X4 n4 X5 n5,keptS h w A l= .ag [.sc (.int .i64 v1),.sc (.int .i64 v2),.im X1 n1,.sc (.int .i64 v3),.sc (.int .i64 v4),.im X2 n2,.sc (.int .i64 v5),.sc (.int .i64 v6),.im X3 n3,.sc (.int .i64 v7),.sc (.int .i64 v8),.im X4 n4,.im X5 n5]:=⟨_,_,_,_,_,_,_,_,_,_,_,_,_,_,_,_,_,_,rfl⟩
theorem keptZ_op: ∃v1 v2 X1 n1 v3 v4 X2 n2 v5 v6 X3 n3 v7 v8 X4 n4 X5 n5,keptZ= .ag [.sc (.int .i64 v1),.sc (.int .i64 v2),.im X1 n1,.sc (.int .i64 v3),.sc (.int .i64 v4),.im X2 n2,.sc (.int .i64 v5),.sc (.int .i64 v6),.im X3 n3,.sc (.int .i64 v7),.sc (.int .i64 v8),.im X4 n4,.im X5 n5]:=⟨_,_,_,_,_,_,_,_,_,_,_,_,_,_,_,_,_,_,rfl⟩
theorem mat_op(w:Nat)(A:List (List Int)): ∃v1 v2 X n,mat w A= .ag [.sc (.int .i64 v1),.sc (.int .i64 v2),.im X n]:=⟨_,_,_,_,rfl⟩
set_option maxRecDepth 8000 in
theorem sanity_s:Spec Tryz.prog 12 [] (.sc (.bool true)):=by
 have iM1:Spec Tryz.prog 41 [.sc (.int .i64 2),.sc (.int .i64 1),.im [.sc (.int .i64 2),.sc (.int .i64 3)] 2] (mat 1 [[2],[3]]):=evn19 (by kernel_rfl);have iM2:Spec Tryz.prog 41 [.sc (.int .i64 1),.sc (.int .i64 1),.im [.sc (.int .i64 6)] 1] (mat 1 [[6]]):=evn19 (by kernel_rfl);have iM3:Spec Tryz.prog 41 [.sc (.int .i64 2),.sc (.int .i64 1),.im [.sc (.int .i64 4),.sc (.int .i64 6)] 2] (mat 1 [[4],[6]]):=evn19 (by kernel_rfl);have iM4:Spec Tryz.prog 41 [.sc (.int .i64 1),.sc (.int .i64 1),.im [.sc (.int .i64 2)] 1] (mat 1 [[2]]):=evn19 (by kernel_rfl);have iM6:Spec Tryz.prog 41 [.sc (.int .i64 2),.sc (.int .i64 2),.im [.sc (.int .i64 2),.sc (.int .i64 0),.sc (.int .i64 1),.sc (.int .i64 1)] 4] (mat 2 [[2,0],[1,1]]):=evn19 (by kernel_rfl);have iM7:Spec Tryz.prog 41 [.sc (.int .i64 2),.sc (.int .i64 1),.im [.sc (.int .i64 1),.sc (.int .i64 1)] 2] (mat 1 [[1],[1]]):=evn19 (by kernel_rfl);have iM8:Spec Tryz.prog 41 [.sc (.int .i64 2),.sc (.int .i64 2),.im [.sc (.int .i64 1),.sc (.int .i64 2),.sc (.int .i64 1),.sc (.int .i64 5)] 4] (mat 2 [[1,2],[1,5]]):=evn19 (by kernel_rfl);have iG1:Spec Tryz.prog 41 [.sc (.int .i64 2),.sc (.int .i64 1),.im [.sc (.int .i64 1),.sc (.int .i64 0)] 2] (mat 1 [[1],[0]]):=evn19 (by kernel_rfl);have iG3:Spec Tryz.prog 41 [.sc (.int .i64 2),.sc (.int .i64 1),.im [.sc (.int .i64 2),.sc (.int .i64 0)] 2] (mat 1 [[2],[0]]):=evn19 (by kernel_rfl);have iG6:Spec Tryz.prog 41 [.sc (.int .i64 2),.sc (.int .i64 2),.im [.sc (.int .i64 1),.sc (.int .i64 1),.sc (.int .i64 0),.sc (.int .i64 2)] 4] (mat 2 [[1,1],[0,2]]):=evn19 (by kernel_rfl);have iG8:Spec Tryz.prog 41 [.sc (.int .i64 2),.sc (.int .i64 2),.im [.sc (.int .i64 1),.sc (.int .i64 2),.sc (.int .i64 0),.sc (.int .i64 3)] 4] (mat 2 [[1,2],[0,3]]):=evn19 (by kernel_rfl);have r4:Spec Tryz.prog 42 [.im [.sc (.int .i64 4)] 1] (.im (ivR [4]) 1):=evn19 (by kernel_rfl);have r11:Spec Tryz.prog 42 [.im [.sc (.int .i64 1),.sc (.int .i64 1)] 2] (.im (ivR [1,1]) 2):=evn19 (by kernel_rfl);have r10:Spec Tryz.prog 42 [.im [.sc (.int .i64 1),.sc (.int .i64 0)] 2] (.im (ivR [1,0]) 2):=evn19 (by kernel_rfl);have r25:Spec Tryz.prog 42 [.im [.sc (.int .i64 2),.sc (.int .i64 5)] 2] (.im (ivR [2,5]) 2):=evn19 (by kernel_rfl);have r45:Spec Tryz.prog 42 [.im [.sc (.int .i64 4),.sc (.int .i64 5)] 2] (.im (ivR [4,5]) 2):=evn19 (by kernel_rfl);have r1:Spec Tryz.prog 42 [.im [.sc (.int .i64 1)] 1] (.im (ivR [1]) 1):=evn19 (by kernel_rfl);have r0:Spec Tryz.prog 42 [.im [] 0] (.im (ivR []) 0):=evn19 (by kernel_rfl);have iI:Spec Tryz.prog 43 [.sc (.int .i64 2)] (mat 2 (idL 2)):=rident_s 2 om;obtain⟨l1,k1⟩:=kp_ex (N:=511) (h:=2) (w:=1) (A:=[[2],[3]]) (bmB_s (by decide)) om om;obtain⟨l2,k2⟩:=kp_ex (N:=511) (h:=1) (w:=1) (A:=[[6]]) (bmB_s (by decide)) om om;obtain⟨l3,k3⟩:=kp_ex (N:=511) (h:=2) (w:=1) (A:=[[4],[6]]) (bmB_s (by decide)) om om;obtain⟨l4,k4⟩:=kp_ex (N:=511) (h:=1) (w:=1) (A:=[[2]]) (bmB_s (by decide)) om om;obtain⟨l5,k5⟩:=kp_ex (N:=511) (h:=2) (w:=2) (A:=(idL 2)) (bmB_s (by decide)) om om;obtain⟨l6,k6⟩:=kp_ex (N:=511) (h:=2) (w:=2) (A:=[[2,0],[1,1]]) (bmB_s (by decide)) om om;obtain⟨l7,k7⟩:=kp_ex (N:=511) (h:=2) (w:=1) (A:=[[1],[1]]) (bmB_s (by decide)) om om;obtain⟨l8,k8⟩:=kp_ex (N:=511) (h:=2) (w:=2) (A:=[[1,2],[1,5]]) (bmB_s (by decide)) om om;have s1:=start_ok k1 om;have s2:=start_ok k2 om;have s5:=start_ok k5 om;have s7:=start_ok k7 om;have q1:=is_s k1 om (k1.eq (G:=[[1],[0]]) (U:=[[-1,1],[3,-2]]) (V:=[[2,0],[3,0]]) (r:=1) (p:=λi=>i) om (((bmB_s (N:=511) (by decide)).mi om).mono (show 1<=KR by unfold KR;omega)) (isHB_s (by decide)) (by decide) (by decide));have q3:=is_s k3 om (k3.eq (G:=[[2],[0]]) (U:=[[-1,1],[3,-2]]) (V:=[[2,0],[3,0]]) (r:=1) (p:=λi=>i) om (((bmB_s (N:=511) (by decide)).mi om).mono (show 1<=KR by unfold KR;omega)) (isHB_s (by decide)) (by decide) (by decide));have q4:=is_s k4 om (k4.eq (G:=[[2]]) (U:=[[1]]) (V:=[[1]]) (r:=1) (p:=λi=>i) om (((bmB_s (N:=511) (by decide)).mi om).mono (show 1<=KR by unfold KR;omega)) (isHB_s (by decide)) (by decide) (by decide));have q6:=is_s k6 om (k6.eq (G:=[[1,1],[0,2]]) (U:=[[0,1],[-1,2]]) (V:=[[2,-1],[1,0]]) (r:=2) (p:=λi=>i) om (((bmB_s (N:=511) (by decide)).mi om).mono (show 1<=KR by unfold KR;omega)) (isHB_s (by decide)) (by decide) (by decide));have q8:=is_s k8 om (k8.eq (G:=[[1,2],[0,3]]) (U:=[[1,0],[-1,1]]) (V:=[[1,0],[1,1]]) (r:=2) (p:=λi=>i) om (((bmB_s (N:=511) (by decide)).mi om).mono (show 1<=KR by unfold KR;omega)) (isHB_s (by decide)) (by decide) (by decide));have cA:Spec Tryz.prog 19 [keptS 1 1 [[6]] l2,.sc (.int .i64 0),.im (ivR [4]) 1] (.tu [keptS 2 1 [[4],[6]] l3,.sc (.int .i64 0)]):=ins_ok (i:=0) (v:=[4]) k2 k3 om om rfl;have cB:Spec Tryz.prog 22 [keptS 2 1 [[2],[3]] l1,.sc (.int .i64 1)] (.tu [keptS 1 1 [[2]] l4,.sc (.int .i64 0)]):=del_ok (i:=1) k1 k4 om om;have cC:Spec Tryz.prog 24 [keptS 2 2 (idL 2) l5,.im (ivR [1,1]) 2,.im (ivR [1,0]) 2] (.tu [keptS 2 2 [[2,0],[1,1]] l6,.sc (.int .i64 0)]):=rai_ok (u:=[1,1]) (v:=[1,0]) k5 k6 om rfl rfl (by decide) (by decide);have cD:Spec Tryz.prog 26 [keptS 2 1 [[1],[1]] l7,.im (ivR [2,5]) 2] (.tu [keptS 2 2 [[1,2],[1,5]] l8,.sc (.int .i64 0)]):=col_ok (v:=[2,5]) k7 k8 om rfl;have cE:Spec Tryz.prog 19 [keptS 1 1 [[6]] l2,.sc (.int .i64 2),.im (ivR [4]) 1] (.tu [keptZ,.sc (.int .i64 1)]):=ins_no (v:=[4]) k2 om (by decide) (by decide) (by decide);have cF:Spec Tryz.prog 19 [keptS 1 1 [[6]] l2,.sc (.int .i64 0),.im (ivR [4,5]) 2] (.tu [keptZ,.sc (.int .i64 50)]):=ins_no (v:=[4,5]) k2 om (by decide) (by decide) (by decide);have cG:Spec Tryz.prog 22 [keptS 1 1 [[6]] l2,.sc (.int .i64 1)] (.tu [keptZ,.sc (.int .i64 1)]):=del_no k2 om (by decide);have cH:Spec Tryz.prog 24 [keptS 1 1 [[6]] l2,.im (ivR [1,1]) 2,.im (ivR [1]) 1] (.tu [keptZ,.sc (.int .i64 50)]):=rai_no (u:=[1,1]) (v:=[1]) k2 om (by decide) (by decide) (by decide) (by decide) (by decide);have cI:Spec Tryz.prog 26 [keptS 1 1 [[6]] l2,.im (ivR []) 0] (.tu [keptZ,.sc (.int .i64 50)]):=col_no (v:=[]) k2 om (by decide) (by decide);have cK:=k1.pcheck om;obtain⟨a1,a2,X,n,hm,hz⟩: ∃v1 v2 X n,mat 1 [[2],[3]]= .ag [.sc (.int .i64 v1),.sc (.int .i64 v2),.im X n]/\Spec Tryz.prog 16 [.ag [.sc (.int .i64 v1),.sc (.int .i64 v2),.im X n,.sc (.int .i64 0),.sc (.int .i64 0),.im [] 0,.sc (.int .i64 0),.sc (.int .i64 0),.im [] 0,.sc (.int .i64 0),.sc (.int .i64 0),.im [] 0,.im [] 0]] (.sc (.bool false)):=⟨_,_,_,_,rfl,evn19 (by kernel_rfl)⟩
 clear k1 k2 k3 k4 k5 k6 k7 k8;obtain⟨k1v0,k1v1,k1v2,k1v3,k1v4,k1v5,k1v6,k1v7,k1v8,k1v9,k1v10,k1v11,k1v12,k1v13,k1v14,k1v15,k1v16,k1v17,e1⟩:=kept_op 2 1 [[2],[3]] l1;obtain⟨k2v0,k2v1,k2v2,k2v3,k2v4,k2v5,k2v6,k2v7,k2v8,k2v9,k2v10,k2v11,k2v12,k2v13,k2v14,k2v15,k2v16,k2v17,e2⟩:=kept_op 1 1 [[6]] l2;obtain⟨k3v0,k3v1,k3v2,k3v3,k3v4,k3v5,k3v6,k3v7,k3v8,k3v9,k3v10,k3v11,k3v12,k3v13,k3v14,k3v15,k3v16,k3v17,e3⟩:=kept_op 2 1 [[4],[6]] l3;obtain⟨k4v0,k4v1,k4v2,k4v3,k4v4,k4v5,k4v6,k4v7,k4v8,k4v9,k4v10,k4v11,k4v12,k4v13,k4v14,k4v15,k4v16,k4v17,e4⟩:=kept_op 1 1 [[2]] l4;obtain⟨k5v0,k5v1,k5v2,k5v3,k5v4,k5v5,k5v6,k5v7,k5v8,k5v9,k5v10,k5v11,k5v12,k5v13,k5v14,k5v15,k5v16,k5v17,e5⟩:=kept_op 2 2 (idL 2) l5;obtain⟨k6v0,k6v1,k6v2,k6v3,k6v4,k6v5,k6v6,k6v7,k6v8,k6v9,k6v10,k6v11,k6v12,k6v13,k6v14,k6v15,k6v16,k6v17,e6⟩:=kept_op 2 2 [[2,0],[1,1]] l6;obtain⟨k7v0,k7v1,k7v2,k7v3,k7v4,k7v5,k7v6,k7v7,k7v8,k7v9,k7v10,k7v11,k7v12,k7v13,k7v14,k7v15,k7v16,k7v17,e7⟩:=kept_op 2 1 [[1],[1]] l7;obtain⟨k8v0,k8v1,k8v2,k8v3,k8v4,k8v5,k8v6,k8v7,k8v8,k8v9,k8v10,k8v11,k8v12,k8v13,k8v14,k8v15,k8v16,k8v17,e8⟩:=kept_op 2 2 [[1,2],[1,5]] l8;obtain⟨z0,z1,z2,z3,z4,z5,z6,z7,z8,z9,z10,z11,z12,z13,z14,z15,z16,z17,eZ⟩:=keptZ_op;simp only[e1,e2,e3,e4,e5,e6,e7,e8,eZ]at cA cB cC cD cE cF cG cH cI cK s1 s2 s5 s7 q1 q3 q4 q6 q8;clear e1 e2 e3 e4 e5 e6 e7 e8 eZ;simp only[hm]at iM1 s1 q1;obtain⟨M21,M22,M23,M24,eM2⟩:=mat_op 1 [[6]];obtain⟨M31,M32,M33,M34,eM3⟩:=mat_op 1 [[4],[6]];obtain⟨M41,M42,M43,M44,eM4⟩:=mat_op 1 [[2]];obtain⟨M61,M62,M63,M64,eM6⟩:=mat_op 2 [[2,0],[1,1]];obtain⟨M71,M72,M73,M74,eM7⟩:=mat_op 1 [[1],[1]];obtain⟨M81,M82,M83,M84,eM8⟩:=mat_op 2 [[1,2],[1,5]];obtain⟨G11,G12,G13,G14,eG1⟩:=mat_op 1 [[1],[0]];obtain⟨G31,G32,G33,G34,eG3⟩:=mat_op 1 [[2],[0]];obtain⟨G61,G62,G63,G64,eG6⟩:=mat_op 2 [[1,1],[0,2]];obtain⟨G81,G82,G83,G84,eG8⟩:=mat_op 2 [[1,2],[0,3]];obtain⟨I1,I2,I3,I4,eI⟩:=mat_op 2 (idL 2);simp only[eM2,eM3,eM4,eM6,eM7,eM8,eG1,eG3,eG6,eG8,eI]at iM2 iM3 iM4 iM6 iM7 iM8 iG1 iG3 iG6 iG8 iI s2 s5 s7 q1 q3 q4 q6 q8;clear hm eI eM2 eM3 eM4 eM6 eM7 eM8 eG1 eG3 eG6 eG8;generalize ivR [4]=w4 at*;generalize ivR [1,1]=w11 at*;generalize ivR [1,0]=w10 at*;generalize ivR [2,5]=w25 at*;generalize ivR [4,5]=w45 at*;generalize ivR [1]=w1 at*;generalize ivR []=w0 at*;refine qF Tryz.func12 Tryz.ntmps12 λB hB=> ?_;refine qW ?_;exact qE Tryz.results12
end
section
open Go.ChangeShapes Go.WideShapes Go.ChangeAt Go.RowKit
theorem filL_bm{h w:Nat}{l:List Int}(hb: ∀x∈l,-128<=x/\x<=127):Bm 9 h w (filL h w l):=by
 refine⟨⟨mkM_len,λr hr=>by unfold filL;rw[mkM_get hr];exact mkR_len⟩,λq t hq=> ?_⟩;unfold ent2 filL;rw[mkM_get hq];by_cases ht:t<w
 ·rw[mkR_get ht];have:=dgt_small (k:=q*w+t) hb;omega
 ·rw[List.getD_eq_getElem?_getD,List.getElem?_eq_none (by rw[mkR_len];omega)];exact znc _
section
variable {h w:Nat} {A:List (List Int)} {l:List OpL}
end
end
section
open Go.RowKit
inductive Bad(n:Nat)(o:OpL):Prop
 |i:n<=o.i->Bad n o
 |s1:o.i<n->o.kd=1->n<=o.j->Bad n o
 |s2:o.i<n->o.kd=1->o.j<n->o.i=o.j->Bad n o
 |s3:o.i<n->o.kd=1->o.j<n->o.i≠o.j->o.k≠0->Bad n o
 |n1:o.i<n->o.kd=2->o.j≠0->Bad n o
 |n2:o.i<n->o.kd=2->o.j=0->o.k≠0->Bad n o
 |a1:o.i<n->o.kd=3->n<=o.j->Bad n o
 |a2:o.i<n->o.kd=3->o.j<n->o.i=o.j->Bad n o
 |k:o.i<n->o.kd≠1->o.kd≠2->o.kd≠3->Bad n o
theorem bad_of{n:Nat}{o:OpL}(h: ¬OkOp n o)(hk:Fits OL o.k):Bad n o:=by
 by_cases hi:o.i<n
 ·by_cases h1:o.kd=1
  ·by_cases hj:o.j<n
   ·by_cases hij:o.i=o.j;·exact .s2 hi h1 hj hij
    ·by_cases h0:o.k=0;·exact absurd ⟨hi,hk,.inl ⟨h1,hj,hij,h0⟩⟩ h
     ·exact .s3 hi h1 hj hij h0
   ·exact .s1 hi h1 om
  ·by_cases h2:o.kd=2
   ·by_cases hj:o.j=0
    ·by_cases h0:o.k=0;·exact absurd ⟨hi,hk,.inr (.inl ⟨h2,hj,h0⟩)⟩ h
     ·exact .n2 hi h2 hj h0
    ·exact .n1 hi h2 hj
   ·by_cases h3:o.kd=3
    ·by_cases hj:o.j<n
     ·by_cases hij:o.i=o.j;·exact .a2 hi h3 hj hij
      ·exact absurd ⟨hi,hk,.inr (.inr ⟨h3,hj,hij⟩)⟩ h
     ·exact .a1 hi h3 om
    ·exact .k hi h1 h2 h3
 ·exact .i om
theorem inB{i n:Nat}:(decide ((0:Int)<=(i:Int))&&decide ((i:Int)<(n:Int)))=decide (i<n):=by
 by_cases h:i<n;·rw[decide_eq_true h];simp;omega
 ·rw[decide_eq_false h];simp;omega
set_option maxRecDepth 8000 in
theorem fitsN_s{n:Nat}{o:OpL}(h:Bad n o)(hk:Fits OL o.k)(hn:n<=1000000):Spec Tryz.prog 89 [.ag (opC o),.sc (.int .i64 n)] (.sc (.bool false)):=by
 obtain⟨kd,i,j,k⟩:=o;have hOL:=OL_le;simp only at hk;have c1:=pvalid_i k OL hk om;have c2:=psign_i k OL hk om;have d1:=inN_s i n;have d2:=inN_s j n;rw[inB]at d1 d2;unfold opC;unfold iv sv at c1 c2;unfold sv;simp only;refine qF Tryz.func89 Tryz.ntmps89 λB hB=> ?_;refine qW ?_;refine SO.inl qS Tab.go120 qS qS ?_;refine SInl.of (d1 _ om) (by simp(disch:=omega) only[go_sem,↓reduceIte,zn1,zn2,zn3,zn4,zn5,zn6,reduceCtorEq,zn7,zi1,zi2,if_pos,if_neg,Int.reduceAdd]) (.sc _) (onlyN _ _ _ _) qS qS ?_;have r0:k≠0->(k.sign==0)=false:=λh=>by rw[beq_eq_false_iff_ne];intro e;exact h (Int.sign_eq_zero_iff_zero.1 e)
 cases h with
 |i h1=>
  simp only at h1;have e1:decide (i<n)=false:=decide_eq_false om;refine qWf @e1 ?_;exact qE Tryz.results89
 |s1 h1 h2 h3=>
  simp only at h1 h2 h3;subst h2;have e1:decide (i<n)=true:=decide_eq_true h1;have e2:decide (j<n)=false:=decide_eq_false om;rw[e2]at d2;refine qWf @e1 ?_;refine SO.inl qS Tab.go120 qS qS ?_;refine SInl.of (d2 _ om) (by simp(disch:=omega) only[go_sem,↓reduceIte,zn1,zn2,zn3,zn4,zn5,zn6,reduceCtorEq,zn7,zi1,zi2,if_pos,if_neg,Int.reduceAdd]) (.sc _) (onlyN _ _ _ _) qS qS ?_;refine qW ?_;exact qE Tryz.results89
 |s2 h1 h2 h3 h4=>
  simp only at h1 h2 h3 h4;subst h2;have e1:decide (i<n)=true:=decide_eq_true h1;have e2:decide (j<n)=true:=decide_eq_true h3;have e3:((i:Int) !=(j:Int))=false:=by rw[h4];simp
  rw[e2]at d2;refine qWf @e1 ?_;refine SO.inl qS Tab.go120 qS qS ?_;refine SInl.of (d2 _ om) (by simp(disch:=omega) only[go_sem,↓reduceIte,zn1,zn2,zn3,zn4,zn5,zn6,reduceCtorEq,zn7,zi1,zi2,if_pos,if_neg,Int.reduceAdd]) (.sc _) (onlyN _ _ _ _) qS qS ?_;refine qWf @e3 ?_;exact qE Tryz.results89
 |s3 h1 h2 h3 h4 h5=>
  simp only at h1 h2 h3 h4 h5;subst h2;have e1:decide (i<n)=true:=decide_eq_true h1;have e2:decide (j<n)=true:=decide_eq_true h3;have e3:((i:Int) !=(j:Int))=true:=by rw[bne_iff_ne];omega
  have e4:=r0 h5;rw[e2]at d2;refine qWf @e1 ?_;refine SO.inl qS Tab.go120 qS qS ?_;refine SInl.of (d2 _ om) (by simp(disch:=omega) only[go_sem,↓reduceIte,zn1,zn2,zn3,zn4,zn5,zn6,reduceCtorEq,zn7,zi1,zi2,if_pos,if_neg,Int.reduceAdd]) (.sc _) (onlyN _ _ _ _) qS qS ?_;refine qWf (Q2 @e3 @e4) ?_;exact qE Tryz.results89
 |n1 h1 h2 h3=>
  simp only at h1 h2 h3;subst h2;have e1:decide (i<n)=true:=decide_eq_true h1;have e3:((j:Int)==0)=false:=by rw[beq_eq_false_iff_ne];omega
  refine qWf (Q2 @e1 @e3) ?_;exact qE Tryz.results89
 |n2 h1 h2 h3 h4=>
  simp only at h1 h2 h3 h4;subst h2;subst h3;have e1:decide (i<n)=true:=decide_eq_true h1;have e3:(((0:Nat):Int)==0)=true:=rfl;have e4:=r0 h4;refine qWf (Q3 @e1 @e3 @e4) ?_;exact qE Tryz.results89
 |a1 h1 h2 h3=>
  simp only at h1 h2 h3;subst h2;have e1:decide (i<n)=true:=decide_eq_true h1;have e2:decide (j<n)=false:=decide_eq_false om;rw[e2]at d2;refine qWf @e1 ?_;refine SO.inl qS Tab.go120 qS qS ?_;refine SInl.of (d2 _ om) (by simp(disch:=omega) only[go_sem,↓reduceIte,zn1,zn2,zn3,zn4,zn5,zn6,reduceCtorEq,zn7,zi1,zi2,if_pos,if_neg,Int.reduceAdd]) (.sc _) (onlyN _ _ _ _) qS qS ?_;refine qW ?_;exact qE Tryz.results89
 |a2 h1 h2 h3 h4=>
  simp only at h1 h2 h3 h4;subst h2;have e1:decide (i<n)=true:=decide_eq_true h1;have e2:decide (j<n)=true:=decide_eq_true h3;have e3:((i:Int) !=(j:Int))=false:=by rw[h4];simp
  rw[e2]at d2;refine qWf @e1 ?_;refine SO.inl qS Tab.go120 qS qS ?_;refine SInl.of (d2 _ om) (by simp(disch:=omega) only[go_sem,↓reduceIte,zn1,zn2,zn3,zn4,zn5,zn6,reduceCtorEq,zn7,zi1,zi2,if_pos,if_neg,Int.reduceAdd]) (.sc _) (onlyN _ _ _ _) qS qS ?_;refine qWf @e3 ?_;exact qE Tryz.results89
 |k h1 h2 h3 h4=>
  simp only at h1 h2 h3 h4;have e1:decide (i<n)=true:=decide_eq_true h1;have e2:((kd:Int)==1)=false:=by rw[beq_eq_false_iff_ne];omega
  have e3:((kd:Int)==2)=false:=by rw[beq_eq_false_iff_ne];omega
  have e4:((kd:Int)==3)=false:=by rw[beq_eq_false_iff_ne];omega
  refine qWf (Q4 @e1 @e2 @e3 @e4) ?_;exact qE Tryz.results89
theorem validopN_s{n:Nat}{o:OpL}(h:Bad n o)(hk:Fits OL o.k):Spec Tryz.prog 63 [.ag (opC o),.sc (.int .i64 n)] (.sc (.bool false)):=by
 obtain⟨kd,i,j,k⟩:=o;have hOL:=OL_le;simp only at hk;have c0:=rvalid_i k OL hk om;have d1:=inside_s i n;have d2:=inside_s j n;unfold iv sv at c0;unfold opC sv;simp only;have r0:k≠0->(((limbsOf k.natAbs).length:Int)==0)=false:=λh=>by rw[beq_eq_false_iff_ne];intro e;have e:limbsOf k.natAbs=[]:=List.eq_nil_of_length_eq_zero om;have h0:=limbsOf_nil.1 e;omega
 have n1:n<=i->decide ((i:Int)<(n:Int))=false:=λh=>decide_eq_false om;have n2:n<=j->decide ((j:Int)<(n:Int))=false:=λh=>decide_eq_false om;have n3:i<n->decide ((i:Int)<(n:Int))=true:=λh=>decide_eq_true om;have n4:j<n->decide ((j:Int)<(n:Int))=true:=λh=>decide_eq_true om;refine qF Tryz.func63 Tryz.ntmps63 λB hB=> ?_;cases h with
 | i h1=>
  rw[n1 h1]at d1;clear n1 n2 n3 n4 r0 d2;by_cases k1:kd=1
  ·subst k1;refine qW ?_;exact qE Tryz.results63
  by_cases k2:kd=2
  ·subst k2;refine qW ?_;exact qE Tryz.results63
  by_cases k3:kd=3
  ·subst k3;refine qW ?_;exact qE Tryz.results63
  have e2:((kd:Int)==1)=false:=by rw[beq_eq_false_iff_ne];omega
  have e3:((kd:Int)==2)=false:=by rw[beq_eq_false_iff_ne];omega
  have e4:((kd:Int)==3)=false:=by rw[beq_eq_false_iff_ne];omega
  refine qWf (Q3 @e2 @e3 @e4) ?_;exact qE Tryz.results63
 |s1 h1 h2 h3=>
  simp only at h2;subst h2;rw[n3 h1]at d1;rw[n2 h3]at d2;refine qW ?_;exact qE Tryz.results63
 |s2 h1 h2 h3 h4=>
  simp only at h2 h4;subst h2;rw[n3 h1]at d1;rw[n4 h3]at d2;have e3:((i:Int) !=(j:Int))=false:=by rw[h4];simp
  refine qWf @e3 ?_;exact qE Tryz.results63
 |s3 h1 h2 h3 h4 h5=>
  simp only at h2 h4 h5;subst h2;rw[n3 h1]at d1;rw[n4 h3]at d2;have e3:((i:Int) !=(j:Int))=true:=by rw[bne_iff_ne];omega
  have e4:=r0 h5;refine qWf (Q2 @e3 @e4) ?_;exact qE Tryz.results63
 |n1 h1 h2 h3=>
  simp only at h2 h3;subst h2;rw[n3 h1]at d1;have e3:((j:Int)==0)=false:=by rw[beq_eq_false_iff_ne];omega
  refine qWf @e3 ?_;exact qE Tryz.results63
 |n2 h1 h2 h3 h4=>
  simp only at h2 h3 h4;subst h2;subst h3;rw[n3 h1]at d1;have e3:(((0:Nat):Int)==0)=true:=rfl;have e4:=r0 h4;refine qWf (Q2 @e3 @e4) ?_;exact qE Tryz.results63
 |a1 h1 h2 h3=>
  simp only at h2;subst h2;rw[n3 h1]at d1;rw[n2 h3]at d2;refine qW ?_;exact qE Tryz.results63
 |a2 h1 h2 h3 h4=>
  simp only at h2 h4;subst h2;rw[n3 h1]at d1;rw[n4 h3]at d2;have e3:((i:Int) !=(j:Int))=false:=by rw[h4];simp
  refine qWf @e3 ?_;exact qE Tryz.results63
 |k h1 h2 h3 h4=>
  simp only at h2 h3 h4;have e2:((kd:Int)==1)=false:=by rw[beq_eq_false_iff_ne];omega
  have e3:((kd:Int)==2)=false:=by rw[beq_eq_false_iff_ne];omega
  have e4:((kd:Int)==3)=false:=by rw[beq_eq_false_iff_ne];omega
  refine qWf (Q3 @e2 @e3 @e4) ?_;exact qE Tryz.results63
end
section
open Go.RowKit
theorem snoc_get{l:List OpL}{o:OpL}{i:Nat}(h:i<l.length):(l++ [o]).getD i ⟨0,0,0,0⟩=l.getD i ⟨0,0,0,0⟩:=by rw[List.getD_eq_getElem?_getD,List.getElem?_append_left h,List.getD_eq_getElem?_getD]
theorem snoc_last{l:List OpL}{o:OpL}:(l++ [o]).getD l.length ⟨0,0,0,0⟩=o:=by rw[List.getD_eq_getElem?_getD,List.getElem?_append_right (znb _),Nat.sub_self];rfl
theorem snoc_len(l:List OpL)(o:OpL):(l++ [o]).length=l.length+1:=by simp
section
variable {n:Nat} {l:List OpL} {o:OpL}
theorem ivalidN_s(h: ∀o∈l,OkOp n o)(hb:Bad n o)(hk:Fits OL o.k)(hn:n<=1000000)(hl:l.length<=1000000000):Spec Tryz.prog 54 [.im (opsC (l++ [o])) (l.length+1),.sc (.int .i64 n)] (.sc (.bool false)):=by
 have hL:=snoc_len l o;have gl:=opsC_len (l++ [o]);refine qF Tryz.func54 Tryz.ntmps54 λB hB=> ?_;refine qW ?_;refine SC.loop (λi:Nat=>⟨[(1,.sc (.int .i64 n)),(7,.im (opsC (l++ [o])) (l.length+1)),(8,.sc (.int .i64 ((l.length:Int)+1))),(9,.sc (.int .i64 i))],[],0,18⟩)
  (λi=>i<=l.length) (λi=>l.length-i) 0 ?_ ?_ ?_
 ·exact qL
 ·exact znc _
 ·intro i hi K hK;have q1:=decide_eq_true (p:=(i:Int)<(l.length:Int)+1) om;have g1:=opsC_drop (l:=l++ [o]) (i:=i) om;have g2:i*5<(opsC (l++ [o])).length:=by omega
  by_cases hc:i<l.length
  ·have c1:=fits_s (h _ (getD_mem (d:=⟨0,0,0,0⟩) hc)) hn;rw[snoc_get hc]at g1;generalize l.getD i ⟨0,0,0,0⟩=p at*;generalize(opsC (l++ [o])).drop ((i+1)*5)=D at*;generalize opsC (l++ [o])=Z at*;unfold opC at g1 c1;simp only[zl8,zl7]at g1;refine qWf (Q3 @q1 @g1 @g2) ?_;refine hK _ (i+1) ?_ om om;exact qL
  ·have hil:i=l.length:=by omega
   have c1:=fitsN_s hb hk hn;rw[hil,snoc_last]at g1;rw[hil]at g2 q1⊢;generalize(opsC (l++ [o])).drop ((l.length+1)*5)=D at*;generalize opsC (l++ [o])=Z at*;unfold opC at g1 c1;simp only[zl8,zl7]at g1;refine qWf (Q3 @q1 @g1 @g2) ?_;exact qE Tryz.results54
theorem lvalidN_s(h: ∀o∈l,OkOp n o)(hb:Bad n o)(hk:Fits OL o.k)(hl:l.length<=1000000000):Spec Tryz.prog 34 [.im (opsC (l++ [o])) (l.length+1),.sc (.int .i64 n)] (.sc (.bool false)):=by
 have hL:=snoc_len l o;have gl:=opsC_len (l++ [o]);refine qF Tryz.func34 Tryz.ntmps34 λB hB=> ?_;refine qW ?_;refine SC.loop (λk:Nat=>⟨[(0,.im (opsC (l++ [o])) (l.length+1)),(1,.sc (.int .i64 n)),(5,.sc (.int .i64 k))],[],0,19⟩)
  (λk=>k<=l.length) (λk=>l.length-k) 0 ?_ ?_ ?_
 ·exact qM
 ·exact znc _
 ·intro i hi K hK;have q1:=decide_eq_true (p:=(i:Int)<(l.length:Int)+1) om;have q3:=decide_eq_true (p:=(i:Int)<((l.length+1:Nat):Int)) om;have g1:=opsC_drop (l:=l++ [o]) (i:=i) om;have g2:i*5<(opsC (l++ [o])).length:=by omega
  by_cases hc:i<l.length
  ·have c1:=lvalidop_s (h _ (getD_mem (d:=⟨0,0,0,0⟩) hc));rw[snoc_get hc]at g1;generalize l.getD i ⟨0,0,0,0⟩=p at*;generalize(opsC (l++ [o])).drop ((i+1)*5)=D at*;generalize opsC (l++ [o])=Z at*;obtain⟨kd,a,b,f⟩:=p;unfold opC sv at c1 g1;simp only[zl8,zl7]at g1;simp only at c1;refine qWf (Q4 @q1 @q3 @g1 @g2) ?_;refine hK _ (i+1) ?_ om om;exact qM
  ·have hil:i=l.length:=by omega
   have c1:=validopN_s hb hk;rw[hil,snoc_last]at g1;rw[hil]at g2 q1 q3⊢;generalize(opsC (l++ [o])).drop ((l.length+1)*5)=D at*;generalize opsC (l++ [o])=Z at*;obtain⟨kd,a,b,f⟩:=o;unfold opC sv at c1 g1;simp only[zl8,zl7]at g1;simp only at c1;refine qWf (Q4 @q1 @q3 @g1 @g2) ?_;exact qE Tryz.results34
end
end
section
open Go.RowKit
section
variable {h w K:Nat} {A H U C:List (List Int)} {l:List OpL} {o:OpL}
def keptL(h w:Nat)(A H U C:List (List Int))(L:V):V:=
 .ag [.sc (.int .i64 h),.sc (.int .i64 w),.im (imR w (rI A)) h,.sc (.int .i64 h),.sc (.int .i64 w),.im (imR w (rI H)) h,.sc (.int .i64 h),.sc (.int .i64 h),.im (imR h (rI U)) h,.sc (.int .i64 h),.sc (.int .i64 h),.im (imR h (rI C)) h,L]
theorem lapplyN_s{M:List (List Int)}(hM:M.length=h)(hl: ∀o∈l,OkOp h o)(hb:Bad h o)(hk:Fits OL o.k)(hll:l.length<=1000000000):
  Spec Tryz.prog 35 [.im (opsC (l++ [o])) (l.length+1),mat w M] (.tu [mat 0 [],.sc (.int .i64 180)]):=by
 have c1:=lvalidN_s hl hb hk hll;have e0:mat 0 []= .ag [.sc (.int .i64 0),.sc (.int .i64 0),.im [] 0]:=rfl;rw[e0];unfold mat;rw[hM];refine qF Tryz.func35 Tryz.ntmps35 λB hB=> ?_;refine qW ?_;exact qE Tryz.results35
theorem rcheckN_s(hA:MI h w K A)(hH:MI h w K H)(hU:MI h h K U)(hC:MI h h K C)(hK:K<=40000000000)(hn:h<=1000000)(hw:w<=1000000)(hl: ∀o∈l,OkOp h o)(hb:Bad h o)(hk:Fits OL o.k)(hll:l.length<=1000000000):
  Spec Tryz.prog 30 [keptL h w A H U C (.im (opsC (l++ [o])) (l.length+1))] (.sc (.bool false)):=by
 have c1:=lcheck_s hA hH hU hC hK hn hw;have c2:=rident_s h hn;have hI:(idL h).length=h:=mkM_len;have c3:=lapplyN_s (w:=h) hI hl hb hk hll;have e0:mat 0 []= .ag [.sc (.int .i64 0),.sc (.int .i64 0),.im [] 0]:=rfl;rw[e0]at c3;have l1:=hA.len;generalize chkF h w A H U C=b1 at*;unfold herm keptL mat at*;simp only[l1,hI]at*;generalize idL h=I at*;refine qF Tryz.func30 Tryz.ntmps30 λB hB=> ?_;cases b1
 all_goals
  refine qW ?_;exact qE Tryz.results30
theorem pcheckN_s(hA:MI h w K A)(hH:MI h w K H)(hU:MI h h K U)(hC:MI h h K C)(hK:K<=40000000000)(hn:h<=1000000)(hw:w<=1000000)(hl: ∀o∈l,OkOp h o)(hb:Bad h o)(hk:Fits OL o.k)(hll:l.length<=1000000000):
  Spec Tryz.prog 16 [keptL h w A H U C (.im (opsC (l++ [o])) (l.length+1))] (.sc (.bool false)):=by
 have c1:=hcheck_s hA hH hU hC hK hn hw;have c5:=imValid_s hA om hn hw;have c6:=ivalidN_s hl hb hk hn hll;have l1:=hA.len;generalize chkF h w A H U C=b1 at*;unfold herm keptL mat at*;simp only[l1]at*;refine qF Tryz.func16 Tryz.ntmps16 λB hB=> ?_;cases b1
 all_goals
  refine qW ?_;exact qE Tryz.results16
theorem validO_s{m:Int}{X:List V}(hm:0<=m)(hmh:(h:Int)≠m):Spec Tryz.prog 46 [.ag [.sc (.int .i64 m),.sc (.int .i64 w),.im X h]] (.sc (.bool false)):=by
 have q1:decide (m<0)=false:=decide_eq_false om;have q2:decide ((w:Int)<0)=false:=decide_eq_false om;have q3:((h:Int) !=m)=true:=by rw[bne_iff_ne];exact hmh
 refine qF Tryz.func46 Tryz.ntmps46 λB hB=> ?_;refine qWf (Q3 @q1 @q2 @q3) ?_;exact qE Tryz.results46
theorem pcheckO_s{m:Int}{X X2 X3 X4 X5:List V}{n2 n3 n4 n5:Nat}{v3 v4 v5 v6 v7 v8:Int}(hm:0<=m)(hmh:(h:Int)≠m):
  Spec Tryz.prog 16 [.ag [.sc (.int .i64 m),.sc (.int .i64 w),.im X h,.sc (.int .i64 v3),.sc (.int .i64 v4),.im X2 n2,.sc (.int .i64 v5),.sc (.int .i64 v6),.im X3 n3,.sc (.int .i64 v7),.sc (.int .i64 v8),.im X4 n4,.im X5 n5]] (.sc (.bool false)):=by
 have c1:=validO_s (w:=w) (X:=X) hm hmh;refine qF Tryz.func16 Tryz.ntmps16 λB hB=> ?_;refine qW ?_;exact qE Tryz.results16
end
end
section
open Go.RowKit
theorem rcopy_s{h w K:Nat}{M:List (List Int)}(hM:MI h w K M)(hK:K<=90000000000)(hn:h<=1000000)(hw:w<=1000000):Spec Tryz.prog 38 [mat w M] (mat w M):=
 Spec.ofQ (rcopyI_q 0 hM hK hn hw) λ_ _ _ hq=>matQ_val hM hq
def mC:Bool->Nat->Nat->Nat->List (List Int)->List V
 |true,o,h,w,_=>[.sc (.int .i64 h),.sc (.int .i64 w),.sl o 0 h 1 none]
 |false,_,h,w,M=>[.sc (.int .i64 h),.sc (.int .i64 w),.im (imR w (rI M)) h]
structure Own(hp:List (Nat×Blk))(o:Nat)(ids:List Nat)(h w:Nat)(M:List (List Int)):Prop where
 ho:hget hp o=some ⟨41,slR 2 w ids,false⟩
 len:ids.length=h
 nod:ids.Nodup
 no:o∉ids
 row: ∀k,k<h->hget hp (ids.getD k 0)=some ⟨68,ivR (M.getD k []),false⟩
theorem tab_push{L:Nat->Bool}{sl:List (Nat×V)}{T:List (Nat×Nat×V)}{i t:Nat}{x:V}(hT: ∀p∈T,(p.1=i/\p.2.1=t/\p.2.2=x)\/(p.1≠i/\p.2.1≠t))(h: ∀p∈T,L p.1=true->get sl p.2.1=p.2.2): ∀p∈T,addL L i p.1=true->get ((t,x)::sl) p.2.1=p.2.2:=by
 intro p hp e;rcases hT p hp with⟨h1,h2,h3⟩|⟨h1,h2⟩;·simp only[get];rw[if_pos h2,h3]
 ·rw[addL_ne h1]at e;simp only[get];rw[if_neg h2];exact h p hp e
theorem tab_same{L:Nat->Bool}{sl:List (Nat×V)}{T:List (Nat×Nat×V)}{i:Nat}(hT: ∀p∈T,p.1≠i)(h: ∀p∈T,L p.1=true->get sl p.2.1=p.2.2): ∀p∈T,addL L i p.1=true->get sl p.2.1=p.2.2:=λp hp e=>h p hp (by rw[addL_ne (hT p hp)]at e;exact e)
section
variable (h w pk pw:Nat) (A H U C:List (List Int)) (l:List OpL) (e0 e1 e2 e3:Bool)
def tab5(o b37 b40 b9:Nat):List (Nat×Nat×V):=
 [(0,21,.pt pk 0),(1,22,mat w A),(2,23,.ag (mC e0 o h w A)),(3,24,.pt pk 3),(4,25,.pt pk 3),(5,26,mat w H),(6,27,.ag (mC e1 o h w H)),
  (7,28,.pt pk 3),(8,29,.pt pk 6),(9,30,mat h U),(10,31,.ag (mC e2 o h h U)),(11,32,.pt pk 3),(12,33,.pt pk 9),(13,34,mat h C),(14,35,.ag (mC e3 o h h C)),
  (15,36,.ag (mC e1 o h w H++mC e2 o h h U++mC e3 o h h C)),(16,37,.sl b37 0 0 5 (some 0)),(17,38,.pt pk 12),(18,39,.im (opsC l) l.length),(19,40,.sl b40 0 l.length 5 none),
  (20,41,.ag (mC e0 o h w A++(mC e1 o h w H++mC e2 o h h U++mC e3 o h h C)++ [.sl b40 0 l.length 5 none])),(21,9,.pt b9 0)]
def ownOn(L:Nat->Bool):Bool:=if e0=true then L 2 else if e1=true then L 6 else if e2=true then L 10 else if e3=true then L 14 else false
def ownW:Nat:=if e0=true then w else if e1=true then w else h
def ownM:List (List Int):=if e0=true then A else if e1=true then H else if e2=true then U else C
def kc5:List V:=[.sc (.int .i64 h),.sc (.int .i64 w),.im (imR w (rI A)) h,.sc (.int .i64 h),.sc (.int .i64 w),.im (imR w (rI H)) h,.sc (.int .i64 h),.sc (.int .i64 h),.im (imR h (rI U)) h,.sc (.int .i64 h),.sc (.int .i64 h),.im (imR h (rI C)) h,.im (opsC l) l.length]
def z5:List V:=[.sc (.int .i64 0),.sc (.int .i64 0),.sc (.slice none 0 0),.sc (.int .i64 0),.sc (.int .i64 0),.sc (.slice none 0 0),.sc (.int .i64 0),.sc (.int .i64 0),.sc (.slice none 0 0),.sc (.int .i64 0),.sc (.int .i64 0),.sc (.slice none 0 0),.sc (.slice none 0 0)]
structure H5(kw:Blk)(L:Nat->Bool)(hp:List (Nat×Blk))(nx o:Nat)(ids:List Nat)(b37 b40 b9:Nat):Prop where
 kl: ∀id k,hget hp id=some k->id<nx
 hk:hget hp pk=some ⟨34,kc5 h w A H U C l,false⟩
 hw:hget hp pw=some kw
 own:ownOn e0 e1 e2 e3 L=true->Own hp o ids h (ownW h w e0 e1) (ownM A H U C e0 e1 e2)
 s37:L 16=true->L 19=false->hget hp b37=some ⟨80,[],false⟩
 s40:L 19=true->hget hp b40=some ⟨80,opsC l,false⟩
 s9:L 21=true->b9≠pk/\hget hp b9=some ⟨34,if L 22=true then mC e0 o h w A++(mC e1 o h w H++mC e2 o h h U++mC e3 o h h C)++ [.sl b40 0 l.length 5 none]else z5,false⟩
def J5(kw:Blk)(c:Int)(L:Nat->Bool)(s:SS):Prop:=
 ∃o ids b37 b40 b9,s.nt=168/\get s.sl 8= .pt pk 0/\get s.sl 4= .pt pw 0/\get s.sl 2= .sc (.int .i8 c)/\get s.sl 7= .sc (.bool true)/\
  (∀p∈tab5 h w pk A H U C l e0 e1 e2 e3 o b37 b40 b9,L p.1=true->get s.sl p.2.1=p.2.2)/\H5 h w pk pw A H U C l e0 e1 e2 e3 kw L s.hp s.nx o ids b37 b40 b9
end
end
section
open Go.RowKit
section
variable {h w pk pw:Nat} {A H U C:List (List Int)} {l:List OpL} {e0 e1 e2 e3:Bool} {kw:Blk} {L:Nat->Bool} {hp hp':List (Nat×Blk)} {nx nx' o:Nat} {ids:List Nat} {b37 b40 b9:Nat}
theorem H5.pure{i:Nat}(hi:i∉ [2,6,10,14,16,19,21,22])(hH:H5 h w pk pw A H U C l e0 e1 e2 e3 kw L hp nx o ids b37 b40 b9):H5 h w pk pw A H U C l e0 e1 e2 e3 kw (addL L i) hp nx o ids b37 b40 b9:=by
 have ne: ∀j,j∈ [2,6,10,14,16,19,21,22]->addL L i j=L j:=λj hj=>addL_ne (λe=>hi (e▸hj));refine⟨hH.kl,hH.hk,hH.hw,?_,?_,?_,?_⟩
 ·have e:ownOn e0 e1 e2 e3 (addL L i)=ownOn e0 e1 e2 e3 L:=by unfold ownOn;rw[ne 2 (by decide),ne 6 (by decide),ne 10 (by decide),ne 14 (by decide)]
  rw[e];exact hH.own
 ·rw[ne 16 (by decide),ne 19 (by decide)];exact hH.s37
 ·rw[ne 19 (by decide)];exact hH.s40
 ·rw[ne 21 (by decide),ne 22 (by decide)];exact hH.s9
end
section
variable {h w pk pw:Nat} {A H U C:List (List Int)} {l:List OpL} {e0 e1 e2 e3:Bool} {kw:Blk} {c:Int} {L:Nat->Bool} {sl:List (Nat×V)} {hp:List (Nat×Blk)} {nx i t:Nat} {x:V}
theorem J5.pure(hi:i∉ [2,6,10,14,16,19,21,22])(ht:t∉ [8,4,2,7])(hT: ∀o b37 b40 b9,∀p∈tab5 h w pk A H U C l e0 e1 e2 e3 o b37 b40 b9,(p.1=i/\p.2.1=t/\p.2.2=x)\/(p.1≠i/\p.2.1≠t))(hJ:J5 h w pk pw A H U C l e0 e1 e2 e3 kw c L ⟨sl,hp,nx,168⟩):
  J5 h w pk pw A H U C l e0 e1 e2 e3 kw c (addL L i) ⟨(t,x)::sl,hp,nx,168⟩:=by
 obtain⟨o,ids,b37,b40,b9,h1,h2,h3,h4,h5,h6,h7⟩:=hJ;have ne: ∀u,u∈ [8,4,2,7]->get ((t,x)::sl) u=get sl u:=λu hu=>get_push (λe=>ht (e▸hu));exact⟨o,ids,b37,b40,b9,rfl,(ne 8 (by decide)).trans h2,(ne 4 (by decide)).trans h3,(ne 2 (by decide)).trans h4,(ne 7 (by decide)).trans h5,tab_push (hT o b37 b40 b9) h6,h7.pure hi⟩
end
end
section
open Go.RowKit
section
variable {h w pk pw:Nat} {A H U C:List (List Int)} {l:List OpL} {e0 e1 e2 e3:Bool} {kw:Blk} {L:Nat->Bool} {hp hp':List (Nat×Blk)} {nx nx' o:Nat} {ids:List Nat} {b37 b40 b9:Nat}
theorem Own.grow{w':Nat}{M:List (List Int)}(hO:Own hp o ids h w' M)(hg: ∀id k,hget hp id=some k->k.ty≠80->k.ty≠34->hget hp' id=some k):Own hp' o ids h w' M:=
 ⟨hg _ _ hO.ho (show(41:Nat)≠80 by decide) (show(41:Nat)≠34 by decide),hO.len,hO.nod,hO.no,λk hk=>hg _ _ (hO.row k hk) (show(68:Nat)≠80 by decide) (show(68:Nat)≠34 by decide)⟩
theorem new_get{b:Blk}(kl: ∀id k,hget hp id=some k->id<nx): ∀id k,hget hp id=some k->hget ((nx,b)::hp) id=some k:=λid k hk=>by have:=kl id k hk;simp only[hget];rw[if_neg om];exact hk
theorem new_kl{b:Blk}(kl: ∀id k,hget hp id=some k->id<nx): ∀id k,hget ((nx,b)::hp) id=some k->id<nx+1:=λid k hk=>by
 simp only[hget]at hk;split at hk;·omega
 ·have:=kl id k hk;omega
theorem own_same{i:Nat}(hi:i∈ [16,19,21,22]):ownOn e0 e1 e2 e3 (addL L i)=ownOn e0 e1 e2 e3 L:=by have ne: ∀j,j∈ [2,6,10,14]->addL L i j=L j:=λj hj=>addL_ne (λe=>by subst e;revert hi hj;simp;omega);unfold ownOn;rw[ne 2 (by decide),ne 6 (by decide),ne 10 (by decide),ne 14 (by decide)]
theorem H5.new37(hkw:kw.ty≠80)(hi:L 16=false)(h19:L 19=false)(hH:H5 h w pk pw A H U C l e0 e1 e2 e3 kw L hp nx o ids b37 b40 b9):H5 h w pk pw A H U C l e0 e1 e2 e3 kw (addL L 16) ((nx,⟨80,[],false⟩)::hp) (nx+1) o ids nx b40 b9:=by
 have g:=new_get (b:=⟨80,[],false⟩) hH.kl;refine⟨new_kl hH.kl,g _ _ hH.hk,g _ _ hH.hw,λe=> ?_,λ_ _=> ?_,λe=> ?_,λe=> ?_⟩
 ·rw[own_same (by decide)]at e;exact(hH.own e).grow λid k hk _ _=>g id k hk
 ·simp only[hget];rw[if_pos trivial]
 ·rw[addL_ne (by decide)]at e;exact g _ _ (hH.s40 e)
 ·rw[addL_ne (by decide)]at e;rw[addL_ne (by decide)];exact⟨(hH.s9 e).1,g _ _ (hH.s9 e).2⟩
theorem H5.new9(hi:L 21=false)(h22:L 22=false)(hH:H5 h w pk pw A H U C l e0 e1 e2 e3 kw L hp nx o ids b37 b40 b9):H5 h w pk pw A H U C l e0 e1 e2 e3 kw (addL L 21) ((nx,⟨34,z5,false⟩)::hp) (nx+1) o ids b37 b40 nx:=by
 have g:=new_get (b:=⟨34,z5,false⟩) hH.kl;refine⟨new_kl hH.kl,g _ _ hH.hk,g _ _ hH.hw,λe=> ?_,λe e'=> ?_,λe=> ?_,λe=> ?_⟩
 ·rw[own_same (by decide)]at e;exact(hH.own e).grow λid k hk _ _=>g id k hk
 ·rw[addL_ne (by decide)]at e e';exact g _ _ (hH.s37 e e')
 ·rw[addL_ne (by decide)]at e;exact g _ _ (hH.s40 e)
 ·rw[addL_ne (by decide),h22];have:=hH.kl _ _ hH.hk;refine⟨by omega,?_⟩;simp only[hget];rw[if_pos trivial];rfl
theorem H5.app(hkw:kw.ty≠80)(h16:L 16=true)(h19:L 19=false)(hH:H5 h w pk pw A H U C l e0 e1 e2 e3 kw L hp nx o ids b37 b40 b9)(h22:L 22=false):H5 h w pk pw A H U C l e0 e1 e2 e3 kw (addL L 19) ((nx,⟨80,opsC l,false⟩)::hdel hp b37) (nx+1) o ids b37 nx b9:=by
 have h37:=hH.s37 h16 h19;have kl2: ∀id k,hget (hdel hp b37) id=some k->id<nx:=λid k hk=>by
  rw[hget_hdel]at hk;split at hk;·cases hk
  ·exact hH.kl id k hk
 have gd: ∀id k,hget hp id=some k->k.ty≠80->hget (hdel hp b37) id=some k:=λid k hk ht=>by rw[hget_hdel,if_neg ?_];exact hk;intro e;rw[e,h37]at hk;cases hk;exact ht rfl
 have g:=new_get (b:=⟨80,opsC l,false⟩) kl2;refine⟨new_kl kl2,g _ _ (gd _ _ hH.hk (show(34:Nat)≠80 by decide)),g _ _ (gd _ _ hH.hw hkw),λe=> ?_,λ_ e=> ?_,λ_=> ?_,λe=> ?_⟩
 ·rw[own_same (by decide)]at e;exact(hH.own e).grow λid k hk h1 _=>g id k (gd id k hk h1)
 ·rw[addL_eq]at e;cases e
 ·simp only[hget];rw[if_pos trivial]
 ·rw[addL_ne (by decide)]at e;rw[addL_ne (by decide),h22];have h9:=hH.s9 e;rw[h22]at h9;exact⟨h9.1,g _ _ (gd _ _ h9.2 (show(34:Nat)≠80 by decide))⟩
theorem H5.store(hkw:kw.ty≠34)(h21:L 21=true)(h19:L 19=true)(hH:H5 h w pk pw A H U C l e0 e1 e2 e3 kw L hp nx o ids b37 b40 b9):H5 h w pk pw A H U C l e0 e1 e2 e3 kw (addL L 22) (hset hp b9 ⟨34,mC e0 o h w A++(mC e1 o h w H++mC e2 o h h U++mC e3 o h h C)++ [.sl b40 0 l.length 5 none],false⟩) nx o ids b37 b40 b9:=by
 obtain⟨h9,hg9⟩:=hH.s9 h21;have g: ∀id k,hget hp id=some k->id≠b9->hget (hset hp b9 ⟨34,mC e0 o h w A++(mC e1 o h w H++mC e2 o h h U++mC e3 o h h C)++ [.sl b40 0 l.length 5 none],false⟩) id=some k:=λid k hk hn=>by rw[hget_hset,if_neg hn];exact hk
 have gt: ∀id k,hget hp id=some k->k.ty≠34->id≠b9:=λid k hk ht e=>by rw[e,hg9]at hk;cases hk;exact ht rfl
 refine⟨λid k hk=> ?_,g _ _ hH.hk (λe=>h9 e.symm),g _ _ hH.hw (gt _ _ hH.hw hkw),λe=> ?_,λ_ e=> ?_,λe=> ?_,λ_=>⟨h9,?_⟩⟩
 ·rw[hget_hset]at hk;split at hk
  ·rename_i e;rw[e];exact hH.kl _ _ hg9
  ·exact hH.kl id k hk
 ·rw[own_same (by decide)]at e;exact(hH.own e).grow λid k hk _ h2=>g id k hk (gt id k hk h2)
 ·rw[addL_ne (by decide),h19]at e;cases e
 ·have:=hH.s40 h19;exact g _ _ this (gt _ _ this (show(80:Nat)≠34 by decide))
 ·rw[hget_hset,if_pos rfl,hg9,addL_eq,if_pos rfl];rfl
theorem H5.val{i:Nat}(hi:(i=2/\e0=false)\/(i=6/\e1=false)\/(i=10/\e2=false)\/(i=14/\e3=false))(hH:H5 h w pk pw A H U C l e0 e1 e2 e3 kw L hp nx o ids b37 b40 b9):H5 h w pk pw A H U C l e0 e1 e2 e3 kw (addL L i) hp nx o ids b37 b40 b9:=by
 have ne: ∀j,j∈ [16,19,21,22]->addL L i j=L j:=λj hj=>addL_ne (λe=>by subst e;revert hj;rcases hi with⟨rfl,_⟩|⟨rfl,_⟩|⟨rfl,_⟩|⟨rfl,_⟩<;>decide);have eo:ownOn e0 e1 e2 e3 (addL L i)=ownOn e0 e1 e2 e3 L:=by unfold ownOn;rcases hi with⟨rfl,h⟩|⟨rfl,h⟩|⟨rfl,h⟩|⟨rfl,h⟩<;>subst h<;>simp[addL]
 refine⟨hH.kl,hH.hk,hH.hw,?_,?_,?_,?_⟩;·rw[eo];exact hH.own
 ·rw[ne 16 (by decide),ne 19 (by decide)];exact hH.s37
 ·rw[ne 19 (by decide)];exact hH.s40
 ·rw[ne 21 (by decide),ne 22 (by decide)];exact hH.s9
theorem H5.own2{i:Nat}(hi:i∉ [16,19,21,22])(hH:H5 h w pk pw A H U C l e0 e1 e2 e3 kw L hp nx o ids b37 b40 b9){o':Nat}{ids':List Nat}(hkl: ∀id k,hget (hp++hp') id=some k->id<nx')(hR:RowsOk o' ids' h nx nx')(hM:(ownM A H U C e0 e1 e2).length=h)(hp2:hp'=(o',⟨41,slR 2 (ownW h w e0 e1) ids',false⟩)::rowsH 68 ids' (rI (ownM A H U C e0 e1 e2)))(h22:L 22=false):
  H5 h w pk pw A H U C l e0 e1 e2 e3 kw (addL L i) (hp++hp') nx' o' ids' b37 b40 b9:=by
 have ne: ∀j,j∈ [16,19,21,22]->addL L i j=L j:=λj hj=>addL_ne (λe=>hi (e▸hj));have g: ∀id k,hget hp id=some k->hget (hp++hp') id=some k:=λid k hk=>by rw[hget_app,hk]
 have gn: ∀id,nx<=id->hget hp id=none:=λid h1=>by
  cases e:hget hp id with
  |none=>rfl
  |some k=>have:=hH.kl id k e;omega
 have hoo:=hR.o1;refine⟨hkl,g _ _ hH.hk,g _ _ hH.hw,λ_=>⟨?_,hR.len,hR.nod,hR.o2,λk hk=> ?_⟩,?_,?_,?_⟩;·rw[hget_app,gn o' hoo.1,hp2];simp only[hget];rw[if_pos trivial]
 ·have hm:=getD_mem' (ids:=ids') (k:=k) (by rw[hR.len];exact hk);have h1:=hR.lt _ hm;rw[hget_app,gn _ h1.1,hp2];simp only[hget];rw[if_neg (λe:ids'.getD k 0=o'=>hR.o2 (e▸hm))];have:=rows_get (ty:=68) (rs:=rI (ownM A H U C e0 e1 e2)) (k:=k) hR.nod (by rw[hR.len];exact hk) (by rw[rI_len,hM,hR.len]);rwa[rI_getD]at this
 ·rw[ne 16 (by decide),ne 19 (by decide)];exact λe e'=>g _ _ (hH.s37 e e')
 ·rw[ne 19 (by decide)];exact λe=>g _ _ (hH.s40 e)
 ·rw[ne 21 (by decide),ne 22 (by decide),h22];intro e;have:=hH.s9 e;rw[h22]at this;exact⟨this.1,g _ _ this.2⟩
end
end
section
open Go.RowKit
section
variable {h w K:Nat} {A:List (List Int)} {l:List OpL} {o:OpL}
theorem takeO_snoc{i:Nat}(hi:i<=l.length):(l++ [o]).take i=l.take i:=List.take_append_of_le_length hi
theorem actsO_snoc2(M:List (List Int)):actsO M (l++ [o])=actO (actsO M l) o:=by rw[actsO_app];rfl
theorem both4(hk:Kp h w KR A l)(hh:h+w<=12)(ho:Fits OL o.k): ∃b:Bool,
  Spec Tryz.prog 16 [keptL h w A (actsO A l) (actsO (idL h) l) (actsO (idL h) (invL l)) (.im (opsC (l++ [o])) (l.length+1))] (.sc (.bool b))/\
  Spec Tryz.prog 30 [keptL h w A (actsO A l) (actsO (idL h) l) (actsO (idL h) (invL l)) (.im (opsC (l++ [o])) (l.length+1))] (.sc (.bool b)):=by
 have hkr:=kr_le;have hOL:=OL_le;by_cases hok:OkOp h o
 ·have hll:=hk.few;have hall: ∀p∈l++ [o],OkOp h p:=λp hp=>by
   rcases List.mem_append.1 hp with q|q;·exact hk.red.ok p q
   ·rw[List.mem_singleton.1 q];exact hok
  have hln:=snoc_len l o;have hsu: ∀i,MI h h (KR+OL+1) (actsO (idL h) ((l++ [o]).take i)):=λi=>by
   by_cases hi:i<=l.length;·rw[takeO_snoc hi];exact(hk.red.su i).mono om
   ·rw[zla om,actsO_snoc2];exact hk.mU.act hok
  have hS: ∀i,WI h h (KR+OL+1) (actsW h (idL h++idL h++idL h) ((l++ [o]).take i)):=λi=>by
   have hlast:=hk.hS l.length;rw[List.take_length]at hlast;by_cases hi:i<=l.length
   ·rw[takeO_snoc hi];exact⟨(hk.hS i).len,(hk.hS i).rowM,(hk.hS i).rowU,λq t=>((hk.hS i).fit q t).mono om⟩
   ·rw[zla om,actsW_snoc];exact actW_wi hlast hok
  have hE:MI h h (KR+OL+1) (actsO (idL h) (l++ [o])):=by rw[actsO_snoc2];exact hk.mU.act hok
  have m1:=hk.mA.mono (show KR<=KR+OL+1 by omega);have m2:=hk.mH.mono (show KR<=KR+OL+1 by omega);have m3:=hk.mU.mono (show KR<=KR+OL+1 by omega);have m4:=hk.mC.mono (show KR<=KR+OL+1 by omega);have m5:=hk.mI.mono (show KR<=KR+OL+1 by omega);have c1:=pcheck_s (l:=l++ [o]) m5 m1 m2 m3 m4 om om om hall om (λi _=>hsu i) hE;have c2:=rcheck_s (l:=l++ [o]) m5 m1 m2 m3 m4 om om om hall om (λi _=>hS i) hE;unfold kept at c1 c2;rw[hln]at c1 c2;exact⟨_,c1,c2⟩
 ·have hb:=bad_of hok ho;exact⟨false,pcheckN_s hk.mA hk.mH hk.mU hk.mC om om om hk.red.ok hb ho hk.red.len,rcheckN_s hk.mA hk.mH hk.mU hk.mC om om om hk.red.ok hb ho hk.red.len⟩
theorem both5(hk:Kp h w KR A l)(hh:h+w<=12){j:Nat}(hj:j<=l.length): ∃b:Bool,
  Spec Tryz.prog 16 [keptL h w A (actsO A l) (actsO (idL h) l) (actsO (idL h) (invL l)) (.im (opsC (l.take j)) j)] (.sc (.bool b))/\
  Spec Tryz.prog 30 [keptL h w A (actsO A l) (actsO (idL h) l) (actsO (idL h) (invL l)) (.im (opsC (l.take j)) j)] (.sc (.bool b)):=by
 have hkr:=kr_le;have hln:(l.take j).length=j:=by rw[List.length_take];omega
 have hll:=hk.red.len;have hall: ∀p∈l.take j,OkOp h p:=λp hp=>hk.red.ok p (List.mem_of_mem_take hp);have c1:=pcheck_s (l:=l.take j) hk.mI hk.mA hk.mH hk.mU hk.mC om om om hall om (λi _=>by rw[List.take_take];exact hk.red.su _) (hk.red.su j);have c2:=rcheck_s (l:=l.take j) hk.mI hk.mA hk.mH hk.mU hk.mC om om om hall om (λi _=>by rw[List.take_take];exact hk.hS _) (hk.red.su j);unfold kept at c1 c2;rw[hln]at c1 c2;exact⟨_,c1,c2⟩
theorem both0{A1 H1 U1 C1:List (List Int)}(hk:Kp h w KR A l)(hh:h+w<=12)(hA:MI h w (KR+2) A1)(hH:MI h w (KR+2) H1)(hU:MI h h (KR+2) U1)(hC:MI h h (KR+2) C1): ∃b:Bool,
  Spec Tryz.prog 16 [kept h w A1 H1 U1 C1 l] (.sc (.bool b))/\Spec Tryz.prog 30 [kept h w A1 H1 U1 C1 l] (.sc (.bool b)):=by
 have hkr:=kr_le;have m5:=hk.mI.mono (show KR<=KR+2 by omega);have mE:=hk.mU.mono (show KR<=KR+2 by omega);exact⟨_,pcheck_s m5 hA hH hU hC om om om hk.red.ok hk.red.len (λi _=>(hk.red.su i).mono om) mE,rcheck_s m5 hA hH hU hC om om om hk.red.ok hk.red.len (λi _=>⟨(hk.hS i).len,(hk.hS i).rowM,(hk.hS i).rowU,λq t=>((hk.hS i).fit q t).mono om⟩) mE⟩
end
end
section
open Go.RowKit
theorem mapHp_rows{f:Nat->Nat}{D:Nat->Prop}{hp:List (Nat×Blk)}{ty:TypeId}: ∀{ids:List Nat} {rs:List (List V)},ids.length=rs.length->(∀k,k<ids.length->BMap f D (hget hp (f (ids.getD k 0))) ⟨ty,rs.getD k [],false⟩)->mapHp f D hp (rowsH ty ids rs)
 |[],[],_,_=>mapHp_nil
 |i::ids,r::rs,hl,h=>⟨h 0 (Nat.succ_pos _),mapHp_rows (Nat.succ.inj hl) λk hk=>h (k+1) (Nat.succ_lt_succ hk)⟩
 |[],_::_,hl,_=>by cases hl
 |_::_,[],hl,_=>by cases hl
def mvF(o b9 b40:Nat)(ids:List Nat)(i:Nat):Nat:=if i=3 then b9 else if i=4 then b40 else if i=5 then o else if 6<=i then ids.getD (i-6) 0 else i
theorem range_get{h k:Nat}(hk:k<h):(List.range' 6 h).getD k 0=6+k:=by rw[List.getD_eq_getElem?_getD,List.getElem?_range' (by simpa using hk)];simp
theorem mv_row{o b9 b40 h k:Nat}{ids:List Nat}(hk:k<h):mvF o b9 b40 ids ((List.range' 6 h).getD k 0)=ids.getD k 0:=by rw[range_get hk];unfold mvF;rw[if_neg om,if_neg om,if_neg om,if_pos om,znd]
theorem getD_inj{ids:List Nat}(hn:ids.Nodup){i j:Nat}(hi:i<ids.length)(hj:j<ids.length)(e:ids.getD i 0=ids.getD j 0):i=j:=by rw[List.getD_eq_getElem?_getD,List.getD_eq_getElem?_getD,zlb hi,zlb hj]at e;exact(List.getElem_inj hn).1 e
theorem own_le{B:Base}(hB:B.Old 0){h w nx nt o b40 b9:Nat}{ids:List Nat}{M:List (List Int)}{hp:List (Nat×Blk)}{sl:List (Nat×V)}{c1 c2 c3 c4:List V}{k1:Blk}{x2 x7:Value}
  (hO:Own hp o ids h w M) (hM:M.length=h) (hk1:k1.cs.all clo=true) (hc2:c2.all clo=true) (hc4:c4.all clo=true)
  (g1:hget hp 1=some k1) (g2:hget hp 2=some ⟨34,c2,false⟩) (g3:hget hp b9=some ⟨34,c1,false⟩) (g4:hget hp b40=some ⟨80,c4,false⟩) (hb:b9≠2)
  (t1:k1.ty≠34) (t2:k1.ty≠80) (t3:k1.ty≠41) (t4:k1.ty≠68)
  (hc:mapL (mvF o b9 b40 ids) (λi=>1<=i/\i<6+h) c1 c3)
  (s8:get sl 8= .pt 2 0) (s9:get sl 9= .pt b9 0) (s4:get sl 4= .pt 1 0) (s2:get sl 2= .sc x2) (s7:get sl 7= .sc x7):
  Le B ⟨sl,hp,nx,nt⟩ ⟨[(8,.pt 2 0),(9,.pt 3 0),(4,.pt 1 0),(2,.sc x2),(7,.sc x7)],(3,⟨34,c3,false⟩)::(2,⟨34,c2,false⟩)::(1,k1)::(4,⟨80,c4,false⟩)::(5,⟨41,slR 2 w (List.range' 6 h),false⟩)::rowsH 68 (List.range' 6 h) (rI M),6+h,nt⟩:=by
 have hl:=hO.len;have hrow: ∀k,k<h->hget hp (ids.getD k 0)=some ⟨68,ivR (M.getD k []),false⟩:=hO.row;have hmem: ∀k,k<h->ids.getD k 0∈ids:=λk hk=>getD_mem' om;have ho:=hO.ho;have e: ∀{a b:Nat} {x y:Blk},hget hp a=some x->hget hp b=some y->x.ty≠y.ty->a≠b:=λ{a b x y} h1 h2 h3 e=>by subst e;rw[h1]at h2;cases h2;exact h3 rfl
 have n1:=e g3 g1 (λq=>t1 q.symm);have n2:=e g4 g1 (λq=>t2 q.symm);have n3:=e ho g1 (λq=>t3 q.symm);have n4:=λk hk=>e (hrow k hk) g1 (λq=>t4 q.symm);have n5:=e g3 g4 (by simp);have n6:=e g3 ho (by simp);have n7:=λk hk=>e g3 (hrow k hk) (by simp);have n8:=e g4 ho (by simp);have n9:=λk hk=>e g4 (hrow k hk) (by simp);have n10:=λk hk=>e ho (hrow k hk) (by simp);have n11:=e g4 g2 (by simp);have n12:=e ho g2 (by simp);have n13:=λk hk=>e (hrow k hk) g2 (by simp);have hs: ∀i,1<=i/\i<6+h->(i=1/\mvF o b9 b40 ids i=1)\/(i=2/\mvF o b9 b40 ids i=2)\/(i=3/\mvF o b9 b40 ids i=b9)\/(i=4/\mvF o b9 b40 ids i=b40)\/(i=5/\mvF o b9 b40 ids i=o)\/ ∃k,k<h/\i=6+k/\mvF o b9 b40 ids i=ids.getD k 0:=λi hi=>by
  by_cases h6:6<=i
  ·refine .inr (.inr (.inr (.inr (.inr ⟨i-6,by omega,by omega,?_⟩))));unfold mvF;rw[if_neg om,if_neg om,if_neg om,if_pos h6]
  ·have:i=1\/i=2\/i=3\/i=4\/i=5:=by omega
   rcases this with rfl|rfl|rfl|rfl|rfl;·exact .inl ⟨rfl,rfl⟩
   ·exact .inr (.inl ⟨rfl,rfl⟩)
   ·exact .inr (.inr (.inl ⟨rfl,rfl⟩))
   ·exact .inr (.inr (.inr (.inl ⟨rfl,rfl⟩)))
   ·exact .inr (.inr (.inr (.inr (.inl ⟨rfl,rfl⟩))))
 refine Le.map (mvF o b9 b40 ids) (λi=>1<=i/\i<6+h) hB (λi hi=>by omega) (λi hi=>hi.2) (λi j hi hj q=> ?_) ?_ (λi k hk hd=>mapHp_get (mapHp_cons (k:=⟨34,_,false⟩) g3 (BMap.list hc) (mapHp_cons (k:=⟨34,_,false⟩) g2 (BMap.clo hc2) (mapHp_cons (k:=k1) g1 (BMap.clo hk1) (mapHp_cons (k:=⟨80,_,false⟩) g4 (BMap.clo hc4) (mapHp_cons (k:=⟨41,_,false⟩) ho ?_ (mapHp_rows ?_ λk hk=> ?_)))))) i k hk);·rcases hs i hi with⟨a,b⟩|⟨a,b⟩|⟨a,b⟩|⟨a,b⟩|⟨a,b⟩|⟨k,a0,a,b⟩<;>rcases hs j hj with⟨a',b'⟩|⟨a',b'⟩|⟨a',b'⟩|⟨a',b'⟩|⟨a',b'⟩|⟨k',a0',a',b'⟩<;>rw[b,b']at q<;>first|(exact a.trans a'.symm)|(exfalso;first|omega|exact n1 q|exact n2 q|exact n3 q|exact n4 _ ‹_› q|exact n5 q|exact n6 q|exact n7 _ ‹_› q|exact n8 q|exact n9 _ ‹_› q|exact n10 _ ‹_› q|exact n11 q|exact n12 q|exact n13 _ ‹_› q|exact hb q|exact n1 q.symm|exact n2 q.symm|exact n3 q.symm|exact n4 _ ‹_› q.symm|exact n5 q.symm|exact n6 q.symm|exact n7 _ ‹_› q.symm|exact n8 q.symm|exact n9 _ ‹_› q.symm|exact n10 _ ‹_› q.symm|exact n11 q.symm|exact n12 q.symm|exact n13 _ ‹_› q.symm|exact hb q.symm)|(have:=getD_inj hO.nod om om q;omega)
 ·exact mapSl_cons s8 (VMap.pt rfl om) (mapSl_cons s9 (VMap.pt rfl om) (mapSl_cons s4 (VMap.pt rfl om) (mapSl_cons s2 (VMap.sc _) (mapSl_cons s7 (VMap.sc _) trivial))))
 ·refine⟨_,rfl,rfl,rfl,λi y hy=> ?_⟩;have hi:i<h:=by
   have q:=List.getElem?_eq_some_iff.1 hy;obtain⟨q,_⟩:=q;rw[slR_len,List.length_range']at q;exact q
  rw[slR_get (by rw[List.length_range'];exact hi)]at hy;cases hy;refine⟨_,slR_get om,?_⟩;exact VMap.sl (mv_row hi) (by rw[range_get hi];omega)
 ·rw[List.length_range',rI_len,hM]
 ·rw[List.length_range']at hk;rw[mv_row hk,hrow k hk,rI_getD];exact BMap.clo (ivR_clo _)
end
end Go.Proofs.YtannldafjkjjbaaGreat
