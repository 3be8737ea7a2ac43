/- Texts joined: Xd Iw Ix Iz Iy Xc Io Ip Iq Xe Xf Xj Xk Xl Xm Xn Xo Xp Hl. -/
import Derived.Test.YtannldafjkjjbaaGreatVd
import Derived.Test.YtannldafjkjjbaaGreatVe
import Derived.Test.YtannldafjkjjbaaGreatVg
import Derived.Test.YtannldafjkjjbaaGreatVh
import Derived.Test.YtannldafjkjjbaaGreatVi
import Derived.Test.YtannldafjkjjbaaGreatVk
import Derived.Test.YtannldafjkjjbaaGreatVl
import Derived.Test.YtannldafjkjjbaaGreatVm
set_option linter.all false
set_option maxHeartbeats 16000000
open Nat renaming reduceEqDiff → zn1, reduceLT → zn2, reduceLeDiff → zn3, reduceAdd → zn4, reduceMul → zn5, reduceSub → zn6, reduceBEq → zn7, mul_one → zn8, zero_add → zn9, one_mul → zna, le_refl → znb, zero_le → znc, add_sub_cancel_left → znd, sub_eq_zero_of_le → zne, add_assoc → znf
open Int renaming reduceToNat → zi1, reducePow → zi2
open List renaming length_append → zl1, drop_zero → zl2, take_succ_cons → zl3, take_zero → zl4, getElem?_drop → zl5, append_assoc → zl6, nil_append → zl7, cons_append → zl8, drop_succ_cons → zl9, take_of_length_le → zla, getElem?_eq_getElem → zlb, getElem?_eq_some_iff → zlc, map_cons → zld, map_nil → zle, all_eq_true → zlf
namespace Go.Proofs.YtannldafjkjjbaaGreat
section
open Go.RowKit
theorem idleMul:Idle Tryz.prog 118:=Idle.of Tab.go118 Tryz.func118 rfl rfl rfl rfl Tryz.ntmps118 Tryz.results118
set_option maxRecDepth 8000 in
theorem pmulM_s{h n w K:Nat}{A C:List (List Int)}(hA:MI h n K A)(hC:MI n w K C)(hK:K<=40000000000)(hn:h<=1000000)(hnn:n<=1000000)(hw:w<=1000000):
  Spec Tryz.prog 88 [mat n A,mat w C] (.tu [mat w (mulM h n w A C),.sc (.int .i64 0)]):=by
 have hAl:=hA.len
 have hCl:=hC.len
 have hml:(mulM h n w A C).length=h:=mkM_len
 have gA:=imI_len n A
 have gR:=imI_len w (mulM h n w A C)
 have c1:=pvalid2_s hA hC om hn hnn hnn hw
 have gCl:=imR_clo w (rI (mulM h n w A C))
 have c2:=fun i (hi:i<h)=>times_s (v:=A.getD i []) (hA.get hi).1 (hA.get hi).2 hC hK hnn hw
 have gi:=fun i (hi:i<h)=>imI_get (w:=w) (M:=mulM h n w A C) (i:=i) om
 have er: ∀i,i<h->(mulM h n w A C).getD i []=mkR w fun c=>dotI (fun t=>(A.getD i []).getD t 0) (fun t=>ent2 C t c) n:=fun i hi=>by unfold mulM;rw[mkM_get hi];rfl
 unfold mat at c2⊢
 rw[hml]at gR⊢
 rw[hAl]at gA⊢
 rw[hCl]at c2⊢
 refine Spec.runD Tryz.func88 rfl rfl rfl rfl idleMul Tryz.ntmps88 (by simp) qT qT fun B hB=> ?_
 refine qW ?_
 generalize hP:mulM h n w A C=P at*
 generalize hX:imR w (rI P)=X at*
 refine SC.loop (fun x:Nat×List V=>⟨[(2,.pt 0 0),(3,.pt 1 0),(4,.pt 2 0),(5,.sc (.int .i64 0)),(6,.pt 5 0),(31,.im (imR n (rI A)) h),(32,.sc (.int .i64 h)),(33,.sc (.int .i64 x.1))],[(5,⟨28,[.sc (.int .i64 h),.sc (.int .i64 w),.sl 4 0 h 1 (some h)],false⟩),(4,⟨41,x.2,false⟩),(2,⟨28,[.sc (.int .i64 0),.sc (.int .i64 0),.sc (.slice none 0 0)],false⟩),(1,⟨28,[.sc (.int .i64 n),.sc (.int .i64 w),.im (imR w (rI C)) n],false⟩),(0,⟨28,[.sc (.int .i64 h),.sc (.int .i64 n),.im (imR n (rI A)) h],false⟩)],6,47⟩)
  (fun x=>x.1<=h/\x.2=X.take x.1++List.replicate (h-x.1) (V.sc (.slice none 0 0))) (fun x=>h-x.1) (0,List.replicate h (V.sc (.slice none 0 0))) ?_ ⟨znc _,rfl⟩ ?_
 ·refine qLn0r ?_
  exact LLe.refl (List.all_eq_true.2 fun x hx=>by rw[List.eq_of_mem_replicate hx];rfl)
 rintro⟨i,D⟩ ⟨hi,hD⟩ K1 hK1
 simp only at hi hD⊢
 have gT:(X.take i).length=i:=by rw[List.length_take];omega
 have gL:D.length=h:=by rw[hD,zl1,gT,List.length_replicate];omega
 by_cases hc:i<h
 ·have q1:=decide_eq_true (p:=(i:Int)<(h:Int)) om
  have g1:=imI_get (w:=n) (M:=A) (i:=i) om
  have c3:=c2 i hc
  rw[<-er i hc]at c3
  have gX:=gi i hc
  have eS:D.set i (V.im (ivR (P.getD i [])) w)=X.take (i+1)++List.replicate (h-(i+1)) (V.sc (.slice none 0 0)):=by
   rw[hD,List.set_append_right _ _ om,gT,Nat.sub_self,show h-i=(h-(i+1))+1 by omega,List.replicate_succ,List.set_cons_zero,List.take_add_one,gX];simp
  have hiD:i<D.length:=by omega
  have hcl: ∀ok:Nat->Bool,(D.set i (V.im (ivR (P.getD i [])) w)).all (Go.Proofs.YtannldafjkjjbaaGreat.okL ok)=true:=fun ok=>by
   rw[eS,List.all_append,Bool.and_eq_true]
   exact⟨List.all_eq_true.2 fun x hx=>okL_clo (List.all_eq_true.1 gCl x (List.mem_of_mem_take hx)),List.all_eq_true.2 fun x hx=>by rw[List.eq_of_mem_replicate hx];rfl⟩
  clear c1 c2
  generalize ivR (P.getD i [])=row at*
  generalize ivR (A.getD i [])=ra at*
  refine qWf (Q6 @q1 @g1 @gA @gL @hiD @gD) ?_
  refine hK1 _ (i+1,_) ?_ ⟨by simp only;omega,eS⟩ (by simp only;omega)
  refine qLn0r ?_
  exact LLe.refl (hcl _)
 ·have q1:=decide_eq_false (p:=(i:Int)<(h:Int)) om
  have hin:i=h:=by omega
  subst hin
  have hD:D=X:=by rw[hD,Nat.sub_self,List.replicate_zero,List.append_nil,zla om]
  subst hD
  have ht:D.take i=D:=zla om
  refine qWf @q1 ?_
  exact retQ_ret Tryz.results88 qS (qSf (Q3 @gCl @gL @ht)) rfl
end
section
open Go.RowKit
theorem sizes1_s{h w:Nat}{X:List V}:Spec Tryz.prog 92 [.im [.sc (.int .i64 h),.sc (.int .i64 w),.im X h] 1] (.im [.sc (.int .i64 h),.sc (.int .i64 w)] 1):=by
 refine qF Tryz.func92 Tryz.ntmps92 fun B hB=> ?_
 (repeat(first|refine DO.nil (by kernel_rfl) ?_|(with_reducible refine qO ?_)|((first|apply SO.call|apply DO.call);(iterate 3 exact qS);(first|apply SCall.ofX|apply DCall.ofX);assumption;exact qS)|((with_reducible first|apply wa|apply wb|apply wc|apply wd);exact qS;(first|refine pT ?_|refine pF ?_|fail_if_success with_reducible refine pA ?_))|((with_reducible refine SC.draw Tab.mixed ?_ ?_);(focus(first|rfl|simp(disch:=omega) only[go_sem,↓reduceIte,zn1,zn2,zn3,zn4,zn5,zn6,reduceCtorEq,zn7,zi1,zi2,if_pos,if_neg,Int.reduceAdd])))|(with_reducible apply SC.ops)|(with_reducible apply SR.next)|refine SC.loopN 3 ?_))
 exact qE Tryz.results92
theorem eqSizes_s{h w:Nat}:Spec Tryz.prog 91 [.im [.sc (.int .i64 h),.sc (.int .i64 w)] 1,.im [.sc (.int .i64 h),.sc (.int .i64 w)] 1] (.sc (.bool true)):=by
 refine qF Tryz.func91 Tryz.ntmps91 fun B hB=> ?_
 (repeat(first|refine DO.nil (by kernel_rfl) ?_|(with_reducible refine qO ?_)|((first|apply SO.call|apply DO.call);(iterate 3 exact qS);(first|apply SCall.ofX|apply DCall.ofX);assumption;exact qS)|((with_reducible first|apply wa|apply wb|apply wc|apply wd);exact qS;(first|refine pT ?_|refine pF ?_|fail_if_success with_reducible refine pA ?_))|((with_reducible refine SC.draw Tab.mixed ?_ ?_);(focus(first|rfl|simp(disch:=omega) only[go_sem,↓reduceIte,zn1,zn2,zn3,zn4,zn5,zn6,reduceCtorEq,zn7,zi1,zi2,if_pos,if_neg,Int.reduceAdd])))|(with_reducible apply SC.ops)|(with_reducible apply SR.next)|refine SC.loopN 3 ?_))
 exact qE Tryz.results91
end
section
open Go.RowKit
theorem eqc_s{x y:Int}{K:Nat}(hx:Fits K x)(hy:Fits K y)(hK:K<=100000000000):Spec Tryz.prog 93 [iv x,iv y] (.sc (.bool (decide (x=y)))):=by
 have c1:=pcmp_i x y K hx hy om
 have e:((x-y).sign==0)=decide (x=y):=by
  by_cases h:x=y
  ·rw[h,Int.sub_self,decide_eq_true rfl];rfl
  ·rw[decide_eq_false h,beq_eq_false_iff_ne];intro e;have:=Int.sign_eq_zero_iff_zero.1 e;omega
 rw[<-e]
 unfold iv sv at*
 refine qF Tryz.func93 Tryz.ntmps93 fun B hB=> ?_
 refine qW ?_
 exact qE Tryz.results93
end
section
open Go.RowKit
def bC(l:List Bool):List V:=l.map fun b=> .sc (.bool b)
def idF:List Bool->Nat->Int
 |[],_=> -1
 |b::l,n=>if b then idF l (n+1)else n
theorem idF_all: ∀(l:List Bool) (n:Nat),decide (idF l n>=0)= !l.all id
 |[],_=>rfl
 |true::l,n=>by
  show decide (idF l (n+1)>=0)=_
  rw[idF_all l (n+1)];rfl
 |false::l,n=>by
  show decide ((n:Int)>=0)=_
  rw[decide_eq_true om];rfl
theorem bC_get{l:List Bool}{i:Nat}(h:i<l.length):(bC l)[i]? =some (.sc (.bool (l.getD i true))):=by
 unfold bC
 rw[List.getElem?_map,zlb h,List.getD_eq_getElem?_getD,zlb h];rfl
theorem bC_len(l:List Bool):(bC l).length=l.length:=by unfold bC;rw[List.length_map]
theorem bC_clo(l:List Bool):(bC l).all clo=true:=List.all_eq_true.2 fun x hx=>by
 unfold bC at hx
 obtain⟨b,_,rfl⟩:=List.mem_map.1 hx
 rfl
theorem bindex_s{l:List Bool}(hl:l.length<=1000000):Spec Tryz.prog 124 [.im (bC l) l.length,.sc (.bool false)] (.sc (.int .i64 (idF l 0))):=by
 have gl:=bC_len l
 obtain⟨G,hG⟩: ∃G,idF l 0=G:=⟨_,rfl⟩
 rw[hG]
 refine qF Tryz.func124 Tryz.ntmps124 fun B hB=> ?_
 refine qW ?_
 refine SC.loop (fun i:Nat=>⟨[(0,.im (bC l) l.length),(1,.sc (.bool false)),(7,.sc (.int .i64 l.length)),(8,.sc (.int .i64 i))],[],0,19⟩) (fun i=>i<=l.length/\idF (l.drop i) i=G) (fun i=>l.length-i) 0 ?_ ⟨znc _,hG⟩ ?_
 ·exact qL
 ·rintro i ⟨hi,hg⟩ K hK
  by_cases hc:i<l.length
  ·have q1:=decide_eq_true (p:=(i:Int)<(l.length:Int)) om
   have gi:=bC_get hc
   have e:l.drop i=l.getD i true::l.drop (i+1):=by rw[List.drop_eq_getElem_cons hc,List.getD_eq_getElem?_getD,zlb hc];rfl
   rw[e,idF]at hg
   cases hb:l.getD i true
   ·rw[hb,if_neg (by simp)]at hg
    subst hg
    rw[hb]at gi
    refine qWf (Q4 @q1 @gi @gl @gD) ?_
    exact qE Tryz.results124
   ·rw[hb,if_pos rfl]at hg
    rw[hb]at gi
    refine qWf (Q4 @q1 @gi @gl @gD) ?_
    refine hK _ (i+1) ?_ ⟨by omega,hg⟩ om
    exact qL
  ·have q1:=decide_eq_false (p:=(i:Int)<(l.length:Int)) om
   rw[List.drop_of_length_le om]at hg
   have hg: -1=G:=hg
   subst hg
   refine qWf @q1 ?_
   exact qE Tryz.results124
theorem bcont_s{l:List Bool}(hl:l.length<=1000000):Spec Tryz.prog 95 [.im (bC l) l.length,.sc (.bool false)] (.sc (.bool (!l.all id))):=by
 have c1:=bindex_s hl
 rw[<-idF_all l 0]
 refine qF Tryz.func95 Tryz.ntmps95 fun B hB=> ?_
 refine qW ?_
 exact qE Tryz.results95
end
section
open Go.RowKit
def eqB(a b:List Int)(n:Nat):List Bool:=(List.range n).map fun i=>decide (a.getD i 0=b.getD i 0)
theorem eqB_len(a b:List Int)(n:Nat):(eqB a b n).length=n:=by unfold eqB;simp
theorem eqB_all{a b:List Int}{w:Nat}(ha:a.length=w)(hb:b.length=w):(eqB a b w).all id=decide (a=b):=by
 by_cases h:a=b
 ·rw[decide_eq_true h,zlf]
  intro x hx
  unfold eqB at hx
  obtain⟨i,_,rfl⟩:=List.mem_map.1 hx
  rw[h];simp
 ·rw[decide_eq_false h,Bool.eq_false_iff]
  intro e
  refine h (List.ext_getElem om fun i h1 h2=> ?_)
  have:=List.all_eq_true.1 e (decide (a.getD i 0=b.getD i 0)) (List.mem_map.2 ⟨i,List.mem_range.2 om,rfl⟩)
  have:=of_decide_eq_true this
  rw[List.getD_eq_getElem?_getD,zlb h1,List.getD_eq_getElem?_getD,zlb h2]at this
  exact this
theorem combine_s{w K:Nat}{a b:List Int}(ha:a.length=w)(hb:b.length=w)(hfa: ∀x∈a,Fits K x)(hfb: ∀x∈b,Fits K x)(hK:K<=100000000000)(hw:w<=1000000):
  Spec Tryz.prog 96 [.im (ivR a) w,.im (ivR b) w,.sc (.func (.func 93) #[] #[])] (.im (bC (eqB a b w)) w):=by
 have gla:=ivR_len a
 have glb:=ivR_len b
 refine qF Tryz.func96 Tryz.ntmps96 fun B hB=> ?_
 refine qW ?_
 refine SC.loop (fun x:Nat×List V=>⟨[(7,.sl 0 0 w 1 (some w)),(13,.sc (.int .i64 w)),(14,.sc (.int .i64 x.1)),(0,.im (ivR a) w),(1,.im (ivR b) w),(2,.sc (.func (.func 93) #[] #[]))],[(0,⟨4,x.2,false⟩)],1,32⟩) (fun x=>x.1<=w/\x.2=bC (eqB a b x.1)++List.replicate (w-x.1) (V.sc (Value.bool false))) (fun x=>w-x.1) (0,List.replicate w (V.sc (Value.bool false))) ?_ ⟨znc _,rfl⟩ ?_
 ·refine qLn0r ?_
  exact LLe.cl rfl (List.all_eq_true.2 fun x hx=>by rw[List.eq_of_mem_replicate hx];rfl)
 ·rintro⟨i,C⟩ ⟨hi,hC⟩ K1 hK1
  simp only at hi hC⊢
  by_cases hc:i<w
  ·have q1:=decide_eq_true (p:=(i:Int)<(w:Int)) om
   have c1:=eqc_s (hfa _ (getD_mem (d:=0) (l:=a) (i:=i) om)) (hfb _ (getD_mem (d:=0) (l:=b) (i:=i) om)) hK
   have gda:=ivR_drop (l:=a) (i:=i) om
   have gdb:=ivR_drop (l:=b) (i:=i) om
   have g2:i*2<(ivR a).length:=by omega
   have g3:i*2<(ivR b).length:=by omega
   have gL:C.length=w:=by rw[hC,zl1,bC_len,eqB_len,List.length_replicate];omega
   have gS:C.set i (.sc (.bool (decide (a.getD i 0=b.getD i 0))))=bC (eqB a b (i+1))++List.replicate (w-(i+1)) (V.sc (Value.bool false)):=by
    have e:(bC (eqB a b i)).length=i:=by rw[bC_len,eqB_len]
    rw[hC,List.set_append_right _ _ om,e,Nat.sub_self,show w-i=(w-(i+1))+1 by omega,List.replicate_succ,List.set_cons_zero]
    unfold eqB bC;rw[List.range_succ,List.map_append,List.map_append,zl6];rfl
   have hiC:i<C.length:=by omega
   generalize(ivR a).drop ((i+1)*2)=D1 at*
   generalize(ivR b).drop ((i+1)*2)=D2 at*
   generalize hA1:ivR a=A1 at*
   generalize hA2:ivR b=A2 at*
   generalize a.getD i 0=x at*
   generalize b.getD i 0=y at*
   unfold iv sv at c1
   unfold ivC sv at gda gdb
   simp only[zl8,zl7]at gda gdb
   refine qWf (Q8 @q1 @gda @gdb @g2 @g3 @gla @glb @gL) ?_
   repeat(refine DO.run (qSf (Q7 @gda @gdb @g2 @g3 @gla @glb @gL)) ?_)
   refine DO.callV qS Tab.go93 qS (by simp(disch:=omega) only[go_sem,↓reduceIte,zn1,zn2,zn3,zn4,zn5,zn6,reduceCtorEq,zn7,zi1,zi2,if_pos,if_neg,Int.reduceAdd]) (DCall.of c1 qS ?_)
   repeat(refine DO.run (qSf (Q8 @gda @gdb @g2 @g3 @gla @glb @gL @hiC)) ?_)
   refine DO.nil (by kernel_rfl) ?_
   refine qW ?_
   refine hK1 _ (i+1,_) ?_ ⟨by simp only;omega,gS⟩ (by simp only;omega)
   refine qLn0r ?_
   refine LLe.cl rfl ?_
   rw[gS,List.all_append,bC_clo,Bool.true_and]
   exact List.all_eq_true.2 fun x hx=>by rw[List.eq_of_mem_replicate hx];rfl
  ·have q1:=decide_eq_false (p:=(i:Int)<(w:Int)) om
   have hin:i=w:=by omega
   subst hin
   rw[Nat.sub_self,List.replicate_zero,List.append_nil]at hC
   subst hC
   have hcl:=bC_clo (eqB a b i)
   have hle:(bC (eqB a b i)).length=i:=by rw[bC_len,eqB_len]
   have ht:(bC (eqB a b i)).take i=bC (eqB a b i):=zla om
   refine qWf @q1 ?_
   exact retQ_ret Tryz.results96 qS (qSf (Q3 @hcl @hle @ht)) rfl
end
section
open Go.RowKit
set_option maxRecDepth 8000 in
theorem pequal_s{h w K:Nat}{M N:List (List Int)}(hM:MI h w K M)(hN:MI h w K N)(hK:K<=100000000000)(hn:h<=1000000)(hw:w<=1000000):Spec Tryz.prog 55 [mat w M,mat w N] (.sc (.bool (decide (M=N)))):=by
 have hl:=hM.len
 have hl2:=hN.len
 have gl:=imI_len w M
 have gl2:=imI_len w N
 have c1:=pvalid2_s hM hN hK hn hw hn hw
 have c2:=sizes1_s (h:=h) (w:=w) (X:=imR w (rI M))
 have c3:=sizes1_s (h:=h) (w:=w) (X:=imR w (rI N))
 have c4:=eqSizes_s (h:=h) (w:=w)
 unfold mat
 rw[hl]at gl⊢
 rw[hl2]at gl2⊢
 refine qF Tryz.func55 Tryz.ntmps55 fun B hB=> ?_
 refine qW ?_
 refine SC.loop (fun i:Nat=>⟨[(2,.pt 0 0),(3,.pt 1 0),(5,.sc (.func (.func 93) #[] #[])),(24,.im (imR w (rI M)) h),(25,.sc (.int .i64 h)),(26,.sc (.int .i64 i))],[(1,⟨28,[.sc (.int .i64 h),.sc (.int .i64 w),.im (imR w (rI N)) h],false⟩),(0,⟨28,[.sc (.int .i64 h),.sc (.int .i64 w),.im (imR w (rI M)) h],false⟩)],2,41⟩)
  (fun t=>t<=h/\ ∀i,i<t->M.getD i []=N.getD i []) (fun i=>h-i) 0 ?_ ?_ ?_
 ·exact qL
 ·exact⟨znc _,fun i h=>by omega⟩
 ·rintro t ⟨ht,he⟩ K2 hK2
  by_cases hc:t<h
  ·have q1:=decide_eq_true (p:=(t:Int)<(h:Int)) om
   have g1:=imI_get (w:=w) (M:=M) (i:=t) om
   have g2:=imI_get (w:=w) (M:=N) (i:=t) om
   have hr:=hM.get hc
   have hr2:=hN.get hc
   have c5:=combine_s hr.1 hr2.1 hr.2 hr2.2 hK hw
   have c6:=bcont_s (l:=eqB (M.getD t []) (N.getD t []) w) (by rw[eqB_len];exact hw)
   rw[eqB_len,eqB_all hr.1 hr2.1]at c6
   have hnx:M.getD t []=N.getD t []-> ∀i,i<t+1->M.getD i []=N.getD i []:=fun h i hi=>by
    by_cases e:i=t
    ·rw[e];exact h
    ·exact he i om
   clear c1 c2 c3 c4
   generalize bC (eqB (M.getD t []) (N.getD t []) w)=E at*
   by_cases hxy:M.getD t []=N.getD t []
   ·rw[decide_eq_true hxy]at c6
    refine qWf (Q6 @q1 @g1 @g2 @gl @gl2 @gD) ?_
    refine hK2 _ (t+1) ?_ ⟨by omega,hnx hxy⟩ om
    exact qL
   ·rw[decide_eq_false hxy]at c6
    rw[decide_eq_false (fun e:M=N=>hxy (by rw[e]))]
    refine qWf (Q6 @q1 @g1 @g2 @gl @gl2 @gD) ?_
    exact qE Tryz.results55
  ·have q1:=decide_eq_false (p:=(t:Int)<(h:Int)) om
   rw[decide_eq_true (list_upto (d:=[]) om fun i hi=>he i om)]
   refine qWf @q1 ?_
   exact qE Tryz.results55
end
section
open Go.RowKit
theorem leading_s{r:List Int}{w K:Nat}(hw:r.length=w)(hf: ∀x∈r,Fits K x)(hK:K<=100000000000)(hl:w<=1000000):Spec Tryz.prog 115 [.im (ivR r) w] (.sc (.int .i64 (pivI r))):=by
 have gl:=ivR_len r
 refine qF Tryz.func115 Tryz.ntmps115 fun B hB=> ?_
 refine qW ?_
 refine SC.loop (fun c:Nat=>⟨[(3,.sc (.int .i64 (-1))),(6,.im (ivR r) w),(7,.sc (.int .i64 w)),(8,.sc (.int .i64 c))],[],0,20⟩) (fun c=>c<=w/\ ∀k,k<c->r.getD k 0=0) (fun c=>w-c) 0 ?_ ⟨znc _,fun k hk=>by omega⟩ ?_
 ·exact qL
 ·rintro c ⟨hc,hz⟩ K1 hK1
  by_cases hlt:c<w
  ·have q1:=decide_eq_true (p:=(c:Int)<(w:Int)) om
   have gd:=ivR_drop (l:=r) (i:=c) om
   have g2:c*2<(ivR r).length:=by omega
   have c1:=psign_i (r.getD c 0) K (hf _ (getD_mem (d:=0) om)) om
   by_cases h0:r.getD c 0=0
   ·have q2:((r.getD c 0).sign==0)=true:=by rw[h0];rfl
    have hz2: ∀k,k<c+1->r.getD k 0=0:=fun k hk=>by
     by_cases e:k=c
     ·rw[e];exact h0
     ·exact hz k om
    generalize r.getD c 0=z at*
    unfold iv sv at c1
    unfold ivC sv at gd
    simp only[zl8,zl7]at gd
    refine qWf (Q5 @q1 @q2 @gl @gd @g2) ?_
    refine hK1 _ (c+1) ?_ ⟨by omega,hz2⟩ om
    exact qL
   ·have q2:((r.getD c 0).sign==0)=false:=by rw[beq_eq_false_iff_ne];intro e;exact h0 (Int.sign_eq_zero_iff_zero.1 e)
    rw[piv_at om hz h0]
    generalize r.getD c 0=z at*
    unfold iv sv at c1
    unfold ivC sv at gd
    simp only[zl8,zl7]at gd
    refine qWf (Q5 @q1 @q2 @gl @gd @g2) ?_
    exact qE Tryz.results115
  ·have q1:=decide_eq_false (p:=(c:Int)<(w:Int)) om
   rw[piv_no fun k hk=>hz k om]
   refine qWf @q1 ?_
   exact qE Tryz.results115
end
section
open Go.RowKit
def outF(i c w:Nat)(row:List Int):V:= .fn (.func 116) [] [.pi [.sc (.int .i64 c)],.pi [.im (ivR row) w]]
theorem outside_s{w K c:Nat}{a row:List Int}(ha:a.length=w)(hr:row.length=w)(hfa: ∀x∈a,Fits K x)(hfr: ∀x∈row,Fits K x)(hK:K<=100000000000)(hl:w<=1000000)(hc:c<w):
  Spec Tryz.prog 116 [.im (ivR a) w,.pi [.sc (.int .i64 c)],.pi [.im (ivR row) w]] (.sc (.bool (decide (a.getD c 0<0\/row.getD c 0<=a.getD c 0)))):=by
 have hfx:=hfa _ (getD_mem (d:=0) (l:=a) (i:=c) om)
 have hfy:=hfr _ (getD_mem (d:=0) (l:=row) (i:=c) om)
 have c1:=psign_i _ K hfx om
 have c2:=pcmp_i _ (row.getD c 0) K hfx hfy om
 have gda:=ivR_drop (l:=a) (i:=c) om
 have gdr:=ivR_drop (l:=row) (i:=c) om
 have gla:=ivR_len a
 have glr:=ivR_len row
 have g2:c*2<(ivR a).length:=by omega
 have g3:c*2<(ivR row).length:=by omega
 generalize(ivR a).drop ((c+1)*2)=D at*
 generalize ivR a=A at*
 generalize(ivR row).drop ((c+1)*2)=D2 at*
 generalize ivR row=A2 at*
 generalize a.getD c 0=x at*
 generalize row.getD c 0=y at*
 unfold iv sv at c1 c2
 unfold ivC sv at gda gdr
 simp only[zl8,zl7]at gda gdr
 refine qF Tryz.func116 Tryz.ntmps116 fun B hB=> ?_
 by_cases h1:x<0
 ·have q1:decide (x.sign<0)=true:=decide_eq_true (Int.sign_neg_iff.2 h1)
  rw[decide_eq_true (.inl h1)]
  refine qWf (Q5 @gda @gdr @g2 @g3 @q1) ?_
  exact qE Tryz.results116
 ·have q1:decide (x.sign<0)=false:=decide_eq_false (fun e=>h1 (Int.sign_neg_iff.1 e))
  have q2:decide ((x-y).sign>=0)=decide (x<0\/y<=x):=by
   by_cases h2:y<=x
   ·have:=Int.sign_nonneg_iff.2 (show 0<=x-y by omega)
    exact(decide_eq_true this).trans (decide_eq_true (.inr h2)).symm
   ·have:=Int.sign_neg_iff.2 (show x-y<0 by omega)
    exact(decide_eq_false om).trans (decide_eq_false om).symm
  refine qWf (Q6 @gda @gdr @g2 @g3 @q1 @q2) ?_
  exact qE Tryz.results116
theorem first_bad{p:Nat->Prop} [DecidablePred p]: ∀{i:Nat},¬(∀r,r<i->p r)-> ∃m,m<i/\ ¬p m/\ ∀r,r<m->p r
 |0,h=>absurd (fun r hr=>by omega) h
 | i+1,h=>by
  by_cases h0: ∀r,r<i->p r
  ·refine⟨i,by omega,fun hp=>h fun r hr=> ?_,h0⟩
   by_cases e:r=i
   ·rw[e];exact hp
   ·exact h0 r om
  ·obtain⟨m,m1,m2,m3⟩:=first_bad h0
   exact⟨m,by omega,m2,m3⟩
theorem indexO_s{h w K c i:Nat}{M:List (List Int)}{row:List Int}(hM:MI h w K M)(hr:row.length=w)(hfr: ∀x∈row,Fits K x)(hK:K<=100000000000)(hn:h<=1000000)(hl:w<=1000000)(hc:c<w)(hi:i<=h):
  ∃z:Int,(decide (z>=0)= !decide (∀r,r<i->0<=ent2 M r c/\ent2 M r c<row.getD c 0))/\Spec Tryz.prog 134 [.im ((imR w (rI M)).take i) i,outF i c w row] (.sc (.int .i64 z)):=by
 have hml:=hM.len
 have gl:((imR w (rI M)).take i).length=i:=by rw[List.length_take,imI_len];omega
 have gt: ∀k,k<i->((imR w (rI M)).take i)[k]? =some (.im (ivR (M.getD k [])) w):=fun k hk=>by
  rw[List.getElem?_take_of_lt hk];exact imI_get om
 have cO:=fun k (hk:k<i)=>outside_s (c:=c) (hM.get (show k<h by omega)).1 hr (hM.get (show k<h by omega)).2 hfr hK hl hc
 have hz: ∃z:Int,∃n:Nat,n<=i/\(∀r,r<n->0<=ent2 M r c/\ent2 M r c<row.getD c 0)/\((n=i/\z= -1/\ ∀r,r<i->0<=ent2 M r c/\ent2 M r c<row.getD c 0)\/(n<i/\z=n/\ ¬(0<=ent2 M n c/\ent2 M n c<row.getD c 0))):=by
  by_cases hall: ∀r,r<i->0<=ent2 M r c/\ent2 M r c<row.getD c 0
  ·exact⟨-1,i,znb _,hall,.inl ⟨rfl,rfl,hall⟩⟩
  ·obtain⟨m,m1,m2,m3⟩:=first_bad hall
   exact⟨m,m,by omega,m3,.inr ⟨m1,rfl,m2⟩⟩
 obtain⟨z,n,hni,hok,hz⟩:=hz
 have hz1:decide (z>=0)= !decide (∀r,r<i->0<=ent2 M r c/\ent2 M r c<row.getD c 0):=by
  rcases hz with⟨_,rfl,ha⟩|⟨h1,rfl,hb⟩
  ·rw[decide_eq_true ha];rfl
  ·rw[decide_eq_false (p:= ∀r,r<i->0<=ent2 M r c/\ent2 M r c<row.getD c 0) (fun e=>hb (e n h1)),decide_eq_true (p:=((n:Int)>=0)) om];rfl
 refine⟨z,hz1,?_⟩
 clear hz1
 generalize(imR w (rI M)).take i=C at*
 unfold outF
 refine qF Tryz.func134 Tryz.ntmps134 fun B hB=> ?_
 refine qW ?_
 refine SC.loop (fun k:Nat=>⟨[(0,.im C i),(1,.fn (.func 116) [] [.pi [.sc (.int .i64 c)],.pi [.im (ivR row) w]]),(7,.sc (.int .i64 i)),(8,.sc (.int .i64 k))],[],0,19⟩) (fun k=>k<=n) (fun k=>i-k) 0 ?_ (znc _) ?_
 ·exact qL
 ·intro k hk K1 hK1
  by_cases hki:k<i
  ·have q1:=decide_eq_true (p:=(k:Int)<(i:Int)) om
   have g1:=gt k hki
   have c1:=cO k hki
   have hke:ent2 M k c=(M.getD k []).getD c 0:=rfl
   by_cases hkn:k<n
   ·rw[decide_eq_false (by have:=hok k hkn;omega)]at c1
    refine qWf (Q4 @q1 @g1 @gl @gD) ?_
    refine SO.callV qS Tab.go116 qS qS (SCallV.of c1 qS ?_)
    refine qW ?_
    refine hK1 _ (k+1) ?_ om om
    exact qL
   ·rcases hz with⟨h1,_,_⟩|⟨h1,rfl,hb⟩
    ·omega
    ·have hkn2:k=n:=by omega
     subst hkn2
     rw[decide_eq_true om]at c1
     refine qWf (Q4 @q1 @g1 @gl @gD) ?_
     refine SO.callV qS Tab.go116 qS qS (SCallV.of c1 qS ?_)
     refine qW ?_
     exact qE Tryz.results134
  ·have q1:=decide_eq_false (p:=(k:Int)<(i:Int)) om
   rcases hz with⟨h1,rfl,_⟩|⟨h1,_,_⟩
   ·refine qWf @q1 ?_
    exact qE Tryz.results134
   ·omega
theorem containsO_s{h w K c i:Nat}{M:List (List Int)}{row:List Int}(hM:MI h w K M)(hr:row.length=w)(hfr: ∀x∈row,Fits K x)(hK:K<=100000000000)(hn:h<=1000000)(hl:w<=1000000)(hc:c<w)(hi:i<=h):
  Spec Tryz.prog 117 [.im ((imR w (rI M)).take i) i,outF i c w row] (.sc (.bool (!decide (∀r,r<i->0<=ent2 M r c/\ent2 M r c<row.getD c 0)))):=by
 obtain⟨z,hz,c1⟩:=indexO_s hM hr hfr hK hn hl hc hi
 rw[<-hz]
 generalize(imR w (rI M)).take i=C at*
 unfold outF at*
 refine qF Tryz.func117 Tryz.ntmps117 fun B hB=> ?_
 refine qW ?_
 exact qE Tryz.results117
end
section
open Go.RowKit
theorem piv_nonzero{r:List Int}{p:Nat}(h:pivI r=p):r.getD p 0≠0:=by
 unfold pivI at h
 split at h
 ·rename_i hlt
  have e:r.findIdx (fun x=>x !=0)=p:=by omega
  have:=List.findIdx_getElem (w:=hlt)
  rw[List.getD_eq_getElem?_getD,<-e,zlb hlt]
  simpa using this
 ·omega
set_option maxRecDepth 8000 in
theorem pis_s{h w K:Nat}{M:List (List Int)}(hM:MI h w K M)(hK:K<=100000000000)(hn:h<=1000000)(hw:w<=1000000):Spec Tryz.prog 87 [mat w M] (.sc (.bool (isF M w h 0 (-1)))):=by
 have hl:=hM.len
 have gl:=imI_len w M
 have c1:=imValid_s hM hK hn hw
 obtain⟨G,hG0⟩: ∃G,isF M w h 0 (-1)=G:=⟨_,rfl⟩
 rw[hG0]
 unfold mat at*
 rw[hl]at gl c1⊢
 refine qF Tryz.func87 Tryz.ntmps87 fun B hB=> ?_
 refine qW ?_
 refine SC.loop (fun x:Nat×Int×Bool=>⟨[(1,.pt 0 0),(3,.sc (.int .i64 x.2.1)),(4,.sc (.bool x.2.2)),(13,.im (imR w (rI M)) h),(14,.sc (.int .i64 h)),(15,.sc (.int .i64 x.1))],[(0,⟨28,[.sc (.int .i64 h),.sc (.int .i64 w),.im (imR w (rI M)) h],false⟩)],1,49⟩)
  (fun x=>x.1<=h/\isF M w (h-x.1) x.1 (if x.2.2=true then(w:Int)else x.2.1)=G) (fun x=>h-x.1) (0,-1,false) ?_ ?_ ?_
 ·exact qL
 ·exact⟨znc _,hG0⟩
 ·rintro⟨i,last,en⟩ ⟨hi,hG⟩ K2 hK2
  simp only at hi hG⊢
  obtain⟨L,hL⟩: ∃L:Int,(if en=true then(w:Int)else last)=L:=⟨_,rfl⟩
  rw[hL]at hG
  by_cases hc:i<h
  ·have q1:=decide_eq_true (p:=(i:Int)<(h:Int)) om
   have g1:=imI_get (w:=w) (M:=M) (i:=i) om
   have hr:=hM.get hc
   have c2:=leading_s hr.1 hr.2 hK hw
   obtain⟨p1,p2⟩:=pivI_lt (M.getD i [])
   rw[hr.1]at p1
   rw[show h-i=(h-(i+1))+1 by omega,isF]at hG
   by_cases h1:pivI (M.getD i [])<0
   ·rw[if_pos h1]at hG
    have q2:=decide_eq_true h1
    refine qWf (Q5 @q1 @g1 @gl @gD @q2) ?_
    refine hK2 _ (i+1,last,true) ?_ ⟨by simp only;omega,hG⟩ (by simp only;omega)
    exact qL
   ·rw [if_neg h1]at hG
    obtain⟨p,hp⟩: ∃p:Nat,pivI (M.getD i [])=p:=⟨(pivI (M.getD i [])).toNat,(Int.toNat_of_nonneg om).symm⟩
    rw[hp]at hG c2 h1 p1
    have hpw:p<w:=by omega
    rw[Int.toNat_natCast]at hG
    have hx:=hM.fit hc hpw
    have c3:=psign_i _ K hx om
    have c4:=containsO_s (i:=i) hM hr.1 hr.2 hK hn hw hpw om
    have gd:=ivR_drop (l:=M.getD i []) (i:=p) om
    have glr:=ivR_len (M.getD i [])
    have g2:p*2<(ivR (M.getD i [])).length:=by omega
    have hxe:ent2 M i p=(M.getD i []).getD p 0:=rfl
    rw[hxe]at hG
    have q2:decide ((p:Int)<0)=false:=decide_eq_false om
    have hnz:(M.getD i []).getD p 0≠0:=piv_nonzero hp
    unfold outF at c4
    generalize hR:ivR (M.getD i [])=R at*
    generalize hD:R.drop ((p+1)*2)=D at*
    generalize hxx:(M.getD i []).getD p 0=x at*
    unfold iv sv at c3
    unfold ivC sv at gd
    simp only[zl8,zl7]at gd
    cases en with
    |true=>
     rw[if_pos rfl]at hL
     rw[if_pos (c:=(p:Int)<=L\/x<=0) (.inl om)]at hG
     subst hG
     refine qWf (Q7 @q1 @g1 @gl @gD @q2 @gd @g2) ?_
     exact qE Tryz.results87
    | false=>
     rw[if_neg (by simp)]at hL
     subst hL
     by_cases h2:(p:Int)<=last
     ·rw[if_pos (c:=(p:Int)<=last\/x<=0) (.inl h2)]at hG
      subst hG
      have q3:=decide_eq_true h2
      refine qWf (Q8 @q1 @g1 @gl @gD @q2 @q3 @gd @g2) ?_
      exact qE Tryz.results87
     ·have q3:=decide_eq_false h2
      by_cases h3:x<0
      ·rw[if_pos (c:=(p:Int)<=last\/x<=0) (.inr om)]at hG
       subst hG
       have q4:decide (x.sign<0)=true:=decide_eq_true (Int.sign_neg_iff.2 h3)
       refine qWf (Q9 @q1 @g1 @gl @gD @q2 @q3 @q4 @gd @g2) ?_
       exact qE Tryz.results87
      ·rw[if_neg (c:=(p:Int)<=last\/x<=0) om]at hG
       have q4:decide (x.sign<0)=false:=decide_eq_false (fun e=>h3 (Int.sign_neg_iff.1 e))
       by_cases h4: ∀r,r<i->0<=ent2 M r p/\ent2 M r p<x
       ·rw[if_pos h4]at hG
        rw[decide_eq_true h4]at c4
        refine qWf (Q9 @q1 @g1 @gl @gD @q2 @q3 @q4 @gd @g2) ?_
        refine hK2 _ (i+1,(p:Int),false) ?_ ⟨by simp only;omega,hG⟩ (by simp only;omega)
        exact qL
       ·rw[if_neg h4]at hG
        rw[decide_eq_false h4]at c4
        subst hG
        refine qWf (Q9 @q1 @g1 @gl @gD @q2 @q3 @q4 @gd @g2) ?_
        exact qE Tryz.results87
  ·have q1:=decide_eq_false (p:=(i:Int)<(h:Int)) om
   have hin:h-i=0:=by omega
   rw[hin,isF]at hG
   subst hG
   refine qWf @q1 ?_
   exact qE Tryz.results87
end
section
open Go.RowKit
theorem hcheck_s{h w K:Nat}{A H U C:List (List Int)}(hA:MI h w K A)(hH:MI h w K H)(hU:MI h h K U)(hC:MI h h K C)(hK:K<=40000000000)(hn:h<=1000000)(hw:w<=1000000):Spec Tryz.prog 53 [mat w A,herm h w H U C] (.sc (.bool (chkF h w A H U C))):=by
 have hP:=mul_mi hU hA hn
 have hQ:=mul_mi hU hC hn
 have hI:MI h h (2*K+1) (idL h):=(mk_mi (K:=1) fun _ _ _ _=>fits01).mono om
 have c1:=imValid_s hA om hn hw
 have c2:=pis_s hH om hn hw
 have c3:=imValid_s hU om hn hn
 have c4:=imValid_s hC om hn hn
 have c5:=pmulM_s hU hA om hn hn hw
 have c6:=pmulM_s hU hC om hn hn hn
 have c7:=pident_s h hn
 have c8:=pequal_s hP (hH.mono om) om hn hw
 have c9:=pequal_s hQ hI om hn hn
 have l1:=hA.len
 have l2:=hH.len
 have l3:=hU.len
 have l4:=hC.len
 have l5:=hP.len
 have l6:=hQ.len
 have l7:=hI.len
 unfold chkF
 generalize isF H w h 0 (-1)=b1 at*
 generalize mulM h h w U A=P at*
 generalize mulM h h h U C=Q at*
 generalize idL h=I at*
 generalize decide (P=H)=b2 at*
 generalize decide (Q=I)=b3 at*
 unfold herm mat at*
 simp only[l1,l2,l3,l4,l5,l6,l7]at*
 refine qF Tryz.func53 Tryz.ntmps53 fun B hB=> ?_
 cases b1<;>cases b2<;>cases b3
 all_goals
  (repeat(first|refine DO.nil (by kernel_rfl) ?_|(with_reducible refine qO ?_)|((first|apply SO.call|apply DO.call);(iterate 3 exact qS);(first|apply SCall.ofX|apply DCall.ofX);assumption;exact qS)|((with_reducible first|apply wa|apply wb|apply wc|apply wd);exact qS;(first|refine pT ?_|refine pF ?_|fail_if_success with_reducible refine pA ?_))|((with_reducible refine SC.draw Tab.mixed ?_ ?_);(focus(first|rfl|simp(disch:=omega) only[go_sem,↓reduceIte,zn1,zn2,zn3,zn4,zn5,zn6,reduceCtorEq,zn7,zi1,zi2,if_pos,if_neg,Int.reduceAdd])))|(with_reducible apply SC.ops)|(with_reducible apply SR.next)|refine SC.loopN 3 ?_))
  exact qE Tryz.results53
end
section
open Go.RowKit
theorem pcheck_s{h w K:Nat}{A H U C:List (List Int)}{l:List OpL}(hI:MI h h K (idL h))(hA:MI h w K A)(hH:MI h w K H)(hU:MI h h K U)(hC:MI h h K C)(hK:K<=40000000000)(hn:h<=1000000)(hw:w<=1000000)(hl: ∀o∈l,OkOp h o)(hll:l.length<=1000000000)(hS: ∀i,i<=l.length->MI h h K (actsO (idL h) (l.take i)))(hE:MI h h K (actsO (idL h) l)):
  Spec Tryz.prog 16 [kept h w A H U C l] (.sc (.bool (chkF h w A H U C&&decide (actsO (idL h) l=U)))):=by
 have c1:=hcheck_s hA hH hU hC hK hn hw
 have c2:=pident_s h hn
 have c3:=iapply_s (K:=K) (M:=idL h) hI hl hS om hll hn hn
 have c4:=pequal_s hE hU om hn hn
 have c5:=imValid_s hA om hn hw
 have c6:=ivalid_s hl hn hll
 have l1:=hA.len
 have l2:=hI.len
 have l3:=hU.len
 have l4:=hE.len
 generalize chkF h w A H U C=b1 at*
 generalize actsO (idL h) l=E at*
 generalize decide (E=U)=b2 at*
 unfold herm kept mat at*
 simp only[l1,l2,l3,l4]at*
 generalize idL h=I at*
 refine qF Tryz.func16 Tryz.ntmps16 fun B hB=> ?_
 cases b1<;>cases b2
 all_goals
  refine qW ?_
  exact qE Tryz.results16
end
section
open Go.RowKit
theorem rraised_s{h w K:Nat}{M:List (List Int)}{u v:List Int}(hM:MI h w K M)(hK:K<=80000000000)(hn:h<=1000000)(hw:w<=1000000)(hfu: ∀x∈u,Fits K x)(hfv: ∀x∈v,Fits K x){e:Int}(he:e=if u.length=h/\v.length=w then 0 else 50)(hul:u.length<=1000000)(hvl:v.length<=1000000):
  Spec Tryz.prog 25 [mat w M,.im (ivR u) u.length,.im (ivR v) v.length] (.tu [if e=0 then mat w (raiI h w M u v)else mat 0 [],.sc (.int .i64 e)]):=by
 by_cases h1:u.length=h/\v.length=w
 ·rw[if_pos h1]at he
  subst he
  rw[if_pos rfl]
  exact rraise1 hM hK hn hw h1.1 h1.2 hfu hfv
 ·rw[if_neg h1]at he
  subst he
  rw[if_neg om]
  have hl:=hM.len
  have e0:mat 0 []= .ag [.sc (.int .i64 0),.sc (.int .i64 0),.im [] 0]:=rfl
  rw[e0]
  unfold mat
  rw[hl]
  refine qF Tryz.func25 Tryz.ntmps25 fun B hB=> ?_
  by_cases h2:u.length=h
  ·have e1:((u.length:Int) !=(h:Int))=false:=by rw[h2];simp
   have e2:((v.length:Int) !=(w:Int))=true:=by rw[bne_iff_ne];omega
   refine qWf (Q2 @e1 @e2) ?_
   exact qE Tryz.results25
  ·have e1:((u.length:Int) !=(h:Int))=true:=by rw[bne_iff_ne];omega
   refine qWf @e1 ?_
   exact qE Tryz.results25
theorem fact12: ∀h,h<13->(1+1)*fact (h+1)<=50000000000:=by decide
section
variable {N h w:Nat} {A:List (List Int)} {l:List OpL}
theorem Kp.mH(hk:Kp h w KR A l):MI h w KR (actsO A l):=by have:=hk.red.st l.length;rwa[List.take_length]at this
theorem Kp.mU(hk:Kp h w KR A l):MI h h KR (actsO (idL h) l):=by have:=hk.red.su l.length;rwa[List.take_length]at this
theorem Kp.mC(hk:Kp h w KR A l):MI h h KR (actsO (idL h) (invL l)):=by have:=hk.red.sv (invL l).length;rwa[List.take_length]at this
theorem Kp.mA(hk:Kp h w KR A l):MI h w KR A:=hk.red.st 0
theorem Kp.mI(hk:Kp h w KR A l):MI h h KR (idL h):=hk.red.su 0
theorem kr_le:KR<=1000000:=by unfold KR;omega
theorem Kp.rcheck(hk:Kp h w KR A l)(hh:h+w<=12):Spec Tryz.prog 30 [keptS h w A l] (.sc (.bool true)):=by
 have hkr:=kr_le
 have:=rcheck_s hk.mI hk.mA hk.mH hk.mU hk.mC om om om hk.red.ok hk.red.len (fun i _=>hk.hS i) hk.mU
 rwa[hk.chk,decide_eq_true rfl]at this
theorem Kp.pcheck(hk:Kp h w KR A l)(hh:h+w<=12):Spec Tryz.prog 16 [keptS h w A l] (.sc (.bool true)):=by
 have hkr:=kr_le
 have:=pcheck_s hk.mI hk.mA hk.mH hk.mU hk.mC om om om hk.red.ok hk.red.len (fun i _=>hk.red.su i) hk.mU
 rwa[hk.chk,decide_eq_true rfl]at this
theorem Kp.keeps(hk:Kp h w KR A l)(hh:h+w<=12)(hA:Bm 511 h w A):Spec Tryz.prog 15 [keptS h w A l,mat w A] (.sc (.bool true)):=by
 have hkr:=kr_le
 obtain⟨W',hE,hT⟩:=hk.form
 have c1:=hk.rcheck hh
 have c2:=isame_s hk.mA om om om
 have c3:=rform_s (hA.mi om) (fact12 h om) om om om hE
 have c4:=isame_s hk.mH om om om
 have l1:=hk.mA.len
 have l2:=hk.mH.len
 unfold hermC at c3
 rw[hT]at c3
 clear hE hT
 unfold keptS kept mat at*
 simp only[l1,l2]at c1 c2 c3 c4⊢
 generalize actsO A l=H at*
 generalize imR h (rI (actsO (idL h) l))=U at*
 generalize imR h (rI (actsO (idL h) (invL l)))=C at*
 generalize imR h (rI ((W'.drop h).take h))=U1 at*
 generalize imR h (rI (W'.drop (2*h)))=U2 at*
 generalize imR w (rI H)=F1 at*
 generalize imR w (rI A)=M1 at*
 refine qF Tryz.func15 Tryz.ntmps15 fun B hB=> ?_
 refine qW ?_
 exact qE Tryz.results15
end
end
section
open Go.RowKit
section
variable {N h w:Nat} {A:List (List Int)} {l l1:List OpL}
theorem fits_small{v:List Int}(hv: ∀x∈v,x.natAbs<=511): ∀x∈v,Fits 1 x:=fun x hx=>by
 have:=hv x hx
 unfold Fits;omega
theorem start_ok(hk:Kp h w KR A l)(hh:h+w<=12):Spec Tryz.prog 14 [mat w A] (keptS h w A l):=(hk.redd hh).start
theorem ins_ok{i:Nat}{v:List Int}(hk:Kp h w KR A l)(hk1:Kp (h+1) w KR (insI A i v) l1)(hh:h+1+w<=12)(hi:i<=h)(hv:v.length=w):Spec Tryz.prog 19 [keptS h w A l,.sc (.int .i64 i),.im (ivR v) w] (.tu [keptS (h+1) w (insI A i v) l1,.sc (.int .i64 0)]):=by
 have hkr:=kr_le
 have h1:=uinsert_s (H:=actsO A l) (U:=actsO (idL h) l) (C:=actsO (idL h) (invL l)) (l:=l) (e:=0) (K1:=KR) (l1:=l1) hk.mA om om om i v om (by rw[if_neg om,if_pos hv]) (fun _=>by rw[Int.toNat_natCast];exact hk1.redd hh)
 rw[if_pos rfl,hv,Int.toNat_natCast]at h1
 exact h1
theorem ins_no{i:Int}{v:List Int}{e:Int}(hk:Kp h w KR A l)(hh:h+w<=12)(hv:v.length<=1000)(he:e=if i<0\/(h:Int)<i then 1 else if v.length=w then 0 else 50)(h0:e≠0):Spec Tryz.prog 19 [keptS h w A l,.sc (.int .i64 i),.im (ivR v) v.length] (.tu [keptZ,.sc (.int .i64 e)]):=by
 have hkr:=kr_le
 have h1:=uinsert_s (H:=actsO A l) (U:=actsO (idL h) l) (C:=actsO (idL h) (invL l)) (l:=l) (e:=e) (K1:=KR) (l1:=l) hk.mA om om om i v om he (fun h=>absurd h h0)
 rw[if_neg h0]at h1
 exact h1
theorem del_ok{i:Nat}(hk:Kp h w KR A l)(hk1:Kp (h-1) w KR (delI A i) l1)(hh:h+w<=12)(hi:i<h):Spec Tryz.prog 22 [keptS h w A l,.sc (.int .i64 i)] (.tu [keptS (h-1) w (delI A i) l1,.sc (.int .i64 0)]):=by
 have hkr:=kr_le
 have h1:=udelete_s (H:=actsO A l) (U:=actsO (idL h) l) (C:=actsO (idL h) (invL l)) (l:=l) (e:=0) (K1:=KR) (l1:=l1) hk.mA om om om i (by rw[if_neg om]) (fun _=>by rw[Int.toNat_natCast];exact hk1.redd om)
 rw[if_pos rfl,Int.toNat_natCast]at h1
 exact h1
theorem del_no{i:Int}(hk:Kp h w KR A l)(hh:h+w<=12)(hi:i<0\/(h:Int)<=i):Spec Tryz.prog 22 [keptS h w A l,.sc (.int .i64 i)] (.tu [keptZ,.sc (.int .i64 1)]):=by
 have hkr:=kr_le
 have h1:=udelete_s (H:=actsO A l) (U:=actsO (idL h) l) (C:=actsO (idL h) (invL l)) (l:=l) (e:=1) (K1:=KR) (l1:=l) hk.mA om om om i (by rw[if_pos hi]) (fun h=>by omega)
 rw[if_neg om]at h1
 exact h1
theorem rai_ok{u v:List Int}(hk:Kp h w KR A l)(hk1:Kp h w KR (raiI h w A u v) l1)(hh:h+w<=12)(hu:u.length=h)(hv:v.length=w)(hfu: ∀x∈u,x.natAbs<=511)(hfv: ∀x∈v,x.natAbs<=511):Spec Tryz.prog 24 [keptS h w A l,.im (ivR u) h,.im (ivR v) w] (.tu [keptS h w (raiI h w A u v) l1,.sc (.int .i64 0)]):=by
 have hkr:=kr_le
 have hkr1:1<=KR:=by unfold KR;omega
 have h1:=urank_s (H:=actsO A l) (U:=actsO (idL h) l) (C:=actsO (idL h) (invL l)) (l:=l) (e:=0) (K1:=KR) (l1:=l1) hk.mA om om om u v om om (fun x hx=>(fits_small hfu x hx).mono hkr1) (fun x hx=>(fits_small hfv x hx).mono hkr1) (by rw[if_pos ⟨hu,hv⟩]) (fun _=>hk1.redd hh)
 rw[if_pos rfl,hu,hv]at h1
 exact h1
theorem rai_no{u v:List Int}(hk:Kp h w KR A l)(hh:h+w<=12)(hul:u.length<=1000)(hvl:v.length<=1000)(hfu: ∀x∈u,x.natAbs<=511)(hfv: ∀x∈v,x.natAbs<=511)(hn: ¬(u.length=h/\v.length=w)):Spec Tryz.prog 24 [keptS h w A l,.im (ivR u) u.length,.im (ivR v) v.length] (.tu [keptZ,.sc (.int .i64 50)]):=by
 have hkr:=kr_le
 have hkr1:1<=KR:=by unfold KR;omega
 have h1:=urank_s (H:=actsO A l) (U:=actsO (idL h) l) (C:=actsO (idL h) (invL l)) (l:=l) (e:=50) (K1:=KR) (l1:=l) hk.mA om om om u v om om (fun x hx=>(fits_small hfu x hx).mono hkr1) (fun x hx=>(fits_small hfv x hx).mono hkr1) (by rw[if_neg hn]) (fun h=>by omega)
 rw[if_neg om]at h1
 exact h1
theorem col_ok{v:List Int}(hk:Kp h w KR A l)(hk1:Kp h (w+1) KR (widI A v) l1)(hh:h+(w+1)<=12)(hv:v.length=h):Spec Tryz.prog 26 [keptS h w A l,.im (ivR v) h] (.tu [keptS h (w+1) (widI A v) l1,.sc (.int .i64 0)]):=by
 have hkr:=kr_le
 have h1:=ucolumn_s (H:=actsO A l) (U:=actsO (idL h) l) (C:=actsO (idL h) (invL l)) (l:=l) (e:=0) (K1:=KR) (l1:=l1) hk.mA om om om v om (by rw[if_pos hv]) (fun _=>hk1.redd hh)
 rw[if_pos rfl,hv]at h1
 exact h1
theorem col_no{v:List Int}(hk:Kp h w KR A l)(hh:h+w<=12)(hvl:v.length<=1000)(hv:v.length≠h):Spec Tryz.prog 26 [keptS h w A l,.im (ivR v) v.length] (.tu [keptZ,.sc (.int .i64 50)]):=by
 have hkr:=kr_le
 have h1:=ucolumn_s (H:=actsO A l) (U:=actsO (idL h) l) (C:=actsO (idL h) (invL l)) (l:=l) (e:=50) (K1:=KR) (l1:=l) hk.mA om om om v om (by rw[if_neg hv]) (fun h=>by omega)
 rw[if_neg om]at h1
 exact h1
theorem mul_sub{U:List (List Int)}{M:List (List Int)}(e:mulM h h w U A=M):SubL h w (ent2 A) (ent2 M):=fun i hi=>⟨fun t=>ent2 U i t,fun j hj=>by
 rw[<-e]
 unfold mulM ent2
 rw[mkM_get hi,mkR_get hj]⟩
theorem Kp.eq{G U V:List (List Int)}{r:Nat}{p:Nat->Nat}(hk:Kp h w KR A l)(hh:h<=1000000)(hG:MI h w KR G)(hH:IsH h w (ent2 G) r p)(h1:mulM h h w U A=G)(h2:mulM h h w V G=A):actsO A l=G:=by
 obtain⟨r',p',hI⟩:=hk.isH
 have e1:=acts_prod hk.mA hk.red.ok hh
 have e2:=acts_prod hk.mH (fun o ho=>invL_ok hk.red.ok o ho) hh (l:=invL l)
 rw[hk.back]at e2
 exact mat_ent hk.mH hG fun i j hi hj=>IsH.uniq hI hH (SubL.trans (mul_sub e2) (mul_sub h1)) (SubL.trans (mul_sub h2) (mul_sub e1)) hi hj
end
end
section
open Go.RowKit
def bmB(N h w:Nat)(A:List (List Int)):Bool:=decide (A.length=h)&&A.all fun r=>decide (r.length=w)&&r.all fun x=>decide (x.natAbs<=N)
theorem bmB_s{N h w:Nat}{A:List (List Int)}(h1:bmB N h w A=true):Bm N h w A:=by
 unfold bmB at h1
 rw[Bool.and_eq_true,decide_eq_true_eq,zlf]at h1
 have h2: ∀r,r<h->(A.getD r []).length=w/\ ∀x∈A.getD r [],x.natAbs<=N:=fun r hr=>by
  have:=h1.2 _ (getD_mem (d:=[]) (l:=A) (i:=r) om)
  rw[Bool.and_eq_true,decide_eq_true_eq,zlf]at this
  exact⟨this.1,fun x hx=>of_decide_eq_true (this.2 x hx)⟩
 exact⟨⟨h1.1,fun r hr=>(h2 r hr).1⟩,fun q t hq=>bm_row (i:=0) (h2 q hq).2⟩
def isHB(h w:Nat)(M:Nat->Nat->Int)(r:Nat)(p:Nat->Nat):Bool:=decide (r<=h/\(∀i,i<r->p i<w/\0<M i (p i))/\(∀i,i<r-> ∀j,j<p i->M i j=0)/\(∀k,k<r-> ∀i,i<k->p i<p k/\0<=M i (p k)/\M i (p k)<M k (p k))/\(∀i,i<h->r<=i-> ∀j,j<w->M i j=0))
theorem isHB_s{h w r:Nat}{M:Nat->Nat->Int}{p:Nat->Nat}(hb:isHB h w M r p=true):IsH h w M r p:=by
 obtain⟨h1,h2,h3,h4,h5⟩:=of_decide_eq_true hb
 exact⟨h1,fun i hi=>(h2 i hi).1,fun i hi=>(h2 i hi).2,h3,fun i k hi hk=>(h4 k hk i hi).1,fun i k hi hk=>(h4 k hk i hi).2,fun i hi hh=>h5 i hh hi⟩
def inl19(f:Nat):Bool:=f==75
theorem evn19{f:Nat}{ys:List V}{x:V}(h:runV Tryz.prog (fun _ _=>none) (exX Tryz.prog (fun _ _=>none) inl19 200) f ys=some x):Spec Tryz.prog f ys x:=Spec.eval (K:=fun _ _=>none) (fun _ _ _ h=>by cases h) 200 inl19 h
theorem is_s{h w:Nat}{A G:List (List Int)}{l:List OpL}(hk:Kp h w KR A l)(hh:h+w<=12)(hG:actsO A l=G):Spec Tryz.prog 44 [keptS h w A l,mat w A,mat w G] (.sc (.bool true)):=by
 subst hG
 have hkr:=kr_le
 have c1:=hk.rcheck hh
 have c2:=isame_s hk.mA om om om
 have c4:=isame_s hk.mH om om om
 have l1:=hk.mA.len
 have l2:=hk.mH.len
 unfold keptS kept mat at*
 simp only[l1,l2]at c1 c2 c4⊢
 generalize actsO A l=H at*
 generalize imR h (rI (actsO (idL h) l))=U at*
 generalize imR h (rI (actsO (idL h) (invL l)))=C at*
 generalize imR w (rI H)=F1 at*
 generalize imR w (rI A)=M1 at*
 refine qF Tryz.func44 Tryz.ntmps44 fun B hB=> ?_
 refine qW ?_
 exact qE Tryz.results44
theorem kept_op(h w:Nat)(A:List (List Int))(l:List OpL): ∃v1 v2 X1 n1 v3 v4 X2 n2 v5 v6 X3 n3 v7 v8 X4 n4 X5 n5,keptS h w A l= .ag [.sc (.int .i64 v1),.sc (.int .i64 v2),.im X1 n1,.sc (.int .i64 v3),.sc (.int .i64 v4),.im X2 n2,.sc (.int .i64 v5),.sc (.int .i64 v6),.im X3 n3,.sc (.int .i64 v7),.sc (.int .i64 v8),.im X4 n4,.im X5 n5]:=⟨_,_,_,_,_,_,_,_,_,_,_,_,_,_,_,_,_,_,rfl⟩
theorem keptZ_op: ∃v1 v2 X1 n1 v3 v4 X2 n2 v5 v6 X3 n3 v7 v8 X4 n4 X5 n5,keptZ= .ag [.sc (.int .i64 v1),.sc (.int .i64 v2),.im X1 n1,.sc (.int .i64 v3),.sc (.int .i64 v4),.im X2 n2,.sc (.int .i64 v5),.sc (.int .i64 v6),.im X3 n3,.sc (.int .i64 v7),.sc (.int .i64 v8),.im X4 n4,.im X5 n5]:=⟨_,_,_,_,_,_,_,_,_,_,_,_,_,_,_,_,_,_,rfl⟩
theorem mat_op(w:Nat)(A:List (List Int)): ∃v1 v2 X n,mat w A= .ag [.sc (.int .i64 v1),.sc (.int .i64 v2),.im X n]:=⟨_,_,_,_,rfl⟩
set_option maxRecDepth 8000 in
theorem sanity_s:Spec Tryz.prog 12 [] (.sc (.bool true)):=by
 have iM1:Spec Tryz.prog 41 [.sc (.int .i64 2),.sc (.int .i64 1),.im [.sc (.int .i64 2),.sc (.int .i64 3)] 2] (mat 1 [[2],[3]]):=evn19 (by kernel_rfl)
 have iM2:Spec Tryz.prog 41 [.sc (.int .i64 1),.sc (.int .i64 1),.im [.sc (.int .i64 6)] 1] (mat 1 [[6]]):=evn19 (by kernel_rfl)
 have iM3:Spec Tryz.prog 41 [.sc (.int .i64 2),.sc (.int .i64 1),.im [.sc (.int .i64 4),.sc (.int .i64 6)] 2] (mat 1 [[4],[6]]):=evn19 (by kernel_rfl)
 have iM4:Spec Tryz.prog 41 [.sc (.int .i64 1),.sc (.int .i64 1),.im [.sc (.int .i64 2)] 1] (mat 1 [[2]]):=evn19 (by kernel_rfl)
 have iM6:Spec Tryz.prog 41 [.sc (.int .i64 2),.sc (.int .i64 2),.im [.sc (.int .i64 2),.sc (.int .i64 0),.sc (.int .i64 1),.sc (.int .i64 1)] 4] (mat 2 [[2,0],[1,1]]):=evn19 (by kernel_rfl)
 have iM7:Spec Tryz.prog 41 [.sc (.int .i64 2),.sc (.int .i64 1),.im [.sc (.int .i64 1),.sc (.int .i64 1)] 2] (mat 1 [[1],[1]]):=evn19 (by kernel_rfl)
 have iM8:Spec Tryz.prog 41 [.sc (.int .i64 2),.sc (.int .i64 2),.im [.sc (.int .i64 1),.sc (.int .i64 2),.sc (.int .i64 1),.sc (.int .i64 5)] 4] (mat 2 [[1,2],[1,5]]):=evn19 (by kernel_rfl)
 have iG1:Spec Tryz.prog 41 [.sc (.int .i64 2),.sc (.int .i64 1),.im [.sc (.int .i64 1),.sc (.int .i64 0)] 2] (mat 1 [[1],[0]]):=evn19 (by kernel_rfl)
 have iG3:Spec Tryz.prog 41 [.sc (.int .i64 2),.sc (.int .i64 1),.im [.sc (.int .i64 2),.sc (.int .i64 0)] 2] (mat 1 [[2],[0]]):=evn19 (by kernel_rfl)
 have iG6:Spec Tryz.prog 41 [.sc (.int .i64 2),.sc (.int .i64 2),.im [.sc (.int .i64 1),.sc (.int .i64 1),.sc (.int .i64 0),.sc (.int .i64 2)] 4] (mat 2 [[1,1],[0,2]]):=evn19 (by kernel_rfl)
 have iG8:Spec Tryz.prog 41 [.sc (.int .i64 2),.sc (.int .i64 2),.im [.sc (.int .i64 1),.sc (.int .i64 2),.sc (.int .i64 0),.sc (.int .i64 3)] 4] (mat 2 [[1,2],[0,3]]):=evn19 (by kernel_rfl)
 have r4:Spec Tryz.prog 42 [.im [.sc (.int .i64 4)] 1] (.im (ivR [4]) 1):=evn19 (by kernel_rfl)
 have r11:Spec Tryz.prog 42 [.im [.sc (.int .i64 1),.sc (.int .i64 1)] 2] (.im (ivR [1,1]) 2):=evn19 (by kernel_rfl)
 have r10:Spec Tryz.prog 42 [.im [.sc (.int .i64 1),.sc (.int .i64 0)] 2] (.im (ivR [1,0]) 2):=evn19 (by kernel_rfl)
 have r25:Spec Tryz.prog 42 [.im [.sc (.int .i64 2),.sc (.int .i64 5)] 2] (.im (ivR [2,5]) 2):=evn19 (by kernel_rfl)
 have r45:Spec Tryz.prog 42 [.im [.sc (.int .i64 4),.sc (.int .i64 5)] 2] (.im (ivR [4,5]) 2):=evn19 (by kernel_rfl)
 have r1:Spec Tryz.prog 42 [.im [.sc (.int .i64 1)] 1] (.im (ivR [1]) 1):=evn19 (by kernel_rfl)
 have r0:Spec Tryz.prog 42 [.im [] 0] (.im (ivR []) 0):=evn19 (by kernel_rfl)
 have iI:Spec Tryz.prog 43 [.sc (.int .i64 2)] (mat 2 (idL 2)):=rident_s 2 om
 obtain⟨l1,k1⟩:=kp_ex (N:=511) (h:=2) (w:=1) (A:=[[2],[3]]) (bmB_s (by decide)) om om
 obtain⟨l2,k2⟩:=kp_ex (N:=511) (h:=1) (w:=1) (A:=[[6]]) (bmB_s (by decide)) om om
 obtain⟨l3,k3⟩:=kp_ex (N:=511) (h:=2) (w:=1) (A:=[[4],[6]]) (bmB_s (by decide)) om om
 obtain⟨l4,k4⟩:=kp_ex (N:=511) (h:=1) (w:=1) (A:=[[2]]) (bmB_s (by decide)) om om
 obtain⟨l5,k5⟩:=kp_ex (N:=511) (h:=2) (w:=2) (A:=(idL 2)) (bmB_s (by decide)) om om
 obtain⟨l6,k6⟩:=kp_ex (N:=511) (h:=2) (w:=2) (A:=[[2,0],[1,1]]) (bmB_s (by decide)) om om
 obtain⟨l7,k7⟩:=kp_ex (N:=511) (h:=2) (w:=1) (A:=[[1],[1]]) (bmB_s (by decide)) om om
 obtain⟨l8,k8⟩:=kp_ex (N:=511) (h:=2) (w:=2) (A:=[[1,2],[1,5]]) (bmB_s (by decide)) om om
 have s1:=start_ok k1 om
 have s2:=start_ok k2 om
 have s5:=start_ok k5 om
 have s7:=start_ok k7 om
 have q1:=is_s k1 om (k1.eq (G:=[[1],[0]]) (U:=[[-1,1],[3,-2]]) (V:=[[2,0],[3,0]]) (r:=1) (p:=fun i=>i) om (((bmB_s (N:=511) (by decide)).mi om).mono (show 1<=KR by unfold KR;omega)) (isHB_s (by decide)) (by decide) (by decide))
 have q3:=is_s k3 om (k3.eq (G:=[[2],[0]]) (U:=[[-1,1],[3,-2]]) (V:=[[2,0],[3,0]]) (r:=1) (p:=fun i=>i) om (((bmB_s (N:=511) (by decide)).mi om).mono (show 1<=KR by unfold KR;omega)) (isHB_s (by decide)) (by decide) (by decide))
 have q4:=is_s k4 om (k4.eq (G:=[[2]]) (U:=[[1]]) (V:=[[1]]) (r:=1) (p:=fun i=>i) om (((bmB_s (N:=511) (by decide)).mi om).mono (show 1<=KR by unfold KR;omega)) (isHB_s (by decide)) (by decide) (by decide))
 have q6:=is_s k6 om (k6.eq (G:=[[1,1],[0,2]]) (U:=[[0,1],[-1,2]]) (V:=[[2,-1],[1,0]]) (r:=2) (p:=fun i=>i) om (((bmB_s (N:=511) (by decide)).mi om).mono (show 1<=KR by unfold KR;omega)) (isHB_s (by decide)) (by decide) (by decide))
 have q8:=is_s k8 om (k8.eq (G:=[[1,2],[0,3]]) (U:=[[1,0],[-1,1]]) (V:=[[1,0],[1,1]]) (r:=2) (p:=fun i=>i) om (((bmB_s (N:=511) (by decide)).mi om).mono (show 1<=KR by unfold KR;omega)) (isHB_s (by decide)) (by decide) (by decide))
 have cA:Spec Tryz.prog 19 [keptS 1 1 [[6]] l2,.sc (.int .i64 0),.im (ivR [4]) 1] (.tu [keptS 2 1 [[4],[6]] l3,.sc (.int .i64 0)]):=ins_ok (i:=0) (v:=[4]) k2 k3 om om rfl
 have cB:Spec Tryz.prog 22 [keptS 2 1 [[2],[3]] l1,.sc (.int .i64 1)] (.tu [keptS 1 1 [[2]] l4,.sc (.int .i64 0)]):=del_ok (i:=1) k1 k4 om om
 have cC:Spec Tryz.prog 24 [keptS 2 2 (idL 2) l5,.im (ivR [1,1]) 2,.im (ivR [1,0]) 2] (.tu [keptS 2 2 [[2,0],[1,1]] l6,.sc (.int .i64 0)]):=rai_ok (u:=[1,1]) (v:=[1,0]) k5 k6 om rfl rfl (by decide) (by decide)
 have cD:Spec Tryz.prog 26 [keptS 2 1 [[1],[1]] l7,.im (ivR [2,5]) 2] (.tu [keptS 2 2 [[1,2],[1,5]] l8,.sc (.int .i64 0)]):=col_ok (v:=[2,5]) k7 k8 om rfl
 have cE:Spec Tryz.prog 19 [keptS 1 1 [[6]] l2,.sc (.int .i64 2),.im (ivR [4]) 1] (.tu [keptZ,.sc (.int .i64 1)]):=ins_no (v:=[4]) k2 om (by decide) (by decide) (by decide)
 have cF:Spec Tryz.prog 19 [keptS 1 1 [[6]] l2,.sc (.int .i64 0),.im (ivR [4,5]) 2] (.tu [keptZ,.sc (.int .i64 50)]):=ins_no (v:=[4,5]) k2 om (by decide) (by decide) (by decide)
 have cG:Spec Tryz.prog 22 [keptS 1 1 [[6]] l2,.sc (.int .i64 1)] (.tu [keptZ,.sc (.int .i64 1)]):=del_no k2 om (by decide)
 have cH:Spec Tryz.prog 24 [keptS 1 1 [[6]] l2,.im (ivR [1,1]) 2,.im (ivR [1]) 1] (.tu [keptZ,.sc (.int .i64 50)]):=rai_no (u:=[1,1]) (v:=[1]) k2 om (by decide) (by decide) (by decide) (by decide) (by decide)
 have cI:Spec Tryz.prog 26 [keptS 1 1 [[6]] l2,.im (ivR []) 0] (.tu [keptZ,.sc (.int .i64 50)]):=col_no (v:=[]) k2 om (by decide) (by decide)
 have cK:=k1.pcheck om
 obtain⟨a1,a2,X,n,hm,hz⟩: ∃v1 v2 X n,mat 1 [[2],[3]]= .ag [.sc (.int .i64 v1),.sc (.int .i64 v2),.im X n]/\Spec Tryz.prog 16 [.ag [.sc (.int .i64 v1),.sc (.int .i64 v2),.im X n,.sc (.int .i64 0),.sc (.int .i64 0),.im [] 0,.sc (.int .i64 0),.sc (.int .i64 0),.im [] 0,.sc (.int .i64 0),.sc (.int .i64 0),.im [] 0,.im [] 0]] (.sc (.bool false)):=⟨_,_,_,_,rfl,evn19 (by kernel_rfl)⟩
 clear k1 k2 k3 k4 k5 k6 k7 k8
 obtain⟨k1v0,k1v1,k1v2,k1v3,k1v4,k1v5,k1v6,k1v7,k1v8,k1v9,k1v10,k1v11,k1v12,k1v13,k1v14,k1v15,k1v16,k1v17,e1⟩:=kept_op 2 1 [[2],[3]] l1
 obtain⟨k2v0,k2v1,k2v2,k2v3,k2v4,k2v5,k2v6,k2v7,k2v8,k2v9,k2v10,k2v11,k2v12,k2v13,k2v14,k2v15,k2v16,k2v17,e2⟩:=kept_op 1 1 [[6]] l2
 obtain⟨k3v0,k3v1,k3v2,k3v3,k3v4,k3v5,k3v6,k3v7,k3v8,k3v9,k3v10,k3v11,k3v12,k3v13,k3v14,k3v15,k3v16,k3v17,e3⟩:=kept_op 2 1 [[4],[6]] l3
 obtain⟨k4v0,k4v1,k4v2,k4v3,k4v4,k4v5,k4v6,k4v7,k4v8,k4v9,k4v10,k4v11,k4v12,k4v13,k4v14,k4v15,k4v16,k4v17,e4⟩:=kept_op 1 1 [[2]] l4
 obtain⟨k5v0,k5v1,k5v2,k5v3,k5v4,k5v5,k5v6,k5v7,k5v8,k5v9,k5v10,k5v11,k5v12,k5v13,k5v14,k5v15,k5v16,k5v17,e5⟩:=kept_op 2 2 (idL 2) l5
 obtain⟨k6v0,k6v1,k6v2,k6v3,k6v4,k6v5,k6v6,k6v7,k6v8,k6v9,k6v10,k6v11,k6v12,k6v13,k6v14,k6v15,k6v16,k6v17,e6⟩:=kept_op 2 2 [[2,0],[1,1]] l6
 obtain⟨k7v0,k7v1,k7v2,k7v3,k7v4,k7v5,k7v6,k7v7,k7v8,k7v9,k7v10,k7v11,k7v12,k7v13,k7v14,k7v15,k7v16,k7v17,e7⟩:=kept_op 2 1 [[1],[1]] l7
 obtain⟨k8v0,k8v1,k8v2,k8v3,k8v4,k8v5,k8v6,k8v7,k8v8,k8v9,k8v10,k8v11,k8v12,k8v13,k8v14,k8v15,k8v16,k8v17,e8⟩:=kept_op 2 2 [[1,2],[1,5]] l8
 obtain⟨z0,z1,z2,z3,z4,z5,z6,z7,z8,z9,z10,z11,z12,z13,z14,z15,z16,z17,eZ⟩:=keptZ_op
 simp only[e1,e2,e3,e4,e5,e6,e7,e8,eZ]at cA cB cC cD cE cF cG cH cI cK s1 s2 s5 s7 q1 q3 q4 q6 q8
 clear e1 e2 e3 e4 e5 e6 e7 e8 eZ
 simp only[hm]at iM1 s1 q1
 obtain⟨M21,M22,M23,M24,eM2⟩:=mat_op 1 [[6]]
 obtain⟨M31,M32,M33,M34,eM3⟩:=mat_op 1 [[4],[6]]
 obtain⟨M41,M42,M43,M44,eM4⟩:=mat_op 1 [[2]]
 obtain⟨M61,M62,M63,M64,eM6⟩:=mat_op 2 [[2,0],[1,1]]
 obtain⟨M71,M72,M73,M74,eM7⟩:=mat_op 1 [[1],[1]]
 obtain⟨M81,M82,M83,M84,eM8⟩:=mat_op 2 [[1,2],[1,5]]
 obtain⟨G11,G12,G13,G14,eG1⟩:=mat_op 1 [[1],[0]]
 obtain⟨G31,G32,G33,G34,eG3⟩:=mat_op 1 [[2],[0]]
 obtain⟨G61,G62,G63,G64,eG6⟩:=mat_op 2 [[1,1],[0,2]]
 obtain⟨G81,G82,G83,G84,eG8⟩:=mat_op 2 [[1,2],[0,3]]
 obtain⟨I1,I2,I3,I4,eI⟩:=mat_op 2 (idL 2)
 simp only[eM2,eM3,eM4,eM6,eM7,eM8,eG1,eG3,eG6,eG8,eI]at iM2 iM3 iM4 iM6 iM7 iM8 iG1 iG3 iG6 iG8 iI s2 s5 s7 q1 q3 q4 q6 q8
 clear hm eI eM2 eM3 eM4 eM6 eM7 eM8 eG1 eG3 eG6 eG8
 generalize ivR [4]=w4 at*
 generalize ivR [1,1]=w11 at*
 generalize ivR [1,0]=w10 at*
 generalize ivR [2,5]=w25 at*
 generalize ivR [4,5]=w45 at*
 generalize ivR [1]=w1 at*
 generalize ivR []=w0 at*
 refine qF Tryz.func12 Tryz.ntmps12 fun B hB=> ?_
 refine qW ?_
 exact qE Tryz.results12
end
section
open Go.ChangeShapes Go.WideShapes Go.ChangeAt Go.RowKit
theorem i8s_rep{y:List V}(h:(Shp.slc (.int .i8)).Rep y): ∃l:List Int,y=[.im (bv8 l) l.length]/\(∀x∈l,-128<=x/\x<=127)/\l.length<=9223372036854775807:=by
 obtain⟨yss,hl,rfl,hr⟩:=h
 obtain⟨l,h1,h2,h3⟩:=reps_ints hr
 unfold maxLen at hl
 refine⟨l,?_,fun x hx=>i8_wf x (h3 x hx),by omega⟩
 rw[h1,h2];rfl
theorem i8s_val{x:V}(h:(Shp.slc (.int .i8)).Val x): ∃l:List Int,x= .im (bv8 l) l.length/\(∀x∈l,-128<=x/\x<=127)/\l.length<=9223372036854775807:=by
 obtain⟨yss,hl,rfl,hr⟩:=h
 obtain⟨l,h1,h2,h3⟩:=reps_ints hr
 unfold maxLen at hl
 refine⟨l,?_,fun x hx=>i8_wf x (h3 x hx),by omega⟩
 rw[h1,h2];rfl
theorem filL_bm{h w:Nat}{l:List Int}(hb: ∀x∈l,-128<=x/\x<=127):Bm 9 h w (filL h w l):=by
 refine⟨⟨mkM_len,fun r hr=>by unfold filL;rw[mkM_get hr];exact mkR_len⟩,fun q t hq=> ?_⟩
 unfold ent2 filL
 rw[mkM_get hq]
 by_cases ht:t<w
 ·rw[mkR_get ht]
  have:=dgt_small (k:=q*w+t) hb
  omega
 ·rw[List.getD_eq_getElem?_getD,List.getElem?_eq_none (by rw[mkR_len];omega)]
  exact znc _
section
variable {h w:Nat} {A:List (List Int)} {l:List OpL}
theorem outcome_s(hk:Kp h w KR A l)(hh:h+w<=12)(hA:Bm 511 h w A):Spec Tryz.prog 21 [keptS h w A l,.sc (.int .i64 0),mat w A] (.sc (.bool true)):=by
 have c1:=hk.keeps hh hA
 have c2:=hk.pcheck hh
 obtain⟨v0,v1,v2,v3,v4,v5,v6,v7,v8,v9,v10,v11,v12,v13,v14,v15,v16,v17,e1⟩:=kept_op h w A l
 obtain⟨u1,u2,u3,u4,e2⟩:=mat_op w A
 simp only[e1,e2]at c1 c2⊢
 clear e1 e2
 refine qF Tryz.func21 Tryz.ntmps21 fun B hB=> ?_
 refine qW ?_
 exact qE Tryz.results21
theorem keptZ_eq:keptZ= .ag [.sc (.int .i64 0),.sc (.int .i64 0),.im [] 0,.sc (.int .i64 0),.sc (.int .i64 0),.im [] 0,.sc (.int .i64 0),.sc (.int .i64 0),.im [] 0,.sc (.int .i64 0),.sc (.int .i64 0),.im [] 0,.im [] 0]:=rfl
theorem matZ_eq:mat 0 []= .ag [.sc (.int .i64 0),.sc (.int .i64 0),.im [] 0]:=rfl
end
end
section
open Go.ChangeShapes Go.WideShapes Go.ChangeAt Go.RowKit
structure Chg where
 k:Nat
 i:Int
 u:List Int
 v:List Int
def chC(x:Chg):List V:=[.sc (.int .u8 x.k),.sc (.int .i8 x.i),.im (bv8 x.u) x.u.length,.im (bv8 x.v) x.v.length]
structure ChOk(x:Chg):Prop where
 k:x.k<256
 i: -128<=x.i/\x.i<=127
 u: ∀y∈x.u,-128<=y/\y<=127
 v: ∀y∈x.v,-128<=y/\y<=127
 ul:x.u.length<=9223372036854775807
 vl:x.v.length<=9223372036854775807
def ChQ(N h w:Nat)(A:List (List Int))(l:List OpL)(x:Chg):Prop:=
 (∃h1 w1 A1 l1,h1<=h+1/\w1<=w+1/\h1+w1<=h+w+1/\Kp h1 w1 KR A1 l1/\Bm (N+81) h1 w1 A1/\Spec Tryz.prog 28 [mat w A,.ag (chC x)] (.tu [mat w1 A1,.sc (.int .i64 0)])/\Spec Tryz.prog 29 [keptS h w A l,mat w A,.ag (chC x)] (.tu [keptS h1 w1 A1 l1,.sc (.int .i64 0)]))\/
 (Spec Tryz.prog 28 [mat w A,.ag (chC x)] (.tu [mat 0 [],.sc (.int .i64 1)])/\Spec Tryz.prog 29 [keptS h w A l,mat w A,.ag (chC x)] (.tu [keptZ,.sc (.int .i64 1)]))
section
variable {N h w:Nat} {A:List (List Int)} {l:List OpL} {x:Chg}
set_option maxRecDepth 8000 in
theorem chIns(hA:Bm N h w A)(hN:N<=430/\9<=N)(hk:Kp h w KR A l)(hh:h+w<=11)(hw:w<=8/\h<=8)(hx:ChOk x)(hc:x.k % 4=0):ChQ N h w A l x:=by
 obtain⟨k,i,u,v⟩:=x
 obtain⟨h1,h2,h3,h4,h5,h6⟩:=hx
 simp only at*
 have qk:(k:Int) % 4=0:=by omega
 obtain⟨m,hm⟩: ∃m,m=(i % 256).toNat:=⟨_,rfl⟩
 have wu:IntKind.u8.wrap i=(m:Nat):=(IntKind.wrap_u8 i).trans om
 have ww:IntKind.i64.wrap (m:Int)=m:=IntWalk.i64_in _ om
 have r1:=row_s (n:=w) h4 h6
 rw[Nat.min_eq_left hw.1]at r1
 have hrl:=rowD_len v w
 have hrs:=rowD_small (n:=w) h4
 obtain⟨j,hj⟩: ∃j:Nat,j=m % (h+1):=⟨_,rfl⟩
 have wj:(m:Int) % ((h:Int)+1)=(j:Int):=by rw[hj];push_cast;rfl
 have hjh:j<=h:=by have:=Nat.mod_lt m (show 0<h+1 by omega);omega
 have hB:=hA.ins hjh hrl (fun y hy=>Nat.le_trans (hrs y hy) hN.2)
 obtain⟨l1,hk1⟩:=kp_ex hB om om
 refine .inl ⟨h+1,w,insI A j (rowD v w),l1,by omega,by omega,by omega,hk1,hB.mono om,?_,?_⟩
 ·have c2:=rinserted_s (v:=rowD v w) (e:=0) (hA.mi om) om om om j (by rw[if_neg om,if_pos hrl])
  rw[if_pos rfl,hrl,Int.toNat_natCast]at c2
  have hl:=hA.sh.len
  unfold chC mat at*
  simp only at*
  rw[hl]at c2⊢
  generalize(insI A j (rowD v w)).length=nB at*
  generalize imR w (rI (insI A j (rowD v w)))=IB at*
  generalize ivR (rowD v w)=R at*
  refine qF Tryz.func28 Tryz.ntmps28 fun B hB=> ?_
  refine qWf (Q4 @qk @wu @ww @wj) ?_
  exact qE Tryz.results28
 ·have c3:=ins_ok hk hk1 om hjh hrl
  have hl:=hA.sh.len
  obtain⟨a0,a1,a2,a3,a4,a5,a6,a7,a8,a9,a10,a11,a12,a13,a14,a15,a16,a17,e1⟩:=kept_op h w A l
  obtain⟨b0,b1,b2,b3,b4,b5,b6,b7,b8,b9,b10,b11,b12,b13,b14,b15,b16,b17,e2⟩:=kept_op (h+1) w (insI A j (rowD v w)) l1
  simp only[e1,e2]at c3⊢
  clear e1 e2
  unfold chC mat at*
  simp only at*
  rw[hl]
  generalize ivR (rowD v w)=R at*
  refine qF Tryz.func29 Tryz.ntmps29 fun B hB=> ?_
  refine qWf (Q4 @qk @wu @ww @wj) ?_
  exact qE Tryz.results29
set_option maxRecDepth 8000 in
theorem chDel(hA:Bm N h w A)(hN:N<=430/\9<=N)(hk:Kp h w KR A l)(hh:h+w<=11)(hw:w<=8/\h<=8)(hx:ChOk x)(hc:x.k % 4=1):ChQ N h w A l x:=by
 obtain⟨k,i,u,v⟩:=x
 obtain⟨h1,h2,h3,h4,h5,h6⟩:=hx
 simp only at*
 have qk:(k:Int) % 4=1:=by omega
 obtain⟨m,hm⟩: ∃m,m=(i % 256).toNat:=⟨_,rfl⟩
 have wu:IntKind.u8.wrap i=(m:Nat):=(IntKind.wrap_u8 i).trans om
 have ww:IntKind.i64.wrap (m:Int)=m:=IntWalk.i64_in _ om
 obtain⟨M,hM⟩: ∃M:Nat,M=max h 1:=⟨_,rfl⟩
 have wx:max (h:Int) 1=(M:Int):=by omega
 obtain⟨j,hj⟩: ∃j:Nat,j=m % M:=⟨_,rfl⟩
 have wj:(m:Int) % (M:Int)=(j:Int):=by rw[hj];push_cast;rfl
 have hjh:j<M:=by rw[hj];exact Nat.mod_lt m om
 have wM:(M:Int)≠0:=by omega
 by_cases h0:h=0
 ·have w1:(m:Int) % 1=(j:Int):=by omega
  refine .inr ⟨?_,?_⟩
  ·have c2:=rdeleted_s (hA.mi om) om (j:Int)
   rw[if_pos om,if_pos om]at c2
   rw[matZ_eq]at c2⊢
   have hl:=hA.sh.len
   unfold chC mat at*
   simp only at*
   rw[hl]at c2⊢
   refine qF Tryz.func28 Tryz.ntmps28 fun B hB=> ?_
   refine qWf (Q7 @qk @wu @ww @wx @wj @wM @w1) ?_
   exact qE Tryz.results28
  ·have c3:=del_no (i:=j) hk om om
   have hl:=hA.sh.len
   obtain⟨a0,a1,a2,a3,a4,a5,a6,a7,a8,a9,a10,a11,a12,a13,a14,a15,a16,a17,e1⟩:=kept_op h w A l
   simp only[e1,keptZ_eq]at c3⊢
   clear e1
   unfold chC mat at*
   simp only at*
   rw[hl]
   refine qF Tryz.func29 Tryz.ntmps29 fun B hB=> ?_
   refine qWf (Q7 @qk @wu @ww @wx @wj @wM @w1) ?_
   exact qE Tryz.results29
 ·have hjh:j<h:=by omega
  have eM:M=h:=by omega
  have w1:(m:Int) % (h:Int)=(j:Int):=by rw[<-wj,eM]
  have w2:(h:Int)≠0:=by omega
  have w3:(if(h:Int)<1 then(1:Int)else(h:Int))=(h:Int):=by rw[if_neg om]
  have w4:max (h:Int) 1=(h:Int):=by omega
  have hB:=hA.del hjh
  obtain⟨l1,hk1⟩:=kp_ex hB om om
  refine .inl ⟨h-1,w,delI A j,l1,by omega,by omega,by omega,hk1,hB.mono om,?_,?_⟩
  ·have c2:=rdeleted_s (hA.mi om) om (j:Int)
   rw[if_neg om,if_neg om,Int.toNat_natCast]at c2
   have hl:=hA.sh.len
   unfold chC mat at*
   simp only at*
   rw[hl]at c2⊢
   generalize(delI A j).length=nB at*
   generalize imR w (rI (delI A j))=IB at*
   refine qF Tryz.func28 Tryz.ntmps28 fun B hB=> ?_
   refine qWf (Q7 @qk @wu @ww @w1 @w2 @w3 @w4) ?_
   exact qE Tryz.results28
  ·have c3:=del_ok hk hk1 om hjh
   have hl:=hA.sh.len
   obtain⟨a0,a1,a2,a3,a4,a5,a6,a7,a8,a9,a10,a11,a12,a13,a14,a15,a16,a17,e1⟩:=kept_op h w A l
   obtain⟨b0,b1,b2,b3,b4,b5,b6,b7,b8,b9,b10,b11,b12,b13,b14,b15,b16,b17,e2⟩:=kept_op (h-1) w (delI A j) l1
   simp only[e1,e2]at c3⊢
   clear e1 e2
   unfold chC mat at*
   simp only at*
   rw[hl]
   refine qF Tryz.func29 Tryz.ntmps29 fun B hB=> ?_
   refine qWf (Q7 @qk @wu @ww @w1 @w2 @w3 @w4) ?_
   exact qE Tryz.results29
set_option maxRecDepth 8000 in
theorem chRai(hA:Bm N h w A)(hN:N<=430/\9<=N)(hk:Kp h w KR A l)(hh:h+w<=11)(hw:w<=8/\h<=8)(hx:ChOk x)(hc:x.k % 4=2):ChQ N h w A l x:=by
 obtain⟨k,i,u,v⟩:=x
 obtain⟨h1,h2,h3,h4,h5,h6⟩:=hx
 simp only at*
 have qk:(k:Int) % 4=2:=by omega
 obtain⟨m,hm⟩: ∃m,m=(i % 256).toNat:=⟨_,rfl⟩
 have wu:IntKind.u8.wrap i=(m:Nat):=(IntKind.wrap_u8 i).trans om
 have ww:IntKind.i64.wrap (m:Int)=m:=IntWalk.i64_in _ om
 have r1:=row_s (n:=w) h4 h6
 rw[Nat.min_eq_left hw.1]at r1
 have hrl:=rowD_len v w
 have hrs:=rowD_small (n:=w) h4
 have r2:=row_s (n:=h) h3 h5
 rw[Nat.min_eq_left hw.2]at r2
 have hrlu:=rowD_len u h
 have hrsu:=rowD_small (n:=h) h3
 have hq5: ∀x∈rowD u h,x.natAbs<=511:=fun x hx=>Nat.le_trans (hrsu x hx) om
 have hr5: ∀x∈rowD v w,x.natAbs<=511:=fun x hx=>Nat.le_trans (hrs x hx) om
 have hB:=hA.rai hrsu hrs
 obtain⟨l1,hk1⟩:=kp_ex hB om om
 refine .inl ⟨h,w,raiI h w A (rowD u h) (rowD v w),l1,by omega,by omega,by omega,hk1,hB,?_,?_⟩
 ·have c2:=rraised_s (u:=rowD u h) (v:=rowD v w) (e:=0) (hA.mi om) om om om (fits_small hq5) (fits_small hr5) (by rw[if_pos ⟨hrlu,hrl⟩]) om om
  rw[if_pos rfl,hrl,hrlu]at c2
  have hl:=hA.sh.len
  unfold chC mat at*
  simp only at*
  rw[hl]at c2⊢
  generalize(raiI h w A (rowD u h) (rowD v w)).length=nB at*
  generalize imR w (rI (raiI h w A (rowD u h) (rowD v w)))=IB at*
  generalize ivR (rowD v w)=R at*
  generalize ivR (rowD u h)=Q at*
  refine qF Tryz.func28 Tryz.ntmps28 fun B hB=> ?_
  refine qWf @qk ?_
  exact qE Tryz.results28
 ·have c3:=rai_ok hk hk1 om hrlu hrl hq5 hr5
  have hl:=hA.sh.len
  obtain⟨a0,a1,a2,a3,a4,a5,a6,a7,a8,a9,a10,a11,a12,a13,a14,a15,a16,a17,e1⟩:=kept_op h w A l
  obtain⟨b0,b1,b2,b3,b4,b5,b6,b7,b8,b9,b10,b11,b12,b13,b14,b15,b16,b17,e2⟩:=kept_op h w (raiI h w A (rowD u h) (rowD v w)) l1
  simp only[e1,e2]at c3⊢
  clear e1 e2
  unfold chC mat at*
  simp only at*
  rw[hl]
  generalize ivR (rowD v w)=R at*
  generalize ivR (rowD u h)=Q at*
  refine qF Tryz.func29 Tryz.ntmps29 fun B hB=> ?_
  refine qWf @qk ?_
  exact qE Tryz.results29
set_option maxRecDepth 8000 in
theorem chCol(hA:Bm N h w A)(hN:N<=430/\9<=N)(hk:Kp h w KR A l)(hh:h+w<=11)(hw:w<=8/\h<=8)(hx:ChOk x)(hc:x.k % 4=3):ChQ N h w A l x:=by
 obtain⟨k,i,u,v⟩:=x
 obtain⟨h1,h2,h3,h4,h5,h6⟩:=hx
 simp only at*
 have qk:(k:Int) % 4=3:=by omega
 obtain⟨m,hm⟩: ∃m,m=(i % 256).toNat:=⟨_,rfl⟩
 have wu:IntKind.u8.wrap i=(m:Nat):=(IntKind.wrap_u8 i).trans om
 have ww:IntKind.i64.wrap (m:Int)=m:=IntWalk.i64_in _ om
 have r1:=row_s (n:=h) h4 h6
 rw[Nat.min_eq_left hw.2]at r1
 have hrl:=rowD_len v h
 have hrs:=rowD_small (n:=h) h4
 have hB:=hA.wid (v:=rowD v h) (fun y hy=>Nat.le_trans (hrs y hy) hN.2)
 obtain⟨l1,hk1⟩:=kp_ex hB om om
 refine .inl ⟨h,w+1,widI A (rowD v h),l1,by omega,by omega,by omega,hk1,hB.mono om,?_,?_⟩
 ·have c2:=rwidened_s (v:=rowD v h) (e:=0) (hA.mi om) om om om (by rw[if_pos hrl])
  rw[if_pos rfl,hrl]at c2
  have hl:=hA.sh.len
  unfold chC mat at*
  simp only at*
  rw[hl]at c2⊢
  generalize(widI A (rowD v h)).length=nB at*
  generalize imR (w+1) (rI (widI A (rowD v h)))=IB at*
  generalize ivR (rowD v h)=R at*
  refine qF Tryz.func28 Tryz.ntmps28 fun B hB=> ?_
  refine qWf @qk ?_
  exact qE Tryz.results28
 ·have c3:=col_ok hk hk1 om hrl
  have hl:=hA.sh.len
  obtain⟨a0,a1,a2,a3,a4,a5,a6,a7,a8,a9,a10,a11,a12,a13,a14,a15,a16,a17,e1⟩:=kept_op h w A l
  obtain⟨b0,b1,b2,b3,b4,b5,b6,b7,b8,b9,b10,b11,b12,b13,b14,b15,b16,b17,e2⟩:=kept_op h (w+1) (widI A (rowD v h)) l1
  simp only[e1,e2]at c3⊢
  clear e1 e2
  unfold chC mat at*
  simp only at*
  rw[hl]
  generalize ivR (rowD v h)=R at*
  refine qF Tryz.func29 Tryz.ntmps29 fun B hB=> ?_
  refine qWf @qk ?_
  exact qE Tryz.results29
theorem change_ex(hA:Bm N h w A)(hN:N<=430/\9<=N)(hk:Kp h w KR A l)(hh:h+w<=11)(hw:w<=8/\h<=8)(hx:ChOk x):ChQ N h w A l x:=by
 rcases(by omega:x.k % 4=0\/x.k % 4=1\/x.k % 4=2\/x.k % 4=3)with h|h|h|h
 ·exact chIns hA hN hk hh hw hx h
 ·exact chDel hA hN hk hh hw hx h
 ·exact chRai hA hN hk hh hw hx h
 ·exact chCol hA hN hk hh hw hx h
end
end
section
open Go.ChangeShapes Go.WideShapes Go.ChangeAt Go.RowKit
def chs:List Chg->List V
 |[]=>[]
 |x::r=>chC x++chs r
def ch0:Chg:=⟨0,0,[],[]⟩
theorem chs_len: ∀l:List Chg,(chs l).length=4*l.length
 |[]=>rfl
 |x::r=>by
  rw[chs,zl1,chs_len r]
  show 4+4*r.length=4*(r.length+1)
  omega
theorem chs_drop: ∀{l:List Chg} {i:Nat},i<l.length->(chs l).drop (i*4)=chC (l.getD i ch0)++(chs l).drop ((i+1)*4)
 |x::r,0,_=>by
  rw[chs,Nat.zero_mul,zl2]
  show chC x++chs r=chC x++(chC x++chs r).drop 4
  rfl
 | x::r,i+1,h=>by
  have ih:=chs_drop (l:=r) (i:=i) (by simpa using h)
  have e: ∀k,(chs (x::r)).drop ((k+1)*4)=(chs r).drop (k*4):=fun k=>by
   rw[chs,show(k+1)*4=(chC x).length+k*4 by show _=4+_;omega,List.drop_append];simp
  rw[e i,e (i+1),ih];rfl
def kC:V->List V
 | .ag cs=>cs
 |_=>[]
theorem chg_rep{y:List V}(h:(Shp.st [.int .u8,.int .i8,.slc (.int .i8),.slc (.int .i8)]).Rep y): ∃x:Chg,y=chC x/\ChOk x:=by
 obtain⟨a1,b1,rfl,⟨n1,rfl,w1⟩,a2,b2,rfl,⟨n2,rfl,w2⟩,a3,b3,rfl,h3,a4,b4,rfl,h4,rfl⟩:=h
 obtain⟨m1,rfl,g1⟩:=wf_nat u8_wf w1
 obtain⟨u,rfl,hu,hul⟩:=i8s_rep h3
 obtain⟨v,rfl,hv,hvl⟩:=i8s_rep h4
 exact⟨⟨m1,n2,u,v⟩,rfl,by show m1<_;omega,i8_wf _ w2,hu,hv,hul,hvl⟩
theorem chg_val{x:V}(h:(Shp.st [.int .u8,.int .i8,.slc (.int .i8),.slc (.int .i8)]).Val x): ∃y:Chg,x= .ag (chC y)/\ChOk y:=by
 obtain⟨ys,rfl,hr⟩:=h
 obtain⟨y,rfl,hy⟩:=chg_rep hr
 exact⟨y,rfl,hy⟩
theorem chgs_rep: ∀{yss:List (List V)},(∀z∈yss,(Shp.st [.int .u8,.int .i8,.slc (.int .i8),.slc (.int .i8)]).Rep z)-> ∃l:List Chg,yss.flatten=chs l/\l.length=yss.length/\ ∀x∈l,ChOk x
 |[],_=>⟨[],rfl,rfl,fun o ho=>by cases ho⟩
 |y::r,h=>by
  obtain⟨x,rfl,hx⟩:=chg_rep (h y (by simp))
  obtain⟨l,e1,e2,e3⟩:=chgs_rep (yss:=r) fun z hz=>h z (by simp[hz])
  refine⟨x::l,by rw[List.flatten_cons,e1];rfl,by simp[e2],fun z hz=> ?_⟩
  rcases List.mem_cons.1 hz with rfl|hz
  ·exact hx
  ·exact e3 z hz
theorem chgs_val{x:V}(h:(Shp.slc (.st [.int .u8,.int .i8,.slc (.int .i8),.slc (.int .i8)])).Val x): ∃l:List Chg,x= .im (chs l) l.length/\l.length<=9223372036854775807/\ ∀x∈l,ChOk x:=by
 obtain⟨yss,hl,rfl,hr⟩:=h
 obtain⟨l,h1,h2,h3⟩:=chgs_rep hr
 unfold maxLen at hl
 exact⟨l,by rw[h1,h2],by omega,h3⟩
end
section
open Go.RowKit
theorem del_ins{A:List (List Int)}{i:Nat}{v:List Int}(hi:i<=A.length):delI (insI A i v) i=A:=by
 unfold delI insI
 have h1:(A.take i).length=i:=by rw[List.length_take];omega
 rw[List.take_append_of_le_length om,zla om,List.drop_append]
 rw[List.drop_of_length_le om,h1,show i+1-i=0+1 by omega,zl9,zl2,zl7,List.take_append_drop]
theorem ins_last{A:List (List Int)}{h:Nat}{v:List Int}(hl:A.length=h):insI A h v=A++ [v]:=by
 unfold insI
 rw[zla om,List.drop_of_length_le om]
theorem ins_turn{A:List (List Int)}{h i:Nat}{u v:List Int}(hl:A.length=h)(hi:i<=h):insI (insI A h v) i u=insI (insI A i u) (h+1) v:=by
 have h2:(insI A i u).length=h+1:=by unfold insI;simp;omega
 rw[ins_last hl,ins_last h2]
 unfold insI
 rw[List.take_append_of_le_length om,List.drop_append_of_le_length om,zl6,zl8]
def negL(u:List Int):List Int:=u.map fun x=> -x
theorem negL_len(u:List Int):(negL u).length=u.length:=by unfold negL;rw[List.length_map]
theorem negL_small{N:Nat}{u:List Int}(hu: ∀x∈u,x.natAbs<=N): ∀x∈negL u,x.natAbs<=N:=fun x hx=>by
 unfold negL at hx
 obtain⟨y,hy,rfl⟩:=List.mem_map.1 hx
 rw[Int.natAbs_neg];exact hu y hy
theorem negL_get{u:List Int}{r:Nat}:(negL u).getD r 0= -(u.getD r 0):=by
 unfold negL
 rw[List.getD_eq_getElem?_getD,List.getD_eq_getElem?_getD,List.getElem?_map]
 cases u[r]? <;>rfl
theorem rai_back{h w K:Nat}{A:List (List Int)}{u v:List Int}(hA:MI h w K A):raiI h w (raiI h w A u v) (negL u) v=A:=by
 rw[<-mkM_of hA]
 refine mkM_congr fun r c hr hc=> ?_
 rw[mkM_of hA,negL_get]
 have:ent2 (raiI h w A u v) r c=ent2 A r c+u.getD r 0*v.getD c 0:=by
  unfold raiI
  rw[show ent2 (mkM h w fun r c=>ent2 A r c+u.getD r 0*v.getD c 0) r c=((mkM h w fun r c=>ent2 A r c+u.getD r 0*v.getD c 0).getD r []).getD c 0 from rfl,mkM_get hr,mkR_get hc]
 rw[this,Int.neg_mul]
 show ent2 A r c+_+ -_=ent2 A r c
 omega
theorem kept_op2{h w:Nat}{A:List (List Int)}{l:List OpL}(hk:Kp h w KR A l): ∃X1 v3 v4 X2 n2 v5 v6 X3 n3 v7 v8 X4 n4 X5 n5,keptS h w A l= .ag [.sc (.int .i64 h),.sc (.int .i64 w),.im X1 h,.sc (.int .i64 v3),.sc (.int .i64 v4),.im X2 n2,.sc (.int .i64 v5),.sc (.int .i64 v6),.im X3 n3,.sc (.int .i64 v7),.sc (.int .i64 v8),.im X4 n4,.im X5 n5]/\mat w A= .ag [.sc (.int .i64 h),.sc (.int .i64 w),.im X1 h]/\mat w (actsO A l)= .ag [.sc (.int .i64 v3),.sc (.int .i64 v4),.im X2 n2]:=by
 refine⟨_,_,_,_,_,_,_,_,_,_,_,_,_,_,_,rfl,?_,?_⟩
 ·unfold mat;rw[hk.mA.len]
 ·unfold mat;rw[hk.mH.len]
theorem kept_op3{h w:Nat}{A:List (List Int)}{l:List OpL}(hk:Kp h w KR A l): ∃v1 v2 X1 n1 v3 v4 X2 n2 v5 v6 X3 n3 v7 v8 X4 n4 X5 n5,keptS h w A l= .ag [.sc (.int .i64 v1),.sc (.int .i64 v2),.im X1 n1,.sc (.int .i64 v3),.sc (.int .i64 v4),.im X2 n2,.sc (.int .i64 v5),.sc (.int .i64 v6),.im X3 n3,.sc (.int .i64 v7),.sc (.int .i64 v8),.im X4 n4,.im X5 n5]/\mat w A= .ag [.sc (.int .i64 v1),.sc (.int .i64 v2),.im X1 n1]/\mat w (actsO A l)= .ag [.sc (.int .i64 v3),.sc (.int .i64 v4),.im X2 n2]:=by
 obtain⟨X1,v3,v4,X2,n2,v5,v6,X3,n3,v7,v8,X4,n4,X5,n5,e1,e2,e3⟩:=kept_op2 hk
 exact⟨_,_,_,_,_,_,_,_,_,_,_,_,_,_,_,_,_,_,e1,e2,e3⟩
end
section
open Go.RowKit
set_option maxRecDepth 8000 in
theorem linv_s{n:Nat}{l:List OpL}(h: ∀o∈l,OkOp n o)(hl:l.length<=1000000000):Spec Tryz.prog 36 [.im (opsC l) l.length] (.im (opsC (invL l)) l.length):=by
 refine qF Tryz.func36 Tryz.ntmps36 fun B hB=> ?_
 refine qW ?_
 refine SC.loop (fun k:Nat=>⟨[(0,.im (opsC l) l.length),(3,.sl 0 0 k 5 none),(4,.sc (.int .i64 ((l.length:Int)-1-(k:Int))))],[(0,⟨80,opsC ((invL l).take k),false⟩)],1,27⟩)
  (fun k=>k<=l.length) (fun k=>l.length-k) 0 ?_ ?_ ?_
 ·refine Le.map (fun i=>i) (fun i=>i<1) hB (fun i hi=>by omega) (fun i h=>h) (fun i j _ _ e=>e) ?_ (fun i k' hk' hlt=> ?_)
  ·have e:(l.length:Int)-1-((0:Nat):Int)=(l.length:Int)-1:=by omega
   rw[e]
   exact qN
  ·simp only[hget]at hk'
   split at hk'
   ·rename_i e
    subst e
    cases hk'
    exact⟨_,rfl,rfl,rfl,fun j y hy=>by cases hy⟩
   ·cases hk'
 ·exact znc _
 ·intro k hk K hK
  have hil:=invL_len l
  have gl:=opsC_len ((invL l).take k)
  rw[List.length_take,hil,Nat.min_eq_left hk,Nat.mul_comm]at gl
  by_cases hc:k<l.length
  ·have q1:decide ((0:Int)<=(l.length:Int)-1-(k:Int))=true:=decide_eq_true om
   have hix:((l.length:Int)-1-(k:Int)).toNat=l.length-1-k:=by omega
   have g1:=opsC_drop (l:=l) (i:=l.length-1-k) om
   have g2:(l.length-1-k)*5<(opsC l).length:=by rw[opsC_len];omega
   have hok:=h _ (getD_mem (d:=⟨0,0,0,0⟩) (l:=l) (i:=l.length-1-k) om)
   have hts:=invL_take hc
   have hone:=opsC_one ((invL l).take k)
   have hnew:opsC ((invL l).take (k+1))=opsC ((invL l).take k)++opC (invO (l.getD (l.length-1-k) ⟨0,0,0,0⟩)):=by rw[hts,opsC_app];show _++(_++ [])=_;rw[List.append_nil]
   have ht:(opsC ((invL l).take k)).take (k*5)=opsC ((invL l).take k):=zla om
   have hclo:=opsC_clo ((invL l).take (k+1))
   generalize l.getD (l.length-1-k) ⟨0,0,0,0⟩=op at*
   generalize(opsC l).drop ((l.length-1-k+1)*5)=D at*
   generalize opsC ((invL l).take k)=Z at*
   generalize hZ':opsC ((invL l).take (k+1))=Z' at*
   obtain⟨kd,a,b,f⟩:=op
   have c1:=neg_i f OL hok.k (by have:=OL_le;omega)
   unfold opC invO at hnew
   unfold opC at g1
   unfold iv sv at c1
   unfold sv at hnew g1
   simp only[zl8,zl7]at g1
   simp only at hnew
   refine qWf (Q8 @q1 @hix @g1 @g2 @gl @ht @hone @reps1) ?_
   refine hK _ (k+1) ?_ om om
   simp only[hZ',hnew]
   rw[hnew]at hclo
   refine Le.ren 0 3 hB om om om ?_ ?_
   ·exact qN
   ·(repeat' (first|exact mapHp_nil|refine mapHp_cons (qSf @hclo) ?_ ?_|exact BMap.clo (by first|rfl|assumption|exact wv_clo _|exact imR_clo _ _|exact nv_clo _)|refine BMap.list ?_|exact mapL_nil|refine mapL_cons ?_ ?_|exact VMap.junk _|exact VMap.sc _|exact VMap.clo rfl|exact VMap.sl rfl om|exact VMap.cap rfl om|exact VMap.pt rfl om|exact VMap.nil_sl _ _ _|exact VMap.int (by first|rfl|omega|(dsimp only;omega))))
  ·have q1:decide ((0:Int)<=(l.length:Int)-1-(k:Int))=false:=decide_eq_false om
   have hkl:k=l.length:=by omega
   have hz:(invL l).take k=invL l:=zla om
   have hclo:=opsC_clo (invL l)
   have ht:(opsC (invL l)).take (k*5)=opsC (invL l):=by rw[<-hz];exact zla om
   rw[hz]at gl⊢
   rw[hkl]at gl ht
   refine qWf @q1 ?_
   rw[hkl]
   exact retQ_ret Tryz.results36 qS (qSf (Q3 @hclo @ht @gl)) rfl
end
end Go.Proofs.YtannldafjkjjbaaGreat
