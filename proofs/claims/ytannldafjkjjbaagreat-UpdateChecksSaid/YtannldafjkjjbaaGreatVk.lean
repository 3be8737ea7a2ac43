/- Texts joined: Im In Is Qy Kd Ke To Tp Kf Kg Kh Ij It Ir Gl. -/
import Derived.OrdersIn
import Derived.RangeFuncIn
import Derived.RangeFuncRecord
import Derived.RangeFuncLeaves
import Derived.WalkKit
import Derived.ProofKit
import Derived.OpenShut
import Derived.Carry
import Derived.Test.YtannldafjkjjbaaGreatVb
import Derived.Test.YtannldafjkjjbaaGreatVf
import Derived.Test.YtannldafjkjjbaaGreatVg
import Derived.Test.YtannldafjkjjbaaGreatVh
import Derived.Test.YtannldafjkjjbaaGreatVi
import Derived.Test.YtannldafjkjjbaaGreatVj
set_option linter.all false
set_option maxHeartbeats 16000000
open Nat renaming reduceEqDiff → zn1, reduceLT → zn2, reduceLeDiff → zn3, reduceAdd → zn4, reduceMul → zn5, reduceSub → zn6, reduceBEq → zn7, mul_one → zn8, zero_add → zn9, one_mul → zna, le_refl → znb, zero_le → znc, add_sub_cancel_left → znd, sub_eq_zero_of_le → zne, add_assoc → znf
open Int renaming reduceToNat → zi1, reducePow → zi2
open List renaming length_append → zl1, drop_zero → zl2, take_succ_cons → zl3, take_zero → zl4, getElem?_drop → zl5, append_assoc → zl6, nil_append → zl7, cons_append → zl8, drop_succ_cons → zl9, take_of_length_le → zla, getElem?_eq_getElem → zlb, getElem?_eq_some_iff → zlc, map_cons → zld, map_nil → zle, all_eq_true → zlf
namespace Go.Proofs.YtannldafjkjjbaaGreat
section
open Go.RowKit
theorem list_upto{α:Type}{a b:List α}{d:α}(hl:a.length=b.length)(h: ∀i,i<a.length->a.getD i d=b.getD i d):a=b:=by refine List.ext_getElem hl λi h1 h2=> ?_;have:=h i h1;rw[List.getD_eq_getElem?_getD,zlb h1,List.getD_eq_getElem?_getD,zlb h2]at this;exact this
theorem vsame_s{w K:Nat}{a b:List Int}(ha:a.length=w)(hb:b.length=w)(hfa: ∀x∈a,Fits K x)(hfb: ∀x∈b,Fits K x)(hK:K<=100000000000)(hw:w<=1000000):Spec Tryz.prog 56 [.im (ivR a) w,.im (ivR b) w] (.sc (.bool (decide (a=b)))):=by
 have gla:=ivR_len a;have glb:=ivR_len b;refine qF Tryz.func56 Tryz.ntmps56 λB hB=> ?_;refine qW ?_;refine SC.loop (λt:Nat=>⟨[(0,.im (ivR a) w),(1,.im (ivR b) w),(5,.sc (.int .i64 t))],[],0,27⟩) (λt=>t<=w/\ ∀i,i<t->a.getD i 0=b.getD i 0) (λt=>w-t) 0 ?_ ?_ ?_;·exact qL
 ·exact⟨znc _,λi h=>by omega⟩
 ·rintro t ⟨ht,he⟩ K3 hK3;by_cases hc2:t<w
  ·have q2:=decide_eq_true (p:=(t:Int)<(w:Int)) om;have hx:=fits_len (hfa _ (getD_mem (d:=0) (l:=a) (i:=t) om));have hy:=fits_len (hfb _ (getD_mem (d:=0) (l:=b) (i:=t) om));have c1:=same_i (a.getD t 0) (b.getD t 0) (by unfold Short;omega) (by unfold Short;omega);have gda:=ivR_drop (l:=a) (i:=t) om;have gdb:=ivR_drop (l:=b) (i:=t) om;have g2:t*2<(ivR a).length:=by omega
   have g3:t*2<(ivR b).length:=by omega
   have hne:a.getD t 0≠b.getD t 0->a≠b:=λh e=>h (by rw[e]);have hnx:a.getD t 0=b.getD t 0-> ∀i,i<t+1->a.getD i 0=b.getD i 0:=λh i hi=>by
    by_cases e:i=t;·rw[e];exact h
    ·exact he i om
   clear he;generalize(ivR a).drop ((t+1)*2)=D at*;generalize ivR a=A at*;generalize(ivR b).drop ((t+1)*2)=D2 at*;generalize ivR b=A2 at*;generalize a.getD t 0=x at*;generalize b.getD t 0=y at*;unfold iv sv at c1;unfold ivC sv at gda gdb;simp only[zl8,zl7]at gda gdb;by_cases hxy:x=y
   ·rw[decide_eq_true hxy]at c1;refine qWf (Q5 @q2 @gda @gdb @g2 @g3) ?_;refine hK3 _ (t+1) ?_ ⟨by omega,hnx hxy⟩ om;exact qL
   ·rw[decide_eq_false hxy]at c1;rw[decide_eq_false (hne hxy)];refine qWf (Q5 @q2 @gda @gdb @g2 @g3) ?_;exact qE Tryz.results56
  ·have q2:=decide_eq_false (p:=(t:Int)<(w:Int)) om;rw[decide_eq_true (list_upto (d:=0) om λi hi=>he i om)];refine qWf @q2 ?_;exact qE Tryz.results56
set_option maxRecDepth 4000 in
theorem msame_s{h w K:Nat}{M N:List (List Int)}(hM:MI h w K M)(hN:MI h w K N)(hK:K<=100000000000)(hn:h<=1000000)(hw:w<=1000000):Spec Tryz.prog 17 [mat w M,mat w N] (.sc (.bool (decide (M=N)))):=by
 have hl:=hM.len;have hl2:=hN.len;have gl:=imI_len w M;have gl2:=imI_len w N;unfold mat;rw[hl]at gl⊢;rw[hl2]at gl2⊢;refine qF Tryz.func17 Tryz.ntmps17 λB hB=> ?_;refine qWf (Q2 @gl @gl2) ?_;refine SC.loop (λi:Nat=>⟨[(2,.pt 0 0),(3,.pt 1 0),(5,.sc (.int .i64 i))],[(1,⟨28,[.sc (.int .i64 h),.sc (.int .i64 w),.im (imR w (rI N)) h],false⟩),(0,⟨28,[.sc (.int .i64 h),.sc (.int .i64 w),.im (imR w (rI M)) h],false⟩)],2,46⟩)
  (λt=>t<=h/\ ∀i,i<t->M.getD i []=N.getD i []) (λi=>h-i) 0 ?_ ?_ ?_
 ·exact qL
 ·exact⟨znc _,λi h=>by omega⟩
 ·rintro t ⟨ht,he⟩ K2 hK2;by_cases hc:t<h
  ·have q1:=decide_eq_true (p:=(t:Int)<(h:Int)) om;have g1:=imI_get (w:=w) (M:=M) (i:=t) om;have g2:=imI_get (w:=w) (M:=N) (i:=t) om;have hr:=hM.get hc;have hr2:=hN.get hc;have c1:=vsame_s hr.1 hr2.1 hr.2 hr2.2 hK hw;have hnx:M.getD t []=N.getD t []-> ∀i,i<t+1->M.getD i []=N.getD i []:=λh i hi=>by
    by_cases e:i=t;·rw[e];exact h
    ·exact he i om
   by_cases hxy:M.getD t []=N.getD t []
   ·rw[decide_eq_true hxy]at c1;refine qWf (Q6 @q1 @g1 @g2 @gl @gl2 @gD) ?_;refine hK2 _ (t+1) ?_ ⟨by omega,hnx hxy⟩ om;exact qL
   ·rw[decide_eq_false hxy]at c1;rw[decide_eq_false (λe:M=N=>hxy (by rw[e]))];refine qWf (Q6 @q1 @g1 @g2 @gl @gl2 @gD) ?_;exact qE Tryz.results17
  ·have q1:=decide_eq_false (p:=(t:Int)<(h:Int)) om;rw[decide_eq_true (list_upto (d:=[]) om λi hi=>he i om)];refine qWf @q1 ?_;exact qE Tryz.results17
end
section
open Go.RowKit
def isF(M:List (List Int))(w:Nat):Nat->Nat->Int->Bool
 |0,_,_=>true
 |k+1,i,last=>if pivI (M.getD i [])<0 then isF M w k (i+1) w
  else if pivI (M.getD i [])<=last\/ent2 M i (pivI (M.getD i [])).toNat<=0 then false
  else if∀r,r<i->0<=ent2 M r (pivI (M.getD i [])).toNat/\ent2 M r (pivI (M.getD i [])).toNat<ent2 M i (pivI (M.getD i [])).toNat then isF M w k (i+1) (pivI (M.getD i []))else false
theorem pivI_lt(r:List Int):pivI r<r.length/\ -1<=pivI r:=by unfold pivI;split<;>omega
set_option maxRecDepth 8000 in
theorem lis_s{h w K:Nat}{M:List (List Int)}(hM:MI h w K M)(hK:K<=100000000000)(hn:h<=1000000)(hw:w<=1000000):Spec Tryz.prog 37 [mat w M] (.sc (.bool (isF M w h 0 (-1)))):=by
 have hl:=hM.len;have gl:=imI_len w M;have c1:=iValid_s hM hK hn hw;obtain⟨G,hG0⟩: ∃G,isF M w h 0 (-1)=G:=⟨_,rfl⟩
 rw[hG0];unfold mat at*;rw[hl]at gl c1⊢;refine qF Tryz.func37 Tryz.ntmps37 λB hB=> ?_;refine qW ?_;refine SC.loop (λx:Nat×Int=>⟨[(1,.pt 0 0),(4,.sc (.int .i64 x.2)),(5,.sc (.int .i64 x.1))],[(0,⟨28,[.sc (.int .i64 h),.sc (.int .i64 w),.im (imR w (rI M)) h],false⟩)],1,79⟩)
  (λx=>x.1<=h/\isF M w (h-x.1) x.1 x.2=G) (λx=>h-x.1) (0,-1) ?_ ?_ ?_
 ·exact qL
 ·exact⟨znc _,hG0⟩
 ·rintro ⟨i,last⟩ ⟨hi,hG⟩ K2 hK2;simp only at hi hG⊢;by_cases hc:i<h
  ·have q1 :=decide_eq_true (p:=(i:Int)<(h:Int)) om;have g1:=imI_get (w:=w) (M:=M) (i:=i) om;have hr:=hM.get hc;have c2:=pivot_s (r:=M.getD i []) (K:=K) (λc hcw=>hr.2 _ (getD_mem (d:=0) om)) hK om;obtain⟨p1,p2⟩:=pivI_lt (M.getD i []);rw[hr.1]at c2 p1;rw[show h-i=(h-(i+1))+1 by omega,isF]at hG;by_cases h1:pivI (M.getD i [])<0
   ·rw[if_pos h1]at hG;have q2:=decide_eq_true h1;refine qWf (Q5 @q1 @g1 @gl @gD @q2) ?_;refine hK2 _ (i+1,(w:Int)) ?_ ⟨by simp only;omega,hG⟩ (by simp only;omega);exact qL
   ·rw [if_neg h1]at hG;obtain⟨p,hp⟩: ∃p:Nat,pivI (M.getD i [])=p:=⟨(pivI (M.getD i [])).toNat,(Int.toNat_of_nonneg om).symm⟩
    rw[hp]at hG c2 h1 p1;have hpw:p<w:=by omega
    rw[Int.toNat_natCast]at hG;have hx:=hM.fit hc hpw;have c3:=sign_i _ K hx om;have gd:=ivR_drop (l:=M.getD i []) (i:=p) om;have glr:=ivR_len (M.getD i []);have g2:p*2<(ivR (M.getD i [])).length:=by omega
    have hxe:ent2 M i p=(M.getD i []).getD p 0:=rfl;rw[hxe]at hG;have q2:decide ((p:Int)<0)=false:=decide_eq_false om;have hgk:=λk (hk:k<h)=>imI_get (w:=w) (M:=M) (i:=k) om;have hgc:=λk (hk:k<h)=>ivR_drop (l:=M.getD k []) (i:=p) (by rw[(hM.get hk).1];exact hpw);have hglk:=λk (hk:k<h)=>ivR_len (M.getD k []);have hlk:=λk (hk:k<h)=>(hM.get hk).1;have hfk:=λk (hk:k<h)=>hM.fit hk hpw;generalize hR:ivR (M.getD i [])=R at*;generalize hD:R.drop ((p+1)*2)=D at*;generalize hxx:(M.getD i []).getD p 0=x at*;unfold iv sv at c3;unfold ivC sv at gd;simp only[zl8,zl7]at gd;by_cases h2:(p:Int)<=last
    ·rw[if_pos (.inl h2)]at hG;subst hG;have q3:=decide_eq_true h2;refine qWf (Q8 @q1 @g1 @gl @gD @q2 @q3 @gd @g2) ?_;exact qE Tryz.results37
    ·have q3:=decide_eq_false h2;by_cases h3:x<=0
     ·rw[if_pos (.inr h3)]at hG;subst hG;have q4:decide (x.sign<=0)=true:=decide_eq_true (by rw[<-Int.not_lt]at h3⊢;intro e;exact h3 (Int.sign_pos_iff.1 e));refine qWf (Q9 @q1 @g1 @gl @gD @q2 @q3 @q4 @gd @g2) ?_;exact qE Tryz.results37
     ·rw [if_neg om]at hG;have q4:decide (x.sign<=0)=false:=decide_eq_false (by rw[Int.not_le];exact Int.sign_pos_iff.2 om);refine qWf (Q9 @q1 @g1 @gl @gD @q2 @q3 @q4 @gd @g2) ?_;refine SC.loop (λk:Nat=>⟨[(1,.pt 0 0),(4,.sc (.int .i64 last)),(5,.sc (.int .i64 i)),(6,.sc (.int .i64 p)),(7,.sc (.int .i64 k))],[(0,⟨28,[.sc (.int .i64 h),.sc (.int .i64 w),.im (imR w (rI M)) h],false⟩)],1,79⟩)
       (λk=>k<=i/\ ∀r,r<k->0<=ent2 M r p/\ent2 M r p<x) (λk=>i-k) 0 ?_ ?_ ?_
      ·exact qL
      ·exact⟨znc _,λr h=>by omega⟩
      ·rintro k ⟨hk,he⟩ K3 hK3;by_cases hck:k<i
       ·have q5:=decide_eq_true (p:=(k:Int)<(i:Int)) om;have g3:=hgk k om;have gdk:=hgc k om;have glk:=hglk k om;rw[hlk k om]at glk;have hfy:=hfk k om;have c4:=sign_i _ K hfy om;have c5:=cmp_i _ x K hfy hx om;have g4:p*2<(ivR (M.getD k [])).length:=by omega
        have hyy:ent2 M k p=(M.getD k []).getD p 0:=rfl;generalize(ivR (M.getD k [])).drop ((p+1)*2)=D2 at*;generalize ivR (M.getD k [])=R2 at*;generalize(M.getD k []).getD p 0=y at*;unfold iv sv at c4 c5;unfold ivC sv at gdk;simp only[zl8,zl7]at gdk;by_cases h4:y<0
        ·have q6:decide (y.sign<0)=true:=decide_eq_true (Int.sign_neg_iff.2 h4);rw[if_neg (λe=>by have:=(e k hck).1;omega)]at hG;subst hG;refine qWf (Q10 @q5 @g1 @g3 @gl @gD @q6 @gd @g2 @gdk @g4) ?_;exact qE Tryz.results37
        ·have q6:decide (y.sign<0)=false:=decide_eq_false (λe=>h4 (Int.sign_neg_iff.1 e));by_cases h5:y<x
         ·have q7:decide ((y-x).sign>=0)=false:=decide_eq_false (λe=>by have:=Int.sign_neg_iff.2 (show y-x<0 by omega);omega);refine qWf (Q11 @q5 @g1 @g3 @gl @gD @q6 @q7 @gd @g2 @gdk @g4) ?_;refine hK3 _ (k+1) ?_ ⟨by omega,λr hr=> ?_⟩ om;·exact qL
          ·by_cases e:r=k;·rw[e,hyy];omega
           ·exact he r om
         ·have q7:decide ((y-x).sign>=0)=true:=decide_eq_true (by have:=Int.sign_nonneg_iff.2 (show 0<=y-x by omega);omega);rw[if_neg (λe=>by have:=(e k hck).2;omega)]at hG;subst hG;refine qWf (Q11 @q5 @g1 @g3 @gl @gD @q6 @q7 @gd @g2 @gdk @g4) ?_;exact qE Tryz.results37
       ·have q5:=decide_eq_false (p:=(k:Int)<(i:Int)) om;have hki:k=i:=by omega
        rw[if_pos (λr hr=>he r om)]at hG;refine qWf @q5 ?_;refine hK2 _ (i+1,(p:Int)) ?_ ⟨by simp only;omega,hG⟩ (by simp only;omega);exact qL
  ·have q1:=decide_eq_false (p:=(i:Int)<(h:Int)) om;have hin:h-i=0:=by omega
   rw[hin,isF]at hG;subst hG;refine qWf @q1 ?_;exact qE Tryz.results37
end
section
open Go.RowKit
def herm(h w:Nat)(H U C:List (List Int)):V:= .ag [.sc (.int .i64 h),.sc (.int .i64 w),.im (imR w (rI H)) h,.sc (.int .i64 h),.sc (.int .i64 h),.im (imR h (rI U)) h,.sc (.int .i64 h),.sc (.int .i64 h),.im (imR h (rI C)) h]
def chkF(h w:Nat)(A H U C:List (List Int)):Bool:=isF H w h 0 (-1)&&(decide (mulM h h w U A=H)&&decide (mulM h h h U C=idL h))
theorem lcheck_s{h w K:Nat}{A H U C:List (List Int)}(hA:MI h w K A)(hH:MI h w K H)(hU:MI h h K U)(hC:MI h h K C)(hK:K<=40000000000)(hn:h<=1000000)(hw:w<=1000000):Spec Tryz.prog 60 [mat w A,herm h w H U C] (.sc (.bool (chkF h w A H U C))):=by
 have hP:=mul_mi hU hA hn;have hQ:=mul_mi hU hC hn;have hI:MI h h (2*K+1) (idL h):=(mk_mi (K:=1) λ_ _ _ _=>fits01).mono om;have c1:=iValid_s hA om hn hw;have c2:=lis_s hH om hn hw;have c3:=isized_s hU om hn hn;have c4:=isized_s hC om hn hn;have c5:=rprod_s hU hA om hn hn hw;have c6:=rprod_s hU hC om hn hn hn;have c7:=rident_s h hn;have c8:=msame_s hP (hH.mono om) om hn hw;have c9:=msame_s hQ hI om hn hn;have l1:=hA.len;have l2:=hH.len;have l3:=hU.len;have l4:=hC.len;have l5:=hP.len;have l6:=hQ.len;have l7:=hI.len;unfold chkF;generalize isF H w h 0 (-1)=b1 at*;generalize mulM h h w U A=P at*;generalize mulM h h h U C=Q at*;generalize idL h=I at*;generalize decide (P=H)=b2 at*;generalize decide (Q=I)=b3 at*;unfold herm mat at*;simp only[l1,l2,l3,l4,l5,l6,l7]at*;refine qF Tryz.func60 Tryz.ntmps60 λB hB=> ?_;cases b1<;>cases b2<;>cases b3
 all_goals
  refine qW ?_;exact qE Tryz.results60
end
section
open Go.RowKit
theorem pabs_i(x:Int)(K:Nat)(hx:Fits K x)(hK:K<=1000000000000):Spec Tryz.prog 137 [iv x] (iv (x.natAbs:Int)):=by have lx:=fits_len hx;have c1:=clone_l (limbsOf x.natAbs) om;have c2:=pvalue_n x.natAbs false (x.natAbs:Int) rfl om;unfold iv sv at*;refine qF Tryz.func137 Tryz.ntmps137 λB hB=> ?_;refine qW ?_;exact qE Tryz.results137
end
section
open Go.RowKit
theorem near_s(x p:Int)(K:Nat)(hx:Fits K x)(hp:Fits K p)(hK:K<=100000000000)(h0:0<p):Spec Tryz.prog 130 [iv x,iv p] (iv (nearI x p)):=by have c1:=padd_i x x K hx hx om;have c2:=padd_i (x+x) p (K+1) (hx.add hx) (hp.mono om) om;have c3:=padd_i p p K hp hp om;have c4:=pdivmod_i (x+x+p) (p+p) (K+2) (((hx.add hx).add (hp.mono om)).mono om) ((hp.add hp).mono om) om om;unfold nearI;generalize(x+x+p)/(p+p)=q at*;generalize(x+x+p) % (p+p)=m at*;generalize hs1:x+x+p=s1 at*;generalize x+x=s2 at*;generalize p+p=s3 at*;clear hx hp h0;unfold iv sv at*;refine qF Tryz.func130 Tryz.ntmps130 λB hB=> ?_;refine qW ?_;exact qE Tryz.results130
def atI:Option Nat->Int
 |some a=>a
 |none=> -1
theorem least_s{h w K r c:Nat}{M:List (List Int)}(hM:MI h w K M)(hK:K<=100000000000)(hr:r<=h)(hc:c<w)(hn:h<=1000000)(hw:w<=1000000):
  Spec Tryz.prog 129 [.im (imR w (rI M)) h,.sc (.int .i64 r),.sc (.int .i64 c)] (.tu [.sc (.int .i64 (atI (leastT M c r (h-r)))),.sc (.bool (decide (atI (leastT M c r (h-r))>=0)))]):=by
 have hl:=hM.len;have himl:=imI_len w M;refine qF Tryz.func129 Tryz.ntmps129 λB hB=> ?_;refine qW ?_;refine SC.loop (λt:Nat=>⟨[(0,.im (imR w (rI M)) h),(1,.sc (.int .i64 r)),(2,.sc (.int .i64 c)),(8,.sc (.int .i64 (atI (leastT M c r t)))),(9,.sc (.int .i64 (r+t:Nat)))],[],0,48⟩) (λt=>t<=h-r) (λt=>h-r-t) 0 ?_ ?_ ?_;·exact qL
 ·exact znc _
 ·intro t ht K2 hK2;by_cases hlt:r+t<h
  ·have q1:=decide_eq_true (p:=((r+t:Nat):Int)<(h:Int)) om;have gi:=imI_get (w:=w) (M:=M) (i:=r+t) om;have hrow:=(hM.get hlt).1;have gl:=ivR_len (M.getD (r+t) []);have gd:=ivR_drop (l:=M.getD (r+t) []) (i:=c) om;have hf:Fits K (ent2 M (r+t) c):=hM.fit hlt hc;have hx0:(M.getD (r+t) []).getD c 0=ent2 M (r+t) c:=rfl;have hst:leastT M c r (t+1)=match leastT M c r t with|none=>if ent2 M (r+t) c=0 then none else some (r+t)|some a=>if ent2 M (r+t) c≠0/\(ent2 M (r+t) c).natAbs<(ent2 M a c).natAbs then some (r+t)else some a:=rfl
   rw[hx0]at gd;have cS:=psign_i (ent2 M (r+t) c) K hf om;have cA:=pabs_i (ent2 M (r+t) c) K hf om;generalize hx:ent2 M (r+t) c=x at*;generalize(ivR (M.getD (r+t) [])).drop ((c+1)*2)=Z at*;unfold ivC sv at gd;simp only[zl8,zl7]at gd;generalize ivR (M.getD (r+t) [])=row at*;by_cases h0:x=0
   ·have hs:leastT M c r (t+1)=leastT M c r t:=by
     rw[hst];cases leastT M c r t with
     |none=>simp only;rw[if_pos h0]
     |some a=>simp only;rw[if_neg (by rintro⟨a,_⟩;exact a h0)]
    subst h0;rw[show(0:Int).sign=0 from rfl]at cS;clear cA;unfold iv sv at cS;refine qWf (Q7 @q1 @gi @gd @gl @hrow @himl @gD) ?_;refine hK2 _ (t+1) ?_ om om;rw[hs];exact qL
   ·have hsn:(x.sign==0)=false:=by rw[beq_eq_false_iff_ne];exact λh=>h0 (Int.sign_eq_zero_iff_zero.1 h)
    generalize x.sign=sx at*;cases hla:leastT M c r t with
    |none=>
     have hs:leastT M c r (t+1)=some (r+t):=by rw[hst,hla];simp only;rw[if_neg h0]
     have q2:decide (atI none<0)=true:=by decide
     clear cA;unfold iv sv at cS;refine qWf (Q9 @q1 @gi @gd @gl @hrow @himl @hsn @q2 @gD) ?_;refine hK2 _ (t+1) ?_ om om;rw[hs];have ea:atI (some (r+t))=((r+t:Nat):Int):=rfl;rw[ea];exact qL
    | some a=>
     obtain⟨a1,a2,a3,a4⟩:=least_some hla;have ha:a<h:=by omega
     have gia:=imI_get (w:=w) (M:=M) (i:=a) om;have hrowa:=(hM.get ha).1;have gla:=ivR_len (M.getD a []);have gda:=ivR_drop (l:=M.getD a []) (i:=c) om;have hfa:Fits K (ent2 M a c):=hM.fit ha hc;have hxa:(M.getD a []).getD c 0=ent2 M a c:=rfl;rw[hxa]at gda;have cB:=pabs_i (ent2 M a c) K hfa om;have cC:=pcmp_i (x.natAbs:Int) ((ent2 M a c).natAbs:Int) K (by unfold Fits at*;rwa[Int.natAbs_natCast]) (by unfold Fits at*;rwa[Int.natAbs_natCast]) om;have eA:atI (some a)=(a:Int):=rfl;have q2:decide ((a:Int)<0)=false:=decide_eq_false om;have q3:decide (((x.natAbs:Int)-((ent2 M a c).natAbs:Int)).sign<0)=decide (x.natAbs<(ent2 M a c).natAbs):=by
      rcases Nat.lt_trichotomy x.natAbs (ent2 M a c).natAbs with e|e|e;·rw[Int.sign_eq_neg_one_of_neg om,decide_eq_true e];rfl
      ·rw[decide_eq_false (show¬x.natAbs<(ent2 M a c).natAbs by omega),e,Int.sub_self];rfl
      ·rw[decide_eq_false (show¬x.natAbs<(ent2 M a c).natAbs by omega),Int.sign_eq_one_of_pos om];rfl
     rw[hla]at hst;simp only at hst;generalize(ivR (M.getD a [])).drop ((c+1)*2)=Za at*;generalize((x.natAbs:Int)-((ent2 M a c).natAbs:Int)).sign=sc at*;unfold ivC sv at gda;simp only[zl8,zl7]at gda;generalize ivR (M.getD a [])=rowa at*;by_cases hlt2:x.natAbs<(ent2 M a c).natAbs
     ·have hs:leastT M c r (t+1)=some (r+t):=by rw[hst,if_pos ⟨h0,hlt2⟩]
      rw[decide_eq_true hlt2]at q3;generalize ent2 M a c=y at*;unfold iv sv at cS cA cB cC;refine qWf (Q15 @q1 @gi @gd @gl @hrow @himl @hsn @eA @q2 @gia @gda @gla @hrowa @q3 @gD) ?_;refine hK2 _ (t+1) ?_ om om;rw[hs];have ea:atI (some (r+t))=((r+t:Nat):Int):=rfl;rw[ea];exact qL
     ·have hs:leastT M c r (t+1)=some a:=by rw[hst,if_neg (by rintro⟨_,h⟩;exact hlt2 h)]
      rw[decide_eq_false hlt2]at q3;generalize ent2 M a c=y at*;unfold iv sv at cS cA cB cC;refine qWf (Q15 @q1 @gi @gd @gl @hrow @himl @hsn @eA @q2 @gia @gda @gla @hrowa @q3 @gD) ?_;refine hK2 _ (t+1) ?_ om om;rw[hs,eA];exact qL
  ·have q1:=decide_eq_false (p:=((r+t:Nat):Int)<(h:Int)) om;have hte:t=h-r:=by omega
   subst hte;refine qWf @q1 ?_;exact qE Tryz.results129
end
section
open Go.RowKit
section
variable {h r c:Nat} {M:List (List Int)} {o o':OpL}
theorem Nx.uniq(a:Nx h r c M o)(b:Nx h r c M o'):o=o':=by
 cases a with
 |swap a1 a2=>
  cases b with
  |swap b1 b2=>rw[a1]at b1;cases b1;rfl
  |neg b1 _|low b1 _ _ _ _ _|up b1 _ _ _ _ _=>rw[a1]at b1;cases b1;exact absurd rfl a2
 |neg a1 a2=>
  cases b with
  |swap b1 b2=>rw[a1]at b1;cases b1;exact absurd rfl b2
  |neg=>rfl
  |low _ b2 _ _ _ _|up _ b2 _ _ _ _=>omega
 | @low k a1 a2 a3 a4 a5 a6=>
  cases b with
  |swap b1 b2=>rw[a1]at b1;cases b1;exact absurd rfl b2
  |neg _ b2=>omega
  | @low j _ _ b3 b4 b5 b6=>
   have:k=j:=by
    rcases Nat.lt_trichotomy k j with e|e|e;·exact absurd (b6 k a3 e) a5
    ·exact e
    ·exact absurd (a6 j b3 e) b5
   subst this;rfl
  |up _ _ b3 _ _ _=>exact absurd (b3 k a3 a4) a5
 | @up k a1 a2 a3 a4 a5 a6=>
  cases b with
  |swap b1 b2=>rw[a1]at b1;cases b1;exact absurd rfl b2
  |neg _ b2=>omega
  | @low j _ _ b3 b4 b5 b6=>exact absurd (a3 j b3 b4) b5
  | @up j _ _ b3 b4 b5 b6=>
   have:k=j:=by
    rcases Nat.lt_trichotomy k j with e|e|e;·exact absurd (b6 k e) a5
    ·exact e
    ·exact absurd (a6 j e) b5
   subst this;rfl
theorem Nx.no(a:Nx h r c M o)(b:NxNo h r c M):False:=by
 rcases b with b|⟨b1,b2,b3,b4⟩
 ·cases a with
  |swap a1 _|neg a1 _|low a1 _ _ _ _ _|up a1 _ _ _ _ _=>rw[b]at a1;cases a1
 ·cases a with
  |swap a1 a2=>rw[a1]at b1;cases b1;exact absurd rfl a2
  |neg _ a2=>omega
  |low _ _ a3 a4 a5 _=>exact a5 (b3 _ a3 a4)
  |up _ _ _ a4 a5 _=>exact a5 (b4 _ a4)
def NxAll(h r c:Nat)(M:List (List Int))(x:OpL×Bool):Prop:=(Nx h r c M x.1/\x.2=true)\/(NxNo h r c M/\x=(⟨0,0,0,0⟩,false))
theorem NxAll.uniq{x y:OpL×Bool}(a:NxAll h r c M x)(b:NxAll h r c M y):x=y:=by
 obtain⟨x1,x2⟩:=x;obtain⟨y1,y2⟩:=y;rcases a with⟨a1,a2⟩|⟨a1,a2⟩<;>rcases b with⟨b1,b2⟩|⟨b1,b2⟩;·simp only at a1 a2 b1 b2;rw[a1.uniq b1,a2,b2]
 ·exact(a1.no b1).elim
 ·exact(b1.no a1).elim
 ·rw[a2,b2]
end
def nxV(y:OpL×Bool):V:= .tu [.ag (opC y.1),.sc (.bool y.2)]
theorem near_fits{K:Nat}{x p:Int}(hx:Fits K x)(hp:Fits K p)(h0:0<p):Fits (K+2) (nearI x p):=by
 have h1:=(near_spec (x:=x) h0).2;have h2:(nearI x p).natAbs<=(nearI x p).natAbs*p.natAbs:=Nat.le_mul_of_pos_right _ om;have h3:(nearI x p).natAbs<=x.natAbs+p.natAbs:=by omega
 refine Nat.lt_of_le_of_lt h3 ?_;unfold Fits at hx hp;have e1:4294967296^K*2<=4294967296^(K+2):=by rw[Nat.pow_add];exact Nat.mul_le_mul_left _ (by decide)
 generalize 4294967296^(K+2)=A at*;omega
theorem VMap.tu{f:Nat->Nat}{D:Nat->Prop}{cs ds:List V}(hl:cs.length=ds.length)(h: ∀(i:Nat) (x y:V),cs[i]? =some x->ds[i]? =some y->VMap f D x y):VMap f D (.tu cs) (.tu ds):=by
 intro S rho A w v hx;cases hx with
 |tu h1 h2=>
  refine .tu (hl.symm.trans h1) λi y u hy hu=> ?_;have hlt:i<cs.length:=by rw[hl];exact(List.getElem?_eq_some_iff.1 hy).1
  exact h i _ y (zlb hlt) hy _ _ _ _ _ (h2 i _ u (zlb hlt) hu)
theorem VMap.op{f:Nat->Nat}{D:Nat->Prop}(o:OpL)(b:Bool):VMap f D (.tu [.ag (opC o),.sc (.bool b)]) (.tu [.ag (opC o),.sc (.bool b)]):=by
 refine VMap.tu rfl λi x y hx hy=> ?_;rw[hx]at hy;cases hy
 match i,hx with
 |0,hx=>
  cases hx;refine VMap.ag rfl λi x y hx hy=> ?_;rw[hx]at hy;cases hy;unfold opC at hx
  match i,hx with
  |0,hx|1,hx|2,hx|3,hx=>cases hx;exact VMap.sc _
  |4,hx=>cases hx;exact VMap.clo rfl
  |n+5,hx=>simp at hx
 |1,hx=>cases hx;exact VMap.sc _
 |n+2,hx=>simp at hx
theorem VMap.op0{f:Nat->Nat}{D:Nat->Prop}(kd i j:Nat)(b:Bool):VMap f D (.tu [.ag [.sc (.int .i64 kd),.sc (.int .i64 i),.sc (.int .i64 j),.sc (.bool false),.sc (.slice none 0 0)],.sc (.bool b)]) (.tu [.ag (opC ⟨kd,i,j,0⟩),.sc (.bool b)]):=by
 have e0:limbsOf (Int.natAbs 0)=[]:=limbsOf_nil.2 rfl;refine VMap.tu rfl λq x y hx hy=> ?_
 match q,hx,hy with
 |0,hx,hy=>
  cases hx;cases hy;refine VMap.ag rfl λq x y hx hy=> ?_;unfold opC sv at hy;simp only[e0]at hy
  match q,hx,hy with
  |0,hx,hy|1,hx,hy|2,hx,hy|3,hx,hy=>cases hx;cases hy;exact VMap.sc _
  |4,hx,hy=>cases hx;cases hy;exact VMap.nil_im
  |n+5,hx,_=>simp at hx
 |1,hx,hy=>cases hx;cases hy;exact VMap.sc _
 |n+2,hx,_=>simp at hx
def NextQ(w o:Nat)(ids:List Nat)(M:List (List Int))(nx:Nat)(y:OpL×Bool)(x:V)(hp':List (Nat×Blk))(nx':Nat):Prop:=
 x=nxV y/\hp'=(o,⟨41,slR 2 w ids,false⟩)::rowsH 68 ids (rI M)/\nx'=nx
set_option maxRecDepth 8000 in
theorem next_q{h w K o nx r c:Nat}{M:List (List Int)}{ids0 ids:List Nat}{y:OpL×Bool}(hM:MI h w K M)(hK:K<=50000000000)(hI:Ids o ids0 ids h nx)(hr:r<h)(hc:c<w)(hn:h<=1000000)(hw:w<=1000000)(hN:NxAll h r c M y):
  InlQ Tryz.prog 109 [.sl o 0 h 1 none,.sc (.int .i64 r),.sc (.int .i64 c)] ((o,⟨41,slR 2 w ids,false⟩)::rowsH 68 ids (rI M)) nx (NextQ w o ids M nx y):=by
 have hl:=hM.len;have hidl:=hI.len;have ho:=hI.o1;have g1:=slR_len 2 w ids;rw[hidl]at g1;have c1:=least_s hM om (Nat.le_of_lt hr) hc hn hw;have hrows: ∀C:List V,∀k,k<ids.length->hget ((nx,(⟨80,C,false⟩:Blk))::(o,⟨41,slR 2 w ids,false⟩)::rowsH 68 ids (rI M)) (ids.getD k 0)=some ⟨68,(rI M).getD k [],false⟩:=by intro C k hk;have hm:=getD_mem' hk;have:=hI.lt _ hm;simp only[hget];rw[if_neg om,if_neg (λe=>hI.o2 (by rw[<-e];exact hm))];exact rows_get hI.nod hk (by rw[rI_len];omega)
 have hfz:=λC:List V=>frz_rowsA (n:=6) (z:=2) (m:=w) (ty:=68) (ids:=ids) (rs:=rI M) om (by rw[rI_len];omega) (hrows C) (rI_rows hM);have hsl:=slR_some (z:=2) (m:=w) (ids:=ids) om;have ht:(slR 2 w ids).take h=slR 2 w ids:=zla om;have hrow: ∀k,k<h-> ∃idk,idk<nx/\idk≠o/\(slR 2 w ids)[k]? =some (.sl idk 0 w 2 none)/\hget (rowsH 68 ids (rI M)) idk=some ⟨68,ivR (M.getD k []),false⟩:=λk hk=>by have hm:=getD_mem' (ids:=ids) (k:=k) om;have gR:=rows_get (ty:=68) (rs:=rI M) (k:=k) hI.nod om (by rw[rI_len];omega);rw[rI_getD]at gR;exact⟨_,hI.lt _ hm,λe=>hI.o2 (by rw[<-e];exact hm),slR_get om,gR⟩
 have fin: ∀(B:Base),B.Old nx-> ∀(pre:List (Nat×Blk)),(∀id k,hget pre id=some k->nx<=id)-> ∀(x y':V) (nx1:Nat),VMap (λi=>i) (λi=>i<nx) y' x->Le B (vst y' (pre++(o,⟨41,slR 2 w ids,false⟩)::rowsH 68 ids (rI M)) nx1) (vst x ((o,⟨41,slR 2 w ids,false⟩)::rowsH 68 ids (rI M)) nx):=by
  intro B hB pre hpre x y' nx1 hv;refine Le.rowsDown [] pre0 ⟨nx,hB,znb _⟩ ho hI.lt (rI_clo _) (λid k hk=> ?_) (mapSl_cons rfl hv trivial);rw[hget_app];cases hp:hget pre id with
  |none=>exact hk
  |some q=>
   have h1:=hpre id q hp;have h2:=rows_lt ho hI.lt id k hk;omega
 have stp: ∀(B:Base),B.Old nx-> ∀(p1 q1:Blk) (pre:List (Nat×Blk)) (sl sl':List (Nat×V)) (nx1 nt:Nat),p1.cs.all clS=true->q1.cs.all clS=true->(∀id k,hget pre id=some k->nx+2<=id)->mapSl (λi=>i) (λi=>i<nx+2) sl sl'->
   Le B ⟨sl,pre++(nx+1,p1)::(nx,q1)::(o,⟨41,slR 2 w ids,false⟩)::rowsH 68 ids (rI M),nx1,nt⟩ ⟨sl',(nx+1,p1)::(nx,q1)::(o,⟨41,slR 2 w ids,false⟩)::rowsH 68 ids (rI M),nx+2,nt⟩:=by
  intro B hB p1 q1 pre sl sl' nx1 nt hp hq hpre hs;refine Le.rowsDown [(nx+1,p1),(nx,q1)] (pre2 hp hq) ⟨nx,hB,by omega⟩ om (λc hc=>by have:=hI.lt c hc;omega) (rI_clo _) (λid k hk=> ?_) hs;rw[hget_app];cases hp:hget pre id with
  |none=>exact hk
  |some q=>
   have h1:=hpre id q hp;have h2:=klc (show nx+1<nx+2 by omega) (klc (show nx<nx+2 by omega) (rows_lt (show o<nx+2 by omega) λc hc=>by have:=hI.lt c hc;omega)) id k hk;omega
 have hgp0: ∀(C:Blk) (id:Nat) (k:Blk),hget [(nx,C)] id=some k->nx<=id:=λC id k hk=>by simp only[hget]at hk;repeat' (first|(split at hk;first|omega|skip)|(cases hk;done))
 have hgp1: ∀(C D:Blk) (id:Nat) (k:Blk),hget [(nx+1,D),(nx,C)] id=some k->nx<=id:=λC D id k hk=>by simp only[hget]at hk;repeat' (first|(split at hk;first|omega|skip)|(cases hk;done))
 have hgp2: ∀(C D E:Blk) (id:Nat) (k:Blk),hget [(nx+2,E),(nx+1,D),(nx,C)] id=some k->nx<=id:=λC D E id k hk=>by simp only[hget]at hk;repeat' (first|(split at hk;first|omega|skip)|(cases hk;done))
 have hgp3: ∀(C D E F:Blk) (id:Nat) (k:Blk),hget [(nx+3,F),(nx+2,E),(nx+1,D),(nx,C)] id=some k->nx<=id:=λC D E F id k hk=>by simp only[hget]at hk;repeat' (first|(split at hk;first|omega|skip)|(cases hk;done))
 have hgs1: ∀(E:Blk) (id:Nat) (k:Blk),hget [(nx+2,E)] id=some k->nx+2<=id:=λE id k hk=>by simp only[hget]at hk;repeat' (first|(split at hk;first|omega|skip)|(cases hk;done))
 have hgs2: ∀(E F:Blk) (id:Nat) (k:Blk),hget [(nx+3,F),(nx+2,E)] id=some k->nx+2<=id:=λE F id k hk=>by simp only[hget]at hk;repeat' (first|(split at hk;first|omega|skip)|(cases hk;done))
 refine InlQ.run Tryz.func109 rfl Tryz.ntmps109 (by simp) qT λB hB=> ?_;have fin:=fin B hB;have stp:=stp B hB;cases hla:leastT M c r (h-r)with
 |none=>
  rw[hla]at c1;have e1:atI none= -1:=rfl;have e2:decide ((-1:Int)>=0)=false:=by decide
  rw[e1,e2]at c1;have hy:y=(⟨0,0,0,0⟩,false):=hN.uniq (.inr ⟨.inl hla,rfl⟩);subst hy;refine qWDf (Q4 @hfz @hsl @ht @g1) ?_;exact retIQ_ret _ _ nx Tryz.results109 qT ⟨rfl,rfl,rfl⟩ (fin [(nx,_)] (hgp0 _) _ _ _ (VMap.op0 0 0 0 false))
 | some i =>
  obtain⟨i1,i2,i3,i4⟩:=least_some hla;rw[hla]at c1;have e1:atI (some i)=(i:Int):=rfl;have e2:decide ((i:Int)>=0)=true:=decide_eq_true om;rw[e1,e2]at c1;by_cases hir:i=r
  ·subst hir;have q1:((i:Int) !=(i:Int))=false:=by simp
   obtain⟨idi,hidi,hidio,gi,gR⟩:=hrow i hr;have gl:=ivR_len (M.getD i []);rw[(hM.get hr).1]at gl;have gd:=ivR_drop (l:=M.getD i []) (i:=c) (by rw[(hM.get hr).1];exact hc);have hf:Fits K (ent2 M i c):=hM.fit hr hc;have hx0:(M.getD i []).getD c 0=ent2 M i c:=rfl;rw[hx0]at gd;have cS:=psign_i (ent2 M i c) K hf om;generalize hp:ent2 M i c=p at*;generalize(ivR (M.getD i [])).drop ((c+1)*2)=Z at*;unfold ivC sv at gd;simp only[zl8,zl7]at gd;generalize ivR (M.getD i [])=row at*;have g2:c*2<row.length:=by omega
   by_cases hneg:p<0
   ·have q2:decide (p.sign<0)=true:=decide_eq_true (by rw[Int.sign_eq_neg_one_of_neg hneg];decide);have hy:y=(⟨2,i,0,0⟩,true):=hN.uniq (.inl ⟨.neg hla (by rw[hp];exact hneg),rfl⟩);subst hy;generalize p.sign=sp at*;unfold iv sv at cS;generalize hH:rowsH 68 ids (rI M)=H at*;refine qWDf (Q11 @hfz @hsl @ht @g1 @q1 @gi @gR @gd @gl @g2 @q2) ?_;subst hH;exact retIQ_ret _ _ nx Tryz.results109 qT ⟨rfl,rfl,rfl⟩ (fin [(nx+1,_),(nx,_)] (hgp1 _ _) _ _ _ (VMap.op0 2 i 0 true))
   ·have q2:decide (p.sign<0)=false:=decide_eq_false (by rw[Int.sign_eq_one_of_pos om];decide);generalize hsp:p.sign=sp at*;unfold iv sv at cS;have hp0:0<p:=by omega
    generalize hH:rowsH 68 ids (rI M)=H at*;refine qWDf (Q11 @hfz @hsl @ht @g1 @q1 @gi @gR @gd @gl @g2 @q2) ?_;clear gi gR gl gd g2 cS c1 q1 q2 hfz hrows;have eP:((nx+1+1:Nat))=nx+2:=rfl;refine SC.loop (λt:Nat=>⟨[(0,.sl o 0 h 1 none),(1,.sc (.int .i64 i)),(2,.sc (.int .i64 c)),(6,.pt nx 0),(10,.pt (nx+1) 0),(11,.sc (.int .i64 (i+1+t:Nat)))],(nx+1,⟨68,[.sc (.bool (decide (p<0))),.im (lv (limbsOf p.natAbs)) (limbsOf p.natAbs).length],false⟩)::(nx,⟨80,[.sc (.int .i64 0),.sc (.int .i64 0),.sc (.int .i64 0),.sc (.bool false),.sc (.slice none 0 0)],false⟩)::(o,⟨41,slR 2 w ids,false⟩)::H,nx+2,97⟩)
     (λt=>t<=h-(i+1)/\ ∀j,i<j->j<i+1+t->ent2 M j c=0) (λt=>h-(i+1)-t) 0 ?_ ?_ ?_
    ·refine stp _ _ [] _ _ _ _ rfl rfl (λid k hk=>by cases hk) ?_;exact qN
    ·exact⟨znc _,λj h1 h2=>by omega⟩
    ·rintro t ⟨ht',hz⟩ K2 hK2;by_cases hlt:i+1+t<h
     ·have q1:=decide_eq_true (p:=((i+1+t:Nat):Int)<(h:Int)) om;obtain⟨idk,hidk,hidko,gi,gR⟩:=hrow (i+1+t) hlt;have gl:=ivR_len (M.getD (i+1+t) []);rw[(hM.get hlt).1]at gl;have gd:=ivR_drop (l:=M.getD (i+1+t) []) (i:=c) (by rw[(hM.get hlt).1];exact hc);have hfx:Fits K (ent2 M (i+1+t) c):=hM.fit hlt hc;have hxx:(M.getD (i+1+t) []).getD c 0=ent2 M (i+1+t) c:=rfl;rw[hxx]at gd;have cS:=psign_i (ent2 M (i+1+t) c) K hfx om;generalize hx:ent2 M (i+1+t) c=x at*;generalize(ivR (M.getD (i+1+t) [])).drop ((c+1)*2)=Z at*;unfold ivC sv at gd;simp only[zl8,zl7]at gd;generalize ivR (M.getD (i+1+t) [])=row at*;have g2:c*2<row.length:=by omega
      by_cases h0:x=0
      ·have q2:(x.sign !=0)=false:=by rw[h0];decide
       generalize x.sign=sx at*;unfold iv sv at cS;refine qWDf (Q8 @q1 @g1 @gi @gR @gd @gl @g2 @q2) ?_;refine hK2 _ (t+1) ?_ ⟨by omega,λj h1 h2=> ?_⟩ om
       ·refine stp _ _ [(nx+2,_)] _ _ _ _ rfl rfl (hgs1 _) ?_;exact qN
       ·by_cases e:j=i+1+t;·rw[e,hx,h0]
        ·exact hz j h1 om
      ·have q2:(x.sign !=0)=true:=by rw[bne_iff_ne];exact λh=>h0 (Int.sign_eq_zero_iff_zero.1 h)
       have hy:y=(⟨3,i+1+t,i,-(nearI (ent2 M (i+1+t) c) (ent2 M i c))⟩,true):=hN.uniq (.inl ⟨.low hla (by rw[hp];exact hp0) om hlt (by rw[hx];exact h0) (λj h1 h2=>hz j h1 h2),rfl⟩);have cN:=near_s x p K hfx hf om hp0;have fN:Fits (K+2) (nearI x p):=near_fits hfx hf hp0;have cG:=pneg_i (nearI x p) (K+2) fN om;subst hy;rw[hx,hp];generalize nearI x p=q at*;generalize x.sign=sx at*;unfold iv sv at cS cN cG;refine qWDf (Q8 @q1 @g1 @gi @gR @gd @gl @g2 @q2) ?_;subst hH;exact retIQ_ret _ _ nx Tryz.results109 qT ⟨rfl,rfl,rfl⟩ (fin [(nx+2,_),(nx+1,_),(nx,_)] (hgp2 _ _ _) _ _ _ (VMap.op ⟨3,i+1+t,i,-q⟩ true))
     ·have q1:=decide_eq_false (p:=((i+1+t:Nat):Int)<(h:Int)) om;have hz2: ∀j,i<j->j<h->ent2 M j c=0:=λj h1 h2=>hz j h1 om;clear hK2 hz;refine qWDf (Q2 @q1 @g1) ?_;refine SC.loop (λt:Nat=>⟨[(0,.sl o 0 h 1 none),(1,.sc (.int .i64 i)),(2,.sc (.int .i64 c)),(6,.pt nx 0),(10,.pt (nx+1) 0),(70,.sc (.int .i64 i)),(71,.sc (.int .i64 t))],(nx+1,⟨68,[.sc (.bool (decide (p<0))),.im (lv (limbsOf p.natAbs)) (limbsOf p.natAbs).length],false⟩)::(nx,⟨80,[.sc (.int .i64 0),.sc (.int .i64 0),.sc (.int .i64 0),.sc (.bool false),.sc (.slice none 0 0)],false⟩)::(o,⟨41,slR 2 w ids,false⟩)::H,nx+2,97⟩)
       (λt=>t<=i/\ ∀j,j<t->ent2 M j c/ent2 M i c=0) (λt=>i-t) 0 ?_ ?_ ?_
      ·refine stp _ _ [] _ _ _ _ rfl rfl (λid k hk=>by cases hk) ?_;exact qN
      ·exact⟨znc _,λj h1=>by omega⟩
      ·clear ht' hlt q1 t K2;rintro t ⟨ht',hz⟩ K2 hK2;by_cases hlt:t<i
       ·have q1:=decide_eq_true (p:=(t:Int)<(i:Int)) om;obtain⟨idk,hidk,hidko,gi,gR⟩:=hrow t om;have gl:=ivR_len (M.getD t []);rw[(hM.get (show t<h by omega)).1]at gl;have gd:=ivR_drop (l:=M.getD t []) (i:=c) (by rw[(hM.get (show t<h by omega)).1];exact hc);have hfx:Fits K (ent2 M t c):=hM.fit om hc;have hxx:(M.getD t []).getD c 0=ent2 M t c:=rfl;rw[hxx]at gd;have cD:=pdivmod_i (ent2 M t c) p K hfx hf om om;have fQ:Fits (K+2) (ent2 M t c/p):=hfx.mono om|>.ediv;have cS:=psign_i (ent2 M t c/p) (K+2) fQ om;have cG:=pneg_i (ent2 M t c/p) (K+2) fQ om;have hq:ent2 M t c/ent2 M i c=ent2 M t c/p:=by rw[hp]
        generalize ent2 M t c % p=m at*;generalize ent2 M t c/p=q at*;generalize hx:ent2 M t c=x at*;generalize(ivR (M.getD t [])).drop ((c+1)*2)=Z at*;unfold ivC sv at gd;simp only[zl8,zl7]at gd;generalize ivR (M.getD t [])=row at*;have g2:c*2<row.length:=by omega
        have hkl2: ∀n,nx<=n->klB H n=true:=λn hn=>by rw[<-hH];exact klB_rows (ty:=68) (rs:=rI M) (n:=n) (λj hj=>by have:=hI.lt j hj;omega)
        have hkl:=hkl2 (nx+2) om;by_cases h0:q=0
        ·have q2:(q.sign !=0)=false:=by rw[h0];decide
         generalize q.sign=sx at*;unfold iv sv at cS cD;refine qWDf (Q9 @q1 @g1 @gi @gR @gd @gl @g2 @q2 @hkl) ?_;refine hK2 _ (t+1) ?_ ⟨by omega,λj h1=> ?_⟩ om
         ·refine stp _ _ [(nx+3,_),(nx+2,_)] _ _ _ _ rfl rfl (hgs2 _ _) ?_;exact qN
         ·by_cases e:j=t;·rw[e,hx,hq,h0]
          ·exact hz j om
        ·have q2:(q.sign !=0)=true:=by rw[bne_iff_ne];exact λh=>h0 (Int.sign_eq_zero_iff_zero.1 h)
         have hy:y=(⟨3,t,i,-(ent2 M t c/ent2 M i c)⟩,true):=hN.uniq (.inl ⟨.up hla (by rw[hp];exact hp0) hz2 hlt (by rw[hx,hq];exact h0) (λj h1=>hz j h1),rfl⟩);subst hy;rw[hx,hq];generalize q.sign=sx at*;unfold iv sv at cS cD cG;refine qWDf (Q9 @q1 @g1 @gi @gR @gd @gl @g2 @q2 @hkl) ?_;subst hH;exact retIQ_ret _ _ nx Tryz.results109 qT ⟨rfl,rfl,rfl⟩ (fin [(nx+3,_),(nx+2,_),(nx+1,_),(nx,_)] (hgp3 _ _ _ _) _ _ _ (VMap.op ⟨3,t,i,-q⟩ true))
       ·have q1:=decide_eq_false (p:=(t:Int)<(i:Int)) om;have hti:t=i:=by omega
        have hy:y=(⟨0,0,0,0⟩,false):=hN.uniq (.inr ⟨.inr ⟨hla,by rw[hp];exact hp0,hz2,λj hj=>hz j om⟩,rfl⟩);subst hy;refine qWDf @q1 ?_;subst hH;exact retIQ_ret _ _ nx Tryz.results109 qT ⟨rfl,rfl,rfl⟩ (fin [(nx+1,_),(nx,_)] (hgp1 _ _) _ _ _ (VMap.op0 0 0 0 false))
  ·have q1:((i:Int) !=(r:Int))=true:=by simp only[bne_iff_ne,ne_eq];omega
   have hy:y=(⟨1,r,i,0⟩,true):=hN.uniq (.inl ⟨.swap hla hir,rfl⟩);subst hy;refine qWDf (Q5 @hfz @hsl @ht @g1 @q1) ?_;exact retIQ_ret _ _ nx Tryz.results109 qT ⟨rfl,rfl,rfl⟩ (fin [(nx,_)] (hgp0 _) _ _ _ (VMap.op0 1 r i true))
end
section
open Go.RowKit
def WF(ro:Option Nat):Fence:={Fence.wide with round:=ro}
section
variable {P:Program} {ro:Option Nat} {n:Nat}
theorem callsIn_W{f:Nat}{args:Array Value}{w:World}{R:Ending->World->Prop}(h:Calls P f args w R):CallsIn (WF ro) n P f args w R:=
 (callsIn_wide (n:=n)).2 h
theorem rowsIn_W{row:String}{args:Array Value}{w:World}{R:Value->World->Prop}(h:Rows P row args w R):RowsIn (WF ro) n P row args w R:=
 λc cs _=>let⟨v,w',r,s⟩:=h c cs;⟨v,w',r,stepsIn_wide.2 s⟩
theorem upon_W{o:Oper}{a:Act}{next:Act->World->Prop}{Q:Exit->Act->World->Prop}{r:Result Next}(h:o.upon P a next Q r):o.uponIn (WF ro) n P a next Q r:=by
 cases r with
 | ok x w'=>
  cases x<;>simp only[Oper.upon]at h<;>simp only[Oper.uponIn]
  all_goals first
   |exact h
   |exact⟨λh=>by simp[WF,Fence.wide]at h,callsIn_W (h.mono λe w'' he=>by cases e<;>exact he)⟩
   |exact⟨λh=>by simp[WF,Fence.wide]at h,rowsIn_W h⟩
 |halt x w'=>cases x<;>simp only[Oper.upon]at h<;>simp only[Oper.uponIn]<;>exact h
def nodef(o:Oper):Bool:=match o.op with| .defer _=>false|_=>true
theorem nodef_ne{o:Oper}(h:nodef o=true): ∀c,o.op≠ .defer c:=by intro c e;unfold nodef at h;rw[e]at h;cases h
theorem oper_W{o:Oper}{a:Act}{w:World}{next:Act->World->Prop}{Q:Exit->Act->World->Prop}(ho:nodef o=true)(h:o.wp P a w next Q):o.wpIn (WF ro) n P a w next Q:=
 ⟨λ_ _=>trivial,by rw[Oper.semAt_eq _ _ _ (nodef_ne ho)];exact upon_W h⟩
theorem wpList_W{ops:Array Oper}{Q:Exit->Act->World->Prop}(hq: ¬LetsOut Q): ∀{l:List Oper},l.all nodef=true-> ∀{a:Act} {w:World},wpList P ops Q l a w->wpListIn (WF ro) n P ops Q l a w
 |[],_,_,_,h=>h
 | o::l,hd,a,w,h=>by
  simp only[List.all_cons,Bool.and_eq_true]at hd;simp only[wpList]at h;simp only[wpListIn];split
  ·rename_i hw;rw[if_pos hw]at h;rcases h with h|h;·exact oper_W hd.1 (Oper.wp_mono (λa w h=>wpList_W hq hd.2 h) h)
   ·exact absurd h.2 hq
  ·rename_i hw;rw[if_neg hw]at h;exact⟨λ_ _=>trivial,wpList_W hq hd.2 h⟩
theorem wpOp_W{ops:Array Oper}{Q:Exit->Act->World->Prop}(hq: ¬LetsOut Q){i:Nat}{K K':Act->World->Prop}(hK: ∀a w,K a w->K' a w)(hd: ∀o,ops[i]? =some o->nodef o=true){a:Act}{w:World}(h:wpOp P ops Q i K a w):wpOpIn (WF ro) n P ops Q i K' a w:=by
 unfold wpOp at h;unfold wpOpIn;cases ho:ops[i]?with
 |none=>
  rw[ho]at h;simp only at h⊢
  first|exact hK _ _ h|exact h|exact h.elim
 | some o=>
  rw[ho]at h;simp only at h⊢;split
  ·rename_i hw;rw[if_pos hw]at h;rcases h with h|h;·exact oper_W (hd o ho) (Oper.wp_mono hK h)
   ·exact absurd h.2 hq
  ·rename_i hw;rw[if_neg hw]at h;exact⟨λ_ _=>trivial,hK _ _ h⟩
theorem wpAny_W{md:Region.Mode}{ops:Array Oper}{Q:Exit->Act->World->Prop}(hq: ¬LetsOut Q)(hd: ∀(i:Nat) (o:Oper),ops[i]? =some o->nodef o=true): ∀(fuel:Nat) (listed:Array Bool) (a:Act) (w:World),wpAny P md ops Q fuel listed a w->wpAnyIn (WF ro) n P md ops Q fuel listed a w
 |0,_,_,_,h=>h
 |fuel+1,listed,a,w,h=>⟨h.1,λi hi=>wpOp_W hq (λa w h=>wpAny_W hq hd fuel _ a w h) (hd i) (h.2 i hi)⟩
end
section
variable {P:Program} {B:Base} {s:SS} {ro:Option Nat}
def SWpR(P:Program)(ro:Option Nat)(B:Base)(c:Code)(Q:Exit->SS->Prop)(s:SS):Prop:= ∀S rho A a w,Rel B S rho A s a w->c.wpIn (WF ro) 0 P (Post B Q) a w
theorem noLet{Q:Exit->SS->Prop}(hq: ∀s,¬Q .outgrown s): ¬LetsOut (Post B Q):=by rintro⟨a,w,S,rho,A,s,h,_⟩;exact hq s h
theorem SWpR.region{id:Nat}{l:List Oper}{Q:Exit->SS->Prop}(hq: ∀s,¬Q .outgrown s)(hd:l.all nodef=true)(h:SO P B l.toArray l [] Q s):SWpR P ro B (.region id l.toArray false) Q s:=by
 intro S rho A a w hr;refine wpIn_region_lit (wpList_W (noLet hq) hd ?_);have e:thenQ (SC P B [] Q) Q=Q:=by funext e s;cases e<;>rfl
 have:=h S rho A a w hr;rw[e]at this;exact this
theorem SWpR.drawT{id:Nat}{l l1 tl:List Oper}{Q:Exit->SS->Prop}(n:Nat)(h1:l.take n=l1)(h2:l.drop n=tl)(hq: ∀s,¬Q .outgrown s)(hd:l.all nodef=true)(hm:P.follows .mixedOrders=true)(hk: ∀id k,hget s.hp id=some k->id<s.nx)(hT:lastOk l1 tl=true)
  (h:DO P B l1 l1 [] (lastQ P B l.toArray tl [] Q) [] s):SWpR P ro B (.region id l.toArray true) Q s:=by
 have e:l=l1++tl:=by rw[<-h1,<-h2,List.take_append_drop]
 subst e;obtain⟨es,s',h3,h4,h5⟩:=h;obtain⟨st,en,h6,h7,h8⟩:=chk_run hk h3 (by simpa using h4);have e:thenQ (SC P B [] Q) Q=Q:=by funext e s;cases e<;>rfl
 intro S rho A a w hr;have h9:SOps P B (l1++tl).toArray tl Q (st l1.length):=by rw[h8];have h10:SO P B (l1++tl).toArray tl [] Q s':=h5;unfold SO at h10;rwa[e]at h10
 refine wpIn_region_any hm (wpAny_W (noLet hq) (λi o ho=> ?_) _ _ _ _ (any_drawT h6 h7 hT h9 S rho A a w hr));exact List.all_eq_true.1 hd o (List.mem_of_getElem? (by simpa using ho))
theorem SWpR.seq{x y:Code}{Q:Exit->SS->Prop}{K:SS->Prop}(h:SWpR P ro B x (thenQ K Q) s)(k: ∀s,K s->SWpR P ro B y Q s):SWpR P ro B (.seq x y) Q s:=by intro S rho A a w hr;refine wpIn_seq (wpIn_mono (h S rho A a w hr) ?_);rintro e a w ⟨S,rho,A,s,hq,hr⟩;cases e<;>first|exact k s hq S rho A a w hr|exact⟨S,rho,A,s,hq,hr⟩
theorem SWpR.block{id:Nat}{c:Code}{Q:Exit->SS->Prop}(h:SWpR P ro B c (blockQ id Q) s):SWpR P ro B (.block id c) Q s:=by
 intro S rho A a w hr;refine wpIn_block (wpIn_mono (h S rho A a w hr) ?_);rintro e a w ⟨S,rho,A,s,hq,hr⟩;cases e<;>first|exact⟨S,rho,A,s,hq,hr⟩|skip
 rename_i id';simp only[blockQ]at hq;simp only[Exit.inBlock];split at hq;·rename_i h;rw[if_pos h];exact⟨S,rho,A,s,hq,hr⟩
 ·rename_i h;rw[if_neg h];exact⟨S,rho,A,s,hq,hr⟩
end
end
section
open Go.RowKit
section
variable {P:Program} {B:Base} {S:Nat->Prop} {rho:Nat->Nat} {A:Nat->Prop} {w w':World} {l:Nat}
structure Turn(l:Nat)(w w':World):Prop where
 os:w'.os=w.os
 tape:w'.tape=w.tape
 output:w'.output=w.output
 size:w'.heap.size=w.heap.size
 oth: ∀b,b≠l->w'.heap[b]? =w.heap[b]?
 n1: ∀c e f,w.heap[l]? ≠some (.cells c e f)
 nm: ∀es c,w.heap[l]? ≠some (.map es c)
theorem Turn.put{o o':Obj}(h:w.heap[l]? =some o)(hn: ∀c e f,o≠ .cells c e f)(hm: ∀es c,o≠ .map es c):Turn l w (w.putObj l o'):=
 ⟨rfl,rfl,rfl,World.putObj_size,λ_ hb=>World.putObj_heap_other hb,λc e f hc=>by rw[h]at hc;cases hc;exact hn _ _ _ rfl,λes c hc=>by rw[h]at hc;cases hc;exact hm _ _ rfl⟩
theorem Turn.cell(t:Turn l w w'){b off:Nat}{v:Value}(h:w.cell? ⟨b,off,none⟩=some v):w'.cell? ⟨b,off,none⟩=some v:=by
 have hb:b≠l:=by
  rintro rfl;simp only[World.cell?]at h;split at h;·rename_i h2;exact t.n1 _ _ _ h2
  ·cases h
 rw[cell_of_heap (t.oth b hb)];exact h
theorem Turn.sz(t:Turn l w w'){b:Nat}{n:Sz}(k:szAt w b n):szAt w' b n:=by
 refine k.of_heap (t.oth b ?_);rintro rfl;cases n with
 |n=>obtain⟨c,e,f,h1,_⟩:=k;exact t.n1 _ _ _ h1
 |m=>exact t.nm _ _ k
theorem R.turn{x:V}{v:Value}(h:R S rho w A x v)(t:Turn l w w'):R S rho w' A x v:=by
 induction h with
 |sc v=>exact .sc v
 |junk v=>exact .junk v
 |ag h _ ih=>exact .ag h λi x u h1 h2=>ih i x u h1 h2
 |tu h _ ih=>exact .tu h λi x u h1 h2=>ih i x u h1 h2
 |pt h=>exact .pt h
 |sl h hl hm hc hz=>exact .sl h hl hm hc (t.sz hz)
 |mp h hb hm hk hl _ ih=>exact .mp h hb (t.sz hm) hk hl λi x e h1 h2=>ih i x e h1 h2
 |ifc _ ih=>exact .ifc ih
 |sln h=>exact .sln h
 |im0 hl hm ha=>exact .im0 hl hm ha
 |im1 f hl hm hs hc _ ih=>exact .im1 f hl hm hs (λi x hx=>t.cell (hc i x hx)) λi x h1=>ih i x h1
 |pi f hs hc _ ih=>exact .pi f hs (λi x hx=>t.cell (hc i x hx)) λi x h1=>ih i x h1
 |fn hp hq _ _ i1 i2=>exact .fn hp hq (λi x u h1 h2=>i1 i x u h1 h2) (λi x u h1 h2=>i2 i x u h1 h2)
theorem Cellsat.turn{b:Nat}{k:Blk}(h:Cellsat S rho A w b k)(t:Turn l w w'):Cellsat S rho A w' b k:=by obtain⟨cells,h1,h2⟩:=h;refine⟨cells,?_,λi x hx=>let⟨u,hu,hr⟩:=h2 i x hx;⟨u,hu,hr.turn t⟩⟩;rw[t.oth b (by rintro rfl;exact t.n1 _ _ _ h1)];exact h1
theorem Mem.round{hp hp1 hp2:List (Nat×Blk)}{w1 w2 w3 w4:World}{S1 S2:Nat->Prop}{rho1 rho2:Nat->Nat}{A1 A2:Nat->Prop}(m1:Mem (Base.inner S rho A hp w) S1 rho1 A1 hp1 w1)(t1:Turn l w1 w2)
  (m2:Mem (Base.inner S1 rho1 A1 hp1 w2) S2 rho2 A2 hp2 w3) (t2:Turn l w3 w4) (hl:w4.heap[l]? =w.heap[l]?):Mem (Base.inner S rho A hp w) S2 rho2 A2 hp2 w4:=by
 have hs1:w.heap.size<=w2.heap.size:=by rw[t1.size];exact m1.frame.size
 have hL: ∀b,(Base.inner S1 rho1 A1 hp1 w2).L b->w.heap.size<=b\/(Base.inner S rho A hp w).L b:=by rintro b ⟨id,q,hq,ha,rfl⟩;exact m1.own id q hq ha
 have hst: ∀b,S b->w4.heap[b]? =w.heap[b]? :=λb hb=>by
  by_cases e:b=l;·rw[e];exact hl
  ·rw[t2.oth b e,m2.frame.stay b (m1.sub b hb)];show w2.heap[b]? =_;rw[t1.oth b e];exact m1.frame.stay b hb
 exact{
  cells:=λid k hk ha=>(m2.cells id k hk ha).turn t2
  fz:=m2.fz
  own:=λid k hk ha=>(m2.own id k hk ha).elim (λh=> .inl (Nat.le_trans hs1 h)) (hL _)
  inj:=m2.inj
  slt:=λb hb=>by rw[t2.size];exact m2.slt b hb
  sub:=λb hb=>m2.sub b (m1.sub b hb)
  base:=λb hb=>by
   rcases m2.base b hb with h|h|h;·exact m1.base b h
   ·exact .inr (.inl (Nat.le_trans hs1 h))
   ·exact .inr (hL b h)
  frame:={
   os:=t2.os.trans (m2.frame.os.trans (t1.os.trans m1.frame.os))
   tape:=t2.tape.trans (m2.frame.tape.trans (t1.tape.trans m1.frame.tape))
   output:=t2.output.trans (m2.frame.output.trans (t1.output.trans m1.frame.output))
   size:=by rw[t2.size];exact Nat.le_trans hs1 m2.frame.size
   block:=λb hb hn=>by
    by_cases e:b=l;·rw[e];exact hl
    ·rw[t2.oth b e,m2.frame.block b (Nat.lt_of_lt_of_le hb hs1) (λh=>(hL b h).elim (λh=>by have:b<w.heap.size:=hb;omega) hn)];show w2.heap[b]? =_;rw[t1.oth b e];exact m1.frame.block b hb hn
   stay:=hst
   sz:=λb n h=>t2.sz (m2.frame.sz b n (t1.sz (m1.frame.sz b n h)))
   lt:=m1.frame.lt
   tab:=m1.frame.tab}
  keep:=λid hid=>by obtain⟨h1,h2⟩:=m1.keep id hid;obtain⟨h3,h4⟩:=m2.keep id h1;exact⟨h3,h4.trans h2⟩}
theorem Mem.turnO{hp:List (Nat×Blk)}(h:Mem B S rho A hp w)(t:Turn l w w')(hl:B.w0.heap.size<=l):Mem B S rho A hp w' where
 cells id k hk ha:=(h.cells id k hk ha).turn t
 fz:=h.fz
 own:=h.own
 inj:=h.inj
 slt b hb:=by rw[t.size];exact h.slt b hb
 sub:=h.sub
 base:=h.base
 frame:={
  os:=t.os.trans h.frame.os
  tape:=t.tape.trans h.frame.tape
  output:=t.output.trans h.frame.output
  size:=by rw[t.size];exact h.frame.size
  block:=λb hb hn=>by rw[t.oth b om];exact h.frame.block b hb hn
  stay:=λb hb=>by rw[t.oth b (by have:=h.frame.lt b hb;omega)];exact h.frame.stay b hb
  sz:=λb n hk=>t.sz (h.frame.sz b n hk)
  lt:=h.frame.lt
  tab:=h.frame.tab}
 keep:=h.keep
theorem Mem.turnI{hp:List (Nat×Blk)}(h:Mem B S rho A hp w)(t:Turn l w w'):Mem (Base.inner S rho A hp w') S rho A hp w' where
 cells id k hk ha:=(h.cells id k hk ha).turn t
 fz:=h.fz
 own id k hk ha:= .inr ⟨id,k,hk,ha,rfl⟩
 inj:=h.inj
 slt b hb:=by rw[t.size];exact h.slt b hb
 sub _ hb:=hb
 base _ hb:= .inl hb
 frame:=⟨rfl,rfl,rfl,znb _,λ_ _ _=>rfl,λ_ _=>rfl,λ_ _ h=>h,λb hb=>by show b<w'.heap.size;rw[t.size];exact h.slt b hb,λg cs hg=>by obtain⟨h1,h2⟩:=(h.inner).frame.tab g cs hg;exact⟨h1,λi v hv=>t.cell (h2 i v hv)⟩⟩
 keep _ h:=⟨h,rfl⟩
theorem Mem.notL{hp:List (Nat×Blk)}(h:Mem B S rho A hp w)(hl: ∀c e f,w.heap[l]? ≠some (.cells c e f)): ¬(Base.inner S rho A hp w).L l:=by rintro⟨id,k,hk,ha,rfl⟩;obtain⟨cells,h1,_⟩:=h.cells id k hk ha;exact hl _ _ _ h1
structure LoopAt(B:Base)(l:Nat)(sl:List (Nat×V))(nt:Nat)(p:Nat)(assign body:Code):Prop where
 ex: ∃fn tmps D,B.w0.heap[l]? =some (.loop {state:= .ready,pending:=none,fn,tmps,params:= #[p],assign,body,defers:=D})/\tmps.size=nt/\ ∀t,R B.S0 B.rho0 B.w0 B.K (get sl t) ((⟨tmps,[]⟩:Act).eval (.tmp t))
 nl: ¬B.L l
 lc: ∀b,B.L b-> ∃c e f,B.w0.heap[b]? =some (.cells c e f)
def SOY(P:Program)(B:Base)(ops:Array Oper)(l:List Oper)(Q:Exit->SS->Prop)(s:SS):Prop:= ∀S rho A a w,Rel B S rho A s a w->wpListIn (WF none) 0 P ops (Post B Q) l a w
theorem SOY.nil{ops:Array Oper}{Q:Exit->SS->Prop}{s:SS}(h:Q .normal s):SOY P B ops [] Q s:=λS rho A _ _ hr=>⟨S,rho,A,s,h,hr⟩
theorem SWp.regionY{id:Nat}{ls:List Oper}{Q:Exit->SS->Prop}{s:SS}(h:SOY P B ls.toArray ls Q s):SWp P B (.region id ls.toArray false) Q s:=λS rho A a w hr=>(wpIn_wide (n:=0)).1 (wpIn_region_lit (h S rho A a w hr))
theorem upon_Q{o:Oper}{a:Act}{next next':Act->World->Prop}{Q Q':Exit->Act->World->Prop}{r:Result Next}(hn: ∀a w,next a w->next' a w)(hQ: ∀e a w,e≠ .normal->Q e a w->Q' e a w)(h:o.upon P a next Q r):o.upon P a next' Q' r:=by
 cases r with
 | ok x w'=>
  cases x<;>simp only[Oper.upon]at h⊢
  all_goals first
   |exact hn _ _ h
   |exact h.mono λe w'' he=>by cases e<;>first|exact hn _ _ he|exact hQ _ _ _ (by simp) he|exact(let⟨a,w,h⟩:=he;⟨a,w,hQ _ _ _ (by simp) h⟩)
   |exact h.mono λv w'' he=>hn _ _ he
 |halt x w'=>cases x<;>simp only[Oper.upon]at h⊢ <;>exact hQ _ _ _ (by simp) h
theorem SOY.run{ops:Array Oper}{Q:Exit->SS->Prop}{o:Oper}{ls:List Oper}{s s':SS}(h:run1 P ops s o=some s')(ho:nodef o=true)(k:SOY P B ops ls Q s'):SOY P B ops (o::ls) Q s:=by
 intro S rho A a w hr;have h1:=SOps.run1 (B:=B) (Q:=λe s1=>e= .normal/\s1=s') (l:=[]) h (SOps.nil ⟨rfl,rfl⟩) S rho A a w hr;have hQ: ∀e a w,Post B (λe s1=>e= .normal/\s1=s') e a w->e= .normal/\wpListIn (WF none) 0 P ops (Post B Q) ls a w:=by rintro e a w ⟨S,rho,A,s1,⟨rfl,rfl⟩,hr⟩;exact⟨rfl,k S rho A a w hr⟩
 simp only[wpList]at h1;simp only[wpListIn];split
 ·rename_i hw;rw[if_pos hw]at h1;rcases h1 with h1|h1;·exact oper_W ho (upon_Q (λa w h=>(hQ _ a w h).2) (λe a w hne h=>absurd (hQ e a w h).1 hne) h1)
  ·exact absurd h1.2 (noLet (λs h=>by cases h.1))
 ·rename_i hw;rw[if_neg hw]at h1;exact⟨λ_ _=>trivial,(hQ _ _ _ h1).2⟩
def halfQ(s1:SS):Exit->SS->Prop
 | .normal,s=>s=s1
 |_,_=>False
def roundQ(Br:Base)(C:List (Nat×Blk)->Nat->Prop):Exit->SS->Prop
 | .normal,s=> ∃hp' nx',C hp' nx'/\Le Br (vst .junk s.hp s.nx) (vst .junk hp' nx')
 |_,_=>False
theorem Rel.vst{s:SS}{a:Act}(hr:Rel B S rho A s a w):Rel B S rho A (vst .junk s.hp s.nx) ⟨#[undef],B.D⟩ w:=
 ⟨λt=>by simp only[Go.Proofs.YtannldafjkjjbaaGreat.vst,get];split<;>exact .junk _,hr.mem,hr.alt,rfl,rfl⟩
theorem SOY.yield{ops:Array Oper}{ls:List Oper}{Q:Exit->SS->Prop}{s:SS}{g x:Operand}{ts:Array TypeId}{d:Option Nat}{ty:TypeId}{pos:String}{after:Array Edge}{slc:List (Nat×V)}{ntc p:Nat}{assign body:Code}{hpS:List (Nat×Blk)}{s1:SS}{C:List (Nat×Blk)->Nat->Prop}
  (hL:LoopAt B l slc ntc p assign body) (hg:evS s.sl g= .sc (.func (.yield l) #[] #[])) (hd:dstOk d s.nt=true) (hp:p<ntc) (hsub: ∀id k,hget hpS id=some k->hget s.hp id=some k)
  (h1: ∀Br:Base,Br.Old s.nx->SWpR P (some l) Br assign (halfQ s1) ⟨(p,evS s.sl x)::slc,hpS,s.nx,ntc⟩)
  (h2: ∀Br:Base,Br.Old s1.nx->SWpR P (some l) Br body (roundQ Br C) s1)
  (k: ∀hp' nx',C hp' nx'->OnlyH (λid=>hasId (restH s.hp hpS) id=false) hp'/\SOY P B ops ls Q ⟨putS s.sl d (.sc (.bool true)),hp'++restH s.hp hpS,nx',s.nt⟩):
  SOY P B ops (⟨d,.call ⟨.value g,#[x],ts⟩,ty,pos,after,none⟩::ls) Q s:=by
 intro S rho A a w hr;obtain⟨⟨fn,tmps,D,hrec,hsz,hsl⟩,hnl,hlc⟩:=hL;have hlt:l<B.w0.heap.size:=(Array.getElem?_eq_some_iff.1 hrec).1;have hW:w.heap[l]? =some (.loop {state:= .ready,pending:=none,fn,tmps,params:= #[p],assign,body,defers:=D}):=(hr.mem.frame.block l hlt hnl).trans hrec;have hnc: ∀c e f,w.heap[l]? ≠some (.cells c e f):=λc e f h=>by rw[hW]at h;cases h
 have he:a.eval g= .func (.yield l) #[] #[]:=by have:=ev_sound hr.mem.tab hr.slots g;rw[hg]at this;generalize a.eval g=u at this⊢;cases this;rfl
 have hrun:(execOp a.eval ⟨d,.call ⟨.value g,#[x],ts⟩,ty,pos,after,none⟩).run P w= .ok (.round l fn (tmps.setIfInBounds p (a.eval x)) assign body) w:=by have hy:=run_yield (P:=P) (args:= #[a.eval x]) hW rfl;simp only[execOp,resolve,he,Deferred.ofValue,Sem.run_bind,Sem.run_pure,Result.andThen_ok,invoke];simpa using hy
 simp only[wpListIn];rw[if_pos (by simp[Region.wanted])];refine⟨λ_ _=>trivial,?_⟩;rw[Oper.semAt_eq _ _ _ (by simp),hrun,Oper.uponIn_round];refine⟨λh=>by simp[WF,Fence.wide]at h,roundIn_of_wpIn trivial ?_⟩;have hsz0:p<tmps.size:=by rw[hsz];exact hp
 have hR0:Rel (Base.inner S rho A hpS w) S rho A ⟨(p,evS s.sl x)::slc,hpS,s.nx,ntc⟩ ⟨tmps.setIfInBounds p (a.eval x),[]⟩ w:=by
  refine⟨λt=> ?_,(hr.mem.less hsub).inner,hr.alt,by simp[hsz],rfl⟩;simp only[get];by_cases e:t=p
  ·subst e;rw[if_pos rfl];have:(⟨tmps.setIfInBounds t (a.eval x),[]⟩:Act).eval (.tmp t)=a.eval x:=by simp[Act.eval,hsz0]
   rw[this];exact ev_sound hr.mem.tab hr.slots x
  ·rw[if_neg e];have:(⟨tmps.setIfInBounds p (a.eval x),[]⟩:Act).eval (.tmp t)=(⟨tmps,[]⟩:Act).eval (.tmp t):=by simp[Act.eval,Array.getElem?_setIfInBounds_ne (Ne.symm e)]
   rw[this];exact(hsl t).mono (λb hb=>⟨hr.mem.sub b hb,hr.mem.frame.stay b hb⟩) (λid hid=>⟨(hr.mem.keep id hid).1,(hr.mem.keep id hid).2,λn hn=>hr.mem.frame.szL hlc _ n hn⟩)
 refine wpIn_mono (h1 (Base.inner S rho A hpS w) (λid hid=>hr.alt id hid) S rho A _ w hR0) ?_;rintro e a1 w1 ⟨S1,rho1,A1,s',hq,hr1⟩;cases e<;>first|exact hq.elim|skip
 cases hq;have hnL:=(hr.mem.less hsub).notL hnc;have hltw:l<w.heap.size:=(Array.getElem?_eq_some_iff.1 hW).1;have hW1:w1.heap[l]? =some (.loop {state:= .ready,pending:=none,fn,tmps,params:= #[p],assign,body,defers:=D}):=(hr1.mem.frame.block l hltw hnL).trans hW;have hlt1:l<w1.heap.size:=(Array.getElem?_eq_some_iff.1 hW1).1;refine⟨_,run_beginRound hW1 rfl,?_⟩;have t1:Turn l w1 (w1.putObj l (.loop {state:= .busy,pending:=none,fn,tmps,params:= #[p],assign,body,defers:=D})):=Turn.put hW1 (λc e f h=>by cases h) (λ_ _ h=>by cases h);have hW2:(w1.putObj l (.loop {state:= .busy,pending:=none,fn,tmps,params:= #[p],assign,body,defers:=D})).heap[l]? =some (.loop {state:= .busy,pending:=none,fn,tmps,params:= #[p],assign,body,defers:=D}):=World.putObj_heap_same hlt1;show body.wpIn (WF (some l)) 0 P _ a1 (w1.putObj l (.loop {state:= .busy,pending:=none,fn,tmps,params:= #[p],assign,body,defers:=D}));generalize w1.putObj l (.loop {state:= .busy,pending:=none,fn,tmps,params:= #[p],assign,body,defers:=D})=w2 at t1 hW2⊢;have m2:=hr1.mem.turnI t1;refine wpIn_mono (h2 (Base.inner S1 rho1 A1 s1.hp w2) (λid hid=>hr1.alt id hid) S1 rho1 A1 a1 w2 ⟨λt=>(hr1.slots t).turn t1,m2,hr1.alt,hr1.nt,hr1.defs⟩) ?_;rintro e a2 w3 ⟨S2,rho2,A2,s2,hq,hr2⟩;cases e<;>first|exact hq.elim|skip
 obtain⟨hp',nx',hC,hle⟩:=hq;obtain⟨S3,rho3,A3,hr3⟩:=hle S2 rho2 A2 _ w3 hr2.vst;have hnc2: ∀c e f,w2.heap[l]? ≠some (.cells c e f):=λc e f h=>by rw[hW2]at h;cases h
 have hnL2:=m2.notL hnc2;have hW3:w3.heap[l]? =some (.loop {state:= .busy,pending:=none,fn,tmps,params:= #[p],assign,body,defers:=D}):=(hr3.mem.frame.block l (Array.getElem?_eq_some_iff.1 hW2).1 hnL2).trans hW2;have hlt3:l<w3.heap.size:=(Array.getElem?_eq_some_iff.1 hW3).1;refine⟨_,_,run_endRound none hW3,?_⟩;have t2:Turn l w3 (w3.putObj l (.loop {state:= .ready,pending:=none,fn,tmps,params:= #[p],assign,body,defers:=D})):=Turn.put hW3 (λc e f h=>by cases h) (λ_ _ h=>by cases h);have hW4:(w3.putObj l (.loop {state:= .ready,pending:=none,fn,tmps,params:= #[p],assign,body,defers:=D})).heap[l]? =w.heap[l]? :=(World.putObj_heap_same hlt3).trans hW.symm;show wpListIn (WF none) 0 P ops (Post B Q) ls (a.put d (.bool true)) (w3.putObj l (.loop {state:= .ready,pending:=none,fn,tmps,params:= #[p],assign,body,defers:=D}));generalize w3.putObj l (.loop {state:= .ready,pending:=none,fn,tmps,params:= #[p],assign,body,defers:=D})=w4 at t2 hW4⊢;have m4:=Mem.round hr1.mem t1 hr3.mem t2 hW4;obtain⟨hc,k⟩:=k hp' nx' hC;have h6:=hr.mem.backS hsub m4 hc;have hS4: ∀b,S b->S3 b/\w4.heap[b]? =w.heap[b]? :=λb hb=>⟨m4.sub b hb,m4.frame.stay b hb⟩
 have hA4: ∀id,A id->A3 id/\rho3 id=rho id/\ ∀n,szAt w (rho id) n->szAt w4 (rho id) n:=λid hid=>⟨(m4.keep id hid).1,(m4.keep id hid).2,λn hn=>(hr.mem.less hsub).innerSz m4.frame _ n hn⟩
 exact k S3 rho3 (λid=>A3 id/\(hasId (restH s.hp hpS) id=true->A id)) _ _ ⟨slots_put hr.slots (by rw[hr.nt];exact hd) hS4 (λid hid=>⟨⟨(hA4 id hid).1,λ_=>hid⟩,(hA4 id hid).2⟩) (.sc _),h6,λid hid=>hr3.alt id hid.1,by rw[put_size];exact hr.nt,by rw[put_defers];exact hr.defs⟩
def markD(D:Nat):Deferred:={target:= .collected D,args:= #[]}
structure RelM(B:Base)(D:Nat)(S:Nat->Prop)(rho:Nat->Nat)(A:Nat->Prop)(s:SS)(a:Act)(w:World):Prop where
 slots: ∀t,R S rho w A (get s.sl t) (a.eval (.tmp t))
 mem:Mem B S rho A s.hp w
 alt: ∀id,A id->id<s.nx
 nt:a.tmps.size=s.nt
 defs:a.defers=[markD D]
 dh:w.heap[D]? =some (.deferred (some []))
 nw:B.w0.heap.size<=D
def PostM(B:Base)(Q:Exit->SS->Prop)(e:Exit)(a:Act)(w:World):Prop:= ∃D S rho A s,Q e s/\RelM B D S rho A s a w
def SWpM(P:Program)(B:Base)(c:Code)(Q:Exit->SS->Prop)(s:SS):Prop:= ∀S rho A a w,Rel B S rho A s a w->B.D=[]->c.wp P (PostM B Q) a w
def itQ(P:Program)(fn:Func)(B1:Base)(C:List (Nat×Blk)->Nat->Prop):Exit->SS->Prop
 | .normal,s| .ret,s=>(∃y,resV P fn s=some y)/\ ∃hp' nx',C hp' nx'/\Le B1 (vst .junk s.hp s.nx) (vst .junk hp' nx')
 |_,_=>False
theorem All.grow{xs:List V}{vs:List Value}(h:All S rho A w xs vs)(hs: ∀b,S b->b<w.heap.size)(g:Grow w w'):All S rho A w' xs vs:=
 ⟨h.1,λi x u hx hu=>(h.2 i x u hx hu).mono (λb hb=>⟨hb,g.block b (hs b hb)⟩) (λ_ h=>⟨h,rfl,λ_=>g.szAt⟩)⟩
theorem SWpM.rangeFunc{g:Operand}{p:Nat}{assign body c:Code}{gf:Nat}{fn:Func}{q:List V}{s:SS}{Q:Exit->SS->Prop}{hpS:List (Nat×Blk)}{C:List (Nat×Blk)->Nat->Prop}
  (hg:evS s.sl g= .fn (.func gf) [] q) (hgo:isGo P gf=true) (hf:P.funcs[gf]? =some fn) (hb:fn.body=some c) (hn:q.length+1<=fn.ntmps) (hsub: ∀id k,hget hpS id=some k->hget s.hp id=some k)
  (it: ∀(B1:Base) (l:Nat),B1.Old s.nx->LoopAt B1 l s.sl s.nt p assign body->SWp P B1 c (itQ P fn B1 C) ⟨stSl 0 (.sc (.func (.yield l) #[] #[])::q),hpS,s.nx,fn.ntmps⟩)
  (k: ∀hp' nx',C hp' nx'->OnlyH (λid=>hasId (restH s.hp hpS) id=false) hp'/\Q .normal ⟨s.sl,hp'++restH s.hp hpS,nx',s.nt⟩):
  SWpM P B (.rangeFunc g #[p] assign body) Q s:=by
 intro S rho A a w hr hD;refine(wpIn_wide (n:=0)).1 (wpIn_rangeFunc λfn0 _=> ?_);obtain⟨ps,lb,he,hps,hqs⟩:=fn_sound (f:=gf) (p:=[]) (q:=q) (by rw[hg];rfl) (ev_sound hr.mem.tab hr.slots g);have hps0:ps= #[]:=by have:=hps.1;simp at this;exact Array.eq_empty_of_size_eq_zero this.symm
 subst hps0;obtain⟨rec,hrec⟩: ∃rec:LoopState->Loop,rec=λst=>{state:=st,pending:=none,fn:=fn0,tmps:=a.tmps,params:= #[p],assign,body,defers:=w.heap.size}:=⟨_,rfl⟩
 obtain⟨W1,hW1⟩: ∃W1,(w.alloc (.deferred (some []))).alloc (.loop (rec .ready))=W1:=⟨_,rfl⟩
 have hL1:W1.heap[w.heap.size+1]? =some (.loop (rec .ready)):=by rw[<-hW1];have:=World.alloc_heap_new (w.alloc (.deferred (some []))) (.loop (rec .ready));rwa[World.size_alloc]at this
 have hK1:W1.heap[w.heap.size]? =some (.deferred (some [])):=by rw[<-hW1];exact(Below.heap_alloc _ _ _ (by simp)).trans (World.alloc_heap_new w _)
 have hgr:Grow w W1:=by rw[<-hW1];exact(Grow.alloc _ _).trans (Grow.alloc _ _)
 have hgo':=callFunc_go hgo;refine⟨w.heap.size+1,[markD w.heap.size],W1,{target:= .fn (.func gf) lb,args:= #[.func (.yield (w.heap.size+1)) #[] #[]]},W1,gf,#[.func (.yield (w.heap.size+1)) #[] #[]]++lb,W1,?_,?_,λ_ _=>trivial,?_,λh=>by simp[Fence.wide]at h,?_⟩;·rw[<-hW1,hrec];exact run_enterLoop_outer _ _ _ _ _
 ·simp only[resolve,he];simp[go_sem]
 ·simp only[invoke];have:=hgo' (#[.func (.yield (w.heap.size+1)) #[] #[]]++lb) W1;simpa using this
 ·refine callsIn_W (ro:=none) ?_;have m1:=hr.mem.grow hgr;have mS:=m1.less hsub;have hnc: ∀c e f,W1.heap[w.heap.size+1]? ≠some (.cells c e f):=λc e f h=>by rw[hL1]at h;cases h
  have hncD: ∀c e f,W1.heap[w.heap.size]? ≠some (.cells c e f):=λc e f h=>by rw[hK1]at h;cases h
  have hmono: ∀t,R S rho W1 A (get s.sl t) (a.eval (.tmp t)):=λt=>(hr.slots t).mono (λb hb=>⟨hb,hgr.block b (hr.mem.slt b hb)⟩) (λ_ h=>⟨h,rfl,λ_=>hgr.szAt⟩);have hLA:LoopAt (Base.inner S rho A hpS W1) (w.heap.size+1) s.sl s.nt p assign body:=⟨⟨fn0,a.tmps,w.heap.size,by rw[hrec]at hL1;exact hL1,hr.nt,hmono⟩,mS.notL hnc,mS.Lc⟩
  have hargs:All S rho A W1 (.sc (.func (.yield (w.heap.size+1)) #[] #[])::q) ((#[Value.func (.yield (w.heap.size+1)) #[] #[]]:Array Value)++lb).toList:=by have h2:=(All.scs (S:=S) (rho:=rho) (A:=A) (w:=W1) [Value.func (.yield (w.heap.size+1)) #[] #[]]).append (hqs.grow hr.mem.slt hgr);simpa using h2
  have hlen:((#[Value.func (.yield (w.heap.size+1)) #[] #[]]:Array Value)++lb).size=q.length+1:=by have:=hargs.1;simp at this;simp;omega
  refine calls_of_wp hf hb (wp_mono (it (Base.inner S rho A hpS W1) (w.heap.size+1) (λid hid=>hr.alt id hid) hLA S rho A _ W1 ⟨start_slots hargs,mS.inner,hr.alt,?_,rfl⟩) ?_)
  ·simp only[Array.size_append,Array.size_replicate];simp only[Array.size_append]at hlen;omega
  rintro e a1 w3 ⟨S2,rho2,A2,s2,hq,hr2⟩;have fin:((∃y,resV P fn s2=some y)/\ ∃hp' nx',C hp' nx'/\Le (Base.inner S rho A hpS W1) (vst .junk s2.hp s2.nx) (vst .junk hp' nx'))->a1.defers=[]/\ ∃v,(results fn a1.tmps).run P w3= .ok v w3/\rangePost Fence.wide 0 P (w.heap.size+1) (PostM B Q) {a with defers:=[markD w.heap.size]++a.defers} (.returned v) w3:=by
   rintro⟨⟨y,hy⟩,hp',nx',hC,hle⟩;obtain⟨v,hv,_⟩:=res_sound (P:=P) hr2 hy;refine⟨hr2.defs,v,hv,?_⟩;obtain⟨S3,rho3,A3,hr3⟩:=hle S2 rho2 A2 _ w3 hr2.vst;have hW3:w3.heap[w.heap.size+1]? =some (.loop (rec .ready)):=(hr3.mem.frame.block _ (Array.getElem?_eq_some_iff.1 hL1).1 (mS.notL hnc)).trans hL1;have hD3:w3.heap[w.heap.size]? =some (.deferred (some [])):=(hr3.mem.frame.block _ (Array.getElem?_eq_some_iff.1 hK1).1 (mS.notL hncD)).trans hK1;refine⟨none,w3.putObj (w.heap.size+1) (.loop {rec .ready with state:= .exhausted}),?_,?_⟩
   ·have h0:(rec .ready).pending=none:=by rw[hrec]
    exact(run_endLoop (P:=P) hW3 (by rw[hrec];simp)).trans (congrArg (λx=>Result.ok x _) h0)
   have t3:Turn (w.heap.size+1) w3 (w3.putObj (w.heap.size+1) (.loop {rec .ready with state:= .exhausted})):=Turn.put hW3 (λc e f h=>by cases h) (λ_ _ h=>by cases h);show PostM B Q .normal {a with defers:=[markD w.heap.size]++a.defers} (w3.putObj (w.heap.size+1) (.loop {rec .ready with state:= .exhausted}));generalize w3.putObj (w.heap.size+1) (.loop {rec .ready with state:= .exhausted})=w4 at t3⊢;obtain⟨hc,hQ⟩:=k hp' nx' hC;have h6:=(m1.backS hsub hr3.mem hc).turnO t3 (by have:=hr.mem.frame.size;omega);refine⟨w.heap.size,S3,rho3,_,_,hQ,⟨λt=> ?_,h6,λid hid=>hr3.alt id hid.1,hr.nt,?_,?_,hr.mem.frame.size⟩⟩
   ·show R S3 rho3 w4 _ (get s.sl t) (a.eval (.tmp t));refine((hmono t).mono (λb hb=>⟨hr3.mem.sub b hb,hr3.mem.frame.stay b hb⟩) (λid hid=> ?_)).turn t3;exact⟨⟨(hr3.mem.keep id hid).1,λ_=>hid⟩,(hr3.mem.keep id hid).2,λn hn=>mS.innerSz hr3.mem.frame _ n hn⟩
   ·show [markD w.heap.size]++a.defers=_;rw[hr.defs,hD];rfl
   ·rw[t3.oth _ om];exact hD3
  cases e with
  |normal=>exact fin hq
  |ret=>exact fin hq
  |_=>exact hq.elim
theorem RelM.run{D:Nat}{s:SS}{a:Act}{c:Code}{Q:Exit->SS->Prop}(hr:RelM B D S rho A s a w)(h: ∀B2:Base,B2.Old s.nx->SWp P B2 c Q s):c.wp P (PostM B Q) a w:=by
 have m0:=hr.mem.inner;have hnc: ∀c e f,w.heap[D]? ≠some (.cells c e f):=λc e f h=>by rw[hr.dh]at h;cases h
 refine wp_mono (h {Base.inner S rho A s.hp w with D:=[markD D]} (λid hid=>hr.alt id hid) S rho A a w ⟨hr.slots,⟨m0.cells,m0.fz,m0.own,m0.inj,m0.slt,m0.sub,m0.base,⟨m0.frame.os,m0.frame.tape,m0.frame.output,m0.frame.size,m0.frame.block,m0.frame.stay,m0.frame.sz,m0.frame.lt,m0.frame.tab⟩,m0.keep⟩,hr.alt,hr.nt,hr.defs⟩) ?_;rintro e a' w' ⟨S',rho',A',s',hq,hr'⟩;have m1:Mem (Base.inner S rho A s.hp w) S' rho' A' s'.hp w':=⟨hr'.mem.cells,hr'.mem.fz,hr'.mem.own,hr'.mem.inj,hr'.mem.slt,hr'.mem.sub,hr'.mem.base,⟨hr'.mem.frame.os,hr'.mem.frame.tape,hr'.mem.frame.output,hr'.mem.frame.size,hr'.mem.frame.block,hr'.mem.frame.stay,hr'.mem.frame.sz,hr'.mem.frame.lt,hr'.mem.frame.tab⟩,hr'.mem.keep⟩
 refine⟨D,S',rho',A',s',hq,⟨hr'.slots,hr.mem.back m1,hr'.alt,hr'.nt,hr'.defs,?_,hr.nw⟩⟩;exact(m1.frame.block D (Array.getElem?_eq_some_iff.1 hr.dh).1 (hr.mem.notL hnc)).trans hr.dh
theorem SWpM.seq{x y:Code}{Q:Exit->SS->Prop}{K:SS->Prop}{s:SS}(h:SWpM P B x (thenQ K Q) s)(k: ∀s,K s-> ∀B2:Base,B2.Old s.nx->SWp P B2 y Q s):SWpM P B (.seq x y) Q s:=by intro S rho A a w hr hD;refine wp_seq (wp_mono (h S rho A a w hr hD) ?_);rintro e a w ⟨D,S,rho,A,s,hq,hr⟩;cases e<;>first|exact hr.run (k s hq)|exact⟨D,S,rho,A,s,hq,hr⟩
def onlyQ(K:SS->Prop):Exit->SS->Prop
 | .normal,s=>K s
 |_,_=>False
theorem SWpM.pre{x y:Code}{Q:Exit->SS->Prop}{K:SS->Prop}{s:SS}(h:SWp P B x (onlyQ K) s)(k: ∀s,K s->SWpM P B y Q s):SWpM P B (.seq x y) Q s:=by intro S rho A a w hr hD;refine wp_seq (wp_mono (h S rho A a w hr) ?_);rintro e a w ⟨S,rho,A,s,hq,hr⟩;cases e<;>first|exact k s hq S rho A a w hr hD|exact hq.elim
theorem SWpM.block{id:Nat}{c:Code}{Q:Exit->SS->Prop}{s:SS}(h:SWpM P B c (blockQ id Q) s):SWpM P B (.block id c) Q s:=by
 intro S rho A a w hr hD;refine wp_block (wp_mono (h S rho A a w hr hD) ?_);rintro e a w ⟨D,S,rho,A,s,hq,hr⟩;cases e<;>first|exact⟨D,S,rho,A,s,hq,hr⟩|skip
 rename_i id';simp only[blockQ]at hq;simp only[Exit.inBlock];split at hq;·rename_i h;rw[if_pos h];exact⟨D,S,rho,A,s,hq,hr⟩
 ·rename_i h;rw[if_neg h];exact⟨D,S,rho,A,s,hq,hr⟩
theorem Spec.ofM{f:Nat}{fn:Func}{c:Code}{args:List V}{x:V}(hf:P.funcs[f]? =some fn)(hb:fn.body=some c)(hn:args.length<=fn.ntmps)(h: ∀B:Base,B.Old 0->SWpM P B c (retQ P fn x) (SS.start args fn.ntmps)):Spec P f args x:=by
 intro S w vs hS hT hargs;have hlen:vs.size=args.length:=by have:=hargs.1;simpa using this.symm
 refine(callsIn_wide (n:=0)).1 (callsIn_of_wp_marks hf hb trivial ((wpIn_wide (n:=0)).2 ?_) rfl);refine wp_mono (h ⟨w,S,λ_=>False,λ_=>0,λ_=>False,[]⟩ (λ_ h=>h.elim) S (λ_=>0) (λ_=>False) _ w ?_ rfl) ?_
 ·refine⟨start_slots (rho:=λ_=>0) (A:=λ_=>False) hargs,?_,λ_ h=>h.elim,?_,rfl⟩
  ·exact{
    cells:=λid k hk=>by cases hk
    fz:=λid k hk=>by cases hk
    own:=λid k hk=>by cases hk
    inj:=λid id' k k' hk=>by cases hk
    slt:=hS
    sub:=λ_ h=>h
    base:=λ_ h=> .inl h
    frame:=⟨rfl,rfl,rfl,znb _,λ_ _ _=>rfl,λ_ _=>rfl,λ_ _ h=>h,hS,hT⟩
    keep:=λid h=>h.elim}
  ·simp[SS.start];omega
 ·rintro e a w1 ⟨D,S',rho,A,s,hq,hr⟩;have fin:(∃y ids,resV P fn s=some y/\frz 8 s.hp y=some (x,ids))->LeavesInM Fence.wide 0 P fn a.tmps (λe w'=> ∃v',e= .returned v'/\Grow w w'/\Rc (λb=>S b\/(w.heap.size<=b/\b<w'.heap.size)) w' x v') a.defers .returning w1:=by
   rintro⟨y,ids,h1,h2⟩;rw[hr.defs];refine⟨by simp,.inl ⟨D,_,rfl,run_takeDeferred hr.dh,?_⟩⟩;have t:Turn D w1 (w1.putObj D (.deferred none)):=Turn.put hr.dh (λc e f h=>by cases h) (λ_ _ h=>by cases h);generalize w1.putObj D (.deferred none)=w' at t⊢;have hm:=hr.mem.turnO t hr.nw;have hR:Rel (⟨w,S,λ_=>False,λ_=>0,λ_=>False,a.defers⟩:Base) S' rho A s a w':=⟨λt'=>(hr.slots t').turn t,⟨hm.cells,hm.fz,hm.own,hm.inj,hm.slt,hm.sub,hm.base,⟨hm.frame.os,hm.frame.tape,hm.frame.output,hm.frame.size,hm.frame.block,hm.frame.stay,hm.frame.sz,hm.frame.lt,hm.frame.tab⟩,hm.keep⟩,hr.alt,hr.nt,rfl⟩
   obtain⟨v,h3,h4⟩:=res_sound (P:=P) hR h1;have h5:=frz_sound hm 8 y v x ids h2 h4;have hmf:=hm.freeze ids h5.live;refine⟨v,h3,v,rfl,⟨hm.frame.os,hm.frame.tape,hm.frame.output,hm.frame.size,λb hb=>hm.frame.block b hb (λh=>h)⟩,?_⟩;refine(h5.rep.wide λb hb=> ?_).rho;rcases hmf.base b hb with h|h|h;·exact .inl h
   ·exact .inr ⟨h,hmf.slt b hb⟩
   ·exact h.elim
  cases e with
  |normal=>exact fin hq
  |ret=>exact fin hq
  |_=>exact hq.elim
end
end
section
open Go.RowKit
def lcF(lid:Nat):List OpL->V
 |[]=> .sc (.slice none 0 0)
 |a::L=> .sl lid 0 (a::L).length 5 none
def lbF(lid:Nat):List OpL->List (Nat×Blk)
 |[]=>[]
 |a::L=>[(lid,⟨80,opsC (a::L),false⟩)]
def itP(h w o m:Nat)(lc:V):List (Nat×Blk):=
 [(m+4,⟨3,[.sc (.int .i64 w)],false⟩),(m+3,⟨26,[.sl o 0 h 1 none],false⟩),(m+2,⟨32,[lc],false⟩),(m+1,⟨125,perfs,false⟩),(m,⟨26,[.sl o 0 h 1 none],false⟩)]
def itR(w o:Nat)(ids:List Nat)(M:List (List Int)):List (Nat×Blk):=(o,⟨41,slR 2 w ids,false⟩)::rowsH 68 ids (rI M)
def itH(h w o m lid:Nat)(ids:List Nat)(M:List (List Int))(L:List OpL):List (Nat×Blk):=itP h w o m (lcF lid L)++(lbF lid L++itR w o ids M)
def RdC(h w o m:Nat)(ids0:List Nat)(M':List (List Int))(L:List OpL)(op:OpL)(hp':List (Nat×Blk))(nx':Nat):Prop:=
 ∃ids',Ids o ids0 ids' h m/\hp'=(m+6,⟨80,opC op,false⟩)::itH h w o m (m+8) ids' M' (L++ [op])/\nx'=m+9
def RdS(h w K o m n:Nat)(ids0:List Nat)(l p:Nat)(slc:List (Nat×V))(ntc:Nat)(assign body:Code):Prop:=
 ∀ (ids:List Nat) (M:List (List Int)) (L:List OpL) (op:OpL),MI h w K M->MI h w K (actO M op)->OkOp h op->Ids o ids0 ids h m->L.length<=n->
  ∃s1,(∀Br:Base,Br.Old (m+7)->SWpR Tryz.prog (some l) Br assign (halfQ s1) ⟨(p,.ag (opC op))::slc,(m+6,⟨80,opC op,false⟩)::itH h w o m (m+5) ids M L,m+7,ntc⟩)/\
   ∀Br:Base,Br.Old s1.nx->SWpR Tryz.prog (some l) Br body (roundQ Br (RdC h w o m ids0 (actO M op) L op)) s1
def ItC(h w o m:Nat)(ids0:List Nat)(Mf:List (List Int))(l:List OpL)(hp':List (Nat×Blk))(nx':Nat):Prop:=
 ∃ids',Ids o ids0 ids' h m/\hp'=itH h w o m (m+5) ids' Mf l/\nx'=m+6
theorem itRun{P:Program}{f:Nat}{fn:Func}{c:Code}{args:List V}{n nx:Nat}{s0:SS}{hp:List (Nat×Blk)}{C:List (Nat×Blk)->Nat->Prop}{B1:Base}(hf:P.funcs[f]? =some fn)(hb:fn.body=some c)(hnt:fn.ntmps=n)(h0:(⟨stSl 0 args,hp,nx,n⟩:SS)=s0)(h:SC P B1 [c] (itQ P fn B1 C) s0):
  ∀fn' c',P.funcs[f]? =some fn'->fn'.body=some c'->SWp P B1 c' (itQ P fn' B1 C) ⟨stSl 0 args,hp,nx,fn'.ntmps⟩:=by
 intro fn' c' hf' hb';rw[hf]at hf';cases hf';rw[hb]at hb';cases hb';subst hnt;subst h0;exact SC.of h
theorem itQ_normal{P:Program}{fn:Func}{B1:Base}{C:List (Nat×Blk)->Nat->Prop}{s:SS}{y:V}{rs:List ResultVar}(hp':List (Nat×Blk))(nx':Nat)(hr:fn.results=rs.toArray)(h1:resG P s rs=some y)(hC:C hp' nx')(hle:Le B1 (vst .junk s.hp s.nx) (vst .junk hp' nx')):itQ P fn B1 C .normal s:=
 ⟨⟨y,by rw[resV_eq,hr];exact h1⟩,hp',nx',hC,hle⟩
theorem restH_self: ∀(hp:List (Nat×Blk)),restH hp hp=[]:=by
 have key: ∀(r l:List (Nat×Blk)),(∀p∈r,hasId l p.1=true)->restH r l=[]:=by
  intro r;induction r with
  |nil=>intro l _;rfl
  |cons p r ih=>
   intro l hl;rw[restH,if_pos (hl p (List.mem_cons_self ..))];exact ih l λq hq=>hl q (List.mem_cons_of_mem _ hq)
 intro hp;refine key hp hp ?_;have mem: ∀(l:List (Nat×Blk)) (p:Nat×Blk),p∈l->hasId l p.1=true:=by
  intro l;induction l with
  |nil=>intro p hp;cases hp
  |cons q r ih=>
   intro p hp;rw[hasId];rcases List.mem_cons.1 hp with rfl|h;·simp
   ·rw[ih p h];simp
 exact mem hp
theorem itR_lt{h w o m:Nat}{ids0 ids:List Nat}{M:List (List Int)}(hI:Ids o ids0 ids h m): ∀id k,hget (itR w o ids M) id=some k->id<m:=rows_lt hI.o1 hI.lt
theorem lbF_inv{lid:Nat}{L:List OpL}{id:Nat}{k:Blk}(h:hget (lbF lid L) id=some k):id=lid/\k=⟨80,opsC L,false⟩:=by
 cases L with
 |nil=>cases h
 |cons a L=>
  simp only[lbF,hget]at h;split at h;·cases h;exact⟨‹_›,rfl⟩
  ·cases h
theorem itP_lt{h w o m:Nat}{lc:V}: ∀id k,hget (itP h w o m lc) id=some k->m<=id/\id<m+5:=λid k hk=>by
 unfold itP at hk;simp only[hget]at hk
 repeat' (first|(split at hk;first|omega|skip)|(cases hk;done))
theorem rawLess{h w o m:Nat}{c8 c7 c6:Blk}{lc:V}{ids0 ids':List Nat}{M':List (List Int)}{L L':List OpL}(hI:Ids o ids0 ids' h m): ∀id k,hget ([(m+6,c6)]++(itP h w o m lc++(lbF (m+9) L'++itR w o ids' M'))) id=some k->
  hget ((m+9,(⟨80,opsC L',false⟩:Blk))::(m+8,c8)::(m+7,c7)::(m+6,c6)::(itP h w o m lc++(lbF (m+5) L++itR w o ids' M'))) id=some k:=by
 intro id k hk;simp only[zl8,zl7,hget]at hk⊢;by_cases e6:id=m+6
 ·rw[if_pos e6]at hk;rw[if_neg om,if_neg om,if_neg om,if_pos e6];exact hk
 rw[if_neg e6,hget_app]at hk;cases hp:hget (itP h w o m lc) id with
 |some q=>
  rw[hp]at hk;have:=itP_lt id q hp;rw[if_neg om,if_neg om,if_neg om,if_neg e6,hget_app,hp];exact hk
 | none=>
  rw[hp]at hk;simp only at hk;rw[hget_app]at hk;cases hb:hget (lbF (m+9) L') id with
  |some q=>
   rw[hb]at hk;obtain⟨rfl,rfl⟩:=lbF_inv hb;rw[if_pos rfl];exact hk
  |none=>
   rw[hb]at hk;simp only at hk;have:=itR_lt hI id k hk;rw[if_neg om,if_neg om,if_neg om,if_neg e6,hget_app,hp];simp only;rw[hget_app];cases hc:hget (lbF (m+5) L) id with
   |some q=>have:=(lbF_inv hc).1;omega
   |none=>exact hk
theorem itLe{B:Base}{h w o m lid nx1 nt:Nat}{ids0 ids:List Nat}{M:List (List Int)}{L:List OpL}{sl sl':List (Nat×V)}{pre pre':List (Nat×Blk)}{nx' n0:Nat}(f:Nat->Nat)(hB:B.Old n0)(h5:m+5<=n0)(hI:Ids o ids0 ids h m)(hf: ∀i,i<n0->f i=i)(hl:f n0=lid)(hl5:n0<=lid)
  (hinj: ∀i j,n0<=i->i<nx'->n0<=j->j<nx'->f i=f j->i=j) (hge: ∀i,n0<=i->i<nx'->n0<=f i) (hnx:n0<nx')
  (hpre: ∀i k,hget pre' i=some k->(m+5<=i/\i≠n0)/\k.cs.all clo=true/\hget pre (f i)=some k) (hp1: ∀i k,hget pre i=some k->m+5<=i/\i≠lid)
  (h1:mapSl f (λi=>i<nx') sl sl'):
  Le B ⟨sl,pre++itH h w o m lid ids M L,nx1,nt⟩ ⟨sl',pre'++itH h w o m n0 ids M L,nx',nt⟩:=by
 have hfi: ∀i,i<nx'-> ∀j,j<nx'->f i=f j->i=j:=λi hi j hj e=>by
  by_cases h1:i<n0<;>by_cases h2:j<n0;·rw[hf i h1,hf j h2]at e;exact e
  ·have:=hge j om hj;rw[hf i h1]at e;omega
  ·have:=hge i om hi;rw[hf j h2]at e;omega
  ·exact hinj i j om hi om hj e
 refine Le.map f (λi=>i<nx') hB (λi hi=>⟨by omega,hf i hi⟩) (λi hi=>hi) (λi j hi hj e=>hfi i hi j hj e) h1 (λi k' hk' hlt=> ?_);rw[hget_app]at hk';cases hp:hget pre' i with
 |some q=>
  rw[hp]at hk';cases hk';obtain⟨_,p2,p3⟩:=hpre i _ hp;rw[hget_app,p3];exact BMap.clo p2
 | none=>
  rw[hp]at hk';simp only at hk';have hnp: ∀j,j<m+5\/j=lid->hget pre j=none:=λj hj=>by
   cases hq:hget pre j with
   |none=>rfl
   |some q=>have:=hp1 j q hq;omega
  have hX: ∀j,j<m+5\/j=lid->hget (pre++itH h w o m lid ids M L) j=hget (itH h w o m lid ids M L) j:=λj hj=>by rw[hget_app,hnp j hj]
  have ho:=hI.o1;by_cases e5:i=n0
  ·subst e5;rw[hl,hX lid (.inr rfl)];unfold itH itP at hk'⊢;simp only[zl8,zl7,hget]at hk'⊢;rw[if_neg om,if_neg om,if_neg om,if_neg om,if_neg om]at hk'⊢;cases L with
   |nil=>have:=itR_lt hI _ _ hk';omega
   |cons a L=>
    simp only[lbF,zl8,zl7,hget,if_pos]at hk'⊢;cases hk';exact BMap.clo (opsC_clo _)
  ·have hi5:i<m+5:=by
    unfold itH itP at hk';simp only[zl8,zl7,hget]at hk';by_cases h4:i<m+5;·exact h4
    ·rw[if_neg om,if_neg om,if_neg om,if_neg om,if_neg om,hget_app]at hk';cases hb:hget (lbF n0 L) i with
     |some q=>exact absurd (lbF_inv hb).1 e5
     |none=>rw[hb]at hk';have:=itR_lt hI _ _ hk';omega
   have hoV:VMap f (λi=>i<nx') (.sl o 0 h 1 none) (.sl o 0 h 1 none):=VMap.sl (hf o om) om;rw[hf i om,hX i (.inl hi5)];unfold itH itP at hk'⊢;simp only[zl8,zl7,hget]at hk'⊢;by_cases q4:i=m+4;·rw[if_pos q4]at hk'⊢;cases hk';exact BMap.clo rfl
   rw[if_neg q4]at hk'⊢;by_cases q3:i=m+3
   ·rw[if_pos q3]at hk'⊢;cases hk';exact⟨_,rfl,rfl,rfl,λj y hy=>by match j,hy with|0,hy=>cases hy;exact⟨_,rfl,hoV⟩⟩
   rw[if_neg q3]at hk'⊢;by_cases q2:i=m+2
   ·rw[if_pos q2]at hk'⊢;cases hk';refine⟨_,rfl,rfl,rfl,λj y hy=> ?_⟩
    match j,hy with
    |0,hy=>
     cases hy;refine⟨_,rfl,?_⟩;cases L with
     |nil=>exact VMap.sc _
     |cons a L=>exact VMap.sl hl om
   rw[if_neg q2]at hk'⊢;by_cases q1:i=m+1;·rw[if_pos q1]at hk'⊢;cases hk';exact BMap.clo rfl
   rw[if_neg q1]at hk'⊢;by_cases q0:i=m
   ·rw[if_pos q0]at hk'⊢;cases hk';exact⟨_,rfl,rfl,rfl,λj y hy=>by match j,hy with|0,hy=>cases hy;exact⟨_,rfl,hoV⟩⟩
   rw[if_neg q0]at hk'⊢;have hlb: ∀q:Nat,m+5<=q->hget (lbF q L++itR w o ids M) i=hget (itR w o ids M) i:=λq hq=>by
    rw[hget_app];cases hb:hget (lbF q L) i with
    |some r=>have:=(lbF_inv hb).1;omega
    |none=>rfl
   rw[hlb _ om]at hk'⊢;rw[hk'];refine⟨_,rfl,rfl,rfl,λj y hy=>⟨y,hy,?_⟩⟩;unfold itR at hk';simp only[hget]at hk';split at hk'
   ·cases hk';obtain⟨i',hi',rfl⟩:=List.mem_map.1 (List.mem_of_getElem? hy);have:=hI.lt i' hi';exact VMap.sl (hf i' om) om
   ·obtain⟨q,q1,q2,q3,rfl⟩:=rows_inv hk';exact VMap.clo (List.all_eq_true.1 (rI_clo M _ (getD_mem (d:=[]) q2)) y (List.mem_of_getElem? hy))
end
section
open Go.RowKit
theorem nextCall{B:Base}{ops:Array Oper}{ls:List Oper}{cs:List Code}{Q:Exit->SS->Prop}{d:Option Nat}{h w K o m nx nt r c:Nat}{M:List (List Int)}{ids0 ids:List Nat}{y:OpL×Bool}{sl:List (Nat×V)}{hp:List (Nat×Blk)}(pre:List (Nat×Blk))(he:hp=pre++itR w o ids M)(hpre: ∀id k,hget pre id=some k->m<=id)
  (hI:Ids o ids0 ids h m) (hmn:m<=nx) (hM:MI h w K M) (hK:K<=50000000000) (hr:r<h) (hc:c<w) (hn:h<=1000000) (hw:w<=1000000) (hN:NxAll h r c M y) (k:SO Tryz.prog B ops ls cs Q ⟨putS sl d (nxV y),hp,nx,nt⟩):
  SInlQ Tryz.prog B 109 [.sl o 0 h 1 none,.sc (.int .i64 r),.sc (.int .i64 c)] d ops ls cs Q ⟨sl,hp,nx,nt⟩:=by
 subst he;have ho:=hI.o1;have hlt: ∀i,inR o ids i->i<m:=λi e=>e.elim (λe=>by omega) (hI.lt i);refine SInlQ.part pre (inR o ids) (next_q hM hK (hI.more hmn) hr hc hn hw hN) (λid k hk hp=> ?_) (inR_rows λi hi=>hi) (λx hp' nx' hq=> ?_) (λx hp' nx' hq=> ?_);·have:=hpre id k hk;have:=hlt id hp;omega
 ·obtain⟨rfl,rfl,rfl⟩:=hq;refine⟨.tu (λx hx=> ?_),⟨λy hy=> ?_,OnlyH.rows (rI_clo M)⟩,inR_rows λi hi=>hi⟩
  ·rcases List.mem_cons.1 hx with rfl|hx
   ·refine .ag λx hx=> ?_;unfold opC sv at hx;simp only[List.mem_cons,List.not_mem_nil,or_false]at hx;rcases hx with rfl|rfl|rfl|rfl|rfl;·exact .sc _
    ·exact .sc _
    ·exact .sc _
    ·exact .sc _
    ·exact .im _ _
   ·rcases List.mem_cons.1 hx with rfl|hx;·exact .sc _
    ·cases hx
  ·obtain⟨i,hi,rfl⟩:=List.mem_map.1 hy;exact .sl (.inr hi)
 ·obtain⟨rfl,rfl,rfl⟩:=hq;exact k
theorem Path.next{h r c:Nat}{M M1:List (List Int)}{l:List OpL}(hp:Path h r c M l M1)(hn:NxNo h r c M1): ∃y,NxAll h r c M y:=by
 cases hp with
 |nil=>exact⟨_,.inr ⟨hn,rfl⟩⟩
 |cons hx _=>exact⟨(_,true),.inl ⟨hx,rfl⟩⟩
theorem Path.yes{h r c:Nat}{M M1:List (List Int)}{l:List OpL}{o:OpL}(hp:Path h r c M l M1)(hn:NxNo h r c M1)(ho:Nx h r c M o): ∃l',l=o::l'/\Path h r c (actO M o) l' M1:=by
 cases hp with
 |nil=>exact(ho.no hn).elim
 |cons hx hp=>cases ho.uniq hx;exact⟨_,rfl,hp⟩
theorem Path.none{h r c:Nat}{M M1:List (List Int)}{l:List OpL}(hp:Path h r c M l M1)(ho:NxNo h r c M):l=[]/\M1=M:=by
 cases hp with
 |nil=>exact⟨rfl,rfl⟩
 |cons hx hp=>exact(hx.no ho).elim
theorem itRow{h w o m lid:Nat}{ids0 ids:List Nat}{M:List (List Int)}{L:List OpL}(hI:Ids o ids0 ids h m)(hl:m<=lid)(hM:M.length=h):hget (lbF lid L++itR w o ids M) o=some ⟨41,slR 2 w ids,false⟩/\
  ∀k,k<h-> ∃idk,idk<m/\idk≠o/\(slR 2 w ids)[k]? =some (.sl idk 0 w 2 none)/\hget (lbF lid L++itR w o ids M) idk=some ⟨68,ivR (M.getD k []),false⟩:=by
 have ho:=hI.o1;have hidl:=hI.len;have key: ∀i,i<m->hget (lbF lid L++itR w o ids M) i=hget (itR w o ids M) i:=λi hi=>by
  rw[hget_app];cases hb:hget (lbF lid L) i with
  |some r=>have:=(lbF_inv hb).1;omega
  |none=>rfl
 refine⟨by rw[key o ho];unfold itR;simp only[hget,if_pos],λk hk=> ?_⟩;have hm:=getD_mem' (ids:=ids) (k:=k) om;have hne:ids.getD k 0≠o:=λe=>hI.o2 (by rw[<-e];exact hm);have gR:=rows_get (ty:=68) (rs:=rI M) (k:=k) hI.nod om (by rw[rI_len];omega);rw[rI_getD]at gR;refine⟨_,hI.lt _ hm,hne,slR_get om,?_⟩;rw[key _ (hI.lt _ hm)];unfold itR;simp only[hget];rw[if_neg hne];exact gR
theorem kgc{a i:Nat}{b:Blk}{r:List (Nat×Blk)}(h:a<=i)(k: ∀id q,hget r id=some q->a<=id): ∀id q,hget ((i,b)::r) id=some q->a<=id:=λid q hq=>by
 simp only[hget]at hq;split at hq;·omega
 ·exact k id q hq
theorem kgl{a lid:Nat}{L:List OpL}(h:a<=lid): ∀id q,hget (lbF lid L) id=some q->a<=id:=λid q hq=>by have:=(lbF_inv hq).1;omega
theorem kgp{m lid:Nat}{L:List OpL}{b4 b3 b2 b1 b0:Blk}(h:m<=lid): ∀id q,hget ([(m+4,b4),(m+3,b3),(m+2,b2),(m+1,b1),(m,b0)]++lbF lid L) id=some q->m<=id:=
 kgc om (kgc om (kgc om (kgc om (kgc (znb _) (kgl h)))))
theorem only_all{p:Nat->Prop}(hp: ∀i,p i):(x:V)->Only p x
 | .sc v=> .sc v
 | .junk=> .junk
 | .ag cs=> .ag λx hx=>only_all hp x
 | .ifc t x=> .ifc (only_all hp x)
 | .tu cs=> .tu λx hx=>only_all hp x
 | .pt id off=> .pt (hp id)
 | .sl id off len z c=> .sl (hp id)
 | .im cs n=> .im cs n
 | .pi cs=> .pi cs
 | .fn f a b=> .fn (λx hx=>only_all hp x) (λx hx=>only_all hp x)
 | .mp id _ _ _=> .mp (hp id)
theorem onlyH_all{p:Nat->Prop}(hp: ∀i,p i): ∀r:List (Nat×Blk),OnlyH p r
 |[]=>trivial
 |q::r=>⟨λy _=>only_all hp y,onlyH_all hp r⟩
theorem kren{m:Nat}(b c:Blk)(hb:b.cs.all clo=true): ∀i k,hget [(m+6,b)] i=some k->(m+5<=i/\i≠m+5)/\k.cs.all clo=true/\hget [(m+9,b),(m+6,c)] (if i=m+5 then m+8 else if i=m+6 then m+9 else i)=some k:=λi k hk=>by
 simp only[hget]at hk;split at hk
 ·rename_i e;subst e;cases hk;refine⟨by omega,hb,?_⟩;rw[if_neg om,if_pos rfl];simp only[hget,if_pos]
 ·cases hk
theorem kgt2{m:Nat}(b c:Blk): ∀i k,hget [(m+9,b),(m+6,c)] i=some k->m+5<=i/\i≠m+8:=λi k hk=>by
 simp only[hget]at hk;split at hk;·omega
 ·split at hk;·omega
  ·cases hk
theorem restSOY{P:Program}{B:Base}{ops:Array Oper}{ls:List Oper}{Q:Exit->SS->Prop}{sl:List (Nat×V)}{nx nt:Nat}(A X:List (Nat×Blk))(h:SOY P B ops ls Q ⟨sl,A,nx,nt⟩):SOY P B ops ls Q ⟨sl,A++restH X X,nx,nt⟩:=by rw[restH_self,List.append_nil];exact h
theorem kone{m:Nat}(b:Blk)(hb:b.cs.all clo=true): ∀i k,hget [(m+6,b)] i=some k->m+5<i/\k.cs.all clo=true/\hget [(m+6,b)] i=some k:=λi k hk=>by
 have h:=hk;simp only[hget]at h;split at h;·cases h;exact⟨by omega,hb,hk⟩
 ·cases h
theorem kgt{m:Nat}(b:Blk): ∀i k,hget [(m+6,b)] i=some k->m+5<i:=λi k hk=>by
 simp only[hget]at hk;split at hk;·omega
 ·cases hk
set_option maxRecDepth 8000 in
theorem iter_s{h w K o m l p:Nat}{B1:Base}{ids0:List Nat}{M0 Mf:List (List Int)}{lA:List OpL}{slc:List (Nat×V)}{ntc:Nat}{assign body:Code}(hB:B1.Old (m+5))(hL:LoopAt B1 l slc ntc p assign body)(hp:p<ntc)(hI0:Ids o ids0 ids0 h m)(hK:K<=50000000000)(hn:h<=1000000)(hw:w<=1000000)
  (hC:Cols h w 0 0 M0 lA Mf) (hS: ∀i,MI h w K (actsO M0 (lA.take i))) (hO: ∀o∈lA,OkOp h o) (hR:RdS h w K o m lA.length ids0 l p slc ntc assign body):
  ∀fn c,Tryz.prog.funcs[108]? =some fn->fn.body=some c->SWp Tryz.prog B1 c (itQ Tryz.prog fn B1 (ItC h w o m ids0 Mf lA)) ⟨stSl 0 [.sc (.func (.yield l) #[] #[]),.pt (m+4) 0,.pt (m+3) 0],itH h w o m (m+5) ids0 M0 [],m+5,fn.ntmps⟩:=by
 refine itRun Tryz.func108 rfl Tryz.ntmps108 qT ?_;have hSL: ∀L R,L++R=lA->MI h w K (actsO M0 L):=λL R e=>by have:=hS L.length;rwa[<-e,List.take_left]at this
 have fid: ∀(a:Nat),m+6<=a->a<=m+7-> ∀(ids:List Nat) (M:List (List Int)) (L:List OpL),Ids o ids0 ids h m-> ∀(sl sl':List (Nat×V)) (pre pre':List (Nat×Blk)) (nx1 nt:Nat),(∀i k,hget pre' i=some k->m+5<i/\k.cs.all clo=true/\hget pre i=some k)->(∀i k,hget pre i=some k->m+5<i)->mapSl (λi=>i) (λi=>i<a) sl sl'->
   Le B1 ⟨sl,pre++itH h w o m (m+5) ids M L,nx1,nt⟩ ⟨sl',pre'++itH h w o m (m+5) ids M L,a,nt⟩:=λa ha ha7 ids M L hI sl sl' pre pre' nx1 nt h1 h2 h3=>
  itLe (n0:=m+5) (λi=>i) hB (znb _) hI (λi _=>rfl) rfl (znb _) (λi j _ _ _ _ e=>e) (λi hi _=>hi) om (λi k hk=>by have:=h1 i k hk;exact⟨by omega,this.2⟩) (λi k hk=>by have:=h2 i k hk;omega) h3
 refine qW ?_;refine SC.loop (λx:Nat×Nat×List (List Int)×List Nat×List OpL×List OpL=>⟨[(0,.sc (.func (.yield l) #[] #[])),(1,.pt (m+4) 0),(2,.pt (m+3) 0),(4,.sc (.int .i64 x.1)),(5,.sc (.int .i64 x.2.1))],[]++itH h w o m (m+5) x.2.2.2.1 x.2.2.1 x.2.2.2.2.1,m+6,50⟩)
  (λx=>x.1<=h/\x.2.1<=w/\Ids o ids0 x.2.2.2.1 h m/\x.2.2.1=actsO M0 x.2.2.2.2.1/\x.2.2.2.2.1++x.2.2.2.2.2=lA/\Cols h w x.1 x.2.1 x.2.2.1 x.2.2.2.2.2 Mf) (λx=>w-x.2.1) (0,0,M0,ids0,[],lA) ?_ ?_ ?_
 ·refine fid (m+6) om om ids0 M0 [] hI0 _ _ [] [] _ _ (λi k hk=>by cases hk) (λi k hk=>by cases hk) ?_;exact qN
 ·exact⟨znc _,znc _,hI0,rfl,rfl,hC⟩
 ·rintro⟨r,c,M,ids,L,R⟩ ⟨hr,hc,hI,hMe,hLR,hCo⟩ K2 hK2;simp only at hr hc hI hMe hLR hCo⊢;have hM:=hSL L R hLR;rw[<-hMe]at hM;have ho:=hI.o1;have hidl:=hI.len;have g1:=slR_len 2 w ids;rw[hidl]at g1;by_cases hcw:c<w/\r<h
  ·obtain⟨hcw,hrh⟩:=hcw;have q1:=decide_eq_true (p:=(c:Int)<(w:Int)) om;have q2:=decide_eq_true (p:=(r:Int)<(h:Int)) om;cases hCo with
   |done hd=>exact absurd ⟨hcw,hrh⟩ hd
   | @col _ _ _ M1 _ l1 R2 _ _ hP hN1 hC2=>
    obtain⟨y,hy⟩:=hP.next hN1;obtain⟨⟨kd,a,b,k⟩,by2⟩:=y;have hrow:=itRow (w:=w) (lid:=m+5) (L:=L) hI om hM.len;obtain⟨gX,_⟩:=hrow;simp only[itH,itP,zl8,zl7];generalize hX:lbF (m+5) L++itR w o ids M=X at*;generalize hlc:lcF (m+5) L=lc at*;refine qWf (Q4 @q1 @q2 @gX @g1) ?_;refine SO.inlQ qS Tab.go109 qS qS (nextCall ([(m+4,_),(m+3,_),(m+2,_),(m+1,_),(m,_)]++lbF (m+5) L) (by rw[<-hX];rfl) (kgp om) hI om hM hK hrh hcw hn hw hy ?_);have hN0:=hy;unfold nxV opC sv;refine qW ?_;refine SC.loop (λx:List (List Int)×List Nat×List OpL×(OpL×Bool)×List OpL=>⟨[(0,.sc (.func (.yield l) #[] #[])),(1,.pt (m+4) 0),(2,.pt (m+3) 0),(4,.sc (.int .i64 r)),(5,.sc (.int .i64 c)),(6,.pt (m+6) 0),(7,.sc (.bool x.2.2.2.1.2))],[(m+6,⟨80,opC x.2.2.2.1.1,false⟩)]++itH h w o m (m+5) x.2.1 x.1 x.2.2.1,m+7,50⟩)
     (λx=>Ids o ids0 x.2.1 h m/\x.1=actsO M0 x.2.2.1/\x.2.2.1++(x.2.2.2.2++R2)=lA/\Path h r c x.1 x.2.2.2.2 M1/\NxAll h r c x.1 x.2.2.2.1) (λx=>x.2.2.2.2.length) (M,ids,L,(⟨kd,a,b,k⟩,by2),l1) ?_ ?_ ?_
    ·rw[<-hX,<-hlc];refine fid (m+7) om om ids M L hI _ _ [(m+6,_)] [(m+6,_)] _ _ (kone _ rfl) (kgt _) ?_;exact qN
    ·exact⟨hI,hMe,by simp only;rw[<-hLR],hP,hN0⟩
    ·rintro⟨M,ids,L,⟨op,yb⟩,l2⟩ ⟨hI,hMe,hLR,hP,hy⟩ K3 hK3;simp only at hI hMe hLR hP hy⊢;have hM:=hSL L _ hLR;rw[<-hMe]at hM;cases yb with
     | true=>
      rcases hy with⟨hx,_⟩|⟨_,hx⟩
      ·simp only at hx;obtain⟨l',rfl,hP'⟩:=hP.yes hN1 hx;have hM':=hSL (L++ [op]) (l'++R2) (by rw[<-hLR];simp);rw[acts_snoc,<-hMe]at hM';have hok:OkOp h op:=hO op (by rw[<-hLR];simp);obtain⟨s1,a1,a2⟩:=hR ids M L op hM hM' hok hI (by rw[<-hLR];simp);simp only[zl8,zl7];refine SC.seq (SC.seq (SC.region qS (SC.condB qS (pickT (SC.skip (SC.seq (SC.block (SC.seq ?_))))))));refine SWp.regionY (SOY.run qS rfl (SOY.run qS rfl ?_));refine SOY.yield (hpS:=(m+6,⟨80,opC op,false⟩)::itH h w o m (m+5) ids M L) (C:=RdC h w o m ids0 (actO M op) L op) (s1:=s1) hL qS qS hp (λid k hk=>hk) a1 a2 ?_;rintro hp' nx' ⟨ids',hI',rfl,rfl⟩;refine⟨onlyH_all (λi=> ?_) _,?_⟩;·exact(congrArg (λq=>hasId q i) (restH_self _)).trans rfl
       refine restSOY ((m+6,(⟨80,opC op,false⟩:Blk))::itH h w o m (m+8) ids' (actO M op) (L++ [op])) ((m+6,(⟨80,opC op,false⟩:Blk))::itH h w o m (m+5) ids M L) ?_;refine SOY.run qS rfl (SOY.nil (ozf ?_));obtain⟨y',hy'⟩:=hP'.next hN1;have hLR':(L++ [op])++(l'++R2)=lA:=by rw[<-hLR];simp
       have hMe':actO M op=actsO M0 (L++ [op]):=by rw[acts_snoc,<-hMe]
       generalize hL':L++ [op]=L' at*;generalize actO M op=M' at*;obtain⟨⟨kd',a',b',k'⟩,by'⟩:=y';simp only[itH,itP,zl8,zl7];generalize hX:lbF (m+8) L'++itR w o ids' M'=X at*;generalize hlc:lcF (m+8) L'=lc at*;unfold opC sv;refine qW ?_;refine SO.inlQ qS Tab.go109 qS qS (nextCall ([(m+9,_),(m+6,_),(m+4,_),(m+3,_),(m+2,_),(m+1,_),(m,_)]++lbF (m+8) L') (by rw[<-hX];rfl) (kgc om (kgc om (kgp om))) hI' om hM' hK hrh hcw hn hw hy' ?_);have hN':=hy';unfold nxV opC sv;refine qW ?_;refine hK3 _ (M',ids',L',(⟨kd',a',b',k'⟩,by'),l') ?_ ⟨hI',hMe',hLR',hP',hN'⟩ (by simp);rw[<-hX,<-hlc];refine itLe (lid:=m+8) (pre:=[(m+9,_),(m+6,_)]) (pre':=[(m+6,_)]) (nx':=m+7) (n0:=m+5) (λi=>if i=m+5 then m+8 else if i=m+6 then m+9 else i) hB (znb _) hI' (λi hi=>by rw[if_neg om,if_neg om]) (if_pos rfl) om (λi j h1 h2 h3 h4 e=>by
        have e1:i=m+5\/i=m+6:=by omega
        have e2:j=m+5\/j=m+6:=by omega
        rcases e1 with rfl|rfl<;>rcases e2 with rfl|rfl<;>simp at e<;>first|rfl|omega) (λi h1 h2=>by split<;>(try split)<;>omega) om (kren _ _ rfl) (kgt2 _ _) ?_
       (repeat' (first|exact trivial|refine mapSl_cons qS ?_ ?_|exact VMap.junk _|exact VMap.sc _|exact VMap.clo rfl|exact VMap.sl rfl om|exact VMap.cap rfl om|exact VMap.pt rfl om|exact VMap.nil_sl _ _ _|exact VMap.int (by first|rfl|omega|(dsimp only;omega))))
       all_goals first
        |exact VMap.pt (by show(if _ then _ else _)=_;rw[if_neg om,if_neg om]) om
        |exact VMap.pt (by show(if _ then _ else _)=_;rw[if_neg om,if_pos rfl]) om
      ·cases hx
     | false=>
      rcases hy with⟨_,hx⟩|⟨hno,hx⟩;·cases hx
      ·obtain⟨rfl,rfl⟩:=hP.none hno;obtain⟨gX,hrow⟩:=itRow (w:=w) (lid:=m+5) (L:=L) hI om hM.len;obtain⟨idr,hidr,hidro,gi,gR⟩:=hrow r hrh;have gl:=ivR_len (M1.getD r []);rw[(hM.get hrh).1]at gl;have gd:=ivR_drop (l:=M1.getD r []) (i:=c) (by rw[(hM.get hrh).1];exact hcw);have hf:Fits K (ent2 M1 r c):=hM.fit hrh hcw;have hx0:(M1.getD r []).getD c 0=ent2 M1 r c:=rfl;rw[hx0]at gd;have cS:=psign_i (ent2 M1 r c) K hf om;have g1:=slR_len 2 w ids;rw[hI.len]at g1;simp only[itH,itP,zl8,zl7];generalize hX:lbF (m+5) L++itR w o ids M1=X at*;generalize hlc:lcF (m+5) L=lc at*;generalize hp:ent2 M1 r c=z at*;generalize(ivR (M1.getD r [])).drop ((c+1)*2)=Z at*;unfold ivC sv at gd;simp only[zl8,zl7]at gd;generalize ivR (M1.getD r [])=row at*;have g2:c*2<row.length:=by omega
       unfold iv sv at cS;by_cases h0:z=0
       ·have q2:(z.sign !=0)=false:=by rw[h0];decide
        generalize z.sign=sz at*;refine qWf (Q8 @g1 @gX @gi @gR @gd @gl @g2 @q2) ?_;rw[if_neg (λh=>h h0)]at hC2;refine hK2 _ (r,c+1,M1,ids,L,R2) ?_ ⟨by simp only;omega,by simp only;omega,hI,hMe,hLR,hC2⟩ (by simp only;omega);rw[<-hX,<-hlc];refine fid (m+6) om om ids M1 L hI _ _ [(m+6,_)] [] _ _ (λi k hk=>by cases hk) (kgt _) ?_;exact qN
       ·have q2:(z.sign !=0)=true:=by rw[bne_iff_ne];exact λh=>h0 (Int.sign_eq_zero_iff_zero.1 h)
        generalize z.sign=sz at*;refine qWf (Q8 @g1 @gX @gi @gR @gd @gl @g2 @q2) ?_;rw[if_pos h0]at hC2;refine hK2 _ (r+1,c+1,M1,ids,L,R2) ?_ ⟨by simp only;omega,by simp only;omega,hI,hMe,hLR,hC2⟩ (by simp only;omega);rw[<-hX,<-hlc];refine fid (m+6) om om ids M1 L hI _ _ [(m+6,_)] [] _ _ (λi k hk=>by cases hk) (kgt _) ?_;exact qN
  ·have he:R=[]/\Mf=M:=by
    cases hCo with
    |done _=>exact⟨rfl,rfl⟩
    |col h1 h2 _ _ _=>exact absurd ⟨h1,h2⟩ hcw
   obtain⟨rfl,rfl⟩:=he;rw[List.append_nil]at hLR;subst hLR;have hend:ItC h w o m ids0 Mf L (itH h w o m (m+5) ids Mf L) (m+6):=⟨ids,hI,rfl,rfl⟩
   simp only[zl7];have g0:=itRow (w:=w) (lid:=m+5) (L:=L) hI om hM.len;obtain⟨gX,_⟩:=g0;by_cases hc2:c<w
   ·have q1:=decide_eq_true (p:=(c:Int)<(w:Int)) om;have q2:=decide_eq_false (p:=(r:Int)<(h:Int)) om;simp only[itH,itP,zl8,zl7];generalize hX:lbF (m+5) L++itR w o ids Mf=X at*;generalize hlc:lcF (m+5) L=lc at*;refine qWf (Q4 @q1 @q2 @gX @g1) ?_;subst hX;subst hlc;exact itQ_normal _ _ Tryz.results108 rfl hend (Le.refl _ _)
   ·have q1:=decide_eq_false (p:=(c:Int)<(w:Int)) om;simp only[itH,itP,zl8,zl7];generalize hX:lbF (m+5) L++itR w o ids Mf=X at*;generalize hlc:lcF (m+5) L=lc at*;refine qWf (Q3 @q1 @gX @g1) ?_;subst hX;subst hlc;exact itQ_normal _ _ Tryz.results108 rfl hend (Le.refl _ _)
end
section
open Go.RowKit
def RedQ(h w o:Nat)(ids:List Nat)(M:List (List Int))(nx:Nat)(x:V)(hp':List (Nat×Blk))(nx':Nat):Prop:=
 x= .fn (.func 108) [] [.pt (nx+1) 0,.pt nx 0]/\hp'=(nx+1,⟨3,[.sc (.int .i64 w)],false⟩)::(nx,⟨26,[.sl o 0 h 1 none],false⟩)::itR w o ids M/\nx'=nx+2
theorem reduction_q{h w o nx:Nat}{ids:List Nat}{M:List (List Int)}:
  InlQ Tryz.prog 79 [.sl o 0 h 1 none,.sc (.int .i64 w)] (itR w o ids M) nx (RedQ h w o ids M nx):=by
 refine InlQ.run Tryz.func79 rfl Tryz.ntmps79 (by simp) qT λB hB=> ?_;generalize hX:itR w o ids M=X;refine qWD ?_;subst hX;exact retIQ_ret _ _ _ Tryz.results79 qS ⟨rfl,rfl,rfl⟩ (Le.refl _ _)
theorem rawLess0{h w o m:Nat}{b0:Blk}{ids:List Nat}{M:List (List Int)}(hpos: ∀id k,hget (itR w o ids M) id=some k->1<=id/\id<m): ∀id k,hget (itH h w o m (m+5) ids M []) id=some k->
  hget ((m+2,(⟨32,[.sc (.slice none 0 0)],false⟩:Blk))::(m+1,⟨125,perfs,false⟩)::(m,⟨26,[.sl o 0 h 1 none],false⟩)::(0,b0)::(m+4,⟨3,[.sc (.int .i64 w)],false⟩)::(m+3,⟨26,[.sl o 0 h 1 none],false⟩)::itR w o ids M) id=some k:=by
 intro id k hk;unfold itH itP at hk;simp only[lcF,lbF,zl8,zl7,hget]at hk⊢;by_cases e4:id=m+4
 ·rw[if_pos e4]at hk;rw[if_neg om,if_neg om,if_neg om,if_neg om,if_pos e4];exact hk
 by_cases e3:id=m+3
 ·rw[if_neg om,if_pos e3]at hk;rw[if_neg om,if_neg om,if_neg om,if_neg om,if_neg om,if_pos e3];exact hk
 rw[if_neg e4,if_neg e3]at hk;by_cases e2:id=m+2;·rw[if_pos e2]at hk⊢;exact hk
 rw[if_neg e2]at hk⊢;by_cases e1:id=m+1;·rw[if_pos e1]at hk⊢;exact hk
 rw[if_neg e1]at hk⊢;by_cases e0:id=m;·rw[if_pos e0]at hk⊢;exact hk
 rw[if_neg e0]at hk⊢;have:=hpos id k hk;rw[if_neg om,if_neg e4,if_neg e3];exact hk
theorem perfCall{B:Base}{ops:Array Oper}{ls:List Oper}{cs:List Code}{Q:Exit->SS->Prop}{d:Option Nat}{h w K o m nx nt:Nat}{M:List (List Int)}{ids0 ids:List Nat}{op:OpL}{sl:List (Nat×V)}{hp:List (Nat×Blk)}(pre:List (Nat×Blk))(he:hp=pre++itR w o ids M)(hpre: ∀id k,hget pre id=some k->m<=id)
  (hI:Ids o ids0 ids h m) (hI0: ∀i∈ids0,i<m) (hmn:m<=nx) (hM:MI h w K M) (hK:K<=100000000000) (hok:OkOp h op) (hn:h<=1000000) (hw:w<=1000000) (k: ∀ids',Ids o ids0 ids' h m->SO Tryz.prog B ops ls cs Q ⟨putS sl d (.tu []),pre++itR w o ids' (actO M op),nx,nt⟩):
  SInlQ Tryz.prog B (pfn op.kd) [.sl o 0 h 1 none,.ag (opC op)] d ops ls cs Q ⟨sl,hp,nx,nt⟩:=by
 subst he;have ho:=hI.o1;have hlt: ∀i,inR o ids0 i->i<m:=λi e=>e.elim (λe=>by omega) (hI0 i);refine SInlQ.part pre (inR o ids0) (perf_s hM hK (hI.more hmn) hok hn hw) (λid k hk hp=> ?_) (inR_rows hI.sub) (λx hp' nx' hq=>actQ_part hq) (λx hp' nx' hq=> ?_);·have:=hpre id k hk;have:=hlt id hp;omega
 ·obtain⟨ids',hI',rfl,rfl,rfl⟩:=hq;exact k ids' ⟨hI'.len,hI'.nod,hI'.sub,λi hi=>hI0 i (hI'.sub i hi),ho,hI'.o2⟩
def subSl(sl:List (Nat×V)):List (Nat×V)->Prop
 |[]=>True
 |(t,y)::r=>get sl t=y/\subSl sl r
theorem Le.slotsE{B:Base}{sl sl':List (Nat×V)}{hp:List (Nat×Blk)}{nx nt:Nat}(h:subSl sl sl'):Le B ⟨sl,hp,nx,nt⟩ ⟨sl',hp,nx,nt⟩:=by
 intro S rho A a w hr;refine⟨S,rho,A,⟨λt=> ?_,hr.mem,hr.alt,hr.nt,hr.defs⟩⟩;show R S rho w A (get sl' t) _;induction sl' with
 |nil=>exact .junk _
 |cons p r ih=>
  obtain⟨i,y⟩:=p;simp only[get];by_cases e:t=i;·subst e;rw[if_pos rfl,<-h.1];exact hr.slots t
  ·rw[if_neg e];exact ih h.2
theorem itH_lt{h w o m:Nat}{ids0 ids:List Nat}{M:List (List Int)}{L:List OpL}(hI:Ids o ids0 ids h m): ∀id k,hget (itH h w o m (m+5) ids M L) id=some k->id<m+6:=λid k hk=>by
 unfold itH at hk;rw[hget_app]at hk;cases hp:hget (itP h w o m (lcF (m+5) L)) id with
 |some q=>have:=itP_lt id q hp;omega
 |none=>
  rw[hp]at hk;simp only at hk;rw[hget_app]at hk;cases hb:hget (lbF (m+5) L) id with
  |some q=>have:=(lbF_inv hb).1;omega
  |none=>rw[hb]at hk;have:=itR_lt hI id k hk;omega
theorem rdLe{B:Base}{h w o m nx1:Nat}{ids0 ids:List Nat}{M:List (List Int)}{L:List OpL}{b:OpL}(hB:B.Old (m+8))(hI:Ids o ids0 ids h m):Le B ⟨[(0,.junk)],[(m+6,⟨80,opC b,false⟩)]++itH h w o m (m+9) ids M L,nx1,1⟩ ⟨[(0,.junk)],[(m+6,⟨80,opC b,false⟩)]++itH h w o m (m+8) ids M L,m+9,1⟩:=by
 refine itLe (n0:=m+8) (lid:=m+9) (nx':=m+9) (λi=>if i=m+8 then m+9 else i) hB om hI (λi hi=>if_neg om) (if_pos rfl) om (λi j h1 h2 h3 h4 _=>by omega) (λi h1 h2=>by split<;>omega) om (λi k hk=> ?_) (λi k hk=> ?_) ⟨VMap.junk _,trivial⟩
 ·have h:=hk;simp only[hget]at h;split at h
  ·rename_i e;subst e;cases h;refine⟨by omega,rfl,?_⟩;rw[if_neg om];exact hk
  ·cases h
 ·simp only[hget]at hk;split at hk;·omega
  ·cases hk
theorem Spec.runM{P:Program}{f:Nat}{fn:Func}{c:Code}{args:List V}{x:V}{n:Nat}{s0:SS}(hf:P.funcs[f]? =some fn)(hb:fn.body=some c)(hnt:fn.ntmps=n)(hn:args.length<=n)(h0:SS.start args n=s0)(h: ∀B:Base,B.Old 0->SWpM P B c (retQ P fn x) s0):Spec P f args x:=by subst hnt;subst h0;exact Spec.ofM hf hb hn h
theorem SWpM.preC{P:Program}{B:Base}{x y:Code}{Q:Exit->SS->Prop}{s:SS}(h:SC P B [x] (onlyQ (λs=>SWpM P B y Q s)) s):SWpM P B (.seq x y) Q s:=SWpM.pre (SC.of h) (λ_ h=>h)
theorem onlyK{K:SS->Prop}{s:SS}(h:K s):onlyQ K .normal s:=h
theorem SWpM.weak{P:Program}{B:Base}{c:Code}{Q:Exit->SS->Prop}{s s':SS}(h:Le B s s')(k:SWpM P B c Q s'):SWpM P B c Q s:=λS rho A a w hr hD=>let⟨S',rho',A',hr'⟩:=h S rho A a w hr;k S' rho' A' a w hr' hD
set_option maxRecDepth 8000 in
theorem reduce_s{h w K:Nat}{M Mf:List (List Int)}{lA:List OpL}(hK:K<=50000000000)(hn:h<=1000000)(hw:w<=1000000)(hll:lA.length<=1000000000)
  (hC:Cols h w 0 0 M lA Mf) (hS: ∀i,MI h w K (actsO M (lA.take i))) (hO: ∀o∈lA,OkOp h o):
  Spec Tryz.prog 47 [mat w M] (.im (opsC lA) lA.length):=by
 have hM:MI h w K M:=hS 0;have hml:=hM.len;have c1:=imValid_s hM om hn hw;have c3:=icopied_s hM (nx:=1) hn hw;have c4:=perfs_s;unfold mat mI at*;rw[hml]at c1 c3⊢;unfold perfs at c4;refine Spec.runM Tryz.func47 rfl Tryz.ntmps47 (by simp) qT λB hB=> ?_;refine SWpM.preC ?_;refine qWD ?_;refine onlyK (SWpM.preC ?_);refine qWD ?_;refine onlyK (SWpM.preC ?_);refine qWD ?_;refine SO.inlQ qS Tab.go77 qS qS (SInlQ.newR c3 ?_ ?_ ?_);·exact klc om kln
 ·exact λx hp' nx' h=>rowsI_new h
 rintro x hp' m ⟨o,ids0,hR,rfl,rfl⟩;have ho:=hR.o1;have hI0:Ids o ids0 ids0 h m:=⟨by rw[hR.len,hml],hR.nod,λi h=>h,λi h=>(hR.lt i h).2,hR.o1.2,hR.o2⟩
 rw[hml];refine qWD ?_;refine onlyK (SWpM.preC ?_);refine qWD ?_;refine onlyK (SWpM.preC ?_);refine qWD ?_;refine onlyK ?_;refine SWpM.seq (K:=λs=> ∃ids' sl,Ids o ids0 ids' h m/\get sl 5= .pt (m+2) 0/\s=⟨sl,itH h w o m (m+5) ids' Mf lA,m+6,31⟩) (SWpM.preC ?_) ?_
 ·refine qWD ?_;refine SO.inlQ qS Tab.go79 qS qS (SInlQ.part [(m+1+1,_),(m+1,_),(m,_),(0,_)] (λi=>inR o ids0 i\/m+3<=i) reduction_q (λid k hk hp=> ?_) (λid k hk=> .inl (inR_rows (λi hi=>hi) id k hk)) (λx hp' nx' hq=> ?_) ?_)
  ·have h1:1<=id/\id<m\/m+3<=id:=hp.imp (λe=>e.elim (λe=>by omega) (λe=>hR.lt id e)) (λe=>e);simp only[hget]at hk
   repeat' (first|(split at hk;first|omega|skip)|(cases hk;done))
  ·obtain⟨rfl,rfl,rfl⟩:=hq;refine⟨.fn (λx hx=>by cases hx) (λx hx=> ?_),⟨λy hy=> ?_,λy hy=> ?_,λy hy=> ?_,OnlyH.rows (rI_clo M)⟩,λid k hk=> ?_⟩
   ·simp only[List.mem_cons,List.not_mem_nil,or_false]at hx;rcases hx with rfl|rfl;·exact .pt (.inr om)
    ·exact .pt (.inr om)
   ·simp only[List.mem_cons,List.not_mem_nil,or_false]at hy;subst hy;exact .sc _
   ·simp only[List.mem_cons,List.not_mem_nil,or_false]at hy;subst hy;exact .sl (.inl (.inl rfl))
   ·obtain⟨i,hi,rfl⟩:=List.mem_map.1 hy;exact .sl (.inl (.inr hi))
   ·simp only[hget]at hk;split at hk;·exact .inr om
    ·split at hk;·exact .inr om
     ·exact .inl (inR_rows (o:=o) (ids0:=ids0) (λi hi=>hi) id k hk)
  rintro x hp' nx' ⟨rfl,rfl,rfl⟩;refine qWD ?_;refine onlyK (SWpM.block ?_);refine SWpM.weak (Le.less (hp':=itH h w o m (m+5) ids0 M []) (rawLess0 λid k hk=> ?_) (znb _)) ?_;·exact(inR_rows (o:=o) (ids0:=ids0) (λi hi=>hi) id k hk).elim (λe=>by omega) (λe=>hR.lt id e)
  refine SWpM.weak (Le.slotsE (sl':=[(3,.pt m 0),(4,.pt (m+1) 0),(5,.pt (m+2) 0),(17,.fn (.func 108) [] [.pt (m+4) 0,.pt (m+3) 0])]) ⟨rfl,rfl,rfl,rfl,trivial⟩) ?_;refine SWpM.rangeFunc (hpS:=itH h w o m (m+5) ids0 M []) (C:=ItC h w o m ids0 Mf lA) qS Tab.go108 Tryz.func108 rfl (by rw[Tryz.ntmps108];simp) (λid k h=>h) (λB1 l hB1 hL=> ?_) ?_
  ·refine iter_s hB1 hL (show 18<31 by decide) hI0 hK hn hw hC hS hO ?_ _ _ Tryz.func108 rfl;intro ids M1 L op hM1 hM2 hok hI hLl;refine⟨⟨(6,.pt (m+7) 0)::(18,.ag (opC op)):: [(3,.pt m 0),(4,.pt (m+1) 0),(5,.pt (m+2) 0),(17,.fn (.func 108) [] [.pt (m+4) 0,.pt (m+3) 0])],(m+7,⟨80,opC op,false⟩)::(m+6,⟨80,opC op,false⟩)::itH h w o m (m+5) ids M1 L,m+8,31⟩,λBr hBr=> ?_,λBr hBr=> ?_⟩
   ·refine SWpR.region (λs h=>h) rfl ?_;unfold opC sv;refine qWD ?_;exact rfl
   ·refine SWpR.block (SWpR.seq (K:=λs=> ∃ids' sl,Ids o ids0 ids' h m/\get sl 5= .pt (m+2) 0/\get sl 6= .pt (m+7) 0/\s=⟨sl,(m+7,⟨80,opC op,false⟩)::(m+6,⟨80,opC op,false⟩)::(itP h w o m (lcF (m+5) L)++(lbF (m+5) L++itR w o ids' (actO M1 op))),m+8,31⟩) ?_ ?_)
    rotate_left
    ·rintro s ⟨ids',sl,hI',g5,g6,rfl⟩;refine SWpR.region (λs h=>h) rfl ?_;have hopc: ∃C,C=opC op/\C.length=5:=⟨_,rfl,rfl⟩
     cases L with
     |nil=>
      simp only[itP,lcF,lbF,zl8,zl7];generalize hX:itR w o ids' (actO M1 op)=X;unfold opC sv;refine qWDf (Q2 @g5 @g6) ?_;refine⟨_,_,⟨ids',hI',rfl,rfl⟩,Le.trans (Le.less (hp':=[(m+6,⟨80,opC op,false⟩)]++itH h w o m (m+9) ids' (actO M1 op) ([]++ [op])) (λid k hk=> ?_) (znb _)) (rdLe hBr hI')⟩;rw[<-hX];exact rawLess (L:=[]) hI' id k hk
     | cons x L=>
      simp only[itP,lcF,lbF,zl8,zl7];have hclo:=opsC_clo (x::L);have gl:=opsC_len (x::L);have ht:(opsC (x::L)).take ((x::L).length*5)=opsC (x::L):=zla om;have hone:=opsC_one (x::L);rw[Nat.mul_comm]at gl;have hdl:hdel (itR w o ids' (actO M1 op)) (m+5)=itR w o ids' (actO M1 op):=hdel_no λk hk=>by have:=itR_lt hI' _ k hk;omega
      generalize hX:itR w o ids' (actO M1 op)=X at*;generalize hZ:opsC (x::L)=Z at*;generalize hzl:(x::L).length=zl at*;unfold opC sv;refine qWDf (Q6 @g5 @g6 @gl @ht @hone @hdl) ?_;refine⟨_,_,⟨ids',hI',rfl,rfl⟩,Le.trans (Le.less (hp':=[(m+6,⟨80,opC op,false⟩)]++itH h w o m (m+9) ids' (actO M1 op) (x::L++ [op])) (λid k hk=> ?_) (znb _)) (rdLe hBr hI')⟩;rw[<-hX];have elc:lcF (m+9) (x::L++ [op])= .sl (m+9) 0 (zl+1) 5 none:=by rw[<-hzl];simp[lcF]
      have e5:opsC (x::L++ [op])=Z++opC op:=by rw[opsC_app,hZ];show Z++(opC op++ [])=_;rw[List.append_nil]
      have r:=rawLess (c8:=⟨80,opC op,false⟩) (c7:=⟨80,opC op,false⟩) (L:=[]) hI' id k hk;rw[elc,e5]at r;exact r
    refine SWpR.drawT 6 (by simp only[zl3,zl4];rfl) (by simp only[zl9,zl2];rfl) (λs h=>h) rfl Tab.mixed ?_ (by kernel_rfl) ?_;·exact klc (show m+7<m+8 by omega) (klc (show m+6<m+8 by omega) (λid k hk=>by have:=itH_lt hI id k hk;show id<m+8;omega))
    obtain⟨nx,hnx⟩: ∃nx,nx=m:=⟨m,rfl⟩
    subst hnx;have hkd:op.kd=1\/op.kd=2\/op.kd=3:=by rcases hok.c with⟨e,_⟩|⟨e,_⟩|⟨e,_⟩<;>omega
    simp only[itH,itP,perfs,zl8,zl7];generalize hX:lbF (nx+5) L++itR w o ids M1=X;generalize lcF (nx+5) L=lc;obtain⟨kd,a,b,k⟩:=op;simp only at hkd;rcases hkd with rfl|rfl|rfl
    ·unfold opC sv;refine qWD ?_;show SO _ _ _ _ _ _ _;refine SO.inlQ qS (by rfl) qS qS (perfCall (op:=⟨1,a,b,k⟩) ([(nx+7,_),(nx+6,_),(nx+4,_),(nx+3,_),(nx+2,_),(nx+1,_),(nx,_)]++lbF (nx+5) L) (by rw[<-hX];rfl) (kgc om (kgc om (kgp om))) hI (λi hi=>(hR.lt i hi).2) om hM1 om hok hn hw λids' hI'=> ?_);refine SO.nil ?_;exact⟨ids',_,hI',rfl,rfl,rfl⟩
    ·unfold opC sv;refine qWD ?_;show SO _ _ _ _ _ _ _;refine SO.inlQ qS (by rfl) qS qS (perfCall (op:=⟨2,a,b,k⟩) ([(nx+7,_),(nx+6,_),(nx+4,_),(nx+3,_),(nx+2,_),(nx+1,_),(nx,_)]++lbF (nx+5) L) (by rw[<-hX];rfl) (kgc om (kgc om (kgp om))) hI (λi hi=>(hR.lt i hi).2) om hM1 om hok hn hw λids' hI'=> ?_);refine SO.nil ?_;exact⟨ids',_,hI',rfl,rfl,rfl⟩
    ·unfold opC sv;refine qWD ?_;show SO _ _ _ _ _ _ _;refine SO.inlQ qS (by rfl) qS qS (perfCall (op:=⟨3,a,b,k⟩) ([(nx+7,_),(nx+6,_),(nx+4,_),(nx+3,_),(nx+2,_),(nx+1,_),(nx,_)]++lbF (nx+5) L) (by rw[<-hX];rfl) (kgc om (kgc om (kgp om))) hI (λi hi=>(hR.lt i hi).2) om hM1 om hok hn hw λids' hI'=> ?_);refine SO.nil ?_;exact⟨ids',_,hI',rfl,rfl,rfl⟩
  ·rintro hp' nx' ⟨ids',hI',rfl,rfl⟩;refine⟨onlyH_all (λi=>(congrArg (λq=>hasId q i) (restH_self _)).trans rfl) _,?_⟩;refine⟨ids',_,hI',?_,congrArg (λz=>SS.mk _ (_++z) _ _) (restH_self _)|>.trans (by rw[List.append_nil])⟩;rfl
 ·rintro s ⟨ids',sl,hI',hg,rfl⟩ B2 hB2;refine SC.of ?_;cases lA with
  |nil=>
   simp only[itH,itP,lcF,lbF,zl8,zl7];generalize itR w o ids' Mf=X;refine qWDf @hg ?_;exact qE Tryz.results47
  |cons a L=>
   have hclo:=opsC_clo (a::L);have gl:=opsC_len (a::L);have ht:(opsC (a::L)).take ((a::L).length*5)=opsC (a::L):=zla om;simp only[itH,itP,lcF,lbF,zl8,zl7];generalize itR w o ids' Mf=X;generalize opsC (a::L)=Z at*;generalize(a::L).length=n at*;refine qWDf @hg ?_;exact retQ_ret Tryz.results47 qS (qSf (Q3 @hclo @ht @gl)) rfl
end
section
open Go.RowKit
def kept(h w:Nat)(A H U C:List (List Int))(l:List OpL):V:=
 .ag [.sc (.int .i64 h),.sc (.int .i64 w),.im (imR w (rI A)) h,.sc (.int .i64 h),.sc (.int .i64 w),.im (imR w (rI H)) h,.sc (.int .i64 h),.sc (.int .i64 h),.im (imR h (rI U)) h,.sc (.int .i64 h),.sc (.int .i64 h),.im (imR h (rI C)) h,.im (opsC l) l.length]
def keptS(h w:Nat)(A:List (List Int))(l:List OpL):V:=kept h w A (actsO A l) (actsO (idL h) l) (actsO (idL h) (invL l)) l
structure Red(h w K:Nat)(A:List (List Int))(l:List OpL):Prop where
 cols:Cols h w 0 0 A l (actsO A l)
 st: ∀i,MI h w K (actsO A (l.take i))
 su: ∀i,MI h h K (actsO (idL h) (l.take i))
 sv: ∀i,MI h h K (actsO (idL h) ((invL l).take i))
 ok: ∀o∈l,OkOp h o
 len:l.length<=1000000000
theorem start_s{h w K:Nat}{A:List (List Int)}{l:List OpL}(hK:K<=50000000000)(hn:h<=1000000)(hw:w<=1000000)(hR:Red h w K A l):Spec Tryz.prog 14 [mat w A] (keptS h w A l):=by
 have hM:MI h w K A:=hR.st 0;have hI:MI h h K (idL h):=hR.su 0;have hml:=hM.len;have hil:=hI.len;have e1:(actsO A l).length=h:=by have:=(hR.st l.length).len;rwa[List.take_length]at this
 have e2:(actsO (idL h) l).length=h:=by have:=(hR.su l.length).len;rwa[List.take_length]at this
 have e3:(actsO (idL h) (invL l)).length=h:=by have:=(hR.sv (invL l).length).len;rwa[List.take_length]at this
 have c1:=imValid_s hM om hn hw;have c2:=reduce_s hK hn hw hR.len hR.cols hR.st hR.ok;have c3:=iapply_s hM hR.ok (λi _=>hR.st i) om hR.len hn hw;have c4:=pident_s h hn;have c5:=iapply_s hI hR.ok (λi _=>hR.su i) om hR.len hn hn;have c6:=iundo_s hI hR.ok (λi _=>hR.sv i) om hR.len hn hn;have c7:=ucopied_s hM hn hw;unfold keptS kept mat at*;rw[hml]at c1 c2 c3 c7⊢;rw[hil]at c4 c5 c6;rw[e1]at c3;rw[e2]at c5;rw[e3]at c6;generalize actsO A l=H at*;generalize actsO (idL h) l=U at*;generalize actsO (idL h) (invL l)=C at*;generalize idL h=I at*;refine qF Tryz.func14 Tryz.ntmps14 λB hB=> ?_;refine qW ?_;exact qE Tryz.results14
end
section
open Go.RowKit
theorem rcheck_s{h w K:Nat}{A H U C:List (List Int)}{l:List OpL}(hI:MI h h K (idL h))(hA:MI h w K A)(hH:MI h w K H)(hU:MI h h K U)(hC:MI h h K C)(hK:K<=40000000000)(hn:h<=1000000)(hw:w<=1000000)(hl: ∀o∈l,OkOp h o)(hll:l.length<=1000000000)(hS: ∀i,i<=l.length->WI h h K (actsW h (idL h++idL h++idL h) (l.take i)))(hE:MI h h K (actsO (idL h) l)):
  Spec Tryz.prog 30 [kept h w A H U C l] (.sc (.bool (chkF h w A H U C&&decide (actsO (idL h) l=U)))):=by
 have c1:=lcheck_s hA hH hU hC hK hn hw;have c2:=rident_s h hn;have c3:=lapply_s (K:=K) (M:=idL h) hI hl hS om hll hn hn;have c4:=msame_s hE hU om hn hn;have l1:=hA.len;have l2:=hI.len;have l3:=hU.len;have l4:=hE.len;generalize chkF h w A H U C=b1 at*;generalize actsO (idL h) l=E at*;generalize decide (E=U)=b2 at*;unfold herm kept mat at*;simp only[l1,l2,l3,l4]at*;generalize idL h=I at*;refine qF Tryz.func30 Tryz.ntmps30 λB hB=> ?_;cases b1<;>cases b2
 all_goals
  refine qW ?_;exact qE Tryz.results30
end
section
open Go.RowKit
theorem isF_form{h w K r:Nat}{p:Nat->Nat}{M:List (List Int)}(hM:MI h w K M)(hH:IsH h w (ent2 M) r p): ∀(k i:Nat) (last:Int),i+k=h->(i<r->last<p i)->isF M w k i last=true
 |0,_,_,_,_=>rfl
 | k+1,i,last,hk,hl=>by
  have hi:i<h:=by omega
  have hr:=hM.get hi;by_cases hir:i<r
  ·have hp:=hH.pw i hir;have e:pivI (M.getD i [])=(p i:Nat):=piv_at (by rw[hr.1];exact hp) (hH.lead i hir) (by have:=hH.pos i hir;unfold ent2 at this;omega);have hpos:=hH.pos i hir;have hlt:=hl hir;rw[isF,e,if_neg om,Int.toNat_natCast,if_neg om,if_pos (λq hq=>hH.red q i hq hir)];exact isF_form hM hH k (i+1) _ om λh1=>by have:=hH.inc i (i+1) om h1;omega
  ·have e:pivI (M.getD i [])= -1:=piv_no λc hc=>hH.zero i om hi c (by rw[hr.1]at hc;exact hc);rw[isF,e,if_pos om];exact isF_form hM hH k (i+1) _ om λh1=>by omega
theorem isH_isF{h w K r:Nat}{p:Nat->Nat}{M:List (List Int)}(hM:MI h w K M)(hH:IsH h w (ent2 M) r p):isF M w h 0 (-1)=true:=isF_form hM hH h 0 (-1) om λ_=>by omega
end
section
open Go.ChangeShapes Go.WideShapes Go.ChangeAt Go.RowKit
section
variable {H:Type} {enc:TypeId×Value->H} {P:Program} {W W':World}
theorem trodAll_below(hl:laidOutB P=true)(hb:Below W.heap.size W W'): ∀{ts:List TypeId} {vs:List Value} {ds:List (DataW H)} {ps:List MemPlace},(ts.all λt=>P.readableRec t&&decide (t<P.types.size))=true->(∀x∈ps,x.block<W.heap.size)->
  DataW.TrodAll enc P W 0 (λ_=>true) true ts vs ds ps->DataW.TrodAll enc P W' 0 (λb=>decide (b<W.heap.size)) true ts vs ds ps
 |[],vs,ds,ps,_,_,h=>by obtain⟨rfl,rfl,rfl⟩:=trodAll_nil h;exact trodAll_mk0
 |t::ts,vs,ds,ps,hr,hlt,h=>by obtain⟨v,vs',d,ds',p,q,rfl,rfl,rfl,h1,h2⟩:=trodAll_cons h;simp only[List.all_cons,Bool.and_eq_true,decide_eq_true_eq]at hr;exact trodAll_cons_mk (Below.trod hl hr.1.1 hr.1.2 h1 hb λx hx=>hlt x (List.mem_append.2 (.inl hx))) (trodAll_below hl hb hr.2 (λx hx=>hlt x (List.mem_append.2 (.inr hx))) h2)
theorem law_post{f:Func}{s:ChangeSpec}{args:Array Value}{ds gs:List (DataW H)}{before:List MemPlace}{tb:TypeId}(hl:laidOutB P=true)(hr:(f.params.toList.all λt=>P.readableRec t&&decide (t<P.types.size))=true)(hres:f.resultTypes= #[tb])
  (htb:P.underlying tb=some .bool) (hvars:s.vars=[]) (hs:s.fn H ds={results:=[.lit (.bool true)],args:=ds}) (hW:DataW.Whole enc P f.params.toList s.vars false W args.toList ds gs before) (hb:Below W.heap.size W W'):
  s.post enc P f false true false false W args (.bool true) W':=by
 have hW':=hW;obtain⟨p,q,hA,hV,rfl,hz,hn⟩:=hW;have hlt:=hW'.lt;rw[hvars]at hV;obtain⟨rfl,rfl⟩:=trodVars_none hV;have e:s.fn H (ds++ [])={results:=[.lit (.bool true)],args:=ds}:=by rw[List.append_nil];exact hs
 refine⟨ds,[],p++ [],[],p,[],hW',?_,?_,?_,hb.frame _,λh=>by cases h⟩;·rw[e,hres];exact trodAll_mk1 (shut_bool htb true)
 ·rw[e];exact trodAll_below hl hb hr (λx hx=>hlt x (List.mem_append.2 (.inl hx))) hA
 ·rw[e,hvars];exact rfl
theorem Rc.sc(S:Nat->Prop)(w:World)(v:Value):Rc S w (.sc v) v:=R.sc v
theorem Rc.scs(S:Nat->Prop)(w:World)(l:List Value):Rc S w (.ag (l.map .sc)) (.agg l.toArray):=
 R.ag (by simp) λi x u hx hu=>by rw[List.getElem?_map]at hx;rw[List.getElem?_toArray]at hu;rw[hu]at hx;cases hx;exact .sc _
theorem AllC.nil(S:Nat->Prop)(w:World):AllC S w [] []:=⟨rfl,λi x u hx=>by simp at hx⟩
theorem AllC.cons{S:Nat->Prop}{w:World}{x:V}{v:Value}{xs:List V}{vs:List Value}(h:Rc S w x v)(k:AllC S w xs vs):AllC S w (x::xs) (v::vs):=
 ⟨by simp[k.1],λi y u hy hu=>by
  cases i with
  |zero=>simp at hy hu;subst hy;subst hu;exact h
  |succ i=>simp at hy hu;exact k.2 i y u hy hu⟩
theorem Spec.law{f:Nat}{xs:List V}{args:Array Value}(h:Spec P f xs (.sc (.bool true)))(ht:TabOK (λb=>b<W.heap.size) W)(ha:AllC (λb=>b<W.heap.size) W xs args.toList):Calls P f args W λe W'=>e= .returned (.bool true)/\Below W.heap.size W W':=by
 refine(h _ W args (λ_ h=>h) ht ha).mono ?_;rintro e W' ⟨v,rfl,hg,hx⟩;have:v= .bool true:=by generalize hq:V.sc (.bool true)=q at hx;cases hx<;>cases hq;rfl
 exact⟨by rw[this],hg.os,hg.tape,hg.output,hg.size,hg.block⟩
theorem u8_wf(n:Int)(h:(Lit.int .u8 n).wf=true):0<=n/\n<=(255:Nat):=by have h1:IntKind.u8.min=0:=rfl;have h2:IntKind.u8.max=255:=rfl;simp[Lit.wf]at h;omega
end
end
end Go.Proofs.YtannldafjkjjbaaGreat
