/- Texts joined: Kb Kc Yf Ru Hj Hk Yg Yh Yi Yj Ki Im In Is Qy Kd. -/
import Derived.Test.YtannldafjkjjbaaGreatVf
import Derived.Test.YtannldafjkjjbaaGreatVg
import Derived.Test.YtannldafjkjjbaaGreatVh
import Derived.Test.YtannldafjkjjbaaGreatVi
import Derived.Test.YtannldafjkjjbaaGreatVj
set_option linter.all false
set_option maxHeartbeats 16000000
open Nat renaming reduceEqDiff → zn1, reduceLT → zn2, reduceLeDiff → zn3, reduceAdd → zn4, reduceMul → zn5, reduceSub → zn6, reduceBEq → zn7, mul_one → zn8, zero_add → zn9, one_mul → zna, le_refl → znb, zero_le → znc, add_sub_cancel_left → znd, sub_eq_zero_of_le → zne, add_assoc → znf
open Int renaming reduceToNat → zi1, reducePow → zi2
open List renaming length_append → zl1, drop_zero → zl2, take_succ_cons → zl3, take_zero → zl4, getElem?_drop → zl5, append_assoc → zl6, nil_append → zl7, cons_append → zl8, drop_succ_cons → zl9, take_of_length_le → zla, getElem?_eq_getElem → zlb, getElem?_eq_some_iff → zlc, map_cons → zld, map_nil → zle, all_eq_true → zlf
namespace Go.Proofs.YtannldafjkjjbaaGreat
section
def fac(x:Int):Nat:=if x=0 then 1 else 4*x.natAbs
theorem fac_pos(x:Int):1<=fac x:=by unfold fac;split<;>omega
def psi(M:List (List Int))(c a:Nat):Nat->Nat
 |0=>1
 |n+1=>fac (ent2 M (a+n) c)*psi M c a n
def nzc(M:List (List Int))(c a:Nat):Nat->Nat
 |0=>0
 |n+1=>(if ent2 M (a+n) c=0 then 0 else 1)+nzc M c a n
section
variable {h w r c a k N:Nat} {M M':List (List Int)} {o:OpL}
theorem psi_pos: ∀n:Nat,1<=psi M c a n
 |0=>znb _
 |n+1=>Nat.mul_le_mul (fac_pos _) (psi_pos n)
theorem psi_congr: ∀{n:Nat},(∀j,a<=j->j<a+n->ent2 M' j c=ent2 M j c)->psi M' c a n=psi M c a n
 |0,_=>rfl
 |n+1,he=>by rw[psi,psi,he (a+n) om om,psi_congr fun j h1 h2=>he j h1 om]
theorem psi_chg: ∀{n:Nat},(∀j,a<=j->j<a+n->j≠k->ent2 M' j c=ent2 M j c)->a<=k->k<a+n->psi M' c a n*fac (ent2 M k c)=psi M c a n*fac (ent2 M' k c)
 |0,_,h1,h2=>by omega
 | n+1,he,h1,h2=>by
  rw[psi,psi]
  by_cases e:k=a+n
  ·rw[psi_congr fun j h3 h4=>he j h3 om om,<-e]
   generalize fac (ent2 M k c)=x;generalize fac (ent2 M' k c)=y;generalize psi M c a n=z;grind
  ·rw[he (a+n) om om (fun x=>e x.symm),Nat.mul_assoc,Nat.mul_assoc,psi_chg (n:=n) (fun j h3 h4=>he j h3 om) h1 om]
theorem nzc_congr: ∀{n:Nat},(∀j,a<=j->j<a+n->ent2 M' j c=ent2 M j c)->nzc M' c a n=nzc M c a n
 |0,_=>rfl
 |n+1,he=>by rw[nzc,nzc,he (a+n) om om,nzc_congr fun j h1 h2=>he j h1 om]
theorem nzc_chg: ∀{n:Nat},(∀j,a<=j->j<a+n->j≠k->ent2 M' j c=ent2 M j c)->a<=k->k<a+n->nzc M' c a n+(if ent2 M k c=0 then 0 else 1)=nzc M c a n+(if ent2 M' k c=0 then 0 else 1)
 |0,_,h1,h2=>by omega
 | n+1,he,h1,h2=>by
  rw[nzc,nzc]
  by_cases e:k=a+n
  ·rw[nzc_congr fun j h3 h4=>he j h3 om om,<-e];omega
  ·rw[he (a+n) om om (fun x=>e x.symm)]
   have:=nzc_chg (n:=n) (fun j h3 h4=>he j h3 om) h1 om
   omega
theorem nzc_le: ∀n:Nat,nzc M c a n<=n
 |0=>znb _
 |n+1=>by have:=nzc_le n;rw[nzc];split<;>omega
theorem nzc_zero: ∀{n:Nat},nzc M c a n=0-> ∀j,a<=j->j<a+n->ent2 M j c=0
 |0,_,j,h1,h2=>by omega
 |n+1,h,j,h1,h2=>by
  rw[nzc]at h
  by_cases e:j=a+n
  ·rw[e];apply Classical.byContradiction;intro hn;rw[if_neg hn]at h;omega
  ·exact nzc_zero (n:=n) om j h1 om
theorem nzc_of: ∀{n:Nat},(∀j,a<=j->j<a+n->ent2 M j c=0)->nzc M c a n=0
 |0,_=>rfl
 |n+1,h=>by rw[nzc,h (a+n) om om,if_pos rfl,nzc_of fun j h1 h2=>h j h1 om]
theorem psi_le(hN:1<=N): ∀{n:Nat},(∀j,a<=j->j<a+n->(ent2 M j c).natAbs<=N)->psi M c a n<=(4*N)^n
 |0,_=>znb _
 |n+1,h=>by
  rw[psi,Nat.pow_succ,Nat.mul_comm]
  refine Nat.mul_le_mul (psi_le hN fun j h1 h2=>h j h1 om) ?_
  have:=h (a+n) om om
  unfold fac;split<;>omega
def Nm(h r c:Nat)(M:List (List Int)):Prop:=0<ent2 M r c/\ ∀k,r<k->k<h->ent2 M k c=0\/(ent2 M r c).natAbs<=(ent2 M k c).natAbs
theorem Nm.least(hn:Nm h r c M)(hr:r<h):leastT M c r (h-r)=some r:=
 least_first om (by have:=hn.1;omega) fun k h1 h2=>hn.2 k h1 om
theorem fixsign(hr:r<h)(hM:Sh h w M)(h0:ent2 M r c≠0)(hl: ∀k,r<k->k<h->ent2 M k c=0\/(ent2 M r c).natAbs<=(ent2 M k c).natAbs):
  ∃l M',Path h r c M l M'/\Nm h r c M'/\Sh h w M'/\(ent2 M' r c).natAbs=(ent2 M r c).natAbs/\l.length<=1/\prd l=1/\ ∀q,q<h->q≠r-> ∀s,ent2 M' q s=ent2 M q s:=by
 by_cases hs:ent2 M r c<0
 ·have hx:Nx h r c M ⟨2,r,0,0⟩:= .neg (least_first om h0 fun k h1 h2=>hl k h1 om) hs
  have he: ∀q,q<h-> ∀s,ent2 (actO M ⟨2,r,0,0⟩) q s=if q=r then-(ent2 M q s)else ent2 M q s:=fun q hq s=>by
   rw[sh_ent hM (hx.ok hr) hq,if_neg (by simp),if_pos rfl]
  refine⟨[_],_,.cons hx .nil,⟨?_,fun k h1 h2=> ?_⟩,sh_act hM (hx.ok hr),?_,znb _,rfl,fun q hq h1 s=> ?_⟩
  ·rw[he r hr,if_pos rfl];omega
  ·rw[he r hr,if_pos rfl,he k h2,if_neg om,Int.natAbs_neg];exact hl k h1 h2
  ·rw[he r hr,if_pos rfl,Int.natAbs_neg]
  ·rw[he q hq,if_neg h1]
 ·exact⟨[],M,.nil,⟨by omega,hl⟩,hM,rfl,by simp,rfl,fun _ _ _ _=>rfl⟩
theorem start(hr:r<h)(hM:Sh h w M){i:Nat}(hi:leastT M c r (h-r)=some i):
  ∃l M',Path h r c M l M'/\Nm h r c M'/\Sh h w M'/\l.length<=2/\prd l=1/\ ∀q,q<r-> ∀s,ent2 M' q s=ent2 M q s:=by
 obtain⟨i1,i2,i3,i4⟩:=least_some hi
 by_cases e:i=r
 ·subst e
  obtain⟨l,M',p1,p2,p3,_,p5,p6,p7⟩:=fixsign hr hM i3 fun k h1 h2=>i4 k om om
  exact⟨l,M',p1,p2,p3,by omega,p6,fun q hq s=>p7 q om om s⟩
 ·have hx:Nx h r c M ⟨1,r,i,0⟩:= .swap hi e
  have he: ∀q,q<h-> ∀s,ent2 (actO M ⟨1,r,i,0⟩) q s=if q=i then ent2 M r s else if q=r then ent2 M i s else ent2 M q s:=fun q hq s=>by
   rw[sh_ent hM (hx.ok hr) hq,if_pos rfl]
  have her:ent2 (actO M ⟨1,r,i,0⟩) r c=ent2 M i c:=by rw[he r hr,if_neg (fun x=>e x.symm),if_pos rfl]
  obtain⟨l,M',p1,p2,p3,_,p5,p6,p7⟩:=fixsign (c:=c) hr (sh_act hM (hx.ok hr)) (by rw[her];exact i3) fun k h1 h2=>by
   rw[her,he k h2]
   by_cases e1:k=i
   ·rw[if_pos e1];exact i4 r (znb _) om
   ·rw[if_neg e1,if_neg om];exact i4 k om om
  refine⟨_::l,M',.cons hx p1,p2,p3,by simp;omega,by rw[prd,p6];rfl,fun q hq s=> ?_⟩
  rw[p7 q om om s,he q om,if_neg om,if_neg om]
theorem grow0{Q X P A B:Nat}(hP:1<=P)(h1:2*(Q*P)<=2*X+P)(h2:P<=X)(he:A*(4*X)=B*1):(1+Q)*(P*P*A)<=P*P*B:=by
 have h3:Q<=Q*P:=Nat.le_mul_of_pos_right _ hP
 have h4:1+Q<=4*X:=by omega
 calc (1+Q)*(P*P*A)<=(4*X)*(P*P*A):=Nat.mul_le_mul_right _ h4
  _=P*P*(A*(4*X)):=by rw[Nat.mul_comm,Nat.mul_assoc]
  _=P*P*B:=by rw[he,zn8]
theorem grow1{Q X P Y A B:Nat}(h0:2*Y<=P)(h1:2*(Q*P)<=2*X+P)(h2:P<=X)(he:A*(4*X)=B*(4*P)):(1+Q)*(Y*Y*A)<=P*P*B:=by
 have a1:2*Y*(2*Y)<=P*P:=Nat.mul_le_mul h0 h0
 have a2:2*Y*(2*Y)=4*(Y*Y):=by rw[Nat.mul_assoc,Nat.mul_left_comm Y,<-Nat.mul_assoc]
 have a3:(1+Q)*(4*(Y*Y))<=(1+Q)*(P*P):=Nat.mul_le_mul_left _ om
 have a4:(1+Q)*(P*P)=(P+Q*P)*P:=by rw[<-Nat.mul_assoc,Nat.add_mul,zna]
 have a5:2*((P+Q*P)*P)<=5*X*P:=by
  rw[<-Nat.mul_assoc];exact Nat.mul_le_mul_right _ om
 have a6:(1+Q)*(4*(Y*Y))=4*((1+Q)*(Y*Y)):=by rw[Nat.mul_left_comm]
 have a7:5*X*P=5*(X*P):=Nat.mul_assoc _ _ _
 have a8:(1+Q)*(Y*Y)<=X*P:=by omega
 have a9:X*A=B*P:=by
  have b1:A*(4*X)=4*(X*A):=by rw[Nat.mul_left_comm,Nat.mul_comm A]
  have b2:B*(4*P)=4*(B*P):=Nat.mul_left_comm _ _ _
  omega
 calc (1+Q)*(Y*Y*A)=(1+Q)*(Y*Y)*A:=(Nat.mul_assoc _ _ _).symm
  _<=X*P*A:=Nat.mul_le_mul_right _ a8
  _=P*(X*A):=by rw[Nat.mul_comm X,Nat.mul_assoc]
  _=P*P*B:=by rw[a9,Nat.mul_comm B,Nat.mul_assoc]
theorem below(hr:r<h): ∀(n:Nat) {M:List (List Int)} {t:Nat},Sh h w M->Nm h r c M->(ent2 M r c).natAbs<2^t->t+nzc M c (r+1) (h-(r+1))<=n->
  ∃l M',Path h r c M l M'/\Nm h r c M'/\Sh h w M'/\(∀j,r<j->j<h->ent2 M' j c=0)/\prd l<=(ent2 M r c).natAbs*(ent2 M r c).natAbs*psi M c (r+1) (h-(r+1))/\l.length<=3*n/\(nzc M c (r+1) (h-(r+1))=0->l=[])/\ ∀q,q<r-> ∀s,ent2 M' q s=ent2 M q s:=by
 intro n
 induction n with
 |zero=>
  intro M t hM hn ht hle
  have hp:=hn.1
  have:t=0:=by omega
  subst this
  simp at ht;omega
 | succ n ih=>
  intro M t hM hn ht hle
  have hp:=hn.1
  by_cases hz:nzc M c (r+1) (h-(r+1))=0
  ·refine⟨[],M,.nil,hn,hM,fun j h1 h2=>nzc_zero hz j om om,?_,by simp,fun _=>rfl,fun _ _ _=>rfl⟩
   exact Nat.mul_le_mul (Nat.mul_le_mul (show 1<=_ by omega) (show 1<=_ by omega)) (psi_pos _)
  ·obtain⟨k0,hk0⟩: ∃k,r+1<=k/\k<h/\ent2 M k c≠0:=by
    apply Classical.byContradiction
    intro hno
    exact hz (nzc_of fun j h1 h2=>Classical.byContradiction fun h3=>hno ⟨j,h1,by omega,h3⟩)
   obtain⟨k,⟨hk1,hk2,hk3⟩,hkl⟩:=least_of (P:=fun k=>r+1<=k/\k<h/\ent2 M k c≠0) hk0
   have hfirst: ∀j,r<j->j<k->ent2 M j c=0:=fun j h1 h2=>Classical.byContradiction fun h3=>hkl j h2 ⟨by omega,by omega,h3⟩
   have hx:Nx h r c M ⟨3,k,r,-(nearI (ent2 M k c) (ent2 M r c))⟩:= .low (hn.least hr) hp om hk2 hk3 hfirst
   obtain⟨n1,n2⟩:=near_spec (x:=ent2 M k c) hp
   have hge:(ent2 M r c).natAbs<=(ent2 M k c).natAbs:=(hn.2 k om hk2).resolve_left hk3
   have he: ∀q,q<h-> ∀s,ent2 (actO M ⟨3,k,r,-(nearI (ent2 M k c) (ent2 M r c))⟩) q s=if q=k then ent2 M q s+ -(nearI (ent2 M k c) (ent2 M r c))*ent2 M r s else ent2 M q s:=fun q hq s=>by
    rw[sh_ent hM (hx.ok hr) hq,if_neg (by simp),if_neg (by simp)]
   have hxk:ent2 (actO M ⟨3,k,r,-(nearI (ent2 M k c) (ent2 M r c))⟩) k c=ent2 M k c-nearI (ent2 M k c) (ent2 M r c)*ent2 M r c:=by
    rw[he k hk2,if_pos rfl,Int.neg_mul,Int.sub_eq_add_neg]
   rw[<-hxk]at n1
   have hS1:=sh_act hM (hx.ok hr)
   have hpr:prd [⟨3,k,r,-(nearI (ent2 M k c) (ent2 M r c))⟩]=1+(nearI (ent2 M k c) (ent2 M r c)).natAbs:=by
    rw[prd,prd,zn8];simp only[Int.natAbs_neg]
   generalize hq:nearI (ent2 M k c) (ent2 M r c)=Q at*
   generalize hM1:actO M ⟨3,k,r,-Q⟩=M1 at*
   have hoth: ∀q,q<h->q≠k-> ∀s,ent2 M1 q s=ent2 M q s:=fun q hq h1 s=>by rw[he q hq,if_neg h1]
   have her:=hoth r hr om c
   by_cases hx0:ent2 M1 k c=0
   ·have hn1:Nm h r c M1:=⟨by rw[her];exact hp,fun j h1 h2=>by
     by_cases e:j=k
     ·rw[e];exact .inl hx0
     ·rw[her,hoth j h2 e];exact hn.2 j h1 h2⟩
    have hc1:=nzc_chg (M:=M) (M':=M1) (c:=c) (a:=r+1) (k:=k) (n:=h-(r+1)) (fun j h1 h2 h3=>hoth j om h3 c) hk1 om
    have hp1:=psi_chg (M:=M) (M':=M1) (c:=c) (a:=r+1) (k:=k) (n:=h-(r+1)) (fun j h1 h2 h3=>hoth j om h3 c) hk1 om
    rw[if_neg hk3,if_pos hx0]at hc1
    rw[show fac (ent2 M k c)=4*(ent2 M k c).natAbs from if_neg hk3,show fac (ent2 M1 k c)=1 by rw[hx0];rfl]at hp1
    obtain⟨l,M',p1,p2,p3,p4,p5,p6,p7,p8⟩:=ih (M:=M1) (t:=t) hS1 hn1 (by rw[her];exact ht) om
    refine⟨_::l,M',.cons hx (by rw[hM1];exact p1),p2,p3,p4,?_,by rw[List.length_cons];omega,fun e=>absurd e hz,fun q h1 s=>by rw[p8 q h1,hoth q om om]⟩
    rw[her]at p5
    have:=prd_app [⟨3,k,r,-Q⟩] l
    rw[hpr]at this
    show prd ([_]++l)<=_
    rw[this]
    exact Nat.le_trans (Nat.mul_le_mul_left _ p5) (grow0 om n2 hge hp1)
   ·have hlt:(ent2 M1 k c).natAbs<(ent2 M r c).natAbs:=by omega
    have hl1:leastT M1 c r (h-r)=some k:=least_uniq om om hx0 fun j h1 h2 h3=>by
     by_cases e:j=r
     ·rw[e,her];exact .inr hlt
     ·rw[hoth j om h3]
      rcases hn.2 j om om with h4|h4
      ·exact .inl h4
      ·exact .inr om
    have hx2:Nx h r c M1 ⟨1,r,k,0⟩:= .swap hl1 om
    have he2: ∀q,q<h-> ∀s,ent2 (actO M1 ⟨1,r,k,0⟩) q s=if q=k then ent2 M1 r s else if q=r then ent2 M1 k s else ent2 M1 q s:=fun q hq s=>by
     rw[sh_ent hS1 (hx2.ok hr) hq,if_pos rfl]
    have hS2:=sh_act hS1 (hx2.ok hr)
    generalize hM2:actO M1 ⟨1,r,k,0⟩=M2 at*
    have h2r:ent2 M2 r c=ent2 M1 k c:=by rw[he2 r hr,if_neg om,if_pos rfl]
    have h2k:ent2 M2 k c=ent2 M r c:=by rw[he2 k hk2,if_pos rfl,her]
    have h2o: ∀q,q<h->q≠k->q≠r-> ∀s,ent2 M2 q s=ent2 M q s:=fun q hq a b s=>by rw[he2 q hq,if_neg a,if_neg b,hoth q hq a]
    obtain⟨l3,M3,f1,f2,f3,f4,f5,f6,f7⟩:=fixsign (c:=c) hr hS2 (by rw[h2r];exact hx0) fun j h1 h2=>by
     by_cases e:j=k
     ·rw[e,h2k,h2r];exact .inr om
     ·rw[h2r,h2o j h2 e om]
      rcases hn.2 j h1 h2 with h4|h4
      ·exact .inl h4
      ·exact .inr om
    rw[h2r]at f4
    have h3k:ent2 M3 k c=ent2 M r c:=by rw[f7 k hk2 om,h2k]
    have h3o: ∀q,q<h->q≠k->q≠r-> ∀s,ent2 M3 q s=ent2 M q s:=fun q hq a b s=>by rw[f7 q hq b,h2o q hq a b]
    have hc1:=nzc_chg (M:=M) (M':=M3) (c:=c) (a:=r+1) (k:=k) (n:=h-(r+1)) (fun j h1 h2 h3=>h3o j om h3 om c) hk1 om
    have hp1:=psi_chg (M:=M) (M':=M3) (c:=c) (a:=r+1) (k:=k) (n:=h-(r+1)) (fun j h1 h2 h3=>h3o j om h3 om c) hk1 om
    rw[if_neg hk3,h3k,if_neg om]at hc1
    rw[h3k,show fac (ent2 M k c)=4*(ent2 M k c).natAbs from if_neg hk3,show fac (ent2 M r c)=4*(ent2 M r c).natAbs from if_neg om]at hp1
    obtain⟨s,rfl⟩: ∃s,t=s+1:=by
     cases t with
     |zero=>simp at ht;omega
     |succ s=>exact⟨s,rfl⟩
    rw[Nat.pow_succ]at ht
    obtain⟨l,M',p1,p2,p3,p4,p5,p6,p7,p8⟩:=ih (M:=M3) (t:=s) f3 f2 (by rw[f4];omega) om
    refine⟨_::_::(l3++l),M',.cons hx (by rw[hM1];exact .cons hx2 (by rw[hM2];exact f1.app p1)),p2,p3,p4,?_,by simp;omega,fun e=>absurd e hz,fun q h1 s=>by rw[p8 q h1,h3o q om om om]⟩
    rw[f4]at p5
    have:=prd_app [⟨3,k,r,-Q⟩] (⟨1,r,k,0⟩::(l3++l))
    rw[hpr]at this
    show prd ([_]++(⟨1,r,k,0⟩::(l3++l)))<=_
    rw[this,prd,prd_app,f6,zna]
    simp only[Int.natAbs_zero,Nat.add_zero,zna]
    exact Nat.le_trans (Nat.mul_le_mul_left _ p5) (grow1 n1 n2 hge hp1)
theorem up(hr:r<h): ∀(d:Nat) {M:List (List Int)} {j:Nat},r-j<=d->Sh h w M->Nm h r c M->(∀q,r<q->q<h->ent2 M q c=0)->(∀i,i<j->i<r->ent2 M i c/ent2 M r c=0)->(∀i,j<=i->i<r->(ent2 M i c).natAbs<=N)->
  ∃l M',Path h r c M l M'/\Nm h r c M'/\Sh h w M'/\(∀i,i<r->ent2 M' i c/ent2 M' r c=0)/\prd l<=(1+N)^(r-j)/\l.length<=r-j/\ ∀q,r<=q->q<h-> ∀s,ent2 M' q s=ent2 M q s:=by
 intro d
 induction d with
 |zero=>
  intro M j hd hM hn _ hlo _
  exact⟨[],M,.nil,hn,hM,fun i hi=>hlo i om hi,Nat.pow_pos om,by simp,fun _ _ _ _=>rfl⟩
 | succ d ih=>
  intro M j hd hM hn hz hlo hB
  have hp:=hn.1
  by_cases hj:j<r
  ·have hpow:(1+N)^(r-j)=(1+N)^(r-(j+1))*(1+N):=by rw[<-Nat.pow_succ];congr 1;omega
   by_cases h0:ent2 M j c/ent2 M r c=0
   ·obtain⟨l,M',p1,p2,p3,p4,p5,p6,p7⟩:=ih (M:=M) (j:=j+1) om hM hn hz (fun i h1 h2=>by
     by_cases e:i=j
     ·rw[e];exact h0
     ·exact hlo i om h2) (fun i h1 h2=>hB i om h2)
    exact⟨l,M',p1,p2,p3,p4,Nat.le_trans p5 (by rw[hpow];exact Nat.le_mul_of_pos_right _ om),by omega,p7⟩
   ·have hx:Nx h r c M ⟨3,j,r,-(ent2 M j c/ent2 M r c)⟩:= .up (hn.least hr) hp hz hj h0 fun i hi=>hlo i hi om
    have he: ∀q,q<h-> ∀s,ent2 (actO M ⟨3,j,r,-(ent2 M j c/ent2 M r c)⟩) q s=if q=j then ent2 M q s+ -(ent2 M j c/ent2 M r c)*ent2 M r s else ent2 M q s:=fun q hq s=>by
     rw[sh_ent hM (hx.ok hr) hq,if_neg (by simp),if_neg (by simp)]
    have hS1:=sh_act hM (hx.ok hr)
    have hQ:(ent2 M j c/ent2 M r c).natAbs<=N:=Nat.le_trans (Int.natAbs_ediv_le_natAbs _ _) (hB j (znb _) hj)
    have hmod:ent2 M j c+ -(ent2 M j c/ent2 M r c)*ent2 M r c=ent2 M j c % ent2 M r c:=by
     rw[Int.emod_def,Int.neg_mul,Int.mul_comm (ent2 M r c),Int.sub_eq_add_neg]
    generalize hM1:actO M ⟨3,j,r,-(ent2 M j c/ent2 M r c)⟩=M1 at*
    have hoth: ∀q,q<h->q≠j-> ∀s,ent2 M1 q s=ent2 M q s:=fun q hq h1 s=>by rw[he q hq,if_neg h1]
    have her:=hoth r hr om c
    have hjj:ent2 M1 j c=ent2 M j c % ent2 M r c:=by rw[he j om,if_pos rfl,hmod]
    obtain⟨l,M',p1,p2,p3,p4,p5,p6,p7⟩:=ih (M:=M1) (j:=j+1) om hS1 ⟨by rw[her];exact hp,fun k h1 h2=>by rw[her,hoth k h2 om];exact hn.2 k h1 h2⟩ (fun q h1 h2=>by rw[hoth q h2 om];exact hz q h1 h2) (fun i h1 h2=>by
     by_cases e:i=j
     ·rw[e,her,hjj]
      exact Int.ediv_eq_zero_of_lt (Int.emod_nonneg _ om) (Int.emod_lt_of_pos _ hp)
     ·rw[her,hoth i om e];exact hlo i om h2) (fun i h1 h2=>by rw[hoth i om om];exact hB i om h2)
    refine⟨_::l,M',.cons hx (by rw[hM1];exact p1),p2,p3,p4,?_,by simp;omega,fun q h1 h2 s=>by rw[p7 q h1 h2,hoth q h2 om]⟩
    rw[prd,hpow,Nat.mul_comm]
    refine Nat.mul_le_mul p5 ?_
    simp only[Int.natAbs_neg];omega
  ·exact⟨[],M,.nil,hn,hM,fun i hi=>hlo i om hi,Nat.pow_pos om,by simp,fun _ _ _ _=>rfl⟩
theorem ediv_zero{x p:Int}(hp:0<p)(h:x/p=0):0<=x/\x<p:=by
 have h1:=Int.emod_nonneg x (show p≠0 by omega)
 have h2:=Int.emod_lt_of_pos x hp
 have h3:=Int.mul_ediv_add_emod x p
 rw[h,Int.mul_zero,Int.zero_add]at h3
 omega
theorem col_ex(hr:r<h)(hM:Sh h w M)(hB:Bd h N M)(hN:1<=N){t:Nat}(ht:N<2^t):
  ∃l M',Path h r c M l M'/\NxNo h r c M'/\Sh h w M'/\((l=[]/\M'=M/\ ∀q,r<=q->q<h->ent2 M q c=0)\/(0<ent2 M' r c/\(∀j,r<j->j<h->ent2 M' j c=0)/\ ∀j,j<r->0<=ent2 M' j c/\ent2 M' j c<ent2 M' r c))/\
   prd l<=N*N*(4*N)^(h-(r+1))*(1+N)^r/\l.length<=2+(if h-(r+1)=0 then 0 else 3*(t+(h-(r+1))))+r:=by
 cases hl:leastT M c r (h-r)with
 |none=>
  refine⟨[],M,.nil,.inl hl,hM,.inl ⟨rfl,rfl,fun q h1 h2=>least_none hl q h1 om⟩,?_,by simp⟩
  exact Nat.mul_le_mul (Nat.mul_le_mul (Nat.mul_le_mul hN hN) (Nat.pow_pos om)) (Nat.pow_pos om)
 | some i=>
  obtain⟨l1,M1,a1,a2,a3,a4,a5,a6⟩:=start hr hM hl
  have hB1:Bd h N M1:=by
   have:=acts_bd hM (a1.ok hr) hB
   rwa[<-a1.acts,a5,zn8]at this
  have hz1:=nzc_le (M:=M1) (c:=c) (a:=r+1) (h-(r+1))
  obtain⟨l2,M2,b1,b2,b3,b4,b5,b6,b7,b8⟩:=below (c:=c) hr (t+nzc M1 c (r+1) (h-(r+1))) a3 a2 (Nat.lt_of_le_of_lt (hB1 r c hr) ht) (znb _)
  obtain⟨l3,M3,d1,d2,d3,d4,d5,d6,d7⟩:=up (c:=c) (N:=N) hr r (M:=M2) (j:=0) om b3 b2 b4 (fun i h1=>by omega) fun i _ h1=>by
   rw[b8 i h1,a6 i h1];exact hB i c om
  have hz3: ∀j,r<j->j<h->ent2 M3 j c=0:=fun j h1 h2=>by rw[d7 j om h2];exact b4 j h1 h2
  refine⟨l1++(l2++l3),M3,a1.app (b1.app d1),.inr ⟨d2.least hr,d2.1,hz3,d4⟩,d3,.inr ⟨d2.1,hz3,fun j h1=>ediv_zero d2.1 (d4 j h1)⟩,?_,?_⟩
  ·rw[prd_app,prd_app,a5,zna]
   refine Nat.mul_le_mul (Nat.le_trans b5 ?_) d5
   refine Nat.mul_le_mul (Nat.mul_le_mul (hB1 r c hr) (hB1 r c hr)) (psi_le hN fun j h1 h2=>hB1 j c om)
  ·rw[zl1,zl1]
   by_cases e:h-(r+1)=0
   ·rw[if_pos e]
    have:=b7 om
    rw[this];simp;omega
   ·rw[if_neg e];omega
end
end
section
inductive Cols(h w:Nat):Nat->Nat->List (List Int)->List OpL->List (List Int)->Prop
 |done {r c:Nat} {M:List (List Int)}: ¬(c<w/\r<h)->Cols h w r c M [] M
 |col {r c:Nat} {M M1 M2:List (List Int)} {l m:List OpL}:c<w->r<h->Path h r c M l M1->NxNo h r c M1->Cols h w (if ent2 M1 r c≠0 then r+1 else r) (c+1) M1 m M2->Cols h w r c M (l++m) M2
section
variable {h w r c N:Nat} {M M':List (List Int)}
theorem Cols.acts{l:List OpL}(hp:Cols h w r c M l M'):M'=actsO M l:=by
 induction hp with
 |done=>rfl
 |col _ _ p1 _ _ ih=>rw[ih,p1.acts,actsO_app]
theorem Cols.ok{l:List OpL}(hp:Cols h w r c M l M'): ∀o∈l,OkI h o:=by
 induction hp with
 |done=>intro o ho;cases ho
 |col _ h1 p1 _ _ ih=>intro o ho;exact(List.mem_append.1 ho).elim (p1.ok h1 o) (ih o)
def btF(h:Nat):Nat->Nat->Nat->Nat
 |0,_,b=>b
 |k+1,r,b=>if r<h then btF h k (r+1) (b+(2*b+(h-(r+1))*(b+2)+r*(b+1)))else b
def cnF(h:Nat):Nat->Nat->Nat->Nat
 |0,_,_=>0
 |k+1,r,b=>if r<h then 2+(if h-(r+1)=0 then 0 else 3*(b+(h-(r+1))))+r+cnF h k (r+1) (b+(2*b+(h-(r+1))*(b+2)+r*(b+1)))else 0
theorem bt_mono: ∀k r b:Nat,btF h k r b<=btF h (k+1) r b
 |0,r,b=>by unfold btF;split<;>(try unfold btF)<;>omega
 |k+1,r,b=>by
  rw[btF,btF]
  split
  ·exact bt_mono k _ _
  ·exact znb _
theorem cn_mono: ∀k r b:Nat,cnF h k r b<=cnF h (k+1) r b
 |0,r,b=>by unfold cnF;omega
 |k+1,r,b=>by
  rw[cnF,cnF]
  split
  ·exact Nat.add_le_add_left (cn_mono k _ _) _
  ·exact znb _
theorem bt_ge: ∀k r b:Nat,b<=btF h k r b
 |0,_,_=>znb _
 |k+1,r,b=>by
  rw[btF];split
  ·exact Nat.le_trans om (bt_ge k _ _)
  ·exact znb _
theorem pow_grow{N b n r:Nat}(hb:N<2^b):N*(N*N*(4*N)^n*(1+N)^r)<2^(b+(2*b+n*(b+2)+r*(b+1))):=by
 have h1:N<=2^b:=Nat.le_of_lt hb
 have h2:4*N<=2^(b+2):=by rw[Nat.pow_add,Nat.mul_comm];exact Nat.mul_le_mul_right _ h1
 have h3:1+N<=2^(b+1):=by rw[Nat.pow_succ];omega
 have h4:(4*N)^n<=2^(n*(b+2)):=by rw[Nat.mul_comm n,Nat.pow_mul];exact Nat.pow_le_pow_left h2 n
 have h5:(1+N)^r<=2^(r*(b+1)):=by rw[Nat.mul_comm r,Nat.pow_mul];exact Nat.pow_le_pow_left h3 r
 have h6:N*N<=2^(2*b):=by rw[Nat.two_mul,Nat.pow_add];exact Nat.mul_le_mul h1 h1
 have h7:N*N*(4*N)^n*(1+N)^r<=2^(2*b+n*(b+2)+r*(b+1)):=by
  rw[Nat.pow_add,Nat.pow_add];exact Nat.mul_le_mul (Nat.mul_le_mul h6 h4) h5
 rw[Nat.pow_add]
 exact Nat.lt_of_le_of_lt (Nat.mul_le_mul_left _ h7) (Nat.mul_lt_mul_of_pos_right hb (Nat.pow_pos om))
theorem cols_ex: ∀(k:Nat) {r c N b:Nat} {p:Nat->Nat} {M:List (List Int)},w-c<=k->Sh h w M->HS h w c r p M->Bd h N M->1<=N->N<2^b->
  ∃l M' c' r' p',Cols h w r c M l M'/\Sh h w M'/\ ¬(c'<w/\r'<h)/\HS h w c' r' p' M'/\N*prd l<2^btF h k r b/\l.length<=cnF h k r b:=by
 intro k
 induction k with
 |zero=>
  intro r c N b p M hk hM hS _ _ hb
  exact⟨[],M,c,r,p,.done om,hM,by omega,hS,by rw[prd,zn8];exact hb,by simp⟩
 | succ k ih=>
  intro r c N b p M hk hM hS hB hN hb
  by_cases hd:c<w/\r<h
  ·obtain⟨hc,hr⟩:=hd
   obtain⟨l,M1,p1,p2,p3,p4,p5,p6⟩:=col_ex (c:=c) hr hM hB hN hb
   rcases p4 with⟨rfl,rfl,hz⟩|⟨q1,q2,q3⟩
   ·have hS1:HS h w (c+1) r p M1:=⟨hS.th,hc,fun i hi=>Nat.lt_succ_of_lt (hS.pc i hi),hS.pos,hS.lead,hS.inc,hS.red,fun q h1 h2 t ht=>by
     by_cases e:t=c
     ·rw[e];exact hz q h1 h2
     ·exact hS.zero q h1 h2 t om⟩
    obtain⟨m,M2,c',r',p',a1,a2,a3,a4,a5,a6⟩:=ih om hM hS1 hB hN hb
    have h0:(if ent2 M1 r c≠0 then r+1 else r)=r:=if_neg fun hh=>hh (hz r (znb _) hr)
    exact⟨[]++m,M2,c',r',p',.col hc hr p1 p2 (by rw[h0];exact a1),a2,a3,a4,Nat.lt_of_lt_of_le a5 (Nat.pow_le_pow_right om (bt_mono _ _ _)),Nat.le_trans a6 (cn_mono _ _ _)⟩
   ·have hl: ∀q,q<h-> ∀t,t<c->ent2 M1 q t=ent2 M q t:=fun q hq t ht=>p1.left hr hM (fun q' h1 h2=>hS.zero q' h1 h2 t ht) q hq
    have hpr: ∀i,i<r->(fun i=>if i=r then c else p i) i=p i:=fun i hi=>if_neg om
    have hprr:(fun i=>if i=r then c else p i) r=c:=if_pos rfl
    have hth:=hS.th
    have hS1:HS h w (c+1) (r+1) (fun i=>if i=r then c else p i) M1:=by
     generalize(fun i=>if i=r then c else p i)=p2 at*
     refine⟨by omega,hc,fun i hi=> ?_,fun i hi=> ?_,fun i hi j hj=> ?_,fun i k h1 h2=> ?_,fun i k h1 h2=> ?_,fun q h1 h2 t ht=> ?_⟩
     ·by_cases e:i=r
      ·rw[e,hprr];omega
      ·rw[hpr i om];have:=hS.pc i om;omega
     ·by_cases e:i=r
      ·rw[e,hprr];exact q1
      ·rw[hpr i om,hl i om _ (hS.pc i om)];exact hS.pos i om
     ·by_cases e:i=r
      ·rw[e,hprr]at hj
       rw[e,hl r hr j hj];exact hS.zero r (znb _) hr j hj
      ·rw[hpr i om]at hj
       have:=hS.pc i om
       rw[hl i om j om];exact hS.lead i om j hj
     ·by_cases e:k=r
      ·rw[e,hprr,hpr i om];exact hS.pc i om
      ·rw[hpr k om,hpr i om];exact hS.inc i k h1 om
     ·by_cases e:k=r
      ·rw[e,hprr];exact q3 i om
      ·have:=hS.pc k om
       rw[hpr k om,hl i om _ this,hl k om _ this];exact hS.red i k h1 om
     ·by_cases e:t=c
      ·rw[e];exact q2 q om h2
      ·rw[hl q h2 t om];exact hS.zero q om h2 t om
    have hB1:=acts_bd hM (p1.ok hr) hB
    rw[<-p1.acts]at hB1
    have hN1:N*prd l<2^(b+(2*b+(h-(r+1))*(b+2)+r*(b+1))):=Nat.lt_of_le_of_lt (Nat.mul_le_mul_left _ p5) (pow_grow hb)
    obtain⟨m,M2,c',r',p',a1,a2,a3,a4,a5,a6⟩:=ih om p3 hS1 hB1 (Nat.mul_le_mul hN (prd_pos l)) hN1
    have h0:(if ent2 M1 r c≠0 then r+1 else r)=r+1:=if_pos om
    refine⟨l++m,M2,c',r',p',.col hc hr p1 p2 (by rw[h0];exact a1),a2,a3,a4,?_,?_⟩
    ·rw[prd_app,<-Nat.mul_assoc,btF,if_pos hr];exact a5
    ·rw[zl1,cnF,if_pos hr];omega
  ·exact⟨[],M,c,r,p,.done hd,hM,hd,hS,by rw[prd,zn8];exact Nat.lt_of_lt_of_le hb (Nat.pow_le_pow_right om (bt_ge _ _ _)),by simp⟩
theorem red_ex{N b:Nat}(hM:Sh h w M)(hB:Bd h N M)(hN:1<=N)(hb:N<2^b):
  ∃l M' r p,Cols h w 0 0 M l M'/\Sh h w M'/\IsH h w (ent2 M') r p/\N*prd l<2^btF h w 0 b/\l.length<=cnF h w 0 b:=by
 obtain⟨l,M',c',r',p',a1,a2,a3,a4,a5,a6⟩:=cols_ex (h:=h) (w:=w) w (r:=0) (c:=0) (p:=fun _=>0) (M:=M) om hM
  ⟨znc _,znc _,fun _ hi=>by omega,fun _ hi=>by omega,fun _ hi=>by omega,fun _ _ _ hk=>by omega,fun _ _ _ hk=>by omega,fun _ _ _ t ht=>by omega⟩ hB hN hb
 exact⟨l,M',r',p',a1,a2,a4.isH a3,a5,a6⟩
theorem Bd.mi{K:Nat}(hM:Sh h w M)(hB:Bd h N M)(hK:N<4294967296^K):MI h w K M:=by
 refine⟨hM.len,fun r hr=> ?_⟩
 obtain⟨i,hi,rfl⟩:=List.getElem_of_mem hr
 have hl:=hM.len
 have e:M.getD i []=M[i]:=by rw[List.getD_eq_getElem?_getD,zlb hi];rfl
 rw[<-e]
 refine⟨hM.row i om,fun x hx=> ?_⟩
 obtain⟨j,hj,rfl⟩:=List.getElem_of_mem hx
 have:=hB i j om
 unfold ent2 at this
 rw[List.getD_eq_getElem?_getD (l:=M.getD i []),zlb hj]at this
 exact Nat.lt_of_le_of_lt this hK
theorem pow_limbs{x b K:Nat}(h:x<2^b)(hb:b<=32*K):x<4294967296^K:=by
 rw[show(4294967296:Nat)=2^32 from rfl,<-Nat.pow_mul]
 exact Nat.lt_of_lt_of_le h (Nat.pow_le_pow_right om hb)
theorem states_mi{l:List OpL}{K b:Nat}(hM:Sh h w M)(hB:Bd h N M)(ho: ∀o∈l,OkI h o)(hp:N*prd l<2^b)(hb:b<=32*K)(i:Nat):MI h w K (actsO M (l.take i)):=by
 have ho': ∀o∈l.take i,OkI h o:=fun o h=>ho o (List.mem_of_mem_take h)
 exact Bd.mi (acts_sh hM ho') (acts_bd hM ho' hB) (pow_limbs (Nat.lt_of_le_of_lt (Nat.mul_le_mul_left _ (prd_take l i)) hp) hb)
theorem prd_mem{l:List OpL}{o:OpL}(h:o∈l):o.k.natAbs<prd l+1:=by
 induction l with
 |nil=>cases h
 | cons p l ih=>
  have h1:=prd_pos l
  have h2:prd l<=(1+p.k.natAbs)*prd l:=Nat.le_mul_of_pos_left _ om
  rcases List.mem_cons.1 h with rfl|h
  ·have:1+o.k.natAbs<=(1+o.k.natAbs)*prd l:=Nat.le_mul_of_pos_right _ h1
   rw[prd];omega
  ·have:=ih h;rw[prd];omega
theorem okI_ok{l:List OpL}{b:Nat}(ho: ∀o∈l,OkI h o)(hp:prd l<2^b)(hb:b<=32000000000): ∀o∈l,OkOp h o:=fun o h=>by
 have h1:=ho o h
 refine⟨h1.i,?_,h1.c⟩
 unfold Fits
 have e:=OL_eq
 generalize OL=L at*
 refine pow_limbs (b:=b) ?_ om
 have:=prd_mem h;omega
end
end
section
section
variable {h w K q t:Nat} {A:List (List Int)}
theorem w0_row1(hA:MI h w K A)(hq:q<h):(A++idL h++idL h).getD q []=A.getD q []:=by
 have hAl:=hA.len
 rw[List.getD_eq_getElem?_getD,zl6,List.getElem?_append_left om,List.getD_eq_getElem?_getD]
theorem w0_row2(hA:MI h w K A)(hq:q<h):(A++idL h++idL h).getD (h+q) []=(idL h).getD q []:=by
 have hAl:=hA.len
 have hil:(idL h).length=h:=mkM_len
 rw[List.getD_eq_getElem?_getD,zl6,List.getElem?_append_right om,List.getElem?_append_left om,hAl,znd,List.getD_eq_getElem?_getD]
theorem w0_row3(hA:MI h w K A):(A++idL h++idL h).getD (2*h+q) []=(idL h).getD q []:=by
 have hAl:=hA.len
 have hil:(idL h).length=h:=mkM_len
 rw[List.getD_eq_getElem?_getD,List.getElem?_append_right (by rw[zl1];omega),zl1,hAl,hil,<-Nat.two_mul,znd,List.getD_eq_getElem?_getD]
theorem idL_row(hq:q<h):((idL h).getD q []).length=h:=by
 have hI:=mk_mi (h:=h) (w:=h) (K:=1) (f:=fun r c=>if r=c then(1:Int)else 0) fun _ _ _ _=>fits01
 exact(hI.get hq).1
theorem idL_ent(hq:q<h)(ht:t<h):ent2 (idL h) q t=if q=t then 1 else 0:=ent_mk hq ht
theorem idL_abs(hq:q<h):(ent2 (idL h) q t).natAbs<=1:=by
 by_cases ht:t<h
 ·rw[idL_ent hq ht];split<;>decide
 ·have:=idL_row (h:=h) hq
  unfold ent2
  rw[List.getD_eq_getElem?_getD,List.getElem?_eq_none om];decide
theorem w0_ws(hA:MI h w K A):WS h w (A++idL h++idL h):=by
 have hAl:=hA.len
 have hil:(idL h).length=h:=mkM_len
 refine⟨by rw[zl1,zl1];omega,fun q hq=>by rw[w0_row1 hA hq];exact(hA.get hq).1,fun q h1 h2=> ?_⟩
 by_cases h3:q<2*h
 ·obtain⟨r,rfl⟩: ∃r,q=h+r:=⟨q-h,by omega⟩
  rw[w0_row2 hA om];exact idL_row om
 ·obtain⟨r,rfl⟩: ∃r,q=2*h+r:=⟨q-2*h,by omega⟩
  rw[w0_row3 hA];exact idL_row om
theorem form_start(hA:MI h w K A):ColI h w 0 0 ((K+1)*fact (h+1)) (fun _=>0) A (A++idL h++idL h):=by
 have hAl:=hA.len
 have e1: ∀q t,q<h->ent2 (A++idL h++idL h) q t=ent2 A q t:=fun q t hq=>by unfold ent2;rw[w0_row1 hA hq]
 have e2: ∀q t,q<h->ent2 (A++idL h++idL h) (h+q) t=ent2 (idL h) q t:=fun q t hq=>by unfold ent2;rw[w0_row2 hA hq]
 have e3: ∀q t,ent2 (A++idL h++idL h) (2*h+q) t=ent2 (idL h) q t:=fun q t=>by unfold ent2;rw[w0_row3 hA]
 have hg:=pow_ge1 K
 refine⟨w0_ws hA,⟨znc _,znc _,fun i hi=>by omega,fun i hi=>by omega,fun i hi=>by omega,fun i k _ h2=>by omega,fun i k _ h2=>by omega,fun q _ _ t h3=>by omega⟩,⟨fun q t hq ht=> ?_,fun s t hs ht=> ?_⟩,⟨K,⟨fun q t hq=> ?_,fun q t hq=> ?_,fun q t hq _=> ?_⟩,by rw[Nat.sub_zero];exact znb _⟩⟩
 ·rw[e1 q t hq]
  have:=dot_congr (n:=h) (f:=fun s=>ent2 (A++idL h++idL h) (h+q) s) (f':=fun s=>if q=s then 1 else 0) (g:=fun s=>ent2 A s t) (g':=fun s=>ent2 A s t) fun s hs=>⟨by rw[e2 q s hq,idL_ent hq hs],rfl⟩
  rw[this,dot_unit,if_pos hq]
 ·have:=dot_congr (n:=h) (f:=fun q=>ent2 (A++idL h++idL h) (2*h+s) q) (f':=fun q=>if s=q then 1 else 0) (g:=fun q=>ent2 (A++idL h++idL h) q t) (g':=fun q=>ent2 A q t) fun q hq=>⟨by rw[e3,idL_ent hs hq],e1 q t hq⟩
  rw[this,dot_unit,if_pos hs]
 ·rw[e1 q t hq]
  by_cases ht:t<w
  ·exact Nat.le_of_lt (hA.fit hq ht)
  ·have:=(hA.get hq).1
   unfold ent2
   rw[List.getD_eq_getElem?_getD,List.getElem?_eq_none om]
   exact znc _
 ·rw[e2 q t hq]
  have:=idL_abs (h:=h) (t:=t) hq
  omega
 ·rw[e3 q t]
  have:=idL_abs (h:=h) (t:=t) hq
  omega
theorem Gb.fits{G L:Nat}{W:List (List Int)}{bM bV:Nat->Nat}(hW:WS h w W)(hG:Gb h W bM bV)(h1: ∀q,q<h->bM q<=4294967296^L)(h2: ∀q,q<h->bV q<=4294967296^L)(hL:L<G):WI h w G W:=by
 have hp:4294967296^L<4294967296^G:=Nat.pow_lt_pow_right om hL
 exact hG.wi hW (fun q hq=>Nat.lt_of_le_of_lt (h1 q hq) hp) (fun q hq=>Nat.lt_of_le_of_lt (h2 q hq) hp)
theorem fact_le{G n:Nat}(hK:(K+1)*fact n<=G):K<G:=by
 have:=Nat.le_mul_of_pos_right (K+1) (fact_pos n)
 omega
end
section
variable {h w c top G:Nat} {p:Nat->Nat} {A W W1:List (List Int)}
theorem ColI.wi(hI:ColI h w c top G p A W):WI h w G W:=by
 obtain⟨K,hG,hK⟩:=hI.bd
 exact hG.fits hI.ws (fun _ _=>znb _) (fun _ _=>znb _) (fact_le hK)
theorem ColI.piv_lt{K:Nat}(hK:(K+1)*fact (h-top+1)<=G)(ht:top<h):1+2*K+(K+1)*(h-(top+1))<G:=by
 have e1:1+2*K+(K+1)*(h-(top+1))+1=(K+1)*(h-top+1):=by
  obtain⟨n,hn⟩: ∃n,h=top+1+n:=⟨h-(top+1),by omega⟩
  subst hn
  rw[show top+1+n-(top+1)=n by omega,show top+1+n-top+1=n+2 by omega,Nat.mul_add (K+1) n 2];omega
 have e2:fact (h-top+1)=(h-top+1)*fact (h-top):=rfl
 rw[e2,<-Nat.mul_assoc,<-e1]at hK
 have:=Nat.le_mul_of_pos_right (1+2*K+(K+1)*(h-(top+1))+1) (fact_pos (h-top))
 omega
theorem bd_mid{K i:Nat}(hi:i<=h):4294967296^K*(12*4294967296^K)^(i-(top+1))<=4294967296^(1+2*K+(K+1)*(h-(top+1))):=by
 refine Nat.le_trans (bd_rows K (i-(top+1))) (Nat.pow_le_pow_right om ?_)
 have:=Nat.mul_le_mul_left (K+1) (show i-(top+1)<=h-(top+1) by omega)
 omega
theorem RowI.wi{K i:Nat}(hR:RowI h w c top (4294967296^K) (4294967296^K) (4294967296^K) i W)(hi:i<=h)(ht:top<h)(hK:(K+1)*fact (h-top+1)<=G):WI h w G W:=by
 have h1:4294967296^K<=4294967296^(1+2*K+(K+1)*(h-(top+1))):=Nat.pow_le_pow_right om om
 have hb: ∀q,q<h->gB top (4294967296^K) (4294967296^K*(12*4294967296^K)^(i-(top+1))) q<=4294967296^(1+2*K+(K+1)*(h-(top+1))):=fun q hq=>by
  unfold gB
  split
  ·exact h1
  ·exact bd_mid hi
 exact hR.bd.fits hR.ws hb hb (ColI.piv_lt hK ht)
theorem PairI.wi{K i:Nat}(hP:PairI h w c top i (4294967296^K) (4294967296^K) (4294967296^K*(12*4294967296^K)^(i-(top+1))) (4294967296^K*(12*4294967296^K)^(i+1-(top+1))) W)(hi:i<h)(ht:top<h)(hK:(K+1)*fact (h-top+1)<=G):WI h w G W:=by
 obtain⟨ws,⟨a,b,hG,ha,hb,_⟩,_⟩:=hP
 have h1:4294967296^K<=4294967296^(1+2*K+(K+1)*(h-(top+1))):=Nat.pow_le_pow_right om om
 have h2:=bd_mid (K:=K) (top:=top) (h:=h) (i:=i) om
 have h3:=bd_mid (K:=K) (top:=top) (h:=h) (i:=i+1) om
 have hb: ∀x y,x<=4294967296^K*(12*4294967296^K)^(i+1-(top+1))->y<=4294967296^K*(12*4294967296^K)^(i+1-(top+1))-> ∀q,q<h->bp top i x y (gB top (4294967296^K) (4294967296^K*(12*4294967296^K)^(i-(top+1)))) q<=4294967296^(1+2*K+(K+1)*(h-(top+1))):=fun x y hx hy q hq=>by
  unfold bp gB
  split
  ·exact Nat.le_trans hx h3
  ·split
   ·exact Nat.le_trans hy h3
   ·split
    ·exact h1
    ·exact h2
 exact hG.fits ws (hb a b ha (by assumption)) (hb b a (by assumption) ha) (ColI.piv_lt hK ht)
theorem RedI.wi{K i:Nat}{Z:List (List Int)}(hR:RedI h w c top (4294967296^K) (4294967296^K*(12*4294967296^K)^(h-(top+1))) i Z W)(hi:i<=top)(ht:top<h)(hh:h<=1000000)(hK:(K+1)*fact (h-top+1)<=G):WI h w G W:=
 (hR.bd1 rfl ht hh hi).fits hR.ws (fun _ _=>znb _) (fun _ _=>znb _) (ColI.piv_lt hK ht)
end
end
section
open Go.RowKit
theorem opC_z(a i j:Nat):opC ⟨a,i,j,0⟩=[.sc (.int .i64 a),.sc (.int .i64 i),.sc (.int .i64 j),.sc (.bool false),.im [] 0]:=rfl
end
section
open Go.RowKit
theorem inT{i n:Nat}(h:i<n):Spec Tryz.prog 100 [.sc (.int .i64 i),.sc (.int .i64 n)] (.sc (.bool true)):=by
 have:=inside_s i n
 rwa[decide_eq_true om]at this
theorem lvalidop_s{n:Nat}{o:OpL}(ho:OkOp n o):Spec Tryz.prog 63 [.ag (opC o),.sc (.int .i64 n)] (.sc (.bool true)):=by
 have hi:=inT ho.i
 have c0:=rvalid_i o.k OL ho.k (by have:=OL_le;omega)
 rcases ho.c with⟨e,hj,hij,hk⟩|⟨e,hj,hk⟩|⟨e,hj,hij⟩
 ·obtain⟨kd,i,j,k⟩:=o
  simp only at e hj hij hk hi c0
  subst e;subst hk
  rw[opC_z]
  have c1:Spec Tryz.prog 99 [.ag [.sc (.bool false),.im [] 0]] (.sc (.bool true)):=c0
  have hj':=inT hj
  have q1:((i:Int) !=(j:Int))=true:=by simp;omega
  refine qF Tryz.func63 Tryz.ntmps63 fun B hB=> ?_
  refine qWf @q1 ?_
  exact qE Tryz.results63
 ·obtain⟨kd,i,j,k⟩:=o
  simp only at e hj hk hi c0
  subst e;subst hk;subst hj
  rw[opC_z]
  have c1:Spec Tryz.prog 99 [.ag [.sc (.bool false),.im [] 0]] (.sc (.bool true)):=c0
  refine qF Tryz.func63 Tryz.ntmps63 fun B hB=> ?_
  refine qW ?_
  exact qE Tryz.results63
 ·obtain⟨kd,i,j,k⟩:=o
  simp only at e hj hij hi c0
  subst e
  have hj':=inT hj
  have q1:((i:Int) !=(j:Int))=true:=by simp;omega
  unfold iv sv at c0
  unfold opC sv
  simp only
  refine qF Tryz.func63 Tryz.ntmps63 fun B hB=> ?_
  refine qWf @q1 ?_
  exact qE Tryz.results63
theorem lvalid_s{n:Nat}{l:List OpL}(hl: ∀o∈l,OkOp n o)(hlen:l.length<=1000000000):Spec Tryz.prog 34 [.im (opsC l) l.length,.sc (.int .i64 n)] (.sc (.bool true)):=by
 refine qF Tryz.func34 Tryz.ntmps34 fun B hB=> ?_
 refine qW ?_
 refine SC.loop (fun k:Nat=>⟨[(0,.im (opsC l) l.length),(1,.sc (.int .i64 n)),(5,.sc (.int .i64 k))],[],0,19⟩)
  (fun k=>k<=l.length) (fun k=>l.length-k) 0 ?_ ?_ ?_
 ·exact qM
 ·exact znc _
 ·intro k hk K hK
  by_cases hc:k<l.length
  ·have q1:decide ((k:Int)<(l.length:Int))=true:=decide_eq_true om
   have g1:=opsC_drop hc
   have g2:k*5<(opsC l).length:=by rw[opsC_len];omega
   have c1:=lvalidop_s (hl _ (getD_mem (d:=⟨0,0,0,0⟩) hc))
   generalize l.getD k ⟨0,0,0,0⟩=op at*
   generalize(opsC l).drop ((k+1)*5)=D at*
   obtain⟨kd,i,j,f⟩:=op
   unfold opC sv at c1 g1
   simp only[zl8,zl7]at g1
   simp only at c1
   refine qWf (Q3 @q1 @g1 @g2) ?_
   refine hK _ (k+1) ?_ om om
   exact qM
  ·have q1:decide ((k:Int)<(l.length:Int))=false:=decide_eq_false om
   refine qWf @q1 ?_
   exact qE Tryz.results34
end
section
open Go.RowKit
theorem wk_only{p oM oU oV h w nx:Nat}{a b c:List Nat}{W:List (List Int)}{P:Nat->Prop}(hP: ∀i∈p::oM::oU::oV::(a++b++c),P i):OnlyH P (wkH p oM oU oV h w a b c W):=by
 have l2:P oM:=hP _ (by simp)
 have l3:P oU:=hP _ (by simp)
 have l4:P oV:=hP _ (by simp)
 have lr: ∀i∈a++b++c,P i:=fun i hi=>hP i (by simp only[List.mem_cons];exact .inr (.inr (.inr (.inr hi))))
 refine⟨fun y hy=> ?_,fun y hy=> ?_,fun y hy=> ?_,fun y hy=> ?_,OnlyH.rows (rI_clo W)⟩
 ·simp only[workC,List.mem_cons,List.not_mem_nil,or_false]at hy
  rcases hy with rfl|rfl|rfl|rfl|rfl|rfl|rfl|rfl|rfl<;>first|exact .sc _|exact .sl l2|exact .sl l3|exact .sl l4
 ·obtain⟨q,hq,rfl⟩:=List.mem_map.1 hy
  exact .sl (lr q (List.mem_append_left _ (List.mem_append_left _ hq)))
 ·obtain⟨q,hq,rfl⟩:=List.mem_map.1 hy
  exact .sl (lr q (List.mem_append_left _ (List.mem_append_right _ hq)))
 ·obtain⟨q,hq,rfl⟩:=List.mem_map.1 hy
  exact .sl (lr q (List.mem_append_right _ hq))
theorem wk_in{p oM oU oV h w nx:Nat}{a b c:List Nat}{W:List (List Int)}{P:Nat->Prop}(hP: ∀i∈p::oM::oU::oV::(a++b++c),P i): ∀id k,hget (wkH p oM oU oV h w a b c W) id=some k->P id:=by
 intro id k hk
 unfold wkH at hk
 simp only[hget]at hk
 split at hk
 ·rename_i e;exact hP _ (by simp[e])
 split at hk
 ·rename_i e;exact hP _ (by simp[e])
 split at hk
 ·rename_i e;exact hP _ (by simp[e])
 split at hk
 ·rename_i e;exact hP _ (by simp[e])
 ·obtain⟨q,q1,_,q3,_⟩:=rows_inv hk
  rw[<-q3];exact hP _ (by simp only[List.mem_cons];exact .inr (.inr (.inr (.inr (getD_mem' q1)))))
theorem workQ_new{h w nx:Nat}{W:List (List Int)}{x:V}{hp':List (Nat×Blk)}{nx':Nat}(hq:WorkQ h w W nx x hp' nx'):Only (fun i=>nx<=i) x/\OnlyH (fun i=>nx<=i) hp'/\ ∀id k,hget hp' id=some k->nx<=id:=by
 obtain⟨p,oM,oU,oV,a,b,c,hw,rfl,rfl⟩:=hq
 have hP: ∀i∈p::oM::oU::oV::(a++b++c),nx<=i:=fun i hi=>(hw.rng i hi).1
 exact⟨.pt (hP _ (by simp)),wk_only (nx:=0) hP,wk_in (nx:=0) hP⟩
theorem swapSub{p oM oU oV h nx i j:Nat}{a b c:List Nat}(hI:WIds p oM oU oV a b c h nx)(hi:i<h)(hj:j<h): ∀x∈swapN a i j++swapN b i j++c,x∈a++b++c:=by
 have la:=hI.la;have lb:=hI.lb;have lc:=hI.lc
 obtain⟨_,_,_,_,_,_,_,_,_,_,n5⟩:=nodup_four hI.nod
 have hll:(a++b++c).length=3*h:=by rw[zl1,zl1];omega
 have lr: ∀x∈a++b++c,x<nx:=fun x hx=>hI.rng x (by simp only[List.mem_cons];exact .inr (.inr (.inr (.inr hx))))
 have s1:=nodup_swap (i:=i) (j:=j) lr n5 om om
 have s2:=nodup_swap (i:=h+i) (j:=h+j) (fun x hx=>lr x (s1.2 x hx)) s1.1 (by rw[swapN_len];omega) (by rw[swapN_len];omega)
 rw[hI.swapL hi hj]at s2
 exact fun x hx=>s1.2 x (s2.2 x hx)
theorem not2{b0 b1:Blk}: ∀id k,hget [(1,b1),(0,b0)] id=some k-> ¬2<=id:=by
 intro id k hk
 simp only[hget]at hk
 split at hk
 ·omega
 split at hk
 ·omega
 ·cases hk
set_option maxRecDepth 8000 in
theorem lapply_s{h w K:Nat}{M:List (List Int)}{l:List OpL}(hM:MI h w K M)(hl: ∀o∈l,OkOp h o)(hS: ∀i,i<=l.length->WI h w K (actsW h (M++idL h++idL h) (l.take i)))(hK:K<=40000000000)(hll:l.length<=1000000000)(hn:h<=1000000)(hw:w<=1000000):
  Spec Tryz.prog 35 [.im (opsC l) l.length,mat w M] (.tu [mat w (actsO M l),.sc (.int .i64 0)]):=by
 have hml:=hM.len
 have c1:=lvalid_s hl om
 have c2:=hstart_q 2 hM om hn hw
 have hW0:=hS 0 (znc _)
 rw[zl4]at hW0
 have hW0:WI h w K (M++idL h++idL h):=hW0
 have eF:(actsW h (M++idL h++idL h) l).take h=actsO M l:=by rw[actsW_take hW0 hl,work0_take hM]
 have e0:actsW h (M++idL h++idL h) (l.drop 0)=actsW h (M++idL h++idL h) l:=rfl
 have hFM:=(hS l.length (znb _)).take
 rw[List.take_length,eF]at hFM
 have hFl:=hFM.len
 generalize hFF:actsW h (M++idL h++idL h) l=FF at*
 generalize hF:actsO M l=F at*
 generalize M++idL h++idL h=W0 at*
 unfold mat at*
 rw[hml]at c2⊢
 refine qF Tryz.func35 Tryz.ntmps35 fun B hB=> ?_
 refine qWD ?_
 refine SO.inlQ qS Tab.go64 qS qS (SInlQ.newR c2 ?_ ?_ ?_)
 ·exact klc om (klc om kln)
 ·exact fun x hp' nx' h=>workQ_new h
 rintro x hp' nx ⟨p,oM,oU,oV,a0,b0,c0,hWk,rfl,rfl⟩
 refine qWD ?_
 refine SC.loop (fun x:Nat×List (List Int)×List Nat×List Nat=>⟨[(0,.im (opsC l) l.length),(3,.pt 0 0),(4,.pt 1 0),(7,.pt p 0),(8,.sc (.int .i64 x.1))],(1,⟨28,[.sc (.int .i64 0),.sc (.int .i64 0),.sc (.slice none 0 0)],false⟩)::(0,⟨28,[.sc (.int .i64 h),.sc (.int .i64 w),.im (imR w (rI M)) h],false⟩)::wkH p oM oU oV h w x.2.2.1 x.2.2.2 c0 x.2.1,nx,73⟩)
  (fun x=>x.1<=l.length/\x.2.1=actsW h W0 (l.take x.1)/\WIds p oM oU oV x.2.2.1 x.2.2.2 c0 h nx/\(∀i∈p::oM::oU::oV::(x.2.2.1++x.2.2.2++c0),2<=i)/\actsW h x.2.1 (l.drop x.1)=FF) (fun x=>l.length-x.1) (0,W0,a0,b0) ?_ ?_ ?_
 ·exact qM
 ·exact⟨znc _,rfl,⟨hWk.la,hWk.lb,hWk.lc,hWk.nod,fun i hi=>(hWk.rng i hi).2⟩,fun i hi=>(hWk.rng i hi).1,e0⟩
 ·rintro⟨i,W,a,b⟩ ⟨hi,hWe,hI,hge,hF2⟩ K2 hK2
  simp only at hi hWe hI hge hF2⊢
  have hW:=hS i hi
  rw[<-hWe]at hW
  by_cases hc:i<l.length
  ·have q1:=decide_eq_true (p:=(i:Int)<(l.length:Int)) om
   have g1:=opsC_drop hc
   have g2:i*5<(opsC l).length:=by rw[opsC_len];omega
   have hok:=hl _ (getD_mem (d:=⟨0,0,0,0⟩) hc)
   rw[actsW_drop hc]at hF2
   have hA':actW h W (l.getD i ⟨0,0,0,0⟩)=actsW h W0 (l.take (i+1)):=by rw[actsW_succ hc,<-hWe]
   have hOL:=OL_le
   have hnx:2<nx:=by have:=hge p (by simp);have:=hI.rng p (by simp);omega
   generalize hop:l.getD i ⟨0,0,0,0⟩=op at*
   obtain⟨kd,u,v,k⟩:=op
   generalize(opsC l).drop ((i+1)*5)=D at*
   have hu:=hok.i
   have hk:=hok.k
   have hcs:=hok.c
   simp only at hu hk hcs
   unfold opC sv at g1
   simp only[zl8,zl7]at g1
   rcases hcs with⟨rfl,hv,huv,rfl⟩|⟨rfl,rfl,rfl⟩|⟨rfl,hv,huv⟩
   ·have q3:(((1:Nat):Int)==1)=true:=rfl
    have c5:=swap_q hW hI hu hv hn hw
    have hI':=hI.swap hu hv
    have hge': ∀x∈p::oM::oU::oV::(swapN a u v++swapN b u v++c0),2<=x:=by
     intro x hx
     simp only[List.mem_cons]at hx
     rcases hx with rfl|rfl|rfl|rfl|hx
     ·exact hge _ (by simp)
     ·exact hge _ (by simp)
     ·exact hge _ (by simp)
     ·exact hge _ (by simp)
     ·exact hge _ (by simp only[List.mem_cons];exact .inr (.inr (.inr (.inr (swapSub hI hu hv x hx)))))
    (repeat(first|refine DO.nilF (fun i=>i+1-nx) (by simp(disch:=omega) only[go_sem,↓reduceIte,zn1,zn2,zn3,zn4,zn5,zn6,reduceCtorEq,zn7,zi1,zi2,if_pos,if_neg,Int.reduceAdd,zld,zle,Option.map_some,Option.map_none,znd,zne,znf]<;>rfl) (by kernel_rfl) ?_|(with_reducible refine SC.condB (qTf (Q4 @q1 @g1 @g2 @q3)) ?_;first|with_reducible refine pickT ?_|with_reducible refine pickF ?_)|(with_reducible refine qO ?_)|((with_reducible apply SC.region);(focus(simp(disch:=omega) only[go_sem,↓reduceIte,zn1,zn2,zn3,zn4,zn5,zn6,reduceCtorEq,zn7,zi1,zi2,if_pos,if_neg,Int.reduceAdd,q1,g1,g2,q3];rfl)))|(with_reducible refine SC.draw Tab.mixed rfl ?_;(repeat(refine DO.run (qTf (Q4 @q1 @g1 @g2 @q3)) ?_));refine DO.nilF (fun i=>i+1-nx) (by simp(disch:=omega) only[go_sem,↓reduceIte,zn1,zn2,zn3,zn4,zn5,zn6,reduceCtorEq,zn7,zi1,zi2,if_pos,if_neg,Int.reduceAdd,zld,zle,Option.map_some,Option.map_none,znd,zne,znf]<;>rfl) (by kernel_rfl) ?_)))
    refine SC.drawT 11 (by simp only[zl3,zl4];rfl) (by simp only[zl9,zl2];rfl) Tab.mixed ?_ (by kernel_rfl) ?_
    ·exact klc (show 1<nx by omega) (klc (show 0<nx by omega) (wk_lt hI))
    refine qWDf (Q2 @g1 @g2) ?_
    show SO _ _ _ _ _ _ _
    refine SO.inlQ (qSf (Q2 @g1 @g2)) (by rfl) (qSf (Q2 @g1 @g2)) qS (SInlQ.part [(1,_),(0,_)] (fun i=>2<=i) c5 not2 (wk_in (nx:=0) hge) ?_ ?_)
    ·rintro x hp' nx' ⟨rfl,rfl,rfl⟩
     exact⟨.tu (fun _ h=>by cases h),wk_only (nx:=0) hge',wk_in (nx:=0) hge'⟩
    rintro x hp' nx' ⟨rfl,rfl,rfl⟩
    refine qWD ?_
    refine hK2 _ (i+1,_,swapN a u v,swapN b u v) ?_ ⟨by simp only;omega,hA',hI',hge',hF2⟩ (by simp only;omega)
    exact qM
   ·have q3:(((2:Nat):Int)==1)=false:=rfl
    have q4:(((2:Nat):Int)==2)=true:=rfl
    have c5:=negate_q hW om hI hu hn hw
    (repeat(first|refine DO.nilF (fun i=>i+1-nx) (by simp(disch:=omega) only[go_sem,↓reduceIte,zn1,zn2,zn3,zn4,zn5,zn6,reduceCtorEq,zn7,zi1,zi2,if_pos,if_neg,Int.reduceAdd,zld,zle,Option.map_some,Option.map_none,znd,zne,znf]<;>rfl) (by kernel_rfl) ?_|(with_reducible refine SC.condB (qTf (Q5 @q1 @g1 @g2 @q3 @q4)) ?_;first|with_reducible refine pickT ?_|with_reducible refine pickF ?_)|(with_reducible refine qO ?_)|((with_reducible apply SC.region);(focus(simp(disch:=omega) only[go_sem,↓reduceIte,zn1,zn2,zn3,zn4,zn5,zn6,reduceCtorEq,zn7,zi1,zi2,if_pos,if_neg,Int.reduceAdd,q1,g1,g2,q3,q4];rfl)))|(with_reducible refine SC.draw Tab.mixed rfl ?_;(repeat(refine DO.run (qTf (Q5 @q1 @g1 @g2 @q3 @q4)) ?_));refine DO.nilF (fun i=>i+1-nx) (by simp(disch:=omega) only[go_sem,↓reduceIte,zn1,zn2,zn3,zn4,zn5,zn6,reduceCtorEq,zn7,zi1,zi2,if_pos,if_neg,Int.reduceAdd,zld,zle,Option.map_some,Option.map_none,znd,zne,znf]<;>rfl) (by kernel_rfl) ?_)))
    refine SC.ops ?_
    repeat(refine SO.run (qTf (Q2 @g1 @g2)) ?_)
    refine SO.inlQ (qSf (Q2 @g1 @g2)) (by rfl) (qSf (Q2 @g1 @g2)) qS (SInlQ.part [(1,_),(0,_)] (fun i=>2<=i) c5 not2 (wk_in (nx:=0) hge) ?_ ?_)
    ·rintro x hp' nx' ⟨rfl,rfl,rfl⟩
     exact⟨.tu (fun _ h=>by cases h),wk_only (nx:=0) hge,wk_in (nx:=0) hge⟩
    rintro x hp' nx' ⟨rfl,rfl,rfl⟩
    refine qWD ?_
    refine hK2 _ (i+1,_,a,b) ?_ ⟨by simp only;omega,hA',hI,hge,hF2⟩ (by simp only;omega)
    exact qM
   ·have q3:(((3:Nat):Int)==1)=false:=rfl
    have q4:(((3:Nat):Int)==2)=false:=rfl
    have c5:=addto_q hW hk om hI hu hv huv hn hw
    unfold iv sv at c5
    (repeat(first|refine DO.nilF (fun i=>i+1-nx) (by simp(disch:=omega) only[go_sem,↓reduceIte,zn1,zn2,zn3,zn4,zn5,zn6,reduceCtorEq,zn7,zi1,zi2,if_pos,if_neg,Int.reduceAdd,zld,zle,Option.map_some,Option.map_none,znd,zne,znf]<;>rfl) (by kernel_rfl) ?_|(with_reducible refine SC.condB (qTf (Q5 @q1 @g1 @g2 @q3 @q4)) ?_;first|with_reducible refine pickT ?_|with_reducible refine pickF ?_)|(with_reducible refine qO ?_)|((with_reducible apply SC.region);(focus(simp(disch:=omega) only[go_sem,↓reduceIte,zn1,zn2,zn3,zn4,zn5,zn6,reduceCtorEq,zn7,zi1,zi2,if_pos,if_neg,Int.reduceAdd,q1,g1,g2,q3,q4];rfl)))|(with_reducible refine SC.draw Tab.mixed rfl ?_;(repeat(refine DO.run (qTf (Q5 @q1 @g1 @g2 @q3 @q4)) ?_));refine DO.nilF (fun i=>i+1-nx) (by simp(disch:=omega) only[go_sem,↓reduceIte,zn1,zn2,zn3,zn4,zn5,zn6,reduceCtorEq,zn7,zi1,zi2,if_pos,if_neg,Int.reduceAdd,zld,zle,Option.map_some,Option.map_none,znd,zne,znf]<;>rfl) (by kernel_rfl) ?_)))
    refine SC.drawT 16 (by simp only[zl3,zl4];rfl) (by simp only[zl9,zl2];rfl) Tab.mixed ?_ (by kernel_rfl) ?_
    ·exact klc (show 1<nx by omega) (klc (show 0<nx by omega) (wk_lt hI))
    refine qWDf (Q2 @g1 @g2) ?_
    show SO _ _ _ _ _ _ _
    refine SO.inlQ (qSf (Q2 @g1 @g2)) (by rfl) (qSf (Q2 @g1 @g2)) qS (SInlQ.part [(1,_),(0,_)] (fun i=>2<=i) c5 not2 (wk_in (nx:=0) hge) ?_ ?_)
    ·rintro x hp' nx' ⟨rfl,rfl,rfl⟩
     exact⟨.tu (fun _ h=>by cases h),wk_only (nx:=0) hge,wk_in (nx:=0) hge⟩
    rintro x hp' nx' ⟨rfl,rfl,rfl⟩
    refine qWD ?_
    refine hK2 _ (i+1,_,a,b) ?_ ⟨by simp only;omega,hA',hI,hge,hF2⟩ (by simp only;omega)
    exact qM
  ·have q1:=decide_eq_false (p:=(i:Int)<(l.length:Int)) om
   have hil:i=l.length:=by omega
   have hAF:W=FF:=by rw[<-hF2,hil,List.drop_length];rfl
   subst hAF
   obtain⟨z1,z2,z3,z4,z5,z6⟩:=hI.nes
   have la:=hI.la
   have hFr:=rI_rows hFM
   have x1:=hge p (by simp)
   have x2:=hge oM (by simp)
   have hWl:=hW.len
   have hrow: ∀C D:List V,∀k,k<a.length->hget ((1,(⟨28,C,false⟩:Blk))::(0,⟨28,D,false⟩)::wkH p oM oU oV h w a b c0 W) (a.getD k 0)=some ⟨68,(rI F).getD k [],false⟩:=by
    intro C D k hk
    obtain⟨gR,y1,y2,y3,y4,y5⟩:=hI.row hWl (q:=k) om
    have x3:=hge (a.getD k 0) (by simp only[List.mem_cons,List.mem_append];exact .inr (.inr (.inr (.inr (.inl (.inl (getD_mem' hk)))))))
    rw[hI.iM om]at gR y1 y2 y3 y4 y5
    unfold wkH
    simp only[hget]
    rw[if_neg om,if_neg om,if_neg y2,if_neg y3,if_neg y4,if_neg y5,gR,rI_getD,<-eF,take_get om]
   have g1:=slR_len 2 w a
   rw[la]at g1
   rw[hFl]
   clear hK2 hF2 c1 c2
   by_cases h0:h=0
   ·subst h0
    have ha:a=[]:=List.eq_nil_of_length_eq_zero om
    have hFe:F=[]:=List.eq_nil_of_length_eq_zero om
    subst ha;subst hFe
    unfold wkH workC at*
    (repeat(first|refine DO.nilF (fun i=>i+1-nx) (by simp(disch:=omega) only[go_sem,↓reduceIte,zn1,zn2,zn3,zn4,zn5,zn6,reduceCtorEq,zn7,zi1,zi2,if_pos,if_neg,Int.reduceAdd,zld,zle,Option.map_some,Option.map_none,znd,zne,znf]<;>rfl) (by kernel_rfl) ?_|(with_reducible refine SC.condB (qTf (Q7 @q1 @z1 @z2 @z3 @z4 @z5 @z6)) ?_;first|with_reducible refine pickT ?_|with_reducible refine pickF ?_)|(with_reducible refine qO ?_)|((with_reducible apply SC.region);(focus(simp(disch:=omega) only[go_sem,↓reduceIte,zn1,zn2,zn3,zn4,zn5,zn6,reduceCtorEq,zn7,zi1,zi2,if_pos,if_neg,Int.reduceAdd,q1,z1,z2,z3,z4,z5,z6];rfl)))|(with_reducible refine SC.draw Tab.mixed rfl ?_;(repeat(refine DO.run (qTf (Q7 @q1 @z1 @z2 @z3 @z4 @z5 @z6)) ?_));refine DO.nilF (fun i=>i+1-nx) (by simp(disch:=omega) only[go_sem,↓reduceIte,zn1,zn2,zn3,zn4,zn5,zn6,reduceCtorEq,zn7,zi1,zi2,if_pos,if_neg,Int.reduceAdd,zld,zle,Option.map_some,Option.map_none,znd,zne,znf]<;>rfl) (by kernel_rfl) ?_)))
    exact retQ_ret Tryz.results35 (qSf (Q6 @z1 @z2 @z3 @z4 @z5 @z6)) (qSf (Q6 @z1 @z2 @z3 @z4 @z5 @z6)) rfl
   ·have hsl:=slR_some (z:=2) (m:=w) (ids:=a) om
    have hfz:=fun C D:List V=>frz_rowsA (n:=4) (z:=2) (m:=w) (ty:=68) (ids:=a) (rs:=rI F) om (by rw[rI_len];omega) (hrow C D) hFr
    have ht:(slR 2 w a).take h=slR 2 w a:=zla om
    unfold wkH workC at*
    (repeat(first|refine DO.nilF (fun i=>i+1-nx) (by simp(disch:=omega) only[go_sem,↓reduceIte,zn1,zn2,zn3,zn4,zn5,zn6,reduceCtorEq,zn7,zi1,zi2,if_pos,if_neg,Int.reduceAdd,zld,zle,Option.map_some,Option.map_none,znd,zne,znf]<;>rfl) (by kernel_rfl) ?_|(with_reducible refine SC.condB (qTf (Q7 @q1 @z1 @z2 @z3 @z4 @z5 @z6)) ?_;first|with_reducible refine pickT ?_|with_reducible refine pickF ?_)|(with_reducible refine qO ?_)|((with_reducible apply SC.region);(focus(simp(disch:=omega) only[go_sem,↓reduceIte,zn1,zn2,zn3,zn4,zn5,zn6,reduceCtorEq,zn7,zi1,zi2,if_pos,if_neg,Int.reduceAdd,q1,z1,z2,z3,z4,z5,z6];rfl)))|(with_reducible refine SC.draw Tab.mixed rfl ?_;(repeat(refine DO.run (qTf (Q7 @q1 @z1 @z2 @z3 @z4 @z5 @z6)) ?_));refine DO.nilF (fun i=>i+1-nx) (by simp(disch:=omega) only[go_sem,↓reduceIte,zn1,zn2,zn3,zn4,zn5,zn6,reduceCtorEq,zn7,zi1,zi2,if_pos,if_neg,Int.reduceAdd,zld,zle,Option.map_some,Option.map_none,znd,zne,znf]<;>rfl) (by kernel_rfl) ?_)))
    exact retQ_ret Tryz.results35 (qSf (Q6 @z1 @z2 @z3 @z4 @z5 @z6)) (qSf (Q10 @hfz @hsl @ht @g1 @z1 @z2 @z3 @z4 @z5 @z6)) rfl
end
section
open Go.RowKit
theorem WIds.cell{p oM oU oV h w nx:Nat}{a b c:List Nat}{W:List (List Int)}(hI:WIds p oM oU oV a b c h nx)(hW:WS h w W){i t:Nat}(hi:i<h)(ht:t<w):
  (slR 2 w a)[i]? =some (.sl (a.getD i 0) 0 w 2 none)/\hget (rowsH 68 (a++b++c) (rI W)) (a.getD i 0)=some ⟨68,ivR (W.getD i []),false⟩/\a.getD i 0<nx/\(a.getD i 0=p)=False/\(a.getD i 0=oM)=False/\(a.getD i 0=oU)=False/\(a.getD i 0=oV)=False/\(ivR (W.getD i [])).drop (t*2)=ivC (ent2 W i t)++(ivR (W.getD i [])).drop ((t+1)*2)/\t*2<(ivR (W.getD i [])).length/\(ivR (W.getD i [])).length=2*w:=by
 have hl:=hW.len
 have hr:=hW.rowM i hi
 have la:=hI.la
 obtain⟨gR,y1,y2,y3,y4,y5⟩:=hI.rowF hl (q:=i) om
 rw[hI.iM hi]at gR y1 y2 y3 y4 y5
 have gl:=ivR_len (W.getD i [])
 rw[hr]at gl
 exact⟨slR_get om,gR,y1,y2,y3,y4,y5,ivR_drop om,by omega,gl⟩
theorem WIds.up{p oM oU oV h nx m:Nat}{a b c:List Nat}(hI:WIds p oM oU oV a b c h nx)(hm:nx<=m):WIds p oM oU oV a b c h m:=⟨hI.la,hI.lb,hI.lc,hI.nod,fun i hi=>by have:=hI.rng i hi;omega⟩
def HZ:List V:=[.sc (.int .i64 0),.sc (.int .i64 0),.sc (.slice none 0 0),.sc (.int .i64 0),.sc (.int .i64 0),.sc (.slice none 0 0),.sc (.int .i64 0),.sc (.int .i64 0),.sc (.slice none 0 0)]
def hermC(h w:Nat)(W:List (List Int)):List V:=[.sc (.int .i64 h),.sc (.int .i64 w),.im (imR w (rI (W.take h))) h,.sc (.int .i64 h),.sc (.int .i64 h),.im (imR h (rI ((W.drop h).take h))) h,.sc (.int .i64 h),.sc (.int .i64 h),.im (imR h (rI (W.drop (2*h)))) h]
theorem ColsE.split{h w t tp:Nat}{W W':List (List Int)}(hE:ColsE h w t tp W W')(ht:t<w)(htp:tp<h): ∃W1,RowsE h t tp (tp+1) W W1/\((ent2 W1 tp t=0/\ColsE h w (t+1) tp W1 W')\/(ent2 W1 tp t≠0/\ColsE h w (t+1) (tp+1) (redW h t tp tp 0 (if ent2 W1 tp t<0 then negW h tp W1 else W1)) W')):=by
 cases hE with
 |done h0=>exact absurd ⟨ht,htp⟩ h0
 |skip _ _ hR h0 hE=>exact⟨_,hR,.inl ⟨h0,hE⟩⟩
 |piv _ _ hR h0 hE=>exact⟨_,hR,.inr ⟨h0,hE⟩⟩
theorem RowsE.split{h t tp i:Nat}{W W':List (List Int)}(hE:RowsE h t tp i W W')(hi:i<h): ∃W1,Euc h t tp i W W1/\RowsE h t tp (i+1) W1 W':=by
 cases hE with
 |done h0=>omega
 |next _ h1 h2=>exact⟨_,h1,h2⟩
theorem RowsE.fin{h t tp i:Nat}{W W':List (List Int)}(hE:RowsE h t tp i W W')(hi:h<=i):W'=W:=by
 cases hE with
 |done h0=>rfl
 |next h0 _ _=>omega
theorem Euc.fin{h t tp i:Nat}{W W':List (List Int)}(hE:Euc h t tp i W W')(h0:ent2 W i t=0):W'=W:=by
 cases hE with
 |stop _=>rfl
 |step h1 _=>exact absurd h0 h1
theorem Euc.go{h t tp i:Nat}{W W':List (List Int)}(hE:Euc h t tp i W W')(h0:ent2 W i t≠0):Euc h t tp i (stepE h t tp i W) W':=by
 cases hE with
 |stop h1=>exact absurd h1 h0
 |step _ h2=>exact h2
theorem not4{n m:Nat}(hm:n<=m){b0 b1 b2 b3:Blk}: ∀id k,hget [(m+1,b3),(m,b2),(1,b1),(0,b0)] id=some k-> ¬(2<=id/\id<n):=by
 intro id k hk
 simp only[hget]at hk
 split at hk
 ·omega
 split at hk
 ·omega
 split at hk
 ·omega
 split at hk
 ·omega
 ·cases hk
theorem not2'{n:Nat}{b0 b1:Blk}: ∀id k,hget [(1,b1),(0,b0)] id=some k-> ¬(2<=id/\id<n):=fun id k hk h=>not2 id k hk h.1
theorem floor_i(x y:Int)(K:Nat)(hx:Fits K x)(hy:Fits K y)(hK:K<=100000000000)(h0:y≠0):Spec Tryz.prog 86 [iv x,iv y] (iv (x/y)):=by
 have c1:=divmod_i x y K hx hy om h0
 unfold iv sv at*
 refine qF Tryz.func86 Tryz.ntmps86 fun B hB=> ?_
 refine qWD ?_
 exact qE Tryz.results86
theorem fits_quo{K:Nat}{x y:Int}(h:Fits K x):Fits K (x/y):=by
 unfold Fits at*
 exact Nat.lt_of_le_of_lt (Int.natAbs_ediv_le_natAbs x y) h
theorem getD_drop2{W:List (List Int)}{n k:Nat}:(W.drop n).getD k []=W.getD (n+k) []:=by
 rw[List.getD_eq_getElem?_getD,zl5,List.getD_eq_getElem?_getD]
theorem work_part{h w K n:Nat}{W:List (List Int)}(hW:WI h w K W)(hn:n=h\/n=2*h):MI h h K ((W.drop n).take h):=by
 have hl:=hW.len
 have htl:((W.drop n).take h).length=h:=by rw[List.length_take,List.length_drop];omega
 refine⟨htl,fun r hr=> ?_⟩
 obtain⟨q,hq,rfl⟩:=List.mem_iff_getElem.1 hr
 have e:((W.drop n).take h)[q]=W.getD (n+q) []:=by
  rw[<-getD_drop2,<-take_get (M:=W.drop n) (h:=h) om,List.getD_eq_getElem?_getD,zlb hq];rfl
 rw[e]
 refine⟨hW.rowU _ om om,fun x hx=> ?_⟩
 obtain⟨t,ht,rfl⟩:=List.mem_iff_getElem.1 hx
 have:=hW.fit (n+q) t
 rwa[List.getD_eq_getElem?_getD,zlb ht]at this
theorem work_u{h w K:Nat}{W:List (List Int)}(hW:WI h w K W):MI h h K ((W.drop h).take h):=work_part hW (.inl rfl)
theorem work_v{h w K:Nat}{W:List (List Int)}(hW:WI h w K W):MI h h K (W.drop (2*h)):=by
 have:=work_part hW (n:=2*h) (.inr rfl)
 have hl:=hW.len
 rwa[zla (by rw[List.length_drop];omega)]at this
end
section
open Go.RowKit
theorem swapIds{p oM oU oV h nx i j n1:Nat}{a b c:List Nat}(hI:WIds p oM oU oV a b c h nx)(hi:i<h)(hj:j<h)(hge: ∀x∈p::oM::oU::oV::(a++b++c),2<=x/\x<n1): ∀x∈p::oM::oU::oV::(swapN a i j++swapN b i j++c),2<=x/\x<n1:=by
 intro x hx
 simp only[List.mem_cons]at hx
 rcases hx with rfl|rfl|rfl|rfl|hx
 ·exact hge _ (by simp)
 ·exact hge _ (by simp)
 ·exact hge _ (by simp)
 ·exact hge _ (by simp)
 ·exact hge _ (by simp only[List.mem_cons];exact .inr (.inr (.inr (.inr (swapSub hI hi hj x hx)))))
theorem hget_old{m:Nat}{b2 b3:Blk}{l:List (Nat×Blk)}(hl: ∀id k,hget l id=some k->id<m): ∀id k,hget l id=some k->hget ((m+1,b3)::(m,b2)::l) id=some k:=by
 intro id k h
 have:=hl id k h
 simp only[hget]
 rw[if_neg om,if_neg om]
 exact h
theorem hget_two{m:Nat}{b0 b1:Blk}{l:List (Nat×Blk)}(hm:1<m)(hl: ∀id k,hget l id=some k->id<m): ∀id k,hget ((1,b1)::(0,b0)::l) id=some k->id<m:=by
 intro id k h
 simp only[hget]at h
 split at h
 ·omega
 split at h
 ·omega
 ·exact hl id k h
set_option maxRecDepth 8000 in
theorem rform_s{h w K G:Nat}{A W':List (List Int)}(hA:MI h w K A)(hG:(K+1)*fact (h+1)<=G)(hGl:G<=50000000000)(hn:h<=1000000)(hw:w<=1000000)(hE:ColsE h w 0 0 (A++idL h++idL h) W'):
  Spec Tryz.prog 52 [mat w A] (.ag (hermC h w W')):=by
 have hml:=hA.len
 have hKG:=fact_le hG
 have c2:=hstart_q 2 hA om hn hw
 have hI0:=form_start hA
 have hI0: ∃pv,ColI h w 0 0 G pv A (A++idL h++idL h):=⟨_,hI0.ws,hI0.hs,hI0.lin,by obtain⟨K2,h1,h2⟩:=hI0.bd;exact⟨K2,h1,Nat.le_trans h2 hG⟩⟩
 generalize A++idL h++idL h=W0 at*
 unfold mat at*
 rw[hml]at c2⊢
 refine qF Tryz.func52 Tryz.ntmps52 fun B hB=> ?_
 refine qWD ?_
 refine SO.inlQ qS Tab.go64 qS qS (SInlQ.newR c2 ?_ ?_ ?_)
 ·exact klc om (klc om kln)
 ·exact fun x hp' nx' h=>workQ_new h
 rintro x hp' n1 ⟨p,oM,oU,oV,a0,b0,c0,hWk,rfl,rfl⟩
 clear c2
 refine qWD ?_
 refine SC.meet (fun z:Nat×Nat×List (List Int)×List Nat×List Nat×Nat=>⟨[(2,.pt 1 0),(3,.pt p 0)],(1,⟨31,HZ,false⟩)::(0,⟨28,[.sc (.int .i64 h),.sc (.int .i64 w),.im (imR w (rI A)) h],false⟩)::wkH p oM oU oV h w z.2.2.2.1 z.2.2.2.2.1 c0 W',z.2.2.2.2.2,173⟩) (fun z=>WS h w W'/\WI h w G W'/\WIds p oM oU oV z.2.2.2.1 z.2.2.2.2.1 c0 h n1/\(∀y∈p::oM::oU::oV::(z.2.2.2.1++z.2.2.2.2.1++c0),2<=y/\y<n1)/\n1<=z.2.2.2.2.2) ?_ ?_
 intro K0 hK0
 refine SC.loop (fun x:Nat×Nat×List (List Int)×List Nat×List Nat×Nat=>⟨[(1,.pt 0 0),(2,.pt 1 0),(3,.pt p 0),(4,.sc (.int .i64 x.2.1)),(5,.sc (.int .i64 x.1))],(1,⟨31,HZ,false⟩)::(0,⟨28,[.sc (.int .i64 h),.sc (.int .i64 w),.im (imR w (rI A)) h],false⟩)::wkH p oM oU oV h w x.2.2.2.1 x.2.2.2.2.1 c0 x.2.2.1,x.2.2.2.2.2,173⟩)
  (fun x=>(∃pv,ColI h w x.1 x.2.1 G pv A x.2.2.1)/\ColsE h w x.1 x.2.1 x.2.2.1 W'/\WIds p oM oU oV x.2.2.2.1 x.2.2.2.2.1 c0 h n1/\(∀y∈p::oM::oU::oV::(x.2.2.2.1++x.2.2.2.2.1++c0),2<=y/\y<n1)/\n1<=x.2.2.2.2.2) (fun x=>w-x.1) (0,0,W0,a0,b0,n1) ?_ ?_ ?_
 ·exact qM
 ·exact⟨hI0,hE,⟨hWk.la,hWk.lb,hWk.lc,hWk.nod,fun i hi=>(hWk.rng i hi).2⟩,hWk.rng,znb _⟩
 ·rintro ⟨t,tp,W,a,b,nx⟩ ⟨⟨pv,hCI⟩,hCE,hI,hge,hnx⟩ K1 hK1
  simp only at hCI hCE hI hge hnx⊢
  clear hI0 hWk hE hG
  by_cases hc:t<w
  ·have q1 :=decide_eq_true (p:=(t:Int)<(w:Int)) om
   by_cases htp:tp<h
   ·have q2 :=decide_eq_true (p:=(tp:Int)<(h:Int)) om
    obtain⟨W1,hRE,hrest⟩:=hCE.split hc htp
    obtain⟨Kc,hGb,hKc⟩:=hCI.bd
    have hR0:=hCI.row0 hGb
    have hRW:=hRE.row (pow_ge1 Kc) om om hR0
    have hWI1:=hRW.wi (znb _) htp hKc
    refine qWDf (Q2 @q1 @q2) ?_
    refine SC.meet (fun z:List Nat×List Nat×Nat=>⟨[(1,.pt 0 0),(2,.pt 1 0),(3,.pt p 0),(4,.sc (.int .i64 tp)),(5,.sc (.int .i64 t))],(1,⟨31,HZ,false⟩)::(0,⟨28,[.sc (.int .i64 h),.sc (.int .i64 w),.im (imR w (rI A)) h],false⟩)::wkH p oM oU oV h w z.1 z.2.1 c0 W1,z.2.2,173⟩) (fun z=>WIds p oM oU oV z.1 z.2.1 c0 h n1/\(∀y∈p::oM::oU::oV::(z.1++z.2.1++c0),2<=y/\y<n1)/\n1<=z.2.2) ?_ ?_
    ·as_aux_lemma=>
      intro K2 hK2
      refine SC.loop (fun x:Nat×List (List Int)×List Nat×List Nat×Nat=>⟨[(1,.pt 0 0),(2,.pt 1 0),(3,.pt p 0),(4,.sc (.int .i64 tp)),(5,.sc (.int .i64 t)),(6,.sc (.int .i64 x.1))],(1,⟨31,HZ,false⟩)::(0,⟨28,[.sc (.int .i64 h),.sc (.int .i64 w),.im (imR w (rI A)) h],false⟩)::wkH p oM oU oV h w x.2.2.1 x.2.2.2.1 c0 x.2.1,x.2.2.2.2,173⟩)
       (fun x=>tp<x.1/\x.1<=h/\RowI h w t tp (4294967296^Kc) (4294967296^Kc) (4294967296^Kc) x.1 x.2.1/\RowsE h t tp x.1 x.2.1 W1/\WIds p oM oU oV x.2.2.1 x.2.2.2.1 c0 h n1/\(∀y∈p::oM::oU::oV::(x.2.2.1++x.2.2.2.1++c0),2<=y/\y<n1)/\n1<=x.2.2.2.2) (fun x=>h-x.1) (tp+1,W,a,b,nx) ?_ ?_ ?_
      ·exact qM
      ·exact⟨by simp only;omega,by simp only;omega,hR0,hRE,hI,hge,hnx⟩
      ·clear hRE hR0 hI hge hnx hK1 hrest hCE hCI hGb hRW hWI1
       rintro⟨i,W,a,b,nx⟩ ⟨hti,hih,hR,hRE,hI,hge,hnx⟩ K3 hK3
       simp only at hti hih hR hRE hI hge hnx⊢
       by_cases hi:i<h
       ·have q3:=decide_eq_true (p:=(i:Int)<(h:Int)) om
        obtain⟨W2,hEu,hRE2⟩:=hRE.split hi
        have hP0:=hR.pair hti (pow_ge1 Kc)
        have hR2:=PairI.row hR hEu hti hi (pow_ge1 Kc)
        refine qWDf @q3 ?_
        refine SC.loop (fun x:List (List Int)×List Nat×List Nat×Nat=>⟨[(1,.pt 0 0),(2,.pt 1 0),(3,.pt p 0),(4,.sc (.int .i64 tp)),(5,.sc (.int .i64 t)),(6,.sc (.int .i64 i))],(1,⟨31,HZ,false⟩)::(0,⟨28,[.sc (.int .i64 h),.sc (.int .i64 w),.im (imR w (rI A)) h],false⟩)::wkH p oM oU oV h w x.2.1 x.2.2.1 c0 x.1,x.2.2.2,173⟩)
         (fun x=>PairI h w t tp i (4294967296^Kc) (4294967296^Kc) (4294967296^Kc*(12*4294967296^Kc)^(i-(tp+1))) (4294967296^Kc*(12*4294967296^Kc)^(i+1-(tp+1))) x.1/\Euc h t tp i x.1 W2/\WIds p oM oU oV x.2.1 x.2.2.1 c0 h n1/\(∀y∈p::oM::oU::oV::(x.2.1++x.2.2.1++c0),2<=y/\y<n1)/\n1<=x.2.2.2) (fun x=>(ent2 x.1 i t).natAbs) (W,a,b,nx) ?_ ?_ ?_
        ·exact qM
        ·exact⟨hP0,hEu,hI,hge,hnx⟩
        ·clear hRE hR hP0 hI hge hnx hEu
         rintro⟨W,a,b,nx⟩ ⟨hP,hEu,hI,hge,hnx⟩ K4 hK4
         simp only at hP hEu hI hge hnx⊢
         have hWS:=hP.ws
         have hWI:=hP.wi hi htp hKc
         have hy:=hWI.fit i t
         have hx:=hWI.fit tp t
         have hIn:=hI.up hnx
         obtain⟨l1,l2,l3,l4⟩:=hI.lts
         obtain⟨z1,z2,z3,z4,z5,z6⟩:=hI.nes
         have x1:=hge p (by simp)
         have x2:=hge oM (by simp)
         have x3:=hge oU (by simp)
         have x4:=hge oV (by simp)
         have ga:=slR_len 2 w a
         rw[hI.la]at ga
         obtain⟨gii,gRi,y1i,y2i,y3i,y4i,y5i,gdi,g2i,gli⟩:=hI.cell hWS (i:=i) (t:=t) om hc
         obtain⟨git,gRt,y1t,y2t,y3t,y4t,y5t,gdt,g2t,glt⟩:=hI.cell hWS (i:=tp) (t:=t) om hc
         have x5:=hge (a.getD i 0) (by simp only[List.mem_cons,List.mem_append];exact .inr (.inr (.inr (.inr (.inl (.inl (getD_mem' (by rw[hI.la];exact hi))))))))
         have x6:=hge (a.getD tp 0) (by simp only[List.mem_cons,List.mem_append];exact .inr (.inr (.inr (.inr (.inl (.inl (getD_mem' (by rw[hI.la];exact htp))))))))
         have c1:=sign_i (ent2 W i t) G hy om
         by_cases h0:ent2 W i t=0
         ·have hW2:=hEu.fin h0
          subst hW2
          have q4:((ent2 W2 i t).sign !=0)=false:=by rw[h0];rfl
          unfold ent2 at c1 q4
          unfold ent2 at gdi
          unfold iv sv at c1
          unfold ivC sv at gdi
          simp only[zl8,zl7]at gdi
          unfold wkH workC
          refine qWDf (Q17 @q4 @gii @gRi @gdi @g2i @gli @y2i @y3i @y4i @y5i @ga @z1 @z2 @z3 @z4 @z5 @z6) ?_
          refine hK3 _ (i+1,W2,a,b,nx) ?_ ⟨by simp only;omega,by simp only;omega,hR2,hRE2,hI,hge,hnx⟩ (by simp only;omega)
          unfold wkH workC
          exact qM
         ·obtain⟨hP2,hlt⟩:=hP.step hti hi h0
          have hEu2:=hEu.go h0
          have q4:((ent2 W i t).sign !=0)=true:=by rw[bne_iff_ne];intro e;exact h0 (Int.sign_eq_zero_iff_zero.1 e)
          have c2:=sign_i (ent2 W tp t) G hx om
          have hge':=swapIds hI htp hi hge
          have hI':=hI.swap htp hi
          by_cases hx0:ent2 W tp t=0
          ·have q5:((ent2 W tp t).sign !=0)=false:=by rw[hx0];rfl
           have eW:stepE h t tp i W=swapW h tp i W:=by unfold stepE;rw[if_pos hx0]
           rw[eW]at hP2 hEu2 hlt
           have c6:=swap_q hWI hIn htp hi hn hw
           unfold ent2 at c1 c2 q4 q5
           unfold ent2 at gdi gdt
           unfold iv sv at c1 c2
           unfold ivC sv at gdi gdt
           simp only[zl8,zl7]at gdi gdt
           unfold wkH workC
           refine qWDf (Q2 (Q14 @q4 @q5 @gii @gRi @gdi @g2i @gli @y2i @y3i @y4i @y5i @git @gRt @gdt) (Q13 @g2t @glt @y2t @y3t @y4t @y5t @ga @z1 @z2 @z3 @z4 @z5 @z6)) ?_
           refine SO.inlQ qS Tab.go65 qS qS (SInlQ.part [(1,_),(0,_)] (fun i=>2<=i/\i<n1) c6 not2' (wk_in (nx:=0) hge) ?_ ?_)
           ·rintro x hp' nx' ⟨rfl,rfl,rfl⟩
            exact⟨.tu (fun _ h=>by cases h),wk_only (nx:=0) hge',wk_in (nx:=0) hge'⟩
           rintro x hp' nx' ⟨rfl,rfl,rfl⟩
           refine qWD ?_
           refine hK4 _ (swapW h tp i W,swapN a tp i,swapN b tp i,nx') ?_ ⟨hP2,hEu2,hI',hge',hnx⟩ hlt
           exact qM
          ·have q5:((ent2 W tp t).sign !=0)=true:=by rw[bne_iff_ne];intro e;exact hx0 (Int.sign_eq_zero_iff_zero.1 e)
           have eW:stepE h t tp i W=swapW h tp i (addW h tp i (-(ent2 W tp t/ent2 W i t)) W):=by unfold stepE;rw[if_neg hx0]
           rw[eW]at hP2 hEu2 hlt
           have c3:=divmod_i (ent2 W tp t) (ent2 W i t) G hx hy om h0
           have hq:Fits G (ent2 W tp t/ent2 W i t):=fits_quo hx
           have c4:=neg_i (ent2 W tp t/ent2 W i t) G hq om
           have hIn2:=hI.up (show n1<=nx+2 by omega)
           have hWIa:=addW_wi hWI htp hi (fits_neg hq)
           have c5:=addto_q hWI (fits_neg hq) om hIn2 htp hi om hn hw
           have c6:=swap_q hWIa hIn2 htp hi hn hw
           have hkl:=hI.kl (W:=W) (m:=nx) hnx
           unfold iv sv at c5
           generalize hk: -(ent2 W tp t/ent2 W i t)=k at*
           generalize hq0:ent2 W tp t/ent2 W i t=q at*
           generalize hr0:ent2 W tp t % ent2 W i t=r at*
           unfold ent2 at c1 c2 c3 q4 q5
           unfold ent2 at gdi gdt
           unfold iv sv at c1 c2 c3 c4
           unfold ivC sv at gdi gdt
           simp only[zl8,zl7]at gdi gdt
           unfold wkH workC
           refine qWDf (Q2 (Q14 @q4 @q5 @hkl @gii @gRi @gdi @g2i @gli @y2i @y3i @y4i @y5i @git @gRt) (Q14 @gdt @g2t @glt @y2t @y3t @y4t @y5t @ga @z1 @z2 @z3 @z4 @z5 @z6)) ?_
           refine SO.inlQ qS Tab.go67 qS qS (SInlQ.part [(nx+1,_),(nx,_),(1,_),(0,_)] (fun i=>2<=i/\i<n1) c5 (not4 hnx) (wk_in (nx:=0) hge) ?_ ?_)
           ·rintro x hp' nx' ⟨rfl,rfl,rfl⟩
            exact⟨.tu (fun _ h=>by cases h),wk_only (nx:=0) hge,wk_in (nx:=0) hge⟩
           rintro x hp' nx' ⟨rfl,rfl,rfl⟩
           refine qWD ?_
           refine SO.inlQ qS Tab.go65 qS qS (SInlQ.part [(nx+1,_),(nx,_),(1,_),(0,_)] (fun i=>2<=i/\i<n1) c6 (not4 hnx) (wk_in (nx:=0) hge) ?_ ?_)
           ·rintro x hp' nx' ⟨rfl,rfl,rfl⟩
            exact⟨.tu (fun _ h=>by cases h),wk_only (nx:=0) hge',wk_in (nx:=0) hge'⟩
           rintro x hp' nx' ⟨rfl,rfl,rfl⟩
           refine qWD ?_
           refine hK4 _ (swapW h tp i (addW h tp i k W),swapN a tp i,swapN b tp i,nx+2) ?_ ⟨hP2,hEu2,hI',hge',by simp only;omega⟩ hlt
           refine Le.slots ?_ (hget_old (b2:=⟨68,_,false⟩) (b3:=⟨68,_,false⟩) (hget_two (show 1<nx by omega) fun id k hk=>Nat.lt_of_lt_of_le (wk_lt hI' id k hk) hnx)) (znb _)
           repeat' (first|exact leSl_nil|refine leSl_cons qS ?_ ?_|exact VLe.refl rfl)
       ·have q3:=decide_eq_false (p:=(i:Int)<(h:Int)) om
        have hW2:=hRE.fin om
        subst hW2
        refine qWDf @q3 ?_
        refine hK2 _ (a,b,nx) ?_ ⟨hI,hge,hnx⟩
        exact qM
    have hRE0:=hRE
    clear hRE hR0 hI hge hnx
    rintro⟨a,b,nx⟩ ⟨hI,hge,hnx⟩
    simp only at hI hge hnx⊢
    have hWS:=hRW.ws
    have hIn:=hI.up hnx
    obtain⟨l1,l2,l3,l4⟩:=hI.lts
    obtain⟨z1,z2,z3,z4,z5,z6⟩:=hI.nes
    have x1:=hge p (by simp)
    have x2:=hge oM (by simp)
    have x3:=hge oU (by simp)
    have x4:=hge oV (by simp)
    have ga:=slR_len 2 w a
    rw[hI.la]at ga
    obtain⟨git,gRt,y1t,y2t,y3t,y4t,y5t,gdt,g2t,glt⟩:=hI.cell hWS (i:=tp) (t:=t) om hc
    have x6:=hge (a.getD tp 0) (by simp only[List.mem_cons,List.mem_append];exact .inr (.inr (.inr (.inr (.inl (.inl (getD_mem' (by rw[hI.la];exact htp))))))))
    have hx:=hWI1.fit tp t
    have c2:=sign_i (ent2 W1 tp t) G hx om
    rcases hrest with⟨h0,hCE2⟩|⟨h0,hCE2⟩
    ·obtain⟨eW,hCI2⟩:=hCI.skip hc hRE0 h0
     have q4:((ent2 W1 tp t).sign==0)=true:=by rw[h0];rfl
     unfold ent2 at c2 q4 gdt
     unfold iv sv at c2
     unfold ivC sv at gdt
     simp only[zl8,zl7]at gdt
     unfold wkH workC
     refine qWDf (Q17 @q4 @git @gRt @gdt @g2t @glt @y2t @y3t @y4t @y5t @ga @z1 @z2 @z3 @z4 @z5 @z6) ?_
     refine hK1 _ (t+1,tp,W1,a,b,nx) ?_ ⟨⟨pv,by rw[eW];exact hCI2⟩,hCE2,hI,hge,hnx⟩ (by simp only;omega)
     unfold wkH workC
     exact qM
    ·have q4:((ent2 W1 tp t).sign==0)=false:=by rw[beq_eq_false_iff_ne];intro e;exact h0 (Int.sign_eq_zero_iff_zero.1 e)
     obtain⟨r1,r2,r3,r4,r5⟩:=hCI.red0 hGb htp hRE0 h0 hn
     have hCI3:=hCI.piv hc htp hRE0 h0 hn
     generalize hZ:(if ent2 W1 tp t<0 then negW h tp W1 else W1)=Z at*
     have hZW:=r4.wi (znc _) htp hn hKc
     have c7:=negate_q hWI1 om hIn htp hn hw
     have q6:ent2 W1 tp t<0->decide ((ent2 W1 tp t).sign<0)=true:=fun hs=>by rw[decide_eq_true_iff,Int.sign_eq_neg_one_of_neg hs];decide
     have q7: ¬ent2 W1 tp t<0->decide ((ent2 W1 tp t).sign<0)=false:=fun hs=>by rw[decide_eq_false_iff_not,Int.sign_eq_one_of_pos om];decide
     have hZ1:ent2 W1 tp t<0->negW h tp W1=Z:=fun hs=>by rw[<-hZ,if_pos hs]
     have hZ2: ¬ent2 W1 tp t<0->W1=Z:=fun hs=>by rw[<-hZ,if_neg hs]
     clear hZ
     unfold ent2 at c2 q4 q6 q7 gdt hZ1 hZ2
     unfold iv sv at c2
     unfold ivC sv at gdt
     simp only[zl8,zl7]at gdt
     unfold wkH workC
     refine qWDf (Q17 @q4 @git @gRt @gdt @g2t @glt @y2t @y3t @y4t @y5t @ga @z1 @z2 @z3 @z4 @z5 @z6) ?_
     refine SC.condI (fun _:Unit=>⟨[(1,.pt 0 0),(2,.pt 1 0),(3,.pt p 0),(4,.sc (.int .i64 tp)),(5,.sc (.int .i64 t))],(1,⟨31,HZ,false⟩)::(0,⟨28,[.sc (.int .i64 h),.sc (.int .i64 w),.im (imR w (rI A)) h],false⟩)::wkH p oM oU oV h w a b c0 Z,nx,173⟩) (fun _=>True) qT (fun hb K6 hK6=> ?_) (fun hb K6 hK6=> ?_) ?_
     ·have hs:(W1.getD tp []).getD t 0<0:=Classical.byContradiction fun hn'=>by rw[q7 hn']at hb;cases hb
      rw[hZ1 hs]at c7
      refine qWD ?_
      refine SO.inlQ qS Tab.go66 qS qS (SInlQ.part [(1,_),(0,_)] (fun i=>2<=i/\i<n1) c7 not2' (wk_in (nx:=0) hge) ?_ ?_)
      ·rintro x hp' nx' ⟨rfl,rfl,rfl⟩
       exact⟨.tu (fun _ h=>by cases h),wk_only (nx:=0) hge,wk_in (nx:=0) hge⟩
      rintro x hp' nx' ⟨rfl,rfl,rfl⟩
      refine qWD ?_
      refine hK6 _ () ?_ trivial
      exact qM
     ·have hs: ¬(W1.getD tp []).getD t 0<0:=fun hp=>by rw[q6 hp]at hb;cases hb
      have:=hZ2 hs
      subst this
      refine qWD ?_
      refine hK6 _ () ?_ trivial
      unfold wkH workC
      exact qM
     intro _ _
     refine qWD ?_
     clear q6 q7 c7 hZ1 hZ2
     refine SC.loop (fun x:Nat×List (List Int)×Nat=>⟨[(1,.pt 0 0),(2,.pt 1 0),(3,.pt p 0),(4,.sc (.int .i64 tp)),(5,.sc (.int .i64 t)),(10,.sc (.int .i64 x.1))],(1,⟨31,HZ,false⟩)::(0,⟨28,[.sc (.int .i64 h),.sc (.int .i64 w),.im (imR w (rI A)) h],false⟩)::wkH p oM oU oV h w a b c0 x.2.1,x.2.2,173⟩)
      (fun x=>x.1<=tp/\RedI h w t tp (4294967296^Kc) (4294967296^Kc*(12*4294967296^Kc)^(h-(tp+1))) x.1 Z x.2.1/\redW h t tp (tp-x.1) x.1 x.2.1=redW h t tp tp 0 Z/\n1<=x.2.2) (fun x=>tp-x.1) (0,Z,nx) ?_ ?_ ?_
     ·exact qM
     ·exact⟨znc _,r4,rfl,hnx⟩
     ·rintro⟨i,V,nx⟩ ⟨hi,hRd,hfin,hnx⟩ K5 hK5
      simp only at hi hRd hfin hnx⊢
      by_cases hlt:i<tp
      ·as_aux_lemma=>
        have q6:=decide_eq_true (p:=(i:Int)<(tp:Int)) om
        have hRn:=hRd.next hlt htp r2 r3
        have hVI:=hRd.wi hi htp hn hKc
        have hWS:=hRd.ws
        have ep:ent2 V tp t=ent2 Z tp t:=hRd.row tp htp hi t
        have hIn:=hI.up hnx
        obtain⟨gii,gRi,y1i,y2i,y3i,y4i,y5i,gdi,g2i,gli⟩:=hI.cell hWS (i:=i) (t:=t) om hc
        obtain⟨git,gRt,y1t,y2t,y3t,y4t,y5t,gdt,g2t,glt⟩:=hI.cell hWS (i:=tp) (t:=t) om hc
        have x5:=hge (a.getD i 0) (by simp only[List.mem_cons,List.mem_append];exact .inr (.inr (.inr (.inr (.inl (.inl (getD_mem' (by rw[hI.la];omega))))))))
        have c1:=floor_i (ent2 V i t) (ent2 V tp t) G (hVI.fit i t) (hVI.fit tp t) om (by rw[ep];omega)
        have hq:Fits G (ent2 V i t/ent2 V tp t):=fits_quo (hVI.fit i t)
        have c2:=neg_i (ent2 V i t/ent2 V tp t) G hq om
        have c5:=addto_q hVI (fits_neg hq) om hIn (show i<h by omega) htp om hn hw
        rw[show tp-i=(tp-(i+1))+1 by omega,redW]at hfin
        clear r4 hCI3 hCE2 hRd hVI ep
        unfold iv sv at c5
        generalize hk: -(ent2 V i t/ent2 V tp t)=k at*
        generalize hq0:ent2 V i t/ent2 V tp t=q at*
        unfold ent2 at c1
        unfold ent2 at gdi gdt
        unfold iv sv at c1 c2
        unfold ivC sv at gdi gdt
        simp only[zl8,zl7]at gdi gdt
        unfold wkH workC
        (repeat(first|refine DO.nilF (fun i=>i+1-nx) (by simp(disch:=omega) only[go_sem,↓reduceIte,zn1,zn2,zn3,zn4,zn5,zn6,reduceCtorEq,zn7,zi1,zi2,if_pos,if_neg,Int.reduceAdd,zld,zle,Option.map_some,Option.map_none,znd,zne,znf]<;>rfl) (by kernel_rfl) ?_|(with_reducible refine SC.condB (qTf @q6) ?_;first|with_reducible refine pickT ?_|with_reducible refine pickF ?_)|(with_reducible refine qO ?_)|((with_reducible apply SC.region);(focus(simp(disch:=omega) only[go_sem,↓reduceIte,zn1,zn2,zn3,zn4,zn5,zn6,reduceCtorEq,zn7,zi1,zi2,if_pos,if_neg,Int.reduceAdd,q6];rfl)))|(with_reducible refine SC.draw Tab.mixed rfl ?_;(repeat(refine DO.run (qTf @q6) ?_));refine DO.nilF (fun i=>i+1-nx) (by simp(disch:=omega) only[go_sem,↓reduceIte,zn1,zn2,zn3,zn4,zn5,zn6,reduceCtorEq,zn7,zi1,zi2,if_pos,if_neg,Int.reduceAdd,zld,zle,Option.map_some,Option.map_none,znd,zne,znf]<;>rfl) (by kernel_rfl) ?_)))
        refine SC.drawT 27 (by simp only[zl3,zl4];rfl) (by simp only[zl9,zl2];rfl) Tab.mixed ?_ (by kernel_rfl) ?_
        ·exact klc (show 1<nx by omega) (klc (show 0<nx by omega) (wk_lt hIn))
        refine qWDf (Q25 @gii @gRi @gdi @g2i @gli @y2i @y3i @y4i @y5i @git @gRt @gdt @g2t @glt @y2t @y3t @y4t @y5t @ga @z1 @z2 @z3 @z4 @z5 @z6) ?_
        show SO _ _ _ _ _ _ _
        refine SO.inlQ qS (by rfl) qS qS (SInlQ.part [(1,_),(0,_)] (fun i=>2<=i/\i<n1) c5 not2' (wk_in (nx:=0) hge) ?_ ?_)
        ·rintro x hp' nx' ⟨rfl,rfl,rfl⟩
         exact⟨.tu (fun _ h=>by cases h),wk_only (nx:=0) hge,wk_in (nx:=0) hge⟩
        rintro x hp' nx' ⟨rfl,rfl,rfl⟩
        refine qWD ?_
        refine hK5 _ (i+1,addW h i tp k V,nx') ?_ ⟨by simp only;omega,hRn,hfin,hnx⟩ (by simp only;omega)
        exact qM
      ·have q6:=decide_eq_false (p:=(i:Int)<(tp:Int)) om
       have hie:i=tp:=by omega
       subst hie
       have hV:V=redW h t i i 0 Z:=by rw[<-hfin,Nat.sub_self];rfl
       refine qWDf @q6 ?_
       refine hK1 _ (t+1,i+1,V,a,b,nx) ?_ ⟨⟨_,by rw[hV];exact hCI3⟩,by rw[hV];exact hCE2,hI,hge,hnx⟩ (by simp only;omega)
       exact qM
   ·have q2:=decide_eq_false (p:=(tp:Int)<(h:Int)) om
    have hWW:W'=W:=by cases hCE with|done _=>rfl|skip _ h1=>exact absurd h1 htp|piv _ h1=>exact absurd h1 htp
    subst hWW
    refine qWDf (Q2 @q1 @q2) ?_
    refine hK0 _ (tp,t,W',a,b,nx) ?_ ⟨hCI.ws,hCI.wi,hI,hge,hnx⟩
    exact qM
  ·have q1:=decide_eq_false (p:=(t:Int)<(w:Int)) om
   have hWW:W'=W:=by cases hCE with|done _=>rfl|skip h1=>exact absurd h1 hc|piv h1=>exact absurd h1 hc
   subst hWW
   refine qWDf @q1 ?_
   refine hK0 _ (tp,t,W',a,b,nx) ?_ ⟨hCI.ws,hCI.wi,hI,hge,hnx⟩
   exact qM
 rintro⟨tp,t,W,a,b,nx⟩ ⟨hWS,hWI,hI,hge,hnx⟩
 clear hI0 hE hWk hA
 obtain⟨l1,l2,l3,l4⟩:=hI.lts
 obtain⟨z1,z2,z3,z4,z5,z6⟩:=hI.nes
 simp only at hI hge hnx l1 l2 l3 l4⊢
 have x1:=hge p (by simp)
 have x2:=hge oM (by simp)
 have x3:=hge oU (by simp)
 have x4:=hge oV (by simp)
 have la:=hI.la
 have lb:=hI.lb
 have lc:=hI.lc
 have hWl:=hWS.len
 have hM:=rI_rows hWI.take
 have hU:=rI_rows (work_u hWI)
 have hV:=rI_rows (work_v hWI)
 have lU:((W'.drop h).take h).length=h:=(work_u hWI).len
 have lV:(W'.drop (2*h)).length=h:=(work_v hWI).len
 have lM:(W'.take h).length=h:=hWI.take.len
 have hrow: ∀C D:List V,∀q,q<3*h->hget ((1,(⟨31,C,false⟩:Blk))::(0,⟨28,D,false⟩)::wkH p oM oU oV h w a b c0 W') ((a++b++c0).getD q 0)=some ⟨68,ivR (W'.getD q []),false⟩:=by
  intro C D q hq
  obtain⟨gR,y1,y2,y3,y4,y5⟩:=hI.row hWl (q:=q) om
  have x5:=hge ((a++b++c0).getD q 0) (by simp only[List.mem_cons];exact .inr (.inr (.inr (.inr (getD_mem' (by rw[zl1,zl1];omega))))))
  unfold wkH
  simp only[hget]
  rw[if_neg om,if_neg om,if_neg y2,if_neg y3,if_neg y4,if_neg y5,gR]
 have hrM: ∀C D:List V,∀k,k<a.length->hget ((1,(⟨31,C,false⟩:Blk))::(0,⟨28,D,false⟩)::wkH p oM oU oV h w a b c0 W') (a.getD k 0)=some ⟨68,(rI (W'.take h)).getD k [],false⟩:=fun C D k hk=>by
  have:=hrow C D k om
  rw[hI.iM om]at this
  rw[this,rI_getD,take_get om]
 have hrU: ∀C D:List V,∀k,k<b.length->hget ((1,(⟨31,C,false⟩:Blk))::(0,⟨28,D,false⟩)::wkH p oM oU oV h w a b c0 W') (b.getD k 0)=some ⟨68,(rI ((W'.drop h).take h)).getD k [],false⟩:=fun C D k hk=>by
  have:=hrow C D (h+k) om
  rw[hI.iU om]at this
  rw[this,rI_getD,take_get om,getD_drop2]
 have hrV: ∀C D:List V,∀k,k<c0.length->hget ((1,(⟨31,C,false⟩:Blk))::(0,⟨28,D,false⟩)::wkH p oM oU oV h w a b c0 W') (c0.getD k 0)=some ⟨68,(rI (W'.drop (2*h))).getD k [],false⟩:=fun C D k hk=>by
  have:=hrow C D (2*h+k) om
  rw[hI.iV]at this
  rw[this,rI_getD,getD_drop2]
 have g1:=slR_len 2 w a
 have g2:=slR_len 2 h b
 have g3:=slR_len 2 h c0
 rw[la]at g1
 rw[lb]at g2
 rw[lc]at g3
 have hkl:=hI.kl (W:=W') (m:=nx) hnx
 unfold hermC
 by_cases h0:h=0
 ·subst h0
  have ha:a=[]:=List.eq_nil_of_length_eq_zero om
  have hb:b=[]:=List.eq_nil_of_length_eq_zero om
  have hc:c0=[]:=List.eq_nil_of_length_eq_zero om
  have hWe:W'=[]:=List.eq_nil_of_length_eq_zero om
  subst ha;subst hb;subst hc;subst hWe
  clear hrow hrM hrU hrV
  unfold wkH workC HZ at*
  have hkl2:klB (rowsH 68 [] (rI [])) nx=true:=rfl
  refine qWDf (Q7 @hkl2 @z1 @z2 @z3 @z4 @z5 @z6) ?_
  exact retQ_ret Tryz.results52 (qSf (Q6 @z1 @z2 @z3 @z4 @z5 @z6)) (qSf (Q6 @z1 @z2 @z3 @z4 @z5 @z6)) rfl
 ·have s1:=slR_some (z:=2) (m:=w) (ids:=a) om
  have s2:=slR_some (z:=2) (m:=h) (ids:=b) om
  have s3:=slR_some (z:=2) (m:=h) (ids:=c0) om
  have f1:=fun C D:List V=>frz_rowsA (n:=5) (z:=2) (m:=w) (ty:=68) (ids:=a) (rs:=rI (W'.take h)) om (by rw[rI_len];omega) (hrM C D) hM
  have f2:=fun C D:List V=>frz_rowsA (n:=5) (z:=2) (m:=h) (ty:=68) (ids:=b) (rs:=rI ((W'.drop h).take h)) om (by rw[rI_len];omega) (hrU C D) hU
  have f3:=fun C D:List V=>frz_rowsA (n:=5) (z:=2) (m:=h) (ty:=68) (ids:=c0) (rs:=rI (W'.drop (2*h))) om (by rw[rI_len];omega) (hrV C D) hV
  have t1:(slR 2 w a).take h=slR 2 w a:=zla om
  have t2:(slR 2 h b).take h=slR 2 h b:=zla om
  have t3:(slR 2 h c0).take h=slR 2 h c0:=zla om
  clear hrow hrM hrU hrV
  unfold wkH workC HZ at*
  refine qWDf (Q7 @hkl @z1 @z2 @z3 @z4 @z5 @z6) ?_
  exact retQ_ret Tryz.results52 (qSf (Q6 @z1 @z2 @z3 @z4 @z5 @z6)) (qSf (Q18 @f1 @f2 @f3 @s1 @s2 @s3 @t1 @t2 @t3 @g1 @g2 @g3 @z1 @z2 @z3 @z4 @z5 @z6)) rfl
end
section
open Go.RowKit
theorem getE{α:Type}(l:List α)(d:α){i:Nat}(h:i<l.length):l.getD i d=l[i]:=by
 rw[List.getD_eq_getElem?_getD,zlb h];rfl
def pivI(r:List Int):Int:=if r.findIdx (fun x=>x !=0)<r.length then(r.findIdx (fun x=>x !=0):Int)else-1
theorem piv_at{r:List Int}{c:Nat}(hc:c<r.length)(hz: ∀k,k<c->r.getD k 0=0)(hn:r.getD c 0≠0):pivI r=c:=by
 have e:r.findIdx (fun x=>x !=0)=c:=by
  rw[List.findIdx_eq hc]
  refine⟨?_,fun j hj=> ?_⟩
  ·rw[getE r 0 hc]at hn
   simpa using hn
  ·have:=hz j hj
   rw[getE r 0 om]at this
   simpa using this
 unfold pivI
 rw[e,if_pos hc]
theorem piv_no{r:List Int}(hz: ∀k,k<r.length->r.getD k 0=0):pivI r= -1:=by
 unfold pivI
 rw[if_neg]
 intro h
 have h2:=List.findIdx_getElem (p:=fun x:Int=>x !=0) (w:=h)
 have h3:=hz _ h
 rw[getE r 0 h]at h3
 rw[h3]at h2
 simp at h2
theorem pivot_s{r:List Int}{K:Nat}(hf: ∀c,c<r.length->Fits K (r.getD c 0))(hK:K<=100000000000)(hl:r.length<=1000000):Spec Tryz.prog 68 [.im (ivR r) r.length] (.sc (.int .i64 (pivI r))):=by
 have gl:=ivR_len r
 refine qF Tryz.func68 Tryz.ntmps68 fun B hB=> ?_
 refine qW ?_
 refine SC.loop (fun c:Nat=>⟨[(0,.im (ivR r) r.length),(3,.sc (.int .i64 c))],[],0,17⟩) (fun c=>c<=r.length/\ ∀k,k<c->r.getD k 0=0) (fun c=>r.length-c) 0 ?_ ⟨znc _,fun k hk=>by omega⟩ ?_
 ·exact qL
 ·rintro c ⟨hc,hz⟩ K1 hK1
  by_cases hlt:c<r.length
  ·have q1:=decide_eq_true (p:=(c:Int)<(r.length:Int)) om
   have gd:=ivR_drop (l:=r) (i:=c) hlt
   have g2:c*2<(ivR r).length:=by omega
   have x0:((c:Int)).toNat=c:=rfl
   have c1:=sign_i (r.getD c 0) K (hf c hlt) om
   by_cases h0:r.getD c 0=0
   ·have q2:((r.getD c 0).sign !=0)=false:=by rw[h0];rfl
    have hz2: ∀k,k<c+1->r.getD k 0=0:=fun k hk=>by
     by_cases e:k=c
     ·rw[e];exact h0
     ·exact hz k om
    generalize r.getD c 0=z at*
    unfold iv sv at c1
    unfold ivC sv at gd
    simp only[zl8,zl7]at gd
    refine qWf (Q6 @q1 @q2 @x0 @gl @gd @g2) ?_
    refine hK1 _ (c+1) ?_ ⟨by omega,hz2⟩ om
    exact qL
   ·have q2:((r.getD c 0).sign !=0)=true:=by rw[bne_iff_ne];intro e;exact h0 (Int.sign_eq_zero_iff_zero.1 e)
    rw[piv_at hlt hz h0]
    generalize r.getD c 0=z at*
    unfold iv sv at c1
    unfold ivC sv at gd
    simp only[zl8,zl7]at gd
    refine qWf (Q6 @q1 @q2 @x0 @gl @gd @g2) ?_
    exact qE Tryz.results68
  ·have q1:=decide_eq_false (p:=(c:Int)<(r.length:Int)) om
   rw[piv_no fun k hk=>hz k om]
   refine qWf @q1 ?_
   exact qE Tryz.results68
theorem imR_take(w:Nat)(M:List (List Int))(n:Nat):(imR w (rI M)).take n=imR w (rI (M.take n)):=by
 unfold imR rI;rw[<-List.map_take,<-List.map_take]
end
section
open Go.RowKit
theorem form_ex{h w K:Nat}{A:List (List Int)}(hA:MI h w K A)(hh:h<=1000000):
  ∃W' r p K2,ColsE h w 0 0 (A++idL h++idL h) W'/\WS h w W'/\LinI h w A W'/\IsH h w (ent2 W') r p/\Gb h W' (fun _=>4294967296^K2) (fun _=>4294967296^K2)/\(K2+1)*fact (h-r+1)<=(K+1)*fact (h+1):=by
 have hI:=form_start hA
 obtain⟨W',hE⟩:=ColsE.ex hh w (znb _) hI
 obtain⟨c',top',p',hd,hI'⟩:=hE.inv hh hI
 obtain⟨K2,hG,hK⟩:=hI'.bd
 exact⟨W',top',p',K2,hE,hI'.ws,hI'.lin,hI'.hs.isH hd,hG,hK⟩
end
section
theorem SubL.trans{h w:Nat}{M N P:Nat->Nat->Int}(h1:SubL h w M N)(h2:SubL h w N P):SubL h w M P:=by
 intro i hi
 obtain⟨c,hc⟩:=h2 i hi
 have hch: ∀s:Nat,∃d:Nat->Int,s<h-> ∀j,j<w->N s j=dotI d (fun t=>M t j) h:=fun s=>by
  by_cases hs:s<h
  ·obtain⟨d,hd⟩:=h1 s hs;exact⟨d,fun _=>hd⟩
  ·exact⟨fun _=>0,fun e=>absurd e hs⟩
 refine⟨fun t=>dotI c (fun s=>(hch s).choose t) h,fun j hj=> ?_⟩
 rw[dot_dot,hc j hj]
 exact dot_congr fun s hs=>⟨rfl,by rw[(hch s).choose_spec hs j hj]⟩
section
variable {h w N:Nat} {A W:List (List Int)} {o:OpL}
theorem actW_lin(hL:LinI h w A W)(hW:WS h w W)(ho:OkI h o):LinI h w A (actW h W o)/\WS h w (actW h W o):=by
 have hi:=ho.i
 unfold actW
 rcases ho.c with⟨e,hj,hij,_⟩|⟨e,_,_⟩|⟨e,hj,hij⟩
 ·rw[if_pos e];exact⟨hL.swap hW hi hj hij,swapW_ws hW hi hj⟩
 ·rw[if_neg om,if_pos e];exact⟨hL.neg hW hi,negW_ws hW hi⟩
 ·rw[if_neg om,if_neg om];exact⟨hL.add hW hi hj hij,addW_ws hW hi hj⟩
theorem actW_bd(hW:WS h w W)(ho:OkI h o)(hB: ∀q t,q<3*h->(ent2 W q t).natAbs<=N): ∀q t,q<3*h->(ent2 (actW h W o) q t).natAbs<=N*(1+o.k.natAbs):=by
 intro q t hq
 have hi:=ho.i
 have hN:N<=N*(1+o.k.natAbs):=Nat.le_mul_of_pos_right _ om
 have hadd: ∀a b c d:Nat,a<3*h->c<3*h->((ent2 W a b)+o.k*ent2 W c d).natAbs<=N*(1+o.k.natAbs):=fun a b c d ha hc=>by
  have:=abs_addmul (hB a b ha) (hB c d hc) (znb o.k.natAbs)
  rw[Nat.mul_add,zn8,Nat.mul_comm N];exact this
 have hsub: ∀a b c d:Nat,a<3*h->c<3*h->((ent2 W a b)-o.k*ent2 W c d).natAbs<=N*(1+o.k.natAbs):=fun a b c d ha hc=>by
  have e:(o.k*ent2 W c d).natAbs<=o.k.natAbs*N:=by rw[Int.natAbs_mul];exact Nat.mul_le_mul_left _ (hB c d hc)
  have:=hB a b ha
  rw[Nat.mul_add,zn8,Nat.mul_comm N];omega
 unfold actW
 rcases ho.c with⟨e,hj,hij,_⟩|⟨e,_,_⟩|⟨e,hj,hij⟩
 ·rw[if_pos e,swapW_ent hW hi hj hq]
  split
  ·rename_i h1
   have:=swi_lt hi hj h1
   exact Nat.le_trans (hB _ t om) hN
  ·split
   ·have:=swi_lt (q:=q-h) hi hj om
    exact Nat.le_trans (hB _ t om) hN
   ·exact Nat.le_trans (hB q _ hq) hN
 ·rw[if_neg om,if_pos e,negW_ent hW hi hq]
  split
  ·rw[Int.natAbs_neg];exact Nat.le_trans (hB q t hq) hN
  ·exact Nat.le_trans (hB q t hq) hN
 ·rw[if_neg om,if_neg om,addW_ent hW hi hj hq]
  split
  ·exact hadd _ _ _ _ om om
  ·split
   ·exact hadd _ _ _ _ om om
   ·split
    ·exact hsub _ _ _ _ hq hq
    ·exact Nat.le_trans (hB q t hq) hN
theorem actsW_all: ∀{l:List OpL} {N:Nat} {W:List (List Int)},LinI h w A W->WS h w W->(∀o∈l,OkI h o)->(∀q t,q<3*h->(ent2 W q t).natAbs<=N)->
  LinI h w A (actsW h W l)/\WS h w (actsW h W l)/\ ∀q t,q<3*h->(ent2 (actsW h W l) q t).natAbs<=N*prd l
 |[],N,W,hL,hW,_,hB=>⟨hL,hW,fun q t hq=>by rw[prd,zn8];exact hB q t hq⟩
 |o::l,N,W,hL,hW,ho,hB=>by
  obtain⟨h1,h2⟩:=actW_lin hL hW (ho o (by simp))
  have:=actsW_all (l:=l) h1 h2 (fun p hp=>ho p (by simp[hp])) (actW_bd hW (ho o (by simp)) hB)
  rw[prd,<-Nat.mul_assoc];exact this
theorem ws_wi{K:Nat}(hW:WS h w W)(hB: ∀q t,q<3*h->(ent2 W q t).natAbs<=N)(hK:N<4294967296^K):WI h w K W:=by
 refine⟨hW.len,hW.rowM,hW.rowU,fun q t=> ?_⟩
 by_cases hq:q<3*h
 ·exact Nat.lt_of_le_of_lt (hB q t hq) hK
 ·have:=hW.len
  have e:W.getD q []=[]:=by rw[List.getD_eq_getElem?_getD,List.getElem?_eq_none om];rfl
  rw[e]
  show Nat.lt _ _
  have:([]:List Int).getD t 0=0:=by simp
  rw[this];exact Nat.lt_of_le_of_lt (znc _) hK
end
theorem invL_prd: ∀l:List OpL,prd (invL l)=prd l
 |[]=>rfl
 |o::l=>by
  rw[invL_cons,prd_app,invL_prd l]
  show prd l*((1+(-o.k).natAbs)*1)=(1+o.k.natAbs)*prd l
  rw[zn8,Int.natAbs_neg,Nat.mul_comm]
theorem invL_okI{h:Nat}{l:List OpL}(hl: ∀o∈l,OkI h o): ∀o∈invL l,OkI h o:=fun o ho=>by
 unfold invL at ho
 obtain⟨p,hp,rfl⟩:=List.mem_map.1 (List.mem_reverse.1 ho)
 obtain⟨h1,h2⟩:=hl p hp
 refine⟨h1,?_⟩
 rcases h2 with⟨a,b,c,d⟩|⟨a,b,c⟩|⟨a,b,c⟩
 ·exact .inl ⟨a,b,c,by show-p.k=0;rw[d];rfl⟩
 ·exact .inr (.inl ⟨a,b,by show-p.k=0;rw[c];rfl⟩)
 ·exact .inr (.inr ⟨a,b,c⟩)
end
section
open Go.RowKit
theorem list_upto{α:Type}{a b:List α}{d:α}(hl:a.length=b.length)(h: ∀i,i<a.length->a.getD i d=b.getD i d):a=b:=by
 refine List.ext_getElem hl fun i h1 h2=> ?_
 have:=h i h1
 rw[List.getD_eq_getElem?_getD,zlb h1,List.getD_eq_getElem?_getD,zlb h2]at this
 exact this
theorem vsame_s{w K:Nat}{a b:List Int}(ha:a.length=w)(hb:b.length=w)(hfa: ∀x∈a,Fits K x)(hfb: ∀x∈b,Fits K x)(hK:K<=100000000000)(hw:w<=1000000):Spec Tryz.prog 56 [.im (ivR a) w,.im (ivR b) w] (.sc (.bool (decide (a=b)))):=by
 have gla:=ivR_len a
 have glb:=ivR_len b
 refine qF Tryz.func56 Tryz.ntmps56 fun B hB=> ?_
 refine qW ?_
 refine SC.loop (fun t:Nat=>⟨[(0,.im (ivR a) w),(1,.im (ivR b) w),(5,.sc (.int .i64 t))],[],0,27⟩) (fun t=>t<=w/\ ∀i,i<t->a.getD i 0=b.getD i 0) (fun t=>w-t) 0 ?_ ?_ ?_
 ·exact qL
 ·exact⟨znc _,fun i h=>by omega⟩
 ·rintro t ⟨ht,he⟩ K3 hK3
  by_cases hc2:t<w
  ·have q2:=decide_eq_true (p:=(t:Int)<(w:Int)) om
   have hx:=fits_len (hfa _ (getD_mem (d:=0) (l:=a) (i:=t) om))
   have hy:=fits_len (hfb _ (getD_mem (d:=0) (l:=b) (i:=t) om))
   have c1:=same_i (a.getD t 0) (b.getD t 0) (by unfold Short;omega) (by unfold Short;omega)
   have gda:=ivR_drop (l:=a) (i:=t) om
   have gdb:=ivR_drop (l:=b) (i:=t) om
   have g2:t*2<(ivR a).length:=by omega
   have g3:t*2<(ivR b).length:=by omega
   have hne:a.getD t 0≠b.getD t 0->a≠b:=fun h e=>h (by rw[e])
   have hnx:a.getD t 0=b.getD t 0-> ∀i,i<t+1->a.getD i 0=b.getD i 0:=fun h i hi=>by
    by_cases e:i=t
    ·rw[e];exact h
    ·exact he i om
   clear he
   generalize(ivR a).drop ((t+1)*2)=D at*
   generalize ivR a=A at*
   generalize(ivR b).drop ((t+1)*2)=D2 at*
   generalize ivR b=A2 at*
   generalize a.getD t 0=x at*
   generalize b.getD t 0=y at*
   unfold iv sv at c1
   unfold ivC sv at gda gdb
   simp only[zl8,zl7]at gda gdb
   by_cases hxy:x=y
   ·rw[decide_eq_true hxy]at c1
    refine qWf (Q5 @q2 @gda @gdb @g2 @g3) ?_
    refine hK3 _ (t+1) ?_ ⟨by omega,hnx hxy⟩ om
    exact qL
   ·rw[decide_eq_false hxy]at c1
    rw[decide_eq_false (hne hxy)]
    refine qWf (Q5 @q2 @gda @gdb @g2 @g3) ?_
    exact qE Tryz.results56
  ·have q2:=decide_eq_false (p:=(t:Int)<(w:Int)) om
   rw[decide_eq_true (list_upto (d:=0) om fun i hi=>he i om)]
   refine qWf @q2 ?_
   exact qE Tryz.results56
set_option maxRecDepth 4000 in
theorem msame_s{h w K:Nat}{M N:List (List Int)}(hM:MI h w K M)(hN:MI h w K N)(hK:K<=100000000000)(hn:h<=1000000)(hw:w<=1000000):Spec Tryz.prog 17 [mat w M,mat w N] (.sc (.bool (decide (M=N)))):=by
 have hl:=hM.len
 have hl2:=hN.len
 have gl:=imI_len w M
 have gl2:=imI_len w N
 unfold mat
 rw[hl]at gl⊢
 rw[hl2]at gl2⊢
 refine qF Tryz.func17 Tryz.ntmps17 fun B hB=> ?_
 refine qWf (Q2 @gl @gl2) ?_
 refine SC.loop (fun i:Nat=>⟨[(2,.pt 0 0),(3,.pt 1 0),(5,.sc (.int .i64 i))],[(1,⟨28,[.sc (.int .i64 h),.sc (.int .i64 w),.im (imR w (rI N)) h],false⟩),(0,⟨28,[.sc (.int .i64 h),.sc (.int .i64 w),.im (imR w (rI M)) h],false⟩)],2,46⟩)
  (fun t=>t<=h/\ ∀i,i<t->M.getD i []=N.getD i []) (fun i=>h-i) 0 ?_ ?_ ?_
 ·exact qL
 ·exact⟨znc _,fun i h=>by omega⟩
 ·rintro t ⟨ht,he⟩ K2 hK2
  by_cases hc:t<h
  ·have q1:=decide_eq_true (p:=(t:Int)<(h:Int)) om
   have g1:=imI_get (w:=w) (M:=M) (i:=t) om
   have g2:=imI_get (w:=w) (M:=N) (i:=t) om
   have hr:=hM.get hc
   have hr2:=hN.get hc
   have c1:=vsame_s hr.1 hr2.1 hr.2 hr2.2 hK hw
   have hnx:M.getD t []=N.getD t []-> ∀i,i<t+1->M.getD i []=N.getD i []:=fun h i hi=>by
    by_cases e:i=t
    ·rw[e];exact h
    ·exact he i om
   by_cases hxy:M.getD t []=N.getD t []
   ·rw[decide_eq_true hxy]at c1
    refine qWf (Q6 @q1 @g1 @g2 @gl @gl2 @gD) ?_
    refine hK2 _ (t+1) ?_ ⟨by omega,hnx hxy⟩ om
    exact qL
   ·rw[decide_eq_false hxy]at c1
    rw[decide_eq_false (fun e:M=N=>hxy (by rw[e]))]
    refine qWf (Q6 @q1 @g1 @g2 @gl @gl2 @gD) ?_
    exact qE Tryz.results17
  ·have q1:=decide_eq_false (p:=(t:Int)<(h:Int)) om
   rw[decide_eq_true (list_upto (d:=[]) om fun i hi=>he i om)]
   refine qWf @q1 ?_
   exact qE Tryz.results17
end
section
open Go.RowKit
def isF(M:List (List Int))(w:Nat):Nat->Nat->Int->Bool
 |0,_,_=>true
 |k+1,i,last=>if pivI (M.getD i [])<0 then isF M w k (i+1) w
  else if pivI (M.getD i [])<=last\/ent2 M i (pivI (M.getD i [])).toNat<=0 then false
  else if∀r,r<i->0<=ent2 M r (pivI (M.getD i [])).toNat/\ent2 M r (pivI (M.getD i [])).toNat<ent2 M i (pivI (M.getD i [])).toNat then isF M w k (i+1) (pivI (M.getD i []))else false
theorem pivI_lt(r:List Int):pivI r<r.length/\ -1<=pivI r:=by unfold pivI;split<;>omega
set_option maxRecDepth 8000 in
theorem lis_s{h w K:Nat}{M:List (List Int)}(hM:MI h w K M)(hK:K<=100000000000)(hn:h<=1000000)(hw:w<=1000000):Spec Tryz.prog 37 [mat w M] (.sc (.bool (isF M w h 0 (-1)))):=by
 have hl:=hM.len
 have gl:=imI_len w M
 have c1:=iValid_s hM hK hn hw
 obtain⟨G,hG0⟩: ∃G,isF M w h 0 (-1)=G:=⟨_,rfl⟩
 rw[hG0]
 unfold mat at*
 rw[hl]at gl c1⊢
 refine qF Tryz.func37 Tryz.ntmps37 fun B hB=> ?_
 refine qW ?_
 refine SC.loop (fun x:Nat×Int=>⟨[(1,.pt 0 0),(4,.sc (.int .i64 x.2)),(5,.sc (.int .i64 x.1))],[(0,⟨28,[.sc (.int .i64 h),.sc (.int .i64 w),.im (imR w (rI M)) h],false⟩)],1,79⟩)
  (fun x=>x.1<=h/\isF M w (h-x.1) x.1 x.2=G) (fun x=>h-x.1) (0,-1) ?_ ?_ ?_
 ·exact qL
 ·exact⟨znc _,hG0⟩
 ·rintro ⟨i,last⟩ ⟨hi,hG⟩ K2 hK2
  simp only at hi hG⊢
  by_cases hc:i<h
  ·have q1 :=decide_eq_true (p:=(i:Int)<(h:Int)) om
   have g1:=imI_get (w:=w) (M:=M) (i:=i) om
   have hr:=hM.get hc
   have c2:=pivot_s (r:=M.getD i []) (K:=K) (fun c hcw=>hr.2 _ (getD_mem (d:=0) om)) hK om
   obtain⟨p1,p2⟩:=pivI_lt (M.getD i [])
   rw[hr.1]at c2 p1
   rw[show h-i=(h-(i+1))+1 by omega,isF]at hG
   by_cases h1:pivI (M.getD i [])<0
   ·rw[if_pos h1]at hG
    have q2:=decide_eq_true h1
    refine qWf (Q5 @q1 @g1 @gl @gD @q2) ?_
    refine hK2 _ (i+1,(w:Int)) ?_ ⟨by simp only;omega,hG⟩ (by simp only;omega)
    exact qL
   ·rw [if_neg h1]at hG
    obtain⟨p,hp⟩: ∃p:Nat,pivI (M.getD i [])=p:=⟨(pivI (M.getD i [])).toNat,(Int.toNat_of_nonneg om).symm⟩
    rw[hp]at hG c2 h1 p1
    have hpw:p<w:=by omega
    rw[Int.toNat_natCast]at hG
    have hx:=hM.fit hc hpw
    have c3:=sign_i _ K hx om
    have gd:=ivR_drop (l:=M.getD i []) (i:=p) om
    have glr:=ivR_len (M.getD i [])
    have g2:p*2<(ivR (M.getD i [])).length:=by omega
    have hxe:ent2 M i p=(M.getD i []).getD p 0:=rfl
    rw[hxe]at hG
    have q2:decide ((p:Int)<0)=false:=decide_eq_false om
    have hgk:=fun k (hk:k<h)=>imI_get (w:=w) (M:=M) (i:=k) om
    have hgc:=fun k (hk:k<h)=>ivR_drop (l:=M.getD k []) (i:=p) (by rw[(hM.get hk).1];exact hpw)
    have hglk:=fun k (hk:k<h)=>ivR_len (M.getD k [])
    have hlk:=fun k (hk:k<h)=>(hM.get hk).1
    have hfk:=fun k (hk:k<h)=>hM.fit hk hpw
    generalize hR:ivR (M.getD i [])=R at*
    generalize hD:R.drop ((p+1)*2)=D at*
    generalize hxx:(M.getD i []).getD p 0=x at*
    unfold iv sv at c3
    unfold ivC sv at gd
    simp only[zl8,zl7]at gd
    by_cases h2:(p:Int)<=last
    ·rw[if_pos (.inl h2)]at hG
     subst hG
     have q3:=decide_eq_true h2
     refine qWf (Q8 @q1 @g1 @gl @gD @q2 @q3 @gd @g2) ?_
     exact qE Tryz.results37
    ·have q3:=decide_eq_false h2
     by_cases h3:x<=0
     ·rw[if_pos (.inr h3)]at hG
      subst hG
      have q4:decide (x.sign<=0)=true:=decide_eq_true (by rw[<-Int.not_lt]at h3⊢;intro e;exact h3 (Int.sign_pos_iff.1 e))
      refine qWf (Q9 @q1 @g1 @gl @gD @q2 @q3 @q4 @gd @g2) ?_
      exact qE Tryz.results37
     ·rw [if_neg om]at hG
      have q4:decide (x.sign<=0)=false:=decide_eq_false (by rw[Int.not_le];exact Int.sign_pos_iff.2 om)
      refine qWf (Q9 @q1 @g1 @gl @gD @q2 @q3 @q4 @gd @g2) ?_
      refine SC.loop (fun k:Nat=>⟨[(1,.pt 0 0),(4,.sc (.int .i64 last)),(5,.sc (.int .i64 i)),(6,.sc (.int .i64 p)),(7,.sc (.int .i64 k))],[(0,⟨28,[.sc (.int .i64 h),.sc (.int .i64 w),.im (imR w (rI M)) h],false⟩)],1,79⟩)
       (fun k=>k<=i/\ ∀r,r<k->0<=ent2 M r p/\ent2 M r p<x) (fun k=>i-k) 0 ?_ ?_ ?_
      ·exact qL
      ·exact⟨znc _,fun r h=>by omega⟩
      ·rintro k ⟨hk,he⟩ K3 hK3
       by_cases hck:k<i
       ·have q5:=decide_eq_true (p:=(k:Int)<(i:Int)) om
        have g3:=hgk k om
        have gdk:=hgc k om
        have glk:=hglk k om
        rw[hlk k om]at glk
        have hfy:=hfk k om
        have c4:=sign_i _ K hfy om
        have c5:=cmp_i _ x K hfy hx om
        have g4:p*2<(ivR (M.getD k [])).length:=by omega
        have hyy:ent2 M k p=(M.getD k []).getD p 0:=rfl
        generalize(ivR (M.getD k [])).drop ((p+1)*2)=D2 at*
        generalize ivR (M.getD k [])=R2 at*
        generalize(M.getD k []).getD p 0=y at*
        unfold iv sv at c4 c5
        unfold ivC sv at gdk
        simp only[zl8,zl7]at gdk
        by_cases h4:y<0
        ·have q6:decide (y.sign<0)=true:=decide_eq_true (Int.sign_neg_iff.2 h4)
         rw[if_neg (fun e=>by have:=(e k hck).1;omega)]at hG
         subst hG
         refine qWf (Q10 @q5 @g1 @g3 @gl @gD @q6 @gd @g2 @gdk @g4) ?_
         exact qE Tryz.results37
        ·have q6:decide (y.sign<0)=false:=decide_eq_false (fun e=>h4 (Int.sign_neg_iff.1 e))
         by_cases h5:y<x
         ·have q7:decide ((y-x).sign>=0)=false:=decide_eq_false (fun e=>by have:=Int.sign_neg_iff.2 (show y-x<0 by omega);omega)
          refine qWf (Q11 @q5 @g1 @g3 @gl @gD @q6 @q7 @gd @g2 @gdk @g4) ?_
          refine hK3 _ (k+1) ?_ ⟨by omega,fun r hr=> ?_⟩ om
          ·exact qL
          ·by_cases e:r=k
           ·rw[e,hyy];omega
           ·exact he r om
         ·have q7:decide ((y-x).sign>=0)=true:=decide_eq_true (by have:=Int.sign_nonneg_iff.2 (show 0<=y-x by omega);omega)
          rw[if_neg (fun e=>by have:=(e k hck).2;omega)]at hG
          subst hG
          refine qWf (Q11 @q5 @g1 @g3 @gl @gD @q6 @q7 @gd @g2 @gdk @g4) ?_
          exact qE Tryz.results37
       ·have q5:=decide_eq_false (p:=(k:Int)<(i:Int)) om
        have hki:k=i:=by omega
        rw[if_pos (fun r hr=>he r om)]at hG
        refine qWf @q5 ?_
        refine hK2 _ (i+1,(p:Int)) ?_ ⟨by simp only;omega,hG⟩ (by simp only;omega)
        exact qL
  ·have q1:=decide_eq_false (p:=(i:Int)<(h:Int)) om
   have hin:h-i=0:=by omega
   rw[hin,isF]at hG
   subst hG
   refine qWf @q1 ?_
   exact qE Tryz.results37
end
section
open Go.RowKit
def herm(h w:Nat)(H U C:List (List Int)):V:= .ag [.sc (.int .i64 h),.sc (.int .i64 w),.im (imR w (rI H)) h,.sc (.int .i64 h),.sc (.int .i64 h),.im (imR h (rI U)) h,.sc (.int .i64 h),.sc (.int .i64 h),.im (imR h (rI C)) h]
def chkF(h w:Nat)(A H U C:List (List Int)):Bool:=isF H w h 0 (-1)&&(decide (mulM h h w U A=H)&&decide (mulM h h h U C=idL h))
theorem lcheck_s{h w K:Nat}{A H U C:List (List Int)}(hA:MI h w K A)(hH:MI h w K H)(hU:MI h h K U)(hC:MI h h K C)(hK:K<=40000000000)(hn:h<=1000000)(hw:w<=1000000):Spec Tryz.prog 60 [mat w A,herm h w H U C] (.sc (.bool (chkF h w A H U C))):=by
 have hP:=mul_mi hU hA hn
 have hQ:=mul_mi hU hC hn
 have hI:MI h h (2*K+1) (idL h):=(mk_mi (K:=1) fun _ _ _ _=>fits01).mono om
 have c1:=iValid_s hA om hn hw
 have c2:=lis_s hH om hn hw
 have c3:=isized_s hU om hn hn
 have c4:=isized_s hC om hn hn
 have c5:=rprod_s hU hA om hn hn hw
 have c6:=rprod_s hU hC om hn hn hn
 have c7:=rident_s h hn
 have c8:=msame_s hP (hH.mono om) om hn hw
 have c9:=msame_s hQ hI om hn hn
 have l1:=hA.len
 have l2:=hH.len
 have l3:=hU.len
 have l4:=hC.len
 have l5:=hP.len
 have l6:=hQ.len
 have l7:=hI.len
 unfold chkF
 generalize isF H w h 0 (-1)=b1 at*
 generalize mulM h h w U A=P at*
 generalize mulM h h h U C=Q at*
 generalize idL h=I at*
 generalize decide (P=H)=b2 at*
 generalize decide (Q=I)=b3 at*
 unfold herm mat at*
 simp only[l1,l2,l3,l4,l5,l6,l7]at*
 refine qF Tryz.func60 Tryz.ntmps60 fun B hB=> ?_
 cases b1<;>cases b2<;>cases b3
 all_goals
  refine qW ?_
  exact qE Tryz.results60
end
section
open Go.RowKit
theorem pabs_i(x:Int)(K:Nat)(hx:Fits K x)(hK:K<=1000000000000):Spec Tryz.prog 137 [iv x] (iv (x.natAbs:Int)):=by
 have lx:=fits_len hx
 have c1:=clone_l (limbsOf x.natAbs) om
 have c2:=pvalue_n x.natAbs false (x.natAbs:Int) rfl om
 unfold iv sv at*
 refine qF Tryz.func137 Tryz.ntmps137 fun B hB=> ?_
 refine qW ?_
 exact qE Tryz.results137
end
section
open Go.RowKit
theorem near_s(x p:Int)(K:Nat)(hx:Fits K x)(hp:Fits K p)(hK:K<=100000000000)(h0:0<p):Spec Tryz.prog 130 [iv x,iv p] (iv (nearI x p)):=by
 have c1:=padd_i x x K hx hx om
 have c2:=padd_i (x+x) p (K+1) (hx.add hx) (hp.mono om) om
 have c3:=padd_i p p K hp hp om
 have c4:=pdivmod_i (x+x+p) (p+p) (K+2) (((hx.add hx).add (hp.mono om)).mono om) ((hp.add hp).mono om) om om
 unfold nearI
 generalize(x+x+p)/(p+p)=q at*
 generalize(x+x+p) % (p+p)=m at*
 generalize hs1:x+x+p=s1 at*
 generalize x+x=s2 at*
 generalize p+p=s3 at*
 clear hx hp h0
 unfold iv sv at*
 refine qF Tryz.func130 Tryz.ntmps130 fun B hB=> ?_
 refine qW ?_
 exact qE Tryz.results130
def atI:Option Nat->Int
 |some a=>a
 |none=> -1
theorem least_s{h w K r c:Nat}{M:List (List Int)}(hM:MI h w K M)(hK:K<=100000000000)(hr:r<=h)(hc:c<w)(hn:h<=1000000)(hw:w<=1000000):
  Spec Tryz.prog 129 [.im (imR w (rI M)) h,.sc (.int .i64 r),.sc (.int .i64 c)] (.tu [.sc (.int .i64 (atI (leastT M c r (h-r)))),.sc (.bool (decide (atI (leastT M c r (h-r))>=0)))]):=by
 have hl:=hM.len
 have himl:=imI_len w M
 refine qF Tryz.func129 Tryz.ntmps129 fun B hB=> ?_
 refine qW ?_
 refine SC.loop (fun t:Nat=>⟨[(0,.im (imR w (rI M)) h),(1,.sc (.int .i64 r)),(2,.sc (.int .i64 c)),(8,.sc (.int .i64 (atI (leastT M c r t)))),(9,.sc (.int .i64 (r+t:Nat)))],[],0,48⟩) (fun t=>t<=h-r) (fun t=>h-r-t) 0 ?_ ?_ ?_
 ·exact qL
 ·exact znc _
 ·intro t ht K2 hK2
  by_cases hlt:r+t<h
  ·have q1:=decide_eq_true (p:=((r+t:Nat):Int)<(h:Int)) om
   have gi:=imI_get (w:=w) (M:=M) (i:=r+t) om
   have hrow:=(hM.get hlt).1
   have gl:=ivR_len (M.getD (r+t) [])
   have gd:=ivR_drop (l:=M.getD (r+t) []) (i:=c) om
   have hf:Fits K (ent2 M (r+t) c):=hM.fit hlt hc
   have hx0:(M.getD (r+t) []).getD c 0=ent2 M (r+t) c:=rfl
   have hst:leastT M c r (t+1)=match leastT M c r t with|none=>if ent2 M (r+t) c=0 then none else some (r+t)|some a=>if ent2 M (r+t) c≠0/\(ent2 M (r+t) c).natAbs<(ent2 M a c).natAbs then some (r+t)else some a:=rfl
   rw[hx0]at gd
   have cS:=psign_i (ent2 M (r+t) c) K hf om
   have cA:=pabs_i (ent2 M (r+t) c) K hf om
   generalize hx:ent2 M (r+t) c=x at*
   generalize(ivR (M.getD (r+t) [])).drop ((c+1)*2)=Z at*
   unfold ivC sv at gd
   simp only[zl8,zl7]at gd
   generalize ivR (M.getD (r+t) [])=row at*
   by_cases h0:x=0
   ·have hs:leastT M c r (t+1)=leastT M c r t:=by
     rw[hst];cases leastT M c r t with
     |none=>simp only;rw[if_pos h0]
     |some a=>simp only;rw[if_neg (by rintro⟨a,_⟩;exact a h0)]
    subst h0
    rw[show(0:Int).sign=0 from rfl]at cS
    clear cA
    unfold iv sv at cS
    refine qWf (Q7 @q1 @gi @gd @gl @hrow @himl @gD) ?_
    refine hK2 _ (t+1) ?_ om om
    rw[hs]
    exact qL
   ·have hsn:(x.sign==0)=false:=by rw[beq_eq_false_iff_ne];exact fun h=>h0 (Int.sign_eq_zero_iff_zero.1 h)
    generalize x.sign=sx at*
    cases hla:leastT M c r t with
    |none=>
     have hs:leastT M c r (t+1)=some (r+t):=by rw[hst,hla];simp only;rw[if_neg h0]
     have q2:decide (atI none<0)=true:=by decide
     clear cA
     unfold iv sv at cS
     refine qWf (Q9 @q1 @gi @gd @gl @hrow @himl @hsn @q2 @gD) ?_
     refine hK2 _ (t+1) ?_ om om
     rw[hs]
     have ea:atI (some (r+t))=((r+t:Nat):Int):=rfl
     rw[ea]
     exact qL
    | some a=>
     obtain⟨a1,a2,a3,a4⟩:=least_some hla
     have ha:a<h:=by omega
     have gia:=imI_get (w:=w) (M:=M) (i:=a) om
     have hrowa:=(hM.get ha).1
     have gla:=ivR_len (M.getD a [])
     have gda:=ivR_drop (l:=M.getD a []) (i:=c) om
     have hfa:Fits K (ent2 M a c):=hM.fit ha hc
     have hxa:(M.getD a []).getD c 0=ent2 M a c:=rfl
     rw[hxa]at gda
     have cB:=pabs_i (ent2 M a c) K hfa om
     have cC:=pcmp_i (x.natAbs:Int) ((ent2 M a c).natAbs:Int) K (by unfold Fits at*;rwa[Int.natAbs_natCast]) (by unfold Fits at*;rwa[Int.natAbs_natCast]) om
     have eA:atI (some a)=(a:Int):=rfl
     have q2:decide ((a:Int)<0)=false:=decide_eq_false om
     have q3:decide (((x.natAbs:Int)-((ent2 M a c).natAbs:Int)).sign<0)=decide (x.natAbs<(ent2 M a c).natAbs):=by
      rcases Nat.lt_trichotomy x.natAbs (ent2 M a c).natAbs with e|e|e
      ·rw[Int.sign_eq_neg_one_of_neg om,decide_eq_true e];rfl
      ·rw[decide_eq_false (show¬x.natAbs<(ent2 M a c).natAbs by omega),e,Int.sub_self];rfl
      ·rw[decide_eq_false (show¬x.natAbs<(ent2 M a c).natAbs by omega),Int.sign_eq_one_of_pos om];rfl
     rw[hla]at hst
     simp only at hst
     generalize(ivR (M.getD a [])).drop ((c+1)*2)=Za at*
     generalize((x.natAbs:Int)-((ent2 M a c).natAbs:Int)).sign=sc at*
     unfold ivC sv at gda
     simp only[zl8,zl7]at gda
     generalize ivR (M.getD a [])=rowa at*
     by_cases hlt2:x.natAbs<(ent2 M a c).natAbs
     ·have hs:leastT M c r (t+1)=some (r+t):=by rw[hst,if_pos ⟨h0,hlt2⟩]
      rw[decide_eq_true hlt2]at q3
      generalize ent2 M a c=y at*
      unfold iv sv at cS cA cB cC
      refine qWf (Q15 @q1 @gi @gd @gl @hrow @himl @hsn @eA @q2 @gia @gda @gla @hrowa @q3 @gD) ?_
      refine hK2 _ (t+1) ?_ om om
      rw[hs]
      have ea:atI (some (r+t))=((r+t:Nat):Int):=rfl
      rw[ea]
      exact qL
     ·have hs:leastT M c r (t+1)=some a:=by rw[hst,if_neg (by rintro⟨_,h⟩;exact hlt2 h)]
      rw[decide_eq_false hlt2]at q3
      generalize ent2 M a c=y at*
      unfold iv sv at cS cA cB cC
      refine qWf (Q15 @q1 @gi @gd @gl @hrow @himl @hsn @eA @q2 @gia @gda @gla @hrowa @q3 @gD) ?_
      refine hK2 _ (t+1) ?_ om om
      rw[hs,eA]
      exact qL
  ·have q1:=decide_eq_false (p:=((r+t:Nat):Int)<(h:Int)) om
   have hte:t=h-r:=by omega
   subst hte
   refine qWf @q1 ?_
   exact qE Tryz.results129
end
end Go.Proofs.YtannldafjkjjbaaGreat
