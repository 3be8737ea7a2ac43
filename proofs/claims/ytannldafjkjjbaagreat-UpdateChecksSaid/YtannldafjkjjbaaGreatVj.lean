/- Texts joined: Yc Yd Ya Hi Ye Ka Kb Kc Yf Ru Hj Hk Yg Yh Yi Yj Ki. -/
import Derived.Test.YtannldafjkjjbaaGreatVg
import Derived.Test.YtannldafjkjjbaaGreatVh
import Derived.Test.YtannldafjkjjbaaGreatVi
set_option linter.all false
set_option maxHeartbeats 16000000
open Nat renaming reduceEqDiff → zn1, reduceLT → zn2, reduceLeDiff → zn3, reduceAdd → zn4, reduceMul → zn5, reduceSub → zn6, reduceBEq → zn7, mul_one → zn8, zero_add → zn9, one_mul → zna, le_refl → znb, zero_le → znc, add_sub_cancel_left → znd, sub_eq_zero_of_le → zne, add_assoc → znf
open Int renaming reduceToNat → zi1, reducePow → zi2
open List renaming length_append → zl1, drop_zero → zl2, take_succ_cons → zl3, take_zero → zl4, getElem?_drop → zl5, append_assoc → zl6, nil_append → zl7, cons_append → zl8, drop_succ_cons → zl9, take_of_length_le → zla, getElem?_eq_getElem → zlb, getElem?_eq_some_iff → zlc, map_cons → zld, map_nil → zle, all_eq_true → zlf
namespace Go.Proofs.YtannldafjkjjbaaGreat
section
def stepE(h c top i:Nat)(W:List (List Int)):List (List Int):=swapW h top i (if ent2 W top c=0 then W else addW h top i (-(ent2 W top c/ent2 W i c)) W)
def bp(top i a b:Nat)(g:Nat->Nat):Nat->Nat:=λq=>if q=top then a else if q=i then b else g q
def gB(top B0 B:Nat):Nat->Nat:=λq=>if q<top then B0 else B
def PhE(x y:Int)(a b N B D:Nat):Prop:=
 (a<=B/\b<=B/\12*(N*B)<=D)\/(0<=x/\0<=y/\x.natAbs*b+y.natAbs*a<=D)\/(x<0/\0<=y/\y.natAbs<=x.natAbs/\3*(x.natAbs*b+y.natAbs*a)<=D)\/y=0
theorem euc_nat{x y:Int}(hy:y≠0):0<=x % y/\(x % y).natAbs<y.natAbs/\(0<=x->y.natAbs*(x/y).natAbs+(x % y).natAbs=x.natAbs)/\(x<0->y.natAbs*(x/y).natAbs=x.natAbs+(x % y).natAbs):=by
 have h1:=Int.mul_ediv_add_emod x y;have h2:=Int.emod_nonneg x hy;have h3:=Int.emod_lt x hy;have h4:=Int.natAbs_mul y (x/y);have h5:(x/y).natAbs≠0->y.natAbs<=y.natAbs*(x/y).natAbs:=λh=>Nat.le_mul_of_pos_right _ om;have h6:(x/y).natAbs=0->y.natAbs*(x/y).natAbs=0:=λh=>by rw[h,Nat.mul_zero]
 generalize y.natAbs*(x/y).natAbs=P at*;generalize y*(x/y)=Z at*;generalize x % y=R at*;refine⟨h2,by omega,λh=> ?_,λh=>by omega⟩;by_cases hq:(x/y).natAbs=0;·have:=h6 hq;omega
 ·have:=h5 hq;omega
theorem phE_step{x y:Int}{a b N B D:Nat}(hx:x.natAbs<=N)(hy:y.natAbs<=N)(h0:y≠0)(hP:PhE x y a b N B D):PhE y (x % y) b (a+(x/y).natAbs*b) N B D/\a+(x/y).natAbs*b<=D:=by
 obtain⟨r0,r1,e1,e2⟩:=euc_nat (x:=x) h0;have eT:y.natAbs*(a+(x/y).natAbs*b)=y.natAbs*a+y.natAbs*(x/y).natAbs*b:=by rw[Nat.mul_add,Nat.mul_assoc]
 have hY:1<=y.natAbs:=by omega
 have hle:a+(x/y).natAbs*b<=y.natAbs*(a+(x/y).natAbs*b):=Nat.le_mul_of_pos_left _ hY;have f1:0<=x->y.natAbs*(x/y).natAbs*b+(x % y).natAbs*b=x.natAbs*b:=λh=>by rw[<-Nat.add_mul,e1 h]
 have f2:x<0->y.natAbs*(x/y).natAbs*b=x.natAbs*b+(x % y).natAbs*b:=λh=>by rw[<-Nat.add_mul,e2 h]
 have g1:(x % y).natAbs*b<=y.natAbs*b:=Nat.mul_le_mul_right b (Nat.le_of_lt r1);have key:(0<y->y.natAbs*(a+(x/y).natAbs*b)+(x % y).natAbs*b<=D)/\(y<0->3*(y.natAbs*(a+(x/y).natAbs*b)+(x % y).natAbs*b)<=D):=by
  rcases hP with⟨ha,hb,hD⟩|⟨hx0,hy0,hT⟩|⟨hx0,hy0,hyx,hT⟩|hP
  ·have k1:=Nat.mul_le_mul hy ha;have k2:=Nat.mul_le_mul hx hb;have k3:=Nat.mul_le_mul hy hb;rcases Int.lt_or_le x 0 with hs|hs;·have:=f2 hs;omega
   ·have:=f1 hs;omega
  ·have:=f1 hx0;omega
  ·have:=f2 hx0;have k3:=Nat.mul_le_mul_right b hyx;omega
  ·exact absurd hP h0
 rcases Int.lt_trichotomy y 0 with hs|hs|hs
 ·have:=key.2 hs;exact⟨.inr (.inr (.inl ⟨hs,r0,by omega,this⟩)),by omega⟩
 ·exact absurd hs h0
 ·have:=key.1 hs;exact⟨.inr (.inl ⟨by omega,r0,this⟩),by omega⟩
section
variable {h w c top i N B0 B D:Nat} {A W W':List (List Int)}
theorem stepE_ws(hW:WS h w W)(ht:top<h)(hi:i<h):WS h w (stepE h c top i W):=by
 unfold stepE;split;·exact swapW_ws hW ht hi
 ·exact swapW_ws (addW_ws hW ht hi) ht hi
theorem stepE_ent(hW:WS h w W)(hti:top<i)(hi:i<h){q t:Nat}(hq:q<h):ent2 (stepE h c top i W) q t=if q=top then ent2 W i t else if q=i then ent2 W top t-ent2 W top c/ent2 W i c*ent2 W i t else ent2 W q t:=by
 have ht:top<h:=by omega
 have hW1:WS h w (if ent2 W top c=0 then W else addW h top i (-(ent2 W top c/ent2 W i c)) W):=by
  split;·exact hW
  ·exact addW_ws hW ht hi
 have e1: ∀q,q<h->ent2 (if ent2 W top c=0 then W else addW h top i (-(ent2 W top c/ent2 W i c)) W) q t=if q=top then ent2 W top t-ent2 W top c/ent2 W i c*ent2 W i t else ent2 W q t:=λq hq=>by
  by_cases h0:ent2 W top c=0
  ·rw[if_pos h0,h0,Int.zero_ediv,Int.zero_mul,Int.sub_zero];by_cases e:q=top;·rw[if_pos e,e]
   ·rw[if_neg e]
  ·rw[if_neg h0,addW_ent hW ht hi om];by_cases e:q=top;·rw[if_pos e,if_pos e,Int.neg_mul,Int.sub_eq_add_neg]
   ·rw[if_neg e,if_neg e,if_neg om,if_neg om]
 unfold stepE;rw[swapW_ent hW1 ht hi om,if_pos hq,e1 _ (swi_lt ht hi hq)];by_cases e2:q=top
 ·subst e2;rw[swi_i,if_neg om,if_pos rfl]
 ·rw[if_neg e2];by_cases e3:q=i
  ·subst e3;rw[swi_j,if_pos rfl,if_pos rfl]
  ·rw[swi_ne e2 e3,if_neg e2,if_neg e3]
structure PairI(h w c top i N B0 B D:Nat)(W:List (List Int)):Prop where
 ws:WS h w W
 bd: ∃a b,Gb h W (bp top i a b (gB top B0 B)) (bp top i b a (gB top B0 B))/\a<=D/\b<=D/\PhE (ent2 W top c) (ent2 W i c) a b N B D
 col: ∀q,top<=q->q<h->(ent2 W q c).natAbs<=N
theorem bp_swap{a b:Nat}{g:Nat->Nat}(hti:top≠i):(λq=>bp top i a b g (swi top i q))=bp top i b a g:=by
 funext q;unfold bp;by_cases e1:q=top
 ·subst e1;rw[swi_i,if_neg (Ne.symm hti),if_pos rfl,if_pos rfl]
 ·by_cases e2:q=i
  ·subst e2;rw[swi_j,if_pos rfl,if_neg e1,if_pos rfl]
  ·rw[swi_ne e1 e2,if_neg e1,if_neg e2,if_neg e1,if_neg e2]
theorem PairI.step(hP:PairI h w c top i N B0 B D W)(hti:top<i)(hi:i<h)(hne:ent2 W i c≠0):PairI h w c top i N B0 B D (stepE h c top i W)/\(ent2 (stepE h c top i W) i c).natAbs<(ent2 W i c).natAbs:=by
 have ht:top<h:=by omega
 obtain⟨ws,⟨a,b,hG,ha,hb,hPh⟩,hc⟩:=hP;have hx:=hc top (znb _) ht;have hy:=hc i om hi;obtain⟨r0,r1,_,_⟩:=euc_nat (x:=ent2 W top c) hne;have eX:ent2 (stepE h c top i W) top c=ent2 W i c:=by rw[stepE_ent ws hti hi ht,if_pos rfl]
 have eY:ent2 (stepE h c top i W) i c=ent2 W top c % ent2 W i c:=by rw[stepE_ent ws hti hi hi,if_neg om,if_pos rfl];have:=Int.mul_ediv_add_emod (ent2 W top c) (ent2 W i c);rw[Int.mul_comm]at this;omega
 have h1:=phE_step hx hy hne hPh;refine⟨⟨stepE_ws ws ht hi,?_,λq h1 h2=> ?_⟩,by rw[eY];exact r1⟩
 ·rw [eX,eY];refine⟨b,a+(ent2 W top c/ent2 W i c).natAbs*b,?_,hb,h1.2,h1.1⟩;unfold stepE;by_cases h0:ent2 W top c=0
  ·rw[if_pos h0,h0,Int.zero_ediv];have:=hG.swap ws ht hi;rw[bp_swap om,bp_swap om]at this;simpa using this
  ·rw[if_neg h0];have h2:=hG.add ws ht hi (k:= -(ent2 W top c/ent2 W i c)) (Q:=(ent2 W top c/ent2 W i c).natAbs) (by rw[Int.natAbs_neg];exact znb _);have e1:bp top i a b (gB top B0 B) top=a:=if_pos rfl;have e2:bp top i a b (gB top B0 B) i=b:=by unfold bp;rw[if_neg om,if_pos rfl]
   have e3:bp top i b a (gB top B0 B) i=a:=by unfold bp;rw[if_neg om,if_pos rfl]
   have e4:bp top i b a (gB top B0 B) top=b:=if_pos rfl;rw[e1,e2,e3,e4]at h2;have e5: ∀x,upd (bp top i a b (gB top B0 B)) top x=bp top i x b (gB top B0 B):=λx=>by
    funext q;unfold upd bp;by_cases e:q=top;·rw[if_pos e,if_pos e]
    ·rw[if_neg e,if_neg e,if_neg e]
   have e6: ∀x,upd (bp top i b a (gB top B0 B)) i x=bp top i b x (gB top B0 B):=λx=>by
    funext q;unfold upd bp;by_cases e:q=i;·rw[if_pos e,if_neg om,if_pos e]
    ·rw[if_neg e];by_cases e7:q=top;·rw[if_pos e7,if_pos e7]
     ·rw[if_neg e7,if_neg e7,if_neg e,if_neg e]
   rw[e5,e6]at h2;have h3:=h2.swap (addW_ws ws ht hi) ht hi;rwa[bp_swap om,bp_swap om]at h3
 ·by_cases e1:q=top;·rw[e1,eX];exact hy
  ·by_cases e2:q=i;·rw[e2,eY];omega
   ·rw[stepE_ent ws hti hi h2,if_neg e1,if_neg e2];exact hc q h1 h2
inductive Euc(h c top i:Nat):List (List Int)->List (List Int)->Prop
 |stop {W:List (List Int)}:ent2 W i c=0->Euc h c top i W W
 |step {W W':List (List Int)}:ent2 W i c≠0->Euc h c top i (stepE h c top i W) W'->Euc h c top i W W'
theorem Euc.ex(hti:top<i)(hi:i<h): ∀(n:Nat) {W:List (List Int)},(ent2 W i c).natAbs<=n->PairI h w c top i N B0 B D W-> ∃W',Euc h c top i W W'
 |0,W,hn,_=>⟨W,.stop om⟩
 | n+1,W,hn,hP=>by
  by_cases h0:ent2 W i c=0;·exact⟨W,.stop h0⟩
  ·obtain⟨h1,h2⟩:=hP.step hti hi h0;obtain⟨W',hW'⟩:=Euc.ex hti hi n om h1;exact⟨W',.step h0 hW'⟩
theorem Euc.zero(hE:Euc h c top i W W'):ent2 W' i c=0:=by
 induction hE with
 |stop h0=>exact h0
 |step _ _ ih=>exact ih
theorem Euc.pair(hE:Euc h c top i W W')(hti:top<i)(hi:i<h):PairI h w c top i N B0 B D W->PairI h w c top i N B0 B D W':=by
 induction hE with
 |stop h0=>exact λh=>h
 |step h0 _ ih=>exact λh=>ih (h.step hti hi h0).1
theorem Euc.rest(hE:Euc h c top i W W')(hti:top<i)(hi:i<h):WS h w W-> ∀q,q<h->q≠top->q≠i-> ∀t,ent2 W' q t=ent2 W q t:=by
 induction hE with
 |stop h0=>exact λ_ _ _ _ _ _=>rfl
 |step h0 _ ih=>exact λhW q hq h1 h2 t=>by rw[ih (stepE_ws hW om hi) q hq h1 h2 t,stepE_ent hW hti hi hq,if_neg h1,if_neg h2]
theorem Euc.left(hE:Euc h c top i W W')(hti:top<i)(hi:i<h){t:Nat}:WS h w W->ent2 W top t=0->ent2 W i t=0->ent2 W' top t=0/\ent2 W' i t=0:=by
 induction hE with
 |stop h0=>exact λ_ a b=>⟨a,b⟩
 |step h0 _ ih=>exact λhW a b=>ih (stepE_ws hW om hi) (by rw[stepE_ent hW hti hi om,if_pos rfl];exact b) (by rw[stepE_ent hW hti hi hi,if_neg om,if_pos rfl,a,b];simp)
theorem Euc.lin(hE:Euc h c top i W W')(hti:top<i)(hi:i<h):WS h w W->LinI h w A W->LinI h w A W':=by
 induction hE with
 |stop h0=>exact λ_ h=>h
 | @step W W' h0 _ ih=>
  intro hW hL;refine ih (stepE_ws hW om hi) ?_;unfold stepE;split;·exact hL.swap hW om hi om
  ·exact(hL.add hW om hi om).swap (addW_ws hW om hi) om hi om
end
end
section
inductive RowsE(h c top:Nat):Nat->List (List Int)->List (List Int)->Prop
 |done {i:Nat} {W:List (List Int)}:h<=i->RowsE h c top i W W
 |next {i:Nat} {W W1 W':List (List Int)}:i<h->Euc h c top i W W1->RowsE h c top (i+1) W1 W'->RowsE h c top i W W'
structure RowI(h w c top N B0 B i:Nat)(W:List (List Int)):Prop where
 ws:WS h w W
 bd:Gb h W (gB top B0 (B*(12*N)^(i-(top+1)))) (gB top B0 (B*(12*N)^(i-(top+1))))
 col: ∀q,top<=q->q<h->(ent2 W q c).natAbs<=N
 zer: ∀q,top<q->q<i->q<h->ent2 W q c=0
section
variable {h w c top i N B0 B:Nat} {A W W':List (List Int)}
theorem gB_bp{D:Nat}(hti:top<i):bp top i B B (gB top B0 B)=gB top B0 B:=by
 funext q;unfold bp gB;by_cases e1:q=top;·rw[if_pos e1,if_neg om]
 ·by_cases e2:q=i;·rw[if_neg e1,if_pos e2,if_neg om]
  ·rw[if_neg e1,if_neg e2]
theorem RowI.pair(hR:RowI h w c top N B0 B i W)(hti:top<i)(hN:1<=N):PairI h w c top i N B0 (B*(12*N)^(i-(top+1))) (B*(12*N)^(i+1-(top+1))) W:=by
 have e:B*(12*N)^(i+1-(top+1))=12*(N*(B*(12*N)^(i-(top+1)))):=by rw[show i+1-(top+1)=i-(top+1)+1 by omega,Nat.pow_succ,<-Nat.mul_assoc,Nat.mul_comm (B*_) (12*N),Nat.mul_assoc 12]
 have hB: ∀X:Nat,X<=12*(N*X):=λX=>by have:=Nat.le_mul_of_pos_left X (show 0<N by omega);omega
 refine⟨hR.ws,⟨_,_,?_,?_,?_,.inl ⟨znb _,znb _,?_⟩⟩,hR.col⟩
 ·have:=hR.bd;rw[gB_bp (D:=0) hti];exact this
 ·rw[e];exact hB _
 ·rw[e];exact hB _
 ·rw[e];exact znb _
theorem PairI.row{W0:List (List Int)}(hR:RowI h w c top N B0 B i W0)(hE:Euc h c top i W0 W)(hti:top<i)(hi:i<h)(hN:1<=N):RowI h w c top N B0 B (i+1) W:=by
 obtain⟨ws,⟨a,b,hG,ha,hb,_⟩,hc⟩:=hE.pair hti hi (hR.pair hti hN);have hle:B*(12*N)^(i-(top+1))<=B*(12*N)^(i+1-(top+1)):=Nat.mul_le_mul_left B (Nat.pow_le_pow_right om om);have hb': ∀x y,x<=B*(12*N)^(i+1-(top+1))->y<=B*(12*N)^(i+1-(top+1))-> ∀q,q<h->bp top i x y (gB top B0 (B*(12*N)^(i-(top+1)))) q<=gB top B0 (B*(12*N)^(i+1-(top+1))) q:=λx y hx hy q hq=>by
  unfold bp gB;by_cases e1:q=top;·rw[if_pos e1,if_neg om];exact hx
  ·rw[if_neg e1];by_cases e2:q=i;·rw[if_pos e2,if_neg om];exact hy
   ·rw[if_neg e2];by_cases e3:q<top;·rw[if_pos e3,if_pos e3];exact znb _
    ·rw[if_neg e3,if_neg e3];exact hle
 refine⟨ws,hG.mono (hb' a b ha hb) (hb' b a hb ha),hc,λq h1 h2 h3=> ?_⟩;by_cases e:q=i;·rw[e];exact hE.zero
 ·rw[hE.rest hti hi hR.ws q h3 om e];exact hR.zer q h1 om h3
theorem RowsE.ex(hN:1<=N): ∀(n:Nat) {i:Nat} {W:List (List Int)},h-i<=n->top<i->RowI h w c top N B0 B i W-> ∃W',RowsE h c top i W W'
 |0,i,W,hn,_,_=>⟨W,.done om⟩
 | n+1,i,W,hn,hti,hR=>by
  by_cases hi:i<h
  ·obtain⟨W1,hE⟩:=Euc.ex hti hi _ (znb _) (hR.pair hti hN);obtain⟨W',hW'⟩:=RowsE.ex hN n om om (PairI.row hR hE hti hi hN);exact⟨W',.next hi hE hW'⟩
  ·exact⟨W,.done om⟩
theorem RowsE.row(hE:RowsE h c top i W W')(hN:1<=N):top<i->i<=h->RowI h w c top N B0 B i W->RowI h w c top N B0 B h W':=by
 induction hE with
 |done h0=>exact λ_ h1 hR=>by rwa[show _=h from Nat.le_antisymm h1 h0]at hR
 |next h0 hE _ ih=>exact λhti _ hR=>ih om om (PairI.row hR hE hti h0 hN)
theorem Euc.ws(hE:Euc h c top i W W')(hti:top<i)(hi:i<h):WS h w W->WS h w W':=by
 induction hE with
 |stop h0=>exact λh=>h
 |step h0 _ ih=>exact λh=>ih (stepE_ws h om hi)
theorem RowsE.above(hE:RowsE h c top i W W'):top<i->WS h w W-> ∀q,q<top-> ∀t,ent2 W' q t=ent2 W q t:=by
 induction hE with
 |done h0=>exact λ_ _ _ _ _=>rfl
 |next h0 hE _ ih=>exact λhti hW q hq t=>by rw[ih om (hE.ws hti h0 hW) q hq t,hE.rest hti h0 hW q om om om]
theorem RowsE.left{t:Nat}(hE:RowsE h c top i W W'):top<i->WS h w W->(∀q,top<=q->q<h->ent2 W q t=0)-> ∀q,top<=q->q<h->ent2 W' q t=0:=by
 induction hE with
 |done h0=>exact λ_ _ hz=>hz
 | @next i W W1 W' h0 hE _ ih=>
  intro hti hW hz;refine ih om (hE.ws hti h0 hW) λq h1 h2=> ?_;have hl:=hE.left hti h0 hW (hz top (znb _) om) (hz _ om h0);by_cases e1:q=top;·rw[e1];exact hl.1
  ·by_cases e2:q=i;·rw[e2];exact hl.2
   ·rw[hE.rest hti h0 hW q h2 e1 e2];exact hz q h1 h2
theorem RowsE.lin(hE:RowsE h c top i W W'):top<i->WS h w W->LinI h w A W->LinI h w A W':=by
 induction hE with
 |done h0=>exact λ_ _ h=>h
 |next h0 hE _ ih=>exact λhti hW hL=>ih om (hE.ws hti h0 hW) (hE.lin hti h0 hW hL)
end
def redW(h c top:Nat):Nat->Nat->List (List Int)->List (List Int)
 |0,_,W=>W
 |n+1,i,W=>redW h c top n (i+1) (addW h i top (-(ent2 W i c/ent2 W top c)) W)
structure RedI(h w c top B0 B1 i:Nat)(Z W:List (List Int)):Prop where
 ws:WS h w W
 bd:Gb h W (λq=>if q<i then B0+B0*B1 else if q<top then B0 else B1) (λt=>if t<top then B0 else if t=top then B1+i*(B0*B0)else B1)
 row: ∀q,q<h->i<=q-> ∀t,ent2 W q t=ent2 Z q t
 left: ∀q,q<h-> ∀t,t<c->ent2 W q t=ent2 Z q t
 red: ∀q,q<i->0<=ent2 W q c/\ent2 W q c<ent2 Z top c
section
variable {h w c top i B0 B1:Nat} {A Z W W':List (List Int)}
theorem RedI.next(hR:RedI h w c top B0 B1 i Z W)(hi:i<top)(ht:top<h)(hp:0<ent2 Z top c)(hz: ∀t,t<c->ent2 Z top t=0):RedI h w c top B0 B1 (i+1) Z (addW h i top (-(ent2 W i c/ent2 W top c)) W):=by
 have hih:i<h:=by omega
 obtain⟨ws,bd,row,left,red⟩:=hR;have eP: ∀t,ent2 W top t=ent2 Z top t:=row top ht om;have eA: ∀q,q<h-> ∀t,ent2 (addW h i top (-(ent2 W i c/ent2 W top c)) W) q t=if q=i then ent2 W i t-ent2 W i c/ent2 W top c*ent2 W top t else ent2 W q t:=λq hq t=>by
  rw[addW_ent ws hih ht om];by_cases e:q=i;·rw[if_pos e,if_pos e,Int.neg_mul,Int.sub_eq_add_neg]
  ·rw[if_neg e,if_neg e,if_neg om,if_neg om]
 have hx:(ent2 W i c).natAbs<=B0:=by have:=bd.m i c hih;rwa[if_neg om,if_pos hi]at this
 have hk:(-(ent2 W i c/ent2 W top c)).natAbs<=B0:=by rw[Int.natAbs_neg];exact Nat.le_trans (Int.natAbs_ediv_le_natAbs _ _) hx
 refine⟨addW_ws ws hih ht,(bd.add ws hih ht hk).mono (λq hq=> ?_) (λq hq=> ?_),λq hq h1 t=> ?_,λq hq t h1=> ?_,λq h1=> ?_⟩
 ·show(if q=i then(if i<i then B0+B0*B1 else if i<top then B0 else B1)+B0*(if top<i then B0+B0*B1 else if top<top then B0 else B1)else(if q<i then B0+B0*B1 else if q<top then B0 else B1))<=(if q<i+1 then B0+B0*B1 else if q<top then B0 else B1)
  by_cases e:q=i
  ·rw[if_pos e,if_neg (show¬i<i by omega),if_pos hi,if_neg (show¬top<i by omega),if_neg (show¬top<top by omega),if_pos (show q<i+1 by omega)];exact znb _
  ·rw[if_neg e];by_cases e2:q<i;·rw[if_pos e2,if_pos om];exact znb _
   ·rw[if_neg e2,if_neg (show¬q<i+1 by omega)];exact znb _
 ·show(if q=top then(if top<top then B0 else if top=top then B1+i*(B0*B0)else B1)+B0*(if i<top then B0 else if i=top then B1+i*(B0*B0)else B1)else(if q<top then B0 else if q=top then B1+i*(B0*B0)else B1))<=(if q<top then B0 else if q=top then B1+(i+1)*(B0*B0)else B1)
  by_cases e:q=top;·rw[if_pos e,if_neg (show¬top<top by omega),if_pos rfl,if_pos hi,if_neg (show¬q<top by omega),if_pos e,Nat.add_mul,zna];omega
  ·rw[if_neg e,if_neg e,if_neg e];exact znb _
 ·rw[eA q hq,if_neg om];exact row q hq om t
 ·rw[eA q hq];by_cases e:q=i;·rw[if_pos e,eP t,hz t h1,Int.mul_zero,Int.sub_zero,e];exact left i hih t h1
  ·rw[if_neg e];exact left q hq t h1
 ·rw[eA q om];by_cases e:q=i
  ·rw[if_pos e,eP c];have h1:=Int.mul_ediv_add_emod (ent2 W i c) (ent2 Z top c);have h2:=Int.emod_nonneg (ent2 W i c) (show ent2 Z top c≠0 by omega);have h3:=Int.emod_lt_of_pos (ent2 W i c) hp;rw[Int.mul_comm]at h1;omega
  ·rw[if_neg e];exact red q om
theorem redW_inv(ht:top<h)(hp:0<ent2 Z top c)(hz: ∀t,t<c->ent2 Z top t=0): ∀(n:Nat) {i:Nat} {W:List (List Int)},n+i=top->RedI h w c top B0 B1 i Z W->RedI h w c top B0 B1 top Z (redW h c top n i W)
 |0,i,W,hn,hR=>by rw[zn9]at hn;subst hn;exact hR
 |n+1,i,W,hn,hR=>redW_inv ht hp hz n om (hR.next om ht hp hz)
theorem redW_lin(ht:top<h): ∀(n:Nat) {i:Nat} {W:List (List Int)},n+i=top->WS h w W->LinI h w A W->LinI h w A (redW h c top n i W)
 |0,_,_,_,_,hL=>hL
 |n+1,i,W,hn,hW,hL=>redW_lin ht n om (addW_ws hW om ht) (hL.add hW om ht om)
end
end
section
structure IsH(h w:Nat)(M:Nat->Nat->Int)(r:Nat)(p:Nat->Nat):Prop where
 rh:r<=h
 pw: ∀i,i<r->p i<w
 pos: ∀i,i<r->0<M i (p i)
 lead: ∀i,i<r-> ∀j,j<p i->M i j=0
 inc: ∀i k,i<k->k<r->p i<p k
 red: ∀i k,i<k->k<r->0<=M i (p k)/\M i (p k)<M k (p k)
 zero: ∀i,r<=i->i<h-> ∀j,j<w->M i j=0
theorem dot_zero{c g:Nat->Int}: ∀{n:Nat},(∀t,t<n->c t*g t=0)->dotI c g n=0
 |0,_=>rfl
 |n+1,h=>by show dotI c g n+c n*g n=0;rw[dot_zero λt ht=>h t om,h n om];rfl
theorem dot_one{c g:Nat->Int}{i:Nat}: ∀{n:Nat},i<n->(∀t,t<n->t≠i->c t*g t=0)->dotI c g n=c i*g i
 |0,h,_=>by omega
 | n+1,hi,h=>by
  show dotI c g n+c n*g n=_;by_cases e:n=i
  ·subst e;rw[dot_zero λt ht=>h t om om,Int.zero_add]
  ·rw[dot_one (i:=i) om λt ht=>h t om,h n om e,Int.add_zero]
theorem least_of{P:Nat->Prop}{n:Nat}(h:P n): ∃k,P k/\ ∀j,j<k-> ¬P j:=by
 induction n using Nat.strongRecOn with
 | ind n ih=>
  by_cases hx: ∃j,j<n/\P j
  ·obtain⟨j,hj,hp⟩:=hx;exact ih j hj hp
  ·exact⟨n,h,λj hj hp=>hx ⟨j,hj,hp⟩⟩
section
variable {h w r s:Nat} {M N:Nat->Nat->Int} {p q:Nat->Nat}
theorem IsH.leadL(H:IsH h w M r p){c:Nat->Int}{k:Nat}(hk:k<w)(h0: ∀j,j<k->dotI c (λt=>M t j) h=0)(hne:dotI c (λt=>M t k) h≠0): ∃i,i<r/\p i=k/\M i k∣dotI c (λt=>M t k) h:=by
 have hrh:=H.rh;have hex: ∃i,i<r/\c i≠0:=by
  apply Classical.byContradiction;intro hn;apply hne;refine dot_zero λt ht=> ?_;by_cases htr:t<r
  ·have:c t=0:=Classical.byContradiction λhc=>hn ⟨t,htr,hc⟩;rw[this,Int.zero_mul]
  ·rw[H.zero t om ht k hk,Int.mul_zero]
 obtain⟨i0,hi0⟩:=hex;obtain⟨i,⟨hi,hc⟩,hl⟩:=least_of (P:=λi=>i<r/\c i≠0) hi0;have hc0: ∀t,t<i->c t=0:=λt ht=>Classical.byContradiction λhcc=>(hl t ht) ⟨by omega,hcc⟩
 have key: ∀j,j<w->j<=p i->dotI c (λt=>M t j) h=c i*M i j:=λj hj hji=>by
  refine dot_one om λt ht hti=> ?_;by_cases h1:t<i;·rw[hc0 t h1,Int.zero_mul]
  ·by_cases h2:t<r
   ·have:=H.inc i t om h2;rw[H.lead t h2 j om,Int.mul_zero]
   ·rw[H.zero t om ht j hj,Int.mul_zero]
 have hpi:p i=k:=by
  have hpw:=H.pw i hi;rcases Nat.lt_trichotomy (p i) k with h|h|h
  ·have e:=h0 (p i) h;rw[key (p i) hpw (znb _)]at e;have:=H.pos i hi;rcases Int.mul_eq_zero.1 e with e|e;·exact absurd e hc
   ·omega
  ·exact h
  ·rw[key k hk om,H.lead i hi k h,Int.mul_zero]at hne;exact absurd rfl hne
 refine⟨i,hi,hpi,?_⟩;rw[key k hk om];exact Int.dvd_mul_left _ _
def SubL(h w:Nat)(M N:Nat->Nat->Int):Prop:= ∀i,i<h-> ∃c:Nat->Int,∀j,j<w->N i j=dotI c (λt=>M t j) h
theorem IsH.piv(HM:IsH h w M r p)(HN:IsH h w N s q)(hs:SubL h w M N){i:Nat}(hi:i<s): ∃k,k<r/\p k=q i/\M k (q i)∣N i (q i):=by have hsh:=HN.rh;obtain⟨c,hc⟩:=hs i om;have hw:=HN.pw i hi;have hp:=HN.pos i hi;obtain⟨k,h1,h2,h3⟩:=HM.leadL (c:=c) hw (λj hj=>by rw[<-hc j om];exact HN.lead i hi j hj) (by rw[<-hc _ hw];omega);exact⟨k,h1,h2,by rw[hc _ hw];exact h3⟩
theorem IsH.same_piv(HM:IsH h w M r p)(HN:IsH h w N s q)(h1:SubL h w M N)(h2:SubL h w N M): ∀i,(i<r↔i<s)/\(i<r->p i=q i):=by
 intro i;induction i using Nat.strongRecOn with
 | ind i ih=>
  have a:i<r-> ∃k,k<s/\i<=k/\q k=p i:=λhi=>by obtain⟨k,k1,k2,_⟩:=HN.piv HM h2 hi;refine⟨k,k1,Nat.le_of_not_lt λhki=> ?_,k2⟩;have e:=(ih k hki).2 om;have:=HM.inc k i hki hi;omega
  have b:i<s-> ∃k,k<r/\i<=k/\p k=q i:=λhi=>by obtain⟨k,k1,k2,_⟩:=HM.piv HN h1 hi;refine⟨k,k1,Nat.le_of_not_lt λhki=> ?_,k2⟩;have e:=(ih k hki).2 k1;have:=HN.inc k i hki hi;omega
  refine⟨⟨λhi=>by obtain⟨k,k1,k2,_⟩:=a hi;omega,λhi=>by obtain⟨k,k1,k2,_⟩:=b hi;omega⟩,λhi=> ?_⟩;obtain⟨k,k1,k2,k3⟩:=a hi;obtain⟨l,l1,l2,l3⟩:=b om;have m1:q i<=q k:=by
   rcases Nat.eq_or_lt_of_le k2 with e|e;·rw[e];exact znb _
   ·exact Nat.le_of_lt (HN.inc i k e k1)
  have m2:p i<=p l:=by
   rcases Nat.eq_or_lt_of_le l2 with e|e;·rw[e];exact znb _
   ·exact Nat.le_of_lt (HM.inc i l e l1)
  omega
theorem IsH.inj(H:IsH h w M r p){i k:Nat}(hi:i<r)(hk:k<r)(e:p i=p k):i=k:=by
 rcases Nat.lt_trichotomy i k with h|h|h;·have:=H.inc i k h hk;omega
 ·exact h
 ·have:=H.inc k i h hi;omega
theorem IsH.uniq(HM:IsH h w M r p)(HN:IsH h w N s q)(h1:SubL h w M N)(h2:SubL h w N M){i j:Nat}(hi:i<h)(hj:j<w):M i j=N i j:=by
 have sp:=HM.same_piv HN h1 h2;have rs:r=s:=by
  rcases Nat.lt_trichotomy r s with e|e|e;·have:=(sp r).1;omega
  ·exact e
  ·have:=(sp s).1;omega
 subst rs;have pq: ∀i,i<r->p i=q i:=λi hi=>(sp i).2 hi;have val: ∀i,i<r->M i (p i)=N i (p i):=λi hi=>by obtain⟨k,k1,k2,k3⟩:=HM.piv HN h1 hi;rw[<-pq i hi]at k2 k3;have:=HM.inj k1 hi k2;subst this;obtain⟨l,l1,l2,l3⟩:=HN.piv HM h2 hi;rw[<-pq l l1]at l2;have:=HM.inj l1 hi l2;subst this;have a1:=HM.pos l hi;have a2:=HN.pos l hi;rw[<-pq l hi]at a2;have b1:=Int.le_of_dvd a2 k3;have b2:=Int.le_of_dvd a1 l3;omega
 by_cases hir:i<r
 ·by_cases he:M i j=N i j;·exact he
  ·exfalso;obtain⟨k,⟨hk,hne⟩,hl⟩:=least_of (P:=λk=>k<w/\M i k≠N i k) ⟨hj,he⟩;obtain⟨c,hc⟩:=h1 i hi;have hD: ∀j,j<w->dotI (λt=>(if i=t then 1 else 0)+(-1)*c t) (λt=>M t j) h=M i j-N i j:=λj hj=>by
    rw[dot_add,dot_unit,if_pos hi,<-hc j hj];omega
   obtain⟨t,t1,t2,t3⟩:=HM.leadL (c:=λt=>(if i=t then 1 else 0)+(-1)*c t) hk
    (λj hj=>by rw[hD j om];have: ¬(M i j≠N i j):=λh=>hl j hj ⟨by omega,h⟩;omega) (by rw[hD k hk];omega)
   rw[hD k hk]at t3;rcases Nat.lt_trichotomy t i with h|h|h
   ·have a:=HM.inc t i h hir;have e1:=HM.lead i hir k om;have e2:=HN.lead i hir k (by rw[<-pq i hir];omega);omega
   ·subst h;have:=val t hir;rw[t2]at this;omega
   ·obtain⟨a1,a2⟩:=HM.red i t h t1;obtain⟨b1,b2⟩:=HN.red i t h t1;have v:=val t t1;rw[<-pq t t1]at b1 b2;rw[t2]at a1 a2 b1 b2 v;have:=Int.eq_zero_of_dvd_of_natAbs_lt_natAbs t3 om;omega
 ·rw[HM.zero i om hi j hj,HN.zero i om hi j hj]
end
end
section
open Go.RowKit
def actW(h:Nat)(W:List (List Int))(o:OpL):List (List Int):=if o.kd=1 then swapW h o.i o.j W else if o.kd=2 then negW h o.i W else addW h o.i o.j o.k W
def actsW(h:Nat):List (List Int)->List OpL->List (List Int)
 |W,[]=>W
 |W,o::l=>actsW h (actW h W o) l
theorem take_get{M:List (List Int)}{h q:Nat}(hq:q<h):(M.take h).getD q []=M.getD q []:=by rw[List.getD_eq_getElem?_getD,List.getElem?_take_of_lt hq,List.getD_eq_getElem?_getD]
theorem WI.take{h w K:Nat}{W:List (List Int)}(hW:WI h w K W):MI h w K (W.take h):=by
 have hl:=hW.len;have htl:(W.take h).length=h:=by rw[List.length_take];omega
 refine⟨htl,λr hr=> ?_⟩;obtain⟨q,hq,rfl⟩:=List.mem_iff_getElem.1 hr;have e:(W.take h)[q]=W.getD q []:=by rw[<-take_get (M:=W) (h:=h) om,List.getD_eq_getElem?_getD,zlb hq];rfl
 rw[e];refine⟨hW.rowM q om,λx hx=> ?_⟩;obtain⟨t,ht,rfl⟩:=List.mem_iff_getElem.1 hx;have:=hW.fit q t;rwa[List.getD_eq_getElem?_getD,zlb ht]at this
theorem actW_take{h w K n:Nat}{W:List (List Int)}(hW:WI h w K W){o:OpL}(ho:OkOp n o)(hn:n=h):(actW h W o).take h=actO (W.take h) o:=by
 subst hn;have hl:=hW.len;have hi:=ho.i;have htl:(W.take n).length=n:=by rw[List.length_take];omega
 refine rows_ext ?_ λq hq=> ?_
 ·rw[actO_len,htl,List.length_take];unfold actW swapW negW addW;split;·rw[swapI_len,swapI_len,colSwp_len];omega
  ·split;·rw[colNeg_len,List.length_set,List.length_set];omega
   ·rw[colPre_len,List.length_set,List.length_set];omega
 ·have hqn:q<n:=by rw[List.length_take]at hq;omega
  rw[take_get hqn];unfold actW actO;by_cases h1:o.kd=1
  ·have hj:o.j<n:=by rcases ho.c with⟨_,hj,_⟩|⟨e,_⟩|⟨e,_⟩<;>omega
   have e1:=swapI_get (M:=W.take n) (i:=o.i) (j:=o.j) om om q;have e2:=swapI_get (M:=swapI (colSwp n o.i o.j n W) o.i o.j) (i:=n+o.i) (j:=n+o.j) (by rw[swapI_len,colSwp_len];omega) (by rw[swapI_len,colSwp_len];omega) q;have e3:=swapI_get (M:=colSwp n o.i o.j n W) (i:=o.i) (j:=o.j) (by rw[colSwp_len];omega) (by rw[colSwp_len];omega) q;rw[if_pos h1,if_pos h1,e1];unfold swapW;rw[e2,if_neg om,if_neg om,e3];have e4: ∀q,q<n->(colSwp n o.i o.j n W).getD q []=W.getD q []:=λq hq=>by rw[colSwp_get om,if_neg om]
   rw[e4 _ hi,e4 _ hj,e4 _ hqn,take_get hi,take_get hj,take_get hqn]
  ·rw[if_neg h1,if_neg h1];by_cases h2:o.kd=2
   ·rw[if_pos h2,if_pos h2,getD_set om];unfold negW;rw[colNeg_get (by rw[List.length_set,List.length_set];omega),if_neg om,getD_set (by rw[List.length_set];omega),if_neg om,getD_set om,take_get hi,take_get hqn]
   ·have hj:o.j<n:=by rcases ho.c with⟨e,_⟩|⟨e,_⟩|⟨_,hj,_⟩<;>omega
    rw[if_neg h2,if_neg h2,getD_set om];unfold addW;rw[colPre_get (by rw[List.length_set,List.length_set];omega),if_neg om,getD_set (by rw[List.length_set];omega),if_neg om,getD_set om,take_get hi,take_get hj,take_get hqn]
theorem actW_wi{h w K:Nat}{W:List (List Int)}(hW:WI h w K W){o:OpL}(ho:OkOp h o):WI h w (K+OL+1) (actW h W o):=by
 unfold actW;split
 ·rename_i h1;have hj:o.j<h:=by rcases ho.c with⟨_,hj,_⟩|⟨e,_⟩|⟨e,_⟩<;>omega
  exact(swapW_wi hW ho.i hj).mono om
 ·split;·exact(negW_wi hW ho.i).mono om
  ·have hj:o.j<h:=by rcases ho.c with⟨e,_⟩|⟨e,_⟩|⟨_,hj,_⟩<;>omega
   exact addW_wi hW ho.i hj ho.k
theorem actsW_take{h w:Nat}: ∀{l:List OpL} {K:Nat} {W:List (List Int)},WI h w K W->(∀o∈l,OkOp h o)->(actsW h W l).take h=actsO (W.take h) l
 |[],_,_,_,_=>rfl
 |o::l,K,W,hW,hl=>by rw[actsW,actsO,<-actW_take hW (hl o (by simp)) rfl];exact actsW_take (actW_wi hW (hl o (by simp))) λp hp=>hl p (by simp[hp])
theorem actsW_snoc(h:Nat): ∀(l:List OpL) (o:OpL) (W:List (List Int)),actsW h W (l++ [o])=actW h (actsW h W l) o
 |[],_,_=>rfl
 |p::l,o,W=>by rw[zl8,actsW,actsW,actsW_snoc h l o]
theorem actsW_succ{h i:Nat}{l:List OpL}(hi:i<l.length){W:List (List Int)}:actsW h W (l.take (i+1))=actW h (actsW h W (l.take i)) (l.getD i ⟨0,0,0,0⟩):=by rw[List.take_succ_eq_append_getElem hi,actsW_snoc,List.getD_eq_getElem?_getD,zlb hi];rfl
theorem actsW_drop{h i:Nat}{l:List OpL}{W:List (List Int)}(hi:i<l.length):actsW h W (l.drop i)=actsW h (actW h W (l.getD i ⟨0,0,0,0⟩)) (l.drop (i+1)):=by rw[List.drop_eq_getElem_cons hi,actsW,List.getD_eq_getElem?_getD,zlb hi];rfl
theorem work0_wi{h w K:Nat}{A:List (List Int)}(hA:MI h w K A):WI h w (K+1) (A++idL h++idL h):=by
 have hAl:=hA.len;have hI:=mk_mi (h:=h) (w:=h) (K:=1) (f:=λr c=>if r=c then(1:Int)else 0) λ_ _ _ _=>fits01;have hil:(idL h).length=h:=mkM_len;have fitI: ∀q t,Fits (K+1) (((idL h).getD q []).getD t 0):=by
  intro q t;by_cases hq:q<h
  ·by_cases ht:t<h;·exact(hI.fit hq ht).mono om
   ·have:=(hI.get hq).1;rw[List.getD_eq_getElem?_getD (l:=(idL h).getD q []),List.getElem?_eq_none (by unfold idL;omega)];exact fits0
  ·rw[List.getD_eq_getElem?_getD (l:=idL h),List.getElem?_eq_none om];simp only[Option.getD_none];exact fits0
 have rowI: ∀q,q<h->((idL h).getD q []).length=h:=λq hq=>(hI.get hq).1;have g1: ∀q,q<h->(A++idL h++idL h).getD q []=A.getD q []:=λq hq=>by rw[List.getD_eq_getElem?_getD,zl6,List.getElem?_append_left om,List.getD_eq_getElem?_getD]
 have g2: ∀q,h<=q->q<2*h->(A++idL h++idL h).getD q []=(idL h).getD (q-h) []:=λq h1 h2=>by rw[List.getD_eq_getElem?_getD,zl6,List.getElem?_append_right om,List.getElem?_append_left om,hAl,List.getD_eq_getElem?_getD]
 have g3: ∀q,2*h<=q->(A++idL h++idL h).getD q []=(idL h).getD (q-2*h) []:=λq h1=>by rw[List.getD_eq_getElem?_getD,List.getElem?_append_right (by rw[zl1];omega),zl1,hAl,hil,<-Nat.two_mul,List.getD_eq_getElem?_getD]
 refine⟨by rw[zl1,zl1];omega,λq hq=>by rw[g1 q hq];exact(hA.get hq).1,λq h1 h2=> ?_,λq t=> ?_⟩
 ·by_cases hq:q<2*h;·rw[g2 q h1 hq];exact rowI _ om
  ·rw[g3 q om];exact rowI _ om
 ·by_cases hq:q<h
  ·rw[g1 q hq];by_cases ht:t<w;·exact(hA.fit hq ht).mono om
   ·have:=(hA.get hq).1;rw[List.getD_eq_getElem?_getD (l:=A.getD q []),List.getElem?_eq_none om];exact fits0
  ·by_cases hq2:q<2*h;·rw[g2 q om hq2];exact fitI _ _
   ·rw[g3 q om];exact fitI _ _
theorem work0_take{h w K:Nat}{A:List (List Int)}(hA:MI h w K A):(A++idL h++idL h).take h=A:=by have hAl:=hA.len;rw[zl6,List.take_append_of_le_length om,zla om]
theorem inside_s(i n:Nat):Spec Tryz.prog 100 [.sc (.int .i64 i),.sc (.int .i64 n)] (.sc (.bool (decide ((i:Int)<n)))):=by have q1:decide ((0:Int)<=(i:Int))=true:=decide_eq_true om;refine qF Tryz.func100 Tryz.ntmps100 λB hB=> ?_;refine qWf @q1 ?_;exact qE Tryz.results100
end
section
inductive ColsE(h w:Nat):Nat->Nat->List (List Int)->List (List Int)->Prop
 |done {c top:Nat} {W:List (List Int)}: ¬(c<w/\top<h)->ColsE h w c top W W
 |skip {c top:Nat} {W W1 W':List (List Int)}:c<w->top<h->RowsE h c top (top+1) W W1->ent2 W1 top c=0->ColsE h w (c+1) top W1 W'->ColsE h w c top W W'
 |piv {c top:Nat} {W W1 W':List (List Int)}:c<w->top<h->RowsE h c top (top+1) W W1->ent2 W1 top c≠0->ColsE h w (c+1) (top+1) (redW h c top top 0 (if ent2 W1 top c<0 then negW h top W1 else W1)) W'->ColsE h w c top W W'
def fact:Nat->Nat
 |0=>1
 |n+1=>(n+1)*fact n
theorem fact_pos: ∀n,0<fact n
 |0=>Nat.one_pos
 |n+1=>Nat.mul_pos (Nat.succ_pos n) (fact_pos n)
structure HS(h w c top:Nat)(p:Nat->Nat)(W:List (List Int)):Prop where
 th:top<=h
 cw:c<=w
 pc: ∀i,i<top->p i<c
 pos: ∀i,i<top->0<ent2 W i (p i)
 lead: ∀i,i<top-> ∀j,j<p i->ent2 W i j=0
 inc: ∀i k,i<k->k<top->p i<p k
 red: ∀i k,i<k->k<top->0<=ent2 W i (p k)/\ent2 W i (p k)<ent2 W k (p k)
 zero: ∀q,top<=q->q<h-> ∀t,t<c->ent2 W q t=0
section
variable {h w c top G:Nat} {p:Nat->Nat} {A W W1 W':List (List Int)}
theorem HS.isH(hS:HS h w c top p W)(he: ¬(c<w/\top<h)):IsH h w (ent2 W) top p:=by have:=hS.th;have:=hS.cw;refine⟨hS.th,λi hi=> ?_,hS.pos,hS.lead,hS.inc,hS.red,λi h1 h2 j hj=>hS.zero i h1 h2 j om⟩;have:=hS.pc i hi;omega
theorem Euc.keep{i:Nat}(hE:Euc h c top i W W')(hti:top<i)(hi:i<h):WS h w W->ent2 W' top c=0->W'=W/\ent2 W i c=0:=by
 induction hE with
 |stop h0=>exact λ_ _=>⟨rfl,h0⟩
 | @step W W' h0 _ ih=>
  intro hW hz;exfalso;obtain⟨e1,e2⟩:=ih (stepE_ws hW om hi) hz;rw[e1,stepE_ent hW hti hi om,if_pos rfl]at hz;exact h0 hz
theorem RowsE.keep{i:Nat}(hE:RowsE h c top i W W'):top<i->WS h w W->ent2 W' top c=0->W'=W/\ ∀q,i<=q->q<h->ent2 W q c=0:=by
 induction hE with
 |done h0=>exact λ_ _ _=>⟨rfl,λq h1 h2=>by omega⟩
 | @next i W W1 W' h0 hE _ ih=>
  intro hti hW hz;obtain⟨e1,e2⟩:=ih om (hE.ws hti h0 hW) hz;obtain⟨e3,e4⟩:=hE.keep hti h0 hW (by rw[<-e1];exact hz);refine⟨by rw[e1,e3],λq h1 h2=> ?_⟩;by_cases e:q=i;·rw[e];exact e4
  ·rw[<-e3];exact e2 q om h2
structure ColI(h w c top G:Nat)(p:Nat->Nat)(A W:List (List Int)):Prop where
 ws:WS h w W
 hs:HS h w c top p W
 lin:LinI h w A W
 bd: ∃K,Gb h W (λ_=>4294967296^K) (λ_=>4294967296^K)/\(K+1)*fact (h-top+1)<=G
theorem gB_const{B n:Nat}:gB top B (B*(12*B)^(n-n))=λ_=>B:=by funext q;unfold gB;rw[Nat.sub_self,Nat.pow_zero,zn8];split<;>rfl
theorem ColI.row0{K:Nat}(hI:ColI h w c top G p A W)(hG:Gb h W (λ_=>4294967296^K) (λ_=>4294967296^K)):RowI h w c top (4294967296^K) (4294967296^K) (4294967296^K) (top+1) W:=
 ⟨hI.ws,by rw[gB_const];exact hG,λq _ h2=>hG.m q c h2,λq h1 h2 _=>by omega⟩
theorem ColI.skip(hI:ColI h w c top G p A W)(hc:c<w)(hE:RowsE h c top (top+1) W W1)(h0:ent2 W1 top c=0):W1=W/\ColI h w (c+1) top G p A W:=by
 obtain⟨e1,e2⟩:=hE.keep om hI.ws h0;refine⟨e1,hI.ws,⟨hI.hs.th,hc,λi hi=>Nat.lt_succ_of_lt (hI.hs.pc i hi),hI.hs.pos,hI.hs.lead,hI.hs.inc,hI.hs.red,λq h1 h2 t ht=> ?_⟩,hI.lin,hI.bd⟩;by_cases e:t=c
 ·rw[e];by_cases e3:q=top;·rw[e3,<-e1];exact h0
  ·exact e2 q om h2
 ·exact hI.hs.zero q h1 h2 t om
theorem pow12(K:Nat):12*4294967296^K<=4294967296^(K+1):=by rw[Nat.pow_succ];generalize 4294967296^K=T;omega
theorem bd_rows(K n:Nat):4294967296^K*(12*4294967296^K)^n<=4294967296^(K+(K+1)*n):=by rw[Nat.pow_add,Nat.pow_mul];exact Nat.mul_le_mul_left _ (Nat.pow_le_pow_left (pow12 K) n)
theorem pow_ge1(K:Nat):1<=4294967296^K:=Nat.pow_pos om
theorem bd_col{K n B1:Nat}(hh:top+n+1<=1000000)(h1:B1=4294967296^K*(12*4294967296^K)^n):
  4294967296^K<=B1/\B1<=4294967296^(1+2*K+(K+1)*n)/\4294967296^K+4294967296^K*B1<=4294967296^(1+2*K+(K+1)*n)/\ ∀t,t<=top->B1+t*(4294967296^K*4294967296^K)<=4294967296^(1+2*K+(K+1)*n):=by
 have e1:=bd_rows K n;have e2:4294967296^(1+2*K+(K+1)*n)=4294967296*(4294967296^K*4294967296^(K+(K+1)*n)):=by rw[<-Nat.pow_add,show 1+2*K+(K+1)*n=(K+(K+(K+1)*n))+1 by omega,Nat.pow_succ,Nat.mul_comm]
 have hT:=pow_ge1 K;have hP:1<=(12*4294967296^K)^n:=Nat.pow_pos om;have e3:4294967296^K<=B1:=by rw[h1];exact Nat.le_mul_of_pos_right _ hP
 rw[<-h1]at e1;rw[e2];generalize 4294967296^(K+(K+1)*n)=Y at*;generalize 4294967296^K=T at*;clear h1 e2 hP;have k1:T*B1<=T*Y:=Nat.mul_le_mul_left T e1;have k2:T*T<=T*Y:=Nat.mul_le_mul_left T om;have k3:B1<=T*B1:=Nat.le_mul_of_pos_left _ om;have k4:T<=T*B1:=Nat.le_mul_of_pos_right _ om;refine⟨e3,by omega,by omega,λt ht=> ?_⟩;have k5:t*(T*T)<=1000000*(T*T):=Nat.mul_le_mul_right _ om;omega
theorem neg_fix(hW:WS h w W1)(ht:top<h)(h0:ent2 W1 top c≠0)(hz: ∀t,t<c->ent2 W1 top t=0)(hL:LinI h w A W1){bM bV:Nat->Nat}(hG:Gb h W1 bM bV):
  WS h w (if ent2 W1 top c<0 then negW h top W1 else W1)/\LinI h w A (if ent2 W1 top c<0 then negW h top W1 else W1)/\Gb h (if ent2 W1 top c<0 then negW h top W1 else W1) bM bV/\0<ent2 (if ent2 W1 top c<0 then negW h top W1 else W1) top c/\(∀t,t<c->ent2 (if ent2 W1 top c<0 then negW h top W1 else W1) top t=0)/\ ∀q,q<h->q≠top-> ∀t,ent2 (if ent2 W1 top c<0 then negW h top W1 else W1) q t=ent2 W1 q t:=by
 by_cases hs:ent2 W1 top c<0
 ·rw[if_pos hs];refine⟨negW_ws hW ht,hL.neg hW ht,hG.neg hW ht,?_,λt h1=> ?_,λq hq h1 t=> ?_⟩;·rw[negW_ent hW ht om,if_pos (.inl rfl)];omega
  ·rw[negW_ent hW ht om,if_pos (.inl rfl),hz t h1];rfl
  ·rw[negW_ent hW ht om,if_neg om]
 ·rw[if_neg hs];exact⟨hW,hL,hG,by omega,hz,λq _ _ t=>rfl⟩
theorem ColI.red0{K:Nat}(hI:ColI h w c top G p A W)(hG:Gb h W (λ_=>4294967296^K) (λ_=>4294967296^K))(ht:top<h)(hE:RowsE h c top (top+1) W W1)(h0:ent2 W1 top c≠0)(hh:h<=1000000):
  (∀t,t<c->ent2 W1 top t=0)/\0<ent2 (if ent2 W1 top c<0 then negW h top W1 else W1) top c/\(∀t,t<c->ent2 (if ent2 W1 top c<0 then negW h top W1 else W1) top t=0)/\
  RedI h w c top (4294967296^K) (4294967296^K*(12*4294967296^K)^(h-(top+1))) 0 (if ent2 W1 top c<0 then negW h top W1 else W1) (if ent2 W1 top c<0 then negW h top W1 else W1)/\LinI h w A (if ent2 W1 top c<0 then negW h top W1 else W1):=by
 have hR:=hE.row (pow_ge1 K) om om (hI.row0 hG);have hz: ∀t,t<c->ent2 W1 top t=0:=λt h1=>hE.left om hI.ws (λq h2 h3=>hI.hs.zero q h2 h3 t h1) top (znb _) ht;obtain⟨f1,f2,f3,f4,f5,f6⟩:=neg_fix hR.ws ht h0 hz (hE.lin om hI.ws hI.lin) hR.bd;obtain⟨b1,_⟩:=bd_col (top:=top) (K:=K) (n:=h-(top+1)) om rfl;refine⟨hz,f4,f5,⟨f1,f3.mono (λq hq=> ?_) (λq hq=> ?_),λ_ _ _ _=>rfl,λ_ _ _ _=>rfl,λq h1=>by omega⟩,f2⟩
 ·show(if q<top then 4294967296^K else(4294967296^K*(12*4294967296^K)^(h-(top+1))))<=(if q<0 then 4294967296^K+4294967296^K*(4294967296^K*(12*4294967296^K)^(h-(top+1)))else if q<top then 4294967296^K else(4294967296^K*(12*4294967296^K)^(h-(top+1))))
  rw[if_neg (show¬q<0 by omega)];exact znb _
 ·show(if q<top then 4294967296^K else(4294967296^K*(12*4294967296^K)^(h-(top+1))))<=(if q<top then 4294967296^K else if q=top then(4294967296^K*(12*4294967296^K)^(h-(top+1)))+0*(4294967296^K*4294967296^K)else(4294967296^K*(12*4294967296^K)^(h-(top+1))))
  rw[Nat.zero_mul,Nat.add_zero];by_cases e:q<top;·rw[if_pos e,if_pos e];exact znb _
  ·rw[if_neg e,if_neg e];split<;>exact znb _
theorem RedI.bd1{K n:Nat}{Z:List (List Int)}{i:Nat}(hn:n=h-(top+1))(ht:top<h)(hh:h<=1000000)(hi:i<=top)(hR:RedI h w c top (4294967296^K) (4294967296^K*(12*4294967296^K)^n) i Z W):
  Gb h W (λ_=>4294967296^(1+2*K+(K+1)*n)) (λ_=>4294967296^(1+2*K+(K+1)*n)):=by
 obtain⟨b1,b2,b3,b4⟩:=bd_col (top:=top) (K:=K) (n:=n) om rfl;refine hR.bd.mono (λq hq=> ?_) (λq hq=> ?_)
 ·split;·exact b3
  ·split;·exact Nat.le_trans b1 b2
   ·exact b2
 ·split;·exact Nat.le_trans b1 b2
  ·split;·exact b4 i hi
   ·exact b2
theorem ColI.piv(hI:ColI h w c top G p A W)(hc:c<w)(ht:top<h)(hE:RowsE h c top (top+1) W W1)(h0:ent2 W1 top c≠0)(hh:h<=1000000):
  ColI h w (c+1) (top+1) G (upd p top c) A (redW h c top top 0 (if ent2 W1 top c<0 then negW h top W1 else W1)):=by
 obtain⟨K,hG,hK⟩:=hI.bd;obtain⟨r1,r2,r3,r4,r5⟩:=hI.red0 hG ht hE h0 hh;have hab: ∀q,q<top-> ∀t,ent2 W1 q t=ent2 W q t:=λq hq t=>hE.above om hI.ws q hq t;have hR:=hE.row (pow_ge1 K) om om (hI.row0 hG);obtain⟨f1,f2,f3,f4,f5,f6⟩:=neg_fix hR.ws ht h0 r1 (hE.lin om hI.ws hI.lin) hR.bd;generalize(if ent2 W1 top c<0 then negW h top W1 else W1)=Z at*;have hF:=redW_inv ht r2 r3 top om r4;have hL:=redW_lin (c:=c) ht top (i:=0) om f1 r5;have hlow: ∀q,top<=q->q<h-> ∀t,t<c->ent2 Z q t=0:=λq h1 h2 t h3=>by
  by_cases e:q=top;·rw[e];exact r3 t h3
  ·rw[f6 q h2 e];exact hE.left om hI.ws (λq h4 h5=>hI.hs.zero q h4 h5 t h3) q h1 h2
 have hcol: ∀q,top<q->q<h->ent2 Z q c=0:=λq h1 h2=>by rw[f6 q h2 om];exact hR.zer q h1 h2 h2
 have hB:=hF.bd1 rfl ht hh (znb _);generalize redW h c top top 0 Z=Y at*;have eY: ∀q,q<top-> ∀t,t<c->ent2 Y q t=ent2 W q t:=λq h1 t h2=>by rw[hF.left q om t h2,f6 q om om,hab q h1]
 have eT: ∀q,top<=q->q<h-> ∀t,ent2 Y q t=ent2 Z q t:=λq h1 h2 t=>hF.row q h2 h1 t;have hu: ∀i,i<top->upd p top c i=p i:=λi hi=>if_neg om;have hut:upd p top c top=c:=if_pos rfl;refine⟨hF.ws,⟨by omega,hc,λi hi=> ?_,λi hi=> ?_,λi hi j hj=> ?_,λi k h1 h2=> ?_,λi k h1 h2=> ?_,λq h1 h2 t h3=> ?_⟩,hL,⟨_,hB,?_⟩⟩
 ·by_cases e:i=top;·rw[e,hut];omega
  ·rw[hu i om];have:=hI.hs.pc i om;omega
 ·by_cases e:i=top;·rw[e,hut,eT top (znb _) ht];exact r2
  ·rw[hu i om,eY i om _ (hI.hs.pc i om)];exact hI.hs.pos i om
 ·by_cases e:i=top
  ·rw[e,hut]at hj;rw[e,eT top (znb _) ht];exact r3 j hj
  ·rw[hu i om]at hj;have:=hI.hs.pc i om;rw[eY i om j om];exact hI.hs.lead i om j hj
 ·by_cases e:k=top;·rw[e,hut,hu i om];exact hI.hs.pc i om
  ·rw[hu k om,hu i om];exact hI.hs.inc i k h1 om
 ·by_cases e:k=top;·rw[e,hut,eT top (znb _) ht];exact hF.red i om
  ·have:=hI.hs.pc k om;rw[hu k om,eY i om _ this,eY k om _ this];exact hI.hs.red i k h1 om
 ·rw[eT q om h2];by_cases e:t=c;·rw[e];exact hcol q om h2
  ·exact hlow q om h2 t om
 ·have e1:1+2*K+(K+1)*(h-(top+1))+1=(K+1)*(h-top+1):=by
   obtain⟨n,hn⟩: ∃n,h=top+1+n:=⟨h-(top+1),by omega⟩
   subst hn;rw[show top+1+n-(top+1)=n by omega,show top+1+n-top+1=n+2 by omega,Nat.mul_add (K+1) n 2];omega
  rw[e1,show h-(top+1)+1=h-top by omega,Nat.mul_assoc];have e2:fact (h-top+1)=(h-top+1)*fact (h-top):=rfl;rw[<-e2];exact hK
theorem ColsE.ex(hh:h<=1000000): ∀(n:Nat) {c top:Nat} {p:Nat->Nat} {W:List (List Int)},w-c<=n->ColI h w c top G p A W-> ∃W',ColsE h w c top W W'
 |0,c,top,p,W,hn,_=>⟨W,.done om⟩
 | n+1,c,top,p,W,hn,hI=>by
  by_cases hd:c<w/\top<h
  ·obtain⟨K,hG,hK⟩:=hI.bd;obtain⟨W1,hE⟩:=RowsE.ex (pow_ge1 K) h om om (hI.row0 hG);by_cases h0:ent2 W1 top c=0
   ·obtain⟨e,hI2⟩:=hI.skip hd.1 hE h0;obtain⟨W',hW'⟩:=ColsE.ex hh n om (e▸hI2);exact⟨W',.skip hd.1 hd.2 hE h0 hW'⟩
   ·obtain⟨W',hW'⟩:=ColsE.ex hh n om (hI.piv hd.1 hd.2 hE h0 hh);exact⟨W',.piv hd.1 hd.2 hE h0 hW'⟩
  ·exact⟨W,.done hd⟩
theorem ColsE.inv(hh:h<=1000000)(hE:ColsE h w c top W W'): ∀{p:Nat->Nat},ColI h w c top G p A W-> ∃c' top' p',¬(c'<w/\top'<h)/\ColI h w c' top' G p' A W':=by
 induction hE with
 |done h0=>exact λhI=>⟨_,_,_,h0,hI⟩
 |skip hc ht hE h0 _ ih=>
  intro p hI;obtain⟨e,hI2⟩:=hI.skip hc hE h0;exact ih (e▸hI2)
 |piv hc ht hE h0 _ ih=>exact λhI=>ih (hI.piv hc ht hE h0 hh)
end
end
section
structure Sh(h w:Nat)(M:List (List Int)):Prop where
 len:M.length=h
 row: ∀r,r<h->(M.getD r []).length=w
structure OkI(h:Nat)(o:OpL):Prop where
 i:o.i<h
 c:(o.kd=1/\o.j<h/\o.i≠o.j/\o.k=0)\/(o.kd=2/\o.j=0/\o.k=0)\/(o.kd=3/\o.j<h/\o.i≠o.j)
section
variable {h w r c:Nat} {M M':List (List Int)} {o:OpL}
theorem sh_ent(hM:Sh h w M)(ho:OkI h o){q t:Nat}(hq:q<h):
  ent2 (actO M o) q t=if o.kd=1 then(if q=o.j then ent2 M o.i t else if q=o.i then ent2 M o.j t else ent2 M q t)else if o.kd=2 then(if q=o.i then-(ent2 M q t)else ent2 M q t)else(if q=o.i then ent2 M q t+o.k*ent2 M o.j t else ent2 M q t):=by
 have hl:=hM.len;have hi:=ho.i;unfold actO;by_cases h1:o.kd=1
 ·have hj:o.j<h:=by rcases ho.c with⟨_,hj,_⟩|⟨e,_⟩|⟨e,_⟩<;>omega
  rw[if_pos h1,if_pos h1];unfold ent2;rw[swapI_get om om];by_cases a:q=o.j;·rw[if_pos a,if_pos a]
  ·rw[if_neg a,if_neg a];by_cases b:q=o.i;·rw[if_pos b,if_pos b]
   ·rw[if_neg b,if_neg b]
 ·rw[if_neg h1,if_neg h1];by_cases h2:o.kd=2
  ·rw[if_pos h2,if_pos h2];unfold ent2;rw[getD_set om];by_cases b:q=o.i;·rw[if_pos b,if_pos b,negI_getD,b]
   ·rw[if_neg b,if_neg b]
  ·have hj:o.j<h:=by rcases ho.c with⟨_,hj,_⟩|⟨e,_⟩|⟨e,hj,_⟩<;>omega
   rw[if_neg h2,if_neg h2];unfold ent2;rw[getD_set om];by_cases b:q=o.i;·rw[if_pos b,if_pos b,addI_getD (by rw[hM.row _ hi,hM.row _ hj]),b]
   ·rw[if_neg b,if_neg b]
theorem sh_act(hM:Sh h w M)(ho:OkI h o):Sh h w (actO M o):=by
 have hl:=hM.len;have hi:=ho.i;refine⟨by rw[actO_len,hl],λq hq=> ?_⟩;unfold actO;by_cases h1:o.kd=1
 ·have hj:o.j<h:=by rcases ho.c with⟨_,hj,_⟩|⟨e,_⟩|⟨e,_⟩<;>omega
  rw[if_pos h1,swapI_get om om]
  repeat' split
  ·exact hM.row _ hi
  ·exact hM.row _ hj
  ·exact hM.row _ hq
 ·rw[if_neg h1];by_cases h2:o.kd=2
  ·rw[if_pos h2,getD_set om];split;·rw[negI_len];exact hM.row _ hi
   ·exact hM.row _ hq
  ·rw[if_neg h2,getD_set om];split;·rw[addI_len];exact hM.row _ hi
   ·exact hM.row _ hq
def Bd(h N:Nat)(M:List (List Int)):Prop:= ∀q t,q<h->(ent2 M q t).natAbs<=N
theorem bd_act{N:Nat}(hM:Sh h w M)(ho:OkI h o)(hB:Bd h N M):Bd h (N*(1+o.k.natAbs)) (actO M o):=by
 intro q t hq;have hi:=ho.i;have hN:N<=N*(1+o.k.natAbs):=Nat.le_mul_of_pos_right _ om;rw[sh_ent hM ho hq];by_cases h1:o.kd=1
 ·have hj:o.j<h:=by rcases ho.c with⟨_,hj,_⟩|⟨e,_⟩|⟨e,_⟩<;>omega
  rw[if_pos h1]
  repeat' split
  ·exact Nat.le_trans (hB _ t hi) hN
  ·exact Nat.le_trans (hB _ t hj) hN
  ·exact Nat.le_trans (hB _ t hq) hN
 ·rw[if_neg h1];by_cases h2:o.kd=2
  ·rw[if_pos h2];split;·rw[Int.natAbs_neg];exact Nat.le_trans (hB _ t hq) hN
   ·exact Nat.le_trans (hB _ t hq) hN
  ·have hj:o.j<h:=by rcases ho.c with⟨_,hj,_⟩|⟨e,_⟩|⟨e,hj,_⟩<;>omega
   rw[if_neg h2];split
   ·have:=abs_addmul (hB q t hq) (hB o.j t hj) (znb o.k.natAbs);rw[Nat.mul_add,zn8,Nat.mul_comm N];exact this
   ·exact Nat.le_trans (hB _ t hq) hN
def prd:List OpL->Nat
 |[]=>1
 |o::l=>(1+o.k.natAbs)*prd l
theorem prd_pos: ∀l:List OpL,1<=prd l
 |[]=>znb _
 |o::l=>Nat.mul_le_mul (show 1<=1+o.k.natAbs by omega) (prd_pos l)
theorem prd_app: ∀l m:List OpL,prd (l++m)=prd l*prd m
 |[],m=>by rw[zl7,prd,zna]
 |o::l,m=>by rw[zl8,prd,prd,prd_app l m,Nat.mul_assoc]
theorem prd_take(l:List OpL)(i:Nat):prd (l.take i)<=prd l:=by have h:=prd_app (l.take i) (l.drop i);rw[List.take_append_drop]at h;rw[h];exact Nat.le_mul_of_pos_right _ (prd_pos _)
def leastT(M:List (List Int))(c r:Nat):Nat->Option Nat
 |0=>none
 |t+1=>match leastT M c r t with
  |none=>if ent2 M (r+t) c=0 then none else some (r+t)
  |some a=>if ent2 M (r+t) c≠0/\(ent2 M (r+t) c).natAbs<(ent2 M a c).natAbs then some (r+t)else some a
theorem least_none: ∀{t:Nat},leastT M c r t=none-> ∀k,r<=k->k<r+t->ent2 M k c=0
 |0,_,k,h1,h2=>by omega
 | t+1,h,k,h1,h2=>by
  unfold leastT at h;split at h
  ·rename_i hn;split at h
   ·rename_i h0;by_cases e:k=r+t;·rw[e];exact h0
    ·exact least_none hn k h1 om
   ·cases h
  ·split at h<;>cases h
theorem least_some: ∀{t a:Nat},leastT M c r t=some a->r<=a/\a<r+t/\ent2 M a c≠0/\ ∀k,r<=k->k<r+t->ent2 M k c=0\/(ent2 M a c).natAbs<=(ent2 M k c).natAbs
 |0,a,h=>by cases h
 | t +1,a,h=>by
  unfold leastT at h;split at h
  ·rename_i hn;split at h;·cases h
   ·rename_i h0;cases h;refine⟨by omega,by omega,h0,λk h1 h2=> ?_⟩;by_cases e:k=r+t;·rw[e];exact .inr (znb _)
    ·exact .inl (least_none hn k h1 om)
  ·rename_i b hs;obtain⟨b1,b2,b3,b4⟩:=least_some hs;split at h
   ·rename_i hc;cases h;refine⟨by omega,by omega,hc.1,λk h1 h2=> ?_⟩;by_cases e:k=r+t;·rw[e];exact .inr (znb _)
    ·rcases b4 k h1 om with e2|e2;·exact .inl e2
     ·exact .inr om
   ·rename_i hc;cases h;refine⟨b1,by omega,b3,λk h1 h2=> ?_⟩;by_cases e:k=r+t
    ·rw[e];by_cases h0:ent2 M (r+t) c=0;·exact .inl h0
     ·exact .inr (Nat.le_of_not_lt λhl=>hc ⟨h0,hl⟩)
    ·exact b4 k h1 om
theorem least_uniq{t a:Nat}(h1:r<=a)(h2:a<r+t)(h3:ent2 M a c≠0)(h4: ∀k,r<=k->k<r+t->k≠a->ent2 M k c=0\/(ent2 M a c).natAbs<(ent2 M k c).natAbs):leastT M c r t=some a:=by
 cases hl:leastT M c r t with
 |none=>exact absurd (least_none hl a h1 h2) h3
 | some b=>
  obtain⟨b1,b2,b3,b4⟩:=least_some hl;by_cases e:b=a;·rw[e]
  ·rcases h4 b b1 b2 e with h|h;·exact absurd h b3
   ·rcases b4 a h1 h2 with h'|h';·exact absurd h' h3
    ·omega
theorem least_first: ∀{t:Nat},0<t->ent2 M r c≠0->(∀k,r<k->k<r+t->ent2 M k c=0\/(ent2 M r c).natAbs<=(ent2 M k c).natAbs)->leastT M c r t=some r
 |0,h,_,_=>by omega
 |1,_,h0,_=>by unfold leastT leastT;simp only[Nat.add_zero];rw[if_neg h0]
 |t+2,_,h0,h4=>by
  rw[leastT,least_first (t:=t+1) om h0 λk h1 h2=>h4 k h1 om];simp only;rw[if_neg];rintro⟨a,b⟩;rcases h4 (r+(t+1)) om om with h|h;·exact a h
  ·omega
def nearI(x p:Int):Int:=(x+x+p)/(p+p)
theorem near_spec{x p:Int}(hp:0<p):2*(x-nearI x p*p).natAbs<=p.natAbs/\2*((nearI x p).natAbs*p.natAbs)<=2*x.natAbs+p.natAbs:=by
 have h1:=Int.emod_nonneg (x+x+p) (show p+p≠0 by omega);have h2:=Int.emod_lt_of_pos (x+x+p) (show 0<p+p by omega);have h3:=Int.mul_ediv_add_emod (x+x+p) (p+p);unfold nearI;generalize(x+x+p)/(p+p)=q at*;generalize(x+x+p) % (p+p)=s at*;have h4:(p+p)*q=2*(q*p):=by rw[Int.add_mul,Int.mul_comm p q];omega
 rw[h4]at h3;have h5:q.natAbs*p.natAbs=(q*p).natAbs:=(Int.natAbs_mul q p).symm;rw[h5];generalize q*p=z at*;omega
inductive Nx(h r c:Nat)(M:List (List Int)):OpL->Prop
 |swap {i:Nat}:leastT M c r (h-r)=some i->i≠r->Nx h r c M ⟨1,r,i,0⟩
 |neg:leastT M c r (h-r)=some r->ent2 M r c<0->Nx h r c M ⟨2,r,0,0⟩
 |low {k:Nat}:leastT M c r (h-r)=some r->0<ent2 M r c->r<k->k<h->ent2 M k c≠0->(∀j,r<j->j<k->ent2 M j c=0)->Nx h r c M ⟨3,k,r,-(nearI (ent2 M k c) (ent2 M r c))⟩
 |up {k:Nat}:leastT M c r (h-r)=some r->0<ent2 M r c->(∀j,r<j->j<h->ent2 M j c=0)->k<r->ent2 M k c/ent2 M r c≠0->(∀j,j<k->ent2 M j c/ent2 M r c=0)->Nx h r c M ⟨3,k,r,-(ent2 M k c/ent2 M r c)⟩
def NxNo(h r c:Nat)(M:List (List Int)):Prop:=
 leastT M c r (h-r)=none\/(leastT M c r (h-r)=some r/\0<ent2 M r c/\(∀j,r<j->j<h->ent2 M j c=0)/\ ∀j,j<r->ent2 M j c/ent2 M r c=0)
theorem Nx.ok(hx:Nx h r c M o)(hr:r<h):OkI h o:=by
 cases hx with
 |swap h1 h2=>obtain⟨a,b,_,_⟩:=least_some h1;exact⟨hr,.inl ⟨rfl,by simp only;omega,λe=>h2 e.symm,rfl⟩⟩
 |neg=>exact⟨hr,.inr (.inl ⟨rfl,rfl,rfl⟩)⟩
 |low _ _ h1 h2=>exact⟨h2,.inr (.inr ⟨rfl,hr,by simp only;omega⟩)⟩
 |up _ _ _ h1=>exact⟨by simp only;omega,.inr (.inr ⟨rfl,hr,by simp only;omega⟩)⟩
inductive Path(h r c:Nat):List (List Int)->List OpL->List (List Int)->Prop
 |nil {M:List (List Int)}:Path h r c M [] M
 |cons {M M':List (List Int)} {o:OpL} {l:List OpL}:Nx h r c M o->Path h r c (actO M o) l M'->Path h r c M (o::l) M'
theorem Path.app{M M1 M2:List (List Int)}{l m:List OpL}(hp:Path h r c M l M1):Path h r c M1 m M2->Path h r c M (l++m) M2:=by
 induction hp with
 |nil=>exact id
 |cons hx _ ih=>exact λhq=> .cons hx (ih hq)
theorem Path.acts{l:List OpL}(hp:Path h r c M l M'):M'=actsO M l:=by
 induction hp with
 |nil=>rfl
 |cons _ _ ih=>exact ih
theorem Path.ok{l:List OpL}(hp:Path h r c M l M')(hr:r<h): ∀o∈l,OkI h o:=by
 induction hp with
 |nil=>intro o ho;cases ho
 |cons hx _ ih=>
  intro o ho;rcases List.mem_cons.1 ho with rfl|ho;·exact hx.ok hr
  ·exact ih o ho
theorem acts_sh{l:List OpL}: ∀{M:List (List Int)},Sh h w M->(∀o∈l,OkI h o)->Sh h w (actsO M l):=by
 induction l with
 |nil=>exact λhM _=>hM
 |cons o l ih=>exact λhM ho=>ih (sh_act hM (ho o (by simp))) λp hp=>ho p (by simp[hp])
theorem acts_bd{l:List OpL}: ∀{M:List (List Int)} {N:Nat},Sh h w M->(∀o∈l,OkI h o)->Bd h N M->Bd h (N*prd l) (actsO M l):=by
 induction l with
 |nil=>exact λ_ _ hB=>by rw[prd,zn8];exact hB
 |cons o l ih=>
  intro M N hM ho hB;have:=ih (sh_act hM (ho o (by simp))) (λp hp=>ho p (by simp[hp])) (bd_act hM (ho o (by simp)) hB);rw[Nat.mul_assoc]at this;exact this
theorem Nx.left(hx:Nx h r c M o)(hr:r<h)(hM:Sh h w M){t:Nat}(hz: ∀q,r<=q->q<h->ent2 M q t=0){q:Nat}(hq:q<h):ent2 (actO M o) q t=ent2 M q t:=by
 rw[sh_ent hM (hx.ok hr) hq];cases hx with
 | @swap i h1 h2=>
  obtain⟨a,b,_,_⟩:=least_some h1;rw[if_pos rfl];have hi:i<h:=by omega
  simp only;by_cases e1:q=i;·rw[if_pos e1,hz r (znb _) hr,e1,hz i a hi]
  ·rw[if_neg e1];by_cases e2:q=r;·rw[if_pos e2,hz i a hi,e2,hz r (znb _) hr]
   ·rw[if_neg e2]
 |neg h1 h2=>
  rw[if_neg (by simp),if_pos rfl];simp only;split;·rename_i e;rw[e,hz r (znb _) hr];rfl
  ·rfl
 |low=>
  rw[if_neg (by simp),if_neg (by simp)];simp only;rw[hz r (znb _) hr,Int.mul_zero,Int.add_zero];split<;>rfl
 |up=>
  rw[if_neg (by simp),if_neg (by simp)];simp only;rw[hz r (znb _) hr,Int.mul_zero,Int.add_zero];split<;>rfl
theorem Path.left{l:List OpL}(hp:Path h r c M l M')(hr:r<h){t:Nat}:Sh h w M->(∀q,r<=q->q<h->ent2 M q t=0)-> ∀q,q<h->ent2 M' q t=ent2 M q t:=by
 induction hp with
 |nil=>exact λ_ _ _ _=>rfl
 |cons hx _ ih=>
  intro hM hz q hq;rw[ih (sh_act hM (hx.ok hr)) (λq h1 h2=>by rw[hx.left hr hM hz h2];exact hz q h1 h2) q hq,hx.left hr hM hz hq]
end
end
section
def fac(x:Int):Nat:=if x=0 then 1 else 4*x.natAbs
theorem fac_pos(x:Int):1<=fac x:=by unfold fac;split<;>omega
def psi(M:List (List Int))(c a:Nat):Nat->Nat
 |0=>1
 |n+1=>fac (ent2 M (a+n) c)*psi M c a n
def nzc(M:List (List Int))(c a:Nat):Nat->Nat
 |0=>0
 |n+1=>(if ent2 M (a+n) c=0 then 0 else 1)+nzc M c a n
section
variable {h w r c a k N:Nat} {M M':List (List Int)} {o:OpL}
theorem psi_pos: ∀n:Nat,1<=psi M c a n
 |0=>znb _
 |n+1=>Nat.mul_le_mul (fac_pos _) (psi_pos n)
theorem psi_congr: ∀{n:Nat},(∀j,a<=j->j<a+n->ent2 M' j c=ent2 M j c)->psi M' c a n=psi M c a n
 |0,_=>rfl
 |n+1,he=>by rw[psi,psi,he (a+n) om om,psi_congr λj h1 h2=>he j h1 om]
theorem psi_chg: ∀{n:Nat},(∀j,a<=j->j<a+n->j≠k->ent2 M' j c=ent2 M j c)->a<=k->k<a+n->psi M' c a n*fac (ent2 M k c)=psi M c a n*fac (ent2 M' k c)
 |0,_,h1,h2=>by omega
 | n+1,he,h1,h2=>by
  rw[psi,psi];by_cases e:k=a+n
  ·rw[psi_congr λj h3 h4=>he j h3 om om,<-e];generalize fac (ent2 M k c)=x;generalize fac (ent2 M' k c)=y;generalize psi M c a n=z;grind
  ·rw[he (a+n) om om (λx=>e x.symm),Nat.mul_assoc,Nat.mul_assoc,psi_chg (n:=n) (λj h3 h4=>he j h3 om) h1 om]
theorem nzc_congr: ∀{n:Nat},(∀j,a<=j->j<a+n->ent2 M' j c=ent2 M j c)->nzc M' c a n=nzc M c a n
 |0,_=>rfl
 |n+1,he=>by rw[nzc,nzc,he (a+n) om om,nzc_congr λj h1 h2=>he j h1 om]
theorem nzc_chg: ∀{n:Nat},(∀j,a<=j->j<a+n->j≠k->ent2 M' j c=ent2 M j c)->a<=k->k<a+n->nzc M' c a n+(if ent2 M k c=0 then 0 else 1)=nzc M c a n+(if ent2 M' k c=0 then 0 else 1)
 |0,_,h1,h2=>by omega
 | n+1,he,h1,h2=>by
  rw[nzc,nzc];by_cases e:k=a+n;·rw[nzc_congr λj h3 h4=>he j h3 om om,<-e];omega
  ·rw[he (a+n) om om (λx=>e x.symm)];have:=nzc_chg (n:=n) (λj h3 h4=>he j h3 om) h1 om;omega
theorem nzc_le: ∀n:Nat,nzc M c a n<=n
 |0=>znb _
 |n+1=>by have:=nzc_le n;rw[nzc];split<;>omega
theorem nzc_zero: ∀{n:Nat},nzc M c a n=0-> ∀j,a<=j->j<a+n->ent2 M j c=0
 |0,_,j,h1,h2=>by omega
 |n+1,h,j,h1,h2=>by
  rw[nzc]at h;by_cases e:j=a+n;·rw[e];apply Classical.byContradiction;intro hn;rw[if_neg hn]at h;omega
  ·exact nzc_zero (n:=n) om j h1 om
theorem nzc_of: ∀{n:Nat},(∀j,a<=j->j<a+n->ent2 M j c=0)->nzc M c a n=0
 |0,_=>rfl
 |n+1,h=>by rw[nzc,h (a+n) om om,if_pos rfl,nzc_of λj h1 h2=>h j h1 om]
theorem psi_le(hN:1<=N): ∀{n:Nat},(∀j,a<=j->j<a+n->(ent2 M j c).natAbs<=N)->psi M c a n<=(4*N)^n
 |0,_=>znb _
 |n+1,h=>by rw[psi,Nat.pow_succ,Nat.mul_comm];refine Nat.mul_le_mul (psi_le hN λj h1 h2=>h j h1 om) ?_;have:=h (a+n) om om;unfold fac;split<;>omega
def Nm(h r c:Nat)(M:List (List Int)):Prop:=0<ent2 M r c/\ ∀k,r<k->k<h->ent2 M k c=0\/(ent2 M r c).natAbs<=(ent2 M k c).natAbs
theorem Nm.least(hn:Nm h r c M)(hr:r<h):leastT M c r (h-r)=some r:=
 least_first om (by have:=hn.1;omega) λk h1 h2=>hn.2 k h1 om
theorem fixsign(hr:r<h)(hM:Sh h w M)(h0:ent2 M r c≠0)(hl: ∀k,r<k->k<h->ent2 M k c=0\/(ent2 M r c).natAbs<=(ent2 M k c).natAbs):
  ∃l M',Path h r c M l M'/\Nm h r c M'/\Sh h w M'/\(ent2 M' r c).natAbs=(ent2 M r c).natAbs/\l.length<=1/\prd l=1/\ ∀q,q<h->q≠r-> ∀s,ent2 M' q s=ent2 M q s:=by
 by_cases hs:ent2 M r c<0
 ·have hx:Nx h r c M ⟨2,r,0,0⟩:= .neg (least_first om h0 λk h1 h2=>hl k h1 om) hs;have he: ∀q,q<h-> ∀s,ent2 (actO M ⟨2,r,0,0⟩) q s=if q=r then-(ent2 M q s)else ent2 M q s:=λq hq s=>by
   rw[sh_ent hM (hx.ok hr) hq,if_neg (by simp),if_pos rfl]
  refine⟨[_],_,.cons hx .nil,⟨?_,λk h1 h2=> ?_⟩,sh_act hM (hx.ok hr),?_,znb _,rfl,λq hq h1 s=> ?_⟩;·rw[he r hr,if_pos rfl];omega
  ·rw[he r hr,if_pos rfl,he k h2,if_neg om,Int.natAbs_neg];exact hl k h1 h2
  ·rw[he r hr,if_pos rfl,Int.natAbs_neg]
  ·rw[he q hq,if_neg h1]
 ·exact⟨[],M,.nil,⟨by omega,hl⟩,hM,rfl,by simp,rfl,λ_ _ _ _=>rfl⟩
theorem start(hr:r<h)(hM:Sh h w M){i:Nat}(hi:leastT M c r (h-r)=some i):
  ∃l M',Path h r c M l M'/\Nm h r c M'/\Sh h w M'/\l.length<=2/\prd l=1/\ ∀q,q<r-> ∀s,ent2 M' q s=ent2 M q s:=by
 obtain⟨i1,i2,i3,i4⟩:=least_some hi;by_cases e:i=r
 ·subst e;obtain⟨l,M',p1,p2,p3,_,p5,p6,p7⟩:=fixsign hr hM i3 λk h1 h2=>i4 k om om;exact⟨l,M',p1,p2,p3,by omega,p6,λq hq s=>p7 q om om s⟩
 ·have hx:Nx h r c M ⟨1,r,i,0⟩:= .swap hi e;have he: ∀q,q<h-> ∀s,ent2 (actO M ⟨1,r,i,0⟩) q s=if q=i then ent2 M r s else if q=r then ent2 M i s else ent2 M q s:=λq hq s=>by
   rw[sh_ent hM (hx.ok hr) hq,if_pos rfl]
  have her:ent2 (actO M ⟨1,r,i,0⟩) r c=ent2 M i c:=by rw[he r hr,if_neg (λx=>e x.symm),if_pos rfl]
  obtain⟨l,M',p1,p2,p3,_,p5,p6,p7⟩:=fixsign (c:=c) hr (sh_act hM (hx.ok hr)) (by rw[her];exact i3) λk h1 h2=>by
   rw[her,he k h2];by_cases e1:k=i;·rw[if_pos e1];exact i4 r (znb _) om
   ·rw[if_neg e1,if_neg om];exact i4 k om om
  refine⟨_::l,M',.cons hx p1,p2,p3,by simp;omega,by rw[prd,p6];rfl,λq hq s=> ?_⟩;rw[p7 q om om s,he q om,if_neg om,if_neg om]
theorem grow0{Q X P A B:Nat}(hP:1<=P)(h1:2*(Q*P)<=2*X+P)(h2:P<=X)(he:A*(4*X)=B*1):(1+Q)*(P*P*A)<=P*P*B:=by
 have h3:Q<=Q*P:=Nat.le_mul_of_pos_right _ hP;have h4:1+Q<=4*X:=by omega
 calc (1+Q)*(P*P*A)<=(4*X)*(P*P*A):=Nat.mul_le_mul_right _ h4
  _=P*P*(A*(4*X)):=by rw[Nat.mul_comm,Nat.mul_assoc]
  _=P*P*B:=by rw[he,zn8]
theorem grow1{Q X P Y A B:Nat}(h0:2*Y<=P)(h1:2*(Q*P)<=2*X+P)(h2:P<=X)(he:A*(4*X)=B*(4*P)):(1+Q)*(Y*Y*A)<=P*P*B:=by
 have a1:2*Y*(2*Y)<=P*P:=Nat.mul_le_mul h0 h0;have a2:2*Y*(2*Y)=4*(Y*Y):=by rw[Nat.mul_assoc,Nat.mul_left_comm Y,<-Nat.mul_assoc]
 have a3:(1+Q)*(4*(Y*Y))<=(1+Q)*(P*P):=Nat.mul_le_mul_left _ om;have a4:(1+Q)*(P*P)=(P+Q*P)*P:=by rw[<-Nat.mul_assoc,Nat.add_mul,zna]
 have a5:2*((P+Q*P)*P)<=5*X*P:=by rw[<-Nat.mul_assoc];exact Nat.mul_le_mul_right _ om
 have a6:(1+Q)*(4*(Y*Y))=4*((1+Q)*(Y*Y)):=by rw[Nat.mul_left_comm]
 have a7:5*X*P=5*(X*P):=Nat.mul_assoc _ _ _;have a8:(1+Q)*(Y*Y)<=X*P:=by omega
 have a9:X*A=B*P:=by
  have b1:A*(4*X)=4*(X*A):=by rw[Nat.mul_left_comm,Nat.mul_comm A]
  have b2:B*(4*P)=4*(B*P):=Nat.mul_left_comm _ _ _;omega
 calc (1+Q)*(Y*Y*A)=(1+Q)*(Y*Y)*A:=(Nat.mul_assoc _ _ _).symm
  _<=X*P*A:=Nat.mul_le_mul_right _ a8
  _=P*(X*A):=by rw[Nat.mul_comm X,Nat.mul_assoc]
  _=P*P*B:=by rw[a9,Nat.mul_comm B,Nat.mul_assoc]
theorem below(hr:r<h): ∀(n:Nat) {M:List (List Int)} {t:Nat},Sh h w M->Nm h r c M->(ent2 M r c).natAbs<2^t->t+nzc M c (r+1) (h-(r+1))<=n->
  ∃l M',Path h r c M l M'/\Nm h r c M'/\Sh h w M'/\(∀j,r<j->j<h->ent2 M' j c=0)/\prd l<=(ent2 M r c).natAbs*(ent2 M r c).natAbs*psi M c (r+1) (h-(r+1))/\l.length<=3*n/\(nzc M c (r+1) (h-(r+1))=0->l=[])/\ ∀q,q<r-> ∀s,ent2 M' q s=ent2 M q s:=by
 intro n;induction n with
 |zero=>
  intro M t hM hn ht hle;have hp:=hn.1;have:t=0:=by omega
  subst this;simp at ht;omega
 | succ n ih=>
  intro M t hM hn ht hle;have hp:=hn.1;by_cases hz:nzc M c (r+1) (h-(r+1))=0
  ·refine⟨[],M,.nil,hn,hM,λj h1 h2=>nzc_zero hz j om om,?_,by simp,λ_=>rfl,λ_ _ _=>rfl⟩;exact Nat.mul_le_mul (Nat.mul_le_mul (show 1<=_ by omega) (show 1<=_ by omega)) (psi_pos _)
  ·obtain⟨k0,hk0⟩: ∃k,r+1<=k/\k<h/\ent2 M k c≠0:=by
    apply Classical.byContradiction;intro hno;exact hz (nzc_of λj h1 h2=>Classical.byContradiction λh3=>hno ⟨j,h1,by omega,h3⟩)
   obtain⟨k,⟨hk1,hk2,hk3⟩,hkl⟩:=least_of (P:=λk=>r+1<=k/\k<h/\ent2 M k c≠0) hk0;have hfirst: ∀j,r<j->j<k->ent2 M j c=0:=λj h1 h2=>Classical.byContradiction λh3=>hkl j h2 ⟨by omega,by omega,h3⟩;have hx:Nx h r c M ⟨3,k,r,-(nearI (ent2 M k c) (ent2 M r c))⟩:= .low (hn.least hr) hp om hk2 hk3 hfirst;obtain⟨n1,n2⟩:=near_spec (x:=ent2 M k c) hp;have hge:(ent2 M r c).natAbs<=(ent2 M k c).natAbs:=(hn.2 k om hk2).resolve_left hk3;have he: ∀q,q<h-> ∀s,ent2 (actO M ⟨3,k,r,-(nearI (ent2 M k c) (ent2 M r c))⟩) q s=if q=k then ent2 M q s+ -(nearI (ent2 M k c) (ent2 M r c))*ent2 M r s else ent2 M q s:=λq hq s=>by rw[sh_ent hM (hx.ok hr) hq,if_neg (by simp),if_neg (by simp)]
   have hxk:ent2 (actO M ⟨3,k,r,-(nearI (ent2 M k c) (ent2 M r c))⟩) k c=ent2 M k c-nearI (ent2 M k c) (ent2 M r c)*ent2 M r c:=by rw[he k hk2,if_pos rfl,Int.neg_mul,Int.sub_eq_add_neg]
   rw[<-hxk]at n1;have hS1:=sh_act hM (hx.ok hr);have hpr:prd [⟨3,k,r,-(nearI (ent2 M k c) (ent2 M r c))⟩]=1+(nearI (ent2 M k c) (ent2 M r c)).natAbs:=by rw[prd,prd,zn8];simp only[Int.natAbs_neg]
   generalize hq:nearI (ent2 M k c) (ent2 M r c)=Q at*;generalize hM1:actO M ⟨3,k,r,-Q⟩=M1 at*;have hoth: ∀q,q<h->q≠k-> ∀s,ent2 M1 q s=ent2 M q s:=λq hq h1 s=>by rw[he q hq,if_neg h1]
   have her:=hoth r hr om c;by_cases hx0:ent2 M1 k c=0
   ·have hn1:Nm h r c M1:=⟨by rw[her];exact hp,λj h1 h2=>by
     by_cases e:j=k;·rw[e];exact .inl hx0
     ·rw[her,hoth j h2 e];exact hn.2 j h1 h2⟩
    have hc1:=nzc_chg (M:=M) (M':=M1) (c:=c) (a:=r+1) (k:=k) (n:=h-(r+1)) (λj h1 h2 h3=>hoth j om h3 c) hk1 om;have hp1:=psi_chg (M:=M) (M':=M1) (c:=c) (a:=r+1) (k:=k) (n:=h-(r+1)) (λj h1 h2 h3=>hoth j om h3 c) hk1 om;rw[if_neg hk3,if_pos hx0]at hc1;rw[show fac (ent2 M k c)=4*(ent2 M k c).natAbs from if_neg hk3,show fac (ent2 M1 k c)=1 by rw[hx0];rfl]at hp1;obtain⟨l,M',p1,p2,p3,p4,p5,p6,p7,p8⟩:=ih (M:=M1) (t:=t) hS1 hn1 (by rw[her];exact ht) om;refine⟨_::l,M',.cons hx (by rw[hM1];exact p1),p2,p3,p4,?_,by rw[List.length_cons];omega,λe=>absurd e hz,λq h1 s=>by rw[p8 q h1,hoth q om om]⟩;rw[her]at p5;have:=prd_app [⟨3,k,r,-Q⟩] l;rw[hpr]at this;show prd ([_]++l)<=_;rw[this];exact Nat.le_trans (Nat.mul_le_mul_left _ p5) (grow0 om n2 hge hp1)
   ·have hlt:(ent2 M1 k c).natAbs<(ent2 M r c).natAbs:=by omega
    have hl1:leastT M1 c r (h-r)=some k:=least_uniq om om hx0 λj h1 h2 h3=>by
     by_cases e:j=r;·rw[e,her];exact .inr hlt
     ·rw[hoth j om h3];rcases hn.2 j om om with h4|h4;·exact .inl h4
      ·exact .inr om
    have hx2:Nx h r c M1 ⟨1,r,k,0⟩:= .swap hl1 om;have he2: ∀q,q<h-> ∀s,ent2 (actO M1 ⟨1,r,k,0⟩) q s=if q=k then ent2 M1 r s else if q=r then ent2 M1 k s else ent2 M1 q s:=λq hq s=>by rw[sh_ent hS1 (hx2.ok hr) hq,if_pos rfl]
    have hS2:=sh_act hS1 (hx2.ok hr);generalize hM2:actO M1 ⟨1,r,k,0⟩=M2 at*;have h2r:ent2 M2 r c=ent2 M1 k c:=by rw[he2 r hr,if_neg om,if_pos rfl]
    have h2k:ent2 M2 k c=ent2 M r c:=by rw[he2 k hk2,if_pos rfl,her]
    have h2o: ∀q,q<h->q≠k->q≠r-> ∀s,ent2 M2 q s=ent2 M q s:=λq hq a b s=>by rw[he2 q hq,if_neg a,if_neg b,hoth q hq a]
    obtain⟨l3,M3,f1,f2,f3,f4,f5,f6,f7⟩:=fixsign (c:=c) hr hS2 (by rw[h2r];exact hx0) λj h1 h2=>by
     by_cases e:j=k;·rw[e,h2k,h2r];exact .inr om
     ·rw[h2r,h2o j h2 e om];rcases hn.2 j h1 h2 with h4|h4;·exact .inl h4
      ·exact .inr om
    rw[h2r]at f4;have h3k:ent2 M3 k c=ent2 M r c:=by rw[f7 k hk2 om,h2k]
    have h3o: ∀q,q<h->q≠k->q≠r-> ∀s,ent2 M3 q s=ent2 M q s:=λq hq a b s=>by rw[f7 q hq b,h2o q hq a b]
    have hc1:=nzc_chg (M:=M) (M':=M3) (c:=c) (a:=r+1) (k:=k) (n:=h-(r+1)) (λj h1 h2 h3=>h3o j om h3 om c) hk1 om;have hp1:=psi_chg (M:=M) (M':=M3) (c:=c) (a:=r+1) (k:=k) (n:=h-(r+1)) (λj h1 h2 h3=>h3o j om h3 om c) hk1 om;rw[if_neg hk3,h3k,if_neg om]at hc1;rw[h3k,show fac (ent2 M k c)=4*(ent2 M k c).natAbs from if_neg hk3,show fac (ent2 M r c)=4*(ent2 M r c).natAbs from if_neg om]at hp1;obtain⟨s,rfl⟩: ∃s,t=s+1:=by
     cases t with
     |zero=>simp at ht;omega
     |succ s=>exact⟨s,rfl⟩
    rw[Nat.pow_succ]at ht;obtain⟨l,M',p1,p2,p3,p4,p5,p6,p7,p8⟩:=ih (M:=M3) (t:=s) f3 f2 (by rw[f4];omega) om;refine⟨_::_::(l3++l),M',.cons hx (by rw[hM1];exact .cons hx2 (by rw[hM2];exact f1.app p1)),p2,p3,p4,?_,by simp;omega,λe=>absurd e hz,λq h1 s=>by rw[p8 q h1,h3o q om om om]⟩;rw[f4]at p5;have:=prd_app [⟨3,k,r,-Q⟩] (⟨1,r,k,0⟩::(l3++l));rw[hpr]at this;show prd ([_]++(⟨1,r,k,0⟩::(l3++l)))<=_;rw[this,prd,prd_app,f6,zna];simp only[Int.natAbs_zero,Nat.add_zero,zna];exact Nat.le_trans (Nat.mul_le_mul_left _ p5) (grow1 n1 n2 hge hp1)
theorem up(hr:r<h): ∀(d:Nat) {M:List (List Int)} {j:Nat},r-j<=d->Sh h w M->Nm h r c M->(∀q,r<q->q<h->ent2 M q c=0)->(∀i,i<j->i<r->ent2 M i c/ent2 M r c=0)->(∀i,j<=i->i<r->(ent2 M i c).natAbs<=N)->
  ∃l M',Path h r c M l M'/\Nm h r c M'/\Sh h w M'/\(∀i,i<r->ent2 M' i c/ent2 M' r c=0)/\prd l<=(1+N)^(r-j)/\l.length<=r-j/\ ∀q,r<=q->q<h-> ∀s,ent2 M' q s=ent2 M q s:=by
 intro d;induction d with
 |zero=>
  intro M j hd hM hn _ hlo _;exact⟨[],M,.nil,hn,hM,λi hi=>hlo i om hi,Nat.pow_pos om,by simp,λ_ _ _ _=>rfl⟩
 | succ d ih=>
  intro M j hd hM hn hz hlo hB;have hp:=hn.1;by_cases hj:j<r
  ·have hpow:(1+N)^(r-j)=(1+N)^(r-(j+1))*(1+N):=by rw[<-Nat.pow_succ];congr 1;omega
   by_cases h0:ent2 M j c/ent2 M r c=0
   ·obtain⟨l,M',p1,p2,p3,p4,p5,p6,p7⟩:=ih (M:=M) (j:=j+1) om hM hn hz (λi h1 h2=>by
     by_cases e:i=j;·rw[e];exact h0
     ·exact hlo i om h2) (λi h1 h2=>hB i om h2)
    exact⟨l,M',p1,p2,p3,p4,Nat.le_trans p5 (by rw[hpow];exact Nat.le_mul_of_pos_right _ om),by omega,p7⟩
   ·have hx:Nx h r c M ⟨3,j,r,-(ent2 M j c/ent2 M r c)⟩:= .up (hn.least hr) hp hz hj h0 λi hi=>hlo i hi om;have he: ∀q,q<h-> ∀s,ent2 (actO M ⟨3,j,r,-(ent2 M j c/ent2 M r c)⟩) q s=if q=j then ent2 M q s+ -(ent2 M j c/ent2 M r c)*ent2 M r s else ent2 M q s:=λq hq s=>by
     rw[sh_ent hM (hx.ok hr) hq,if_neg (by simp),if_neg (by simp)]
    have hS1:=sh_act hM (hx.ok hr);have hQ:(ent2 M j c/ent2 M r c).natAbs<=N:=Nat.le_trans (Int.natAbs_ediv_le_natAbs _ _) (hB j (znb _) hj);have hmod:ent2 M j c+ -(ent2 M j c/ent2 M r c)*ent2 M r c=ent2 M j c % ent2 M r c:=by rw[Int.emod_def,Int.neg_mul,Int.mul_comm (ent2 M r c),Int.sub_eq_add_neg]
    generalize hM1:actO M ⟨3,j,r,-(ent2 M j c/ent2 M r c)⟩=M1 at*;have hoth: ∀q,q<h->q≠j-> ∀s,ent2 M1 q s=ent2 M q s:=λq hq h1 s=>by rw[he q hq,if_neg h1]
    have her:=hoth r hr om c;have hjj:ent2 M1 j c=ent2 M j c % ent2 M r c:=by rw[he j om,if_pos rfl,hmod]
    obtain⟨l,M',p1,p2,p3,p4,p5,p6,p7⟩:=ih (M:=M1) (j:=j+1) om hS1 ⟨by rw[her];exact hp,λk h1 h2=>by rw[her,hoth k h2 om];exact hn.2 k h1 h2⟩ (λq h1 h2=>by rw[hoth q h2 om];exact hz q h1 h2) (λi h1 h2=>by
     by_cases e:i=j
     ·rw[e,her,hjj];exact Int.ediv_eq_zero_of_lt (Int.emod_nonneg _ om) (Int.emod_lt_of_pos _ hp)
     ·rw[her,hoth i om e];exact hlo i om h2) (λi h1 h2=>by rw[hoth i om om];exact hB i om h2)
    refine⟨_::l,M',.cons hx (by rw[hM1];exact p1),p2,p3,p4,?_,by simp;omega,λq h1 h2 s=>by rw[p7 q h1 h2,hoth q h2 om]⟩;rw[prd,hpow,Nat.mul_comm];refine Nat.mul_le_mul p5 ?_;simp only[Int.natAbs_neg];omega
  ·exact⟨[],M,.nil,hn,hM,λi hi=>hlo i om hi,Nat.pow_pos om,by simp,λ_ _ _ _=>rfl⟩
theorem ediv_zero{x p:Int}(hp:0<p)(h:x/p=0):0<=x/\x<p:=by have h1:=Int.emod_nonneg x (show p≠0 by omega);have h2:=Int.emod_lt_of_pos x hp;have h3:=Int.mul_ediv_add_emod x p;rw[h,Int.mul_zero,Int.zero_add]at h3;omega
theorem col_ex(hr:r<h)(hM:Sh h w M)(hB:Bd h N M)(hN:1<=N){t:Nat}(ht:N<2^t):
  ∃l M',Path h r c M l M'/\NxNo h r c M'/\Sh h w M'/\((l=[]/\M'=M/\ ∀q,r<=q->q<h->ent2 M q c=0)\/(0<ent2 M' r c/\(∀j,r<j->j<h->ent2 M' j c=0)/\ ∀j,j<r->0<=ent2 M' j c/\ent2 M' j c<ent2 M' r c))/\
   prd l<=N*N*(4*N)^(h-(r+1))*(1+N)^r/\l.length<=2+(if h-(r+1)=0 then 0 else 3*(t+(h-(r+1))))+r:=by
 cases hl:leastT M c r (h-r)with
 |none=>
  refine⟨[],M,.nil,.inl hl,hM,.inl ⟨rfl,rfl,λq h1 h2=>least_none hl q h1 om⟩,?_,by simp⟩;exact Nat.mul_le_mul (Nat.mul_le_mul (Nat.mul_le_mul hN hN) (Nat.pow_pos om)) (Nat.pow_pos om)
 | some i=>
  obtain⟨l1,M1,a1,a2,a3,a4,a5,a6⟩:=start hr hM hl;have hB1:Bd h N M1:=by have:=acts_bd hM (a1.ok hr) hB;rwa[<-a1.acts,a5,zn8]at this
  have hz1:=nzc_le (M:=M1) (c:=c) (a:=r+1) (h-(r+1));obtain⟨l2,M2,b1,b2,b3,b4,b5,b6,b7,b8⟩:=below (c:=c) hr (t+nzc M1 c (r+1) (h-(r+1))) a3 a2 (Nat.lt_of_le_of_lt (hB1 r c hr) ht) (znb _);obtain⟨l3,M3,d1,d2,d3,d4,d5,d6,d7⟩:=up (c:=c) (N:=N) hr r (M:=M2) (j:=0) om b3 b2 b4 (λi h1=>by omega) λi _ h1=>by rw[b8 i h1,a6 i h1];exact hB i c om
  have hz3: ∀j,r<j->j<h->ent2 M3 j c=0:=λj h1 h2=>by rw[d7 j om h2];exact b4 j h1 h2
  refine⟨l1++(l2++l3),M3,a1.app (b1.app d1),.inr ⟨d2.least hr,d2.1,hz3,d4⟩,d3,.inr ⟨d2.1,hz3,λj h1=>ediv_zero d2.1 (d4 j h1)⟩,?_,?_⟩
  ·rw[prd_app,prd_app,a5,zna];refine Nat.mul_le_mul (Nat.le_trans b5 ?_) d5;refine Nat.mul_le_mul (Nat.mul_le_mul (hB1 r c hr) (hB1 r c hr)) (psi_le hN λj h1 h2=>hB1 j c om)
  ·rw[zl1,zl1];by_cases e:h-(r+1)=0
   ·rw[if_pos e];have:=b7 om;rw[this];simp;omega
   ·rw[if_neg e];omega
end
end
section
inductive Cols(h w:Nat):Nat->Nat->List (List Int)->List OpL->List (List Int)->Prop
 |done {r c:Nat} {M:List (List Int)}: ¬(c<w/\r<h)->Cols h w r c M [] M
 |col {r c:Nat} {M M1 M2:List (List Int)} {l m:List OpL}:c<w->r<h->Path h r c M l M1->NxNo h r c M1->Cols h w (if ent2 M1 r c≠0 then r+1 else r) (c+1) M1 m M2->Cols h w r c M (l++m) M2
section
variable {h w r c N:Nat} {M M':List (List Int)}
theorem Cols.acts{l:List OpL}(hp:Cols h w r c M l M'):M'=actsO M l:=by
 induction hp with
 |done=>rfl
 |col _ _ p1 _ _ ih=>rw[ih,p1.acts,actsO_app]
theorem Cols.ok{l:List OpL}(hp:Cols h w r c M l M'): ∀o∈l,OkI h o:=by
 induction hp with
 |done=>intro o ho;cases ho
 |col _ h1 p1 _ _ ih=>intro o ho;exact(List.mem_append.1 ho).elim (p1.ok h1 o) (ih o)
def btF(h:Nat):Nat->Nat->Nat->Nat
 |0,_,b=>b
 |k+1,r,b=>if r<h then btF h k (r+1) (b+(2*b+(h-(r+1))*(b+2)+r*(b+1)))else b
def cnF(h:Nat):Nat->Nat->Nat->Nat
 |0,_,_=>0
 |k+1,r,b=>if r<h then 2+(if h-(r+1)=0 then 0 else 3*(b+(h-(r+1))))+r+cnF h k (r+1) (b+(2*b+(h-(r+1))*(b+2)+r*(b+1)))else 0
theorem bt_mono: ∀k r b:Nat,btF h k r b<=btF h (k+1) r b
 |0,r,b=>by unfold btF;split<;>(try unfold btF)<;>omega
 |k+1,r,b=>by
  rw[btF,btF];split;·exact bt_mono k _ _
  ·exact znb _
theorem cn_mono: ∀k r b:Nat,cnF h k r b<=cnF h (k+1) r b
 |0,r,b=>by unfold cnF;omega
 |k+1,r,b=>by
  rw[cnF,cnF];split;·exact Nat.add_le_add_left (cn_mono k _ _) _
  ·exact znb _
theorem bt_ge: ∀k r b:Nat,b<=btF h k r b
 |0,_,_=>znb _
 |k+1,r,b=>by
  rw[btF];split;·exact Nat.le_trans om (bt_ge k _ _)
  ·exact znb _
theorem pow_grow{N b n r:Nat}(hb:N<2^b):N*(N*N*(4*N)^n*(1+N)^r)<2^(b+(2*b+n*(b+2)+r*(b+1))):=by
 have h1:N<=2^b:=Nat.le_of_lt hb;have h2:4*N<=2^(b+2):=by rw[Nat.pow_add,Nat.mul_comm];exact Nat.mul_le_mul_right _ h1
 have h3:1+N<=2^(b+1):=by rw[Nat.pow_succ];omega
 have h4:(4*N)^n<=2^(n*(b+2)):=by rw[Nat.mul_comm n,Nat.pow_mul];exact Nat.pow_le_pow_left h2 n
 have h5:(1+N)^r<=2^(r*(b+1)):=by rw[Nat.mul_comm r,Nat.pow_mul];exact Nat.pow_le_pow_left h3 r
 have h6:N*N<=2^(2*b):=by rw[Nat.two_mul,Nat.pow_add];exact Nat.mul_le_mul h1 h1
 have h7:N*N*(4*N)^n*(1+N)^r<=2^(2*b+n*(b+2)+r*(b+1)):=by rw[Nat.pow_add,Nat.pow_add];exact Nat.mul_le_mul (Nat.mul_le_mul h6 h4) h5
 rw[Nat.pow_add];exact Nat.lt_of_le_of_lt (Nat.mul_le_mul_left _ h7) (Nat.mul_lt_mul_of_pos_right hb (Nat.pow_pos om))
theorem cols_ex: ∀(k:Nat) {r c N b:Nat} {p:Nat->Nat} {M:List (List Int)},w-c<=k->Sh h w M->HS h w c r p M->Bd h N M->1<=N->N<2^b->
  ∃l M' c' r' p',Cols h w r c M l M'/\Sh h w M'/\ ¬(c'<w/\r'<h)/\HS h w c' r' p' M'/\N*prd l<2^btF h k r b/\l.length<=cnF h k r b:=by
 intro k;induction k with
 |zero=>
  intro r c N b p M hk hM hS _ _ hb;exact⟨[],M,c,r,p,.done om,hM,by omega,hS,by rw[prd,zn8];exact hb,by simp⟩
 | succ k ih=>
  intro r c N b p M hk hM hS hB hN hb;by_cases hd:c<w/\r<h
  ·obtain⟨hc,hr⟩:=hd;obtain⟨l,M1,p1,p2,p3,p4,p5,p6⟩:=col_ex (c:=c) hr hM hB hN hb;rcases p4 with⟨rfl,rfl,hz⟩|⟨q1,q2,q3⟩
   ·have hS1:HS h w (c+1) r p M1:=⟨hS.th,hc,λi hi=>Nat.lt_succ_of_lt (hS.pc i hi),hS.pos,hS.lead,hS.inc,hS.red,λq h1 h2 t ht=>by
     by_cases e:t=c;·rw[e];exact hz q h1 h2
     ·exact hS.zero q h1 h2 t om⟩
    obtain⟨m,M2,c',r',p',a1,a2,a3,a4,a5,a6⟩:=ih om hM hS1 hB hN hb;have h0:(if ent2 M1 r c≠0 then r+1 else r)=r:=if_neg λhh=>hh (hz r (znb _) hr);exact⟨[]++m,M2,c',r',p',.col hc hr p1 p2 (by rw[h0];exact a1),a2,a3,a4,Nat.lt_of_lt_of_le a5 (Nat.pow_le_pow_right om (bt_mono _ _ _)),Nat.le_trans a6 (cn_mono _ _ _)⟩
   ·have hl: ∀q,q<h-> ∀t,t<c->ent2 M1 q t=ent2 M q t:=λq hq t ht=>p1.left hr hM (λq' h1 h2=>hS.zero q' h1 h2 t ht) q hq;have hpr: ∀i,i<r->(λi=>if i=r then c else p i) i=p i:=λi hi=>if_neg om;have hprr:(λi=>if i=r then c else p i) r=c:=if_pos rfl;have hth:=hS.th;have hS1:HS h w (c+1) (r+1) (λi=>if i=r then c else p i) M1:=by
     generalize(λi=>if i=r then c else p i)=p2 at*;refine⟨by omega,hc,λi hi=> ?_,λi hi=> ?_,λi hi j hj=> ?_,λi k h1 h2=> ?_,λi k h1 h2=> ?_,λq h1 h2 t ht=> ?_⟩
     ·by_cases e:i=r;·rw[e,hprr];omega
      ·rw[hpr i om];have:=hS.pc i om;omega
     ·by_cases e:i=r;·rw[e,hprr];exact q1
      ·rw[hpr i om,hl i om _ (hS.pc i om)];exact hS.pos i om
     ·by_cases e:i=r
      ·rw[e,hprr]at hj;rw[e,hl r hr j hj];exact hS.zero r (znb _) hr j hj
      ·rw[hpr i om]at hj;have:=hS.pc i om;rw[hl i om j om];exact hS.lead i om j hj
     ·by_cases e:k=r;·rw[e,hprr,hpr i om];exact hS.pc i om
      ·rw[hpr k om,hpr i om];exact hS.inc i k h1 om
     ·by_cases e:k=r;·rw[e,hprr];exact q3 i om
      ·have:=hS.pc k om;rw[hpr k om,hl i om _ this,hl k om _ this];exact hS.red i k h1 om
     ·by_cases e:t=c;·rw[e];exact q2 q om h2
      ·rw[hl q h2 t om];exact hS.zero q om h2 t om
    have hB1:=acts_bd hM (p1.ok hr) hB;rw[<-p1.acts]at hB1;have hN1:N*prd l<2^(b+(2*b+(h-(r+1))*(b+2)+r*(b+1))):=Nat.lt_of_le_of_lt (Nat.mul_le_mul_left _ p5) (pow_grow hb);obtain⟨m,M2,c',r',p',a1,a2,a3,a4,a5,a6⟩:=ih om p3 hS1 hB1 (Nat.mul_le_mul hN (prd_pos l)) hN1;have h0:(if ent2 M1 r c≠0 then r+1 else r)=r+1:=if_pos om;refine⟨l++m,M2,c',r',p',.col hc hr p1 p2 (by rw[h0];exact a1),a2,a3,a4,?_,?_⟩;·rw[prd_app,<-Nat.mul_assoc,btF,if_pos hr];exact a5
    ·rw[zl1,cnF,if_pos hr];omega
  ·exact⟨[],M,c,r,p,.done hd,hM,hd,hS,by rw[prd,zn8];exact Nat.lt_of_lt_of_le hb (Nat.pow_le_pow_right om (bt_ge _ _ _)),by simp⟩
theorem red_ex{N b:Nat}(hM:Sh h w M)(hB:Bd h N M)(hN:1<=N)(hb:N<2^b):
  ∃l M' r p,Cols h w 0 0 M l M'/\Sh h w M'/\IsH h w (ent2 M') r p/\N*prd l<2^btF h w 0 b/\l.length<=cnF h w 0 b:=by
 obtain⟨l,M',c',r',p',a1,a2,a3,a4,a5,a6⟩:=cols_ex (h:=h) (w:=w) w (r:=0) (c:=0) (p:=λ_=>0) (M:=M) om hM
  ⟨znc _,znc _,λ_ hi=>by omega,λ_ hi=>by omega,λ_ hi=>by omega,λ_ _ _ hk=>by omega,λ_ _ _ hk=>by omega,λ_ _ _ t ht=>by omega⟩ hB hN hb
 exact⟨l,M',r',p',a1,a2,a4.isH a3,a5,a6⟩
theorem Bd.mi{K:Nat}(hM:Sh h w M)(hB:Bd h N M)(hK:N<4294967296^K):MI h w K M:=by
 refine⟨hM.len,λr hr=> ?_⟩;obtain⟨i,hi,rfl⟩:=List.getElem_of_mem hr;have hl:=hM.len;have e:M.getD i []=M[i]:=by rw[List.getD_eq_getElem?_getD,zlb hi];rfl
 rw[<-e];refine⟨hM.row i om,λx hx=> ?_⟩;obtain⟨j,hj,rfl⟩:=List.getElem_of_mem hx;have:=hB i j om;unfold ent2 at this;rw[List.getD_eq_getElem?_getD (l:=M.getD i []),zlb hj]at this;exact Nat.lt_of_le_of_lt this hK
theorem pow_limbs{x b K:Nat}(h:x<2^b)(hb:b<=32*K):x<4294967296^K:=by rw[show(4294967296:Nat)=2^32 from rfl,<-Nat.pow_mul];exact Nat.lt_of_lt_of_le h (Nat.pow_le_pow_right om hb)
theorem states_mi{l:List OpL}{K b:Nat}(hM:Sh h w M)(hB:Bd h N M)(ho: ∀o∈l,OkI h o)(hp:N*prd l<2^b)(hb:b<=32*K)(i:Nat):MI h w K (actsO M (l.take i)):=by have ho': ∀o∈l.take i,OkI h o:=λo h=>ho o (List.mem_of_mem_take h);exact Bd.mi (acts_sh hM ho') (acts_bd hM ho' hB) (pow_limbs (Nat.lt_of_le_of_lt (Nat.mul_le_mul_left _ (prd_take l i)) hp) hb)
theorem prd_mem{l:List OpL}{o:OpL}(h:o∈l):o.k.natAbs<prd l+1:=by
 induction l with
 |nil=>cases h
 | cons p l ih=>
  have h1:=prd_pos l;have h2:prd l<=(1+p.k.natAbs)*prd l:=Nat.le_mul_of_pos_left _ om;rcases List.mem_cons.1 h with rfl|h
  ·have:1+o.k.natAbs<=(1+o.k.natAbs)*prd l:=Nat.le_mul_of_pos_right _ h1;rw[prd];omega
  ·have:=ih h;rw[prd];omega
theorem okI_ok{l:List OpL}{b:Nat}(ho: ∀o∈l,OkI h o)(hp:prd l<2^b)(hb:b<=32000000000): ∀o∈l,OkOp h o:=λo h=>by have h1:=ho o h;refine⟨h1.i,?_,h1.c⟩;unfold Fits;have e:=OL_eq;generalize OL=L at*;refine pow_limbs (b:=b) ?_ om;have:=prd_mem h;omega
end
end
section
section
variable {h w K q t:Nat} {A:List (List Int)}
theorem w0_row1(hA:MI h w K A)(hq:q<h):(A++idL h++idL h).getD q []=A.getD q []:=by have hAl:=hA.len;rw[List.getD_eq_getElem?_getD,zl6,List.getElem?_append_left om,List.getD_eq_getElem?_getD]
theorem w0_row2(hA:MI h w K A)(hq:q<h):(A++idL h++idL h).getD (h+q) []=(idL h).getD q []:=by have hAl:=hA.len;have hil:(idL h).length=h:=mkM_len;rw[List.getD_eq_getElem?_getD,zl6,List.getElem?_append_right om,List.getElem?_append_left om,hAl,znd,List.getD_eq_getElem?_getD]
theorem w0_row3(hA:MI h w K A):(A++idL h++idL h).getD (2*h+q) []=(idL h).getD q []:=by have hAl:=hA.len;have hil:(idL h).length=h:=mkM_len;rw[List.getD_eq_getElem?_getD,List.getElem?_append_right (by rw[zl1];omega),zl1,hAl,hil,<-Nat.two_mul,znd,List.getD_eq_getElem?_getD]
theorem idL_row(hq:q<h):((idL h).getD q []).length=h:=by have hI:=mk_mi (h:=h) (w:=h) (K:=1) (f:=λr c=>if r=c then(1:Int)else 0) λ_ _ _ _=>fits01;exact(hI.get hq).1
theorem idL_ent(hq:q<h)(ht:t<h):ent2 (idL h) q t=if q=t then 1 else 0:=ent_mk hq ht
theorem idL_abs(hq:q<h):(ent2 (idL h) q t).natAbs<=1:=by
 by_cases ht:t<h;·rw[idL_ent hq ht];split<;>decide
 ·have:=idL_row (h:=h) hq;unfold ent2;rw[List.getD_eq_getElem?_getD,List.getElem?_eq_none om];decide
theorem w0_ws(hA:MI h w K A):WS h w (A++idL h++idL h):=by
 have hAl:=hA.len;have hil:(idL h).length=h:=mkM_len;refine⟨by rw[zl1,zl1];omega,λq hq=>by rw[w0_row1 hA hq];exact(hA.get hq).1,λq h1 h2=> ?_⟩;by_cases h3:q<2*h
 ·obtain⟨r,rfl⟩: ∃r,q=h+r:=⟨q-h,by omega⟩
  rw[w0_row2 hA om];exact idL_row om
 ·obtain⟨r,rfl⟩: ∃r,q=2*h+r:=⟨q-2*h,by omega⟩
  rw[w0_row3 hA];exact idL_row om
theorem form_start(hA:MI h w K A):ColI h w 0 0 ((K+1)*fact (h+1)) (λ_=>0) A (A++idL h++idL h):=by
 have hAl:=hA.len;have e1: ∀q t,q<h->ent2 (A++idL h++idL h) q t=ent2 A q t:=λq t hq=>by unfold ent2;rw[w0_row1 hA hq]
 have e2: ∀q t,q<h->ent2 (A++idL h++idL h) (h+q) t=ent2 (idL h) q t:=λq t hq=>by unfold ent2;rw[w0_row2 hA hq]
 have e3: ∀q t,ent2 (A++idL h++idL h) (2*h+q) t=ent2 (idL h) q t:=λq t=>by unfold ent2;rw[w0_row3 hA]
 have hg:=pow_ge1 K;refine⟨w0_ws hA,⟨znc _,znc _,λi hi=>by omega,λi hi=>by omega,λi hi=>by omega,λi k _ h2=>by omega,λi k _ h2=>by omega,λq _ _ t h3=>by omega⟩,⟨λq t hq ht=> ?_,λs t hs ht=> ?_⟩,⟨K,⟨λq t hq=> ?_,λq t hq=> ?_,λq t hq _=> ?_⟩,by rw[Nat.sub_zero];exact znb _⟩⟩
 ·rw[e1 q t hq];have:=dot_congr (n:=h) (f:=λs=>ent2 (A++idL h++idL h) (h+q) s) (f':=λs=>if q=s then 1 else 0) (g:=λs=>ent2 A s t) (g':=λs=>ent2 A s t) λs hs=>⟨by rw[e2 q s hq,idL_ent hq hs],rfl⟩
  rw[this,dot_unit,if_pos hq]
 ·have:=dot_congr (n:=h) (f:=λq=>ent2 (A++idL h++idL h) (2*h+s) q) (f':=λq=>if s=q then 1 else 0) (g:=λq=>ent2 (A++idL h++idL h) q t) (g':=λq=>ent2 A q t) λq hq=>⟨by rw[e3,idL_ent hs hq],e1 q t hq⟩
  rw[this,dot_unit,if_pos hs]
 ·rw[e1 q t hq];by_cases ht:t<w;·exact Nat.le_of_lt (hA.fit hq ht)
  ·have:=(hA.get hq).1;unfold ent2;rw[List.getD_eq_getElem?_getD,List.getElem?_eq_none om];exact znc _
 ·rw[e2 q t hq];have:=idL_abs (h:=h) (t:=t) hq;omega
 ·rw[e3 q t];have:=idL_abs (h:=h) (t:=t) hq;omega
theorem Gb.fits{G L:Nat}{W:List (List Int)}{bM bV:Nat->Nat}(hW:WS h w W)(hG:Gb h W bM bV)(h1: ∀q,q<h->bM q<=4294967296^L)(h2: ∀q,q<h->bV q<=4294967296^L)(hL:L<G):WI h w G W:=by have hp:4294967296^L<4294967296^G:=Nat.pow_lt_pow_right om hL;exact hG.wi hW (λq hq=>Nat.lt_of_le_of_lt (h1 q hq) hp) (λq hq=>Nat.lt_of_le_of_lt (h2 q hq) hp)
theorem fact_le{G n:Nat}(hK:(K+1)*fact n<=G):K<G:=by have:=Nat.le_mul_of_pos_right (K+1) (fact_pos n);omega
end
section
variable {h w c top G:Nat} {p:Nat->Nat} {A W W1:List (List Int)}
theorem ColI.wi(hI:ColI h w c top G p A W):WI h w G W:=by obtain⟨K,hG,hK⟩:=hI.bd;exact hG.fits hI.ws (λ_ _=>znb _) (λ_ _=>znb _) (fact_le hK)
theorem ColI.piv_lt{K:Nat}(hK:(K+1)*fact (h-top+1)<=G)(ht:top<h):1+2*K+(K+1)*(h-(top+1))<G:=by
 have e1:1+2*K+(K+1)*(h-(top+1))+1=(K+1)*(h-top+1):=by
  obtain⟨n,hn⟩: ∃n,h=top+1+n:=⟨h-(top+1),by omega⟩
  subst hn;rw[show top+1+n-(top+1)=n by omega,show top+1+n-top+1=n+2 by omega,Nat.mul_add (K+1) n 2];omega
 have e2:fact (h-top+1)=(h-top+1)*fact (h-top):=rfl;rw[e2,<-Nat.mul_assoc,<-e1]at hK;have:=Nat.le_mul_of_pos_right (1+2*K+(K+1)*(h-(top+1))+1) (fact_pos (h-top));omega
theorem bd_mid{K i:Nat}(hi:i<=h):4294967296^K*(12*4294967296^K)^(i-(top+1))<=4294967296^(1+2*K+(K+1)*(h-(top+1))):=by refine Nat.le_trans (bd_rows K (i-(top+1))) (Nat.pow_le_pow_right om ?_);have:=Nat.mul_le_mul_left (K+1) (show i-(top+1)<=h-(top+1) by omega);omega
theorem RowI.wi{K i:Nat}(hR:RowI h w c top (4294967296^K) (4294967296^K) (4294967296^K) i W)(hi:i<=h)(ht:top<h)(hK:(K+1)*fact (h-top+1)<=G):WI h w G W:=by
 have h1:4294967296^K<=4294967296^(1+2*K+(K+1)*(h-(top+1))):=Nat.pow_le_pow_right om om;have hb: ∀q,q<h->gB top (4294967296^K) (4294967296^K*(12*4294967296^K)^(i-(top+1))) q<=4294967296^(1+2*K+(K+1)*(h-(top+1))):=λq hq=>by
  unfold gB;split;·exact h1
  ·exact bd_mid hi
 exact hR.bd.fits hR.ws hb hb (ColI.piv_lt hK ht)
theorem PairI.wi{K i:Nat}(hP:PairI h w c top i (4294967296^K) (4294967296^K) (4294967296^K*(12*4294967296^K)^(i-(top+1))) (4294967296^K*(12*4294967296^K)^(i+1-(top+1))) W)(hi:i<h)(ht:top<h)(hK:(K+1)*fact (h-top+1)<=G):WI h w G W:=by
 obtain⟨ws,⟨a,b,hG,ha,hb,_⟩,_⟩:=hP;have h1:4294967296^K<=4294967296^(1+2*K+(K+1)*(h-(top+1))):=Nat.pow_le_pow_right om om;have h2:=bd_mid (K:=K) (top:=top) (h:=h) (i:=i) om;have h3:=bd_mid (K:=K) (top:=top) (h:=h) (i:=i+1) om;have hb: ∀x y,x<=4294967296^K*(12*4294967296^K)^(i+1-(top+1))->y<=4294967296^K*(12*4294967296^K)^(i+1-(top+1))-> ∀q,q<h->bp top i x y (gB top (4294967296^K) (4294967296^K*(12*4294967296^K)^(i-(top+1)))) q<=4294967296^(1+2*K+(K+1)*(h-(top+1))):=λx y hx hy q hq=>by
  unfold bp gB;split;·exact Nat.le_trans hx h3
  ·split;·exact Nat.le_trans hy h3
   ·split;·exact h1
    ·exact h2
 exact hG.fits ws (hb a b ha (by assumption)) (hb b a (by assumption) ha) (ColI.piv_lt hK ht)
theorem RedI.wi{K i:Nat}{Z:List (List Int)}(hR:RedI h w c top (4294967296^K) (4294967296^K*(12*4294967296^K)^(h-(top+1))) i Z W)(hi:i<=top)(ht:top<h)(hh:h<=1000000)(hK:(K+1)*fact (h-top+1)<=G):WI h w G W:=
 (hR.bd1 rfl ht hh hi).fits hR.ws (λ_ _=>znb _) (λ_ _=>znb _) (ColI.piv_lt hK ht)
end
end
section
open Go.RowKit
theorem opC_z(a i j:Nat):opC ⟨a,i,j,0⟩=[.sc (.int .i64 a),.sc (.int .i64 i),.sc (.int .i64 j),.sc (.bool false),.im [] 0]:=rfl
end
section
open Go.RowKit
theorem inT{i n:Nat}(h:i<n):Spec Tryz.prog 100 [.sc (.int .i64 i),.sc (.int .i64 n)] (.sc (.bool true)):=by have:=inside_s i n;rwa[decide_eq_true om]at this
theorem lvalidop_s{n:Nat}{o:OpL}(ho:OkOp n o):Spec Tryz.prog 63 [.ag (opC o),.sc (.int .i64 n)] (.sc (.bool true)):=by
 have hi:=inT ho.i;have c0:=rvalid_i o.k OL ho.k (by have:=OL_le;omega);rcases ho.c with⟨e,hj,hij,hk⟩|⟨e,hj,hk⟩|⟨e,hj,hij⟩
 ·obtain⟨kd,i,j,k⟩:=o;simp only at e hj hij hk hi c0;subst e;subst hk;rw[opC_z];have c1:Spec Tryz.prog 99 [.ag [.sc (.bool false),.im [] 0]] (.sc (.bool true)):=c0;have hj':=inT hj;have q1:((i:Int) !=(j:Int))=true:=by simp;omega
  refine qF Tryz.func63 Tryz.ntmps63 λB hB=> ?_;refine qWf @q1 ?_;exact qE Tryz.results63
 ·obtain⟨kd,i,j,k⟩:=o;simp only at e hj hk hi c0;subst e;subst hk;subst hj;rw[opC_z];have c1:Spec Tryz.prog 99 [.ag [.sc (.bool false),.im [] 0]] (.sc (.bool true)):=c0;refine qF Tryz.func63 Tryz.ntmps63 λB hB=> ?_;refine qW ?_;exact qE Tryz.results63
 ·obtain⟨kd,i,j,k⟩:=o;simp only at e hj hij hi c0;subst e;have hj':=inT hj;have q1:((i:Int) !=(j:Int))=true:=by simp;omega
  unfold iv sv at c0;unfold opC sv;simp only;refine qF Tryz.func63 Tryz.ntmps63 λB hB=> ?_;refine qWf @q1 ?_;exact qE Tryz.results63
theorem lvalid_s{n:Nat}{l:List OpL}(hl: ∀o∈l,OkOp n o)(hlen:l.length<=1000000000):Spec Tryz.prog 34 [.im (opsC l) l.length,.sc (.int .i64 n)] (.sc (.bool true)):=by
 refine qF Tryz.func34 Tryz.ntmps34 λB hB=> ?_;refine qW ?_;refine SC.loop (λk:Nat=>⟨[(0,.im (opsC l) l.length),(1,.sc (.int .i64 n)),(5,.sc (.int .i64 k))],[],0,19⟩)
  (λk=>k<=l.length) (λk=>l.length-k) 0 ?_ ?_ ?_
 ·exact qM
 ·exact znc _
 ·intro k hk K hK;by_cases hc:k<l.length
  ·have q1:decide ((k:Int)<(l.length:Int))=true:=decide_eq_true om;have g1:=opsC_drop hc;have g2:k*5<(opsC l).length:=by rw[opsC_len];omega
   have c1:=lvalidop_s (hl _ (getD_mem (d:=⟨0,0,0,0⟩) hc));generalize l.getD k ⟨0,0,0,0⟩=op at*;generalize(opsC l).drop ((k+1)*5)=D at*;obtain⟨kd,i,j,f⟩:=op;unfold opC sv at c1 g1;simp only[zl8,zl7]at g1;simp only at c1;refine qWf (Q3 @q1 @g1 @g2) ?_;refine hK _ (k+1) ?_ om om;exact qM
  ·have q1:decide ((k:Int)<(l.length:Int))=false:=decide_eq_false om;refine qWf @q1 ?_;exact qE Tryz.results34
end
section
open Go.RowKit
theorem wk_only{p oM oU oV h w nx:Nat}{a b c:List Nat}{W:List (List Int)}{P:Nat->Prop}(hP: ∀i∈p::oM::oU::oV::(a++b++c),P i):OnlyH P (wkH p oM oU oV h w a b c W):=by
 have l2:P oM:=hP _ (by simp);have l3:P oU:=hP _ (by simp);have l4:P oV:=hP _ (by simp);have lr: ∀i∈a++b++c,P i:=λi hi=>hP i (by simp only[List.mem_cons];exact .inr (.inr (.inr (.inr hi))));refine⟨λy hy=> ?_,λy hy=> ?_,λy hy=> ?_,λy hy=> ?_,OnlyH.rows (rI_clo W)⟩
 ·simp only[workC,List.mem_cons,List.not_mem_nil,or_false]at hy;rcases hy with rfl|rfl|rfl|rfl|rfl|rfl|rfl|rfl|rfl<;>first|exact .sc _|exact .sl l2|exact .sl l3|exact .sl l4
 ·obtain⟨q,hq,rfl⟩:=List.mem_map.1 hy;exact .sl (lr q (List.mem_append_left _ (List.mem_append_left _ hq)))
 ·obtain⟨q,hq,rfl⟩:=List.mem_map.1 hy;exact .sl (lr q (List.mem_append_left _ (List.mem_append_right _ hq)))
 ·obtain⟨q,hq,rfl⟩:=List.mem_map.1 hy;exact .sl (lr q (List.mem_append_right _ hq))
theorem wk_in{p oM oU oV h w nx:Nat}{a b c:List Nat}{W:List (List Int)}{P:Nat->Prop}(hP: ∀i∈p::oM::oU::oV::(a++b++c),P i): ∀id k,hget (wkH p oM oU oV h w a b c W) id=some k->P id:=by
 intro id k hk;unfold wkH at hk;simp only[hget]at hk;split at hk;·rename_i e;exact hP _ (by simp[e])
 split at hk;·rename_i e;exact hP _ (by simp[e])
 split at hk;·rename_i e;exact hP _ (by simp[e])
 split at hk;·rename_i e;exact hP _ (by simp[e])
 ·obtain⟨q,q1,_,q3,_⟩:=rows_inv hk;rw[<-q3];exact hP _ (by simp only[List.mem_cons];exact .inr (.inr (.inr (.inr (getD_mem' q1)))))
theorem workQ_new{h w nx:Nat}{W:List (List Int)}{x:V}{hp':List (Nat×Blk)}{nx':Nat}(hq:WorkQ h w W nx x hp' nx'):Only (λi=>nx<=i) x/\OnlyH (λi=>nx<=i) hp'/\ ∀id k,hget hp' id=some k->nx<=id:=by obtain⟨p,oM,oU,oV,a,b,c,hw,rfl,rfl⟩:=hq;have hP: ∀i∈p::oM::oU::oV::(a++b++c),nx<=i:=λi hi=>(hw.rng i hi).1;exact⟨.pt (hP _ (by simp)),wk_only (nx:=0) hP,wk_in (nx:=0) hP⟩
theorem swapSub{p oM oU oV h nx i j:Nat}{a b c:List Nat}(hI:WIds p oM oU oV a b c h nx)(hi:i<h)(hj:j<h): ∀x∈swapN a i j++swapN b i j++c,x∈a++b++c:=by
 have la:=hI.la;have lb:=hI.lb;have lc:=hI.lc
 obtain⟨_,_,_,_,_,_,_,_,_,_,n5⟩:=nodup_four hI.nod;have hll:(a++b++c).length=3*h:=by rw[zl1,zl1];omega
 have lr: ∀x∈a++b++c,x<nx:=λx hx=>hI.rng x (by simp only[List.mem_cons];exact .inr (.inr (.inr (.inr hx))));have s1:=nodup_swap (i:=i) (j:=j) lr n5 om om;have s2:=nodup_swap (i:=h+i) (j:=h+j) (λx hx=>lr x (s1.2 x hx)) s1.1 (by rw[swapN_len];omega) (by rw[swapN_len];omega);rw[hI.swapL hi hj]at s2;exact λx hx=>s1.2 x (s2.2 x hx)
theorem not2{b0 b1:Blk}: ∀id k,hget [(1,b1),(0,b0)] id=some k-> ¬2<=id:=by
 intro id k hk;simp only[hget]at hk;split at hk;·omega
 split at hk;·omega
 ·cases hk
set_option maxRecDepth 8000 in
theorem lapply_s{h w K:Nat}{M:List (List Int)}{l:List OpL}(hM:MI h w K M)(hl: ∀o∈l,OkOp h o)(hS: ∀i,i<=l.length->WI h w K (actsW h (M++idL h++idL h) (l.take i)))(hK:K<=40000000000)(hll:l.length<=1000000000)(hn:h<=1000000)(hw:w<=1000000):
  Spec Tryz.prog 35 [.im (opsC l) l.length,mat w M] (.tu [mat w (actsO M l),.sc (.int .i64 0)]):=by
 have hml:=hM.len;have c1:=lvalid_s hl om;have c2:=hstart_q 2 hM om hn hw;have hW0:=hS 0 (znc _);rw[zl4]at hW0;have hW0:WI h w K (M++idL h++idL h):=hW0;have eF:(actsW h (M++idL h++idL h) l).take h=actsO M l:=by rw[actsW_take hW0 hl,work0_take hM]
 have e0:actsW h (M++idL h++idL h) (l.drop 0)=actsW h (M++idL h++idL h) l:=rfl;have hFM:=(hS l.length (znb _)).take;rw[List.take_length,eF]at hFM;have hFl:=hFM.len;generalize hFF:actsW h (M++idL h++idL h) l=FF at*;generalize hF:actsO M l=F at*;generalize M++idL h++idL h=W0 at*;unfold mat at*;rw[hml]at c2⊢;refine qF Tryz.func35 Tryz.ntmps35 λB hB=> ?_;refine qWD ?_;refine SO.inlQ qS Tab.go64 qS qS (SInlQ.newR c2 ?_ ?_ ?_);·exact klc om (klc om kln)
 ·exact λx hp' nx' h=>workQ_new h
 rintro x hp' nx ⟨p,oM,oU,oV,a0,b0,c0,hWk,rfl,rfl⟩;refine qWD ?_;refine SC.loop (λx:Nat×List (List Int)×List Nat×List Nat=>⟨[(0,.im (opsC l) l.length),(3,.pt 0 0),(4,.pt 1 0),(7,.pt p 0),(8,.sc (.int .i64 x.1))],(1,⟨28,[.sc (.int .i64 0),.sc (.int .i64 0),.sc (.slice none 0 0)],false⟩)::(0,⟨28,[.sc (.int .i64 h),.sc (.int .i64 w),.im (imR w (rI M)) h],false⟩)::wkH p oM oU oV h w x.2.2.1 x.2.2.2 c0 x.2.1,nx,73⟩)
  (λx=>x.1<=l.length/\x.2.1=actsW h W0 (l.take x.1)/\WIds p oM oU oV x.2.2.1 x.2.2.2 c0 h nx/\(∀i∈p::oM::oU::oV::(x.2.2.1++x.2.2.2++c0),2<=i)/\actsW h x.2.1 (l.drop x.1)=FF) (λx=>l.length-x.1) (0,W0,a0,b0) ?_ ?_ ?_
 ·exact qM
 ·exact⟨znc _,rfl,⟨hWk.la,hWk.lb,hWk.lc,hWk.nod,λi hi=>(hWk.rng i hi).2⟩,λi hi=>(hWk.rng i hi).1,e0⟩
 ·rintro⟨i,W,a,b⟩ ⟨hi,hWe,hI,hge,hF2⟩ K2 hK2;simp only at hi hWe hI hge hF2⊢;have hW:=hS i hi;rw[<-hWe]at hW;by_cases hc:i<l.length
  ·have q1:=decide_eq_true (p:=(i:Int)<(l.length:Int)) om;have g1:=opsC_drop hc;have g2:i*5<(opsC l).length:=by rw[opsC_len];omega
   have hok:=hl _ (getD_mem (d:=⟨0,0,0,0⟩) hc);rw[actsW_drop hc]at hF2;have hA':actW h W (l.getD i ⟨0,0,0,0⟩)=actsW h W0 (l.take (i+1)):=by rw[actsW_succ hc,<-hWe]
   have hOL:=OL_le;have hnx:2<nx:=by have:=hge p (by simp);have:=hI.rng p (by simp);omega
   generalize hop:l.getD i ⟨0,0,0,0⟩=op at*;obtain⟨kd,u,v,k⟩:=op;generalize(opsC l).drop ((i+1)*5)=D at*;have hu:=hok.i;have hk:=hok.k;have hcs:=hok.c;simp only at hu hk hcs;unfold opC sv at g1;simp only[zl8,zl7]at g1;rcases hcs with⟨rfl,hv,huv,rfl⟩|⟨rfl,rfl,rfl⟩|⟨rfl,hv,huv⟩
   ·have q3:(((1:Nat):Int)==1)=true:=rfl;have c5:=swap_q hW hI hu hv hn hw;have hI':=hI.swap hu hv;have hge': ∀x∈p::oM::oU::oV::(swapN a u v++swapN b u v++c0),2<=x:=by
     intro x hx;simp only[List.mem_cons]at hx;rcases hx with rfl|rfl|rfl|rfl|hx;·exact hge _ (by simp)
     ·exact hge _ (by simp)
     ·exact hge _ (by simp)
     ·exact hge _ (by simp)
     ·exact hge _ (by simp only[List.mem_cons];exact .inr (.inr (.inr (.inr (swapSub hI hu hv x hx)))))
    (repeat(first|refine DO.nilF (λi=>i+1-nx) (by simp(disch:=omega) only[go_sem,↓reduceIte,zn1,zn2,zn3,zn4,zn5,zn6,reduceCtorEq,zn7,zi1,zi2,if_pos,if_neg,Int.reduceAdd,zld,zle,Option.map_some,Option.map_none,znd,zne,znf]<;>rfl) (by kernel_rfl) ?_|(with_reducible refine SC.condB (qTf (Q4 @q1 @g1 @g2 @q3)) ?_;first|with_reducible refine pickT ?_|with_reducible refine pickF ?_)|(with_reducible refine qO ?_)|((with_reducible apply SC.region);(focus(simp(disch:=omega) only[go_sem,↓reduceIte,zn1,zn2,zn3,zn4,zn5,zn6,reduceCtorEq,zn7,zi1,zi2,if_pos,if_neg,Int.reduceAdd,q1,g1,g2,q3];rfl)))|(with_reducible refine SC.draw Tab.mixed rfl ?_;(repeat(refine DO.run (qTf (Q4 @q1 @g1 @g2 @q3)) ?_));refine DO.nilF (λi=>i+1-nx) (by simp(disch:=omega) only[go_sem,↓reduceIte,zn1,zn2,zn3,zn4,zn5,zn6,reduceCtorEq,zn7,zi1,zi2,if_pos,if_neg,Int.reduceAdd,zld,zle,Option.map_some,Option.map_none,znd,zne,znf]<;>rfl) (by kernel_rfl) ?_)))
    refine SC.drawT 11 (by simp only[zl3,zl4];rfl) (by simp only[zl9,zl2];rfl) Tab.mixed ?_ (by kernel_rfl) ?_;·exact klc (show 1<nx by omega) (klc (show 0<nx by omega) (wk_lt hI))
    refine qWDf (Q2 @g1 @g2) ?_;show SO _ _ _ _ _ _ _;refine SO.inlQ (qSf (Q2 @g1 @g2)) (by rfl) (qSf (Q2 @g1 @g2)) qS (SInlQ.part [(1,_),(0,_)] (λi=>2<=i) c5 not2 (wk_in (nx:=0) hge) ?_ ?_)
    ·rintro x hp' nx' ⟨rfl,rfl,rfl⟩;exact⟨.tu (λ_ h=>by cases h),wk_only (nx:=0) hge',wk_in (nx:=0) hge'⟩
    rintro x hp' nx' ⟨rfl,rfl,rfl⟩;refine qWD ?_;refine hK2 _ (i+1,_,swapN a u v,swapN b u v) ?_ ⟨by simp only;omega,hA',hI',hge',hF2⟩ (by simp only;omega);exact qM
   ·have q3:(((2:Nat):Int)==1)=false:=rfl;have q4:(((2:Nat):Int)==2)=true:=rfl;have c5:=negate_q hW om hI hu hn hw
    (repeat(first|refine DO.nilF (λi=>i+1-nx) (by simp(disch:=omega) only[go_sem,↓reduceIte,zn1,zn2,zn3,zn4,zn5,zn6,reduceCtorEq,zn7,zi1,zi2,if_pos,if_neg,Int.reduceAdd,zld,zle,Option.map_some,Option.map_none,znd,zne,znf]<;>rfl) (by kernel_rfl) ?_|(with_reducible refine SC.condB (qTf (Q5 @q1 @g1 @g2 @q3 @q4)) ?_;first|with_reducible refine pickT ?_|with_reducible refine pickF ?_)|(with_reducible refine qO ?_)|((with_reducible apply SC.region);(focus(simp(disch:=omega) only[go_sem,↓reduceIte,zn1,zn2,zn3,zn4,zn5,zn6,reduceCtorEq,zn7,zi1,zi2,if_pos,if_neg,Int.reduceAdd,q1,g1,g2,q3,q4];rfl)))|(with_reducible refine SC.draw Tab.mixed rfl ?_;(repeat(refine DO.run (qTf (Q5 @q1 @g1 @g2 @q3 @q4)) ?_));refine DO.nilF (λi=>i+1-nx) (by simp(disch:=omega) only[go_sem,↓reduceIte,zn1,zn2,zn3,zn4,zn5,zn6,reduceCtorEq,zn7,zi1,zi2,if_pos,if_neg,Int.reduceAdd,zld,zle,Option.map_some,Option.map_none,znd,zne,znf]<;>rfl) (by kernel_rfl) ?_)))
    refine SC.ops ?_
    repeat(refine SO.run (qTf (Q2 @g1 @g2)) ?_)
    refine SO.inlQ (qSf (Q2 @g1 @g2)) (by rfl) (qSf (Q2 @g1 @g2)) qS (SInlQ.part [(1,_),(0,_)] (λi=>2<=i) c5 not2 (wk_in (nx:=0) hge) ?_ ?_)
    ·rintro x hp' nx' ⟨rfl,rfl,rfl⟩;exact⟨.tu (λ_ h=>by cases h),wk_only (nx:=0) hge,wk_in (nx:=0) hge⟩
    rintro x hp' nx' ⟨rfl,rfl,rfl⟩;refine qWD ?_;refine hK2 _ (i+1,_,a,b) ?_ ⟨by simp only;omega,hA',hI,hge,hF2⟩ (by simp only;omega);exact qM
   ·have q3:(((3:Nat):Int)==1)=false:=rfl;have q4:(((3:Nat):Int)==2)=false:=rfl;have c5:=addto_q hW hk om hI hu hv huv hn hw;unfold iv sv at c5
    (repeat(first|refine DO.nilF (λi=>i+1-nx) (by simp(disch:=omega) only[go_sem,↓reduceIte,zn1,zn2,zn3,zn4,zn5,zn6,reduceCtorEq,zn7,zi1,zi2,if_pos,if_neg,Int.reduceAdd,zld,zle,Option.map_some,Option.map_none,znd,zne,znf]<;>rfl) (by kernel_rfl) ?_|(with_reducible refine SC.condB (qTf (Q5 @q1 @g1 @g2 @q3 @q4)) ?_;first|with_reducible refine pickT ?_|with_reducible refine pickF ?_)|(with_reducible refine qO ?_)|((with_reducible apply SC.region);(focus(simp(disch:=omega) only[go_sem,↓reduceIte,zn1,zn2,zn3,zn4,zn5,zn6,reduceCtorEq,zn7,zi1,zi2,if_pos,if_neg,Int.reduceAdd,q1,g1,g2,q3,q4];rfl)))|(with_reducible refine SC.draw Tab.mixed rfl ?_;(repeat(refine DO.run (qTf (Q5 @q1 @g1 @g2 @q3 @q4)) ?_));refine DO.nilF (λi=>i+1-nx) (by simp(disch:=omega) only[go_sem,↓reduceIte,zn1,zn2,zn3,zn4,zn5,zn6,reduceCtorEq,zn7,zi1,zi2,if_pos,if_neg,Int.reduceAdd,zld,zle,Option.map_some,Option.map_none,znd,zne,znf]<;>rfl) (by kernel_rfl) ?_)))
    refine SC.drawT 16 (by simp only[zl3,zl4];rfl) (by simp only[zl9,zl2];rfl) Tab.mixed ?_ (by kernel_rfl) ?_;·exact klc (show 1<nx by omega) (klc (show 0<nx by omega) (wk_lt hI))
    refine qWDf (Q2 @g1 @g2) ?_;show SO _ _ _ _ _ _ _;refine SO.inlQ (qSf (Q2 @g1 @g2)) (by rfl) (qSf (Q2 @g1 @g2)) qS (SInlQ.part [(1,_),(0,_)] (λi=>2<=i) c5 not2 (wk_in (nx:=0) hge) ?_ ?_)
    ·rintro x hp' nx' ⟨rfl,rfl,rfl⟩;exact⟨.tu (λ_ h=>by cases h),wk_only (nx:=0) hge,wk_in (nx:=0) hge⟩
    rintro x hp' nx' ⟨rfl,rfl,rfl⟩;refine qWD ?_;refine hK2 _ (i+1,_,a,b) ?_ ⟨by simp only;omega,hA',hI,hge,hF2⟩ (by simp only;omega);exact qM
  ·have q1:=decide_eq_false (p:=(i:Int)<(l.length:Int)) om;have hil:i=l.length:=by omega
   have hAF:W=FF:=by rw[<-hF2,hil,List.drop_length];rfl
   subst hAF;obtain⟨z1,z2,z3,z4,z5,z6⟩:=hI.nes;have la:=hI.la;have hFr:=rI_rows hFM;have x1:=hge p (by simp);have x2:=hge oM (by simp);have hWl:=hW.len;have hrow: ∀C D:List V,∀k,k<a.length->hget ((1,(⟨28,C,false⟩:Blk))::(0,⟨28,D,false⟩)::wkH p oM oU oV h w a b c0 W) (a.getD k 0)=some ⟨68,(rI F).getD k [],false⟩:=by intro C D k hk;obtain⟨gR,y1,y2,y3,y4,y5⟩:=hI.row hWl (q:=k) om;have x3:=hge (a.getD k 0) (by simp only[List.mem_cons,List.mem_append];exact .inr (.inr (.inr (.inr (.inl (.inl (getD_mem' hk)))))));rw[hI.iM om]at gR y1 y2 y3 y4 y5;unfold wkH;simp only[hget];rw[if_neg om,if_neg om,if_neg y2,if_neg y3,if_neg y4,if_neg y5,gR,rI_getD,<-eF,take_get om]
   have g1:=slR_len 2 w a;rw[la]at g1;rw[hFl];clear hK2 hF2 c1 c2;by_cases h0:h=0
   ·subst h0;have ha:a=[]:=List.eq_nil_of_length_eq_zero om;have hFe:F=[]:=List.eq_nil_of_length_eq_zero om;subst ha;subst hFe;unfold wkH workC at*
    (repeat(first|refine DO.nilF (λi=>i+1-nx) (by simp(disch:=omega) only[go_sem,↓reduceIte,zn1,zn2,zn3,zn4,zn5,zn6,reduceCtorEq,zn7,zi1,zi2,if_pos,if_neg,Int.reduceAdd,zld,zle,Option.map_some,Option.map_none,znd,zne,znf]<;>rfl) (by kernel_rfl) ?_|(with_reducible refine SC.condB (qTf (Q7 @q1 @z1 @z2 @z3 @z4 @z5 @z6)) ?_;first|with_reducible refine pickT ?_|with_reducible refine pickF ?_)|(with_reducible refine qO ?_)|((with_reducible apply SC.region);(focus(simp(disch:=omega) only[go_sem,↓reduceIte,zn1,zn2,zn3,zn4,zn5,zn6,reduceCtorEq,zn7,zi1,zi2,if_pos,if_neg,Int.reduceAdd,q1,z1,z2,z3,z4,z5,z6];rfl)))|(with_reducible refine SC.draw Tab.mixed rfl ?_;(repeat(refine DO.run (qTf (Q7 @q1 @z1 @z2 @z3 @z4 @z5 @z6)) ?_));refine DO.nilF (λi=>i+1-nx) (by simp(disch:=omega) only[go_sem,↓reduceIte,zn1,zn2,zn3,zn4,zn5,zn6,reduceCtorEq,zn7,zi1,zi2,if_pos,if_neg,Int.reduceAdd,zld,zle,Option.map_some,Option.map_none,znd,zne,znf]<;>rfl) (by kernel_rfl) ?_)))
    exact retQ_ret Tryz.results35 (qSf (Q6 @z1 @z2 @z3 @z4 @z5 @z6)) (qSf (Q6 @z1 @z2 @z3 @z4 @z5 @z6)) rfl
   ·have hsl:=slR_some (z:=2) (m:=w) (ids:=a) om;have hfz:=λC D:List V=>frz_rowsA (n:=4) (z:=2) (m:=w) (ty:=68) (ids:=a) (rs:=rI F) om (by rw[rI_len];omega) (hrow C D) hFr;have ht:(slR 2 w a).take h=slR 2 w a:=zla om;unfold wkH workC at*
    (repeat(first|refine DO.nilF (λi=>i+1-nx) (by simp(disch:=omega) only[go_sem,↓reduceIte,zn1,zn2,zn3,zn4,zn5,zn6,reduceCtorEq,zn7,zi1,zi2,if_pos,if_neg,Int.reduceAdd,zld,zle,Option.map_some,Option.map_none,znd,zne,znf]<;>rfl) (by kernel_rfl) ?_|(with_reducible refine SC.condB (qTf (Q7 @q1 @z1 @z2 @z3 @z4 @z5 @z6)) ?_;first|with_reducible refine pickT ?_|with_reducible refine pickF ?_)|(with_reducible refine qO ?_)|((with_reducible apply SC.region);(focus(simp(disch:=omega) only[go_sem,↓reduceIte,zn1,zn2,zn3,zn4,zn5,zn6,reduceCtorEq,zn7,zi1,zi2,if_pos,if_neg,Int.reduceAdd,q1,z1,z2,z3,z4,z5,z6];rfl)))|(with_reducible refine SC.draw Tab.mixed rfl ?_;(repeat(refine DO.run (qTf (Q7 @q1 @z1 @z2 @z3 @z4 @z5 @z6)) ?_));refine DO.nilF (λi=>i+1-nx) (by simp(disch:=omega) only[go_sem,↓reduceIte,zn1,zn2,zn3,zn4,zn5,zn6,reduceCtorEq,zn7,zi1,zi2,if_pos,if_neg,Int.reduceAdd,zld,zle,Option.map_some,Option.map_none,znd,zne,znf]<;>rfl) (by kernel_rfl) ?_)))
    exact retQ_ret Tryz.results35 (qSf (Q6 @z1 @z2 @z3 @z4 @z5 @z6)) (qSf (Q10 @hfz @hsl @ht @g1 @z1 @z2 @z3 @z4 @z5 @z6)) rfl
end
section
open Go.RowKit
theorem WIds.cell{p oM oU oV h w nx:Nat}{a b c:List Nat}{W:List (List Int)}(hI:WIds p oM oU oV a b c h nx)(hW:WS h w W){i t:Nat}(hi:i<h)(ht:t<w):
  (slR 2 w a)[i]? =some (.sl (a.getD i 0) 0 w 2 none)/\hget (rowsH 68 (a++b++c) (rI W)) (a.getD i 0)=some ⟨68,ivR (W.getD i []),false⟩/\a.getD i 0<nx/\(a.getD i 0=p)=False/\(a.getD i 0=oM)=False/\(a.getD i 0=oU)=False/\(a.getD i 0=oV)=False/\(ivR (W.getD i [])).drop (t*2)=ivC (ent2 W i t)++(ivR (W.getD i [])).drop ((t+1)*2)/\t*2<(ivR (W.getD i [])).length/\(ivR (W.getD i [])).length=2*w:=by
 have hl:=hW.len;have hr:=hW.rowM i hi;have la:=hI.la;obtain⟨gR,y1,y2,y3,y4,y5⟩:=hI.rowF hl (q:=i) om;rw[hI.iM hi]at gR y1 y2 y3 y4 y5;have gl:=ivR_len (W.getD i []);rw[hr]at gl;exact⟨slR_get om,gR,y1,y2,y3,y4,y5,ivR_drop om,by omega,gl⟩
theorem WIds.up{p oM oU oV h nx m:Nat}{a b c:List Nat}(hI:WIds p oM oU oV a b c h nx)(hm:nx<=m):WIds p oM oU oV a b c h m:=⟨hI.la,hI.lb,hI.lc,hI.nod,λi hi=>by have:=hI.rng i hi;omega⟩
end
section
open Go.RowKit
end
section
open Go.RowKit
theorem getE{α:Type}(l:List α)(d:α){i:Nat}(h:i<l.length):l.getD i d=l[i]:=by rw[List.getD_eq_getElem?_getD,zlb h];rfl
def pivI(r:List Int):Int:=if r.findIdx (λx=>x !=0)<r.length then(r.findIdx (λx=>x !=0):Int)else-1
theorem piv_at{r:List Int}{c:Nat}(hc:c<r.length)(hz: ∀k,k<c->r.getD k 0=0)(hn:r.getD c 0≠0):pivI r=c:=by
 have e:r.findIdx (λx=>x !=0)=c:=by
  rw[List.findIdx_eq hc];refine⟨?_,λj hj=> ?_⟩
  ·rw[getE r 0 hc]at hn;simpa using hn
  ·have:=hz j hj;rw[getE r 0 om]at this;simpa using this
 unfold pivI;rw[e,if_pos hc]
theorem piv_no{r:List Int}(hz: ∀k,k<r.length->r.getD k 0=0):pivI r= -1:=by unfold pivI;rw[if_neg];intro h;have h2:=List.findIdx_getElem (p:=λx:Int=>x !=0) (w:=h);have h3:=hz _ h;rw[getE r 0 h]at h3;rw[h3]at h2;simp at h2
theorem pivot_s{r:List Int}{K:Nat}(hf: ∀c,c<r.length->Fits K (r.getD c 0))(hK:K<=100000000000)(hl:r.length<=1000000):Spec Tryz.prog 68 [.im (ivR r) r.length] (.sc (.int .i64 (pivI r))):=by
 have gl:=ivR_len r;refine qF Tryz.func68 Tryz.ntmps68 λB hB=> ?_;refine qW ?_;refine SC.loop (λc:Nat=>⟨[(0,.im (ivR r) r.length),(3,.sc (.int .i64 c))],[],0,17⟩) (λc=>c<=r.length/\ ∀k,k<c->r.getD k 0=0) (λc=>r.length-c) 0 ?_ ⟨znc _,λk hk=>by omega⟩ ?_;·exact qL
 ·rintro c ⟨hc,hz⟩ K1 hK1;by_cases hlt:c<r.length
  ·have q1:=decide_eq_true (p:=(c:Int)<(r.length:Int)) om;have gd:=ivR_drop (l:=r) (i:=c) hlt;have g2:c*2<(ivR r).length:=by omega
   have x0:((c:Int)).toNat=c:=rfl;have c1:=sign_i (r.getD c 0) K (hf c hlt) om;by_cases h0:r.getD c 0=0
   ·have q2:((r.getD c 0).sign !=0)=false:=by rw[h0];rfl
    have hz2: ∀k,k<c+1->r.getD k 0=0:=λk hk=>by
     by_cases e:k=c;·rw[e];exact h0
     ·exact hz k om
    generalize r.getD c 0=z at*;unfold iv sv at c1;unfold ivC sv at gd;simp only[zl8,zl7]at gd;refine qWf (Q6 @q1 @q2 @x0 @gl @gd @g2) ?_;refine hK1 _ (c+1) ?_ ⟨by omega,hz2⟩ om;exact qL
   ·have q2:((r.getD c 0).sign !=0)=true:=by rw[bne_iff_ne];intro e;exact h0 (Int.sign_eq_zero_iff_zero.1 e)
    rw[piv_at hlt hz h0];generalize r.getD c 0=z at*;unfold iv sv at c1;unfold ivC sv at gd;simp only[zl8,zl7]at gd;refine qWf (Q6 @q1 @q2 @x0 @gl @gd @g2) ?_;exact qE Tryz.results68
  ·have q1:=decide_eq_false (p:=(c:Int)<(r.length:Int)) om;rw[piv_no λk hk=>hz k om];refine qWf @q1 ?_;exact qE Tryz.results68
end
section
open Go.RowKit
theorem form_ex{h w K:Nat}{A:List (List Int)}(hA:MI h w K A)(hh:h<=1000000):
  ∃W' r p K2,ColsE h w 0 0 (A++idL h++idL h) W'/\WS h w W'/\LinI h w A W'/\IsH h w (ent2 W') r p/\Gb h W' (λ_=>4294967296^K2) (λ_=>4294967296^K2)/\(K2+1)*fact (h-r+1)<=(K+1)*fact (h+1):=by
 have hI:=form_start hA;obtain⟨W',hE⟩:=ColsE.ex hh w (znb _) hI;obtain⟨c',top',p',hd,hI'⟩:=hE.inv hh hI;obtain⟨K2,hG,hK⟩:=hI'.bd;exact⟨W',top',p',K2,hE,hI'.ws,hI'.lin,hI'.hs.isH hd,hG,hK⟩
end
section
theorem SubL.trans{h w:Nat}{M N P:Nat->Nat->Int}(h1:SubL h w M N)(h2:SubL h w N P):SubL h w M P:=by
 intro i hi;obtain⟨c,hc⟩:=h2 i hi;have hch: ∀s:Nat,∃d:Nat->Int,s<h-> ∀j,j<w->N s j=dotI d (λt=>M t j) h:=λs=>by
  by_cases hs:s<h;·obtain⟨d,hd⟩:=h1 s hs;exact⟨d,λ_=>hd⟩
  ·exact⟨λ_=>0,λe=>absurd e hs⟩
 refine⟨λt=>dotI c (λs=>(hch s).choose t) h,λj hj=> ?_⟩;rw[dot_dot,hc j hj];exact dot_congr λs hs=>⟨rfl,by rw[(hch s).choose_spec hs j hj]⟩
section
variable {h w N:Nat} {A W:List (List Int)} {o:OpL}
theorem actW_lin(hL:LinI h w A W)(hW:WS h w W)(ho:OkI h o):LinI h w A (actW h W o)/\WS h w (actW h W o):=by
 have hi:=ho.i;unfold actW;rcases ho.c with⟨e,hj,hij,_⟩|⟨e,_,_⟩|⟨e,hj,hij⟩;·rw[if_pos e];exact⟨hL.swap hW hi hj hij,swapW_ws hW hi hj⟩
 ·rw[if_neg om,if_pos e];exact⟨hL.neg hW hi,negW_ws hW hi⟩
 ·rw[if_neg om,if_neg om];exact⟨hL.add hW hi hj hij,addW_ws hW hi hj⟩
theorem actW_bd(hW:WS h w W)(ho:OkI h o)(hB: ∀q t,q<3*h->(ent2 W q t).natAbs<=N): ∀q t,q<3*h->(ent2 (actW h W o) q t).natAbs<=N*(1+o.k.natAbs):=by
 intro q t hq;have hi:=ho.i;have hN:N<=N*(1+o.k.natAbs):=Nat.le_mul_of_pos_right _ om;have hadd: ∀a b c d:Nat,a<3*h->c<3*h->((ent2 W a b)+o.k*ent2 W c d).natAbs<=N*(1+o.k.natAbs):=λa b c d ha hc=>by have:=abs_addmul (hB a b ha) (hB c d hc) (znb o.k.natAbs);rw[Nat.mul_add,zn8,Nat.mul_comm N];exact this
 have hsub: ∀a b c d:Nat,a<3*h->c<3*h->((ent2 W a b)-o.k*ent2 W c d).natAbs<=N*(1+o.k.natAbs):=λa b c d ha hc=>by
  have e:(o.k*ent2 W c d).natAbs<=o.k.natAbs*N:=by rw[Int.natAbs_mul];exact Nat.mul_le_mul_left _ (hB c d hc)
  have:=hB a b ha;rw[Nat.mul_add,zn8,Nat.mul_comm N];omega
 unfold actW;rcases ho.c with⟨e,hj,hij,_⟩|⟨e,_,_⟩|⟨e,hj,hij⟩
 ·rw[if_pos e,swapW_ent hW hi hj hq];split
  ·rename_i h1;have:=swi_lt hi hj h1;exact Nat.le_trans (hB _ t om) hN
  ·split
   ·have:=swi_lt (q:=q-h) hi hj om;exact Nat.le_trans (hB _ t om) hN
   ·exact Nat.le_trans (hB q _ hq) hN
 ·rw[if_neg om,if_pos e,negW_ent hW hi hq];split;·rw[Int.natAbs_neg];exact Nat.le_trans (hB q t hq) hN
  ·exact Nat.le_trans (hB q t hq) hN
 ·rw[if_neg om,if_neg om,addW_ent hW hi hj hq];split;·exact hadd _ _ _ _ om om
  ·split;·exact hadd _ _ _ _ om om
   ·split;·exact hsub _ _ _ _ hq hq
    ·exact Nat.le_trans (hB q t hq) hN
theorem actsW_all: ∀{l:List OpL} {N:Nat} {W:List (List Int)},LinI h w A W->WS h w W->(∀o∈l,OkI h o)->(∀q t,q<3*h->(ent2 W q t).natAbs<=N)->
  LinI h w A (actsW h W l)/\WS h w (actsW h W l)/\ ∀q t,q<3*h->(ent2 (actsW h W l) q t).natAbs<=N*prd l
 |[],N,W,hL,hW,_,hB=>⟨hL,hW,λq t hq=>by rw[prd,zn8];exact hB q t hq⟩
 |o::l,N,W,hL,hW,ho,hB=>by obtain⟨h1,h2⟩:=actW_lin hL hW (ho o (by simp));have:=actsW_all (l:=l) h1 h2 (λp hp=>ho p (by simp[hp])) (actW_bd hW (ho o (by simp)) hB);rw[prd,<-Nat.mul_assoc];exact this
theorem ws_wi{K:Nat}(hW:WS h w W)(hB: ∀q t,q<3*h->(ent2 W q t).natAbs<=N)(hK:N<4294967296^K):WI h w K W:=by
 refine⟨hW.len,hW.rowM,hW.rowU,λq t=> ?_⟩;by_cases hq:q<3*h;·exact Nat.lt_of_le_of_lt (hB q t hq) hK
 ·have:=hW.len;have e:W.getD q []=[]:=by rw[List.getD_eq_getElem?_getD,List.getElem?_eq_none om];rfl
  rw[e];show Nat.lt _ _;have:([]:List Int).getD t 0=0:=by simp
  rw[this];exact Nat.lt_of_le_of_lt (znc _) hK
end
theorem invL_prd: ∀l:List OpL,prd (invL l)=prd l
 |[]=>rfl
 |o::l=>by rw[invL_cons,prd_app,invL_prd l];show prd l*((1+(-o.k).natAbs)*1)=(1+o.k.natAbs)*prd l;rw[zn8,Int.natAbs_neg,Nat.mul_comm]
theorem invL_okI{h:Nat}{l:List OpL}(hl: ∀o∈l,OkI h o): ∀o∈invL l,OkI h o:=λo ho=>by
 unfold invL at ho;obtain⟨p,hp,rfl⟩:=List.mem_map.1 (List.mem_reverse.1 ho);obtain⟨h1,h2⟩:=hl p hp;refine⟨h1,?_⟩;rcases h2 with⟨a,b,c,d⟩|⟨a,b,c⟩|⟨a,b,c⟩;·exact .inl ⟨a,b,c,by show-p.k=0;rw[d];rfl⟩
 ·exact .inr (.inl ⟨a,b,by show-p.k=0;rw[c];rfl⟩)
 ·exact .inr (.inr ⟨a,b,c⟩)
end
end Go.Proofs.YtannldafjkjjbaaGreat
