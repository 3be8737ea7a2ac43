/- Texts joined: Van Qg Qh Jl Jo Qi Qj Qk Jp Ql Qm Ti Ra Rb Lq. -/
import Derived.Defers
import Derived.Recover
import Derived.Tactics
import Derived.Test.YtannldafjkjjbaaGreatVd
import Derived.Test.YtannldafjkjjbaaGreatVe
import Derived.Test.YtannldafjkjjbaaGreatVf
set_option linter.all false
set_option maxHeartbeats 16000000
open Nat renaming reduceEqDiff → zn1, reduceLT → zn2, reduceLeDiff → zn3, reduceAdd → zn4, reduceMul → zn5, reduceSub → zn6, reduceBEq → zn7, mul_one → zn8, zero_add → zn9, one_mul → zna, le_refl → znb, zero_le → znc, add_sub_cancel_left → znd, sub_eq_zero_of_le → zne, add_assoc → znf
open Int renaming reduceToNat → zi1, reducePow → zi2
open List renaming length_append → zl1, drop_zero → zl2, take_succ_cons → zl3, take_zero → zl4, getElem?_drop → zl5, append_assoc → zl6, nil_append → zl7, cons_append → zl8, drop_succ_cons → zl9, take_of_length_le → zla, getElem?_eq_getElem → zlb, getElem?_eq_some_iff → zlc, map_cons → zld, map_nil → zle, all_eq_true → zlf
namespace Go.Proofs.YtannldafjkjjbaaGreat
section
open Go.RowKit
theorem val_take_set{z:List Nat}{i y:Nat}(h:i<z.length):val ((z.set i y).take (i+1))=val (z.take i)+4294967296^i*y:=by
 rw[val_take_succ',List.take_set_of_le (znb _)]
 congr 2
 simp[List.getD_eq_getElem?_getD,h]
theorem val_take_all(z:List Nat){n:Nat}(h:z.length<=n):val (z.take n)=val z:=by rw[zla h]
theorem val_snoc_set{z:List Nat}{n y:Nat}(h:z.length=n+1):val (z.set n y)=val (z.take n)+4294967296^n*y:=by
 rw[<-val_take_set om,val_take_all];simp;omega
theorem val_last{z:List Nat}{n:Nat}(h:z.length=n+1):val z=val (z.take n)+4294967296^n*z.getD n 0:=by
 rw[<-val_take_succ',val_take_all];omega
theorem drop_set_ge{z:List Nat}{i j y:Nat}(h:i<j):(z.set i y).drop j=z.drop j:=List.drop_set_of_lt h
theorem getD_of_drop{u z:List Nat}{i:Nat}(h:z.drop i=u.drop i):z.getD i 0=u.getD i 0:=by
 have h1:(z.drop i)[0]? =(u.drop i)[0]? :=by rw[h]
 simp only[zl5,Nat.add_zero]at h1
 simp[List.getD_eq_getElem?_getD,h1]
theorem drop_next{u z:List Nat}{i:Nat}(h:z.drop i=u.drop i):z.drop (i+1)=u.drop (i+1):=by
 rw[<-List.drop_drop,<-List.drop_drop,h]
def shiftInv(x:List Nat)(p i c:Nat)(z:List Nat):Prop:=z.length=x.length+1/\limbs z/\c<p/\val (z.take i)+4294967296^i*c=val (x.take i)*p
theorem shiftInv.step{x z:List Nat}{p i c d w:Nat}(h:shiftInv x p i c z)(hi:i<x.length)(hd:x.getD i 0=d)(hd2:d<4294967296)(hw:w=c+d*p)(hp:p<=4294967296):shiftInv x p (i+1) (w/4294967296) (z.set i (w % 4294967296))/\w<4294967296*p:=by
 obtain⟨h1,h2,h3,h4⟩:=h
 have hlt:w<4294967296*p:=by
  have:d*p<=4294967295*p:=Nat.mul_le_mul_right _ om
  omega
 refine⟨⟨by simp[h1],limbs_set h2 _ om,Nat.div_lt_of_lt_mul hlt,?_⟩,hlt⟩
 rw[val_take_set om,val_take_succ',hd,Nat.pow_succ,Nat.add_mul,<-h4,Nat.mul_assoc]
 have e:4294967296^i*w=4294967296^i*(w % 4294967296)+4294967296^i*(4294967296*(w/4294967296)):=by
  rw[<-Nat.mul_add];congr 1;omega
 have e2:4294967296^i*w=4294967296^i*c+4294967296^i*(d*p):=by rw[hw,Nat.mul_add]
 rw[Nat.mul_assoc]
 omega
theorem shiftInv.done{x z:List Nat}{p c:Nat}(h:shiftInv x p x.length c z):val (z.set x.length c)=val x*p:=by
 obtain⟨h1,h2,h3,h4⟩:=h
 rw[val_snoc_set h1,h4,List.take_length]
def UU(u0 u1 u2 ul M:Nat):Nat:=((u0*4294967296+u1)*4294967296+u2)*M+ul
def VV(v1 v2 vl M:Nat):Nat:=(v1*4294967296+v2)*M+vl
theorem val_top3{u:List Nat}{k:Nat}(h:u.length=k+3):val u=UU (u.getD (k+2) 0) (u.getD (k+1) 0) (u.getD k 0) (val (u.take k)) (4294967296^k):=by
 have p1:4294967296^(k+2)=4294967296^k*4294967296*4294967296:=by rw[Nat.pow_succ,Nat.pow_succ]
 have p2:4294967296^(k+1)=4294967296^k*4294967296:=by rw[Nat.pow_succ]
 rw[val_last (n:=k+2) h,val_take_succ',val_take_succ',p1,p2]
 unfold UU
 generalize u.getD (k+2) 0=a
 generalize u.getD (k+1) 0=b
 generalize u.getD k 0=c
 generalize val (u.take k)=d
 generalize 4294967296^k=M
 have e1:M*4294967296*4294967296*a=(M*a)*(4294967296*4294967296):=by ac_rfl
 have e2:M*4294967296*b=(M*b)*4294967296:=by ac_rfl
 have e3:((a*4294967296+b)*4294967296+c)*M=(M*a)*(4294967296*4294967296)+(M*b)*4294967296+M*c:=by
  rw[Nat.add_mul,Nat.add_mul,Nat.add_mul];ac_rfl
 omega
theorem val_top2{v:List Nat}{k:Nat}(h:v.length=k+2):val v=VV (v.getD (k+1) 0) (v.getD k 0) (val (v.take k)) (4294967296^k):=by
 rw[val_last (n:=k+1) h,val_take_succ',Nat.pow_succ]
 unfold VV
 generalize v.getD (k+1) 0=b
 generalize v.getD k 0=c
 generalize val (v.take k)=d
 generalize 4294967296^k=M
 have e2:M*4294967296*b=(M*b)*4294967296:=by ac_rfl
 have e3:(b*4294967296+c)*M=(M*b)*4294967296+M*c:=by
  rw[Nat.add_mul];ac_rfl
 omega
theorem top_le{u0 u1 u2 ul v1 v2 vl M:Nat}(hM:0<M)(hu:UU u0 u1 u2 ul M<4294967296*VV v1 v2 vl M)(hvl:vl<M)(h2:v2<4294967296):u0<=v1:=by
 refine Nat.le_of_lt_succ ?_
 have h3:u0*4294967296*4294967296*M<=UU u0 u1 u2 ul M:=by
  unfold UU
  refine Nat.le_trans ?_ (Nat.le_add_right _ _)
  refine Nat.mul_le_mul_right _ ?_
  omega
 have h4:VV v1 v2 vl M<(v1+1)*4294967296*M:=by
  unfold VV
  have:(v1*4294967296+v2+1)*M<=(v1+1)*4294967296*M:=Nat.mul_le_mul_right _ om
  rw[Nat.add_mul _ 1]at this
  omega
 have h5:u0*4294967296*4294967296*M<4294967296*((v1+1)*4294967296*M):=by omega
 have h6:u0*(4294967296*4294967296*M)<(v1+1)*(4294967296*4294967296*M):=by
  have a1:u0*(4294967296*4294967296*M)=u0*4294967296*4294967296*M:=by ac_rfl
  have a2:(v1+1)*(4294967296*4294967296*M)=4294967296*((v1+1)*4294967296*M):=by ac_rfl
  rw[a1,a2];exact h5
 exact Nat.lt_of_mul_lt_mul_right h6
theorem guess_down{u0 u1 u2 ul v1 v2 vl M q r Q:Nat}(hul:ul<M)(hq:q*v1+r=u0*4294967296+u1)(hQ:Q*VV v1 v2 vl M<=UU u0 u1 u2 ul M)(hQb:Q<4294967296)(hle:Q<=q)
  (ht:4294967295<q\/r*4294967296+u2<q*v2):Q<=q-1/\1<=q:=by
 rcases Nat.lt_or_ge Q q with h|h
 ·omega
 ·exfalso
  have e:Q=q:=by omega
  subst e
  rcases ht with ht|ht
  ·omega
  ·have h1:Q*((v1*4294967296+v2)*M)<=Q*VV v1 v2 vl M:=Nat.mul_le_mul_left _ (by unfold VV;omega)
   have h2:UU u0 u1 u2 ul M<((u0*4294967296+u1)*4294967296+u2+1)*M:=by unfold UU;rw[Nat.add_mul _ 1];omega
   have h3:Q*(v1*4294967296+v2)*M<((u0*4294967296+u1)*4294967296+u2+1)*M:=by rw[Nat.mul_assoc];omega
   have h4:=Nat.lt_of_mul_lt_mul_right h3
   rw[<-hq,Nat.mul_add]at h4
   have e2:Q*(v1*4294967296)=Q*v1*4294967296:=by ac_rfl
   omega
theorem guess_end{u0 u1 u2 ul v1 v2 vl M q r:Nat}(hM:0<M)(hvl:vl<M)(hv:1<=v1)(hq:q*v1+r=u0*4294967296+u1)(hqb:q<4294967296)(ht:q*v2<=r*4294967296+u2):q*VV v1 v2 vl M<UU u0 u1 u2 ul M+VV v1 v2 vl M:=by
 have h1:q*(v1*4294967296+v2)<=(u0*4294967296+u1)*4294967296+u2:=by
  rw[<-hq,Nat.mul_add]
  have e2:q*(v1*4294967296)=q*v1*4294967296:=by ac_rfl
  omega
 have h2:=Nat.mul_le_mul_right M h1
 have h3:q*vl<=4294967295*M:=Nat.mul_le_mul om om
 have h4:1*4294967296*M<=(v1*4294967296+v2)*M:=Nat.mul_le_mul_right _ om
 have e:q*VV v1 v2 vl M=q*(v1*4294967296+v2)*M+q*vl:=by unfold VV;rw[Nat.mul_add,Nat.mul_assoc]
 unfold UU
 rw[e]
 have:VV v1 v2 vl M=(v1*4294967296+v2)*M+vl:=rfl
 omega
theorem guess_break{u0 u1 v1 q r:Nat}(hu:u0<=v1)(hu1:u1<4294967296)(hv:1<=v1)(hq:q*v1+r=u0*4294967296+u1)(hr:4294967296<=r):q<4294967296:=by
 refine Nat.lt_of_not_le fun h=> ?_
 have:=Nat.mul_le_mul_right v1 h
 omega
theorem guess_first{u0 u1 v1:Nat}(hu:u0<=v1)(hu1:u1<4294967296)(hv:2147483648<=v1):(u0*4294967296+u1)/v1<=4294967297:=by
 refine Nat.le_of_lt_succ (Nat.div_lt_of_lt_mul ?_)
 omega
theorem guess_over{u0 u1 u2 ul v1 v2 vl M Q:Nat}(hul:ul<M)(hM:0<M)(hv1:0<v1)(hu1:u1<4294967296)(hu2:u2<4294967296)(hQ:Q*VV v1 v2 vl M<=UU u0 u1 u2 ul M):Q<=(u0*4294967296+u1)/v1:=by
 rw[Nat.le_div_iff_mul_le hv1]
 have h1:Q*(v1*4294967296*M)<=Q*VV v1 v2 vl M:=Nat.mul_le_mul_left _ (by
  unfold VV;rw[Nat.add_mul];omega)
 have h2:UU u0 u1 u2 ul M<(u0*4294967296+u1+1)*4294967296*M:=by
  have:((u0*4294967296+u1)*4294967296+u2+1)*M<=(u0*4294967296+u1+1)*4294967296*M:=Nat.mul_le_mul_right _ om
  rw[Nat.add_mul _ 1]at this
  unfold UU;omega
 have h3:Q*v1*(4294967296*M)<(u0*4294967296+u1+1)*(4294967296*M):=by
  have a1:Q*v1*(4294967296*M)=Q*(v1*4294967296*M):=by ac_rfl
  have a2:(u0*4294967296+u1+1)*(4294967296*M)=(u0*4294967296+u1+1)*4294967296*M:=by ac_rfl
  rw[a1,a2];omega
 have:=Nat.lt_of_mul_lt_mul_right h3
 omega
def msInv(u v:List Nat)(q i br c:Nat)(z:List Nat):Prop:=
 z.length=u.length/\limbs z/\br<=1/\c<4294967296/\z.drop i=u.drop i/\val (z.take i)+q*val (v.take i)=val (u.take i)+4294967296^i*(c+br)
theorem msInv.step{u v z:List Nat}{q i br c e y w d br':Nat}(h:msInv u v q i br c z)(hi:i<u.length)(he:v.getD i 0=e)(hy:u.getD i 0=y)(he2:e<4294967296)(hy2:y<4294967296)(hq:q<4294967296)
  (hw:w=c+q*e) (hd:d<4294967296) (hb:br'<=1) (hdd:d+w % 4294967296+br=y+4294967296*br'):msInv u v q (i+1) br' (w/4294967296) (z.set i d)/\w<18446744073709551616:=by
 obtain⟨h1,h2,h3,h4,h5,h6⟩:=h
 have hp:q*e<=4294967295*4294967295:=Nat.mul_le_mul om om
 refine⟨⟨by simp[h1],limbs_set h2 _ hd,hb,by omega,?_,?_⟩,by omega⟩
 ·rw[drop_set_ge om];exact drop_next h5
 ·rw[val_take_set om,val_take_succ',val_take_succ',he,hy,Nat.pow_succ]
  have a1:q*(val (v.take i)+4294967296^i*e)=q*val (v.take i)+4294967296^i*(q*e):=by rw[Nat.mul_add];ac_rfl
  have a2:4294967296^i*4294967296*(w/4294967296+br')=4294967296^i*(4294967296*(w/4294967296))+4294967296^i*(4294967296*br'):=by rw[Nat.mul_add];ac_rfl
  have a3:4294967296^i*(d+w % 4294967296+br)=4294967296^i*(y+4294967296*br'):=by rw[hdd]
  have a4:4294967296^i*w=4294967296^i*(w % 4294967296)+4294967296^i*(4294967296*(w/4294967296)):=by rw[<-Nat.mul_add];congr 1;omega
  have a5:4294967296^i*w=4294967296^i*c+4294967296^i*(q*e):=by rw[hw,Nat.mul_add]
  rw[a1,a2]
  rw[Nat.mul_add,Nat.mul_add,Nat.mul_add]at a3
  rw[Nat.mul_add]at h6
  omega
def abInv(u v:List Nat)(i c:Nat)(z:List Nat):Prop:=z.length=u.length/\limbs z/\c<4294967296/\z.drop i=u.drop i/\val (z.take i)+4294967296^i*c=val (u.take i)+val (v.take i)
theorem abInv.step{u v z:List Nat}{i c e y w:Nat}(h:abInv u v i c z)(hi:i<u.length)(he:v.getD i 0=e)(hy:u.getD i 0=y)(he2:e<4294967296)(hy2:y<4294967296)(hw:w=c+(y+e)):
  abInv u v (i+1) (w/4294967296) (z.set i (w % 4294967296)):=by
 obtain⟨h1,h2,h3,h4,h5⟩:=h
 refine⟨by simp[h1],limbs_set h2 _ om,by omega,?_,?_⟩
 ·rw[drop_set_ge om];exact drop_next h4
 ·rw[val_take_set om,val_take_succ',val_take_succ',he,hy,Nat.pow_succ]
  have a2:4294967296^i*4294967296*(w/4294967296)=4294967296^i*(4294967296*(w/4294967296)):=by ac_rfl
  have a4:4294967296^i*w=4294967296^i*(w % 4294967296)+4294967296^i*(4294967296*(w/4294967296)):=by rw[<-Nat.mul_add];congr 1;omega
  have a5:4294967296^i*w=4294967296^i*c+(4294967296^i*y+4294967296^i*e):=by rw[hw,Nat.mul_add,Nat.mul_add]
  rw[a2]
  omega
theorem digit_right{u v z:List Nat}{n q br c:Nat}(hu:u.length=n+1)(hv:v.length=n)(h:msInv u v q n br c z)(hQ:val u/val v<=q)(hV:0<val v)(hc:c+br<=u.getD n 0):
  q=val u/val v/\val (z.set n (u.getD n 0-(c+br)))=val u % val v:=by
 obtain⟨h1,h2,h3,h4,h5,h6⟩:=h
 have hval:val (z.set n (u.getD n 0-(c+br)))+q*val v=val u:=by
  rw[val_snoc_set om,val_last hu]
  rw[val_take_all v om]at h6
  have:4294967296^n*u.getD n 0=4294967296^n*(u.getD n 0-(c+br))+4294967296^n*(c+br):=by rw[<-Nat.mul_add];congr 1;omega
  omega
 have hq:q<=val u/val v:=(Nat.le_div_iff_mul_le hV).2 om
 have hq2:q=val u/val v:=by omega
 refine⟨hq2,?_⟩
 have:=Nat.div_add_mod (val u) (val v)
 rw[<-hq2,Nat.mul_comm]at this
 omega
theorem digit_less{u v z zz:List Nat}{n q br c ca:Nat}(hu:u.length=n+1)(hv:v.length=n)(lu:limbs u)(lv':limbs v)(h:msInv u v q n br c z)(hc:u.getD n 0<c+br)(hQ:val u/val v<=q)(hq:q*val v<val u+val v)(hV:0<val v)
  (z':List Nat) (hz':z'=z.set n ((4294967296+u.getD n 0-(c+br)) % 4294967296)) (ha:abInv z' v n ca zz):1<=q/\q-1=val u/val v/\((4294967296+u.getD n 0-(c+br)) % 4294967296+ca) % 4294967296=0/\val (zz.set n 0)=val u % val v:=by
 obtain⟨h1,h2,h3,h4,h5,h6⟩:=h
 obtain⟨g1,g2,g3,g4,g5⟩:=ha
 have ht:z'.take n=z.take n:=by rw[hz',List.take_set_of_le (znb _)]
 rw[ht,val_take_all v om]at g5
 rw[val_take_all v om]at h6
 have hzl:z'.length=n+1:=by rw[hz'];simp;omega
 have hU:=val_last hu
 have lz:val (zz.take n)<4294967296^n:=by
  have:=val_lt (limbs_take g2 n)
  rwa[List.length_take,Nat.min_eq_left om]at this
 have lV:val v<4294967296^n:=by have:=val_lt lv';rwa[hv]at this
 have lu0:=limbs_getD lu n
 generalize u.getD n 0=t at*
 obtain⟨s,hs⟩: ∃s,c+br=t+s:=⟨c+br-t,by omega⟩
 rw[hs]at h6 hc⊢
 rw[Nat.mul_add]at h6
 have hs1:1<=s:=by omega
 have e1:val u+4294967296^n*s=val (z.take n)+q*val v:=by omega
 have hsl:4294967296^n*1<=4294967296^n*s:=Nat.mul_le_mul_left _ hs1
 have lzt:val (z.take n)<4294967296^n:=by
  have:=val_lt (limbs_take h2 n)
  rwa[List.length_take,Nat.min_eq_left om]at this
 have e2:val u<q*val v:=by omega
 have hq1:1<=q:=by
  rcases Nat.eq_zero_or_pos q with h|h
  ·subst h;omega
  ·exact h
 have e3:q-1=val u/val v:=by
  have a1:val u/val v<q:=(Nat.div_lt_iff_lt_mul hV).2 e2
  have a2:q-1<=val u/val v:=by
   rw[Nat.le_div_iff_mul_le hV,Nat.sub_mul]
   omega
  omega
 have hd:=Nat.div_add_mod (val u) (val v)
 have hm:=Nat.mod_lt (val u) hV
 rw[<-e3,Nat.mul_comm,Nat.sub_mul,zna]at hd
 have hqv:val v<=q*val v:=Nat.le_mul_of_pos_left _ hq1
 have e4:val (zz.take n)+4294967296^n*ca=val u % val v+4294967296^n*s:=by omega
 have e5:ca=s:=by
  have hp:0<4294967296^n:=Nat.pow_pos om
  have b1:=congrArg (· /4294967296^n) e4
  simp only[Nat.add_mul_div_left _ _ hp]at b1
  rw[Nat.div_eq_of_lt lz,Nat.div_eq_of_lt om]at b1
  omega
 subst e5
 refine⟨hq1,e3,?_,?_⟩
 ·omega
 ·rw[val_snoc_set om,Nat.mul_zero,Nat.add_zero];omega
def dvInv(X V n k:Nat)(Z q:List Nat):Prop:=limbs Z/\limbs q/\Z.length=q.length+n/\k<=q.length/\val (Z.drop k)<V/\val Z+4294967296^k*val (q.drop k)*V=X
theorem dvInv.seg{X V n j:Nat}{Z q:List Nat}(h:dvInv X V n (j+1) Z q)(hV:V<4294967296^n):
  val (Z.drop (j+(n+1)))=0/\val ((Z.drop j).take (n+1))=val (Z.drop j)/\val ((Z.drop j).take (n+1))<4294967296*V:=by
 obtain⟨h1,h2,h3,h4,h5,h6⟩:=h
 have hlen:(Z.drop (j+1)).length>=n:=by simp;omega
 have hs:=val_split (Z.drop (j+1)) n om
 rw[List.drop_drop]at hs
 have hz:val (Z.drop (j+1+n))=0:=by
  rcases Nat.eq_zero_or_pos (val (Z.drop (j+1+n)))with e|e
  ·exact e
  ·have:=Nat.mul_le_mul_left (4294967296^n) e
   omega
 have e:j+1+n=j+(n+1):=by omega
 rw[e]at hz
 have hs2:=val_split (Z.drop j) (n+1) (by simp;omega)
 rw[List.drop_drop,hz,Nat.mul_zero,Nat.add_zero]at hs2
 refine⟨hz,hs2.symm,?_⟩
 rw[<-hs2,drop_cons (by omega:j<Z.length)]
 have:=limbs_getD h1 j
 simp only[val]
 have:4294967296*(val (Z.drop (j+1))+1)<=4294967296*V:=Nat.mul_le_mul_left _ h5
 omega
theorem dvInv.step{X V n j:Nat}{Z q z:List Nat}(h:dvInv X V n (j+1) Z q)(hV:V<4294967296^n)(h0:0<V)(hz:limbs z)(hzl:z.length=n+1)(hv:val z=val ((Z.drop j).take (n+1)) % V):
  dvInv X V n j (Z.take j++(z++Z.drop (j+(n+1)))) (q.set j (val ((Z.drop j).take (n+1))/V)):=by
 obtain⟨s1,s2,s3⟩:=h.seg hV
 obtain⟨h1,h2,h3,h4,h5,h6⟩:=h
 have hq:val ((Z.drop j).take (n+1))/V<4294967296:=Nat.div_lt_of_lt_mul (by rw[Nat.mul_comm];exact s3)
 generalize hU:val ((Z.drop j).take (n+1))=U at*
 have hl1:(Z.take j).length=j:=by simp;omega
 have hd:(Z.take j++(z++Z.drop (j+(n+1)))).drop j=z++Z.drop (j+(n+1)):=by
  rw[List.drop_append,hl1,Nat.sub_self,List.drop_eq_nil_of_le om];rfl
 have hvz:val (z++Z.drop (j+(n+1)))=U % V:=by rw[val_append,s1,hv];omega
 refine⟨?_,limbs_set h2 _ hq,?_,by simp;omega,?_,?_⟩
 ·intro x hx
  rcases List.mem_append.1 hx with hx|hx
  ·exact limbs_take h1 _ x hx
  ·rcases List.mem_append.1 hx with hx|hx
   ·exact hz x hx
   ·exact limbs_drop h1 _ x hx
 ·simp;omega
 ·rw[hd,hvz];exact Nat.mod_lt _ h0
 ·rw[val_append,hl1,hvz,drop_set_cons om]
  simp only[val]
  have hZ:=val_split Z j om
  rw[<-s2]at hZ
  rw[hZ,Nat.pow_succ]at h6
  have hdm:=Nat.div_add_mod U V
  have a1:4294967296^j*(U/V+4294967296*val (q.drop (j+1)))*V=4294967296^j*(V*(U/V))+4294967296^j*4294967296*val (q.drop (j+1))*V:=by
   rw[Nat.mul_add,Nat.add_mul];ac_rfl
  have a2:4294967296^j*U=4294967296^j*(V*(U/V))+4294967296^j*(U % V):=by rw[<-Nat.mul_add,hdm]
  rw[a1]
  omega
theorem dvInv.done{x y p n:Nat}{Z q:List Nat}(h:dvInv (x*p) (y*p) n 0 Z q)(hp:0<p)(hy:0<y):val q=x/y/\val Z/p=x % y:=by
 obtain⟨_,_,_,_,h5,h6⟩:=h
 rw[zl2]at h5 h6
 simp only[Nat.pow_zero,zna]at h6
 exact divInv.done (h6.symm:divInv (x*p) (y*p) (val Z) (val q)) hp hy h5
theorem back_limb{Z:List Nat}{i s:Nat}(hZ:limbs Z)(hs:s<=32)(hi:i+1<Z.length):((Z.getD (i+1) 0*4294967296+Z.getD i 0)/2^s) % 4294967296=(val Z/2^s/4294967296^i) % 4294967296:=by
 have hp:0<4294967296^i:=Nat.pow_pos om
 have lt:val (Z.take i)<4294967296^i:=by
  have:=val_lt (limbs_take hZ i)
  rwa[List.length_take,Nat.min_eq_left om]at this
 have e0:val Z/4294967296^i=val (Z.drop i):=by
  rw[val_split Z i om,Nat.add_mul_div_left _ _ hp,Nat.div_eq_of_lt lt,zn9]
 have e:val Z/2^s/4294967296^i=val (Z.drop i)/2^s:=by
  rw[Nat.div_div_eq_div_mul,Nat.mul_comm,<-Nat.div_div_eq_div_mul,e0]
 rw[e,drop_cons om,drop_cons hi]
 simp only[val]
 generalize Z.getD (i+1) 0=a
 generalize Z.getD i 0=c
 generalize val (Z.drop (i+1+1))=W
 obtain⟨t,ht⟩: ∃t,s+t=32:=⟨32-s,by omega⟩
 have hb:4294967296=2^s*2^t:=by rw[<-Nat.pow_add,ht]
 have e1:c+4294967296*(a+4294967296*W)=(a*4294967296+c)+2^s*(2^t*W*4294967296):=by
  have:4294967296*(4294967296*W)=2^s*(2^t*W*4294967296):=by
   have h1:4294967296*(4294967296*W)=2^s*2^t*(4294967296*W):=by rw[<-hb]
   rw[h1]
   ac_rfl
  omega
 rw[e1,Nat.add_mul_div_left _ _ (Nat.pow_pos om),Nat.add_mul_mod_self_right]
end
section
open Go.RowKit
def bl(x:Nat):Nat:=if x=0 then 0 else x.log2+1
theorem bl_lt(x:Nat):x<2^bl x:=by
 unfold bl;split
 ·omega
 ·exact Nat.lt_log2_self
theorem bl_le{x:Nat}(h:x≠0):2^(bl x-1)<=x/\1<=bl x:=by
 unfold bl;rw[if_neg h]
 exact⟨Nat.log2_self_le h,by omega⟩
theorem bl_eq{x L:Nat}(h1:x<2^L)(h2:2^(L-1)<=x)(h3:1<=L):bl x=L:=by
 have hx:x≠0:=by have:=Nat.pow_pos (a:=2) (n:=L-1) om;omega
 obtain⟨a,b⟩:=bl_le hx
 have c:=bl_lt x
 have e1:bl x-1<L:=(Nat.pow_lt_pow_iff_right (a:=2) om).1 om
 have e2:L-1<bl x:=(Nat.pow_lt_pow_iff_right (a:=2) om).1 om
 omega
theorem bl_div{x k:Nat}(h:x/2^k≠0):bl x=bl (x/2^k)+k:=by
 obtain⟨a,b⟩:=bl_le h
 have c:=bl_lt (x/2^k)
 generalize bl (x/2^k)=L at*
 refine bl_eq ?_ ?_ om
 ·rw[Nat.pow_add];exact(Nat.div_lt_iff_lt_mul (Nat.pow_pos om)).1 c
 ·rw[show L+k-1=(L-1)+k by omega,Nat.pow_add];exact(Nat.le_div_iff_mul_le (Nat.pow_pos om)).1 a
theorem bl_le_of{x k:Nat}(h:x<2^k):bl x<=k:=by
 by_cases hx:x=0
 ·subst hx;unfold bl;simp
 ·obtain⟨a,b⟩:=bl_le hx
  have:bl x-1<k:=(Nat.pow_lt_pow_iff_right (a:=2) om).1 om
  omega
def strIx(s:ByteArray)(n:Int):Option V:=if 0<=n then(s[n.toNat]?).map fun b=> .sc (.int .u8 b.toNat)else none
section
variable {P:Program}
@[go_sem] theorem exIndex_str (T:Nat) (s:ByteArray) (k:IntKind) (n:Int):exIndex P T (.sc (.string s)) (.sc (.int k n))=if isStr P T=true then strIx s n else none:=by
 simp only[exIndex,strIx]
 by_cases h1:isStr P T=true<;>by_cases h2:0<=n<;>simp[h1,h2]
end
def tabOk(s:ByteArray):Bool:=(List.range 256).all fun y=>match s[y]?with|some b=>b.toNat==bl y|none=>false
theorem strIx_tab{s:ByteArray}{y:Nat}(hy:y<256)(h:tabOk s=true):strIx s (y:Int)=some (.sc (.int .u8 (bl y:Nat))):=by
 have:=List.all_eq_true.1 h y (List.mem_range.2 hy)
 unfold strIx
 rw[if_pos om,Int.toNat_natCast]
 split at this
 ·rename_i b hb
  rw[hb]
  have e:b.toNat=bl y:=by simpa using this
  simp[e]
 ·cases this
theorem mi16:min 16 32=16:=rfl
theorem mi8:min 8 32=8:=rfl
theorem mi32:min 32 64=32:=rfl
set_option maxRecDepth 100000 in
theorem len32_s(x:Nat)(hx:x<4294967296):Spec Tryz.prog 145 [.sc (.int .u32 x)] (.sc (.int .i64 (bl x:Nat))):=by
 have d1:(x:Int).fdiv 65536=((x/65536:Nat):Int):=by rw[Int.fdiv_eq_ediv_of_nonneg _ om];rfl
 have d2:(x:Int).fdiv 256=((x/256:Nat):Int):=by rw[Int.fdiv_eq_ediv_of_nonneg _ om];rfl
 have d3:((x/65536:Nat):Int).fdiv 256=((x/65536/256:Nat):Int):=by rw[Int.fdiv_eq_ediv_of_nonneg _ om];rfl
 have fin: ∀(y k:Nat),y<256->bl y+k=bl x->k<=24->((k:Int)+(bl y:Nat))=(bl x:Nat):=fun y k _ h _=>by omega
 have hb:bl x<=32:=bl_le_of om
 by_cases h1:65536<=x
 ·have q1:=decide_eq_true (p:=(65536:Int)<=(x:Int)) om
  by_cases h2:256<=x/65536
  ·have q2:=decide_eq_true (p:=(256:Int)<=((x/65536:Nat):Int)) om
   have e1:=bl_div (x:=x) (k:=16) om
   have e2:=bl_div (x:=x/65536) (k:=8) om
   have hy:x/65536/256<256:=by omega
   simp only[Nat.reducePow]at e1 e2
   generalize x/65536/256=y at*
   have hby:bl y<=8:=by omega
   refine qF Tryz.func145 Tryz.ntmps145 fun B hB=> ?_
   refine qYf (Q6 @q1 @q2 @d1 @d3 @mi16 @mi8) ?_
   refine SC.ops ?_
   refine qR ?_
   refine SO.run (by simp(disch:=omega) only[go_sem,↓reduceIte,zn1,zn2,zn3,zn4,zn5,zn6,reduceCtorEq,zn7,zi1,zi2,if_pos,if_neg,Int.reduceAdd];rw[strIx_tab hy];rotate_left;kernel_rfl;simp(disch:=omega) only[go_sem,↓reduceIte,zn1,zn2,zn3,zn4,zn5,zn6,reduceCtorEq,zn7,zi1,zi2,if_pos,if_neg,Int.reduceAdd];rfl) ?_
   refine qR ?_
   refine qY ?_
   refine retQ_ret Tryz.results145 qT qT ?_
   rw[e1,e2];congr 2;omega
  ·have q2:=decide_eq_false (p:=(256:Int)<=((x/65536:Nat):Int)) om
   have e1:=bl_div (x:=x) (k:=16) om
   have hy:x/65536<256:=by omega
   simp only[Nat.reducePow]at e1
   generalize x/65536=y at*
   refine qF Tryz.func145 Tryz.ntmps145 fun B hB=> ?_
   refine qYf (Q5 @q1 @q2 @d1 @mi16 @mi8) ?_
   refine SC.ops ?_
   refine qR ?_
   refine SO.run (by simp(disch:=omega) only[go_sem,↓reduceIte,zn1,zn2,zn3,zn4,zn5,zn6,reduceCtorEq,zn7,zi1,zi2,if_pos,if_neg,Int.reduceAdd];rw[strIx_tab hy];rotate_left;kernel_rfl;simp(disch:=omega) only[go_sem,↓reduceIte,zn1,zn2,zn3,zn4,zn5,zn6,reduceCtorEq,zn7,zi1,zi2,if_pos,if_neg,Int.reduceAdd];rfl) ?_
   refine qR ?_
   refine qY ?_
   refine retQ_ret Tryz.results145 qT qT ?_
   rw[e1];congr 2;omega
 ·have q1:=decide_eq_false (p:=(65536:Int)<=(x:Int)) om
  by_cases h2:256<=x
  ·have q2:=decide_eq_true (p:=(256:Int)<=(x:Int)) om
   have e1:=bl_div (x:=x) (k:=8) om
   have hy:x/256<256:=by omega
   simp only[Nat.reducePow]at e1
   generalize x/256=y at*
   refine qF Tryz.func145 Tryz.ntmps145 fun B hB=> ?_
   refine qYf (Q5 @q1 @q2 @d2 @mi16 @mi8) ?_
   refine SC.ops ?_
   refine qR ?_
   refine SO.run (by simp(disch:=omega) only[go_sem,↓reduceIte,zn1,zn2,zn3,zn4,zn5,zn6,reduceCtorEq,zn7,zi1,zi2,if_pos,if_neg,Int.reduceAdd];rw[strIx_tab hy];rotate_left;kernel_rfl;simp(disch:=omega) only[go_sem,↓reduceIte,zn1,zn2,zn3,zn4,zn5,zn6,reduceCtorEq,zn7,zi1,zi2,if_pos,if_neg,Int.reduceAdd];rfl) ?_
   refine qR ?_
   refine qY ?_
   refine retQ_ret Tryz.results145 qT qT ?_
   rw[e1];congr 2;omega
  ·have q2:=decide_eq_false (p:=(256:Int)<=(x:Int)) om
   have hy:x<256:=by omega
   refine qF Tryz.func145 Tryz.ntmps145 fun B hB=> ?_
   refine qYf (Q2 @q1 @q2) ?_
   refine SC.ops ?_
   refine qR ?_
   refine SO.run (by simp(disch:=omega) only[go_sem,↓reduceIte,zn1,zn2,zn3,zn4,zn5,zn6,reduceCtorEq,zn7,zi1,zi2,if_pos,if_neg,Int.reduceAdd];rw[strIx_tab hy];rotate_left;kernel_rfl;simp(disch:=omega) only[go_sem,↓reduceIte,zn1,zn2,zn3,zn4,zn5,zn6,reduceCtorEq,zn7,zi1,zi2,if_pos,if_neg,Int.reduceAdd];rfl) ?_
   refine qR ?_
   refine qY ?_
   refine retQ_ret Tryz.results145 qT qT ?_
   congr 2;omega
theorem lz32_s(x:Nat)(hx:x<4294967296):Spec Tryz.prog 142 [.sc (.int .u32 x)] (.sc (.int .i64 ((32-bl x:Nat):Int))):=by
 have hb:bl x<=32:=bl_le_of om
 have c1:=len32_s x hx
 refine qF Tryz.func142 Tryz.ntmps142 fun B hB=> ?_
 refine qW ?_
 refine retQ_ret Tryz.results142 qT qT ?_
 congr 2;omega
theorem or_shift(c d s:Nat)(hc:c<2^s)(hw:c+d*2^s<18446744073709551616):bits BinOp.or IntKind.u64 (c:Int) ((d*2^s:Nat):Int)=((c+d*2^s:Nat):Int):=by
 have h:=u64_or_nat c (d*2^s) om om
 have e:c|||d*2^s=c+d*2^s:=by
  have:=Nat.shiftLeft_add_eq_or_of_lt (b:=c) (i:=s) hc d
  rw[Nat.shiftLeft_eq,Nat.or_comm]at this
  omega
 rw[e]at h;exact h
theorem lv_sc(l:List Nat): ∀y∈lv l,∃v,y= .sc v:=by
 intro y hy
 unfold lv at hy
 obtain⟨n,_,rfl⟩:=List.mem_map.1 hy
 exact⟨_,rfl⟩
section
variable {P:Program} {B:Base}
theorem retI_r{fn:Func}{x y:V}{sl:List (Nat×V)}{hp hp':List (Nat×Blk)}{nx nx' nt:Nat}{rs:List ResultVar}(hr:fn.results=rs.toArray)(h1:resG P ⟨sl,hp,nx,nt⟩ rs=some y)(h2:Le B ⟨[(0,y)],hp,nx,1⟩ ⟨[(0,x)],hp',nx',1⟩):retI P fn B x hp' nx' .ret ⟨sl,hp,nx,nt⟩:=retI_ret hr h1 h2
end
theorem shift_n(x:List Nat)(s:Nat)(hx:limbs x)(hs:s<=31)(hm:x.length<=400000000000):NewP Tryz.prog 143 [sv x,.sc (.int .i64 s)] ⟨117,lv (dg (x.length+1) (val x*2^s)),false⟩ 0 (x.length+1) 1 none:=by
 refine NewP.of om (lv_sc _) ?_
 have hN:((x.length:Int)+1).toNat=x.length+1:=by omega
 have hms:min s 64=s:=by omega
 have hp:2^s<=2147483648:=by have:=Nat.pow_le_pow_right (n:=2) om hs;omega
 unfold sv
 refine Inl.run Tryz.func143 rfl Tryz.ntmps143 (by simp) qT fun B hB=> ?_
 refine qYf (Q2 @lv_len @hN) ?_
 refine SC.loop (fun u:Nat×Nat×List Nat=>⟨[(0,.im (lv x) x.length),(1,.sc (.int .i64 s)),(5,.sl 0 0 (x.length+1) 1 none),(6,.sc (.int .u64 u.2.1)),(13,.im (lv x) x.length),(14,.sc (.int .i64 x.length)),(15,.sc (.int .i64 u.1))],[(0,⟨117,lv u.2.2,false⟩)],1,41⟩)
  (fun u=>u.1<=x.length/\shiftInv x (2^s) u.1 u.2.1 u.2.2) (fun u=>x.length-u.1) (0,0,List.replicate (x.length+1) 0) ?_ ?_ ?_
 ·refine qLn0r ?_
  exact LLe.lv (lv_rep _)
 ·exact⟨znc _,by simp,limbs_replicate _,Nat.pow_pos om,by simp[val]⟩
 ·rintro⟨k,c,z⟩ ⟨hk,hI⟩ K hK
  simp only at hk hI⊢
  have hI':=hI
  obtain⟨hzl,hz,hc,_⟩:=hI'
  by_cases hlt:k<x.length
  ·have q1:=decide_eq_true (p:=(k:Int)<(x.length:Int)) om
   have hg:=lv_get hlt
   have hd:=limbs_getD hx k
   have hst:=fun w hw=>hI.step (w:=w) hlt rfl hd hw om
   generalize x.getD k 0=d at*
   have hs1:=hst (c+d*2^s) rfl
   have e1:(d:Int)*2^s=((d*2^s:Nat):Int):=by simp
   have e2:=or_shift c d s hc om
   have hb:d*2^s<18446744073709551616:=by omega
   generalize c+d*2^s=w at*
   generalize d*2^s=m at*
   refine qYf (Q8 @q1 @hms @e1 @e2 @hg @fd32 @lv_len @gD) ?_
   refine hK _ (k+1,w/4294967296,z.set k (w % 4294967296)) ?_ ⟨by simp only;omega,hs1.1⟩ (by simp only;omega)
   refine qLn0r ?_
   exact LLe.lv (lv_set om)
  ·have hkn:k=x.length:=by omega
   subst hkn
   have q1:=decide_eq_false (p:=((x.length:Nat):Int)<(x.length:Int)) om
   have hd:=hI.done
   have hc2:c<4294967296:=by omega
   have he:=dg_eq (limbs_set hz x.length (x:=c) hc2)
   rw[hd,List.length_set,hzl]at he
   have hls:(lv z).set x.length (.sc (.int .u32 (c:Int)))=lv (z.set x.length c):=lv_set rfl
   refine qYf (Q3 @q1 @hls @lv_len) ?_
   refine retI_r Tryz.results143 qT ?_
   rw[he]
   refine qLn0r ?_
   exact LLe.lv rfl
end
section
open Go.RowKit
def seg(U:List Nat)(j:Nat)(z:List Nat):List Nat:=U.take j++(z++U.drop (j+z.length))
section
variable {U z:List Nat} {i j x:Nat}
theorem seg_len(h:j+z.length<=U.length):(seg U j z).length=U.length:=by unfold seg;simp;omega
theorem seg_get(h:j+z.length<=U.length)(hi:i<z.length):(lv (seg U j z))[j+i]? =some (.sc (.int .u32 (z.getD i 0:Nat))):=by
 have e:(seg U j z).getD (j+i) 0=z.getD i 0:=by
  unfold seg
  rw[List.getD_eq_getElem?_getD,List.getD_eq_getElem?_getD,List.getElem?_append_right (by simp;omega),List.length_take,Nat.min_eq_left om,znd,List.getElem?_append_left hi]
 rw[lv_get (by rw[seg_len h];omega),e]
theorem seg_set(h:j+z.length<=U.length)(hi:i<z.length){n:Int}(hn:n=(x:Int)):(lv (seg U j z)).set (j+i) (.sc (.int .u32 n))=lv (seg U j (z.set i x)):=by
 subst hn
 have e:(seg U j z).set (j+i) x=seg U j (z.set i x):=by
  unfold seg
  rw[List.set_append_right _ _ (by simp;omega),List.length_take,Nat.min_eq_left om,znd,List.set_append_left _ _ hi,List.length_set]
 rw[<-e];exact lv_set rfl
theorem seg_self{m:Nat}(h:j+m<=U.length):seg U j ((U.drop j).take m)=U:=by
 unfold seg
 rw[show j+((U.drop j).take m).length=j+m by simp;omega,<-List.drop_drop]
 rw[List.take_append_drop,List.take_append_drop]
end
theorem or_up(r u:Nat)(hr:r<4294967296)(hu:u<4294967296):bits BinOp.or IntKind.u64 ((r:Int)*4294967296) (u:Int)=((r*4294967296+u:Nat):Int):=by
 have h:=u64_or_nat (r*4294967296) u om om
 have e:r*4294967296|||u=r*4294967296+u:=by
  have:=Nat.shiftLeft_add_eq_or_of_lt (b:=u) (i:=32) om r
  rw[Nat.shiftLeft_eq]at this
  exact this.symm
 rw[e]at h
 rw[<-h];simp
theorem SC.meet{P:Program}{B:Base}{α:Type}(I:α->SS)(Inv:α->Prop){id:Nat}{c0:Code}{C cs:List Code}{Q:Exit->SS->Prop}{s:SS}(h: ∀K:SS->Prop,(∀s' z,Le B s' (I z)->Inv z->K s')->SC P B C (blockQ id (thenQ K Q)) s)(k: ∀z,Inv z->SC P B (c0::cs) Q (I z)):SC P B C (blockQ id (thenQ (SC P B (c0::cs) Q) Q)) s:=
 h (SC P B (c0::cs) Q) (fun _ z a b=>SC.weak (by simp) a (k z b))
theorem getD_take{l:List Nat}{m i:Nat}(h:i<m):(l.take m).getD i 0=l.getD i 0:=by
 rw[List.getD_eq_getElem?_getD,List.getD_eq_getElem?_getD,List.getElem?_take,if_pos h]
theorem digit_i(U V:List Nat)(j n:Nat)(hU:limbs U)(hV:limbs V)(hn:2<=n)(hnV:n<=V.length)(hj:j+n+1<=U.length)(hm:U.length<=800000000000)
  (htop:2147483648<=V.getD (n-1) 0) (hlt:val ((U.drop j).take (n+1))<4294967296*val (V.take n)):
  Inl Tryz.prog 144 [.sl 0 j (n+1) 1 none,.sl 1 0 n 1 (some n)] [(0,⟨117,lv U,false⟩),(1,⟨117,lv V,false⟩)] 3
   (.sc (.int .u32 (val ((U.drop j).take (n+1))/val (V.take n):Nat))) [(0,⟨117,lv (seg U j (dg (n+1) (val ((U.drop j).take (n+1)) % val (V.take n)))),false⟩),(1,⟨117,lv V,false⟩)] 3:=by
 obtain⟨k,rfl⟩: ∃k,n=k+2:=⟨n-2,by omega⟩
 rw[show k+2-1=k+1 by omega]at htop
 have hul:((U.drop j).take (k+2+1)).length=k+3:=by simp;omega
 have hvl:(V.take (k+2)).length=k+2:=by simp;omega
 have lu:=limbs_take (limbs_drop hU j) (k+2+1)
 have lw:=limbs_take hV (k+2)
 have hseg:=seg_self (U:=U) (j:=j) (m:=k+2+1) om
 have hvg: ∀i,i<k+2->(V.take (k+2)).getD i 0=V.getD i 0:=fun i hi=>getD_take hi
 have wg: ∀i,i<k+2->(lv V)[i]? =some (.sc (.int .u32 (V.getD i 0:Nat))):=fun i hi=>lv_get om
 generalize(U.drop j).take (k+2+1)=u at*
 generalize V.take (k+2)=v at*
 have g0:=seg_get (U:=U) (z:=u) (j:=j) (i:=k) om om
 have g1:=seg_get (U:=U) (z:=u) (j:=j) (i:=k+1) om om
 have g2:=seg_get (U:=U) (z:=u) (j:=j) (i:=k+2) om om
 rw[hseg]at g0 g1 g2
 have w0:=wg k om
 have w1:=wg (k+1) om
 have i1:(((k+2:Nat):Int)-1).toNat=k+1:=by omega
 have i2:(((k+2:Nat):Int)-2).toNat=k:=by omega
 have tu:=val_top3 (u:=u) (k:=k) hul
 have tv:=val_top2 (v:=v) (k:=k) hvl
 rw[hvg _ om,hvg _ om]at tv
 have b0:=limbs_getD lu (k+2)
 have b1:=limbs_getD lu (k+1)
 have b2:=limbs_getD lu k
 have c1:=limbs_getD hV (k+1)
 have c2:=limbs_getD hV k
 have bul:=val_lt (limbs_take lu k)
 have bvl:=val_lt (limbs_take lw k)
 rw[List.length_take,Nat.min_eq_left om]at bul bvl
 have hM:0<4294967296^k:=Nat.pow_pos om
 generalize hu0:u.getD (k+2) 0=u0 at*
 generalize hu1:u.getD (k+1) 0=u1 at*
 generalize hu2:u.getD k 0=u2 at*
 generalize hv1:V.getD (k+1) 0=v1 at*
 generalize hv2:V.getD k 0=v2 at*
 generalize val (u.take k)=ul at*
 generalize val (v.take k)=vl at*
 generalize hMM:4294967296^k=M at*
 have hul':=hlt
 rw[tu,tv]at hul'
 have hu01:=top_le hM hul' bvl c2
 have hV0:0<val v:=by
  rw[tv];unfold VV
  have:=Nat.mul_le_mul_right M (show 1<=v1*4294967296+v2 by omega)
  omega
 have hQ:=Nat.div_mul_le_self (val u) (val v)
 have hQlt:val u/val v<4294967296:=Nat.div_lt_of_lt_mul (by rw[Nat.mul_comm];exact hlt)
 generalize hQQ:val u/val v=Q at*
 rw[tu,tv]at hQ
 have hq0:=guess_over (u0:=u0) (u1:=u1) bul hM om b1 b2 hQ
 have hq1:=guess_first hu01 b1 htop
 have hqr:=Nat.div_add_mod (u0*4294967296+u1) v1
 have hr0:=Nat.mod_lt (u0*4294967296+u1) (show 0<v1 by omega)
 rw[Nat.mul_comm]at hqr
 generalize hA:(u0*4294967296+u1)/v1=q0 at*
 generalize hB0:(u0*4294967296+u1) % v1=r0 at*
 have e1:=or_up u0 u1 b0 b1
 have e2:((u0*4294967296+u1:Nat):Int).tdiv (v1:Int)=(q0:Nat):=by rw[<-hA];exact(Int.ofNat_tdiv _ _).symm
 have e3:((u0*4294967296+u1:Nat):Int).tmod (v1:Int)=(r0:Nat):=by rw[<-hB0];exact(Int.ofNat_tmod _ _).symm
 refine Inl.run Tryz.func144 rfl Tryz.ntmps144 (by simp) qT fun B hB=> ?_
 refine qYf (Q11 @i1 @i2 @g0 @g1 @g2 @w0 @w1 @e1 @e2 @e3 @mi32) ?_
 refine SC.meet (fun y:Nat=>⟨[(0,.sl 0 j (k+2+1) 1 none),(1,.sl 1 0 (k+2) 1 (some (k+2))),(5,.sc (.int .i64 ((k+2:Nat):Int))),(8,.sc (.int .u64 y))],[(0,⟨117,lv U,false⟩),(1,⟨117,lv V,false⟩)],3,162⟩)
  (fun y=>y<4294967296/\Q<=y/\y*val v<val u+val v) ?_ ?_
 ·intro K0 hK0
  refine SC.loop (fun y:Nat×Nat=>⟨[(0,.sl 0 j (k+2+1) 1 none),(1,.sl 1 0 (k+2) 1 (some (k+2))),(5,.sc (.int .i64 ((k+2:Nat):Int))),(6,.sc (.int .u64 v1)),(8,.sc (.int .u64 y.1)),(9,.sc (.int .u64 y.2))],[(0,⟨117,lv U,false⟩),(1,⟨117,lv V,false⟩)],3,162⟩)
   (fun y=>y.1*v1+y.2=u0*4294967296+u1/\y.2<4294967296/\Q<=y.1/\y.1<=4294967297) (fun y=>y.1) (q0,r0) ?_ ?_ ?_
  ·exact qLn0v
  ·exact⟨hqr,by simp only;omega,hq0,hq1⟩
  ·rintro⟨q,r⟩ ⟨h1,h2,h3,h4⟩ K hK
   simp only at h1 h2 h3 h4⊢
   have hgd:=fun ht=>guess_down (q:=q) (r:=r) (Q:=Q) bul h1 hQ hQlt h3 ht
   have hge:=fun hb ht=>guess_end (q:=q) (r:=r) (u2:=u2) (v2:=v2) (ul:=ul) hM bvl om h1 hb ht
   have hbr:=fun hr=>guess_break (r:=r) hu01 b1 om h1 hr
   have hnx:1<=q->(q-1)*v1+(r+v1)=u0*4294967296+u1:=fun h=>by
    obtain⟨p,rfl⟩: ∃p,q=p+1:=⟨q-1,by omega⟩
    rw[Nat.add_sub_cancel,<-h1,Nat.add_mul];omega
   have hend: ∀q r:Nat,4294967296<=r->q*v1+r=u0*4294967296+u1->Q<=q->q<4294967296/\Q<=q/\q*val v<val u+val v:=fun q r hr h1 h3=>by
    have hb:=guess_break (r:=r) hu01 b1 om h1 hr
    refine⟨hb,h3,?_⟩
    rw[tu,tv]
    have hp:q*v2<=4294967295*4294967295:=Nat.mul_le_mul om om
    exact guess_end (q:=q) (r:=r) (u2:=u2) (v2:=v2) (ul:=ul) hM bvl om h1 hb om
   by_cases hbig:4294967295<q
   ·have q1:=decide_eq_true (p:=(4294967295:Int)<(q:Int)) om
    obtain⟨a1,a2⟩:=hgd (.inl hbig)
    have hn:=hnx a2
    by_cases hr:4294967295<r+v1
    ·have q2:=decide_eq_true (p:=(4294967295:Int)<(r:Int)+(v1:Int)) om
     refine qYf (Q10 @q1 @q2 @i1 @i2 @g0 @g1 @g2 @w0 @w1 @mi32) ?_
     refine hK0 _ (q-1) ?_ ?_
     ·exact qLn0v
     ·exact hend (q-1) (r+v1) om hn a1
    ·have q2:=decide_eq_false (p:=(4294967295:Int)<(r:Int)+(v1:Int)) om
     refine qYf (Q10 @q1 @q2 @i1 @i2 @g0 @g1 @g2 @w0 @w1 @mi32) ?_
     refine hK _ (q-1,r+v1) ?_ ⟨hn,by simp only;omega,a1,by simp only;omega⟩ (by simp only;omega)
     exact qLn0v
   ·have q1:=decide_eq_false (p:=(4294967295:Int)<(q:Int)) om
    have hp:q*v2<=4294967295*4294967295:=Nat.mul_le_mul om om
    have hm':(q:Int)*(v2:Int)=((q*v2:Nat):Int):=by simp
    have hor:=or_up r u2 h2 b2
    by_cases ht:r*4294967296+u2<q*v2
    ·obtain⟨a1,a2⟩:=hgd (.inr ht)
     have hn:=hnx a2
     generalize q*v2=p at*
     have q3:=decide_eq_true (p:=((r*4294967296+u2:Nat):Int)<(p:Int)) om
     by_cases hr:4294967295<r+v1
     ·have q2:=decide_eq_true (p:=(4294967295:Int)<(r:Int)+(v1:Int)) om
      refine qYf (Q13 @q1 @q2 @q3 @hm' @hor @i1 @i2 @g0 @g1 @g2 @w0 @w1 @mi32) ?_
      refine hK0 _ (q-1) ?_ ?_
      ·exact qLn0v
      ·exact hend (q-1) (r+v1) om hn a1
     ·have q2:=decide_eq_false (p:=(4294967295:Int)<(r:Int)+(v1:Int)) om
      refine qYf (Q13 @q1 @q2 @q3 @hm' @hor @i1 @i2 @g0 @g1 @g2 @w0 @w1 @mi32) ?_
      refine hK _ (q-1,r+v1) ?_ ⟨hn,by simp only;omega,a1,by simp only;omega⟩ (by simp only;omega)
      exact qLn0v
    ·have hfin:=hge om om
     generalize q*v2=p at*
     have q3:=decide_eq_false (p:=((r*4294967296+u2:Nat):Int)<(p:Int)) om
     refine qYf (Q12 @q1 @q3 @hm' @hor @i1 @i2 @g0 @g1 @g2 @w0 @w1 @mi32) ?_
     refine hK0 _ q ?_ ⟨by omega,h3,by rw[tu,tv];exact hfin⟩
     exact qLn0v
 ·rintro q ⟨hqb,hq2,hq3⟩
  refine qY ?_
  have hmask: ∀w:Nat,w<18446744073709551616->bits BinOp.and IntKind.u64 (w:Int) 4294967295=((w % 4294967296:Nat):Int):=fun w hw=>by
   have h:=u64_and_nat w 4294967295 hw om
   have e:w&&&4294967295=w % 4294967296:=Nat.and_two_pow_sub_one_eq_mod w 32
   rw[e]at h;exact h
  refine SC.loop (fun y:Nat×Nat×Nat×List Nat=>⟨[(0,.sl 0 j (k+2+1) 1 none),(1,.sl 1 0 (k+2) 1 (some (k+2))),(5,.sc (.int .i64 ((k+2:Nat):Int))),(8,.sc (.int .u64 q)),(10,.sc (.int .u64 y.2.1)),(11,.sc (.int .u64 y.2.2.1)),(74,.sl 1 0 (k+2) 1 (some (k+2))),(75,.sc (.int .i64 ((k+2:Nat):Int))),(76,.sc (.int .i64 y.1))],[(0,⟨117,lv (seg U j y.2.2.2),false⟩),(1,⟨117,lv V,false⟩)],3,162⟩)
   (fun y=>y.1<=k+2/\msInv u v q y.1 y.2.1 y.2.2.1 y.2.2.2) (fun y=>k+2-y.1) (0,0,0,u) ?_ ?_ ?_
  ·rw[hseg]
   exact qLn0v
  ·exact⟨znc _,rfl,lu,by simp only;omega,by simp only;omega,rfl,by simp[val]⟩
  ·rintro⟨i,br,c,z⟩ ⟨hi,hI⟩ K hK
   simp only at hi hI⊢
   have hI':=hI
   obtain⟨hzl,hz,hbr,hc,hdr,_⟩:=hI'
   have hzu:=getD_of_drop hdr
   by_cases hlti:i<k+2
   ·have q1:=decide_eq_true (p:=(i:Int)<((k+2:Nat):Int)) om
    have wi:=wg i hlti
    have hei:=hvg i hlti
    have lei:=limbs_getD hV i
    have gi:=seg_get (U:=U) (z:=z) (j:=j) (i:=i) om om
    rw[hzu]at gi
    have lui:=limbs_getD lu i
    have hst:=fun w d br' hw hd hb hdd=>hI.step (i:=i) (w:=w) (d:=d) (br':=br') om hei rfl lei lui hqb hw hd hb hdd
    generalize V.getD i 0=e at*
    generalize u.getD i 0=y at*
    have hp:q*e<=4294967295*4294967295:=Nat.mul_le_mul om om
    have hm':(q:Int)*(e:Int)=((q*e:Nat):Int):=by simp
    obtain⟨w,hw⟩: ∃w,c+q*e=w:=⟨_,rfl⟩
    have hst:=fun d br'=>hst w d br' hw.symm
    have hwc:(c:Int)+((q*e:Nat):Int)=(w:Int):=by omega
    have hw2:w<18446744073709551616:=by omega
    generalize q*e=p at*
    have hmk:=hmask w hw2
    have hwm:w % 4294967296<4294967296:=by omega
    generalize hmm:w % 4294967296=m at*
    have hsl:=seg_len (U:=U) (z:=z) (j:=j) om
    by_cases hn:(y:Int)-m-br<0
    ·have e3:IntKind.u64.wrap (IntKind.u64.wrap ((y:Int)-m)-br)=(y:Int)-m-br+18446744073709551616:=by
      simp[IntKind.wrap,IntKind.bits,IntKind.signed];omega
     have hs1:=hst (y+4294967296-m-br) 1 om om om
     refine qYf (Q11 @q1 @hm' @hwc @hmk @wi @gi @fd32 @fd63 @e3 @lv_len @hsl) ?_
     refine hK _ (i+1,1,w/4294967296,z.set i (y+4294967296-m-br)) ?_ ⟨by simp only;omega,hs1.1⟩ (by simp only;omega)
     (refine Le.of [] hB (by first|exact⟨znc _,fun _ _=>znc _⟩|(constructor<;>(try simp)<;>(try omega))) ?_ ?_<;>(repeat' (first|exact leSl_nil|exact leHp_nil|refine leSl_cons qT ?_ ?_|refine leHp_cons qT ?_ ?_|exact VLe.junk _|exact VLe.refl rfl|exact VLe.nil_sl _ _ _|exact VLe.int (by first|rfl|omega|(dsimp only;omega))|exact VLe.bool rfl|exact VLe.sl rfl (by first|rfl|omega|(dsimp only;omega)|(simp;done))|exact VLe.cap rfl (by first|rfl|omega|(dsimp only;omega)|(simp;done))|exact VLe.im rfl rfl|exact HLe.new rfl|exact HLe.same rfl (LLe.refl rfl)|refine HLe.same rfl ?_|exact LLe.nil _|exact LLe.refl rfl|exact LLe.cl rfl qS|exact LLe.clR rfl qS|refine LLe.cons ?_ ?_)))
     all_goals first|exact LLe.lv rfl|exact LLe.lv (seg_set om om om)
    ·have e3:IntKind.u64.wrap (IntKind.u64.wrap ((y:Int)-m)-br)=(y:Int)-m-br:=by
      simp[IntKind.wrap,IntKind.bits,IntKind.signed];omega
     have hs1:=hst (y-m-br) 0 om om om
     refine qYf (Q11 @q1 @hm' @hwc @hmk @wi @gi @fd32 @fd63 @e3 @lv_len @hsl) ?_
     refine hK _ (i+1,0,w/4294967296,z.set i (y-m-br)) ?_ ⟨by simp only;omega,hs1.1⟩ (by simp only;omega)
     (refine Le.of [] hB (by first|exact⟨znc _,fun _ _=>znc _⟩|(constructor<;>(try simp)<;>(try omega))) ?_ ?_<;>(repeat' (first|exact leSl_nil|exact leHp_nil|refine leSl_cons qT ?_ ?_|refine leHp_cons qT ?_ ?_|exact VLe.junk _|exact VLe.refl rfl|exact VLe.nil_sl _ _ _|exact VLe.int (by first|rfl|omega|(dsimp only;omega))|exact VLe.bool rfl|exact VLe.sl rfl (by first|rfl|omega|(dsimp only;omega)|(simp;done))|exact VLe.cap rfl (by first|rfl|omega|(dsimp only;omega)|(simp;done))|exact VLe.im rfl rfl|exact HLe.new rfl|exact HLe.same rfl (LLe.refl rfl)|refine HLe.same rfl ?_|exact LLe.nil _|exact LLe.refl rfl|exact LLe.cl rfl qS|exact LLe.clR rfl qS|refine LLe.cons ?_ ?_)))
     all_goals first|exact LLe.lv rfl|exact LLe.lv (seg_set om om om)
   ·have hik:i=k+2:=by omega
    subst hik
    have q1:=decide_eq_false (p:=((k+2:Nat):Int)<((k+2:Nat):Int)) om
    have gi:=seg_get (U:=U) (z:=z) (j:=j) (i:=k+2) om om
    rw[hzu,hu0]at gi
    have hsl:=seg_len (U:=U) (z:=z) (j:=j) om
    by_cases hcb:c+br<=u0
    ·have e3:IntKind.u64.wrap (IntKind.u64.wrap ((u0:Int)-c)-br)=((u0-(c+br):Nat):Int):=by
      simp[IntKind.wrap,IntKind.bits,IntKind.signed];omega
     have q2:(((u0:Int)-c-br)/9223372036854775808==0)=true:=by rw[beq_iff_eq];omega
     obtain⟨d1,d2⟩:=digit_right hul hvl hI om hV0 (by rw[hu0];exact hcb)
     rw[hu0]at d2
     have hz2:=limbs_set hz (k+2) (x:=u0-(c+br)) om
     have hd:=dg_eq hz2
     rw[d2,List.length_set,hzl,hul]at hd
     have hls:=seg_set (U:=U) (z:=z) (j:=j) (i:=k+2) (x:=u0-(c+br)) om om (n:=(u0:Int)-c-br) om
     rw[<-hd]at hls
     have hqQ:q=Q:=d1.trans hQQ
     subst hqQ
     refine qYf (Q8 @q1 @q2 @gi @fd63 @e3 @lv_len @hsl @hls) ?_
     refine retI_r Tryz.results144 qT ?_
     exact qLn0v
    ·have e3:IntKind.u64.wrap (IntKind.u64.wrap ((u0:Int)-c)-br)=(u0:Int)-c-br+18446744073709551616:=by
      simp[IntKind.wrap,IntKind.bits,IntKind.signed];omega
     have q2:((((u0:Int)-c-br+18446744073709551616)/9223372036854775808)==0)=false:=by rw[beq_eq_false_iff_ne];omega
     refine qYf (Q7 @q1 @q2 @gi @fd63 @e3 @lv_len @hsl) ?_
     have hls:=seg_set (U:=U) (z:=z) (j:=j) (i:=k+2) (x:=(4294967296+u0-(c+br)) % 4294967296) om om (n:=((u0:Int)-c-br+18446744073709551616) % 4294967296) om
     have hz2:=limbs_set hz (k+2) (x:=(4294967296+u0-(c+br)) % 4294967296) om
     have hless:=fun z' h zz ca ha=>digit_less (zz:=zz) (ca:=ca) hul hvl lu lw hI (by rw[hu0];omega) om hq3 hV0 z' h ha
     rw[hu0]at hless
     have hless:=hless _ rfl
     have hzl2:(z.set (k+2) ((4294967296+u0-(c+br)) % 4294967296)).length=k+3:=by simp;omega
     have hz2n:(z.set (k+2) ((4294967296+u0-(c+br)) % 4294967296)).getD (k+2) 0=(4294967296+u0-(c+br)) % 4294967296:=by
      rw[List.getD_eq_getElem?_getD,List.getElem?_set_self om];rfl
     have ht:(4294967296+u0-(c+br)) % 4294967296<4294967296:=by omega
     generalize z.set (k+2) ((4294967296+u0-(c+br)) % 4294967296)=z2 at*
     generalize(4294967296+u0-(c+br)) % 4294967296=t at*
     refine qYf @hls ?_
     refine SC.loop (fun y:Nat×Nat×List Nat=>⟨[(0,.sl 0 j (k+2+1) 1 none),(1,.sl 1 0 (k+2) 1 (some (k+2))),(5,.sc (.int .i64 ((k+2:Nat):Int))),(8,.sc (.int .u64 q)),(11,.sc (.int .u64 y.2.1)),(126,.sl 1 0 (k+2) 1 (some (k+2))),(127,.sc (.int .i64 ((k+2:Nat):Int))),(128,.sc (.int .i64 y.1))],[(0,⟨117,lv (seg U j y.2.2),false⟩),(1,⟨117,lv V,false⟩)],3,162⟩)
      (fun y=>y.1<=k+2/\abInv z2 v y.1 y.2.1 y.2.2) (fun y=>k+2-y.1) (0,0,z2) ?_ ?_ ?_
     ·(refine Le.of [] hB (by first|exact⟨znc _,fun _ _=>znc _⟩|(constructor<;>(try simp)<;>(try omega))) ?_ ?_<;>(repeat' (first|exact leSl_nil|exact leHp_nil|refine leSl_cons qT ?_ ?_|refine leHp_cons qT ?_ ?_|exact VLe.junk _|exact VLe.refl rfl|exact VLe.nil_sl _ _ _|exact VLe.int (by first|rfl|omega|(dsimp only;omega))|exact VLe.bool rfl|exact VLe.sl rfl (by first|rfl|omega|(dsimp only;omega)|(simp;done))|exact VLe.cap rfl (by first|rfl|omega|(dsimp only;omega)|(simp;done))|exact VLe.im rfl rfl|exact HLe.new rfl|exact HLe.same rfl (LLe.refl rfl)|refine HLe.same rfl ?_|exact LLe.nil _|exact LLe.refl rfl|exact LLe.cl rfl qS|exact LLe.clR rfl qS|refine LLe.cons ?_ ?_)))
      all_goals first|exact LLe.lv rfl|exact LLe.lv hls
     ·exact⟨znc _,rfl,hz2,by simp only;omega,rfl,by simp[val]⟩
     ·rintro⟨i,ca,zz⟩ ⟨hi,hJ⟩ K' hK'
      simp only at hi hJ⊢
      have hJ':=hJ
      obtain⟨hzzl,hzz,hca,hzdr,_⟩:=hJ'
      have hzzu:=getD_of_drop hzdr
      have hsl:=seg_len (U:=U) (z:=zz) (j:=j) om
      by_cases hlti:i<k+2
      ·have q1:=decide_eq_true (p:=(i:Int)<((k+2:Nat):Int)) om
       have wi:=wg i hlti
       have hei:=hvg i hlti
       have lei:=limbs_getD hV i
       have gi:=seg_get (U:=U) (z:=zz) (j:=j) (i:=i) om om
       rw[hzzu]at gi
       have lui:=limbs_getD hz2 i
       have hst:=fun w hw=>hJ.step (i:=i) (w:=w) om hei rfl lei lui hw
       generalize V.getD i 0=e at*
       generalize z2.getD i 0=y at*
       have hs1:=hst _ rfl
       refine qYf (Q6 @q1 @wi @gi @fd32 @lv_len @hsl) ?_
       refine hK' _ (i+1,(ca+(y+e))/4294967296,zz.set i ((ca+(y+e)) % 4294967296)) ?_ ⟨by simp only;omega,hs1⟩ (by simp only;omega)
       (refine Le.of [] hB (by first|exact⟨znc _,fun _ _=>znc _⟩|(constructor<;>(try simp)<;>(try omega))) ?_ ?_<;>(repeat' (first|exact leSl_nil|exact leHp_nil|refine leSl_cons qT ?_ ?_|refine leHp_cons qT ?_ ?_|exact VLe.junk _|exact VLe.refl rfl|exact VLe.nil_sl _ _ _|exact VLe.int (by first|rfl|omega|(dsimp only;omega))|exact VLe.bool rfl|exact VLe.sl rfl (by first|rfl|omega|(dsimp only;omega)|(simp;done))|exact VLe.cap rfl (by first|rfl|omega|(dsimp only;omega)|(simp;done))|exact VLe.im rfl rfl|exact HLe.new rfl|exact HLe.same rfl (LLe.refl rfl)|refine HLe.same rfl ?_|exact LLe.nil _|exact LLe.refl rfl|exact LLe.cl rfl qS|exact LLe.clR rfl qS|refine LLe.cons ?_ ?_)))
       all_goals first|exact LLe.lv rfl|exact LLe.lv (seg_set om om om)
      ·have hik:i=k+2:=by omega
       subst hik
       have q1:=decide_eq_false (p:=((k+2:Nat):Int)<((k+2:Nat):Int)) om
       have gi:=seg_get (U:=U) (z:=zz) (j:=j) (i:=k+2) om om
       rw[hzzu,hz2n]at gi
       obtain⟨d1,d2,d3,d4⟩:=hless zz ca hJ
       have hd:=dg_eq (limbs_set hzz (k+2) (x:=0) om)
       rw[d4,List.length_set,hzzl,hzl2]at hd
       have e4:((t:Int)+ca) % 4294967296=0:=by omega
       have hls2:=seg_set (U:=U) (z:=zz) (j:=j) (i:=k+2) (x:=0) om om (n:=(0:Int)) rfl
       rw[<-hd]at hls2
       have hqQ:q=Q+1:=by omega
       subst hqQ
       refine qYf (Q6 @q1 @gi @e4 @lv_len @hsl @hls2) ?_
       refine retI_r Tryz.results144 qT ?_
       exact qLn0v
end
section
open Go.RowKit
theorem short_i(a:List Nat)(d:Nat)(ha:limbs a)(hm:a.length<=1000000000000)(hd:0<d)(hd2:d<4294967296):Spec Tryz.prog 132 [sv a,.sc (.int .u32 d)] (.tu [sv (dg a.length (val a/d)),.sc (.int .u32 (val a % d:Nat))]):=by
 unfold sv
 refine qF Tryz.func132 Tryz.ntmps132 fun B hB=> ?_
 refine qYf @lv_len ?_
 refine SC.loop (fun x:Nat×Nat×List Nat=>⟨[(0,.im (lv a) a.length),(1,.sc (.int .u32 d)),(6,.sl 0 0 a.length 1 none),(7,.sc (.int .u64 x.2.1)),(8,.sc (.int .i64 ((x.1:Int)-1)))],[(0,⟨117,lv x.2.2,false⟩)],1,42⟩)
  (fun x=>x.1<=a.length/\shortInv a d x.1 x.2.1 x.2.2) (fun x=>x.1) (a.length,0,List.replicate a.length 0) ?_ ?_ ?_
 ·refine qLn0r ?_
  exact LLe.lv (lv_rep _)
 ·exact⟨znb _,by simp,limbs_replicate _,hd,by simp[val]⟩
 ·rintro⟨k,r,z⟩ ⟨hk,hI⟩ K hK
  simp only at hk hI⊢
  have hz:z.length=a.length:=hI.1
  by_cases h0:k=0
  ·subst h0
   have q1:decide ((0:Int)<=((0:Nat):Int)-1)=false:=by simp
   have hdn:=hI.done
   have he:=dg_eq hI.2.1
   rw[hdn.1,hz]at he
   have ht:z.take a.length=z:=by rw[<-hz];exact List.take_length
   refine qYf @q1 ?_
   refine retQ_ret Tryz.results132 qT (qTf (Q4 @lv_len @lv_take @lv_clo @ht)) ?_
   have h3:=hI.2.2.1
   rw[he,hz,<-hdn.2]
   have:(r:Int) % 4294967296=r:=by omega
   rw[this]
  ·obtain⟨j,rfl⟩: ∃j,k=j+1:=⟨k-1,by omega⟩
   have q1:decide ((0:Int)<=((j+1:Nat):Int)-1)=true:=by simp
   have hi:(((j+1:Nat):Int)-1).toNat=j:=by omega
   have hj:j<a.length:=by omega
   have la:=limbs_getD ha j
   have ga:=lv_get hj
   obtain⟨hst,hq⟩:=hI.step hj rfl la
   have h3:=hI.2.2.1
   generalize a.getD j 0=x at*
   have h4:(((r:Int)*4294967296+(x:Int))/(d:Int))=(((r*4294967296+x)/d:Nat):Int):=by simp
   have h5:(((r:Int)*4294967296+(x:Int)) % (d:Int))=(((r*4294967296+x) % d:Nat):Int):=by simp
   have h6:(r*4294967296+x) % d<d:=Nat.mod_lt _ hd
   generalize(r*4294967296+x)/d=Q at*
   generalize(r*4294967296+x) % d=M at*
   refine qYf (Q7 @q1 @hi @ga @h4 @h5 @lv_len @gD) ?_
   refine hK _ (j,M,z.set j Q) ?_ ⟨by simp only;omega,hst⟩ (by simp only;omega)
   refine qLn0r ?_
   exact LLe.lv (lv_set om)
theorem est_i(r d:List Nat)(hr:limbs r)(hcr:canon r)(hd:limbs d)(hm:r.length<=1000000000000)(hd2:2<=d.length)(hrd:d.length<=r.length)(hle:val d<=val r):
  ∃q:Nat,0<q/\q*val d<=val r/\Spec Tryz.prog 133 [sv r,sv d] (iv q):=by
 obtain⟨m,hdm⟩: ∃m,d.length=m+1:=⟨d.length-1,by omega⟩
 obtain⟨n,hrn⟩: ∃n,r.length=n+1:=⟨r.length-1,by omega⟩
 obtain⟨k,rfl⟩: ∃k,n=m+k:=⟨n-m,by omega⟩
 have gd:=lv_get (l:=d) (i:=m) om
 have gr:=lv_get (l:=r) (i:=m+k) om
 have yl:=limbs_getD hd m
 have xl:=limbs_getD hr (m+k)
 have i1:((d.length:Int)-1).toNat=m:=by omega
 have i2:((r.length:Int)-1).toNat=m+k:=by omega
 have hxz:r.getD (m+k) 0≠0:=by
  have h:=hcr (by intro e;subst e;simp at hrn)
  rw[List.getLast_eq_getElem]at h
  rw[List.getD_eq_getElem?_getD,zlb om]
  simpa[hrn]using h
 rcases Nat.eq_zero_or_pos k with hk|hk
 ·subst hk
  have hest:=est_zero (n:=m) hd om hdm hle _ _ rfl rfl
  refine⟨_,hest.1,hest.2,?_⟩
  rw[Nat.add_zero]at gr xl i2 hxz
  generalize r.getD m 0=x at*
  generalize d.getD m 0=y at*
  obtain⟨q,hq⟩: ∃q:Nat,q=x/(y+1):=⟨_,rfl⟩
  have hqx:q<=x:=by rw[hq];exact Nat.div_le_self _ _
  have hqi:(x:Int)/((y:Int)+1)=(q:Int):=by rw[hq];simp
  rw[<-hq]at hest⊢
  have q1:(((r.length:Int)-(d.length:Int))==0)=true:=by simp only[beq_iff_eq];omega
  by_cases h1:1<q
  ·have c1:=of_i (q:Int) om om
   rw[Nat.max_eq_right om]
   unfold iv sv at c1⊢
   refine qF Tryz.func133 Tryz.ntmps133 fun B hB=> ?_
   refine qWf (Q8 @lv_len @i1 @i2 @q1 @gd @gr @hqi @gD) ?_
   exact qE Tryz.results133
  ·have c1:=of_i 1 om om
   rw[Nat.max_eq_left om]
   unfold iv sv at c1⊢
   refine qF Tryz.func133 Tryz.ntmps133 fun B hB=> ?_
   refine qWf (Q8 @lv_len @i1 @i2 @q1 @gd @gr @hqi @gD) ?_
   exact qE Tryz.results133
 ·obtain⟨j,rfl⟩: ∃j,k=j+1:=⟨k-1,by omega⟩
  obtain⟨m',rfl⟩: ∃m',m=m'+1:=⟨m-1,by omega⟩
  have gz:=lv_get (l:=r) (i:=m'+j+1) om
  have zl:=limbs_getD hr (m'+j+1)
  have hest:=est_more (r:=r) (d:=d) (n:=m') (k:=j) hd om om _ _ _ (by rw[show m'+j+2=m'+1+(j+1) by omega]) rfl rfl hxz yl
  refine⟨_,?_,hest.2,?_⟩
  ·exact Nat.mul_pos hest.1 (Nat.pow_pos om)
  have i3:((r.length:Int)-2).toNat=m'+j+1:=by omega
  generalize r.getD (m'+1+(j+1)) 0=x at*
  generalize d.getD (m'+1) 0=y at*
  generalize r.getD (m'+j+1) 0=z at*
  have hqi:((x:Int)*4294967296+(z:Int))/((y:Int)+1)=(((x*4294967296+z)/(y+1):Nat):Int):=by simp
  have hq0:(x*4294967296+z)/(y+1)<=x*4294967296+z:=Nat.div_le_self _ _
  generalize(x*4294967296+z)/(y+1)=q at*
  have q1:(((r.length:Int)-(d.length:Int))==0)=false:=by simp only[beq_eq_false_iff_ne,ne_eq];omega
  have i4:((r.length:Int)-(d.length:Int)-1).toNat=j:=by omega
  have hql:limbs [q % 4294967296,q/4294967296]:=limbs_two q om
  have c1:=made_i (List.replicate j 0++ [q % 4294967296,q/4294967296]) false (by
   intro t ht
   rcases List.mem_append.1 ht with ht|ht
   ·exact limbs_replicate j t ht
   ·exact hql t ht) (by simp;omega)
  rw[val_append,val_replicate,val_two,List.length_replicate,zn9,Nat.mul_comm]at c1
  rw[show∀n:Nat,sgn false n=(n:Int)from fun _=>rfl]at c1
  have w1:(q:Int) % 4294967296=((q % 4294967296:Nat):Int):=by simp
  have w2:(q:Int)/2^min 32 64 % 4294967296=((q/4294967296:Nat):Int):=by
   have:(2:Int)^min 32 64=4294967296:=by decide
   rw[this];omega
  have hlst:List.replicate j (V.sc (.int .u32 0))++ [V.sc (.int .u32 ((q % 4294967296:Nat):Int)),V.sc (.int .u32 ((q/4294967296:Nat):Int))]=lv (List.replicate j 0++ [q % 4294967296,q/4294967296]):=by simp[lv]
  have hll:(List.replicate j 0++ [q % 4294967296,q/4294967296]).length=j+2:=by simp
  generalize List.replicate j 0++ [q % 4294967296,q/4294967296]=L at*
  have ht:L.take (j+2)=L:=by rw[<-hll];exact List.take_length
  unfold iv sv at c1⊢
  rw[hll]at c1
  refine qF Tryz.func133 Tryz.ntmps133 fun B hB=> ?_
  (repeat(first|refine DO.nil (by kernel_rfl) ?_|(with_reducible refine qO ?_)|((first|apply SO.call|apply DO.call);(iterate 3 (focus(simp(disch:=omega) only[go_sem,↓reduceIte,zn1,zn2,zn3,zn4,zn5,zn6,reduceCtorEq,zn7,zi1,zi2,if_pos,if_neg,Int.reduceAdd,lv_len,i1,i2,i3,i4,q1,gd,gr,gz,hqi,zl5,w1,w2,hlst,ht,lv_take,lv_clo,lv_all,List.take_replicate,Nat.min_self]<;>rfl)));(first|apply SCall.ofX|apply DCall.ofX);assumption;(focus(simp(disch:=omega) only[go_sem,↓reduceIte,zn1,zn2,zn3,zn4,zn5,zn6,reduceCtorEq,zn7,zi1,zi2,if_pos,if_neg,Int.reduceAdd,lv_len,i1,i2,i3,i4,q1,gd,gr,gz,hqi,zl5,w1,w2,hlst,ht,lv_take,lv_clo,lv_all,List.take_replicate,Nat.min_self]<;>rfl)))|((with_reducible first|apply wa|apply wb|apply wc|apply wd);(focus(simp(disch:=omega) only[go_sem,↓reduceIte,zn1,zn2,zn3,zn4,zn5,zn6,reduceCtorEq,zn7,zi1,zi2,if_pos,if_neg,Int.reduceAdd,lv_len,i1,i2,i3,i4,q1,gd,gr,gz,hqi,zl5,w1,w2,hlst,ht,lv_take,lv_clo,lv_all,List.take_replicate,Nat.min_self]<;>rfl));(first|refine pT ?_|refine pF ?_|fail_if_success with_reducible refine pA ?_))|((with_reducible refine SC.draw Tab.mixed ?_ ?_);(focus(first|rfl|simp(disch:=omega) only[go_sem,↓reduceIte,zn1,zn2,zn3,zn4,zn5,zn6,reduceCtorEq,zn7,zi1,zi2,if_pos,if_neg,Int.reduceAdd,lv_len,i1,i2,i3,i4,q1,gd,gr,gz,hqi,zl5,w1,w2,hlst,ht,lv_take,lv_clo,lv_all,List.take_replicate,Nat.min_self])))|(with_reducible apply SC.ops)))
  exact qE Tryz.results133
end
section
open Go.RowKit
theorem fits_nat{K n:Nat}(h:n<4294967296^K):Fits K (n:Int):=by unfold Fits;simpa using h
theorem fits_len'{K n:Nat}(h:n<4294967296^K):(limbsOf n).length<=K:=canon_len (limbsOf_canon _) (by rw[limbsOf_val];exact h)
theorem made_nat(n:Nat)(h:(limbsOf n).length<=1000000000000):Spec Tryz.prog 61 [sv (limbsOf n),.sc (.bool false)] (iv n):=by
 have:=made_i (limbsOf n) false (limbsOf_limbs _) h
 rwa[limbsOf_val]at this
theorem limbsOf_ge{n:Nat}(h:4294967296<=n):2<=(limbsOf n).length:=by
 have h1:=val_lt (limbsOf_limbs n)
 rw[limbsOf_val]at h1
 rcases Nat.lt_or_ge (limbsOf n).length 2 with h2|h2
 ·have:4294967296^(limbsOf n).length<=4294967296^1:=Nat.pow_le_pow_right om om
  omega
 ·exact h2
theorem limbsOf_one{n:Nat}(h0:0<n)(h:n<4294967296):limbsOf n=[n]:=by
 have:=limbsOf_eq (l:=[n]) (limbs_one h) (by intro _;simp;omega)
 rwa[val_one]at this
theorem lv_one(n:Nat):lv [n]=[.sc (.int .u32 (n:Int))]:=rfl
theorem divide_one(A B:Nat)(K:Nat)(hA:A<4294967296^K)(hK:K<=300000000000)(hB:0<B)(hB2:B<4294967296):Spec Tryz.prog 114 [sv (limbsOf A),sv (limbsOf B)] (.tu [iv ((A/B:Nat):Int),iv ((A % B:Nat):Int)]):=by
 have la:=fits_len' hA
 have ga:=val_lt (limbsOf_limbs A)
 rw[limbsOf_val]at ga
 have hm:=Nat.mod_lt A hB
 have c1:=short_i (limbsOf A) B (limbsOf_limbs A) om hB hB2
 rw[limbsOf_val]at c1
 have c2:=dg_made (limbsOf A).length (A/B) false (Nat.lt_of_le_of_lt (Nat.div_le_self _ _) ga) om
 have c3:=made_i [A % B] false (limbs_one om) (by simp)
 rw[val_one]at c3
 rw[limbsOf_one hB hB2]
 unfold sv at c1 c2 c3⊢
 rw[lv_one]at c3⊢
 unfold iv sv at c2 c3⊢
 simp only[List.length_singleton]at c3⊢
 have q1:(((1:Nat):Int)==1)=true:=by decide
 refine qF Tryz.func114 Tryz.ntmps114 fun B hB=> ?_
 refine qWf @q1 ?_
 exact qE Tryz.results114
theorem divide_long(X Y:Nat)(K:Nat)(hA:X<4294967296^K)(hBK:Y<4294967296^K)(hK:K<=300000000000)(hB2:4294967296<=Y):Spec Tryz.prog 114 [sv (limbsOf X),sv (limbsOf Y)] (.tu [iv ((X/Y:Nat):Int),iv ((X % Y:Nat):Int)]):=by
 have la:=fits_len' hA
 have lb:=fits_len' hBK
 have cA:=made_nat X om
 have cB:=made_nat Y om
 have hb2:=limbsOf_ge hB2
 have bb:=limbsOf_limbs Y
 have hbc:=limbsOf_canon Y
 obtain⟨m,hm⟩: ∃m,(limbsOf Y).length=m+1:=⟨(limbsOf Y).length-1,by omega⟩
 have gb:=lv_get (l:=limbsOf Y) (i:=m) om
 have yl:=limbs_getD bb m
 have y0:(limbsOf Y).getD m 0≠0:=by
  have h:=hbc (by intro e;rw[e]at hm;simp at hm)
  rw[List.getLast_eq_getElem]at h
  rw[List.getD_eq_getElem?_getD,zlb om]
  simpa[hm]using h
 generalize(limbsOf Y).getD m 0=y at*
 have i1:(((limbsOf Y).length:Int)-1).toNat=m:=by omega
 have q1:(((limbsOf Y).length:Int)==1)=false:=by simp only[beq_eq_false_iff_ne,ne_eq];omega
 unfold sv at cA cB⊢
 refine qF Tryz.func114 Tryz.ntmps114 fun B hB=> ?_
 refine qYf (Q2 @q1 @lv_len) ?_
 refine SC.loop (fun s:Nat=>⟨[(0,.im (lv (limbsOf X)) (limbsOf X).length),(1,.im (lv (limbsOf Y)) (limbsOf Y).length),(4,.pt 0 0),(5,.pt 1 0),(8,.sc (.int .u32 s))],[(1,⟨68,[.sc (.bool false),.sc (.slice none 0 0)],false⟩),(0,⟨68,[.sc (.bool false),.sc (.slice none 0 0)],false⟩)],2,86⟩)
  (fun s=>0<s/\s<4294967296) (fun s=>4294967296-s) 1 ?_ ?_ ?_
 ·exact qL
 ·omega
 ·intro s ⟨hs0,hs⟩ K' hK'
  have hys:y*s<=4294967295*4294967295:=Nat.mul_le_mul om om
  have hysi:(y:Int)*(s:Int)=((y*s:Nat):Int):=by simp
  have hss:s<=y*s:=Nat.le_mul_of_pos_left _ om
  generalize y*s=ys at*
  by_cases hlt:ys<2147483648
  ·have q2:=decide_eq_true (p:=(ys:Int)<2147483648) om
   refine qYf (Q6 @q2 @i1 @gb @hysi @lv_len @gD) ?_
   refine hK' _ (2*s) ?_ om om
   exact qL
  ·have q2:=decide_eq_false (p:=(ys:Int)<2147483648) om
   have cs:=made_i [s] false (limbs_one om) (by simp)
   rw[val_one,show sgn false s=(s:Int)from rfl]at cs
   have hsf:Fits 1 (s:Int):=fits_one om
   have cR:=mul_i (X:Int) (s:Int) (K+1) ((fits_nat hA).mono om) (hsf.mono om) om
   have cD:=mul_i (Y:Int) (s:Int) (K+1) ((fits_nat hBK).mono om) (hsf.mono om) om
   rw[<-Int.natCast_mul]at cR cD
   have fR:=(fits_nat hA).mul hsf
   have fD:=(fits_nat hBK).mul hsf
   rw[<-Int.natCast_mul]at fR fD
   have hD2:4294967296<=Y*s:=Nat.le_trans hB2 (Nat.le_mul_of_pos_right _ hs0)
   have hfin: ∀R q:Nat,divInv (X*s) (Y*s) R q->R<Y*s->q=X/Y/\R/s=X % Y:=fun R q h1 h2=>h1.done hs0 om h2
   have hle: ∀R q:Nat,divInv (X*s) (Y*s) R q->R<=X*s/\q<=X*s:=fun R q h=>h.le om
   unfold sv at cs
   rw[lv_one]at cs
   simp only[List.length_singleton]at cs
   have hdi:divInv (X*s) (Y*s) (X*s) 0:=by simp[divInv]
   generalize X*s=AS at*
   generalize Y*s=D at*
   unfold iv sv at cA cB cs cR cD⊢
   refine qWf (Q6 @q2 @i1 @gb @hysi @lv_len @gD) ?_
   refine SC.loop (fun z:Nat×Nat=>⟨[(0,.im (lv (limbsOf X)) (limbsOf X).length),(1,.im (lv (limbsOf Y)) (limbsOf Y).length),(4,.pt 0 0),(5,.pt 1 0),(8,.sc (.int .u32 s)),(9,.pt 3 0),(10,.pt 4 0),(11,.pt 5 0),(12,.pt 6 0)],[(6,⟨68,[.sc (.bool (decide ((z.2:Int)<0))),.im (lv (limbsOf (z.2:Int).natAbs)) (limbsOf (z.2:Int).natAbs).length],false⟩),(5,⟨68,[.sc (.bool (decide ((D:Int)<0))),.im (lv (limbsOf (D:Int).natAbs)) (limbsOf (D:Int).natAbs).length],false⟩),(4,⟨68,[.sc (.bool (decide ((z.1:Int)<0))),.im (lv (limbsOf (z.1:Int).natAbs)) (limbsOf (z.1:Int).natAbs).length],false⟩),(1,⟨68,[.sc (.bool false),.sc (.slice none 0 0)],false⟩),(0,⟨68,[.sc (.bool false),.sc (.slice none 0 0)],false⟩)],7,86⟩)
    (fun z=>divInv AS D z.1 z.2) (fun z=>z.1) (AS,0) ?_ hdi ?_
   ·refine qLn0r ?_
    exact VLe.nil_im
   ·rintro⟨R,q⟩ hI K' hK'
    simp only at hI⊢
    obtain⟨hR,hq⟩:=hle R q hI
    have fRR:Fits (K+1) (R:Int):=fits_nat (Nat.lt_of_le_of_lt hR (by unfold Fits at fR;simpa using fR))
    have fq:Fits (K+1) (q:Int):=fits_nat (Nat.lt_of_le_of_lt hq (by unfold Fits at fR;simpa using fR))
    have lR:=fits_len fRR
    have lD:=fits_len fD
    have cl:=less_n (R:Int).natAbs (D:Int).natAbs om om
    have vR:=limbsOf_val (R:Int).natAbs
    have vD:=limbsOf_val (D:Int).natAbs
    by_cases hlt:R<D
    ·rw[decide_eq_true om]at cl
     have gR:=val_lt (limbsOf_limbs (R:Int).natAbs)
     have c1:=short_i (limbsOf (R:Int).natAbs) s (limbsOf_limbs _) om hs0 hs
     have c2:=dg_made (limbsOf (R:Int).natAbs).length (val (limbsOf (R:Int).natAbs)/s) false (Nat.lt_of_le_of_lt (Nat.div_le_self _ _) gR) om
     obtain⟨e1,e2⟩:=hfin R q hI hlt
     rw[vR]at c1 c2
     rw[show(R:Int).natAbs=R by omega,show sgn false (R/s)=((R/s:Nat):Int)from rfl]at c2
     rw[show(R:Int).natAbs/s=R/s by rw[show(R:Int).natAbs=R by omega]]at c1
     rw[<-e1,<-e2]
     rw[show(R:Int).natAbs=R by omega]at c1 cl⊢
     unfold iv sv at*
     refine qW ?_
     exact qE Tryz.results114
    ·rw[decide_eq_false om]at cl
     obtain⟨e,he0,hed,ce⟩:=est_i (limbsOf (R:Int).natAbs) (limbsOf (D:Int).natAbs) (limbsOf_limbs _) (limbsOf_canon _) (limbsOf_limbs _) om (limbsOf_ge om) (canon_len (limbsOf_canon _) (by have:=val_lt (limbsOf_limbs (R:Int).natAbs);omega)) om
     rw[vR,vD,show(R:Int).natAbs=R by omega,show(D:Int).natAbs=D by omega]at hed
     have hee:e<=e*D:=Nat.le_mul_of_pos_right _ om
     have fe:Fits (K+1) (e:Int):=fRR.of_natAbs_le om
     have fed:Fits (K+1) ((e*D:Nat):Int):=fRR.of_natAbs_le om
     have c1:=add_i q e (K+1) fq fe om
     have c2:=mul_i e D (K+1) fe fD om
     have c3:=sub_i R ((e*D:Nat):Int) (K+1) fRR fed om
     have hst:=hI.step hed
     rw[<-Int.natCast_add]at c1
     rw[<-Int.natCast_mul]at c2
     rw[<-Int.ofNat_sub hed]at c3
     generalize e*D=eD at*
     unfold iv sv at ce c1 c2 c3
     unfold sv at cl
     refine qW ?_
     refine hK' _ (R-eD,q+e) ?_ hst (by simp only;omega)
     exact qL
theorem divide_i(X Y:Nat)(K:Nat)(hX:X<4294967296^K)(hY:Y<4294967296^K)(hK:K<=300000000000)(h0:0<Y):Spec Tryz.prog 114 [sv (limbsOf X),sv (limbsOf Y)] (.tu [iv ((X/Y:Nat):Int),iv ((X % Y:Nat):Int)]):=by
 rcases Nat.lt_or_ge Y 4294967296 with h|h
 ·exact divide_one X Y K hX hK h0 h
 ·exact divide_long X Y K hX hY hK h
end
section
open Go.RowKit
theorem Spec.le{P:Program}{f:Nat}{args:List V}{x y:V}(h:Spec P f args y)(hv:VLe (fun _=>true) y x):Spec P f args x:=by
 intro S w vs hS hT ha
 refine(h S w vs hS hT ha).mono ?_
 rintro e w' ⟨v,h1,h2,h3⟩
 exact⟨v,h1,h2,(hv _ _ _ _ _ h3).mono (fun _ h=>⟨h,rfl⟩) (fun _ h=>h.1.elim)⟩
theorem VLe.tu{ok:Nat->Bool}{cs ds:List V}(h:LLe ok cs ds)(hl:cs.length=ds.length):VLe ok (.tu cs) (.tu ds):=by
 intro S rho A w v hr
 cases hr with
 |tu h1 h2=>
  refine .tu om fun i x u hx hu=> ?_
  have hi:=(List.getElem?_eq_some_iff.1 hx).1
  have hy:cs[i]? =some cs[i]:=zlb om
  exact h.2 i _ x hy hx _ _ _ _ _ (h2 i _ u hy hu)
theorem pshort_i(a:List Nat)(d:Nat)(ha:limbs a)(hm:a.length<=1000000000000)(hd:0<d)(hd2:d<4294967296):Spec Tryz.prog 141 [sv a,.sc (.int .u32 d)] (.tu [sv (dg a.length (val a/d)),.sc (.int .u32 (val a % d:Nat))]):=by
 unfold sv
 refine qF Tryz.func141 Tryz.ntmps141 fun B hB=> ?_
 refine qYf @lv_len ?_
 refine SC.loop (fun x:Nat×Nat×List Nat=>⟨[(0,.im (lv a) a.length),(1,.sc (.int .u32 d)),(6,.sl 0 0 a.length 1 none),(7,.sc (.int .u64 x.2.1)),(8,.sc (.int .i64 ((x.1:Int)-1)))],[(0,⟨117,lv x.2.2,false⟩)],1,42⟩)
  (fun x=>x.1<=a.length/\shortInv a d x.1 x.2.1 x.2.2) (fun x=>x.1) (a.length,0,List.replicate a.length 0) ?_ ?_ ?_
 ·refine qLn0r ?_
  exact LLe.lv (lv_rep _)
 ·exact⟨znb _,by simp,limbs_replicate _,hd,by simp[val]⟩
 ·rintro⟨k,r,z⟩ ⟨hk,hI⟩ K hK
  simp only at hk hI⊢
  have hz:z.length=a.length:=hI.1
  by_cases h0:k=0
  ·subst h0
   have q1:decide ((0:Int)<=((0:Nat):Int)-1)=false:=by simp
   have hdn:=hI.done
   have he:=dg_eq hI.2.1
   rw[hdn.1,hz]at he
   have ht:z.take a.length=z:=by rw[<-hz];exact List.take_length
   refine qYf @q1 ?_
   refine retQ_ret Tryz.results141 qT (qTf (Q4 @lv_len @lv_take @lv_clo @ht)) ?_
   have h3:=hI.2.2.1
   rw[he,hz,<-hdn.2]
   have:(r:Int) % 4294967296=r:=by omega
   rw[this]
  ·obtain⟨j,rfl⟩: ∃j,k=j+1:=⟨k-1,by omega⟩
   have q1:decide ((0:Int)<=((j+1:Nat):Int)-1)=true:=by simp
   have hi:(((j+1:Nat):Int)-1).toNat=j:=by omega
   have hj:j<a.length:=by omega
   have la:=limbs_getD ha j
   have ga:=lv_get hj
   obtain⟨hst,hq⟩:=hI.step hj rfl la
   have h3:=hI.2.2.1
   generalize a.getD j 0=x at*
   have hor:=or_up r x om la
   have h4:((r*4294967296+x:Nat):Int).tdiv (d:Int)=(((r*4294967296+x)/d:Nat):Int):=(Int.ofNat_tdiv _ _).symm
   have h5:((r*4294967296+x:Nat):Int).tmod (d:Int)=(((r*4294967296+x) % d:Nat):Int):=(Int.ofNat_tmod _ _).symm
   have h4':((r*4294967296+x:Nat):Int)/(d:Int)=(((r*4294967296+x)/d:Nat):Int):=by simp
   have h5':((r*4294967296+x:Nat):Int) % (d:Int)=(((r*4294967296+x) % d:Nat):Int):=by simp
   have h6:(r*4294967296+x) % d<d:=Nat.mod_lt _ hd
   generalize(r*4294967296+x)/d=Q at*
   generalize(r*4294967296+x) % d=M at*
   refine qYf (Q11 @q1 @hi @ga @hor @h4 @h5 @h4' @h5' @mi32 @lv_len @gD) ?_
   refine hK _ (j,M,z.set j Q) ?_ ⟨by simp only;omega,hst⟩ (by simp only;omega)
   refine qLn0r ?_
   exact LLe.lv (lv_set om)
def DivTo(X Y:Nat)(x:V):Prop:= ∃q r:List Nat,x= .tu [sv q,sv r]/\limbs q/\limbs r/\val q=X/Y/\val r=X % Y/\q.length<=(limbsOf X).length+2/\r.length<=(limbsOf X).length+(limbsOf Y).length+2
theorem nat_lt_of_len{m n:Nat}(h:(limbsOf m).length<(limbsOf n).length):m<n:=by
 have h1:=val_lt (limbsOf_limbs m)
 have h2:=canon_ge (limbsOf_canon n) (by intro e;rw[e]at h;simp at h)
 rw[limbsOf_val]at h1 h2
 have h3:4294967296^(limbsOf m).length<=4294967296^((limbsOf n).length-1):=Nat.pow_le_pow_right om om
 omega
theorem len_le_of{m n:Nat}(h:m<=n):(limbsOf m).length<=(limbsOf n).length:=by
 refine Nat.le_of_not_lt fun hlt=> ?_
 have:=nat_lt_of_len hlt
 omega
theorem div_less(X Y:Nat)(hX:(limbsOf X).length<=300000000000)(hY:(limbsOf Y).length<=300000000000)(h:X<Y): ∃x,DivTo X Y x/\Spec Tryz.prog 138 [sv (limbsOf X),sv (limbsOf Y)] x:=by
 refine⟨_,⟨[],limbsOf X,rfl,fun x h=>(by simp at h),limbsOf_limbs _,(Nat.div_eq_of_lt h).symm,by rw[limbsOf_val,Nat.mod_eq_of_lt h],by simp,by omega⟩,?_⟩
 have c1:=compare_n X Y om om
 rw[Int.sign_eq_neg_one_of_neg om]at c1
 have c2:=clone_l (limbsOf X) om
 have q1:decide ((-1:Int)<0)=true:=by decide
 unfold sv at*
 refine qF Tryz.func138 Tryz.ntmps138 fun B hB=> ?_
 refine qWf (Q2 @q1 @lv_len) ?_
 exact qE Tryz.results138
theorem div_two(X Y:Nat)(hX:(limbsOf X).length<=2)(h0:0<Y)(h:Y<=X): ∃x,DivTo X Y x/\Spec Tryz.prog 138 [sv (limbsOf X),sv (limbsOf Y)] x:=by
 have hlY:=len_le_of h
 have bX:X<18446744073709551616:=by
  have h1:=val_lt (limbsOf_limbs X)
  rw[limbsOf_val]at h1
  have:4294967296^(limbsOf X).length<=4294967296^2:=Nat.pow_le_pow_right om hX
  omega
 have bq:X/Y<18446744073709551616:=Nat.lt_of_le_of_lt (Nat.div_le_self _ _) bX
 have br:X % Y<18446744073709551616:=Nat.lt_of_le_of_lt (Nat.mod_le _ _) bX
 have hlX:1<=(limbsOf X).length:=by
  rcases Nat.eq_zero_or_pos (limbsOf X).length with e|e
  ·have:=limbsOf_nil.1 (List.eq_nil_of_length_eq_zero e);omega
  ·exact e
 refine⟨_,⟨[X/Y % 4294967296,X/Y/4294967296],[X % Y % 4294967296,X % Y/4294967296],rfl,limbs_two _ bq,limbs_two _ br,val_two _,val_two _,by simp,by simp⟩,?_⟩
 have c1:=compare_n X Y om om
 have hs:0<=((X:Int)-Y).sign:=by rcases Nat.lt_or_ge Y X with e|e;rw[Int.sign_eq_one_of_pos om];omega;rw[show(X:Int)-Y=0 by omega];decide
 have q1:=decide_eq_false (p:=((X:Int)-Y).sign<0) om
 have q2:=decide_eq_true (p:=((limbsOf X).length:Int)<=2) om
 have c2:=word_i (limbsOf X) (limbsOf_limbs _) hX
 have c3:=word_i (limbsOf Y) (limbsOf_limbs _) om
 rw[limbsOf_val]at c2 c3
 have c4:=limbs_s (X/Y) bq
 have c5:=limbs_s (X % Y) br
 have e4:(X:Int).tdiv (Y:Int)=((X/Y:Nat):Int):=(Int.ofNat_tdiv _ _).symm
 have e5:(X:Int).tmod (Y:Int)=((X % Y:Nat):Int):=(Int.ofNat_tmod _ _).symm
 generalize((X:Int)-Y).sign=s at*
 unfold sv at*
 generalize X/Y=Q at*
 generalize X % Y=R at*
 refine qF Tryz.func138 Tryz.ntmps138 fun B hB=> ?_
 refine qWf (Q5 @q1 @q2 @e4 @e5 @lv_len) ?_
 exact qE Tryz.results138
theorem div_one(X Y:Nat)(hX:(limbsOf X).length<=300000000000)(hX2:2<(limbsOf X).length)(h0:0<Y)(h:Y<4294967296): ∃x,DivTo X Y x/\Spec Tryz.prog 138 [sv (limbsOf X),sv (limbsOf Y)] x:=by
 have gX:=val_lt (limbsOf_limbs X)
 rw[limbsOf_val]at gX
 have hm:=Nat.mod_lt X h0
 refine⟨_,⟨dg (limbsOf X).length (X/Y),[X % Y],rfl,dg_limbs _ _,limbs_one om,dg_val _ _ (Nat.lt_of_le_of_lt (Nat.div_le_self _ _) gX),val_one _,by rw[dg_len];omega,by simp⟩,?_⟩
 have hl1:(limbsOf Y).length=1:=by rw[limbsOf_one h0 h];rfl
 have hlt:Y<X:=nat_lt_of_len om
 have c1:=compare_n X Y om om
 rw[Int.sign_eq_one_of_pos om]at c1
 have c2:=pshort_i (limbsOf X) Y (limbsOf_limbs _) om h0 h
 rw[limbsOf_val]at c2
 rw[limbsOf_one h0 h]at c1⊢
 have q1:decide ((1:Int)<0)=false:=by decide
 have q2:=decide_eq_false (p:=((limbsOf X).length:Int)<=2) om
 have q3:(((1:Nat):Int)==1)=true:=by decide
 unfold sv at*
 rw[lv_one]at*
 simp only[List.length_singleton]at*
 refine qF Tryz.func138 Tryz.ntmps138 fun B hB=> ?_
 refine qWf (Q4 @q1 @q2 @q3 @lv_len) ?_
 exact qE Tryz.results138
end
section
open Go.RowKit
theorem dg_take: ∀(k j m:Nat),(dg (k+j) m).take k=dg k m
 |0,j,m=>by simp[dg]
 |k+1,j,m=>by
  rw[show k+1+j=(k+j)+1 by omega]
  simp only[dg,zl3]
  rw[dg_take k j]
theorem dg_drop: ∀(k j m:Nat),(dg (k+j) m).drop k=dg j (m/4294967296^k)
 |0,j,m=>by simp
 |k+1,j,m=>by
  rw[show k+1+j=(k+j)+1 by omega]
  simp only[dg,zl9]
  rw[dg_drop k j,Nat.div_div_eq_div_mul,Nat.pow_succ,Nat.mul_comm]
theorem dg_getD: ∀(k i m:Nat),i<k->(dg k m).getD i 0=m/4294967296^i % 4294967296
 |k+1,0,m,_=>by simp[dg]
 |k+1,i+1,m,h=>by
  have:=dg_getD k i (m/4294967296) om
  simp only[dg]
  rw[show(m % 4294967296::dg k (m/4294967296)).getD (i+1) 0=(dg k (m/4294967296)).getD i 0 from rfl,this,Nat.div_div_eq_div_mul,Nat.pow_succ,Nat.mul_comm]
theorem take_succ_getD{l:List Nat}{i:Nat}(h:i<l.length):l.take (i+1)=l.take i++ [l.getD i 0]:=by
 rw[List.take_succ_eq_append_getElem h,List.getD_eq_getElem?_getD,zlb h];rfl
theorem only_lv(p:Nat->Prop)(l:List Nat): ∀y∈lv l,Only p y:=fun y hy=>by
 obtain⟨v,rfl⟩:=lv_sc l y hy
 exact .sc _
structure Shifted(Y s n m:Nat):Prop where
 lt:Y*m<4294967296^n
 top:2147483648<=(dg (n+1) (Y*m)).getD (n-1) 0
theorem shifted{Y n t:Nat}(hn:(limbsOf Y).length=n)(h1:1<=n)(ht:(limbsOf Y).getD (n-1) 0=t):Shifted Y (32-bl t) n (2^(32-bl t))/\t≠0/\bl t<=32/\t<4294967296:=by
 have tl:=limbs_getD (limbsOf_limbs Y) (n-1)
 rw[ht]at tl
 have hb:=bl_le_of (x:=t) (k:=32) om
 have t0:t≠0:=by
  have hc:=limbsOf_canon Y (by intro e;rw[e]at hn;simp at hn;omega)
  rw[List.getLast_eq_getElem]at hc
  rw[List.getD_eq_getElem?_getD,zlb om]at ht
  simp only[hn]at hc
  intro e;exact hc (by simpa[e]using ht)
 have hv:=val_last (z:=limbsOf Y) (n:=n-1) om
 rw[limbsOf_val,ht]at hv
 have hlt:=val_lt (limbs_take (limbsOf_limbs Y) (n-1))
 rw[List.length_take,Nat.min_eq_left om]at hlt
 obtain⟨a1,a2⟩:=bl_le t0
 have a3:=bl_lt t
 have p1:2^bl t*2^(32-bl t)=4294967296:=by rw[<-Nat.pow_add,show bl t+(32-bl t)=32 by omega]
 have p2:2^(bl t-1)*2^(32-bl t)=2147483648:=by rw[<-Nat.pow_add,show bl t-1+(32-bl t)=31 by omega]
 have p3:4294967296^n=4294967296^(n-1)*4294967296:=by rw[<-Nat.pow_succ,show(n-1).succ=n by omega]
 generalize hMM:4294967296^(n-1)=M at*
 have hM:0<M:=by omega
 generalize 2^(32-bl t)=p at*
 have u1:Y*p<M*4294967296:=by
  have b1:Y<M*(t+1):=by rw[Nat.mul_add];omega
  have b2:M*(t+1)<=M*2^bl t:=Nat.mul_le_mul_left _ om
  have hp:0<p:=by rcases Nat.eq_zero_or_pos p with e|e;subst e;omega;exact e
  have b3:=Nat.mul_lt_mul_of_pos_right (Nat.lt_of_lt_of_le b1 b2) hp
  rw[Nat.mul_assoc,p1]at b3;exact b3
 refine⟨⟨by rw[p3];exact u1,?_⟩,t0,hb,tl⟩
 rw[dg_getD _ _ _ om]
 rw[hMM]
 have u2:2147483648*M<=Y*p:=by
  have c1:2^(bl t-1)*p<=t*p:=Nat.mul_le_mul_right _ a1
  have c2:M*t<=Y:=by omega
  have c3:=Nat.mul_le_mul_right p c2
  have c4:M*2147483648<=M*(t*p):=Nat.mul_le_mul_left _ om
  rw[<-Nat.mul_assoc]at c4
  omega
 have d1:=(Nat.le_div_iff_mul_le hM).2 u2
 have d2:=Nat.div_lt_of_lt_mul u1
 rw[Nat.mod_eq_of_lt d2];exact d1
theorem div_long(X Y:Nat)(hX:(limbsOf X).length<=300000000000)(hX2:2<(limbsOf X).length)(h0:2<=(limbsOf Y).length)(h:Y<=X): ∃x,DivTo X Y x/\Spec Tryz.prog 138 [sv (limbsOf X),sv (limbsOf Y)] x:=by
 have hlY:=len_le_of h
 have c1:=compare_n X Y om om
 have hs0:0<=((X:Int)-Y).sign:=by rcases Nat.lt_or_ge Y X with e|e;rw[Int.sign_eq_one_of_pos om];omega;rw[show(X:Int)-Y=0 by omega];decide
 have gX:=val_lt (limbsOf_limbs X)
 rw[limbsOf_val]at gX
 obtain⟨hSh,ht0,htb,htl⟩:=shifted (Y:=Y) rfl om rfl
 have hY0:0<Y:=by
  rcases Nat.eq_zero_or_pos Y with e|e
  ·rw[e]at h0;simp[limbsOf_zero]at h0
  ·exact e
 have gY:=canon_ge (limbsOf_canon Y) (by intro e;rw[e]at h0;simp at h0)
 rw[limbsOf_val]at gY
 have c3:=shift_n (limbsOf X) (32-bl ((limbsOf Y).getD ((limbsOf Y).length-1) 0)) (limbsOf_limbs _) (by have:=(bl_le ht0).2;omega) om
 have c4:=shift_n (limbsOf Y) (32-bl ((limbsOf Y).getD ((limbsOf Y).length-1) 0)) (limbsOf_limbs _) (by have:=(bl_le ht0).2;omega) om
 have c2:=lz32_s _ htl
 have gt:=lv_get (l:=limbsOf Y) (i:=(limbsOf Y).length-1) om
 rw[limbsOf_val]at c3 c4
 have hRlt:X % Y<4294967296^(limbsOf Y).length:=by
  have h1:=val_lt (limbsOf_limbs Y)
  rw[limbsOf_val]at h1
  have:=Nat.mod_lt X hY0
  omega
 have hQlt:X/Y<4294967296^((limbsOf X).length-(limbsOf Y).length+1):=by
  refine Nat.div_lt_of_lt_mul (Nat.lt_of_lt_of_le gX ?_)
  refine Nat.le_trans ?_ (Nat.mul_le_mul_right _ gY)
  rw[<-Nat.pow_add]
  exact Nat.pow_le_pow_right om om
 refine⟨_,⟨dg ((limbsOf X).length-(limbsOf Y).length+1) (X/Y),dg (limbsOf Y).length (X % Y),rfl,dg_limbs _ _,dg_limbs _ _,dg_val _ _ hQlt,dg_val _ _ hRlt,by rw[dg_len];omega,by rw[dg_len];omega⟩,?_⟩
 have q1:=decide_eq_false (p:=((X:Int)-Y).sign<0) om
 have q2:=decide_eq_false (p:=((limbsOf X).length:Int)<=2) om
 have q3:(((limbsOf Y).length:Int)==1)=false:=by rw[beq_eq_false_iff_ne];omega
 unfold sv at*
 rw[dg_len,dg_len]
 generalize((X:Int)-Y).sign=sg at*
 generalize hlx:(limbsOf X).length=lx at*
 generalize hn:(limbsOf Y).length=n at*
 generalize(limbsOf Y).getD (n-1) 0=t at*
 generalize hs:32-bl t=s at*
 have i1:((n:Int)-1).toNat=n-1:=by omega
 have hN:((lx:Int)-n+1).toNat=lx-n+1:=by omega
 refine qF Tryz.func138 Tryz.ntmps138 fun B hB=> ?_
 refine qWf (Q9 @q1 @q2 @q3 @i1 @gt @lv_len @hlx @hn @gD) ?_
 (refine DO.callN Tab.go143 qT qS ?_;refine DNew.of (c3) rfl qT ?_)
 (repeat(refine DO.run qT ?_))
 (refine DO.callN Tab.go143 qT qS ?_;refine DNew.of (c4) rfl qT ?_)
 (repeat(refine DO.run qT ?_))
 (refine DO.nil (by kernel_rfl) ?_)
 refine qYf (Q10 @q1 @q2 @q3 @i1 @gt @lv_len @hlx @hn @gD @hN) ?_
 have hp0:0<2^s:=Nat.pow_pos om
 have hsl:s<=31:=by have:=(bl_le ht0).2;omega
 obtain⟨hYlt,htop⟩:=hSh
 have hVt:(dg (n+1) (Y*2^s)).take n=dg n (Y*2^s):=dg_take n 1 _
 have hVv:=dg_val n (Y*2^s) hYlt
 have hVl:=dg_len (n+1) (Y*2^s)
 have hVb:=dg_limbs (n+1) (Y*2^s)
 have hinit:dvInv (X*2^s) (Y*2^s) n (lx-n+1) (dg (lx+1) (X*2^s)) (List.replicate (lx-n+1) 0):=by
  have hXX:X*2^s<4294967296^(lx+1):=by
   rw[Nat.pow_succ]
   have:=Nat.pow_le_pow_right (n:=2) om (show s<=32 by omega)
   exact Nat.mul_lt_mul_of_lt_of_le gX this om
  have hlt:X*2^s<4294967296^(lx-n+1)*(Y*2^s):=by
   rw[<-Nat.mul_assoc]
   refine Nat.mul_lt_mul_of_pos_right (Nat.lt_of_lt_of_le gX ?_) hp0
   refine Nat.le_trans ?_ (Nat.mul_le_mul_left _ gY)
   rw[<-Nat.pow_add]
   exact Nat.pow_le_pow_right om om
  have hdv:=Nat.div_lt_of_lt_mul hlt
  refine⟨dg_limbs _ _,limbs_replicate _,by rw[dg_len,List.length_replicate];omega,by simp,?_,?_⟩
  ·rw[show lx+1=(lx-n+1)+n by omega,dg_drop,dg_val _ _ (Nat.lt_trans hdv hYlt)]
   exact hdv
  ·rw[dg_val _ _ hXX];simp[val]
 generalize dg (n+1) (Y*2^s)=V at*
 refine SC.loop (fun y:Nat×List Nat×List Nat=>⟨[(0,.im (lv (limbsOf X)) lx),(1,.im (lv (limbsOf Y)) n),(10,.sc (.int .i64 s)),(11,.sc (.int .i64 n)),(12,.sl 0 0 (lx+1) 1 none),(13,.sl 1 0 n 1 (some n)),(14,.sl 2 0 (lx-n+1) 1 none),(15,.sc (.int .i64 ((y.1:Int)-1)))],[(0,⟨117,lv y.2.1,false⟩),(1,⟨117,lv V,false⟩),(2,⟨117,lv y.2.2,false⟩)],3,128⟩)
  (fun y=>y.2.2.length=lx-n+1/\dvInv (X*2^s) (Y*2^s) n y.1 y.2.1 y.2.2) (fun y=>y.1) (lx-n+1,dg (lx+1) (X*2^s),List.replicate (lx-n+1) 0) ?_ ?_ ?_
 ·(refine Le.of [] hB (by first|exact⟨znc _,fun _ _=>znc _⟩|(constructor<;>(try simp)<;>(try omega))) ?_ ?_<;>(repeat' (first|exact leSl_nil|exact leHp_nil|refine leSl_cons qT ?_ ?_|refine leHp_cons qT ?_ ?_|exact VLe.junk _|exact VLe.refl rfl|exact VLe.nil_sl _ _ _|exact VLe.int (by first|rfl|omega|(dsimp only;omega))|exact VLe.bool rfl|exact VLe.sl rfl (by first|rfl|omega|(dsimp only;omega)|(simp;done))|exact VLe.cap rfl (by first|rfl|omega|(dsimp only;omega)|(simp;done))|exact VLe.im rfl rfl|exact HLe.new rfl|exact HLe.same rfl (LLe.refl rfl)|refine HLe.same rfl ?_|exact LLe.nil _|exact LLe.refl rfl|exact LLe.cl rfl qS|exact LLe.clR rfl qS|refine LLe.cons ?_ ?_)))
  all_goals first|exact LLe.lv rfl|exact LLe.lv (lv_rep _)
 ·exact⟨by simp,hinit⟩
 ·rintro⟨k,Z,q⟩ ⟨hql,hI⟩ K hK
  simp only at hql hI⊢
  have hI':=hI
  obtain⟨hZb,hqb,hZl,hkq,_,_⟩:=hI'
  by_cases hk0:k=0
  ·subst hk0
   have q4:decide ((0:Int)<=((0:Nat):Int)-1)=false:=by simp
   obtain⟨f1,f2⟩:=hI.done hp0 hY0
   have hqe:=dg_eq hqb
   rw[f1,hql]at hqe
   have hqt:q.take (lx-n+1)=q:=by rw[<-hql];exact List.take_length
   refine qYf (Q10 @q1 @q2 @q3 @i1 @gt @lv_len @hlx @hn @gD @q4) ?_
   have hDg: ∀i,i<n->(dg n (X % Y)).getD i 0=((Z.getD (i+1) 0*4294967296+Z.getD i 0)/2^s) % 4294967296:=fun i hi=>by
    rw[dg_getD _ _ _ hi,<-f2];exact(back_limb hZb om om).symm
   have hDl:=dg_len n (X % Y)
   have hDb:=dg_limbs n (X % Y)
   generalize dg n (X % Y)=D at*
   refine SC.loop (fun y:Nat×List Nat=>⟨[(10,.sc (.int .i64 s)),(12,.sl 0 0 (lx+1) 1 none),(14,.sl 2 0 (lx-n+1) 1 none),(16,.sl 3 0 n 1 none),(102,.sc (.int .i64 n)),(103,.sc (.int .i64 y.1))],[(0,⟨117,lv Z,false⟩),(2,⟨117,lv q,false⟩),(3,⟨117,lv y.2,false⟩)],4,128⟩)
    (fun y=>y.1<=n/\y.2.length=n/\y.2.take y.1=D.take y.1) (fun y=>n-y.1) (0,List.replicate n 0) ?_ ?_ ?_
   ·(refine Le.of [] hB (by first|exact⟨znc _,fun _ _=>znc _⟩|(constructor<;>(try simp)<;>(try omega))) ?_ ?_<;>(repeat' (first|exact leSl_nil|exact leHp_nil|refine leSl_cons qT ?_ ?_|refine leHp_cons qT ?_ ?_|exact VLe.junk _|exact VLe.refl rfl|exact VLe.nil_sl _ _ _|exact VLe.int (by first|rfl|omega|(dsimp only;omega))|exact VLe.bool rfl|exact VLe.sl rfl (by first|rfl|omega|(dsimp only;omega)|(simp;done))|exact VLe.cap rfl (by first|rfl|omega|(dsimp only;omega)|(simp;done))|exact VLe.im rfl rfl|exact HLe.new rfl|exact HLe.same rfl (LLe.refl rfl)|refine HLe.same rfl ?_|exact LLe.nil _|exact LLe.refl rfl|exact LLe.cl rfl qS|exact LLe.clR rfl qS|refine LLe.cons ?_ ?_)))
    all_goals first|exact LLe.lv rfl|exact LLe.lv (lv_rep _)
   ·exact⟨znc _,by simp,rfl⟩
   ·rintro⟨i,r⟩ ⟨hin,hrl,hrt⟩ K' hK'
    simp only at hin hrl hrt⊢
    by_cases hlti:i<n
    ·have q5:=decide_eq_true (p:=(i:Int)<(n:Int)) om
     have hi1:((i:Int)+1).toNat=i+1:=by omega
     have ga:=lv_get (l:=Z) (i:=i+1) om
     have gb:=lv_get (l:=Z) (i:=i) om
     have la:=limbs_getD hZb (i+1)
     have lb:=limbs_getD hZb i
     have hD:=hDg i hlti
     have hts:=take_succ_getD (l:=D) (i:=i) om
     rw[hD]at hts
     have htr:(r.set i ((Z.getD (i+1) 0*4294967296+Z.getD i 0)/2^s % 4294967296)).take (i+1)=D.take (i+1):=by
      rw[take_set_succ om,hts,hrt]
     generalize Z.getD (i+1) 0=a at*
     generalize Z.getD i 0=b at*
     have hor:=or_up a b la lb
     have hms:min s 64=s:=by omega
     have hfd:((a*4294967296+b:Nat):Int).fdiv (2^s)=(((a*4294967296+b)/2^s:Nat):Int):=by
      rw[Int.fdiv_eq_ediv_of_nonneg _ (Int.le_of_lt (Int.pow_pos om))];simp
     have hwb:(a*4294967296+b)/2^s<18446744073709551616:=Nat.lt_of_le_of_lt (Nat.div_le_self _ _) om
     generalize(a*4294967296+b)/2^s=w at*
     refine qYf (Q18 @q1 @q2 @q3 @i1 @gt @lv_len @hlx @hn @gD @q5 @hi1 @ga @gb @hor @hms @hfd @mi32 @hrl) ?_
     refine hK' _ (i+1,r.set i (w % 4294967296)) ?_ ⟨by simp only;omega,by simp[hrl],htr⟩ (by simp only;omega)
     (refine Le.of [] hB (by first|exact⟨znc _,fun _ _=>znc _⟩|(constructor<;>(try simp)<;>(try omega))) ?_ ?_<;>(repeat' (first|exact leSl_nil|exact leHp_nil|refine leSl_cons qT ?_ ?_|refine leHp_cons qT ?_ ?_|exact VLe.junk _|exact VLe.refl rfl|exact VLe.nil_sl _ _ _|exact VLe.int (by first|rfl|omega|(dsimp only;omega))|exact VLe.bool rfl|exact VLe.sl rfl (by first|rfl|omega|(dsimp only;omega)|(simp;done))|exact VLe.cap rfl (by first|rfl|omega|(dsimp only;omega)|(simp;done))|exact VLe.im rfl rfl|exact HLe.new rfl|exact HLe.same rfl (LLe.refl rfl)|refine HLe.same rfl ?_|exact LLe.nil _|exact LLe.refl rfl|exact LLe.cl rfl qS|exact LLe.clR rfl qS|refine LLe.cons ?_ ?_)))
     all_goals first|exact LLe.lv rfl|exact LLe.lv (lv_set om)
    ·have hie:i=n:=by omega
     subst hie
     have q5:=decide_eq_false (p:=(i:Int)<(i:Int)) om
     have hrD:r=D:=by
      rw[zla om,zla om]at hrt;exact hrt
     subst hrD
     have hrt2:r.take i=r:=by rw[<-hrl];exact List.take_length
     refine qYf (Q10 @q1 @q2 @q3 @i1 @gt @lv_len @hlx @hn @gD @q5) ?_
     refine retQ_ret Tryz.results138 qT (qTf (Q5 @lv_len @lv_take @lv_clo @hqt @hrt2)) ?_
     rw[hqe]
  ·obtain⟨j,rfl⟩: ∃j,k=j+1:=⟨k-1,by omega⟩
   have q4:decide ((0:Int)<=((j+1:Nat):Int)-1)=true:=by simp
   have hi:(((j+1:Nat):Int)-1).toNat=j:=by omega
   obtain⟨g1,g2,g3⟩:=hI.seg hYlt
   have hdig:=digit_i Z V j n hZb hVb om om om om htop (by rw[hVt,hVv];exact g3)
   rw[hVt,hVv]at hdig
   refine qYf (Q10 @q1 @q2 @q3 @i1 @gt @lv_len @hlx @hn @gD @q4) ?_
   refine SC.ops ?_
   refine qRf (Q10 @q1 @q2 @q3 @i1 @gt @lv_len @hlx @hn @gD @hi) ?_
   have hi2:(((j+1:Nat):Int)-1+(n:Int)+1).toNat-j=n+1:=by omega
   refine SO.inl qT Tab.go144 (qTf @hi2) qS ?_
   refine SInl.of hdig (by simp(disch:=omega) only[go_sem,↓reduceIte,zn1,zn2,zn3,zn4,zn5,zn6,reduceCtorEq,zn7,zi1,zi2,if_pos,if_neg,Int.reduceAdd];try exact⟨rfl,rfl,trivial⟩) (.sc _) ⟨only_lv _ _,only_lv _ _,trivial⟩ qT (by simp(disch:=omega) only[go_sem,↓reduceIte,zn1,zn2,zn3,zn4,zn5,zn6,reduceCtorEq,zn7,zi1,zi2,if_pos,if_neg,Int.reduceAdd,decide_true,decide_false];rfl) ?_
   have hst:=hI.step hYlt (Nat.mul_pos hY0 hp0) (dg_limbs (n+1) _) (dg_len _ _) (dg_val _ _ (Nat.lt_of_lt_of_le (Nat.mod_lt _ (Nat.mul_pos hY0 hp0)) (Nat.le_trans (Nat.le_of_lt hYlt) (Nat.pow_le_pow_right om om))))
   have hseg:seg Z j (dg (n+1) (val ((Z.drop j).take (n+1)) % (Y*2^s)))=Z.take j++(dg (n+1) (val ((Z.drop j).take (n+1)) % (Y*2^s))++Z.drop (j+(n+1))):=by
    unfold seg;rw[dg_len]
   rw[<-hseg]at hst
   generalize val ((Z.drop j).take (n+1))/(Y*2^s)=d at*
   generalize seg Z j (dg (n+1) (val ((Z.drop j).take (n+1)) % (Y*2^s)))=Z' at*
   refine qRf (Q11 @q1 @q2 @q3 @i1 @gt @lv_len @hlx @hn @gD @hi @hql) ?_
   refine qYf (Q9 @q1 @q2 @q3 @i1 @gt @lv_len @hlx @hn @gD) ?_
   refine hK _ (j,Z',q.set j d) ?_ ⟨by simp[hql],hst⟩ (by simp only;omega)
   (refine Le.of [] hB (by first|exact⟨znc _,fun _ _=>znc _⟩|(constructor<;>(try simp)<;>(try omega))) ?_ ?_<;>(repeat' (first|exact leSl_nil|exact leHp_nil|refine leSl_cons qT ?_ ?_|refine leHp_cons qT ?_ ?_|exact VLe.junk _|exact VLe.refl rfl|exact VLe.nil_sl _ _ _|exact VLe.int (by first|rfl|omega|(dsimp only;omega))|exact VLe.bool rfl|exact VLe.sl rfl (by first|rfl|omega|(dsimp only;omega)|(simp;done))|exact VLe.cap rfl (by first|rfl|omega|(dsimp only;omega)|(simp;done))|exact VLe.im rfl rfl|exact HLe.new rfl|exact HLe.same rfl (LLe.refl rfl)|refine HLe.same rfl ?_|exact LLe.nil _|exact LLe.refl rfl|exact LLe.cl rfl qS|exact LLe.clR rfl qS|refine LLe.cons ?_ ?_)))
   all_goals first|exact LLe.lv rfl|exact LLe.lv (lv_set rfl)
end
section
open Go.RowKit
theorem divide_any(X Y:Nat)(hX:(limbsOf X).length<=300000000000)(hY:(limbsOf Y).length<=300000000000)(h0:0<Y): ∃x,DivTo X Y x/\Spec Tryz.prog 138 [sv (limbsOf X),sv (limbsOf Y)] x:=by
 rcases Nat.lt_or_ge X Y with h|h
 ·exact div_less X Y hX hY h
 ·rcases Nat.lt_or_ge 2 (limbsOf X).length with h2|h2
  ·rcases Nat.lt_or_ge Y 4294967296 with h3|h3
   ·exact div_one X Y hX h2 h0 h3
   ·exact div_long X Y hX h2 (limbsOf_ge h3) h
  ·exact div_two X Y h2 h0 h
theorem sgn_abs(x:Int):sgn (decide (x<0)) x.natAbs=x:=by
 unfold sgn
 by_cases h:x<0
 ·simp[h];omega
 ·simp[h];omega
theorem pdivmod_i(x y:Int)(K:Nat)(hx:Fits K x)(hy:Fits K y)(hK:K<=200000000000)(h0:y≠0):Spec Tryz.prog 131 [iv x,iv y] (.tu [iv (x/y),iv (x % y),.sc (.int .i64 0)]):=by
 have lx:=fits_len hx
 have ly:=fits_len hy
 have hY:0<y.natAbs:=by omega
 obtain⟨r,⟨ql,rl,rfl,hql,hrl,vq,vr,lq,lr⟩,c3⟩:=divide_any x.natAbs y.natAbs om om hY
 have c1:=trim_n x.natAbs om
 have c2:=trim_n y.natAbs om
 have c4:=trim_i rl hrl om
 rw[vr]at c4
 have hR:x.natAbs % y.natAbs<y.natAbs:=Nat.mod_lt _ hY
 have lR:(limbsOf (x.natAbs % y.natAbs)).length<=(limbsOf y.natAbs).length:=len_le_of om
 have hQ:x.natAbs/y.natAbs<=x.natAbs:=Nat.div_le_self _ _
 have lQ:(limbsOf (x.natAbs/y.natAbs)).length<=(limbsOf x.natAbs).length:=len_le_of hQ
 obtain⟨s1,s2⟩:=divmod_spec (decide (x<0)) (decide (y<0)) x.natAbs y.natAbs hY
 rw[sgn_abs,sgn_abs]at s1 s2
 have q1:(((limbsOf y.natAbs).length:Int)==0)=false:=by
  rw[beq_eq_false_iff_ne]
  have:limbsOf y.natAbs≠ []:=fun h=>by have:=limbsOf_nil.1 h;omega
  have:=List.length_pos_iff.2 this
  omega
 have hne: ∀b c:Bool,(b !=c)=decide (b≠c):=by intro b c;cases b<;>cases c<;>rfl
 by_cases hn:x<0/\0<x.natAbs % y.natAbs
 ·obtain⟨hneg,hpos⟩:=hn
  have hnx:=decide_eq_true hneg
  rw[hnx]at s1 s2
  simp only[true_and,if_pos hpos]at s1 s2
  have q2:=decide_eq_true (p:=(0:Int)<((limbsOf (x.natAbs % y.natAbs)).length:Int)) (by
   have:limbsOf (x.natAbs % y.natAbs)≠ []:=fun h=>by have:=limbsOf_nil.1 h;omega
   have:=List.length_pos_iff.2 this
   omega)
  have c5:=trim_i ql hql om
  rw[vq]at c5
  have c6:=pplus_i (limbsOf (x.natAbs/y.natAbs)) [1] (limbsOf_limbs _) (limbs_one om) om (by simp)
  rw[limbsOf_val,val_one]at c6
  have c7:=pminus_i (limbsOf y.natAbs) (limbsOf (x.natAbs % y.natAbs)) (limbsOf_limbs _) (limbsOf_limbs _) om lR (by rw[limbsOf_val,limbsOf_val];omega)
  rw[limbsOf_val,limbsOf_val]at c7
  have gq:=val_lt (limbsOf_limbs (x.natAbs/y.natAbs))
  rw[limbsOf_val]at gq
  have c8:=pvalue_dg (max (limbsOf (x.natAbs/y.natAbs)).length [1].length+1) (x.natAbs/y.natAbs+1) (true !=decide (y<0)) (x/y) (by
    rw[<-s1,hne];unfold sgn;by_cases hb:y<0<;>simp[hb]) (by
    have:4294967296^(limbsOf (x.natAbs/y.natAbs)).length<=4294967296^max (limbsOf (x.natAbs/y.natAbs)).length [1].length:=Nat.pow_le_pow_right om om
    rw[Nat.pow_succ];omega) (by simp;omega)
  have gy:=val_lt (limbsOf_limbs y.natAbs)
  rw[limbsOf_val]at gy
  have c9:=pvalue_dg (limbsOf y.natAbs).length (y.natAbs-x.natAbs % y.natAbs) false (x % y) (by rw[<-s2];unfold sgn;simp;omega) om om
  unfold iv sv at*
  rw[hnx]
  rw[lv_one]at c6
  simp only[List.length_singleton]at c6 c8
  refine qF Tryz.func131 Tryz.ntmps131 fun B hB=> ?_
  refine qWf (Q3 @q1 @q2 @lv_len) ?_
  exact qE Tryz.results131
 ·have hif: ¬(decide (x<0)=true/\0<x.natAbs % y.natAbs):=by rw[decide_eq_true_eq];exact hn
  rw[if_neg hif]at s1 s2
  have c8:=value_i (decide (x<0) !=decide (y<0)) ql hql om
  rw[vq,show sgn (decide (x<0) !=decide (y<0)) (x.natAbs/y.natAbs)=x/y by
   rw[<-s1,hne];unfold sgn;by_cases hb:decide (x<0)=decide (y<0)<;>simp[hb]]at c8
  have c9:=pvalue_n (x.natAbs % y.natAbs) false (x % y) (by rw[<-s2];rfl) om
  by_cases hneg:x<0
  ·have hnx:=decide_eq_true hneg
   have q2:=decide_eq_false (p:=(0:Int)<((limbsOf (x.natAbs % y.natAbs)).length:Int)) (by
    have:x.natAbs % y.natAbs=0:=by omega
    rw[this,limbsOf_zero];simp)
   unfold iv sv at*
   rw[hnx]at c8⊢
   refine qF Tryz.func131 Tryz.ntmps131 fun B hB=> ?_
   refine qWf (Q3 @q1 @q2 @lv_len) ?_
   exact qE Tryz.results131
  ·have hnx:=decide_eq_false hneg
   unfold iv sv at*
   rw[hnx]at c8⊢
   refine qF Tryz.func131 Tryz.ntmps131 fun B hB=> ?_
   refine qWf (Q2 @q1 @lv_len) ?_
   exact qE Tryz.results131
end
section
open Go.RowKit
theorem made_int(x:Int)(h:(limbsOf x.natAbs).length<=1000000000000)(b:Bool)(hb:decide (x<0)=b):Spec Tryz.prog 61 [sv (limbsOf x.natAbs),.sc (.bool b)] (iv x):=by
 have:=made_i (limbsOf x.natAbs) b (limbsOf_limbs _) h
 rwa[limbsOf_val,show sgn b x.natAbs=x by rw[<-hb];unfold sgn;split<;>simp_all<;>omega]at this
theorem divmod_1(x y:Int)(K:Nat)(hx:Fits K x)(hy:Fits K y)(hK:K<=200000000000)(h0:y≠0)(hna:decide (x<0)=false)(hnb:decide (y<0)=false):Spec Tryz.prog 85 [iv x,iv y] (.tu [iv (x/y),iv (x % y),.sc (.int .i64 0)]):=by
 have lx:=fits_len hx
 have ly:=fits_len hy
 have c1:=made_int x om _ hna
 have c2:=made_int y om _ hnb
 have c3:=sign_i y K hy om
 have q1:(y.sign==0)=false:=by simp[Int.sign_eq_zero_iff_zero,h0]
 have hp:0<y.natAbs:=by omega
 have c4:=divide_i x.natAbs y.natAbs K hx hy om hp
 have hsp:=divmod_spec false false x.natAbs y.natAbs hp
 rw[show sgn false x.natAbs=x by unfold sgn;simp at hna⊢;omega,show sgn false y.natAbs=y by unfold sgn;simp at hnb⊢;omega]at hsp
 have hml:=Nat.mod_lt x.natAbs hp
 have fq:Fits (K+1) ((x.natAbs/y.natAbs:Nat):Int):=(hx.mono (Nat.le_succ K)).of_natAbs_le (by rw[Int.natAbs_natCast];exact Nat.div_le_self _ _)
 have fr:Fits (K+1) ((x.natAbs % y.natAbs:Nat):Int):=(hy.mono (Nat.le_succ K)).of_natAbs_le (by rw[Int.natAbs_natCast];exact Nat.le_of_lt hml)
 simp only[Bool.false_eq_true,false_and,if_false,ne_eq,not_true_eq_false,not_false_eq_true,reduceCtorEq,if_true]at hsp
 rw[<-hsp.1,<-hsp.2]
 generalize x.natAbs/y.natAbs=q at*
 generalize x.natAbs % y.natAbs=r at*
 unfold iv sv at*
 rw[hna,hnb]
 rw[hna]at c1
 rw[hnb]at c2 c3
 have q3:(false !=false)=false:=rfl
 refine qF Tryz.func85 Tryz.ntmps85 fun B hB=> ?_
 refine qWf (Q2 @q1 @q3) ?_
 exact qE Tryz.results85
theorem divmod_2(x y:Int)(K:Nat)(hx:Fits K x)(hy:Fits K y)(hK:K<=200000000000)(h0:y≠0)(hna:decide (x<0)=false)(hnb:decide (y<0)=true):Spec Tryz.prog 85 [iv x,iv y] (.tu [iv (x/y),iv (x % y),.sc (.int .i64 0)]):=by
 have lx:=fits_len hx
 have ly:=fits_len hy
 have c1:=made_int x om _ hna
 have c2:=made_int y om _ hnb
 have c3:=sign_i y K hy om
 have q1:(y.sign==0)=false:=by simp[Int.sign_eq_zero_iff_zero,h0]
 have hp:0<y.natAbs:=by omega
 have c4:=divide_i x.natAbs y.natAbs K hx hy om hp
 have hsp:=divmod_spec false true x.natAbs y.natAbs hp
 rw[show sgn false x.natAbs=x by unfold sgn;simp at hna⊢;omega,show sgn true y.natAbs=y by unfold sgn;simp at hnb⊢;omega]at hsp
 have hml:=Nat.mod_lt x.natAbs hp
 have fq:Fits (K+1) ((x.natAbs/y.natAbs:Nat):Int):=(hx.mono (Nat.le_succ K)).of_natAbs_le (by rw[Int.natAbs_natCast];exact Nat.div_le_self _ _)
 have fr:Fits (K+1) ((x.natAbs % y.natAbs:Nat):Int):=(hy.mono (Nat.le_succ K)).of_natAbs_le (by rw[Int.natAbs_natCast];exact Nat.le_of_lt hml)
 have c10:=neg_i (((x.natAbs/y.natAbs:Nat):Int)) (K+2) (fq.mono om) om
 simp only[Bool.false_eq_true,false_and,if_false,ne_eq,not_true_eq_false,not_false_eq_true,reduceCtorEq,if_true]at hsp
 rw[<-hsp.1,<-hsp.2]
 generalize x.natAbs/y.natAbs=q at*
 generalize x.natAbs % y.natAbs=r at*
 unfold iv sv at*
 rw[hna,hnb]
 rw[hna]at c1
 rw[hnb]at c2 c3
 have q3:(false !=true)=true:=rfl
 refine qF Tryz.func85 Tryz.ntmps85 fun B hB=> ?_
 refine qWf (Q2 @q1 @q3) ?_
 exact qE Tryz.results85
theorem divmod_3(x y:Int)(K:Nat)(hx:Fits K x)(hy:Fits K y)(hK:K<=200000000000)(h0:y≠0)(hna:decide (x<0)=true)(hnb:decide (y<0)=false)(hr:0<x.natAbs % y.natAbs):Spec Tryz.prog 85 [iv x,iv y] (.tu [iv (x/y),iv (x % y),.sc (.int .i64 0)]):=by
 have lx:=fits_len hx
 have ly:=fits_len hy
 have c1:=made_int x om _ hna
 have c2:=made_int y om _ hnb
 have c3:=sign_i y K hy om
 have q1:(y.sign==0)=false:=by simp[Int.sign_eq_zero_iff_zero,h0]
 have hp:0<y.natAbs:=by omega
 have c4:=divide_i x.natAbs y.natAbs K hx hy om hp
 have hsp:=divmod_spec true false x.natAbs y.natAbs hp
 rw[show sgn true x.natAbs=x by unfold sgn;simp at hna⊢;omega,show sgn false y.natAbs=y by unfold sgn;simp at hnb⊢;omega]at hsp
 have hml:=Nat.mod_lt x.natAbs hp
 have fq:Fits (K+1) ((x.natAbs/y.natAbs:Nat):Int):=(hx.mono (Nat.le_succ K)).of_natAbs_le (by rw[Int.natAbs_natCast];exact Nat.div_le_self _ _)
 have fr:Fits (K+1) ((x.natAbs % y.natAbs:Nat):Int):=(hy.mono (Nat.le_succ K)).of_natAbs_le (by rw[Int.natAbs_natCast];exact Nat.le_of_lt hml)
 have c5:=sign_i ((x.natAbs % y.natAbs:Nat):Int) (K+1) fr om
 have q2:decide ((0:Int)<(((x.natAbs % y.natAbs:Nat):Int)).sign)=true:=by rw[Int.sign_eq_one_of_pos om];rfl
 have c6:=of_i 1 om om
 have c7:=add_i ((x.natAbs/y.natAbs:Nat):Int) 1 (K+1) fq (by unfold Fits;exact Nat.one_lt_pow om om) om
 have c8:=made_nat y.natAbs om
 have c9:=sub_i (y.natAbs:Int) ((x.natAbs % y.natAbs:Nat):Int) (K+1) ((hy.mono (Nat.le_succ K)).of_natAbs_le om) fr om
 have c10:=neg_i (((x.natAbs/y.natAbs:Nat):Int)+1) (K+2) (fq.add (by unfold Fits;exact Nat.one_lt_pow om om)) om
 simp only[hr,true_and,and_true,if_true,ne_eq,not_true_eq_false,not_false_eq_true,if_false,reduceCtorEq,and_self]at hsp
 rw[<-hsp.1,<-hsp.2]
 generalize x.natAbs/y.natAbs=q at*
 generalize x.natAbs % y.natAbs=r at*
 unfold iv sv at*
 rw[hna,hnb]
 rw[hna]at c1
 rw[hnb]at c2 c3
 have q3:(true !=false)=true:=rfl
 refine qF Tryz.func85 Tryz.ntmps85 fun B hB=> ?_
 refine qWf (Q3 @q1 @q2 @q3) ?_
 exact qE Tryz.results85
theorem divmod_4(x y:Int)(K:Nat)(hx:Fits K x)(hy:Fits K y)(hK:K<=200000000000)(h0:y≠0)(hna:decide (x<0)=true)(hnb:decide (y<0)=true)(hr:0<x.natAbs % y.natAbs):Spec Tryz.prog 85 [iv x,iv y] (.tu [iv (x/y),iv (x % y),.sc (.int .i64 0)]):=by
 have lx:=fits_len hx
 have ly:=fits_len hy
 have c1:=made_int x om _ hna
 have c2:=made_int y om _ hnb
 have c3:=sign_i y K hy om
 have q1:(y.sign==0)=false:=by simp[Int.sign_eq_zero_iff_zero,h0]
 have hp:0<y.natAbs:=by omega
 have c4:=divide_i x.natAbs y.natAbs K hx hy om hp
 have hsp:=divmod_spec true true x.natAbs y.natAbs hp
 rw[show sgn true x.natAbs=x by unfold sgn;simp at hna⊢;omega,show sgn true y.natAbs=y by unfold sgn;simp at hnb⊢;omega]at hsp
 have hml:=Nat.mod_lt x.natAbs hp
 have fq:Fits (K+1) ((x.natAbs/y.natAbs:Nat):Int):=(hx.mono (Nat.le_succ K)).of_natAbs_le (by rw[Int.natAbs_natCast];exact Nat.div_le_self _ _)
 have fr:Fits (K+1) ((x.natAbs % y.natAbs:Nat):Int):=(hy.mono (Nat.le_succ K)).of_natAbs_le (by rw[Int.natAbs_natCast];exact Nat.le_of_lt hml)
 have c5:=sign_i ((x.natAbs % y.natAbs:Nat):Int) (K+1) fr om
 have q2:decide ((0:Int)<(((x.natAbs % y.natAbs:Nat):Int)).sign)=true:=by rw[Int.sign_eq_one_of_pos om];rfl
 have c6:=of_i 1 om om
 have c7:=add_i ((x.natAbs/y.natAbs:Nat):Int) 1 (K+1) fq (by unfold Fits;exact Nat.one_lt_pow om om) om
 have c8:=made_nat y.natAbs om
 have c9:=sub_i (y.natAbs:Int) ((x.natAbs % y.natAbs:Nat):Int) (K+1) ((hy.mono (Nat.le_succ K)).of_natAbs_le om) fr om
 simp only[hr,true_and,and_true,if_true,ne_eq,not_true_eq_false,not_false_eq_true,if_false,reduceCtorEq,and_self]at hsp
 rw[<-hsp.1,<-hsp.2]
 generalize x.natAbs/y.natAbs=q at*
 generalize x.natAbs % y.natAbs=r at*
 unfold iv sv at*
 rw[hna,hnb]
 rw[hna]at c1
 rw[hnb]at c2 c3
 have q3:(true !=true)=false:=rfl
 refine qF Tryz.func85 Tryz.ntmps85 fun B hB=> ?_
 refine qWf (Q3 @q1 @q2 @q3) ?_
 exact qE Tryz.results85
theorem divmod_5(x y:Int)(K:Nat)(hx:Fits K x)(hy:Fits K y)(hK:K<=200000000000)(h0:y≠0)(hna:decide (x<0)=true)(hnb:decide (y<0)=false)(hr:x.natAbs % y.natAbs=0):Spec Tryz.prog 85 [iv x,iv y] (.tu [iv (x/y),iv (x % y),.sc (.int .i64 0)]):=by
 have lx:=fits_len hx
 have ly:=fits_len hy
 have c1:=made_int x om _ hna
 have c2:=made_int y om _ hnb
 have c3:=sign_i y K hy om
 have q1:(y.sign==0)=false:=by simp[Int.sign_eq_zero_iff_zero,h0]
 have hp:0<y.natAbs:=by omega
 have c4:=divide_i x.natAbs y.natAbs K hx hy om hp
 have hsp:=divmod_spec true false x.natAbs y.natAbs hp
 rw[show sgn true x.natAbs=x by unfold sgn;simp at hna⊢;omega,show sgn false y.natAbs=y by unfold sgn;simp at hnb⊢;omega]at hsp
 have hml:=Nat.mod_lt x.natAbs hp
 have fq:Fits (K+1) ((x.natAbs/y.natAbs:Nat):Int):=(hx.mono (Nat.le_succ K)).of_natAbs_le (by rw[Int.natAbs_natCast];exact Nat.div_le_self _ _)
 have fr:Fits (K+1) ((x.natAbs % y.natAbs:Nat):Int):=(hy.mono (Nat.le_succ K)).of_natAbs_le (by rw[Int.natAbs_natCast];exact Nat.le_of_lt hml)
 have c5:=sign_i ((x.natAbs % y.natAbs:Nat):Int) (K+1) fr om
 have q2:decide ((0:Int)<(((x.natAbs % y.natAbs:Nat):Int)).sign)=false:=by rw[hr];rfl
 have c10:=neg_i (((x.natAbs/y.natAbs:Nat):Int)) (K+2) (fq.mono om) om
 simp only[hr,Nat.lt_irrefl,and_false,if_false,ne_eq,not_true_eq_false,not_false_eq_true,if_true,reduceCtorEq]at hsp
 rw[<-hsp.1,<-hsp.2]
 generalize x.natAbs/y.natAbs=q at*
 generalize x.natAbs % y.natAbs=r at*
 subst hr
 unfold iv sv at*
 rw[hna,hnb]
 rw[hna]at c1
 rw[hnb]at c2 c3
 have q3:(true !=false)=true:=rfl
 refine qF Tryz.func85 Tryz.ntmps85 fun B hB=> ?_
 refine qWf (Q3 @q1 @q3 @q2) ?_
 exact qE Tryz.results85
theorem divmod_6(x y:Int)(K:Nat)(hx:Fits K x)(hy:Fits K y)(hK:K<=200000000000)(h0:y≠0)(hna:decide (x<0)=true)(hnb:decide (y<0)=true)(hr:x.natAbs % y.natAbs=0):Spec Tryz.prog 85 [iv x,iv y] (.tu [iv (x/y),iv (x % y),.sc (.int .i64 0)]):=by
 have lx:=fits_len hx
 have ly:=fits_len hy
 have c1:=made_int x om _ hna
 have c2:=made_int y om _ hnb
 have c3:=sign_i y K hy om
 have q1:(y.sign==0)=false:=by simp[Int.sign_eq_zero_iff_zero,h0]
 have hp:0<y.natAbs:=by omega
 have c4:=divide_i x.natAbs y.natAbs K hx hy om hp
 have hsp:=divmod_spec true true x.natAbs y.natAbs hp
 rw[show sgn true x.natAbs=x by unfold sgn;simp at hna⊢;omega,show sgn true y.natAbs=y by unfold sgn;simp at hnb⊢;omega]at hsp
 have hml:=Nat.mod_lt x.natAbs hp
 have fq:Fits (K+1) ((x.natAbs/y.natAbs:Nat):Int):=(hx.mono (Nat.le_succ K)).of_natAbs_le (by rw[Int.natAbs_natCast];exact Nat.div_le_self _ _)
 have fr:Fits (K+1) ((x.natAbs % y.natAbs:Nat):Int):=(hy.mono (Nat.le_succ K)).of_natAbs_le (by rw[Int.natAbs_natCast];exact Nat.le_of_lt hml)
 have c5:=sign_i ((x.natAbs % y.natAbs:Nat):Int) (K+1) fr om
 have q2:decide ((0:Int)<(((x.natAbs % y.natAbs:Nat):Int)).sign)=false:=by rw[hr];rfl
 simp only[hr,Nat.lt_irrefl,and_false,if_false,ne_eq,not_true_eq_false,not_false_eq_true,if_true,reduceCtorEq]at hsp
 rw[<-hsp.1,<-hsp.2]
 generalize x.natAbs/y.natAbs=q at*
 generalize x.natAbs % y.natAbs=r at*
 subst hr
 unfold iv sv at*
 rw[hna,hnb]
 rw[hna]at c1
 rw[hnb]at c2 c3
 have q3:(true !=true)=false:=rfl
 refine qF Tryz.func85 Tryz.ntmps85 fun B hB=> ?_
 refine qWf (Q3 @q1 @q3 @q2) ?_
 exact qE Tryz.results85
theorem divmod_i(x y:Int)(K:Nat)(hx:Fits K x)(hy:Fits K y)(hK:K<=200000000000)(h0:y≠0):Spec Tryz.prog 85 [iv x,iv y] (.tu [iv (x/y),iv (x % y),.sc (.int .i64 0)]):=by
 cases hna:decide (x<0)<;>cases hnb:decide (y<0)
 ·exact divmod_1 x y K hx hy hK h0 hna hnb
 ·exact divmod_2 x y K hx hy hK h0 hna hnb
 ·rcases Nat.eq_zero_or_pos (x.natAbs % y.natAbs)with h|h
  ·exact divmod_5 x y K hx hy hK h0 hna hnb h
  ·exact divmod_3 x y K hx hy hK h0 hna hnb h
 ·rcases Nat.eq_zero_or_pos (x.natAbs % y.natAbs)with h|h
  ·exact divmod_6 x y K hx hy hK h0 hna hnb h
  ·exact divmod_4 x y K hx hy hK h0 hna hnb h
end
section
open Go.RowKit
theorem rvalid_i(z:Int)(K:Nat)(hz:Fits K z)(hK:K<=1000000000000):Spec Tryz.prog 99 [iv z] (.sc (.bool true)):=by
 have lz:=fits_len hz
 unfold iv sv
 by_cases h0:z=0
 ·subst h0
  have q1:(((limbsOf (0:Int).natAbs).length:Int)==0)=true:=by simp[limbsOf_zero]
  refine qF Tryz.func99 Tryz.ntmps99 fun B hB=> ?_
  refine qYf (Q2 @q1 @lv_len) ?_
  exact qE Tryz.results99
 ·have hne:limbsOf z.natAbs≠ []:=fun h=>h0 (by have:=limbsOf_nil.1 h;omega)
  have hpos:=List.length_pos_iff.2 hne
  have q1:(((limbsOf z.natAbs).length:Int)==0)=false:=by rw[beq_eq_false_iff_ne];omega
  have hi:(((limbsOf z.natAbs).length:Int)-1).toNat=(limbsOf z.natAbs).length-1:=by omega
  have hg:=lv_get (l:=limbsOf z.natAbs) (i:=(limbsOf z.natAbs).length-1) om
  have hc:=limbsOf_canon z.natAbs hne
  rw[List.getLast_eq_getElem]at hc
  have hx:(limbsOf z.natAbs).getD ((limbsOf z.natAbs).length-1) 0≠0:=by
   rw[List.getD_eq_getElem?_getD,zlb om];exact hc
  have q2:(((limbsOf z.natAbs).getD ((limbsOf z.natAbs).length-1) 0:Int) !=0)=true:=by rw[bne_iff_ne];omega
  refine qF Tryz.func99 Tryz.ntmps99 fun B hB=> ?_
  refine qYf (Q6 @q1 @q2 @hi @hg @lv_len @gD) ?_
  exact qE Tryz.results99
end
section
open Go.RowKit
theorem Fits.ediv{K:Nat}{x y:Int}(hx:Fits K x):Fits K (x/y):=by
 have:=Int.natAbs_ediv_le_natAbs x y
 unfold Fits at*;omega
theorem Fits.one{K:Nat}(h:1<=K):Fits K 1:=by
 have:=Nat.pow_le_pow_right (n:=4294967296) om h
 unfold Fits;simp at*;omega
theorem Fits.zero(K:Nat):Fits K 0:=by unfold Fits;exact Nat.pow_pos om
def z0:List V:=[.sc (.bool false),.sc (.slice none 0 0)]
end
section
open Go
section
variable {P:Program}
theorem Spec.runD{f g i0 i1 n:Nat}{fn:Func}{r0:List Oper}{o:Oper}{rest:Code}{args:List V}{x:V}{s0 s1:SS}(hf:P.funcs[f]? =some fn)(hb:fn.body=some (.seq (.region i0 r0.toArray false) (.seq (.region i1 #[o] false) rest)))
  (ho:o.op= .defer {callee:= .value (.func g),args:= #[],argTypes:= #[]}) (hd:o.dst=none) (hg:o.guard=none) (hi:Idle P g) (hnt:fn.ntmps=n) (hn:args.length<=n) (h0:SS.start args n=s0) (h1:runL P r0.toArray s0 r0=some s1)
  (h: ∀B:Base,B.Old 0->SC P B [rest] (retQ P fn x) s1):Spec P f args x:=by
 subst hnt;subst h0
 intro S w vs hS hT hargs
 have hlen:vs.size=args.length:=by have:=hargs.1;simpa using this.symm
 refine calls_of_wp_defers hf hb ?_
 have hB:(⟨w,S,fun _=>False,fun _=>0,fun _=>False,[]⟩:Base).Old 0:=fun _ h=>h.elim
 refine wp_seq (wp_mono (SWp.region (Q:=fun e s=>e= .normal/\s=s1) (SOps.all h1 ⟨rfl,rfl⟩) S (fun _=>0) (fun _=>False) ⟨vs++Array.replicate (fn.ntmps-vs.size) undef,[]⟩ w (B:=⟨w,S,fun _=>False,fun _=>0,fun _=>False,[]⟩) ?_) ?_)
 ·refine⟨fun t=> ?_,?_,fun _ h=>h.elim,?_,rfl⟩
  ·show R S (fun _=>0) w (fun _=>False) (get (stSl 0 args) t) _
   rw[get_start,if_pos (znc _),Nat.sub_zero]
   cases ht:args[t]?with
   |none=>exact .junk _
   | some y=>
    have hlt:=(List.getElem?_eq_some_iff.1 ht).1
    have hu:vs.toList[t]? =some (vs[t]'om):=by simp[hlen,hlt]
    have:=hargs.2 t y _ ht hu
    have he:(⟨vs++Array.replicate (fn.ntmps-vs.size) undef,[]⟩:Act).eval (.tmp t)=vs[t]'om:=by
     simp[Act.eval,Array.getElem?_append,hlen,hlt]
    rw[he];exact this
  ·exact{
    cells:=fun id k hk=>by cases hk
    fz:=fun id k hk=>by cases hk
    own:=fun id k hk=>by cases hk
    inj:=fun id id' k k' hk=>by cases hk
    slt:=hS
    sub:=fun _ h=>h
    base:=fun _ h=> .inl h
    frame:=⟨rfl,rfl,rfl,znb _,fun _ _ _=>rfl,fun _ _=>rfl,fun _ _ h=>h,hS,hT⟩
    keep:=fun id h=>h.elim}
  ·simp[SS.start];omega
 ·rintro e a w1 ⟨S1,rho,A,s,⟨rfl,rfl⟩,hr⟩
  have had:a.defers=[]:=hr.defs
  refine wp_seq (wp_region_lit (l:=[o]) (wpList_step fun K hK=> ?_))
  have hw:Region.wanted o (yielded [o].toArray a.tmps)=true:=by unfold Region.wanted;rw[hg]
  rw[hw,if_pos rfl]
  have hx:(execOp a.eval o).run P w1= .ok (.defer ⟨.fn (.func g) #[],#[]⟩) w1:=by
   obtain⟨d,op,g,ty,pos,aft⟩:=o
   simp only at ho
   subst ho
   simp only[execOp,resolve,List.map_toArray,zle,Act.eval,Deferred.ofValue,Sem.run_bind,Sem.run_pure]
   rfl
  unfold Oper.wp
  rw[hx,Oper.upon_defer]
  refine hK _ _ (wpList_nil ?_)
  rw[hd,had]
  refine wp_mono (SC.of (h ⟨w,S,fun _=>False,fun _=>0,fun _=>False,[⟨.fn (.func g) #[],#[]⟩]⟩ (fun _ h=>h.elim)) S1 rho A ⟨a.tmps,[⟨.fn (.func g) #[],#[]⟩]⟩ w1 ?_) ?_
  ·exact⟨hr.slots,{
    cells:=hr.mem.cells
    fz:=hr.mem.fz
    own:=hr.mem.own
    inj:=hr.mem.inj
    slt:=hr.mem.slt
    sub:=hr.mem.sub
    base:=hr.mem.base
    frame:=⟨hr.mem.frame.os,hr.mem.frame.tape,hr.mem.frame.output,hr.mem.frame.size,hr.mem.frame.block,hr.mem.frame.stay,hr.mem.frame.sz,hr.mem.frame.lt,hr.mem.frame.tab⟩
    keep:=hr.mem.keep},hr.alt,hr.nt,rfl⟩
  ·rintro e a w' ⟨S',rho,A,s,hq,hr⟩
   have fin:(∃y ids,resV P fn s=some y/\frz 8 s.hp y=some (x,ids))->Leaves P fn a.tmps (fun e w'=> ∃v',e= .returned v'/\Grow w w'/\Rc (fun b=>S b\/(w.heap.size<=b/\b<w'.heap.size)) w' x v') a.defers .returning w':=by
    rintro⟨y,ids,h1,h2⟩
    obtain⟨v,h3,h4⟩:=res_sound (P:=P) hr h1
    have h5:=frz_sound hr.mem 8 y v x ids h2 h4
    have hmf:=hr.mem.freeze ids h5.live
    have hdf:a.defers=[⟨.fn (.func g) #[],#[]⟩]:=hr.defs
    rw[hdf]
    refine leaves_cons (f:=g) (args:= #[]) (by simp) (by simpa[go_sem]using(hi w').1) ((hi w').2.mono ?_)
    rintro e u w2 ⟨⟨v2,rfl⟩,rfl,rfl⟩
    refine⟨v,h3,v,rfl,⟨hr.mem.frame.os,hr.mem.frame.tape,hr.mem.frame.output,hr.mem.frame.size,fun b hb=>hr.mem.frame.block b hb (fun h=>h)⟩,?_⟩
    refine(h5.rep.wide fun b hb=> ?_).rho
    rcases hmf.base b hb with h|h|h
    ·exact .inl h
    ·exact .inr ⟨h,hmf.slt b hb⟩
    ·exact h.elim
   cases e with
   |normal=>exact fin hq
   |ret=>exact fin hq
   |_=>exact hq.elim
end
end
section
open Go.RowKit
structure OpL where
 kd:Nat
 i:Nat
 j:Nat
 k:Int
def opC(o:OpL):List V:=[.sc (.int .i64 o.kd),.sc (.int .i64 o.i),.sc (.int .i64 o.j),.sc (.bool (decide (o.k<0))),sv (limbsOf o.k.natAbs)]
def opsC:List OpL->List V
 |[]=>[]
 |o::r=>opC o++opsC r
@[irreducible] def OL:Nat:=1000000000
theorem OL_eq:OL=1000000000:=by unfold OL;rfl
theorem OL_le:OL<=1000000000:=Nat.le_of_eq OL_eq
structure OkOp(n:Nat)(o:OpL):Prop where
 i:o.i<n
 k:Fits OL o.k
 c:(o.kd=1/\o.j<n/\o.i≠o.j/\o.k=0)\/(o.kd=2/\o.j=0/\o.k=0)\/(o.kd=3/\o.j<n/\o.i≠o.j)
theorem opsC_len: ∀l:List OpL,(opsC l).length=5*l.length
 |[]=>rfl
 |o::r=>by
  rw[opsC,zl1,opsC_len r,List.length_cons]
  show 5+_=_
  omega
theorem opsC_drop: ∀{l:List OpL} {i:Nat},i<l.length->(opsC l).drop (i*5)=opC (l.getD i ⟨0,0,0,0⟩)++(opsC l).drop ((i+1)*5)
 |o::r,0,_=>by
  show opC o++opsC r=opC o++(opC o++opsC r).drop 5
  rw[show(opC o++opsC r).drop 5=opsC r from rfl]
 | o::r,i+1,h=>by
  have e: ∀m,(m+1)*5=(opC o).length+m*5:=by intro m;show _=5+_;omega
  have hd: ∀m,(opsC (o::r)).drop ((m+1)*5)=(opsC r).drop (m*5):=by
   intro m
   rw[e,opsC,List.drop_append]
   simp only[znd,List.drop_eq_nil_of_le (Nat.le_add_right _ _),zl7]
  rw[hd,hd]
  exact opsC_drop (by simpa using h)
theorem pvalid_i(z:Int)(K:Nat)(hz:Fits K z)(hK:K<=100000000000):Spec Tryz.prog 76 [iv z] (.sc (.bool true)):=by
 have hl:=fits_len hz
 have h:=valid_g (limbsOf z.natAbs) _ (decide (z<0)) rfl om
 have:validB (limbsOf z.natAbs) (decide (z<0))=true:=by
  unfold validB
  split
  ·rename_i h0
   have h1:=limbsOf_val z.natAbs
   rw[List.eq_nil_of_length_eq_zero h0]at h1
   have:z=0:=by simp[val]at h1;omega
   subst this;rfl
  ·rename_i h0
   have hc:=limbsOf_canon z.natAbs
   have hne:limbsOf z.natAbs≠ []:=fun e=>h0 (by rw[e];rfl)
   have:=hc hne
   rw[List.getLast_eq_getElem]at this
   rw[List.getD_eq_getElem?_getD,zlb om]
   simpa using this
 rw[this]at h
 exact h
theorem inN_s(i n:Int)(nx:Nat)(hnx:1<nx):Inl Tryz.prog 120 [.sc (.int .i64 i),.pt 1 0] [(1,⟨3,[.sc (.int .i64 n)],false⟩)] nx (.sc (.bool (decide (0<=i)&&decide (i<n)))) [(1,⟨3,[.sc (.int .i64 n)],false⟩)] nx:=by
 refine Inl.run Tryz.func120 rfl Tryz.ntmps120 (by simp) qT fun B hB=> ?_
 by_cases h1:0<=i
 ·have q1:=decide_eq_true h1
  refine qWf @q1 ?_
  refine retI_ret Tryz.results120 qS ?_
  rw[q1,Bool.true_and]
  exact qM
 ·have q1:=decide_eq_false h1
  refine qWf @q1 ?_
  refine retI_ret Tryz.results120 qS ?_
  rw[q1,Bool.false_and]
  exact qM
end
section
open Go.RowKit
theorem onlyN(p:Nat->Prop)(n:Int)(id ty:Nat):OnlyH p [(id,⟨ty,[.sc (.int .i64 n)],false⟩)]:=⟨fun y hy=>by simp at hy;subst hy;exact .sc _,trivial⟩
set_option maxRecDepth 8000 in
theorem fits_s{n:Nat}{o:OpL}(h:OkOp n o)(hn:n<=1000000):Spec Tryz.prog 89 [.ag (opC o),.sc (.int .i64 n)] (.sc (.bool true)):=by
 obtain⟨kd,i,j,k⟩:=o
 obtain⟨hi,hk,hc⟩:=h
 simp only at hi hk hc
 have hOL:=OL_le
 have c1:=pvalid_i k OL hk om
 have c2:=psign_i k OL hk om
 have d1:=inN_s i n
 have d2:=inN_s j n
 have e1:(decide ((0:Int)<=(i:Int))&&decide ((i:Int)<(n:Int)))=true:=by simp;omega
 rw[e1]at d1
 unfold opC
 unfold iv sv at c1 c2
 unfold sv
 simp only
 refine qF Tryz.func89 Tryz.ntmps89 fun B hB=> ?_
 refine qW ?_
 refine SO.inl qS Tab.go120 qS qS ?_
 refine SInl.of (d1 _ om) (by simp(disch:=omega) only[go_sem,↓reduceIte,zn1,zn2,zn3,zn4,zn5,zn6,reduceCtorEq,zn7,zi1,zi2,if_pos,if_neg,Int.reduceAdd]) (.sc _) (onlyN _ _ _ _) qS qS ?_
 rcases hc with⟨rfl,hj,hij,rfl⟩|⟨rfl,rfl,rfl⟩|⟨rfl,hj,hij⟩
 ·have e2:(decide ((0:Int)<=(j:Int))&&decide ((j:Int)<(n:Int)))=true:=by simp;omega
  rw[e2]at d2
  have e3:((i:Int) !=(j:Int))=true:=by simp;omega
  refine qWf (Q2 @e3 @Int.sign_zero) ?_
  refine SO.inl qS Tab.go120 qS qS ?_
  refine SInl.of (d2 _ om) (by simp(disch:=omega) only[go_sem,↓reduceIte,zn1,zn2,zn3,zn4,zn5,zn6,reduceCtorEq,zn7,zi1,zi2,if_pos,if_neg,Int.reduceAdd]) (.sc _) (onlyN _ _ _ _) qS qS ?_
  refine qWf (Q2 @e3 @Int.sign_zero) ?_
  exact qE Tryz.results89
 ·refine qWf @Int.sign_zero ?_
  exact qE Tryz.results89
 ·have e2:(decide ((0:Int)<=(j:Int))&&decide ((j:Int)<(n:Int)))=true:=by simp;omega
  rw[e2]at d2
  have e3:((i:Int) !=(j:Int))=true:=by simp;omega
  refine qWf (Q2 @e3 @Int.sign_zero) ?_
  refine SO.inl qS Tab.go120 qS qS ?_
  refine SInl.of (d2 _ om) (by simp(disch:=omega) only[go_sem,↓reduceIte,zn1,zn2,zn3,zn4,zn5,zn6,reduceCtorEq,zn7,zi1,zi2,if_pos,if_neg,Int.reduceAdd]) (.sc _) (onlyN _ _ _ _) qS qS ?_
  refine qWf (Q2 @e3 @Int.sign_zero) ?_
  exact qE Tryz.results89
theorem ivalid_s{n:Nat}{l:List OpL}(h: ∀o∈l,OkOp n o)(hn:n<=1000000)(hl:l.length<=1000000000):Spec Tryz.prog 54 [.im (opsC l) l.length,.sc (.int .i64 n)] (.sc (.bool true)):=by
 refine qF Tryz.func54 Tryz.ntmps54 fun B hB=> ?_
 refine qW ?_
 refine SC.loop (fun i:Nat=>⟨[(1,.sc (.int .i64 n)),(7,.im (opsC l) l.length),(8,.sc (.int .i64 l.length)),(9,.sc (.int .i64 i))],[],0,18⟩)
  (fun i=>i<=l.length) (fun i=>l.length-i) 0 ?_ ?_ ?_
 ·exact qL
 ·exact znc _
 ·intro i hi K hK
  by_cases hc:i<l.length
  ·have q1:=decide_eq_true (p:=(i:Int)<(l.length:Int)) om
   have g1:=opsC_drop hc
   have g2:i*5<(opsC l).length:=by rw[opsC_len];omega
   have c1:=fits_s (h _ (getD_mem (d:=⟨0,0,0,0⟩) hc)) hn
   generalize l.getD i ⟨0,0,0,0⟩=o at*
   generalize(opsC l).drop ((i+1)*5)=D at*
   unfold opC at g1 c1
   simp only[zl8,zl7]at g1
   refine qWf (Q3 @q1 @g1 @g2) ?_
   refine hK _ (i+1) ?_ om om
   exact qL
  ·have q1:=decide_eq_false (p:=(i:Int)<(l.length:Int)) om
   refine qWf @q1 ?_
   exact qE Tryz.results54
end
section
open Go.RowKit
def wv(l:List Nat):List V:=l.map fun(n:Nat)=> .sc (.int .i64 n)
theorem wv_clo(r:List Nat):(wv r).all clo=true:=by
 rw[zlf];intro x hx;obtain⟨n,_,rfl⟩:=List.mem_map.1 hx;rfl
structure Ids(o:Nat)(ids0 ids:List Nat)(n nx:Nat):Prop where
 len:ids.length=n
 nod:ids.Nodup
 sub: ∀i∈ids,i∈ids0
 lt: ∀i∈ids,i<nx
 o1:o<nx
 o2:o∉ids
theorem Ids.more{o n nx nx':Nat}{ids0 ids:List Nat}(h:Ids o ids0 ids n nx)(hn:nx<=nx'):Ids o ids0 ids n nx':=
 ⟨h.len,h.nod,h.sub,fun i hi=>Nat.lt_of_lt_of_le (h.lt i hi) hn,Nat.lt_of_lt_of_le h.o1 hn,h.o2⟩
def swapN(ids:List Nat)(k q:Nat):List Nat:=(ids.set k (ids.getD q 0)).set q (ids.getD k 0)
theorem swapN_get{ids:List Nat}{k q:Nat}(hk:k<ids.length)(hq:q<ids.length)(i:Nat):(swapN ids k q).getD i 0=if i=q then ids.getD k 0 else if i=k then ids.getD q 0 else ids.getD i 0:=by
 unfold swapN
 rw[getD_set (by simpa using hq),getD_set hk]
theorem Ids.swap{o n nx:Nat}{ids0 ids:List Nat}(h:Ids o ids0 ids n nx){k q:Nat}(hk:k<n)(hq:q<n):Ids o ids0 (swapN ids k q) n nx:=by
 have hl:=h.len
 have hl2:(swapN ids k q).length=n:=by simp[swapN,hl]
 have hmem: ∀i∈swapN ids k q,i∈ids:=by
  intro i hi
  obtain⟨j,hj,rfl⟩:=List.mem_iff_getElem.1 hi
  have e:=swapN_get (ids:=ids) (k:=k) (q:=q) om om j
  rw[List.getD_eq_getElem?_getD,zlb hj]at e
  simp only[Option.getD_some]at e
  rw[e]
  split
  ·exact getD_mem' om
  ·split
   ·exact getD_mem' om
   ·exact getD_mem' om
 refine⟨hl2,?_,fun i hi=>h.sub i (hmem i hi),fun i hi=>h.lt i (hmem i hi),h.o1,fun ho=>h.o2 (hmem o ho)⟩
 rw[List.nodup_iff_pairwise_ne,List.pairwise_iff_getElem]
 intro i j hi hj hij e
 have e1:=swapN_get (ids:=ids) (k:=k) (q:=q) om om i
 have e2:=swapN_get (ids:=ids) (k:=k) (q:=q) om om j
 rw[List.getD_eq_getElem?_getD,zlb hi]at e1
 rw[List.getD_eq_getElem?_getD,zlb hj]at e2
 simp only[Option.getD_some]at e1 e2
 rw[e1,e2]at e
 have inj:=fun a b ha hb e=>nodup_getD h.nod (i:=a) (j:=b) ha hb e
 have hi':i<n:=by omega
 have hj':j<n:=by omega
 split at e
 ·split at e
  ·omega
  ·split at e
   ·have:=inj _ _ om om e;omega
   ·have:=inj _ _ om om e;omega
 ·split at e
  ·split at e
   ·have:=inj _ _ om om e;omega
   ·split at e
    ·omega
    ·have:=inj _ _ om om e;omega
  ·split at e
   ·have:=inj _ _ om om e;omega
   ·split at e
    ·have:=inj _ _ om om e;omega
    ·have:=inj _ _ om om e;omega
theorem less_cons{i:Nat}{b:Blk}{r r':List (Nat×Blk)}(h: ∀id k,hget r' id=some k->hget r id=some k): ∀id k,hget ((i,b)::r') id=some k->hget ((i,b)::r) id=some k:=by
 intro id k hk
 simp only[hget]at hk⊢
 by_cases e:id=i
 ·rw[if_pos e]at hk⊢;exact hk
 ·rw[if_neg e]at hk⊢;exact h id k hk
end
end Go.Proofs.YtannldafjkjjbaaGreat
