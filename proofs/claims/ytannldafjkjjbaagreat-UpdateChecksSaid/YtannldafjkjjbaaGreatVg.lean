/- Texts joined: Qh Jl Jo Qi Qj Qk Jp Ql Qm Ti Ra Rb Lq Rc Rd Re Rf Rg Tj Tk Rh. -/
import Derived.Defers
import Derived.Recover
import Derived.Tactics
import Derived.Test.YtannldafjkjjbaaGreatVe
import Derived.Test.YtannldafjkjjbaaGreatVf
set_option linter.all false
set_option maxHeartbeats 16000000
open Nat renaming reduceEqDiff → zn1, reduceLT → zn2, reduceLeDiff → zn3, reduceAdd → zn4, reduceMul → zn5, reduceSub → zn6, reduceBEq → zn7, mul_one → zn8, zero_add → zn9, one_mul → zna, le_refl → znb, zero_le → znc, add_sub_cancel_left → znd, sub_eq_zero_of_le → zne, add_assoc → znf
open Int renaming reduceToNat → zi1, reducePow → zi2
open List renaming length_append → zl1, drop_zero → zl2, take_succ_cons → zl3, take_zero → zl4, getElem?_drop → zl5, append_assoc → zl6, nil_append → zl7, cons_append → zl8, drop_succ_cons → zl9, take_of_length_le → zla, getElem?_eq_getElem → zlb, getElem?_eq_some_iff → zlc, map_cons → zld, map_nil → zle, all_eq_true → zlf
namespace Go.Proofs.YtannldafjkjjbaaGreat
section
open Go.RowKit
def seg(U:List Nat)(j:Nat)(z:List Nat):List Nat:=U.take j++(z++U.drop (j+z.length))
section
variable {U z:List Nat} {i j x:Nat}
theorem seg_len(h:j+z.length<=U.length):(seg U j z).length=U.length:=by unfold seg;simp;omega
theorem seg_get(h:j+z.length<=U.length)(hi:i<z.length):(lv (seg U j z))[j+i]? =some (.sc (.int .u32 (z.getD i 0:Nat))):=by
 have e:(seg U j z).getD (j+i) 0=z.getD i 0:=by unfold seg;rw[List.getD_eq_getElem?_getD,List.getD_eq_getElem?_getD,List.getElem?_append_right (by simp;omega),List.length_take,Nat.min_eq_left om,znd,List.getElem?_append_left hi]
 rw[lv_get (by rw[seg_len h];omega),e]
theorem seg_set(h:j+z.length<=U.length)(hi:i<z.length){n:Int}(hn:n=(x:Int)):(lv (seg U j z)).set (j+i) (.sc (.int .u32 n))=lv (seg U j (z.set i x)):=by
 subst hn;have e:(seg U j z).set (j+i) x=seg U j (z.set i x):=by unfold seg;rw[List.set_append_right _ _ (by simp;omega),List.length_take,Nat.min_eq_left om,znd,List.set_append_left _ _ hi,List.length_set]
 rw[<-e];exact lv_set rfl
theorem seg_self{m:Nat}(h:j+m<=U.length):seg U j ((U.drop j).take m)=U:=by unfold seg;rw[show j+((U.drop j).take m).length=j+m by simp;omega,<-List.drop_drop];rw[List.take_append_drop,List.take_append_drop]
end
theorem or_up(r u:Nat)(hr:r<4294967296)(hu:u<4294967296):bits BinOp.or IntKind.u64 ((r:Int)*4294967296) (u:Int)=((r*4294967296+u:Nat):Int):=by
 have h:=u64_or_nat (r*4294967296) u om om;have e:r*4294967296|||u=r*4294967296+u:=by have:=Nat.shiftLeft_add_eq_or_of_lt (b:=u) (i:=32) om r;rw[Nat.shiftLeft_eq]at this;exact this.symm
 rw[e]at h;rw[<-h];simp
theorem SC.meet{P:Program}{B:Base}{α:Type}(I:α->SS)(Inv:α->Prop){id:Nat}{c0:Code}{C cs:List Code}{Q:Exit->SS->Prop}{s:SS}(h: ∀K:SS->Prop,(∀s' z,Le B s' (I z)->Inv z->K s')->SC P B C (blockQ id (thenQ K Q)) s)(k: ∀z,Inv z->SC P B (c0::cs) Q (I z)):SC P B C (blockQ id (thenQ (SC P B (c0::cs) Q) Q)) s:=
 h (SC P B (c0::cs) Q) (λ_ z a b=>SC.weak (by simp) a (k z b))
theorem getD_take{l:List Nat}{m i:Nat}(h:i<m):(l.take m).getD i 0=l.getD i 0:=by rw[List.getD_eq_getElem?_getD,List.getD_eq_getElem?_getD,List.getElem?_take,if_pos h]
theorem digit_i(U V:List Nat)(j n:Nat)(hU:limbs U)(hV:limbs V)(hn:2<=n)(hnV:n<=V.length)(hj:j+n+1<=U.length)(hm:U.length<=800000000000)
  (htop:2147483648<=V.getD (n-1) 0) (hlt:val ((U.drop j).take (n+1))<4294967296*val (V.take n)):
  Inl Tryz.prog 144 [.sl 0 j (n+1) 1 none,.sl 1 0 n 1 (some n)] [(0,⟨117,lv U,false⟩),(1,⟨117,lv V,false⟩)] 3
   (.sc (.int .u32 (val ((U.drop j).take (n+1))/val (V.take n):Nat))) [(0,⟨117,lv (seg U j (dg (n+1) (val ((U.drop j).take (n+1)) % val (V.take n)))),false⟩),(1,⟨117,lv V,false⟩)] 3:=by
 obtain⟨k,rfl⟩: ∃k,n=k+2:=⟨n-2,by omega⟩
 rw[show k+2-1=k+1 by omega]at htop;have hul:((U.drop j).take (k+2+1)).length=k+3:=by simp;omega
 have hvl:(V.take (k+2)).length=k+2:=by simp;omega
 have lu:=limbs_take (limbs_drop hU j) (k+2+1);have lw:=limbs_take hV (k+2);have hseg:=seg_self (U:=U) (j:=j) (m:=k+2+1) om;have hvg: ∀i,i<k+2->(V.take (k+2)).getD i 0=V.getD i 0:=λi hi=>getD_take hi;have wg: ∀i,i<k+2->(lv V)[i]? =some (.sc (.int .u32 (V.getD i 0:Nat))):=λi hi=>lv_get om;generalize(U.drop j).take (k+2+1)=u at*;generalize V.take (k+2)=v at*;have g0:=seg_get (U:=U) (z:=u) (j:=j) (i:=k) om om;have g1:=seg_get (U:=U) (z:=u) (j:=j) (i:=k+1) om om;have g2:=seg_get (U:=U) (z:=u) (j:=j) (i:=k+2) om om;rw[hseg]at g0 g1 g2;have w0:=wg k om;have w1:=wg (k+1) om;have i1:(((k+2:Nat):Int)-1).toNat=k+1:=by omega
 have i2:(((k+2:Nat):Int)-2).toNat=k:=by omega
 have tu:=val_top3 (u:=u) (k:=k) hul;have tv:=val_top2 (v:=v) (k:=k) hvl;rw[hvg _ om,hvg _ om]at tv;have b0:=limbs_getD lu (k+2);have b1:=limbs_getD lu (k+1);have b2:=limbs_getD lu k;have c1:=limbs_getD hV (k+1);have c2:=limbs_getD hV k;have bul:=val_lt (limbs_take lu k);have bvl:=val_lt (limbs_take lw k);rw[List.length_take,Nat.min_eq_left om]at bul bvl;have hM:0<4294967296^k:=Nat.pow_pos om;generalize hu0:u.getD (k+2) 0=u0 at*;generalize hu1:u.getD (k+1) 0=u1 at*;generalize hu2:u.getD k 0=u2 at*;generalize hv1:V.getD (k+1) 0=v1 at*;generalize hv2:V.getD k 0=v2 at*;generalize val (u.take k)=ul at*;generalize val (v.take k)=vl at*;generalize hMM:4294967296^k=M at*;have hul':=hlt;rw[tu,tv]at hul';have hu01:=top_le hM hul' bvl c2;have hV0:0<val v:=by rw[tv];unfold VV;have:=Nat.mul_le_mul_right M (show 1<=v1*4294967296+v2 by omega);omega
 have hQ:=Nat.div_mul_le_self (val u) (val v);have hQlt:val u/val v<4294967296:=Nat.div_lt_of_lt_mul (by rw[Nat.mul_comm];exact hlt);generalize hQQ:val u/val v=Q at*;rw[tu,tv]at hQ;have hq0:=guess_over (u0:=u0) (u1:=u1) bul hM om b1 b2 hQ;have hq1:=guess_first hu01 b1 htop;have hqr:=Nat.div_add_mod (u0*4294967296+u1) v1;have hr0:=Nat.mod_lt (u0*4294967296+u1) (show 0<v1 by omega);rw[Nat.mul_comm]at hqr;generalize hA:(u0*4294967296+u1)/v1=q0 at*;generalize hB0:(u0*4294967296+u1) % v1=r0 at*;have e1:=or_up u0 u1 b0 b1;have e2:((u0*4294967296+u1:Nat):Int).tdiv (v1:Int)=(q0:Nat):=by rw[<-hA];exact(Int.ofNat_tdiv _ _).symm
 have e3:((u0*4294967296+u1:Nat):Int).tmod (v1:Int)=(r0:Nat):=by rw[<-hB0];exact(Int.ofNat_tmod _ _).symm
 refine Inl.run Tryz.func144 rfl Tryz.ntmps144 (by simp) qT λB hB=> ?_;refine qYf (Q11 @i1 @i2 @g0 @g1 @g2 @w0 @w1 @e1 @e2 @e3 @mi32) ?_;refine SC.meet (λy:Nat=>⟨[(0,.sl 0 j (k+2+1) 1 none),(1,.sl 1 0 (k+2) 1 (some (k+2))),(5,.sc (.int .i64 ((k+2:Nat):Int))),(8,.sc (.int .u64 y))],[(0,⟨117,lv U,false⟩),(1,⟨117,lv V,false⟩)],3,162⟩)
  (λy=>y<4294967296/\Q<=y/\y*val v<val u+val v) ?_ ?_
 ·intro K0 hK0;refine SC.loop (λy:Nat×Nat=>⟨[(0,.sl 0 j (k+2+1) 1 none),(1,.sl 1 0 (k+2) 1 (some (k+2))),(5,.sc (.int .i64 ((k+2:Nat):Int))),(6,.sc (.int .u64 v1)),(8,.sc (.int .u64 y.1)),(9,.sc (.int .u64 y.2))],[(0,⟨117,lv U,false⟩),(1,⟨117,lv V,false⟩)],3,162⟩)
   (λy=>y.1*v1+y.2=u0*4294967296+u1/\y.2<4294967296/\Q<=y.1/\y.1<=4294967297) (λy=>y.1) (q0,r0) ?_ ?_ ?_
  ·exact qLn0v
  ·exact⟨hqr,by simp only;omega,hq0,hq1⟩
  ·rintro⟨q,r⟩ ⟨h1,h2,h3,h4⟩ K hK;simp only at h1 h2 h3 h4⊢;have hgd:=λht=>guess_down (q:=q) (r:=r) (Q:=Q) bul h1 hQ hQlt h3 ht;have hge:=λhb ht=>guess_end (q:=q) (r:=r) (u2:=u2) (v2:=v2) (ul:=ul) hM bvl om h1 hb ht;have hbr:=λhr=>guess_break (r:=r) hu01 b1 om h1 hr;have hnx:1<=q->(q-1)*v1+(r+v1)=u0*4294967296+u1:=λh=>by
    obtain⟨p,rfl⟩: ∃p,q=p+1:=⟨q-1,by omega⟩
    rw[Nat.add_sub_cancel,<-h1,Nat.add_mul];omega
   have hend: ∀q r:Nat,4294967296<=r->q*v1+r=u0*4294967296+u1->Q<=q->q<4294967296/\Q<=q/\q*val v<val u+val v:=λq r hr h1 h3=>by have hb:=guess_break (r:=r) hu01 b1 om h1 hr;refine⟨hb,h3,?_⟩;rw[tu,tv];have hp:q*v2<=4294967295*4294967295:=Nat.mul_le_mul om om;exact guess_end (q:=q) (r:=r) (u2:=u2) (v2:=v2) (ul:=ul) hM bvl om h1 hb om
   by_cases hbig:4294967295<q
   ·have q1:=decide_eq_true (p:=(4294967295:Int)<(q:Int)) om;obtain⟨a1,a2⟩:=hgd (.inl hbig);have hn:=hnx a2;by_cases hr:4294967295<r+v1
    ·have q2:=decide_eq_true (p:=(4294967295:Int)<(r:Int)+(v1:Int)) om;refine qYf (Q10 @q1 @q2 @i1 @i2 @g0 @g1 @g2 @w0 @w1 @mi32) ?_;refine hK0 _ (q-1) ?_ ?_;·exact qLn0v
     ·exact hend (q-1) (r+v1) om hn a1
    ·have q2:=decide_eq_false (p:=(4294967295:Int)<(r:Int)+(v1:Int)) om;refine qYf (Q10 @q1 @q2 @i1 @i2 @g0 @g1 @g2 @w0 @w1 @mi32) ?_;refine hK _ (q-1,r+v1) ?_ ⟨hn,by simp only;omega,a1,by simp only;omega⟩ (by simp only;omega);exact qLn0v
   ·have q1:=decide_eq_false (p:=(4294967295:Int)<(q:Int)) om;have hp:q*v2<=4294967295*4294967295:=Nat.mul_le_mul om om;have hm':(q:Int)*(v2:Int)=((q*v2:Nat):Int):=by simp
    have hor:=or_up r u2 h2 b2;by_cases ht:r*4294967296+u2<q*v2
    ·obtain⟨a1,a2⟩:=hgd (.inr ht);have hn:=hnx a2;generalize q*v2=p at*;have q3:=decide_eq_true (p:=((r*4294967296+u2:Nat):Int)<(p:Int)) om;by_cases hr:4294967295<r+v1
     ·have q2:=decide_eq_true (p:=(4294967295:Int)<(r:Int)+(v1:Int)) om;refine qYf (Q13 @q1 @q2 @q3 @hm' @hor @i1 @i2 @g0 @g1 @g2 @w0 @w1 @mi32) ?_;refine hK0 _ (q-1) ?_ ?_;·exact qLn0v
      ·exact hend (q-1) (r+v1) om hn a1
     ·have q2:=decide_eq_false (p:=(4294967295:Int)<(r:Int)+(v1:Int)) om;refine qYf (Q13 @q1 @q2 @q3 @hm' @hor @i1 @i2 @g0 @g1 @g2 @w0 @w1 @mi32) ?_;refine hK _ (q-1,r+v1) ?_ ⟨hn,by simp only;omega,a1,by simp only;omega⟩ (by simp only;omega);exact qLn0v
    ·have hfin:=hge om om;generalize q*v2=p at*;have q3:=decide_eq_false (p:=((r*4294967296+u2:Nat):Int)<(p:Int)) om;refine qYf (Q12 @q1 @q3 @hm' @hor @i1 @i2 @g0 @g1 @g2 @w0 @w1 @mi32) ?_;refine hK0 _ q ?_ ⟨by omega,h3,by rw[tu,tv];exact hfin⟩;exact qLn0v
 ·rintro q ⟨hqb,hq2,hq3⟩;refine qY ?_;have hmask: ∀w:Nat,w<18446744073709551616->bits BinOp.and IntKind.u64 (w:Int) 4294967295=((w % 4294967296:Nat):Int):=λw hw=>by
   have h:=u64_and_nat w 4294967295 hw om;have e:w&&&4294967295=w % 4294967296:=Nat.and_two_pow_sub_one_eq_mod w 32;rw[e]at h;exact h
  refine SC.loop (λy:Nat×Nat×Nat×List Nat=>⟨[(0,.sl 0 j (k+2+1) 1 none),(1,.sl 1 0 (k+2) 1 (some (k+2))),(5,.sc (.int .i64 ((k+2:Nat):Int))),(8,.sc (.int .u64 q)),(10,.sc (.int .u64 y.2.1)),(11,.sc (.int .u64 y.2.2.1)),(74,.sl 1 0 (k+2) 1 (some (k+2))),(75,.sc (.int .i64 ((k+2:Nat):Int))),(76,.sc (.int .i64 y.1))],[(0,⟨117,lv (seg U j y.2.2.2),false⟩),(1,⟨117,lv V,false⟩)],3,162⟩)
   (λy=>y.1<=k+2/\msInv u v q y.1 y.2.1 y.2.2.1 y.2.2.2) (λy=>k+2-y.1) (0,0,0,u) ?_ ?_ ?_
  ·rw[hseg];exact qLn0v
  ·exact⟨znc _,rfl,lu,by simp only;omega,by simp only;omega,rfl,by simp[val]⟩
  ·rintro⟨i,br,c,z⟩ ⟨hi,hI⟩ K hK;simp only at hi hI⊢;have hI':=hI;obtain⟨hzl,hz,hbr,hc,hdr,_⟩:=hI';have hzu:=getD_of_drop hdr;by_cases hlti:i<k+2
   ·have q1:=decide_eq_true (p:=(i:Int)<((k+2:Nat):Int)) om;have wi:=wg i hlti;have hei:=hvg i hlti;have lei:=limbs_getD hV i;have gi:=seg_get (U:=U) (z:=z) (j:=j) (i:=i) om om;rw[hzu]at gi;have lui:=limbs_getD lu i;have hst:=λw d br' hw hd hb hdd=>hI.step (i:=i) (w:=w) (d:=d) (br':=br') om hei rfl lei lui hqb hw hd hb hdd;generalize V.getD i 0=e at*;generalize u.getD i 0=y at*;have hp:q*e<=4294967295*4294967295:=Nat.mul_le_mul om om;have hm':(q:Int)*(e:Int)=((q*e:Nat):Int):=by simp
    obtain⟨w,hw⟩: ∃w,c+q*e=w:=⟨_,rfl⟩
    have hst:=λd br'=>hst w d br' hw.symm;have hwc:(c:Int)+((q*e:Nat):Int)=(w:Int):=by omega
    have hw2:w<18446744073709551616:=by omega
    generalize q*e=p at*;have hmk:=hmask w hw2;have hwm:w % 4294967296<4294967296:=by omega
    generalize hmm:w % 4294967296=m at*;have hsl:=seg_len (U:=U) (z:=z) (j:=j) om;by_cases hn:(y:Int)-m-br<0
    ·have e3:IntKind.u64.wrap (IntKind.u64.wrap ((y:Int)-m)-br)=(y:Int)-m-br+18446744073709551616:=by
      simp[IntKind.wrap,IntKind.bits,IntKind.signed];omega
     have hs1:=hst (y+4294967296-m-br) 1 om om om;refine qYf (Q11 @q1 @hm' @hwc @hmk @wi @gi @fd32 @fd63 @e3 @lv_len @hsl) ?_;refine hK _ (i+1,1,w/4294967296,z.set i (y+4294967296-m-br)) ?_ ⟨by simp only;omega,hs1.1⟩ (by simp only;omega)
     (refine Le.of [] hB (by first|exact⟨znc _,λ_ _=>znc _⟩|(constructor<;>(try simp)<;>(try omega))) ?_ ?_<;>(repeat' (first|exact leSl_nil|exact leHp_nil|refine leSl_cons qT ?_ ?_|refine leHp_cons qT ?_ ?_|exact VLe.junk _|exact VLe.refl rfl|exact VLe.nil_sl _ _ _|exact VLe.int (by first|rfl|omega|(dsimp only;omega))|exact VLe.bool rfl|exact VLe.sl rfl (by first|rfl|omega|(dsimp only;omega)|(simp;done))|exact VLe.cap rfl (by first|rfl|omega|(dsimp only;omega)|(simp;done))|exact VLe.im rfl rfl|exact HLe.new rfl|exact HLe.same rfl (LLe.refl rfl)|refine HLe.same rfl ?_|exact LLe.nil _|exact LLe.refl rfl|exact LLe.cl rfl qS|exact LLe.clR rfl qS|refine LLe.cons ?_ ?_)))
     all_goals first|exact LLe.lv rfl|exact LLe.lv (seg_set om om om)
    ·have e3:IntKind.u64.wrap (IntKind.u64.wrap ((y:Int)-m)-br)=(y:Int)-m-br:=by
      simp[IntKind.wrap,IntKind.bits,IntKind.signed];omega
     have hs1:=hst (y-m-br) 0 om om om;refine qYf (Q11 @q1 @hm' @hwc @hmk @wi @gi @fd32 @fd63 @e3 @lv_len @hsl) ?_;refine hK _ (i+1,0,w/4294967296,z.set i (y-m-br)) ?_ ⟨by simp only;omega,hs1.1⟩ (by simp only;omega)
     (refine Le.of [] hB (by first|exact⟨znc _,λ_ _=>znc _⟩|(constructor<;>(try simp)<;>(try omega))) ?_ ?_<;>(repeat' (first|exact leSl_nil|exact leHp_nil|refine leSl_cons qT ?_ ?_|refine leHp_cons qT ?_ ?_|exact VLe.junk _|exact VLe.refl rfl|exact VLe.nil_sl _ _ _|exact VLe.int (by first|rfl|omega|(dsimp only;omega))|exact VLe.bool rfl|exact VLe.sl rfl (by first|rfl|omega|(dsimp only;omega)|(simp;done))|exact VLe.cap rfl (by first|rfl|omega|(dsimp only;omega)|(simp;done))|exact VLe.im rfl rfl|exact HLe.new rfl|exact HLe.same rfl (LLe.refl rfl)|refine HLe.same rfl ?_|exact LLe.nil _|exact LLe.refl rfl|exact LLe.cl rfl qS|exact LLe.clR rfl qS|refine LLe.cons ?_ ?_)))
     all_goals first|exact LLe.lv rfl|exact LLe.lv (seg_set om om om)
   ·have hik:i=k+2:=by omega
    subst hik;have q1:=decide_eq_false (p:=((k+2:Nat):Int)<((k+2:Nat):Int)) om;have gi:=seg_get (U:=U) (z:=z) (j:=j) (i:=k+2) om om;rw[hzu,hu0]at gi;have hsl:=seg_len (U:=U) (z:=z) (j:=j) om;by_cases hcb:c+br<=u0
    ·have e3:IntKind.u64.wrap (IntKind.u64.wrap ((u0:Int)-c)-br)=((u0-(c+br):Nat):Int):=by
      simp[IntKind.wrap,IntKind.bits,IntKind.signed];omega
     have q2:(((u0:Int)-c-br)/9223372036854775808==0)=true:=by rw[beq_iff_eq];omega
     obtain⟨d1,d2⟩:=digit_right hul hvl hI om hV0 (by rw[hu0];exact hcb);rw[hu0]at d2;have hz2:=limbs_set hz (k+2) (x:=u0-(c+br)) om;have hd:=dg_eq hz2;rw[d2,List.length_set,hzl,hul]at hd;have hls:=seg_set (U:=U) (z:=z) (j:=j) (i:=k+2) (x:=u0-(c+br)) om om (n:=(u0:Int)-c-br) om;rw[<-hd]at hls;have hqQ:q=Q:=d1.trans hQQ;subst hqQ;refine qYf (Q8 @q1 @q2 @gi @fd63 @e3 @lv_len @hsl @hls) ?_;refine retI_r Tryz.results144 qT ?_;exact qLn0v
    ·have e3:IntKind.u64.wrap (IntKind.u64.wrap ((u0:Int)-c)-br)=(u0:Int)-c-br+18446744073709551616:=by
      simp[IntKind.wrap,IntKind.bits,IntKind.signed];omega
     have q2:((((u0:Int)-c-br+18446744073709551616)/9223372036854775808)==0)=false:=by rw[beq_eq_false_iff_ne];omega
     refine qYf (Q7 @q1 @q2 @gi @fd63 @e3 @lv_len @hsl) ?_;have hls:=seg_set (U:=U) (z:=z) (j:=j) (i:=k+2) (x:=(4294967296+u0-(c+br)) % 4294967296) om om (n:=((u0:Int)-c-br+18446744073709551616) % 4294967296) om;have hz2:=limbs_set hz (k+2) (x:=(4294967296+u0-(c+br)) % 4294967296) om;have hless:=λz' h zz ca ha=>digit_less (zz:=zz) (ca:=ca) hul hvl lu lw hI (by rw[hu0];omega) om hq3 hV0 z' h ha;rw[hu0]at hless;have hless:=hless _ rfl;have hzl2:(z.set (k+2) ((4294967296+u0-(c+br)) % 4294967296)).length=k+3:=by simp;omega
     have hz2n:(z.set (k+2) ((4294967296+u0-(c+br)) % 4294967296)).getD (k+2) 0=(4294967296+u0-(c+br)) % 4294967296:=by rw[List.getD_eq_getElem?_getD,List.getElem?_set_self om];rfl
     have ht:(4294967296+u0-(c+br)) % 4294967296<4294967296:=by omega
     generalize z.set (k+2) ((4294967296+u0-(c+br)) % 4294967296)=z2 at*;generalize(4294967296+u0-(c+br)) % 4294967296=t at*;refine qYf @hls ?_;refine SC.loop (λy:Nat×Nat×List Nat=>⟨[(0,.sl 0 j (k+2+1) 1 none),(1,.sl 1 0 (k+2) 1 (some (k+2))),(5,.sc (.int .i64 ((k+2:Nat):Int))),(8,.sc (.int .u64 q)),(11,.sc (.int .u64 y.2.1)),(126,.sl 1 0 (k+2) 1 (some (k+2))),(127,.sc (.int .i64 ((k+2:Nat):Int))),(128,.sc (.int .i64 y.1))],[(0,⟨117,lv (seg U j y.2.2),false⟩),(1,⟨117,lv V,false⟩)],3,162⟩)
      (λy=>y.1<=k+2/\abInv z2 v y.1 y.2.1 y.2.2) (λy=>k+2-y.1) (0,0,z2) ?_ ?_ ?_
     ·(refine Le.of [] hB (by first|exact⟨znc _,λ_ _=>znc _⟩|(constructor<;>(try simp)<;>(try omega))) ?_ ?_<;>(repeat' (first|exact leSl_nil|exact leHp_nil|refine leSl_cons qT ?_ ?_|refine leHp_cons qT ?_ ?_|exact VLe.junk _|exact VLe.refl rfl|exact VLe.nil_sl _ _ _|exact VLe.int (by first|rfl|omega|(dsimp only;omega))|exact VLe.bool rfl|exact VLe.sl rfl (by first|rfl|omega|(dsimp only;omega)|(simp;done))|exact VLe.cap rfl (by first|rfl|omega|(dsimp only;omega)|(simp;done))|exact VLe.im rfl rfl|exact HLe.new rfl|exact HLe.same rfl (LLe.refl rfl)|refine HLe.same rfl ?_|exact LLe.nil _|exact LLe.refl rfl|exact LLe.cl rfl qS|exact LLe.clR rfl qS|refine LLe.cons ?_ ?_)))
      all_goals first|exact LLe.lv rfl|exact LLe.lv hls
     ·exact⟨znc _,rfl,hz2,by simp only;omega,rfl,by simp[val]⟩
     ·rintro⟨i,ca,zz⟩ ⟨hi,hJ⟩ K' hK';simp only at hi hJ⊢;have hJ':=hJ;obtain⟨hzzl,hzz,hca,hzdr,_⟩:=hJ';have hzzu:=getD_of_drop hzdr;have hsl:=seg_len (U:=U) (z:=zz) (j:=j) om;by_cases hlti:i<k+2
      ·have q1:=decide_eq_true (p:=(i:Int)<((k+2:Nat):Int)) om;have wi:=wg i hlti;have hei:=hvg i hlti;have lei:=limbs_getD hV i;have gi:=seg_get (U:=U) (z:=zz) (j:=j) (i:=i) om om;rw[hzzu]at gi;have lui:=limbs_getD hz2 i;have hst:=λw hw=>hJ.step (i:=i) (w:=w) om hei rfl lei lui hw;generalize V.getD i 0=e at*;generalize z2.getD i 0=y at*;have hs1:=hst _ rfl;refine qYf (Q6 @q1 @wi @gi @fd32 @lv_len @hsl) ?_;refine hK' _ (i+1,(ca+(y+e))/4294967296,zz.set i ((ca+(y+e)) % 4294967296)) ?_ ⟨by simp only;omega,hs1⟩ (by simp only;omega)
       (refine Le.of [] hB (by first|exact⟨znc _,λ_ _=>znc _⟩|(constructor<;>(try simp)<;>(try omega))) ?_ ?_<;>(repeat' (first|exact leSl_nil|exact leHp_nil|refine leSl_cons qT ?_ ?_|refine leHp_cons qT ?_ ?_|exact VLe.junk _|exact VLe.refl rfl|exact VLe.nil_sl _ _ _|exact VLe.int (by first|rfl|omega|(dsimp only;omega))|exact VLe.bool rfl|exact VLe.sl rfl (by first|rfl|omega|(dsimp only;omega)|(simp;done))|exact VLe.cap rfl (by first|rfl|omega|(dsimp only;omega)|(simp;done))|exact VLe.im rfl rfl|exact HLe.new rfl|exact HLe.same rfl (LLe.refl rfl)|refine HLe.same rfl ?_|exact LLe.nil _|exact LLe.refl rfl|exact LLe.cl rfl qS|exact LLe.clR rfl qS|refine LLe.cons ?_ ?_)))
       all_goals first|exact LLe.lv rfl|exact LLe.lv (seg_set om om om)
      ·have hik:i=k+2:=by omega
       subst hik;have q1:=decide_eq_false (p:=((k+2:Nat):Int)<((k+2:Nat):Int)) om;have gi:=seg_get (U:=U) (z:=zz) (j:=j) (i:=k+2) om om;rw[hzzu,hz2n]at gi;obtain⟨d1,d2,d3,d4⟩:=hless zz ca hJ;have hd:=dg_eq (limbs_set hzz (k+2) (x:=0) om);rw[d4,List.length_set,hzzl,hzl2]at hd;have e4:((t:Int)+ca) % 4294967296=0:=by omega
       have hls2:=seg_set (U:=U) (z:=zz) (j:=j) (i:=k+2) (x:=0) om om (n:=(0:Int)) rfl;rw[<-hd]at hls2;have hqQ:q=Q+1:=by omega
       subst hqQ;refine qYf (Q6 @q1 @gi @e4 @lv_len @hsl @hls2) ?_;refine retI_r Tryz.results144 qT ?_;exact qLn0v
end
section
open Go.RowKit
end
section
open Go.RowKit
theorem limbsOf_ge{n:Nat}(h:4294967296<=n):2<=(limbsOf n).length:=by
 have h1:=val_lt (limbsOf_limbs n);rw[limbsOf_val]at h1;rcases Nat.lt_or_ge (limbsOf n).length 2 with h2|h2
 ·have:4294967296^(limbsOf n).length<=4294967296^1:=Nat.pow_le_pow_right om om;omega
 ·exact h2
theorem limbsOf_one{n:Nat}(h0:0<n)(h:n<4294967296):limbsOf n=[n]:=by have:=limbsOf_eq (l:=[n]) (limbs_one h) (by intro _;simp;omega);rwa[val_one]at this
theorem lv_one(n:Nat):lv [n]=[.sc (.int .u32 (n:Int))]:=rfl
end
section
open Go.RowKit
theorem VLe.tu{ok:Nat->Bool}{cs ds:List V}(h:LLe ok cs ds)(hl:cs.length=ds.length):VLe ok (.tu cs) (.tu ds):=by
 intro S rho A w v hr;cases hr with
 |tu h1 h2=>
  refine .tu om λi x u hx hu=> ?_;have hi:=(List.getElem?_eq_some_iff.1 hx).1;have hy:cs[i]? =some cs[i]:=zlb om;exact h.2 i _ x hy hx _ _ _ _ _ (h2 i _ u hy hu)
theorem pshort_i(a:List Nat)(d:Nat)(ha:limbs a)(hm:a.length<=1000000000000)(hd:0<d)(hd2:d<4294967296):Spec Tryz.prog 141 [sv a,.sc (.int .u32 d)] (.tu [sv (dg a.length (val a/d)),.sc (.int .u32 (val a % d:Nat))]):=by
 unfold sv;refine qF Tryz.func141 Tryz.ntmps141 λB hB=> ?_;refine qYf @lv_len ?_;refine SC.loop (λx:Nat×Nat×List Nat=>⟨[(0,.im (lv a) a.length),(1,.sc (.int .u32 d)),(6,.sl 0 0 a.length 1 none),(7,.sc (.int .u64 x.2.1)),(8,.sc (.int .i64 ((x.1:Int)-1)))],[(0,⟨117,lv x.2.2,false⟩)],1,42⟩)
  (λx=>x.1<=a.length/\shortInv a d x.1 x.2.1 x.2.2) (λx=>x.1) (a.length,0,List.replicate a.length 0) ?_ ?_ ?_
 ·refine qLn0r ?_;exact LLe.lv (lv_rep _)
 ·exact⟨znb _,by simp,limbs_replicate _,hd,by simp[val]⟩
 ·rintro⟨k,r,z⟩ ⟨hk,hI⟩ K hK;simp only at hk hI⊢;have hz:z.length=a.length:=hI.1;by_cases h0:k=0
  ·subst h0;have q1:decide ((0:Int)<=((0:Nat):Int)-1)=false:=by simp
   have hdn:=hI.done;have he:=dg_eq hI.2.1;rw[hdn.1,hz]at he;have ht:z.take a.length=z:=by rw[<-hz];exact List.take_length
   refine qYf @q1 ?_;refine retQ_ret Tryz.results141 qT (qTf (Q4 @lv_len @lv_take @lv_clo @ht)) ?_;have h3:=hI.2.2.1;rw[he,hz,<-hdn.2];have:(r:Int) % 4294967296=r:=by omega
   rw[this]
  ·obtain⟨j,rfl⟩: ∃j,k=j+1:=⟨k-1,by omega⟩
   have q1:decide ((0:Int)<=((j+1:Nat):Int)-1)=true:=by simp
   have hi:(((j+1:Nat):Int)-1).toNat=j:=by omega
   have hj:j<a.length:=by omega
   have la:=limbs_getD ha j;have ga:=lv_get hj;obtain⟨hst,hq⟩:=hI.step hj rfl la;have h3:=hI.2.2.1;generalize a.getD j 0=x at*;have hor:=or_up r x om la;have h4:((r*4294967296+x:Nat):Int).tdiv (d:Int)=(((r*4294967296+x)/d:Nat):Int):=(Int.ofNat_tdiv _ _).symm;have h5:((r*4294967296+x:Nat):Int).tmod (d:Int)=(((r*4294967296+x) % d:Nat):Int):=(Int.ofNat_tmod _ _).symm;have h4':((r*4294967296+x:Nat):Int)/(d:Int)=(((r*4294967296+x)/d:Nat):Int):=by simp
   have h5':((r*4294967296+x:Nat):Int) % (d:Int)=(((r*4294967296+x) % d:Nat):Int):=by simp
   have h6:(r*4294967296+x) % d<d:=Nat.mod_lt _ hd;generalize(r*4294967296+x)/d=Q at*;generalize(r*4294967296+x) % d=M at*;refine qYf (Q11 @q1 @hi @ga @hor @h4 @h5 @h4' @h5' @mi32 @lv_len @gD) ?_;refine hK _ (j,M,z.set j Q) ?_ ⟨by simp only;omega,hst⟩ (by simp only;omega);refine qLn0r ?_;exact LLe.lv (lv_set om)
def DivTo(X Y:Nat)(x:V):Prop:= ∃q r:List Nat,x= .tu [sv q,sv r]/\limbs q/\limbs r/\val q=X/Y/\val r=X % Y/\q.length<=(limbsOf X).length+2/\r.length<=(limbsOf X).length+(limbsOf Y).length+2
theorem nat_lt_of_len{m n:Nat}(h:(limbsOf m).length<(limbsOf n).length):m<n:=by have h1:=val_lt (limbsOf_limbs m);have h2:=canon_ge (limbsOf_canon n) (by intro e;rw[e]at h;simp at h);rw[limbsOf_val]at h1 h2;have h3:4294967296^(limbsOf m).length<=4294967296^((limbsOf n).length-1):=Nat.pow_le_pow_right om om;omega
theorem len_le_of{m n:Nat}(h:m<=n):(limbsOf m).length<=(limbsOf n).length:=by refine Nat.le_of_not_lt λhlt=> ?_;have:=nat_lt_of_len hlt;omega
theorem div_less(X Y:Nat)(hX:(limbsOf X).length<=300000000000)(hY:(limbsOf Y).length<=300000000000)(h:X<Y): ∃x,DivTo X Y x/\Spec Tryz.prog 138 [sv (limbsOf X),sv (limbsOf Y)] x:=by
 refine⟨_,⟨[],limbsOf X,rfl,λx h=>(by simp at h),limbsOf_limbs _,(Nat.div_eq_of_lt h).symm,by rw[limbsOf_val,Nat.mod_eq_of_lt h],by simp,by omega⟩,?_⟩;have c1:=compare_n X Y om om;rw[Int.sign_eq_neg_one_of_neg om]at c1;have c2:=clone_l (limbsOf X) om;have q1:decide ((-1:Int)<0)=true:=by decide
 unfold sv at*;refine qF Tryz.func138 Tryz.ntmps138 λB hB=> ?_;refine qWf (Q2 @q1 @lv_len) ?_;exact qE Tryz.results138
theorem div_two(X Y:Nat)(hX:(limbsOf X).length<=2)(h0:0<Y)(h:Y<=X): ∃x,DivTo X Y x/\Spec Tryz.prog 138 [sv (limbsOf X),sv (limbsOf Y)] x:=by
 have hlY:=len_le_of h;have bX:X<18446744073709551616:=by have h1:=val_lt (limbsOf_limbs X);rw[limbsOf_val]at h1;have:4294967296^(limbsOf X).length<=4294967296^2:=Nat.pow_le_pow_right om hX;omega
 have bq:X/Y<18446744073709551616:=Nat.lt_of_le_of_lt (Nat.div_le_self _ _) bX;have br:X % Y<18446744073709551616:=Nat.lt_of_le_of_lt (Nat.mod_le _ _) bX;have hlX:1<=(limbsOf X).length:=by
  rcases Nat.eq_zero_or_pos (limbsOf X).length with e|e;·have:=limbsOf_nil.1 (List.eq_nil_of_length_eq_zero e);omega
  ·exact e
 refine⟨_,⟨[X/Y % 4294967296,X/Y/4294967296],[X % Y % 4294967296,X % Y/4294967296],rfl,limbs_two _ bq,limbs_two _ br,val_two _,val_two _,by simp,by simp⟩,?_⟩;have c1:=compare_n X Y om om;have hs:0<=((X:Int)-Y).sign:=by rcases Nat.lt_or_ge Y X with e|e;rw[Int.sign_eq_one_of_pos om];omega;rw[show(X:Int)-Y=0 by omega];decide
 have q1:=decide_eq_false (p:=((X:Int)-Y).sign<0) om;have q2:=decide_eq_true (p:=((limbsOf X).length:Int)<=2) om;have c2:=word_i (limbsOf X) (limbsOf_limbs _) hX;have c3:=word_i (limbsOf Y) (limbsOf_limbs _) om;rw[limbsOf_val]at c2 c3;have c4:=limbs_s (X/Y) bq;have c5:=limbs_s (X % Y) br;have e4:(X:Int).tdiv (Y:Int)=((X/Y:Nat):Int):=(Int.ofNat_tdiv _ _).symm;have e5:(X:Int).tmod (Y:Int)=((X % Y:Nat):Int):=(Int.ofNat_tmod _ _).symm;generalize((X:Int)-Y).sign=s at*;unfold sv at*;generalize X/Y=Q at*;generalize X % Y=R at*;refine qF Tryz.func138 Tryz.ntmps138 λB hB=> ?_;refine qWf (Q5 @q1 @q2 @e4 @e5 @lv_len) ?_;exact qE Tryz.results138
theorem div_one(X Y:Nat)(hX:(limbsOf X).length<=300000000000)(hX2:2<(limbsOf X).length)(h0:0<Y)(h:Y<4294967296): ∃x,DivTo X Y x/\Spec Tryz.prog 138 [sv (limbsOf X),sv (limbsOf Y)] x:=by
 have gX:=val_lt (limbsOf_limbs X);rw[limbsOf_val]at gX;have hm:=Nat.mod_lt X h0;refine⟨_,⟨dg (limbsOf X).length (X/Y),[X % Y],rfl,dg_limbs _ _,limbs_one om,dg_val _ _ (Nat.lt_of_le_of_lt (Nat.div_le_self _ _) gX),val_one _,by rw[dg_len];omega,by simp⟩,?_⟩;have hl1:(limbsOf Y).length=1:=by rw[limbsOf_one h0 h];rfl
 have hlt:Y<X:=nat_lt_of_len om;have c1:=compare_n X Y om om;rw[Int.sign_eq_one_of_pos om]at c1;have c2:=pshort_i (limbsOf X) Y (limbsOf_limbs _) om h0 h;rw[limbsOf_val]at c2;rw[limbsOf_one h0 h]at c1⊢;have q1:decide ((1:Int)<0)=false:=by decide
 have q2:=decide_eq_false (p:=((limbsOf X).length:Int)<=2) om;have q3:(((1:Nat):Int)==1)=true:=by decide
 unfold sv at*;rw[lv_one]at*;simp only[List.length_singleton]at*;refine qF Tryz.func138 Tryz.ntmps138 λB hB=> ?_;refine qWf (Q4 @q1 @q2 @q3 @lv_len) ?_;exact qE Tryz.results138
end
section
open Go.RowKit
theorem dg_take: ∀(k j m:Nat),(dg (k+j) m).take k=dg k m
 |0,j,m=>by simp[dg]
 |k+1,j,m=>by rw[show k+1+j=(k+j)+1 by omega];simp only[dg,zl3];rw[dg_take k j]
theorem dg_drop: ∀(k j m:Nat),(dg (k+j) m).drop k=dg j (m/4294967296^k)
 |0,j,m=>by simp
 |k+1,j,m=>by rw[show k+1+j=(k+j)+1 by omega];simp only[dg,zl9];rw[dg_drop k j,Nat.div_div_eq_div_mul,Nat.pow_succ,Nat.mul_comm]
theorem dg_getD: ∀(k i m:Nat),i<k->(dg k m).getD i 0=m/4294967296^i % 4294967296
 |k+1,0,m,_=>by simp[dg]
 |k+1,i+1,m,h=>by have:=dg_getD k i (m/4294967296) om;simp only[dg];rw[show(m % 4294967296::dg k (m/4294967296)).getD (i+1) 0=(dg k (m/4294967296)).getD i 0 from rfl,this,Nat.div_div_eq_div_mul,Nat.pow_succ,Nat.mul_comm]
theorem take_succ_getD{l:List Nat}{i:Nat}(h:i<l.length):l.take (i+1)=l.take i++ [l.getD i 0]:=by rw[List.take_succ_eq_append_getElem h,List.getD_eq_getElem?_getD,zlb h];rfl
theorem only_lv(p:Nat->Prop)(l:List Nat): ∀y∈lv l,Only p y:=λy hy=>by obtain⟨v,rfl⟩:=lv_sc l y hy;exact .sc _
structure Shifted(Y s n m:Nat):Prop where
 lt:Y*m<4294967296^n
 top:2147483648<=(dg (n+1) (Y*m)).getD (n-1) 0
theorem shifted{Y n t:Nat}(hn:(limbsOf Y).length=n)(h1:1<=n)(ht:(limbsOf Y).getD (n-1) 0=t):Shifted Y (32-bl t) n (2^(32-bl t))/\t≠0/\bl t<=32/\t<4294967296:=by
 have tl:=limbs_getD (limbsOf_limbs Y) (n-1);rw[ht]at tl;have hb:=bl_le_of (x:=t) (k:=32) om;have t0:t≠0:=by have hc:=limbsOf_canon Y (by intro e;rw[e]at hn;simp at hn;omega);rw[List.getLast_eq_getElem]at hc;rw[List.getD_eq_getElem?_getD,zlb om]at ht;simp only[hn]at hc;intro e;exact hc (by simpa[e]using ht)
 have hv:=val_last (z:=limbsOf Y) (n:=n-1) om;rw[limbsOf_val,ht]at hv;have hlt:=val_lt (limbs_take (limbsOf_limbs Y) (n-1));rw[List.length_take,Nat.min_eq_left om]at hlt;obtain⟨a1,a2⟩:=bl_le t0;have a3:=bl_lt t;have p1:2^bl t*2^(32-bl t)=4294967296:=by rw[<-Nat.pow_add,show bl t+(32-bl t)=32 by omega]
 have p2:2^(bl t-1)*2^(32-bl t)=2147483648:=by rw[<-Nat.pow_add,show bl t-1+(32-bl t)=31 by omega]
 have p3:4294967296^n=4294967296^(n-1)*4294967296:=by rw[<-Nat.pow_succ,show(n-1).succ=n by omega]
 generalize hMM:4294967296^(n-1)=M at*;have hM:0<M:=by omega
 generalize 2^(32-bl t)=p at*;have u1:Y*p<M*4294967296:=by
  have b1:Y<M*(t+1):=by rw[Nat.mul_add];omega
  have b2:M*(t+1)<=M*2^bl t:=Nat.mul_le_mul_left _ om;have hp:0<p:=by rcases Nat.eq_zero_or_pos p with e|e;subst e;omega;exact e
  have b3:=Nat.mul_lt_mul_of_pos_right (Nat.lt_of_lt_of_le b1 b2) hp;rw[Nat.mul_assoc,p1]at b3;exact b3
 refine⟨⟨by rw[p3];exact u1,?_⟩,t0,hb,tl⟩;rw[dg_getD _ _ _ om];rw[hMM];have u2:2147483648*M<=Y*p:=by
  have c1:2^(bl t-1)*p<=t*p:=Nat.mul_le_mul_right _ a1;have c2:M*t<=Y:=by omega
  have c3:=Nat.mul_le_mul_right p c2;have c4:M*2147483648<=M*(t*p):=Nat.mul_le_mul_left _ om;rw[<-Nat.mul_assoc]at c4;omega
 have d1:=(Nat.le_div_iff_mul_le hM).2 u2;have d2:=Nat.div_lt_of_lt_mul u1;rw[Nat.mod_eq_of_lt d2];exact d1
theorem div_long(X Y:Nat)(hX:(limbsOf X).length<=300000000000)(hX2:2<(limbsOf X).length)(h0:2<=(limbsOf Y).length)(h:Y<=X): ∃x,DivTo X Y x/\Spec Tryz.prog 138 [sv (limbsOf X),sv (limbsOf Y)] x:=by
 have hlY:=len_le_of h;have c1:=compare_n X Y om om;have hs0:0<=((X:Int)-Y).sign:=by rcases Nat.lt_or_ge Y X with e|e;rw[Int.sign_eq_one_of_pos om];omega;rw[show(X:Int)-Y=0 by omega];decide
 have gX:=val_lt (limbsOf_limbs X);rw[limbsOf_val]at gX;obtain⟨hSh,ht0,htb,htl⟩:=shifted (Y:=Y) rfl om rfl;have hY0:0<Y:=by
  rcases Nat.eq_zero_or_pos Y with e|e;·rw[e]at h0;simp[limbsOf_zero]at h0
  ·exact e
 have gY:=canon_ge (limbsOf_canon Y) (by intro e;rw[e]at h0;simp at h0);rw[limbsOf_val]at gY;have c3:=shift_n (limbsOf X) (32-bl ((limbsOf Y).getD ((limbsOf Y).length-1) 0)) (limbsOf_limbs _) (by have:=(bl_le ht0).2;omega) om;have c4:=shift_n (limbsOf Y) (32-bl ((limbsOf Y).getD ((limbsOf Y).length-1) 0)) (limbsOf_limbs _) (by have:=(bl_le ht0).2;omega) om;have c2:=lz32_s _ htl;have gt:=lv_get (l:=limbsOf Y) (i:=(limbsOf Y).length-1) om;rw[limbsOf_val]at c3 c4;have hRlt:X % Y<4294967296^(limbsOf Y).length:=by have h1:=val_lt (limbsOf_limbs Y);rw[limbsOf_val]at h1;have:=Nat.mod_lt X hY0;omega
 have hQlt:X/Y<4294967296^((limbsOf X).length-(limbsOf Y).length+1):=by refine Nat.div_lt_of_lt_mul (Nat.lt_of_lt_of_le gX ?_);refine Nat.le_trans ?_ (Nat.mul_le_mul_right _ gY);rw[<-Nat.pow_add];exact Nat.pow_le_pow_right om om
 refine⟨_,⟨dg ((limbsOf X).length-(limbsOf Y).length+1) (X/Y),dg (limbsOf Y).length (X % Y),rfl,dg_limbs _ _,dg_limbs _ _,dg_val _ _ hQlt,dg_val _ _ hRlt,by rw[dg_len];omega,by rw[dg_len];omega⟩,?_⟩;have q1:=decide_eq_false (p:=((X:Int)-Y).sign<0) om;have q2:=decide_eq_false (p:=((limbsOf X).length:Int)<=2) om;have q3:(((limbsOf Y).length:Int)==1)=false:=by rw[beq_eq_false_iff_ne];omega
 unfold sv at*;rw[dg_len,dg_len];generalize((X:Int)-Y).sign=sg at*;generalize hlx:(limbsOf X).length=lx at*;generalize hn:(limbsOf Y).length=n at*;generalize(limbsOf Y).getD (n-1) 0=t at*;generalize hs:32-bl t=s at*;have i1:((n:Int)-1).toNat=n-1:=by omega
 have hN:((lx:Int)-n+1).toNat=lx-n+1:=by omega
 refine qF Tryz.func138 Tryz.ntmps138 λB hB=> ?_;refine qWf (Q9 @q1 @q2 @q3 @i1 @gt @lv_len @hlx @hn @gD) ?_
 (refine DO.callN Tab.go143 qT qS ?_;refine DNew.of (c3) rfl qT ?_)
 (repeat(refine DO.run qT ?_))
 (refine DO.callN Tab.go143 qT qS ?_;refine DNew.of (c4) rfl qT ?_)
 (repeat(refine DO.run qT ?_))
 (refine DO.nil (by kernel_rfl) ?_)
 refine qYf (Q10 @q1 @q2 @q3 @i1 @gt @lv_len @hlx @hn @gD @hN) ?_;have hp0:0<2^s:=Nat.pow_pos om;have hsl:s<=31:=by have:=(bl_le ht0).2;omega
 obtain⟨hYlt,htop⟩:=hSh;have hVt:(dg (n+1) (Y*2^s)).take n=dg n (Y*2^s):=dg_take n 1 _;have hVv:=dg_val n (Y*2^s) hYlt;have hVl:=dg_len (n+1) (Y*2^s);have hVb:=dg_limbs (n+1) (Y*2^s);have hinit:dvInv (X*2^s) (Y*2^s) n (lx-n+1) (dg (lx+1) (X*2^s)) (List.replicate (lx-n+1) 0):=by
  have hXX:X*2^s<4294967296^(lx+1):=by rw[Nat.pow_succ];have:=Nat.pow_le_pow_right (n:=2) om (show s<=32 by omega);exact Nat.mul_lt_mul_of_lt_of_le gX this om
  have hlt:X*2^s<4294967296^(lx-n+1)*(Y*2^s):=by rw[<-Nat.mul_assoc];refine Nat.mul_lt_mul_of_pos_right (Nat.lt_of_lt_of_le gX ?_) hp0;refine Nat.le_trans ?_ (Nat.mul_le_mul_left _ gY);rw[<-Nat.pow_add];exact Nat.pow_le_pow_right om om
  have hdv:=Nat.div_lt_of_lt_mul hlt;refine⟨dg_limbs _ _,limbs_replicate _,by rw[dg_len,List.length_replicate];omega,by simp,?_,?_⟩
  ·rw[show lx+1=(lx-n+1)+n by omega,dg_drop,dg_val _ _ (Nat.lt_trans hdv hYlt)];exact hdv
  ·rw[dg_val _ _ hXX];simp[val]
 generalize dg (n+1) (Y*2^s)=V at*;refine SC.loop (λy:Nat×List Nat×List Nat=>⟨[(0,.im (lv (limbsOf X)) lx),(1,.im (lv (limbsOf Y)) n),(10,.sc (.int .i64 s)),(11,.sc (.int .i64 n)),(12,.sl 0 0 (lx+1) 1 none),(13,.sl 1 0 n 1 (some n)),(14,.sl 2 0 (lx-n+1) 1 none),(15,.sc (.int .i64 ((y.1:Int)-1)))],[(0,⟨117,lv y.2.1,false⟩),(1,⟨117,lv V,false⟩),(2,⟨117,lv y.2.2,false⟩)],3,128⟩)
  (λy=>y.2.2.length=lx-n+1/\dvInv (X*2^s) (Y*2^s) n y.1 y.2.1 y.2.2) (λy=>y.1) (lx-n+1,dg (lx+1) (X*2^s),List.replicate (lx-n+1) 0) ?_ ?_ ?_
 ·(refine Le.of [] hB (by first|exact⟨znc _,λ_ _=>znc _⟩|(constructor<;>(try simp)<;>(try omega))) ?_ ?_<;>(repeat' (first|exact leSl_nil|exact leHp_nil|refine leSl_cons qT ?_ ?_|refine leHp_cons qT ?_ ?_|exact VLe.junk _|exact VLe.refl rfl|exact VLe.nil_sl _ _ _|exact VLe.int (by first|rfl|omega|(dsimp only;omega))|exact VLe.bool rfl|exact VLe.sl rfl (by first|rfl|omega|(dsimp only;omega)|(simp;done))|exact VLe.cap rfl (by first|rfl|omega|(dsimp only;omega)|(simp;done))|exact VLe.im rfl rfl|exact HLe.new rfl|exact HLe.same rfl (LLe.refl rfl)|refine HLe.same rfl ?_|exact LLe.nil _|exact LLe.refl rfl|exact LLe.cl rfl qS|exact LLe.clR rfl qS|refine LLe.cons ?_ ?_)))
  all_goals first|exact LLe.lv rfl|exact LLe.lv (lv_rep _)
 ·exact⟨by simp,hinit⟩
 ·rintro⟨k,Z,q⟩ ⟨hql,hI⟩ K hK;simp only at hql hI⊢;have hI':=hI;obtain⟨hZb,hqb,hZl,hkq,_,_⟩:=hI';by_cases hk0:k=0
  ·subst hk0;have q4:decide ((0:Int)<=((0:Nat):Int)-1)=false:=by simp
   obtain⟨f1,f2⟩:=hI.done hp0 hY0;have hqe:=dg_eq hqb;rw[f1,hql]at hqe;have hqt:q.take (lx-n+1)=q:=by rw[<-hql];exact List.take_length
   refine qYf (Q10 @q1 @q2 @q3 @i1 @gt @lv_len @hlx @hn @gD @q4) ?_;have hDg: ∀i,i<n->(dg n (X % Y)).getD i 0=((Z.getD (i+1) 0*4294967296+Z.getD i 0)/2^s) % 4294967296:=λi hi=>by rw[dg_getD _ _ _ hi,<-f2];exact(back_limb hZb om om).symm
   have hDl:=dg_len n (X % Y);have hDb:=dg_limbs n (X % Y);generalize dg n (X % Y)=D at*;refine SC.loop (λy:Nat×List Nat=>⟨[(10,.sc (.int .i64 s)),(12,.sl 0 0 (lx+1) 1 none),(14,.sl 2 0 (lx-n+1) 1 none),(16,.sl 3 0 n 1 none),(102,.sc (.int .i64 n)),(103,.sc (.int .i64 y.1))],[(0,⟨117,lv Z,false⟩),(2,⟨117,lv q,false⟩),(3,⟨117,lv y.2,false⟩)],4,128⟩)
    (λy=>y.1<=n/\y.2.length=n/\y.2.take y.1=D.take y.1) (λy=>n-y.1) (0,List.replicate n 0) ?_ ?_ ?_
   ·(refine Le.of [] hB (by first|exact⟨znc _,λ_ _=>znc _⟩|(constructor<;>(try simp)<;>(try omega))) ?_ ?_<;>(repeat' (first|exact leSl_nil|exact leHp_nil|refine leSl_cons qT ?_ ?_|refine leHp_cons qT ?_ ?_|exact VLe.junk _|exact VLe.refl rfl|exact VLe.nil_sl _ _ _|exact VLe.int (by first|rfl|omega|(dsimp only;omega))|exact VLe.bool rfl|exact VLe.sl rfl (by first|rfl|omega|(dsimp only;omega)|(simp;done))|exact VLe.cap rfl (by first|rfl|omega|(dsimp only;omega)|(simp;done))|exact VLe.im rfl rfl|exact HLe.new rfl|exact HLe.same rfl (LLe.refl rfl)|refine HLe.same rfl ?_|exact LLe.nil _|exact LLe.refl rfl|exact LLe.cl rfl qS|exact LLe.clR rfl qS|refine LLe.cons ?_ ?_)))
    all_goals first|exact LLe.lv rfl|exact LLe.lv (lv_rep _)
   ·exact⟨znc _,by simp,rfl⟩
   ·rintro⟨i,r⟩ ⟨hin,hrl,hrt⟩ K' hK';simp only at hin hrl hrt⊢;by_cases hlti:i<n
    ·have q5:=decide_eq_true (p:=(i:Int)<(n:Int)) om;have hi1:((i:Int)+1).toNat=i+1:=by omega
     have ga:=lv_get (l:=Z) (i:=i+1) om;have gb:=lv_get (l:=Z) (i:=i) om;have la:=limbs_getD hZb (i+1);have lb:=limbs_getD hZb i;have hD:=hDg i hlti;have hts:=take_succ_getD (l:=D) (i:=i) om;rw[hD]at hts;have htr:(r.set i ((Z.getD (i+1) 0*4294967296+Z.getD i 0)/2^s % 4294967296)).take (i+1)=D.take (i+1):=by rw[take_set_succ om,hts,hrt]
     generalize Z.getD (i+1) 0=a at*;generalize Z.getD i 0=b at*;have hor:=or_up a b la lb;have hms:min s 64=s:=by omega
     have hfd:((a*4294967296+b:Nat):Int).fdiv (2^s)=(((a*4294967296+b)/2^s:Nat):Int):=by rw[Int.fdiv_eq_ediv_of_nonneg _ (Int.le_of_lt (Int.pow_pos om))];simp
     have hwb:(a*4294967296+b)/2^s<18446744073709551616:=Nat.lt_of_le_of_lt (Nat.div_le_self _ _) om;generalize(a*4294967296+b)/2^s=w at*;refine qYf (Q18 @q1 @q2 @q3 @i1 @gt @lv_len @hlx @hn @gD @q5 @hi1 @ga @gb @hor @hms @hfd @mi32 @hrl) ?_;refine hK' _ (i+1,r.set i (w % 4294967296)) ?_ ⟨by simp only;omega,by simp[hrl],htr⟩ (by simp only;omega)
     (refine Le.of [] hB (by first|exact⟨znc _,λ_ _=>znc _⟩|(constructor<;>(try simp)<;>(try omega))) ?_ ?_<;>(repeat' (first|exact leSl_nil|exact leHp_nil|refine leSl_cons qT ?_ ?_|refine leHp_cons qT ?_ ?_|exact VLe.junk _|exact VLe.refl rfl|exact VLe.nil_sl _ _ _|exact VLe.int (by first|rfl|omega|(dsimp only;omega))|exact VLe.bool rfl|exact VLe.sl rfl (by first|rfl|omega|(dsimp only;omega)|(simp;done))|exact VLe.cap rfl (by first|rfl|omega|(dsimp only;omega)|(simp;done))|exact VLe.im rfl rfl|exact HLe.new rfl|exact HLe.same rfl (LLe.refl rfl)|refine HLe.same rfl ?_|exact LLe.nil _|exact LLe.refl rfl|exact LLe.cl rfl qS|exact LLe.clR rfl qS|refine LLe.cons ?_ ?_)))
     all_goals first|exact LLe.lv rfl|exact LLe.lv (lv_set om)
    ·have hie:i=n:=by omega
     subst hie;have q5:=decide_eq_false (p:=(i:Int)<(i:Int)) om;have hrD:r=D:=by rw[zla om,zla om]at hrt;exact hrt
     subst hrD;have hrt2:r.take i=r:=by rw[<-hrl];exact List.take_length
     refine qYf (Q10 @q1 @q2 @q3 @i1 @gt @lv_len @hlx @hn @gD @q5) ?_;refine retQ_ret Tryz.results138 qT (qTf (Q5 @lv_len @lv_take @lv_clo @hqt @hrt2)) ?_;rw[hqe]
  ·obtain⟨j,rfl⟩: ∃j,k=j+1:=⟨k-1,by omega⟩
   have q4:decide ((0:Int)<=((j+1:Nat):Int)-1)=true:=by simp
   have hi:(((j+1:Nat):Int)-1).toNat=j:=by omega
   obtain⟨g1,g2,g3⟩:=hI.seg hYlt;have hdig:=digit_i Z V j n hZb hVb om om om om htop (by rw[hVt,hVv];exact g3);rw[hVt,hVv]at hdig;refine qYf (Q10 @q1 @q2 @q3 @i1 @gt @lv_len @hlx @hn @gD @q4) ?_;refine SC.ops ?_;refine qRf (Q10 @q1 @q2 @q3 @i1 @gt @lv_len @hlx @hn @gD @hi) ?_;have hi2:(((j+1:Nat):Int)-1+(n:Int)+1).toNat-j=n+1:=by omega
   refine SO.inl qT Tab.go144 (qTf @hi2) qS ?_;refine SInl.of hdig (by simp(disch:=omega) only[go_sem,↓reduceIte,zn1,zn2,zn3,zn4,zn5,zn6,reduceCtorEq,zn7,zi1,zi2,if_pos,if_neg,Int.reduceAdd];try exact⟨rfl,rfl,trivial⟩) (.sc _) ⟨only_lv _ _,only_lv _ _,trivial⟩ qT (by simp(disch:=omega) only[go_sem,↓reduceIte,zn1,zn2,zn3,zn4,zn5,zn6,reduceCtorEq,zn7,zi1,zi2,if_pos,if_neg,Int.reduceAdd,decide_true,decide_false];rfl) ?_;have hst:=hI.step hYlt (Nat.mul_pos hY0 hp0) (dg_limbs (n+1) _) (dg_len _ _) (dg_val _ _ (Nat.lt_of_lt_of_le (Nat.mod_lt _ (Nat.mul_pos hY0 hp0)) (Nat.le_trans (Nat.le_of_lt hYlt) (Nat.pow_le_pow_right om om))));have hseg:seg Z j (dg (n+1) (val ((Z.drop j).take (n+1)) % (Y*2^s)))=Z.take j++(dg (n+1) (val ((Z.drop j).take (n+1)) % (Y*2^s))++Z.drop (j+(n+1))):=by unfold seg;rw[dg_len]
   rw[<-hseg]at hst;generalize val ((Z.drop j).take (n+1))/(Y*2^s)=d at*;generalize seg Z j (dg (n+1) (val ((Z.drop j).take (n+1)) % (Y*2^s)))=Z' at*;refine qRf (Q11 @q1 @q2 @q3 @i1 @gt @lv_len @hlx @hn @gD @hi @hql) ?_;refine qYf (Q9 @q1 @q2 @q3 @i1 @gt @lv_len @hlx @hn @gD) ?_;refine hK _ (j,Z',q.set j d) ?_ ⟨by simp[hql],hst⟩ (by simp only;omega)
   (refine Le.of [] hB (by first|exact⟨znc _,λ_ _=>znc _⟩|(constructor<;>(try simp)<;>(try omega))) ?_ ?_<;>(repeat' (first|exact leSl_nil|exact leHp_nil|refine leSl_cons qT ?_ ?_|refine leHp_cons qT ?_ ?_|exact VLe.junk _|exact VLe.refl rfl|exact VLe.nil_sl _ _ _|exact VLe.int (by first|rfl|omega|(dsimp only;omega))|exact VLe.bool rfl|exact VLe.sl rfl (by first|rfl|omega|(dsimp only;omega)|(simp;done))|exact VLe.cap rfl (by first|rfl|omega|(dsimp only;omega)|(simp;done))|exact VLe.im rfl rfl|exact HLe.new rfl|exact HLe.same rfl (LLe.refl rfl)|refine HLe.same rfl ?_|exact LLe.nil _|exact LLe.refl rfl|exact LLe.cl rfl qS|exact LLe.clR rfl qS|refine LLe.cons ?_ ?_)))
   all_goals first|exact LLe.lv rfl|exact LLe.lv (lv_set rfl)
end
section
open Go.RowKit
theorem divide_any(X Y:Nat)(hX:(limbsOf X).length<=300000000000)(hY:(limbsOf Y).length<=300000000000)(h0:0<Y): ∃x,DivTo X Y x/\Spec Tryz.prog 138 [sv (limbsOf X),sv (limbsOf Y)] x:=by
 rcases Nat.lt_or_ge X Y with h|h;·exact div_less X Y hX hY h
 ·rcases Nat.lt_or_ge 2 (limbsOf X).length with h2|h2
  ·rcases Nat.lt_or_ge Y 4294967296 with h3|h3;·exact div_one X Y hX h2 h0 h3
   ·exact div_long X Y hX h2 (limbsOf_ge h3) h
  ·exact div_two X Y h2 h0 h
theorem sgn_abs(x:Int):sgn (decide (x<0)) x.natAbs=x:=by
 unfold sgn;by_cases h:x<0;·simp[h];omega
 ·simp[h];omega
theorem pdivmod_i(x y:Int)(K:Nat)(hx:Fits K x)(hy:Fits K y)(hK:K<=200000000000)(h0:y≠0):Spec Tryz.prog 131 [iv x,iv y] (.tu [iv (x/y),iv (x % y),.sc (.int .i64 0)]):=by
 have lx:=fits_len hx;have ly:=fits_len hy;have hY:0<y.natAbs:=by omega
 obtain⟨r,⟨ql,rl,rfl,hql,hrl,vq,vr,lq,lr⟩,c3⟩:=divide_any x.natAbs y.natAbs om om hY;have c1:=trim_n x.natAbs om;have c2:=trim_n y.natAbs om;have c4:=trim_i rl hrl om;rw[vr]at c4;have hR:x.natAbs % y.natAbs<y.natAbs:=Nat.mod_lt _ hY;have lR:(limbsOf (x.natAbs % y.natAbs)).length<=(limbsOf y.natAbs).length:=len_le_of om;have hQ:x.natAbs/y.natAbs<=x.natAbs:=Nat.div_le_self _ _;have lQ:(limbsOf (x.natAbs/y.natAbs)).length<=(limbsOf x.natAbs).length:=len_le_of hQ;obtain⟨s1,s2⟩:=divmod_spec (decide (x<0)) (decide (y<0)) x.natAbs y.natAbs hY;rw[sgn_abs,sgn_abs]at s1 s2;have q1:(((limbsOf y.natAbs).length:Int)==0)=false:=by
  rw[beq_eq_false_iff_ne];have:limbsOf y.natAbs≠ []:=λh=>by have:=limbsOf_nil.1 h;omega
  have:=List.length_pos_iff.2 this;omega
 have hne: ∀b c:Bool,(b !=c)=decide (b≠c):=by intro b c;cases b<;>cases c<;>rfl
 by_cases hn:x<0/\0<x.natAbs % y.natAbs
 ·obtain⟨hneg,hpos⟩:=hn;have hnx:=decide_eq_true hneg;rw[hnx]at s1 s2;simp only[true_and,if_pos hpos]at s1 s2;have q2:=decide_eq_true (p:=(0:Int)<((limbsOf (x.natAbs % y.natAbs)).length:Int)) (by
   have:limbsOf (x.natAbs % y.natAbs)≠ []:=λh=>by have:=limbsOf_nil.1 h;omega
   have:=List.length_pos_iff.2 this;omega)
  have c5:=trim_i ql hql om;rw[vq]at c5;have c6:=pplus_i (limbsOf (x.natAbs/y.natAbs)) [1] (limbsOf_limbs _) (limbs_one om) om (by simp);rw[limbsOf_val,val_one]at c6;have c7:=pminus_i (limbsOf y.natAbs) (limbsOf (x.natAbs % y.natAbs)) (limbsOf_limbs _) (limbsOf_limbs _) om lR (by rw[limbsOf_val,limbsOf_val];omega);rw[limbsOf_val,limbsOf_val]at c7;have gq:=val_lt (limbsOf_limbs (x.natAbs/y.natAbs));rw[limbsOf_val]at gq;have c8:=pvalue_dg (max (limbsOf (x.natAbs/y.natAbs)).length [1].length+1) (x.natAbs/y.natAbs+1) (true !=decide (y<0)) (x/y) (by
    rw[<-s1,hne];unfold sgn;by_cases hb:y<0<;>simp[hb]) (by
    have:4294967296^(limbsOf (x.natAbs/y.natAbs)).length<=4294967296^max (limbsOf (x.natAbs/y.natAbs)).length [1].length:=Nat.pow_le_pow_right om om;rw[Nat.pow_succ];omega) (by simp;omega)
  have gy:=val_lt (limbsOf_limbs y.natAbs);rw[limbsOf_val]at gy;have c9:=pvalue_dg (limbsOf y.natAbs).length (y.natAbs-x.natAbs % y.natAbs) false (x % y) (by rw[<-s2];unfold sgn;simp;omega) om om;unfold iv sv at*;rw[hnx];rw[lv_one]at c6;simp only[List.length_singleton]at c6 c8;refine qF Tryz.func131 Tryz.ntmps131 λB hB=> ?_;refine qWf (Q3 @q1 @q2 @lv_len) ?_;exact qE Tryz.results131
 ·have hif: ¬(decide (x<0)=true/\0<x.natAbs % y.natAbs):=by rw[decide_eq_true_eq];exact hn
  rw[if_neg hif]at s1 s2;have c8:=value_i (decide (x<0) !=decide (y<0)) ql hql om;rw[vq,show sgn (decide (x<0) !=decide (y<0)) (x.natAbs/y.natAbs)=x/y by rw[<-s1,hne];unfold sgn;by_cases hb:decide (x<0)=decide (y<0)<;>simp[hb]]at c8
  have c9:=pvalue_n (x.natAbs % y.natAbs) false (x % y) (by rw[<-s2];rfl) om;by_cases hneg:x<0
  ·have hnx:=decide_eq_true hneg;have q2:=decide_eq_false (p:=(0:Int)<((limbsOf (x.natAbs % y.natAbs)).length:Int)) (by
    have:x.natAbs % y.natAbs=0:=by omega
    rw[this,limbsOf_zero];simp)
   unfold iv sv at*;rw[hnx]at c8⊢;refine qF Tryz.func131 Tryz.ntmps131 λB hB=> ?_;refine qWf (Q3 @q1 @q2 @lv_len) ?_;exact qE Tryz.results131
  ·have hnx:=decide_eq_false hneg;unfold iv sv at*;rw[hnx]at c8⊢;refine qF Tryz.func131 Tryz.ntmps131 λB hB=> ?_;refine qWf (Q2 @q1 @lv_len) ?_;exact qE Tryz.results131
end
section
open Go.RowKit
end
section
open Go.RowKit
theorem rvalid_i(z:Int)(K:Nat)(hz:Fits K z)(hK:K<=1000000000000):Spec Tryz.prog 99 [iv z] (.sc (.bool true)):=by
 have lz:=fits_len hz;unfold iv sv;by_cases h0:z=0
 ·subst h0;have q1:(((limbsOf (0:Int).natAbs).length:Int)==0)=true:=by simp[limbsOf_zero]
  refine qF Tryz.func99 Tryz.ntmps99 λB hB=> ?_;refine qYf (Q2 @q1 @lv_len) ?_;exact qE Tryz.results99
 ·have hne:limbsOf z.natAbs≠ []:=λh=>h0 (by have:=limbsOf_nil.1 h;omega);have hpos:=List.length_pos_iff.2 hne;have q1:(((limbsOf z.natAbs).length:Int)==0)=false:=by rw[beq_eq_false_iff_ne];omega
  have hi:(((limbsOf z.natAbs).length:Int)-1).toNat=(limbsOf z.natAbs).length-1:=by omega
  have hg:=lv_get (l:=limbsOf z.natAbs) (i:=(limbsOf z.natAbs).length-1) om;have hc:=limbsOf_canon z.natAbs hne;rw[List.getLast_eq_getElem]at hc;have hx:(limbsOf z.natAbs).getD ((limbsOf z.natAbs).length-1) 0≠0:=by rw[List.getD_eq_getElem?_getD,zlb om];exact hc
  have q2:(((limbsOf z.natAbs).getD ((limbsOf z.natAbs).length-1) 0:Int) !=0)=true:=by rw[bne_iff_ne];omega
  refine qF Tryz.func99 Tryz.ntmps99 λB hB=> ?_;refine qYf (Q6 @q1 @q2 @hi @hg @lv_len @gD) ?_;exact qE Tryz.results99
end
section
open Go.RowKit
theorem Fits.ediv{K:Nat}{x y:Int}(hx:Fits K x):Fits K (x/y):=by have:=Int.natAbs_ediv_le_natAbs x y;unfold Fits at*;omega
theorem Fits.one{K:Nat}(h:1<=K):Fits K 1:=by have:=Nat.pow_le_pow_right (n:=4294967296) om h;unfold Fits;simp at*;omega
theorem Fits.zero(K:Nat):Fits K 0:=by unfold Fits;exact Nat.pow_pos om
def z0:List V:=[.sc (.bool false),.sc (.slice none 0 0)]
end
section
open Go
section
variable {P:Program}
theorem Spec.runD{f g i0 i1 n:Nat}{fn:Func}{r0:List Oper}{o:Oper}{rest:Code}{args:List V}{x:V}{s0 s1:SS}(hf:P.funcs[f]? =some fn)(hb:fn.body=some (.seq (.region i0 r0.toArray false) (.seq (.region i1 #[o] false) rest)))
  (ho:o.op= .defer {callee:= .value (.func g),args:= #[],argTypes:= #[]}) (hd:o.dst=none) (hg:o.guard=none) (hi:Idle P g) (hnt:fn.ntmps=n) (hn:args.length<=n) (h0:SS.start args n=s0) (h1:runL P r0.toArray s0 r0=some s1)
  (h: ∀B:Base,B.Old 0->SC P B [rest] (retQ P fn x) s1):Spec P f args x:=by
 subst hnt;subst h0;intro S w vs hS hT hargs;have hlen:vs.size=args.length:=by have:=hargs.1;simpa using this.symm
 refine calls_of_wp_defers hf hb ?_;have hB:(⟨w,S,λ_=>False,λ_=>0,λ_=>False,[]⟩:Base).Old 0:=λ_ h=>h.elim;refine wp_seq (wp_mono (SWp.region (Q:=λe s=>e= .normal/\s=s1) (SOps.all h1 ⟨rfl,rfl⟩) S (λ_=>0) (λ_=>False) ⟨vs++Array.replicate (fn.ntmps-vs.size) undef,[]⟩ w (B:=⟨w,S,λ_=>False,λ_=>0,λ_=>False,[]⟩) ?_) ?_)
 ·refine⟨λt=> ?_,?_,λ_ h=>h.elim,?_,rfl⟩
  ·show R S (λ_=>0) w (λ_=>False) (get (stSl 0 args) t) _;rw[get_start,if_pos (znc _),Nat.sub_zero];cases ht:args[t]?with
   |none=>exact .junk _
   | some y=>
    have hlt:=(List.getElem?_eq_some_iff.1 ht).1;have hu:vs.toList[t]? =some (vs[t]'om):=by simp[hlen,hlt]
    have:=hargs.2 t y _ ht hu;have he:(⟨vs++Array.replicate (fn.ntmps-vs.size) undef,[]⟩:Act).eval (.tmp t)=vs[t]'om:=by simp[Act.eval,Array.getElem?_append,hlen,hlt]
    rw[he];exact this
  ·exact{
    cells:=λid k hk=>by cases hk
    fz:=λid k hk=>by cases hk
    own:=λid k hk=>by cases hk
    inj:=λid id' k k' hk=>by cases hk
    slt:=hS
    sub:=λ_ h=>h
    base:=λ_ h=> .inl h
    frame:=⟨rfl,rfl,rfl,znb _,λ_ _ _=>rfl,λ_ _=>rfl,λ_ _ h=>h,hS,hT⟩
    keep:=λid h=>h.elim}
  ·simp[SS.start];omega
 ·rintro e a w1 ⟨S1,rho,A,s,⟨rfl,rfl⟩,hr⟩;have had:a.defers=[]:=hr.defs;refine wp_seq (wp_region_lit (l:=[o]) (wpList_step λK hK=> ?_));have hw:Region.wanted o (yielded [o].toArray a.tmps)=true:=by unfold Region.wanted;rw[hg]
  rw[hw,if_pos rfl];have hx:(execOp a.eval o).run P w1= .ok (.defer ⟨.fn (.func g) #[],#[]⟩) w1:=by obtain⟨d,op,g,ty,pos,aft⟩:=o;simp only at ho;subst ho;simp only[execOp,resolve,List.map_toArray,zle,Act.eval,Deferred.ofValue,Sem.run_bind,Sem.run_pure];rfl
  unfold Oper.wp;rw[hx,Oper.upon_defer];refine hK _ _ (wpList_nil ?_);rw[hd,had];refine wp_mono (SC.of (h ⟨w,S,λ_=>False,λ_=>0,λ_=>False,[⟨.fn (.func g) #[],#[]⟩]⟩ (λ_ h=>h.elim)) S1 rho A ⟨a.tmps,[⟨.fn (.func g) #[],#[]⟩]⟩ w1 ?_) ?_
  ·exact⟨hr.slots,{
    cells:=hr.mem.cells
    fz:=hr.mem.fz
    own:=hr.mem.own
    inj:=hr.mem.inj
    slt:=hr.mem.slt
    sub:=hr.mem.sub
    base:=hr.mem.base
    frame:=⟨hr.mem.frame.os,hr.mem.frame.tape,hr.mem.frame.output,hr.mem.frame.size,hr.mem.frame.block,hr.mem.frame.stay,hr.mem.frame.sz,hr.mem.frame.lt,hr.mem.frame.tab⟩
    keep:=hr.mem.keep},hr.alt,hr.nt,rfl⟩
  ·rintro e a w' ⟨S',rho,A,s,hq,hr⟩;have fin:(∃y ids,resV P fn s=some y/\frz 8 s.hp y=some (x,ids))->Leaves P fn a.tmps (λe w'=> ∃v',e= .returned v'/\Grow w w'/\Rc (λb=>S b\/(w.heap.size<=b/\b<w'.heap.size)) w' x v') a.defers .returning w':=by
    rintro⟨y,ids,h1,h2⟩;obtain⟨v,h3,h4⟩:=res_sound (P:=P) hr h1;have h5:=frz_sound hr.mem 8 y v x ids h2 h4;have hmf:=hr.mem.freeze ids h5.live;have hdf:a.defers=[⟨.fn (.func g) #[],#[]⟩]:=hr.defs;rw[hdf];refine leaves_cons (f:=g) (args:= #[]) (by simp) (by simpa[go_sem]using(hi w').1) ((hi w').2.mono ?_);rintro e u w2 ⟨⟨v2,rfl⟩,rfl,rfl⟩;refine⟨v,h3,v,rfl,⟨hr.mem.frame.os,hr.mem.frame.tape,hr.mem.frame.output,hr.mem.frame.size,λb hb=>hr.mem.frame.block b hb (λh=>h)⟩,?_⟩;refine(h5.rep.wide λb hb=> ?_).rho;rcases hmf.base b hb with h|h|h;·exact .inl h
    ·exact .inr ⟨h,hmf.slt b hb⟩
    ·exact h.elim
   cases e with
   |normal=>exact fin hq
   |ret=>exact fin hq
   |_=>exact hq.elim
end
end
section
open Go.RowKit
structure OpL where
 kd:Nat
 i:Nat
 j:Nat
 k:Int
def opC(o:OpL):List V:=[.sc (.int .i64 o.kd),.sc (.int .i64 o.i),.sc (.int .i64 o.j),.sc (.bool (decide (o.k<0))),sv (limbsOf o.k.natAbs)]
def opsC:List OpL->List V
 |[]=>[]
 |o::r=>opC o++opsC r
@[irreducible] def OL:Nat:=1000000000
theorem OL_eq:OL=1000000000:=by unfold OL;rfl
theorem OL_le:OL<=1000000000:=Nat.le_of_eq OL_eq
structure OkOp(n:Nat)(o:OpL):Prop where
 i:o.i<n
 k:Fits OL o.k
 c:(o.kd=1/\o.j<n/\o.i≠o.j/\o.k=0)\/(o.kd=2/\o.j=0/\o.k=0)\/(o.kd=3/\o.j<n/\o.i≠o.j)
theorem opsC_len: ∀l:List OpL,(opsC l).length=5*l.length
 |[]=>rfl
 |o::r=>by rw[opsC,zl1,opsC_len r,List.length_cons];show 5+_=_;omega
theorem opsC_drop: ∀{l:List OpL} {i:Nat},i<l.length->(opsC l).drop (i*5)=opC (l.getD i ⟨0,0,0,0⟩)++(opsC l).drop ((i+1)*5)
 |o::r,0,_=>by show opC o++opsC r=opC o++(opC o++opsC r).drop 5;rw[show(opC o++opsC r).drop 5=opsC r from rfl]
 | o::r,i+1,h=>by
  have e: ∀m,(m+1)*5=(opC o).length+m*5:=by intro m;show _=5+_;omega
  have hd: ∀m,(opsC (o::r)).drop ((m+1)*5)=(opsC r).drop (m*5):=by intro m;rw[e,opsC,List.drop_append];simp only[znd,List.drop_eq_nil_of_le (Nat.le_add_right _ _),zl7]
  rw[hd,hd];exact opsC_drop (by simpa using h)
theorem pvalid_i(z:Int)(K:Nat)(hz:Fits K z)(hK:K<=100000000000):Spec Tryz.prog 76 [iv z] (.sc (.bool true)):=by
 have hl:=fits_len hz;have h:=valid_g (limbsOf z.natAbs) _ (decide (z<0)) rfl om;have:validB (limbsOf z.natAbs) (decide (z<0))=true:=by
  unfold validB;split
  ·rename_i h0;have h1:=limbsOf_val z.natAbs;rw[List.eq_nil_of_length_eq_zero h0]at h1;have:z=0:=by simp[val]at h1;omega
   subst this;rfl
  ·rename_i h0;have hc:=limbsOf_canon z.natAbs;have hne:limbsOf z.natAbs≠ []:=λe=>h0 (by rw[e];rfl);have:=hc hne;rw[List.getLast_eq_getElem]at this;rw[List.getD_eq_getElem?_getD,zlb om];simpa using this
 rw[this]at h;exact h
theorem inN_s(i n:Int)(nx:Nat)(hnx:1<nx):Inl Tryz.prog 120 [.sc (.int .i64 i),.pt 1 0] [(1,⟨3,[.sc (.int .i64 n)],false⟩)] nx (.sc (.bool (decide (0<=i)&&decide (i<n)))) [(1,⟨3,[.sc (.int .i64 n)],false⟩)] nx:=by
 refine Inl.run Tryz.func120 rfl Tryz.ntmps120 (by simp) qT λB hB=> ?_;by_cases h1:0<=i
 ·have q1:=decide_eq_true h1;refine qWf @q1 ?_;refine retI_ret Tryz.results120 qS ?_;rw[q1,Bool.true_and];exact qM
 ·have q1:=decide_eq_false h1;refine qWf @q1 ?_;refine retI_ret Tryz.results120 qS ?_;rw[q1,Bool.false_and];exact qM
end
section
open Go.RowKit
theorem onlyN(p:Nat->Prop)(n:Int)(id ty:Nat):OnlyH p [(id,⟨ty,[.sc (.int .i64 n)],false⟩)]:=⟨λy hy=>by simp at hy;subst hy;exact .sc _,trivial⟩
set_option maxRecDepth 8000 in
theorem fits_s{n:Nat}{o:OpL}(h:OkOp n o)(hn:n<=1000000):Spec Tryz.prog 89 [.ag (opC o),.sc (.int .i64 n)] (.sc (.bool true)):=by
 obtain⟨kd,i,j,k⟩:=o;obtain⟨hi,hk,hc⟩:=h;simp only at hi hk hc;have hOL:=OL_le;have c1:=pvalid_i k OL hk om;have c2:=psign_i k OL hk om;have d1:=inN_s i n;have d2:=inN_s j n;have e1:(decide ((0:Int)<=(i:Int))&&decide ((i:Int)<(n:Int)))=true:=by simp;omega
 rw[e1]at d1;unfold opC;unfold iv sv at c1 c2;unfold sv;simp only;refine qF Tryz.func89 Tryz.ntmps89 λB hB=> ?_;refine qW ?_;refine SO.inl qS Tab.go120 qS qS ?_;refine SInl.of (d1 _ om) (by simp(disch:=omega) only[go_sem,↓reduceIte,zn1,zn2,zn3,zn4,zn5,zn6,reduceCtorEq,zn7,zi1,zi2,if_pos,if_neg,Int.reduceAdd]) (.sc _) (onlyN _ _ _ _) qS qS ?_;rcases hc with⟨rfl,hj,hij,rfl⟩|⟨rfl,rfl,rfl⟩|⟨rfl,hj,hij⟩
 ·have e2:(decide ((0:Int)<=(j:Int))&&decide ((j:Int)<(n:Int)))=true:=by simp;omega
  rw[e2]at d2;have e3:((i:Int) !=(j:Int))=true:=by simp;omega
  refine qWf (Q2 @e3 @Int.sign_zero) ?_;refine SO.inl qS Tab.go120 qS qS ?_;refine SInl.of (d2 _ om) (by simp(disch:=omega) only[go_sem,↓reduceIte,zn1,zn2,zn3,zn4,zn5,zn6,reduceCtorEq,zn7,zi1,zi2,if_pos,if_neg,Int.reduceAdd]) (.sc _) (onlyN _ _ _ _) qS qS ?_;refine qWf (Q2 @e3 @Int.sign_zero) ?_;exact qE Tryz.results89
 ·refine qWf @Int.sign_zero ?_;exact qE Tryz.results89
 ·have e2:(decide ((0:Int)<=(j:Int))&&decide ((j:Int)<(n:Int)))=true:=by simp;omega
  rw[e2]at d2;have e3:((i:Int) !=(j:Int))=true:=by simp;omega
  refine qWf (Q2 @e3 @Int.sign_zero) ?_;refine SO.inl qS Tab.go120 qS qS ?_;refine SInl.of (d2 _ om) (by simp(disch:=omega) only[go_sem,↓reduceIte,zn1,zn2,zn3,zn4,zn5,zn6,reduceCtorEq,zn7,zi1,zi2,if_pos,if_neg,Int.reduceAdd]) (.sc _) (onlyN _ _ _ _) qS qS ?_;refine qWf (Q2 @e3 @Int.sign_zero) ?_;exact qE Tryz.results89
theorem ivalid_s{n:Nat}{l:List OpL}(h: ∀o∈l,OkOp n o)(hn:n<=1000000)(hl:l.length<=1000000000):Spec Tryz.prog 54 [.im (opsC l) l.length,.sc (.int .i64 n)] (.sc (.bool true)):=by
 refine qF Tryz.func54 Tryz.ntmps54 λB hB=> ?_;refine qW ?_;refine SC.loop (λi:Nat=>⟨[(1,.sc (.int .i64 n)),(7,.im (opsC l) l.length),(8,.sc (.int .i64 l.length)),(9,.sc (.int .i64 i))],[],0,18⟩)
  (λi=>i<=l.length) (λi=>l.length-i) 0 ?_ ?_ ?_
 ·exact qL
 ·exact znc _
 ·intro i hi K hK;by_cases hc:i<l.length
  ·have q1:=decide_eq_true (p:=(i:Int)<(l.length:Int)) om;have g1:=opsC_drop hc;have g2:i*5<(opsC l).length:=by rw[opsC_len];omega
   have c1:=fits_s (h _ (getD_mem (d:=⟨0,0,0,0⟩) hc)) hn;generalize l.getD i ⟨0,0,0,0⟩=o at*;generalize(opsC l).drop ((i+1)*5)=D at*;unfold opC at g1 c1;simp only[zl8,zl7]at g1;refine qWf (Q3 @q1 @g1 @g2) ?_;refine hK _ (i+1) ?_ om om;exact qL
  ·have q1:=decide_eq_false (p:=(i:Int)<(l.length:Int)) om;refine qWf @q1 ?_;exact qE Tryz.results54
end
section
open Go.RowKit
def wv(l:List Nat):List V:=l.map λ(n:Nat)=> .sc (.int .i64 n)
theorem wv_clo(r:List Nat):(wv r).all clo=true:=by rw[zlf];intro x hx;obtain⟨n,_,rfl⟩:=List.mem_map.1 hx;rfl
structure Ids(o:Nat)(ids0 ids:List Nat)(n nx:Nat):Prop where
 len:ids.length=n
 nod:ids.Nodup
 sub: ∀i∈ids,i∈ids0
 lt: ∀i∈ids,i<nx
 o1:o<nx
 o2:o∉ids
theorem Ids.more{o n nx nx':Nat}{ids0 ids:List Nat}(h:Ids o ids0 ids n nx)(hn:nx<=nx'):Ids o ids0 ids n nx':=
 ⟨h.len,h.nod,h.sub,λi hi=>Nat.lt_of_lt_of_le (h.lt i hi) hn,Nat.lt_of_lt_of_le h.o1 hn,h.o2⟩
def swapN(ids:List Nat)(k q:Nat):List Nat:=(ids.set k (ids.getD q 0)).set q (ids.getD k 0)
theorem swapN_get{ids:List Nat}{k q:Nat}(hk:k<ids.length)(hq:q<ids.length)(i:Nat):(swapN ids k q).getD i 0=if i=q then ids.getD k 0 else if i=k then ids.getD q 0 else ids.getD i 0:=by unfold swapN;rw[getD_set (by simpa using hq),getD_set hk]
theorem Ids.swap{o n nx:Nat}{ids0 ids:List Nat}(h:Ids o ids0 ids n nx){k q:Nat}(hk:k<n)(hq:q<n):Ids o ids0 (swapN ids k q) n nx:=by
 have hl:=h.len;have hl2:(swapN ids k q).length=n:=by simp[swapN,hl]
 have hmem: ∀i∈swapN ids k q,i∈ids:=by
  intro i hi;obtain⟨j,hj,rfl⟩:=List.mem_iff_getElem.1 hi;have e:=swapN_get (ids:=ids) (k:=k) (q:=q) om om j;rw[List.getD_eq_getElem?_getD,zlb hj]at e;simp only[Option.getD_some]at e;rw[e];split;·exact getD_mem' om
  ·split;·exact getD_mem' om
   ·exact getD_mem' om
 refine⟨hl2,?_,λi hi=>h.sub i (hmem i hi),λi hi=>h.lt i (hmem i hi),h.o1,λho=>h.o2 (hmem o ho)⟩;rw[List.nodup_iff_pairwise_ne,List.pairwise_iff_getElem];intro i j hi hj hij e;have e1:=swapN_get (ids:=ids) (k:=k) (q:=q) om om i;have e2:=swapN_get (ids:=ids) (k:=k) (q:=q) om om j;rw[List.getD_eq_getElem?_getD,zlb hi]at e1;rw[List.getD_eq_getElem?_getD,zlb hj]at e2;simp only[Option.getD_some]at e1 e2;rw[e1,e2]at e;have inj:=λa b ha hb e=>nodup_getD h.nod (i:=a) (j:=b) ha hb e;have hi':i<n:=by omega
 have hj':j<n:=by omega
 split at e
 ·split at e;·omega
  ·split at e;·have:=inj _ _ om om e;omega
   ·have:=inj _ _ om om e;omega
 ·split at e
  ·split at e;·have:=inj _ _ om om e;omega
   ·split at e;·omega
    ·have:=inj _ _ om om e;omega
  ·split at e;·have:=inj _ _ om om e;omega
   ·split at e;·have:=inj _ _ om om e;omega
    ·have:=inj _ _ om om e;omega
theorem less_cons{i:Nat}{b:Blk}{r r':List (Nat×Blk)}(h: ∀id k,hget r' id=some k->hget r id=some k): ∀id k,hget ((i,b)::r') id=some k->hget ((i,b)::r) id=some k:=by
 intro id k hk;simp only[hget]at hk⊢;by_cases e:id=i;·rw[if_pos e]at hk⊢;exact hk
 ·rw[if_neg e]at hk⊢;exact h id k hk
end
section
open Go.RowKit
def ivC(z:Int):List V:=[.sc (.bool (decide (z<0))),sv (limbsOf z.natAbs)]
def ivR:List Int->List V
 |[]=>[]
 |z::r=>ivC z++ivR r
theorem ivR_len: ∀l:List Int,(ivR l).length=2*l.length
 |[]=>rfl
 |z::r=>by rw[ivR,zl1,ivR_len r,List.length_cons];show 2+_=_;omega
theorem ivR_app(a b:List Int):ivR (a++b)=ivR a++ivR b:=by
 induction a with
 |nil=>rfl
 |cons x r ih=>rw[zl8,ivR,ivR,ih,zl6]
theorem ivR_snoc(l:List Int)(z:Int):ivR l++ivC z=ivR (l++ [z]):=by rw[ivR_app];show _=_++(ivC z++ []);rw[List.append_nil]
theorem ivR_clo: ∀l:List Int,(ivR l).all clo=true
 |[]=>rfl
 |z::r=>by rw[ivR,List.all_append,ivR_clo r];rfl
theorem ivR_one: ∀l:List Int,(ivR l).all V.one=true
 |[]=>rfl
 |z::r=>by rw[ivR,List.all_append,ivR_one r];rfl
theorem ivR_drop: ∀{l:List Int} {i:Nat},i<l.length->(ivR l).drop (i*2)=ivC (l.getD i 0)++(ivR l).drop ((i+1)*2)
 |o::r,0,_=>rfl
 | o::r,i+1,h=>by
  have e: ∀m,(m+1)*2=(ivC o).length+m*2:=by intro m;show _=2+_;omega
  have hd: ∀m,(ivR (o::r)).drop ((m+1)*2)=(ivR r).drop (m*2):=by intro m;rw[e,ivR,List.drop_append];simp only[znd,List.drop_eq_nil_of_le (Nat.le_add_right _ _),zl7]
  rw[hd,hd];exact ivR_drop (by simpa using h)
theorem ivR_set: ∀{l:List Int} {i:Nat} (z:Int),i<l.length->setAll (ivR l) (i*2) (ivC z)=ivR (l.set i z)
 |o::r,0,z,_=>rfl
 |o::r,i+1,z,h=>by
  have h':i<r.length:=by simpa using h
  have ih:=ivR_set z h';rw[setAll_all _ _ _ (by rw[ivR_len];show _+2<=_;omega)]at ih;rw[setAll_all _ _ _ (by rw[ivR_len,List.length_cons];show _+2<=_;omega)];have e:(i+1)*2=(ivC o).length+i*2:=by show _=2+_;omega
  have e2:(i+1)*2+(ivC z).length=(ivC o).length+(i*2+(ivC z).length):=by omega
  rw[e2,e,ivR,List.take_length_add_append,List.drop_length_add_append,zl6,zl6,<-zl6 ((ivR r).take _),ih];rfl
def rI(M:List (List Int)):List (List V):=M.map ivR
theorem rI_len(M:List (List Int)):(rI M).length=M.length:=by simp[rI]
theorem rI_getD(M:List (List Int))(i:Nat):(rI M).getD i []=ivR (M.getD i []):=by unfold rI;rw[List.getD_eq_getElem?_getD,List.getElem?_map,List.getD_eq_getElem?_getD];cases M[i]? <;>rfl
theorem rI_set(M:List (List Int))(i:Nat)(r:List Int):(rI M).set i (ivR r)=rI (M.set i r):=by simp[rI,List.map_set]
theorem rI_clo(M:List (List Int)): ∀r∈rI M,r.all clo=true:=by intro r hr;obtain⟨q,_,rfl⟩:=List.mem_map.1 hr;exact ivR_clo q
structure MI(h w K:Nat)(M:List (List Int)):Prop where
 len:M.length=h
 row: ∀r∈M,r.length=w/\ ∀x∈r,Fits K x
theorem MI.get{h w K:Nat}{M:List (List Int)}(hM:MI h w K M){i:Nat}(hi:i<h):(M.getD i []).length=w/\ ∀x∈M.getD i [],Fits K x:=hM.row _ (getD_mem (d:=[]) (by rw[hM.len];exact hi))
theorem MI.fit{h w K:Nat}{M:List (List Int)}(hM:MI h w K M){i j:Nat}(hi:i<h)(hj:j<w):Fits K ((M.getD i []).getD j 0):=(hM.get hi).2 _ (getD_mem (d:=0) (by rw[(hM.get hi).1];exact hj))
theorem MI.mono{h w K L:Nat}{M:List (List Int)}(hM:MI h w K M)(hl:K<=L):MI h w L M:=⟨hM.len,λr hr=>⟨(hM.row r hr).1,λx hx=>((hM.row r hr).2 x hx).mono hl⟩⟩
theorem MI.set{h w K:Nat}{M:List (List Int)}(hM:MI h w K M){i:Nat}{r:List Int}(hr:r.length=w/\ ∀x∈r,Fits K x):MI h w K (M.set i r):=
 ⟨by rw[List.length_set];exact hM.len,λq hq=>by rcases List.mem_or_eq_of_mem_set hq with e|e;exact hM.row q e;exact e▸hr⟩
def mI(w:Nat)(M:List (List Int)):V:= .im (imR w (rI M)) M.length
def mat(w:Nat)(M:List (List Int)):V:= .ag [.sc (.int .i64 M.length),.sc (.int .i64 w),.im (imR w (rI M)) M.length]
theorem imI_len(w:Nat)(M:List (List Int)):(imR w (rI M)).length=M.length:=by simp[imR,rI]
theorem imI_get{w i:Nat}{M:List (List Int)}(h:i<M.length):(imR w (rI M))[i]? =some (.im (ivR (M.getD i [])) w):=by unfold imR rI;rw[List.getElem?_map,List.getElem?_map,getD_get' (d:=[]) h];rfl
theorem rI_rows{h w K:Nat}{M:List (List Int)}(hM:MI h w K M): ∀r∈rI M,r.length=w*2/\r.all clo=true:=by intro r hr;obtain⟨q,hq,rfl⟩:=List.mem_map.1 hr;refine⟨?_,ivR_clo q⟩;rw[ivR_len,(hM.row q hq).1,Nat.mul_comm]
def swapI(M:List (List Int))(i j:Nat):List (List Int):=(M.set i (M.getD j [])).set j (M.getD i [])
def negI(r:List Int):List Int:=r.map λx=> -x
def addI(a b:List Int)(k:Int):List Int:=a.mapIdx λc x=>x+k*b.getD c 0
def actO(M:List (List Int))(o:OpL):List (List Int):=
 if o.kd=1 then swapI M o.i o.j else if o.kd=2 then M.set o.i (negI (M.getD o.i []))else M.set o.i (addI (M.getD o.i []) (M.getD o.j []) o.k)
theorem negI_len(r:List Int):(negI r).length=r.length:=by simp[negI]
theorem addI_len(a b:List Int)(k:Int):(addI a b k).length=a.length:=by simp[addI]
theorem negI_get{r:List Int}{c:Nat}(h:c<r.length):(negI r).getD c 0= -(r.getD c 0):=by unfold negI;rw[List.getD_eq_getElem?_getD,List.getElem?_map,getD_get' (d:=0) h];rfl
theorem addI_get{a b:List Int}{k:Int}{c:Nat}(h:c<a.length):(addI a b k).getD c 0=a.getD c 0+k*b.getD c 0:=by unfold addI;rw[List.getD_eq_getElem?_getD,List.getElem?_mapIdx,getD_get' (d:=0) h];rfl
theorem swapI_get{M:List (List Int)}{i j:Nat}(hi:i<M.length)(hj:j<M.length)(k:Nat):(swapI M i j).getD k []=if k=j then M.getD i []else if k=i then M.getD j []else M.getD k []:=by unfold swapI;rw[getD_set (by simpa using hj),getD_set hi]
theorem swapI_len(M:List (List Int))(i j:Nat):(swapI M i j).length=M.length:=by simp[swapI]
theorem actO_len(M:List (List Int))(o:OpL):(actO M o).length=M.length:=by
 unfold actO;split;·exact swapI_len _ _ _
 ·split<;>exact List.length_set
theorem fits_add{K L:Nat}{x y k:Int}(hx:Fits K x)(hy:Fits K y)(hk:Fits L k):Fits (K+L+1) (x+k*y):=by
 unfold Fits at*;have h1:=Int.natAbs_add_le x (k*y);rw[Int.natAbs_mul]at h1;have h2:k.natAbs*y.natAbs<=4294967296^L*4294967296^K:=Nat.mul_le_mul (Nat.le_of_lt hk) (Nat.le_of_lt hy);have h3:0<4294967296^L:=Nat.pow_pos om;have h4:4294967296^K<=4294967296^L*4294967296^K:=Nat.le_mul_of_pos_left _ h3;have e:4294967296^(K+L+1)=4294967296*(4294967296^L*4294967296^K):=by rw[Nat.pow_succ,Nat.pow_add,Nat.mul_comm (4294967296^K),Nat.mul_comm _ 4294967296]
 rw[e];generalize 4294967296^L*4294967296^K=P at*;generalize 4294967296^K=T at*;omega
theorem MI.act{h w K:Nat}{M:List (List Int)}(hM:MI h w K M){o:OpL}(ho:OkOp h o):MI h w (K+OL+1) (actO M o):=by
 have hM2:=hM.mono (show K<=K+OL+1 by omega);have gi:=hM.get ho.i;unfold actO;split
 ·rename_i h1;have hj:o.j<h:=by rcases ho.c with⟨_,hj,_⟩|⟨e,_⟩|⟨e,_⟩<;>omega
  exact(hM2.set (hM2.get hj)).set (hM2.get ho.i)
 ·split
  ·refine hM2.set ⟨by rw[negI_len];exact gi.1,λx hx=> ?_⟩;obtain⟨y,hy,rfl⟩:=List.mem_map.1 hx;have:=(hM2.get ho.i).2 y hy;unfold Fits at*;rwa[Int.natAbs_neg]
  ·rename_i h1 h2;have hj:o.j<h:=by rcases ho.c with⟨e,_⟩|⟨e,_⟩|⟨_,hj,_⟩<;>omega
   refine hM2.set ⟨by rw[addI_len];exact gi.1,λx hx=> ?_⟩;obtain⟨c,hc,rfl⟩:=List.mem_iff_getElem.1 hx;rw[addI_len]at hc;have e:=addI_get (a:=M.getD o.i []) (b:=M.getD o.j []) (k:=o.k) hc;rw[List.getD_eq_getElem?_getD,zlb (by rw[addI_len];exact hc)]at e;simp only[Option.getD_some]at e;rw[e];exact fits_add (hM.fit ho.i om) (hM.fit hj om) ho.k
def actsO:List (List Int)->List OpL->List (List Int)
 |M,[]=>M
 |M,o::l=>actsO (actO M o) l
end
section
open Go.RowKit
theorem cloneI_s(r:List Int)(w nx:Nat)(hr:r.length=w)(hw:w<=1000000):Inl Tryz.prog 84 [.im (ivR r) w] [] nx (.sl nx 0 w 2 none) [(nx,⟨68,ivR r,false⟩)] (nx+1):=by
 have hl:=ivR_len r;rw[hr]at hl;have h1:=ivR_one r;have h2:(ivR r).take (w*2)=ivR r:=zla om;have e2:2*w=w*2:=Nat.mul_comm _ _;rw[e2]at hl;refine Inl.run Tryz.func84 rfl Tryz.ntmps84 (by simp) qT λB hB=> ?_;by_cases h0:w=0
 ·subst h0;have hrn:r=[]:=List.eq_nil_of_length_eq_zero hr;subst hrn;refine qWC ?_;refine SO.nilq qS qS qS qS λb=> ?_;cases b
  ·refine qWC ?_;exact retI_ret Tryz.results84 qS (Le.newSlice hB (Nat.le_succ _) qS qS rfl)
  ·refine qWC ?_;exact retI_ret Tryz.results84 qS (Le.nilSlice hB qS)
 ·refine qWCf (Q3 @hl @h1 @h2) ?_;exact retI_ret Tryz.results84 qS (Le.newSlice hB (Nat.le_succ _) qS qS (ivR_clo r))
def RowsI(w:Nat)(M:List (List Int))(nx:Nat)(x:V)(hp':List (Nat×Blk))(nx':Nat):Prop:=
 ∃o ids,RowsOk o ids M.length nx nx'/\x= .sl o 0 M.length 1 none/\hp'=(o,⟨41,slR 2 w ids,false⟩)::rowsH 68 ids (rI M)
theorem icopied_s{h w K:Nat}{M:List (List Int)}(hM:MI h w K M)(nx:Nat)(hn:h<=1000000)(hw:w<=1000000):InlQ Tryz.prog 77 [mI w M] [] nx (RowsI w M nx):=by
 have hl:=hM.len;have gl:=imI_len w M;unfold mI;refine InlQ.run Tryz.func77 rfl Tryz.ntmps77 (by simp) qT λB hB=> ?_;refine qWC ?_;refine SC.loop (λx:Nat×List Nat=>⟨[(3,.sl nx 0 M.length 1 (some M.length)),(9,.im (imR w (rI M)) M.length),(10,.sc (.int .i64 M.length)),(11,.sc (.int .i64 x.1))],(nx,⟨41,slR 2 w x.2++List.replicate (h-x.1) (.sc (.slice none 0 0)),false⟩)::rowsH 68 x.2 (rI (M.take x.1)),nx+1+x.1,23⟩)
  (λx=>x.1<=h/\RowsOk nx x.2 x.1 nx (nx+1+x.1)) (λx=>h-x.1) (0,[]) ?_ ?_ ?_
 ·rw[<-hl];exact qM
 ·exact⟨znc _,⟨rfl,List.nodup_nil,by simp,by omega,by simp⟩⟩
 ·rintro⟨i,ids⟩ ⟨hi,hR⟩ K hK;simp only at hi hR⊢;have hlt: ∀j∈ids,j<nx+1+i:=λj hj=>(hR.lt j hj).2;by_cases hc:i<h
  ·have q1:=decide_eq_true (p:=(i:Int)<(M.length:Int)) om;have g1:=imI_get (w:=w) (M:=M) (i:=i) om;have hr:=hM.get hc;have c1:=(cloneI_s (M.getD i []) w (nx+1+i) hr.1 hw).toQ;have hts:=take_snoc (d:=[]) (l:=M) (i:=i) om;have hcl:=ivR_clo (M.getD i []);have hcells:(slR 2 w ids++List.replicate (h-i) (V.sc (.slice none 0 0))).length=h:=by simp[slR_len,hR.len];omega
   have hset:(slR 2 w ids++List.replicate (h-i) (V.sc (.slice none 0 0))).set i (V.sl (nx+1+i) 0 w 2 none)=slR 2 w ids++V.sl (nx+1+i) 0 w 2 none::List.replicate (h-(i+1)) (V.sc (.slice none 0 0)):=by rw[List.set_append_right _ _ (by rw[slR_len,hR.len];exact znb _),slR_len,hR.len,Nat.sub_self,show h-i=(h-(i+1))+1 by omega,List.replicate_succ,List.set_cons_zero]
   generalize M.getD i []=r at*;generalize hC:slR 2 w ids++List.replicate (h-i) (V.sc (.slice none 0 0))=C at*;refine qWCf (Q4 @q1 @gl @g1 @gD) ?_;refine SO.inlQ qS Tab.go84 qS qS (SInlQ.new c1 ?_ ?_ ?_);·exact klc om (klr hlt)
   ·rintro x hp' nx' ⟨rfl,rfl,rfl⟩;exact⟨.sl (znb _),⟨λy hy=>Only.clo (List.all_eq_true.1 hcl y hy),trivial⟩⟩
   ·rintro x hp' nx' ⟨rfl,rfl,rfl⟩;refine qWCf (Q2 @hcells @hset) ?_;refine hK _ (i+1,ids++ [nx+1+i]) ?_ ⟨by simp only;omega,?_⟩ (by simp only;omega)
    ·rw[hts];have e:rI (M.take i++ [r])=rI (M.take i)++ [ivR r]:=by simp[rI]
     simp only[e];refine Le.rowIn ⟨nx,hB,by omega⟩ om (λj hj=>by have:=hlt j hj;omega) om (λh=>by have:=hlt _ h;omega) ?_ hcl (rI_clo _) (λx hx=>List.eq_of_mem_replicate hx) ?_;·rw[rI_len,hR.len,List.length_take];omega
     ·exact qN
    ·refine⟨by simp[hR.len],?_,λj hj=> ?_,by omega,?_⟩
     ·rw[List.nodup_append];exact⟨hR.nod,by simp,λa ha b hb=>by simp at hb;subst hb;have:=hlt a ha;omega⟩
     ·rcases List.mem_append.1 hj with g|g;·have:=hR.lt j g;omega
      ·simp at g;omega
     ·intro h;rcases List.mem_append.1 h with g|g;·exact hR.o2 g
      ·simp at g;omega
  ·have q1:=decide_eq_false (p:=(i:Int)<(M.length:Int)) om;have hin:i=h:=by omega
   subst hin;refine qWCf @q1 ?_;refine retIQ_ret (.sl nx 0 M.length 1 none) ((nx,⟨41,slR 2 w ids,false⟩)::rowsH 68 ids (rI M)) (nx+1+i) Tryz.results77 qT ⟨nx,ids,by rw[hl];exact hR,rfl,rfl⟩ ?_;rw[Nat.sub_self,zla om];simp only[List.replicate_zero,List.append_nil];exact Le.slots (leSl_cons qT (VLe.cap rfl rfl) leSl_nil) (λ_ _ h=>h) om
end
section
open Go.RowKit
def ActQ(w h o:Nat)(ids0:List Nat)(M:List (List Int))(nx:Nat)(x:V)(hp':List (Nat×Blk))(nx':Nat):Prop:=
 ∃ids',Ids o ids0 ids' h nx/\x= .tu []/\nx'=nx/\hp'=(o,⟨41,slR 2 w ids',false⟩)::rowsH 68 ids' (rI M)
theorem rowsI_swap{ty:TypeId}{ids:List Nat}{M:List (List Int)}{k q:Nat}(hn:ids.Nodup)(hl:ids.length=M.length)(hk:k<ids.length)(hq:q<ids.length): ∀id b,hget (rowsH ty (swapN ids k q) (rI (swapI M k q))) id=some b->hget (rowsH ty ids (rI M)) id=some b:=by
 refine rows_perm hn (by rw[rI_len];exact hl) λi h1 h2=> ?_;have h1':i<ids.length:=by simpa[swapN]using h1
 have e1:=swapN_get (ids:=ids) hk hq i;have e2:=swapI_get (M:=M) (i:=k) (j:=q) om om i;rw[rI_getD,e2];by_cases a:i=q;·exact⟨k,hk,by rw[e1,if_pos a],by rw[if_pos a,rI_getD]⟩
 ·by_cases b:i=k;·exact⟨q,hq,by rw[e1,if_neg a,if_pos b],by rw[if_neg a,if_pos b,rI_getD]⟩
  ·exact⟨i,h1',by rw[e1,if_neg a,if_neg b],by rw[if_neg a,if_neg b,rI_getD]⟩
theorem VMap.tu0{f:Nat->Nat}{D:Nat->Prop}:VMap f D (.tu []) (.tu []):=λ_ _ _ _ _ hx=>by
 cases hx with
 |tu h1 h2=>exact .tu h1 λi x u hx=>by cases hx
def clS:V->Bool
 | .sc _=>true
 |x=>clo x
theorem VMap.clS{f:Nat->Nat}{D:Nat->Prop}{x:V}(h:clS x=true):VMap f D x x:=by cases x<;>first|exact VMap.sc _|exact VMap.clo h
theorem Le.rowsDown(pre:List (Nat×Blk)){B:Base}{sl sl':List (Nat×V)}{hp:List (Nat×Blk)}{o m z nx nx1 nt:Nat}{ty tr:TypeId}{ids:List Nat}{rs:List (List V)}(hpre: ∀i k,hget pre i=some k->k.cs.all clS=true)(hB: ∃m,B.Old m/\m<=nx)(ho:o<nx)(hi: ∀i∈ids,i<nx)(hrc: ∀r∈rs,r.all clo=true)
  (hs: ∀id k,hget (pre++(o,(⟨ty,slR z m ids,false⟩:Blk))::rowsH tr ids rs) id=some k->hget hp id=some k) (h1:mapSl (λi=>i) (λi=>i<nx) sl sl'):
  Le B ⟨sl,hp,nx1,nt⟩ ⟨sl',pre++(o,⟨ty,slR z m ids,false⟩)::rowsH tr ids rs,nx,nt⟩:=by
 obtain⟨m0,hB,hm0⟩:=hB;refine Le.map (λi=>i) (λi=>i<nx) hB (λi hi=>⟨by omega,rfl⟩) (λi h=>h) (λi j _ _ e=>e) h1 (λi k' hk' hlt=> ?_);rw[hs i k' hk'];rw[hget_app]at hk';cases hp:hget pre i with
 |some q=>
  rw[hp]at hk';cases hk';exact⟨_,rfl,rfl,rfl,λj y hy=>⟨y,hy,VMap.clS (List.all_eq_true.1 (hpre i _ hp) y (List.mem_of_getElem? hy))⟩⟩
 | none=>
  rw[hp]at hk';simp only[hget]at hk';split at hk'
  ·cases hk';refine⟨_,rfl,rfl,rfl,λj y hy=>⟨y,hy,?_⟩⟩;obtain⟨q,hq,rfl⟩:=List.mem_map.1 (List.mem_of_getElem? hy);exact VMap.sl rfl (hi q hq)
  ·obtain⟨q,q1,q2,q3,rfl⟩:=rows_inv hk';exact BMap.clo (hrc _ (by rw[List.getD_eq_getElem?_getD,zlb q2];exact List.getElem_mem q2))
theorem pre0: ∀i k,hget ([]:List (Nat×Blk)) i=some k->k.cs.all clS=true:=λi k h=>by cases h
theorem pre1{n:Nat}{b:Blk}(hb:b.cs.all clS=true): ∀i k,hget [(n,b)] i=some k->k.cs.all clS=true:=λi k h=>by
 simp only[hget]at h;split at h;·cases h;exact hb
 ·cases h
theorem less_new{n:Nat}{b:Blk}{r r':List (Nat×Blk)}(h: ∀id k,hget r' id=some k->hget r id=some k)(hn: ∀id k,hget r' id=some k->id≠n): ∀id k,hget r' id=some k->hget ((n,b)::r) id=some k:=by intro id k hk;simp only[hget];rw[if_neg (hn id k hk)];exact h id k hk
theorem rows_lt{n:Nat}{o:Nat}{b:Blk}{tr:TypeId}{ids:List Nat}{rs:List (List V)}(ho:o<n)(hi: ∀i∈ids,i<n): ∀id k,hget ((o,b)::rowsH tr ids rs) id=some k->id<n:=by
 intro id k hk;simp only[hget]at hk;split at hk;·omega
 ·obtain⟨q,q1,q2,q3,rfl⟩:=rows_inv hk;rw[<-q3];exact hi _ (getD_mem' q1)
set_option maxRecDepth 4000 in
theorem perfS_s{h w K o nx:Nat}{M:List (List Int)}{ids0 ids:List Nat}(hM:MI h w K M)(hI:Ids o ids0 ids h nx){op:OpL}(hi:op.i<h)(hj:op.j<h)(hn:h<=1000000)(hw:w<=1000000):
  InlQ Tryz.prog 102 [.sl o 0 h 1 none,.ag (opC op)] ((o,⟨41,slR 2 w ids,false⟩)::rowsH 68 ids (rI M)) nx (ActQ w h o ids0 (swapI M op.i op.j) nx):=by
 obtain⟨kd,i,j,k⟩:=op;simp only at hi hj;unfold opC sv;simp only;have hl:=hM.len;have hidl:=hI.len;have ho:=hI.o1;have ho2:o+1-nx=0:=by omega
 have g1:=slR_len 2 w ids;rw[hidl]at g1;have gi:=slR_get (z:=2) (m:=w) (ids:=ids) (k:=i) om;have gj:=slR_get (z:=2) (m:=w) (ids:=ids) (k:=j) om;have hkl:=klB_rows (ty:=68) (rs:=rI M) (n:=nx) (λj hj=>by have:=hI.lt j hj;omega);have hkl2:=klB_rows (ty:=68) (rs:=rI M) (n:=nx+1) (λj hj=>by have:=hI.lt j hj;omega);have hsw:(ids.set i (ids.getD j 0)).set j (ids.getD i 0)=swapN ids i j:=rfl;refine InlQ.run Tryz.func102 rfl Tryz.ntmps102 (by simp) qT λB hB=> ?_;refine qWDf (Q9 @g1 @gi @gj @hkl @hkl2 @slR_set @slR_len @hidl @hsw) ?_;refine retIQ_normal (rs:=[]) (.tu []) ((o,⟨41,slR 2 w (swapN ids i j),false⟩)::rowsH 68 (swapN ids i j) (rI (swapI M i j))) nx Tryz.results102 rfl ⟨_,hI.swap hi hj,rfl,rfl,rfl⟩ ?_;have hI2:=hI.swap hi hj;refine Le.rowsDown [] pre0 ⟨nx,hB,znb _⟩ ho hI2.lt (rI_clo _) (less_new (less_cons (rowsI_swap hI.nod om om om)) (λid k hk=>Nat.ne_of_lt (rows_lt ho hI2.lt id k hk))) ?_;exact mapSl_cons rfl VMap.tu0 trivial
theorem setI_self{M:List (List Int)}{i:Nat}(h:i<M.length):M.set i (M.getD i [])=M:=by rw[List.getD_eq_getElem?_getD,zlb h];exact List.set_getElem_self h
def negPre(t:Nat)(r:List Int):List Int:=r.mapIdx λc x=>if c<t then-x else x
theorem negPre_len{t:Nat}{r:List Int}:(negPre t r).length=r.length:=by simp[negPre]
theorem negPre_get{t c:Nat}{r:List Int}(h:c<r.length):(negPre t r).getD c 0=if c<t then-(r.getD c 0)else r.getD c 0:=by unfold negPre;rw[List.getD_eq_getElem?_getD,List.getElem?_mapIdx,getD_get' (d:=0) h];rfl
theorem ilist_ext{a b:List Int}(h:a.length=b.length)(hx: ∀j,j<a.length->a.getD j 0=b.getD j 0):a=b:=by refine List.ext_getElem h λj h1 h2=> ?_;have:=hx j h1;rw[List.getD_eq_getElem?_getD,List.getD_eq_getElem?_getD,zlb h1,zlb h2]at this;simpa using this
theorem negPre_zero{r:List Int}:negPre 0 r=r:=ilist_ext negPre_len λj hj=>by rw[negPre_get (by rw[negPre_len]at hj;exact hj),if_neg om]
theorem negPre_set{t:Nat}{r:List Int}(h:t<r.length):(negPre t r).set t (-(r.getD t 0))=negPre (t+1) r:=by
 refine ilist_ext (by rw[List.length_set,negPre_len,negPre_len]) λj hj=> ?_;rw[List.length_set,negPre_len]at hj;rw[getD_set (by rw[negPre_len];exact h),negPre_get hj,negPre_get hj];by_cases e:j=t;·subst e;rw[if_pos rfl,if_pos om]
 ·rw[if_neg e];by_cases g:j<t;·rw[if_pos g,if_pos om]
  ·rw[if_neg g,if_neg om]
theorem negPre_end{w:Nat}{r:List Int}(h:r.length=w):negPre w r=negI r:=by refine ilist_ext (by rw[negPre_len,negI_len]) λj hj=> ?_;rw[negPre_len]at hj;rw[negPre_get hj,if_pos om,negI_get hj]
set_option maxRecDepth 4000 in
theorem perfN_s{h w K o nx:Nat}{M:List (List Int)}{ids0 ids:List Nat}(hM:MI h w K M)(hK:K<=100000000000)(hI:Ids o ids0 ids h nx){op:OpL}(hi:op.i<h)(hn:h<=1000000)(hw:w<=1000000):
  InlQ Tryz.prog 103 [.sl o 0 h 1 none,.ag (opC op)] ((o,⟨41,slR 2 w ids,false⟩)::rowsH 68 ids (rI M)) nx (ActQ w h o ids0 (M.set op.i (negI (M.getD op.i []))) nx):=by
 obtain⟨kd,i,j,k⟩:=op;simp only at hi;unfold opC sv;simp only;have hl:=hM.len;have hidl:=hI.len;have ho:=hI.o1;have g1:=slR_len 2 w ids;rw[hidl]at g1;have gi:=slR_get (z:=2) (m:=w) (ids:=ids) (k:=i) om;have hr:=hM.get hi;have hfit:=λc hc=>hM.fit hi (j:=c) hc;have hmem:=getD_mem' (ids:=ids) (k:=i) om;have hidk:=hI.lt _ hmem;have hne:ids.getD i 0≠o:=λe=>hI.o2 (by rw[<-e];exact hmem);have e0:M.set i (negPre 0 (M.getD i []))=M:=by rw[negPre_zero];exact setI_self om
 refine InlQ.run Tryz.func103 rfl Tryz.ntmps103 (by simp) qT λB hB=> ?_;refine qWDf (Q2 @g1 @gi) ?_;refine SC.loop (λt:Nat=>⟨[(0,.sl o 0 h 1 none),(3,.pt nx 0),(10,.sl (ids.getD i 0) 0 w 2 none),(11,.sc (.int .i64 w)),(12,.sc (.int .i64 t))],(nx,⟨80,[.sc (.int .i64 kd),.sc (.int .i64 i),.sc (.int .i64 j),.sc (.bool (decide (k<0))),.im (lv (limbsOf k.natAbs)) (limbsOf k.natAbs).length],false⟩)::(o,⟨41,slR 2 w ids,false⟩)::rowsH 68 ids (rI (M.set i (negPre t (M.getD i [])))),nx+1,27⟩)
  (λt=>t<=w) (λt=>w-t) 0 ?_ ?_ ?_
 ·rw[e0];exact qM
 ·exact znc _
 ·intro t ht K2 hK2;by_cases hc:t<w
  ·have q1:=decide_eq_true (p:=(t:Int)<(w:Int)) om;have gR:=rows_get (ty:=68) (rs:=rI (M.set i (negPre t (M.getD i [])))) (k:=i) hI.nod om (by rw[rI_len];simp;omega);rw[rI_getD,getD_set om,if_pos rfl]at gR;have hf:=hfit t hc;have c1:=pneg_i _ K hf om;have gl:=ivR_len (negPre t (M.getD i []));rw[negPre_len,hr.1]at gl;have gd:=ivR_drop (l:=negPre t (M.getD i [])) (i:=t) (by rw[negPre_len];omega);rw[negPre_get om,if_neg om]at gd;have gs:=ivR_set (l:=negPre t (M.getD i [])) (i:=t) (-((M.getD i []).getD t 0)) (by rw[negPre_len];omega);rw[negPre_set om]at gs;have hrs:=rows_set (ty:=68) (rs:=rI (M.set i (negPre t (M.getD i [])))) (k:=i) (r:=ivR (negPre (t+1) (M.getD i []))) hI.nod om (by rw[rI_len];simp;omega);rw[rI_set,List.set_set]at hrs;generalize(ivR (negPre t (M.getD i []))).drop ((t+1)*2)=D at*;generalize hA:ivR (negPre t (M.getD i []))=A at*;generalize(M.getD i []).getD t 0=x at*;generalize hA':ivR (negPre (t+1) (M.getD i []))=A' at*;have hkl:=klB_rows (ty:=68) (rs:=rI (M.set i (negPre t (M.getD i [])))) (n:=nx+1) (λj hj=>by have:=hI.lt j hj;omega);have hkl2:=klB_rows (ty:=68) (rs:=rI (M.set i (negPre t (M.getD i [])))) (n:=nx+1+1) (λj hj=>by have:=hI.lt j hj;omega);generalize hH:rowsH 68 ids (rI (M.set i (negPre t (M.getD i []))))=H at*;generalize ids.getD i 0=idk at*;unfold iv sv at c1;unfold ivC sv at gd gs;simp only[zl8,zl7]at gd;have g2:t*2<A.length:=by omega
   refine qWDf (Q13 @q1 @g1 @gi @gR @gl @gd @gs @g2 @hrs @hkl @hkl2 @slR_len @hidl) ?_;refine hK2 _ (t+1) ?_ om om;refine Le.rowsDown [(nx,_)] (pre1 rfl) ⟨nx,hB,Nat.le_succ _⟩ om (λc hc=>by have:=hI.lt c hc;omega) (rI_clo _) (λid b hb=> ?_) ?_;·exact less_new (λid b hb=>hb) (λid b hb=>Nat.ne_of_lt (klc (Nat.lt_succ_self nx) (klc (Nat.lt_succ_of_lt ho) (klr λc hc=>Nat.lt_succ_of_lt (hI.lt c hc))) id b hb)) id b hb
   ·exact qN
  ·have q1:=decide_eq_false (p:=(t:Int)<(w:Int)) om;have htw:w=t:=by omega
   subst htw;rw[negPre_end hr.1];refine qWDf @q1 ?_;refine retIQ_normal (rs:=[]) (.tu []) ((o,⟨41,slR 2 w ids,false⟩)::rowsH 68 ids (rI (M.set i (negI (M.getD i []))))) nx Tryz.results103 rfl ⟨_,hI,rfl,rfl,rfl⟩ ?_;refine Le.rowsDown [] pre0 ⟨nx,hB,znb _⟩ ho hI.lt (rI_clo _) (less_new (λid k hk=>hk) (λid k hk=>Nat.ne_of_lt (rows_lt ho hI.lt id k hk))) ?_;exact mapSl_cons rfl VMap.tu0 trivial
end
section
open Go.RowKit
def addPreI(t:Nat)(a b:List Int)(k:Int):List Int:=a.mapIdx λc x=>if c<t then x+k*b.getD c 0 else x
theorem addPreI_len{t:Nat}{a b:List Int}{k:Int}:(addPreI t a b k).length=a.length:=by simp[addPreI]
theorem addPreI_get{t c:Nat}{a b:List Int}{k:Int}(h:c<a.length):(addPreI t a b k).getD c 0=if c<t then a.getD c 0+k*b.getD c 0 else a.getD c 0:=by unfold addPreI;rw[List.getD_eq_getElem?_getD,List.getElem?_mapIdx,getD_get' (d:=0) h];rfl
theorem addPreI_zero{a b:List Int}{k:Int}:addPreI 0 a b k=a:=ilist_ext addPreI_len λj hj=>by rw[addPreI_get (by rw[addPreI_len]at hj;exact hj),if_neg om]
theorem addPreI_set{t:Nat}{a b:List Int}{k:Int}(h:t<a.length):(addPreI t a b k).set t (a.getD t 0+k*b.getD t 0)=addPreI (t+1) a b k:=by
 refine ilist_ext (by rw[List.length_set,addPreI_len,addPreI_len]) λj hj=> ?_;rw[List.length_set,addPreI_len]at hj;rw[getD_set (by rw[addPreI_len];exact h),addPreI_get hj,addPreI_get hj];by_cases e:j=t;·subst e;rw[if_pos rfl,if_pos om]
 ·rw[if_neg e];by_cases g:j<t;·rw[if_pos g,if_pos om]
  ·rw[if_neg g,if_neg om]
theorem addPreI_end{w:Nat}{a b:List Int}{k:Int}(h:a.length=w):addPreI w a b k=addI a b k:=by refine ilist_ext (by rw[addPreI_len,addI_len]) λj hj=> ?_;rw[addPreI_len]at hj;rw[addPreI_get hj,if_pos om,addI_get hj]
theorem fits_mulK{K L:Nat}{y k:Int}(hy:Fits K y)(hk:Fits L k):Fits (K+L) (k*y):=by
 unfold Fits at*;rw[Int.natAbs_mul];have h3:0<4294967296^K:=Nat.pow_pos om;have e:4294967296^(K+L)=4294967296^L*4294967296^K:=by rw[Nat.pow_add,Nat.mul_comm]
 rw[e]
 calc k.natAbs*y.natAbs<=k.natAbs*4294967296^K:=Nat.mul_le_mul (znb _) (Nat.le_of_lt hy)
  _<4294967296^L*4294967296^K:=Nat.mul_lt_mul_of_pos_right hk h3
set_option maxRecDepth 4000 in
theorem perfA_s{h w K o nx:Nat}{M:List (List Int)}{ids0 ids:List Nat}(hM:MI h w K M)(hK:K<=100000000000)(hI:Ids o ids0 ids h nx){op:OpL}(hi:op.i<h)(hj:op.j<h)(hij:op.i≠op.j)(hk:Fits OL op.k)(hn:h<=1000000)(hw:w<=1000000):
  InlQ Tryz.prog 105 [.sl o 0 h 1 none,.ag (opC op)] ((o,⟨41,slR 2 w ids,false⟩)::rowsH 68 ids (rI M)) nx (ActQ w h o ids0 (M.set op.i (addI (M.getD op.i []) (M.getD op.j []) op.k)) nx):=by
 obtain⟨kd,i,j,k⟩:=op;simp only at hi hj hij hk;unfold opC sv;simp only;have hl:=hM.len;have hidl:=hI.len;have ho:=hI.o1;have g1:=slR_len 2 w ids;rw[hidl]at g1;have gi:=slR_get (z:=2) (m:=w) (ids:=ids) (k:=i) om;have gj:=slR_get (z:=2) (m:=w) (ids:=ids) (k:=j) om;have hr:=hM.get hi;have hrj:=hM.get hj;have hfitj:=λc hc=>hM.fit hj (j:=c) hc;have hfit:=λc hc=>hM.fit hi (j:=c) hc;have hmem:=getD_mem' (ids:=ids) (k:=i) om;have hidk:=hI.lt _ hmem;have hne:ids.getD i 0≠o:=λe=>hI.o2 (by rw[<-e];exact hmem);have hmemj:=getD_mem' (ids:=ids) (k:=j) om;have hidj:=hI.lt _ hmemj;have hnej:ids.getD j 0≠o:=λe=>hI.o2 (by rw[<-e];exact hmemj);have hneij:ids.getD i 0≠ids.getD j 0:=λe=>hij (nodup_getD hI.nod om om e);have e0:M.set i (addPreI 0 (M.getD i []) (M.getD j []) k)=M:=by rw[addPreI_zero];exact setI_self om
 refine InlQ.run Tryz.func105 rfl Tryz.ntmps105 (by simp) qT λB hB=> ?_;refine qWDf (Q2 @g1 @gj) ?_;refine SC.loop (λt:Nat=>⟨[(0,.sl o 0 h 1 none),(3,.pt nx 0),(10,.sl (ids.getD j 0) 0 w 2 none),(11,.sc (.int .i64 w)),(12,.sc (.int .i64 t))],(nx,⟨80,[.sc (.int .i64 kd),.sc (.int .i64 i),.sc (.int .i64 j),.sc (.bool (decide (k<0))),.im (lv (limbsOf k.natAbs)) (limbsOf k.natAbs).length],false⟩)::(o,⟨41,slR 2 w ids,false⟩)::rowsH 68 ids (rI (M.set i (addPreI t (M.getD i []) (M.getD j []) k))),nx+1,38⟩)
  (λt=>t<=w) (λt=>w-t) 0 ?_ ?_ ?_
 ·rw[e0];exact qM
 ·exact znc _
 ·intro t ht K2 hK2;by_cases hc:t<w
  ·have q1:=decide_eq_true (p:=(t:Int)<(w:Int)) om;have gR:=rows_get (ty:=68) (rs:=rI (M.set i (addPreI t (M.getD i []) (M.getD j []) k))) (k:=i) hI.nod om (by rw[rI_len];simp;omega);rw[rI_getD,getD_set om,if_pos rfl]at gR;have hf:=hfit t hc;have gRj:=rows_get (ty:=68) (rs:=rI (M.set i (addPreI t (M.getD i []) (M.getD j []) k))) (k:=j) hI.nod om (by rw[rI_len];simp;omega);rw[rI_getD,getD_set om,if_neg (λe=>hij e.symm)]at gRj;have hfj:=hfitj t hc;have hOL:=OL_le;have c1:=pmul_i k _ (K+OL) (hk.mono om) (hfj.mono om) om;have c2:=padd_i _ _ (K+OL) (hf.mono om) (fits_mulK hfj hk) om;have gdj:=ivR_drop (l:=M.getD j []) (i:=t) om;have glj:=ivR_len (M.getD j []);rw[hrj.1]at glj;have gl:=ivR_len (addPreI t (M.getD i []) (M.getD j []) k);rw[addPreI_len,hr.1]at gl;have gd:=ivR_drop (l:=addPreI t (M.getD i []) (M.getD j []) k) (i:=t) (by rw[addPreI_len];omega);rw[addPreI_get om,if_neg om]at gd;have gs:=ivR_set (l:=addPreI t (M.getD i []) (M.getD j []) k) (i:=t) ((M.getD i []).getD t 0+k*(M.getD j []).getD t 0) (by rw[addPreI_len];omega);rw[addPreI_set om]at gs;have hrs:=rows_set (ty:=68) (rs:=rI (M.set i (addPreI t (M.getD i []) (M.getD j []) k))) (k:=i) (r:=ivR (addPreI (t+1) (M.getD i []) (M.getD j []) k)) hI.nod om (by rw[rI_len];simp;omega);rw[rI_set,List.set_set]at hrs;generalize(ivR (addPreI t (M.getD i []) (M.getD j []) k)).drop ((t+1)*2)=D at*;generalize hA:ivR (addPreI t (M.getD i []) (M.getD j []) k)=A at*;generalize(M.getD i []).getD t 0=x at*;generalize(ivR (M.getD j [])).drop ((t+1)*2)=Dj at*;generalize hAj:ivR (M.getD j [])=Aj at*;generalize(M.getD j []).getD t 0=y at*;generalize hA':ivR (addPreI (t+1) (M.getD i []) (M.getD j []) k)=A' at*;have hkl:=klB_rows (ty:=68) (rs:=rI (M.set i (addPreI t (M.getD i []) (M.getD j []) k))) (n:=nx+1) (λj hj=>by have:=hI.lt j hj;omega);have hkl2:=klB_rows (ty:=68) (rs:=rI (M.set i (addPreI t (M.getD i []) (M.getD j []) k))) (n:=nx+1+1) (λj hj=>by have:=hI.lt j hj;omega);generalize hH:rowsH 68 ids (rI (M.set i (addPreI t (M.getD i []) (M.getD j []) k)))=H at*;generalize ids.getD i 0=idk at*;generalize ids.getD j 0=idj at*;unfold iv sv at c1 c2;unfold ivC sv at gd gs gdj;simp only[zl8,zl7]at gd gdj;have g2j:t*2<Aj.length:=by omega
   have g2:t*2<A.length:=by omega
   refine qWDf (Q18 @q1 @g1 @gi @gj @gR @gRj @gl @glj @gd @gdj @gs @g2 @g2j @hrs @hkl @hkl2 @slR_len @hidl) ?_;refine hK2 _ (t+1) ?_ om om;refine Le.rowsDown [(nx,_)] (pre1 rfl) ⟨nx,hB,Nat.le_succ _⟩ om (λc hc=>by have:=hI.lt c hc;omega) (rI_clo _) (λid b hb=> ?_) ?_;·exact less_new (λid b hb=>hb) (λid b hb=>Nat.ne_of_lt (klc (Nat.lt_succ_self nx) (klc (Nat.lt_succ_of_lt ho) (klr λc hc=>Nat.lt_succ_of_lt (hI.lt c hc))) id b hb)) id b hb
   ·exact qN
  ·have q1:=decide_eq_false (p:=(t:Int)<(w:Int)) om;have htw:w=t:=by omega
   subst htw;rw[addPreI_end hr.1];refine qWDf @q1 ?_;refine retIQ_normal (rs:=[]) (.tu []) ((o,⟨41,slR 2 w ids,false⟩)::rowsH 68 ids (rI (M.set i (addI (M.getD i []) (M.getD j []) k)))) nx Tryz.results105 rfl ⟨_,hI,rfl,rfl,rfl⟩ ?_;refine Le.rowsDown [] pre0 ⟨nx,hB,znb _⟩ ho hI.lt (rI_clo _) (less_new (λid k hk=>hk) (λid k hk=>Nat.ne_of_lt (rows_lt ho hI.lt id k hk))) ?_;exact mapSl_cons rfl VMap.tu0 trivial
end
section
open Go.RowKit
set_option maxRecDepth 4000 in
theorem imValid_s{h w K:Nat}{M:List (List Int)}(hM:MI h w K M)(hK:K<=100000000000)(hn:h<=1000000)(hw:w<=1000000):Spec Tryz.prog 46 [mat w M] (.sc (.bool true)):=by
 have hl:=hM.len;have gl:=imI_len w M;unfold mat;refine qF Tryz.func46 Tryz.ntmps46 λB hB=> ?_;have p1:decide ((M.length:Int)<0)=false:=decide_eq_false om;have p2:decide ((w:Int)<0)=false:=decide_eq_false om;refine qWf (Q3 @p1 @p2 @gl) ?_;refine SC.loop (λi:Nat=>⟨[(1,.pt 0 0),(24,.im (imR w (rI M)) M.length),(25,.sc (.int .i64 M.length)),(26,.sc (.int .i64 i))],[(0,⟨28,[.sc (.int .i64 M.length),.sc (.int .i64 w),.im (imR w (rI M)) M.length],false⟩)],1,46⟩)
  (λi=>i<=h) (λi=>h-i) 0 ?_ ?_ ?_
 ·exact qL
 ·exact znc _
 ·intro i hi K2 hK2;by_cases hc:i<h
  ·have q1:=decide_eq_true (p:=(i:Int)<(M.length:Int)) om;have g1:=imI_get (w:=w) (M:=M) (i:=i) om;have hr:=hM.get hc;have glr:=ivR_len (M.getD i []);refine qWf (Q4 @q1 @g1 @gl @gD) ?_;refine SC.loop (λt:Nat=>⟨[(1,.pt 0 0),(24,.im (imR w (rI M)) M.length),(25,.sc (.int .i64 M.length)),(26,.sc (.int .i64 i)),(35,.im (ivR (M.getD i [])) w),(36,.sc (.int .i64 w)),(37,.sc (.int .i64 t))],[(0,⟨28,[.sc (.int .i64 M.length),.sc (.int .i64 w),.im (imR w (rI M)) M.length],false⟩)],1,46⟩)
    (λt=>t<=w) (λt=>w-t) 0 ?_ ?_ ?_
   ·exact qL
   ·exact znc _
   ·intro t ht K3 hK3;by_cases hc2:t<w
    ·have q2:=decide_eq_true (p:=(t:Int)<(w:Int)) om;have c1:=pvalid_i _ K (hM.fit hc hc2) om;have gd:=ivR_drop (l:=M.getD i []) (i:=t) om;have g2:t*2<(ivR (M.getD i [])).length:=by omega
     generalize(ivR (M.getD i [])).drop ((t+1)*2)=D at*;generalize ivR (M.getD i [])=A at*;generalize(M.getD i []).getD t 0=x at*;unfold iv sv at c1;unfold ivC sv at gd;simp only[zl8,zl7]at gd;refine qWf (Q3 @q2 @gd @g2) ?_;refine hK3 _ (t+1) ?_ om om;exact qL
    ·have q2:=decide_eq_false (p:=(t:Int)<(w:Int)) om;refine qWf @q2 ?_;refine hK2 _ (i+1) ?_ om om;exact qL
  ·have q1:=decide_eq_false (p:=(i:Int)<(M.length:Int)) om;refine qWf @q1 ?_;exact qE Tryz.results46
theorem ivec_s{w K:Nat}{r:List Int}(hl:r.length=w)(hf: ∀x∈r,Fits K x)(hK:K<=100000000000)(hw:w<=1000000):Spec Tryz.prog 62 [.im (ivR r) w] (.sc (.bool true)):=by
 have glr:=ivR_len r;refine qF Tryz.func62 Tryz.ntmps62 λB hB=> ?_;refine qW ?_;refine SC.loop (λt:Nat=>⟨[(0,.im (ivR r) w),(3,.sc (.int .i64 t))],[],0,16⟩) (λt=>t<=w) (λt=>w-t) 0 ?_ ?_ ?_;·exact qL
 ·exact znc _
 ·intro t ht K3 hK3;by_cases hc2:t<w
  ·have q2:=decide_eq_true (p:=(t:Int)<(w:Int)) om;have c1:=rvalid_i _ K (hf _ (getD_mem (d:=0) (l:=r) (i:=t) om)) om;have gd:=ivR_drop (l:=r) (i:=t) om;have g2:t*2<(ivR r).length:=by omega
   generalize(ivR r).drop ((t+1)*2)=D at*;generalize ivR r=A at*;generalize r.getD t 0=x at*;unfold iv sv at c1;unfold ivC sv at gd;simp only[zl8,zl7]at gd;refine qWf (Q3 @q2 @gd @g2) ?_;refine hK3 _ (t+1) ?_ om om;exact qL
  ·have q2:=decide_eq_false (p:=(t:Int)<(w:Int)) om;refine qWf @q2 ?_;exact qE Tryz.results62
set_option maxRecDepth 4000 in
theorem iValid_s{h w K:Nat}{M:List (List Int)}(hM:MI h w K M)(hK:K<=100000000000)(hn:h<=1000000)(hw:w<=1000000):Spec Tryz.prog 33 [mat w M] (.sc (.bool true)):=by
 have hl:=hM.len;have gl:=imI_len w M;unfold mat;refine qF Tryz.func33 Tryz.ntmps33 λB hB=> ?_;have p1:decide ((M.length:Int)<0)=false:=decide_eq_false om;have p2:decide ((w:Int)<0)=false:=decide_eq_false om;refine qWf (Q3 @p1 @p2 @gl) ?_;refine SC.loop (λi:Nat=>⟨[(1,.pt 0 0),(3,.sc (.int .i64 i))],[(0,⟨28,[.sc (.int .i64 M.length),.sc (.int .i64 w),.im (imR w (rI M)) M.length],false⟩)],1,45⟩)
  (λi=>i<=h) (λi=>h-i) 0 ?_ ?_ ?_
 ·exact qL
 ·exact znc _
 ·intro i hi K2 hK2;by_cases hc:i<h
  ·have q1:=decide_eq_true (p:=(i:Int)<(M.length:Int)) om;have g1:=imI_get (w:=w) (M:=M) (i:=i) om;have hr:=hM.get hc;have c1:=ivec_s hr.1 hr.2 hK hw;refine qWf (Q4 @q1 @g1 @gl @gD) ?_;refine hK2 _ (i+1) ?_ om om;exact qL
  ·have q1:=decide_eq_false (p:=(i:Int)<(M.length:Int)) om;refine qWf @q1 ?_;exact qE Tryz.results33
theorem isized_s{h w K:Nat}{M:List (List Int)}(hM:MI h w K M)(hK:K<=100000000000)(hn:h<=1000000)(hw:w<=1000000):Spec Tryz.prog 32 [mat w M,.sc (.int .i64 h),.sc (.int .i64 w)] (.sc (.bool true)):=by have hl:=hM.len;have c1:=iValid_s hM hK hn hw;unfold mat at*;rw[hl]at*;refine qF Tryz.func32 Tryz.ntmps32 λB hB=> ?_;refine qW ?_;exact qE Tryz.results32
theorem isameV_s{w K:Nat}{r:List Int}(hl:r.length=w)(hf: ∀x∈r,Fits K x)(hK:K<=100000000000)(hw:w<=1000000):Spec Tryz.prog 56 [.im (ivR r) w,.im (ivR r) w] (.sc (.bool true)):=by
 have glr:=ivR_len r;refine qF Tryz.func56 Tryz.ntmps56 λB hB=> ?_;refine qW ?_;refine SC.loop (λt:Nat=>⟨[(0,.im (ivR r) w),(1,.im (ivR r) w),(5,.sc (.int .i64 t))],[],0,27⟩) (λt=>t<=w) (λt=>w-t) 0 ?_ ?_ ?_;·exact qL
 ·exact znc _
 ·intro t ht K3 hK3;by_cases hc2:t<w
  ·have q2:=decide_eq_true (p:=(t:Int)<(w:Int)) om;have hx:=hf _ (getD_mem (d:=0) (l:=r) (i:=t) om);have hs:=fits_len hx;have c1:=same_i (r.getD t 0) (r.getD t 0) (by unfold Short;omega) (by unfold Short;omega);rw[decide_eq_true rfl]at c1;have gd:=ivR_drop (l:=r) (i:=t) om;have g2:t*2<(ivR r).length:=by omega
   generalize(ivR r).drop ((t+1)*2)=D at*;generalize ivR r=A at*;generalize r.getD t 0=x at*;unfold iv sv at c1;unfold ivC sv at gd;simp only[zl8,zl7]at gd;refine qWf (Q3 @q2 @gd @g2) ?_;refine hK3 _ (t+1) ?_ om om;exact qL
  ·have q2:=decide_eq_false (p:=(t:Int)<(w:Int)) om;refine qWf @q2 ?_;exact qE Tryz.results56
set_option maxRecDepth 4000 in
theorem isame_s{h w K:Nat}{M:List (List Int)}(hM:MI h w K M)(hK:K<=100000000000)(hn:h<=1000000)(hw:w<=1000000):Spec Tryz.prog 17 [mat w M,mat w M] (.sc (.bool true)):=by
 have hl:=hM.len;have gl:=imI_len w M;unfold mat;refine qF Tryz.func17 Tryz.ntmps17 λB hB=> ?_;refine qWf @gl ?_;refine SC.loop (λi:Nat=>⟨[(2,.pt 0 0),(3,.pt 1 0),(5,.sc (.int .i64 i))],[(1,⟨28,[.sc (.int .i64 M.length),.sc (.int .i64 w),.im (imR w (rI M)) M.length],false⟩),(0,⟨28,[.sc (.int .i64 M.length),.sc (.int .i64 w),.im (imR w (rI M)) M.length],false⟩)],2,46⟩)
  (λi=>i<=h) (λi=>h-i) 0 ?_ ?_ ?_
 ·exact qL
 ·exact znc _
 ·intro i hi K2 hK2;by_cases hc:i<h
  ·have q1:=decide_eq_true (p:=(i:Int)<(M.length:Int)) om;have g1:=imI_get (w:=w) (M:=M) (i:=i) om;have hr:=hM.get hc;have c1:=isameV_s hr.1 hr.2 hK hw;refine qWf (Q4 @q1 @g1 @gl @gD) ?_;refine hK2 _ (i+1) ?_ om om;exact qL
  ·have q1:=decide_eq_false (p:=(i:Int)<(M.length:Int)) om;refine qWf @q1 ?_;exact qE Tryz.results17
end
section
open Go.RowKit
variable {P:Program} {B:Base}
theorem wp_monoQ{o:Oper}{a:Act}{w:World}{K:Act->World->Prop}{Q Q':Exit->Act->World->Prop}(h: ∀e a w,e≠Exit.normal->Q e a w->Q' e a w)(hh:o.wp P a w K Q):o.wp P a w K Q':=by
 unfold Oper.wp at*;generalize(execOp a.eval o).run P w=r at*;cases r with
 | ok n w'=>
  cases n<;>simp only[Oper.upon]at hh⊢ <;>
   first
    |exact hh
    |exact Calls.mono hh (λe w'' he=>by cases e<;>first|exact he|exact h _ _ _ (by simp) he|exact(let⟨x,y,z⟩:=he;⟨x,y,h _ _ _ (by simp) z⟩))
 |halt x w'=>cases x<;>simp only[Oper.upon]at hh⊢ <;>first|exact h _ _ _ (by simp) hh|exact hh
def ordN(l:List Oper):Bool:=(List.range l.length).all λi=>match l[i]?with|some o=>o.after.all λe=> !Region.binds .any e||decide (e.on<i)|none=>true
def stepJ(J:(Nat->Bool)->SS->Prop)(L:Nat->Bool)(i:Nat)(Q:Exit->SS->Prop):Exit->SS->Prop
 | .normal,s=>J (addL L i) s
 |e,s=>Q e s
theorem region_inv{J:(Nat->Bool)->SS->Prop}{id:Nat}{l:List Oper}{s:SS}{Q:Exit->SS->Prop}(hm:P.follows .mixedOrders=true)(hord:ordN l=true)(h0:J (λ_=>false) s)
  (hstep: ∀L s i o,(∀m j,L m=true->depB l.toArray m j=true->L j=true)->J L s->l[i]? =some o->L i=false->(∀m,depB l.toArray i m=true->L m=true)->SOps P B l.toArray [o] (stepJ J L i Q) s)
  (hend: ∀L s,(∀i,i<l.length->L i=true)->J L s->Q .normal s):SWp P B (.region id l.toArray true) Q s:=by
 intro S rho A a w hr;have dep: ∀(L:Nat->Bool) (i:Nat) (o:Oper),l.toArray[i]? =some o->(∀e∈o.after.toList,Region.binds .any e=true->L e.on=true)-> ∀m,depB l.toArray i m=true->L m=true:=by intro L i o ho hd m hm;unfold depB at hm;rw[ho]at hm;simp only[Array.any_eq_true']at hm;obtain⟨e,he,hb⟩:=hm;rw[Bool.and_eq_true,beq_iff_eq]at hb;rw[<-hb.2];exact hd e (by simpa using he) hb.1
 refine wp_region_any hm (wpAny_act (λL a w=>(∀m j,L m=true->depB l.toArray m j=true->L j=true)/\ ∃s S rho A,J L s/\Rel B S rho A s a w) ?_ ?_ ?_ _ _ a _ (by simp) ?_ ?_)
 ·intro i o ho e he hb;have hi:=(Array.getElem?_eq_some_iff.1 ho).1;simp at hi;have:=List.all_eq_true.1 hord i (List.mem_range.2 hi);rw[List.getElem?_toArray]at ho;rw[ho]at this;simp only at this;rw[Array.all_eq_true']at this;have:=this e (by simpa using he);rw[hb]at this;simpa using this
 ·rintro L a w i o ho hi hd ⟨hcl,s,S,rho,A,hJ,hr⟩;have hdep:=dep L i o ho hd;have ho':=ho;rw[List.getElem?_toArray]at ho';have h:=hstep L s i o hcl hJ ho' hi hdep S rho A a w hr;have hcl': ∀m j,(if m=i then true else L m)=true->depB l.toArray m j=true->(if j=i then true else L j)=true:=by
   intro m j hm hj;by_cases e:j=i;·rw[if_pos e]
   ·rw[if_neg e];by_cases e2:m=i;·subst e2;exact hdep j hj
    ·rw[if_neg e2]at hm;exact hcl m j hm hj
  have hK: ∀a w,wpList P l.toArray (Post B (stepJ J L i Q)) [] a w->(∀m j,(if m=i then true else L m)=true->depB l.toArray m j=true->(if j=i then true else L j)=true)/\ ∃s S rho A,J (λj=>if j=i then true else L j) s/\Rel B S rho A s a w:=
   λa w ⟨S,rho,A,s,hJ,hr⟩=>⟨hcl',s,S,rho,A,hJ,hr⟩
  have hQ: ∀e a w,e≠Exit.normal->Post B (stepJ J L i Q) e a w->Post B Q e a w:=by intro e a w hne hp;cases e<;>first|exact absurd rfl hne|exact hp
  unfold wpOp;rw[ho];simp only[wpList]at h⊢;split
  ·rename_i hw;rw[if_pos hw]at h;rcases h with h|⟨h1,a2,w2,h2⟩;·exact .inl (Oper.wp_mono hK (wp_monoQ hQ h))
   ·exact .inr ⟨h1,a2,w2,hQ _ _ _ (by simp) h2⟩
  ·rename_i hw;rw[if_neg hw]at h;exact hK _ _ h
 ·rintro L a w hL ⟨_,s,S,rho,A,hJ,hr⟩;exact⟨S,rho,A,s,hend L s (λi hi=>hL i (by simpa using hi)) hJ,hr⟩
 ·unfold unl;refine Nat.le_trans (List.length_filter_le _ _) (by simp)
 ·have hf:(λj=>(Array.replicate l.toArray.size false).getD j false)=λ_=>false:=by
   funext j;rw[Array.getD_eq_getD_getElem?,Array.getElem?_replicate];split<;>rfl
  rw[hf];have g:=Grow.drawn w (w.drawn+1);exact⟨(λm j h=>by cases h),s,S,rho,A,h0,⟨λt=>(hr.slots t).mono (λb hb=>⟨hb,rfl⟩) (λid h=>⟨h,rfl,λ_=>g.szAt⟩),hr.mem.grow g,hr.alt,hr.nt,hr.defs⟩⟩
theorem SC.inv(J:(Nat->Bool)->SS->Prop){id:Nat}{l:List Oper}{cs:List Code}{s:SS}{Q:Exit->SS->Prop}(hm:P.follows .mixedOrders=true)(hord:ordN l=true)(h0:J (λ_=>false) s)
  (hstep: ∀L s i o,(∀m j,L m=true->depB l.toArray m j=true->L j=true)->J L s->l[i]? =some o->L i=false->(∀m,depB l.toArray i m=true->L m=true)->SO P B l.toArray [o] [] (stepJ J L i (thenQ (SC P B cs Q) Q)) s)
  (hend: ∀L s,(∀i,i<l.length->L i=true)->J L s->SC P B cs Q s):SC P B (.region id l.toArray true::cs) Q s:=by
 refine region_inv (J:=J) hm hord h0 (λL s i o hcl hJ ho hi hd=> ?_) (λL s hL hJ=>hend L s hL hJ);have h:=hstep L s i o hcl hJ ho hi hd;have e:thenQ (SC P B [] (stepJ J L i (thenQ (SC P B cs Q) Q))) (stepJ J L i (thenQ (SC P B cs Q) Q))=stepJ J L i (thenQ (SC P B cs Q) Q):=by funext e s;cases e<;>rfl
 unfold SO at h;rw[e]at h;exact h
end
section
open Go.RowKit
section
variable {P:Program} {B:Base}
theorem hasId_some: ∀{l:List (Nat×Blk)} {id:Nat},hasId l id=true-> ∃k,hget l id=some k:=by
 intro l id;induction l with
 |nil=>intro h;cases h
 | cons p r ih=>
  intro h;simp only[hasId,Bool.or_eq_true,decide_eq_true_eq]at h;by_cases e:id=p.1;·exact⟨p.2,by simp[hget,e]⟩
  ·obtain⟨k,hk⟩:=ih (h.resolve_left e);exact⟨k,by simp[hget,e,hk]⟩
theorem SInlQ.part{ops:Array Oper}{l:List Oper}{cs:List Code}{Q:Exit->SS->Prop}{f:Nat}{ys:List V}{d:Option Nat}(pre:List (Nat×Blk)){hpS:List (Nat×Blk)}{nx nt:Nat}{sl:List (Nat×V)}{C:V->List (Nat×Blk)->Nat->Prop}(p:Nat->Prop)(hI:InlQ P f ys hpS nx C)(hm: ∀id k,hget pre id=some k-> ¬p id)(hS: ∀id k,hget hpS id=some k->p id)
  (hC: ∀x hp' nx',C x hp' nx'->Only p x/\OnlyH p hp'/\ ∀id k,hget hp' id=some k->p id) (k: ∀x hp' nx',C x hp' nx'->SO P B ops l cs Q ⟨putS sl d x,pre++hp',nx',nt⟩):SInlQ P B f ys d ops l cs Q ⟨sl,pre++hpS,nx,nt⟩:=by
 have hsub: ∀id k,hget hpS id=some k->hget (pre++hpS) id=some k:=by
  intro id q hq;rw[hget_app];cases e:hget pre id with
  |none=>exact hq
  |some q'=>exact absurd (hS id q hq) (hm id q' e)
 have hrest: ∀i,p i->hasId (restH (pre++hpS) hpS) i=false:=by
  intro i hi;rw[hasId_rest];cases e:hasId hpS i with
  |true=>simp
  | false=>
   have h1:hasId pre i=false:=by
    cases h:hasId pre i with
    |false=>rfl
    |true=>obtain⟨q,hq⟩:=hasId_some h;exact absurd hi (hm i q hq)
   have:hasId (pre++hpS) i=false:=by
    have happ: ∀(a b:List (Nat×Blk)) (i:Nat),hasId (a++b) i=(hasId a i||hasId b i):=by
     intro a b i;induction a with
     |nil=>simp[hasId]
     |cons p r ih=>simp[hasId,ih,Bool.or_assoc]
    rw[happ,h1,e];rfl
   rw[this];rfl
 refine⟨hpS,C,hsub,hI,λx hp' nx' h=> ?_⟩;obtain⟨h1,h2,h3⟩:=hC x hp' nx' h;refine⟨h1.mono hrest,h2.mono hrest,SO.weak (Le.less (λid q hq=> ?_) (znb _)) (k x hp' nx' h)⟩;rw[hget_app]at hq⊢;cases e:hget pre id with
 | some q'=>
  rw[e]at hq;cases hq;have e2:hget hp' id=none:=by
   cases e3:hget hp' id with
   |none=>rfl
   |some q'=>exact absurd (h3 id q' e3) (hm id _ e)
  rw[e2];simp only;rw[hget_rest,if_neg,hget_app,e];intro hh;obtain⟨q',hq'⟩:=hasId_some hh;exact absurd (hS id q' hq') (hm id _ e)
 |none=>
  rw[e]at hq;simp only at hq;rw[hq]
end
end
section
open Go.RowKit
theorem rowsI_new{w nx:Nat}{M:List (List Int)}{x:V}{hp':List (Nat×Blk)}{nx':Nat}(h:RowsI w M nx x hp' nx'):Only (λi=>nx<=i) x/\OnlyH (λi=>nx<=i) hp'/\ ∀id k,hget hp' id=some k->nx<=id:=by
 obtain⟨o,ids,hR,rfl,rfl⟩:=h;refine⟨.sl hR.o1.1,⟨λy hy=> ?_,OnlyH.rows (rI_clo M)⟩,λid k hk=> ?_⟩
 ·obtain⟨i,hi,rfl⟩:=List.mem_map.1 hy;exact .sl (hR.lt i hi).1
 ·simp only[hget]at hk;split at hk;·rename_i e;rw[e];exact hR.o1.1
  ·obtain⟨q,q1,_,q3,_⟩:=rows_inv hk;rw[<-q3];exact(hR.lt _ (getD_mem' q1)).1
def inR(o:Nat)(ids:List Nat)(i:Nat):Prop:=i=o\/i∈ids
theorem inR_rows{o:Nat}{b:Blk}{tr:TypeId}{ids0 ids:List Nat}{rs:List (List V)}(hs: ∀i∈ids,i∈ids0): ∀id k,hget ((o,b)::rowsH tr ids rs) id=some k->inR o ids0 id:=by
 intro id k hk;simp only[hget]at hk;split at hk;·exact .inl ‹_›
 ·obtain⟨q,q1,q2,q3,rfl⟩:=rows_inv hk;rw[<-q3];exact .inr (hs _ (getD_mem' q1))
theorem actQ_part{w h o nx:Nat}{ids0:List Nat}{M:List (List Int)}{x:V}{hp':List (Nat×Blk)}{nx':Nat}(hq:ActQ w h o ids0 M nx x hp' nx'):Only (inR o ids0) x/\OnlyH (inR o ids0) hp'/\ ∀id k,hget hp' id=some k->inR o ids0 id:=by obtain⟨ids',hI,rfl,rfl,rfl⟩:=hq;refine⟨.tu (λ_ h=>by cases h),⟨λy hy=> ?_,OnlyH.rows (rI_clo M)⟩,inR_rows hI.sub⟩;obtain⟨i,hi,rfl⟩:=List.mem_map.1 hy;exact .sl (.inr (hI.sub i hi))
def pfn:Nat->Nat
 |1=>102
 |2=>103
 |_=>105
def perfs:List V:=[.sc .nilFunc,.sc (.func (.func 102) #[] #[]),.sc (.func (.func 103) #[] #[]),.sc (.func (.func 105) #[] #[])]
theorem perfs_s:Spec Tryz.prog 78 [] (.ag perfs):=by unfold perfs;refine qF Tryz.func78 Tryz.ntmps78 λB hB=> ?_;refine qWD ?_;exact qE Tryz.results78
theorem perf_s{h w K o nx:Nat}{M:List (List Int)}{ids0 ids:List Nat}(hM:MI h w K M)(hK:K<=100000000000)(hI:Ids o ids0 ids h nx){op:OpL}(ho:OkOp h op)(hn:h<=1000000)(hw:w<=1000000):
  InlQ Tryz.prog (pfn op.kd) [.sl o 0 h 1 none,.ag (opC op)] ((o,⟨41,slR 2 w ids,false⟩)::rowsH 68 ids (rI M)) nx (ActQ w h o ids0 (actO M op) nx):=by
 unfold actO;rcases ho.c with⟨e,hj,_,_⟩|⟨e,_,_⟩|⟨e,hj,hij⟩;·rw[e,if_pos rfl];exact perfS_s hM hI ho.i hj hn hw
 ·rw[e,if_neg om,if_pos rfl];exact perfN_s hM hK hI ho.i hn hw
 ·rw[e,if_neg om,if_neg om];exact perfA_s hM hK hI ho.i hj hij ho.k hn hw
end
end Go.Proofs.YtannldafjkjjbaaGreat
