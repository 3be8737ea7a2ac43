/- Texts joined: Xz Xw. -/
import Derived.Test.YtannldafjkjjbaaGreatVf
import Derived.Test.YtannldafjkjjbaaGreatVg
import Derived.Test.YtannldafjkjjbaaGreatVm
set_option linter.all false
set_option maxHeartbeats 16000000
open Nat renaming reduceEqDiff → zn1, reduceLT → zn2, reduceLeDiff → zn3, reduceAdd → zn4, reduceMul → zn5, reduceSub → zn6, reduceBEq → zn7, mul_one → zn8, zero_add → zn9, one_mul → zna, le_refl → znb, zero_le → znc, add_sub_cancel_left → znd, sub_eq_zero_of_le → zne, add_assoc → znf
open Int renaming reduceToNat → zi1, reducePow → zi2
open List renaming length_append → zl1, drop_zero → zl2, take_succ_cons → zl3, take_zero → zl4, getElem?_drop → zl5, append_assoc → zl6, nil_append → zl7, cons_append → zl8, drop_succ_cons → zl9, take_of_length_le → zla, getElem?_eq_getElem → zlb, getElem?_eq_some_iff → zlc, map_cons → zld, map_nil → zle, all_eq_true → zlf
namespace Go.Proofs.YtannldafjkjjbaaGreat
section
open Go.RowKit
def dropS:Nat->Code->Code
 |n+1,.seq _ b=>dropS n b
 |_,c=>c
def atS:Nat->Code->Code
 |0,.seq a _=>a
 |n+1,.seq _ b=>atS n b
 |_,c=>c
noncomputable def bodyU:Code:=Tryz.f11.body.getD .skip
set_option maxRecDepth 20000 in
theorem chkT0{B:Base}{h w q nx K w0 w1 w2 w3:Nat}{A H U C M1:List (List Int)}{l:List OpL}{ids:List Nat}{b:Bool}(hM1:MI h w K M1)(hil:ids.length=h)(hin:ids.Nodup)(hib: ∀j∈ids,6<=j/\j<nx)(h6:6<=nx)(hq6:6<=q)(hqx:q<nx)(hqi:q∉ids)(hll:l.length<=999999999)(hh:h<=1000000)
  (s1:Spec Tryz.prog 16 [.ag [.sc (.int .i64 h),.sc (.int .i64 w),.im (imR w (rI M1)) h,.sc (.int .i64 h),.sc (.int .i64 w),.im (imR w (rI H)) h,.sc (.int .i64 h),.sc (.int .i64 h),.im (imR h (rI U)) h,.sc (.int .i64 h),.sc (.int .i64 h),.im (imR h (rI C)) h,.im (opsC l) l.length]] (.sc (.bool b))) (s2:Spec Tryz.prog 30 [.ag [.sc (.int .i64 h),.sc (.int .i64 w),.im (imR w (rI M1)) h,.sc (.int .i64 h),.sc (.int .i64 w),.im (imR w (rI H)) h,.sc (.int .i64 h),.sc (.int .i64 h),.im (imR h (rI U)) h,.sc (.int .i64 h),.sc (.int .i64 h),.im (imR h (rI C)) h,.im (opsC l) l.length]] (.sc (.bool b))) (cO:Spec Tryz.prog 16 [.ag [.sc (.int .i64 ((h:Int)+1)),.sc (.int .i64 w),.im (imR w (rI A)) h,.sc (.int .i64 h),.sc (.int .i64 w),.im (imR w (rI H)) h,.sc (.int .i64 h),.sc (.int .i64 h),.im (imR h (rI U)) h,.sc (.int .i64 h),.sc (.int .i64 h),.im (imR h (rI C)) h,.im (opsC l) l.length]] (.sc (.bool false))) (kp:Spec Tryz.prog 16 [.ag [.sc (.int .i64 h),.sc (.int .i64 w),.im (imR w (rI A)) h,.sc (.int .i64 h),.sc (.int .i64 w),.im (imR w (rI H)) h,.sc (.int .i64 h),.sc (.int .i64 h),.im (imR h (rI U)) h,.sc (.int .i64 h),.sc (.int .i64 h),.im (imR h (rI C)) h,.im (opsC l) l.length]] (.sc (.bool true))):
  SC Tryz.prog B [atS 10 bodyU,dropS 11 bodyU] (retQ Tryz.prog Tryz.f11 (.sc (.bool true))) ⟨[(9,.pt 3 0),(13,.pt nx 0),(8,.pt 2 0),(7,.sc (.bool true))],(nx,⟨34,[.sc (.int .i64 (h+1)),.sc (.int .i64 w),.im (imR w (rI A)) h,.sc (.int .i64 h),.sc (.int .i64 w),.im (imR w (rI H)) h,.sc (.int .i64 h),.sc (.int .i64 h),.im (imR h (rI U)) h,.sc (.int .i64 h),.sc (.int .i64 h),.im (imR h (rI C)) h,.im (opsC l) l.length],false⟩)::(q,⟨28,[.sc (.int .i64 h),.sc (.int .i64 w),.sl 5 0 h 1 none],false⟩)::(3,⟨34,[.sc (.int .i64 h),.sc (.int .i64 w),.sl 5 0 h 1 none,.sc (.int .i64 h),.sc (.int .i64 w),.im (imR w (rI H)) h,.sc (.int .i64 h),.sc (.int .i64 h),.im (imR h (rI U)) h,.sc (.int .i64 h),.sc (.int .i64 h),.im (imR h (rI C)) h,.sl 4 0 l.length 5 none],false⟩)::(2,⟨34,[.sc (.int .i64 h),.sc (.int .i64 w),.im (imR w (rI A)) h,.sc (.int .i64 h),.sc (.int .i64 w),.im (imR w (rI H)) h,.sc (.int .i64 h),.sc (.int .i64 h),.im (imR h (rI U)) h,.sc (.int .i64 h),.sc (.int .i64 h),.im (imR h (rI C)) h,.im (opsC l) l.length],false⟩)::(1,⟨76,[.sc (.int .u8 w0),.sc (.int .u8 w1),.sc (.int .u8 w2),.sc (.int .u8 w3)],false⟩)::(4,⟨80,opsC l,false⟩)::(5,⟨41,slR 2 w ids,false⟩)::rowsH 68 ids (rI M1),nx+1,168⟩:=by
 obtain⟨fn,hfn⟩: ∃x,x=Tryz.f11:=⟨_,rfl⟩
 rw[<-hfn];unfold bodyU Tryz.f11;simp only[atS,dropS,Option.getD];subst hfn;have gl:=opsC_len l;have go:=opsC_one l;have gcl:=opsC_clo l;have gl2:(opsC l).length=l.length*5:=by omega
 have gl3:(opsC l).take (l.length*5)=opsC l:=zla om;have g1:=slR_len 2 w ids;rw[hil]at g1;have hkl:=klB_rows (ty:=68) (ids:=ids) (rs:=rI M1) (n:=nx+1) (λj hj=>by have:=hib j hj;omega);have bn1:(nx=1)=False:=eq_false om;have bn1':(1=nx)=False:=eq_false om;have bn2:(nx=2)=False:=eq_false om;have bn2':(2=nx)=False:=eq_false om;have bn3:(nx=3)=False:=eq_false om;have bn3':(3=nx)=False:=eq_false om;have bn4:(nx=4)=False:=eq_false om;have bn4':(4=nx)=False:=eq_false om;have bn5:(nx=5)=False:=eq_false om;have bn5':(5=nx)=False:=eq_false om;have bq1:(q=1)=False:=eq_false om;have bq1':(1=q)=False:=eq_false om;have bq2:(q=2)=False:=eq_false om;have bq2':(2=q)=False:=eq_false om;have bq3:(q=3)=False:=eq_false om;have bq3':(3=q)=False:=eq_false om;have bq4:(q=4)=False:=eq_false om;have bq4':(4=q)=False:=eq_false om;have bq5:(q=5)=False:=eq_false om;have bq5':(5=q)=False:=eq_false om;have bnq:(nx=q)=False:=eq_false om;have bqn:(q=nx)=False:=eq_false om;have mn:(nx<nx+1)=True:=eq_true om;have mq:(q<nx+1)=True:=eq_true om;have m1:(1<nx+1)=True:=eq_true om;have m2:(2<nx+1)=True:=eq_true om;have m3:(3<nx+1)=True:=eq_true om;have m4:(4<nx+1)=True:=eq_true om;have m5:(5<nx+1)=True:=eq_true om;have dq:q+1<=nx:=by omega
 have d1:2<=nx:=by omega
 have d2:3<=nx:=by omega
 have d3:4<=nx:=by omega
 have d4:5<=nx:=by omega
 have hmk:=hM1.len;have hnn: ∀k,k<ids.length->ids.getD k 0≠nx/\ids.getD k 0≠q/\ids.getD k 0≠3/\ids.getD k 0≠2/\ids.getD k 0≠1/\ids.getD k 0≠4/\ids.getD k 0≠5:=λk hk=>by have h1:=getD_mem' hk;have h2:=hib _ h1;exact⟨by omega,λe=>hqi (e▸h1),by omega,by omega,by omega,by omega,by omega⟩
 have hrows: ∀k,k<ids.length->hget ((nx,⟨34,[.sc (.int .i64 (h+1)),.sc (.int .i64 w),.im (imR w (rI A)) h,.sc (.int .i64 h),.sc (.int .i64 w),.im (imR w (rI H)) h,.sc (.int .i64 h),.sc (.int .i64 h),.im (imR h (rI U)) h,.sc (.int .i64 h),.sc (.int .i64 h),.im (imR h (rI C)) h,.im (opsC l) l.length],false⟩)::(q,⟨28,[.sc (.int .i64 h),.sc (.int .i64 w),.sl 5 0 h 1 none],false⟩)::(3,⟨34,[.sc (.int .i64 h),.sc (.int .i64 w),.sl 5 0 h 1 none,.sc (.int .i64 h),.sc (.int .i64 w),.im (imR w (rI H)) h,.sc (.int .i64 h),.sc (.int .i64 h),.im (imR h (rI U)) h,.sc (.int .i64 h),.sc (.int .i64 h),.im (imR h (rI C)) h,.sl 4 0 l.length 5 none],false⟩)::(2,⟨34,[.sc (.int .i64 h),.sc (.int .i64 w),.im (imR w (rI A)) h,.sc (.int .i64 h),.sc (.int .i64 w),.im (imR w (rI H)) h,.sc (.int .i64 h),.sc (.int .i64 h),.im (imR h (rI U)) h,.sc (.int .i64 h),.sc (.int .i64 h),.im (imR h (rI C)) h,.im (opsC l) l.length],false⟩)::(1,⟨76,[.sc (.int .u8 w0),.sc (.int .u8 w1),.sc (.int .u8 w2),.sc (.int .u8 w3)],false⟩)::(4,⟨80,opsC l,false⟩)::(5,⟨41,slR 2 w ids,false⟩)::rowsH 68 ids (rI M1)) (ids.getD k 0)=some ⟨68,(rI M1).getD k [],false⟩:=by intro k hk;obtain⟨h1,h2,h3,h4,h5,h6,h7⟩:=hnn k hk;simp only[hget];rw[if_neg h1,if_neg h2,if_neg h3,if_neg h4,if_neg h5,if_neg h6,if_neg h7];exact rows_get hin hk (by rw[rI_len];omega)
 by_cases h0:h=0
 ·subst h0;have hids:ids=[]:=List.eq_nil_of_length_eq_zero hil;have hm0:M1=[]:=List.eq_nil_of_length_eq_zero hmk;subst hids;subst hm0;have e0:imR w (rI [])=[]:=rfl;have e1:slR 2 w []=[]:=rfl;rw[e0]at s1 s2;rw[e1];refine qWDf (Q2 (Q20 @gl2 @go @hkl @bn1' @bn2' @bn3' @bn4' @bn5' @bq1' @bq2' @bq3' @bq4' @bq5' @bqn @mq @m2 @m4 @dq @d2 @d4) (Q20 @gl3 @gcl @bn1 @bn2 @bn3 @bn4 @bn5 @bq1 @bq2 @bq3 @bq4 @bq5 @bnq @mn @m1 @m3 @m5 @d1 @d3 @h6)) ?_;exact qE Tryz.results11
 have hfz:=λn=>frz_rowsA (n:=n) (z:=2) (m:=w) (ty:=68) (ids:=ids) (rs:=rI M1) om (by rw[rI_len];omega) hrows (rI_rows hM1);have hsl:=slR_some (z:=2) (m:=w) (ids:=ids) om;have ht:(slR 2 w ids).take h=slR 2 w ids:=zla om;refine qWDf (Q2 (Q22 @hfz @ht @gl3 @gcl @g1 @bn1' @bn2' @bn3' @bn4' @bn5' @bq1' @bq2' @bq3' @bq4' @bq5' @bqn @mq @m2 @m4 @dq @d2 @d4) (Q22 @hsl @gl2 @go @hkl @bn1 @bn2 @bn3 @bn4 @bn5 @bq1 @bq2 @bq3 @bq4 @bq5 @bnq @mn @m1 @m3 @m5 @d1 @d3 @h6)) ?_;exact qE Tryz.results11
set_option maxRecDepth 20000 in
theorem chkT1{B:Base}{h w q nx K w0 w1 w2 w3:Nat}{A H U C M1:List (List Int)}{l:List OpL}{ids:List Nat}{b:Bool}(hM1:MI h w K M1)(hil:ids.length=h)(hin:ids.Nodup)(hib: ∀j∈ids,6<=j/\j<nx)(h6:6<=nx)(hq6:6<=q)(hqx:q<nx)(hqi:q∉ids)(hll:l.length<=999999999)(hh:h<=1000000)
  (s1:Spec Tryz.prog 16 [.ag [.sc (.int .i64 h),.sc (.int .i64 w),.im (imR w (rI A)) h,.sc (.int .i64 h),.sc (.int .i64 w),.im (imR w (rI M1)) h,.sc (.int .i64 h),.sc (.int .i64 h),.im (imR h (rI U)) h,.sc (.int .i64 h),.sc (.int .i64 h),.im (imR h (rI C)) h,.im (opsC l) l.length]] (.sc (.bool b))) (s2:Spec Tryz.prog 30 [.ag [.sc (.int .i64 h),.sc (.int .i64 w),.im (imR w (rI A)) h,.sc (.int .i64 h),.sc (.int .i64 w),.im (imR w (rI M1)) h,.sc (.int .i64 h),.sc (.int .i64 h),.im (imR h (rI U)) h,.sc (.int .i64 h),.sc (.int .i64 h),.im (imR h (rI C)) h,.im (opsC l) l.length]] (.sc (.bool b))) (cO:Spec Tryz.prog 16 [.ag [.sc (.int .i64 ((h:Int)+1)),.sc (.int .i64 w),.im (imR w (rI A)) h,.sc (.int .i64 h),.sc (.int .i64 w),.im (imR w (rI H)) h,.sc (.int .i64 h),.sc (.int .i64 h),.im (imR h (rI U)) h,.sc (.int .i64 h),.sc (.int .i64 h),.im (imR h (rI C)) h,.im (opsC l) l.length]] (.sc (.bool false))) (kp:Spec Tryz.prog 16 [.ag [.sc (.int .i64 h),.sc (.int .i64 w),.im (imR w (rI A)) h,.sc (.int .i64 h),.sc (.int .i64 w),.im (imR w (rI H)) h,.sc (.int .i64 h),.sc (.int .i64 h),.im (imR h (rI U)) h,.sc (.int .i64 h),.sc (.int .i64 h),.im (imR h (rI C)) h,.im (opsC l) l.length]] (.sc (.bool true))):
  SC Tryz.prog B [atS 10 bodyU,dropS 11 bodyU] (retQ Tryz.prog Tryz.f11 (.sc (.bool true))) ⟨[(9,.pt 3 0),(13,.pt nx 0),(8,.pt 2 0),(7,.sc (.bool true))],(nx,⟨34,[.sc (.int .i64 (h+1)),.sc (.int .i64 w),.im (imR w (rI A)) h,.sc (.int .i64 h),.sc (.int .i64 w),.im (imR w (rI H)) h,.sc (.int .i64 h),.sc (.int .i64 h),.im (imR h (rI U)) h,.sc (.int .i64 h),.sc (.int .i64 h),.im (imR h (rI C)) h,.im (opsC l) l.length],false⟩)::(q,⟨28,[.sc (.int .i64 h),.sc (.int .i64 w),.sl 5 0 h 1 none],false⟩)::(3,⟨34,[.sc (.int .i64 h),.sc (.int .i64 w),.im (imR w (rI A)) h,.sc (.int .i64 h),.sc (.int .i64 w),.sl 5 0 h 1 none,.sc (.int .i64 h),.sc (.int .i64 h),.im (imR h (rI U)) h,.sc (.int .i64 h),.sc (.int .i64 h),.im (imR h (rI C)) h,.sl 4 0 l.length 5 none],false⟩)::(2,⟨34,[.sc (.int .i64 h),.sc (.int .i64 w),.im (imR w (rI A)) h,.sc (.int .i64 h),.sc (.int .i64 w),.im (imR w (rI H)) h,.sc (.int .i64 h),.sc (.int .i64 h),.im (imR h (rI U)) h,.sc (.int .i64 h),.sc (.int .i64 h),.im (imR h (rI C)) h,.im (opsC l) l.length],false⟩)::(1,⟨76,[.sc (.int .u8 w0),.sc (.int .u8 w1),.sc (.int .u8 w2),.sc (.int .u8 w3)],false⟩)::(4,⟨80,opsC l,false⟩)::(5,⟨41,slR 2 w ids,false⟩)::rowsH 68 ids (rI M1),nx+1,168⟩:=by
 obtain⟨fn,hfn⟩: ∃x,x=Tryz.f11:=⟨_,rfl⟩
 rw[<-hfn];unfold bodyU Tryz.f11;simp only[atS,dropS,Option.getD];subst hfn;have gl:=opsC_len l;have go:=opsC_one l;have gcl:=opsC_clo l;have gl2:(opsC l).length=l.length*5:=by omega
 have gl3:(opsC l).take (l.length*5)=opsC l:=zla om;have g1:=slR_len 2 w ids;rw[hil]at g1;have hkl:=klB_rows (ty:=68) (ids:=ids) (rs:=rI M1) (n:=nx+1) (λj hj=>by have:=hib j hj;omega);have bn1:(nx=1)=False:=eq_false om;have bn1':(1=nx)=False:=eq_false om;have bn2:(nx=2)=False:=eq_false om;have bn2':(2=nx)=False:=eq_false om;have bn3:(nx=3)=False:=eq_false om;have bn3':(3=nx)=False:=eq_false om;have bn4:(nx=4)=False:=eq_false om;have bn4':(4=nx)=False:=eq_false om;have bn5:(nx=5)=False:=eq_false om;have bn5':(5=nx)=False:=eq_false om;have bq1:(q=1)=False:=eq_false om;have bq1':(1=q)=False:=eq_false om;have bq2:(q=2)=False:=eq_false om;have bq2':(2=q)=False:=eq_false om;have bq3:(q=3)=False:=eq_false om;have bq3':(3=q)=False:=eq_false om;have bq4:(q=4)=False:=eq_false om;have bq4':(4=q)=False:=eq_false om;have bq5:(q=5)=False:=eq_false om;have bq5':(5=q)=False:=eq_false om;have bnq:(nx=q)=False:=eq_false om;have bqn:(q=nx)=False:=eq_false om;have mn:(nx<nx+1)=True:=eq_true om;have mq:(q<nx+1)=True:=eq_true om;have m1:(1<nx+1)=True:=eq_true om;have m2:(2<nx+1)=True:=eq_true om;have m3:(3<nx+1)=True:=eq_true om;have m4:(4<nx+1)=True:=eq_true om;have m5:(5<nx+1)=True:=eq_true om;have dq:q+1<=nx:=by omega
 have d1:2<=nx:=by omega
 have d2:3<=nx:=by omega
 have d3:4<=nx:=by omega
 have d4:5<=nx:=by omega
 have hmk:=hM1.len;have hnn: ∀k,k<ids.length->ids.getD k 0≠nx/\ids.getD k 0≠q/\ids.getD k 0≠3/\ids.getD k 0≠2/\ids.getD k 0≠1/\ids.getD k 0≠4/\ids.getD k 0≠5:=λk hk=>by have h1:=getD_mem' hk;have h2:=hib _ h1;exact⟨by omega,λe=>hqi (e▸h1),by omega,by omega,by omega,by omega,by omega⟩
 have hrows: ∀k,k<ids.length->hget ((nx,⟨34,[.sc (.int .i64 (h+1)),.sc (.int .i64 w),.im (imR w (rI A)) h,.sc (.int .i64 h),.sc (.int .i64 w),.im (imR w (rI H)) h,.sc (.int .i64 h),.sc (.int .i64 h),.im (imR h (rI U)) h,.sc (.int .i64 h),.sc (.int .i64 h),.im (imR h (rI C)) h,.im (opsC l) l.length],false⟩)::(q,⟨28,[.sc (.int .i64 h),.sc (.int .i64 w),.sl 5 0 h 1 none],false⟩)::(3,⟨34,[.sc (.int .i64 h),.sc (.int .i64 w),.im (imR w (rI A)) h,.sc (.int .i64 h),.sc (.int .i64 w),.sl 5 0 h 1 none,.sc (.int .i64 h),.sc (.int .i64 h),.im (imR h (rI U)) h,.sc (.int .i64 h),.sc (.int .i64 h),.im (imR h (rI C)) h,.sl 4 0 l.length 5 none],false⟩)::(2,⟨34,[.sc (.int .i64 h),.sc (.int .i64 w),.im (imR w (rI A)) h,.sc (.int .i64 h),.sc (.int .i64 w),.im (imR w (rI H)) h,.sc (.int .i64 h),.sc (.int .i64 h),.im (imR h (rI U)) h,.sc (.int .i64 h),.sc (.int .i64 h),.im (imR h (rI C)) h,.im (opsC l) l.length],false⟩)::(1,⟨76,[.sc (.int .u8 w0),.sc (.int .u8 w1),.sc (.int .u8 w2),.sc (.int .u8 w3)],false⟩)::(4,⟨80,opsC l,false⟩)::(5,⟨41,slR 2 w ids,false⟩)::rowsH 68 ids (rI M1)) (ids.getD k 0)=some ⟨68,(rI M1).getD k [],false⟩:=by intro k hk;obtain⟨h1,h2,h3,h4,h5,h6,h7⟩:=hnn k hk;simp only[hget];rw[if_neg h1,if_neg h2,if_neg h3,if_neg h4,if_neg h5,if_neg h6,if_neg h7];exact rows_get hin hk (by rw[rI_len];omega)
 by_cases h0:h=0
 ·subst h0;have hids:ids=[]:=List.eq_nil_of_length_eq_zero hil;have hm0:M1=[]:=List.eq_nil_of_length_eq_zero hmk;subst hids;subst hm0;have e0:imR w (rI [])=[]:=rfl;have e1:slR 2 w []=[]:=rfl;rw[e0]at s1 s2;rw[e1];refine qWDf (Q2 (Q20 @gl2 @go @hkl @bn1' @bn2' @bn3' @bn4' @bn5' @bq1' @bq2' @bq3' @bq4' @bq5' @bqn @mq @m2 @m4 @dq @d2 @d4) (Q20 @gl3 @gcl @bn1 @bn2 @bn3 @bn4 @bn5 @bq1 @bq2 @bq3 @bq4 @bq5 @bnq @mn @m1 @m3 @m5 @d1 @d3 @h6)) ?_;exact qE Tryz.results11
 have hfz:=λn=>frz_rowsA (n:=n) (z:=2) (m:=w) (ty:=68) (ids:=ids) (rs:=rI M1) om (by rw[rI_len];omega) hrows (rI_rows hM1);have hsl:=slR_some (z:=2) (m:=w) (ids:=ids) om;have ht:(slR 2 w ids).take h=slR 2 w ids:=zla om;refine qWDf (Q2 (Q22 @hfz @ht @gl3 @gcl @g1 @bn1' @bn2' @bn3' @bn4' @bn5' @bq1' @bq2' @bq3' @bq4' @bq5' @bqn @mq @m2 @m4 @dq @d2 @d4) (Q22 @hsl @gl2 @go @hkl @bn1 @bn2 @bn3 @bn4 @bn5 @bq1 @bq2 @bq3 @bq4 @bq5 @bnq @mn @m1 @m3 @m5 @d1 @d3 @h6)) ?_;exact qE Tryz.results11
set_option maxRecDepth 20000 in
theorem chkT2{B:Base}{h w q nx K w0 w1 w2 w3:Nat}{A H U C M1:List (List Int)}{l:List OpL}{ids:List Nat}{b:Bool}(hM1:MI h h K M1)(hil:ids.length=h)(hin:ids.Nodup)(hib: ∀j∈ids,6<=j/\j<nx)(h6:6<=nx)(hq6:6<=q)(hqx:q<nx)(hqi:q∉ids)(hll:l.length<=999999999)(hh:h<=1000000)
  (s1:Spec Tryz.prog 16 [.ag [.sc (.int .i64 h),.sc (.int .i64 w),.im (imR w (rI A)) h,.sc (.int .i64 h),.sc (.int .i64 w),.im (imR w (rI H)) h,.sc (.int .i64 h),.sc (.int .i64 h),.im (imR h (rI M1)) h,.sc (.int .i64 h),.sc (.int .i64 h),.im (imR h (rI C)) h,.im (opsC l) l.length]] (.sc (.bool b))) (s2:Spec Tryz.prog 30 [.ag [.sc (.int .i64 h),.sc (.int .i64 w),.im (imR w (rI A)) h,.sc (.int .i64 h),.sc (.int .i64 w),.im (imR w (rI H)) h,.sc (.int .i64 h),.sc (.int .i64 h),.im (imR h (rI M1)) h,.sc (.int .i64 h),.sc (.int .i64 h),.im (imR h (rI C)) h,.im (opsC l) l.length]] (.sc (.bool b))) (cO:Spec Tryz.prog 16 [.ag [.sc (.int .i64 ((h:Int)+1)),.sc (.int .i64 w),.im (imR w (rI A)) h,.sc (.int .i64 h),.sc (.int .i64 w),.im (imR w (rI H)) h,.sc (.int .i64 h),.sc (.int .i64 h),.im (imR h (rI U)) h,.sc (.int .i64 h),.sc (.int .i64 h),.im (imR h (rI C)) h,.im (opsC l) l.length]] (.sc (.bool false))) (kp:Spec Tryz.prog 16 [.ag [.sc (.int .i64 h),.sc (.int .i64 w),.im (imR w (rI A)) h,.sc (.int .i64 h),.sc (.int .i64 w),.im (imR w (rI H)) h,.sc (.int .i64 h),.sc (.int .i64 h),.im (imR h (rI U)) h,.sc (.int .i64 h),.sc (.int .i64 h),.im (imR h (rI C)) h,.im (opsC l) l.length]] (.sc (.bool true))):
  SC Tryz.prog B [atS 10 bodyU,dropS 11 bodyU] (retQ Tryz.prog Tryz.f11 (.sc (.bool true))) ⟨[(9,.pt 3 0),(13,.pt nx 0),(8,.pt 2 0),(7,.sc (.bool true))],(nx,⟨34,[.sc (.int .i64 (h+1)),.sc (.int .i64 w),.im (imR w (rI A)) h,.sc (.int .i64 h),.sc (.int .i64 w),.im (imR w (rI H)) h,.sc (.int .i64 h),.sc (.int .i64 h),.im (imR h (rI U)) h,.sc (.int .i64 h),.sc (.int .i64 h),.im (imR h (rI C)) h,.im (opsC l) l.length],false⟩)::(q,⟨28,[.sc (.int .i64 h),.sc (.int .i64 h),.sl 5 0 h 1 none],false⟩)::(3,⟨34,[.sc (.int .i64 h),.sc (.int .i64 w),.im (imR w (rI A)) h,.sc (.int .i64 h),.sc (.int .i64 w),.im (imR w (rI H)) h,.sc (.int .i64 h),.sc (.int .i64 h),.sl 5 0 h 1 none,.sc (.int .i64 h),.sc (.int .i64 h),.im (imR h (rI C)) h,.sl 4 0 l.length 5 none],false⟩)::(2,⟨34,[.sc (.int .i64 h),.sc (.int .i64 w),.im (imR w (rI A)) h,.sc (.int .i64 h),.sc (.int .i64 w),.im (imR w (rI H)) h,.sc (.int .i64 h),.sc (.int .i64 h),.im (imR h (rI U)) h,.sc (.int .i64 h),.sc (.int .i64 h),.im (imR h (rI C)) h,.im (opsC l) l.length],false⟩)::(1,⟨76,[.sc (.int .u8 w0),.sc (.int .u8 w1),.sc (.int .u8 w2),.sc (.int .u8 w3)],false⟩)::(4,⟨80,opsC l,false⟩)::(5,⟨41,slR 2 h ids,false⟩)::rowsH 68 ids (rI M1),nx+1,168⟩:=by
 obtain⟨fn,hfn⟩: ∃x,x=Tryz.f11:=⟨_,rfl⟩
 rw[<-hfn];unfold bodyU Tryz.f11;simp only[atS,dropS,Option.getD];subst hfn;have gl:=opsC_len l;have go:=opsC_one l;have gcl:=opsC_clo l;have gl2:(opsC l).length=l.length*5:=by omega
 have gl3:(opsC l).take (l.length*5)=opsC l:=zla om;have g1:=slR_len 2 h ids;rw[hil]at g1;have hkl:=klB_rows (ty:=68) (ids:=ids) (rs:=rI M1) (n:=nx+1) (λj hj=>by have:=hib j hj;omega);have bn1:(nx=1)=False:=eq_false om;have bn1':(1=nx)=False:=eq_false om;have bn2:(nx=2)=False:=eq_false om;have bn2':(2=nx)=False:=eq_false om;have bn3:(nx=3)=False:=eq_false om;have bn3':(3=nx)=False:=eq_false om;have bn4:(nx=4)=False:=eq_false om;have bn4':(4=nx)=False:=eq_false om;have bn5:(nx=5)=False:=eq_false om;have bn5':(5=nx)=False:=eq_false om;have bq1:(q=1)=False:=eq_false om;have bq1':(1=q)=False:=eq_false om;have bq2:(q=2)=False:=eq_false om;have bq2':(2=q)=False:=eq_false om;have bq3:(q=3)=False:=eq_false om;have bq3':(3=q)=False:=eq_false om;have bq4:(q=4)=False:=eq_false om;have bq4':(4=q)=False:=eq_false om;have bq5:(q=5)=False:=eq_false om;have bq5':(5=q)=False:=eq_false om;have bnq:(nx=q)=False:=eq_false om;have bqn:(q=nx)=False:=eq_false om;have mn:(nx<nx+1)=True:=eq_true om;have mq:(q<nx+1)=True:=eq_true om;have m1:(1<nx+1)=True:=eq_true om;have m2:(2<nx+1)=True:=eq_true om;have m3:(3<nx+1)=True:=eq_true om;have m4:(4<nx+1)=True:=eq_true om;have m5:(5<nx+1)=True:=eq_true om;have dq:q+1<=nx:=by omega
 have d1:2<=nx:=by omega
 have d2:3<=nx:=by omega
 have d3:4<=nx:=by omega
 have d4:5<=nx:=by omega
 have hmk:=hM1.len;have hnn: ∀k,k<ids.length->ids.getD k 0≠nx/\ids.getD k 0≠q/\ids.getD k 0≠3/\ids.getD k 0≠2/\ids.getD k 0≠1/\ids.getD k 0≠4/\ids.getD k 0≠5:=λk hk=>by have h1:=getD_mem' hk;have h2:=hib _ h1;exact⟨by omega,λe=>hqi (e▸h1),by omega,by omega,by omega,by omega,by omega⟩
 have hrows: ∀k,k<ids.length->hget ((nx,⟨34,[.sc (.int .i64 (h+1)),.sc (.int .i64 w),.im (imR w (rI A)) h,.sc (.int .i64 h),.sc (.int .i64 w),.im (imR w (rI H)) h,.sc (.int .i64 h),.sc (.int .i64 h),.im (imR h (rI U)) h,.sc (.int .i64 h),.sc (.int .i64 h),.im (imR h (rI C)) h,.im (opsC l) l.length],false⟩)::(q,⟨28,[.sc (.int .i64 h),.sc (.int .i64 h),.sl 5 0 h 1 none],false⟩)::(3,⟨34,[.sc (.int .i64 h),.sc (.int .i64 w),.im (imR w (rI A)) h,.sc (.int .i64 h),.sc (.int .i64 w),.im (imR w (rI H)) h,.sc (.int .i64 h),.sc (.int .i64 h),.sl 5 0 h 1 none,.sc (.int .i64 h),.sc (.int .i64 h),.im (imR h (rI C)) h,.sl 4 0 l.length 5 none],false⟩)::(2,⟨34,[.sc (.int .i64 h),.sc (.int .i64 w),.im (imR w (rI A)) h,.sc (.int .i64 h),.sc (.int .i64 w),.im (imR w (rI H)) h,.sc (.int .i64 h),.sc (.int .i64 h),.im (imR h (rI U)) h,.sc (.int .i64 h),.sc (.int .i64 h),.im (imR h (rI C)) h,.im (opsC l) l.length],false⟩)::(1,⟨76,[.sc (.int .u8 w0),.sc (.int .u8 w1),.sc (.int .u8 w2),.sc (.int .u8 w3)],false⟩)::(4,⟨80,opsC l,false⟩)::(5,⟨41,slR 2 h ids,false⟩)::rowsH 68 ids (rI M1)) (ids.getD k 0)=some ⟨68,(rI M1).getD k [],false⟩:=by intro k hk;obtain⟨h1,h2,h3,h4,h5,h6,h7⟩:=hnn k hk;simp only[hget];rw[if_neg h1,if_neg h2,if_neg h3,if_neg h4,if_neg h5,if_neg h6,if_neg h7];exact rows_get hin hk (by rw[rI_len];omega)
 by_cases h0:h=0
 ·subst h0;have hids:ids=[]:=List.eq_nil_of_length_eq_zero hil;have hm0:M1=[]:=List.eq_nil_of_length_eq_zero hmk;subst hids;subst hm0;have e0:imR 0 (rI [])=[]:=rfl;have e1:slR 2 0 []=[]:=rfl;rw[e0]at s1 s2;rw[e1];refine qWDf (Q2 (Q20 @gl2 @go @hkl @bn1' @bn2' @bn3' @bn4' @bn5' @bq1' @bq2' @bq3' @bq4' @bq5' @bqn @mq @m2 @m4 @dq @d2 @d4) (Q20 @gl3 @gcl @bn1 @bn2 @bn3 @bn4 @bn5 @bq1 @bq2 @bq3 @bq4 @bq5 @bnq @mn @m1 @m3 @m5 @d1 @d3 @h6)) ?_;exact qE Tryz.results11
 have hfz:=λn=>frz_rowsA (n:=n) (z:=2) (m:=h) (ty:=68) (ids:=ids) (rs:=rI M1) om (by rw[rI_len];omega) hrows (rI_rows hM1);have hsl:=slR_some (z:=2) (m:=h) (ids:=ids) om;have ht:(slR 2 h ids).take h=slR 2 h ids:=zla om;refine qWDf (Q2 (Q22 @hfz @ht @gl3 @gcl @g1 @bn1' @bn2' @bn3' @bn4' @bn5' @bq1' @bq2' @bq3' @bq4' @bq5' @bqn @mq @m2 @m4 @dq @d2 @d4) (Q22 @hsl @gl2 @go @hkl @bn1 @bn2 @bn3 @bn4 @bn5 @bq1 @bq2 @bq3 @bq4 @bq5 @bnq @mn @m1 @m3 @m5 @d1 @d3 @h6)) ?_;exact qE Tryz.results11
set_option maxRecDepth 20000 in
theorem chkT3{B:Base}{h w q nx K w0 w1 w2 w3:Nat}{A H U C M1:List (List Int)}{l:List OpL}{ids:List Nat}{b:Bool}(hM1:MI h h K M1)(hil:ids.length=h)(hin:ids.Nodup)(hib: ∀j∈ids,6<=j/\j<nx)(h6:6<=nx)(hq6:6<=q)(hqx:q<nx)(hqi:q∉ids)(hll:l.length<=999999999)(hh:h<=1000000)
  (s1:Spec Tryz.prog 16 [.ag [.sc (.int .i64 h),.sc (.int .i64 w),.im (imR w (rI A)) h,.sc (.int .i64 h),.sc (.int .i64 w),.im (imR w (rI H)) h,.sc (.int .i64 h),.sc (.int .i64 h),.im (imR h (rI U)) h,.sc (.int .i64 h),.sc (.int .i64 h),.im (imR h (rI M1)) h,.im (opsC l) l.length]] (.sc (.bool b))) (s2:Spec Tryz.prog 30 [.ag [.sc (.int .i64 h),.sc (.int .i64 w),.im (imR w (rI A)) h,.sc (.int .i64 h),.sc (.int .i64 w),.im (imR w (rI H)) h,.sc (.int .i64 h),.sc (.int .i64 h),.im (imR h (rI U)) h,.sc (.int .i64 h),.sc (.int .i64 h),.im (imR h (rI M1)) h,.im (opsC l) l.length]] (.sc (.bool b))) (cO:Spec Tryz.prog 16 [.ag [.sc (.int .i64 ((h:Int)+1)),.sc (.int .i64 w),.im (imR w (rI A)) h,.sc (.int .i64 h),.sc (.int .i64 w),.im (imR w (rI H)) h,.sc (.int .i64 h),.sc (.int .i64 h),.im (imR h (rI U)) h,.sc (.int .i64 h),.sc (.int .i64 h),.im (imR h (rI C)) h,.im (opsC l) l.length]] (.sc (.bool false))) (kp:Spec Tryz.prog 16 [.ag [.sc (.int .i64 h),.sc (.int .i64 w),.im (imR w (rI A)) h,.sc (.int .i64 h),.sc (.int .i64 w),.im (imR w (rI H)) h,.sc (.int .i64 h),.sc (.int .i64 h),.im (imR h (rI U)) h,.sc (.int .i64 h),.sc (.int .i64 h),.im (imR h (rI C)) h,.im (opsC l) l.length]] (.sc (.bool true))):
  SC Tryz.prog B [atS 10 bodyU,dropS 11 bodyU] (retQ Tryz.prog Tryz.f11 (.sc (.bool true))) ⟨[(9,.pt 3 0),(13,.pt nx 0),(8,.pt 2 0),(7,.sc (.bool true))],(nx,⟨34,[.sc (.int .i64 (h+1)),.sc (.int .i64 w),.im (imR w (rI A)) h,.sc (.int .i64 h),.sc (.int .i64 w),.im (imR w (rI H)) h,.sc (.int .i64 h),.sc (.int .i64 h),.im (imR h (rI U)) h,.sc (.int .i64 h),.sc (.int .i64 h),.im (imR h (rI C)) h,.im (opsC l) l.length],false⟩)::(q,⟨28,[.sc (.int .i64 h),.sc (.int .i64 h),.sl 5 0 h 1 none],false⟩)::(3,⟨34,[.sc (.int .i64 h),.sc (.int .i64 w),.im (imR w (rI A)) h,.sc (.int .i64 h),.sc (.int .i64 w),.im (imR w (rI H)) h,.sc (.int .i64 h),.sc (.int .i64 h),.im (imR h (rI U)) h,.sc (.int .i64 h),.sc (.int .i64 h),.sl 5 0 h 1 none,.sl 4 0 l.length 5 none],false⟩)::(2,⟨34,[.sc (.int .i64 h),.sc (.int .i64 w),.im (imR w (rI A)) h,.sc (.int .i64 h),.sc (.int .i64 w),.im (imR w (rI H)) h,.sc (.int .i64 h),.sc (.int .i64 h),.im (imR h (rI U)) h,.sc (.int .i64 h),.sc (.int .i64 h),.im (imR h (rI C)) h,.im (opsC l) l.length],false⟩)::(1,⟨76,[.sc (.int .u8 w0),.sc (.int .u8 w1),.sc (.int .u8 w2),.sc (.int .u8 w3)],false⟩)::(4,⟨80,opsC l,false⟩)::(5,⟨41,slR 2 h ids,false⟩)::rowsH 68 ids (rI M1),nx+1,168⟩:=by
 obtain⟨fn,hfn⟩: ∃x,x=Tryz.f11:=⟨_,rfl⟩
 rw[<-hfn];unfold bodyU Tryz.f11;simp only[atS,dropS,Option.getD];subst hfn;have gl:=opsC_len l;have go:=opsC_one l;have gcl:=opsC_clo l;have gl2:(opsC l).length=l.length*5:=by omega
 have gl3:(opsC l).take (l.length*5)=opsC l:=zla om;have g1:=slR_len 2 h ids;rw[hil]at g1;have hkl:=klB_rows (ty:=68) (ids:=ids) (rs:=rI M1) (n:=nx+1) (λj hj=>by have:=hib j hj;omega);have bn1:(nx=1)=False:=eq_false om;have bn1':(1=nx)=False:=eq_false om;have bn2:(nx=2)=False:=eq_false om;have bn2':(2=nx)=False:=eq_false om;have bn3:(nx=3)=False:=eq_false om;have bn3':(3=nx)=False:=eq_false om;have bn4:(nx=4)=False:=eq_false om;have bn4':(4=nx)=False:=eq_false om;have bn5:(nx=5)=False:=eq_false om;have bn5':(5=nx)=False:=eq_false om;have bq1:(q=1)=False:=eq_false om;have bq1':(1=q)=False:=eq_false om;have bq2:(q=2)=False:=eq_false om;have bq2':(2=q)=False:=eq_false om;have bq3:(q=3)=False:=eq_false om;have bq3':(3=q)=False:=eq_false om;have bq4:(q=4)=False:=eq_false om;have bq4':(4=q)=False:=eq_false om;have bq5:(q=5)=False:=eq_false om;have bq5':(5=q)=False:=eq_false om;have bnq:(nx=q)=False:=eq_false om;have bqn:(q=nx)=False:=eq_false om;have mn:(nx<nx+1)=True:=eq_true om;have mq:(q<nx+1)=True:=eq_true om;have m1:(1<nx+1)=True:=eq_true om;have m2:(2<nx+1)=True:=eq_true om;have m3:(3<nx+1)=True:=eq_true om;have m4:(4<nx+1)=True:=eq_true om;have m5:(5<nx+1)=True:=eq_true om;have dq:q+1<=nx:=by omega
 have d1:2<=nx:=by omega
 have d2:3<=nx:=by omega
 have d3:4<=nx:=by omega
 have d4:5<=nx:=by omega
 have hmk:=hM1.len;have hnn: ∀k,k<ids.length->ids.getD k 0≠nx/\ids.getD k 0≠q/\ids.getD k 0≠3/\ids.getD k 0≠2/\ids.getD k 0≠1/\ids.getD k 0≠4/\ids.getD k 0≠5:=λk hk=>by have h1:=getD_mem' hk;have h2:=hib _ h1;exact⟨by omega,λe=>hqi (e▸h1),by omega,by omega,by omega,by omega,by omega⟩
 have hrows: ∀k,k<ids.length->hget ((nx,⟨34,[.sc (.int .i64 (h+1)),.sc (.int .i64 w),.im (imR w (rI A)) h,.sc (.int .i64 h),.sc (.int .i64 w),.im (imR w (rI H)) h,.sc (.int .i64 h),.sc (.int .i64 h),.im (imR h (rI U)) h,.sc (.int .i64 h),.sc (.int .i64 h),.im (imR h (rI C)) h,.im (opsC l) l.length],false⟩)::(q,⟨28,[.sc (.int .i64 h),.sc (.int .i64 h),.sl 5 0 h 1 none],false⟩)::(3,⟨34,[.sc (.int .i64 h),.sc (.int .i64 w),.im (imR w (rI A)) h,.sc (.int .i64 h),.sc (.int .i64 w),.im (imR w (rI H)) h,.sc (.int .i64 h),.sc (.int .i64 h),.im (imR h (rI U)) h,.sc (.int .i64 h),.sc (.int .i64 h),.sl 5 0 h 1 none,.sl 4 0 l.length 5 none],false⟩)::(2,⟨34,[.sc (.int .i64 h),.sc (.int .i64 w),.im (imR w (rI A)) h,.sc (.int .i64 h),.sc (.int .i64 w),.im (imR w (rI H)) h,.sc (.int .i64 h),.sc (.int .i64 h),.im (imR h (rI U)) h,.sc (.int .i64 h),.sc (.int .i64 h),.im (imR h (rI C)) h,.im (opsC l) l.length],false⟩)::(1,⟨76,[.sc (.int .u8 w0),.sc (.int .u8 w1),.sc (.int .u8 w2),.sc (.int .u8 w3)],false⟩)::(4,⟨80,opsC l,false⟩)::(5,⟨41,slR 2 h ids,false⟩)::rowsH 68 ids (rI M1)) (ids.getD k 0)=some ⟨68,(rI M1).getD k [],false⟩:=by intro k hk;obtain⟨h1,h2,h3,h4,h5,h6,h7⟩:=hnn k hk;simp only[hget];rw[if_neg h1,if_neg h2,if_neg h3,if_neg h4,if_neg h5,if_neg h6,if_neg h7];exact rows_get hin hk (by rw[rI_len];omega)
 by_cases h0:h=0
 ·subst h0;have hids:ids=[]:=List.eq_nil_of_length_eq_zero hil;have hm0:M1=[]:=List.eq_nil_of_length_eq_zero hmk;subst hids;subst hm0;have e0:imR 0 (rI [])=[]:=rfl;have e1:slR 2 0 []=[]:=rfl;rw[e0]at s1 s2;rw[e1];refine qWDf (Q2 (Q20 @gl2 @go @hkl @bn1' @bn2' @bn3' @bn4' @bn5' @bq1' @bq2' @bq3' @bq4' @bq5' @bqn @mq @m2 @m4 @dq @d2 @d4) (Q20 @gl3 @gcl @bn1 @bn2 @bn3 @bn4 @bn5 @bq1 @bq2 @bq3 @bq4 @bq5 @bnq @mn @m1 @m3 @m5 @d1 @d3 @h6)) ?_;exact qE Tryz.results11
 have hfz:=λn=>frz_rowsA (n:=n) (z:=2) (m:=h) (ty:=68) (ids:=ids) (rs:=rI M1) om (by rw[rI_len];omega) hrows (rI_rows hM1);have hsl:=slR_some (z:=2) (m:=h) (ids:=ids) om;have ht:(slR 2 h ids).take h=slR 2 h ids:=zla om;refine qWDf (Q2 (Q22 @hfz @ht @gl3 @gcl @g1 @bn1' @bn2' @bn3' @bn4' @bn5' @bq1' @bq2' @bq3' @bq4' @bq5' @bqn @mq @m2 @m4 @dq @d2 @d4) (Q22 @hsl @gl2 @go @hkl @bn1 @bn2 @bn3 @bn4 @bn5 @bq1 @bq2 @bq3 @bq4 @bq5 @bnq @mn @m1 @m3 @m5 @d1 @d3 @h6)) ?_;exact qE Tryz.results11
set_option maxRecDepth 20000 in
theorem chkO0{B:Base}{h w q w0 w1 w2 w3:Nat}{c:Int}{A H U C:List (List Int)}{l:List OpL}{ids:List Nat}(hm:MI h w KR A)(hil:ids.length=h)(hin:ids.Nodup)(hib: ∀j∈ids,6<=j/\j<q)(h6:6<=q)(hll:l.length<=999999999)(hh:h<=1000000)(hc: -128<=c/\c<=127)(hw0:w0<256)(hw1:w1<256)(hw2:w2<256)(hq:w0 % 6=0)
  (kB: ∀M1,MI h w (KR+2) M1-> ∃b:Bool,Spec Tryz.prog 16 [.ag [.sc (.int .i64 h),.sc (.int .i64 w),.im (imR w (rI M1)) h,.sc (.int .i64 h),.sc (.int .i64 w),.im (imR w (rI H)) h,.sc (.int .i64 h),.sc (.int .i64 h),.im (imR h (rI U)) h,.sc (.int .i64 h),.sc (.int .i64 h),.im (imR h (rI C)) h,.im (opsC l) l.length]] (.sc (.bool b))/\Spec Tryz.prog 30 [.ag [.sc (.int .i64 h),.sc (.int .i64 w),.im (imR w (rI M1)) h,.sc (.int .i64 h),.sc (.int .i64 w),.im (imR w (rI H)) h,.sc (.int .i64 h),.sc (.int .i64 h),.im (imR h (rI U)) h,.sc (.int .i64 h),.sc (.int .i64 h),.im (imR h (rI C)) h,.im (opsC l) l.length]] (.sc (.bool b))) (cO:Spec Tryz.prog 16 [.ag [.sc (.int .i64 ((h:Int)+1)),.sc (.int .i64 w),.im (imR w (rI A)) h,.sc (.int .i64 h),.sc (.int .i64 w),.im (imR w (rI H)) h,.sc (.int .i64 h),.sc (.int .i64 h),.im (imR h (rI U)) h,.sc (.int .i64 h),.sc (.int .i64 h),.im (imR h (rI C)) h,.im (opsC l) l.length]] (.sc (.bool false))) (kp:Spec Tryz.prog 16 [.ag [.sc (.int .i64 h),.sc (.int .i64 w),.im (imR w (rI A)) h,.sc (.int .i64 h),.sc (.int .i64 w),.im (imR w (rI H)) h,.sc (.int .i64 h),.sc (.int .i64 h),.im (imR h (rI U)) h,.sc (.int .i64 h),.sc (.int .i64 h),.im (imR h (rI C)) h,.im (opsC l) l.length]] (.sc (.bool true))):
  SC Tryz.prog B [dropS 5 bodyU] (retQ Tryz.prog Tryz.f11 (.sc (.bool true))) ⟨[(8,.pt 2 0),(9,.pt 3 0),(4,.pt 1 0),(2,.sc (.int .i8 c)),(7,.sc (.bool true))],(3,⟨34,[.sc (.int .i64 h),.sc (.int .i64 w),.sl 5 0 h 1 none,.sc (.int .i64 h),.sc (.int .i64 w),.im (imR w (rI H)) h,.sc (.int .i64 h),.sc (.int .i64 h),.im (imR h (rI U)) h,.sc (.int .i64 h),.sc (.int .i64 h),.im (imR h (rI C)) h,.sl 4 0 l.length 5 none],false⟩)::(2,⟨34,[.sc (.int .i64 h),.sc (.int .i64 w),.im (imR w (rI A)) h,.sc (.int .i64 h),.sc (.int .i64 w),.im (imR w (rI H)) h,.sc (.int .i64 h),.sc (.int .i64 h),.im (imR h (rI U)) h,.sc (.int .i64 h),.sc (.int .i64 h),.im (imR h (rI C)) h,.im (opsC l) l.length],false⟩)::(1,⟨76,[.sc (.int .u8 w0),.sc (.int .u8 w1),.sc (.int .u8 w2),.sc (.int .u8 w3)],false⟩)::(4,⟨80,opsC l,false⟩)::(5,⟨41,slR 2 w ids,false⟩)::rowsH 68 ids (rI A),q,168⟩:=by
 obtain⟨fn,hfn⟩: ∃x,x=Tryz.f11:=⟨_,rfl⟩
 rw[<-hfn];unfold bodyU Tryz.f11;simp only[dropS,Option.getD];subst hfn;have hkr:=kr_le;have hqi:q∉ids:=λe=>by have:=hib _ e;omega
 have u1:IntKind.i64.wrap (w1:Int)=w1:=IntWalk.i64_in _ om;have u2:IntKind.i64.wrap (w2:Int)=w2:=IntWalk.i64_in _ om;have u4:IntKind.i64.wrap c=c:=IntWalk.i64_in _ om;have g1:=slR_len 2 w ids;rw[hil]at g1;have q0:(w0:Int) % 6=0:=by omega
 have bq1:(q=1)=False:=eq_false om;have bq1':(1=q)=False:=eq_false om;have bq2:(q=2)=False:=eq_false om;have bq2':(2=q)=False:=eq_false om;have bq3:(q=3)=False:=eq_false om;have bq3':(3=q)=False:=eq_false om;have bq4:(q=4)=False:=eq_false om;have bq4':(4=q)=False:=eq_false om;have bq5:(q=5)=False:=eq_false om;have bq5':(5=q)=False:=eq_false om;by_cases h0:h=0
 ·have qh:decide (0<(h:Int))=false:=decide_eq_false om;refine qWf (Q12 @q0 @qh @bq1 @bq1' @bq2 @bq2' @bq3 @bq3' @bq4 @bq4' @bq5 @bq5') ?_;obtain⟨b,s1,s2⟩:=kB _ (hm.mono om);refine SC.weak (by simp) ?_ (chkT0 (q:=q) (nx:=q+1) (w0:=w0) (w1:=w1) (w2:=w2) (w3:=w3) (hm.mono om) hil hin (λj hj=>by have:=hib j hj;omega) om om om hqi hll hh s1 s2 cO kp);exact qM
 have qh:decide (0<(h:Int))=true:=decide_eq_true om;by_cases hw0:w=0
 ·have qw:decide (0<(w:Int))=false:=decide_eq_false om;refine qWf (Q13 @q0 @qh @qw @bq1 @bq1' @bq2 @bq2' @bq3 @bq3' @bq4 @bq4' @bq5 @bq5') ?_;obtain⟨b,s1,s2⟩:=kB _ (hm.mono om);refine SC.weak (by simp) ?_ (chkT0 (q:=q) (nx:=q+1) (w0:=w0) (w1:=w1) (w2:=w2) (w3:=w3) (hm.mono om) hil hin (λj hj=>by have:=hib j hj;omega) om om om hqi hll hh s1 s2 cO kp);exact qM
 have qw:decide (0<(w:Int))=true:=decide_eq_true om;have hh0:((h:Int)=0)=False:=eq_false om;have ww0:((w:Int)=0)=False:=eq_false om;refine qWf (Q13 @q0 @qh @qw @bq1 @bq1' @bq2 @bq2' @bq3 @bq3' @bq4 @bq4' @bq5 @bq5') ?_;obtain⟨nx,hnx⟩: ∃nx,nx=q+1:=⟨_,rfl⟩
 rw[<-hnx];have v1:(w1:Int) % (h:Int)=((w1 % h:Nat):Int):=by push_cast;rfl
 have v2:(w2:Int) % (w:Int)=((w2 % w:Nat):Int):=by push_cast;rfl
 have hc1:w1 % h<h:=Nat.mod_lt _ om;have hc2:w2 % w<w:=Nat.mod_lt _ om;generalize w1 % h=i at*;generalize w2 % w=j at*;have gi:=slR_get (z:=2) (m:=w) (ids:=ids) (k:=i) om;have hmem:=getD_mem' (ids:=ids) (k:=i) om;have hal:=hib _ hmem;obtain⟨f,hf⟩: ∃f:Nat->Nat->Int,f=λr c=>(A.getD r []).getD c 0:=⟨_,rfl⟩
 have e00:rI A=rI (mkM h w f):=by rw[hf,mkM_of hm]
 obtain⟨gR,gl1,gd,gs,hrs⟩:=cellF (ty:=68) (f:=f) (z:=f i j+c) hin hil hc1 hc2;have hfx:Fits KR (f i j):=by rw[hf];exact hm.fit hc1 hc2
 have hfc:Fits 1 c:=by show c.natAbs<4294967296;omega
 have c3:=add_i (f i j) c KR hfx (hfc.mono (show 1<=KR by unfold KR;omega)) om;have cOf:=of_i c om om;have hM1:MI h w (KR+2) (mkM h w λr t=>if r=i/\t=j then f i j+c else f r t):=mk_mi λr t hr ht=>by
  by_cases e:r=i/\t=j;·rw[if_pos e];exact(fits_sum hfx (hfc.mono (show 1<=KR by unfold KR;omega))).mono om
  ·rw[if_neg e,hf];exact(hm.fit hr ht).mono om
 have hkl:=klB_rows (ty:=68) (ids:=ids) (rs:=rI (mkM h w f)) (n:=nx) (λj hj=>by have:=hib j hj;omega);rw[<-e00]at gR hrs hkl;have n0:(ids.getD i 0=q)=False:=eq_false om;have n1:(ids.getD i 0=1)=False:=eq_false om;have n2:(ids.getD i 0=2)=False:=eq_false om;have n3:(ids.getD i 0=3)=False:=eq_false om;have n4:(ids.getD i 0=4)=False:=eq_false om;have n5:(ids.getD i 0=5)=False:=eq_false om;have hd3:ids.getD i 0+1<=nx:=by omega
 clear hmem hal hfx hfc e00;have g2:j*2<(ivR (mkR w (f i))).length:=by rw[ivR_len,mkR_len];omega
 generalize(ivR (mkR w (f i))).drop ((j+1)*2)=D1 at*;generalize hA1:ivR (mkR w (f i))=A1 at*;generalize hA4:ivR ((mkR w (f i)).set j (f i j+c))=A4 at*;generalize hM2:(mkM h w λr t=>if r=i/\t=j then f i j+c else f r t)=M1 at*;generalize f i j=x at*;generalize ids.getD i 0=a at*;unfold iv sv at c3 cOf;unfold ivC sv at gd gs;simp only[zl8,zl7]at gd gs;have m0:(q<nx)=True:=eq_true om;have m1:(1<nx)=True:=eq_true om;have m2:(2<nx)=True:=eq_true om;have m3:(3<nx)=True:=eq_true om;have m4:(4<nx)=True:=eq_true om;have m5:(5<nx)=True:=eq_true om;have d0:q+1<=nx:=by omega
 have d1:2<=nx:=by omega
 have d2:3<=nx:=by omega
 have d3:4<=nx:=by omega
 have d4:5<=nx:=by omega
 have d5:6<=nx:=by omega
 refine qWDf (Q2 (Q23 @q0 @u2 @hh0 @v1 @gi @gR @gd @g2 @hkl @n1 @n3 @n5 @m1 @m3 @m5 @d0 @d2 @d4 @bq1 @bq2 @bq3 @bq4 @bq5) (Q23 @u1 @u4 @ww0 @v2 @g1 @gl1 @gs @hrs @n0 @n2 @n4 @m0 @m2 @m4 @hd3 @d1 @d3 @d5 @bq1' @bq2' @bq3' @bq4' @bq5')) ?_;obtain⟨b,s1,s2⟩:=kB _ (hM1);refine SC.weak (by simp) ?_ (chkT0 (q:=q) (nx:=nx) (w0:=w0) (w1:=w1) (w2:=w2) (w3:=w3) (hM1) hil hin (λj hj=>by have:=hib j hj;omega) om om om hqi hll hh s1 s2 cO kp);exact qM
set_option maxRecDepth 20000 in
theorem chkO1{B:Base}{h w q w0 w1 w2 w3:Nat}{c:Int}{A H U C:List (List Int)}{l:List OpL}{ids:List Nat}(hm:MI h w KR H)(hil:ids.length=h)(hin:ids.Nodup)(hib: ∀j∈ids,6<=j/\j<q)(h6:6<=q)(hll:l.length<=999999999)(hh:h<=1000000)(hc: -128<=c/\c<=127)(hw0:w0<256)(hw1:w1<256)(hw2:w2<256)(hq:w0 % 6=1)
  (kB: ∀M1,MI h w (KR+2) M1-> ∃b:Bool,Spec Tryz.prog 16 [.ag [.sc (.int .i64 h),.sc (.int .i64 w),.im (imR w (rI A)) h,.sc (.int .i64 h),.sc (.int .i64 w),.im (imR w (rI M1)) h,.sc (.int .i64 h),.sc (.int .i64 h),.im (imR h (rI U)) h,.sc (.int .i64 h),.sc (.int .i64 h),.im (imR h (rI C)) h,.im (opsC l) l.length]] (.sc (.bool b))/\Spec Tryz.prog 30 [.ag [.sc (.int .i64 h),.sc (.int .i64 w),.im (imR w (rI A)) h,.sc (.int .i64 h),.sc (.int .i64 w),.im (imR w (rI M1)) h,.sc (.int .i64 h),.sc (.int .i64 h),.im (imR h (rI U)) h,.sc (.int .i64 h),.sc (.int .i64 h),.im (imR h (rI C)) h,.im (opsC l) l.length]] (.sc (.bool b))) (cO:Spec Tryz.prog 16 [.ag [.sc (.int .i64 ((h:Int)+1)),.sc (.int .i64 w),.im (imR w (rI A)) h,.sc (.int .i64 h),.sc (.int .i64 w),.im (imR w (rI H)) h,.sc (.int .i64 h),.sc (.int .i64 h),.im (imR h (rI U)) h,.sc (.int .i64 h),.sc (.int .i64 h),.im (imR h (rI C)) h,.im (opsC l) l.length]] (.sc (.bool false))) (kp:Spec Tryz.prog 16 [.ag [.sc (.int .i64 h),.sc (.int .i64 w),.im (imR w (rI A)) h,.sc (.int .i64 h),.sc (.int .i64 w),.im (imR w (rI H)) h,.sc (.int .i64 h),.sc (.int .i64 h),.im (imR h (rI U)) h,.sc (.int .i64 h),.sc (.int .i64 h),.im (imR h (rI C)) h,.im (opsC l) l.length]] (.sc (.bool true))):
  SC Tryz.prog B [dropS 5 bodyU] (retQ Tryz.prog Tryz.f11 (.sc (.bool true))) ⟨[(8,.pt 2 0),(9,.pt 3 0),(4,.pt 1 0),(2,.sc (.int .i8 c)),(7,.sc (.bool true))],(3,⟨34,[.sc (.int .i64 h),.sc (.int .i64 w),.im (imR w (rI A)) h,.sc (.int .i64 h),.sc (.int .i64 w),.sl 5 0 h 1 none,.sc (.int .i64 h),.sc (.int .i64 h),.im (imR h (rI U)) h,.sc (.int .i64 h),.sc (.int .i64 h),.im (imR h (rI C)) h,.sl 4 0 l.length 5 none],false⟩)::(2,⟨34,[.sc (.int .i64 h),.sc (.int .i64 w),.im (imR w (rI A)) h,.sc (.int .i64 h),.sc (.int .i64 w),.im (imR w (rI H)) h,.sc (.int .i64 h),.sc (.int .i64 h),.im (imR h (rI U)) h,.sc (.int .i64 h),.sc (.int .i64 h),.im (imR h (rI C)) h,.im (opsC l) l.length],false⟩)::(1,⟨76,[.sc (.int .u8 w0),.sc (.int .u8 w1),.sc (.int .u8 w2),.sc (.int .u8 w3)],false⟩)::(4,⟨80,opsC l,false⟩)::(5,⟨41,slR 2 w ids,false⟩)::rowsH 68 ids (rI H),q,168⟩:=by
 obtain⟨fn,hfn⟩: ∃x,x=Tryz.f11:=⟨_,rfl⟩
 rw[<-hfn];unfold bodyU Tryz.f11;simp only[dropS,Option.getD];subst hfn;have hkr:=kr_le;have hqi:q∉ids:=λe=>by have:=hib _ e;omega
 have u1:IntKind.i64.wrap (w1:Int)=w1:=IntWalk.i64_in _ om;have u2:IntKind.i64.wrap (w2:Int)=w2:=IntWalk.i64_in _ om;have u4:IntKind.i64.wrap c=c:=IntWalk.i64_in _ om;have g1:=slR_len 2 w ids;rw[hil]at g1;have q0:(w0:Int) % 6=1:=by omega
 have bq1:(q=1)=False:=eq_false om;have bq1':(1=q)=False:=eq_false om;have bq2:(q=2)=False:=eq_false om;have bq2':(2=q)=False:=eq_false om;have bq3:(q=3)=False:=eq_false om;have bq3':(3=q)=False:=eq_false om;have bq4:(q=4)=False:=eq_false om;have bq4':(4=q)=False:=eq_false om;have bq5:(q=5)=False:=eq_false om;have bq5':(5=q)=False:=eq_false om;by_cases h0:h=0
 ·have qh:decide (0<(h:Int))=false:=decide_eq_false om;refine qWf (Q12 @q0 @qh @bq1 @bq1' @bq2 @bq2' @bq3 @bq3' @bq4 @bq4' @bq5 @bq5') ?_;obtain⟨b,s1,s2⟩:=kB _ (hm.mono om);refine SC.weak (by simp) ?_ (chkT1 (q:=q) (nx:=q+1) (w0:=w0) (w1:=w1) (w2:=w2) (w3:=w3) (hm.mono om) hil hin (λj hj=>by have:=hib j hj;omega) om om om hqi hll hh s1 s2 cO kp);exact qM
 have qh:decide (0<(h:Int))=true:=decide_eq_true om;by_cases hw0:w=0
 ·have qw:decide (0<(w:Int))=false:=decide_eq_false om;refine qWf (Q13 @q0 @qh @qw @bq1 @bq1' @bq2 @bq2' @bq3 @bq3' @bq4 @bq4' @bq5 @bq5') ?_;obtain⟨b,s1,s2⟩:=kB _ (hm.mono om);refine SC.weak (by simp) ?_ (chkT1 (q:=q) (nx:=q+1) (w0:=w0) (w1:=w1) (w2:=w2) (w3:=w3) (hm.mono om) hil hin (λj hj=>by have:=hib j hj;omega) om om om hqi hll hh s1 s2 cO kp);exact qM
 have qw:decide (0<(w:Int))=true:=decide_eq_true om;have hh0:((h:Int)=0)=False:=eq_false om;have ww0:((w:Int)=0)=False:=eq_false om;refine qWf (Q13 @q0 @qh @qw @bq1 @bq1' @bq2 @bq2' @bq3 @bq3' @bq4 @bq4' @bq5 @bq5') ?_;obtain⟨nx,hnx⟩: ∃nx,nx=q+1:=⟨_,rfl⟩
 rw[<-hnx];have v1:(w1:Int) % (h:Int)=((w1 % h:Nat):Int):=by push_cast;rfl
 have v2:(w2:Int) % (w:Int)=((w2 % w:Nat):Int):=by push_cast;rfl
 have hc1:w1 % h<h:=Nat.mod_lt _ om;have hc2:w2 % w<w:=Nat.mod_lt _ om;generalize w1 % h=i at*;generalize w2 % w=j at*;have gi:=slR_get (z:=2) (m:=w) (ids:=ids) (k:=i) om;have hmem:=getD_mem' (ids:=ids) (k:=i) om;have hal:=hib _ hmem;obtain⟨f,hf⟩: ∃f:Nat->Nat->Int,f=λr c=>(H.getD r []).getD c 0:=⟨_,rfl⟩
 have e00:rI H=rI (mkM h w f):=by rw[hf,mkM_of hm]
 obtain⟨gR,gl1,gd,gs,hrs⟩:=cellF (ty:=68) (f:=f) (z:=f i j+c) hin hil hc1 hc2;have hfx:Fits KR (f i j):=by rw[hf];exact hm.fit hc1 hc2
 have hfc:Fits 1 c:=by show c.natAbs<4294967296;omega
 have c3:=add_i (f i j) c KR hfx (hfc.mono (show 1<=KR by unfold KR;omega)) om;have cOf:=of_i c om om;have hM1:MI h w (KR+2) (mkM h w λr t=>if r=i/\t=j then f i j+c else f r t):=mk_mi λr t hr ht=>by
  by_cases e:r=i/\t=j;·rw[if_pos e];exact(fits_sum hfx (hfc.mono (show 1<=KR by unfold KR;omega))).mono om
  ·rw[if_neg e,hf];exact(hm.fit hr ht).mono om
 have hkl:=klB_rows (ty:=68) (ids:=ids) (rs:=rI (mkM h w f)) (n:=nx) (λj hj=>by have:=hib j hj;omega);rw[<-e00]at gR hrs hkl;have n0:(ids.getD i 0=q)=False:=eq_false om;have n1:(ids.getD i 0=1)=False:=eq_false om;have n2:(ids.getD i 0=2)=False:=eq_false om;have n3:(ids.getD i 0=3)=False:=eq_false om;have n4:(ids.getD i 0=4)=False:=eq_false om;have n5:(ids.getD i 0=5)=False:=eq_false om;have hd3:ids.getD i 0+1<=nx:=by omega
 clear hmem hal hfx hfc e00;have g2:j*2<(ivR (mkR w (f i))).length:=by rw[ivR_len,mkR_len];omega
 generalize(ivR (mkR w (f i))).drop ((j+1)*2)=D1 at*;generalize hA1:ivR (mkR w (f i))=A1 at*;generalize hA4:ivR ((mkR w (f i)).set j (f i j+c))=A4 at*;generalize hM2:(mkM h w λr t=>if r=i/\t=j then f i j+c else f r t)=M1 at*;generalize f i j=x at*;generalize ids.getD i 0=a at*;unfold iv sv at c3 cOf;unfold ivC sv at gd gs;simp only[zl8,zl7]at gd gs;have m0:(q<nx)=True:=eq_true om;have m1:(1<nx)=True:=eq_true om;have m2:(2<nx)=True:=eq_true om;have m3:(3<nx)=True:=eq_true om;have m4:(4<nx)=True:=eq_true om;have m5:(5<nx)=True:=eq_true om;have d0:q+1<=nx:=by omega
 have d1:2<=nx:=by omega
 have d2:3<=nx:=by omega
 have d3:4<=nx:=by omega
 have d4:5<=nx:=by omega
 have d5:6<=nx:=by omega
 refine qWDf (Q2 (Q23 @q0 @u2 @hh0 @v1 @gi @gR @gd @g2 @hkl @n1 @n3 @n5 @m1 @m3 @m5 @d0 @d2 @d4 @bq1 @bq2 @bq3 @bq4 @bq5) (Q23 @u1 @u4 @ww0 @v2 @g1 @gl1 @gs @hrs @n0 @n2 @n4 @m0 @m2 @m4 @hd3 @d1 @d3 @d5 @bq1' @bq2' @bq3' @bq4' @bq5')) ?_;obtain⟨b,s1,s2⟩:=kB _ (hM1);refine SC.weak (by simp) ?_ (chkT1 (q:=q) (nx:=nx) (w0:=w0) (w1:=w1) (w2:=w2) (w3:=w3) (hM1) hil hin (λj hj=>by have:=hib j hj;omega) om om om hqi hll hh s1 s2 cO kp);exact qM
set_option maxRecDepth 20000 in
theorem chkO2{B:Base}{h w q w0 w1 w2 w3:Nat}{c:Int}{A H U C:List (List Int)}{l:List OpL}{ids:List Nat}(hm:MI h h KR U)(hil:ids.length=h)(hin:ids.Nodup)(hib: ∀j∈ids,6<=j/\j<q)(h6:6<=q)(hll:l.length<=999999999)(hh:h<=1000000)(hc: -128<=c/\c<=127)(hw0:w0<256)(hw1:w1<256)(hw2:w2<256)(hq:w0 % 6=2)
  (kB: ∀M1,MI h h (KR+2) M1-> ∃b:Bool,Spec Tryz.prog 16 [.ag [.sc (.int .i64 h),.sc (.int .i64 w),.im (imR w (rI A)) h,.sc (.int .i64 h),.sc (.int .i64 w),.im (imR w (rI H)) h,.sc (.int .i64 h),.sc (.int .i64 h),.im (imR h (rI M1)) h,.sc (.int .i64 h),.sc (.int .i64 h),.im (imR h (rI C)) h,.im (opsC l) l.length]] (.sc (.bool b))/\Spec Tryz.prog 30 [.ag [.sc (.int .i64 h),.sc (.int .i64 w),.im (imR w (rI A)) h,.sc (.int .i64 h),.sc (.int .i64 w),.im (imR w (rI H)) h,.sc (.int .i64 h),.sc (.int .i64 h),.im (imR h (rI M1)) h,.sc (.int .i64 h),.sc (.int .i64 h),.im (imR h (rI C)) h,.im (opsC l) l.length]] (.sc (.bool b))) (cO:Spec Tryz.prog 16 [.ag [.sc (.int .i64 ((h:Int)+1)),.sc (.int .i64 w),.im (imR w (rI A)) h,.sc (.int .i64 h),.sc (.int .i64 w),.im (imR w (rI H)) h,.sc (.int .i64 h),.sc (.int .i64 h),.im (imR h (rI U)) h,.sc (.int .i64 h),.sc (.int .i64 h),.im (imR h (rI C)) h,.im (opsC l) l.length]] (.sc (.bool false))) (kp:Spec Tryz.prog 16 [.ag [.sc (.int .i64 h),.sc (.int .i64 w),.im (imR w (rI A)) h,.sc (.int .i64 h),.sc (.int .i64 w),.im (imR w (rI H)) h,.sc (.int .i64 h),.sc (.int .i64 h),.im (imR h (rI U)) h,.sc (.int .i64 h),.sc (.int .i64 h),.im (imR h (rI C)) h,.im (opsC l) l.length]] (.sc (.bool true))):
  SC Tryz.prog B [dropS 5 bodyU] (retQ Tryz.prog Tryz.f11 (.sc (.bool true))) ⟨[(8,.pt 2 0),(9,.pt 3 0),(4,.pt 1 0),(2,.sc (.int .i8 c)),(7,.sc (.bool true))],(3,⟨34,[.sc (.int .i64 h),.sc (.int .i64 w),.im (imR w (rI A)) h,.sc (.int .i64 h),.sc (.int .i64 w),.im (imR w (rI H)) h,.sc (.int .i64 h),.sc (.int .i64 h),.sl 5 0 h 1 none,.sc (.int .i64 h),.sc (.int .i64 h),.im (imR h (rI C)) h,.sl 4 0 l.length 5 none],false⟩)::(2,⟨34,[.sc (.int .i64 h),.sc (.int .i64 w),.im (imR w (rI A)) h,.sc (.int .i64 h),.sc (.int .i64 w),.im (imR w (rI H)) h,.sc (.int .i64 h),.sc (.int .i64 h),.im (imR h (rI U)) h,.sc (.int .i64 h),.sc (.int .i64 h),.im (imR h (rI C)) h,.im (opsC l) l.length],false⟩)::(1,⟨76,[.sc (.int .u8 w0),.sc (.int .u8 w1),.sc (.int .u8 w2),.sc (.int .u8 w3)],false⟩)::(4,⟨80,opsC l,false⟩)::(5,⟨41,slR 2 h ids,false⟩)::rowsH 68 ids (rI U),q,168⟩:=by
 obtain⟨fn,hfn⟩: ∃x,x=Tryz.f11:=⟨_,rfl⟩
 rw[<-hfn];unfold bodyU Tryz.f11;simp only[dropS,Option.getD];subst hfn;have hkr:=kr_le;have hqi:q∉ids:=λe=>by have:=hib _ e;omega
 have u1:IntKind.i64.wrap (w1:Int)=w1:=IntWalk.i64_in _ om;have u2:IntKind.i64.wrap (w2:Int)=w2:=IntWalk.i64_in _ om;have u4:IntKind.i64.wrap c=c:=IntWalk.i64_in _ om;have g1:=slR_len 2 h ids;rw[hil]at g1;have q0:(w0:Int) % 6=2:=by omega
 have bq1:(q=1)=False:=eq_false om;have bq1':(1=q)=False:=eq_false om;have bq2:(q=2)=False:=eq_false om;have bq2':(2=q)=False:=eq_false om;have bq3:(q=3)=False:=eq_false om;have bq3':(3=q)=False:=eq_false om;have bq4:(q=4)=False:=eq_false om;have bq4':(4=q)=False:=eq_false om;have bq5:(q=5)=False:=eq_false om;have bq5':(5=q)=False:=eq_false om;by_cases h0:h=0
 ·have qh:decide (0<(h:Int))=false:=decide_eq_false om;refine qWf (Q12 @q0 @qh @bq1 @bq1' @bq2 @bq2' @bq3 @bq3' @bq4 @bq4' @bq5 @bq5') ?_;obtain⟨b,s1,s2⟩:=kB _ (hm.mono om);refine SC.weak (by simp) ?_ (chkT2 (q:=q) (nx:=q+1) (w0:=w0) (w1:=w1) (w2:=w2) (w3:=w3) (hm.mono om) hil hin (λj hj=>by have:=hib j hj;omega) om om om hqi hll hh s1 s2 cO kp);exact qM
 have qh:decide (0<(h:Int))=true:=decide_eq_true om;have qw:=qh;have hh0:((h:Int)=0)=False:=eq_false om;have ww0:((h:Int)=0)=False:=eq_false om;refine qWf (Q13 @q0 @qh @qw @bq1 @bq1' @bq2 @bq2' @bq3 @bq3' @bq4 @bq4' @bq5 @bq5') ?_;obtain⟨nx,hnx⟩: ∃nx,nx=q+1:=⟨_,rfl⟩
 rw[<-hnx];have v1:(w1:Int) % (h:Int)=((w1 % h:Nat):Int):=by push_cast;rfl
 have v2:(w2:Int) % (h:Int)=((w2 % h:Nat):Int):=by push_cast;rfl
 have hc1:w1 % h<h:=Nat.mod_lt _ om;have hc2:w2 % h<h:=Nat.mod_lt _ om;generalize w1 % h=i at*;generalize w2 % h=j at*;have gi:=slR_get (z:=2) (m:=h) (ids:=ids) (k:=i) om;have hmem:=getD_mem' (ids:=ids) (k:=i) om;have hal:=hib _ hmem;obtain⟨f,hf⟩: ∃f:Nat->Nat->Int,f=λr c=>(U.getD r []).getD c 0:=⟨_,rfl⟩
 have e00:rI U=rI (mkM h h f):=by rw[hf,mkM_of hm]
 obtain⟨gR,gl1,gd,gs,hrs⟩:=cellF (ty:=68) (f:=f) (z:=f i j+c) hin hil hc1 hc2;have hfx:Fits KR (f i j):=by rw[hf];exact hm.fit hc1 hc2
 have hfc:Fits 1 c:=by show c.natAbs<4294967296;omega
 have c3:=add_i (f i j) c KR hfx (hfc.mono (show 1<=KR by unfold KR;omega)) om;have cOf:=of_i c om om;have hM1:MI h h (KR+2) (mkM h h λr t=>if r=i/\t=j then f i j+c else f r t):=mk_mi λr t hr ht=>by
  by_cases e:r=i/\t=j;·rw[if_pos e];exact(fits_sum hfx (hfc.mono (show 1<=KR by unfold KR;omega))).mono om
  ·rw[if_neg e,hf];exact(hm.fit hr ht).mono om
 have hkl:=klB_rows (ty:=68) (ids:=ids) (rs:=rI (mkM h h f)) (n:=nx) (λj hj=>by have:=hib j hj;omega);rw[<-e00]at gR hrs hkl;have n0:(ids.getD i 0=q)=False:=eq_false om;have n1:(ids.getD i 0=1)=False:=eq_false om;have n2:(ids.getD i 0=2)=False:=eq_false om;have n3:(ids.getD i 0=3)=False:=eq_false om;have n4:(ids.getD i 0=4)=False:=eq_false om;have n5:(ids.getD i 0=5)=False:=eq_false om;have hd3:ids.getD i 0+1<=nx:=by omega
 clear hmem hal hfx hfc e00;have g2:j*2<(ivR (mkR h (f i))).length:=by rw[ivR_len,mkR_len];omega
 generalize(ivR (mkR h (f i))).drop ((j+1)*2)=D1 at*;generalize hA1:ivR (mkR h (f i))=A1 at*;generalize hA4:ivR ((mkR h (f i)).set j (f i j+c))=A4 at*;generalize hM2:(mkM h h λr t=>if r=i/\t=j then f i j+c else f r t)=M1 at*;generalize f i j=x at*;generalize ids.getD i 0=a at*;unfold iv sv at c3 cOf;unfold ivC sv at gd gs;simp only[zl8,zl7]at gd gs;have m0:(q<nx)=True:=eq_true om;have m1:(1<nx)=True:=eq_true om;have m2:(2<nx)=True:=eq_true om;have m3:(3<nx)=True:=eq_true om;have m4:(4<nx)=True:=eq_true om;have m5:(5<nx)=True:=eq_true om;have d0:q+1<=nx:=by omega
 have d1:2<=nx:=by omega
 have d2:3<=nx:=by omega
 have d3:4<=nx:=by omega
 have d4:5<=nx:=by omega
 have d5:6<=nx:=by omega
 refine qWDf (Q2 (Q23 @q0 @u2 @hh0 @v1 @gi @gR @gd @g2 @hkl @n1 @n3 @n5 @m1 @m3 @m5 @d0 @d2 @d4 @bq1 @bq2 @bq3 @bq4 @bq5) (Q23 @u1 @u4 @ww0 @v2 @g1 @gl1 @gs @hrs @n0 @n2 @n4 @m0 @m2 @m4 @hd3 @d1 @d3 @d5 @bq1' @bq2' @bq3' @bq4' @bq5')) ?_;obtain⟨b,s1,s2⟩:=kB _ (hM1);refine SC.weak (by simp) ?_ (chkT2 (q:=q) (nx:=nx) (w0:=w0) (w1:=w1) (w2:=w2) (w3:=w3) (hM1) hil hin (λj hj=>by have:=hib j hj;omega) om om om hqi hll hh s1 s2 cO kp);exact qM
set_option maxRecDepth 20000 in
theorem chkO3{B:Base}{h w q w0 w1 w2 w3:Nat}{c:Int}{A H U C:List (List Int)}{l:List OpL}{ids:List Nat}(hm:MI h h KR C)(hil:ids.length=h)(hin:ids.Nodup)(hib: ∀j∈ids,6<=j/\j<q)(h6:6<=q)(hll:l.length<=999999999)(hh:h<=1000000)(hc: -128<=c/\c<=127)(hw0:w0<256)(hw1:w1<256)(hw2:w2<256)(hq:w0 % 6=3)
  (kB: ∀M1,MI h h (KR+2) M1-> ∃b:Bool,Spec Tryz.prog 16 [.ag [.sc (.int .i64 h),.sc (.int .i64 w),.im (imR w (rI A)) h,.sc (.int .i64 h),.sc (.int .i64 w),.im (imR w (rI H)) h,.sc (.int .i64 h),.sc (.int .i64 h),.im (imR h (rI U)) h,.sc (.int .i64 h),.sc (.int .i64 h),.im (imR h (rI M1)) h,.im (opsC l) l.length]] (.sc (.bool b))/\Spec Tryz.prog 30 [.ag [.sc (.int .i64 h),.sc (.int .i64 w),.im (imR w (rI A)) h,.sc (.int .i64 h),.sc (.int .i64 w),.im (imR w (rI H)) h,.sc (.int .i64 h),.sc (.int .i64 h),.im (imR h (rI U)) h,.sc (.int .i64 h),.sc (.int .i64 h),.im (imR h (rI M1)) h,.im (opsC l) l.length]] (.sc (.bool b))) (cO:Spec Tryz.prog 16 [.ag [.sc (.int .i64 ((h:Int)+1)),.sc (.int .i64 w),.im (imR w (rI A)) h,.sc (.int .i64 h),.sc (.int .i64 w),.im (imR w (rI H)) h,.sc (.int .i64 h),.sc (.int .i64 h),.im (imR h (rI U)) h,.sc (.int .i64 h),.sc (.int .i64 h),.im (imR h (rI C)) h,.im (opsC l) l.length]] (.sc (.bool false))) (kp:Spec Tryz.prog 16 [.ag [.sc (.int .i64 h),.sc (.int .i64 w),.im (imR w (rI A)) h,.sc (.int .i64 h),.sc (.int .i64 w),.im (imR w (rI H)) h,.sc (.int .i64 h),.sc (.int .i64 h),.im (imR h (rI U)) h,.sc (.int .i64 h),.sc (.int .i64 h),.im (imR h (rI C)) h,.im (opsC l) l.length]] (.sc (.bool true))):
  SC Tryz.prog B [dropS 5 bodyU] (retQ Tryz.prog Tryz.f11 (.sc (.bool true))) ⟨[(8,.pt 2 0),(9,.pt 3 0),(4,.pt 1 0),(2,.sc (.int .i8 c)),(7,.sc (.bool true))],(3,⟨34,[.sc (.int .i64 h),.sc (.int .i64 w),.im (imR w (rI A)) h,.sc (.int .i64 h),.sc (.int .i64 w),.im (imR w (rI H)) h,.sc (.int .i64 h),.sc (.int .i64 h),.im (imR h (rI U)) h,.sc (.int .i64 h),.sc (.int .i64 h),.sl 5 0 h 1 none,.sl 4 0 l.length 5 none],false⟩)::(2,⟨34,[.sc (.int .i64 h),.sc (.int .i64 w),.im (imR w (rI A)) h,.sc (.int .i64 h),.sc (.int .i64 w),.im (imR w (rI H)) h,.sc (.int .i64 h),.sc (.int .i64 h),.im (imR h (rI U)) h,.sc (.int .i64 h),.sc (.int .i64 h),.im (imR h (rI C)) h,.im (opsC l) l.length],false⟩)::(1,⟨76,[.sc (.int .u8 w0),.sc (.int .u8 w1),.sc (.int .u8 w2),.sc (.int .u8 w3)],false⟩)::(4,⟨80,opsC l,false⟩)::(5,⟨41,slR 2 h ids,false⟩)::rowsH 68 ids (rI C),q,168⟩:=by
 obtain⟨fn,hfn⟩: ∃x,x=Tryz.f11:=⟨_,rfl⟩
 rw[<-hfn];unfold bodyU Tryz.f11;simp only[dropS,Option.getD];subst hfn;have hkr:=kr_le;have hqi:q∉ids:=λe=>by have:=hib _ e;omega
 have u1:IntKind.i64.wrap (w1:Int)=w1:=IntWalk.i64_in _ om;have u2:IntKind.i64.wrap (w2:Int)=w2:=IntWalk.i64_in _ om;have u4:IntKind.i64.wrap c=c:=IntWalk.i64_in _ om;have g1:=slR_len 2 h ids;rw[hil]at g1;have q0:(w0:Int) % 6=3:=by omega
 have bq1:(q=1)=False:=eq_false om;have bq1':(1=q)=False:=eq_false om;have bq2:(q=2)=False:=eq_false om;have bq2':(2=q)=False:=eq_false om;have bq3:(q=3)=False:=eq_false om;have bq3':(3=q)=False:=eq_false om;have bq4:(q=4)=False:=eq_false om;have bq4':(4=q)=False:=eq_false om;have bq5:(q=5)=False:=eq_false om;have bq5':(5=q)=False:=eq_false om;by_cases h0:h=0
 ·have qh:decide (0<(h:Int))=false:=decide_eq_false om;refine qWf (Q12 @q0 @qh @bq1 @bq1' @bq2 @bq2' @bq3 @bq3' @bq4 @bq4' @bq5 @bq5') ?_;obtain⟨b,s1,s2⟩:=kB _ (hm.mono om);refine SC.weak (by simp) ?_ (chkT3 (q:=q) (nx:=q+1) (w0:=w0) (w1:=w1) (w2:=w2) (w3:=w3) (hm.mono om) hil hin (λj hj=>by have:=hib j hj;omega) om om om hqi hll hh s1 s2 cO kp);exact qM
 have qh:decide (0<(h:Int))=true:=decide_eq_true om;have qw:=qh;have hh0:((h:Int)=0)=False:=eq_false om;have ww0:((h:Int)=0)=False:=eq_false om;refine qWf (Q13 @q0 @qh @qw @bq1 @bq1' @bq2 @bq2' @bq3 @bq3' @bq4 @bq4' @bq5 @bq5') ?_;obtain⟨nx,hnx⟩: ∃nx,nx=q+1:=⟨_,rfl⟩
 rw[<-hnx];have v1:(w1:Int) % (h:Int)=((w1 % h:Nat):Int):=by push_cast;rfl
 have v2:(w2:Int) % (h:Int)=((w2 % h:Nat):Int):=by push_cast;rfl
 have hc1:w1 % h<h:=Nat.mod_lt _ om;have hc2:w2 % h<h:=Nat.mod_lt _ om;generalize w1 % h=i at*;generalize w2 % h=j at*;have gi:=slR_get (z:=2) (m:=h) (ids:=ids) (k:=i) om;have hmem:=getD_mem' (ids:=ids) (k:=i) om;have hal:=hib _ hmem;obtain⟨f,hf⟩: ∃f:Nat->Nat->Int,f=λr c=>(C.getD r []).getD c 0:=⟨_,rfl⟩
 have e00:rI C=rI (mkM h h f):=by rw[hf,mkM_of hm]
 obtain⟨gR,gl1,gd,gs,hrs⟩:=cellF (ty:=68) (f:=f) (z:=f i j+c) hin hil hc1 hc2;have hfx:Fits KR (f i j):=by rw[hf];exact hm.fit hc1 hc2
 have hfc:Fits 1 c:=by show c.natAbs<4294967296;omega
 have c3:=add_i (f i j) c KR hfx (hfc.mono (show 1<=KR by unfold KR;omega)) om;have cOf:=of_i c om om;have hM1:MI h h (KR+2) (mkM h h λr t=>if r=i/\t=j then f i j+c else f r t):=mk_mi λr t hr ht=>by
  by_cases e:r=i/\t=j;·rw[if_pos e];exact(fits_sum hfx (hfc.mono (show 1<=KR by unfold KR;omega))).mono om
  ·rw[if_neg e,hf];exact(hm.fit hr ht).mono om
 have hkl:=klB_rows (ty:=68) (ids:=ids) (rs:=rI (mkM h h f)) (n:=nx) (λj hj=>by have:=hib j hj;omega);rw[<-e00]at gR hrs hkl;have n0:(ids.getD i 0=q)=False:=eq_false om;have n1:(ids.getD i 0=1)=False:=eq_false om;have n2:(ids.getD i 0=2)=False:=eq_false om;have n3:(ids.getD i 0=3)=False:=eq_false om;have n4:(ids.getD i 0=4)=False:=eq_false om;have n5:(ids.getD i 0=5)=False:=eq_false om;have hd3:ids.getD i 0+1<=nx:=by omega
 clear hmem hal hfx hfc e00;have g2:j*2<(ivR (mkR h (f i))).length:=by rw[ivR_len,mkR_len];omega
 generalize(ivR (mkR h (f i))).drop ((j+1)*2)=D1 at*;generalize hA1:ivR (mkR h (f i))=A1 at*;generalize hA4:ivR ((mkR h (f i)).set j (f i j+c))=A4 at*;generalize hM2:(mkM h h λr t=>if r=i/\t=j then f i j+c else f r t)=M1 at*;generalize f i j=x at*;generalize ids.getD i 0=a at*;unfold iv sv at c3 cOf;unfold ivC sv at gd gs;simp only[zl8,zl7]at gd gs;have m0:(q<nx)=True:=eq_true om;have m1:(1<nx)=True:=eq_true om;have m2:(2<nx)=True:=eq_true om;have m3:(3<nx)=True:=eq_true om;have m4:(4<nx)=True:=eq_true om;have m5:(5<nx)=True:=eq_true om;have d0:q+1<=nx:=by omega
 have d1:2<=nx:=by omega
 have d2:3<=nx:=by omega
 have d3:4<=nx:=by omega
 have d4:5<=nx:=by omega
 have d5:6<=nx:=by omega
 refine qWDf (Q2 (Q23 @q0 @u2 @hh0 @v1 @gi @gR @gd @g2 @hkl @n1 @n3 @n5 @m1 @m3 @m5 @d0 @d2 @d4 @bq1 @bq2 @bq3 @bq4 @bq5) (Q23 @u1 @u4 @ww0 @v2 @g1 @gl1 @gs @hrs @n0 @n2 @n4 @m0 @m2 @m4 @hd3 @d1 @d3 @d5 @bq1' @bq2' @bq3' @bq4' @bq5')) ?_;obtain⟨b,s1,s2⟩:=kB _ (hM1);refine SC.weak (by simp) ?_ (chkT3 (q:=q) (nx:=nx) (w0:=w0) (w1:=w1) (w2:=w2) (w3:=w3) (hM1) hil hin (λj hj=>by have:=hib j hj;omega) om om om hqi hll hh s1 s2 cO kp);exact qM
end
section
open Go.RowKit
theorem opsC_take(l:List OpL){j:Nat}(hj:j<=l.length):(opsC l).take (j*5)=opsC (l.take j):=by
 have q:opsC l=opsC (l.take j)++opsC (l.drop j):=by rw[<-opsC_app,List.take_append_drop]
 have e:(opsC (l.take j)).length=j*5:=by rw[opsC_len,List.length_take];omega
 rw[q,<-e,List.take_left]
set_option maxRecDepth 20000 in
theorem checks5{h w:Nat}{A:List (List Int)}{l:List OpL}{X:V}{w0 w1 w2 w3:Nat}{c:Int}{e0 e1 e2 e3:Bool}(hr:e0=decide (w0 % 6=0)/\e1=decide (w0 % 6=1)/\e2=decide (w0 % 6=2)/\e3=decide (w0 % 6=3))(hE0:e0=true->e1=false/\e2=false/\e3=false)(hE1:e1=true->e0=false/\e2=false/\e3=false)(hE2:e2=true->e0=false/\e1=false/\e3=false)(hE3:e3=true->e0=false/\e1=false/\e2=false)(hw0:w0<256)(hw1:w1<256)(hw2:w2<256)(hw3:w3<256)(hc: -128<=c/\c<=127)(hk:Kp h w KR A l)(hh:h+w<=12)(hX: ∃(a b:Nat) (cs:List V) (n:Nat),X= .ag [.sc (.int .u8 a),.sc (.int .u8 b),.im cs n])
  (x1:Spec Tryz.prog 13 [X] (mat w A)) (cs:Spec Tryz.prog 12 [] (.sc (.bool true))) (c1:Spec Tryz.prog 14 [mat w A] (keptS h w A l)):
  Spec Tryz.prog 11 [X,.ag [.sc (.int .u8 w0),.sc (.int .u8 w1),.sc (.int .u8 w2),.sc (.int .u8 w3)],.sc (.int .i8 c)] (.sc (.bool true)):=by
 have hkr:=kr_le;have c2:=hk.rcheck hh;have hmA:=hk.mA;have hmH:=hk.mH;have hmU:=hk.mU;have hmC:=hk.mC;have d0:=rcopy_s hmA om om om;have d1:=rcopy_s hmH om om om;have d2:=rcopy_s hmU om om om;have d3:=rcopy_s hmC om om om;have p0:=λn=>rcopyI_q n hmA om om om;have p1:=λn=>rcopyI_q n hmH om om om;have p2:=λn=>rcopyI_q n hmU om om om;have p3:=λn=>rcopyI_q n hmC om om om;have lA:=hmA.len;have lH:=hmH.len;have lU:=hmU.len;have lC:=hmC.len;have k4:=λ(o:OpL) (ho:Fits OL o.k)=>both4 (o:=o) hk hh ho;have k5:=λj (hj:j<=l.length)=>both5 hk hh hj;have kp:=hk.pcheck hh;have ka:=λM1 (q:MI h w (KR+2) M1)=>both0 hk hh q (hmH.mono om) (hmU.mono om) (hmC.mono om);have kh:=λM1 (q:MI h w (KR+2) M1)=>both0 hk hh (hmA.mono om) q (hmU.mono om) (hmC.mono om);have ku:=λM1 (q:MI h h (KR+2) M1)=>both0 hk hh (hmA.mono om) (hmH.mono om) q (hmC.mono om);have kc:=λM1 (q:MI h h (KR+2) M1)=>both0 hk hh (hmA.mono om) (hmH.mono om) (hmU.mono om) q;have cO:=pcheckO_s (h:=h) (w:=w) (m:=(h:Int)+1) (X:=imR w (rI A)) (X2:=imR w (rI (actsO A l))) (n2:=h) (X3:=imR h (rI (actsO (idL h) l))) (n3:=h) (X4:=imR h (rI (actsO (idL h) (invL l)))) (n4:=h) (X5:=opsC l) (n5:=l.length) (v3:=h) (v4:=w) (v5:=h) (v6:=h) (v7:=h) (v8:=h) om om;have hw1':=hw1;obtain⟨xa,xb,xs,xn,rfl⟩:=hX;unfold keptL at k4 k5;unfold keptS kept mat at*;simp only[lA,lH,lU,lC]at c1 x1 d0 d1 d2 d3 p0 p1 p2 p3;generalize actsO A l=H at*;generalize actsO (idL h) l=U at*;generalize actsO (idL h) (invL l)=C at*;refine qF Tryz.func11 Tryz.ntmps11 λB hB=> ?_
 (repeat(first|refine DO.nil (by kernel_rfl) ?_|(with_reducible refine qO ?_)|((first|apply SO.call|apply DO.call);(iterate 3 exact qS);(first|apply SCall.ofX|apply DCall.ofX);assumption;exact qS)|((with_reducible first|apply wa|apply wb|apply wc|apply wd);exact qS;(first|refine pT ?_|refine pF ?_|fail_if_success with_reducible refine pA ?_))|(with_reducible apply SC.ops)))
 refine SC.weak (s':=⟨[(8,.pt 2 0),(4,.pt 1 0),(2,.sc (.int .i8 c)),(7,.sc (.bool true))],[(2,⟨34,kc5 h w A H U C l,false⟩),(1,⟨76,[.sc (.int .u8 w0),.sc (.int .u8 w1),.sc (.int .u8 w2),.sc (.int .u8 w3)],false⟩)],3,168⟩) (by simp) ?_ ?_
 ·unfold kc5;exact qL
 clear c1 c2 x1 cs;refine SC.inv (J5 h w 2 1 A H U C l e0 e1 e2 e3 ⟨76,[.sc (.int .u8 w0),.sc (.int .u8 w1),.sc (.int .u8 w2),.sc (.int .u8 w3)],false⟩ c) Tab.mixed (by kernel_rfl) ?_ ?_ ?_
 ·refine⟨0,[],0,0,0,rfl,rfl,rfl,rfl,rfl,(λp _ e=>by cases e),?_⟩;have hoF:ownOn e0 e1 e2 e3 (λ_=>false)=false:=by unfold ownOn;simp
  refine⟨λid k hk=> ?_,by simp[hget],by simp[hget],λe=>(by rw[hoF]at e;cases e),λe=>(by cases e),λe=>(by cases e),λe=>(by cases e)⟩;simp only[hget]at hk;split at hk;·show id<3;omega
  ·split at hk;·show id<3;omega
   ·cases hk
 ·intro L s i op hcl hJ ho hi hd;obtain⟨sl,hp,m,nt⟩:=s;have hJ0:=hJ;obtain⟨o,ids,b37,b40,b9,hnt,g8,g4,g2,g7,hT,hH⟩:=hJ;simp only at hnt g8 g4 g2 g7 hT hH;subst hnt;have gk:=hH.hk;have hkl:=hH.kl;have tb:=λi t x (h:(i,t,x)∈tab5 h w 2 A H U C l e0 e1 e2 e3 o b37 b40 b9) (e:L i=true)=>hT _ h e;have n15:L 15=true->L 6=true/\L 10=true/\L 14=true:=λe=>⟨hcl 15 6 e (by kernel_rfl),hcl 15 10 e (by kernel_rfl),hcl 15 14 e (by kernel_rfl)⟩
  have n20:L 20=true->L 2=true/\L 15=true/\L 19=true:=λe=>⟨hcl 20 2 e (by kernel_rfl),hcl 20 15 e (by kernel_rfl),hcl 20 19 e (by kernel_rfl)⟩
  have n19:L 19=true->L 16=true/\L 18=true/\L 14=true:=λe=>⟨hcl 19 16 e (by kernel_rfl),hcl 19 18 e (by kernel_rfl),hcl 19 14 e (by kernel_rfl)⟩
  have n22:L 22=true->L 20=true/\L 21=true:=λe=>⟨hcl 22 20 e (by kernel_rfl),hcl 22 21 e (by kernel_rfl)⟩
  unfold kc5 at gk
  match i,ho,hi,hd with
  |0,ho,hi,hd=>
   cases ho;refine SO.run (qTf (Q2 @g8 @gk)) (SO.nil ?_);exact J5.pure (by decide) (by decide) (by intro o b37 b40 b9 p hp;unfold tab5 at hp;simp only[List.mem_cons,List.not_mem_nil,or_false]at hp;rcases hp with rfl|rfl|rfl|rfl|rfl|rfl|rfl|rfl|rfl|rfl|rfl|rfl|rfl|rfl|rfl|rfl|rfl|rfl|rfl|rfl|rfl|rfl<;>first|exact .inl ⟨rfl,rfl,rfl⟩|(refine .inr ⟨?_,?_⟩<;>intro e<;>cases e)) hJ0
  |1,ho,hi,hd=>
   cases ho;have t0:=tb 0 21 _ (List.mem_of_getElem? (i:=0) rfl) (hd 0 (by kernel_rfl));have z:=J5.pure (i:=1) (by decide) (by decide) (by intro o b37 b40 b9 p hp;unfold tab5 at hp;simp only[List.mem_cons,List.not_mem_nil,or_false]at hp;rcases hp with rfl|rfl|rfl|rfl|rfl|rfl|rfl|rfl|rfl|rfl|rfl|rfl|rfl|rfl|rfl|rfl|rfl|rfl|rfl|rfl|rfl|rfl<;>first|exact .inl ⟨rfl,rfl,rfl⟩|(refine .inr ⟨?_,?_⟩<;>intro e<;>cases e)) hJ0 (t:=22) (x:=mat w A);unfold mat at z;simp only[lA,lH,lU,lC]at z;refine SO.run (qTf (Q3 @g8 @gk @t0)) (SO.nil ?_);exact z
  |3,ho,hi,hd=>
   cases ho;refine SO.run (qTf (Q2 @g8 @gk)) (SO.nil ?_);exact J5.pure (by decide) (by decide) (by intro o b37 b40 b9 p hp;unfold tab5 at hp;simp only[List.mem_cons,List.not_mem_nil,or_false]at hp;rcases hp with rfl|rfl|rfl|rfl|rfl|rfl|rfl|rfl|rfl|rfl|rfl|rfl|rfl|rfl|rfl|rfl|rfl|rfl|rfl|rfl|rfl|rfl<;>first|exact .inl ⟨rfl,rfl,rfl⟩|(refine .inr ⟨?_,?_⟩<;>intro e<;>cases e)) hJ0
  |4,ho,hi,hd=>
   cases ho;have t3:=tb 3 24 _ (List.mem_of_getElem? (i:=3) rfl) (hd 3 (by kernel_rfl));refine SO.run (qTf (Q3 @g8 @gk @t3)) (SO.nil ?_);exact J5.pure (by decide) (by decide) (by intro o b37 b40 b9 p hp;unfold tab5 at hp;simp only[List.mem_cons,List.not_mem_nil,or_false]at hp;rcases hp with rfl|rfl|rfl|rfl|rfl|rfl|rfl|rfl|rfl|rfl|rfl|rfl|rfl|rfl|rfl|rfl|rfl|rfl|rfl|rfl|rfl|rfl<;>first|exact .inl ⟨rfl,rfl,rfl⟩|(refine .inr ⟨?_,?_⟩<;>intro e<;>cases e)) hJ0
  |5,ho,hi,hd=>
   cases ho;have t4:=tb 4 25 _ (List.mem_of_getElem? (i:=4) rfl) (hd 4 (by kernel_rfl));have z:=J5.pure (i:=5) (by decide) (by decide) (by intro o b37 b40 b9 p hp;unfold tab5 at hp;simp only[List.mem_cons,List.not_mem_nil,or_false]at hp;rcases hp with rfl|rfl|rfl|rfl|rfl|rfl|rfl|rfl|rfl|rfl|rfl|rfl|rfl|rfl|rfl|rfl|rfl|rfl|rfl|rfl|rfl|rfl<;>first|exact .inl ⟨rfl,rfl,rfl⟩|(refine .inr ⟨?_,?_⟩<;>intro e<;>cases e)) hJ0 (t:=26) (x:=mat w H);unfold mat at z;simp only[lA,lH,lU,lC]at z;refine SO.run (qTf (Q3 @g8 @gk @t4)) (SO.nil ?_);exact z
  |7,ho,hi,hd=>
   cases ho;refine SO.run (qTf (Q2 @g8 @gk)) (SO.nil ?_);exact J5.pure (by decide) (by decide) (by intro o b37 b40 b9 p hp;unfold tab5 at hp;simp only[List.mem_cons,List.not_mem_nil,or_false]at hp;rcases hp with rfl|rfl|rfl|rfl|rfl|rfl|rfl|rfl|rfl|rfl|rfl|rfl|rfl|rfl|rfl|rfl|rfl|rfl|rfl|rfl|rfl|rfl<;>first|exact .inl ⟨rfl,rfl,rfl⟩|(refine .inr ⟨?_,?_⟩<;>intro e<;>cases e)) hJ0
  |8,ho,hi,hd=>
   cases ho;have t7:=tb 7 28 _ (List.mem_of_getElem? (i:=7) rfl) (hd 7 (by kernel_rfl));refine SO.run (qTf (Q3 @g8 @gk @t7)) (SO.nil ?_);exact J5.pure (by decide) (by decide) (by intro o b37 b40 b9 p hp;unfold tab5 at hp;simp only[List.mem_cons,List.not_mem_nil,or_false]at hp;rcases hp with rfl|rfl|rfl|rfl|rfl|rfl|rfl|rfl|rfl|rfl|rfl|rfl|rfl|rfl|rfl|rfl|rfl|rfl|rfl|rfl|rfl|rfl<;>first|exact .inl ⟨rfl,rfl,rfl⟩|(refine .inr ⟨?_,?_⟩<;>intro e<;>cases e)) hJ0
  |9,ho,hi,hd=>
   cases ho;have t8:=tb 8 29 _ (List.mem_of_getElem? (i:=8) rfl) (hd 8 (by kernel_rfl));have z:=J5.pure (i:=9) (by decide) (by decide) (by intro o b37 b40 b9 p hp;unfold tab5 at hp;simp only[List.mem_cons,List.not_mem_nil,or_false]at hp;rcases hp with rfl|rfl|rfl|rfl|rfl|rfl|rfl|rfl|rfl|rfl|rfl|rfl|rfl|rfl|rfl|rfl|rfl|rfl|rfl|rfl|rfl|rfl<;>first|exact .inl ⟨rfl,rfl,rfl⟩|(refine .inr ⟨?_,?_⟩<;>intro e<;>cases e)) hJ0 (t:=30) (x:=mat h U);unfold mat at z;simp only[lA,lH,lU,lC]at z;refine SO.run (qTf (Q3 @g8 @gk @t8)) (SO.nil ?_);exact z
  |11,ho,hi,hd=>
   cases ho;refine SO.run (qTf (Q2 @g8 @gk)) (SO.nil ?_);exact J5.pure (by decide) (by decide) (by intro o b37 b40 b9 p hp;unfold tab5 at hp;simp only[List.mem_cons,List.not_mem_nil,or_false]at hp;rcases hp with rfl|rfl|rfl|rfl|rfl|rfl|rfl|rfl|rfl|rfl|rfl|rfl|rfl|rfl|rfl|rfl|rfl|rfl|rfl|rfl|rfl|rfl<;>first|exact .inl ⟨rfl,rfl,rfl⟩|(refine .inr ⟨?_,?_⟩<;>intro e<;>cases e)) hJ0
  |12,ho,hi,hd=>
   cases ho;have t11:=tb 11 32 _ (List.mem_of_getElem? (i:=11) rfl) (hd 11 (by kernel_rfl));refine SO.run (qTf (Q3 @g8 @gk @t11)) (SO.nil ?_);exact J5.pure (by decide) (by decide) (by intro o b37 b40 b9 p hp;unfold tab5 at hp;simp only[List.mem_cons,List.not_mem_nil,or_false]at hp;rcases hp with rfl|rfl|rfl|rfl|rfl|rfl|rfl|rfl|rfl|rfl|rfl|rfl|rfl|rfl|rfl|rfl|rfl|rfl|rfl|rfl|rfl|rfl<;>first|exact .inl ⟨rfl,rfl,rfl⟩|(refine .inr ⟨?_,?_⟩<;>intro e<;>cases e)) hJ0
  |13,ho,hi,hd=>
   cases ho;have t12:=tb 12 33 _ (List.mem_of_getElem? (i:=12) rfl) (hd 12 (by kernel_rfl));have z:=J5.pure (i:=13) (by decide) (by decide) (by intro o b37 b40 b9 p hp;unfold tab5 at hp;simp only[List.mem_cons,List.not_mem_nil,or_false]at hp;rcases hp with rfl|rfl|rfl|rfl|rfl|rfl|rfl|rfl|rfl|rfl|rfl|rfl|rfl|rfl|rfl|rfl|rfl|rfl|rfl|rfl|rfl|rfl<;>first|exact .inl ⟨rfl,rfl,rfl⟩|(refine .inr ⟨?_,?_⟩<;>intro e<;>cases e)) hJ0 (t:=34) (x:=mat h C);unfold mat at z;simp only[lA,lH,lU,lC]at z;refine SO.run (qTf (Q3 @g8 @gk @t12)) (SO.nil ?_);exact z
  |17,ho,hi,hd=>
   cases ho;refine SO.run (qTf (Q2 @g8 @gk)) (SO.nil ?_);exact J5.pure (by decide) (by decide) (by intro o b37 b40 b9 p hp;unfold tab5 at hp;simp only[List.mem_cons,List.not_mem_nil,or_false]at hp;rcases hp with rfl|rfl|rfl|rfl|rfl|rfl|rfl|rfl|rfl|rfl|rfl|rfl|rfl|rfl|rfl|rfl|rfl|rfl|rfl|rfl|rfl|rfl<;>first|exact .inl ⟨rfl,rfl,rfl⟩|(refine .inr ⟨?_,?_⟩<;>intro e<;>cases e)) hJ0
  |18,ho,hi,hd=>
   cases ho;have t17:=tb 17 38 _ (List.mem_of_getElem? (i:=17) rfl) (hd 17 (by kernel_rfl));refine SO.run (qTf (Q3 @g8 @gk @t17)) (SO.nil ?_);exact J5.pure (by decide) (by decide) (by intro o b37 b40 b9 p hp;unfold tab5 at hp;simp only[List.mem_cons,List.not_mem_nil,or_false]at hp;rcases hp with rfl|rfl|rfl|rfl|rfl|rfl|rfl|rfl|rfl|rfl|rfl|rfl|rfl|rfl|rfl|rfl|rfl|rfl|rfl|rfl|rfl|rfl<;>first|exact .inl ⟨rfl,rfl,rfl⟩|(refine .inr ⟨?_,?_⟩<;>intro e<;>cases e)) hJ0
  | 2,ho,hi,hd=>
   cases ho;have tt:=tb 1 22 _ (List.mem_of_getElem? (i:=1) rfl) (hd 1 (by kernel_rfl));unfold mat at tt;rw[lA]at tt;cases he:e0 with
   |false=>
    refine SO.call Tab.go38 (qSf @tt) qS (SCall.of d0 qS ?_);refine SO.nil ?_;rw[he]at hT hH;exact⟨o,ids,b37,b40,b9,rfl,(get_push (by decide)).trans g8,(get_push (by decide)).trans g4,(get_push (by decide)).trans g2,(get_push (by decide)).trans g7,tab_push (by intro p hp;unfold tab5 at hp;simp only[List.mem_cons,List.not_mem_nil,or_false]at hp;rcases hp with rfl|rfl|rfl|rfl|rfl|rfl|rfl|rfl|rfl|rfl|rfl|rfl|rfl|rfl|rfl|rfl|rfl|rfl|rfl|rfl|rfl|rfl<;>first|exact .inl ⟨rfl,rfl,rfl⟩|(refine .inr ⟨?_,?_⟩<;>intro e<;>cases e)) hT,hH.val (.inl ⟨rfl,rfl⟩)⟩
   | true=>
    obtain⟨f1,f2,f3⟩:=hE0 he;subst f1;subst f2;subst f3;subst he;refine SO.inlQ qS Tab.go38 (qSf @tt) qS (SInlQ.newR (p0 m) ?_ ?_ ?_);·exact hkl
    ·exact λx hp' nx' h=>matQ_new h
    rintro x hp' nx' ⟨o',ids',hR,rfl,rfl⟩;rw[lA]at hR⊢;refine SO.nil ?_;have no1:=hR.o1;have z22:L 22=false:=by
     cases e:L 22 with
     |false=>rfl
     |true=>have q:=(n20 (n22 e).1).1;rw[hi]at q;cases q
    refine⟨o',ids',b37,b40,b9,rfl,(get_push (by decide)).trans g8,(get_push (by decide)).trans g4,(get_push (by decide)).trans g2,(get_push (by decide)).trans g7,tab_push (by intro p hp;unfold tab5 at hp;simp only[List.mem_cons,List.not_mem_nil,or_false]at hp;rcases hp with rfl|rfl|rfl|rfl|rfl|rfl|rfl|rfl|rfl|rfl|rfl|rfl|rfl|rfl|rfl|rfl|rfl|rfl|rfl|rfl|rfl|rfl<;>first|exact .inl ⟨rfl,rfl,rfl⟩|(refine .inr ⟨?_,?_⟩<;>intro e<;>cases e)) (λp hp e=> ?_),hH.own2 (by decide) (λid k hk=> ?_) hR lA rfl z22⟩
    ·unfold tab5 at hp;simp only[List.mem_cons,List.not_mem_nil,or_false]at hp;rcases hp with rfl|rfl|rfl|rfl|rfl|rfl|rfl|rfl|rfl|rfl|rfl|rfl|rfl|rfl|rfl|rfl|rfl|rfl|rfl|rfl|rfl|rfl;·exact hT _ (List.mem_of_getElem? (i:=0) rfl) e
     ·exact hT _ (List.mem_of_getElem? (i:=1) rfl) e
     ·exfalso;simp only at e;rw[hi]at e;cases e
     ·exact hT _ (List.mem_of_getElem? (i:=3) rfl) e
     ·exact hT _ (List.mem_of_getElem? (i:=4) rfl) e
     ·exact hT _ (List.mem_of_getElem? (i:=5) rfl) e
     ·exact hT _ (List.mem_of_getElem? (i:=6) rfl) e
     ·exact hT _ (List.mem_of_getElem? (i:=7) rfl) e
     ·exact hT _ (List.mem_of_getElem? (i:=8) rfl) e
     ·exact hT _ (List.mem_of_getElem? (i:=9) rfl) e
     ·exact hT _ (List.mem_of_getElem? (i:=10) rfl) e
     ·exact hT _ (List.mem_of_getElem? (i:=11) rfl) e
     ·exact hT _ (List.mem_of_getElem? (i:=12) rfl) e
     ·exact hT _ (List.mem_of_getElem? (i:=13) rfl) e
     ·exact hT _ (List.mem_of_getElem? (i:=14) rfl) e
     ·exact hT _ (List.mem_of_getElem? (i:=15) rfl) e
     ·exact hT _ (List.mem_of_getElem? (i:=16) rfl) e
     ·exact hT _ (List.mem_of_getElem? (i:=17) rfl) e
     ·exact hT _ (List.mem_of_getElem? (i:=18) rfl) e
     ·exact hT _ (List.mem_of_getElem? (i:=19) rfl) e
     ·exfalso;simp only at e;have q:=(n20 e).1;rw[hi]at q;cases q
     ·exact hT _ (List.mem_of_getElem? (i:=21) rfl) e
    ·show id<nx';rw[hget_app]at hk;cases e:hget hp id with
     |some q=>have:=hkl id q e;omega
     |none=>
      rw[e]at hk;simp only at hk;rcases inR_rows (λi hi=>hi) id k hk with e|e;·omega
      ·have:=hR.lt _ e;omega
  | 6,ho,hi,hd=>
   cases ho;have tt:=tb 5 26 _ (List.mem_of_getElem? (i:=5) rfl) (hd 5 (by kernel_rfl));unfold mat at tt;rw[lH]at tt;cases he:e1 with
   |false=>
    refine SO.call Tab.go38 (qSf @tt) qS (SCall.of d1 qS ?_);refine SO.nil ?_;rw[he]at hT hH;exact⟨o,ids,b37,b40,b9,rfl,(get_push (by decide)).trans g8,(get_push (by decide)).trans g4,(get_push (by decide)).trans g2,(get_push (by decide)).trans g7,tab_push (by intro p hp;unfold tab5 at hp;simp only[List.mem_cons,List.not_mem_nil,or_false]at hp;rcases hp with rfl|rfl|rfl|rfl|rfl|rfl|rfl|rfl|rfl|rfl|rfl|rfl|rfl|rfl|rfl|rfl|rfl|rfl|rfl|rfl|rfl|rfl<;>first|exact .inl ⟨rfl,rfl,rfl⟩|(refine .inr ⟨?_,?_⟩<;>intro e<;>cases e)) hT,hH.val (.inr (.inl ⟨rfl,rfl⟩))⟩
   | true=>
    obtain⟨f0,f2,f3⟩:=hE1 he;subst f0;subst f2;subst f3;subst he;refine SO.inlQ qS Tab.go38 (qSf @tt) qS (SInlQ.newR (p1 m) ?_ ?_ ?_);·exact hkl
    ·exact λx hp' nx' h=>matQ_new h
    rintro x hp' nx' ⟨o',ids',hR,rfl,rfl⟩;rw[lH]at hR⊢;refine SO.nil ?_;have no1:=hR.o1;have z22:L 22=false:=by
     cases e:L 22 with
     |false=>rfl
     |true=>have q:=(n15 (n20 (n22 e).1).2.1).1;rw[hi]at q;cases q
    refine⟨o',ids',b37,b40,b9,rfl,(get_push (by decide)).trans g8,(get_push (by decide)).trans g4,(get_push (by decide)).trans g2,(get_push (by decide)).trans g7,tab_push (by intro p hp;unfold tab5 at hp;simp only[List.mem_cons,List.not_mem_nil,or_false]at hp;rcases hp with rfl|rfl|rfl|rfl|rfl|rfl|rfl|rfl|rfl|rfl|rfl|rfl|rfl|rfl|rfl|rfl|rfl|rfl|rfl|rfl|rfl|rfl<;>first|exact .inl ⟨rfl,rfl,rfl⟩|(refine .inr ⟨?_,?_⟩<;>intro e<;>cases e)) (λp hp e=> ?_),hH.own2 (by decide) (λid k hk=> ?_) hR lH rfl z22⟩
    ·unfold tab5 at hp;simp only[List.mem_cons,List.not_mem_nil,or_false]at hp;rcases hp with rfl|rfl|rfl|rfl|rfl|rfl|rfl|rfl|rfl|rfl|rfl|rfl|rfl|rfl|rfl|rfl|rfl|rfl|rfl|rfl|rfl|rfl;·exact hT _ (List.mem_of_getElem? (i:=0) rfl) e
     ·exact hT _ (List.mem_of_getElem? (i:=1) rfl) e
     ·exact hT _ (List.mem_of_getElem? (i:=2) rfl) e
     ·exact hT _ (List.mem_of_getElem? (i:=3) rfl) e
     ·exact hT _ (List.mem_of_getElem? (i:=4) rfl) e
     ·exact hT _ (List.mem_of_getElem? (i:=5) rfl) e
     ·exfalso;simp only at e;rw[hi]at e;cases e
     ·exact hT _ (List.mem_of_getElem? (i:=7) rfl) e
     ·exact hT _ (List.mem_of_getElem? (i:=8) rfl) e
     ·exact hT _ (List.mem_of_getElem? (i:=9) rfl) e
     ·exact hT _ (List.mem_of_getElem? (i:=10) rfl) e
     ·exact hT _ (List.mem_of_getElem? (i:=11) rfl) e
     ·exact hT _ (List.mem_of_getElem? (i:=12) rfl) e
     ·exact hT _ (List.mem_of_getElem? (i:=13) rfl) e
     ·exact hT _ (List.mem_of_getElem? (i:=14) rfl) e
     ·exfalso;simp only at e;have q:=(n15 e).1;rw[hi]at q;cases q
     ·exact hT _ (List.mem_of_getElem? (i:=16) rfl) e
     ·exact hT _ (List.mem_of_getElem? (i:=17) rfl) e
     ·exact hT _ (List.mem_of_getElem? (i:=18) rfl) e
     ·exact hT _ (List.mem_of_getElem? (i:=19) rfl) e
     ·exfalso;simp only at e;have q:=(n15 (n20 e).2.1).1;rw[hi]at q;cases q
     ·exact hT _ (List.mem_of_getElem? (i:=21) rfl) e
    ·show id<nx';rw[hget_app]at hk;cases e:hget hp id with
     |some q=>have:=hkl id q e;omega
     |none=>
      rw[e]at hk;simp only at hk;rcases inR_rows (λi hi=>hi) id k hk with e|e;·omega
      ·have:=hR.lt _ e;omega
  | 10,ho,hi,hd=>
   cases ho;have tt:=tb 9 30 _ (List.mem_of_getElem? (i:=9) rfl) (hd 9 (by kernel_rfl));unfold mat at tt;rw[lU]at tt;cases he:e2 with
   |false=>
    refine SO.call Tab.go38 (qSf @tt) qS (SCall.of d2 qS ?_);refine SO.nil ?_;rw[he]at hT hH;exact⟨o,ids,b37,b40,b9,rfl,(get_push (by decide)).trans g8,(get_push (by decide)).trans g4,(get_push (by decide)).trans g2,(get_push (by decide)).trans g7,tab_push (by intro p hp;unfold tab5 at hp;simp only[List.mem_cons,List.not_mem_nil,or_false]at hp;rcases hp with rfl|rfl|rfl|rfl|rfl|rfl|rfl|rfl|rfl|rfl|rfl|rfl|rfl|rfl|rfl|rfl|rfl|rfl|rfl|rfl|rfl|rfl<;>first|exact .inl ⟨rfl,rfl,rfl⟩|(refine .inr ⟨?_,?_⟩<;>intro e<;>cases e)) hT,hH.val (.inr (.inr (.inl ⟨rfl,rfl⟩)))⟩
   | true=>
    obtain⟨f0,f1,f3⟩:=hE2 he;subst f0;subst f1;subst f3;subst he;refine SO.inlQ qS Tab.go38 (qSf @tt) qS (SInlQ.newR (p2 m) ?_ ?_ ?_);·exact hkl
    ·exact λx hp' nx' h=>matQ_new h
    rintro x hp' nx' ⟨o',ids',hR,rfl,rfl⟩;rw[lU]at hR⊢;refine SO.nil ?_;have no1:=hR.o1;have z22:L 22=false:=by
     cases e:L 22 with
     |false=>rfl
     |true=>have q:=(n15 (n20 (n22 e).1).2.1).2.1;rw[hi]at q;cases q
    refine⟨o',ids',b37,b40,b9,rfl,(get_push (by decide)).trans g8,(get_push (by decide)).trans g4,(get_push (by decide)).trans g2,(get_push (by decide)).trans g7,tab_push (by intro p hp;unfold tab5 at hp;simp only[List.mem_cons,List.not_mem_nil,or_false]at hp;rcases hp with rfl|rfl|rfl|rfl|rfl|rfl|rfl|rfl|rfl|rfl|rfl|rfl|rfl|rfl|rfl|rfl|rfl|rfl|rfl|rfl|rfl|rfl<;>first|exact .inl ⟨rfl,rfl,rfl⟩|(refine .inr ⟨?_,?_⟩<;>intro e<;>cases e)) (λp hp e=> ?_),hH.own2 (by decide) (λid k hk=> ?_) hR lU rfl z22⟩
    ·unfold tab5 at hp;simp only[List.mem_cons,List.not_mem_nil,or_false]at hp;rcases hp with rfl|rfl|rfl|rfl|rfl|rfl|rfl|rfl|rfl|rfl|rfl|rfl|rfl|rfl|rfl|rfl|rfl|rfl|rfl|rfl|rfl|rfl;·exact hT _ (List.mem_of_getElem? (i:=0) rfl) e
     ·exact hT _ (List.mem_of_getElem? (i:=1) rfl) e
     ·exact hT _ (List.mem_of_getElem? (i:=2) rfl) e
     ·exact hT _ (List.mem_of_getElem? (i:=3) rfl) e
     ·exact hT _ (List.mem_of_getElem? (i:=4) rfl) e
     ·exact hT _ (List.mem_of_getElem? (i:=5) rfl) e
     ·exact hT _ (List.mem_of_getElem? (i:=6) rfl) e
     ·exact hT _ (List.mem_of_getElem? (i:=7) rfl) e
     ·exact hT _ (List.mem_of_getElem? (i:=8) rfl) e
     ·exact hT _ (List.mem_of_getElem? (i:=9) rfl) e
     ·exfalso;simp only at e;rw[hi]at e;cases e
     ·exact hT _ (List.mem_of_getElem? (i:=11) rfl) e
     ·exact hT _ (List.mem_of_getElem? (i:=12) rfl) e
     ·exact hT _ (List.mem_of_getElem? (i:=13) rfl) e
     ·exact hT _ (List.mem_of_getElem? (i:=14) rfl) e
     ·exfalso;simp only at e;have q:=(n15 e).2.1;rw[hi]at q;cases q
     ·exact hT _ (List.mem_of_getElem? (i:=16) rfl) e
     ·exact hT _ (List.mem_of_getElem? (i:=17) rfl) e
     ·exact hT _ (List.mem_of_getElem? (i:=18) rfl) e
     ·exact hT _ (List.mem_of_getElem? (i:=19) rfl) e
     ·exfalso;simp only at e;have q:=(n15 (n20 e).2.1).2.1;rw[hi]at q;cases q
     ·exact hT _ (List.mem_of_getElem? (i:=21) rfl) e
    ·show id<nx';rw[hget_app]at hk;cases e:hget hp id with
     |some q=>have:=hkl id q e;omega
     |none=>
      rw[e]at hk;simp only at hk;rcases inR_rows (λi hi=>hi) id k hk with e|e;·omega
      ·have:=hR.lt _ e;omega
  | 14,ho,hi,hd=>
   cases ho;have tt:=tb 13 34 _ (List.mem_of_getElem? (i:=13) rfl) (hd 13 (by kernel_rfl));unfold mat at tt;rw[lC]at tt;cases he:e3 with
   |false=>
    refine SO.call Tab.go38 (qSf @tt) qS (SCall.of d3 qS ?_);refine SO.nil ?_;rw[he]at hT hH;exact⟨o,ids,b37,b40,b9,rfl,(get_push (by decide)).trans g8,(get_push (by decide)).trans g4,(get_push (by decide)).trans g2,(get_push (by decide)).trans g7,tab_push (by intro p hp;unfold tab5 at hp;simp only[List.mem_cons,List.not_mem_nil,or_false]at hp;rcases hp with rfl|rfl|rfl|rfl|rfl|rfl|rfl|rfl|rfl|rfl|rfl|rfl|rfl|rfl|rfl|rfl|rfl|rfl|rfl|rfl|rfl|rfl<;>first|exact .inl ⟨rfl,rfl,rfl⟩|(refine .inr ⟨?_,?_⟩<;>intro e<;>cases e)) hT,hH.val (.inr (.inr (.inr ⟨rfl,rfl⟩)))⟩
   | true=>
    obtain⟨f0,f1,f2⟩:=hE3 he;subst f0;subst f1;subst f2;subst he;refine SO.inlQ qS Tab.go38 (qSf @tt) qS (SInlQ.newR (p3 m) ?_ ?_ ?_);·exact hkl
    ·exact λx hp' nx' h=>matQ_new h
    rintro x hp' nx' ⟨o',ids',hR,rfl,rfl⟩;rw[lC]at hR⊢;refine SO.nil ?_;have no1:=hR.o1;have z22:L 22=false:=by
     cases e:L 22 with
     |false=>rfl
     |true=>have q:=(n15 (n20 (n22 e).1).2.1).2.2;rw[hi]at q;cases q
    refine⟨o',ids',b37,b40,b9,rfl,(get_push (by decide)).trans g8,(get_push (by decide)).trans g4,(get_push (by decide)).trans g2,(get_push (by decide)).trans g7,tab_push (by intro p hp;unfold tab5 at hp;simp only[List.mem_cons,List.not_mem_nil,or_false]at hp;rcases hp with rfl|rfl|rfl|rfl|rfl|rfl|rfl|rfl|rfl|rfl|rfl|rfl|rfl|rfl|rfl|rfl|rfl|rfl|rfl|rfl|rfl|rfl<;>first|exact .inl ⟨rfl,rfl,rfl⟩|(refine .inr ⟨?_,?_⟩<;>intro e<;>cases e)) (λp hp e=> ?_),hH.own2 (by decide) (λid k hk=> ?_) hR lC rfl z22⟩
    ·unfold tab5 at hp;simp only[List.mem_cons,List.not_mem_nil,or_false]at hp;rcases hp with rfl|rfl|rfl|rfl|rfl|rfl|rfl|rfl|rfl|rfl|rfl|rfl|rfl|rfl|rfl|rfl|rfl|rfl|rfl|rfl|rfl|rfl;·exact hT _ (List.mem_of_getElem? (i:=0) rfl) e
     ·exact hT _ (List.mem_of_getElem? (i:=1) rfl) e
     ·exact hT _ (List.mem_of_getElem? (i:=2) rfl) e
     ·exact hT _ (List.mem_of_getElem? (i:=3) rfl) e
     ·exact hT _ (List.mem_of_getElem? (i:=4) rfl) e
     ·exact hT _ (List.mem_of_getElem? (i:=5) rfl) e
     ·exact hT _ (List.mem_of_getElem? (i:=6) rfl) e
     ·exact hT _ (List.mem_of_getElem? (i:=7) rfl) e
     ·exact hT _ (List.mem_of_getElem? (i:=8) rfl) e
     ·exact hT _ (List.mem_of_getElem? (i:=9) rfl) e
     ·exact hT _ (List.mem_of_getElem? (i:=10) rfl) e
     ·exact hT _ (List.mem_of_getElem? (i:=11) rfl) e
     ·exact hT _ (List.mem_of_getElem? (i:=12) rfl) e
     ·exact hT _ (List.mem_of_getElem? (i:=13) rfl) e
     ·exfalso;simp only at e;rw[hi]at e;cases e
     ·exfalso;simp only at e;have q:=(n15 e).2.2;rw[hi]at q;cases q
     ·exact hT _ (List.mem_of_getElem? (i:=16) rfl) e
     ·exact hT _ (List.mem_of_getElem? (i:=17) rfl) e
     ·exact hT _ (List.mem_of_getElem? (i:=18) rfl) e
     ·exact hT _ (List.mem_of_getElem? (i:=19) rfl) e
     ·exfalso;simp only at e;have q:=(n15 (n20 e).2.1).2.2;rw[hi]at q;cases q
     ·exact hT _ (List.mem_of_getElem? (i:=21) rfl) e
    ·show id<nx';rw[hget_app]at hk;cases e:hget hp id with
     |some q=>have:=hkl id q e;omega
     |none=>
      rw[e]at hk;simp only at hk;rcases inR_rows (λi hi=>hi) id k hk with e|e;·omega
      ·have:=hR.lt _ e;omega
  | 15,ho,hi,hd=>
   cases ho;have t6:=tb 6 27 _ (List.mem_of_getElem? (i:=6) rfl) (hd 6 (by kernel_rfl));have t10:=tb 10 31 _ (List.mem_of_getElem? (i:=10) rfl) (hd 10 (by kernel_rfl));have t14:=tb 14 35 _ (List.mem_of_getElem? (i:=14) rfl) (hd 14 (by kernel_rfl));cases e1<;>cases e2<;>cases e3
   all_goals
    unfold mC at t6 t10 t14;refine SO.run (qTf (Q3 @t6 @t10 @t14)) (SO.nil ?_);exact⟨o,ids,b37,b40,b9,rfl,(get_push (by decide)).trans g8,(get_push (by decide)).trans g4,(get_push (by decide)).trans g2,(get_push (by decide)).trans g7,tab_push (by intro p hp;unfold tab5 at hp;simp only[List.mem_cons,List.not_mem_nil,or_false]at hp;rcases hp with rfl|rfl|rfl|rfl|rfl|rfl|rfl|rfl|rfl|rfl|rfl|rfl|rfl|rfl|rfl|rfl|rfl|rfl|rfl|rfl|rfl|rfl<;>first|exact .inl ⟨rfl,rfl,rfl⟩|(refine .inr ⟨?_,?_⟩<;>intro e<;>cases e)) hT,hH.pure (by decide)⟩
  | 20,ho,hi,hd=>
   cases ho;have t2:=tb 2 23 _ (List.mem_of_getElem? (i:=2) rfl) (hd 2 (by kernel_rfl));have t15:=tb 15 36 _ (List.mem_of_getElem? (i:=15) rfl) (hd 15 (by kernel_rfl));have t19:=tb 19 40 _ (List.mem_of_getElem? (i:=19) rfl) (hd 19 (by kernel_rfl));cases e0<;>cases e1<;>cases e2<;>cases e3
   all_goals
    unfold mC at t2 t15;simp only[zl8,zl7]at t15;refine SO.run (qTf (Q3 @t2 @t15 @t19)) (SO.nil ?_);exact⟨o,ids,b37,b40,b9,rfl,(get_push (by decide)).trans g8,(get_push (by decide)).trans g4,(get_push (by decide)).trans g2,(get_push (by decide)).trans g7,tab_push (by intro p hp;unfold tab5 at hp;simp only[List.mem_cons,List.not_mem_nil,or_false]at hp;rcases hp with rfl|rfl|rfl|rfl|rfl|rfl|rfl|rfl|rfl|rfl|rfl|rfl|rfl|rfl|rfl|rfl|rfl|rfl|rfl|rfl|rfl|rfl<;>first|exact .inl ⟨rfl,rfl,rfl⟩|(refine .inr ⟨?_,?_⟩<;>intro e<;>cases e)) hT,hH.pure (by decide)⟩
  | 16,ho,hi,hd=>
   cases ho;have z19:L 19=false:=by
    cases e:L 19 with
    |false=>rfl
    |true=>have q:=(n19 e).1;rw[hi]at q;cases q
   refine SO.run qT (SO.nil ?_);refine⟨o,ids,m,b40,b9,rfl,(get_push (by decide)).trans g8,(get_push (by decide)).trans g4,(get_push (by decide)).trans g2,(get_push (by decide)).trans g7,tab_push (by intro p hp;unfold tab5 at hp;simp only[List.mem_cons,List.not_mem_nil,or_false]at hp;rcases hp with rfl|rfl|rfl|rfl|rfl|rfl|rfl|rfl|rfl|rfl|rfl|rfl|rfl|rfl|rfl|rfl|rfl|rfl|rfl|rfl|rfl|rfl<;>first|exact .inl ⟨rfl,rfl,rfl⟩|(refine .inr ⟨?_,?_⟩<;>intro e<;>cases e)) (λp hp e=> ?_),hH.new37 (show(76:Nat)≠80 by decide) hi z19⟩
   ·skip
    unfold tab5 at hp;simp only[List.mem_cons,List.not_mem_nil,or_false]at hp;rcases hp with rfl|rfl|rfl|rfl|rfl|rfl|rfl|rfl|rfl|rfl|rfl|rfl|rfl|rfl|rfl|rfl|rfl|rfl|rfl|rfl|rfl|rfl;·exact hT _ (List.mem_of_getElem? (i:=0) rfl) e
    ·exact hT _ (List.mem_of_getElem? (i:=1) rfl) e
    ·exact hT _ (List.mem_of_getElem? (i:=2) rfl) e
    ·exact hT _ (List.mem_of_getElem? (i:=3) rfl) e
    ·exact hT _ (List.mem_of_getElem? (i:=4) rfl) e
    ·exact hT _ (List.mem_of_getElem? (i:=5) rfl) e
    ·exact hT _ (List.mem_of_getElem? (i:=6) rfl) e
    ·exact hT _ (List.mem_of_getElem? (i:=7) rfl) e
    ·exact hT _ (List.mem_of_getElem? (i:=8) rfl) e
    ·exact hT _ (List.mem_of_getElem? (i:=9) rfl) e
    ·exact hT _ (List.mem_of_getElem? (i:=10) rfl) e
    ·exact hT _ (List.mem_of_getElem? (i:=11) rfl) e
    ·exact hT _ (List.mem_of_getElem? (i:=12) rfl) e
    ·exact hT _ (List.mem_of_getElem? (i:=13) rfl) e
    ·exact hT _ (List.mem_of_getElem? (i:=14) rfl) e
    ·exact hT _ (List.mem_of_getElem? (i:=15) rfl) e
    ·exfalso;simp only at e;rw[hi]at e;cases e
    ·exact hT _ (List.mem_of_getElem? (i:=17) rfl) e
    ·exact hT _ (List.mem_of_getElem? (i:=18) rfl) e
    ·exact hT _ (List.mem_of_getElem? (i:=19) rfl) e
    ·exact hT _ (List.mem_of_getElem? (i:=20) rfl) e
    ·exact hT _ (List.mem_of_getElem? (i:=21) rfl) e
  | 21,ho,hi,hd=>
   cases ho;have z22:L 22=false:=by
    cases e:L 22 with
    |false=>rfl
    |true=>have q:=(n22 e).2;rw[hi]at q;cases q
   refine SO.run qT (SO.nil ?_);refine⟨o,ids,b37,b40,m,rfl,(get_push (by decide)).trans g8,(get_push (by decide)).trans g4,(get_push (by decide)).trans g2,(get_push (by decide)).trans g7,tab_push (by intro p hp;unfold tab5 at hp;simp only[List.mem_cons,List.not_mem_nil,or_false]at hp;rcases hp with rfl|rfl|rfl|rfl|rfl|rfl|rfl|rfl|rfl|rfl|rfl|rfl|rfl|rfl|rfl|rfl|rfl|rfl|rfl|rfl|rfl|rfl<;>first|exact .inl ⟨rfl,rfl,rfl⟩|(refine .inr ⟨?_,?_⟩<;>intro e<;>cases e)) (λp hp e=> ?_),hH.new9 hi z22⟩
   ·skip
    unfold tab5 at hp;simp only[List.mem_cons,List.not_mem_nil,or_false]at hp;rcases hp with rfl|rfl|rfl|rfl|rfl|rfl|rfl|rfl|rfl|rfl|rfl|rfl|rfl|rfl|rfl|rfl|rfl|rfl|rfl|rfl|rfl|rfl;·exact hT _ (List.mem_of_getElem? (i:=0) rfl) e
    ·exact hT _ (List.mem_of_getElem? (i:=1) rfl) e
    ·exact hT _ (List.mem_of_getElem? (i:=2) rfl) e
    ·exact hT _ (List.mem_of_getElem? (i:=3) rfl) e
    ·exact hT _ (List.mem_of_getElem? (i:=4) rfl) e
    ·exact hT _ (List.mem_of_getElem? (i:=5) rfl) e
    ·exact hT _ (List.mem_of_getElem? (i:=6) rfl) e
    ·exact hT _ (List.mem_of_getElem? (i:=7) rfl) e
    ·exact hT _ (List.mem_of_getElem? (i:=8) rfl) e
    ·exact hT _ (List.mem_of_getElem? (i:=9) rfl) e
    ·exact hT _ (List.mem_of_getElem? (i:=10) rfl) e
    ·exact hT _ (List.mem_of_getElem? (i:=11) rfl) e
    ·exact hT _ (List.mem_of_getElem? (i:=12) rfl) e
    ·exact hT _ (List.mem_of_getElem? (i:=13) rfl) e
    ·exact hT _ (List.mem_of_getElem? (i:=14) rfl) e
    ·exact hT _ (List.mem_of_getElem? (i:=15) rfl) e
    ·exact hT _ (List.mem_of_getElem? (i:=16) rfl) e
    ·exact hT _ (List.mem_of_getElem? (i:=17) rfl) e
    ·exact hT _ (List.mem_of_getElem? (i:=18) rfl) e
    ·exact hT _ (List.mem_of_getElem? (i:=19) rfl) e
    ·exact hT _ (List.mem_of_getElem? (i:=20) rfl) e
    ·exfalso;simp only at e;rw[hi]at e;cases e
  | 19,ho,hi,hd=>
   cases ho;have t16:=tb 16 37 _ (List.mem_of_getElem? (i:=16) rfl) (hd 16 (by kernel_rfl));have t18:=tb 18 39 _ (List.mem_of_getElem? (i:=18) rfl) (hd 18 (by kernel_rfl));have z20:L 20=false:=by
    cases e:L 20 with
    |false=>rfl
    |true=>have q:=(n20 e).2.2;rw[hi]at q;cases q
   have z22:L 22=false:=by
    cases e:L 22 with
    |false=>rfl
    |true=>have q:=(n22 e).1;rw[z20]at q;cases q
   have g37:=hH.s37 (hd 16 (by kernel_rfl)) hi;have gl:=opsC_len l;have go:=opsC_one l;have hll:=hk.red.len;have gl2:(opsC l).length=l.length*5:=by omega
   refine SO.run (qTf (Q5 @t16 @t18 @g37 @gl2 @go)) (SO.nil ?_);refine⟨o,ids,b37,m,b9,rfl,(get_push (by decide)).trans g8,(get_push (by decide)).trans g4,(get_push (by decide)).trans g2,(get_push (by decide)).trans g7,tab_push (by intro p hp;unfold tab5 at hp;simp only[List.mem_cons,List.not_mem_nil,or_false]at hp;rcases hp with rfl|rfl|rfl|rfl|rfl|rfl|rfl|rfl|rfl|rfl|rfl|rfl|rfl|rfl|rfl|rfl|rfl|rfl|rfl|rfl|rfl|rfl<;>first|exact .inl ⟨rfl,rfl,rfl⟩|(refine .inr ⟨?_,?_⟩<;>intro e<;>cases e)) (λp hp e=> ?_),hH.app (show(76:Nat)≠80 by decide) (hd 16 (by kernel_rfl)) hi z22⟩
   ·skip
    unfold tab5 at hp;simp only[List.mem_cons,List.not_mem_nil,or_false]at hp;rcases hp with rfl|rfl|rfl|rfl|rfl|rfl|rfl|rfl|rfl|rfl|rfl|rfl|rfl|rfl|rfl|rfl|rfl|rfl|rfl|rfl|rfl|rfl;·exact hT _ (List.mem_of_getElem? (i:=0) rfl) e
    ·exact hT _ (List.mem_of_getElem? (i:=1) rfl) e
    ·exact hT _ (List.mem_of_getElem? (i:=2) rfl) e
    ·exact hT _ (List.mem_of_getElem? (i:=3) rfl) e
    ·exact hT _ (List.mem_of_getElem? (i:=4) rfl) e
    ·exact hT _ (List.mem_of_getElem? (i:=5) rfl) e
    ·exact hT _ (List.mem_of_getElem? (i:=6) rfl) e
    ·exact hT _ (List.mem_of_getElem? (i:=7) rfl) e
    ·exact hT _ (List.mem_of_getElem? (i:=8) rfl) e
    ·exact hT _ (List.mem_of_getElem? (i:=9) rfl) e
    ·exact hT _ (List.mem_of_getElem? (i:=10) rfl) e
    ·exact hT _ (List.mem_of_getElem? (i:=11) rfl) e
    ·exact hT _ (List.mem_of_getElem? (i:=12) rfl) e
    ·exact hT _ (List.mem_of_getElem? (i:=13) rfl) e
    ·exact hT _ (List.mem_of_getElem? (i:=14) rfl) e
    ·exact hT _ (List.mem_of_getElem? (i:=15) rfl) e
    ·exact hT _ (List.mem_of_getElem? (i:=16) rfl) e
    ·exact hT _ (List.mem_of_getElem? (i:=17) rfl) e
    ·exact hT _ (List.mem_of_getElem? (i:=18) rfl) e
    ·exfalso;simp only at e;rw[hi]at e;cases e
    ·exfalso;simp only at e;rw[z20]at e;cases e
    ·exact hT _ (List.mem_of_getElem? (i:=21) rfl) e
  | 22,ho,hi,hd=>
   cases ho;have t20:=tb 20 41 _ (List.mem_of_getElem? (i:=20) rfl) (hd 20 (by kernel_rfl));have t21:=tb 21 9 _ (List.mem_of_getElem? (i:=21) rfl) (hd 21 (by kernel_rfl));have g9:=(hH.s9 (hd 21 (by kernel_rfl))).2;rw[hi]at g9;have hst:=hH.store (show(76:Nat)≠34 by decide) (hd 21 (by kernel_rfl)) (hd 19 (by kernel_rfl));cases e0<;>cases e1<;>cases e2<;>cases e3
   all_goals
    unfold mC at t20;unfold z5 at g9;simp only[zl8,zl7]at t20;refine SO.run (qTf (Q3 @t20 @t21 @g9)) (SO.nil ?_);exact⟨o,ids,b37,b40,b9,rfl,g8,g4,g2,g7,tab_same (by intro p hp;unfold tab5 at hp;simp only[List.mem_cons,List.not_mem_nil,or_false]at hp;rcases hp with rfl|rfl|rfl|rfl|rfl|rfl|rfl|rfl|rfl|rfl|rfl|rfl|rfl|rfl|rfl|rfl|rfl|rfl|rfl|rfl|rfl|rfl<;>(intro e;cases e)) hT,hst⟩
  |i+23,ho,hi,hd=>cases ho
 ·intro L s hall hJ;obtain⟨sl,hp,m,nt⟩:=s;obtain⟨o,ids,b37,b40,b9,hnt,g8,g4,g2,g7,hT,hH⟩:=hJ;simp only at hnt g8 g4 g2 g7 hT hH;subst hnt;have t9:=hT _ (List.mem_of_getElem? (i:=21) rfl) (hall 21 (by decide));obtain⟨hb9,g9⟩:=hH.s9 (hall 21 (by decide));rw[hall 22 (by decide),if_pos rfl]at g9;have g40:=hH.s40 (hall 19 (by decide));simp only at t9;by_cases hr4:4<=w0 % 6
  ·have f0:e0=false:=by rw[hr.1];exact decide_eq_false om
   have f1:e1=false:=by rw[hr.2.1];exact decide_eq_false om
   have f2:e2=false:=by rw[hr.2.2.1];exact decide_eq_false om
   have f3:e3=false:=by rw[hr.2.2.2];exact decide_eq_false om
   have hk2:=hH.hk;have hw1:=hH.hw;clear hr hE0 hE1 hE2 hE3 hT hall hH;subst f0;subst f1;subst f2;subst f3;unfold mC at g9;simp only[zl8,zl7]at g9;have n1:b40≠2:=λe=>by rw[e,hk2]at g40;cases g40
   have n2:b40≠1:=λe=>by rw[e,hw1]at g40;cases g40
   have n3:b9≠1:=λe=>by rw[e,hw1]at g9;cases g9
   have n4:b9≠b40:=λe=>by rw[e,g40]at g9;cases g9
   refine SC.weak (s':=⟨[(8,.pt 2 0),(9,.pt 3 0),(4,.pt 1 0),(2,.sc (.int .i8 c)),(7,.sc (.bool true))],[(3,⟨34,[.sc (.int .i64 h),.sc (.int .i64 w),.im (imR w (rI A)) h,.sc (.int .i64 h),.sc (.int .i64 w),.im (imR w (rI H)) h,.sc (.int .i64 h),.sc (.int .i64 h),.im (imR h (rI U)) h,.sc (.int .i64 h),.sc (.int .i64 h),.im (imR h (rI C)) h,.sl 4 0 l.length 5 none],false⟩),(2,⟨34,kc5 h w A H U C l,false⟩),(1,⟨76,[.sc (.int .u8 w0),.sc (.int .u8 w1),.sc (.int .u8 w2),.sc (.int .u8 w3)],false⟩),(4,⟨80,opsC l,false⟩)],5,168⟩) (by simp) ?_ ?_
   ·refine Le.map (λi=>if i=3 then b9 else if i=4 then b40 else i) (λi=>1<=i/\i<5) hB (λi hi=>by omega) (λi hi=>hi.2) (λi j hi hj e=> ?_) ?_ (λi k hk hd=>mapHp_get (mapHp_cons (k:=⟨34,_,false⟩) g9 (BMap.list ?_) (mapHp_cons (k:=⟨34,_,false⟩) hk2 (BMap.clo ?_) (mapHp_cons (k:=⟨76,_,false⟩) hw1 (BMap.clo rfl) (mapHp_cons (k:=⟨80,_,false⟩) g40 (BMap.clo (opsC_clo l)) mapHp_nil)))) i k hk)
    ·have:i=1\/i=2\/i=3\/i=4:=by omega
     have:j=1\/j=2\/j=3\/j=4:=by omega
     rcases ‹i=1\/_› with rfl|rfl|rfl|rfl<;>rcases ‹j=1\/_› with rfl|rfl|rfl|rfl<;>simp at e<;>first|rfl|omega
    ·exact mapSl_cons g8 (VMap.pt rfl om) (mapSl_cons t9 (VMap.pt rfl om) (mapSl_cons g4 (VMap.pt rfl om) (mapSl_cons g2 (VMap.sc _) (mapSl_cons g7 (VMap.sc _) trivial))))
    ·exact mapL_cons (VMap.sc _) (mapL_cons (VMap.sc _) (mapL_cons (VMap.clo rfl) (mapL_cons (VMap.sc _) (mapL_cons (VMap.sc _) (mapL_cons (VMap.clo rfl) (mapL_cons (VMap.sc _) (mapL_cons (VMap.sc _) (mapL_cons (VMap.clo rfl) (mapL_cons (VMap.sc _) (mapL_cons (VMap.sc _) (mapL_cons (VMap.clo rfl) (mapL_cons (VMap.sl rfl om) mapL_nil))))))))))))
    ·rfl
   clear g9 g40 hk2 hw1 g8 t9 g4 g2 g7 n1 n2 n3 n4 hb9;clear d0 d1 d2 d3 p0 p1 p2 p3;unfold kc5;have u1:IntKind.i64.wrap (w1:Int)=w1:=IntWalk.i64_in _ om;have gl:=opsC_len l;have go:=opsC_one l;have hll:=hk.few;have gl2:(opsC l).length=l.length*5:=by omega
   have gl3:(opsC l).take (l.length*5)=opsC l:=zla om;by_cases h4:w0 % 6=4
   ·have q0:(w0:Int) % 6=4:=by omega
    have u2:IntKind.i64.wrap (w2:Int)=w2:=IntWalk.i64_in _ om;have u3:IntKind.i64.wrap (w3:Int)=w3:=IntWalk.i64_in _ om;have u4:IntKind.i64.wrap c=c:=IntWalk.i64_in _ om;have v1:(w1:Int) % 5=((w1 % 5:Nat):Int):=by omega
    have v2:(w2:Int) % 4=((w2 % 4:Nat):Int):=by omega
    have v3:(w3:Int) % 4=((w3 % 4:Nat):Int):=by omega
    have cOf:=of_i c om om;obtain⟨b,s1,s2⟩:=k4 ⟨w1 % 5,w2 % 4,w3 % 4,c⟩ (Fits.mono (K:=1) (show Fits 1 c by unfold Fits;omega) (by rw[OL_eq];omega));have gL:=opsC_clo (l++ [⟨w1 % 5,w2 % 4,w3 % 4,c⟩]);have gLn:=opsC_len (l++ [⟨w1 % 5,w2 % 4,w3 % 4,c⟩]);have eL:opsC (l++ [⟨w1 % 5,w2 % 4,w3 % 4,c⟩])=opsC l++opC ⟨w1 % 5,w2 % 4,w3 % 4,c⟩:=by rw[opsC_app];show _++(_++ [])=_;rw[List.append_nil]
    rw[eL]at s1 s2 gL gLn;unfold opC sv at s1 s2 gL gLn;unfold iv sv at cOf;simp only at s1 s2 gL gLn;clear k4 k5;generalize w1 % 5=x1 at*;generalize w2 % 4=x2 at*;generalize w3 % 4=x3 at*;have gL5:(opsC l++ [V.sc (Value.int IntKind.i64 (x1:Nat)),V.sc (Value.int IntKind.i64 (x2:Nat)),V.sc (Value.int IntKind.i64 (x3:Nat)),V.sc (Value.bool (decide (c<0))),V.im (lv (limbsOf c.natAbs)) (limbsOf c.natAbs).length]).length=(l.length+1)*5:=by rw[zl1,gl2];show l.length*5+5=_;omega
    have gL6:=zla (Nat.le_of_eq gL5);refine qWf (Q14 @q0 @u1 @u2 @u3 @u4 @v1 @v2 @v3 @gl2 @gl3 @go @gL @gL5 @gL6) ?_;exact qE Tryz.results11
   ·have q0:(w0:Int) % 6=5:=by omega
    have v1:(w1:Int) % ((l.length:Int)+1)=((w1 % (l.length+1):Nat):Int):=by push_cast;rfl
    have hj:w1 % (l.length+1)<=l.length:=by have:=Nat.mod_lt w1 (show 0<l.length+1 by omega);omega
    obtain⟨b,s1,s2⟩:=k5 _ hj;clear k4 k5;generalize w1 % (l.length+1)=j at*;have gj:j*5<=(opsC l).length:=by omega
    have gL:=opsC_clo (l.take j);have gT:(opsC l).take (j*5)=opsC (l.take j):=by exact opsC_take l hj
    have gS:(opsC (l.take j)).length=j*5:=by rw[<-gT,List.length_take];omega
    refine qWf (Q9 @q0 @u1 @v1 @gj @gL @gT @gl2 @gl3 @go) ?_;exact qE Tryz.results11
  have hq:w0 % 6=0\/w0 % 6=1\/w0 % 6=2\/w0 % 6=3:=by omega
  rcases hq with hq|hq|hq|hq
  ·have f0:e0=true:=by rw[hr.1];exact decide_eq_true hq
   have f1:e1=false:=by rw[hr.2.1];exact decide_eq_false om
   have f2:e2=false:=by rw[hr.2.2.1];exact decide_eq_false om
   have f3:e3=false:=by rw[hr.2.2.2];exact decide_eq_false om
   subst f0;subst f1;subst f2;subst f3;have hk2:=hH.hk;have hw1:=hH.hw;have hO:Own hp o ids h w A:=hH.own (by unfold ownOn;simp[hall]);clear hr hE0 hE1 hE2 hE3 hT hall hH;unfold mC at g9;simp only[zl8,zl7]at g9;refine SC.weak (by simp) (own_le hB hO lA rfl rfl (opsC_clo l) hw1 hk2 g9 g40 hb9 (by simp) (by simp) (by simp) (by simp) (mapL_cons (VMap.sc _) (mapL_cons (VMap.sc _) (mapL_cons (VMap.sl rfl om) (mapL_cons (VMap.sc _) (mapL_cons (VMap.sc _) (mapL_cons (VMap.clo rfl) (mapL_cons (VMap.sc _) (mapL_cons (VMap.sc _) (mapL_cons (VMap.clo rfl) (mapL_cons (VMap.sc _) (mapL_cons (VMap.sc _) (mapL_cons (VMap.clo rfl) (mapL_cons (VMap.sl rfl om) mapL_nil))))))))))))) g8 t9 g4 g2 g7) (chkO0 (w3:=w3) hmA List.length_range' List.nodup_range' (λj hj=>by rw[List.mem_range'_1]at hj;exact hj) om hk.few om hc hw0 hw1' hw2 hq (λM1 hM1=>ka M1 hM1) cO kp)
  ·have f0:e0=false:=by rw[hr.1];exact decide_eq_false om
   have f1:e1=true:=by rw[hr.2.1];exact decide_eq_true hq
   have f2:e2=false:=by rw[hr.2.2.1];exact decide_eq_false om
   have f3:e3=false:=by rw[hr.2.2.2];exact decide_eq_false om
   subst f0;subst f1;subst f2;subst f3;have hk2:=hH.hk;have hw1:=hH.hw;have hO:Own hp o ids h w H:=hH.own (by unfold ownOn;simp[hall]);clear hr hE0 hE1 hE2 hE3 hT hall hH;unfold mC at g9;simp only[zl8,zl7]at g9;refine SC.weak (by simp) (own_le hB hO lH rfl rfl (opsC_clo l) hw1 hk2 g9 g40 hb9 (by simp) (by simp) (by simp) (by simp) (mapL_cons (VMap.sc _) (mapL_cons (VMap.sc _) (mapL_cons (VMap.clo rfl) (mapL_cons (VMap.sc _) (mapL_cons (VMap.sc _) (mapL_cons (VMap.sl rfl om) (mapL_cons (VMap.sc _) (mapL_cons (VMap.sc _) (mapL_cons (VMap.clo rfl) (mapL_cons (VMap.sc _) (mapL_cons (VMap.sc _) (mapL_cons (VMap.clo rfl) (mapL_cons (VMap.sl rfl om) mapL_nil))))))))))))) g8 t9 g4 g2 g7) (chkO1 (w3:=w3) hmH List.length_range' List.nodup_range' (λj hj=>by rw[List.mem_range'_1]at hj;exact hj) om hk.few om hc hw0 hw1' hw2 hq (λM1 hM1=>kh M1 hM1) cO kp)
  ·have f0:e0=false:=by rw[hr.1];exact decide_eq_false om
   have f1:e1=false:=by rw[hr.2.1];exact decide_eq_false om
   have f2:e2=true:=by rw[hr.2.2.1];exact decide_eq_true hq
   have f3:e3=false:=by rw[hr.2.2.2];exact decide_eq_false om
   subst f0;subst f1;subst f2;subst f3;have hk2:=hH.hk;have hw1:=hH.hw;have hO:Own hp o ids h h U:=hH.own (by unfold ownOn;simp[hall]);clear hr hE0 hE1 hE2 hE3 hT hall hH;unfold mC at g9;simp only[zl8,zl7]at g9;refine SC.weak (by simp) (own_le hB hO lU rfl rfl (opsC_clo l) hw1 hk2 g9 g40 hb9 (by simp) (by simp) (by simp) (by simp) (mapL_cons (VMap.sc _) (mapL_cons (VMap.sc _) (mapL_cons (VMap.clo rfl) (mapL_cons (VMap.sc _) (mapL_cons (VMap.sc _) (mapL_cons (VMap.clo rfl) (mapL_cons (VMap.sc _) (mapL_cons (VMap.sc _) (mapL_cons (VMap.sl rfl om) (mapL_cons (VMap.sc _) (mapL_cons (VMap.sc _) (mapL_cons (VMap.clo rfl) (mapL_cons (VMap.sl rfl om) mapL_nil))))))))))))) g8 t9 g4 g2 g7) (chkO2 (w3:=w3) hmU List.length_range' List.nodup_range' (λj hj=>by rw[List.mem_range'_1]at hj;exact hj) om hk.few om hc hw0 hw1' hw2 hq (λM1 hM1=>ku M1 hM1) cO kp)
  ·have f0:e0=false:=by rw[hr.1];exact decide_eq_false om
   have f1:e1=false:=by rw[hr.2.1];exact decide_eq_false om
   have f2:e2=false:=by rw[hr.2.2.1];exact decide_eq_false om
   have f3:e3=true:=by rw[hr.2.2.2];exact decide_eq_true hq
   subst f0;subst f1;subst f2;subst f3;have hk2:=hH.hk;have hw1:=hH.hw;have hO:Own hp o ids h h C:=hH.own (by unfold ownOn;simp[hall]);clear hr hE0 hE1 hE2 hE3 hT hall hH;unfold mC at g9;simp only[zl8,zl7]at g9;refine SC.weak (by simp) (own_le hB hO lC rfl rfl (opsC_clo l) hw1 hk2 g9 g40 hb9 (by simp) (by simp) (by simp) (by simp) (mapL_cons (VMap.sc _) (mapL_cons (VMap.sc _) (mapL_cons (VMap.clo rfl) (mapL_cons (VMap.sc _) (mapL_cons (VMap.sc _) (mapL_cons (VMap.clo rfl) (mapL_cons (VMap.sc _) (mapL_cons (VMap.sc _) (mapL_cons (VMap.clo rfl) (mapL_cons (VMap.sc _) (mapL_cons (VMap.sc _) (mapL_cons (VMap.sl rfl om) (mapL_cons (VMap.sl rfl om) mapL_nil))))))))))))) g8 t9 g4 g2 g7) (chkO3 (w3:=w3) hmC List.length_range' List.nodup_range' (λj hj=>by rw[List.mem_range'_1]at hj;exact hj) om hk.few om hc hw0 hw1' hw2 hq (λM1 hM1=>kc M1 hM1) cO kp)
end
end Go.Proofs.YtannldafjkjjbaaGreat
