/- Texts joined: Hd He Hf Ii Xi Rr Rs Rt Hg Hh Yb. -/
import Derived.Test.YtannldafjkjjbaaGreatVe
import Derived.Test.YtannldafjkjjbaaGreatVf
import Derived.Test.YtannldafjkjjbaaGreatVh
set_option linter.all false
set_option maxHeartbeats 16000000
open Nat renaming reduceEqDiff → zn1, reduceLT → zn2, reduceLeDiff → zn3, reduceAdd → zn4, reduceMul → zn5, reduceSub → zn6, reduceBEq → zn7, mul_one → zn8, zero_add → zn9, one_mul → zna, le_refl → znb, zero_le → znc, add_sub_cancel_left → znd, sub_eq_zero_of_le → zne, add_assoc → znf
open Int renaming reduceToNat → zi1, reducePow → zi2
open List renaming length_append → zl1, drop_zero → zl2, take_succ_cons → zl3, take_zero → zl4, getElem?_drop → zl5, append_assoc → zl6, nil_append → zl7, cons_append → zl8, drop_succ_cons → zl9, take_of_length_le → zla, getElem?_eq_getElem → zlb, getElem?_eq_some_iff → zlc, map_cons → zld, map_nil → zle, all_eq_true → zlf
namespace Go.Proofs.YtannldafjkjjbaaGreat
section
open Go.RowKit
def matH(o w:Nat)(ids:List Nat)(M:List (List Int)):List (Nat×Blk):=(o,⟨41,slR 2 w ids,false⟩)::rowsH 68 ids (rI M)
def matT(o h w:Nat):V:= .ag [.sc (.int .i64 h),.sc (.int .i64 w),.sl o 0 h 1 none]
def workC(h w oM oU oV:Nat):List V:=[.sc (.int .i64 h),.sc (.int .i64 w),.sl oM 0 h 1 none,.sc (.int .i64 h),.sc (.int .i64 h),.sl oU 0 h 1 none,.sc (.int .i64 h),.sc (.int .i64 h),.sl oV 0 h 1 none]
def StP(n0 h w:Nat)(b0:Blk)(A:List (List Int))(L:Nat->Bool)(sl:List (Nat×V))(hp:List (Nat×Blk))(nx:Nat):Prop:=
 (L 1=false/\hp=[(n0,b0)]/\nx=n0+1)\/
 (∃oM a,L 1=true/\L 4=false/\RowsOk oM a h (n0+1) nx/\get sl 4=matT oM h w/\hp=[(n0,b0)]++matH oM w a A)\/
 (∃oM a n1 oU b,L 4=true/\L 7=false/\RowsOk oM a h (n0+1) n1/\RowsOk oU b h n1 nx/\get sl 4=matT oM h w/\get sl 7=matT oU h h/\hp=[(n0,b0)]++matH oM w a A++matH oU h b (idL h))\/
 (∃oM a n1 oU b n2 oV c,L 7=true/\L 8=false/\RowsOk oM a h (n0+1) n1/\RowsOk oU b h n1 n2/\RowsOk oV c h n2 nx/\get sl 4=matT oM h w/\get sl 7=matT oU h h/\get sl 10=matT oV h h/\hp=[(n0,b0)]++matH oM w a A++matH oU h b (idL h)++matH oV h c (idL h))\/
 (∃oM a n1 oU b n2 oV c,L 8=true/\L 9=false/\RowsOk oM a h (n0+1) n1/\RowsOk oU b h n1 n2/\RowsOk oV c h n2 nx/\get sl 11= .ag (workC h w oM oU oV)/\hp=[(n0,b0)]++matH oM w a A++matH oU h b (idL h)++matH oV h c (idL h))\/
 (∃oM a n1 oU b n2 oV c p,L 9=true/\L 10=false/\RowsOk oM a h (n0+1) n1/\RowsOk oU b h n1 n2/\RowsOk oV c h n2 p/\nx=p+1/\get sl 12= .pt p 0/\hp=(p,⟨111,workC h w oM oU oV,false⟩)::([(n0,b0)]++matH oM w a A++matH oU h b (idL h)++matH oV h c (idL h)))\/
 (∃oM a n1 oU b n2 oV c p,L 10=true/\RowsOk oM a h (n0+1) n1/\RowsOk oU b h n1 n2/\RowsOk oV c h n2 p/\nx=p+1/\get sl 2= .pt p 0/\hp=(p,⟨111,workC h w oM oU oV,false⟩)::([(n0,b0)]++matH oM w a A++matH oU h b (idL h)++matH oV h c (idL h)))
def StJ(n0 h w:Nat)(b0:Blk)(A:List (List Int))(L:Nat->Bool)(s:SS):Prop:=
 s.nt=13/\get s.sl 1= .pt n0 0/\(L 0=true->get s.sl 3= .ag b0.cs)/\(L 2=true->get s.sl 5= .pt n0 0)/\(L 3=true->get s.sl 6= .sc (.int .i64 h))/\(L 5=true->get s.sl 8= .pt n0 0)/\(L 6=true->get s.sl 9= .sc (.int .i64 h))/\hget s.hp n0=some b0/\StP n0 h w b0 A L s.sl s.hp s.nx
structure WOk(p oM oU oV:Nat)(a b c:List Nat)(h lo hi:Nat):Prop where
 la:a.length=h
 lb:b.length=h
 lc:c.length=h
 nod:(p::oM::oU::oV::(a++b++c)).Nodup
 rng: ∀i∈p::oM::oU::oV::(a++b++c),lo<=i/\i<hi
def wkH(p oM oU oV h w:Nat)(a b c:List Nat)(W:List (List Int)):List (Nat×Blk):=
 (p,⟨111,workC h w oM oU oV,false⟩)::(oM,⟨41,slR 2 w a,false⟩)::(oU,⟨41,slR 2 h b,false⟩)::(oV,⟨41,slR 2 h c,false⟩)::rowsH 68 (a++b++c) (rI W)
def WorkQ(h w:Nat)(W:List (List Int))(nx:Nat)(x:V)(hp':List (Nat×Blk))(nx':Nat):Prop:=
 ∃p oM oU oV a b c,WOk p oM oU oV a b c h nx nx'/\x= .pt p 0/\hp'=wkH p oM oU oV h w a b c W
theorem pushF{L:Nat->Bool}{i j t u:Nat}{sl:List (Nat×V)}{x v:V}(hij:j≠i)(htu:u≠t)(f:L j=true->get sl u=v):addL L i j=true->get ((t,x)::sl) u=v:=by intro e;unfold addL at e;rw[if_neg hij]at e;simp only[get];rw[if_neg htu];exact f e
theorem addL_ne{L:Nat->Bool}{i j:Nat}(h:j≠i):addL L i j=L j:=by unfold addL;rw[if_neg h]
theorem addL_eq{L:Nat->Bool}{i:Nat}:addL L i i=true:=by unfold addL;rw[if_pos rfl]
theorem get_push{sl:List (Nat×V)}{t u:Nat}{x:V}(h:u≠t):get ((t,x)::sl) u=get sl u:=by simp only[get];rw[if_neg h]
theorem StP.push{n0 h w:Nat}{b0:Blk}{A:List (List Int)}{L:Nat->Bool}{sl:List (Nat×V)}{hp:List (Nat×Blk)}{nx i t:Nat}{x:V}(hi:i∈ [0,2,3,5,6])(ht:t∈ [3,5,6,8,9])(hP:StP n0 h w b0 A L sl hp nx):StP n0 h w b0 A (addL L i) ((t,x)::sl) hp nx:=by
 have i1:1≠i:=by rintro rfl;simp at hi
 have i4:4≠i:=by rintro rfl;simp at hi
 have i7:7≠i:=by rintro rfl;simp at hi
 have i8:8≠i:=by rintro rfl;simp at hi
 have i9:9≠i:=by rintro rfl;simp at hi
 have i10:10≠i:=by rintro rfl;simp at hi
 have t4:4≠t:=by rintro rfl;simp at ht
 have t7:7≠t:=by rintro rfl;simp at ht
 have t10:10≠t:=by rintro rfl;simp at ht
 have t11:11≠t:=by rintro rfl;simp at ht
 have t12:12≠t:=by rintro rfl;simp at ht
 have t2:2≠t:=by rintro rfl;simp at ht
 unfold StP at hP⊢;simp only[addL_ne i1,addL_ne i4,addL_ne i7,addL_ne i8,addL_ne i9,addL_ne i10,get_push t4,get_push t7,get_push t10,get_push t11,get_push t12,get_push t2];exact hP
theorem rowsH_app{ty:TypeId}: ∀{a b:List Nat} {r q:List (List V)},a.length=r.length->rowsH ty (a++b) (r++q)=rowsH ty a r++rowsH ty b q
 |[],b,[],q,_=>rfl
 |x::a,b,y::r,q,h=>by rw[zl8,zl8,rowsH,rowsH,rowsH_app (by simpa using h)];rfl
theorem kl_mat{o w h lo hi:Nat}{ids:List Nat}{M:List (List Int)}(hR:RowsOk o ids h lo hi): ∀id k,hget (matH o w ids M) id=some k->lo<=id/\id<hi:=by
 intro id k hk;rcases inR_rows (λi hi=>hi) id k hk with e|e;·subst e;exact hR.o1
 ·exact hR.lt _ e
theorem kl_app{a b:List (Nat×Blk)}{n:Nat}(h1: ∀id k,hget a id=some k->id<n)(h2: ∀id k,hget b id=some k->id<n): ∀id k,hget (a++b) id=some k->id<n:=by
 intro id k hk;rw[hget_app]at hk;cases e:hget a id with
 |some q=>exact h1 id q e
 |none=>rw[e]at hk;exact h2 id k hk
theorem wok_of{oM oU oV h lo n1 n2 p:Nat}{a b c:List Nat}(p3:RowsOk oM a h lo n1)(p4:RowsOk oU b h n1 n2)(p5:RowsOk oV c h n2 p):WOk p oM oU oV a b c h lo (p+1):=by
 have ho:=p3.o1;have ho2:=p4.o1;have ho3:=p5.o1;have mem: ∀i,i∈a++b++c->(i∈a/\lo<=i/\i<n1)\/(i∈b/\n1<=i/\i<n2)\/(i∈c/\n2<=i/\i<p):=by
  intro i hi;rcases List.mem_append.1 hi with hi|hi
  ·rcases List.mem_append.1 hi with hi|hi;·exact .inl ⟨hi,p3.lt i hi⟩
   ·exact .inr (.inl ⟨hi,p4.lt i hi⟩)
  ·exact .inr (.inr ⟨hi,p5.lt i hi⟩)
 refine⟨p3.len,p4.len,p5.len,?_,?_⟩
 ·refine List.nodup_cons.2 ⟨λhm=> ?_,List.nodup_cons.2 ⟨λhm=> ?_,List.nodup_cons.2 ⟨λhm=> ?_,List.nodup_cons.2 ⟨λhm=> ?_,?_⟩⟩⟩⟩
  ·simp only[List.mem_cons]at hm;rcases hm with e|e|e|e;·omega
   ·omega
   ·omega
   ·have:=mem p e;omega
  ·simp only[List.mem_cons]at hm;rcases hm with e|e|e;·omega
   ·omega
   ·rcases mem oM e with⟨h1,_⟩|h1|h1;·exact p3.o2 h1
    ·omega
    ·omega
  ·simp only[List.mem_cons]at hm;rcases hm with e|e;·omega
   ·rcases mem oU e with h1|⟨h1,_⟩|h1;·omega
    ·exact p4.o2 h1
    ·omega
  ·rcases mem oV hm with h1|h1|⟨h1,_⟩;·omega
   ·omega
   ·exact p5.o2 h1
  ·rw[List.nodup_append,List.nodup_append];refine⟨⟨p3.nod,p4.nod,λx hx y hy=> ?_⟩,p5.nod,λx hx y hy=> ?_⟩;·have:=p3.lt x hx;have:=p4.lt y hy;omega
   ·have:=mem x (List.mem_append_left _ hx);have h5:=p5.lt y hy;rcases List.mem_append.1 hx with hx|hx;·have:=p3.lt x hx;omega
    ·have:=p4.lt x hx;omega
 ·intro i hi;simp only[List.mem_cons]at hi;rcases hi with rfl|rfl|rfl|rfl|hi;·omega
  ·omega
  ·omega
  ·omega
  ·have:=mem i hi;omega
theorem wk_heap{oM oU oV h w lo n0 n1 n2 p:Nat}{a b c:List Nat}{b0:Blk}{A U C:List (List Int)}(p3:RowsOk oM a h lo n1)(p4:RowsOk oU b h n1 n2)(p5:RowsOk oV c h n2 p)(hn:n0<lo)(hA:A.length=h)(hU:U.length=h)(hC:C.length=h):
  ∀id k,hget (wkH p oM oU oV h w a b c (A++U++C)) id=some k->hget ((p,⟨111,workC h w oM oU oV,false⟩)::([(n0,b0)]++matH oM w a A++matH oU h b U++matH oV h c C)) id=some k:=by
 have ho:=p3.o1;have ho2:=p4.o1;have ho3:=p5.o1;have e1:rI (A++U++C)=rI A++rI U++rI C:=by simp[rI]
 have e2:rowsH 68 (a++b++c) (rI (A++U++C))=rowsH 68 a (rI A)++rowsH 68 b (rI U)++rowsH 68 c (rI C):=by rw[e1,rowsH_app (by rw[zl1,zl1,rI_len,rI_len,p3.len,p4.len];omega),rowsH_app (by rw[rI_len,p3.len];omega)]
 have na: ∀id,n1<=id->hget (rowsH 68 a (rI A)) id=none:=λid h1=>rows_none λhm=>by have:=p3.lt id hm;omega
 have nb: ∀id,n2<=id->hget (rowsH 68 b (rI U)) id=none:=λid h1=>rows_none λhm=>by have:=p4.lt id hm;omega
 have sa: ∀id k,hget (rowsH 68 a (rI A)) id=some k->lo<=id/\id<n1:=λid k hk=>by obtain⟨q,q1,_,q3,_⟩:=rows_inv hk;rw[<-q3];exact p3.lt _ (getD_mem' q1)
 have sb: ∀id k,hget (rowsH 68 b (rI U)) id=some k->n1<=id/\id<n2:=λid k hk=>by obtain⟨q,q1,_,q3,_⟩:=rows_inv hk;rw[<-q3];exact p4.lt _ (getD_mem' q1)
 have sc: ∀id k,hget (rowsH 68 c (rI C)) id=some k->n2<=id/\id<p:=λid k hk=>by obtain⟨q,q1,_,q3,_⟩:=rows_inv hk;rw[<-q3];exact p5.lt _ (getD_mem' q1)
 intro id k hk;unfold wkH at hk;rw[e2]at hk;unfold matH;simp only[hget,hget_app,zl8,zl7,zl6]at hk⊢;by_cases c1:id=p;·rw[if_pos c1]at hk⊢;exact hk
 rw[if_neg c1]at hk⊢;by_cases c2:id=oM
 ·rw[if_pos c2]at hk;rw[if_neg om,if_pos c2];exact hk
 rw[if_neg c2]at hk;by_cases c3:id=oU
 ·rw[if_pos c3]at hk;rw[if_neg om,if_neg c2,na id om];simp only;rw[if_pos c3];exact hk
 rw[if_neg c3]at hk;by_cases c4:id=oV
 ·rw[if_pos c4]at hk;rw[if_neg om,if_neg c2,na id om];simp only;rw[if_neg c3,nb id om];simp only;rw[if_pos c4];exact hk
 rw[if_neg c4]at hk;have hlo:lo<=id:=by
  cases x1:hget (rowsH 68 a (rI A)) id with
  |some q=>exact(sa id q x1).1
  | none=>
   rw[x1]at hk;simp only at hk;cases x2:hget (rowsH 68 b (rI U)) id with
   |some q=>have:=sb id q x2;omega
   |none=>
    rw[x2]at hk;simp only at hk;have:=sc id k hk;omega
 rw[if_neg om,if_neg c2,if_neg c3,if_neg c4];exact hk
set_option maxRecDepth 8000 in
theorem hstart_q{h w K:Nat}{A:List (List Int)}(n0:Nat)(hA:MI h w K A)(hK:K<=90000000000)(hn:h<=1000000)(hw:w<=1000000):
  InlQ Tryz.prog 64 [mat w A] [] n0 (WorkQ h w (A++idL h++idL h) n0):=by
 have hAl:=hA.len;have c1:=λn=>rcopyI_q n hA hK hn hw;have c2:=λn=>rident_q h n hn;unfold mat at c1⊢;rw[hAl]at c1⊢;refine InlQ.run Tryz.func64 rfl Tryz.ntmps64 (by simp) qT λB hB=> ?_;have nx:=n0;refine qY ?_;refine SC.inv (StJ n0 h w ⟨28,[.sc (.int .i64 h),.sc (.int .i64 w),.im (imR w (rI A)) h],false⟩ A) Tab.mixed (by kernel_rfl) ?_ ?_ ?_;·refine⟨rfl,rfl,(λe=>by cases e),(λe=>by cases e),(λe=>by cases e),(λe=>by cases e),(λe=>by cases e),by simp[hget],.inl ⟨rfl,rfl,rfl⟩⟩
 ·intro L s i o hcl hJ ho hi hd;obtain⟨sl,hp,m,nt⟩:=s;obtain⟨hnt,g1,f0,f2,f3,f5,f6,hG,hP⟩:=hJ;simp only at hnt g1 f0 f2 f3 f5 f6 hG hP;subst hnt;have k41:L 4=true->L 1=true:=λe=>hcl 4 1 e (by kernel_rfl);have k74:L 7=true->L 4=true:=λe=>hcl 7 4 e (by kernel_rfl);have k87:L 8=true->L 7=true:=λe=>hcl 8 7 e (by kernel_rfl);have k98:L 9=true->L 8=true:=λe=>hcl 9 8 e (by kernel_rfl);have k109:L 10=true->L 9=true:=λe=>hcl 10 9 e (by kernel_rfl)
  match i,ho,hi,hd with
  |0,ho,hi,hd=>
   cases ho;refine SO.run (qTf (Q2 @g1 @hG)) (SO.nil ?_);exact⟨rfl,g1,λ_=>rfl,pushF (by decide) (by decide) f2,pushF (by decide) (by decide) f3,pushF (by decide) (by decide) f5,pushF (by decide) (by decide) f6,hG,hP.push (by decide) (by decide)⟩
  |2,ho,hi,hd=>
   cases ho;refine SO.run (qTf (Q2 @g1 @hG)) (SO.nil ?_);exact⟨rfl,g1,pushF (by decide) (by decide) f0,λ_=>rfl,pushF (by decide) (by decide) f3,pushF (by decide) (by decide) f5,pushF (by decide) (by decide) f6,hG,hP.push (by decide) (by decide)⟩
  |3,ho,hi,hd=>
   cases ho;have f2':=f2 (hd 2 (by kernel_rfl));refine SO.run (qTf (Q3 @g1 @hG @f2')) (SO.nil ?_);exact⟨rfl,g1,pushF (by decide) (by decide) f0,pushF (by decide) (by decide) f2,λ_=>rfl,pushF (by decide) (by decide) f5,pushF (by decide) (by decide) f6,hG,hP.push (by decide) (by decide)⟩
  |5,ho,hi,hd=>
   cases ho;refine SO.run (qTf (Q2 @g1 @hG)) (SO.nil ?_);exact⟨rfl,g1,pushF (by decide) (by decide) f0,pushF (by decide) (by decide) f2,pushF (by decide) (by decide) f3,λ_=>rfl,pushF (by decide) (by decide) f6,hG,hP.push (by decide) (by decide)⟩
  |6,ho,hi,hd=>
   cases ho;have f5':=f5 (hd 5 (by kernel_rfl));refine SO.run (qTf (Q3 @g1 @hG @f5')) (SO.nil ?_);exact⟨rfl,g1,pushF (by decide) (by decide) f0,pushF (by decide) (by decide) f2,pushF (by decide) (by decide) f3,pushF (by decide) (by decide) f5,λ_=>rfl,hG,hP.push (by decide) (by decide)⟩
  | 1,ho,hi,hd=>
   cases ho;have f0':=f0 (hd 0 (by kernel_rfl));rcases hP with⟨_,rfl,rfl⟩|⟨_,_,e,_⟩|⟨_,_,_,_,_,e,_⟩|⟨_,_,_,_,_,_,_,_,e,_⟩|⟨_,_,_,_,_,_,_,_,e,_⟩|⟨_,_,_,_,_,_,_,_,_,e,_⟩|⟨_,_,_,_,_,_,_,_,_,e,_⟩
   ·refine SO.inlQ qS (by rfl) (qSf @f0') qS (SInlQ.newR (c1 (n0+1)) ?_ ?_ ?_);·exact klc om kln
    ·exact λx hp' nx' h=>matQ_new h
    rintro x hp' nx' ⟨o,ids,hR,rfl,rfl⟩;rw[hAl]at hR⊢;refine SO.nil ?_;refine⟨rfl,g1,pushF (by decide) (by decide) f0,pushF (by decide) (by decide) f2,pushF (by decide) (by decide) f3,pushF (by decide) (by decide) f5,pushF (by decide) (by decide) f6,by simp[hget],.inr (.inl ⟨o,ids,addL_eq,?_,hR,rfl,rfl⟩)⟩;rw[addL_ne (by decide)];cases h4:L 4 with
    |false=>rfl
    |true=>rw[k41 h4]at hi;cases hi
   all_goals(exfalso;simp_all)
  | 4,ho,hi,hd=>
   cases ho;have f3':=f3 (hd 3 (by kernel_rfl));have d1:=hd 1 (by kernel_rfl);rcases hP with⟨e,_⟩|⟨oM,a,p1,p2,p3,p4,rfl⟩|⟨oM,a,n1,oU,b,p1,p2,p3,p4,p5,p6,rfl⟩|⟨oM,a,n1,oU,b,n2,oV,c,p1,p2,p3,p4,p5,p6,p7,p8,rfl⟩|⟨oM,a,n1,oU,b,n2,oV,c,p1,p2,p3,p4,p5,p6,rfl⟩|⟨oM,a,n1,oU,b,n2,oV,c,p,p1,p2,p3,p4,p5,rfl,p6,rfl⟩|⟨oM,a,n1,oU,b,n2,oV,c,p,p1,p3,p4,p5,rfl,p6,rfl⟩;·rw[d1]at e;cases e
   ·have q1:=kl_mat (w:=w) (M:=A) p3;have ho:=p3.o1;refine SO.inlQ qS (by rfl) (qSf @f3') qS (SInlQ.newR (c2 m) ?_ ?_ ?_);·exact kl_app (klc om kln) λid k hk=>(q1 id k hk).2
    ·exact λx hp' nx' h=>matQ_new h
    rintro x hp' nx' ⟨o,ids,hR,rfl,rfl⟩;have hil:(idL h).length=h:=mkM_len;rw[hil]at hR⊢;refine SO.nil ?_;refine⟨rfl,g1,pushF (by decide) (by decide) f0,pushF (by decide) (by decide) f2,pushF (by decide) (by decide) f3,pushF (by decide) (by decide) f5,pushF (by decide) (by decide) f6,by simp[hget],.inr (.inr (.inl ⟨oM,a,m,o,ids,addL_eq,?_,p3,hR,(get_push (by decide)).trans p4,rfl,rfl⟩))⟩;rw[addL_ne (by decide)];cases h4:L 7 with
    |false=>rfl
    |true=>rw[k74 h4]at hi;cases hi
   ·rw[hi]at p1;cases p1
   ·rw[k74 p1]at hi;cases hi
   ·rw[k74 (k87 p1)]at hi;cases hi
   ·rw[k74 (k87 (k98 p1))]at hi;cases hi
   ·rw[k74 (k87 (k98 (k109 p1)))]at hi;cases hi
  | 7,ho,hi,hd=>
   cases ho;have f6':=f6 (hd 6 (by kernel_rfl));have d1:=hd 4 (by kernel_rfl);rcases hP with⟨e,_⟩|⟨oM,a,p1,p2,p3,p4,rfl⟩|⟨oM,a,n1,oU,b,p1,p2,p3,p4,p5,p6,rfl⟩|⟨oM,a,n1,oU,b,n2,oV,c,p1,p2,p3,p4,p5,p6,p7,p8,rfl⟩|⟨oM,a,n1,oU,b,n2,oV,c,p1,p2,p3,p4,p5,p6,rfl⟩|⟨oM,a,n1,oU,b,n2,oV,c,p,p1,p2,p3,p4,p5,rfl,p6,rfl⟩|⟨oM,a,n1,oU,b,n2,oV,c,p,p1,p3,p4,p5,rfl,p6,rfl⟩;·rw[k41 d1]at e;cases e
   ·rw[d1]at p2;cases p2
   ·have q1:=kl_mat (w:=w) (M:=A) p3;have q2:=kl_mat (w:=h) (M:=idL h) p4;have ho:=p3.o1;have ho2:=p4.o1;refine SO.inlQ qS (by rfl) (qSf @f6') qS (SInlQ.newR (c2 m) ?_ ?_ ?_);·exact kl_app (kl_app (klc om kln) λid k hk=>by have:=q1 id k hk;omega) λid k hk=>(q2 id k hk).2
    ·exact λx hp' nx' h=>matQ_new h
    rintro x hp' nx' ⟨o,ids,hR,rfl,rfl⟩;have hil:(idL h).length=h:=mkM_len;rw[hil]at hR⊢;refine SO.nil ?_;refine⟨rfl,g1,pushF (by decide) (by decide) f0,pushF (by decide) (by decide) f2,pushF (by decide) (by decide) f3,pushF (by decide) (by decide) f5,pushF (by decide) (by decide) f6,by simp[hget],.inr (.inr (.inr (.inl ⟨oM,a,n1,oU,b,m,o,ids,addL_eq,?_,p3,p4,hR,(get_push (by decide)).trans p5,(get_push (by decide)).trans p6,rfl,rfl⟩)))⟩;rw[addL_ne (by decide)];cases h4:L 8 with
    |false=>rfl
    |true=>rw[k87 h4]at hi;cases hi
   ·rw[hi]at p1;cases p1
   ·rw[k87 p1]at hi;cases hi
   ·rw[k87 (k98 p1)]at hi;cases hi
   ·rw[k87 (k98 (k109 p1))]at hi;cases hi
  | 8,ho,hi,hd=>
   cases ho;have d1:=hd 7 (by kernel_rfl);rcases hP with⟨e,_⟩|⟨oM,a,p1,p2,p3,p4,rfl⟩|⟨oM,a,n1,oU,b,p1,p2,p3,p4,p5,p6,rfl⟩|⟨oM,a,n1,oU,b,n2,oV,c,p1,p2,p3,p4,p5,p6,p7,p8,rfl⟩|⟨oM,a,n1,oU,b,n2,oV,c,p1,p2,p3,p4,p5,p6,rfl⟩|⟨oM,a,n1,oU,b,n2,oV,c,p,p1,p2,p3,p4,p5,rfl,p6,rfl⟩|⟨oM,a,n1,oU,b,n2,oV,c,p,p1,p3,p4,p5,rfl,p6,rfl⟩;·rw[k41 (k74 d1)]at e;cases e
   ·rw[k74 d1]at p2;cases p2
   ·rw[d1]at p2;cases p2
   ·unfold matT at p6 p7 p8;refine SO.run (qTf (Q3 @p6 @p7 @p8)) (SO.nil ?_);refine⟨rfl,g1,pushF (by decide) (by decide) f0,pushF (by decide) (by decide) f2,pushF (by decide) (by decide) f3,pushF (by decide) (by decide) f5,pushF (by decide) (by decide) f6,by simp[hget],.inr (.inr (.inr (.inr (.inl ⟨oM,a,n1,oU,b,n2,oV,c,addL_eq,?_,p3,p4,p5,rfl,rfl⟩))))⟩;rw[addL_ne (by decide)];cases h4:L 9 with
    |false=>rfl
    |true=>rw[k98 h4]at hi;cases hi
   ·rw[hi]at p1;cases p1
   ·rw[k98 p1]at hi;cases hi
   ·rw[k98 (k109 p1)]at hi;cases hi
  | 9,ho,hi,hd=>
   cases ho;have d1:=hd 8 (by kernel_rfl);rcases hP with⟨e,_⟩|⟨oM,a,p1,p2,p3,p4,rfl⟩|⟨oM,a,n1,oU,b,p1,p2,p3,p4,p5,p6,rfl⟩|⟨oM,a,n1,oU,b,n2,oV,c,p1,p2,p3,p4,p5,p6,p7,p8,rfl⟩|⟨oM,a,n1,oU,b,n2,oV,c,p1,p2,p3,p4,p5,p6,rfl⟩|⟨oM,a,n1,oU,b,n2,oV,c,p,p1,p2,p3,p4,p5,rfl,p6,rfl⟩|⟨oM,a,n1,oU,b,n2,oV,c,p,p1,p3,p4,p5,rfl,p6,rfl⟩;·rw[k41 (k74 (k87 d1))]at e;cases e
   ·rw[k74 (k87 d1)]at p2;cases p2
   ·rw[k87 d1]at p2;cases p2
   ·rw[d1]at p2;cases p2
   ·unfold workC at p6;refine SO.run (qTf @p6) (SO.nil ?_);have ho:=p3.o1;have ho2:=p4.o1;have ho3:=p5.o1;refine⟨rfl,g1,pushF (by decide) (by decide) f0,pushF (by decide) (by decide) f2,pushF (by decide) (by decide) f3,pushF (by decide) (by decide) f5,pushF (by decide) (by decide) f6,?_,.inr (.inr (.inr (.inr (.inr (.inl ⟨oM,a,n1,oU,b,n2,oV,c,m,addL_eq,?_,p3,p4,p5,rfl,rfl,rfl⟩)))))⟩;·exact(if_neg om).trans hG
    rw[addL_ne (by decide)];cases h4:L 10 with
    |false=>rfl
    |true=>rw[k109 h4]at hi;cases hi
   ·rw[hi]at p1;cases p1
   ·rw[k109 p1]at hi;cases hi
  | 10,ho,hi,hd=>
   cases ho;have d1:=hd 9 (by kernel_rfl);rcases hP with⟨e,_⟩|⟨oM,a,p1,p2,p3,p4,rfl⟩|⟨oM,a,n1,oU,b,p1,p2,p3,p4,p5,p6,rfl⟩|⟨oM,a,n1,oU,b,n2,oV,c,p1,p2,p3,p4,p5,p6,p7,p8,rfl⟩|⟨oM,a,n1,oU,b,n2,oV,c,p1,p2,p3,p4,p5,p6,rfl⟩|⟨oM,a,n1,oU,b,n2,oV,c,p,p1,p2,p3,p4,p5,rfl,p6,rfl⟩|⟨oM,a,n1,oU,b,n2,oV,c,p,p1,p3,p4,p5,rfl,p6,rfl⟩;·rw[k41 (k74 (k87 (k98 d1)))]at e;cases e
   ·rw[k74 (k87 (k98 d1))]at p2;cases p2
   ·rw[k87 (k98 d1)]at p2;cases p2
   ·rw[k98 d1]at p2;cases p2
   ·rw[d1]at p2;cases p2
   ·refine SO.run (qTf @p6) (SO.nil ?_);exact⟨rfl,g1,pushF (by decide) (by decide) f0,pushF (by decide) (by decide) f2,pushF (by decide) (by decide) f3,pushF (by decide) (by decide) f5,pushF (by decide) (by decide) f6,hG,.inr (.inr (.inr (.inr (.inr (.inr ⟨oM,a,n1,oU,b,n2,oV,c,p,addL_eq,p3,p4,p5,rfl,rfl,rfl⟩)))))⟩
   ·rw[hi]at p1;cases p1
  |n+11,ho,hi,hd=>cases ho
 ·intro L s hL hJ;obtain⟨sl,hp,m,nt⟩:=s;obtain⟨hnt,g1,f0,f2,f3,f5,f6,hG,hP⟩:=hJ;simp only at hnt g1 f0 f2 f3 f5 f6 hG hP;subst hnt;have l1:L 1=true:=hL 1 (by decide);have l4:L 4=true:=hL 4 (by decide);have l7:L 7=true:=hL 7 (by decide);have l8:L 8=true:=hL 8 (by decide);have l9:L 9=true:=hL 9 (by decide);have l10:L 10=true:=hL 10 (by decide);rcases hP with⟨e,_⟩|⟨oM,a,p1,p2,p3,p4,rfl⟩|⟨oM,a,n1,oU,b,p1,p2,p3,p4,p5,p6,rfl⟩|⟨oM,a,n1,oU,b,n2,oV,c,p1,p2,p3,p4,p5,p6,p7,p8,rfl⟩|⟨oM,a,n1,oU,b,n2,oV,c,p1,p2,p3,p4,p5,p6,rfl⟩|⟨oM,a,n1,oU,b,n2,oV,c,p,p1,p2,p3,p4,p5,rfl,p6,rfl⟩|⟨oM,a,n1,oU,b,n2,oV,c,p,p1,p3,p4,p5,rfl,p6,rfl⟩;·rw[l1]at e;cases e
  ·rw[l4]at p2;cases p2
  ·rw[l7]at p2;cases p2
  ·rw[l8]at p2;cases p2
  ·rw[l9]at p2;cases p2
  ·rw[l10]at p2;cases p2
  ·have ho:=p3.o1;have hil:(idL h).length=h:=mkM_len;refine qY ?_;refine retIQ_ret (.pt p 0) (wkH p oM oU oV h w a b c (A++idL h++idL h)) (p+1) Tryz.results64 (qTf @p6) ⟨p,oM,oU,oV,a,b,c,?_,rfl,rfl⟩ ?_
   ·have hw:=wok_of p3 p4 p5;exact⟨hw.la,hw.lb,hw.lc,hw.nod,λi hi=>by have:=hw.rng i hi;omega⟩
   ·refine Le.slots ?_ (wk_heap p3 p4 p5 om hAl hil hil) (znb _);exact leSl_cons rfl (VLe.refl rfl) leSl_nil
end
section
open Go.RowKit
structure WIds(p oM oU oV:Nat)(a b c:List Nat)(h nx:Nat):Prop where
 la:a.length=h
 lb:b.length=h
 lc:c.length=h
 nod:(p::oM::oU::oV::(a++b++c)).Nodup
 rng: ∀i∈p::oM::oU::oV::(a++b++c),i<nx
structure WI(h w K:Nat)(W:List (List Int)):Prop where
 len:W.length=3*h
 rowM: ∀q,q<h->(W.getD q []).length=w
 rowU: ∀q,h<=q->q<3*h->(W.getD q []).length=h
 fit: ∀q t,Fits K ((W.getD q []).getD t 0)
theorem WI.mono{h w K L:Nat}{W:List (List Int)}(hW:WI h w K W)(hl:K<=L):WI h w L W:=⟨hW.len,hW.rowM,hW.rowU,λq t=>(hW.fit q t).mono hl⟩
theorem fits0{K:Nat}:Fits K 0:=by unfold Fits;exact Nat.pow_pos om
theorem WI.set{h w K q:Nat}{W:List (List Int)}{r:List Int}(hW:WI h w K W)(hq:q<3*h)(hr:r.length=(W.getD q []).length)(hf: ∀t,Fits K (r.getD t 0)):WI h w K (W.set q r):=by
 have hl:=hW.len;refine⟨by rw[List.length_set];exact hl,λi hi=> ?_,λi h1 h2=> ?_,λi t=> ?_⟩
 ·rw[getD_set om];split;·rename_i e;rw[hr,<-e];exact hW.rowM i hi
  ·exact hW.rowM i hi
 ·rw[getD_set om];split;·rename_i e;rw[hr,<-e];exact hW.rowU i h1 h2
  ·exact hW.rowU i h1 h2
 ·rw[getD_set om];split;·exact hf t
  ·exact hW.fit i t
theorem nodup_four{p oM oU oV:Nat}{l:List Nat}(h:(p::oM::oU::oV::l).Nodup):p≠oM/\p≠oU/\p≠oV/\oM≠oU/\oM≠oV/\oU≠oV/\p∉l/\oM∉l/\oU∉l/\oV∉l/\l.Nodup:=by simp only[List.nodup_cons,List.mem_cons,not_or]at h;obtain⟨⟨h1,h2,h3,h4⟩,⟨h5,h6,h7⟩,⟨h8,h9⟩,h10,h11⟩:=h;exact⟨h1,h2,h3,h5,h6,h8,h4,h7,h9,h10,h11⟩
theorem getD_app1{a b:List Nat}{i:Nat}(h:i<a.length):(a++b).getD i 0=a.getD i 0:=by rw[List.getD_eq_getElem?_getD,List.getElem?_append_left h,List.getD_eq_getElem?_getD]
theorem getD_app2{a b:List Nat}{i:Nat}:(a++b).getD (a.length+i) 0=b.getD i 0:=by rw[List.getD_eq_getElem?_getD,List.getElem?_append_right om,znd,List.getD_eq_getElem?_getD]
section
variable {p oM oU oV h w K nx:Nat} {a b c:List Nat} {W:List (List Int)}
theorem WIds.iM(hI:WIds p oM oU oV a b c h nx){i:Nat}(hi:i<h):(a++b++c).getD i 0=a.getD i 0:=by
 have:=hI.la;have:=hI.lb
 rw[getD_app1 (by rw[zl1];omega),getD_app1 om]
theorem WIds.iU(hI:WIds p oM oU oV a b c h nx){i:Nat}(hi:i<h):(a++b++c).getD (h+i) 0=b.getD i 0:=by
 have h1:=hI.la;have:=hI.lb
 rw[getD_app1 (by rw[zl1];omega)];have:=getD_app2 (a:=a) (b:=b) (i:=i);rwa[h1]at this
theorem WIds.iV(hI:WIds p oM oU oV a b c h nx){i:Nat}:(a++b++c).getD (2*h+i) 0=c.getD i 0:=by
 have h1:=hI.la;have h2:=hI.lb
 have:=getD_app2 (a:=a++b) (b:=c) (i:=i);rwa[zl1,h1,h2,<-Nat.two_mul]at this
theorem WIds.row(hI:WIds p oM oU oV a b c h nx)(hl:W.length=3*h){q:Nat}(hq:q<3*h):
  hget (rowsH 68 (a++b++c) (rI W)) ((a++b++c).getD q 0)=some ⟨68,ivR (W.getD q []),false⟩/\(a++b++c).getD q 0<nx/\(a++b++c).getD q 0≠p/\(a++b++c).getD q 0≠oM/\(a++b++c).getD q 0≠oU/\(a++b++c).getD q 0≠oV:=by
 obtain⟨_,_,_,_,_,_,n1,n2,n3,n4,n5⟩:=nodup_four hI.nod;have hll:(a++b++c).length=3*h:=by rw[zl1,zl1,hI.la,hI.lb,hI.lc];omega
 have hm:=getD_mem' (ids:=a++b++c) (k:=q) om;have hg:=rows_get (ty:=68) (rs:=rI W) (k:=q) n5 om (by rw[rI_len];omega);rw[rI_getD]at hg;refine⟨hg,hI.rng _ (by simp only[List.mem_cons];exact .inr (.inr (.inr (.inr hm)))),λe=>n1 (e▸hm),λe=>n2 (e▸hm),λe=>n3 (e▸hm),λe=>n4 (e▸hm)⟩
theorem WIds.rowF(hI:WIds p oM oU oV a b c h nx)(hl:W.length=3*h){q:Nat}(hq:q<3*h):
  hget (rowsH 68 (a++b++c) (rI W)) ((a++b++c).getD q 0)=some ⟨68,ivR (W.getD q []),false⟩/\(a++b++c).getD q 0<nx/\((a++b++c).getD q 0=p)=False/\((a++b++c).getD q 0=oM)=False/\((a++b++c).getD q 0=oU)=False/\((a++b++c).getD q 0=oV)=False:=by
 obtain⟨h1,h2,h3,h4,h5,h6⟩:=hI.row hl hq;exact⟨h1,h2,eq_false h3,eq_false h4,eq_false h5,eq_false h6⟩
theorem WIds.nes(hI:WIds p oM oU oV a b c h nx):(oM=p)=False/\(oU=p)=False/\(oU=oM)=False/\(oV=p)=False/\(oV=oM)=False/\(oV=oU)=False:=by obtain⟨z1,z2,z3,z4,z5,z6,_⟩:=nodup_four hI.nod;exact⟨eq_false z1.symm,eq_false z2.symm,eq_false z4.symm,eq_false z3.symm,eq_false z5.symm,eq_false z6.symm⟩
theorem WIds.rset(hI:WIds p oM oU oV a b c h nx)(hl:W.length=3*h){q:Nat}(hq:q<3*h)(r:List Int):
  hset (rowsH 68 (a++b++c) (rI W)) ((a++b++c).getD q 0) ⟨68,ivR r,false⟩=rowsH 68 (a++b++c) (rI (W.set q r)):=by
 obtain⟨_,_,_,_,_,_,_,_,_,_,n5⟩:=nodup_four hI.nod;have hll:(a++b++c).length=3*h:=by rw[zl1,zl1,hI.la,hI.lb,hI.lc];omega
 have hs:=rows_set (ty:=68) (rs:=rI W) (k:=q) (r:=ivR r) n5 om (by rw[rI_len];omega);rwa[rI_set]at hs
theorem WIds.kl(hI:WIds p oM oU oV a b c h nx){m:Nat}(hm:nx<=m):klB (rowsH 68 (a++b++c) (rI W)) m=true:=
 klB_rows λj hj=>Nat.lt_of_lt_of_le (hI.rng j (by simp only[List.mem_cons];exact .inr (.inr (.inr (.inr hj))))) hm
theorem WIds.lts(hI:WIds p oM oU oV a b c h nx):p<nx/\oM<nx/\oU<nx/\oV<nx:=⟨hI.rng _ (by simp),hI.rng _ (by simp),hI.rng _ (by simp),hI.rng _ (by simp)⟩
theorem Le.wkDown{B:Base}{sl sl':List (Nat×V)}{hp:List (Nat×Blk)}{nx1 nt:Nat}(hB: ∃m,B.Old m/\m<=nx)(hI:WIds p oM oU oV a b c h nx)
  (hs: ∀id k,hget (wkH p oM oU oV h w a b c W) id=some k->hget hp id=some k) (h1:mapSl (λi=>i) (λi=>i<nx) sl sl'):
  Le B ⟨sl,hp,nx1,nt⟩ ⟨sl',wkH p oM oU oV h w a b c W,nx,nt⟩:=by
 obtain⟨m0,hB,hm0⟩:=hB;obtain⟨l1,l2,l3,l4⟩:=hI.lts;have lr: ∀i∈a++b++c,i<nx:=λi hi=>hI.rng i (by simp only[List.mem_cons];exact .inr (.inr (.inr (.inr hi))));refine Le.map (λi=>i) (λi=>i<nx) hB (λi hi=>⟨by omega,rfl⟩) (λi h=>h) (λi j _ _ e=>e) h1 (λi k' hk' hlt=> ?_);rw[hs i k' hk'];unfold wkH at hk';simp only[hget]at hk';split at hk'
 ·cases hk';exact BMap.list (mapL_cons (VMap.sc _) (mapL_cons (VMap.sc _) (mapL_cons (VMap.sl rfl l2) (mapL_cons (VMap.sc _) (mapL_cons (VMap.sc _) (mapL_cons (VMap.sl rfl l3) (mapL_cons (VMap.sc _) (mapL_cons (VMap.sc _) (mapL_cons (VMap.sl rfl l4) mapL_nil)))))))))
 split at hk'
 ·cases hk';refine⟨_,rfl,rfl,rfl,λj y hy=>⟨y,hy,?_⟩⟩;obtain⟨q,hq,rfl⟩:=List.mem_map.1 (List.mem_of_getElem? hy);exact VMap.sl rfl (lr q (List.mem_append_left _ (List.mem_append_left _ hq)))
 split at hk'
 ·cases hk';refine⟨_,rfl,rfl,rfl,λj y hy=>⟨y,hy,?_⟩⟩;obtain⟨q,hq,rfl⟩:=List.mem_map.1 (List.mem_of_getElem? hy);exact VMap.sl rfl (lr q (List.mem_append_left _ (List.mem_append_right _ hq)))
 split at hk'
 ·cases hk';refine⟨_,rfl,rfl,rfl,λj y hy=>⟨y,hy,?_⟩⟩;obtain⟨q,hq,rfl⟩:=List.mem_map.1 (List.mem_of_getElem? hy);exact VMap.sl rfl (lr q (List.mem_append_right _ hq))
 ·obtain⟨q,q1,q2,q3,rfl⟩:=rows_inv hk';exact BMap.clo (rI_clo W _ (by rw[List.getD_eq_getElem?_getD,zlb q2];exact List.getElem_mem q2))
theorem wk_lt(hI:WIds p oM oU oV a b c h nx): ∀id k,hget (wkH p oM oU oV h w a b c W) id=some k->id<nx:=by
 obtain⟨l1,l2,l3,l4⟩:=hI.lts;intro id k hk;unfold wkH at hk;simp only[hget]at hk;split at hk;·omega
 split at hk;·omega
 split at hk;·omega
 split at hk;·omega
 ·obtain⟨q,q1,_,q3,_⟩:=rows_inv hk;rw[<-q3];exact hI.rng _ (by simp only[List.mem_cons];exact .inr (.inr (.inr (.inr (getD_mem' q1)))))
end
end
section
open Go.RowKit
theorem fits_mulL{K L:Nat}{y k:Int}(hy:Fits K y)(hk:Fits L k):Fits (K+L) (k*y):=by
 unfold Fits at*;rw[Int.natAbs_mul,Nat.pow_add]
 calc k.natAbs*y.natAbs=y.natAbs*k.natAbs:=Nat.mul_comm _ _
  _<4294967296^K*4294967296^L:=Nat.mul_lt_mul'' hy hk
theorem fits_sum{K:Nat}{x y:Int}(hx:Fits K x)(hy:Fits K y):Fits (K+1) (x+y):=by unfold Fits at*;have h1:=Int.natAbs_add_le x y;have h3:0<4294967296^K:=Nat.pow_pos om;rw[Nat.pow_succ];generalize 4294967296^K=T at*;omega
theorem fits_neg{K:Nat}{x:Int}(hx:Fits K x):Fits K (-x):=by unfold Fits at*;rwa[Int.natAbs_neg]
theorem fits_addL{K L:Nat}{x y k:Int}(hx:Fits K x)(hy:Fits K y)(hk:Fits L k):Fits (K+L+1) (x+k*y):=fits_sum (hx.mono om) (fits_mulL hy hk)
theorem fits_subL{K L:Nat}{x y k:Int}(hx:Fits K x)(hy:Fits K y)(hk:Fits L k):Fits (K+L+1) (x-k*y):=by rw[Int.sub_eq_add_neg];exact fits_sum (hx.mono om) (fits_neg (fits_mulL hy hk))
def colPre(h i j:Nat)(k:Int)(r:Nat)(W:List (List Int)):List (List Int):=W.mapIdx λq row=>if 2*h<=q/\q<2*h+r then row.set j (row.getD j 0-k*row.getD i 0)else row
theorem colPre_len{h i j:Nat}{k:Int}{r:Nat}{W:List (List Int)}:(colPre h i j k r W).length=W.length:=by simp[colPre]
theorem colPre_get{h i j:Nat}{k:Int}{r q:Nat}{W:List (List Int)}(hq:q<W.length):(colPre h i j k r W).getD q []=if 2*h<=q/\q<2*h+r then(W.getD q []).set j ((W.getD q []).getD j 0-k*(W.getD q []).getD i 0)else W.getD q []:=by unfold colPre;rw[List.getD_eq_getElem?_getD,List.getElem?_mapIdx,getD_get' (d:=[]) hq];rfl
theorem rows_ext{a b:List (List Int)}(h:a.length=b.length)(hx: ∀q,q<a.length->a.getD q []=b.getD q []):a=b:=by refine List.ext_getElem h λq h1 h2=> ?_;have:=hx q h1;rw[List.getD_eq_getElem?_getD,List.getD_eq_getElem?_getD,zlb h1,zlb h2]at this;simpa using this
theorem colPre_zero{h i j:Nat}{k:Int}{W:List (List Int)}:colPre h i j k 0 W=W:=rows_ext colPre_len λq hq=>by rw[colPre_len]at hq;rw[colPre_get hq,if_neg om]
theorem colPre_set{h i j:Nat}{k:Int}{r:Nat}{W:List (List Int)}(hr:2*h+r<W.length):(colPre h i j k r W).set (2*h+r) ((W.getD (2*h+r) []).set j ((W.getD (2*h+r) []).getD j 0-k*(W.getD (2*h+r) []).getD i 0))=colPre h i j k (r+1) W:=by
 refine rows_ext (by rw[List.length_set,colPre_len,colPre_len]) λq hq=> ?_;rw[List.length_set,colPre_len]at hq;rw[getD_set (by rw[colPre_len];exact hr),colPre_get hq,colPre_get hq];by_cases e:q=2*h+r;·rw[if_pos e,if_pos om,e]
 ·rw[if_neg e];by_cases e2:2*h<=q/\q<2*h+r;·rw[if_pos e2,if_pos om]
  ·rw[if_neg e2,if_neg om]
def addW(h i j:Nat)(k:Int)(W:List (List Int)):List (List Int):=
 colPre h i j k h ((W.set i (addI (W.getD i []) (W.getD j []) k)).set (h+i) (addI (W.getD (h+i) []) (W.getD (h+j) []) k))
theorem addW_wi{h w K L i j:Nat}{k:Int}{W:List (List Int)}(hW:WI h w K W)(hi:i<h)(hj:j<h)(hk:Fits L k):WI h w (K+L+1) (addW h i j k W):=by
 have hl:=hW.len;have key: ∀q q',q<3*h->q'<3*h-> ∀t,Fits (K+L+1) ((addI (W.getD q []) (W.getD q' []) k).getD t 0):=by
  intro q q' _ _ t;by_cases ht:t<(W.getD q []).length;·rw[addI_get ht];exact fits_addL (hW.fit q t) (hW.fit q' t) hk
  ·rw[List.getD_eq_getElem?_getD,List.getElem?_eq_none (by rw[addI_len];omega)];exact fits0
 have h1:=(hW.mono (Nat.le_add_right K (L+1))).set (q:=i) (r:=addI (W.getD i []) (W.getD j []) k) om (by rw[addI_len]) (key i j om om);have h2:=h1.set (q:=h+i) (r:=addI (W.getD (h+i) []) (W.getD (h+j) []) k) om (by rw[addI_len,getD_set om,if_neg om]) (key (h+i) (h+j) om om);unfold addW;generalize hX:(W.set i (addI (W.getD i []) (W.getD j []) k)).set (h+i) (addI (W.getD (h+i) []) (W.getD (h+j) []) k)=X at*;have hX2: ∀q,2*h<=q->q<3*h->X.getD q []=W.getD q []:=by intro q h3 h4;rw[<-hX,getD_set (by rw[List.length_set];omega),if_neg om,getD_set om,if_neg om]
 have hxl:=h2.len;refine⟨by rw[colPre_len];exact hxl,λq hq=> ?_,λq h3 h4=> ?_,λq t=> ?_⟩;·rw[colPre_get om,if_neg om];exact h2.rowM q hq
 ·rw[colPre_get om];split;·rw[List.length_set];exact h2.rowU q h3 h4
  ·exact h2.rowU q h3 h4
 ·by_cases hq:q<3*h
  ·rw[colPre_get om];split
   ·rename_i hc;rw[hX2 q om hq];have hrl:=hW.rowU q om hq;rw[getD_set om];split;·exact fits_subL (hW.fit q j) (hW.fit q i) hk
    ·exact(hW.fit q t).mono om
   ·exact h2.fit q t
  ·rw[List.getD_eq_getElem?_getD (l:=colPre _ _ _ _ _ _),List.getElem?_eq_none (by rw[colPre_len];omega)];exact fits0
set_option maxRecDepth 8000 in
theorem addto_q{h w K L p oM oU oV nx i j:Nat}{a b c:List Nat}{W:List (List Int)}{k:Int}(hW:WI h w K W)(hk:Fits L k)(hK:K+L<=100000000000)(hI:WIds p oM oU oV a b c h nx)(hi:i<h)(hj:j<h)(hij:i≠j)(hn:h<=1000000)(hw:w<=1000000):
  InlQ Tryz.prog 67 [.pt p 0,.sc (.int .i64 i),.sc (.int .i64 j),iv k] (wkH p oM oU oV h w a b c W) nx (λx hp' nx'=>x= .tu []/\nx'=nx/\hp'=wkH p oM oU oV h w a b c (addW h i j k W)):=by
 have hl:=hW.len;obtain⟨l1,l2,l3,l4⟩:=hI.lts;obtain⟨z1,z2,z3,z4,z5,z6⟩:=hI.nes;have v1:p+1-nx=0:=by omega
 have v2:oM+1-nx=0:=by omega
 have v3:oU+1-nx=0:=by omega
 have v4:oV+1-nx=0:=by omega
 have la:=hI.la;have lb:=hI.lb;have lc:=hI.lc;have ga:=slR_len 2 w a;have gb:=slR_len 2 h b;have gc:=slR_len 2 h c;rw[la]at ga;rw[lb]at gb;rw[lc]at gc;unfold iv sv;refine InlQ.run Tryz.func67 rfl Tryz.ntmps67 (by simp) (by unfold wkH workC;simp(disch:=omega) only[go_sem,↓reduceIte,zn1,zn2,zn3,zn4,zn5,zn6,reduceCtorEq,zn7,zi1,zi2,if_pos,if_neg,Int.reduceAdd];rfl) λB hB=> ?_;refine qWD ?_;have e1:(W).set (i) (addPreI 0 (W.getD (i) []) (W.getD (j) []) k)=W:=by rw[addPreI_zero];have:=setI_self (M:=W) (i:=i) om;exact this
 refine SC.loop (λt:Nat=>⟨[(0,.pt p 0),(1,.sc (.int .i64 i)),(2,.sc (.int .i64 j)),(7,.pt nx 0),(8,.sc (.int .i64 t))],(nx,⟨68,[.sc (.bool (decide (k<0))),.im (lv (limbsOf k.natAbs)) (limbsOf k.natAbs).length],false⟩)::wkH p oM oU oV h w a b c ((W).set (i) (addPreI t (W.getD (i) []) (W.getD (j) []) k)),nx+1,143⟩)
  (λt=>t<=w) (λt=>w-t) 0 ?_ ?_ ?_
 ·rw[e1];unfold wkH workC;exact qM
 ·exact znc _
 ·intro t ht K2 hK2;have hrl:(W.getD (i) []).length=w:=hW.rowM i hi;have hrlj:(W.getD (j) []).length=w:=hW.rowM j hj;by_cases hc:t<w
  ·as_aux_lemma=>
    have q1:=decide_eq_true (p:=(t:Int)<(w:Int)) om;have hWl:((W).set (i) (addPreI t (W.getD (i) []) (W.getD (j) []) k)).length=3*h:=by rw[List.length_set];exact hl
    have gi:=slR_get (z:=2) (m:=w) (ids:=a) (k:=i) om;have gj:=slR_get (z:=2) (m:=w) (ids:=a) (k:=j) om;obtain⟨gR,y1,y2,y3,y4,y5⟩:=hI.rowF hWl (q:=i) om;obtain⟨gRj,u1,u2,u3,u4,u5⟩:=hI.rowF hWl (q:=j) om;rw[getD_set om,if_pos rfl]at gR;rw[getD_set om,if_neg (λe=>hij e.symm)]at gRj;have c1:=mul_i k ((W.getD (j) []).getD t 0) (K+L) (hk.mono om) ((hW.fit (j) t).mono om) om;have c2:=add_i ((W.getD (i) []).getD t 0) (k*(W.getD (j) []).getD t 0) (K+L) ((hW.fit (i) t).mono om) (fits_mulL (hW.fit (j) t) hk) om;have gdj:=ivR_drop (l:=W.getD (j) []) (i:=t) om;have glj:=ivR_len (W.getD (j) []);rw[hrlj]at glj;have gl:=ivR_len (addPreI t (W.getD (i) []) (W.getD (j) []) k);rw[addPreI_len,hrl]at gl;have gd:=ivR_drop (l:=addPreI t (W.getD (i) []) (W.getD (j) []) k) (i:=t) (by rw[addPreI_len];omega);rw[addPreI_get om,if_neg om]at gd;have gs:=ivR_set (l:=addPreI t (W.getD (i) []) (W.getD (j) []) k) (i:=t) ((W.getD (i) []).getD t 0+k*(W.getD (j) []).getD t 0) (by rw[addPreI_len];omega);rw[addPreI_set om]at gs;have hrs:=hI.rset hWl (q:=i) om (addPreI (t+1) (W.getD (i) []) (W.getD (j) []) k);rw[List.set_set]at hrs;have hkl:=hI.kl (W:=(W).set (i) (addPreI t (W.getD (i) []) (W.getD (j) []) k)) (m:=nx+1) om;rw[hI.iM hi]at gR y1 y2 y3 y4 y5 hrs;rw[hI.iM hj]at gRj u1 u2 u3 u4 u5;have v5:a.getD i 0+1-nx=0:=zne y1;have v6:a.getD j 0+1-nx=0:=zne u1;unfold wkH workC at*;generalize(ivR (addPreI t (W.getD (i) []) (W.getD (j) []) k)).drop ((t+1)*2)=D at*;generalize hA:ivR (addPreI t (W.getD (i) []) (W.getD (j) []) k)=A at*;generalize(W.getD (i) []).getD t 0=x at*;generalize(ivR (W.getD (j) [])).drop ((t+1)*2)=Dj at*;generalize hAj:ivR (W.getD (j) [])=Aj at*;generalize(W.getD (j) []).getD t 0=y at*;generalize hA':ivR (addPreI (t+1) (W.getD (i) []) (W.getD (j) []) k)=A' at*;generalize hH:rowsH 68 (a++b++c) (rI ((W).set (i) (addPreI t (W.getD (i) []) (W.getD (j) []) k)))=H at*;generalize a.getD i 0=idk at*;generalize a.getD j 0=idj at*;unfold iv sv at c1 c2;unfold ivC sv at gd gs gdj;simp only[zl8,zl7]at gd gdj;have g2j:t*2<Aj.length:=by omega
    have g2:t*2<A.length:=by omega
    refine qWDf (Q2 (Q16 @q1 @ga @gb @gc @gi @gj @gR @gRj @gl @glj @gd @gdj @gs @g2 @g2j @hrs) (Q15 @hkl @z1 @z2 @z3 @z4 @z5 @z6 @y2 @y3 @y4 @y5 @u2 @u3 @u4 @u5)) ?_;refine hK2 _ (t+1) ?_ om om;exact qM
  ·have htw:t=w:=by omega
   have q1:=decide_eq_false (p:=(w:Int)<(w:Int)) om;rw[htw,addPreI_end hrl];unfold wkH workC;refine qWDf (Q7 @q1 @z1 @z2 @z3 @z4 @z5 @z6) ?_;have e2:(W.set i (addI (W.getD i []) (W.getD j []) k)).set (h+i) (addPreI 0 (W.getD (h+i) []) (W.getD (h+j) []) k)=W.set i (addI (W.getD i []) (W.getD j []) k):=by rw[addPreI_zero];have:=setI_self (M:=W.set i (addI (W.getD i []) (W.getD j []) k)) (i:=h+i) (by rw[List.length_set];omega);rwa[getD_set om,if_neg om]at this
   refine SC.loop (λt:Nat=>⟨[(0,.pt p 0),(1,.sc (.int .i64 i)),(2,.sc (.int .i64 j)),(7,.pt nx 0),(9,.sc (.int .i64 t))],(nx,⟨68,[.sc (.bool (decide (k<0))),.im (lv (limbsOf k.natAbs)) (limbsOf k.natAbs).length],false⟩)::wkH p oM oU oV h w a b c ((W.set i (addI (W.getD i []) (W.getD j []) k)).set (h+i) (addPreI t (W.getD (h+i) []) (W.getD (h+j) []) k)),nx+1,143⟩)
    (λt=>t<=h) (λt=>h-t) 0 ?_ ?_ ?_
   ·rw[e2];unfold wkH workC;exact qM
   ·exact znc _
   ·intro t ht K2 hK2;have hrl:(W.getD (h+i) []).length=h:=hW.rowU (h+i) om om;have hrlj:(W.getD (h+j) []).length=h:=hW.rowU (h+j) om om;by_cases hc:t<h
    ·as_aux_lemma=>
      have q1:=decide_eq_true (p:=(t:Int)<(h:Int)) om;have hWl:((W.set i (addI (W.getD i []) (W.getD j []) k)).set (h+i) (addPreI t (W.getD (h+i) []) (W.getD (h+j) []) k)).length=3*h:=by rw[List.length_set,List.length_set];exact hl
      have gi:=slR_get (z:=2) (m:=h) (ids:=b) (k:=i) om;have gj:=slR_get (z:=2) (m:=h) (ids:=b) (k:=j) om;obtain⟨gR,y1,y2,y3,y4,y5⟩:=hI.rowF hWl (q:=h+i) om;obtain⟨gRj,u1,u2,u3,u4,u5⟩:=hI.rowF hWl (q:=h+j) om;rw[getD_set (by rw[List.length_set];omega),if_pos rfl]at gR;rw[getD_set (by rw[List.length_set];omega),if_neg (λe=>hij (Nat.add_left_cancel e).symm),getD_set om,if_neg om]at gRj;have c1:=mul_i k ((W.getD (h+j) []).getD t 0) (K+L) (hk.mono om) ((hW.fit (h+j) t).mono om) om;have c2:=add_i ((W.getD (h+i) []).getD t 0) (k*(W.getD (h+j) []).getD t 0) (K+L) ((hW.fit (h+i) t).mono om) (fits_mulL (hW.fit (h+j) t) hk) om;have gdj:=ivR_drop (l:=W.getD (h+j) []) (i:=t) om;have glj:=ivR_len (W.getD (h+j) []);rw[hrlj]at glj;have gl:=ivR_len (addPreI t (W.getD (h+i) []) (W.getD (h+j) []) k);rw[addPreI_len,hrl]at gl;have gd:=ivR_drop (l:=addPreI t (W.getD (h+i) []) (W.getD (h+j) []) k) (i:=t) (by rw[addPreI_len];omega);rw[addPreI_get om,if_neg om]at gd;have gs:=ivR_set (l:=addPreI t (W.getD (h+i) []) (W.getD (h+j) []) k) (i:=t) ((W.getD (h+i) []).getD t 0+k*(W.getD (h+j) []).getD t 0) (by rw[addPreI_len];omega);rw[addPreI_set om]at gs;have hrs:=hI.rset hWl (q:=h+i) om (addPreI (t+1) (W.getD (h+i) []) (W.getD (h+j) []) k);rw[List.set_set]at hrs;have hkl:=hI.kl (W:=(W.set i (addI (W.getD i []) (W.getD j []) k)).set (h+i) (addPreI t (W.getD (h+i) []) (W.getD (h+j) []) k)) (m:=nx+1) om;rw[hI.iU hi]at gR y1 y2 y3 y4 y5 hrs;rw[hI.iU hj]at gRj u1 u2 u3 u4 u5;have v5:b.getD i 0+1-nx=0:=zne y1;have v6:b.getD j 0+1-nx=0:=zne u1;unfold wkH workC at*;generalize(ivR (addPreI t (W.getD (h+i) []) (W.getD (h+j) []) k)).drop ((t+1)*2)=D at*;generalize hA:ivR (addPreI t (W.getD (h+i) []) (W.getD (h+j) []) k)=A at*;generalize(W.getD (h+i) []).getD t 0=x at*;generalize(ivR (W.getD (h+j) [])).drop ((t+1)*2)=Dj at*;generalize hAj:ivR (W.getD (h+j) [])=Aj at*;generalize(W.getD (h+j) []).getD t 0=y at*;generalize hA':ivR (addPreI (t+1) (W.getD (h+i) []) (W.getD (h+j) []) k)=A' at*;generalize hH:rowsH 68 (a++b++c) (rI ((W.set i (addI (W.getD i []) (W.getD j []) k)).set (h+i) (addPreI t (W.getD (h+i) []) (W.getD (h+j) []) k)))=H at*;generalize b.getD i 0=idk at*;generalize b.getD j 0=idj at*;unfold iv sv at c1 c2;unfold ivC sv at gd gs gdj;simp only[zl8,zl7]at gd gdj;have g2j:t*2<Aj.length:=by omega
      have g2:t*2<A.length:=by omega
      refine qWDf (Q2 (Q16 @q1 @ga @gb @gc @gi @gj @gR @gRj @gl @glj @gd @gdj @gs @g2 @g2j @hrs) (Q15 @hkl @z1 @z2 @z3 @z4 @z5 @z6 @y2 @y3 @y4 @y5 @u2 @u3 @u4 @u5)) ?_;refine hK2 _ (t+1) ?_ om om;exact qM
    ·have htw:t=h:=by omega
     have q1:=decide_eq_false (p:=(h:Int)<(h:Int)) om;rw[htw,addPreI_end hrl];unfold wkH workC;refine qWDf (Q7 @q1 @z1 @z2 @z3 @z4 @z5 @z6) ?_;have e3:colPre h i j k 0 ((W.set i (addI (W.getD i []) (W.getD j []) k)).set (h+i) (addI (W.getD (h+i) []) (W.getD (h+j) []) k))=(W.set i (addI (W.getD i []) (W.getD j []) k)).set (h+i) (addI (W.getD (h+i) []) (W.getD (h+j) []) k):=colPre_zero;have eA:addW h i j k W=colPre h i j k h ((W.set i (addI (W.getD i []) (W.getD j []) k)).set (h+i) (addI (W.getD (h+i) []) (W.getD (h+j) []) k)):=rfl;have hX2: ∀q,2*h<=q->q<3*h->((W.set i (addI (W.getD i []) (W.getD j []) k)).set (h+i) (addI (W.getD (h+i) []) (W.getD (h+j) []) k)).getD q []=W.getD q []:=by intro q h3 h4;rw[getD_set (by rw[List.length_set];omega),if_neg om,getD_set om,if_neg om]
     have hXl:((W.set i (addI (W.getD i []) (W.getD j []) k)).set (h+i) (addI (W.getD (h+i) []) (W.getD (h+j) []) k)).length=3*h:=by rw[List.length_set,List.length_set];exact hl
     rw[<-e3,eA];generalize(W.set i (addI (W.getD i []) (W.getD j []) k)).set (h+i) (addI (W.getD (h+i) []) (W.getD (h+j) []) k)=X at*;refine SC.loop (λt:Nat=>⟨[(0,.pt p 0),(1,.sc (.int .i64 i)),(2,.sc (.int .i64 j)),(7,.pt nx 0),(10,.sc (.int .i64 t))],(nx,⟨68,[.sc (.bool (decide (k<0))),.im (lv (limbsOf k.natAbs)) (limbsOf k.natAbs).length],false⟩)::wkH p oM oU oV h w a b c (colPre h i j k t X),nx+1,143⟩)
      (λt=>t<=h) (λt=>h-t) 0 ?_ ?_ ?_
     ·unfold wkH workC;exact qM
     ·exact znc _
     ·intro t ht K3 hK3;by_cases hc:t<h
      ·as_aux_lemma=>
        have q1:=decide_eq_true (p:=(t:Int)<(h:Int)) om;have hrl:(W.getD (2*h+t) []).length=h:=hW.rowU (2*h+t) om om;have hWl:(colPre h i j k t X).length=3*h:=by rw[colPre_len];exact hXl
        have gi:=slR_get (z:=2) (m:=h) (ids:=c) (k:=t) om;obtain⟨gR,y1,y2,y3,y4,y5⟩:=hI.rowF hWl (q:=2*h+t) om;rw[colPre_get om,if_neg om,hX2 _ om om]at gR;have c1:=mul_i k ((W.getD (2*h+t) []).getD i 0) (K+L) (hk.mono om) ((hW.fit (2*h+t) i).mono om) om;have c2:=sub_i ((W.getD (2*h+t) []).getD j 0) (k*(W.getD (2*h+t) []).getD i 0) (K+L) ((hW.fit (2*h+t) j).mono om) (fits_mulL (hW.fit (2*h+t) i) hk) om;have gl:=ivR_len (W.getD (2*h+t) []);rw[hrl]at gl;have gd:=ivR_drop (l:=W.getD (2*h+t) []) (i:=i) om;have gdj:=ivR_drop (l:=W.getD (2*h+t) []) (i:=j) om;have gs:=ivR_set (l:=W.getD (2*h+t) []) (i:=j) ((W.getD (2*h+t) []).getD j 0-k*(W.getD (2*h+t) []).getD i 0) om;have hrs:=hI.rset hWl (q:=2*h+t) om ((W.getD (2*h+t) []).set j ((W.getD (2*h+t) []).getD j 0-k*(W.getD (2*h+t) []).getD i 0));have hcs:=colPre_set (h:=h) (i:=i) (j:=j) (k:=k) (r:=t) (W:=X) om;rw[hX2 _ om om]at hcs;rw[hcs]at hrs;have hkl:=hI.kl (W:=colPre h i j k t X) (m:=nx+1) om;rw[hI.iV]at gR y1 y2 y3 y4 y5 hrs;have v5:c.getD t 0+1-nx=0:=zne y1;clear hcs;unfold wkH workC at*;generalize(ivR (W.getD (2*h+t) [])).drop ((i+1)*2)=Di at*;generalize(ivR (W.getD (2*h+t) [])).drop ((j+1)*2)=Dj at*;generalize hA:ivR (W.getD (2*h+t) [])=A at*;generalize hA':ivR ((W.getD (2*h+t) []).set j ((W.getD (2*h+t) []).getD j 0-k*(W.getD (2*h+t) []).getD i 0))=A' at*;generalize(W.getD (2*h+t) []).getD i 0=x at*;generalize(W.getD (2*h+t) []).getD j 0=y at*;generalize hH:rowsH 68 (a++b++c) (rI (colPre h i j k t X))=H at*;generalize c.getD t 0=idk at*;unfold iv sv at c1 c2;unfold ivC sv at gd gs gdj;simp only[zl8,zl7]at gd gdj;have g2:i*2<A.length:=by omega
        have g2j:j*2<A.length:=by omega
        refine qWDf (Q24 @q1 @ga @gb @gc @gi @gR @gl @gd @gdj @gs @g2 @g2j @hrs @hkl @z1 @z2 @z3 @z4 @z5 @z6 @y2 @y3 @y4 @y5) ?_;refine hK3 _ (t+1) ?_ om om;exact qM
      ·have htw:t=h:=by omega
       have q1:=decide_eq_false (p:=(h:Int)<(h:Int)) om;rw[htw];unfold wkH workC;refine qWDf (Q7 @q1 @z1 @z2 @z3 @z4 @z5 @z6) ?_;refine retIQ_normal (rs:=[]) (.tu []) (wkH p oM oU oV h w a b c (colPre h i j k h X)) nx Tryz.results67 rfl ⟨rfl,rfl,rfl⟩ ?_;refine Le.wkDown ⟨nx,hB,znb _⟩ hI (less_new (λid q hq=>hq) λid q hq=>Nat.ne_of_lt (wk_lt hI id q hq)) ?_;exact mapSl_cons rfl VMap.tu0 trivial
end
section
open Go.RowKit
def raiI(h w:Nat)(M:List (List Int))(u v:List Int):List (List Int):=mkM h w λr c=>ent2 M r c+u.getD r 0*v.getD c 0
def raiF(M:List (List Int))(u v:List Int)(i j:Nat):Nat->Nat->Int:=λr c=>if r<i\/(r=i/\c<j)then ent2 M r c+u.getD r 0*v.getD c 0 else ent2 M r c
set_option maxRecDepth 8000 in
theorem applyP_s{h w K:Nat}{M:List (List Int)}{u v:List Int}(hM:MI h w K M)(hK:K<=100000000000)(hn:h<=1000000)(hw:w<=1000000)(hu:u.length=h)(hv:v.length=w)(hfu: ∀x∈u,Fits K x)(hfv: ∀x∈v,Fits K x):
  Spec Tryz.prog 174 [.ag [.im (ivR u) u.length,.im (ivR v) v.length],mat w M] (mat w (raiI h w M u v)):=by
 have hl:=hM.len;have c1:=ucopied_q hM 3 hn hw;have gu:=ivR_len u;have gv:=ivR_len v;unfold mat at*;rw[hv]at gv⊢;rw[hu]at gu⊢;refine qF Tryz.func174 Tryz.ntmps174 λB hB=> ?_;refine qWD ?_;refine SO.inlQ qS Tab.go51 qS qS (SInlQ.newR c1 ?_ ?_ ?_);·exact klc om (klc om (klc om kln))
 ·exact λx hp' nx' h=>matQ_new h
 rintro x hp' q ⟨o,ids,hR,rfl,rfl⟩;have ho:=hR.o1;rw[hl]at hR⊢;refine qWD ?_;obtain⟨nx,hnx⟩: ∃nx,nx=q+1:=⟨_,rfl⟩
 rw[<-hnx];have hidl:=hR.len;have g1:=slR_len 2 w ids;rw[hidl]at g1;have e00:M=mkM h w (raiF M u v 0 0):=by rw[<-mkM_of hM];exact mkM_congr λr c hr hc=>by unfold raiF;rw[if_neg om];rw[mkM_of hM];rfl
 refine SC.loop (λi:Nat=>⟨[(2,.pt 0 0),(4,.pt 2 0),(5,.pt q 0),(12,.sl o 0 h 1 none),(13,.sc (.int .i64 h)),(14,.sc (.int .i64 i))],(q,⟨28,[.sc (.int .i64 h),.sc (.int .i64 w),.sl o 0 h 1 none],false⟩)::(2,⟨28,[.sc (.int .i64 0),.sc (.int .i64 0),.sc (.slice none 0 0)],false⟩)::(0,⟨99,[.im (ivR u) h,.im (ivR v) w],false⟩)::(o,⟨41,slR 2 w ids,false⟩)::rowsH 68 ids (rI (mkM h w (raiF M u v i 0))),nx,46⟩)
  (λi=>i<=h) (λi=>h-i) 0 ?_ ?_ ?_
 ·rw[<-e00];refine Le.slots (leSl_cons qS (VLe.refl rfl) (leSl_cons qS (VLe.refl rfl) (leSl_cons qS (VLe.refl rfl) (leSl_cons qS (VLe.refl rfl) (leSl_cons qS (VLe.refl rfl) (leSl_cons qS (VLe.refl rfl) leSl_nil)))))) (λid k hk=> ?_) (znb _);by_cases e:id=1
  ·subst e;simp only[hget]at hk;rw[if_neg om,if_neg om,if_neg om,if_neg om]at hk;obtain⟨j,j1,_,j3,_⟩:=rows_inv hk;have:=hR.lt _ (getD_mem' j1);omega
  ·simp only[hget]at hk⊢;rw[if_neg e];exact hk
 ·exact znc _
 ·intro i hi K2 hK2;by_cases hc:i<h
  ·have q1:=decide_eq_true (p:=(i:Int)<(h:Int)) om;have gi:=slR_get (z:=2) (m:=w) (ids:=ids) (k:=i) om;have hmem:=getD_mem' (ids:=ids) (k:=i) om;have hal:=hR.lt _ hmem;have hao:ids.getD i 0≠o:=λe=>hR.o2 (e▸hmem);have n5:(o=q)=False:=eq_false om;have n6:(o=2)=False:=eq_false om;have n7:(o=0)=False:=eq_false om;have gRl: ∀j:Nat,hget (rowsH 68 ids (rI (mkM h w (raiF M u v i j)))) (ids.getD i 0)=some ⟨68,ivR (mkR w (raiF M u v i j i)),false⟩:=λj=>by
    have gR:=rows_get (ty:=68) (rs:=rI (mkM h w (raiF M u v i j))) (k:=i) hR.nod om (by rw[rI_len,mkM_len];omega);rwa[rI_getD,mkM_get hc]at gR
   refine qWDf (Q6 @q1 @gi @g1 @n5 @n6 @n7) ?_;refine SC.loop (λj:Nat=>⟨[(2,.pt 0 0),(4,.pt 2 0),(5,.pt q 0),(12,.sl o 0 h 1 none),(13,.sc (.int .i64 h)),(14,.sc (.int .i64 i)),(6,.sc (.int .i64 i)),(7,.sl (ids.getD i 0) 0 w 2 none),(20,.sc (.int .i64 w)),(21,.sc (.int .i64 j))],(q,⟨28,[.sc (.int .i64 h),.sc (.int .i64 w),.sl o 0 h 1 none],false⟩)::(2,⟨28,[.sc (.int .i64 0),.sc (.int .i64 0),.sc (.slice none 0 0)],false⟩)::(0,⟨99,[.im (ivR u) h,.im (ivR v) w],false⟩)::(o,⟨41,slR 2 w ids,false⟩)::rowsH 68 ids (rI (mkM h w (raiF M u v i j))),nx,46⟩)
    (λj=>j<=w) (λj=>w-j) 0 ?_ ?_ ?_
   ·exact qM
   ·exact znc _
   ·intro j hj K3 hK3;by_cases hc2:j<w
    ·have q2:=decide_eq_true (p:=(j:Int)<(w:Int)) om;have hfx:=hM.fit hc hc2;have hux:=hfu _ (getD_mem (d:=0) (l:=u) (i:=i) om);have hvx:=hfv _ (getD_mem (d:=0) (l:=v) (i:=j) om);have c2:=pmul_i _ _ K hux hvx om;have c3:=padd_i _ _ (K+K) (hfx.mono om) (fits_mulK hvx hux) om;obtain⟨gR,gl,gd,gs,hrs⟩:=cellF (ty:=68) (f:=raiF M u v i j) (z:=(M.getD i []).getD j 0+u.getD i 0*v.getD j 0) hR.nod hidl hc hc2;have ef:raiF M u v i j i j=(M.getD i []).getD j 0:=by unfold raiF;rw[if_neg om];rfl
     have en:mkM h w (λr c=>if r=i/\c=j then(M.getD i []).getD j 0+u.getD i 0*v.getD j 0 else raiF M u v i j r c)=mkM h w (raiF M u v i (j+1)):=mkM_congr λr c _ _=>by
      unfold raiF;by_cases e:r=i/\c=j;·rw[if_pos e,if_pos om,e.1,e.2];rfl
      ·rw[if_neg e];by_cases e2:r<i\/r=i/\c<j;·rw[if_pos e2,if_pos om]
       ·rw[if_neg e2,if_neg om]
     rw[ef]at gd;rw[en]at hrs;have gud:=ivR_drop (l:=u) (i:=i) om;have gvd:=ivR_drop (l:=v) (i:=j) om;have gu2:i*2<(ivR u).length:=by omega
     have gv2:j*2<(ivR v).length:=by omega
     have hkl:=klB_rows (ty:=68) (ids:=ids) (rs:=rI (mkM h w (raiF M u v i j))) (n:=nx) (λj hj=>by have:=hR.lt j hj;omega);have n1:(ids.getD i 0=q)=False:=eq_false om;have n2:(ids.getD i 0=2)=False:=eq_false om;have n3:(ids.getD i 0=0)=False:=eq_false om;have n4:(ids.getD i 0=o)=False:=eq_false hao;have hd3:ids.getD i 0+1<=nx:=by omega
     generalize(ivR (mkR w (raiF M u v i j i))).drop ((j+1)*2)=D1 at*;generalize(ivR u).drop ((i+1)*2)=D2 at*;generalize(ivR v).drop ((j+1)*2)=D3 at*;generalize hA1:ivR (mkR w (raiF M u v i j i))=A1 at*;generalize hA2:ivR u=A2 at*;generalize hA3:ivR v=A3 at*;generalize hA4:ivR ((mkR w (raiF M u v i j i)).set j ((M.getD i []).getD j 0+u.getD i 0*v.getD j 0))=A4 at*;generalize(M.getD i []).getD j 0=x at*;generalize u.getD i 0=y at*;generalize v.getD j 0=z at*;generalize hH1:rowsH 68 ids (rI (mkM h w (raiF M u v i j)))=H1 at*;generalize hH2:rowsH 68 ids (rI (mkM h w (raiF M u v i (j+1))))=H2 at*;generalize ids.getD i 0=a at*;unfold iv sv at c2 c3;unfold ivC sv at gd gs gud gvd;simp only[zl8,zl7]at gd gud gvd;have g2:j*2<A1.length:=by omega
     have m1:(q<nx)=True:=eq_true om;have m2:(o<nx)=True:=eq_true om;have m4:(2<nx)=True:=eq_true om;have m5:(0<nx)=True:=eq_true om;have d2:q+1<=nx:=by omega
     have d4:3<=nx:=by omega
     have d5:1<=nx:=by omega
     refine qWDf (Q24 @q2 @gR @gl @gd @gs @g2 @gud @gvd @gu2 @gv2 @hrs @hkl @n1 @n2 @n3 @n4 @m1 @m2 @m4 @m5 @hd3 @d2 @d4 @d5) ?_;refine hK3 _ (j+1) ?_ om om;simp only[hH2];exact qM
    ·have q2:=decide_eq_false (p:=(j:Int)<(w:Int)) om;refine qWDf @q2 ?_;refine hK2 _ (i+1) ?_ om om;have en:mkM h w (raiF M u v i j)=mkM h w (raiF M u v (i+1) 0):=mkM_congr λr c _ hcw=>by
      unfold raiF;by_cases e2:r<i\/r=i/\c<j;·rw[if_pos e2,if_pos om]
      ·rw[if_neg e2,if_neg om]
     rw[en];exact qM
  ·have q1:=decide_eq_false (p:=(i:Int)<(h:Int)) om;have hin:i=h:=by omega
   have eE:mkM h w (raiF M u v i 0)=raiI h w M u v:=mkM_congr λr c hr _=>by unfold raiF;rw[if_pos om]
   have b1:(o=q)=False:=eq_false om;have b2:(o=2)=False:=eq_false om;have b3:(o=0)=False:=eq_false om;have b4:(q=2)=False:=eq_false om;have b5:(2=q)=False:=eq_false om;have hI:MI h w (K+K+1) (raiI h w M u v):=mk_mi λr c hr hcw=>fits_sum ((hM.fit hr hcw).mono om) (fits_mulK (hfv _ (getD_mem (d:=0) om)) (hfu _ (getD_mem (d:=0) om)));have hIl:=hI.len;rw[eE];by_cases h0:h=0
   ·subst h0;have hids:ids=[]:=List.eq_nil_of_length_eq_zero om;have hm0:raiI 0 w M u v=[]:=rfl;subst hids;rw[hm0];refine qWDf (Q4 @q1 @b1 @b4 @b5) ?_;exact retQ_ret Tryz.results174 qS (qSf (Q5 @b1 @b2 @b3 @b4 @b5)) rfl
   ·have hrows: ∀C:List V,∀k,k<ids.length->hget ((q,(⟨28,[.sc (.int .i64 h),.sc (.int .i64 w),.sl o 0 h 1 none],false⟩:Blk))::(2,⟨28,C,false⟩)::(0,⟨99,[.im (ivR u) h,.im (ivR v) w],false⟩)::(o,⟨41,slR 2 w ids,false⟩)::rowsH 68 ids (rI (raiI h w M u v))) (ids.getD k 0)=some ⟨68,(rI (raiI h w M u v)).getD k [],false⟩:=by
     intro C k hk;have hm:=getD_mem' hk;have:=hR.lt _ hm;simp only[hget];rw[if_neg om,if_neg om,if_neg om,if_neg (λe=>hR.o2 (by rw[<-e];exact hm))];exact rows_get hR.nod hk (by rw[rI_len];omega)
    have hfz:=λC:List V=>frz_rowsA (n:=5) (z:=2) (m:=w) (ty:=68) (ids:=ids) (rs:=rI (raiI h w M u v)) om (by rw[rI_len];omega) (hrows C) (rI_rows hI);have hsl:=slR_some (z:=2) (m:=w) (ids:=ids) om;have ht:(slR 2 w ids).take h=slR 2 w ids:=zla om;rw[hIl];refine qWDf (Q4 @q1 @b1 @b4 @b5) ?_;exact retQ_ret Tryz.results174 qS (qSf (Q9 @hfz @hsl @ht @g1 @b1 @b2 @b3 @b4 @b5)) rfl
end
section
open Go.RowKit
end
section
open Go.RowKit
theorem mul_mi{h n w K:Nat}{A C:List (List Int)}(hA:MI h n K A)(hC:MI n w K C)(hn:n<=1000000):MI h w (2*K+1) (mulM h n w A C):=
 mk_mi λ_ _ hr hc=>dot_fits hn λ_ ht=>⟨hA.fit hr ht,hC.fit ht hc⟩
theorem act_mul{h n w K:Nat}{A C:List (List Int)}(hA:MI h n K A)(hC:MI n w K C)(hn:n<=1000000){o:OpL}(ho:OkOp h o):actO (mulM h n w A C) o=mulM h n w (actO A o) C:=by
 have hA':=hA.act ho;have hC':=hC.mono ((show K<=K+OL+1 by omega));have hM:=mul_mi hA hC hn;refine mat_ent (hM.act ho) (mul_mi hA' hC' hn) λr c hr hc=> ?_;rw[act_ent hM ho hr hc];have hi:=ho.i;unfold mulM;rw[ent_mk hr hc,ent_mk hr hc];have e: ∀t,t<n->ent2 (actO A o) r t=_:=λt ht=>act_ent hA ho hr ht;by_cases h1:o.kd=1
 ·have hj:o.j<h:=by rcases ho.c with⟨_,hj,_⟩|⟨e,_⟩|⟨e,_⟩<;>omega
  rw[if_pos h1];rw[ent_mk hi hc,ent_mk hj hc];by_cases a:r=o.j
  ·rw[if_pos a];exact dot_congr λt ht=>⟨by rw[e t ht,if_pos h1,if_pos a],rfl⟩
  ·rw[if_neg a];by_cases b:r=o.i
   ·rw[if_pos b];exact dot_congr λt ht=>⟨by rw[e t ht,if_pos h1,if_neg a,if_pos b],rfl⟩
   ·rw[if_neg b];exact dot_congr λt ht=>⟨by rw[e t ht,if_pos h1,if_neg a,if_neg b],rfl⟩
 ·rw[if_neg h1];by_cases h2:o.kd=2
  ·rw[if_pos h2];by_cases b:r=o.i
   ·rw[if_pos b,<-dot_neg];exact dot_congr λt ht=>⟨by rw[e t ht,if_neg h1,if_pos h2,if_pos b],rfl⟩
   ·rw[if_neg b];exact dot_congr λt ht=>⟨by rw[e t ht,if_neg h1,if_pos h2,if_neg b],rfl⟩
  ·have hj:o.j<h:=by rcases ho.c with⟨e,_⟩|⟨e,_⟩|⟨_,hj,_⟩<;>omega
   rw[if_neg h2];by_cases b:r=o.i
   ·rw[if_pos b,ent_mk hj hc,<-dot_add];exact dot_congr λt ht=>⟨by rw[e t ht,if_neg h1,if_neg h2,if_pos b],rfl⟩
   ·rw[if_neg b];exact dot_congr λt ht=>⟨by rw[e t ht,if_neg h1,if_neg h2,if_neg b],rfl⟩
theorem acts_mul{h n w:Nat}(hn:n<=1000000): ∀{l:List OpL} {K:Nat} {A C:List (List Int)},MI h n K A->MI n w K C->(∀o∈l,OkOp h o)->actsO (mulM h n w A C) l=mulM h n w (actsO A l) C
 |[],_,_,_,_,_,_=>rfl
 |o::l,K,A,C,hA,hC,hl=>by rw[actsO,actsO,act_mul hA hC hn (hl o (by simp))];exact acts_mul hn (hA.act (hl o (by simp))) (hC.mono ((show K<=K+OL+1 by omega))) λp hp=>hl p (by simp[hp])
theorem id_mul{h w K:Nat}{A:List (List Int)}(hA:MI h w K A):mulM h h w (idL h) A=A:=by rw[<-mkM_of hA];unfold mulM;refine mkM_congr λr c hr hc=> ?_;rw[dot_congr (f':=λt=>if r=t then 1 else 0) (g':=λt=>ent2 A t c) λt ht=>⟨by unfold idL;rw[ent_mk hr ht],by unfold ent2;rw[mkM_of hA]⟩,dot_unit,if_pos hr];rfl
theorem act_inv{h w K:Nat}{M:List (List Int)}(hM:MI h w K M){o:OpL}(ho:OkOp h o):actO (actO M o) (invO o)=M/\actO (actO M (invO o)) o=M:=by
 have hi:=ho.i;have ho':=invO_ok ho;have key: ∀o,OkOp h o->actO (actO M o) (invO o)=M:=by
  intro o ho;have ho':=invO_ok ho;have hM1:=hM.act ho;refine mat_ent (hM1.act ho') hM λr c hr hc=> ?_;rw[act_ent hM1 ho' hr hc];show(if o.kd=1 then(if r=o.j then ent2 (actO M o) o.i c else if r=o.i then ent2 (actO M o) o.j c else ent2 (actO M o) r c)else if o.kd=2 then(if r=o.i then-(ent2 (actO M o) r c)else ent2 (actO M o) r c)else(if r=o.i then ent2 (actO M o) r c+(-o.k)*ent2 (actO M o) o.j c else ent2 (actO M o) r c))=_;rw[act_ent hM ho hr hc,act_ent hM ho ho.i hc];by_cases h1:o.kd=1
  ·obtain⟨hj,hij⟩:o.j<h/\o.i≠o.j:=by rcases ho.c with⟨_,hj,hij,_⟩|⟨e,_⟩|⟨e,_⟩<;>first|exact⟨hj,hij⟩|omega
   rw[act_ent hM ho hj hc];simp only[h1,if_true,if_neg hij];by_cases a:r=o.j;·subst a;simp
   ·by_cases b:r=o.i;·subst b;simp[hij]
    ·simp[a,b]
  ·by_cases h2:o.kd=2
   ·simp only[h2];by_cases b:r=o.i;·simp[b]
    ·simp[b]
   ·obtain⟨hj,hij⟩:o.j<h/\o.i≠o.j:=by rcases ho.c with⟨e,_⟩|⟨e,_⟩|⟨_,hj,hij⟩<;>first|exact⟨hj,hij⟩|omega
    rw[act_ent hM ho hj hc];simp only[if_neg h1,if_neg h2,if_neg (Ne.symm hij)];by_cases b:r=o.i;·simp only[if_pos b];rw[Int.neg_mul];omega
    ·simp only[if_neg b]
 refine⟨key o ho,?_⟩;have:=key (invO o) ho';rwa[show invO (invO o)=o by obtain⟨a,b,c,d⟩:=o;simp[invO]]at this
theorem actsO_app: ∀(a b:List OpL) (M:List (List Int)),actsO M (a++b)=actsO (actsO M a) b
 |[],_,_=>rfl
 |o::a,b,M=>by rw[zl8,actsO,actsO,actsO_app a b]
theorem acts_mi{h w:Nat}: ∀{l:List OpL} {K:Nat} {M:List (List Int)},MI h w K M->(∀o∈l,OkOp h o)->MI h w (K+(OL+1)*l.length) (actsO M l)
 |[],_,_,hM,_=>hM
 |o::l,K,M,hM,hl=>by rw[actsO];exact(acts_mi (hM.act (hl o (by simp))) λp hp=>hl p (by simp[hp])).mono (by rw[List.length_cons,Nat.mul_succ];omega)
theorem invL_cons(o:OpL)(l:List OpL):invL (o::l)=invL l++ [invO o]:=by simp[invL]
theorem acts_inv{h w:Nat}: ∀{l:List OpL} {K:Nat} {M:List (List Int)},MI h w K M->(∀o∈l,OkOp h o)->actsO (actsO M l) (invL l)=M/\actsO (actsO M (invL l)) l=M
 |[],_,_,_,_=>⟨rfl,rfl⟩
 | o::l,K,M,hM,hl=>by
  have ho:=hl o (by simp);have hl': ∀p∈l,OkOp h p:=λp hp=>hl p (by simp[hp]);constructor
  ·rw[actsO,invL_cons,actsO_app,(acts_inv (hM.act ho) hl').1];exact(act_inv hM ho).1
  ·rw[invL_cons,actsO_app,actsO];show actsO (actO (actO (actsO M (invL l)) (invO o)) o) l=M;rw[(act_inv (acts_mi hM (invL_ok hl')) ho).2];exact(acts_inv hM hl').2
end
section
open Go.RowKit
def bv8(l:List Int):List V:=l.map λn=> .sc (.int .i8 n)
theorem bv8_len(l:List Int):(bv8 l).length=l.length:=by simp[bv8]
theorem bv8_get{r:List Int}{j:Nat}(h:j<r.length):(bv8 r)[j]? =some (.sc (.int .i8 (r.getD j 0))):=by unfold bv8;rw[List.getElem?_map,getD_get' (d:=0) h];rfl
def dgt(l:List Int)(k:Nat):Int:=if k<l.length then(l.getD k 0).tmod 10 else 0
theorem dgt_small{l:List Int}{k:Nat}(h: ∀x∈l,-128<=x/\x<=127): -9<=dgt l k/\dgt l k<=9:=by
 unfold dgt;split
 ·rename_i hc;have hx:=h _ (getD_mem (d:=0) hc);generalize l.getD k 0=x at*;have:=Int.tmod_def x 10;have h1:=Int.tmod_lt_of_pos x (b:=10) om;have h2:=Int.lt_tmod_of_pos x (b:=10) om;omega
 ·omega
def Gf(w:Nat)(l:List Int)(i j r c:Nat):Int:=if r<i\/(r=i/\c<j)then dgt l (r*w+c)else 0
def filL(h w:Nat)(l:List Int):List (List Int):=mkM h w λr c=>dgt l (r*w+c)
set_option maxRecDepth 8000 in
theorem filled_s{h w:Nat}{l:List Int}(hn:h<=16)(hw:w<=16)(hb: ∀x∈l,-128<=x/\x<=127)(hl:l.length<=9223372036854775807):
  Spec Tryz.prog 45 [.sc (.int .i64 h),.sc (.int .i64 w),.im (bv8 l) l.length] (mat w (filL h w l)):=by
 have c0:=rnew_s h w 1 om om;have hm1:max (h:Int) 0=h:=by omega
 have hm2:max (w:Int) 0=w:=by omega
 have hm3:min (h:Int) 16=h:=by omega
 have hm4:min (w:Int) 16=w:=by omega
 refine qF Tryz.func45 Tryz.ntmps45 λB hB=> ?_;refine qWDf (Q4 @hm1 @hm2 @hm3 @hm4) ?_;refine SO.inlQ qS Tab.go75 qS qS (SInlQ.newR c0 ?_ ?_ ?_);·exact klc om kln
 ·exact λx hp' nx' h=>matQ_new h
 rintro x hp' nx ⟨o,ids,hR,rfl,rfl⟩;have ho:=hR.o1;rw[zeroL_len]at hR⊢;have e0:zeroL h w=mkM h w (Gf w l 0 0):=by
  rw[mkM_zero];exact mkM_congr λr c _ _=>by unfold Gf;rw[if_neg om]
 rw[e0];have hidl:=hR.len;have g1:=slR_len 2 w ids;rw[hidl]at g1;refine qWD ?_;refine SC.loop (λi:Nat=>⟨[(2,.im (bv8 l) l.length),(6,.pt 0 0),(7,.pt nx 0),(8,.sc (.int .i64 i))],(nx,⟨28,[.sc (.int .i64 h),.sc (.int .i64 w),.sl o 0 h 1 none],false⟩)::(0,⟨28,[.sc (.int .i64 0),.sc (.int .i64 0),.sc (.slice none 0 0)],false⟩)::(o,⟨41,slR 2 w ids,false⟩)::rowsH 68 ids (rI (mkM h w (Gf w l i 0))),nx+1,60⟩)
  (λi=>i<=h) (λi=>h-i) 0 ?_ ?_ ?_
 ·exact qM
 ·exact znc _
 ·intro i hi K1 hK1;by_cases hc:i<h
  ·have q1:=decide_eq_true (p:=(i:Int)<(h:Int)) om;refine qWDf @q1 ?_;refine SC.loop (λj:Nat=>⟨[(2,.im (bv8 l) l.length),(6,.pt 0 0),(7,.pt nx 0),(8,.sc (.int .i64 i)),(9,.sc (.int .i64 j))],(nx,⟨28,[.sc (.int .i64 h),.sc (.int .i64 w),.sl o 0 h 1 none],false⟩)::(0,⟨28,[.sc (.int .i64 0),.sc (.int .i64 0),.sc (.slice none 0 0)],false⟩)::(o,⟨41,slR 2 w ids,false⟩)::rowsH 68 ids (rI (mkM h w (Gf w l i j))),nx+1,60⟩)
    (λj=>j<=w) (λj=>w-j) 0 ?_ ?_ ?_
   ·exact qM
   ·exact znc _
   ·intro j hj K2 hK2;have hiw:i*w<=16*16:=Nat.mul_le_mul om hw;have hww:(i:Int)*(w:Int)=((i*w:Nat):Int):=by simp
    by_cases hc2:j<w
    ·have q2:=decide_eq_true (p:=(j:Int)<(w:Int)) om;have gl:=bv8_len l;by_cases hc3:i*w+j<l.length
     ·have q3:=decide_eq_true (p:=((i*w:Nat):Int)+(j:Int)<(l.length:Int)) om;have gi:=slR_get (z:=2) (m:=w) (ids:=ids) (k:=i) om;obtain⟨gR,gl2,gd,gs,hrs⟩:=cellF (ty:=68) (f:=Gf w l i j) (z:=dgt l (i*w+j)) (j:=j) hR.nod hidl hc hc2;have e1:(mkM h w λr c=>if r=i/\c=j then dgt l (i*w+j)else Gf w l i j r c)=mkM h w (Gf w l i (j+1)):=mkM_congr λr c _ _=>by
       unfold Gf;by_cases e:r=i/\c=j
       ·obtain⟨rfl,rfl⟩:=e;rw[if_pos ⟨rfl,rfl⟩,if_pos om]
       ·rw[if_neg e];by_cases e2:r<i\/(r=i/\c<j);·rw[if_pos e2,if_pos om]
        ·rw[if_neg e2,if_neg om]
      rw[e1]at hrs;have hd:=dgt_small (k:=i*w+j) hb;have c1:=of_i (dgt l (i*w+j)) om om;have ed:dgt l (i*w+j)=(l.getD (i*w+j) 0).tmod 10:=by unfold dgt;rw[if_pos hc3]
      rw[ed]at c1 gs hrs;have g3:=bv8_get hc3;have hx:=hb _ (getD_mem (d:=0) hc3);have hkl:=klB_rows (ty:=68) (rs:=rI (mkM h w (Gf w l i j))) (n:=nx+1) (λj hj=>by have:=hR.lt j hj;omega);have hmem:=getD_mem' (ids:=ids) (k:=i) om;have hidk:=hR.lt _ hmem;have hne:ids.getD i 0≠o:=λe=>hR.o2 (by rw[<-e];exact hmem);have hix:(((i*w:Nat):Int)+(j:Int)).toNat=i*w+j:=by omega
      generalize hH:rowsH 68 ids (rI (mkM h w (Gf w l i j)))=H at*;generalize mkR w (Gf w l i j i)=row at*;generalize ids.getD i 0=idk at*;generalize hRr:ivR row=RR at*;generalize l.getD (i*w+j) 0=dd at*;unfold iv sv at c1;unfold ivC sv at gs;have g2:j*2<RR.length:=by omega
      refine qWDf (Q15 @q2 @q3 @hww @hix @g1 @gi @gR @gl @gl2 @gs @hrs @g2 @g3 @hkl @gD) ?_;refine hK2 _ (j+1) ?_ om om;exact qM
     ·have q3:=decide_eq_false (p:=((i*w:Nat):Int)+(j:Int)<(l.length:Int)) om;refine qWDf (Q4 @q2 @q3 @hww @gl) ?_;refine hK1 _ (i+1) ?_ om om;have e1:mkM h w (Gf w l i j)=mkM h w (Gf w l (i+1) 0):=mkM_congr λr c _ hcw=>by
       unfold Gf;by_cases e:r<i\/(r=i/\c<j);·rw[if_pos e,if_pos om]
       ·rw[if_neg e];by_cases e2:r=i
        ·subst e2;rw[if_pos om];unfold dgt;rw[if_neg om]
        ·rw[if_neg om]
      rw[e1];exact qM
    ·have q2:=decide_eq_false (p:=(j:Int)<(w:Int)) om;have hjw:j=w:=by omega
     refine qWDf @q2 ?_;refine hK1 _ (i+1) ?_ om om;have e1:mkM h w (Gf w l i j)=mkM h w (Gf w l (i+1) 0):=mkM_congr λr c _ hcw=>by
      unfold Gf;by_cases e:r<i\/(r=i/\c<j);·rw[if_pos e,if_pos om]
      ·rw[if_neg e];by_cases e2:r=i
       ·subst e2;rw[if_pos om];unfold dgt;rw[if_neg om]
       ·rw[if_neg om]
     rw[e1];exact qM
  ·have q1:=decide_eq_false (p:=(i:Int)<(h:Int)) om;have hih:i=h:=by omega
   subst hih;have e1:mkM i w (Gf w l i 0)=filL i w l:=mkM_congr λr c hr _=>by unfold Gf;rw[if_pos (.inl hr)]
   rw[e1];have hM:MI i w 1 (filL i w l):=mk_mi λr c _ _=>by have:=dgt_small (k:=r*w+c) hb;unfold Fits;omega
   generalize filL i w l=Z at*;have hZl:=hM.len;by_cases h0:i=0
   ·subst h0;have hids:ids=[]:=List.eq_nil_of_length_eq_zero om;have hZ:Z=[]:=List.eq_nil_of_length_eq_zero om;subst hids;subst hZ;refine qWDf @q1 ?_;exact qE Tryz.results45
   ·have hrows: ∀C1 C2:List V,∀k,k<ids.length->hget ((nx,(⟨28,C1,false⟩:Blk))::(0,⟨28,C2,false⟩)::(o,⟨41,slR 2 w ids,false⟩)::rowsH 68 ids (rI Z)) (ids.getD k 0)=some ⟨68,(rI Z).getD k [],false⟩:=by
     intro C1 C2 k hk;have hm:=getD_mem' hk;have:=hR.lt _ hm;simp only[hget];rw[if_neg om,if_neg om,if_neg (λe=>hR.o2 (by rw[<-e];exact hm))];exact rows_get hR.nod hk (by rw[rI_len];omega)
    have hfz:=λC1 C2:List V=>frz_rowsA (n:=5) (z:=2) (m:=w) (ty:=68) (ids:=ids) (rs:=rI Z) om (by rw[rI_len];omega) (hrows C1 C2) (rI_rows hM);have hsl:=slR_some (z:=2) (m:=w) (ids:=ids) om;have ht:(slR 2 w ids).take i=slR 2 w ids:=zla om;have hne:nx≠o:=by omega
    unfold mat;rw[hZl];refine qWDf @q1 ?_;exact retQ_ret Tryz.results45 qS (qSf (Q4 @hfz @hsl @ht @g1)) rfl
end
section
open Go.RowKit
theorem rmade_s{a b:Nat}{l:List Int}(ha:a<256)(hb:b<256)(hx: ∀x∈l,-128<=x/\x<=127)(hl:l.length<=9223372036854775807):
  Spec Tryz.prog 13 [.ag [.sc (.int .u8 a),.sc (.int .u8 b),.im (bv8 l) l.length]] (mat (b % 5) (filL (a % 5) (b % 5) l)):=by
 have c1:=filled_s (h:=a % 5) (w:=b % 5) (l:=l) om om hx hl;have r1:(a:Int).tmod 5=((a % 5:Nat):Int):=by rw[Int.tmod_eq_emod_of_nonneg om];simp
 have r2:(b:Int).tmod 5=((b % 5:Nat):Int):=by rw[Int.tmod_eq_emod_of_nonneg om];simp
 generalize filL (a % 5) (b % 5) l=F at*;unfold mat at*;refine qF Tryz.func13 Tryz.ntmps13 λB hB=> ?_;refine qWf (Q2 @r1 @r2) ?_;exact qE Tryz.results13
end
section
open Go.RowKit
def colNeg(h i r:Nat)(W:List (List Int)):List (List Int):=W.mapIdx λq row=>if 2*h<=q/\q<2*h+r then row.set i (-(row.getD i 0))else row
theorem colNeg_len{h i r:Nat}{W:List (List Int)}:(colNeg h i r W).length=W.length:=by simp[colNeg]
theorem colNeg_get{h i r q:Nat}{W:List (List Int)}(hq:q<W.length):(colNeg h i r W).getD q []=if 2*h<=q/\q<2*h+r then(W.getD q []).set i (-((W.getD q []).getD i 0))else W.getD q []:=by unfold colNeg;rw[List.getD_eq_getElem?_getD,List.getElem?_mapIdx,getD_get' (d:=[]) hq];rfl
theorem colNeg_zero{h i:Nat}{W:List (List Int)}:colNeg h i 0 W=W:=rows_ext colNeg_len λq hq=>by rw[colNeg_len]at hq;rw[colNeg_get hq,if_neg om]
theorem colNeg_set{h i r:Nat}{W:List (List Int)}(hr:2*h+r<W.length):(colNeg h i r W).set (2*h+r) ((W.getD (2*h+r) []).set i (-((W.getD (2*h+r) []).getD i 0)))=colNeg h i (r+1) W:=by
 refine rows_ext (by rw[List.length_set,colNeg_len,colNeg_len]) λq hq=> ?_;rw[List.length_set,colNeg_len]at hq;rw[getD_set (by rw[colNeg_len];exact hr),colNeg_get hq,colNeg_get hq];by_cases e:q=2*h+r;·rw[if_pos e,if_pos om,e]
 ·rw[if_neg e];by_cases e2:2*h<=q/\q<2*h+r;·rw[if_pos e2,if_pos om]
  ·rw[if_neg e2,if_neg om]
def negW(h i:Nat)(W:List (List Int)):List (List Int):=
 colNeg h i h ((W.set i (negI (W.getD i []))).set (h+i) (negI (W.getD (h+i) [])))
theorem negW_wi{h w K i:Nat}{W:List (List Int)}(hW:WI h w K W)(hi:i<h):WI h w K (negW h i W):=by
 have hl:=hW.len;have key: ∀q,∀t,Fits K ((negI (W.getD q [])).getD t 0):=by
  intro q t;by_cases ht:t<(W.getD q []).length;·rw[negI_get ht];exact fits_neg (hW.fit q t)
  ·rw[List.getD_eq_getElem?_getD,List.getElem?_eq_none (by rw[negI_len];omega)];exact fits0
 have h1:=hW.set (q:=i) (r:=negI (W.getD i [])) om (by rw[negI_len]) (key i);have h2:=h1.set (q:=h+i) (r:=negI (W.getD (h+i) [])) om (by rw[negI_len,getD_set om,if_neg om]) (key (h+i));unfold negW;generalize hX:(W.set i (negI (W.getD i []))).set (h+i) (negI (W.getD (h+i) []))=X at*;have hX2: ∀q,2*h<=q->q<3*h->X.getD q []=W.getD q []:=by intro q h3 h4;rw[<-hX,getD_set (by rw[List.length_set];omega),if_neg om,getD_set om,if_neg om]
 have hxl:=h2.len;refine⟨by rw[colNeg_len];exact hxl,λq hq=> ?_,λq h3 h4=> ?_,λq t=> ?_⟩;·rw[colNeg_get om,if_neg om];exact h2.rowM q hq
 ·rw[colNeg_get om];split;·rw[List.length_set];exact h2.rowU q h3 h4
  ·exact h2.rowU q h3 h4
 ·by_cases hq:q<3*h
  ·rw[colNeg_get om];split
   ·rename_i hc;rw[hX2 q om hq];have hrl:=hW.rowU q om hq;rw[getD_set om];split;·exact fits_neg (hW.fit q i)
    ·exact hW.fit q t
   ·exact h2.fit q t
  ·rw[List.getD_eq_getElem?_getD (l:=colNeg _ _ _ _),List.getElem?_eq_none (by rw[colNeg_len];omega)];exact fits0
set_option maxRecDepth 8000 in
theorem negate_q{h w K p oM oU oV nx i:Nat}{a b c:List Nat}{W:List (List Int)}(hW:WI h w K W)(hK:K<=100000000000)(hI:WIds p oM oU oV a b c h nx)(hi:i<h)(hn:h<=1000000)(hw:w<=1000000):
  InlQ Tryz.prog 66 [.pt p 0,.sc (.int .i64 i)] (wkH p oM oU oV h w a b c W) nx (λx hp' nx'=>x= .tu []/\nx'=nx/\hp'=wkH p oM oU oV h w a b c (negW h i W)):=by
 have hl:=hW.len;obtain⟨l1,l2,l3,l4⟩:=hI.lts;have v1:p+1-nx=0:=by omega
 have v2:oM+1-nx=0:=by omega
 have v3:oU+1-nx=0:=by omega
 have v4:oV+1-nx=0:=by omega
 obtain⟨z1,z2,z3,z4,z5,z6⟩:=hI.nes;have la:=hI.la;have lb:=hI.lb;have lc:=hI.lc;have ga:=slR_len 2 w a;have gb:=slR_len 2 h b;have gc:=slR_len 2 h c;rw[la]at ga;rw[lb]at gb;rw[lc]at gc;refine InlQ.run Tryz.func66 rfl Tryz.ntmps66 (by simp) (by unfold wkH workC;simp(disch:=omega) only[go_sem,↓reduceIte,zn1,zn2,zn3,zn4,zn5,zn6,reduceCtorEq,zn7,zi1,zi2,if_pos,if_neg,Int.reduceAdd];rfl) λB hB=> ?_;refine qWD ?_;have e1:(W).set (i) (negPre 0 (W.getD (i) []))=W:=by rw[negPre_zero];have:=setI_self (M:=W) (i:=i) om;exact this
 refine SC.loop (λt:Nat=>⟨[(0,.pt p 0),(1,.sc (.int .i64 i)),(4,.sc (.int .i64 t))],wkH p oM oU oV h w a b c ((W).set (i) (negPre t (W.getD (i) []))),nx,100⟩)
  (λt=>t<=w) (λt=>w-t) 0 ?_ ?_ ?_
 ·rw[e1];unfold wkH workC;exact qM
 ·exact znc _
 ·intro t ht K2 hK2;have hrl:(W.getD (i) []).length=w:=hW.rowM i hi;by_cases hc:t<w
  ·as_aux_lemma=>
    have q1:=decide_eq_true (p:=(t:Int)<(w:Int)) om;have hWl:((W).set (i) (negPre t (W.getD (i) []))).length=3*h:=by rw[List.length_set];exact hl
    have gi:=slR_get (z:=2) (m:=w) (ids:=a) (k:=i) om;obtain⟨gR,y1,y2,y3,y4,y5⟩:=hI.rowF hWl (q:=i) om;rw[getD_set om,if_pos rfl]at gR;have c1:=neg_i ((W.getD (i) []).getD t 0) K (hW.fit (i) t) om;have gl:=ivR_len (negPre t (W.getD (i) []));rw[negPre_len,hrl]at gl;have gd:=ivR_drop (l:=negPre t (W.getD (i) [])) (i:=t) (by rw[negPre_len];omega);rw[negPre_get om,if_neg om]at gd;have gs:=ivR_set (l:=negPre t (W.getD (i) [])) (i:=t) (-((W.getD (i) []).getD t 0)) (by rw[negPre_len];omega);rw[negPre_set om]at gs;have hrs:=hI.rset hWl (q:=i) om (negPre (t+1) (W.getD (i) []));rw[List.set_set]at hrs;have hkl:=hI.kl (W:=(W).set (i) (negPre t (W.getD (i) []))) (m:=nx) om;rw[hI.iM hi]at gR y1 y2 y3 y4 y5 hrs;have v5:a.getD i 0+1-nx=0:=zne y1;unfold wkH workC at*;generalize(ivR (negPre t (W.getD (i) []))).drop ((t+1)*2)=D at*;generalize hA:ivR (negPre t (W.getD (i) []))=A at*;generalize(W.getD (i) []).getD t 0=x at*;generalize hA':ivR (negPre (t+1) (W.getD (i) []))=A' at*;generalize hH:rowsH 68 (a++b++c) (rI ((W).set (i) (negPre t (W.getD (i) []))))=H at*;generalize a.getD i 0=idk at*;unfold iv sv at c1;unfold ivC sv at gd gs;simp only[zl8,zl7]at gd;have g2:t*2<A.length:=by omega
    refine qWDf (Q22 @q1 @ga @gb @gc @gi @gR @gl @gd @gs @g2 @hrs @hkl @z1 @z2 @z3 @z4 @z5 @z6 @y2 @y3 @y4 @y5) ?_;refine hK2 _ (t+1) ?_ om om;exact qM
  ·have htw:t=w:=by omega
   have q1:=decide_eq_false (p:=(w:Int)<(w:Int)) om;rw[htw,negPre_end hrl];unfold wkH workC;refine qWDf (Q7 @q1 @z1 @z2 @z3 @z4 @z5 @z6) ?_;have e2:(W.set i (negI (W.getD i []))).set (h+i) (negPre 0 (W.getD (h+i) []))=W.set i (negI (W.getD i [])):=by rw[negPre_zero];have:=setI_self (M:=W.set i (negI (W.getD i []))) (i:=h+i) (by rw[List.length_set];omega);rwa[getD_set om,if_neg om]at this
   refine SC.loop (λt:Nat=>⟨[(0,.pt p 0),(1,.sc (.int .i64 i)),(5,.sc (.int .i64 t))],wkH p oM oU oV h w a b c ((W.set i (negI (W.getD i []))).set (h+i) (negPre t (W.getD (h+i) []))),nx,100⟩)
    (λt=>t<=h) (λt=>h-t) 0 ?_ ?_ ?_
   ·rw[e2];unfold wkH workC;exact qM
   ·exact znc _
   ·intro t ht K2 hK2;have hrl:(W.getD (h+i) []).length=h:=hW.rowU (h+i) om om;by_cases hc:t<h
    ·as_aux_lemma=>
      have q1:=decide_eq_true (p:=(t:Int)<(h:Int)) om;have hWl:((W.set i (negI (W.getD i []))).set (h+i) (negPre t (W.getD (h+i) []))).length=3*h:=by rw[List.length_set,List.length_set];exact hl
      have gi:=slR_get (z:=2) (m:=h) (ids:=b) (k:=i) om;obtain⟨gR,y1,y2,y3,y4,y5⟩:=hI.rowF hWl (q:=h+i) om;rw[getD_set (by rw[List.length_set];omega),if_pos rfl]at gR;have c1:=neg_i ((W.getD (h+i) []).getD t 0) K (hW.fit (h+i) t) om;have gl:=ivR_len (negPre t (W.getD (h+i) []));rw[negPre_len,hrl]at gl;have gd:=ivR_drop (l:=negPre t (W.getD (h+i) [])) (i:=t) (by rw[negPre_len];omega);rw[negPre_get om,if_neg om]at gd;have gs:=ivR_set (l:=negPre t (W.getD (h+i) [])) (i:=t) (-((W.getD (h+i) []).getD t 0)) (by rw[negPre_len];omega);rw[negPre_set om]at gs;have hrs:=hI.rset hWl (q:=h+i) om (negPre (t+1) (W.getD (h+i) []));rw[List.set_set]at hrs;have hkl:=hI.kl (W:=(W.set i (negI (W.getD i []))).set (h+i) (negPre t (W.getD (h+i) []))) (m:=nx) om;rw[hI.iU hi]at gR y1 y2 y3 y4 y5 hrs;have v5:b.getD i 0+1-nx=0:=zne y1;unfold wkH workC at*;generalize(ivR (negPre t (W.getD (h+i) []))).drop ((t+1)*2)=D at*;generalize hA:ivR (negPre t (W.getD (h+i) []))=A at*;generalize(W.getD (h+i) []).getD t 0=x at*;generalize hA':ivR (negPre (t+1) (W.getD (h+i) []))=A' at*;generalize hH:rowsH 68 (a++b++c) (rI ((W.set i (negI (W.getD i []))).set (h+i) (negPre t (W.getD (h+i) []))))=H at*;generalize b.getD i 0=idk at*;unfold iv sv at c1;unfold ivC sv at gd gs;simp only[zl8,zl7]at gd;have g2:t*2<A.length:=by omega
      refine qWDf (Q22 @q1 @ga @gb @gc @gi @gR @gl @gd @gs @g2 @hrs @hkl @z1 @z2 @z3 @z4 @z5 @z6 @y2 @y3 @y4 @y5) ?_;refine hK2 _ (t+1) ?_ om om;exact qM
    ·have htw:t=h:=by omega
     have q1:=decide_eq_false (p:=(h:Int)<(h:Int)) om;rw[htw,negPre_end hrl];unfold wkH workC;refine qWDf (Q7 @q1 @z1 @z2 @z3 @z4 @z5 @z6) ?_;have e3:colNeg h i 0 ((W.set i (negI (W.getD i []))).set (h+i) (negI (W.getD (h+i) [])))=(W.set i (negI (W.getD i []))).set (h+i) (negI (W.getD (h+i) [])):=colNeg_zero;have eA:negW h i W=colNeg h i h ((W.set i (negI (W.getD i []))).set (h+i) (negI (W.getD (h+i) []))):=rfl;have hX2: ∀q,2*h<=q->q<3*h->((W.set i (negI (W.getD i []))).set (h+i) (negI (W.getD (h+i) []))).getD q []=W.getD q []:=by intro q h3 h4;rw[getD_set (by rw[List.length_set];omega),if_neg om,getD_set om,if_neg om]
     have hXl:((W.set i (negI (W.getD i []))).set (h+i) (negI (W.getD (h+i) []))).length=3*h:=by rw[List.length_set,List.length_set];exact hl
     rw[<-e3,eA];generalize(W.set i (negI (W.getD i []))).set (h+i) (negI (W.getD (h+i) []))=X at*;refine SC.loop (λt:Nat=>⟨[(0,.pt p 0),(1,.sc (.int .i64 i)),(6,.sc (.int .i64 t))],wkH p oM oU oV h w a b c (colNeg h i t X),nx,100⟩)
      (λt=>t<=h) (λt=>h-t) 0 ?_ ?_ ?_
     ·unfold wkH workC;exact qM
     ·exact znc _
     ·intro t ht K3 hK3;by_cases hc:t<h
      ·as_aux_lemma=>
        have q1:=decide_eq_true (p:=(t:Int)<(h:Int)) om;have hrl:(W.getD (2*h+t) []).length=h:=hW.rowU (2*h+t) om om;have hWl:(colNeg h i t X).length=3*h:=by rw[colNeg_len];exact hXl
        have gi:=slR_get (z:=2) (m:=h) (ids:=c) (k:=t) om;obtain⟨gR,y1,y2,y3,y4,y5⟩:=hI.rowF hWl (q:=2*h+t) om;rw[colNeg_get om,if_neg om,hX2 _ om om]at gR;have c1:=neg_i ((W.getD (2*h+t) []).getD i 0) K (hW.fit (2*h+t) i) om;have gl:=ivR_len (W.getD (2*h+t) []);rw[hrl]at gl;have gd:=ivR_drop (l:=W.getD (2*h+t) []) (i:=i) om;have gs:=ivR_set (l:=W.getD (2*h+t) []) (i:=i) (-((W.getD (2*h+t) []).getD i 0)) om;have hrs:=hI.rset hWl (q:=2*h+t) om ((W.getD (2*h+t) []).set i (-((W.getD (2*h+t) []).getD i 0)));have hcs:=colNeg_set (h:=h) (i:=i) (r:=t) (W:=X) om;rw[hX2 _ om om]at hcs;rw[hcs]at hrs;have hkl:=hI.kl (W:=colNeg h i t X) (m:=nx) om;rw[hI.iV]at gR y1 y2 y3 y4 y5 hrs;have v5:c.getD t 0+1-nx=0:=zne y1;clear hcs;unfold wkH workC at*;generalize(ivR (W.getD (2*h+t) [])).drop ((i+1)*2)=Di at*;generalize hA:ivR (W.getD (2*h+t) [])=A at*;generalize hA':ivR ((W.getD (2*h+t) []).set i (-((W.getD (2*h+t) []).getD i 0)))=A' at*;generalize(W.getD (2*h+t) []).getD i 0=x at*;generalize hH:rowsH 68 (a++b++c) (rI (colNeg h i t X))=H at*;generalize c.getD t 0=idk at*;unfold iv sv at c1;unfold ivC sv at gd gs;simp only[zl8,zl7]at gd;have g2:i*2<A.length:=by omega
        refine qWDf (Q22 @q1 @ga @gb @gc @gi @gR @gl @gd @gs @g2 @hrs @hkl @z1 @z2 @z3 @z4 @z5 @z6 @y2 @y3 @y4 @y5) ?_;refine hK3 _ (t+1) ?_ om om;exact qM
      ·have htw:t=h:=by omega
       have q1:=decide_eq_false (p:=(h:Int)<(h:Int)) om;rw[htw];unfold wkH workC;refine qWDf (Q7 @q1 @z1 @z2 @z3 @z4 @z5 @z6) ?_;refine retIQ_normal (rs:=[]) (.tu []) (wkH p oM oU oV h w a b c (colNeg h i h X)) nx Tryz.results66 rfl ⟨rfl,rfl,rfl⟩ ?_;refine Le.wkDown ⟨nx,hB,znb _⟩ hI (λid q hq=>hq) ?_;exact mapSl_cons rfl VMap.tu0 trivial
end
section
open Go.RowKit
def swpR(i j:Nat)(row:List Int):List Int:=(row.set i (row.getD j 0)).set j (row.getD i 0)
theorem swpR_len{i j:Nat}{row:List Int}:(swpR i j row).length=row.length:=by simp[swpR]
theorem swpR_get{i j t:Nat}{row:List Int}(hi:i<row.length)(hj:j<row.length):(swpR i j row).getD t 0=if t=j then row.getD i 0 else if t=i then row.getD j 0 else row.getD t 0:=by unfold swpR;rw[getD_set (by rw[List.length_set];exact hj),getD_set hi]
def colSwp(h i j r:Nat)(W:List (List Int)):List (List Int):=W.mapIdx λq row=>if 2*h<=q/\q<2*h+r then swpR i j row else row
theorem colSwp_len{h i j r:Nat}{W:List (List Int)}:(colSwp h i j r W).length=W.length:=by simp[colSwp]
theorem colSwp_get{h i j r q:Nat}{W:List (List Int)}(hq:q<W.length):(colSwp h i j r W).getD q []=if 2*h<=q/\q<2*h+r then swpR i j (W.getD q [])else W.getD q []:=by unfold colSwp;rw[List.getD_eq_getElem?_getD,List.getElem?_mapIdx,getD_get' (d:=[]) hq];rfl
theorem colSwp_zero{h i j:Nat}{W:List (List Int)}:colSwp h i j 0 W=W:=rows_ext colSwp_len λq hq=>by rw[colSwp_len]at hq;rw[colSwp_get hq,if_neg om]
theorem colSwp_set{h i j r:Nat}{W:List (List Int)}(hr:2*h+r<W.length):(colSwp h i j r W).set (2*h+r) (swpR i j (W.getD (2*h+r) []))=colSwp h i j (r+1) W:=by
 refine rows_ext (by rw[List.length_set,colSwp_len,colSwp_len]) λq hq=> ?_;rw[List.length_set,colSwp_len]at hq;rw[getD_set (by rw[colSwp_len];exact hr),colSwp_get hq,colSwp_get hq];by_cases e:q=2*h+r;·rw[if_pos e,if_pos om,e]
 ·rw[if_neg e];by_cases e2:2*h<=q/\q<2*h+r;·rw[if_pos e2,if_pos om]
  ·rw[if_neg e2,if_neg om]
def swapW(h i j:Nat)(W:List (List Int)):List (List Int):=swapI (swapI (colSwp h i j h W) i j) (h+i) (h+j)
theorem WI.swapI{h w K q t:Nat}{W:List (List Int)}(hW:WI h w K W)(hq:q<3*h)(ht:t<3*h)(he:(q<h/\t<h)\/(h<=q/\h<=t)):WI h w K (swapI W q t):=by
 have hl:=hW.len;have e:=λk=>swapI_get (M:=W) (i:=q) (j:=t) om om k;refine⟨by rw[swapI_len];exact hl,λk hk=> ?_,λk h1 h2=> ?_,λk s=> ?_⟩
 ·rw[e];split;·exact hW.rowM q om
  ·split;·exact hW.rowM t om
   ·exact hW.rowM k hk
 ·rw[e];split;·exact hW.rowU q om hq
  ·split;·exact hW.rowU t om ht
   ·exact hW.rowU k h1 h2
 ·rw[e];split;·exact hW.fit q s
  ·split;·exact hW.fit t s
   ·exact hW.fit k s
theorem swapW_wi{h w K i j:Nat}{W:List (List Int)}(hW:WI h w K W)(hi:i<h)(hj:j<h):WI h w K (swapW h i j W):=by
 have hl:=hW.len;have h1:WI h w K (colSwp h i j h W):=by
  refine⟨by rw[colSwp_len];exact hl,λq hq=> ?_,λq h3 h4=> ?_,λq t=> ?_⟩;·rw[colSwp_get om,if_neg om];exact hW.rowM q hq
  ·rw[colSwp_get om];split;·rw[swpR_len];exact hW.rowU q h3 h4
   ·exact hW.rowU q h3 h4
  ·by_cases hq:q<3*h
   ·rw[colSwp_get om];split
    ·rename_i hc;have hrl:=hW.rowU q om hq;rw[swpR_get om om];split;·exact hW.fit q i
     ·split;·exact hW.fit q j
      ·exact hW.fit q t
    ·exact hW.fit q t
   ·rw[List.getD_eq_getElem?_getD (l:=colSwp _ _ _ _ _),List.getElem?_eq_none (by rw[colSwp_len];omega)];exact fits0
 exact(h1.swapI om om om).swapI om om om
theorem swapN_app1{a b:List Nat}{i j:Nat}(hi:i<a.length)(hj:j<a.length):swapN (a++b) i j=swapN a i j++b:=by unfold swapN;rw[List.set_append_left _ _ hi,List.set_append_left _ _ (by rw[List.length_set];exact hj),getD_app1 hi,getD_app1 hj]
theorem swapN_app2{a b:List Nat}{i j:Nat}:swapN (a++b) (a.length+i) (a.length+j)=a++swapN b i j:=by unfold swapN;rw[List.set_append_right _ _ om,List.set_append_right _ _ om,getD_app2,getD_app2,znd,znd]
theorem swapN_len{a:List Nat}{i j:Nat}:(swapN a i j).length=a.length:=by simp[swapN]
section
variable {p oM oU oV h w K nx i j:Nat} {a b c:List Nat} {W:List (List Int)}
theorem WIds.swapL(hI:WIds p oM oU oV a b c h nx)(hi:i<h)(hj:j<h):swapN (swapN (a++b++c) i j) (h+i) (h+j)=swapN a i j++swapN b i j++c:=by
 have la:=hI.la;have lb:=hI.lb
 rw[zl6,swapN_app1 om om];have e:=swapN_app2 (a:=swapN a i j) (b:=b++c) (i:=i) (j:=j);rw[swapN_len,la]at e;rw[e,swapN_app1 om om,zl6]
theorem nodup_swap{l:List Nat}{i j M:Nat}(hM: ∀x∈l,x<M)(hl:l.Nodup)(hi:i<l.length)(hj:j<l.length):(swapN l i j).Nodup/\ ∀x∈swapN l i j,x∈l:=by have:=Ids.swap (o:=M) (ids0:=l) (ids:=l) (n:=l.length) (nx:=M+1) ⟨rfl,hl,λ_ h=>h,λx hx=>by have:=hM x hx;omega,by omega,λhm=>by have:=hM M hm;omega⟩ hi hj;exact⟨this.nod,this.sub⟩
theorem WIds.swap(hI:WIds p oM oU oV a b c h nx)(hi:i<h)(hj:j<h):WIds p oM oU oV (swapN a i j) (swapN b i j) c h nx:=by
 have la:=hI.la;have lb:=hI.lb;have lc:=hI.lc
 obtain⟨z1,z2,z3,z4,z5,z6,n1,n2,n3,n4,n5⟩:=nodup_four hI.nod;have hll:(a++b++c).length=3*h:=by rw[zl1,zl1];omega
 have lr: ∀x∈a++b++c,x<nx:=λx hx=>hI.rng x (by simp only[List.mem_cons];exact .inr (.inr (.inr (.inr hx))));have s1:=nodup_swap (i:=i) (j:=j) lr n5 om om;have s2:=nodup_swap (i:=h+i) (j:=h+j) (λx hx=>lr x (s1.2 x hx)) s1.1 (by rw[swapN_len];omega) (by rw[swapN_len];omega);rw[hI.swapL hi hj]at s2;have sub: ∀x∈swapN a i j++swapN b i j++c,x∈a++b++c:=λx hx=>s1.2 x (s2.2 x hx);refine⟨by rw[swapN_len];exact la,by rw[swapN_len];exact lb,lc,?_,λx hx=> ?_⟩
 ·simp only[List.nodup_cons,List.mem_cons,not_or];exact⟨⟨z1,z2,z3,λhm=>n1 (sub _ hm)⟩,⟨z4,z5,λhm=>n2 (sub _ hm)⟩,⟨z6,λhm=>n3 (sub _ hm)⟩,λhm=>n4 (sub _ hm),s2.1⟩
 ·simp only[List.mem_cons]at hx;rcases hx with rfl|rfl|rfl|rfl|hx;·exact hI.rng _ (by simp)
  ·exact hI.rng _ (by simp)
  ·exact hI.rng _ (by simp)
  ·exact hI.rng _ (by simp)
  ·exact hI.rng _ (by simp only[List.mem_cons];exact .inr (.inr (.inr (.inr (sub x hx)))))
def wkX(p oM oU oV h w:Nat)(a b c l:List Nat)(W:List (List Int)):List (Nat×Blk):=
 (p,⟨111,workC h w oM oU oV,false⟩)::(oM,⟨41,slR 2 w a,false⟩)::(oU,⟨41,slR 2 h b,false⟩)::(oV,⟨41,slR 2 h c,false⟩)::rowsH 68 l (rI W)
theorem Le.wkXDown{B:Base}{sl sl':List (Nat×V)}{hp:List (Nat×Blk)}{nx1 nt:Nat}{l:List Nat}(hB: ∃m,B.Old m/\m<=nx)(l2:oM<nx)(l3:oU<nx)(l4:oV<nx)(ra: ∀i∈a,i<nx)(rb: ∀i∈b,i<nx)(rc: ∀i∈c,i<nx)
  (hs: ∀id k,hget (wkX p oM oU oV h w a b c l W) id=some k->hget hp id=some k) (h1:mapSl (λi=>i) (λi=>i<nx) sl sl'):
  Le B ⟨sl,hp,nx1,nt⟩ ⟨sl',wkX p oM oU oV h w a b c l W,nx,nt⟩:=by
 obtain⟨m0,hB,hm0⟩:=hB;refine Le.map (λi=>i) (λi=>i<nx) hB (λi hi=>⟨by omega,rfl⟩) (λi h=>h) (λi j _ _ e=>e) h1 (λi k' hk' hlt=> ?_);rw[hs i k' hk'];unfold wkX at hk';simp only[hget]at hk';split at hk'
 ·cases hk';exact BMap.list (mapL_cons (VMap.sc _) (mapL_cons (VMap.sc _) (mapL_cons (VMap.sl rfl l2) (mapL_cons (VMap.sc _) (mapL_cons (VMap.sc _) (mapL_cons (VMap.sl rfl l3) (mapL_cons (VMap.sc _) (mapL_cons (VMap.sc _) (mapL_cons (VMap.sl rfl l4) mapL_nil)))))))))
 split at hk'
 ·cases hk';refine⟨_,rfl,rfl,rfl,λj y hy=>⟨y,hy,?_⟩⟩;obtain⟨q,hq,rfl⟩:=List.mem_map.1 (List.mem_of_getElem? hy);exact VMap.sl rfl (ra q hq)
 split at hk'
 ·cases hk';refine⟨_,rfl,rfl,rfl,λj y hy=>⟨y,hy,?_⟩⟩;obtain⟨q,hq,rfl⟩:=List.mem_map.1 (List.mem_of_getElem? hy);exact VMap.sl rfl (rb q hq)
 split at hk'
 ·cases hk';refine⟨_,rfl,rfl,rfl,λj y hy=>⟨y,hy,?_⟩⟩;obtain⟨q,hq,rfl⟩:=List.mem_map.1 (List.mem_of_getElem? hy);exact VMap.sl rfl (rc q hq)
 ·obtain⟨q,q1,q2,q3,rfl⟩:=rows_inv hk';exact BMap.clo (rI_clo W _ (by rw[List.getD_eq_getElem?_getD,zlb q2];exact List.getElem_mem q2))
theorem wkX_lt{l:List Nat}(h1:p<nx)(h2:oM<nx)(h3:oU<nx)(h4:oV<nx)(hr: ∀i∈l,i<nx): ∀id k,hget (wkX p oM oU oV h w a b c l W) id=some k->id<nx:=by
 intro id k hk;unfold wkX at hk;simp only[hget]at hk;split at hk;·omega
 split at hk;·omega
 split at hk;·omega
 split at hk;·omega
 ·obtain⟨q,q1,_,q3,_⟩:=rows_inv hk;rw[<-q3];exact hr _ (getD_mem' q1)
theorem wkX_swap(hI:WIds p oM oU oV a b c h nx)(hi:i<h)(hj:j<h)(hl:W.length=3*h): ∀id k,hget (wkH p oM oU oV h w (swapN a i j) (swapN b i j) c (Go.Proofs.YtannldafjkjjbaaGreat.swapI (Go.Proofs.YtannldafjkjjbaaGreat.swapI W i j) (h+i) (h+j))) id=some k->hget (wkX p oM oU oV h w (swapN a i j) (swapN b i j) c (a++b++c) W) id=some k:=by
 have la:=hI.la;have lb:=hI.lb;have lc:=hI.lc
 obtain⟨_,_,_,_,_,_,_,_,_,_,n5⟩:=nodup_four hI.nod;have hll:(a++b++c).length=3*h:=by rw[zl1,zl1];omega
 have lr: ∀x∈a++b++c,x<nx:=λx hx=>hI.rng x (by simp only[List.mem_cons];exact .inr (.inr (.inr (.inr hx))));have s1:=nodup_swap (i:=i) (j:=j) lr n5 om om;have r1:=rowsI_swap (ty:=68) (ids:=a++b++c) (M:=W) (k:=i) (q:=j) n5 om om om;have r2:=rowsI_swap (ty:=68) (ids:=swapN (a++b++c) i j) (M:=Go.Proofs.YtannldafjkjjbaaGreat.swapI W i j) (k:=h+i) (q:=h+j) s1.1 (by rw[swapN_len,swapI_len];omega) (by rw[swapN_len];omega) (by rw[swapN_len];omega);rw[hI.swapL hi hj]at r2;intro id k hk;unfold wkH at hk;unfold wkX;simp only[hget]at hk⊢;by_cases c1:id=p;·rw[if_pos c1]at hk⊢;exact hk
 rw[if_neg c1]at hk⊢;by_cases c2:id=oM;·rw[if_pos c2]at hk⊢;exact hk
 rw[if_neg c2]at hk⊢;by_cases c3:id=oU;·rw[if_pos c3]at hk⊢;exact hk
 rw[if_neg c3]at hk⊢;by_cases c4:id=oV;·rw[if_pos c4]at hk⊢;exact hk
 rw[if_neg c4]at hk⊢;exact r1 id k (r2 id k hk)
end
set_option maxRecDepth 8000 in
theorem swap_q{h w K p oM oU oV nx i j:Nat}{a b c:List Nat}{W:List (List Int)}(hW:WI h w K W)(hI:WIds p oM oU oV a b c h nx)(hi:i<h)(hj:j<h)(hn:h<=1000000)(hw:w<=1000000):
  InlQ Tryz.prog 65 [.pt p 0,.sc (.int .i64 i),.sc (.int .i64 j)] (wkH p oM oU oV h w a b c W) nx (λx hp' nx'=>x= .tu []/\nx'=nx/\hp'=wkH p oM oU oV h w (swapN a i j) (swapN b i j) c (swapW h i j W)):=by
 have hl:=hW.len;obtain⟨l1,l2,l3,l4⟩:=hI.lts;have v1:p+1-nx=0:=by omega
 have v2:oM+1-nx=0:=by omega
 have v3:oU+1-nx=0:=by omega
 have v4:oV+1-nx=0:=by omega
 obtain⟨z1,z2,z3,z4,z5,z6⟩:=hI.nes;have la:=hI.la;have lb:=hI.lb;have lc:=hI.lc;have ga:=slR_len 2 w a;have gb:=slR_len 2 h b;have gc:=slR_len 2 h c;rw[la]at ga;rw[lb]at gb;rw[lc]at gc;have hI2:=hI.swap hi hj;have lr: ∀x∈a++b++c,x<nx:=λx hx=>hI.rng x (by simp only[List.mem_cons];exact .inr (.inr (.inr (.inr hx))));have lr2: ∀x∈swapN a i j++swapN b i j++c,x<nx:=λx hx=>hI2.rng x (by simp only[List.mem_cons];exact .inr (.inr (.inr (.inr hx))));have ra: ∀x∈swapN a i j,x<nx:=λx hx=>lr2 x (List.mem_append_left _ (List.mem_append_left _ hx));have rb: ∀x∈swapN b i j,x<nx:=λx hx=>lr2 x (List.mem_append_left _ (List.mem_append_right _ hx));have rc: ∀x∈c,x<nx:=λx hx=>lr2 x (List.mem_append_right _ hx);have gai:=slR_get (z:=2) (m:=w) (ids:=a) (k:=i) om;have gaj:=slR_get (z:=2) (m:=w) (ids:=a) (k:=j) om;have gbi:=slR_get (z:=2) (m:=h) (ids:=b) (k:=i) om;have gbj:=slR_get (z:=2) (m:=h) (ids:=b) (k:=j) om;have hsa:(a.set i (a.getD j 0)).set j (a.getD i 0)=swapN a i j:=rfl;have hsb:(b.set i (b.getD j 0)).set j (b.getD i 0)=swapN b i j:=rfl;have hkl:=hI.kl (W:=W) (m:=nx) (znb _);refine InlQ.run Tryz.func65 rfl Tryz.ntmps65 (by simp) (by unfold wkH workC;simp(disch:=omega) only[go_sem,↓reduceIte,zn1,zn2,zn3,zn4,zn5,zn6,reduceCtorEq,zn7,zi1,zi2,if_pos,if_neg,Int.reduceAdd];rfl) λB hB=> ?_;refine qWDf (Q21 @ga @gb @gc @gai @gaj @gbi @gbj @slR_set @slR_len @la @lb @lc @hsa @hsb @hkl @z1 @z2 @z3 @z4 @z5 @z6) ?_;have eW:colSwp h i j 0 W=W:=colSwp_zero;refine SC.loop (λt:Nat=>⟨[(0,.pt p 0),(1,.sc (.int .i64 i)),(2,.sc (.int .i64 j)),(7,.sc (.int .i64 t))],wkX p oM oU oV h w (swapN a i j) (swapN b i j) c (a++b++c) (colSwp h i j t W),nx,123⟩)
  (λt=>t<=h) (λt=>h-t) 0 ?_ ?_ ?_
 ·rw[eW];unfold wkX workC;exact qM
 ·exact znc _
 ·intro t ht K3 hK3;by_cases hc:t<h
  ·as_aux_lemma=>
    have q1:=decide_eq_true (p:=(t:Int)<(h:Int)) om;have hrl:(W.getD (2*h+t) []).length=h:=hW.rowU (2*h+t) om om;have hWl:(colSwp h i j t W).length=3*h:=by rw[colSwp_len];exact hl
    have gi:=slR_get (z:=2) (m:=h) (ids:=c) (k:=t) om;obtain⟨gR,y1,y2,y3,y4,y5⟩:=hI.rowF hWl (q:=2*h+t) om;rw[colSwp_get om,if_neg om]at gR;have gl:=ivR_len (W.getD (2*h+t) []);rw[hrl]at gl;have gd:=ivR_drop (l:=W.getD (2*h+t) []) (i:=i) om;have gdj:=ivR_drop (l:=W.getD (2*h+t) []) (i:=j) om;have gs:=ivR_set (l:=W.getD (2*h+t) []) (i:=i) ((W.getD (2*h+t) []).getD j 0) om;have gs2:=ivR_set (l:=(W.getD (2*h+t) []).set i ((W.getD (2*h+t) []).getD j 0)) (i:=j) ((W.getD (2*h+t) []).getD i 0) (by rw[List.length_set];omega);have gl2:=ivR_len ((W.getD (2*h+t) []).set i ((W.getD (2*h+t) []).getD j 0));rw[List.length_set,hrl]at gl2;have hrs:=hI.rset hWl (q:=2*h+t) om ((W.getD (2*h+t) []).set i ((W.getD (2*h+t) []).getD j 0));have hWl2:((colSwp h i j t W).set (2*h+t) ((W.getD (2*h+t) []).set i ((W.getD (2*h+t) []).getD j 0))).length=3*h:=by rw[List.length_set];exact hWl
    have gR2:=(hI.rowF hWl2 (q:=2*h+t) om).1;rw[getD_set om,if_pos rfl]at gR2;have hrs2:=hI.rset hWl2 (q:=2*h+t) om (((W.getD (2*h+t) []).set i ((W.getD (2*h+t) []).getD j 0)).set j ((W.getD (2*h+t) []).getD i 0));have hcs:=colSwp_set (h:=h) (i:=i) (j:=j) (r:=t) (W:=W) om;unfold swpR at hcs;rw[List.set_set,hcs]at hrs2;have hkl:=hI.kl (W:=colSwp h i j t W) (m:=nx+1) om;have hkl2:=hI.kl (W:=(colSwp h i j t W).set (2*h+t) ((W.getD (2*h+t) []).set i ((W.getD (2*h+t) []).getD j 0))) (m:=nx+1) om;rw[hI.iV]at gR gR2 y1 y2 y3 y4 y5 hrs hrs2;have v5:c.getD t 0+1-nx=0:=zne y1;have gla:=slR_len 2 w (swapN a i j);have glb:=slR_len 2 h (swapN b i j);rw[swapN_len,la]at gla;rw[swapN_len,lb]at glb;have hsame: ∀id k,hget (wkX p oM oU oV h w (swapN a i j) (swapN b i j) c (a++b++c) (colSwp h i j (t+1) W)) id=some k->id<nx:=wkX_lt l1 l2 l3 l4 lr;clear hcs hWl2;unfold wkX workC;generalize(ivR (W.getD (2*h+t) [])).drop ((i+1)*2)=Di at*;generalize(ivR (W.getD (2*h+t) [])).drop ((j+1)*2)=Dj at*;generalize hA:ivR (W.getD (2*h+t) [])=A at*;generalize hA2:ivR (((W.getD (2*h+t) []).set i ((W.getD (2*h+t) []).getD j 0)).set j ((W.getD (2*h+t) []).getD i 0))=A2 at*;generalize hA1:ivR ((W.getD (2*h+t) []).set i ((W.getD (2*h+t) []).getD j 0))=A1 at*;generalize hH1:rowsH 68 (a++b++c) (rI ((colSwp h i j t W).set (2*h+t) ((W.getD (2*h+t) []).set i ((W.getD (2*h+t) []).getD j 0))))=H1 at*;generalize(W.getD (2*h+t) []).getD i 0=x at*;generalize(W.getD (2*h+t) []).getD j 0=y at*;generalize hH:rowsH 68 (a++b++c) (rI (colSwp h i j t W))=H at*;generalize c.getD t 0=idk at*;unfold ivC sv at gd gs gdj gs2;simp only[zl8,zl7]at gd gdj;have g2:i*2<A.length:=by omega
    have g2j:j*2<A.length:=by omega
    have g3j:j*2<A1.length:=by omega
    refine qWDf (Q2 (Q15 @q1 @gla @glb @gc @gi @gR @gR2 @gl @gl2 @gd @gdj @gs @gs2 @g2 @g2j) (Q15 @g3j @hrs @hrs2 @hkl @hkl2 @z1 @z2 @z3 @z4 @z5 @z6 @y2 @y3 @y4 @y5)) ?_;refine hK3 _ (t+1) ?_ om om;refine Le.wkXDown ⟨nx,hB,znb _⟩ l2 l3 l4 ra rb rc (less_new (λid q hq=>hq) λid q hq=>Nat.ne_of_lt (hsame id q hq)) ?_;exact qN
  ·have htw:t=h:=by omega
   have q1:=decide_eq_false (p:=(h:Int)<(h:Int)) om;rw[htw];unfold wkX workC;refine qWDf (Q7 @q1 @z1 @z2 @z3 @z4 @z5 @z6) ?_;refine retIQ_normal (rs:=[]) (.tu []) (wkH p oM oU oV h w (swapN a i j) (swapN b i j) c (swapW h i j W)) nx Tryz.results65 rfl ⟨rfl,rfl,rfl⟩ ?_;refine Le.wkDown ⟨nx,hB,znb _⟩ hI2 (wkX_swap hI hi hj (by rw[colSwp_len];exact hl)) ?_;exact mapSl_cons rfl VMap.tu0 trivial
end
section
structure WS(h w:Nat)(W:List (List Int)):Prop where
 len:W.length=3*h
 rowM: ∀q,q<h->(W.getD q []).length=w
 rowU: ∀q,h<=q->q<3*h->(W.getD q []).length=h
theorem addI_getD{a b:List Int}{k:Int}(hl:a.length=b.length)(t:Nat):(addI a b k).getD t 0=a.getD t 0+k*b.getD t 0:=by
 by_cases ht:t<a.length;·exact addI_get ht
 ·rw[List.getD_eq_getElem?_getD,List.getElem?_eq_none (by rw[addI_len];omega),List.getD_eq_getElem?_getD,List.getElem?_eq_none om,List.getD_eq_getElem?_getD,List.getElem?_eq_none om];simp
theorem negI_getD{a:List Int}(t:Nat):(negI a).getD t 0= -(a.getD t 0):=by
 by_cases ht:t<a.length;·exact negI_get ht
 ·rw[List.getD_eq_getElem?_getD,List.getElem?_eq_none (by rw[negI_len];omega),List.getD_eq_getElem?_getD,List.getElem?_eq_none om];simp
def swi(i j q:Nat):Nat:=if q=i then j else if q=j then i else q
theorem swi_lt{i j q n:Nat}(hi:i<n)(hj:j<n)(hq:q<n):swi i j q<n:=by unfold swi;split<;>(try split)<;>omega
section
variable {h w i j q t:Nat} {k:Int} {W:List (List Int)}
theorem addW_row(hl:W.length=3*h)(hi:i<h)(hq:q<3*h):(addW h i j k W).getD q []=if q=i then addI (W.getD i []) (W.getD j []) k else if q=h+i then addI (W.getD (h+i) []) (W.getD (h+j) []) k else if 2*h<=q then(W.getD q []).set j ((W.getD q []).getD j 0-k*(W.getD q []).getD i 0)else W.getD q []:=by
 unfold addW;rw[colPre_get (by rw[List.length_set,List.length_set];omega),getD_set (by rw[List.length_set];omega),getD_set om];by_cases h1:q=i
 ·subst h1;rw[if_neg om,if_neg om,if_pos rfl,if_pos rfl]
 ·by_cases h2:q=h+i
  ·subst h2;rw[if_neg om,if_pos rfl,if_neg h1,if_pos rfl]
  ·rw[if_neg h2,if_neg h1,if_neg h1,if_neg h2];by_cases h3:2*h<=q;·rw[if_pos ⟨h3,by omega⟩,if_pos h3]
   ·rw[if_neg om,if_neg h3]
theorem addW_ws(hW:WS h w W)(hi:i<h)(hj:j<h):WS h w (addW h i j k W):=by
 refine⟨by unfold addW;rw[colPre_len,List.length_set,List.length_set];exact hW.len,λq hq=> ?_,λq h1 h2=> ?_⟩
 ·rw[addW_row hW.len hi om];split;·rw[addI_len];exact hW.rowM i hi
  ·rw[if_neg om,if_neg om];exact hW.rowM q hq
 ·rw[addW_row hW.len hi h2,if_neg om];split;·rw[addI_len];exact hW.rowU _ om om
  ·split;·rw[List.length_set];exact hW.rowU q h1 h2
   ·exact hW.rowU q h1 h2
theorem addW_ent(hW:WS h w W)(hi:i<h)(hj:j<h)(hq:q<3*h):ent2 (addW h i j k W) q t=if q=i then ent2 W i t+k*ent2 W j t else if q=h+i then ent2 W (h+i) t+k*ent2 W (h+j) t else if 2*h<=q/\t=j then ent2 W q j-k*ent2 W q i else ent2 W q t:=by
 unfold ent2;rw[addW_row hW.len hi hq];by_cases h1:q=i;·rw[if_pos h1,if_pos h1,addI_getD (by rw[hW.rowM i hi,hW.rowM j hj])]
 ·rw[if_neg h1,if_neg h1];by_cases h2:q=h+i;·rw[if_pos h2,if_pos h2,addI_getD (by rw[hW.rowU (h+i) om om,hW.rowU (h+j) om om])]
  ·rw[if_neg h2,if_neg h2];by_cases h3:2*h<=q
   ·rw[if_pos h3,getD_set (by rw[hW.rowU q om hq];exact hj)];by_cases h4:t=j;·rw[if_pos h4,if_pos ⟨h3,h4⟩]
    ·rw[if_neg h4,if_neg λhh=>h4 hh.2]
   ·rw[if_neg h3,if_neg λhh=>h3 hh.1]
theorem negW_row(hl:W.length=3*h)(hi:i<h)(hq:q<3*h):(negW h i W).getD q []=if q=i then negI (W.getD i [])else if q=h+i then negI (W.getD (h+i) [])else if 2*h<=q then(W.getD q []).set i (-((W.getD q []).getD i 0))else W.getD q []:=by
 unfold negW;rw[colNeg_get (by rw[List.length_set,List.length_set];omega),getD_set (by rw[List.length_set];omega),getD_set om];by_cases h1:q=i
 ·subst h1;rw[if_neg om,if_neg om,if_pos rfl,if_pos rfl]
 ·by_cases h2:q=h+i
  ·subst h2;rw[if_neg om,if_pos rfl,if_neg h1,if_pos rfl]
  ·rw[if_neg h2,if_neg h1,if_neg h1,if_neg h2];by_cases h3:2*h<=q;·rw[if_pos ⟨h3,by omega⟩,if_pos h3]
   ·rw[if_neg om,if_neg h3]
theorem negW_ws(hW:WS h w W)(hi:i<h):WS h w (negW h i W):=by
 refine⟨by unfold negW;rw[colNeg_len,List.length_set,List.length_set];exact hW.len,λq hq=> ?_,λq h1 h2=> ?_⟩
 ·rw[negW_row hW.len hi om];split;·rw[negI_len];exact hW.rowM i hi
  ·rw[if_neg om,if_neg om];exact hW.rowM q hq
 ·rw[negW_row hW.len hi h2,if_neg om];split;·rw[negI_len];exact hW.rowU _ om om
  ·split;·rw[List.length_set];exact hW.rowU q h1 h2
   ·exact hW.rowU q h1 h2
theorem negW_ent(hW:WS h w W)(hi:i<h)(hq:q<3*h):ent2 (negW h i W) q t=if q=i\/q=h+i\/(2*h<=q/\t=i)then-(ent2 W q t)else ent2 W q t:=by
 unfold ent2;rw[negW_row hW.len hi hq];by_cases h1:q=i;·rw[if_pos h1,if_pos (.inl h1),negI_getD,h1]
 ·rw[if_neg h1];by_cases h2:q=h+i;·rw[if_pos h2,if_pos (.inr (.inl h2)),negI_getD,h2]
  ·rw[if_neg h2];by_cases h3:2*h<=q
   ·rw[if_pos h3,getD_set (by rw[hW.rowU q om hq];exact hi)];by_cases h4:t=i;·rw[if_pos h4,if_pos (.inr (.inr ⟨h3,h4⟩)),h4]
    ·rw[if_neg h4,if_neg om]
   ·rw[if_neg h3,if_neg om]
theorem swapW_row(hl:W.length=3*h)(hi:i<h)(hj:j<h)(hq:q<3*h):(swapW h i j W).getD q []=if q<h then W.getD (swi i j q) []else if q<2*h then W.getD (h+swi i j (q-h)) []else swpR i j (W.getD q []):=by
 have hc: ∀q,q<3*h->(colSwp h i j h W).getD q []=if 2*h<=q then swpR i j (W.getD q [])else W.getD q []:=λq hq=>by
  rw[colSwp_get om];by_cases h1:2*h<=q;·rw[if_pos ⟨h1,by omega⟩,if_pos h1]
  ·rw[if_neg om,if_neg h1]
 unfold swapW;rw[swapI_get (by rw[swapI_len,colSwp_len];omega) (by rw[swapI_len,colSwp_len];omega)];have hs: ∀q,(swapI (colSwp h i j h W) i j).getD q []=if q=j then(colSwp h i j h W).getD i []else if q=i then(colSwp h i j h W).getD j []else(colSwp h i j h W).getD q []:=λq=>swapI_get (by rw[colSwp_len];omega) (by rw[colSwp_len];omega) q
 simp only[hs];rw[if_neg (show¬h+i=j by omega),if_neg (show¬h+i=i by omega),if_neg (show¬h+j=j by omega),if_neg (show¬h+j=i by omega)];rw[hc i om,hc j om,hc (h+i) om,hc (h+j) om,hc q hq,if_neg (show¬2*h<=i by omega),if_neg (show¬2*h<=j by omega),if_neg (show¬2*h<=h+i by omega),if_neg (show¬2*h<=h+j by omega)];unfold swi;by_cases h1:q<h
 ·rw[if_neg (show¬q=h+j by omega),if_neg (show¬q=h+i by omega),if_pos h1,if_neg (show¬2*h<=q by omega)];by_cases e1:q=j
  ·rw[if_pos e1];by_cases e2:q=i;·rw[if_pos e2,<-e1,e2]
   ·rw[if_neg e2,if_pos e1]
  ·rw[if_neg e1];by_cases e2:q=i;·rw[if_pos e2,if_pos e2]
   ·rw[if_neg e2,if_neg e2,if_neg e1]
 ·rw[if_neg h1];by_cases h2:q<2*h
  ·rw[if_pos h2,if_neg (show¬q=j by omega),if_neg (show¬q=i by omega),if_neg (show¬2*h<=q by omega)];by_cases e1:q=h+j
   ·rw[if_pos e1];by_cases e2:q=h+i;·rw[if_pos om,show j=i by omega]
    ·rw[if_neg om,if_pos om]
   ·rw[if_neg e1];by_cases e2:q=h+i;·rw[if_pos e2,if_pos om]
    ·rw[if_neg e2,if_neg om,if_neg om,show h+(q-h)=q by omega]
  ·rw[if_neg h2,if_neg om,if_neg om,if_neg om,if_neg om,if_pos om]
theorem swapW_ws(hW:WS h w W)(hi:i<h)(hj:j<h):WS h w (swapW h i j W):=by
 refine⟨by unfold swapW;rw[swapI_len,swapI_len,colSwp_len];exact hW.len,λq hq=> ?_,λq h1 h2=> ?_⟩
 ·rw[swapW_row hW.len hi hj om,if_pos hq];exact hW.rowM _ (swi_lt hi hj hq)
 ·rw[swapW_row hW.len hi hj h2,if_neg om];split
  ·have:=swi_lt (q:=q-h) hi hj om;exact hW.rowU _ om om
  ·rw[swpR_len];exact hW.rowU q h1 h2
theorem swapW_ent(hW:WS h w W)(hi:i<h)(hj:j<h)(hq:q<3*h):ent2 (swapW h i j W) q t=if q<h then ent2 W (swi i j q) t else if q<2*h then ent2 W (h+swi i j (q-h)) t else ent2 W q (swi i j t):=by
 unfold ent2;rw[swapW_row hW.len hi hj hq];by_cases h1:q<h;·rw[if_pos h1,if_pos h1]
 ·rw[if_neg h1,if_neg h1];by_cases h2:q<2*h;·rw[if_pos h2,if_pos h2]
  ·rw[if_neg h2,if_neg h2];have hr:=hW.rowU q om hq;rw[swpR_get om om];unfold swi;by_cases e1:t=j
   ·rw[if_pos e1];by_cases e2:t=i;·rw[if_pos e2,<-e1,e2]
    ·rw[if_neg e2,if_pos e1]
   ·rw[if_neg e1];by_cases e2:t=i;·rw[if_pos e2,if_pos e2]
    ·rw[if_neg e2,if_neg e2,if_neg e1]
end
structure Gb(h:Nat)(W:List (List Int))(bM bV:Nat->Nat):Prop where
 m: ∀q t,q<h->(ent2 W q t).natAbs<=bM q
 u: ∀q t,q<h->(ent2 W (h+q) t).natAbs<=bM q
 v: ∀q t,q<h->t<h->(ent2 W (2*h+q) t).natAbs<=bV t
def upd(b:Nat->Nat)(i x:Nat):Nat->Nat:=λq=>if q=i then x else b q
theorem abs_addmul{x y k:Int}{a b Q:Nat}(hx:x.natAbs<=a)(hy:y.natAbs<=b)(hk:k.natAbs<=Q):(x+k*y).natAbs<=a+Q*b:=by have h1:=Int.natAbs_add_le x (k*y);rw[Int.natAbs_mul]at h1;have h2:=Nat.mul_le_mul hk hy;omega
section
variable {h w i j:Nat} {k:Int} {W:List (List Int)} {bM bV cM cV:Nat->Nat}
theorem Gb.mono(hG:Gb h W bM bV)(h1: ∀q,q<h->bM q<=cM q)(h2: ∀q,q<h->bV q<=cV q):Gb h W cM cV:=
 ⟨λq t hq=>Nat.le_trans (hG.m q t hq) (h1 q hq),λq t hq=>Nat.le_trans (hG.u q t hq) (h1 q hq),λq t hq ht=>Nat.le_trans (hG.v q t hq ht) (h2 t ht)⟩
theorem Gb.add(hG:Gb h W bM bV)(hW:WS h w W)(hi:i<h)(hj:j<h){Q:Nat}(hk:k.natAbs<=Q):Gb h (addW h i j k W) (upd bM i (bM i+Q*bM j)) (upd bV j (bV j+Q*bV i)):=by
 refine⟨λq t hq=> ?_,λq t hq=> ?_,λq t hq ht=> ?_⟩
 ·rw[addW_ent hW hi hj om];unfold upd;by_cases h1:q=i;·rw[if_pos h1,if_pos h1];exact abs_addmul (hG.m i t hi) (hG.m j t hj) hk
  ·rw[if_neg h1,if_neg h1,if_neg om,if_neg om];exact hG.m q t hq
 ·rw[addW_ent hW hi hj om,if_neg om];unfold upd;by_cases h1:q=i;·rw[if_pos om,if_pos h1];exact abs_addmul (hG.u i t hi) (hG.u j t hj) hk
  ·rw[if_neg om,if_neg h1,if_neg om];exact hG.u q t hq
 ·rw[addW_ent hW hi hj om,if_neg om,if_neg om];unfold upd;by_cases h1:t=j
  ·rw[if_pos ⟨by omega,h1⟩,if_pos h1,Int.sub_eq_add_neg,<-Int.neg_mul];exact abs_addmul (hG.v q j hq hj) (hG.v q i hq hi) (by rw[Int.natAbs_neg];exact hk)
  ·rw[if_neg om,if_neg h1];exact hG.v q t hq ht
theorem Gb.neg(hG:Gb h W bM bV)(hW:WS h w W)(hi:i<h):Gb h (negW h i W) bM bV:=by
 have key: ∀q t,q<3*h->(ent2 (negW h i W) q t).natAbs=(ent2 W q t).natAbs:=λq t hq=>by
  rw[negW_ent hW hi hq];split;·rw[Int.natAbs_neg]
  ·rfl
 exact⟨λq t hq=>by rw[key q t om];exact hG.m q t hq,λq t hq=>by rw[key _ t om];exact hG.u q t hq,λq t hq ht=>by rw[key _ t om];exact hG.v q t hq ht⟩
theorem Gb.swap(hG:Gb h W bM bV)(hW:WS h w W)(hi:i<h)(hj:j<h):Gb h (swapW h i j W) (λq=>bM (swi i j q)) (λq=>bV (swi i j q)):=by
 refine⟨λq t hq=> ?_,λq t hq=> ?_,λq t hq ht=> ?_⟩;·rw[swapW_ent hW hi hj om,if_pos hq];exact hG.m _ t (swi_lt hi hj hq)
 ·rw[swapW_ent hW hi hj om,if_neg om,if_pos om,znd];exact hG.u _ t (swi_lt hi hj hq)
 ·rw[swapW_ent hW hi hj om,if_neg om,if_neg om];exact hG.v q _ hq (swi_lt hi hj ht)
theorem Gb.wi(hG:Gb h W bM bV)(hW:WS h w W){K:Nat}(h1: ∀q,q<h->bM q<4294967296^K)(h2: ∀q,q<h->bV q<4294967296^K):WI h w K W:=by
 refine⟨hW.len,hW.rowM,hW.rowU,λq t=> ?_⟩;have hz: ∀{l:List Int},l.length<=t->Fits K (l.getD t 0):=λhl=>by rw[List.getD_eq_getElem?_getD,List.getElem?_eq_none hl];exact fits0
 rcases Nat.lt_or_ge q h with hq|hq;·exact Nat.lt_of_le_of_lt (hG.m q t hq) (h1 q hq)
 ·rcases Nat.lt_or_ge q (2*h)with hq2|hq2
  ·have:=hG.u (q-h) t om;rw[show h+(q-h)=q by omega]at this;exact Nat.lt_of_le_of_lt this (h1 _ om)
  ·rcases Nat.lt_or_ge q (3*h)with hq3|hq3
   ·rcases Nat.lt_or_ge t h with ht|ht
    ·have:=hG.v (q-2*h) t om ht;rw[show 2*h+(q-2*h)=q by omega]at this;exact Nat.lt_of_le_of_lt this (h2 _ ht)
    ·exact hz (by rw[hW.rowU q om hq3];exact ht)
   ·rw[List.getD_eq_getElem?_getD (l:=W),List.getElem?_eq_none (by rw[hW.len];exact hq3)];exact hz (by simp)
end
def sumI(f:Nat->Int):Nat->Int
 |0=>0
 |n+1=>sumI f n+f n
theorem dot_sum(f g:Nat->Int): ∀n,dotI f g n=sumI (λt=>f t*g t) n
 |0=>rfl
 |n+1=>by show dotI f g n+_=sumI _ n+_;rw[dot_sum f g n]
theorem sum_congr{f g:Nat->Int}: ∀{n:Nat},(∀t,t<n->f t=g t)->sumI f n=sumI g n
 |0,_=>rfl
 |n+1,h=>by show sumI f n+f n=sumI g n+g n;rw[sum_congr λt ht=>h t om,h n om]
theorem sum_one{f g:Nat->Int}{i:Nat}: ∀{n:Nat},i<n->(∀t,t<n->t≠i->f t=g t)->sumI f n=sumI g n+(f i-g i)
 |0,h,_=>by omega
 | n+1,hi,h=>by
  show sumI f n+f n=sumI g n+g n+_;by_cases e:n=i
  ·subst e;rw[sum_congr λt ht=>h t om om];omega
  ·rw[sum_one (i:=i) om λt ht=>h t om,h n om e];omega
theorem sum_two{f g:Nat->Int}{i j n:Nat}(hi:i<n)(hj:j<n)(hij:i≠j)(h: ∀t,t<n->t≠i->t≠j->f t=g t)(he:f i+f j=g i+g j):sumI f n=sumI g n:=by
 have h1:=sum_one (f:=f) (g:=λt=>if t=i then f i else g t) (i:=j) hj λt ht hn=>by
  by_cases e:t=i;·rw[if_pos e,e]
  ·rw[if_neg e];exact h t ht e hn
 have h2:=sum_one (f:=λt=>if t=i then f i else g t) (g:=g) (i:=i) hi λt ht hn=>if_neg hn;rw[if_neg (Ne.symm hij)]at h1;rw[if_pos rfl]at h2;omega
theorem dot_zero'{c g:Nat->Int}: ∀{n:Nat},(∀t,t<n->c t*g t=0)->dotI c g n=0
 |0,_=>rfl
 |n+1,h=>by show dotI c g n+c n*g n=0;rw[dot_zero' λt ht=>h t om,h n om];rfl
theorem dot_dot{c:Nat->Int}{M:Nat->Nat->Int}{g:Nat->Int}{n:Nat}: ∀{m:Nat},dotI (λs=>dotI c (λu=>M u s) m) g n=dotI c (λu=>dotI (λs=>M u s) g n) m
 |0=>dot_zero' λs _=>by show(0:Int)*g s=0;omega
 |m+1=>by show dotI (λs=>dotI c (λu=>M u s) m+c m*M m s) g n=dotI c (λu=>dotI (λs=>M u s) g n) m+c m*dotI (λs=>M m s) g n;rw[dot_add (f:=λs=>dotI c (λu=>M u s) m) (e:=λs=>M m s),dot_dot]
structure LinI(h w:Nat)(A W:List (List Int)):Prop where
 l1: ∀q t,q<h->t<w->ent2 W q t=dotI (λs=>ent2 W (h+q) s) (λs=>ent2 A s t) h
 l2: ∀s t,s<h->t<w->ent2 A s t=dotI (λq=>ent2 W (2*h+s) q) (λq=>ent2 W q t) h
section
variable {h w i j:Nat} {k:Int} {A W:List (List Int)}
theorem LinI.add(hL:LinI h w A W)(hW:WS h w W)(hi:i<h)(hj:j<h)(hij:i≠j):LinI h w A (addW h i j k W):=by
 refine⟨λq t hq ht=> ?_,λs t hs ht=> ?_⟩
 ·rw[addW_ent hW hi hj om];by_cases h1:q=i
  ·subst h1;have e: ∀s,ent2 (addW h q j k W) (h+q) s=ent2 W (h+q) s+k*ent2 W (h+j) s:=λs=>by rw[addW_ent hW hi hj om,if_neg om,if_pos rfl]
   rw[if_pos rfl,hL.l1 q t hq ht,hL.l1 j t hj ht];simp only[e];rw[dot_add]
  ·have e: ∀s,ent2 (addW h i j k W) (h+q) s=ent2 W (h+q) s:=λs=>by rw[addW_ent hW hi hj om,if_neg om,if_neg om,if_neg om]
   rw[if_neg h1,if_neg om,if_neg om];simp only[e];exact hL.l1 q t hq ht
 ·rw[hL.l2 s t hs ht,dot_sum,dot_sum];have eV: ∀q,ent2 (addW h i j k W) (2*h+s) q=if q=j then ent2 W (2*h+s) j-k*ent2 W (2*h+s) i else ent2 W (2*h+s) q:=λq=>by
   rw[addW_ent hW hi hj om,if_neg om,if_neg om];by_cases e:q=j;·rw[if_pos ⟨by omega,e⟩,if_pos e]
   ·rw[if_neg om,if_neg e]
  have eM: ∀q,q<h->ent2 (addW h i j k W) q t=if q=i then ent2 W i t+k*ent2 W j t else ent2 W q t:=λq hq=>by
   rw[addW_ent hW hi hj om];by_cases e:q=i;·rw[if_pos e,if_pos e]
   ·rw[if_neg e,if_neg e,if_neg om,if_neg om]
  refine sum_two hi hj hij (λq hq n1 n2=> ?_) ?_;·rw[eV,eM q hq,if_neg n2,if_neg n1]
  ·rw[eV,eV,eM i hi,eM j hj,if_neg hij,if_pos rfl,if_pos rfl,if_neg (Ne.symm hij)];generalize ent2 W (2*h+s) i=a;generalize ent2 W (2*h+s) j=b;generalize ent2 W i t=x;generalize ent2 W j t=y;rw[Int.mul_add,Int.sub_mul,Int.mul_left_comm,Int.mul_assoc];omega
theorem LinI.neg(hL:LinI h w A W)(hW:WS h w W)(hi:i<h):LinI h w A (negW h i W):=by
 refine⟨λq t hq ht=> ?_,λs t hs ht=> ?_⟩
 ·rw[negW_ent hW hi om];by_cases h1:q=i
  ·have e: ∀s,ent2 (negW h i W) (h+q) s= -(ent2 W (h+q) s):=λs=>by rw[negW_ent hW hi om,if_pos (.inr (.inl om))]
   rw[if_pos (.inl h1),hL.l1 q t hq ht];simp only[e];rw[dot_neg]
  ·have e: ∀s,ent2 (negW h i W) (h+q) s=ent2 W (h+q) s:=λs=>by rw[negW_ent hW hi om,if_neg om]
   rw[if_neg om];simp only[e];exact hL.l1 q t hq ht
 ·rw[hL.l2 s t hs ht];refine(dot_sum _ _ _).trans (.trans (sum_congr λq hq=> ?_) (dot_sum _ _ _).symm);rw[negW_ent hW hi om,negW_ent hW hi om];by_cases e:q=i;·rw[if_pos (.inr (.inr ⟨by omega,e⟩)),if_pos (.inl e),Int.neg_mul_neg]
  ·rw[if_neg om,if_neg om]
theorem swi_i(i j:Nat):swi i j i=j:=if_pos rfl
theorem swi_j(i j:Nat):swi i j j=i:=by
 unfold swi;by_cases e:j=i;·rw[if_pos e,e]
 ·rw[if_neg e,if_pos rfl]
theorem swi_ne{i j q:Nat}(h1:q≠i)(h2:q≠j):swi i j q=q:=by unfold swi;rw[if_neg h1,if_neg h2]
theorem LinI.swap(hL:LinI h w A W)(hW:WS h w W)(hi:i<h)(hj:j<h)(hij:i≠j):LinI h w A (swapW h i j W):=by
 refine⟨λq t hq ht=> ?_,λs t hs ht=> ?_⟩
 ·have e: ∀s,ent2 (swapW h i j W) (h+q) s=ent2 W (h+swi i j q) s:=λs=>by rw[swapW_ent hW hi hj om,if_neg om,if_pos om,znd]
  rw[swapW_ent hW hi hj om,if_pos hq];simp only[e];exact hL.l1 _ t (swi_lt hi hj hq) ht
 ·rw[hL.l2 s t hs ht,dot_sum,dot_sum];have eV: ∀q,ent2 (swapW h i j W) (2*h+s) q=ent2 W (2*h+s) (swi i j q):=λq=>by rw[swapW_ent hW hi hj om,if_neg om,if_neg om]
  have eM: ∀q,q<h->ent2 (swapW h i j W) q t=ent2 W (swi i j q) t:=λq hq=>by rw[swapW_ent hW hi hj om,if_pos hq]
  refine sum_two hi hj hij (λq hq n1 n2=> ?_) ?_;·rw[eV,eM q hq,swi_ne n1 n2]
  ·rw[eV,eV,eM i hi,eM j hj,swi_i,swi_j];omega
end
end
end Go.Proofs.YtannldafjkjjbaaGreat
