/- Texts joined: Rc Rd Re Rf Rg Tj Tk Rh Ri Rj Rk Tt Tl Ia Tf Tg Tw Ib Ie. -/
import Derived.Test.YtannldafjkjjbaaGreatVe
import Derived.Test.YtannldafjkjjbaaGreatVf
import Derived.Test.YtannldafjkjjbaaGreatVg
set_option linter.all false
set_option maxHeartbeats 16000000
open Nat renaming reduceEqDiff → zn1, reduceLT → zn2, reduceLeDiff → zn3, reduceAdd → zn4, reduceMul → zn5, reduceSub → zn6, reduceBEq → zn7, mul_one → zn8, zero_add → zn9, one_mul → zna, le_refl → znb, zero_le → znc, add_sub_cancel_left → znd, sub_eq_zero_of_le → zne, add_assoc → znf
open Int renaming reduceToNat → zi1, reducePow → zi2
open List renaming length_append → zl1, drop_zero → zl2, take_succ_cons → zl3, take_zero → zl4, getElem?_drop → zl5, append_assoc → zl6, nil_append → zl7, cons_append → zl8, drop_succ_cons → zl9, take_of_length_le → zla, getElem?_eq_getElem → zlb, getElem?_eq_some_iff → zlc, map_cons → zld, map_nil → zle, all_eq_true → zlf
namespace Go.Proofs.YtannldafjkjjbaaGreat
section
open Go.RowKit
def ivC(z:Int):List V:=[.sc (.bool (decide (z<0))),sv (limbsOf z.natAbs)]
def ivR:List Int->List V
 |[]=>[]
 |z::r=>ivC z++ivR r
theorem ivR_len: ∀l:List Int,(ivR l).length=2*l.length
 |[]=>rfl
 |z::r=>by
  rw[ivR,zl1,ivR_len r,List.length_cons]
  show 2+_=_
  omega
theorem ivR_app(a b:List Int):ivR (a++b)=ivR a++ivR b:=by
 induction a with
 |nil=>rfl
 |cons x r ih=>rw[zl8,ivR,ivR,ih,zl6]
theorem ivR_snoc(l:List Int)(z:Int):ivR l++ivC z=ivR (l++ [z]):=by
 rw[ivR_app];show _=_++(ivC z++ []);rw[List.append_nil]
theorem ivR_clo: ∀l:List Int,(ivR l).all clo=true
 |[]=>rfl
 |z::r=>by
  rw[ivR,List.all_append,ivR_clo r];rfl
theorem ivR_one: ∀l:List Int,(ivR l).all V.one=true
 |[]=>rfl
 |z::r=>by
  rw[ivR,List.all_append,ivR_one r];rfl
theorem ivR_drop: ∀{l:List Int} {i:Nat},i<l.length->(ivR l).drop (i*2)=ivC (l.getD i 0)++(ivR l).drop ((i+1)*2)
 |o::r,0,_=>rfl
 | o::r,i+1,h=>by
  have e: ∀m,(m+1)*2=(ivC o).length+m*2:=by intro m;show _=2+_;omega
  have hd: ∀m,(ivR (o::r)).drop ((m+1)*2)=(ivR r).drop (m*2):=by
   intro m
   rw[e,ivR,List.drop_append]
   simp only[znd,List.drop_eq_nil_of_le (Nat.le_add_right _ _),zl7]
  rw[hd,hd]
  exact ivR_drop (by simpa using h)
theorem ivR_set: ∀{l:List Int} {i:Nat} (z:Int),i<l.length->setAll (ivR l) (i*2) (ivC z)=ivR (l.set i z)
 |o::r,0,z,_=>rfl
 |o::r,i+1,z,h=>by
  have h':i<r.length:=by simpa using h
  have ih:=ivR_set z h'
  rw[setAll_all _ _ _ (by rw[ivR_len];show _+2<=_;omega)]at ih
  rw[setAll_all _ _ _ (by rw[ivR_len,List.length_cons];show _+2<=_;omega)]
  have e:(i+1)*2=(ivC o).length+i*2:=by show _=2+_;omega
  have e2:(i+1)*2+(ivC z).length=(ivC o).length+(i*2+(ivC z).length):=by omega
  rw[e2,e,ivR,List.take_length_add_append,List.drop_length_add_append,zl6,zl6,<-zl6 ((ivR r).take _),ih]
  rfl
def rI(M:List (List Int)):List (List V):=M.map ivR
theorem rI_len(M:List (List Int)):(rI M).length=M.length:=by simp[rI]
theorem rI_getD(M:List (List Int))(i:Nat):(rI M).getD i []=ivR (M.getD i []):=by
 unfold rI
 rw[List.getD_eq_getElem?_getD,List.getElem?_map,List.getD_eq_getElem?_getD]
 cases M[i]? <;>rfl
theorem rI_set(M:List (List Int))(i:Nat)(r:List Int):(rI M).set i (ivR r)=rI (M.set i r):=by simp[rI,List.map_set]
theorem rI_clo(M:List (List Int)): ∀r∈rI M,r.all clo=true:=by
 intro r hr;obtain⟨q,_,rfl⟩:=List.mem_map.1 hr;exact ivR_clo q
structure MI(h w K:Nat)(M:List (List Int)):Prop where
 len:M.length=h
 row: ∀r∈M,r.length=w/\ ∀x∈r,Fits K x
theorem MI.get{h w K:Nat}{M:List (List Int)}(hM:MI h w K M){i:Nat}(hi:i<h):(M.getD i []).length=w/\ ∀x∈M.getD i [],Fits K x:=hM.row _ (getD_mem (d:=[]) (by rw[hM.len];exact hi))
theorem MI.fit{h w K:Nat}{M:List (List Int)}(hM:MI h w K M){i j:Nat}(hi:i<h)(hj:j<w):Fits K ((M.getD i []).getD j 0):=(hM.get hi).2 _ (getD_mem (d:=0) (by rw[(hM.get hi).1];exact hj))
theorem MI.mono{h w K L:Nat}{M:List (List Int)}(hM:MI h w K M)(hl:K<=L):MI h w L M:=⟨hM.len,fun r hr=>⟨(hM.row r hr).1,fun x hx=>((hM.row r hr).2 x hx).mono hl⟩⟩
theorem MI.set{h w K:Nat}{M:List (List Int)}(hM:MI h w K M){i:Nat}{r:List Int}(hr:r.length=w/\ ∀x∈r,Fits K x):MI h w K (M.set i r):=
 ⟨by rw[List.length_set];exact hM.len,fun q hq=>by rcases List.mem_or_eq_of_mem_set hq with e|e;exact hM.row q e;exact e▸hr⟩
def mI(w:Nat)(M:List (List Int)):V:= .im (imR w (rI M)) M.length
def mat(w:Nat)(M:List (List Int)):V:= .ag [.sc (.int .i64 M.length),.sc (.int .i64 w),.im (imR w (rI M)) M.length]
theorem imI_len(w:Nat)(M:List (List Int)):(imR w (rI M)).length=M.length:=by simp[imR,rI]
theorem imI_get{w i:Nat}{M:List (List Int)}(h:i<M.length):(imR w (rI M))[i]? =some (.im (ivR (M.getD i [])) w):=by
 unfold imR rI
 rw[List.getElem?_map,List.getElem?_map,getD_get' (d:=[]) h];rfl
theorem rI_rows{h w K:Nat}{M:List (List Int)}(hM:MI h w K M): ∀r∈rI M,r.length=w*2/\r.all clo=true:=by
 intro r hr
 obtain⟨q,hq,rfl⟩:=List.mem_map.1 hr
 refine⟨?_,ivR_clo q⟩
 rw[ivR_len,(hM.row q hq).1,Nat.mul_comm]
def swapI(M:List (List Int))(i j:Nat):List (List Int):=(M.set i (M.getD j [])).set j (M.getD i [])
def negI(r:List Int):List Int:=r.map fun x=> -x
def addI(a b:List Int)(k:Int):List Int:=a.mapIdx fun c x=>x+k*b.getD c 0
def actO(M:List (List Int))(o:OpL):List (List Int):=
 if o.kd=1 then swapI M o.i o.j else if o.kd=2 then M.set o.i (negI (M.getD o.i []))else M.set o.i (addI (M.getD o.i []) (M.getD o.j []) o.k)
theorem negI_len(r:List Int):(negI r).length=r.length:=by simp[negI]
theorem addI_len(a b:List Int)(k:Int):(addI a b k).length=a.length:=by simp[addI]
theorem negI_get{r:List Int}{c:Nat}(h:c<r.length):(negI r).getD c 0= -(r.getD c 0):=by
 unfold negI
 rw[List.getD_eq_getElem?_getD,List.getElem?_map,getD_get' (d:=0) h];rfl
theorem addI_get{a b:List Int}{k:Int}{c:Nat}(h:c<a.length):(addI a b k).getD c 0=a.getD c 0+k*b.getD c 0:=by
 unfold addI
 rw[List.getD_eq_getElem?_getD,List.getElem?_mapIdx,getD_get' (d:=0) h];rfl
theorem swapI_get{M:List (List Int)}{i j:Nat}(hi:i<M.length)(hj:j<M.length)(k:Nat):(swapI M i j).getD k []=if k=j then M.getD i []else if k=i then M.getD j []else M.getD k []:=by
 unfold swapI
 rw[getD_set (by simpa using hj),getD_set hi]
theorem swapI_len(M:List (List Int))(i j:Nat):(swapI M i j).length=M.length:=by simp[swapI]
theorem actO_len(M:List (List Int))(o:OpL):(actO M o).length=M.length:=by
 unfold actO
 split
 ·exact swapI_len _ _ _
 ·split<;>exact List.length_set
theorem fits_add{K L:Nat}{x y k:Int}(hx:Fits K x)(hy:Fits K y)(hk:Fits L k):Fits (K+L+1) (x+k*y):=by
 unfold Fits at*
 have h1:=Int.natAbs_add_le x (k*y)
 rw[Int.natAbs_mul]at h1
 have h2:k.natAbs*y.natAbs<=4294967296^L*4294967296^K:=Nat.mul_le_mul (Nat.le_of_lt hk) (Nat.le_of_lt hy)
 have h3:0<4294967296^L:=Nat.pow_pos om
 have h4:4294967296^K<=4294967296^L*4294967296^K:=Nat.le_mul_of_pos_left _ h3
 have e:4294967296^(K+L+1)=4294967296*(4294967296^L*4294967296^K):=by rw[Nat.pow_succ,Nat.pow_add,Nat.mul_comm (4294967296^K),Nat.mul_comm _ 4294967296]
 rw[e]
 generalize 4294967296^L*4294967296^K=P at*
 generalize 4294967296^K=T at*
 omega
theorem MI.act{h w K:Nat}{M:List (List Int)}(hM:MI h w K M){o:OpL}(ho:OkOp h o):MI h w (K+OL+1) (actO M o):=by
 have hM2:=hM.mono (show K<=K+OL+1 by omega)
 have gi:=hM.get ho.i
 unfold actO
 split
 ·rename_i h1
  have hj:o.j<h:=by rcases ho.c with⟨_,hj,_⟩|⟨e,_⟩|⟨e,_⟩<;>omega
  exact(hM2.set (hM2.get hj)).set (hM2.get ho.i)
 ·split
  ·refine hM2.set ⟨by rw[negI_len];exact gi.1,fun x hx=> ?_⟩
   obtain⟨y,hy,rfl⟩:=List.mem_map.1 hx
   have:=(hM2.get ho.i).2 y hy
   unfold Fits at*
   rwa[Int.natAbs_neg]
  ·rename_i h1 h2
   have hj:o.j<h:=by rcases ho.c with⟨e,_⟩|⟨e,_⟩|⟨_,hj,_⟩<;>omega
   refine hM2.set ⟨by rw[addI_len];exact gi.1,fun x hx=> ?_⟩
   obtain⟨c,hc,rfl⟩:=List.mem_iff_getElem.1 hx
   rw[addI_len]at hc
   have e:=addI_get (a:=M.getD o.i []) (b:=M.getD o.j []) (k:=o.k) hc
   rw[List.getD_eq_getElem?_getD,zlb (by rw[addI_len];exact hc)]at e
   simp only[Option.getD_some]at e
   rw[e]
   exact fits_add (hM.fit ho.i om) (hM.fit hj om) ho.k
def actsO:List (List Int)->List OpL->List (List Int)
 |M,[]=>M
 |M,o::l=>actsO (actO M o) l
end
section
open Go.RowKit
theorem cloneI_s(r:List Int)(w nx:Nat)(hr:r.length=w)(hw:w<=1000000):Inl Tryz.prog 84 [.im (ivR r) w] [] nx (.sl nx 0 w 2 none) [(nx,⟨68,ivR r,false⟩)] (nx+1):=by
 have hl:=ivR_len r
 rw[hr]at hl
 have h1:=ivR_one r
 have h2:(ivR r).take (w*2)=ivR r:=zla om
 have e2:2*w=w*2:=Nat.mul_comm _ _
 rw[e2]at hl
 refine Inl.run Tryz.func84 rfl Tryz.ntmps84 (by simp) qT fun B hB=> ?_
 by_cases h0:w=0
 ·subst h0
  have hrn:r=[]:=List.eq_nil_of_length_eq_zero hr
  subst hrn
  refine qWC ?_
  refine SO.nilq qS qS qS qS fun b=> ?_
  cases b
  ·refine qWC ?_
   exact retI_ret Tryz.results84 qS (Le.newSlice hB (Nat.le_succ _) qS qS rfl)
  ·refine qWC ?_
   exact retI_ret Tryz.results84 qS (Le.nilSlice hB qS)
 ·refine qWCf (Q3 @hl @h1 @h2) ?_
  exact retI_ret Tryz.results84 qS (Le.newSlice hB (Nat.le_succ _) qS qS (ivR_clo r))
def RowsI(w:Nat)(M:List (List Int))(nx:Nat)(x:V)(hp':List (Nat×Blk))(nx':Nat):Prop:=
 ∃o ids,RowsOk o ids M.length nx nx'/\x= .sl o 0 M.length 1 none/\hp'=(o,⟨41,slR 2 w ids,false⟩)::rowsH 68 ids (rI M)
theorem icopied_s{h w K:Nat}{M:List (List Int)}(hM:MI h w K M)(nx:Nat)(hn:h<=1000000)(hw:w<=1000000):InlQ Tryz.prog 77 [mI w M] [] nx (RowsI w M nx):=by
 have hl:=hM.len
 have gl:=imI_len w M
 unfold mI
 refine InlQ.run Tryz.func77 rfl Tryz.ntmps77 (by simp) qT fun B hB=> ?_
 refine qWC ?_
 refine SC.loop (fun x:Nat×List Nat=>⟨[(3,.sl nx 0 M.length 1 (some M.length)),(9,.im (imR w (rI M)) M.length),(10,.sc (.int .i64 M.length)),(11,.sc (.int .i64 x.1))],(nx,⟨41,slR 2 w x.2++List.replicate (h-x.1) (.sc (.slice none 0 0)),false⟩)::rowsH 68 x.2 (rI (M.take x.1)),nx+1+x.1,23⟩)
  (fun x=>x.1<=h/\RowsOk nx x.2 x.1 nx (nx+1+x.1)) (fun x=>h-x.1) (0,[]) ?_ ?_ ?_
 ·rw[<-hl]
  exact qM
 ·exact⟨znc _,⟨rfl,List.nodup_nil,by simp,by omega,by simp⟩⟩
 ·rintro⟨i,ids⟩ ⟨hi,hR⟩ K hK
  simp only at hi hR⊢
  have hlt: ∀j∈ids,j<nx+1+i:=fun j hj=>(hR.lt j hj).2
  by_cases hc:i<h
  ·have q1:=decide_eq_true (p:=(i:Int)<(M.length:Int)) om
   have g1:=imI_get (w:=w) (M:=M) (i:=i) om
   have hr:=hM.get hc
   have c1:=(cloneI_s (M.getD i []) w (nx+1+i) hr.1 hw).toQ
   have hts:=take_snoc (d:=[]) (l:=M) (i:=i) om
   have hcl:=ivR_clo (M.getD i [])
   have hcells:(slR 2 w ids++List.replicate (h-i) (V.sc (.slice none 0 0))).length=h:=by simp[slR_len,hR.len];omega
   have hset:(slR 2 w ids++List.replicate (h-i) (V.sc (.slice none 0 0))).set i (V.sl (nx+1+i) 0 w 2 none)=slR 2 w ids++V.sl (nx+1+i) 0 w 2 none::List.replicate (h-(i+1)) (V.sc (.slice none 0 0)):=by
    rw[List.set_append_right _ _ (by rw[slR_len,hR.len];exact znb _),slR_len,hR.len,Nat.sub_self,show h-i=(h-(i+1))+1 by omega,List.replicate_succ,List.set_cons_zero]
   generalize M.getD i []=r at*
   generalize hC:slR 2 w ids++List.replicate (h-i) (V.sc (.slice none 0 0))=C at*
   refine qWCf (Q4 @q1 @gl @g1 @gD) ?_
   refine SO.inlQ qS Tab.go84 qS qS (SInlQ.new c1 ?_ ?_ ?_)
   ·exact klc om (klr hlt)
   ·rintro x hp' nx' ⟨rfl,rfl,rfl⟩
    exact⟨.sl (znb _),⟨fun y hy=>Only.clo (List.all_eq_true.1 hcl y hy),trivial⟩⟩
   ·rintro x hp' nx' ⟨rfl,rfl,rfl⟩
    refine qWCf (Q2 @hcells @hset) ?_
    refine hK _ (i+1,ids++ [nx+1+i]) ?_ ⟨by simp only;omega,?_⟩ (by simp only;omega)
    ·rw[hts]
     have e:rI (M.take i++ [r])=rI (M.take i)++ [ivR r]:=by simp[rI]
     simp only[e]
     refine Le.rowIn ⟨nx,hB,by omega⟩ om (fun j hj=>by have:=hlt j hj;omega) om (fun h=>by have:=hlt _ h;omega) ?_ hcl (rI_clo _) (fun x hx=>List.eq_of_mem_replicate hx) ?_
     ·rw[rI_len,hR.len,List.length_take];omega
     ·exact qN
    ·refine⟨by simp[hR.len],?_,fun j hj=> ?_,by omega,?_⟩
     ·rw[List.nodup_append]
      exact⟨hR.nod,by simp,fun a ha b hb=>by simp at hb;subst hb;have:=hlt a ha;omega⟩
     ·rcases List.mem_append.1 hj with g|g
      ·have:=hR.lt j g;omega
      ·simp at g;omega
     ·intro h
      rcases List.mem_append.1 h with g|g
      ·exact hR.o2 g
      ·simp at g;omega
  ·have q1:=decide_eq_false (p:=(i:Int)<(M.length:Int)) om
   have hin:i=h:=by omega
   subst hin
   refine qWCf @q1 ?_
   refine retIQ_ret (.sl nx 0 M.length 1 none) ((nx,⟨41,slR 2 w ids,false⟩)::rowsH 68 ids (rI M)) (nx+1+i) Tryz.results77 qT ⟨nx,ids,by rw[hl];exact hR,rfl,rfl⟩ ?_
   rw[Nat.sub_self,zla om]
   simp only[List.replicate_zero,List.append_nil]
   exact Le.slots (leSl_cons qT (VLe.cap rfl rfl) leSl_nil) (fun _ _ h=>h) om
end
section
open Go.RowKit
def ActQ(w h o:Nat)(ids0:List Nat)(M:List (List Int))(nx:Nat)(x:V)(hp':List (Nat×Blk))(nx':Nat):Prop:=
 ∃ids',Ids o ids0 ids' h nx/\x= .tu []/\nx'=nx/\hp'=(o,⟨41,slR 2 w ids',false⟩)::rowsH 68 ids' (rI M)
theorem rowsI_swap{ty:TypeId}{ids:List Nat}{M:List (List Int)}{k q:Nat}(hn:ids.Nodup)(hl:ids.length=M.length)(hk:k<ids.length)(hq:q<ids.length): ∀id b,hget (rowsH ty (swapN ids k q) (rI (swapI M k q))) id=some b->hget (rowsH ty ids (rI M)) id=some b:=by
 refine rows_perm hn (by rw[rI_len];exact hl) fun i h1 h2=> ?_
 have h1':i<ids.length:=by simpa[swapN]using h1
 have e1:=swapN_get (ids:=ids) hk hq i
 have e2:=swapI_get (M:=M) (i:=k) (j:=q) om om i
 rw[rI_getD,e2]
 by_cases a:i=q
 ·exact⟨k,hk,by rw[e1,if_pos a],by rw[if_pos a,rI_getD]⟩
 ·by_cases b:i=k
  ·exact⟨q,hq,by rw[e1,if_neg a,if_pos b],by rw[if_neg a,if_pos b,rI_getD]⟩
  ·exact⟨i,h1',by rw[e1,if_neg a,if_neg b],by rw[if_neg a,if_neg b,rI_getD]⟩
theorem VMap.tu0{f:Nat->Nat}{D:Nat->Prop}:VMap f D (.tu []) (.tu []):=fun _ _ _ _ _ hx=>by
 cases hx with
 |tu h1 h2=>exact .tu h1 fun i x u hx=>by cases hx
def clS:V->Bool
 | .sc _=>true
 |x=>clo x
theorem VMap.clS{f:Nat->Nat}{D:Nat->Prop}{x:V}(h:clS x=true):VMap f D x x:=by
 cases x<;>first|exact VMap.sc _|exact VMap.clo h
theorem Le.rowsDown(pre:List (Nat×Blk)){B:Base}{sl sl':List (Nat×V)}{hp:List (Nat×Blk)}{o m z nx nx1 nt:Nat}{ty tr:TypeId}{ids:List Nat}{rs:List (List V)}(hpre: ∀i k,hget pre i=some k->k.cs.all clS=true)(hB: ∃m,B.Old m/\m<=nx)(ho:o<nx)(hi: ∀i∈ids,i<nx)(hrc: ∀r∈rs,r.all clo=true)
  (hs: ∀id k,hget (pre++(o,(⟨ty,slR z m ids,false⟩:Blk))::rowsH tr ids rs) id=some k->hget hp id=some k) (h1:mapSl (fun i=>i) (fun i=>i<nx) sl sl'):
  Le B ⟨sl,hp,nx1,nt⟩ ⟨sl',pre++(o,⟨ty,slR z m ids,false⟩)::rowsH tr ids rs,nx,nt⟩:=by
 obtain⟨m0,hB,hm0⟩:=hB
 refine Le.map (fun i=>i) (fun i=>i<nx) hB (fun i hi=>⟨by omega,rfl⟩) (fun i h=>h) (fun i j _ _ e=>e) h1 (fun i k' hk' hlt=> ?_)
 rw[hs i k' hk']
 rw[hget_app]at hk'
 cases hp:hget pre i with
 |some q=>
  rw[hp]at hk'
  cases hk'
  exact⟨_,rfl,rfl,rfl,fun j y hy=>⟨y,hy,VMap.clS (List.all_eq_true.1 (hpre i _ hp) y (List.mem_of_getElem? hy))⟩⟩
 | none=>
  rw[hp]at hk'
  simp only[hget]at hk'
  split at hk'
  ·cases hk'
   refine⟨_,rfl,rfl,rfl,fun j y hy=>⟨y,hy,?_⟩⟩
   obtain⟨q,hq,rfl⟩:=List.mem_map.1 (List.mem_of_getElem? hy)
   exact VMap.sl rfl (hi q hq)
  ·obtain⟨q,q1,q2,q3,rfl⟩:=rows_inv hk'
   exact BMap.clo (hrc _ (by rw[List.getD_eq_getElem?_getD,zlb q2];exact List.getElem_mem q2))
theorem pre0: ∀i k,hget ([]:List (Nat×Blk)) i=some k->k.cs.all clS=true:=fun i k h=>by cases h
theorem pre1{n:Nat}{b:Blk}(hb:b.cs.all clS=true): ∀i k,hget [(n,b)] i=some k->k.cs.all clS=true:=fun i k h=>by
 simp only[hget]at h
 split at h
 ·cases h;exact hb
 ·cases h
theorem less_new{n:Nat}{b:Blk}{r r':List (Nat×Blk)}(h: ∀id k,hget r' id=some k->hget r id=some k)(hn: ∀id k,hget r' id=some k->id≠n): ∀id k,hget r' id=some k->hget ((n,b)::r) id=some k:=by
 intro id k hk
 simp only[hget]
 rw[if_neg (hn id k hk)];exact h id k hk
theorem rows_lt{n:Nat}{o:Nat}{b:Blk}{tr:TypeId}{ids:List Nat}{rs:List (List V)}(ho:o<n)(hi: ∀i∈ids,i<n): ∀id k,hget ((o,b)::rowsH tr ids rs) id=some k->id<n:=by
 intro id k hk
 simp only[hget]at hk
 split at hk
 ·omega
 ·obtain⟨q,q1,q2,q3,rfl⟩:=rows_inv hk
  rw[<-q3];exact hi _ (getD_mem' q1)
set_option maxRecDepth 4000 in
theorem perfS_s{h w K o nx:Nat}{M:List (List Int)}{ids0 ids:List Nat}(hM:MI h w K M)(hI:Ids o ids0 ids h nx){op:OpL}(hi:op.i<h)(hj:op.j<h)(hn:h<=1000000)(hw:w<=1000000):
  InlQ Tryz.prog 102 [.sl o 0 h 1 none,.ag (opC op)] ((o,⟨41,slR 2 w ids,false⟩)::rowsH 68 ids (rI M)) nx (ActQ w h o ids0 (swapI M op.i op.j) nx):=by
 obtain⟨kd,i,j,k⟩:=op
 simp only at hi hj
 unfold opC sv
 simp only
 have hl:=hM.len
 have hidl:=hI.len
 have ho:=hI.o1
 have ho2:o+1-nx=0:=by omega
 have g1:=slR_len 2 w ids
 rw[hidl]at g1
 have gi:=slR_get (z:=2) (m:=w) (ids:=ids) (k:=i) om
 have gj:=slR_get (z:=2) (m:=w) (ids:=ids) (k:=j) om
 have hkl:=klB_rows (ty:=68) (rs:=rI M) (n:=nx) (fun j hj=>by have:=hI.lt j hj;omega)
 have hkl2:=klB_rows (ty:=68) (rs:=rI M) (n:=nx+1) (fun j hj=>by have:=hI.lt j hj;omega)
 have hsw:(ids.set i (ids.getD j 0)).set j (ids.getD i 0)=swapN ids i j:=rfl
 refine InlQ.run Tryz.func102 rfl Tryz.ntmps102 (by simp) qT fun B hB=> ?_
 refine qWDf (Q9 @g1 @gi @gj @hkl @hkl2 @slR_set @slR_len @hidl @hsw) ?_
 refine retIQ_normal (rs:=[]) (.tu []) ((o,⟨41,slR 2 w (swapN ids i j),false⟩)::rowsH 68 (swapN ids i j) (rI (swapI M i j))) nx Tryz.results102 rfl ⟨_,hI.swap hi hj,rfl,rfl,rfl⟩ ?_
 have hI2:=hI.swap hi hj
 refine Le.rowsDown [] pre0 ⟨nx,hB,znb _⟩ ho hI2.lt (rI_clo _) (less_new (less_cons (rowsI_swap hI.nod om om om)) (fun id k hk=>Nat.ne_of_lt (rows_lt ho hI2.lt id k hk))) ?_
 exact mapSl_cons rfl VMap.tu0 trivial
theorem setI_self{M:List (List Int)}{i:Nat}(h:i<M.length):M.set i (M.getD i [])=M:=by
 rw[List.getD_eq_getElem?_getD,zlb h]
 exact List.set_getElem_self h
def negPre(t:Nat)(r:List Int):List Int:=r.mapIdx fun c x=>if c<t then-x else x
theorem negPre_len{t:Nat}{r:List Int}:(negPre t r).length=r.length:=by simp[negPre]
theorem negPre_get{t c:Nat}{r:List Int}(h:c<r.length):(negPre t r).getD c 0=if c<t then-(r.getD c 0)else r.getD c 0:=by
 unfold negPre
 rw[List.getD_eq_getElem?_getD,List.getElem?_mapIdx,getD_get' (d:=0) h];rfl
theorem ilist_ext{a b:List Int}(h:a.length=b.length)(hx: ∀j,j<a.length->a.getD j 0=b.getD j 0):a=b:=by
 refine List.ext_getElem h fun j h1 h2=> ?_
 have:=hx j h1
 rw[List.getD_eq_getElem?_getD,List.getD_eq_getElem?_getD,zlb h1,zlb h2]at this
 simpa using this
theorem negPre_zero{r:List Int}:negPre 0 r=r:=ilist_ext negPre_len fun j hj=>by rw[negPre_get (by rw[negPre_len]at hj;exact hj),if_neg om]
theorem negPre_set{t:Nat}{r:List Int}(h:t<r.length):(negPre t r).set t (-(r.getD t 0))=negPre (t+1) r:=by
 refine ilist_ext (by rw[List.length_set,negPre_len,negPre_len]) fun j hj=> ?_
 rw[List.length_set,negPre_len]at hj
 rw[getD_set (by rw[negPre_len];exact h),negPre_get hj,negPre_get hj]
 by_cases e:j=t
 ·subst e;rw[if_pos rfl,if_pos om]
 ·rw[if_neg e]
  by_cases g:j<t
  ·rw[if_pos g,if_pos om]
  ·rw[if_neg g,if_neg om]
theorem negPre_end{w:Nat}{r:List Int}(h:r.length=w):negPre w r=negI r:=by
 refine ilist_ext (by rw[negPre_len,negI_len]) fun j hj=> ?_
 rw[negPre_len]at hj
 rw[negPre_get hj,if_pos om,negI_get hj]
set_option maxRecDepth 4000 in
theorem perfN_s{h w K o nx:Nat}{M:List (List Int)}{ids0 ids:List Nat}(hM:MI h w K M)(hK:K<=100000000000)(hI:Ids o ids0 ids h nx){op:OpL}(hi:op.i<h)(hn:h<=1000000)(hw:w<=1000000):
  InlQ Tryz.prog 103 [.sl o 0 h 1 none,.ag (opC op)] ((o,⟨41,slR 2 w ids,false⟩)::rowsH 68 ids (rI M)) nx (ActQ w h o ids0 (M.set op.i (negI (M.getD op.i []))) nx):=by
 obtain⟨kd,i,j,k⟩:=op
 simp only at hi
 unfold opC sv
 simp only
 have hl:=hM.len
 have hidl:=hI.len
 have ho:=hI.o1
 have g1:=slR_len 2 w ids
 rw[hidl]at g1
 have gi:=slR_get (z:=2) (m:=w) (ids:=ids) (k:=i) om
 have hr:=hM.get hi
 have hfit:=fun c hc=>hM.fit hi (j:=c) hc
 have hmem:=getD_mem' (ids:=ids) (k:=i) om
 have hidk:=hI.lt _ hmem
 have hne:ids.getD i 0≠o:=fun e=>hI.o2 (by rw[<-e];exact hmem)
 have e0:M.set i (negPre 0 (M.getD i []))=M:=by
  rw[negPre_zero]
  exact setI_self om
 refine InlQ.run Tryz.func103 rfl Tryz.ntmps103 (by simp) qT fun B hB=> ?_
 refine qWDf (Q2 @g1 @gi) ?_
 refine SC.loop (fun t:Nat=>⟨[(0,.sl o 0 h 1 none),(3,.pt nx 0),(10,.sl (ids.getD i 0) 0 w 2 none),(11,.sc (.int .i64 w)),(12,.sc (.int .i64 t))],(nx,⟨80,[.sc (.int .i64 kd),.sc (.int .i64 i),.sc (.int .i64 j),.sc (.bool (decide (k<0))),.im (lv (limbsOf k.natAbs)) (limbsOf k.natAbs).length],false⟩)::(o,⟨41,slR 2 w ids,false⟩)::rowsH 68 ids (rI (M.set i (negPre t (M.getD i [])))),nx+1,27⟩)
  (fun t=>t<=w) (fun t=>w-t) 0 ?_ ?_ ?_
 ·rw[e0]
  exact qM
 ·exact znc _
 ·intro t ht K2 hK2
  by_cases hc:t<w
  ·have q1:=decide_eq_true (p:=(t:Int)<(w:Int)) om
   have gR:=rows_get (ty:=68) (rs:=rI (M.set i (negPre t (M.getD i [])))) (k:=i) hI.nod om (by rw[rI_len];simp;omega)
   rw[rI_getD,getD_set om,if_pos rfl]at gR
   have hf:=hfit t hc
   have c1:=pneg_i _ K hf om
   have gl:=ivR_len (negPre t (M.getD i []))
   rw[negPre_len,hr.1]at gl
   have gd:=ivR_drop (l:=negPre t (M.getD i [])) (i:=t) (by rw[negPre_len];omega)
   rw[negPre_get om,if_neg om]at gd
   have gs:=ivR_set (l:=negPre t (M.getD i [])) (i:=t) (-((M.getD i []).getD t 0)) (by rw[negPre_len];omega)
   rw[negPre_set om]at gs
   have hrs:=rows_set (ty:=68) (rs:=rI (M.set i (negPre t (M.getD i [])))) (k:=i) (r:=ivR (negPre (t+1) (M.getD i []))) hI.nod om (by rw[rI_len];simp;omega)
   rw[rI_set,List.set_set]at hrs
   generalize(ivR (negPre t (M.getD i []))).drop ((t+1)*2)=D at*
   generalize hA:ivR (negPre t (M.getD i []))=A at*
   generalize(M.getD i []).getD t 0=x at*
   generalize hA':ivR (negPre (t+1) (M.getD i []))=A' at*
   have hkl:=klB_rows (ty:=68) (rs:=rI (M.set i (negPre t (M.getD i [])))) (n:=nx+1) (fun j hj=>by have:=hI.lt j hj;omega)
   have hkl2:=klB_rows (ty:=68) (rs:=rI (M.set i (negPre t (M.getD i [])))) (n:=nx+1+1) (fun j hj=>by have:=hI.lt j hj;omega)
   generalize hH:rowsH 68 ids (rI (M.set i (negPre t (M.getD i []))))=H at*
   generalize ids.getD i 0=idk at*
   unfold iv sv at c1
   unfold ivC sv at gd gs
   simp only[zl8,zl7]at gd
   have g2:t*2<A.length:=by omega
   refine qWDf (Q13 @q1 @g1 @gi @gR @gl @gd @gs @g2 @hrs @hkl @hkl2 @slR_len @hidl) ?_
   refine hK2 _ (t+1) ?_ om om
   refine Le.rowsDown [(nx,_)] (pre1 rfl) ⟨nx,hB,Nat.le_succ _⟩ om (fun c hc=>by have:=hI.lt c hc;omega) (rI_clo _) (fun id b hb=> ?_) ?_
   ·exact less_new (fun id b hb=>hb) (fun id b hb=>Nat.ne_of_lt (klc (Nat.lt_succ_self nx) (klc (Nat.lt_succ_of_lt ho) (klr fun c hc=>Nat.lt_succ_of_lt (hI.lt c hc))) id b hb)) id b hb
   ·exact qN
  ·have q1:=decide_eq_false (p:=(t:Int)<(w:Int)) om
   have htw:w=t:=by omega
   subst htw
   rw[negPre_end hr.1]
   refine qWDf @q1 ?_
   refine retIQ_normal (rs:=[]) (.tu []) ((o,⟨41,slR 2 w ids,false⟩)::rowsH 68 ids (rI (M.set i (negI (M.getD i []))))) nx Tryz.results103 rfl ⟨_,hI,rfl,rfl,rfl⟩ ?_
   refine Le.rowsDown [] pre0 ⟨nx,hB,znb _⟩ ho hI.lt (rI_clo _) (less_new (fun id k hk=>hk) (fun id k hk=>Nat.ne_of_lt (rows_lt ho hI.lt id k hk))) ?_
   exact mapSl_cons rfl VMap.tu0 trivial
end
section
open Go.RowKit
def addPreI(t:Nat)(a b:List Int)(k:Int):List Int:=a.mapIdx fun c x=>if c<t then x+k*b.getD c 0 else x
theorem addPreI_len{t:Nat}{a b:List Int}{k:Int}:(addPreI t a b k).length=a.length:=by simp[addPreI]
theorem addPreI_get{t c:Nat}{a b:List Int}{k:Int}(h:c<a.length):(addPreI t a b k).getD c 0=if c<t then a.getD c 0+k*b.getD c 0 else a.getD c 0:=by
 unfold addPreI
 rw[List.getD_eq_getElem?_getD,List.getElem?_mapIdx,getD_get' (d:=0) h];rfl
theorem addPreI_zero{a b:List Int}{k:Int}:addPreI 0 a b k=a:=ilist_ext addPreI_len fun j hj=>by rw[addPreI_get (by rw[addPreI_len]at hj;exact hj),if_neg om]
theorem addPreI_set{t:Nat}{a b:List Int}{k:Int}(h:t<a.length):(addPreI t a b k).set t (a.getD t 0+k*b.getD t 0)=addPreI (t+1) a b k:=by
 refine ilist_ext (by rw[List.length_set,addPreI_len,addPreI_len]) fun j hj=> ?_
 rw[List.length_set,addPreI_len]at hj
 rw[getD_set (by rw[addPreI_len];exact h),addPreI_get hj,addPreI_get hj]
 by_cases e:j=t
 ·subst e;rw[if_pos rfl,if_pos om]
 ·rw[if_neg e]
  by_cases g:j<t
  ·rw[if_pos g,if_pos om]
  ·rw[if_neg g,if_neg om]
theorem addPreI_end{w:Nat}{a b:List Int}{k:Int}(h:a.length=w):addPreI w a b k=addI a b k:=by
 refine ilist_ext (by rw[addPreI_len,addI_len]) fun j hj=> ?_
 rw[addPreI_len]at hj
 rw[addPreI_get hj,if_pos om,addI_get hj]
theorem fits_mulK{K L:Nat}{y k:Int}(hy:Fits K y)(hk:Fits L k):Fits (K+L) (k*y):=by
 unfold Fits at*
 rw[Int.natAbs_mul]
 have h3:0<4294967296^K:=Nat.pow_pos om
 have e:4294967296^(K+L)=4294967296^L*4294967296^K:=by rw[Nat.pow_add,Nat.mul_comm]
 rw[e]
 calc k.natAbs*y.natAbs<=k.natAbs*4294967296^K:=Nat.mul_le_mul (znb _) (Nat.le_of_lt hy)
  _<4294967296^L*4294967296^K:=Nat.mul_lt_mul_of_pos_right hk h3
set_option maxRecDepth 4000 in
theorem perfA_s{h w K o nx:Nat}{M:List (List Int)}{ids0 ids:List Nat}(hM:MI h w K M)(hK:K<=100000000000)(hI:Ids o ids0 ids h nx){op:OpL}(hi:op.i<h)(hj:op.j<h)(hij:op.i≠op.j)(hk:Fits OL op.k)(hn:h<=1000000)(hw:w<=1000000):
  InlQ Tryz.prog 105 [.sl o 0 h 1 none,.ag (opC op)] ((o,⟨41,slR 2 w ids,false⟩)::rowsH 68 ids (rI M)) nx (ActQ w h o ids0 (M.set op.i (addI (M.getD op.i []) (M.getD op.j []) op.k)) nx):=by
 obtain⟨kd,i,j,k⟩:=op
 simp only at hi hj hij hk
 unfold opC sv
 simp only
 have hl:=hM.len
 have hidl:=hI.len
 have ho:=hI.o1
 have g1:=slR_len 2 w ids
 rw[hidl]at g1
 have gi:=slR_get (z:=2) (m:=w) (ids:=ids) (k:=i) om
 have gj:=slR_get (z:=2) (m:=w) (ids:=ids) (k:=j) om
 have hr:=hM.get hi
 have hrj:=hM.get hj
 have hfitj:=fun c hc=>hM.fit hj (j:=c) hc
 have hfit:=fun c hc=>hM.fit hi (j:=c) hc
 have hmem:=getD_mem' (ids:=ids) (k:=i) om
 have hidk:=hI.lt _ hmem
 have hne:ids.getD i 0≠o:=fun e=>hI.o2 (by rw[<-e];exact hmem)
 have hmemj:=getD_mem' (ids:=ids) (k:=j) om
 have hidj:=hI.lt _ hmemj
 have hnej:ids.getD j 0≠o:=fun e=>hI.o2 (by rw[<-e];exact hmemj)
 have hneij:ids.getD i 0≠ids.getD j 0:=fun e=>hij (nodup_getD hI.nod om om e)
 have e0:M.set i (addPreI 0 (M.getD i []) (M.getD j []) k)=M:=by
  rw[addPreI_zero]
  exact setI_self om
 refine InlQ.run Tryz.func105 rfl Tryz.ntmps105 (by simp) qT fun B hB=> ?_
 refine qWDf (Q2 @g1 @gj) ?_
 refine SC.loop (fun t:Nat=>⟨[(0,.sl o 0 h 1 none),(3,.pt nx 0),(10,.sl (ids.getD j 0) 0 w 2 none),(11,.sc (.int .i64 w)),(12,.sc (.int .i64 t))],(nx,⟨80,[.sc (.int .i64 kd),.sc (.int .i64 i),.sc (.int .i64 j),.sc (.bool (decide (k<0))),.im (lv (limbsOf k.natAbs)) (limbsOf k.natAbs).length],false⟩)::(o,⟨41,slR 2 w ids,false⟩)::rowsH 68 ids (rI (M.set i (addPreI t (M.getD i []) (M.getD j []) k))),nx+1,38⟩)
  (fun t=>t<=w) (fun t=>w-t) 0 ?_ ?_ ?_
 ·rw[e0]
  exact qM
 ·exact znc _
 ·intro t ht K2 hK2
  by_cases hc:t<w
  ·have q1:=decide_eq_true (p:=(t:Int)<(w:Int)) om
   have gR:=rows_get (ty:=68) (rs:=rI (M.set i (addPreI t (M.getD i []) (M.getD j []) k))) (k:=i) hI.nod om (by rw[rI_len];simp;omega)
   rw[rI_getD,getD_set om,if_pos rfl]at gR
   have hf:=hfit t hc
   have gRj:=rows_get (ty:=68) (rs:=rI (M.set i (addPreI t (M.getD i []) (M.getD j []) k))) (k:=j) hI.nod om (by rw[rI_len];simp;omega)
   rw[rI_getD,getD_set om,if_neg (fun e=>hij e.symm)]at gRj
   have hfj:=hfitj t hc
   have hOL:=OL_le
   have c1:=pmul_i k _ (K+OL) (hk.mono om) (hfj.mono om) om
   have c2:=padd_i _ _ (K+OL) (hf.mono om) (fits_mulK hfj hk) om
   have gdj:=ivR_drop (l:=M.getD j []) (i:=t) om
   have glj:=ivR_len (M.getD j [])
   rw[hrj.1]at glj
   have gl:=ivR_len (addPreI t (M.getD i []) (M.getD j []) k)
   rw[addPreI_len,hr.1]at gl
   have gd:=ivR_drop (l:=addPreI t (M.getD i []) (M.getD j []) k) (i:=t) (by rw[addPreI_len];omega)
   rw[addPreI_get om,if_neg om]at gd
   have gs:=ivR_set (l:=addPreI t (M.getD i []) (M.getD j []) k) (i:=t) ((M.getD i []).getD t 0+k*(M.getD j []).getD t 0) (by rw[addPreI_len];omega)
   rw[addPreI_set om]at gs
   have hrs:=rows_set (ty:=68) (rs:=rI (M.set i (addPreI t (M.getD i []) (M.getD j []) k))) (k:=i) (r:=ivR (addPreI (t+1) (M.getD i []) (M.getD j []) k)) hI.nod om (by rw[rI_len];simp;omega)
   rw[rI_set,List.set_set]at hrs
   generalize(ivR (addPreI t (M.getD i []) (M.getD j []) k)).drop ((t+1)*2)=D at*
   generalize hA:ivR (addPreI t (M.getD i []) (M.getD j []) k)=A at*
   generalize(M.getD i []).getD t 0=x at*
   generalize(ivR (M.getD j [])).drop ((t+1)*2)=Dj at*
   generalize hAj:ivR (M.getD j [])=Aj at*
   generalize(M.getD j []).getD t 0=y at*
   generalize hA':ivR (addPreI (t+1) (M.getD i []) (M.getD j []) k)=A' at*
   have hkl:=klB_rows (ty:=68) (rs:=rI (M.set i (addPreI t (M.getD i []) (M.getD j []) k))) (n:=nx+1) (fun j hj=>by have:=hI.lt j hj;omega)
   have hkl2:=klB_rows (ty:=68) (rs:=rI (M.set i (addPreI t (M.getD i []) (M.getD j []) k))) (n:=nx+1+1) (fun j hj=>by have:=hI.lt j hj;omega)
   generalize hH:rowsH 68 ids (rI (M.set i (addPreI t (M.getD i []) (M.getD j []) k)))=H at*
   generalize ids.getD i 0=idk at*
   generalize ids.getD j 0=idj at*
   unfold iv sv at c1 c2
   unfold ivC sv at gd gs gdj
   simp only[zl8,zl7]at gd gdj
   have g2j:t*2<Aj.length:=by omega
   have g2:t*2<A.length:=by omega
   refine qWDf (Q18 @q1 @g1 @gi @gj @gR @gRj @gl @glj @gd @gdj @gs @g2 @g2j @hrs @hkl @hkl2 @slR_len @hidl) ?_
   refine hK2 _ (t+1) ?_ om om
   refine Le.rowsDown [(nx,_)] (pre1 rfl) ⟨nx,hB,Nat.le_succ _⟩ om (fun c hc=>by have:=hI.lt c hc;omega) (rI_clo _) (fun id b hb=> ?_) ?_
   ·exact less_new (fun id b hb=>hb) (fun id b hb=>Nat.ne_of_lt (klc (Nat.lt_succ_self nx) (klc (Nat.lt_succ_of_lt ho) (klr fun c hc=>Nat.lt_succ_of_lt (hI.lt c hc))) id b hb)) id b hb
   ·exact qN
  ·have q1:=decide_eq_false (p:=(t:Int)<(w:Int)) om
   have htw:w=t:=by omega
   subst htw
   rw[addPreI_end hr.1]
   refine qWDf @q1 ?_
   refine retIQ_normal (rs:=[]) (.tu []) ((o,⟨41,slR 2 w ids,false⟩)::rowsH 68 ids (rI (M.set i (addI (M.getD i []) (M.getD j []) k)))) nx Tryz.results105 rfl ⟨_,hI,rfl,rfl,rfl⟩ ?_
   refine Le.rowsDown [] pre0 ⟨nx,hB,znb _⟩ ho hI.lt (rI_clo _) (less_new (fun id k hk=>hk) (fun id k hk=>Nat.ne_of_lt (rows_lt ho hI.lt id k hk))) ?_
   exact mapSl_cons rfl VMap.tu0 trivial
end
section
open Go.RowKit
set_option maxRecDepth 4000 in
theorem imValid_s{h w K:Nat}{M:List (List Int)}(hM:MI h w K M)(hK:K<=100000000000)(hn:h<=1000000)(hw:w<=1000000):Spec Tryz.prog 46 [mat w M] (.sc (.bool true)):=by
 have hl:=hM.len
 have gl:=imI_len w M
 unfold mat
 refine qF Tryz.func46 Tryz.ntmps46 fun B hB=> ?_
 have p1:decide ((M.length:Int)<0)=false:=decide_eq_false om
 have p2:decide ((w:Int)<0)=false:=decide_eq_false om
 refine qWf (Q3 @p1 @p2 @gl) ?_
 refine SC.loop (fun i:Nat=>⟨[(1,.pt 0 0),(24,.im (imR w (rI M)) M.length),(25,.sc (.int .i64 M.length)),(26,.sc (.int .i64 i))],[(0,⟨28,[.sc (.int .i64 M.length),.sc (.int .i64 w),.im (imR w (rI M)) M.length],false⟩)],1,46⟩)
  (fun i=>i<=h) (fun i=>h-i) 0 ?_ ?_ ?_
 ·exact qL
 ·exact znc _
 ·intro i hi K2 hK2
  by_cases hc:i<h
  ·have q1:=decide_eq_true (p:=(i:Int)<(M.length:Int)) om
   have g1:=imI_get (w:=w) (M:=M) (i:=i) om
   have hr:=hM.get hc
   have glr:=ivR_len (M.getD i [])
   refine qWf (Q4 @q1 @g1 @gl @gD) ?_
   refine SC.loop (fun t:Nat=>⟨[(1,.pt 0 0),(24,.im (imR w (rI M)) M.length),(25,.sc (.int .i64 M.length)),(26,.sc (.int .i64 i)),(35,.im (ivR (M.getD i [])) w),(36,.sc (.int .i64 w)),(37,.sc (.int .i64 t))],[(0,⟨28,[.sc (.int .i64 M.length),.sc (.int .i64 w),.im (imR w (rI M)) M.length],false⟩)],1,46⟩)
    (fun t=>t<=w) (fun t=>w-t) 0 ?_ ?_ ?_
   ·exact qL
   ·exact znc _
   ·intro t ht K3 hK3
    by_cases hc2:t<w
    ·have q2:=decide_eq_true (p:=(t:Int)<(w:Int)) om
     have c1:=pvalid_i _ K (hM.fit hc hc2) om
     have gd:=ivR_drop (l:=M.getD i []) (i:=t) om
     have g2:t*2<(ivR (M.getD i [])).length:=by omega
     generalize(ivR (M.getD i [])).drop ((t+1)*2)=D at*
     generalize ivR (M.getD i [])=A at*
     generalize(M.getD i []).getD t 0=x at*
     unfold iv sv at c1
     unfold ivC sv at gd
     simp only[zl8,zl7]at gd
     refine qWf (Q3 @q2 @gd @g2) ?_
     refine hK3 _ (t+1) ?_ om om
     exact qL
    ·have q2:=decide_eq_false (p:=(t:Int)<(w:Int)) om
     refine qWf @q2 ?_
     refine hK2 _ (i+1) ?_ om om
     exact qL
  ·have q1:=decide_eq_false (p:=(i:Int)<(M.length:Int)) om
   refine qWf @q1 ?_
   exact qE Tryz.results46
theorem ivec_s{w K:Nat}{r:List Int}(hl:r.length=w)(hf: ∀x∈r,Fits K x)(hK:K<=100000000000)(hw:w<=1000000):Spec Tryz.prog 62 [.im (ivR r) w] (.sc (.bool true)):=by
 have glr:=ivR_len r
 refine qF Tryz.func62 Tryz.ntmps62 fun B hB=> ?_
 refine qW ?_
 refine SC.loop (fun t:Nat=>⟨[(0,.im (ivR r) w),(3,.sc (.int .i64 t))],[],0,16⟩) (fun t=>t<=w) (fun t=>w-t) 0 ?_ ?_ ?_
 ·exact qL
 ·exact znc _
 ·intro t ht K3 hK3
  by_cases hc2:t<w
  ·have q2:=decide_eq_true (p:=(t:Int)<(w:Int)) om
   have c1:=rvalid_i _ K (hf _ (getD_mem (d:=0) (l:=r) (i:=t) om)) om
   have gd:=ivR_drop (l:=r) (i:=t) om
   have g2:t*2<(ivR r).length:=by omega
   generalize(ivR r).drop ((t+1)*2)=D at*
   generalize ivR r=A at*
   generalize r.getD t 0=x at*
   unfold iv sv at c1
   unfold ivC sv at gd
   simp only[zl8,zl7]at gd
   refine qWf (Q3 @q2 @gd @g2) ?_
   refine hK3 _ (t+1) ?_ om om
   exact qL
  ·have q2:=decide_eq_false (p:=(t:Int)<(w:Int)) om
   refine qWf @q2 ?_
   exact qE Tryz.results62
set_option maxRecDepth 4000 in
theorem iValid_s{h w K:Nat}{M:List (List Int)}(hM:MI h w K M)(hK:K<=100000000000)(hn:h<=1000000)(hw:w<=1000000):Spec Tryz.prog 33 [mat w M] (.sc (.bool true)):=by
 have hl:=hM.len
 have gl:=imI_len w M
 unfold mat
 refine qF Tryz.func33 Tryz.ntmps33 fun B hB=> ?_
 have p1:decide ((M.length:Int)<0)=false:=decide_eq_false om
 have p2:decide ((w:Int)<0)=false:=decide_eq_false om
 refine qWf (Q3 @p1 @p2 @gl) ?_
 refine SC.loop (fun i:Nat=>⟨[(1,.pt 0 0),(3,.sc (.int .i64 i))],[(0,⟨28,[.sc (.int .i64 M.length),.sc (.int .i64 w),.im (imR w (rI M)) M.length],false⟩)],1,45⟩)
  (fun i=>i<=h) (fun i=>h-i) 0 ?_ ?_ ?_
 ·exact qL
 ·exact znc _
 ·intro i hi K2 hK2
  by_cases hc:i<h
  ·have q1:=decide_eq_true (p:=(i:Int)<(M.length:Int)) om
   have g1:=imI_get (w:=w) (M:=M) (i:=i) om
   have hr:=hM.get hc
   have c1:=ivec_s hr.1 hr.2 hK hw
   refine qWf (Q4 @q1 @g1 @gl @gD) ?_
   refine hK2 _ (i+1) ?_ om om
   exact qL
  ·have q1:=decide_eq_false (p:=(i:Int)<(M.length:Int)) om
   refine qWf @q1 ?_
   exact qE Tryz.results33
theorem isized_s{h w K:Nat}{M:List (List Int)}(hM:MI h w K M)(hK:K<=100000000000)(hn:h<=1000000)(hw:w<=1000000):Spec Tryz.prog 32 [mat w M,.sc (.int .i64 h),.sc (.int .i64 w)] (.sc (.bool true)):=by
 have hl:=hM.len
 have c1:=iValid_s hM hK hn hw
 unfold mat at*
 rw[hl]at*
 refine qF Tryz.func32 Tryz.ntmps32 fun B hB=> ?_
 refine qW ?_
 exact qE Tryz.results32
theorem isameV_s{w K:Nat}{r:List Int}(hl:r.length=w)(hf: ∀x∈r,Fits K x)(hK:K<=100000000000)(hw:w<=1000000):Spec Tryz.prog 56 [.im (ivR r) w,.im (ivR r) w] (.sc (.bool true)):=by
 have glr:=ivR_len r
 refine qF Tryz.func56 Tryz.ntmps56 fun B hB=> ?_
 refine qW ?_
 refine SC.loop (fun t:Nat=>⟨[(0,.im (ivR r) w),(1,.im (ivR r) w),(5,.sc (.int .i64 t))],[],0,27⟩) (fun t=>t<=w) (fun t=>w-t) 0 ?_ ?_ ?_
 ·exact qL
 ·exact znc _
 ·intro t ht K3 hK3
  by_cases hc2:t<w
  ·have q2:=decide_eq_true (p:=(t:Int)<(w:Int)) om
   have hx:=hf _ (getD_mem (d:=0) (l:=r) (i:=t) om)
   have hs:=fits_len hx
   have c1:=same_i (r.getD t 0) (r.getD t 0) (by unfold Short;omega) (by unfold Short;omega)
   rw[decide_eq_true rfl]at c1
   have gd:=ivR_drop (l:=r) (i:=t) om
   have g2:t*2<(ivR r).length:=by omega
   generalize(ivR r).drop ((t+1)*2)=D at*
   generalize ivR r=A at*
   generalize r.getD t 0=x at*
   unfold iv sv at c1
   unfold ivC sv at gd
   simp only[zl8,zl7]at gd
   refine qWf (Q3 @q2 @gd @g2) ?_
   refine hK3 _ (t+1) ?_ om om
   exact qL
  ·have q2:=decide_eq_false (p:=(t:Int)<(w:Int)) om
   refine qWf @q2 ?_
   exact qE Tryz.results56
set_option maxRecDepth 4000 in
theorem isame_s{h w K:Nat}{M:List (List Int)}(hM:MI h w K M)(hK:K<=100000000000)(hn:h<=1000000)(hw:w<=1000000):Spec Tryz.prog 17 [mat w M,mat w M] (.sc (.bool true)):=by
 have hl:=hM.len
 have gl:=imI_len w M
 unfold mat
 refine qF Tryz.func17 Tryz.ntmps17 fun B hB=> ?_
 refine qWf @gl ?_
 refine SC.loop (fun i:Nat=>⟨[(2,.pt 0 0),(3,.pt 1 0),(5,.sc (.int .i64 i))],[(1,⟨28,[.sc (.int .i64 M.length),.sc (.int .i64 w),.im (imR w (rI M)) M.length],false⟩),(0,⟨28,[.sc (.int .i64 M.length),.sc (.int .i64 w),.im (imR w (rI M)) M.length],false⟩)],2,46⟩)
  (fun i=>i<=h) (fun i=>h-i) 0 ?_ ?_ ?_
 ·exact qL
 ·exact znc _
 ·intro i hi K2 hK2
  by_cases hc:i<h
  ·have q1:=decide_eq_true (p:=(i:Int)<(M.length:Int)) om
   have g1:=imI_get (w:=w) (M:=M) (i:=i) om
   have hr:=hM.get hc
   have c1:=isameV_s hr.1 hr.2 hK hw
   refine qWf (Q4 @q1 @g1 @gl @gD) ?_
   refine hK2 _ (i+1) ?_ om om
   exact qL
  ·have q1:=decide_eq_false (p:=(i:Int)<(M.length:Int)) om
   refine qWf @q1 ?_
   exact qE Tryz.results17
end
section
open Go.RowKit
variable {P:Program} {B:Base}
theorem wp_monoQ{o:Oper}{a:Act}{w:World}{K:Act->World->Prop}{Q Q':Exit->Act->World->Prop}(h: ∀e a w,e≠Exit.normal->Q e a w->Q' e a w)(hh:o.wp P a w K Q):o.wp P a w K Q':=by
 unfold Oper.wp at*
 generalize(execOp a.eval o).run P w=r at*
 cases r with
 | ok n w'=>
  cases n<;>simp only[Oper.upon]at hh⊢ <;>
   first
    |exact hh
    |exact Calls.mono hh (fun e w'' he=>by cases e<;>first|exact he|exact h _ _ _ (by simp) he|exact(let⟨x,y,z⟩:=he;⟨x,y,h _ _ _ (by simp) z⟩))
 |halt x w'=>cases x<;>simp only[Oper.upon]at hh⊢ <;>first|exact h _ _ _ (by simp) hh|exact hh
def ordN(l:List Oper):Bool:=(List.range l.length).all fun i=>match l[i]?with|some o=>o.after.all fun e=> !Region.binds .any e||decide (e.on<i)|none=>true
def stepJ(J:(Nat->Bool)->SS->Prop)(L:Nat->Bool)(i:Nat)(Q:Exit->SS->Prop):Exit->SS->Prop
 | .normal,s=>J (addL L i) s
 |e,s=>Q e s
theorem region_inv{J:(Nat->Bool)->SS->Prop}{id:Nat}{l:List Oper}{s:SS}{Q:Exit->SS->Prop}(hm:P.follows .mixedOrders=true)(hord:ordN l=true)(h0:J (fun _=>false) s)
  (hstep: ∀L s i o,(∀m j,L m=true->depB l.toArray m j=true->L j=true)->J L s->l[i]? =some o->L i=false->(∀m,depB l.toArray i m=true->L m=true)->SOps P B l.toArray [o] (stepJ J L i Q) s)
  (hend: ∀L s,(∀i,i<l.length->L i=true)->J L s->Q .normal s):SWp P B (.region id l.toArray true) Q s:=by
 intro S rho A a w hr
 have dep: ∀(L:Nat->Bool) (i:Nat) (o:Oper),l.toArray[i]? =some o->(∀e∈o.after.toList,Region.binds .any e=true->L e.on=true)-> ∀m,depB l.toArray i m=true->L m=true:=by
  intro L i o ho hd m hm
  unfold depB at hm
  rw[ho]at hm
  simp only[Array.any_eq_true']at hm
  obtain⟨e,he,hb⟩:=hm
  rw[Bool.and_eq_true,beq_iff_eq]at hb
  rw[<-hb.2];exact hd e (by simpa using he) hb.1
 refine wp_region_any hm (wpAny_act (fun L a w=>(∀m j,L m=true->depB l.toArray m j=true->L j=true)/\ ∃s S rho A,J L s/\Rel B S rho A s a w) ?_ ?_ ?_ _ _ a _ (by simp) ?_ ?_)
 ·intro i o ho e he hb
  have hi:=(Array.getElem?_eq_some_iff.1 ho).1
  simp at hi
  have:=List.all_eq_true.1 hord i (List.mem_range.2 hi)
  rw[List.getElem?_toArray]at ho
  rw[ho]at this
  simp only at this
  rw[Array.all_eq_true']at this
  have:=this e (by simpa using he)
  rw[hb]at this
  simpa using this
 ·rintro L a w i o ho hi hd ⟨hcl,s,S,rho,A,hJ,hr⟩
  have hdep:=dep L i o ho hd
  have ho':=ho
  rw[List.getElem?_toArray]at ho'
  have h:=hstep L s i o hcl hJ ho' hi hdep S rho A a w hr
  have hcl': ∀m j,(if m=i then true else L m)=true->depB l.toArray m j=true->(if j=i then true else L j)=true:=by
   intro m j hm hj
   by_cases e:j=i
   ·rw[if_pos e]
   ·rw[if_neg e]
    by_cases e2:m=i
    ·subst e2;exact hdep j hj
    ·rw[if_neg e2]at hm;exact hcl m j hm hj
  have hK: ∀a w,wpList P l.toArray (Post B (stepJ J L i Q)) [] a w->(∀m j,(if m=i then true else L m)=true->depB l.toArray m j=true->(if j=i then true else L j)=true)/\ ∃s S rho A,J (fun j=>if j=i then true else L j) s/\Rel B S rho A s a w:=
   fun a w ⟨S,rho,A,s,hJ,hr⟩=>⟨hcl',s,S,rho,A,hJ,hr⟩
  have hQ: ∀e a w,e≠Exit.normal->Post B (stepJ J L i Q) e a w->Post B Q e a w:=by
   intro e a w hne hp
   cases e<;>first|exact absurd rfl hne|exact hp
  unfold wpOp
  rw[ho]
  simp only[wpList]at h⊢
  split
  ·rename_i hw
   rw[if_pos hw]at h
   rcases h with h|⟨h1,a2,w2,h2⟩
   ·exact .inl (Oper.wp_mono hK (wp_monoQ hQ h))
   ·exact .inr ⟨h1,a2,w2,hQ _ _ _ (by simp) h2⟩
  ·rename_i hw
   rw[if_neg hw]at h
   exact hK _ _ h
 ·rintro L a w hL ⟨_,s,S,rho,A,hJ,hr⟩
  exact⟨S,rho,A,s,hend L s (fun i hi=>hL i (by simpa using hi)) hJ,hr⟩
 ·unfold unl
  refine Nat.le_trans (List.length_filter_le _ _) (by simp)
 ·have hf:(fun j=>(Array.replicate l.toArray.size false).getD j false)=fun _=>false:=by
   funext j
   rw[Array.getD_eq_getD_getElem?,Array.getElem?_replicate]
   split<;>rfl
  rw[hf]
  have g:=Grow.drawn w (w.drawn+1)
  exact⟨(fun m j h=>by cases h),s,S,rho,A,h0,⟨fun t=>(hr.slots t).mono (fun b hb=>⟨hb,rfl⟩) (fun id h=>⟨h,rfl,fun _=>g.szAt⟩),hr.mem.grow g,hr.alt,hr.nt,hr.defs⟩⟩
theorem SC.inv(J:(Nat->Bool)->SS->Prop){id:Nat}{l:List Oper}{cs:List Code}{s:SS}{Q:Exit->SS->Prop}(hm:P.follows .mixedOrders=true)(hord:ordN l=true)(h0:J (fun _=>false) s)
  (hstep: ∀L s i o,(∀m j,L m=true->depB l.toArray m j=true->L j=true)->J L s->l[i]? =some o->L i=false->(∀m,depB l.toArray i m=true->L m=true)->SO P B l.toArray [o] [] (stepJ J L i (thenQ (SC P B cs Q) Q)) s)
  (hend: ∀L s,(∀i,i<l.length->L i=true)->J L s->SC P B cs Q s):SC P B (.region id l.toArray true::cs) Q s:=by
 refine region_inv (J:=J) hm hord h0 (fun L s i o hcl hJ ho hi hd=> ?_) (fun L s hL hJ=>hend L s hL hJ)
 have h:=hstep L s i o hcl hJ ho hi hd
 have e:thenQ (SC P B [] (stepJ J L i (thenQ (SC P B cs Q) Q))) (stepJ J L i (thenQ (SC P B cs Q) Q))=stepJ J L i (thenQ (SC P B cs Q) Q):=by
  funext e s
  cases e<;>rfl
 unfold SO at h
 rw[e]at h
 exact h
end
section
open Go.RowKit
section
variable {P:Program} {B:Base}
theorem hasId_some: ∀{l:List (Nat×Blk)} {id:Nat},hasId l id=true-> ∃k,hget l id=some k:=by
 intro l id
 induction l with
 |nil=>intro h;cases h
 | cons p r ih=>
  intro h
  simp only[hasId,Bool.or_eq_true,decide_eq_true_eq]at h
  by_cases e:id=p.1
  ·exact⟨p.2,by simp[hget,e]⟩
  ·obtain⟨k,hk⟩:=ih (h.resolve_left e)
   exact⟨k,by simp[hget,e,hk]⟩
theorem SInlQ.part{ops:Array Oper}{l:List Oper}{cs:List Code}{Q:Exit->SS->Prop}{f:Nat}{ys:List V}{d:Option Nat}(pre:List (Nat×Blk)){hpS:List (Nat×Blk)}{nx nt:Nat}{sl:List (Nat×V)}{C:V->List (Nat×Blk)->Nat->Prop}(p:Nat->Prop)(hI:InlQ P f ys hpS nx C)(hm: ∀id k,hget pre id=some k-> ¬p id)(hS: ∀id k,hget hpS id=some k->p id)
  (hC: ∀x hp' nx',C x hp' nx'->Only p x/\OnlyH p hp'/\ ∀id k,hget hp' id=some k->p id) (k: ∀x hp' nx',C x hp' nx'->SO P B ops l cs Q ⟨putS sl d x,pre++hp',nx',nt⟩):SInlQ P B f ys d ops l cs Q ⟨sl,pre++hpS,nx,nt⟩:=by
 have hsub: ∀id k,hget hpS id=some k->hget (pre++hpS) id=some k:=by
  intro id q hq
  rw[hget_app]
  cases e:hget pre id with
  |none=>exact hq
  |some q'=>exact absurd (hS id q hq) (hm id q' e)
 have hrest: ∀i,p i->hasId (restH (pre++hpS) hpS) i=false:=by
  intro i hi
  rw[hasId_rest]
  cases e:hasId hpS i with
  |true=>simp
  | false=>
   have h1:hasId pre i=false:=by
    cases h:hasId pre i with
    |false=>rfl
    |true=>obtain⟨q,hq⟩:=hasId_some h;exact absurd hi (hm i q hq)
   have:hasId (pre++hpS) i=false:=by
    have happ: ∀(a b:List (Nat×Blk)) (i:Nat),hasId (a++b) i=(hasId a i||hasId b i):=by
     intro a b i
     induction a with
     |nil=>simp[hasId]
     |cons p r ih=>simp[hasId,ih,Bool.or_assoc]
    rw[happ,h1,e];rfl
   rw[this];rfl
 refine⟨hpS,C,hsub,hI,fun x hp' nx' h=> ?_⟩
 obtain⟨h1,h2,h3⟩:=hC x hp' nx' h
 refine⟨h1.mono hrest,h2.mono hrest,SO.weak (Le.less (fun id q hq=> ?_) (znb _)) (k x hp' nx' h)⟩
 rw[hget_app]at hq⊢
 cases e:hget pre id with
 | some q'=>
  rw[e]at hq
  cases hq
  have e2:hget hp' id=none:=by
   cases e3:hget hp' id with
   |none=>rfl
   |some q'=>exact absurd (h3 id q' e3) (hm id _ e)
  rw[e2]
  simp only
  rw[hget_rest,if_neg,hget_app,e]
  intro hh
  obtain⟨q',hq'⟩:=hasId_some hh
  exact absurd (hS id q' hq') (hm id _ e)
 |none=>
  rw[e]at hq
  simp only at hq
  rw[hq]
end
end
section
open Go.RowKit
theorem rowsI_new{w nx:Nat}{M:List (List Int)}{x:V}{hp':List (Nat×Blk)}{nx':Nat}(h:RowsI w M nx x hp' nx'):Only (fun i=>nx<=i) x/\OnlyH (fun i=>nx<=i) hp'/\ ∀id k,hget hp' id=some k->nx<=id:=by
 obtain⟨o,ids,hR,rfl,rfl⟩:=h
 refine⟨.sl hR.o1.1,⟨fun y hy=> ?_,OnlyH.rows (rI_clo M)⟩,fun id k hk=> ?_⟩
 ·obtain⟨i,hi,rfl⟩:=List.mem_map.1 hy
  exact .sl (hR.lt i hi).1
 ·simp only[hget]at hk
  split at hk
  ·rename_i e;rw[e];exact hR.o1.1
  ·obtain⟨q,q1,_,q3,_⟩:=rows_inv hk
   rw[<-q3];exact(hR.lt _ (getD_mem' q1)).1
def inR(o:Nat)(ids:List Nat)(i:Nat):Prop:=i=o\/i∈ids
theorem inR_rows{o:Nat}{b:Blk}{tr:TypeId}{ids0 ids:List Nat}{rs:List (List V)}(hs: ∀i∈ids,i∈ids0): ∀id k,hget ((o,b)::rowsH tr ids rs) id=some k->inR o ids0 id:=by
 intro id k hk
 simp only[hget]at hk
 split at hk
 ·exact .inl ‹_›
 ·obtain⟨q,q1,q2,q3,rfl⟩:=rows_inv hk
  rw[<-q3];exact .inr (hs _ (getD_mem' q1))
theorem actQ_part{w h o nx:Nat}{ids0:List Nat}{M:List (List Int)}{x:V}{hp':List (Nat×Blk)}{nx':Nat}(hq:ActQ w h o ids0 M nx x hp' nx'):Only (inR o ids0) x/\OnlyH (inR o ids0) hp'/\ ∀id k,hget hp' id=some k->inR o ids0 id:=by
 obtain⟨ids',hI,rfl,rfl,rfl⟩:=hq
 refine⟨.tu (fun _ h=>by cases h),⟨fun y hy=> ?_,OnlyH.rows (rI_clo M)⟩,inR_rows hI.sub⟩
 obtain⟨i,hi,rfl⟩:=List.mem_map.1 hy
 exact .sl (.inr (hI.sub i hi))
def pfn:Nat->Nat
 |1=>102
 |2=>103
 |_=>105
def perfs:List V:=[.sc .nilFunc,.sc (.func (.func 102) #[] #[]),.sc (.func (.func 103) #[] #[]),.sc (.func (.func 105) #[] #[])]
theorem perfs_s:Spec Tryz.prog 78 [] (.ag perfs):=by
 unfold perfs
 refine qF Tryz.func78 Tryz.ntmps78 fun B hB=> ?_
 refine qWD ?_
 exact qE Tryz.results78
theorem perf_s{h w K o nx:Nat}{M:List (List Int)}{ids0 ids:List Nat}(hM:MI h w K M)(hK:K<=100000000000)(hI:Ids o ids0 ids h nx){op:OpL}(ho:OkOp h op)(hn:h<=1000000)(hw:w<=1000000):
  InlQ Tryz.prog (pfn op.kd) [.sl o 0 h 1 none,.ag (opC op)] ((o,⟨41,slR 2 w ids,false⟩)::rowsH 68 ids (rI M)) nx (ActQ w h o ids0 (actO M op) nx):=by
 unfold actO
 rcases ho.c with⟨e,hj,_,_⟩|⟨e,_,_⟩|⟨e,hj,hij⟩
 ·rw[e,if_pos rfl];exact perfS_s hM hI ho.i hj hn hw
 ·rw[e,if_neg om,if_pos rfl];exact perfN_s hM hK hI ho.i hn hw
 ·rw[e,if_neg om,if_neg om];exact perfA_s hM hK hI ho.i hj hij ho.k hn hw
end
section
open Go.RowKit
theorem actsO_drop{l:List OpL}{i:Nat}{M:List (List Int)}(h:i<l.length):actsO M (l.drop i)=actsO (actO M (l.getD i ⟨0,0,0,0⟩)) (l.drop (i+1)):=by
 rw[List.drop_eq_getElem_cons h,actsO,List.getD_eq_getElem?_getD,zlb h];rfl
theorem ivR_same{l:List Int}{i:Nat}(h:i<l.length):setAll (ivR l) (i*2) (ivC (l.getD i 0))=ivR l:=by
 rw[ivR_set _ h]
 congr 1
 rw[List.getD_eq_getElem?_getD,zlb h]
 exact List.set_getElem_self h
theorem pre2{n m:Nat}{b c:Blk}(hb:b.cs.all clS=true)(hc:c.cs.all clS=true): ∀i k,hget [(n,b),(m,c)] i=some k->k.cs.all clS=true:=fun i k h=>by
 simp only[hget]at h
 split at h
 ·cases h;exact hb
 ·split at h
  ·cases h;exact hc
  ·cases h
theorem pre3{n m q:Nat}{b c d:Blk}(hb:b.cs.all clS=true)(hc:c.cs.all clS=true)(hd:d.cs.all clS=true): ∀i k,hget [(n,b),(m,c),(q,d)] i=some k->k.cs.all clS=true:=fun i k h=>by
 simp only[hget]at h
 split at h
 ·cases h;exact hb
 ·split at h
  ·cases h;exact hc
  ·split at h
   ·cases h;exact hd
   ·cases h
theorem acts_snoc: ∀(l:List OpL) (o:OpL) (M:List (List Int)),actsO M (l++ [o])=actO (actsO M l) o
 |[],_,_=>rfl
 |p::l,o,M=>by rw[zl8,actsO,actsO,acts_snoc l o]
theorem acts_succ{l:List OpL}{i:Nat}(h:i<l.length){M:List (List Int)}:actsO M (l.take (i+1))=actO (actsO M (l.take i)) (l.getD i ⟨0,0,0,0⟩):=by
 rw[List.take_succ_eq_append_getElem h,acts_snoc,List.getD_eq_getElem?_getD,zlb h];rfl
set_option maxRecDepth 8000 in
theorem iapply_s{h w K:Nat}{M:List (List Int)}{l:List OpL}(hM:MI h w K M)(hl: ∀o∈l,OkOp h o)(hS: ∀i,i<=l.length->MI h w K (actsO M (l.take i)))(hK:K<=90000000000)(hll:l.length<=1000000000)(hn:h<=1000000)(hw:w<=1000000):
  Spec Tryz.prog 48 [.im (opsC l) l.length,mat w M] (.tu [mat w (actsO M l),.sc (.int .i64 0)]):=by
 have hml:=hM.len
 have c1:=imValid_s hM om hn hw
 have c2:=ivalid_s hl hn om
 have c3:=icopied_s hM (nx:=2) hn hw
 have c4:=perfs_s
 have e0:actsO M (l.drop 0)=actsO M l:=rfl
 generalize hF:actsO M l=F at*
 unfold mat mI at*
 rw[hml]at c1 c3⊢
 unfold perfs at c4
 refine qF Tryz.func48 Tryz.ntmps48 fun B hB=> ?_
 refine qWD ?_
 refine SO.inlQ qS Tab.go77 qS qS (SInlQ.newR c3 ?_ ?_ ?_)
 ·exact klc om (klc om kln)
 ·exact fun x hp' nx' h=>rowsI_new h
 rintro x hp' nx ⟨o,ids0,hR,rfl,rfl⟩
 have ho:=hR.o1
 have hI0:Ids o ids0 ids0 h nx:=⟨by rw[hR.len,hml],hR.nod,fun i h=>h,fun i h=>(hR.lt i h).2,hR.o1.2,hR.o2⟩
 rw[hml]
 refine qWD ?_
 refine SC.loop (fun x:Nat×List (List Int)×List Nat=>⟨[(3,.pt 0 0),(4,.pt 1 0),(6,.sl o 0 h 1 none),(7,.pt nx 0),(29,.im (opsC l) l.length),(30,.sc (.int .i64 l.length)),(31,.sc (.int .i64 x.1))],(nx,⟨125,[.sc .nilFunc,.sc (.func (.func 102) #[] #[]),.sc (.func (.func 103) #[] #[]),.sc (.func (.func 105) #[] #[])],false⟩)::(1,⟨28,[.sc (.int .i64 0),.sc (.int .i64 0),.sc (.slice none 0 0)],false⟩)::(0,⟨28,[.sc (.int .i64 h),.sc (.int .i64 w),.im (imR w (rI M)) h],false⟩)::(o,⟨41,slR 2 w x.2.2,false⟩)::rowsH 68 x.2.2 (rI x.2.1),nx+1,73⟩)
  (fun x=>x.1<=l.length/\x.2.1=actsO M (l.take x.1)/\Ids o ids0 x.2.2 h nx/\actsO x.2.1 (l.drop x.1)=F) (fun x=>l.length-x.1) (0,M,ids0) ?_ ?_ ?_
 ·exact qM
 ·exact⟨znc _,rfl,hI0,e0⟩
 ·rintro⟨i,A,ids⟩ ⟨hi,hAe,hI,hF2⟩ K2 hK2
  simp only at hi hAe hI hF2⊢
  have hA:=hS i hi
  rw[<-hAe]at hA
  by_cases hc:i<l.length
  ·have q1:=decide_eq_true (p:=(i:Int)<(l.length:Int)) om
   have g1:=opsC_drop hc
   have g2:i*5<(opsC l).length:=by rw[opsC_len];omega
   have hok:=hl _ (getD_mem (d:=⟨0,0,0,0⟩) hc)
   rw[actsO_drop hc]at hF2
   have hA':=hS (i+1) om
   rw[acts_succ hc,<-hAe]at hA'
   have hAe':actO A (l.getD i ⟨0,0,0,0⟩)=actsO M (l.take (i+1)):=by rw[acts_succ hc,<-hAe]
   have c5:=perf_s hA om (hI.more (Nat.le_add_right nx 2)) hok hn hw
   have hnx2:nx+1+1=nx+2:=rfl
   generalize hop:l.getD i ⟨0,0,0,0⟩=op at*
   obtain⟨kd,a,b,k⟩:=op
   generalize(opsC l).drop ((i+1)*5)=D at*
   unfold opC at g1 c5
   simp only[zl8,zl7]at g1 c5
   (repeat(first|refine DO.nilF (fun i=>i+1-nx) (by simp(disch:=omega) only[go_sem,↓reduceIte,zn1,zn2,zn3,zn4,zn5,zn6,reduceCtorEq,zn7,zi1,zi2,if_pos,if_neg,Int.reduceAdd,zld,zle,Option.map_some,Option.map_none,znd,zne,znf]<;>rfl) (by kernel_rfl) ?_|(with_reducible refine SC.condB (qTf (Q3 @q1 @g1 @g2)) ?_;first|with_reducible refine pickT ?_|with_reducible refine pickF ?_)|(with_reducible refine qO ?_)|((with_reducible apply SC.region);(focus(simp(disch:=omega) only[go_sem,↓reduceIte,zn1,zn2,zn3,zn4,zn5,zn6,reduceCtorEq,zn7,zi1,zi2,if_pos,if_neg,Int.reduceAdd,q1,g1,g2];rfl)))|(with_reducible refine SC.draw Tab.mixed rfl ?_;(repeat(refine DO.run (qTf (Q3 @q1 @g1 @g2)) ?_));refine DO.nilF (fun i=>i+1-nx) (by simp(disch:=omega) only[go_sem,↓reduceIte,zn1,zn2,zn3,zn4,zn5,zn6,reduceCtorEq,zn7,zi1,zi2,if_pos,if_neg,Int.reduceAdd,zld,zle,Option.map_some,Option.map_none,znd,zne,znf]<;>rfl) (by kernel_rfl) ?_)))
   refine SC.drawT 6 (by simp only[zl3,zl4];rfl) (by simp only[zl9,zl2];rfl) Tab.mixed ?_ (by kernel_rfl) ?_
   ·simp(disch:=omega) only[go_sem,↓reduceIte,zn1,zn2,zn3,zn4,zn5,zn6,reduceCtorEq,zn7,zi1,zi2,if_pos,if_neg,Int.reduceAdd]
    intro id q hq
    repeat' (split at hq)
    all_goals first|omega|exact klr (n:=nx+1+1) (fun j hj=>by have:=hI.lt j hj;omega) id q hq
   obtain⟨_,_,hcs⟩:=hok
   simp only at hcs
   have hkd:kd=1\/kd=2\/kd=3:=by rcases hcs with⟨e,_⟩|⟨e,_⟩|⟨e,_⟩<;>omega
   clear hcs
   rcases hkd with rfl|rfl|rfl
   all_goals
    refine qWD ?_
    show SO _ _ _ _ _ _ _
    refine SO.inlQ qS (by rfl) qS qS (SInlQ.part [(nx+1,_),(nx,_),(1,_),(0,_)] (inR o ids0) c5 ?_ ?_ ?_ ?_)
    ·refine fun id k hk=> ?_
     have hnot: ∀i,i<2\/nx<=i-> ¬inR o ids0 i:=by
      rintro i hi' (e|e)
      ·omega
      ·have:=hR.lt i e;omega
     simp only[hget]at hk
     refine hnot id ?_
     repeat' (first|(split at hk;first|omega|skip)|(cases hk;done))
    ·exact inR_rows hI.sub
    ·exact fun x hp' nx' h=>actQ_part h
    rintro x hp' nx' ⟨ids',hI',rfl,rfl,rfl⟩
    refine qWD ?_
    have hI2:Ids o ids0 ids' h nx:=⟨hI'.len,hI'.nod,hI'.sub,fun i hi'=>hI0.lt i (hI'.sub i hi'),hI0.o1,hI'.o2⟩
    refine hK2 _ (i+1,_,ids') ?_ ⟨by simp only;omega,hAe',hI2,hF2⟩ (by simp only;omega)
    refine Le.rowsDown [(nx,_),(1,_),(0,_)] (pre3 rfl rfl rfl) ⟨0,hB,znc _⟩ (by first|omega|(simp only;omega)) (fun c hc=>by have:=hI2.lt c hc;first|omega|(simp only;omega)) (rI_clo _) (fun id b hb=> ?_) ?_
    ·exact less_new (fun id b hb=>hb) (fun id b hb=>Nat.ne_of_lt (klc (Nat.lt_succ_self nx) (klc (show 1<nx+1 by omega) (klc (show 0<nx+1 by omega) (rows_lt (show o<nx+1 by omega) fun c hc=>Nat.lt_succ_of_lt (hI2.lt c hc)))) id b hb)) id b hb
    ·exact qN
  ·have q1:=decide_eq_false (p:=(i:Int)<(l.length:Int)) om
   have hil:i=l.length:=by omega
   have hAF:A=F:=by rw[<-hF2,hil,List.drop_length];rfl
   subst hAF
   have hidl:=hI.len
   have hal:=hA.len
   have g1:=slR_len 2 w ids
   rw[hidl]at g1
   clear hK2 hF2 c1 c2 c3 c4 e0
   (repeat(first|refine DO.nilF (fun i=>i+1-nx) (by simp(disch:=omega) only[go_sem,↓reduceIte,zn1,zn2,zn3,zn4,zn5,zn6,reduceCtorEq,zn7,zi1,zi2,if_pos,if_neg,Int.reduceAdd,zld,zle,Option.map_some,Option.map_none,znd,zne,znf]<;>rfl) (by kernel_rfl) ?_|(with_reducible refine SC.condB (qTf (Q2 @q1 @g1)) ?_;first|with_reducible refine pickT ?_|with_reducible refine pickF ?_)|(with_reducible refine qO ?_)|((with_reducible apply SC.region);(focus(simp(disch:=omega) only[go_sem,↓reduceIte,zn1,zn2,zn3,zn4,zn5,zn6,reduceCtorEq,zn7,zi1,zi2,if_pos,if_neg,Int.reduceAdd,q1,g1];rfl)))|(with_reducible refine SC.draw Tab.mixed rfl ?_;(repeat(refine DO.run (qTf (Q2 @q1 @g1)) ?_));refine DO.nilF (fun i=>i+1-nx) (by simp(disch:=omega) only[go_sem,↓reduceIte,zn1,zn2,zn3,zn4,zn5,zn6,reduceCtorEq,zn7,zi1,zi2,if_pos,if_neg,Int.reduceAdd,zld,zle,Option.map_some,Option.map_none,znd,zne,znf]<;>rfl) (by kernel_rfl) ?_)))
   refine SC.loop (fun i:Nat=>⟨[(3,.pt 0 0),(4,.pt 1 0),(6,.sl o 0 h 1 none),(43,.sl o 0 h 1 none),(44,.sc (.int .i64 h)),(45,.sc (.int .i64 i))],(1,⟨28,[.sc (.int .i64 0),.sc (.int .i64 0),.sc (.slice none 0 0)],false⟩)::(0,⟨28,[.sc (.int .i64 h),.sc (.int .i64 w),.im (imR w (rI M)) h],false⟩)::(o,⟨41,slR 2 w ids,false⟩)::rowsH 68 ids (rI A),nx,73⟩)
    (fun i=>i<=h) (fun i=>h-i) 0 ?_ ?_ ?_
   ·refine Le.rowsDown [(1,_),(0,_)] (pre2 rfl rfl) ⟨0,hB,znc _⟩ ho.2 hI.lt (rI_clo _) (fun id b hb=> ?_) ?_
    ·exact less_new (fun id b hb=>hb) (fun id b hb=>Nat.ne_of_lt (klc (show 1<nx by omega) (klc (show 0<nx by omega) (rows_lt ho.2 hI.lt)) id b hb)) id b hb
    ·exact qN
   ·exact znc _
   ·intro i hi K3 hK3
    by_cases hc2:i<h
    ·have q2:=decide_eq_true (p:=(i:Int)<(h:Int)) om
     have gi:=slR_get (z:=2) (m:=w) (ids:=ids) (k:=i) om
     have gR:=rows_get (ty:=68) (rs:=rI A) (k:=i) hI.nod om (by rw[rI_len];omega)
     rw[rI_getD]at gR
     have hrs:=rows_set (ty:=68) (rs:=rI A) (k:=i) (r:=ivR (A.getD i [])) hI.nod om (by rw[rI_len];omega)
     rw[rI_set,setI_self om]at hrs
     have hkl:=klB_rows (ty:=68) (rs:=rI A) (n:=nx+1) (fun j hj=>by have:=hI.lt j hj;omega)
     have hmem:=getD_mem' (ids:=ids) (k:=i) om
     have hidk:=hI.lt _ hmem
     have hidk2:=(hR.lt _ (hI.sub _ hmem)).1
     have hne:ids.getD i 0≠o:=fun e=>hI.o2 (by rw[<-e];exact hmem)
     have hr:=hA.get hc2
     have glr:=ivR_len (A.getD i [])
     rw[hr.1]at glr
     have hgd:=fun t (ht:t<w)=>ivR_drop (l:=A.getD i []) (i:=t) om
     have hgs:=fun t (ht:t<w)=>ivR_same (l:=A.getD i []) (i:=t) om
     have hfx:=fun t (ht:t<w)=>hr.2 _ (getD_mem (d:=0) (l:=A.getD i []) (i:=t) om)
     generalize hH:rowsH 68 ids (rI A)=H at*
     generalize A.getD i []=r at*
     generalize ids.getD i 0=idk at*
     (repeat(first|refine DO.nilF (fun i=>i+1-nx) (by simp(disch:=omega) only[go_sem,↓reduceIte,zn1,zn2,zn3,zn4,zn5,zn6,reduceCtorEq,zn7,zi1,zi2,if_pos,if_neg,Int.reduceAdd,zld,zle,Option.map_some,Option.map_none,znd,zne,znf]<;>rfl) (by kernel_rfl) ?_|(with_reducible refine SC.condB (qTf (Q3 @q2 @gi @g1)) ?_;first|with_reducible refine pickT ?_|with_reducible refine pickF ?_)|(with_reducible refine qO ?_)|((with_reducible apply SC.region);(focus(simp(disch:=omega) only[go_sem,↓reduceIte,zn1,zn2,zn3,zn4,zn5,zn6,reduceCtorEq,zn7,zi1,zi2,if_pos,if_neg,Int.reduceAdd,q2,gi,g1];rfl)))|(with_reducible refine SC.draw Tab.mixed rfl ?_;(repeat(refine DO.run (qTf (Q3 @q2 @gi @g1)) ?_));refine DO.nilF (fun i=>i+1-nx) (by simp(disch:=omega) only[go_sem,↓reduceIte,zn1,zn2,zn3,zn4,zn5,zn6,reduceCtorEq,zn7,zi1,zi2,if_pos,if_neg,Int.reduceAdd,zld,zle,Option.map_some,Option.map_none,znd,zne,znf]<;>rfl) (by kernel_rfl) ?_)))
     refine SC.loop (fun t:Nat=>⟨[(3,.pt 0 0),(4,.pt 1 0),(6,.sl o 0 h 1 none),(43,.sl o 0 h 1 none),(44,.sc (.int .i64 h)),(45,.sc (.int .i64 i)),(11,.sl idk 0 w 2 none),(49,.sl idk 0 w 2 none),(50,.sc (.int .i64 w)),(51,.sc (.int .i64 t))],(1,⟨28,[.sc (.int .i64 0),.sc (.int .i64 0),.sc (.slice none 0 0)],false⟩)::(0,⟨28,[.sc (.int .i64 h),.sc (.int .i64 w),.im (imR w (rI M)) h],false⟩)::(o,⟨41,slR 2 w ids,false⟩)::H,nx,73⟩)
      (fun t=>t<=w) (fun t=>w-t) 0 ?_ ?_ ?_
     ·exact qM
     ·exact znc _
     ·intro t ht K4 hK4
      by_cases hc3:t<w
      ·have q3:=decide_eq_true (p:=(t:Int)<(w:Int)) om
       have gd:=hgd t hc3
       have gs:=hgs t hc3
       have hlx:=fits_len (hfx t hc3)
       have c6:=clone_s (lv (limbsOf (r.getD t 0).natAbs)) (List.all_eq_true.2 fun x hx=>by obtain⟨n,_,rfl⟩:=List.mem_map.1 hx;rfl) (List.all_eq_true.2 fun x hx=>by obtain⟨n,_,rfl⟩:=List.mem_map.1 hx;rfl) (by rw[lv_len];omega)
       rw[lv_len]at c6
       generalize(ivR r).drop ((t+1)*2)=D at*
       generalize hRR:ivR r=RR at*
       generalize r.getD t 0=x at*
       unfold ivC sv at gd gs
       simp only[zl8,zl7]at gd
       have g2:t*2<RR.length:=by omega
       refine qWDf (Q8 @q3 @gR @glr @gd @gs @g2 @hrs @hkl) ?_
       refine hK4 _ (t+1) ?_ om om
       rw[<-hH]
       refine Le.rowsDown [(1,_),(0,_)] (pre2 rfl rfl) ⟨0,hB,znc _⟩ ho.2 hI.lt (rI_clo _) (fun id b hb=> ?_) ?_
       ·exact less_new (fun id b hb=>hb) (fun id b hb=>Nat.ne_of_lt (klc (show 1<nx by omega) (klc (show 0<nx by omega) (rows_lt ho.2 hI.lt)) id b hb)) id b hb
       ·exact qN
      ·have q3:=decide_eq_false (p:=(t:Int)<(w:Int)) om
       (repeat(first|refine DO.nilF (fun i=>i+1-nx) (by simp(disch:=omega) only[go_sem,↓reduceIte,zn1,zn2,zn3,zn4,zn5,zn6,reduceCtorEq,zn7,zi1,zi2,if_pos,if_neg,Int.reduceAdd,zld,zle,Option.map_some,Option.map_none,znd,zne,znf]<;>rfl) (by kernel_rfl) ?_|(with_reducible refine SC.condB (qTf @q3) ?_;first|with_reducible refine pickT ?_|with_reducible refine pickF ?_)|(with_reducible refine qO ?_)|((with_reducible apply SC.region);(focus(simp(disch:=omega) only[go_sem,↓reduceIte,zn1,zn2,zn3,zn4,zn5,zn6,reduceCtorEq,zn7,zi1,zi2,if_pos,if_neg,Int.reduceAdd,q3];rfl)))|(with_reducible refine SC.draw Tab.mixed rfl ?_;(repeat(refine DO.run (qTf @q3) ?_));refine DO.nilF (fun i=>i+1-nx) (by simp(disch:=omega) only[go_sem,↓reduceIte,zn1,zn2,zn3,zn4,zn5,zn6,reduceCtorEq,zn7,zi1,zi2,if_pos,if_neg,Int.reduceAdd,zld,zle,Option.map_some,Option.map_none,znd,zne,znf]<;>rfl) (by kernel_rfl) ?_)))
       refine hK3 _ (i+1) ?_ om om
       exact qM
    ·have q2:=decide_eq_false (p:=(i:Int)<(h:Int)) om
     have hAl:=hA.len
     by_cases h0:h=0
     ·have hids:ids=[]:=List.eq_nil_of_length_eq_zero om
      have hAn:A=[]:=List.eq_nil_of_length_eq_zero om
      subst hids;subst hAn;subst h0
      (repeat(first|refine DO.nilF (fun i=>i+1-nx) (by simp(disch:=omega) only[go_sem,↓reduceIte,zn1,zn2,zn3,zn4,zn5,zn6,reduceCtorEq,zn7,zi1,zi2,if_pos,if_neg,Int.reduceAdd,zld,zle,Option.map_some,Option.map_none,znd,zne,znf]<;>rfl) (by kernel_rfl) ?_|(with_reducible refine SC.condB (qTf @q2) ?_;first|with_reducible refine pickT ?_|with_reducible refine pickF ?_)|(with_reducible refine qO ?_)|((with_reducible apply SC.region);(focus(simp(disch:=omega) only[go_sem,↓reduceIte,zn1,zn2,zn3,zn4,zn5,zn6,reduceCtorEq,zn7,zi1,zi2,if_pos,if_neg,Int.reduceAdd,q2];rfl)))|(with_reducible refine SC.draw Tab.mixed rfl ?_;(repeat(refine DO.run (qTf @q2) ?_));refine DO.nilF (fun i=>i+1-nx) (by simp(disch:=omega) only[go_sem,↓reduceIte,zn1,zn2,zn3,zn4,zn5,zn6,reduceCtorEq,zn7,zi1,zi2,if_pos,if_neg,Int.reduceAdd,zld,zle,Option.map_some,Option.map_none,znd,zne,znf]<;>rfl) (by kernel_rfl) ?_)))
      exact qE Tryz.results48
     ·have hrows: ∀C:List V,∀k,k<ids.length->hget ((1,(⟨28,C,false⟩:Blk))::(0,⟨28,[.sc (.int .i64 h),.sc (.int .i64 w),.im (imR w (rI M)) h],false⟩)::(o,⟨41,slR 2 w ids,false⟩)::rowsH 68 ids (rI A)) (ids.getD k 0)=some ⟨68,(rI A).getD k [],false⟩:=by
       intro C k hk
       have hm:=getD_mem' hk
       have:=hR.lt _ (hI.sub _ hm)
       simp only[hget]
       rw[if_neg om,if_neg om,if_neg (fun e=>hI.o2 (by rw[<-e];exact hm))]
       exact rows_get hI.nod hk (by rw[rI_len];omega)
      have hfz:=fun C:List V=>frz_rowsA (n:=4) (z:=2) (m:=w) (ty:=68) (ids:=ids) (rs:=rI A) om (by rw[rI_len];omega) (hrows C) (rI_rows hA)
      have hsl:=slR_some (z:=2) (m:=w) (ids:=ids) om
      have ht:(slR 2 w ids).take h=slR 2 w ids:=zla om
      rw[hAl]
      (repeat(first|refine DO.nilF (fun i=>i+1-nx) (by simp(disch:=omega) only[go_sem,↓reduceIte,zn1,zn2,zn3,zn4,zn5,zn6,reduceCtorEq,zn7,zi1,zi2,if_pos,if_neg,Int.reduceAdd,zld,zle,Option.map_some,Option.map_none,znd,zne,znf]<;>rfl) (by kernel_rfl) ?_|(with_reducible refine SC.condB (qTf @q2) ?_;first|with_reducible refine pickT ?_|with_reducible refine pickF ?_)|(with_reducible refine qO ?_)|((with_reducible apply SC.region);(focus(simp(disch:=omega) only[go_sem,↓reduceIte,zn1,zn2,zn3,zn4,zn5,zn6,reduceCtorEq,zn7,zi1,zi2,if_pos,if_neg,Int.reduceAdd,q2];rfl)))|(with_reducible refine SC.draw Tab.mixed rfl ?_;(repeat(refine DO.run (qTf @q2) ?_));refine DO.nilF (fun i=>i+1-nx) (by simp(disch:=omega) only[go_sem,↓reduceIte,zn1,zn2,zn3,zn4,zn5,zn6,reduceCtorEq,zn7,zi1,zi2,if_pos,if_neg,Int.reduceAdd,zld,zle,Option.map_some,Option.map_none,znd,zne,znf]<;>rfl) (by kernel_rfl) ?_)))
      exact retQ_ret Tryz.results48 qS (qSf (Q4 @hfz @hsl @ht @g1)) rfl
end
section
open Go.RowKit
theorem Le.rowsG(pre:List (Nat×Blk)){B:Base}{sl sl':List (Nat×V)}{hp:List (Nat×Blk)}{o nx nx1 nt:Nat}{ty tr:TypeId}{ids:List Nat}{rs:List (List V)}{C':List V}(hB: ∃m,B.Old m/\m<=nx)
  (hpre: ∀i k,hget pre i=some k->(∀y∈k.cs,VMap (fun i=>i) (fun i=>i<nx) y y)/\hget hp i=some k)
  (ho: ∃C,hget hp o=some ⟨ty,C,false⟩/\ ∀(j:Nat) (y:V),C'[j]? =some y-> ∃x,C[j]? =some x/\VMap (fun i=>i) (fun i=>i<nx) x y)
  (hr: ∀k,k<ids.length->k<rs.length-> ∃C,hget hp (ids.getD k 0)=some ⟨tr,C,false⟩/\ ∀(j:Nat) (y:V),(rs.getD k [])[j]? =some y-> ∃x,C[j]? =some x/\VMap (fun i=>i) (fun i=>i<nx) x y)
  (h1:mapSl (fun i=>i) (fun i=>i<nx) sl sl'):
  Le B ⟨sl,hp,nx1,nt⟩ ⟨sl',pre++(o,⟨ty,C',false⟩)::rowsH tr ids rs,nx,nt⟩:=by
 obtain⟨m0,hB,hm0⟩:=hB
 refine Le.map (fun i=>i) (fun i=>i<nx) hB (fun i hi=>⟨by omega,rfl⟩) (fun i h=>h) (fun i j _ _ e=>e) h1 (fun i k' hk' hlt=> ?_)
 rw[hget_app]at hk'
 cases hp:hget pre i with
 |some q=>
  rw[hp]at hk'
  cases hk'
  obtain⟨p1,p2⟩:=hpre i _ hp
  rw[p2]
  exact⟨_,rfl,rfl,rfl,fun j y hy=>⟨y,hy,p1 y (List.mem_of_getElem? hy)⟩⟩
 | none=>
  rw[hp]at hk'
  simp only[hget]at hk'
  split at hk'
  ·rename_i e
   cases hk'
   obtain⟨C,h2,h3⟩:=ho
   subst e
   rw[h2]
   exact⟨_,rfl,rfl,rfl,h3⟩
  ·obtain⟨q,q1,q2,q3,rfl⟩:=rows_inv hk'
   obtain⟨C,h2,h3⟩:=hr q q1 q2
   subst q3
   rw[h2]
   exact⟨_,rfl,rfl,rfl,h3⟩
theorem Le.rowsTo(pre:List (Nat×Blk)){B:Base}{sl sl':List (Nat×V)}{hp:List (Nat×Blk)}{o nx nx1 nt:Nat}{ty tr:TypeId}{ids:List Nat}{rs:List (List V)}{C':List V}(hB: ∃m,B.Old m/\m<=nx)
  (hpre: ∀i k,hget pre i=some k->k.cs.all clS=true/\hget hp i=some k)
  (ho: ∃C,hget hp o=some ⟨ty,C,false⟩/\ ∀(j:Nat) (y:V),C'[j]? =some y-> ∃x,C[j]? =some x/\VMap (fun i=>i) (fun i=>i<nx) x y)
  (hr: ∀k,k<ids.length->k<rs.length-> ∃C,hget hp (ids.getD k 0)=some ⟨tr,C,false⟩/\ ∀(j:Nat) (y:V),(rs.getD k [])[j]? =some y-> ∃x,C[j]? =some x/\VMap (fun i=>i) (fun i=>i<nx) x y)
  (h1:mapSl (fun i=>i) (fun i=>i<nx) sl sl'):
  Le B ⟨sl,hp,nx1,nt⟩ ⟨sl',pre++(o,⟨ty,C',false⟩)::rowsH tr ids rs,nx,nt⟩:=
 Le.rowsG pre hB (fun i k h=>⟨fun y hy=>VMap.clS (List.all_eq_true.1 (hpre i k h).1 y hy),(hpre i k h).2⟩) ho hr h1
theorem cellsTo{z m n nx:Nat}{cap:Option Nat}{ids:List Nat}{rest:List V}(hi: ∀i∈ids,i<nx)(hn:n<nx)(hrest: ∀x∈rest,x= .sc (.slice none 0 0)): ∀(j:Nat) (y:V),(slR z m (ids++ [n])++rest)[j]? =some y-> ∃x,(slR z m ids++V.sl n 0 m z cap::rest)[j]? =some x/\VMap (fun i=>i) (fun i=>i<nx) x y:=by
 intro j y hy
 rw[<-slR_app]at hy
 have hlen:=slR_len z m ids
 rcases Nat.lt_trichotomy j ids.length with g|g|g
 ·rw[zl6,List.getElem?_append_left om,slR_get g]at hy
  rw[List.getElem?_append_left om,slR_get g]
  cases hy
  exact⟨_,rfl,VMap.sl rfl (hi _ (getD_mem' g))⟩
 ·rw[zl6,List.getElem?_append_right om,hlen,g,Nat.sub_self]at hy
  rw[List.getElem?_append_right om,hlen,g,Nat.sub_self]
  have:(slR z m [n]++rest)[0]? =some (V.sl n 0 m z none):=rfl
  rw[this]at hy
  cases hy
  exact⟨_,rfl,VMap.cap rfl hn⟩
 ·rw[zl6,List.getElem?_append_right om,hlen]at hy
  rw[List.getElem?_append_right om,hlen]
  obtain⟨q,hq⟩: ∃q,j-ids.length=q+1:=⟨j-ids.length-1,by omega⟩
  rw[hq]at hy⊢
  have e1:(slR z m [n]++rest)[q+1]? =rest[q]? :=rfl
  rw[e1]at hy
  rw[List.getElem?_cons_succ]
  refine⟨y,hy,?_⟩
  rw[hrest y (List.mem_of_getElem? hy)]
  exact VMap.nil
theorem cloTo{r:List V}{f:Nat->Nat}{D:Nat->Prop}(h:r.all clS=true): ∀(j:Nat) (y:V),r[j]? =some y-> ∃x,r[j]? =some x/\VMap f D x y:=fun j y hy=>⟨y,hy,VMap.clS (List.all_eq_true.1 h y (List.mem_of_getElem? hy))⟩
theorem clS_of{r:List V}(h:r.all clo=true):r.all clS=true:=by
 rw[zlf]at h⊢
 intro x hx
 have:=h x hx
 cases x<;>first|rfl|exact this
theorem ids_snoc{ids:List Nat}{n k:Nat}(h:k<(ids++ [n]).length):(k<ids.length/\(ids++ [n]).getD k 0=ids.getD k 0)\/(k=ids.length/\(ids++ [n]).getD k 0=n):=by
 simp only[zl1,List.length_singleton]at h
 rcases Nat.lt_or_ge k ids.length with g|g
 ·exact .inl ⟨g,by rw[List.getD_eq_getElem?_getD,List.getElem?_append_left g,List.getD_eq_getElem?_getD]⟩
 ·have e:k=ids.length:=by omega
  exact .inr ⟨e,by rw[e,List.getD_eq_getElem?_getD,List.getElem?_append_right (znb _),Nat.sub_self];rfl⟩
def zer(w:Nat):List V:=(List.replicate w [V.sc (.bool false),V.sc (.slice none 0 0)]).flatten
def zeroL(h w:Nat):List (List Int):=List.replicate h (List.replicate w 0)
theorem zer_map{f:Nat->Nat}{D:Nat->Prop}: ∀(w j:Nat) (y:V),(ivR (List.replicate w 0))[j]? =some y-> ∃x,(zer w)[j]? =some x/\VMap f D x y
 |0,j,y,h=>by cases h
 |w+1,j,y,h=>by
  have e1:ivR (List.replicate (w+1) 0)=V.sc (.bool false)::V.im [] 0::ivR (List.replicate w 0):=rfl
  have e2:zer (w+1)=V.sc (.bool false)::V.sc (.slice none 0 0)::zer w:=rfl
  rw[e1]at h
  rw[e2]
  match j,h with
  |0,h=>cases h;exact⟨_,rfl,VMap.sc _⟩
  |1,h=>cases h;exact⟨_,rfl,VMap.nil_im⟩
  |j+2,h=>exact zer_map w j y h
theorem zeroL_get{h w k:Nat}(hk:k<h):(zeroL h w).getD k []=List.replicate w 0:=by
 unfold zeroL
 rw[List.getD_eq_getElem?_getD,List.getElem?_replicate,if_pos hk];rfl
theorem zeroL_len{h w:Nat}:(zeroL h w).length=h:=by simp[zeroL]
def MatQ(w:Nat)(M:List (List Int))(nx:Nat)(x:V)(hp':List (Nat×Blk))(nx':Nat):Prop:=
 ∃o ids,RowsOk o ids M.length nx nx'/\x= .ag [.sc (.int .i64 M.length),.sc (.int .i64 w),.sl o 0 M.length 1 none]/\hp'=(o,⟨41,slR 2 w ids,false⟩)::rowsH 68 ids (rI M)
theorem idle85:Idle Tryz.prog 111:=Idle.of Tab.go111 Tryz.func111 rfl rfl rfl rfl Tryz.ntmps111 Tryz.results111
theorem pnew_s(h w nx:Nat)(hn:h<=1000000)(hw:w<=1000000):InlQ Tryz.prog 81 [.sc (.int .i64 h),.sc (.int .i64 w)] [] nx (MatQ w (zeroL h w) nx):=by
 have hzl:(zeroL h w).length=h:=by simp[zeroL]
 have hm1:max (h:Int) 0=h:=by omega
 have hm2:max (w:Int) 0=w:=by omega
 refine InlQ.runD Tryz.func81 rfl rfl rfl rfl idle85 Tryz.ntmps81 (by simp) qT qT fun B hB=> ?_
 refine qWDf (Q2 @hm1 @hm2) ?_
 refine SC.loop (fun x:Nat×List Nat=>⟨[(0,.sc (.int .i64 h)),(1,.sc (.int .i64 w)),(4,.pt nx 0),(5,.sl (nx+1) 0 h 1 (some h)),(14,.sc (.int .i64 h)),(15,.sc (.int .i64 x.1))],(nx,⟨28,[.sc (.int .i64 0),.sc (.int .i64 0),.sc (.slice none 0 0)],false⟩)::(nx+1,⟨41,slR 2 w x.2++List.replicate (h-x.1) (.sc (.slice none 0 0)),false⟩)::rowsH 68 x.2 (rI (zeroL x.1 w)),nx+2+x.1,28⟩)
  (fun x=>x.1<=h/\RowsOk (nx+1) x.2 x.1 nx (nx+2+x.1)/\nx∉x.2) (fun x=>h-x.1) (0,[]) ?_ ?_ ?_
 ·exact qM
 ·exact⟨znc _,⟨rfl,List.nodup_nil,by simp,by omega,by simp⟩,by simp⟩
 ·rintro⟨i,ids⟩ ⟨hi,hR,hnx⟩ K hK
  simp only at hi hR hnx⊢
  have hlt: ∀j∈ids,j<nx+2+i:=fun j hj=>(hR.lt j hj).2
  by_cases hc:i<h
  ·have q1:=decide_eq_true (p:=(i:Int)<(h:Int)) om
   have hcells:(slR 2 w ids++List.replicate (h-i) (V.sc (.slice none 0 0))).length=h:=by simp[slR_len,hR.len];omega
   have hset:(slR 2 w ids++List.replicate (h-i) (V.sc (.slice none 0 0))).set i (V.sl (nx+2+i) 0 w 2 (some w))=slR 2 w ids++V.sl (nx+2+i) 0 w 2 (some w)::List.replicate (h-(i+1)) (V.sc (.slice none 0 0)):=by
    rw[List.set_append_right _ _ (by rw[slR_len,hR.len];exact znb _),slR_len,hR.len,Nat.sub_self,show h-i=(h-(i+1))+1 by omega,List.replicate_succ,List.set_cons_zero]
   generalize hC:slR 2 w ids++List.replicate (h-i) (V.sc (.slice none 0 0))=C at*
   refine qWDf (Q3 @q1 @hcells @hset) ?_
   have hne: ∀j∈ids,j≠nx/\j≠nx+1:=fun j hj=>⟨fun e=>hnx (e▸hj),fun e=>hR.o2 (e▸hj)⟩
   refine hK _ (i+1,ids++ [nx+2+i]) ?_ ⟨by simp only;omega,?_,?_⟩ (by simp only;omega)
   ·refine Le.rowsTo [(nx,_)] ⟨nx,hB,by omega⟩ (fun j k hj=> ?_) ?_ (fun k hk1 hk2=> ?_) ?_
    ·simp only[hget]at hj
     split at hj
     ·rename_i e
      cases hj;subst e
      refine⟨rfl,?_⟩
      simp only[hget]
      rw[if_neg om,if_pos trivial]
     ·cases hj
    ·refine⟨_,by simp only[hget];rw[if_neg om,if_neg om,if_pos trivial],cellsTo (fun j hj=>by have:=hlt j hj;omega) om (fun x hx=>List.eq_of_mem_replicate hx)⟩
    ·rw[rI_len,zeroL_len]at hk2
     rw[rI_getD,zeroL_get hk2]
     rcases ids_snoc hk1 with⟨g,e⟩|⟨g,e⟩
     ·have hm:=getD_mem' g
      have h1:=hlt _ hm
      have h2:=hne _ hm
      have:=rows_get (ty:=68) (rs:=rI (zeroL i w)) (k:=k) hR.nod g (by rw[rI_len,zeroL_len,hR.len])
      rw[rI_getD,zeroL_get (by rw[hR.len]at g;exact g)]at this
      rw[e]
      exact⟨_,by simp only[hget];rw[if_neg om,if_neg h2.1,if_neg h2.2,this],cloTo (clS_of (ivR_clo _))⟩
     ·rw[e]
      exact⟨zer w,by simp only[hget];rw[if_pos trivial];rfl,zer_map w⟩
    ·exact qN
   ·refine⟨by simp[hR.len],?_,fun j hj=> ?_,by omega,?_⟩
    ·rw[List.nodup_append]
     exact⟨hR.nod,by simp,fun a ha b hb=>by simp at hb;subst hb;have:=hlt a ha;omega⟩
    ·rcases List.mem_append.1 hj with g|g
     ·have:=hR.lt j g;omega
     ·simp at g;omega
    ·intro h
     rcases List.mem_append.1 h with g|g
     ·exact hR.o2 g
     ·simp at g;omega
   ·intro h
    rcases List.mem_append.1 h with g|g
    ·exact hnx g
    ·simp at g;omega
  ·have q1:=decide_eq_false (p:=(i:Int)<(h:Int)) om
   have hin:i=h:=by omega
   subst hin
   refine qWDf @q1 ?_
   refine retIQ_ret (.ag [.sc (.int .i64 i),.sc (.int .i64 w),.sl (nx+1) 0 i 1 none]) ((nx+1,⟨41,slR 2 w ids,false⟩)::rowsH 68 ids (rI (zeroL i w))) (nx+2+i) Tryz.results81 qT ⟨nx+1,ids,by rw[hzl];exact⟨hR.len,hR.nod,hR.lt,hR.o1,hR.o2⟩,by rw[hzl],rfl⟩ ?_
   rw[Nat.sub_self]
   simp only[List.replicate_zero,List.append_nil]
   refine Le.rowsDown [] pre0 ⟨nx,hB,by omega⟩ om hlt (rI_clo _) (less_new (fun id k hk=>hk) (fun id k hk=> ?_)) ?_
   ·rcases inR_rows (fun i hi=>hi) id k hk with e|e
    ·omega
    ·exact fun e2=>hnx (e2▸e)
   ·refine mapSl_cons (x:= .ag [.sc (.int .i64 i),.sc (.int .i64 w),.sl (nx+1) 0 i 1 (some i)]) (by simp(disch:=omega) only[go_sem,↓reduceIte,zn1,zn2,zn3,zn4,zn5,zn6,reduceCtorEq,zn7,zi1,zi2,if_pos,if_neg,Int.reduceAdd]) (VMap.ag rfl fun j x y hx hy=> ?_) trivial
    match j,hx,hy with
    |0,hx,hy=>cases hx;cases hy;exact VMap.sc _
    |1,hx,hy=>cases hx;cases hy;exact VMap.sc _
    |2,hx,hy=>cases hx;cases hy;exact VMap.cap rfl om
end
section
open Go.RowKit
def mkR(w:Nat)(f:Nat->Int):List Int:=(List.range w).map f
def mkM(h w:Nat)(f:Nat->Nat->Int):List (List Int):=(List.range h).map fun r=>mkR w (f r)
theorem mkR_len{w:Nat}{f:Nat->Int}:(mkR w f).length=w:=by simp[mkR]
theorem mkM_len{h w:Nat}{f:Nat->Nat->Int}:(mkM h w f).length=h:=by simp[mkM]
theorem mkR_get{w c:Nat}{f:Nat->Int}(h:c<w):(mkR w f).getD c 0=f c:=by
 unfold mkR
 rw[List.getD_eq_getElem?_getD,List.getElem?_map,List.getElem?_range h];rfl
theorem mkM_get{h w r:Nat}{f:Nat->Nat->Int}(hr:r<h):(mkM h w f).getD r []=mkR w (f r):=by
 unfold mkM
 rw[List.getD_eq_getElem?_getD,List.getElem?_map,List.getElem?_range hr];rfl
theorem mkR_congr{w:Nat}{f g:Nat->Int}(h: ∀c,c<w->f c=g c):mkR w f=mkR w g:=by
 unfold mkR
 exact List.map_congr_left fun c hc=>h c (List.mem_range.1 hc)
theorem mkM_congr{h w:Nat}{f g:Nat->Nat->Int}(hh: ∀r c,r<h->c<w->f r c=g r c):mkM h w f=mkM h w g:=by
 unfold mkM
 exact List.map_congr_left fun r hr=>mkR_congr fun c hc=>hh r c (List.mem_range.1 hr) hc
theorem mkM_of{h w K:Nat}{M:List (List Int)}(hM:MI h w K M):mkM h w (fun r c=>(M.getD r []).getD c 0)=M:=by
 refine List.ext_getElem (by rw[mkM_len,hM.len]) fun r h1 h2=> ?_
 rw[mkM_len]at h1
 have e1:=mkM_get (w:=w) (f:=fun r c=>(M.getD r []).getD c 0) h1
 rw[List.getD_eq_getElem?_getD,zlb (by rw[mkM_len];exact h1)]at e1
 simp only[Option.getD_some]at e1
 rw[e1]
 have e2:M.getD r []=M[r]:=by rw[List.getD_eq_getElem?_getD,zlb h2];rfl
 have hl:=(hM.get h1).1
 rw[<-e2]
 refine ilist_ext (by rw[mkR_len,hl]) fun j hj=> ?_
 rw[mkR_len]at hj
 rw[mkR_get hj]
theorem mkM_set{h w i j:Nat}{f:Nat->Nat->Int}{x:Int}(hi:i<h)(hj:j<w):(mkM h w f).set i ((mkR w (f i)).set j x)=mkM h w fun r c=>if r=i/\c=j then x else f r c:=by
 refine List.ext_getElem (by simp[mkM_len]) fun r h1 h2=> ?_
 rw[mkM_len]at h2
 have e1:((mkM h w f).set i ((mkR w (f i)).set j x)).getD r []=(mkM h w fun r c=>if r=i/\c=j then x else f r c).getD r []:=by
  rw[getD_set (by rw[mkM_len];exact hi),mkM_get h2,mkM_get h2]
  by_cases e:r=i
  ·subst e
   rw[if_pos rfl]
   refine ilist_ext (by rw[List.length_set,mkR_len,mkR_len]) fun c hc=> ?_
   rw[List.length_set,mkR_len]at hc
   rw[getD_set (by rw[mkR_len];exact hj),mkR_get hc,mkR_get hc]
   by_cases e2:c=j
   ·rw[if_pos e2,if_pos ⟨rfl,e2⟩]
   ·rw[if_neg e2,if_neg (fun h=>e2 h.2)]
  ·rw[if_neg e]
   exact mkR_congr fun c _=>by rw[if_neg (fun h=>e h.1)]
 rw[List.getD_eq_getElem?_getD,zlb h1,List.getD_eq_getElem?_getD,zlb (by rw[mkM_len];exact h2)]at e1
 simpa using e1
theorem mkM_zero{h w:Nat}:zeroL h w=mkM h w fun _ _=>0:=by
 refine List.ext_getElem (by rw[zeroL_len,mkM_len]) fun r h1 h2=> ?_
 rw[zeroL_len]at h1
 have e:(zeroL h w).getD r []=(mkM h w fun _ _=>0).getD r []:=by
  rw[zeroL_get h1,mkM_get h1]
  refine ilist_ext (by rw[mkR_len];simp) fun c hc=> ?_
  simp only[List.length_replicate]at hc
  rw[mkR_get hc,List.getD_eq_getElem?_getD,List.getElem?_replicate,if_pos hc];rfl
 rw[List.getD_eq_getElem?_getD,zlb (by rw[zeroL_len];exact h1),List.getD_eq_getElem?_getD,zlb (by rw[mkM_len];exact h1)]at e
 simpa using e
theorem mk_mi{h w K:Nat}{f:Nat->Nat->Int}(hf: ∀r c,r<h->c<w->Fits K (f r c)):MI h w K (mkM h w f):=by
 refine⟨mkM_len,fun r hr=> ?_⟩
 obtain⟨i,hi,rfl⟩:=List.mem_map.1 hr
 refine⟨mkR_len,fun x hx=> ?_⟩
 obtain⟨c,hc,rfl⟩:=List.mem_map.1 hx
 exact hf i c (List.mem_range.1 hi) (List.mem_range.1 hc)
theorem matQ_new{w nx:Nat}{M:List (List Int)}{x:V}{hp':List (Nat×Blk)}{nx':Nat}(h:MatQ w M nx x hp' nx'):Only (fun i=>nx<=i) x/\OnlyH (fun i=>nx<=i) hp'/\ ∀id k,hget hp' id=some k->nx<=id:=by
 obtain⟨o,ids,hR,rfl,rfl⟩:=h
 have:=rowsI_new (w:=w) (M:=M) (nx:=nx) (nx':=nx') ⟨o,ids,hR,rfl,rfl⟩
 refine⟨.ag fun y hy=> ?_,this.2⟩
 simp only[List.mem_cons,List.not_mem_nil,or_false]at hy
 rcases hy with rfl|rfl|rfl
 ·exact .sc _
 ·exact .sc _
 ·exact this.1
theorem cellF{h w i j:Nat}{ty:TypeId}{ids:List Nat}{f:Nat->Nat->Int}{z:Int}(hnod:ids.Nodup)(hlen:ids.length=h)(hi:i<h)(hj:j<w):
  hget (rowsH ty ids (rI (mkM h w f))) (ids.getD i 0)=some ⟨ty,ivR (mkR w (f i)),false⟩/\(ivR (mkR w (f i))).length=2*w/\(ivR (mkR w (f i))).drop (j*2)=ivC (f i j)++(ivR (mkR w (f i))).drop ((j+1)*2)/\
  setAll (ivR (mkR w (f i))) (j*2) (ivC z)=ivR ((mkR w (f i)).set j z)/\hset (rowsH ty ids (rI (mkM h w f))) (ids.getD i 0) ⟨ty,ivR ((mkR w (f i)).set j z),false⟩=rowsH ty ids (rI (mkM h w fun r c=>if r=i/\c=j then z else f r c)):=by
 have gR:=rows_get (ty:=ty) (rs:=rI (mkM h w f)) (k:=i) hnod om (by rw[rI_len,mkM_len];omega)
 rw[rI_getD,mkM_get hi]at gR
 have gd:=ivR_drop (l:=mkR w (f i)) (i:=j) (by rw[mkR_len];exact hj)
 rw[mkR_get hj]at gd
 have hrs:=rows_set (ty:=ty) (rs:=rI (mkM h w f)) (k:=i) (r:=ivR ((mkR w (f i)).set j z)) hnod om (by rw[rI_len,mkM_len];omega)
 rw[rI_set,mkM_set hi hj]at hrs
 exact⟨gR,by rw[ivR_len,mkR_len],gd,ivR_set z (by rw[mkR_len];exact hj),hrs⟩
def idL(n:Nat):List (List Int):=mkM n n fun r c=>if r=c then 1 else 0
theorem fits01{p:Prop} [Decidable p]:Fits 1 (if p then 1 else 0):=by
 unfold Fits;split<;>decide
set_option maxRecDepth 8000 in
theorem pident_s(n:Nat)(hn:n<=1000000):Spec Tryz.prog 49 [.sc (.int .i64 n)] (mat n (idL n)):=by
 have c0:=pnew_s n n 1 hn hn
 have c1:=pof_i 1 om om
 unfold iv sv at c1
 refine qF Tryz.func49 Tryz.ntmps49 fun B hB=> ?_
 refine qWD ?_
 refine SO.inlQ qS Tab.go81 qS qS (SInlQ.newR c0 ?_ ?_ ?_)
 ·exact klc om kln
 ·exact fun x hp' nx' h=>matQ_new h
 rintro x hp' nx ⟨o,ids,hR,rfl,rfl⟩
 have ho:=hR.o1
 rw[zeroL_len]at hR⊢
 rw[mkM_zero]
 refine qWD ?_
 have e0:mkM n n (fun _ _=>0)=mkM n n (fun r c=>if r=c/\r<0 then 1 else 0):=mkM_congr fun r c _ _=>by rw[if_neg om]
 rw[e0]
 refine SC.loop (fun i:Nat=>⟨[(2,.pt 0 0),(3,.pt nx 0),(10,.sc (.int .i64 n)),(11,.sc (.int .i64 i))],(nx,⟨28,[.sc (.int .i64 n),.sc (.int .i64 n),.sl o 0 n 1 none],false⟩)::(0,⟨28,[.sc (.int .i64 0),.sc (.int .i64 0),.sc (.slice none 0 0)],false⟩)::(o,⟨41,slR 2 n ids,false⟩)::rowsH 68 ids (rI (mkM n n (fun r c=>if r=c/\r<i then 1 else 0))),nx+1,24⟩)
  (fun i=>i<=n) (fun i=>n-i) 0 ?_ ?_ ?_
 ·exact qM
 ·exact znc _
 ·intro i hi K hK
  have hidl:=hR.len
  have g1:=slR_len 2 n ids
  rw[hidl]at g1
  by_cases hc:i<n
  ·have q1:=decide_eq_true (p:=(i:Int)<(n:Int)) om
   have gi:=slR_get (z:=2) (m:=n) (ids:=ids) (k:=i) om
   obtain⟨gR,gl,gd,gs,hrs⟩:=cellF (ty:=68) (f:=fun r c=>if r=c/\r<i then(1:Int)else 0) (z:=1) (j:=i) hR.nod hidl hc hc
   have e1:mkM n n (fun r c=>if r=i/\c=i then(1:Int)else if r=c/\r<i then 1 else 0)=mkM n n (fun r c=>if r=c/\r<i+1 then 1 else 0):=mkM_congr fun r c _ _=>by
    by_cases e:r=i/\c=i
    ·rw[if_pos e,if_pos om]
    ·rw[if_neg e]
     by_cases e2:r=c/\r<i
     ·rw[if_pos e2,if_pos om]
     ·rw[if_neg e2,if_neg om]
   rw[e1]at hrs
   have hkl:=klB_rows (ty:=68) (rs:=rI (mkM n n fun r c=>if r=c/\r<i then(1:Int)else 0)) (n:=nx+1) (fun j hj=>by have:=hR.lt j hj;omega)
   have hmem:=getD_mem' (ids:=ids) (k:=i) om
   have hidk:=hR.lt _ hmem
   have hne:ids.getD i 0≠o:=fun e=>hR.o2 (by rw[<-e];exact hmem)
   generalize hH:rowsH 68 ids (rI (mkM n n fun r c=>if r=c/\r<i then(1:Int)else 0))=H at*
   generalize mkR n (fun c=>if i=c/\i<i then(1:Int)else 0)=row at*
   generalize ids.getD i 0=idk at*
   unfold ivC sv at gs
   have g2:i*2<(ivR row).length:=by omega
   refine qWDf (Q9 @q1 @g1 @gi @gR @gl @gs @hrs @g2 @hkl) ?_
   refine hK _ (i+1) ?_ om om
   exact qM
  ·have q1:=decide_eq_false (p:=(i:Int)<(n:Int)) om
   have hin:i=n:=by omega
   subst hin
   have e1:mkM i i (fun r c=>if r=c/\r<i then(1:Int)else 0)=idL i:=mkM_congr fun r c hr _=>by
    by_cases e:r=c
    ·rw[if_pos ⟨e,hr⟩,if_pos e]
    ·rw[if_neg (fun h=>e h.1),if_neg e]
   rw[e1]
   have hA:MI i i 1 (idL i):=mk_mi fun r c _ _=>fits01
   have hAl:=hA.len
   by_cases h0:i=0
   ·subst h0
    have hids:ids=[]:=List.eq_nil_of_length_eq_zero om
    subst hids
    (repeat(first|refine DO.nilF (fun i=>i+1-nx) (by simp(disch:=omega) only[go_sem,↓reduceIte,zn1,zn2,zn3,zn4,zn5,zn6,reduceCtorEq,zn7,zi1,zi2,if_pos,if_neg,Int.reduceAdd,zld,zle,Option.map_some,Option.map_none,znd,zne,znf]<;>rfl) (by kernel_rfl) ?_|(with_reducible refine SC.condB (qTf @q1) ?_;first|with_reducible refine pickT ?_|with_reducible refine pickF ?_)|(with_reducible refine qO ?_)|((with_reducible apply SC.region);(focus(simp(disch:=omega) only[go_sem,↓reduceIte,zn1,zn2,zn3,zn4,zn5,zn6,reduceCtorEq,zn7,zi1,zi2,if_pos,if_neg,Int.reduceAdd,q1];rfl)))|(with_reducible refine SC.draw Tab.mixed rfl ?_;(repeat(refine DO.run (qTf @q1) ?_));refine DO.nilF (fun i=>i+1-nx) (by simp(disch:=omega) only[go_sem,↓reduceIte,zn1,zn2,zn3,zn4,zn5,zn6,reduceCtorEq,zn7,zi1,zi2,if_pos,if_neg,Int.reduceAdd,zld,zle,Option.map_some,Option.map_none,znd,zne,znf]<;>rfl) (by kernel_rfl) ?_)))
    exact qE Tryz.results49
   ·have hrows: ∀C D:List V,∀k,k<ids.length->hget ((nx,(⟨28,C,false⟩:Blk))::(0,⟨28,D,false⟩)::(o,⟨41,slR 2 i ids,false⟩)::rowsH 68 ids (rI (idL i))) (ids.getD k 0)=some ⟨68,(rI (idL i)).getD k [],false⟩:=by
     intro C D k hk
     have hm:=getD_mem' hk
     have:=hR.lt _ hm
     simp only[hget]
     rw[if_neg om,if_neg om,if_neg (fun e=>hR.o2 (by rw[<-e];exact hm))]
     exact rows_get hR.nod hk (by rw[rI_len];omega)
    have hfz:=fun C D:List V=>frz_rowsA (n:=5) (z:=2) (m:=i) (ty:=68) (ids:=ids) (rs:=rI (idL i)) om (by rw[rI_len];omega) (hrows C D) (rI_rows hA)
    have hsl:=slR_some (z:=2) (m:=i) (ids:=ids) om
    have ht:(slR 2 i ids).take i=slR 2 i ids:=zla om
    have hne:nx≠o:=by omega
    unfold mat
    rw[hAl]
    (repeat(first|refine DO.nilF (fun i=>i+1-nx) (by simp(disch:=omega) only[go_sem,↓reduceIte,zn1,zn2,zn3,zn4,zn5,zn6,reduceCtorEq,zn7,zi1,zi2,if_pos,if_neg,Int.reduceAdd,zld,zle,Option.map_some,Option.map_none,znd,zne,znf]<;>rfl) (by kernel_rfl) ?_|(with_reducible refine SC.condB (qTf @q1) ?_;first|with_reducible refine pickT ?_|with_reducible refine pickF ?_)|(with_reducible refine qO ?_)|((with_reducible apply SC.region);(focus(simp(disch:=omega) only[go_sem,↓reduceIte,zn1,zn2,zn3,zn4,zn5,zn6,reduceCtorEq,zn7,zi1,zi2,if_pos,if_neg,Int.reduceAdd,q1];rfl)))|(with_reducible refine SC.draw Tab.mixed rfl ?_;(repeat(refine DO.run (qTf @q1) ?_));refine DO.nilF (fun i=>i+1-nx) (by simp(disch:=omega) only[go_sem,↓reduceIte,zn1,zn2,zn3,zn4,zn5,zn6,reduceCtorEq,zn7,zi1,zi2,if_pos,if_neg,Int.reduceAdd,zld,zle,Option.map_some,Option.map_none,znd,zne,znf]<;>rfl) (by kernel_rfl) ?_)))
    exact retQ_ret Tryz.results49 qS (qSf (Q4 @hfz @hsl @ht @g1)) rfl
end
section
open Go.RowKit
section
variable {P:Program}
theorem Spec.ofQ{f:Nat}{args:List V}{x:V}{C:V->List (Nat×Blk)->Nat->Prop}(hI:InlQ P f args [] 0 C)(hf: ∀y hp' nx',C y hp' nx'-> ∃ids,frz 8 hp' y=some (x,ids)):Spec P f args x:=by
 intro S w vs hS hT hargs
 have hm:Mem ⟨w,S,fun _=>False,fun _=>0,fun _=>False,[]⟩ S (fun _=>0) (fun _=>False) [] w:={
  cells:=fun id k hk=>by cases hk
  fz:=fun id k hk=>by cases hk
  own:=fun id k hk=>by cases hk
  inj:=fun id id' k k' hk=>by cases hk
  slt:=hS
  sub:=fun _ h=>h
  base:=fun _ h=> .inl h
  frame:=⟨rfl,rfl,rfl,znb _,fun _ _ _=>rfl,fun _ _=>rfl,fun _ _ h=>h,hS,hT⟩
  keep:=fun id h=>h.elim}
 refine(hI.callsI hm (fun _ h=>h.elim) (vs:=vs) hargs).mono ?_
 rintro e w' ⟨v,rfl,y,hp',nx',S',rho',A',hC,h1,h2,h3,h4,h5⟩
 have hL: ∀b,¬(Base.inner S (fun _=>0) (fun _=>False) [] w).L b:=by
  rintro b ⟨i,kk,hi,ha,hr⟩
  cases hi
 obtain⟨ids,hz⟩:=hf _ _ _ hC
 have h6:=frz_sound h3 8 y v x ids hz h5
 have hmf:=h3.freeze ids h6.live
 refine⟨v,rfl,⟨h3.frame.os,h3.frame.tape,h3.frame.output,h3.frame.size,fun b hb=>h3.frame.block b hb (hL b)⟩,?_⟩
 refine(h6.rep.wide fun b hb=> ?_).rho
 rcases hmf.base b hb with h|h|h
 ·exact .inl h
 ·exact .inr ⟨h,hmf.slt b hb⟩
 ·exact(hL _ h).elim
theorem NewX.ofQ{f:Nat}{args:List V}{k:Blk}{len z:Nat}(hc:k.cs.all clo=true)(hz:k.fz=false)(hI:InlQ P f args [] 0 fun y hp' nx'=> ∃q,q<nx'/\y= .sl q 0 len z none/\hp'=[(q,k)]):NewX P f args k (fun id=> .sl id 0 len z none) false:=by
 refine⟨rx_sl 0 len z none,?_⟩
 intro S w vs hS hT hargs
 have hm:Mem ⟨w,S,fun _=>False,fun _=>0,fun _=>False,[]⟩ S (fun _=>0) (fun _=>False) [] w:={
  cells:=fun id k hk=>by cases hk
  fz:=fun id k hk=>by cases hk
  own:=fun id k hk=>by cases hk
  inj:=fun id id' k k' hk=>by cases hk
  slt:=hS
  sub:=fun _ h=>h
  base:=fun _ h=> .inl h
  frame:=⟨rfl,rfl,rfl,znb _,fun _ _ _=>rfl,fun _ _=>rfl,fun _ _ h=>h,hS,hT⟩
  keep:=fun id h=>h.elim}
 refine(hI.callsI hm (fun _ h=>h.elim) (vs:=vs) hargs).mono ?_
 rintro e w' ⟨v,rfl,x,hp',nx',S',rho',A',⟨q,hq,rfl,rfl⟩,h1,h2,h3,h4,h5⟩
 have hL: ∀b,¬(Base.inner S (fun _=>0) (fun _=>False) [] w).L b:=by
  rintro b ⟨i,kk,hi,ha,hr⟩
  cases hi
 have hk:hget [(q,k)] q=some k:=by simp[hget]
 refine⟨v,rfl,⟨h3.frame.os,h3.frame.tape,h3.frame.output,h3.frame.size,fun b hb=>h3.frame.block b hb (hL b)⟩,?_⟩
 cases h5 with
 |sln h=>exact .inr fun S rho w A id=> .sln h
 | sl h0 hl' hm' hcp hz0=>
  refine .inl ⟨rho' q,S',?_,fun c hc'=>⟨rfl,?_⟩,h3.fz q k hk h0 hz,?_,.sl rfl hl' hm' hcp hz0⟩
  ·exact(h3.own q k hk h0).elim (fun h=>h) (fun h=>(hL _ h).elim)
  ·rcases h3.base c hc' with h|h|h
   ·exact .inl h
   ·exact .inr ⟨h,h3.slt c hc'⟩
   ·exact(hL _ h).elim
  ·obtain⟨cells,c1,c2⟩:=h3.cells q k hk h0
   refine⟨cells,c1,fun i x hx=> ?_⟩
   obtain⟨u,hu,hr⟩:=c2 i x hx
   exact⟨u,hu,(clo_sound (List.all_eq_true.1 hc x (List.mem_of_getElem? hx)) hr).rho⟩
end
end
section
open Go.RowKit
variable {P:Program}
theorem retIQ.mono{fn:Func}{B:Base}{Q Q':V->List (Nat×Blk)->Nat->Prop}(h: ∀y hp nx,Q y hp nx->Q' y hp nx){e:Exit}{s:SS}(hr:retIQ P fn B Q e s):retIQ P fn B Q' e s:=by
 cases e<;>first|exact hr.elim|exact(let⟨y,x,hp,nx,h1,h2,h3⟩:=hr;⟨y,x,hp,nx,h1,h _ _ _ h2,h3⟩)
theorem InlQ.mono{f:Nat}{args:List V}{hp:List (Nat×Blk)}{nx:Nat}{Q Q':V->List (Nat×Blk)->Nat->Prop}(hI:InlQ P f args hp nx Q)(h: ∀y hp nx,Q y hp nx->Q' y hp nx):InlQ P f args hp nx Q':=by
 obtain⟨fn,c,h1,h2,h3,h4⟩:=hI
 refine⟨fn,c,h1,h2,h3,h4.imp (fun h4 B hB=>SWp.mono (h4 B hB) fun e s=>retIQ.mono h) ?_⟩
 rintro⟨s1,rest,h5,h6⟩
 exact⟨s1,rest,h5,fun B hB=>SWp.mono (h6 B hB) fun e s=>retIQ.mono h⟩
theorem AppC.of{f id:Nat}{ys:List V}{k k':Blk}{off len z:Nat}{cap:Option Nat}(hl:0<len)(hfz:k'.fz=false)(hsc2: ∀y∈k'.cs,∃v,y= .sc v)
  (hI: ∀nx,id<nx->InlQ P f ys [(id,k)] nx fun y hp' nx'=> ∃q,q<nx'/\y= .sl q off len z cap/\hp'=[(q,k')]):AppC P f ys id k off len z cap k':=by
 intro B S rho A w vs m hm hA hv
 have hb: ∀j,A j->j<m+id+1:=fun j hj=>by have:=hA j hj;omega
 refine((hI (m+id+1) om).callsI hm hb hv).mono ?_
 rintro e w' ⟨v,rfl,x,hp',nx',S',rho',A',⟨q,hq,rfl,rfl⟩,h1,h2,h3,h4,h5⟩
 have hk:hget [(q,k')] q=some k':=by simp[hget]
 have hL: ∀b,(Base.inner S rho A [(id,k)] w).L b->A id/\rho id=b:=by
  rintro b ⟨i,kk,hi,ha,hr⟩
  simp only[hget]at hi
  split at hi
  ·rename_i e;subst e;exact⟨ha,hr⟩
  ·cases hi
 cases h5 with
 |sln h=>omega
 |sl h0 hl' hm' hc hz=>
  refine⟨_,rho' q,rfl,⟨h3.frame.os,h3.frame.tape,h3.frame.output,h3.frame.size,fun b hb hn=>h3.frame.block b hb (fun h=>hn (hL b h)),hm.innerSz h3.frame⟩,fun b hb=>(h1 b hb).2,(h3.own q k' hk h0).imp (fun h=>h) (hL _),fun h=>h3.fz q k' hk h0 hfz (h1 _ h).1,?_,.sl rfl hl' hm' hc hz⟩
  obtain⟨cells,c1,c2⟩:=h3.cells q k' hk h0
  refine⟨cells,c1,fun i x hx=> ?_⟩
  obtain⟨u,hu,hr⟩:=c2 i x hx
  obtain⟨v,rfl⟩:=hsc2 x (List.mem_of_getElem? hx)
  cases hr
  exact⟨_,hu,.sc _⟩
section
variable {B:Base} {s:SS}
end
end
section
open Go.RowKit
theorem cloneI_n{r:List Int}{w:Nat}(hr:r.length=w)(hw:w<=1000000):NewX Tryz.prog 84 [.im (ivR r) w] ⟨68,ivR r,false⟩ (fun id=> .sl id 0 w 2 none) false:=
 NewX.ofQ (ivR_clo r) rfl (InlQ.mono (cloneI_s r w 0 hr hw).toQ fun y hp nx h=>⟨0,by omega,h.1,h.2.1⟩)
def upS(h w o:Nat)(c:Option Nat):Blk:=⟨28,[.sc (.int .i64 h),.sc (.int .i64 w),.sl o 0 h 1 c],false⟩
theorem ucopied_q{h w K:Nat}{M:List (List Int)}(hM:MI h w K M)(nx:Nat)(hn:h<=1000000)(hw:w<=1000000):InlQ Tryz.prog 51 [mat w M] [] nx (MatQ w M nx):=by
 have hl:=hM.len
 have gl:=imI_len w M
 unfold mat
 refine InlQ.run Tryz.func51 rfl Tryz.ntmps51 (by simp) qT fun B hB=> ?_
 refine qWD ?_
 obtain⟨n0,rfl⟩: ∃n0,n0=nx:=⟨nx,rfl⟩
 refine SC.loop (fun x:Nat×List Nat=>⟨[(2,.pt (n0+1) 0),(3,.pt (n0+3) 0),(15,.im (imR w (rI M)) M.length),(16,.sc (.int .i64 M.length)),(17,.sc (.int .i64 x.1))],(n0+3,upS M.length w (n0+2) (some M.length))::(n0+1,⟨28,[.sc (.int .i64 0),.sc (.int .i64 0),.sc (.slice none 0 0)],false⟩)::(n0+2,⟨41,slR 2 w x.2++List.replicate (h-x.1) (.sc (.slice none 0 0)),false⟩)::rowsH 68 x.2 (rI (M.take x.1)),n0+4+x.1,30⟩)
  (fun x=>x.1<=h/\RowsOk (n0+2) x.2 x.1 n0 (n0+4+x.1)/\ ∀j∈x.2,n0+4<=j) (fun x=>h-x.1) (0,[]) ?_ ?_ ?_
 ·rw[<-hl]
  unfold upS
  exact qM
 ·exact⟨znc _,⟨rfl,List.nodup_nil,by simp,by omega,by simp⟩,by simp⟩
 ·rintro⟨i,ids⟩ ⟨hi,hR,hg⟩ K hK
  simp only at hi hR hg⊢
  have hlt: ∀j∈ids,j<n0+4+i:=fun j hj=>(hR.lt j hj).2
  by_cases hc:i<h
  ·have q1:=decide_eq_true (p:=(i:Int)<(M.length:Int)) om
   have g1:=imI_get (w:=w) (M:=M) (i:=i) om
   have hr:=hM.get hc
   have c1:=cloneI_n hr.1 hw
   have hts:=take_snoc (d:=[]) (l:=M) (i:=i) om
   have hcl:=ivR_clo (M.getD i [])
   have hcells:(slR 2 w ids++List.replicate (h-i) (V.sc (.slice none 0 0))).length=h:=by simp[slR_len,hR.len];omega
   have hset:(slR 2 w ids++List.replicate (h-i) (V.sc (.slice none 0 0))).set i (V.sl (n0+4+i) 0 w 2 none)=slR 2 w ids++V.sl (n0+4+i) 0 w 2 none::List.replicate (h-(i+1)) (V.sc (.slice none 0 0)):=by
    rw[List.set_append_right _ _ (by rw[slR_len,hR.len];exact znb _),slR_len,hR.len,Nat.sub_self,show h-i=(h-(i+1))+1 by omega,List.replicate_succ,List.set_cons_zero]
   generalize M.getD i []=r at*
   generalize hC:slR 2 w ids++List.replicate (h-i) (V.sc (.slice none 0 0))=C at*
   unfold upS
   obtain⟨nx,hnx⟩: ∃nx,nx=n0+4+i:=⟨_,rfl⟩
   rw[<-hnx]at hset⊢
   have hkl:=klB_rows (ty:=68) (rs:=rI (M.take i)) (n:=nx) (fun j hj=>by have:=hlt j hj;omega)
   have b3:(n0+3<nx)=True:=eq_true om
   have b2:(n0+2<nx)=True:=eq_true om
   have b1:(n0+1<nx)=True:=eq_true om
   have d3:n0+(3+1)<=nx:=by omega
   have d2:n0+(2+1)<=nx:=by omega
   refine qWDf (Q12 @q1 @gl @g1 @gD @hcells @hset @hkl @b1 @b2 @b3 @d2 @d3) ?_
   repeat(refine DO.run qT ?_)
   refine DO.callN Tab.go84 qS qS ?_
   refine DNew.ofX c1 rfl qT ?_
   repeat(refine DO.run (qTf (Q2 @hcells @hset)) ?_)
   refine DO.nilF (fun i=>i+1-nx) (by simp(disch:=omega) only[go_sem,↓reduceIte,zn1,zn2,zn3,zn4,zn5,zn6,reduceCtorEq,zn7,zi1,zi2,if_pos,if_neg,Int.reduceAdd,zld,zle,Option.map_some,Option.map_none,znd,zne,znf,d2,d3]<;>rfl) (by kernel_rfl) ?_
   refine qWD ?_
   subst hnx
   refine hK _ (i+1,ids++ [n0+4+i]) ?_ ⟨by simp only;omega,?_,fun j hj=> ?_⟩ (by simp only;omega)
   ·rw [hts]
    have e:rI (M.take i++ [r])=rI (M.take i)++ [ivR r]:=by simp[rI]
    simp only[e]
    unfold upS
    refine Le.rowsG [(n0+3,_),(n0+1,_)] ⟨n0,hB,by omega⟩ (fun j k hj=> ?_) ?_ (fun k hk1 hk2=> ?_) ?_
    ·simp only[hget]at hj
     split at hj
     ·rename_i e
      cases hj;subst e
      refine⟨?_,by simp only[hget];rw[if_neg om,if_pos trivial]⟩
      simp only[List.mem_cons,List.not_mem_nil,or_false]
      rintro y (rfl|rfl|rfl)
      ·exact VMap.sc _
      ·exact VMap.sc _
      ·exact VMap.sl rfl om
     ·split at hj
      ·rename_i e
       cases hj;subst e
       refine⟨fun y hy=> ?_,by simp only[hget];rw[if_neg om,if_neg om,if_pos trivial]⟩
       simp only[List.mem_cons,List.not_mem_nil,or_false]at hy
       rcases hy with rfl|rfl|rfl<;>exact VMap.sc _
      ·cases hj
    ·refine⟨_,by simp only[hget];rw[if_neg om,if_neg om,if_neg om,if_pos trivial],cellsTo (fun j hj=>by have:=hlt j hj;omega) om (fun x hx=>List.eq_of_mem_replicate hx)⟩
    ·have hil:(rI (M.take i)).length=i:=by rw[rI_len,List.length_take];omega
     rcases ids_snoc hk1 with⟨g,e⟩|⟨g,e⟩
     ·have hm:=getD_mem' g
      have h1:=hlt _ hm
      have h2:=hg _ hm
      have hlg:k<(rI (M.take i)).length:=by rw[hil,<-hR.len];exact g
      have:=rows_get (ty:=68) (rs:=rI (M.take i)) (k:=k) hR.nod g (by rw[hil,hR.len])
      have e2:(rI (M.take i)++ [ivR r]).getD k []=(rI (M.take i)).getD k []:=by rw[List.getD_eq_getElem?_getD,List.getElem?_append_left hlg,<-List.getD_eq_getElem?_getD]
      rw[e,e2]
      exact⟨_,by simp only[hget];rw[if_neg om,if_neg om,if_neg om,if_neg om,this],cloTo (clS_of (List.all_eq_true.2 fun y hy=>List.all_eq_true.1 (rI_clo _ _ (getD_mem (d:=[]) hlg)) y hy))⟩
     ·have e2:(rI (M.take i)++ [ivR r]).getD k []=ivR r:=by rw[List.getD_eq_getElem?_getD,List.getElem?_append_right (by rw[hil,g,hR.len];exact znb _),hil,g,hR.len,Nat.sub_self];rfl
      rw[e,e2]
      exact⟨_,by simp only[hget];rw[if_pos trivial],cloTo (clS_of hcl)⟩
    ·exact qN
   ·refine⟨by simp[hR.len],?_,fun j hj=> ?_,by omega,?_⟩
    ·rw[List.nodup_append]
     exact⟨hR.nod,by simp,fun a ha b hb=>by simp at hb;subst hb;have:=hlt a ha;omega⟩
    ·rcases List.mem_append.1 hj with g|g
     ·have:=hR.lt j g;omega
     ·simp at g;omega
    ·intro h
     rcases List.mem_append.1 h with g|g
     ·exact hR.o2 g
     ·simp at g;omega
   ·rcases List.mem_append.1 hj with g|g
    ·exact hg j g
    ·simp at g;omega
  ·have q1:=decide_eq_false (p:=(i:Int)<(M.length:Int)) om
   have hin:i=h:=by omega
   subst hin
   unfold upS
   refine qWDf @q1 ?_
   refine retIQ_ret _ _ _ Tryz.results51 qT ⟨n0+2,ids,by rw[hl];exact⟨hR.len,hR.nod,hR.lt,by omega,hR.o2⟩,rfl,rfl⟩ ?_
   rw[Nat.sub_self,zla om]
   simp only[List.replicate_zero,List.append_nil]
   refine Le.slots (leSl_cons qS (VLe.ag (LLe.cons (VLe.refl rfl) (LLe.cons (VLe.refl rfl) (LLe.cons (VLe.cap (cap:=some M.length) rfl rfl) (LLe.nil [])))) rfl) leSl_nil) (fun id k h=> ?_) om
   have hid:id=n0+2\/n0+4<=id:=by
    simp only[hget]at h
    split at h
    ·exact .inl ‹_›
    ·obtain⟨q,q1,_,rfl,_⟩:=rows_inv h
     exact .inr (hg _ (getD_mem' q1))
   simp only[hget]at h⊢
   rw[if_neg om,if_neg om];exact h
end
section
open Go.RowKit
variable {P:Program} {B:Base}
theorem fz_keep{hp:List (Nat×Blk)}{ids:List Nat}{i:Nat}{b:Blk}(hi:i∉ids)(h:hget hp i=some b):hget (fzHp hp ids) i=some b:=by
 rw[hget_fz,h]
 have:ids.contains i=false:=by
  cases hc:ids.contains i with
  |false=>rfl
  |true=>exact absurd (by simpa using hc) hi
 rw[Option.map_some,this,if_neg (by simp)]
theorem frzCell{sl:List (Nat×V)}{hp hp':List (Nat×Blk)}{nx nt:Nat}{k:Blk}{x y:V}{ids:List Nat}(id j:Nat)(hk:hget hp id=some k)(hx:k.cs[j]? =some x)(h:frz 8 hp x=some (y,ids))(hid:id∉ids)
  (hh: ∀i b,hget hp' i=some b->(i=id/\b=⟨k.ty,k.cs.set j y,k.fz⟩)\/(i≠id/\i∉ids/\hget hp i=some b)):Le B ⟨sl,hp,nx,nt⟩ ⟨sl,hp',nx,nt⟩:=by
 intro S rho A a w hr
 by_cases hA:A id
 ·obtain⟨cells,h1,h2⟩:=hr.mem.cells id k hk hA
  obtain⟨u,hu,hru⟩:=h2 j x hx
  have hf:=frz_sound hr.mem 8 _ _ _ _ h hru
  have hm:=hr.mem.freeze ids hf.live
  have hg: ∀i b,hget hp' i=some b-> ∃b0,hget (fzHp hp ids) i=some b0/\b0.fz=b.fz:=by
   intro i b hb
   rcases hh i b hb with⟨rfl,rfl⟩|⟨_,h4,h5⟩
   ·exact⟨k,fz_keep hid hk,rfl⟩
   ·exact⟨b,fz_keep h4 h5,rfl⟩
  refine⟨addS S rho A ids,rho,A,fun t=>(hr.slots t).wide fun b hb=> .inl hb,?_,hr.alt,hr.nt,hr.defs⟩
  exact{
   cells:=fun i b hb ha=>by
    rcases hh i b hb with⟨rfl,rfl⟩|⟨_,h4,h5⟩
    ·refine⟨cells,h1,fun i' z hz=> ?_⟩
     simp only[List.getElem?_set]at hz
     split at hz
     ·rename_i e
      subst e
      split at hz
      ·cases hz;exact⟨u,hu,hf.rep.open⟩
      ·cases hz
     ·obtain⟨v,hv,hrv⟩:=h2 i' z hz
      exact⟨v,hv,hrv.wide fun b hb=> .inl hb⟩
    ·exact hm.cells i b (fz_keep h4 h5) ha
   fz:=fun i b hb ha hf'=>let⟨b0,g1,g2⟩:=hg i b hb;hm.fz i b0 g1 ha (g2.trans hf')
   own:=fun i b hb=>let⟨b0,g1,_⟩:=hg i b hb;hm.own i b0 g1
   inj:=fun i i' b b' hb hb'=>let⟨b0,g1,_⟩:=hg i b hb;let⟨b0',g1',_⟩:=hg i' b' hb';hm.inj i i' b0 b0' g1 g1'
   slt:=hm.slt,sub:=hm.sub,base:=hm.base,frame:=hm.frame,keep:=hm.keep}
 ·have hm:=hr.mem
  have hg: ∀i b,hget hp' i=some b->A i->hget hp i=some b:=by
   intro i b hb ha
   rcases hh i b hb with⟨rfl,_⟩|⟨_,_,h5⟩
   ·exact absurd ha hA
   ·exact h5
  refine⟨S,rho,A,hr.slots,?_,hr.alt,hr.nt,hr.defs⟩
  exact{
   cells:=fun i b hb ha=>hm.cells i b (hg i b hb ha) ha
   fz:=fun i b hb ha=>hm.fz i b (hg i b hb ha) ha
   own:=fun i b hb ha=>hm.own i b (hg i b hb ha) ha
   inj:=fun i i' b b' hb hb' ha ha'=>hm.inj i i' b b' (hg i b hb ha) (hg i' b' hb' ha') ha ha'
   slt:=hm.slt,sub:=hm.sub,base:=hm.base,frame:=hm.frame,keep:=hm.keep}
def cloN:V->Bool
 | .sc (.slice none 0 0)=>true
 |x=>clo x
theorem BMap.cloN{f:Nat->Nat}{D:Nat->Prop}{k:Blk}(h:k.cs.all cloN=true):BMap f D (some k) k:=⟨k,rfl,rfl,rfl,fun i y hy=>⟨y,hy,by
 have hc:=List.all_eq_true.1 h y (List.mem_of_getElem? hy)
 unfold Go.Proofs.YtannldafjkjjbaaGreat.cloN at hc
 split at hc
 ·exact VMap.nil
 ·exact VMap.clo hc⟩⟩
def restLt(hp:List (Nat×Blk))(q0 d q:Nat)(ids:List Nat):List (Nat×Blk)->Prop
 |[]=>True
 |p::r=>(p.1<q0/\p.1≠d/\p.1≠q/\p.1∉ids/\hget hp p.1=some p.2/\p.2.cs.all cloN=true)/\restLt hp q0 d q ids r
theorem restLt_get{hp:List (Nat×Blk)}{q0 d q:Nat}{ids:List Nat}: ∀{r:List (Nat×Blk)},restLt hp q0 d q ids r-> ∀i b,hget r i=some b->i<q0/\i≠d/\i≠q/\i∉ids/\hget hp i=some b/\b.cs.all cloN=true
 |[],_,i,b,h=>by cases h
 | p::r,hr,i,b,h=>by
  simp only[hget]at h
  split at h
  ·rename_i e
   subst e
   cases h
   exact hr.1
  ·exact restLt_get hr.2 i b h
theorem clo_map{f:Nat->Nat}{D:Nat->Prop}{pre:List V}{x y:V}(hp:pre.all clo=true)(h:VMap f D x y): ∀(i:Nat) (z:V),(pre++ [y])[i]? =some z-> ∃u,(pre++ [x])[i]? =some u/\VMap f D u z:=by
 intro i z hz
 rcases Nat.lt_trichotomy i pre.length with g|g|g
 ·rw[List.getElem?_append_left g]at hz⊢
  exact⟨z,hz,VMap.clo (List.all_eq_true.1 hp z (List.mem_of_getElem? hz))⟩
 ·rw[List.getElem?_append_right om,g,Nat.sub_self]at hz⊢
  cases hz
  exact⟨x,rfl,h⟩
 ·rw[List.getElem?_append_right om]at hz
  obtain⟨n,hn⟩: ∃n,i-pre.length=n+1:=⟨i-pre.length-1,by omega⟩
  rw[hn]at hz
  simp at hz
theorem appRow{sl sl':List (Nat×V)}{hp rest:List (Nat×Blk)}{nx nt m len:Nat}{pre cs:List V}{x y:V}{ids:List Nat}{tM tO:TypeId}(d q0 q:Nat)(hB:B.Old m)(hd:hget hp d=some ⟨tM,pre++ [.sl q 0 len 1 none],false⟩)(hq:hget hp q=some ⟨tO,cs++ [x],false⟩)
  (h:frz 8 hp x=some (y,ids)) (hpre:pre.all clo=true) (hcs:cs.all clo=true) (hy:clo y=true) (hdq:d<q0) (hq0:q0<=q) (hqi:q∉ids) (hdi:d∉ids)
  (hr:restLt hp q0 d q ids rest) (hm:m<=q0) (hs:mapSl (fun i=>if i=q0 then q else i) (fun i=>i<q0+1) sl sl'):
  Le B ⟨sl,hp,nx,nt⟩ ⟨sl',(d,⟨tM,pre++ [.sl q0 0 len 1 none],false⟩)::(q0,⟨tO,cs++ [y],false⟩)::rest,q0+1,nt⟩:=by
 refine Le.trans (frzCell (hp':=(q,⟨tO,cs++ [y],false⟩)::(d,⟨tM,pre++ [.sl q 0 len 1 none],false⟩)::rest) q cs.length hq (by simp) h hqi fun i b hb=> ?_)
  (Le.map (fun i=>if i=q0 then q else i) (fun i=>i<q0+1) hB (fun i hi=>⟨by omega,if_neg om⟩) (fun i hi=>hi) (fun i j hi hj e=> ?_) hs fun i b hb hlt=> ?_)
 ·simp only[hget]at hb
  split at hb
  ·rename_i e;cases hb
   refine .inl ⟨e,?_⟩
   rw[List.set_append_right _ _ (znb _),Nat.sub_self];rfl
  ·rename_i hne
   split at hb
   ·rename_i e;cases hb;subst e;exact .inr ⟨hne,hdi,hd⟩
   ·obtain⟨h1,h2,h3,h4,h5,h6⟩:=restLt_get hr i b hb
    exact .inr ⟨h3,h4,h5⟩
 ·split at e<;>split at e<;>omega
 ·simp only[hget]at hb
  split at hb
  ·rename_i e
   subst e
   cases hb
   rw[if_neg om]
   simp only[hget]
   rw[if_neg om,if_pos trivial]
   exact⟨_,rfl,rfl,rfl,clo_map hpre (VMap.sl (if_pos rfl) (Nat.lt_succ_self _))⟩
  ·split at hb
   ·rename_i e
    subst e
    cases hb
    rw[if_pos rfl]
    simp only[hget]
    rw[if_pos trivial]
    refine BMap.clo ?_
    rw[List.all_append,hcs];simp[hy]
   ·obtain⟨h1,h2,h3,h4,h5,h6⟩:=restLt_get hr i b hb
    rw[if_neg om]
    simp only[hget]
    rw[if_neg h3,if_neg h2,hb]
    exact BMap.cloN h6
end
section
open Go.RowKit
variable {P:Program} {B:Base}
def mapL(f:Nat->Nat)(D:Nat->Prop):List V->List V->Prop
 |_,[]=>True
 |x::xs,y::ys=>VMap f D x y/\mapL f D xs ys
 |[],_::_=>False
theorem mapL_get{f:Nat->Nat}{D:Nat->Prop}: ∀{xs ys:List V},mapL f D xs ys-> ∀(i:Nat) (y:V),ys[i]? =some y-> ∃x,xs[i]? =some x/\VMap f D x y
 |_,[],_,i,y,h=>by simp at h
 |x::xs,y0::ys,hm,i,y,h=>by
  cases i with
  |zero=>cases h;exact⟨x,rfl,hm.1⟩
  |succ i=>simp at h⊢;exact mapL_get hm.2 i y h
 |[],_::_,hm,_,_,_=>hm.elim
theorem mapL_nil{f:Nat->Nat}{D:Nat->Prop}{xs:List V}:mapL f D xs []:=by cases xs<;>trivial
theorem mapL_cons{f:Nat->Nat}{D:Nat->Prop}{x y:V}{xs ys:List V}(h:VMap f D x y)(k:mapL f D xs ys):mapL f D (x::xs) (y::ys):=⟨h,k⟩
theorem BMap.list{f:Nat->Nat}{D:Nat->Prop}{ty:TypeId}{fz:Bool}{xs ys:List V}(h:mapL f D xs ys):BMap f D (some ⟨ty,xs,fz⟩) ⟨ty,ys,fz⟩:=⟨_,rfl,rfl,rfl,mapL_get h⟩
def mapHp(f:Nat->Nat)(D:Nat->Prop)(hp:List (Nat×Blk)):List (Nat×Blk)->Prop
 |[]=>True
 |p::r=>BMap f D (hget hp (f p.1)) p.2/\mapHp f D hp r
theorem mapHp_get{f:Nat->Nat}{D:Nat->Prop}{hp:List (Nat×Blk)}: ∀{r:List (Nat×Blk)},mapHp f D hp r-> ∀i k',hget r i=some k'->BMap f D (hget hp (f i)) k'
 |[],_,i,k',h=>by cases h
 |p::r,hr,i,k',h=>by
  simp only[hget]at h
  split at h
  ·rename_i e;subst e;cases h;exact hr.1
  ·exact mapHp_get hr.2 i k' h
theorem mapHp_nil{f:Nat->Nat}{D:Nat->Prop}{hp:List (Nat×Blk)}:mapHp f D hp []:=trivial
theorem mapHp_cons{f:Nat->Nat}{D:Nat->Prop}{hp r:List (Nat×Blk)}{i:Nat}{k k':Blk}(h:hget hp (f i)=some k)(h1:BMap f D (some k) k')(h2:mapHp f D hp r):mapHp f D hp ((i,k')::r):=⟨h▸h1,h2⟩
theorem Le.ren{sl sl':List (Nat×V)}{hp hp':List (Nat×Blk)}{nx nx' nt m:Nat}(a b:Nat)(hB:B.Old m)(ha:m<=a)(hb:nx'<=b)(hm:m<=nx')
  (h1:mapSl (fun i=>if i=a then b else i) (fun i=>i<nx') sl sl') (h2:mapHp (fun i=>if i=a then b else i) (fun i=>i<nx') hp hp'):Le B ⟨sl,hp,nx,nt⟩ ⟨sl',hp',nx',nt⟩:=
 Le.map (fun i=>if i=a then b else i) (fun i=>i<nx') hB (fun i hi=>⟨by omega,if_neg om⟩) (fun i hi=>hi) (fun i j hi hj e=>by split at e<;>split at e<;>omega) h1 fun i k' h _=>mapHp_get h2 i k' h
end
section
open Go.RowKit
theorem okL_clo{ok:Nat->Bool}{x:V}(h:clo x=true):okL ok x=true:=by
 cases x<;>first|rfl|(cases h;done)
theorem LLe.cl{ok:Nat->Bool}{l l':List V}(e:l=l')(h:l.all clo=true):LLe ok l l':=by
 subst e
 exact⟨znb _,fun i y x h1 h2=>by
  rw[h1]at h2
  cases h2
  exact VLe.okL (okL_clo (List.all_eq_true.1 h _ (List.mem_of_getElem? h1)))⟩
theorem renL_clo(f:Nat->Nat): ∀{l:List V},l.all clo=true->V.renL f l=l
 |[],_=>by simp[V.renL]
 |x::r,h=>by
  rw[List.all_cons,Bool.and_eq_true]at h
  rw[V.renL,renL_clo f h.2]
  congr 1
  have h1:=h.1
  cases x<;>first|(simp[V.ren];done)|(cases h1;done)
theorem LLe.clR{ok:Nat->Bool}{f:Nat->Nat}{l l':List V}(e:l=l')(h:l.all clo=true):LLe ok (V.renL f l) l':=by
 rw[renL_clo f h];exact LLe.cl e h
theorem hdel_no{a:Nat}: ∀{X:List (Nat×Blk)},(∀k,hget X a=some k->False)->hdel X a=X
 |[],_=>rfl
 | (i,b)::r,h=>by
  by_cases e:a=i
  ·exact(h b (by simp only[hget];rw[if_pos e])).elim
  ·have:=hdel_no (a:=a) (X:=r) fun k hk=>h k (by simp only[hget];rw[if_neg e];exact hk)
   rw[hdel_cons,if_neg (fun x=>e x.symm),this]
end
section
open Go.RowKit
theorem matQ_val{h w K nx nx':Nat}{M:List (List Int)}{y:V}{hp:List (Nat×Blk)}(hM:MI h w K M)(hq:MatQ w M nx y hp nx'): ∃ids,frz 8 hp y=some (mat w M,ids):=by
 obtain⟨o,ids,hR,rfl,rfl⟩:=hq
 have hidl:=hR.len
 have g1:=slR_len 2 w ids
 rw[hidl]at g1
 unfold mat
 by_cases h0:M.length=0
 ·have hM0:M=[]:=List.eq_nil_of_length_eq_zero h0
  subst hM0
  have hids:ids=[]:=List.eq_nil_of_length_eq_zero (by simpa using hidl)
  subst hids
  exact⟨_,by simp(disch:=omega) only[go_sem,↓reduceIte,zn1,zn2,zn3,zn4,zn5,zn6,reduceCtorEq,zn7,zi1,zi2,if_pos,if_neg,Int.reduceAdd]<;>rfl⟩
 ·have hrows: ∀k,k<ids.length->hget ((o,(⟨41,slR 2 w ids,false⟩:Blk))::rowsH 68 ids (rI M)) (ids.getD k 0)=some ⟨68,(rI M).getD k [],false⟩:=by
   intro k hk
   have hm:=getD_mem' hk
   simp only[hget]
   rw[if_neg (fun e=>hR.o2 (by rw[<-e];exact hm))]
   exact rows_get hR.nod hk (by rw[rI_len];omega)
  have hfz:=frz_rowsA (n:=5) (z:=2) (m:=w) (ty:=68) (ids:=ids) (rs:=rI M) om (by rw[rI_len];omega) hrows (rI_rows hM)
  have hsl:=slR_some (z:=2) (m:=w) (ids:=ids) om
  have ht:(slR 2 w ids).take M.length=slR 2 w ids:=zla om
  exact⟨_,by simp(disch:=omega) only[go_sem,↓reduceIte,zn1,zn2,zn3,zn4,zn5,zn6,reduceCtorEq,zn7,zi1,zi2,if_pos,if_neg,Int.reduceAdd,hfz,hsl,ht,g1]<;>rfl⟩
theorem ucopied_s{h w K:Nat}{M:List (List Int)}(hM:MI h w K M)(hn:h<=1000000)(hw:w<=1000000):Spec Tryz.prog 51 [mat w M] (mat w M):=
 Spec.ofQ (ucopied_q hM 0 hn hw) fun _ _ _ hq=>matQ_val hM hq
theorem rowsIm{B:Base}{sl:List (Nat×V)}{nx nt o w:Nat}{ty tr:TypeId}{pre:List (Nat×Blk)}: ∀{ids:List Nat} {rs:List (List V)} {D:List V},ids.length=rs.length->(∀r∈rs,r.length=w*2/\r.all clo=true)->ids.Nodup->o∉ids->(∀i k,hget pre i=some k->i∉ids/\i≠o)->
  Le B ⟨sl,pre++(o,⟨ty,D++slR 2 w ids,false⟩)::rowsH tr ids rs,nx,nt⟩ ⟨sl,pre++ [(o,⟨ty,D++imR w rs,false⟩)],nx,nt⟩
 |[],[],D,_,_,_,_,_=>Le.refl _ _
 | a::ids,r::rs,D,hl,hr,hn,ho,hp=>by
  obtain⟨hr1,hr2⟩:=hr r (by simp)
  have hpo:hget pre o=none:=by cases e:hget pre o with|none=>rfl|some k=>exact absurd rfl (hp o k e).2
  have hpa:hget pre a=none:=by cases e:hget pre a with|none=>rfl|some k=>exact absurd (List.mem_cons_self) (hp a k e).1
  have hoa:o≠a:=fun e=>ho (e▸List.mem_cons_self)
  have hgo:hget (pre++(o,(⟨ty,D++slR 2 w (a::ids),false⟩:Blk))::rowsH tr (a::ids) (r::rs)) o=some ⟨ty,D++slR 2 w (a::ids),false⟩:=by rw[hget_app,hpo];simp[hget]
  have hga:hget (pre++(o,(⟨ty,D++slR 2 w (a::ids),false⟩:Blk))::rowsH tr (a::ids) (r::rs)) a=some ⟨tr,r,false⟩:=by
   rw[hget_app,hpa];simp only[hget,rowsH];rw[if_neg (fun e=>hoa e.symm),if_pos trivial]
  have hf:frz 8 (pre++(o,(⟨ty,D++slR 2 w (a::ids),false⟩:Blk))::rowsH tr (a::ids) (r::rs)) (V.sl a 0 w 2 none)=some (V.im r w,[a]):=by
   rw[frz_sl,hga,srcG_some,if_pos om,zl2,zla om,fzQ_some,frzL_eq,if_pos hr2];rfl
  refine Le.trans (frzCell (hp':=pre++(o,⟨ty,(D++ [V.im r w])++slR 2 w ids,false⟩)::rowsH tr ids rs) o D.length hgo (by show(D++V.sl a 0 w 2 none::slR 2 w ids)[D.length]? =_;rw[List.getElem?_append_right (znb _),Nat.sub_self];rfl) hf (by simpa using hoa) fun i b hb=> ?_) (by
   have:=rowsIm (B:=B) (sl:=sl) (nx:=nx) (nt:=nt) (o:=o) (w:=w) (ty:=ty) (tr:=tr) (pre:=pre) (ids:=ids) (rs:=rs) (D:=D++ [V.im r w]) (by simpa using hl) (fun q hq=>hr q (by simp[hq])) (List.nodup_cons.1 hn).2 (fun h=>ho (by simp[h])) (fun i k hk=>⟨fun h=>(hp i k hk).1 (by simp[h]),(hp i k hk).2⟩)
   have e:D++ [V.im r w]++imR w rs=D++imR w (r::rs):=by rw[zl6];rfl
   rw[e]at this;exact this)
  rw[hget_app]at hb⊢
  cases e:hget pre i with
  |some q=>
   rw[e]at hb
   obtain⟨p1,p2⟩:=hp i q e
   exact .inr ⟨p2,fun h=>p1 (by simp at h;simp[h]),hb⟩
  | none=>
   rw[e]at hb
   simp only[hget]at hb⊢
   by_cases eo:i=o
   ·rw[if_pos eo]at hb
    cases hb
    refine .inl ⟨eo,?_⟩
    show _=(⟨ty,(D++V.sl a 0 w 2 none::slR 2 w ids).set D.length (V.im r w),false⟩:Blk)
    rw[List.set_append_right _ _ (znb _),Nat.sub_self,List.set_cons_zero,zl6];rfl
   ·rw[if_neg eo]at hb
    obtain⟨q,q1,_,q3,_⟩:=rows_inv hb
    have hia:i≠a:=fun h=>(List.nodup_cons.1 hn).1 (by rw[<-h,<-q3];exact getD_mem' q1)
    refine .inr ⟨eo,by simpa using hia,?_⟩
    rw[if_neg eo,rowsH];simp only[hget];rw[if_neg hia];exact hb
 |[],_::_,_,hl,_,_,_,_=>by simp at hl
 |_::_,[],_,hl,_,_,_,_=>by simp at hl
end
section
open Go.RowKit
theorem ulength_s(v:List Int)(n:Nat)(hv:v.length<=1000000)(hn:n<=1000000):Spec Tryz.prog 166 [.im (ivR v) v.length,.sc (.int .i64 n)] (.sc (.int .i64 (if v.length=n then 0 else 50))):=by
 refine qF Tryz.func166 Tryz.ntmps166 fun B hB=> ?_
 by_cases h:v.length=n
 ·have e:(((v.length:Nat):Int) !=(n:Int))=false:=by rw[h];simp
  rw[if_pos h]
  refine qWf @e ?_
  exact qE Tryz.results166
 ·have e:(((v.length:Nat):Int) !=(n:Int))=true:=by rw[bne_iff_ne];omega
  rw[if_neg h]
  refine qWf @e ?_
  exact qE Tryz.results166
section
variable {h w K:Nat} {M:List (List Int)}
theorem fitI_s(hM:MI h w K M)(hn:h<=1000000)(hw:w<=1000000)(i:Int)(v:List Int)(hv:v.length<=1000000):
  Spec Tryz.prog 163 [.ag [.sc (.int .i64 i),.im (ivR v) v.length],mat w M] (.sc (.int .i64 (if i<0\/(h:Int)<i then 1 else if v.length=w then 0 else 50))):=by
 have hl:=hM.len
 have c1:=ulength_s v w hv hw
 unfold mat
 rw[hl]
 refine qF Tryz.func163 Tryz.ntmps163 fun B hB=> ?_
 by_cases h1:i<0
 ·have e1:decide (i<0)=true:=decide_eq_true h1
  rw[if_pos (.inl h1)]
  clear c1
  refine qWf @e1 ?_
  exact qE Tryz.results163
 ·have e1:decide (i<0)=false:=decide_eq_false h1
  by_cases h2:(h:Int)<i
  ·have e2:decide (i>(h:Int))=true:=decide_eq_true h2
   rw[if_pos (.inr h2)]
   clear c1
   refine qWf (Q2 @e1 @e2) ?_
   exact qE Tryz.results163
  ·have e2:decide (i>(h:Int))=false:=decide_eq_false h2
   rw[if_neg om]
   refine qWf (Q2 @e1 @e2) ?_
   exact qE Tryz.results163
theorem fitD_s(hM:MI h w K M)(hn:h<=1000000)(i:Int):
  Spec Tryz.prog 172 [.ag [.sc (.int .i64 i)],mat w M] (.sc (.int .i64 (if i<0\/(h:Int)<=i then 1 else 0))):=by
 have hl:=hM.len
 unfold mat
 rw[hl]
 refine qF Tryz.func172 Tryz.ntmps172 fun B hB=> ?_
 by_cases h1:i<0
 ·have e1:decide (i<0)=true:=decide_eq_true h1
  rw[if_pos (.inl h1)]
  refine qWf @e1 ?_
  exact qE Tryz.results172
 ·have e1:decide (i<0)=false:=decide_eq_false h1
  by_cases h2:(h:Int)<=i
  ·have e2:decide (i>=(h:Int))=true:=decide_eq_true h2
   rw[if_pos (.inr h2)]
   refine qWf (Q2 @e1 @e2) ?_
   exact qE Tryz.results172
  ·have e2:decide (i>=(h:Int))=false:=decide_eq_false h2
   rw[if_neg om]
   refine qWf (Q2 @e1 @e2) ?_
   exact qE Tryz.results172
theorem fitP_s(hM:MI h w K M)(hn:h<=1000000)(hw:w<=1000000)(u v:List Int)(hu:u.length<=1000000)(hv:v.length<=1000000):
  Spec Tryz.prog 175 [.ag [.im (ivR u) u.length,.im (ivR v) v.length],mat w M] (.sc (.int .i64 (if u.length=h/\v.length=w then 0 else 50))):=by
 have hl:=hM.len
 have c1:=ulength_s u h hu hn
 have c2:=ulength_s v w hv hw
 unfold mat
 rw[hl]
 refine qF Tryz.func175 Tryz.ntmps175 fun B hB=> ?_
 by_cases h1:u.length=h
 ·rw[if_pos h1]at c1
  rw[show(if u.length=h/\v.length=w then(0:Int)else 50)=if v.length=w then 0 else 50 by by_cases h2:v.length=w<;>simp[h1,h2]]
  refine qW ?_
  exact qE Tryz.results175
 ·rw[if_neg h1]at c1
  rw[if_neg fun e=>h1 e.1]
  refine qW ?_
  exact qE Tryz.results175
theorem fitC_s(hM:MI h w K M)(hn:h<=1000000)(v:List Int)(hv:v.length<=1000000):
  Spec Tryz.prog 177 [.ag [.im (ivR v) v.length],mat w M] (.sc (.int .i64 (if v.length=h then 0 else 50))):=by
 have hl:=hM.len
 have c1:=ulength_s v h hv hn
 unfold mat
 rw[hl]
 refine qF Tryz.func177 Tryz.ntmps177 fun B hB=> ?_
 refine qW ?_
 exact qE Tryz.results177
end
end
end Go.Proofs.YtannldafjkjjbaaGreat
