/- Texts joined: Sy Sz Sm Sw Ln Ld Lo Lp Qc Jk Qd Qe Vam. -/
import Derived.Defers
import Derived.Recover
import Derived.Tactics
import Derived.Test.YtannldafjkjjbaaGreatVd
import Derived.Test.YtannldafjkjjbaaGreatVe
set_option linter.all false
set_option maxHeartbeats 16000000
open Nat renaming reduceEqDiff → zn1, reduceLT → zn2, reduceLeDiff → zn3, reduceAdd → zn4, reduceMul → zn5, reduceSub → zn6, reduceBEq → zn7, mul_one → zn8, zero_add → zn9, one_mul → zna, le_refl → znb, zero_le → znc, add_sub_cancel_left → znd, sub_eq_zero_of_le → zne, add_assoc → znf
open Int renaming reduceToNat → zi1, reducePow → zi2
open List renaming length_append → zl1, drop_zero → zl2, take_succ_cons → zl3, take_zero → zl4, getElem?_drop → zl5, append_assoc → zl6, nil_append → zl7, cons_append → zl8, drop_succ_cons → zl9, take_of_length_le → zla, getElem?_eq_getElem → zlb, getElem?_eq_some_iff → zlc, map_cons → zld, map_nil → zle, all_eq_true → zlf
namespace Go.Proofs.YtannldafjkjjbaaGreat
section
open Go.RowKit
section
variable {P:Program} {w:World} {B:Base} {S:Nat->Prop} {rho:Nat->Nat} {A:Nat->Prop} {s:SS}
theorem Le.less{sl:List (Nat×V)}{hp hp':List (Nat×Blk)}{nx nx' nt:Nat}(h: ∀id k,hget hp' id=some k->hget hp id=some k)(hn:nx<=nx'):Le B ⟨sl,hp,nx,nt⟩ ⟨sl,hp',nx',nt⟩:=
 fun S rho A _ _ hr=>⟨S,rho,A,hr.slots,hr.mem.less h,fun id hid=>Nat.lt_of_lt_of_le (hr.alt id hid) hn,hr.nt,hr.defs⟩
def okAll:Nat->Bool:=fun _=>true
theorem Le.slots{sl sl':List (Nat×V)}{hp hp':List (Nat×Blk)}{nx nx' nt:Nat}(h1:leSl okAll sl sl')(h: ∀id k,hget hp' id=some k->hget hp id=some k)(hn:nx<=nx'):Le B ⟨sl,hp,nx,nt⟩ ⟨sl',hp',nx',nt⟩:=
 fun S rho A a w hr=>⟨S,rho,A,fun t=>(leSl_get h1 t S rho A w _ (hr.slots t)).mono (fun _ h=>⟨h,rfl⟩) (fun _ h=>⟨h.1,rfl,fun _ h=>h⟩),hr.mem.less h,fun id hid=>Nat.lt_of_lt_of_le (hr.alt id hid) hn,hr.nt,hr.defs⟩
theorem Le.frz{sl:List (Nat×V)}{hp:List (Nat×Blk)}{nx nt:Nat}{y:V}{ids:List Nat}(t:Nat)(ht:t<nt)(h:frz 8 hp (get sl t)=some (y,ids)):Le B ⟨sl,hp,nx,nt⟩ ⟨(t,y)::sl,fzHp hp ids,nx,nt⟩:=by
 intro S rho A a w hr
 have hf:=frz_sound hr.mem 8 _ _ _ _ h (hr.slots t)
 have hm:=hr.mem.freeze ids hf.live
 refine⟨addS S rho A ids,rho,A,fun t'=> ?_,hm,hr.alt,hr.nt,hr.defs⟩
 simp only[get]
 by_cases e:t'=t
 ·subst e;rw[if_pos rfl];exact hf.rep.open
 ·rw[if_neg e];exact(hr.slots t').wide fun b hb=> .inl hb
theorem SC.frz{cs:List Code}{Q:Exit->SS->Prop}{sl:List (Nat×V)}{hp hp':List (Nat×Blk)}{nx nt:Nat}{y:V}{ids:List Nat}(t:Nat)(hcs:cs≠ [])(h:frz 8 hp (get sl t)=some (y,ids))(ht:t<nt)(he:fzHp hp ids=hp')(k:SC P B cs Q ⟨(t,y)::sl,hp',nx,nt⟩):SC P B cs Q ⟨sl,hp,nx,nt⟩:=
 SC.weak hcs (Le.frz t ht h) (he▸k)
theorem SC.less{cs:List Code}{Q:Exit->SS->Prop}{sl:List (Nat×V)}{hp hp':List (Nat×Blk)}{nx nt:Nat}(hcs:cs≠ [])(h: ∀id k,hget hp' id=some k->hget hp id=some k)(k:SC P B cs Q ⟨sl,hp',nx,nt⟩):SC P B cs Q ⟨sl,hp,nx,nt⟩:=
 SC.weak hcs (Le.less h (znb _)) k
def rowsH(ty:TypeId):List Nat->List (List V)->List (Nat×Blk)
 |i::ids,r::rs=>(i,⟨ty,r,false⟩)::rowsH ty ids rs
 |_,_=>[]
theorem rows_none{ty:TypeId}: ∀{ids:List Nat} {rs:List (List V)} {i:Nat},i∉ids->hget (rowsH ty ids rs) i=none
 |[],_,_,_=>by simp[rowsH,hget]
 |_::_,[],_,_=>by simp[rowsH,hget]
 |j::ids,r::rs,i,h=>by
  simp only[List.mem_cons,not_or]at h
  rw[rowsH,hget,if_neg h.1];exact rows_none h.2
theorem rows_get{ty:TypeId}: ∀{ids:List Nat} {rs:List (List V)} {k:Nat},ids.Nodup->k<ids.length->ids.length=rs.length->hget (rowsH ty ids rs) (ids.getD k 0)=some ⟨ty,rs.getD k [],false⟩
 |[],_,k,_,h,_=>by simp at h
 |_::_,[],k,_,_,h=>by simp at h
 |j::ids,r::rs,0,_,_,_=>by simp[rowsH,hget]
 | j::ids,r::rs,k+1,hn,hk,hl=>by
  have hk':k<ids.length:=by simpa using hk
  have hn':=List.nodup_cons.1 hn
  have hne:ids.getD k 0≠j:=by
   intro e
   have:ids.getD k 0∈ids:=by rw[List.getD_eq_getElem?_getD,zlb hk'];exact List.getElem_mem hk'
   exact hn'.1 (e▸this)
  rw[List.getD_cons_succ,List.getD_cons_succ,rowsH,hget,if_neg hne]
  exact rows_get hn'.2 hk' (by simpa using hl)
theorem rows_set{ty:TypeId}: ∀{ids:List Nat} {rs:List (List V)} {k:Nat} {r:List V},ids.Nodup->k<ids.length->ids.length=rs.length->hset (rowsH ty ids rs) (ids.getD k 0) ⟨ty,r,false⟩=rowsH ty ids (rs.set k r)
 |[],_,k,_,_,h,_=>by simp at h
 |_::_,[],k,_,_,_,h=>by simp at h
 |j::ids,q::rs,0,_,_,_,_=>by simp[rowsH,hset]
 | j::ids,q::rs,k+1,r,hn,hk,hl=>by
  have hk':k<ids.length:=by simpa using hk
  have hn':=List.nodup_cons.1 hn
  have hne:ids.getD k 0≠j:=by
   intro e
   have:ids.getD k 0∈ids:=by rw[List.getD_eq_getElem?_getD,zlb hk'];exact List.getElem_mem hk'
   exact hn'.1 (e▸this)
  rw[List.getD_cons_succ,List.set_cons_succ,rowsH,rowsH,hset,if_neg hne,rows_set hn'.2 hk' (by simpa using hl)]
theorem rows_del{ty:TypeId}: ∀{ids:List Nat} {rs:List (List V)} {i:Nat},i∉ids->hdel (rowsH ty ids rs) i=rowsH ty ids rs
 |[],_,_,_=>by simp[rowsH,hdel]
 |_::_,[],_,_=>by simp[rowsH,hdel]
 |j::ids,r::rs,i,h=>by
  simp only[List.mem_cons,not_or]at h
  rw[rowsH,hdel_cons,if_neg (fun e=>h.1 e.symm),rows_del h.2]
theorem rows_inv{ty:TypeId}: ∀{ids:List Nat} {rs:List (List V)} {i:Nat} {b:Blk},hget (rowsH ty ids rs) i=some b-> ∃k,k<ids.length/\k<rs.length/\ids.getD k 0=i/\b=⟨ty,rs.getD k [],false⟩
 |[],rs,i,b,h=>by simp[rowsH,hget]at h
 |_::_,[],i,b,h=>by simp[rowsH,hget]at h
 | j::ids,r::rs,i,b,h=>by
  rw[rowsH,hget]at h
  by_cases e:i=j
  ·rw[if_pos e]at h;cases h
   exact⟨0,by simp,by simp,by simp[e],by simp⟩
  ·rw[if_neg e]at h
   obtain⟨k,h1,h2,h3,h4⟩:=rows_inv h
   exact⟨k+1,by simpa using h1,by simpa using h2,by simpa using h3,by simpa using h4⟩
theorem getD_mem'{ids:List Nat}{k:Nat}(h:k<ids.length):ids.getD k 0∈ids:=by
 rw[List.getD_eq_getElem?_getD,zlb h];exact List.getElem_mem h
theorem getD_get'{α:Type}{l:List α}{k:Nat}{d:α}(h:k<l.length):l[k]? =some (l.getD k d):=by
 rw[List.getD_eq_getElem?_getD,zlb h];rfl
theorem nodup_getD{ids:List Nat}(h:ids.Nodup){i j:Nat}(hi:i<ids.length)(hj:j<ids.length)(e:ids.getD i 0=ids.getD j 0):i=j:=by
 rw[List.getD_eq_getElem?_getD,zlb hi,List.getD_eq_getElem?_getD,zlb hj]at e
 have e':ids[i]=ids[j]:=by simpa using e
 have hp:=List.pairwise_iff_getElem.1 h
 rcases Nat.lt_trichotomy i j with g|g|g
 ·exact absurd e' (hp i j hi hj g)
 ·exact g
 ·exact absurd e'.symm (hp j i hj hi g)
theorem rows_perm{ty:TypeId}{ids ids':List Nat}{rs rs':List (List V)}(hn:ids.Nodup)(hl:ids.length=rs.length)
  (h: ∀k,k<ids'.length->k<rs'.length-> ∃j,j<ids.length/\ids'.getD k 0=ids.getD j 0/\rs'.getD k []=rs.getD j []): ∀id k,hget (rowsH ty ids' rs') id=some k->hget (rowsH ty ids rs) id=some k:=by
 intro id b hb
 obtain⟨k,h1,h2,h3,rfl⟩:=rows_inv hb
 obtain⟨j,g1,g2,g3⟩:=h k h1 h2
 rw[<-h3,g2,g3];exact rows_get hn g1 hl
theorem rows_snoc{ty:TypeId}: ∀{ids:List Nat} {rs:List (List V)} {i:Nat} {r:List V},ids.length=rs.length->i∉ids-> ∀id k,hget (rowsH ty (ids++ [i]) (rs++ [r])) id=some k->hget ((i,⟨ty,r,false⟩)::rowsH ty ids rs) id=some k
 |[],[],i,r,_,_,id,k,h=>h
 | j::ids,q::rs,i,r,hl,hi,id,k,h=>by
  simp only[List.mem_cons,not_or]at hi
  simp only[zl8,rowsH,hget]at h⊢
  by_cases e:id=j
  ·rw[if_pos e]at h
   rw[if_neg (fun e'=>hi.1 (e'.symm.trans e)),if_pos e];exact h
  ·rw[if_neg e]at h
   have:=rows_snoc (by simpa using hl) hi.2 id k h
   simp only[hget]at this
   rw[if_neg e];exact this
 |[],_::_,_,_,hl,_,_,_,_=>by simp at hl
 |_::_,[],_,_,hl,_,_,_,_=>by simp at hl
theorem frzAll_ix{g:V->Option (V×List Nat)}: ∀{cs ys:List V} {is:List (List Nat)},cs.length=ys.length->cs.length=is.length->(∀k,k<cs.length->g (cs.getD k .junk)=some (ys.getD k .junk,is.getD k []))->frzAll g cs=some (ys,is.flatten)
 |[],[],[],_,_,_=>rfl
 |c::cs,y::ys,i::is,h1,h2,h=>by
  have h0:=h 0 (by simp)
  simp at h0
  rw[frzAll_cons,h0,fzC_some,frzAll_ix (by simpa using h1) (by simpa using h2) (fun k hk=>by have:=h (k+1) (by simpa using hk);simpa using this)]
  rfl
 |[],_::_,_,h,_,_=>by simp at h
 |_::_,[],_,h,_,_=>by simp at h
 |_::_,_::_,[],_,h,_=>by simp at h
 |[],[],_::_,_,h,_=>by simp at h
theorem frzL_ix{g:V->Option (V×List Nat)}{cs ys:List V}{is:List (List Nat)}(h1:cs.length=ys.length)(h2:cs.length=is.length)(hc: ∀c∈cs,clo c=false)(h: ∀k,k<cs.length->g (cs.getD k .junk)=some (ys.getD k .junk,is.getD k [])):frzL g cs=some (ys,is.flatten):=by
 unfold frzL
 split
 ·rename_i hall
  have:cs=[]:=by
   cases cs with
   |nil=>rfl
   |cons c r=>have:=hc c (by simp);simp at hall;rw[this]at hall;exact absurd hall.1 (by simp)
  subst this
  have e1:ys=[]:=List.eq_nil_of_length_eq_zero h1.symm
  have e2:is=[]:=List.eq_nil_of_length_eq_zero h2.symm
  subst e1;subst e2;rfl
 ·exact frzAll_ix h1 h2 h
def slR(z m:Nat)(ids:List Nat):List V:=ids.map fun i=>V.sl i 0 m z none
theorem slR_len(z m:Nat)(ids:List Nat):(slR z m ids).length=ids.length:=by simp[slR]
theorem slR_get{z m k:Nat}{ids:List Nat}(h:k<ids.length):(slR z m ids)[k]? =some (V.sl (ids.getD k 0) 0 m z none):=by
 unfold slR;rw[List.getElem?_map,getD_get' (d:=0) h];rfl
theorem slR_set{z m k i:Nat}{ids:List Nat}:(slR z m ids).set k (V.sl i 0 m z none)=slR z m (ids.set k i):=by simp[slR,List.map_set]
def imR(m:Nat)(rs:List (List V)):List V:=rs.map fun r=>V.im r m
theorem frz_rows{hp:List (Nat×Blk)}{ty:TypeId}{ids:List Nat}{rs:List (List V)}{n m z:Nat}(hl:ids.length=rs.length)(hg: ∀k,k<ids.length->hget hp (ids.getD k 0)=some ⟨ty,rs.getD k [],false⟩)
  (hr: ∀r∈rs,r.length=m*z/\r.all clo=true):frzL (frz (n+1) hp) (slR z m ids)=some (imR m rs,ids):=by
 have h:=frzL_ix (g:=frz (n+1) hp) (cs:=slR z m ids) (ys:=imR m rs) (is:=ids.map fun i=>[i]) (by simp[slR,imR,hl]) (by simp[slR]) (by intro c hc;obtain⟨i,_,rfl⟩:=List.mem_map.1 hc;rfl) (fun k hk=>by
  have hk':k<ids.length:=by simpa[slR]using hk
  have hk2:k<rs.length:=by omega
  have e1:(slR z m ids).getD k .junk=V.sl (ids.getD k 0) 0 m z none:=by rw[List.getD_eq_getElem?_getD,slR_get hk'];rfl
  have hrow:=hr (rs.getD k []) (by rw[List.getD_eq_getElem?_getD,zlb hk2];exact List.getElem_mem hk2)
  have e2:(imR m rs).getD k .junk=V.im (rs.getD k []) m:=by
   unfold imR;rw[List.getD_eq_getElem?_getD,List.getElem?_map,getD_get' (d:=[]) hk2];rfl
  have e3:(ids.map fun i=>[i]).getD k []=[ids.getD k 0]:=by
   rw[List.getD_eq_getElem?_getD,List.getElem?_map,getD_get' (d:=0) hk'];rfl
  rw[e1,e2,e3,frz_sl,hg k hk',srcG_some,if_pos om,zl2,zla om,fzQ_some,frzL_eq,if_pos hrow.2]
  rfl)
 have e: ∀l:List Nat,(l.map fun i=>[i]).flatten=l:=by
  intro l
  induction l with
  |nil=>rfl
  |cons i r ih=>rw[zld,List.flatten_cons,ih];rfl
 rw[h,e]
theorem slR_some{z m:Nat}{ids:List Nat}(h:0<ids.length):(slR z m ids).all clo=false:=by
 cases ids with
 |nil=>simp at h
 |cons i r=>rfl
theorem frz_rowsA{hp:List (Nat×Blk)}{ty:TypeId}{ids:List Nat}{rs:List (List V)}{n m z:Nat}(h0:0<ids.length)(hl:ids.length=rs.length)(hg: ∀k,k<ids.length->hget hp (ids.getD k 0)=some ⟨ty,rs.getD k [],false⟩)
  (hr: ∀r∈rs,r.length=m*z/\r.all clo=true):frzAll (frz (n+1) hp) (slR z m ids)=some (imR m rs,ids):=by
 have h:=frz_rows (n:=n) hl hg hr
 rwa[frzL_eq,slR_some h0,if_neg (by simp)]at h
def retIQ(P:Program)(fn:Func)(B:Base)(Q:V->List (Nat×Blk)->Nat->Prop):Exit->SS->Prop
 | .normal,s| .ret,s=> ∃y x hp nx,resV P fn s=some y/\Q x hp nx/\Le B (vst y s.hp s.nx) (vst x hp nx)
 |_,_=>False
def Idle(P:Program)(g:Nat):Prop:= ∀w:World,(callFunc g #[]).run P w= .ok (.enter g #[]) w/\CallsD P g #[] .returning w fun e u w'=>(∃v,e= .returned v)/\u= .returning/\w'=w
theorem Idle.of{g id t:Nat}{fn:Func}{o:Oper}{n:Nat}(hgo:isGo P g=true)(hf:P.funcs[g]? =some fn)(hb:fn.body=some (.region id #[o] false))(ho:o.op= .call {callee:= .builtin .recover,args:= #[],argTypes:= #[]})(hd:o.dst=some t)(hg:o.guard=none)(hn:fn.ntmps=n)(hr:fn.results= #[]):Idle P g:=by
 intro w
 refine⟨callFunc_go hgo _ _,callsD_of_wpS hf hb fun c₀ cs hu=> ?_⟩
 apply wpS_region
 have hw: ∀ts,Region.wanted o (yielded #[o] ts)=true:=by intro ts;unfold Region.wanted;rw[hg]
 have hx: ∀(ρ:Operand->Value),(execOp ρ o).run P w= .ok .recover w:=by
  intro ρ
  obtain⟨d,op,g,ty,pos,aft⟩:=o
  simp only at ho
  subst ho
  simp only[execOp,resolve,List.map_toArray,zle,Sem.run_bind,Sem.run_pure]
  rfl
 show wpOpsS P #[o] _ [0] _ _ _
 simp only[wpOpsS,List.getElem?_toArray,List.getElem?_cons_zero]
 rw[if_pos (hw _),hx]
 simp only[recoverD,hu,hd,Act.put]
 refine⟨rfl,c₀.mode,?_,.tuple #[],?_,⟨_,rfl⟩,hu,rfl⟩
 ·cases c₀;rfl
 ·rw[results,hr];simp[go_sem]
def Base.dfr(B:Base)(D:List Deferred):Base:=⟨B.w0,B.S0,B.K,B.rho0,B.L,D⟩
theorem Mem.dfr{hp:List (Nat×Blk)}(D:List Deferred)(h:Mem B S rho A hp w):Mem (B.dfr D) S rho A hp w where
 cells:=h.cells
 fz:=h.fz
 own:=h.own
 inj:=h.inj
 slt:=h.slt
 sub:=h.sub
 base:=h.base
 frame:=⟨h.frame.os,h.frame.tape,h.frame.output,h.frame.size,h.frame.block,h.frame.stay,h.frame.sz,h.frame.lt,h.frame.tab⟩
 keep:=h.keep
theorem Mem.undfr{hp:List (Nat×Blk)}{D:List Deferred}(h:Mem (B.dfr D) S rho A hp w):Mem B S rho A hp w:=h.dfr B.D
theorem Rel.dfr{a:Act}(D:List Deferred)(h:Rel B S rho A s a w):Rel (B.dfr D) S rho A s ⟨a.tmps,D⟩ w:=⟨h.slots,h.mem.dfr D,h.alt,h.nt,rfl⟩
def Dfr(P:Program)(c:Code)(s0 s1:SS)(rest:Code):Prop:=
 ∃i0 r0 i1 o g,c= .seq (.region i0 (List.toArray r0) false) (.seq (.region i1 #[o] false) rest)/\o.op= .defer {callee:= .value (.func g),args:= #[],argTypes:= #[]}/\o.dst=none/\o.guard=none/\Idle P g/\runL P r0.toArray s0 r0=some s1
def InlQ(P:Program)(f:Nat)(args:List V)(hp:List (Nat×Blk))(nx:Nat)(Q:V->List (Nat×Blk)->Nat->Prop):Prop:=
 ∃fn c,P.funcs[f]? =some fn/\fn.body=some c/\args.length<=fn.ntmps/\((∀B:Base,B.Old nx->SWp P B c (retIQ P fn B Q) ⟨stSl 0 args,hp,nx,fn.ntmps⟩)\/ ∃s1 rest,Dfr P c ⟨stSl 0 args,hp,nx,fn.ntmps⟩ s1 rest/\ ∀B:Base,B.Old nx->SWp P B rest (retIQ P fn B Q) s1)
theorem Inl.toQ{f:Nat}{args:List V}{hp hp':List (Nat×Blk)}{nx nx':Nat}{x:V}(h:Inl P f args hp nx x hp' nx'):InlQ P f args hp nx fun y q m=>y=x/\q=hp'/\m=nx':=by
 obtain⟨fn,c,h1,h2,h3,h4⟩:=h
 refine⟨fn,c,h1,h2,h3,.inl fun B hB=>SWp.mono (h4 B hB) fun e s h=> ?_⟩
 cases e<;>first|exact h.elim|exact(let⟨y,a,b⟩:=h;⟨y,x,hp',nx',a,⟨rfl,rfl,rfl⟩,b⟩)
theorem InlQ.run{f:Nat}{fn:Func}{c:Code}{args:List V}{n nx:Nat}{s0:SS}{hp:List (Nat×Blk)}{Q:V->List (Nat×Blk)->Nat->Prop}(hf:P.funcs[f]? =some fn)(hb:fn.body=some c)(hnt:fn.ntmps=n)(hn:args.length<=n)(h0:(⟨stSl 0 args,hp,nx,n⟩:SS)=s0)(h: ∀B:Base,B.Old nx->SC P B [c] (retIQ P fn B Q) s0):InlQ P f args hp nx Q:=by
 subst hnt;subst h0
 exact⟨fn,c,hf,hb,hn,.inl fun B hB=>SC.of (h B hB)⟩
theorem InlQ.runD{f g i0 i1:Nat}{fn:Func}{r0:List Oper}{o:Oper}{rest:Code}{args:List V}{n nx:Nat}{s0 s1:SS}{hp:List (Nat×Blk)}{Q:V->List (Nat×Blk)->Nat->Prop}(hf:P.funcs[f]? =some fn)(hb:fn.body=some (.seq (.region i0 r0.toArray false) (.seq (.region i1 #[o] false) rest)))
  (ho:o.op= .defer {callee:= .value (.func g),args:= #[],argTypes:= #[]}) (hd:o.dst=none) (hg:o.guard=none) (hi:Idle P g) (hnt:fn.ntmps=n) (hn:args.length<=n) (h0:(⟨stSl 0 args,hp,nx,n⟩:SS)=s0) (h1:runL P r0.toArray s0 r0=some s1)
  (h: ∀B:Base,B.Old nx->SC P B [rest] (retIQ P fn B Q) s1):InlQ P f args hp nx Q:=by
 subst hnt;subst h0
 exact⟨fn,_,hf,hb,hn,.inr ⟨s1,rest,⟨i0,r0,i1,o,g,rfl,ho,hd,hg,hi,h1⟩,fun B hB=>SC.of (h B hB)⟩⟩
theorem retIQ_ret{s:SS}{fn:Func}{y:V}(x:V)(hp:List (Nat×Blk))(nx:Nat){Q:V->List (Nat×Blk)->Nat->Prop}{rs:List ResultVar}(hr:fn.results=rs.toArray)(h1:resG P s rs=some y)(hq:Q x hp nx)(h2:Le B (vst y s.hp s.nx) (vst x hp nx)):retIQ P fn B Q .ret s:=⟨y,x,hp,nx,by rw[resV_eq,hr];exact h1,hq,h2⟩
theorem retIQ_normal{s:SS}{fn:Func}{y:V}(x:V)(hp:List (Nat×Blk))(nx:Nat){Q:V->List (Nat×Blk)->Nat->Prop}{rs:List ResultVar}(hr:fn.results=rs.toArray)(h1:resG P s rs=some y)(hq:Q x hp nx)(h2:Le B (vst y s.hp s.nx) (vst x hp nx)):retIQ P fn B Q .normal s:=⟨y,x,hp,nx,by rw[resV_eq,hr];exact h1,hq,h2⟩
theorem InlQ.callsI{f:Nat}{args:List V}{hp:List (Nat×Blk)}{nx:Nat}{Q:V->List (Nat×Blk)->Nat->Prop}{vs:Array Value}(h:InlQ P f args hp nx Q)(hm:Mem B S rho A hp w)(ha: ∀id,A id->id<nx)(hv:All S rho A w args vs.toList):
  Calls P f vs w fun e w'=> ∃v,e= .returned v/\ ∃x hp' nx' S' rho' A',Q x hp' nx'/\(∀b,S b->S' b/\w'.heap[b]? =w.heap[b]?)/\(∀id,A id->A' id/\rho' id=rho id/\ ∀n,szAt w (rho id) n->szAt w' (rho id) n)/\
   Mem (Base.inner S rho A hp w) S' rho' A' hp' w'/\(∀id,A' id->id<nx')/\R S' rho' w' A' x v:=by
 obtain⟨fn,c,hf,hb,hn,hI⟩:=h
 have hlen:vs.size=args.length:=by have:=hv.1;simpa using this.symm
 have fin: ∀a1 w' S' rho' A' s',Rel (Base.inner S rho A hp w) S' rho' A' s' a1 w'->(∃y x hp' nx',resV P fn s'=some y/\Q x hp' nx'/\Le (Base.inner S rho A hp w) (vst y s'.hp s'.nx) (vst x hp' nx'))-> ∃v,(results fn a1.tmps).run P w'= .ok v w'/\ ∃v',Ending.returned v= .returned v'/\
   ∃x hp' nx' S' rho' A',Q x hp' nx'/\(∀b,S b->S' b/\w'.heap[b]? =w.heap[b]?)/\(∀id,A id->A' id/\rho' id=rho id/\ ∀n,szAt w (rho id) n->szAt w' (rho id) n)/\Mem (Base.inner S rho A hp w) S' rho' A' hp' w'/\(∀id,A' id->id<nx')/\R S' rho' w' A' x v':=by
  rintro a1 w' S' rho' A' s' hr ⟨y,x,hp',nx',h1,hQ,h2⟩
  obtain⟨v,h3,h4⟩:=res_sound (P:=P) hr h1
  obtain⟨S2,rho2,A2,h5⟩:=h2 S' rho' A' ⟨#[v],[]⟩ w' ⟨fun t=>by
   simp only[vst,get]
   by_cases e:t=0
   ·subst e;rw[if_pos rfl];exact h4
   ·rw[if_neg e];exact .junk _,hr.mem,hr.alt,rfl,rfl⟩
  have h6:=h5.slots 0
  refine⟨v,h3,v,rfl,x,hp',nx',S2,rho2,A2,hQ,fun b hb=>⟨h5.mem.sub b hb,h5.mem.frame.stay b hb⟩,fun id hid=> ?_,h5.mem,h5.alt,h6⟩
  obtain⟨k1,k2⟩:=h5.mem.keep id hid
  exact⟨k1,k2,fun n hn=>hm.innerSz h5.mem.frame _ n hn⟩
 have hst:Rel (Base.inner S rho A hp w) S rho A ⟨stSl 0 args,hp,nx,fn.ntmps⟩ ⟨vs++Array.replicate (fn.ntmps-vs.size) undef,[]⟩ w:=⟨start_slots hv,hm.inner,ha,by simp;omega,rfl⟩
 rcases hI with hI|⟨s1,rest,⟨i0,r0,i1,o,g,rfl,ho,hd,hg,hi,h1⟩,hI⟩
 ·refine calls_of_wp hf hb (wp_mono (hI (Base.inner S rho A hp w) ha S rho A _ w hst) ?_)
  rintro e a1 w' ⟨S',rho',A',s',hq,hr⟩
  cases e with
  |normal=>exact⟨hr.defs,fin _ _ _ _ _ _ hr hq⟩
  |ret=>exact⟨hr.defs,fin _ _ _ _ _ _ hr hq⟩
  |_=>exact hq.elim
 ·refine calls_of_wp_defers hf hb ?_
  refine wp_seq (wp_mono (SWp.region (Q:=fun e s=>e= .normal/\s=s1) (SOps.all h1 ⟨rfl,rfl⟩) S rho A _ w hst) ?_)
  rintro e a w1 ⟨S1,rho1,A1,s,⟨rfl,rfl⟩,hr⟩
  have had:a.defers=[]:=hr.defs
  refine wp_seq (wp_region_lit (l:=[o]) (wpList_step fun K hK=> ?_))
  have hw:Region.wanted o (yielded [o].toArray a.tmps)=true:=by unfold Region.wanted;rw[hg]
  rw[hw,if_pos rfl]
  have hx:(execOp a.eval o).run P w1= .ok (.defer ⟨.fn (.func g) #[],#[]⟩) w1:=by
   obtain⟨d,op,gd,ty,pos,aft⟩:=o
   simp only at ho
   subst ho
   simp only[execOp,resolve,List.map_toArray,zle,Act.eval,Deferred.ofValue,Sem.run_bind,Sem.run_pure]
   rfl
  unfold Oper.wp
  rw[hx,Oper.upon_defer]
  refine hK _ _ (wpList_nil ?_)
  rw[hd,had]
  refine wp_mono (hI ((Base.inner S rho A hp w).dfr [⟨.fn (.func g) #[],#[]⟩]) ha S1 rho1 A1 _ w1 (hr.dfr _)) ?_
  rintro e a1 w' ⟨S',rho',A',s',hq,hr⟩
  have hdf:a1.defers=[⟨.fn (.func g) #[],#[]⟩]:=hr.defs
  have lv:(∃y x hp' nx',resV P fn s'=some y/\Q x hp' nx'/\Le ((Base.inner S rho A hp w).dfr [⟨.fn (.func g) #[],#[]⟩]) (vst y s'.hp s'.nx) (vst x hp' nx'))->Leaves P fn a1.tmps (fun e w'=> ∃v,e= .returned v/\ ∃x hp' nx' S' rho' A',Q x hp' nx'/\(∀b,S b->S' b/\w'.heap[b]? =w.heap[b]?)/\(∀id,A id->A' id/\rho' id=rho id/\ ∀n,szAt w (rho id) n->szAt w' (rho id) n)/\
    Mem (Base.inner S rho A hp w) S' rho' A' hp' w'/\(∀id,A' id->id<nx')/\R S' rho' w' A' x v) a1.defers .returning w':=by
   rintro⟨y,x,hp',nx',g1,gQ,g2⟩
   rw[hdf]
   refine leaves_cons (f:=g) (args:= #[]) (by simp) (by simpa[go_sem]using(hi w').1) ((hi w').2.mono ?_)
   rintro e u w2 ⟨⟨v2,rfl⟩,rfl,rfl⟩
   refine fin ⟨a1.tmps,[]⟩ _ _ _ _ _ (hr.dfr []) ⟨y,x,hp',nx',g1,gQ,fun S2 rho2 A2 a2 w2 h2=> ?_⟩
   obtain⟨S3,rho3,A3,h3⟩:=g2 S2 rho2 A2 _ w2 (h2.dfr _)
   exact⟨S3,rho3,A3,⟨h3.slots,h3.mem.undfr,h3.alt,h3.nt,h2.defs⟩⟩
  cases e with
  |normal=>exact lv hq
  |ret=>exact lv hq
  |_=>exact hq.elim
def inOf(hp hpS:List (Nat×Blk))(id:Nat):Prop:=hasId hpS id=true\/hasId hp id=false
theorem hasId_rest(hp l:List (Nat×Blk))(i:Nat):hasId (restH hp l) i=(hasId hp i&& !hasId l i):=by
 induction hp with
 |nil=>simp[restH,hasId]
 | cons p r ih=>
  simp only[restH]
  by_cases h:hasId l p.1=true
  ·rw[if_pos h,ih]
   by_cases e:i=p.1
   ·subst e;simp[hasId,h]
   ·simp[hasId,e]
  ·rw[if_neg h]
   simp only[hasId,ih]
   by_cases e:i=p.1
   ·subst e;simp[h]
   ·simp[e]
theorem inOf_rest{hp hpS:List (Nat×Blk)}{id:Nat}(h:inOf hp hpS id):hasId (restH hp hpS) id=false:=by
 rw[hasId_rest]
 rcases h with h|h<;>simp[h]
theorem Only.mono{p q:Nat->Prop}{x:V}(h:Only p x)(hpq: ∀i,p i->q i):Only q x:=by
 induction h with
 |sc v=>exact .sc v
 |junk=>exact .junk
 |ag _ ih=>exact .ag ih
 |tu _ ih=>exact .tu ih
 |pt h=>exact .pt (hpq _ h)
 |sl h=>exact .sl (hpq _ h)
 |im cs n=>exact .im cs n
 |pi cs=>exact .pi cs
 |fn _ _ i1 i2=>exact .fn i1 i2
 |mp h=>exact .mp (hpq _ h)
 |ifc _ ih=>exact .ifc ih
theorem OnlyH.mono{p q:Nat->Prop}(hpq: ∀i,p i->q i): ∀{l:List (Nat×Blk)},OnlyH p l->OnlyH q l
 |[],_=>trivial
 |_::_,h=>⟨fun y hy=>(h.1 y hy).mono hpq,h.2.mono hpq⟩
theorem OnlyH.app{p:Nat->Prop}: ∀{a b:List (Nat×Blk)},OnlyH p a->OnlyH p b->OnlyH p (a++b)
 |[],_,_,h=>h
 |_::_,_,h,k=>⟨h.1,h.2.app k⟩
theorem Only.clo{p:Nat->Prop}{x:V}(h:clo x=true):Only p x:=by
 cases x<;>simp[Go.Proofs.YtannldafjkjjbaaGreat.clo]at h
 ·exact .sc _
 ·exact .im _ _
 ·exact .pi _
theorem OnlyH.rows{p:Nat->Prop}{ty:TypeId}: ∀{ids:List Nat} {rs:List (List V)},(∀r∈rs,r.all clo=true)->OnlyH p (rowsH ty ids rs)
 |[],_,_=>by simp[rowsH,OnlyH]
 |_::_,[],_=>by simp[rowsH,OnlyH]
 |i::ids,r::rs,h=>by
  rw[rowsH]
  refine⟨fun y hy=>Only.clo (List.all_eq_true.1 (h r (by simp)) y hy),OnlyH.rows fun r hr=>h r (by simp[hr])⟩
theorem SO.weak{ops:Array Oper}{l:List Oper}{cs:List Code}{Q:Exit->SS->Prop}{s s':SS}(h:Le B s s')(k:SO P B ops l cs Q s'):SO P B ops l cs Q s:=
 fun S rho A a w hr=>let⟨S',rho',A',hr'⟩:=h S rho A a w hr;k S' rho' A' a w hr'
def SInlQ(P:Program)(B:Base)(f:Nat)(ys:List V)(d:Option Nat)(ops:Array Oper)(l:List Oper)(cs:List Code)(Q:Exit->SS->Prop)(s:SS):Prop:=
 ∃hpS C,(∀id k,hget hpS id=some k->hget s.hp id=some k)/\InlQ P f ys hpS s.nx C/\ ∀x hp' nx',C x hp' nx'->Only (fun id=>hasId (restH s.hp hpS) id=false) x/\OnlyH (fun id=>hasId (restH s.hp hpS) id=false) hp'/\SO P B ops l cs Q ⟨putS s.sl d x,hp'++restH s.hp hpS,nx',s.nt⟩
theorem SO.inlQ{s:SS}{ops:Array Oper}{l:List Oper}{cs:List Code}{Q:Exit->SS->Prop}{g:Operand}{f:Nat}{p q ys:List V}{args:List Operand}{ts:Array TypeId}{d:Option Tmp}{ty:TypeId}{pos:String}{after:Array Edge}{gd:Option (Nat×Bool)}
  (hfn:fnOf (evS s.sl g)=some (f,p,q)) (hgo:isGo P f=true) (hy:p++args.map (evS s.sl)++q=ys) (hg:guardV ops s.sl gd=some true/\dstOk d s.nt=true) (k:SInlQ P B f ys d ops l cs Q s):SO P B ops (⟨d,.call ⟨.value g,args.toArray,ts⟩,ty,pos,after,gd⟩::l) cs Q s:=by
 obtain⟨hpS,C,hsub,hI,k⟩:=k
 intro S rho A a w hr
 have hw:=guard_sound (o:=(⟨d,.call ⟨.value g,args.toArray,ts⟩,ty,pos,after,gd⟩:Oper)) hr.slots hg.1
 refine wpList_step fun K hK=> ?_
 rw[if_pos hw]
 obtain⟨ps,qs,he,hps,hqs⟩:=fn_sound hfn (ev_sound hr.mem.tab hr.slots g)
 have hrun:(execOp a.eval ⟨d,.call ⟨.value g,args.toArray,ts⟩,ty,pos,after,gd⟩).run P w= .ok (.enter f (ps++args.toArray.map a.eval++qs)) w:=by
  simp only[execOp,resolve,he,Deferred.ofValue,Sem.run_bind,Sem.run_pure,Result.andThen_ok,invoke]
  have:=callFunc_go hgo (ps++args.toArray.map a.eval++qs) w
  simpa using this
 unfold Oper.wp
 rw[hrun]
 refine(hI.callsI (hr.mem.less hsub) hr.alt (vs:=ps++args.toArray.map a.eval++qs) ?_).mono ?_
 ·have:=(hps.append (All.ev hr.mem.tab hr.slots args)).append hqs
  rw[hy]at this
  simpa using this
 ·rintro e w' ⟨v,rfl,x,hp',nx',S',rho',A',hC,h1,h2,h3,h4,h5⟩
  obtain⟨hx,hc,k⟩:=k x hp' nx' hC
  have h6:=hr.mem.backS hsub h3 hc
  refine hK _ _ (k S' rho' (fun id=>A' id/\(hasId (restH s.hp hpS) id=true->A id)) _ _ ⟨slots_put hr.slots (by rw[hr.nt];exact hg.2) h1 (fun id hid=>⟨⟨(h2 id hid).1,fun _=>hid⟩,(h2 id hid).2⟩) (h5.only hx fun id hid hai=>⟨hai,fun e=>by rw[hid]at e;cases e⟩),h6,fun id hid=>h4 id hid.1,by rw[put_size];exact hr.nt,by rw[put_defers];exact hr.defs⟩)
theorem SInlQ.of{ops:Array Oper}{l:List Oper}{cs:List Code}{Q:Exit->SS->Prop}{f:Nat}{ys:List V}{d:Option Nat}{hpS hp:List (Nat×Blk)}{nx nt:Nat}{sl:List (Nat×V)}{C:V->List (Nat×Blk)->Nat->Prop}(hI:InlQ P f ys hpS nx C)(hs: ∀id k,hget hpS id=some k->hget hp id=some k)
  (k: ∀x hp' nx',C x hp' nx'->Only (inOf hp hpS) x/\OnlyH (inOf hp hpS) hp'/\ ∃hp'',(∀id k,hget hp'' id=some k->hget (hp'++restH hp hpS) id=some k)/\SO P B ops l cs Q ⟨putS sl d x,hp'',nx',nt⟩):SInlQ P B f ys d ops l cs Q ⟨sl,hp,nx,nt⟩:=by
 refine⟨hpS,C,hs,hI,fun x hp' nx' hC=> ?_⟩
 obtain⟨h1,h2,hp'',h3,h4⟩:=k x hp' nx' hC
 exact⟨h1.mono fun _=>inOf_rest,h2.mono fun _=>inOf_rest,SO.weak (Le.less h3 (znb _)) h4⟩
def hsets(hp:List (Nat×Blk)):List (Nat×Blk)->List (Nat×Blk)
 |[]=>hp
 |p::r=>hset (hsets hp r) p.1 p.2
end
end
section
open Go.RowKit
section
variable {P:Program} {B:Base} {l:List Oper} {st:Nat->SS} {en:Nat->En} {S:Nat->Prop} {rho:Nat->Nat} {A:Nat->Prop} {a:Act} {w:World} {L:Nat->Bool}
theorem DInv.ends(h:DRun P l st en)(hI:DInv B l st en L S rho A a w)(hall: ∀i,i<l.length->L i=true):Rel B S rho A (st l.length) a w:=by
 refine⟨?_,hI.mem.turn fun id k' hk' _=> ?_,fun id hid=> ?_,hI.size.trans (h.nt l.length (znb _)).symm,hI.defs⟩
 ·intro t
  by_cases hex: ∃(j:Nat) (o:Oper),l[j]? =some o/\o.dst=some t
  ·obtain⟨j,o,hj,hd⟩:=hex
   have hjl:=(List.getElem?_eq_some_iff.1 hj).1
   rw[h.slotx hj hd l.length hjl (znb _)]
   exact hI.done t j o hj hd (hall j hjl)
  ·have hno: ∀(j:Nat) (o:Oper),l[j]? =some o->o.dst≠some t:=fun j o hj hd=>hex ⟨j,o,hj,hd⟩
   rw[h.slot0 l.length (znb _) fun j o _ hj=>hno j o hj]
   exact hI.open' t fun j o hj hd=>absurd hd (hno j o hj)
 ·have hq:nextC l.length en L id=l.length:=by
   have hle:=nextC_le (en:=en) l.length L id
   rcases Nat.lt_or_eq_of_le hle with hlt|heq
   ·obtain⟨_,a2⟩:=nextC_at hlt
    rw[hall _ hlt]at a2;cases a2
   ·exact heq
  refine⟨k',?_,rfl,rfl,fun h=>h⟩
  rw[hget_hpD h,hq];exact hk'
 ·rcases hI.num id hid with h1|⟨j,hj,_,rfl,h2⟩
  ·exact Nat.lt_of_lt_of_le h1 (h.nx 0 _ (znc _) (znb _))
  ·exact Nat.lt_of_lt_of_le h2 (h.nx (j+1) _ om (znb _))
theorem DInv.begin(h:DRun P l st en)(hr:Rel B S rho A (st 0) a w)(hf: ∀j,L j=false):DInv B l st en L S rho A a {w with drawn:=w.drawn+1}:=by
 have g:=Grow.drawn w (w.drawn+1)
 exact{
  mem:=(hr.mem.grow g).turn fun id k' hk' hA=>by
   rw[hget_hpD h]at hk'
   obtain⟨k,hk⟩:=h.born (hr.alt id hA) _ (nextC_le _ _ _) k' hk'
   obtain⟨k2,c1,c2,c3,c4⟩:=h.chain hk _ (znc _) (nextC_le _ _ _) (fun m _ hm hmt=>by
    have:=nextC_lt (L:=L) hm hmt
    rw[hf m]at this;cases this)
   rw[hk']at c1;cases c1
   exact⟨k,hk,c2,c3,c4⟩
  done:=fun t j o _ _ hL=>by rw[hf j]at hL;cases hL
  open':=fun t _=>(hr.slots t).mono (fun b hb=>⟨hb,rfl⟩) (fun id h=>⟨h,rfl,fun _=>g.szAt⟩)
  num:=fun id hA=> .inl (hr.alt id hA)
  size:=hr.nt
  defs:=hr.defs
  closed:=fun i j hi=>by rw[hf i]at hi;cases hi}
@[irreducible] def dR:Nat:=12
def lastOk(l tl:List Oper):Bool:=
 (l.all fun p=>match p.guard with|some (j,_)=>decide (j<l.length)|none=>true)&&
 (List.range tl.length).all fun k=>(match tl[k]?with|some o=>o.after.all fun e=> !Region.binds .any e||decide (e.on<l.length+k)|none=>true)&&
  (List.range (l.length+k)).all fun j=>reachB (l++tl).toArray dR (l.length+k) j
theorem app_get{tl:List Oper}{i:Nat}(hi:i<l.length):(l++tl).toArray[i]? =l[i]? :=by
 rw[List.getElem?_toArray,List.getElem?_append_left hi]
theorem app_tail{tl:List Oper}{i:Nat}:(l++tl).toArray[l.length+i]? =tl[i]? :=by
 rw[List.getElem?_toArray,List.getElem?_append_right (Nat.le_add_right _ _),znd]
theorem app_dep{tl:List Oper}{i j:Nat}(hi:i<l.length):depB (l++tl).toArray i j=depB l.toArray i j:=by
 unfold depB
 rw[app_get hi,List.getElem?_toArray]
theorem any_drawT{Q:Exit->SS->Prop}{s:SS}{tl:List Oper}(h:DRun P l st en)(hs:st 0=s)(hT:lastOk l tl=true)(hQ:SOps P B (l++tl).toArray tl Q (st l.length)): ∀S rho A a w,Rel B S rho A s a w->wpAny P .any (l++tl).toArray (Post B Q) (l++tl).toArray.size (Array.replicate (l++tl).toArray.size false) a {w with drawn:=w.drawn+1}:=by
 subst hs
 intro S rho A a w hr
 unfold lastOk at hT
 rw[Bool.and_eq_true]at hT
 obtain⟨hg,hT⟩:=hT
 have hT': ∀k,k<tl.length->(∀o,tl[k]? =some o-> ∀e∈o.after.toList,Region.binds .any e=true->e.on<l.length+k)/\ ∀j,j<l.length+k->reachB (l++tl).toArray dR (l.length+k) j=true:=by
  intro k hk
  have:=List.all_eq_true.1 hT k (List.mem_range.2 hk)
  rw[Bool.and_eq_true]at this
  refine⟨fun o ho e he hb=> ?_,fun j hj=>List.all_eq_true.1 this.2 j (List.mem_range.2 hj)⟩
  have h1:=this.1
  rw[ho]at h1
  simp only at h1
  rw[Array.all_eq_true']at h1
  have:=h1 e (by simpa using he)
  rw[hb]at this
  simpa using this
 have dep: ∀(L:Nat->Bool) (i:Nat) (q:Oper),(l++tl).toArray[i]? =some q->(∀e∈q.after.toList,Region.binds .any e=true->L e.on=true)-> ∀m,depB (l++tl).toArray i m=true->L m=true:=by
  intro L i q hq hd m hm
  unfold depB at hm
  rw[hq]at hm
  simp only[Array.any_eq_true']at hm
  obtain⟨e,he,hb⟩:=hm
  rw[Bool.and_eq_true,beq_iff_eq]at hb
  rw[<-hb.2];exact hd e (by simpa using he) hb.1
 have idx: ∀{i:Nat} {q:Oper},(l++tl).toArray[i]? =some q->i<l.length\/ ∃k,i=l.length+k/\k<tl.length/\tl[k]? =some q:=by
  intro i q hq
  have:=(Array.getElem?_eq_some_iff.1 hq).1
  simp at this
  rcases Nat.lt_or_ge i l.length with g|g
  ·exact .inl g
  ·refine .inr ⟨i-l.length,by omega,by omega,?_⟩
   rw[show i=l.length+(i-l.length) by omega,app_tail]at hq
   exact hq
 refine(wpAny_act (fun L a w=>(∀i j,L i=true->depB (l++tl).toArray i j=true->L j=true)/\(((∀k,k<tl.length->L (l.length+k)=false)/\ ∃S rho A,DInv B l st en L S rho A a w)\/ ∃t,t<=tl.length/\(∀i,i<l.length+t->L i=true)/\(∀k,t<=k->k<tl.length->L (l.length+k)=false)/\wpList P (l++tl).toArray (Post B Q) (tl.drop t) a w)) ?_ ?_ ?_ _ _ a _ (by simp) ?_ ?_)
 ·intro i q hq e he hb
  rcases idx hq with hi|⟨k,rfl,hk,hq'⟩
  ·rw[app_get hi]at hq
   exact h.ord i q hq e he hb
  ·exact(hT' k hk).1 q hq' e he hb
 ·rintro L a w i q hq hi hd ⟨hcl,hinv⟩
  have hdep:=dep L i q hq hd
  have hcl': ∀m j,(if m=i then true else L m)=true->depB (l++tl).toArray m j=true->(if j=i then true else L j)=true:=by
   intro m j hm hj
   by_cases e:j=i
   ·rw[if_pos e]
   ·rw[if_neg e]
    by_cases e2:m=i
    ·subst e2;exact hdep j hj
    ·rw[if_neg e2]at hm;exact hcl m j hm hj
  have hbefore: ∀k,i=l.length+k->k<tl.length-> ∀j,j<l.length+k->L j=true:=fun k hk hkl j hj=>by
   subst hk
   exact reachB_spec hcl dR _ j ((hT' k hkl).2 j hj) hdep
  have hrun: ∀k o',i=l.length+k->tl[k]? =some o'->wpList P (l++tl).toArray (Post B Q) (tl.drop k) a w->(∀m,m<l.length+k->L m=true)->(∀k',k<k'->k'<tl.length->L (l.length+k')=false)->
    wpOp P (l++tl).toArray (Post B Q) i (fun a' w'=>(∀i_1 j,(if i_1=i then true else L i_1)=true->depB (l++tl).toArray i_1 j=true->(if j=i then true else L j)=true)/\(((∀k,k<tl.length->(if l.length+k=i then true else L (l.length+k))=false)/\ ∃S rho A,DInv B l st en (fun j=>if j=i then true else L j) S rho A a' w')\/ ∃t,t<=tl.length/\(∀i_1,i_1<l.length+t->(if i_1=i then true else L i_1)=true)/\(∀k,t<=k->k<tl.length->(if l.length+k=i then true else L (l.length+k))=false)/\wpList P (l++tl).toArray (Post B Q) (tl.drop t) a' w')) a w:=by
   intro k o' hk ho' hx hall hno
   subst hk
   have hkl:=(List.getElem?_eq_some_iff.1 ho').1
   have hdr:tl.drop k=o'::tl.drop (k+1):=by
    rw[List.drop_eq_getElem_cons hkl]
    congr 1
    exact(List.getElem?_eq_some_iff.1 ho').2
   rw[hdr]at hx
   have hend: ∀a' w',wpList P (l++tl).toArray (Post B Q) (tl.drop (k+1)) a' w'->(∀i_1 j,(if i_1=l.length+k then true else L i_1)=true->depB (l++tl).toArray i_1 j=true->(if j=l.length+k then true else L j)=true)/\(((∀k',k'<tl.length->(if l.length+k'=l.length+k then true else L (l.length+k'))=false)/\ ∃S rho A,DInv B l st en (fun j=>if j=l.length+k then true else L j) S rho A a' w')\/ ∃t,t<=tl.length/\(∀i_1,i_1<l.length+t->(if i_1=l.length+k then true else L i_1)=true)/\(∀k',t<=k'->k'<tl.length->(if l.length+k'=l.length+k then true else L (l.length+k'))=false)/\wpList P (l++tl).toArray (Post B Q) (tl.drop t) a' w'):=by
    intro a' w' hp
    refine⟨hcl',.inr ⟨k+1,by omega,fun m hm=> ?_,fun k' h1 h2=> ?_,hp⟩⟩
    ·by_cases e:m=l.length+k
     ·rw[if_pos e]
     ·rw[if_neg e];exact hall m om
    ·rw[if_neg om];exact hno k' om h2
   unfold wpOp
   rw[app_tail,ho']
   simp only[wpList]at hx⊢
   split
   ·rename_i hw
    rw[if_pos hw]at hx
    rcases hx with hx|hx
    ·exact .inl (Oper.wp_mono hend hx)
    ·exact .inr hx
   ·rename_i hw
    rw[if_neg hw]at hx
    exact hend _ _ hx
  rcases hinv with⟨hlast,S,rho,A,hI⟩|⟨t,ht,hall,hno,hwl⟩
  ·rcases idx hq with hil|⟨k,hk,hkl,hq'⟩
   ·have hq':=hq
    rw[app_get hil]at hq'
    have hstep:=region_step (Q:=Post B Q) h hI hq' hi (fun m hm=>hdep m (by rw[app_dep hil];exact hm))
    have hgq:Region.wanted q (yielded (l++tl).toArray a.tmps)=Region.wanted q (yielded l.toArray a.tmps):=by
     unfold Region.wanted
     have:=List.all_eq_true.1 hg q (List.mem_of_getElem? hq')
     cases hgd:q.guard with
     |none=>rfl
     | some p=>
      obtain⟨j,want⟩:=p
      rw[hgd]at this
      have hj:j<l.length:=by simpa using this
      simp only
      have e:yielded (l++tl).toArray a.tmps j=yielded l.toArray a.tmps j:=by
       unfold yielded
       rw[app_get hj,List.getElem?_toArray]
      rw[e]
    have hm2:wpOp P (l++tl).toArray (Post B Q) i (fun a' w'=> ∃S rho A,DInv B l st en (addL L i) S rho A a' w') a w:=by
     unfold wpOp at hstep⊢
     rw[List.getElem?_toArray,hq']at hstep
     rw[app_get hil,hq']
     simp only at hstep⊢
     rw[hgq];exact hstep
    exact wpOp_mono (fun a' w' hx=>⟨hcl',.inl ⟨fun k hk=>by dsimp only;rw[if_neg om];exact hlast k hk,hx⟩⟩) hm2
   ·have hb:=hbefore k hk hkl
    have hk0:k=0:=by
     rcases Nat.eq_zero_or_pos k with g|g
     ·exact g
     ·have h1:=hb (l.length+0) om
      rw[hlast 0 om]at h1;cases h1
    subst hk0
    have hrel:=hI.ends h (fun m hm=>hb m om)
    have hx:=hQ S rho A a w hrel
    exact hrun 0 q hk hq' hx hb (fun k' _ h2=>hlast k' h2)
  ·rcases idx hq with hil|⟨k,hk,hkl,hq'⟩
   ·rw[hall i om]at hi;cases hi
   ·have hb:=hbefore k hk hkl
    have hkt:k=t:=by
     rcases Nat.lt_trichotomy k t with g|g|g
     ·rw[hk,hall _ om]at hi;cases hi
     ·exact g
     ·have h1:=hb (l.length+t) om
      rw[hno t (znb _) om]at h1;cases h1
    subst hkt
    exact hrun k q hk hq' hwl hb (fun k' h1 h2=>hno k' om h2)
 ·rintro L a w hL ⟨_,⟨hlast,S,rho,A,hI⟩|⟨t,ht,hall,hno,hwl⟩⟩
  ·cases htl:tl with
   |nil=>
    have hrel:=hI.ends h (fun m hm=>hL m (by simp;omega))
    have hx:=hQ S rho A a w hrel
    rw[htl]at hx
    exact hx
   |cons o r=>
    have:=hlast 0 (by rw[htl];simp)
    rw[hL _ (by rw[htl];simp)]at this;cases this
  ·have:t=tl.length:=by
    rcases Nat.lt_or_ge t tl.length with g|g
    ·have:=hno t (znb _) g
     rw[hL _ (by simp;omega)]at this;cases this
    ·omega
   rw[this,List.drop_length]at hwl
   exact hwl
 ·unfold unl
  refine Nat.le_trans (List.length_filter_le _ _) (by simp)
 ·have hf: ∀j,(Array.replicate (l++tl).toArray.size false).getD j false=false:=by
   intro j
   rw[Array.getD_eq_getD_getElem?,Array.getElem?_replicate]
   split<;>rfl
  exact⟨(fun i j hi=>by simp only[hf]at hi;cases hi),.inl ⟨fun k _=>hf _,S,rho,A,DInv.begin h hr hf⟩⟩
theorem region_drawT{id:Nat}{Q:Exit->SS->Prop}{s:SS}{tl:List Oper}(h:DRun P l st en)(hs:st 0=s)(hm:P.follows .mixedOrders=true)(hT:lastOk l tl=true)(hQ:SOps P B (l++tl).toArray tl Q (st l.length)):SWp P B (.region id (l++tl).toArray true) Q s:=
 fun S rho A a w hr=>wp_region_any hm (any_drawT h hs hT hQ S rho A a w hr)
def lastQ(P:Program)(B:Base)(ops:Array Oper)(tl:List Oper)(cs:List Code)(Q:Exit->SS->Prop):Exit->SS->Prop
 | .normal,s=>SO P B ops tl cs Q s
 |_,_=>False
theorem SC.drawT{cs:List Code}{Q:Exit->SS->Prop}{s:SS}{id:Nat}{l1 tl:List Oper}(n:Nat)(h1:l.take n=l1)(h2:l.drop n=tl)(hm:P.follows .mixedOrders=true)(hk: ∀id k,hget s.hp id=some k->id<s.nx)(hT:lastOk l1 tl=true)(h:DO P B l1 l1 [] (lastQ P B l.toArray tl cs Q) [] s):SC P B (.region id l.toArray true::cs) Q s:=by
 have e:l=l1++tl:=by rw[<-h1,<-h2,List.take_append_drop]
 subst e
 obtain⟨es,s',h3,h4,h5⟩:=h
 obtain⟨st,en,h6,h7,h8⟩:=chk_run hk h3 (by simpa using h4)
 exact region_drawT h6 h7 hm hT (by rw[h8];exact h5)
theorem SC.drawK{cs:List Code}{Q:Exit->SS->Prop}{s:SS}{id:Nat}(hm:P.follows .mixedOrders=true)(hk: ∀id k,hget s.hp id=some k->id<s.nx)(h:DO P B l l cs Q [] s):SC P B (.region id l.toArray true::cs) Q s:=by
 obtain⟨es,s',h1,h2,h3⟩:=h
 obtain⟨st,en,h4,h5,h6⟩:=chk_run hk h1 (by simpa using h2)
 exact region_draw h4 h5 hm (by rw[h6];exact h3)
def colF(f:Nat->Nat)(e:Option Nat×List Nat):Option Nat×List Nat:=(e.1.map f,e.2.map f)
@[go_sem] theorem colF_mk (f:Nat->Nat) (a:Option Nat) (l:List Nat):colF f (a,l)=(a.map f,l.map f):=rfl
def col(e:Option Nat×List Nat):Option Nat×List Nat:=(e.1.map fun _=>0,e.2.map fun _=>0)
theorem chkD_colF(f:Nat->Nat){en:List (Option Nat×List Nat)}(h:chkD l (en.map (colF f))=true):chkD l en=true:=by
 unfold chkD at h⊢
 rw[Bool.and_eq_true]at h⊢
 refine⟨h.1,List.all_eq_true.2 fun p hp=>List.all_eq_true.2 fun q hq=> ?_⟩
 have:=List.all_eq_true.1 (List.all_eq_true.1 h.2 p hp) q hq
 rw[Bool.or_eq_true]at this⊢
 refine this.imp id fun h1=> ?_
 unfold pairOk at h1⊢
 rw[Bool.and_eq_true]at h1⊢
 refine⟨h1.1,?_⟩
 have h2:=h1.2
 rw[List.getElem?_map,List.getD_eq_getElem?_getD,List.getElem?_map]at h2
 rw[List.getD_eq_getElem?_getD]
 cases e1:en[q.2]?with
 |none=>rfl
 | some eq=>
  rw[e1]at h2
  simp only[Option.map_some,Option.bind_some]at h2⊢
  cases e2:eq.1 with
  |none=>rfl
  | some id=>
   simp only[colF,e2,Option.map_some]at h2
   simp only[Bool.or_eq_true,Bool.and_eq_true,Bool.not_eq_true',bne_iff_ne,ne_eq]at h2⊢
   refine h2.imp (fun⟨g1,g2⟩=> ?_) fun h=>h
   cases e3:en[p.2]?with
   |none=>exact⟨by simp,by simp⟩
   | some ep=>
    rw[e3]at g1 g2
    simp only[Option.map_some,Option.getD_some,colF]at g1 g2⊢
    constructor
    ·cases hb:ep.2.contains id with
     |false=>rfl
     | true=>
      have hm:id∈ep.2:=by simpa using hb
      have:(ep.2.map f).contains (f id)=true:=by
       simp only[List.contains_iff_mem];exact List.mem_map_of_mem hm
      rw[this]at g1;cases g1
    ·cases h3:ep.1 with
     |none=>simp
     |some x=>
      rw[h3]at g2
      intro e
      simp only[Option.some.injEq]at e
      subst e
      exact g2 rfl
theorem chkD_col{en:List (Option Nat×List Nat)}(h:chkD l (en.map col)=true):chkD l en=true:=chkD_colF (fun _=>0) h
theorem DO.nilF{full:List Oper}{cs:List Code}{Q:Exit->SS->Prop}{tr tr':List (Option Nat×List Nat)}{s:SS}(f:Nat->Nat)(ht:tr.map (colF f)=tr')(hc:chkD full tr'.reverse=true)(h:SC P B cs Q s):DO P B full [] cs Q tr s:=
 DO.nil (chkD_colF f (by rw[List.map_reverse,ht];exact hc)) h
theorem DO.nilC{full:List Oper}{cs:List Code}{Q:Exit->SS->Prop}{tr:List (Option Nat×List Nat)}{s:SS}(hc:chkD full (tr.map col).reverse=true)(h:SC P B cs Q s):DO P B full [] cs Q tr s:=
 DO.nil (chkD_col (by rw[List.map_reverse];exact hc)) h
@[go_sem] theorem klB_nil (n:Nat):klB [] n=true:=rfl
@[go_sem] theorem klB_cons (i n:Nat) (k:Blk) (r:List (Nat×Blk)):klB ((i,k)::r) n=if i<n then klB r n else false:=by
 unfold klB
 rw[List.all_cons]
 by_cases h:i<n<;>simp[h]
theorem klB_rows{n:Nat}{ty:TypeId}: ∀{ids:List Nat} {rs:List (List V)},(∀i∈ids,i<n)->klB (rowsH ty ids rs) n=true
 |[],_,_=>by simp[rowsH,klB]
 |_::_,[],_=>by simp[rowsH,klB]
 |i::ids,r::rs,h=>by
  have:=klB_rows (ty:=ty) (rs:=rs) (fun j hj=>h j (List.mem_cons_of_mem _ hj))
  rw[rowsH,klB_cons,if_pos (h i (by simp)),this]
end
end
section
open Go.RowKit
section
variable {P:Program} {w:World} {B:Base} {S:Nat->Prop} {rho:Nat->Nat} {A:Nat->Prop}
def VMap(f:Nat->Nat)(D:Nat->Prop)(x y:V):Prop:= ∀(S:Nat->Prop) (rho:Nat->Nat) (A:Nat->Prop) (w:World) (v:Value),R S rho w A x v->R S (fun i=>rho (f i)) w (fun i=>D i/\A (f i)) y v
variable {f:Nat->Nat} {D:Nat->Prop}
theorem VMap.clo{x:V}(h:clo x=true):VMap f D x x:=fun _ _ _ _ _ hx=>(clo_sound h hx).mono (fun _ h=>⟨h,rfl⟩) (fun _ h=>h.elim)
theorem VMap.nil:VMap f D (.sc (.slice none 0 0)) (.sc (.slice none 0 0)):=fun _ _ _ _ _ hx=>by cases hx;exact .sc _
theorem VMap.sc(v:Value):VMap f D (.sc v) (.sc v):=fun _ _ _ _ _ hx=>by cases hx;exact .sc _
theorem VMap.junk(x:V):VMap f D x .junk:=fun _ _ _ _ v _=> .junk v
theorem VMap.nil_sl(id off z:Nat):VMap f D (.sc (.slice none 0 0)) (.sl id off 0 z none):=fun _ _ _ _ _ h=>by cases h;exact .sln (by simp)
theorem VMap.nil_im:VMap f D (.sc (.slice none 0 0)) (.im [] 0):=fun _ _ _ _ _ h=>by cases h;exact .im0 (znb _) (by unfold maxLen;omega) (fun _=>rfl)
theorem VMap.sl{id id' off len z:Nat}{cap:Option Nat}(h:f id'=id)(hD:D id'):VMap f D (.sl id off len z cap) (.sl id' off len z cap):=by
 intro S rho A w v hx
 subst h
 cases hx with
 |sl a b c d e=>exact .sl ⟨hD,a⟩ b c d e
 |sln a=>exact .sln a
theorem VMap.cap{id id' off len z:Nat}{cap:Option Nat}(h:f id'=id)(hD:D id'):VMap f D (.sl id off len z cap) (.sl id' off len z none):=by
 intro S rho A w v hx
 subst h
 cases hx with
 |sl a b c d e=>exact .sl ⟨hD,a⟩ b c (by simp) e
 |sln a=>exact .sln (by simp)
theorem VMap.pt{id id' off:Nat}(h:f id'=id)(hD:D id'):VMap f D (.pt id off) (.pt id' off):=by
 intro S rho A w v hx
 subst h
 cases hx with
 |pt a=>exact .pt ⟨hD,a⟩
theorem VMap.ag{cs ds:List V}(hl:cs.length=ds.length)(h: ∀(i:Nat) (x y:V),cs[i]? =some x->ds[i]? =some y->VMap f D x y):VMap f D (.ag cs) (.ag ds):=by
 intro S rho A w v hx
 cases hx with
 |ag h1 h2=>
  refine .ag (hl.symm.trans h1) fun i y u hy hu=> ?_
  have hlt:i<cs.length:=by rw[hl];exact(List.getElem?_eq_some_iff.1 hy).1
  exact h i _ y (zlb hlt) hy _ _ _ _ _ (h2 i _ u (zlb hlt) hu)
theorem VMap.fn{g:Fn}{p q p' q':List V}(h1:p.length=p'.length)(h2:q.length=q'.length)(h3: ∀(i:Nat) (x y:V),p[i]? =some x->p'[i]? =some y->VMap f D x y)(h4: ∀(i:Nat) (x y:V),q[i]? =some x->q'[i]? =some y->VMap f D x y):VMap f D (.fn g p q) (.fn g p' q'):=by
 intro S rho A w v hx
 cases hx with
 | fn a b c d=>
  refine .fn (h1.symm.trans a) (h2.symm.trans b) (fun i y u hy hu=> ?_) (fun i y u hy hu=> ?_)
  ·have hlt:i<p.length:=by rw[h1];exact(List.getElem?_eq_some_iff.1 hy).1
   exact h3 i _ y (zlb hlt) hy _ _ _ _ _ (c i _ u (zlb hlt) hu)
  ·have hlt:i<q.length:=by rw[h2];exact(List.getElem?_eq_some_iff.1 hy).1
   exact h4 i _ y (zlb hlt) hy _ _ _ _ _ (d i _ u (zlb hlt) hu)
def mapSl(f:Nat->Nat)(D:Nat->Prop)(sl:List (Nat×V)):List (Nat×V)->Prop
 |[]=>True
 |(t,y)::r=>VMap f D (get sl t) y/\mapSl f D sl r
theorem mapSl_get{sl:List (Nat×V)}: ∀{sl':List (Nat×V)},mapSl f D sl sl'-> ∀t,VMap f D (get sl t) (get sl' t)
 |[],_,t=>VMap.junk _
 |(t',y)::r,h,t=>by
  simp only[get]
  by_cases e:t=t'
  ·subst e;rw[if_pos rfl];exact h.1
  ·rw[if_neg e];exact mapSl_get h.2 t
theorem mapSl_cons{sl r:List (Nat×V)}{t:Nat}{x y:V}(hg:get sl t=x)(h:VMap f D x y)(k:mapSl f D sl r):mapSl f D sl ((t,y)::r):=⟨hg▸h,k⟩
theorem VMap.int{k:IntKind}{a b:Int}(h:a=b):VMap f D (.sc (.int k a)) (.sc (.int k b)):=h▸VMap.sc _
def BMap(f:Nat->Nat)(D:Nat->Prop)(o:Option Blk)(k':Blk):Prop:= ∃k,o=some k/\k.ty=k'.ty/\k.fz=k'.fz/\ ∀(i:Nat) (y:V),k'.cs[i]? =some y-> ∃x,k.cs[i]? =some x/\VMap f D x y
theorem BMap.clo{k:Blk}(h:k.cs.all clo=true):BMap f D (some k) k:=⟨k,rfl,rfl,rfl,fun i y hy=>⟨y,hy,VMap.clo (List.all_eq_true.1 h y (List.mem_of_getElem? hy))⟩⟩
theorem Le.map{sl sl':List (Nat×V)}{hp hp':List (Nat×Blk)}{nx nx' nt m:Nat}(f:Nat->Nat)(D:Nat->Prop)(hB:B.Old m)(hK: ∀i,i<m->D i/\f i=i)(hD: ∀i,D i->i<nx')(hi: ∀i j,D i->D j->f i=f j->i=j)
  (h1:mapSl f D sl sl') (h2: ∀i k',hget hp' i=some k'->D i->BMap f D (hget hp (f i)) k'):Le B ⟨sl,hp,nx,nt⟩ ⟨sl',hp',nx',nt⟩:=by
 intro S rho A a w hr
 have hm:=hr.mem
 refine⟨S,fun i=>rho (f i),fun i=>D i/\A (f i),fun t=>mapSl_get h1 t S rho A w _ (hr.slots t),?_,fun id h=>hD id h.1,hr.nt,hr.defs⟩
 exact{
  cells:=fun id k' hk' ha=>by
   obtain⟨k,e1,e2,e3,e4⟩:=h2 id k' hk' ha.1
   obtain⟨cells,c1,c2⟩:=hm.cells _ k e1 ha.2
   refine⟨cells,by rw[<-e2];exact c1,fun i y hy=> ?_⟩
   obtain⟨x,hx,hv⟩:=e4 i y hy
   obtain⟨u,hu,hr⟩:=c2 i x hx
   exact⟨u,hu,hv _ _ _ _ _ hr⟩
  fz:=fun id k' hk' ha hf=>by
   obtain⟨k,e1,e2,e3,e4⟩:=h2 id k' hk' ha.1
   exact hm.fz _ k e1 ha.2 (e3.trans hf)
  own:=fun id k' hk' ha=>by
   obtain⟨k,e1,e2,e3,e4⟩:=h2 id k' hk' ha.1
   exact hm.own _ k e1 ha.2
  inj:=fun i j k k' hk hk' ha ha' he=>by
   obtain⟨q,e1,_⟩:=h2 i k hk ha.1
   obtain⟨q',e1',_⟩:=h2 j k' hk' ha'.1
   exact hi i j ha.1 ha'.1 (hm.inj _ _ q q' e1 e1' ha.2 ha'.2 he)
  slt:=hm.slt
  sub:=hm.sub
  base:=hm.base
  frame:=hm.frame
  keep:=fun id h=>by
   obtain⟨g1,g2⟩:=hK id (hB id h)
   obtain⟨g3,g4⟩:=hm.keep id h
   exact⟨⟨g1,by rw[g2];exact g3⟩,by rw[g2];exact g4⟩}
theorem Le.sub{sl:List (Nat×V)}{hp hp':List (Nat×Blk)}{nx nx' nt:Nat}(h: ∀id k',hget hp' id=some k'-> ∃k,hget hp id=some k/\k.ty=k'.ty/\k.fz=k'.fz/\ ∀(i:Nat) (y:V),k'.cs[i]? =some y->k.cs[i]? =some y)(hn:nx<=nx'):Le B ⟨sl,hp,nx,nt⟩ ⟨sl,hp',nx',nt⟩:=by
 intro S rho A a w hr
 have hm:=hr.mem
 refine⟨S,rho,A,hr.slots,?_,fun id hid=>Nat.lt_of_lt_of_le (hr.alt id hid) hn,hr.nt,hr.defs⟩
 exact{
  cells:=fun id k' hk' ha=>by
   obtain⟨k,e1,e2,e3,e4⟩:=h id k' hk'
   obtain⟨cells,c1,c2⟩:=hm.cells id k e1 ha
   exact⟨cells,by rw[<-e2];exact c1,fun i y hy=>c2 i y (e4 i y hy)⟩
  fz:=fun id k' hk' ha hf=>by
   obtain⟨k,e1,e2,e3,e4⟩:=h id k' hk'
   exact hm.fz id k e1 ha (e3.trans hf)
  own:=fun id k' hk' ha=>by
   obtain⟨k,e1,_⟩:=h id k' hk'
   exact hm.own id k e1 ha
  inj:=fun i j k k' hk hk' ha ha' he=>by
   obtain⟨q,e1,_⟩:=h i k hk
   obtain⟨q',e1',_⟩:=h j k' hk'
   exact hm.inj i j q q' e1 e1' ha ha' he
  slt:=hm.slt
  sub:=hm.sub
  base:=hm.base
  frame:=hm.frame
  keep:=hm.keep}
def ren1(a b:Nat)(i:Nat):Nat:=if i=a then b else i
theorem hasId_lt{hp:List (Nat×Blk)}{n i:Nat}(h: ∀id k,hget hp id=some k->id<n)(hi:n<=i):hasId hp i=false:=by
 cases hc:hasId hp i with
 |false=>rfl
 | true=>
  have: ∀{l:List (Nat×Blk)},hasId l i=true-> ∃k,hget l i=some k:=by
   intro l
   induction l with
   |nil=>intro h;cases h
   | cons p r ih=>
    intro h
    simp only[hasId,Bool.or_eq_true,decide_eq_true_eq]at h
    by_cases e:i=p.1
    ·exact⟨p.2,by simp[hget,e]⟩
    ·obtain⟨k,hk⟩:=ih (h.resolve_left e)
     exact⟨k,by simp[hget,e,hk]⟩
  obtain⟨k,hk⟩:=this hc
  have:=h i k hk
  omega
theorem restH_none(hp:List (Nat×Blk)):restH hp []=hp:=by
 induction hp with
 |nil=>rfl
 |cons p r ih=>simp[restH,hasId,ih]
theorem SInlQ.new{ops:Array Oper}{l:List Oper}{cs:List Code}{Q:Exit->SS->Prop}{f:Nat}{ys:List V}{d:Option Nat}{hp:List (Nat×Blk)}{nx nt:Nat}{sl:List (Nat×V)}{C:V->List (Nat×Blk)->Nat->Prop}(hI:InlQ P f ys [] nx C)(hkl: ∀id k,hget hp id=some k->id<nx)
  (hge: ∀x hp' nx',C x hp' nx'->Only (fun i=>nx<=i) x/\OnlyH (fun i=>nx<=i) hp') (k: ∀x hp' nx',C x hp' nx'->SO P B ops l cs Q ⟨putS sl d x,hp'++hp,nx',nt⟩):SInlQ P B f ys d ops l cs Q ⟨sl,hp,nx,nt⟩:=by
 refine⟨[],C,(fun id k h=>by cases h),hI,fun x hp' nx' hC=> ?_⟩
 obtain⟨h1,h2⟩:=hge x hp' nx' hC
 have hm: ∀i,nx<=i->hasId (restH hp []) i=false:=fun i hi=>by rw[restH_none];exact hasId_lt hkl hi
 refine⟨h1.mono hm,h2.mono hm,?_⟩
 have:=k x hp' nx' hC
 rwa[show restH (SS.mk sl hp nx nt).hp []=hp from restH_none hp]
theorem hget_comm{a b:List (Nat×Blk)}(h: ∀id k,hget b id=some k->hget a id=none): ∀id k,hget (b++a) id=some k->hget (a++b) id=some k:=by
 intro id k hk
 rw[hget_app]at hk⊢
 cases e:hget b id with
 |some q=>rw[e]at hk;rw[h id q e];exact hk
 |none=>
  rw[e]at hk
  simp only at hk
  rw[hk]
theorem SInlQ.frame{ops:Array Oper}{l:List Oper}{cs:List Code}{Q:Exit->SS->Prop}{f:Nat}{ys:List V}{d:Option Nat}{pre hpS:List (Nat×Blk)}{nx nt m:Nat}{sl:List (Nat×V)}{C:V->List (Nat×Blk)->Nat->Prop}(hI:InlQ P f ys hpS nx C)(hm: ∀id k,hget pre id=some k->id<m)(hS: ∀id k,hget hpS id=some k->m<=id)
  (hC: ∀x hp' nx',C x hp' nx'->Only (fun i=>m<=i) x/\OnlyH (fun i=>m<=i) hp'/\ ∀id k,hget hp' id=some k->m<=id) (k: ∀x hp' nx',C x hp' nx'->SO P B ops l cs Q ⟨putS sl d x,pre++hp',nx',nt⟩):SInlQ P B f ys d ops l cs Q ⟨sl,pre++hpS,nx,nt⟩:=by
 have hsub: ∀id k,hget hpS id=some k->hget (pre++hpS) id=some k:=by
  intro id q hq
  rw[hget_app]
  cases e:hget pre id with
  |none=>exact hq
  |some q'=>have:=hm id q' e;have:=hS id q hq;omega
 have hrest: ∀i,m<=i->hasId (restH (pre++hpS) hpS) i=false:=by
  intro i hi
  rw[hasId_rest]
  cases e:hasId hpS i with
  |true=>simp
  | false=>
   have h1:=hasId_lt hm hi
   have:hasId (pre++hpS) i=false:=by
    have happ: ∀(a b:List (Nat×Blk)) (i:Nat),hasId (a++b) i=(hasId a i||hasId b i):=by
     intro a b i
     induction a with
     |nil=>simp[hasId]
     |cons p r ih=>simp[hasId,ih,Bool.or_assoc]
    rw[happ,h1,e];rfl
   rw[this];rfl
 refine⟨hpS,C,hsub,hI,fun x hp' nx' h=> ?_⟩
 obtain⟨h1,h2,h3⟩:=hC x hp' nx' h
 refine⟨h1.mono hrest,h2.mono hrest,SO.weak (Le.less (fun id q hq=> ?_) (znb _)) (k x hp' nx' h)⟩
 rw[hget_app]at hq⊢
 cases e:hget pre id with
 | some q'=>
  rw[e]at hq
  cases hq
  have hlt:=hm id _ e
  have e2:hget hp' id=none:=by
   cases e3:hget hp' id with
   |none=>rfl
   |some q'=>have:=h3 id q' e3;omega
  rw[e2]
  simp only
  rw[hget_rest,if_neg,hget_app,e]
  intro hh
  have: ∀{l:List (Nat×Blk)},hasId l id=true-> ∃k,hget l id=some k:=by
   intro l
   induction l with
   |nil=>intro h;cases h
   | cons p r ih=>
    intro h
    simp only[hasId,Bool.or_eq_true,decide_eq_true_eq]at h
    by_cases e:id=p.1
    ·exact⟨p.2,by simp[hget,e]⟩
    ·obtain⟨k,hk⟩:=ih (h.resolve_left e)
     exact⟨k,by simp[hget,e,hk]⟩
  obtain⟨q',hq'⟩:=this hh
  have:=hS id q' hq'
  omega
 |none=>
  rw[e]at hq
  simp only at hq
  rw[hq]
theorem SInlQ.newR{ops:Array Oper}{l:List Oper}{cs:List Code}{Q:Exit->SS->Prop}{f:Nat}{ys:List V}{d:Option Nat}{hp:List (Nat×Blk)}{nx nt:Nat}{sl:List (Nat×V)}{C:V->List (Nat×Blk)->Nat->Prop}(hI:InlQ P f ys [] nx C)(hkl: ∀id k,hget hp id=some k->id<nx)
  (hge: ∀x hp' nx',C x hp' nx'->Only (fun i=>nx<=i) x/\OnlyH (fun i=>nx<=i) hp'/\ ∀id k,hget hp' id=some k->nx<=id) (k: ∀x hp' nx',C x hp' nx'->SO P B ops l cs Q ⟨putS sl d x,hp++hp',nx',nt⟩):SInlQ P B f ys d ops l cs Q ⟨sl,hp,nx,nt⟩:=
 SInlQ.new hI hkl (fun x hp' nx' hC=>⟨(hge x hp' nx' hC).1,(hge x hp' nx' hC).2.1⟩) fun x hp' nx' hC=>SO.weak (Le.less (hget_comm fun id q hq=>by
  have h1:=hkl id q hq
  cases e:hget hp' id with
  |none=>rfl
  |some q'=>have:=(hge x hp' nx' hC).2.2 id q' e;omega) (znb _)) (k x hp' nx' hC)
end
end
section
open Go.RowKit
section
variable {P:Program} {w:World} {B:Base} {S:Nat->Prop} {rho:Nat->Nat} {A:Nat->Prop} {s:SS} {a:Act}
theorem SOps.callVF{ops:Array Oper}{Q:Exit->SS->Prop}{o:Oper}{l:List Oper}{g:Operand}{f:Nat}{p q:List V}{args:Array Operand}{ts:Array TypeId}{ys:List V}{ids:List Nat}{x:V}(ho:o.op= .call ⟨.value g,args,ts⟩)(hg:guardV ops s.sl o.guard=some true)
  (hd:dstOk o.dst s.nt=true) (hfn:fnOf (evS s.sl g)=some (f,p,q)) (hgo:isGo P f=true) (hf:frzAll (frz 8 s.hp) (p++args.toList.map (evS s.sl)++q)=some (ys,ids)) (hs:Spec P f ys x) (k:SOps P B ops l Q (s.calledF o.dst x ids)):SOps P B ops (o::l) Q s:=by
 intro S rho A a w hr
 have hw:=guard_sound hr.slots hg
 refine wpList_step fun K hK=> ?_
 rw[if_pos hw]
 obtain⟨ps,qs,he,hps,hqs⟩:=fn_sound hfn (ev_sound hr.mem.tab hr.slots g)
 have hall:=(hps.append (All.ev hr.mem.tab hr.slots args.toList)).append hqs
 obtain⟨h1,h2⟩:=frzAll_sound (frz_sound hr.mem 8) hf hall
 have hmf:=hr.mem.freeze ids h2
 have hrun:(execOp a.eval o).run P w= .ok (.enter f (ps++args.map a.eval++qs)) w:=by
  simp only[execOp,ho,resolve,he,Deferred.ofValue,Sem.run_bind,Sem.run_pure,Result.andThen_ok,invoke]
  exact callFunc_go hgo _ w
 unfold Oper.wp
 rw[hrun]
 refine(hs (addS S rho A ids) w (ps++args.map a.eval++qs) hmf.slt hmf.tab ⟨by have:=h1.1;simpa using this,fun i y u hy hu=>(h1.2 i y u hy (by simpa using hu)).rho⟩).mono ?_
 rintro e w' ⟨v,rfl,g,hx⟩
 refine hK _ _ ?_
 have hA: ∀id,A id->A id/\rho id=rho id/\ ∀n,szAt w (rho id) n->szAt w' (rho id) n:=fun id h=>⟨h,rfl,fun _=>g.szAt⟩
 have hm':=hmf.came g
 exact k (fun b=>addS S rho A ids b\/(w.heap.size<=b/\b<w'.heap.size)) rho A _ _ ⟨slots_put hr.slots (by rw[hr.nt];exact hd) (fun b hb=>⟨.inl (.inl hb),g.block b (hr.mem.slt b hb)⟩) hA hx.rho.open,hm',hr.alt,by rw[put_size];exact hr.nt,by rw[put_defers];exact hr.defs⟩
def SCallV(P:Program)(B:Base)(f:Nat)(ys:List V)(ids:List Nat)(d:Option Nat)(ops:Array Oper)(l:List Oper)(cs:List Code)(Q:Exit->SS->Prop)(s:SS):Prop:=
 ∃x,Spec P f ys x/\SO P B ops l cs Q (s.calledF d x ids)
theorem SO.callV{ops:Array Oper}{l:List Oper}{cs:List Code}{Q:Exit->SS->Prop}{g:Operand}{f:Nat}{p q ys:List V}{ids:List Nat}{args:List Operand}{ts:Array TypeId}{d:Option Tmp}{ty:TypeId}{pos:String}{after:Array Edge}{gd:Option (Nat×Bool)}
  (hfn:fnOf (evS s.sl g)=some (f,p,q)) (hgo:isGo P f=true) (hf:frzAll (frz 8 s.hp) (p++args.map (evS s.sl)++q)=some (ys,ids)) (hg:guardV ops s.sl gd=some true/\dstOk d s.nt=true) (k:SCallV P B f ys ids d ops l cs Q s):SO P B ops (⟨d,.call ⟨.value g,args.toArray,ts⟩,ty,pos,after,gd⟩::l) cs Q s:=by
 obtain⟨x,hs,k⟩:=k
 exact SOps.callVF rfl hg.1 hg.2 hfn hgo (by simpa using hf) hs k
theorem SCallV.of{ops:Array Oper}{l:List Oper}{cs:List Code}{Q:Exit->SS->Prop}{f:Nat}{ys:List V}{ids:List Nat}{d:Option Nat}{x:V}{s':SS}(hs:Spec P f ys x)(hn:s.calledF d x ids=s')(k:SO P B ops l cs Q s'):SCallV P B f ys ids d ops l cs Q s:=⟨x,hs,hn▸k⟩
end
end
section
open Go.RowKit
def nv(r:List Nat):List V:=r.map fun(n:Nat)=> .sc (.int .u64 n)
theorem nv_clo(r:List Nat):(nv r).all clo=true:=by
 rw[zlf];intro x hx;obtain⟨n,_,rfl⟩:=List.mem_map.1 hx;rfl
def nR(M:List (List Nat)):List (List V):=M.map nv
def mv(w:Nat)(M:List (List Nat)):V:= .im (imR w (nR M)) M.length
def md(p w:Nat)(M:List (List Nat)):V:= .ag [.sc (.int .u64 p),.sc (.int .i64 w),mv w M]
theorem imR_clo(w:Nat)(rs:List (List V)):(imR w rs).all clo=true:=by
 rw[zlf];intro x hx;obtain⟨n,_,rfl⟩:=List.mem_map.1 hx;rfl
theorem Le.newSlice{B:Base}{sl:List (Nat×V)}{hp:List (Nat×Blk)}{nx nx' nt id len z t:Nat}{cap:Option Nat}{k:Blk}(hB:B.Old nx)(h:nx<=id)(hx:get sl t= .sl id 0 len z cap)(hk:hget hp id=some k)(hc:k.cs.all clo=true):Le B ⟨sl,hp,nx',nt⟩ ⟨[(t,.sl nx 0 len z none)],[(nx,k)],nx+1,nt⟩:=by
 refine Le.map (ren1 nx id) (fun i=>i<=nx) hB (fun i hi=>⟨by omega,if_neg om⟩) (fun i hi=>by omega) (fun i j hi hj e=> ?_) ⟨?_,trivial⟩ (fun i k' hk' hi=> ?_)
 ·unfold ren1 at e
  split at e<;>split at e<;>omega
 ·rw[hx];exact VMap.cap (if_pos rfl) (znb _)
 ·simp only[hget]at hk'
  split at hk'
  ·rename_i e
   cases hk'
   subst e
   rw[show ren1 i id i=id from if_pos rfl,hk]
   exact BMap.clo hc
  ·cases hk'
theorem Le.nilSlice{B:Base}{sl:List (Nat×V)}{hp:List (Nat×Blk)}{nx nt t z ty:Nat}(hB:B.Old nx)(hx:get sl t= .sc (.slice none 0 0)):Le B ⟨sl,hp,nx,nt⟩ ⟨[(t,.sl nx 0 0 z none)],[(nx,⟨ty,[],false⟩)],nx+1,nt⟩:=by
 refine Le.map (fun i=>i) (fun i=>i<nx) hB (fun i hi=>⟨hi,rfl⟩) (fun i hi=>by omega) (fun i j hi hj e=>e) ⟨?_,trivial⟩ (fun i k' hk' hi=> ?_)
 ·rw[hx];exact VMap.nil_sl _ _ _
 ·simp only[hget]at hk'
  split at hk'
  ·omega
  ·cases hk'
end
section
section widen
variable {p n w:Nat} {M:List (List Nat)}
variable [NeZero p]
end widen
section left
variable {p n w:Nat} {M L L':List (List Nat)} [NeZero p]
end left
section left2
variable {p n w:Nat} {M:List (List Nat)} [NeZero p]
end left2
section solv
variable {p n w:Nat} {M:List (List Nat)} {b:List Nat} [NeZero p]
def fR(p:Nat) [NeZero p](r:List Nat)(j:Nat):Fin p:=fz p (r.getD j 0)
end solv
section turn
variable {p n w:Nat} {M:List (List Nat)}
variable [NeZero p]
end turn
end
section
open Go.RowKit
theorem klc{n i:Nat}{k:Blk}{r:List (Nat×Blk)}(h:i<n)(h2: ∀id q,hget r id=some q->id<n): ∀id q,hget ((i,k)::r) id=some q->id<n:=by
 intro id q hq
 simp only[hget]at hq
 split at hq
 ·rename_i e;omega
 ·exact h2 id q hq
theorem kln{n:Nat}: ∀id q,hget [] id=some q->id<n:=fun _ _ h=>by cases h
theorem klr{n:Nat}{ty:TypeId}{ids:List Nat}{rs:List (List V)}(h: ∀i∈ids,i<n): ∀id q,hget (rowsH ty ids rs) id=some q->id<n:=by
 intro id q hq
 obtain⟨k,h1,_,h3,_⟩:=rows_inv hq
 rw[<-h3];exact h _ (getD_mem' h1)
end
section
open Go.RowKit
structure RowsOk(o:Nat)(ids:List Nat)(n lo hi:Nat):Prop where
 len:ids.length=n
 nod:ids.Nodup
 lt: ∀i∈ids,lo<=i/\i<hi
 o1:lo<=o/\o<hi
 o2:o∉ids
theorem slR_app(z m:Nat)(a b:List Nat):slR z m a++slR z m b=slR z m (a++b):=by simp[slR]
theorem take_snoc{α:Type}{l:List α}{i:Nat}{d:α}(h:i<l.length):l.take (i+1)=l.take i++ [l.getD i d]:=by
 rw[List.take_add_one,getD_get' (d:=d) h];rfl
theorem Le.rowInP{B:Base}{sl sl':List (Nat×V)}{pre:List (Nat×Blk)}{o id m z nx nt:Nat}{cap:Option Nat}{ty tr:TypeId}{ids:List Nat}{rs:List (List V)}{row rest:List V}(hpre: ∀i k,hget pre i=some k->i≠id/\k.cs.all clo=true)(hB: ∃m,B.Old m/\m<=nx)(hid:id<nx)(hi: ∀i∈ids,i<nx)(hoi:id≠o)(hin:id∉ids)(hl:ids.length=rs.length)(hc:row.all clo=true)(hrc: ∀r∈rs,r.all clo=true)
  (hrest: ∀x∈rest,x= .sc (.slice none 0 0)) (h1:mapSl (fun i=>i) (fun i=>i<nx) sl sl'):
  Le B ⟨sl,(id,⟨tr,row,false⟩)::(pre++(o,⟨ty,slR z m ids++V.sl id 0 m z cap::rest,false⟩)::rowsH tr ids rs),nx,nt⟩ ⟨sl',pre++(o,⟨ty,slR z m (ids++ [id])++rest,false⟩)::rowsH tr (ids++ [id]) (rs++ [row]),nx,nt⟩:=by
 obtain⟨m0,hB,hm0⟩:=hB
 refine Le.map (fun i=>i) (fun i=>i<nx) hB (fun i hi=>⟨by omega,rfl⟩) (fun i h=>h) (fun i j _ _ e=>e) h1 (fun i k' hk' hlt=> ?_)
 simp only[hget,hget_app]at hk'⊢
 cases hp:hget pre i with
 |some q=>
  rw[hp]at hk'
  cases hk'
  obtain⟨p1,p2⟩:=hpre i _ hp
  rw[if_neg p1]
  exact BMap.clo p2
 |none=>
 rw[hp]at hk'
 simp only at hk'⊢
 by_cases e:i=o
 ·subst e
  rw[if_pos rfl]at hk'
  rw[if_neg (fun e=>hoi e.symm),if_pos rfl]
  cases hk'
  refine⟨_,rfl,rfl,rfl,fun j y hy=> ?_⟩
  have hy':(slR z m (ids++ [id])++rest)[j]? =some y:=hy
  show∃x,(slR z m ids++V.sl id 0 m z cap::rest)[j]? =some x/\_
  rw[<-slR_app]at hy'
  have hlen:=slR_len z m ids
  rcases Nat.lt_trichotomy j ids.length with g|g|g
  ·rw[zl6,List.getElem?_append_left om,slR_get g]at hy'
   rw[List.getElem?_append_left om,slR_get g]
   cases hy'
   exact⟨_,rfl,VMap.sl rfl (hi _ (getD_mem' g))⟩
  ·rw[zl6,List.getElem?_append_right om,hlen,g,Nat.sub_self]at hy'
   rw[List.getElem?_append_right om,hlen,g,Nat.sub_self]
   have:(slR z m [id]++rest)[0]? =some (V.sl id 0 m z none):=rfl
   rw[this]at hy'
   cases hy'
   exact⟨_,rfl,VMap.cap rfl hid⟩
  ·rw[zl6,List.getElem?_append_right om,hlen]at hy'
   rw[List.getElem?_append_right om,hlen]
   obtain⟨q,hq⟩: ∃q,j-ids.length=q+1:=⟨j-ids.length-1,by omega⟩
   rw[hq]at hy'⊢
   have e1:(slR z m [id]++rest)[q+1]? =rest[q]? :=rfl
   rw[e1]at hy'
   rw[List.getElem?_cons_succ]
   refine⟨y,hy',?_⟩
   rw[hrest y (List.mem_of_getElem? hy')]
   exact VMap.nil
 ·rw[if_neg e]at hk'
  have:=rows_snoc hl hin i k' hk'
  simp only[hget]at this
  by_cases e2:i=id
  ·rw[if_pos e2]at this⊢
   cases this
   exact BMap.clo hc
  ·rw[if_neg e2]at this
   rw[if_neg e2,if_neg e,this]
   obtain⟨q,q1,q2,q3,rfl⟩:=rows_inv this
   exact BMap.clo (hrc _ (by rw[List.getD_eq_getElem?_getD,zlb q2];exact List.getElem_mem q2))
theorem Le.rowIn{B:Base}{sl sl':List (Nat×V)}{o id m z nx nt:Nat}{cap:Option Nat}{ty tr:TypeId}{ids:List Nat}{rs:List (List V)}{row rest:List V}(hB: ∃m,B.Old m/\m<=nx)(hid:id<nx)(hi: ∀i∈ids,i<nx)(hoi:id≠o)(hin:id∉ids)(hl:ids.length=rs.length)(hc:row.all clo=true)(hrc: ∀r∈rs,r.all clo=true)
  (hrest: ∀x∈rest,x= .sc (.slice none 0 0)) (h1:mapSl (fun i=>i) (fun i=>i<nx) sl sl'):
  Le B ⟨sl,(id,⟨tr,row,false⟩)::(o,⟨ty,slR z m ids++V.sl id 0 m z cap::rest,false⟩)::rowsH tr ids rs,nx,nt⟩ ⟨sl',(o,⟨ty,slR z m (ids++ [id])++rest,false⟩)::rowsH tr (ids++ [id]) (rs++ [row]),nx,nt⟩:=
 Le.rowInP (pre:=[]) (fun i k h=>by cases h) hB hid hi hoi hin hl hc hrc hrest h1
theorem setAll_all(cs xs:List V): ∀off,off+xs.length<=cs.length->setAll cs off xs=cs.take off++xs++cs.drop (off+xs.length):=by
 induction xs generalizing cs with
 |nil=>intro off h;simp[setAll]
 | cons x r ih=>
  intro off h
  simp only[List.length_cons]at h
  rw[setAll,ih (cs.set off x) (off+1) (by rw[List.length_set];omega)]
  have e1:(cs.set off x).take (off+1)=cs.take off++ [x]:=by
   rw[List.take_set,List.take_add_one,List.set_append_right _ _ (by simp;omega)]
   have:off<cs.length:=by omega
   simp[zlb this,Nat.min_eq_left (by omega:off<=cs.length)]
  have e2:(cs.set off x).drop (off+1+r.length)=cs.drop (off+(r.length+1)):=by
   rw[List.drop_set,if_pos om]
   congr 1;omega
  rw[e1,e2];simp
end
section
open Go.RowKit
theorem clone_l(l:List Nat)(hn:l.length<=1000000000000):Spec Tryz.prog 80 [sv l] (sv l):=by
 have:=clone_s (lv l) (lv_clo l) (lv_all l) (by rw[lv_len];exact hn)
 rw[lv_len]at this
 exact this
theorem pvalue_n(n:Nat)(neg:Bool)(z:Int)(hz:sgn neg n=z)(h:(limbsOf n).length<=1000000000000):Spec Tryz.prog 112 [.sc (.bool neg),sv (limbsOf n)] (iv z):=by
 have:=value_i neg (limbsOf n) (limbsOf_limbs n) h
 rwa[limbsOf_val,hz]at this
theorem pneg_i(x:Int)(K:Nat)(hx:Fits K x)(hK:K<=1000000000000):Spec Tryz.prog 104 [iv x] (iv (-x)):=by
 have lx:=fits_len hx
 have c1:=clone_l (limbsOf x.natAbs) om
 have c2:=pvalue_n x.natAbs (!decide (x<0)) (-x) (by unfold sgn;split<;>simp_all<;>omega) om
 unfold iv sv at*
 refine qF Tryz.func104 Tryz.ntmps104 fun B hB=> ?_
 refine qW ?_
 exact qE Tryz.results104
theorem nanI_s(n:Int):Spec Tryz.prog 135 [.sc (.int .i64 n)] (.sc (.bool false)):=by
 have q1:((n:Int) !=n)=false:=by simp
 refine qF Tryz.func135 Tryz.ntmps135 fun B hB=> ?_
 refine qYf @q1 ?_
 exact qE Tryz.results135
theorem nanU_s(n:Int):Spec Tryz.prog 139 [.sc (.int .u32 n)] (.sc (.bool false)):=by
 have q1:((n:Int) !=n)=false:=by simp
 refine qF Tryz.func139 Tryz.ntmps139 fun B hB=> ?_
 refine qYf @q1 ?_
 exact qE Tryz.results139
theorem cmpI_s(x y:Int):Spec Tryz.prog 121 [.sc (.int .i64 x),.sc (.int .i64 y)] (.sc (.int .i64 (x-y).sign)):=by
 have c1:=nanI_s x
 have c2:=nanI_s y
 rcases Int.lt_trichotomy x y with h|h|h
 ·have q1:=decide_eq_true h
  refine qF Tryz.func121 Tryz.ntmps121 fun B hB=> ?_
  refine qWf @q1 ?_
  refine retQ_ret Tryz.results121 qT qT ?_
  rw[Int.sign_eq_neg_one_of_neg om]
 ·subst h
  have q1:decide (x<x)=false:=by simp
  refine qF Tryz.func121 Tryz.ntmps121 fun B hB=> ?_
  refine qWf @q1 ?_
  refine retQ_ret Tryz.results121 qT qT ?_
  rw[Int.sub_self];rfl
 ·have q1:=decide_eq_false (p:=x<y) om
  have q2:=decide_eq_true h
  refine qF Tryz.func121 Tryz.ntmps121 fun B hB=> ?_
  refine qWf (Q2 @q1 @q2) ?_
  refine retQ_ret Tryz.results121 qT qT ?_
  rw[Int.sign_eq_one_of_pos om]
theorem cmpU_s(x y:Int):Spec Tryz.prog 136 [.sc (.int .u32 x),.sc (.int .u32 y)] (.sc (.int .i64 (x-y).sign)):=by
 have c1:=nanU_s x
 have c2:=nanU_s y
 rcases Int.lt_trichotomy x y with h|h|h
 ·have q1:=decide_eq_true h
  refine qF Tryz.func136 Tryz.ntmps136 fun B hB=> ?_
  refine qWf @q1 ?_
  refine retQ_ret Tryz.results136 qT qT ?_
  rw[Int.sign_eq_neg_one_of_neg om]
 ·subst h
  have q1:decide (x<x)=false:=by simp
  refine qF Tryz.func136 Tryz.ntmps136 fun B hB=> ?_
  refine qWf @q1 ?_
  refine retQ_ret Tryz.results136 qT qT ?_
  rw[Int.sub_self];rfl
 ·have q1:=decide_eq_false (p:=x<y) om
  have q2:=decide_eq_true h
  refine qF Tryz.func136 Tryz.ntmps136 fun B hB=> ?_
  refine qWf (Q2 @q1 @q2) ?_
  refine retQ_ret Tryz.results136 qT qT ?_
  rw[Int.sign_eq_one_of_pos om]
theorem compare_n(m n:Nat)(hm:(limbsOf m).length<=1000000000000)(hn:(limbsOf n).length<=1000000000000):Spec Tryz.prog 122 [sv (limbsOf m),sv (limbsOf n)] (.sc (.int .i64 ((m:Int)-n).sign)):=by
 have bm:=limbsOf_limbs m
 have bn:=limbsOf_limbs n
 have cm:=limbsOf_canon m
 have cn:=limbsOf_canon n
 have vm:=limbsOf_val m
 have vn:=limbsOf_val n
 generalize limbsOf m=a at*
 generalize limbsOf n=b at*
 subst vm
 subst vn
 have c1:=cmpI_s (a.length:Int) (b.length:Int)
 have hlt: ∀{a b:List Nat},limbs a->canon b->a.length<b.length->val a<val b:=by
  intro a b ha cb h
  have h1:=val_lt ha
  have h2:=canon_ge cb (by intro e;subst e;simp at h)
  have h3:4294967296^a.length<=4294967296^(b.length-1):=Nat.pow_le_pow_right om om
  omega
 unfold sv
 by_cases hab:a.length=b.length
 ·have e1:((a.length:Int)-(b.length:Int)).sign=0:=by rw[hab,Int.sub_self];rfl
  rw[e1]at c1
  have q0:((0:Int) !=0)=false:=by decide
  refine qF Tryz.func122 Tryz.ntmps122 fun B hB=> ?_
  refine qWf (Q2 @q0 @lv_len) ?_
  refine SC.loop (fun k:Nat=>⟨[(0,.im (lv a) a.length),(1,.im (lv b) b.length),(6,.sc (.int .i64 ((k:Int)-1)))],[],0,35⟩)
   (fun k=>k<=a.length/\(val a<val b↔val (a.take k)<val (b.take k))/\(val b<val a↔val (b.take k)<val (a.take k))) (fun k=>k) a.length ?_ ?_ ?_
  ·exact qL
  ·exact⟨znb _,by rw[List.take_length,hab,List.take_length],by rw[List.take_length,hab,List.take_length]⟩
  ·rintro k ⟨hk,hI,hJ⟩ K hK
   by_cases h0:k=0
   ·subst h0
    have q1:decide ((0:Int)<=((0:Nat):Int)-1)=false:=by simp
    refine qYf (Q3 @q0 @lv_len @q1) ?_
    refine retQ_ret Tryz.results122 qT qT ?_
    simp[val]at hI hJ
    rw[show((val a:Int)-(val b:Int))=0 by omega];rfl
   ·obtain⟨j,rfl⟩: ∃j,k=j+1:=⟨k-1,by omega⟩
    have q1:decide ((0:Int)<=((j+1:Nat):Int)-1)=true:=by simp
    have hi:(((j+1:Nat):Int)-1).toNat=j:=by omega
    have ga:=lv_get (l:=a) (i:=j) om
    have gb:=lv_get (l:=b) (i:=j) om
    have s1:=val_lt_step (a:=a) (b:=b) (k:=j) bm bn om om
    have s2:=val_lt_step (a:=b) (b:=a) (k:=j) bn bm om om
    rw[<-hI]at s1
    rw[<-hJ]at s2
    generalize a.getD j 0=x at*
    generalize b.getD j 0=y at*
    have c2:=cmpU_s (x:Int) (y:Int)
    rcases Nat.lt_trichotomy x y with h|h|h
    ·have e2:((x:Int)-(y:Int)).sign= -1:=Int.sign_eq_neg_one_of_neg om
     rw[e2]at c2
     have q2:((-1:Int) !=0)=true:=by decide
     refine qWf (Q8 @q0 @q1 @q2 @hi @ga @gb @lv_len @gD) ?_
     refine retQ_ret Tryz.results122 qT qT ?_
     have:=(s1.2 om).2 h
     rw[Int.sign_eq_neg_one_of_neg om]
    ·subst h
     have e2:((x:Int)-(x:Int)).sign=0:=by rw[Int.sub_self];rfl
     rw[e2]at c2
     refine qWf (Q7 @q0 @q1 @hi @ga @gb @lv_len @gD) ?_
     refine hK _ j ?_ ⟨by omega,s1.1 rfl,s2.1 rfl⟩ om
     exact qL
    ·have e2:((x:Int)-(y:Int)).sign=1:=Int.sign_eq_one_of_pos om
     rw[e2]at c2
     have q2:((1:Int) !=0)=true:=by decide
     refine qWf (Q8 @q0 @q1 @q2 @hi @ga @gb @lv_len @gD) ?_
     refine retQ_ret Tryz.results122 qT qT ?_
     have:=(s2.2 om).2 h
     rw[Int.sign_eq_one_of_pos om]
 ·rcases Nat.lt_or_gt_of_ne hab with h|h
  ·have e1:((a.length:Int)-(b.length:Int)).sign= -1:=Int.sign_eq_neg_one_of_neg om
   rw[e1]at c1
   have q0:((-1:Int) !=0)=true:=by decide
   have hv:=hlt bm cn h
   refine qF Tryz.func122 Tryz.ntmps122 fun B hB=> ?_
   refine qWf (Q2 @q0 @lv_len) ?_
   refine retQ_ret Tryz.results122 qT qT ?_
   rw[Int.sign_eq_neg_one_of_neg om]
  ·have e1:((a.length:Int)-(b.length:Int)).sign=1:=Int.sign_eq_one_of_pos om
   rw[e1]at c1
   have q0:((1:Int) !=0)=true:=by decide
   have hv:=hlt bn cm h
   refine qF Tryz.func122 Tryz.ntmps122 fun B hB=> ?_
   refine qWf (Q2 @q0 @lv_len) ?_
   refine retQ_ret Tryz.results122 qT qT ?_
   rw[Int.sign_eq_one_of_pos om]
theorem sign_cases(z:Int):(z<0/\z.sign= -1)\/(z=0/\z.sign=0)\/(0<z/\z.sign=1):=by
 rcases Int.lt_trichotomy z 0 with h|h|h
 ·exact .inl ⟨h,Int.sign_eq_neg_one_of_neg h⟩
 ·subst h;exact .inr (.inl ⟨rfl,rfl⟩)
 ·exact .inr (.inr ⟨h,Int.sign_eq_one_of_pos h⟩)
theorem pcmp_i(x y:Int)(K:Nat)(hx:Fits K x)(hy:Fits K y)(hK:K<=1000000000000):Spec Tryz.prog 94 [iv x,iv y] (.sc (.int .i64 (x-y).sign)):=by
 have lx:=fits_len hx
 have ly:=fits_len hy
 have c1:=psign_i x K hx hK
 have c2:=psign_i y K hy hK
 by_cases hs:x.sign=y.sign
 ·have c3:=trim_n x.natAbs om
  have c4:=trim_n y.natAbs om
  have c5:=compare_n x.natAbs y.natAbs om om
  rw[<-hs]at c2
  have q1:(x.sign !=x.sign)=false:=by simp
  have A:=sign_cases x
  have A':=sign_cases y
  have A2:=sign_cases (x-y)
  have A3:=sign_cases ((x.natAbs:Int)-(y.natAbs:Int))
  have hb: -1<=x.sign/\x.sign<=1:=by omega
  have hb2: -1<=(x-y).sign/\(x-y).sign<=1:=by omega
  have e:x.sign*(((x.natAbs:Int)-(y.natAbs:Int)).sign)=(x-y).sign:=by
   rcases A with⟨h,g⟩|⟨h,g⟩|⟨h,g⟩<;>rw[g]<;>omega
  clear A A' A2 A3
  generalize x.sign=s at*
  generalize(((x.natAbs:Int)-(y.natAbs:Int)).sign)=t at*
  generalize(x-y).sign=u at*
  unfold iv sv at*
  refine qF Tryz.func94 Tryz.ntmps94 fun B hB=> ?_
  refine qWf (Q2 @q1 @e) ?_
  exact qE Tryz.results94
 ·have c3:=cmpI_s x.sign y.sign
  have q1:(x.sign !=y.sign)=true:=by simpa using hs
  have e:(x.sign-y.sign).sign=(x-y).sign:=by
   have A:=sign_cases x
   have A':=sign_cases y
   have A2:=sign_cases (x-y)
   have A3:=sign_cases (x.sign-y.sign)
   omega
  rw[e]at c3
  unfold iv sv at*
  refine qF Tryz.func94 Tryz.ntmps94 fun B hB=> ?_
  refine qWf @q1 ?_
  exact qE Tryz.results94
end
section
open Go.RowKit
theorem lv_rep(n:Nat):List.replicate n (.sc (.int .u32 0))=lv (List.replicate n 0):=by simp[lv]
theorem lv_set{l:List Nat}{i x:Nat}{e:Int}(h:e=(x:Int)):(lv l).set i (.sc (.int .u32 e))=lv (l.set i x):=by subst h;simp[lv,List.map_set]
theorem sgn_mul(x y:Int):sgn (decide (x<0) !=decide (y<0)) (x.natAbs*y.natAbs)=x*y:=by
 rcases Int.lt_or_le x 0 with hx|hx<;>rcases Int.lt_or_le y 0 with hy|hy
 ·rw[decide_eq_true hx,decide_eq_true hy]
  obtain⟨m,rfl⟩: ∃m:Nat,x= -m:=⟨x.natAbs,by omega⟩
  obtain⟨n,rfl⟩: ∃n:Nat,y= -n:=⟨y.natAbs,by omega⟩
  simp[sgn,Int.neg_mul_neg]
 ·rw[decide_eq_true hx,decide_eq_false om]
  obtain⟨m,rfl⟩: ∃m:Nat,x= -m:=⟨x.natAbs,by omega⟩
  obtain⟨n,rfl⟩: ∃n:Nat,y=n:=⟨y.natAbs,by omega⟩
  simp[sgn,Int.neg_mul]
 ·rw[decide_eq_false om,decide_eq_true hy]
  obtain⟨m,rfl⟩: ∃m:Nat,x=m:=⟨x.natAbs,by omega⟩
  obtain⟨n,rfl⟩: ∃n:Nat,y= -n:=⟨y.natAbs,by omega⟩
  simp[sgn,Int.mul_neg]
 ·rw[decide_eq_false om,decide_eq_false om]
  obtain⟨m,rfl⟩: ∃m:Nat,x=m:=⟨x.natAbs,by omega⟩
  obtain⟨n,rfl⟩: ∃n:Nat,y=n:=⟨y.natAbs,by omega⟩
  simp[sgn]
theorem mul_i(x y:Int)(K:Nat)(hx:Fits K x)(hy:Fits K y)(hK:K<=400000000000):Spec Tryz.prog 59 [iv x,iv y] (iv (x*y)):=by
 have lx:=fits_len hx
 have ly:=fits_len hy
 obtain⟨a,ea⟩: ∃a,a=limbsOf x.natAbs:=⟨_,rfl⟩
 obtain⟨b,eb⟩: ∃b,b=limbsOf y.natAbs:=⟨_,rfl⟩
 have vx:val a=x.natAbs:=by rw[ea];exact limbsOf_val _
 have vy:val b=y.natAbs:=by rw[eb];exact limbsOf_val _
 have bx:limbs a:=by rw[ea];exact limbsOf_limbs _
 have bY:limbs b:=by rw[eb];exact limbsOf_limbs _
 rw[<-ea]at lx
 rw[<-eb]at ly
 unfold iv sv
 rw[<-ea,<-eb]
 refine qF Tryz.func59 Tryz.ntmps59 fun B hB=> ?_
 obtain⟨ax,hax⟩: ∃ax:Blk,ax=⟨68,[.sc (.bool (decide (x<0))),.im (lv a) a.length],false⟩:=⟨_,rfl⟩
 have hN:((a.length:Int)+(b.length:Int)+1).toNat=a.length+b.length+1:=by omega
 refine qYf (Q2 @lv_len @hN) ?_
 refine SC.loop (fun x':Nat×List Nat=>⟨[(2,.pt 0 0),(3,.pt 1 0),(4,.pt 2 0),(5,.sl 3 0 (a.length+b.length+1) 1 none),(6,.sc (.int .i64 x'.1))],[(3,⟨117,lv x'.2,false⟩),(2,⟨68,[.sc (.bool false),.sc (.slice none 0 0)],false⟩),(1,⟨68,[.sc (.bool (decide (y<0))),.im (lv b) b.length],false⟩),(0,⟨68,[.sc (.bool (decide (x<0))),.im (lv a) a.length],false⟩)],4,81⟩)
  (fun x'=>x'.1<=a.length/\mulInv a b x'.1 0 0 x'.2) (fun x'=>a.length-x'.1) (0,List.replicate (a.length+b.length+1) 0) ?_ ?_ ?_
 ·refine qLn0r ?_
  exact LLe.lv (lv_rep _)
 ·exact⟨znc _,by simp,limbs_replicate _,by simp[val,val_replicate]⟩
 ·rintro⟨i,z⟩ ⟨hi,hI⟩ K hK
  simp only at hi hI⊢
  have hz:z.length=a.length+b.length+1:=hI.1
  by_cases hA:i<a.length
  ·have q1:=decide_eq_true (p:=(i:Int)<a.length) om
   refine qYf (Q2 @q1 @lv_len) ?_
   refine SC.loop (fun x':Nat×Nat×List Nat=>⟨[(2,.pt 0 0),(3,.pt 1 0),(4,.pt 2 0),(5,.sl 3 0 (a.length+b.length+1) 1 none),(6,.sc (.int .i64 i)),(7,.sc (.int .u64 x'.2.1)),(8,.sc (.int .i64 x'.1))],[(3,⟨117,lv x'.2.2,false⟩),(2,⟨68,[.sc (.bool false),.sc (.slice none 0 0)],false⟩),(1,⟨68,[.sc (.bool (decide (y<0))),.im (lv b) b.length],false⟩),(0,⟨68,[.sc (.bool (decide (x<0))),.im (lv a) a.length],false⟩)],4,81⟩)
    (fun x'=>x'.1<=b.length+1/\x'.2.1<4294967296/\mulInv a b i x'.1 x'.2.1 x'.2.2) (fun x'=>b.length+1-x'.1) (0,0,z) ?_ ?_ ?_
   ·refine qLn0r ?_
    exact LLe.lv rfl
   ·exact⟨znc _,by simp only;omega,hI⟩
   ·rintro⟨k,c,z⟩ ⟨hk,hc,hI⟩ K' hK'
    simp only at hk hc hI⊢
    have hz:z.length=a.length+b.length+1:=hI.1
    have la:=limbs_getD bx i
    have lb:=limbs_getD bY k
    have lz:=limbs_getD hI.2.1 (i+k)
    by_cases hend:k<b.length\/0<c
    ·have hk1:k<=b.length:=by
      rcases Nat.lt_or_ge k (b.length+1)with h|h
      ·omega
      ·have h1:k=b.length+1:=by omega
       subst h1
       have:=hI.noCarry bx bY hA
       omega
     have hidx:((i:Int)+(k:Int)).toNat=i+k:=by omega
     have hst:=hI.step om _ _ _ rfl rfl rfl
     have hzi:i+k<z.length:=by omega
     have gz:=lv_get hzi
     have ga:=lv_get hA
     by_cases hB':k<b.length
     ·have q2:=decide_eq_true (p:=(k:Int)<b.length) om
      have gb:=lv_get hB'
      generalize a.getD i 0=xa at*
      generalize b.getD k 0=xb at*
      generalize z.getD (i+k) 0=xz at*
      have hp:xa*xb<=4294967295*4294967295:=Nat.mul_le_mul om om
      have hm:(xa:Int)*(xb:Int)=((xa*xb:Nat):Int):=by simp
      generalize xa*xb=pr at*
      refine qYf (Q9 @q1 @q2 @hidx @gz @ga @gb @hm @lv_len @gD) ?_
      refine hK' _ (k+1,(c+xz+pr)/4294967296,z.set (i+k) ((c+xz+pr) % 4294967296)) ?_ ⟨by simp only;omega,by simp only;omega,hst⟩ (by simp only;omega)
      refine qLn0r ?_
      exact LLe.lv (lv_set om)
     ·have q2:=decide_eq_false (p:=(k:Int)<b.length) om
      have q3:=decide_eq_true (p:=(0:Int)<c) om
      have hz0:=getD_ge (l:=b) (k:=k) hB'
      rw[hz0,Nat.mul_zero,Nat.add_zero]at hst
      generalize z.getD (i+k) 0=xz at*
      refine qYf (Q7 @q1 @q2 @q3 @hidx @gz @lv_len @gD) ?_
      refine hK' _ (k+1,(c+xz)/4294967296,z.set (i+k) ((c+xz) % 4294967296)) ?_ ⟨by simp only;omega,by simp only;omega,hst⟩ (by simp only;omega)
      refine qLn0r ?_
      exact LLe.lv (lv_set om)
    ·have hc0:c=0:=by omega
     subst hc0
     have q2:=decide_eq_false (p:=(k:Int)<b.length) om
     have q3:decide ((0:Int)<((0:Nat):Int))=false:=by simp
     refine qYf (Q4 @q1 @q2 @q3 @lv_len) ?_
     refine hK _ (i+1,z) ?_ ⟨by simp only;omega,hI.row om⟩ (by simp only;omega)
     refine qLn0r ?_
     exact LLe.lv rfl
  ·have q1:=decide_eq_false (p:=(i:Int)<a.length) om
   have hd:=hI.done om
   have c2:=made_i z (decide (x<0) !=decide (y<0)) hI.2.1 om
   have e2:sgn (decide (x<0) !=decide (y<0)) (val z)=x*y:=by
    rw[hd,vx,vy];exact sgn_mul x y
   rw[e2]at c2
   unfold iv sv at c2
   rw[hz]at c2
   have ht:z.take (a.length+b.length+1)=z:=by rw[<-hz];exact List.take_length
   refine qWf (Q5 @q1 @lv_len @lv_take @lv_clo @ht) ?_
   exact qE Tryz.results59
end
section
open Go.RowKit
theorem take_set_succ{l:List Nat}{k x:Nat}(h:k<l.length):(l.set k x).take (k+1)=l.take k++ [x]:=by
 rw[List.take_succ_eq_append_getElem (by simpa using h)]
 simp only[List.take_set,List.getElem_set_self]
 rw[List.set_eq_of_length_le (by simp;omega)]
theorem fd32(n:Int):n.fdiv (2^min 32 64)=n/4294967296:=by rw[show(2:Int)^min 32 64=4294967296 by decide];exact Int.fdiv_eq_ediv_of_nonneg _ om
theorem fd63(n:Int):n.fdiv (2^min 63 64)=n/9223372036854775808:=by rw[show(2:Int)^min 63 64=9223372036854775808 by decide];exact Int.fdiv_eq_ediv_of_nonneg _ om
theorem pplus_i(x y:List Nat)(hx:limbs x)(hy:limbs y)(hmx:x.length<=900000000000)(hmy:y.length<=900000000000):Spec Tryz.prog 126 [sv x,sv y] (sv (dg (max x.length y.length+1) (val x+val y))):=by
 unfold sv
 rcases Nat.lt_or_ge x.length y.length with hlt|hge
 ·have q0:=decide_eq_true (p:=((x.length:Nat):Int)<(y.length:Int)) om
  have hN:((y.length:Int)+1).toNat=y.length+1:=by omega
  refine qF Tryz.func126 Tryz.ntmps126 fun B hB=> ?_
  refine qYf (Q3 @q0 @lv_len @hN) ?_
  refine SC.loop (fun u:Nat×Nat×List Nat=>⟨[(0,.im (lv y) y.length),(1,.im (lv x) x.length),(5,.sl 0 0 (y.length+1) 1 none),(6,.sc (.int .u64 u.2.1)),(20,.sc (.int .i64 y.length)),(21,.sc (.int .i64 u.1))],[(0,⟨117,lv u.2.2,false⟩)],1,57⟩)
   (fun u=>u.2.1<=1/\u.1<=y.length/\u.2.2.length=y.length+1/\limbs u.2.2/\plusInv y x u.1 u.2.1 (u.2.2.take u.1)) (fun u=>y.length-u.1) (0,0,List.replicate (y.length+1) 0) ?_ ?_ ?_
  ·refine qLn0r ?_
   exact LLe.lv (lv_rep _)
  ·exact⟨znc _,znc _,by simp,limbs_replicate _,by simp,fun n hn=>by simp at hn,by simp[val]⟩
  ·rintro⟨k,c,z⟩ ⟨hc,hk,hzl,hz,hI⟩ K hK
   simp only at hc hk hzl hz hI⊢
   have la:=limbs_getD hy k
   have lb:=limbs_getD hx k
   by_cases hka:k<y.length
   ·have q1:=decide_eq_true (p:=(k:Int)<(y.length:Int)) om
    have hst:=hI.step _ _ rfl rfl
    rw[<-take_set_succ om]at hst
    have ga:=lv_get hka
    by_cases hkb:k<x.length
    ·have q2:=decide_eq_true (p:=(k:Int)<(x.length:Int)) om
     have gb:=lv_get hkb
     generalize y.getD k 0=s at*
     generalize x.getD k 0=t at*
     refine qYf (Q7 @q1 @q2 @fd32 @ga @gb @lv_len @gD) ?_
     refine hK _ (k+1,(c+s+t)/4294967296,z.set k ((c+s+t) % 4294967296)) ?_ ⟨by simp only;omega,by simp only;omega,by simp[hzl],limbs_set hz _ om,hst⟩ (by simp only;omega)
     refine qLn0r ?_
     exact LLe.lv (lv_set om)
    ·have q2:=decide_eq_false (p:=(k:Int)<(x.length:Int)) om
     have hb0:=getD_ge hkb
     rw[hb0]at hst
     generalize y.getD k 0=s at*
     refine qYf (Q6 @q1 @q2 @fd32 @ga @lv_len @gD) ?_
     refine hK _ (k+1,(c+s+0)/4294967296,z.set k ((c+s+0) % 4294967296)) ?_ ⟨by simp only;omega,by simp only;omega,by simp[hzl],limbs_set hz _ om,hst⟩ (by simp only;omega)
     refine qLn0r ?_
     exact LLe.lv (lv_set om)
   ·have hkn:k=y.length:=by omega
    subst hkn
    have q1:=decide_eq_false (p:=((y.length:Nat):Int)<(y.length:Int)) om
    obtain⟨h1,h2,h3⟩:=hI
    rw[zla (l:=y) (znb _),zla (l:=x) om]at h3
    have hw:=take_set_succ (l:=z) (k:=y.length) (x:=c) om
    rw[zla (by simp[hzl])]at hw
    have hv:val (z.set y.length c)=val y+val x:=by
     rw[hw,val_append,h1];simp only[val];omega
    have hl2:(z.set y.length c).length=y.length+1:=by simp[hzl]
    have he:=dg_eq (limbs_set hz y.length (x:=c) om)
    rw[hv,hl2]at he
    have hls:(lv z).set y.length (.sc (.int .u32 (c:Int)))=lv (z.set y.length c):=lv_set rfl
    have ht:(z.set y.length c).take (y.length+1)=z.set y.length c:=by rw[<-hl2];exact List.take_length
    refine qYf (Q3 @q1 @hls @lv_len) ?_
    refine retQ_ret Tryz.results126 qT (qTf (Q4 @lv_len @lv_take @lv_clo @ht)) ?_
    rw[show max x.length y.length=y.length by omega,Nat.add_comm (val x),he,hl2]
 ·have q0:=decide_eq_false (p:=((x.length:Nat):Int)<(y.length:Int)) om
  have hN:((x.length:Int)+1).toNat=x.length+1:=by omega
  refine qF Tryz.func126 Tryz.ntmps126 fun B hB=> ?_
  refine qYf (Q3 @q0 @lv_len @hN) ?_
  refine SC.loop (fun u:Nat×Nat×List Nat=>⟨[(0,.im (lv x) x.length),(1,.im (lv y) y.length),(5,.sl 0 0 (x.length+1) 1 none),(6,.sc (.int .u64 u.2.1)),(20,.sc (.int .i64 x.length)),(21,.sc (.int .i64 u.1))],[(0,⟨117,lv u.2.2,false⟩)],1,57⟩)
   (fun u=>u.2.1<=1/\u.1<=x.length/\u.2.2.length=x.length+1/\limbs u.2.2/\plusInv x y u.1 u.2.1 (u.2.2.take u.1)) (fun u=>x.length-u.1) (0,0,List.replicate (x.length+1) 0) ?_ ?_ ?_
  ·refine qLn0r ?_
   exact LLe.lv (lv_rep _)
  ·exact⟨znc _,znc _,by simp,limbs_replicate _,by simp,fun n hn=>by simp at hn,by simp[val]⟩
  ·rintro⟨k,c,z⟩ ⟨hc,hk,hzl,hz,hI⟩ K hK
   simp only at hc hk hzl hz hI⊢
   have la:=limbs_getD hx k
   have lb:=limbs_getD hy k
   by_cases hka:k<x.length
   ·have q1:=decide_eq_true (p:=(k:Int)<(x.length:Int)) om
    have hst:=hI.step _ _ rfl rfl
    rw[<-take_set_succ om]at hst
    have ga:=lv_get hka
    by_cases hkb:k<y.length
    ·have q2:=decide_eq_true (p:=(k:Int)<(y.length:Int)) om
     have gb:=lv_get hkb
     generalize x.getD k 0=s at*
     generalize y.getD k 0=t at*
     refine qYf (Q7 @q1 @q2 @fd32 @ga @gb @lv_len @gD) ?_
     refine hK _ (k+1,(c+s+t)/4294967296,z.set k ((c+s+t) % 4294967296)) ?_ ⟨by simp only;omega,by simp only;omega,by simp[hzl],limbs_set hz _ om,hst⟩ (by simp only;omega)
     refine qLn0r ?_
     exact LLe.lv (lv_set om)
    ·have q2:=decide_eq_false (p:=(k:Int)<(y.length:Int)) om
     have hb0:=getD_ge hkb
     rw[hb0]at hst
     generalize x.getD k 0=s at*
     refine qYf (Q6 @q1 @q2 @fd32 @ga @lv_len @gD) ?_
     refine hK _ (k+1,(c+s+0)/4294967296,z.set k ((c+s+0) % 4294967296)) ?_ ⟨by simp only;omega,by simp only;omega,by simp[hzl],limbs_set hz _ om,hst⟩ (by simp only;omega)
     refine qLn0r ?_
     exact LLe.lv (lv_set om)
   ·have hkn:k=x.length:=by omega
    subst hkn
    have q1:=decide_eq_false (p:=((x.length:Nat):Int)<(x.length:Int)) om
    obtain⟨h1,h2,h3⟩:=hI
    rw[zla (l:=x) (znb _),zla (l:=y) om]at h3
    have hw:=take_set_succ (l:=z) (k:=x.length) (x:=c) om
    rw[zla (by simp[hzl])]at hw
    have hv:val (z.set x.length c)=val x+val y:=by
     rw[hw,val_append,h1];simp only[val];omega
    have hl2:(z.set x.length c).length=x.length+1:=by simp[hzl]
    have he:=dg_eq (limbs_set hz x.length (x:=c) om)
    rw[hv,hl2]at he
    have hls:(lv z).set x.length (.sc (.int .u32 (c:Int)))=lv (z.set x.length c):=lv_set rfl
    have ht:(z.set x.length c).take (x.length+1)=z.set x.length c:=by rw[<-hl2];exact List.take_length
    refine qYf (Q3 @q1 @hls @lv_len) ?_
    refine retQ_ret Tryz.results126 qT (qTf (Q4 @lv_len @lv_take @lv_clo @ht)) ?_
    rw[show max x.length y.length=x.length by omega,he,hl2]
theorem pminus_i(x y:List Nat)(hx:limbs x)(hy:limbs y)(hmx:x.length<=900000000000)(hl:y.length<=x.length)(hv:val y<=val x):Spec Tryz.prog 127 [sv x,sv y] (sv (dg x.length (val x-val y))):=by
 unfold sv
 refine qF Tryz.func127 Tryz.ntmps127 fun B hB=> ?_
 refine qYf @lv_len ?_
 refine SC.loop (fun u:Nat×Nat×List Nat=>⟨[(0,.im (lv x) x.length),(1,.im (lv y) y.length),(5,.sl 0 0 x.length 1 none),(6,.sc (.int .u64 u.2.1)),(13,.sc (.int .i64 x.length)),(14,.sc (.int .i64 u.1))],[(0,⟨117,lv u.2.2,false⟩)],1,44⟩)
  (fun u=>u.2.1<=1/\u.1<=x.length/\u.2.2.length=x.length/\limbs u.2.2/\minusInv x y u.1 u.2.1 (u.2.2.take u.1)) (fun u=>x.length-u.1) (0,0,List.replicate x.length 0) ?_ ?_ ?_
 ·refine qLn0r ?_
  exact LLe.lv (lv_rep _)
 ·exact⟨znc _,znc _,by simp,limbs_replicate _,by simp,fun n hn=>by simp at hn,by simp[val]⟩
 ·rintro⟨k,c,z⟩ ⟨hc,hk,hzl,hz,hI⟩ K hK
  simp only at hc hk hzl hz hI⊢
  have la:=limbs_getD hx k
  have lb:=limbs_getD hy k
  by_cases hka:k<x.length
  ·have q1:=decide_eq_true (p:=(k:Int)<(x.length:Int)) om
   have ga:=lv_get hka
   have hst: ∀d c':Nat,d<4294967296->(d:Int)=(x.getD k 0:Nat)-c-(y.getD k 0:Nat)+4294967296*c'->minusInv x y (k+1) c' ((z.set k d).take (k+1)):=fun d c' h1 h2=>by
    rw[take_set_succ om];exact hI.step _ _ d c' rfl rfl h1 h2
   have wneg: ∀n:Int,-18446744073709551616<=n->n<0->IntKind.u64.wrap n=n+18446744073709551616:=fun n h1 h2=>by simp[IntKind.wrap,IntKind.bits,IntKind.signed];omega
   by_cases hkb:k<y.length
   ·have q2:=decide_eq_true (p:=(k:Int)<(y.length:Int)) om
    have gb:=lv_get hkb
    generalize x.getD k 0=s at*
    generalize y.getD k 0=t at*
    by_cases hn:(s:Int)-c-t<0
    ·have e3:IntKind.u64.wrap (IntKind.u64.wrap ((s:Int)-c)-t)=(s:Int)-c-t+18446744073709551616:=by
      simp[IntKind.wrap,IntKind.bits,IntKind.signed];omega
     refine qYf (Q8 @q1 @q2 @fd63 @e3 @ga @gb @lv_len @gD) ?_
     refine hK _ (k+1,1,z.set k (s+4294967296-c-t)) ?_ ⟨by simp only;omega,by simp only;omega,by simp[hzl],limbs_set hz _ om,hst _ 1 om om⟩ (by simp only;omega)
     refine qLn0r ?_
     exact LLe.lv (lv_set om)
    ·have e3:IntKind.u64.wrap (IntKind.u64.wrap ((s:Int)-c)-t)=(s:Int)-c-t:=by
      simp[IntKind.wrap,IntKind.bits,IntKind.signed];omega
     refine qYf (Q8 @q1 @q2 @fd63 @e3 @ga @gb @lv_len @gD) ?_
     refine hK _ (k+1,0,z.set k (s-c-t)) ?_ ⟨by simp only;omega,by simp only;omega,by simp[hzl],limbs_set hz _ om,hst _ 0 om om⟩ (by simp only;omega)
     refine qLn0r ?_
     exact LLe.lv (lv_set om)
   ·have q2:=decide_eq_false (p:=(k:Int)<(y.length:Int)) om
    have hb0:=getD_ge hkb
    rw[hb0]at hst
    generalize x.getD k 0=s at*
    by_cases hn:(s:Int)-c<0
    ·have e3:IntKind.u64.wrap ((s:Int)-c)=(s:Int)-c+18446744073709551616:=wneg _ om hn
     refine qYf (Q7 @q1 @q2 @fd63 @e3 @ga @lv_len @gD) ?_
     refine hK _ (k+1,1,z.set k (s+4294967296-c)) ?_ ⟨by simp only;omega,by simp only;omega,by simp[hzl],limbs_set hz _ om,hst _ 1 om om⟩ (by simp only;omega)
     refine qLn0r ?_
     exact LLe.lv (lv_set om)
    ·refine qYf (Q6 @q1 @q2 @fd63 @ga @lv_len @gD) ?_
     refine hK _ (k+1,0,z.set k (s-c)) ?_ ⟨by simp only;omega,by simp only;omega,by simp[hzl],limbs_set hz _ om,hst _ 0 om om⟩ (by simp only;omega)
     refine qLn0r ?_
     exact LLe.lv (lv_set om)
  ·have hkn:k=x.length:=by omega
   subst hkn
   have q1:=decide_eq_false (p:=((x.length:Nat):Int)<(x.length:Int)) om
   rw[zla (l:=z) om]at hI
   have hd:=hI.done hc hx hl hv
   have he:=dg_eq hz
   rw[hd,hzl]at he
   have ht:z.take x.length=z:=by rw[<-hzl];exact List.take_length
   refine qYf @q1 ?_
   refine retQ_ret Tryz.results127 qT (qTf (Q4 @lv_len @lv_take @lv_clo @ht)) ?_
   rw[he,hzl]
theorem pvalue_dg(k n:Nat)(neg:Bool)(z:Int)(hz:sgn neg n=z)(h:n<4294967296^k)(hk:k<=1000000000000):Spec Tryz.prog 112 [.sc (.bool neg),sv (dg k n)] (iv z):=by
 have:=value_i neg (dg k n) (dg_limbs _ _) (by rw[dg_len];exact hk)
 rwa[dg_val k n h,hz]at this
theorem padd_g(na nb:Bool)(m n K:Nat)(hm:m<4294967296^K)(hn:n<4294967296^K)(hK:K<=500000000000):Spec Tryz.prog 106 [.ag [.sc (.bool na),sv (limbsOf m)],.ag [.sc (.bool nb),sv (limbsOf n)]] (iv (sgn na m+sgn nb n)):=by
 have lm:(limbsOf m).length<=K:=canon_len (limbsOf_canon _) (by rw[limbsOf_val];exact hm)
 have ln:(limbsOf n).length<=K:=canon_len (limbsOf_canon _) (by rw[limbsOf_val];exact hn)
 have vm:=limbsOf_val m
 have vn:=limbsOf_val n
 have t1:=trim_n m om
 have t2:=trim_n n om
 by_cases hs:na=nb
 ·subst hs
  have c1:=pplus_i (limbsOf m) (limbsOf n) (limbsOf_limbs _) (limbsOf_limbs _) om om
  rw[vm,vn]at c1
  have g1:=val_lt (limbsOf_limbs m)
  have g2:=val_lt (limbsOf_limbs n)
  rw[vm]at g1
  rw[vn]at g2
  have g3:4294967296^(limbsOf m).length<=4294967296^max (limbsOf m).length (limbsOf n).length:=Nat.pow_le_pow_right om om
  have g4:4294967296^(limbsOf n).length<=4294967296^max (limbsOf m).length (limbsOf n).length:=Nat.pow_le_pow_right om om
  have c2:=pvalue_dg (max (limbsOf m).length (limbsOf n).length+1) (m+n) na (sgn na m+sgn na n) (by cases na<;>simp[sgn];omega) (by rw[Nat.pow_succ];omega) om
  have q1:(na==na)=true:=by simp
  unfold iv sv at*
  refine qF Tryz.func106 Tryz.ntmps106 fun B hB=> ?_
  refine qWf @q1 ?_
  exact qE Tryz.results106
 ·have q1:(na==nb)=false:=by simpa using hs
  have c0:=compare_n m n om om
  by_cases hl:m<n
  ·rw[Int.sign_eq_neg_one_of_neg om]at c0
   have hle:(limbsOf m).length<=(limbsOf n).length:=canon_len (limbsOf_canon _) (by have:=val_lt (limbsOf_limbs n);omega)
   have c1:=pminus_i (limbsOf n) (limbsOf m) (limbsOf_limbs _) (limbsOf_limbs _) om hle om
   rw[vm,vn]at c1
   have c2:=pvalue_dg (limbsOf n).length (n-m) nb (sgn na m+sgn nb n) (by cases na<;>cases nb<;>simp_all [sgn]<;>omega) (by have:=val_lt (limbsOf_limbs n);omega) om
   have q2:decide ((-1:Int)<0)=true:=by decide
   unfold iv sv at*
   refine qF Tryz.func106 Tryz.ntmps106 fun B hB=> ?_
   refine qWf (Q2 @q1 @q2) ?_
   exact qE Tryz.results106
  ·have hle:(limbsOf n).length<=(limbsOf m).length:=canon_len (limbsOf_canon _) (by have:=val_lt (limbsOf_limbs m);omega)
   have c1:=pminus_i (limbsOf m) (limbsOf n) (limbsOf_limbs _) (limbsOf_limbs _) om hle om
   rw[vm,vn]at c1
   have c2:=pvalue_dg (limbsOf m).length (m-n) na (sgn na m+sgn nb n) (by cases na<;>cases nb<;>simp_all [sgn]<;>omega) (by have:=val_lt (limbsOf_limbs m);omega) om
   have q2:decide (((m:Int)-(n:Int)).sign<0)=false:=by
    rw[decide_eq_false_iff_not]
    have:=sign_cases ((m:Int)-(n:Int))
    omega
   unfold iv sv at*
   refine qF Tryz.func106 Tryz.ntmps106 fun B hB=> ?_
   refine qWf (Q2 @q1 @q2) ?_
   exact qE Tryz.results106
theorem sgn_self(x:Int):sgn (decide (x<0)) x.natAbs=x:=by unfold sgn;split<;>simp_all<;>omega
theorem padd_i(x y:Int)(K:Nat)(hx:Fits K x)(hy:Fits K y)(hK:K<=500000000000):Spec Tryz.prog 106 [iv x,iv y] (iv (x+y)):=by
 have:=padd_g (decide (x<0)) (decide (y<0)) x.natAbs y.natAbs K hx hy hK
 rwa[sgn_self,sgn_self]at this
end
section
open Go.RowKit
theorem getD_app0(z:List Nat)(j:Nat):(z++ [0]).getD j 0=z.getD j 0:=by
 simp only[List.getD_eq_getElem?_getD,List.getElem?_append]
 split
 ·rfl
 ·rename_i h
  rw[List.getElem?_eq_none (l:=z) om]
  cases hj:[0][j-z.length]?with
  |none=>rfl
  | some v=>
   have:v=0:=by
    have:=(List.getElem?_eq_some_iff.1 hj).1
    have e:j-z.length=0:=by simpa using this
    rw[e]at hj;simpa using hj.symm
   simp[this]
theorem set_app0{z:List Nat}{j:Nat}(h:j<z.length)(v:Nat):(z++ [0]).set j v=z.set j v++ [0]:=by
 rw[List.set_append,if_pos h]
theorem val_app0(z:List Nat):val (z++ [0])=val z:=by rw[val_append];simp[val]
theorem getD_set_ne{z:List Nat}{i j v:Nat}(h:i≠j):(z.set i v).getD j 0=z.getD j 0:=by
 simp[List.getD_eq_getElem?_getD,List.getElem?_set_ne h]
theorem ptimes_i(a b:List Nat)(ha:limbs a)(hb:limbs b)(hma:a.length<=400000000000)(hmb:b.length<=400000000000):Spec Tryz.prog 128 [sv a,sv b] (sv (dg (a.length+b.length) (val a*val b))):=by
 unfold sv
 have hN:((a.length:Int)+(b.length:Int)).toNat=a.length+b.length:=by omega
 refine qF Tryz.func128 Tryz.ntmps128 fun B hB=> ?_
 refine qYf (Q2 @lv_len @hN) ?_
 refine SC.loop (fun u:Nat×List Nat=>⟨[(0,.im (lv a) a.length),(1,.im (lv b) b.length),(5,.sl 0 0 (a.length+b.length) 1 none),(17,.im (lv a) a.length),(18,.sc (.int .i64 a.length)),(19,.sc (.int .i64 u.1))],[(0,⟨117,lv u.2,false⟩)],1,66⟩)
  (fun u=>u.1<=a.length/\u.2.length=a.length+b.length/\mulInv a b u.1 0 0 (u.2++ [0])/\ ∀j,u.1+b.length<=j->u.2.getD j 0=0) (fun u=>a.length-u.1) (0,List.replicate (a.length+b.length) 0) ?_ ?_ ?_
 ·refine qLn0r ?_
  exact LLe.lv (lv_rep _)
 ·refine⟨znc _,by simp,⟨by simp,?_,?_⟩,fun j hj=> ?_⟩
  ·exact limbs_snoc (limbs_replicate _) om
  ·rw[val_app0];simp[val,val_replicate]
  ·simp only[List.getD_eq_getElem?_getD,List.getElem?_replicate];split<;>rfl
 ·rintro⟨i,z⟩ ⟨hi,hzl,hI,hz0⟩ K hK
  simp only at hi hzl hI hz0⊢
  by_cases hA:i<a.length
  ·have q1:=decide_eq_true (p:=(i:Int)<(a.length:Int)) om
   have ga:=lv_get hA
   have la:=limbs_getD ha i
   obtain⟨s,hs⟩: ∃s,s=a.getD i 0:=⟨_,rfl⟩
   rw[<-hs]at ga la
   refine qYf (Q4 @q1 @ga @lv_len @gD) ?_
   refine SC.loop (fun u:Nat×Nat×List Nat=>⟨[(0,.im (lv a) a.length),(1,.im (lv b) b.length),(5,.sl 0 0 (a.length+b.length) 1 none),(6,.sc (.int .i64 i)),(7,.sc (.int .u32 s)),(8,.sc (.int .u64 u.2.1)),(17,.im (lv a) a.length),(18,.sc (.int .i64 a.length)),(19,.sc (.int .i64 i)),(24,.im (lv b) b.length),(25,.sc (.int .i64 b.length)),(26,.sc (.int .i64 u.1))],[(0,⟨117,lv u.2.2,false⟩)],1,66⟩)
    (fun u=>u.1<=b.length/\u.2.1<4294967296/\u.2.2.length=a.length+b.length/\mulInv a b i u.1 u.2.1 (u.2.2++ [0])/\ ∀j,i+b.length<=j->u.2.2.getD j 0=0) (fun u=>b.length-u.1) (0,0,z) ?_ ?_ ?_
   ·refine qLn0r ?_
    exact LLe.lv rfl
   ·exact⟨znc _,by simp only;omega,hzl,hI,hz0⟩
   ·rintro⟨k,c,z⟩ ⟨hk,hc,hzl,hI,hz0⟩ K' hK'
    simp only at hk hc hzl hI hz0⊢
    have lb:=limbs_getD hb k
    have hz:limbs z:=fun n hn=>hI.2.1 n (List.mem_append.2 (.inl hn))
    have lz:=limbs_getD hz (i+k)
    by_cases hB':k<b.length
    ·have q2:=decide_eq_true (p:=(k:Int)<(b.length:Int)) om
     have hidx:((i:Int)+(k:Int)).toNat=i+k:=by omega
     have hzi:i+k<z.length:=by omega
     have gz:=lv_get hzi
     have gb:=lv_get hB'
     have hst:=hI.step (by simp;omega) s (b.getD k 0) (z.getD (i+k) 0) hs.symm rfl (getD_app0 z _)
     rw[set_app0 hzi]at hst
     generalize b.getD k 0=t at*
     generalize z.getD (i+k) 0=r at*
     have hp:s*t<=4294967295*4294967295:=Nat.mul_le_mul om om
     have hm:(s:Int)*(t:Int)=((s*t:Nat):Int):=by simp
     generalize s*t=pr at*
     refine qYf (Q9 @q1 @q2 @hidx @gz @gb @hm @fd32 @lv_len @gD) ?_
     refine hK' _ (k+1,(c+r+pr)/4294967296,z.set (i+k) ((c+r+pr) % 4294967296)) ?_ ⟨by simp only;omega,by simp only;omega,by simp[hzl],hst,fun j hj=> ?_⟩ (by simp only;omega)
     ·refine qLn0r ?_
      exact LLe.lv (lv_set om)
     ·simp only
      rw[getD_set_ne om];exact hz0 j hj
    ·have hkb:k=b.length:=by omega
     subst hkb
     have q2:=decide_eq_false (p:=((b.length:Nat):Int)<(b.length:Int)) om
     have hidx:((i:Int)+(b.length:Int)).toNat=i+b.length:=by omega
     have hzi:i+b.length<z.length:=by omega
     have hst:=hI.step (by simp;omega) s 0 0 hs.symm (getD_ge om) (by rw[getD_app0];exact hz0 _ (znb _))
     rw[set_app0 hzi]at hst
     have e1:(c+0+s*0)/4294967296=0:=by simp;omega
     have e2:(c+0+s*0) % 4294967296=c:=by simp;omega
     rw[e1,e2]at hst
     have hrow:=hst.row om
     refine qYf (Q4 @q1 @q2 @hidx @lv_len) ?_
     refine hK _ (i+1,z.set (i+b.length) c) ?_ ⟨by simp only;omega,by simp[hzl],hrow,fun j hj=> ?_⟩ (by simp only;omega)
     ·refine qLn0r ?_
      exact LLe.lv (lv_set om)
     ·simp only at hj⊢
      rw[getD_set_ne om];exact hz0 j om
  ·have q1:=decide_eq_false (p:=(i:Int)<(a.length:Int)) om
   have hd:=hI.done om
   rw[val_app0]at hd
   have hz:limbs z:=fun n hn=>hI.2.1 n (List.mem_append.2 (.inl hn))
   have he:=dg_eq hz
   rw[hd,hzl]at he
   have ht:z.take (a.length+b.length)=z:=by rw[<-hzl];exact List.take_length
   refine qYf @q1 ?_
   refine retQ_ret Tryz.results128 qT (qTf (Q4 @lv_len @lv_take @lv_clo @ht)) ?_
   rw[he,hzl]
theorem pmul_i(x y:Int)(K:Nat)(hx:Fits K x)(hy:Fits K y)(hK:K<=400000000000):Spec Tryz.prog 107 [iv x,iv y] (iv (x*y)):=by
 have lx:=fits_len hx
 have ly:=fits_len hy
 have t1:=trim_n x.natAbs om
 have t2:=trim_n y.natAbs om
 have c1:=ptimes_i (limbsOf x.natAbs) (limbsOf y.natAbs) (limbsOf_limbs _) (limbsOf_limbs _) om om
 have g1:=val_lt (limbsOf_limbs x.natAbs)
 have g2:=val_lt (limbsOf_limbs y.natAbs)
 have hmul:=Nat.mul_lt_mul'' g1 g2
 rw[<-Nat.pow_add]at hmul
 rw[limbsOf_val,limbsOf_val]at c1 hmul
 have c2:=pvalue_dg ((limbsOf x.natAbs).length+(limbsOf y.natAbs).length) (x.natAbs*y.natAbs) (decide (x<0) !=decide (y<0)) (x*y) (sgn_mul x y) hmul om
 unfold iv sv at*
 refine qF Tryz.func107 Tryz.ntmps107 fun B hB=> ?_
 refine qW ?_
 exact qE Tryz.results107
end
section
theorem val_two(m:Nat):val [m % 4294967296,m/4294967296]=m:=by
 simp only[val];omega
theorem limbs_two(m:Nat)(hm:m<18446744073709551616):limbs [m % 4294967296,m/4294967296]:=by
 intro x hx;simp at hx;omega
theorem drop_cons{l:List Nat}{k:Nat}(h:k<l.length):l.drop k=l.getD k 0::l.drop (k+1):=by
 rw[List.drop_eq_getElem_cons h,List.getD_eq_getElem?_getD,zlb h];rfl
theorem drop_set_cons{l:List Nat}{k x:Nat}(h:k<l.length):(l.set k x).drop k=x::l.drop (k+1):=by
 rw[List.drop_eq_getElem_cons (by simpa using h)]
 simp[List.drop_set]
def shortInv(a:List Nat)(d k r:Nat)(z:List Nat):Prop:=z.length=a.length/\limbs z/\r<d/\val (a.drop k)=val (z.drop k)*d+r
theorem shortInv.step{a z:List Nat}{d k r x:Nat}(h:shortInv a d (k+1) r z)(hk:k<a.length)(hx:a.getD k 0=x)(hx2:x<4294967296):shortInv a d k ((r*4294967296+x) % d) (z.set k ((r*4294967296+x)/d))/\(r*4294967296+x)/d<4294967296:=by
 obtain⟨h1,h2,h3,h4⟩:=h
 have hq:(r*4294967296+x)/d<4294967296:=by
  rw[Nat.div_lt_iff_lt_mul om]
  have:(r+1)*4294967296<=d*4294967296:=Nat.mul_le_mul_right _ h3
  rw[Nat.mul_comm 4294967296 d];omega
 refine⟨⟨by simp[h1],limbs_set h2 _ hq,Nat.mod_lt _ om,?_⟩,hq⟩
 rw[drop_cons hk,drop_set_cons om,hx]
 simp only[val]
 rw[h4]
 have hd:=Nat.div_add_mod (r*4294967296+x) d
 generalize(r*4294967296+x)/d=q at*
 generalize(r*4294967296+x) % d=m at*
 grind
theorem shortInv.done{a z:List Nat}{d r:Nat}(h:shortInv a d 0 r z):val z=val a/d/\r=val a % d:=by
 obtain⟨h1,h2,h3,h4⟩:=h
 simp only[zl2]at h4
 rw[h4,Nat.mul_comm]
 exact⟨by rw[Nat.mul_add_div om,Nat.div_eq_of_lt h3];rfl,by rw[Nat.mul_add_mod,Nat.mod_eq_of_lt h3]⟩
theorem est_zero{r d:List Nat}{n:Nat}(hd:limbs d)(hl:r.length=d.length)(hn:d.length=n+1)(hle:val d<=val r)(x y:Nat)(hx:r.getD n 0=x)(hy:d.getD n 0=y):
  0<max 1 (x/(y+1))/\max 1 (x/(y+1))*val d<=val r:=by
 refine⟨by omega,?_⟩
 rcases Nat.lt_or_ge (x/(y+1)) 1 with h|h
 ·rw[Nat.max_eq_left om];omega
 ·rw[Nat.max_eq_right h]
  have e1:=val_split r n om
  have e2:=val_split d n om
  rw[drop_cons (show n<r.length by omega),hx]at e1
  rw[drop_cons (show n<d.length by omega),hy]at e2
  rw[List.drop_of_length_le om]at e1 e2
  have h3:=val_lt (limbs_take hd n)
  rw[List.length_take,Nat.min_eq_left om]at h3
  simp only[val,Nat.mul_zero,Nat.add_zero]at e1 e2
  rw[e1,e2]
  have h4:=Nat.div_mul_le_self x (y+1)
  generalize x/(y+1)=q at*
  generalize 4294967296^n=p at*
  have h5:q*(val (d.take n)+p*y)<=q*(p*(y+1)):=Nat.mul_le_mul_left _ (by rw[Nat.mul_add];omega)
  have h6:p*(q*(y+1))<=p*x:=Nat.mul_le_mul_left _ h4
  have h7:q*(p*(y+1))=p*(q*(y+1)):=by grind
  omega
theorem est_more{r d:List Nat}{n k:Nat}(hd:limbs d)(hn:d.length=n+2)(hk:r.length=n+2+k+1)(x z y:Nat)(hx:r.getD (n+k+2) 0=x)(hz:r.getD (n+k+1) 0=z)(hy:d.getD (n+1) 0=y)(hx0:x≠0)(hyb:y<4294967296):
  0<(x*4294967296+z)/(y+1)/\(x*4294967296+z)/(y+1)*4294967296^k*val d<=val r:=by
 have hq:0<(x*4294967296+z)/(y+1):=Nat.div_pos om om
 refine⟨hq,?_⟩
 have e1:=val_split r (n+k+1) om
 have e2:=val_split d (n+1) om
 rw[drop_cons (show n+k+1<r.length by omega),hz,drop_cons (show n+k+1+1<r.length by omega),hx]at e1
 rw[drop_cons (show n+1<d.length by omega),hy]at e2
 rw[List.drop_of_length_le om]at e1 e2
 have h3:=val_lt (limbs_take hd (n+1))
 rw[List.length_take,Nat.min_eq_left om]at h3
 simp only[val,Nat.mul_zero,Nat.add_zero]at e1 e2
 rw[e1,e2]
 have h4:=Nat.div_mul_le_self (x*4294967296+z) (y+1)
 generalize(x*4294967296+z)/(y+1)=q at*
 rw[show n+k+1=k+(n+1) by omega,Nat.pow_add 4294967296 k (n+1)]
 generalize 4294967296^(n+1)=p at*
 generalize 4294967296^k=s at*
 have h5:q*s*(val (d.take (n+1))+p*y)<=q*s*(p*(y+1)):=Nat.mul_le_mul_left _ (by rw[Nat.mul_add];omega)
 have h6:s*p*(q*(y+1))<=s*p*(x*4294967296+z):=Nat.mul_le_mul_left _ h4
 have h7:q*s*(p*(y+1))=s*p*(q*(y+1)):=by grind
 have h8:s*p*(z+4294967296*x)=s*p*(x*4294967296+z):=by grind
 omega
theorem val_one(x:Nat):val [x]=x:=by simp[val]
theorem limbs_one{x:Nat}(h:x<4294967296):limbs [x]:=by intro y hy;simp at hy;omega
def divInv(A D R q:Nat):Prop:=A=R+q*D
theorem divInv.step{A D R q e:Nat}(h:divInv A D R q)(he:e*D<=R):divInv A D (R-e*D) (q+e):=by
 unfold divInv at*;rw[Nat.add_mul];omega
theorem divInv.done{a b s R q:Nat}(h:divInv (a*s) (b*s) R q)(hs:0<s)(hb:0<b)(hR:R<b*s):q=a/b/\R/s=a % b:=by
 unfold divInv at h
 have h1:a*s/(b*s)=q:=by
  rw[h,Nat.add_mul_div_right _ _ (Nat.mul_pos hb hs),Nat.div_eq_of_lt hR,zn9]
 have h2:a*s % (b*s)=R:=by
  rw[h,Nat.add_mul_mod_self_right,Nat.mod_eq_of_lt hR]
 rw[Nat.mul_div_mul_right _ _ hs]at h1
 rw[Nat.mul_mod_mul_right]at h2
 refine⟨h1.symm,?_⟩
 rw[<-h2,Nat.mul_div_cancel _ hs]
theorem divInv.le{A D R q:Nat}(h:divInv A D R q)(hD:0<D):R<=A/\q<=A:=by
 unfold divInv at h
 have:q*1<=q*D:=Nat.mul_le_mul_left _ hD
 omega
theorem divmod_spec(na nb:Bool)(A B:Nat)(hB:0<B):
  (if na≠nb then-((if na=true/\0<A % B then((A/B:Nat):Int)+1 else((A/B:Nat):Int)))else(if na=true/\0<A % B then((A/B:Nat):Int)+1 else((A/B:Nat):Int)))=sgn na A/sgn nb B/\
  (if na=true/\0<A % B then(B:Int)-((A % B:Nat):Int)else((A % B:Nat):Int))=sgn na A % sgn nb B:=by
 have hd:=Nat.div_add_mod A B
 have hm:=Nat.mod_lt A hB
 have hB':(0:Int)<B:=by omega
 have hd':(B:Int)*((A/B:Nat):Int)+((A % B:Nat):Int)=A:=by
  have:=congrArg (fun n:Nat=>(n:Int)) hd
  simpa using this
 generalize hq:A/B=q at*
 generalize hr:A % B=r at*
 have key: ∀(x Q R:Int),R+(B:Int)*Q=x->0<=R->R<B->x/(B:Int)=Q/\x % (B:Int)=R:=fun x Q R h1 h2 h3=>(Int.ediv_emod_unique hB').2 ⟨h1,h2,h3⟩
 cases na
 ·have h:=key (A:Int) q r om om om
  cases nb
  ·simp[sgn,h.1,h.2]
  ·simp[sgn,h.1,h.2,Int.ediv_neg,Int.emod_neg]
 ·by_cases h0:0<r
  ·have h:=key (-(A:Int)) (-((q:Int)+1)) ((B:Int)-r) (by rw[<-hd',Int.mul_neg,Int.mul_add];omega) om om
   cases nb
   ·simp[sgn,h.1,h.2,h0]
   ·simp[sgn,h.1,h.2,h0,Int.ediv_neg,Int.emod_neg]
  ·have hr0:r=0:=by omega
   subst hr0
   have h:=key (-(A:Int)) (-(q:Int)) 0 (by rw[<-hd',Int.mul_neg];omega) om om
   cases nb
   ·simp[sgn,h.1,h.2]
   ·simp[sgn,h.1,h.2,Int.ediv_neg,Int.emod_neg]
end
end Go.Proofs.YtannldafjkjjbaaGreat
