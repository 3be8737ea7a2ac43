/- Texts joined: Sg Sh Si. -/
import Derived.Lib.AppendZeros
import Derived.MapKept
import Derived.Deep.LoopGhost
import Derived.Test.YtannldafjkjjbaaGreatVa
set_option linter.all false
set_option maxHeartbeats 16000000
open Nat renaming reduceEqDiff → zn1, reduceLT → zn2, reduceLeDiff → zn3, reduceAdd → zn4, reduceMul → zn5, reduceSub → zn6, reduceBEq → zn7, mul_one → zn8, zero_add → zn9, one_mul → zna, le_refl → znb, zero_le → znc, add_sub_cancel_left → znd, sub_eq_zero_of_le → zne, add_assoc → znf
open Int renaming reduceToNat → zi1, reducePow → zi2
open List renaming length_append → zl1, drop_zero → zl2, take_succ_cons → zl3, take_zero → zl4, getElem?_drop → zl5, append_assoc → zl6, nil_append → zl7, cons_append → zl8, drop_succ_cons → zl9, take_of_length_le → zla, getElem?_eq_getElem → zlb, getElem?_eq_some_iff → zlc, map_cons → zld, map_nil → zle, all_eq_true → zlf
namespace Go.Proofs.YtannldafjkjjbaaGreat
section
open Go.RowKit
def exMin:V->V->Option V
 | .sc (.int k x),.sc (.int _ y)=>some (.sc (.int k (if y<x then y else x)))
 |_,_=>none
def exMax:V->V->Option V
 | .sc (.int k x),.sc (.int _ y)=>some (.sc (.int k (if y>x then y else x)))
 |_,_=>none
def exCap(P:Program)(t:TypeId):V->Option V
 | .sl _ _ _ _ (some c)=>(slOf P t).map λ_=> .sc (.int .i64 c)
 | .sc (.slice none 0 0)=>(slOf P t).map λ_=> .sc (.int .i64 0)
 |_=>none
def isIntT(P:Program)(t:TypeId):Bool:=match P.underlying t with|some (.int _)=>true|_=>false
def exAppendZ(P:Program)(nx:Nat)(t t':TypeId)(s x:V):Option (V×Eff):=
 match s,x with
 | .sc (.slice none 0 0),.sc (.int _ n)=>(mkOf P t).bind λ(e,b,zc)=>
  if isIntT P t'=true/\0<n/\n<1125899906842624/\b*n<=140737488355328 then some (.sl nx 0 n.toNat zc.length none,.new ⟨e,reps n.toNat (zc.map .sc),false⟩)else none
 |_,_=>none
theorem exAppendZ_new{P:Program}{nx:Nat}{t t':TypeId}{s x y:V}{f:Eff}(h:exAppendZ P nx t t' s x=some (y,f)): ∃b,f= .new b:=by
 unfold exAppendZ at h;split at h
 ·cases hk:mkOf P t with
  |none=>simp[hk]at h
  |some p=>
   simp only[hk,Option.bind_some]at h;split at h;·cases h;exact⟨_,rfl⟩
   ·cases h
 ·cases h
def exCopy(P:Program)(hp:List (Nat×Blk))(t:TypeId)(d x:V):Option (V×Eff):=
 match d with
 | .sl id off dlen z _=>(slOf P t).bind λ(_,z')=>(srcV hp x).bind λ(ys,m)=>(hget hp id).bind λk=>
  if z'=1/\z=1/\ys.length=m/\k.fz=false/\off+dlen<=k.cs.length/\ys.all V.one=true then some (.sc (.int .i64 (min m dlen:Nat)),.set id ⟨k.ty,setAll k.cs off (ys.take (min m dlen)),false⟩)else none
 |_=>none
def bytesT(s:ByteArray):List Value:=s.data.toList.map λb=> .int .u8 b.toNat
def exCopyS(P:Program)(hp:List (Nat×Blk))(t:TypeId)(d:V)(s:ByteArray):Option (V×Eff):=
 match d with
 | .sl id off dlen z _=>(slOf P t).bind λ(_,z')=>(hget hp id).bind λk=>
  if z'=1/\z=1/\k.fz=false/\0<s.size/\s.size<=dlen/\off+dlen<=k.cs.length then some (.sc (.int .i64 s.size),.set id ⟨k.ty,setAll k.cs off ((bytesT s).map .sc),false⟩)else none
 |_=>none
def exCopyA(P:Program)(hp:List (Nat×Blk))(t:TypeId)(d x:V):Option (V×Eff):=
 match x with
 | .sc (.string s)=>exCopyS P hp t d s
 |_=>exCopy P hp t d x
def exClear(P:Program)(hp:List (Nat×Blk))(t:TypeId):V->Option (V×Eff)
 | .sl id off dlen 1 _=>(mkOf P t).bind λ(_,_,zc)=>(hget hp id).bind λk=>
  if zc.length=1/\k.fz=false/\off+dlen<=k.cs.length/\(zc.map V.sc).all V.one=true then some (.tu [],.set id ⟨k.ty,setAll k.cs off (List.replicate dlen (.sc (zc.headD undef))),false⟩)else none
 | .im _ 0=>if hasT P t=true then some (.tu [],.none)else none
 | .sc (.slice none 0 0)=>if hasT P t=true then some (.tu [],.none)else none
 |_=>none
def exBuiltin(P:Program)(hp:List (Nat×Blk))(nx:Nat)(b:Builtin)(ts:List TypeId)(xs:List V):Option (V×Eff):=
 match b,ts,xs with
 | .len,[t],[x]=>(exLen P t x).map (·,.none)
 | .append,[t,t'],[s,x]=>if t=t' then exAppend P hp nx t s x else exAppendZ P nx t t' s x
 | .cap,[t],[x]=>(exCap P t x).map (·,.none)
 | .copy,[t,_],[d,x]=>exCopyA P hp t d x
 | .clear,[t],[x]=>exClear P hp t x
 | .min,_,[x,y]=>(exMin x y).map (·,.none)
 | .max,_,[x,y]=>(exMax x y).map (·,.none)
 |_,_,_=>none
def exNil:V->Option V
 | .pt id off=>some (.pt id off)
 | .pi cs=>some (.pi cs)
 | .fn (.func f) p q=>some (.fn (.func f) p q)
 |_=>none
def exPick(c a b:V):Option V:=
 match c with
 | .sc (.bool t)=>some (if t then a else b)
 |_=>none
def mpOf(P:Program)(t:TypeId):Option (TypeId×TypeId):=
 match P.underlying t with
 |some (.map k e)=>if intOf' P k=some .i64 then some (k,e)else none
 |_=>none
def kix:List Int->Int->Option Nat
 |[],_=>none
 |k::r,n=>if n=k then some 0 else(kix r n).map (· +1)
def mget(ks:List Int)(vs:List V)(n:Int):Option V:=(kix ks n).bind λi=>vs[i]?
def lkV(ok:Bool)(z:Value):Option V->V
 |some x=>if ok then .tu [x,.sc (.bool true)]else x
 |none=>if ok then .tu [ofV z,.sc (.bool false)]else ofV z
def exLookup(P:Program)(t:TypeId)(ok:Bool)(x k:V):Option V:=
 match x,k with
 | .mp _ _ ks vs,.sc (.int .i64 n)=>(mpOf P t).bind λp=>(zeroOf P p.2).map λz=>lkV ok z (mget ks vs n)
 |_,_=>none
def exOp(P:Program)(sl:List (Nat×V))(hp:List (Nat×Blk))(nx:Nat)(op:Op):Option (V×Eff):=
 match op with
 | .move x| .assign x=>some (evS sl x,.none)
 | .pick c a b=>(exPick (evS sl c) (evS sl a) (evS sl b)).map (·,.none)
 | .alloc t=>(exAlloc P t).map (.pt nx 0,.new ·)
 | .box t x=>(exBox t (evS sl x)).map (.pt nx 0,.new ·)
 | .build t parts=>(exBuild P t (parts.toList.map λp=>(p.1,evS sl p.2))).map (·,.none)
 | .buildSlice t len parts=>exBuildSlice P t nx len (parts.toList.map λp=>(p.1,evS sl p.2))
 | .load t a=>(exLoad P hp t (evS sl a)).map (·,.none)
 | .store t a x=>(exStore P hp t (evS sl a) (evS sl x)).map (.junk,·)
 | .nilCheck x=>(exNil (evS sl x)).map (·,.none)
 | .binOp o t x y _=>(exBin P o t (evS sl x) (evS sl y)).map (·,.none)
 | .unOp o _ x=>(exUn o (evS sl x)).map (·,.none)
 | .convert s d x=>(exConvH P hp s d (evS sl x)).map (·,.none)
 | .makeFunc f p q=>some (.fn f (p.toList.map (evS sl)) (q.toList.map (evS sl)),.none)
 | .makeSlice t l c=>exMake P t nx (evS sl l) (evS sl c)
 | .slice t x lo hi mx=>(exSlice P hp t (evS sl x) (lo.map (evS sl)) (hi.map (evS sl)) (mx.map (evS sl))).map (·,.none)
 | .fieldAddr t x f=>(exFieldAddr P t f (evS sl x)).map (·,.none)
 | .field t x f=>(exField P t f (evS sl x)).map (·,.none)
 | .indexAddr t x i=>(exIndexAddr P t (evS sl x) (evS sl i)).map (·,.none)
 | .index t x i=>(exIndex P t (evS sl x) (evS sl i)).map (·,.none)
 | .extract t i=>(exExtract i (evS sl t)).map (·,.none)
 | .lookup t x k ok=>(exLookup P t ok (evS sl x) (evS sl k)).map (·,.none)
 | .call ⟨.builtin b,args,ts⟩=>exBuiltin P hp nx b ts.toList (args.toList.map (evS sl))
 |_=>none
section
variable {P:Program} {w:World} {B:Base} {S:Nat->Prop} {rho:Nat->Nat} {A:Nat->Prop} {hp:List (Nat×Blk)} {nx:Nat}
def OutN(B:Base)(S:Nat->Prop)(rho:Nat->Nat)(A:Nat->Prop)(hp:List (Nat×Blk))(nx:Nat)(w:World)(r:Result Next)(x:V)(e:Eff):Prop:=
 ∃v w' rho' A',(r= .ok (.value v) w'\/(r= .ok .skip w'/\v=undef))/\Mem B S rho' A' (e.heap nx hp) w'/\(∀id,A id->A' id/\rho' id=rho id/\ ∀n,szAt w (rho id) n->szAt w' (rho id) n)/\(∀id,A' id->A id\/id=nx/\ ∃k,e= .new k\/ ∃i,e= .app i k)/\
  (∀b,S b->w'.heap[b]? =w.heap[b]?)/\R S rho' w' A' x v
theorem Out.toN{s:Sem Value}{x:V}{e:Eff}(h:Out B S rho A hp nx w (s.run P w) x e):OutN B S rho A hp nx w ((do pure (.value (<-s)):Sem Next).run P w) x e:=by obtain⟨v,w',rho',A',h1,h2⟩:=h;exact⟨v,w',rho',A',.inl (by simp[h1]),h2⟩
theorem Out.skip{s:Sem Unit}{x:V}{e:Eff}(h:Out B S rho A hp nx w ((do s;pure undef:Sem Value).run P w) x e):OutN B S rho A hp nx w ((do s;pure .skip:Sem Next).run P w) x e:=by
 obtain⟨v,w',rho',A',h1,h2⟩:=h;refine⟨v,w',rho',A',.inr ?_,h2⟩;rw[Sem.run_bind]at h1⊢;cases hs:s.run P w with
 |ok u w2=>rw[hs]at h1;simp at h1;simp[h1]
 |halt g w2=>rw[hs]at h1;simp at h1
theorem OutN.val(hm:Mem B S rho A hp w){r:Result Next}{v:Value}{x:V}(hr:r= .ok (.value v) w)(hx:R S rho w A x v):OutN B S rho A hp nx w r x .none:=
 ⟨v,w,rho,A,.inl hr,hm,λ_ h=>⟨h,rfl,λ_ h=>h⟩,λ_ h=> .inl h,λ_ _=>rfl,hx⟩
theorem OutN.of(hm:Mem B S rho A hp w){s:Sem Value}{x:V}(h: ∃v,s.run P w= .ok v w/\R S rho w A x v):OutN B S rho A hp nx w ((do pure (.value (<-s)):Sem Next).run P w) x .none:=by obtain⟨v,h1,h2⟩:=h;exact(Out.val hm h1 h2).toN
theorem Option.map_eq{α β:Type}{o:Option α}{f:α->β}{y:β}(h:o.map f=some y): ∃x,o=some x/\f x=y:=by
 cases o with
 |none=>cases h
 |some x=>exact⟨x,rfl,by simpa using h⟩
theorem mpOf_und{P:Program}{t k e:TypeId}(h:mpOf P t=some (k,e)):P.underlying t=some (.map k e)/\P.underlying k=some (.int .i64):=by
 unfold mpOf at h;split at h
 ·rename_i k' e' he;split at h
  ·rename_i hk;simp only[Option.some.injEq,Prod.mk.injEq]at h;obtain⟨rfl,rfl⟩:=h;exact⟨he,intOf_und hk⟩
  ·cases h
 ·cases h
theorem kix_some: ∀{ks:List Int} {n:Int} {i:Nat},kix ks n=some i->ks[i]? =some n
 |[],_,_,h=>by cases h
 | k::r,n,i,h=>by
  unfold kix at h;split at h;·rename_i e;cases h;simp[e]
  ·obtain⟨j,hj,rfl⟩:=Option.map_eq h;simpa using kix_some hj
theorem findNow_kix(n:Int): ∀(l:List MapEntry) (ks:List Int) (i:Nat),l.map (·.key)=ks.map (Value.int .i64 ·)->
  Instr.findNow (.int .i64) (.int .i64 n) l i=some ((kix ks n).bind λj=>(l[j]?).map λe=>(i+j,e.val))
 |[],[],_,_=>rfl
 |[],_::_,_,h=>by simp at h
 |_::_,[],_,h=>by simp at h
 | e::l,k::ks,i,h=>by
  simp only[zld,List.cons.injEq]at h;unfold Instr.findNow;rw[h.1];by_cases hk:n=k
  ·subst hk;simp[Instr.sameNow,kix]
  ·have hb:(n==k)=false:=by simpa using hk
   simp only[Instr.sameNow,if_true,hb];rw[findNow_kix n l ks (i+1) h.2];simp only[kix,if_neg hk];cases kix ks n with
   |none=>rfl
   |some j=>
    simp only[Option.bind_some,Option.map_some,List.getElem?_cons_succ];cases l[j]?with
    |none=>rfl
    |some e=>simp;omega
theorem lookup_sound{P:Program}{w:World}{S:Nat->Prop}{rho:Nat->Nat}{A:Nat->Prop}{t:TypeId}{ok:Bool}{x k y:V}{vx vk:Value}(h:exLookup P t ok x k=some y)(hx:R S rho w A x vx)(hk:R S rho w A k vk):
  ∃v,(Instr.lookup t vx vk ok).run P w= .ok v w/\R S rho w A y v:=by
 unfold exLookup at h;split at h
 ·rename_i id b ks vs n;cases ht:mpOf P t with
  |none=>rw[ht]at h;cases h
  | some p=>
   obtain⟨kt,et⟩:=p;rw[ht,Option.bind_some]at h;obtain⟨z,hz,rfl⟩:=Option.map_eq h;obtain⟨hu,hkt⟩:=mpOf_und ht;cases hk;cases hx with| @mp A id b c ks vs es h1 h2 h3 h4 h5 h6=>
   have h7:=szAt.map h3;rw[h2]at h7;have hkey:MapKept.IsKey (.int .i64) (.int .i64 n):=rfl;have hf:=findNow_kix n es.toList ks 0 h4;cases hi:kix ks n with
   | none=>
    rw[hi]at hf;refine⟨if ok then .tuple #[z,.bool false]else z,?_,?_⟩;·cases ok<;>simp[Instr.lookup,run_underlying hu,MapKept.run_getObj_map h7,MapKept.run_checkKey hkt hkey,MapKept.run_findKey hkt hf,run_zeroValue hz,Result.andThen]
    ·unfold mget;rw[hi];cases ok;·exact R.ofV z
     ·refine .tu rfl λi x u hx hu=> ?_
      match i with
      |0=>simp at hx hu;subst hx;subst hu;exact R.ofV z
      |1=>simp at hx hu;subst hx;subst hu;exact .sc _
      |i+2=>simp at hx
   | some i=>
    rw[hi]at hf;have hlt:i<es.size:=by have:=(List.getElem?_eq_some_iff.1 (kix_some hi)).1;have hl:=congrArg List.length h4;simp at hl;omega
    have he:es.toList[i]? =some es[i]:=by simp[hlt]
    have hv:vs[i]? =some (vs[i]'om):=zlb om;have hR:=(h6 i _ es[i] hv (by simp[hlt])).open (A:=A);simp only[Option.bind_some,he,Option.map_some]at hf;refine⟨if ok then .tuple #[es[i].val,.bool true]else es[i].val,?_,?_⟩;·cases ok<;>simp[Instr.lookup,run_underlying hu,MapKept.run_getObj_map h7,MapKept.run_checkKey hkt hkey,MapKept.run_findKey hkt hf,Result.andThen]
    ·unfold mget;rw[hi,Option.bind_some,hv];cases ok;·exact hR
     ·refine .tu rfl λi x u hx hu=> ?_
      match i with
      |0=>simp at hx hu;subst hx;subst hu;exact hR
      |1=>simp at hx hu;subst hx;subst hu;exact .sc _
      |i+2=>simp at hx
 ·cases h
theorem hset_self{l:List (Nat×Blk)}{id:Nat}{k:Blk}(h:hget l id=some k)(i:Nat)(q:Blk)(hq:hget (hset l id k) i=some q):hget l i=some q:=by
 rw[hget_hset]at hq;split at hq;·rename_i e;subst e;rw[h]at hq⊢;simpa using hq
 ·exact hq
theorem copy_sound(hm:Mem B S rho A hp w){t t' ty:TypeId}{d x y:V}{vd vx:Value}{f:Eff}(h:exCopy P hp t d x=some (y,f))(hd:R S rho w A d vd)(hx:R S rho w A x vx):
  Out B S rho A hp nx w ((Builtin.copy_ #[t,t'] ty #[vd,vx]).run P w) y f:=by
 unfold exCopy at h;split at h
 ·rename_i id off dlen z cap;cases hs:slOf P t with
  |none=>simp[hs]at h
  | some p=>
   obtain⟨e,z'⟩:=p;cases hsrc:srcV hp x with
   |none=>simp[hs,hsrc]at h
   | some q=>
    obtain⟨ys,m⟩:=q;cases hk:hget hp id with
    |none=>simp[hs,hsrc,hk]at h
    | some k=>
     simp only[hs,hsrc,hk,Option.bind_some]at h;split at h
     ·rename_i hc;obtain⟨rfl,rfl,hyl,hfz,hle,hone⟩:=hc;simp only[Option.some.injEq,Prod.mk.injEq]at h;obtain⟨rfl,rfl⟩:=h;obtain⟨hu,hz⟩:=slOf_und hs;obtain⟨a,c',us,rfl,hAll,hcell,hmc,hcm,hn0⟩:=src_sound hm hsrc hx;have hul:us.length=m:=by rw[<-hAll.1,hyl]
      have same: ∀(r:Result Value),min m dlen=0->r= .ok (.int .i64 0) w->Out B S rho A hp nx w r (.sc (.int .i64 (min m dlen:Nat))) (.set id ⟨k.ty,setAll k.cs off (ys.take (min m dlen)),false⟩):=by
       intro r h0 hr;rw[h0];simp only[zl4,setAll];have hk':(⟨k.ty,k.cs,false⟩:Blk)=k:=by rw[<-hfz]
       rw[hk'];exact⟨_,w,rho,A,hr,hm.less (hset_self hk),λ_ h=>⟨h,rfl,λ_ h=>h⟩,λ_ h=> .inl h,λ_ _=>rfl,.sc _⟩
      have zero: ∀(dst:Option Addr) (dc:Nat),min m dlen=0->(Builtin.copy_ #[t,t'] ty #[.slice dst dlen dc,.slice a m c']).run P w= .ok (.int .i64 0) w:=by
       intro dst dc h0;have hf:(Builtin.firstCells 1 0 (.slice a m c')).run P w= .ok #[] w:=by
        cases a with
        |none=>exact run_firstCells_none (P:=P) w 1 0 m c'
        |some ad=>exact run_firstCells_some (P:=P) w 1 0 ad m c' [] (by simp) (by simp)
       have h0':m.min dlen=0:=h0;cases dst<;>simp[Builtin.copy_,run_underlying hu,Builtin.lenOf,Sem.run_bind,run_sizeOf hz,h0',hf,storeCells,goInt]
      cases hd with
      |sln hcap=>exact same _ (by simp) (zero none 0 (by simp))
      | sl hid hl hmx hcap hz0=>
       rename_i c;by_cases h0:min m dlen=0;·exact same _ h0 (zero _ _ h0)
       ·have hyne:ys≠ []:=by intro e';rw[e']at hyl;simp at hyl;omega
        obtain⟨ad,rfl,hcd⟩:=hcell hyne;obtain⟨cells,c1,c2,c3⟩:=(hm.cells id k hk hid).all;have h1v: ∀v∈us.take (min m dlen),v.oneCell'=true:=by
         intro v hv;obtain⟨j,hj⟩:=List.mem_iff_getElem?.1 (List.mem_of_mem_take hv);have hlt:j<ys.length:=by rw[hAll.1];exact(List.getElem?_eq_some_iff.1 hj).1
         exact one_sound (List.all_eq_true.1 hone _ (List.getElem_mem hlt)) (hAll.2 j _ v (zlb hlt) hj)
        have hlen:(us.take (min m dlen)).length=min m dlen:=by simp;omega
        have hr:=run_copy_row (P:=P) w t t' ty e (rho id) off dlen c ad m c' cells k.ty (us.take (min m dlen)) hu hz c1 (by rw[hlen]) (λj v hj=>by
         rw[List.getElem?_take]at hj;split at hj;·exact hcd j v hj
         ·cases hj) (by rw[hlen];omega) h1v
        rw[hlen]at hr;have hset:=c3.setAll (hAll.take (min m dlen)) (off:=off) (by rw[hlen];simp;omega);rw[hlen]at hset;obtain⟨m1,m2,m3⟩:=hm.setRow hk hid hfz c1 (cs':=setAll k.cs off (ys.take (min m dlen))) (arr':=cells.toList.take off++us.take (min m dlen)++cells.toList.drop (off+min m dlen)) (by simp;omega) (λj y hj=>by
         have hlt:j<k.cs.length:=by rw[<-setAll_length (ys.take (min m dlen)) k.cs off];exact(List.getElem?_eq_some_iff.1 hj).1
         have hs2:j<((cells.toList.take k.cs.length).take off++us.take (min m dlen)++(cells.toList.take k.cs.length).drop (off+min m dlen)).length:=by rw[<-hset.1,setAll_length];exact hlt
         refine⟨_,?_,hset.2 j y _ hj (zlb hs2)⟩;rw[<-zlb hs2];simp only[List.getElem?_append,List.getElem?_take,zl5,zl1,List.length_take,List.take_take];simp only[Array.length_toList];have e2:min off cells.size=off:=by omega
         have e3:min off k.cs.length=off:=by omega
         have e4:min (min m dlen) us.length=min m dlen:=by omega
         simp only[e2,e3,e4];by_cases hi:j<off+min m dlen;·simp only[hi,if_true]
         ·simp only[hi,if_false];rw[if_pos om])
        exact⟨_,_,rho,A,hr,m1,m3,λ_ h=> .inl h,m2,.sc _⟩
     ·cases h
 ·cases h
theorem bytesT_len(s:ByteArray):(bytesT s).length=s.size:=by simp only[bytesT,List.length_map,Array.length_toList];rfl
theorem run_copyS(w:World)(dT sT ty elem:TypeId)(g o dLen dCap:Nat)(s:ByteArray)(cur:Array Value)(t:TypeId)(hu:P.underlying dT=some (.slice elem))(hz:szOf P elem=some 1)(hg:w.heap[g]? =some (.cells cur t (0,0)))(hle:s.size<=dLen)(hfit:o+s.size<=cur.size):
  (Builtin.copy_ #[dT,sT] ty #[.slice (some ⟨g,o,none⟩) dLen dCap,.string s]).run P w= .ok (goInt s.size) (w.setRow g (cur.toList.take o++bytesT s++cur.toList.drop (o+s.size)).toArray):=by
 have hst:=run_storeCells_at P g o t (bytesT s) 0 cur w hg (by rw[bytesT_len];simpa using hfit) (λv hv=>by obtain⟨b,_,rfl⟩:=List.mem_map.1 hv;rfl);rw[bytesT_len]at hst;simp only[Nat.add_zero]at hst;have hmin:Nat.min s.size dLen=s.size:=Nat.min_eq_left hle;have hcells:((s.extract 0 s.size).data.map λb:UInt8=>Value.int .u8 (b.toNat:Int)).toList=bytesT s:=by simp[bytesT]
 simp only[Builtin.copy_,List.getElem?_toArray,List.getElem?_cons_zero,List.getElem?_cons_succ,Sem.run_bind,run_underlying hu,Builtin.lenOf,Sem.run_pure,Result.andThen_ok,run_sizeOf hz,Builtin.firstCells,zn8,hmin,hcells,hst]
theorem copyS_sound(hm:Mem B S rho A hp w){t t' ty:TypeId}{d y:V}{vd:Value}{s:ByteArray}{f:Eff}(h:exCopyS P hp t d s=some (y,f))(hd:R S rho w A d vd):
  Out B S rho A hp nx w ((Builtin.copy_ #[t,t'] ty #[vd,.string s]).run P w) y f:=by
 unfold exCopyS at h;split at h
 ·rename_i id off dlen z cap;cases hs:slOf P t with
  |none=>simp[hs]at h
  | some p=>
   obtain⟨e,z'⟩:=p;cases hk:hget hp id with
   |none=>simp[hs,hk]at h
   | some k=>
    simp only[hs,hk,Option.bind_some]at h;split at h
    ·rename_i hc;obtain⟨rfl,rfl,hfz,hpos,hsd,hle⟩:=hc;simp only[Option.some.injEq,Prod.mk.injEq]at h;obtain⟨rfl,rfl⟩:=h;obtain⟨hu,hz⟩:=slOf_und hs;cases hd with
     |sln hcap=>omega
     | sl hid hl hmx hcap hz0=>
      rename_i c;obtain⟨cells,c1,c2,c3⟩:=(hm.cells id k hk hid).all;have hlen:=bytesT_len s;have hr:=run_copyS (P:=P) w t t' ty e (rho id) off dlen c s cells k.ty hu hz c1 hsd om;have hAll:All S rho A w ((bytesT s).map .sc) (bytesT s):=⟨by simp,λi x u hx hu=>by rw[List.getElem?_map,hu]at hx;cases hx;exact .sc _⟩
      have hset:=c3.setAll hAll (off:=off) (by rw[hlen];simp;omega);rw[hlen]at hset;obtain⟨m1,m2,m3⟩:=hm.setRow hk hid hfz c1 (cs':=setAll k.cs off ((bytesT s).map .sc)) (arr':=cells.toList.take off++bytesT s++cells.toList.drop (off+s.size)) (by simp[hlen];omega) (λj y hj=>by
       have hlt:j<k.cs.length:=by rw[<-setAll_length ((bytesT s).map .sc) k.cs off];exact(List.getElem?_eq_some_iff.1 hj).1
       have hs2:j<((cells.toList.take k.cs.length).take off++bytesT s++(cells.toList.take k.cs.length).drop (off+s.size)).length:=by rw[<-hset.1,setAll_length];exact hlt
       refine⟨_,?_,hset.2 j y _ hj (zlb hs2)⟩;rw[<-zlb hs2];simp only[List.getElem?_append,List.getElem?_take,zl5,zl1,List.length_take,hlen];simp only[Array.length_toList];have e2:min off cells.size=off:=by omega
       have e3:min off (min k.cs.length cells.size)=off:=by omega
       simp only[e2,e3];by_cases hi:j<off+s.size
       ·simp only[hi,if_true];by_cases hj2:j<off;·simp only[hj2,if_true];rw[if_pos hlt]
        ·simp only[hj2,if_false]
       ·simp only[hi,if_false];rw[if_pos om])
      exact⟨_,_,rho,A,hr,m1,m3,λ_ h=> .inl h,m2,.sc _⟩
    ·cases h
 ·cases h
theorem run_clear(w:World)(t ty elem ct:TypeId)(g o n c:Nat)(zv z0:Value)(cur:Array Value)(hu:P.underlying t=some (.slice elem))(hz:zeroOf P elem=some zv)(hzc:zv.cells= #[z0])(hn:0<n)(hg:w.heap[g]? =some (.cells cur ct (0,0)))(hfit:o+n<=cur.size)(h1:z0.oneCell'=true):
  (Builtin.clear_ #[t] ty #[.slice (some ⟨g,o,none⟩) n c]).run P w= .ok (.tuple #[]) (w.setRow g (cur.toList.take o++List.replicate n z0++cur.toList.drop (o+n)).toArray):=by
 obtain⟨m,rfl⟩: ∃m,n=m+1:=⟨n-1,by omega⟩
 have hst:=run_storeCells_at P g o ct (List.replicate (m+1) z0) 0 cur w hg (by simpa using hfit) (λv hv=>by rw[List.eq_of_mem_replicate hv];exact h1);simp only[Nat.add_zero,List.length_replicate]at hst;have hcells:(Builtin.zeroCells zv.cells (m+1)).toList=List.replicate (m+1) z0:=by rw[hzc];simp only[Builtin.zeroCells];refine List.ext_getElem (by simp) λi h2 h3=> ?_;simp[Nat.mod_one]
 simp only[Builtin.clear_,List.getElem?_toArray,List.getElem?_cons_zero,Sem.run_bind,run_underlying hu,Sem.run_pure,Result.andThen_ok,run_zeroValue hz,hcells,hst]
theorem clear_sound(hm:Mem B S rho A hp w){t ty:TypeId}{d y:V}{vd:Value}{f:Eff}(h:exClear P hp t d=some (y,f))(hd:R S rho w A d vd):
  Out B S rho A hp nx w ((Builtin.clear_ #[t] ty #[vd]).run P w) y f:=by
 unfold exClear at h;split at h
 ·rename_i id off dlen cap;cases hs:mkOf P t with
  |none=>simp[hs]at h
  | some p=>
   obtain⟨e,by',zc⟩:=p;cases hk:hget hp id with
   |none=>simp[hs,hk]at h
   | some k=>
    simp only[hs,hk,Option.bind_some]at h;split at h
    ·rename_i hc;obtain⟨hz1,hfz,hle,hone⟩:=hc;simp only[Option.some.injEq,Prod.mk.injEq]at h;obtain⟨rfl,rfl⟩:=h;obtain⟨i,zv,hu,g2,g3,rfl,rfl,g6,g7,g8⟩:=mkOf_und hs;obtain⟨z0,hz0⟩: ∃z0,zv.cells.toList=[z0]:=by
      match hl:zv.cells.toList,hz1 with
      |[z0],_=>exact⟨z0,rfl⟩
     have hzv:zv.cells= #[z0]:=by rw[<-Array.toList_inj,hz0]
     have h1v:z0.oneCell'=true:=by
      rw[hz0]at hone;have:V.one (.sc z0)=true:=by simpa using hone
      exact one_sound this (R.sc (S:=S) (rho:=rho) (A:=A) (w:=w) z0)
     rw[hz0];have hzo:zeroOf P e=some zv:=by simp[zeroOf,g2,g3]
     have same: ∀(r:Result Value),dlen=0->r= .ok (.tuple #[]) w->Out B S rho A hp nx w r (.tu []) (.set id ⟨k.ty,setAll k.cs off (List.replicate dlen (.sc ([z0].headD undef))),false⟩):=by
      intro r h0 hr;subst h0;simp only[List.replicate_zero,setAll];have hk':(⟨k.ty,k.cs,false⟩:Blk)=k:=by rw[<-hfz]
      rw[hk'];exact⟨_,w,rho,A,hr,hm.less (hset_self hk),λ_ h=>⟨h,rfl,λ_ h=>h⟩,λ_ h=> .inl h,λ_ _=>rfl,.tu rfl (λi x u hx=>by simp at hx)⟩
     cases hd with
     |sln hcap=>exact same _ rfl (by simp[Builtin.clear_,Sem.run_bind,run_underlying hu])
     | sl hid hl hmx hcap hz0'=>
      rename_i c;by_cases h0:dlen=0;·exact same _ h0 (by subst h0;simp[Builtin.clear_,Sem.run_bind,run_underlying hu])
      ·obtain⟨cells,c1,c2,c3⟩:=(hm.cells id k hk hid).all;have hr:=run_clear (P:=P) w t ty e k.ty (rho id) off dlen c zv z0 cells hu hzo hzv om c1 om h1v;have hAll:All S rho A w (List.replicate dlen (V.sc z0)) (List.replicate dlen z0):=⟨by simp,λi x u hx hu=>by
        have e1:=List.eq_of_mem_replicate (List.mem_of_getElem? hx);have e2:=List.eq_of_mem_replicate (List.mem_of_getElem? hu);subst e1;subst e2;exact .sc _⟩
       have hset:=c3.setAll hAll (off:=off) (by simp;omega);rw[List.length_replicate]at hset;obtain⟨m1,m2,m3⟩:=hm.setRow hk hid hfz c1 (cs':=setAll k.cs off (List.replicate dlen (V.sc z0))) (arr':=cells.toList.take off++List.replicate dlen z0++cells.toList.drop (off+dlen)) (by simp;omega) (λj y hj=>by
        have hlt:j<k.cs.length:=by rw[<-setAll_length (List.replicate dlen (V.sc z0)) k.cs off];exact(List.getElem?_eq_some_iff.1 hj).1
        have hs2:j<((cells.toList.take k.cs.length).take off++List.replicate dlen z0++(cells.toList.take k.cs.length).drop (off+dlen)).length:=by rw[<-hset.1,setAll_length];exact hlt
        refine⟨_,?_,hset.2 j y _ hj (zlb hs2)⟩;rw[<-zlb hs2];simp only[List.getElem?_append,List.getElem?_take,zl5,zl1,List.length_take,List.length_replicate];simp only[Array.length_toList];have e2:min off cells.size=off:=by omega
        have e3:min off (min k.cs.length cells.size)=off:=by omega
        simp only[e2,e3];by_cases hi:j<off+dlen
        ·simp only[hi,if_true];by_cases hj2:j<off;·simp only[hj2,if_true];rw[if_pos hlt]
         ·simp only[hj2,if_false]
        ·simp only[hi,if_false];rw[if_pos om])
       exact⟨_,_,rho,A,hr,m1,m3,λ_ h=> .inl h,m2,.tu rfl (λi x u hx=>by simp at hx)⟩
    ·cases h
 ·split at h
  ·rename_i ht;cases h;obtain⟨u,hu⟩: ∃u,P.underlying t=some u:=by
    unfold hasT at ht;exact Option.isSome_iff_exists.1 ht
   have hr: ∀a c,(Builtin.clear_ #[t] ty #[.slice a 0 c]).run P w= .ok (.tuple #[]) w:=by intro a c;cases a<;>simp[Builtin.clear_,Sem.run_bind,run_underlying hu]
   cases hd with
   |im0=>exact Out.val hm (hr _ _) (.tu rfl (λi x u hx=>by simp at hx))
   |im1=>exact Out.val hm (hr _ _) (.tu rfl (λi x u hx=>by simp at hx))
  ·cases h
 ·split at h
  ·rename_i ht;cases h;obtain⟨u,hu⟩: ∃u,P.underlying t=some u:=by
    unfold hasT at ht;exact Option.isSome_iff_exists.1 ht
   cases hd;exact Out.val (v:= .tuple #[]) hm (by simp[Builtin.clear_,Sem.run_bind,run_underlying hu]) (.tu rfl (λi x u hx=>by simp at hx))
  ·cases h
 ·cases h
theorem min_run(ts:Array TypeId)(t:TypeId)(k k':IntKind)(x y:Int):(Builtin.min_ ts t #[.int k x,.int k' y]).run P w= .ok (.int k (if y<x then y else x)) w:=by simp[Builtin.min_,Builtin.min2]
theorem max_run(ts:Array TypeId)(t:TypeId)(k k':IntKind)(x y:Int):(Builtin.max_ ts t #[.int k x,.int k' y]).run P w= .ok (.int k (if y>x then y else x)) w:=by simp[Builtin.max_,Builtin.max2]
theorem glob_sound(ht:TabOK S w)(g:Nat):R S rho w A (globV g) (.pointer (some ⟨g,0,none⟩)):=by
 unfold globV;split
 ·rename_i cs hg;obtain⟨h1,h2⟩:=ht g cs hg;refine .pi (λi=>cs.getD i undef) h1 (λi x hx=> ?_) (λi x hx=> ?_)
  ·rw[List.getElem?_map]at hx;cases hc:cs[i]?with
   |none=>simp[hc]at hx
   |some v=>rw[zn9,h2 i v hc];simp[List.getD_eq_getElem?_getD,hc]
  ·rw[List.getElem?_map]at hx;cases hc:cs[i]?with
   |none=>simp[hc]at hx
   |some v=>
    simp only[hc,Option.map_some,Option.some.injEq]at hx;subst hx;have:cs.getD i undef=v:=by simp[List.getD_eq_getElem?_getD,hc]
    rw[this];exact .sc _
 ·exact .sc _
theorem ev_sound{sl:List (Nat×V)}{a:Act}(ht:TabOK S w)(hs: ∀t,R S rho w A (get sl t) (a.eval (.tmp t)))(x:Operand):R S rho w A (evS sl x) (a.eval x):=by
 cases x with
 |tmp t=>exact hs t
 |const v=>exact R.ofV v
 |global g=>exact glob_sound ht g
 |func f=>exact .sc _
theorem All.ev{sl:List (Nat×V)}{a:Act}(ht:TabOK S w)(hs: ∀t,R S rho w A (get sl t) (a.eval (.tmp t)))(l:List Operand):All S rho A w (l.map (evS sl)) (l.map a.eval):=by
 refine⟨by simp,λi x u hx hu=> ?_⟩;rw[List.getElem?_map]at hx hu;cases hl:l[i]?with
 |none=>simp[hl]at hx
 |some o=>simp[hl]at hx hu;subst hx;subst hu;exact ev_sound ht hs o
theorem okO.ev{sl:List (Nat×V)}{a:Act}(ht:TabOK S w)(hs: ∀t,R S rho w A (get sl t) (a.eval (.tmp t)))(o:Option Operand):okO S rho A w (o.map (evS sl)) (o.map a.eval):=by
 cases o with
 |none=>exact .inl ⟨rfl,rfl⟩
 |some x=>exact .inr ⟨_,_,rfl,rfl,ev_sound ht hs x⟩
theorem appendZ_sound(hm:Mem B S rho A hp w)(hnx: ¬A nx){t t' ty:TypeId}{s x y:V}{vs vx:Value}{f:Eff}(h:exAppendZ P nx t t' s x=some (y,f))(hs:R S rho w A s vs)(hx:R S rho w A x vx):
  Out B S rho A hp nx w ((Builtin.append_ #[t,t'] ty #[vs,vx]).run P w) y f:=by
 unfold exAppendZ at h;split at h
 ·rename_i kd n;cases hs;cases hx;cases hk:mkOf P t with
  |none=>simp[hk]at h
  | some p=>
   obtain⟨e,b,zc⟩:=p;simp only[hk,Option.bind_some]at h;split at h
   ·rename_i hc;obtain⟨hi,h0,hlim,hby⟩:=hc;cases h;obtain⟨i,zv,h1,h2,h3,rfl,rfl,h6,h7,h8⟩:=mkOf_und hk;obtain⟨m,rfl⟩:=Int.eq_ofNat_of_zero_le (Int.le_of_lt h0);have hin: ∃kn,P.underlying t'=some (.int kn):=by
     unfold isIntT at hi;split at hi;·exact⟨_,‹_›⟩
     ·cases hi
    obtain⟨kn,hkn⟩:=hin;have hby2:i.bytes*m<=140737488355328:=by
     have h9:((i.bytes*m:Nat):Int)<=140737488355328:=by rw[Int.natCast_mul];exact hby
     omega
    have hrun:=Lib.run_append_nil_zeros (P:=P) w t t' ty e i zv kd kn h1 hkn h2 h3 m om h8 om (by rw[Nat.mul_comm];omega);have hr:=reps_sound (S:=S) (rho:=rho) (A:=A) (w:=w) (zs:=zv.cells) om m;have hge:=grownCap_ge w m 0 e;have hz: ∀n,Builtin.zeroCells zv.cells n=madeCells zv.cells (n*zv.cells.size):=λn=>rfl;have hzc: ∀n,(Builtin.zeroCells zv.cells n).size=n*i.size:=by intro n;rw[size_zeroCells,h7]
    refine grown_sound hm hnx (rest:=(Builtin.zeroCells zv.cells (grownCap w m 0 e-m)).toList) hr (c:=grownCap w m 0 e) (l:=m) ?_ om (grownCap_le_maxLen w m 0 e (by unfold maxLen;omega)) ?_
    ·rw[<-hz];show(Builtin.append_ #[t,t'] ty #[.slice none 0 0,.int kd (m:Int)]).run P w=_;rw[hrun];congr 3;apply Array.ext';simp
    ·have e2:=hzc (grownCap w m 0 e-m);have e3:=hzc m;rw[<-hz];simp[e2,e3,<-h6,<-Nat.add_mul];rw[show m+(grownCap w m 0 e-m)=grownCap w m 0 e by omega];exact znb _
   ·cases h
 ·cases h
theorem cap_sound{t ty:TypeId}{x y:V}{vx:Value}(h:exCap P t x=some y)(hx:R S rho w A x vx): ∃v,(Builtin.cap_ #[t] ty #[vx]).run P w= .ok v w/\R S rho w A y v:=by
 have sl: ∀{p:TypeId×Nat} {a:Option Addr} {n c:Nat},slOf P t=some p->(Builtin.cap_ #[t] ty #[.slice a n c]).run P w= .ok (.int .i64 c) w:=by intro p a n c hs;obtain⟨e,z⟩:=p;obtain⟨hu,hz⟩:=slOf_und hs;simp[Builtin.cap_,run_underlying hu,goInt]
 unfold exCap at h;split at h
 ·obtain⟨p,hp,rfl⟩:=Option.map_eq h;cases hx with
  |sl h1 h2 h3 h4 h5=>rw[h4 _ rfl];exact⟨_,sl hp,.sc _⟩
  |sln h4=>rw[h4 _ rfl];exact⟨_,sl hp,.sc _⟩
 ·obtain⟨p,hp,rfl⟩:=Option.map_eq h;cases hx;exact⟨_,sl hp,.sc _⟩
 ·cases h
theorem builtin_sound(hm:Mem B S rho A hp w)(hnx: ¬A nx){b:Builtin}{ts:List TypeId}{ty:TypeId}{cs:Array Bool}{xs:List V}{vs:List Value}{x:V}{f:Eff}(h:exBuiltin P hp nx b ts xs=some (x,f))(hx:All S rho A w xs vs):
  OutN B S rho A hp nx w ((builtin b ts.toArray ty cs vs.toArray).run P w) x f:=by
 have h1: ∀{a:V},xs=[a]-> ∃u,vs=[u]/\R S rho w A a u:=by
  intro a e;subst e
  match vs,hx with
  |[u],hx=>exact⟨u,rfl,hx.2 0 a u rfl rfl⟩
  |[],hx=>have:=hx.1;simp at this
  |_::_::_,hx=>have:=hx.1;simp at this
 have h2: ∀{a b:V},xs=[a,b]-> ∃u v,vs=[u,v]/\R S rho w A a u/\R S rho w A b v:=by
  intro a b e;subst e
  match vs,hx with
  |[u,v],hx=>exact⟨u,v,rfl,hx.2 0 a u rfl rfl,hx.2 1 b v rfl rfl⟩
  |[],hx=>have:=hx.1;simp at this
  |[_],hx=>have:=hx.1;simp at this
  |_::_::_::_,hx=>have:=hx.1;simp at this
 unfold exBuiltin at h;split at h
 ·obtain⟨u,rfl,hu⟩:=h1 rfl;obtain⟨y,hy,e⟩:=Option.map_eq h;cases e;exact OutN.of hm (len_sound hy hu)
 ·obtain⟨u,v,rfl,hu,hv⟩:=h2 rfl;split at h
  ·rename_i ht;subst ht;exact(append_sound hm hnx h hu hv).toN
  ·exact(appendZ_sound hm hnx h hu hv).toN
 ·obtain⟨u,rfl,hu⟩:=h1 rfl;obtain⟨y,hy,e⟩:=Option.map_eq h;cases e;exact OutN.of hm (cap_sound hy hu)
 ·obtain⟨u,v,rfl,hu,hv⟩:=h2 rfl;unfold exCopyA at h;split at h;·cases hv;exact(copyS_sound hm h hu).toN
  ·exact(copy_sound hm h hu hv).toN
 ·obtain⟨u,rfl,hu⟩:=h1 rfl;exact(clear_sound hm h hu).toN
 ·obtain⟨u,v,rfl,hu,hv⟩:=h2 rfl;obtain⟨y,hy,e⟩:=Option.map_eq h;cases e;unfold exMin at hy;split at hy
  ·cases hy;cases hu;cases hv;exact OutN.of hm ⟨_,min_run _ _ _ _ _ _,.sc _⟩
  ·cases hy
 ·obtain⟨u,v,rfl,hu,hv⟩:=h2 rfl;obtain⟨y,hy,e⟩:=Option.map_eq h;cases e;unfold exMax at hy;split at hy
  ·cases hy;cases hu;cases hv;exact OutN.of hm ⟨_,max_run _ _ _ _ _ _,.sc _⟩
  ·cases hy
 ·cases h
theorem op_sound{sl:List (Nat×V)}{a:Act}{o:Oper}{x:V}{f:Eff}(hm:Mem B S rho A hp w)(hs: ∀t,R S rho w A (get sl t) (a.eval (.tmp t)))(hnx: ¬A nx)(h:exOp P sl hp nx o.op=some (x,f)):
  OutN B S rho A hp nx w ((execOp a.eval o).run P w) x f:=by
 have ev:=ev_sound hm.tab hs;obtain⟨dst,op,ty,pos,after,guard⟩:=o;have parts: ∀(ps:Array (Nat×Operand)),(ps.toList.map λp=>(p.1,evS sl p.2)).map (·.1)=(ps.map λ(i,x)=>(i,a.eval x)).toList.map (·.1)/\All S rho A w ((ps.toList.map λp=>(p.1,evS sl p.2)).map (·.2)) ((ps.map λ(i,x)=>(i,a.eval x)).toList.map (·.2)):=by
  intro ps;have e1:(ps.toList.map λp=>(p.1,evS sl p.2)).map (·.2)=(ps.toList.map (·.2)).map (evS sl):=by simp
  have e2:(ps.map λ(i,x)=>(i,a.eval x)).toList.map (·.2)=(ps.toList.map (·.2)).map a.eval:=by simp
  refine⟨by simp,?_⟩;rw[e1,e2];exact All.ev hm.tab hs _
 cases op<;>simp only[exOp]at h<;>try(cases h;done)
 case move y=>cases h;exact OutN.val hm rfl (ev y)
 case assign y=>cases h;exact OutN.val hm rfl (ev y)
 case pick c p q=>
  obtain⟨y,hy,e⟩:=Option.map_eq h;cases e;unfold exPick at hy;split at hy
  ·rename_i t hc;cases hy;have hcv:=ev c;rw[hc]at hcv;cases t
   ·refine OutN.val hm ?_ (ev q);simp only[execOp];generalize a.eval c=u at hcv⊢;cases hcv;rfl
   ·refine OutN.val hm ?_ (ev p);simp only[execOp];generalize a.eval c=u at hcv⊢;cases hcv;rfl
  ·cases hy
 case alloc t=>
  obtain⟨k,hk,e⟩:=Option.map_eq h;cases e;exact(alloc_sound hm hnx hk).toN
 case box t y=>
  obtain⟨k,hk,e⟩:=Option.map_eq h;cases e;exact(box_sound hm hnx hk (ev y)).toN
 case build t ps=>
  obtain⟨y,hy,e⟩:=Option.map_eq h;cases e;exact OutN.of hm (build_sound hy (parts ps).1 (parts ps).2)
 case buildSlice t len ps=>exact(buildSlice_sound hm hnx h (parts ps).1 (parts ps).2).toN
 case load t y=>
  obtain⟨z,hz,e⟩:=Option.map_eq h;cases e;exact OutN.of hm (load_sound hm hz (ev y))
 case store t y z=>
  obtain⟨k,hk,e⟩:=Option.map_eq h;cases e;exact(store_sound hm hk (ev y) (ev z)).skip
 case nilCheck y=>
  obtain⟨z,hz,e⟩:=Option.map_eq h;cases e;have hy:=ev y;unfold exNil at hz;split at hz
  ·rename_i hc;cases hz;rw[hc]at hy;refine OutN.val hm (v:=a.eval y) ?_ hy;simp only[execOp];generalize a.eval y=u at hy⊢;cases hy;rfl
  ·rename_i hc;cases hz;rw[hc]at hy;refine OutN.val hm (v:=a.eval y) ?_ hy;simp only[execOp];generalize a.eval y=u at hy⊢;cases hy;rfl
  ·rename_i hc;cases hz;rw[hc]at hy;refine OutN.val hm (v:=a.eval y) ?_ hy;simp only[execOp];generalize a.eval y=u at hy⊢;cases hy;rfl
  ·cases hz
 case binOp o t y z _=>
  obtain⟨r,hr,e⟩:=Option.map_eq h;cases e;exact OutN.of hm (bin_sound hr (ev y) (ev z))
 case unOp o _ y=>
  obtain⟨r,hr,e⟩:=Option.map_eq h;cases e;exact OutN.of hm (un_sound hr (ev y))
 case convert s d y=>
  obtain⟨r,hr,e⟩:=Option.map_eq h;cases e;exact OutN.of hm (convH_sound hm hr (ev y))
 case makeFunc fn p q=>
  cases h;have hp':=All.ev (w:=w) (S:=S) (rho:=rho) (A:=A) hm.tab hs p.toList;have hq':=All.ev (w:=w) (S:=S) (rho:=rho) (A:=A) hm.tab hs q.toList;refine OutN.val hm (v:= .func fn (p.map a.eval) (q.map a.eval)) rfl (.fn (by simp) (by simp) (λi x u hx hu=>hp'.2 i x u hx ?_) (λi x u hx hu=>hq'.2 i x u hx ?_));·rw[<-Array.toList_map,Array.getElem?_toList];exact hu
  ·rw[<-Array.toList_map,Array.getElem?_toList];exact hu
 case makeSlice t l c=>exact(make_sound hm hnx h (ev l) (ev c)).toN
 case slice t y lo hi mx=>
  obtain⟨r,hr,e⟩:=Option.map_eq h;cases e;exact OutN.of hm (slice_sound hm hr (ev y) (okO.ev hm.tab hs lo) (okO.ev hm.tab hs hi) (okO.ev hm.tab hs mx))
 case fieldAddr t y f'=>
  obtain⟨r,hr,e⟩:=Option.map_eq h;cases e;exact OutN.of hm (fieldAddr_sound hr (ev y))
 case field t y f'=>
  obtain⟨r,hr,e⟩:=Option.map_eq h;cases e;exact OutN.of hm (field_sound hr (ev y))
 case indexAddr t y i=>
  obtain⟨r,hr,e⟩:=Option.map_eq h;cases e;exact OutN.of hm (indexAddr_sound hr (ev y) (ev i))
 case index t y i=>
  obtain⟨r,hr,e⟩:=Option.map_eq h;cases e;exact OutN.of hm (index_sound hr (ev y) (ev i))
 case extract t i=>
  obtain⟨r,hr,e⟩:=Option.map_eq h;cases e;exact OutN.of hm (extract_sound hr (ev t))
 case lookup t y i ok=>
  obtain⟨r,hr,e⟩:=Option.map_eq h;cases e;exact OutN.of hm (lookup_sound hr (ev y) (ev i))
 case call c=>
  obtain⟨callee,args,ts⟩:=c;cases callee<;>simp only at h<;>try(cases h;done)
  rename_i b;have hb:=λcs=>builtin_sound (ty:=ty) (cs:=cs) hm hnx h (All.ev hm.tab hs args.toList);have e:(args.toList.map a.eval).toArray=args.map a.eval:=by apply Array.ext';simp
  rw[e]at hb;simp only[execOp,resolve,invoke,Sem.run_bind,Sem.run_pure,Result.andThen_ok];simpa using hb _
end
end
section
open Go.RowKit
def dstOk(d:Option Nat)(n:Nat):Bool:=
 match d with
 |some d=>decide (d<n)
 |none=>true
def putS(sl:List (Nat×V))(d:Option Nat)(x:V):List (Nat×V):=
 match d with
 |some d=>(d,x)::sl
 |none=>sl
def SS.put(s:SS)(d:Option Nat)(x:V)(f:Eff):SS:=⟨putS s.sl d x,f.heap s.nx s.hp,f.next s.nx,s.nt⟩
def Post(B:Base)(Q:Exit->SS->Prop):Exit->Act->World->Prop:=λe a w=> ∃S rho A s,Q e s/\Rel B S rho A s a w
section
variable {P:Program} {w:World} {B:Base} {S:Nat->Prop} {rho:Nat->Nat} {A:Nat->Prop} {s:SS} {a:Act}
theorem slots_put{S':Nat->Prop}{rho':Nat->Nat}{A':Nat->Prop}{w':World}{sl:List (Nat×V)}{d:Option Nat}{x:V}{v:Value}(hs: ∀t,R S rho w A (get sl t) (a.eval (.tmp t)))(hd:dstOk d a.tmps.size=true)
  (hS: ∀b,S b->S' b/\w'.heap[b]? =w.heap[b]?) (hA: ∀id,A id->A' id/\rho' id=rho id/\ ∀n,szAt w (rho id) n->szAt w' (rho id) n) (hx:R S' rho' w' A' x v):
  ∀t,R S' rho' w' A' (get (putS sl d x) t) ((a.put d v).eval (.tmp t)):=by
 intro t;cases d with
 |none=>exact(hs t).mono hS hA
 | some d=>
  simp only[dstOk,decide_eq_true_eq]at hd;simp only[putS,get];by_cases ht:t=d
  ·subst ht;rw[if_pos rfl];have:(a.put (some t) v).eval (.tmp t)=v:=by simp[Act.eval,Act.put,hd]
   rw[this];exact hx
  ·rw[if_neg ht];have:(a.put (some d) v).eval (.tmp t)=a.eval (.tmp t):=Act.eval_put (by intro d' hd' e;cases hd';cases e;exact ht rfl);rw[this];exact(hs t).mono hS hA
theorem put_size(a:Act)(d:Option Nat)(v:Value):(a.put d v).tmps.size=a.tmps.size:=by cases d<;>simp[Act.put]
theorem put_defers(a:Act)(d:Option Nat)(v:Value):(a.put d v).defers=a.defers:=by cases d<;>rfl
theorem Rel.put(hr:Rel B S rho A s a w){x:V}{f:Eff}{v:Value}{w':World}{rho':Nat->Nat}{A':Nat->Prop}{d:Option Nat}(hd:dstOk d s.nt=true)(hm:Mem B S rho' A' (f.heap s.nx s.hp) w')
  (hA: ∀id,A id->A' id/\rho' id=rho id/\ ∀n,szAt w (rho id) n->szAt w' (rho id) n) (hA': ∀id,A' id->A id\/id=s.nx/\ ∃k,f= .new k\/ ∃i,f= .app i k)
  (hS: ∀b,S b->w'.heap[b]? =w.heap[b]?) (hx:R S rho' w' A' x v):Rel B S rho' A' (s.put d x f) (a.put d v) w' where
 slots:=slots_put hr.slots (by rw[hr.nt];exact hd) (λb hb=>⟨hb,hS b hb⟩) hA hx
 mem:=hm
 alt id hid:=by
  show id<f.next s.nx;rcases hA' id hid with h|⟨rfl,k,rfl|⟨i,rfl⟩⟩
  ·have:=hr.alt id h;cases f<;>simp[Eff.next]<;>omega
  ·simp[Eff.next]
  ·simp[Eff.next]
 nt:=by rw[put_size];exact hr.nt
 defs:=by rw[put_defers];exact hr.defs
def guardV(ops:Array Oper)(sl:List (Nat×V)):Option (Nat×Bool)->Option Bool
 |none=>some true
 | some (j,want)=>
  match(ops[j]?).bind (·.dst)with
  |some d=>match get sl d with
   | .sc (.bool b)=>some (b==want)
   | .tu []=>some false
   |_=>none
  |none=>none
theorem skip_rep:R S rho w A (.tu []) undef:= .tu (by simp) λi x u hx=>by simp at hx
theorem guard_sound{ops:Array Oper}{o:Oper}{b:Bool}(hs: ∀t,R S rho w A (get s.sl t) (a.eval (.tmp t)))(h:guardV ops s.sl o.guard=some b):Region.wanted o (yielded ops a.tmps)=b:=by
 unfold Region.wanted;cases hg:o.guard with
 |none=>rw[hg]at h;simpa[guardV]using h
 | some p=>
  obtain⟨j,want⟩:=p;rw[hg]at h;simp only[guardV]at h;cases hd:(ops[j]?).bind (·.dst)with
  |none=>simp[hd]at h
  | some d=>
   simp only[hd]at h;split at h
   ·rename_i u hu;have hv:=hs d;rw[hu]at hv;simp only[Option.some.injEq]at h;simp only[yielded,hd,Option.bind_some];cases hq:a.tmps[d]?with
    |none=>simp[Act.eval,hq,undef]at hv;cases hv
    |some q=>
     have:a.eval (.tmp d)=q:=by simp[Act.eval,hq]
     rw[this]at hv;cases hv;simpa using h
   ·rename_i hu;have hv:=hs d;rw[hu]at hv;simp only[Option.some.injEq]at h;simp only[yielded,hd,Option.bind_some];cases hq:a.tmps[d]?with
    |none=>simpa using h
    |some q=>
     have:a.eval (.tmp d)=q:=by simp[Act.eval,hq]
     rw[this]at hv;cases hv;simpa using h
   ·cases h
def run1(P:Program)(ops:Array Oper)(s:SS)(o:Oper):Option SS:=
 if dstOk o.dst s.nt then
  match guardV ops s.sl o.guard with
  |some true=>(exOp P s.sl s.hp s.nx o.op).map λp=>s.put o.dst p.1 p.2
  |some false=>some (s.put o.dst (.tu []) .none)
  |none=>none
 else none
def runL(P:Program)(ops:Array Oper):SS->List Oper->Option SS
 |s,[]=>some s
 |s,o::l=>match run1 P ops s o with
  |some s'=>runL P ops s' l
  |none=>none
def SOps(P:Program)(B:Base)(ops:Array Oper)(l:List Oper)(Q:Exit->SS->Prop)(s:SS):Prop:=
 ∀S rho A a w,Rel B S rho A s a w->wpList P ops (Post B Q) l a w
theorem SOps.nil{ops:Array Oper}{Q:Exit->SS->Prop}(h:Q .normal s):SOps P B ops [] Q s:=
 λS rho A _ _ hr=>⟨S,rho,A,s,h,hr⟩
theorem SOps.run1{ops:Array Oper}{Q:Exit->SS->Prop}{o:Oper}{l:List Oper}{s':SS}(h:run1 P ops s o=some s')(k:SOps P B ops l Q s'):SOps P B ops (o::l) Q s:=by
 intro S rho A a w hr;unfold Go.Proofs.YtannldafjkjjbaaGreat.run1 at h;split at h
 ·rename_i hd;split at h
  ·rename_i hg;obtain⟨⟨x,f⟩,he,rfl⟩:=Option.map_eq h;have hw:=guard_sound hr.slots hg;refine wpList_step λK hK=> ?_;rw[if_pos hw];obtain⟨v,w',rho',A',h1,h2,h3,h4,h5,h6⟩:=op_sound hr.mem hr.slots (λh=>by have:=hr.alt _ h;omega) he;have:=hK _ _ (k S rho' A' (a.put o.dst v) w' (hr.put hd h2 h3 h4 h5 h6));unfold Oper.wp;rcases h1 with h1|⟨h1,rfl⟩<;>rw[h1]<;>exact this
  ·rename_i hg;simp only[Option.some.injEq]at h;subst h;have hw:=guard_sound hr.slots hg;refine wpList_step λK hK=> ?_;rw[hw];exact hK _ _ (k S rho A (a.put o.dst undef) w (hr.put (f:= .none) hd hr.mem (λ_ h=>⟨h,rfl,λ_ h=>h⟩) (λ_ h=> .inl h) (λ_ _=>rfl) skip_rep))
  ·cases h
 ·cases h
theorem SOps.runs{ops:Array Oper}{Q:Exit->SS->Prop}: ∀{l r:List Oper} {s s':SS},runL P ops s l=some s'->SOps P B ops r Q s'->SOps P B ops (l++r) Q s
 |[],r,s,s',h,k=>by simp only[runL,Option.some.injEq]at h;subst h;exact k
 | o::l,r,s,s',h,k=>by
  simp only[runL]at h;split at h
  ·rename_i s1 h1;exact SOps.run1 h1 (SOps.runs h k)
  ·cases h
theorem SOps.all{ops:Array Oper}{Q:Exit->SS->Prop}{l:List Oper}{s':SS}(h:runL P ops s l=some s')(k:Q .normal s'):SOps P B ops l Q s:=by have:=SOps.runs (r:=[]) h (SOps.nil (P:=P) (B:=B) (ops:=ops) k);rwa[List.append_nil]at this
def clo:V->Bool
 | .sc (.slice _ _ _)=>false
 | .sc _| .im _ _| .pi _=>true
 |_=>false
def frzAll(g:V->Option (V×List Nat)):List V->Option (List V×List Nat)
 |[]=>some ([],[])
 |c::r=>(g c).bind λp=>(frzAll g r).map λq=>(p.1::q.1,p.2++q.2)
def frzL(g:V->Option (V×List Nat))(cs:List V):Option (List V×List Nat):=if cs.all clo then some (cs,[])else frzAll g cs
def frz:Nat->List (Nat×Blk)->V->Option (V×List Nat)
 |0,_,_=>none
 |n+1,hp,x=>
  match x with
  | .sc (.slice none 0 0)=>some (.im [] 0,[])
  | .sc v=>some (.sc v,[])
  | .im cs len=>some (.im cs len,[])
  | .pi cs=>some (.pi cs,[])
  | .ag cs=>(frzL (frz n hp) cs).map λp=>(.ag p.1,p.2)
  | .tu cs=>(frzL (frz n hp) cs).map λp=>(.tu p.1,p.2)
  | .sl id off len z _=>(srcV hp (.sl id off len z none)).bind λq=>(frzL (frz n hp) q.1).map λp=>(.im p.1 q.2,id::p.2)
  | .fn f p q=>(frzL (frz n hp) p).bind λa=>(frzL (frz n hp) q).map λb=>(.fn f a.1 b.1,a.2++b.2)
  | .pt id off=>(hget hp id).bind λk=>(frzL (frz n hp) (k.cs.drop off)).map λp=>(.pi p.1,id::p.2)
  | .ifc t x=>(frz n hp x).map λp=>(.ifc t p.1,p.2)
  |_=>none
def addS(S:Nat->Prop)(rho:Nat->Nat)(A:Nat->Prop)(ids:List Nat):Nat->Prop:=λb=>S b\/ ∃id,id∈ids/\A id/\rho id=b
theorem addS.mono{ids ids':List Nat}(h: ∀i,i∈ids->i∈ids'): ∀b,addS S rho A ids b->addS S rho A ids' b:=by
 rintro b (hb|⟨id,h1,h2,h3⟩);·exact .inl hb
 ·exact .inr ⟨id,h id h1,h2,h3⟩
structure Frz(hp:List (Nat×Blk))(S:Nat->Prop)(rho:Nat->Nat)(A:Nat->Prop)(w:World)(x:V)(v:Value)(y:V)(ids:List Nat):Prop where
 rep:R (addS S rho A ids) rho w (λ_=>False) y v
 live: ∀id,id∈ids-> ∃k,hget hp id=some k
theorem R.wide{S S':Nat->Prop}{A:Nat->Prop}{x:V}{v:Value}(h:R S rho w A x v)(hS: ∀b,S b->S' b):R S' rho w A x v:=h.mono (λb hb=>⟨hS b hb,rfl⟩) (λ_ h=>⟨h,rfl,λ_ h=>h⟩)
theorem clo_sound{x:V}{v:Value}(hc:clo x=true)(h:R S rho w A x v):R S rho w (λ_=>False) x v:=by
 cases h<;>simp[clo]at hc;·exact .sc _
 ·exact .im0 ‹_› ‹_› ‹_›
 ·exact .im1 _ ‹_› ‹_› ‹_› ‹_› ‹_›
 ·exact .pi _ ‹_› ‹_› ‹_›
theorem frzAll_sound{hp:List (Nat×Blk)}{g:V->Option (V×List Nat)}(hg: ∀(x:V) (v:Value) (y:V) (ids:List Nat),g x=some (y,ids)->R S rho w A x v->Frz hp S rho A w x v y ids):
  ∀{cs ys:List V} {vs:List Value} {ids:List Nat},frzAll g cs=some (ys,ids)->All S rho A w cs vs->All (addS S rho A ids) rho (λ_=>False) w ys vs/\ ∀id,id∈ids-> ∃k,hget hp id=some k
 |[],ys,vs,ids,h,ha=>by simp only[frzAll,Option.some.injEq,Prod.mk.injEq]at h;obtain⟨rfl,rfl⟩:=h;exact⟨⟨ha.1,λi x u hx=>by simp at hx⟩,λid h=>by simp at h⟩
 |c::r,ys,[],ids,h,ha=>by have:=ha.1;simp at this
 | c::r,ys,v::vs,ids,h,ha=>by
  simp only[frzAll]at h;cases hc:g c with
  |none=>simp[hc]at h
  | some p=>
   cases hr:frzAll g r with
   |none=>simp[hc,hr]at h
   |some q=>
    obtain⟨y,i1⟩:=p;obtain⟨zs,i2⟩:=q;simp only[hc,hr,Option.bind_some,Option.map_some,Option.some.injEq,Prod.mk.injEq]at h;obtain⟨rfl,rfl⟩:=h;have h1:=hg c v y i1 hc (ha.2 0 c v rfl rfl);obtain⟨h2,h3⟩:=frzAll_sound hg hr (vs:=vs) ⟨by have:=ha.1;simpa using this,λi x u hx hu=>ha.2 (i+1) x u (by simpa using hx) (by simpa using hu)⟩;refine⟨⟨by simp[h2.1],λi x u hx hu=> ?_⟩,λid hid=>(List.mem_append.1 hid).elim (h1.live id) (h3 id)⟩;cases i with
    |zero=>simp at hx hu;subst hx;subst hu;exact h1.rep.wide (addS.mono (λi hi=>List.mem_append.2 (.inl hi)))
    |succ i=>simp at hx hu;exact(h2.2 i x u hx hu).wide (addS.mono (λi hi=>List.mem_append.2 (.inr hi)))
theorem frzL_sound{hp:List (Nat×Blk)}{g:V->Option (V×List Nat)}(hg: ∀(x:V) (v:Value) (y:V) (ids:List Nat),g x=some (y,ids)->R S rho w A x v->Frz hp S rho A w x v y ids)
  {cs ys:List V} {vs:List Value} {ids:List Nat} (h:frzL g cs=some (ys,ids)) (ha:All S rho A w cs vs):All (addS S rho A ids) rho (λ_=>False) w ys vs/\ ∀id,id∈ids-> ∃k,hget hp id=some k:=by
 unfold frzL at h;split at h
 ·rename_i hc;simp only[Option.some.injEq,Prod.mk.injEq]at h;obtain⟨rfl,rfl⟩:=h;refine⟨⟨ha.1,λi x u hx hu=> ?_⟩,λid h=>by simp at h⟩;exact(clo_sound (List.all_eq_true.1 hc _ (List.mem_of_getElem? hx)) (ha.2 i x u hx hu)).wide λb hb=> .inl hb
 ·exact frzAll_sound hg h ha
theorem frz_sound{hp:List (Nat×Blk)}(hm:Mem B S rho A hp w): ∀(n:Nat) (x:V) (v:Value) (y:V) (ids:List Nat),frz n hp x=some (y,ids)->R S rho w A x v->Frz hp S rho A w x v y ids
 |0,x,v,y,ids,h,_=>by simp[frz]at h
 | n + 1,x,v,y,ids,h,hx=>by
  have ih:=frz_sound hm n;have w0: ∀b,S b->addS S rho A [] b:=λb hb=> .inl hb;simp only[frz]at h;split at h
  ·cases h;cases hx;exact⟨.im0 (znb _) (by unfold maxLen;omega) (λ_=>rfl),λid h=>by simp at h⟩
  ·cases h;cases hx;exact⟨.sc _,λid h=>by simp at h⟩
  ·cases h;exact⟨(clo_sound rfl hx).wide w0,λid h=>by simp at h⟩
  ·cases h;exact⟨(clo_sound rfl hx).wide w0,λid h=>by simp at h⟩
  ·obtain⟨⟨ys,i1⟩,h1,h2⟩:=Option.map_eq h;cases h2;cases hx with|ag hl hi=>
   rename_i vs;obtain⟨k1,k2⟩:=frzL_sound ih h1 (vs:=vs.toList) ⟨by simpa using hl,λi x u hx hu=>hi i x u hx (by simpa using hu)⟩;exact⟨.ag (by have:=k1.1;simpa using this) (λi x u hx hu=>k1.2 i x u hx (by simpa using hu)),k2⟩
  ·obtain⟨⟨ys,i1⟩,h1,h2⟩:=Option.map_eq h;cases h2;cases hx with|tu hl hi=>
   rename_i vs;obtain⟨k1,k2⟩:=frzL_sound ih h1 (vs:=vs.toList) ⟨by simpa using hl,λi x u hx hu=>hi i x u hx (by simpa using hu)⟩;exact⟨.tu (by have:=k1.1;simpa using this) (λi x u hx hu=>k1.2 i x u hx (by simpa using hu)),k2⟩
  ·rename_i id off len z cap;cases hs:srcV hp (.sl id off len z none)with
   |none=>simp[hs]at h
   | some q=>
    obtain⟨cs,m⟩:=q;simp only[hs,Option.bind_some]at h;obtain⟨⟨ys,i1⟩,h1,h2⟩:=Option.map_eq h;cases h2;have hsrc:srcV hp (.sl id off len z cap)=some (cs,m):=hs;obtain⟨a',c,us,rfl,k1,k2,k3,k4,k5⟩:=src_sound hm hsrc hx;obtain⟨k6,k7⟩:=frzL_sound ih h1 k1;have hlive: ∃k,hget hp id=some k:=by
     simp only[srcV]at hs;cases hk:hget hp id with
     |none=>simp[hk]at hs
     |some k=>exact⟨k,rfl⟩
    refine⟨?_,λj hj=>(List.mem_cons.1 hj).elim (λe=>e▸hlive) (k7 j)⟩;by_cases hy:ys=[]
    ·subst hy;exact .im0 k3 k4 k5
    ·have hus:us≠ []:=by intro e;subst e;exact hy (List.eq_nil_of_length_eq_zero k6.1)
     have hcs:cs≠ []:=by intro e;subst e;have:=k1.1;simp at this;exact hus (List.eq_nil_of_length_eq_zero this.symm)
     obtain⟨ad,rfl,k8⟩:=k2 hcs;cases hx with
     | sl hid hl hmx hcap hz0=>
      refine .im1 (λi=>us.getD i undef) k3 k4 (.inr ⟨id,by simp,hid,rfl⟩) (λi x hx=> ?_) (λi x hx=> ?_)
      ·have hlt:i<us.length:=by rw[<-k6.1];exact(List.getElem?_eq_some_iff.1 hx).1
       have hu:us[i]? =some us[i]:=zlb hlt;have:=k8 i _ hu;rw[addrAdd]at this;simpa[hlt]using this
      ·have hlt:i<us.length:=by rw[<-k6.1];exact(List.getElem?_eq_some_iff.1 hx).1
       have hu:us[i]? =some us[i]:=zlb hlt;have hr:=k6.2 i x _ hx hu;have e:us.getD i undef=us[i]:=by simp[hlt]
       show R _ _ _ _ x (us.getD i undef);rw[e];exact hr.wide (addS.mono (λj hj=>List.mem_cons.2 (.inr hj)))
  ·rename_i f p q;cases hp1:frzL (frz n hp) p with
   |none=>simp[hp1]at h
   | some a=>
    obtain⟨as1,i1⟩:=a;cases hq1:frzL (frz n hp) q with
    |none=>simp[hp1,hq1]at h
    | some b=>
     obtain⟨bs1,i2⟩:=b;simp only[hp1,hq1,Option.bind_some,Option.map_some,Option.some.injEq,Prod.mk.injEq]at h;obtain⟨rfl,rfl⟩:=h;cases hx with|fn hl1 hl2 h1 h2=>
     rename_i ps qs;obtain⟨k1,k2⟩:=frzL_sound ih hp1 (vs:=ps.toList) ⟨by simpa using hl1,λi x u hx hu=>h1 i x u hx (by simpa using hu)⟩;obtain⟨k3,k4⟩:=frzL_sound ih hq1 (vs:=qs.toList) ⟨by simpa using hl2,λi x u hx hu=>h2 i x u hx (by simpa using hu)⟩;exact⟨.fn (by have:=k1.1;simpa using this) (by have:=k3.1;simpa using this)
      (λi x u hx hu=>(k1.2 i x u hx (by simpa using hu)).wide (addS.mono (λj hj=>List.mem_append.2 (.inl hj))))
      (λi x u hx hu=>(k3.2 i x u hx (by simpa using hu)).wide (addS.mono (λj hj=>List.mem_append.2 (.inr hj)))),
      λid hid=>(List.mem_append.1 hid).elim (k2 id) (k4 id)⟩
  ·rename_i id off;cases hk:hget hp id with
   |none=>simp[hk]at h
   | some k=>
    simp only[hk,Option.bind_some]at h;obtain⟨⟨ys,i1⟩,h1,h2⟩:=Option.map_eq h;cases h2;cases hx with|pt hid=>
    obtain⟨rd,g1,g2⟩:=(hm.cells id k hk hid).reader;have hall:All S rho A w (k.cs.drop off) ((List.range (k.cs.drop off).length).map λi=>rd (off+i)):=⟨by simp,λi x u hx hu=>by rw[List.getElem?_map]at hu;have hlt:=(List.getElem?_eq_some_iff.1 hx).1;rw[List.getElem?_range hlt]at hu;cases hu;rw[zl5]at hx;exact g2 _ x hx⟩
    obtain⟨k1,k2⟩:=frzL_sound ih h1 hall;refine⟨.pi (λi=>rd (off+i)) (.inr ⟨id,by simp,hid,rfl⟩) (λi x hx=> ?_) (λi x hx=> ?_),λj hj=>(List.mem_cons.1 hj).elim (λe=>e▸⟨k,hk⟩) (k2 j)⟩
    ·have hlt:i<(k.cs.drop off).length:=by have h8:i<ys.length:=(List.getElem?_eq_some_iff.1 hx).1;have h9:=k1.1;simp at h9⊢;omega
     have hc:k.cs[off+i]? =some ((k.cs.drop off)[i]):=by rw[<-zl5];exact zlb hlt
     have:=g1 (off+i) _ hc;rwa[zn9]at this
    ·have hlt:i<(k.cs.drop off).length:=by have h8:i<ys.length:=(List.getElem?_eq_some_iff.1 hx).1;have h9:=k1.1;simp at h9⊢;omega
     exact(k1.2 i x (rd (off+i)) hx (by rw[List.getElem?_map,List.getElem?_range hlt];rfl)).wide (addS.mono (λj hj=>List.mem_cons.2 (.inr hj)))
  ·obtain⟨⟨y0,i1⟩,h1,h2⟩:=Option.map_eq h;cases h2;cases hx with|ifc hx=>
   have k:=ih _ _ _ _ h1 hx;exact⟨.ifc k.rep,k.live⟩
  ·cases h
end
end
section
open Go.RowKit
def Rc(S:Nat->Prop)(w:World)(x:V)(v:Value):Prop:=R S (λ_=>0) w (λ_=>False) x v
def AllC(S:Nat->Prop)(w:World)(xs:List V)(vs:List Value):Prop:=xs.length=vs.length/\ ∀(i:Nat) (x:V) (u:Value),xs[i]? =some x->vs[i]? =some u->Rc S w x u
theorem R.rho{S:Nat->Prop}{rho rho':Nat->Nat}{w:World}{x:V}{v:Value}(h:R S rho w (λ_=>False) x v):R S rho' w (λ_=>False) x v:=h.mono (λ_ h=>⟨h,rfl⟩) (λ_ h=>h.elim)
def Spec(P:Program)(f:Nat)(args:List V)(x:V):Prop:=
 ∀(S:Nat->Prop) (w:World) (vs:Array Value),(∀b,S b->b<w.heap.size)->TabOK S w->AllC S w args vs.toList->
  Calls P f vs w (λe w'=> ∃v,e= .returned v/\Grow w w'/\Rc (λb=>S b\/(w.heap.size<=b/\b<w'.heap.size)) w' x v)
def isGo(P:Program)(f:Nat):Bool:=
 match P.funcs[f]?with
 |some fn=>fn.body.isSome&& !(fn.name== "runtime.NumGoroutine")
 |none=>false
theorem callFunc_go{P:Program}{f:Nat}(h:isGo P f=true)(vs:Array Value)(w:World):(callFunc f vs).run P w= .ok (.enter f vs) w:=by
 unfold isGo at h;split at h
 ·rename_i fn hf;simp only[Bool.and_eq_true,Bool.not_eq_true']at h;obtain⟨h1,h2⟩:=h;have h3:fn.body≠none:=by intro hb;simp[hb]at h1
  have h4:fn.name≠ "runtime.NumGoroutine" :=by simpa using h2
  simp[callFunc,hf,h3,h4]
 ·cases h
def flat1:V->Bool
 | .sc _| .im [] _=>true
 |_=>false
def flat2:V->Bool
 | .ag cs=>cs.all flat1
 |x=>flat1 x
def flat:V->Bool
 | .tu cs=>cs.all flat2
 |x=>flat2 x
section
variable {P:Program} {w:World} {B:Base} {S:Nat->Prop} {rho:Nat->Nat} {A:Nat->Prop} {s:SS} {a:Act}
theorem flat1_sound{S':Nat->Prop}{x:V}{v:Value}(hf:flat1 x=true)(h:R S rho w A x v):R S' rho w A x v:=by
 cases h<;>simp[flat1]at hf;·exact .sc _
 ·exact .im0 ‹_› ‹_› ‹_›
 ·rename_i cs len c b off f hl hm hS hc hx;cases cs<;>simp at hf;exact .im0 hl hm (by simp)
theorem flat2_sound{S':Nat->Prop}{x:V}{v:Value}(hf:flat2 x=true)(h:R S rho w A x v):R S' rho w A x v:=by
 cases h with
 |ag hl hi=>exact .ag hl λi x u hx hu=>flat1_sound (List.all_eq_true.1 hf x (List.mem_of_getElem? hx)) (hi i x u hx hu)
 |sc v=>exact .sc _
 |im0 hl hm ha=>exact .im0 hl hm ha
 |im1 f hl hm hS hc hx=>exact flat1_sound hf (.im1 f hl hm hS hc hx)
 |_=>simp[flat2,flat1]at hf
theorem flat_sound{S':Nat->Prop}{x:V}{v:Value}(hf:flat x=true)(h:R S rho w A x v):R S' rho w A x v:=by
 cases h with
 |tu hl hi=>exact .tu hl λi x u hx hu=>flat2_sound (List.all_eq_true.1 hf x (List.mem_of_getElem? hx)) (hi i x u hx hu)
 |ag hl hi=>exact flat2_sound hf (.ag hl hi)
 |sc v=>exact .sc _
 |im0 hl hm ha=>exact .im0 hl hm ha
 |im1 f hl hm hS hc hx=>exact flat1_sound hf (.im1 f hl hm hS hc hx)
 |_=>simp[flat,flat2,flat1]at hf
def fzHp(hp:List (Nat×Blk))(ids:List Nat):List (Nat×Blk):=hp.map λp=>(p.1,if ids.contains p.1 then⟨p.2.ty,p.2.cs,true⟩else p.2)
theorem hget_fz(hp:List (Nat×Blk))(ids:List Nat)(i:Nat):hget (fzHp hp ids) i=(hget hp i).map λk=>if ids.contains i then⟨k.ty,k.cs,true⟩else k:=by
 induction hp with
 |nil=>rfl
 |cons p r ih=>
  obtain⟨j,k⟩:=p;simp only[fzHp,zld,hget]at ih⊢;by_cases h:i=j;·subst h;simp
  ·simp only[if_neg h];exact ih
theorem Mem.freeze{hp:List (Nat×Blk)}(hm:Mem B S rho A hp w)(ids:List Nat)(hl: ∀id,id∈ids-> ∃k,hget hp id=some k):Mem B (addS S rho A ids) rho A (fzHp hp ids) w:=by
 have hS: ∀b,S b->addS S rho A ids b/\w.heap[b]? =w.heap[b]? :=λb hb=>⟨.inl hb,rfl⟩
 have hA: ∀id,A id->A id/\rho id=rho id/\ ∀n,szAt w (rho id) n->szAt w (rho id) n:=λid h=>⟨h,rfl,λ_ h=>h⟩
 have hg: ∀i q,hget (fzHp hp ids) i=some q-> ∃k,hget hp i=some k/\q.ty=k.ty/\q.cs=k.cs/\(ids.contains i=true->q.fz=true)/\(ids.contains i=false->q.fz=k.fz):=by
  intro i q hq;rw[hget_fz]at hq;obtain⟨k,hk,rfl⟩:=Option.map_eq hq;refine⟨k,hk,?_,?_,?_,?_⟩;·split<;>rfl
  ·split<;>rfl
  ·intro h;rw[if_pos h]
  ·intro h;rw[if_neg (by rw[h];simp)]
 exact{
  cells:=λi q hq ha=>by obtain⟨k,hk,h1,h2,_⟩:=hg i q hq;obtain⟨cells,c1,c2⟩:=(hm.cells i k hk ha).mono (S':=addS S rho A ids) rfl hS hA;exact⟨cells,by rw[h1];exact c1,by rw[h2];exact c2⟩
  fz :=λi q hq ha=>by
   obtain⟨k,hk,_,_,h3,h4⟩:=hg i q hq;intro hq0;cases hc:ids.contains i with
   |true=>rw[h3 hc]at hq0;cases hq0
   | false=>
    rw[h4 hc]at hq0;rintro(h|⟨j,hj,haj,he⟩);·exact hm.fz i k hk ha hq0 h
    ·obtain⟨kj,hkj⟩:=hl j hj;have:=hm.inj j i kj k hkj hk haj ha he;subst this;simp at hc;exact absurd hj hc
  own:=λi q hq ha=>by obtain⟨k,hk,_⟩:=hg i q hq;exact hm.own i k hk ha
  inj:=λi j q q' hi hj=>by obtain⟨k,hk,_⟩:=hg i q hi;obtain⟨k',hk',_⟩:=hg j q' hj;exact hm.inj i j k k' hk hk'
  slt:=λb hb=>by
   rcases hb with hb|⟨j,hj,haj,rfl⟩;·exact hm.slt b hb
   ·obtain⟨kj,hkj⟩:=hl j hj;exact hm.lt hkj haj
  sub:=λb hb=> .inl (hm.sub b hb)
  base:=λb hb=>by
   rcases hb with hb|⟨j,hj,haj,rfl⟩;·exact hm.base b hb
   ·obtain⟨kj,hkj⟩:=hl j hj;exact .inr (hm.own j kj hkj haj)
  frame:=hm.frame
  keep:=hm.keep}
theorem Mem.came{hp:List (Nat×Blk)}{w':World}(hm:Mem B S rho A hp w)(g:Grow w w'):Mem B (λb=>S b\/(w.heap.size<=b/\b<w'.heap.size)) rho A hp w' where
 cells i k hk ha:=(hm.cells i k hk ha).mono (g.block _ (hm.lt hk ha)) (λb hb=>⟨.inl hb,g.block b (hm.slt b hb)⟩) (λ_ h=>⟨h,rfl,λ_=>g.szAt⟩)
 fz i k hk ha:=by
  intro h0 h;rcases h with h|h;·exact hm.fz i k hk ha h0 h
  ·have:=hm.lt hk ha;omega
 own:=hm.own
 inj:=hm.inj
 slt b hb:=hb.elim (λh=>Nat.lt_of_lt_of_le (hm.slt b h) g.size) (λh=>h.2)
 sub b hb:= .inl (hm.sub b hb)
 base b hb:=hb.elim (hm.base b) (λh=> .inr (.inl (Nat.le_trans hm.frame.size h.1)))
 frame:=hm.frame.grow g
 keep:=hm.keep
theorem Mem.came2{hp:List (Nat×Blk)}{w':World}(hm:Mem B S rho A hp w)(g:Grow w w')(S2:Nat->Prop)(h2: ∀c,S2 c->S c\/(w.heap.size<=c/\c<w'.heap.size)):Mem B (λb=>S b\/S2 b) rho A hp w' where
 cells i k hk ha:=(hm.cells i k hk ha).mono (g.block _ (hm.lt hk ha)) (λb hb=>⟨.inl hb,g.block b (hm.slt b hb)⟩) (λ_ h=>⟨h,rfl,λ_=>g.szAt⟩)
 fz i k hk ha:=by
  intro h0 h;rcases h with h|h;·exact hm.fz i k hk ha h0 h
  ·rcases h2 _ h with h|h;·exact hm.fz i k hk ha h0 h
   ·have:=hm.lt hk ha;omega
 own:=hm.own
 inj:=hm.inj
 slt b hb:=hb.elim (λh=>Nat.lt_of_lt_of_le (hm.slt b h) g.size) (λh=>(h2 b h).elim (λh=>Nat.lt_of_lt_of_le (hm.slt b h) g.size) (λh=>h.2))
 sub b hb:= .inl (hm.sub b hb)
 base b hb:=hb.elim (hm.base b) (λh=>(h2 b h).elim (hm.base b) (λh=> .inr (.inl (Nat.le_trans hm.frame.size h.1))))
 frame:=hm.frame.grow g
 keep:=hm.keep
def SS.called(s:SS)(d:Option Nat)(x:V)(ids:List Nat):SS:=⟨putS s.sl d x,if flat x then s.hp else fzHp s.hp ids,s.nx,s.nt⟩
theorem SOps.call{ops:Array Oper}{Q:Exit->SS->Prop}{o:Oper}{l:List Oper}{f:Nat}{args:Array Operand}{ts:Array TypeId}{ys:List V}{ids:List Nat}{x:V}(ho:o.op= .call ⟨.value (.func f),args,ts⟩)(hg:guardV ops s.sl o.guard=some true)
  (hd:dstOk o.dst s.nt=true) (hgo:isGo P f=true) (hf:frzAll (frz 8 s.hp) (args.toList.map (evS s.sl))=some (ys,ids)) (hs:Spec P f ys x) (k:SOps P B ops l Q (s.called o.dst x ids)):SOps P B ops (o::l) Q s:=by
 intro S rho A a w hr;have hw:=guard_sound hr.slots hg;refine wpList_step λK hK=> ?_;rw[if_pos hw];have hall:=All.ev hr.mem.tab hr.slots args.toList;obtain⟨h1,h2⟩:=frzAll_sound (frz_sound hr.mem 8) hf hall;have hmf:=hr.mem.freeze ids h2;have hrun:(execOp a.eval o).run P w= .ok (.enter f (args.map a.eval)) w:=by simp only[execOp,ho,resolve,Act.eval,Deferred.ofValue,Sem.run_bind,Sem.run_pure,Result.andThen_ok,invoke];have:=callFunc_go hgo (args.map a.eval) w;simpa using this
 unfold Oper.wp;rw[hrun];refine(hs (addS S rho A ids) w (args.map a.eval) hmf.slt hmf.tab ⟨by have:=h1.1;simpa using this,λi y u hy hu=>(h1.2 i y u hy (by simpa using hu)).rho⟩).mono ?_;rintro e w' ⟨v,rfl,g,hx⟩;refine hK _ _ ?_;have hA: ∀id,A id->A id/\rho id=rho id/\ ∀n,szAt w (rho id) n->szAt w' (rho id) n:=λid h=>⟨h,rfl,λ_=>g.szAt⟩
 by_cases hfl:flat x=true
 ·have hm':=hr.mem.came g;refine k (λb=>S b\/(w.heap.size<=b/\b<w'.heap.size)) rho A _ _ ⟨slots_put hr.slots (by rw[hr.nt];exact hd) (λb hb=>⟨.inl hb,g.block b (hr.mem.slt b hb)⟩) hA (flat_sound hfl hx.rho.open),?_,hr.alt,by rw[put_size];exact hr.nt,by rw[put_defers];exact hr.defs⟩;show Mem B _ rho A (if flat x then s.hp else fzHp s.hp ids) w';rw[if_pos hfl];exact hm'
 ·have hm':=hmf.came g;refine k (λb=>addS S rho A ids b\/(w.heap.size<=b/\b<w'.heap.size)) rho A _ _ ⟨slots_put hr.slots (by rw[hr.nt];exact hd) (λb hb=>⟨.inl (.inl hb),g.block b (hr.mem.slt b hb)⟩) hA hx.rho.open,?_,hr.alt,by rw[put_size];exact hr.nt,by rw[put_defers];exact hr.defs⟩;show Mem B _ rho A (if flat x then s.hp else fzHp s.hp ids) w';rw[if_neg hfl];exact hm'
def SS.calledF(s:SS)(d:Option Nat)(x:V)(ids:List Nat):SS:=⟨putS s.sl d x,fzHp s.hp ids,s.nx,s.nt⟩
theorem SOps.callF{ops:Array Oper}{Q:Exit->SS->Prop}{o:Oper}{l:List Oper}{f:Nat}{args:Array Operand}{ts:Array TypeId}{ys:List V}{ids:List Nat}{x:V}(ho:o.op= .call ⟨.value (.func f),args,ts⟩)(hg:guardV ops s.sl o.guard=some true)
  (hd:dstOk o.dst s.nt=true) (hgo:isGo P f=true) (hf:frzAll (frz 8 s.hp) (args.toList.map (evS s.sl))=some (ys,ids)) (hs:Spec P f ys x) (k:SOps P B ops l Q (s.calledF o.dst x ids)):SOps P B ops (o::l) Q s:=by
 intro S rho A a w hr;have hw:=guard_sound hr.slots hg;refine wpList_step λK hK=> ?_;rw[if_pos hw];have hall:=All.ev hr.mem.tab hr.slots args.toList;obtain⟨h1,h2⟩:=frzAll_sound (frz_sound hr.mem 8) hf hall;have hmf:=hr.mem.freeze ids h2;have hrun:(execOp a.eval o).run P w= .ok (.enter f (args.map a.eval)) w:=by simp only[execOp,ho,resolve,Act.eval,Deferred.ofValue,Sem.run_bind,Sem.run_pure,Result.andThen_ok,invoke];have:=callFunc_go hgo (args.map a.eval) w;simpa using this
 unfold Oper.wp;rw[hrun];refine(hs (addS S rho A ids) w (args.map a.eval) hmf.slt hmf.tab ⟨by have:=h1.1;simpa using this,λi y u hy hu=>(h1.2 i y u hy (by simpa using hu)).rho⟩).mono ?_;rintro e w' ⟨v,rfl,g,hx⟩;refine hK _ _ ?_;have hA: ∀id,A id->A id/\rho id=rho id/\ ∀n,szAt w (rho id) n->szAt w' (rho id) n:=λid h=>⟨h,rfl,λ_=>g.szAt⟩
 have hm':=hmf.came g;exact k (λb=>addS S rho A ids b\/(w.heap.size<=b/\b<w'.heap.size)) rho A _ _ ⟨slots_put hr.slots (by rw[hr.nt];exact hd) (λb hb=>⟨.inl (.inl hb),g.block b (hr.mem.slt b hb)⟩) hA hx.rho.open,hm',hr.alt,by rw[put_size];exact hr.nt,by rw[put_defers];exact hr.defs⟩
def SWp(P:Program)(B:Base)(c:Code)(Q:Exit->SS->Prop)(s:SS):Prop:= ∀S rho A a w,Rel B S rho A s a w->c.wp P (Post B Q) a w
def thenQ(K:SS->Prop)(Q:Exit->SS->Prop):Exit->SS->Prop
 | .normal,s=>K s
 |e,s=>Q e s
def blockQ(id:Nat)(Q:Exit->SS->Prop):Exit->SS->Prop
 | .exit id',s=>if id'=id then Q .normal s else Q (.exit id') s
 |e,s=>Q e s
theorem SWp.seq{x y:Code}{Q:Exit->SS->Prop}(h: ∀K:SS->Prop,(∀s,SWp P B y Q s->K s)->SWp P B x (thenQ K Q) s):SWp P B (.seq x y) Q s:=by intro S rho A a w hr;refine wp_seq (wp_mono (h (SWp P B y Q) (λ_ h=>h) S rho A a w hr) ?_);rintro e a w ⟨S,rho,A,s,hq,hr⟩;cases e<;>first|exact hq S rho A a w hr|exact⟨S,rho,A,s,hq,hr⟩
theorem SWp.mono{c:Code}{Q Q':Exit->SS->Prop}(h:SWp P B c Q s)(hq: ∀e s,Q e s->Q' e s):SWp P B c Q' s:=
 λS rho A a w hr=>wp_mono (h S rho A a w hr) λ_ _ _ ⟨S,rho,A,s,h1,h2⟩=>⟨S,rho,A,s,hq _ _ h1,h2⟩
theorem SWp.skip{Q:Exit->SS->Prop}(h:Q .normal s):SWp P B .skip Q s:=λS rho A _ _ hr=>wp_skip ⟨S,rho,A,s,h,hr⟩
theorem SWp.exit{id:Nat}{Q:Exit->SS->Prop}(h:Q (.exit id) s):SWp P B (.exit id) Q s:=λS rho A _ _ hr=>wp_exit ⟨S,rho,A,s,h,hr⟩
theorem SWp.ret{Q:Exit->SS->Prop}(h:Q .ret s):SWp P B .ret Q s:=λS rho A _ _ hr=>wp_ret ⟨S,rho,A,s,h,hr⟩
theorem SWp.label{l:Nat}{Q:Exit->SS->Prop}(h:Q .normal s):SWp P B (.label l) Q s:=λS rho A _ _ hr=>wp_label ⟨S,rho,A,s,h,hr⟩
theorem SWp.region{id:Nat}{l:List Oper}{Q:Exit->SS->Prop}(h:SOps P B l.toArray l Q s):SWp P B (.region id l.toArray false) Q s:=λS rho A a w hr=>wp_region_lit (h S rho A a w hr)
theorem SWp.cond{c:Operand}{x y:Code}{Q:Exit->SS->Prop}{t:Bool}(hc:evS s.sl c= .sc (.bool t))(h1:t=true->SWp P B x Q s)(h2:t=false->SWp P B y Q s):SWp P B (.cond c x y) Q s:=by
 intro S rho A a w hr;have hv:=ev_sound hr.mem.tab hr.slots c;rw[hc]at hv;have he:a.eval c= .bool t:=by generalize a.eval c=u at hv⊢;cases hv;rfl
 exact wp_cond_split he (λht=>h1 ht S rho A a w hr) (λht=>h2 ht S rho A a w hr)
theorem SWp.block{id:Nat}{c:Code}{Q:Exit->SS->Prop}(h:SWp P B c (blockQ id Q) s):SWp P B (.block id c) Q s:=by
 intro S rho A a w hr;refine wp_block (wp_mono (h S rho A a w hr) ?_);rintro e a w ⟨S,rho,A,s,hq,hr⟩;cases e<;>first|exact⟨S,rho,A,s,hq,hr⟩|skip
 rename_i id';simp only[blockQ]at hq;simp only[Exit.inBlock];split at hq;·rename_i h;rw[if_pos h];exact⟨S,rho,A,s,hq,hr⟩
 ·rename_i h;rw[if_neg h];exact⟨S,rho,A,s,hq,hr⟩
def scopeQ(Q:Exit->SS->Prop):Exit->SS->Prop
 | .goto _,_=>False
 |e,s=>Q e s
theorem SWp.scope{c:Code}{Q:Exit->SS->Prop}(h:SWp P B c (scopeQ Q) s):SWp P B (.scope c) Q s:=by intro S rho A a w hr;refine wp_scope_straight (wp_mono (h S rho A a w hr) ?_);rintro e a w ⟨S,rho,A,s,hq,hr⟩;cases e<;>first|exact⟨S,rho,A,s,hq,hr⟩|exact hq.elim
def Le(B:Base)(s s':SS):Prop:= ∀S rho A a w,Rel B S rho A s a w-> ∃S' rho' A',Rel B S' rho' A' s' a w
theorem Le.refl(B:Base)(s:SS):Le B s s:=λS rho A _ _ h=>⟨S,rho,A,h⟩
theorem Le.trans{s1 s2 s3:SS}(h:Le B s1 s2)(k:Le B s2 s3):Le B s1 s3:=λS rho A a w hr=>let⟨S',rho',A',hr'⟩:=h S rho A a w hr;k S' rho' A' a w hr'
theorem SWp.weak{c:Code}{Q:Exit->SS->Prop}{s':SS}(h:Le B s s')(k:SWp P B c Q s'):SWp P B c Q s:=λS rho A a w hr=>let⟨S',rho',A',hr'⟩:=h S rho A a w hr;k S' rho' A' a w hr'
theorem SWp.loop{α:Type}{c:Code}{Q:Exit->SS->Prop}(I:α->SS)(Inv:α->Prop)(mu:α->Nat)(x0:α)(h0:Le B s (I x0))(hi:Inv x0)
  (round: ∀x,Inv x-> ∀K:SS->Prop,(∀s' x',Le B s' (I x')->Inv x'->mu x'<mu x->K s')->SWp P B c (thenQ K Q) (I x)):SWp P B (.loop c) Q s:=by
 intro S rho A a w hr;refine wp_loop_ghost (λn a w=> ∃x S rho A,mu x=n/\Inv x/\Rel B S rho A (I x) a w) (mu x0) ?_ ?_
 ·obtain⟨S',rho',A',hr'⟩:=h0 S rho A a w hr;exact⟨x0,S',rho',A',rfl,hi,hr'⟩
 ·rintro n a w ⟨x,S,rho,A,rfl,hx,hr⟩;refine wp_mono (round x hx (λs'=> ∃x',Le B s' (I x')/\Inv x'/\mu x'<mu x) (λs' x' h1 h2 h3=>⟨x',h1,h2,h3⟩) S rho A a w hr) ?_;rintro e a w ⟨S,rho,A,s,hq,hr⟩;cases e with
  |normal=>
   obtain⟨x',h1,h2,h3⟩:=hq;obtain⟨S',rho',A',hr'⟩:=h1 S rho A a w hr;exact⟨mu x',h3,x',S',rho',A',rfl,h2,hr'⟩
  |_=>exact⟨S,rho,A,s,hq,hr⟩
def resV1(P:Program)(s:SS):ResultVar->Option V
 | .tmp t=>some (get s.sl t)
 | .cell p ty=>exLoad P s.hp ty (get s.sl p)
def resV(P:Program)(fn:Func)(s:SS):Option V:=
 match fn.results.toList with
 |[]=>some (.tu [])
 |[r]=>resV1 P s r
 |[r,q]=>(resV1 P s r).bind λx=>(resV1 P s q).map λy=> .tu [x,y]
 |[r,q,t]=>(resV1 P s r).bind λx=>(resV1 P s q).bind λy=>(resV1 P s t).map λz=> .tu [x,y,z]
 |_=>none
def resOne(tmps:Array Value):ResultVar->Sem Value
 | .tmp t=>pure (tmps.getD t undef)
 | .cell p t=>do loadVar t (<-asAddr (tmps.getD p undef))
theorem results_eq(fn:Func)(tmps:Array Value):results fn tmps=(do let vs<-fn.results.mapM (resOne tmps);pure (if h:vs.size=1 then vs[0]else .tuple vs)):=by unfold results;congr 1
theorem res1_sound(hr:Rel B S rho A s a w){r:ResultVar}{x:V}(h:resV1 P s r=some x): ∃v,(resOne a.tmps r).run P w= .ok v w/\R S rho w A x v:=by
 cases r with
 |tmp t=>simp only[resV1,Option.some.injEq]at h;subst h;exact⟨_,rfl,hr.slots t⟩
 |cell p ty=>
  simp only[resV1]at h;have hp:=hr.slots p;have he:a.eval (.tmp p)=a.tmps.getD p undef:=rfl;rw[he]at hp;obtain⟨v,h1,h2⟩:=load_sound (P:=P) hr.mem h hp;refine⟨v,?_,h2⟩;show Sem.run P (do loadVar ty (<-asAddr (a.tmps.getD p undef))) w=_;generalize a.tmps.getD p undef=u at h1 hp⊢;cases u<;>simp only[Instr.loadAt,Instr.sureAddr,Sem.run_bind]at h1<;>try(cases h1;done)
  rename_i ad;cases ad with
  |none=>cases h1
  |some ad=>simpa[asAddr,Sem.run_bind]using h1
theorem res_sound{fn:Func}(hr:Rel B S rho A s a w){x:V}(h:resV P fn s=some x): ∃v,(results fn a.tmps).run P w= .ok v w/\R S rho w A x v:=by
 rw[results_eq];unfold resV at h;split at h
 ·rename_i hl;have hl':fn.results=([]:List ResultVar).toArray:=by rw[<-hl]
  rw[hl'];cases h;exact⟨_,by simp;rfl,.tu (by simp) (λi x u hx=>by simp at hx)⟩
 ·rename_i r hl;have hl':fn.results=[r].toArray:=by rw[<-hl]
  rw[hl'];obtain⟨v,h1,h2⟩:=res1_sound (P:=P) hr h;refine⟨v,?_,h2⟩;simp[Array.mapM_eq_mapM_toList,h1]
 ·rename_i r q hl;have hl':fn.results=[r,q].toArray:=by rw[<-hl]
  rw[hl'];cases hx:resV1 P s r with
  |none=>simp[hx]at h
  | some x1=>
   cases hy:resV1 P s q with
   |none=>simp[hx,hy]at h
   | some y1=>
    simp only[hx,hy,Option.bind_some,Option.map_some,Option.some.injEq]at h;subst h;obtain⟨v,h1,h2⟩:=res1_sound (P:=P) hr hx;obtain⟨u,h3,h4⟩:=res1_sound (P:=P) hr hy;refine⟨.tuple #[v,u],?_,.tu (by simp) (λi x w hx hu=> ?_)⟩;·simp[Array.mapM_eq_mapM_toList,h1,h3]
    ·match i with
     |0=>simp at hx hu;subst hx;subst hu;exact h2
     |1=>simp at hx hu;subst hx;subst hu;exact h4
     |n+2=>simp at hx
 ·rename_i r q t hl;have hl':fn.results=[r,q,t].toArray:=by rw[<-hl]
  rw[hl'];cases hx:resV1 P s r with
  |none=>simp[hx]at h
  | some x1=>
   cases hy:resV1 P s q with
   |none=>simp[hx,hy]at h
   | some y1=>
    cases hz:resV1 P s t with
    |none=>simp[hx,hy,hz]at h
    | some z1=>
     simp only[hx,hy,hz,Option.bind_some,Option.map_some,Option.some.injEq]at h;subst h;obtain⟨v,h1,h2⟩:=res1_sound (P:=P) hr hx;obtain⟨u,h3,h4⟩:=res1_sound (P:=P) hr hy;obtain⟨m,h5,h6⟩:=res1_sound (P:=P) hr hz;refine⟨.tuple #[v,u,m],?_,.tu (by simp) (λi x w hx hu=> ?_)⟩;·simp[Array.mapM_eq_mapM_toList,h1,h3,h5]
     ·match i with
      |0=>simp at hx hu;subst hx;subst hu;exact h2
      |1=>simp at hx hu;subst hx;subst hu;exact h4
      |2=>simp at hx hu;subst hx;subst hu;exact h6
      |n+3=>simp at hx
 ·cases h
def stSl:Nat->List V->List (Nat×V)
 |_,[]=>[]
 |k,x::r=>(k,x)::stSl (k+1) r
def SS.start(args:List V)(n:Nat):SS:=⟨stSl 0 args,[],0,n⟩
theorem get_start(xs:List V)(k t:Nat):get (stSl k xs) t=if k<=t then(xs[t-k]?).getD .junk else .junk:=by
 induction xs generalizing k with
 |nil=>simp[get,stSl]
 | cons x r ih=>
  simp only[get,stSl];by_cases h:t=k;·subst h;simp
  ·rw[if_neg h,ih];by_cases hk:k<=t
   ·rw[if_pos om,if_pos hk];have:t-k=(t-(k+1))+1:=by omega
    rw[this];rfl
   ·rw[if_neg om,if_neg hk]
def retQ(P:Program)(fn:Func)(x:V):Exit->SS->Prop
 | .normal,s| .ret,s=> ∃y ids,resV P fn s=some y/\frz 8 s.hp y=some (x,ids)
 |_,_=>False
theorem Spec.of{f:Nat}{fn:Func}{c:Code}{args:List V}{x:V}(hf:P.funcs[f]? =some fn)(hb:fn.body=some c)(hn:args.length<=fn.ntmps)(h: ∀B:Base,B.Old 0->SWp P B c (retQ P fn x) (SS.start args fn.ntmps)):Spec P f args x:=by
 intro S w vs hS hT hargs;have hlen:vs.size=args.length:=by have:=hargs.1;simpa using this.symm
 refine calls_of_wp hf hb ?_;refine wp_mono (h ⟨w,S,λ_=>False,λ_=>0,λ_=>False,[]⟩ (λ_ h=>h.elim) S (λ_=>0) (λ_=>False) _ w ?_) ?_
 ·refine⟨λt=> ?_,?_,λ_ h=>h.elim,?_,rfl⟩
  ·show R S (λ_=>0) w (λ_=>False) (get (stSl 0 args) t) _;rw[get_start,if_pos (znc _),Nat.sub_zero];cases ht:args[t]?with
   |none=>exact .junk _
   | some y=>
    have hlt:=(List.getElem?_eq_some_iff.1 ht).1;have hu:vs.toList[t]? =some (vs[t]'om):=by simp[hlen,hlt]
    have:=hargs.2 t y _ ht hu;have he:(⟨vs++Array.replicate (fn.ntmps-vs.size) undef,[]⟩:Act).eval (.tmp t)=vs[t]'om:=by simp[Act.eval,Array.getElem?_append,hlen,hlt]
    rw[he];exact this
  ·exact{
    cells:=λid k hk=>by cases hk
    fz:=λid k hk=>by cases hk
    own:=λid k hk=>by cases hk
    inj:=λid id' k k' hk=>by cases hk
    slt:=hS
    sub:=λ_ h=>h
    base:=λ_ h=> .inl h
    frame:=⟨rfl,rfl,rfl,znb _,λ_ _ _=>rfl,λ_ _=>rfl,λ_ _ h=>h,hS,hT⟩
    keep:=λid h=>h.elim}
  ·simp[SS.start];omega
 ·rintro e a w' ⟨S',rho,A,s,hq,hr⟩;have fin:(∃y ids,resV P fn s=some y/\frz 8 s.hp y=some (x,ids))->a.defers=[]/\ ∃v,(results fn a.tmps).run P w'= .ok v w'/\ ∃v',Ending.returned v= .returned v'/\Grow w w'/\Rc (λb=>S b\/(w.heap.size<=b/\b<w'.heap.size)) w' x v':=by
   rintro⟨y,ids,h1,h2⟩;obtain⟨v,h3,h4⟩:=res_sound (P:=P) hr h1;have h5:=frz_sound hr.mem 8 y v x ids h2 h4;have hmf:=hr.mem.freeze ids h5.live;refine⟨hr.defs,v,h3,v,rfl,⟨hr.mem.frame.os,hr.mem.frame.tape,hr.mem.frame.output,hr.mem.frame.size,λb hb=>hr.mem.frame.block b hb (λh=>h)⟩,?_⟩;refine(h5.rep.wide λb hb=> ?_).rho;rcases hmf.base b hb with h|h|h;·exact .inl h
   ·exact .inr ⟨h,hmf.slt b hb⟩
   ·exact h.elim
  cases e with
  |normal=>exact fin hq
  |ret=>exact fin hq
  |_=>exact hq.elim
end
end
end Go.Proofs.YtannldafjkjjbaaGreat
