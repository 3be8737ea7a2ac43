/- Texts joined: Sq Sr Ss St Su Sv. -/
import Derived.Test.YtannldafjkjjbaaGreatVc
set_option linter.all false
set_option maxHeartbeats 16000000
open Nat renaming reduceEqDiff → zn1, reduceLT → zn2, reduceLeDiff → zn3, reduceAdd → zn4, reduceMul → zn5, reduceSub → zn6, reduceBEq → zn7, mul_one → zn8, zero_add → zn9, one_mul → zna, le_refl → znb, zero_le → znc, add_sub_cancel_left → znd, sub_eq_zero_of_le → zne, add_assoc → znf
open Int renaming reduceToNat → zi1, reducePow → zi2
open List renaming length_append → zl1, drop_zero → zl2, take_succ_cons → zl3, take_zero → zl4, getElem?_drop → zl5, append_assoc → zl6, nil_append → zl7, cons_append → zl8, drop_succ_cons → zl9, take_of_length_le → zla, getElem?_eq_getElem → zlb, getElem?_eq_some_iff → zlc, map_cons → zld, map_nil → zle, all_eq_true → zlf
namespace Go.Proofs.YtannldafjkjjbaaGreat
section
open Go.RowKit
section
variable {P:Program} {ops:Array Oper}
theorem DStep.sl{o:Oper}{s s':SS}{e:En}(h:DStep P ops o s e s'):s'.sl=putS s.sl o.dst e.x/\s'.nt=s.nt:=by
 obtain⟨_,⟨f,_,_,_,rfl,_⟩|⟨_,hx,_,_,rfl⟩|⟨_,f,_,_,args,ts,ys,fb,_,_,_,_,_,_,rfl,_⟩|⟨f,args,ts,ys,ids,k0,X,fl,_,_,_,_,_,_,rfl,_⟩|⟨f,args,ts,i,kk,off,len,z,cap,k0,_,_,_,hki,_,_,rfl,htg,_⟩⟩:=h;·exact⟨rfl,rfl⟩
 ·rw[hx];exact⟨rfl,rfl⟩
 ·exact⟨rfl,rfl⟩
 ·exact⟨rfl,rfl⟩
 ·exact⟨rfl,rfl⟩
structure DRun(P:Program)(l:List Oper)(st:Nat->SS)(en:Nat->En):Prop where
 kl:KL (st 0)
 step: ∀(i:Nat) (o:Oper),l[i]? =some o->DStep P l.toArray o (st i) (en i) (st (i+1))
 ord: ∀(i:Nat) (o:Oper),l[i]? =some o-> ∀e∈o.after.toList,Region.binds .any e=true->e.on<i
 slot: ∀(i j:Nat) (oi oj:Oper) (d:Nat),i≠j->l[i]? =some oi->l[j]? =some oj->oj.dst=some d->oi.dst≠some d/\(d∈oi.looksAt l.toArray->cmpB l.toArray i j=true)
 tgt: ∀(i j:Nat) (id:Nat),i≠j->i<l.length->j<l.length->(en j).tg=some id->id∈(en i).tc\/(en i).tg=some id->cmpB l.toArray i j=true
variable {l:List Oper} {st:Nat->SS} {en:Nat->En}
theorem getL{i:Nat}(h:i<l.length): ∃o,l[i]? =some o:=⟨_,zlb h⟩
theorem DRun.klAt(h:DRun P l st en): ∀i,i<=l.length->KL (st i)
 |0,_=>h.kl
 |i+1,hi=>by obtain⟨o,ho⟩:=getL (l:=l) (i:=i) om;exact((h.step i o ho).heap (h.klAt i om)).2.2
theorem DRun.nx (h :DRun P l st en)(i:Nat): ∀j,i<=j->j<=l.length->(st i).nx<=(st j).nx
 | 0, hij, _ => by have:i=0:=by omega
                   subst this;exact znb _
 | j+1,hij,hj=>by
  by_cases e:i=j+1;·subst e;exact znb _
  ·obtain⟨o,ho⟩:=getL (l:=l) (i:=j) om;exact Nat.le_trans (h.nx i j om om) ((h.step j o ho).heap (h.klAt j om)).2.1
theorem DRun.nt(h:DRun P l st en): ∀i,i<=l.length->(st i).nt=(st 0).nt
 |0,_=>rfl
 |i+1,hi=>by obtain⟨o,ho⟩:=getL (l:=l) (i:=i) om;exact((h.step i o ho).sl).2.trans (h.nt i om)
theorem DRun.chain (h :DRun P l st en){i:Nat}{id:Nat}{k:Blk}(hk:hget (st i).hp id=some k): ∀j,i<=j->j<=l.length->(∀m,i<=m->m<j->(en m).tg≠some id)->
  ∃k',hget (st j).hp id=some k'/\k'.ty=k.ty/\k'.cs=k.cs/\(k'.fz=false->k.fz=false)
 | 0, hij, _, _ => by have:i=0:=by omega
                      subst this;exact⟨k,hk,rfl,rfl,λh=>h⟩
 | j+1,hij,hj,hm=>by
  by_cases e:i=j+1;·subst e;exact⟨k,hk,rfl,rfl,λh=>h⟩
  ·obtain⟨o,ho⟩:=getL (l:=l) (i:=j) om;obtain⟨k1,a1,a2,a3,a4⟩:=h.chain hk j om om (λm h1 h2=>hm m h1 om);obtain⟨k2,b1,⟨c1,c2⟩,b3⟩:=((h.step j o ho).heap (h.klAt j om)).1 id k1 a1 (hm j om om);exact⟨k2,b1,c1.trans a2,c2.trans a3,λh=>a4 (b3 h)⟩
theorem DRun.slot0(h:DRun P l st en){t:Nat}: ∀i,i<=l.length->(∀j o,j<i->l[j]? =some o->o.dst≠some t)->get (st i).sl t=get (st 0).sl t
 |0,_,_=>rfl
 | i+1,hi,hn=>by
  obtain⟨o,ho⟩:=getL (l:=l) (i:=i) om;rw[((h.step i o ho).sl).1];have:=hn i o om ho;have ih:=h.slot0 (t:=t) i om (λj o hj=>hn j o om);cases hd:o.dst with
  |none=>exact ih
  |some d=>
   rw[hd]at this;simp only[putS,get];rw[if_neg (λe=>this (by rw[e]))];exact ih
theorem DRun.slotx(h:DRun P l st en){t j:Nat}{oj:Oper}(hj:l[j]? =some oj)(hd:oj.dst=some t): ∀i,j<i->i<=l.length->get (st i).sl t=(en j).x
 |0,hji,_=>by omega
 | i+1,hji,hi=>by
  obtain⟨o,ho⟩:=getL (l:=l) (i:=i) om;rw[((h.step i o ho).sl).1];by_cases e:j=i
  ·subst e;rw[ho]at hj;cases hj;rw[hd];simp[putS,get]
  ·have hne:=(h.slot i j o oj t (λe'=>e e'.symm) ho hj hd).1;have ih:=h.slotx hj hd i om om;cases hd':o.dst with
   |none=>exact ih
   |some d=>
    rw[hd']at hne;simp only[putS,get];rw[if_neg (λe=>hne (by rw[e]))];exact ih
theorem depB_lt(h:DRun P l st en){i j:Nat}(hd:depB l.toArray i j=true):j<i:=by
 unfold depB at hd;split at hd
 ·rename_i o ho;rw[List.getElem?_toArray]at ho;rw[Array.any_eq_true']at hd;obtain⟨e,he,hb⟩:=hd;rw[Bool.and_eq_true]at hb;have:=h.ord i o ho e (by simpa using he) hb.1;rw[beq_iff_eq]at hb;omega
 ·cases hd
theorem reach_lt(h:DRun P l st en): ∀(f i j:Nat),reachB l.toArray f i j=true->j<i
 |0,_,_,hr=>by cases hr
 | f+1,i,j,hr=>by
  simp only[reachB,Bool.or_eq_true,List.any_eq_true,Bool.and_eq_true]at hr;rcases hr with hr|⟨m,_,h1,h2⟩;·exact depB_lt h hr
  ·have:=reach_lt h f m j h2;have:=depB_lt h h1;omega
theorem cmp_done(h:DRun P l st en){L:Nat->Bool}(hc: ∀i j,L i=true->depB l.toArray i j=true->L j=true){i j:Nat}(hi:L i=false)(hd: ∀m,depB l.toArray i m=true->L m=true)(hij:cmpB l.toArray i j=true):
  L j=true↔j<i:=by
 unfold cmpB at hij;rw[Bool.or_eq_true]at hij;rcases hij with hr|hr;·exact⟨λ_=>reach_lt h 7 i j hr,λ_=>reachB_spec hc 7 i j hr hd⟩
 ·have hlt:=reach_lt h 7 j i hr;refine⟨λhj=> ?_,λhlt'=>by omega⟩;have:=reachB_spec hc 7 j i hr (λm hm=>hc j m hj hm);rw[hi]at this;cases this
def nextC(n:Nat)(en:Nat->En)(L:Nat->Bool)(id:Nat):Nat:=((List.range n).find? λi=>(en i).tg==some id&& !L i).getD n
theorem nextC_le(n:Nat)(L:Nat->Bool)(id:Nat):nextC n en L id<=n:=by
 unfold nextC;cases h:(List.range n).find? λi=>(en i).tg==some id&& !L i with
 |none=>exact znb _
 |some i=>have:=List.mem_of_find?_eq_some h;have:=List.mem_range.1 this;simp;omega
theorem nextC_lt{n:Nat}{L:Nat->Bool}{id:Nat}{m:Nat}(hm:m<nextC n en L id)(ht:(en m).tg=some id):L m=true:=by
 unfold nextC at hm;cases h:(List.range n).find? λi=>(en i).tg==some id&& !L i with
 |none=>
  rw[h]at hm;have:=List.find?_eq_none.1 h m (List.mem_range.2 hm);simpa[ht]using this
 | some i=>
  rw[h]at hm;simp only[Option.getD_some]at hm;rw[List.find?_eq_some_iff_append]at h;obtain⟨_,az,bs,he,ha⟩:=h;have hlen:m<az.length:=by
   have hi:(List.range n)[az.length]? =some i:=by rw[he];simp
   have:=(List.getElem?_eq_some_iff.1 hi)
   obtain⟨h1,h2⟩:=this;simp at h2;omega
  have hmem:m∈az:=by
   have h1:(List.range n)[m]? =az[m]? :=by rw[he];simp[List.getElem?_append,hlen]
   have hn:m<n:=by
    have:az.length<=n:=by have:=congrArg List.length he;simp at this;omega
    omega
   rw[List.getElem?_range hn]at h1;exact List.mem_of_getElem? h1.symm
  have:=ha m hmem;simpa[ht]using this
theorem nextC_at{n:Nat}{L:Nat->Bool}{id:Nat}(hq:nextC n en L id<n):(en (nextC n en L id)).tg=some id/\L (nextC n en L id)=false:=by
 unfold nextC at hq⊢;cases h:(List.range n).find? λi=>(en i).tg==some id&& !L i with
 |none=>rw[h]at hq;simp at hq
 |some i=>
  have:=List.find?_some h;simpa using this
theorem nextC_eq{n:Nat}{L:Nat->Bool}{id q:Nat}(hq:q<=n)(h1: ∀m,m<q->(en m).tg=some id->L m=true)(h2:q<n->(en q).tg=some id/\L q=false):nextC n en L id=q:=by
 rcases Nat.lt_trichotomy (nextC n en L id) q with h|h|h
 ·have:=nextC_at (Nat.lt_of_lt_of_le h hq);have:=h1 _ h this.1;simp_all
 ·exact h
 ·have hn:=nextC_le (en:=en) n L id;obtain⟨a,b⟩:=h2 om;rw[nextC_lt h a]at b;cases b
def keysD(n:Nat)(st:Nat->SS):List Nat:=(List.range (n+1)).flatMap λi=>(st i).hp.map (·.1)
def hpD(n:Nat)(st:Nat->SS)(en:Nat->En)(L:Nat->Bool):List (Nat×Blk):=(keysD n st).filterMap λid=>(hget (st (nextC n en L id)).hp id).map λk=>(id,k)
theorem hget_fm(f:Nat->Option Blk)(ks:List Nat)(id:Nat):hget (ks.filterMap λi=>(f i).map λk=>(i,k)) id=if id∈ks then f id else none:=by
 induction ks with
 |nil=>rfl
 | cons a r ih=>
  rw[List.filterMap_cons];cases ha:f a with
  |none=>
   simp only[Option.map_none,ih,List.mem_cons];by_cases e:id=a;·subst e;simp[ha]
   ·simp[e]
  |some k=>
   simp only[Option.map_some,hget,ih,List.mem_cons];by_cases e:id=a;·subst e;simp[ha]
   ·simp[e]
theorem mem_keys{hp:List (Nat×Blk)}{id:Nat}{k:Blk}(h:hget hp id=some k):id∈hp.map (·.1):=by
 induction hp with
 |nil=>cases h
 |cons p r ih=>
  obtain⟨i,q⟩:=p;simp only[hget]at h;by_cases e:id=i;·simp[e]
  ·rw[if_neg e]at h;exact List.mem_cons_of_mem _ (ih h)
theorem hget_hpD(_:DRun P l st en)(L:Nat->Bool)(id:Nat):hget (hpD l.length st en L) id=hget (st (nextC l.length en L id)).hp id:=by
 unfold hpD;rw[hget_fm λid=>hget (st (nextC l.length en L id)).hp id];split;·rfl
 ·rename_i hm;cases hk:hget (st (nextC l.length en L id)).hp id with
  |none=>rfl
  |some k=>
   exact absurd (List.mem_flatMap.2 ⟨_,List.mem_range.2 (Nat.lt_succ_of_le (nextC_le l.length L id)),mem_keys hk⟩) hm
theorem Mem.turn{B:Base}{S:Nat->Prop}{rho:Nat->Nat}{A:Nat->Prop}{hp hp':List (Nat×Blk)}{w:World}(h:Mem B S rho A hp w)
  (ht: ∀id k',hget hp' id=some k'->A id-> ∃k,hget hp id=some k/\k'.ty=k.ty/\k'.cs=k.cs/\(k'.fz=false->k.fz=false)):Mem B S rho A hp' w where
 cells id k' hk ha:=by obtain⟨k,h1,h2,h3,_⟩:=ht id k' hk ha;obtain⟨cells,c1,c2⟩:=h.cells id k h1 ha;exact⟨cells,by rw[h2];exact c1,by rw[h3];exact c2⟩
 fz id k' hk ha h0:=by obtain⟨k,h1,_,_,h4⟩:=ht id k' hk ha;exact h.fz id k h1 ha (h4 h0)
 own id k' hk ha:=by obtain⟨k,h1,_⟩:=ht id k' hk ha;exact h.own id k h1 ha
 inj id id' k k' hk hk' ha ha':=by obtain⟨q,h1,_⟩:=ht id k hk ha;obtain⟨q',h1',_⟩:=ht id' k' hk' ha';exact h.inj id id' q q' h1 h1' ha ha'
 slt:=h.slt
 sub:=h.sub
 base:=h.base
 frame:=h.frame
 keep:=h.keep
def restr(sl:List (Nat×V))(ts:List Nat):List (Nat×V):=ts.map λt=>(t,get sl t)
theorem get_restr(sl:List (Nat×V))(ts:List Nat)(t:Nat):get (restr sl ts) t=if t∈ts then get sl t else .junk:=by
 induction ts with
 |nil=>rfl
 |cons a r ih=>
  simp only[restr,zld,get]at ih⊢;by_cases e:t=a;·subst e;simp
  ·rw[if_neg e,ih];simp[e]
def made(f:Option Nat):Nat->Prop:=λid=>f=some id
structure DInv(B:Base)(l:List Oper)(st:Nat->SS)(en:Nat->En)(L:Nat->Bool)(S:Nat->Prop)(rho:Nat->Nat)(A:Nat->Prop)(a:Act)(w:World):Prop where
 mem:Mem B S rho A (hpD l.length st en L) w
 done: ∀t j o,l[j]? =some o->o.dst=some t->L j=true->R S rho w A (en j).x (a.eval (.tmp t))
 open': ∀t,(∀j o,l[j]? =some o->o.dst=some t->L j=false)->R S rho w A (get (st 0).sl t) (a.eval (.tmp t))
 num: ∀id,A id->id<(st 0).nx\/ ∃j,j<l.length/\L j=true/\(st j).nx=id/\(st j).nx<(st (j+1)).nx
 size:a.tmps.size=(st 0).nt
 defs:a.defers=B.D
 closed: ∀i j,L i=true->depB l.toArray i j=true->L j=true
theorem DInv.slot{B:Base}{L:Nat->Bool}{S:Nat->Prop}{rho:Nat->Nat}{A:Nat->Prop}{a:Act}{w:World}(h:DRun P l st en)(hI:DInv B l st en L S rho A a w){i:Nat}{o:Oper}(ho:l[i]? =some o)(hi:L i=false)
  (hd: ∀m,depB l.toArray i m=true->L m=true) {t:Nat} (ht:t∈o.looksAt l.toArray):R S rho w A (get (st i).sl t) (a.eval (.tmp t)):=by
 have hil:i<l.length:=(List.getElem?_eq_some_iff.1 ho).1;by_cases hex: ∃j oj,j≠i/\l[j]? =some oj/\oj.dst=some t
 ·obtain⟨j,oj,hji,hj,hdj⟩:=hex;have hjl:j<l.length:=(List.getElem?_eq_some_iff.1 hj).1;have hcmp:=(h.slot i j o oj t (λe=>hji e.symm) ho hj hdj).2 ht;have hiff:=cmp_done h hI.closed hi hd hcmp;by_cases hlt:j<i
  ·rw[h.slotx hj hdj i hlt om];exact hI.done t j oj hj hdj (hiff.2 hlt)
  ·have hL:L j=false:=by
    cases hb:L j with
    |false=>rfl
    |true=>exact absurd (hiff.1 hb) hlt
   have only: ∀m om,l[m]? =some om->om.dst=some t->m=j:=by
    intro m om hm hdm;by_cases e:m=j;·exact e
    ·exact absurd hdm (h.slot m j om oj t e hm hj hdj).1
   rw[h.slot0 i om (λm om hm hom hdm=>by have:=only m om hom hdm;omega)];exact hI.open' t λm om hm hdm=>by rw[only m om hm hdm];exact hL
 ·have hno: ∀j oj,l[j]? =some oj->oj.dst=some t->j=i:=by
   intro j oj hj hdj;by_cases e:j=i;·exact e
   ·exact absurd ⟨j,oj,e,hj,hdj⟩ hex
  rw[h.slot0 i om (λm om hm hom hdm=>by have:=hno m om hom hdm;omega)];exact hI.open' t λm om hm hdm=>by rw[hno m om hm hdm];exact hi
theorem DInv.blk{B:Base}{L:Nat->Bool}{S:Nat->Prop}{rho:Nat->Nat}{A:Nat->Prop}{a:Act}{w:World}(h:DRun P l st en)(hI:DInv B l st en L S rho A a w){i:Nat}(hil:i<l.length)(hi:L i=false)
  (hd: ∀m,depB l.toArray i m=true->L m=true) {id:Nat} (ht:id∈(en i).tc\/(en i).tg=some id):
  i<=nextC l.length en L id/\(∀m,i<m->m<nextC l.length en L id->(en m).tg≠some id)/\((en i).tg=some id->nextC l.length en L id=i):=by
 have hcmp: ∀j,j≠i->j<l.length->(en j).tg=some id->(L j=true↔j<i):=λj hji hjl hj=>cmp_done h hI.closed hi hd (h.tgt i j id (λe=>hji e.symm) hil hjl hj ht);have hq:=nextC_le (en:=en) l.length L id;have h1:i<=nextC l.length en L id:=by
  rcases Nat.lt_or_ge (nextC l.length en L id) i with hlt|hge
  ·obtain⟨a1,a2⟩:=nextC_at (n:=l.length) (en:=en) (L:=L) (id:=id) om;have:=(hcmp _ om om a1).2 hlt;rw[a2]at this;cases this
  ·exact hge
 refine⟨h1,λm hm1 hm2 hm=> ?_,λhti=>nextC_eq om (λm hm hmt=>(hcmp m om om hmt).2 hm) (λ_=>⟨hti,hi⟩)⟩;have:=(hcmp m om om hm).1 (nextC_lt hm2 hm);omega
theorem DInv.agr0{B:Base}{L:Nat->Bool}{S:Nat->Prop}{rho:Nat->Nat}{A:Nat->Prop}{a:Act}{w:World}(h:DRun P l st en)(hI:DInv B l st en L S rho A a w){i:Nat}(hil:i<l.length)(hi:L i=false)
  (hd: ∀m,depB l.toArray i m=true->L m=true) {id:Nat} (ht:id∈(en i).tc):Go.Proofs.YtannldafjkjjbaaGreat.agr0 (hget (hpD l.length st en L) id) (hget (st i).hp id):=by
 intro k hk;rw[hget_hpD h];obtain⟨h1,h2,h3⟩:=hI.blk h hil hi hd (.inl ht);by_cases hti:(en i).tg=some id;·rw[h3 hti];exact⟨k,hk,rfl,rfl⟩
 ·obtain⟨k',a1,a2,a3,_⟩:=h.chain hk _ h1 (nextC_le _ _ _) (λm hm1 hm2=>by
   by_cases e:m=i;·subst e;exact hti
   ·exact h2 m om hm2)
  exact⟨k',a1,a2,a3⟩
end
end
section
open Go.RowKit
section
variable {P:Program} {l:List Oper} {st:Nat->SS} {en:Nat->En}
theorem DStep.born{ops:Array Oper}{o:Oper}{s s':SS}{e:En}(h:DStep P ops o s e s'){id:Nat}{k':Blk}(hk:hget s'.hp id=some k'):(∃k,hget s.hp id=some k)\/id=s.nx:=by
 obtain⟨_,⟨f,hg,hok,he,rfl,htg,htc,hna⟩|⟨_,_,_,_,rfl⟩|⟨_,f,_,_,args,ts,ys,fb,_,_,_,_,_,_,rfl,_⟩|⟨f,args,ts,ys,ids,k0,X,fl,_,_,_,_,_,_,rfl,_⟩|⟨f,args,ts,i,kk,off,len,z,cap,k0,_,_,_,hki,_,_,rfl,htg,_⟩⟩:=h
 ·cases f with
  |none=>exact .inl ⟨k',hk⟩
  |new k0=>
   have hk:hget ((s.nx,k0)::s.hp) id=some k':=hk;simp only[hget]at hk;by_cases e:id=s.nx;·exact .inr e
   ·rw[if_neg e]at hk;exact .inl ⟨k',hk⟩
  | set i k0=>
   have hk:hget (hset s.hp i k0) id=some k':=hk;rw[hget_hset]at hk;by_cases e:id=i
   ·subst e;rw[if_pos rfl]at hk;obtain⟨k,h1,_⟩:=Option.map_eq hk;exact .inl ⟨k,h1⟩
   ·rw[if_neg e]at hk;exact .inl ⟨k',hk⟩
  | app i k0=>
   have hk:hget ((s.nx,k0)::hdel s.hp i) id=some k':=hk;simp only[hget]at hk;by_cases e:id=s.nx;·exact .inr e
   ·rw[if_neg e,hget_hdel]at hk;split at hk;·cases hk
    ·exact .inl ⟨k',hk⟩
 ·exact .inl ⟨k',hk⟩
 ·have hk:hget (if fb=true then s.hp else fzHp s.hp e.tc) id=some k':=hk;by_cases hf:fb=true;·rw[if_pos hf]at hk;exact .inl ⟨k',hk⟩
  ·rw[if_neg hf,hget_fz]at hk;obtain⟨k,h1,_⟩:=Option.map_eq hk;exact .inl ⟨k,h1⟩
 ·have hk:hget ((s.nx,k0)::s.hp) id=some k':=hk;simp only[hget]at hk;by_cases e:id=s.nx;·exact .inr e
  ·rw[if_neg e]at hk;exact .inl ⟨k',hk⟩
 ·have hk:hget ((s.nx,k0)::hdel s.hp i) id=some k':=hk;simp only[hget]at hk;by_cases e:id=s.nx;·exact .inr e
  ·rw[if_neg e,hget_hdel]at hk;split at hk;·cases hk
   ·exact .inl ⟨k',hk⟩
theorem DRun.born(h:DRun P l st en){id:Nat}(hid:id<(st 0).nx): ∀j,j<=l.length-> ∀k',hget (st j).hp id=some k'-> ∃k,hget (st 0).hp id=some k
 |0,_,k',hk=>⟨k',hk⟩
 |j+1,hj,k',hk=>by
  obtain⟨o,ho⟩:=getL (l:=l) (i:=j) om;rcases(h.step j o ho).born hk with⟨k,h1⟩|h1;·exact h.born hid j om k h1
  ·have:=h.nx 0 j om om;omega
theorem DRun.gone (h:DRun P l st en){i id:Nat}(hn:hget (st i).hp id=none)(hid:id<(st i).nx): ∀j,i<=j->j<=l.length->hget (st j).hp id=none
 | 0, hij, _ => by have:i=0:=by omega
                   subst this;exact hn
 | j+1,hij,hj=>by
  by_cases e:i=j+1;·subst e;exact hn
  ·obtain⟨o,ho⟩:=getL (l:=l) (i:=j) om;have ih:=h.gone hn hid j om om;cases hk:hget (st (j+1)).hp id with
   |none=>rfl
   |some k=>
    rcases(h.step j o ho).born hk with⟨k1,h1⟩|h1;·rw[ih]at h1;cases h1
    ·have:=h.nx i j om om;omega
def addL(L:Nat->Bool)(i:Nat):Nat->Bool:=λj=>if j=i then true else L j
theorem next_same{L:Nat->Bool}{i id:Nat}(hi:L i=false)(ht:(en i).tg≠some id):nextC l.length en (addL L i) id=nextC l.length en L id:=by
 refine nextC_eq (nextC_le _ _ _) (λm hm hmt=> ?_) (λhq=> ?_)
 ·have:=nextC_lt hm hmt;unfold addL;split;·rfl
  ·exact this
 ·obtain⟨a,b⟩:=nextC_at hq;refine⟨a,?_⟩;unfold addL;rw[if_neg (λe=>ht (by rw[<-e];exact a))];exact b
theorem guard_restr{ops:Array Oper}{o:Oper}(sl:List (Nat×V)):guardV ops (restr sl (o.looksAt ops)) o.guard=guardV ops sl o.guard:=by
 cases hg:o.guard with
 |none=>rfl
 | some p=>
  obtain⟨j,want⟩:=p;simp only[guardV];cases hd:(ops[j]?).bind (·.dst)with
  |none=>rfl
  | some d=>
   have:d∈o.looksAt ops:=by unfold Oper.looksAt;rw[List.mem_append];refine .inr ?_;rw[hg];simp[hd]
   simp only[get_restr,if_pos this]
theorem ev_restr{ops:Array Oper}{o:Oper}(sl:List (Nat×V)){y:Operand}(hy:y∈o.op.operands.toList):evS (restr sl (o.looksAt ops)) y=evS sl y:=by
 cases y with
 | tmp t=>
  have:t∈o.looksAt ops:=by unfold Oper.looksAt;rw[List.mem_append];exact .inl (List.mem_filterMap.2 ⟨.tmp t,hy,rfl⟩)
  simp only[evS,get_restr,if_pos this]
 |_=>rfl
theorem eval_put_same(a:Act){t:Nat}(v:Value)(h:t<a.tmps.size):(a.put (some t) v).eval (.tmp t)=v:=by simp[Act.eval,Act.put,h]
theorem eval_put_other(a:Act){d:Option Nat}{t:Nat}(v:Value)(h:d≠some t):(a.put d v).eval (.tmp t)=a.eval (.tmp t):=Act.eval_put (by intro d' hd' e;cases e;exact h hd')
theorem DInv.next{B:Base}{L:Nat->Bool}{S S':Nat->Prop}{rho rho':Nat->Nat}{A A':Nat->Prop}{a:Act}{w w':World}(h:DRun P l st en)(hI:DInv B l st en L S rho A a w){i:Nat}{o:Oper}(ho:l[i]? =some o)
  (hd: ∀m,depB l.toArray i m=true->L m=true) {v:Value} (hdst:dstOk o.dst (st i).nt=true) (hS: ∀b,S b->S' b/\w'.heap[b]? =w.heap[b]?) (hA: ∀id,A id->A' id/\rho' id=rho id/\ ∀n,szAt w (rho id) n->szAt w' (rho id) n)
  (hm:Mem B S' rho' A' (hpD l.length st en (addL L i)) w') (hx:R S' rho' w' A' (en i).x v) (hnum: ∀id,A' id->A id\/((st i).nx=id/\(st i).nx<(st (i+1)).nx)):DInv B l st en (addL L i) S' rho' A' (a.put o.dst v) w':=by
 have hil:i<l.length:=(List.getElem?_eq_some_iff.1 ho).1;exact{
  mem:=hm
  done:=λt j oj hj hdj hL=>by
   by_cases e:j=i
   ·subst e;rw[ho]at hj;cases hj;rw[hdj];rw[eval_put_same a v (by
     rw[hI.size,<-h.nt j om];rw[hdj]at hdst;simpa[dstOk]using hdst)]
    exact hx
   ·unfold addL at hL;rw[if_neg e]at hL;rw[eval_put_other a v (λhd'=>(h.slot i j o oj t (λe'=>e e'.symm) ho hj hdj).1 hd')];exact(hI.done t j oj hj hdj hL).mono hS hA
  open':=λt hall=>by
   have hne:o.dst≠some t:=λhd'=>by have:=hall i o ho hd';simp[addL]at this
   rw[eval_put_other a v hne];refine(hI.open' t λj oj hj hdj=> ?_).mono hS hA;have:=hall j oj hj hdj;unfold addL at this;split at this;·cases this
   ·exact this
  num:=λid hid=>by
   rcases hnum id hid with h1|⟨h1,h2⟩
   ·rcases hI.num id h1 with h2|⟨j,hj,hL,h3⟩;·exact .inl h2
    ·exact .inr ⟨j,hj,by unfold addL;split;rfl;exact hL,h3⟩
   ·exact .inr ⟨i,hil,by simp[addL],h1,h2⟩
  size:=by rw[put_size];exact hI.size
  defs:=by rw[put_defers];exact hI.defs
  closed:=λc j hcL hcd=>by
   unfold addL at hcL⊢;split;·rfl
   ·by_cases e:c=i;·subst e;exact hd j hcd
    ·rw[if_neg e]at hcL;exact hI.closed c j hcL hcd}
theorem DInv.fresh{B:Base}{L:Nat->Bool}{S:Nat->Prop}{rho:Nat->Nat}{A:Nat->Prop}{a:Act}{w:World}(h:DRun P l st en)(hI:DInv B l st en L S rho A a w): ¬A (st l.length).nx:=by
 intro hA;rcases hI.num _ hA with h1|⟨j,hj,_,h2,h3⟩;·have:=h.nx 0 l.length om (znb _);omega
 ·have:=h.nx (j+1) l.length om (znb _);omega
theorem DInv.fresh'{B:Base}{L:Nat->Bool}{S:Nat->Prop}{rho:Nat->Nat}{A:Nat->Prop}{a:Act}{w:World}(h:DRun P l st en)(hI:DInv B l st en L S rho A a w){i:Nat}(hil:i<l.length)(hi:L i=false)(hn:(st i).nx<(st (i+1)).nx): ¬A (st i).nx:=by
 intro hA;rcases hI.num _ hA with h1|⟨j,hj,hL,h2,h3⟩;·have:=h.nx 0 i om om;omega
 ·have hji:j≠i:=by intro e;subst e;rw[hi]at hL;cases hL
  rcases Nat.lt_or_ge j i with hlt|hge;·have:=h.nx (j+1) i om om;omega
  ·have:=h.nx (i+1) j om om;omega
end
end
section
open Go.RowKit
section
variable {P:Program} {l:List Oper} {st:Nat->SS} {en:Nat->En}
theorem frzAll_live{g:V->Option (V×List Nat)}{p:Nat->Prop}(hg: ∀x y ids,g x=some (y,ids)-> ∀id∈ids,p id): ∀{cs ys:List V} {ids:List Nat},frzAll g cs=some (ys,ids)-> ∀id∈ids,p id
 |[],ys,ids,h=>by simp only[frzAll,Option.some.injEq,Prod.mk.injEq]at h;obtain⟨_,rfl⟩:=h;simp
 | c::r,ys,ids,h=>by
  simp only[frzAll]at h;cases hc:g c with
  |none=>simp[hc]at h
  | some q=>
   cases hr:frzAll g r with
   |none=>simp[hc,hr]at h
   |some u=>
    obtain⟨y,i1⟩:=q;obtain⟨zs,i2⟩:=u;simp only[hc,hr,Option.bind_some,Option.map_some,Option.some.injEq,Prod.mk.injEq]at h;obtain⟨_,rfl⟩:=h;intro id hid;rcases List.mem_append.1 hid with h1|h1;·exact hg c y i1 hc id h1
    ·exact frzAll_live hg hr id h1
theorem frzL_live{g:V->Option (V×List Nat)}{p:Nat->Prop}(hg: ∀x y ids,g x=some (y,ids)-> ∀id∈ids,p id){cs ys:List V}{ids:List Nat}(h:frzL g cs=some (ys,ids)): ∀id∈ids,p id:=by
 unfold frzL at h;split at h;·simp only[Option.some.injEq,Prod.mk.injEq]at h;obtain⟨_,rfl⟩:=h;simp
 ·exact frzAll_live hg h
theorem frz_live{hp:List (Nat×Blk)}: ∀(n:Nat) (x y:V) (ids:List Nat),frz n hp x=some (y,ids)-> ∀id∈ids,∃k,hget hp id=some k
 |0,x,y,ids,h=>by simp[frz]at h
 | n +1,x,y,ids,h=>by
  have ih:=frz_live (hp:=hp) n;cases x with
  |ag cs=>
   rw[frz_ag]at h;obtain⟨⟨ys,i1⟩,h1,h2⟩:=Option.map_eq h;cases h2;exact frzL_live (p:=λid=> ∃k,hget hp id=some k) ih h1
  |tu cs=>
   rw[frz_tu]at h;obtain⟨⟨ys,i1⟩,h1,h2⟩:=Option.map_eq h;cases h2;exact frzL_live (p:=λid=> ∃k,hget hp id=some k) ih h1
  | sl id off len z c=>
   rw[frz_sl]at h;cases hs:srcG off len z (hget hp id)with
   |none=>rw[hs]at h;cases h
   | some q=>
    rw[hs]at h;simp only[fzQ]at h;obtain⟨⟨ys,i1⟩,h1,h2⟩:=Option.map_eq h;cases h2;intro j hj;rcases List.mem_cons.1 hj with rfl|hj
    ·cases hk:hget hp j with
     |none=>rw[hk]at hs;cases hs
     |some k=>exact⟨k,rfl⟩
    ·exact frzL_live (p:=λid=> ∃k,hget hp id=some k) ih h1 j hj
  |sc v=>
   simp only[frz]at h;split at h<;>first|(cases h;intro id hid;cases hid;done)|(rename_i e;cases e;done)|contradiction
  | pt id off=>
   rw[frz_pt]at h;cases hk:hget hp id with
   |none=>rw[hk]at h;cases h
   |some k=>
    rw[hk]at h;obtain⟨⟨ys,i1⟩,h1,h2⟩:=Option.map_eq h;cases h2;intro j hj;rcases List.mem_cons.1 hj with rfl|hj;·exact⟨k,hk⟩
    ·exact frzL_live (p:=λid=> ∃k,hget hp id=some k) ih h1 j hj
  |im cs len=>simp only[frz]at h;cases h;simp
  |pi cs=>simp only[frz]at h;cases h;simp
  | fn f p q=>
   rw[frz_fn]at h;cases hp1:frzL (frz n hp) p with
   |none=>rw[hp1]at h;cases h
   | some a=>
    cases hq1:frzL (frz n hp) q with
    |none=>rw[hp1,hq1]at h;cases h
    |some b=>
     obtain⟨a1,i1⟩:=a;obtain⟨b1,i2⟩:=b;rw[hp1,hq1]at h;cases h;intro j hj;rcases List.mem_append.1 hj with hj|hj;·exact frzL_live (p:=λid=> ∃k,hget hp id=some k) ih hp1 j hj
     ·exact frzL_live (p:=λid=> ∃k,hget hp id=some k) ih hq1 j hj
  | ifc t x=>
   rw[frz_ifc]at h;cases hq:frz n hp x with
   |none=>rw[hq]at h;cases h
   |some q=>
    obtain⟨y0,i1⟩:=q;rw[hq]at h;cases h;exact ih _ _ _ hq
  |_=>simp only[frz]at h;cases h
theorem addL_false{L:Nat->Bool}{i j:Nat}(h:addL L i j=false):j≠i/\L j=false:=by
 unfold addL at h;split at h;·cases h
 ·exact⟨‹_›,h⟩
theorem DInv.slots{B:Base}{L:Nat->Bool}{S:Nat->Prop}{rho:Nat->Nat}{A:Nat->Prop}{a:Act}{w:World}(h:DRun P l st en)(hI:DInv B l st en L S rho A a w){i:Nat}{o:Oper}(ho:l[i]? =some o)(hi:L i=false)
  (hd: ∀m,depB l.toArray i m=true->L m=true) (t:Nat):R S rho w A (get (restr (st i).sl (o.looksAt l.toArray)) t) (a.eval (.tmp t)):=by
 rw[get_restr];split;·rename_i ht;exact hI.slot h ho hi hd ht
 ·exact .junk _
theorem DInv.same{B:Base}{L:Nat->Bool}{i:Nat}(h:DRun P l st en)(hi:L i=false)(ht:(en i).tg=none)(id:Nat):hget (hpD l.length st en (addL L i)) id=hget (hpD l.length st en L) id:=by rw[hget_hpD h,hget_hpD h,next_same hi (by rw[ht];simp)]
theorem DInv.stepOp{B:Base}{L:Nat->Bool}{S:Nat->Prop}{rho:Nat->Nat}{A:Nat->Prop}{a:Act}{w:World}(h:DRun P l st en)(hI:DInv B l st en L S rho A a w){i:Nat}{o:Oper}(ho:l[i]? =some o)(hi:L i=false)
  (hd: ∀m,depB l.toArray i m=true->L m=true) {f:Eff} (hdst:dstOk o.dst (st i).nt=true) (hok:okOp o.op=true) (he:exOp P (st i).sl (st i).hp (st i).nx o.op=some ((en i).x,f)) (hs':st (i+1)=(st i).put o.dst (en i).x f)
  (htg:(en i).tg=tgE f) (htc:(en i).tc=rdOf (st i).sl o.op++crE f (st i).nx) (hna:noApp f=true):
  ∃v w' S' rho' A',((execOp a.eval o).run P w= .ok (.value v) w'\/((execOp a.eval o).run P w= .ok .skip w'/\v=undef))/\DInv B l st en (addL L i) S' rho' A' (a.put o.dst v) w':=by
 have hil:i<l.length:=(List.getElem?_eq_some_iff.1 ho).1;have hsl:=hI.slots h ho hi hd;have hnx:(st (i+1)).nx=f.next (st i).nx:=by rw[hs'];rfl
 obtain⟨nx',hn1,hn2,hn3⟩: ∃nx',(nx'=(st i).nx\/isNew f=false)/\ ¬A nx'/\(isNew f=true->nx'=(st i).nx):=by
  cases f with
  |new k=>exact⟨(st i).nx,.inl rfl,hI.fresh' h hil hi (by rw[hnx];simp[Eff.next]),λ_=>rfl⟩
  |none=>exact⟨(st l.length).nx,.inr rfl,hI.fresh h,λe=>by cases e⟩
  |set id k=>exact⟨(st l.length).nx,.inr rfl,hI.fresh h,λe=>by cases e⟩
  |app id k=>exact⟨(st i).nx,.inl rfl,hI.fresh' h hil hi (by rw[hnx];simp[Eff.next]),λ_=>rfl⟩
 have hex:exOp P (restr (st i).sl (o.looksAt l.toArray)) (hpD l.length st en L) nx' o.op=some ((en i).x,f):=by refine op_local hok he (λy hy=>ev_restr _ hy) (λid hid=>hI.agr0 h hil hi hd (by rw[htc];exact List.mem_append.2 (.inl hid))) ?_ hn1;intro id hid;have htg1:(en i).tg=some id:=htg.trans hid;have hq:=(hI.blk h hil hi hd (id:=id) (.inr htg1)).2.2 htg1;intro k hk;rw[hget_hpD h,hq];exact⟨k,hk,rfl,rfl,λh=>h⟩
 obtain⟨v,w',rho',A',h1,h2,h3,h4,h5,h6⟩:=op_sound (P:=P) hI.mem hsl hn2 hex;refine⟨v,w',S,rho',A',h1,hI.next h ho hd hdst (λb hb=>⟨hb,h5 b hb⟩) h3 ?_ h6 ?_⟩
 ·refine h2.turn λid k' hk' _=> ?_;cases f with
  |none=>
   rw[DInv.same (B:=B) h hi htg]at hk';exact⟨k',hk',rfl,rfl,λh=>h⟩
  | new k0=>
   have hnx':=hn3 rfl;subst hnx';rw[DInv.same (B:=B) h hi htg]at hk';show∃k,hget (((st i).nx,k0)::hpD l.length st en L) id=some k/\_;simp only[hget];by_cases e:id=(st i).nx
   ·subst e;rw[if_pos rfl];rw[hget_hpD h]at hk';obtain⟨b1,b2,_⟩:=hI.blk h hil hi hd (id:=(st i).nx) (.inl (by rw[htc];simp[crE]));have hne:(en i).tg≠some (st i).nx:=by rw[htg];simp[tgE]
    have hgt:i<nextC l.length en L (st i).nx:=by
     rcases Nat.lt_or_eq_of_le b1 with hlt|heq;·exact hlt
     ·have a1:=(nextC_at (n:=l.length) (en:=en) (L:=L) (id:=(st i).nx) om).1;rw[<-heq]at a1;exact absurd a1 hne
    have hk0:hget (st (i+1)).hp (st i).nx=some k0:=by rw[hs'];show hget (((st i).nx,k0)::(st i).hp) _=_;simp[hget]
    obtain⟨k2,c1,c2,c3,c4⟩:=h.chain hk0 _ hgt (nextC_le _ _ _) (λm hm1 hm2=>b2 m om hm2);rw[hk']at c1;cases c1;exact⟨k0,rfl,c2,c3,c4⟩
   ·rw[if_neg e];exact⟨k',hk',rfl,rfl,λh=>h⟩
  | set i0 k0=>
   obtain⟨t,b,y,hop,hst⟩:=set_store hok he;obtain⟨k,g1,g2,g3,g4⟩:=exStore_tgt hst;have htg':(en i).tg=some i0:=htg;show∃k,hget (hset (hpD l.length st en L) i0 k0) id=some k/\_;rw[hget_hset];by_cases e:id=i0
   ·subst e;rw[if_pos rfl];obtain⟨b1,b2,b3⟩:=hI.blk h hil hi hd (id:=id) (.inr htg');have hk:hget (hpD l.length st en L) id=some k:=by rw[hget_hpD h,b3 htg'];exact g1
    rw[hk];have hk0:hget (st (i+1)).hp id=some k0:=by rw[hs'];show hget (hset (st i).hp id k0) id=_;rw[hget_hset,if_pos rfl,g1];rfl
    rw[hget_hpD h]at hk';have hcmp: ∀j,j≠i->j<l.length->(en j).tg=some id->(L j=true↔j<i):=λj hji hjl hj=>cmp_done h hI.closed hi hd (h.tgt i j id (λe=>hji e.symm) hil hjl hj (.inr htg'));have hq1:i+1<=nextC l.length en (addL L i) id:=by
     rcases Nat.lt_or_ge i (nextC l.length en (addL L i) id)with hlt|hge;·exact hlt
     ·obtain⟨a1,a2⟩:=nextC_at (n:=l.length) (en:=en) (L:=addL L i) (id:=id) om;obtain⟨hne,a3⟩:=addL_false a2;have:=(hcmp _ hne om a1).2 om;rw[this]at a3;cases a3
    obtain⟨k2,c1,c2,c3,c4⟩:=h.chain hk0 _ hq1 (nextC_le _ _ _) (λm hm1 hm2 hmt=>by have hL:=nextC_lt hm2 hmt;have hle:=nextC_le (en:=en) l.length (addL L i) id;unfold addL at hL;rw[if_neg om]at hL;have:=(hcmp m om om hmt).1 hL;omega)
    rw[hk']at c1;cases c1;exact⟨k0,rfl,c2,c3,c4⟩
   ·rw[if_neg e];rw[hget_hpD h,next_same hi (by rw[htg'];simp;exact λe'=>e e'.symm),<-hget_hpD h]at hk';exact⟨k',hk',rfl,rfl,λh=>h⟩
  | app i0 k0=>
   have hnx':=hn3 rfl;subst hnx';obtain⟨kb,hkb⟩:=app_op hok he;have hlt0:i0<(st i).nx:=h.klAt i om i0 kb hkb;have htg':(en i).tg=some i0:=htg;show∃k,hget (((st i).nx,k0)::hdel (hpD l.length st en L) i0) id=some k/\_;simp only[hget];by_cases e:id=(st i).nx
   ·subst e;rw[if_pos rfl];have hne:(en i).tg≠some (st i).nx:=by rw[htg'];intro e';cases e';omega
    rw[hget_hpD h,next_same hi hne]at hk';obtain⟨b1,b2,_⟩:=hI.blk h hil hi hd (id:=(st i).nx) (.inl (by rw[htc];simp[crE]));have hgt:i<nextC l.length en L (st i).nx:=by
     rcases Nat.lt_or_eq_of_le b1 with hlt|heq;·exact hlt
     ·have a1:=(nextC_at (n:=l.length) (en:=en) (L:=L) (id:=(st i).nx) om).1;rw[<-heq]at a1;exact absurd a1 hne
    have hk0:hget (st (i+1)).hp (st i).nx=some k0:=by rw[hs'];show hget (((st i).nx,k0)::hdel (st i).hp i0) _=_;simp[hget]
    obtain⟨k2,c1,c2,c3,c4⟩:=h.chain hk0 _ hgt (nextC_le _ _ _) (λm hm1 hm2=>b2 m om hm2);rw[hk']at c1;cases c1;exact⟨k0,rfl,c2,c3,c4⟩
   ·rw [if_neg e,hget_hdel];by_cases e0:id=i0
    ·exfalso;subst e0;rw[hget_hpD h]at hk';have hcmp: ∀j,j≠i->j<l.length->(en j).tg=some id->(L j=true↔j<i):=λj hji hjl hj=>cmp_done h hI.closed hi hd (h.tgt i j id (λe=>hji e.symm) hil hjl hj (.inr htg'));have hq1:i+1<=nextC l.length en (addL L i) id:=by
      rcases Nat.lt_or_ge i (nextC l.length en (addL L i) id)with hlt|hge;·exact hlt
      ·obtain⟨a1,a2⟩:=nextC_at (n:=l.length) (en:=en) (L:=addL L i) (id:=id) om;obtain⟨hne,a3⟩:=addL_false a2;have:=(hcmp _ hne om a1).2 om;rw[this]at a3;cases a3
     have hk0:hget (st (i+1)).hp id=none:=by rw[hs'];show hget (((st i).nx,k0)::hdel (st i).hp id) id=_;simp only[hget];rw[if_neg e,hget_hdel,if_pos rfl]
     rw[h.gone hk0 (by rw[hnx];simp[Eff.next];omega) _ hq1 (nextC_le _ _ _)]at hk';cases hk'
    ·rw[if_neg e0];rw[hget_hpD h,next_same hi (by rw[htg'];simp;exact λe'=>e0 e'.symm),<-hget_hpD h]at hk';exact⟨k',hk',rfl,rfl,λh=>h⟩
 ·intro id hid;rcases h4 id hid with h7|⟨h7,k,h8⟩;·exact .inl h7
  ·rcases h8 with h8|⟨i0,h8⟩
   ·subst h8;rw[hn3 rfl]at h7;exact .inr ⟨h7.symm,by rw[hnx];simp[Eff.next]⟩
   ·subst h8;rw[hn3 rfl]at h7;exact .inr ⟨h7.symm,by rw[hnx];simp[Eff.next]⟩
theorem region_step{B:Base}(h:DRun P l st en){Q:Exit->Act->World->Prop}{L:Nat->Bool}{S:Nat->Prop}{rho:Nat->Nat}{A:Nat->Prop}{a:Act}{w:World}(hI:DInv B l st en L S rho A a w){i:Nat}{o:Oper}(ho:l[i]? =some o)(hi:L i=false)
  (hd: ∀m,depB l.toArray i m=true->L m=true):
  wpOp P l.toArray Q i (λa' w'=> ∃S rho A,DInv B l st en (addL L i) S rho A a' w') a w:=by
 have hsl:=hI.slots h ho hi hd;have hil:i<l.length:=(List.getElem?_eq_some_iff.1 ho).1;have ho':l.toArray[i]? =some o:=by rw[List.getElem?_toArray];exact ho
 have hguard: ∀b,guardV l.toArray (st i).sl o.guard=some b->Region.wanted o (yielded l.toArray a.tmps)=b:=λb hb=>by refine guard_sound (s:=⟨restr (st i).sl (o.looksAt l.toArray),[],0,0⟩) (S:=S) (rho:=rho) (w:=w) (A:=A) hsl ?_;rw[<-hb];exact guard_restr (st i).sl
 unfold wpOp;rw[ho'];obtain⟨hdst,⟨f,hg,hok,he,hs',htg,htc,hna⟩|⟨hg,hx,htg,htc,hs'⟩|⟨g0,f,p0,q0,args,ts,ys,fb,hop,hfn,hg,hgo,hfz,hsp,hs',htg,hfb⟩|⟨f,args,ts,ys,ids,k0,X,fl,hop,hg,hgo,hfz,hsp,hx,hs',htg,htc,hfl⟩|⟨f,args,ts,i0,kk,off,len,z,cap,k0,hop,hg,hgo,hki,hsp,hx,hs',htg,htc⟩⟩:=h.step i o ho
 ·simp only[hguard _ hg,if_true];refine .inl ?_;obtain⟨v,w',S',rho',A',h1,h2⟩:=hI.stepOp h ho hi hd hdst hok he hs' htg htc hna;unfold Oper.wp;rcases h1 with h1|⟨h1,rfl⟩<;>rw[h1]<;>exact⟨S',rho',A',h2⟩
 ·simp only[hguard _ hg];refine⟨S,rho,A,hI.next h ho hd hdst (λb hb=>⟨hb,rfl⟩) (λ_ h=>⟨h,rfl,λ_ h=>h⟩) ?_ (by rw[hx];exact skip_rep) (λ_ h=> .inl h)⟩;refine hI.mem.turn λid k' hk' _=> ?_;rw[DInv.same (B:=B) h hi htg]at hk';exact⟨k',hk',rfl,rfl,λh=>h⟩
 ·simp only[hguard _ hg,if_true];refine .inl ?_;have hev:args.toList.map (evS (restr (st i).sl (o.looksAt l.toArray)))=args.toList.map (evS (st i).sl):=List.map_congr_left λy hy=>ev_restr _ (by rw[hop];simp only[Op.operands,Call.operands];simp;exact .inr (by simpa using hy));have heg:evS (restr (st i).sl (o.looksAt l.toArray)) g0=evS (st i).sl g0:=ev_restr _ (by rw[hop];simp only[Op.operands,Call.operands];simp);have hfz':frzAll (frz 8 (hpD l.length st en L)) (p0++args.toList.map (evS (restr (st i).sl (o.looksAt l.toArray)))++q0)=some (ys,(en i).tc)\/frzN (p0++args.toList.map (evS (restr (st i).sl (o.looksAt l.toArray)))++q0)=some (ys,(en i).tc):=by
   rw[hev];refine hfz.imp (λhfz=> ?_) (λhfz=> ?_);·exact frzAll_local (p:=λid=>agr0 (hget (hpD l.length st en L) id) (hget (st i).hp id)) (λx y ids hxy hp=>frz_local 8 x y ids hxy hp) hfz (λid hid=>hI.agr0 h hil hi hd hid)
   ·exact hfz
  obtain⟨ps,qs,hge,hps,hqs⟩:=fn_sound (by rw[heg];exact hfn) (ev_sound hI.mem.tab hsl g0);have hall:=(hps.append (All.ev hI.mem.tab hsl args.toList)).append hqs;obtain⟨h1,h2⟩:=hfz'.elim (λh=>frzAll_sound (frz_sound hI.mem 8) h hall) (λh=>frzN_sound h hall);have hmf:=hI.mem.freeze (en i).tc h2;have hrun:(execOp a.eval o).run P w= .ok (.enter f (ps++args.map a.eval++qs)) w:=by simp only[execOp,hop,resolve,hge,Deferred.ofValue,Sem.run_bind,Sem.run_pure,Result.andThen_ok,invoke];exact callFunc_go hgo _ w
  have hvl:(ps++args.map a.eval++qs).toList=ps.toList++args.toList.map a.eval++qs.toList:=by simp
  unfold Oper.wp;rw[hrun];refine(hsp (addS S rho A (en i).tc) w (ps++args.map a.eval++qs) hmf.slt hmf.tab ⟨by rw[hvl];exact h1.1,λi y u hy hu=>(h1.2 i y u hy (by rw[<-hvl];exact hu)).rho⟩).mono ?_;rintro e w' ⟨v,rfl,g,hx⟩;have hA: ∀id,A id->A id/\rho id=rho id/\ ∀n,szAt w (rho id) n->szAt w' (rho id) n:=λid h=>⟨h,rfl,λ_=>g.szAt⟩
  by_cases hfl0:fb=true
  ·have hfl:=hfb hfl0;refine⟨λb=>S b\/(w.heap.size<=b/\b<w'.heap.size),rho,A,hI.next h ho hd hdst (λb hb=>⟨.inl hb,g.block b (hI.mem.slt b hb)⟩) hA ?_ (flat_sound hfl hx.rho.open) (λ_ h=> .inl h)⟩;refine(hI.mem.came g).turn λid k' hk' _=> ?_;rw[DInv.same (B:=B) h hi htg]at hk';exact⟨k',hk',rfl,rfl,λh=>h⟩
  ·refine⟨λb=>addS S rho A (en i).tc b\/(w.heap.size<=b/\b<w'.heap.size),rho,A,hI.next h ho hd hdst (λb hb=>⟨.inl (.inl hb),g.block b (hI.mem.slt b hb)⟩) hA ?_ hx.rho.open (λ_ h=> .inl h)⟩;refine(hmf.came g).turn λid k' hk' _=> ?_;rw[DInv.same (B:=B) h hi htg]at hk';rw[hget_fz,hk'];refine⟨_,rfl,by split<;>rfl,by split<;>rfl,λhk0=> ?_⟩;by_cases hc:(en i).tc.contains id=true
   ·exfalso;have hmem:id∈(en i).tc:=by simpa using hc
    obtain⟨b1,b2,_⟩:=hI.blk h hil hi hd (id:=id) (.inl hmem);have hgt:i<nextC l.length en L id:=by
     rcases Nat.lt_or_eq_of_le b1 with hlt|heq;·exact hlt
     ·have:=(nextC_at (n:=l.length) (en:=en) (L:=L) (id:=id) om).1;rw[<-heq,htg]at this;cases this
    obtain⟨k1,hk1⟩:=h2 id hmem;rw[hget_hpD h]at hk';have hst:(st (i+1)).hp=fzHp (st i).hp (en i).tc:=by rw[hs'];simp[calledG,hfl0]
    obtain⟨k2,hk2⟩:=hfz.elim (λh=>frzAll_live (p:=λid=> ∃k,hget (st i).hp id=some k) (frz_live 8) h id hmem) (λh=>by rw[frzN_none h]at hmem;cases hmem);have hk3:hget (st (i+1)).hp id=some ⟨k2.ty,k2.cs,true⟩:=by rw[hst,hget_fz,hk2];simp[hc];exact λh=>absurd hmem h
    obtain⟨k4,c1,c2,c3,c4⟩:=h.chain hk3 _ hgt (nextC_le _ _ _) (λm hm1 hm2=>b2 m om hm2);rw[hk']at c1;cases c1;have:=c4 hk0;cases this
   ·show(if(en i).tc.contains id=true then(⟨k'.ty,k'.cs,true⟩:Blk)else k').fz=false;rw[if_neg hc];exact hk0
 ·simp only[hguard _ hg,if_true];refine .inl ?_;have hev:args.toList.map (evS (restr (st i).sl (o.looksAt l.toArray)))=args.toList.map (evS (st i).sl):=List.map_congr_left λy hy=>ev_restr _ (by rw[hop];simp only[Op.operands,Call.operands];simp;exact .inr (by simpa using hy));have hfz':frzAll (frz 8 (hpD l.length st en L)) (args.toList.map (evS (restr (st i).sl (o.looksAt l.toArray))))=some (ys,ids):=by
   rw[hev];exact frzAll_local (p:=λid=>agr0 (hget (hpD l.length st en L) id) (hget (st i).hp id)) (λx y ids hxy hp=>frz_local 8 x y ids hxy hp) hfz (λid hid=>hI.agr0 h hil hi hd (by rw[htc];exact List.mem_append.2 (.inl hid)))
  have hall:=All.ev hI.mem.tab hsl args.toList;obtain⟨h1,h2⟩:=frzAll_sound (frz_sound hI.mem 8) hfz' hall;have hmf:=hI.mem.freeze ids h2;have hrun:(execOp a.eval o).run P w= .ok (.enter f (args.map a.eval)) w:=by simp only[execOp,hop,resolve,Act.eval,Deferred.ofValue,Sem.run_bind,Sem.run_pure,Result.andThen_ok,invoke];have:=callFunc_go hgo (args.map a.eval) w;simpa using this
  unfold Oper.wp;rw[hrun];refine(hsp.2 (addS S rho A ids) w (args.map a.eval) hmf.slt hmf.tab ⟨by have:=h1.1;simpa using this,λi y u hy hu=>(h1.2 i y u hy (by simpa using hu)).rho⟩).mono ?_;have hlt:(st i).nx<(st (i+1)).nx:=by rw[hs'];simp[SS.put,Eff.next]
  have hid: ¬A (st i).nx:=hI.fresh' h hil hi hlt;have hturn: ∀id k',hget (hpD l.length st en (addL L i)) id=some k'-> ∃k,hget (((st i).nx,k0)::hpD l.length st en L) id=some k/\k'.ty=k.ty/\k'.cs=k.cs/\(k'.fz=false->k.fz=false):=by
   intro id k' hk';rw[DInv.same (B:=B) h hi htg]at hk';simp only[hget];by_cases e:id=(st i).nx
   ·subst e;rw[if_pos rfl];rw[hget_hpD h]at hk';obtain⟨b1,b2,_⟩:=hI.blk h hil hi hd (id:=(st i).nx) (.inl (by rw[htc];simp));have hne:(en i).tg≠some (st i).nx:=by rw[htg];simp
    have hgt:i<nextC l.length en L (st i).nx:=by
     rcases Nat.lt_or_eq_of_le b1 with hlt|heq;·exact hlt
     ·have a1:=(nextC_at (n:=l.length) (en:=en) (L:=L) (id:=(st i).nx) om).1;rw[<-heq]at a1;exact absurd a1 hne
    have hk0:hget (st (i+1)).hp (st i).nx=some k0:=by rw[hs'];show hget (((st i).nx,k0)::(st i).hp) _=_;simp[hget]
    obtain⟨k2,c1,c2,c3,c4⟩:=h.chain hk0 _ hgt (nextC_le _ _ _) (λm hm1 hm2=>b2 m om hm2);rw[hk']at c1;cases c1;exact⟨k0,rfl,c2,c3,c4⟩
   ·rw[if_neg e];exact⟨k',hk',rfl,rfl,λh=>h⟩
  rintro e w' ⟨v,rfl,g,⟨b,S2,hb,hS2,hnb,hcs,hv⟩|hv⟩
  ·have hS3: ∀c,S2 c->S c\/(w.heap.size<=c/\c<w'.heap.size):=λc hc=>by
    obtain⟨q1,q2⟩:=hS2 c hc;rcases hfl with e|e;·rw[e]at q1;cases q1
    ·subst e;rcases q2 with(q2|⟨_,q3,_⟩)|q2;·exact .inl q2
     ·cases q3
     ·exact .inr q2
   have hbl:b<w'.heap.size:=by obtain⟨cells,q1,_⟩:=hcs;exact(Array.getElem?_eq_some_iff.1 q1).1
   have hm:=(hI.mem.came2 g S2 hS3).come (st i).nx hid k0 b (λi q hq ha e=>by have:=hI.mem.lt hq ha;omega) (λe=>e.elim (λe=>by have:=hI.mem.slt b e;omega) hnb) (.inl (Nat.le_trans hI.mem.frame.size hb)) (hcs.mono rfl (λc h=>⟨.inr h,rfl⟩) (λ_ h=>h.elim));refine⟨λc=>S c\/S2 c,(λj=>if j=(st i).nx then b else rho j),(λj=>j=(st i).nx\/A j),hI.next h ho hd hdst (λb hb=>⟨.inl hb,g.block b (hI.mem.slt b hb)⟩) (λid hid'=>⟨.inr hid',if_neg (λe:id=(st i).nx=>hid (e▸hid')),λ_=>g.szAt⟩) ?_ (by rw[hx];exact hsp.1 _ _ _ _ _ _ _ _ _ _ hv (λc h=> .inr h) (λi h=>h) (.inl rfl) (if_pos rfl)) ?_⟩;·exact hm.turn λid k' hk' _=>hturn id k' hk'
   ·rintro id (rfl|hid');·exact .inr ⟨rfl,hlt⟩
    ·exact .inl hid'
  ·have hm:=(hI.mem.grow g).phantom (st i).nx hid k0;exact⟨S,rho,A,hI.next h ho hd hdst (λb hb=>⟨hb,g.block b (hI.mem.slt b hb)⟩) (λ_ h=>⟨h,rfl,λ_=>g.szAt⟩) (hm.turn λid k' hk' _=>hturn id k' hk') (by rw[hx];exact hv _ _ _ _ _) (λ_ h=> .inl h)⟩
 ·simp only[hguard _ hg,if_true];refine .inl ?_;have hev:args.toList.map (evS (restr (st i).sl (o.looksAt l.toArray)))=args.toList.map (evS (st i).sl):=List.map_congr_left λy hy=>ev_restr _ (by rw[hop];simp only[Op.operands,Call.operands];simp;exact .inr (by simpa using hy));have hnx:(st (i+1)).nx=(st i).nx+1:=by rw[hs'];simp[SS.put,Eff.next]
  have hlt:(st i).nx<(st (i+1)).nx:=by omega
  have hid: ¬A (st i).nx:=hI.fresh' h hil hi hlt;have hkD:hget (hpD l.length st en L) i0=some kk:=by rw[hget_hpD h,(hI.blk h hil hi hd (id:=i0) (.inr htg)).2.2 htg];exact hki
  have hm1:Mem B S rho A [(i0,kk)] w:=hI.mem.less λj q hj=>by
   simp only[hget]at hj;split at hj;·rename_i e;subst e;cases hj;exact hkD
   ·cases hj
  have hb: ∀j,A j->j<(st l.length).nx:=λj hj=>by
   rcases hI.num j hj with h1|⟨m,hm,_,h2,h3⟩;·have:=h.nx 0 l.length om (znb _);omega
   ·have:=h.nx (m+1) l.length om (znb _);omega
  have hall:=All.ev hI.mem.tab hsl args.toList;rw[hev]at hall;have hrun:(execOp a.eval o).run P w= .ok (.enter f (args.map a.eval)) w:=by simp only[execOp,hop,resolve,Act.eval,Deferred.ofValue,Sem.run_bind,Sem.run_pure,Result.andThen_ok,invoke];have:=callFunc_go hgo (args.map a.eval) w;simpa using this
  unfold Oper.wp;rw[hrun];refine(hsp B S rho A w (args.map a.eval) _ hm1 hb (by simpa using hall)).mono ?_;rintro e w' ⟨v,b,rfl,g,hS,hbn,hnb,hcs,hv⟩;have hm2:=hI.mem.moved hkD g hS;have hm3:=hm2.come (st i).nx hid k0 b (λj q hq ha e=>by
   rw[hget_hdel]at hq;split at hq;·cases hq
   ·rcases hbn with hbn|⟨hbn,hbr⟩;·have:=hI.mem.lt hq ha;omega
    ·exact absurd (hI.mem.inj j i0 q kk hq hkD ha hbn (e.trans hbr.symm)) ‹_›) hnb
   (hbn.elim (λh=> .inl (Nat.le_trans hI.mem.frame.size h)) (λ⟨h1,h2⟩=>h2▸hI.mem.own i0 kk hkD h1)) (hcs.mono rfl (λ_ h=>h.elim) (λ_ h=>h.elim))
  refine⟨S,(λj=>if j=(st i).nx then b else rho j),(λj=>j=(st i).nx\/A j),hI.next h ho hd hdst (λb hb=>⟨hb,hS b hb⟩) (λid hid'=>⟨.inr hid',if_neg (λe:id=(st i).nx=>hid (e▸hid')),λn=>g.sz _ n⟩) ?_ (by rw[hx];exact hv.renum (.inl rfl) (if_pos rfl)) ?_⟩
  ·refine hm3.turn λid k' hk' _=> ?_;have hlt0:i0<(st i).nx:=h.klAt i om i0 kk hki;have htg':(en i).tg=some i0:=htg;show∃k,hget (((st i).nx,k0)::hdel (hpD l.length st en L) i0) id=some k/\_;simp only[hget];by_cases e:id=(st i).nx
   ·subst e;rw[if_pos rfl];have hne:(en i).tg≠some (st i).nx:=by rw[htg'];intro e';cases e';omega
    rw[hget_hpD h,next_same hi hne]at hk';obtain⟨b1,b2,_⟩:=hI.blk h hil hi hd (id:=(st i).nx) (.inl (by rw[htc];simp));have hgt:i<nextC l.length en L (st i).nx:=by
     rcases Nat.lt_or_eq_of_le b1 with hlt|heq;·exact hlt
     ·have a1:=(nextC_at (n:=l.length) (en:=en) (L:=L) (id:=(st i).nx) om).1;rw[<-heq]at a1;exact absurd a1 hne
    have hk0:hget (st (i+1)).hp (st i).nx=some k0:=by rw[hs'];show hget (((st i).nx,k0)::hdel (st i).hp i0) _=_;simp[hget]
    obtain⟨k2,c1,c2,c3,c4⟩:=h.chain hk0 _ hgt (nextC_le _ _ _) (λm hm1 hm2=>b2 m om hm2);rw[hk']at c1;cases c1;exact⟨k0,rfl,c2,c3,c4⟩
   ·rw [if_neg e,hget_hdel];by_cases e0:id=i0
    ·exfalso;subst e0;rw[hget_hpD h]at hk';have hcmp: ∀j,j≠i->j<l.length->(en j).tg=some id->(L j=true↔j<i):=λj hji hjl hj=>cmp_done h hI.closed hi hd (h.tgt i j id (λe=>hji e.symm) hil hjl hj (.inr htg'));have hq1:i+1<=nextC l.length en (addL L i) id:=by
      rcases Nat.lt_or_ge i (nextC l.length en (addL L i) id)with hlt|hge;·exact hlt
      ·obtain⟨a1,a2⟩:=nextC_at (n:=l.length) (en:=en) (L:=addL L i) (id:=id) om;obtain⟨hne,a3⟩:=addL_false a2;have:=(hcmp _ hne om a1).2 om;rw[this]at a3;cases a3
     have hk0:hget (st (i+1)).hp id=none:=by rw[hs'];show hget (((st i).nx,k0)::hdel (st i).hp id) id=_;simp only[hget];rw[if_neg e,hget_hdel,if_pos rfl]
     rw[h.gone hk0 (by rw[hnx];omega) _ hq1 (nextC_le _ _ _)]at hk';cases hk'
    ·rw[if_neg e0];rw[hget_hpD h,next_same hi (by rw[htg'];simp;exact λe'=>e0 e'.symm),<-hget_hpD h]at hk';exact⟨k',hk',rfl,rfl,λh=>h⟩
  ·rintro id (rfl|hid');·exact .inr ⟨rfl,hlt⟩
   ·exact .inl hid'
theorem region_draw{B:Base}{id:Nat}{Q:Exit->SS->Prop}{s:SS}(h:DRun P l st en)(hs:st 0=s)(hm:P.follows .mixedOrders=true)(hQ:Q .normal (st l.length)):SWp P B (.region id l.toArray true) Q s:=by
 subst hs;intro S rho A a w hr;have dep: ∀(L:Nat->Bool) (i:Nat) (o:Oper),l.toArray[i]? =some o->(∀e∈o.after.toList,Region.binds .any e=true->L e.on=true)-> ∀m,depB l.toArray i m=true->L m=true:=by intro L i o ho hd m hm;unfold depB at hm;rw[ho]at hm;simp only[Array.any_eq_true']at hm;obtain⟨e,he,hb⟩:=hm;rw[Bool.and_eq_true,beq_iff_eq]at hb;rw[<-hb.2];exact hd e (by simpa using he) hb.1
 refine wp_region_any hm (wpAny_act (λL a w=> ∃S rho A,DInv B l st en L S rho A a w) ?_ ?_ ?_ _ _ a _ (by simp) ?_ ?_)
 ·intro i o ho e he hb;rw[List.getElem?_toArray]at ho;exact h.ord i o ho e he hb
 ·rintro L a w i o ho hi hd ⟨S,rho,A,hI⟩;have:=dep L i o ho hd;rw[List.getElem?_toArray]at ho;exact region_step h hI ho hi this
 ·rintro L a w hL ⟨S,rho,A,hI⟩;have hall: ∀i,i<l.length->L i=true:=λi hi=>hL i (by simpa using hi);refine⟨S,rho,A,st l.length,hQ,?_,hI.mem.turn λid k' hk' _=> ?_,λid hid=> ?_,hI.size.trans (h.nt l.length (znb _)).symm,hI.defs⟩
  ·intro t;by_cases hex: ∃(j:Nat) (o:Oper),l[j]? =some o/\o.dst=some t
   ·obtain⟨j,o,hj,hd⟩:=hex;have hjl:=(List.getElem?_eq_some_iff.1 hj).1;rw[h.slotx hj hd l.length hjl (znb _)];exact hI.done t j o hj hd (hall j hjl)
   ·have hno: ∀(j:Nat) (o:Oper),l[j]? =some o->o.dst≠some t:=λj o hj hd=>hex ⟨j,o,hj,hd⟩;rw[h.slot0 l.length (znb _) λj o _ hj=>hno j o hj];exact hI.open' t λj o hj hd=>absurd hd (hno j o hj)
  ·have hq:nextC l.length en L id=l.length:=by
    have hle:=nextC_le (en:=en) l.length L id;rcases Nat.lt_or_eq_of_le hle with hlt|heq
    ·obtain⟨_,a2⟩:=nextC_at hlt;rw[hall _ hlt]at a2;cases a2
    ·exact heq
   refine⟨k',?_,rfl,rfl,λh=>h⟩;rw[hget_hpD h,hq];exact hk'
  ·rcases hI.num id hid with h1|⟨j,hj,_,rfl,h2⟩;·exact Nat.lt_of_lt_of_le h1 (h.nx 0 _ (znc _) (znb _))
   ·exact Nat.lt_of_lt_of_le h2 (h.nx (j+1) _ om (znb _))
 ·unfold unl;refine Nat.le_trans (List.length_filter_le _ _) (by simp)
 ·have hf: ∀j,(Array.replicate l.toArray.size false).getD j false=false:=by
   intro j;rw[Array.getD_eq_getD_getElem?,Array.getElem?_replicate];split<;>rfl
  have g:=Grow.drawn w (w.drawn+1);exact⟨S,rho,A,{
   mem:=(hr.mem.grow g).turn λid k' hk' hA=>by
    rw[hget_hpD h]at hk';obtain⟨k,hk⟩:=h.born (hr.alt id hA) _ (nextC_le _ _ _) k' hk';obtain⟨k2,c1,c2,c3,c4⟩:=h.chain hk _ (znc _) (nextC_le _ _ _) (λm _ hm hmt=>by have:=nextC_lt (L:=λj=>(Array.replicate l.toArray.size false).getD j false) hm hmt;have e:=hf m;rw[show(Array.replicate l.toArray.size false).getD m false=true from this]at e;cases e)
    rw[hk']at c1;cases c1;exact⟨k,hk,c2,c3,c4⟩
   done:=λt j o _ _ hL=>by simp only[hf]at hL;cases hL
   open':=λt _=>(hr.slots t).mono (λb hb=>⟨hb,rfl⟩) (λid h=>⟨h,rfl,λ_=>g.szAt⟩)
   num:=λid hA=> .inl (hr.alt id hA)
   size:=hr.nt
   defs:=hr.defs
   closed:=λi j hi=>by simp only[hf]at hi;cases hi}⟩
end
end
section
open Go.RowKit
section
variable {P:Program}
def DTr(P:Program)(ops:Array Oper):SS->List Oper->List En->SS->Prop
 |s,[],es,s'=>es=[]/\s'=s
 |s,o::l,es,s'=> ∃e es' s1,es=e::es'/\DStep P ops o s e s1/\DTr P ops s1 l es' s'
theorem DTr.fun{ops:Array Oper}: ∀{l:List Oper} {s s':SS} {es:List En},DTr P ops s l es s'->es.length=l.length/\
  ∃(st:Nat->SS) (en:Nat->En),st 0=s/\st l.length=s'/\(∀(i:Nat) (o:Oper),l[i]? =some o->DStep P ops o (st i) (en i) (st (i+1)))/\ ∀i,i<l.length->es[i]? =some (en i)
 |[],s,s',es,h=>by obtain⟨rfl,rfl⟩:=h;exact⟨rfl,λ_=>s',λ_=>⟨.junk,none,[]⟩,rfl,rfl,λi o ho=>by simp at ho,λi hi=>by simp at hi⟩
 | o::l,s,s',es,h=>by
  obtain⟨e,es',s1,rfl,h1,h2⟩:=h;obtain⟨hl,st,en,a1,a2,a3,a4⟩:=h2.fun;refine⟨by simp[hl],λi=>match i with|0=>s|i+1=>st i,λi=>match i with|0=>e|i+1=>en i,rfl,a2,λi o' ho=> ?_,λi hi=> ?_⟩
  ·cases i with
   |zero=>simp at ho;subst ho;show DStep P ops o s e (st 0);rw[a1];exact h1
   |succ i=>simp at ho;exact a3 i o' ho
  ·cases i with
   |zero=>rfl
   |succ i=>simp at hi⊢;exact a4 i hi
def pr(e:En):Option Nat×List Nat:=(e.tg,e.tc)
theorem chk_run{l:List Oper}{s s':SS}{es:List En}(hk:KL s)(h:DTr P l.toArray s l es s')(hc:chkD l (es.map pr)=true): ∃st en,DRun P l st en/\st 0=s/\st l.length=s':=by
 obtain⟨hlen,st,en,a1,a2,a3,a4⟩:=h.fun;unfold chkD at hc;rw[Bool.and_eq_true]at hc;obtain⟨c1,c2⟩:=hc;have idx: ∀(i:Nat) (o:Oper),l[i]? =some o->(o,i)∈l.zipIdx:=λi o ho=>by rw[List.mem_iff_getElem?];exact⟨i,by simp[ho]⟩
 have pair: ∀(i j:Nat) (oi oj:Oper),i≠j->l[i]? =some oi->l[j]? =some oj->pairOk l.toArray (es.map pr) i j oi oj=true:=λi j oi oj hne hi hj=>by have:=List.all_eq_true.1 (List.all_eq_true.1 c2 _ (idx i oi hi)) _ (idx j oj hj);simpa[hne]using this
 have enAt: ∀i,i<l.length->(es.map pr)[i]? =some (pr (en i)):=λi hi=>by rw[List.getElem?_map,a4 i hi];rfl
 refine⟨st,en,⟨by rw[a1];exact hk,a3,λi o ho e he hb=> ?_,λi j oi oj d hne hi hj hd=> ?_,λi j id hne hi hj ht hm=> ?_⟩,a1,a2⟩
 ·unfold ordB at c1;have h2:(o.after.all λe=> !Region.binds .any e||decide (e.on<i))=true:=List.all_eq_true.1 c1 _ (idx i o ho);rw[Array.all_eq_true']at h2;have h3:=h2 e (by simpa using he);rw[hb]at h3;simpa using h3
 ·have:=pair i j oi oj hne hi hj;unfold pairOk at this;rw[Bool.and_eq_true]at this;have h1:=this.1;rw[hd]at h1;simp only[Bool.or_eq_true,Bool.and_eq_true,Bool.not_eq_true',bne_iff_ne,ne_eq]at h1;rcases h1 with⟨h1,h2⟩|⟨h1,h2⟩
  ·refine⟨h2,λhm=> ?_⟩;have:(looks l.toArray oi).contains d=true:=by simpa[looks]using hm
   rw[this]at h1;cases h1
  ·exact⟨h2,λ_=>h1⟩
 ·obtain⟨oi,hoi⟩:=getL (l:=l) hi;obtain⟨oj,hoj⟩:=getL (l:=l) hj;have:=pair i j oi oj hne hoi hoj;unfold pairOk at this;rw[Bool.and_eq_true]at this;have h1:=this.2;rw[enAt j hj]at h1;simp only[pr,Option.bind_some,ht,List.getD_eq_getElem?_getD,enAt i hi,Option.getD_some]at h1;simp only[Bool.or_eq_true,Bool.and_eq_true,Bool.not_eq_true',bne_iff_ne,ne_eq]at h1;rcases h1 with⟨h1,h2⟩|h1
  ·rcases hm with hm|hm
   ·have:(en i).tc.contains id=true:=by simpa using hm
    rw[this]at h1;cases h1
   ·exact absurd hm h2
  ·exact h1
def DO(P:Program)(B:Base)(full l:List Oper)(cs:List Code)(Q:Exit->SS->Prop)(tr:List (Option Nat×List Nat))(s:SS):Prop:=
 ∃es s',DTr P full.toArray s l es s'/\chkD full (tr.reverse++es.map pr)=true/\SC P B cs Q s'
def drun(P:Program)(ops:Array Oper)(s:SS)(o:Oper):Option (SS×Option Nat×List Nat):=
 if dstOk o.dst s.nt then
  match guardV ops s.sl o.guard with
  |some true=>if okOp o.op then(exOp P s.sl s.hp s.nx o.op).bind λp=>if noApp p.2 then some (s.put o.dst p.1 p.2,tgE p.2,rdOf s.sl o.op++crE p.2 s.nx)else none else none
  |some false=>some (s.put o.dst (.tu []) .none,none,[])
  |none=>none
 else none
variable {B:Base} {full l:List Oper} {cs:List Code} {Q:Exit->SS->Prop} {tr:List (Option Nat×List Nat)} {s:SS} {o:Oper}
theorem DO.nil(hc:chkD full tr.reverse=true)(h:SC P B cs Q s):DO P B full [] cs Q tr s:=⟨[],s,⟨rfl,rfl⟩,by simpa using hc,h⟩
theorem DO.step{e:En}{s1:SS}(h:DStep P full.toArray o s e s1)(k:DO P B full l cs Q (pr e::tr) s1):DO P B full (o::l) cs Q tr s:=by obtain⟨es,s',h1,h2,h3⟩:=k;exact⟨e::es,s',⟨e,es,s1,rfl,h,h1⟩,by simpa using h2,h3⟩
theorem DO.run{s':SS}{t:Option Nat}{c:List Nat}(h:drun P full.toArray s o=some (s',t,c))(k:DO P B full l cs Q ((t,c)::tr) s'):DO P B full (o::l) cs Q tr s:=by
 unfold drun at h;split at h
 ·rename_i hd;split at h
  ·rename_i hg;split at h
   ·rename_i hok;cases he:exOp P s.sl s.hp s.nx o.op with
    |none=>simp[he]at h
    | some p=>
     obtain⟨x,f⟩:=p;simp only[he,Option.bind_some]at h;split at h
     ·rename_i hna;cases h;exact DO.step (e:=⟨x,tgE f,rdOf s.sl o.op++crE f s.nx⟩) ⟨hd,.inl ⟨f,hg,hok,he,rfl,rfl,rfl,hna⟩⟩ k
     ·cases h
   ·cases h
  ·rename_i hg;cases h;exact DO.step (e:=⟨.tu [],none,[]⟩) ⟨hd,.inr (.inl ⟨hg,rfl,rfl,rfl,rfl⟩)⟩ k
  ·cases h
 ·cases h
def DCall(P:Program)(B:Base)(full:List Oper)(f:Nat)(ys:List V)(ids:List Nat)(d:Option Nat)(l:List Oper)(cs:List Code)(Q:Exit->SS->Prop)(tr:List (Option Nat×List Nat))(s:SS):Prop:=
 ∃x fb,Spec P f ys x/\(fb=true->flat x=true)/\DO P B full l cs Q ((none,ids)::tr) (calledG s d x ids fb)
theorem DO.call{f:Nat}{args:List Operand}{ts:Array TypeId}{d:Option Tmp}{ty:TypeId}{pos:String}{after:Array Edge}{gd:Option (Nat×Bool)}{ys:List V}{ids:List Nat}
  (hgo:isGo P f=true) (hf:frzAll (frz 8 s.hp) (args.map (evS s.sl))=some (ys,ids)) (hg:guardV full.toArray s.sl gd=some true/\dstOk d s.nt=true) (k:DCall P B full f ys ids d l cs Q tr s):DO P B full (⟨d,.call ⟨.value (.func f),args.toArray,ts⟩,ty,pos,after,gd⟩::l) cs Q tr s:=by
 obtain⟨x,fb,hs,hfb,k⟩:=k;exact DO.step (e:=⟨x,none,ids⟩) ⟨hg.2,.inr (.inr (.inl ⟨.func f,f,[],[],args.toArray,ts,ys,fb,rfl,rfl,hg.1,hgo,.inl (by simpa using hf),hs,rfl,rfl,hfb⟩))⟩ k
theorem DO.callV{g:Operand}{f:Nat}{p q:List V}{args:List Operand}{ts:Array TypeId}{d:Option Tmp}{ty:TypeId}{pos:String}{after:Array Edge}{gd:Option (Nat×Bool)}{ys:List V}{ids:List Nat}(hfn:fnOf (evS s.sl g)=some (f,p,q))
  (hgo:isGo P f=true) (hf:frzAll (frz 8 s.hp) (p++args.map (evS s.sl)++q)=some (ys,ids)) (hg:guardV full.toArray s.sl gd=some true/\dstOk d s.nt=true) (k:DCall P B full f ys ids d l cs Q tr s):DO P B full (⟨d,.call ⟨.value g,args.toArray,ts⟩,ty,pos,after,gd⟩::l) cs Q tr s:=by
 obtain⟨x,fb,hs,hfb,k⟩:=k;exact DO.step (e:=⟨x,none,ids⟩) ⟨hg.2,.inr (.inr (.inl ⟨g,f,p,q,args.toArray,ts,ys,fb,rfl,hfn,hg.1,hgo,.inl (by simpa using hf),hs,rfl,rfl,hfb⟩))⟩ k
theorem DCall.of{f:Nat}{ys:List V}{ids:List Nat}{d:Option Nat}{x:V}{s':SS}(hs:Spec P f ys x)(hn:s.called d x ids=s')(k:DO P B full l cs Q ((none,ids)::tr) s'):DCall P B full f ys ids d l cs Q tr s:=⟨x,flat x,hs,λh=>h,by subst hn;exact k⟩
theorem DCall.ofX{f:Nat}{ys:List V}{ids:List Nat}{d:Option Nat}{x:V}{s':SS}(hs:Spec P f ys x)(hn:s.callE d x ids=s')(k:DO P B full l cs Q ((none,ids)::tr) s'):DCall P B full f ys ids d l cs Q tr s:=⟨x,fl x,hs,fl_flat,by subst hn;exact k⟩
def DNew(P:Program)(B:Base)(full:List Oper)(f:Nat)(ys:List V)(ids:List Nat)(d:Option Nat)(l:List Oper)(cs:List Code)(Q:Exit->SS->Prop)(tr:List (Option Nat×List Nat))(s:SS):Prop:=
 ∃k X fl,NewX P f ys k X fl/\(fl=true\/ids=[])/\DO P B full l cs Q ((none,ids++ [s.nx])::tr) (s.put d (X s.nx) (.new k))
theorem DO.callN{f:Nat}{args:List Operand}{ts:Array TypeId}{d:Option Tmp}{ty:TypeId}{pos:String}{after:Array Edge}{gd:Option (Nat×Bool)}{ys:List V}{ids:List Nat}
  (hgo:isGo P f=true) (hf:frzAll (frz 8 s.hp) (args.map (evS s.sl))=some (ys,ids)) (hg:guardV full.toArray s.sl gd=some true/\dstOk d s.nt=true) (k:DNew P B full f ys ids d l cs Q tr s):DO P B full (⟨d,.call ⟨.value (.func f),args.toArray,ts⟩,ty,pos,after,gd⟩::l) cs Q tr s:=by
 obtain⟨k0,X,fl,hs,hfl,k⟩:=k;exact DO.step (e:=⟨X s.nx,none,ids++ [s.nx]⟩) ⟨hg.2,.inr (.inr (.inr (.inl ⟨f,args.toArray,ts,ys,ids,k0,X,fl,rfl,hg.1,hgo,hf,hs,rfl,rfl,rfl,rfl,hfl⟩)))⟩ k
theorem DNew.of{f:Nat}{ys:List V}{ids:List Nat}{d:Option Nat}{k:Blk}{off len z n:Nat}{c:Option Nat}{s':SS}(hs:NewP P f ys k off len z c)(hn:s.nx=n)(hp:s.put d (.sl n off len z c) (.new k)=s')(h:DO P B full l cs Q ((none,ids++ [n])::tr) s'):DNew P B full f ys ids d l cs Q tr s:=by subst hn;subst hp;exact⟨k,_,true,hs,.inl rfl,h⟩
theorem DNew.ofX{f:Nat}{ys:List V}{d:Option Nat}{k:Blk}{X:Nat->V}{n:Nat}{s':SS}(hs:NewX P f ys k X false)(hn:s.nx=n)(hp:s.put d (X n) (.new k)=s')(h:DO P B full l cs Q ((none,[n])::tr) s'):DNew P B full f ys [] d l cs Q tr s:=by subst hn;subst hp;exact⟨k,X,false,hs,.inr rfl,h⟩
def klB(hp:List (Nat×Blk))(nx:Nat):Bool:=hp.all λp=>decide (p.1<nx)
theorem klB_sound(h:klB s.hp s.nx=true):KL s:=by intro id k hk;have:=mem_keys hk;obtain⟨p,hp,rfl⟩:=List.mem_map.1 this;simpa using List.all_eq_true.1 h p hp
theorem SC.draw{id:Nat}(hm:P.follows .mixedOrders=true)(hk:klB s.hp s.nx=true)(h:DO P B l l cs Q [] s):SC P B (.region id l.toArray true::cs) Q s:=by obtain⟨es,s',h1,h2,h3⟩:=h;obtain⟨st,en,h4,h5,h6⟩:=chk_run (klB_sound hk) h1 (by simpa using h2);exact region_draw h4 h5 hm (by rw[h6];exact h3)
variable {sl:List (Nat×V)} {hp:List (Nat×Blk)} {nx nt:Nat} {ops:Array Oper}
def dfin(g:Option Bool)(ok:Bool)(r:Option (V×Eff))(rd:List Nat)(d:Option Nat)(s:SS):Option (SS×Option Nat×List Nat):=
 match g with
 |some true=>if ok then r.bind λp=>if noApp p.2 then some (s.put d p.1 p.2,tgE p.2,rd++crE p.2 s.nx)else none else none
 |some false=>some (s.put d (.tu []) .none,none,[])
 |none=>none
@[go_sem] theorem dfin_none (x:V) (rd:List Nat) (d:Option Nat) (s:SS):dfin (some true) true (some (x,.none)) rd d s=some (s.put d x .none,none,rd++ []):=rfl
@[go_sem] theorem dfin_new (x:V) (k:Blk) (rd:List Nat) (d:Option Nat) (s:SS):dfin (some true) true (some (x,.new k)) rd d s=some (s.put d x (.new k),none,rd++ [s.nx]):=rfl
@[go_sem] theorem dfin_set (x:V) (id:Nat) (k:Blk) (rd:List Nat) (d:Option Nat) (s:SS):dfin (some true) true (some (x,.set id k)) rd d s=some (s.put d x (.set id k),some id,rd++ []):=rfl
@[go_sem] theorem dfin_app (x:V) (id:Nat) (k:Blk) (rd:List Nat) (d:Option Nat) (s:SS):dfin (some true) true (some (x,.app id k)) rd d s=some (s.put d x (.app id k),some id,rd++ [s.nx]):=rfl
@[go_sem] theorem dfin_no (ok:Bool) (r:Option (V×Eff)) (rd:List Nat) (d:Option Nat) (s:SS):dfin (some false) ok r rd d s=some (s.put d (.tu []) .none,none,[]):=rfl
@[go_sem] theorem drun_mk (d:Option Tmp) (op:Op) (ty:TypeId) (pos:String) (after:Array Edge) (gd:Option (Nat×Bool)):
  drun P ops ⟨sl,hp,nx,nt⟩ ⟨d,op,ty,pos,after,gd⟩=if dstOk d nt=true then dfin (guardV ops sl gd) (okOp op) (exOp P sl hp nx op) (rdOf sl op) d ⟨sl,hp,nx,nt⟩else none:=rfl
@[go_sem] theorem idOf_pt (id off:Nat):idOf (.pt id off)=[id]:=rfl
@[go_sem] theorem idOf_tu (l:List V):idOf (.tu l)=[]:=rfl
@[go_sem] theorem idOf_sl (a b c d:Nat) (e:Option Nat):idOf (.sl a b c d e)=[]:=rfl
@[go_sem] theorem idOf_im (l:List V) (n:Nat):idOf (.im l n)=[]:=rfl
@[go_sem] theorem idOf_pi (l:List V):idOf (.pi l)=[]:=rfl
@[go_sem] theorem nx_mk:SS.nx ⟨sl,hp,nx,nt⟩=nx:=rfl
@[go_sem] theorem rdOf_load (t:Nat) (a:Operand):rdOf sl (.load t a)=idOf (evS sl a):=rfl
@[go_sem] theorem rdOf_slice (t:Nat) (x:Operand) (a b c:Option Operand):rdOf sl (.slice t x a b c)=idOf (evS sl x):=rfl
@[go_sem] theorem rdOf_store (t:Nat) (a x:Operand):rdOf sl (.store t a x)=idOf (evS sl a):=rfl
@[go_sem] theorem rdOf_move (x:Operand):rdOf sl (.move x)=[]:=rfl
@[go_sem] theorem rdOf_assign (x:Operand):rdOf sl (.assign x)=[]:=rfl
@[go_sem] theorem rdOf_pick (a b c:Operand):rdOf sl (.pick a b c)=[]:=rfl
@[go_sem] theorem rdOf_alloc (t:Nat):rdOf sl (.alloc t)=[]:=rfl
@[go_sem] theorem rdOf_build (t:Nat) (l:Array (Nat×Operand)):rdOf sl (.build t l)=[]:=rfl
@[go_sem] theorem rdOf_buildSlice (t n:Nat) (l:Array (Nat×Operand)):rdOf sl (.buildSlice t n l)=[]:=rfl
@[go_sem] theorem rdOf_nilCheck (x:Operand):rdOf sl (.nilCheck x)=[]:=rfl
@[go_sem] theorem rdOf_bin (o:BinOp) (t:Nat) (x y:Operand) (u:Nat):rdOf sl (.binOp o t x y u)=[]:=rfl
@[go_sem] theorem rdOf_un (o:UnOp) (t:Nat) (x:Operand):rdOf sl (.unOp o t x)=[]:=rfl
@[go_sem] theorem rdOf_conv (a b:Nat) (x:Operand):rdOf sl (.convert a b x)=idOfS (evS sl x):=rfl
@[go_sem] theorem idOfS_sc (v:Value):idOfS (.sc v)=[]:=rfl
@[go_sem] theorem idOfS_sl (a b c d:Nat) (e:Option Nat):idOfS (.sl a b c d e)=[a]:=rfl
@[go_sem] theorem idOfS_im (l:List V) (n:Nat):idOfS (.im l n)=[]:=rfl
@[go_sem] theorem rdOf_makeSlice (t:Nat) (l c:Operand):rdOf sl (.makeSlice t l c)=[]:=rfl
@[go_sem] theorem rdOf_fieldAddr (t:Nat) (x:Operand) (f:Nat):rdOf sl (.fieldAddr t x f)=[]:=rfl
@[go_sem] theorem rdOf_field (t:Nat) (x:Operand) (f:Nat):rdOf sl (.field t x f)=[]:=rfl
@[go_sem] theorem rdOf_indexAddr (t:Nat) (x i:Operand):rdOf sl (.indexAddr t x i)=[]:=rfl
@[go_sem] theorem rdOf_extract (t:Operand) (i:Nat):rdOf sl (.extract t i)=[]:=rfl
@[go_sem] theorem rdOf_len (args:Array Operand) (ts:Array TypeId):rdOf sl (.call ⟨.builtin .len,args,ts⟩)=[]:=rfl
@[go_sem] theorem rdOf_callV (f:Operand) (args:Array Operand) (ts:Array TypeId):rdOf sl (.call ⟨.value f,args,ts⟩)=[]:=rfl
@[go_sem] theorem okOp_load (t:Nat) (a:Operand):okOp (.load t a)=true:=rfl
@[go_sem] theorem okOp_slice (t:Nat) (x:Operand) (a b c:Option Operand):okOp (.slice t x a b c)=true:=rfl
@[go_sem] theorem okOp_store (t:Nat) (a x:Operand):okOp (.store t a x)=true:=rfl
@[go_sem] theorem okOp_move (x:Operand):okOp (.move x)=true:=rfl
@[go_sem] theorem okOp_assign (x:Operand):okOp (.assign x)=true:=rfl
@[go_sem] theorem okOp_pick (a b c:Operand):okOp (.pick a b c)=true:=rfl
@[go_sem] theorem okOp_alloc (t:Nat):okOp (.alloc t)=true:=rfl
@[go_sem] theorem okOp_build (t:Nat) (l:Array (Nat×Operand)):okOp (.build t l)=true:=rfl
@[go_sem] theorem okOp_buildSlice (t n:Nat) (l:Array (Nat×Operand)):okOp (.buildSlice t n l)=true:=rfl
@[go_sem] theorem okOp_nilCheck (x:Operand):okOp (.nilCheck x)=true:=rfl
@[go_sem] theorem okOp_bin (o:BinOp) (t:Nat) (x y:Operand) (u:Nat):okOp (.binOp o t x y u)=true:=rfl
@[go_sem] theorem okOp_un (o:UnOp) (t:Nat) (x:Operand):okOp (.unOp o t x)=true:=rfl
@[go_sem] theorem okOp_conv (a b:Nat) (x:Operand):okOp (.convert a b x)=true:=rfl
@[go_sem] theorem okOp_makeSlice (t:Nat) (l c:Operand):okOp (.makeSlice t l c)=true:=rfl
@[go_sem] theorem okOp_fieldAddr (t:Nat) (x:Operand) (f:Nat):okOp (.fieldAddr t x f)=true:=rfl
@[go_sem] theorem okOp_field (t:Nat) (x:Operand) (f:Nat):okOp (.field t x f)=true:=rfl
@[go_sem] theorem okOp_indexAddr (t:Nat) (x i:Operand):okOp (.indexAddr t x i)=true:=rfl
@[go_sem] theorem okOp_extract (t:Operand) (i:Nat):okOp (.extract t i)=true:=rfl
@[go_sem] theorem okOp_len (args:Array Operand) (ts:Array TypeId):okOp (.call ⟨.builtin .len,args,ts⟩)=true:=rfl
@[go_sem] theorem okOp_app (args:Array Operand) (ts:Array TypeId):okOp (.call ⟨.builtin .append,args,ts⟩)=true:=rfl
@[go_sem] theorem rdOf_app (x y:Operand) (ts:Array TypeId):rdOf sl (.call ⟨.builtin .append,#[x,y],ts⟩)=idOfS (evS sl x)++(idOfS (evS sl y)++ []):=rfl
attribute [go_sem] List.append_nil
end
end
section
open Go.RowKit
section
variable {P:Program} {w:World} {B:Base} {S:Nat->Prop} {rho:Nat->Nat} {A:Nat->Prop} {s:SS} {a:Act}
def Base.inner(S:Nat->Prop)(rho:Nat->Nat)(A:Nat->Prop)(hp:List (Nat×Blk))(w:World):Base:=⟨w,S,A,rho,λb=> ∃id k,hget hp id=some k/\A id/\rho id=b,[]⟩
theorem Mem.inner{hp:List (Nat×Blk)}(h:Mem B S rho A hp w):Mem (Base.inner S rho A hp w) S rho A hp w where
 cells:=h.cells
 fz:=h.fz
 own id k hk ha:= .inr ⟨id,k,hk,ha,rfl⟩
 inj:=h.inj
 slt:=h.slt
 sub _ hb:=hb
 base _ hb:= .inl hb
 frame:=⟨rfl,rfl,rfl,znb _,λ_ _ _=>rfl,λ_ _=>rfl,λ_ _ h=>h,h.slt,h.tab⟩
 keep _ h:=⟨h,rfl⟩
theorem Frame'.szL{w':World}(k:Frame' B w')(hL: ∀b,B.L b-> ∃c e f,B.w0.heap[b]? =some (.cells c e f)): ∀(b:Nat) (n:Sz),szAt B.w0 b n->szAt w' b n
 |b,.n _,hn=>k.sz b _ hn
 |b,.m es c,hn=>hn.of_heap (k.block b hn.lt λhb=>by obtain⟨c',e,f,h1⟩:=hL b hb;have h2:B.w0.heap[b]? =some (.map es c):=hn;rw[h1]at h2;cases h2)
theorem Mem.Lc{hp:List (Nat×Blk)}(h:Mem B S rho A hp w): ∀b,(Base.inner S rho A hp w).L b-> ∃c e f,w.heap[b]? =some (.cells c e f):=by rintro b ⟨id,q,hq,ha,rfl⟩;obtain⟨cells,h1,_⟩:=h.cells id q hq ha;exact⟨_,_,_,h1⟩
theorem Mem.innerSz{hp:List (Nat×Blk)}{w':World}(h:Mem B S rho A hp w)(k:Frame' (Base.inner S rho A hp w) w'): ∀(b:Nat) (n:Sz),szAt w b n->szAt w' b n:=k.szL h.Lc
theorem Mem.back{hp hp':List (Nat×Blk)}{w':World}{S':Nat->Prop}{rho':Nat->Nat}{A':Nat->Prop}(h:Mem B S rho A hp w)(k:Mem (Base.inner S rho A hp w) S' rho' A' hp' w'):Mem B S' rho' A' hp' w':=by
 have hL: ∀b,(Base.inner S rho A hp w).L b->B.n0<=b\/B.L b:=by rintro b ⟨id,q,hq,ha,rfl⟩;exact h.own id q hq ha
 have hn: ∀b,w.heap.size<=b->B.n0<=b:=λb hb=>Nat.le_trans h.frame.size hb;exact{
  cells:=k.cells
  fz:=k.fz
  own:=λid q hq ha=>(k.own id q hq ha).elim (λh=> .inl (hn _ h)) (hL _)
  inj:=k.inj
  slt:=k.slt
  sub:=λb hb=>k.sub b (h.sub b hb)
  base:=λb hb=>by
   rcases k.base b hb with h1|h1|h1;·exact h.base b h1
   ·exact .inr (.inl (hn _ h1))
   ·exact .inr (hL _ h1)
  frame:={
   os:=k.frame.os.trans h.frame.os
   tape:=k.frame.tape.trans h.frame.tape
   output:=k.frame.output.trans h.frame.output
   size:=Nat.le_trans h.frame.size k.frame.size
   block:=λb hb hl=>by
    have h1: ¬(Base.inner S rho A hp w).L b:=λhh=>by
     rcases hL b hh with h2|h2;·unfold Base.n0 at h2;omega
     ·exact hl h2
    exact(k.frame.block b (Nat.lt_of_lt_of_le hb h.frame.size) h1).trans (h.frame.block b hb hl)
   stay:=λb hb=>(k.frame.stay b (h.sub b hb)).trans (h.frame.stay b hb)
   sz:=λb n hk=>k.frame.sz b n (h.frame.sz b n hk)
   lt:=h.frame.lt
   tab:=h.frame.tab}
  keep:=λid hid=>by obtain⟨h1,h2⟩:=h.keep id hid;obtain⟨h3,h4⟩:=k.keep id h1;exact⟨h3,h4.trans h2⟩}
def vst(x:V)(hp:List (Nat×Blk))(nx:Nat):SS:=⟨[(0,x)],hp,nx,1⟩
def retI(P:Program)(fn:Func)(B:Base)(x:V)(hp:List (Nat×Blk))(nx:Nat):Exit->SS->Prop
 | .normal,s| .ret,s=> ∃y,resV P fn s=some y/\Le B (vst y s.hp s.nx) (vst x hp nx)
 |_,_=>False
def Inl(P:Program)(f:Nat)(args:List V)(hp:List (Nat×Blk))(nx:Nat)(x:V)(hp':List (Nat×Blk))(nx':Nat):Prop:=
 ∃fn c,P.funcs[f]? =some fn/\fn.body=some c/\args.length<=fn.ntmps/\ ∀B:Base,B.Old nx->SWp P B c (retI P fn B x hp' nx') ⟨stSl 0 args,hp,nx,fn.ntmps⟩
theorem start_slots{args:List V}{vs:Array Value}{n:Nat}(h:All S rho A w args vs.toList)(t:Nat):R S rho w A (get (stSl 0 args) t) ((⟨vs++Array.replicate (n-vs.size) undef,[]⟩:Act).eval (.tmp t)):=by
 rw[get_start,if_pos (znc _),Nat.sub_zero];cases ht:args[t]?with
 |none=>exact .junk _
 | some y=>
  have hlt:=(List.getElem?_eq_some_iff.1 ht).1;have hlen:vs.size=args.length:=by have:=h.1;simpa using this.symm
  have hu:vs.toList[t]? =some (vs[t]'om):=by simp[hlen,hlt]
  have:=h.2 t y _ ht hu;have he:(⟨vs++Array.replicate (n-vs.size) undef,[]⟩:Act).eval (.tmp t)=vs[t]'om:=by simp[Act.eval,Array.getElem?_append,hlen,hlt]
  rw[he];exact this
theorem Inl.callsI{f:Nat}{args:List V}{hp hp':List (Nat×Blk)}{nx nx':Nat}{x:V}{vs:Array Value}(h:Inl P f args hp nx x hp' nx')(hm:Mem B S rho A hp w)(ha: ∀id,A id->id<nx)(hv:All S rho A w args vs.toList):
  Calls P f vs w λe w'=> ∃v,e= .returned v/\ ∃S' rho' A',(∀b,S b->S' b/\w'.heap[b]? =w.heap[b]?)/\(∀id,A id->A' id/\rho' id=rho id/\ ∀n,szAt w (rho id) n->szAt w' (rho id) n)/\
   Mem (Base.inner S rho A hp w) S' rho' A' hp' w'/\(∀id,A' id->id<nx')/\R S' rho' w' A' x v:=by
 obtain⟨fn,c,hf,hb,hn,hI⟩:=h;have hlen:vs.size=args.length:=by have:=hv.1;simpa using this.symm
 refine calls_of_wp hf hb (wp_mono (hI (Base.inner S rho A hp w) ha S rho A _ w ⟨start_slots hv,hm.inner,ha,?_,rfl⟩) ?_);·simp;omega
 ·rintro e a1 w' ⟨S',rho',A',s',hq,hr⟩;have fin:(∃y,resV P fn s'=some y/\Le (Base.inner S rho A hp w) (vst y s'.hp s'.nx) (vst x hp' nx'))->a1.defers=[]/\ ∃v,(results fn a1.tmps).run P w'= .ok v w'/\ ∃v',Ending.returned v= .returned v'/\
    ∃S' rho' A',(∀b,S b->S' b/\w'.heap[b]? =w.heap[b]?)/\(∀id,A id->A' id/\rho' id=rho id/\ ∀n,szAt w (rho id) n->szAt w' (rho id) n)/\Mem (Base.inner S rho A hp w) S' rho' A' hp' w'/\(∀id,A' id->id<nx')/\R S' rho' w' A' x v':=by
   rintro⟨y,h1,h2⟩;obtain⟨v,h3,h4⟩:=res_sound (P:=P) hr h1;obtain⟨S2,rho2,A2,h5⟩:=h2 S' rho' A' ⟨#[v],[]⟩ w' ⟨λt=>by
    simp only[vst,get];by_cases e:t=0;·subst e;rw[if_pos rfl];exact h4
    ·rw[if_neg e];exact .junk _,hr.mem,hr.alt,rfl,rfl⟩
   have h6:=h5.slots 0;refine⟨hr.defs,v,h3,v,rfl,S2,rho2,A2,λb hb=>⟨h5.mem.sub b hb,h5.mem.frame.stay b hb⟩,λid hid=> ?_,h5.mem,h5.alt,h6⟩;obtain⟨k1,k2⟩:=h5.mem.keep id hid;exact⟨k1,k2,λn hn=>hm.innerSz h5.mem.frame _ n hn⟩
  cases e with
  |normal=>exact fin hq
  |ret=>exact fin hq
  |_=>exact hq.elim
theorem Inl.calls{f:Nat}{args:List V}{hp hp':List (Nat×Blk)}{nx nx':Nat}{x:V}{vs:Array Value}(h:Inl P f args hp nx x hp' nx')(hm:Mem B S rho A hp w)(ha: ∀id,A id->id<nx)(hv:All S rho A w args vs.toList):
  Calls P f vs w λe w'=> ∃v,e= .returned v/\ ∃S' rho' A',(∀b,S b->S' b/\w'.heap[b]? =w.heap[b]?)/\(∀id,A id->A' id/\rho' id=rho id/\ ∀n,szAt w (rho id) n->szAt w' (rho id) n)/\
   Mem B S' rho' A' hp' w'/\(∀id,A' id->id<nx')/\R S' rho' w' A' x v:=
 (h.callsI hm ha hv).mono λ_ _ ⟨v,h1,S',rho',A',h2,h3,h4,h5,h6⟩=>⟨v,h1,S',rho',A',h2,h3,hm.back h4,h5,h6⟩
def hasId:List (Nat×Blk)->Nat->Bool
 |[],_=>false
 |p::r,i=>decide (i=p.1)||hasId r i
def restH:List (Nat×Blk)->List (Nat×Blk)->List (Nat×Blk)
 |[],_=>[]
 |p::r,l=>if hasId l p.1=true then restH r l else p::restH r l
theorem hget_rest(hp l:List (Nat×Blk))(id:Nat):hget (restH hp l) id=if hasId l id=true then none else hget hp id:=by
 induction hp with
 |nil=>simp[restH,hget]
 | cons p r ih=>
  obtain⟨i,k⟩:=p;simp only[restH];by_cases h:hasId l i=true
  ·rw[if_pos h,ih];by_cases e:id=i;·subst e;rw[if_pos h,if_pos h]
   ·simp only[hget,if_neg e]
  ·rw[if_neg h];simp only[hget];by_cases e:id=i;·subst e;rw[if_pos rfl,if_neg h,if_pos rfl]
   ·rw[if_neg e,if_neg e,ih]
theorem hget_app(a b:List (Nat×Blk))(id:Nat):hget (a++b) id=match hget a id with|some k=>some k|none=>hget b id:=by
 induction a with
 |nil=>rfl
 |cons p r ih=>
  obtain⟨i,k⟩:=p;simp only[zl8,hget];by_cases e:id=i;·rw[if_pos e,if_pos e]
  ·rw[if_neg e,if_neg e];exact ih
theorem hasId_of{l:List (Nat×Blk)}{id:Nat}{k:Blk}(h:hget l id=some k):hasId l id=true:=by
 induction l with
 |nil=>cases h
 |cons p r ih=>
  obtain⟨i,q⟩:=p;simp only[hget]at h;by_cases e:id=i;·simp[hasId,e]
  ·rw[if_neg e]at h;simp[hasId,ih h]
inductive Only(p:Nat->Prop):V->Prop
 |sc (v:Value):Only p (.sc v)
 |junk:Only p .junk
 |ag {cs:List V} (h: ∀x∈cs,Only p x):Only p (.ag cs)
 |tu {cs:List V} (h: ∀x∈cs,Only p x):Only p (.tu cs)
 |pt {id off:Nat} (h:p id):Only p (.pt id off)
 |sl {id off len z:Nat} {c:Option Nat} (h:p id):Only p (.sl id off len z c)
 |im (cs:List V) (n:Nat):Only p (.im cs n)
 |pi (cs:List V):Only p (.pi cs)
 |fn {f:Fn} {a b:List V} (h1: ∀x∈a,Only p x) (h2: ∀x∈b,Only p x):Only p (.fn f a b)
 |mp {id b:Nat} {ks:List Int} {vs:List V} (h:p id):Only p (.mp id b ks vs)
 |ifc {t:TypeId} {x:V} (h:Only p x):Only p (.ifc t x)
theorem R.only{p:Nat->Prop}{x:V}{v:Value}{A':Nat->Prop}(h:R S rho w A x v)(ho:Only p x)(hp: ∀id,p id->A id->A' id):R S rho w A' x v:=by
 induction h generalizing A' with
 |sc v=>exact .sc v
 |junk v=>exact .junk v
 |ag h _ ih=>cases ho with|ag ho=>exact .ag h λi x u h1 h2=>ih i x u h1 h2 (ho x (List.mem_of_getElem? h1)) hp
 |tu h _ ih=>cases ho with|tu ho=>exact .tu h λi x u h1 h2=>ih i x u h1 h2 (ho x (List.mem_of_getElem? h1)) hp
 |pt h=>cases ho with|pt ho=>exact .pt (hp _ ho h)
 |sl h hl hm hc hz=>cases ho with|sl ho=>exact .sl (hp _ ho h) hl hm hc hz
 |sln h=>exact .sln h
 |im0 hl hm ha=>exact .im0 hl hm ha
 |im1 f hl hm hs hc hx _=>exact .im1 f hl hm hs hc hx
 |pi f hs hc hx _=>exact .pi f hs hc hx
 |fn hp' hq _ _ i1 i2=>cases ho with|fn h1 h2=>exact .fn hp' hq (λi x u a b=>i1 i x u a b (h1 x (List.mem_of_getElem? a)) hp) (λi x u a b=>i2 i x u a b (h2 x (List.mem_of_getElem? a)) hp)
 |mp h hb hm hk hl hx _=>cases ho with|mp ho=>exact .mp (hp _ ho h) hb hm hk hl hx
 |ifc _ ih=>cases ho with|ifc ho=>exact .ifc (ih ho hp)
def OnlyH(p:Nat->Prop):List (Nat×Blk)->Prop
 |[]=>True
 |q::r=>(∀y∈q.2.cs,Only p y)/\OnlyH p r
theorem OnlyH.of{p:Nat->Prop}{l:List (Nat×Blk)}{id:Nat}{k:Blk}(h:OnlyH p l)(hk:hget l id=some k): ∀y∈k.cs,Only p y:=by
 induction l with
 |nil=>cases hk
 |cons q r ih=>
  obtain⟨i,q⟩:=q;simp only[hget]at hk;by_cases e:id=i;·rw[if_pos e]at hk;cases hk;exact h.1
  ·rw[if_neg e]at hk;exact ih h.2 hk
def subH:List (Nat×Blk)->List (Nat×Blk)->Prop
 |[],_=>True
 |p::r,hp=>hget hp p.1=some p.2/\subH r hp
theorem subH.of{l hp:List (Nat×Blk)}(h:subH l hp): ∀id k,hget l id=some k->hget hp id=some k:=by
 induction l with
 |nil=>intro id k hk;cases hk
 |cons q r ih=>
  obtain⟨i,q⟩:=q;intro id k hk;simp only[hget]at hk;by_cases e:id=i;·subst e;rw[if_pos rfl]at hk;cases hk;exact h.1
  ·rw[if_neg e]at hk;exact ih h.2 id k hk
theorem Mem.backS{hp hpS hp':List (Nat×Blk)}{w':World}{S':Nat->Prop}{rho':Nat->Nat}{A':Nat->Prop}(h:Mem B S rho A hp w)(hsub: ∀id k,hget hpS id=some k->hget hp id=some k)(k:Mem (Base.inner S rho A hpS w) S' rho' A' hp' w')
  (hc:OnlyH (λid=>hasId (restH hp hpS) id=false) hp'):Mem B S' rho' (λid=>A' id/\(hasId (restH hp hpS) id=true->A id)) (hp'++restH hp hpS) w':=by
 have k0:=(h.less hsub).back k;have hS: ∀b,S b->S' b/\w'.heap[b]? =w.heap[b]? :=λb hb=>⟨k.sub b hb,k.frame.stay b hb⟩
 have hA: ∀id,A id->(A' id/\(hasId (restH hp hpS) id=true->A id))/\rho' id=rho id/\ ∀n,szAt w (rho id) n->szAt w' (rho id) n:=λid hid=>⟨⟨(k.keep id hid).1,λ_=>hid⟩,(k.keep id hid).2,λn hn=>(h.less hsub).innerSz k.frame _ n hn⟩
 have hold: ∀id q,hget (restH hp hpS) id=some q->hasId (restH hp hpS) id=true/\hasId hpS id=false/\hget hp id=some q:=by
  intro id q hq;refine⟨hasId_of hq,?_⟩;rw[hget_rest]at hq;split at hq;·cases hq
  ·rename_i hn;exact⟨by simpa using hn,hq⟩
 have hstill: ∀id q,hget (restH hp hpS) id=some q->A id->w'.heap[rho id]? =w.heap[rho id]? /\ ¬(Base.inner S rho A hpS w).L (rho id):=by
  intro id q hq ha;obtain⟨_,h2,h3⟩:=hold id q hq;have hnl: ¬(Base.inner S rho A hpS w).L (rho id):=by rintro⟨i,qi,hqi,hai,he⟩;have:=h.inj i id qi q (hsub i qi hqi) h3 hai ha he;subst this;rw[hasId_of hqi]at h2;cases h2
  exact⟨k.frame.block _ (h.lt h3 ha) hnl,hnl⟩
 have hcase: ∀{P:Nat->Blk->Prop},(∀i q,hget hp' i=some q->P i q)->(∀i q,hget (restH hp hpS) i=some q->P i q)-> ∀i q,hget (hp'++restH hp hpS) i=some q->P i q:=by
  intro P h1 h2 i q hq;rw[hget_app]at hq;cases e:hget hp' i with
  |some k1=>rw[e]at hq;cases hq;exact h1 i _ e
  |none=>rw[e]at hq;exact h2 i q hq
 have hne: ∀i q j p,hget hp' i=some q->A' i->hget (restH hp hpS) j=some p->A j->rho' i≠rho j:=by
  intro i q j p hi hai hj haj e;obtain⟨_,_,h3⟩:=hold j p hj;rcases k.own i q hi hai with h4|h4;·have:=h.lt h3 haj;rw[e]at h4;unfold Base.n0 at h4;exact absurd this (Nat.not_lt.2 h4)
  ·rw[e]at h4;exact(hstill j p hj haj).2 h4
 exact{
  cells:=by
   refine hcase (λi q hq ha=> ?_) (λi q hq ha=> ?_)
   ·obtain⟨cells,c1,c2⟩:=k0.cells i q hq ha.1;refine⟨cells,c1,λj x hx=> ?_⟩;obtain⟨u,hu,hr⟩:=c2 j x hx;exact⟨u,hu,hr.only (hc.of hq x (List.mem_of_getElem? hx)) λid hid hai=>⟨hai,λe=>by rw[hid]at e;cases e⟩⟩
   ·obtain⟨h1,h2,h3⟩:=hold i q hq;have hai:=ha.2 h1;rw[(hA i hai).2.1];exact(h.cells i q h3 hai).mono (hstill i q hq hai).1 hS hA
  fz:=by
   refine hcase (λi q hq ha=>k0.fz i q hq ha.1) (λi q hq ha h0=> ?_);obtain⟨h1,h2,h3⟩:=hold i q hq;have hai:=ha.2 h1;rw[(hA i hai).2.1];intro hs;rcases k.base _ hs with h4|h4|h4;·exact h.fz i q h3 hai h0 h4
   ·have:=h.lt h3 hai;unfold Base.n0 at h4;exact absurd this (Nat.not_lt.2 h4)
   ·exact(hstill i q hq hai).2 h4
  own:=by refine hcase (λi q hq ha=>k0.own i q hq ha.1) (λi q hq ha=> ?_);obtain⟨h1,h2,h3⟩:=hold i q hq;rw[(hA i (ha.2 h1)).2.1];exact h.own i q h3 (ha.2 h1)
  inj:=by
   intro i j q p hq hp1;refine hcase (P:=λi _=>(A' i/\(hasId (restH hp hpS) i=true->A i))->(A' j/\(hasId (restH hp hpS) j=true->A j))->rho' i=rho' j->i=j) (λi q hq ha haj e=> ?_) (λi q hq ha haj e=> ?_) i q hq
   ·refine hcase (P:=λj _=>(A' j/\(hasId (restH hp hpS) j=true->A j))->rho' i=rho' j->i=j) (λj p hp1 haj e=>k0.inj i j q p hq hp1 ha.1 haj.1 e) (λj p hp1 haj e=> ?_) j p hp1 haj e;obtain⟨h1,h2,h3⟩:=hold j p hp1;have hj:=haj.2 h1;rw[(hA j hj).2.1]at e;exact absurd e (hne i q j p hq ha.1 hp1 hj)
   ·obtain⟨h1,h2,h3⟩:=hold i q hq;have hai:=ha.2 h1;rw[(hA i hai).2.1]at e;refine hcase (P:=λj _=>(A' j/\(hasId (restH hp hpS) j=true->A j))->rho i=rho' j->i=j) (λj p hp1 haj e=> ?_) (λj p hp1 haj e=> ?_) j p hp1 haj e;·exact absurd e.symm (hne j p i q hp1 haj.1 hq hai)
    ·obtain⟨g1,g2,g3⟩:=hold j p hp1;have hj:=haj.2 g1;rw[(hA j hj).2.1]at e;exact h.inj i j q p h3 g3 hai hj e
  slt:=k0.slt
  sub:=k0.sub
  base:=k0.base
  frame:=k0.frame
  keep:=λid hid=>by obtain⟨h1,h2⟩:=h.keep id hid;exact⟨(hA id h1).1,(hA id h1).2.1.trans h2⟩}
theorem SOps.inl{ops:Array Oper}{Q:Exit->SS->Prop}{o:Oper}{l:List Oper}{g:Operand}{f:Nat}{p q:List V}{args:Array Operand}{ts:Array TypeId}{x:V}{hp':List (Nat×Blk)}{nx':Nat}(ho:o.op= .call ⟨.value g,args,ts⟩)(hg:guardV ops s.sl o.guard=some true)
  (hd:dstOk o.dst s.nt=true) (hfn:fnOf (evS s.sl g)=some (f,p,q)) (hgo:isGo P f=true) (hI:Inl P f (p++args.toList.map (evS s.sl)++q) s.hp s.nx x hp' nx') (k:SOps P B ops l Q ⟨putS s.sl o.dst x,hp',nx',s.nt⟩):SOps P B ops (o::l) Q s:=by
 intro S rho A a w hr;have hw:=guard_sound hr.slots hg;refine wpList_step λK hK=> ?_;rw[if_pos hw];obtain⟨ps,qs,he,hps,hqs⟩:=fn_sound hfn (ev_sound hr.mem.tab hr.slots g);have hrun:(execOp a.eval o).run P w= .ok (.enter f (ps++args.map a.eval++qs)) w:=by simp only[execOp,ho,resolve,he,Deferred.ofValue,Sem.run_bind,Sem.run_pure,Result.andThen_ok,invoke];exact callFunc_go hgo _ w
 unfold Oper.wp;rw[hrun];refine(hI.calls hr.mem hr.alt (vs:=ps++args.map a.eval++qs) ?_).mono ?_
 ·have:=(hps.append (All.ev hr.mem.tab hr.slots args.toList)).append hqs;simpa using this
 ·rintro e w' ⟨v,rfl,S',rho',A',h1,h2,h3,h4,h5⟩;refine hK _ _ (k S' rho' A' _ _ ⟨slots_put hr.slots (by rw[hr.nt];exact hd) h1 h2 h5,h3,h4,by rw[put_size];exact hr.nt,by rw[put_defers];exact hr.defs⟩)
theorem SOps.inlS{ops:Array Oper}{Q:Exit->SS->Prop}{o:Oper}{l:List Oper}{g:Operand}{f:Nat}{p q ys:List V}{args:Array Operand}{ts:Array TypeId}{x:V}{hpS hp':List (Nat×Blk)}{nx':Nat}(ho:o.op= .call ⟨.value g,args,ts⟩)(hg:guardV ops s.sl o.guard=some true)
  (hd:dstOk o.dst s.nt=true) (hfn:fnOf (evS s.sl g)=some (f,p,q)) (hgo:isGo P f=true) (hy:p++args.toList.map (evS s.sl)++q=ys) (hsub:subH hpS s.hp) (hI:Inl P f ys hpS s.nx x hp' nx')
  (hx:Only (λid=>hasId (restH s.hp hpS) id=false) x) (hc:OnlyH (λid=>hasId (restH s.hp hpS) id=false) hp') (k:SOps P B ops l Q ⟨putS s.sl o.dst x,hp'++restH s.hp hpS,nx',s.nt⟩):SOps P B ops (o::l) Q s:=by
 intro S rho A a w hr;have hw:=guard_sound hr.slots hg;refine wpList_step λK hK=> ?_;rw[if_pos hw];obtain⟨ps,qs,he,hps,hqs⟩:=fn_sound hfn (ev_sound hr.mem.tab hr.slots g);have hrun:(execOp a.eval o).run P w= .ok (.enter f (ps++args.map a.eval++qs)) w:=by simp only[execOp,ho,resolve,he,Deferred.ofValue,Sem.run_bind,Sem.run_pure,Result.andThen_ok,invoke];exact callFunc_go hgo _ w
 unfold Oper.wp;rw[hrun];refine(hI.callsI (hr.mem.less hsub.of) hr.alt (vs:=ps++args.map a.eval++qs) ?_).mono ?_
 ·have:=(hps.append (All.ev hr.mem.tab hr.slots args.toList)).append hqs;rw[hy]at this;simpa using this
 ·rintro e w' ⟨v,rfl,S',rho',A',h1,h2,h3,h4,h5⟩;have h6:=hr.mem.backS hsub.of h3 hc;refine hK _ _ (k S' rho' (λid=>A' id/\(hasId (restH s.hp hpS) id=true->A id)) _ _ ⟨slots_put hr.slots (by rw[hr.nt];exact hd) h1 (λid hid=>⟨⟨(h2 id hid).1,λ_=>hid⟩,(h2 id hid).2⟩) (h5.only hx λid hid hai=>⟨hai,λe=>by rw[hid]at e;cases e⟩),h6,λid hid=>h4 id hid.1,by rw[put_size];exact hr.nt,by rw[put_defers];exact hr.defs⟩)
def SInl(P:Program)(B:Base)(f:Nat)(ys:List V)(d:Option Nat)(ops:Array Oper)(l:List Oper)(cs:List Code)(Q:Exit->SS->Prop)(s:SS):Prop:=
 ∃hpS x hp' nx',subH hpS s.hp/\Inl P f ys hpS s.nx x hp' nx'/\Only (λid=>hasId (restH s.hp hpS) id=false) x/\OnlyH (λid=>hasId (restH s.hp hpS) id=false) hp'/\SO P B ops l cs Q ⟨putS s.sl d x,hp'++restH s.hp hpS,nx',s.nt⟩
theorem SO.inl{ops:Array Oper}{l:List Oper}{cs:List Code}{Q:Exit->SS->Prop}{g:Operand}{f:Nat}{p q ys:List V}{args:List Operand}{ts:Array TypeId}{d:Option Tmp}{ty:TypeId}{pos:String}{after:Array Edge}{gd:Option (Nat×Bool)}
  (hfn:fnOf (evS s.sl g)=some (f,p,q)) (hgo:isGo P f=true) (hy:p++args.map (evS s.sl)++q=ys) (hg:guardV ops s.sl gd=some true/\dstOk d s.nt=true) (k:SInl P B f ys d ops l cs Q s):SO P B ops (⟨d,.call ⟨.value g,args.toArray,ts⟩,ty,pos,after,gd⟩::l) cs Q s:=by
 obtain⟨hpS,x,hp',nx',h1,h2,h3,h4,h5⟩:=k;exact SOps.inlS rfl hg.1 hg.2 hfn hgo (by simpa using hy) h1 h2 h3 h4 h5
theorem SInl.of{ops:Array Oper}{l:List Oper}{cs:List Code}{Q:Exit->SS->Prop}{f:Nat}{ys:List V}{d:Option Nat}{hpS hp' hp'':List (Nat×Blk)}{nx nx' nt:Nat}{sl sl':List (Nat×V)}{hp:List (Nat×Blk)}{x:V}(hI:Inl P f ys hpS nx x hp' nx')(hs:subH hpS hp)
  (hx:Only (λid=>hasId (restH hp hpS) id=false) x) (hc:OnlyH (λid=>hasId (restH hp hpS) id=false) hp') (h1:putS sl d x=sl') (h2:hp'++restH hp hpS=hp'') (k:SO P B ops l cs Q ⟨sl',hp'',nx',nt⟩):SInl P B f ys d ops l cs Q ⟨sl,hp,nx,nt⟩:=by
 subst h1;subst h2;exact⟨hpS,x,hp',nx',hs,hI,hx,hc,k⟩
def SNew(P:Program)(B:Base)(f:Nat)(ys:List V)(d:Option Nat)(ops:Array Oper)(l:List Oper)(cs:List Code)(Q:Exit->SS->Prop)(s:SS):Prop:=
 ∃k X,NewX P f ys k X true/\SO P B ops l cs Q (s.put d (X s.nx) (.new k))
theorem SO.callN{ops:Array Oper}{l:List Oper}{cs:List Code}{Q:Exit->SS->Prop}{f:Nat}{args:List Operand}{ts:Array TypeId}{d:Option Tmp}{ty:TypeId}{pos:String}{after:Array Edge}{gd:Option (Nat×Bool)}{ys:List V}{ids:List Nat}
  (hgo:isGo P f=true) (hf:frzAll (frz 8 s.hp) (args.map (evS s.sl))=some (ys,ids)) (hg:guardV ops s.sl gd=some true/\dstOk d s.nt=true) (k:SNew P B f ys d ops l cs Q s):SO P B ops (⟨d,.call ⟨.value (.func f),args.toArray,ts⟩,ty,pos,after,gd⟩::l) cs Q s:=by
 obtain⟨k0,X,hs,k⟩:=k;intro S rho A a w hr;have hw:=guard_sound (o:=(⟨d,.call ⟨.value (.func f),args.toArray,ts⟩,ty,pos,after,gd⟩:Oper)) hr.slots hg.1;refine wpList_step λK hK=> ?_;rw[if_pos hw];have hall:=All.ev hr.mem.tab hr.slots args;obtain⟨h1,h2⟩:=frzAll_sound (frz_sound hr.mem 8) hf hall;have hmf:=hr.mem.freeze ids h2;have hrun:(execOp a.eval ⟨d,.call ⟨.value (.func f),args.toArray,ts⟩,ty,pos,after,gd⟩).run P w= .ok (.enter f (args.toArray.map a.eval)) w:=by simp only[execOp,resolve,Act.eval,Deferred.ofValue,Sem.run_bind,Sem.run_pure,Result.andThen_ok,invoke];have:=callFunc_go hgo (args.toArray.map a.eval) w;simpa using this
 unfold Oper.wp;rw[hrun];refine(hs.2 (addS S rho A ids) w (args.toArray.map a.eval) hmf.slt hmf.tab ⟨by have:=h1.1;simpa using this,λi y u hy hu=>(h1.2 i y u hy (by simpa using hu)).rho⟩).mono ?_;have hid: ¬A s.nx:=λh=>Nat.lt_irrefl _ (hr.alt _ h);rintro e w' ⟨v,rfl,g,⟨b,S2,hb,hS2,hnb,hcs,hv⟩|hv⟩
 ·have hS0: ∀c,S2 c->False:=λc h=>by have:=(hS2 c h).1;cases this
  have hm:=hr.mem.new g s.nx hid k0 b hb (hcs.mono rfl (λc h=>(hS0 c h).elim) (λ_ h=>h.elim));refine hK _ _ (k S (λj=>if j=s.nx then b else rho j) (λj=>j=s.nx\/A j) _ _ ⟨slots_put hr.slots (by rw[hr.nt];exact hg.2) (λb hb=>⟨hb,g.block b (hr.mem.slt b hb)⟩) (λid hid'=>⟨.inr hid',if_neg (λe:id=s.nx=>hid (e▸hid')),λ_=>g.szAt⟩) (hs.1 _ _ _ _ _ _ _ _ _ _ hv (λc h=>(hS0 c h).elim) (λi h=>h) (.inl rfl) (if_pos rfl)),hm,?_,by rw[put_size];exact hr.nt,by rw[put_defers];exact hr.defs⟩);rintro id (rfl|h);·exact Nat.lt_succ_self _
  ·exact Nat.lt_succ_of_lt (hr.alt id h)
 ·refine hK _ _ (k S rho A _ _ ⟨slots_put hr.slots (by rw[hr.nt];exact hg.2) (λb hb=>⟨hb,g.block b (hr.mem.slt b hb)⟩) (λid hid'=>⟨hid',rfl,λ_=>g.szAt⟩) (hv _ _ _ _ _),(hr.mem.grow g).phantom s.nx hid k0,λid h=>Nat.lt_succ_of_lt (hr.alt id h),by rw[put_size];exact hr.nt,by rw[put_defers];exact hr.defs⟩)
theorem SNew.of{ops:Array Oper}{l:List Oper}{cs:List Code}{Q:Exit->SS->Prop}{f:Nat}{ys:List V}{d:Option Nat}{k:Blk}{off len z n:Nat}{c:Option Nat}{s':SS}(hs:NewP P f ys k off len z c)(hn:s.nx=n)(hp:s.put d (.sl n off len z c) (.new k)=s')(h:SO P B ops l cs Q s'):SNew P B f ys d ops l cs Q s:=by subst hn;subst hp;exact⟨k,_,hs,h⟩
theorem NewP.of{f:Nat}{args:List V}{k:Blk}{off len z:Nat}{cap:Option Nat}(hl:0<len)(hsc: ∀y∈k.cs,∃v,y= .sc v)(hI:Inl P f args [] 0 (.sl 0 off len z cap) [(0,k)] 1):NewP P f args k off len z cap:=by
 refine⟨rx_sl off len z cap,?_⟩;intro S w vs hS hT hargs;have hm:Mem ⟨w,S,λ_=>False,λ_=>0,λ_=>False,[]⟩ S (λ_=>0) (λ_=>False) [] w:={
  cells:=λid k hk=>by cases hk
  fz:=λid k hk=>by cases hk
  own:=λid k hk=>by cases hk
  inj:=λid id' k k' hk=>by cases hk
  slt:=hS
  sub:=λ_ h=>h
  base:=λ_ h=> .inl h
  frame:=⟨rfl,rfl,rfl,znb _,λ_ _ _=>rfl,λ_ _=>rfl,λ_ _ h=>h,hS,hT⟩
  keep:=λid h=>h.elim}
 refine(hI.calls hm (λ_ h=>h.elim) (vs:=vs) hargs).mono ?_;rintro e w' ⟨v,rfl,S',rho',A',h1,h2,h3,h4,h5⟩;cases h5 with
 |sln h=>omega
 | sl h0 hl' hm' hc hz=>
  have hk:hget [(0,k)] 0=some k:=rfl;refine⟨_,rfl,⟨h3.frame.os,h3.frame.tape,h3.frame.output,h3.frame.size,λb hb=>h3.frame.block b hb (λh=>h)⟩,.inl ⟨rho' 0,λ_=>False,?_,λ_ h=>h.elim,λh=>h,?_,.sl rfl hl' hm' hc hz⟩⟩
  ·rcases h3.own 0 k hk h0 with h|h;·exact h
   ·exact h.elim
  ·obtain⟨cells,c1,c2⟩:=h3.cells 0 k hk h0;refine⟨cells,c1,λi x hx=> ?_⟩;obtain⟨u,hu,hr⟩:=c2 i x hx;obtain⟨v,rfl⟩:=hsc x (List.mem_of_getElem? hx);cases hr;exact⟨_,hu,.sc _⟩
theorem NewX.of{f:Nat}{args:List V}{k:Blk}{X:Nat->V}(i0:Nat){m:Nat}{hp:List (Nat×Blk)}(hX:RX X)(hk:hget hp i0=some k)(hz:k.fz=false)(hlive: ∀(S:Nat->Prop) (rho:Nat->Nat) (A:Nat->Prop) (w:World) (v:Value),R S rho w A (X i0) v->A i0/\R S rho w (λi=>i=i0) (X i0) v)(hc:k.cs.all clo=true)(hI:Inl P f args [] 0 (X i0) hp m):NewX P f args k X false:=by
 refine⟨hX,?_⟩;intro S w vs hS hT hargs;have hm:Mem ⟨w,S,λ_=>False,λ_=>0,λ_=>False,[]⟩ S (λ_=>0) (λ_=>False) [] w:={
  cells:=λid k hk=>by cases hk
  fz:=λid k hk=>by cases hk
  own:=λid k hk=>by cases hk
  inj:=λid id' k k' hk=>by cases hk
  slt:=hS
  sub:=λ_ h=>h
  base:=λ_ h=> .inl h
  frame:=⟨rfl,rfl,rfl,znb _,λ_ _ _=>rfl,λ_ _=>rfl,λ_ _ h=>h,hS,hT⟩
  keep:=λid h=>h.elim}
 refine(hI.calls hm (λ_ h=>h.elim) (vs:=vs) hargs).mono ?_;rintro e w' ⟨v,rfl,S',rho',A',h1,h2,h3,h4,h5⟩;obtain⟨hA,h6⟩:=hlive _ _ _ _ _ h5;refine⟨v,rfl,⟨h3.frame.os,h3.frame.tape,h3.frame.output,h3.frame.size,λb hb=>h3.frame.block b hb (λh=>h)⟩,.inl ⟨rho' i0,S',?_,λc hc'=>⟨rfl,?_⟩,h3.fz i0 k hk hA hz,?_,?_⟩⟩
 ·rcases h3.own i0 k hk hA with h|h;·exact h
  ·exact h.elim
 ·rcases h3.base c hc' with h|h|h;·exact .inl h
  ·exact .inr ⟨h,h3.slt c hc'⟩
  ·exact h.elim
 ·obtain⟨cells,c1,c2⟩:=h3.cells i0 k hk hA;refine⟨cells,c1,λi x hx=> ?_⟩;obtain⟨u,hu,hr⟩:=c2 i x hx;exact⟨u,hu,(clo_sound (List.all_eq_true.1 hc x (List.mem_of_getElem? hx)) hr).rho⟩
 ·exact hX _ _ _ _ _ _ _ _ _ _ h6 (λ_ h=>h) (λi h=>h) rfl rfl
theorem Inl.run{f:Nat}{fn:Func}{c:Code}{args:List V}{x:V}{n nx nx':Nat}{s0:SS}{hp hp':List (Nat×Blk)}(hf:P.funcs[f]? =some fn)(hb:fn.body=some c)(hnt:fn.ntmps=n)(hn:args.length<=n)(h0:(⟨stSl 0 args,hp,nx,n⟩:SS)=s0)(h: ∀B:Base,B.Old nx->SC P B [c] (retI P fn B x hp' nx') s0):Inl P f args hp nx x hp' nx':=by subst hnt;subst h0;exact⟨fn,c,hf,hb,hn,λB hB=>SC.of (h B hB)⟩
theorem retI_ret{fn:Func}{x y:V}{hp':List (Nat×Blk)}{nx':Nat}{rs:List ResultVar}(hr:fn.results=rs.toArray)(h1:resG P s rs=some y)(h2:Le B (vst y s.hp s.nx) (vst x hp' nx')):retI P fn B x hp' nx' .ret s:=⟨y,by rw[resV_eq,hr];exact h1,h2⟩
@[go_sem] theorem fnOf_func (f:Nat):fnOf (.sc (.func (.func f) #[] #[]))=some (f,[],[]):=rfl
@[go_sem] theorem fnOf_fn (f:Nat) (p q:List V):fnOf (.fn (.func f) p q)=some (f,p,q):=rfl
@[go_sem] theorem hasId_nil (i:Nat):hasId [] i=false:=rfl
@[go_sem] theorem hasId_cons (p:Nat×Blk) (r:List (Nat×Blk)) (i:Nat):hasId (p::r) i=(decide (i=p.1)||hasId r i):=rfl
@[go_sem] theorem restH_nil (l:List (Nat×Blk)):restH [] l=[]:=rfl
@[go_sem] theorem restH_cons (p:Nat×Blk) (r l:List (Nat×Blk)):restH (p::r) l=if hasId l p.1=true then restH r l else p::restH r l:=rfl
@[go_sem] theorem subH_nil (hp:List (Nat×Blk)):subH [] hp=True:=rfl
@[go_sem] theorem subH_cons (p:Nat×Blk) (r hp:List (Nat×Blk)):subH (p::r) hp=(hget hp p.1=some p.2/\subH r hp):=rfl
end
end
section
open Go.RowKit
abbrev HP:=List (Nat×Blk)
def forceN{R:Type}(n:Nat)(k:Nat->R):R:=
 match n with
 | .zero=>k .zero
 | .succ m=>k (.succ m)
theorem forceN_eq{R:Type}(n:Nat)(k:Nat->R):forceN n k=k n:=by cases n<;>rfl
def forceV{R:Type}(x:V)(k:V->R):R:=
 match x with
 | .sc v=>match v with
  | .int kd n=>match n with
   | .ofNat m=>forceN m λm=>k (.sc (.int kd (.ofNat m)))
   | .negSucc m=>forceN m λm=>k (.sc (.int kd (.negSucc m)))
  | .bool b=>match b with
   |true=>k (.sc (.bool true))
   |false=>k (.sc (.bool false))
  |v=>k (.sc v)
 | .pt id off=>forceN id λid=>forceN off λoff=>k (.pt id off)
 | .sl id off len z c=>forceN id λid=>forceN off λoff=>forceN len λlen=>k (.sl id off len z c)
 |x=>k x
theorem forceV_eq{R:Type}(x:V)(k:V->R):forceV x k=k x:=by
 unfold forceV;split
 ·split;·split<;>simp only[forceN_eq]
  ·split<;>rfl
  ·rfl
 ·simp only[forceN_eq]
 ·simp only[forceN_eq]
 ·rfl
def spine{α R:Type}:List α->(List α->R)->R
 |[],k=>k []
 |x::r,k=>spine r λr'=>k (x::r')
theorem spine_eq{α R:Type}: ∀(l:List α) (k:List α->R),spine l k=k l
 |[],k=>rfl
 |x::r,k=>by rw[spine,spine_eq r]
def delS(t:Nat):List (Nat×V)->List (Nat×V)
 |[]=>[]
 |(k,x)::r=>if k=t then r else(k,x)::delS t r
def delK{R:Type}(t:Nat):List (Nat×V)->(List (Nat×V)->R)->R
 |[],c=>c []
 |(k,x)::r,c=>match Nat.beq k t with
  |true=>c r
  |false=>delK t r λr'=>c ((k,x)::r')
theorem delK_eq{R:Type}(t:Nat): ∀(l:List (Nat×V)) (c:List (Nat×V)->R),delK t l c=c (delS t l)
 |[],c=>rfl
 |(k,x)::r,c=>by
  rw[delK,delS];split;·rename_i h;rw[if_pos (Nat.eq_of_beq_eq_true h)]
  ·rename_i h;rw[if_neg (Nat.ne_of_beq_eq_false h),delK_eq t r]
def putT(sl:List (Nat×V))(d:Option Nat)(x:V):List (Nat×V):=
 match d with
 |some d=>(d,x)::delS d sl
 |none=>sl
def putK{R:Type}(sl:List (Nat×V))(d:Option Nat)(x:V)(k:List (Nat×V)->R):R:=
 match d with
 |some d=>forceV x λx=>delK d sl λr=>k ((d,x)::r)
 |none=>k sl
theorem putK_eq{R:Type}(sl:List (Nat×V))(d:Option Nat)(x:V)(k:List (Nat×V)->R):putK sl d x k=k (putT sl d x):=by
 cases d with
 |none=>rfl
 |some d=>simp only[putK,putT,forceV_eq,delK_eq]
def blkK{R:Type}(b:Blk)(k:Blk->R):R:=
 match b with
 |⟨ty,cs,fz⟩=>spine cs λcs=>k ⟨ty,cs,fz⟩
theorem blkK_eq{R:Type}(b:Blk)(k:Blk->R):blkK b k=k b:=by cases b;simp only[blkK,spine_eq]
def hsetK{R:Type}:HP->Nat->Blk->(HP->R)->R
 |[],_,_,k=>k []
 |(i,q)::r,t,y,k=>match Nat.beq t i with
  |true=>k ((i,y)::r)
  |false=>hsetK r t y λr'=>k ((i,q)::r')
theorem hsetK_eq{R:Type}: ∀(l:HP) (t:Nat) (y:Blk) (k:HP->R),hsetK l t y k=k (hset l t y)
 |[],t,y,k=>rfl
 | (i,q)::r,t,y,k=>by
  rw[hsetK,hset];split
  ·rename_i h;have:=Nat.eq_of_beq_eq_true h;subst this;rw[if_pos rfl]
  ·rename_i h;rw[if_neg (Nat.ne_of_beq_eq_false h),hsetK_eq r]
def effK{R:Type}(f:Eff)(nx:Nat)(hp:HP)(k:HP->Nat->R):R:=
 match f with
 | .none=>k hp nx
 | .new b=>blkK b λb=>forceN nx.succ λn=>k ((nx,b)::hp) n
 | .set id b=>blkK b λb=>hsetK hp id b λhp'=>k hp' nx
 | .app id b=>blkK b λb=>spine (hdel hp id) λhp'=>forceN nx.succ λn=>k ((nx,b)::hp') n
theorem effK_eq{R:Type}(f:Eff)(nx:Nat)(hp:HP)(k:HP->Nat->R):effK f nx hp k=k (f.heap nx hp) (f.next nx):=by cases f<;>simp only[effK,blkK_eq,hsetK_eq,spine_eq,forceN_eq,Eff.heap,Eff.next]
theorem get_delS(t t':Nat)(h:t'≠t): ∀l:List (Nat×V),get (delS t l) t'=get l t'
 |[]=>rfl
 |(k,x)::r=>by
  simp only[delS];split;·rename_i e;subst e;simp only[get];rw[if_neg h]
  ·simp only[get];rw[get_delS t t' h r]
theorem get_putT(sl:List (Nat×V))(d:Option Nat)(x:V)(t:Nat):get (putT sl d x) t=get (putS sl d x) t:=by
 cases d with
 |none=>rfl
 |some d=>
  simp only[putT,putS,get];by_cases e:t=d;·rw[if_pos e,if_pos e]
  ·rw[if_neg e,if_neg e,get_delS d t e]
def SameS(s s':SS):Prop:=(∀t,get s.sl t=get s'.sl t)/\s.hp=s'.hp/\s.nx=s'.nx/\s.nt=s'.nt
def SS.putX{R:Type}(s:SS)(d:Option Nat)(x:V)(f:Eff)(k:SS->R):R:=
 match s with
 |⟨sl,hp,nx,nt⟩=>putK sl d x λsl=>effK f nx hp λhp nx=>k ⟨sl,hp,nx,nt⟩
theorem putX_eq{R:Type}(s:SS)(d:Option Nat)(x:V)(f:Eff): ∃s',SameS s' (s.put d x f)/\ ∀k:SS->R,s.putX d x f k=k s':=by obtain⟨sl,hp,nx,nt⟩:=s;exact⟨⟨putT sl d x,f.heap nx hp,f.next nx,nt⟩,⟨λt=>get_putT sl d x t,rfl,rfl,rfl⟩,λk=>by simp only[SS.putX,putK_eq,effK_eq]⟩
def SS.calledX{R:Type}(s:SS)(d:Option Nat)(x:V)(ids:List Nat)(k:SS->R):R:=
 match s with
 |⟨sl,hp,nx,nt⟩=>putK sl d x λsl=>match flat x with
  |true=>k ⟨sl,hp,nx,nt⟩
  |false=>spine (fzHp hp ids) λhp=>k ⟨sl,hp,nx,nt⟩
theorem calledX_eq{R:Type}(s:SS)(d:Option Nat)(x:V)(ids:List Nat): ∃s',SameS s' (s.called d x ids)/\ ∀k:SS->R,s.calledX d x ids k=k s':=by obtain⟨sl,hp,nx,nt⟩:=s;refine⟨⟨putT sl d x,if flat x then hp else fzHp hp ids,nx,nt⟩,⟨λt=>get_putT sl d x t,rfl,rfl,rfl⟩,λk=> ?_⟩;simp only[SS.calledX,putK_eq,spine_eq];cases flat x<;>rfl
def SS.putY{R:Type}(s:SS)(d:Option Nat)(x:V)(f:Eff)(k:SS->R):R:=
 match s with
 |⟨sl,hp,nx,nt⟩=>forceV x λx=>effK f nx hp λhp nx=>k ⟨putS sl d x,hp,nx,nt⟩
theorem putY_eq{R:Type}(s:SS)(d:Option Nat)(x:V)(f:Eff)(k:SS->R):s.putY d x f k=k (s.put d x f):=by obtain⟨sl,hp,nx,nt⟩:=s;simp only[SS.putY,forceV_eq,effK_eq];rfl
def SS.calledY{R:Type}(s:SS)(d:Option Nat)(x:V)(ids:List Nat)(k:SS->R):R:=
 match s with
 |⟨sl,hp,nx,nt⟩=>match flat x with
  |true=>k ⟨putS sl d x,hp,nx,nt⟩
  |false=>spine (fzHp hp ids) λhp=>k ⟨putS sl d x,hp,nx,nt⟩
theorem calledY_eq{R:Type}(s:SS)(d:Option Nat)(x:V)(ids:List Nat)(k:SS->R):s.calledY d x ids k=k (s.called d x ids):=by obtain⟨sl,hp,nx,nt⟩:=s;simp only[SS.calledY,spine_eq,SS.called];cases flat x<;>rfl
def stK{R:Type}:Nat->List V->(List (Nat×V)->R)->R
 |_,[],k=>k []
 |n,x::r,k=>forceN n.succ λm=>stK m r λl=>k ((n,x)::l)
theorem stK_eq{R:Type}: ∀(n:Nat) (l:List V) (k:List (Nat×V)->R),stK n l k=k (stSl n l)
 |_,[],k=>rfl
 |n,x::r,k=>by rw[stK,forceN_eq,stK_eq,stSl]
section
variable (P:Program) (K:Nat->List V->Option V) (inl:Nat->Bool)
def isEnd:Exit->Bool
 | .normal| .ret=>true
 |_=>false
def runF(run:Code->SS->Option (Exit×SS))(f:Nat)(ys:List V)(hp:HP)(nx:Nat):Option (V×HP×Nat):=
 match P.funcs[f]?with
 | some fn=>
  match fn.body with
  | some c=>
   match Nat.ble ys.length fn.ntmps with
   | true=>
    match stK 0 ys λsl=>run c ⟨sl,hp,nx,fn.ntmps⟩with
    |some (e,s')=>match isEnd e with
     |true=>(resV P fn s').map λx=>(x,s'.hp,s'.nx)
     |false=>none
    |none=>none
   |false=>none
  |none=>none
 |none=>none
def runV(run:Code->SS->Option (Exit×SS))(f:Nat)(ys:List V):Option V:=
 match K f ys with
 |some x=>some x
 |none=>match runF P run f ys [] 0 with
  |some (x,hp,_)=>(frz 8 hp x).map (·.1)
  |none=>none
def callX{R:Type}(run:Code->SS->Option (Exit×SS))(f:Nat)(ys:List V)(s:SS)(d:Option Nat)(k:SS->Option R):Option R:=
 match isGo P f with
 | true=>
  match(if inl f then none else frzAll (frz 8 s.hp) ys)with
  |some (zs,ids)=>match runV P K run f zs with
   |some x=>s.calledX d x ids k
   |none=>none
  |none=>match runF P run f ys s.hp s.nx with
   |some (x,hp',nx')=>putK s.sl d x λsl=>k ⟨sl,hp',nx',s.nt⟩
   |none=>none
 |false=>none
def runX{R:Type}(ops:Array Oper)(s:SS)(o:Oper)(k:SS->Option R):Option R:=
 match dstOk o.dst s.nt with
 | true=>match guardV ops s.sl o.guard with
  |some true=>match exOp P s.sl s.hp s.nx o.op with
   |some (x,f)=>s.putX o.dst x f k
   |none=>none
  |some false=>s.putX o.dst (.tu []) .none k
  |none=>none
 |false=>none
def opX{R:Type}(run:Code->SS->Option (Exit×SS))(ops:Array Oper)(s:SS)(o:Oper)(k:SS->Option R):Option R:=
 match o.op with
 | .call ⟨.value g,args,_⟩=>
  match dstOk o.dst s.nt with
  | true=>match guardV ops s.sl o.guard with
   |some true=>match fnOf (evS s.sl g)with
    |some (f,p,q)=>callX P K inl run f (p++args.toList.map (evS s.sl)++q) s o.dst k
    |none=>none
   |some false=>s.putX o.dst (.tu []) .none k
   |none=>none
  |false=>none
 |_=>runX P ops s o k
def opsX(run:Code->SS->Option (Exit×SS))(ops:Array Oper):List Oper->SS->Option SS
 |[],s=>some s
 |o::l,s=>opX P K inl run ops s o (opsX run ops l)
def opD{R:Type}(run:Code->SS->Option (Exit×SS))(ops:Array Oper)(s:SS)(o:Oper)(k:Option Nat×List Nat->V->SS->Option R):Option R:=
 match dstOk o.dst s.nt with
 | true=>match guardV ops s.sl o.guard with
  | some true=>match o.op with
   | .call ⟨.value g,args,_⟩=>match fnOf (evS s.sl g)with
    | some (f,p,q)=>match isGo P f with
     | true=>match frzAll (frz 8 s.hp) (p++args.toList.map (evS s.sl)++q)with
      |some (zs,ids)=>match runV P K run f zs with
       |some x=>s.calledY o.dst x ids (k (none,ids) x)
       |none=>none
      |none=>none
     |false=>none
    |none=>none
   | op=>match okOp op with
    | true=>match exOp P s.sl s.hp s.nx op with
     |some (x,f)=>match noApp f with
      |true=>s.putY o.dst x f (k (tgE f,rdOf s.sl op++crE f s.nx) x)
      |false=>none
     |none=>none
    |false=>none
  |some false=>s.putY o.dst (.tu []) .none (k (none,[]) (.tu []))
  |none=>none
 |false=>none
def opsD(run:Code->SS->Option (Exit×SS))(full:List Oper):List Oper->List (Option Nat×List Nat)->List (Nat×V)->SS->Option SS
 |[],tr,sl,s=>match chkD full tr.reverse with
  |true=>some ⟨sl,s.hp,s.nx,s.nt⟩
  |false=>none
 |o::l,tr,sl,s=>opD P K run full.toArray s o λt x s'=>putK sl o.dst x λsl'=>opsD run full l (t::tr) sl' s'
def stepX(ih:Code->SS->Option (Exit×SS)):Code->SS->Option (Exit×SS)
 | .skip,s=>some (.normal,s)
 | .region _ ops false,s=>(opsX P K inl ih ops ops.toList s).map (.normal,·)
 | .region _ ops true,s=>if P.follows .mixedOrders&&klB s.hp s.nx then(opsD P K ih ops.toList ops.toList [] s.sl s).map (.normal,·)else none
 | .seq a b,s=>match ih a s with
  |some (.normal,s')=>ih b s'
  |r=>r
 | .cond c x y,s=>match evS s.sl c with
  | .sc (.bool b)=>match b with
   |true=>ih x s
   |false=>ih y s
  |_=>none
 | .block id c,s=>match ih c s with
  |some (.exit i,s')=>if i=id then some (.normal,s')else some (.exit i,s')
  |r=>r
 | .loop c,s=>match ih c s with
  |some (.normal,s')=>ih (.loop c) s'
  |r=>r
 | .exit id,s=>some (.exit id,s)
 | .scope c,s=>match ih c s with
  |some (.goto _,_)=>none
  |r=>r
 | .label _,s=>some (.normal,s)
 | .ret,s=>some (.ret,s)
 |_,_=>none
def exX(n:Nat):Code->SS->Option (Exit×SS):=Nat.rec (λ_ _=>none) (λ_ ih=>stepX P K inl ih) n
theorem exX_succ(n:Nat):exX P K inl (n+1)=stepX P K inl (exX P K inl n):=rfl
end
section
variable {P:Program} {K:Nat->List V->Option V} {inl:Nat->Bool}
theorem SameS.rel{B:Base}{S:Nat->Prop}{rho:Nat->Nat}{A:Nat->Prop}{s s':SS}{a:Act}{w:World}(e:SameS s' s)(h:Rel B S rho A s a w):Rel B S rho A s' a w:=by obtain⟨e1,e2,e3,e4⟩:=e;exact⟨λt=>by rw[e1];exact h.slots t,by rw[e2];exact h.mem,λid hid=>by rw[e3];exact h.alt id hid,by rw[e4];exact h.nt,h.defs⟩
theorem SameS.sops{B:Base}{ops:Array Oper}{l:List Oper}{Q:Exit->SS->Prop}{s s':SS}(e:SameS s' s)(h:SOps P B ops l Q s'):SOps P B ops l Q s:=λS rho A a w hr=>h S rho A a w (e.rel hr)
def Sound(P:Program)(run:Code->SS->Option (Exit×SS)):Prop:= ∀c s e s',run c s=some (e,s')-> ∀B,SWp P B c (λe1 s1=>e1=e/\s1=s') s
def KSound(P:Program)(K:Nat->List V->Option V):Prop:= ∀f ys x,K f ys=some x->Spec P f ys x
variable {run:Code->SS->Option (Exit×SS)}
theorem runF_parts{f:Nat}{ys:List V}{hp hp':HP}{nx nx':Nat}{x:V}(h:runF P run f ys hp nx=some (x,hp',nx')): ∃fn c e s',P.funcs[f]? =some fn/\fn.body=some c/\ys.length<=fn.ntmps/\
  run c ⟨stSl 0 ys,hp,nx,fn.ntmps⟩=some (e,s')/\isEnd e=true/\resV P fn s'=some x/\s'.hp=hp'/\s'.nx=nx':=by
 unfold runF at h;split at h
 ·rename_i fn hf;split at h
  ·rename_i c hb;split at h
   ·rename_i hn;rw[stK_eq]at h;split at h
    ·rename_i e s' hrun;split at h
     ·rename_i he;obtain⟨y,hy,e1⟩:=Option.map_eq h;simp only[Prod.mk.injEq]at e1;obtain⟨rfl,rfl,rfl⟩:=e1;exact⟨fn,c,e,s',hf,hb,Nat.le_of_ble_eq_true hn,hrun,he,hy,rfl,rfl⟩
     ·cases h
    ·cases h
   ·cases h
  ·cases h
 ·cases h
theorem runF_sound(hr:Sound P run){f:Nat}{ys:List V}{hp hp':HP}{nx nx':Nat}{x:V}(h:runF P run f ys hp nx=some (x,hp',nx')):Inl P f ys hp nx x hp' nx':=by obtain⟨fn,c,e,s',hf,hb,hn,hrun,he,hy,rfl,rfl⟩:=runF_parts h;refine⟨fn,c,hf,hb,hn,λB _=>(hr c _ e s' hrun B).mono ?_⟩;rintro e1 s1 ⟨rfl,rfl⟩;cases e1<;>first|exact⟨x,hy,Le.refl _ _⟩|cases he
theorem runV_sound(hr:Sound P run)(hK:KSound P K){f:Nat}{ys:List V}{x:V}(h:runV P K run f ys=some x):Spec P f ys x:=by
 unfold runV at h;split at h;·rename_i hk;cases h;exact hK f ys _ hk
 ·split at h
  ·rename_i y hp nx' hF;obtain⟨⟨z,ids⟩,hz,e⟩:=Option.map_eq h;cases e;obtain⟨fn,c,e,s',hf,hb,hn,hrun,he,hy,rfl,rfl⟩:=runF_parts hF;refine Spec.of hf hb hn λB _=>(hr c _ e s' hrun B).mono ?_;rintro e1 s1 ⟨rfl,rfl⟩;cases e1<;>first|exact⟨y,ids,hy,hz⟩|cases he
  ·cases h
theorem SOps.callV{B:Base}{s:SS}{ops:Array Oper}{Q:Exit->SS->Prop}{o:Oper}{l:List Oper}{g:Operand}{f:Nat}{p q:List V}{args:Array Operand}{ts:Array TypeId}{ys:List V}{ids:List Nat}{x:V}(ho:o.op= .call ⟨.value g,args,ts⟩)(hg:guardV ops s.sl o.guard=some true)
  (hd:dstOk o.dst s.nt=true) (hfn:fnOf (evS s.sl g)=some (f,p,q)) (hgo:isGo P f=true) (hf:frzAll (frz 8 s.hp) (p++args.toList.map (evS s.sl)++q)=some (ys,ids)) (hs:Spec P f ys x) (k:SOps P B ops l Q (s.called o.dst x ids)):SOps P B ops (o::l) Q s:=by
 intro S rho A a w hr;have hw:=guard_sound hr.slots hg;refine wpList_step λK hK=> ?_;rw[if_pos hw];obtain⟨ps,qs,he,hps,hqs⟩:=fn_sound hfn (ev_sound hr.mem.tab hr.slots g);have hall:=(hps.append (All.ev hr.mem.tab hr.slots args.toList)).append hqs;obtain⟨h1,h2⟩:=frzAll_sound (frz_sound hr.mem 8) hf hall;have hmf:=hr.mem.freeze ids h2;have hrun:(execOp a.eval o).run P w= .ok (.enter f (ps++args.map a.eval++qs)) w:=by simp only[execOp,ho,resolve,he,Deferred.ofValue,Sem.run_bind,Sem.run_pure,Result.andThen_ok,invoke];exact callFunc_go hgo _ w
 have hvl:(ps++args.map a.eval++qs).toList=ps.toList++args.toList.map a.eval++qs.toList:=by simp
 unfold Oper.wp;rw[hrun];refine(hs (addS S rho A ids) w (ps++args.map a.eval++qs) hmf.slt hmf.tab ⟨by rw[hvl];exact h1.1,λi y u hy hu=>(h1.2 i y u hy (by rw[<-hvl];exact hu)).rho⟩).mono ?_;rintro e w' ⟨v,rfl,g,hx⟩;refine hK _ _ ?_;have hA: ∀id,A id->A id/\rho id=rho id/\ ∀n,szAt w (rho id) n->szAt w' (rho id) n:=λid h=>⟨h,rfl,λ_=>g.szAt⟩
 by_cases hfl:flat x=true
 ·have hm':=hr.mem.came g;refine k (λb=>S b\/(w.heap.size<=b/\b<w'.heap.size)) rho A _ _ ⟨slots_put hr.slots (by rw[hr.nt];exact hd) (λb hb=>⟨.inl hb,g.block b (hr.mem.slt b hb)⟩) hA (flat_sound hfl hx.rho.open),?_,hr.alt,by rw[put_size];exact hr.nt,by rw[put_defers];exact hr.defs⟩;show Mem B _ rho A (if flat x then s.hp else fzHp s.hp ids) w';rw[if_pos hfl];exact hm'
 ·have hm':=hmf.came g;refine k (λb=>addS S rho A ids b\/(w.heap.size<=b/\b<w'.heap.size)) rho A _ _ ⟨slots_put hr.slots (by rw[hr.nt];exact hd) (λb hb=>⟨.inl (.inl hb),g.block b (hr.mem.slt b hb)⟩) hA hx.rho.open,?_,hr.alt,by rw[put_size];exact hr.nt,by rw[put_defers];exact hr.defs⟩;show Mem B _ rho A (if flat x then s.hp else fzHp s.hp ids) w';rw[if_neg hfl];exact hm'
theorem runX_sound{R:Type}{B:Base}{ops:Array Oper}{s:SS}{o:Oper}{l:List Oper}{Q:Exit->SS->Prop}{k:SS->Option R}{r:R}(h:runX P ops s o k=some r)(hk: ∀s',k s'=some r->SOps P B ops l Q s'):SOps P B ops (o::l) Q s:=by
 unfold runX at h;split at h
 ·rename_i hd;split at h
  ·rename_i hg;split at h
   ·rename_i x f hx;obtain⟨s',e1,e2⟩:=putX_eq (R:=Option R) s o.dst x f;rw[e2]at h;exact SOps.run1 (s':=s.put o.dst x f) (by unfold run1;rw[if_pos hd,hg];simp only[hx,Option.map_some]) (e1.sops (hk s' h))
   ·cases h
  ·rename_i hg;obtain⟨s',e1,e2⟩:=putX_eq (R:=Option R) s o.dst (.tu []) .none;rw[e2]at h;exact SOps.run1 (s':=s.put o.dst (.tu []) .none) (by unfold run1;rw[if_pos hd,hg]) (e1.sops (hk s' h))
  ·cases h
 ·cases h
theorem opX_sound{R:Type}(hr:Sound P run)(hK:KSound P K){B:Base}{ops:Array Oper}{s:SS}{o:Oper}{l:List Oper}{Q:Exit->SS->Prop}{k:SS->Option R}{r:R}(h:opX P K inl run ops s o k=some r)(hk: ∀s',k s'=some r->SOps P B ops l Q s'):SOps P B ops (o::l) Q s:=by
 unfold opX at h;split at h
 ·rename_i g args ts ho;split at h
  ·rename_i hd;split at h
   ·rename_i hg;split at h
    ·rename_i f p q hfn;unfold callX at h;split at h
     ·rename_i hgo;split at h
      ·rename_i zs ids hz;split at hz;·cases hz
       ·split at h
        ·rename_i x hx;obtain⟨s',e1,e2⟩:=calledX_eq (R:=Option R) s o.dst x ids;rw[e2]at h;exact SOps.callV ho hg hd hfn hgo hz (runV_sound hr hK hx) (e1.sops (hk s' h))
        ·cases h
      ·split at h
       ·rename_i x hp' nx' hx;rw[putK_eq]at h;exact SOps.inl ho hg hd hfn hgo (runF_sound hr hx) (SameS.sops (s':=⟨putT s.sl o.dst x,hp',nx',s.nt⟩) ⟨λt=>get_putT s.sl o.dst x t,rfl,rfl,rfl⟩ (hk _ h))
       ·cases h
     ·cases h
    ·cases h
   ·rename_i hg;obtain⟨s',e1,e2⟩:=putX_eq (R:=Option R) s o.dst (.tu []) .none;rw[e2]at h;exact SOps.run1 (s':=s.put o.dst (.tu []) .none) (by unfold run1;rw[if_pos hd,hg]) (e1.sops (hk s' h))
   ·cases h
  ·cases h
 ·exact runX_sound h hk
theorem opsX_sound(hr:Sound P run)(hK:KSound P K){B:Base}{ops:Array Oper}{Q:Exit->SS->Prop}: ∀{l:List Oper} {s s':SS},opsX P K inl run ops l s=some s'->Q .normal s'->SOps P B ops l Q s
 |[],s,s',h,k=>by simp only[opsX,Option.some.injEq]at h;subst h;exact SOps.nil k
 |o::l,s,s',h,k=>by simp only[opsX]at h;exact opX_sound hr hK h λs1 h1=>opsX_sound hr hK h1 k
theorem opD_sound{R:Type}(hr:Sound P run)(hK:KSound P K){ops:Array Oper}{s:SS}{o:Oper}{k:Option Nat×List Nat->V->SS->Option R}{r:R}(h:opD P K run ops s o k=some r): ∃e s',DStep P ops o s e s'/\k (pr e) e.x s'=some r:=by
 unfold opD at h;split at h
 ·rename_i hd;split at h
  ·rename_i hg;split at h
   ·rename_i g args ts ho;split at h
    ·rename_i f p q hfn;split at h
     ·rename_i hgo;split at h
      ·rename_i zs ids hz;split at h
       ·rename_i x hx;rw[calledY_eq]at h;exact⟨⟨x,none,ids⟩,_,⟨hd,.inr (.inr (.inl ⟨g,f,p,q,args,ts,zs,flat x,ho,hfn,hg,hgo,.inl hz,runV_sound hr hK hx,rfl,rfl,λh=>h⟩))⟩,h⟩
       ·cases h
      ·cases h
     ·cases h
    ·cases h
   ·split at h
    ·rename_i hok;split at h
     ·rename_i x f hx;split at h
      ·rename_i hna;rw[putY_eq]at h;exact⟨⟨x,tgE f,rdOf s.sl o.op++crE f s.nx⟩,_,⟨hd,.inl ⟨f,hg,hok,hx,rfl,rfl,rfl,hna⟩⟩,h⟩
      ·cases h
     ·cases h
    ·cases h
  ·rename_i hg;rw[putY_eq]at h;exact⟨⟨.tu [],none,[]⟩,_,⟨hd,.inr (.inl ⟨hg,rfl,rfl,rfl,rfl⟩)⟩,h⟩
  ·cases h
 ·cases h
theorem SWp.conv{B:Base}{c:Code}{Q Q':Exit->SS->Prop}{s:SS}(h:SWp P B c Q s)(hq: ∀e s1,Q e s1-> ∃s2,SameS s2 s1/\Q' e s2):SWp P B c Q' s:=by intro S rho A a w hr;refine wp_mono (h S rho A a w hr) ?_;rintro e a w ⟨S,rho,A,s1,h1,h2⟩;obtain⟨s2,h3,h4⟩:=hq e s1 h1;exact⟨S,rho,A,s2,h4,h3.rel h2⟩
theorem opsD_sound(hr:Sound P run)(hK:KSound P K){full:List Oper}: ∀{l:List Oper} {tr:List (Option Nat×List Nat)} {sl:List (Nat×V)} {s s':SS},opsD P K run full l tr sl s=some s'->(∀t,get sl t=get s.sl t)->
  ∃es s1,DTr P full.toArray s l es s1/\chkD full (tr.reverse++es.map pr)=true/\SameS s' s1
 | [],tr,sl,s,s',h,e=>by
  simp only[opsD]at h;split at h
  ·rename_i hc;cases h;exact⟨[],s,⟨rfl,rfl⟩,by simpa using hc,e,rfl,rfl,rfl⟩
  ·cases h
 | o::l,tr,sl,s,s',h,e=>by
  simp only[opsD]at h;obtain⟨en,s1,h1,h2⟩:=opD_sound hr hK h;rw[putK_eq]at h2;obtain⟨es,s2,h3,h4,h5⟩:=opsD_sound hr hK h2 (λt=>by
   rw[get_putT,h1.sl.1];cases o.dst with
   |none=>exact e t
   |some d=>simp only[putS,get];rw[e])
  exact⟨en::es,s2,⟨en,es,s1,rfl,h1,h3⟩,by simpa using h4,h5⟩
theorem exX_sound(hK:KSound P K): ∀n,Sound P (exX P K inl n)
 |0=>λc s e s' h=>by cases h
 | n +1=>by
  have ih:=exX_sound hK n;intro c s e s' h B;rw[exX_succ]at h;cases c with
  |skip=>simp only[stepX,Option.some.injEq,Prod.mk.injEq]at h;obtain⟨rfl,rfl⟩:=h;exact SWp.skip ⟨rfl,rfl⟩
  | region id ops d=>
   cases d with
   |false=>
    obtain⟨s1,h1,e1⟩:=Option.map_eq h;cases e1;exact SWp.region (l:=ops.toList) (opsX_sound ih hK h1 ⟨rfl,rfl⟩)
   | true=>
    simp only[stepX]at h;split at h
    ·rename_i hc;rw[Bool.and_eq_true]at hc;obtain⟨s1,h1,e1⟩:=Option.map_eq h;cases e1;obtain⟨es,s1,k1,k2,k3⟩:=opsD_sound ih hK h1 (λ_=>rfl);obtain⟨st,en,k4,k5,k6⟩:=chk_run (klB_sound hc.2) k1 (by simpa using k2);exact SWp.conv (region_draw (id:=id) (B:=B) (Q:=λe2 s2=>e2= .normal/\s2=s1) k4 k5 hc.1 ⟨rfl,k6⟩) (by rintro e2 s2 ⟨rfl,rfl⟩;exact⟨_,k3,rfl,rfl⟩)
    ·cases h
  | seq a b=>
   simp only[stepX]at h;split at h
   ·rename_i s1 h1;refine SWp.seq λK1 hK1=>(ih a s _ _ h1 B).mono ?_;rintro e1 s2 ⟨rfl,rfl⟩;exact hK1 _ (ih b _ _ _ h B)
   ·rename_i hne;refine SWp.seq λK1 hK1=>(ih a s _ _ h B).mono ?_;rintro e1 s2 ⟨rfl,rfl⟩;cases e1<;>first|exact⟨rfl,rfl⟩|exact absurd h (hne _)
  | cond c x y=>
   simp only[stepX]at h;split at h
   ·rename_i b hc;cases b with
    |true=>exact SWp.cond hc (λ_=>ih x s _ _ h B) (λh=>by cases h)
    |false=>exact SWp.cond hc (λh=>by cases h) (λ_=>ih y s _ _ h B)
   ·cases h
  | block id c=>
   simp only[stepX]at h;split at h
   ·rename_i i s1 h1;refine SWp.block ((ih c s _ _ h1 B).mono ?_);rintro e1 s2 ⟨rfl,rfl⟩;simp only[blockQ];split at h;·rename_i hi;rw[if_pos hi];cases h;exact⟨rfl,rfl⟩
    ·rename_i hi;rw[if_neg hi];cases h;exact⟨rfl,rfl⟩
   ·rename_i hne;refine SWp.block ((ih c s _ _ h B).mono ?_);rintro e1 s2 ⟨rfl,rfl⟩;cases e1<;>first|exact⟨rfl,rfl⟩|exact absurd h (hne _ _)
  | loop c=>
   refine SWp.loop (α:=Nat×SS) (λx=>x.2) (λx=>x.1<=n+1/\exX P K inl x.1 (.loop c) x.2=some (e,s')) (λx=>x.1) (n+1,s) (Le.refl _ _) ⟨znb _,h⟩ ?_;rintro⟨m,s1⟩ ⟨hm,hx⟩ K1 hK1;cases m with
   |zero=>cases hx
   | succ m=>
    have ihm:Sound P (exX P K inl m):=by
     rcases Nat.lt_or_eq_of_le (Nat.le_of_succ_le_succ hm)with hlt|heq;·exact exX_sound hK m
     ·rw[heq];exact ih
    simp only[exX_succ,stepX]at hx;split at hx
    ·rename_i s2 h1;refine(ihm c s1 _ _ h1 B).mono ?_;rintro e1 s3 ⟨rfl,rfl⟩;exact hK1 _ (m,s3) (Le.refl _ _) ⟨by simp only at hm⊢;omega,hx⟩ (by simp)
    ·rename_i hne;refine(ihm c s1 _ _ hx B).mono ?_;rintro e1 s3 ⟨rfl,rfl⟩;cases e1<;>first|exact⟨rfl,rfl⟩|exact absurd hx (hne _)
  |exit id=>simp only[stepX,Option.some.injEq,Prod.mk.injEq]at h;obtain⟨rfl,rfl⟩:=h;exact SWp.exit ⟨rfl,rfl⟩
  | scope c=>
   simp only[stepX]at h;split at h;·cases h
   ·rename_i hne;refine SWp.scope ((ih c s _ _ h B).mono ?_);rintro e1 s2 ⟨rfl,rfl⟩;cases e1<;>first|exact⟨rfl,rfl⟩|exact absurd h (hne _ _)
  |label l=>simp only[stepX,Option.some.injEq,Prod.mk.injEq]at h;obtain⟨rfl,rfl⟩:=h;exact SWp.label ⟨rfl,rfl⟩
  |ret=>simp only[stepX,Option.some.injEq,Prod.mk.injEq]at h;obtain⟨rfl,rfl⟩:=h;exact SWp.ret ⟨rfl,rfl⟩
  |_=>cases h
theorem Spec.eval(hK:KSound P K)(n:Nat)(inl:Nat->Bool){f:Nat}{ys:List V}{x:V}(h:runV P (λ_ _=>none) (exX P K inl n) f ys=some x):Spec P f ys x:=by exact runV_sound (K:=λ_ _=>none) (exX_sound hK n) (λ_ _ _ h=>by cases h) h
end
end
end Go.Proofs.YtannldafjkjjbaaGreat
