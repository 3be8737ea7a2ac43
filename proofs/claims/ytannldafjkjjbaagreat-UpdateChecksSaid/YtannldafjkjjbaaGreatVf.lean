/- Texts joined: Sz Sm Sw Ln Ld Lo Lp Qc Jk Qd Qe Vam Van Qg. -/
import Derived.Test.YtannldafjkjjbaaGreatVd
import Derived.Test.YtannldafjkjjbaaGreatVe
set_option linter.all false
set_option maxHeartbeats 16000000
open Nat renaming reduceEqDiff → zn1, reduceLT → zn2, reduceLeDiff → zn3, reduceAdd → zn4, reduceMul → zn5, reduceSub → zn6, reduceBEq → zn7, mul_one → zn8, zero_add → zn9, one_mul → zna, le_refl → znb, zero_le → znc, add_sub_cancel_left → znd, sub_eq_zero_of_le → zne, add_assoc → znf
open Int renaming reduceToNat → zi1, reducePow → zi2
open List renaming length_append → zl1, drop_zero → zl2, take_succ_cons → zl3, take_zero → zl4, getElem?_drop → zl5, append_assoc → zl6, nil_append → zl7, cons_append → zl8, drop_succ_cons → zl9, take_of_length_le → zla, getElem?_eq_getElem → zlb, getElem?_eq_some_iff → zlc, map_cons → zld, map_nil → zle, all_eq_true → zlf
namespace Go.Proofs.YtannldafjkjjbaaGreat
section
open Go.RowKit
section
variable {P:Program} {B:Base} {l:List Oper} {st:Nat->SS} {en:Nat->En} {S:Nat->Prop} {rho:Nat->Nat} {A:Nat->Prop} {a:Act} {w:World} {L:Nat->Bool}
theorem DInv.ends(h:DRun P l st en)(hI:DInv B l st en L S rho A a w)(hall: ∀i,i<l.length->L i=true):Rel B S rho A (st l.length) a w:=by
 refine⟨?_,hI.mem.turn λid k' hk' _=> ?_,λid hid=> ?_,hI.size.trans (h.nt l.length (znb _)).symm,hI.defs⟩
 ·intro t;by_cases hex: ∃(j:Nat) (o:Oper),l[j]? =some o/\o.dst=some t
  ·obtain⟨j,o,hj,hd⟩:=hex;have hjl:=(List.getElem?_eq_some_iff.1 hj).1;rw[h.slotx hj hd l.length hjl (znb _)];exact hI.done t j o hj hd (hall j hjl)
  ·have hno: ∀(j:Nat) (o:Oper),l[j]? =some o->o.dst≠some t:=λj o hj hd=>hex ⟨j,o,hj,hd⟩;rw[h.slot0 l.length (znb _) λj o _ hj=>hno j o hj];exact hI.open' t λj o hj hd=>absurd hd (hno j o hj)
 ·have hq:nextC l.length en L id=l.length:=by
   have hle:=nextC_le (en:=en) l.length L id;rcases Nat.lt_or_eq_of_le hle with hlt|heq
   ·obtain⟨_,a2⟩:=nextC_at hlt;rw[hall _ hlt]at a2;cases a2
   ·exact heq
  refine⟨k',?_,rfl,rfl,λh=>h⟩;rw[hget_hpD h,hq];exact hk'
 ·rcases hI.num id hid with h1|⟨j,hj,_,rfl,h2⟩;·exact Nat.lt_of_lt_of_le h1 (h.nx 0 _ (znc _) (znb _))
  ·exact Nat.lt_of_lt_of_le h2 (h.nx (j+1) _ om (znb _))
theorem DInv.begin(h:DRun P l st en)(hr:Rel B S rho A (st 0) a w)(hf: ∀j,L j=false):DInv B l st en L S rho A a {w with drawn:=w.drawn+1}:=by
 have g:=Grow.drawn w (w.drawn+1);exact{
  mem:=(hr.mem.grow g).turn λid k' hk' hA=>by
   rw[hget_hpD h]at hk';obtain⟨k,hk⟩:=h.born (hr.alt id hA) _ (nextC_le _ _ _) k' hk';obtain⟨k2,c1,c2,c3,c4⟩:=h.chain hk _ (znc _) (nextC_le _ _ _) (λm _ hm hmt=>by have:=nextC_lt (L:=L) hm hmt;rw[hf m]at this;cases this)
   rw[hk']at c1;cases c1;exact⟨k,hk,c2,c3,c4⟩
  done:=λt j o _ _ hL=>by rw[hf j]at hL;cases hL
  open':=λt _=>(hr.slots t).mono (λb hb=>⟨hb,rfl⟩) (λid h=>⟨h,rfl,λ_=>g.szAt⟩)
  num:=λid hA=> .inl (hr.alt id hA)
  size:=hr.nt
  defs:=hr.defs
  closed:=λi j hi=>by rw[hf i]at hi;cases hi}
@[irreducible] def dR:Nat:=12
def lastOk(l tl:List Oper):Bool:=
 (l.all λp=>match p.guard with|some (j,_)=>decide (j<l.length)|none=>true)&&
 (List.range tl.length).all λk=>(match tl[k]?with|some o=>o.after.all λe=> !Region.binds .any e||decide (e.on<l.length+k)|none=>true)&&
  (List.range (l.length+k)).all λj=>reachB (l++tl).toArray dR (l.length+k) j
theorem app_get{tl:List Oper}{i:Nat}(hi:i<l.length):(l++tl).toArray[i]? =l[i]? :=by rw[List.getElem?_toArray,List.getElem?_append_left hi]
theorem app_tail{tl:List Oper}{i:Nat}:(l++tl).toArray[l.length+i]? =tl[i]? :=by rw[List.getElem?_toArray,List.getElem?_append_right (Nat.le_add_right _ _),znd]
theorem app_dep{tl:List Oper}{i j:Nat}(hi:i<l.length):depB (l++tl).toArray i j=depB l.toArray i j:=by unfold depB;rw[app_get hi,List.getElem?_toArray]
theorem any_drawT{Q:Exit->SS->Prop}{s:SS}{tl:List Oper}(h:DRun P l st en)(hs:st 0=s)(hT:lastOk l tl=true)(hQ:SOps P B (l++tl).toArray tl Q (st l.length)): ∀S rho A a w,Rel B S rho A s a w->wpAny P .any (l++tl).toArray (Post B Q) (l++tl).toArray.size (Array.replicate (l++tl).toArray.size false) a {w with drawn:=w.drawn+1}:=by
 subst hs;intro S rho A a w hr;unfold lastOk at hT;rw[Bool.and_eq_true]at hT;obtain⟨hg,hT⟩:=hT;have hT': ∀k,k<tl.length->(∀o,tl[k]? =some o-> ∀e∈o.after.toList,Region.binds .any e=true->e.on<l.length+k)/\ ∀j,j<l.length+k->reachB (l++tl).toArray dR (l.length+k) j=true:=by intro k hk;have:=List.all_eq_true.1 hT k (List.mem_range.2 hk);rw[Bool.and_eq_true]at this;refine⟨λo ho e he hb=> ?_,λj hj=>List.all_eq_true.1 this.2 j (List.mem_range.2 hj)⟩;have h1:=this.1;rw[ho]at h1;simp only at h1;rw[Array.all_eq_true']at h1;have:=h1 e (by simpa using he);rw[hb]at this;simpa using this
 have dep: ∀(L:Nat->Bool) (i:Nat) (q:Oper),(l++tl).toArray[i]? =some q->(∀e∈q.after.toList,Region.binds .any e=true->L e.on=true)-> ∀m,depB (l++tl).toArray i m=true->L m=true:=by intro L i q hq hd m hm;unfold depB at hm;rw[hq]at hm;simp only[Array.any_eq_true']at hm;obtain⟨e,he,hb⟩:=hm;rw[Bool.and_eq_true,beq_iff_eq]at hb;rw[<-hb.2];exact hd e (by simpa using he) hb.1
 have idx: ∀{i:Nat} {q:Oper},(l++tl).toArray[i]? =some q->i<l.length\/ ∃k,i=l.length+k/\k<tl.length/\tl[k]? =some q:=by
  intro i q hq;have:=(Array.getElem?_eq_some_iff.1 hq).1;simp at this;rcases Nat.lt_or_ge i l.length with g|g;·exact .inl g
  ·refine .inr ⟨i-l.length,by omega,by omega,?_⟩;rw[show i=l.length+(i-l.length) by omega,app_tail]at hq;exact hq
 refine(wpAny_act (λL a w=>(∀i j,L i=true->depB (l++tl).toArray i j=true->L j=true)/\(((∀k,k<tl.length->L (l.length+k)=false)/\ ∃S rho A,DInv B l st en L S rho A a w)\/ ∃t,t<=tl.length/\(∀i,i<l.length+t->L i=true)/\(∀k,t<=k->k<tl.length->L (l.length+k)=false)/\wpList P (l++tl).toArray (Post B Q) (tl.drop t) a w)) ?_ ?_ ?_ _ _ a _ (by simp) ?_ ?_)
 ·intro i q hq e he hb;rcases idx hq with hi|⟨k,rfl,hk,hq'⟩
  ·rw[app_get hi]at hq;exact h.ord i q hq e he hb
  ·exact(hT' k hk).1 q hq' e he hb
 ·rintro L a w i q hq hi hd ⟨hcl,hinv⟩;have hdep:=dep L i q hq hd;have hcl': ∀m j,(if m=i then true else L m)=true->depB (l++tl).toArray m j=true->(if j=i then true else L j)=true:=by
   intro m j hm hj;by_cases e:j=i;·rw[if_pos e]
   ·rw[if_neg e];by_cases e2:m=i;·subst e2;exact hdep j hj
    ·rw[if_neg e2]at hm;exact hcl m j hm hj
  have hbefore: ∀k,i=l.length+k->k<tl.length-> ∀j,j<l.length+k->L j=true:=λk hk hkl j hj=>by subst hk;exact reachB_spec hcl dR _ j ((hT' k hkl).2 j hj) hdep
  have hrun: ∀k o',i=l.length+k->tl[k]? =some o'->wpList P (l++tl).toArray (Post B Q) (tl.drop k) a w->(∀m,m<l.length+k->L m=true)->(∀k',k<k'->k'<tl.length->L (l.length+k')=false)->
    wpOp P (l++tl).toArray (Post B Q) i (λa' w'=>(∀i_1 j,(if i_1=i then true else L i_1)=true->depB (l++tl).toArray i_1 j=true->(if j=i then true else L j)=true)/\(((∀k,k<tl.length->(if l.length+k=i then true else L (l.length+k))=false)/\ ∃S rho A,DInv B l st en (λj=>if j=i then true else L j) S rho A a' w')\/ ∃t,t<=tl.length/\(∀i_1,i_1<l.length+t->(if i_1=i then true else L i_1)=true)/\(∀k,t<=k->k<tl.length->(if l.length+k=i then true else L (l.length+k))=false)/\wpList P (l++tl).toArray (Post B Q) (tl.drop t) a' w')) a w:=by
   intro k o' hk ho' hx hall hno;subst hk;have hkl:=(List.getElem?_eq_some_iff.1 ho').1;have hdr:tl.drop k=o'::tl.drop (k+1):=by rw[List.drop_eq_getElem_cons hkl];congr 1;exact(List.getElem?_eq_some_iff.1 ho').2
   rw[hdr]at hx;have hend: ∀a' w',wpList P (l++tl).toArray (Post B Q) (tl.drop (k+1)) a' w'->(∀i_1 j,(if i_1=l.length+k then true else L i_1)=true->depB (l++tl).toArray i_1 j=true->(if j=l.length+k then true else L j)=true)/\(((∀k',k'<tl.length->(if l.length+k'=l.length+k then true else L (l.length+k'))=false)/\ ∃S rho A,DInv B l st en (λj=>if j=l.length+k then true else L j) S rho A a' w')\/ ∃t,t<=tl.length/\(∀i_1,i_1<l.length+t->(if i_1=l.length+k then true else L i_1)=true)/\(∀k',t<=k'->k'<tl.length->(if l.length+k'=l.length+k then true else L (l.length+k'))=false)/\wpList P (l++tl).toArray (Post B Q) (tl.drop t) a' w'):=by
    intro a' w' hp;refine⟨hcl',.inr ⟨k+1,by omega,λm hm=> ?_,λk' h1 h2=> ?_,hp⟩⟩
    ·by_cases e:m=l.length+k;·rw[if_pos e]
     ·rw[if_neg e];exact hall m om
    ·rw[if_neg om];exact hno k' om h2
   unfold wpOp;rw[app_tail,ho'];simp only[wpList]at hx⊢;split
   ·rename_i hw;rw[if_pos hw]at hx;rcases hx with hx|hx;·exact .inl (Oper.wp_mono hend hx)
    ·exact .inr hx
   ·rename_i hw;rw[if_neg hw]at hx;exact hend _ _ hx
  rcases hinv with⟨hlast,S,rho,A,hI⟩|⟨t,ht,hall,hno,hwl⟩
  ·rcases idx hq with hil|⟨k,hk,hkl,hq'⟩
   ·have hq':=hq;rw[app_get hil]at hq';have hstep:=region_step (Q:=Post B Q) h hI hq' hi (λm hm=>hdep m (by rw[app_dep hil];exact hm));have hgq:Region.wanted q (yielded (l++tl).toArray a.tmps)=Region.wanted q (yielded l.toArray a.tmps):=by
     unfold Region.wanted;have:=List.all_eq_true.1 hg q (List.mem_of_getElem? hq');cases hgd:q.guard with
     |none=>rfl
     | some p=>
      obtain⟨j,want⟩:=p;rw[hgd]at this;have hj:j<l.length:=by simpa using this
      simp only;have e:yielded (l++tl).toArray a.tmps j=yielded l.toArray a.tmps j:=by unfold yielded;rw[app_get hj,List.getElem?_toArray]
      rw[e]
    have hm2:wpOp P (l++tl).toArray (Post B Q) i (λa' w'=> ∃S rho A,DInv B l st en (addL L i) S rho A a' w') a w:=by unfold wpOp at hstep⊢;rw[List.getElem?_toArray,hq']at hstep;rw[app_get hil,hq'];simp only at hstep⊢;rw[hgq];exact hstep
    exact wpOp_mono (λa' w' hx=>⟨hcl',.inl ⟨λk hk=>by dsimp only;rw[if_neg om];exact hlast k hk,hx⟩⟩) hm2
   ·have hb:=hbefore k hk hkl;have hk0:k=0:=by
     rcases Nat.eq_zero_or_pos k with g|g;·exact g
     ·have h1:=hb (l.length+0) om;rw[hlast 0 om]at h1;cases h1
    subst hk0;have hrel:=hI.ends h (λm hm=>hb m om);have hx:=hQ S rho A a w hrel;exact hrun 0 q hk hq' hx hb (λk' _ h2=>hlast k' h2)
  ·rcases idx hq with hil|⟨k,hk,hkl,hq'⟩;·rw[hall i om]at hi;cases hi
   ·have hb:=hbefore k hk hkl;have hkt:k=t:=by
     rcases Nat.lt_trichotomy k t with g|g|g;·rw[hk,hall _ om]at hi;cases hi
     ·exact g
     ·have h1:=hb (l.length+t) om;rw[hno t (znb _) om]at h1;cases h1
    subst hkt;exact hrun k q hk hq' hwl hb (λk' h1 h2=>hno k' om h2)
 ·rintro L a w hL ⟨_,⟨hlast,S,rho,A,hI⟩|⟨t,ht,hall,hno,hwl⟩⟩
  ·cases htl:tl with
   |nil=>
    have hrel:=hI.ends h (λm hm=>hL m (by simp;omega));have hx:=hQ S rho A a w hrel;rw[htl]at hx;exact hx
   |cons o r=>
    have:=hlast 0 (by rw[htl];simp);rw[hL _ (by rw[htl];simp)]at this;cases this
  ·have:t=tl.length:=by
    rcases Nat.lt_or_ge t tl.length with g|g
    ·have:=hno t (znb _) g;rw[hL _ (by simp;omega)]at this;cases this
    ·omega
   rw[this,List.drop_length]at hwl;exact hwl
 ·unfold unl;refine Nat.le_trans (List.length_filter_le _ _) (by simp)
 ·have hf: ∀j,(Array.replicate (l++tl).toArray.size false).getD j false=false:=by
   intro j;rw[Array.getD_eq_getD_getElem?,Array.getElem?_replicate];split<;>rfl
  exact⟨(λi j hi=>by simp only[hf]at hi;cases hi),.inl ⟨λk _=>hf _,S,rho,A,DInv.begin h hr hf⟩⟩
theorem region_drawT{id:Nat}{Q:Exit->SS->Prop}{s:SS}{tl:List Oper}(h:DRun P l st en)(hs:st 0=s)(hm:P.follows .mixedOrders=true)(hT:lastOk l tl=true)(hQ:SOps P B (l++tl).toArray tl Q (st l.length)):SWp P B (.region id (l++tl).toArray true) Q s:=
 λS rho A a w hr=>wp_region_any hm (any_drawT h hs hT hQ S rho A a w hr)
def lastQ(P:Program)(B:Base)(ops:Array Oper)(tl:List Oper)(cs:List Code)(Q:Exit->SS->Prop):Exit->SS->Prop
 | .normal,s=>SO P B ops tl cs Q s
 |_,_=>False
theorem SC.drawT{cs:List Code}{Q:Exit->SS->Prop}{s:SS}{id:Nat}{l1 tl:List Oper}(n:Nat)(h1:l.take n=l1)(h2:l.drop n=tl)(hm:P.follows .mixedOrders=true)(hk: ∀id k,hget s.hp id=some k->id<s.nx)(hT:lastOk l1 tl=true)(h:DO P B l1 l1 [] (lastQ P B l.toArray tl cs Q) [] s):SC P B (.region id l.toArray true::cs) Q s:=by
 have e:l=l1++tl:=by rw[<-h1,<-h2,List.take_append_drop]
 subst e;obtain⟨es,s',h3,h4,h5⟩:=h;obtain⟨st,en,h6,h7,h8⟩:=chk_run hk h3 (by simpa using h4);exact region_drawT h6 h7 hm hT (by rw[h8];exact h5)
theorem SC.drawK{cs:List Code}{Q:Exit->SS->Prop}{s:SS}{id:Nat}(hm:P.follows .mixedOrders=true)(hk: ∀id k,hget s.hp id=some k->id<s.nx)(h:DO P B l l cs Q [] s):SC P B (.region id l.toArray true::cs) Q s:=by obtain⟨es,s',h1,h2,h3⟩:=h;obtain⟨st,en,h4,h5,h6⟩:=chk_run hk h1 (by simpa using h2);exact region_draw h4 h5 hm (by rw[h6];exact h3)
def colF(f:Nat->Nat)(e:Option Nat×List Nat):Option Nat×List Nat:=(e.1.map f,e.2.map f)
@[go_sem] theorem colF_mk (f:Nat->Nat) (a:Option Nat) (l:List Nat):colF f (a,l)=(a.map f,l.map f):=rfl
def col(e:Option Nat×List Nat):Option Nat×List Nat:=(e.1.map λ_=>0,e.2.map λ_=>0)
theorem chkD_colF(f:Nat->Nat){en:List (Option Nat×List Nat)}(h:chkD l (en.map (colF f))=true):chkD l en=true:=by
 unfold chkD at h⊢;rw[Bool.and_eq_true]at h⊢;refine⟨h.1,List.all_eq_true.2 λp hp=>List.all_eq_true.2 λq hq=> ?_⟩;have:=List.all_eq_true.1 (List.all_eq_true.1 h.2 p hp) q hq;rw[Bool.or_eq_true]at this⊢;refine this.imp id λh1=> ?_;unfold pairOk at h1⊢;rw[Bool.and_eq_true]at h1⊢;refine⟨h1.1,?_⟩;have h2:=h1.2;rw[List.getElem?_map,List.getD_eq_getElem?_getD,List.getElem?_map]at h2;rw[List.getD_eq_getElem?_getD];cases e1:en[q.2]?with
 |none=>rfl
 | some eq=>
  rw[e1]at h2;simp only[Option.map_some,Option.bind_some]at h2⊢;cases e2:eq.1 with
  |none=>rfl
  | some id=>
   simp only[colF,e2,Option.map_some]at h2;simp only[Bool.or_eq_true,Bool.and_eq_true,Bool.not_eq_true',bne_iff_ne,ne_eq]at h2⊢;refine h2.imp (λ⟨g1,g2⟩=> ?_) λh=>h;cases e3:en[p.2]?with
   |none=>exact⟨by simp,by simp⟩
   | some ep=>
    rw[e3]at g1 g2;simp only[Option.map_some,Option.getD_some,colF]at g1 g2⊢;constructor
    ·cases hb:ep.2.contains id with
     |false=>rfl
     | true=>
      have hm:id∈ep.2:=by simpa using hb
      have:(ep.2.map f).contains (f id)=true:=by simp only[List.contains_iff_mem];exact List.mem_map_of_mem hm
      rw[this]at g1;cases g1
    ·cases h3:ep.1 with
     |none=>simp
     |some x=>
      rw[h3]at g2;intro e;simp only[Option.some.injEq]at e;subst e;exact g2 rfl
theorem chkD_col{en:List (Option Nat×List Nat)}(h:chkD l (en.map col)=true):chkD l en=true:=chkD_colF (λ_=>0) h
theorem DO.nilF{full:List Oper}{cs:List Code}{Q:Exit->SS->Prop}{tr tr':List (Option Nat×List Nat)}{s:SS}(f:Nat->Nat)(ht:tr.map (colF f)=tr')(hc:chkD full tr'.reverse=true)(h:SC P B cs Q s):DO P B full [] cs Q tr s:=
 DO.nil (chkD_colF f (by rw[List.map_reverse,ht];exact hc)) h
theorem DO.nilC{full:List Oper}{cs:List Code}{Q:Exit->SS->Prop}{tr:List (Option Nat×List Nat)}{s:SS}(hc:chkD full (tr.map col).reverse=true)(h:SC P B cs Q s):DO P B full [] cs Q tr s:=
 DO.nil (chkD_col (by rw[List.map_reverse];exact hc)) h
@[go_sem] theorem klB_nil (n:Nat):klB [] n=true:=rfl
@[go_sem] theorem klB_cons (i n:Nat) (k:Blk) (r:List (Nat×Blk)):klB ((i,k)::r) n=if i<n then klB r n else false:=by unfold klB;rw[List.all_cons];by_cases h:i<n<;>simp[h]
theorem klB_rows{n:Nat}{ty:TypeId}: ∀{ids:List Nat} {rs:List (List V)},(∀i∈ids,i<n)->klB (rowsH ty ids rs) n=true
 |[],_,_=>by simp[rowsH,klB]
 |_::_,[],_=>by simp[rowsH,klB]
 |i::ids,r::rs,h=>by have:=klB_rows (ty:=ty) (rs:=rs) (λj hj=>h j (List.mem_cons_of_mem _ hj));rw[rowsH,klB_cons,if_pos (h i (by simp)),this]
end
end
section
open Go.RowKit
section
variable {P:Program} {w:World} {B:Base} {S:Nat->Prop} {rho:Nat->Nat} {A:Nat->Prop}
def VMap(f:Nat->Nat)(D:Nat->Prop)(x y:V):Prop:= ∀(S:Nat->Prop) (rho:Nat->Nat) (A:Nat->Prop) (w:World) (v:Value),R S rho w A x v->R S (λi=>rho (f i)) w (λi=>D i/\A (f i)) y v
variable {f:Nat->Nat} {D:Nat->Prop}
theorem VMap.clo{x:V}(h:clo x=true):VMap f D x x:=λ_ _ _ _ _ hx=>(clo_sound h hx).mono (λ_ h=>⟨h,rfl⟩) (λ_ h=>h.elim)
theorem VMap.nil:VMap f D (.sc (.slice none 0 0)) (.sc (.slice none 0 0)):=λ_ _ _ _ _ hx=>by cases hx;exact .sc _
theorem VMap.sc(v:Value):VMap f D (.sc v) (.sc v):=λ_ _ _ _ _ hx=>by cases hx;exact .sc _
theorem VMap.junk(x:V):VMap f D x .junk:=λ_ _ _ _ v _=> .junk v
theorem VMap.nil_sl(id off z:Nat):VMap f D (.sc (.slice none 0 0)) (.sl id off 0 z none):=λ_ _ _ _ _ h=>by cases h;exact .sln (by simp)
theorem VMap.nil_im:VMap f D (.sc (.slice none 0 0)) (.im [] 0):=λ_ _ _ _ _ h=>by cases h;exact .im0 (znb _) (by unfold maxLen;omega) (λ_=>rfl)
theorem VMap.sl{id id' off len z:Nat}{cap:Option Nat}(h:f id'=id)(hD:D id'):VMap f D (.sl id off len z cap) (.sl id' off len z cap):=by
 intro S rho A w v hx;subst h;cases hx with
 |sl a b c d e=>exact .sl ⟨hD,a⟩ b c d e
 |sln a=>exact .sln a
theorem VMap.cap{id id' off len z:Nat}{cap:Option Nat}(h:f id'=id)(hD:D id'):VMap f D (.sl id off len z cap) (.sl id' off len z none):=by
 intro S rho A w v hx;subst h;cases hx with
 |sl a b c d e=>exact .sl ⟨hD,a⟩ b c (by simp) e
 |sln a=>exact .sln (by simp)
theorem VMap.pt{id id' off:Nat}(h:f id'=id)(hD:D id'):VMap f D (.pt id off) (.pt id' off):=by
 intro S rho A w v hx;subst h;cases hx with
 |pt a=>exact .pt ⟨hD,a⟩
theorem VMap.ag{cs ds:List V}(hl:cs.length=ds.length)(h: ∀(i:Nat) (x y:V),cs[i]? =some x->ds[i]? =some y->VMap f D x y):VMap f D (.ag cs) (.ag ds):=by
 intro S rho A w v hx;cases hx with
 |ag h1 h2=>
  refine .ag (hl.symm.trans h1) λi y u hy hu=> ?_;have hlt:i<cs.length:=by rw[hl];exact(List.getElem?_eq_some_iff.1 hy).1
  exact h i _ y (zlb hlt) hy _ _ _ _ _ (h2 i _ u (zlb hlt) hu)
theorem VMap.fn{g:Fn}{p q p' q':List V}(h1:p.length=p'.length)(h2:q.length=q'.length)(h3: ∀(i:Nat) (x y:V),p[i]? =some x->p'[i]? =some y->VMap f D x y)(h4: ∀(i:Nat) (x y:V),q[i]? =some x->q'[i]? =some y->VMap f D x y):VMap f D (.fn g p q) (.fn g p' q'):=by
 intro S rho A w v hx;cases hx with
 | fn a b c d=>
  refine .fn (h1.symm.trans a) (h2.symm.trans b) (λi y u hy hu=> ?_) (λi y u hy hu=> ?_)
  ·have hlt:i<p.length:=by rw[h1];exact(List.getElem?_eq_some_iff.1 hy).1
   exact h3 i _ y (zlb hlt) hy _ _ _ _ _ (c i _ u (zlb hlt) hu)
  ·have hlt:i<q.length:=by rw[h2];exact(List.getElem?_eq_some_iff.1 hy).1
   exact h4 i _ y (zlb hlt) hy _ _ _ _ _ (d i _ u (zlb hlt) hu)
def mapSl(f:Nat->Nat)(D:Nat->Prop)(sl:List (Nat×V)):List (Nat×V)->Prop
 |[]=>True
 |(t,y)::r=>VMap f D (get sl t) y/\mapSl f D sl r
theorem mapSl_get{sl:List (Nat×V)}: ∀{sl':List (Nat×V)},mapSl f D sl sl'-> ∀t,VMap f D (get sl t) (get sl' t)
 |[],_,t=>VMap.junk _
 |(t',y)::r,h,t=>by
  simp only[get];by_cases e:t=t';·subst e;rw[if_pos rfl];exact h.1
  ·rw[if_neg e];exact mapSl_get h.2 t
theorem mapSl_cons{sl r:List (Nat×V)}{t:Nat}{x y:V}(hg:get sl t=x)(h:VMap f D x y)(k:mapSl f D sl r):mapSl f D sl ((t,y)::r):=⟨hg▸h,k⟩
theorem VMap.int{k:IntKind}{a b:Int}(h:a=b):VMap f D (.sc (.int k a)) (.sc (.int k b)):=h▸VMap.sc _
def BMap(f:Nat->Nat)(D:Nat->Prop)(o:Option Blk)(k':Blk):Prop:= ∃k,o=some k/\k.ty=k'.ty/\k.fz=k'.fz/\ ∀(i:Nat) (y:V),k'.cs[i]? =some y-> ∃x,k.cs[i]? =some x/\VMap f D x y
theorem BMap.clo{k:Blk}(h:k.cs.all clo=true):BMap f D (some k) k:=⟨k,rfl,rfl,rfl,λi y hy=>⟨y,hy,VMap.clo (List.all_eq_true.1 h y (List.mem_of_getElem? hy))⟩⟩
theorem Le.map{sl sl':List (Nat×V)}{hp hp':List (Nat×Blk)}{nx nx' nt m:Nat}(f:Nat->Nat)(D:Nat->Prop)(hB:B.Old m)(hK: ∀i,i<m->D i/\f i=i)(hD: ∀i,D i->i<nx')(hi: ∀i j,D i->D j->f i=f j->i=j)
  (h1:mapSl f D sl sl') (h2: ∀i k',hget hp' i=some k'->D i->BMap f D (hget hp (f i)) k'):Le B ⟨sl,hp,nx,nt⟩ ⟨sl',hp',nx',nt⟩:=by
 intro S rho A a w hr;have hm:=hr.mem;refine⟨S,λi=>rho (f i),λi=>D i/\A (f i),λt=>mapSl_get h1 t S rho A w _ (hr.slots t),?_,λid h=>hD id h.1,hr.nt,hr.defs⟩;exact{
  cells:=λid k' hk' ha=>by obtain⟨k,e1,e2,e3,e4⟩:=h2 id k' hk' ha.1;obtain⟨cells,c1,c2⟩:=hm.cells _ k e1 ha.2;refine⟨cells,by rw[<-e2];exact c1,λi y hy=> ?_⟩;obtain⟨x,hx,hv⟩:=e4 i y hy;obtain⟨u,hu,hr⟩:=c2 i x hx;exact⟨u,hu,hv _ _ _ _ _ hr⟩
  fz:=λid k' hk' ha hf=>by obtain⟨k,e1,e2,e3,e4⟩:=h2 id k' hk' ha.1;exact hm.fz _ k e1 ha.2 (e3.trans hf)
  own:=λid k' hk' ha=>by obtain⟨k,e1,e2,e3,e4⟩:=h2 id k' hk' ha.1;exact hm.own _ k e1 ha.2
  inj:=λi j k k' hk hk' ha ha' he=>by obtain⟨q,e1,_⟩:=h2 i k hk ha.1;obtain⟨q',e1',_⟩:=h2 j k' hk' ha'.1;exact hi i j ha.1 ha'.1 (hm.inj _ _ q q' e1 e1' ha.2 ha'.2 he)
  slt:=hm.slt
  sub:=hm.sub
  base:=hm.base
  frame:=hm.frame
  keep:=λid h=>by obtain⟨g1,g2⟩:=hK id (hB id h);obtain⟨g3,g4⟩:=hm.keep id h;exact⟨⟨g1,by rw[g2];exact g3⟩,by rw[g2];exact g4⟩}
theorem Le.sub{sl:List (Nat×V)}{hp hp':List (Nat×Blk)}{nx nx' nt:Nat}(h: ∀id k',hget hp' id=some k'-> ∃k,hget hp id=some k/\k.ty=k'.ty/\k.fz=k'.fz/\ ∀(i:Nat) (y:V),k'.cs[i]? =some y->k.cs[i]? =some y)(hn:nx<=nx'):Le B ⟨sl,hp,nx,nt⟩ ⟨sl,hp',nx',nt⟩:=by
 intro S rho A a w hr;have hm:=hr.mem;refine⟨S,rho,A,hr.slots,?_,λid hid=>Nat.lt_of_lt_of_le (hr.alt id hid) hn,hr.nt,hr.defs⟩;exact{
  cells:=λid k' hk' ha=>by obtain⟨k,e1,e2,e3,e4⟩:=h id k' hk';obtain⟨cells,c1,c2⟩:=hm.cells id k e1 ha;exact⟨cells,by rw[<-e2];exact c1,λi y hy=>c2 i y (e4 i y hy)⟩
  fz:=λid k' hk' ha hf=>by obtain⟨k,e1,e2,e3,e4⟩:=h id k' hk';exact hm.fz id k e1 ha (e3.trans hf)
  own:=λid k' hk' ha=>by obtain⟨k,e1,_⟩:=h id k' hk';exact hm.own id k e1 ha
  inj:=λi j k k' hk hk' ha ha' he=>by obtain⟨q,e1,_⟩:=h i k hk;obtain⟨q',e1',_⟩:=h j k' hk';exact hm.inj i j q q' e1 e1' ha ha' he
  slt:=hm.slt
  sub:=hm.sub
  base:=hm.base
  frame:=hm.frame
  keep:=hm.keep}
def ren1(a b:Nat)(i:Nat):Nat:=if i=a then b else i
theorem hasId_lt{hp:List (Nat×Blk)}{n i:Nat}(h: ∀id k,hget hp id=some k->id<n)(hi:n<=i):hasId hp i=false:=by
 cases hc:hasId hp i with
 |false=>rfl
 | true=>
  have: ∀{l:List (Nat×Blk)},hasId l i=true-> ∃k,hget l i=some k:=by
   intro l;induction l with
   |nil=>intro h;cases h
   | cons p r ih=>
    intro h;simp only[hasId,Bool.or_eq_true,decide_eq_true_eq]at h;by_cases e:i=p.1;·exact⟨p.2,by simp[hget,e]⟩
    ·obtain⟨k,hk⟩:=ih (h.resolve_left e);exact⟨k,by simp[hget,e,hk]⟩
  obtain⟨k,hk⟩:=this hc;have:=h i k hk;omega
theorem restH_none(hp:List (Nat×Blk)):restH hp []=hp:=by
 induction hp with
 |nil=>rfl
 |cons p r ih=>simp[restH,hasId,ih]
theorem SInlQ.new{ops:Array Oper}{l:List Oper}{cs:List Code}{Q:Exit->SS->Prop}{f:Nat}{ys:List V}{d:Option Nat}{hp:List (Nat×Blk)}{nx nt:Nat}{sl:List (Nat×V)}{C:V->List (Nat×Blk)->Nat->Prop}(hI:InlQ P f ys [] nx C)(hkl: ∀id k,hget hp id=some k->id<nx)
  (hge: ∀x hp' nx',C x hp' nx'->Only (λi=>nx<=i) x/\OnlyH (λi=>nx<=i) hp') (k: ∀x hp' nx',C x hp' nx'->SO P B ops l cs Q ⟨putS sl d x,hp'++hp,nx',nt⟩):SInlQ P B f ys d ops l cs Q ⟨sl,hp,nx,nt⟩:=by
 refine⟨[],C,(λid k h=>by cases h),hI,λx hp' nx' hC=> ?_⟩;obtain⟨h1,h2⟩:=hge x hp' nx' hC;have hm: ∀i,nx<=i->hasId (restH hp []) i=false:=λi hi=>by rw[restH_none];exact hasId_lt hkl hi
 refine⟨h1.mono hm,h2.mono hm,?_⟩;have:=k x hp' nx' hC;rwa[show restH (SS.mk sl hp nx nt).hp []=hp from restH_none hp]
theorem hget_comm{a b:List (Nat×Blk)}(h: ∀id k,hget b id=some k->hget a id=none): ∀id k,hget (b++a) id=some k->hget (a++b) id=some k:=by
 intro id k hk;rw[hget_app]at hk⊢;cases e:hget b id with
 |some q=>rw[e]at hk;rw[h id q e];exact hk
 |none=>
  rw[e]at hk;simp only at hk;rw[hk]
theorem SInlQ.frame{ops:Array Oper}{l:List Oper}{cs:List Code}{Q:Exit->SS->Prop}{f:Nat}{ys:List V}{d:Option Nat}{pre hpS:List (Nat×Blk)}{nx nt m:Nat}{sl:List (Nat×V)}{C:V->List (Nat×Blk)->Nat->Prop}(hI:InlQ P f ys hpS nx C)(hm: ∀id k,hget pre id=some k->id<m)(hS: ∀id k,hget hpS id=some k->m<=id)
  (hC: ∀x hp' nx',C x hp' nx'->Only (λi=>m<=i) x/\OnlyH (λi=>m<=i) hp'/\ ∀id k,hget hp' id=some k->m<=id) (k: ∀x hp' nx',C x hp' nx'->SO P B ops l cs Q ⟨putS sl d x,pre++hp',nx',nt⟩):SInlQ P B f ys d ops l cs Q ⟨sl,pre++hpS,nx,nt⟩:=by
 have hsub: ∀id k,hget hpS id=some k->hget (pre++hpS) id=some k:=by
  intro id q hq;rw[hget_app];cases e:hget pre id with
  |none=>exact hq
  |some q'=>have:=hm id q' e;have:=hS id q hq;omega
 have hrest: ∀i,m<=i->hasId (restH (pre++hpS) hpS) i=false:=by
  intro i hi;rw[hasId_rest];cases e:hasId hpS i with
  |true=>simp
  | false=>
   have h1:=hasId_lt hm hi;have:hasId (pre++hpS) i=false:=by
    have happ: ∀(a b:List (Nat×Blk)) (i:Nat),hasId (a++b) i=(hasId a i||hasId b i):=by
     intro a b i;induction a with
     |nil=>simp[hasId]
     |cons p r ih=>simp[hasId,ih,Bool.or_assoc]
    rw[happ,h1,e];rfl
   rw[this];rfl
 refine⟨hpS,C,hsub,hI,λx hp' nx' h=> ?_⟩;obtain⟨h1,h2,h3⟩:=hC x hp' nx' h;refine⟨h1.mono hrest,h2.mono hrest,SO.weak (Le.less (λid q hq=> ?_) (znb _)) (k x hp' nx' h)⟩;rw[hget_app]at hq⊢;cases e:hget pre id with
 | some q'=>
  rw[e]at hq;cases hq;have hlt:=hm id _ e;have e2:hget hp' id=none:=by
   cases e3:hget hp' id with
   |none=>rfl
   |some q'=>have:=h3 id q' e3;omega
  rw[e2];simp only;rw[hget_rest,if_neg,hget_app,e];intro hh;have: ∀{l:List (Nat×Blk)},hasId l id=true-> ∃k,hget l id=some k:=by
   intro l;induction l with
   |nil=>intro h;cases h
   | cons p r ih=>
    intro h;simp only[hasId,Bool.or_eq_true,decide_eq_true_eq]at h;by_cases e:id=p.1;·exact⟨p.2,by simp[hget,e]⟩
    ·obtain⟨k,hk⟩:=ih (h.resolve_left e);exact⟨k,by simp[hget,e,hk]⟩
  obtain⟨q',hq'⟩:=this hh;have:=hS id q' hq';omega
 |none=>
  rw[e]at hq;simp only at hq;rw[hq]
theorem SInlQ.newR{ops:Array Oper}{l:List Oper}{cs:List Code}{Q:Exit->SS->Prop}{f:Nat}{ys:List V}{d:Option Nat}{hp:List (Nat×Blk)}{nx nt:Nat}{sl:List (Nat×V)}{C:V->List (Nat×Blk)->Nat->Prop}(hI:InlQ P f ys [] nx C)(hkl: ∀id k,hget hp id=some k->id<nx)
  (hge: ∀x hp' nx',C x hp' nx'->Only (λi=>nx<=i) x/\OnlyH (λi=>nx<=i) hp'/\ ∀id k,hget hp' id=some k->nx<=id) (k: ∀x hp' nx',C x hp' nx'->SO P B ops l cs Q ⟨putS sl d x,hp++hp',nx',nt⟩):SInlQ P B f ys d ops l cs Q ⟨sl,hp,nx,nt⟩:=
 SInlQ.new hI hkl (λx hp' nx' hC=>⟨(hge x hp' nx' hC).1,(hge x hp' nx' hC).2.1⟩) λx hp' nx' hC=>SO.weak (Le.less (hget_comm λid q hq=>by
  have h1:=hkl id q hq;cases e:hget hp' id with
  |none=>rfl
  |some q'=>have:=(hge x hp' nx' hC).2.2 id q' e;omega) (znb _)) (k x hp' nx' hC)
end
end
section
open Go.RowKit
section
variable {P:Program} {w:World} {B:Base} {S:Nat->Prop} {rho:Nat->Nat} {A:Nat->Prop} {s:SS} {a:Act}
theorem SOps.callVF{ops:Array Oper}{Q:Exit->SS->Prop}{o:Oper}{l:List Oper}{g:Operand}{f:Nat}{p q:List V}{args:Array Operand}{ts:Array TypeId}{ys:List V}{ids:List Nat}{x:V}(ho:o.op= .call ⟨.value g,args,ts⟩)(hg:guardV ops s.sl o.guard=some true)
  (hd:dstOk o.dst s.nt=true) (hfn:fnOf (evS s.sl g)=some (f,p,q)) (hgo:isGo P f=true) (hf:frzAll (frz 8 s.hp) (p++args.toList.map (evS s.sl)++q)=some (ys,ids)) (hs:Spec P f ys x) (k:SOps P B ops l Q (s.calledF o.dst x ids)):SOps P B ops (o::l) Q s:=by
 intro S rho A a w hr;have hw:=guard_sound hr.slots hg;refine wpList_step λK hK=> ?_;rw[if_pos hw];obtain⟨ps,qs,he,hps,hqs⟩:=fn_sound hfn (ev_sound hr.mem.tab hr.slots g);have hall:=(hps.append (All.ev hr.mem.tab hr.slots args.toList)).append hqs;obtain⟨h1,h2⟩:=frzAll_sound (frz_sound hr.mem 8) hf hall;have hmf:=hr.mem.freeze ids h2;have hrun:(execOp a.eval o).run P w= .ok (.enter f (ps++args.map a.eval++qs)) w:=by simp only[execOp,ho,resolve,he,Deferred.ofValue,Sem.run_bind,Sem.run_pure,Result.andThen_ok,invoke];exact callFunc_go hgo _ w
 unfold Oper.wp;rw[hrun];refine(hs (addS S rho A ids) w (ps++args.map a.eval++qs) hmf.slt hmf.tab ⟨by have:=h1.1;simpa using this,λi y u hy hu=>(h1.2 i y u hy (by simpa using hu)).rho⟩).mono ?_;rintro e w' ⟨v,rfl,g,hx⟩;refine hK _ _ ?_;have hA: ∀id,A id->A id/\rho id=rho id/\ ∀n,szAt w (rho id) n->szAt w' (rho id) n:=λid h=>⟨h,rfl,λ_=>g.szAt⟩
 have hm':=hmf.came g;exact k (λb=>addS S rho A ids b\/(w.heap.size<=b/\b<w'.heap.size)) rho A _ _ ⟨slots_put hr.slots (by rw[hr.nt];exact hd) (λb hb=>⟨.inl (.inl hb),g.block b (hr.mem.slt b hb)⟩) hA hx.rho.open,hm',hr.alt,by rw[put_size];exact hr.nt,by rw[put_defers];exact hr.defs⟩
def SCallV(P:Program)(B:Base)(f:Nat)(ys:List V)(ids:List Nat)(d:Option Nat)(ops:Array Oper)(l:List Oper)(cs:List Code)(Q:Exit->SS->Prop)(s:SS):Prop:=
 ∃x,Spec P f ys x/\SO P B ops l cs Q (s.calledF d x ids)
theorem SO.callV{ops:Array Oper}{l:List Oper}{cs:List Code}{Q:Exit->SS->Prop}{g:Operand}{f:Nat}{p q ys:List V}{ids:List Nat}{args:List Operand}{ts:Array TypeId}{d:Option Tmp}{ty:TypeId}{pos:String}{after:Array Edge}{gd:Option (Nat×Bool)}
  (hfn:fnOf (evS s.sl g)=some (f,p,q)) (hgo:isGo P f=true) (hf:frzAll (frz 8 s.hp) (p++args.map (evS s.sl)++q)=some (ys,ids)) (hg:guardV ops s.sl gd=some true/\dstOk d s.nt=true) (k:SCallV P B f ys ids d ops l cs Q s):SO P B ops (⟨d,.call ⟨.value g,args.toArray,ts⟩,ty,pos,after,gd⟩::l) cs Q s:=by
 obtain⟨x,hs,k⟩:=k;exact SOps.callVF rfl hg.1 hg.2 hfn hgo (by simpa using hf) hs k
theorem SCallV.of{ops:Array Oper}{l:List Oper}{cs:List Code}{Q:Exit->SS->Prop}{f:Nat}{ys:List V}{ids:List Nat}{d:Option Nat}{x:V}{s':SS}(hs:Spec P f ys x)(hn:s.calledF d x ids=s')(k:SO P B ops l cs Q s'):SCallV P B f ys ids d ops l cs Q s:=⟨x,hs,hn▸k⟩
end
end
section
open Go.RowKit
def nv(r:List Nat):List V:=r.map λ(n:Nat)=> .sc (.int .u64 n)
theorem nv_clo(r:List Nat):(nv r).all clo=true:=by rw[zlf];intro x hx;obtain⟨n,_,rfl⟩:=List.mem_map.1 hx;rfl
def nR(M:List (List Nat)):List (List V):=M.map nv
def mv(w:Nat)(M:List (List Nat)):V:= .im (imR w (nR M)) M.length
def md(p w:Nat)(M:List (List Nat)):V:= .ag [.sc (.int .u64 p),.sc (.int .i64 w),mv w M]
theorem imR_clo(w:Nat)(rs:List (List V)):(imR w rs).all clo=true:=by rw[zlf];intro x hx;obtain⟨n,_,rfl⟩:=List.mem_map.1 hx;rfl
theorem Le.newSlice{B:Base}{sl:List (Nat×V)}{hp:List (Nat×Blk)}{nx nx' nt id len z t:Nat}{cap:Option Nat}{k:Blk}(hB:B.Old nx)(h:nx<=id)(hx:get sl t= .sl id 0 len z cap)(hk:hget hp id=some k)(hc:k.cs.all clo=true):Le B ⟨sl,hp,nx',nt⟩ ⟨[(t,.sl nx 0 len z none)],[(nx,k)],nx+1,nt⟩:=by
 refine Le.map (ren1 nx id) (λi=>i<=nx) hB (λi hi=>⟨by omega,if_neg om⟩) (λi hi=>by omega) (λi j hi hj e=> ?_) ⟨?_,trivial⟩ (λi k' hk' hi=> ?_)
 ·unfold ren1 at e;split at e<;>split at e<;>omega
 ·rw[hx];exact VMap.cap (if_pos rfl) (znb _)
 ·simp only[hget]at hk';split at hk'
  ·rename_i e;cases hk';subst e;rw[show ren1 i id i=id from if_pos rfl,hk];exact BMap.clo hc
  ·cases hk'
theorem Le.nilSlice{B:Base}{sl:List (Nat×V)}{hp:List (Nat×Blk)}{nx nt t z ty:Nat}(hB:B.Old nx)(hx:get sl t= .sc (.slice none 0 0)):Le B ⟨sl,hp,nx,nt⟩ ⟨[(t,.sl nx 0 0 z none)],[(nx,⟨ty,[],false⟩)],nx+1,nt⟩:=by
 refine Le.map (λi=>i) (λi=>i<nx) hB (λi hi=>⟨hi,rfl⟩) (λi hi=>by omega) (λi j hi hj e=>e) ⟨?_,trivial⟩ (λi k' hk' hi=> ?_);·rw[hx];exact VMap.nil_sl _ _ _
 ·simp only[hget]at hk';split at hk';·omega
  ·cases hk'
end
section
section widen
variable {p n w:Nat} {M:List (List Nat)}
variable [NeZero p]
end widen
section left
variable {p n w:Nat} {M L L':List (List Nat)} [NeZero p]
end left
section left2
variable {p n w:Nat} {M:List (List Nat)} [NeZero p]
end left2
section solv
variable {p n w:Nat} {M:List (List Nat)} {b:List Nat} [NeZero p]
end solv
section turn
variable {p n w:Nat} {M:List (List Nat)}
variable [NeZero p]
end turn
end
section
open Go.RowKit
theorem klc{n i:Nat}{k:Blk}{r:List (Nat×Blk)}(h:i<n)(h2: ∀id q,hget r id=some q->id<n): ∀id q,hget ((i,k)::r) id=some q->id<n:=by
 intro id q hq;simp only[hget]at hq;split at hq;·rename_i e;omega
 ·exact h2 id q hq
theorem kln{n:Nat}: ∀id q,hget [] id=some q->id<n:=λ_ _ h=>by cases h
theorem klr{n:Nat}{ty:TypeId}{ids:List Nat}{rs:List (List V)}(h: ∀i∈ids,i<n): ∀id q,hget (rowsH ty ids rs) id=some q->id<n:=by intro id q hq;obtain⟨k,h1,_,h3,_⟩:=rows_inv hq;rw[<-h3];exact h _ (getD_mem' h1)
end
section
open Go.RowKit
structure RowsOk(o:Nat)(ids:List Nat)(n lo hi:Nat):Prop where
 len:ids.length=n
 nod:ids.Nodup
 lt: ∀i∈ids,lo<=i/\i<hi
 o1:lo<=o/\o<hi
 o2:o∉ids
theorem slR_app(z m:Nat)(a b:List Nat):slR z m a++slR z m b=slR z m (a++b):=by simp[slR]
theorem take_snoc{α:Type}{l:List α}{i:Nat}{d:α}(h:i<l.length):l.take (i+1)=l.take i++ [l.getD i d]:=by rw[List.take_add_one,getD_get' (d:=d) h];rfl
theorem Le.rowInP{B:Base}{sl sl':List (Nat×V)}{pre:List (Nat×Blk)}{o id m z nx nt:Nat}{cap:Option Nat}{ty tr:TypeId}{ids:List Nat}{rs:List (List V)}{row rest:List V}(hpre: ∀i k,hget pre i=some k->i≠id/\k.cs.all clo=true)(hB: ∃m,B.Old m/\m<=nx)(hid:id<nx)(hi: ∀i∈ids,i<nx)(hoi:id≠o)(hin:id∉ids)(hl:ids.length=rs.length)(hc:row.all clo=true)(hrc: ∀r∈rs,r.all clo=true)
  (hrest: ∀x∈rest,x= .sc (.slice none 0 0)) (h1:mapSl (λi=>i) (λi=>i<nx) sl sl'):
  Le B ⟨sl,(id,⟨tr,row,false⟩)::(pre++(o,⟨ty,slR z m ids++V.sl id 0 m z cap::rest,false⟩)::rowsH tr ids rs),nx,nt⟩ ⟨sl',pre++(o,⟨ty,slR z m (ids++ [id])++rest,false⟩)::rowsH tr (ids++ [id]) (rs++ [row]),nx,nt⟩:=by
 obtain⟨m0,hB,hm0⟩:=hB;refine Le.map (λi=>i) (λi=>i<nx) hB (λi hi=>⟨by omega,rfl⟩) (λi h=>h) (λi j _ _ e=>e) h1 (λi k' hk' hlt=> ?_);simp only[hget,hget_app]at hk'⊢;cases hp:hget pre i with
 |some q=>
  rw[hp]at hk';cases hk';obtain⟨p1,p2⟩:=hpre i _ hp;rw[if_neg p1];exact BMap.clo p2
 |none=>
 rw[hp]at hk';simp only at hk'⊢;by_cases e:i=o
 ·subst e;rw[if_pos rfl]at hk';rw[if_neg (λe=>hoi e.symm),if_pos rfl];cases hk';refine⟨_,rfl,rfl,rfl,λj y hy=> ?_⟩;have hy':(slR z m (ids++ [id])++rest)[j]? =some y:=hy;show∃x,(slR z m ids++V.sl id 0 m z cap::rest)[j]? =some x/\_;rw[<-slR_app]at hy';have hlen:=slR_len z m ids;rcases Nat.lt_trichotomy j ids.length with g|g|g
  ·rw[zl6,List.getElem?_append_left om,slR_get g]at hy';rw[List.getElem?_append_left om,slR_get g];cases hy';exact⟨_,rfl,VMap.sl rfl (hi _ (getD_mem' g))⟩
  ·rw[zl6,List.getElem?_append_right om,hlen,g,Nat.sub_self]at hy';rw[List.getElem?_append_right om,hlen,g,Nat.sub_self];have:(slR z m [id]++rest)[0]? =some (V.sl id 0 m z none):=rfl;rw[this]at hy';cases hy';exact⟨_,rfl,VMap.cap rfl hid⟩
  ·rw[zl6,List.getElem?_append_right om,hlen]at hy';rw[List.getElem?_append_right om,hlen];obtain⟨q,hq⟩: ∃q,j-ids.length=q+1:=⟨j-ids.length-1,by omega⟩
   rw[hq]at hy'⊢;have e1:(slR z m [id]++rest)[q+1]? =rest[q]? :=rfl;rw[e1]at hy';rw[List.getElem?_cons_succ];refine⟨y,hy',?_⟩;rw[hrest y (List.mem_of_getElem? hy')];exact VMap.nil
 ·rw[if_neg e]at hk';have:=rows_snoc hl hin i k' hk';simp only[hget]at this;by_cases e2:i=id
  ·rw[if_pos e2]at this⊢;cases this;exact BMap.clo hc
  ·rw[if_neg e2]at this;rw[if_neg e2,if_neg e,this];obtain⟨q,q1,q2,q3,rfl⟩:=rows_inv this;exact BMap.clo (hrc _ (by rw[List.getD_eq_getElem?_getD,zlb q2];exact List.getElem_mem q2))
theorem Le.rowIn{B:Base}{sl sl':List (Nat×V)}{o id m z nx nt:Nat}{cap:Option Nat}{ty tr:TypeId}{ids:List Nat}{rs:List (List V)}{row rest:List V}(hB: ∃m,B.Old m/\m<=nx)(hid:id<nx)(hi: ∀i∈ids,i<nx)(hoi:id≠o)(hin:id∉ids)(hl:ids.length=rs.length)(hc:row.all clo=true)(hrc: ∀r∈rs,r.all clo=true)
  (hrest: ∀x∈rest,x= .sc (.slice none 0 0)) (h1:mapSl (λi=>i) (λi=>i<nx) sl sl'):
  Le B ⟨sl,(id,⟨tr,row,false⟩)::(o,⟨ty,slR z m ids++V.sl id 0 m z cap::rest,false⟩)::rowsH tr ids rs,nx,nt⟩ ⟨sl',(o,⟨ty,slR z m (ids++ [id])++rest,false⟩)::rowsH tr (ids++ [id]) (rs++ [row]),nx,nt⟩:=
 Le.rowInP (pre:=[]) (λi k h=>by cases h) hB hid hi hoi hin hl hc hrc hrest h1
theorem setAll_all(cs xs:List V): ∀off,off+xs.length<=cs.length->setAll cs off xs=cs.take off++xs++cs.drop (off+xs.length):=by
 induction xs generalizing cs with
 |nil=>intro off h;simp[setAll]
 | cons x r ih=>
  intro off h;simp only[List.length_cons]at h;rw[setAll,ih (cs.set off x) (off+1) (by rw[List.length_set];omega)];have e1:(cs.set off x).take (off+1)=cs.take off++ [x]:=by
   rw[List.take_set,List.take_add_one,List.set_append_right _ _ (by simp;omega)];have:off<cs.length:=by omega
   simp[zlb this,Nat.min_eq_left (by omega:off<=cs.length)]
  have e2:(cs.set off x).drop (off+1+r.length)=cs.drop (off+(r.length+1)):=by rw[List.drop_set,if_pos om];congr 1;omega
  rw[e1,e2];simp
end
section
open Go.RowKit
theorem clone_l(l:List Nat)(hn:l.length<=1000000000000):Spec Tryz.prog 80 [sv l] (sv l):=by have:=clone_s (lv l) (lv_clo l) (lv_all l) (by rw[lv_len];exact hn);rw[lv_len]at this;exact this
theorem pvalue_n(n:Nat)(neg:Bool)(z:Int)(hz:sgn neg n=z)(h:(limbsOf n).length<=1000000000000):Spec Tryz.prog 112 [.sc (.bool neg),sv (limbsOf n)] (iv z):=by have:=value_i neg (limbsOf n) (limbsOf_limbs n) h;rwa[limbsOf_val,hz]at this
theorem pneg_i(x:Int)(K:Nat)(hx:Fits K x)(hK:K<=1000000000000):Spec Tryz.prog 104 [iv x] (iv (-x)):=by have lx:=fits_len hx;have c1:=clone_l (limbsOf x.natAbs) om;have c2:=pvalue_n x.natAbs (!decide (x<0)) (-x) (by unfold sgn;split<;>simp_all<;>omega) om;unfold iv sv at*;refine qF Tryz.func104 Tryz.ntmps104 λB hB=> ?_;refine qW ?_;exact qE Tryz.results104
theorem nanI_s(n:Int):Spec Tryz.prog 135 [.sc (.int .i64 n)] (.sc (.bool false)):=by
 have q1:((n:Int) !=n)=false:=by simp
 refine qF Tryz.func135 Tryz.ntmps135 λB hB=> ?_;refine qYf @q1 ?_;exact qE Tryz.results135
theorem nanU_s(n:Int):Spec Tryz.prog 139 [.sc (.int .u32 n)] (.sc (.bool false)):=by
 have q1:((n:Int) !=n)=false:=by simp
 refine qF Tryz.func139 Tryz.ntmps139 λB hB=> ?_;refine qYf @q1 ?_;exact qE Tryz.results139
theorem cmpI_s(x y:Int):Spec Tryz.prog 121 [.sc (.int .i64 x),.sc (.int .i64 y)] (.sc (.int .i64 (x-y).sign)):=by
 have c1:=nanI_s x;have c2:=nanI_s y;rcases Int.lt_trichotomy x y with h|h|h
 ·have q1:=decide_eq_true h;refine qF Tryz.func121 Tryz.ntmps121 λB hB=> ?_;refine qWf @q1 ?_;refine retQ_ret Tryz.results121 qT qT ?_;rw[Int.sign_eq_neg_one_of_neg om]
 ·subst h;have q1:decide (x<x)=false:=by simp
  refine qF Tryz.func121 Tryz.ntmps121 λB hB=> ?_;refine qWf @q1 ?_;refine retQ_ret Tryz.results121 qT qT ?_;rw[Int.sub_self];rfl
 ·have q1:=decide_eq_false (p:=x<y) om;have q2:=decide_eq_true h;refine qF Tryz.func121 Tryz.ntmps121 λB hB=> ?_;refine qWf (Q2 @q1 @q2) ?_;refine retQ_ret Tryz.results121 qT qT ?_;rw[Int.sign_eq_one_of_pos om]
theorem cmpU_s(x y:Int):Spec Tryz.prog 136 [.sc (.int .u32 x),.sc (.int .u32 y)] (.sc (.int .i64 (x-y).sign)):=by
 have c1:=nanU_s x;have c2:=nanU_s y;rcases Int.lt_trichotomy x y with h|h|h
 ·have q1:=decide_eq_true h;refine qF Tryz.func136 Tryz.ntmps136 λB hB=> ?_;refine qWf @q1 ?_;refine retQ_ret Tryz.results136 qT qT ?_;rw[Int.sign_eq_neg_one_of_neg om]
 ·subst h;have q1:decide (x<x)=false:=by simp
  refine qF Tryz.func136 Tryz.ntmps136 λB hB=> ?_;refine qWf @q1 ?_;refine retQ_ret Tryz.results136 qT qT ?_;rw[Int.sub_self];rfl
 ·have q1:=decide_eq_false (p:=x<y) om;have q2:=decide_eq_true h;refine qF Tryz.func136 Tryz.ntmps136 λB hB=> ?_;refine qWf (Q2 @q1 @q2) ?_;refine retQ_ret Tryz.results136 qT qT ?_;rw[Int.sign_eq_one_of_pos om]
theorem compare_n(m n:Nat)(hm:(limbsOf m).length<=1000000000000)(hn:(limbsOf n).length<=1000000000000):Spec Tryz.prog 122 [sv (limbsOf m),sv (limbsOf n)] (.sc (.int .i64 ((m:Int)-n).sign)):=by
 have bm:=limbsOf_limbs m;have bn:=limbsOf_limbs n;have cm:=limbsOf_canon m;have cn:=limbsOf_canon n;have vm:=limbsOf_val m;have vn:=limbsOf_val n;generalize limbsOf m=a at*;generalize limbsOf n=b at*;subst vm;subst vn;have c1:=cmpI_s (a.length:Int) (b.length:Int);have hlt: ∀{a b:List Nat},limbs a->canon b->a.length<b.length->val a<val b:=by intro a b ha cb h;have h1:=val_lt ha;have h2:=canon_ge cb (by intro e;subst e;simp at h);have h3:4294967296^a.length<=4294967296^(b.length-1):=Nat.pow_le_pow_right om om;omega
 unfold sv;by_cases hab:a.length=b.length
 ·have e1:((a.length:Int)-(b.length:Int)).sign=0:=by rw[hab,Int.sub_self];rfl
  rw[e1]at c1;have q0:((0:Int) !=0)=false:=by decide
  refine qF Tryz.func122 Tryz.ntmps122 λB hB=> ?_;refine qWf (Q2 @q0 @lv_len) ?_;refine SC.loop (λk:Nat=>⟨[(0,.im (lv a) a.length),(1,.im (lv b) b.length),(6,.sc (.int .i64 ((k:Int)-1)))],[],0,35⟩)
   (λk=>k<=a.length/\(val a<val b↔val (a.take k)<val (b.take k))/\(val b<val a↔val (b.take k)<val (a.take k))) (λk=>k) a.length ?_ ?_ ?_
  ·exact qL
  ·exact⟨znb _,by rw[List.take_length,hab,List.take_length],by rw[List.take_length,hab,List.take_length]⟩
  ·rintro k ⟨hk,hI,hJ⟩ K hK;by_cases h0:k=0
   ·subst h0;have q1:decide ((0:Int)<=((0:Nat):Int)-1)=false:=by simp
    refine qYf (Q3 @q0 @lv_len @q1) ?_;refine retQ_ret Tryz.results122 qT qT ?_;simp[val]at hI hJ;rw[show((val a:Int)-(val b:Int))=0 by omega];rfl
   ·obtain⟨j,rfl⟩: ∃j,k=j+1:=⟨k-1,by omega⟩
    have q1:decide ((0:Int)<=((j+1:Nat):Int)-1)=true:=by simp
    have hi:(((j+1:Nat):Int)-1).toNat=j:=by omega
    have ga:=lv_get (l:=a) (i:=j) om;have gb:=lv_get (l:=b) (i:=j) om;have s1:=val_lt_step (a:=a) (b:=b) (k:=j) bm bn om om;have s2:=val_lt_step (a:=b) (b:=a) (k:=j) bn bm om om;rw[<-hI]at s1;rw[<-hJ]at s2;generalize a.getD j 0=x at*;generalize b.getD j 0=y at*;have c2:=cmpU_s (x:Int) (y:Int);rcases Nat.lt_trichotomy x y with h|h|h
    ·have e2:((x:Int)-(y:Int)).sign= -1:=Int.sign_eq_neg_one_of_neg om;rw[e2]at c2;have q2:((-1:Int) !=0)=true:=by decide
     refine qWf (Q8 @q0 @q1 @q2 @hi @ga @gb @lv_len @gD) ?_;refine retQ_ret Tryz.results122 qT qT ?_;have:=(s1.2 om).2 h;rw[Int.sign_eq_neg_one_of_neg om]
    ·subst h;have e2:((x:Int)-(x:Int)).sign=0:=by rw[Int.sub_self];rfl
     rw[e2]at c2;refine qWf (Q7 @q0 @q1 @hi @ga @gb @lv_len @gD) ?_;refine hK _ j ?_ ⟨by omega,s1.1 rfl,s2.1 rfl⟩ om;exact qL
    ·have e2:((x:Int)-(y:Int)).sign=1:=Int.sign_eq_one_of_pos om;rw[e2]at c2;have q2:((1:Int) !=0)=true:=by decide
     refine qWf (Q8 @q0 @q1 @q2 @hi @ga @gb @lv_len @gD) ?_;refine retQ_ret Tryz.results122 qT qT ?_;have:=(s2.2 om).2 h;rw[Int.sign_eq_one_of_pos om]
 ·rcases Nat.lt_or_gt_of_ne hab with h|h
  ·have e1:((a.length:Int)-(b.length:Int)).sign= -1:=Int.sign_eq_neg_one_of_neg om;rw[e1]at c1;have q0:((-1:Int) !=0)=true:=by decide
   have hv:=hlt bm cn h;refine qF Tryz.func122 Tryz.ntmps122 λB hB=> ?_;refine qWf (Q2 @q0 @lv_len) ?_;refine retQ_ret Tryz.results122 qT qT ?_;rw[Int.sign_eq_neg_one_of_neg om]
  ·have e1:((a.length:Int)-(b.length:Int)).sign=1:=Int.sign_eq_one_of_pos om;rw[e1]at c1;have q0:((1:Int) !=0)=true:=by decide
   have hv:=hlt bn cm h;refine qF Tryz.func122 Tryz.ntmps122 λB hB=> ?_;refine qWf (Q2 @q0 @lv_len) ?_;refine retQ_ret Tryz.results122 qT qT ?_;rw[Int.sign_eq_one_of_pos om]
theorem sign_cases(z:Int):(z<0/\z.sign= -1)\/(z=0/\z.sign=0)\/(0<z/\z.sign=1):=by
 rcases Int.lt_trichotomy z 0 with h|h|h;·exact .inl ⟨h,Int.sign_eq_neg_one_of_neg h⟩
 ·subst h;exact .inr (.inl ⟨rfl,rfl⟩)
 ·exact .inr (.inr ⟨h,Int.sign_eq_one_of_pos h⟩)
theorem pcmp_i(x y:Int)(K:Nat)(hx:Fits K x)(hy:Fits K y)(hK:K<=1000000000000):Spec Tryz.prog 94 [iv x,iv y] (.sc (.int .i64 (x-y).sign)):=by
 have lx:=fits_len hx;have ly:=fits_len hy;have c1:=psign_i x K hx hK;have c2:=psign_i y K hy hK;by_cases hs:x.sign=y.sign
 ·have c3:=trim_n x.natAbs om;have c4:=trim_n y.natAbs om;have c5:=compare_n x.natAbs y.natAbs om om;rw[<-hs]at c2;have q1:(x.sign !=x.sign)=false:=by simp
  have A:=sign_cases x;have A':=sign_cases y;have A2:=sign_cases (x-y);have A3:=sign_cases ((x.natAbs:Int)-(y.natAbs:Int));have hb: -1<=x.sign/\x.sign<=1:=by omega
  have hb2: -1<=(x-y).sign/\(x-y).sign<=1:=by omega
  have e:x.sign*(((x.natAbs:Int)-(y.natAbs:Int)).sign)=(x-y).sign:=by rcases A with⟨h,g⟩|⟨h,g⟩|⟨h,g⟩<;>rw[g]<;>omega
  clear A A' A2 A3;generalize x.sign=s at*;generalize(((x.natAbs:Int)-(y.natAbs:Int)).sign)=t at*;generalize(x-y).sign=u at*;unfold iv sv at*;refine qF Tryz.func94 Tryz.ntmps94 λB hB=> ?_;refine qWf (Q2 @q1 @e) ?_;exact qE Tryz.results94
 ·have c3:=cmpI_s x.sign y.sign;have q1:(x.sign !=y.sign)=true:=by simpa using hs
  have e:(x.sign-y.sign).sign=(x-y).sign:=by have A:=sign_cases x;have A':=sign_cases y;have A2:=sign_cases (x-y);have A3:=sign_cases (x.sign-y.sign);omega
  rw[e]at c3;unfold iv sv at*;refine qF Tryz.func94 Tryz.ntmps94 λB hB=> ?_;refine qWf @q1 ?_;exact qE Tryz.results94
end
section
open Go.RowKit
theorem lv_rep(n:Nat):List.replicate n (.sc (.int .u32 0))=lv (List.replicate n 0):=by simp[lv]
theorem lv_set{l:List Nat}{i x:Nat}{e:Int}(h:e=(x:Int)):(lv l).set i (.sc (.int .u32 e))=lv (l.set i x):=by subst h;simp[lv,List.map_set]
theorem sgn_mul(x y:Int):sgn (decide (x<0) !=decide (y<0)) (x.natAbs*y.natAbs)=x*y:=by
 rcases Int.lt_or_le x 0 with hx|hx<;>rcases Int.lt_or_le y 0 with hy|hy
 ·rw[decide_eq_true hx,decide_eq_true hy];obtain⟨m,rfl⟩: ∃m:Nat,x= -m:=⟨x.natAbs,by omega⟩
  obtain⟨n,rfl⟩: ∃n:Nat,y= -n:=⟨y.natAbs,by omega⟩
  simp[sgn,Int.neg_mul_neg]
 ·rw[decide_eq_true hx,decide_eq_false om];obtain⟨m,rfl⟩: ∃m:Nat,x= -m:=⟨x.natAbs,by omega⟩
  obtain⟨n,rfl⟩: ∃n:Nat,y=n:=⟨y.natAbs,by omega⟩
  simp[sgn,Int.neg_mul]
 ·rw[decide_eq_false om,decide_eq_true hy];obtain⟨m,rfl⟩: ∃m:Nat,x=m:=⟨x.natAbs,by omega⟩
  obtain⟨n,rfl⟩: ∃n:Nat,y= -n:=⟨y.natAbs,by omega⟩
  simp[sgn,Int.mul_neg]
 ·rw[decide_eq_false om,decide_eq_false om];obtain⟨m,rfl⟩: ∃m:Nat,x=m:=⟨x.natAbs,by omega⟩
  obtain⟨n,rfl⟩: ∃n:Nat,y=n:=⟨y.natAbs,by omega⟩
  simp[sgn]
theorem mul_i(x y:Int)(K:Nat)(hx:Fits K x)(hy:Fits K y)(hK:K<=400000000000):Spec Tryz.prog 59 [iv x,iv y] (iv (x*y)):=by
 have lx:=fits_len hx;have ly:=fits_len hy;obtain⟨a,ea⟩: ∃a,a=limbsOf x.natAbs:=⟨_,rfl⟩
 obtain⟨b,eb⟩: ∃b,b=limbsOf y.natAbs:=⟨_,rfl⟩
 have vx:val a=x.natAbs:=by rw[ea];exact limbsOf_val _
 have vy:val b=y.natAbs:=by rw[eb];exact limbsOf_val _
 have bx:limbs a:=by rw[ea];exact limbsOf_limbs _
 have bY:limbs b:=by rw[eb];exact limbsOf_limbs _
 rw[<-ea]at lx;rw[<-eb]at ly;unfold iv sv;rw[<-ea,<-eb];refine qF Tryz.func59 Tryz.ntmps59 λB hB=> ?_;obtain⟨ax,hax⟩: ∃ax:Blk,ax=⟨68,[.sc (.bool (decide (x<0))),.im (lv a) a.length],false⟩:=⟨_,rfl⟩
 have hN:((a.length:Int)+(b.length:Int)+1).toNat=a.length+b.length+1:=by omega
 refine qYf (Q2 @lv_len @hN) ?_;refine SC.loop (λx':Nat×List Nat=>⟨[(2,.pt 0 0),(3,.pt 1 0),(4,.pt 2 0),(5,.sl 3 0 (a.length+b.length+1) 1 none),(6,.sc (.int .i64 x'.1))],[(3,⟨117,lv x'.2,false⟩),(2,⟨68,[.sc (.bool false),.sc (.slice none 0 0)],false⟩),(1,⟨68,[.sc (.bool (decide (y<0))),.im (lv b) b.length],false⟩),(0,⟨68,[.sc (.bool (decide (x<0))),.im (lv a) a.length],false⟩)],4,81⟩)
  (λx'=>x'.1<=a.length/\mulInv a b x'.1 0 0 x'.2) (λx'=>a.length-x'.1) (0,List.replicate (a.length+b.length+1) 0) ?_ ?_ ?_
 ·refine qLn0r ?_;exact LLe.lv (lv_rep _)
 ·exact⟨znc _,by simp,limbs_replicate _,by simp[val,val_replicate]⟩
 ·rintro⟨i,z⟩ ⟨hi,hI⟩ K hK;simp only at hi hI⊢;have hz:z.length=a.length+b.length+1:=hI.1;by_cases hA:i<a.length
  ·have q1:=decide_eq_true (p:=(i:Int)<a.length) om;refine qYf (Q2 @q1 @lv_len) ?_;refine SC.loop (λx':Nat×Nat×List Nat=>⟨[(2,.pt 0 0),(3,.pt 1 0),(4,.pt 2 0),(5,.sl 3 0 (a.length+b.length+1) 1 none),(6,.sc (.int .i64 i)),(7,.sc (.int .u64 x'.2.1)),(8,.sc (.int .i64 x'.1))],[(3,⟨117,lv x'.2.2,false⟩),(2,⟨68,[.sc (.bool false),.sc (.slice none 0 0)],false⟩),(1,⟨68,[.sc (.bool (decide (y<0))),.im (lv b) b.length],false⟩),(0,⟨68,[.sc (.bool (decide (x<0))),.im (lv a) a.length],false⟩)],4,81⟩)
    (λx'=>x'.1<=b.length+1/\x'.2.1<4294967296/\mulInv a b i x'.1 x'.2.1 x'.2.2) (λx'=>b.length+1-x'.1) (0,0,z) ?_ ?_ ?_
   ·refine qLn0r ?_;exact LLe.lv rfl
   ·exact⟨znc _,by simp only;omega,hI⟩
   ·rintro⟨k,c,z⟩ ⟨hk,hc,hI⟩ K' hK';simp only at hk hc hI⊢;have hz:z.length=a.length+b.length+1:=hI.1;have la:=limbs_getD bx i;have lb:=limbs_getD bY k;have lz:=limbs_getD hI.2.1 (i+k);by_cases hend:k<b.length\/0<c
    ·have hk1:k<=b.length:=by
      rcases Nat.lt_or_ge k (b.length+1)with h|h;·omega
      ·have h1:k=b.length+1:=by omega
       subst h1;have:=hI.noCarry bx bY hA;omega
     have hidx:((i:Int)+(k:Int)).toNat=i+k:=by omega
     have hst:=hI.step om _ _ _ rfl rfl rfl;have hzi:i+k<z.length:=by omega
     have gz:=lv_get hzi;have ga:=lv_get hA;by_cases hB':k<b.length
     ·have q2:=decide_eq_true (p:=(k:Int)<b.length) om;have gb:=lv_get hB';generalize a.getD i 0=xa at*;generalize b.getD k 0=xb at*;generalize z.getD (i+k) 0=xz at*;have hp:xa*xb<=4294967295*4294967295:=Nat.mul_le_mul om om;have hm:(xa:Int)*(xb:Int)=((xa*xb:Nat):Int):=by simp
      generalize xa*xb=pr at*;refine qYf (Q9 @q1 @q2 @hidx @gz @ga @gb @hm @lv_len @gD) ?_;refine hK' _ (k+1,(c+xz+pr)/4294967296,z.set (i+k) ((c+xz+pr) % 4294967296)) ?_ ⟨by simp only;omega,by simp only;omega,hst⟩ (by simp only;omega);refine qLn0r ?_;exact LLe.lv (lv_set om)
     ·have q2:=decide_eq_false (p:=(k:Int)<b.length) om;have q3:=decide_eq_true (p:=(0:Int)<c) om;have hz0:=getD_ge (l:=b) (k:=k) hB';rw[hz0,Nat.mul_zero,Nat.add_zero]at hst;generalize z.getD (i+k) 0=xz at*;refine qYf (Q7 @q1 @q2 @q3 @hidx @gz @lv_len @gD) ?_;refine hK' _ (k+1,(c+xz)/4294967296,z.set (i+k) ((c+xz) % 4294967296)) ?_ ⟨by simp only;omega,by simp only;omega,hst⟩ (by simp only;omega);refine qLn0r ?_;exact LLe.lv (lv_set om)
    ·have hc0:c=0:=by omega
     subst hc0;have q2:=decide_eq_false (p:=(k:Int)<b.length) om;have q3:decide ((0:Int)<((0:Nat):Int))=false:=by simp
     refine qYf (Q4 @q1 @q2 @q3 @lv_len) ?_;refine hK _ (i+1,z) ?_ ⟨by simp only;omega,hI.row om⟩ (by simp only;omega);refine qLn0r ?_;exact LLe.lv rfl
  ·have q1:=decide_eq_false (p:=(i:Int)<a.length) om;have hd:=hI.done om;have c2:=made_i z (decide (x<0) !=decide (y<0)) hI.2.1 om;have e2:sgn (decide (x<0) !=decide (y<0)) (val z)=x*y:=by
    rw[hd,vx,vy];exact sgn_mul x y
   rw[e2]at c2;unfold iv sv at c2;rw[hz]at c2;have ht:z.take (a.length+b.length+1)=z:=by rw[<-hz];exact List.take_length
   refine qWf (Q5 @q1 @lv_len @lv_take @lv_clo @ht) ?_;exact qE Tryz.results59
end
section
open Go.RowKit
theorem take_set_succ{l:List Nat}{k x:Nat}(h:k<l.length):(l.set k x).take (k+1)=l.take k++ [x]:=by rw[List.take_succ_eq_append_getElem (by simpa using h)];simp only[List.take_set,List.getElem_set_self];rw[List.set_eq_of_length_le (by simp;omega)]
theorem fd32(n:Int):n.fdiv (2^min 32 64)=n/4294967296:=by rw[show(2:Int)^min 32 64=4294967296 by decide];exact Int.fdiv_eq_ediv_of_nonneg _ om
theorem fd63(n:Int):n.fdiv (2^min 63 64)=n/9223372036854775808:=by rw[show(2:Int)^min 63 64=9223372036854775808 by decide];exact Int.fdiv_eq_ediv_of_nonneg _ om
theorem pplus_i(x y:List Nat)(hx:limbs x)(hy:limbs y)(hmx:x.length<=900000000000)(hmy:y.length<=900000000000):Spec Tryz.prog 126 [sv x,sv y] (sv (dg (max x.length y.length+1) (val x+val y))):=by
 unfold sv;rcases Nat.lt_or_ge x.length y.length with hlt|hge
 ·have q0:=decide_eq_true (p:=((x.length:Nat):Int)<(y.length:Int)) om;have hN:((y.length:Int)+1).toNat=y.length+1:=by omega
  refine qF Tryz.func126 Tryz.ntmps126 λB hB=> ?_;refine qYf (Q3 @q0 @lv_len @hN) ?_;refine SC.loop (λu:Nat×Nat×List Nat=>⟨[(0,.im (lv y) y.length),(1,.im (lv x) x.length),(5,.sl 0 0 (y.length+1) 1 none),(6,.sc (.int .u64 u.2.1)),(20,.sc (.int .i64 y.length)),(21,.sc (.int .i64 u.1))],[(0,⟨117,lv u.2.2,false⟩)],1,57⟩)
   (λu=>u.2.1<=1/\u.1<=y.length/\u.2.2.length=y.length+1/\limbs u.2.2/\plusInv y x u.1 u.2.1 (u.2.2.take u.1)) (λu=>y.length-u.1) (0,0,List.replicate (y.length+1) 0) ?_ ?_ ?_
  ·refine qLn0r ?_;exact LLe.lv (lv_rep _)
  ·exact⟨znc _,znc _,by simp,limbs_replicate _,by simp,λn hn=>by simp at hn,by simp[val]⟩
  ·rintro⟨k,c,z⟩ ⟨hc,hk,hzl,hz,hI⟩ K hK;simp only at hc hk hzl hz hI⊢;have la:=limbs_getD hy k;have lb:=limbs_getD hx k;by_cases hka:k<y.length
   ·have q1:=decide_eq_true (p:=(k:Int)<(y.length:Int)) om;have hst:=hI.step _ _ rfl rfl;rw[<-take_set_succ om]at hst;have ga:=lv_get hka;by_cases hkb:k<x.length
    ·have q2:=decide_eq_true (p:=(k:Int)<(x.length:Int)) om;have gb:=lv_get hkb;generalize y.getD k 0=s at*;generalize x.getD k 0=t at*;refine qYf (Q7 @q1 @q2 @fd32 @ga @gb @lv_len @gD) ?_;refine hK _ (k+1,(c+s+t)/4294967296,z.set k ((c+s+t) % 4294967296)) ?_ ⟨by simp only;omega,by simp only;omega,by simp[hzl],limbs_set hz _ om,hst⟩ (by simp only;omega);refine qLn0r ?_;exact LLe.lv (lv_set om)
    ·have q2:=decide_eq_false (p:=(k:Int)<(x.length:Int)) om;have hb0:=getD_ge hkb;rw[hb0]at hst;generalize y.getD k 0=s at*;refine qYf (Q6 @q1 @q2 @fd32 @ga @lv_len @gD) ?_;refine hK _ (k+1,(c+s+0)/4294967296,z.set k ((c+s+0) % 4294967296)) ?_ ⟨by simp only;omega,by simp only;omega,by simp[hzl],limbs_set hz _ om,hst⟩ (by simp only;omega);refine qLn0r ?_;exact LLe.lv (lv_set om)
   ·have hkn:k=y.length:=by omega
    subst hkn;have q1:=decide_eq_false (p:=((y.length:Nat):Int)<(y.length:Int)) om;obtain⟨h1,h2,h3⟩:=hI;rw[zla (l:=y) (znb _),zla (l:=x) om]at h3;have hw:=take_set_succ (l:=z) (k:=y.length) (x:=c) om;rw[zla (by simp[hzl])]at hw;have hv:val (z.set y.length c)=val y+val x:=by rw[hw,val_append,h1];simp only[val];omega
    have hl2:(z.set y.length c).length=y.length+1:=by simp[hzl]
    have he:=dg_eq (limbs_set hz y.length (x:=c) om);rw[hv,hl2]at he;have hls:(lv z).set y.length (.sc (.int .u32 (c:Int)))=lv (z.set y.length c):=lv_set rfl;have ht:(z.set y.length c).take (y.length+1)=z.set y.length c:=by rw[<-hl2];exact List.take_length
    refine qYf (Q3 @q1 @hls @lv_len) ?_;refine retQ_ret Tryz.results126 qT (qTf (Q4 @lv_len @lv_take @lv_clo @ht)) ?_;rw[show max x.length y.length=y.length by omega,Nat.add_comm (val x),he,hl2]
 ·have q0:=decide_eq_false (p:=((x.length:Nat):Int)<(y.length:Int)) om;have hN:((x.length:Int)+1).toNat=x.length+1:=by omega
  refine qF Tryz.func126 Tryz.ntmps126 λB hB=> ?_;refine qYf (Q3 @q0 @lv_len @hN) ?_;refine SC.loop (λu:Nat×Nat×List Nat=>⟨[(0,.im (lv x) x.length),(1,.im (lv y) y.length),(5,.sl 0 0 (x.length+1) 1 none),(6,.sc (.int .u64 u.2.1)),(20,.sc (.int .i64 x.length)),(21,.sc (.int .i64 u.1))],[(0,⟨117,lv u.2.2,false⟩)],1,57⟩)
   (λu=>u.2.1<=1/\u.1<=x.length/\u.2.2.length=x.length+1/\limbs u.2.2/\plusInv x y u.1 u.2.1 (u.2.2.take u.1)) (λu=>x.length-u.1) (0,0,List.replicate (x.length+1) 0) ?_ ?_ ?_
  ·refine qLn0r ?_;exact LLe.lv (lv_rep _)
  ·exact⟨znc _,znc _,by simp,limbs_replicate _,by simp,λn hn=>by simp at hn,by simp[val]⟩
  ·rintro⟨k,c,z⟩ ⟨hc,hk,hzl,hz,hI⟩ K hK;simp only at hc hk hzl hz hI⊢;have la:=limbs_getD hx k;have lb:=limbs_getD hy k;by_cases hka:k<x.length
   ·have q1:=decide_eq_true (p:=(k:Int)<(x.length:Int)) om;have hst:=hI.step _ _ rfl rfl;rw[<-take_set_succ om]at hst;have ga:=lv_get hka;by_cases hkb:k<y.length
    ·have q2:=decide_eq_true (p:=(k:Int)<(y.length:Int)) om;have gb:=lv_get hkb;generalize x.getD k 0=s at*;generalize y.getD k 0=t at*;refine qYf (Q7 @q1 @q2 @fd32 @ga @gb @lv_len @gD) ?_;refine hK _ (k+1,(c+s+t)/4294967296,z.set k ((c+s+t) % 4294967296)) ?_ ⟨by simp only;omega,by simp only;omega,by simp[hzl],limbs_set hz _ om,hst⟩ (by simp only;omega);refine qLn0r ?_;exact LLe.lv (lv_set om)
    ·have q2:=decide_eq_false (p:=(k:Int)<(y.length:Int)) om;have hb0:=getD_ge hkb;rw[hb0]at hst;generalize x.getD k 0=s at*;refine qYf (Q6 @q1 @q2 @fd32 @ga @lv_len @gD) ?_;refine hK _ (k+1,(c+s+0)/4294967296,z.set k ((c+s+0) % 4294967296)) ?_ ⟨by simp only;omega,by simp only;omega,by simp[hzl],limbs_set hz _ om,hst⟩ (by simp only;omega);refine qLn0r ?_;exact LLe.lv (lv_set om)
   ·have hkn:k=x.length:=by omega
    subst hkn;have q1:=decide_eq_false (p:=((x.length:Nat):Int)<(x.length:Int)) om;obtain⟨h1,h2,h3⟩:=hI;rw[zla (l:=x) (znb _),zla (l:=y) om]at h3;have hw:=take_set_succ (l:=z) (k:=x.length) (x:=c) om;rw[zla (by simp[hzl])]at hw;have hv:val (z.set x.length c)=val x+val y:=by rw[hw,val_append,h1];simp only[val];omega
    have hl2:(z.set x.length c).length=x.length+1:=by simp[hzl]
    have he:=dg_eq (limbs_set hz x.length (x:=c) om);rw[hv,hl2]at he;have hls:(lv z).set x.length (.sc (.int .u32 (c:Int)))=lv (z.set x.length c):=lv_set rfl;have ht:(z.set x.length c).take (x.length+1)=z.set x.length c:=by rw[<-hl2];exact List.take_length
    refine qYf (Q3 @q1 @hls @lv_len) ?_;refine retQ_ret Tryz.results126 qT (qTf (Q4 @lv_len @lv_take @lv_clo @ht)) ?_;rw[show max x.length y.length=x.length by omega,he,hl2]
theorem pminus_i(x y:List Nat)(hx:limbs x)(hy:limbs y)(hmx:x.length<=900000000000)(hl:y.length<=x.length)(hv:val y<=val x):Spec Tryz.prog 127 [sv x,sv y] (sv (dg x.length (val x-val y))):=by
 unfold sv;refine qF Tryz.func127 Tryz.ntmps127 λB hB=> ?_;refine qYf @lv_len ?_;refine SC.loop (λu:Nat×Nat×List Nat=>⟨[(0,.im (lv x) x.length),(1,.im (lv y) y.length),(5,.sl 0 0 x.length 1 none),(6,.sc (.int .u64 u.2.1)),(13,.sc (.int .i64 x.length)),(14,.sc (.int .i64 u.1))],[(0,⟨117,lv u.2.2,false⟩)],1,44⟩)
  (λu=>u.2.1<=1/\u.1<=x.length/\u.2.2.length=x.length/\limbs u.2.2/\minusInv x y u.1 u.2.1 (u.2.2.take u.1)) (λu=>x.length-u.1) (0,0,List.replicate x.length 0) ?_ ?_ ?_
 ·refine qLn0r ?_;exact LLe.lv (lv_rep _)
 ·exact⟨znc _,znc _,by simp,limbs_replicate _,by simp,λn hn=>by simp at hn,by simp[val]⟩
 ·rintro⟨k,c,z⟩ ⟨hc,hk,hzl,hz,hI⟩ K hK;simp only at hc hk hzl hz hI⊢;have la:=limbs_getD hx k;have lb:=limbs_getD hy k;by_cases hka:k<x.length
  ·have q1:=decide_eq_true (p:=(k:Int)<(x.length:Int)) om;have ga:=lv_get hka;have hst: ∀d c':Nat,d<4294967296->(d:Int)=(x.getD k 0:Nat)-c-(y.getD k 0:Nat)+4294967296*c'->minusInv x y (k+1) c' ((z.set k d).take (k+1)):=λd c' h1 h2=>by
    rw[take_set_succ om];exact hI.step _ _ d c' rfl rfl h1 h2
   have wneg: ∀n:Int,-18446744073709551616<=n->n<0->IntKind.u64.wrap n=n+18446744073709551616:=λn h1 h2=>by simp[IntKind.wrap,IntKind.bits,IntKind.signed];omega
   by_cases hkb:k<y.length
   ·have q2:=decide_eq_true (p:=(k:Int)<(y.length:Int)) om;have gb:=lv_get hkb;generalize x.getD k 0=s at*;generalize y.getD k 0=t at*;by_cases hn:(s:Int)-c-t<0
    ·have e3:IntKind.u64.wrap (IntKind.u64.wrap ((s:Int)-c)-t)=(s:Int)-c-t+18446744073709551616:=by
      simp[IntKind.wrap,IntKind.bits,IntKind.signed];omega
     refine qYf (Q8 @q1 @q2 @fd63 @e3 @ga @gb @lv_len @gD) ?_;refine hK _ (k+1,1,z.set k (s+4294967296-c-t)) ?_ ⟨by simp only;omega,by simp only;omega,by simp[hzl],limbs_set hz _ om,hst _ 1 om om⟩ (by simp only;omega);refine qLn0r ?_;exact LLe.lv (lv_set om)
    ·have e3:IntKind.u64.wrap (IntKind.u64.wrap ((s:Int)-c)-t)=(s:Int)-c-t:=by
      simp[IntKind.wrap,IntKind.bits,IntKind.signed];omega
     refine qYf (Q8 @q1 @q2 @fd63 @e3 @ga @gb @lv_len @gD) ?_;refine hK _ (k+1,0,z.set k (s-c-t)) ?_ ⟨by simp only;omega,by simp only;omega,by simp[hzl],limbs_set hz _ om,hst _ 0 om om⟩ (by simp only;omega);refine qLn0r ?_;exact LLe.lv (lv_set om)
   ·have q2:=decide_eq_false (p:=(k:Int)<(y.length:Int)) om;have hb0:=getD_ge hkb;rw[hb0]at hst;generalize x.getD k 0=s at*;by_cases hn:(s:Int)-c<0
    ·have e3:IntKind.u64.wrap ((s:Int)-c)=(s:Int)-c+18446744073709551616:=wneg _ om hn;refine qYf (Q7 @q1 @q2 @fd63 @e3 @ga @lv_len @gD) ?_;refine hK _ (k+1,1,z.set k (s+4294967296-c)) ?_ ⟨by simp only;omega,by simp only;omega,by simp[hzl],limbs_set hz _ om,hst _ 1 om om⟩ (by simp only;omega);refine qLn0r ?_;exact LLe.lv (lv_set om)
    ·refine qYf (Q6 @q1 @q2 @fd63 @ga @lv_len @gD) ?_;refine hK _ (k+1,0,z.set k (s-c)) ?_ ⟨by simp only;omega,by simp only;omega,by simp[hzl],limbs_set hz _ om,hst _ 0 om om⟩ (by simp only;omega);refine qLn0r ?_;exact LLe.lv (lv_set om)
  ·have hkn:k=x.length:=by omega
   subst hkn;have q1:=decide_eq_false (p:=((x.length:Nat):Int)<(x.length:Int)) om;rw[zla (l:=z) om]at hI;have hd:=hI.done hc hx hl hv;have he:=dg_eq hz;rw[hd,hzl]at he;have ht:z.take x.length=z:=by rw[<-hzl];exact List.take_length
   refine qYf @q1 ?_;refine retQ_ret Tryz.results127 qT (qTf (Q4 @lv_len @lv_take @lv_clo @ht)) ?_;rw[he,hzl]
theorem pvalue_dg(k n:Nat)(neg:Bool)(z:Int)(hz:sgn neg n=z)(h:n<4294967296^k)(hk:k<=1000000000000):Spec Tryz.prog 112 [.sc (.bool neg),sv (dg k n)] (iv z):=by have:=value_i neg (dg k n) (dg_limbs _ _) (by rw[dg_len];exact hk);rwa[dg_val k n h,hz]at this
theorem padd_g(na nb:Bool)(m n K:Nat)(hm:m<4294967296^K)(hn:n<4294967296^K)(hK:K<=500000000000):Spec Tryz.prog 106 [.ag [.sc (.bool na),sv (limbsOf m)],.ag [.sc (.bool nb),sv (limbsOf n)]] (iv (sgn na m+sgn nb n)):=by
 have lm:(limbsOf m).length<=K:=canon_len (limbsOf_canon _) (by rw[limbsOf_val];exact hm);have ln:(limbsOf n).length<=K:=canon_len (limbsOf_canon _) (by rw[limbsOf_val];exact hn);have vm:=limbsOf_val m;have vn:=limbsOf_val n;have t1:=trim_n m om;have t2:=trim_n n om;by_cases hs:na=nb
 ·subst hs;have c1:=pplus_i (limbsOf m) (limbsOf n) (limbsOf_limbs _) (limbsOf_limbs _) om om;rw[vm,vn]at c1;have g1:=val_lt (limbsOf_limbs m);have g2:=val_lt (limbsOf_limbs n);rw[vm]at g1;rw[vn]at g2;have g3:4294967296^(limbsOf m).length<=4294967296^max (limbsOf m).length (limbsOf n).length:=Nat.pow_le_pow_right om om;have g4:4294967296^(limbsOf n).length<=4294967296^max (limbsOf m).length (limbsOf n).length:=Nat.pow_le_pow_right om om;have c2:=pvalue_dg (max (limbsOf m).length (limbsOf n).length+1) (m+n) na (sgn na m+sgn na n) (by cases na<;>simp[sgn];omega) (by rw[Nat.pow_succ];omega) om;have q1:(na==na)=true:=by simp
  unfold iv sv at*;refine qF Tryz.func106 Tryz.ntmps106 λB hB=> ?_;refine qWf @q1 ?_;exact qE Tryz.results106
 ·have q1:(na==nb)=false:=by simpa using hs
  have c0:=compare_n m n om om;by_cases hl:m<n
  ·rw[Int.sign_eq_neg_one_of_neg om]at c0;have hle:(limbsOf m).length<=(limbsOf n).length:=canon_len (limbsOf_canon _) (by have:=val_lt (limbsOf_limbs n);omega);have c1:=pminus_i (limbsOf n) (limbsOf m) (limbsOf_limbs _) (limbsOf_limbs _) om hle om;rw[vm,vn]at c1;have c2:=pvalue_dg (limbsOf n).length (n-m) nb (sgn na m+sgn nb n) (by cases na<;>cases nb<;>simp_all [sgn]<;>omega) (by have:=val_lt (limbsOf_limbs n);omega) om;have q2:decide ((-1:Int)<0)=true:=by decide
   unfold iv sv at*;refine qF Tryz.func106 Tryz.ntmps106 λB hB=> ?_;refine qWf (Q2 @q1 @q2) ?_;exact qE Tryz.results106
  ·have hle:(limbsOf n).length<=(limbsOf m).length:=canon_len (limbsOf_canon _) (by have:=val_lt (limbsOf_limbs m);omega);have c1:=pminus_i (limbsOf m) (limbsOf n) (limbsOf_limbs _) (limbsOf_limbs _) om hle om;rw[vm,vn]at c1;have c2:=pvalue_dg (limbsOf m).length (m-n) na (sgn na m+sgn nb n) (by cases na<;>cases nb<;>simp_all [sgn]<;>omega) (by have:=val_lt (limbsOf_limbs m);omega) om;have q2:decide (((m:Int)-(n:Int)).sign<0)=false:=by
    rw[decide_eq_false_iff_not];have:=sign_cases ((m:Int)-(n:Int));omega
   unfold iv sv at*;refine qF Tryz.func106 Tryz.ntmps106 λB hB=> ?_;refine qWf (Q2 @q1 @q2) ?_;exact qE Tryz.results106
theorem sgn_self(x:Int):sgn (decide (x<0)) x.natAbs=x:=by unfold sgn;split<;>simp_all<;>omega
theorem padd_i(x y:Int)(K:Nat)(hx:Fits K x)(hy:Fits K y)(hK:K<=500000000000):Spec Tryz.prog 106 [iv x,iv y] (iv (x+y)):=by have:=padd_g (decide (x<0)) (decide (y<0)) x.natAbs y.natAbs K hx hy hK;rwa[sgn_self,sgn_self]at this
end
section
open Go.RowKit
theorem getD_app0(z:List Nat)(j:Nat):(z++ [0]).getD j 0=z.getD j 0:=by
 simp only[List.getD_eq_getElem?_getD,List.getElem?_append];split;·rfl
 ·rename_i h;rw[List.getElem?_eq_none (l:=z) om];cases hj:[0][j-z.length]?with
  |none=>rfl
  | some v=>
   have:v=0:=by
    have:=(List.getElem?_eq_some_iff.1 hj).1;have e:j-z.length=0:=by simpa using this
    rw[e]at hj;simpa using hj.symm
   simp[this]
theorem set_app0{z:List Nat}{j:Nat}(h:j<z.length)(v:Nat):(z++ [0]).set j v=z.set j v++ [0]:=by rw[List.set_append,if_pos h]
theorem val_app0(z:List Nat):val (z++ [0])=val z:=by rw[val_append];simp[val]
theorem getD_set_ne{z:List Nat}{i j v:Nat}(h:i≠j):(z.set i v).getD j 0=z.getD j 0:=by simp[List.getD_eq_getElem?_getD,List.getElem?_set_ne h]
theorem ptimes_i(a b:List Nat)(ha:limbs a)(hb:limbs b)(hma:a.length<=400000000000)(hmb:b.length<=400000000000):Spec Tryz.prog 128 [sv a,sv b] (sv (dg (a.length+b.length) (val a*val b))):=by
 unfold sv;have hN:((a.length:Int)+(b.length:Int)).toNat=a.length+b.length:=by omega
 refine qF Tryz.func128 Tryz.ntmps128 λB hB=> ?_;refine qYf (Q2 @lv_len @hN) ?_;refine SC.loop (λu:Nat×List Nat=>⟨[(0,.im (lv a) a.length),(1,.im (lv b) b.length),(5,.sl 0 0 (a.length+b.length) 1 none),(17,.im (lv a) a.length),(18,.sc (.int .i64 a.length)),(19,.sc (.int .i64 u.1))],[(0,⟨117,lv u.2,false⟩)],1,66⟩)
  (λu=>u.1<=a.length/\u.2.length=a.length+b.length/\mulInv a b u.1 0 0 (u.2++ [0])/\ ∀j,u.1+b.length<=j->u.2.getD j 0=0) (λu=>a.length-u.1) (0,List.replicate (a.length+b.length) 0) ?_ ?_ ?_
 ·refine qLn0r ?_;exact LLe.lv (lv_rep _)
 ·refine⟨znc _,by simp,⟨by simp,?_,?_⟩,λj hj=> ?_⟩;·exact limbs_snoc (limbs_replicate _) om
  ·rw[val_app0];simp[val,val_replicate]
  ·simp only[List.getD_eq_getElem?_getD,List.getElem?_replicate];split<;>rfl
 ·rintro⟨i,z⟩ ⟨hi,hzl,hI,hz0⟩ K hK;simp only at hi hzl hI hz0⊢;by_cases hA:i<a.length
  ·have q1:=decide_eq_true (p:=(i:Int)<(a.length:Int)) om;have ga:=lv_get hA;have la:=limbs_getD ha i;obtain⟨s,hs⟩: ∃s,s=a.getD i 0:=⟨_,rfl⟩
   rw[<-hs]at ga la;refine qYf (Q4 @q1 @ga @lv_len @gD) ?_;refine SC.loop (λu:Nat×Nat×List Nat=>⟨[(0,.im (lv a) a.length),(1,.im (lv b) b.length),(5,.sl 0 0 (a.length+b.length) 1 none),(6,.sc (.int .i64 i)),(7,.sc (.int .u32 s)),(8,.sc (.int .u64 u.2.1)),(17,.im (lv a) a.length),(18,.sc (.int .i64 a.length)),(19,.sc (.int .i64 i)),(24,.im (lv b) b.length),(25,.sc (.int .i64 b.length)),(26,.sc (.int .i64 u.1))],[(0,⟨117,lv u.2.2,false⟩)],1,66⟩)
    (λu=>u.1<=b.length/\u.2.1<4294967296/\u.2.2.length=a.length+b.length/\mulInv a b i u.1 u.2.1 (u.2.2++ [0])/\ ∀j,i+b.length<=j->u.2.2.getD j 0=0) (λu=>b.length-u.1) (0,0,z) ?_ ?_ ?_
   ·refine qLn0r ?_;exact LLe.lv rfl
   ·exact⟨znc _,by simp only;omega,hzl,hI,hz0⟩
   ·rintro⟨k,c,z⟩ ⟨hk,hc,hzl,hI,hz0⟩ K' hK';simp only at hk hc hzl hI hz0⊢;have lb:=limbs_getD hb k;have hz:limbs z:=λn hn=>hI.2.1 n (List.mem_append.2 (.inl hn));have lz:=limbs_getD hz (i+k);by_cases hB':k<b.length
    ·have q2:=decide_eq_true (p:=(k:Int)<(b.length:Int)) om;have hidx:((i:Int)+(k:Int)).toNat=i+k:=by omega
     have hzi:i+k<z.length:=by omega
     have gz:=lv_get hzi;have gb:=lv_get hB';have hst:=hI.step (by simp;omega) s (b.getD k 0) (z.getD (i+k) 0) hs.symm rfl (getD_app0 z _);rw[set_app0 hzi]at hst;generalize b.getD k 0=t at*;generalize z.getD (i+k) 0=r at*;have hp:s*t<=4294967295*4294967295:=Nat.mul_le_mul om om;have hm:(s:Int)*(t:Int)=((s*t:Nat):Int):=by simp
     generalize s*t=pr at*;refine qYf (Q9 @q1 @q2 @hidx @gz @gb @hm @fd32 @lv_len @gD) ?_;refine hK' _ (k+1,(c+r+pr)/4294967296,z.set (i+k) ((c+r+pr) % 4294967296)) ?_ ⟨by simp only;omega,by simp only;omega,by simp[hzl],hst,λj hj=> ?_⟩ (by simp only;omega)
     ·refine qLn0r ?_;exact LLe.lv (lv_set om)
     ·simp only;rw[getD_set_ne om];exact hz0 j hj
    ·have hkb:k=b.length:=by omega
     subst hkb;have q2:=decide_eq_false (p:=((b.length:Nat):Int)<(b.length:Int)) om;have hidx:((i:Int)+(b.length:Int)).toNat=i+b.length:=by omega
     have hzi:i+b.length<z.length:=by omega
     have hst:=hI.step (by simp;omega) s 0 0 hs.symm (getD_ge om) (by rw[getD_app0];exact hz0 _ (znb _));rw[set_app0 hzi]at hst;have e1:(c+0+s*0)/4294967296=0:=by simp;omega
     have e2:(c+0+s*0) % 4294967296=c:=by simp;omega
     rw[e1,e2]at hst;have hrow:=hst.row om;refine qYf (Q4 @q1 @q2 @hidx @lv_len) ?_;refine hK _ (i+1,z.set (i+b.length) c) ?_ ⟨by simp only;omega,by simp[hzl],hrow,λj hj=> ?_⟩ (by simp only;omega)
     ·refine qLn0r ?_;exact LLe.lv (lv_set om)
     ·simp only at hj⊢;rw[getD_set_ne om];exact hz0 j om
  ·have q1:=decide_eq_false (p:=(i:Int)<(a.length:Int)) om;have hd:=hI.done om;rw[val_app0]at hd;have hz:limbs z:=λn hn=>hI.2.1 n (List.mem_append.2 (.inl hn));have he:=dg_eq hz;rw[hd,hzl]at he;have ht:z.take (a.length+b.length)=z:=by rw[<-hzl];exact List.take_length
   refine qYf @q1 ?_;refine retQ_ret Tryz.results128 qT (qTf (Q4 @lv_len @lv_take @lv_clo @ht)) ?_;rw[he,hzl]
theorem pmul_i(x y:Int)(K:Nat)(hx:Fits K x)(hy:Fits K y)(hK:K<=400000000000):Spec Tryz.prog 107 [iv x,iv y] (iv (x*y)):=by have lx:=fits_len hx;have ly:=fits_len hy;have t1:=trim_n x.natAbs om;have t2:=trim_n y.natAbs om;have c1:=ptimes_i (limbsOf x.natAbs) (limbsOf y.natAbs) (limbsOf_limbs _) (limbsOf_limbs _) om om;have g1:=val_lt (limbsOf_limbs x.natAbs);have g2:=val_lt (limbsOf_limbs y.natAbs);have hmul:=Nat.mul_lt_mul'' g1 g2;rw[<-Nat.pow_add]at hmul;rw[limbsOf_val,limbsOf_val]at c1 hmul;have c2:=pvalue_dg ((limbsOf x.natAbs).length+(limbsOf y.natAbs).length) (x.natAbs*y.natAbs) (decide (x<0) !=decide (y<0)) (x*y) (sgn_mul x y) hmul om;unfold iv sv at*;refine qF Tryz.func107 Tryz.ntmps107 λB hB=> ?_;refine qW ?_;exact qE Tryz.results107
end
section
theorem val_two(m:Nat):val [m % 4294967296,m/4294967296]=m:=by simp only[val];omega
theorem limbs_two(m:Nat)(hm:m<18446744073709551616):limbs [m % 4294967296,m/4294967296]:=by intro x hx;simp at hx;omega
theorem drop_cons{l:List Nat}{k:Nat}(h:k<l.length):l.drop k=l.getD k 0::l.drop (k+1):=by rw[List.drop_eq_getElem_cons h,List.getD_eq_getElem?_getD,zlb h];rfl
theorem drop_set_cons{l:List Nat}{k x:Nat}(h:k<l.length):(l.set k x).drop k=x::l.drop (k+1):=by rw[List.drop_eq_getElem_cons (by simpa using h)];simp[List.drop_set]
def shortInv(a:List Nat)(d k r:Nat)(z:List Nat):Prop:=z.length=a.length/\limbs z/\r<d/\val (a.drop k)=val (z.drop k)*d+r
theorem shortInv.step{a z:List Nat}{d k r x:Nat}(h:shortInv a d (k+1) r z)(hk:k<a.length)(hx:a.getD k 0=x)(hx2:x<4294967296):shortInv a d k ((r*4294967296+x) % d) (z.set k ((r*4294967296+x)/d))/\(r*4294967296+x)/d<4294967296:=by
 obtain⟨h1,h2,h3,h4⟩:=h;have hq:(r*4294967296+x)/d<4294967296:=by rw[Nat.div_lt_iff_lt_mul om];have:(r+1)*4294967296<=d*4294967296:=Nat.mul_le_mul_right _ h3;rw[Nat.mul_comm 4294967296 d];omega
 refine⟨⟨by simp[h1],limbs_set h2 _ hq,Nat.mod_lt _ om,?_⟩,hq⟩;rw[drop_cons hk,drop_set_cons om,hx];simp only[val];rw[h4];have hd:=Nat.div_add_mod (r*4294967296+x) d;generalize(r*4294967296+x)/d=q at*;generalize(r*4294967296+x) % d=m at*
 grind
theorem shortInv.done{a z:List Nat}{d r:Nat}(h:shortInv a d 0 r z):val z=val a/d/\r=val a % d:=by obtain⟨h1,h2,h3,h4⟩:=h;simp only[zl2]at h4;rw[h4,Nat.mul_comm];exact⟨by rw[Nat.mul_add_div om,Nat.div_eq_of_lt h3];rfl,by rw[Nat.mul_add_mod,Nat.mod_eq_of_lt h3]⟩
theorem val_one(x:Nat):val [x]=x:=by simp[val]
theorem limbs_one{x:Nat}(h:x<4294967296):limbs [x]:=by intro y hy;simp at hy;omega
def divInv(A D R q:Nat):Prop:=A=R+q*D
theorem divInv.step{A D R q e:Nat}(h:divInv A D R q)(he:e*D<=R):divInv A D (R-e*D) (q+e):=by unfold divInv at*;rw[Nat.add_mul];omega
theorem divInv.done{a b s R q:Nat}(h:divInv (a*s) (b*s) R q)(hs:0<s)(hb:0<b)(hR:R<b*s):q=a/b/\R/s=a % b:=by
 unfold divInv at h;have h1:a*s/(b*s)=q:=by rw[h,Nat.add_mul_div_right _ _ (Nat.mul_pos hb hs),Nat.div_eq_of_lt hR,zn9]
 have h2:a*s % (b*s)=R:=by rw[h,Nat.add_mul_mod_self_right,Nat.mod_eq_of_lt hR]
 rw[Nat.mul_div_mul_right _ _ hs]at h1;rw[Nat.mul_mod_mul_right]at h2;refine⟨h1.symm,?_⟩;rw[<-h2,Nat.mul_div_cancel _ hs]
theorem divmod_spec(na nb:Bool)(A B:Nat)(hB:0<B):
  (if na≠nb then-((if na=true/\0<A % B then((A/B:Nat):Int)+1 else((A/B:Nat):Int)))else(if na=true/\0<A % B then((A/B:Nat):Int)+1 else((A/B:Nat):Int)))=sgn na A/sgn nb B/\
  (if na=true/\0<A % B then(B:Int)-((A % B:Nat):Int)else((A % B:Nat):Int))=sgn na A % sgn nb B:=by
 have hd:=Nat.div_add_mod A B;have hm:=Nat.mod_lt A hB;have hB':(0:Int)<B:=by omega
 have hd':(B:Int)*((A/B:Nat):Int)+((A % B:Nat):Int)=A:=by have:=congrArg (λn:Nat=>(n:Int)) hd;simpa using this
 generalize hq:A/B=q at*;generalize hr:A % B=r at*;have key: ∀(x Q R:Int),R+(B:Int)*Q=x->0<=R->R<B->x/(B:Int)=Q/\x % (B:Int)=R:=λx Q R h1 h2 h3=>(Int.ediv_emod_unique hB').2 ⟨h1,h2,h3⟩;cases na
 ·have h:=key (A:Int) q r om om om;cases nb;·simp[sgn,h.1,h.2]
  ·simp[sgn,h.1,h.2,Int.ediv_neg,Int.emod_neg]
 ·by_cases h0:0<r
  ·have h:=key (-(A:Int)) (-((q:Int)+1)) ((B:Int)-r) (by rw[<-hd',Int.mul_neg,Int.mul_add];omega) om om;cases nb;·simp[sgn,h.1,h.2,h0]
   ·simp[sgn,h.1,h.2,h0,Int.ediv_neg,Int.emod_neg]
  ·have hr0:r=0:=by omega
   subst hr0;have h:=key (-(A:Int)) (-(q:Int)) 0 (by rw[<-hd',Int.mul_neg];omega) om om;cases nb;·simp[sgn,h.1,h.2]
   ·simp[sgn,h.1,h.2,Int.ediv_neg,Int.emod_neg]
end
section
open Go.RowKit
theorem val_take_set{z:List Nat}{i y:Nat}(h:i<z.length):val ((z.set i y).take (i+1))=val (z.take i)+4294967296^i*y:=by rw[val_take_succ',List.take_set_of_le (znb _)];congr 2;simp[List.getD_eq_getElem?_getD,h]
theorem val_take_all(z:List Nat){n:Nat}(h:z.length<=n):val (z.take n)=val z:=by rw[zla h]
theorem val_snoc_set{z:List Nat}{n y:Nat}(h:z.length=n+1):val (z.set n y)=val (z.take n)+4294967296^n*y:=by rw[<-val_take_set om,val_take_all];simp;omega
theorem val_last{z:List Nat}{n:Nat}(h:z.length=n+1):val z=val (z.take n)+4294967296^n*z.getD n 0:=by rw[<-val_take_succ',val_take_all];omega
theorem drop_set_ge{z:List Nat}{i j y:Nat}(h:i<j):(z.set i y).drop j=z.drop j:=List.drop_set_of_lt h
theorem getD_of_drop{u z:List Nat}{i:Nat}(h:z.drop i=u.drop i):z.getD i 0=u.getD i 0:=by
 have h1:(z.drop i)[0]? =(u.drop i)[0]? :=by rw[h]
 simp only[zl5,Nat.add_zero]at h1;simp[List.getD_eq_getElem?_getD,h1]
theorem drop_next{u z:List Nat}{i:Nat}(h:z.drop i=u.drop i):z.drop (i+1)=u.drop (i+1):=by rw[<-List.drop_drop,<-List.drop_drop,h]
def shiftInv(x:List Nat)(p i c:Nat)(z:List Nat):Prop:=z.length=x.length+1/\limbs z/\c<p/\val (z.take i)+4294967296^i*c=val (x.take i)*p
theorem shiftInv.step{x z:List Nat}{p i c d w:Nat}(h:shiftInv x p i c z)(hi:i<x.length)(hd:x.getD i 0=d)(hd2:d<4294967296)(hw:w=c+d*p)(hp:p<=4294967296):shiftInv x p (i+1) (w/4294967296) (z.set i (w % 4294967296))/\w<4294967296*p:=by
 obtain⟨h1,h2,h3,h4⟩:=h;have hlt:w<4294967296*p:=by have:d*p<=4294967295*p:=Nat.mul_le_mul_right _ om;omega
 refine⟨⟨by simp[h1],limbs_set h2 _ om,Nat.div_lt_of_lt_mul hlt,?_⟩,hlt⟩;rw[val_take_set om,val_take_succ',hd,Nat.pow_succ,Nat.add_mul,<-h4,Nat.mul_assoc];have e:4294967296^i*w=4294967296^i*(w % 4294967296)+4294967296^i*(4294967296*(w/4294967296)):=by rw[<-Nat.mul_add];congr 1;omega
 have e2:4294967296^i*w=4294967296^i*c+4294967296^i*(d*p):=by rw[hw,Nat.mul_add]
 rw[Nat.mul_assoc];omega
theorem shiftInv.done{x z:List Nat}{p c:Nat}(h:shiftInv x p x.length c z):val (z.set x.length c)=val x*p:=by obtain⟨h1,h2,h3,h4⟩:=h;rw[val_snoc_set h1,h4,List.take_length]
def UU(u0 u1 u2 ul M:Nat):Nat:=((u0*4294967296+u1)*4294967296+u2)*M+ul
def VV(v1 v2 vl M:Nat):Nat:=(v1*4294967296+v2)*M+vl
theorem val_top3{u:List Nat}{k:Nat}(h:u.length=k+3):val u=UU (u.getD (k+2) 0) (u.getD (k+1) 0) (u.getD k 0) (val (u.take k)) (4294967296^k):=by
 have p1:4294967296^(k+2)=4294967296^k*4294967296*4294967296:=by rw[Nat.pow_succ,Nat.pow_succ]
 have p2:4294967296^(k+1)=4294967296^k*4294967296:=by rw[Nat.pow_succ]
 rw[val_last (n:=k+2) h,val_take_succ',val_take_succ',p1,p2];unfold UU;generalize u.getD (k+2) 0=a;generalize u.getD (k+1) 0=b;generalize u.getD k 0=c;generalize val (u.take k)=d;generalize 4294967296^k=M;have e1:M*4294967296*4294967296*a=(M*a)*(4294967296*4294967296):=by ac_rfl
 have e2:M*4294967296*b=(M*b)*4294967296:=by ac_rfl
 have e3:((a*4294967296+b)*4294967296+c)*M=(M*a)*(4294967296*4294967296)+(M*b)*4294967296+M*c:=by rw[Nat.add_mul,Nat.add_mul,Nat.add_mul];ac_rfl
 omega
theorem val_top2{v:List Nat}{k:Nat}(h:v.length=k+2):val v=VV (v.getD (k+1) 0) (v.getD k 0) (val (v.take k)) (4294967296^k):=by
 rw[val_last (n:=k+1) h,val_take_succ',Nat.pow_succ];unfold VV;generalize v.getD (k+1) 0=b;generalize v.getD k 0=c;generalize val (v.take k)=d;generalize 4294967296^k=M;have e2:M*4294967296*b=(M*b)*4294967296:=by ac_rfl
 have e3:(b*4294967296+c)*M=(M*b)*4294967296+M*c:=by rw[Nat.add_mul];ac_rfl
 omega
theorem top_le{u0 u1 u2 ul v1 v2 vl M:Nat}(hM:0<M)(hu:UU u0 u1 u2 ul M<4294967296*VV v1 v2 vl M)(hvl:vl<M)(h2:v2<4294967296):u0<=v1:=by
 refine Nat.le_of_lt_succ ?_;have h3:u0*4294967296*4294967296*M<=UU u0 u1 u2 ul M:=by unfold UU;refine Nat.le_trans ?_ (Nat.le_add_right _ _);refine Nat.mul_le_mul_right _ ?_;omega
 have h4:VV v1 v2 vl M<(v1+1)*4294967296*M:=by unfold VV;have:(v1*4294967296+v2+1)*M<=(v1+1)*4294967296*M:=Nat.mul_le_mul_right _ om;rw[Nat.add_mul _ 1]at this;omega
 have h5:u0*4294967296*4294967296*M<4294967296*((v1+1)*4294967296*M):=by omega
 have h6:u0*(4294967296*4294967296*M)<(v1+1)*(4294967296*4294967296*M):=by
  have a1:u0*(4294967296*4294967296*M)=u0*4294967296*4294967296*M:=by ac_rfl
  have a2:(v1+1)*(4294967296*4294967296*M)=4294967296*((v1+1)*4294967296*M):=by ac_rfl
  rw[a1,a2];exact h5
 exact Nat.lt_of_mul_lt_mul_right h6
theorem guess_down{u0 u1 u2 ul v1 v2 vl M q r Q:Nat}(hul:ul<M)(hq:q*v1+r=u0*4294967296+u1)(hQ:Q*VV v1 v2 vl M<=UU u0 u1 u2 ul M)(hQb:Q<4294967296)(hle:Q<=q)
  (ht:4294967295<q\/r*4294967296+u2<q*v2):Q<=q-1/\1<=q:=by
 rcases Nat.lt_or_ge Q q with h|h;·omega
 ·exfalso;have e:Q=q:=by omega
  subst e;rcases ht with ht|ht;·omega
  ·have h1:Q*((v1*4294967296+v2)*M)<=Q*VV v1 v2 vl M:=Nat.mul_le_mul_left _ (by unfold VV;omega);have h2:UU u0 u1 u2 ul M<((u0*4294967296+u1)*4294967296+u2+1)*M:=by unfold UU;rw[Nat.add_mul _ 1];omega
   have h3:Q*(v1*4294967296+v2)*M<((u0*4294967296+u1)*4294967296+u2+1)*M:=by rw[Nat.mul_assoc];omega
   have h4:=Nat.lt_of_mul_lt_mul_right h3;rw[<-hq,Nat.mul_add]at h4;have e2:Q*(v1*4294967296)=Q*v1*4294967296:=by ac_rfl
   omega
theorem guess_end{u0 u1 u2 ul v1 v2 vl M q r:Nat}(hM:0<M)(hvl:vl<M)(hv:1<=v1)(hq:q*v1+r=u0*4294967296+u1)(hqb:q<4294967296)(ht:q*v2<=r*4294967296+u2):q*VV v1 v2 vl M<UU u0 u1 u2 ul M+VV v1 v2 vl M:=by
 have h1:q*(v1*4294967296+v2)<=(u0*4294967296+u1)*4294967296+u2:=by
  rw[<-hq,Nat.mul_add];have e2:q*(v1*4294967296)=q*v1*4294967296:=by ac_rfl
  omega
 have h2:=Nat.mul_le_mul_right M h1;have h3:q*vl<=4294967295*M:=Nat.mul_le_mul om om;have h4:1*4294967296*M<=(v1*4294967296+v2)*M:=Nat.mul_le_mul_right _ om;have e:q*VV v1 v2 vl M=q*(v1*4294967296+v2)*M+q*vl:=by unfold VV;rw[Nat.mul_add,Nat.mul_assoc]
 unfold UU;rw[e];have:VV v1 v2 vl M=(v1*4294967296+v2)*M+vl:=rfl;omega
theorem guess_break{u0 u1 v1 q r:Nat}(hu:u0<=v1)(hu1:u1<4294967296)(hv:1<=v1)(hq:q*v1+r=u0*4294967296+u1)(hr:4294967296<=r):q<4294967296:=by refine Nat.lt_of_not_le λh=> ?_;have:=Nat.mul_le_mul_right v1 h;omega
theorem guess_first{u0 u1 v1:Nat}(hu:u0<=v1)(hu1:u1<4294967296)(hv:2147483648<=v1):(u0*4294967296+u1)/v1<=4294967297:=by refine Nat.le_of_lt_succ (Nat.div_lt_of_lt_mul ?_);omega
theorem guess_over{u0 u1 u2 ul v1 v2 vl M Q:Nat}(hul:ul<M)(hM:0<M)(hv1:0<v1)(hu1:u1<4294967296)(hu2:u2<4294967296)(hQ:Q*VV v1 v2 vl M<=UU u0 u1 u2 ul M):Q<=(u0*4294967296+u1)/v1:=by
 rw[Nat.le_div_iff_mul_le hv1];have h1:Q*(v1*4294967296*M)<=Q*VV v1 v2 vl M:=Nat.mul_le_mul_left _ (by unfold VV;rw[Nat.add_mul];omega)
 have h2:UU u0 u1 u2 ul M<(u0*4294967296+u1+1)*4294967296*M:=by have:((u0*4294967296+u1)*4294967296+u2+1)*M<=(u0*4294967296+u1+1)*4294967296*M:=Nat.mul_le_mul_right _ om;rw[Nat.add_mul _ 1]at this;unfold UU;omega
 have h3:Q*v1*(4294967296*M)<(u0*4294967296+u1+1)*(4294967296*M):=by
  have a1:Q*v1*(4294967296*M)=Q*(v1*4294967296*M):=by ac_rfl
  have a2:(u0*4294967296+u1+1)*(4294967296*M)=(u0*4294967296+u1+1)*4294967296*M:=by ac_rfl
  rw[a1,a2];omega
 have:=Nat.lt_of_mul_lt_mul_right h3;omega
def msInv(u v:List Nat)(q i br c:Nat)(z:List Nat):Prop:=
 z.length=u.length/\limbs z/\br<=1/\c<4294967296/\z.drop i=u.drop i/\val (z.take i)+q*val (v.take i)=val (u.take i)+4294967296^i*(c+br)
theorem msInv.step{u v z:List Nat}{q i br c e y w d br':Nat}(h:msInv u v q i br c z)(hi:i<u.length)(he:v.getD i 0=e)(hy:u.getD i 0=y)(he2:e<4294967296)(hy2:y<4294967296)(hq:q<4294967296)
  (hw:w=c+q*e) (hd:d<4294967296) (hb:br'<=1) (hdd:d+w % 4294967296+br=y+4294967296*br'):msInv u v q (i+1) br' (w/4294967296) (z.set i d)/\w<18446744073709551616:=by
 obtain⟨h1,h2,h3,h4,h5,h6⟩:=h;have hp:q*e<=4294967295*4294967295:=Nat.mul_le_mul om om;refine⟨⟨by simp[h1],limbs_set h2 _ hd,hb,by omega,?_,?_⟩,by omega⟩;·rw[drop_set_ge om];exact drop_next h5
 ·rw[val_take_set om,val_take_succ',val_take_succ',he,hy,Nat.pow_succ];have a1:q*(val (v.take i)+4294967296^i*e)=q*val (v.take i)+4294967296^i*(q*e):=by rw[Nat.mul_add];ac_rfl
  have a2:4294967296^i*4294967296*(w/4294967296+br')=4294967296^i*(4294967296*(w/4294967296))+4294967296^i*(4294967296*br'):=by rw[Nat.mul_add];ac_rfl
  have a3:4294967296^i*(d+w % 4294967296+br)=4294967296^i*(y+4294967296*br'):=by rw[hdd]
  have a4:4294967296^i*w=4294967296^i*(w % 4294967296)+4294967296^i*(4294967296*(w/4294967296)):=by rw[<-Nat.mul_add];congr 1;omega
  have a5:4294967296^i*w=4294967296^i*c+4294967296^i*(q*e):=by rw[hw,Nat.mul_add]
  rw[a1,a2];rw[Nat.mul_add,Nat.mul_add,Nat.mul_add]at a3;rw[Nat.mul_add]at h6;omega
def abInv(u v:List Nat)(i c:Nat)(z:List Nat):Prop:=z.length=u.length/\limbs z/\c<4294967296/\z.drop i=u.drop i/\val (z.take i)+4294967296^i*c=val (u.take i)+val (v.take i)
theorem abInv.step{u v z:List Nat}{i c e y w:Nat}(h:abInv u v i c z)(hi:i<u.length)(he:v.getD i 0=e)(hy:u.getD i 0=y)(he2:e<4294967296)(hy2:y<4294967296)(hw:w=c+(y+e)):
  abInv u v (i+1) (w/4294967296) (z.set i (w % 4294967296)):=by
 obtain⟨h1,h2,h3,h4,h5⟩:=h;refine⟨by simp[h1],limbs_set h2 _ om,by omega,?_,?_⟩;·rw[drop_set_ge om];exact drop_next h4
 ·rw[val_take_set om,val_take_succ',val_take_succ',he,hy,Nat.pow_succ];have a2:4294967296^i*4294967296*(w/4294967296)=4294967296^i*(4294967296*(w/4294967296)):=by ac_rfl
  have a4:4294967296^i*w=4294967296^i*(w % 4294967296)+4294967296^i*(4294967296*(w/4294967296)):=by rw[<-Nat.mul_add];congr 1;omega
  have a5:4294967296^i*w=4294967296^i*c+(4294967296^i*y+4294967296^i*e):=by rw[hw,Nat.mul_add,Nat.mul_add]
  rw[a2];omega
theorem digit_right{u v z:List Nat}{n q br c:Nat}(hu:u.length=n+1)(hv:v.length=n)(h:msInv u v q n br c z)(hQ:val u/val v<=q)(hV:0<val v)(hc:c+br<=u.getD n 0):
  q=val u/val v/\val (z.set n (u.getD n 0-(c+br)))=val u % val v:=by
 obtain⟨h1,h2,h3,h4,h5,h6⟩:=h;have hval:val (z.set n (u.getD n 0-(c+br)))+q*val v=val u:=by
  rw[val_snoc_set om,val_last hu];rw[val_take_all v om]at h6;have:4294967296^n*u.getD n 0=4294967296^n*(u.getD n 0-(c+br))+4294967296^n*(c+br):=by rw[<-Nat.mul_add];congr 1;omega
  omega
 have hq:q<=val u/val v:=(Nat.le_div_iff_mul_le hV).2 om;have hq2:q=val u/val v:=by omega
 refine⟨hq2,?_⟩;have:=Nat.div_add_mod (val u) (val v);rw[<-hq2,Nat.mul_comm]at this;omega
theorem digit_less{u v z zz:List Nat}{n q br c ca:Nat}(hu:u.length=n+1)(hv:v.length=n)(lu:limbs u)(lv':limbs v)(h:msInv u v q n br c z)(hc:u.getD n 0<c+br)(hQ:val u/val v<=q)(hq:q*val v<val u+val v)(hV:0<val v)
  (z':List Nat) (hz':z'=z.set n ((4294967296+u.getD n 0-(c+br)) % 4294967296)) (ha:abInv z' v n ca zz):1<=q/\q-1=val u/val v/\((4294967296+u.getD n 0-(c+br)) % 4294967296+ca) % 4294967296=0/\val (zz.set n 0)=val u % val v:=by
 obtain⟨h1,h2,h3,h4,h5,h6⟩:=h;obtain⟨g1,g2,g3,g4,g5⟩:=ha;have ht:z'.take n=z.take n:=by rw[hz',List.take_set_of_le (znb _)]
 rw[ht,val_take_all v om]at g5;rw[val_take_all v om]at h6;have hzl:z'.length=n+1:=by rw[hz'];simp;omega
 have hU:=val_last hu;have lz:val (zz.take n)<4294967296^n:=by have:=val_lt (limbs_take g2 n);rwa[List.length_take,Nat.min_eq_left om]at this
 have lV:val v<4294967296^n:=by have:=val_lt lv';rwa[hv]at this
 have lu0:=limbs_getD lu n;generalize u.getD n 0=t at*;obtain⟨s,hs⟩: ∃s,c+br=t+s:=⟨c+br-t,by omega⟩
 rw[hs]at h6 hc⊢;rw[Nat.mul_add]at h6;have hs1:1<=s:=by omega
 have e1:val u+4294967296^n*s=val (z.take n)+q*val v:=by omega
 have hsl:4294967296^n*1<=4294967296^n*s:=Nat.mul_le_mul_left _ hs1;have lzt:val (z.take n)<4294967296^n:=by have:=val_lt (limbs_take h2 n);rwa[List.length_take,Nat.min_eq_left om]at this
 have e2:val u<q*val v:=by omega
 have hq1:1<=q:=by
  rcases Nat.eq_zero_or_pos q with h|h;·subst h;omega
  ·exact h
 have e3:q-1=val u/val v:=by
  have a1:val u/val v<q:=(Nat.div_lt_iff_lt_mul hV).2 e2;have a2:q-1<=val u/val v:=by rw[Nat.le_div_iff_mul_le hV,Nat.sub_mul];omega
  omega
 have hd:=Nat.div_add_mod (val u) (val v);have hm:=Nat.mod_lt (val u) hV;rw[<-e3,Nat.mul_comm,Nat.sub_mul,zna]at hd;have hqv:val v<=q*val v:=Nat.le_mul_of_pos_left _ hq1;have e4:val (zz.take n)+4294967296^n*ca=val u % val v+4294967296^n*s:=by omega
 have e5:ca=s:=by have hp:0<4294967296^n:=Nat.pow_pos om;have b1:=congrArg (· /4294967296^n) e4;simp only[Nat.add_mul_div_left _ _ hp]at b1;rw[Nat.div_eq_of_lt lz,Nat.div_eq_of_lt om]at b1;omega
 subst e5;refine⟨hq1,e3,?_,?_⟩;·omega
 ·rw[val_snoc_set om,Nat.mul_zero,Nat.add_zero];omega
def dvInv(X V n k:Nat)(Z q:List Nat):Prop:=limbs Z/\limbs q/\Z.length=q.length+n/\k<=q.length/\val (Z.drop k)<V/\val Z+4294967296^k*val (q.drop k)*V=X
theorem dvInv.seg{X V n j:Nat}{Z q:List Nat}(h:dvInv X V n (j+1) Z q)(hV:V<4294967296^n):
  val (Z.drop (j+(n+1)))=0/\val ((Z.drop j).take (n+1))=val (Z.drop j)/\val ((Z.drop j).take (n+1))<4294967296*V:=by
 obtain⟨h1,h2,h3,h4,h5,h6⟩:=h;have hlen:(Z.drop (j+1)).length>=n:=by simp;omega
 have hs:=val_split (Z.drop (j+1)) n om;rw[List.drop_drop]at hs;have hz:val (Z.drop (j+1+n))=0:=by
  rcases Nat.eq_zero_or_pos (val (Z.drop (j+1+n)))with e|e;·exact e
  ·have:=Nat.mul_le_mul_left (4294967296^n) e;omega
 have e:j+1+n=j+(n+1):=by omega
 rw[e]at hz;have hs2:=val_split (Z.drop j) (n+1) (by simp;omega);rw[List.drop_drop,hz,Nat.mul_zero,Nat.add_zero]at hs2;refine⟨hz,hs2.symm,?_⟩;rw[<-hs2,drop_cons (by omega:j<Z.length)];have:=limbs_getD h1 j;simp only[val];have:4294967296*(val (Z.drop (j+1))+1)<=4294967296*V:=Nat.mul_le_mul_left _ h5;omega
theorem dvInv.step{X V n j:Nat}{Z q z:List Nat}(h:dvInv X V n (j+1) Z q)(hV:V<4294967296^n)(h0:0<V)(hz:limbs z)(hzl:z.length=n+1)(hv:val z=val ((Z.drop j).take (n+1)) % V):
  dvInv X V n j (Z.take j++(z++Z.drop (j+(n+1)))) (q.set j (val ((Z.drop j).take (n+1))/V)):=by
 obtain⟨s1,s2,s3⟩:=h.seg hV;obtain⟨h1,h2,h3,h4,h5,h6⟩:=h;have hq:val ((Z.drop j).take (n+1))/V<4294967296:=Nat.div_lt_of_lt_mul (by rw[Nat.mul_comm];exact s3);generalize hU:val ((Z.drop j).take (n+1))=U at*;have hl1:(Z.take j).length=j:=by simp;omega
 have hd:(Z.take j++(z++Z.drop (j+(n+1)))).drop j=z++Z.drop (j+(n+1)):=by rw[List.drop_append,hl1,Nat.sub_self,List.drop_eq_nil_of_le om];rfl
 have hvz:val (z++Z.drop (j+(n+1)))=U % V:=by rw[val_append,s1,hv];omega
 refine⟨?_,limbs_set h2 _ hq,?_,by simp;omega,?_,?_⟩
 ·intro x hx;rcases List.mem_append.1 hx with hx|hx;·exact limbs_take h1 _ x hx
  ·rcases List.mem_append.1 hx with hx|hx;·exact hz x hx
   ·exact limbs_drop h1 _ x hx
 ·simp;omega
 ·rw[hd,hvz];exact Nat.mod_lt _ h0
 ·rw[val_append,hl1,hvz,drop_set_cons om];simp only[val];have hZ:=val_split Z j om;rw[<-s2]at hZ;rw[hZ,Nat.pow_succ]at h6;have hdm:=Nat.div_add_mod U V;have a1:4294967296^j*(U/V+4294967296*val (q.drop (j+1)))*V=4294967296^j*(V*(U/V))+4294967296^j*4294967296*val (q.drop (j+1))*V:=by
   rw[Nat.mul_add,Nat.add_mul];ac_rfl
  have a2:4294967296^j*U=4294967296^j*(V*(U/V))+4294967296^j*(U % V):=by rw[<-Nat.mul_add,hdm]
  rw[a1];omega
theorem dvInv.done{x y p n:Nat}{Z q:List Nat}(h:dvInv (x*p) (y*p) n 0 Z q)(hp:0<p)(hy:0<y):val q=x/y/\val Z/p=x % y:=by obtain⟨_,_,_,_,h5,h6⟩:=h;rw[zl2]at h5 h6;simp only[Nat.pow_zero,zna]at h6;exact divInv.done (h6.symm:divInv (x*p) (y*p) (val Z) (val q)) hp hy h5
theorem back_limb{Z:List Nat}{i s:Nat}(hZ:limbs Z)(hs:s<=32)(hi:i+1<Z.length):((Z.getD (i+1) 0*4294967296+Z.getD i 0)/2^s) % 4294967296=(val Z/2^s/4294967296^i) % 4294967296:=by
 have hp:0<4294967296^i:=Nat.pow_pos om;have lt:val (Z.take i)<4294967296^i:=by have:=val_lt (limbs_take hZ i);rwa[List.length_take,Nat.min_eq_left om]at this
 have e0:val Z/4294967296^i=val (Z.drop i):=by rw[val_split Z i om,Nat.add_mul_div_left _ _ hp,Nat.div_eq_of_lt lt,zn9]
 have e:val Z/2^s/4294967296^i=val (Z.drop i)/2^s:=by rw[Nat.div_div_eq_div_mul,Nat.mul_comm,<-Nat.div_div_eq_div_mul,e0]
 rw[e,drop_cons om,drop_cons hi];simp only[val];generalize Z.getD (i+1) 0=a;generalize Z.getD i 0=c;generalize val (Z.drop (i+1+1))=W;obtain⟨t,ht⟩: ∃t,s+t=32:=⟨32-s,by omega⟩
 have hb:4294967296=2^s*2^t:=by rw[<-Nat.pow_add,ht]
 have e1:c+4294967296*(a+4294967296*W)=(a*4294967296+c)+2^s*(2^t*W*4294967296):=by
  have:4294967296*(4294967296*W)=2^s*(2^t*W*4294967296):=by
   have h1:4294967296*(4294967296*W)=2^s*2^t*(4294967296*W):=by rw[<-hb]
   rw[h1]
   ac_rfl
  omega
 rw[e1,Nat.add_mul_div_left _ _ (Nat.pow_pos om),Nat.add_mul_mod_self_right]
end
section
open Go.RowKit
def bl(x:Nat):Nat:=if x=0 then 0 else x.log2+1
theorem bl_lt(x:Nat):x<2^bl x:=by
 unfold bl;split;·omega
 ·exact Nat.lt_log2_self
theorem bl_le{x:Nat}(h:x≠0):2^(bl x-1)<=x/\1<=bl x:=by unfold bl;rw[if_neg h];exact⟨Nat.log2_self_le h,by omega⟩
theorem bl_eq{x L:Nat}(h1:x<2^L)(h2:2^(L-1)<=x)(h3:1<=L):bl x=L:=by
 have hx:x≠0:=by have:=Nat.pow_pos (a:=2) (n:=L-1) om;omega
 obtain⟨a,b⟩:=bl_le hx;have c:=bl_lt x;have e1:bl x-1<L:=(Nat.pow_lt_pow_iff_right (a:=2) om).1 om;have e2:L-1<bl x:=(Nat.pow_lt_pow_iff_right (a:=2) om).1 om;omega
theorem bl_div{x k:Nat}(h:x/2^k≠0):bl x=bl (x/2^k)+k:=by
 obtain⟨a,b⟩:=bl_le h;have c:=bl_lt (x/2^k);generalize bl (x/2^k)=L at*;refine bl_eq ?_ ?_ om;·rw[Nat.pow_add];exact(Nat.div_lt_iff_lt_mul (Nat.pow_pos om)).1 c
 ·rw[show L+k-1=(L-1)+k by omega,Nat.pow_add];exact(Nat.le_div_iff_mul_le (Nat.pow_pos om)).1 a
theorem bl_le_of{x k:Nat}(h:x<2^k):bl x<=k:=by
 by_cases hx:x=0;·subst hx;unfold bl;simp
 ·obtain⟨a,b⟩:=bl_le hx;have:bl x-1<k:=(Nat.pow_lt_pow_iff_right (a:=2) om).1 om;omega
def strIx(s:ByteArray)(n:Int):Option V:=if 0<=n then(s[n.toNat]?).map λb=> .sc (.int .u8 b.toNat)else none
section
variable {P:Program}
@[go_sem] theorem exIndex_str (T:Nat) (s:ByteArray) (k:IntKind) (n:Int):exIndex P T (.sc (.string s)) (.sc (.int k n))=if isStr P T=true then strIx s n else none:=by simp only[exIndex,strIx];by_cases h1:isStr P T=true<;>by_cases h2:0<=n<;>simp[h1,h2]
end
def tabOk(s:ByteArray):Bool:=(List.range 256).all λy=>match s[y]?with|some b=>b.toNat==bl y|none=>false
theorem strIx_tab{s:ByteArray}{y:Nat}(hy:y<256)(h:tabOk s=true):strIx s (y:Int)=some (.sc (.int .u8 (bl y:Nat))):=by
 have:=List.all_eq_true.1 h y (List.mem_range.2 hy);unfold strIx;rw[if_pos om,Int.toNat_natCast];split at this
 ·rename_i b hb;rw[hb];have e:b.toNat=bl y:=by simpa using this
  simp[e]
 ·cases this
theorem mi16:min 16 32=16:=rfl
theorem mi8:min 8 32=8:=rfl
theorem mi32:min 32 64=32:=rfl
set_option maxRecDepth 100000 in
theorem len32_s(x:Nat)(hx:x<4294967296):Spec Tryz.prog 145 [.sc (.int .u32 x)] (.sc (.int .i64 (bl x:Nat))):=by
 have d1:(x:Int).fdiv 65536=((x/65536:Nat):Int):=by rw[Int.fdiv_eq_ediv_of_nonneg _ om];rfl
 have d2:(x:Int).fdiv 256=((x/256:Nat):Int):=by rw[Int.fdiv_eq_ediv_of_nonneg _ om];rfl
 have d3:((x/65536:Nat):Int).fdiv 256=((x/65536/256:Nat):Int):=by rw[Int.fdiv_eq_ediv_of_nonneg _ om];rfl
 have fin: ∀(y k:Nat),y<256->bl y+k=bl x->k<=24->((k:Int)+(bl y:Nat))=(bl x:Nat):=λy k _ h _=>by omega
 have hb:bl x<=32:=bl_le_of om;by_cases h1:65536<=x
 ·have q1:=decide_eq_true (p:=(65536:Int)<=(x:Int)) om;by_cases h2:256<=x/65536
  ·have q2:=decide_eq_true (p:=(256:Int)<=((x/65536:Nat):Int)) om;have e1:=bl_div (x:=x) (k:=16) om;have e2:=bl_div (x:=x/65536) (k:=8) om;have hy:x/65536/256<256:=by omega
   simp only[Nat.reducePow]at e1 e2;generalize x/65536/256=y at*;have hby:bl y<=8:=by omega
   refine qF Tryz.func145 Tryz.ntmps145 λB hB=> ?_;refine qYf (Q6 @q1 @q2 @d1 @d3 @mi16 @mi8) ?_;refine SC.ops ?_;refine qR ?_;refine SO.run (by simp(disch:=omega) only[go_sem,↓reduceIte,zn1,zn2,zn3,zn4,zn5,zn6,reduceCtorEq,zn7,zi1,zi2,if_pos,if_neg,Int.reduceAdd];rw[strIx_tab hy];rotate_left;kernel_rfl;simp(disch:=omega) only[go_sem,↓reduceIte,zn1,zn2,zn3,zn4,zn5,zn6,reduceCtorEq,zn7,zi1,zi2,if_pos,if_neg,Int.reduceAdd];rfl) ?_;refine qR ?_;refine qY ?_;refine retQ_ret Tryz.results145 qT qT ?_;rw[e1,e2];congr 2;omega
  ·have q2:=decide_eq_false (p:=(256:Int)<=((x/65536:Nat):Int)) om;have e1:=bl_div (x:=x) (k:=16) om;have hy:x/65536<256:=by omega
   simp only[Nat.reducePow]at e1;generalize x/65536=y at*;refine qF Tryz.func145 Tryz.ntmps145 λB hB=> ?_;refine qYf (Q5 @q1 @q2 @d1 @mi16 @mi8) ?_;refine SC.ops ?_;refine qR ?_;refine SO.run (by simp(disch:=omega) only[go_sem,↓reduceIte,zn1,zn2,zn3,zn4,zn5,zn6,reduceCtorEq,zn7,zi1,zi2,if_pos,if_neg,Int.reduceAdd];rw[strIx_tab hy];rotate_left;kernel_rfl;simp(disch:=omega) only[go_sem,↓reduceIte,zn1,zn2,zn3,zn4,zn5,zn6,reduceCtorEq,zn7,zi1,zi2,if_pos,if_neg,Int.reduceAdd];rfl) ?_;refine qR ?_;refine qY ?_;refine retQ_ret Tryz.results145 qT qT ?_;rw[e1];congr 2;omega
 ·have q1:=decide_eq_false (p:=(65536:Int)<=(x:Int)) om;by_cases h2:256<=x
  ·have q2:=decide_eq_true (p:=(256:Int)<=(x:Int)) om;have e1:=bl_div (x:=x) (k:=8) om;have hy:x/256<256:=by omega
   simp only[Nat.reducePow]at e1;generalize x/256=y at*;refine qF Tryz.func145 Tryz.ntmps145 λB hB=> ?_;refine qYf (Q5 @q1 @q2 @d2 @mi16 @mi8) ?_;refine SC.ops ?_;refine qR ?_;refine SO.run (by simp(disch:=omega) only[go_sem,↓reduceIte,zn1,zn2,zn3,zn4,zn5,zn6,reduceCtorEq,zn7,zi1,zi2,if_pos,if_neg,Int.reduceAdd];rw[strIx_tab hy];rotate_left;kernel_rfl;simp(disch:=omega) only[go_sem,↓reduceIte,zn1,zn2,zn3,zn4,zn5,zn6,reduceCtorEq,zn7,zi1,zi2,if_pos,if_neg,Int.reduceAdd];rfl) ?_;refine qR ?_;refine qY ?_;refine retQ_ret Tryz.results145 qT qT ?_;rw[e1];congr 2;omega
  ·have q2:=decide_eq_false (p:=(256:Int)<=(x:Int)) om;have hy:x<256:=by omega
   refine qF Tryz.func145 Tryz.ntmps145 λB hB=> ?_;refine qYf (Q2 @q1 @q2) ?_;refine SC.ops ?_;refine qR ?_;refine SO.run (by simp(disch:=omega) only[go_sem,↓reduceIte,zn1,zn2,zn3,zn4,zn5,zn6,reduceCtorEq,zn7,zi1,zi2,if_pos,if_neg,Int.reduceAdd];rw[strIx_tab hy];rotate_left;kernel_rfl;simp(disch:=omega) only[go_sem,↓reduceIte,zn1,zn2,zn3,zn4,zn5,zn6,reduceCtorEq,zn7,zi1,zi2,if_pos,if_neg,Int.reduceAdd];rfl) ?_;refine qR ?_;refine qY ?_;refine retQ_ret Tryz.results145 qT qT ?_;congr 2;omega
theorem lz32_s(x:Nat)(hx:x<4294967296):Spec Tryz.prog 142 [.sc (.int .u32 x)] (.sc (.int .i64 ((32-bl x:Nat):Int))):=by have hb:bl x<=32:=bl_le_of om;have c1:=len32_s x hx;refine qF Tryz.func142 Tryz.ntmps142 λB hB=> ?_;refine qW ?_;refine retQ_ret Tryz.results142 qT qT ?_;congr 2;omega
theorem or_shift(c d s:Nat)(hc:c<2^s)(hw:c+d*2^s<18446744073709551616):bits BinOp.or IntKind.u64 (c:Int) ((d*2^s:Nat):Int)=((c+d*2^s:Nat):Int):=by
 have h:=u64_or_nat c (d*2^s) om om;have e:c|||d*2^s=c+d*2^s:=by have:=Nat.shiftLeft_add_eq_or_of_lt (b:=c) (i:=s) hc d;rw[Nat.shiftLeft_eq,Nat.or_comm]at this;omega
 rw[e]at h;exact h
theorem lv_sc(l:List Nat): ∀y∈lv l,∃v,y= .sc v:=by intro y hy;unfold lv at hy;obtain⟨n,_,rfl⟩:=List.mem_map.1 hy;exact⟨_,rfl⟩
section
variable {P:Program} {B:Base}
theorem retI_r{fn:Func}{x y:V}{sl:List (Nat×V)}{hp hp':List (Nat×Blk)}{nx nx' nt:Nat}{rs:List ResultVar}(hr:fn.results=rs.toArray)(h1:resG P ⟨sl,hp,nx,nt⟩ rs=some y)(h2:Le B ⟨[(0,y)],hp,nx,1⟩ ⟨[(0,x)],hp',nx',1⟩):retI P fn B x hp' nx' .ret ⟨sl,hp,nx,nt⟩:=retI_ret hr h1 h2
end
theorem shift_n(x:List Nat)(s:Nat)(hx:limbs x)(hs:s<=31)(hm:x.length<=400000000000):NewP Tryz.prog 143 [sv x,.sc (.int .i64 s)] ⟨117,lv (dg (x.length+1) (val x*2^s)),false⟩ 0 (x.length+1) 1 none:=by
 refine NewP.of om (lv_sc _) ?_;have hN:((x.length:Int)+1).toNat=x.length+1:=by omega
 have hms:min s 64=s:=by omega
 have hp:2^s<=2147483648:=by have:=Nat.pow_le_pow_right (n:=2) om hs;omega
 unfold sv;refine Inl.run Tryz.func143 rfl Tryz.ntmps143 (by simp) qT λB hB=> ?_;refine qYf (Q2 @lv_len @hN) ?_;refine SC.loop (λu:Nat×Nat×List Nat=>⟨[(0,.im (lv x) x.length),(1,.sc (.int .i64 s)),(5,.sl 0 0 (x.length+1) 1 none),(6,.sc (.int .u64 u.2.1)),(13,.im (lv x) x.length),(14,.sc (.int .i64 x.length)),(15,.sc (.int .i64 u.1))],[(0,⟨117,lv u.2.2,false⟩)],1,41⟩)
  (λu=>u.1<=x.length/\shiftInv x (2^s) u.1 u.2.1 u.2.2) (λu=>x.length-u.1) (0,0,List.replicate (x.length+1) 0) ?_ ?_ ?_
 ·refine qLn0r ?_;exact LLe.lv (lv_rep _)
 ·exact⟨znc _,by simp,limbs_replicate _,Nat.pow_pos om,by simp[val]⟩
 ·rintro⟨k,c,z⟩ ⟨hk,hI⟩ K hK;simp only at hk hI⊢;have hI':=hI;obtain⟨hzl,hz,hc,_⟩:=hI';by_cases hlt:k<x.length
  ·have q1:=decide_eq_true (p:=(k:Int)<(x.length:Int)) om;have hg:=lv_get hlt;have hd:=limbs_getD hx k;have hst:=λw hw=>hI.step (w:=w) hlt rfl hd hw om;generalize x.getD k 0=d at*;have hs1:=hst (c+d*2^s) rfl;have e1:(d:Int)*2^s=((d*2^s:Nat):Int):=by simp
   have e2:=or_shift c d s hc om;have hb:d*2^s<18446744073709551616:=by omega
   generalize c+d*2^s=w at*;generalize d*2^s=m at*;refine qYf (Q8 @q1 @hms @e1 @e2 @hg @fd32 @lv_len @gD) ?_;refine hK _ (k+1,w/4294967296,z.set k (w % 4294967296)) ?_ ⟨by simp only;omega,hs1.1⟩ (by simp only;omega);refine qLn0r ?_;exact LLe.lv (lv_set om)
  ·have hkn:k=x.length:=by omega
   subst hkn;have q1:=decide_eq_false (p:=((x.length:Nat):Int)<(x.length:Int)) om;have hd:=hI.done;have hc2:c<4294967296:=by omega
   have he:=dg_eq (limbs_set hz x.length (x:=c) hc2);rw[hd,List.length_set,hzl]at he;have hls:(lv z).set x.length (.sc (.int .u32 (c:Int)))=lv (z.set x.length c):=lv_set rfl;refine qYf (Q3 @q1 @hls @lv_len) ?_;refine retI_r Tryz.results143 qT ?_;rw[he];refine qLn0r ?_;exact LLe.lv rfl
end
end Go.Proofs.YtannldafjkjjbaaGreat
