/- Texts joined: Op Rw Iu Tr Ts Tv Ic Id Tm If Ig Ih Tu Ik Il Xa Xg Xh Th Iv Xb. -/
import Derived.Lib.AppendZerosOnto
import Derived.Lib.Overlaps
import Derived.LoopN
import Derived.Test.YtannldafjkjjbaaGreatVe
import Derived.Test.YtannldafjkjjbaaGreatVf
import Derived.Test.YtannldafjkjjbaaGreatVg
import Derived.Test.YtannldafjkjjbaaGreatVh
import Derived.Test.YtannldafjkjjbaaGreatVi
import Derived.Test.YtannldafjkjjbaaGreatVj
import Derived.Test.YtannldafjkjjbaaGreatVk
set_option linter.all false
set_option maxHeartbeats 16000000
open Nat renaming reduceEqDiff → zn1, reduceLT → zn2, reduceLeDiff → zn3, reduceAdd → zn4, reduceMul → zn5, reduceSub → zn6, reduceBEq → zn7, mul_one → zn8, zero_add → zn9, one_mul → zna, le_refl → znb, zero_le → znc, add_sub_cancel_left → znd, sub_eq_zero_of_le → zne, add_assoc → znf
open Int renaming reduceToNat → zi1, reducePow → zi2
open List renaming length_append → zl1, drop_zero → zl2, take_succ_cons → zl3, take_zero → zl4, getElem?_drop → zl5, append_assoc → zl6, nil_append → zl7, cons_append → zl8, drop_succ_cons → zl9, take_of_length_le → zla, getElem?_eq_getElem → zlb, getElem?_eq_some_iff → zlc, map_cons → zld, map_nil → zle, all_eq_true → zlf
namespace Go.Proofs.YtannldafjkjjbaaGreat
section
open Go.ChangeShapes Go.WideShapes Go.ChangeAt Go.RowKit
inductive Shp where
 |int (k:IntKind)|bool|str
 |arr (n:Nat) (s:Shp)
 |slc (s:Shp)
 |st (l:List Shp)
mutual
/-- the cells of a value of the shape, as trees -/
def Shp.Rep:Shp->List V->Prop
 | .int k,ys=> ∃n:Int,ys=[.sc (.int k n)]/\(Lit.int k n).wf=true
 | .bool,ys=> ∃b,ys=[.sc (.bool b)]
 | .str,ys=> ∃s:ByteArray,ys=[.sc (.string s)]/\s.size<=maxLen
 | .arr n s,ys=> ∃yss:List (List V),yss.length=n/\ys=yss.flatten/\ ∀z∈yss,s.Rep z
 | .slc s,ys=> ∃yss:List (List V),yss.length<=maxLen/\ys=[.im yss.flatten yss.length]/\ ∀z∈yss,s.Rep z
 | .st l,ys=>Shp.Reps l ys
def Shp.Reps:List Shp->List V->Prop
 |[],ys=>ys=[]
 |s::r,ys=> ∃a b,ys=a++b/\s.Rep a/\Shp.Reps r b
end
mutual
/-- the type has the shape -/
def Shp.ok(P:Program):Shp->TypeId->Bool
 | .int k,t=>match P.underlying t with
  |some (.int k')=>k'==k&&P.cellsOf t==1
  |_=>false
 | .bool,t=>match P.underlying t with
  |some .bool=>P.cellsOf t==1
  |_=>false
 | .str,t=>match P.underlying t with
  |some .string=>P.cellsOf t==1
  |_=>false
 | .arr n s,t=>match P.underlying t with
  |some (.array m e)=>m==n&&s.ok P e&&P.cellsOf t==n*P.cellsOf e
  |_=>false
 | .slc s,t=>match P.underlying t with
  |some (.slice e)=>s.ok P e&&P.cellsOf t==1
  |_=>false
 | .st l,t=>match P.underlying t with
  |some (.struct fs)=>Shp.oks P l fs.toList 0 (P.cellsOf t)
  |_=>false
def Shp.oks(P:Program):List Shp->List Field->Nat->Nat->Bool
 |[],fs,off,n=>fs.isEmpty&&off==n
 |s::r,fs,off,n=>match fs with
  |f::fs=>f.offset==off&&s.ok P f.type&&Shp.oks P r fs (off+P.cellsOf f.type) n
  |[]=>false
end
section
variable {S:Nat->Prop} {w:World}
theorem AllC.append{xs ys:List V}{vs us:List Value}(h:AllC S w xs vs)(k:AllC S w ys us):AllC S w (xs++ys) (vs++us):=by
 refine⟨by simp[h.1,k.1],λi x u hx hu=> ?_⟩;have hl:=h.1;rw[List.getElem?_append]at hx hu;by_cases hi:i<xs.length
 ·rw[if_pos hi]at hx;rw[if_pos om]at hu;exact h.2 i x u hx hu
 ·rw[if_neg hi]at hx;rw[if_neg om,<-hl]at hu;exact k.2 _ x u hx hu
theorem AllC.rows{Q:List V->Prop}{sz:Nat}: ∀(n:Nat) (cs:List Value),cs.length=n*sz->(∀i,i<n-> ∃ys,Q ys/\AllC S w ys ((cs.drop (i*sz)).take sz))-> ∃yss:List (List V),yss.length=n/\(∀z∈yss,Q z)/\AllC S w yss.flatten cs
 |0,cs,hl,_=>by have:cs=[]:=List.eq_nil_of_length_eq_zero (by simpa using hl);subst this;exact⟨[],rfl,λz hz=>by simp at hz,AllC.nil _ _⟩
 | n+1,cs,hl,h=>by
  obtain⟨ys,hq,ha⟩:=h 0 om;rw[Nat.zero_mul,zl2]at ha;have hl':cs.length=n*sz+sz:=by rw[hl,Nat.add_mul,zna]
  obtain⟨yss,h1,h2,h3⟩:=AllC.rows (Q:=Q) (sz:=sz) n (cs.drop sz) (by simp[hl']) λi hi=>by obtain⟨zs,hz,hb⟩:=h (i+1) om;refine⟨zs,hz,?_⟩;rwa[List.drop_drop,show sz+i*sz=(i+1)*sz by rw[Nat.add_mul];omega]
  refine⟨ys::yss,by simp[h1],λz hz=> ?_,?_⟩
  ·rcases List.mem_cons.1 hz with rfl|hz;·exact hq
   ·exact h2 z hz
  ·have:=ha.append h3;rwa[List.take_append_drop]at this
end
theorem addr_add(a:Addr)(i j:Nat):(a.add i).add j=a.add (i+j):=by
 unfold Addr.add;by_cases hj:j=0;·subst hj;simp
 ·by_cases hi:i=0;·subst hi;simp
  ·rw[if_neg hj,if_neg hi,if_neg om];simp;omega
section
variable {H:Type} {enc:TypeId×Value->H} {P:Program} {w:World} {base:Nat} {sp:Nat->Bool} {held:Bool}
mutual
theorem open_rep: ∀(s:Shp) {t:TypeId} {fuel:Nat} {cs:List Value} {x:DataW H×List MemPlace},s.ok P t=true->DataW.trod enc P w base sp held fuel t cs=some x->cs.length=P.cellsOf t/\ ∃ys,s.Rep ys/\AllC (λb=>b<w.heap.size) w ys cs
 | .int k,t,fuel,cs,x,ho,h=>by
  simp only[Shp.ok]at ho;split at ho
  ·rename_i k' hu;simp only[Bool.and_eq_true,beq_iff_eq]at ho;obtain⟨rfl,hc⟩:=ho;obtain⟨n,rfl,_,hw⟩:=DataW.trod_int hu h;exact⟨hc.symm,_,⟨n,rfl,hw⟩,AllC.cons (Rc.sc _ _ _) (AllC.nil _ _)⟩
  ·cases ho
 | .bool,t,fuel,cs,x,ho,h=>by
  simp only[Shp.ok]at ho;split at ho
  ·rename_i hu;simp only[beq_iff_eq]at ho;obtain⟨n,rfl,_⟩:=DataW.trod_bool hu h;exact⟨ho.symm,_,⟨n,rfl⟩,AllC.cons (Rc.sc _ _ _) (AllC.nil _ _)⟩
  ·cases ho
 | .str,t,fuel,cs,x,ho,h=>by
  simp only[Shp.ok]at ho;split at ho
  ·rename_i hu;simp only[beq_iff_eq]at ho;obtain⟨n,rfl,_,hl⟩:=DataW.trod_string hu h;exact⟨ho.symm,_,⟨n,rfl,hl⟩,AllC.cons (Rc.sc _ _ _) (AllC.nil _ _)⟩
  ·cases ho
 | .arr n s,t,fuel,cs,x,ho,h=>by
  simp only[Shp.ok]at ho;split at ho
  ·rename_i m e hu;simp only[Bool.and_eq_true,beq_iff_eq]at ho;obtain⟨⟨rfl,ho⟩,hc⟩:=ho;obtain⟨xs,q,_,_,hl,hn,hel⟩:=DataW.trod_array hu h;refine⟨hl,?_⟩;obtain⟨yss,h1,h2,h3⟩:=AllC.rows (S:=λb=>b<w.heap.size) (w:=w) (Q:=s.Rep) m cs (by rw[hl,hc]) λi hi=>by
    have:=hel i hi;rw[zlb om]at this;exact(open_rep s ho this).2
   exact⟨_,⟨yss,h1,rfl,h2⟩,h3⟩
  ·cases ho
 | .slc s,t,fuel,cs,x,ho,h=>by
  simp only[Shp.ok]at ho;split at ho
  ·rename_i e hu;simp only[Bool.and_eq_true,beq_iff_eq]at ho;obtain⟨ho,hc⟩:=ho;rcases DataW.trod_slice hu h with⟨rfl,_⟩|⟨a,len,cap,elems,rest,n,_,rfl,_,hb,hl,hm,hlen,hel,_,_⟩;·exact⟨hc.symm,_,⟨[],by simp,rfl,λz hz=>by simp at hz⟩,AllC.cons (.im0 (znb _) (by unfold maxLen;omega) (λ_=>rfl)) (AllC.nil _ _)⟩
   ·refine⟨hc.symm,?_⟩;obtain⟨f,hf⟩: ∃f:Nat->Value,f=λi=>(w.cell? (a.add i)).getD undef:=⟨_,rfl⟩
    have each: ∀i,i<len->w.cells? base (a.add (i*P.cellsOf e)) (P.cellsOf e)=some ((((List.range (len*P.cellsOf e)).map f).drop (i*P.cellsOf e)).take (P.cellsOf e))/\ ∃y,DataW.trod enc P w base sp held n e ((((List.range (len*P.cellsOf e)).map f).drop (i*P.cellsOf e)).take (P.cellsOf e))=some y:=by
     intro i hi;have h1:=hel i hi;rw[zlb om,Option.bind_eq_some_iff]at h1;obtain⟨cs',h2,h3⟩:=h1;obtain⟨_,h4,h5⟩:=World.cells?_some h2;have hle:i*P.cellsOf e+P.cellsOf e<=len*P.cellsOf e:=by have:=Nat.mul_le_mul_right (P.cellsOf e) (show i+1<=len by omega);rwa[Nat.add_mul,zna]at this
     have he:cs'=(((List.range (len*P.cellsOf e)).map f).drop (i*P.cellsOf e)).take (P.cellsOf e):=by
      refine List.ext_getElem? λj=> ?_;rw[List.getElem?_take];split
      ·rename_i hj;have h6:=h5 j hj;rw[addr_add]at h6;rw[zl5,List.getElem?_map,List.getElem?_range om,Option.map_some,hf];simp only;rw[h6,zlb om];rfl
      ·rw[List.getElem?_eq_none om]
     rw[<-he];exact⟨h2,_,h3⟩
    obtain⟨yss,h1,h2,h3⟩:=AllC.rows (S:=λb=>b<w.heap.size) (w:=w) (Q:=s.Rep) (sz:=P.cellsOf e) len ((List.range (len*P.cellsOf e)).map f) (by simp) λi hi=>by obtain⟨_,y,hy⟩:=each i hi;exact(open_rep s ho hy).2
    refine⟨_,⟨yss,by omega,rfl,h2⟩,AllC.cons ?_ (AllC.nil _ _)⟩;rw[h1];by_cases h0:yss.flatten=[]
    ·rw[h0];exact .im0 hl hm (λh=>by cases h)
    ·have hpos:0<len*P.cellsOf e:=by
      have h4:=h3.1;simp only[List.length_map,List.length_range]at h4;rw[<-h4];exact List.length_pos_iff.2 h0
     have cell: ∀i,i<len*P.cellsOf e->w.cell? (a.add i)=some (f i):=by
      intro i hi;have hsz:0<P.cellsOf e:=Nat.pos_of_ne_zero λh=>by rw[h,Nat.mul_zero]at hpos;omega
      have hd:i/P.cellsOf e<len:=(Nat.div_lt_iff_lt_mul hsz).2 hi;obtain⟨h4,_⟩:=each (i/P.cellsOf e) hd;obtain⟨_,_,h5⟩:=World.cells?_some h4;have h6:=h5 (i % P.cellsOf e) (Nat.mod_lt _ hsz);rw[addr_add,Nat.mul_comm,Nat.div_add_mod,List.getElem?_take,if_pos (Nat.mod_lt _ hsz),zl5,Nat.mul_comm,Nat.mul_comm,List.getElem?_map]at h6;rw[h6,Nat.div_add_mod,List.getElem?_range hi];rfl
     have c0:=cell 0 hpos;rw[show a.add 0=a by simp[Addr.add]]at c0;obtain⟨b,off,spot⟩:=a;have hsp:spot=none:=by
      cases spot with
      |none=>rfl
      |some _=>
       simp only[World.cell?]at c0;split at c0;·simp at c0
       ·cases c0
     subst hsp;have hbl:b<w.heap.size:=by
      simp only[World.cell?]at c0;split at c0;·rename_i hb';exact(Array.getElem?_eq_some_iff.1 hb').1
      ·cases c0
     refine .im1 f hl hm hbl (λi x hx=> ?_) (λi x hx=> ?_)
     ·have hi:i<len*P.cellsOf e:=by
       have:=(List.getElem?_eq_some_iff.1 hx).1;have h4:=h3.1;simp only[List.length_map,List.length_range]at h4;omega
      have:=cell i hi;unfold Addr.add at this;split at this;·rename_i hi0;subst hi0;exact this
      ·exact this
     ·have hi:i<len*P.cellsOf e:=by
       have:=(List.getElem?_eq_some_iff.1 hx).1;have h4:=h3.1;simp only[List.length_map,List.length_range]at h4;omega
      exact h3.2 i x (f i) hx (by rw[List.getElem?_map,List.getElem?_range hi];rfl)
  ·cases ho
 | .st l,t,fuel,cs,x,ho,h=>by
  simp only[Shp.ok]at ho;split at ho
  ·rename_i fs hu;obtain⟨xs,n,_,_,hl,hn,hel⟩:=DataW.trod_struct hu h;refine⟨hl,?_⟩;obtain⟨ys,h1,h2⟩:=open_reps l (fs:=fs.toList) (off:=0) (cs:=cs) (n:=n) (m:=P.cellsOf t) ho hl (λi f hf=>by
    have:=hel i f (by simpa using hf);have hi:=(List.getElem?_eq_some_iff.1 hf).1;rw[zlb (by rw[hn];simpa using hi)]at this;exact⟨_,this⟩)
   rw[zl2]at h2;exact⟨ys,h1,h2⟩
  ·cases ho
theorem open_reps: ∀(l:List Shp) {fs:List Field} {off n m:Nat} {cs:List Value},Shp.oks P l fs off m=true->cs.length=m->(∀(i:Nat) (f:Field),fs[i]? =some f-> ∃x:DataW H×List MemPlace,DataW.trod enc P w base sp held n f.type ((cs.drop f.offset).take (P.cellsOf f.type))=some x)->
  ∃ys,Shp.Reps l ys/\AllC (λb=>b<w.heap.size) w ys (cs.drop off)
 |[],fs,off,n,m,cs,ho,hl,h=>by simp only[Shp.oks,Bool.and_eq_true,beq_iff_eq]at ho;refine⟨[],rfl,?_⟩;rw[List.drop_of_length_le om];exact AllC.nil _ _
 |s::r,[],off,n,m,cs,ho,hl,h=>by simp[Shp.oks]at ho
 |s::r,f::fs,off,n,m,cs,ho,hl,h=>by simp only[Shp.oks,Bool.and_eq_true,beq_iff_eq]at ho;obtain⟨⟨h1,h2⟩,h3⟩:=ho;obtain⟨x,hx⟩:=h 0 f rfl;obtain⟨hlen,ys,h4,h5⟩:=open_rep s h2 hx;obtain⟨zs,h6,h7⟩:=open_reps r h3 hl λi g hg=>h (i+1) g (by simpa using hg);refine⟨ys++zs,⟨ys,zs,rfl,h4,h6⟩,?_⟩;have:=h5.append h7;rwa[h1,<-List.drop_drop,List.take_append_drop]at this
end
def Shp.Val:Shp->V->Prop
 | .arr n s,x=> ∃ys,x= .ag ys/\(Shp.arr n s).Rep ys
 | .st l,x=> ∃ys,x= .ag ys/\Shp.Reps l ys
 | .int k,x=> ∃n:Int,x= .sc (.int k n)/\(Lit.int k n).wf=true
 | .bool,x=> ∃b,x= .sc (.bool b)
 | .str,x=> ∃s:ByteArray,x= .sc (.string s)/\s.size<=maxLen
 | .slc s,x=> ∃yss:List (List V),yss.length<=maxLen/\x= .im yss.flatten yss.length/\ ∀z∈yss,s.Rep z
def Shp.Vals:List Shp->List V->Prop
 |[],xs=>xs=[]
 |s::r,xs=> ∃x ys,xs=x::ys/\s.Val x/\Shp.Vals r ys
theorem rc_agg{S:Nat->Prop}{ys:List V}{cs:Array Value}(h:AllC S w ys cs.toList):Rc S w (.ag ys) (.agg cs):=
 .ag (by have:=h.1;simpa using this) λi x u hx hu=>h.2 i x u hx (by simpa using hu)
theorem open_arg(s:Shp){t:TypeId}{v:Value}{d:DataW H}{ps:List MemPlace}(ho:s.ok P t=true)(hval:Value.okWide P w .any 0 t v)(hd:DataW.Trod enc P w 0 (λ_=>true) true t v d ps): ∃x,s.Val x/\Rc (λb=>b<w.heap.size) w x v:=by
 obtain⟨fuel,hf⟩:=hd;obtain⟨_,ys,h1,h2⟩:=open_rep s ho hf;have one: ∀{y:V},(∀cs,v≠ .agg cs)->ys=[y]->Rc (λb=>b<w.heap.size) w y v:=by
  intro y hv e;subst e;have hc:v.cells.toList=[v]:=by cases v<;>first|rfl|exact absurd rfl (hv _)
  rw[hc]at h2;exact h2.2 0 y v rfl rfl
 cases s with
 | int k=>
  obtain⟨n,rfl,hw⟩:=h1;simp only[Shp.ok]at ho;split at ho
  ·rename_i hu;obtain⟨m,rfl⟩:=okWide_int hu hval;exact⟨_,⟨n,rfl,hw⟩,one (λcs e=>by cases e) rfl⟩
  ·cases ho
 | bool=>
  obtain⟨b,rfl⟩:=h1;simp only[Shp.ok]at ho;split at ho
  ·rename_i hu;obtain⟨m,rfl⟩:=okWide_bool hu hval;exact⟨_,⟨b,rfl⟩,one (λcs e=>by cases e) rfl⟩
  ·cases ho
 | str=>
  obtain⟨b,rfl,hl⟩:=h1;simp only[Shp.ok]at ho;split at ho
  ·rename_i hu;refine⟨_,⟨b,rfl,hl⟩,one (λcs e=> ?_) rfl⟩;subst e;simp[Value.okWide,Cell.okWide,Cell.ok,hu]at hval
  ·cases ho
 | slc s=>
  obtain⟨yss,h3,rfl,h4⟩:=h1;simp only[Shp.ok]at ho;split at ho
  ·rename_i hu;refine⟨_,⟨yss,h3,rfl,h4⟩,one (λcs e=> ?_) rfl⟩;subst e;simp[Value.okWide,Cell.okWide,Cell.ok,hu]at hval
  ·cases ho
 | arr n s=>
  have ho':=ho;simp only[Shp.ok]at ho;split at ho
  ·rename_i hu;obtain⟨cs,rfl,_⟩: ∃cs,v= .agg cs/\cs.size=P.cellsOf t/\Row.okWide P w .any 0 t cs:=by simpa[Value.okWide,hu]using hval
   exact⟨_,⟨ys,rfl,h1⟩,rc_agg h2⟩
  ·cases ho
 | st l=>
  simp only[Shp.ok]at ho;split at ho
  ·rename_i hu;obtain⟨cs,rfl,_⟩: ∃cs,v= .agg cs/\cs.size=P.cellsOf t/\Row.okWide P w .any 0 t cs:=by simpa[Value.okWide,hu]using hval
   exact⟨_,⟨ys,rfl,h1⟩,rc_agg h2⟩
  ·cases ho
def Shp.okL(P:Program):List Shp->List TypeId->Bool
 |[],[]=>true
 |s::r,t::ts=>s.ok P t&&Shp.okL P r ts
 |_,_=>false
theorem open_args: ∀(ss:List Shp) {ts:List TypeId} {vs:List Value} {ds:List (DataW H)} {ps:List MemPlace},Shp.okL P ss ts=true->(∀(j:Nat) t v,ts[j]? =some t->vs[j]? =some v->Value.okWide P w .any 0 t v)->DataW.TrodAll enc P w 0 (λ_=>true) true ts vs ds ps->
  ∃xs,Shp.Vals ss xs/\AllC (λb=>b<w.heap.size) w xs vs/\ds.length=ts.length
 |[],[],vs,ds,ps,_,_,h=>by obtain⟨rfl,rfl,rfl⟩:=trodAll_nil h;exact⟨[],rfl,AllC.nil _ _,rfl⟩
 |[],t::ts,_,_,_,ho,_,_=>by cases ho
 |s::r,[],_,_,_,ho,_,_=>by cases ho
 |s::r,t::ts,vs,ds,ps,ho,hv,h=>by simp only[Shp.okL,Bool.and_eq_true]at ho;obtain⟨v,vs',d,ds',p,q,rfl,rfl,rfl,h1,h2⟩:=trodAll_cons h;obtain⟨x,h3,h4⟩:=open_arg s ho.1 (hv 0 t v rfl rfl) h1;obtain⟨xs,h5,h6,h7⟩:=open_args r ho.2 (λj t v a b=>hv (j+1) t v (by simpa using a) (by simpa using b)) h2;exact⟨x::xs,⟨x,xs,rfl,h3,h5⟩,AllC.cons h4 h6,by simp[h7]⟩
theorem law_calls{f:Nat}{fn:Func}(ss:List Shp){args:Array Value}{ds:List (DataW H)}{p:List MemPlace}(hok:Shp.okL P ss fn.params.toList=true)
  (hval: ∀(j:Nat) t v,fn.params[j]? =some t->args[j]? =some v->Value.okWide P w .any 0 t v) (hA:DataW.TrodAll enc P w 0 (λ_=>true) true fn.params.toList args.toList ds p)
  (ht:TabOK (λb=>b<w.heap.size) w) (hs: ∀xs,Shp.Vals ss xs->Spec P f xs (.sc (.bool true))):ds.length=fn.params.size/\Calls P f args w λe w'=>e= .returned (.bool true)/\Below w.heap.size w w':=by
 obtain⟨xs,h1,h2,h3⟩:=open_args ss hok (λj t v a b=>hval j t v (by simpa using a) (by simpa using b)) hA;exact⟨by simpa using h3,Spec.law (hs xs h1) ht h2⟩
theorem reps_ints{k:IntKind}: ∀{yss:List (List V)},(∀z∈yss,(Shp.int k).Rep z)-> ∃ns:List Int,yss.flatten=ns.map (λn=> .sc (.int k n))/\ns.length=yss.length/\ ∀n∈ns,(Lit.int k n).wf=true
 |[],_=>⟨[],rfl,rfl,λn hn=>by simp at hn⟩
 | y::r,h=>by
  obtain⟨n,rfl,hw⟩:=h y (by simp);obtain⟨ns,h1,h2,h3⟩:=reps_ints (yss:=r) λz hz=>h z (by simp[hz]);exact⟨n::ns,by simp[h1],by simp[h2],λm hm=>by
   rcases List.mem_cons.1 hm with rfl|hm;·exact hw
   ·exact h3 m hm⟩
theorem wf_nat{k:IntKind}{M:Nat}(hk: ∀n,(Lit.int k n).wf=true->0<=n/\n<=M){n:Int}(h:(Lit.int k n).wf=true): ∃m:Nat,n=m/\m<=M:=by obtain⟨h1,h2⟩:=hk n h;exact⟨n.toNat,by omega,by omega⟩
end
end
section
open Go.ChangeShapes Go.WideShapes Go.ChangeAt Go.RowKit
theorem i8_wf(n:Int)(h:(Lit.int .i8 n).wf=true): -128<=n/\n<=127:=by
 have h:(IntKind.i8.min<=n/\n<=IntKind.i8.max):=by simpa[Lit.wf]using h
 have h1:IntKind.i8.min= -128:=by decide
 have h2:IntKind.i8.max=127:=by decide
 omega
theorem raw5_val{x:V}(h:(Shp.st [.int .u8,.int .u8,.slc (.int .i8)]).Val x): ∃(a b:Nat) (l:List Int),x= .ag [.sc (.int .u8 a),.sc (.int .u8 b),.im (bv8 l) l.length]/\a<256/\b<256/\(∀x∈l,-128<=x/\x<=127)/\l.length<=9223372036854775807:=by obtain⟨ys,rfl,a1,b1,rfl,⟨n1,rfl,w1⟩,a2,b2,rfl,⟨n2,rfl,w2⟩,a3,b3,rfl,⟨yss,hl,rfl,hr⟩,rfl⟩:=h;obtain⟨a,rfl,ha⟩:=wf_nat u8_wf w1;obtain⟨b,rfl,hb⟩:=wf_nat u8_wf w2;obtain⟨l,h1,h2,h3⟩:=reps_ints hr;unfold maxLen at hl;refine⟨a,b,l,?_,by omega,by omega,λx hx=>i8_wf x (h3 x hx),by omega⟩;rw[h1,h2];rfl
theorem idL_mi{n:Nat}:MI n n 1 (idL n):=mk_mi λ_ _ _ _=>fits01
theorem acts_prod{h w K:Nat}{M:List (List Int)}{l:List OpL}(hM:MI h w K M)(hl: ∀o∈l,OkOp h o)(hh:h<=1000000):mulM h h w (actsO (idL h) l) M=actsO M l:=by have h1:=acts_mul (w:=w) hh (idL_mi.mono (Nat.le_max_left 1 K)) (hM.mono (Nat.le_max_right 1 K)) hl;rw[id_mul hM]at h1;exact h1.symm
end
section
structure Kp(h w K:Nat)(A:List (List Int))(l:List OpL):Prop where
 red:Red h w K A l
 hS: ∀i,WI h h K (actsW h (idL h++idL h++idL h) (l.take i))
 hA: ∀i,WI h w K (actsW h (A++idL h++idL h) (l.take i))
 hH: ∀i,WI h w K (actsW h (actsO A l++idL h++idL h) ((invL l).take i))
 chk:chkF h w A (actsO A l) (actsO (idL h) l) (actsO (idL h) (invL l))=true
 form: ∃W',ColsE h w 0 0 (A++idL h++idL h) W'/\W'.take h=actsO A l
 back:actsO (actsO A l) (invL l)=A
 isH: ∃r p,IsH h w (ent2 (actsO A l)) r p
 few:l.length<=999999999
theorem w0_bd{h w K N:Nat}{M:List (List Int)}(hM:MI h w K M)(hN: ∀q t,q<h->(ent2 M q t).natAbs<=N)(hN1:1<=N): ∀q t,q<3*h->(ent2 (M++idL h++idL h) q t).natAbs<=N:=λq t hq=>by
 by_cases h1:q<h
 ·have:ent2 (M++idL h++idL h) q t=ent2 M q t:=by unfold ent2;rw[w0_row1 hM h1]
  rw[this];exact hN q t h1
 ·by_cases h2:q<2*h
  ·obtain⟨s,rfl⟩: ∃s,q=h+s:=⟨q-h,by omega⟩
   have:ent2 (M++idL h++idL h) (h+s) t=ent2 (idL h) s t:=by unfold ent2;rw[w0_row2 hM om]
   rw[this];have:=idL_abs (h:=h) (t:=t) (show s<h by omega);omega
  ·obtain⟨s,rfl⟩: ∃s,q=2*h+s:=⟨q-2*h,by omega⟩
   have:ent2 (M++idL h++idL h) (2*h+s) t=ent2 (idL h) s t:=by unfold ent2;rw[w0_row3 hM]
   rw[this];have:=idL_abs (h:=h) (t:=t) (show s<h by omega);omega
theorem red_gen{h w N b T K:Nat}{M:List (List Int)}(hM:MI h w 1 M)(hN: ∀q t,q<h->(ent2 M q t).natAbs<=N)(hN1:1<=N)(hNb:N<2^b)(b1:btF h w 0 b<=T)(b2:cnF h w 0 b<=999999999)(hT:T+T<=32*K)(hK:K<=1000000)(hh:h<=1000000):
  ∃l,Kp h w K M l:=by
 have hSh:Sh h w M:=⟨hM.len,λr hr=>(hM.get hr).1⟩
 have hSI:Sh h h (idL h):=⟨idL_mi.len,λr hr=>(idL_mi.get hr).1⟩
 have hBI:Bd h N (idL h):=λq t hq=>Nat.le_trans (idL_abs hq) hN1;obtain⟨l,Mf,r,p,hC,hSf,hH,hP,hL⟩:=red_ex (N:=N) (b:=b) hSh (λq t hq=>hN q t hq) hN1 hNb;have hok:=hC.ok;have hMf:=hC.acts;subst hMf;have hP2:N*prd l<2^T:=Nat.lt_of_lt_of_le hP (Nat.pow_le_pow_right om b1);have hpp:=prd_pos l;have hOk: ∀o∈l,OkOp h o:=okI_ok hok (b:=T) (Nat.lt_of_le_of_lt (Nat.le_mul_of_pos_left _ hN1) hP2) om;have hTT:N*prd l*prd (invL l)<2^(T+T):=by
  rw[invL_prd];have h1:prd l<2^T:=Nat.lt_of_le_of_lt (Nat.le_mul_of_pos_left _ hN1) hP2
  calc N*prd l*prd l<2^T*2^T:=Nat.mul_lt_mul'' hP2 h1
   _=2^(T+T):=(Nat.pow_add 2 T T).symm
 obtain⟨W',r',p',K2,hE,hWS,hLin,hH',_,_⟩:=form_ex hM om;have hW0:=w0_ws hM;have hI0:=form_start hM;have hB0:=w0_bd hM hN hN1;have hWall:=actsW_all hI0.lin hW0 hok hB0;have htop:=actsW_take (work0_wi hM) hOk;rw[work0_take hM]at htop;have hent: ∀q t,q<h->ent2 (actsW h (M++idL h++idL h) l) q t=ent2 (actsO M l) q t:=λq t hq=>by rw[<-htop];unfold ent2;rw[take_get hq]
 have s1:SubL h w (ent2 M) (ent2 (actsO M l)):=λi hi=>⟨_,λj hj=>by rw[<-hent i j hi];exact hWall.1.l1 i j hi hj⟩
 have s2:SubL h w (ent2 (actsO M l)) (ent2 M):=λi hi=>⟨_,λj hj=>(hWall.1.l2 i j hi hj).trans (dot_congr λs hs=>⟨rfl,hent s j hs⟩)⟩
 have t1:SubL h w (ent2 M) (ent2 W'):=λi hi=>⟨_,λj hj=>hLin.l1 i j hi hj⟩
 have t2:SubL h w (ent2 W') (ent2 M):=λi hi=>⟨_,λj hj=>hLin.l2 i j hi hj⟩
 have hu: ∀i j,i<h->j<w->ent2 (actsO M l) i j=ent2 W' i j:=λi j hi hj=>IsH.uniq hH hH' (SubL.trans s2 t1) (SubL.trans t2 s1) hi hj;have hWl:=hWS.len;have hEq:W'.take h=actsO M l:=by
  have hl1:(W'.take h).length=h:=by rw[List.length_take];omega
  refine List.ext_getElem (by rw[hl1,hSf.len]) λi h1 h2=> ?_;have hi:i<h:=by omega
  have e1:(W'.take h)[i]=W'.getD i []:=by rw[<-take_get (M:=W') (h:=h) hi,List.getD_eq_getElem?_getD,zlb h1];rfl
  have e2:(actsO M l)[i]=(actsO M l).getD i []:=by rw[List.getD_eq_getElem?_getD,zlb h2];rfl
  rw[e1,e2];have l1:=hWS.rowM i hi;have l2:=hSf.row i hi;refine List.ext_getElem (by rw[l1,l2]) λj h3 h4=> ?_;have:=hu i j hi om;unfold ent2 at this;rw[List.getD_eq_getElem?_getD,List.getD_eq_getElem?_getD (l:=W'.getD i []),zlb h4,zlb h3]at this;exact this.symm
 have hBf:Bd h (N*prd l) (actsO M l):=acts_bd hSh hok λq t hq=>hN q t hq;have hst: ∀i,MI h w K (actsO M (l.take i)):=λi=>states_mi hSh (λq t hq=>hN q t hq) hok hP2 om i;have hsu: ∀i,MI h h K (actsO (idL h) (l.take i)):=λi=>states_mi hSI hBI hok hP2 om i;have hsv: ∀i,MI h h K (actsO (idL h) ((invL l).take i)):=λi=>states_mi hSI hBI (invL_okI hok) (b:=T) (by rw[invL_prd];exact hP2) om i;have hMfi:MI h w K (actsO M l):=by have:=hst l.length;rwa[List.take_length]at this
 have hN2:1<=N*prd l:=Nat.mul_pos hN1 hpp;have hWs: ∀{w1 N1 b1 K1:Nat} {A1:List (List Int)} {m:List OpL},MI h w1 K1 A1->(∀q t,q<h->(ent2 A1 q t).natAbs<=N1)->1<=N1->(∀o∈m,OkI h o)->N1*prd m<2^b1->b1<=32*K-> ∀i,WI h w1 K (actsW h (A1++idL h++idL h) (m.take i)):=λ{w1 N1 b1 K1 A1 m} hA1 hN1 h1 hm hp hb i=>by obtain⟨_,a2,a3⟩:=actsW_all (form_start hA1).lin (w0_ws hA1) (λo h=>hm o (List.mem_of_mem_take h)) (w0_bd hA1 hN1 h1) (l:=m.take i);exact ws_wi a2 a3 (pow_limbs (Nat.lt_of_le_of_lt (Nat.mul_le_mul_left _ (prd_take m i)) hp) hb)
 have hbk:=(acts_inv hM hOk).1;have hI1:MI h h (max 1 K) (idL h):=idL_mi.mono (Nat.le_max_left 1 K);refine⟨l,⟨hC,hst,hsu,hsv,hOk,by omega⟩,hWs idL_mi (λq t hq=>Nat.le_trans (idL_abs hq) hN1) hN1 hok hP2 om,hWs hM hN hN1 hok hP2 om,hWs hMfi hBf hN2 (invL_okI hok) hTT hT,?_,⟨W',hE,hEq⟩,hbk,⟨r,p,hH⟩,by omega⟩;unfold chkF;have hsul:MI h h K (actsO (idL h) l):=by have:=hsu l.length;rwa[List.take_length]at this
 have hsvl:MI h h K (actsO (idL h) (invL l)):=by have:=hsv (invL l).length;rwa[List.take_length]at this
 rw[isH_isF hMfi hH,acts_prod hM hOk hh,decide_eq_true rfl,Bool.true_and,Bool.true_and,acts_prod hsvl hOk hh,(acts_inv idL_mi hOk).2,decide_eq_true rfl]
end
section
open Go.RowKit
section
variable {P:Program} {B:Base}
theorem SC.capOf{cs:List Code}{Q:Exit->SS->Prop}{sl:List (Nat×V)}{hp:List (Nat×Blk)}{nx nt:Nat}{t id off len z:Nat}(hcs:cs≠ [])(hg:get sl t= .sl id off len z none)
  (k: ∀c,len<=c->c<=maxLen->SC P B cs Q ⟨(t,.sl id off len z (some c))::sl,hp,nx,nt⟩):SC P B cs Q ⟨sl,hp,nx,nt⟩:=by
 cases cs with
 |nil=>exact absurd rfl hcs
 | cons c0 cs=>
  intro S rho A a w hr;have h:=hr.slots t;rw[show get (⟨sl,hp,nx,nt⟩:SS).sl t= .sl id off len z none from hg]at h;have key: ∀c,R S rho w A (.sl id off len z (some c)) (a.eval (.tmp t))->Rel B S rho A ⟨(t,.sl id off len z (some c))::sl,hp,nx,nt⟩ a w:=λc hc=>by
   refine⟨λt'=> ?_,hr.mem,hr.alt,hr.nt,hr.defs⟩;show R S rho w A (if t'=t then _ else get sl t') _;by_cases e:t'=t;·subst e;rw[if_pos rfl];exact hc
   ·rw[if_neg e];exact hr.slots t'
  generalize hv:a.eval (.tmp t)=v at h key;cases h with
  | @sl _ _ _ _ _ c _ h1 h2 h3 h4 h5=>exact k c h2 h3 S rho A a w (key c (.sl h1 h2 h3 (λk hk=>by cases hk;rfl) h5))
  |sln h1=>exact k 0 (znb _) (znc _) S rho A a w (key 0 (.sln λk hk=>by cases hk;rfl))
theorem Le.junk{sl:List (Nat×V)}{hp:List (Nat×Blk)}{nx nt:Nat}{t id off len z c m:Nat}{ty:TypeId}{cs:List V}{fz:Bool}(hg:get sl t= .sl id off len z (some c))(hc:0<c)(hb:hget hp id=some ⟨ty,cs,fz⟩)(hm:cs.length+m<=off+c*z):
  Le B ⟨sl,hp,nx,nt⟩ ⟨sl,(id,⟨ty,cs++List.replicate m .junk,fz⟩)::hp,nx,nt⟩:=by
 intro S rho A a w hr;have h:=hr.slots t;rw[show get (⟨sl,hp,nx,nt⟩:SS).sl t= .sl id off len z (some c)from hg]at h;generalize a.eval (.tmp t)=v at h;have old:=hr.mem;have key:A id/\szAt w (rho id) (.n (off+c*z)):=by
  cases h with
  |sl h1 h2 h3 h4 h5=>have e:=h4 c rfl;subst e;exact⟨h1,h5⟩
  |sln h1=>have:=h1 c rfl;omega
 obtain⟨hA,hsz⟩:=key;obtain⟨cells,h1,h2⟩:=old.cells id _ hb hA;obtain⟨cells',e',f',h3,h4⟩:=hsz;rw[h1]at h3;cases h3;have hold: ∀i k,hget ((id,(⟨ty,cs++List.replicate m .junk,fz⟩:Blk))::hp) i=some k->(i=id/\k=⟨ty,cs++List.replicate m .junk,fz⟩)\/hget hp i=some k:=λi k hk=>by
  simp only[hget]at hk;by_cases e:i=id;·rw[if_pos e]at hk;cases hk;exact .inl ⟨e,rfl⟩
  ·rw[if_neg e]at hk;exact .inr hk
 have hany: ∀i k,hget ((id,(⟨ty,cs++List.replicate m .junk,fz⟩:Blk))::hp) i=some k-> ∃k',hget hp i=some k'/\k'.fz=k.fz:=λi k hk=>by
  rcases hold i k hk with⟨rfl,rfl⟩|h;·exact⟨_,hb,rfl⟩
  ·exact⟨k,h,rfl⟩
 refine⟨S,rho,A,hr.slots,⟨λi k hk hAi=> ?_,λi k hk hAi hf=> ?_,λi k hk hAi=> ?_,λi j k k' hk hk' hAi hAj e=> ?_,old.slt,old.sub,old.base,old.frame,old.keep⟩,hr.alt,hr.nt,hr.defs⟩
 ·rcases hold i k hk with⟨rfl,rfl⟩|h
  ·refine⟨cells,h1,λj x hx=> ?_⟩;rcases Nat.lt_or_ge j cs.length with hj|hj
   ·rw[List.getElem?_append_left hj]at hx;exact h2 j x hx
   ·have hlt:=(List.getElem?_eq_some_iff.1 hx).1;rw[zl1,List.length_replicate]at hlt;rw[List.getElem?_append_right hj,List.getElem?_replicate,if_pos om]at hx;cases hx;exact⟨cells[j]'om,Array.getElem?_eq_getElem om,.junk _⟩
  ·exact old.cells i k h hAi
 ·obtain⟨k',h5,h6⟩:=hany i k hk;exact old.fz i k' h5 hAi (h6.trans hf)
 ·obtain⟨k',h5,_⟩:=hany i k hk;exact old.own i k' h5 hAi
 ·obtain⟨k1,h5,_⟩:=hany i k hk;obtain⟨k2,h6,_⟩:=hany j k' hk';exact old.inj i j k1 k2 h5 h6 hAi hAj e
theorem SOps.out{ops:Array Oper}{Q:Exit->SS->Prop}{o:Oper}{l:List Oper}{s s':SS}{x:V}{f:Eff}(hd:dstOk o.dst s.nt=true)(hg:guardV ops s.sl o.guard=some true)
  (h: ∀S rho A a w,Rel B S rho A s a w->OutN B S rho A s.hp s.nx w ((execOp a.eval o).run P w) x f) (hs:(⟨putS s.sl o.dst x,f.heap s.nx s.hp,f.next s.nx,s.nt⟩:SS)=s') (k:SOps P B ops l Q s'):SOps P B ops (o::l) Q s:=by
 subst hs;intro S rho A a w hr;have hw:=guard_sound hr.slots hg;refine wpList_step λK hK=> ?_;rw[if_pos hw];obtain⟨v,w',rho',A',h1,h2,h3,h4,h5,h6⟩:=h S rho A a w hr;have:=hK _ _ (k S rho' A' (a.put o.dst v) w' (hr.put hd h2 h3 h4 h5 h6));unfold Oper.wp;rcases h1 with h1|⟨h1,rfl⟩<;>rw[h1]<;>exact this
theorem append_room{S:Nat->Prop}{rho:Nat->Nat}{A:Nat->Prop}{w:World}{hp:List (Nat×Blk)}{nx:Nat}(hm:Mem B S rho A hp w){t ty:TypeId}{x:V}{vs vx:Value}{id n z c by' m:Nat}{k:Blk}{e:TypeId}{zc:List Value}{ys:List V}
  (hk:mkOf P t=some (e,by',zc)) (hsrc:srcV hp x=some (ys,m)) (hyl:ys.length=m*zc.length) (hone:ys.all V.one=true) (hg:hget hp id=some k) (hz:z=zc.length) (hfz:k.fz=false) (hty:k.ty=e) (hle:n*z<=k.cs.length)
  (hc0:0<c) (hm0: ¬m=0) (hroom:n+m<=c) (hs:R S rho w A (.sl id 0 n z (some c)) vs) (hx:R S rho w A x vx):
  Out B S rho A hp nx w ((Builtin.append_ #[t,t] ty #[vs,vx]).run P w) (.sl id 0 (n+m) z (some c)) (.set id ⟨e,k.cs.take (n*z)++ys++k.cs.drop ((n+m)*z),false⟩):=by
 obtain⟨i,zv,h1,h2,h3,rfl,rfl,h6,h7,h8⟩:=mkOf_und hk;obtain⟨a,c',us,rfl,hAll,hcell,hmc,hcm,hn0⟩:=src_sound hm hsrc hx;have hul:us.length=m*i.size:=by rw[<-hAll.1,hyl,h6]
 have h1v: ∀v∈us,v.oneCell'=true:=by
  intro v hv;obtain⟨j,hj⟩:=List.mem_iff_getElem?.1 hv;have hlt:j<ys.length:=by rw[hAll.1];exact(List.getElem?_eq_some_iff.1 hj).1
  exact one_sound (List.all_eq_true.1 hone _ (List.getElem_mem hlt)) (hAll.2 j _ v (zlb hlt) hj)
 have hne:0<m->ys≠ []:=by intro hpos e';rw[e']at hyl;have:1*1<=m*zv.cells.toList.length:=Nat.mul_le_mul hpos om;simp at hyl this;omega
 have hz':z=i.size:=by omega
 cases hs with
 |sln hcap=>have:=hcap c rfl;omega
 | @sl _ _ _ _ _ c1' _ hid hl hmx hcap hz0=>
  have hce:=hcap c rfl;subst hce;obtain⟨cells,c1,c2,c3⟩:=(hm.cells id k hg hid).all;obtain⟨cells',d1,d2⟩:=hm.cells id k hg hid;rw[c1]at d1;cases d1;have hAllo:All S rho A w (k.cs.take (n*z)) (cells.toList.take (n*z)):=by have:=c3.take (n*z);rwa[List.take_take,Nat.min_eq_left hle]at this
  have hnsz:n*z<=cells.size:=by omega
  have hcsz:c1'*z<=cells.size:=by obtain⟨ce,e',f',g1,g2⟩:=hz0;rw[c1]at g1;simp only[Option.some.injEq,Obj.cells.injEq]at g1;obtain⟨rfl,_,_⟩:=g1;omega
  obtain⟨ad,rfl,hcd⟩:=hcell (hne om);have hfit:n*i.size+us.length<=cells.size:=by rw[hul,<-Nat.add_mul,<-hz'];exact Nat.le_trans (Nat.mul_le_mul_right _ hroom) hcsz
  have hr:=run_append_room (P:=P) w t ty e i h1 h2 (rho id) n c1' cells (hty▸c1) ad m c' us hul hcd h1v hroom hfit;have hnew:=hAllo.append hAll;have hsum:(n+m)*z=n*i.size+us.length:=by rw[hul,<-Nat.add_mul,hz']
  have hL:(k.cs.take (n*z)++ys).length=n*i.size+us.length:=by rw[zl1,List.length_take,hyl,hul,<-hz',Nat.min_eq_left hle,hz]
  have hL2:(cells.toList.take (n*i.size)++us).length=n*i.size+us.length:=by rw[zl1,List.length_take,Nat.min_eq_left (by rw[<-hz'];simpa using hnsz)]
  rw[hz']at hnew;obtain⟨m1,m2,m3⟩:=hm.setRow hg hid hfz c1 (cs':=k.cs.take (n*z)++ys++k.cs.drop ((n+m)*z)) (arr':=cells.toList.take (n*i.size)++us++cells.toList.drop (n*i.size+us.length)) (by simp;omega) (λj y hj=>by
   rcases Nat.lt_or_ge j (n*i.size+us.length)with hlt|hge
   ·rw[List.getElem?_append_left (by rw[hL];exact hlt),hz']at hj;have hlt2:j<(cells.toList.take (n*i.size)++us).length:=by rw[hL2];exact hlt
    refine⟨_,?_,hnew.2 j y _ hj (zlb hlt2)⟩;rw[List.getElem?_append,if_pos hlt2,<-zlb hlt2]
   ·rw[List.getElem?_append_right (by rw[hL];exact hge),hL,zl5,hsum,Nat.add_sub_cancel' hge]at hj;obtain⟨u,hu,hR⟩:=d2 j y hj;refine⟨u,?_,hR⟩;rw[List.getElem?_append_right (by rw[hL2];exact hge),hL2,zl5,Nat.add_sub_cancel' hge];simpa using hu)
  rw[hty]at m1;exact⟨_,_,rho,A,hr,m1,m3,λj hj=> .inl hj,m2,.sl hid hroom hmx (λq hq=>by cases hq;rfl) ((m3 id hid).2.2 _ hz0)⟩
theorem SO.appendRoom{ops:Array Oper}{l:List Oper}{cs:List Code}{Q:Exit->SS->Prop}{s s':SS}{t:TypeId}{p q:Operand}{d:Option Tmp}{ty:TypeId}{pos:String}{after:Array Edge}{gd:Option (Nat×Bool)}{id n z c by' m:Nat}{kb:Blk}{e:TypeId}{zc:List Value}{ys:List V}
  (hgd:guardV ops s.sl gd=some true/\dstOk d s.nt=true) (hp:evS s.sl p= .sl id 0 n z (some c)) (hk:mkOf P t=some (e,by',zc)) (hsrc:srcV s.hp (evS s.sl q)=some (ys,m)) (hg:hget s.hp id=some kb)
  (hone:ys.all V.one=true) (hc:ys.length=m*zc.length/\z=zc.length/\kb.fz=false/\kb.ty=e/\n*z<=kb.cs.length/\0<c/\ ¬m=0/\n+m<=c)
  (hs:(⟨putS s.sl d (.sl id 0 (n+m) z (some c)),hset s.hp id ⟨e,kb.cs.take (n*z)++ys++kb.cs.drop ((n+m)*z),false⟩,s.nx,s.nt⟩:SS)=s') (k:SO P B ops l cs Q s'):
  SO P B ops (⟨d,.call ⟨.builtin .append,#[p,q],#[t,t]⟩,ty,pos,after,gd⟩::l) cs Q s:=by
 refine SOps.out (x:= .sl id 0 (n+m) z (some c)) (f:= .set id ⟨e,kb.cs.take (n*z)++ys++kb.cs.drop ((n+m)*z),false⟩) hgd.2 hgd.1 (λS rho A a w hr=> ?_) hs k;obtain⟨c1,c2,c3,c4,c5,c6,c7,c8⟩:=hc;have e1:=ev_sound hr.mem.tab hr.slots p;have e2:=ev_sound hr.mem.tab hr.slots q;rw[hp]at e1;have h:=append_room (nx:=s.nx) hr.mem (ty:=ty) hk hsrc c1 hone hg c2 c3 c4 c5 c6 c7 c8 e1 e2;have h2:=Out.toN h;simpa[execOp,resolve,invoke,builtin]using h2
end
end
section
open Go.RowKit
theorem qU{G R:Prop}(r:R)(h:Hd R->G:=by intro k;(repeat(first|refine DO.nil (by kernel_rfl) ?_|(with_reducible refine qO ?_)|((first|apply SO.call|apply DO.call);(iterate 3 exact qS);(first|apply SCall.ofX|apply DCall.ofX);assumption;exact qS)|((with_reducible first|apply wa|apply wb|apply wc|apply wd);exact qS;(first|refine pT ?_|refine pF ?_|fail_if_success with_reducible refine pA ?_))|(with_reducible apply SC.ops)));exact k.h):G:=h ⟨r⟩
theorem qUf{F G R:Prop}(f:F)(r:R)(h:F->Hd R->G:=by intro f k;(repeat(first|refine DO.nil (by kernel_rfl) ?_|(with_reducible refine qO ?_)|((first|apply SO.call|apply DO.call);(iterate 3 exact qSf f);(first|apply SCall.ofX|apply DCall.ofX);assumption;exact qSf f)|((with_reducible first|apply wa|apply wb|apply wc|apply wd);exact qSf f;(first|refine pT ?_|refine pF ?_|fail_if_success with_reducible refine pA ?_))|(with_reducible apply SC.ops)));exact k.h):G:=h f ⟨r⟩
theorem orT(p:Prop):(p\/True)=True:=or_true p
section
variable {P:Program} {B:Base}
theorem SO.capOf{ops:Array Oper}{l:List Oper}{cs:List Code}{Q:Exit->SS->Prop}{sl:List (Nat×V)}{hp:List (Nat×Blk)}{nx nt:Nat}(t:Nat){id off len z:Nat}(hg:get sl t= .sl id off len z none)
  (k: ∀c,len<=c->c<=maxLen->SO P B ops l cs Q ⟨(t,.sl id off len z (some c))::sl,hp,nx,nt⟩):SO P B ops l cs Q ⟨sl,hp,nx,nt⟩:=by
 intro S rho A a w hr;have h:=hr.slots t;rw[show get (⟨sl,hp,nx,nt⟩:SS).sl t= .sl id off len z none from hg]at h;have key: ∀c,R S rho w A (.sl id off len z (some c)) (a.eval (.tmp t))->Rel B S rho A ⟨(t,.sl id off len z (some c))::sl,hp,nx,nt⟩ a w:=λc hc=>by
  refine⟨λt'=> ?_,hr.mem,hr.alt,hr.nt,hr.defs⟩;show R S rho w A (if t'=t then _ else get sl t') _;by_cases e:t'=t;·subst e;rw[if_pos rfl];exact hc
  ·rw[if_neg e];exact hr.slots t'
 generalize hv:a.eval (.tmp t)=v at h key;cases h with
 | @sl _ _ _ _ _ c _ h1 h2 h3 h4 h5=>exact k c h2 h3 S rho A a w (key c (.sl h1 h2 h3 (λk hk=>by cases hk;rfl) h5))
 |sln h1=>exact k 0 (znb _) (znc _) S rho A a w (key 0 (.sln λk hk=>by cases hk;rfl))
theorem SO.weakL{ops:Array Oper}{l:List Oper}{cs:List Code}{Q:Exit->SS->Prop}{s s':SS}(h:Le B s s')(k:SO P B ops l cs Q s'):SO P B ops l cs Q s:=λS rho A a w hr=>let⟨S',rho',A',hr'⟩:=h S rho A a w hr;k S' rho' A' a w hr'
theorem Out.seg{S:Nat->Prop}{rho:Nat->Nat}{A:Nat->Prop}{w:World}{hp:List (Nat×Blk)}{nx:Nat}(hm:Mem B S rho A hp w){id:Nat}{k:Blk}(hk:hget hp id=some k)(ha:A id)(hfz:k.fz=false){cells:Array Value}(c1:w.heap[rho id]? =some (.cells cells k.ty (0,0)))
  {ys:List V} {us:List Value} (hAll:All S rho A w ys us) {off:Nat} (hle:off+us.length<=k.cs.length) {r:Result Value} {v:Value} {x:V} (hr:r= .ok v (w.setRow (rho id) (cells.toList.take off++us++cells.toList.drop (off+us.length)).toArray))
  (hx: ∀w',R S rho w' A x v):Out B S rho A hp nx w r x (.set id ⟨k.ty,setAll k.cs off ys,false⟩):=by
 obtain⟨cells',c1',c2,c3⟩:=(hm.cells id k hk ha).all;rw[c1]at c1';simp only[Option.some.injEq,Obj.cells.injEq]at c1';obtain⟨rfl,_,_⟩:=c1';have hset:=c3.setAll hAll (off:=off) (by simp;omega);obtain⟨m1,m2,m3⟩:=hm.setRow hk ha hfz c1 (cs':=setAll k.cs off ys) (arr':=cells.toList.take off++us++cells.toList.drop (off+us.length)) (by simp;omega) (λj y hj=>by
  have hlt:j<k.cs.length:=by rw[<-setAll_length ys k.cs off];exact(List.getElem?_eq_some_iff.1 hj).1
  have hs2:j<((cells.toList.take k.cs.length).take off++us++(cells.toList.take k.cs.length).drop (off+us.length)).length:=by rw[<-hset.1,setAll_length];exact hlt
  refine⟨_,?_,hset.2 j y _ hj (zlb hs2)⟩;rw[<-zlb hs2];simp only[List.getElem?_append,List.getElem?_take,zl5,zl1,List.length_take];simp only[Array.length_toList];have e2:min off cells.size=off:=by omega
  have e3:min off (min k.cs.length cells.size)=off:=by omega
  simp only[e2,e3];by_cases hi:j<off+us.length
  ·simp only[hi,if_true];by_cases hj2:j<off;·simp only[hj2,if_true];rw[if_pos hlt]
   ·simp only[hj2,if_false]
  ·simp only[hi,if_false];rw[if_pos om])
 exact⟨_,_,rho,A,hr,m1,m3,λ_ h=> .inl h,m2,hx _⟩
theorem run_copyZ(w:World)(dT sT ty elem:TypeId)(g o dLen dCap:Nat)(a:Addr)(sLen sCap z:Nat)(cur:Array Value)(t:TypeId)(cs:List Value)
  (hu:P.underlying dT=some (.slice elem)) (hz:szOf P elem=some z) (hg:w.heap[g]? =some (.cells cur t (0,0))) (hn:cs.length=Nat.min sLen dLen*z)
  (hsrc: ∀j v,cs[j]? =some v->w.cell? (a.add j)=some v) (hfit:o+cs.length<=cur.size) (h1: ∀v∈cs,v.oneCell'=true):
  (Builtin.copy_ #[dT,sT] ty #[.slice (some ⟨g,o,none⟩) dLen dCap,.slice (some a) sLen sCap]).run P w= .ok (goInt (Nat.min sLen dLen)) (w.setRow g (cur.toList.take o++cs++cur.toList.drop (o+cs.length)).toArray):=by
 have hst:=run_storeCells_at P g o t cs 0 cur w hg (by simpa using hfit) h1;simp only[Nat.add_zero]at hst;have hf:=run_firstCells_some (P:=P) w z (Nat.min sLen dLen) a sLen sCap cs hn hsrc;simp only[Builtin.copy_,List.getElem?_toArray,List.getElem?_cons_zero,List.getElem?_cons_succ,Sem.run_bind,run_underlying hu,Builtin.lenOf,Sem.run_pure,Result.andThen_ok,run_sizeOf hz,hf,hst]
theorem copy_z{S:Nat->Prop}{rho:Nat->Nat}{A:Nat->Prop}{w:World}{hp:List (Nat×Blk)}{nx:Nat}(hm:Mem B S rho A hp w){t t' ty:TypeId}{d x:V}{vd vx:Value}{id off dlen z:Nat}{cap:Option Nat}{e:TypeId}{k:Blk}{ys:List V}{m n:Nat}
  (hd0:d= .sl id off dlen z cap) (hs:slOf P t=some (e,z)) (hsrc:srcV hp x=some (ys,m)) (hk:hget hp id=some k) (hn:min m dlen=n) (hc:n*z<=ys.length/\k.fz=false/\off+dlen*z<=k.cs.length/\(ys.take (n*z)).all V.one=true/\0<n/\0<z)
  (hd:R S rho w A d vd) (hx:R S rho w A x vx):Out B S rho A hp nx w ((Builtin.copy_ #[t,t'] ty #[vd,vx]).run P w) (.sc (.int .i64 (n:Nat))) (.set id ⟨k.ty,setAll k.cs off (ys.take (n*z)),false⟩):=by
 subst hd0;obtain⟨hyl,hfz,hle,hone,hpos,hz0⟩:=hc;obtain⟨hu,hz⟩:=slOf_und hs;obtain⟨a,c',us,rfl,hAll,hcell,hmc,hcm,hn0⟩:=src_sound hm hsrc hx;cases hd with
 |sln hcap=>omega
 | sl hid hl hmx hcap hzz=>
  rename_i c;have hp1:1*1<=n*z:=Nat.mul_le_mul hpos hz0;have hyne:ys≠ []:=by intro e';rw[e']at hyl;simp at hyl;omega
  obtain⟨ad,rfl,hcd⟩:=hcell hyne;obtain⟨cells,c1,c2,c3⟩:=(hm.cells id k hk hid).all;have hlen:(us.take (n*z)).length=n*z:=by rw[List.length_take,<-hAll.1];omega
  have h1v: ∀v∈us.take (n*z),v.oneCell'=true:=by
   intro v hv;obtain⟨j,hj⟩:=List.mem_iff_getElem?.1 hv;have hA2:=hAll.take (n*z);have hlt:j<(ys.take (n*z)).length:=by rw[hA2.1];exact(List.getElem?_eq_some_iff.1 hj).1
   exact one_sound (List.all_eq_true.1 hone _ (List.getElem_mem hlt)) (hA2.2 j _ v (zlb hlt) hj)
  have hnd:n*z<=dlen*z:=Nat.mul_le_mul_right _ om;have hr:=run_copyZ (P:=P) w t t' ty e (rho id) off dlen c ad m c' z cells k.ty (us.take (n*z)) hu hz c1 (by rw[hlen];show _=min m dlen*z;rw[hn]) (λj v hj=>by
   rw[List.getElem?_take]at hj;split at hj;·exact hcd j v hj
   ·cases hj) (by rw[hlen];omega) h1v
  rw[show Nat.min m dlen=n from hn]at hr;exact Out.seg hm hk hid hfz c1 (hAll.take (n*z)) (by rw[hlen];omega) hr (λ_=> .sc _)
theorem SO.copyZ{ops:Array Oper}{l:List Oper}{cs:List Code}{Q:Exit->SS->Prop}{s s':SS}{t t':TypeId}{p q:Operand}{d:Option Tmp}{ty:TypeId}{pos:String}{after:Array Edge}{gd:Option (Nat×Bool)}(n:Nat){id off dlen z m:Nat}{cap:Option Nat}{kb:Blk}{e:TypeId}{ys:List V}
  (hgd:guardV ops s.sl gd=some true/\dstOk d s.nt=true) (hp:evS s.sl p= .sl id off dlen z cap) (hs:slOf P t=some (e,z)) (hsrc:srcV s.hp (evS s.sl q)=some (ys,m)) (hg:hget s.hp id=some kb) (hn:min m dlen=n)
  (hc:n*z<=ys.length/\kb.fz=false/\off+dlen*z<=kb.cs.length/\(ys.take (n*z)).all V.one=true/\0<n/\0<z)
  (hs':(⟨putS s.sl d (.sc (.int .i64 (n:Nat))),hset s.hp id ⟨kb.ty,setAll kb.cs off (ys.take (n*z)),false⟩,s.nx,s.nt⟩:SS)=s') (k:SO P B ops l cs Q s'):
  SO P B ops (⟨d,.call ⟨.builtin .copy,#[p,q],#[t,t']⟩,ty,pos,after,gd⟩::l) cs Q s:=by
 refine SOps.out (x:= .sc (.int .i64 (n:Nat))) (f:= .set id ⟨kb.ty,setAll kb.cs off (ys.take (n*z)),false⟩) hgd.2 hgd.1 (λS rho A a w hr=> ?_) hs' k;have e1:=ev_sound hr.mem.tab hr.slots p;have e2:=ev_sound hr.mem.tab hr.slots q;have h:=copy_z (nx:=s.nx) hr.mem (t':=t') (ty:=ty) hp hs hsrc hg hn hc e1 e2;have h2:=Out.toN h;simpa[execOp,resolve,invoke,builtin]using h2
theorem append_growZ{S:Nat->Prop}{rho:Nat->Nat}{A:Nat->Prop}{w:World}{hp:List (Nat×Blk)}{nx:Nat}(hm:Mem B S rho A hp w)(hnx: ¬A nx){t tn ty:TypeId}{vs:Value}{kq:IntKind}{id n z c by' m:Nat}{k:Blk}{e:TypeId}{zc:List Value}
  (hk:mkOf P t=some (e,by',zc)) (hi:isIntT P tn=true) (hg:hget hp id=some k) (hz:z=zc.length) (hle:n*z<=k.cs.length) (hlim:n+m<1125899906842624) (hby:(n+m)*by'<=140737488355328)
  (hn:0<n+c) (hm0:0<m) (hgrow:c<n+m) (hs:R S rho w A (.sl id 0 n z (some c)) vs):
  Out B S rho A hp nx w ((Builtin.append_ #[t,tn] ty #[vs,.int kq (m:Nat)]).run P w) (.sl nx 0 (n+m) z none) (.new ⟨e,k.cs.take (n*z)++reps m (zc.map .sc),false⟩):=by
 obtain⟨i,zv,h1,h2,h3,rfl,rfl,h6,h7,h8⟩:=mkOf_und hk;obtain⟨kn,hkn⟩: ∃kn,P.underlying tn=some (.int kn):=by
  unfold isIntT at hi;split at hi;·exact⟨_,‹_›⟩
  ·cases hi
 have hz':z=i.size:=by omega
 have hAll:=reps_sound (S:=S) (rho:=rho) (A:=A) (w:=w) (zs:=zv.cells) om m;have hzc: ∀n,(Builtin.zeroCells zv.cells n).size=n*i.size:=by intro n;rw[size_zeroCells,h7]
 have hzm: ∀n,Builtin.zeroCells zv.cells n=madeCells zv.cells (n*zv.cells.size):=λn=>rfl;cases hs with
 |sln hcap=>have:=hcap c rfl;omega
 | @sl _ _ _ _ _ c1' _ hid hl hmx hcap hz0=>
  have hce:=hcap c rfl;subst hce;obtain⟨cells,c1,c2,c3⟩:=(hm.cells id k hg hid).all;have hAllo:All S rho A w (k.cs.take (n*z)) (cells.toList.take (n*z)):=by have:=c3.take (n*z);rwa[List.take_take,Nat.min_eq_left hle]at this
  have hnsz:n*z<=cells.size:=by omega
  have holds: ∀j v,(cells.toList.take (n*z))[j]? =some v->w.cell? ((⟨rho id,0,none⟩:Addr).add j)=some v:=by
   intro j v hv;rw[addrAdd,cell_of_row w (rho id) _ cells _ _ c1];rw[List.getElem?_take]at hv;split at hv;·simpa using hv
   ·cases hv
  have hfo:=run_firstCells_some (P:=P) w.drew i.size n ⟨rho id,0,none⟩ n c1' (cells.toList.take (n*z)) (by simp;rw[<-hz'];omega) (by simpa using holds);have hmb:m*i.bytes<=(n+m)*i.bytes:=Nat.mul_le_mul_right _ om;have hr:=Lib.run_append_grow_zeros (P:=P) w t tn ty e i zv kq kn h1 hkn h2 h3 (some ⟨rho id,0,none⟩) n c1' (cells.toList.take (n*z)) hfo m hm0 h8 om om om (growslice_fits om hby);have hge:=grownCap_ge w (n+m) c1' e;refine grown_sound hm hnx (rest:=(Builtin.zeroCells zv.cells (grownCap w (n+m) c1' e-(n+m))).toList) (hAllo.append hAll) (c:=grownCap w (n+m) c1' e) (l:=n+m) ?_ om (grownCap_le_maxLen w (n+m) c1' e (by unfold maxLen;omega)) ?_;·rw[<-hzm,hr];congr 3;apply Array.ext';simp
  ·have e2:=hzc (grownCap w (n+m) c1' e-(n+m));have e3:=hzc m;have e4:min (n*i.size) cells.size=n*i.size:=by rw[<-hz'];omega
   rw[<-hzm];simp[e2,e3,hz',e4,<-Nat.add_mul];rw[<-znf,show n+m+(grownCap w (n+m) c1' e-(n+m))=grownCap w (n+m) c1' e by omega];exact znb _
theorem SO.appendGrowZ{ops:Array Oper}{l:List Oper}{cs:List Code}{Q:Exit->SS->Prop}{s s':SS}{t tn:TypeId}{p q:Operand}{d:Option Tmp}{ty:TypeId}{pos:String}{after:Array Edge}{gd:Option (Nat×Bool)}(m:Nat){kq:IntKind}{id n z c by':Nat}{kb:Blk}{e:TypeId}{zc:List Value}
  (hgd:guardV ops s.sl gd=some true/\dstOk d s.nt=true) (hp:evS s.sl p= .sl id 0 n z (some c)) (hq:evS s.sl q= .sc (.int kq (m:Nat))) (hk:mkOf P t=some (e,by',zc)) (hi:isIntT P tn=true) (hg:hget s.hp id=some kb)
  (hc:z=zc.length/\n*z<=kb.cs.length/\n+m<1125899906842624/\(n+m)*by'<=140737488355328/\0<n+c/\0<m/\c<n+m)
  (hs:(⟨putS s.sl d (.sl s.nx 0 (n+m) z none),(s.nx,⟨e,kb.cs.take (n*z)++reps m (zc.map .sc),false⟩)::s.hp,s.nx+1,s.nt⟩:SS)=s') (k:SO P B ops l cs Q s'):
  SO P B ops (⟨d,.call ⟨.builtin .append,#[p,q],#[t,tn]⟩,ty,pos,after,gd⟩::l) cs Q s:=by
 refine SOps.out (x:= .sl s.nx 0 (n+m) z none) (f:= .new ⟨e,kb.cs.take (n*z)++reps m (zc.map .sc),false⟩) hgd.2 hgd.1 (λS rho A a w hr=> ?_) hs k;obtain⟨c1,c2,c3,c4,c5,c6,c7⟩:=hc;have e1:=ev_sound hr.mem.tab hr.slots p;have e2:=ev_sound hr.mem.tab hr.slots q;rw[hp]at e1;rw[hq]at e2;have e3:a.eval q= .int kq (m:Nat):=by generalize a.eval q=u at e2⊢;cases e2;rfl
 have h:=append_growZ (nx:=s.nx) hr.mem (λh=>by have:=hr.alt _ h;omega) (ty:=ty) (kq:=kq) hk hi hg c1 c2 c3 c4 c5 c6 c7 e1;rw[<-e3]at h;have h2:=Out.toN h;simpa[execOp,resolve,invoke,builtin]using h2
theorem append_none{S:Nat->Prop}{rho:Nat->Nat}{A:Nat->Prop}{w:World}{hp:List (Nat×Blk)}{nx:Nat}(hm:Mem B S rho A hp w){t ty:TypeId}{x:V}{vs vx:Value}{id off n z:Nat}{cap:Option Nat}{e:TypeId}
  (hk:slOf P t=some (e,z)) (hsrc:srcV hp x=some ([],0)) (hs:R S rho w A (.sl id off n z cap) vs) (hx:R S rho w A x vx):Out B S rho A hp nx w ((Builtin.append_ #[t,t] ty #[vs,vx]).run P w) (.sl id off n z cap) .none:=by
 obtain⟨hu,hz⟩:=slOf_und hk;obtain⟨a,c',us,rfl,hAll,hcell,hmc,hcm,hn0⟩:=src_sound hm hsrc hx;have hf:(Builtin.firstCells z 0 (.slice a 0 c')).run P w= .ok #[] w:=by
  cases a with
  |none=>exact run_firstCells_none (P:=P) w z 0 0 c'
  |some ad=>exact run_firstCells_some (P:=P) w z 0 ad 0 c' [] (by simp) (by simp)
 have key: ∀b c,n<=c->vs= .slice b n c->(Builtin.append_ #[t,t] ty #[vs,.slice a 0 c']).run P w= .ok vs w:=by rintro b c hle rfl;cases b<;>simp[Builtin.append_,run_underlying hu,run_sizeOf hz,Builtin.lenOf,hle,hf,storeCells]
 refine Out.val hm ?_ hs;cases hs with
 |sl h1 h2 h3 h4 h5=>exact key _ _ h2 rfl
 |sln h=>exact key _ _ (znb _) rfl
theorem SO.appendNone{ops:Array Oper}{l:List Oper}{cs:List Code}{Q:Exit->SS->Prop}{s s':SS}{t:TypeId}{p q:Operand}{d:Option Tmp}{ty:TypeId}{pos:String}{after:Array Edge}{gd:Option (Nat×Bool)}{id off n z:Nat}{cap:Option Nat}{e:TypeId}
  (hgd:guardV ops s.sl gd=some true/\dstOk d s.nt=true) (hp:evS s.sl p= .sl id off n z cap) (hk:slOf P t=some (e,z)) (hsrc:srcV s.hp (evS s.sl q)=some ([],0))
  (hs:(⟨putS s.sl d (.sl id off n z cap),s.hp,s.nx,s.nt⟩:SS)=s') (k:SO P B ops l cs Q s'):
  SO P B ops (⟨d,.call ⟨.builtin .append,#[p,q],#[t,t]⟩,ty,pos,after,gd⟩::l) cs Q s:=by
 refine SOps.out (x:= .sl id off n z cap) (f:= .none) hgd.2 hgd.1 (λS rho A a w hr=> ?_) hs k;have e1:=ev_sound hr.mem.tab hr.slots p;have e2:=ev_sound hr.mem.tab hr.slots q;rw[hp]at e1;have h:=append_none (nx:=s.nx) hr.mem (ty:=ty) hk hsrc e1 e2;have h2:=Out.toN h;simpa[execOp,resolve,invoke,builtin]using h2
theorem append_ty{w:World}{t t' ty e e':TypeId}{z:Nat}(hu:P.underlying t=some (.slice e))(hz:szOf P e=some z)(hu':P.underlying t'=some (.slice e'))(x y:Value):(Builtin.append_ #[t,t'] ty #[x,y]).run P w=(Builtin.append_ #[t,t] ty #[x,y]).run P w:=by cases x<;>simp[Builtin.append_,run_underlying hu,run_underlying hu',run_sizeOf hz]
theorem SO.appendT{ops:Array Oper}{l:List Oper}{cs:List Code}{Q:Exit->SS->Prop}{s s':SS}{t t':TypeId}{p q:Operand}{d:Option Tmp}{ty:TypeId}{pos:String}{after:Array Edge}{gd:Option (Nat×Bool)}{e e':TypeId}{z z':Nat}{y:V}{f:Eff}
  (hgd:guardV ops s.sl gd=some true/\dstOk d s.nt=true) (hk:slOf P t=some (e,z)) (hk':slOf P t'=some (e',z')) (h:exAppend P s.hp s.nx t (evS s.sl p) (evS s.sl q)=some (y,f))
  (hs:(⟨putS s.sl d y,f.heap s.nx s.hp,f.next s.nx,s.nt⟩:SS)=s') (k:SO P B ops l cs Q s'):
  SO P B ops (⟨d,.call ⟨.builtin .append,#[p,q],#[t,t']⟩,ty,pos,after,gd⟩::l) cs Q s:=by
 refine SOps.out (x:=y) (f:=f) hgd.2 hgd.1 (λS rho A a w hr=> ?_) hs k;have e1:=ev_sound hr.mem.tab hr.slots p;have e2:=ev_sound hr.mem.tab hr.slots q;have h0:=append_sound (nx:=s.nx) hr.mem (λh=>by have:=hr.alt _ h;omega) (ty:=ty) h e1 e2;rw[<-append_ty (slOf_und hk).1 (slOf_und hk).2 (slOf_und hk').1]at h0;have h2:=Out.toN h0;simpa[execOp,resolve,invoke,builtin]using h2
theorem SO.overlaps{ops:Array Oper}{l:List Oper}{cs:List Code}{Q:Exit->SS->Prop}{s s':SS}{f:Nat}{ts:Array TypeId}{p q:Operand}{d:Option Tmp}{ty:TypeId}{pos:String}{after:Array Edge}{gd:Option (Nat×Bool)}{fn:Func}{tS tR e:TypeId}{ia oa la za ib ob lb zb:Nat}{ca cb:Option Nat}{ka kb:Blk}
  (hf:P.funcs[f]? =some fn) (hname:(fn.name== "runtime.NumGoroutine")=false) (hb:fn.body.isNone=true) (hnx:Extern.findNext fn=none) (he:Extern.find fn=some (Extern.SlicesOverlaps.overlaps #[tS,tS] #[tR])) (ht:slOf P tS=some (e,zb))
  (hgd:guardV ops s.sl gd=some true/\dstOk d s.nt=true) (hp:evS s.sl p= .sl ia oa la za ca) (hq:evS s.sl q= .sl ib ob lb zb cb) (ha:hget s.hp ia=some ka) (hb':hget s.hp ib=some kb) (hne:ia≠ib) (hl:0<kb.cs.length)
  (hs:(⟨putS s.sl d (.sc (.bool false)),s.hp,s.nx,s.nt⟩:SS)=s') (k:SO P B ops l cs Q s'):
  SO P B ops (⟨d,.call ⟨.value (.func f),#[p,q],ts⟩,ty,pos,after,gd⟩::l) cs Q s:=by
 refine SOps.out (x:= .sc (.bool false)) (f:= .none) hgd.2 hgd.1 (λS rho A a w hr=> ?_) hs k;obtain⟨hu,hz⟩:=slOf_und ht;have e1:=ev_sound hr.mem.tab hr.slots p;have e2:=ev_sound hr.mem.tab hr.slots q;rw[hp]at e1;rw[hq]at e2;have key:(Extern.SlicesOverlaps.overlaps #[tS,tS] #[tR] #[a.eval p,a.eval q]).run P w= .ok (.bool false) w:=by
  generalize a.eval p=u at e1;generalize a.eval q=v at e2;have nil: ∀(x y:Option Addr) (m n:Nat) (c c':Nat),x=none\/y=none->(Extern.SlicesOverlaps.overlaps #[tS,tS] #[tR] #[.slice x m c,.slice y n c']).run P w= .ok (.bool false) w:=by
   intro x y m n c c' h;have h0:Sem.run P (α:=Value) (do
     let some t:=(#[tS,tS]:Array TypeId)[0]? |stuck "slices.overlaps: no parameter types"
     let .slice elem<-underlying t|stuck "slices.overlaps: slice type expected"
     let _size<-sizeOf elem
     pure (Value.bool false)) w= .ok (.bool false) w:=by simp[run_underlying hu,run_sizeOf hz]
   cases x with
   |none=>cases y<;>exact h0
   |some _=>cases y with
    |none=>exact h0
    |some _=>simp at h
  cases e1 with
  |sln _=>cases e2<;>exact nil _ _ _ _ _ _ (.inl rfl)
  | sl hia _ _ _ _=>
   cases e2 with
   |sln _=>exact nil _ _ _ _ _ _ (.inr rfl)
   | sl hib _ _ _ _=>
    obtain⟨c1,h1,h2⟩:=hr.mem.cells ia ka ha hia;obtain⟨c2,h3,h4⟩:=hr.mem.cells ib kb hb' hib;have hbne:rho ia≠rho ib:=λe=>hne (hr.mem.inj ia ib ka kb ha hb' hia hib e);have hsz:c2.size≠0:=by have:=arr_size ⟨c2,h3,h4⟩ h3;omega
    refine Lib.run_overlaps_apart w tS tR e hu zb (λw=>run_sizeOf hz) _ _ _ _ _ _ hbne ka.ty kb.ty c1.size c2.size ?_ ?_ hsz ?_ ?_;·simp[World.shape?,h1]
    ·simp[World.shape?,h3]
    ·simp[World.frozen?,h1]
    ·simp[World.frozen?,h1]
 have hrun:(execOp a.eval ⟨d,.call ⟨.value (.func f),#[p,q],ts⟩,ty,pos,after,gd⟩).run P w= .ok (.value (.bool false)) w:=by simp only[execOp,resolve,Act.eval,Deferred.ofValue,Sem.run_bind,Sem.run_pure,Result.andThen_ok,invoke];have:=run_callFunc_extern hf hname hb hnx he #[a.eval p,a.eval q] w;rw[key]at this;simpa using this
 exact⟨.bool false,w,rho,A,.inl hrun,hr.mem,λ_ h=>⟨h,rfl,λ_ h=>h⟩,λ_ h=> .inl h,λ_ _=>rfl,.sc _⟩
end
end
section
open Go.RowKit
theorem setAll_seg: ∀(ys cs:List V) (off:Nat),off+ys.length<=cs.length->setAll cs off ys=cs.take off++ys++cs.drop (off+ys.length)
 |[],cs,off,h=>by simp[setAll]
 | y::ys,cs,off,h=>by
  rw[List.length_cons]at h;rw[setAll,setAll_seg ys _ _ (by rw[List.length_set];omega),List.length_cons];have e1:(cs.set off y).take (off+1)=cs.take off++ [y]:=by rw[List.take_succ_eq_append_getElem (by rw[List.length_set];omega),List.getElem_set_self,List.take_set_of_le (znb _)]
  have e2:(cs.set off y).drop (off+1+ys.length)=cs.drop (off+(ys.length+1)):=by rw[List.drop_set_of_lt om,show off+1+ys.length=off+(ys.length+1) by omega]
  rw[e1,e2];simp
theorem seg_fwd{A R Y Z:List V}{a b:Nat}(ha:A.length=a)(hb:a+Y.length=b)(hr:R.length=Y.length+Z.length):setAll (setAll (A++R) a Y) b Z=A++Y++Z:=by
 subst ha;subst hb;rw[setAll_seg Y (A++R) A.length (by rw[zl1];omega)];have e1:(A++R).take A.length=A:=List.take_left;have e2:(A++R).drop (A.length+Y.length)=R.drop Y.length:=by rw[List.drop_append,List.drop_of_length_le om,zl7];congr 1;omega
 rw[e1,e2,setAll_seg Z _ _ (by simp;omega)];have e3:(A++Y++R.drop Y.length).take (A.length+Y.length)=A++Y:=by rw[<-zl1];exact List.take_left
 have e4:(A++Y++R.drop Y.length).drop (A.length+Y.length+Z.length)=[]:=List.drop_of_length_le (by simp;omega);rw[e3,e4,List.append_nil]
theorem seg_bwd{L Y D:List V}{a b:Nat}(hb:a+Y.length=b)(hl:L.length=b+D.length):setAll (setAll L b D) a Y=L.take a++Y++D:=by
 subst hb;rw[setAll_seg D _ _ om,List.drop_of_length_le (l:=L) om,List.append_nil,setAll_seg _ _ _ (by simp;omega)];have e1:(L.take (a+Y.length)++D).take a=L.take a:=by rw[List.take_append_of_le_length (by simp;omega),List.take_take,Nat.min_eq_left om]
 have e2:(L.take (a+Y.length)++D).drop (a+Y.length)=D:=by
  have:(L.take (a+Y.length)).length=a+Y.length:=by rw[List.length_take];omega
  conv=>lhs;arg 1;rw[<-this]
  exact List.drop_left
 rw[e1,e2]
theorem seg_end{L Z:List V}{b:Nat}(h:b+Z.length=L.length):setAll L b Z=L.take b++Z:=by rw[setAll_seg _ _ _ om,List.drop_of_length_le om,List.append_nil]
end
section
open Go.RowKit
def InsQ(C:List V)(i:Nat)(x:V):V->List (Nat×Blk)->Nat->Prop:=λy hp' nx'=> ∃q c,3<=q/\q<nx'/\y= .sl q 0 (C.length+1) 1 c/\hp'=[(q,⟨41,C.take i++x::C.drop i,false⟩)]
set_option maxRecDepth 8000 in
theorem rinsert_w{C:List V}{x:V}{i:Nat}(hl:C.length<=1000000)(hi:i<=C.length)(h1:C.all V.one=true)(ox:[x].all V.one=true):InlQ Tryz.prog 164 [.sl 3 0 C.length 1 none,.sc (.int .i64 (i:Nat)),.sl 4 0 1 1 (some 1)]
  [(4,⟨41,[x],false⟩),(3,⟨41,C,false⟩)] 5 (InsQ C i x):=by
 have gx:[x].length=1:=rfl;have tx:[x].take 1=[x]:=rfl;refine InlQ.run Tryz.func164 rfl Tryz.ntmps164 (by simp) qT λB hB=> ?_;refine SC.capOf (t:=0) (by simp) qS λc hc hcm=> ?_;have b0:decide ((i:Int)<=(C.length:Int))=true:=decide_eq_true om;by_cases h0:i=C.length
 ·subst h0;have gt:C.take C.length=C:=zla om;have gd:C.drop C.length=[]:=List.drop_of_length_le om;have e0:C++ [x]=C.take C.length++x::C.drop C.length:=by rw[gt,gd]
  have fin:InsQ C C.length x (.sl 5 0 (C.length+1) 1 none) [(5,⟨41,C.take C.length++x::C.drop C.length,false⟩)] 6:=⟨5,none,by omega,by omega,rfl,rfl⟩
  generalize hL:C.take C.length++x::C.drop C.length=L at*;by_cases hn:C.length=0
  all_goals
   refine qWf (Q3 @b0 @h1 @gt) ?_;refine SO.appendT qS qS qS (by simp(disch:=omega) only[go_sem,↓reduceIte,zn1,zn2,zn3,zn4,zn5,zn6,reduceCtorEq,zn7,zi1,zi2,if_pos,if_neg,Int.reduceAdd,gt,h1,gx,ox,tx]<;>rfl) (qSf @e0) ?_;refine qW ?_;refine retIQ_ret _ _ _ Tryz.results164 qS fin ?_;exact qM
 ·have b1:((i:Int)==(C.length:Int))=false:=by rw[beq_eq_false_iff_ne];omega
  have m1:(C.length:Int)+((1:Nat):Int)-(i:Int)=((C.length+1-i:Nat):Int):=by omega
  have m2:((i:Int)+((1:Nat):Int)).toNat=i+1:=by omega
  have m3:((C.length:Int)+((1:Nat):Int)).toNat=C.length+1:=by omega
  have gj:(C++ [V.junk]).length=C.length+1:=by simp
  have gdl:(C.drop i).length=C.length-i:=by rw[List.length_drop]
  have gtd:(C.drop i).take (C.length-i)=C.drop i:=zla om;have gta:(C.take i).length=i:=by rw[List.length_take];omega
  have gda:(C.drop i).all V.one=true:=List.all_eq_true.2 λy hy=>List.all_eq_true.1 h1 y (List.mem_of_mem_drop hy);have eL:C.take i++x::C.drop i=C.take i++ [x]++C.drop i:=by simp
  have eG:setAll ((C.take i++List.replicate (C.length+1-i) (V.sc (Value.slice none 0 0))).set i x) (i+1) (C.drop i)=C.take i++x::C.drop i:=by rw[eL];refine seg_fwd (Y:=[x]) gta rfl ?_;rw[gx,gdl,List.length_replicate];omega
  have eS:(((C++ [V.junk]).drop i).take (C.length+1-i)).take (C.length-i)=C.drop i:=by rw[List.take_take,Nat.min_eq_left om,List.drop_append_of_le_length om,List.take_append_of_le_length om,gtd]
  have eR:(setAll (C++ [V.junk]) (i+1) (C.drop i)).set i x=C.take i++x::C.drop i:=by have:=seg_bwd (L:=C++ [V.junk]) (Y:=[x]) (D:=C.drop i) (a:=i) rfl (by rw[gj,gdl];show _=i+1+_;omega);rw[List.take_append_of_le_length om]at this;rw[eL];exact this
  have m4:i+(C.length+1-i)=C.length+1:=by omega
  have fin2: ∀q cap nx,3<=q->q<nx->InsQ C i x (.sl q 0 (C.length+1) 1 cap) [(q,⟨41,C.take i++x::C.drop i,false⟩)] nx:=λq cap nx h0 h=>⟨q,cap,h0,h,rfl,rfl⟩
  by_cases h2:c<C.length+1
  ·have b2:decide ((c:Int)<(C.length:Int)+((1:Nat):Int))=true:=decide_eq_true om;refine qWf (Q5 @b0 @b1 @b2 @h1 @m1) ?_;refine SO.appendGrowZ (C.length+1-i) qS qS qS qS (by kernel_rfl) qS ?_ (qSf @m4) ?_;·refine⟨rfl,?_,?_,?_,?_,?_,?_⟩<;>first|omega|(show i*1<=C.length;omega)
   refine qWf (Q2 @m2 @orT) ?_;refine SO.copyZ 1 qS qS qS (qSf (Q2 @gx @tx)) qS om ?_ qS ?_
   ·refine⟨znb 1,rfl,?_,ox,by omega,by omega⟩;show i+(C.length+1-i)*1<=(C.take i++List.replicate (C.length+1-i) _).length;rw[zl1,gta,List.length_replicate];omega
   refine qUf (Q2 @m2 @orT) ?_;refine SC.drawT 8 (by simp only[zl3,zl4];rfl) (by simp only[zl9,zl2];rfl) Tab.mixed ?_ (by kernel_rfl) ?_
   ·simp(disch:=omega) only[go_sem,↓reduceIte,zn1,zn2,zn3,zn4,zn5,zn6,reduceCtorEq,zn7,zi1,zi2,if_pos,if_neg,Int.reduceAdd];intro id q hq
    repeat' (split at hq)
    all_goals first|omega|cases hq
   refine qWf (Q2 @m2 @orT) ?_;show SO _ _ _ _ _ _ _;refine SO.copyZ (C.length-i) qS qS qS qS qS om ?_ qS ?_
   ·simp only[zn8];rw[gtd];refine⟨by omega,trivial,?_,by rw[gtd];exact gda,by omega,by omega⟩;show(i+1)+(C.length+1-(i+1))<=((C.take i++List.replicate (C.length+1-i) _).set i x).length;rw[List.length_set,zl1,gta,List.length_replicate];omega
   refine qW ?_;refine retIQ_ret _ _ _ Tryz.results164 qS (fin2 5 none 6 om om) ?_;rw[gtd,gtd,eG];exact qM
  ·have b2:decide ((c:Int)<(C.length:Int)+((1:Nat):Int))=false:=decide_eq_false om;refine qWf (Q7 @b0 @b1 @b2 @h1 @m2 @m3 @orT) ?_;refine SO.overlaps (tS:=26) (tR:=4) Tryz.func167 (by kernel_rfl) (by kernel_rfl) (by kernel_rfl) (by kernel_rfl) qS qS qS qS qS qS (by decide) ?_ qS ?_;·show 0<C.length;omega
   refine qU ?_;refine SC.weak (by simp) (Le.junk (t:=0) (m:=1) qS ?_ qS ?_) ?_;·omega
   ·show C.length+1<=0+c*1;omega
   refine SC.drawT 8 (by simp only[zl3,zl4];rfl) (by simp only[zl9,zl2];rfl) Tab.mixed ?_ (by kernel_rfl) ?_
   ·simp(disch:=omega) only[go_sem,↓reduceIte,zn1,zn2,zn3,zn4,zn5,zn6,reduceCtorEq,zn7,zi1,zi2,if_pos,if_neg,Int.reduceAdd];intro id q hq
    repeat' (split at hq)
    all_goals first|omega|cases hq
   refine qWf (Q2 @m2 @orT) ?_;show SO _ _ _ _ _ _ _;refine SO.copyZ (C.length-i) qS qS qS (qSf @gj) qS om ?_ qS ?_
   ·simp only[zn8];rw[eS];refine⟨?_,trivial,?_,gda,by omega,by omega⟩;·simp only[List.length_take,List.length_drop,gj];omega
    ·show(i+1)+(C.length+1-(i+1))<=(C++_).length;rw[gj];omega
   refine qWf (Q2 @m2 @orT) ?_;refine SO.copyZ 1 qS qS qS (qSf (Q2 @gx @tx)) qS om ?_ qS ?_
   ·refine⟨znb 1,rfl,?_,ox,by omega,by omega⟩;show i+(C.length+1-i)*1<=(setAll (C++_) _ _).length;rw[setAll_length,gj];omega
   refine qWf @m2 ?_;refine retIQ_ret _ _ _ Tryz.results164 qS (fin2 3 (some c) 5 om om) ?_;rw[eS,eR];exact qM
end
section
open Go.RowKit
def delAt(C:List V)(i:Nat):List V:=C.take i++C.drop (i+1)
def DelQ(C:List V)(i:Nat):V->List (Nat×Blk)->Nat->Prop:=λy hp' nx'=> ∃q c,3<=q/\q<nx'/\y= .sl q 0 (C.length-1) 1 c/\hp'=[(q,⟨41,(delAt C i)++ [V.sc (Value.slice none 0 0)],false⟩)]
theorem rdelete_w{C:List V}{i:Nat}(hl:C.length<=1000000)(hi:i<C.length)(h1:C.all V.one=true):InlQ Tryz.prog 173 [.sl 3 0 C.length 1 none,.sc (.int .i64 (i:Nat)),.sc (.int .i64 ((i:Nat)+1))]
  [(3,⟨41,C,false⟩)] 4 (DelQ C i):=by
 have eL:delAt C i=C.take i++C.drop (i+1):=rfl;refine InlQ.run Tryz.func173 rfl Tryz.ntmps173 (by simp) qT λB hB=> ?_;refine SC.capOf (t:=0) (by simp) qS λc hc hcm=> ?_;have b1:((i:Int)==(i:Int)+1)=false:=by rw[beq_eq_false_iff_ne];omega
 have m2:((i:Int)+1).toNat=i+1:=by omega
 have gdl:(C.drop (i+1)).length=C.length-(i+1):=List.length_drop;have gtd:(C.drop (i+1)).take (C.length-(i+1))=C.drop (i+1):=zla om;have gta:(C.take i).length=i:=by rw[List.length_take];omega
 have gda:(C.drop (i+1)).all V.one=true:=List.all_eq_true.2 λy hy=>List.all_eq_true.1 h1 y (List.mem_of_mem_drop hy);have z2:C.length-(C.length-1)=1:=by omega
 by_cases hn:i+1=C.length
 ·have z0:C.length-(i+1)=0:=by omega
  have z1:C.length-i=1:=by omega
  have eE:C.take i=(delAt C i):=by rw[eL,List.drop_of_length_le om,List.append_nil]
  have sE:C.set i (V.sc ([Value.slice none 0 0].headD undef))=delAt C i++ [V.sc (Value.slice none 0 0)]:=by have:=seg_end (L:=C) (Z:=[V.sc (Value.slice none 0 0)]) (b:=i) hn;rw[eE]at this;exact this
  refine qUf (Q4 @b1 @h1 @m2 @orT) ?_;refine SC.drawT 6 (by simp only[zl3,zl4];rfl) (by simp only[zl9,zl2];rfl) Tab.mixed ?_ (by kernel_rfl) ?_
  ·simp(disch:=omega) only[go_sem,↓reduceIte,zn1,zn2,zn3,zn4,zn5,zn6,reduceCtorEq,zn7,zi1,zi2,if_pos,if_neg,Int.reduceAdd];intro id q hq
   repeat' (split at hq)
   all_goals first|omega|cases hq
  refine qWf (Q2 @m2 @orT) ?_;show SO _ _ _ _ _ _ _;refine SO.appendNone qS qS qS (qSf @z0) qS ?_;refine qWf (Q3 @m2 @orT @z1) ?_;refine qWf (Q2 @m2 @orT) ?_;refine retIQ_ret _ _ _ Tryz.results173 qS (⟨3,some c,by omega,by omega,by rw[<-hn,Nat.add_sub_cancel],rfl⟩:DelQ C i (.sl 3 0 i 1 (some c)) [(3,⟨41,(delAt C i)++ [V.sc (Value.slice none 0 0)],false⟩)] 4) ?_;rw[sE];exact qM
 ·have z1:C.length-(i+(C.length-(i+1)))=1:=by omega
  have m5:i+(C.length-(i+1))=C.length-1:=by omega
  have gL:(C.take i++C.drop (i+1)++C.drop (C.length-1)).length=C.length:=by simp only[zl1,gta,gdl,List.length_drop];omega
  have eE:((C.take i++C.drop (i+1)++C.drop (C.length-1))).take (C.length-1)=(delAt C i):=by rw[eL,List.take_append_of_le_length (by simp only[zl1,gta,gdl];omega),zla (by simp only[zl1,gta,gdl];omega)]
  have sE:(C.take i++C.drop (i+1)++C.drop (C.length-1)).set (C.length-1) (V.sc ([Value.slice none 0 0].headD undef))=delAt C i++ [V.sc (Value.slice none 0 0)]:=by have:=seg_end (L:=C.take i++C.drop (i+1)++C.drop (C.length-1)) (Z:=[V.sc (Value.slice none 0 0)]) (b:=C.length-1) (by rw[gL];show C.length-1+1=_;omega);rw[eE]at this;exact this
  refine qUf (Q4 @b1 @h1 @m2 @orT) ?_;refine SC.drawT 6 (by simp only[zl3,zl4];rfl) (by simp only[zl9,zl2];rfl) Tab.mixed ?_ (by kernel_rfl) ?_
  ·simp(disch:=omega) only[go_sem,↓reduceIte,zn1,zn2,zn3,zn4,zn5,zn6,reduceCtorEq,zn7,zi1,zi2,if_pos,if_neg,Int.reduceAdd];intro id q hq
   repeat' (split at hq)
   all_goals first|omega|cases hq
  refine qWf (Q2 @m2 @orT) ?_;show SO _ _ _ _ _ _ _;refine SO.appendRoom qS qS qS qS qS ?_ ?_ (qSf (Q2 @m5 @gtd)) ?_;·rw[gtd];exact gda
  ·rw[gtd];exact⟨by rw[gdl];exact(zn8 _).symm,rfl,rfl,rfl,by show i*1<=C.length;omega,by omega,by omega,by omega⟩
  refine qWf (Q4 @m2 @orT @z1 @z2) ?_;refine qWf (Q2 @m2 @orT) ?_;refine retIQ_ret _ _ _ Tryz.results173 qS (⟨3,some c,by omega,by omega,rfl,rfl⟩:DelQ C i (.sl 3 0 (C.length-1) 1 (some c)) [(3,⟨41,(delAt C i)++ [V.sc (Value.slice none 0 0)],false⟩)] 4) ?_;rw[sE];exact qM
end
section
open Go.RowKit
variable {P:Program} {B:Base}
theorem only_true: ∀x:V,Only (λ_=>True) x
 | .sc v=> .sc v
 | .ag cs=> .ag λx _=>only_true x
 | .tu cs=> .tu λx _=>only_true x
 | .pt _ _=> .pt trivial
 | .sl _ _ _ _ _=> .sl trivial
 | .im cs n=> .im cs n
 | .pi cs=> .pi cs
 | .fn _ a b=> .fn (λx _=>only_true x) (λx _=>only_true x)
 | .mp _ _ _ _=> .mp trivial
 | .ifc _ x=> .ifc (only_true x)
 | .junk=> .junk
theorem onlyH_true: ∀l:List (Nat×Blk),OnlyH (λ_=>True) l
 |[]=>trivial
 |_::r=>⟨λy _=>only_true y,onlyH_true r⟩
theorem restH_same(l:List (Nat×Blk)):restH l l=[]:=by
 have h: ∀i,hasId (restH l l) i=false:=λi=>by rw[hasId_rest];cases hasId l i<;>rfl
 cases e:restH l l with
 |nil=>rfl
 |cons p r=>
  have:=h p.1;rw[e]at this;simp[hasId]at this
theorem SInlQ.all{ops:Array Oper}{l:List Oper}{cs:List Code}{Q:Exit->SS->Prop}{f:Nat}{ys:List V}{d:Option Nat}{hp:List (Nat×Blk)}{nx nt:Nat}{sl:List (Nat×V)}{C:V->List (Nat×Blk)->Nat->Prop}(hI:InlQ P f ys hp nx C)
  (k: ∀x hp' nx',C x hp' nx'->SO P B ops l cs Q ⟨putS sl d x,hp',nx',nt⟩):SInlQ P B f ys d ops l cs Q ⟨sl,hp,nx,nt⟩:=by
 have hr: ∀i:Nat,True->hasId (restH hp hp) i=false:=λi _=>by rw[restH_same];rfl
 refine⟨hp,C,λ_ _ h=>h,hI,λx hp' nx' hC=>⟨(only_true x).mono hr,(onlyH_true hp').mono hr,?_⟩⟩;have:=k x hp' nx' hC;show SO P B ops l cs Q ⟨putS sl d x,hp'++restH hp hp,nx',nt⟩;rwa[restH_same,List.append_nil]
theorem NewP.ofQ{f:Nat}{args:List V}{k:Blk}{len z:Nat}(hsc: ∀y∈k.cs,∃v,y= .sc v)(hI:InlQ P f args [] 0 λy hp' nx'=> ∃q,q<nx'/\y= .sl q 0 len z none/\hp'=[(q,k)]):NewP P f args k 0 len z none:=by
 refine⟨rx_sl 0 len z none,?_⟩;intro S w vs hS hT hargs;have hm:Mem ⟨w,S,λ_=>False,λ_=>0,λ_=>False,[]⟩ S (λ_=>0) (λ_=>False) [] w:={
  cells:=λid k hk=>by cases hk
  fz:=λid k hk=>by cases hk
  own:=λid k hk=>by cases hk
  inj:=λid id' k k' hk=>by cases hk
  slt:=hS
  sub:=λ_ h=>h
  base:=λ_ h=> .inl h
  frame:=⟨rfl,rfl,rfl,znb _,λ_ _ _=>rfl,λ_ _=>rfl,λ_ _ h=>h,hS,hT⟩
  keep:=λid h=>h.elim}
 refine(hI.callsI hm (λ_ h=>h.elim) (vs:=vs) hargs).mono ?_;rintro e w' ⟨v,rfl,x,hp',nx',S',rho',A',⟨q,hq,rfl,rfl⟩,h1,h2,h3,h4,h5⟩;have hL: ∀b,¬(Base.inner S (λ_=>0) (λ_=>False) [] w).L b:=by rintro b ⟨i,kk,hi,ha,hr⟩;cases hi
 have hk:hget [(q,k)] q=some k:=by simp[hget]
 refine⟨v,rfl,⟨h3.frame.os,h3.frame.tape,h3.frame.output,h3.frame.size,λb hb=>h3.frame.block b hb (hL b)⟩,?_⟩;cases h5 with
 |sln h=>exact .inr λS rho w A id=> .sln h
 | sl h0 hl' hm' hc hz=>
  refine .inl ⟨rho' q,λ_=>False,?_,λ_ h=>h.elim,λh=>h,?_,.sl rfl hl' hm' hc hz⟩;·exact(h3.own q k hk h0).elim (λh=>h) (λh=>(hL _ h).elim)
  ·obtain⟨cells,c1,c2⟩:=h3.cells q k hk h0;refine⟨cells,c1,λi x hx=> ?_⟩;obtain⟨u,hu,hr⟩:=c2 i x hx;obtain⟨v,rfl⟩:=hsc x (List.mem_of_getElem? hx);cases hr;exact⟨_,hu,.sc _⟩
end
section
open Go.RowKit
theorem cloneV_s(r:List Int)(hw:r.length<=1000000):Spec Tryz.prog 165 [.im (ivR r) r.length] (.im (ivR r) r.length):=by
 have hl:=ivR_len r;have h1:=ivR_one r;have h2:(ivR r).take (r.length*2)=ivR r:=zla om;have e2:2*r.length=r.length*2:=Nat.mul_comm _ _;have hc:=ivR_clo r;rw[e2]at hl;refine qF Tryz.func165 Tryz.ntmps165 λB hB=> ?_;by_cases h0:r.length=0
 ·have hrn:r=[]:=List.eq_nil_of_length_eq_zero h0;subst hrn;refine qW ?_;refine SO.nilq qS qS qS qS λb=> ?_;cases b
  all_goals
   refine qW ?_;exact qE Tryz.results165
 ·refine qWf (Q3 @hl @h1 @h2) ?_;exact retQ_ret Tryz.results165 qS (qSf (Q3 @hc @hl @h2)) rfl
theorem upTo{B:Base}{sl sl':List (Nat×V)}{X A1 Z:Blk}{h o nx nt:Nat}{tm ty:TypeId}{r c:Value}{C:List V}(hB:B.Old 0)(ho:2<o)(hnx:o<nx)(hX:X.cs.all clo=true)(hZ:Z.cs.all clS=true)(hC:C.all clo=true)(h1:mapSl (λi=>if i=1 then nx else if i=3 then o else i) (λi=>i<4) sl sl'):
  Le B ⟨sl,(nx,⟨tm,[.sc r,.sc c,.sl o 0 h 1 none],false⟩)::(2,Z)::(1,A1)::(0,X):: [(o,⟨ty,C,false⟩)],nx+1,nt⟩
   ⟨sl',[(1,⟨tm,[.sc r,.sc c,.sl 3 0 h 1 none],false⟩),(2,Z),(0,X),(3,⟨ty,C,false⟩)],4,nt⟩:=by
 refine Le.map (λi=>if i=1 then nx else if i=3 then o else i) (λi=>i<4) hB (λi hi=>by omega) (λi h=>h) (λi j hi hj e=> ?_) ?_ (λi k' hk' hlt=> ?_)
 ·repeat' (split at e)
  all_goals omega
 ·exact h1
 ·have q1:hget ((nx,(⟨tm,[.sc r,.sc c,.sl o 0 h 1 none],false⟩:Blk))::(2,Z)::(1,A1)::(0,X):: [(o,⟨ty,C,false⟩)]) nx=some ⟨tm,[.sc r,.sc c,.sl o 0 h 1 none],false⟩:=by simp only[hget];rw[if_pos trivial]
  have q2:hget ((nx,(⟨tm,[.sc r,.sc c,.sl o 0 h 1 none],false⟩:Blk))::(2,Z)::(1,A1)::(0,X):: [(o,⟨ty,C,false⟩)]) 2=some Z:=by simp only[hget];rw[if_neg om,if_pos trivial]
  have q0:hget ((nx,(⟨tm,[.sc r,.sc c,.sl o 0 h 1 none],false⟩:Blk))::(2,Z)::(1,A1)::(0,X):: [(o,⟨ty,C,false⟩)]) 0=some X:=by simp only[hget];rw[if_neg om,if_neg om,if_neg om,if_pos trivial]
  have q3:hget ((nx,(⟨tm,[.sc r,.sc c,.sl o 0 h 1 none],false⟩:Blk))::(2,Z)::(1,A1)::(0,X):: [(o,⟨ty,C,false⟩)]) o=some ⟨ty,C,false⟩:=by simp only[hget];rw[if_neg om,if_neg om,if_neg om,if_neg om,if_pos trivial]
  simp only[hget]at hk';split at hk'
  ·rename_i e;subst e;cases hk';refine⟨_,q1,rfl,rfl,λj y hy=> ?_⟩
   match j,hy with
   |0,hy=>cases hy;exact⟨_,rfl,VMap.sc _⟩
   |1,hy=>cases hy;exact⟨_,rfl,VMap.sc _⟩
   |2,hy=>cases hy;exact⟨_,rfl,VMap.sl rfl om⟩
  ·split at hk'
   ·rename_i e;subst e;cases hk';exact⟨_,q2,rfl,rfl,λj y hy=>⟨y,hy,VMap.clS (List.all_eq_true.1 hZ y (List.mem_of_getElem? hy))⟩⟩
   ·split at hk'
    ·rename_i e;subst e;cases hk';exact⟨_,q0,rfl,rfl,λj y hy=>⟨y,hy,VMap.clo (List.all_eq_true.1 hX y (List.mem_of_getElem? hy))⟩⟩
    ·split at hk'
     ·rename_i e;subst e;cases hk';exact⟨_,q3,rfl,rfl,λj y hy=>⟨y,hy,VMap.clo (List.all_eq_true.1 hC y (List.mem_of_getElem? hy))⟩⟩
     ·cases hk'
def insI(M:List (List Int))(i:Nat)(v:List Int):List (List Int):=M.take i++v::M.drop i
set_option maxRecDepth 8000 in
theorem applyI_s{h w K i:Nat}{M:List (List Int)}{v:List Int}(hM:MI h w K M)(hn:h<=1000000)(hw:w<=1000000)(hi:i<=h)(hv:v.length=w):
  Spec Tryz.prog 162 [.ag [.sc (.int .i64 (i:Nat)),.im (ivR v) v.length],mat w M] (mat w (insI M i v)):=by
 have hl:=hM.len;have c1:=ucopied_q hM 3 hn hw;have c2:=cloneV_s v om;unfold mat at*;refine qF Tryz.func162 Tryz.ntmps162 λB hB=> ?_;refine qW ?_;refine SO.inlQ qS Tab.go51 qS qS (SInlQ.newR c1 ?_ ?_ ?_);·exact klc om (klc om (klc om kln))
 ·exact λx hp' nx' h=>matQ_new h
 rintro x hp' nx ⟨o,ids,hR,rfl,rfl⟩;have ho:=hR.o1;refine qU ?_;refine SC.weak (by simp) (rowsIm (pre:=[(nx,_),(2,_),(1,_),(0,_)]) (D:=[]) (by rw[rI_len];exact hR.len) (rI_rows hM) hR.nod hR.o2 (λj k hj=> ?_)) ?_
 ·have:j∉ids/\j≠o:=by
   have h1:j=nx\/j<=2:=by
    simp only[hget]at hj
    repeat' (first|(split at hj;first|omega|skip)|(cases hj;done))
   exact⟨λe=>by have:=hR.lt j e;omega,by omega⟩
  exact this
 refine SC.weak (by simp) (upTo (sl':=[(2,.pt 0 0),(4,.pt 2 0),(5,.pt 1 0)]) hB om ho.2 rfl rfl (imR_clo _ _) (mapSl_cons qS (VMap.pt rfl (by decide)) (mapSl_cons qS (VMap.pt rfl (by decide)) (mapSl_cons qS (VMap.pt rfl (by decide)) trivial)))) ?_;rw[zl7,hl];have hC1:=imR_clo w (rI M);have hC2:=imR_clo w (rI (insI M i v));have hdl:(imR w (rI (insI M i v))).length=(insI M i v).length:=imI_len _ _;have hml:(imR w (rI M)).length=h:=by rw[imI_len,hl]
 have eI:(imR w (rI M)).take i++V.im (ivR v) w::(imR w (rI M)).drop i=imR w (rI (insI M i v)):=by unfold insI imR rI;simp
 have hlI:(insI M i v).length=h+1:=by unfold insI;simp;omega
 have hI:MI h w K M:=hM;have c3:=rinsert_w (C:=imR w (rI M)) (x:=V.im (ivR v) w) (i:=i) om om (List.all_eq_true.2 λy hy=>by obtain⟨q,_,rfl⟩:=List.mem_map.1 hy;rfl) rfl;unfold InsQ at c3;rw[eI,hml]at c3;rw[hlI]at hdl⊢;rw[hv]at c2⊢;generalize imR w (rI M)=C at*;generalize imR w (rI (insI M i v))=D at*;refine SC.drawT 8 (by simp only[zl3,zl4];rfl) (by simp only[zl9,zl2];rfl) Tab.mixed ?_ (by kernel_rfl) ?_
 ·simp(disch:=omega) only[go_sem,↓reduceIte,zn1,zn2,zn3,zn4,zn5,zn6,reduceCtorEq,zn7,zi1,zi2,if_pos,if_neg,Int.reduceAdd];intro id q hq
  repeat' (split at hq)
  all_goals first|omega|cases hq
 refine qW ?_;show SO _ _ _ _ _ _ _;refine SO.weakL (s':=⟨[(19,.sl 4 0 1 1 (some 1)),(15,.sc (.int .i64 (i:Nat))),(13,.sl 3 0 h 1 none),(4,.pt 2 0),(5,.pt 1 0)],[(1,⟨28,[.sc (.int .i64 ((h:Int)+1)),.sc (.int .i64 w),.sl 3 0 h 1 none],false⟩),(2,⟨28,[.sc (.int .i64 0),.sc (.int .i64 0),.sc (.slice none 0 0)],false⟩),(4,⟨41,[V.im (ivR v) w],false⟩),(3,⟨41,C,false⟩)],5,23⟩) ?_ ?_
 ·refine qLn0r ?_;exact LLe.cl rfl hC1
 refine SO.inlQ qS (by rfl) qS qS (SInlQ.part [(1,_),(2,_)] (λi=>3<=i) c3 ?_ ?_ ?_ ?_)
 ·intro id k hk;simp only[hget]at hk
  repeat' (first|(split at hk;first|omega|skip)|(cases hk;done))
 ·intro id k hk;simp only[hget]at hk
  repeat' (first|(split at hk;first|omega|skip)|(cases hk;done))
 ·rintro x hp' nx' ⟨q,c,hq0,hq,rfl,rfl⟩;exact⟨.sl hq0,⟨λy hy=>Only.clo (List.all_eq_true.1 hC2 y hy),trivial⟩,λid k hk=>by simp only[hget]at hk;split at hk<;>first|omega|cases hk⟩
 rintro x hp' nx' ⟨q,c,hq0,hq,rfl,rfl⟩;have b1:(q=1)=False:=eq_false om;have b2:(q=2)=False:=eq_false om;have gt:D.take (h+1)=D:=zla om;refine qW ?_;exact retQ_ret Tryz.results162 qS (qSf (Q5 @b1 @b2 @gt @hC2 @hdl)) rfl
end
section
open Go.RowKit
def delI(M:List (List Int))(i:Nat):List (List Int):=M.take i++M.drop (i+1)
set_option maxRecDepth 8000 in
theorem applyD_s{h w K i:Nat}{M:List (List Int)}(hM:MI h w K M)(hn:h<=1000000)(hw:w<=1000000)(hi:i<h):
  Spec Tryz.prog 171 [.ag [.sc (.int .i64 (i:Nat))],mat w M] (mat w (delI M i)):=by
 have hl:=hM.len;have c1:=ucopied_q hM 3 hn hw;unfold mat at*;refine qF Tryz.func171 Tryz.ntmps171 λB hB=> ?_;refine qW ?_;refine SO.inlQ qS Tab.go51 qS qS (SInlQ.newR c1 ?_ ?_ ?_);·exact klc om (klc om (klc om kln))
 ·exact λx hp' nx' h=>matQ_new h
 rintro x hp' nx ⟨o,ids,hR,rfl,rfl⟩;have ho:=hR.o1;refine qW ?_;refine SO.weakL (rowsIm (pre:=[(nx,_),(2,_),(1,_),(0,_)]) (D:=[]) (by rw[rI_len];exact hR.len) (rI_rows hM) hR.nod hR.o2 (λj k hj=> ?_)) ?_
 ·have:j∉ids/\j≠o:=by
   have h1:j=nx\/j<=2:=by
    simp only[hget]at hj
    repeat' (first|(split at hj;first|omega|skip)|(cases hj;done))
   exact⟨λe=>by have:=hR.lt j e;omega,by omega⟩
  exact this
 refine SO.weakL (upTo (sl':=[(18,.sc (.int .i64 ((i:Nat)+1))),(15,.sc (.int .i64 (i:Nat))),(13,.sl 3 0 M.length 1 none),(4,.pt 2 0),(5,.pt 1 0)]) hB om ho.2 rfl rfl (imR_clo _ _) (mapSl_cons qS (VMap.sc _) (mapSl_cons qS (VMap.sc _) (mapSl_cons qS (VMap.sl rfl (by decide)) (mapSl_cons qS (VMap.pt rfl (by decide)) (mapSl_cons qS (VMap.pt rfl (by decide)) trivial)))))) ?_;rw[zl7,hl];have hC2:=imR_clo w (rI (delI M i));have hdl:(imR w (rI (delI M i))).length=(delI M i).length:=imI_len _ _;have hml:(imR w (rI M)).length=h:=by rw[imI_len,hl]
 have eI:delAt (imR w (rI M)) i=imR w (rI (delI M i)):=by unfold delAt delI imR rI;simp
 have hlI:(delI M i).length=h-1:=by unfold delI;simp;omega
 have c3:=rdelete_w (C:=imR w (rI M)) (i:=i) om om (List.all_eq_true.2 λy hy=>by obtain⟨q,_,rfl⟩:=List.mem_map.1 hy;rfl);unfold DelQ at c3;rw[eI,hml]at c3;rw[hlI]at hdl⊢;have eh:(h:Int)-1=((h-1:Nat):Int):=by omega
 rw[eh];generalize imR w (rI M)=C at*;generalize imR w (rI (delI M i))=D at*;refine SO.inlQ qS (by rfl) qS qS (SInlQ.part [(1,_),(2,_),(0,_)] (λi=>3<=i) c3 ?_ ?_ ?_ ?_)
 ·intro id k hk;simp only[hget]at hk
  repeat' (first|(split at hk;first|omega|skip)|(cases hk;done))
 ·intro id k hk;simp only[hget]at hk
  repeat' (first|(split at hk;first|omega|skip)|(cases hk;done))
 ·rintro x hp' nx' ⟨q,c,hq0,hq,rfl,rfl⟩;refine⟨.sl hq0,⟨λy hy=> ?_,trivial⟩,λid k hk=>by simp only[hget]at hk;split at hk<;>first|omega|cases hk⟩;rcases List.mem_append.1 hy with g|g;·exact Only.clo (List.all_eq_true.1 hC2 y g)
  ·rw[List.mem_singleton.1 g];exact .sc _
 rintro x hp' nx' ⟨q,c,hq0,hq,rfl,rfl⟩;have b1:(q=1)=False:=eq_false om;have b2:(q=2)=False:=eq_false om;have b0:(q=0)=False:=eq_false om;have gt:(D++ [V.sc (Value.slice none 0 0)]).take (h-1)=D:=by rw[List.take_append_of_le_length om,zla om]
 have gz:(D++ [V.sc (Value.slice none 0 0)]).length=h-1+1:=by rw[zl1,hdl];rfl
 refine qW ?_;exact retQ_ret Tryz.results171 qS (qSf (Q6 @b0 @b1 @b2 @gt @hC2 @gz)) rfl
end
section
open Go.RowKit
def widI(M:List (List Int))(v:List Int):List (List Int):=M.mapIdx λi r=>r++ [v.getD i 0]
theorem widI_len(M:List (List Int))(v:List Int):(widI M v).length=M.length:=by unfold widI;simp
theorem widI_get{M:List (List Int)}{v:List Int}{i:Nat}(h:i<M.length):(widI M v).getD i []=M.getD i []++ [v.getD i 0]:=by unfold widI;rw[List.getD_eq_getElem?_getD,List.getElem?_mapIdx,getD_get' (d:=[]) h];rfl
set_option maxRecDepth 8000 in
theorem applyC_s{h w K:Nat}{M:List (List Int)}{v:List Int}(hM:MI h w K M)(hn:h<=1000000)(hw:w<=1000000)(hv:v.length=h):
  Spec Tryz.prog 176 [.ag [.im (ivR v) v.length],mat w M] (mat (w+1) (widI M v)):=by
 have hl:=hM.len;have c1:=ucopied_q hM 3 hn hw;have gv:=ivR_len v;unfold mat at*;rw[hv]at gv⊢;refine qF Tryz.func176 Tryz.ntmps176 λB hB=> ?_;refine qWD ?_;refine SO.inlQ qS Tab.go51 qS qS (SInlQ.newR c1 ?_ ?_ ?_);·exact klc om (klc om (klc om kln))
 ·exact λx hp' nx' h=>matQ_new h
 rintro x hp' q ⟨o,ids,hR,rfl,rfl⟩;have ho:=hR.o1;rw[hl]at hR⊢;refine qWD ?_;obtain⟨nx,hnx⟩: ∃nx,nx=q+1:=⟨_,rfl⟩
 rw[<-hnx];have hidl:=hR.len;refine SC.loop (λi:Nat=>⟨[(2,.pt 0 0),(4,.pt 2 0),(5,.pt q 0),(15,.sc (.int .i64 h)),(16,.sc (.int .i64 i))],(q,⟨28,[.sc (.int .i64 h),.sc (.int .i64 ((w:Int)+1)),.sl o 0 h 1 none],false⟩)::(2,⟨28,[.sc (.int .i64 0),.sc (.int .i64 0),.sc (.slice none 0 0)],false⟩)::(0,⟨101,[.im (ivR v) h],false⟩)::(o,⟨41,(imR (w+1) (rI (widI M v))).take i++slR 2 w (ids.drop i),false⟩)::rowsH 68 (ids.drop i) (rI (M.drop i)),nx,37⟩)
  (λi=>i<=h) (λi=>h-i) 0 ?_ ?_ ?_
 ·simp only[zl4,zl7,zl2];refine Le.slots (leSl_cons qS (VLe.refl rfl) (leSl_cons qS (VLe.refl rfl) (leSl_cons qS (VLe.refl rfl) (leSl_cons qS (VLe.refl rfl) (leSl_cons qS (VLe.refl rfl) leSl_nil))))) (λid k hk=> ?_) (znb _);by_cases e:id=1
  ·subst e;simp only[hget]at hk;rw[if_neg om,if_neg om,if_neg om,if_neg om]at hk;obtain⟨j,j1,_,j3,_⟩:=rows_inv hk;have:=hR.lt _ (getD_mem' j1);omega
  ·simp only[hget]at hk⊢;rw[if_neg e];exact hk
 ·exact znc _
 ·intro i hi K2 hK2;by_cases hc:i<h
  ·have q1:=decide_eq_true (p:=(i:Int)<(h:Int)) om;have hmem:=getD_mem' (ids:=ids) (k:=i) om;have hal:=hR.lt _ hmem;have hao:ids.getD i 0≠o:=λe=>hR.o2 (e▸hmem);have hr:=hM.get hc;have gx:(M.getD i []++ [v.getD i 0])=(widI M v).getD i []:=(widI_get om).symm;have gvd:=ivR_drop (l:=v) (i:=i) om;have hD:(imR (w+1) (rI (widI M v))).length=h:=by rw[imI_len,widI_len,hl]
   have e1:ids.drop i=ids.getD i 0::ids.drop (i+1):=by rw[List.drop_eq_getElem_cons om,List.getD_eq_getElem?_getD,zlb om];rfl
   have e2:M.drop i=M.getD i []::M.drop (i+1):=by rw[List.drop_eq_getElem_cons om,List.getD_eq_getElem?_getD,zlb om];rfl
   have e3:slR 2 w (ids.drop i)= .sl (ids.getD i 0) 0 w 2 none::slR 2 w (ids.drop (i+1)):=by rw[e1];rfl
   have e4:rowsH 68 (ids.drop i) (rI (M.drop i))=(ids.getD i 0,⟨68,ivR (M.getD i []),false⟩)::rowsH 68 (ids.drop (i+1)) (rI (M.drop (i+1))):=by rw[e1,e2];rfl
   have glr:=ivR_len (M.getD i []);rw[hr.1]at glr;have h2:(ivR (M.getD i [])).take (w*2)=ivR (M.getD i []):=zla om;have h1:=ivR_one (M.getD i []);have hkl:=klB_rows (ty:=68) (ids:=ids.drop (i+1)) (rs:=rI (M.drop (i+1))) (n:=nx) (λj hj=>by have:=hR.lt j (List.mem_of_mem_drop hj);omega);have gC:((imR (w+1) (rI (widI M v))).take i).length=i:=by rw[List.length_take,hD];omega
   have gL:((imR (w+1) (rI (widI M v))).take i++slR 2 w (ids.drop i)).length=h:=by rw[zl1,gC,slR_len,List.length_drop,hidl];omega
   have gE:((imR (w+1) (rI (widI M v))).take i++slR 2 w (ids.drop i))[i]? =some (.sl (ids.getD i 0) 0 w 2 none):=by rw[List.getElem?_append_right om,gC,Nat.sub_self,e3];rfl
   have gN:=imI_get (w:=w+1) (M:=widI M v) (i:=i) (by rw[widI_len];omega);have eF: ∀y,(imR (w+1) (rI (widI M v)))[i]? =some y->((imR (w+1) (rI (widI M v))).take i++slR 2 w (ids.drop i)).set i y=(imR (w+1) (rI (widI M v))).take (i+1)++slR 2 w (ids.drop (i+1)):=λy hy=>by rw[List.set_append_right _ _ om,gC,Nat.sub_self,e3,List.set_cons_zero,List.take_add_one,hy];simp
   have eF:=eF _ gN;rw[<-gx]at eF;have hdl:hdel (rowsH 68 (ids.drop (i+1)) (rI (M.drop (i+1)))) (ids.getD i 0)=rowsH 68 (ids.drop (i+1)) (rI (M.drop (i+1))):=hdel_no λk hk=>by obtain⟨j,j1,_,j3,_⟩:=rows_inv hk;have hn:=hR.nod;rw[<-List.take_append_drop i ids,e1,List.nodup_append]at hn;exact(List.nodup_cons.1 hn.2.1).1 (j3▸getD_mem' j1)
   have hHq: ∀id k,hget (rowsH 68 (ids.drop (i+1)) (rI (M.drop (i+1)))) id=some k->3<=id/\id<nx/\id≠o/\id≠q:=λid k hk=>by obtain⟨j,j1,_,j3,_⟩:=rows_inv hk;have hm:=List.mem_of_mem_drop (getD_mem' (ids:=ids.drop (i+1)) j1);rw[j3]at hm;have:=hR.lt _ hm;exact⟨by omega,by omega,λe=>hR.o2 (e▸hm),by omega⟩
   rw[e4];generalize hX:(imR (w+1) (rI (widI M v))).take i++slR 2 w (ids.drop i)=C at*;generalize(ivR v).drop ((i+1)*2)=D at*;generalize ivR v=VV at*;generalize hr2:M.getD i []=r at*;generalize ha:ids.getD i 0=a at*;generalize hH:rowsH 68 (ids.drop (i+1)) (rI (M.drop (i+1)))=H at hkl hdl hHq⊢;generalize v.getD i 0=z at*;unfold ivC sv at gvd;simp only[zl8,zl7]at gvd;have g2:i*2<VV.length:=by omega
   have n1:(a=q)=False:=eq_false om;have n2:(a=2)=False:=eq_false om;have n3:(a=0)=False:=eq_false om;have n4:(a=o)=False:=eq_false hao;have n5:(o=q)=False:=eq_false om;have n6:(o=2)=False:=eq_false om;have n7:(o=0)=False:=eq_false om;refine qWDf @q1 ?_;refine SC.drawK Tab.mixed ?_ ?_;·exact klc (show q<nx by omega) (klc (show 2<nx by omega) (klc (show 0<nx by omega) (klc (show o<nx by omega) (klc (show a<nx by omega) λid k hk=>(hHq id k hk).2.1))))
   repeat(refine DO.run (qSf (Q14 @gvd @g2 @gE @gL @h1 @h2 @glr @n1 @n2 @n3 @n4 @n5 @n6 @n7)) ?_)
   obtain⟨f,hf⟩: ∃f:Nat->Nat,f o=3/\f a=4/\f q=5/\f 0=6/\f nx=1/\f (nx+1)=2:=⟨λj=>if j=o then 3 else if j=a then 4 else if j=q then 5 else if j=0 then 6 else if j=nx then 1 else 2,by simp,by simp[hao],by simp only[];rw[if_neg om,if_neg om,if_pos trivial],by simp only[];rw[if_neg om,if_neg om,if_neg om,if_pos trivial],by simp only[];rw[if_neg om,if_neg om,if_neg om,if_neg om,if_pos trivial],by simp only[];rw[if_neg om,if_neg om,if_neg om,if_neg om,if_neg om]⟩
   obtain⟨f1,f2,f3,f4,f5,f6⟩:=hf;refine DO.nilF f (by simp(disch:=omega) only[go_sem,↓reduceIte,zn1,zn2,zn3,zn4,zn5,zn6,reduceCtorEq,zn7,zi1,zi2,if_pos,if_neg,Int.reduceAdd,zld,zle,Option.map_some,Option.map_none,f1,f2,f3,f4,f5,f6]<;>rfl) (by kernel_rfl) ?_;refine qWD ?_;rw[hdl];refine hK2 _ (i+1) ?_ om om;rw[<-eF];have hfz:frz 8 ((nx+1,(⟨68,ivR r++ [V.sc (Value.bool (decide (z<0))),V.im (lv (limbsOf z.natAbs)) (limbsOf z.natAbs).length],false⟩:Blk))::(nx,⟨68,[V.sc (Value.bool (decide (z<0))),V.im (lv (limbsOf z.natAbs)) (limbsOf z.natAbs).length],false⟩)::(q,⟨28,[.sc (.int .i64 h),.sc (.int .i64 ((w:Int)+1)),.sl o 0 h 1 none],false⟩)::(2,⟨28,[.sc (.int .i64 0),.sc (.int .i64 0),.sc (.slice none 0 0)],false⟩)::(0,⟨101,[.im VV h],false⟩)::(o,⟨41,C.set i (V.sl (nx+1) 0 (w+1) 2 none),false⟩)::H) (V.sl (nx+1) 0 (w+1) 2 none)=some (V.im (ivR (r++ [z])) (w+1),[nx+1]):=by
    have es:ivR r++ [V.sc (Value.bool (decide (z<0))),V.im (lv (limbsOf z.natAbs)) (limbsOf z.natAbs).length]=ivR (r++ [z]):=ivR_snoc r z;have hg: ∀Y:Blk,∀R:List (Nat×Blk),hget ((nx+1,Y)::R) (nx+1)=some Y:=λY R=>by simp only[hget];rw[if_pos trivial]
    have hlr:=ivR_len (r++ [z]);rw[zl1,hr.1]at hlr;have hlr2:(ivR (r++ [z])).length=(w+1)*2:=by rw[hlr];show 2*(w+1)=_;omega
    rw[es,frz_sl,hg,srcG_some,if_pos om,zl2,zla om,fzQ_some,frzL_eq,if_pos (ivR_clo _)];rfl
   refine Le.trans (frzCell (hp':=(o,⟨41,C.set i (V.im (ivR (r++ [z])) (w+1)),false⟩)::(q,⟨28,[.sc (.int .i64 h),.sc (.int .i64 ((w:Int)+1)),.sl o 0 h 1 none],false⟩)::(2,⟨28,[.sc (.int .i64 0),.sc (.int .i64 0),.sc (.slice none 0 0)],false⟩)::(0,⟨101,[.im VV h],false⟩)::H) o i (by simp only[hget];rw[if_neg om,if_neg om,if_neg om,if_neg om,if_neg om,if_pos trivial]) (by show(C.set i _)[i]? =_;rw[List.getElem?_set_self om]) hfz (by simp;omega) (λid b hb=> ?_)) ?_
   ·simp only[hget]at hb⊢;split at hb
    ·rename_i e;cases hb;exact .inl ⟨e,by rw[List.set_set]⟩
    ·rename_i eo;have hin:id<nx/\hget ((q,(⟨28,[.sc (.int .i64 h),.sc (.int .i64 ((w:Int)+1)),.sl o 0 h 1 none],false⟩:Blk))::(2,⟨28,[.sc (.int .i64 0),.sc (.int .i64 0),.sc (.slice none 0 0)],false⟩)::(0,⟨101,[.im VV h],false⟩)::(o,⟨41,C.set i (V.sl (nx+1) 0 (w+1) 2 none),false⟩)::H) id=some b:=by
      simp only[hget];split at hb;·rename_i e;exact⟨by omega,by rw[if_pos e];exact hb⟩
      ·rename_i e;rw[if_neg e];split at hb;·rename_i e;exact⟨by omega,by rw[if_pos e];exact hb⟩
       ·rename_i e;rw[if_neg e];split at hb;·rename_i e;exact⟨by omega,by rw[if_pos e];exact hb⟩
        ·rename_i e;rw[if_neg e,if_neg eo];exact⟨(hHq id b hb).2.1,hb⟩
     refine .inr ⟨eo,by simp;omega,?_⟩;rw[if_neg om,if_neg om];exact hin.2
   ·rw [<-hH];refine Le.rowsG [(q,_),(2,_),(0,_)] ⟨0,hB,znc _⟩ (λj k hj=> ?_) ?_ (λk hk1 hk2=> ?_) ?_
    ·simp only[hget]at hj⊢;split at hj
     ·rename_i e;cases hj;subst e;refine⟨?_,by rw[if_neg om,if_pos rfl]⟩;simp only[List.mem_cons,List.not_mem_nil,or_false];rintro y (rfl|rfl|rfl);·exact VMap.sc _
      ·exact VMap.sc _
      ·exact VMap.sl rfl om
     ·rename_i e;split at hj
      ·rename_i e2;cases hj;subst e2;refine⟨λy hy=> ?_,by rw[if_neg om,if_neg e,if_pos rfl]⟩;simp only[List.mem_cons,List.not_mem_nil,or_false]at hy;rcases hy with rfl|rfl|rfl<;>exact VMap.sc _
      ·rename_i e2;split at hj
       ·rename_i e3;cases hj;subst e3;refine⟨λy hy=> ?_,by rw[if_neg om,if_neg e,if_neg e2,if_pos rfl]⟩;rw[List.mem_singleton.1 hy];exact VMap.clo rfl
       ·cases hj
    ·refine⟨_,by simp only[hget];rw[if_pos trivial],λj y hy=>⟨y,hy,?_⟩⟩;rw[eF]at hy;have hy:=List.mem_of_getElem? hy;rcases List.mem_append.1 hy with g|g;·exact VMap.clo (List.all_eq_true.1 (imR_clo (w+1) (rI (widI M v))) _ (List.mem_of_mem_take g))
     ·obtain⟨id,hid,rfl⟩:=List.mem_map.1 g;exact VMap.sl rfl (by have:=hR.lt id (List.mem_of_mem_drop hid);omega)
    ·have hgr:=rows_get (ty:=68) (ids:=ids.drop (i+1)) (rs:=rI (M.drop (i+1))) (k:=k) (hR.nod.sublist (List.drop_sublist _ _)) hk1 (by rw[rI_len,List.length_drop,List.length_drop,hidl,hl]);have h3:=hHq _ _ (by rw[<-hH];exact hgr);refine⟨_,by simp only[hget];rw[if_neg h3.2.2.1,if_neg h3.2.2.2,if_neg om,if_neg om];exact hgr,λj y hy=>⟨y,hy,VMap.clo (List.all_eq_true.1 (rI_clo _ _ (getD_mem (d:=[]) hk2)) y (List.mem_of_getElem? hy))⟩⟩
    ·exact mapSl_cons qS (VMap.pt rfl om) (mapSl_cons qS (VMap.pt rfl om) (mapSl_cons qS (VMap.pt rfl om) (mapSl_cons qS (VMap.sc _) (mapSl_cons qS (VMap.int om) trivial))))
  ·have q1:=decide_eq_false (p:=(i:Int)<(h:Int)) om;have hin:i=h:=by omega
   subst hin;have hD:=imI_len (w+1) (widI M v);rw[widI_len,hl]at hD⊢;have e1:(imR (w+1) (rI (widI M v))).take i=imR (w+1) (rI (widI M v)):=zla om;have e2:ids.drop i=[]:=List.drop_of_length_le om;have hC2:=imR_clo (w+1) (rI (widI M v));have b1:(o=q)=False:=eq_false om;have b2:(o=2)=False:=eq_false om;have b3:(o=0)=False:=eq_false om;have b4:(q=2)=False:=eq_false om;have b5:(2=q)=False:=eq_false om;have e3:slR 2 w []=[]:=rfl;have e4:rowsH 68 [] (rI (M.drop i))=[]:=by cases rI (M.drop i)<;>rfl
   rw[e1,e2,e3,e4,List.append_nil];generalize imR (w+1) (rI (widI M v))=D at*;have e5:D.take i=D:=zla om;refine qWDf (Q6 @q1 @b1 @b2 @b3 @b4 @b5) ?_;exact retQ_ret Tryz.results176 qS (qSf (Q8 @b1 @b2 @b3 @b4 @b5 @e5 @hC2 @hD)) rfl
end
section
open Go.RowKit
section
variable {P:Program} {B:Base}
def methOf(P:Program)(t:TypeId)(name:String):Option Nat:=
 match P.underlying t with
 |some (.struct _)=>(P.info? t).bind λi=>(i.methods.find? (·.name==name)).bind λm=>if m.path= #[]then(m.func.bind λp=>if p.2 then none else some p.1)else none
 |_=>none
def isStruct(P:Program)(t:TypeId):Bool:=
 match P.underlying t with
 |some (.struct _)=>true
 |_=>false
theorem run_method{t:TypeId}{name:String}{f n:Nat}(h:methOf P t name=some f)(v:Value)(w:World):(method (n+1) t v name).run P w= .ok (f,v) w:=by
 unfold methOf at h;split at h
 ·rename_i fs hu;cases hi:P.info? t with
  |none=>rw[hi]at h;cases h
  | some i=>
   rw[hi]at h;simp only[Option.bind_some]at h;cases hm:i.methods.find? (·.name==name)with
   |none=>rw[hm]at h;cases h
   | some m=>
    rw[hm]at h;simp only[Option.bind_some]at h;split at h
    ·rename_i hp;cases hf:m.func with
     |none=>rw[hf]at h;cases h
     | some q=>
      obtain⟨g,b⟩:=q;rw[hf]at h;simp only[Option.bind_some]at h;cases b with
      |true=>cases h
      |false=>
       cases h;simp[method,typeInfo,hi,hm,hp,hf,follow,receiverAt,run_underlying hu,Place.get]
    ·cases h
 ·cases h
theorem SO.mkIfc{ops:Array Oper}{l:List Oper}{cs:List Code}{Q:Exit->SS->Prop}{s s':SS}{t:TypeId}{p:Operand}{d:Option Tmp}{ty:TypeId}{pos:String}{after:Array Edge}{gd:Option (Nat×Bool)}
  (hgd:guardV ops s.sl gd=some true/\dstOk d s.nt=true) (ht:isStruct P t=true) (hs:(⟨putS s.sl d (.ifc t (evS s.sl p)),s.hp,s.nx,s.nt⟩:SS)=s') (k:SO P B ops l cs Q s'):
  SO P B ops (⟨d,.makeInterface t p,ty,pos,after,gd⟩::l) cs Q s:=by
 subst hs;intro S rho A a w hr;have hw:=guard_sound (o:=(⟨d,.makeInterface t p,ty,pos,after,gd⟩:Oper)) hr.slots hgd.1;refine wpList_step λK hK=> ?_;rw[if_pos hw];have e1:=ev_sound hr.mem.tab hr.slots p;have hu: ∃fs,P.underlying t=some (.struct fs):=by
  unfold isStruct at ht;split at ht;·exact⟨_,‹_›⟩
  ·cases ht
 obtain⟨fs,hu⟩:=hu;have hrun:(execOp a.eval ⟨d,.makeInterface t p,ty,pos,after,gd⟩).run P w= .ok (.value (.iface t (a.eval p))) w:=by simp[execOp,Instr.makeInterface,run_underlying hu]
 unfold Oper.wp;rw[hrun];exact hK _ _ (k S rho A _ _ (hr.put (f:= .none) hgd.2 hr.mem (λ_ h=>⟨h,rfl,λ_ h=>h⟩) (λ_ h=> .inl h) (λ_ _=>rfl) (.ifc e1)))
theorem SO.invoke{ops:Array Oper}{l:List Oper}{cs:List Code}{Q:Exit->SS->Prop}{s:SS}{r:Operand}{name:String}{t:TypeId}{x:V}{f:Nat}{ys:List V}{ids:List Nat}{args:List Operand}{ts:Array TypeId}{d:Option Tmp}{ty:TypeId}{pos:String}{after:Array Edge}{gd:Option (Nat×Bool)}
  (hx:evS s.sl r= .ifc t x) (hm:methOf P t name=some f) (hgo:isGo P f=true) (hf:frzAll (frz 8 s.hp) (x::args.map (evS s.sl))=some (ys,ids)) (hg:guardV ops s.sl gd=some true/\dstOk d s.nt=true) (k:SCallV P B f ys ids d ops l cs Q s):
  SO P B ops (⟨d,.call ⟨.invoke r name,args.toArray,ts⟩,ty,pos,after,gd⟩::l) cs Q s:=by
 obtain⟨res,hs,k⟩:=k;intro S rho A a w hr;have hw:=guard_sound (o:=(⟨d,.call ⟨.invoke r name,args.toArray,ts⟩,ty,pos,after,gd⟩:Oper)) hr.slots hg.1;refine wpList_step λK hK=> ?_;rw[if_pos hw];have e1:=ev_sound hr.mem.tab hr.slots r;rw[hx]at e1;obtain⟨v,hv,hR⟩: ∃v,a.eval r= .iface t v/\R S rho w A x v:=by generalize a.eval r=u at e1⊢;cases e1 with|ifc h=>exact⟨_,rfl,h⟩
 have hall0:=All.ev hr.mem.tab hr.slots args;have hall:All S rho A w (x::args.map (evS s.sl)) (v::(args.map a.eval)):=⟨by have:=hall0.1;simp,λi y u hy hu=>by
  cases i with
  |zero=>simp at hy hu;subst hy;subst hu;exact hR
  |succ i=>simp only[List.getElem?_cons_succ]at hy hu;exact hall0.2 i y u hy hu⟩
 obtain⟨h1,h2⟩:=frzAll_sound (frz_sound hr.mem 8) hf hall;have hmf:=hr.mem.freeze ids h2;have hrun:(execOp a.eval ⟨d,.call ⟨.invoke r name,args.toArray,ts⟩,ty,pos,after,gd⟩).run P w= .ok (.enter f (v::(args.map a.eval)).toArray) w:=by have hd0:Made.depth=Made.depth-1+1:=rfl;have hmr:=λn=>run_method (n:=n) hm v w;have hcf:=callFunc_go hgo (v::(args.map a.eval)).toArray w;simp only[execOp,resolve,Sem.run_bind,Sem.run_pure,Result.andThen_ok,Go.invoke,hv,callMethod];simp;rw[show P.types.size+Made.depth=(P.types.size+(Made.depth-1))+1 from by rw[hd0];rfl,hmr];have ht:(args.map a.eval).take args.length=args.map a.eval:=zla (by simp);simpa[ht]using hcf
 unfold Oper.wp;rw[hrun];refine(hs (addS S rho A ids) w (v::(args.map a.eval)).toArray hmf.slt hmf.tab ⟨by have:=h1.1;simpa using this,λi y u hy hu=>(h1.2 i y u hy (by simpa using hu)).rho⟩).mono ?_;rintro e w' ⟨v,rfl,g,hx⟩;refine hK _ _ ?_;have hA: ∀id,A id->A id/\rho id=rho id/\ ∀n,szAt w (rho id) n->szAt w' (rho id) n:=λid h=>⟨h,rfl,λ_=>g.szAt⟩
 have hm':=hmf.came g;exact k (λb=>addS S rho A ids b\/(w.heap.size<=b/\b<w'.heap.size)) rho A _ _ ⟨slots_put hr.slots (by rw[hr.nt];exact hg.2) (λb hb=>⟨.inl (.inl hb),g.block b (hr.mem.slt b hb)⟩) hA hx.rho.open,hm',hr.alt,by rw[put_size];exact hr.nt,by rw[put_defers];exact hr.defs⟩
end
end
section
open Go.RowKit
def keptZ:V:=kept 0 0 [] [] [] [] []
theorem perform_s{h w K t f1 f2 h1 w1:Nat}{A H U C B1 H1 U1 C1:List (List Int)}{l l1:List OpL}{x:V}{e:Int}(hm1:methOf Tryz.prog t "torsion/update.fits" =some f1)(hg1:isGo Tryz.prog f1=true)(hm2:methOf Tryz.prog t "torsion/update.apply" =some f2)(hg2:isGo Tryz.prog f2=true)
  (hx: ∀hp,frz 8 hp x=some (x,[])) (hA:MI h w K A) (hB:e=0->B1.length=h1) (hK:K<=100000000000) (hn:h<=1000000) (hw:w<=1000000) (c2:Spec Tryz.prog f1 [x,mat w A] (.sc (.int .i64 e))) (c3:e=0->Spec Tryz.prog f2 [x,mat w A] (mat w1 B1)) (c4:e=0->Spec Tryz.prog 14 [mat w1 B1] (kept h1 w1 B1 H1 U1 C1 l1)):
  Spec Tryz.prog 58 [kept h w A H U C l,.ifc t x] (.tu [if e=0 then kept h1 w1 B1 H1 U1 C1 l1 else keptZ,.sc (.int .i64 e)]):=by
 have hml:=hA.len;have c1:=imValid_s hA hK hn hw;unfold keptZ kept mat at*;rw[hml]at c1 c2 c3;refine qF Tryz.func58 Tryz.ntmps58 λB hB=> ?_;refine qW ?_;refine SO.invoke (t:=t) (x:=x) qS hm1 hg1 (by simp(disch:=omega) only[go_sem,↓reduceIte,zn1,zn2,zn3,zn4,zn5,zn6,reduceCtorEq,zn7,zi1,zi2,if_pos,if_neg,Int.reduceAdd,hx]<;>rfl) qS (SCallV.of c2 qS ?_);by_cases h0:e=0
 ·subst h0;have c5:=c3 rfl;have c6:=c4 rfl;rw[hB rfl]at c5 c6;rw[if_pos rfl];refine qW ?_;refine SO.invoke (t:=t) (x:=x) qS hm2 hg2 (by simp(disch:=omega) only[go_sem,↓reduceIte,zn1,zn2,zn3,zn4,zn5,zn6,reduceCtorEq,zn7,zi1,zi2,if_pos,if_neg,Int.reduceAdd,hx]<;>rfl) qS (SCallV.of c5 qS ?_);refine qW ?_;exact qE Tryz.results58
 ·have q:(e !=0)=true:=by rw[bne_iff_ne];exact h0
  rw[if_neg h0];refine qWf @q ?_;exact qE Tryz.results58
structure Redd(h w K:Nat)(A:List (List Int))(l:List OpL):Prop where
 red:Red h w K A l
 hK:K<=50000000000
 hn:h<=1000000
 hw:w<=1000000
theorem Redd.start{h w K:Nat}{A:List (List Int)}{l:List OpL}(r:Redd h w K A l):Spec Tryz.prog 14 [mat w A] (keptS h w A l):=start_s r.hK r.hn r.hw r.red
section
variable {h w K K1:Nat} {A H U C:List (List Int)} {l l1:List OpL}
theorem uinsert_s(hA:MI h w K A)(hK:K<=100000000000)(hn:h<=1000000)(hw:w<=1000000)(i:Int)(v:List Int)(hv:v.length<=1000000){e:Int}(he:e=if i<0\/(h:Int)<i then 1 else if v.length=w then 0 else 50)(hr:e=0->Redd (h+1) w K1 (insI A i.toNat v) l1):
  Spec Tryz.prog 19 [kept h w A H U C l,.sc (.int .i64 i),.im (ivR v) v.length] (.tu [if e=0 then keptS (h+1) w (insI A i.toNat v) l1 else keptZ,.sc (.int .i64 e)]):=by
 have c1:=fitI_s hA hn hw i v hv;rw[<-he]at c1;have hi:e=0->0<=i/\i<=h/\v.length=w:=λh0=>by
  rw[h0]at he;by_cases a:i<0\/(h:Int)<i;·rw[if_pos a]at he;omega
  ·rw[if_neg a]at he;by_cases b:v.length=w;·exact⟨by omega,by omega,b⟩
   ·rw[if_neg b]at he;omega
 have c2:=perform_s (t:=95) (x:= .ag [.sc (.int .i64 i),.im (ivR v) v.length]) (H:=H) (U:=U) (C:=C) (l:=l) (by kernel_rfl) Tab.go163 (by kernel_rfl) Tab.go162 (λhp=>by simp(disch:=omega) only[go_sem,↓reduceIte,zn1,zn2,zn3,zn4,zn5,zn6,reduceCtorEq,zn7,zi1,zi2,if_pos,if_neg,Int.reduceAdd]<;>rfl) hA (h1:=h+1) (B1:=insI A i.toNat v) (λh0=>by have:=hi h0;have:=hA.len;unfold insI;simp;omega) hK hn hw c1 (λh0=>by obtain⟨a,b,c⟩:=hi h0;have:=applyI_s (i:=i.toNat) hA hn hw om c;rwa[Int.toNat_of_nonneg a]at this) (λh0=>(hr h0).start)
 clear c1 hr he hi;unfold keptS keptZ kept at*;by_cases h0:e=0
 all_goals
  first|rw[if_pos h0]at c2⊢ |rw[if_neg h0]at c2⊢
  clear h0;refine qF Tryz.func19 Tryz.ntmps19 λB hB=> ?_;refine qW ?_;refine SO.mkIfc qS (by kernel_rfl) qS ?_;refine qW ?_;exact qE Tryz.results19
end
end
section
open Go.RowKit
section
variable {h w K K1:Nat} {A H U C:List (List Int)} {l l1:List OpL}
theorem udelete_s(hA:MI h w K A)(hK:K<=100000000000)(hn:h<=1000000)(hw:w<=1000000)(i:Int){e:Int}(he:e=if i<0\/(h:Int)<=i then 1 else 0)(hr:e=0->Redd (h-1) (w) K1 (delI A i.toNat) l1):
  Spec Tryz.prog 22 [kept h w A H U C l,.sc (.int .i64 i)] (.tu [if e=0 then keptS (h-1) (w) (delI A i.toNat) l1 else keptZ,.sc (.int .i64 e)]):=by
 have c1:=fitD_s hA hn i;rw[<-he]at c1;have hi:e=0->0<=i/\i<h:=λh0=>by
  rw[h0]at he;by_cases a:i<0\/(h:Int)<=i;·rw[if_pos a]at he;omega
  ·omega
 have c2:=perform_s (t:=97) (x:= .ag [.sc (.int .i64 i)]) (H:=H) (U:=U) (C:=C) (l:=l) (by kernel_rfl) Tab.go172 (by kernel_rfl) Tab.go171 (λhp=>by simp(disch:=omega) only[go_sem,↓reduceIte,zn1,zn2,zn3,zn4,zn5,zn6,reduceCtorEq,zn7,zi1,zi2,if_pos,if_neg,Int.reduceAdd]<;>rfl) hA (h1:=h-1) (B1:=delI A i.toNat) (λh0=>by have:=hi h0;have:=hA.len;unfold delI;simp;omega) hK hn hw c1 (λh0=>by obtain⟨a,b⟩:=hi h0;have:=applyD_s (i:=i.toNat) hA hn hw om;rwa[Int.toNat_of_nonneg a]at this) (λh0=>(hr h0).start)
 clear c1 hr he hi;unfold keptS keptZ kept at*;by_cases h0:e=0
 all_goals
  first|rw[if_pos h0]at c2⊢ |rw[if_neg h0]at c2⊢
  clear h0;refine qF Tryz.func22 Tryz.ntmps22 λB hB=> ?_;refine qW ?_;refine SO.mkIfc qS (by kernel_rfl) qS ?_;refine qW ?_;exact qE Tryz.results22
theorem urank_s(hA:MI h w K A)(hK:K<=100000000000)(hn:h<=1000000)(hw:w<=1000000)(u v:List Int)(hu:u.length<=1000000)(hv:v.length<=1000000)(hfu: ∀x∈u,Fits K x)(hfv: ∀x∈v,Fits K x){e:Int}(he:e=if u.length=h/\v.length=w then 0 else 50)(hr:e=0->Redd (h) (w) K1 (raiI h w A u v) l1):
  Spec Tryz.prog 24 [kept h w A H U C l,.im (ivR u) u.length,.im (ivR v) v.length] (.tu [if e=0 then keptS (h) (w) (raiI h w A u v) l1 else keptZ,.sc (.int .i64 e)]):=by
 have c1:=fitP_s hA hn hw u v hu hv;rw[<-he]at c1;have hi:e=0->u.length=h/\v.length=w:=λh0=>by
  rw[h0]at he;by_cases a:u.length=h/\v.length=w;·exact a
  ·rw[if_neg a]at he;omega
 have c2:=perform_s (t:=99) (x:= .ag [.im (ivR u) u.length,.im (ivR v) v.length]) (H:=H) (U:=U) (C:=C) (l:=l) (by kernel_rfl) Tab.go175 (by kernel_rfl) Tab.go174 (λhp=>by simp(disch:=omega) only[go_sem,↓reduceIte,zn1,zn2,zn3,zn4,zn5,zn6,reduceCtorEq,zn7,zi1,zi2,if_pos,if_neg,Int.reduceAdd]<;>rfl) hA (h1:=h) (B1:=raiI h w A u v) (λh0=>mkM_len) hK hn hw c1 (λh0=>applyP_s hA hK hn hw (hi h0).1 (hi h0).2 hfu hfv) (λh0=>(hr h0).start);clear c1 hr he hi;unfold keptS keptZ kept at*;by_cases h0:e=0
 all_goals
  first|rw[if_pos h0]at c2⊢ |rw[if_neg h0]at c2⊢
  clear h0;refine qF Tryz.func24 Tryz.ntmps24 λB hB=> ?_;refine qW ?_;refine SO.mkIfc qS (by kernel_rfl) qS ?_;refine qW ?_;exact qE Tryz.results24
theorem ucolumn_s(hA:MI h w K A)(hK:K<=100000000000)(hn:h<=1000000)(hw:w<=1000000)(v:List Int)(hv:v.length<=1000000){e:Int}(he:e=if v.length=h then 0 else 50)(hr:e=0->Redd (h) (w+1) K1 (widI A v) l1):
  Spec Tryz.prog 26 [kept h w A H U C l,.im (ivR v) v.length] (.tu [if e=0 then keptS (h) (w+1) (widI A v) l1 else keptZ,.sc (.int .i64 e)]):=by
 have c1:=fitC_s hA hn v hv;rw[<-he]at c1;have hi:e=0->v.length=h:=λh0=>by
  rw[h0]at he;by_cases a:v.length=h;·exact a
  ·rw[if_neg a]at he;omega
 have c2:=perform_s (t:=101) (x:= .ag [.im (ivR v) v.length]) (H:=H) (U:=U) (C:=C) (l:=l) (by kernel_rfl) Tab.go177 (by kernel_rfl) Tab.go176 (λhp=>by simp(disch:=omega) only[go_sem,↓reduceIte,zn1,zn2,zn3,zn4,zn5,zn6,reduceCtorEq,zn7,zi1,zi2,if_pos,if_neg,Int.reduceAdd]<;>rfl) hA (h1:=h) (B1:=widI A v) (λh0=>by rw[widI_len];exact hA.len) hK hn hw c1 (λh0=>applyC_s hA hn hw (hi h0)) (λh0=>(hr h0).start);clear c1 hr he hi;unfold keptS keptZ kept at*;by_cases h0:e=0
 all_goals
  first|rw[if_pos h0]at c2⊢ |rw[if_neg h0]at c2⊢
  clear h0;refine qF Tryz.func26 Tryz.ntmps26 λB hB=> ?_;refine qW ?_;refine SO.mkIfc qS (by kernel_rfl) qS ?_;refine qW ?_;exact qE Tryz.results26
end
end
section
def KR:Nat:=171000
theorem bounds12: ∀h,h<13-> ∀w,w<13->h+w<=12->btF h w 0 9<=2736000/\cnF h w 0 9<=999999999:=by decide+kernel
structure Bm(N h w:Nat)(A:List (List Int)):Prop where
 sh:Sh h w A
 bd:Bd h N A
section
variable {N h w:Nat} {A:List (List Int)}
theorem Bm.mono{N':Nat}(hA:Bm N h w A)(hN:N<=N'):Bm N' h w A:=⟨hA.sh,λq t hq=>Nat.le_trans (hA.bd q t hq) hN⟩
theorem Bm.mi(hA:Bm N h w A)(hN:N<=511):MI h w 1 A:=Bd.mi hA.sh hA.bd (show N<4294967296^1 by omega)
theorem kp_ex(hA:Bm N h w A)(hN:N<=511)(hh:h+w<=12): ∃l,Kp h w KR A l:=by obtain⟨b1,b2⟩:=bounds12 h om w om hh;exact red_gen (N:=511) (b:=9) (T:=2736000) (hA.mi hN) (λq t hq=>Nat.le_trans (hA.bd q t hq) hN) om om b1 b2 (by unfold KR;omega) (by unfold KR;omega) om
theorem Kp.redd{l:List OpL}(hk:Kp h w KR A l)(hh:h+w<=12):Redd h w KR A l:=⟨hk.red,by unfold KR;omega,by omega,by omega⟩
theorem bm_row{v:List Int}{i c:Nat}(hv: ∀x∈v,x.natAbs<=N):(v.getD c 0).natAbs<=N:=by
 by_cases h:c<v.length;·exact hv _ (getD_mem (d:=0) h)
 ·rw[List.getD_eq_getElem?_getD,List.getElem?_eq_none om];exact znc _
theorem delI_get{i r:Nat}(hi:i<A.length):(delI A i).getD r []=if r<i then A.getD r []else A.getD (r+1) []:=by
 unfold delI;simp only[List.getD_eq_getElem?_getD];by_cases h1:r<i;·rw[if_pos h1,List.getElem?_append_left (by rw[List.length_take];omega),List.getElem?_take,if_pos h1]
 ·rw[if_neg h1,List.getElem?_append_right (by rw[List.length_take];omega),List.length_take,Nat.min_eq_left om,zl5,show i+1+(r-i)=r+1 by omega]
theorem Bm.del{i:Nat}(hA:Bm N h w A)(hi:i<h):Bm N (h-1) w (delI A i):=by
 have hl:=hA.sh.len;refine⟨⟨by unfold delI;simp;omega,λr hr=> ?_⟩,λq t hq=> ?_⟩
 ·rw[delI_get om];split;·exact hA.sh.row r om
  ·exact hA.sh.row _ om
 ·unfold ent2;rw[delI_get om];split;·exact hA.bd q t om
  ·exact hA.bd _ t om
end
end
section
open Go.RowKit
end
section
open Go.RowKit
end
section
open Go.RowKit
def SR(P:Program)(B:Base)(c:Code)(cs:List Code)(Q:Exit->SS->Prop):Nat->SS->Prop
 |0,_=>False
 |n+1,s=>SC P B [c] (thenQ (SR P B c cs Q n) (thenQ (SC P B cs Q) Q)) s
theorem SR.next{P:Program}{B:Base}{c:Code}{cs:List Code}{Q:Exit->SS->Prop}{n:Nat}{s:SS}(h:SC P B [c] (thenQ (SR P B c cs Q n) (thenQ (SC P B cs Q) Q)) s):SR P B c cs Q (n+1) s:=h
theorem SC.loopN{P:Program}{B:Base}{c:Code}{cs:List Code}{Q:Exit->SS->Prop}{s:SS}(n:Nat)(h:SR P B c cs Q n s):SC P B (.loop c::cs) Q s:=by
 have key: ∀n s,SR P B c cs Q n s-> ∀S rho A a w,Rel B S rho A s a w->Code.rounds P c (Post B (thenQ (SC P B cs Q) Q)) n a w:=by
  intro n;induction n with
  |zero=>intro s h;exact h.elim
  |succ n ih=>
   intro s h S rho A a w hr;have h1:SWp P B c (thenQ (SC P B [] (thenQ (SR P B c cs Q n) (thenQ (SC P B cs Q) Q))) (thenQ (SR P B c cs Q n) (thenQ (SC P B cs Q) Q))) s:=h;refine wp_mono (h1 S rho A a w hr) ?_;rintro e a w ⟨S,rho,A,s',hq,hr'⟩;cases e with
   |normal=>exact ih s' hq S rho A a w hr'
   |_=>exact⟨S,rho,A,s',hq,hr'⟩
 intro S rho A a w hr;exact wp_loop_rounds n (key n s h S rho A a w hr)
end
section
open Go.RowKit
theorem pvalid2_s{h w h2 w2 K:Nat}{A C:List (List Int)}(hA:MI h w K A)(hC:MI h2 w2 K C)(hK:K<=100000000000)(hn:h<=1000000)(hw:w<=1000000)(hn2:h2<=1000000)(hw2:w2<=1000000):
  Spec Tryz.prog 90 [.im [.sc (.int .i64 h),.sc (.int .i64 w),.im (imR w (rI A)) h,.sc (.int .i64 h2),.sc (.int .i64 w2),.im (imR w2 (rI C)) h2] 2] (.sc (.bool true)):=by
 have c1:=imValid_s hA hK hn hw;have c2:=imValid_s hC hK hn2 hw2;have l1:=hA.len;have l2:=hC.len;unfold mat at c1 c2;rw[l1]at c1;rw[l2]at c2;generalize imR w (rI A)=X at*;generalize imR w2 (rI C)=Y at*;refine qF Tryz.func90 Tryz.ntmps90 λB hB=> ?_
 (repeat(first|refine DO.nil (by kernel_rfl) ?_|(with_reducible refine qO ?_)|((first|apply SO.call|apply DO.call);(iterate 3 exact qS);(first|apply SCall.ofX|apply DCall.ofX);assumption;exact qS)|((with_reducible first|apply wa|apply wb|apply wc|apply wd);exact qS;(first|refine pT ?_|refine pF ?_|fail_if_success with_reducible refine pA ?_))|((with_reducible refine SC.draw Tab.mixed ?_ ?_);(focus(first|rfl|simp(disch:=omega) only[go_sem,↓reduceIte,zn1,zn2,zn3,zn4,zn5,zn6,reduceCtorEq,zn7,zi1,zi2,if_pos,if_neg,Int.reduceAdd])))|(with_reducible apply SC.ops)|(with_reducible apply SR.next)|refine SC.loopN 3 ?_))
 exact qE Tryz.results90
end
section
open Go.RowKit
theorem LLe.zer{ok:Nat->Bool}: ∀w,LLe ok (zer w) (ivR (List.replicate w 0))
 |0=>LLe.nil _
 |w+1=>LLe.cons (VLe.refl rfl) (LLe.cons VLe.nil_im (LLe.zer w))
def tmF(v:List Int)(C:List (List Int))(w i j:Nat):List Int:=mkR w λc=>if c<j then dotI (λt=>v.getD t 0) (λt=>ent2 C t c) (i+1)else dotI (λt=>v.getD t 0) (λt=>ent2 C t c) i
theorem tmF_next(v:List Int)(C:List (List Int))(w i:Nat):tmF v C w i w=tmF v C w (i+1) 0:=mkR_congr λc hc=>by rw[if_pos hc,if_neg om]
theorem tmF_zero(v:List Int)(C:List (List Int))(w:Nat):tmF v C w 0 0=List.replicate w 0:=by refine List.ext_getElem (by unfold tmF;rw[mkR_len,List.length_replicate]) λi h1 h2=> ?_;unfold tmF mkR;simp[dotI]
theorem tmF_skip{v:List Int}{C:List (List Int)}{w i:Nat}(h:v.getD i 0=0):tmF v C w i 0=tmF v C w (i+1) 0:=mkR_congr λc _=>by rw[if_neg om,if_neg om,dotI,h,Int.zero_mul,Int.add_zero]
theorem tmF_same{v:List Int}{C:List (List Int)}{w i j:Nat}(h:ent2 C i j=0):tmF v C w i j=tmF v C w i (j+1):=mkR_congr λc _=>by
 by_cases e:c=j
 ·subst e;rw[if_neg om,if_pos om,dotI,h,Int.mul_zero,Int.add_zero]
 ·by_cases e2:c<j;·rw[if_pos e2,if_pos om]
  ·rw[if_neg e2,if_neg om]
theorem mkR_at{w c:Nat}{f:Nat->Int}(h:c<(mkR w f).length):(mkR w f)[c]=f c:=by simp[mkR]
theorem tmF_set{v:List Int}{C:List (List Int)}{w i j:Nat}(hj:j<w):(tmF v C w i j).set j (dotI (λt=>v.getD t 0) (λt=>ent2 C t j) i+v.getD i 0*ent2 C i j)=tmF v C w i (j+1):=by
 refine List.ext_getElem (by unfold tmF;rw[List.length_set,mkR_len,mkR_len]) λc h1 h2=> ?_;have e1:(tmF v C w i (j+1))[c]=_:=mkR_at h2;rw[List.getElem_set,e1];by_cases e:j=c
 ·subst e;rw[if_pos rfl,if_pos om,dotI]
 ·rw[if_neg e];have e2:(tmF v C w i j)[c]'(by rw[List.length_set]at h1;exact h1)=_:=mkR_at _;rw[e2];by_cases e2:c<j;·rw[if_pos e2,if_pos om]
  ·rw[if_neg e2,if_neg om]
set_option maxRecDepth 8000 in
theorem times_s{n w K:Nat}{v:List Int}{C:List (List Int)}(hv:v.length=n)(hfv: ∀x∈v,Fits K x)(hC:MI n w K C)(hK:K<=40000000000)(hn:n<=1000000)(hw:w<=1000000):
  Spec Tryz.prog 119 [.im (ivR v) n,mat w C] (.im (ivR (mkR w λc=>dotI (λt=>v.getD t 0) (λt=>ent2 C t c) n)) w):=by
 have hCl:=hC.len;have gl:=ivR_len v;have gC:=imI_len w C;unfold mat;rw[hCl]at gC⊢;refine qF Tryz.func119 Tryz.ntmps119 λB hB=> ?_;refine qW ?_;refine SC.loop (λi:Nat=>⟨[(3,.pt 0 0),(5,.sl 1 0 w 2 (some w)),(13,.im (ivR v) n),(14,.sc (.int .i64 n)),(15,.sc (.int .i64 i))],[(1,⟨68,ivR (tmF v C w i 0),false⟩),(0,⟨28,[.sc (.int .i64 n),.sc (.int .i64 w),.im (imR w (rI C)) n],false⟩)],2,51⟩) (λi=>i<=n) (λi=>n-i) 0 ?_ (znc _) ?_
 ·rw[tmF_zero];refine qLn0r ?_;exact LLe.zer w
 intro i hi K1 hK1;by_cases hc:i<n
 ·have q1:=decide_eq_true (p:=(i:Int)<(n:Int)) om;have hfx:=hfv _ (getD_mem (d:=0) (l:=v) (i:=i) om);have c1:=psign_i _ K hfx om;have gvd:=ivR_drop (l:=v) (i:=i) om;have g2:i*2<(ivR v).length:=by omega
  have gCi:=imI_get (w:=w) (M:=C) (i:=i) om;generalize(ivR v).drop ((i+1)*2)=D1 at*;generalize hA1:ivR v=A1 at*;by_cases hx0:v.getD i 0=0
  ·have e1:=tmF_skip (C:=C) (w:=w) hx0;rw[hx0]at c1 gvd;unfold iv sv at c1;unfold ivC sv at gvd;simp only[zl8,zl7]at gvd;refine qWf (Q4 @q1 @gvd @g2 @gl) ?_;refine hK1 _ (i+1) ?_ om om;rw[<-e1];refine qLn0r ?_;exact LLe.cl rfl (ivR_clo _)
  ·have q2:((v.getD i 0).sign==0)=false:=by rw[beq_eq_false_iff_ne];intro e;exact hx0 (Int.sign_eq_zero_iff_zero.1 e)
   have hdx:=λj (hj:j<w)=>dot_fits (f:=λt=>v.getD t 0) (g:=λt=>ent2 C t j) (K:=K) (k:=i) om (λt ht=>⟨hfv _ (getD_mem (d:=0) (l:=v) (i:=t) om),hC.fit om hj⟩);have hset:=λj (hj:j<w)=>tmF_set (v:=v) (C:=C) (w:=w) (i:=i) (j:=j) hj;have hnx:=tmF_next v C w i;have hlr:=(hC.get hc).1;have gcl:=ivR_len (C.getD i []);rw[hlr]at gcl;have hgd:=λj (hj:j<w)=>ivR_drop (l:=C.getD i []) (i:=j) om;have hfy:=λj (hj:j<w)=>hC.fit hc hj;have hgo: ∀j,j<w->(tmF v C w i j).getD j 0=dotI (λt=>v.getD t 0) (λt=>ent2 C t j) i:=λj hj=>by unfold tmF;rw[mkR_get hj,if_neg om]
   have hent: ∀j,ent2 C i j=(C.getD i []).getD j 0:=λj=>rfl;have hsm:=λj (h:ent2 C i j=0)=>tmF_same (v:=v) (w:=w) h;generalize hx:v.getD i 0=x at*;generalize hRR:C.getD i []=row at*;have gvd0:=gvd;unfold iv sv at c1;unfold ivC sv at gvd;simp only[zl8,zl7]at gvd;refine qWf (Q8 @q1 @gvd @g2 @gl @q2 @gCi @gC @gD) ?_;refine SC.loop (λj:Nat=>⟨[(3,.pt 0 0),(5,.sl 1 0 w 2 (some w)),(13,.im A1 n),(14,.sc (.int .i64 n)),(15,.sc (.int .i64 i)),(6,.sc (.int .i64 i)),(7,.pt 2 0),(27,.im (ivR row) w),(28,.sc (.int .i64 w)),(29,.sc (.int .i64 j))],[(2,⟨68,ivC x,false⟩),(1,⟨68,ivR (tmF v C w i j),false⟩),(0,⟨28,[.sc (.int .i64 n),.sc (.int .i64 w),.im (imR w (rI C)) n],false⟩)],3,51⟩) (λj=>j<=w) (λj=>w-j) 0 ?_ (znc _) ?_
   ·refine qLn0r ?_;exact LLe.cl rfl (ivR_clo _)
   intro j hj K2 hK2;by_cases hc2:j<w
   ·have q3:=decide_eq_true (p:=(j:Int)<(w:Int)) om;have hd:=hdx j hc2;have hs:=hset j hc2;have hy:=hfy j hc2;have gyd:=hgd j hc2;have g3:j*2<(ivR row).length:=by omega
    have ho:=hgo j hc2;have hsm:=hsm j;rw[hent]at hs hsm;clear hdx hset hfy hgd hgo hent;have c2:=psign_i _ K hy om;have gr:=ivR_len (tmF v C w i j);have glt:(tmF v C w i j).length=w:=by unfold tmF;exact mkR_len
    have gtd:=ivR_drop (l:=tmF v C w i j) (i:=j) om;have gts:=λz=>ivR_set (l:=tmF v C w i j) (i:=j) z om;rw[glt]at gr;rw[ho]at gtd;have hxy:Fits (2*K+1) (x*row.getD j 0):=by have:=dot_fits (f:=λ_=>x) (g:=λ_=>row.getD j 0) (K:=K) (k:=1) om (λ_ _=>⟨hfx,hy⟩);simpa[dotI]using this
    have c3:=pmul_i _ _ K hfx hy om;have c4:=padd_i _ _ (2*K+1) hd hxy om;have gts:=gts (dotI (λt=>v.getD t 0) (λt=>ent2 C t j) i+x*row.getD j 0);rw[hs]at gts;have g4:j*2<(ivR (tmF v C w i j)).length:=by omega
    clear hd hxy hy ho hs glt;generalize dotI (λt=>v.getD t 0) (λt=>ent2 C t j) i=d at*;generalize hy:row.getD j 0=y at*;generalize(ivR row).drop ((j+1)*2)=D2 at*;generalize(ivR (tmF v C w i j)).drop ((j+1)*2)=D3 at*;generalize ivR row=A2 at*;by_cases hy0:y=0
    ·have e1:=hsm hy0;rw[e1]at*;subst hy0;clear hsm c3 c4;unfold iv sv at c2;unfold ivC sv at gyd;simp only[zl8,zl7]at gyd;refine qWf (Q4 @q3 @gyd @g3 @gcl) ?_;refine hK2 _ (j+1) ?_ om om;refine qLn0r ?_;exact LLe.cl rfl (ivR_clo _)
    ·have q4:(y.sign !=0)=true:=by rw[bne_iff_ne];intro e;exact hy0 (Int.sign_eq_zero_iff_zero.1 e)
     clear hsm;generalize hT1:ivR (tmF v C w i j)=T1 at*;generalize hT2:ivR (tmF v C w i (j+1))=T2 at*;unfold iv sv at c2 c3 c4;unfold ivC sv at gyd gtd gts⊢;simp only[zl8,zl7]at gyd gtd;refine qWf (Q9 @q3 @gyd @g3 @gcl @q4 @gr @gtd @gts @g4) ?_;refine hK2 _ (j+1) ?_ om om;rw[hT2];refine qLn0r ?_;exact LLe.cl rfl (hT2▸ivR_clo _)
   ·have q3:=decide_eq_false (p:=(j:Int)<(w:Int)) om;have hjw:j=w:=by omega
    subst hjw;refine qWf @q3 ?_;refine hK1 _ (i+1) ?_ om om;rw[<-hnx];refine qLn0r ?_;exact LLe.cl rfl (ivR_clo _)
 ·have q1:=decide_eq_false (p:=(i:Int)<(n:Int)) om;have hin:i=n:=by omega
  subst hin;have e:tmF v C w i 0=mkR w λc=>dotI (λt=>v.getD t 0) (λt=>ent2 C t c) i:=mkR_congr λc _=>by rw[if_neg om]
  rw[<-e];have gr:=ivR_len (tmF v C w i 0);have glt:(tmF v C w i 0).length=w:=by unfold tmF;exact mkR_len
  rw[glt]at gr;have hcl:=ivR_clo (tmF v C w i 0);generalize ivR (tmF v C w i 0)=T at*;have ht:T.take (w*2)=T:=zla om;refine qWf @q1 ?_;exact retQ_ret Tryz.results119 qS (qSf (Q3 @hcl @gr @ht)) rfl
end
end Go.Proofs.YtannldafjkjjbaaGreat
