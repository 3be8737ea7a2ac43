/- Texts joined: Gt Sa Sb Sc Sd Se Sf. -/
import Derived.WalkKit
import Derived.ChangeKeysEq
set_option linter.all false
set_option maxHeartbeats 16000000
open Nat renaming reduceEqDiff → zn1, reduceLT → zn2, reduceLeDiff → zn3, reduceAdd → zn4, reduceMul → zn5, reduceSub → zn6, reduceBEq → zn7, mul_one → zn8, zero_add → zn9, one_mul → zna, le_refl → znb, zero_le → znc, add_sub_cancel_left → znd, sub_eq_zero_of_le → zne, add_assoc → znf
open Int renaming reduceToNat → zi1, reducePow → zi2
open List renaming length_append → zl1, drop_zero → zl2, take_succ_cons → zl3, take_zero → zl4, getElem?_drop → zl5, append_assoc → zl6, nil_append → zl7, cons_append → zl8, drop_succ_cons → zl9, take_of_length_le → zla, getElem?_eq_getElem → zlb, getElem?_eq_some_iff → zlc, map_cons → zld, map_nil → zle, all_eq_true → zlf
namespace Go.Proofs.YtannldafjkjjbaaGreat
theorem om{p:Prop}(h:p:=by omega):p:=h
section
def GT:List (Nat×List Value):=[]
def tabF:List (Nat×List Value)->Nat->Option (List Value)
 |[],_=>none
 |(k,x)::r,g=>if g=k then some x else tabF r g
def tabG(g:Nat):Option (List Value):=tabF GT g
def TabOK(S:Nat->Prop)(w:World):Prop:= ∀g cs,tabG g=some cs->S g/\ ∀i v,cs[i]? =some v->w.cell? ⟨g,i,none⟩=some v
end
section
open Go.RowKit
inductive V where
 |sc (v:Value)
 |ag (cs:List V)
 |tu (vs:List V)
 |pt (id off:Nat)
 |sl (id off len z:Nat) (cap:Option Nat)
 |im (cs:List V) (len:Nat)
 |pi (cs:List V)
 |fn (f:Fn) (first captured:List V)
 |mp (id b:Nat) (ks:List Int) (vs:List V)
 |ifc (t:TypeId) (x:V)
 |junk
 deriving Inhabited
inductive Sz where
 |n (k:Nat)
 |m (es:Array MapEntry) (c:Nat)
def szAt(w:World)(b:Nat):Sz->Prop
 | .n k=> ∃c e f,w.heap[b]? =some (.cells c e f)/\k<=c.size
 | .m es c=>w.heap[b]? =some (.map es c)
theorem szAt.of_heap{w w':World}{b:Nat}{n:Sz}(h:w'.heap[b]? =w.heap[b]?)(k:szAt w b n):szAt w' b n:=by
 cases n with
 |n=>obtain⟨c,e,f,h1,h2⟩:=k;exact⟨c,e,f,h.trans h1,h2⟩
 |m=>exact h.trans k
theorem szAt.map{w:World}{b c:Nat}{es:Array MapEntry}(h:szAt w b (.m es c)):w.heap[b]? =some (.map es c):=h
theorem szAt.lt{w:World}{b:Nat}{n:Sz}(k:szAt w b n):b<w.heap.size:=by
 cases n with
 |n=>obtain⟨c,e,f,h1,h2⟩:=k;exact(Array.getElem?_eq_some_iff.1 h1).1
 |m=>exact(Array.getElem?_eq_some_iff.1 k).1
inductive R(S:Nat->Prop)(rho:Nat->Nat)(w:World):(Nat->Prop)->V->Value->Prop
 |sc {A:Nat->Prop} (v:Value):R S rho w A (.sc v) v
 |junk {A:Nat->Prop} (v:Value):R S rho w A .junk v
 |ag {A:Nat->Prop} {cs:List V} {vs:Array Value} (h:cs.length=vs.size) (hi: ∀(i:Nat) (x:V) (u:Value),cs[i]? =some x->vs[i]? =some u->R S rho w A x u):R S rho w A (.ag cs) (.agg vs)
 |tu {A:Nat->Prop} {cs:List V} {vs:Array Value} (h:cs.length=vs.size) (hi: ∀(i:Nat) (x:V) (u:Value),cs[i]? =some x->vs[i]? =some u->R S rho w A x u):R S rho w A (.tu cs) (.tuple vs)
 |pt {A:Nat->Prop} {id off:Nat} (h:A id):R S rho w A (.pt id off) (.pointer (some ⟨rho id,off,none⟩))
 |sl {A:Nat->Prop} {id off len z c:Nat} {cap:Option Nat} (h:A id) (hl:len<=c) (hm:c<=maxLen) (hc: ∀k,cap=some k->c=k) (hz:szAt w (rho id) (.n (off+c*z))):R S rho w A (.sl id off len z cap) (.slice (some ⟨rho id,off,none⟩) len c)
 |sln {A:Nat->Prop} {id off z:Nat} {cap:Option Nat} (h: ∀k,cap=some k->k=0):R S rho w A (.sl id off 0 z cap) (.slice none 0 0)
 |im0 {A:Nat->Prop} {len c:Nat} {a:Option Addr} (hl:len<=c) (hm:c<=maxLen) (ha:a=none->c=0):R S rho w A (.im [] len) (.slice a len c)
 | im1 {A:Nat->Prop} {cs:List V} {len c b off:Nat} (f:Nat->Value) (hl:len<=c) (hm:c<=maxLen) (hS:S b)
   (hc: ∀(i:Nat) (x:V),cs[i]? =some x->w.cell? ⟨b,off+i,none⟩=some (f i)) (hx: ∀(i:Nat) (x:V),cs[i]? =some x->R S rho w (λ_=>False) x (f i)):R S rho w A (.im cs len) (.slice (some ⟨b,off,none⟩) len c)
 | pi {A:Nat->Prop} {cs:List V} {b off:Nat} (f:Nat->Value) (hS:S b)
   (hc: ∀(i:Nat) (x:V),cs[i]? =some x->w.cell? ⟨b,off+i,none⟩=some (f i)) (hx: ∀(i:Nat) (x:V),cs[i]? =some x->R S rho w (λ_=>False) x (f i)):R S rho w A (.pi cs) (.pointer (some ⟨b,off,none⟩))
 | fn {A:Nat->Prop} {f:Fn} {p q:List V} {ps qs:Array Value} (hp:p.length=ps.size) (hq:q.length=qs.size) (h1: ∀(i:Nat) (x:V) (u:Value),p[i]? =some x->ps[i]? =some u->R S rho w A x u)
   (h2: ∀(i:Nat) (x:V) (u:Value),q[i]? =some x->qs[i]? =some u->R S rho w A x u):R S rho w A (.fn f p q) (.func f ps qs)
 | mp {A:Nat->Prop} {id b c:Nat} {ks:List Int} {vs:List V} {es:Array MapEntry} (h:A id) (hb:rho id=b) (hm:szAt w (rho id) (.m es c)) (hk:es.toList.map (·.key)=ks.map (Value.int .i64 ·)) (hl:vs.length=es.size)
   (hx: ∀(i:Nat) (x:V) (e:MapEntry),vs[i]? =some x->es[i]? =some e->R S rho w (λ_=>False) x e.val):R S rho w A (.mp id b ks vs) (.map (some b))
 |ifc {A:Nat->Prop} {t:TypeId} {x:V} {v:Value} (h:R S rho w A x v):R S rho w A (.ifc t x) (.iface t v)
theorem cell_of_heap{w w':World}{b:Nat}(h:w'.heap[b]? =w.heap[b]?)(off:Nat):w'.cell? ⟨b,off,none⟩=w.cell? ⟨b,off,none⟩:=by simp only[World.cell?,h]
theorem R.mono{S S':Nat->Prop}{rho rho':Nat->Nat}{A A':Nat->Prop}{w w':World}{x:V}{v:Value}(h:R S rho w A x v)
  (hS: ∀b,S b->S' b/\w'.heap[b]? =w.heap[b]?) (hA: ∀id,A id->A' id/\rho' id=rho id/\ ∀n,szAt w (rho id) n->szAt w' (rho id) n):R S' rho' w' A' x v:=by
 induction h generalizing A' with
 |sc v=>exact .sc v
 |junk v=>exact .junk v
 |ag h _ ih=>exact .ag h (λi x u h1 h2=>ih i x u h1 h2 hA)
 |tu h _ ih=>exact .tu h (λi x u h1 h2=>ih i x u h1 h2 hA)
 |pt h=>rw[<-(hA _ h).2.1];exact .pt (hA _ h).1
 |sl h hl hm hc hz=>rw[<-(hA _ h).2.1];exact .sl (hA _ h).1 hl hm hc (by rw[(hA _ h).2.1];exact(hA _ h).2.2 _ hz)
 |sln h=>exact .sln h
 |im0 hl hm ha=>exact .im0 hl hm ha
 |im1 f hl hm hs hc _ ih=>exact .im1 f hl hm (hS _ hs).1 (λi x hx=>(cell_of_heap (hS _ hs).2 _).trans (hc i x hx)) (λi x h1=>ih i x h1 (λ_ h=>h.elim))
 |pi f hs hc _ ih=>exact .pi f (hS _ hs).1 (λi x hx=>(cell_of_heap (hS _ hs).2 _).trans (hc i x hx)) (λi x h1=>ih i x h1 (λ_ h=>h.elim))
 |fn hp hq _ _ i1 i2=>exact .fn hp hq (λi x u h1 h2=>i1 i x u h1 h2 hA) (λi x u h1 h2=>i2 i x u h1 h2 hA)
 |mp h hb hm hk hl _ ih=>exact .mp (hA _ h).1 ((hA _ h).2.1.trans hb) (by rw[(hA _ h).2.1];exact(hA _ h).2.2 _ hm) hk hl (λi x e h1 h2=>ih i x e h1 h2 (λ_ h=>h.elim))
 |ifc _ ih=>exact .ifc (ih hA)
theorem R.open{S:Nat->Prop}{rho:Nat->Nat}{A:Nat->Prop}{w:World}{x:V}{v:Value}(h:R S rho w (λ_=>False) x v):R S rho w A x v:=
 h.mono (λ_ h=>⟨h,rfl⟩) (λ_ h=>h.elim)
structure Blk where
 ty:TypeId
 cs:List V
 fz:Bool:=false
 deriving Inhabited
structure SS where
 sl:List (Nat×V)
 hp:List (Nat×Blk)
 nx:Nat
 nt:Nat
 deriving Inhabited
def get:List (Nat×V)->Nat->V
 |[],_=> .junk
 |(k,x)::r,t=>if t=k then x else get r t
def hget:List (Nat×Blk)->Nat->Option Blk
 |[],_=>none
 |(k,x)::r,t=>if t=k then some x else hget r t
def hset:List (Nat×Blk)->Nat->Blk->List (Nat×Blk)
 |[],_,_=>[]
 |(k,x)::r,t,y=>if t=k then(k,y)::r else(k,x)::hset r t y
theorem hget_hset(l:List (Nat×Blk))(t t':Nat)(y:Blk):hget (hset l t y) t'=if t'=t then(hget l t).map λ_=>y else hget l t':=by
 induction l with
 |nil=>simp[hset,hget]
 | cons p r ih=>
  obtain⟨k,x⟩:=p;simp only[hset];by_cases h:t=k
  ·subst h;by_cases h2:t'=t;·subst h2;simp[hget]
   ·simp[hget,h2]
  ·rw[if_neg h];simp only[hget];by_cases h2:t'=t;·subst h2;simp[h,ih]
   ·by_cases h3:t'=k;·subst h3;simp[h2]
    ·simp[h3,h2,ih]
structure Base where
 w0:World
 S0:Nat->Prop
 K:Nat->Prop
 rho0:Nat->Nat
 L:Nat->Prop
 D:List Deferred
def Base.n0(B:Base):Nat:=B.w0.heap.size
def Cellsat(S:Nat->Prop)(rho:Nat->Nat)(A:Nat->Prop)(w:World)(b:Nat)(k:Blk):Prop:=
 ∃cells:Array Value,w.heap[b]? =some (.cells cells k.ty (0,0))/\ ∀(i:Nat) (x:V),k.cs[i]? =some x-> ∃u:Value,cells[i]? =some u/\R S rho w A x u
theorem Cellsat.mono{S S':Nat->Prop}{rho rho':Nat->Nat}{A A':Nat->Prop}{w w':World}{b b':Nat}{k:Blk}(h:Cellsat S rho A w b k)(hb:w'.heap[b']? =w.heap[b]?)
  (hS: ∀b,S b->S' b/\w'.heap[b]? =w.heap[b]?) (hA: ∀id,A id->A' id/\rho' id=rho id/\ ∀n,szAt w (rho id) n->szAt w' (rho id) n):Cellsat S' rho' A' w' b' k:=by
 obtain⟨cells,h1,h2⟩:=h;exact⟨cells,hb.trans h1,λi x hx=>let⟨u,hu,hr⟩:=h2 i x hx;⟨u,hu,hr.mono hS hA⟩⟩
structure Frame'(B:Base)(w:World):Prop where
 os:w.os=B.w0.os
 tape:w.tape=B.w0.tape
 output:w.output=B.w0.output
 size:B.w0.heap.size<=w.heap.size
 block: ∀b,b<B.w0.heap.size-> ¬B.L b->w.heap[b]? =B.w0.heap[b]?
 stay: ∀b,B.S0 b->w.heap[b]? =B.w0.heap[b]?
 sz: ∀b n,szAt B.w0 b (.n n)->szAt w b (.n n)
 lt: ∀b,B.S0 b->b<B.w0.heap.size
 tab:TabOK B.S0 B.w0
def Base.Old(B:Base)(n:Nat):Prop:= ∀id,B.K id->id<n
structure Mem(B:Base)(S:Nat->Prop)(rho:Nat->Nat)(A:Nat->Prop)(hp:List (Nat×Blk))(w:World):Prop where
 cells: ∀id k,hget hp id=some k->A id->Cellsat S rho A w (rho id) k
 fz: ∀id k,hget hp id=some k->A id->k.fz=false-> ¬S (rho id)
 own: ∀id k,hget hp id=some k->A id->B.n0<=rho id\/B.L (rho id)
 inj: ∀id id' k k',hget hp id=some k->hget hp id'=some k'->A id->A id'->rho id=rho id'->id=id'
 slt: ∀b,S b->b<w.heap.size
 sub: ∀b,B.S0 b->S b
 base: ∀b,S b->B.S0 b\/B.n0<=b\/B.L b
 frame:Frame' B w
 keep: ∀id,B.K id->A id/\rho id=B.rho0 id
structure Rel(B:Base)(S:Nat->Prop)(rho:Nat->Nat)(A:Nat->Prop)(s:SS)(a:Act)(w:World):Prop where
 slots: ∀t,R S rho w A (get s.sl t) (a.eval (.tmp t))
 mem:Mem B S rho A s.hp w
 alt: ∀id,A id->id<s.nx
 nt:a.tmps.size=s.nt
 defs:a.defers=B.D
theorem Mem.lt{B:Base}{S:Nat->Prop}{rho:Nat->Nat}{A:Nat->Prop}{hp:List (Nat×Blk)}{w:World}(h:Mem B S rho A hp w){id:Nat}{k:Blk}(hk:hget hp id=some k)(ha:A id):rho id<w.heap.size:=by obtain⟨cells,h1,_⟩:=h.cells id k hk ha;exact(Array.getElem?_eq_some_iff.1 h1).1
structure Grow(w w':World):Prop where
 os:w'.os=w.os
 tape:w'.tape=w.tape
 output:w'.output=w.output
 size:w.heap.size<=w'.heap.size
 block: ∀b,b<w.heap.size->w'.heap[b]? =w.heap[b]?
theorem Grow.szAt{w w':World}(g:Grow w w'){b:Nat}{n:Sz}(k:szAt w b n):szAt w' b n:=k.of_heap (g.block b k.lt)
theorem Grow.refl(w:World):Grow w w:=⟨rfl,rfl,rfl,znb _,λ_ _=>rfl⟩
theorem Grow.trans{a b c:World}(h:Grow a b)(k:Grow b c):Grow a c:=⟨k.os.trans h.os,k.tape.trans h.tape,k.output.trans h.output,Nat.le_trans h.size k.size,λi hi=>(k.block i (Nat.lt_of_lt_of_le hi h.size)).trans (h.block i hi)⟩
theorem Grow.drawn(w:World)(n:Nat):Grow w {w with drawn:=n}:=⟨rfl,rfl,rfl,znb _,λ_ _=>rfl⟩
theorem Grow.alloc(w:World)(o:Obj):Grow w (w.alloc o):=⟨rfl,rfl,rfl,by simp,λ_ hk=>Below.heap_alloc _ _ _ hk⟩
theorem Frame'.grow{B:Base}{w w':World}(h:Frame' B w)(g:Grow w w'):Frame' B w':=
 ⟨g.os.trans h.os,g.tape.trans h.tape,g.output.trans h.output,Nat.le_trans h.size g.size,λb hb hl=>(g.block b (Nat.lt_of_lt_of_le hb h.size)).trans (h.block b hb hl),
  λb hb=>(g.block b (Nat.lt_of_lt_of_le (h.lt b hb) h.size)).trans (h.stay b hb),λb n k=>g.szAt (h.sz b n k),h.lt,h.tab⟩
theorem Mem.grow{B:Base}{S:Nat->Prop}{rho:Nat->Nat}{A:Nat->Prop}{hp:List (Nat×Blk)}{w w':World}(h:Mem B S rho A hp w)(g:Grow w w'):Mem B S rho A hp w' where
 cells id k hk ha:=(h.cells id k hk ha).mono (g.block _ (h.lt hk ha)) (λb hb=>⟨hb,g.block b (h.slt b hb)⟩) (λ_ h=>⟨h,rfl,λ_=>g.szAt⟩)
 fz:=h.fz
 own:=h.own
 inj:=h.inj
 slt b hb:=Nat.lt_of_lt_of_le (h.slt b hb) g.size
 sub:=h.sub
 base:=h.base
 frame:=h.frame.grow g
 keep:=h.keep
def hdel(l:List (Nat×Blk))(t:Nat):List (Nat×Blk):=l.filter λp=>p.1 !=t
theorem hget_hdel(l:List (Nat×Blk))(t t':Nat):hget (hdel l t) t'=if t'=t then none else hget l t':=by
 induction l with
 |nil=>simp[hdel,hget]
 | cons p r ih=>
  obtain⟨k,x⟩:=p;simp only[hdel]at ih⊢;rw[List.filter_cons];by_cases h:k=t
  ·subst h;simp only[bne_self_eq_false,Bool.false_eq_true,if_false,ih,hget];by_cases h2:t'=k<;>simp[h2]
  ·have:(k !=t)=true:=by simpa using h
   simp only[this,if_true,hget,ih];by_cases h2:t'=k;·subst h2;simp[h]
   ·simp[h2]
theorem Mem.less{B:Base}{S:Nat->Prop}{rho:Nat->Nat}{A:Nat->Prop}{hp hp':List (Nat×Blk)}{w:World}(h:Mem B S rho A hp w)(hs: ∀id k,hget hp' id=some k->hget hp id=some k):Mem B S rho A hp' w where
 cells id k hk:=h.cells id k (hs id k hk)
 fz id k hk:=h.fz id k (hs id k hk)
 own id k hk:=h.own id k (hs id k hk)
 inj id id' k k' hk hk':=h.inj id id' k k' (hs id k hk) (hs id' k' hk')
 slt:=h.slt
 sub:=h.sub
 base:=h.base
 frame:=h.frame
 keep:=h.keep
theorem Mem.come{B:Base}{S:Nat->Prop}{rho:Nat->Nat}{A:Nat->Prop}{hp:List (Nat×Blk)}{w:World}(h:Mem B S rho A hp w)(id:Nat)(hid: ¬A id)(k:Blk)(b:Nat)
  (hb: ∀i q,hget hp i=some q->A i->rho i≠b) (hs: ¬S b) (ho:B.n0<=b\/B.L b) (hk:Cellsat S rho A w b k):
  Mem B S (λi=>if i=id then b else rho i) (λi=>i=id\/A i) ((id,k)::hp) w:=by
 have hA: ∀i,A i->(i=id\/A i)/\(if i=id then b else rho i)=rho i/\ ∀n,szAt w (rho i) n->szAt w (rho i) n:=λi hi=>⟨.inr hi,if_neg (λe:i=id=>hid (e▸hi)),λ_ h=>h⟩
 have hS: ∀b,S b->S b/\w.heap[b]? =w.heap[b]? :=λb hb=>⟨hb,rfl⟩
 have hcase: ∀{P:Nat->Blk->Prop},P id k->(∀i q,i≠id->hget hp i=some q->P i q)-> ∀i q,hget ((id,k)::hp) i=some q->P i q:=by
  intro P h1 h2 i q hq;simp only[hget]at hq;by_cases e:i=id;·subst e;simp at hq;subst hq;exact h1
  ·rw[if_neg e]at hq;exact h2 i q e hq
 have hor: ∀{i},i≠id->(i=id\/A i)->A i:=λhne h=>h.resolve_left hne;exact{
  cells:=by
   refine hcase ?_ ?_;·intro _;rw[if_pos rfl];exact hk.mono rfl hS hA
   ·intro i q hne hq ha;rw[if_neg hne];exact(h.cells i q hq (hor hne ha)).mono rfl hS hA
  fz:=by
   refine hcase ?_ ?_;·intro _ _;rw[if_pos rfl];exact hs
   ·intro i q hne hq ha;rw[if_neg hne];exact h.fz i q hq (hor hne ha)
  own:=by
   refine hcase ?_ ?_;·intro _;rw[if_pos rfl];exact ho
   ·intro i q hne hq ha;rw[if_neg hne];exact h.own i q hq (hor hne ha)
  inj:=by
   intro i j q q' hi hj;refine hcase (P:=λi _=>(i=id\/A i)->(j=id\/A j)->(if i=id then b else rho i)=(if j=id then b else rho j)->i=j) ?_ ?_ i q hi
   ·refine hcase (P:=λj _=>(id=id\/A id)->(j=id\/A j)->(if id=id then b else rho id)=(if j=id then b else rho j)->id=j) (λ_ _ _=>rfl) ?_ j q' hj;intro j q' hne hq _ ha e;rw[if_pos rfl,if_neg hne]at e;exact absurd e.symm (hb j q' hq (hor hne ha))
   ·intro i q hne hq;refine hcase (P:=λj _=>(i=id\/A i)->(j=id\/A j)->(if i=id then b else rho i)=(if j=id then b else rho j)->i=j) ?_ ?_ j q' hj;·intro ha _ e;rw[if_pos rfl,if_neg hne]at e;exact absurd e (hb i q hq (hor hne ha))
    ·intro j q' hne' hq' ha ha' e;rw[if_neg hne,if_neg hne']at e;exact h.inj i j q q' hq hq' (hor hne ha) (hor hne' ha') e
  slt:=h.slt
  sub:=h.sub
  base:=h.base
  frame:=h.frame
  keep:=λi hi=>⟨.inr (h.keep i hi).1,by show(if i=id then b else rho i)=_;rw[if_neg (λe:i=id=>hid (e▸(h.keep i hi).1))];exact(h.keep i hi).2⟩}
theorem Mem.new{B:Base}{S:Nat->Prop}{rho:Nat->Nat}{A:Nat->Prop}{hp:List (Nat×Blk)}{w w':World}(h:Mem B S rho A hp w)(g:Grow w w')(id:Nat)(hid: ¬A id)(k:Blk)(b:Nat)
  (hb:w.heap.size<=b) (hk:Cellsat S rho A w' b k):Mem B S (λi=>if i=id then b else rho i) (λi=>i=id\/A i) ((id,k)::hp) w':=
 (h.grow g).come id hid k b (λi q hq ha e=>by have:=h.lt hq ha;omega) (λe=>by have:=h.slt b e;omega) (.inl (Nat.le_trans h.frame.size hb)) hk
theorem Mem.set{B:Base}{S:Nat->Prop}{rho:Nat->Nat}{A:Nat->Prop}{hp:List (Nat×Blk)}{w w':World}(h:Mem B S rho A hp w)(id:Nat)(k k':Blk)(hk:hget hp id=some k)(ha:A id)(hz:k.fz=false)
  (h1:w'.os=w.os) (h2:w'.tape=w.tape) (h3:w'.output=w.output) (h4:w'.heap.size=w.heap.size) (h5: ∀b,b≠rho id->w'.heap[b]? =w.heap[b]?)
  (h6: ∀n,szAt w (rho id) n->szAt w' (rho id) n) (hk':Cellsat S rho A w' (rho id) k'):Mem B S rho A (hset hp id k') w':=by
 have hns: ¬S (rho id):=h.fz id k hk ha hz;have hS: ∀b,S b->S b/\w'.heap[b]? =w.heap[b]? :=λb hb=>⟨hb,h5 b (λe=>hns (e▸hb))⟩
 have hcase: ∀{P:Nat->Blk->Prop},P id k'->(∀i q,i≠id->hget hp i=some q->P i q)-> ∀i q,hget (hset hp id k') i=some q->P i q:=by
  intro P h1 h2 i q hq;rw[hget_hset]at hq;by_cases e:i=id;·subst e;rw[if_pos rfl,hk]at hq;simp at hq;subst hq;exact h1
  ·rw[if_neg e]at hq;exact h2 i q e hq
 have hold: ∀i q,hget (hset hp id k') i=some q-> ∃q',hget hp i=some q':=by refine hcase ⟨k,hk⟩ (λi q _ hq=>⟨q,hq⟩)
 exact{
  cells:=by
   refine hcase (λ_=>hk') ?_;intro i q hne hq hai;exact(h.cells i q hq hai).mono (h5 _ (λe=>hne (h.inj i id q k hq hk hai ha e))) hS (λj hj=>⟨hj,rfl,λn hn=>by
    by_cases e:rho j=rho id;·rw[e]at hn⊢;exact h6 n hn
    ·exact hn.of_heap (h5 _ e)⟩)
  fz:=hcase (λ_ _=>hns) (λi q _ hq=>h.fz i q hq)
  own:=hcase (h.own id k hk) (λi q _ hq=>h.own i q hq)
  inj:=by intro i j q q' hi hj hai haj e;obtain⟨qi,hi'⟩:=hold i q hi;obtain⟨qj,hj'⟩:=hold j q' hj;exact h.inj i j qi qj hi' hj' hai haj e
  slt:=λb hb=>by rw[h4];exact h.slt b hb
  sub:=h.sub
  base:=h.base
  frame:={
   os:=h1.trans h.frame.os
   tape:=h2.trans h.frame.tape
   output:=h3.trans h.frame.output
   size:=by rw[h4];exact h.frame.size
   block:=λb hb hl=>by
    have:b≠rho id:=by
     intro e;subst e;rcases h.own id k hk ha with h'|h';·unfold Base.n0 at h';omega
     ·exact hl h'
    rw[h5 b this];exact h.frame.block b hb hl
   stay:=λb hb=>by have:b≠rho id:=λe=>hns (e▸h.sub b hb);rw[h5 b this];exact h.frame.stay b hb
   sz:=λb n hk=>by
    have h0:=h.frame.sz b n hk;by_cases e:b=rho id;·subst e;exact h6 _ h0
    ·exact h0.of_heap (h5 b e)
   lt:=h.frame.lt
   tab:=h.frame.tab}
  keep:=h.keep}
theorem Mem.tab{B:Base}{S:Nat->Prop}{rho:Nat->Nat}{A:Nat->Prop}{hp:List (Nat×Blk)}{w:World}(h:Mem B S rho A hp w):TabOK S w:=λg cs hg=>by obtain⟨h1,h2⟩:=h.frame.tab g cs hg;exact⟨h.sub g h1,λi v hi=>(cell_of_heap (h.frame.stay g h1) i).trans (h2 i v hi)⟩
end
section
open Go.RowKit
def szOf(P:Program)(t:TypeId):Option Nat:=(P.info? t).map (·.size)
def zeroOf(P:Program)(t:TypeId):Option Value:=(P.info? t).bind (·.zero)
def aggD:TypeDesc->Bool
 | .struct _| .array _ _=>true
 |_=>false
def aggOf(P:Program)(t:TypeId):Option Bool:=(P.underlying t).map aggD
def fldOf(P:Program)(T:TypeId)(f:Nat):Option (Nat×TypeId×Nat):=
 match P.underlying T with
 |some (.struct fs)=>(fs[f]?).bind λf=>(szOf P f.type).map λz=>(f.offset,f.type,z)
 |_=>none
def slOf(P:Program)(t:TypeId):Option (TypeId×Nat):=
 match P.underlying t with
 |some (.slice e)=>(szOf P e).map λz=>(e,z)
 |_=>none
def arOf(P:Program)(t:TypeId):Option (Nat×TypeId×Nat):=
 match P.underlying t with
 |some (.array n e)=>(szOf P e).map λz=>(n,e,z)
 |_=>none
def intOf'(P:Program)(t:TypeId):Option IntKind:=
 match P.underlying t with
 |some (.int k)=>some k
 |_=>none
section
variable {P:Program} {w:World} {S:Nat->Prop} {rho:Nat->Nat} {A:Nat->Prop}
theorem run_sizeOf{t:TypeId}{n:Nat}(h:szOf P t=some n):(sizeOf t).run P w= .ok n w:=by
 unfold szOf at h;cases hi:P.info? t with
 |none=>simp[hi]at h
 |some i=>simp[hi]at h;simp[sizeOf,typeInfo,hi,h]
theorem run_isAgg{t:TypeId}{b:Bool}(h:aggOf P t=some b):(isAgg t).run P w= .ok b w:=by
 unfold aggOf at h;cases hu:P.underlying t with
 |none=>simp[hu]at h
 |some d=>
  simp[hu]at h;unfold isAgg;rw[Sem.run_bind,run_underlying hu w];cases d<;>simp_all [aggD]
theorem run_zeroValue{t:TypeId}{v:Value}(h:zeroOf P t=some v):(zeroValue t).run P w= .ok v w:=by
 unfold zeroOf at h;cases hi:P.info? t with
 |none=>simp[hi]at h
 |some i=>simp[hi]at h;simp[zeroValue,typeInfo,hi,h]
theorem slOf_und{t e:TypeId}{z:Nat}(h:slOf P t=some (e,z)):P.underlying t=some (.slice e)/\szOf P e=some z:=by
 unfold slOf at h;split at h
 ·rename_i e' he;cases hz:szOf P e' with
  |none=>simp[hz]at h
  |some n=>simp[hz]at h;obtain⟨rfl,rfl⟩:=h;exact⟨he,hz⟩
 ·cases h
theorem arOf_und{t e:TypeId}{n z:Nat}(h:arOf P t=some (n,e,z)):P.underlying t=some (.array n e)/\szOf P e=some z:=by
 unfold arOf at h;split at h
 ·rename_i n' e' he;cases hz:szOf P e' with
  |none=>simp[hz]at h
  |some n=>simp[hz]at h;obtain⟨rfl,rfl,rfl⟩:=h;exact⟨he,hz⟩
 ·cases h
theorem fldOf_und{T t:TypeId}{f o z:Nat}(h:fldOf P T f=some (o,t,z)): ∃fs fd,P.underlying T=some (.struct fs)/\fs[f]? =some fd/\fd.offset=o/\fd.type=t/\szOf P t=some z:=by
 unfold fldOf at h;split at h
 ·rename_i fs he;cases hf:fs[f]?with
  |none=>simp[hf]at h
  |some fd=>
   simp[hf]at h;obtain⟨z',hz,rfl,rfl,rfl⟩:=h;exact⟨fs,fd,he,hf,rfl,rfl,hz⟩
 ·cases h
theorem intOf_und{t:TypeId}{k:IntKind}(h:intOf' P t=some k):P.underlying t=some (.int k):=by
 unfold intOf' at h;split at h;·simp at h;subst h;assumption
 ·cases h
def isBool(P:Program)(t:TypeId):Bool:=
 match P.underlying t with
 |some .bool=>true
 |_=>false
theorem isBool_und{t:TypeId}(h:isBool P t=true):P.underlying t=some .bool:=by
 unfold isBool at h;split at h;·assumption
 ·cases h
def isStr(P:Program)(t:TypeId):Bool:=
 match P.underlying t with
 |some .string=>true
 |_=>false
theorem isStr_und{t:TypeId}(h:isStr P t=true):P.underlying t=some .string:=by
 unfold isStr at h;split at h;·assumption
 ·cases h
def hasT(P:Program)(t:TypeId):Bool:=(P.underlying t).isSome
def ofV:Value->V
 | .agg cs=> .ag (cs.toList.map .sc)
 |v=> .sc v
theorem R.ofV(v:Value):R S rho w A (ofV v) v:=by
 cases v<;>try exact .sc _
 refine .ag (by simp) ?_;intro i x u hx hu;simp only[List.getElem?_map,Array.getElem?_toList,hu,Option.map_some,Option.some.injEq]at hx;subst hx;exact .sc _
def globV(g:Nat):V:=
 match tabG g with
 |some cs=> .pi (cs.map .sc)
 |none=> .sc (.pointer (some ⟨g,0,none⟩))
def evS(sl:List (Nat×V)):Operand->V
 | .tmp t=>get sl t
 | .const v=>ofV v
 | .global g=>globV g
 | .func f=> .sc (.func (.func f) #[] #[])
def vcells:V->Option (List V)
 | .ag cs=>some cs
 | .tu _| .junk| .mp _ _ _ _| .ifc _ _| .sc (.agg _)| .sc (.tuple _)=>none
 |x=>some [x]
theorem vcells_sound{x:V}{v:Value}{cs:List V}(h:R S rho w A x v)(hc:vcells x=some cs):
  v.cells.size=cs.length/\ ∀(i:Nat) (y:V) (u:Value),cs[i]? =some y->v.cells[i]? =some u->R S rho w A y u:=by
 have one: ∀(y:V) (v:Value),R S rho w A y v->(∀c,v≠ .agg c)->v.cells.size=[y].length/\ ∀(i:Nat) (z:V) (u:Value),[y][i]? =some z->v.cells[i]? =some u->R S rho w A z u:=by
  intro y v hR hne;have hv:v.cells= #[v]:=by cases v<;>first|rfl|exact absurd rfl (hne _)
  rw[hv];refine⟨rfl,λi z u hz hu=> ?_⟩;cases i with
  |zero=>simp at hz hu;subst hz;subst hu;exact hR
  |succ i=>simp at hz
 cases h with
 |sc v=>
  cases v<;>simp[vcells]at hc<;>subst hc<;>exact one _ _ (.sc _) (by intros;simp)
 |junk v=>simp[vcells]at hc
 |ag hl hi=>simp only[vcells,Option.some.injEq]at hc;subst hc;exact⟨hl.symm,hi⟩
 |tu hl hi=>simp[vcells]at hc
 |pt ha=>simp only[vcells,Option.some.injEq]at hc;subst hc;exact one _ _ (.pt ha) (by intros;simp)
 |sl a b c d e=>simp only[vcells,Option.some.injEq]at hc;subst hc;exact one _ _ (.sl a b c d e) (by intros;simp)
 |sln a=>simp only[vcells,Option.some.injEq]at hc;subst hc;exact one _ _ (.sln a) (by intros;simp)
 |im0 a b c=>simp only[vcells,Option.some.injEq]at hc;subst hc;exact one _ _ (.im0 a b c) (by intros;simp)
 |im1 f a b c d e=>simp only[vcells,Option.some.injEq]at hc;subst hc;exact one _ _ (.im1 f a b c d e) (by intros;simp)
 |pi f a b c=>simp only[vcells,Option.some.injEq]at hc;subst hc;exact one _ _ (.pi f a b c) (by intros;simp)
 |fn a b c d=>simp only[vcells,Option.some.injEq]at hc;subst hc;exact one _ _ (.fn a b c d) (by intros;simp)
 |mp a b c d e f=>simp[vcells]at hc
 |ifc a=>simp[vcells]at hc
def ldV(P:Program)(t:TypeId)(cs:List V)(off:Nat):Option V:=
 match aggOf P t,szOf P t with
 |some true,some n=>if off+n<=cs.length then some (.ag ((cs.drop off).take n))else none
 |some false,some _=>cs[off]?
 |_,_=>none
theorem addrAdd(b o j:Nat):(⟨b,o,none⟩:Addr).add j=⟨b,o+j,none⟩:=by unfold Addr.add;split<;>simp_all
theorem ld_sound{t:TypeId}{cs:List V}{off b o:Nat}{x:V}(rd:Nat->Value)(h:ldV P t cs off=some x)
  (hc: ∀(i:Nat) (y:V),cs[i]? =some y->w.cell? ⟨b,o+i,none⟩=some (rd i)) (hx: ∀(i:Nat) (y:V),cs[i]? =some y->R S rho w A y (rd i)):
  ∃v,(loadVar t ⟨b,o+off,none⟩).run P w= .ok v w/\R S rho w A x v:=by
 unfold ldV at h;split at h
 ·rename_i n ha hz;split at h
  ·rename_i hle;simp only[Option.some.injEq]at h;subst h;refine⟨.agg ((List.range n).map λi=>rd (off+i)).toArray,?_,?_⟩
   ·have hl:=run_loadCells (P:=P) w ⟨b,o+off,none⟩ n (λi=>rd (off+i)) (λj hj=>by
     rw[addrAdd,znf];exact hc (off+j) _ (zlb om))
    simp[loadVar,Sem.run_bind,run_isAgg ha,run_sizeOf hz,hl]
   ·refine .ag (by simp;omega) ?_;intro i y u hy hu;rw[List.getElem?_take]at hy;split at hy
    ·rw[zl5]at hy;have:u=rd (off+i):=by
      rw[List.getElem?_toArray,List.getElem?_map,List.getElem?_range ‹_›]at hu;simpa using hu.symm
     subst this;exact hx _ _ hy
    ·cases hy
  ·cases h
 ·rename_i ha hz;refine⟨rd off,?_,hx off x h⟩;simp[loadVar,Sem.run_bind,run_isAgg ha,load,Sem.run,hc off x h]
 ·cases h
theorem Cellsat.reader{b:Nat}{k:Blk}(h:Cellsat S rho A w b k): ∃rd:Nat->Value,(∀(i:Nat) (y:V),k.cs[i]? =some y->w.cell? ⟨b,0+i,none⟩=some (rd i))/\ ∀(i:Nat) (y:V),k.cs[i]? =some y->R S rho w A y (rd i):=by
 obtain⟨cells,h1,h2⟩:=h;refine⟨λi=>cells.getD i undef,λi y hy=> ?_,λi y hy=> ?_⟩
 ·obtain⟨u,hu,_⟩:=h2 i y hy;rw[zn9,cell_of_row w b i cells _ _ h1];simp[hu]
 ·obtain⟨u,hu,hr⟩:=h2 i y hy;have:cells.getD i undef=u:=by simp[hu]
  show R S rho w A y (cells.getD i undef);rw[this];exact hr
def exLoad(P:Program)(hp:List (Nat×Blk))(t:TypeId):V->Option V
 | .pt id off=>(hget hp id).bind λk=>ldV P t k.cs off
 | .pi cs=>ldV P t cs 0
 |_=>none
theorem load_sound{B:Base}{hp:List (Nat×Blk)}(hm:Mem B S rho A hp w){t:TypeId}{a x:V}{va:Value}(h:exLoad P hp t a=some x)(ha:R S rho w A a va):
  ∃v,(Instr.loadAt t va).run P w= .ok v w/\R S rho w A x v:=by
 cases ha<;>simp only[exLoad]at h<;>try(cases h;done)
 ·rename_i id off hid;cases hk:hget hp id with
  |none=>simp[hk]at h
  |some k=>
   simp[hk]at h;obtain⟨rd,h1,h2⟩:=(hm.cells id k hk hid).reader;have:=ld_sound (P:=P) rd h h1 h2;simpa[Instr.loadAt,Instr.sureAddr]using this
 ·rename_i cs b off f hS hc hx;obtain⟨v,h1,h2⟩:=ld_sound (P:=P) f h hc hx;exact⟨v,by simpa[Instr.loadAt,Instr.sureAddr]using h1,h2.open⟩
def partV(P:Program)(t:TypeId)(cs:List V)(off:Nat):Option V:=
 match aggOf P t,szOf P t with
 |some true,some z=>some (.ag ((cs.drop off).take z))
 |some false,some _=>cs[off]?
 |_,_=>none
theorem part_sound{t:TypeId}{cs:List V}{off:Nat}{x:V}{vs:Array Value}(h:partV P t cs off=some x)(hl:cs.length=vs.size)
  (hi: ∀(i:Nat) (x:V) (u:Value),cs[i]? =some x->vs[i]? =some u->R S rho w A x u): ∃v,(part t vs off).run P w= .ok v w/\R S rho w A x v:=by
 unfold partV at h;split at h
 ·rename_i z ha hz;simp only[Option.some.injEq]at h;subst h;refine⟨.agg (vs.extract off (off+z)),by simp[part,Sem.run_bind,run_isAgg ha,run_sizeOf hz],.ag (by simp;omega) ?_⟩;intro i y u hy hu;rw[List.getElem?_take]at hy;split at hy
  ·rw[zl5]at hy;rw[Array.getElem?_extract]at hu;split at hu;·exact hi _ _ _ hy hu
   ·cases hu
  ·cases hy
 ·rename_i ha hz;have hlt:=(List.getElem?_eq_some_iff.1 h).1;have hv:vs[off]? =some (vs[off]'om):=Array.getElem?_eq_getElem om;refine⟨_,?_,hi off x _ h hv⟩;simp[part,Sem.run_bind,run_isAgg ha,hv]
 ·cases h
def exField(P:Program)(T:TypeId)(f:Nat):V->Option V
 | .ag cs=>(fldOf P T f).bind λ(o,t,_)=>partV P t cs o
 |_=>none
theorem field_sound{T:TypeId}{f:Nat}{a x:V}{va:Value}(h:exField P T f a=some x)(ha:R S rho w A a va): ∃v,(Instr.field T va f).run P w= .ok v w/\R S rho w A x v:=by
 cases ha<;>simp only[exField]at h<;>try(cases h;done)
 rename_i cs vs hl hi;cases hf:fldOf P T f with
 |none=>simp[hf]at h
 |some p=>
  obtain⟨o,t,z⟩:=p;simp only[hf,Option.bind_some]at h;obtain⟨fs,fd,hu,hfs,rfl,rfl,hz⟩:=fldOf_und hf;obtain⟨v,hv,hr⟩:=part_sound h hl hi;exact⟨v,by simp[Instr.field,run_underlying hu,hfs,asAgg,hv],hr⟩
def exFieldAddr(P:Program)(T:TypeId)(f:Nat):V->Option V
 | .pt id off=>(fldOf P T f).bind λ(o,_,z)=>if z=0 then none else some (.pt id (off+o))
 | .pi cs=>(fldOf P T f).bind λ(o,_,z)=>if z=0 then none else some (.pi (cs.drop o))
 |_=>none
theorem pi_drop{cs:List V}{b off:Nat}{f:Nat->Value}(hS:S b)(hc: ∀(i:Nat) (x:V),cs[i]? =some x->w.cell? ⟨b,off+i,none⟩=some (f i))
  (hx: ∀(i:Nat) (x:V),cs[i]? =some x->R S rho w (λ_=>False) x (f i)) (o:Nat):R S rho w A (.pi (cs.drop o)) (.pointer (some ⟨b,off+o,none⟩)):=
 .pi (λi=>f (o+i)) hS (λi x h=>by rw[zl5]at h;rw[znf];exact hc _ _ h) (λi x h=>by rw[zl5]at h;exact hx _ _ h)
theorem fieldAddr_sound{T:TypeId}{f:Nat}{a x:V}{va:Value}(h:exFieldAddr P T f a=some x)(ha:R S rho w A a va): ∃v,(Instr.fieldAt T va f).run P w= .ok v w/\R S rho w A x v:=by
 have key: ∀{id off o t z},fldOf P T f=some (o,t,z)->z≠0->(Instr.fieldAt T (.pointer (some ⟨id,off,none⟩)) f).run P w= .ok (.pointer (some ⟨id,off+o,none⟩)) w:=by intro id off o t z hf hz;obtain⟨fs,fd,hu,hfs,rfl,rfl,hz'⟩:=fldOf_und hf;simp[Instr.fieldAt,run_underlying hu,hfs,Instr.sureAddr,fieldPlace,Sem.run_bind,run_sizeOf hz',hz,addrAdd]
 cases ha<;>simp only[exFieldAddr]at h<;>try(cases h;done)
 ·rename_i id off hid;cases hf:fldOf P T f with
  |none=>simp[hf]at h
  | some p=>
   obtain⟨o,t,z⟩:=p;simp only[hf,Option.bind_some]at h;split at h;·cases h
   ·simp only[Option.some.injEq]at h;subst h;exact⟨_,key hf ‹_›,.pt hid⟩
 ·rename_i cs b off g hS hc hx;cases hf:fldOf P T f with
  |none=>simp[hf]at h
  | some p=>
   obtain⟨o,t,z⟩:=p;simp only[hf,Option.bind_some]at h;split at h;·cases h
   ·simp only[Option.some.injEq]at h;subst h;exact⟨_,key hf ‹_›,pi_drop hS hc hx o⟩
def exIndexAddr(P:Program)(T:TypeId)(x i:V):Option V:=
 match i with
 | .sc (.int _ n)=>
  match x with
  | .sl id off len _ _=>(slOf P T).bind λ(_,z)=>if 0<=n/\n<len then some (.pt id (off+n.toNat*z))else none
  | .im cs len=>(slOf P T).bind λ(_,z)=>if 0<=n/\n<len/\n.toNat*z<cs.length then some (.pi (cs.drop (n.toNat*z)))else none
  | .pt id off=>(arOf P T).bind λ(len,_,z)=>if 0<=n/\n<len then some (.pt id (off+n.toNat*z))else none
  | .pi cs=>(arOf P T).bind λ(len,_,z)=>if 0<=n/\n<len then some (.pi (cs.drop (n.toNat*z)))else none
  |_=>none
 |_=>none
theorem indexAddr_sound{T:TypeId}{x i y:V}{vx vi:Value}(h:exIndexAddr P T x i=some y)(hx:R S rho w A x vx)(hi:R S rho w A i vi):
  ∃v,(Instr.indexAt T vx vi).run P w= .ok v w/\R S rho w A y v:=by
 unfold exIndexAddr at h;split at h
 ·rename_i i k n;cases hi;have keyS: ∀{b off len c e z},slOf P T=some (e,z)->0<=n->n<(len:Nat)->(Instr.indexAt T (.slice (some ⟨b,off,none⟩) len c) (.int k n)).run P w= .ok (.pointer (some ⟨b,off+n.toNat*z,none⟩)) w:=by
   intro b off len c e z hs h1 h2;obtain⟨hu,hz⟩:=slOf_und hs;simp[Instr.indexAt,asIntOf,run_underlying hu,h1,h2,Sem.run_bind,run_sizeOf hz,addrAdd]
  have keyA: ∀{b off len e z},arOf P T=some (len,e,z)->0<=n->n<(len:Nat)->(Instr.indexAt T (.pointer (some ⟨b,off,none⟩)) (.int k n)).run P w= .ok (.pointer (some ⟨b,off+n.toNat*z,none⟩)) w:=by intro b off len e z hs h1 h2;obtain⟨hu,hz⟩:=arOf_und hs;simp[Instr.indexAt,asIntOf,run_underlying hu,h1,h2,Instr.sureAddr,Sem.run_bind,run_sizeOf hz,addrAdd]
  split at h
  ·rename_i id off len z0 cap;cases hs:slOf P T with
   |none=>simp[hs]at h
   | some p=>
    obtain⟨e,z⟩:=p;simp only[hs,Option.bind_some]at h;split at h
    ·rename_i hb;simp only[Option.some.injEq]at h;subst h;cases hx with
     |sln=>omega
     |sl hid hl hm hc hz0=>exact⟨_,keyS hs hb.1 hb.2,.pt hid⟩
    ·cases h
  ·rename_i cs len;cases hs:slOf P T with
   |none=>simp[hs]at h
   | some p=>
    obtain⟨e,z⟩:=p;simp only[hs,Option.bind_some]at h;split at h
    ·rename_i hb;simp only[Option.some.injEq]at h;subst h;cases hx with
     |im0=>simp at hb
     |im1 f hl hm hS hc hx=>exact⟨_,keyS hs hb.1 hb.2.1,pi_drop hS hc hx _⟩
    ·cases h
  ·rename_i id off;cases hx with|pt hid=>
   cases hs:arOf P T with
   |none=>simp[hs]at h
   | some p=>
    obtain⟨len,e,z⟩:=p;simp only[hs,Option.bind_some]at h;split at h
    ·rename_i hb;simp only[Option.some.injEq]at h;subst h;exact⟨_,keyA hs hb.1 hb.2,.pt hid⟩
    ·cases h
  ·rename_i cs;cases hs:arOf P T with
   |none=>simp[hs]at h
   | some p=>
    obtain⟨len,e,z⟩:=p;simp only[hs,Option.bind_some]at h;split at h
    ·rename_i hb;simp only[Option.some.injEq]at h;subst h;cases hx with
     |pi f hS hc hx=>exact⟨_,keyA hs hb.1 hb.2,pi_drop hS hc hx _⟩
    ·cases h
  ·cases h
 ·cases h
def exIndex(P:Program)(T:TypeId)(x i:V):Option V:=
 match x,i with
 | .ag cs,.sc (.int _ n)=>(arOf P T).bind λ(len,e,z)=>if 0<=n/\n<len then partV P e cs (n.toNat*z)else none
 | .sc (.string s),.sc (.int _ n)=>if isStr P T=true/\0<=n then(s[n.toNat]?).map λb=> .sc (.int .u8 b.toNat)else none
 |_,_=>none
theorem index_sound{T:TypeId}{x i y:V}{vx vi:Value}(h:exIndex P T x i=some y)(hx:R S rho w A x vx)(hi:R S rho w A i vi):
  ∃v,(Instr.index T vx vi).run P w= .ok v w/\R S rho w A y v:=by
 unfold exIndex at h;split at h
 ·rename_i cs k n;cases hi;cases hx;rename_i vs hl hi;cases hs:arOf P T with
  |none=>simp[hs]at h
  | some p=>
   obtain⟨len,e,z⟩:=p;simp only[hs,Option.bind_some]at h;split at h
   ·rename_i hb;obtain⟨hu,hz⟩:=arOf_und hs;obtain⟨v,hv,hr⟩:=part_sound h hl hi;exact⟨v,by simp[Instr.index,asIntOf,run_underlying hu,hb.1,hb.2,Sem.run_bind,run_sizeOf hz,hv],hr⟩
   ·cases h
 ·rename_i s k n;cases hx;cases hi;split at h
  ·rename_i hc;cases hb:s[n.toNat]?with
   |none=>simp[hb]at h
   |some b=>
    simp only[hb,Option.map_some,Option.some.injEq]at h;subst h;exact⟨_,by simp[Instr.index,asIntOf,run_underlying (isStr_und hc.1),hc.2,hb],.sc _⟩
  ·cases h
 ·cases h
def exExtract(ix:Nat):V->Option V
 | .tu cs=>cs[ix]?
 |_=>none
theorem extract_sound{ix:Nat}{a x:V}{va:Value}(h:exExtract ix a=some x)(ha:R S rho w A a va): ∃v,(Instr.extract va ix).run P w= .ok v w/\R S rho w A x v:=by
 cases ha<;>simp only[exExtract]at h<;>try(cases h;done)
 rename_i cs vs hl hi;have hlt:=(List.getElem?_eq_some_iff.1 h).1;have hv:vs[ix]? =some (vs[ix]'om):=Array.getElem?_eq_getElem om;exact⟨_,by simp[Instr.extract,hv],hi ix x _ h hv⟩
def binI(op:BinOp)(k:IntKind)(a b:Int):Option Value:=
 match op with
 | .add=>some (.int k (k.wrap (a+b)))
 | .sub=>some (.int k (k.wrap (a-b)))
 | .mul=>some (.int k (k.wrap (a*b)))
 | .quo=>if b=0 then none else some (.int k (k.wrap (a.tdiv b)))
 | .rem=>if b=0 then none else some (.int k (a.tmod b))
 | .and=>some (.int k (k.wrap (BitVec.ofInt k.bits a&&&BitVec.ofInt k.bits b).toNat))
 | .or=>some (.int k (k.wrap (BitVec.ofInt k.bits a|||BitVec.ofInt k.bits b).toNat))
 | .xor=>some (.int k (k.wrap (BitVec.ofInt k.bits a^^^BitVec.ofInt k.bits b).toNat))
 | .andNot=>some (.int k (k.wrap (BitVec.ofInt k.bits a&&& ~~~BitVec.ofInt k.bits b).toNat))
 | .eql=>some (.bool (a==b))
 | .neq=>some (.bool (a !=b))
 | .lss=>some (.bool (decide (a<b)))
 | .leq=>some (.bool (decide (a<=b)))
 | .gtr=>some (.bool (decide (a>b)))
 | .geq=>some (.bool (decide (a>=b)))
 |_=>none
def shI(op:BinOp)(k:IntKind)(a b:Int):Option Value:=
 if b<0 then none else
 match op with
 | .shl=>some (.int k (k.wrap (a*2^min b.toNat k.bits)))
 | .shr=>some (.int k (a.fdiv (2^min b.toNat k.bits)))
 |_=>none
def strB(op:BinOp)(x y:ByteArray):Option Value:=
 match op with
 | .add=>if((x.size+y.size:Nat):Int)>9223372036854775807 then none else some (.string (x++y))
 | .eql=>some (.bool (x.toList==y.toList))
 | .neq=>some (.bool !(x.toList==y.toList))
 | .lss=>some (.bool (Op.bytesLess x.toList y.toList))
 | .leq=>some (.bool (Op.bytesLess x.toList y.toList||x.toList==y.toList))
 | .gtr=>some (.bool !(Op.bytesLess x.toList y.toList||x.toList==y.toList))
 | .geq=>some (.bool !(Op.bytesLess x.toList y.toList))
 |_=>none
theorem str_sound{op:BinOp}{t:TypeId}{a b:ByteArray}{v:Value}(h:strB op a b=some v):(binOp op t (.string a) (.string b)).run P w= .ok v w:=by
 have e:binOp op t (.string a) (.string b)=Op.stringOp op a b:=by cases op<;>rfl
 rw[e];have hm:IntKind.i64.max=9223372036854775807:=rfl;unfold strB at h;cases op<;>simp only at h<;>try(cases h;done)
 all_goals try(simp only[Option.some.injEq]at h;subst h;simp[Op.stringOp];done)
 split at h;·cases h
 ·rename_i hc;simp only[Option.some.injEq]at h;subst h;simp only[Op.stringOp,hm,if_neg hc];rfl
def isSl(P:Program)(t:TypeId):Bool:=
 match P.underlying t with
 |some (.slice _)=>true
 |_=>false
theorem isSl_und{t:TypeId}(h:isSl P t=true): ∃e,P.underlying t=some (.slice e):=by
 unfold isSl at h;split at h;·exact⟨_,‹_›⟩
 ·cases h
def nilB(op:BinOp)(eq:Bool):Option V:=
 match op with
 | .eql=>some (.sc (.bool eq))
 | .neq=>some (.sc (.bool !eq))
 |_=>none
theorem nil_sound{op:BinOp}{t:TypeId}{ox oy:Operand}{a:Option Addr}{n c:Nat}{eq:Bool}{r:V}(hu:isSl P t=true)(h:nilB op eq=some r)(ha:a.isNone=eq):
  ∃v,(do eqGuard op t ox oy (.slice a n c) (.slice none 0 0);binOp op t (.slice a n c) (.slice none 0 0):Sem Value).run P w= .ok v w/\R S rho w A r v:=by
 have hg:eqGuard op t ox oy (.slice a n c) (.slice none 0 0)=pure ():=by cases op<;>rfl
 rw[hg];obtain⟨e,hu⟩:=isSl_und hu;have he: ∀d,(Op.equalIn (d+1) t (.slice a n c) (.slice none 0 0)).run P w= .ok eq w:=by
  intro d;cases a with
  |none=>subst ha;simp[Op.equalIn,run_underlying hu]
  |some ad=>subst ha;simp[Op.equalIn,run_underlying hu]
 have he':(Op.equal t (.slice a n c) (.slice none 0 0)).run P w= .ok eq w:=he 9999;unfold nilB at h;split at h
 ·simp only[Option.some.injEq]at h;subst h;exact⟨.bool eq,by simp[binOp,he'],.sc _⟩
 ·simp only[Option.some.injEq]at h;subst h;exact⟨.bool (!eq),by simp[binOp,he'],.sc _⟩
 ·cases h
def intsOf(k:IntKind):List V->Option (List Int)
 |[]=>some []
 | .sc (.int k' n)::r=>if k'=k then(intsOf k r).map (n:: ·)else none
 |_=>none
theorem intsOf_get{k:IntKind}: ∀{cs:List V} {l:List Int},intsOf k cs=some l->cs.length=l.length/\ ∀(i:Nat) (n:Int),l[i]? =some n->cs[i]? =some (.sc (.int k n))
 |[],l,h=>by cases h;exact⟨rfl,λi n h=>by simp at h⟩
 | .sc (.int k' n)::r,l,h=>by
  unfold intsOf at h;split at h
  ·rename_i hk;subst hk;cases hr:intsOf k' r with
   |none=>simp[hr]at h
   |some l'=>
    simp only[hr,Option.map_some,Option.some.injEq]at h;subst h;obtain⟨h1,h2⟩:=intsOf_get hr;refine⟨by simp[h1],λi n hi=> ?_⟩;cases i with
    |zero=>simp at hi;simp[hi]
    |succ i=>simp at hi;simpa using h2 i n hi
  ·cases h
theorem ints_vals{k:IntKind}{cs:List V}{l:List Int}{v:Value}(h:intsOf k cs=some l)(hR:R S rho w A (.ag cs) v): ∃vs:Array Value,v= .agg vs/\ ∀(i:Nat) (n:Int),l[i]? =some n->vs[i]? =some (.int k n):=by
 obtain⟨h1,h2⟩:=intsOf_get h;cases hR with
 |ag hl hi=>
  rename_i vs;refine⟨vs,rfl,λi n hn=> ?_⟩;have hc:=h2 i n hn;have hlt:i<vs.size:=by rw[<-hl,h1];exact(List.getElem?_eq_some_iff.1 hn).1
  have hv:vs[i]? =some vs[i]:=Array.getElem?_eq_getElem hlt;have:=hi i _ _ hc hv;rw[hv];generalize vs[i]=u at*;cases this;rfl
def arrB(P:Program)(op:BinOp)(t:TypeId)(cs ds:List V):Option V:=
 (arOf P t).bind λ(n,e,z)=>(intOf' P e).bind λk=>(intsOf k cs).bind λl=>(intsOf k ds).bind λm=>
  if z=1/\l.length=n/\m.length=n then(match op with| .eql=>some (.sc (.bool (decide (l=m))))| .neq=>some (.sc (.bool (!decide (l=m))))|_=>none)else none
theorem run_eqItems_int{d:Nat}{e:TypeId}{k:IntKind}{xs ys:Array Value}{l m:List Int}(hu:P.underlying e=some (.int k))(hx: ∀(i:Nat) (n:Int),l[i]? =some n->xs[i]? =some (.int k n))(hy: ∀(i:Nat) (n:Int),m[i]? =some n->ys[i]? =some (.int k n))(hlm:l.length=m.length):
  ∀(is:List Nat),(∀i∈is,i<l.length)->(Op.eqItems (d+1) e 1 xs ys is).run P w= .ok (is.all λi=>l[i]? ==m[i]?) w
 |[],_=>by simp[Op.eqItems]
 | i::is,hlt=>by
  have hi:=hlt i (by simp);have hi2:i<m.length:=hlm▸hi;have ih:=run_eqItems_int (d:=d) hu hx hy hlm is (λj hj=>hlt j (by simp[hj]));have h1:xs[i]? =some (.int k l[i]):=hx i _ (zlb hi);have h2:ys[i]? =some (.int k m[i]):=hy i _ (zlb hi2);have p1: ∀(zs:Array Value) (v:Value),zs[i]? =some v->(part e zs (i*1)).run P w= .ok v w:=λzs v hz=>by simp[part,isAgg,run_underlying hu,hz]
  simp only[Op.eqItems,Sem.run_bind,p1 xs _ h1,p1 ys _ h2,Result.andThen_ok];have he:(Op.equalIn (d+1) e (.int k l[i]) (.int k m[i])).run P w= .ok (l[i]==m[i]) w:=by simp[Op.equalIn,run_underlying hu]
  rw[he];simp only[Result.andThen_ok];have e3:(l[i]? ==m[i]?)=(l[i]==m[i]):=by rw[zlb hi,zlb hi2];rfl
  cases hb:(l[i]==m[i])
  ·simp[hb,e3]
  ·simp[hb,e3,ih]
theorem run_eqGuard_int{t e:TypeId}{n d:Nat}{k:IntKind}{xs ys:Array Value}{l m:List Int}(ht:P.underlying t=some (.array n e))(hs:szOf P e=some 1)(hu:P.underlying e=some (.int k))(hx: ∀(i:Nat) (n:Int),l[i]? =some n->xs[i]? =some (.int k n))(hy: ∀(i:Nat) (n:Int),m[i]? =some n->ys[i]? =some (.int k n))(hl:l.length=n)(hm:m.length=n):
  (Op.eqGuardIn (d+2) t (.agg xs) (.agg ys)).run P w= .ok false w:=by
 have he: ∀a b:Int,(Op.eqGuardIn (d+1) e (.int k a) (.int k b)).run P w= .ok false w:=by intro a b;simp[Op.eqGuardIn,run_underlying hu]
 rw[show d+2=(d+1)+1 from rfl];generalize d+1=D at*;simp only[Op.eqGuardIn,Sem.run_bind,run_underlying ht,Result.andThen_ok,run_sizeOf hs];simp only[Std.Legacy.Range.forIn_eq_forIn_range',Std.Legacy.Range.size,Nat.sub_zero,Nat.add_one_sub_one,Nat.div_one];have hlt: ∀i∈List.range' 0 n,i<n:=λi hi=>by simp[List.mem_range']at hi;omega
 generalize List.range' 0 n=is at*;induction is with
 |nil=>simp
 | cons i is ih=>
  have hi:i<l.length:=hl▸hlt i (by simp);have hi2:i<m.length:=hm▸hlt i (by simp);have h1:xs[i]? =some (.int k l[i]):=hx i _ (zlb hi);have h2:ys[i]? =some (.int k m[i]):=hy i _ (zlb hi2);have p1: ∀(zs:Array Value) (v:Value),zs[i]? =some v->(part e zs (i*1)).run P w= .ok v w:=λzs v hz=>by simp[part,isAgg,run_underlying hu,hz]
  have ih':=ih (λj hj=>hlt j (by simp[hj]));simp only[List.forIn_cons,Sem.run_bind,p1 xs _ h1,p1 ys _ h2,Result.andThen_ok,he,Bool.false_eq_true,if_false,Sem.run_pure];exact ih'
theorem arrB_sound{op:BinOp}{t:TypeId}{ox oy:Operand}{cs ds:List V}{r:V}{vx vy:Value}(h:arrB P op t cs ds=some r)(hx:R S rho w A (.ag cs) vx)(hy:R S rho w A (.ag ds) vy):
  ∃v,(do eqGuard op t ox oy vx vy;binOp op t vx vy:Sem Value).run P w= .ok v w/\R S rho w A r v:=by
 unfold arrB at h;simp only[Option.bind_eq_some_iff]at h;obtain⟨⟨n,e,z⟩,h1,k,h2,l,h3,m,h4,h5⟩:=h;simp only at h1 h2 h3 h4 h5;split at h5
 ·rename_i hc;obtain⟨rfl,hl,hm⟩:=hc;obtain⟨ht,hs⟩:=arOf_und h1;have hu:=intOf_und h2;obtain⟨xs,rfl,gx⟩:=ints_vals h3 hx;obtain⟨ys,rfl,gy⟩:=ints_vals h4 hy;have hg: ∀op,(eqGuard op t ox oy (.agg xs) (.agg ys)).run P w= .ok () w:=by
   intro op;have key: ∀op',op'= .eql\/op'= .neq->(eqGuard op' t ox oy (.agg xs) (.agg ys)).run P w= .ok () w:=by rintro op' (rfl|rfl)<;>simp only[eqGuard]<;>simp[run_eqGuard_int (d:=9998) ht hs hu gx gy hl hm,Op.maxDepth]
   cases op<;>first|exact key _ (.inl rfl)|exact key _ (.inr rfl)|rfl
  have hi: ∃i,P.info? e=some i:=by
   unfold szOf at hs;cases hi:P.info? e with
   |none=>simp[hi]at hs
   |some i=>exact⟨i,rfl⟩
  obtain⟨inf,hi⟩:=hi;have hz:P.cellsOf e=1:=by unfold szOf at hs;rw[hi]at hs;simp at hs;simp[Program.cellsOf,hi,hs]
  have hq:(Op.equal t (.agg xs) (.agg ys)).run P w= .ok (decide (l=m)) w:=by
   show(Op.equalIn (9999+1) t _ _).run P w=_;rw[run_equalIn_array w 9999 xs ys ht hi,hz,run_eqItems_int (d:=9998) hu gx gy (hl.trans hm.symm) (List.range n) (λi hi=>by rw[hl];exact List.mem_range.1 hi)];congr 1;rw[Bool.eq_iff_iff,zlf,decide_eq_true_iff];constructor
   ·intro hall;refine List.ext_getElem? λi=> ?_;by_cases hi:i<n
    ·have:=hall i (List.mem_range.2 hi);simpa using this
    ·rw[List.getElem?_eq_none om,List.getElem?_eq_none om]
   ·rintro rfl i hi;simp
  have e1: ∀v,(do eqGuard op t ox oy (.agg xs) (.agg ys);binOp op t (.agg xs) (.agg ys):Sem Value).run P w= .ok v w↔(binOp op t (.agg xs) (.agg ys)).run P w= .ok v w:=by intro v;rw[Sem.run_bind,hg op];rfl
  split at h5
  ·simp only[Option.some.injEq]at h5;subst h5;exact⟨.bool (decide (l=m)),by rw[e1];simp[binOp,hq],.sc _⟩
  ·simp only[Option.some.injEq]at h5;subst h5;exact⟨.bool (!decide (l=m)),by rw[e1];simp[binOp,hq],.sc _⟩
  ·cases h5
 ·cases h5
def exBin(P:Program)(op:BinOp)(t:TypeId)(x y:V):Option V:=
 match x,y with
 | .sc (.int k a),.sc (.int k' b)=>match op with
  | .shl| .shr=>(shI op k a b).map .sc
  |_=>if k=k' then(binI op k a b).map .sc else none
 | .sc (.bool a),.sc (.bool b)=>
  if isBool P t then(match op with| .eql=>some (.sc (.bool (a==b)))| .neq=>some (.sc (.bool (a !=b)))|_=>none)else none
 | .sc (.string a),.sc (.string b)=>(strB op a b).map .sc
 | .sl _ _ len _ _,.sc (.slice none 0 0)=>if isSl P t=true/\0<len then nilB op false else none
 | .im _ len,.sc (.slice none 0 0)=>if isSl P t=true/\0<len then nilB op false else none
 | .sc (.slice none 0 0),.sc (.slice none 0 0)=>if isSl P t=true then nilB op true else none
 | .sc (.slice (some _) _ _),.sc (.slice none 0 0)=>if isSl P t=true then nilB op false else none
 | .ag cs,.ag ds=>arrB P op t cs ds
 |_,_=>none
theorem bin_sound{op:BinOp}{t:TypeId}{ox oy:Operand}{x y r:V}{vx vy:Value}(h:exBin P op t x y=some r)(hx:R S rho w A x vx)(hy:R S rho w A y vy):
  ∃v,(do eqGuard op t ox oy vx vy;binOp op t vx vy:Sem Value).run P w= .ok v w/\R S rho w A r v:=by
 unfold exBin at h;split at h
 ·rename_i k a k' b;cases hx;cases hy;have hg:eqGuard op t ox oy (.int k a) (.int k' b)=pure ():=by cases op<;>rfl
  rw[hg];have sh:op= .shl\/op= .shr->(shI op k a b).map V.sc=some r-> ∃v,(do pure ();binOp op t (.int k a) (.int k' b):Sem Value).run P w= .ok v w/\R S rho w A r v:=by
   intro hs h;cases hr:shI op k a b with
   |none=>simp[hr]at h
   | some u=>
    simp only[hr,Option.map_some,Option.some.injEq]at h;subst h;refine⟨u,?_,.sc _⟩;unfold shI at hr;split at hr;·cases hr
    ·rename_i hb;rcases hs with rfl|rfl<;>simp only[Option.some.injEq]at hr<;>subst hr<;>simp[binOp,Op.shift,hb]
  split at h;·exact sh (.inl rfl) h
  ·exact sh (.inr rfl) h
  ·rename_i hs1 hs2;split at h
   ·rename_i hk;subst hk;cases hr:binI op k a b with
    |none=>simp[hr]at h
    | some u=>
     simp only[hr,Option.map_some,Option.some.injEq]at h;subst h;refine⟨u,?_,.sc _⟩;cases op<;>simp[binI]at hr hs1 hs2<;>first
      |(obtain⟨h0,rfl⟩:=hr;simp[binOp,Op.intDiv,h0])
      |(subst hr;simp[binOp,Op.intArith,Op.intBits,Op.intCmp])
   ·cases h
 ·rename_i a b;cases hx;cases hy;have hg:eqGuard op t ox oy (.bool a) (.bool b)=pure ():=by cases op<;>rfl
  rw[hg];split at h
  ·rename_i hu;have hu:=isBool_und hu;have he': ∀(d:Nat) (a b:Bool),(Op.equalIn (d+1) t (.bool a) (.bool b)).run P w= .ok (a==b) w:=by
    intro d a b;simp[Op.equalIn,run_underlying hu]
   have he: ∀(a b:Bool),(Op.equal t (.bool a) (.bool b)).run P w= .ok (a==b) w:=he' 9999;split at h
   ·simp only[Option.some.injEq]at h;subst h;exact⟨_,by simp[binOp,he],.sc _⟩
   ·simp only[Option.some.injEq]at h;subst h;exact⟨.bool (!(a==b)),by simp[binOp,he],by cases a<;>cases b<;>exact .sc _⟩
   ·cases h
  ·cases h
 ·rename_i a b;cases hx;cases hy;have hg:eqGuard op t ox oy (.string a) (.string b)=pure ():=by cases op<;>rfl
  rw[hg];cases hv:strB op a b with
  |none=>simp[hv]at h
  |some v=>
   simp only[hv,Option.map_some,Option.some.injEq]at h;subst h;exact⟨v,by simp[str_sound hv],.sc _⟩
 ·split at h
  ·rename_i hc;cases hy;cases hx with
   |sln _=>exact absurd hc.2 om
   |sl hid hl hm hcap hz=>exact nil_sound hc.1 h rfl
  ·cases h
 ·split at h
  ·rename_i hc;cases hy;cases hx with
   |im0 hl hm ha=>
    rename_i a;cases a with
    |none=>have:=ha rfl;omega
    |some ad=>exact nil_sound hc.1 h rfl
   |im1 f hl hm hS hcell hx=>exact nil_sound hc.1 h rfl
  ·cases h
 ·split at h
  ·rename_i hc;cases hy;cases hx;exact nil_sound hc h rfl
  ·cases h
 ·split at h
  ·rename_i hc;cases hy;cases hx;exact nil_sound hc h rfl
  ·cases h
 ·exact arrB_sound h hx hy
 ·cases h
def exUn(op:UnOp):V->Option V
 | .sc (.int k n)=>match op with
  | .neg=>some (.sc (.int k (k.wrap (0-n))))
  | .xor=>some (.sc (.int k (k.wrap (BitVec.ofInt k.bits (if k.signed then-1 else k.max)^^^BitVec.ofInt k.bits n).toNat)))
  |_=>none
 | .sc (.bool b)=>match op with
  | .not=>some (.sc (.bool !b))
  |_=>none
 |_=>none
theorem un_sound{op:UnOp}{a x:V}{va:Value}(h:exUn op a=some x)(ha:R S rho w A a va): ∃v,(Op.unary op va).run P w= .ok v w/\R S rho w A x v:=by
 unfold exUn at h;split at h
 ·cases ha;cases op<;>simp at h<;>subst h<;>exact⟨_,by simp[Op.unary,Op.intArith,Op.intBits],.sc _⟩
 ·cases ha;cases op<;>simp at h<;>subst h<;>exact⟨_,by simp[Op.unary],.sc _⟩
 ·cases h
def exConv(P:Program)(src dst:TypeId):V->Option V
 | .sc (.int _ n)=>if hasT P src then(intOf' P dst).map λk=> .sc (.int k (k.wrap n))else none
 |_=>none
theorem conv_sound{src dst:TypeId}{a x:V}{va:Value}(h:exConv P src dst a=some x)(ha:R S rho w A a va): ∃v,(convert src dst va).run P w= .ok v w/\R S rho w A x v:=by
 unfold exConv at h;split at h
 ·cases ha;split at h
  ·rename_i hs;obtain⟨ds,hs⟩:=Option.isSome_iff_exists.1 hs;cases hd:intOf' P dst with
   |none=>simp[hd]at h
   |some k=>
    simp only[hd,Option.map_some,Option.some.injEq]at h;subst h;exact⟨_,by simp[convert,run_underlying hs,run_underlying (intOf_und hd),Conv.intToInt],.sc _⟩
  ·cases h
 ·cases h
end
end
section
open Go.RowKit
inductive Eff where
 |none
 |new (k:Blk)
 |set (id:Nat) (k:Blk)
 |app (id:Nat) (k:Blk)
def Eff.heap:Eff->Nat->List (Nat×Blk)->List (Nat×Blk)
 | .none,_,hp=>hp
 | .new k,nx,hp=>(nx,k)::hp
 | .set id k,_,hp=>hset hp id k
 | .app id k,nx,hp=>(nx,k)::hdel hp id
def Eff.next:Eff->Nat->Nat
 | .none,nx| .set _ _,nx=>nx
 | .new _,nx| .app _ _,nx=>nx+1
def Out(B:Base)(S:Nat->Prop)(rho:Nat->Nat)(A:Nat->Prop)(hp:List (Nat×Blk))(nx:Nat)(w:World)(r:Result Value)(x:V)(e:Eff):Prop:=
 ∃v w' rho' A',r= .ok v w'/\Mem B S rho' A' (e.heap nx hp) w'/\(∀id,A id->A' id/\rho' id=rho id/\ ∀n,szAt w (rho id) n->szAt w' (rho id) n)/\(∀id,A' id->A id\/id=nx/\ ∃k,e= .new k\/ ∃i,e= .app i k)/\
  (∀b,S b->w'.heap[b]? =w.heap[b]?)/\R S rho' w' A' x v
section
variable {P:Program} {w:World} {B:Base} {S:Nat->Prop} {rho:Nat->Nat} {A:Nat->Prop} {hp:List (Nat×Blk)} {nx:Nat}
theorem Out.val(hm:Mem B S rho A hp w){r:Result Value}{v:Value}{x:V}(hr:r= .ok v w)(hx:R S rho w A x v):Out B S rho A hp nx w r x .none:=
 ⟨v,w,rho,A,hr,hm,λ_ h=>⟨h,rfl,λ_ h=>h⟩,λ_ h=> .inl h,λ_ _=>rfl,hx⟩
theorem Out.new(hm:Mem B S rho A hp w)(hnx: ¬A nx){r:Result Value}{v:Value}{w':World}{x:V}{k:Blk}{b:Nat}(hr:r= .ok v w')(g:Grow w w')(hb:w.heap.size<=b)
  (hk:Cellsat S rho A w' b k) (hx:R S (λi=>if i=nx then b else rho i) w' (λi=>i=nx\/A i) x v):Out B S rho A hp nx w r x (.new k):=
 ⟨v,w',_,_,hr,hm.new g nx hnx k b hb hk,λid h=>⟨.inr h,if_neg (λe:id=nx=>hnx (e▸h)),λ_=>g.szAt⟩,λ_ h=>h.elim (λe=> .inr ⟨e,k,.inl rfl⟩) .inl,λb hb=>g.block b (hm.slt b hb),hx⟩
def All(S:Nat->Prop)(rho:Nat->Nat)(A:Nat->Prop)(w:World)(cs:List V)(vs:List Value):Prop:=
 cs.length=vs.length/\ ∀(i:Nat) (x:V) (u:Value),cs[i]? =some x->vs[i]? =some u->R S rho w A x u
theorem All.sc(vs:List Value):All S rho A w (vs.map .sc) vs:=by refine⟨by simp,λi x u hx hu=> ?_⟩;rw[List.getElem?_map,hu]at hx;simp at hx;subst hx;exact .sc _
theorem All.append{cs ds:List V}{vs us:List Value}(h:All S rho A w cs vs)(k:All S rho A w ds us):All S rho A w (cs++ds) (vs++us):=by
 refine⟨by simp[h.1,k.1],λi x u hx hu=> ?_⟩;rw[List.getElem?_append]at hx hu;by_cases hi:i<cs.length;·rw[if_pos hi]at hx;rw[if_pos (h.1▸hi)]at hu;exact h.2 _ _ _ hx hu
 ·rw[if_neg hi]at hx;rw[if_neg (h.1▸hi)]at hu;rw[h.1]at hx;exact k.2 _ _ _ hx hu
theorem All.take{cs:List V}{vs:List Value}(h:All S rho A w cs vs)(n:Nat):All S rho A w (cs.take n) (vs.take n):=by
 refine⟨by simp[h.1],λi x u hx hu=> ?_⟩;rw[List.getElem?_take]at hx hu;split at hx;·rw[if_pos ‹_›]at hu;exact h.2 _ _ _ hx hu
 ·cases hx
theorem All.drop{cs:List V}{vs:List Value}(h:All S rho A w cs vs)(n:Nat):All S rho A w (cs.drop n) (vs.drop n):=by refine⟨by simp[h.1],λi x u hx hu=> ?_⟩;rw[zl5]at hx hu;exact h.2 _ _ _ hx hu
theorem All.set{cs:List V}{vs:List Value}(h:All S rho A w cs vs)(i:Nat){x:V}{u:Value}(hx:R S rho w A x u):All S rho A w (cs.set i x) (vs.set i u):=by
 refine⟨by simp[h.1],λj y v hy hv=> ?_⟩;rw[List.getElem?_set]at hy hv;by_cases hij:i=j
 ·subst hij;simp only[if_true]at hy hv;split at hy
  ·split at hv;·simp at hy hv;subst hy;subst hv;exact hx
   ·cases hv
  ·cases hy
 ·rw[if_neg hij]at hy hv;exact h.2 _ _ _ hy hv
theorem All.mono{S':Nat->Prop}{rho':Nat->Nat}{A':Nat->Prop}{w':World}{cs:List V}{vs:List Value}(h:All S rho A w cs vs)
  (hS: ∀b,S b->S' b/\w'.heap[b]? =w.heap[b]?) (hA: ∀id,A id->A' id/\rho' id=rho id/\ ∀n,szAt w (rho id) n->szAt w' (rho id) n):All S' rho' A' w' cs vs:=
 ⟨h.1,λi x u hx hu=>(h.2 i x u hx hu).mono hS hA⟩
theorem All.cellsat{cs:List V}{vs:List Value}(h:All S rho A w cs vs){b:Nat}{ty:TypeId}{rest:List Value}(hb:w.heap[b]? =some (.cells (vs++rest).toArray ty (0,0))):Cellsat S rho A w b ⟨ty,cs,false⟩:=by
 refine⟨_,hb,λi x hx=> ?_⟩;have hlt:i<vs.length:=by rw[<-h.1];exact(List.getElem?_eq_some_iff.1 hx).1
 refine⟨vs[i],?_,h.2 i x _ hx (zlb hlt)⟩;rw[List.getElem?_toArray,List.getElem?_append,if_pos hlt,zlb hlt]
def setAll:List V->Nat->List V->List V
 |cs,_,[]=>cs
 |cs,off,x::r=>setAll (cs.set off x) (off+1) r
theorem setAll_length: ∀(xs cs:List V) (off:Nat),(setAll cs off xs).length=cs.length
 |[],_,_=>rfl
 |x::r,cs,off=>by rw[setAll,setAll_length r];simp
theorem All.setAll: ∀{xs:List V} {us:List Value} {cs:List V} {arr:List Value} {off:Nat},All S rho A w cs arr->All S rho A w xs us->off+us.length<=arr.length->
  All S rho A w (setAll cs off xs) (arr.take off++us++arr.drop (off+us.length))
 |[],us,cs,arr,off,h,k,hl=>by have:us=[]:=List.eq_nil_of_length_eq_zero k.1.symm;subst this;simpa[Go.Proofs.YtannldafjkjjbaaGreat.setAll]using h
 |x::r,[],cs,arr,off,h,k,hl=>by have:=k.1;simp at this
 |x::r,u::us,cs,arr,off,h,k,hl=>by
  have hx:R S rho w A x u:=k.2 0 x u rfl rfl;have hr:All S rho A w r us:=⟨by have:=k.1;simp at this;exact this,λi y v hy hv=>k.2 (i+1) y v (by simpa using hy) (by simpa using hv)⟩
  simp at hl;have:=All.setAll (off:=off+1) (h.set off hx) hr (by simp;omega);rw[Go.Proofs.YtannldafjkjjbaaGreat.setAll];have e:=list_seg_step arr off u us om;rw[e]at this;simpa[znf,Nat.add_comm 1]using this
inductive Pl where
 |st (l:List (Nat×Nat))
 |ar (z:Nat)
def Pl.at:Pl->Nat->Option (Nat×Nat)
 | .st l,i=>l[i]?
 | .ar z,i=>some (i*z,z)
def exFill(pl:Pl):List V->List (Nat×V)->Option (List V)
 |cs,[]=>some cs
 |cs,(i,x)::r=>
  match pl.at i,vcells x with
  |some (off,sz),some xs=>if xs.length=sz/\off+xs.length<=cs.length then exFill pl (setAll cs off xs) r else none
  |_,_=>none
theorem foldSet: ∀(us:List Value) (arr:Array Value) (off k:Nat),off+k+us.length<=arr.size->
  ((us.zipIdx k).foldl (λcs (p:Value×Nat)=>cs.setIfInBounds (off+p.2) p.1) arr).toList=arr.toList.take (off+k)++us++arr.toList.drop (off+k+us.length)
 |[],arr,off,k,_=>by simp
 |u::us,arr,off,k,h=>by simp at h;rw[List.zipIdx_cons,List.foldl_cons,foldSet us _ off (k+1) (by simp;omega)];have e:=list_seg_step arr.toList (off+k) u us (by simp;omega);simpa[Array.toList_setIfInBounds,znf,Nat.add_comm 1]using e
theorem fill_sound{pl:Pl}: ∀{parts:List (Nat×V)} {pv:List (Nat×Value)} {cs cs':List V} {arr:Array Value},exFill pl cs parts=some cs'->All S rho A w cs arr.toList->
  parts.map (·.1)=pv.map (·.1)->All S rho A w (parts.map (·.2)) (pv.map (·.2))-> ∃arr',Instr.fill pl.at arr pv=some arr'/\All S rho A w cs' arr'.toList
 |[],pv,cs,cs',arr,h,k,hi,_=>by
  cases pv with
  |cons p pv=>simp at hi
  |nil=>simp only[exFill,Option.some.injEq]at h;subst h;exact⟨arr,rfl,k⟩
 |(i,x)::r,[],cs,cs',arr,h,k,hi,_=>by simp at hi
 | (i,x)::r,(j,v)::pv,cs,cs',arr,h,k,hi,hx=>by
  simp only[zld,List.cons.injEq]at hi hx;obtain⟨rfl,hi⟩:=hi;have hxv:R S rho w A x v:=hx.2 0 x v rfl rfl;have hrest:All S rho A w (r.map (·.2)) (pv.map (·.2)):=⟨by have:=hx.1;simpa using this,λi y u hy hu=>hx.2 (i+1) y u (by simpa using hy) (by simpa using hu)⟩
  simp only[exFill]at h;split at h
  ·rename_i off sz xs hp hc;split at h
   ·rename_i hb;obtain⟨hs,hr⟩:=vcells_sound hxv hc;have hAll:All S rho A w xs v.cells.toList:=⟨by simpa using hs.symm,λi y u hy hu=>hr i y u hy (by simpa using hu)⟩
    have hal:arr.size=cs.length:=by have:=k.1;simpa using this.symm
    have hf:=foldSet v.cells.toList arr off 0 (by simp;omega);simp only[Nat.add_zero]at hf;have hA':=k.setAll hAll (off:=off) (by simp;omega);rw[<-hf]at hA';obtain⟨arr',h1,h2⟩:=fill_sound h hA' hi hrest;refine⟨arr',?_,h2⟩;have hsz: ¬(v.cells.size≠sz):=by omega
    have hle: ¬(off+v.cells.size>arr.size):=by omega
    simp only[Instr.fill,hp];rw[if_neg (by simp;omega)];rw[<-h1];congr 1;rw[<-Array.foldl_toList,Array.toList_zipIdx]
   ·cases h
  ·cases h
def plOf(P:Program)(t:TypeId):Option (List Value×Pl):=
 match P.info? t,P.underlying t with
 |some it,some (.array _ e)=>
  match it.zero,P.info? e with
  |some z,some ie=>some (z.cells.toList,.ar ie.size)
  |_,_=>none
 |some it,some (.struct fields)=>
  match it.zero,fields.toList.mapM (λf=>(P.info? f.type).map λi=>(f.offset,i.size))with
  |some z,some places=>some (z.cells.toList,.st places)
  |_,_=>none
 |_,_=>none
def exBuild(P:Program)(t:TypeId)(parts:List (Nat×V)):Option V:=
 match plOf P t with
 |some (z,pl)=>(exFill pl (z.map .sc) parts).map .ag
 |none=>none
theorem build_sound{t:TypeId}{parts:List (Nat×V)}{pv:Array (Nat×Value)}{x:V}(h:exBuild P t parts=some x)(hi:parts.map (·.1)=pv.toList.map (·.1))(hx:All S rho A w (parts.map (·.2)) (pv.toList.map (·.2))):
  ∃v,(Instr.build t pv).run P w= .ok v w/\R S rho w A x v:=by
 unfold exBuild at h;split at h
 ·rename_i z pl hpl;cases hf:exFill pl (z.map .sc) parts with
  |none=>simp[hf]at h
  | some cs=>
   simp only[hf,Option.map_some,Option.some.injEq]at h;subst h;obtain⟨arr,h1,h2⟩:=fill_sound (arr:=z.toArray) hf (All.sc z) hi hx;refine⟨.agg arr,run_build w t pv arr ?_,.ag (by have:=h2.1;simpa using this) (λi x u hx hu=>h2.2 i x u hx (by simpa using hu))⟩;unfold plOf at hpl;unfold Program.built;split at hpl
   ·rename_i it n e h1' h2';rw[h1',h2'];split at hpl
    ·rename_i z' ie hz hie;simp only[Option.some.injEq,Prod.mk.injEq]at hpl;obtain⟨rfl,rfl⟩:=hpl;simp only[hz,hie];exact(by simpa using h1:Instr.fill _ _ _=_)
    ·cases hpl
   ·rename_i it fields h1' h2';rw[h1',h2'];split at hpl
    ·rename_i z' places hz hie;simp only[Option.some.injEq,Prod.mk.injEq]at hpl;obtain⟨rfl,rfl⟩:=hpl;simp only[hz,hie];have e:(λx=>places.toArray[x]?)=(Pl.st places).at:=by funext x;simp[Pl.at]
     rw[e];simpa using h1
    ·cases hpl
   ·cases hpl
 ·cases h
def exBox(t:TypeId)(x:V):Option Blk:=(vcells x).map λcs=>⟨t,cs,false⟩
theorem box_sound(hm:Mem B S rho A hp w)(hnx: ¬A nx){t:TypeId}{x:V}{vx:Value}{k:Blk}(h:exBox t x=some k)(hx:R S rho w A x vx):Out B S rho A hp nx w ((Instr.box t vx).run P w) (.pt nx 0) (.new k):=by
 unfold exBox at h;cases hc:vcells x with
 |none=>simp[hc]at h
 | some cs=>
  simp only[hc,Option.map_some,Option.some.injEq]at h;subst h;obtain⟨h1,h2⟩:=vcells_sound hx hc;have hAll:All S rho A w cs vx.cells.toList:=⟨by simpa using h1.symm,λi y u hy hu=>h2 i y u hy (by simpa using hu)⟩
  have g:=Grow.alloc w (.cells vx.cells t);refine Out.new (w':=w.alloc (.cells vx.cells t)) (b:=w.heap.size) hm hnx (v:= .pointer (some ⟨w.heap.size,0,none⟩)) ?_ g (znb _) ((hAll.mono (λb hb=>⟨hb,g.block b (hm.slt b hb)⟩) (λ_ h=>⟨h,rfl,λ_=>g.szAt⟩)).cellsat (rest:=[]) ?_) ?_;·rfl
  ·rw[heap_alloc_new];simp
  ·have:=R.pt (S:=S) (rho:=λi=>if i=nx then w.heap.size else rho i) (A:=λi=>i=nx\/A i) (w:=w.alloc (.cells vx.cells t)) (id:=nx) (off:=0) (.inl rfl);simpa using this
def exAlloc(P:Program)(t:TypeId):Option Blk:=(zeroOf P t).map λz=>⟨t,z.cells.toList.map .sc,false⟩
theorem alloc_sound(hm:Mem B S rho A hp w)(hnx: ¬A nx){t:TypeId}{k:Blk}(h:exAlloc P t=some k):Out B S rho A hp nx w ((Instr.alloc t true (.tuple #[])).run P w) (.pt nx 0) (.new k):=by
 unfold exAlloc at h;cases hz:zeroOf P t with
 |none=>simp[hz]at h
 | some z=>
  simp only[hz,Option.map_some,Option.some.injEq]at h;subst h;have g:=Grow.alloc w (.cells z.cells t);refine Out.new (w':=w.alloc (.cells z.cells t)) (b:=w.heap.size) hm hnx (v:= .pointer (some ⟨w.heap.size,0,none⟩)) ?_ g (znb _) ((All.sc z.cells.toList).cellsat (rest:=[]) ?_) ?_;·unfold Instr.alloc;rw[Sem.run_bind,run_zeroValue hz];rfl
  ·rw[heap_alloc_new];simp
  ·have:=R.pt (S:=S) (rho:=λi=>if i=nx then w.heap.size else rho i) (A:=λi=>i=nx\/A i) (w:=w.alloc (.cells z.cells t)) (id:=nx) (off:=0) (.inl rfl);simpa using this
def reps(m:Nat):List V->List V
 |[x]=>List.replicate m x
 |zs=>(List.replicate m zs).flatten
theorem flatten_rep{α:Type}(zs:List α)(m i:Nat)(h:i<m*zs.length):(List.replicate m zs).flatten[i]? =zs[i % zs.length]? :=by
 induction m generalizing i with
 |zero=>simp at h
 |succ m ih=>
  rw[List.replicate_succ,List.flatten_cons,List.getElem?_append];split;·rw[Nat.mod_eq_of_lt ‹_›]
  ·rw[ih (i-zs.length) (by rw[Nat.succ_mul]at h;omega),<-Nat.mod_eq_sub_mod om]
theorem reps_eq(m:Nat)(zs:List V):reps m zs=(List.replicate m zs).flatten:=by
 unfold reps;split
 ·induction m with
  |zero=>rfl
  |succ m ih=>rw[List.replicate_succ,List.replicate_succ,List.flatten_cons,<-ih];rfl
 ·rfl
theorem reps_sound{zs:Array Value}(hz:0<zs.size)(m:Nat):All S rho A w (reps m (zs.toList.map .sc)) (madeCells zs (m*zs.size)).toList:=by
 have hl:(reps m (zs.toList.map V.sc)).length=m*zs.size:=by rw[reps_eq];simp
 refine⟨by rw[hl];simp[madeCells],λi x u hx hu=> ?_⟩;have hi:i<m*zs.size:=by rw[<-hl];exact(List.getElem?_eq_some_iff.1 hx).1
 rw[reps_eq,flatten_rep _ _ _ (by simpa using hi)]at hx;have hlt:i % zs.size<zs.size:=Nat.mod_lt _ hz;simp[madeCells,hi]at hu;simp[hlt]at hx;subst hx;rw[<-hu];simp[hlt];exact .sc _
def mkOf(P:Program)(t:TypeId):Option (TypeId×Nat×List Value):=
 match P.underlying t with
 |some (.slice e)=>(P.info? e).bind λi=>i.zero.bind λzv=>if zv.cells.size=i.size/\0<i.size then some (e,i.bytes,zv.cells.toList)else none
 |_=>none
theorem mkOf_und{t e:TypeId}{by':Nat}{zc:List Value}(h:mkOf P t=some (e,by',zc)): ∃i zv,P.underlying t=some (.slice e)/\P.info? e=some i/\i.zero=some zv/\i.bytes=by'/\zv.cells.toList=zc/\i.size=zc.length/\zv.cells.size=i.size/\0<i.size:=by
 unfold mkOf at h;split at h
 ·rename_i e' he;cases hi:P.info? e' with
  |none=>simp[hi]at h
  | some i=>
   cases hz:i.zero with
   |none=>simp[hi,hz]at h
   | some zv=>
    simp only[hi,hz,Option.bind_some]at h;split at h
    ·rename_i hc;simp only[Option.some.injEq,Prod.mk.injEq]at h;obtain⟨rfl,rfl,rfl⟩:=h;exact⟨i,zv,he,hi,hz,rfl,rfl,by simp[hc.1],hc.1,hc.2⟩
    ·cases h
 ·cases h
theorem new_row(hm:Mem B S rho A hp w)(hnx: ¬A nx){e:TypeId}{cs:List V}{arr:List Value}(h:All S rho A w cs arr){r:Result Value}{l c z:Nat}(hr:r= .ok (.slice (some ⟨w.heap.size,0,none⟩) l c) (w.alloc (.cells arr.toArray e)))
  (hl:l<=c) (hc:c<=maxLen) (hs:c*z<=arr.length) (cap:Option Nat) (hcap: ∀k,cap=some k->c=k):Out B S rho A hp nx w r (.sl nx 0 l z cap) (.new ⟨e,cs,false⟩):=by
 have g:=Grow.alloc w (.cells arr.toArray e);refine Out.new (b:=w.heap.size) hm hnx hr g (znb _) ((h.mono (λb hb=>⟨hb,g.block b (hm.slt b hb)⟩) (λ_ h=>⟨h,rfl,λ_=>g.szAt⟩)).cellsat (rest:=[]) ?_) ?_;·rw[heap_alloc_new];simp
 ·have:=R.sl (S:=S) (rho:=λi=>if i=nx then w.heap.size else rho i) (A:=λi=>i=nx\/A i) (w:=w.alloc (.cells arr.toArray e)) (id:=nx) (off:=0) (z:=z) (.inl rfl) hl hc hcap (by
   refine⟨arr.toArray,e,(0,0),?_,by simpa using hs⟩;simp only[if_true];exact heap_alloc_new w _)
  simpa using this
def exMake(P:Program)(t:TypeId)(nx:Nat)(l c:V):Option (V×Eff):=
 match l,c with
 | .sc (.int _ l),.sc (.int _ c)=>(mkOf P t).bind λ(e,b,zc)=>
  if 0<=l/\l<=c/\c<1125899906842624/\b*c<=140737488355328 then some (.sl nx 0 l.toNat zc.length (some c.toNat),.new ⟨e,reps c.toNat (zc.map .sc),false⟩)else none
 |_,_=>none
theorem make_sound(hm:Mem B S rho A hp w)(hnx: ¬A nx){t:TypeId}{l c x:V}{vl vc:Value}{f:Eff}(h:exMake P t nx l c=some (x,f))(hl:R S rho w A l vl)(hc:R S rho w A c vc):
  Out B S rho A hp nx w ((Instr.makeSlice t vl vc).run P w) x f:=by
 unfold exMake at h;split at h
 ·rename_i kl l kc c;cases hl;cases hc;cases hk:mkOf P t with
  |none=>simp[hk]at h
  | some p=>
   obtain⟨e,b,zc⟩:=p;simp only[hk,Option.bind_some]at h;split at h
   ·rename_i hb;simp only[Option.some.injEq,Prod.mk.injEq]at h;obtain⟨rfl,rfl⟩:=h;obtain⟨i,zv,h1,h2,h3,rfl,rfl,h6,h7,h8⟩:=mkOf_und hk;have hrun:=run_make (P:=P) w t e i zv h1 h2 h3 kl kc l c hb.1 hb.2.1 om om;have hr:=reps_sound (S:=S) (rho:=rho) (A:=A) (w:=w) (zs:=zv.cells) om c.toNat;rw[h7]at hr;refine new_row hm hnx hr (by simpa using hrun) om (by unfold maxLen;omega) ?_ _ (by simp);simp[madeCells,h6]
   ·cases h
 ·cases h
def exBuildSlice(P:Program)(t:TypeId)(nx len:Nat)(parts:List (Nat×V)):Option (V×Eff):=
 (mkOf P t).bind λ(e,_,zc)=>if len*zc.length<=16777216 then(exFill (.ar zc.length) (reps len (zc.map .sc)) parts).map λcs=>(.sl nx 0 len zc.length (some len),.new ⟨e,cs,false⟩)else none
theorem fill_size{pl:Nat->Option (Nat×Nat)}: ∀{ps:List (Nat×Value)} {arr arr':Array Value},Instr.fill pl arr ps=some arr'->arr'.size=arr.size
 |[],arr,arr',h=>by simp[Instr.fill]at h;rw[h]
 | (i,v)::ps,arr,arr',h=>by
  simp only[Instr.fill]at h;split at h;·cases h
  ·split at h;·cases h
   ·rw[fill_size h];rw[<-Array.foldl_toList];generalize v.cells.zipIdx.toList=l;rename_i hno;clear h hno;induction l generalizing arr with
    |nil=>rfl
    |cons p l ih=>rw[List.foldl_cons,ih];simp
theorem buildSlice_sound(hm:Mem B S rho A hp w)(hnx: ¬A nx){t:TypeId}{len:Nat}{parts:List (Nat×V)}{pv:Array (Nat×Value)}{x:V}{f:Eff}(h:exBuildSlice P t nx len parts=some (x,f))
  (hi:parts.map (·.1)=pv.toList.map (·.1)) (hx:All S rho A w (parts.map (·.2)) (pv.toList.map (·.2))):Out B S rho A hp nx w ((Instr.buildSlice t len pv).run P w) x f:=by
 unfold exBuildSlice at h;cases hk:mkOf P t with
 |none=>simp[hk]at h
 | some p=>
  obtain⟨e,b,zc⟩:=p;simp only[hk,Option.bind_some]at h;split at h
  ·rename_i hb;have hb0:=hb;cases hf:exFill (.ar zc.length) (reps len (zc.map .sc)) parts with
   |none=>simp[hf]at h
   | some cs=>
    simp only[hf,Option.map_some,Option.some.injEq,Prod.mk.injEq]at h;obtain⟨rfl,rfl⟩:=h;obtain⟨i,zv,h1,h2,h3,h4,rfl,h6,h7,h8⟩:=mkOf_und hk;have hr:=reps_sound (S:=S) (rho:=rho) (A:=A) (w:=w) (zs:=zv.cells) om len;obtain⟨arr,g1,g2⟩:=fill_sound hf hr hi hx;have hsz:=fill_size g1;have hat:(Pl.ar zv.cells.toList.length).at=λi'=>some (i'*i.size,i.size):=by funext j;simp[Pl.at,h7]
    rw[hat,h7]at g1;have hs:szOf P e=some i.size:=by simp[szOf,h2]
    have hz:zeroOf P e=some zv:=by simp[zeroOf,h2,h3]
    have hrun:(Instr.buildSlice t len pv).run P w= .ok (.slice (some ⟨w.heap.size,0,none⟩) len len) (w.alloc (.cells arr e)):=by
     have hb': ¬(len*i.size>2^24):=by rw[h6];omega
     unfold Instr.buildSlice;simp only[Sem.run_bind,run_underlying h1,Result.andThen_ok,run_sizeOf hs];rw[if_neg hb'];by_cases h0:len*i.size=0
     ·have hmc:madeCells zv.cells (len*i.size)= #[]:=by simp[madeCells,h0,Array.range_zero']
      rw[hmc]at g1;simp[h0,Array.range_zero',g1,newRow,newObj,Sem.run]
      try rfl
     ·have g1':Instr.fill (λi'=>some (i'*i.size,i.size)) (Array.map (λx=>zv.cells[x % zv.cells.size]!) (Array.range (len*i.size))) pv.toList=some arr:=g1;simp[h0,run_zeroValue hz,Sem.run_bind,g1',newRow,newObj,Sem.run]
      try rfl
    refine new_row hm hnx g2 (by simpa using hrun) (znb _) (by unfold maxLen;have:len*1<=len*i.size:=Nat.mul_le_mul_left _ h8;rw[h6]at this;omega) ?_ _ (by simp);simp[hsz,madeCells,h7]
  ·cases h
end
end
section
open Go.RowKit
section
variable {P:Program} {w:World} {B:Base} {S:Nat->Prop} {rho:Nat->Nat} {A:Nat->Prop} {hp:List (Nat×Blk)} {nx:Nat}
def intV:V->Option Int
 | .sc (.int _ n)=>some n
 |_=>none
def lowV:Option V->Option Nat
 |none=>some 0
 |some x=>(intV x).bind λn=>if 0<=n then some n.toNat else none
def highV(len:Nat):Option V->Option Nat
 |none=>some len
 |some x=>(intV x).bind λn=>if 0<=n then some n.toNat else none
def boundsV(len ub:Nat)(lo hi mx:Option V):Option (Nat×Nat×Option Nat):=
 (lowV lo).bind λl=>(highV len hi).bind λh=>
  match mx with
  |none=>if l<=h/\h<=ub then some (l,h,none)else none
  |some m=>(intV m).bind λm=>if 0<=m/\l<=h/\h<=m.toNat/\m.toNat<=ub/\hi.isSome then some (l,h,some m.toNat)else none
theorem lowV_run{lo:Option V}{vlo:Option Value}{l:Nat}(h:lowV lo=some l)(hr: ∀x,lo=some x-> ∃v,vlo=some v/\R S rho w A x v)(hn:lo=none->vlo=none):
  (vlo=none/\l=0)\/ ∃k n,vlo=some (.int k n)/\0<=n/\n.toNat=l:=by
 cases lo with
 |none=>simp[lowV]at h;exact .inl ⟨hn rfl,h.symm⟩
 |some x=>
  obtain⟨v,hv,hxv⟩:=hr x rfl;cases hxv<;>simp[lowV,intV]at h;cases v<;>simp at h;exact .inr ⟨_,_,hv,h.1,h.2⟩
theorem highV_run{len:Nat}{lo:Option V}{vlo:Option Value}{l:Nat}(h:highV len lo=some l)(hr: ∀x,lo=some x-> ∃v,vlo=some v/\R S rho w A x v)(hn:lo=none->vlo=none):
  (vlo=none/\l=len/\lo=none)\/ ∃k n,vlo=some (.int k n)/\0<=n/\n.toNat=l:=by
 cases lo with
 |none=>simp[highV]at h;exact .inl ⟨hn rfl,h.symm,rfl⟩
 |some x=>
  obtain⟨v,hv,hxv⟩:=hr x rfl;cases hxv<;>simp[highV,intV]at h;cases v<;>simp at h;exact .inr ⟨_,_,hv,h.1,h.2⟩
def okO(S:Nat->Prop)(rho:Nat->Nat)(A:Nat->Prop)(w:World)(x:Option V)(v:Option Value):Prop:=(x=none/\v=none)\/ ∃y u,x=some y/\v=some u/\R S rho w A y u
theorem boundsV_run{len ub:Nat}{lo hi mx:Option V}{vlo vhi vmx:Option Value}{l h:Nat}{m:Option Nat}(hb:boundsV len ub lo hi mx=some (l,h,m))(isS:Bool)(cap:Nat)(hub:ub<=cap)(_hlen:len<=cap)
  (h1:okO S rho A w lo vlo) (h2:okO S rho A w hi vhi) (h3:okO S rho A w mx vmx):
  (Instr.sliceBounds isS len cap vlo vhi vmx).run P w= .ok (l,h,m.getD cap) w/\l<=h/\h<=m.getD cap/\(∀k,m=some k->k<=ub)/\h<=ub:=by
 unfold boundsV at hb;cases hl:lowV lo with
 |none=>simp[hl]at hb
 | some l'=>
  cases hh:highV len hi with
  |none=>simp[hl,hh]at hb
  | some h'=>
   simp only[hl,hh,Option.bind_some]at hb;have k1:=lowV_run (S:=S) (rho:=rho) (A:=A) (w:=w) (vlo:=vlo) hl (λx hx=>by
    rcases h1 with⟨e,_⟩|⟨y,u,e1,e2,e3⟩;·rw[e]at hx;cases hx
    ·rw[e1]at hx;cases hx;exact⟨u,e2,e3⟩) (λe=>by
    rcases h1 with⟨_,e'⟩|⟨y,u,e1,_⟩;·exact e'
    ·rw[e1]at e;cases e)
   have k2:=highV_run (S:=S) (rho:=rho) (A:=A) (w:=w) (vlo:=vhi) hh (λx hx=>by
    rcases h2 with⟨e,_⟩|⟨y,u,e1,e2,e3⟩;·rw[e]at hx;cases hx
    ·rw[e1]at hx;cases hx;exact⟨u,e2,e3⟩) (λe=>by
    rcases h2 with⟨_,e'⟩|⟨y,u,e1,_⟩;·exact e'
    ·rw[e1]at e;cases e)
   cases mx with
   | none=>
    have hv:vmx=none:=by
     rcases h3 with⟨_,e⟩|⟨y,u,e1,_⟩;·exact e
     ·cases e1
    subst hv;simp only at hb;split at hb
    ·rename_i hc;simp only[Option.some.injEq,Prod.mk.injEq]at hb;obtain⟨rfl,rfl,rfl⟩:=hb;refine⟨?_,hc.1,by simp;omega,(λk hk=>by cases hk),hc.2⟩;rcases k2 with⟨rfl,rfl,_⟩|⟨kh,nh,rfl,hn0,rfl⟩
     ·rcases k1 with⟨rfl,rfl⟩|⟨kl,nl,rfl,hl0,rfl⟩;·simp[Instr.sliceBounds]
      ·have:nl<=(h':Int):=by omega
       simp[Instr.sliceBounds,Instr.sliceBound,asIntOf,hl0,this]
     ·have hh':nh<=(cap:Int):=by omega
      rcases k1 with⟨rfl,rfl⟩|⟨kl,nl,rfl,hl0,rfl⟩;·simp[Instr.sliceBounds,Instr.sliceBound,asIntOf,hn0,hh']
      ·have:nl<=(nh.toNat:Int):=by omega
       simp[Instr.sliceBounds,Instr.sliceBound,asIntOf,hn0,hh',hl0,this,-Int.ofNat_toNat]
    ·cases hb
   | some mv=>
    obtain⟨um,rfl,hum⟩: ∃u,vmx=some u/\R S rho w A mv u:=by
     rcases h3 with⟨e,_⟩|⟨y,u,e1,e2,e3⟩;·cases e
     ·cases e1;exact⟨u,e2,e3⟩
    simp only at hb;cases hi':intV mv with
    |none=>simp[hi']at hb
    | some mi=>
     simp only[hi',Option.bind_some]at hb;split at hb
     ·rename_i hc;simp only[Option.some.injEq,Prod.mk.injEq]at hb;obtain⟨rfl,rfl,rfl⟩:=hb;obtain⟨hm0,hlh,hhm,hmu,hsome⟩:=hc;obtain⟨km,rfl⟩: ∃km,um= .int km mi:=by
       cases hum<;>simp[intV]at hi';cases um<;>simp at hi';subst hi';exact⟨_,rfl⟩
      refine⟨?_,hlh,by simpa using hhm,(λk hk=>by cases hk;omega),by omega⟩;rcases k2 with⟨_,_,rfl⟩|⟨kh,nh,rfl,hn0,rfl⟩;·simp at hsome
      ·have e1:mi<=(cap:Int):=by omega
       have e2:nh<=(mi.toNat:Int):=by omega
       rcases k1 with⟨rfl,rfl⟩|⟨kl,nl,rfl,hl0,rfl⟩;·simp[Instr.sliceBounds,Instr.sliceBound,asIntOf,hm0,e1,hn0,e2,-Int.ofNat_toNat]
       ·have e3:nl<=(nh.toNat:Int):=by omega
        simp[Instr.sliceBounds,Instr.sliceBound,asIntOf,hm0,e1,hn0,hl0,e2,e3,-Int.ofNat_toNat]
     ·cases hb
def exSlice(P:Program)(hp:List (Nat×Blk))(t:TypeId)(x:V)(lo hi mx:Option V):Option V:=
 match x with
 | .sl id off len z cap=>(slOf P t).bind λ(_,z')=>(boundsV len (cap.getD len) lo hi mx).bind λ(l,h,m)=>
  if z'=z then(if l=0\/l<h then some (.sl id (off+l*z) (h-l) z (match m with|some m=>some (m-l)|none=>cap.map (· -l)))else some (.im [] (h-l)))else none
 | .im cs len=>(slOf P t).bind λ(_,z)=>(boundsV len len lo hi mx).bind λ(l,h,_)=>some (.im ((cs.drop (l*z)).take ((h-l)*z)) (h-l))
 | .sc (.slice none 0 0)=>(slOf P t).bind λ_=>(boundsV 0 0 lo hi mx).bind λ_=>some (.sc (.slice none 0 0))
 | .pt id off=>(arOf P t).bind λ(n,_,z)=>(hget hp id).bind λk=>(boundsV n n lo hi mx).bind λ(l,h,m)=>
  if off+n*z<=k.cs.length/\n<=maxLen/\(l=0\/l<h)then some (.sl id (off+l*z) (h-l) z (some (m.getD n-l)))else none
 | .pi cs=>(arOf P t).bind λ(n,_,z)=>(boundsV n n lo hi mx).bind λ(l,h,_)=>
  if n<=maxLen/\(l=0\/l<h)then some (.im ((cs.drop (l*z)).take ((h-l)*z)) (h-l))else none
 | .sc (.string s)=>match mx with
  |none=>if isStr P t=true then(boundsV s.size s.size lo hi none).map λq=> .sc (.string (s.extract q.1 q.2.1))else none
  |some _=>none
 |_=>none
theorem arr_size{b:Nat}{k:Blk}{cells:Array Value}{ty:TypeId}{f:Nat×Nat}(h:Cellsat S rho A w b k)(hb:w.heap[b]? =some (.cells cells ty f)):k.cs.length<=cells.size:=by
 obtain⟨cells',h1,h2⟩:=h;rw[hb]at h1;simp only[Option.some.injEq,Obj.cells.injEq]at h1;obtain⟨rfl,_,_⟩:=h1;by_cases hl:k.cs.length=0;·omega
 ·obtain⟨u,hu,_⟩:=h2 (k.cs.length-1) _ (zlb om);have:=(Array.getElem?_eq_some_iff.1 hu).1;omega
theorem im_cut{cs:List V}{c b off:Nat}{f:Nat->Value}(o n len:Nat)(hl:len<=c)(hm:c<=maxLen)(hS:S b)
  (hc: ∀(i:Nat) (x:V),cs[i]? =some x->w.cell? ⟨b,off+i,none⟩=some (f i)) (hx: ∀(i:Nat) (x:V),cs[i]? =some x->R S rho w (λ_=>False) x (f i)):
  R S rho w A (.im ((cs.drop o).take n) len) (.slice (some ⟨b,off+o,none⟩) len c):=by
 have key: ∀(i:Nat) (x:V),((cs.drop o).take n)[i]? =some x->cs[o+i]? =some x:=by
  intro i x h;rw[List.getElem?_take]at h;split at h;·rwa[zl5]at h
  ·cases h
 exact .im1 (λi=>f (o+i)) hl hm hS (λi x h=>by rw[znf];exact hc _ _ (key i x h)) (λi x h=>hx _ _ (key i x h))
theorem slice_sound(hm:Mem B S rho A hp w){t:TypeId}{x y:V}{lo hi mx:Option V}{vx:Value}{vlo vhi vmx:Option Value}(h:exSlice P hp t x lo hi mx=some y)(hx:R S rho w A x vx)
  (h1:okO S rho A w lo vlo) (h2:okO S rho A w hi vhi) (h3:okO S rho A w mx vmx): ∃v,(Instr.sliceAt t vx vlo vhi vmx).run P w= .ok v w/\R S rho w A y v:=by
 have addr: ∀(a:Option Addr) (b off l m z:Nat),a=some ⟨b,off,none⟩->l<m\/l=0->(if m=l then a else a.map (·.add (l*z)))=some ⟨b,off+l*z,none⟩:=by
  intro a b off l m z ha hlm;subst ha;by_cases he:m=l
  ·rcases hlm with hlm|hlm;·omega
   ·subst hlm;simp[he]
  ·rw[if_neg he];simp[addrAdd]
 unfold exSlice at h;split at h
 ·rename_i id off len z cap;cases hs:slOf P t with
  |none=>simp[hs]at h
  | some p=>
   obtain⟨e,z'⟩:=p;simp only[hs,Option.bind_some]at h;cases hb:boundsV len (cap.getD len) lo hi mx with
   |none=>simp[hb]at h
   | some q=>
    obtain⟨l,hh,m⟩:=q;simp only[hb,Option.bind_some]at h;split at h
    ·rename_i hc;subst hc;split at h
     ·rename_i hl0;simp only[Option.some.injEq]at h;subst h;obtain⟨hu,hz⟩:=slOf_und hs;cases hx with
      | sln hcap=>
       have hub:cap.getD 0=0:=by cases cap with|none=>rfl|some k=>simp[hcap k rfl]
       obtain⟨hr,k1,k2,k3,k4⟩:=boundsV_run (P:=P) hb true 0 om om h1 h2 h3;have hh0:hh=0:=by omega
       have hl00:l=0:=by omega
       subst hh0;subst hl00;have hm0:m.getD 0=0:=by cases m with|none=>rfl|some k=>have:=k3 k rfl;simp;omega
       refine⟨.slice none 0 0,?_,?_⟩;·rw[hm0]at hr;simp[Instr.sliceAt,Instr.slice,run_underlying hu,hr,Sem.run_bind,run_sizeOf hz]
       ·have: ∀k,(match m with|some m=>some (m-0)|none=>cap.map (· -0))=some k->k=0:=by
         intro k hk;cases m with
         |some m'=>simp at hk hm0;omega
         |none=>cases cap with
          |none=>simp at hk
          |some c'=>simp at hk;have:=hcap c' rfl;omega
        simpa using R.sln (S:=S) (rho:=rho) (A:=A) (w:=w) (id:=id) (off:=off) (z:=z') this
      | sl hid hl hmx hcap hz0=>
       rename_i c;have hub:cap.getD len<=c:=by cases cap with|none=>exact hl|some k=>simp[hcap k rfl]
       obtain⟨hr,k1,k2,k3,k4⟩:=boundsV_run (P:=P) hb true c hub hl h1 h2 h3;have hmc:m.getD c<=c:=by cases m with|none=>exact znb _|some k=>have:=k3 k rfl;simp;omega
       refine⟨.slice (some ⟨rho id,off+l*z',none⟩) (hh-l) (m.getD c-l),?_,?_⟩
       ·simp only[Instr.sliceAt,Instr.slice,run_underlying hu,hr,Sem.run_bind,run_sizeOf hz,Result.andThen_ok];rw[addr (some ⟨rho id,off,none⟩) (rho id) off l (m.getD c) z' rfl om];rfl
       ·refine .sl hid om om ?_ ?_
        ·intro k hk;cases m with
         |some m'=>simpa using hk
         |none=>cases cap with
          |none=>simp at hk
          |some c'=>simp at hk;have:=hcap c' rfl;simp;omega
        ·obtain⟨ce,e',f',g1,g2⟩:=hz0;refine⟨ce,e',f',g1,Nat.le_trans ?_ g2⟩;have:l*z'+(m.getD c-l)*z'<=c*z':=by rw[<-Nat.add_mul];exact Nat.mul_le_mul_right _ om
         omega
     ·rename_i hl0;simp only[Option.some.injEq]at h;subst h;obtain⟨hu,hz⟩:=slOf_und hs;cases hx with
      |sln hcap=>
       have hub:cap.getD 0=0:=by cases cap with|none=>rfl|some k=>simp[hcap k rfl]
       obtain⟨hr,k1,k2,k3,k4⟩:=boundsV_run (P:=P) hb true 0 om om h1 h2 h3;omega
      |sl hid hl hmx hcap hz0=>
       rename_i c;have hub:cap.getD len<=c:=by cases cap with|none=>exact hl|some k=>simp[hcap k rfl]
       obtain⟨hr,k1,k2,k3,k4⟩:=boundsV_run (P:=P) hb true c hub hl h1 h2 h3;have hmc:m.getD c<=c:=by cases m with|none=>exact znb _|some k=>have:=k3 k rfl;simp;omega
       refine⟨_,by simp only[Instr.sliceAt,Instr.slice,run_underlying hu,hr,Sem.run_bind,run_sizeOf hz,Result.andThen_ok,Sem.run_pure];rfl,?_⟩;refine .im0 om om ?_;intro hn;exfalso;revert hn;split<;>simp
    ·cases h
 ·rename_i cs len;cases hs:slOf P t with
  |none=>simp[hs]at h
  | some p=>
   obtain⟨e,z⟩:=p;simp only[hs,Option.bind_some]at h;cases hb:boundsV len len lo hi mx with
   |none=>simp[hb]at h
   | some q=>
    obtain⟨l,hh,m⟩:=q;simp only[hb,Option.bind_some,Option.some.injEq]at h;subst h;obtain⟨hu,hz⟩:=slOf_und hs;cases hx with
    |im0 hl hmx ha=>
     rename_i c a;obtain⟨hr,k1,k2,k3,k4⟩:=boundsV_run (P:=P) hb true c hl hl h1 h2 h3;have hmc:m.getD c<=c:=by cases m with|none=>exact znb _|some k=>have:=k3 k rfl;simp;omega
     refine⟨_,by simp only[Instr.sliceAt,Instr.slice,run_underlying hu,hr,Sem.run_bind,run_sizeOf hz,Result.andThen_ok,Sem.run_pure];rfl,?_⟩;simp only[List.drop_nil,List.take_nil];refine .im0 om om ?_;intro hn;cases a with
     |none=>have:=ha rfl;omega
     |some ad=>exfalso;revert hn;split<;>simp
    | im1 f hl hmx hS hc hx=>
     rename_i c b off;obtain⟨hr,k1,k2,k3,k4⟩:=boundsV_run (P:=P) hb true c hl hl h1 h2 h3;have hmc:m.getD c<=c:=by cases m with|none=>exact znb _|some k=>have:=k3 k rfl;simp;omega
     refine⟨_,by simp only[Instr.sliceAt,Instr.slice,run_underlying hu,hr,Sem.run_bind,run_sizeOf hz,Result.andThen_ok,Sem.run_pure];rfl,?_⟩;by_cases hlm:m.getD c=l
     ·rw[if_pos hlm];have:hh-l=0:=by omega
      rw[this];simp only[Nat.zero_mul,zl4];exact .im0 om om (by simp)
     ·rw[if_neg hlm];simp only[Option.map_some,addrAdd];exact im_cut _ _ _ om om hS hc hx
 ·cases hs:slOf P t with
  |none=>simp[hs]at h
  | some p=>
   obtain⟨e,z⟩:=p;simp only[hs,Option.bind_some]at h;cases hb:boundsV 0 0 lo hi mx with
   |none=>simp[hb]at h
   |some q=>
    obtain⟨l,hh,m⟩:=q;simp only[hb,Option.bind_some,Option.some.injEq]at h;subst h;cases hx;obtain⟨hu,hz⟩:=slOf_und hs;obtain⟨hr,k1,k2,k3,k4⟩:=boundsV_run (P:=P) hb true 0 om om h1 h2 h3;have hh0:hh=0:=by omega
    have hl00:l=0:=by omega
    subst hh0;subst hl00;have hm0:m.getD 0=0:=by cases m with|none=>rfl|some k=>have:=k3 k rfl;simp;omega
    rw[hm0]at hr;exact⟨_,by simp[Instr.sliceAt,Instr.slice,run_underlying hu,hr,Sem.run_bind,run_sizeOf hz],.sc _⟩
 ·rename_i id off;cases hs:arOf P t with
  |none=>simp[hs]at h
  | some p=>
   obtain⟨n,e,z⟩:=p;simp only[hs,Option.bind_some]at h;cases hk:hget hp id with
   |none=>simp[hk]at h
   | some k=>
    simp only[hk,Option.bind_some]at h;cases hb:boundsV n n lo hi mx with
    |none=>simp[hb]at h
    | some q=>
     obtain⟨l,hh,m⟩:=q;simp only[hb,Option.bind_some]at h;split at h
     ·rename_i hc;obtain⟨hlen,hml,hl0⟩:=hc;simp only[Option.some.injEq]at h;subst h;cases hx;rename_i hid;obtain⟨hu,hz⟩:=arOf_und hs;obtain⟨hr,k1,k2,k3,k4⟩:=boundsV_run (P:=P) hb false n (znb _) (znb _) h1 h2 h3;have hmc:m.getD n<=n:=by cases m with|none=>exact znb _|some k=>have:=k3 k rfl;simp;omega
      obtain⟨cells,g1,g2⟩:=hm.cells id k hk hid;have hsz:=arr_size (hm.cells id k hk hid) g1;refine⟨.slice (some ⟨rho id,off+l*z,none⟩) (hh-l) (m.getD n-l),?_,.sl hid om om (by simp) ⟨cells,_,_,g1,?_⟩⟩
      ·simp only[Instr.sliceAt,run_underlying hu,Instr.sureAddr,hr,Sem.run_bind,run_sizeOf hz,Result.andThen_ok,Sem.run_pure];have:=addr (some ⟨rho id,off,none⟩) (rho id) off l (m.getD n) z rfl om;by_cases he:m.getD n=l;·rw[if_pos he]at this⊢;rw[<-this]
       ·rw[if_neg he]at this⊢;rw[<-this];rfl
      ·have:l*z+(m.getD n-l)*z<=n*z:=by rw[<-Nat.add_mul];exact Nat.mul_le_mul_right _ om
       omega
     ·cases h
 ·rename_i cs;cases hs:arOf P t with
  |none=>simp[hs]at h
  | some p=>
   obtain⟨n,e,z⟩:=p;simp only[hs,Option.bind_some]at h;cases hb:boundsV n n lo hi mx with
   |none=>simp[hb]at h
   | some q=>
    obtain⟨l,hh,m⟩:=q;simp only[hb,Option.bind_some]at h;split at h
    ·rename_i hc;obtain⟨hml,hl0⟩:=hc;simp only[Option.some.injEq]at h;subst h;cases hx with|pi f hS hc hx=>
     rename_i b off;obtain⟨hu,hz⟩:=arOf_und hs;obtain⟨hr,k1,k2,k3,k4⟩:=boundsV_run (P:=P) hb false n (znb _) (znb _) h1 h2 h3;have hmc:m.getD n<=n:=by cases m with|none=>exact znb _|some k=>have:=k3 k rfl;simp;omega
     refine⟨.slice (some ⟨b,off+l*z,none⟩) (hh-l) (m.getD n-l),?_,im_cut _ _ _ om om hS hc hx⟩;simp only[Instr.sliceAt,run_underlying hu,Instr.sureAddr,hr,Sem.run_bind,run_sizeOf hz,Result.andThen_ok,Sem.run_pure];have:=addr (some ⟨b,off,none⟩) b off l (m.getD n) z rfl om;by_cases he:m.getD n=l;·rw[if_pos he]at this⊢;rw[<-this]
     ·rw[if_neg he]at this⊢;rw[<-this];rfl
    ·cases h
 ·rename_i s;split at h
  ·split at h
   ·rename_i hu;cases hb:boundsV s.size s.size lo hi none with
    |none=>simp[hb]at h
    | some q=>
     obtain⟨l,hh,m⟩:=q;simp only[hb,Option.map_some,Option.some.injEq]at h;subst h;cases hx;have hmx:vmx=none:=by
      rcases h3 with⟨_,e⟩|⟨y,u,e1,_⟩;·exact e
      ·cases e1
     subst hmx;obtain⟨hr,_⟩:=boundsV_run (P:=P) hb false s.size (znb _) (znb _) h1 h2 h3;exact⟨_,by simp[Instr.sliceAt,Instr.slice,run_underlying (isStr_und hu),hr,Sem.run_bind],.sc _⟩
   ·cases h
  ·cases h
 ·cases h
end
end
section
open Go.RowKit
def V.one:V->Bool
 | .sc u=>u.oneCell'
 | .ag _| .tu _| .junk| .mp _ _ _ _| .ifc _ _=>false
 |_=>true
section
variable {P:Program} {w:World} {B:Base} {S:Nat->Prop} {rho:Nat->Nat} {A:Nat->Prop} {hp:List (Nat×Blk)} {nx:Nat}
theorem one_sound{x:V}{v:Value}(h:x.one=true)(hx:R S rho w A x v):v.oneCell'=true:=by cases hx<;>first|rfl|(simp[V.one]at h;done)|exact h
theorem setRow_grow(w:World)(g:Nat)(cs:Array Value):(w.setRow g cs).os=w.os/\(w.setRow g cs).tape=w.tape/\(w.setRow g cs).output=w.output/\(w.setRow g cs).heap.size=w.heap.size:=⟨rfl,rfl,rfl,by simp⟩
theorem Mem.setRow(hm:Mem B S rho A hp w){id:Nat}{k:Blk}(hk:hget hp id=some k)(ha:A id)(hz:k.fz=false){cells:Array Value}(hc:w.heap[rho id]? =some (.cells cells k.ty (0,0))){cs':List V}{arr':List Value}
  (hlen:arr'.length=cells.size) (hcs: ∀(i:Nat) (x:V),cs'[i]? =some x-> ∃u,arr'[i]? =some u/\R S rho w A x u):
  Mem B S rho A (hset hp id ⟨k.ty,cs',false⟩) (w.setRow (rho id) arr'.toArray)/\(∀b,S b->(w.setRow (rho id) arr'.toArray).heap[b]? =w.heap[b]?)/\
  (∀j,A j->A j/\rho j=rho j/\ ∀n,szAt w (rho j) n->szAt (w.setRow (rho id) arr'.toArray) (rho j) n):=by
 obtain⟨g1,g2,g3,g4⟩:=setRow_grow w (rho id) arr'.toArray;have hns: ¬S (rho id):=hm.fz id k hk ha hz;have hrow:(w.setRow (rho id) arr'.toArray).heap[rho id]? =some (.cells arr'.toArray k.ty (0,0)):=setRow_heap w (rho id) cells _ _ _ hc;have ho: ∀b,b≠rho id->(w.setRow (rho id) arr'.toArray).heap[b]? =w.heap[b]? :=λb hb=>setRow_other w (rho id) b _ (λe=>hb e);have hS: ∀b,S b->(w.setRow (rho id) arr'.toArray).heap[b]? =w.heap[b]? :=λb hb=>ho b (λe=>hns (e▸hb));have hsz: ∀n,szAt w (rho id) n->szAt (w.setRow (rho id) arr'.toArray) (rho id) n:=by
  rintro(n|⟨es,c⟩) hn
  ·obtain⟨c,e,f,h1,h2⟩:=hn;rw[hc]at h1;simp only[Option.some.injEq,Obj.cells.injEq]at h1;obtain⟨rfl,_,_⟩:=h1;exact⟨_,_,_,hrow,by simpa[hlen]using h2⟩
  ·have hn':w.heap[rho id]? =some (.map es c):=hn;rw[hc]at hn';cases hn'
 have hA: ∀j,A j->A j/\rho j=rho j/\ ∀n,szAt w (rho j) n->szAt (w.setRow (rho id) arr'.toArray) (rho j) n:=λj hj=>⟨hj,rfl,λn hn=>by
  by_cases e:rho j=rho id;·rw[e]at hn⊢;exact hsz n hn
  ·exact hn.of_heap (ho _ e)⟩
 refine⟨hm.set id k _ hk ha hz g1 g2 g3 g4 ho hsz ⟨_,hrow,λi x hx=> ?_⟩,hS,hA⟩;obtain⟨u,hu,hr⟩:=hcs i x hx;exact⟨u,by simpa using hu,hr.mono (λb hb=>⟨hb,hS b hb⟩) hA⟩
theorem Cellsat.all{b:Nat}{k:Blk}(h:Cellsat S rho A w b k): ∃cells:Array Value,w.heap[b]? =some (.cells cells k.ty (0,0))/\k.cs.length<=cells.size/\All S rho A w k.cs (cells.toList.take k.cs.length):=by
 obtain⟨cells,h1,h2⟩:=h;have hl:=arr_size ⟨cells,h1,h2⟩ h1;refine⟨cells,h1,hl,by simp;omega,λi x u hx hu=> ?_⟩;obtain⟨u',hu',hr⟩:=h2 i x hx;rw[List.getElem?_take]at hu;split at hu;·rw[Array.getElem?_toList,hu']at hu;cases hu;exact hr
 ·cases hu
def exStore(P:Program)(hp:List (Nat×Blk))(t:TypeId)(a x:V):Option Eff:=
 match a with
 | .pt id off=>(hget hp id).bind λk=>(vcells x).bind λxs=>
  if k.fz=false/\szOf P t=some xs.length/\off+xs.length<=k.cs.length/\xs.all V.one=true then some (.set id ⟨k.ty,setAll k.cs off xs,false⟩)else none
 |_=>none
theorem store_sound(hm:Mem B S rho A hp w){t:TypeId}{a x:V}{va vx:Value}{f:Eff}(h:exStore P hp t a x=some f)(ha:R S rho w A a va)(hx:R S rho w A x vx):
  Out B S rho A hp nx w ((do Instr.storeAt t va vx;pure undef:Sem Value).run P w) .junk f:=by
 unfold exStore at h;split at h
 ·rename_i id off;cases ha with|pt hid=>
  cases hk:hget hp id with
  |none=>simp[hk]at h
  | some k=>
   cases hc:vcells x with
   |none=>simp[hk,hc]at h
   | some xs=>
    simp only[hk,hc,Option.bind_some]at h;split at h
    ·rename_i hb;obtain⟨hz,hsz,hle,hone⟩:=hb;simp only[Option.some.injEq]at h;subst h;obtain⟨h1,h2⟩:=vcells_sound hx hc;obtain⟨cells,c1,c2,c3⟩:=(hm.cells id k hk hid).all;have hAll:All S rho A w xs vx.cells.toList:=⟨by simpa using h1.symm,λi y u hy hu=>h2 i y u hy (by simpa using hu)⟩
     have h1v: ∀v∈vx.cells.toList,v.oneCell'=true:=by
      intro v hv;obtain⟨i,hi⟩:=List.mem_iff_getElem?.1 hv;have hlt:i<xs.length:=by rw[hAll.1];exact(List.getElem?_eq_some_iff.1 hi).1
      exact one_sound (List.all_eq_true.1 hone _ (List.getElem_mem hlt)) (hAll.2 i _ v (zlb hlt) hi)
     have hst:=run_storeCells_at P (rho id) off k.ty vx.cells.toList 0 cells w c1 (by simp;omega) h1v;simp only[Nat.add_zero]at hst;have hl3:=hAll.1;have hset:=c3.setAll hAll (off:=off) (by simp at hl3⊢;omega);have hcs: ∀(i:Nat) (y:V),(setAll k.cs off xs)[i]? =some y-> ∃u,(cells.toList.take off++vx.cells.toList++cells.toList.drop (off+vx.cells.toList.length))[i]? =some u/\R S rho w A y u:=by
      intro i y hy;have hlt:i<k.cs.length:=by rw[<-setAll_length xs k.cs off];exact(List.getElem?_eq_some_iff.1 hy).1
      have hs2:i<((cells.toList.take k.cs.length).take off++vx.cells.toList++(cells.toList.take k.cs.length).drop (off+vx.cells.toList.length)).length:=by rw[<-hset.1,setAll_length];exact hlt
      refine⟨_,?_,hset.2 i y _ hy (zlb hs2)⟩;rw[<-zlb hs2];simp only[List.getElem?_append,List.getElem?_take,zl5,zl1,List.length_take,List.take_take];simp only[Array.length_toList]at hl3⊢;have e2:min off cells.size=off:=by omega
      have e3:min off k.cs.length=off:=by omega
      simp only[e2,e3];by_cases hi:i<off+vx.cells.size;·simp only[hi,if_true]
      ·simp only[hi,if_false];rw[if_pos om]
     obtain⟨m1,m2,m3⟩:=hm.setRow hk hid hz c1 (arr':=cells.toList.take off++vx.cells.toList++cells.toList.drop (off+vx.cells.toList.length)) (by simp;omega) hcs;refine⟨undef,_,rho,A,?_,m1,m3,λ_ h=> .inl h,m2,.junk _⟩;have hsz': ¬(vx.cells.size≠xs.length):=by simp[h1]
     simp[Instr.storeAt,Instr.sureAddr,storeVar,Sem.run_bind,run_sizeOf hsz,h1,hst]
    ·cases h
 ·cases h
def srcV(hp:List (Nat×Blk)):V->Option (List V×Nat)
 | .sl id off len z _=>(hget hp id).bind λk=>if off+len*z<=k.cs.length then some ((k.cs.drop off).take (len*z),len)else none
 | .im cs len=>some (cs,len)
 | .sc (.slice none 0 0)=>some ([],0)
 |_=>none
theorem src_sound(hm:Mem B S rho A hp w){x:V}{vx:Value}{ys:List V}{m:Nat}(h:srcV hp x=some (ys,m))(hx:R S rho w A x vx):
  ∃a c us,vx= .slice a m c/\All S rho A w ys us/\(ys≠ []-> ∃ad,a=some ad/\ ∀j u,us[j]? =some u->w.cell? (ad.add j)=some u)/\m<=c/\c<=maxLen/\(a=none->c=0):=by
 unfold srcV at h;split at h
 ·rename_i id off len z cap;cases hk:hget hp id with
  |none=>simp[hk]at h
  | some k=>
   simp only[hk,Option.bind_some]at h;split at h
   ·rename_i hb;simp only[Option.some.injEq,Prod.mk.injEq]at h;obtain⟨rfl,rfl⟩:=h;cases hx with
    |sln=>exact⟨none,0,[],rfl,⟨by simp,λi x u hx=>by simp at hx⟩,λh=>absurd (by simp) h,znb _,by unfold maxLen;omega,λ_=>rfl⟩
    | sl hid hl hmx hcap hz0=>
     obtain⟨cells,c1,c2,c3⟩:=(hm.cells id k hk hid).all;refine⟨_,_,_,rfl,(c3.drop off).take (len*z),λ_=>⟨_,rfl,λj u hu=> ?_⟩,hl,hmx,by simp⟩;rw[addrAdd,cell_of_row w (rho id) (off+j) cells _ _ c1];rw[List.getElem?_take]at hu;split at hu
     ·rw[zl5,List.getElem?_take]at hu;split at hu;·simpa using hu
      ·cases hu
     ·cases hu
   ·cases h
 ·rename_i cs len;simp only[Option.some.injEq,Prod.mk.injEq]at h;obtain⟨rfl,rfl⟩:=h;cases hx with
  |im0 hl hmx ha=>exact⟨_,_,[],rfl,⟨by simp,λi x u hx=>by simp at hx⟩,λh=>absurd rfl h,hl,hmx,ha⟩
  | im1 f hl hmx hS hc hx=>
   rename_i c b off;refine⟨_,_,(List.range cs.length).map f,rfl,⟨by simp,λi y u hy hu=> ?_⟩,λ_=>⟨_,rfl,λj u hu=> ?_⟩,hl,hmx,by simp⟩
   ·have hlt:=(List.getElem?_eq_some_iff.1 hy).1;rw[List.getElem?_map,List.getElem?_range hlt]at hu;simp at hu;subst hu;exact(hx i y hy).open
   ·have hlt:j<cs.length:=by have:=(List.getElem?_eq_some_iff.1 hu).1;simpa using this
    rw[List.getElem?_map,List.getElem?_range hlt]at hu;simp at hu;subst hu;rw[addrAdd];exact hc j _ (zlb hlt)
 ·simp only[Option.some.injEq,Prod.mk.injEq]at h;obtain⟨rfl,rfl⟩:=h;cases hx;exact⟨none,0,[],rfl,⟨by simp,λi x u hx=>by simp at hx⟩,λh=>absurd rfl h,znb _,by unfold maxLen;omega,λ_=>rfl⟩
 ·cases h
def bytesV:List V->Option (List UInt8)
 |[]=>some []
 | .sc (.int .u8 n)::r=>(bytesV r).map (UInt8.ofNat n.toNat:: ·)
 |_=>none
def isBytes(P:Program)(t:TypeId):Bool:=
 match P.underlying t with
 |some (.slice e)=>match P.underlying e with
  |some (.int .u8)=>true
  |_=>false
 |_=>false
theorem isBytes_und{t:TypeId}(h:isBytes P t=true): ∃e,P.underlying t=some (.slice e)/\P.underlying e=some (.int .u8):=by
 unfold isBytes at h;split at h
 ·split at h;·exact⟨_,‹_›,‹_›⟩
  ·cases h
 ·cases h
def bytesH(P:Program)(hp:List (Nat×Blk))(src dst:TypeId)(x:V):Option V:=
 if isStr P dst=true/\isBytes P src=true then(srcV hp x).bind λ(ys,m)=>if ys.length=m then(bytesV ys).map λl=> .sc (.string ⟨l.toArray⟩)else none
 else none
def exConvH(P:Program)(hp:List (Nat×Blk))(src dst:TypeId)(x:V):Option V:=
 match x with
 | .sc (.string _)=>if hasT P src=true/\isStr P dst=true then some x else none
 | .sl _ _ _ _ _| .im _ _| .sc (.slice none 0 0)=>bytesH P hp src dst x
 |_=>exConv P src dst x
def bytesU:List Value->List UInt8
 | .int .u8 n::r=>UInt8.ofNat n.toNat::bytesU r
 |_=>[]
theorem bytesV_all: ∀{ys:List V} {us:List Value} {l:List UInt8},bytesV ys=some l->All S rho A w ys us->bytesU us=l/\ ∀u∈us,∃n,u= .int .u8 n
 |[],us,l,h,ha=>by have:us=[]:=List.eq_nil_of_length_eq_zero (by have:=ha.1;simpa using this.symm);subst this;simp only[bytesV,Option.some.injEq]at h;subst h;exact⟨rfl,λu hu=>by simp at hu⟩
 | y ::ys,us,l,h,ha=>by
  match us,ha with
  |[],ha=>have:=ha.1;simp at this
  | u::us,ha=>
   have h0:=ha.2 0 y u rfl rfl;have hr:All S rho A w ys us:=⟨by have:=ha.1;simpa using this,λi x v hx hv=>ha.2 (i+1) x v (by simpa using hx) (by simpa using hv)⟩
   unfold bytesV at h;split at h;·rename_i e;cases e
   ·rename_i n r e;simp only[List.cons.injEq]at e;obtain⟨rfl,rfl⟩:=e;cases h0;cases hb:bytesV ys with
    |none=>simp[hb]at h
    |some l'=>
     simp only[hb,Option.map_some,Option.some.injEq]at h;subst h;obtain⟨h1,h2⟩:=bytesV_all hb hr;refine⟨by simp only[bytesU,h1],λv hv=> ?_⟩;rcases List.mem_cons.1 hv with rfl|hv;·exact⟨_,rfl⟩
     ·exact h2 v hv
   ·cases h
theorem push_all{P:Program}(w:World)(f:Value->ByteArray->Sem (ForInStep ByteArray))(hf: ∀n r,f (.int .u8 n) r=pure (.yield (r.push (UInt8.ofNat n.toNat)))):
  ∀(us:List Value) (s:ByteArray),(∀u∈us,∃n,u= .int .u8 n)->(forIn us s f).run P w= .ok ⟨s.data++(bytesU us).toArray⟩ w
 |[],s,_=>by simp[bytesU]
 |u::us,s,h=>by obtain⟨n,rfl⟩:=h u (by simp);rw[List.forIn_cons,hf];simp only[Sem.run_bind,Sem.run_pure,Result.andThen_ok];rw[push_all w f hf us _ λv hv=>h v (by simp[hv])];simp[bytesU,ByteArray.push]
theorem convH_sound(hm:Mem B S rho A hp w){src dst:TypeId}{x y:V}{vx:Value}(h:exConvH P hp src dst x=some y)(hx:R S rho w A x vx): ∃v,(convert src dst vx).run P w= .ok v w/\R S rho w A y v:=by
 have key:bytesH P hp src dst x=some y-> ∃v,(convert src dst vx).run P w= .ok v w/\R S rho w A y v:=by
  intro h;unfold bytesH at h;split at h
  ·rename_i hc;obtain⟨hs,hb⟩:=hc;obtain⟨e,h1,h2⟩:=isBytes_und hb;have h3:=isStr_und hs;cases hsrc:srcV hp x with
   |none=>simp[hsrc]at h
   | some q=>
    obtain⟨ys,m⟩:=q;simp only[hsrc,Option.bind_some]at h;split at h
    ·rename_i hlen;cases hbv:bytesV ys with
     |none=>simp[hbv]at h
     | some l=>
      simp only[hbv,Option.map_some,Option.some.injEq]at h;subst h;obtain⟨a,c,us,rfl,hAll,hcell,hmc,hcm,hn0⟩:=src_sound hm hsrc hx;obtain⟨hu,hall⟩:=bytesV_all hbv hAll;have hul:us.length=m:=by rw[<-hAll.1,hlen]
      have hload: ∀ad,a=some ad->ys≠ []\/m=0->(loadCells ad m).run P w= .ok us.toArray w:=by
       intro ad ha hy;subst ha;rw[<-hul];refine run_loadCells_list (P:=P) (w:=w) ad us λj v hj=> ?_;have hne:ys≠ []:=by
        intro e';rw[e']at hAll;have h0:us.length=0:=by simpa using hAll.1.symm
        have:=List.eq_nil_of_length_eq_zero h0;rw[this]at hj;simp at hj
       obtain⟨ad',e',hc'⟩:=hcell hne;cases e';exact hc' j v hj
      cases a with
      |none=>
       have hc0:=hn0 rfl;have:us=[]:=List.eq_nil_of_length_eq_zero om;subst this;simp only[bytesU]at hu;subst hu;exact⟨.string .empty,by simp[convert,run_underlying h1,run_underlying h2,run_underlying h3,Conv.bytesToString,Sem.run_bind],.sc _⟩
      | some ad=>
       have hl:=hload ad rfl (by
        rcases Nat.eq_zero_or_pos m with h0|h0;·exact .inr h0
        ·exact .inl (by intro e';rw[e']at hlen;simp at hlen;omega))
       refine⟨.string ⟨l.toArray⟩,?_,.sc _⟩;simp only[convert,Sem.run_bind,run_underlying h1,run_underlying h2,run_underlying h3,Result.andThen_ok,Conv.bytesToString,hl];rw[List.forIn_toArray,push_all w _ (λ_ _=>rfl) us _ hall,hu];simp
    ·cases h
  ·cases h
 unfold exConvH at h;split at h
 ·split at h
  ·rename_i hc;simp only[Option.some.injEq]at h;subst h;cases hx;obtain⟨ds,hs⟩:=Option.isSome_iff_exists.1 hc.1;refine⟨_,?_,.sc _⟩;have h3:=isStr_und hc.2;cases ds<;>simp[convert,run_underlying hs,run_underlying h3]
  ·cases h
 ·exact key h
 ·exact key h
 ·exact key h
 ·exact conv_sound h hx
def isMap(P:Program)(t:TypeId):Bool:=
 match P.underlying t with
 |some (.map _ _)=>true
 |_=>false
def exLen(P:Program)(t:TypeId):V->Option V
 | .sl _ _ len _ _| .im _ len=>(slOf P t).bind λ_=>some (.sc (.int .i64 len))
 | .sc (.slice _ n _)=>(slOf P t).bind λ_=>some (.sc (.int .i64 n))
 | .sc (.string s)=>if isStr P t then some (.sc (.int .i64 s.size))else none
 | .ag _=>(arOf P t).bind λ(n,_,_)=>some (.sc (.int .i64 n))
 | .mp _ _ _ vs=>if isMap P t=true then some (.sc (.int .i64 vs.length))else none
 |_=>none
theorem len_sound{t ty:TypeId}{x y:V}{vx:Value}(h:exLen P t x=some y)(hx:R S rho w A x vx): ∃v,(Builtin.len_ #[t] ty #[vx]).run P w= .ok v w/\R S rho w A y v:=by
 have sl: ∀{p:TypeId×Nat} {a:Option Addr} {n c:Nat},slOf P t=some p->(Builtin.len_ #[t] ty #[.slice a n c]).run P w= .ok (.int .i64 n) w:=by intro p a n c hs;obtain⟨e,z⟩:=p;obtain⟨hu,hz⟩:=slOf_und hs;simp[Builtin.len_,run_underlying hu,goInt]
 unfold exLen at h;split at h
 ·cases hs:slOf P t with
  |none=>simp[hs]at h
  |some p=>
   simp only[hs,Option.bind_some,Option.some.injEq]at h;subst h;cases hx<;>exact⟨_,sl hs,.sc _⟩
 ·cases hs:slOf P t with
  |none=>simp[hs]at h
  |some p=>
   simp only[hs,Option.bind_some,Option.some.injEq]at h;subst h;cases hx<;>exact⟨_,sl hs,.sc _⟩
 ·cases hs:slOf P t with
  |none=>simp[hs]at h
  |some p=>
   simp only[hs,Option.bind_some,Option.some.injEq]at h;subst h;cases hx;exact⟨_,sl hs,.sc _⟩
 ·split at h
  ·rename_i hu;simp only[Option.some.injEq]at h;subst h;cases hx;exact⟨_,by simp[Builtin.len_,run_underlying (isStr_und hu),goInt],.sc _⟩
  ·cases h
 ·cases hs:arOf P t with
  |none=>simp[hs]at h
  |some p=>
   obtain⟨n,e,z⟩:=p;simp only[hs,Option.bind_some,Option.some.injEq]at h;subst h;obtain⟨hu,hz⟩:=arOf_und hs;exact⟨_,by simp[Builtin.len_,run_underlying hu,goInt],.sc _⟩
 ·split at h
  ·rename_i hu;simp only[Option.some.injEq]at h;subst h;cases hx with| @mp _ _ _ c _ _ es h1 h2 h3 h4 h5 h6=>
   have h7:=szAt.map h3;rw[h2]at h7;unfold isMap at hu;split at hu
   ·rename_i he;exact⟨.int .i64 es.size,by simp[Builtin.len_,run_underlying he,goInt,getObj,Sem.run,h7,Result.andThen],by rw[h5];exact .sc _⟩
   ·cases hu
  ·cases h
 ·cases h
def exAppend(P:Program)(hp:List (Nat×Blk))(nx:Nat)(t:TypeId)(s x:V):Option (V×Eff):=
 (mkOf P t).bind λ(e,by',zc)=>(srcV hp x).bind λ(ys,m)=>
  if ys.length=m*zc.length/\ys.all V.one=true then
   match s with
   | .sl id off n z _=>(hget hp id).bind λk=>
    if off=0/\z=zc.length/\k.fz=false/\k.ty=e/\n*z<=k.cs.length/\n+m<1125899906842624/\(n+m)*by'<=140737488355328 then some (.sl nx 0 (n+m) z none,.app id ⟨e,k.cs.take (n*z)++ys,false⟩)else none
   | .sc (.slice none 0 0)=>if 0<m/\m<1125899906842624/\m*by'<=140737488355328 then some (.sl nx 0 m zc.length none,.new ⟨e,ys,false⟩)else none
   |_=>none
  else none
end
end
section
open Go.RowKit
section
variable {P:Program} {w:World} {B:Base} {S:Nat->Prop} {rho:Nat->Nat} {A:Nat->Prop} {hp:List (Nat×Blk)} {nx:Nat}
theorem run_append_zero(t ty e:TypeId){z:Nat}(ht:P.underlying t=some (.slice e))(hs:szOf P e=some z)(base a:Option Addr)(n c c':Nat)(hn:n<=c):
  (Builtin.append_ #[t,t] ty #[.slice base n c,.slice a 0 c']).run P w= .ok (.slice base n c) w:=by
 have hf:(Builtin.firstCells z 0 (.slice a 0 c')).run P w= .ok #[] w:=by
  cases a with
  |none=>exact run_firstCells_none (P:=P) w z 0 0 c'
  |some ad=>exact run_firstCells_some (P:=P) w z 0 ad 0 c' [] (by simp) (by simp)
 cases base<;>simp[Builtin.append_,run_underlying ht,Sem.run_bind,run_sizeOf hs,Builtin.lenOf,hn,hf,storeCells]
theorem Mem.phantom(h:Mem B S rho A hp w)(id:Nat)(hid: ¬A id)(k:Blk):Mem B S rho A ((id,k)::hp) w:=by
 have hg: ∀i q,hget ((id,k)::hp) i=some q->A i->hget hp i=some q:=by intro i q hq ha;simp only[hget]at hq;rw[if_neg (λe:i=id=>hid (e▸ha))]at hq;exact hq
 exact{
  cells:=λi q hq ha=>h.cells i q (hg i q hq ha) ha
  fz:=λi q hq ha=>h.fz i q (hg i q hq ha) ha
  own:=λi q hq ha=>h.own i q (hg i q hq ha) ha
  inj:=λi j q q' hq hq' ha ha'=>h.inj i j q q' (hg i q hq ha) (hg j q' hq' ha') ha ha'
  slt:=h.slt
  sub:=h.sub
  base:=h.base
  frame:=h.frame
  keep:=h.keep}
theorem Out.less{hp':List (Nat×Blk)}{id:Nat}{k:Blk}{r:Result Value}{x:V}(h:Out B S rho A hp' nx w r x (.new k))(e:hp'=hdel hp id):Out B S rho A hp nx w r x (.app id k):=by subst e;obtain⟨v,w',rho',A',h1,h2,h3,h4,h5,h6⟩:=h;exact⟨v,w',rho',A',h1,h2,h3,λi hi=>(h4 i hi).imp (λh=>h) (λh=>⟨h.1,k,.inr ⟨id,rfl⟩⟩),h5,h6⟩
theorem Mem.del(h:Mem B S rho A hp w)(id:Nat):Mem B S rho A (hdel hp id) w:=
 h.less λi k hk=>by rw[hget_hdel]at hk;split at hk;cases hk;exact hk
theorem grown_sound(hm:Mem B S rho A hp w)(hnx: ¬A nx){e:TypeId}{cs:List V}{arr rest:List Value}(h:All S rho A w cs arr){r:Result Value}{l c z:Nat}(hr:r= .ok (.slice (some ⟨w.heap.size,0,none⟩) l c) (w.drew.alloc (.cells (arr++rest).toArray e)))
  (hl:l<=c) (hc:c<=maxLen) (hs:c*z<=(arr++rest).length):Out B S rho A hp nx w r (.sl nx 0 l z none) (.new ⟨e,cs,false⟩):=by
 have g:Grow w (w.drew.alloc (.cells (arr++rest).toArray e)):=(Grow.drawn w _).trans (Grow.alloc w.drew _);refine Out.new (b:=w.heap.size) hm hnx hr g (znb _) ((h.mono (λb hb=>⟨hb,g.block b (hm.slt b hb)⟩) (λ_ h=>⟨h,rfl,λ_=>g.szAt⟩)).cellsat (rest:=rest) ?_) ?_;·exact heap_alloc_new w.drew _
 ·have:=R.sl (S:=S) (rho:=λi=>if i=nx then w.heap.size else rho i) (A:=λi=>i=nx\/A i) (w:=w.drew.alloc (.cells (arr++rest).toArray e)) (id:=nx) (off:=0) (z:=z) (cap:=none) (.inl rfl) hl hc (by simp) (by
   refine⟨(arr++rest).toArray,e,(0,0),?_,by simpa using hs⟩;simp only[if_true];exact heap_alloc_new w.drew _)
  simpa using this
theorem append_sound(hm:Mem B S rho A hp w)(hnx: ¬A nx){t ty:TypeId}{s x y:V}{vs vx:Value}{f:Eff}(h:exAppend P hp nx t s x=some (y,f))(hs:R S rho w A s vs)(hx:R S rho w A x vx):
  Out B S rho A hp nx w ((Builtin.append_ #[t,t] ty #[vs,vx]).run P w) y f:=by
 unfold exAppend at h;cases hk:mkOf P t with
 |none=>simp[hk]at h
 | some p =>
  obtain⟨e,by',zc⟩:=p;cases hsrc:srcV hp x with
  |none=>simp[hk,hsrc]at h
  | some q =>
   obtain⟨ys,m⟩:=q;simp only[hk,hsrc,Option.bind_some]at h;obtain⟨i,zv,h1,h2,h3,rfl,rfl,h6,h7,h8⟩:=mkOf_und hk;have hszE:szOf P e=some i.size:=by simp[szOf,h2]
   obtain⟨a,c',us,rfl,hAll,hcell,hmc,hcm,hn0⟩:=src_sound hm hsrc hx;split at h
   ·rename_i hys;obtain⟨hyl,hone⟩:=hys;have hul:us.length=m*i.size:=by rw[<-hAll.1,hyl,h6]
    have h1v: ∀v∈us,v.oneCell'=true:=by
     intro v hv;obtain⟨j,hj⟩:=List.mem_iff_getElem?.1 hv;have hlt:j<ys.length:=by rw[hAll.1];exact(List.getElem?_eq_some_iff.1 hj).1
     exact one_sound (List.all_eq_true.1 hone _ (List.getElem_mem hlt)) (hAll.2 j _ v (zlb hlt) hj)
    have hne:0<m->ys≠ []:=by intro hpos e';rw[e']at hyl;have:1*1<=m*zv.cells.toList.length:=Nat.mul_le_mul hpos om;simp at hyl this;omega
    have hy0:m=0->ys=[]:=by intro h0;subst h0;exact List.eq_nil_of_length_eq_zero (by simpa using hyl)
    have hzc: ∀n,(Builtin.zeroCells zv.cells n).size=n*i.size:=by intro n;rw[size_zeroCells,h7]
    split at h
    ·rename_i id off n z cap;cases hg:hget hp id with
     |none=>simp[hg]at h
     | some k=>
      simp only[hg,Option.bind_some]at h;split at h
      ·rename_i hc;obtain⟨rfl,hz,hfz,hty,hle,hlim,hby⟩:=hc;simp only[Option.some.injEq,Prod.mk.injEq]at h;obtain⟨rfl,rfl⟩:=h;have hz':z=i.size:=by omega
       cases hs with
       | sln hcap=>
        by_cases hm0:m=0
        ·subst hm0;have hy:=hy0 rfl;subst hy;refine⟨.slice none 0 0,w,rho,A,run_append_zero t ty e h1 hszE none a 0 0 c' (znb _),?_,λ_ h=>⟨h,rfl,λ_ h=>h⟩,λ_ h=> .inl h,λ_ _=>rfl,.sln (by simp)⟩;exact(hm.del id).phantom nx hnx _
        ·obtain⟨ad,rfl,hcd⟩:=hcell (hne om);have hr:=run_append_nil (P:=P) w t ty e i zv h1 h2 h3 ad m c' us hul hcd om om (by have:=(show m*i.bytes<=(0+m)*i.bytes by simp);omega);have hge:=grownCap_ge w m 0 e;rw[show List.take (0*z) k.cs++ys=ys by simp];refine Out.less (grown_sound (hm.del id) hnx (rest:=(Builtin.zeroCells zv.cells (grownCap w m 0 e-m)).toList) (cs:=ys) hAll (c:=grownCap w m 0 e) (l:=0+m) ?_ om (grownCap_le_maxLen w m 0 e (by unfold maxLen;omega)) ?_) rfl;·rw[hr,zn9];congr 3;apply Array.ext';simp
         ·have e2:=hzc (grownCap w m 0 e-m);simp[hul,e2,hz',<-Nat.add_mul];rw[show m+(grownCap w m 0 e-m)=grownCap w m 0 e by omega];exact znb _
       | sl hid hl hmx hcap hz0=>
        rename_i c;obtain⟨cells,c1,c2,c3⟩:=(hm.cells id k hg hid).all;have hAllo:All S rho A w (k.cs.take (n*z)) (cells.toList.take (n*z)):=by have:=c3.take (n*z);rwa[List.take_take,Nat.min_eq_left hle]at this
        have hnsz:n*z<=cells.size:=by omega
        have hns: ¬S (rho id):=hm.fz id k hg hid hfz;have hcsz:c*z<=cells.size:=by obtain⟨ce,e',f',g1,g2⟩:=hz0;rw[c1]at g1;simp only[Option.some.injEq,Obj.cells.injEq]at g1;obtain⟨rfl,_,_⟩:=g1;omega
        have hcomes: ∀{w':World},Mem B S rho A (hdel hp id) w'->(∀j,A j->A j/\rho j=rho j/\ ∀n,szAt w (rho j) n->szAt w' (rho j) n)->(∀b,S b->w'.heap[b]? =w.heap[b]?)->(hcs:Cellsat S rho A w' (rho id) ⟨e,k.cs.take (n*z)++ys,false⟩)->n+m<=c->
          ∀r:Result Value,r= .ok (.slice (some ⟨rho id,0,none⟩) (n+m) c) w'->Out B S rho A hp nx w r (.sl nx 0 (n+m) z none) (.app id ⟨e,k.cs.take (n*z)++ys,false⟩):=by
         intro w' hm' hA' hS' hcs hroom r hr;refine⟨_,w',_,_,hr,hm'.come nx hnx _ (rho id) ?_ hns (hm.own id k hg hid) hcs,λj hj=>⟨.inr hj,if_neg (λe:j=nx=>hnx (e▸hj)),(hA' j hj).2.2⟩,λj hj=>hj.elim (λe'=> .inr ⟨e',_,.inr ⟨id,rfl⟩⟩) .inl,hS',?_⟩
         ·intro j q hq haj he;rw[hget_hdel]at hq;split at hq;·cases hq
          ·rename_i hne';exact hne' (hm.inj j id q k hq hg haj hid he)
         ·have:=R.sl (S:=S) (rho:=λi=>if i=nx then rho id else rho i) (A:=λi=>i=nx\/A i) (w:=w') (id:=nx) (off:=0) (z:=z) (cap:=none) (.inl rfl) hroom hmx (by simp) (by
           simp only[if_true];exact(hA' id hid).2.2 _ hz0)
          simpa using this
        by_cases hm0:m=0
        ·subst hm0;have hy:=hy0 rfl;subst hy;refine hcomes (hm.del id) (λj hj=>⟨hj,rfl,λ_ h=>h⟩) (λ_ _=>rfl) ?_ om _ (run_append_zero t ty e h1 hszE _ a n c c' hl);rw[List.append_nil];refine All.cellsat (rest:=cells.toList.drop (n*z)) hAllo ?_;rw[List.take_append_drop];simpa[hty]using c1
        ·obtain⟨ad,rfl,hcd⟩:=hcell (hne om);by_cases hroom:n+m<=c
         ·have hfit:n*i.size+us.length<=cells.size:=by
           rw[hul,<-Nat.add_mul,<-hz'];exact Nat.le_trans (Nat.mul_le_mul_right _ hroom) hcsz
          have hr:=run_append_room (P:=P) w t ty e i h1 h2 (rho id) n c cells (hty▸c1) ad m c' us hul hcd h1v hroom hfit;have hnew:=hAllo.append hAll;rw[hz']at hnew hnsz;obtain⟨m1,m2,m3⟩:=hm.setRow hg hid hfz c1 (cs':=k.cs.take (n*z)++ys) (arr':=cells.toList.take (n*i.size)++us++cells.toList.drop (n*i.size+us.length)) (by simp;omega) (λj y hj=>by
           rw[hz']at hj;have hlt:j<(cells.toList.take (n*i.size)++us).length:=by rw[<-hnew.1];exact(List.getElem?_eq_some_iff.1 hj).1
           refine⟨_,?_,hnew.2 j y _ hj (zlb hlt)⟩;rw[List.getElem?_append,if_pos hlt,<-zlb hlt])
          refine hcomes (m1.less λj q hq=> ?_) m3 m2 ?_ hroom _ hr
          ·rw[hget_hdel]at hq;split at hq;·cases hq
           ·rename_i hne';rw[hget_hset,if_neg hne'];exact hq
          ·have hmem:hget (hset hp id ⟨k.ty,k.cs.take (n*z)++ys,false⟩) id=some ⟨k.ty,k.cs.take (n*z)++ys,false⟩:=by rw[hget_hset,if_pos rfl,hg];rfl
           have:=m1.cells id _ hmem hid;rwa[hty]at this
         ·have holds: ∀j v,(cells.toList.take (n*z))[j]? =some v->w.cell? ((⟨rho id,0,none⟩:Addr).add j)=some v:=by
           intro j v hv;rw[addrAdd,cell_of_row w (rho id) _ cells _ _ c1];rw[List.getElem?_take]at hv;split at hv;·simpa using hv
           ·cases hv
          have hr:=run_append_grow (P:=P) w t ty e i zv h1 h2 h3 ⟨rho id,0,none⟩ n c (cells.toList.take (n*z)) (by simp;rw[<-hz'];omega) holds ad m c' us hul hcd om om (growslice_fits om hby);have hge:=grownCap_ge w (n+m) c e;refine Out.less (grown_sound (hm.del id) hnx (rest:=(Builtin.zeroCells zv.cells (grownCap w (n+m) c e-(n+m))).toList) (hAllo.append hAll) (c:=grownCap w (n+m) c e) (l:=n+m) ?_ om (grownCap_le_maxLen w (n+m) c e (by unfold maxLen;omega)) ?_) rfl;·rw[hr];congr 3;apply Array.ext';simp
          ·have e2:=hzc (grownCap w (n+m) c e-(n+m));have e3:min (n*i.size) cells.size=n*i.size:=by rw[<-hz'];omega
           simp[hul,e2,hz',e3,<-Nat.add_mul];rw[<-znf,show n+m+(grownCap w (n+m) c e-(n+m))=grownCap w (n+m) c e by omega];exact znb _
      ·cases h
    ·split at h
     ·rename_i hb;simp only[Option.some.injEq,Prod.mk.injEq]at h;obtain⟨rfl,rfl⟩:=h;cases hs;obtain⟨ad,rfl,hcd⟩:=hcell (hne hb.1);have hr:=run_append_nil (P:=P) w t ty e i zv h1 h2 h3 ad m c' us hul hcd hb.1 om om;have hge:=grownCap_ge w m 0 e;refine grown_sound hm hnx (rest:=(Builtin.zeroCells zv.cells (grownCap w m 0 e-m)).toList) (cs:=ys) hAll (c:=grownCap w m 0 e) (l:=m) ?_ om (grownCap_le_maxLen w m 0 e (by unfold maxLen;omega)) ?_;·rw[hr];congr 3;apply Array.ext';simp
      ·have e2:=hzc (grownCap w m 0 e-m);simp[hul,e2,h7,<-Nat.add_mul];rw[show m+(grownCap w m 0 e-m)=grownCap w m 0 e by omega];exact znb _
     ·cases h
    ·cases h
   ·cases h
end
end
end Go.Proofs.YtannldafjkjjbaaGreat
