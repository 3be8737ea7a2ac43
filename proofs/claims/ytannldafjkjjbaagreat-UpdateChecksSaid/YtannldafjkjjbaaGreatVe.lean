/- Texts joined: Sx Tab Sn Qa Base Val Ja Jb Jc Jd Je Jg Jh Ji Qb T1 T2 Nt Lm La Lb Lc Sy. -/
import Derived.Test.YtannldafjkjjbaaGreatProg
import Derived.KernelRfl
import Derived.WalkSmall
import Derived.WalkKit
import Derived.Deep.QuietTactic
import Derived.BigQuiet
import Derived.Deep.LoopGhost
import Derived.Laws.AppendOwnNone
import Derived.Deep.RegionHeld3
import Derived.Deep.DeepCutAuto
import Derived.Defers
import Derived.Recover
import Derived.Tactics
import Derived.Test.YtannldafjkjjbaaGreatVc
import Derived.Test.YtannldafjkjjbaaGreatVd
set_option linter.all false
set_option maxHeartbeats 16000000
open Nat renaming reduceEqDiff → zn1, reduceLT → zn2, reduceLeDiff → zn3, reduceAdd → zn4, reduceMul → zn5, reduceSub → zn6, reduceBEq → zn7, mul_one → zn8, zero_add → zn9, one_mul → zna, le_refl → znb, zero_le → znc, add_sub_cancel_left → znd, sub_eq_zero_of_le → zne, add_assoc → znf
open Int renaming reduceToNat → zi1, reducePow → zi2
open List renaming length_append → zl1, drop_zero → zl2, take_succ_cons → zl3, take_zero → zl4, getElem?_drop → zl5, append_assoc → zl6, nil_append → zl7, cons_append → zl8, drop_succ_cons → zl9, take_of_length_le → zla, getElem?_eq_getElem → zlb, getElem?_eq_some_iff → zlc, map_cons → zld, map_nil → zle, all_eq_true → zlf
namespace Go.Proofs.YtannldafjkjjbaaGreat
section
open Go.RowKit
mutual
/-- the numbers of own blocks renamed -/
def V.ren(f:Nat->Nat):V->V
 | .sc v=> .sc v
 | .ag cs=> .ag (V.renL f cs)
 | .tu cs=> .tu (V.renL f cs)
 | .pt id off=> .pt (f id) off
 | .sl id off len z cap=> .sl (f id) off len z cap
 | .im cs len=> .im cs len
 | .pi cs=> .pi cs
 | .fn g p q=> .fn g (V.renL f p) (V.renL f q)
 | .mp id b ks vs=> .mp (f id) b ks vs
 | .ifc t x=> .ifc t (V.ren f x)
 | .junk=> .junk
def V.renL(f:Nat->Nat):List V->List V
 |[]=>[]
 |x::r=>V.ren f x::V.renL f r
end
section
variable (f:Nat->Nat)
@[go_sem] theorem ren_sc (v:Value):V.ren f (.sc v)= .sc v:=by simp[V.ren]
@[go_sem] theorem ren_ag (cs:List V):V.ren f (.ag cs)= .ag (V.renL f cs):=by simp[V.ren]
@[go_sem] theorem ren_tu (cs:List V):V.ren f (.tu cs)= .tu (V.renL f cs):=by simp[V.ren]
@[go_sem] theorem ren_pt (id off:Nat):V.ren f (.pt id off)= .pt (f id) off:=by simp[V.ren]
@[go_sem] theorem ren_sl (id off len z:Nat) (cap:Option Nat):V.ren f (.sl id off len z cap)= .sl (f id) off len z cap:=by simp[V.ren]
@[go_sem] theorem ren_im (cs:List V) (len:Nat):V.ren f (.im cs len)= .im cs len:=by simp[V.ren]
@[go_sem] theorem ren_mp (id b:Nat) (ks:List Int) (vs:List V):V.ren f (.mp id b ks vs)= .mp (f id) b ks vs:=by simp[V.ren]
@[go_sem] theorem ren_ifc (t:TypeId) (x:V):V.ren f (.ifc t x)= .ifc t (V.ren f x):=by simp[V.ren]
@[go_sem] theorem ren_pi (cs:List V):V.ren f (.pi cs)= .pi cs:=by simp[V.ren]
@[go_sem] theorem ren_fn (g:Fn) (p q:List V):V.ren f (.fn g p q)= .fn g (V.renL f p) (V.renL f q):=by simp[V.ren]
@[go_sem] theorem ren_junk:V.ren f .junk= .junk:=by simp[V.ren]
theorem renL_get: ∀(cs:List V) (i:Nat),(V.renL f cs)[i]? =cs[i]?.map (V.ren f)
 |[],i=>by simp[V.renL]
 |x::r,0=>by simp[V.renL]
 |x::r,i+1=>by simp[V.renL,renL_get r i]
theorem renL_len(cs:List V):(V.renL f cs).length=cs.length:=by
 induction cs with
 |nil=>simp[V.renL]
 |cons x r ih=>simp[V.renL,ih]
theorem renL_app(a b:List V):V.renL f (a++b)=V.renL f a++V.renL f b:=by
 induction a with
 |nil=>simp[V.renL]
 |cons x r ih=>simp[V.renL,ih]
theorem renL_map_sc(l:List Value):V.renL f (l.map .sc)=l.map .sc:=by
 induction l with
 |nil=>simp[V.renL]
 |cons x r ih=>simp[V.renL,V.ren,ih]
end
def renS(f:Nat->Nat)(sl:List (Nat×V)):List (Nat×V):=sl.map λp=>(p.1,p.2.ren f)
def renH(f:Nat->Nat)(hp:List (Nat×Blk)):List (Nat×Blk):=hp.map λp=>(f p.1,⟨p.2.ty,V.renL f p.2.cs,p.2.fz⟩)
def bren(f:Nat->Nat):Option Blk->Option Blk
 |some k=>some ⟨k.ty,V.renL f k.cs,k.fz⟩
 |none=>none
@[go_sem] theorem bren_some (f:Nat->Nat) (ty:Nat) (cs:List V) (fz:Bool):bren f (some ⟨ty,cs,fz⟩)=some ⟨ty,V.renL f cs,fz⟩:=rfl
@[go_sem] theorem get_ren (f:Nat->Nat) (sl:List (Nat×V)) (t:Nat):get (renS f sl) t=(get sl t).ren f:=by
 induction sl with
 |nil=>simp[renS,get,V.ren]
 |cons p r ih=>
  obtain⟨k,x⟩:=p;simp only[renS,zld,get]at ih⊢;split;·rfl
  ·exact ih
theorem hget_ren{f:Nat->Nat}(hf: ∀i,f (f i)=i)(hp:List (Nat×Blk))(id:Nat):hget (renH f hp) id=bren f (hget hp (f id)):=by
 induction hp with
 |nil=>rfl
 |cons p r ih=>
  obtain⟨k,x⟩:=p;simp only[renH,zld,hget]at ih⊢;by_cases h:id=f k;·subst h;rw[if_pos rfl,hf,if_pos rfl];rfl
  ·rw[if_neg h,if_neg (λe=>h (by rw[<-e,hf]))];exact ih
theorem R.ren{S:Nat->Prop}{rho:Nat->Nat}{w:World}{f:Nat->Nat}(hf: ∀i,f (f i)=i){A:Nat->Prop}{x:V}{v:Value}(h:R S rho w A x v):R S (λi=>rho (f i)) w (λi=>A (f i)) (x.ren f) v:=by
 have lift: ∀{cs:List V} {vs:Array Value} {A:Nat->Prop},(∀(i:Nat) (x:V) (u:Value),cs[i]? =some x->vs[i]? =some u->R S (λi=>rho (f i)) w (λi=>A (f i)) (x.ren f) u)->
   ∀(i:Nat) (x:V) (u:Value),(V.renL f cs)[i]? =some x->vs[i]? =some u->R S (λi=>rho (f i)) w (λi=>A (f i)) x u:=by
  intro cs vs A h i x u hx hu;rw[renL_get]at hx;cases hc:cs[i]?with
  |none=>rw[hc]at hx;cases hx
  |some y=>rw[hc]at hx;cases hx;exact h i y u hc hu
 have clo: ∀{cs:List V} {g:Nat->Value} {a:Nat->Option Addr},(∀(i:Nat) (x:V),cs[i]? =some x->R S rho w (λ_=>False) x (g i))-> ∀(i:Nat) (x:V),cs[i]? =some x->R S (λi=>rho (f i)) w (λ_=>False) x (g i):=
  λh i x hx=>(h i x hx).mono (λ_ h=>⟨h,rfl⟩) (λ_ h=>h.elim)
 induction h with
 |sc v=>rw[ren_sc];exact .sc v
 |junk v=>rw[ren_junk];exact .junk v
 |ag h _ ih=>rw[ren_ag];exact .ag (by rw[renL_len,h]) (lift ih)
 |tu h _ ih=>rw[ren_tu];exact .tu (by rw[renL_len,h]) (lift ih)
 | @pt A id off h=>
  rw[ren_pt];have:=R.pt (S:=S) (rho:=λi=>rho (f i)) (w:=w) (A:=λi=>A (f i)) (id:=f id) (off:=off) (by rw[hf];exact h);simpa only[hf]using this
 | @sl A id off len z c cap h hl hm hc hz=>
  rw[ren_sl];have:=R.sl (S:=S) (rho:=λi=>rho (f i)) (w:=w) (A:=λi=>A (f i)) (id:=f id) (off:=off) (len:=len) (z:=z) (c:=c) (cap:=cap) (by rw[hf];exact h) hl hm hc (by rw[hf];exact hz);simpa only[hf]using this
 |sln h=>rw[ren_sl];exact .sln h
 |im0 a b c=>rw[ren_im];exact .im0 a b c
 |im1 g a b c d e=>rw[ren_im];exact .im1 g a b c d λi x hx=>(e i x hx).mono (λ_ h=>⟨h,rfl⟩) (λ_ h=>h.elim)
 |pi g a c e=>rw[ren_pi];exact .pi g a c λi x hx=>(e i x hx).mono (λ_ h=>⟨h,rfl⟩) (λ_ h=>h.elim)
 |fn hp hq _ _ i1 i2=>rw[ren_fn];exact .fn (by rw[renL_len,hp]) (by rw[renL_len,hq]) (lift i1) (lift i2)
 |ifc _ ih=>rw[ren_ifc];exact .ifc ih
 | @mp A id b c ks vs es h hb hm hk hl hx=>
  rw[ren_mp];exact R.mp (S:=S) (rho:=λi=>rho (f i)) (w:=w) (A:=λi=>A (f i)) (id:=f id) (by rw[hf];exact h) (by rw[hf];exact hb) (by rw[hf];exact hm) hk hl λi x e h1 h2=>(hx i x e h1 h2).mono (λ_ h=>⟨h,rfl⟩) (λ_ h=>h.elim)
def swp(a b i:Nat):Nat:=if i=a then b else if i=b then a else i
@[go_sem] theorem swp_eq (a b i:Nat):swp a b i=if i=a then b else if i=b then a else i:=rfl
theorem swp_swp(a b i:Nat):swp a b (swp a b i)=i:=by
 unfold swp
 repeat' split
 all_goals omega
@[go_sem] theorem hget_swp (a b:Nat) (hp:List (Nat×Blk)) (id:Nat):hget (renH (swp a b) hp) id=bren (swp a b) (hget hp (swp a b id)):=hget_ren (swp_swp a b) hp id
theorem Le.swap{B:Base}{s':SS}{sl:List (Nat×V)}{hp:List (Nat×Blk)}{nx nt:Nat}(a b:Nat){m:Nat}(hB:B.Old m)(ha:m<=a/\a<nx)(hb:m<=b/\b<nx)(h:Le B ⟨renS (swp a b) sl,renH (swp a b) hp,nx,nt⟩ s'):Le B ⟨sl,hp,nx,nt⟩ s':=by
 intro S rho A c w hr;refine h S (λi=>rho (swp a b i)) (λi=>A (swp a b i)) c w ⟨λt=> ?_,?_,λid hid=> ?_,hr.nt,hr.defs⟩
 ·show R _ _ _ _ (get (renS (swp a b) sl) t) _;rw[get_ren];exact(hr.slots t).ren (swp_swp a b)
 ·have hm:=hr.mem;have g: ∀{id k},hget (renH (swp a b) hp) id=some k-> ∃k0,hget hp (swp a b id)=some k0/\k=⟨k0.ty,V.renL (swp a b) k0.cs,k0.fz⟩:=by
   intro id k h;rw[hget_swp]at h;cases hk:hget hp (swp a b id)with
   |none=>rw[hk]at h;cases h
   |some k0=>rw[hk]at h;cases h;exact⟨k0,rfl,rfl⟩
  have fixK: ∀id,B.K id->swp a b id=id:=by intro id h;have:=hB id h;unfold swp;rw[if_neg om,if_neg om]
  exact{
   cells:=λid k hk ha=>by
    obtain⟨k0,e,rfl⟩:=g hk;obtain⟨cells,c1,c2⟩:=hm.cells _ k0 e ha;refine⟨cells,c1,λi x hx=> ?_⟩;have hx':(V.renL (swp a b) k0.cs)[i]? =some x:=hx;rw[renL_get]at hx';cases hc:k0.cs[i]?with
    |none=>rw[hc]at hx';cases hx'
    |some y=>
     rw[hc]at hx';cases hx';obtain⟨u,hu,hr⟩:=c2 i y hc;exact⟨u,hu,hr.ren (swp_swp a b)⟩
   fz:=λid k hk ha hf=>by obtain⟨k0,e,rfl⟩:=g hk;exact hm.fz _ k0 e ha hf
   own:=λid k hk ha=>by obtain⟨k0,e,rfl⟩:=g hk;exact hm.own _ k0 e ha
   inj:=λid id' k k' hk hk' ha ha' he=>by obtain⟨k0,e,rfl⟩:=g hk;obtain⟨k0',e',rfl⟩:=g hk';have:=hm.inj _ _ k0 k0' e e' ha ha' he;rw[<-swp_swp a b id,this,swp_swp]
   slt:=hm.slt
   sub:=hm.sub
   base:=hm.base
   frame:=hm.frame
   keep:=λid h=>by rw[fixK id h];exact hm.keep id h}
 ·have:swp a b id<nx:=hr.alt _ hid;unfold swp at this;show id<nx;split at this;·omega
  ·split at this<;>omega
def pick2(t:Bool)(x y:Code):Code:=bif t then x else y
theorem SC.condB{P:Program}{B:Base}{c:Operand}{x y:Code}{cs:List Code}{Q:Exit->SS->Prop}{s:SS}{t:Bool}(hc:evS s.sl c= .sc (.bool t))(h:SC P B (pick2 t x y::cs) Q s):SC P B (.cond c x y::cs) Q s:=
 SC.cond hc (λe=>by subst e;exact h) (λe=>by subst e;exact h)
theorem pickT{P:Program}{B:Base}{x y:Code}{cs:List Code}{Q:Exit->SS->Prop}{s:SS}(h:SC P B (x::cs) Q s):SC P B (pick2 true x y::cs) Q s:=h
theorem pickA{P:Program}{B:Base}{x y:Code}{cs:List Code}{Q:Exit->SS->Prop}{s:SS}{t:Bool}(h:SC P B (pick2 t x y::cs) Q s):SC P B (pick2 t x y::cs) Q s:=h
theorem pickF{P:Program}{B:Base}{x y:Code}{cs:List Code}{Q:Exit->SS->Prop}{s:SS}(h:SC P B (y::cs) Q s):SC P B (pick2 false x y::cs) Q s:=h
@[go_sem] theorem repl1 {α:Type} (x:α):List.replicate 1 x=[x]:=rfl
@[go_sem] theorem bb_ft:(false==true)=false:=rfl
@[go_sem] theorem bb_tf:(true==false)=false:=rfl
theorem SO.nilq{P:Program}{B:Base}{ops:Array Oper}{l:List Oper}{cs':List Code}{Q:Exit->SS->Prop}{s:SS}{d:Option Tmp}{t ty:TypeId}{x y:Operand}{u:TypeId}{pos:String}{after:Array Edge}{gd:Option (Nat×Bool)}{cs:List V}{n:Nat}
  (hT:isSl P t=true) (hx:evS s.sl x= .im cs n) (hy:evS s.sl y= .sc (.slice none 0 0)) (hg:guardV ops s.sl gd=some true/\dstOk d s.nt=true)
  (k: ∀b,SO P B ops l cs' Q (s.put d (.sc (.bool b)) .none)):SO P B ops (⟨d,.binOp .eql t x y u,ty,pos,after,gd⟩::l) cs' Q s:=by
 intro S rho A a w hr;have hw:=guard_sound (o:=⟨d,.binOp .eql t x y u,ty,pos,after,gd⟩) hr.slots hg.1;refine wpList_step λK hK=> ?_;rw[if_pos hw];have h1:=ev_sound hr.mem.tab hr.slots x;have h2:=ev_sound hr.mem.tab hr.slots y;rw[hx]at h1;rw[hy]at h2;obtain⟨ad,m,c,e1⟩: ∃ad m c,a.eval x= .slice ad m c:=by
  generalize a.eval x=v at h1;cases h1 with
  |im0=>exact⟨_,_,_,rfl⟩
  |im1=>exact⟨_,_,_,rfl⟩
 have e2:a.eval y= .slice none 0 0:=by generalize a.eval y=v at h2;cases h2;rfl
 have hO:OutN B S rho A s.hp s.nx w ((execOp a.eval ⟨d,.binOp .eql t x y u,ty,pos,after,gd⟩).run P w) (.sc (.bool ad.isNone)) .none:=by refine OutN.of hr.mem ?_;rw[e1,e2];exact nil_sound hT rfl rfl
 obtain⟨v,w',rho',A',g1,g2,g3,g4,g5,g6⟩:=hO;have:=hK _ _ (k ad.isNone S rho' A' (a.put d v) w' (hr.put hg.2 g2 g3 g4 g5 g6));unfold Oper.wp;rcases g1 with g1|⟨g1,rfl⟩<;>rw[g1]<;>exact this
def wa:= @SC.condB
def wb:= @SC.region
def wc:= @SO.run
def pT:= @pickT
def pF:= @pickF
def pA:= @pickA
def wd:= @DO.run
end
section
@[go_sem] theorem Tab.has2:hasT Tryz.prog 2=true:=by kernel_rfl
@[go_sem] theorem Tab.int2:intOf' Tryz.prog 2=some .i64:=by kernel_rfl
@[go_sem] theorem Tab.agg3:aggOf Tryz.prog 3=some false:=by kernel_rfl
@[go_sem] theorem Tab.sz3:szOf Tryz.prog 3=some 1:=by kernel_rfl
@[go_sem] theorem Tab.int3:intOf' Tryz.prog 3=some .i64:=by kernel_rfl
@[go_sem] theorem Tab.zero3:zeroOf Tryz.prog 3=some (.int .i64 0):=by kernel_rfl
@[go_sem] theorem Tab.agg4:aggOf Tryz.prog 4=some false:=by kernel_rfl
@[go_sem] theorem Tab.sz4:szOf Tryz.prog 4=some 1:=by kernel_rfl
@[go_sem] theorem Tab.bool4:isBool Tryz.prog 4=true:=by kernel_rfl
@[go_sem] theorem Tab.agg5:aggOf Tryz.prog 5=some false:=by kernel_rfl
@[go_sem] theorem Tab.sz5:szOf Tryz.prog 5=some 1:=by kernel_rfl
@[go_sem] theorem Tab.has5:hasT Tryz.prog 5=true:=by kernel_rfl
@[go_sem] theorem Tab.int5:intOf' Tryz.prog 5=some .u8:=by kernel_rfl
@[go_sem] theorem Tab.str9:isStr Tryz.prog 9=true:=by kernel_rfl
@[go_sem] theorem Tab.agg22:aggOf Tryz.prog 22=some false:=by kernel_rfl
@[go_sem] theorem Tab.sz22:szOf Tryz.prog 22=some 1:=by kernel_rfl
@[go_sem] theorem Tab.sl22:slOf Tryz.prog 22=some (40,1):=by kernel_rfl
@[go_sem] theorem Tab.agg24:aggOf Tryz.prog 24=some true:=by kernel_rfl
@[go_sem] theorem Tab.sz24:szOf Tryz.prog 24=some 3:=by kernel_rfl
@[go_sem] theorem Tab.fld24_0:fldOf Tryz.prog 24 0=some (0,5,1):=by kernel_rfl
@[go_sem] theorem Tab.fld24_1:fldOf Tryz.prog 24 1=some (1,5,1):=by kernel_rfl
@[go_sem] theorem Tab.fld24_2:fldOf Tryz.prog 24 2=some (2,22,1):=by kernel_rfl
@[go_sem] theorem Tab.agg26:aggOf Tryz.prog 26=some false:=by kernel_rfl
@[go_sem] theorem Tab.sz26:szOf Tryz.prog 26=some 1:=by kernel_rfl
@[go_sem] theorem Tab.zero26:zeroOf Tryz.prog 26=some (.slice none 0 0):=by kernel_rfl
@[go_sem] theorem Tab.sl26:slOf Tryz.prog 26=some (41,1):=by kernel_rfl
@[go_sem] theorem Tab.mk26:mkOf Tryz.prog 26=some (41,24,[.slice none 0 0]):=by kernel_rfl
@[go_sem] theorem Tab.agg28:aggOf Tryz.prog 28=some true:=by kernel_rfl
@[go_sem] theorem Tab.sz28:szOf Tryz.prog 28=some 3:=by kernel_rfl
@[go_sem] theorem Tab.zero28:zeroOf Tryz.prog 28=some (.agg #[.int .i64 0,.int .i64 0,.slice none 0 0]):=by kernel_rfl
@[go_sem] theorem Tab.fld28_0:fldOf Tryz.prog 28 0=some (0,3,1):=by kernel_rfl
@[go_sem] theorem Tab.fld28_1:fldOf Tryz.prog 28 1=some (1,3,1):=by kernel_rfl
@[go_sem] theorem Tab.fld28_2:fldOf Tryz.prog 28 2=some (2,26,1):=by kernel_rfl
@[go_sem] theorem Tab.pl28:plOf Tryz.prog 28=some ([.int .i64 0,.int .i64 0,.slice none 0 0],.st [(0,1),(1,1),(2,1)]):=by kernel_rfl
@[go_sem] theorem Tab.agg31:aggOf Tryz.prog 31=some true:=by kernel_rfl
@[go_sem] theorem Tab.sz31:szOf Tryz.prog 31=some 9:=by kernel_rfl
@[go_sem] theorem Tab.fld31_0:fldOf Tryz.prog 31 0=some (0,28,3):=by kernel_rfl
@[go_sem] theorem Tab.fld31_1:fldOf Tryz.prog 31 1=some (3,28,3):=by kernel_rfl
@[go_sem] theorem Tab.fld31_2:fldOf Tryz.prog 31 2=some (6,28,3):=by kernel_rfl
@[go_sem] theorem Tab.pl31:plOf Tryz.prog 31=some ([.int .i64 0,.int .i64 0,.slice none 0 0,.int .i64 0,.int .i64 0,.slice none 0 0,.int .i64 0,.int .i64 0,.slice none 0 0],.st [(0,3),(3,3),(6,3)]):=by kernel_rfl
@[go_sem] theorem Tab.agg32:aggOf Tryz.prog 32=some false:=by kernel_rfl
@[go_sem] theorem Tab.sz32:szOf Tryz.prog 32=some 1:=by kernel_rfl
@[go_sem] theorem Tab.zero32:zeroOf Tryz.prog 32=some (.slice none 0 0):=by kernel_rfl
@[go_sem] theorem Tab.sl32:slOf Tryz.prog 32=some (80,5):=by kernel_rfl
@[go_sem] theorem Tab.mk32:mkOf Tryz.prog 32=some (80,56,[.int .i64 0,.int .i64 0,.int .i64 0,.bool false,.slice none 0 0]):=by kernel_rfl
@[go_sem] theorem Tab.agg34:aggOf Tryz.prog 34=some true:=by kernel_rfl
@[go_sem] theorem Tab.sz34:szOf Tryz.prog 34=some 13:=by kernel_rfl
@[go_sem] theorem Tab.zero34:zeroOf Tryz.prog 34=some (.agg #[.int .i64 0,.int .i64 0,.slice none 0 0,.int .i64 0,.int .i64 0,.slice none 0 0,.int .i64 0,.int .i64 0,.slice none 0 0,.int .i64 0,.int .i64 0,.slice none 0 0,.slice none 0 0]):=by kernel_rfl
@[go_sem] theorem Tab.fld34_0:fldOf Tryz.prog 34 0=some (0,28,3):=by kernel_rfl
@[go_sem] theorem Tab.fld34_1:fldOf Tryz.prog 34 1=some (3,31,9):=by kernel_rfl
@[go_sem] theorem Tab.fld34_2:fldOf Tryz.prog 34 2=some (12,32,1):=by kernel_rfl
@[go_sem] theorem Tab.pl34:plOf Tryz.prog 34=some ([.int .i64 0,.int .i64 0,.slice none 0 0,.int .i64 0,.int .i64 0,.slice none 0 0,.int .i64 0,.int .i64 0,.slice none 0 0,.int .i64 0,.int .i64 0,.slice none 0 0,.slice none 0 0],.st [(0,3),(3,9),(12,1)]):=by kernel_rfl
@[go_sem] theorem Tab.agg40:aggOf Tryz.prog 40=some false:=by kernel_rfl
@[go_sem] theorem Tab.sz40:szOf Tryz.prog 40=some 1:=by kernel_rfl
@[go_sem] theorem Tab.has40:hasT Tryz.prog 40=true:=by kernel_rfl
@[go_sem] theorem Tab.agg41:aggOf Tryz.prog 41=some false:=by kernel_rfl
@[go_sem] theorem Tab.sz41:szOf Tryz.prog 41=some 1:=by kernel_rfl
@[go_sem] theorem Tab.isSl41:isSl Tryz.prog 41=true:=by kernel_rfl
@[go_sem] theorem Tab.zero41:zeroOf Tryz.prog 41=some (.slice none 0 0):=by kernel_rfl
@[go_sem] theorem Tab.sl41:slOf Tryz.prog 41=some (68,2):=by kernel_rfl
@[go_sem] theorem Tab.mk41:mkOf Tryz.prog 41=some (68,32,[.bool false,.slice none 0 0]):=by kernel_rfl
@[go_sem] theorem Tab.agg42:aggOf Tryz.prog 42=some false:=by kernel_rfl
@[go_sem] theorem Tab.sz42:szOf Tryz.prog 42=some 1:=by kernel_rfl
@[go_sem] theorem Tab.isSl42:isSl Tryz.prog 42=true:=by kernel_rfl
@[go_sem] theorem Tab.sl42:slOf Tryz.prog 42=some (68,2):=by kernel_rfl
@[go_sem] theorem Tab.mk42:mkOf Tryz.prog 42=some (68,32,[.bool false,.slice none 0 0]):=by kernel_rfl
@[go_sem] theorem Tab.agg66:aggOf Tryz.prog 66=some false:=by kernel_rfl
@[go_sem] theorem Tab.sz66:szOf Tryz.prog 66=some 1:=by kernel_rfl
@[go_sem] theorem Tab.isSl66:isSl Tryz.prog 66=true:=by kernel_rfl
@[go_sem] theorem Tab.sl66:slOf Tryz.prog 66=some (117,1):=by kernel_rfl
@[go_sem] theorem Tab.mk66:mkOf Tryz.prog 66=some (117,4,[.int .u32 0]):=by kernel_rfl
@[go_sem] theorem Tab.agg68:aggOf Tryz.prog 68=some true:=by kernel_rfl
@[go_sem] theorem Tab.sz68:szOf Tryz.prog 68=some 2:=by kernel_rfl
@[go_sem] theorem Tab.zero68:zeroOf Tryz.prog 68=some (.agg #[.bool false,.slice none 0 0]):=by kernel_rfl
@[go_sem] theorem Tab.fld68_0:fldOf Tryz.prog 68 0=some (0,4,1):=by kernel_rfl
@[go_sem] theorem Tab.fld68_1:fldOf Tryz.prog 68 1=some (1,66,1):=by kernel_rfl
@[go_sem] theorem Tab.pl68:plOf Tryz.prog 68=some ([.bool false,.slice none 0 0],.st [(0,1),(1,1)]):=by kernel_rfl
@[go_sem] theorem Tab.ar76:arOf Tryz.prog 76=some (4,5,1):=by kernel_rfl
@[go_sem] theorem Tab.agg80:aggOf Tryz.prog 80=some true:=by kernel_rfl
@[go_sem] theorem Tab.sz80:szOf Tryz.prog 80=some 5:=by kernel_rfl
@[go_sem] theorem Tab.zero80:zeroOf Tryz.prog 80=some (.agg #[.int .i64 0,.int .i64 0,.int .i64 0,.bool false,.slice none 0 0]):=by kernel_rfl
@[go_sem] theorem Tab.fld80_0:fldOf Tryz.prog 80 0=some (0,3,1):=by kernel_rfl
@[go_sem] theorem Tab.fld80_1:fldOf Tryz.prog 80 1=some (1,3,1):=by kernel_rfl
@[go_sem] theorem Tab.fld80_2:fldOf Tryz.prog 80 2=some (2,3,1):=by kernel_rfl
@[go_sem] theorem Tab.fld80_3:fldOf Tryz.prog 80 3=some (3,68,2):=by kernel_rfl
@[go_sem] theorem Tab.pl80:plOf Tryz.prog 80=some ([.int .i64 0,.int .i64 0,.int .i64 0,.bool false,.slice none 0 0],.st [(0,1),(1,1),(2,1),(3,2)]):=by kernel_rfl
@[go_sem] theorem Tab.mk84:mkOf Tryz.prog 84=some (2,8,[.int .i64 0]):=by kernel_rfl
@[go_sem] theorem Tab.fld95_0:fldOf Tryz.prog 95 0=some (0,3,1):=by kernel_rfl
@[go_sem] theorem Tab.fld95_1:fldOf Tryz.prog 95 1=some (1,42,1):=by kernel_rfl
@[go_sem] theorem Tab.pl95:plOf Tryz.prog 95=some ([.int .i64 0,.slice none 0 0],.st [(0,1),(1,1)]):=by kernel_rfl
@[go_sem] theorem Tab.fld97_0:fldOf Tryz.prog 97 0=some (0,3,1):=by kernel_rfl
@[go_sem] theorem Tab.pl97:plOf Tryz.prog 97=some ([.int .i64 0],.st [(0,1)]):=by kernel_rfl
@[go_sem] theorem Tab.fld99_0:fldOf Tryz.prog 99 0=some (0,42,1):=by kernel_rfl
@[go_sem] theorem Tab.fld99_1:fldOf Tryz.prog 99 1=some (1,42,1):=by kernel_rfl
@[go_sem] theorem Tab.pl99:plOf Tryz.prog 99=some ([.slice none 0 0,.slice none 0 0],.st [(0,1),(1,1)]):=by kernel_rfl
@[go_sem] theorem Tab.fld101_0:fldOf Tryz.prog 101 0=some (0,42,1):=by kernel_rfl
@[go_sem] theorem Tab.pl101:plOf Tryz.prog 101=some ([.slice none 0 0],.st [(0,1)]):=by kernel_rfl
@[go_sem] theorem Tab.fld111_0:fldOf Tryz.prog 111 0=some (0,28,3):=by kernel_rfl
@[go_sem] theorem Tab.fld111_1:fldOf Tryz.prog 111 1=some (3,28,3):=by kernel_rfl
@[go_sem] theorem Tab.fld111_2:fldOf Tryz.prog 111 2=some (6,28,3):=by kernel_rfl
@[go_sem] theorem Tab.pl111:plOf Tryz.prog 111=some ([.int .i64 0,.int .i64 0,.slice none 0 0,.int .i64 0,.int .i64 0,.slice none 0 0,.int .i64 0,.int .i64 0,.slice none 0 0],.st [(0,3),(3,3),(6,3)]):=by kernel_rfl
@[go_sem] theorem Tab.has116:hasT Tryz.prog 116=true:=by kernel_rfl
@[go_sem] theorem Tab.int116:intOf' Tryz.prog 116=some .u64:=by kernel_rfl
@[go_sem] theorem Tab.agg117:aggOf Tryz.prog 117=some false:=by kernel_rfl
@[go_sem] theorem Tab.sz117:szOf Tryz.prog 117=some 1:=by kernel_rfl
@[go_sem] theorem Tab.has117:hasT Tryz.prog 117=true:=by kernel_rfl
@[go_sem] theorem Tab.int117:intOf' Tryz.prog 117=some .u32:=by kernel_rfl
@[go_sem] theorem Tab.agg125:aggOf Tryz.prog 125=some true:=by kernel_rfl
@[go_sem] theorem Tab.sz125:szOf Tryz.prog 125=some 4:=by kernel_rfl
@[go_sem] theorem Tab.zero125:zeroOf Tryz.prog 125=some (.agg #[.nilFunc,.nilFunc,.nilFunc,.nilFunc]):=by kernel_rfl
@[go_sem] theorem Tab.ar125:arOf Tryz.prog 125=some (4,124,1):=by kernel_rfl
@[go_sem] theorem Tab.pl125:plOf Tryz.prog 125=some ([.nilFunc,.nilFunc,.nilFunc,.nilFunc],.ar 1):=by kernel_rfl
@[go_sem] theorem Tab.ar134:arOf Tryz.prog 134=some (2,28,3):=by kernel_rfl
@[go_sem] theorem Tab.pl134:plOf Tryz.prog 134=some ([.int .i64 0,.int .i64 0,.slice none 0 0,.int .i64 0,.int .i64 0,.slice none 0 0],.ar 3):=by kernel_rfl
@[go_sem] theorem Tab.sl138:slOf Tryz.prog 138=some (139,2):=by kernel_rfl
@[go_sem] theorem Tab.mk138:mkOf Tryz.prog 138=some (139,16,[.int .i64 0,.int .i64 0]):=by kernel_rfl
@[go_sem] theorem Tab.agg139:aggOf Tryz.prog 139=some true:=by kernel_rfl
@[go_sem] theorem Tab.sz139:szOf Tryz.prog 139=some 2:=by kernel_rfl
@[go_sem] theorem Tab.ar139:arOf Tryz.prog 139=some (2,3,1):=by kernel_rfl
@[go_sem] theorem Tab.pl139:plOf Tryz.prog 139=some ([.int .i64 0,.int .i64 0],.ar 1):=by kernel_rfl
@[go_sem] theorem Tab.sl143:slOf Tryz.prog 143=some (4,1):=by kernel_rfl
@[go_sem] theorem Tab.mk143:mkOf Tryz.prog 143=some (4,1,[.bool false]):=by kernel_rfl
@[go_sem] theorem Tab.sl162:slOf Tryz.prog 162=some (28,3):=by kernel_rfl
@[go_sem] theorem Tab.mk162:mkOf Tryz.prog 162=some (28,40,[.int .i64 0,.int .i64 0,.slice none 0 0]):=by kernel_rfl
@[go_sem] theorem Tab.go12:isGo Tryz.prog 12=true:=by kernel_rfl
@[go_sem] theorem Tab.go13:isGo Tryz.prog 13=true:=by kernel_rfl
@[go_sem] theorem Tab.go14:isGo Tryz.prog 14=true:=by kernel_rfl
@[go_sem] theorem Tab.go16:isGo Tryz.prog 16=true:=by kernel_rfl
@[go_sem] theorem Tab.go17:isGo Tryz.prog 17=true:=by kernel_rfl
@[go_sem] theorem Tab.go19:isGo Tryz.prog 19=true:=by kernel_rfl
@[go_sem] theorem Tab.go22:isGo Tryz.prog 22=true:=by kernel_rfl
@[go_sem] theorem Tab.go24:isGo Tryz.prog 24=true:=by kernel_rfl
@[go_sem] theorem Tab.go26:isGo Tryz.prog 26=true:=by kernel_rfl
@[go_sem] theorem Tab.go30:isGo Tryz.prog 30=true:=by kernel_rfl
@[go_sem] theorem Tab.go31:isGo Tryz.prog 31=true:=by kernel_rfl
@[go_sem] theorem Tab.go32:isGo Tryz.prog 32=true:=by kernel_rfl
@[go_sem] theorem Tab.go33:isGo Tryz.prog 33=true:=by kernel_rfl
@[go_sem] theorem Tab.go34:isGo Tryz.prog 34=true:=by kernel_rfl
@[go_sem] theorem Tab.go35:isGo Tryz.prog 35=true:=by kernel_rfl
@[go_sem] theorem Tab.go37:isGo Tryz.prog 37=true:=by kernel_rfl
@[go_sem] theorem Tab.go38:isGo Tryz.prog 38=true:=by kernel_rfl
@[go_sem] theorem Tab.go39:isGo Tryz.prog 39=true:=by kernel_rfl
@[go_sem] theorem Tab.go40:isGo Tryz.prog 40=true:=by kernel_rfl
@[go_sem] theorem Tab.go41:isGo Tryz.prog 41=true:=by kernel_rfl
@[go_sem] theorem Tab.go42:isGo Tryz.prog 42=true:=by kernel_rfl
@[go_sem] theorem Tab.go43:isGo Tryz.prog 43=true:=by kernel_rfl
@[go_sem] theorem Tab.go44:isGo Tryz.prog 44=true:=by kernel_rfl
@[go_sem] theorem Tab.go45:isGo Tryz.prog 45=true:=by kernel_rfl
@[go_sem] theorem Tab.go46:isGo Tryz.prog 46=true:=by kernel_rfl
@[go_sem] theorem Tab.go47:isGo Tryz.prog 47=true:=by kernel_rfl
@[go_sem] theorem Tab.go48:isGo Tryz.prog 48=true:=by kernel_rfl
@[go_sem] theorem Tab.go49:isGo Tryz.prog 49=true:=by kernel_rfl
@[go_sem] theorem Tab.go50:isGo Tryz.prog 50=true:=by kernel_rfl
@[go_sem] theorem Tab.go51:isGo Tryz.prog 51=true:=by kernel_rfl
@[go_sem] theorem Tab.go53:isGo Tryz.prog 53=true:=by kernel_rfl
@[go_sem] theorem Tab.go54:isGo Tryz.prog 54=true:=by kernel_rfl
@[go_sem] theorem Tab.go55:isGo Tryz.prog 55=true:=by kernel_rfl
@[go_sem] theorem Tab.go56:isGo Tryz.prog 56=true:=by kernel_rfl
@[go_sem] theorem Tab.go58:isGo Tryz.prog 58=true:=by kernel_rfl
@[go_sem] theorem Tab.go59:isGo Tryz.prog 59=true:=by kernel_rfl
@[go_sem] theorem Tab.go60:isGo Tryz.prog 60=true:=by kernel_rfl
@[go_sem] theorem Tab.go61:isGo Tryz.prog 61=true:=by kernel_rfl
@[go_sem] theorem Tab.go62:isGo Tryz.prog 62=true:=by kernel_rfl
@[go_sem] theorem Tab.go63:isGo Tryz.prog 63=true:=by kernel_rfl
@[go_sem] theorem Tab.go64:isGo Tryz.prog 64=true:=by kernel_rfl
@[go_sem] theorem Tab.go68:isGo Tryz.prog 68=true:=by kernel_rfl
@[go_sem] theorem Tab.go69:isGo Tryz.prog 69=true:=by kernel_rfl
@[go_sem] theorem Tab.go70:isGo Tryz.prog 70=true:=by kernel_rfl
@[go_sem] theorem Tab.go72:isGo Tryz.prog 72=true:=by kernel_rfl
@[go_sem] theorem Tab.go73:isGo Tryz.prog 73=true:=by kernel_rfl
@[go_sem] theorem Tab.go74:isGo Tryz.prog 74=true:=by kernel_rfl
@[go_sem] theorem Tab.go75:isGo Tryz.prog 75=true:=by kernel_rfl
@[go_sem] theorem Tab.go76:isGo Tryz.prog 76=true:=by kernel_rfl
@[go_sem] theorem Tab.go77:isGo Tryz.prog 77=true:=by kernel_rfl
@[go_sem] theorem Tab.go78:isGo Tryz.prog 78=true:=by kernel_rfl
@[go_sem] theorem Tab.go79:isGo Tryz.prog 79=true:=by kernel_rfl
@[go_sem] theorem Tab.go80:isGo Tryz.prog 80=true:=by kernel_rfl
@[go_sem] theorem Tab.go81:isGo Tryz.prog 81=true:=by kernel_rfl
@[go_sem] theorem Tab.go82:isGo Tryz.prog 82=true:=by kernel_rfl
@[go_sem] theorem Tab.go83:isGo Tryz.prog 83=true:=by kernel_rfl
@[go_sem] theorem Tab.go84:isGo Tryz.prog 84=true:=by kernel_rfl
@[go_sem] theorem Tab.go87:isGo Tryz.prog 87=true:=by kernel_rfl
@[go_sem] theorem Tab.go88:isGo Tryz.prog 88=true:=by kernel_rfl
@[go_sem] theorem Tab.go89:isGo Tryz.prog 89=true:=by kernel_rfl
@[go_sem] theorem Tab.go90:isGo Tryz.prog 90=true:=by kernel_rfl
@[go_sem] theorem Tab.go91:isGo Tryz.prog 91=true:=by kernel_rfl
@[go_sem] theorem Tab.go92:isGo Tryz.prog 92=true:=by kernel_rfl
@[go_sem] theorem Tab.go93:isGo Tryz.prog 93=true:=by kernel_rfl
@[go_sem] theorem Tab.go94:isGo Tryz.prog 94=true:=by kernel_rfl
@[go_sem] theorem Tab.go95:isGo Tryz.prog 95=true:=by kernel_rfl
@[go_sem] theorem Tab.go96:isGo Tryz.prog 96=true:=by kernel_rfl
@[go_sem] theorem Tab.go97:isGo Tryz.prog 97=true:=by kernel_rfl
@[go_sem] theorem Tab.go98:isGo Tryz.prog 98=true:=by kernel_rfl
@[go_sem] theorem Tab.go99:isGo Tryz.prog 99=true:=by kernel_rfl
@[go_sem] theorem Tab.go100:isGo Tryz.prog 100=true:=by kernel_rfl
@[go_sem] theorem Tab.go101:isGo Tryz.prog 101=true:=by kernel_rfl
@[go_sem] theorem Tab.go104:isGo Tryz.prog 104=true:=by kernel_rfl
@[go_sem] theorem Tab.go106:isGo Tryz.prog 106=true:=by kernel_rfl
@[go_sem] theorem Tab.go107:isGo Tryz.prog 107=true:=by kernel_rfl
@[go_sem] theorem Tab.go108:isGo Tryz.prog 108=true:=by kernel_rfl
@[go_sem] theorem Tab.go109:isGo Tryz.prog 109=true:=by kernel_rfl
@[go_sem] theorem Tab.go110:isGo Tryz.prog 110=true:=by kernel_rfl
@[go_sem] theorem Tab.go111:isGo Tryz.prog 111=true:=by kernel_rfl
@[go_sem] theorem Tab.go112:isGo Tryz.prog 112=true:=by kernel_rfl
@[go_sem] theorem Tab.go113:isGo Tryz.prog 113=true:=by kernel_rfl
@[go_sem] theorem Tab.go115:isGo Tryz.prog 115=true:=by kernel_rfl
@[go_sem] theorem Tab.go116:isGo Tryz.prog 116=true:=by kernel_rfl
@[go_sem] theorem Tab.go117:isGo Tryz.prog 117=true:=by kernel_rfl
@[go_sem] theorem Tab.go118:isGo Tryz.prog 118=true:=by kernel_rfl
@[go_sem] theorem Tab.go119:isGo Tryz.prog 119=true:=by kernel_rfl
@[go_sem] theorem Tab.go120:isGo Tryz.prog 120=true:=by kernel_rfl
@[go_sem] theorem Tab.go121:isGo Tryz.prog 121=true:=by kernel_rfl
@[go_sem] theorem Tab.go122:isGo Tryz.prog 122=true:=by kernel_rfl
@[go_sem] theorem Tab.go123:isGo Tryz.prog 123=true:=by kernel_rfl
@[go_sem] theorem Tab.go124:isGo Tryz.prog 124=true:=by kernel_rfl
@[go_sem] theorem Tab.go125:isGo Tryz.prog 125=true:=by kernel_rfl
@[go_sem] theorem Tab.go126:isGo Tryz.prog 126=true:=by kernel_rfl
@[go_sem] theorem Tab.go127:isGo Tryz.prog 127=true:=by kernel_rfl
@[go_sem] theorem Tab.go128:isGo Tryz.prog 128=true:=by kernel_rfl
@[go_sem] theorem Tab.go129:isGo Tryz.prog 129=true:=by kernel_rfl
@[go_sem] theorem Tab.go130:isGo Tryz.prog 130=true:=by kernel_rfl
@[go_sem] theorem Tab.go131:isGo Tryz.prog 131=true:=by kernel_rfl
@[go_sem] theorem Tab.go134:isGo Tryz.prog 134=true:=by kernel_rfl
@[go_sem] theorem Tab.go135:isGo Tryz.prog 135=true:=by kernel_rfl
@[go_sem] theorem Tab.go136:isGo Tryz.prog 136=true:=by kernel_rfl
@[go_sem] theorem Tab.go137:isGo Tryz.prog 137=true:=by kernel_rfl
@[go_sem] theorem Tab.go138:isGo Tryz.prog 138=true:=by kernel_rfl
@[go_sem] theorem Tab.go139:isGo Tryz.prog 139=true:=by kernel_rfl
@[go_sem] theorem Tab.go140:isGo Tryz.prog 140=true:=by kernel_rfl
@[go_sem] theorem Tab.go141:isGo Tryz.prog 141=true:=by kernel_rfl
@[go_sem] theorem Tab.go142:isGo Tryz.prog 142=true:=by kernel_rfl
@[go_sem] theorem Tab.go143:isGo Tryz.prog 143=true:=by kernel_rfl
@[go_sem] theorem Tab.go144:isGo Tryz.prog 144=true:=by kernel_rfl
@[go_sem] theorem Tab.go145:isGo Tryz.prog 145=true:=by kernel_rfl
@[go_sem] theorem Tab.go162:isGo Tryz.prog 162=true:=by kernel_rfl
@[go_sem] theorem Tab.go163:isGo Tryz.prog 163=true:=by kernel_rfl
@[go_sem] theorem Tab.go165:isGo Tryz.prog 165=true:=by kernel_rfl
@[go_sem] theorem Tab.go166:isGo Tryz.prog 166=true:=by kernel_rfl
@[go_sem] theorem Tab.go171:isGo Tryz.prog 171=true:=by kernel_rfl
@[go_sem] theorem Tab.go172:isGo Tryz.prog 172=true:=by kernel_rfl
@[go_sem] theorem Tab.go174:isGo Tryz.prog 174=true:=by kernel_rfl
@[go_sem] theorem Tab.go175:isGo Tryz.prog 175=true:=by kernel_rfl
@[go_sem] theorem Tab.go176:isGo Tryz.prog 176=true:=by kernel_rfl
@[go_sem] theorem Tab.go177:isGo Tryz.prog 177=true:=by kernel_rfl
theorem Tab.mixed:Tryz.prog.follows .mixedOrders=true:=by kernel_rfl
end
section
open Go.RowKit
@[go_sem high] theorem wi64 (n:Int) (h1: -9223372036854775808<=n) (h2:n<=9223372036854775807):IntKind.i64.wrap n=n:=IntWalk.i64_in n ⟨h1,h2⟩
@[go_sem high] theorem wi32 (n:Int) (h1: -2147483648<=n) (h2:n<=2147483647):IntKind.i32.wrap n=n:=IntWalk.i32_in n ⟨h1,h2⟩
@[go_sem high] theorem wi8 (n:Int) (h1: -128<=n) (h2:n<=127):IntKind.i8.wrap n=n:=IntWalk.i8_in n ⟨h1,h2⟩
@[go_sem high] theorem wu64 (n:Int) (h1:0<=n) (h2:n<=18446744073709551615):IntKind.u64.wrap n=n:=IntWalk.u64_in n ⟨h1,h2⟩
@[go_sem high] theorem wu32 (n:Int) (h1:0<=n) (h2:n<=4294967295):IntKind.u32.wrap n=n:=IntWalk.u32_in n ⟨h1,h2⟩
@[go_sem high] theorem wu16 (n:Int) (h1:0<=n) (h2:n<=65535):IntKind.u16.wrap n=n:=IntWalk.u16_in n ⟨h1,h2⟩
@[go_sem high] theorem wu8 (n:Int) (h1:0<=n) (h2:n<=255):IntKind.u8.wrap n=n:=IntWalk.u8_in n ⟨h1,h2⟩
@[go_sem low] theorem wu32m (n:Int):IntKind.u32.wrap n=n % 4294967296:=IntKind.wrap_u32 n
@[go_sem low] theorem wu8m (n:Int):IntKind.u8.wrap n=n % 256:=IntKind.wrap_u8 n
@[go_sem] theorem tmod_nn (x y:Int) (h:0<=x):x.tmod y=x % y:=Int.tmod_eq_emod_of_nonneg h
@[go_sem] theorem tdiv_nn (x y:Int) (h:0<=x):x.tdiv y=x/y:=Int.tdiv_eq_ediv_of_nonneg h
theorem fdiv_pow(x:Int)(k:Nat):x.fdiv (2^k)=x/2^k:=Int.fdiv_eq_ediv_of_nonneg _ (Int.le_of_lt (Int.pow_pos om))
attribute [go_sem] fdiv_pow
end
section
open Go.RowKit
theorem clone_s(cs:List V)(hc:cs.all clo=true)(h1:cs.all V.one=true)(hn:cs.length<=1000000000000):Spec Tryz.prog 80 [.im cs cs.length] (.im cs cs.length):=by
 refine qF Tryz.func80 Tryz.ntmps80 λB hB=> ?_;refine qY ?_;refine SC.ops ?_;refine SO.run qT ?_;by_cases h0:cs.length=0
 ·have hnil:cs=[]:=List.eq_nil_of_length_eq_zero h0;subst hnil;refine SO.nilq (by simp(disch:=omega) only[go_sem,↓reduceIte,zn1,zn2,zn3,zn4,zn5,zn6,reduceCtorEq,zn7,zi1,zi2,if_pos,if_neg,Int.reduceAdd]) qT (by simp(disch:=omega) only[go_sem,↓reduceIte,zn1,zn2,zn3,zn4,zn5,zn6,reduceCtorEq,zn7,zi1,zi2,if_pos,if_neg,Int.reduceAdd]) ⟨by simp(disch:=omega) only[go_sem,↓reduceIte,zn1,zn2,zn3,zn4,zn5,zn6,reduceCtorEq,zn7,zi1,zi2,if_pos,if_neg,Int.reduceAdd],by simp(disch:=omega) only[go_sem,↓reduceIte,zn1,zn2,zn3,zn4,zn5,zn6,reduceCtorEq,zn7,zi1,zi2,if_pos,if_neg,Int.reduceAdd]⟩ λb=> ?_;cases b
  ·refine qY ?_;exact qE Tryz.results80
  ·refine qY ?_;exact qE Tryz.results80
 ·refine qR ?_
  (repeat(first|refine DO.nil (by kernel_rfl) ?_|(with_reducible refine SC.condB (by simp(disch:=omega) only[go_sem,↓reduceIte,zn1,zn2,zn3,zn4,zn5,zn6,reduceCtorEq,zn7,zi1,zi2,if_pos,if_neg,Int.reduceAdd,h1];rfl) ?_;first|with_reducible refine pickT ?_|with_reducible refine pickF ?_)|(with_reducible refine qO ?_)|((with_reducible apply SC.region);(focus(simp(disch:=omega) only[go_sem,↓reduceIte,zn1,zn2,zn3,zn4,zn5,zn6,reduceCtorEq,zn7,zi1,zi2,if_pos,if_neg,Int.reduceAdd,h1];rfl)))|(with_reducible refine SC.draw Tab.mixed rfl ?_;(repeat(refine DO.run (by simp(disch:=omega) only[go_sem,↓reduceIte,zn1,zn2,zn3,zn4,zn5,zn6,reduceCtorEq,zn7,zi1,zi2,if_pos,if_neg,Int.reduceAdd,h1];rfl) ?_));refine DO.nil (by kernel_rfl) ?_)))
  exact retQ_ret Tryz.results80 qT (by simp(disch:=omega) only[go_sem,↓reduceIte,zn1,zn2,zn3,zn4,zn5,zn6,reduceCtorEq,zn7,zi1,zi2,if_pos,if_neg,Int.reduceAdd,hc];rfl) rfl
end
section
open Go.RowKit
theorem hid{p:Prop}(h:p):Hid p:=h
def u32s(l:List Nat):List Value:=l.map λ(n:Nat)=>Value.int .u32 (n:Int)
@[simp] theorem u32s_length (l:List Nat):(u32s l).length=l.length:=by simp[u32s]
section
variable {P:Program} {ops:Array Oper} {rest:List Oper} {o:Oper} {a:Act} {Q:Exit->Act->World->Prop}
end
end
section
def val:List Nat->Nat
 |[]=>0
 |x::l=>x+4294967296*val l
def limbs(l:List Nat):Prop:= ∀x∈l,x<4294967296
theorem limbs_cons{x:Nat}{l:List Nat}(h:limbs (x::l)):x<4294967296/\limbs l:=⟨h x (by simp),λy hy=>h y (by simp[hy])⟩
theorem limbs_getD{l:List Nat}(h:limbs l)(i:Nat):l.getD i 0<4294967296:=by
 rw[List.getD_eq_getElem?_getD];by_cases hi:i<l.length;·simp[hi];exact h _ (List.getElem_mem hi)
 ·simp[hi]
theorem val_append(a b:List Nat):val (a++b)=val a+4294967296^a.length*val b:=by
 induction a with
 |nil=>simp[val]
 |cons x a ih=>simp only[zl8,val,ih,List.length_cons,Nat.pow_succ];grind
theorem val_lt{l:List Nat}(h:limbs l):val l<4294967296^l.length:=by
 induction l with
 |nil=>simp[val]
 |cons x l ih=>
  obtain⟨hx,hl⟩:=limbs_cons h;have:=ih hl;simp only[val,List.length_cons,Nat.pow_succ];omega
theorem val_take_succ{l:List Nat}{k:Nat}(h:k<l.length):val (l.take (k+1))=val (l.take k)+4294967296^k*l.getD k 0:=by rw[List.take_succ_eq_append_getElem h,val_append];simp[val,h,Nat.min_eq_left (Nat.le_of_lt h)]
theorem limbs_take{l:List Nat}(h:limbs l)(k:Nat):limbs (l.take k):=λx hx=>h x (List.mem_of_mem_take hx)
theorem limbs_drop{l:List Nat}(h:limbs l)(k:Nat):limbs (l.drop k):=λx hx=>h x (List.mem_of_mem_drop hx)
theorem val_split(l:List Nat)(k:Nat)(h:k<=l.length):val l=val (l.take k)+4294967296^k*val (l.drop k):=by
 conv=>lhs;rw[<-List.take_append_drop k l]
 rw[val_append];simp[Nat.min_eq_left h]
theorem val_lt_step{a b:List Nat}{k:Nat}(ha:limbs a)(hb:limbs b)(hka:k<a.length)(hkb:k<b.length):
  (a.getD k 0=b.getD k 0->(val (a.take (k+1))<val (b.take (k+1))↔val (a.take k)<val (b.take k)))/\
  (a.getD k 0≠b.getD k 0->(val (a.take (k+1))<val (b.take (k+1))↔a.getD k 0<b.getD k 0)):=by
 have h1:=val_lt (limbs_take ha k);have h2:=val_lt (limbs_take hb k);rw[List.length_take,Nat.min_eq_left (Nat.le_of_lt hka)]at h1;rw[List.length_take,Nat.min_eq_left (Nat.le_of_lt hkb)]at h2;rw[val_take_succ hka,val_take_succ hkb];generalize val (a.take k)=x at*;generalize val (b.take k)=y at*;generalize a.getD k 0=c;generalize b.getD k 0=d;generalize 4294967296^k=p at*;refine⟨λh=>by subst h;omega,λh=> ?_⟩;rcases Nat.lt_or_gt_of_ne h with h'|h'
 ·have:p*(c+1)<=p*d:=Nat.mul_le_mul_left _ h';rw[Nat.mul_add]at this;constructor;·intro _;exact h'
  ·intro _;omega
 ·have:p*(d+1)<=p*c:=Nat.mul_le_mul_left _ h';rw[Nat.mul_add]at this;constructor;·intro _;omega
  ·intro _;omega
def lessL(a b:List Nat):Bool:=if a.length=b.length then decide (val a<val b)else decide (a.length<b.length)
def canon(l:List Nat):Prop:= ∀h:l≠ [],l.getLast h≠0
theorem canon_ge{l:List Nat}(h:canon l)(hn:l≠ []):4294967296^(l.length-1)<=val l:=by
 have e:=List.dropLast_concat_getLast hn;have h1:=h hn
 conv=>rhs;rw[<-e]
 rw[val_append];simp only[List.length_dropLast,val];have:4294967296^(l.length-1)*1<=4294967296^(l.length-1)*(l.getLast hn+4294967296*0):=Nat.mul_le_mul_left _ om;omega
theorem lessL_eq{a b:List Nat}(ha:limbs a)(hb:limbs b)(ca:canon a)(cb:canon b):lessL a b=decide (val a<val b):=by
 unfold lessL;split;·rfl
 ·rename_i hne;have key: ∀{a b:List Nat},limbs a->canon b->a.length<b.length->val a<val b:=by
   intro a b ha cb h;have h1:=val_lt ha;have h2:=canon_ge cb (by intro e;subst e;simp at h);have h3:4294967296^a.length<=4294967296^(b.length-1):=Nat.pow_le_pow_right om om;omega
  rcases Nat.lt_or_gt_of_ne hne with h|h;·simp[h,key ha cb h]
  ·have:=key hb ca h;rw[Bool.eq_iff_iff];simp;omega
theorem val_inj{a b:List Nat}(ha:limbs a)(hb:limbs b)(h:a.length=b.length)(e:val a=val b):a=b:=by
 induction a generalizing b with
 |nil=>cases b with|nil=>rfl|cons=>simp at h
 | cons x a ih=>
  cases b with
  |nil=>simp at h
  |cons y b=>
   obtain⟨hx,ha⟩:=limbs_cons ha;obtain⟨hy,hb⟩:=limbs_cons hb;simp only[val]at e;have h1:x=y:=by omega
   have h2:val a=val b:=by omega
   rw[h1,ih ha hb (by simpa using h) h2]
theorem canon_inj{a b:List Nat}(ha:limbs a)(hb:limbs b)(ca:canon a)(cb:canon b)(e:val a=val b):a=b:=by
 have h1:=lessL_eq ha hb ca cb;have h2:=lessL_eq hb ha cb ca;unfold lessL at h1 h2;have hl:a.length=b.length:=by
  by_cases hl:a.length=b.length;·exact hl
  ·rw[if_neg hl]at h1;rw[if_neg (λh=>hl h.symm)]at h2;simp[e]at h1 h2;omega
 exact val_inj ha hb hl e
theorem val_take_succ'(l:List Nat)(k:Nat):val (l.take (k+1))=val (l.take k)+4294967296^k*l.getD k 0:=by
 by_cases h:k<l.length;·exact val_take_succ h
 ·rw[zla om,zla om];simp[List.getD_eq_getElem?_getD,List.getElem?_eq_none (Nat.le_of_not_lt h)]
theorem getD_ge{l:List Nat}{k:Nat}(h: ¬k<l.length):l.getD k 0=0:=by simp[List.getD_eq_getElem?_getD,List.getElem?_eq_none (Nat.le_of_not_lt h)]
theorem limbs_snoc{l:List Nat}(h:limbs l){x:Nat}(hx:x<4294967296):limbs (l++ [x]):=by
 intro y hy;rcases List.mem_append.1 hy with hy|hy;·exact h y hy
 ·simp at hy;omega
def plusInv(a b:List Nat)(k c:Nat)(l:List Nat):Prop:=l.length=k/\limbs l/\val l+4294967296^k*c=val (a.take k)+val (b.take k)
theorem plusInv.step{a b l:List Nat}{k c:Nat}(h:plusInv a b k c l)(x y:Nat)(hx:a.getD k 0=x)(hy:b.getD k 0=y):plusInv a b (k+1) ((c+x+y)/4294967296) (l++ [(c+x+y) % 4294967296]):=by
 obtain⟨h1,h2,h3⟩:=h;refine⟨by simp[h1],limbs_snoc h2 om,?_⟩;rw[val_take_succ',val_take_succ',val_append,hx,hy,h1,Nat.pow_succ];simp only[val];have hd:=Nat.div_add_mod (c+x+y) 4294967296;generalize 4294967296^k=p at*;generalize(c+x+y)/4294967296=d at*;generalize(c+x+y) % 4294967296=m at*;have:p*(c+x+y)=p*(4294967296*d+m):=by rw[hd]
 grind
theorem plusInv.done{a b l:List Nat}{k:Nat}(h:plusInv a b k 0 l)(ha:a.length<=k)(hb:b.length<=k):val l=val a+val b:=by obtain⟨h1,h2,h3⟩:=h;rw[zla ha,zla hb]at h3;simpa using h3
theorem val_set{z:List Nat}{j:Nat}(h:j<z.length)(x:Nat):val (z.set j x)+4294967296^j*z.getD j 0=val z+4294967296^j*x:=by
 induction z generalizing j with
 |nil=>simp at h
 | cons y z ih=>
  cases j with
  |zero=>simp[val];omega
  |succ j=>
   have:=ih (j:=j) (by simpa using h);simp only[List.set_cons_succ,val,List.getD_cons_succ,Nat.pow_succ]at*
   grind
theorem limbs_set{z:List Nat}(h:limbs z)(j:Nat){x:Nat}(hx:x<4294967296):limbs (z.set j x):=by
 intro y hy;rcases List.mem_or_eq_of_mem_set hy with hy|rfl;·exact h y hy
 ·exact hx
theorem limbs_replicate(n:Nat):limbs (List.replicate n 0):=by intro x hx;simp at hx;omega
theorem val_replicate(n:Nat):val (List.replicate n 0)=0:=by induction n with|zero=>rfl|succ n ih=>simp[List.replicate_succ,val,ih]
def mulInv(a b:List Nat)(i k c:Nat)(z:List Nat):Prop:=
 z.length=a.length+b.length+1/\limbs z/\val z+4294967296^(i+k)*c=val (a.take i)*val b+4294967296^i*(a.getD i 0*val (b.take k))
theorem mulInv.step{a b z:List Nat}{i k c:Nat}(h:mulInv a b i k c z)(hj:i+k<z.length)(x y t:Nat)(hx:a.getD i 0=x)(hy:b.getD k 0=y)(ht:z.getD (i+k) 0=t):
  mulInv a b i (k+1) ((c+t+x*y)/4294967296) (z.set (i+k) ((c+t+x*y) % 4294967296)):=by
 obtain⟨h1,h2,h3⟩:=h;refine⟨by simp[h1],limbs_set h2 _ om,?_⟩;have h4:=val_set hj ((c+t+x*y) % 4294967296);rw[val_take_succ',hx,hy]at*;rw[ht]at h4;have hd:=Nat.div_add_mod (c+t+x*y) 4294967296;rw[show i+(k+1)=i+k+1 from rfl,Nat.pow_succ];generalize hD:(c+t+x*y)/4294967296=d at*;generalize hM:(c+t+x*y) % 4294967296=m at*;generalize val (z.set (i+k) m)=V at*;have e1:4294967296^(i+k)=4294967296^i*4294967296^k:=Nat.pow_add _ _ _;generalize 4294967296^(i+k)=p at*;generalize 4294967296^i=q at*;generalize 4294967296^k=r at*;subst e1;have:q*r*(c+t+x*y)=q*r*(4294967296*d+m):=by rw[hd]
 grind
theorem mulInv.noCarry{a b z:List Nat}{i c:Nat}(h:mulInv a b i (b.length+1) c z)(ha:limbs a)(hb:limbs b)(hi:i<a.length):c=0:=by
 obtain⟨h1,h2,h3⟩:=h;rw[zla (l:=b) om]at h3;have e:val (a.take (i+1))*val b=val (a.take i)*val b+4294967296^i*(a.getD i 0*val b):=by rw[val_take_succ',Nat.add_mul,Nat.mul_assoc]
 have hA:=val_lt (limbs_take ha (i+1));have hB:=val_lt hb;rw[List.length_take,Nat.min_eq_left hi]at hA;have hP:val (a.take (i+1))*val b<4294967296^(i+(b.length+1)):=by rw[show i+(b.length+1)=(i+1)+b.length by omega,Nat.pow_add];exact Nat.mul_lt_mul'' hA hB
 rcases Nat.eq_zero_or_pos c with h0|h0;·exact h0
 ·have:4294967296^(i+(b.length+1))*1<=4294967296^(i+(b.length+1))*c:=Nat.mul_le_mul_left _ h0;omega
theorem mulInv.row{a b z:List Nat}{i k:Nat}(h:mulInv a b i k 0 z)(hk:b.length<=k):mulInv a b (i+1) 0 0 z:=by obtain⟨h1,h2,h3⟩:=h;refine⟨h1,h2,?_⟩;rw[zla (l:=b) hk,Nat.mul_zero,Nat.add_zero]at h3;rw[val_take_succ',Nat.add_mul,h3,Nat.mul_zero,zl4,Nat.mul_assoc,show val []=0 from rfl,Nat.mul_zero,Nat.mul_zero]
theorem mulInv.done{a b z:List Nat}{i:Nat}(h:mulInv a b i 0 0 z)(hi:a.length<=i):val z=val a*val b:=by obtain⟨h1,h2,h3⟩:=h;rw[zla (l:=a) hi,Nat.mul_zero,zl4,show val []=0 from rfl,Nat.mul_zero,Nat.mul_zero]at h3;exact h3
def minusInv(a b:List Nat)(k c:Nat)(l:List Nat):Prop:=l.length=k/\limbs l/\val l+val (b.take k)=val (a.take k)+4294967296^k*c
theorem minusInv.step{a b l:List Nat}{k c:Nat}(h:minusInv a b k c l)(x y d c':Nat)(hx:a.getD k 0=x)(hy:b.getD k 0=y)(hd:d<4294967296)(he:(d:Int)=x-c-y+4294967296*c'):minusInv a b (k+1) c' (l++ [d]):=by
 obtain⟨h1,h2,h3⟩:=h;refine⟨by simp[h1],limbs_snoc h2 hd,?_⟩;rw[val_take_succ',val_take_succ',val_append,hx,hy,h1,Nat.pow_succ];simp only[val];have he':d+c+y=x+4294967296*c':=by omega
 generalize 4294967296^k=p at*;have:p*(d+c+y)=p*(x+4294967296*c'):=by rw[he']
 grind
theorem minusInv.done{a b l:List Nat}{c:Nat}(h:minusInv a b a.length c l)(hc:c<=1)(ha:limbs a)(hb:b.length<=a.length)(hab:val b<=val a):val l=val a-val b:=by
 obtain⟨h1,h2,h3⟩:=h;rw[zla (znb _),zla hb]at h3;have h4:=val_lt h2;rw[h1]at h4;have h5:=val_lt ha;have:c=0:=by
  rcases Nat.lt_or_ge c 1 with hh|hh;·omega
  ·have:c=1:=by omega
   subst this;omega
 subst this;omega
def sgn(neg:Bool)(m:Nat):Int:=if neg then-(m:Int)else m
def Fits(K:Nat)(n:Int):Prop:=n.natAbs<4294967296^K
theorem Fits.mono{K L:Nat}{n:Int}(h:Fits K n)(hl:K<=L):Fits L n:=Nat.lt_of_lt_of_le h (Nat.pow_le_pow_right om hl)
theorem Fits.neg{K:Nat}{n:Int}(h:Fits K n):Fits K (-n):=by unfold Fits at*;rwa[Int.natAbs_neg]
theorem Fits.add{K:Nat}{a b:Int}(ha:Fits K a)(hb:Fits K b):Fits (K+1) (a+b):=by unfold Fits at*;rw[Nat.pow_succ];generalize 4294967296^K=p at*;omega
theorem Fits.sub{K:Nat}{a b:Int}(ha:Fits K a)(hb:Fits K b):Fits (K+1) (a-b):=by have:=Fits.add ha hb.neg;rwa[<-Int.sub_eq_add_neg]at this
theorem Fits.mul{K L:Nat}{a b:Int}(ha:Fits K a)(hb:Fits L b):Fits (K+L) (a*b):=by unfold Fits at*;rw[Int.natAbs_mul,Nat.pow_add];exact Nat.mul_lt_mul'' ha hb
theorem canon_len{l:List Nat}{K:Nat}(hc:canon l)(h:val l<4294967296^K):l.length<=K:=by
 by_cases hn:l=[]
 ·subst hn;simp
 ·have h1:=canon_ge hc hn;by_cases hk:l.length<=K;·exact hk
  ·have h2:4294967296^K<=4294967296^(l.length-1):=Nat.pow_le_pow_right om om;omega
end
section
open Go.RowKit
def lv(l:List Nat):List V:=l.map λ(n:Nat)=> .sc (.int .u32 (n:Int))
theorem lv_len(l:List Nat):(lv l).length=l.length:=by simp[lv]
theorem lv_get{l:List Nat}{i:Nat}(h:i<l.length):(lv l)[i]? =some (.sc (.int .u32 (l.getD i 0:Nat))):=by simp[lv,h]
theorem lv_take(l:List Nat)(k:Nat):(lv l).take k=lv (l.take k):=by simp[lv]
theorem lv_all(l:List Nat):(lv l).all V.one=true:=by simp[lv,V.one,Value.oneCell']
theorem lv_clo(l:List Nat):(lv l).all clo=true:=by simp[lv,clo]
def sv(l:List Nat):V:= .im (lv l) l.length
def digs:Nat->Nat->List Nat
 |0,_=>[]
 |f+1,n=>if n=0 then []else n % 4294967296::digs f (n/4294967296)
def limbsOf(n:Nat):List Nat:=digs (n+1) n
def iv(z:Int):V:= .ag [.sc (.bool (decide (z<0))),sv (limbsOf z.natAbs)]
theorem canon_cons{x:Nat}{r:List Nat}(h1:r=[]->x≠0)(h2:canon r):canon (x::r):=by
 intro hn;cases r with
 |nil=>simpa using h1 rfl
 |cons a r=>rw[List.getLast_cons (by simp)];exact h2 (by simp)
theorem digs_spec: ∀(f n:Nat),n<f->val (digs f n)=n/\limbs (digs f n)/\canon (digs f n)
 |0,n,h=>by omega
 | f+1,n,h=>by
  simp only[digs];split
  ·rename_i h0;subst h0;exact⟨rfl,λx hx=>(by simp at hx),λhn=>absurd rfl hn⟩
  ·rename_i h0;obtain⟨h1,h2,h3⟩:=digs_spec f (n/4294967296) om;refine⟨?_,?_,?_⟩
   ·show n % 4294967296+4294967296*val (digs f (n/4294967296))=n;rw[h1];omega
   ·intro x hx;rcases List.mem_cons.1 hx with rfl|hx;·omega
    ·exact h2 x hx
   ·refine canon_cons (λe=> ?_) h3;rw[e]at h1;have:n/4294967296=0:=h1.symm;omega
theorem limbsOf_val(n:Nat):val (limbsOf n)=n:=(digs_spec _ _ (Nat.lt_succ_self _)).1
theorem limbsOf_limbs(n:Nat):limbs (limbsOf n):=(digs_spec _ _ (Nat.lt_succ_self _)).2.1
theorem limbsOf_canon(n:Nat):canon (limbsOf n):=(digs_spec _ _ (Nat.lt_succ_self _)).2.2
theorem limbsOf_eq{l:List Nat}(h:limbs l)(hc:canon l):limbsOf (val l)=l:=canon_inj (limbsOf_limbs _) h (limbsOf_canon _) hc (limbsOf_val _)
theorem limbsOf_zero:limbsOf 0=[]:=rfl
theorem limbsOf_nil{n:Nat}:limbsOf n=[]↔n=0:=⟨λh=>by have:=limbsOf_val n;rw[h]at this;exact this.symm,λh=>by subst h;rfl⟩
theorem val_take_zeros{l:List Nat}{k:Nat}(h: ∀i,k<=i->l.getD i 0=0):val (l.take k)=val l:=by
 have key: ∀m:List Nat,(∀i,m.getD i 0=0)->val m=0:=by
  intro m;induction m with
  |nil=>intro _;rfl
  |cons x r ih=>
   intro hm;have h0:=hm 0;simp at h0;have:=ih (λi=>by simpa using hm (i+1));simp[val,h0,this]
 rcases Nat.le_total k l.length with hk|hk;·rw[val_split l k hk,key (l.drop k) (λi=>by have:=h (k+i) om;simpa[List.getD_eq_getElem?_getD]using this)];simp
 ·rw[zla hk]
theorem made_tree{l:List Nat}{k:Nat}{neg:Bool}(hl:limbs l)(h: ∀i,k<=i->l.getD i 0=0)(hk:k<=l.length)(h0:k≠0->l.getD (k-1) 0≠0):limbsOf (sgn neg (val l)).natAbs=l.take k/\decide (sgn neg (val l)<0)=(neg&&decide (0<k)):=by
 have hv:=val_take_zeros h;have hc:canon (l.take k):=by
  intro hn;have hk0:k≠0:=by intro e;subst e;simp at hn
  rw[List.getLast_eq_getElem];have:=h0 hk0;simp only[List.length_take,Nat.min_eq_left hk,List.getElem_take];rwa[List.getD_eq_getElem?_getD,zlb om]at this
 have hn:(sgn neg (val l)).natAbs=val l:=by unfold sgn;cases neg<;>simp
 refine⟨by rw[hn,<-hv];exact limbsOf_eq (limbs_take hl k) hc,?_⟩;have hz:val l=0↔k=0:=by
  rw[<-hv];constructor
  ·intro e;have:=limbsOf_eq (limbs_take hl k) hc;rw[e,limbsOf_zero]at this;have:=congrArg List.length this;simp at this;omega
  ·intro e;subst e;rfl
 unfold sgn;cases neg with
 |false=>simp
 | true=>
  simp only[if_true,Bool.true_and];by_cases hk0:k=0;·have:=hz.2 hk0;simp[this,hk0]
  ·have:val l≠0:=λe=>hk0 (hz.1 e);simp;omega
end
section
open Go.RowKit
theorem made_i(l:List Nat)(neg:Bool)(hl:limbs l)(hm:l.length<=1000000000000):Spec Tryz.prog 61 [sv l,.sc (.bool neg)] (iv (sgn neg (val l))):=by
 unfold sv;refine qF Tryz.func61 Tryz.ntmps61 λB hB=> ?_;refine qG ?_;refine SC.loop (λk:Nat=>⟨[(0,.im (lv l) l.length),(1,.sc (.bool neg)),(4,.pt 0 0),(5,.sc (.int .i64 k))],[(0,⟨68,[.sc (.bool false),.sc (.slice none 0 0)],false⟩)],1,31⟩)
  (λk=>k<=l.length/\ ∀i,k<=i->l.getD i 0=0) (λk=>k) l.length ?_ ?_ ?_
 ·exact qL
 ·exact⟨znb _,λi hi=>by simp[hi]⟩
 ·rintro k ⟨hk,hz⟩ K hK;have hlen:(l.take k).length=k:=by simp;omega
  have h3:k=0\/(k≠0/\l.getD (k-1) 0≠0)\/(k≠0/\l.getD (k-1) 0=0):=by omega
  rcases h3 with h0|⟨h0,hx⟩|⟨h0,hx⟩
  ·subst h0;refine qG ?_;refine SC.cond qT ?_ ?_;·intro h;cases h
   intro _;refine qG ?_;refine SC.weak (by simp) (s':=⟨[(0,.im (lv l) l.length),(1,.sc (.bool neg)),(4,.pt 0 0),(5,.sc (.int .i64 (0:Nat)))],[(0,⟨68,[.sc (.bool false),.sc (.slice none 0 0)],false⟩)],1,31⟩) (by exact qLn0) ?_;obtain⟨e1,e2⟩:=made_tree (neg:=neg) hl hz hk (λh=>absurd rfl h);have e3:decide ((0:Int)<((0:Nat):Int))=decide (0<0):=by simp
   cases neg
   all_goals
    refine SC.ops ?_
    (repeat(refine SO.run (by simp(disch:=omega) only[go_sem,↓reduceIte,zn1,zn2,zn3,zn4,zn5,zn6,reduceCtorEq,zn7,zi1,zi2,if_pos,if_neg,Int.reduceAdd,lv_len,lv_take,Int.toNat_natCast,hlen,lv_all,List.replicate_zero];rfl) ?_))
    refine qG ?_;refine retQ_ret Tryz.results61 qT (by simp(disch:=omega) only[go_sem,↓reduceIte,zn1,zn2,zn3,zn4,zn5,zn6,reduceCtorEq,zn7,zi1,zi2,if_pos,if_neg,Int.reduceAdd,lv_len,lv_take,hlen,List.take_take,Nat.min_self,lv_clo];rfl) ?_;unfold iv sv;rw[e1,e2];simp[hlen,lv]
  ·have hi:((k:Int)-1).toNat=k-1:=by omega
   have hg:=lv_get (l:=l) (i:=k-1) om;have hd:decide ((k:Int)>0)=true:=by simp;omega
   have hb:(((l.getD (k-1) 0:Nat):Int)==0)=false:=by simp only[beq_eq_false_iff_ne,ne_eq];omega
   refine qG ?_;refine SC.ops ?_;refine qRf (Q6 @hi @hg @hd @hb @lv_len @gD) ?_;refine qG ?_;refine SC.cond qT ?_ ?_;·intro h;cases h
   intro _;refine qG ?_;refine SC.weak (by simp) (s':=⟨[(0,.im (lv l) l.length),(1,.sc (.bool neg)),(4,.pt 0 0),(5,.sc (.int .i64 (k:Nat)))],[(0,⟨68,[.sc (.bool false),.sc (.slice none 0 0)],false⟩)],1,31⟩) (by exact qLn0) ?_;obtain⟨e1,e2⟩:=made_tree (neg:=neg) hl hz hk (λ_=>hx);have e3:decide ((0:Int)<((k:Nat):Int))=decide (0<k):=by simp
   cases neg
   all_goals
    refine SC.ops ?_
    (repeat(refine SO.run (by simp(disch:=omega) only[go_sem,↓reduceIte,zn1,zn2,zn3,zn4,zn5,zn6,reduceCtorEq,zn7,zi1,zi2,if_pos,if_neg,Int.reduceAdd,lv_len,lv_take,Int.toNat_natCast,hlen,lv_all,List.replicate_zero];rfl) ?_))
    refine qG ?_;refine retQ_ret Tryz.results61 qT (by simp(disch:=omega) only[go_sem,↓reduceIte,zn1,zn2,zn3,zn4,zn5,zn6,reduceCtorEq,zn7,zi1,zi2,if_pos,if_neg,Int.reduceAdd,lv_len,lv_take,hlen,List.take_take,Nat.min_self,lv_clo];rfl) ?_;unfold iv sv;rw[e1,e2];simp[hlen]
  ·have hi:((k:Int)-1).toNat=k-1:=by omega
   have hg:=lv_get (l:=l) (i:=k-1) om;have hd:decide ((k:Int)>0)=true:=by simp;omega
   have hb:(((l.getD (k-1) 0:Nat):Int)==0)=true:=by simp only[beq_iff_eq];omega
   refine qG ?_;refine SC.ops ?_;refine qRf (Q6 @hi @hg @hd @hb @lv_len @gD) ?_;refine qG ?_;refine SC.cond qT ?_ ?_
   rotate_left
   ·intro h;cases h
   intro _;refine qG ?_;refine hK _ (k-1) ?_ ⟨by omega,λi hi=> ?_⟩ om;·exact qL
   ·rcases Nat.lt_or_ge i k with h|h;·rw[show i=k-1 by omega];exact hx
    ·exact hz i h
end
section
open Go.RowKit
theorem less_i(a b:List Nat)(ha:limbs a)(hb:limbs b)(hma:a.length<=1000000000000)(hmb:b.length<=1000000000000):Spec Tryz.prog 73 [sv a,sv b] (.sc (.bool (lessL a b))):=by
 unfold sv;refine qF Tryz.func73 Tryz.ntmps73 λB hB=> ?_;by_cases hab:a.length=b.length
 ·have h1:((a.length:Int) !=(b.length:Int))=false:=by rw[hab];simp
  refine qG ?_;refine SC.cond (qTf @h1) ?_ ?_;·intro h;cases h
  intro _;refine qG ?_;refine SC.loop (λk:Nat=>⟨[(0,.im (lv a) a.length),(1,.im (lv b) b.length),(4,.sc (.bool false)),(5,.sc (.int .i64 ((k:Int)-1)))],[],0,41⟩)
   (λk=>k<=a.length/\(val a<val b↔val (a.take k)<val (b.take k))) (λk=>k) a.length ?_ ?_ ?_
  ·exact qL
  ·exact⟨znb _,by rw[List.take_length,hab,List.take_length]⟩
  ·rintro k ⟨hk,hI⟩ K hK;by_cases h0:k=0
   ·subst h0;refine qG ?_;refine SC.cond qT ?_ ?_;·intro h;simp at h
    intro _;refine qG ?_;refine retQ_ret Tryz.results73 qT qT ?_;unfold lessL;rw[if_pos hab,decide_eq_false (λh=>by have:=hI.1 h;simp[val]at this)]
   ·have hi:((k:Int)-1).toNat=k-1:=by omega
    have hga:=lv_get (l:=a) (i:=k-1) om;have hgb:=lv_get (l:=b) (i:=k-1) om;have hd:decide ((k:Int)-1>=0)=true:=by simp;omega
    refine qG ?_;refine SC.cond (qTf @hd) ?_ ?_
    rotate_left
    ·intro h;cases h
    intro _;have hs:=val_lt_step (a:=a) (b:=b) (k:=k-1) ha hb om om;rw[show k-1+1=k by omega,<-hI]at hs;by_cases hx:a.getD (k-1) 0=b.getD (k-1) 0
    ·have hne:(((a.getD (k-1) 0:Nat):Int) !=((b.getD (k-1) 0:Nat):Int))=false:=by rw[hx];simp
     refine qGf (Q7 @hi @hga @hgb @hd @hne @lv_len @gD) ?_;refine SC.cond qT ?_ ?_;·intro h;cases h
     intro _;refine qG ?_;refine hK _ (k-1) ?_ ⟨by omega,hs.1 hx⟩ om;exact qL
    ·have hne:(((a.getD (k-1) 0:Nat):Int) !=((b.getD (k-1) 0:Nat):Int))=true:=by simp only[bne_iff_ne,ne_eq];omega
     refine qGf (Q7 @hi @hga @hgb @hd @hne @lv_len @gD) ?_;refine SC.cond qT ?_ ?_
     rotate_left
     ·intro h;cases h
     intro _;refine qGf (Q7 @hi @hga @hgb @hd @hne @lv_len @gD) ?_;refine retQ_ret Tryz.results73 qT qT ?_;unfold lessL;rw[if_pos hab];have:=hs.2 hx;exact congrArg (λt=>V.sc (.bool t)) (decide_eq_decide.2 (by rw[this];omega))
 ·have h1:((a.length:Int) !=(b.length:Int))=true:=by simp only[bne_iff_ne,ne_eq];omega
  refine qG ?_;refine SC.cond (qTf @h1) ?_ ?_
  rotate_left
  ·intro h;cases h
  intro _;refine qG ?_;refine retQ_ret Tryz.results73 qT qT ?_;unfold lessL;rw[if_neg hab];exact congrArg (λt=>V.sc (.bool t)) (decide_eq_decide.2 om)
end
section
open Go.RowKit
def Short(x:Int):Prop:=(limbsOf x.natAbs).length<=1000000000000
theorem lessL_limbs(m n:Nat):lessL (limbsOf m) (limbsOf n)=decide (m<n):=by rw[lessL_eq (limbsOf_limbs m) (limbsOf_limbs n) (limbsOf_canon m) (limbsOf_canon n),limbsOf_val,limbsOf_val]
theorem less_n(m n:Nat)(hm:(limbsOf m).length<=1000000000000)(hn:(limbsOf n).length<=1000000000000):Spec Tryz.prog 73 [sv (limbsOf m),sv (limbsOf n)] (.sc (.bool (decide (m<n)))):=by have:=less_i _ _ (limbsOf_limbs m) (limbsOf_limbs n) hm hn;rwa[lessL_limbs]at this
theorem same_i(x y:Int)(hx:Short x)(hy:Short y):Spec Tryz.prog 97 [iv x,iv y] (.sc (.bool (decide (x=y)))):=by
 have l1:=less_n x.natAbs y.natAbs hx hy;have l2:=less_n y.natAbs x.natAbs hy hx;unfold sv at l1 l2;unfold iv sv;refine qF Tryz.func97 Tryz.ntmps97 λB hB=> ?_;have hsx:(decide (x<0)==decide (y<0))=true↔(x<0↔y<0):=by simp
 by_cases hs:(decide (x<0)==decide (y<0))=true
 ·have hs':=hsx.1 hs;by_cases h1:x.natAbs<y.natAbs
  ·rw[decide_eq_true h1]at l1;refine qG ?_;refine SC.ops ?_;refine qRf @hs ?_
   (refine SO.call Tab.go73 qT qS ?_)
   (refine SCall.of (l1) qT ?_)
   refine qRf @hs ?_;refine qG ?_;refine retQ_ret Tryz.results97 qT qT ?_;rw[decide_eq_false om]
  ·rw[decide_eq_false h1]at l1;by_cases h2:y.natAbs<x.natAbs
   ·rw[decide_eq_true h2]at l2;refine qG ?_;refine SC.ops ?_;refine qRf @hs ?_
    (refine SO.call Tab.go73 qT qS ?_)
    (refine SCall.of (l1) qT ?_)
    refine qRf @hs ?_
    (refine SO.call Tab.go73 qT qS ?_)
    (refine SCall.of (l2) qT ?_)
    refine qRf @hs ?_;refine qG ?_;refine retQ_ret Tryz.results97 qT qT ?_;rw[decide_eq_false om]
   ·rw[decide_eq_false h2]at l2;refine qG ?_;refine SC.ops ?_;refine qRf @hs ?_
    (refine SO.call Tab.go73 qT qS ?_)
    (refine SCall.of (l1) qT ?_)
    refine qRf @hs ?_
    (refine SO.call Tab.go73 qT qS ?_)
    (refine SCall.of (l2) qT ?_)
    refine qRf @hs ?_;refine qG ?_;refine retQ_ret Tryz.results97 qT qT ?_;rw[decide_eq_true om]
 ·have hs': ¬(x<0↔y<0):=λh=>hs (hsx.2 h);rw[Bool.not_eq_true]at hs;refine qG ?_;refine SC.ops ?_;refine qRf @hs ?_;refine qG ?_;refine retQ_ret Tryz.results97 qT qT ?_;rw[decide_eq_false om]
theorem two_limbs{m:Nat}(h:m<18446744073709551616):val [m % 4294967296,m/4294967296]=m/\limbs [m % 4294967296,m/4294967296]:=by refine⟨by simp[val];omega,λx hx=> ?_⟩;simp at hx;omega
theorem of_i(n:Int)(h1: -9223372036854775808<=n)(h2:n<9223372036854775808):Spec Tryz.prog 39 [.sc (.int .i64 n)] (iv n):=by
 obtain⟨hv,hl⟩:=two_limbs (m:=n.natAbs) om;have hm:=made_i [n.natAbs % 4294967296,n.natAbs/4294967296] (decide (n<0)) hl (by simp);rw[hv]at hm;have hs:sgn (decide (n<0)) n.natAbs=n:=by unfold sgn;split<;>simp_all<;>omega
 rw[hs]at hm;unfold sv at hm;rw[show lv [n.natAbs % 4294967296,n.natAbs/4294967296]=[.sc (.int .u32 ((n.natAbs % 4294967296:Nat):Int)),.sc (.int .u32 ((n.natAbs/4294967296:Nat):Int))]from rfl]at hm;unfold iv sv at hm⊢;refine qF Tryz.func39 Tryz.ntmps39 λB hB=> ?_;obtain⟨m,hm0⟩: ∃m,m=n.natAbs:=⟨_,rfl⟩
 rw[<-hm0]at hm;have w1:(m:Int) % 4294967296=((m % 4294967296:Nat):Int):=by simp
 have w2:(m:Int)/2^min 32 64 % 4294967296=((m/4294967296:Nat):Int):=by
  have:(2:Int)^min 32 64=4294967296:=by decide
  rw[this];omega
 simp only[List.length_cons,List.length_nil,zn9,zn4]at hm;by_cases h0:n<0
 ·have e1:IntKind.u64.wrap n=n+18446744073709551616:=by simp[IntKind.wrap,IntKind.bits,IntKind.signed];omega
  have e2:IntKind.u64.wrap (0-(n+18446744073709551616))=(m:Int):=by simp[IntKind.wrap,IntKind.bits,IntKind.signed];omega
  have hd:decide (n<0)=true:=decide_eq_true h0;rw[hd]at hm;refine qGf (Q2 @e1 @hd) ?_;refine SC.cond qT ?_ ?_
  rotate_left
  ·intro h;cases h
  intro _;refine qGf (Q3 @e1 @e2 @hd) ?_;refine SC.ops ?_;refine qRf @hd ?_
  (refine SO.call Tab.go61 qT qS ?_)
  rw[w1,w2]
  (refine SCall.ofF (hm) qT ?_)
  refine qR ?_;refine qG ?_;refine retQ_ret Tryz.results39 qT qT ?_;rw[hd,<-hm0]
 ·have e1:IntKind.u64.wrap n=(m:Int):=by simp[IntKind.wrap,IntKind.bits,IntKind.signed];omega
  have hd:decide (n<0)=false:=decide_eq_false h0;rw[hd]at hm;refine qGf (Q2 @e1 @hd) ?_;refine SC.cond qT ?_ ?_;·intro h;cases h
  intro _;refine qG ?_;refine SC.ops ?_;refine qRf @hd ?_
  (refine SO.call Tab.go61 qT qS ?_)
  rw[w1,w2]
  (refine SCall.ofF (hm) qT ?_)
  refine qR ?_;refine qG ?_;refine retQ_ret Tryz.results39 qT qT ?_;rw[hd,<-hm0]
end
section
open Go.RowKit
theorem trim_i(l:List Nat)(hl:limbs l)(hm:l.length<=1000000000000):Spec Tryz.prog 123 [sv l] (sv (limbsOf (val l))):=by
 unfold sv;refine qF Tryz.func123 Tryz.ntmps123 λB hB=> ?_;refine qG ?_;refine SC.loop (λk:Nat=>⟨[(0,.im (lv l) l.length),(3,.sc (.int .i64 k))],[],0,21⟩)
  (λk=>k<=l.length/\ ∀i,k<=i->l.getD i 0=0) (λk=>k) l.length ?_ ?_ ?_
 ·exact qL
 ·exact⟨znb _,λi hi=>by simp[hi]⟩
 ·rintro k ⟨hk,hz⟩ K hK;have hlen:(l.take k).length=k:=by simp;omega
  by_cases h0:k=0
  ·subst h0;refine qG ?_;refine SC.cond qT ?_ ?_;·intro h;cases h
   intro _;refine qG ?_;have e1:=(made_tree (neg:=false) hl hz hk (λh=>absurd rfl h)).1;have e2:(sgn false (val l)).natAbs=val l:=by simp[sgn]
   rw[e2]at e1;refine retQ_ret Tryz.results123 qT qT ?_;rw[e1];simp[lv]
  ·have hi:((k:Int)-1).toNat=k-1:=by omega
   have hg:=lv_get (l:=l) (i:=k-1) om;have hd:decide ((k:Int)>0)=true:=by simp;omega
   by_cases hx:l.getD (k-1) 0=0
   ·have hb:(((l.getD (k-1) 0:Nat):Int)==0)=true:=by simp only[beq_iff_eq];omega
    refine qG ?_;refine SC.cond (qTf @hd) ?_ ?_
    rotate_left
    ·intro h;cases h
    intro _;refine qGf (Q6 @hi @hg @hd @hb @lv_len @gD) ?_;refine SC.cond qT ?_ ?_
    rotate_left
    ·intro h;cases h
    intro _;refine qG ?_;refine hK _ (k-1) ?_ ⟨by omega,λi hi=> ?_⟩ om;·exact qL
    ·rcases Nat.lt_or_ge i k with h|h;·rw[show i=k-1 by omega];exact hx
     ·exact hz i h
   ·have hb:(((l.getD (k-1) 0:Nat):Int)==0)=false:=by simp only[beq_eq_false_iff_ne,ne_eq];omega
    have e1:=(made_tree (neg:=false) hl hz hk (λ_=>hx)).1;have e2:(sgn false (val l)).natAbs=val l:=by simp[sgn]
    rw[e2]at e1;refine qG ?_;refine SC.cond (qTf @hd) ?_ ?_
    rotate_left
    ·intro h;cases h
    intro _;refine qGf (Q6 @hi @hg @hd @hb @lv_len @gD) ?_;refine SC.cond qT ?_ ?_;·intro h;cases h
    intro _;refine qGf (Q7 @hi @hg @hd @hb @lv_len @lv_take @hlen) ?_;refine retQ_ret Tryz.results123 qT qT ?_;rw[e1,hlen]
theorem limbs_s(m:Nat)(h:m<18446744073709551616):Spec Tryz.prog 113 [.sc (.int .u64 m)] (.im [.sc (.int .u32 ((m % 4294967296:Nat):Int)),.sc (.int .u32 ((m/4294967296:Nat):Int))] 2):=by
 have w1:(m:Int) % 4294967296=((m % 4294967296:Nat):Int):=by simp
 have w2:(m:Int)/2^min 32 64 % 4294967296=((m/4294967296:Nat):Int):=by
  have:(2:Int)^min 32 64=4294967296:=by decide
  rw[this];omega
 refine qF Tryz.func113 Tryz.ntmps113 λB hB=> ?_;refine qG ?_;refine retQ_ret Tryz.results113 qT qT ?_;rw[w1,w2]
theorem value_i(neg:Bool)(l:List Nat)(hl:limbs l)(hm:l.length<=1000000000000):Spec Tryz.prog 112 [.sc (.bool neg),sv l] (iv (sgn neg (val l))):=by
 have ht:=trim_i l hl hm;obtain⟨L,eL⟩: ∃L,L=limbsOf (val l):=⟨_,rfl⟩
 have hn:(sgn neg (val l)).natAbs=val l:=by unfold sgn;cases neg<;>simp
 rw[<-eL]at ht;unfold iv;rw[hn,<-eL];unfold sv at ht⊢;refine qF Tryz.func112 Tryz.ntmps112 λB hB=> ?_;refine qG ?_;refine SC.ops ?_;refine qR ?_
 (refine SO.call Tab.go123 qT qS ?_)
 (refine SCall.ofF (ht) qT ?_)
 by_cases h0:L.length=0
 ·have hL:L=[]:=List.eq_nil_of_length_eq_zero h0;have hv:val l=0:=limbsOf_nil.1 (eL▸hL);subst hL;have hd:decide (sgn neg (val l)<0)=false:=by rw[hv];unfold sgn;cases neg<;>simp
  rw[hd];refine qR ?_;refine qG ?_;refine SC.cond qT ?_ ?_
  rotate_left
  ·intro h;simp at h
  intro _;refine qG ?_;exact qE Tryz.results112
 ·have hv:val l≠0:=λh=>h0 (by rw[eL,h];rfl);have hd:decide (sgn neg (val l)<0)=neg:=by unfold sgn;cases neg<;>simp;omega
  have hb:((L.length:Int)==0)=false:=by simp only[beq_eq_false_iff_ne,ne_eq];omega
  rw[hd];refine qR ?_;refine qG ?_;refine SC.cond (qTf @hb) ?_ ?_;·intro h;cases h
  intro _;refine qG ?_;exact qE Tryz.results112
theorem pof_i(n:Int)(h1: -9223372036854775808<=n)(h2:n<9223372036854775808):Spec Tryz.prog 82 [.sc (.int .i64 n)] (iv n):=by
 obtain⟨hv,hl⟩:=two_limbs (m:=n.natAbs) om;have hm:=value_i (decide (n<0)) [n.natAbs % 4294967296,n.natAbs/4294967296] hl (by simp);rw[hv]at hm;have hs:sgn (decide (n<0)) n.natAbs=n:=by unfold sgn;split<;>simp_all<;>omega
 rw[hs]at hm;unfold sv at hm;rw[show lv [n.natAbs % 4294967296,n.natAbs/4294967296]=[.sc (.int .u32 ((n.natAbs % 4294967296:Nat):Int)),.sc (.int .u32 ((n.natAbs/4294967296:Nat):Int))]from rfl]at hm;unfold iv sv at hm⊢;obtain⟨m,hm0⟩: ∃m,m=n.natAbs:=⟨_,rfl⟩
 rw[<-hm0]at hm;have hlim:=limbs_s m om;simp only[List.length_cons,List.length_nil,zn9,zn4]at hm;refine qF Tryz.func82 Tryz.ntmps82 λB hB=> ?_;by_cases h0:n<0
 ·have e1:IntKind.u64.wrap n=n+18446744073709551616:=by simp[IntKind.wrap,IntKind.bits,IntKind.signed];omega
  have e2:IntKind.u64.wrap (0-(n+18446744073709551616))=(m:Int):=by simp[IntKind.wrap,IntKind.bits,IntKind.signed];omega
  have hd:decide (n<0)=true:=decide_eq_true h0;rw[hd]at hm;refine qGf (Q2 @e1 @hd) ?_;refine SC.cond qT ?_ ?_
  rotate_left
  ·intro h;cases h
  intro _;refine qGf (Q3 @e1 @e2 @hd) ?_;refine SC.ops ?_;refine qRf @hd ?_
  (refine SO.call Tab.go113 qT qS ?_)
  (refine SCall.of (hlim) qT ?_)
  refine qRf @hd ?_
  (refine SO.call Tab.go112 qT qS ?_)
  (refine SCall.ofF (hm) qT ?_)
  refine qR ?_;refine qG ?_;refine retQ_ret Tryz.results82 qT qT ?_;rw[hd,<-hm0]
 ·have e1:IntKind.u64.wrap n=(m:Int):=by simp[IntKind.wrap,IntKind.bits,IntKind.signed];omega
  have hd:decide (n<0)=false:=decide_eq_false h0;rw[hd]at hm;refine qGf (Q2 @e1 @hd) ?_;refine SC.cond qT ?_ ?_;·intro h;cases h
  intro _;refine qG ?_;refine SC.ops ?_;refine qRf @hd ?_
  (refine SO.call Tab.go113 qT qS ?_)
  (refine SCall.of (hlim) qT ?_)
  refine qRf @hd ?_
  (refine SO.call Tab.go112 qT qS ?_)
  (refine SCall.ofF (hm) qT ?_)
  refine qR ?_;refine qG ?_;refine retQ_ret Tryz.results82 qT qT ?_;rw[hd,<-hm0]
end
section
open Go.RowKit
theorem lv_snoc{l:List Nat}{x:Nat}{e:Int}(h:e=(x:Int)):lv l++ [.sc (.int .u32 e)]=lv (l++ [x]):=by subst h;simp[lv]
theorem lv_ok(ok:Nat->Bool)(l:List Nat):(lv l).all (okL ok)=true:=by simp[lv,okL]
theorem LLe.lv{ok:Nat->Bool}{cs:List V}{l:List Nat}(h:cs=Go.Proofs.YtannldafjkjjbaaGreat.lv l):LLe ok cs (Go.Proofs.YtannldafjkjjbaaGreat.lv l):=by subst h;exact LLe.refl (lv_ok _ _)
theorem lv_ren(f:Nat->Nat)(l:List Nat):V.renL f (lv l)=lv l:=by unfold lv;rw[show(l.map λ(n:Nat)=>V.sc (.int .u32 (n:Int)))=(l.map λ(n:Nat)=>Value.int .u32 (n:Int)).map .sc by simp];exact renL_map_sc f _
theorem lv_snoc'{f:Nat->Nat}{l:List Nat}{x:Nat}{e:Int}(h:e=(x:Int)):V.renL f (lv l++ [.sc (.int .u32 e)])=lv (l++ [x]):=by rw[renL_app,lv_ren,<-lv_snoc h];simp[V.renL,V.ren]
def dg:Nat->Nat->List Nat
 |0,_=>[]
 |k+1,n=>n % 4294967296::dg k (n/4294967296)
theorem dg_len: ∀(k n:Nat),(dg k n).length=k
 |0,_=>rfl
 |k+1,n=>by simp[dg,dg_len k]
theorem dg_limbs: ∀(k n:Nat),limbs (dg k n)
 |0,_=>λx hx=>by simp[dg]at hx
 |k+1,n=>λx hx=>by
  rcases List.mem_cons.1 hx with rfl|hx;·omega
  ·exact dg_limbs k _ x hx
theorem dg_val: ∀(k n:Nat),n<4294967296^k->val (dg k n)=n
 |0,n,h=>by simp at h;subst h;rfl
 |k+1,n,h=>by rw[Nat.pow_succ]at h;simp only[dg,val];rw[dg_val k _ om];omega
theorem dg_eq{l:List Nat}(h:limbs l):dg l.length (val l)=l:=
 val_inj (dg_limbs _ _) h (dg_len _ _) (dg_val _ _ (val_lt h))
def sumLen(a b:List Nat):Nat:=max a.length b.length+(if 4294967296^max a.length b.length<=val a+val b then 1 else 0)
theorem sum_fits{a b:List Nat}(ha:limbs a)(hb:limbs b):val a+val b<4294967296^sumLen a b:=by
 have h1:=val_lt ha;have h2:=val_lt hb;have h3:4294967296^a.length<=4294967296^max a.length b.length:=Nat.pow_le_pow_right om om;have h4:4294967296^b.length<=4294967296^max a.length b.length:=Nat.pow_le_pow_right om om;unfold sumLen;split;·rw[Nat.pow_succ];omega
 ·simp only[Nat.add_zero];omega
theorem plus_i(a b:List Nat)(ha:limbs a)(hb:limbs b)(hma:a.length<=1000000000000)(hmb:b.length<=1000000000000):Spec Tryz.prog 72 [sv a,sv b] (sv (dg (sumLen a b) (val a+val b))):=by
 unfold sv;refine qF Tryz.func72 Tryz.ntmps72 λB hB=> ?_;refine qG ?_;refine SC.loop (λx:Nat×Nat×List Nat=>⟨[(0,.im (lv a) a.length),(1,.im (lv b) b.length),(5,.sl 0 0 x.2.2.length 1 none),(6,.sc (.int .u64 x.2.1)),(7,.sc (.int .i64 x.1))],[(0,⟨117,lv x.2.2,false⟩)],1,55⟩)
  (λx=>x.2.1<=1/\(x.1<=max a.length b.length\/x.1=max a.length b.length+1/\x.2.1=0/\4294967296^max a.length b.length<=val a+val b)/\plusInv a b x.1 x.2.1 x.2.2) (λx=>max a.length b.length+1-x.1) (0,0,[]) ?_ ?_ ?_
 ·exact qL
 ·exact⟨znc _,.inl (znc _),rfl,λx hx=>by simp at hx,by simp[val]⟩
 ·rintro⟨k,c,l⟩ ⟨hc,hk,hI⟩ K hK;simp only at hc hk hI⊢;have hlk:l.length=k:=hI.1;have hst:=hI.step _ _ rfl rfl;have xa:=limbs_getD ha k;have xb:=limbs_getD hb k;have hgo: ∀(c':Nat),c'=c+a.getD k 0+b.getD k 0->c'/4294967296<=1/\c'/4294967296<2/\c'<=18446744073709551615:=λc' e=>by omega
  by_cases hend:k<a.length\/k<b.length\/0<c
  ·have hk':k<=max a.length b.length:=by omega
   have dC:=decide_eq_true (p:=(0:Int)<c);have dA:=decide_eq_true (p:=(k:Int)<a.length);have dB:=decide_eq_true (p:=(k:Int)<b.length);have dA':=decide_eq_false (p:=(k:Int)<a.length);have dB':=decide_eq_false (p:=(k:Int)<b.length);have fin: ∀s',Le B s' ⟨[(0,.im (lv a) a.length),(1,.im (lv b) b.length),(5,.sl 0 0 (l.length+1) 1 none),(6,.sc (.int .u64 ((c+a.getD k 0+b.getD k 0)/4294967296:Nat))),(7,.sc (.int .i64 (k+1:Nat)))],[(0,⟨117,lv (l++ [(c+a.getD k 0+b.getD k 0) % 4294967296]),false⟩)],1,55⟩->K s':=by
    intro s' hs';refine hK _ (k+1,(c+a.getD k 0+b.getD k 0)/4294967296,l++ [(c+a.getD k 0+b.getD k 0) % 4294967296]) ?_ ⟨by simp only;omega,?_,hst⟩ (by simp only;omega);·simpa using hs'
    ·simp only;rcases Nat.lt_or_ge k (max a.length b.length)with h|h;·exact .inl h
     ·have h1:k=max a.length b.length:=by omega
      have hxa:=getD_ge (l:=a) (k:=k) om;have hxb:=getD_ge (l:=b) (k:=k) om;rw[hxa,hxb]at hst⊢;have hc1:c=1:=by omega
      refine .inr ⟨by omega,by omega,?_⟩;have h3:=hI.2.2;rw[zla om,zla om,hc1,h1]at h3;omega
   rcases Nat.lt_or_ge k a.length with hA|hA<;>rcases Nat.lt_or_ge k b.length with hB'|hB'
   ·(repeat(first|refine DO.nil (by kernel_rfl) ?_|(with_reducible refine SC.condB (by simp(disch:=omega) only[go_sem,↓reduceIte,zn1,zn2,zn3,zn4,zn5,zn6,reduceCtorEq,zn7,zi1,zi2,if_pos,if_neg,Int.reduceAdd,dA om,dB om,lv_get hA,lv_get hB',lv_len,zl5,lv_all,lv_take];rfl) ?_;first|with_reducible refine pickT ?_|with_reducible refine pickF ?_)|(with_reducible refine qO ?_)|((with_reducible apply SC.region);(focus(simp(disch:=omega) only[go_sem,↓reduceIte,zn1,zn2,zn3,zn4,zn5,zn6,reduceCtorEq,zn7,zi1,zi2,if_pos,if_neg,Int.reduceAdd,dA om,dB om,lv_get hA,lv_get hB',lv_len,zl5,lv_all,lv_take];rfl)))|(with_reducible refine SC.draw Tab.mixed rfl ?_;(repeat(refine DO.run (by simp(disch:=omega) only[go_sem,↓reduceIte,zn1,zn2,zn3,zn4,zn5,zn6,reduceCtorEq,zn7,zi1,zi2,if_pos,if_neg,Int.reduceAdd,dA om,dB om,lv_get hA,lv_get hB',lv_len,zl5,lv_all,lv_take];rfl) ?_));refine DO.nil (by kernel_rfl) ?_)))
    refine fin _ (Le.swap 0 2 hB om om ?_);refine qLn0r ?_;exact LLe.lv (lv_snoc' om)
   ·have hz:=getD_ge (l:=b) (k:=k) om;have q1:=dA om;have q2:=dB' om;refine qYf (Q7 @q1 @q2 (lv_get hA) @lv_len @gD @lv_all @lv_take) ?_;refine fin _ (Le.swap 0 2 hB om om ?_);refine qLn0r ?_;exact LLe.lv (lv_snoc' om)
   ·have hz:=getD_ge (l:=a) (k:=k) om;have q1:=dA' om;have q2:=dB om;refine qYf (Q7 @q1 @q2 (lv_get hB') @lv_len @gD @lv_all @lv_take) ?_;refine fin _ (Le.swap 0 2 hB om om ?_);refine qLn0r ?_;exact LLe.lv (lv_snoc' om)
   ·have hz:=getD_ge (l:=a) (k:=k) om;have hz:=getD_ge (l:=b) (k:=k) om;have q1:=dA' om;have q2:=dB' om;have q3:=dC om;refine qYf (Q7 @q1 @q2 @q3 @lv_len @gD @lv_all @lv_take) ?_;refine fin _ (Le.swap 0 2 hB om om ?_);refine qLn0r ?_;exact LLe.lv (lv_snoc' om)
  ·have hc0:c=0:=by omega
   subst hc0;have dA:=decide_eq_false (p:=(k:Int)<a.length) om;have dB:=decide_eq_false (p:=(k:Int)<b.length) om;have hd:=hI.done om om;have hl:l.length=sumLen a b:=by
    unfold sumLen;have hv:=val_lt hI.2.1;rcases hk with hk|⟨h1,h2,h3⟩
    ·have h1:k=max a.length b.length:=by omega
     rw[hlk,h1]at hv;rw[if_neg om,hlk,h1];rfl
    ·rw[if_pos h3];omega
   have he:=dg_eq hI.2.1;rw[hd,hl]at he;have dC:decide ((0:Int)<((0:Nat):Int))=false:=by simp
   refine qYf (Q5 @dA @dB @dC @lv_len @lv_take) ?_;refine retQ_ret Tryz.results72 qT (qTf (Q3 @lv_len @lv_take @lv_clo)) ?_;rw[he,hl]
end
section
open Go.RowKit
theorem minus_i(a b:List Nat)(ha:limbs a)(hb:limbs b)(hma:a.length<=1000000000000)(hbl:b.length<=a.length)(hba:val b<=val a):Spec Tryz.prog 74 [sv a,sv b] (sv (dg a.length (val a-val b))):=by
 unfold sv;refine qF Tryz.func74 Tryz.ntmps74 λB hB=> ?_;refine qG ?_;refine SC.loop (λx:Nat×Nat×List Nat=>⟨[(0,.im (lv a) a.length),(1,.im (lv b) b.length),(5,.sl 0 0 x.2.2.length 1 none),(6,.sc (.int .i64 x.2.1)),(7,.sc (.int .i64 x.1))],[(0,⟨117,lv x.2.2,false⟩)],1,44⟩)
  (λx=>x.2.1<=1/\x.1<=a.length/\minusInv a b x.1 x.2.1 x.2.2) (λx=>a.length-x.1) (0,0,[]) ?_ ?_ ?_
 ·exact qL
 ·exact⟨znc _,znc _,rfl,λx hx=>by simp at hx,by simp[val]⟩
 ·rintro⟨k,c,l⟩ ⟨hc,hk,hI⟩ K hK;simp only at hc hk hI⊢;have hlk:l.length=k:=hI.1;have xa:=limbs_getD ha k;have xb:=limbs_getD hb k;by_cases hA:k<a.length
  ·have q1:=decide_eq_true (p:=(k:Int)<a.length) om;have fin: ∀(s':SS) (d c':Nat),d<4294967296->c'<=1->(d:Int)=(a.getD k 0:Nat)-c-(b.getD k 0:Nat)+4294967296*c'->Le B s' ⟨[(0,.im (lv a) a.length),(1,.im (lv b) b.length),(5,.sl 0 0 (l.length+1) 1 none),(6,.sc (.int .i64 c')),(7,.sc (.int .i64 (k+1:Nat)))],[(0,⟨117,lv (l++ [d]),false⟩)],1,44⟩->K s':=by
    intro s' d c' hd hc' he hs';refine hK _ (k+1,c',l++ [d]) (by simpa using hs') ⟨by simpa using hc',by simp only;omega,hI.step _ _ d c' rfl rfl hd he⟩ (by simp only;omega)
   by_cases hB':k<b.length
   ·have q2:=decide_eq_true (p:=(k:Int)<b.length) om;by_cases hn:((a.getD k 0:Nat):Int)-c-(b.getD k 0:Nat)<0
    ·have q3:=decide_eq_true hn;refine qYf (Q9 @q1 @q2 @q3 (lv_get hA) (lv_get hB') @lv_len @gD @lv_all @lv_take) ?_;refine fin _ (a.getD k 0+4294967296-c-b.getD k 0) 1 om om om (Le.swap 0 2 hB om om ?_);refine qLn0r ?_;exact LLe.lv (lv_snoc' om)
    ·have q3:=decide_eq_false hn;refine qYf (Q9 @q1 @q2 @q3 (lv_get hA) (lv_get hB') @lv_len @gD @lv_all @lv_take) ?_;refine fin _ (a.getD k 0-c-b.getD k 0) 0 om om om (Le.swap 0 2 hB om om ?_);refine qLn0r ?_;exact LLe.lv (lv_snoc' om)
   ·have q2:=decide_eq_false (p:=(k:Int)<b.length) om;have hz:=getD_ge (l:=b) (k:=k) hB';by_cases hn:((a.getD k 0:Nat):Int)-c<0
    ·have q3:=decide_eq_true hn;refine qYf (Q8 @q1 @q2 @q3 (lv_get hA) @lv_len @gD @lv_all @lv_take) ?_;refine fin _ (a.getD k 0+4294967296-c) 1 om om om (Le.swap 0 2 hB om om ?_);refine qLn0r ?_;exact LLe.lv (lv_snoc' om)
    ·have q3:=decide_eq_false hn;refine qYf (Q8 @q1 @q2 @q3 (lv_get hA) @lv_len @gD @lv_all @lv_take) ?_;refine fin _ (a.getD k 0-c) 0 om om om (Le.swap 0 2 hB om om ?_);refine qLn0r ?_;exact LLe.lv (lv_snoc' om)
  ·have hka:k=a.length:=by omega
   subst hka;have q1:=decide_eq_false (p:=((a.length:Nat):Int)<a.length) om;have hd:=hI.done hc ha hbl hba;have he:=dg_eq hI.2.1;rw[hd,hlk]at he;refine qYf (Q3 @q1 @lv_len @lv_take) ?_;refine retQ_ret Tryz.results74 qT (qTf (Q3 @lv_len @lv_take @lv_clo)) ?_;rw[he,hlk]
end
section
open Go.RowKit
theorem fits_len{K:Nat}{x:Int}(h:Fits K x):(limbsOf x.natAbs).length<=K:=canon_len (limbsOf_canon _) (by rw[limbsOf_val];exact h)
theorem dg_made(k n:Nat)(neg:Bool)(h:n<4294967296^k)(hk:k<=1000000000000):Spec Tryz.prog 61 [sv (dg k n),.sc (.bool neg)] (iv (sgn neg n)):=by have:=made_i (dg k n) neg (dg_limbs _ _) (by rw[dg_len];exact hk);rwa[dg_val k n h]at this
theorem sumLen_le(a b:List Nat):sumLen a b<=max a.length b.length+1:=by unfold sumLen;split<;>omega
theorem add_i(x y:Int)(K:Nat)(hx:Fits K x)(hy:Fits K y)(hK:K<=500000000000):Spec Tryz.prog 40 [iv x,iv y] (iv (x+y)):=by
 have lx:=fits_len hx;have ly:=fits_len hy;have vx:=limbsOf_val x.natAbs;have vy:=limbsOf_val y.natAbs;have bx:=limbsOf_limbs x.natAbs;have bY:=limbsOf_limbs y.natAbs;by_cases hs:(decide (x<0)==decide (y<0))=true
 ·have hs':(x<0↔y<0):=by simpa using hs
  have c1:=plus_i _ _ bx bY om om;have hf:=sum_fits bx bY;have c2:=dg_made _ _ (decide (x<0)) hf (by have:=sumLen_le (limbsOf x.natAbs) (limbsOf y.natAbs);omega);rw[vx,vy]at c1 c2;rw[show sgn (decide (x<0)) (x.natAbs+y.natAbs)=x+y by unfold sgn;split<;>simp_all<;>omega]at c2;unfold sv at c1 c2;unfold iv sv at c2⊢;refine qF Tryz.func40 Tryz.ntmps40 λB hB=> ?_;refine qWf @hs ?_;exact qE Tryz.results40
 ·have hs': ¬(x<0↔y<0):=by simpa using hs
  rw[Bool.not_eq_true]at hs;have c0:=less_n x.natAbs y.natAbs om om;by_cases hl:x.natAbs<y.natAbs
  ·rw[decide_eq_true hl]at c0;have hle:(limbsOf x.natAbs).length<=(limbsOf y.natAbs).length:=canon_len (limbsOf_canon _) (by have:=val_lt bY;omega);have c1:=minus_i _ _ bY bx om hle om;have c2:=dg_made (limbsOf y.natAbs).length (y.natAbs-x.natAbs) (decide (y<0)) (by have:=val_lt bY;omega) om;rw[vx,vy]at c1;rw[show sgn (decide (y<0)) (y.natAbs-x.natAbs)=x+y by unfold sgn;split<;>simp_all<;>omega]at c2;unfold sv at c0 c1 c2;unfold iv sv at c2⊢;refine qF Tryz.func40 Tryz.ntmps40 λB hB=> ?_;refine qWf @hs ?_;exact qE Tryz.results40
  ·rw[decide_eq_false hl]at c0;have hle:(limbsOf y.natAbs).length<=(limbsOf x.natAbs).length:=canon_len (limbsOf_canon _) (by have:=val_lt bx;omega);have c1:=minus_i _ _ bx bY om hle om;have c2:=dg_made (limbsOf x.natAbs).length (x.natAbs-y.natAbs) (decide (x<0)) (by have:=val_lt bx;omega) om;rw[vx,vy]at c1;rw[show sgn (decide (x<0)) (x.natAbs-y.natAbs)=x+y by unfold sgn;split<;>simp_all<;>omega]at c2;unfold sv at c0 c1 c2;unfold iv sv at c2⊢;refine qF Tryz.func40 Tryz.ntmps40 λB hB=> ?_;refine qWf @hs ?_;exact qE Tryz.results40
theorem neg_i(x:Int)(K:Nat)(hx:Fits K x)(hK:K<=1000000000000):Spec Tryz.prog 31 [iv x] (iv (-x)):=by have lx:=fits_len hx;have c1:=made_i (limbsOf x.natAbs) (!decide (x<0)) (limbsOf_limbs _) om;rw[limbsOf_val,show sgn (!decide (x<0)) x.natAbs= -x by unfold sgn;split<;>simp_all<;>omega]at c1;unfold sv at c1;unfold iv sv at c1⊢;refine qF Tryz.func31 Tryz.ntmps31 λB hB=> ?_;refine qW ?_;exact qE Tryz.results31
theorem sub_i(x y:Int)(K:Nat)(hx:Fits K x)(hy:Fits K y)(hK:K<=500000000000):Spec Tryz.prog 101 [iv x,iv y] (iv (x-y)):=by have c1:=neg_i y K hy om;have c2:=add_i x (-y) K hx hy.neg hK;rw[<-Int.sub_eq_add_neg]at c2;unfold iv sv at c1 c2⊢;refine qF Tryz.func101 Tryz.ntmps101 λB hB=> ?_;refine qW ?_;exact qE Tryz.results101
theorem sign_i(x:Int)(K:Nat)(hx:Fits K x)(hK:K<=1000000000000):Spec Tryz.prog 69 [iv x] (.sc (.int .i64 x.sign)):=by
 unfold iv sv;refine qF Tryz.func69 Tryz.ntmps69 λB hB=> ?_;by_cases h0:x=0
 ·subst h0;have q1:(((limbsOf (0:Int).natAbs).length:Int)==0)=true:=by simp[limbsOf_zero]
  refine qYf (Q2 @q1 @lv_len) ?_;exact qE Tryz.results69
 ·have q1:(((limbsOf x.natAbs).length:Int)==0)=false:=by
   have:limbsOf x.natAbs≠ []:=λh=>h0 (by have:=limbsOf_nil.1 h;omega);have:=List.length_pos_iff.2 this;simp only[beq_eq_false_iff_ne,ne_eq];omega
  by_cases h1:x<0
  ·have q2:=decide_eq_true h1;refine qYf (Q3 @q1 @q2 @lv_len) ?_;refine retQ_ret Tryz.results69 qT qT ?_;rw[Int.sign_eq_neg_one_of_neg h1]
  ·have q2:=decide_eq_false h1;refine qYf (Q3 @q1 @q2 @lv_len) ?_;refine retQ_ret Tryz.results69 qT qT ?_;rw[Int.sign_eq_one_of_pos om]
theorem cmp_i(x y:Int)(K:Nat)(hx:Fits K x)(hy:Fits K y)(hK:K<=500000000000):Spec Tryz.prog 70 [iv x,iv y] (.sc (.int .i64 (x-y).sign)):=by have c1:=sub_i x y K hx hy hK;have c2:=sign_i (x-y) (K+1) (hx.sub hy) om;unfold iv sv at c1 c2⊢;refine qF Tryz.func70 Tryz.ntmps70 λB hB=> ?_;refine qW ?_;exact qE Tryz.results70
end
section
open Go.RowKit
def validB(l:List Nat)(neg:Bool):Bool:=if l.length=0 then !neg else l.getD (l.length-1) 0 !=0
theorem valid_g(l:List Nat)(n:Nat)(neg:Bool)(hn:n=l.length)(hm:n<=9223372036854775807):Spec Tryz.prog 76 [.ag [.sc (.bool neg),.im (lv l) n]] (.sc (.bool (validB l neg))):=by
 subst hn;refine qF Tryz.func76 Tryz.ntmps76 λB hB=> ?_;by_cases h0:l.length=0
 ·have q1:decide ((0:Int)<(l.length:Int))=false:=by simp;exact List.eq_nil_of_length_eq_zero h0
  refine qYf (Q2 @q1 @lv_len) ?_;refine retQ_ret Tryz.results76 qT qT ?_;unfold validB;rw[if_pos h0]
 ·have q1:decide ((0:Int)<(l.length:Int))=true:=by rw[decide_eq_true_eq];omega
  have hi:((l.length:Int)-1).toNat=l.length-1:=by omega
  have hg:=lv_get (l:=l) (i:=l.length-1) om;refine qYf (Q5 @q1 @hi @hg @lv_len @gD) ?_;refine retQ_ret Tryz.results76 qT qT ?_;unfold validB;rw[if_neg h0];generalize l.getD (l.length-1) 0=x;have:(((x:Int) !=0):Bool)=(x !=0):=by
   by_cases hx:x=0;·subst hx;rfl
   ·have h1:((x:Int) !=0)=true:=by simp only[bne_iff_ne,ne_eq];omega
    have h2:(x !=0)=true:=by simp only[bne_iff_ne,ne_eq];omega
    rw[h1,h2]
  rw[this]
theorem or_zero(d:Nat)(h:d<18446744073709551616):bits BinOp.or IntKind.u64 0 (d:Int)=(d:Int):=by have:=u64_or_nat 0 d om h;simpa using this
theorem or_high(u d:Nat)(hu:u<4294967296)(hd:d<4294967296):bits BinOp.or IntKind.u64 (u:Int) ((d:Int)*4294967296)=((u+4294967296*d:Nat):Int):=by
 have h:=u64_or_nat u (d*4294967296) om om;have e:u|||d*4294967296=d*4294967296+u:=by have:=Nat.shiftLeft_add_eq_or_of_lt (b:=u) (i:=32) om d;rw[Nat.shiftLeft_eq,Nat.or_comm]at this;exact this.symm
 rw[e]at h;have e2:((d*4294967296+u:Nat):Int)=((u+4294967296*d:Nat):Int):=by omega
 rw[<-e2,<-h];simp
theorem word_i(l:List Nat)(h:limbs l)(hl:l.length<=2):Spec Tryz.prog 140 [sv l] (.sc (.int .u64 (val l:Nat))):=by
 unfold sv;refine qF Tryz.func140 Tryz.ntmps140 λB hB=> ?_;refine qYf @lv_len ?_;refine SC.loop (λk:Nat=>⟨[(3,.sc (.int .u64 (val (l.take k):Nat))),(6,.im (lv l) l.length),(7,.sc (.int .i64 l.length)),(8,.sc (.int .i64 k))],[],0,22⟩)
  (λk=>k<=l.length) (λk=>l.length-k) 0 ?_ (znc _) ?_
 ·exact qL
 ·intro k hk K hK;by_cases hlt:k<l.length
  ·have q1:=decide_eq_true (p:=(k:Int)<(l.length:Int)) om;have hg:=lv_get hlt;have hx:=limbs_getD h k;have hst:=val_take_succ' l k;have h3:k=0\/k=1:=by omega
   have hv:=val_lt (limbs_take h k);rw[List.length_take,Nat.min_eq_left om]at hv;generalize l.getD k 0=x at*;generalize val (l.take k)=u at*;rcases h3 with rfl|rfl
   ·have hu:u=0:=by omega
    subst hu;have f1:(x:Int)*2^min ((32:Int)*((0:Nat):Int)).toNat 64=(x:Int):=by
     have:(2:Int)^min ((32:Int)*((0:Nat):Int)).toNat 64=1:=by decide
     rw[this,Int.mul_one]
    have f2:bits BinOp.or IntKind.u64 ((0:Nat):Int) (x:Int)=(x:Int):=or_zero x om;refine qYf (Q6 @q1 @f1 @f2 @hg @lv_len @gD) ?_;refine hK _ 1 ?_ om om;refine qLn0r ?_;simp only[Nat.pow_zero,zna,zn9]at hst;exact VLe.int (congrArg (λn:Nat=>(n:Int)) hst.symm)
   ·have f1:(x:Int)*2^min ((32:Int)*((1:Nat):Int)).toNat 64=(x:Int)*4294967296:=by
     have:(2:Int)^min ((32:Int)*((1:Nat):Int)).toNat 64=4294967296:=by decide
     rw[this]
    have f2:=or_high u x om hx;refine qYf (Q6 @q1 @f1 @f2 @hg @lv_len @gD) ?_;refine hK _ 2 ?_ om om;refine qLn0r ?_;simp only[Nat.pow_one]at hst;exact VLe.int (congrArg (λn:Nat=>(n:Int)) hst.symm)
  ·have hkl:k=l.length:=by omega
   subst hkl;have q1:=decide_eq_false (p:=((l.length:Nat):Int)<(l.length:Int)) om;refine qYf @q1 ?_;refine retQ_ret Tryz.results140 qT qT ?_
   first|rfl|rw[List.take_length]
theorem trim_n(n:Nat)(h:(limbsOf n).length<=1000000000000):Spec Tryz.prog 123 [sv (limbsOf n)] (sv (limbsOf n)):=by have:=trim_i (limbsOf n) (limbsOf_limbs n) h;rwa[limbsOf_val]at this
theorem psign_i(x:Int)(K:Nat)(hx:Fits K x)(hK:K<=1000000000000):Spec Tryz.prog 110 [iv x] (.sc (.int .i64 x.sign)):=by
 have lx:=fits_len hx;have c1:=trim_n x.natAbs om;unfold iv;unfold sv at c1⊢;by_cases h0:x=0
 ·subst h0;have q1:(((limbsOf (0:Int).natAbs).length:Int)==0)=true:=by simp[limbsOf_zero]
  refine qF Tryz.func110 Tryz.ntmps110 λB hB=> ?_;refine qWf (Q2 @q1 @lv_len) ?_;exact qE Tryz.results110
 ·have q1:(((limbsOf x.natAbs).length:Int)==0)=false:=by
   have:limbsOf x.natAbs≠ []:=λh=>h0 (by have:=limbsOf_nil.1 h;omega);have:=List.length_pos_iff.2 this;simp only[beq_eq_false_iff_ne,ne_eq];omega
  by_cases h1:x<0
  ·have q2:=decide_eq_true h1;refine qF Tryz.func110 Tryz.ntmps110 λB hB=> ?_;refine qWf (Q3 @q1 @q2 @lv_len) ?_;refine retQ_ret Tryz.results110 qT qT ?_;rw[Int.sign_eq_neg_one_of_neg h1]
  ·have q2:=decide_eq_false h1;refine qF Tryz.func110 Tryz.ntmps110 λB hB=> ?_;refine qWf (Q3 @q1 @q2 @lv_len) ?_;refine retQ_ret Tryz.results110 qT qT ?_;rw[Int.sign_eq_one_of_pos om]
end
section
end
section
open Go.RowKit
end
section
end
section
open Go.RowKit
end
section
section lin
variable {K:Type} [Lean.Grind.CommRing K]
def sg(f:Nat->K):Nat->K
 |0=>0
 |n+1=>sg f n+f n
theorem sg_congr{f g:Nat->K}: ∀{n:Nat},(∀i,i<n->f i=g i)->sg f n=sg g n
 |0,_=>rfl
 |n+1,h=>by rw[sg,sg,sg_congr λi hi=>h i om,h n om]
theorem sg_add(f g:Nat->K): ∀n:Nat,sg (λi=>f i+g i) n=sg f n+sg g n
 |0=>by simp only[sg];grind
 |n+1=>by rw[sg,sg,sg,sg_add f g n];grind
theorem sg_mul(a:K)(f:Nat->K): ∀n:Nat,sg (λi=>a*f i) n=a*sg f n
 |0=>by simp only[sg];grind
 |n+1=>by rw[sg,sg,sg_mul a f n];grind
theorem sg_zero: ∀{n:Nat} {f:Nat->K},(∀i,i<n->f i=0)->sg f n=0
 |0,_,_=>rfl
 |n+1,f,h=>by rw[sg,sg_zero λi hi=>h i om,h n om];grind
theorem sg_one: ∀{n k:Nat} {f:Nat->K},k<n->(∀i,i<n->i≠k->f i=0)->sg f n=f k
 |0,k,f,hk,_=>by omega
 |n+1,k,f,hk,h=>by
  rw[sg];by_cases e:k=n;·subst e;rw[sg_zero λi hi=>h i om om];grind
  ·rw[sg_one (k:=k) om λi hi hn=>h i om hn,h n om om];grind
def Sp(n m:Nat)(A:Nat->Nat->K)(v:Nat->K):Prop:= ∃x:Nat->K,∀j,j<m->v j=sg (λi=>x i*A i j) n
variable {n m n':Nat} {A B:Nat->Nat->K} {u v:Nat->K}
theorem Sp.row{i:Nat}(hi:i<n):Sp n m A (A i):=⟨λk=>if k=i then 1 else 0,λj _=>by rw[sg_one (k:=i) hi λk _ hk=>by dsimp only;rw[if_neg hk];grind];dsimp only;rw[if_pos rfl];grind⟩
theorem Sp.zero(h: ∀j,j<m->v j=0):Sp n m A v:=⟨λ_=>0,λj hj=>by rw[h j hj,sg_zero];intro i _;grind⟩
theorem Sp.add(h:Sp n m A u)(k:Sp n m A v):Sp n m A (λj=>u j+v j):=by obtain⟨x,hx⟩:=h;obtain⟨y,hy⟩:=k;refine⟨λi=>x i+y i,λj hj=> ?_⟩;dsimp only;rw[hx j hj,hy j hj,<-sg_add];exact sg_congr λi _=>by grind
theorem Sp.smul(a:K)(h:Sp n m A u):Sp n m A (λj=>a*u j):=by obtain⟨x,hx⟩:=h;refine⟨λi=>a*x i,λj hj=> ?_⟩;dsimp only;rw[hx j hj,<-sg_mul];exact sg_congr λi _=>by grind
theorem Sp.congr(h:Sp n m A u)(e: ∀j,j<m->v j=u j):Sp n m A v:=by obtain⟨x,hx⟩:=h;exact⟨x,λj hj=>(e j hj).trans (hx j hj)⟩
theorem Sp.sum{f:Nat->Nat->K}: ∀{k:Nat},(∀i,i<k->Sp n m A (f i))->Sp n m A (λj=>sg (λi=>f i j) k)
 |0,_=>Sp.zero λ_ _=>rfl
 |k+1,h=>(Sp.add (Sp.sum λi hi=>h i om) (h k om)).congr λ_ _=>rfl
theorem Sp.trans(h: ∀i,i<n'->Sp n m A (B i))(hv:Sp n' m B v):Sp n m A v:=by obtain⟨y,hy⟩:=hv;exact(Sp.sum (f:=λi j=>y i*B i j) λi hi=>(h i hi).smul (y i)).congr hy
variable {r r':Nat} {R R':Nat->Nat->K} {c c':Nat->Nat}
end lin
end
section
section lin
variable {K:Type} [Lean.Grind.CommRing K]
variable {n w c k:Nat} {A0 A:Nat->Nat->K} {pv:Nat->Nat}
variable {cols:Nat}
variable {M:Nat->Nat->K}
end lin
end
section
section fz
variable {p:Nat} [NeZero p]
def fz(p:Nat) [NeZero p](x:Nat):Fin p:=Fin.ofNat p x
end fz
def ent(M:List (List Nat))(i j:Nat):Nat:=(M.getD i []).getD j 0
section mv
variable {p n w:Nat} {M:List (List Nat)}
theorem getD_mem{α:Type}{l:List α}{i:Nat}{d:α}(h:i<l.length):l.getD i d∈l:=by rw[List.getD_eq_getElem?_getD,zlb h];exact List.getElem_mem h
theorem getD_set{α:Type}{l:List α}{i k:Nat}{x d:α}(hk:k<l.length):(l.set k x).getD i d=if i=k then x else l.getD i d:=by
 rw[List.getD_eq_getElem?_getD,List.getElem?_set,List.getD_eq_getElem?_getD];by_cases e:k=i;·subst e;rw[if_pos rfl,if_pos rfl,if_pos hk];rfl
 ·rw[if_neg e,if_neg λe'=>e e'.symm]
end mv
section rows
variable {p w:Nat} {a b:List Nat}
end rows
section step
variable {p n w k q c h:Nat} {M:List (List Nat)} {rk:List Nat}
variable [NeZero p]
def fM(p:Nat) [NeZero p](M:List (List Nat))(i j:Nat):Fin p:=fz p (ent M i j)
end step
def Same(p w:Nat) [NeZero p](M R:List (List Nat)):Prop:=(∀i,i<M.length->Sp R.length w (fM p R) (fM p M i))/\ ∀i,i<R.length->Sp M.length w (fM p M) (fM p R i)
section form
variable {p n w:Nat} {M R R':List (List Nat)} {pv pv':List Nat} [NeZero p]
theorem Same.refl:Same p w M M:=⟨λ_ hi=>Sp.row hi,λ_ hi=>Sp.row hi⟩
theorem Same.symm(h:Same p w M R):Same p w R M:=⟨h.2,h.1⟩
theorem Same.trans(h:Same p w M R)(h':Same p w R R'):Same p w M R':=⟨λi hi=>Sp.trans h'.1 (h.1 i hi),λi hi=>Sp.trans h.2 (h'.2 i hi)⟩
end form
end
section
open Go.RowKit
section
variable {P:Program} {w:World} {B:Base} {S:Nat->Prop} {rho:Nat->Nat} {A:Nat->Prop} {s:SS}
theorem Le.less{sl:List (Nat×V)}{hp hp':List (Nat×Blk)}{nx nx' nt:Nat}(h: ∀id k,hget hp' id=some k->hget hp id=some k)(hn:nx<=nx'):Le B ⟨sl,hp,nx,nt⟩ ⟨sl,hp',nx',nt⟩:=
 λS rho A _ _ hr=>⟨S,rho,A,hr.slots,hr.mem.less h,λid hid=>Nat.lt_of_lt_of_le (hr.alt id hid) hn,hr.nt,hr.defs⟩
def okAll:Nat->Bool:=λ_=>true
theorem Le.slots{sl sl':List (Nat×V)}{hp hp':List (Nat×Blk)}{nx nx' nt:Nat}(h1:leSl okAll sl sl')(h: ∀id k,hget hp' id=some k->hget hp id=some k)(hn:nx<=nx'):Le B ⟨sl,hp,nx,nt⟩ ⟨sl',hp',nx',nt⟩:=
 λS rho A a w hr=>⟨S,rho,A,λt=>(leSl_get h1 t S rho A w _ (hr.slots t)).mono (λ_ h=>⟨h,rfl⟩) (λ_ h=>⟨h.1,rfl,λ_ h=>h⟩),hr.mem.less h,λid hid=>Nat.lt_of_lt_of_le (hr.alt id hid) hn,hr.nt,hr.defs⟩
theorem SC.less{cs:List Code}{Q:Exit->SS->Prop}{sl:List (Nat×V)}{hp hp':List (Nat×Blk)}{nx nt:Nat}(hcs:cs≠ [])(h: ∀id k,hget hp' id=some k->hget hp id=some k)(k:SC P B cs Q ⟨sl,hp',nx,nt⟩):SC P B cs Q ⟨sl,hp,nx,nt⟩:=
 SC.weak hcs (Le.less h (znb _)) k
def rowsH(ty:TypeId):List Nat->List (List V)->List (Nat×Blk)
 |i::ids,r::rs=>(i,⟨ty,r,false⟩)::rowsH ty ids rs
 |_,_=>[]
theorem rows_none{ty:TypeId}: ∀{ids:List Nat} {rs:List (List V)} {i:Nat},i∉ids->hget (rowsH ty ids rs) i=none
 |[],_,_,_=>by simp[rowsH,hget]
 |_::_,[],_,_=>by simp[rowsH,hget]
 |j::ids,r::rs,i,h=>by simp only[List.mem_cons,not_or]at h;rw[rowsH,hget,if_neg h.1];exact rows_none h.2
theorem rows_get{ty:TypeId}: ∀{ids:List Nat} {rs:List (List V)} {k:Nat},ids.Nodup->k<ids.length->ids.length=rs.length->hget (rowsH ty ids rs) (ids.getD k 0)=some ⟨ty,rs.getD k [],false⟩
 |[],_,k,_,h,_=>by simp at h
 |_::_,[],k,_,_,h=>by simp at h
 |j::ids,r::rs,0,_,_,_=>by simp[rowsH,hget]
 | j::ids,r::rs,k+1,hn,hk,hl=>by
  have hk':k<ids.length:=by simpa using hk
  have hn':=List.nodup_cons.1 hn;have hne:ids.getD k 0≠j:=by
   intro e;have:ids.getD k 0∈ids:=by rw[List.getD_eq_getElem?_getD,zlb hk'];exact List.getElem_mem hk'
   exact hn'.1 (e▸this)
  rw[List.getD_cons_succ,List.getD_cons_succ,rowsH,hget,if_neg hne];exact rows_get hn'.2 hk' (by simpa using hl)
theorem rows_set{ty:TypeId}: ∀{ids:List Nat} {rs:List (List V)} {k:Nat} {r:List V},ids.Nodup->k<ids.length->ids.length=rs.length->hset (rowsH ty ids rs) (ids.getD k 0) ⟨ty,r,false⟩=rowsH ty ids (rs.set k r)
 |[],_,k,_,_,h,_=>by simp at h
 |_::_,[],k,_,_,_,h=>by simp at h
 |j::ids,q::rs,0,_,_,_,_=>by simp[rowsH,hset]
 | j::ids,q::rs,k+1,r,hn,hk,hl=>by
  have hk':k<ids.length:=by simpa using hk
  have hn':=List.nodup_cons.1 hn;have hne:ids.getD k 0≠j:=by
   intro e;have:ids.getD k 0∈ids:=by rw[List.getD_eq_getElem?_getD,zlb hk'];exact List.getElem_mem hk'
   exact hn'.1 (e▸this)
  rw[List.getD_cons_succ,List.set_cons_succ,rowsH,rowsH,hset,if_neg hne,rows_set hn'.2 hk' (by simpa using hl)]
theorem rows_del{ty:TypeId}: ∀{ids:List Nat} {rs:List (List V)} {i:Nat},i∉ids->hdel (rowsH ty ids rs) i=rowsH ty ids rs
 |[],_,_,_=>by simp[rowsH,hdel]
 |_::_,[],_,_=>by simp[rowsH,hdel]
 |j::ids,r::rs,i,h=>by simp only[List.mem_cons,not_or]at h;rw[rowsH,hdel_cons,if_neg (λe=>h.1 e.symm),rows_del h.2]
theorem rows_inv{ty:TypeId}: ∀{ids:List Nat} {rs:List (List V)} {i:Nat} {b:Blk},hget (rowsH ty ids rs) i=some b-> ∃k,k<ids.length/\k<rs.length/\ids.getD k 0=i/\b=⟨ty,rs.getD k [],false⟩
 |[],rs,i,b,h=>by simp[rowsH,hget]at h
 |_::_,[],i,b,h=>by simp[rowsH,hget]at h
 | j::ids,r::rs,i,b,h=>by
  rw[rowsH,hget]at h;by_cases e:i=j
  ·rw[if_pos e]at h;cases h;exact⟨0,by simp,by simp,by simp[e],by simp⟩
  ·rw[if_neg e]at h;obtain⟨k,h1,h2,h3,h4⟩:=rows_inv h;exact⟨k+1,by simpa using h1,by simpa using h2,by simpa using h3,by simpa using h4⟩
theorem getD_mem'{ids:List Nat}{k:Nat}(h:k<ids.length):ids.getD k 0∈ids:=by rw[List.getD_eq_getElem?_getD,zlb h];exact List.getElem_mem h
theorem getD_get'{α:Type}{l:List α}{k:Nat}{d:α}(h:k<l.length):l[k]? =some (l.getD k d):=by rw[List.getD_eq_getElem?_getD,zlb h];rfl
theorem nodup_getD{ids:List Nat}(h:ids.Nodup){i j:Nat}(hi:i<ids.length)(hj:j<ids.length)(e:ids.getD i 0=ids.getD j 0):i=j:=by
 rw[List.getD_eq_getElem?_getD,zlb hi,List.getD_eq_getElem?_getD,zlb hj]at e;have e':ids[i]=ids[j]:=by simpa using e
 have hp:=List.pairwise_iff_getElem.1 h;rcases Nat.lt_trichotomy i j with g|g|g;·exact absurd e' (hp i j hi hj g)
 ·exact g
 ·exact absurd e'.symm (hp j i hj hi g)
theorem rows_perm{ty:TypeId}{ids ids':List Nat}{rs rs':List (List V)}(hn:ids.Nodup)(hl:ids.length=rs.length)
  (h: ∀k,k<ids'.length->k<rs'.length-> ∃j,j<ids.length/\ids'.getD k 0=ids.getD j 0/\rs'.getD k []=rs.getD j []): ∀id k,hget (rowsH ty ids' rs') id=some k->hget (rowsH ty ids rs) id=some k:=by
 intro id b hb;obtain⟨k,h1,h2,h3,rfl⟩:=rows_inv hb;obtain⟨j,g1,g2,g3⟩:=h k h1 h2;rw[<-h3,g2,g3];exact rows_get hn g1 hl
theorem rows_snoc{ty:TypeId}: ∀{ids:List Nat} {rs:List (List V)} {i:Nat} {r:List V},ids.length=rs.length->i∉ids-> ∀id k,hget (rowsH ty (ids++ [i]) (rs++ [r])) id=some k->hget ((i,⟨ty,r,false⟩)::rowsH ty ids rs) id=some k
 |[],[],i,r,_,_,id,k,h=>h
 | j::ids,q::rs,i,r,hl,hi,id,k,h=>by
  simp only[List.mem_cons,not_or]at hi;simp only[zl8,rowsH,hget]at h⊢;by_cases e:id=j
  ·rw[if_pos e]at h;rw[if_neg (λe'=>hi.1 (e'.symm.trans e)),if_pos e];exact h
  ·rw[if_neg e]at h;have:=rows_snoc (by simpa using hl) hi.2 id k h;simp only[hget]at this;rw[if_neg e];exact this
 |[],_::_,_,_,hl,_,_,_,_=>by simp at hl
 |_::_,[],_,_,hl,_,_,_,_=>by simp at hl
theorem frzAll_ix{g:V->Option (V×List Nat)}: ∀{cs ys:List V} {is:List (List Nat)},cs.length=ys.length->cs.length=is.length->(∀k,k<cs.length->g (cs.getD k .junk)=some (ys.getD k .junk,is.getD k []))->frzAll g cs=some (ys,is.flatten)
 |[],[],[],_,_,_=>rfl
 |c::cs,y::ys,i::is,h1,h2,h=>by have h0:=h 0 (by simp);simp at h0;rw[frzAll_cons,h0,fzC_some,frzAll_ix (by simpa using h1) (by simpa using h2) (λk hk=>by have:=h (k+1) (by simpa using hk);simpa using this)];rfl
 |[],_::_,_,h,_,_=>by simp at h
 |_::_,[],_,h,_,_=>by simp at h
 |_::_,_::_,[],_,h,_=>by simp at h
 |[],[],_::_,_,h,_=>by simp at h
theorem frzL_ix{g:V->Option (V×List Nat)}{cs ys:List V}{is:List (List Nat)}(h1:cs.length=ys.length)(h2:cs.length=is.length)(hc: ∀c∈cs,clo c=false)(h: ∀k,k<cs.length->g (cs.getD k .junk)=some (ys.getD k .junk,is.getD k [])):frzL g cs=some (ys,is.flatten):=by
 unfold frzL;split
 ·rename_i hall;have:cs=[]:=by
   cases cs with
   |nil=>rfl
   |cons c r=>have:=hc c (by simp);simp at hall;rw[this]at hall;exact absurd hall.1 (by simp)
  subst this;have e1:ys=[]:=List.eq_nil_of_length_eq_zero h1.symm;have e2:is=[]:=List.eq_nil_of_length_eq_zero h2.symm;subst e1;subst e2;rfl
 ·exact frzAll_ix h1 h2 h
def slR(z m:Nat)(ids:List Nat):List V:=ids.map λi=>V.sl i 0 m z none
theorem slR_len(z m:Nat)(ids:List Nat):(slR z m ids).length=ids.length:=by simp[slR]
theorem slR_get{z m k:Nat}{ids:List Nat}(h:k<ids.length):(slR z m ids)[k]? =some (V.sl (ids.getD k 0) 0 m z none):=by unfold slR;rw[List.getElem?_map,getD_get' (d:=0) h];rfl
theorem slR_set{z m k i:Nat}{ids:List Nat}:(slR z m ids).set k (V.sl i 0 m z none)=slR z m (ids.set k i):=by simp[slR,List.map_set]
def imR(m:Nat)(rs:List (List V)):List V:=rs.map λr=>V.im r m
theorem frz_rows{hp:List (Nat×Blk)}{ty:TypeId}{ids:List Nat}{rs:List (List V)}{n m z:Nat}(hl:ids.length=rs.length)(hg: ∀k,k<ids.length->hget hp (ids.getD k 0)=some ⟨ty,rs.getD k [],false⟩)
  (hr: ∀r∈rs,r.length=m*z/\r.all clo=true):frzL (frz (n+1) hp) (slR z m ids)=some (imR m rs,ids):=by
 have h:=frzL_ix (g:=frz (n+1) hp) (cs:=slR z m ids) (ys:=imR m rs) (is:=ids.map λi=>[i]) (by simp[slR,imR,hl]) (by simp[slR]) (by intro c hc;obtain⟨i,_,rfl⟩:=List.mem_map.1 hc;rfl) (λk hk=>by
  have hk':k<ids.length:=by simpa[slR]using hk
  have hk2:k<rs.length:=by omega
  have e1:(slR z m ids).getD k .junk=V.sl (ids.getD k 0) 0 m z none:=by rw[List.getD_eq_getElem?_getD,slR_get hk'];rfl
  have hrow:=hr (rs.getD k []) (by rw[List.getD_eq_getElem?_getD,zlb hk2];exact List.getElem_mem hk2);have e2:(imR m rs).getD k .junk=V.im (rs.getD k []) m:=by unfold imR;rw[List.getD_eq_getElem?_getD,List.getElem?_map,getD_get' (d:=[]) hk2];rfl
  have e3:(ids.map λi=>[i]).getD k []=[ids.getD k 0]:=by rw[List.getD_eq_getElem?_getD,List.getElem?_map,getD_get' (d:=0) hk'];rfl
  rw[e1,e2,e3,frz_sl,hg k hk',srcG_some,if_pos om,zl2,zla om,fzQ_some,frzL_eq,if_pos hrow.2];rfl)
 have e: ∀l:List Nat,(l.map λi=>[i]).flatten=l:=by
  intro l;induction l with
  |nil=>rfl
  |cons i r ih=>rw[zld,List.flatten_cons,ih];rfl
 rw[h,e]
theorem slR_some{z m:Nat}{ids:List Nat}(h:0<ids.length):(slR z m ids).all clo=false:=by
 cases ids with
 |nil=>simp at h
 |cons i r=>rfl
theorem frz_rowsA{hp:List (Nat×Blk)}{ty:TypeId}{ids:List Nat}{rs:List (List V)}{n m z:Nat}(h0:0<ids.length)(hl:ids.length=rs.length)(hg: ∀k,k<ids.length->hget hp (ids.getD k 0)=some ⟨ty,rs.getD k [],false⟩)
  (hr: ∀r∈rs,r.length=m*z/\r.all clo=true):frzAll (frz (n+1) hp) (slR z m ids)=some (imR m rs,ids):=by
 have h:=frz_rows (n:=n) hl hg hr;rwa[frzL_eq,slR_some h0,if_neg (by simp)]at h
def retIQ(P:Program)(fn:Func)(B:Base)(Q:V->List (Nat×Blk)->Nat->Prop):Exit->SS->Prop
 | .normal,s| .ret,s=> ∃y x hp nx,resV P fn s=some y/\Q x hp nx/\Le B (vst y s.hp s.nx) (vst x hp nx)
 |_,_=>False
def Idle(P:Program)(g:Nat):Prop:= ∀w:World,(callFunc g #[]).run P w= .ok (.enter g #[]) w/\CallsD P g #[] .returning w λe u w'=>(∃v,e= .returned v)/\u= .returning/\w'=w
theorem Idle.of{g id t:Nat}{fn:Func}{o:Oper}{n:Nat}(hgo:isGo P g=true)(hf:P.funcs[g]? =some fn)(hb:fn.body=some (.region id #[o] false))(ho:o.op= .call {callee:= .builtin .recover,args:= #[],argTypes:= #[]})(hd:o.dst=some t)(hg:o.guard=none)(hn:fn.ntmps=n)(hr:fn.results= #[]):Idle P g:=by
 intro w;refine⟨callFunc_go hgo _ _,callsD_of_wpS hf hb λc₀ cs hu=> ?_⟩;apply wpS_region;have hw: ∀ts,Region.wanted o (yielded #[o] ts)=true:=by intro ts;unfold Region.wanted;rw[hg]
 have hx: ∀(ρ:Operand->Value),(execOp ρ o).run P w= .ok .recover w:=by intro ρ;obtain⟨d,op,g,ty,pos,aft⟩:=o;simp only at ho;subst ho;simp only[execOp,resolve,List.map_toArray,zle,Sem.run_bind,Sem.run_pure];rfl
 show wpOpsS P #[o] _ [0] _ _ _;simp only[wpOpsS,List.getElem?_toArray,List.getElem?_cons_zero];rw[if_pos (hw _),hx];simp only[recoverD,hu,hd,Act.put];refine⟨rfl,c₀.mode,?_,.tuple #[],?_,⟨_,rfl⟩,hu,rfl⟩;·cases c₀;rfl
 ·rw[results,hr];simp[go_sem]
def Base.dfr(B:Base)(D:List Deferred):Base:=⟨B.w0,B.S0,B.K,B.rho0,B.L,D⟩
theorem Mem.dfr{hp:List (Nat×Blk)}(D:List Deferred)(h:Mem B S rho A hp w):Mem (B.dfr D) S rho A hp w where
 cells:=h.cells
 fz:=h.fz
 own:=h.own
 inj:=h.inj
 slt:=h.slt
 sub:=h.sub
 base:=h.base
 frame:=⟨h.frame.os,h.frame.tape,h.frame.output,h.frame.size,h.frame.block,h.frame.stay,h.frame.sz,h.frame.lt,h.frame.tab⟩
 keep:=h.keep
theorem Mem.undfr{hp:List (Nat×Blk)}{D:List Deferred}(h:Mem (B.dfr D) S rho A hp w):Mem B S rho A hp w:=h.dfr B.D
theorem Rel.dfr{a:Act}(D:List Deferred)(h:Rel B S rho A s a w):Rel (B.dfr D) S rho A s ⟨a.tmps,D⟩ w:=⟨h.slots,h.mem.dfr D,h.alt,h.nt,rfl⟩
def Dfr(P:Program)(c:Code)(s0 s1:SS)(rest:Code):Prop:=
 ∃i0 r0 i1 o g,c= .seq (.region i0 (List.toArray r0) false) (.seq (.region i1 #[o] false) rest)/\o.op= .defer {callee:= .value (.func g),args:= #[],argTypes:= #[]}/\o.dst=none/\o.guard=none/\Idle P g/\runL P r0.toArray s0 r0=some s1
def InlQ(P:Program)(f:Nat)(args:List V)(hp:List (Nat×Blk))(nx:Nat)(Q:V->List (Nat×Blk)->Nat->Prop):Prop:=
 ∃fn c,P.funcs[f]? =some fn/\fn.body=some c/\args.length<=fn.ntmps/\((∀B:Base,B.Old nx->SWp P B c (retIQ P fn B Q) ⟨stSl 0 args,hp,nx,fn.ntmps⟩)\/ ∃s1 rest,Dfr P c ⟨stSl 0 args,hp,nx,fn.ntmps⟩ s1 rest/\ ∀B:Base,B.Old nx->SWp P B rest (retIQ P fn B Q) s1)
theorem Inl.toQ{f:Nat}{args:List V}{hp hp':List (Nat×Blk)}{nx nx':Nat}{x:V}(h:Inl P f args hp nx x hp' nx'):InlQ P f args hp nx λy q m=>y=x/\q=hp'/\m=nx':=by obtain⟨fn,c,h1,h2,h3,h4⟩:=h;refine⟨fn,c,h1,h2,h3,.inl λB hB=>SWp.mono (h4 B hB) λe s h=> ?_⟩;cases e<;>first|exact h.elim|exact(let⟨y,a,b⟩:=h;⟨y,x,hp',nx',a,⟨rfl,rfl,rfl⟩,b⟩)
theorem InlQ.run{f:Nat}{fn:Func}{c:Code}{args:List V}{n nx:Nat}{s0:SS}{hp:List (Nat×Blk)}{Q:V->List (Nat×Blk)->Nat->Prop}(hf:P.funcs[f]? =some fn)(hb:fn.body=some c)(hnt:fn.ntmps=n)(hn:args.length<=n)(h0:(⟨stSl 0 args,hp,nx,n⟩:SS)=s0)(h: ∀B:Base,B.Old nx->SC P B [c] (retIQ P fn B Q) s0):InlQ P f args hp nx Q:=by subst hnt;subst h0;exact⟨fn,c,hf,hb,hn,.inl λB hB=>SC.of (h B hB)⟩
theorem InlQ.runD{f g i0 i1:Nat}{fn:Func}{r0:List Oper}{o:Oper}{rest:Code}{args:List V}{n nx:Nat}{s0 s1:SS}{hp:List (Nat×Blk)}{Q:V->List (Nat×Blk)->Nat->Prop}(hf:P.funcs[f]? =some fn)(hb:fn.body=some (.seq (.region i0 r0.toArray false) (.seq (.region i1 #[o] false) rest)))
  (ho:o.op= .defer {callee:= .value (.func g),args:= #[],argTypes:= #[]}) (hd:o.dst=none) (hg:o.guard=none) (hi:Idle P g) (hnt:fn.ntmps=n) (hn:args.length<=n) (h0:(⟨stSl 0 args,hp,nx,n⟩:SS)=s0) (h1:runL P r0.toArray s0 r0=some s1)
  (h: ∀B:Base,B.Old nx->SC P B [rest] (retIQ P fn B Q) s1):InlQ P f args hp nx Q:=by
 subst hnt;subst h0;exact⟨fn,_,hf,hb,hn,.inr ⟨s1,rest,⟨i0,r0,i1,o,g,rfl,ho,hd,hg,hi,h1⟩,λB hB=>SC.of (h B hB)⟩⟩
theorem retIQ_ret{s:SS}{fn:Func}{y:V}(x:V)(hp:List (Nat×Blk))(nx:Nat){Q:V->List (Nat×Blk)->Nat->Prop}{rs:List ResultVar}(hr:fn.results=rs.toArray)(h1:resG P s rs=some y)(hq:Q x hp nx)(h2:Le B (vst y s.hp s.nx) (vst x hp nx)):retIQ P fn B Q .ret s:=⟨y,x,hp,nx,by rw[resV_eq,hr];exact h1,hq,h2⟩
theorem retIQ_normal{s:SS}{fn:Func}{y:V}(x:V)(hp:List (Nat×Blk))(nx:Nat){Q:V->List (Nat×Blk)->Nat->Prop}{rs:List ResultVar}(hr:fn.results=rs.toArray)(h1:resG P s rs=some y)(hq:Q x hp nx)(h2:Le B (vst y s.hp s.nx) (vst x hp nx)):retIQ P fn B Q .normal s:=⟨y,x,hp,nx,by rw[resV_eq,hr];exact h1,hq,h2⟩
theorem InlQ.callsI{f:Nat}{args:List V}{hp:List (Nat×Blk)}{nx:Nat}{Q:V->List (Nat×Blk)->Nat->Prop}{vs:Array Value}(h:InlQ P f args hp nx Q)(hm:Mem B S rho A hp w)(ha: ∀id,A id->id<nx)(hv:All S rho A w args vs.toList):
  Calls P f vs w λe w'=> ∃v,e= .returned v/\ ∃x hp' nx' S' rho' A',Q x hp' nx'/\(∀b,S b->S' b/\w'.heap[b]? =w.heap[b]?)/\(∀id,A id->A' id/\rho' id=rho id/\ ∀n,szAt w (rho id) n->szAt w' (rho id) n)/\
   Mem (Base.inner S rho A hp w) S' rho' A' hp' w'/\(∀id,A' id->id<nx')/\R S' rho' w' A' x v:=by
 obtain⟨fn,c,hf,hb,hn,hI⟩:=h;have hlen:vs.size=args.length:=by have:=hv.1;simpa using this.symm
 have fin: ∀a1 w' S' rho' A' s',Rel (Base.inner S rho A hp w) S' rho' A' s' a1 w'->(∃y x hp' nx',resV P fn s'=some y/\Q x hp' nx'/\Le (Base.inner S rho A hp w) (vst y s'.hp s'.nx) (vst x hp' nx'))-> ∃v,(results fn a1.tmps).run P w'= .ok v w'/\ ∃v',Ending.returned v= .returned v'/\
   ∃x hp' nx' S' rho' A',Q x hp' nx'/\(∀b,S b->S' b/\w'.heap[b]? =w.heap[b]?)/\(∀id,A id->A' id/\rho' id=rho id/\ ∀n,szAt w (rho id) n->szAt w' (rho id) n)/\Mem (Base.inner S rho A hp w) S' rho' A' hp' w'/\(∀id,A' id->id<nx')/\R S' rho' w' A' x v':=by
  rintro a1 w' S' rho' A' s' hr ⟨y,x,hp',nx',h1,hQ,h2⟩;obtain⟨v,h3,h4⟩:=res_sound (P:=P) hr h1;obtain⟨S2,rho2,A2,h5⟩:=h2 S' rho' A' ⟨#[v],[]⟩ w' ⟨λt=>by
   simp only[vst,get];by_cases e:t=0;·subst e;rw[if_pos rfl];exact h4
   ·rw[if_neg e];exact .junk _,hr.mem,hr.alt,rfl,rfl⟩
  have h6:=h5.slots 0;refine⟨v,h3,v,rfl,x,hp',nx',S2,rho2,A2,hQ,λb hb=>⟨h5.mem.sub b hb,h5.mem.frame.stay b hb⟩,λid hid=> ?_,h5.mem,h5.alt,h6⟩;obtain⟨k1,k2⟩:=h5.mem.keep id hid;exact⟨k1,k2,λn hn=>hm.innerSz h5.mem.frame _ n hn⟩
 have hst:Rel (Base.inner S rho A hp w) S rho A ⟨stSl 0 args,hp,nx,fn.ntmps⟩ ⟨vs++Array.replicate (fn.ntmps-vs.size) undef,[]⟩ w:=⟨start_slots hv,hm.inner,ha,by simp;omega,rfl⟩
 rcases hI with hI|⟨s1,rest,⟨i0,r0,i1,o,g,rfl,ho,hd,hg,hi,h1⟩,hI⟩
 ·refine calls_of_wp hf hb (wp_mono (hI (Base.inner S rho A hp w) ha S rho A _ w hst) ?_);rintro e a1 w' ⟨S',rho',A',s',hq,hr⟩;cases e with
  |normal=>exact⟨hr.defs,fin _ _ _ _ _ _ hr hq⟩
  |ret=>exact⟨hr.defs,fin _ _ _ _ _ _ hr hq⟩
  |_=>exact hq.elim
 ·refine calls_of_wp_defers hf hb ?_;refine wp_seq (wp_mono (SWp.region (Q:=λe s=>e= .normal/\s=s1) (SOps.all h1 ⟨rfl,rfl⟩) S rho A _ w hst) ?_);rintro e a w1 ⟨S1,rho1,A1,s,⟨rfl,rfl⟩,hr⟩;have had:a.defers=[]:=hr.defs;refine wp_seq (wp_region_lit (l:=[o]) (wpList_step λK hK=> ?_));have hw:Region.wanted o (yielded [o].toArray a.tmps)=true:=by unfold Region.wanted;rw[hg]
  rw[hw,if_pos rfl];have hx:(execOp a.eval o).run P w1= .ok (.defer ⟨.fn (.func g) #[],#[]⟩) w1:=by obtain⟨d,op,gd,ty,pos,aft⟩:=o;simp only at ho;subst ho;simp only[execOp,resolve,List.map_toArray,zle,Act.eval,Deferred.ofValue,Sem.run_bind,Sem.run_pure];rfl
  unfold Oper.wp;rw[hx,Oper.upon_defer];refine hK _ _ (wpList_nil ?_);rw[hd,had];refine wp_mono (hI ((Base.inner S rho A hp w).dfr [⟨.fn (.func g) #[],#[]⟩]) ha S1 rho1 A1 _ w1 (hr.dfr _)) ?_;rintro e a1 w' ⟨S',rho',A',s',hq,hr⟩;have hdf:a1.defers=[⟨.fn (.func g) #[],#[]⟩]:=hr.defs;have lv:(∃y x hp' nx',resV P fn s'=some y/\Q x hp' nx'/\Le ((Base.inner S rho A hp w).dfr [⟨.fn (.func g) #[],#[]⟩]) (vst y s'.hp s'.nx) (vst x hp' nx'))->Leaves P fn a1.tmps (λe w'=> ∃v,e= .returned v/\ ∃x hp' nx' S' rho' A',Q x hp' nx'/\(∀b,S b->S' b/\w'.heap[b]? =w.heap[b]?)/\(∀id,A id->A' id/\rho' id=rho id/\ ∀n,szAt w (rho id) n->szAt w' (rho id) n)/\
    Mem (Base.inner S rho A hp w) S' rho' A' hp' w'/\(∀id,A' id->id<nx')/\R S' rho' w' A' x v) a1.defers .returning w':=by
   rintro⟨y,x,hp',nx',g1,gQ,g2⟩;rw[hdf];refine leaves_cons (f:=g) (args:= #[]) (by simp) (by simpa[go_sem]using(hi w').1) ((hi w').2.mono ?_);rintro e u w2 ⟨⟨v2,rfl⟩,rfl,rfl⟩;refine fin ⟨a1.tmps,[]⟩ _ _ _ _ _ (hr.dfr []) ⟨y,x,hp',nx',g1,gQ,λS2 rho2 A2 a2 w2 h2=> ?_⟩;obtain⟨S3,rho3,A3,h3⟩:=g2 S2 rho2 A2 _ w2 (h2.dfr _);exact⟨S3,rho3,A3,⟨h3.slots,h3.mem.undfr,h3.alt,h3.nt,h2.defs⟩⟩
  cases e with
  |normal=>exact lv hq
  |ret=>exact lv hq
  |_=>exact hq.elim
def inOf(hp hpS:List (Nat×Blk))(id:Nat):Prop:=hasId hpS id=true\/hasId hp id=false
theorem hasId_rest(hp l:List (Nat×Blk))(i:Nat):hasId (restH hp l) i=(hasId hp i&& !hasId l i):=by
 induction hp with
 |nil=>simp[restH,hasId]
 | cons p r ih=>
  simp only[restH];by_cases h:hasId l p.1=true
  ·rw[if_pos h,ih];by_cases e:i=p.1;·subst e;simp[hasId,h]
   ·simp[hasId,e]
  ·rw[if_neg h];simp only[hasId,ih];by_cases e:i=p.1;·subst e;simp[h]
   ·simp[e]
theorem inOf_rest{hp hpS:List (Nat×Blk)}{id:Nat}(h:inOf hp hpS id):hasId (restH hp hpS) id=false:=by rw[hasId_rest];rcases h with h|h<;>simp[h]
theorem Only.mono{p q:Nat->Prop}{x:V}(h:Only p x)(hpq: ∀i,p i->q i):Only q x:=by
 induction h with
 |sc v=>exact .sc v
 |junk=>exact .junk
 |ag _ ih=>exact .ag ih
 |tu _ ih=>exact .tu ih
 |pt h=>exact .pt (hpq _ h)
 |sl h=>exact .sl (hpq _ h)
 |im cs n=>exact .im cs n
 |pi cs=>exact .pi cs
 |fn _ _ i1 i2=>exact .fn i1 i2
 |mp h=>exact .mp (hpq _ h)
 |ifc _ ih=>exact .ifc ih
theorem OnlyH.mono{p q:Nat->Prop}(hpq: ∀i,p i->q i): ∀{l:List (Nat×Blk)},OnlyH p l->OnlyH q l
 |[],_=>trivial
 |_::_,h=>⟨λy hy=>(h.1 y hy).mono hpq,h.2.mono hpq⟩
theorem OnlyH.app{p:Nat->Prop}: ∀{a b:List (Nat×Blk)},OnlyH p a->OnlyH p b->OnlyH p (a++b)
 |[],_,_,h=>h
 |_::_,_,h,k=>⟨h.1,h.2.app k⟩
theorem Only.clo{p:Nat->Prop}{x:V}(h:clo x=true):Only p x:=by
 cases x<;>simp[Go.Proofs.YtannldafjkjjbaaGreat.clo]at h;·exact .sc _
 ·exact .im _ _
 ·exact .pi _
theorem OnlyH.rows{p:Nat->Prop}{ty:TypeId}: ∀{ids:List Nat} {rs:List (List V)},(∀r∈rs,r.all clo=true)->OnlyH p (rowsH ty ids rs)
 |[],_,_=>by simp[rowsH,OnlyH]
 |_::_,[],_=>by simp[rowsH,OnlyH]
 |i::ids,r::rs,h=>by rw[rowsH];refine⟨λy hy=>Only.clo (List.all_eq_true.1 (h r (by simp)) y hy),OnlyH.rows λr hr=>h r (by simp[hr])⟩
theorem SO.weak{ops:Array Oper}{l:List Oper}{cs:List Code}{Q:Exit->SS->Prop}{s s':SS}(h:Le B s s')(k:SO P B ops l cs Q s'):SO P B ops l cs Q s:=
 λS rho A a w hr=>let⟨S',rho',A',hr'⟩:=h S rho A a w hr;k S' rho' A' a w hr'
def SInlQ(P:Program)(B:Base)(f:Nat)(ys:List V)(d:Option Nat)(ops:Array Oper)(l:List Oper)(cs:List Code)(Q:Exit->SS->Prop)(s:SS):Prop:=
 ∃hpS C,(∀id k,hget hpS id=some k->hget s.hp id=some k)/\InlQ P f ys hpS s.nx C/\ ∀x hp' nx',C x hp' nx'->Only (λid=>hasId (restH s.hp hpS) id=false) x/\OnlyH (λid=>hasId (restH s.hp hpS) id=false) hp'/\SO P B ops l cs Q ⟨putS s.sl d x,hp'++restH s.hp hpS,nx',s.nt⟩
theorem SO.inlQ{s:SS}{ops:Array Oper}{l:List Oper}{cs:List Code}{Q:Exit->SS->Prop}{g:Operand}{f:Nat}{p q ys:List V}{args:List Operand}{ts:Array TypeId}{d:Option Tmp}{ty:TypeId}{pos:String}{after:Array Edge}{gd:Option (Nat×Bool)}
  (hfn:fnOf (evS s.sl g)=some (f,p,q)) (hgo:isGo P f=true) (hy:p++args.map (evS s.sl)++q=ys) (hg:guardV ops s.sl gd=some true/\dstOk d s.nt=true) (k:SInlQ P B f ys d ops l cs Q s):SO P B ops (⟨d,.call ⟨.value g,args.toArray,ts⟩,ty,pos,after,gd⟩::l) cs Q s:=by
 obtain⟨hpS,C,hsub,hI,k⟩:=k;intro S rho A a w hr;have hw:=guard_sound (o:=(⟨d,.call ⟨.value g,args.toArray,ts⟩,ty,pos,after,gd⟩:Oper)) hr.slots hg.1;refine wpList_step λK hK=> ?_;rw[if_pos hw];obtain⟨ps,qs,he,hps,hqs⟩:=fn_sound hfn (ev_sound hr.mem.tab hr.slots g);have hrun:(execOp a.eval ⟨d,.call ⟨.value g,args.toArray,ts⟩,ty,pos,after,gd⟩).run P w= .ok (.enter f (ps++args.toArray.map a.eval++qs)) w:=by simp only[execOp,resolve,he,Deferred.ofValue,Sem.run_bind,Sem.run_pure,Result.andThen_ok,invoke];have:=callFunc_go hgo (ps++args.toArray.map a.eval++qs) w;simpa using this
 unfold Oper.wp;rw[hrun];refine(hI.callsI (hr.mem.less hsub) hr.alt (vs:=ps++args.toArray.map a.eval++qs) ?_).mono ?_
 ·have:=(hps.append (All.ev hr.mem.tab hr.slots args)).append hqs;rw[hy]at this;simpa using this
 ·rintro e w' ⟨v,rfl,x,hp',nx',S',rho',A',hC,h1,h2,h3,h4,h5⟩;obtain⟨hx,hc,k⟩:=k x hp' nx' hC;have h6:=hr.mem.backS hsub h3 hc;refine hK _ _ (k S' rho' (λid=>A' id/\(hasId (restH s.hp hpS) id=true->A id)) _ _ ⟨slots_put hr.slots (by rw[hr.nt];exact hg.2) h1 (λid hid=>⟨⟨(h2 id hid).1,λ_=>hid⟩,(h2 id hid).2⟩) (h5.only hx λid hid hai=>⟨hai,λe=>by rw[hid]at e;cases e⟩),h6,λid hid=>h4 id hid.1,by rw[put_size];exact hr.nt,by rw[put_defers];exact hr.defs⟩)
theorem SInlQ.of{ops:Array Oper}{l:List Oper}{cs:List Code}{Q:Exit->SS->Prop}{f:Nat}{ys:List V}{d:Option Nat}{hpS hp:List (Nat×Blk)}{nx nt:Nat}{sl:List (Nat×V)}{C:V->List (Nat×Blk)->Nat->Prop}(hI:InlQ P f ys hpS nx C)(hs: ∀id k,hget hpS id=some k->hget hp id=some k)
  (k: ∀x hp' nx',C x hp' nx'->Only (inOf hp hpS) x/\OnlyH (inOf hp hpS) hp'/\ ∃hp'',(∀id k,hget hp'' id=some k->hget (hp'++restH hp hpS) id=some k)/\SO P B ops l cs Q ⟨putS sl d x,hp'',nx',nt⟩):SInlQ P B f ys d ops l cs Q ⟨sl,hp,nx,nt⟩:=by
 refine⟨hpS,C,hs,hI,λx hp' nx' hC=> ?_⟩;obtain⟨h1,h2,hp'',h3,h4⟩:=k x hp' nx' hC;exact⟨h1.mono λ_=>inOf_rest,h2.mono λ_=>inOf_rest,SO.weak (Le.less h3 (znb _)) h4⟩
def hsets(hp:List (Nat×Blk)):List (Nat×Blk)->List (Nat×Blk)
 |[]=>hp
 |p::r=>hset (hsets hp r) p.1 p.2
end
end
end Go.Proofs.YtannldafjkjjbaaGreat
