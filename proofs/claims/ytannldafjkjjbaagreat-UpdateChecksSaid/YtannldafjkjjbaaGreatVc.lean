/- Texts joined: Sj Sk So Sp. -/
import Derived.Test.YtannldafjkjjbaaGreatVb
set_option linter.all false
set_option maxHeartbeats 16000000
open Nat renaming reduceEqDiff → zn1, reduceLT → zn2, reduceLeDiff → zn3, reduceAdd → zn4, reduceMul → zn5, reduceSub → zn6, reduceBEq → zn7, mul_one → zn8, zero_add → zn9, one_mul → zna, le_refl → znb, zero_le → znc, add_sub_cancel_left → znd, sub_eq_zero_of_le → zne, add_assoc → znf
open Int renaming reduceToNat → zi1, reducePow → zi2
open List renaming length_append → zl1, drop_zero → zl2, take_succ_cons → zl3, take_zero → zl4, getElem?_drop → zl5, append_assoc → zl6, nil_append → zl7, cons_append → zl8, drop_succ_cons → zl9, take_of_length_le → zla, getElem?_eq_getElem → zlb, getElem?_eq_some_iff → zlc, map_cons → zld, map_nil → zle, all_eq_true → zlf
namespace Go.Proofs.YtannldafjkjjbaaGreat
section
open Go.RowKit
section
variable {P:Program} {sl:List (Nat×V)} {hp:List (Nat×Blk)} {nx nt:Nat} {ops:Array Oper}
@[go_sem] theorem get_cons (k:Nat) (x:V) (r:List (Nat×V)) (t:Nat):get ((k,x)::r) t=if t=k then x else get r t:=rfl
@[go_sem] theorem hget_nil (t:Nat):hget [] t=none:=rfl
@[go_sem] theorem hget_cons (k:Nat) (x:Blk) (r:List (Nat×Blk)) (t:Nat):hget ((k,x)::r) t=if t=k then some x else hget r t:=rfl
@[go_sem] theorem hset_cons (k:Nat) (x:Blk) (r:List (Nat×Blk)) (t:Nat) (y:Blk):hset ((k,x)::r) t y=if t=k then(k,y)::r else(k,x)::hset r t y:=rfl
@[go_sem] theorem hdel_nil (t:Nat):hdel [] t=[]:=rfl
@[go_sem] theorem hdel_cons (k:Nat) (x:Blk) (r:List (Nat×Blk)) (t:Nat):hdel ((k,x)::r) t=if k=t then hdel r t else(k,x)::hdel r t:=by unfold hdel;rw[List.filter_cons];by_cases h:k=t<;>simp[h]
@[go_sem] theorem putS_some (d:Nat) (x:V):putS sl (some d) x=(d,x)::sl:=rfl
@[go_sem] theorem putS_none (x:V):putS sl none x=sl:=rfl
@[go_sem] theorem heap_none:Eff.heap .none nx hp=hp:=rfl
@[go_sem] theorem heap_new (k:Blk):Eff.heap (.new k) nx hp=(nx,k)::hp:=rfl
@[go_sem] theorem heap_set (id:Nat) (k:Blk):Eff.heap (.set id k) nx hp=hset hp id k:=rfl
@[go_sem] theorem heap_app (id:Nat) (k:Blk):Eff.heap (.app id k) nx hp=(nx,k)::hdel hp id:=rfl
@[go_sem] theorem next_none:Eff.next .none nx=nx:=rfl
@[go_sem] theorem next_new (k:Blk):Eff.next (.new k) nx=nx+1:=rfl
@[go_sem] theorem next_set (id:Nat) (k:Blk):Eff.next (.set id k) nx=nx:=rfl
@[go_sem] theorem next_app (id:Nat) (k:Blk):Eff.next (.app id k) nx=nx+1:=rfl
@[go_sem] theorem put_mk (d:Option Nat) (x:V) (f:Eff):SS.put ⟨sl,hp,nx,nt⟩ d x f=⟨putS sl d x,f.heap nx hp,f.next nx,nt⟩:=rfl
@[go_sem] theorem dstOk_some (d n:Nat):dstOk (some d) n=decide (d<n):=rfl
@[go_sem] theorem dstOk_none (n:Nat):dstOk none n=true:=rfl
@[go_sem] theorem guardV_none:guardV ops sl none=some true:=rfl
def guardB:V->Bool->Option Bool
 | .sc (.bool b),want=>some (b==want)
 | .tu [],_=>some false
 |_,_=>none
@[go_sem] theorem guardB_bool (b want:Bool):guardB (.sc (.bool b)) want=some (b==want):=rfl
def guardD(d:Option Nat)(sl:List (Nat×V))(want:Bool):Option Bool:=
 match d with
 |some d=>guardB (get sl d) want
 |none=>none
@[go_sem] theorem guardD_some (d:Nat) (want:Bool):guardD (some d) sl want=guardB (get sl d) want:=rfl
@[go_sem] theorem guardV_some (j:Nat) (want:Bool):guardV ops sl (some (j,want))=guardD ((ops[j]?).bind (·.dst)) sl want:=by
 unfold guardV guardD;simp only;cases(ops[j]?).bind (·.dst)with
 |none=>rfl
 |some d=>
  simp only;generalize get sl d=x;unfold guardB;cases x with
  |sc v=>cases v<;>rfl
  |tu l=>cases l<;>rfl
  |_=>rfl
def fin1(g:Option Bool)(r:Option (V×Eff))(d:Option Nat)(s:SS):Option SS:=
 match g with
 |some true=>r.map λp=>s.put d p.1 p.2
 |some false=>some (s.put d (.tu []) .none)
 |none=>none
@[go_sem] theorem fin1_yes (x:V) (f:Eff) (d:Option Nat) (s:SS):fin1 (some true) (some (x,f)) d s=some (s.put d x f):=rfl
@[go_sem] theorem fin1_no (r:Option (V×Eff)) (d:Option Nat) (s:SS):fin1 (some false) r d s=some (s.put d (.tu []) .none):=rfl
@[go_sem] theorem run1_mk (d:Option Tmp) (op:Op) (ty:TypeId) (pos:String) (after:Array Edge) (gd:Option (Nat×Bool)):
  run1 P ops ⟨sl,hp,nx,nt⟩ ⟨d,op,ty,pos,after,gd⟩=if dstOk d nt=true then fin1 (guardV ops sl gd) (exOp P sl hp nx op) d ⟨sl,hp,nx,nt⟩else none:=by
 unfold run1 fin1;rfl
def thenL(P:Program)(ops:Array Oper)(r:Option SS)(l:List Oper):Option SS:=r.bind λs=>runL P ops s l
@[go_sem] theorem thenL_some (s:SS) (l:List Oper):thenL P ops (some s) l=runL P ops s l:=rfl
@[go_sem] theorem runL_nil (s:SS):runL P ops s []=some s:=rfl
@[go_sem] theorem runL_cons (s:SS) (o:Oper) (l:List Oper):runL P ops s (o::l)=thenL P ops (run1 P ops s o) l:=by rw[runL];cases run1 P ops s o<;>rfl
@[go_sem] theorem evS_tmp (t:Nat):evS sl (.tmp t)=get sl t:=rfl
@[go_sem] theorem evS_const (v:Value):evS sl (.const v)=ofV v:=rfl
@[go_sem] theorem evS_func (f:Nat):evS sl (.func f)= .sc (.func (.func f) #[] #[]):=rfl
@[go_sem] theorem ofV_int (k:IntKind) (n:Int):ofV (.int k n)= .sc (.int k n):=rfl
@[go_sem] theorem ofV_bool (b:Bool):ofV (.bool b)= .sc (.bool b):=rfl
@[go_sem] theorem ofV_string (b:ByteArray):ofV (.string b)= .sc (.string b):=rfl
@[go_sem] theorem ofV_slice (a:Option Addr) (l c:Nat):ofV (.slice a l c)= .sc (.slice a l c):=rfl
@[go_sem] theorem ofV_pointer (a:Option Addr):ofV (.pointer a)= .sc (.pointer a):=rfl
@[go_sem] theorem ofV_nilFunc:ofV .nilFunc= .sc .nilFunc:=rfl
def withE(o:Option V):Option (V×Eff):=o.map (·,.none)
@[go_sem] theorem withE_some (x:V):withE (some x)=some (x,.none):=rfl
@[go_sem] theorem exOp_move (x:Operand):exOp P sl hp nx (.move x)=some (evS sl x,.none):=rfl
@[go_sem] theorem exOp_assign (x:Operand):exOp P sl hp nx (.assign x)=some (evS sl x,.none):=rfl
@[go_sem] theorem exOp_pick (c a b:Operand):exOp P sl hp nx (.pick c a b)=withE (exPick (evS sl c) (evS sl a) (evS sl b)):=rfl
def withN(o:Option Blk)(nx:Nat):Option (V×Eff):=o.map (.pt nx 0,.new ·)
@[go_sem] theorem withN_some (k:Blk):withN (some k) nx=some (.pt nx 0,.new k):=rfl
@[go_sem] theorem exOp_alloc (t:Nat):exOp P sl hp nx (.alloc t)=withN (exAlloc P t) nx:=rfl
@[go_sem] theorem exOp_box (t:Nat) (x:Operand):exOp P sl hp nx (.box t x)=withN (exBox t (evS sl x)) nx:=rfl
@[go_sem] theorem exOp_build (t:Nat) (l:List (Nat×Operand)):exOp P sl hp nx (.build t l.toArray)=withE (exBuild P t (l.map λp=>(p.1,evS sl p.2))):=rfl
@[go_sem] theorem exOp_buildSlice (t n:Nat) (l:List (Nat×Operand)):exOp P sl hp nx (.buildSlice t n l.toArray)=exBuildSlice P t nx n (l.map λp=>(p.1,evS sl p.2)):=rfl
@[go_sem] theorem exOp_load (t:Nat) (a:Operand):exOp P sl hp nx (.load t a)=withE (exLoad P hp t (evS sl a)):=rfl
def withS(o:Option Eff):Option (V×Eff):=o.map (.junk,·)
@[go_sem] theorem withS_some (f:Eff):withS (some f)=some (.junk,f):=rfl
@[go_sem] theorem exOp_store (t:Nat) (a x:Operand):exOp P sl hp nx (.store t a x)=withS (exStore P hp t (evS sl a) (evS sl x)):=rfl
@[go_sem] theorem exOp_nilCheck (x:Operand):exOp P sl hp nx (.nilCheck x)=withE (exNil (evS sl x)):=rfl
@[go_sem] theorem exOp_bin (o:BinOp) (t:Nat) (x y:Operand) (u:Nat):exOp P sl hp nx (.binOp o t x y u)=withE (exBin P o t (evS sl x) (evS sl y)):=rfl
@[go_sem] theorem exOp_un (o:UnOp) (t:Nat) (x:Operand):exOp P sl hp nx (.unOp o t x)=withE (exUn o (evS sl x)):=rfl
@[go_sem] theorem exOp_conv (a b:Nat) (x:Operand):exOp P sl hp nx (.convert a b x)=withE (exConvH P hp a b (evS sl x)):=rfl
@[go_sem] theorem exOp_makeFunc (f:Fn) (p q:List Operand):exOp P sl hp nx (.makeFunc f p.toArray q.toArray)=some (.fn f (p.map (evS sl)) (q.map (evS sl)),.none):=rfl
@[go_sem] theorem exOp_makeSlice (t:Nat) (l c:Operand):exOp P sl hp nx (.makeSlice t l c)=exMake P t nx (evS sl l) (evS sl c):=rfl
@[go_sem] theorem exOp_slice (t:Nat) (x:Operand) (a b c:Option Operand):exOp P sl hp nx (.slice t x a b c)=withE (exSlice P hp t (evS sl x) (a.map (evS sl)) (b.map (evS sl)) (c.map (evS sl))):=rfl
@[go_sem] theorem exOp_fieldAddr (t:Nat) (x:Operand) (f:Nat):exOp P sl hp nx (.fieldAddr t x f)=withE (exFieldAddr P t f (evS sl x)):=rfl
@[go_sem] theorem exOp_field (t:Nat) (x:Operand) (f:Nat):exOp P sl hp nx (.field t x f)=withE (exField P t f (evS sl x)):=rfl
@[go_sem] theorem exOp_indexAddr (t:Nat) (x i:Operand):exOp P sl hp nx (.indexAddr t x i)=withE (exIndexAddr P t (evS sl x) (evS sl i)):=rfl
@[go_sem] theorem exOp_index (t:Nat) (x i:Operand):exOp P sl hp nx (.index t x i)=withE (exIndex P t (evS sl x) (evS sl i)):=rfl
@[go_sem] theorem exOp_extract (t:Operand) (i:Nat):exOp P sl hp nx (.extract t i)=withE (exExtract i (evS sl t)):=rfl
@[go_sem] theorem exOp_builtin (b:Builtin) (l:List Operand) (ts:List TypeId):exOp P sl hp nx (.call ⟨.builtin b,l.toArray,ts.toArray⟩)=exBuiltin P hp nx b ts (l.map (evS sl)):=rfl
@[go_sem] theorem exBuiltin_len (t:TypeId) (x:V):exBuiltin P hp nx .len [t] [x]=withE (exLen P t x):=rfl
@[go_sem] theorem exBuiltin_append (t t':TypeId) (s x:V):exBuiltin P hp nx .append [t,t'] [s,x]=if t=t' then exAppend P hp nx t s x else exAppendZ P nx t t' s x:=rfl
@[go_sem] theorem exBuiltin_cap (t:TypeId) (x:V):exBuiltin P hp nx .cap [t] [x]=withE (exCap P t x):=rfl
@[go_sem] theorem exCap_sl (t id off len z c:Nat):exCap P t (.sl id off len z (some c))=(slOf P t).bind λ_=>some (.sc (.int .i64 c)):=by unfold exCap;cases slOf P t<;>rfl
@[go_sem] theorem exBuiltin_clear (t:TypeId) (x:V):exBuiltin P hp nx .clear [t] [x]=exClear P hp t x:=rfl
def clG(id off dlen:Nat)(zc:List Value):Option Blk->Option (V×Eff)
 |some k=>if zc.length=1/\k.fz=false/\off+dlen<=k.cs.length/\(zc.map V.sc).all V.one=true then some (.tu [],.set id ⟨k.ty,setAll k.cs off (List.replicate dlen (.sc (zc.headD undef))),false⟩)else none
 |none=>none
@[go_sem] theorem clG_some (id off dlen ty:Nat) (zc:List Value) (cs:List V):clG id off dlen zc (some ⟨ty,cs,false⟩)=if zc.length=1/\off+dlen<=cs.length/\(zc.map V.sc).all V.one=true then some (.tu [],.set id ⟨ty,setAll cs off (List.replicate dlen (.sc (zc.headD undef))),false⟩)else none:=by simp[clG]
@[go_sem] theorem exClear_sl (t id off dlen:Nat) (c:Option Nat):exClear P hp t (.sl id off dlen 1 c)=(mkOf P t).bind λ(_,_,zc)=>clG id off dlen zc (hget hp id):=by
 cases h1:mkOf P t with
 |none=>simp[exClear,h1]
 |some p=>
  obtain⟨a,b,zc⟩:=p;cases h2:hget hp id<;>simp[exClear,h1,h2,clG]
@[go_sem] theorem exBuiltin_min (ts:List TypeId) (s x:V):exBuiltin P hp nx .min ts [s,x]=withE (exMin s x):=rfl
@[go_sem] theorem exBuiltin_max (ts:List TypeId) (s x:V):exBuiltin P hp nx .max ts [s,x]=withE (exMax s x):=rfl
@[go_sem] theorem exPick_bool (t:Bool) (a b:V):exPick (.sc (.bool t)) a b=some (if t=true then a else b):=rfl
@[go_sem] theorem vcells_ag (cs:List V):vcells (.ag cs)=some cs:=rfl
@[go_sem] theorem vcells_int (k:IntKind) (n:Int):vcells (.sc (.int k n))=some [.sc (.int k n)]:=rfl
@[go_sem] theorem vcells_bool (b:Bool):vcells (.sc (.bool b))=some [.sc (.bool b)]:=rfl
@[go_sem] theorem vcells_func (f:Fn) (p q:Array Value):vcells (.sc (.func f p q))=some [.sc (.func f p q)]:=rfl
@[go_sem] theorem vcells_sl (id off n z:Nat) (c:Option Nat):vcells (.sl id off n z c)=some [.sl id off n z c]:=rfl
@[go_sem] theorem vcells_im (cs:List V) (n:Nat):vcells (.im cs n)=some [.im cs n]:=rfl
def boxOf(o:Option (List V))(t:Nat):Option Blk:=o.map λcs=>⟨t,cs,false⟩
@[go_sem] theorem boxOf_some (cs:List V) (t:Nat):boxOf (some cs) t=some ⟨t,cs,false⟩:=rfl
@[go_sem] theorem exBox_eq (t:Nat) (x:V):exBox t x=boxOf (vcells x) t:=rfl
def allocOf(o:Option Value)(t:Nat):Option Blk:=o.map λz=>⟨t,z.cells.toList.map .sc,false⟩
@[go_sem] theorem allocOf_agg (l:List Value) (t:Nat):allocOf (some (.agg l.toArray)) t=some ⟨t,l.map .sc,false⟩:=rfl
@[go_sem] theorem allocOf_int (k:IntKind) (n:Int) (t:Nat):allocOf (some (.int k n)) t=some ⟨t,[.sc (.int k n)],false⟩:=rfl
@[go_sem] theorem allocOf_slice (a:Option Addr) (n c t:Nat):allocOf (some (.slice a n c)) t=some ⟨t,[.sc (.slice a n c)],false⟩:=rfl
@[go_sem] theorem exAlloc_eq (t:Nat):exAlloc P t=allocOf (zeroOf P t) t:=rfl
def ldK(P:Program)(t:Nat)(off:Nat):Option Blk->Option V
 |some k=>ldV P t k.cs off
 |none=>none
@[go_sem] theorem ldK_some (t ty off:Nat) (cs:List V) (fz:Bool):ldK P t off (some ⟨ty,cs,fz⟩)=ldV P t cs off:=rfl
@[go_sem] theorem exLoad_pt (t id off:Nat):exLoad P hp t (.pt id off)=ldK P t off (hget hp id):=by simp only[exLoad];cases hget hp id<;>rfl
@[go_sem] theorem exLoad_pi (t:Nat) (cs:List V):exLoad P hp t (.pi cs)=ldV P t cs 0:=rfl
def ldG(a:Option Bool)(z:Option Nat)(cs:List V)(off:Nat):Option V:=
 match a,z with
 |some true,some n=>if off+n<=cs.length then some (.ag ((cs.drop off).take n))else none
 |some false,some _=>cs[off]?
 |_,_=>none
@[go_sem] theorem ldV_eq (t:Nat) (cs:List V) (off:Nat):ldV P t cs off=ldG (aggOf P t) (szOf P t) cs off:=rfl
@[go_sem] theorem ldG_one (z:Nat) (cs:List V) (off:Nat):ldG (some false) (some z) cs off=cs[off]? :=rfl
@[go_sem] theorem ldG_agg (z:Nat) (cs:List V) (off:Nat):ldG (some true) (some z) cs off=if off+z<=cs.length then some (.ag ((cs.drop off).take z))else none:=rfl
def stG(id off:Nat)(k:Option Blk)(z:Option Nat)(xs:Option (List V)):Option Eff:=
 match k,z,xs with
 |some k,some z,some xs=>if k.fz=false/\z=xs.length/\off+xs.length<=k.cs.length/\xs.all V.one=true then some (.set id ⟨k.ty,setAll k.cs off xs,false⟩)else none
 |_,_,_=>none
@[go_sem] theorem stG_some (id off ty z:Nat) (cs xs:List V):stG id off (some ⟨ty,cs,false⟩) (some z) (some xs)=if z=xs.length/\off+xs.length<=cs.length/\xs.all V.one=true then some (.set id ⟨ty,setAll cs off xs,false⟩)else none:=by simp[stG]
@[go_sem] theorem exStore_pt (t id off:Nat) (x:V):exStore P hp t (.pt id off) x=stG id off (hget hp id) (szOf P t) (vcells x):=by simp only[exStore];cases hget hp id<;>cases szOf P t<;>cases vcells x<;>simp[stG]
@[go_sem] theorem setAll_nil (cs:List V) (off:Nat):setAll cs off []=cs:=rfl
@[go_sem] theorem setAll_cons (cs:List V) (off:Nat) (x:V) (r:List V):setAll cs off (x::r)=setAll (cs.set off x) (off+1) r:=rfl
@[go_sem] theorem one_int (k:IntKind) (n:Int):V.one (.sc (.int k n))=true:=rfl
@[go_sem] theorem one_bool (b:Bool):V.one (.sc (.bool b))=true:=rfl
@[go_sem] theorem one_slice (a:Option Addr) (n c:Nat):V.one (.sc (.slice a n c))=true:=rfl
@[go_sem] theorem one_func (f:Fn) (p q:Array Value):V.one (.sc (.func f p q))=true:=rfl
@[go_sem] theorem one_nilFunc:V.one (.sc .nilFunc)=true:=rfl
@[go_sem] theorem one_sl (id off n z:Nat) (c:Option Nat):V.one (.sl id off n z c)=true:=rfl
@[go_sem] theorem one_im (cs:List V) (n:Nat):V.one (.im cs n)=true:=rfl
def paG(a:Option Bool)(z:Option Nat)(cs:List V)(off:Nat):Option V:=
 match a,z with
 |some true,some n=>some (.ag ((cs.drop off).take n))
 |some false,some _=>cs[off]?
 |_,_=>none
@[go_sem] theorem partV_eq (t:Nat) (cs:List V) (off:Nat):partV P t cs off=paG (aggOf P t) (szOf P t) cs off:=rfl
@[go_sem] theorem paG_one (z:Nat) (cs:List V) (off:Nat):paG (some false) (some z) cs off=cs[off]? :=rfl
@[go_sem] theorem paG_agg (z:Nat) (cs:List V) (off:Nat):paG (some true) (some z) cs off=some (.ag ((cs.drop off).take z)):=rfl
@[go_sem] theorem exField_ag (T f:Nat) (cs:List V):exField P T f (.ag cs)=(fldOf P T f).bind λ(o,t,_)=>partV P t cs o:=rfl
@[go_sem] theorem exFieldAddr_pt (T f id off:Nat):exFieldAddr P T f (.pt id off)=(fldOf P T f).bind λ(o,_,z)=>if z=0 then none else some (.pt id (off+o)):=rfl
@[go_sem] theorem exFieldAddr_pi (T f:Nat) (cs:List V):exFieldAddr P T f (.pi cs)=(fldOf P T f).bind λ(o,_,z)=>if z=0 then none else some (.pi (cs.drop o)):=rfl
@[go_sem] theorem exIndexAddr_sl (T id off len z:Nat) (c:Option Nat) (k:IntKind) (n:Int):exIndexAddr P T (.sl id off len z c) (.sc (.int k n))=(slOf P T).bind λ(_,z)=>if 0<=n/\n<len then some (.pt id (off+n.toNat*z))else none:=rfl
@[go_sem] theorem exIndexAddr_im (T len:Nat) (cs:List V) (k:IntKind) (n:Int):exIndexAddr P T (.im cs len) (.sc (.int k n))=(slOf P T).bind λ(_,z)=>if 0<=n/\n<len/\n.toNat*z<cs.length then some (.pi (cs.drop (n.toNat*z)))else none:=rfl
@[go_sem] theorem exIndexAddr_pt (T id off:Nat) (k:IntKind) (n:Int):exIndexAddr P T (.pt id off) (.sc (.int k n))=(arOf P T).bind λ(len,_,z)=>if 0<=n/\n<len then some (.pt id (off+n.toNat*z))else none:=rfl
@[go_sem] theorem exIndex_ag (T:Nat) (cs:List V) (k:IntKind) (n:Int):exIndex P T (.ag cs) (.sc (.int k n))=(arOf P T).bind λ(len,e,z)=>if 0<=n/\n<len then partV P e cs (n.toNat*z)else none:=rfl
@[go_sem] theorem exExtract_tu (i:Nat) (cs:List V):exExtract i (.tu cs)=cs[i]? :=rfl
@[go_sem] theorem exNil_pt (id off:Nat):exNil (.pt id off)=some (.pt id off):=rfl
def scO(o:Option Value):Option V:=o.map .sc
section
variable (k:IntKind) (a b:Int) (t:Nat)
@[go_sem] theorem bin_add:exBin P .add t (.sc (.int k a)) (.sc (.int k b))=some (.sc (.int k (k.wrap (a+b)))):=by simp[exBin,binI]
@[go_sem] theorem bin_sub:exBin P .sub t (.sc (.int k a)) (.sc (.int k b))=some (.sc (.int k (k.wrap (a-b)))):=by simp[exBin,binI]
@[go_sem] theorem bin_mul:exBin P .mul t (.sc (.int k a)) (.sc (.int k b))=some (.sc (.int k (k.wrap (a*b)))):=by simp[exBin,binI]
@[go_sem] theorem bin_quo:exBin P .quo t (.sc (.int k a)) (.sc (.int k b))=if b=0 then none else some (.sc (.int k (k.wrap (a.tdiv b)))):=by simp[exBin,binI];split<;>rfl
@[go_sem] theorem bin_rem:exBin P .rem t (.sc (.int k a)) (.sc (.int k b))=if b=0 then none else some (.sc (.int k (a.tmod b))):=by simp[exBin,binI];split<;>rfl
@[go_sem] theorem bin_and:exBin P .and t (.sc (.int k a)) (.sc (.int k b))=some (.sc (.int k (bits .and k a b))):=by simp[exBin,binI,bits]
@[go_sem] theorem bin_or:exBin P .or t (.sc (.int k a)) (.sc (.int k b))=some (.sc (.int k (bits .or k a b))):=by simp[exBin,binI,bits]
@[go_sem] theorem bin_eql:exBin P .eql t (.sc (.int k a)) (.sc (.int k b))=some (.sc (.bool (a==b))):=by simp[exBin,binI]
@[go_sem] theorem bin_neq:exBin P .neq t (.sc (.int k a)) (.sc (.int k b))=some (.sc (.bool (a !=b))):=by simp[exBin,binI]
@[go_sem] theorem bin_lss:exBin P .lss t (.sc (.int k a)) (.sc (.int k b))=some (.sc (.bool (decide (a<b)))):=by simp[exBin,binI]
@[go_sem] theorem bin_leq:exBin P .leq t (.sc (.int k a)) (.sc (.int k b))=some (.sc (.bool (decide (a<=b)))):=by simp[exBin,binI]
@[go_sem] theorem bin_gtr:exBin P .gtr t (.sc (.int k a)) (.sc (.int k b))=some (.sc (.bool (decide (b<a)))):=by simp[exBin,binI]
@[go_sem] theorem bin_geq:exBin P .geq t (.sc (.int k a)) (.sc (.int k b))=some (.sc (.bool (decide (b<=a)))):=by simp[exBin,binI]
@[go_sem] theorem bin_shl (k':IntKind):exBin P .shl t (.sc (.int k a)) (.sc (.int k' b))=if b<0 then none else some (.sc (.int k (k.wrap (a*2^min b.toNat k.bits)))):=by simp[exBin,shI];split<;>rfl
@[go_sem] theorem bin_shr (k':IntKind):exBin P .shr t (.sc (.int k a)) (.sc (.int k' b))=if b<0 then none else some (.sc (.int k (a.fdiv (2^min b.toNat k.bits)))):=by simp[exBin,shI];split<;>rfl
@[go_sem] theorem bin_beql (x y:Bool):exBin P .eql t (.sc (.bool x)) (.sc (.bool y))=if isBool P t=true then some (.sc (.bool (x==y)))else none:=rfl
@[go_sem] theorem bin_bneq (x y:Bool):exBin P .neq t (.sc (.bool x)) (.sc (.bool y))=if isBool P t=true then some (.sc (.bool (x !=y)))else none:=rfl
def arrR:BinOp->Bool->Option V
 | .eql,b=>some (.sc (.bool b))
 | .neq,b=>some (.sc (.bool !b))
 |_,_=>none
@[go_sem] theorem arrR_neq (b:Bool):arrR .neq b=some (.sc (.bool !b)):=rfl
def arrL(op:BinOp)(n z:Nat):Option (List Int)->Option (List Int)->Option V
 |some l,some m=>if z=1/\l.length=n/\m.length=n then arrR op (decide (l=m))else none
 |_,_=>none
@[go_sem] theorem arrL_some (op:BinOp) (n z:Nat) (l m:List Int):arrL op n z (some l) (some m)=if z=1/\l.length=n/\m.length=n then arrR op (decide (l=m))else none:=rfl
def arrI(op:BinOp)(n z:Nat)(cs ds:List V):Option IntKind->Option V
 |some k=>arrL op n z (intsOf k cs) (intsOf k ds)
 |none=>none
@[go_sem] theorem arrI_some (op:BinOp) (n z:Nat) (cs ds:List V) (k:IntKind):arrI op n z cs ds (some k)=arrL op n z (intsOf k cs) (intsOf k ds):=rfl
def arrG(P:Program)(op:BinOp)(cs ds:List V):Option (Nat×TypeId×Nat)->Option V
 |some (n,e,z)=>arrI op n z cs ds (intOf' P e)
 |none=>none
@[go_sem] theorem arrG_some (op:BinOp) (cs ds:List V) (n z e:Nat):arrG P op cs ds (some (n,e,z))=arrI op n z cs ds (intOf' P e):=rfl
@[go_sem] theorem bin_arr (op:BinOp) (cs ds:List V):exBin P op t (.ag cs) (.ag ds)=arrG P op cs ds (arOf P t):=by
 show arrB P op t cs ds=_;unfold arrB arrG;cases arOf P t with
 |none=>rfl
 | some p=>
  obtain⟨n,e,z⟩:=p;simp only[Option.bind_some];unfold arrI;cases intOf' P e with
  |none=>rfl
  | some k=>
   simp only[Option.bind_some];unfold arrL;cases intsOf k cs with
   |none=>rfl
   |some l=>
    simp only[Option.bind_some];cases intsOf k ds with
    |none=>rfl
    |some m=>simp only[Option.bind_some];split<;>first|rfl|(cases op<;>rfl)
def consI(n:Int):Option (List Int)->Option (List Int)
 |some l=>some (n::l)
 |none=>none
@[go_sem] theorem consI_some (n:Int) (l:List Int):consI n (some l)=some (n::l):=rfl
@[go_sem] theorem intsOf_nil (k:IntKind):intsOf k []=some []:=rfl
@[go_sem] theorem intsOf_cons (k:IntKind) (n:Int) (r:List V):intsOf k (.sc (.int k n)::r)=consI n (intsOf k r):=by show(if k=k then(intsOf k r).map (n:: ·)else none)=_;rw[if_pos rfl];cases intsOf k r<;>rfl
@[go_sem] theorem bin_im_nil (o:BinOp) (cs:List V) (n:Nat):exBin P o t (.im cs n) (.sc (.slice none 0 0))=if isSl P t=true/\0<n then nilB o false else none:=rfl
@[go_sem] theorem nilB_eql (b:Bool):nilB .eql b=some (.sc (.bool b)):=rfl
@[go_sem] theorem un_neg:exUn .neg (.sc (.int k a))=some (.sc (.int k (k.wrap (0-a)))):=rfl
@[go_sem] theorem un_not (x:Bool):exUn .not (.sc (.bool x))=some (.sc (.bool !x)):=rfl
def cvG(h:Bool)(k:Option IntKind)(n:Int):Option V:=if h then k.map λk=> .sc (.int k (k.wrap n))else none
@[go_sem] theorem cvG_some:cvG true (some k) a=some (.sc (.int k (k.wrap a))):=rfl
@[go_sem] theorem exConv_int {hp:List (Nat×Blk)} (s d:Nat):exConvH P hp s d (.sc (.int k a))=cvG (hasT P s) (intOf' P d) a:=rfl
@[go_sem] theorem exMin_int (k':IntKind):exMin (.sc (.int k a)) (.sc (.int k' b))=some (.sc (.int k (if b<a then b else a))):=rfl
@[go_sem] theorem exMax_int (k':IntKind):exMax (.sc (.int k a)) (.sc (.int k' b))=some (.sc (.int k (if b>a then b else a))):=rfl
end
def plG(o:Option (List Value×Pl))(parts:List (Nat×V)):Option V:=
 match o with
 |some (z,pl)=>(exFill pl (z.map .sc) parts).map .ag
 |none=>none
def agO(o:Option (List V)):Option V:=o.map .ag
@[go_sem] theorem agO_some (cs:List V):agO (some cs)=some (.ag cs):=rfl
@[go_sem] theorem plG_some (z:List Value) (pl:Pl) (parts:List (Nat×V)):plG (some (z,pl)) parts=agO (exFill pl (z.map .sc) parts):=rfl
@[go_sem] theorem exBuild_eq (t:Nat) (parts:List (Nat×V)):exBuild P t parts=plG (plOf P t) parts:=rfl
def fillG(pl:Pl)(p:Option (Nat×Nat))(xs:Option (List V))(cs:List V)(r:List (Nat×V)):Option (List V):=
 match p,xs with
 |some (off,sz),some xs=>if xs.length=sz/\off+xs.length<=cs.length then exFill pl (setAll cs off xs) r else none
 |_,_=>none
@[go_sem] theorem fillG_some (pl:Pl) (off sz:Nat) (xs cs:List V) (r:List (Nat×V)):fillG pl (some (off,sz)) (some xs) cs r=if xs.length=sz/\off+xs.length<=cs.length then exFill pl (setAll cs off xs) r else none:=rfl
@[go_sem] theorem exFill_nil (pl:Pl) (cs:List V):exFill pl cs []=some cs:=rfl
@[go_sem] theorem exFill_cons (pl:Pl) (cs:List V) (i:Nat) (x:V) (r:List (Nat×V)):exFill pl cs ((i,x)::r)=fillG pl (pl.at i) (vcells x) cs r:=by rw[exFill];cases pl.at i<;>cases vcells x<;>rfl
@[go_sem] theorem at_st (l:List (Nat×Nat)) (i:Nat):(Pl.st l).at i=l[i]? :=rfl
@[go_sem] theorem at_ar (z i:Nat):(Pl.ar z).at i=some (i*z,z):=rfl
def bsG(e nx len z:Nat)(o:Option (List V)):Option (V×Eff):=o.map λcs=>(.sl nx 0 len z (some len),.new ⟨e,cs,false⟩)
def cons2(z:Nat):Option (List V)->Option (List V)->Option (List V)
 |some xs,some l=>if xs.length=z then some (xs++l)else none
 |_,_=>none
@[go_sem] theorem cons2_some (z:Nat) (xs l:List V):cons2 z (some xs) (some l)=if xs.length=z then some (xs++l)else none:=rfl
def consec(z:Nat):Nat->List (Nat×V)->Option (List V)
 |_,[]=>some []
 |k,(i,x)::r=>if i=k then cons2 z (vcells x) (consec z (k+1) r)else none
@[go_sem] theorem consec_nil (z k:Nat):consec z k []=some []:=rfl
@[go_sem] theorem consec_cons (z k i:Nat) (x:V) (r:List (Nat×V)):consec z k ((i,x)::r)=if i=k then cons2 z (vcells x) (consec z (k+1) r)else none:=rfl
theorem setAll_mid: ∀(xs ys pre rest:List V),xs.length=ys.length->setAll (pre++(ys++rest)) pre.length xs=(pre++xs)++rest
 |[],[],pre,rest,_=>by simp[setAll]
 |x::xs,y::ys,pre,rest,h=>by have ih:=setAll_mid xs ys (pre++ [x]) rest (by simpa using h);show setAll ((pre++(y::ys++rest)).set pre.length x) (pre.length+1) xs=_;rw[zl8,List.set_append_right _ _ (znb _),Nat.sub_self,List.set_cons_zero];rw[zl1,List.length_singleton]at ih;simpa using ih
theorem reps_zero(zc:List V):reps 0 zc=[]:=by unfold reps;split<;>simp
theorem reps_succ(n:Nat)(zc:List V):reps (n+1) zc=zc++reps n zc:=by
 unfold reps;split;·rw[List.replicate_succ];rfl
 ·rw[List.replicate_succ,List.flatten_cons]
theorem consec_fill{z:Nat}{zc:List V}(hz:zc.length=z): ∀(parts:List (Nat×V)) (k:Nat) (l pre:List V),consec z k parts=some l->pre.length=k*z->exFill (.ar z) (pre++reps parts.length zc) parts=some (pre++l)
 |[],k,l,pre,h,_=>by cases h;rw[List.length_nil,reps_zero];rfl
 | (i,x)::r,k,l,pre,h,hp=>by
  rw[consec_cons]at h;split at h
  ·rename_i e;subst e;cases hv:vcells x with
   |none=>rw[hv]at h;cases hc:consec z (i+1) r<;>rw[hc]at h<;>cases h
   | some xs=>
    cases hc:consec z (i+1) r with
    |none=>rw[hv,hc]at h;cases h
    | some l'=>
     rw[hv,hc,cons2_some]at h;split at h
     ·rename_i hx;cases h;have hr:reps ((i,x)::r).length zc=zc++reps r.length zc:=reps_succ _ _;have hm:=setAll_mid xs zc pre (reps r.length zc) (hx.trans hz.symm);rw[exFill_cons,hv,at_ar,fillG_some,if_pos ⟨hx,by rw[hr,zl1,zl1];omega⟩,hr,<-hp,hm,consec_fill hz r (i+1) l' (pre++xs) hc (by rw[zl1,hp,hx,Nat.add_mul,zna]),zl6]
     ·cases h
  ·cases h
def bsN(e nx len:Nat)(zc:List Value)(parts:List (Nat×V)):Option (List V)->Option (V×Eff)
 |some l=>if parts.length=len then some (.sl nx 0 len zc.length (some len),.new ⟨e,l,false⟩)else bsG e nx len zc.length (exFill (.ar zc.length) (reps len (zc.map .sc)) parts)
 |none=>bsG e nx len zc.length (exFill (.ar zc.length) (reps len (zc.map .sc)) parts)
@[go_sem] theorem bsN_some (e nx len:Nat) (zc:List Value) (parts:List (Nat×V)) (l:List V):bsN e nx len zc parts (some l)=if parts.length=len then some (.sl nx 0 len zc.length (some len),.new ⟨e,l,false⟩)else bsG e nx len zc.length (exFill (.ar zc.length) (reps len (zc.map .sc)) parts):=rfl
@[go_sem] theorem exBuildSlice_eq (t len:Nat) (parts:List (Nat×V)):exBuildSlice P t nx len parts=(mkOf P t).bind λ(e,_,zc)=>if len*zc.length<=16777216 then bsN e nx len zc parts (consec zc.length 0 parts)else none:=by
 unfold exBuildSlice;congr 1;funext p;obtain⟨e,b,zc⟩:=p;simp only;congr 1;cases hc:consec zc.length 0 parts with
 |none=>rfl
 | some l=>
  rw[bsN_some];split
  ·rename_i hl;have:=consec_fill (z:=zc.length) (zc:=zc.map .sc) (by simp) parts 0 l [] hc (by simp);rw[zl7,hl]at this;rw[this];rfl
  ·rfl
@[go_sem] theorem reps_one (m:Nat) (x:V):reps m [x]=List.replicate m x:=rfl
@[go_sem] theorem reps_two (m:Nat) (x y:V):reps m [x,y]=(List.replicate m [x,y]).flatten:=rfl
@[go_sem] theorem exMake_eq (t:Nat) (k k':IntKind) (l c:Int):exMake P t nx (.sc (.int k l)) (.sc (.int k' c))=(mkOf P t).bind λ(e,b,zc)=>if 0<=l/\l<=c/\c<1125899906842624/\b*c<=140737488355328 then some (.sl nx 0 l.toNat zc.length (some c.toNat),.new ⟨e,reps c.toNat (zc.map .sc),false⟩)else none:=rfl
@[go_sem] theorem exLen_sl (t id off len z:Nat) (c:Option Nat):exLen P t (.sl id off len z c)=(slOf P t).bind λ_=>some (.sc (.int .i64 len)):=rfl
@[go_sem] theorem exLen_im (t len:Nat) (cs:List V):exLen P t (.im cs len)=(slOf P t).bind λ_=>some (.sc (.int .i64 len)):=rfl
@[go_sem] theorem lowV_none:lowV none=some 0:=rfl
@[go_sem] theorem lowV_int (k:IntKind) (n:Int):lowV (some (.sc (.int k n)))=if 0<=n then some n.toNat else none:=rfl
@[go_sem] theorem highV_none (len:Nat):highV len none=some len:=rfl
@[go_sem] theorem highV_int (len:Nat) (k:IntKind) (n:Int):highV len (some (.sc (.int k n)))=if 0<=n then some n.toNat else none:=rfl
def bdG(l h:Option Nat)(ub:Nat):Option (Nat×Nat×Option Nat):=l.bind λl=>h.bind λh=>if l<=h/\h<=ub then some (l,h,none)else none
@[go_sem] theorem bdG_some (l h ub:Nat):bdG (some l) (some h) ub=if l<=h/\h<=ub then some (l,h,none)else none:=rfl
@[go_sem] theorem boundsV_two (len ub:Nat) (lo hi:Option V):boundsV len ub lo hi none=bdG (lowV lo) (highV len hi) ub:=rfl
def bdM(l h:Option Nat)(ub:Nat)(m:Int):Option (Nat×Nat×Option Nat):=l.bind λl=>h.bind λh=>if 0<=m/\l<=h/\h<=m.toNat/\m.toNat<=ub then some (l,h,some m.toNat)else none
@[go_sem] theorem bdM_some (l h ub:Nat) (m:Int):bdM (some l) (some h) ub m=if 0<=m/\l<=h/\h<=m.toNat/\m.toNat<=ub then some (l,h,some m.toNat)else none:=rfl
@[go_sem] theorem boundsV_three (len ub:Nat) (lo:Option V) (hi:V) (k:IntKind) (m:Int):boundsV len ub lo (some hi) (some (.sc (.int k m)))=bdM (lowV lo) (highV len (some hi)) ub m:=by simp only[boundsV,bdM];cases lowV lo<;>cases highV len (some hi)<;>simp[intV]
def capOf(len:Nat):Option Nat->Nat
 |some c=>c
 |none=>len
@[go_sem] theorem capOf_some (len c:Nat):capOf len (some c)=c:=rfl
@[go_sem] theorem capOf_none (len:Nat):capOf len none=len:=rfl
def capG(l:Nat)(m cap:Option Nat):Option Nat:=
 match m with
 |some m=>some (m-l)
 |none=>cap.map (· -l)
@[go_sem] theorem capG_some (l m:Nat) (cap:Option Nat):capG l (some m) cap=some (m-l):=rfl
@[go_sem] theorem capG_cap (l c:Nat):capG l none (some c)=some (c-l):=rfl
@[go_sem] theorem capG_none (l:Nat):capG l none none=none:=rfl
@[go_sem] theorem exSlice_sl (t id off len z:Nat) (cap:Option Nat) (lo hi mx:Option V):exSlice P hp t (.sl id off len z cap) lo hi mx=(slOf P t).bind λ(_,z')=>(boundsV len (capOf len cap) lo hi mx).bind λ(l,h,m)=>
  if z'=z then(if l=0\/l<h then some (.sl id (off+l*z) (h-l) z (capG l m cap))else some (.im [] (h-l)))else none:=by
 cases cap<;>rfl
@[go_sem] theorem exSlice_im (t len:Nat) (cs:List V) (lo hi mx:Option V):exSlice P hp t (.im cs len) lo hi mx=(slOf P t).bind λ(_,z)=>(boundsV len len lo hi mx).bind λ(l,h,_)=>some (.im ((cs.drop (l*z)).take ((h-l)*z)) (h-l)):=rfl
def blkLen:Option Blk->Option Nat
 |some k=>some k.cs.length
 |none=>none
@[go_sem] theorem exSlice_pt (t id off:Nat) (lo hi mx:Option V):exSlice P hp t (.pt id off) lo hi mx=(arOf P t).bind λ(n,_,z)=>(blkLen (hget hp id)).bind λkl=>(boundsV n n lo hi mx).bind λ(l,h,m)=>
  if off+n*z<=kl/\n<=maxLen/\(l=0\/l<h)then some (.sl id (off+l*z) (h-l) z (some (capOf n m-l)))else none:=by
 simp only[exSlice];cases arOf P t with
 |none=>rfl
 | some p=>
  cases hget hp id with
  |none=>rfl
  |some k=>
   obtain⟨n,e,z⟩:=p;simp only[Option.bind_some];cases boundsV n n lo hi mx with
   |none=>rfl
   |some q=>obtain⟨l,h,m⟩:=q;cases m<;>rfl
def srcG(off len z:Nat):Option Blk->Option (List V×Nat)
 |some k=>if off+len*z<=k.cs.length then some ((k.cs.drop off).take (len*z),len)else none
 |none=>none
@[go_sem] theorem srcG_some (off len z ty:Nat) (cs:List V) (fz:Bool):srcG off len z (some ⟨ty,cs,fz⟩)=if off+len*z<=cs.length then some ((cs.drop off).take (len*z),len)else none:=rfl
@[go_sem] theorem srcV_sl (id off len z:Nat) (c:Option Nat):srcV hp (.sl id off len z c)=srcG off len z (hget hp id):=by simp only[srcV];cases hget hp id<;>rfl
@[go_sem] theorem srcV_im (len:Nat) (cs:List V):srcV hp (.im cs len)=some (cs,len):=rfl
def apG(nx e by' id off n z lz m:Nat)(ys:List V):Option Blk->Option (V×Eff)
 |some k=>if off=0/\z=lz/\k.fz=false/\k.ty=e/\n*z<=k.cs.length/\n+m<1125899906842624/\(n+m)*by'<=140737488355328 then some (.sl nx 0 (n+m) z none,.app id ⟨e,k.cs.take (n*z)++ys,false⟩)else none
 |none=>none
@[go_sem] theorem apG_some (e by' id off n z lz m ty:Nat) (ys cs:List V):apG nx e by' id off n z lz m ys (some ⟨ty,cs,false⟩)=if off=0/\z=lz/\ty=e/\n*z<=cs.length/\n+m<1125899906842624/\(n+m)*by'<=140737488355328 then some (.sl nx 0 (n+m) z none,.app id ⟨e,cs.take (n*z)++ys,false⟩)else none:=by simp[apG]
def apF(hp:List (Nat×Blk))(nx:Nat)(o:Option (TypeId×Nat×List Value))(q:Option (List V×Nat))(s:V):Option (V×Eff):=
 o.bind λ(e,by',zc)=>q.bind λ(ys,m)=>
  if ys.length=m*zc.length/\ys.all V.one=true then
   match s with
   | .sl id off n z _=>(hget hp id).bind λk=>
    if off=0/\z=zc.length/\k.fz=false/\k.ty=e/\n*z<=k.cs.length/\n+m<1125899906842624/\(n+m)*by'<=140737488355328 then some (.sl nx 0 (n+m) z none,.app id ⟨e,k.cs.take (n*z)++ys,false⟩)else none
   | .sc (.slice none 0 0)=>if 0<m/\m<1125899906842624/\m*by'<=140737488355328 then some (.sl nx 0 m zc.length none,.new ⟨e,ys,false⟩)else none
   |_=>none
  else none
@[go_sem] theorem apF_sl (e by' m id off n z:Nat) (zc:List Value) (ys:List V) (c:Option Nat):apF hp nx (some (e,by',zc)) (some (ys,m)) (.sl id off n z c)=if ys.length=m*zc.length/\ys.all V.one=true then apG nx e by' id off n z zc.length m ys (hget hp id)else none:=by simp only[apF,Option.bind_some];cases hget hp id<;>rfl
@[go_sem] theorem apF_nil (e by' m:Nat) (zc:List Value) (ys:List V):apF hp nx (some (e,by',zc)) (some (ys,m)) (.sc (.slice none 0 0))=if ys.length=m*zc.length/\ys.all V.one=true then(if 0<m/\m<1125899906842624/\m*by'<=140737488355328 then some (.sl nx 0 m zc.length none,.new ⟨e,ys,false⟩)else none)else none:=rfl
@[go_sem] theorem exAppend_eq (t:Nat) (s x:V):exAppend P hp nx t s x=apF hp nx (mkOf P t) (srcV hp x) s:=by
 unfold exAppend apF;cases mkOf P t with
 |none=>rfl
 |some p=>
  cases srcV hp x with
  |none=>rfl
  |some q=>rfl
def cpG(id off dlen m:Nat)(ys:List V):Option Blk->Option (V×Eff)
 |some k=>if ys.length=m/\k.fz=false/\off+dlen<=k.cs.length/\ys.all V.one=true then some (.sc (.int .i64 (min m dlen:Nat)),.set id ⟨k.ty,setAll k.cs off (ys.take (min m dlen)),false⟩)else none
 |none=>none
@[go_sem] theorem clo_int (k:IntKind) (n:Int):clo (.sc (.int k n))=true:=rfl
@[go_sem] theorem clo_bool (b:Bool):clo (.sc (.bool b))=true:=rfl
@[go_sem] theorem clo_slice (a:Option Addr) (n c:Nat):clo (.sc (.slice a n c))=false:=rfl
@[go_sem] theorem clo_im (cs:List V) (n:Nat):clo (.im cs n)=true:=rfl
@[go_sem] theorem clo_pt (id off:Nat):clo (.pt id off)=false:=rfl
@[go_sem] theorem clo_pi (cs:List V):clo (.pi cs)=true:=rfl
@[go_sem] theorem clo_sl (id off n z:Nat) (c:Option Nat):clo (.sl id off n z c)=false:=rfl
def fzC(g:V->Option (V×List Nat))(r:List V):Option (V×List Nat)->Option (List V×List Nat)
 |some p=>(frzAll g r).map λq=>(p.1::q.1,p.2++q.2)
 |none=>none
def fzD(y:V)(i:List Nat)(o:Option (List V×List Nat)):Option (List V×List Nat):=o.map λq=>(y::q.1,i++q.2)
@[go_sem] theorem fzD_some (y:V) (i j:List Nat) (ys:List V):fzD y i (some (ys,j))=some (y::ys,i++j):=rfl
@[go_sem] theorem fzC_some (g:V->Option (V×List Nat)) (r:List V) (y:V) (i:List Nat):fzC g r (some (y,i))=fzD y i (frzAll g r):=rfl
@[go_sem] theorem frzAll_nil (g:V->Option (V×List Nat)):frzAll g []=some ([],[]):=rfl
@[go_sem] theorem frzAll_cons (g:V->Option (V×List Nat)) (c:V) (r:List V):frzAll g (c::r)=fzC g r (g c):=by rw[frzAll];cases g c<;>rfl
def fzF(f:Fn):Option (List V×List Nat)->Option (List V×List Nat)->Option (V×List Nat)
 |some a,some b=>some (.fn f a.1 b.1,a.2++b.2)
 |_,_=>none
@[go_sem] theorem fzF_some (f:Fn) (a b:List V) (i j:List Nat):fzF f (some (a,i)) (some (b,j))=some (.fn f a b,i++j):=rfl
def fzA(o:Option (List V×List Nat)):Option (V×List Nat):=o.map λp=>(.ag p.1,p.2)
@[go_sem] theorem fzA_some (ys:List V) (i:List Nat):fzA (some (ys,i))=some (.ag ys,i):=rfl
def fzT(o:Option (List V×List Nat)):Option (V×List Nat):=o.map λp=>(.tu p.1,p.2)
@[go_sem] theorem fzT_some (ys:List V) (i:List Nat):fzT (some (ys,i))=some (.tu ys,i):=rfl
def fzS(id m:Nat)(o:Option (List V×List Nat)):Option (V×List Nat):=o.map λp=>(.im p.1 m,id::p.2)
@[go_sem] theorem fzS_some (id m:Nat) (ys:List V) (i:List Nat):fzS id m (some (ys,i))=some (.im ys m,id::i):=rfl
def fzQ(n:Nat)(hp:List (Nat×Blk))(id:Nat):Option (List V×Nat)->Option (V×List Nat)
 |some q=>fzS id q.2 (frzL (frz n hp) q.1)
 |none=>none
@[go_sem] theorem fzQ_some (n id m:Nat) (cs:List V):fzQ n hp id (some (cs,m))=fzS id m (frzL (frz n hp) cs):=rfl
def fzP(id:Nat)(o:Option (List V×List Nat)):Option (V×List Nat):=o.map λp=>(.pi p.1,id::p.2)
@[go_sem] theorem fzP_some (id:Nat) (ys:List V) (i:List Nat):fzP id (some (ys,i))=some (.pi ys,id::i):=rfl
def fzB(n:Nat)(hp:List (Nat×Blk))(id off:Nat):Option Blk->Option (V×List Nat)
 |some k=>fzP id (frzL (frz n hp) (k.cs.drop off))
 |none=>none
@[go_sem] theorem fzB_some (n id off ty:Nat) (cs:List V) (fz:Bool):fzB n hp id off (some ⟨ty,cs,fz⟩)=fzP id (frzL (frz n hp) (cs.drop off)):=rfl
section
variable (n:Nat)
@[go_sem] theorem frz_int (k:IntKind) (m:Int):frz (n+1) hp (.sc (.int k m))=some (.sc (.int k m),[]):=rfl
@[go_sem] theorem frz_bool (b:Bool):frz (n+1) hp (.sc (.bool b))=some (.sc (.bool b),[]):=rfl
@[go_sem] theorem frz_nil:frz (n+1) hp (.sc (.slice none 0 0))=some (.im [] 0,[]):=rfl
@[go_sem] theorem frz_im (cs:List V) (m:Nat):frz (n+1) hp (.im cs m)=some (.im cs m,[]):=rfl
@[go_sem] theorem frz_ag (cs:List V):frz (n+1) hp (.ag cs)=fzA (frzL (frz n hp) cs):=rfl
@[go_sem] theorem frz_fn (f:Fn) (p q:List V):frz (n+1) hp (.fn f p q)=fzF f (frzL (frz n hp) p) (frzL (frz n hp) q):=by
 simp only[frz];cases frzL (frz n hp) p with
 |none=>rfl
 |some a=>cases frzL (frz n hp) q<;>rfl
def fzI(t:TypeId):Option (V×List Nat)->Option (V×List Nat)
 |some p=>some (.ifc t p.1,p.2)
 |none=>none
@[go_sem] theorem fzI_some (t:TypeId) (p:V×List Nat):fzI t (some p)=some (.ifc t p.1,p.2):=rfl
@[go_sem] theorem frz_ifc (t:TypeId) (x:V):frz (n+1) hp (.ifc t x)=fzI t (frz n hp x):=by show(frz n hp x).map _=_;cases frz n hp x<;>rfl
@[go_sem] theorem frz_pi (cs:List V):frz (n+1) hp (.pi cs)=some (.pi cs,[]):=rfl
@[go_sem] theorem frz_pt (id off:Nat):frz (n+1) hp (.pt id off)=fzB n hp id off (hget hp id):=by rw[frz];cases hget hp id<;>rfl
@[go_sem] theorem frz_tu (cs:List V):frz (n+1) hp (.tu cs)=fzT (frzL (frz n hp) cs):=rfl
@[go_sem] theorem frz_sl (id off len z:Nat) (c:Option Nat):frz (n+1) hp (.sl id off len z c)=fzQ n hp id (srcG off len z (hget hp id)):=by rw[<-srcV_sl (hp:=hp) id off len z none];rw[frz];cases srcV hp (.sl id off len z none)<;>rfl
end
@[go_sem] theorem frzL_eq (g:V->Option (V×List Nat)) (cs:List V):frzL g cs=if cs.all clo=true then some (cs,[])else frzAll g cs:=rfl
@[go_sem] theorem calledF_eq (s:SS) (d:Option Nat) (x:V) (ids:List Nat):SS.calledF s d x ids=⟨putS s.sl d x,fzHp s.hp ids,s.nx,s.nt⟩:=rfl
@[go_sem] theorem called_nil (s:SS) (d:Option Nat) (x:V):SS.called s d x []=⟨putS s.sl d x,s.hp,s.nx,s.nt⟩:=by
 unfold SS.called;have:fzHp s.hp []=s.hp:=by unfold fzHp;simp
 rw[this];split<;>rfl
def calledG(s:SS)(d:Option Nat)(x:V)(ids:List Nat)(f:Bool):SS:=⟨putS s.sl d x,if f=true then s.hp else fzHp s.hp ids,s.nx,s.nt⟩
@[go_sem] theorem calledG_yes (s:SS) (d:Option Nat) (x:V) (ids:List Nat):calledG s d x ids true=⟨putS s.sl d x,s.hp,s.nx,s.nt⟩:=rfl
@[go_sem] theorem calledG_no (s:SS) (d:Option Nat) (x:V) (ids:List Nat):calledG s d x ids false=⟨putS s.sl d x,fzHp s.hp ids,s.nx,s.nt⟩:=rfl
@[go_sem] theorem fzHp_nil (ids:List Nat):fzHp [] ids=[]:=rfl
@[go_sem] theorem fzHp_cons (i:Nat) (k:Blk) (r:List (Nat×Blk)) (ids:List Nat):fzHp ((i,k)::r) ids=(i,if ids.contains i=true then⟨k.ty,k.cs,true⟩else k)::fzHp r ids:=rfl
@[go_sem] theorem stSl_nil (k:Nat):stSl k []=[]:=rfl
@[go_sem] theorem stSl_cons (k:Nat) (x:V) (r:List V):stSl k (x::r)=(k,x)::stSl (k+1) r:=rfl
@[go_sem] theorem start_eq (args:List V) (n:Nat):SS.start args n=⟨stSl 0 args,[],0,n⟩:=rfl
@[go_sem] theorem resV1_tmp (s:SS) (t:Nat):resV1 P s (.tmp t)=some (get s.sl t):=rfl
@[go_sem] theorem resV1_cell (s:SS) (p ty:Nat):resV1 P s (.cell p ty)=exLoad P s.hp ty (get s.sl p):=rfl
def resG(P:Program)(s:SS)(l:List ResultVar):Option V:=
 match l with
 |[]=>some (.tu [])
 |[r]=>resV1 P s r
 |[r,q]=>(resV1 P s r).bind λx=>(resV1 P s q).map λy=> .tu [x,y]
 |[r,q,t]=>(resV1 P s r).bind λx=>(resV1 P s q).bind λy=>(resV1 P s t).map λz=> .tu [x,y,z]
 |_=>none
@[go_sem] theorem resG_one (s:SS) (r:ResultVar):resG P s [r]=resV1 P s r:=rfl
@[go_sem] theorem resG_two (s:SS) (r q:ResultVar):resG P s [r,q]=(resV1 P s r).bind λx=>(resV1 P s q).bind λy=>some (.tu [x,y]):=by simp only[resG];cases resV1 P s r<;>cases resV1 P s q<;>rfl
@[go_sem] theorem resG_three (s:SS) (r q t:ResultVar):resG P s [r,q,t]=(resV1 P s r).bind λx=>(resV1 P s q).bind λy=>(resV1 P s t).bind λz=>some (.tu [x,y,z]):=by simp only[resG];cases resV1 P s r<;>cases resV1 P s q<;>cases resV1 P s t<;>rfl
theorem resV_eq(fn:Func)(s:SS):resV P fn s=resG P s fn.results.toList:=rfl
end
attribute [go_sem] Option.bind_some Option.bind_none Option.map_some Option.map_none decide_eq_true_eq Bool.false_eq_true List.toList_toArray
attribute [go_sem] List.contains_cons List.contains_nil Bool.or_false Bool.false_or Bool.or_true Bool.true_or
attribute [go_sem] zld zle List.length_cons List.length_nil List.all_cons List.all_nil Bool.and_true Bool.and_self Bool.true_and or_self and_self or_false false_or true_and and_true not_false_eq_true not_true_eq_false
attribute [go_sem] List.getElem?_cons_zero List.getElem?_cons_succ List.getElem?_toArray List.set_cons_zero List.set_cons_succ List.set_nil zl2 zl9 zl4 zl3 List.drop_nil List.take_nil zl7 zl8 Int.toNat_natCast zn9 Nat.add_zero zn8 Nat.zero_mul Nat.sub_zero
section
variable {P:Program} {w:World} {B:Base} {s:SS}
def SC(P:Program)(B:Base):List Code->(Exit->SS->Prop)->SS->Prop
 |[],Q,s=>Q .normal s
 |c::cs,Q,s=>SWp P B c (thenQ (SC P B cs Q) Q) s
def SO(P:Program)(B:Base)(ops:Array Oper)(l:List Oper)(cs:List Code)(Q:Exit->SS->Prop)(s:SS):Prop:=SOps P B ops l (thenQ (SC P B cs Q) Q) s
variable {cs:List Code} {Q:Exit->SS->Prop}
theorem SC.of{c:Code}(h:SC P B [c] Q s):SWp P B c Q s:=SWp.mono h λe s h=>by cases e<;>exact h
theorem SC.seq{a b:Code}(h:SC P B (a::b::cs) Q s):SC P B (.seq a b::cs) Q s:=
 SWp.seq λK hK=>SWp.mono h λe s h=>by cases e<;>first|exact hK _ h|exact h
theorem SC.skip(h:SC P B cs Q s):SC P B (.skip::cs) Q s:=SWp.skip h
theorem SC.label{l:Nat}(h:SC P B cs Q s):SC P B (.label l::cs) Q s:=SWp.label h
theorem SC.exit{id:Nat}(h:Q (.exit id) s):SC P B (.exit id::cs) Q s:=SWp.exit h
theorem SC.ret(h:Q .ret s):SC P B (.ret::cs) Q s:=SWp.ret h
theorem SC.region{id:Nat}{l:List Oper}{s':SS}(h:runL P l.toArray s l=some s')(k:SC P B cs Q s'):SC P B (.region id l.toArray false::cs) Q s:=SWp.region (SOps.all h k)
theorem SC.ops{id:Nat}{l:List Oper}(k:SO P B l.toArray l cs Q s):SC P B (.region id l.toArray false::cs) Q s:=SWp.region k
theorem SC.cond{c:Operand}{x y:Code}{t:Bool}(hc:evS s.sl c= .sc (.bool t))(h1:t=true->SC P B (x::cs) Q s)(h2:t=false->SC P B (y::cs) Q s):SC P B (.cond c x y::cs) Q s:=SWp.cond hc h1 h2
theorem SC.block{id:Nat}{c:Code}(h:SC P B [c] (blockQ id (thenQ (SC P B cs Q) Q)) s):SC P B (.block id c::cs) Q s:=SWp.block (SC.of h)
theorem SC.scope{c:Code}(h:SC P B [c] (scopeQ (thenQ (SC P B cs Q) Q)) s):SC P B (.scope c::cs) Q s:=SWp.scope (SC.of h)
theorem SC.weak{s':SS}: ∀{cs:List Code} {Q:Exit->SS->Prop},cs≠ []->Le B s s'->SC P B cs Q s'->SC P B cs Q s
 |[],_,h,_,_=>absurd rfl h
 |_::_,_,_,h,k=>SWp.weak h k
theorem SC.loop{α:Type}{c:Code}(I:α->SS)(Inv:α->Prop)(mu:α->Nat)(x0:α)(h0:Le B s (I x0))(hi:Inv x0)
  (round: ∀x,Inv x-> ∀K:SS->Prop,(∀s' x',Le B s' (I x')->Inv x'->mu x'<mu x->K s')->SC P B [c] (thenQ K (thenQ (SC P B cs Q) Q)) (I x)):SC P B (.loop c::cs) Q s:=
 SWp.loop I Inv mu x0 h0 hi λx hx K hK=>SC.of (round x hx K hK)
theorem SC.nil(h:Q .normal s):SC P B [] Q s:=h
theorem retQ_ret{fn:Func}{x x' y:V}{ids:List Nat}{rs:List ResultVar}(hr:fn.results=rs.toArray)(h1:resG P s rs=some y)(h2:frz 8 s.hp y=some (x',ids))(h3:x'=x):retQ P fn x .ret s:=⟨y,ids,by rw[resV_eq,hr];exact h1,h3▸h2⟩
variable {ops:Array Oper} {o:Oper} {l:List Oper}
theorem SO.nil(h:SC P B cs Q s):SO P B ops [] cs Q s:=SOps.nil h
theorem SO.run{s':SS}(h:run1 P ops s o=some s')(k:SO P B ops l cs Q s'):SO P B ops (o::l) cs Q s:=SOps.run1 h k
def SCall(P:Program)(B:Base)(f:Nat)(ys:List V)(ids:List Nat)(d:Option Nat)(ops:Array Oper)(l:List Oper)(cs:List Code)(Q:Exit->SS->Prop)(s:SS):Prop:=
 ∃x,Spec P f ys x/\(SO P B ops l cs Q (s.called d x ids)\/SO P B ops l cs Q (s.calledF d x ids))
theorem SO.call{f:Nat}{args:List Operand}{ts:Array TypeId}{d:Option Tmp}{ty:TypeId}{pos:String}{after:Array Edge}{gd:Option (Nat×Bool)}{ys:List V}{ids:List Nat}
  (hgo:isGo P f=true) (hf:frzAll (frz 8 s.hp) (args.map (evS s.sl))=some (ys,ids)) (hg:guardV ops s.sl gd=some true/\dstOk d s.nt=true) (k:SCall P B f ys ids d ops l cs Q s):SO P B ops (⟨d,.call ⟨.value (.func f),args.toArray,ts⟩,ty,pos,after,gd⟩::l) cs Q s:=
 match k with
 |⟨_,hs,.inl k⟩=>SOps.call rfl hg.1 hg.2 hgo hf hs k
 |⟨_,hs,.inr k⟩=>SOps.callF rfl hg.1 hg.2 hgo hf hs k
theorem SCall.of{f:Nat}{ys:List V}{ids:List Nat}{d:Option Nat}{x:V}{s':SS}(hs:Spec P f ys x)(hn:s.called d x ids=s')(k:SO P B ops l cs Q s'):SCall P B f ys ids d ops l cs Q s:=⟨x,hs,.inl (hn▸k)⟩
theorem SCall.ofF{f:Nat}{ys:List V}{ids:List Nat}{d:Option Nat}{x:V}{s':SS}(hs:Spec P f ys x)(hn:s.calledF d x ids=s')(k:SO P B ops l cs Q s'):SCall P B f ys ids d ops l cs Q s:=⟨x,hs,.inr (hn▸k)⟩
theorem bq_same{id:Nat}(h:Q .normal s):blockQ id Q (.exit id) s:=by simp only[blockQ,if_true];exact h
theorem bq_other{id id':Nat}(hn:id'≠id)(h:Q (.exit id') s):blockQ id Q (.exit id') s:=by simp only[blockQ,if_neg hn];exact h
theorem bq_normal{id:Nat}(h:Q .normal s):blockQ id Q .normal s:=h
theorem bq_ret{id:Nat}(h:Q .ret s):blockQ id Q .ret s:=h
theorem tq_normal{K:SS->Prop}(h:K s):thenQ K Q .normal s:=h
theorem tq_exit{K:SS->Prop}{id:Nat}(h:Q (.exit id) s):thenQ K Q (.exit id) s:=h
theorem tq_ret{K:SS->Prop}(h:Q .ret s):thenQ K Q .ret s:=h
theorem sq_normal(h:Q .normal s):scopeQ Q .normal s:=h
theorem sq_exit{id:Nat}(h:Q (.exit id) s):scopeQ Q (.exit id) s:=h
theorem sq_ret(h:Q .ret s):scopeQ Q .ret s:=h
theorem Spec.run{f:Nat}{fn:Func}{c:Code}{args:List V}{x:V}{n:Nat}{s0:SS}(hf:P.funcs[f]? =some fn)(hb:fn.body=some c)(hnt:fn.ntmps=n)(hn:args.length<=n)(h0:SS.start args n=s0)(h: ∀B:Base,B.Old 0->SC P B [c] (retQ P fn x) s0):Spec P f args x:=by subst hnt;subst h0;exact Spec.of hf hb hn λB hB=>SC.of (h B hB)
end
section
def fl1:V->Bool
 | .sc _=>true
 |_=>false
def fl2:V->Bool
 | .ag cs=>cs.all fl1
 |x=>fl1 x
def fl:V->Bool
 | .tu cs=>cs.all fl2
 |x=>fl2 x
theorem fl1_flat{x:V}(h:fl1 x=true):flat1 x=true:=by cases x<;>first|rfl|cases h
theorem fl2_flat{x:V}(h:fl2 x=true):flat2 x=true:=by
 cases x with
 |ag cs=>exact List.all_eq_true.2 λy hy=>fl1_flat (List.all_eq_true.1 h y hy)
 |sc v=>rfl
 |_=>cases h
theorem fl_flat{x:V}(h:fl x=true):flat x=true:=by
 cases x with
 |tu cs=>exact List.all_eq_true.2 λy hy=>fl2_flat (List.all_eq_true.1 h y hy)
 |ag cs=>exact fl2_flat (x:= .ag cs) h
 |sc v=>rfl
 |_=>cases h
def SS.callE(s:SS)(d:Option Nat)(x:V)(ids:List Nat):SS:=calledG s d x ids (fl x)
@[go_sem] theorem callE_nil (s:SS) (d:Option Nat) (x:V):SS.callE s d x []=⟨putS s.sl d x,s.hp,s.nx,s.nt⟩:=by
 unfold SS.callE calledG;have:fzHp s.hp []=s.hp:=by unfold fzHp;simp
 rw[this];split<;>rfl
@[go_sem] theorem callE_sc (s:SS) (d:Option Nat) (v:Value) (ids:List Nat):SS.callE s d (.sc v) ids=⟨putS s.sl d (.sc v),s.hp,s.nx,s.nt⟩:=rfl
@[go_sem] theorem callE_im (s:SS) (d:Option Nat) (cs:List V) (n:Nat) (ids:List Nat):SS.callE s d (.im cs n) ids=⟨putS s.sl d (.im cs n),fzHp s.hp ids,s.nx,s.nt⟩:=rfl
@[go_sem] theorem callE_ag (s:SS) (d:Option Nat) (cs:List V) (ids:List Nat):SS.callE s d (.ag cs) ids=calledG s d (.ag cs) ids (cs.all fl1):=rfl
@[go_sem] theorem callE_tu (s:SS) (d:Option Nat) (cs:List V) (ids:List Nat):SS.callE s d (.tu cs) ids=calledG s d (.tu cs) ids (cs.all fl2):=rfl
@[go_sem] theorem fl1_sc (v:Value):fl1 (.sc v)=true:=rfl
@[go_sem] theorem fl1_im (cs:List V) (n:Nat):fl1 (.im cs n)=false:=rfl
@[go_sem] theorem fl2_sc (v:Value):fl2 (.sc v)=true:=rfl
variable {P:Program} {B:Base} {s:SS} {cs:List Code} {Q:Exit->SS->Prop} {ops:Array Oper} {l:List Oper}
theorem SCall.ofX{f:Nat}{ys:List V}{ids:List Nat}{d:Option Nat}{x:V}{s':SS}(hs:Spec P f ys x)(hn:s.callE d x ids=s')(k:SO P B ops l cs Q s'):SCall P B f ys ids d ops l cs Q s:=by
 subst hn;refine⟨x,hs,?_⟩;by_cases h:fl x=true
 ·left;have e:s.called d x ids=s.callE d x ids:=by
   unfold SS.called SS.callE calledG;rw[fl_flat h,h]
  rw[e];exact k
 ·right;have e:s.calledF d x ids=s.callE d x ids:=by
   unfold SS.calledF SS.callE calledG;rw[if_neg h]
  rw[e];exact k
end
attribute [go_sem] Bool.false_and Bool.and_false
section
variable {P:Program} {B:Base} {s:SS} {cs:List Code} {Q:Exit->SS->Prop} {ops:Array Oper}
theorem oz1{a b:Code}(h:SC P B (a::b::cs) Q s):SC P B (.seq a b::cs) Q s:=SC.seq h
theorem oz2(h:SC P B cs Q s):SC P B (.skip::cs) Q s:=SC.skip h
theorem oz3{l:Nat}(h:SC P B cs Q s):SC P B (.label l::cs) Q s:=SC.label h
theorem oz4{id:Nat}{c:Code}(h:SC P B [c] (blockQ id (thenQ (SC P B cs Q) Q)) s):SC P B (.block id c::cs) Q s:=SC.block h
theorem oz5{c:Code}(h:SC P B [c] (scopeQ (thenQ (SC P B cs Q) Q)) s):SC P B (.scope c::cs) Q s:=SC.scope h
theorem oz6(h:Q .normal s):SC P B [] Q s:=SC.nil h
theorem oz7{id:Nat}(h:Q (.exit id) s):SC P B (.exit id::cs) Q s:=SC.exit h
theorem oz8(h:Q .ret s):SC P B (.ret::cs) Q s:=SC.ret h
theorem oz9(h:SC P B cs Q s):SO P B ops [] cs Q s:=SO.nil h
theorem ozb(h:Q .normal s){id:Nat}:blockQ id Q .normal s:=bq_normal h
theorem ozc{id:Nat}(h:Q .normal s):blockQ id Q (.exit id) s:=bq_same h
theorem ozd{id id':Nat}(hn:id'≠id)(h:Q (.exit id') s):blockQ id Q (.exit id') s:=bq_other hn h
theorem oze{id:Nat}(h:Q .ret s):blockQ id Q .ret s:=bq_ret h
theorem ozf{K:SS->Prop}(h:K s):thenQ K Q .normal s:=tq_normal h
theorem ozg{K:SS->Prop}{id:Nat}(h:Q (.exit id) s):thenQ K Q (.exit id) s:=tq_exit h
theorem ozh{K:SS->Prop}(h:Q .ret s):thenQ K Q .ret s:=tq_ret h
theorem ozi(h:Q .normal s):scopeQ Q .normal s:=sq_normal h
theorem ozj{id:Nat}(h:Q (.exit id) s):scopeQ Q (.exit id) s:=sq_exit h
theorem ozk(h:Q .ret s):scopeQ Q .ret s:=sq_ret h
end
inductive Oz:Prop->Prop->Prop
 |a1 {P:Program} {B:Base} {cs:List Code} {Q:Exit->SS->Prop} {s:SS} {a b:Code}:Oz (SC P B (.seq a b::cs) Q s) (SC P B (a::b::cs) Q s)
 |a2 {P:Program} {B:Base} {cs:List Code} {Q:Exit->SS->Prop} {s:SS}:Oz (SC P B (.skip::cs) Q s) (SC P B cs Q s)
 |a3 {P:Program} {B:Base} {cs:List Code} {Q:Exit->SS->Prop} {s:SS} {l:Nat}:Oz (SC P B (.label l::cs) Q s) (SC P B cs Q s)
 |a4 {P:Program} {B:Base} {cs:List Code} {Q:Exit->SS->Prop} {s:SS} {id:Nat} {c:Code}:Oz (SC P B (.block id c::cs) Q s) (SC P B [c] (blockQ id (thenQ (SC P B cs Q) Q)) s)
 |a5 {P:Program} {B:Base} {cs:List Code} {Q:Exit->SS->Prop} {s:SS} {c:Code}:Oz (SC P B (.scope c::cs) Q s) (SC P B [c] (scopeQ (thenQ (SC P B cs Q) Q)) s)
 |a6 {P:Program} {B:Base} {Q:Exit->SS->Prop} {s:SS}:Oz (SC P B [] Q s) (Q .normal s)
 |a7 {P:Program} {B:Base} {cs:List Code} {Q:Exit->SS->Prop} {s:SS} {id:Nat}:Oz (SC P B (.exit id::cs) Q s) (Q (.exit id) s)
 |a8 {P:Program} {B:Base} {cs:List Code} {Q:Exit->SS->Prop} {s:SS}:Oz (SC P B (.ret::cs) Q s) (Q .ret s)
 |a9 {P:Program} {B:Base} {ops:Array Oper} {cs:List Code} {Q:Exit->SS->Prop} {s:SS}:Oz (SO P B ops [] cs Q s) (SC P B cs Q s)
 |b1 {Q:Exit->SS->Prop} {s:SS} {id:Nat}:Oz (blockQ id Q .normal s) (Q .normal s)
 |b2 {Q:Exit->SS->Prop} {s:SS} {id:Nat}:Oz (blockQ id Q (.exit id) s) (Q .normal s)
 |b3 {Q:Exit->SS->Prop} {s:SS} {id id':Nat} (hn:id'≠id):Oz (blockQ id Q (.exit id') s) (Q (.exit id') s)
 |b4 {Q:Exit->SS->Prop} {s:SS} {id:Nat}:Oz (blockQ id Q .ret s) (Q .ret s)
 |b5 {Q:Exit->SS->Prop} {s:SS} {K:SS->Prop}:Oz (thenQ K Q .normal s) (K s)
 |b6 {Q:Exit->SS->Prop} {s:SS} {K:SS->Prop} {id:Nat}:Oz (thenQ K Q (.exit id) s) (Q (.exit id) s)
 |b7 {Q:Exit->SS->Prop} {s:SS} {K:SS->Prop}:Oz (thenQ K Q .ret s) (Q .ret s)
 |b8 {Q:Exit->SS->Prop} {s:SS}:Oz (scopeQ Q .normal s) (Q .normal s)
 |b9 {Q:Exit->SS->Prop} {s:SS} {id:Nat}:Oz (scopeQ Q (.exit id) s) (Q (.exit id) s)
 |c1 {Q:Exit->SS->Prop} {s:SS}:Oz (scopeQ Q .ret s) (Q .ret s)
theorem oz{G A:Prop}(h:Oz G A)(k:A):G:=by
 cases h with
 |a1=>exact oz1 k
 |a2=>exact oz2 k
 |a3=>exact oz3 k
 |a4=>exact oz4 k
 |a5=>exact oz5 k
 |a6=>exact oz6 k
 |a7=>exact oz7 k
 |a8=>exact oz8 k
 |a9=>exact oz9 k
 |b1=>exact ozb k
 |b2=>exact ozc k
 |b3 hn=>exact ozd hn k
 |b4=>exact oze k
 |b5=>exact ozf k
 |b6=>exact ozg k
 |b7=>exact ozh k
 |b8=>exact ozi k
 |b9=>exact ozj k
 |c1=>exact ozk k
theorem oA{G A:Prop}(k:A)(h:Oz G A:=by constructor<;>decide):G:=oz h k
theorem sF{p:Prop}(h:p:=by simp(disch:=omega) only[go_sem,↓reduceIte,zn1,zn2,zn3,zn4,zn5,zn6,reduceCtorEq,zn7,zi1,zi2,if_pos,if_neg];rfl):p:=h
theorem sG{p:Prop}(h:p:=by simp(disch:=omega) only[go_sem,↓reduceIte,zn1,zn2,zn3,zn4,zn5,zn6,reduceCtorEq,zn7,zi1,zi2,if_pos,if_neg]<;>rfl):p:=h
attribute [go_sem] zn8 zna Nat.zero_mul Nat.add_zero zn9 Nat.sub_zero zl2 zl4 zl3 zl9 zl7 zl8 List.append_nil List.take_length List.take_nil List.drop_nil List.length_nil List.length_set List.length_replicate List.flatten_nil List.flatten_cons Bool.not_true Bool.not_false Bool.false_eq_true Bool.or_true Bool.true_or Bool.or_false Bool.or_self bne_self_eq_false beq_self_eq_true
end
section
open Go.RowKit
def VLe(ok:Nat->Bool)(y x:V):Prop:= ∀(S:Nat->Prop) (rho:Nat->Nat) (A:Nat->Prop) (w:World) (v:Value),R S rho w A y v->R S rho w (λid=>A id/\ok id=true) x v
def LLe(ok:Nat->Bool)(ys xs:List V):Prop:=xs.length<=ys.length/\ ∀(i:Nat) (y x:V),ys[i]? =some y->xs[i]? =some x->VLe ok y x
def okL(ok:Nat->Bool):V->Bool
 | .sc _| .junk| .im _ _| .pi _=>true
 | .pt id _| .sl id _ _ _ _| .mp id _ _ _=>ok id
 |_=>false
def okV(ok:Nat->Bool):V->Bool
 | .ag cs=>cs.all (okL ok)
 | .fn _ p q=>p.all (okL ok)&&q.all (okL ok)
 |x=>okL ok x
section
variable {ok:Nat->Bool}
theorem VLe.okL{x:V}(h:okL ok x=true):VLe ok x x:=by
 intro S rho A w v hx;cases hx<;>simp[Go.Proofs.YtannldafjkjjbaaGreat.okL]at h;·exact .sc _
 ·exact .junk _
 ·exact .pt ⟨‹_›,h⟩
 ·exact .sl ⟨‹_›,h⟩ ‹_› ‹_› ‹_› ‹_›
 ·exact .sln ‹_›
 ·exact .im0 ‹_› ‹_› ‹_›
 ·exact .im1 _ ‹_› ‹_› ‹_› ‹_› ‹_›
 ·exact .pi _ ‹_› ‹_› ‹_›
 ·exact .mp ⟨‹_›,h⟩ ‹_› ‹_› ‹_› ‹_› ‹_›
theorem VLe.refl{x:V}(h:okV ok x=true):VLe ok x x:=by
 intro S rho A w v hx;cases hx with
 |ag hl hi=>exact .ag hl λi x u h1 h2=>VLe.okL (List.all_eq_true.1 h x (List.mem_of_getElem? h1)) _ _ _ _ _ (hi i x u h1 h2)
 |fn hp hq h1 h2=>
  simp only[okV,Bool.and_eq_true]at h;exact .fn hp hq (λi x u k1 k2=>VLe.okL (List.all_eq_true.1 h.1 x (List.mem_of_getElem? k1)) _ _ _ _ _ (h1 i x u k1 k2)) (λi x u k1 k2=>VLe.okL (List.all_eq_true.1 h.2 x (List.mem_of_getElem? k1)) _ _ _ _ _ (h2 i x u k1 k2))
 |tu hl hi=>simp[okV,Go.Proofs.YtannldafjkjjbaaGreat.okL]at h
 |sc v=>exact .sc _
 |junk v=>exact .junk _
 |pt ha=>exact VLe.okL (by simpa[okV]using h) _ _ _ _ _ (.pt ha)
 |sl a b c d e=>exact VLe.okL (by simpa[okV]using h) _ _ _ _ _ (.sl a b c d e)
 |sln a=>exact .sln a
 |im0 a b c=>exact .im0 a b c
 |im1 f a b c d e=>exact .im1 f a b c d e
 |pi f a b c=>exact .pi f a b c
 |mp a b c d e f=>exact .mp ⟨a,by simpa[okV,Go.Proofs.YtannldafjkjjbaaGreat.okL]using h⟩ b c d e f
 |ifc a=>simp[okV,Go.Proofs.YtannldafjkjjbaaGreat.okL]at h
theorem VLe.junk(x:V):VLe ok x .junk:=λ_ _ _ _ v _=> .junk v
theorem VLe.int{k:IntKind}{a b:Int}(h:a=b):VLe ok (.sc (.int k a)) (.sc (.int k b)):=h▸VLe.refl rfl
theorem VLe.bool{a b:Bool}(h:a=b):VLe ok (.sc (.bool a)) (.sc (.bool b)):=h▸VLe.refl rfl
theorem VLe.im{cs cs':List V}{n n':Nat}(h:cs=cs')(hn:n=n'):VLe ok (.im cs n) (.im cs' n'):=h▸hn▸VLe.refl rfl
theorem VLe.nil_sl(id off z:Nat):VLe ok (.sc (.slice none 0 0)) (.sl id off 0 z none):=λ_ _ _ _ _ h=>by cases h;exact .sln (by simp)
theorem VLe.nil_im:VLe ok (.sc (.slice none 0 0)) (.im [] 0):=λ_ _ _ _ _ h=>by cases h;exact .im0 (znb _) (by unfold maxLen;omega) (λ_=>rfl)
theorem VLe.sl{id off len len' z:Nat}{cap:Option Nat}(h:ok id=true)(hl:len=len'):VLe ok (.sl id off len z cap) (.sl id off len' z cap):=hl▸VLe.refl h
theorem VLe.cap{id off len len' z:Nat}{cap:Option Nat}(h:ok id=true)(hl:len=len'):VLe ok (.sl id off len z cap) (.sl id off len' z none):=by
 subst hl;intro S rho A w v hx;cases hx with
 |sl a b c d e=>exact .sl ⟨a,h⟩ b c (by simp) e
 |sln a=>exact .sln (by simp)
theorem VLe.eq{x y:V}(h:x=y)(k:okV ok x=true):VLe ok x y:=h▸VLe.refl k
theorem VLe.ag{cs ds:List V}(h:LLe ok cs ds)(hl:cs.length=ds.length):VLe ok (.ag cs) (.ag ds):=by
 intro S rho A w v hx;cases hx with
 |ag hl' hi=>
  refine .ag om λi x u h1 h2=> ?_;have hlt:=(List.getElem?_eq_some_iff.1 h1).1;have hc:cs[i]? =some (cs[i]'om):=zlb om;exact h.2 i _ x hc h1 _ _ _ _ _ (hi i _ u hc h2)
theorem LLe.refl{cs:List V}(h:cs.all (Go.Proofs.YtannldafjkjjbaaGreat.okL ok)=true):LLe ok cs cs:=
 ⟨znb _,λi y x h1 h2=>by rw[h1]at h2;cases h2;exact VLe.okL (List.all_eq_true.1 h _ (List.mem_of_getElem? h1))⟩
theorem LLe.eq{cs ds:List V}(e:cs=ds)(h:cs.all (Go.Proofs.YtannldafjkjjbaaGreat.okL ok)=true):LLe ok cs ds:=e▸LLe.refl h
theorem LLe.nil(cs:List V):LLe ok cs []:=⟨znc _,λi y x _ h=>by simp at h⟩
theorem LLe.cons{x y:V}{cs ds:List V}(h:VLe ok x y)(k:LLe ok cs ds):LLe ok (x::cs) (y::ds):=
 ⟨by have:=k.1;simpa using this,λi a b h1 h2=>by
  cases i with
  |zero=>simp at h1 h2;subst h1;subst h2;exact h
  |succ i=>simp at h1 h2;exact k.2 i a b h1 h2⟩
def leSl(ok:Nat->Bool)(sl:List (Nat×V)):List (Nat×V)->Prop
 |[]=>True
 |(t,x)::r=>VLe ok (get sl t) x/\leSl ok sl r
def HLe(ok:Nat->Bool)(id:Nat)(o:Option Blk)(k:Blk):Prop:=
 (∃k0,o=some k0/\k0.ty=k.ty/\k0.fz=k.fz/\LLe ok k0.cs k.cs/\ok id=true)\/(k.cs=[]/\ok id=false)
def leHp(ok:Nat->Bool)(hp:List (Nat×Blk)):List (Nat×Blk)->Prop
 |[]=>True
 |(id,k)::r=>HLe ok id (hget hp id) k/\leHp ok hp r
theorem HLe.same{id:Nat}{ty:TypeId}{cs ds:List V}{fz:Bool}(hok:ok id=true)(h:LLe ok cs ds):HLe ok id (some ⟨ty,cs,fz⟩) ⟨ty,ds,fz⟩:= .inl ⟨_,rfl,rfl,rfl,h,hok⟩
theorem HLe.new{id:Nat}{ty:TypeId}{fz:Bool}{o:Option Blk}(h:ok id=false):HLe ok id o ⟨ty,[],fz⟩:= .inr ⟨rfl,h⟩
theorem leSl_get{sl:List (Nat×V)}: ∀{sl':List (Nat×V)},leSl ok sl sl'-> ∀t,VLe ok (get sl t) (get sl' t)
 |[],_,t=>VLe.junk _
 |(t',x)::r,h,t=>by
  simp only[get];by_cases e:t=t';·subst e;rw[if_pos rfl];exact h.1
  ·rw[if_neg e];exact leSl_get h.2 t
theorem leHp_get{hp:List (Nat×Blk)}: ∀{hp':List (Nat×Blk)},leHp ok hp hp'-> ∀id k,hget hp' id=some k->HLe ok id (hget hp id) k
 |[],_,id,k,h=>by cases h
 |(i,q)::r,h,id,k,hk=>by
  simp only[hget]at hk;by_cases e:id=i;·subst e;rw[if_pos rfl]at hk;cases hk;exact h.1
  ·rw[if_neg e]at hk;exact leHp_get h.2 id k hk
def okN(n:Nat)(ph:List Nat):Nat->Bool:=λid=>decide (id<n)&& !(ph.contains id)
theorem Le.of{B:Base}{sl sl':List (Nat×V)}{hp hp':List (Nat×Blk)}{nx nx' nt:Nat}(ph:List Nat){m:Nat}(hB:B.Old m)(hm:m<=nx'/\ ∀i,i∈ph->m<=i)(h1:leSl (okN nx' ph) sl sl')(h2:leHp (okN nx' ph) hp hp'):Le B ⟨sl,hp,nx,nt⟩ ⟨sl',hp',nx',nt⟩:=by
 intro S rho A a w hr;refine⟨S,rho,λid=>A id/\okN nx' ph id=true,⟨λt=>leSl_get h1 t _ _ _ _ _ (hr.slots t),?_,λid h=> ?_,hr.nt,hr.defs⟩⟩
 ·have hmo:=hm;have hm:=hr.mem;have g:=leHp_get h2;exact{
   cells:=λid k hk ha=>by
    rcases g id k hk with⟨k0,e1,e2,e3,e4,_⟩|⟨e,e'⟩
    ·obtain⟨cells,c1,c2⟩:=hm.cells id k0 e1 ha.1;refine⟨cells,by rw[<-e2];exact c1,λi x hx=> ?_⟩;have hlt:=(List.getElem?_eq_some_iff.1 hx).1;have hc:k0.cs[i]? =some (k0.cs[i]'(Nat.lt_of_lt_of_le hlt e4.1)):=zlb _;obtain⟨u,hu,hr⟩:=c2 i _ hc;exact⟨u,hu,e4.2 i _ x hc hx _ _ _ _ _ hr⟩
    ·rw[ha.2]at e';cases e'
   fz:=λid k hk ha=>by
    rcases g id k hk with⟨k0,e1,e2,e3,e4,_⟩|⟨e,e'⟩;·rw[<-e3];exact hm.fz id k0 e1 ha.1
    ·rw[ha.2]at e';cases e'
   own:=λid k hk ha=>by
    rcases g id k hk with⟨k0,e1,e2,e3,e4,_⟩|⟨e,e'⟩;·exact hm.own id k0 e1 ha.1
    ·rw[ha.2]at e';cases e'
   inj:=λid id' k k' hk hk' ha ha' he=>by
    rcases g id k hk with⟨k0,e1,e2,e3,e4,_⟩|⟨e,e'⟩
    ·rcases g id' k' hk' with⟨k0',f1,f2,f3,f4,_⟩|⟨f,f'⟩;·exact hm.inj id id' k0 k0' e1 f1 ha.1 ha'.1 he
     ·rw[ha'.2]at f';cases f'
    ·rw[ha.2]at e';cases e'
   slt:=hm.slt
   sub:=hm.sub
   base:=hm.base
   frame:=hm.frame
   keep:=λid h=>⟨⟨(hm.keep id h).1,by
    have h1:=hB id h;simp only[okN,Bool.and_eq_true,decide_eq_true_eq,Bool.not_eq_true'];refine⟨by omega,?_⟩;cases hc:ph.contains id with
    |false=>rfl
    |true=>have:=hmo.2 id (by simpa using hc);omega⟩,(hm.keep id h).2⟩}
 ·have:=h.2;simp only[okN,Bool.and_eq_true,decide_eq_true_eq]at this;exact this.1
theorem leSl_nil{sl:List (Nat×V)}:leSl ok sl []:=trivial
theorem leSl_cons{sl r:List (Nat×V)}{t:Nat}{x y:V}(hg:get sl t=y)(h:VLe ok y x)(k:leSl ok sl r):leSl ok sl ((t,x)::r):=⟨hg▸h,k⟩
theorem leHp_nil{hp:List (Nat×Blk)}:leHp ok hp []:=trivial
theorem leHp_cons{hp r:List (Nat×Blk)}{id:Nat}{o:Option Blk}{k:Blk}(hg:hget hp id=o)(h:HLe ok id o k)(g:leHp ok hp r):leHp ok hp ((id,k)::r):=⟨hg▸h,g⟩
end
structure Hd(R:Prop):Prop where h:R
theorem Q2{a b:Prop}(aa:a)(bb:b):a/\b:=⟨aa,bb⟩
theorem Q3{a b c:Prop}(aa:a)(bb:b)(cc:c):a/\b/\c:=⟨aa,bb,cc⟩
theorem Q4{a b c d:Prop}(aa:a)(bb:b)(cc:c)(dd:d):a/\b/\c/\d:=⟨aa,bb,cc,dd⟩
theorem Q5{a b c d e:Prop}(aa:a)(bb:b)(cc:c)(dd:d)(ee:e):a/\b/\c/\d/\e:=⟨aa,bb,cc,dd,ee⟩
theorem Q6{a b c d e f:Prop}(aa:a)(bb:b)(cc:c)(dd:d)(ee:e)(ff:f):a/\b/\c/\d/\e/\f:=⟨aa,bb,cc,dd,ee,ff⟩
theorem Q7{a b c d e f g:Prop}(aa:a)(bb:b)(cc:c)(dd:d)(ee:e)(ff:f)(gg:g):a/\b/\c/\d/\e/\f/\g:=⟨aa,bb,cc,dd,ee,ff,gg⟩
theorem Q8{a b c d e f g h:Prop}(aa:a)(bb:b)(cc:c)(dd:d)(ee:e)(ff:f)(gg:g)(hh:h):a/\b/\c/\d/\e/\f/\g/\h:=⟨aa,bb,cc,dd,ee,ff,gg,hh⟩
theorem Q9{a b c d e f g h i:Prop}(aa:a)(bb:b)(cc:c)(dd:d)(ee:e)(ff:f)(gg:g)(hh:h)(ii:i):a/\b/\c/\d/\e/\f/\g/\h/\i:=⟨aa,bb,cc,dd,ee,ff,gg,hh,ii⟩
theorem Q10{a b c d e f g h i j:Prop}(aa:a)(bb:b)(cc:c)(dd:d)(ee:e)(ff:f)(gg:g)(hh:h)(ii:i)(jj:j):a/\b/\c/\d/\e/\f/\g/\h/\i/\j:=⟨aa,bb,cc,dd,ee,ff,gg,hh,ii,jj⟩
theorem Q11{a b c d e f g h i j k:Prop}(aa:a)(bb:b)(cc:c)(dd:d)(ee:e)(ff:f)(gg:g)(hh:h)(ii:i)(jj:j)(kk:k):a/\b/\c/\d/\e/\f/\g/\h/\i/\j/\k:=⟨aa,bb,cc,dd,ee,ff,gg,hh,ii,jj,kk⟩
theorem Q12{a b c d e f g h i j k l:Prop}(aa:a)(bb:b)(cc:c)(dd:d)(ee:e)(ff:f)(gg:g)(hh:h)(ii:i)(jj:j)(kk:k)(ll:l):a/\b/\c/\d/\e/\f/\g/\h/\i/\j/\k/\l:=⟨aa,bb,cc,dd,ee,ff,gg,hh,ii,jj,kk,ll⟩
theorem Q13{a b c d e f g h i j k l m:Prop}(aa:a)(bb:b)(cc:c)(dd:d)(ee:e)(ff:f)(gg:g)(hh:h)(ii:i)(jj:j)(kk:k)(ll:l)(mm:m):a/\b/\c/\d/\e/\f/\g/\h/\i/\j/\k/\l/\m:=⟨aa,bb,cc,dd,ee,ff,gg,hh,ii,jj,kk,ll,mm⟩
theorem Q14{a b c d e f g h i j k l m n:Prop}(aa:a)(bb:b)(cc:c)(dd:d)(ee:e)(ff:f)(gg:g)(hh:h)(ii:i)(jj:j)(kk:k)(ll:l)(mm:m)(nn:n):a/\b/\c/\d/\e/\f/\g/\h/\i/\j/\k/\l/\m/\n:=⟨aa,bb,cc,dd,ee,ff,gg,hh,ii,jj,kk,ll,mm,nn⟩
theorem Q15{a b c d e f g h i j k l m n o:Prop}(aa:a)(bb:b)(cc:c)(dd:d)(ee:e)(ff:f)(gg:g)(hh:h)(ii:i)(jj:j)(kk:k)(ll:l)(mm:m)(nn:n)(oo:o):a/\b/\c/\d/\e/\f/\g/\h/\i/\j/\k/\l/\m/\n/\o:=⟨aa,bb,cc,dd,ee,ff,gg,hh,ii,jj,kk,ll,mm,nn,oo⟩
theorem Q16{a b c d e f g h i j k l m n o p:Prop}(aa:a)(bb:b)(cc:c)(dd:d)(ee:e)(ff:f)(gg:g)(hh:h)(ii:i)(jj:j)(kk:k)(ll:l)(mm:m)(nn:n)(oo:o)(pp:p):a/\b/\c/\d/\e/\f/\g/\h/\i/\j/\k/\l/\m/\n/\o/\p:=⟨aa,bb,cc,dd,ee,ff,gg,hh,ii,jj,kk,ll,mm,nn,oo,pp⟩
theorem Q18{a b c d e f g h i j k l m n o p q r:Prop}(aa:a)(bb:b)(cc:c)(dd:d)(ee:e)(ff:f)(gg:g)(hh:h)(ii:i)(jj:j)(kk:k)(ll:l)(mm:m)(nn:n)(oo:o)(pp:p)(qq:q)(rr:r):a/\b/\c/\d/\e/\f/\g/\h/\i/\j/\k/\l/\m/\n/\o/\p/\q/\r:=⟨aa,bb,cc,dd,ee,ff,gg,hh,ii,jj,kk,ll,mm,nn,oo,pp,qq,rr⟩
theorem Q20{a b c d e f g h i j k l m n o p q r s t:Prop}(aa:a)(bb:b)(cc:c)(dd:d)(ee:e)(ff:f)(gg:g)(hh:h)(ii:i)(jj:j)(kk:k)(ll:l)(mm:m)(nn:n)(oo:o)(pp:p)(qq:q)(rr:r)(ss:s)(tt:t):a/\b/\c/\d/\e/\f/\g/\h/\i/\j/\k/\l/\m/\n/\o/\p/\q/\r/\s/\t:=⟨aa,bb,cc,dd,ee,ff,gg,hh,ii,jj,kk,ll,mm,nn,oo,pp,qq,rr,ss,tt⟩
theorem Q21{a b c d e f g h i j k l m n o p q r s t u:Prop}(aa:a)(bb:b)(cc:c)(dd:d)(ee:e)(ff:f)(gg:g)(hh:h)(ii:i)(jj:j)(kk:k)(ll:l)(mm:m)(nn:n)(oo:o)(pp:p)(qq:q)(rr:r)(ss:s)(tt:t)(uu:u):a/\b/\c/\d/\e/\f/\g/\h/\i/\j/\k/\l/\m/\n/\o/\p/\q/\r/\s/\t/\u:=⟨aa,bb,cc,dd,ee,ff,gg,hh,ii,jj,kk,ll,mm,nn,oo,pp,qq,rr,ss,tt,uu⟩
theorem Q22{a b c d e f g h i j k l m n o p q r s t u v:Prop}(aa:a)(bb:b)(cc:c)(dd:d)(ee:e)(ff:f)(gg:g)(hh:h)(ii:i)(jj:j)(kk:k)(ll:l)(mm:m)(nn:n)(oo:o)(pp:p)(qq:q)(rr:r)(ss:s)(tt:t)(uu:u)(vv:v):a/\b/\c/\d/\e/\f/\g/\h/\i/\j/\k/\l/\m/\n/\o/\p/\q/\r/\s/\t/\u/\v:=⟨aa,bb,cc,dd,ee,ff,gg,hh,ii,jj,kk,ll,mm,nn,oo,pp,qq,rr,ss,tt,uu,vv⟩
theorem Q23{a b c d e f g h i j k l m n o p q r s t u v w:Prop}(aa:a)(bb:b)(cc:c)(dd:d)(ee:e)(ff:f)(gg:g)(hh:h)(ii:i)(jj:j)(kk:k)(ll:l)(mm:m)(nn:n)(oo:o)(pp:p)(qq:q)(rr:r)(ss:s)(tt:t)(uu:u)(vv:v)(ww:w):a/\b/\c/\d/\e/\f/\g/\h/\i/\j/\k/\l/\m/\n/\o/\p/\q/\r/\s/\t/\u/\v/\w:=⟨aa,bb,cc,dd,ee,ff,gg,hh,ii,jj,kk,ll,mm,nn,oo,pp,qq,rr,ss,tt,uu,vv,ww⟩
theorem Q24{a b c d e f g h i j k l m n o p q r s t u v w x:Prop}(aa:a)(bb:b)(cc:c)(dd:d)(ee:e)(ff:f)(gg:g)(hh:h)(ii:i)(jj:j)(kk:k)(ll:l)(mm:m)(nn:n)(oo:o)(pp:p)(qq:q)(rr:r)(ss:s)(tt:t)(uu:u)(vv:v)(ww:w)(xx:x):a/\b/\c/\d/\e/\f/\g/\h/\i/\j/\k/\l/\m/\n/\o/\p/\q/\r/\s/\t/\u/\v/\w/\x:=⟨aa,bb,cc,dd,ee,ff,gg,hh,ii,jj,kk,ll,mm,nn,oo,pp,qq,rr,ss,tt,uu,vv,ww,xx⟩
theorem gD{l:List V}{n i:Nat}:(l.drop n)[i]? =l[n+i]? :=zl5
theorem qO{G A:Prop}(k:A)(h:Oz G A:=by constructor<;>decide):G:=oz h k
theorem qT{p:Prop}(h:p:=by simp(disch:=omega) only[go_sem,↓reduceIte,zn1,zn2,zn3,zn4,zn5,zn6,reduceCtorEq,zn7,zi1,zi2,if_pos,if_neg,Int.reduceAdd];rfl):p:=h
theorem qS{p:Prop}(h:p:=by simp(disch:=omega) only[go_sem,↓reduceIte,zn1,zn2,zn3,zn4,zn5,zn6,reduceCtorEq,zn7,zi1,zi2,if_pos,if_neg,Int.reduceAdd]<;>rfl):p:=h
theorem qTf{F p:Prop}(f:F)(h:F->p:=by intro f;simp(disch:=omega) only[go_sem,↓reduceIte,zn1,zn2,zn3,zn4,zn5,zn6,reduceCtorEq,zn7,zi1,zi2,if_pos,if_neg,Int.reduceAdd,f];rfl):p:=h f
theorem qSf{F p:Prop}(f:F)(h:F->p:=by intro f;simp(disch:=omega) only[go_sem,↓reduceIte,zn1,zn2,zn3,zn4,zn5,zn6,reduceCtorEq,zn7,zi1,zi2,if_pos,if_neg,Int.reduceAdd,f]<;>rfl):p:=h f
theorem qF{P:Program}{f:Nat}{fn:Func}{c:Code}{args:List V}{x:V}{n:Nat}{s0:SS}(hf:P.funcs[f]? =some fn)(hnt:fn.ntmps=n)(h: ∀B:Base,B.Old 0->SC P B [c] (retQ P fn x) s0)
 (hb:fn.body=some c:=by rfl) (hn:args.length<=n:=by simp) (h0:SS.start args n=s0:=by simp(disch:=omega) only[go_sem,↓reduceIte,zn1,zn2,zn3,zn4,zn5,zn6,reduceCtorEq,zn7,zi1,zi2,if_pos,if_neg,Int.reduceAdd];rfl):Spec P f args x:=Spec.run hf hb hnt hn h0 h
theorem qE{P:Program}{s:SS}{fn:Func}{x x' y:V}{ids:List Nat}{rs:List ResultVar}(hr:fn.results=rs.toArray)(h1:resG P s rs=some y:=by simp(disch:=omega) only[go_sem,↓reduceIte,zn1,zn2,zn3,zn4,zn5,zn6,reduceCtorEq,zn7,zi1,zi2,if_pos,if_neg,Int.reduceAdd]<;>rfl)(h2:frz 8 s.hp y=some (x',ids):=by simp(disch:=omega) only[go_sem,↓reduceIte,zn1,zn2,zn3,zn4,zn5,zn6,reduceCtorEq,zn7,zi1,zi2,if_pos,if_neg,Int.reduceAdd]<;>rfl)(h3:x'=x:=by rfl):retQ P fn x .ret s:=retQ_ret hr h1 h2 h3
theorem qW{G R:Prop}(r:R)(h:Hd R->G:=by intro k;(repeat(first|refine DO.nil (by kernel_rfl) ?_|(with_reducible refine qO ?_)|((first|apply SO.call|apply DO.call);(iterate 3 exact qS);(first|apply SCall.ofX|apply DCall.ofX);assumption;exact qS)|((with_reducible first|apply wa|apply wb|apply wc|apply wd);exact qS;(first|refine pT ?_|refine pF ?_|fail_if_success with_reducible refine pA ?_))|((with_reducible refine SC.draw Tab.mixed ?_ ?_);(focus(first|rfl|exact qS)))|(with_reducible apply SC.ops)));exact k.h):G:=h ⟨r⟩
theorem qWf{F G R:Prop}(f:F)(r:R)(h:F->Hd R->G:=by intro f k;(repeat(first|refine DO.nil (by kernel_rfl) ?_|(with_reducible refine qO ?_)|((first|apply SO.call|apply DO.call);(iterate 3 exact qSf f);(first|apply SCall.ofX|apply DCall.ofX);assumption;exact qSf f)|((with_reducible first|apply wa|apply wb|apply wc|apply wd);exact qSf f;(first|refine pT ?_|refine pF ?_|fail_if_success with_reducible refine pA ?_))|((with_reducible refine SC.draw Tab.mixed ?_ ?_);(focus(first|rfl|exact qSf f)))|(with_reducible apply SC.ops)));exact k.h):G:=h f ⟨r⟩
theorem qY{G R:Prop}(r:R)(h:Hd R->G:=by intro k;(repeat(first|refine DO.nil (by kernel_rfl) ?_|(with_reducible refine SC.condB qT ?_;first|with_reducible refine pickT ?_|with_reducible refine pickF ?_)|(with_reducible refine qO ?_)|((with_reducible apply SC.region);exact qT)|(with_reducible refine SC.draw Tab.mixed rfl ?_;(repeat(refine DO.run qT ?_));refine DO.nil (by kernel_rfl) ?_)));exact k.h):G:=h ⟨r⟩
theorem qYf{F G R:Prop}(f:F)(r:R)(h:F->Hd R->G:=by intro f k;(repeat(first|refine DO.nil (by kernel_rfl) ?_|(with_reducible refine SC.condB (qTf f) ?_;first|with_reducible refine pickT ?_|with_reducible refine pickF ?_)|(with_reducible refine qO ?_)|((with_reducible apply SC.region);exact qTf f)|(with_reducible refine SC.draw Tab.mixed rfl ?_;(repeat(refine DO.run (qTf f) ?_));refine DO.nil (by kernel_rfl) ?_)));exact k.h):G:=h f ⟨r⟩
theorem qG{G R:Prop}(r:R)(h:Hd R->G:=by intro k;(repeat(first|(with_reducible refine qO ?_)|((with_reducible apply SC.region);exact qT)|(with_reducible refine SC.draw Tab.mixed rfl ?_;(repeat(refine DO.run qT ?_));refine DO.nil (by kernel_rfl) ?_)));exact k.h):G:=h ⟨r⟩
theorem qGf{F G R:Prop}(f:F)(r:R)(h:F->Hd R->G:=by intro f k;(repeat(first|(with_reducible refine qO ?_)|((with_reducible apply SC.region);exact qTf f)|(with_reducible refine SC.draw Tab.mixed rfl ?_;(repeat(refine DO.run (qTf f) ?_));refine DO.nil (by kernel_rfl) ?_)));exact k.h):G:=h f ⟨r⟩
theorem qR{G R:Prop}(r:R)(h:Hd R->G:=by intro k;(repeat(refine SO.run qT ?_));exact k.h):G:=h ⟨r⟩
theorem qRf{F G R:Prop}(f:F)(r:R)(h:F->Hd R->G:=by intro f k;(repeat(refine SO.run (qTf f) ?_));exact k.h):G:=h f ⟨r⟩
theorem qL{G:Prop}(h:G:=by(refine Le.of [] hB (by first|exact⟨znc _,λ_ _=>znc _⟩|(constructor<;>(try simp)<;>(try omega))) ?_ ?_<;>(repeat' (first|exact leSl_nil|exact leHp_nil|refine leSl_cons qT ?_ ?_|refine leHp_cons qT ?_ ?_|exact VLe.junk _|exact VLe.refl rfl|exact VLe.nil_sl _ _ _|exact VLe.int (by first|rfl|omega|(dsimp only;omega))|exact VLe.bool rfl|exact VLe.sl rfl (by first|rfl|omega|(dsimp only;omega)|(simp;done))|exact VLe.cap rfl (by first|rfl|omega|(dsimp only;omega)|(simp;done))|exact VLe.im rfl rfl|exact HLe.new rfl|exact HLe.same rfl (LLe.refl rfl)|refine HLe.same rfl ?_|exact LLe.nil _|exact LLe.refl rfl|exact LLe.cl rfl qS|exact LLe.clR rfl qS|refine LLe.cons ?_ ?_)))):G:=h
theorem qM{G:Prop}(h:G:=by(refine Le.slots ?_ ?_ ?_<;>(repeat' (first|(exact λ_ _ h=>h)|exact znb _|exact leSl_nil|refine leSl_cons qS ?_ ?_|exact VLe.junk _|exact VLe.refl rfl|exact VLe.nil_sl _ _ _|exact VLe.int (by first|rfl|omega|(dsimp only;omega))|exact VLe.bool rfl|exact VLe.sl rfl (by first|rfl|omega)|exact VLe.cap rfl (by first|rfl|omega)|exact VLe.im rfl rfl|omega|(refine λid k h=> ?_;simp only[hget]at h⊢;(repeat' (split at h))<;>first|(cases h;done)|(simp(disch:=omega) only[if_pos,if_neg];exact h)))))):G:=h
theorem qN{G:Prop}(h:G:=by(repeat' (first|exact trivial|refine mapSl_cons qS ?_ ?_|exact VMap.junk _|exact VMap.sc _|exact VMap.clo rfl|exact VMap.sl rfl om|exact VMap.cap rfl om|exact VMap.pt rfl om|exact VMap.nil_sl _ _ _|exact VMap.int (by first|rfl|omega|(dsimp only;omega))))):G:=h
theorem qWC{G R:Prop}(r:R)(h:Hd R->G:=by intro k;(repeat(first|(first|refine DO.nilC (by kernel_rfl) ?_|refine DO.nil (by kernel_rfl) ?_)|(with_reducible refine qO ?_)|((first|apply SO.call|apply DO.call);(iterate 3 exact qS);(first|apply SCall.ofX|apply DCall.ofX);assumption;exact qS)|((with_reducible first|apply wa|apply wb|apply wc|apply wd);exact qS;(first|refine pT ?_|refine pF ?_|fail_if_success with_reducible refine pA ?_))|((with_reducible refine SC.draw Tab.mixed ?_ ?_);(focus(first|rfl|exact qS)))|(with_reducible apply SC.ops)));exact k.h):G:=h ⟨r⟩
theorem qWCf{F G R:Prop}(f:F)(r:R)(h:F->Hd R->G:=by intro f k;(repeat(first|(first|refine DO.nilC (by kernel_rfl) ?_|refine DO.nil (by kernel_rfl) ?_)|(with_reducible refine qO ?_)|((first|apply SO.call|apply DO.call);(iterate 3 exact qSf f);(first|apply SCall.ofX|apply DCall.ofX);assumption;exact qSf f)|((with_reducible first|apply wa|apply wb|apply wc|apply wd);exact qSf f;(first|refine pT ?_|refine pF ?_|fail_if_success with_reducible refine pA ?_))|((with_reducible refine SC.draw Tab.mixed ?_ ?_);(focus(first|rfl|exact qSf f)))|(with_reducible apply SC.ops)));exact k.h):G:=h f ⟨r⟩
theorem qWD{G R:Prop}(r:R)(h:Hd R->G:=by intro k;(repeat(first|refine DO.nilF (λi=>i+1-nx) (by simp(disch:=omega) only[go_sem,↓reduceIte,zn1,zn2,zn3,zn4,zn5,zn6,reduceCtorEq,zn7,zi1,zi2,if_pos,if_neg,Int.reduceAdd,zld,zle,Option.map_some,Option.map_none,znd,zne,znf]<;>rfl) (by kernel_rfl) ?_|(with_reducible refine qO ?_)|((first|apply SO.call|apply DO.call);(iterate 3 exact qS);(first|apply SCall.ofX|apply DCall.ofX);assumption;exact qS)|((with_reducible first|apply wa|apply wb|apply wc|apply wd);exact qS;(first|refine pT ?_|refine pF ?_|fail_if_success with_reducible refine pA ?_))|((with_reducible refine SC.draw Tab.mixed ?_ ?_);(focus(first|rfl|exact qS)))|(with_reducible apply SC.ops)));exact k.h):G:=h ⟨r⟩
theorem qWDf{F G R:Prop}(f:F)(r:R)(h:F->Hd R->G:=by intro f k;(repeat(first|refine DO.nilF (λi=>i+1-nx) (by simp(disch:=omega) only[go_sem,↓reduceIte,zn1,zn2,zn3,zn4,zn5,zn6,reduceCtorEq,zn7,zi1,zi2,if_pos,if_neg,Int.reduceAdd,zld,zle,Option.map_some,Option.map_none,znd,zne,znf]<;>rfl) (by kernel_rfl) ?_|(with_reducible refine qO ?_)|((first|apply SO.call|apply DO.call);(iterate 3 exact qSf f);(first|apply SCall.ofX|apply DCall.ofX);assumption;exact qSf f)|((with_reducible first|apply wa|apply wb|apply wc|apply wd);exact qSf f;(first|refine pT ?_|refine pF ?_|fail_if_success with_reducible refine pA ?_))|((with_reducible refine SC.draw Tab.mixed ?_ ?_);(focus(first|rfl|exact qSf f)))|(with_reducible apply SC.ops)));exact k.h):G:=h f ⟨r⟩
theorem qLn0{G:Prop}(h:G:=by(refine Le.of [] hB (by first|exact⟨znc _,λ_ _=>znc _⟩|(constructor<;>(try simp)<;>(try omega))) ?_ ?_<;>(repeat' (first|exact leSl_nil|exact leHp_nil|refine leSl_cons qT ?_ ?_|refine leHp_cons qT ?_ ?_|exact VLe.junk _|exact VLe.refl rfl|exact VLe.nil_sl _ _ _|exact VLe.int (by first|rfl|omega|(dsimp only;omega))|exact VLe.bool rfl|exact VLe.sl rfl (by first|rfl|omega|(dsimp only;omega)|(simp;done))|exact VLe.cap rfl (by first|rfl|omega|(dsimp only;omega)|(simp;done))|exact VLe.im rfl rfl|exact HLe.new rfl|exact HLe.same rfl (LLe.refl rfl)|refine HLe.same rfl ?_|exact LLe.nil _|exact LLe.refl rfl|exact LLe.cl rfl qS|exact LLe.clR rfl qS|refine LLe.cons ?_ ?_)))):G:=h
theorem qLn0r{G R:Prop}(r:R)(h:Hd R->G:=by intro k;(refine Le.of [] hB (by first|exact⟨znc _,λ_ _=>znc _⟩|(constructor<;>(try simp)<;>(try omega))) ?_ ?_<;>(repeat' (first|exact leSl_nil|exact leHp_nil|refine leSl_cons qT ?_ ?_|refine leHp_cons qT ?_ ?_|exact VLe.junk _|exact VLe.refl rfl|exact VLe.nil_sl _ _ _|exact VLe.int (by first|rfl|omega|(dsimp only;omega))|exact VLe.bool rfl|exact VLe.sl rfl (by first|rfl|omega|(dsimp only;omega)|(simp;done))|exact VLe.cap rfl (by first|rfl|omega|(dsimp only;omega)|(simp;done))|exact VLe.im rfl rfl|exact HLe.new rfl|exact HLe.same rfl (LLe.refl rfl)|refine HLe.same rfl ?_|exact LLe.nil _|exact LLe.refl rfl|exact LLe.cl rfl qS|exact LLe.clR rfl qS|refine LLe.cons ?_ ?_)));exact k.h):G:=h ⟨r⟩
theorem qLn0v{G:Prop}(h:G:=by(refine Le.of [] hB (by first|exact⟨znc _,λ_ _=>znc _⟩|(constructor<;>(try simp)<;>(try omega))) ?_ ?_<;>(repeat' (first|exact leSl_nil|exact leHp_nil|refine leSl_cons qT ?_ ?_|refine leHp_cons qT ?_ ?_|exact VLe.junk _|exact VLe.refl rfl|exact VLe.nil_sl _ _ _|exact VLe.int (by first|rfl|omega|(dsimp only;omega))|exact VLe.bool rfl|exact VLe.sl rfl (by first|rfl|omega|(dsimp only;omega)|(simp;done))|exact VLe.cap rfl (by first|rfl|omega|(dsimp only;omega)|(simp;done))|exact VLe.im rfl rfl|exact HLe.new rfl|exact HLe.same rfl (LLe.refl rfl)|refine HLe.same rfl ?_|exact LLe.nil _|exact LLe.refl rfl|exact LLe.cl rfl qS|exact LLe.clR rfl qS|refine LLe.cons ?_ ?_)));all_goals exact LLe.lv rfl):G:=h
end
section
open Go.RowKit
def idOf:V->List Nat
 | .pt id _=>[id]
 |_=>[]
def idOfS:V->List Nat
 | .sl id _ _ _ _=>[id]
 |_=>[]
def rdOf(sl:List (Nat×V)):Op->List Nat
 | .load _ a=>idOf (evS sl a)
 | .slice _ x _ _ _=>idOf (evS sl x)
 | .store _ a _=>idOf (evS sl a)
 | .convert _ _ x=>idOfS (evS sl x)
 | .call ⟨.builtin .append,args,_⟩=>(args.toList.map (evS sl)).flatMap idOfS
 |_=>[]
def tgE:Eff->Option Nat
 | .set id _=>some id
 | .app id _=>some id
 |_=>none
def okOp:Op->Bool
 | .move _| .assign _| .pick _ _ _| .alloc _| .box _ _| .build _ _| .buildSlice _ _ _| .load _ _| .store _ _ _| .nilCheck _| .binOp _ _ _ _ _| .unOp _ _ _| .convert _ _ _| .makeFunc _ _ _| .makeSlice _ _ _
 | .slice _ _ _ _ _| .fieldAddr _ _ _| .field _ _ _| .indexAddr _ _ _| .index _ _ _| .extract _ _| .lookup _ _ _ _=>true
 | .call ⟨.builtin .len,_,_⟩| .call ⟨.builtin .min,_,_⟩| .call ⟨.builtin .max,_,_⟩| .call ⟨.builtin .append,_,_⟩=>true
 |_=>false
def agr(o' o:Option Blk):Prop:= ∀k,o=some k-> ∃k',o'=some k'/\k'.ty=k.ty/\k'.cs=k.cs/\(k.fz=false->k'.fz=false)
def agr0(o' o:Option Blk):Prop:= ∀k,o=some k-> ∃k',o'=some k'/\k'.ty=k.ty/\k'.cs=k.cs
def isNew:Eff->Bool
 | .new _| .app _ _=>true
 |_=>false
section
variable {P:Program} {sl sl':List (Nat×V)} {hp hp':List (Nat×Blk)} {nx nx':Nat}
theorem map_ev{l:List Operand}(h: ∀y∈l,evS sl' y=evS sl y):l.map (evS sl')=l.map (evS sl):=List.map_congr_left h
theorem omap_ev{o:Option Operand}(h: ∀y,o=some y->evS sl' y=evS sl y):o.map (evS sl')=o.map (evS sl):=by
 cases o with
 |none=>rfl
 |some y=>simp[h y rfl]
theorem pmap_ev{l:List (Nat×Operand)}(h: ∀y∈l.map (·.2),evS sl' y=evS sl y):(l.map λp=>(p.1,evS sl' p.2))=l.map λp=>(p.1,evS sl p.2):=
 List.map_congr_left λp hp=>by rw[h p.2 (List.mem_map.2 ⟨p,hp,rfl⟩)]
theorem exSlice_sc{t:TypeId}{lo hi mx:Option V}(u:Value):exSlice P hp' t (.sc u) lo hi mx=exSlice P hp t (.sc u) lo hi mx:=by
 cases u<;>try rfl
 rename_i a l c;cases a<;>try rfl
 cases l<;>try rfl
 cases c<;>rfl
theorem frz_sc(n:Nat)(u:Value):frz (n+1) hp' (.sc u)=frz (n+1) hp (.sc u):=by
 cases u<;>try rfl
 rename_i a l c;cases a<;>try rfl
 cases l<;>try rfl
 cases c<;>rfl
theorem srcG_local{off len z:Nat}{o o':Option Blk}{q:List V×Nat}(h:srcG off len z o=some q)(hr:agr0 o' o):srcG off len z o'=some q:=by
 cases o with
 |none=>cases h
 |some k=>
  obtain⟨k',rfl,h2,h3⟩:=hr k rfl;simp only[srcG]at h⊢;rw[h3];exact h
theorem exConvH_sc{a b:TypeId}(u:Value):exConvH P hp' a b (.sc u)=exConvH P hp a b (.sc u):=by
 cases u<;>try rfl
 rename_i x l c;cases x<;>try rfl
 cases l<;>try rfl
 cases c<;>rfl
theorem srcV_local{y:V}{q:List V×Nat}(h:srcV hp y=some q)(hr: ∀id∈idOfS y,agr0 (hget hp' id) (hget hp id)):srcV hp' y=some q:=by
 cases y with
 |sl id off len z c=>
  rw[srcV_sl]at h⊢;exact srcG_local h (hr id (by simp[idOfS]))
 |im cs n=>exact h
 |sc u=>
  cases u<;>try(exact h)
  rename_i a l c;cases a<;>try(exact h)
  cases l<;>try(exact h)
  cases c<;>exact h
 |_=>exact h
theorem append_local{ts:List TypeId}{xs:List V}{x:V}{f:Eff}(h:exBuiltin P hp nx .append ts xs=some (x,f))(hr: ∀id∈xs.flatMap idOfS,agr0 (hget hp' id) (hget hp id))
  (hw: ∀id,tgE f=some id->agr (hget hp' id) (hget hp id)) (hn:nx'=nx\/isNew f=false):exBuiltin P hp' nx' .append ts xs=some (x,f):=by
 obtain⟨t,s,y,rfl,rfl,h2⟩|⟨t,t',s,y,ne,rfl,rfl,h2⟩:(∃t s y,ts=[t,t]/\xs=[s,y]/\exAppend P hp nx t s y=some (x,f))\/ ∃t t' s y,t≠t'/\ts=[t,t']/\xs=[s,y]/\exAppendZ P nx t t' s y=some (x,f):=by
  unfold exBuiltin at h;split at h<;>first|(cases h;done)|contradiction|skip
  rename_i t t' s y _;split at h;·rename_i e;subst e;exact .inl ⟨t,s,y,rfl,rfl,h⟩
  ·rename_i e;exact .inr ⟨t,t',s,y,e,rfl,rfl,h⟩
 case inr=>
  obtain⟨b,rfl⟩:=exAppendZ_new h2;rcases hn with rfl|hn
  ·show(if t=t' then exAppend P hp' nx' t s y else exAppendZ P nx' t t' s y)=_;rw[if_neg ne];exact h2
  ·cases hn
 clear h;have h:=h2;clear h2;show(if t=t then exAppend P hp' nx' t s y else exAppendZ P nx' t t s y)=_;rw[if_pos rfl];unfold exAppend at h⊢;cases hk:mkOf P t with
 |none=>simp[hk]at h
 | some p=>
  obtain⟨e,by',zc⟩:=p;cases hsrc:srcV hp y with
  |none=>simp[hk,hsrc]at h
  | some q=>
   obtain⟨ys,m⟩:=q;have hsrc':=srcV_local (hp':=hp') hsrc (λid hid=>hr id (by simp[hid]));simp only[hk,hsrc,Option.bind_some]at h;simp only[hsrc',Option.bind_some];split at h
   ·rename_i hc;rw[if_pos hc];split at h
    ·rename_i id off n z c;cases hg:hget hp id with
     |none=>simp[hg]at h
     | some k=>
      simp only[hg,Option.bind_some]at h;split at h
      ·rename_i hd;cases h;obtain⟨k',a1,a2,a3,a4⟩:=hw id rfl k hg;rcases hn with rfl|hn
       ·simp only[a1,Option.bind_some,a2,a3];rw[if_pos ⟨hd.1,hd.2.1,a4 hd.2.2.1,hd.2.2.2⟩]
       ·cases hn
      ·cases h
    ·split at h
     ·rename_i hd;cases h;rcases hn with rfl|hn;·rw[if_pos hd]
      ·cases hn
     ·cases h
    ·cases h
   ·cases h
theorem op_local{op:Op}{x:V}{f:Eff}(hok:okOp op=true)(h:exOp P sl hp nx op=some (x,f))(hs: ∀y∈op.operands.toList,evS sl' y=evS sl y)(hr: ∀id∈rdOf sl op,agr0 (hget hp' id) (hget hp id))
  (hw: ∀id,tgE f=some id->agr (hget hp' id) (hget hp id)) (hn:nx'=nx\/isNew f=false):exOp P sl' hp' nx' op=some (x,f):=by
 cases op<;>simp only[okOp]at hok<;>try(cases hok;done)
 case move y=>simp only[exOp]at h⊢;rw[hs y (by simp[Op.operands])];exact h
 case assign y=>simp only[exOp]at h⊢;rw[hs y (by simp[Op.operands])];exact h
 case pick c a b=>simp only[exOp]at h⊢;rw[hs c (by simp[Op.operands]),hs a (by simp[Op.operands]),hs b (by simp[Op.operands])];exact h
 case alloc t=>
  simp only[exOp]at h⊢;rcases hn with rfl|hn;·exact h
  ·obtain⟨k,hk,e⟩:=Option.map_eq h;cases e;cases hn
 case box t y=>
  simp only[exOp]at h⊢;rw[hs y (by simp[Op.operands])];rcases hn with rfl|hn;·exact h
  ·obtain⟨k,hk,e⟩:=Option.map_eq h;cases e;cases hn
 case build t ps=>simp only[exOp]at h⊢;rw[pmap_ev (by simpa[Op.operands]using hs)];exact h
 case buildSlice t n ps=>
  simp only[exOp]at h⊢;rw[pmap_ev (by simpa[Op.operands]using hs)];rcases hn with rfl|hn;·exact h
  ·exfalso;unfold exBuildSlice at h;cases hk:mkOf P t with
   |none=>simp[hk]at h
   |some p=>
    simp only[hk,Option.bind_some]at h;split at h;·obtain⟨k,_,e⟩:=Option.map_eq h;cases e;cases hn
    ·cases h
 case load t a=>
  simp only[exOp]at h⊢;rw[hs a (by simp[Op.operands])];simp only[rdOf]at hr;obtain⟨y,hy,e⟩:=Option.map_eq h;cases e;unfold exLoad at hy⊢;generalize evS sl a=v at hy hr⊢;cases v<;>simp only at hy⊢ <;>try(cases hy;done)
  ·rename_i id off;cases hk:hget hp id with
   |none=>simp[hk]at hy
   |some k=>
    obtain⟨k',h1,h2,h3⟩:=hr id (by simp[idOf]) k hk;simp only[hk,Option.bind_some]at hy;simp only[h1,Option.bind_some,h3,hy];rfl
  ·rw[hy];rfl
 case store t a y=>
  simp only[exOp]at h⊢;rw[hs a (by simp[Op.operands]),hs y (by simp[Op.operands])];obtain⟨e',hy,e⟩:=Option.map_eq h;cases e;unfold exStore at hy⊢;generalize evS sl a=v at hy⊢;cases v<;>simp only at hy⊢ <;>try(cases hy;done)
  rename_i id off;cases hk:hget hp id with
  |none=>simp[hk]at hy
  | some k=>
   cases hv:vcells (evS sl y)with
   |none=>simp[hk,hv]at hy
   | some xs=>
    simp only[hk,hv,Option.bind_some]at hy;split at hy
    ·rename_i hc;cases hy;obtain⟨k',h1,h2,h3,h4⟩:=hw id rfl k hk;simp only[h1,Option.bind_some,h2,h3];rw[if_pos ⟨h4 hc.1,hc.2⟩];rfl
    ·cases hy
 case nilCheck y=>simp only[exOp]at h⊢;rw[hs y (by simp[Op.operands])];exact h
 case binOp o t y z u=>simp only[exOp]at h⊢;rw[hs y (by simp[Op.operands]),hs z (by simp[Op.operands])];exact h
 case unOp o t y=>simp only[exOp]at h⊢;rw[hs y (by simp[Op.operands])];exact h
 case convert s d y=>
  simp only[exOp]at h⊢;rw[hs y (by simp[Op.operands])];simp only[rdOf]at hr;obtain⟨z,hz,e⟩:=Option.map_eq h;cases e
  suffices hh:exConvH P hp' s d (evS sl y)=some x by rw[hh];rfl
  generalize evS sl y=v at hz hr⊢;cases v with
  | sl id off len zz cap=>
   simp only[exConvH,bytesH]at hz⊢;split at hz
   ·rename_i hc;rw[if_pos hc];rw[srcV_sl]at hz⊢;cases hg:srcG off len zz (hget hp id)with
    |none=>simp[hg]at hz
    |some q=>rw[srcG_local hg (hr id (by simp[idOfS]))];rw[hg]at hz;exact hz
   ·cases hz
  |sc u=>exact(exConvH_sc u).trans hz
  |_=>exact hz
 case makeFunc fn p q=>
  simp only[exOp]at h⊢;rw[map_ev (l:=p.toList) (λy hy=>hs y (by simp only[Op.operands,Array.toList_append,List.mem_append];exact .inl hy)),map_ev (l:=q.toList) (λy hy=>hs y (by simp only[Op.operands,Array.toList_append,List.mem_append];exact .inr hy))];exact h
 case makeSlice t l c=>
  simp only[exOp]at h⊢;rw[hs l (by simp[Op.operands]),hs c (by simp[Op.operands])];rcases hn with rfl|hn;·exact h
  ·exfalso;unfold exMake at h;split at h
   ·cases hk:mkOf P t with
    |none=>simp[hk]at h
    |some p=>
     simp only[hk,Option.bind_some]at h;split at h;·simp only[Option.some.injEq,Prod.mk.injEq]at h;obtain⟨_,rfl⟩:=h;cases hn
     ·cases h
   ·cases h
 case slice t y lo hi mx=>
  simp only[exOp]at h⊢;have e1:evS sl' y=evS sl y:=hs y (by simp[Op.operands]);rw[e1,omap_ev (o:=lo) (λz hz=>hs z (by subst hz;simp[Op.operands])),omap_ev (o:=hi) (λz hz=>hs z (by subst hz;simp[Op.operands])),omap_ev (o:=mx) (λz hz=>hs z (by subst hz;simp[Op.operands]))];simp only[rdOf]at hr;obtain⟨z,hz,e⟩:=Option.map_eq h;cases e;generalize evS sl y=v at hz hr⊢
  suffices hh:exSlice P hp' t v (lo.map (evS sl)) (hi.map (evS sl)) (mx.map (evS sl))=some x by rw[hh];rfl
  cases v with
  | pt id off=>
   rw[exSlice_pt]at hz⊢;cases hk:hget hp id with
   |none=>simp[hk,blkLen]at hz
   |some k=>
    obtain⟨k',h1,h2,h3⟩:=hr id (by simp[idOf]) k hk;have:blkLen (hget hp' id)=blkLen (hget hp id):=by rw[h1,hk];simp[blkLen,h3]
    rw[this];exact hz
  |sc u=>exact(exSlice_sc u).trans hz
  |_=>exact hz
 case fieldAddr t y k=>simp only[exOp]at h⊢;rw[hs y (by simp[Op.operands])];exact h
 case field t y k=>simp only[exOp]at h⊢;rw[hs y (by simp[Op.operands])];exact h
 case indexAddr t y i=>simp only[exOp]at h⊢;rw[hs y (by simp[Op.operands]),hs i (by simp[Op.operands])];exact h
 case index t y i=>simp only[exOp]at h⊢;rw[hs y (by simp[Op.operands]),hs i (by simp[Op.operands])];exact h
 case lookup t y i ok=>simp only[exOp]at h⊢;rw[hs y (by simp[Op.operands]),hs i (by simp[Op.operands])];exact h
 case extract t i=>simp only[exOp]at h⊢;rw[hs t (by simp[Op.operands])];exact h
 case call c=>
  obtain⟨callee,args,ts⟩:=c;cases callee<;>try(cases hok;done)
  rename_i b;simp only[exOp]at h⊢;rw[map_ev (l:=args.toList) (λy hy=>hs y (by simpa[Op.operands,Call.operands]using hy))];by_cases hb:b= .append
  ·subst hb;have hr2: ∀id∈(args.toList.map (evS sl)).flatMap idOfS,agr0 (hget hp' id) (hget hp id):=hr;exact append_local h hr2 hw hn
  generalize args.toList.map (evS sl)=xs at h⊢;generalize ts.toList=tl at h⊢;cases b<;>first|(exact absurd rfl hb)|first|(cases hok;done)|(simp at hok;done)|(unfold exBuiltin at h⊢;split at h<;>first|exact h|(cases h;done)|contradiction)
theorem frzAll_local{g g':V->Option (V×List Nat)}{p:Nat->Prop}(hg: ∀x y ids,g x=some (y,ids)->(∀id∈ids,p id)->g' x=some (y,ids)):
  ∀{cs ys:List V} {ids:List Nat},frzAll g cs=some (ys,ids)->(∀id∈ids,p id)->frzAll g' cs=some (ys,ids)
 |[],ys,ids,h,_=>h
 | c::r,ys,ids,h,hp=>by
  simp only[frzAll]at h⊢;cases hc:g c with
  |none=>simp[hc]at h
  | some q=>
   cases hr:frzAll g r with
   |none=>simp[hc,hr]at h
   |some u=>
    obtain⟨y,i1⟩:=q;obtain⟨zs,i2⟩:=u;simp only[hc,hr,Option.bind_some,Option.map_some,Option.some.injEq,Prod.mk.injEq]at h;obtain⟨rfl,rfl⟩:=h;rw[hg c y i1 hc (λid h=>hp id (List.mem_append.2 (.inl h))),frzAll_local hg hr (λid h=>hp id (List.mem_append.2 (.inr h)))];rfl
theorem frzL_local{g g':V->Option (V×List Nat)}{p:Nat->Prop}(hg: ∀x y ids,g x=some (y,ids)->(∀id∈ids,p id)->g' x=some (y,ids)){cs ys:List V}{ids:List Nat}(h:frzL g cs=some (ys,ids))(hp: ∀id∈ids,p id):frzL g' cs=some (ys,ids):=by
 unfold frzL at h⊢;split;·rename_i hc;rw[if_pos hc]at h;exact h
 ·rename_i hc;rw[if_neg hc]at h;exact frzAll_local hg h hp
theorem frz_local: ∀(n:Nat) (x y:V) (ids:List Nat),frz n hp x=some (y,ids)->(∀id∈ids,agr0 (hget hp' id) (hget hp id))->frz n hp' x=some (y,ids)
 |0,x,y,ids,h,_=>by simp[frz]at h
 | n +1,x,y,ids,h,hr=>by
  have ih:=frz_local n;have hL: ∀{cs ys:List V} {ids:List Nat},frzL (frz n hp) cs=some (ys,ids)->(∀id∈ids,agr0 (hget hp' id) (hget hp id))->frzL (frz n hp') cs=some (ys,ids):=λh k=>frzL_local (p:=λid=>agr0 (hget hp' id) (hget hp id)) (λx y ids=>ih x y ids) h k;cases x with
  |ag cs=>
   rw[frz_ag]at h⊢;obtain⟨⟨ys,i1⟩,h1,h2⟩:=Option.map_eq h;cases h2;rw[hL h1 hr];rfl
  |tu cs=>
   rw[frz_tu]at h⊢;obtain⟨⟨ys,i1⟩,h1,h2⟩:=Option.map_eq h;cases h2;rw[hL h1 hr];rfl
  | sl id off len z c=>
   rw[frz_sl]at h⊢;cases hs:srcG off len z (hget hp id)with
   |none=>rw[hs]at h;cases h
   |some q=>
    rw[hs]at h;simp only[fzQ]at h;obtain⟨⟨ys,i1⟩,h1,h2⟩:=Option.map_eq h;cases h2;rw[srcG_local hs (hr id (by simp))];simp only[fzQ];rw[hL h1 (λj hj=>hr j (by simp[hj]))];rfl
  |sc v=>exact(frz_sc n v).trans h
  | pt id off=>
   rw[frz_pt]at h⊢;cases hk:hget hp id with
   |none=>rw[hk]at h;cases h
   |some k=>
    rw[hk]at h;obtain⟨⟨ys,i1⟩,h1,h2⟩:=Option.map_eq h;cases h2;obtain⟨k',e1,_,e3⟩:=hr id (by simp) k hk;rw[e1];show fzP id (frzL (frz n hp') (k'.cs.drop off))=_;rw[e3,hL h1 (λj hj=>hr j (by simp[hj]))];rfl
  | fn f p q=>
   rw[frz_fn]at h⊢;cases hp1:frzL (frz n hp) p with
   |none=>rw[hp1]at h;cases h
   | some a=>
    cases hq1:frzL (frz n hp) q with
    |none=>rw[hp1,hq1]at h;cases h
    |some b=>
     obtain⟨a1,i1⟩:=a;obtain⟨b1,i2⟩:=b;rw[hp1,hq1]at h;cases h;rw[hL hp1 (λj hj=>hr j (List.mem_append.2 (.inl hj))),hL hq1 (λj hj=>hr j (List.mem_append.2 (.inr hj)))];rfl
  | ifc t x=>
   rw[frz_ifc]at h⊢;cases hq:frz n hp x with
   |none=>rw[hq]at h;cases h
   |some q=>
    obtain⟨y0,i1⟩:=q;rw[hq]at h;cases h;rw[ih _ _ _ hq hr];rfl
  |_=>exact h
end
end
section
open Go.RowKit
section
variable {P:Program} {ops:Array Oper} {Q:Exit->Act->World->Prop}
def unl(listed:Array Bool)(n:Nat):Nat:=((List.range n).filter λi=> !listed.getD i false).length
theorem unl_set{listed:Array Bool}{n i:Nat}(hs:listed.size=n)(hi:i<n)(h:listed.getD i false=false):unl (listed.setIfInBounds i true) n<unl listed n:=by
 unfold unl;have e:(List.range n).filter (λj=> !(listed.setIfInBounds i true).getD j false)=((List.range n).filter λj=> !listed.getD j false).filter (λj=>j !=i):=by
  rw[List.filter_filter];apply List.filter_congr;intro j hj;by_cases hji:j=i
  ·subst hji;simp[hs,hi]
  ·have hij:i≠j:=λe=>hji e.symm;simp[hij,hji]
 rw[e];apply List.length_filter_lt_length_iff_exists.2;exact⟨i,by simp only[List.mem_filter,List.mem_range];exact⟨hi,by rw[h];rfl⟩,by simp⟩
theorem wpAny_act(Inv:(Nat->Bool)->Act->World->Prop)
  (hord: ∀(i:Nat) (o:Oper),ops[i]? =some o-> ∀e∈o.after.toList,Region.binds .any e=true->e.on<i)
  (hstep: ∀L a w i o,ops[i]? =some o->L i=false->(∀e∈o.after.toList,Region.binds .any e=true->L e.on=true)->Inv L a w->
   wpOp P ops Q i (λa' w'=>Inv (λj=>if j=i then true else L j) a' w') a w)
  (hend: ∀L a w,(∀i,i<ops.size->L i=true)->Inv L a w->Q .normal a w):
  ∀(fuel:Nat) (listed:Array Bool) (a:Act) (w:World),listed.size=ops.size->unl listed ops.size<=fuel->Inv (λj=>listed.getD j false) a w->wpAny P .any ops Q fuel listed a w:=by
 have hall: ∀(listed:Array Bool),listed.size=ops.size->Region.ready .any ops listed=[]-> ∀i,i<ops.size->listed.getD i false=true:=by
  intro listed hs hr i;induction i using Nat.strongRecOn with
  | _ i ih=>
   intro hi;cases hb:listed.getD i false with
   |true=>rfl
   | false=>
    exfalso;have hm:i∈Region.ready .any ops listed:=by
     unfold Region.ready;rw[List.mem_filter];refine⟨List.mem_range.2 hi,?_⟩;have hlt:i<listed.size:=by omega
     have ho:ops[i]? =some ops[i]:=Array.getElem?_eq_getElem hi;have h1:listed.getD i true=false:=by rw[Array.getD_eq_getD_getElem?,Array.getElem?_eq_getElem hlt]at hb⊢;exact hb
     rw[h1,ho];simp only[Bool.not_false,Bool.true_and,Option.map_some,Option.getD_some];rw[Array.all_eq_true'];intro e he;cases hbind:Region.binds .any e with
     |false=>rfl
     |true=>
      have hlt2:=hord i _ ho e (by simpa using he) hbind;simp only[Bool.not_true,Bool.false_or];exact ih e.on hlt2 om
    rw[hr]at hm;cases hm
 intro fuel;induction fuel with
 | zero=>
  intro listed a w hs hu hI;have hr:Region.ready .any ops listed=[]:=by
   apply List.eq_nil_iff_forall_not_mem.2;intro i hi;unfold Region.ready at hi;rw[List.mem_filter]at hi;obtain⟨h1,h2⟩:=hi;have h1':=List.mem_range.1 h1;unfold unl at hu;have:i∈(List.range ops.size).filter λi=> !listed.getD i false:=by rw[List.mem_filter];refine⟨h1,?_⟩;rw[Bool.and_eq_true]at h2;have h3:=h2.1;rw[Array.getD_eq_getD_getElem?,Array.getElem?_eq_getElem om]at h3⊢;exact h3
   rw[List.eq_nil_of_length_eq_zero (by omega:((List.range ops.size).filter λi=> !listed.getD i false).length=0)]at this;cases this
  exact⟨hr,hend _ a w (hall listed hs hr) hI⟩
 | succ fuel ih=>
  intro listed a w hs hu hI;refine⟨λhr=>hend _ a w (hall listed hs hr) hI,λi hi=> ?_⟩;unfold Region.ready at hi;rw[List.mem_filter]at hi;obtain⟨h1,h2⟩:=hi;have h1':=List.mem_range.1 h1;rw[Bool.and_eq_true]at h2;have h3:listed.getD i false=false:=by have h3:=h2.1;rw[Array.getD_eq_getD_getElem?,Array.getElem?_eq_getElem om]at h3⊢;simpa using h3
  have ho:ops[i]? =some ops[i]:=Array.getElem?_eq_getElem h1';refine wpOp_mono ?_ (hstep (λj=>listed.getD j false) a w i _ ho h3 ?_ hI)
  ·intro a' w' hI';refine ih (listed.setIfInBounds i true) a' w' (by simpa using hs) (by have:=unl_set hs h1' h3;omega) ?_;have e:(λj=>(listed.setIfInBounds i true).getD j false)=(λj=>if j=i then true else listed.getD j false):=by
    funext j;by_cases hji:j=i;·subst hji;simp[hs,h1']
    ·have hij:i≠j:=λe=>hji e.symm;simp[hij,hji]
   rw[e];exact hI'
  ·intro e he hb;have h4:=h2.2;rw[ho]at h4;simp only[Option.map_some,Option.getD_some]at h4;rw[Array.all_eq_true']at h4;have h5:=h4 e (by simpa using he);rw[hb]at h5;simpa using h5
end
def depB(ops:Array Oper)(i j:Nat):Bool:=match ops[i]?with|some o=>o.after.any λe=>Region.binds .any e&&e.on==j|none=>false
def reachB(ops:Array Oper):Nat->Nat->Nat->Bool
 |0,_,_=>false
 |f+1,i,j=>depB ops i j||(List.range i).any λm=>depB ops i m&&reachB ops f m j
theorem reachB_spec{ops:Array Oper}{L:Nat->Bool}(hc: ∀i j,L i=true->depB ops i j=true->L j=true): ∀(f i j:Nat),reachB ops f i j=true->(∀m,depB ops i m=true->L m=true)->L j=true
 |0,_,_,h,_=>by cases h
 |f+1,i,j,h,hi=>by
  simp only[reachB,Bool.or_eq_true,List.any_eq_true,Bool.and_eq_true]at h;rcases h with h|⟨m,_,h1,h2⟩;·exact hi j h
  ·exact reachB_spec hc f m j h2 (λk hk=>hc m k (hi m h1) hk)
structure En where
 x:V
 tg:Option Nat
 tc:List Nat
def crE:Eff->Nat->List Nat
 | .new _,nx=>[nx]
 | .app _ _,nx=>[nx]
 |_,_=>[]
def noApp:Eff->Bool
 | .app _ _=>true
 |_=>true
def RX(X:Nat->V):Prop:= ∀(S S':Nat->Prop) (rho rho':Nat->Nat) (A A':Nat->Prop) (w:World) (id id':Nat) (v:Value),R S rho w A (X id) v->(∀b,S b->S' b)->(∀i,A i->i=id)->A' id'->rho' id'=rho id->R S' rho' w A' (X id') v
def NewX(P:Program)(f:Nat)(args:List V)(k:Blk)(X:Nat->V)(fl:Bool):Prop:=
 RX X/\ ∀(S:Nat->Prop) (w:World) (vs:Array Value),(∀b,S b->b<w.heap.size)->TabOK S w->AllC S w args vs.toList->
  Calls P f vs w (λe w'=> ∃v,e= .returned v/\Grow w w'/\((∃b S2,w.heap.size<=b/\(∀c,S2 c->fl=false/\(S c\/(w.heap.size<=c/\c<w'.heap.size)))/\ ¬S2 b/\Cellsat S2 (λ_=>0) (λ_=>False) w' b k/\R S2 (λ_=>b) w' (λi=>i=0) (X 0) v)\/ ∀(S:Nat->Prop) (rho:Nat->Nat) (w:World) (A:Nat->Prop) (id:Nat),R S rho w A (X id) v))
def NewP(P:Program)(f:Nat)(args:List V)(k:Blk)(off len z:Nat)(cap:Option Nat):Prop:=NewX P f args k (λid=> .sl id off len z cap) true
theorem rx_sl(off len z:Nat)(cap:Option Nat):RX λid=> .sl id off len z cap:=by
 intro S S' rho rho' A A' w id id' v h _ _ ha he;cases h with
 |sl _ hl hm hc hz=>rw[<-he];exact .sl ha hl hm hc (by rw[he];exact hz)
 |sln h=>exact .sln h
theorem R.renum{S S':Nat->Prop}{rho rho':Nat->Nat}{A A':Nat->Prop}{w:World}{id id' off len z:Nat}{c:Option Nat}{v:Value}(h:R S rho w A (.sl id off len z c) v)(ha:A' id')(he:rho' id'=rho id):R S' rho' w A' (.sl id' off len z c) v:=by
 cases h with
 |sl _ hl hm hc hz=>rw[<-he];exact .sl ha hl hm hc (by rw[he];exact hz)
 |sln h=>exact .sln h
structure Moved(A:Nat->Prop)(rho:Nat->Nat)(id:Nat)(w w':World):Prop where
 os:w'.os=w.os
 tape:w'.tape=w.tape
 output:w'.output=w.output
 size:w.heap.size<=w'.heap.size
 block: ∀b,b<w.heap.size-> ¬(A id/\rho id=b)->w'.heap[b]? =w.heap[b]?
 sz: ∀b n,szAt w b n->szAt w' b n
def AppC(P:Program)(f:Nat)(ys:List V)(id:Nat)(k:Blk)(off len z:Nat)(cap:Option Nat)(k':Blk):Prop:=
 ∀(B:Base) (S:Nat->Prop) (rho:Nat->Nat) (A:Nat->Prop) (w:World) (vs:Array Value) (m:Nat),Mem B S rho A [(id,k)] w->(∀j,A j->j<m)->All S rho A w ys vs.toList->
  Calls P f vs w (λe w'=> ∃v b,e= .returned v/\Moved A rho id w w'/\(∀b,S b->w'.heap[b]? =w.heap[b]?)/\(w.heap.size<=b\/A id/\rho id=b)/\ ¬S b/\Cellsat (λ_=>False) (λ_=>0) (λ_=>False) w' b k'/\R (λ_=>False) (λ_=>b) w' (λi=>i=0) (.sl 0 off len z cap) v)
theorem Mem.moved{B:Base}{S:Nat->Prop}{rho:Nat->Nat}{A:Nat->Prop}{hp:List (Nat×Blk)}{w w':World}{id:Nat}{k:Blk}(h:Mem B S rho A hp w)(hk:hget hp id=some k)(g:Moved A rho id w w')(hS: ∀b,S b->w'.heap[b]? =w.heap[b]?):Mem B S rho A (hdel hp id) w':=by
 have hg: ∀j q,hget (hdel hp id) j=some q->hget hp j=some q/\j≠id:=by
  intro j q hj;rw[hget_hdel]at hj;split at hj;·cases hj
  ·exact⟨hj,‹_›⟩
 have hL: ∀b,A id/\rho id=b->B.n0<=b\/B.L b:=λb ⟨h1,h2⟩=>h2▸h.own id k hk h1;exact{
  cells:=λj q hj ha=>by obtain⟨h1,h2⟩:=hg j q hj;refine(h.cells j q h1 ha).mono (g.block _ (h.lt h1 ha) λ⟨a1,a2⟩=>h2 (h.inj j id q k h1 hk ha a1 a2.symm)) (λb hb=>⟨hb,hS b hb⟩) (λ_ h=>⟨h,rfl,λn=>g.sz _ n⟩)
  fz:=λj q hj=>h.fz j q (hg j q hj).1
  own:=λj q hj=>h.own j q (hg j q hj).1
  inj:=λj j' q q' hj hj'=>h.inj j j' q q' (hg j q hj).1 (hg j' q' hj').1
  slt:=λb hb=>Nat.lt_of_lt_of_le (h.slt b hb) g.size
  sub:=h.sub
  base:=h.base
  frame:=⟨g.os.trans h.frame.os,g.tape.trans h.frame.tape,g.output.trans h.frame.output,Nat.le_trans h.frame.size g.size,
   λb hb hl=>(g.block b (Nat.lt_of_lt_of_le hb h.frame.size) λhh=>(hL b hh).elim (λe=>by unfold Base.n0 at e;omega) hl).trans (h.frame.block b hb hl),
   λb hb=>(hS b (h.sub b hb)).trans (h.frame.stay b hb),λb n hn=>g.sz b _ (h.frame.sz b n hn),h.frame.lt,h.frame.tab⟩
  keep:=h.keep}
def fnOf:V->Option (Nat×List V×List V)
 | .sc (.func (.func f) p q)=>some (f,p.toList.map .sc,q.toList.map .sc)
 | .fn (.func f) p q=>some (f,p,q)
 |_=>none
theorem All.scs{S:Nat->Prop}{rho:Nat->Nat}{A:Nat->Prop}{w:World}(l:List Value):All S rho A w (l.map .sc) l:=⟨by simp,λi x u hx hu=>by rw[List.getElem?_map,hu]at hx;cases hx;exact .sc _⟩
theorem fn_sound{S:Nat->Prop}{rho:Nat->Nat}{A:Nat->Prop}{w:World}{x:V}{v:Value}{f:Nat}{p q:List V}(h:fnOf x=some (f,p,q))(hx:R S rho w A x v): ∃ps qs:Array Value,v= .func (.func f) ps qs/\All S rho A w p ps.toList/\All S rho A w q qs.toList:=by
 unfold fnOf at h;split at h
 ·cases h;cases hx;exact⟨_,_,rfl,All.scs _,All.scs _⟩
 ·cases h;cases hx with|fn hp hq h1 h2=>
  exact⟨_,_,rfl,⟨by simpa using hp,λi x u hx hu=>h1 i x u hx (by simpa using hu)⟩,⟨by simpa using hq,λi x u hx hu=>h2 i x u hx (by simpa using hu)⟩⟩
 ·cases h
def cloM:V->Bool
 | .sc _| .im _ _| .pi _=>true
 |_=>false
def frzN(cs:List V):Option (List V×List Nat):=if cs.all cloM then some (cs,[])else none
theorem cloM_sound{S:Nat->Prop}{rho:Nat->Nat}{A:Nat->Prop}{w:World}{x:V}{v:Value}(hc:cloM x=true)(h:R S rho w A x v):R S rho w (λ_=>False) x v:=by
 cases h<;>simp[cloM]at hc;·exact .sc _
 ·exact .im0 ‹_› ‹_› ‹_›
 ·exact .im1 _ ‹_› ‹_› ‹_› ‹_› ‹_›
 ·exact .pi _ ‹_› ‹_› ‹_›
theorem frzN_sound{S:Nat->Prop}{rho:Nat->Nat}{A:Nat->Prop}{w:World}{hp:List (Nat×Blk)}{cs ys:List V}{vs:List Value}{ids:List Nat}(h:frzN cs=some (ys,ids))(ha:All S rho A w cs vs):All (addS S rho A ids) rho (λ_=>False) w ys vs/\ ∀id,id∈ids-> ∃k,hget hp id=some k:=by
 unfold frzN at h;split at h
 ·rename_i hc;simp only[Option.some.injEq,Prod.mk.injEq]at h;obtain⟨rfl,rfl⟩:=h;refine⟨⟨ha.1,λi x u hx hu=> ?_⟩,λid h=>by simp at h⟩;exact(cloM_sound (List.all_eq_true.1 hc _ (List.mem_of_getElem? hx)) (ha.2 i x u hx hu)).wide λb hb=> .inl hb
 ·cases h
theorem frzN_none{cs ys:List V}{ids:List Nat}(h:frzN cs=some (ys,ids)):ids=[]:=by
 unfold frzN at h;split at h;·simp only[Option.some.injEq,Prod.mk.injEq]at h;exact h.2.symm
 ·cases h
def DStep(P:Program)(ops:Array Oper)(o:Oper)(s:SS)(e:En)(s':SS):Prop:=
 dstOk o.dst s.nt=true/\
 ((∃f,guardV ops s.sl o.guard=some true/\okOp o.op=true/\exOp P s.sl s.hp s.nx o.op=some (e.x,f)/\s'=s.put o.dst e.x f/\e.tg=tgE f/\e.tc=rdOf s.sl o.op++crE f s.nx/\noApp f=true)\/
  (guardV ops s.sl o.guard=some false/\e.x= .tu []/\e.tg=none/\e.tc=[]/\s'=s.put o.dst (.tu []) .none)\/
  (∃g f p q args ts ys fb,o.op= .call ⟨.value g,args,ts⟩/\fnOf (evS s.sl g)=some (f,p,q)/\guardV ops s.sl o.guard=some true/\isGo P f=true/\(frzAll (frz 8 s.hp) (p++args.toList.map (evS s.sl)++q)=some (ys,e.tc)\/frzN (p++args.toList.map (evS s.sl)++q)=some (ys,e.tc))/\Spec P f ys e.x/\s'=calledG s o.dst e.x e.tc fb/\e.tg=none/\(fb=true->flat e.x=true))\/
  (∃f args ts ys ids k X fl,o.op= .call ⟨.value (.func f),args,ts⟩/\guardV ops s.sl o.guard=some true/\isGo P f=true/\frzAll (frz 8 s.hp) (args.toList.map (evS s.sl))=some (ys,ids)/\NewX P f ys k X fl/\e.x=X s.nx/\s'=s.put o.dst e.x (.new k)/\e.tg=none/\e.tc=ids++ [s.nx]/\(fl=true\/ids=[]))\/
  (∃f args ts id k off len z cap k',o.op= .call ⟨.value (.func f),args,ts⟩/\guardV ops s.sl o.guard=some true/\isGo P f=true/\hget s.hp id=some k/\AppC P f (args.toList.map (evS s.sl)) id k off len z cap k'/\e.x= .sl s.nx off len z cap/\s'=s.put o.dst e.x (.app id k')/\e.tg=some id/\e.tc=[id,s.nx]))
def KL(s:SS):Prop:= ∀id k,hget s.hp id=some k->id<s.nx
section
variable {P:Program} {ops:Array Oper}
theorem exStore_tgt{hp:List (Nat×Blk)}{t:TypeId}{a x:V}{id:Nat}{k':Blk}(h:exStore P hp t a x=some (.set id k')): ∃k,hget hp id=some k/\k.fz=false/\k'.fz=false/\idOf a=[id]:=by
 unfold exStore at h;split at h
 ·rename_i i off;cases hk:hget hp i with
  |none=>simp[hk]at h
  | some k=>
   cases hv:vcells x with
   |none=>simp[hk,hv]at h
   | some xs=>
    simp only[hk,hv,Option.bind_some]at h;split at h
    ·rename_i hc;simp only[Option.some.injEq,Eff.set.injEq]at h;obtain⟨rfl,rfl⟩:=h;exact⟨k,hk,hc.1,rfl,rfl⟩
    ·cases h
 ·cases h
theorem app_open{hp:List (Nat×Blk)}{nx:Nat}{ts:List TypeId}{xs:List V}{x:V}{f:Eff}(h:exBuiltin P hp nx .append ts xs=some (x,f))(hf: ∀b,f≠ .new b): ∃t s y,ts=[t,t]/\xs=[s,y]/\exAppend P hp nx t s y=some (x,f):=by
 unfold exBuiltin at h;split at h<;>first|(cases h;done)|contradiction|skip
 rename_i t t' s y _;split at h;·rename_i e;subst e;exact⟨t,s,y,rfl,rfl,h⟩
 ·obtain⟨b,rfl⟩:=exAppendZ_new h;exact absurd rfl (hf b)
theorem exAppend_set{hp:List (Nat×Blk)}{nx:Nat}{t:TypeId}{s y x:V}{id:Nat}{k:Blk}: ¬exAppend P hp nx t s y=some (x,.set id k):=by
 intro h;unfold exAppend at h;cases hk:mkOf P t with
 |none=>simp[hk]at h
 | some p=>
  cases hsrc:srcV hp y with
  |none=>simp[hk,hsrc]at h
  | some q=>
   simp only[hk,hsrc,Option.bind_some]at h;split at h
   ·split at h
    ·rename_i i off n z c;cases hg:hget hp i with
     |none=>simp[hg]at h
     |some k=>
      simp only[hg,Option.bind_some]at h;split at h<;>cases h
    ·split at h<;>cases h
    ·cases h
   ·cases h
theorem exAppend_live{hp:List (Nat×Blk)}{nx:Nat}{t:TypeId}{s y x:V}{id:Nat}{k:Blk}(h:exAppend P hp nx t s y=some (x,.app id k)): ∃k,hget hp id=some k:=by
 unfold exAppend at h;cases hk:mkOf P t with
 |none=>simp[hk]at h
 | some p=>
  cases hsrc:srcV hp y with
  |none=>simp[hk,hsrc]at h
  | some q=>
   simp only[hk,hsrc,Option.bind_some]at h;split at h
   ·split at h
    ·rename_i i off n z c;cases hg:hget hp i with
     |none=>simp[hg]at h
     |some k1=>
      simp only[hg,Option.bind_some]at h;split at h;·cases h;exact⟨k1,hg⟩
      ·cases h
    ·split at h<;>cases h
    ·cases h
   ·cases h
theorem set_store{sl:List (Nat×V)}{hp:List (Nat×Blk)}{nx:Nat}{op:Op}{x:V}{id:Nat}{k':Blk}(hok:okOp op=true)(h:exOp P sl hp nx op=some (x,.set id k')):
  ∃t a y,op= .store t a y/\exStore P hp t (evS sl a) (evS sl y)=some (.set id k'):=by
 cases op<;>simp only[exOp]at h<;>try(first|(cases h;done)|(obtain⟨_,_,e⟩:=Option.map_eq h;cases e;done))
 case store t a y=>
  obtain⟨f,hf,e⟩:=Option.map_eq h;cases e;exact⟨t,a,y,rfl,hf⟩
 case buildSlice t n ps=>
  unfold exBuildSlice at h;cases hk:mkOf P t with
  |none=>simp[hk]at h
  |some p=>
   simp only[hk,Option.bind_some]at h;split at h;·obtain⟨_,_,e⟩:=Option.map_eq h;cases e
   ·cases h
 case makeSlice t l c=>
  unfold exMake at h;split at h
  ·cases hk:mkOf P t with
   |none=>simp[hk]at h
   |some p=>
    simp only[hk,Option.bind_some]at h;split at h;·simp only[Option.some.injEq,Prod.mk.injEq]at h;obtain⟨_,e⟩:=h;cases e
    ·cases h
  ·cases h
 case call c=>
  obtain⟨callee,args,ts⟩:=c;cases callee<;>try(cases hok;done)
  rename_i b;have h:exBuiltin P hp nx b ts.toList (args.toList.map (evS sl))=some (x,.set id k'):=h;generalize args.toList.map (evS sl)=xs at h;generalize ts.toList=tl at h;by_cases hb:b= .append
  ·subst hb;obtain⟨t,s,y,_,_,h⟩:=app_open h (λ_ h=>by cases h);exact absurd h (exAppend_set)
  cases b<;>first|(exact absurd rfl hb)|(cases hok;done)|(unfold exBuiltin at h;split at h<;>first|(cases h;done)|(obtain⟨_,_,e⟩:=Option.map_eq h;cases e;done)|contradiction)
theorem app_op{sl:List (Nat×V)}{hp:List (Nat×Blk)}{nx:Nat}{op:Op}{x:V}{id:Nat}{k':Blk}(hok:okOp op=true)(h:exOp P sl hp nx op=some (x,.app id k')): ∃k,hget hp id=some k:=by
 cases op<;>simp only[exOp]at h<;>try(first|(cases h;done)|(obtain⟨_,_,e⟩:=Option.map_eq h;cases e;done))
 case store t a y=>
  obtain⟨f,hf,e⟩:=Option.map_eq h;cases e;unfold exStore at hf;split at hf
  ·rename_i i off _;cases hk:hget hp i with
   |none=>simp[hk]at hf
   | some k=>
    cases hv:vcells (evS sl y)with
    |none=>simp[hk,hv]at hf
    |some xs=>
     simp only[hk,hv,Option.bind_some]at hf;split at hf<;>cases hf
  ·cases hf
 case buildSlice t n ps=>
  unfold exBuildSlice at h;cases hk:mkOf P t with
  |none=>simp[hk]at h
  |some p=>
   simp only[hk,Option.bind_some]at h;split at h;·obtain⟨_,_,e⟩:=Option.map_eq h;cases e
   ·cases h
 case makeSlice t l c=>
  unfold exMake at h;split at h
  ·cases hk:mkOf P t with
   |none=>simp[hk]at h
   |some p=>
    simp only[hk,Option.bind_some]at h;split at h;·simp only[Option.some.injEq,Prod.mk.injEq]at h;obtain⟨_,e⟩:=h;cases e
    ·cases h
  ·cases h
 case call c=>
  obtain⟨callee,args,ts⟩:=c;cases callee<;>try(cases hok;done)
  rename_i b;have h:exBuiltin P hp nx b ts.toList (args.toList.map (evS sl))=some (x,.app id k'):=h;generalize args.toList.map (evS sl)=xs at h;generalize ts.toList=tl at h;by_cases hb:b= .append
  ·subst hb;obtain⟨t,s,y,_,_,h⟩:=app_open h (λ_ h=>by cases h);exact exAppend_live h
  cases b<;>first|(exact absurd rfl hb)|(cases hok;done)|(unfold exBuiltin at h;split at h<;>first|(cases h;done)|(obtain⟨_,_,e⟩:=Option.map_eq h;cases e;done)|contradiction)
theorem DStep.heap{o:Oper}{s s':SS}{e:En}(h:DStep P ops o s e s')(kl:KL s):
  (∀id k,hget s.hp id=some k->e.tg≠some id-> ∃k',hget s'.hp id=some k'/\(k'.ty=k.ty/\k'.cs=k.cs)/\(k'.fz=false->k.fz=false))/\s.nx<=s'.nx/\KL s':=by
 obtain⟨_,⟨f,hg,hok,he,rfl,htg,htc,hna⟩|⟨_,_,_,_,rfl⟩|⟨_,f,_,_,args,ts,ys,fb,_,_,_,_,_,_,rfl,_⟩|⟨f,args,ts,ys,ids,k0,X,fl,_,_,_,_,_,_,rfl,_⟩|⟨f,args,ts,i,kk,off,len,z,cap,k0,_,_,_,hki,_,_,rfl,htg,_⟩⟩:=h
 ·cases f with
  |none=>exact⟨λid k hk _=>⟨k,hk,⟨rfl,rfl⟩,λh=>h⟩,znb _,kl⟩
  | new k0=>
   refine⟨λid k hk _=>⟨k,?_,⟨rfl,rfl⟩,λh=>h⟩,Nat.le_succ _,λid k hk=> ?_⟩
   ·have:=kl id k hk;show hget ((s.nx,k0)::s.hp) id=some k;simp only[hget];rw[if_neg om];exact hk
   ·have hk:hget ((s.nx,k0)::s.hp) id=some k:=hk;show id<s.nx+1;simp only[hget]at hk;by_cases e:id=s.nx;·omega
    ·rw[if_neg e]at hk;have:=kl id k hk;omega
  | set i k0=>
   obtain⟨t,a,y,_,hst⟩:=set_store hok he;obtain⟨k1,h1,h2,h3,_⟩:=exStore_tgt hst;refine⟨λid k hk hne=> ?_,znb _,λid k hk=> ?_⟩
   ·show∃k',hget (hset s.hp i k0) id=some k'/\_;rw[hget_hset];by_cases e:id=i
    ·subst e;exact absurd (htg.trans rfl) hne
    ·rw[if_neg e];exact⟨k,hk,⟨rfl,rfl⟩,λh=>h⟩
   ·have hk:hget (hset s.hp i k0) id=some k:=hk;rw[hget_hset]at hk;by_cases e:id=i;·subst e;exact kl id k1 h1
    ·rw[if_neg e]at hk;exact kl id k hk
  | app i k0=>
   refine⟨λid k hk hne=>⟨k,?_,⟨rfl,rfl⟩,λh=>h⟩,Nat.le_succ _,λid k hk=> ?_⟩
   ·have:=kl id k hk;have hni:id≠i:=λe=>hne (by rw[htg,e];rfl);show hget ((s.nx,k0)::hdel s.hp i) id=some k;simp only[hget];rw[if_neg om,hget_hdel,if_neg hni];exact hk
   ·have hk:hget ((s.nx,k0)::hdel s.hp i) id=some k:=hk;show id<s.nx+1;simp only[hget]at hk;by_cases e:id=s.nx;·omega
    ·rw[if_neg e,hget_hdel]at hk;split at hk;·cases hk
     ·have:=kl id k hk;omega
 ·exact⟨λid k hk _=>⟨k,hk,⟨rfl,rfl⟩,λh=>h⟩,znb _,kl⟩
 ·by_cases hf:fb=true
  ·have e1:(calledG s o.dst e.x e.tc fb).hp=s.hp:=by simp[calledG,hf]
   refine⟨λid k hk _=>⟨k,by rw[e1];exact hk,⟨rfl,rfl⟩,λh=>h⟩,znb _,λid k hk=> ?_⟩;rw[e1]at hk;exact kl id k hk
  ·have e1:(calledG s o.dst e.x e.tc fb).hp=fzHp s.hp e.tc:=by simp[calledG,hf]
   refine⟨λid k hk _=> ?_,znb _,λid k hk=> ?_⟩
   ·rw[e1,hget_fz,hk];refine⟨_,rfl,by split<;>exact⟨rfl,rfl⟩,?_⟩;split;·intro h;cases h
    ·exact λh=>h
   ·rw[e1,hget_fz]at hk;obtain⟨k',hk',_⟩:=Option.map_eq hk;exact kl id k' hk'
 ·refine⟨λid k hk _=>⟨k,?_,⟨rfl,rfl⟩,λh=>h⟩,Nat.le_succ _,λid k hk=> ?_⟩
  ·have:=kl id k hk;show hget ((s.nx,k0)::s.hp) id=some k;simp only[hget];rw[if_neg om];exact hk
  ·have hk:hget ((s.nx,k0)::s.hp) id=some k:=hk;show id<s.nx+1;simp only[hget]at hk;by_cases e:id=s.nx;·omega
   ·rw[if_neg e]at hk;have:=kl id k hk;omega
 ·refine⟨λid k hk hne=>⟨k,?_,⟨rfl,rfl⟩,λh=>h⟩,Nat.le_succ _,λid k hk=> ?_⟩
  ·have:=kl id k hk;have hni:id≠i:=λe=>hne (by rw[htg,e]);show hget ((s.nx,k0)::hdel s.hp i) id=some k;simp only[hget];rw[if_neg om,hget_hdel,if_neg hni];exact hk
  ·have hk:hget ((s.nx,k0)::hdel s.hp i) id=some k:=hk;show id<s.nx+1;simp only[hget]at hk;by_cases e:id=s.nx;·omega
   ·rw[if_neg e,hget_hdel]at hk;split at hk;·cases hk
    ·have:=kl id k hk;omega
end
def looks(ops:Array Oper)(o:Oper):List Nat:=o.looksAt ops
def cmpB(ops:Array Oper)(i j:Nat):Bool:=reachB ops 7 i j||reachB ops 7 j i
def pairOk(ops:Array Oper)(en:List (Option Nat×List Nat))(i j:Nat)(oi oj:Oper):Bool:=
 (match oj.dst with
  |some d=> !(looks ops oi).contains d&&oi.dst !=some d||cmpB ops i j&&oi.dst !=some d
  |none=>true)&&
 (match(en[j]?).bind (·.1)with
  |some id=> !((en.getD i (none,[])).2.contains id)&&(en.getD i (none,[])).1 !=some id||cmpB ops i j
  |none=>true)
def ordB(l:List Oper):Bool:=l.zipIdx.all λp=>p.1.after.all λe=> !Region.binds .any e||decide (e.on<p.2)
def chkD(l:List Oper)(en:List (Option Nat×List Nat)):Bool:=
 ordB l&&l.zipIdx.all λp=>l.zipIdx.all λq=>p.2==q.2||pairOk l.toArray en p.2 q.2 p.1 q.1
end
end Go.Proofs.YtannldafjkjjbaaGreat
