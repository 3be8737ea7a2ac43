/- What simp is to know for runs on symbolic states. -/
import Derived.Test.YtbpcgeanpkokkaaDoorSi
namespace Go.Proofs.YtbpcgeanpkokkaaDoor
open Go.RowKit

section
variable {P : Program} {sl : List (Nat × V)} {hp : List (Nat × Blk)} {nx nt : Nat} {ops : Array Oper}
/-! slots and own blocks -/
@[go_sem] theorem get_nil (t : Nat) : get [] t = .junk := rfl
@[go_sem] theorem get_cons (k : Nat) (x : V) (r : List (Nat × V)) (t : Nat) : get ((k, x) :: r) t = if t = k then x else get r t := rfl
@[go_sem] theorem hget_nil (t : Nat) : hget [] t = none := rfl
@[go_sem] theorem hget_cons (k : Nat) (x : Blk) (r : List (Nat × Blk)) (t : Nat) : hget ((k, x) :: r) t = if t = k then some x else hget r t := rfl
@[go_sem] theorem hset_nil (t : Nat) (y : Blk) : hset [] t y = [] := rfl
@[go_sem] theorem hset_cons (k : Nat) (x : Blk) (r : List (Nat × Blk)) (t : Nat) (y : Blk) : hset ((k, x) :: r) t y = if t = k then (k, y) :: r else (k, x) :: hset r t y := rfl
@[go_sem] theorem hdel_nil (t : Nat) : hdel [] t = [] := rfl
@[go_sem] theorem hdel_cons (k : Nat) (x : Blk) (r : List (Nat × Blk)) (t : Nat) : hdel ((k, x) :: r) t = if k = t then hdel r t else (k, x) :: hdel r t := by
  unfold hdel; rw [List.filter_cons]; by_cases h : k = t <;> simp [h]
@[go_sem] theorem putS_some (d : Nat) (x : V) : putS sl (some d) x = (d, x) :: sl := rfl
@[go_sem] theorem putS_none (x : V) : putS sl none x = sl := rfl
@[go_sem] theorem heap_none : Eff.heap .none nx hp = hp := rfl
@[go_sem] theorem heap_new (k : Blk) : Eff.heap (.new k) nx hp = (nx, k) :: hp := rfl
@[go_sem] theorem heap_set (id : Nat) (k : Blk) : Eff.heap (.set id k) nx hp = hset hp id k := rfl
@[go_sem] theorem heap_app (id : Nat) (k : Blk) : Eff.heap (.app id k) nx hp = (nx, k) :: hdel hp id := rfl
@[go_sem] theorem next_none : Eff.next .none nx = nx := rfl
@[go_sem] theorem next_new (k : Blk) : Eff.next (.new k) nx = nx + 1 := rfl
@[go_sem] theorem next_set (id : Nat) (k : Blk) : Eff.next (.set id k) nx = nx := rfl
@[go_sem] theorem next_app (id : Nat) (k : Blk) : Eff.next (.app id k) nx = nx + 1 := rfl
@[go_sem] theorem put_mk (d : Option Nat) (x : V) (f : Eff) : SS.put ⟨sl, hp, nx, nt⟩ d x f = ⟨putS sl d x, f.heap nx hp, f.next nx, nt⟩ := rfl
@[go_sem] theorem dstOk_some (d n : Nat) : dstOk (some d) n = decide (d < n) := rfl
@[go_sem] theorem dstOk_none (n : Nat) : dstOk none n = true := rfl

/-! single operations -/
@[go_sem] theorem guardV_none : guardV ops sl none = some true := rfl
def guardB : V → Bool → Option Bool
  | .sc (.bool b), want => some (b == want)
  | .tu [], _ => some false
  | _, _ => none
@[go_sem] theorem guardB_skip (want : Bool) : guardB (.tu []) want = some false := rfl
@[go_sem] theorem guardB_bool (b want : Bool) : guardB (.sc (.bool b)) want = some (b == want) := rfl
def guardD (d : Option Nat) (sl : List (Nat × V)) (want : Bool) : Option Bool :=
  match d with
  | some d => guardB (get sl d) want
  | none => none
@[go_sem] theorem guardD_some (d : Nat) (want : Bool) : guardD (some d) sl want = guardB (get sl d) want := rfl
@[go_sem] theorem guardV_some (j : Nat) (want : Bool) : guardV ops sl (some (j, want)) = guardD ((ops[j]?).bind (·.dst)) sl want := by
  unfold guardV guardD
  simp only
  cases (ops[j]?).bind (·.dst) with
  | none => rfl
  | some d =>
    simp only
    generalize get sl d = x
    unfold guardB
    cases x with
    | sc v => cases v <;> rfl
    | tu l => cases l <;> rfl
    | _ => rfl
def fin1 (g : Option Bool) (r : Option (V × Eff)) (d : Option Nat) (s : SS) : Option SS :=
  match g with
  | some true => r.map fun p => s.put d p.1 p.2
  | some false => some (s.put d (.tu []) .none)
  | none => none
@[go_sem] theorem fin1_yes (x : V) (f : Eff) (d : Option Nat) (s : SS) : fin1 (some true) (some (x, f)) d s = some (s.put d x f) := rfl
@[go_sem] theorem fin1_no (r : Option (V × Eff)) (d : Option Nat) (s : SS) : fin1 (some false) r d s = some (s.put d (.tu []) .none) := rfl
@[go_sem] theorem run1_mk (d : Option Tmp) (op : Op) (ty : TypeId) (pos : String) (after : Array Edge) (gd : Option (Nat × Bool)) :
    run1 P ops ⟨sl, hp, nx, nt⟩ ⟨d, op, ty, pos, after, gd⟩ = if dstOk d nt = true then fin1 (guardV ops sl gd) (exOp P sl hp nx op) d ⟨sl, hp, nx, nt⟩ else none := by
  unfold run1 fin1
  rfl
def thenL (P : Program) (ops : Array Oper) (r : Option SS) (l : List Oper) : Option SS := r.bind fun s => runL P ops s l
@[go_sem] theorem thenL_some (s : SS) (l : List Oper) : thenL P ops (some s) l = runL P ops s l := rfl
@[go_sem] theorem runL_nil (s : SS) : runL P ops s [] = some s := rfl
@[go_sem] theorem runL_cons (s : SS) (o : Oper) (l : List Oper) : runL P ops s (o :: l) = thenL P ops (run1 P ops s o) l := by
  rw [runL]; cases run1 P ops s o <;> rfl

@[go_sem] theorem evS_tmp (t : Nat) : evS sl (.tmp t) = get sl t := rfl
@[go_sem] theorem evS_const (v : Value) : evS sl (.const v) = ofV v := rfl
@[go_sem] theorem evS_global (g : Nat) : evS sl (.global g) = globV g := rfl
@[go_sem] theorem evS_func (f : Nat) : evS sl (.func f) = .sc (.func (.func f) #[] #[]) := rfl
@[go_sem] theorem ofV_int (k : IntKind) (n : Int) : ofV (.int k n) = .sc (.int k n) := rfl
@[go_sem] theorem ofV_bool (b : Bool) : ofV (.bool b) = .sc (.bool b) := rfl
@[go_sem] theorem ofV_string (b : ByteArray) : ofV (.string b) = .sc (.string b) := rfl
@[go_sem] theorem ofV_slice (a : Option Addr) (l c : Nat) : ofV (.slice a l c) = .sc (.slice a l c) := rfl
@[go_sem] theorem ofV_pointer (a : Option Addr) : ofV (.pointer a) = .sc (.pointer a) := rfl
@[go_sem] theorem ofV_nilFunc : ofV .nilFunc = .sc .nilFunc := rfl
@[go_sem] theorem ofV_map (r : Option Nat) : ofV (.map r) = .sc (.map r) := rfl
@[go_sem] theorem ofV_agg (l : List Value) : ofV (.agg l.toArray) = .ag (l.map .sc) := rfl

def withE (o : Option V) : Option (V × Eff) := o.map (·, .none)
@[go_sem] theorem withE_some (x : V) : withE (some x) = some (x, .none) := rfl
@[go_sem] theorem exOp_move (x : Operand) : exOp P sl hp nx (.move x) = some (evS sl x, .none) := rfl
@[go_sem] theorem exOp_assign (x : Operand) : exOp P sl hp nx (.assign x) = some (evS sl x, .none) := rfl
@[go_sem] theorem exOp_pick (c a b : Operand) : exOp P sl hp nx (.pick c a b) = withE (exPick (evS sl c) (evS sl a) (evS sl b)) := rfl
def withN (o : Option Blk) (nx : Nat) : Option (V × Eff) := o.map (.pt nx 0, .new ·)
@[go_sem] theorem withN_some (k : Blk) : withN (some k) nx = some (.pt nx 0, .new k) := rfl
@[go_sem] theorem exOp_alloc (t : Nat) : exOp P sl hp nx (.alloc t) = withN (exAlloc P t) nx := rfl
@[go_sem] theorem exOp_box (t : Nat) (x : Operand) : exOp P sl hp nx (.box t x) = withN (exBox t (evS sl x)) nx := rfl
@[go_sem] theorem exOp_build (t : Nat) (l : List (Nat × Operand)) : exOp P sl hp nx (.build t l.toArray) = withE (exBuild P t (l.map fun p => (p.1, evS sl p.2))) := rfl
@[go_sem] theorem exOp_buildSlice (t n : Nat) (l : List (Nat × Operand)) : exOp P sl hp nx (.buildSlice t n l.toArray) = exBuildSlice P t nx n (l.map fun p => (p.1, evS sl p.2)) := rfl
@[go_sem] theorem exOp_load (t : Nat) (a : Operand) : exOp P sl hp nx (.load t a) = withE (exLoad P hp t (evS sl a)) := rfl
def withS (o : Option Eff) : Option (V × Eff) := o.map (.junk, ·)
@[go_sem] theorem withS_some (f : Eff) : withS (some f) = some (.junk, f) := rfl
@[go_sem] theorem exOp_store (t : Nat) (a x : Operand) : exOp P sl hp nx (.store t a x) = withS (exStore P hp t (evS sl a) (evS sl x)) := rfl
@[go_sem] theorem exOp_nilCheck (x : Operand) : exOp P sl hp nx (.nilCheck x) = withE (exNil (evS sl x)) := rfl
@[go_sem] theorem exOp_bin (o : BinOp) (t : Nat) (x y : Operand) (u : Nat) : exOp P sl hp nx (.binOp o t x y u) = withE (exBin P o t (evS sl x) (evS sl y)) := rfl
@[go_sem] theorem exOp_un (o : UnOp) (t : Nat) (x : Operand) : exOp P sl hp nx (.unOp o t x) = withE (exUn o (evS sl x)) := rfl
@[go_sem] theorem exOp_conv (a b : Nat) (x : Operand) : exOp P sl hp nx (.convert a b x) = withE (exConvH P hp a b (evS sl x)) := rfl
@[go_sem] theorem exOp_makeFunc (f : Fn) (p q : List Operand) : exOp P sl hp nx (.makeFunc f p.toArray q.toArray) = some (.fn f (p.map (evS sl)) (q.map (evS sl)), .none) := rfl
@[go_sem] theorem exOp_makeSlice (t : Nat) (l c : Operand) : exOp P sl hp nx (.makeSlice t l c) = exMake P t nx (evS sl l) (evS sl c) := rfl
@[go_sem] theorem exOp_slice (t : Nat) (x : Operand) (a b c : Option Operand) : exOp P sl hp nx (.slice t x a b c) = withE (exSlice P hp t (evS sl x) (a.map (evS sl)) (b.map (evS sl)) (c.map (evS sl))) := rfl
@[go_sem] theorem exOp_fieldAddr (t : Nat) (x : Operand) (f : Nat) : exOp P sl hp nx (.fieldAddr t x f) = withE (exFieldAddr P t f (evS sl x)) := rfl
@[go_sem] theorem exOp_field (t : Nat) (x : Operand) (f : Nat) : exOp P sl hp nx (.field t x f) = withE (exField P t f (evS sl x)) := rfl
@[go_sem] theorem exOp_indexAddr (t : Nat) (x i : Operand) : exOp P sl hp nx (.indexAddr t x i) = withE (exIndexAddr P t (evS sl x) (evS sl i)) := rfl
@[go_sem] theorem exOp_index (t : Nat) (x i : Operand) : exOp P sl hp nx (.index t x i) = withE (exIndex P t (evS sl x) (evS sl i)) := rfl
@[go_sem] theorem exOp_extract (t : Operand) (i : Nat) : exOp P sl hp nx (.extract t i) = withE (exExtract i (evS sl t)) := rfl
@[go_sem] theorem exOp_builtin (b : Builtin) (l : List Operand) (ts : List TypeId) : exOp P sl hp nx (.call ⟨.builtin b, l.toArray, ts.toArray⟩) = exBuiltin P hp nx b ts (l.map (evS sl)) := rfl
@[go_sem] theorem exBuiltin_len (t : TypeId) (x : V) : exBuiltin P hp nx .len [t] [x] = withE (exLen P t x) := rfl
@[go_sem] theorem exBuiltin_append (t t' : TypeId) (s x : V) : exBuiltin P hp nx .append [t, t'] [s, x] = if t = t' then exAppend P hp nx t s x else none := rfl
@[go_sem] theorem exBuiltin_copy (t t' : TypeId) (s x : V) : exBuiltin P hp nx .copy [t, t'] [s, x] = exCopyA P hp t s x := rfl
@[go_sem] theorem exCopyA_sl (t id off n z : Nat) (c : Option Nat) (s : V) : exCopyA P hp t s (.sl id off n z c) = exCopy P hp t s (.sl id off n z c) := rfl
@[go_sem] theorem exCopyA_im (t n : Nat) (cs : List V) (s : V) : exCopyA P hp t s (.im cs n) = exCopy P hp t s (.im cs n) := rfl
@[go_sem] theorem exCopyA_nil (t : Nat) (s : V) : exCopyA P hp t s (.sc (.slice none 0 0)) = exCopy P hp t s (.sc (.slice none 0 0)) := rfl
@[go_sem] theorem exBuiltin_min (ts : List TypeId) (s x : V) : exBuiltin P hp nx .min ts [s, x] = withE (exMin s x) := rfl
@[go_sem] theorem exBuiltin_max (ts : List TypeId) (s x : V) : exBuiltin P hp nx .max ts [s, x] = withE (exMax s x) := rfl

@[go_sem] theorem exPick_bool (t : Bool) (a b : V) : exPick (.sc (.bool t)) a b = some (if t = true then a else b) := rfl
@[go_sem] theorem vcells_ag (cs : List V) : vcells (.ag cs) = some cs := rfl
@[go_sem] theorem vcells_int (k : IntKind) (n : Int) : vcells (.sc (.int k n)) = some [.sc (.int k n)] := rfl
@[go_sem] theorem vcells_bool (b : Bool) : vcells (.sc (.bool b)) = some [.sc (.bool b)] := rfl
@[go_sem] theorem vcells_string (b : ByteArray) : vcells (.sc (.string b)) = some [.sc (.string b)] := rfl
@[go_sem] theorem vcells_slice (a : Option Addr) (l c : Nat) : vcells (.sc (.slice a l c)) = some [.sc (.slice a l c)] := rfl
@[go_sem] theorem vcells_func (f : Fn) (p q : Array Value) : vcells (.sc (.func f p q)) = some [.sc (.func f p q)] := rfl
@[go_sem] theorem vcells_nilFunc : vcells (.sc .nilFunc) = some [.sc .nilFunc] := rfl
@[go_sem] theorem vcells_pt (id off : Nat) : vcells (.pt id off) = some [.pt id off] := rfl
@[go_sem] theorem vcells_sl (id off n z : Nat) (c : Option Nat) : vcells (.sl id off n z c) = some [.sl id off n z c] := rfl
@[go_sem] theorem vcells_im (cs : List V) (n : Nat) : vcells (.im cs n) = some [.im cs n] := rfl
@[go_sem] theorem vcells_pi (cs : List V) : vcells (.pi cs) = some [.pi cs] := rfl
@[go_sem] theorem vcells_fn (f : Fn) (p q : List V) : vcells (.fn f p q) = some [.fn f p q] := rfl
def boxOf (o : Option (List V)) (t : Nat) : Option Blk := o.map fun cs => ⟨t, cs, false⟩
@[go_sem] theorem boxOf_some (cs : List V) (t : Nat) : boxOf (some cs) t = some ⟨t, cs, false⟩ := rfl
@[go_sem] theorem exBox_eq (t : Nat) (x : V) : exBox t x = boxOf (vcells x) t := rfl
def allocOf (o : Option Value) (t : Nat) : Option Blk := o.map fun z => ⟨t, z.cells.toList.map .sc, false⟩
@[go_sem] theorem allocOf_agg (l : List Value) (t : Nat) : allocOf (some (.agg l.toArray)) t = some ⟨t, l.map .sc, false⟩ := rfl
@[go_sem] theorem allocOf_int (k : IntKind) (n : Int) (t : Nat) : allocOf (some (.int k n)) t = some ⟨t, [.sc (.int k n)], false⟩ := rfl
@[go_sem] theorem allocOf_bool (b : Bool) (t : Nat) : allocOf (some (.bool b)) t = some ⟨t, [.sc (.bool b)], false⟩ := rfl
@[go_sem] theorem allocOf_slice (a : Option Addr) (n c t : Nat) : allocOf (some (.slice a n c)) t = some ⟨t, [.sc (.slice a n c)], false⟩ := rfl
@[go_sem] theorem exAlloc_eq (t : Nat) : exAlloc P t = allocOf (zeroOf P t) t := rfl

/-! loads and stores -/
def ldK (P : Program) (t : Nat) (off : Nat) : Option Blk → Option V
  | some k => ldV P t k.cs off
  | none => none
@[go_sem] theorem ldK_some (t ty off : Nat) (cs : List V) (fz : Bool) : ldK P t off (some ⟨ty, cs, fz⟩) = ldV P t cs off := rfl
@[go_sem] theorem exLoad_pt (t id off : Nat) : exLoad P hp t (.pt id off) = ldK P t off (hget hp id) := by
  simp only [exLoad]; cases hget hp id <;> rfl
@[go_sem] theorem exLoad_pi (t : Nat) (cs : List V) : exLoad P hp t (.pi cs) = ldV P t cs 0 := rfl
def ldG (a : Option Bool) (z : Option Nat) (cs : List V) (off : Nat) : Option V :=
  match a, z with
  | some true, some n => if off + n ≤ cs.length then some (.ag ((cs.drop off).take n)) else none
  | some false, some _ => cs[off]?
  | _, _ => none
@[go_sem] theorem ldV_eq (t : Nat) (cs : List V) (off : Nat) : ldV P t cs off = ldG (aggOf P t) (szOf P t) cs off := rfl
@[go_sem] theorem ldG_one (z : Nat) (cs : List V) (off : Nat) : ldG (some false) (some z) cs off = cs[off]? := rfl
@[go_sem] theorem ldG_agg (z : Nat) (cs : List V) (off : Nat) : ldG (some true) (some z) cs off = if off + z ≤ cs.length then some (.ag ((cs.drop off).take z)) else none := rfl
def stG (id off : Nat) (k : Option Blk) (z : Option Nat) (xs : Option (List V)) : Option Eff :=
  match k, z, xs with
  | some k, some z, some xs => if k.fz = false ∧ z = xs.length ∧ off + xs.length ≤ k.cs.length ∧ xs.all V.one = true then some (.set id ⟨k.ty, setAll k.cs off xs, false⟩) else none
  | _, _, _ => none
@[go_sem] theorem stG_some (id off ty z : Nat) (cs xs : List V) : stG id off (some ⟨ty, cs, false⟩) (some z) (some xs) = if z = xs.length ∧ off + xs.length ≤ cs.length ∧ xs.all V.one = true then some (.set id ⟨ty, setAll cs off xs, false⟩) else none := by
  simp [stG]
@[go_sem] theorem exStore_pt (t id off : Nat) (x : V) : exStore P hp t (.pt id off) x = stG id off (hget hp id) (szOf P t) (vcells x) := by
  simp only [exStore]
  cases hget hp id <;> cases szOf P t <;> cases vcells x <;> simp [stG]
@[go_sem] theorem setAll_nil (cs : List V) (off : Nat) : setAll cs off [] = cs := rfl
@[go_sem] theorem setAll_cons (cs : List V) (off : Nat) (x : V) (r : List V) : setAll cs off (x :: r) = setAll (cs.set off x) (off + 1) r := rfl
@[go_sem] theorem one_int (k : IntKind) (n : Int) : V.one (.sc (.int k n)) = true := rfl
@[go_sem] theorem one_bool (b : Bool) : V.one (.sc (.bool b)) = true := rfl
@[go_sem] theorem one_string (b : ByteArray) : V.one (.sc (.string b)) = true := rfl
@[go_sem] theorem one_slice (a : Option Addr) (n c : Nat) : V.one (.sc (.slice a n c)) = true := rfl
@[go_sem] theorem one_func (f : Fn) (p q : Array Value) : V.one (.sc (.func f p q)) = true := rfl
@[go_sem] theorem one_nilFunc : V.one (.sc .nilFunc) = true := rfl
@[go_sem] theorem one_pt (id off : Nat) : V.one (.pt id off) = true := rfl
@[go_sem] theorem one_sl (id off n z : Nat) (c : Option Nat) : V.one (.sl id off n z c) = true := rfl
@[go_sem] theorem one_im (cs : List V) (n : Nat) : V.one (.im cs n) = true := rfl
@[go_sem] theorem one_pi (cs : List V) : V.one (.pi cs) = true := rfl
@[go_sem] theorem one_fn (f : Fn) (p q : List V) : V.one (.fn f p q) = true := rfl

/-! parts -/
def paG (a : Option Bool) (z : Option Nat) (cs : List V) (off : Nat) : Option V :=
  match a, z with
  | some true, some n => some (.ag ((cs.drop off).take n))
  | some false, some _ => cs[off]?
  | _, _ => none
@[go_sem] theorem partV_eq (t : Nat) (cs : List V) (off : Nat) : partV P t cs off = paG (aggOf P t) (szOf P t) cs off := rfl
@[go_sem] theorem paG_one (z : Nat) (cs : List V) (off : Nat) : paG (some false) (some z) cs off = cs[off]? := rfl
@[go_sem] theorem paG_agg (z : Nat) (cs : List V) (off : Nat) : paG (some true) (some z) cs off = some (.ag ((cs.drop off).take z)) := rfl
@[go_sem] theorem exField_ag (T f : Nat) (cs : List V) : exField P T f (.ag cs) = (fldOf P T f).bind fun (o, t, _) => partV P t cs o := rfl
@[go_sem] theorem exFieldAddr_pt (T f id off : Nat) : exFieldAddr P T f (.pt id off) = (fldOf P T f).bind fun (o, _, z) => if z = 0 then none else some (.pt id (off + o)) := rfl
@[go_sem] theorem exFieldAddr_pi (T f : Nat) (cs : List V) : exFieldAddr P T f (.pi cs) = (fldOf P T f).bind fun (o, _, z) => if z = 0 then none else some (.pi (cs.drop o)) := rfl
@[go_sem] theorem exIndexAddr_sl (T id off len z : Nat) (c : Option Nat) (k : IntKind) (n : Int) : exIndexAddr P T (.sl id off len z c) (.sc (.int k n)) = (slOf P T).bind fun (_, z) => if 0 ≤ n ∧ n < len then some (.pt id (off + n.toNat * z)) else none := rfl
@[go_sem] theorem exIndexAddr_im (T len : Nat) (cs : List V) (k : IntKind) (n : Int) : exIndexAddr P T (.im cs len) (.sc (.int k n)) = (slOf P T).bind fun (_, z) => if 0 ≤ n ∧ n < len ∧ n.toNat * z < cs.length then some (.pi (cs.drop (n.toNat * z))) else none := rfl
@[go_sem] theorem exIndexAddr_pt (T id off : Nat) (k : IntKind) (n : Int) : exIndexAddr P T (.pt id off) (.sc (.int k n)) = (arOf P T).bind fun (len, _, z) => if 0 ≤ n ∧ n < len then some (.pt id (off + n.toNat * z)) else none := rfl
@[go_sem] theorem exIndexAddr_pi (T : Nat) (cs : List V) (k : IntKind) (n : Int) : exIndexAddr P T (.pi cs) (.sc (.int k n)) = (arOf P T).bind fun (len, _, z) => if 0 ≤ n ∧ n < len then some (.pi (cs.drop (n.toNat * z))) else none := rfl
@[go_sem] theorem exIndex_ag (T : Nat) (cs : List V) (k : IntKind) (n : Int) : exIndex P T (.ag cs) (.sc (.int k n)) = (arOf P T).bind fun (len, e, z) => if 0 ≤ n ∧ n < len then partV P e cs (n.toNat * z) else none := rfl
@[go_sem] theorem exExtract_tu (i : Nat) (cs : List V) : exExtract i (.tu cs) = cs[i]? := rfl
@[go_sem] theorem exNil_pt (id off : Nat) : exNil (.pt id off) = some (.pt id off) := rfl
@[go_sem] theorem exNil_pi (cs : List V) : exNil (.pi cs) = some (.pi cs) := rfl
@[go_sem] theorem exNil_fn (f : Nat) (p q : List V) : exNil (.fn (.func f) p q) = some (.fn (.func f) p q) := rfl

/-! numbers -/
def scO (o : Option Value) : Option V := o.map .sc
@[go_sem] theorem scO_some (v : Value) : scO (some v) = some (.sc v) := rfl
section
variable (k : IntKind) (a b : Int) (t : Nat)
@[go_sem] theorem bin_add : exBin P .add t (.sc (.int k a)) (.sc (.int k b)) = some (.sc (.int k (k.wrap (a + b)))) := by simp [exBin, binI]
@[go_sem] theorem bin_sub : exBin P .sub t (.sc (.int k a)) (.sc (.int k b)) = some (.sc (.int k (k.wrap (a - b)))) := by simp [exBin, binI]
@[go_sem] theorem bin_mul : exBin P .mul t (.sc (.int k a)) (.sc (.int k b)) = some (.sc (.int k (k.wrap (a * b)))) := by simp [exBin, binI]
@[go_sem] theorem bin_quo : exBin P .quo t (.sc (.int k a)) (.sc (.int k b)) = if b = 0 then none else some (.sc (.int k (k.wrap (a.tdiv b)))) := by simp [exBin, binI]; split <;> rfl
@[go_sem] theorem bin_rem : exBin P .rem t (.sc (.int k a)) (.sc (.int k b)) = if b = 0 then none else some (.sc (.int k (a.tmod b))) := by simp [exBin, binI]; split <;> rfl
@[go_sem] theorem bin_and : exBin P .and t (.sc (.int k a)) (.sc (.int k b)) = some (.sc (.int k (bits .and k a b))) := by simp [exBin, binI, bits]
@[go_sem] theorem bin_or : exBin P .or t (.sc (.int k a)) (.sc (.int k b)) = some (.sc (.int k (bits .or k a b))) := by simp [exBin, binI, bits]
@[go_sem] theorem bin_xor : exBin P .xor t (.sc (.int k a)) (.sc (.int k b)) = some (.sc (.int k (bits .xor k a b))) := by simp [exBin, binI, bits]
@[go_sem] theorem bin_eql : exBin P .eql t (.sc (.int k a)) (.sc (.int k b)) = some (.sc (.bool (a == b))) := by simp [exBin, binI]
@[go_sem] theorem bin_neq : exBin P .neq t (.sc (.int k a)) (.sc (.int k b)) = some (.sc (.bool (a != b))) := by simp [exBin, binI]
@[go_sem] theorem bin_lss : exBin P .lss t (.sc (.int k a)) (.sc (.int k b)) = some (.sc (.bool (decide (a < b)))) := by simp [exBin, binI]
@[go_sem] theorem bin_leq : exBin P .leq t (.sc (.int k a)) (.sc (.int k b)) = some (.sc (.bool (decide (a ≤ b)))) := by simp [exBin, binI]
@[go_sem] theorem bin_gtr : exBin P .gtr t (.sc (.int k a)) (.sc (.int k b)) = some (.sc (.bool (decide (b < a)))) := by simp [exBin, binI]
@[go_sem] theorem bin_geq : exBin P .geq t (.sc (.int k a)) (.sc (.int k b)) = some (.sc (.bool (decide (b ≤ a)))) := by simp [exBin, binI]
@[go_sem] theorem bin_shl (k' : IntKind) : exBin P .shl t (.sc (.int k a)) (.sc (.int k' b)) = if b < 0 then none else some (.sc (.int k (k.wrap (a * 2 ^ min b.toNat k.bits)))) := by simp [exBin, shI]; split <;> rfl
@[go_sem] theorem bin_shr (k' : IntKind) : exBin P .shr t (.sc (.int k a)) (.sc (.int k' b)) = if b < 0 then none else some (.sc (.int k (a.fdiv (2 ^ min b.toNat k.bits)))) := by simp [exBin, shI]; split <;> rfl
@[go_sem] theorem bin_beql (x y : Bool) : exBin P .eql t (.sc (.bool x)) (.sc (.bool y)) = if isBool P t = true then some (.sc (.bool (x == y))) else none := rfl
@[go_sem] theorem bin_bneq (x y : Bool) : exBin P .neq t (.sc (.bool x)) (.sc (.bool y)) = if isBool P t = true then some (.sc (.bool (x != y))) else none := rfl
@[go_sem] theorem bin_string (o : BinOp) (x y : ByteArray) : exBin P o t (.sc (.string x)) (.sc (.string y)) = scO (strB o x y) := rfl
@[go_sem] theorem bin_im_nil (o : BinOp) (cs : List V) (n : Nat) : exBin P o t (.im cs n) (.sc (.slice none 0 0)) = if isSl P t = true ∧ 0 < n then nilB o false else none := rfl
@[go_sem] theorem bin_sl_nil (o : BinOp) (id off n z : Nat) (c : Option Nat) : exBin P o t (.sl id off n z c) (.sc (.slice none 0 0)) = if isSl P t = true ∧ 0 < n then nilB o false else none := rfl
@[go_sem] theorem bin_nil_nil (o : BinOp) : exBin P o t (.sc (.slice none 0 0)) (.sc (.slice none 0 0)) = if isSl P t = true then nilB o true else none := rfl
@[go_sem] theorem nilB_eql (b : Bool) : nilB .eql b = some (.sc (.bool b)) := rfl
@[go_sem] theorem nilB_neq (b : Bool) : nilB .neq b = some (.sc (.bool !b)) := rfl
@[go_sem] theorem un_neg : exUn .neg (.sc (.int k a)) = some (.sc (.int k (k.wrap (0 - a)))) := rfl
@[go_sem] theorem un_xor : exUn .xor (.sc (.int k a)) = some (.sc (.int k (bits .xor k (if k.signed then -1 else k.max) a))) := rfl
@[go_sem] theorem un_not (x : Bool) : exUn .not (.sc (.bool x)) = some (.sc (.bool !x)) := rfl
def cvG (h : Bool) (k : Option IntKind) (n : Int) : Option V := if h then k.map fun k => .sc (.int k (k.wrap n)) else none
@[go_sem] theorem cvG_some : cvG true (some k) a = some (.sc (.int k (k.wrap a))) := rfl
@[go_sem] theorem exConv_int {hp : List (Nat × Blk)} (s d : Nat) : exConvH P hp s d (.sc (.int k a)) = cvG (hasT P s) (intOf' P d) a := rfl
@[go_sem] theorem exMin_int (k' : IntKind) : exMin (.sc (.int k a)) (.sc (.int k' b)) = some (.sc (.int k (if b < a then b else a))) := rfl
@[go_sem] theorem exMax_int (k' : IntKind) : exMax (.sc (.int k a)) (.sc (.int k' b)) = some (.sc (.int k (if b > a then b else a))) := rfl
end

/-! making -/
def plG (o : Option (List Value × Pl)) (parts : List (Nat × V)) : Option V :=
  match o with
  | some (z, pl) => (exFill pl (z.map .sc) parts).map .ag
  | none => none
def agO (o : Option (List V)) : Option V := o.map .ag
@[go_sem] theorem agO_some (cs : List V) : agO (some cs) = some (.ag cs) := rfl
@[go_sem] theorem plG_some (z : List Value) (pl : Pl) (parts : List (Nat × V)) : plG (some (z, pl)) parts = agO (exFill pl (z.map .sc) parts) := rfl
@[go_sem] theorem exBuild_eq (t : Nat) (parts : List (Nat × V)) : exBuild P t parts = plG (plOf P t) parts := rfl
def fillG (pl : Pl) (p : Option (Nat × Nat)) (xs : Option (List V)) (cs : List V) (r : List (Nat × V)) : Option (List V) :=
  match p, xs with
  | some (off, sz), some xs => if xs.length = sz ∧ off + xs.length ≤ cs.length then exFill pl (setAll cs off xs) r else none
  | _, _ => none
@[go_sem] theorem fillG_some (pl : Pl) (off sz : Nat) (xs cs : List V) (r : List (Nat × V)) : fillG pl (some (off, sz)) (some xs) cs r = if xs.length = sz ∧ off + xs.length ≤ cs.length then exFill pl (setAll cs off xs) r else none := rfl
@[go_sem] theorem exFill_nil (pl : Pl) (cs : List V) : exFill pl cs [] = some cs := rfl
@[go_sem] theorem exFill_cons (pl : Pl) (cs : List V) (i : Nat) (x : V) (r : List (Nat × V)) : exFill pl cs ((i, x) :: r) = fillG pl (pl.at i) (vcells x) cs r := by
  rw [exFill]; cases pl.at i <;> cases vcells x <;> rfl
@[go_sem] theorem at_st (l : List (Nat × Nat)) (i : Nat) : (Pl.st l).at i = l[i]? := rfl
@[go_sem] theorem at_ar (z i : Nat) : (Pl.ar z).at i = some (i * z, z) := rfl
def bsG (e nx len z : Nat) (o : Option (List V)) : Option (V × Eff) := o.map fun cs => (.sl nx 0 len z (some len), .new ⟨e, cs, false⟩)
@[go_sem] theorem bsG_some (e nx len z : Nat) (cs : List V) : bsG e nx len z (some cs) = some (.sl nx 0 len z (some len), .new ⟨e, cs, false⟩) := rfl
@[go_sem] theorem exBuildSlice_eq (t len : Nat) (parts : List (Nat × V)) : exBuildSlice P t nx len parts = (mkOf P t).bind fun (e, _, zc) => if len * zc.length ≤ 16777216 then bsG e nx len zc.length (exFill (.ar zc.length) (reps len (zc.map .sc)) parts) else none := rfl
@[go_sem] theorem reps_one (m : Nat) (x : V) : reps m [x] = List.replicate m x := rfl
@[go_sem] theorem reps_two (m : Nat) (x y : V) : reps m [x, y] = (List.replicate m [x, y]).flatten := rfl
@[go_sem] theorem exMake_eq (t : Nat) (k k' : IntKind) (l c : Int) : exMake P t nx (.sc (.int k l)) (.sc (.int k' c)) = (mkOf P t).bind fun (e, b, zc) => if 0 ≤ l ∧ l ≤ c ∧ c < 1125899906842624 ∧ b * c ≤ 140737488355328 then some (.sl nx 0 l.toNat zc.length (some c.toNat), .new ⟨e, reps c.toNat (zc.map .sc), false⟩) else none := rfl

/-! slices -/
@[go_sem] theorem exLen_sl (t id off len z : Nat) (c : Option Nat) : exLen P t (.sl id off len z c) = (slOf P t).bind fun _ => some (.sc (.int .i64 len)) := rfl
@[go_sem] theorem exLen_im (t len : Nat) (cs : List V) : exLen P t (.im cs len) = (slOf P t).bind fun _ => some (.sc (.int .i64 len)) := rfl
@[go_sem] theorem exLen_nil (t : Nat) (a : Option Addr) (n c : Nat) : exLen P t (.sc (.slice a n c)) = (slOf P t).bind fun _ => some (.sc (.int .i64 n)) := rfl
@[go_sem] theorem exLen_string (t : Nat) (s : ByteArray) : exLen P t (.sc (.string s)) = if isStr P t = true then some (.sc (.int .i64 s.size)) else none := rfl
@[go_sem] theorem exLen_ag (t : Nat) (cs : List V) : exLen P t (.ag cs) = (arOf P t).bind fun (n, _, _) => some (.sc (.int .i64 n)) := rfl
@[go_sem] theorem lowV_none : lowV none = some 0 := rfl
@[go_sem] theorem lowV_int (k : IntKind) (n : Int) : lowV (some (.sc (.int k n))) = if 0 ≤ n then some n.toNat else none := rfl
@[go_sem] theorem highV_none (len : Nat) : highV len none = some len := rfl
@[go_sem] theorem highV_int (len : Nat) (k : IntKind) (n : Int) : highV len (some (.sc (.int k n))) = if 0 ≤ n then some n.toNat else none := rfl
def bdG (l h : Option Nat) (ub : Nat) : Option (Nat × Nat × Option Nat) := l.bind fun l => h.bind fun h => if l ≤ h ∧ h ≤ ub then some (l, h, none) else none
@[go_sem] theorem bdG_some (l h ub : Nat) : bdG (some l) (some h) ub = if l ≤ h ∧ h ≤ ub then some (l, h, none) else none := rfl
@[go_sem] theorem boundsV_two (len ub : Nat) (lo hi : Option V) : boundsV len ub lo hi none = bdG (lowV lo) (highV len hi) ub := rfl
def bdM (l h : Option Nat) (ub : Nat) (m : Int) : Option (Nat × Nat × Option Nat) := l.bind fun l => h.bind fun h => if 0 ≤ m ∧ l ≤ h ∧ h ≤ m.toNat ∧ m.toNat ≤ ub then some (l, h, some m.toNat) else none
@[go_sem] theorem bdM_some (l h ub : Nat) (m : Int) : bdM (some l) (some h) ub m = if 0 ≤ m ∧ l ≤ h ∧ h ≤ m.toNat ∧ m.toNat ≤ ub then some (l, h, some m.toNat) else none := rfl
@[go_sem] theorem boundsV_three (len ub : Nat) (lo : Option V) (hi : V) (k : IntKind) (m : Int) : boundsV len ub lo (some hi) (some (.sc (.int k m))) = bdM (lowV lo) (highV len (some hi)) ub m := by
  simp only [boundsV, bdM]
  cases lowV lo <;> cases highV len (some hi) <;> simp [intV]
def capOf (len : Nat) : Option Nat → Nat
  | some c => c
  | none => len
@[go_sem] theorem capOf_some (len c : Nat) : capOf len (some c) = c := rfl
@[go_sem] theorem capOf_none (len : Nat) : capOf len none = len := rfl
def capG (l : Nat) (m cap : Option Nat) : Option Nat :=
  match m with
  | some m => some (m - l)
  | none => cap.map (· - l)
@[go_sem] theorem capG_some (l m : Nat) (cap : Option Nat) : capG l (some m) cap = some (m - l) := rfl
@[go_sem] theorem capG_cap (l c : Nat) : capG l none (some c) = some (c - l) := rfl
@[go_sem] theorem capG_none (l : Nat) : capG l none none = none := rfl
@[go_sem] theorem exSlice_sl (t id off len z : Nat) (cap : Option Nat) (lo hi mx : Option V) : exSlice P hp t (.sl id off len z cap) lo hi mx = (slOf P t).bind fun (_, z') => (boundsV len (capOf len cap) lo hi mx).bind fun (l, h, m) =>
    if z' = z ∧ (l = 0 ∨ l < h) then some (.sl id (off + l * z) (h - l) z (capG l m cap)) else none := by
  cases cap <;> rfl
@[go_sem] theorem exSlice_im (t len : Nat) (cs : List V) (lo hi mx : Option V) : exSlice P hp t (.im cs len) lo hi mx = (slOf P t).bind fun (_, z) => (boundsV len len lo hi mx).bind fun (l, h, _) => some (.im ((cs.drop (l * z)).take ((h - l) * z)) (h - l)) := rfl
@[go_sem] theorem exSlice_nil (t : Nat) (lo hi mx : Option V) : exSlice P hp t (.sc (.slice none 0 0)) lo hi mx = (slOf P t).bind fun _ => (boundsV 0 0 lo hi mx).bind fun _ => some (.sc (.slice none 0 0)) := rfl
def blkLen : Option Blk → Option Nat
  | some k => some k.cs.length
  | none => none
@[go_sem] theorem blkLen_some (ty : Nat) (cs : List V) (fz : Bool) : blkLen (some ⟨ty, cs, fz⟩) = some cs.length := rfl
@[go_sem] theorem exSlice_pt (t id off : Nat) (lo hi mx : Option V) : exSlice P hp t (.pt id off) lo hi mx = (arOf P t).bind fun (n, _, z) => (blkLen (hget hp id)).bind fun kl => (boundsV n n lo hi mx).bind fun (l, h, m) =>
    if off + n * z ≤ kl ∧ n ≤ maxLen ∧ (l = 0 ∨ l < h) then some (.sl id (off + l * z) (h - l) z (some (capOf n m - l))) else none := by
  simp only [exSlice]
  cases arOf P t with
  | none => rfl
  | some p =>
    cases hget hp id with
    | none => rfl
    | some k =>
      obtain ⟨n, e, z⟩ := p
      simp only [Option.bind_some]
      cases boundsV n n lo hi mx with
      | none => rfl
      | some q => obtain ⟨l, h, m⟩ := q; cases m <;> rfl
@[go_sem] theorem exSlice_pi (t : Nat) (cs : List V) (lo hi mx : Option V) : exSlice P hp t (.pi cs) lo hi mx = (arOf P t).bind fun (n, _, z) => (boundsV n n lo hi mx).bind fun (l, h, _) =>
    if n ≤ maxLen ∧ (l = 0 ∨ l < h) then some (.im ((cs.drop (l * z)).take ((h - l) * z)) (h - l)) else none := rfl
def srcG (off len z : Nat) : Option Blk → Option (List V × Nat)
  | some k => if off + len * z ≤ k.cs.length then some ((k.cs.drop off).take (len * z), len) else none
  | none => none
@[go_sem] theorem srcG_some (off len z ty : Nat) (cs : List V) (fz : Bool) : srcG off len z (some ⟨ty, cs, fz⟩) = if off + len * z ≤ cs.length then some ((cs.drop off).take (len * z), len) else none := rfl
@[go_sem] theorem srcV_sl (id off len z : Nat) (c : Option Nat) : srcV hp (.sl id off len z c) = srcG off len z (hget hp id) := by
  simp only [srcV]; cases hget hp id <;> rfl
@[go_sem] theorem srcV_im (len : Nat) (cs : List V) : srcV hp (.im cs len) = some (cs, len) := rfl
@[go_sem] theorem srcV_nil : srcV hp (.sc (.slice none 0 0)) = some ([], 0) := rfl
def apG (nx e by' id off n z lz m : Nat) (ys : List V) : Option Blk → Option (V × Eff)
  | some k => if off = 0 ∧ z = lz ∧ k.fz = false ∧ k.ty = e ∧ n * z ≤ k.cs.length ∧ n + m < 1125899906842624 ∧ (n + m) * by' ≤ 140737488355328 then some (.sl nx 0 (n + m) z none, .app id ⟨e, k.cs.take (n * z) ++ ys, false⟩) else none
  | none => none
@[go_sem] theorem apG_some (e by' id off n z lz m ty : Nat) (ys cs : List V) : apG nx e by' id off n z lz m ys (some ⟨ty, cs, false⟩) = if off = 0 ∧ z = lz ∧ ty = e ∧ n * z ≤ cs.length ∧ n + m < 1125899906842624 ∧ (n + m) * by' ≤ 140737488355328 then some (.sl nx 0 (n + m) z none, .app id ⟨e, cs.take (n * z) ++ ys, false⟩) else none := by
  simp [apG]
def apF (hp : List (Nat × Blk)) (nx : Nat) (o : Option (TypeId × Nat × List Value)) (q : Option (List V × Nat)) (s : V) : Option (V × Eff) :=
  o.bind fun (e, by', zc) => q.bind fun (ys, m) =>
    if ys.length = m * zc.length ∧ ys.all V.one = true then
      match s with
      | .sl id off n z _ => (hget hp id).bind fun k =>
        if off = 0 ∧ z = zc.length ∧ k.fz = false ∧ k.ty = e ∧ n * z ≤ k.cs.length ∧ n + m < 1125899906842624 ∧ (n + m) * by' ≤ 140737488355328 then some (.sl nx 0 (n + m) z none, .app id ⟨e, k.cs.take (n * z) ++ ys, false⟩) else none
      | .sc (.slice none 0 0) => if 0 < m ∧ m < 1125899906842624 ∧ m * by' ≤ 140737488355328 then some (.sl nx 0 m zc.length none, .new ⟨e, ys, false⟩) else none
      | _ => none
    else none
@[go_sem] theorem apF_sl (e by' m id off n z : Nat) (zc : List Value) (ys : List V) (c : Option Nat) : apF hp nx (some (e, by', zc)) (some (ys, m)) (.sl id off n z c) = if ys.length = m * zc.length ∧ ys.all V.one = true then apG nx e by' id off n z zc.length m ys (hget hp id) else none := by
  simp only [apF, Option.bind_some]
  cases hget hp id <;> rfl
@[go_sem] theorem apF_nil (e by' m : Nat) (zc : List Value) (ys : List V) : apF hp nx (some (e, by', zc)) (some (ys, m)) (.sc (.slice none 0 0)) = if ys.length = m * zc.length ∧ ys.all V.one = true then (if 0 < m ∧ m < 1125899906842624 ∧ m * by' ≤ 140737488355328 then some (.sl nx 0 m zc.length none, .new ⟨e, ys, false⟩) else none) else none := rfl
@[go_sem] theorem exAppend_eq (t : Nat) (s x : V) : exAppend P hp nx t s x = apF hp nx (mkOf P t) (srcV hp x) s := by
  unfold exAppend apF
  cases mkOf P t with
  | none => rfl
  | some p =>
    cases srcV hp x with
    | none => rfl
    | some q => rfl
def cpG (id off dlen m : Nat) (ys : List V) : Option Blk → Option (V × Eff)
  | some k => if ys.length = m ∧ k.fz = false ∧ off + dlen ≤ k.cs.length ∧ ys.all V.one = true then some (.sc (.int .i64 (min m dlen : Nat)), .set id ⟨k.ty, setAll k.cs off (ys.take (min m dlen)), false⟩) else none
  | none => none
@[go_sem] theorem cpG_some (id off dlen m ty : Nat) (ys cs : List V) : cpG id off dlen m ys (some ⟨ty, cs, false⟩) = if ys.length = m ∧ off + dlen ≤ cs.length ∧ ys.all V.one = true then some (.sc (.int .i64 (min m dlen : Nat)), .set id ⟨ty, setAll cs off (ys.take (min m dlen)), false⟩) else none := by
  simp [cpG]
@[go_sem] theorem exCopy_sl (t id off dlen z : Nat) (c : Option Nat) (x : V) : exCopy P hp t (.sl id off dlen z c) x = (slOf P t).bind fun (_, z') => (srcV hp x).bind fun (ys, m) => if z' = 1 ∧ z = 1 then cpG id off dlen m ys (hget hp id) else none := by
  simp only [exCopy]
  cases slOf P t with
  | none => rfl
  | some p =>
    cases srcV hp x with
    | none => rfl
    | some q =>
      obtain ⟨e, z'⟩ := p
      obtain ⟨ys, m⟩ := q
      simp only [Option.bind_some]
      cases hget hp id with
      | none => simp [cpG]
      | some k => simp only [Option.bind_some, cpG]; by_cases h : z' = 1 <;> by_cases h' : z = 1 <;> simp [h, h']

/-! calls -/
@[go_sem] theorem clo_int (k : IntKind) (n : Int) : clo (.sc (.int k n)) = true := rfl
@[go_sem] theorem clo_bool (b : Bool) : clo (.sc (.bool b)) = true := rfl
@[go_sem] theorem clo_string (b : ByteArray) : clo (.sc (.string b)) = true := rfl
@[go_sem] theorem clo_slice (a : Option Addr) (n c : Nat) : clo (.sc (.slice a n c)) = false := rfl
@[go_sem] theorem clo_im (cs : List V) (n : Nat) : clo (.im cs n) = true := rfl
@[go_sem] theorem clo_sl (id off n z : Nat) (c : Option Nat) : clo (.sl id off n z c) = false := rfl
def fzC (g : V → Option (V × List Nat)) (r : List V) : Option (V × List Nat) → Option (List V × List Nat)
  | some p => (frzAll g r).map fun q => (p.1 :: q.1, p.2 ++ q.2)
  | none => none
def fzD (y : V) (i : List Nat) (o : Option (List V × List Nat)) : Option (List V × List Nat) := o.map fun q => (y :: q.1, i ++ q.2)
@[go_sem] theorem fzD_some (y : V) (i j : List Nat) (ys : List V) : fzD y i (some (ys, j)) = some (y :: ys, i ++ j) := rfl
@[go_sem] theorem fzC_some (g : V → Option (V × List Nat)) (r : List V) (y : V) (i : List Nat) : fzC g r (some (y, i)) = fzD y i (frzAll g r) := rfl
@[go_sem] theorem frzAll_nil (g : V → Option (V × List Nat)) : frzAll g [] = some ([], []) := rfl
@[go_sem] theorem frzAll_cons (g : V → Option (V × List Nat)) (c : V) (r : List V) : frzAll g (c :: r) = fzC g r (g c) := by
  rw [frzAll]; cases g c <;> rfl
def fzA (o : Option (List V × List Nat)) : Option (V × List Nat) := o.map fun p => (.ag p.1, p.2)
@[go_sem] theorem fzA_some (ys : List V) (i : List Nat) : fzA (some (ys, i)) = some (.ag ys, i) := rfl
def fzT (o : Option (List V × List Nat)) : Option (V × List Nat) := o.map fun p => (.tu p.1, p.2)
@[go_sem] theorem fzT_some (ys : List V) (i : List Nat) : fzT (some (ys, i)) = some (.tu ys, i) := rfl
def fzS (id m : Nat) (o : Option (List V × List Nat)) : Option (V × List Nat) := o.map fun p => (.im p.1 m, id :: p.2)
@[go_sem] theorem fzS_some (id m : Nat) (ys : List V) (i : List Nat) : fzS id m (some (ys, i)) = some (.im ys m, id :: i) := rfl
def fzQ (n : Nat) (hp : List (Nat × Blk)) (id : Nat) : Option (List V × Nat) → Option (V × List Nat)
  | some q => fzS id q.2 (frzL (frz n hp) q.1)
  | none => none
@[go_sem] theorem fzQ_some (n id m : Nat) (cs : List V) : fzQ n hp id (some (cs, m)) = fzS id m (frzL (frz n hp) cs) := rfl
section
variable (n : Nat)
@[go_sem] theorem frz_int (k : IntKind) (m : Int) : frz (n + 1) hp (.sc (.int k m)) = some (.sc (.int k m), []) := rfl
@[go_sem] theorem frz_bool (b : Bool) : frz (n + 1) hp (.sc (.bool b)) = some (.sc (.bool b), []) := rfl
@[go_sem] theorem frz_string (b : ByteArray) : frz (n + 1) hp (.sc (.string b)) = some (.sc (.string b), []) := rfl
@[go_sem] theorem frz_nil : frz (n + 1) hp (.sc (.slice none 0 0)) = some (.im [] 0, []) := rfl
@[go_sem] theorem frz_im (cs : List V) (m : Nat) : frz (n + 1) hp (.im cs m) = some (.im cs m, []) := rfl
@[go_sem] theorem frz_ag (cs : List V) : frz (n + 1) hp (.ag cs) = fzA (frzL (frz n hp) cs) := rfl
@[go_sem] theorem frz_tu (cs : List V) : frz (n + 1) hp (.tu cs) = fzT (frzL (frz n hp) cs) := rfl
@[go_sem] theorem frz_sl (id off len z : Nat) (c : Option Nat) : frz (n + 1) hp (.sl id off len z c) = fzQ n hp id (srcG off len z (hget hp id)) := by
  rw [← srcV_sl (hp := hp) id off len z none]
  rw [frz]; cases srcV hp (.sl id off len z none) <;> rfl
end
@[go_sem] theorem frzL_eq (g : V → Option (V × List Nat)) (cs : List V) : frzL g cs = if cs.all clo = true then some (cs, []) else frzAll g cs := rfl
@[go_sem] theorem flat1_int (k : IntKind) (n : Int) : flat1 (.sc (.int k n)) = true := rfl
@[go_sem] theorem flat1_bool (b : Bool) : flat1 (.sc (.bool b)) = true := rfl
@[go_sem] theorem flat1_string (b : ByteArray) : flat1 (.sc (.string b)) = true := rfl
@[go_sem] theorem flat_sc (v : Value) : flat (.sc v) = true := rfl
@[go_sem] theorem flat2_sc (v : Value) : flat2 (.sc v) = true := rfl
@[go_sem] theorem flat_tu (cs : List V) : flat (.tu cs) = cs.all flat2 := rfl
@[go_sem] theorem calledF_eq (s : SS) (d : Option Nat) (x : V) (ids : List Nat) : SS.calledF s d x ids = ⟨putS s.sl d x, fzHp s.hp ids, s.nx, s.nt⟩ := rfl
@[go_sem] theorem called_flat (s : SS) (d : Option Nat) (v : Value) (ids : List Nat) : SS.called s d (.sc v) ids = ⟨putS s.sl d (.sc v), s.hp, s.nx, s.nt⟩ := rfl
@[go_sem] theorem called_nil (s : SS) (d : Option Nat) (x : V) : SS.called s d x [] = ⟨putS s.sl d x, s.hp, s.nx, s.nt⟩ := by
  unfold SS.called
  have : fzHp s.hp [] = s.hp := by unfold fzHp; simp
  rw [this]; split <;> rfl
def calledG (s : SS) (d : Option Nat) (x : V) (ids : List Nat) (f : Bool) : SS := ⟨putS s.sl d x, if f = true then s.hp else fzHp s.hp ids, s.nx, s.nt⟩
@[go_sem] theorem calledG_yes (s : SS) (d : Option Nat) (x : V) (ids : List Nat) : calledG s d x ids true = ⟨putS s.sl d x, s.hp, s.nx, s.nt⟩ := rfl
@[go_sem] theorem calledG_no (s : SS) (d : Option Nat) (x : V) (ids : List Nat) : calledG s d x ids false = ⟨putS s.sl d x, fzHp s.hp ids, s.nx, s.nt⟩ := rfl
@[go_sem] theorem called_im (s : SS) (d : Option Nat) (c : V) (cs : List V) (n i : Nat) (ids : List Nat) : SS.called s d (.im (c :: cs) n) (i :: ids) = ⟨putS s.sl d (.im (c :: cs) n), fzHp s.hp (i :: ids), s.nx, s.nt⟩ := rfl
@[go_sem] theorem fzHp_nil (ids : List Nat) : fzHp [] ids = [] := rfl
@[go_sem] theorem fzHp_cons (i : Nat) (k : Blk) (r : List (Nat × Blk)) (ids : List Nat) : fzHp ((i, k) :: r) ids = (i, if ids.contains i = true then ⟨k.ty, k.cs, true⟩ else k) :: fzHp r ids := rfl

/-! results, entering -/
@[go_sem] theorem stSl_nil (k : Nat) : stSl k [] = [] := rfl
@[go_sem] theorem stSl_cons (k : Nat) (x : V) (r : List V) : stSl k (x :: r) = (k, x) :: stSl (k + 1) r := rfl
@[go_sem] theorem start_eq (args : List V) (n : Nat) : SS.start args n = ⟨stSl 0 args, [], 0, n⟩ := rfl
@[go_sem] theorem resV1_tmp (s : SS) (t : Nat) : resV1 P s (.tmp t) = some (get s.sl t) := rfl
@[go_sem] theorem resV1_cell (s : SS) (p ty : Nat) : resV1 P s (.cell p ty) = exLoad P s.hp ty (get s.sl p) := rfl
def resG (P : Program) (s : SS) (l : List ResultVar) : Option V :=
  match l with
  | [] => some (.tu [])
  | [r] => resV1 P s r
  | [r, q] => (resV1 P s r).bind fun x => (resV1 P s q).map fun y => .tu [x, y]
  | [r, q, t] => (resV1 P s r).bind fun x => (resV1 P s q).bind fun y => (resV1 P s t).map fun z => .tu [x, y, z]
  | _ => none
@[go_sem] theorem resG_one (s : SS) (r : ResultVar) : resG P s [r] = resV1 P s r := rfl
@[go_sem] theorem resG_two (s : SS) (r q : ResultVar) : resG P s [r, q] = (resV1 P s r).bind fun x => (resV1 P s q).bind fun y => some (.tu [x, y]) := by
  simp only [resG]; cases resV1 P s r <;> cases resV1 P s q <;> rfl
@[go_sem] theorem resG_three (s : SS) (r q t : ResultVar) : resG P s [r, q, t] = (resV1 P s r).bind fun x => (resV1 P s q).bind fun y => (resV1 P s t).bind fun z => some (.tu [x, y, z]) := by
  simp only [resG]; cases resV1 P s r <;> cases resV1 P s q <;> cases resV1 P s t <;> rfl
theorem resV_eq (fn : Func) (s : SS) : resV P fn s = resG P s fn.results.toList := rfl
end
attribute [go_sem] Option.bind_some Option.bind_none Option.map_some Option.map_none decide_eq_true_eq Bool.false_eq_true List.toList_toArray
attribute [go_sem] List.contains_cons List.contains_nil Bool.or_false Bool.false_or Bool.or_true Bool.true_or
attribute [go_sem] List.map_cons List.map_nil List.length_cons List.length_nil List.all_cons List.all_nil Bool.and_true Bool.and_self Bool.true_and or_self and_self or_false false_or true_and and_true not_false_eq_true not_true_eq_false
attribute [go_sem] List.getElem?_cons_zero List.getElem?_cons_succ List.getElem?_toArray List.set_cons_zero List.set_cons_succ List.set_nil List.drop_zero List.drop_succ_cons List.take_zero List.take_succ_cons List.drop_nil List.take_nil List.nil_append List.cons_append Int.toNat_natCast Nat.zero_add Nat.add_zero Nat.mul_one Nat.zero_mul Nat.sub_zero

section
variable {P : Program} {w : World} {B : Base} {s : SS}
/-- code in a row, from a symbolic state on -/
def SC (P : Program) (B : Base) : List Code → (Exit → SS → Prop) → SS → Prop
  | [], Q, s => Q .normal s
  | c :: cs, Q, s => SWp P B c (thenQ (SC P B cs Q) Q) s
/-- the rest of a region, with the code behind it -/
def SO (P : Program) (B : Base) (ops : Array Oper) (l : List Oper) (cs : List Code) (Q : Exit → SS → Prop) (s : SS) : Prop := SOps P B ops l (thenQ (SC P B cs Q) Q) s

variable {cs : List Code} {Q : Exit → SS → Prop}
theorem SC.of {c : Code} (h : SC P B [c] Q s) : SWp P B c Q s := SWp.mono h fun e s h => by cases e <;> exact h
theorem SC.seq {a b : Code} (h : SC P B (a :: b :: cs) Q s) : SC P B (.seq a b :: cs) Q s :=
  SWp.seq fun K hK => SWp.mono h fun e s h => by
    cases e <;> first | exact hK _ h | exact h
theorem SC.skip (h : SC P B cs Q s) : SC P B (.skip :: cs) Q s := SWp.skip h
theorem SC.label {l : Nat} (h : SC P B cs Q s) : SC P B (.label l :: cs) Q s := SWp.label h
theorem SC.exit {id : Nat} (h : Q (.exit id) s) : SC P B (.exit id :: cs) Q s := SWp.exit h
theorem SC.ret (h : Q .ret s) : SC P B (.ret :: cs) Q s := SWp.ret h
theorem SC.region {id : Nat} {l : List Oper} {s' : SS} (h : runL P l.toArray s l = some s') (k : SC P B cs Q s') : SC P B (.region id l.toArray false :: cs) Q s := SWp.region (SOps.all h k)
theorem SC.ops {id : Nat} {l : List Oper} (k : SO P B l.toArray l cs Q s) : SC P B (.region id l.toArray false :: cs) Q s := SWp.region k
theorem SC.cond {c : Operand} {x y : Code} {t : Bool} (hc : evS s.sl c = .sc (.bool t)) (h1 : t = true → SC P B (x :: cs) Q s) (h2 : t = false → SC P B (y :: cs) Q s) : SC P B (.cond c x y :: cs) Q s := SWp.cond hc h1 h2
theorem SC.block {id : Nat} {c : Code} (h : SC P B [c] (blockQ id (thenQ (SC P B cs Q) Q)) s) : SC P B (.block id c :: cs) Q s := SWp.block (SC.of h)
theorem SC.scope {c : Code} (h : SC P B [c] (scopeQ (thenQ (SC P B cs Q) Q)) s) : SC P B (.scope c :: cs) Q s := SWp.scope (SC.of h)
theorem SC.weak {s' : SS} : ∀ {cs : List Code} {Q : Exit → SS → Prop}, cs ≠ [] → Le B s s' → SC P B cs Q s' → SC P B cs Q s
  | [], _, h, _, _ => absurd rfl h
  | _ :: _, _, _, h, k => SWp.weak h k
theorem SC.loop {α : Type} {c : Code} (I : α → SS) (Inv : α → Prop) (mu : α → Nat) (x0 : α) (h0 : Le B s (I x0)) (hi : Inv x0)
    (round : ∀ x, Inv x → ∀ K : SS → Prop, (∀ s' x', Le B s' (I x') → Inv x' → mu x' < mu x → K s') → SC P B [c] (thenQ K (thenQ (SC P B cs Q) Q)) (I x)) : SC P B (.loop c :: cs) Q s :=
  SWp.loop I Inv mu x0 h0 hi fun x hx K hK => SC.of (round x hx K hK)
/-- two ways that meet again -/
theorem SC.condI {α : Type} (I : α → SS) (Inv : α → Prop) {c : Operand} {x y c0 : Code} {t : Bool} (hc : evS s.sl c = .sc (.bool t))
    (h1 : t = true → ∀ K : SS → Prop, (∀ s' z, Le B s' (I z) → Inv z → K s') → SC P B [x] (thenQ K Q) s) (h2 : t = false → ∀ K : SS → Prop, (∀ s' z, Le B s' (I z) → Inv z → K s') → SC P B [y] (thenQ K Q) s)
    (k : ∀ z, Inv z → SC P B (c0 :: cs) Q (I z)) : SC P B (.cond c x y :: c0 :: cs) Q s := by
  have key : ∀ (c : Code), (∀ K : SS → Prop, (∀ s' z, Le B s' (I z) → Inv z → K s') → SC P B [c] (thenQ K Q) s) → SC P B (c :: c0 :: cs) Q s := by
    intro c hx
    refine SWp.mono (hx (fun s' => ∃ z, Le B s' (I z) ∧ Inv z) (fun s' z a b => ⟨z, a, b⟩)) ?_
    intro e s' hq
    cases e <;> first | exact hq | skip
    obtain ⟨z, a, b⟩ := hq
    exact SC.weak (by simp) a (k z b)
  exact SC.cond hc (fun h => key x (h1 h)) (fun h => key y (h2 h))
theorem SC.nil (h : Q .normal s) : SC P B [] Q s := h

theorem retQ_ret {fn : Func} {x x' y : V} {ids : List Nat} {rs : List ResultVar} (hr : fn.results = rs.toArray) (h1 : resG P s rs = some y) (h2 : frz 8 s.hp y = some (x', ids)) (h3 : x' = x) : retQ P fn x .ret s := ⟨y, ids, by rw [resV_eq, hr]; exact h1, h3 ▸ h2⟩
theorem retQ_normal {fn : Func} {x x' y : V} {ids : List Nat} {rs : List ResultVar} (hr : fn.results = rs.toArray) (h1 : resG P s rs = some y) (h2 : frz 8 s.hp y = some (x', ids)) (h3 : x' = x) : retQ P fn x .normal s := ⟨y, ids, by rw [resV_eq, hr]; exact h1, h3 ▸ h2⟩
variable {ops : Array Oper} {o : Oper} {l : List Oper}
theorem SO.nil (h : SC P B cs Q s) : SO P B ops [] cs Q s := SOps.nil h
theorem SO.run {s' : SS} (h : run1 P ops s o = some s') (k : SO P B ops l cs Q s') : SO P B ops (o :: l) cs Q s := SOps.run1 h k
/-- a call of f with ys, whose result goes to d -/
def SCall (P : Program) (B : Base) (f : Nat) (ys : List V) (ids : List Nat) (d : Option Nat) (ops : Array Oper) (l : List Oper) (cs : List Code) (Q : Exit → SS → Prop) (s : SS) : Prop :=
  ∃ x, Spec P f ys x ∧ (SO P B ops l cs Q (s.called d x ids) ∨ SO P B ops l cs Q (s.calledF d x ids))
theorem SO.call {f : Nat} {args : List Operand} {ts : Array TypeId} {d : Option Tmp} {ty : TypeId} {pos : String} {after : Array Edge} {gd : Option (Nat × Bool)} {ys : List V} {ids : List Nat}
    (hgo : isGo P f = true) (hf : frzAll (frz 8 s.hp) (args.map (evS s.sl)) = some (ys, ids)) (hg : guardV ops s.sl gd = some true ∧ dstOk d s.nt = true) (k : SCall P B f ys ids d ops l cs Q s) : SO P B ops (⟨d, .call ⟨.value (.func f), args.toArray, ts⟩, ty, pos, after, gd⟩ :: l) cs Q s :=
  match k with
  | ⟨_, hs, .inl k⟩ => SOps.call rfl hg.1 hg.2 hgo hf hs k
  | ⟨_, hs, .inr k⟩ => SOps.callF rfl hg.1 hg.2 hgo hf hs k
theorem SCall.of {f : Nat} {ys : List V} {ids : List Nat} {d : Option Nat} {x : V} {s' : SS} (hs : Spec P f ys x) (hn : s.called d x ids = s') (k : SO P B ops l cs Q s') : SCall P B f ys ids d ops l cs Q s := ⟨x, hs, .inl (hn ▸ k)⟩
theorem SCall.ofF {f : Nat} {ys : List V} {ids : List Nat} {d : Option Nat} {x : V} {s' : SS} (hs : Spec P f ys x) (hn : s.calledF d x ids = s') (k : SO P B ops l cs Q s') : SCall P B f ys ids d ops l cs Q s := ⟨x, hs, .inr (hn ▸ k)⟩

theorem bq_same {id : Nat} (h : Q .normal s) : blockQ id Q (.exit id) s := by simp only [blockQ, if_true]; exact h
theorem bq_other {id id' : Nat} (hn : id' ≠ id) (h : Q (.exit id') s) : blockQ id Q (.exit id') s := by simp only [blockQ, if_neg hn]; exact h
theorem bq_normal {id : Nat} (h : Q .normal s) : blockQ id Q .normal s := h
theorem bq_ret {id : Nat} (h : Q .ret s) : blockQ id Q .ret s := h
theorem tq_normal {K : SS → Prop} (h : K s) : thenQ K Q .normal s := h
theorem tq_exit {K : SS → Prop} {id : Nat} (h : Q (.exit id) s) : thenQ K Q (.exit id) s := h
theorem tq_ret {K : SS → Prop} (h : Q .ret s) : thenQ K Q .ret s := h
theorem sq_normal (h : Q .normal s) : scopeQ Q .normal s := h
theorem sq_exit {id : Nat} (h : Q (.exit id) s) : scopeQ Q (.exit id) s := h
theorem sq_ret (h : Q .ret s) : scopeQ Q .ret s := h

theorem Spec.run {f : Nat} {fn : Func} {c : Code} {args : List V} {x : V} {n : Nat} {s0 : SS} (hf : P.funcs[f]? = some fn) (hb : fn.body = some c) (hnt : fn.ntmps = n) (hn : args.length ≤ n) (h0 : SS.start args n = s0) (h : ∀ B : Base, B.Old 0 → SC P B [c] (retQ P fn x) s0) : Spec P f args x := by
  subst hnt; subst h0
  exact Spec.of hf hb hn fun B hB => SC.of (h B hB)
end
end Go.Proofs.YtbpcgeanpkokkaaDoor
