/- Texts joined: Sj Sk So Sp Sq Sr Ss St Sx Sn Su Sw Tab. -/
import Derived.WalkSmall
import Derived.Test.YtpodnbcdddcdmaaGreatDoorProg
import Derived.KernelRfl
import Derived.Test.YtpodnbcdddcdmaaGreatDoorVa
set_option linter.all false
/- What simp is to know for runs on symbolic states. -/
namespace Go.Proofs.YtpodnbcdddcdmaaGreatDoor
open Go.RowKit
section
variable {P : Program} {sl : List (Nat × V)} {hp : List (Nat × Blk)} {nx nt : Nat} {ops : Array Oper}
/-! slots and own blocks -/
@[go_sem] theorem get_nil (t : Nat) : get [] t = .junk := rfl
@[go_sem] theorem get_cons (k : Nat) (x : V) (r : List (Nat × V)) (t : Nat) : get ((k, x) :: r) t = if t = k then x else get r t := rfl
@[go_sem] theorem hget_nil (t : Nat) : hget [] t = none := rfl
@[go_sem] theorem hget_cons (k : Nat) (x : Blk) (r : List (Nat × Blk)) (t : Nat) : hget ((k, x) :: r) t = if t = k then some x else hget r t := rfl
@[go_sem] theorem hset_nil (t : Nat) (y : Blk) : hset [] t y = [] := rfl
@[go_sem] theorem hset_cons (k : Nat) (x : Blk) (r : List (Nat × Blk)) (t : Nat) (y : Blk) : hset ((k, x) :: r) t y = if t = k then (k, y) :: r else (k, x) :: hset r t y := rfl
@[go_sem] theorem hdel_nil (t : Nat) : hdel [] t = [] := rfl
@[go_sem] theorem hdel_cons (k : Nat) (x : Blk) (r : List (Nat × Blk)) (t : Nat) : hdel ((k, x) :: r) t = if k = t then hdel r t else (k, x) :: hdel r t := by
  unfold hdel; rw [List.filter_cons]; by_cases h : k = t <;> simp [h]
@[go_sem] theorem putS_some (d : Nat) (x : V) : putS sl (some d) x = (d, x) :: sl := rfl
@[go_sem] theorem putS_none (x : V) : putS sl none x = sl := rfl
@[go_sem] theorem heap_none : Eff.heap .none nx hp = hp := rfl
@[go_sem] theorem heap_new (k : Blk) : Eff.heap (.new k) nx hp = (nx, k) :: hp := rfl
@[go_sem] theorem heap_set (id : Nat) (k : Blk) : Eff.heap (.set id k) nx hp = hset hp id k := rfl
@[go_sem] theorem heap_app (id : Nat) (k : Blk) : Eff.heap (.app id k) nx hp = (nx, k) :: hdel hp id := rfl
@[go_sem] theorem next_none : Eff.next .none nx = nx := rfl
@[go_sem] theorem next_new (k : Blk) : Eff.next (.new k) nx = nx + 1 := rfl
@[go_sem] theorem next_set (id : Nat) (k : Blk) : Eff.next (.set id k) nx = nx := rfl
@[go_sem] theorem next_app (id : Nat) (k : Blk) : Eff.next (.app id k) nx = nx + 1 := rfl
@[go_sem] theorem put_mk (d : Option Nat) (x : V) (f : Eff) : SS.put ⟨sl, hp, nx, nt⟩ d x f = ⟨putS sl d x, f.heap nx hp, f.next nx, nt⟩ := rfl
@[go_sem] theorem dstOk_some (d n : Nat) : dstOk (some d) n = decide (d < n) := rfl
@[go_sem] theorem dstOk_none (n : Nat) : dstOk none n = true := rfl
/-! single operations -/
@[go_sem] theorem guardV_none : guardV ops sl none = some true := rfl
def guardB : V → Bool → Option Bool
  | .sc (.bool b), want => some (b == want)
  | .tu [], _ => some false
  | _, _ => none
@[go_sem] theorem guardB_skip (want : Bool) : guardB (.tu []) want = some false := rfl
@[go_sem] theorem guardB_bool (b want : Bool) : guardB (.sc (.bool b)) want = some (b == want) := rfl
def guardD (d : Option Nat) (sl : List (Nat × V)) (want : Bool) : Option Bool :=
  match d with
  | some d => guardB (get sl d) want
  | none => none
@[go_sem] theorem guardD_some (d : Nat) (want : Bool) : guardD (some d) sl want = guardB (get sl d) want := rfl
@[go_sem] theorem guardV_some (j : Nat) (want : Bool) : guardV ops sl (some (j, want)) = guardD ((ops[j]?).bind (·.dst)) sl want := by
  unfold guardV guardD
  simp only
  cases (ops[j]?).bind (·.dst) with
  | none => rfl
  | some d =>
    simp only
    generalize get sl d = x
    unfold guardB
    cases x with
    | sc v => cases v <;> rfl
    | tu l => cases l <;> rfl
    | _ => rfl
def fin1 (g : Option Bool) (r : Option (V × Eff)) (d : Option Nat) (s : SS) : Option SS :=
  match g with
  | some true => r.map fun p => s.put d p.1 p.2
  | some false => some (s.put d (.tu []) .none)
  | none => none
@[go_sem] theorem fin1_yes (x : V) (f : Eff) (d : Option Nat) (s : SS) : fin1 (some true) (some (x, f)) d s = some (s.put d x f) := rfl
@[go_sem] theorem fin1_no (r : Option (V × Eff)) (d : Option Nat) (s : SS) : fin1 (some false) r d s = some (s.put d (.tu []) .none) := rfl
@[go_sem] theorem run1_mk (d : Option Tmp) (op : Op) (ty : TypeId) (pos : String) (after : Array Edge) (gd : Option (Nat × Bool)) :
    run1 P ops ⟨sl, hp, nx, nt⟩ ⟨d, op, ty, pos, after, gd⟩ = if dstOk d nt = true then fin1 (guardV ops sl gd) (exOp P sl hp nx op) d ⟨sl, hp, nx, nt⟩ else none := by
  unfold run1 fin1
  rfl
def thenL (P : Program) (ops : Array Oper) (r : Option SS) (l : List Oper) : Option SS := r.bind fun s => runL P ops s l
@[go_sem] theorem thenL_some (s : SS) (l : List Oper) : thenL P ops (some s) l = runL P ops s l := rfl
@[go_sem] theorem runL_nil (s : SS) : runL P ops s [] = some s := rfl
@[go_sem] theorem runL_cons (s : SS) (o : Oper) (l : List Oper) : runL P ops s (o :: l) = thenL P ops (run1 P ops s o) l := by
  rw [runL]; cases run1 P ops s o <;> rfl
@[go_sem] theorem evS_tmp (t : Nat) : evS sl (.tmp t) = get sl t := rfl
@[go_sem] theorem evS_const (v : Value) : evS sl (.const v) = ofV v := rfl
@[go_sem] theorem evS_global (g : Nat) : evS sl (.global g) = globV g := rfl
@[go_sem] theorem evS_func (f : Nat) : evS sl (.func f) = .sc (.func (.func f) #[] #[]) := rfl
@[go_sem] theorem ofV_int (k : IntKind) (n : Int) : ofV (.int k n) = .sc (.int k n) := rfl
@[go_sem] theorem ofV_bool (b : Bool) : ofV (.bool b) = .sc (.bool b) := rfl
@[go_sem] theorem ofV_string (b : ByteArray) : ofV (.string b) = .sc (.string b) := rfl
@[go_sem] theorem ofV_slice (a : Option Addr) (l c : Nat) : ofV (.slice a l c) = .sc (.slice a l c) := rfl
@[go_sem] theorem ofV_pointer (a : Option Addr) : ofV (.pointer a) = .sc (.pointer a) := rfl
@[go_sem] theorem ofV_nilFunc : ofV .nilFunc = .sc .nilFunc := rfl
@[go_sem] theorem ofV_map (r : Option Nat) : ofV (.map r) = .sc (.map r) := rfl
@[go_sem] theorem ofV_agg (l : List Value) : ofV (.agg l.toArray) = .ag (l.map .sc) := rfl
def withE (o : Option V) : Option (V × Eff) := o.map (·, .none)
@[go_sem] theorem withE_some (x : V) : withE (some x) = some (x, .none) := rfl
@[go_sem] theorem exOp_move (x : Operand) : exOp P sl hp nx (.move x) = some (evS sl x, .none) := rfl
@[go_sem] theorem exOp_assign (x : Operand) : exOp P sl hp nx (.assign x) = some (evS sl x, .none) := rfl
@[go_sem] theorem exOp_pick (c a b : Operand) : exOp P sl hp nx (.pick c a b) = withE (exPick (evS sl c) (evS sl a) (evS sl b)) := rfl
def withN (o : Option Blk) (nx : Nat) : Option (V × Eff) := o.map (.pt nx 0, .new ·)
@[go_sem] theorem withN_some (k : Blk) : withN (some k) nx = some (.pt nx 0, .new k) := rfl
@[go_sem] theorem exOp_alloc (t : Nat) : exOp P sl hp nx (.alloc t) = withN (exAlloc P t) nx := rfl
@[go_sem] theorem exOp_box (t : Nat) (x : Operand) : exOp P sl hp nx (.box t x) = withN (exBox t (evS sl x)) nx := rfl
@[go_sem] theorem exOp_build (t : Nat) (l : List (Nat × Operand)) : exOp P sl hp nx (.build t l.toArray) = withE (exBuild P t (l.map fun p => (p.1, evS sl p.2))) := rfl
@[go_sem] theorem exOp_buildSlice (t n : Nat) (l : List (Nat × Operand)) : exOp P sl hp nx (.buildSlice t n l.toArray) = exBuildSlice P t nx n (l.map fun p => (p.1, evS sl p.2)) := rfl
@[go_sem] theorem exOp_load (t : Nat) (a : Operand) : exOp P sl hp nx (.load t a) = withE (exLoad P hp t (evS sl a)) := rfl
def withS (o : Option Eff) : Option (V × Eff) := o.map (.junk, ·)
@[go_sem] theorem withS_some (f : Eff) : withS (some f) = some (.junk, f) := rfl
@[go_sem] theorem exOp_store (t : Nat) (a x : Operand) : exOp P sl hp nx (.store t a x) = withS (exStore P hp t (evS sl a) (evS sl x)) := rfl
@[go_sem] theorem exOp_nilCheck (x : Operand) : exOp P sl hp nx (.nilCheck x) = withE (exNil (evS sl x)) := rfl
@[go_sem] theorem exOp_bin (o : BinOp) (t : Nat) (x y : Operand) (u : Nat) : exOp P sl hp nx (.binOp o t x y u) = withE (exBin P o t (evS sl x) (evS sl y)) := rfl
@[go_sem] theorem exOp_un (o : UnOp) (t : Nat) (x : Operand) : exOp P sl hp nx (.unOp o t x) = withE (exUn o (evS sl x)) := rfl
@[go_sem] theorem exOp_conv (a b : Nat) (x : Operand) : exOp P sl hp nx (.convert a b x) = withE (exConvH P hp a b (evS sl x)) := rfl
@[go_sem] theorem exOp_makeFunc (f : Fn) (p q : List Operand) : exOp P sl hp nx (.makeFunc f p.toArray q.toArray) = some (.fn f (p.map (evS sl)) (q.map (evS sl)), .none) := rfl
@[go_sem] theorem exOp_makeSlice (t : Nat) (l c : Operand) : exOp P sl hp nx (.makeSlice t l c) = exMake P t nx (evS sl l) (evS sl c) := rfl
@[go_sem] theorem exOp_slice (t : Nat) (x : Operand) (a b c : Option Operand) : exOp P sl hp nx (.slice t x a b c) = withE (exSlice P hp t (evS sl x) (a.map (evS sl)) (b.map (evS sl)) (c.map (evS sl))) := rfl
@[go_sem] theorem exOp_fieldAddr (t : Nat) (x : Operand) (f : Nat) : exOp P sl hp nx (.fieldAddr t x f) = withE (exFieldAddr P t f (evS sl x)) := rfl
@[go_sem] theorem exOp_field (t : Nat) (x : Operand) (f : Nat) : exOp P sl hp nx (.field t x f) = withE (exField P t f (evS sl x)) := rfl
@[go_sem] theorem exOp_indexAddr (t : Nat) (x i : Operand) : exOp P sl hp nx (.indexAddr t x i) = withE (exIndexAddr P t (evS sl x) (evS sl i)) := rfl
@[go_sem] theorem exOp_index (t : Nat) (x i : Operand) : exOp P sl hp nx (.index t x i) = withE (exIndex P t (evS sl x) (evS sl i)) := rfl
@[go_sem] theorem exOp_extract (t : Operand) (i : Nat) : exOp P sl hp nx (.extract t i) = withE (exExtract i (evS sl t)) := rfl
@[go_sem] theorem exOp_builtin (b : Builtin) (l : List Operand) (ts : List TypeId) : exOp P sl hp nx (.call ⟨.builtin b, l.toArray, ts.toArray⟩) = exBuiltin P hp nx b ts (l.map (evS sl)) := rfl
@[go_sem] theorem exBuiltin_len (t : TypeId) (x : V) : exBuiltin P hp nx .len [t] [x] = withE (exLen P t x) := rfl
@[go_sem] theorem exBuiltin_append (t t' : TypeId) (s x : V) : exBuiltin P hp nx .append [t, t'] [s, x] = if t = t' then exAppend P hp nx t s x else exAppendZ P nx t t' s x := rfl
@[go_sem] theorem exBuiltin_cap (t : TypeId) (x : V) : exBuiltin P hp nx .cap [t] [x] = withE (exCap P t x) := rfl
@[go_sem] theorem exCap_sl (t id off len z c : Nat) : exCap P t (.sl id off len z (some c)) = (slOf P t).bind fun _ => some (.sc (.int .i64 c)) := by unfold exCap; cases slOf P t <;> rfl
@[go_sem] theorem exCap_nil (t : Nat) : exCap P t (.sc (.slice none 0 0)) = (slOf P t).bind fun _ => some (.sc (.int .i64 0)) := by unfold exCap; cases slOf P t <;> rfl
@[go_sem] theorem exAppendZ_eq (t t' : Nat) (k : IntKind) (n : Int) : exAppendZ P nx t t' (.sc (.slice none 0 0)) (.sc (.int k n)) = (mkOf P t).bind fun (e, b, zc) => if isIntT P t' = true ∧ 0 < n ∧ n < 1125899906842624 ∧ b * n ≤ 140737488355328 then some (.sl nx 0 n.toNat zc.length none, .new ⟨e, reps n.toNat (zc.map .sc), false⟩) else none := rfl
@[go_sem] theorem exBuiltin_copy (t t' : TypeId) (s x : V) : exBuiltin P hp nx .copy [t, t'] [s, x] = exCopyA P hp t s x := rfl
@[go_sem] theorem exCopyA_sl (t id off n z : Nat) (c : Option Nat) (s : V) : exCopyA P hp t s (.sl id off n z c) = exCopy P hp t s (.sl id off n z c) := rfl
@[go_sem] theorem exCopyA_im (t n : Nat) (cs : List V) (s : V) : exCopyA P hp t s (.im cs n) = exCopy P hp t s (.im cs n) := rfl
@[go_sem] theorem exCopyA_nil (t : Nat) (s : V) : exCopyA P hp t s (.sc (.slice none 0 0)) = exCopy P hp t s (.sc (.slice none 0 0)) := rfl
@[go_sem] theorem exBuiltin_clear (t : TypeId) (x : V) : exBuiltin P hp nx .clear [t] [x] = exClear P hp t x := rfl
def clG (id off dlen : Nat) (zc : List Value) : Option Blk → Option (V × Eff)
  | some k => if zc.length = 1 ∧ k.fz = false ∧ off + dlen ≤ k.cs.length ∧ (zc.map V.sc).all V.one = true then some (.tu [], .set id ⟨k.ty, setAll k.cs off (List.replicate dlen (.sc (zc.headD undef))), false⟩) else none
  | none => none
@[go_sem] theorem clG_some (id off dlen ty : Nat) (zc : List Value) (cs : List V) : clG id off dlen zc (some ⟨ty, cs, false⟩) = if zc.length = 1 ∧ off + dlen ≤ cs.length ∧ (zc.map V.sc).all V.one = true then some (.tu [], .set id ⟨ty, setAll cs off (List.replicate dlen (.sc (zc.headD undef))), false⟩) else none := by
  simp [clG]
@[go_sem] theorem exClear_sl (t id off dlen : Nat) (c : Option Nat) : exClear P hp t (.sl id off dlen 1 c) = (mkOf P t).bind fun (_, _, zc) => clG id off dlen zc (hget hp id) := by
  cases h1 : mkOf P t with
  | none => simp [exClear, h1]
  | some p =>
    obtain ⟨a, b, zc⟩ := p
    cases h2 : hget hp id <;> simp [exClear, h1, h2, clG]
@[go_sem] theorem exClear_im (t : Nat) (cs : List V) : exClear P hp t (.im cs 0) = if hasT P t = true then some (.tu [], .none) else none := rfl
@[go_sem] theorem exClear_nil (t : Nat) : exClear P hp t (.sc (.slice none 0 0)) = if hasT P t = true then some (.tu [], .none) else none := rfl
@[go_sem] theorem exBuiltin_min (ts : List TypeId) (s x : V) : exBuiltin P hp nx .min ts [s, x] = withE (exMin s x) := rfl
@[go_sem] theorem exBuiltin_max (ts : List TypeId) (s x : V) : exBuiltin P hp nx .max ts [s, x] = withE (exMax s x) := rfl
@[go_sem] theorem exPick_bool (t : Bool) (a b : V) : exPick (.sc (.bool t)) a b = some (if t = true then a else b) := rfl
@[go_sem] theorem vcells_ag (cs : List V) : vcells (.ag cs) = some cs := rfl
@[go_sem] theorem vcells_int (k : IntKind) (n : Int) : vcells (.sc (.int k n)) = some [.sc (.int k n)] := rfl
@[go_sem] theorem vcells_bool (b : Bool) : vcells (.sc (.bool b)) = some [.sc (.bool b)] := rfl
@[go_sem] theorem vcells_string (b : ByteArray) : vcells (.sc (.string b)) = some [.sc (.string b)] := rfl
@[go_sem] theorem vcells_slice (a : Option Addr) (l c : Nat) : vcells (.sc (.slice a l c)) = some [.sc (.slice a l c)] := rfl
@[go_sem] theorem vcells_func (f : Fn) (p q : Array Value) : vcells (.sc (.func f p q)) = some [.sc (.func f p q)] := rfl
@[go_sem] theorem vcells_nilFunc : vcells (.sc .nilFunc) = some [.sc .nilFunc] := rfl
@[go_sem] theorem vcells_pt (id off : Nat) : vcells (.pt id off) = some [.pt id off] := rfl
@[go_sem] theorem vcells_sl (id off n z : Nat) (c : Option Nat) : vcells (.sl id off n z c) = some [.sl id off n z c] := rfl
@[go_sem] theorem vcells_im (cs : List V) (n : Nat) : vcells (.im cs n) = some [.im cs n] := rfl
@[go_sem] theorem vcells_pi (cs : List V) : vcells (.pi cs) = some [.pi cs] := rfl
@[go_sem] theorem vcells_fn (f : Fn) (p q : List V) : vcells (.fn f p q) = some [.fn f p q] := rfl
def boxOf (o : Option (List V)) (t : Nat) : Option Blk := o.map fun cs => ⟨t, cs, false⟩
@[go_sem] theorem boxOf_some (cs : List V) (t : Nat) : boxOf (some cs) t = some ⟨t, cs, false⟩ := rfl
@[go_sem] theorem exBox_eq (t : Nat) (x : V) : exBox t x = boxOf (vcells x) t := rfl
def allocOf (o : Option Value) (t : Nat) : Option Blk := o.map fun z => ⟨t, z.cells.toList.map .sc, false⟩
@[go_sem] theorem allocOf_agg (l : List Value) (t : Nat) : allocOf (some (.agg l.toArray)) t = some ⟨t, l.map .sc, false⟩ := rfl
@[go_sem] theorem allocOf_int (k : IntKind) (n : Int) (t : Nat) : allocOf (some (.int k n)) t = some ⟨t, [.sc (.int k n)], false⟩ := rfl
@[go_sem] theorem allocOf_bool (b : Bool) (t : Nat) : allocOf (some (.bool b)) t = some ⟨t, [.sc (.bool b)], false⟩ := rfl
@[go_sem] theorem allocOf_slice (a : Option Addr) (n c t : Nat) : allocOf (some (.slice a n c)) t = some ⟨t, [.sc (.slice a n c)], false⟩ := rfl
@[go_sem] theorem exAlloc_eq (t : Nat) : exAlloc P t = allocOf (zeroOf P t) t := rfl
/-! loads and stores -/
def ldK (P : Program) (t : Nat) (off : Nat) : Option Blk → Option V
  | some k => ldV P t k.cs off
  | none => none
@[go_sem] theorem ldK_some (t ty off : Nat) (cs : List V) (fz : Bool) : ldK P t off (some ⟨ty, cs, fz⟩) = ldV P t cs off := rfl
@[go_sem] theorem exLoad_pt (t id off : Nat) : exLoad P hp t (.pt id off) = ldK P t off (hget hp id) := by
  simp only [exLoad]; cases hget hp id <;> rfl
@[go_sem] theorem exLoad_pi (t : Nat) (cs : List V) : exLoad P hp t (.pi cs) = ldV P t cs 0 := rfl
def ldG (a : Option Bool) (z : Option Nat) (cs : List V) (off : Nat) : Option V :=
  match a, z with
  | some true, some n => if off + n ≤ cs.length then some (.ag ((cs.drop off).take n)) else none
  | some false, some _ => cs[off]?
  | _, _ => none
@[go_sem] theorem ldV_eq (t : Nat) (cs : List V) (off : Nat) : ldV P t cs off = ldG (aggOf P t) (szOf P t) cs off := rfl
@[go_sem] theorem ldG_one (z : Nat) (cs : List V) (off : Nat) : ldG (some false) (some z) cs off = cs[off]? := rfl
@[go_sem] theorem ldG_agg (z : Nat) (cs : List V) (off : Nat) : ldG (some true) (some z) cs off = if off + z ≤ cs.length then some (.ag ((cs.drop off).take z)) else none := rfl
def stG (id off : Nat) (k : Option Blk) (z : Option Nat) (xs : Option (List V)) : Option Eff :=
  match k, z, xs with
  | some k, some z, some xs => if k.fz = false ∧ z = xs.length ∧ off + xs.length ≤ k.cs.length ∧ xs.all V.one = true then some (.set id ⟨k.ty, setAll k.cs off xs, false⟩) else none
  | _, _, _ => none
@[go_sem] theorem stG_some (id off ty z : Nat) (cs xs : List V) : stG id off (some ⟨ty, cs, false⟩) (some z) (some xs) = if z = xs.length ∧ off + xs.length ≤ cs.length ∧ xs.all V.one = true then some (.set id ⟨ty, setAll cs off xs, false⟩) else none := by
  simp [stG]
@[go_sem] theorem exStore_pt (t id off : Nat) (x : V) : exStore P hp t (.pt id off) x = stG id off (hget hp id) (szOf P t) (vcells x) := by
  simp only [exStore]
  cases hget hp id <;> cases szOf P t <;> cases vcells x <;> simp [stG]
@[go_sem] theorem setAll_nil (cs : List V) (off : Nat) : setAll cs off [] = cs := rfl
@[go_sem] theorem setAll_cons (cs : List V) (off : Nat) (x : V) (r : List V) : setAll cs off (x :: r) = setAll (cs.set off x) (off + 1) r := rfl
@[go_sem] theorem one_int (k : IntKind) (n : Int) : V.one (.sc (.int k n)) = true := rfl
@[go_sem] theorem one_bool (b : Bool) : V.one (.sc (.bool b)) = true := rfl
@[go_sem] theorem one_string (b : ByteArray) : V.one (.sc (.string b)) = true := rfl
@[go_sem] theorem one_slice (a : Option Addr) (n c : Nat) : V.one (.sc (.slice a n c)) = true := rfl
@[go_sem] theorem one_func (f : Fn) (p q : Array Value) : V.one (.sc (.func f p q)) = true := rfl
@[go_sem] theorem one_nilFunc : V.one (.sc .nilFunc) = true := rfl
@[go_sem] theorem one_pt (id off : Nat) : V.one (.pt id off) = true := rfl
@[go_sem] theorem one_sl (id off n z : Nat) (c : Option Nat) : V.one (.sl id off n z c) = true := rfl
@[go_sem] theorem one_im (cs : List V) (n : Nat) : V.one (.im cs n) = true := rfl
@[go_sem] theorem one_pi (cs : List V) : V.one (.pi cs) = true := rfl
@[go_sem] theorem one_fn (f : Fn) (p q : List V) : V.one (.fn f p q) = true := rfl
/-! parts -/
def paG (a : Option Bool) (z : Option Nat) (cs : List V) (off : Nat) : Option V :=
  match a, z with
  | some true, some n => some (.ag ((cs.drop off).take n))
  | some false, some _ => cs[off]?
  | _, _ => none
@[go_sem] theorem partV_eq (t : Nat) (cs : List V) (off : Nat) : partV P t cs off = paG (aggOf P t) (szOf P t) cs off := rfl
@[go_sem] theorem paG_one (z : Nat) (cs : List V) (off : Nat) : paG (some false) (some z) cs off = cs[off]? := rfl
@[go_sem] theorem paG_agg (z : Nat) (cs : List V) (off : Nat) : paG (some true) (some z) cs off = some (.ag ((cs.drop off).take z)) := rfl
@[go_sem] theorem exField_ag (T f : Nat) (cs : List V) : exField P T f (.ag cs) = (fldOf P T f).bind fun (o, t, _) => partV P t cs o := rfl
@[go_sem] theorem exFieldAddr_pt (T f id off : Nat) : exFieldAddr P T f (.pt id off) = (fldOf P T f).bind fun (o, _, z) => if z = 0 then none else some (.pt id (off + o)) := rfl
@[go_sem] theorem exFieldAddr_pi (T f : Nat) (cs : List V) : exFieldAddr P T f (.pi cs) = (fldOf P T f).bind fun (o, _, z) => if z = 0 then none else some (.pi (cs.drop o)) := rfl
@[go_sem] theorem exIndexAddr_sl (T id off len z : Nat) (c : Option Nat) (k : IntKind) (n : Int) : exIndexAddr P T (.sl id off len z c) (.sc (.int k n)) = (slOf P T).bind fun (_, z) => if 0 ≤ n ∧ n < len then some (.pt id (off + n.toNat * z)) else none := rfl
@[go_sem] theorem exIndexAddr_im (T len : Nat) (cs : List V) (k : IntKind) (n : Int) : exIndexAddr P T (.im cs len) (.sc (.int k n)) = (slOf P T).bind fun (_, z) => if 0 ≤ n ∧ n < len ∧ n.toNat * z < cs.length then some (.pi (cs.drop (n.toNat * z))) else none := rfl
@[go_sem] theorem exIndexAddr_pt (T id off : Nat) (k : IntKind) (n : Int) : exIndexAddr P T (.pt id off) (.sc (.int k n)) = (arOf P T).bind fun (len, _, z) => if 0 ≤ n ∧ n < len then some (.pt id (off + n.toNat * z)) else none := rfl
@[go_sem] theorem exIndexAddr_pi (T : Nat) (cs : List V) (k : IntKind) (n : Int) : exIndexAddr P T (.pi cs) (.sc (.int k n)) = (arOf P T).bind fun (len, _, z) => if 0 ≤ n ∧ n < len then some (.pi (cs.drop (n.toNat * z))) else none := rfl
@[go_sem] theorem exIndex_ag (T : Nat) (cs : List V) (k : IntKind) (n : Int) : exIndex P T (.ag cs) (.sc (.int k n)) = (arOf P T).bind fun (len, e, z) => if 0 ≤ n ∧ n < len then partV P e cs (n.toNat * z) else none := rfl
@[go_sem] theorem exExtract_tu (i : Nat) (cs : List V) : exExtract i (.tu cs) = cs[i]? := rfl
@[go_sem] theorem exNil_pt (id off : Nat) : exNil (.pt id off) = some (.pt id off) := rfl
@[go_sem] theorem exNil_pi (cs : List V) : exNil (.pi cs) = some (.pi cs) := rfl
@[go_sem] theorem exNil_fn (f : Nat) (p q : List V) : exNil (.fn (.func f) p q) = some (.fn (.func f) p q) := rfl
/-! numbers -/
def scO (o : Option Value) : Option V := o.map .sc
@[go_sem] theorem scO_some (v : Value) : scO (some v) = some (.sc v) := rfl
section
variable (k : IntKind) (a b : Int) (t : Nat)
@[go_sem] theorem bin_add : exBin P .add t (.sc (.int k a)) (.sc (.int k b)) = some (.sc (.int k (k.wrap (a + b)))) := by simp [exBin, binI]
@[go_sem] theorem bin_sub : exBin P .sub t (.sc (.int k a)) (.sc (.int k b)) = some (.sc (.int k (k.wrap (a - b)))) := by simp [exBin, binI]
@[go_sem] theorem bin_mul : exBin P .mul t (.sc (.int k a)) (.sc (.int k b)) = some (.sc (.int k (k.wrap (a * b)))) := by simp [exBin, binI]
@[go_sem] theorem bin_quo : exBin P .quo t (.sc (.int k a)) (.sc (.int k b)) = if b = 0 then none else some (.sc (.int k (k.wrap (a.tdiv b)))) := by simp [exBin, binI]; split <;> rfl
@[go_sem] theorem bin_rem : exBin P .rem t (.sc (.int k a)) (.sc (.int k b)) = if b = 0 then none else some (.sc (.int k (a.tmod b))) := by simp [exBin, binI]; split <;> rfl
@[go_sem] theorem bin_and : exBin P .and t (.sc (.int k a)) (.sc (.int k b)) = some (.sc (.int k (bits .and k a b))) := by simp [exBin, binI, bits]
@[go_sem] theorem bin_or : exBin P .or t (.sc (.int k a)) (.sc (.int k b)) = some (.sc (.int k (bits .or k a b))) := by simp [exBin, binI, bits]
@[go_sem] theorem bin_xor : exBin P .xor t (.sc (.int k a)) (.sc (.int k b)) = some (.sc (.int k (bits .xor k a b))) := by simp [exBin, binI, bits]
@[go_sem] theorem bin_eql : exBin P .eql t (.sc (.int k a)) (.sc (.int k b)) = some (.sc (.bool (a == b))) := by simp [exBin, binI]
@[go_sem] theorem bin_neq : exBin P .neq t (.sc (.int k a)) (.sc (.int k b)) = some (.sc (.bool (a != b))) := by simp [exBin, binI]
@[go_sem] theorem bin_lss : exBin P .lss t (.sc (.int k a)) (.sc (.int k b)) = some (.sc (.bool (decide (a < b)))) := by simp [exBin, binI]
@[go_sem] theorem bin_leq : exBin P .leq t (.sc (.int k a)) (.sc (.int k b)) = some (.sc (.bool (decide (a ≤ b)))) := by simp [exBin, binI]
@[go_sem] theorem bin_gtr : exBin P .gtr t (.sc (.int k a)) (.sc (.int k b)) = some (.sc (.bool (decide (b < a)))) := by simp [exBin, binI]
@[go_sem] theorem bin_geq : exBin P .geq t (.sc (.int k a)) (.sc (.int k b)) = some (.sc (.bool (decide (b ≤ a)))) := by simp [exBin, binI]
@[go_sem] theorem bin_shl (k' : IntKind) : exBin P .shl t (.sc (.int k a)) (.sc (.int k' b)) = if b < 0 then none else some (.sc (.int k (k.wrap (a * 2 ^ min b.toNat k.bits)))) := by simp [exBin, shI]; split <;> rfl
@[go_sem] theorem bin_shr (k' : IntKind) : exBin P .shr t (.sc (.int k a)) (.sc (.int k' b)) = if b < 0 then none else some (.sc (.int k (a.fdiv (2 ^ min b.toNat k.bits)))) := by simp [exBin, shI]; split <;> rfl
@[go_sem] theorem bin_beql (x y : Bool) : exBin P .eql t (.sc (.bool x)) (.sc (.bool y)) = if isBool P t = true then some (.sc (.bool (x == y))) else none := rfl
@[go_sem] theorem bin_bneq (x y : Bool) : exBin P .neq t (.sc (.bool x)) (.sc (.bool y)) = if isBool P t = true then some (.sc (.bool (x != y))) else none := rfl
def arrR : BinOp → Bool → Option V
  | .eql, b => some (.sc (.bool b))
  | .neq, b => some (.sc (.bool !b))
  | _, _ => none
@[go_sem] theorem arrR_eql (b : Bool) : arrR .eql b = some (.sc (.bool b)) := rfl
@[go_sem] theorem arrR_neq (b : Bool) : arrR .neq b = some (.sc (.bool !b)) := rfl
def arrL (op : BinOp) (n z : Nat) : Option (List Int) → Option (List Int) → Option V
  | some l, some m => if z = 1 ∧ l.length = n ∧ m.length = n then arrR op (decide (l = m)) else none
  | _, _ => none
@[go_sem] theorem arrL_some (op : BinOp) (n z : Nat) (l m : List Int) : arrL op n z (some l) (some m) = if z = 1 ∧ l.length = n ∧ m.length = n then arrR op (decide (l = m)) else none := rfl
def arrI (op : BinOp) (n z : Nat) (cs ds : List V) : Option IntKind → Option V
  | some k => arrL op n z (intsOf k cs) (intsOf k ds)
  | none => none
@[go_sem] theorem arrI_some (op : BinOp) (n z : Nat) (cs ds : List V) (k : IntKind) : arrI op n z cs ds (some k) = arrL op n z (intsOf k cs) (intsOf k ds) := rfl
def arrG (P : Program) (op : BinOp) (cs ds : List V) : Option (Nat × TypeId × Nat) → Option V
  | some (n, e, z) => arrI op n z cs ds (intOf' P e)
  | none => none
@[go_sem] theorem arrG_some (op : BinOp) (cs ds : List V) (n z e : Nat) : arrG P op cs ds (some (n, e, z)) = arrI op n z cs ds (intOf' P e) := rfl
@[go_sem] theorem bin_arr (op : BinOp) (cs ds : List V) : exBin P op t (.ag cs) (.ag ds) = arrG P op cs ds (arOf P t) := by
  show arrB P op t cs ds = _
  unfold arrB arrG
  cases arOf P t with
  | none => rfl
  | some p =>
    obtain ⟨n, e, z⟩ := p
    simp only [Option.bind_some]
    unfold arrI
    cases intOf' P e with
    | none => rfl
    | some k =>
      simp only [Option.bind_some]
      unfold arrL
      cases intsOf k cs with
      | none => rfl
      | some l =>
        simp only [Option.bind_some]
        cases intsOf k ds with
        | none => rfl
        | some m => simp only [Option.bind_some]; split <;> first | rfl | (cases op <;> rfl)
def consI (n : Int) : Option (List Int) → Option (List Int)
  | some l => some (n :: l)
  | none => none
@[go_sem] theorem consI_some (n : Int) (l : List Int) : consI n (some l) = some (n :: l) := rfl
@[go_sem] theorem intsOf_nil (k : IntKind) : intsOf k [] = some [] := rfl
@[go_sem] theorem intsOf_cons (k : IntKind) (n : Int) (r : List V) : intsOf k (.sc (.int k n) :: r) = consI n (intsOf k r) := by
  show (if k = k then (intsOf k r).map (n :: ·) else none) = _
  rw [if_pos rfl]; cases intsOf k r <;> rfl
@[go_sem] theorem bin_string (o : BinOp) (x y : ByteArray) : exBin P o t (.sc (.string x)) (.sc (.string y)) = scO (strB o x y) := rfl
@[go_sem] theorem bin_im_nil (o : BinOp) (cs : List V) (n : Nat) : exBin P o t (.im cs n) (.sc (.slice none 0 0)) = if isSl P t = true ∧ 0 < n then nilB o false else none := rfl
@[go_sem] theorem bin_sl_nil (o : BinOp) (id off n z : Nat) (c : Option Nat) : exBin P o t (.sl id off n z c) (.sc (.slice none 0 0)) = if isSl P t = true ∧ 0 < n then nilB o false else none := rfl
@[go_sem] theorem bin_nil_nil (o : BinOp) : exBin P o t (.sc (.slice none 0 0)) (.sc (.slice none 0 0)) = if isSl P t = true then nilB o true else none := rfl
@[go_sem] theorem bin_some_nil (o : BinOp) (a : Addr) (n c : Nat) : exBin P o t (.sc (.slice (some a) n c)) (.sc (.slice none 0 0)) = if isSl P t = true then nilB o false else none := rfl
@[go_sem] theorem nilB_eql (b : Bool) : nilB .eql b = some (.sc (.bool b)) := rfl
@[go_sem] theorem nilB_neq (b : Bool) : nilB .neq b = some (.sc (.bool !b)) := rfl
@[go_sem] theorem un_neg : exUn .neg (.sc (.int k a)) = some (.sc (.int k (k.wrap (0 - a)))) := rfl
@[go_sem] theorem un_xor : exUn .xor (.sc (.int k a)) = some (.sc (.int k (bits .xor k (if k.signed then -1 else k.max) a))) := rfl
@[go_sem] theorem un_not (x : Bool) : exUn .not (.sc (.bool x)) = some (.sc (.bool !x)) := rfl
def cvG (h : Bool) (k : Option IntKind) (n : Int) : Option V := if h then k.map fun k => .sc (.int k (k.wrap n)) else none
@[go_sem] theorem cvG_some : cvG true (some k) a = some (.sc (.int k (k.wrap a))) := rfl
@[go_sem] theorem exConv_int {hp : List (Nat × Blk)} (s d : Nat) : exConvH P hp s d (.sc (.int k a)) = cvG (hasT P s) (intOf' P d) a := rfl
@[go_sem] theorem exMin_int (k' : IntKind) : exMin (.sc (.int k a)) (.sc (.int k' b)) = some (.sc (.int k (if b < a then b else a))) := rfl
@[go_sem] theorem exMax_int (k' : IntKind) : exMax (.sc (.int k a)) (.sc (.int k' b)) = some (.sc (.int k (if b > a then b else a))) := rfl
end
/-! making -/
def plG (o : Option (List Value × Pl)) (parts : List (Nat × V)) : Option V :=
  match o with
  | some (z, pl) => (exFill pl (z.map .sc) parts).map .ag
  | none => none
def agO (o : Option (List V)) : Option V := o.map .ag
@[go_sem] theorem agO_some (cs : List V) : agO (some cs) = some (.ag cs) := rfl
@[go_sem] theorem plG_some (z : List Value) (pl : Pl) (parts : List (Nat × V)) : plG (some (z, pl)) parts = agO (exFill pl (z.map .sc) parts) := rfl
@[go_sem] theorem exBuild_eq (t : Nat) (parts : List (Nat × V)) : exBuild P t parts = plG (plOf P t) parts := rfl
def fillG (pl : Pl) (p : Option (Nat × Nat)) (xs : Option (List V)) (cs : List V) (r : List (Nat × V)) : Option (List V) :=
  match p, xs with
  | some (off, sz), some xs => if xs.length = sz ∧ off + xs.length ≤ cs.length then exFill pl (setAll cs off xs) r else none
  | _, _ => none
@[go_sem] theorem fillG_some (pl : Pl) (off sz : Nat) (xs cs : List V) (r : List (Nat × V)) : fillG pl (some (off, sz)) (some xs) cs r = if xs.length = sz ∧ off + xs.length ≤ cs.length then exFill pl (setAll cs off xs) r else none := rfl
@[go_sem] theorem exFill_nil (pl : Pl) (cs : List V) : exFill pl cs [] = some cs := rfl
@[go_sem] theorem exFill_cons (pl : Pl) (cs : List V) (i : Nat) (x : V) (r : List (Nat × V)) : exFill pl cs ((i, x) :: r) = fillG pl (pl.at i) (vcells x) cs r := by
  rw [exFill]; cases pl.at i <;> cases vcells x <;> rfl
@[go_sem] theorem at_st (l : List (Nat × Nat)) (i : Nat) : (Pl.st l).at i = l[i]? := rfl
@[go_sem] theorem at_ar (z i : Nat) : (Pl.ar z).at i = some (i * z, z) := rfl
def bsG (e nx len z : Nat) (o : Option (List V)) : Option (V × Eff) := o.map fun cs => (.sl nx 0 len z (some len), .new ⟨e, cs, false⟩)
@[go_sem] theorem bsG_some (e nx len z : Nat) (cs : List V) : bsG e nx len z (some cs) = some (.sl nx 0 len z (some len), .new ⟨e, cs, false⟩) := rfl
def cons2 (z : Nat) : Option (List V) → Option (List V) → Option (List V)
  | some xs, some l => if xs.length = z then some (xs ++ l) else none
  | _, _ => none
@[go_sem] theorem cons2_some (z : Nat) (xs l : List V) : cons2 z (some xs) (some l) = if xs.length = z then some (xs ++ l) else none := rfl
@[go_sem] theorem cons2_none (z : Nat) (o : Option (List V)) : cons2 z o none = none := by cases o <;> rfl
def consec (z : Nat) : Nat → List (Nat × V) → Option (List V)
  | _, [] => some []
  | k, (i, x) :: r => if i = k then cons2 z (vcells x) (consec z (k + 1) r) else none
@[go_sem] theorem consec_nil (z k : Nat) : consec z k [] = some [] := rfl
@[go_sem] theorem consec_cons (z k i : Nat) (x : V) (r : List (Nat × V)) : consec z k ((i, x) :: r) = if i = k then cons2 z (vcells x) (consec z (k + 1) r) else none := rfl
theorem setAll_mid : ∀ (xs ys pre rest : List V), xs.length = ys.length → setAll (pre ++ (ys ++ rest)) pre.length xs = (pre ++ xs) ++ rest
  | [], [], pre, rest, _ => by simp [setAll]
  | x :: xs, y :: ys, pre, rest, h => by
    have ih := setAll_mid xs ys (pre ++ [x]) rest (by simpa using h)
    show setAll ((pre ++ (y :: ys ++ rest)).set pre.length x) (pre.length + 1) xs = _
    rw [List.cons_append, List.set_append_right _ _ (Nat.le_refl _), Nat.sub_self, List.set_cons_zero]
    rw [List.length_append, List.length_singleton] at ih
    simpa using ih
theorem reps_zero (zc : List V) : reps 0 zc = [] := by unfold reps; split <;> simp
theorem reps_succ (n : Nat) (zc : List V) : reps (n + 1) zc = zc ++ reps n zc := by
  unfold reps; split
  · rw [List.replicate_succ]; rfl
  · rw [List.replicate_succ, List.flatten_cons]
theorem consec_fill {z : Nat} {zc : List V} (hz : zc.length = z) : ∀ (parts : List (Nat × V)) (k : Nat) (l pre : List V), consec z k parts = some l → pre.length = k * z → exFill (.ar z) (pre ++ reps parts.length zc) parts = some (pre ++ l)
  | [], k, l, pre, h, _ => by cases h; rw [List.length_nil, reps_zero]; rfl
  | (i, x) :: r, k, l, pre, h, hp => by
    rw [consec_cons] at h
    split at h
    · rename_i e
      subst e
      cases hv : vcells x with
      | none => rw [hv] at h; cases hc : consec z (i + 1) r <;> rw [hc] at h <;> cases h
      | some xs =>
        cases hc : consec z (i + 1) r with
        | none => rw [hv, hc] at h; cases h
        | some l' =>
          rw [hv, hc, cons2_some] at h
          split at h
          · rename_i hx
            cases h
            have hr : reps ((i, x) :: r).length zc = zc ++ reps r.length zc := reps_succ _ _
            have hm := setAll_mid xs zc pre (reps r.length zc) (hx.trans hz.symm)
            rw [exFill_cons, hv, at_ar, fillG_some, if_pos ⟨hx, by rw [hr, List.length_append, List.length_append]; omega⟩, hr, ← hp, hm, consec_fill hz r (i + 1) l' (pre ++ xs) hc (by rw [List.length_append, hp, hx, Nat.add_mul, Nat.one_mul]), List.append_assoc]
          · cases h
    · cases h
def bsN (e nx len : Nat) (zc : List Value) (parts : List (Nat × V)) : Option (List V) → Option (V × Eff)
  | some l => if parts.length = len then some (.sl nx 0 len zc.length (some len), .new ⟨e, l, false⟩) else bsG e nx len zc.length (exFill (.ar zc.length) (reps len (zc.map .sc)) parts)
  | none => bsG e nx len zc.length (exFill (.ar zc.length) (reps len (zc.map .sc)) parts)
@[go_sem] theorem bsN_some (e nx len : Nat) (zc : List Value) (parts : List (Nat × V)) (l : List V) : bsN e nx len zc parts (some l) = if parts.length = len then some (.sl nx 0 len zc.length (some len), .new ⟨e, l, false⟩) else bsG e nx len zc.length (exFill (.ar zc.length) (reps len (zc.map .sc)) parts) := rfl
@[go_sem] theorem bsN_none (e nx len : Nat) (zc : List Value) (parts : List (Nat × V)) : bsN e nx len zc parts none = bsG e nx len zc.length (exFill (.ar zc.length) (reps len (zc.map .sc)) parts) := rfl
@[go_sem] theorem exBuildSlice_eq (t len : Nat) (parts : List (Nat × V)) : exBuildSlice P t nx len parts = (mkOf P t).bind fun (e, _, zc) => if len * zc.length ≤ 16777216 then bsN e nx len zc parts (consec zc.length 0 parts) else none := by
  unfold exBuildSlice
  congr 1
  funext p
  obtain ⟨e, b, zc⟩ := p
  simp only
  congr 1
  cases hc : consec zc.length 0 parts with
  | none => rfl
  | some l =>
    rw [bsN_some]
    split
    · rename_i hl
      have := consec_fill (z := zc.length) (zc := zc.map .sc) (by simp) parts 0 l [] hc (by simp)
      rw [List.nil_append, hl] at this
      rw [this]; rfl
    · rfl
@[go_sem] theorem reps_one (m : Nat) (x : V) : reps m [x] = List.replicate m x := rfl
@[go_sem] theorem reps_two (m : Nat) (x y : V) : reps m [x, y] = (List.replicate m [x, y]).flatten := rfl
@[go_sem] theorem exMake_eq (t : Nat) (k k' : IntKind) (l c : Int) : exMake P t nx (.sc (.int k l)) (.sc (.int k' c)) = (mkOf P t).bind fun (e, b, zc) => if 0 ≤ l ∧ l ≤ c ∧ c < 1125899906842624 ∧ b * c ≤ 140737488355328 then some (.sl nx 0 l.toNat zc.length (some c.toNat), .new ⟨e, reps c.toNat (zc.map .sc), false⟩) else none := rfl
/-! slices -/
@[go_sem] theorem exLen_sl (t id off len z : Nat) (c : Option Nat) : exLen P t (.sl id off len z c) = (slOf P t).bind fun _ => some (.sc (.int .i64 len)) := rfl
@[go_sem] theorem exLen_im (t len : Nat) (cs : List V) : exLen P t (.im cs len) = (slOf P t).bind fun _ => some (.sc (.int .i64 len)) := rfl
@[go_sem] theorem exLen_nil (t : Nat) (a : Option Addr) (n c : Nat) : exLen P t (.sc (.slice a n c)) = (slOf P t).bind fun _ => some (.sc (.int .i64 n)) := rfl
@[go_sem] theorem exLen_string (t : Nat) (s : ByteArray) : exLen P t (.sc (.string s)) = if isStr P t = true then some (.sc (.int .i64 s.size)) else none := rfl
@[go_sem] theorem exLen_ag (t : Nat) (cs : List V) : exLen P t (.ag cs) = (arOf P t).bind fun (n, _, _) => some (.sc (.int .i64 n)) := rfl
@[go_sem] theorem lowV_none : lowV none = some 0 := rfl
@[go_sem] theorem lowV_int (k : IntKind) (n : Int) : lowV (some (.sc (.int k n))) = if 0 ≤ n then some n.toNat else none := rfl
@[go_sem] theorem highV_none (len : Nat) : highV len none = some len := rfl
@[go_sem] theorem highV_int (len : Nat) (k : IntKind) (n : Int) : highV len (some (.sc (.int k n))) = if 0 ≤ n then some n.toNat else none := rfl
def bdG (l h : Option Nat) (ub : Nat) : Option (Nat × Nat × Option Nat) := l.bind fun l => h.bind fun h => if l ≤ h ∧ h ≤ ub then some (l, h, none) else none
@[go_sem] theorem bdG_some (l h ub : Nat) : bdG (some l) (some h) ub = if l ≤ h ∧ h ≤ ub then some (l, h, none) else none := rfl
@[go_sem] theorem boundsV_two (len ub : Nat) (lo hi : Option V) : boundsV len ub lo hi none = bdG (lowV lo) (highV len hi) ub := rfl
def bdM (l h : Option Nat) (ub : Nat) (m : Int) : Option (Nat × Nat × Option Nat) := l.bind fun l => h.bind fun h => if 0 ≤ m ∧ l ≤ h ∧ h ≤ m.toNat ∧ m.toNat ≤ ub then some (l, h, some m.toNat) else none
@[go_sem] theorem bdM_some (l h ub : Nat) (m : Int) : bdM (some l) (some h) ub m = if 0 ≤ m ∧ l ≤ h ∧ h ≤ m.toNat ∧ m.toNat ≤ ub then some (l, h, some m.toNat) else none := rfl
@[go_sem] theorem boundsV_three (len ub : Nat) (lo : Option V) (hi : V) (k : IntKind) (m : Int) : boundsV len ub lo (some hi) (some (.sc (.int k m))) = bdM (lowV lo) (highV len (some hi)) ub m := by
  simp only [boundsV, bdM]
  cases lowV lo <;> cases highV len (some hi) <;> simp [intV]
def capOf (len : Nat) : Option Nat → Nat
  | some c => c
  | none => len
@[go_sem] theorem capOf_some (len c : Nat) : capOf len (some c) = c := rfl
@[go_sem] theorem capOf_none (len : Nat) : capOf len none = len := rfl
def capG (l : Nat) (m cap : Option Nat) : Option Nat :=
  match m with
  | some m => some (m - l)
  | none => cap.map (· - l)
@[go_sem] theorem capG_some (l m : Nat) (cap : Option Nat) : capG l (some m) cap = some (m - l) := rfl
@[go_sem] theorem capG_cap (l c : Nat) : capG l none (some c) = some (c - l) := rfl
@[go_sem] theorem capG_none (l : Nat) : capG l none none = none := rfl
@[go_sem] theorem exSlice_sl (t id off len z : Nat) (cap : Option Nat) (lo hi mx : Option V) : exSlice P hp t (.sl id off len z cap) lo hi mx = (slOf P t).bind fun (_, z') => (boundsV len (capOf len cap) lo hi mx).bind fun (l, h, m) =>
    if z' = z then (if l = 0 ∨ l < h then some (.sl id (off + l * z) (h - l) z (capG l m cap)) else some (.im [] (h - l))) else none := by
  cases cap <;> rfl
@[go_sem] theorem exSlice_im (t len : Nat) (cs : List V) (lo hi mx : Option V) : exSlice P hp t (.im cs len) lo hi mx = (slOf P t).bind fun (_, z) => (boundsV len len lo hi mx).bind fun (l, h, _) => some (.im ((cs.drop (l * z)).take ((h - l) * z)) (h - l)) := rfl
@[go_sem] theorem exSlice_nil (t : Nat) (lo hi mx : Option V) : exSlice P hp t (.sc (.slice none 0 0)) lo hi mx = (slOf P t).bind fun _ => (boundsV 0 0 lo hi mx).bind fun _ => some (.sc (.slice none 0 0)) := rfl
def blkLen : Option Blk → Option Nat
  | some k => some k.cs.length
  | none => none
@[go_sem] theorem blkLen_some (ty : Nat) (cs : List V) (fz : Bool) : blkLen (some ⟨ty, cs, fz⟩) = some cs.length := rfl
@[go_sem] theorem exSlice_pt (t id off : Nat) (lo hi mx : Option V) : exSlice P hp t (.pt id off) lo hi mx = (arOf P t).bind fun (n, _, z) => (blkLen (hget hp id)).bind fun kl => (boundsV n n lo hi mx).bind fun (l, h, m) =>
    if off + n * z ≤ kl ∧ n ≤ maxLen ∧ (l = 0 ∨ l < h) then some (.sl id (off + l * z) (h - l) z (some (capOf n m - l))) else none := by
  simp only [exSlice]
  cases arOf P t with
  | none => rfl
  | some p =>
    cases hget hp id with
    | none => rfl
    | some k =>
      obtain ⟨n, e, z⟩ := p
      simp only [Option.bind_some]
      cases boundsV n n lo hi mx with
      | none => rfl
      | some q => obtain ⟨l, h, m⟩ := q; cases m <;> rfl
@[go_sem] theorem exSlice_pi (t : Nat) (cs : List V) (lo hi mx : Option V) : exSlice P hp t (.pi cs) lo hi mx = (arOf P t).bind fun (n, _, z) => (boundsV n n lo hi mx).bind fun (l, h, _) =>
    if n ≤ maxLen ∧ (l = 0 ∨ l < h) then some (.im ((cs.drop (l * z)).take ((h - l) * z)) (h - l)) else none := rfl
def srcG (off len z : Nat) : Option Blk → Option (List V × Nat)
  | some k => if off + len * z ≤ k.cs.length then some ((k.cs.drop off).take (len * z), len) else none
  | none => none
@[go_sem] theorem srcG_some (off len z ty : Nat) (cs : List V) (fz : Bool) : srcG off len z (some ⟨ty, cs, fz⟩) = if off + len * z ≤ cs.length then some ((cs.drop off).take (len * z), len) else none := rfl
@[go_sem] theorem srcV_sl (id off len z : Nat) (c : Option Nat) : srcV hp (.sl id off len z c) = srcG off len z (hget hp id) := by
  simp only [srcV]; cases hget hp id <;> rfl
@[go_sem] theorem srcV_im (len : Nat) (cs : List V) : srcV hp (.im cs len) = some (cs, len) := rfl
@[go_sem] theorem srcV_nil : srcV hp (.sc (.slice none 0 0)) = some ([], 0) := rfl
def apG (nx e by' id off n z lz m : Nat) (ys : List V) : Option Blk → Option (V × Eff)
  | some k => if off = 0 ∧ z = lz ∧ k.fz = false ∧ k.ty = e ∧ n * z ≤ k.cs.length ∧ n + m < 1125899906842624 ∧ (n + m) * by' ≤ 140737488355328 then some (.sl nx 0 (n + m) z none, .app id ⟨e, k.cs.take (n * z) ++ ys, false⟩) else none
  | none => none
@[go_sem] theorem apG_some (e by' id off n z lz m ty : Nat) (ys cs : List V) : apG nx e by' id off n z lz m ys (some ⟨ty, cs, false⟩) = if off = 0 ∧ z = lz ∧ ty = e ∧ n * z ≤ cs.length ∧ n + m < 1125899906842624 ∧ (n + m) * by' ≤ 140737488355328 then some (.sl nx 0 (n + m) z none, .app id ⟨e, cs.take (n * z) ++ ys, false⟩) else none := by
  simp [apG]
def apF (hp : List (Nat × Blk)) (nx : Nat) (o : Option (TypeId × Nat × List Value)) (q : Option (List V × Nat)) (s : V) : Option (V × Eff) :=
  o.bind fun (e, by', zc) => q.bind fun (ys, m) =>
    if ys.length = m * zc.length ∧ ys.all V.one = true then
      match s with
      | .sl id off n z _ => (hget hp id).bind fun k =>
        if off = 0 ∧ z = zc.length ∧ k.fz = false ∧ k.ty = e ∧ n * z ≤ k.cs.length ∧ n + m < 1125899906842624 ∧ (n + m) * by' ≤ 140737488355328 then some (.sl nx 0 (n + m) z none, .app id ⟨e, k.cs.take (n * z) ++ ys, false⟩) else none
      | .sc (.slice none 0 0) => if 0 < m ∧ m < 1125899906842624 ∧ m * by' ≤ 140737488355328 then some (.sl nx 0 m zc.length none, .new ⟨e, ys, false⟩) else none
      | _ => none
    else none
@[go_sem] theorem apF_sl (e by' m id off n z : Nat) (zc : List Value) (ys : List V) (c : Option Nat) : apF hp nx (some (e, by', zc)) (some (ys, m)) (.sl id off n z c) = if ys.length = m * zc.length ∧ ys.all V.one = true then apG nx e by' id off n z zc.length m ys (hget hp id) else none := by
  simp only [apF, Option.bind_some]
  cases hget hp id <;> rfl
@[go_sem] theorem apF_nil (e by' m : Nat) (zc : List Value) (ys : List V) : apF hp nx (some (e, by', zc)) (some (ys, m)) (.sc (.slice none 0 0)) = if ys.length = m * zc.length ∧ ys.all V.one = true then (if 0 < m ∧ m < 1125899906842624 ∧ m * by' ≤ 140737488355328 then some (.sl nx 0 m zc.length none, .new ⟨e, ys, false⟩) else none) else none := rfl
@[go_sem] theorem exAppend_eq (t : Nat) (s x : V) : exAppend P hp nx t s x = apF hp nx (mkOf P t) (srcV hp x) s := by
  unfold exAppend apF
  cases mkOf P t with
  | none => rfl
  | some p =>
    cases srcV hp x with
    | none => rfl
    | some q => rfl
def cpG (id off dlen m : Nat) (ys : List V) : Option Blk → Option (V × Eff)
  | some k => if ys.length = m ∧ k.fz = false ∧ off + dlen ≤ k.cs.length ∧ ys.all V.one = true then some (.sc (.int .i64 (min m dlen : Nat)), .set id ⟨k.ty, setAll k.cs off (ys.take (min m dlen)), false⟩) else none
  | none => none
@[go_sem] theorem cpG_some (id off dlen m ty : Nat) (ys cs : List V) : cpG id off dlen m ys (some ⟨ty, cs, false⟩) = if ys.length = m ∧ off + dlen ≤ cs.length ∧ ys.all V.one = true then some (.sc (.int .i64 (min m dlen : Nat)), .set id ⟨ty, setAll cs off (ys.take (min m dlen)), false⟩) else none := by
  simp [cpG]
@[go_sem] theorem exCopy_sl (t id off dlen z : Nat) (c : Option Nat) (x : V) : exCopy P hp t (.sl id off dlen z c) x = (slOf P t).bind fun (_, z') => (srcV hp x).bind fun (ys, m) => if z' = 1 ∧ z = 1 then cpG id off dlen m ys (hget hp id) else none := by
  simp only [exCopy]
  cases slOf P t with
  | none => rfl
  | some p =>
    cases srcV hp x with
    | none => rfl
    | some q =>
      obtain ⟨e, z'⟩ := p
      obtain ⟨ys, m⟩ := q
      simp only [Option.bind_some]
      cases hget hp id with
      | none => simp [cpG]
      | some k => simp only [Option.bind_some, cpG]; by_cases h : z' = 1 <;> by_cases h' : z = 1 <;> simp [h, h']
/-! calls -/
@[go_sem] theorem clo_int (k : IntKind) (n : Int) : clo (.sc (.int k n)) = true := rfl
@[go_sem] theorem clo_bool (b : Bool) : clo (.sc (.bool b)) = true := rfl
@[go_sem] theorem clo_string (b : ByteArray) : clo (.sc (.string b)) = true := rfl
@[go_sem] theorem clo_slice (a : Option Addr) (n c : Nat) : clo (.sc (.slice a n c)) = false := rfl
@[go_sem] theorem clo_im (cs : List V) (n : Nat) : clo (.im cs n) = true := rfl
@[go_sem] theorem clo_pt (id off : Nat) : clo (.pt id off) = false := rfl
@[go_sem] theorem clo_pi (cs : List V) : clo (.pi cs) = true := rfl
@[go_sem] theorem clo_fn (f : Fn) (p q : List V) : clo (.fn f p q) = false := rfl
@[go_sem] theorem clo_sl (id off n z : Nat) (c : Option Nat) : clo (.sl id off n z c) = false := rfl
def fzC (g : V → Option (V × List Nat)) (r : List V) : Option (V × List Nat) → Option (List V × List Nat)
  | some p => (frzAll g r).map fun q => (p.1 :: q.1, p.2 ++ q.2)
  | none => none
def fzD (y : V) (i : List Nat) (o : Option (List V × List Nat)) : Option (List V × List Nat) := o.map fun q => (y :: q.1, i ++ q.2)
@[go_sem] theorem fzD_some (y : V) (i j : List Nat) (ys : List V) : fzD y i (some (ys, j)) = some (y :: ys, i ++ j) := rfl
@[go_sem] theorem fzC_some (g : V → Option (V × List Nat)) (r : List V) (y : V) (i : List Nat) : fzC g r (some (y, i)) = fzD y i (frzAll g r) := rfl
@[go_sem] theorem frzAll_nil (g : V → Option (V × List Nat)) : frzAll g [] = some ([], []) := rfl
@[go_sem] theorem frzAll_cons (g : V → Option (V × List Nat)) (c : V) (r : List V) : frzAll g (c :: r) = fzC g r (g c) := by
  rw [frzAll]; cases g c <;> rfl
def fzF (f : Fn) : Option (List V × List Nat) → Option (List V × List Nat) → Option (V × List Nat)
  | some a, some b => some (.fn f a.1 b.1, a.2 ++ b.2)
  | _, _ => none
@[go_sem] theorem fzF_some (f : Fn) (a b : List V) (i j : List Nat) : fzF f (some (a, i)) (some (b, j)) = some (.fn f a b, i ++ j) := rfl
def fzA (o : Option (List V × List Nat)) : Option (V × List Nat) := o.map fun p => (.ag p.1, p.2)
@[go_sem] theorem fzA_some (ys : List V) (i : List Nat) : fzA (some (ys, i)) = some (.ag ys, i) := rfl
def fzT (o : Option (List V × List Nat)) : Option (V × List Nat) := o.map fun p => (.tu p.1, p.2)
@[go_sem] theorem fzT_some (ys : List V) (i : List Nat) : fzT (some (ys, i)) = some (.tu ys, i) := rfl
def fzS (id m : Nat) (o : Option (List V × List Nat)) : Option (V × List Nat) := o.map fun p => (.im p.1 m, id :: p.2)
@[go_sem] theorem fzS_some (id m : Nat) (ys : List V) (i : List Nat) : fzS id m (some (ys, i)) = some (.im ys m, id :: i) := rfl
def fzQ (n : Nat) (hp : List (Nat × Blk)) (id : Nat) : Option (List V × Nat) → Option (V × List Nat)
  | some q => fzS id q.2 (frzL (frz n hp) q.1)
  | none => none
@[go_sem] theorem fzQ_some (n id m : Nat) (cs : List V) : fzQ n hp id (some (cs, m)) = fzS id m (frzL (frz n hp) cs) := rfl
def fzP (id : Nat) (o : Option (List V × List Nat)) : Option (V × List Nat) := o.map fun p => (.pi p.1, id :: p.2)
@[go_sem] theorem fzP_some (id : Nat) (ys : List V) (i : List Nat) : fzP id (some (ys, i)) = some (.pi ys, id :: i) := rfl
def fzB (n : Nat) (hp : List (Nat × Blk)) (id off : Nat) : Option Blk → Option (V × List Nat)
  | some k => fzP id (frzL (frz n hp) (k.cs.drop off))
  | none => none
@[go_sem] theorem fzB_some (n id off ty : Nat) (cs : List V) (fz : Bool) : fzB n hp id off (some ⟨ty, cs, fz⟩) = fzP id (frzL (frz n hp) (cs.drop off)) := rfl
section
variable (n : Nat)
@[go_sem] theorem frz_int (k : IntKind) (m : Int) : frz (n + 1) hp (.sc (.int k m)) = some (.sc (.int k m), []) := rfl
@[go_sem] theorem frz_bool (b : Bool) : frz (n + 1) hp (.sc (.bool b)) = some (.sc (.bool b), []) := rfl
@[go_sem] theorem frz_string (b : ByteArray) : frz (n + 1) hp (.sc (.string b)) = some (.sc (.string b), []) := rfl
@[go_sem] theorem frz_nil : frz (n + 1) hp (.sc (.slice none 0 0)) = some (.im [] 0, []) := rfl
@[go_sem] theorem frz_im (cs : List V) (m : Nat) : frz (n + 1) hp (.im cs m) = some (.im cs m, []) := rfl
@[go_sem] theorem frz_ag (cs : List V) : frz (n + 1) hp (.ag cs) = fzA (frzL (frz n hp) cs) := rfl
@[go_sem] theorem frz_fn (f : Fn) (p q : List V) : frz (n + 1) hp (.fn f p q) = fzF f (frzL (frz n hp) p) (frzL (frz n hp) q) := by
  simp only [frz]
  cases frzL (frz n hp) p with
  | none => rfl
  | some a => cases frzL (frz n hp) q <;> rfl
@[go_sem] theorem frz_pi (cs : List V) : frz (n + 1) hp (.pi cs) = some (.pi cs, []) := rfl
@[go_sem] theorem frz_pt (id off : Nat) : frz (n + 1) hp (.pt id off) = fzB n hp id off (hget hp id) := by
  rw [frz]; cases hget hp id <;> rfl
@[go_sem] theorem frz_tu (cs : List V) : frz (n + 1) hp (.tu cs) = fzT (frzL (frz n hp) cs) := rfl
@[go_sem] theorem frz_sl (id off len z : Nat) (c : Option Nat) : frz (n + 1) hp (.sl id off len z c) = fzQ n hp id (srcG off len z (hget hp id)) := by
  rw [← srcV_sl (hp := hp) id off len z none]
  rw [frz]; cases srcV hp (.sl id off len z none) <;> rfl
end
@[go_sem] theorem frzL_eq (g : V → Option (V × List Nat)) (cs : List V) : frzL g cs = if cs.all clo = true then some (cs, []) else frzAll g cs := rfl
@[go_sem] theorem flat1_int (k : IntKind) (n : Int) : flat1 (.sc (.int k n)) = true := rfl
@[go_sem] theorem flat1_bool (b : Bool) : flat1 (.sc (.bool b)) = true := rfl
@[go_sem] theorem flat1_string (b : ByteArray) : flat1 (.sc (.string b)) = true := rfl
@[go_sem] theorem flat_sc (v : Value) : flat (.sc v) = true := rfl
@[go_sem] theorem flat2_sc (v : Value) : flat2 (.sc v) = true := rfl
@[go_sem] theorem flat_tu (cs : List V) : flat (.tu cs) = cs.all flat2 := rfl
@[go_sem] theorem calledF_eq (s : SS) (d : Option Nat) (x : V) (ids : List Nat) : SS.calledF s d x ids = ⟨putS s.sl d x, fzHp s.hp ids, s.nx, s.nt⟩ := rfl
@[go_sem] theorem called_flat (s : SS) (d : Option Nat) (v : Value) (ids : List Nat) : SS.called s d (.sc v) ids = ⟨putS s.sl d (.sc v), s.hp, s.nx, s.nt⟩ := rfl
@[go_sem] theorem called_nil (s : SS) (d : Option Nat) (x : V) : SS.called s d x [] = ⟨putS s.sl d x, s.hp, s.nx, s.nt⟩ := by
  unfold SS.called
  have : fzHp s.hp [] = s.hp := by unfold fzHp; simp
  rw [this]; split <;> rfl
def calledG (s : SS) (d : Option Nat) (x : V) (ids : List Nat) (f : Bool) : SS := ⟨putS s.sl d x, if f = true then s.hp else fzHp s.hp ids, s.nx, s.nt⟩
@[go_sem] theorem calledG_yes (s : SS) (d : Option Nat) (x : V) (ids : List Nat) : calledG s d x ids true = ⟨putS s.sl d x, s.hp, s.nx, s.nt⟩ := rfl
@[go_sem] theorem calledG_no (s : SS) (d : Option Nat) (x : V) (ids : List Nat) : calledG s d x ids false = ⟨putS s.sl d x, fzHp s.hp ids, s.nx, s.nt⟩ := rfl
@[go_sem] theorem called_im (s : SS) (d : Option Nat) (c : V) (cs : List V) (n i : Nat) (ids : List Nat) : SS.called s d (.im (c :: cs) n) (i :: ids) = ⟨putS s.sl d (.im (c :: cs) n), fzHp s.hp (i :: ids), s.nx, s.nt⟩ := rfl
@[go_sem] theorem fzHp_nil (ids : List Nat) : fzHp [] ids = [] := rfl
@[go_sem] theorem fzHp_cons (i : Nat) (k : Blk) (r : List (Nat × Blk)) (ids : List Nat) : fzHp ((i, k) :: r) ids = (i, if ids.contains i = true then ⟨k.ty, k.cs, true⟩ else k) :: fzHp r ids := rfl
/-! results, entering -/
@[go_sem] theorem stSl_nil (k : Nat) : stSl k [] = [] := rfl
@[go_sem] theorem stSl_cons (k : Nat) (x : V) (r : List V) : stSl k (x :: r) = (k, x) :: stSl (k + 1) r := rfl
@[go_sem] theorem start_eq (args : List V) (n : Nat) : SS.start args n = ⟨stSl 0 args, [], 0, n⟩ := rfl
@[go_sem] theorem resV1_tmp (s : SS) (t : Nat) : resV1 P s (.tmp t) = some (get s.sl t) := rfl
@[go_sem] theorem resV1_cell (s : SS) (p ty : Nat) : resV1 P s (.cell p ty) = exLoad P s.hp ty (get s.sl p) := rfl
def resG (P : Program) (s : SS) (l : List ResultVar) : Option V :=
  match l with
  | [] => some (.tu [])
  | [r] => resV1 P s r
  | [r, q] => (resV1 P s r).bind fun x => (resV1 P s q).map fun y => .tu [x, y]
  | [r, q, t] => (resV1 P s r).bind fun x => (resV1 P s q).bind fun y => (resV1 P s t).map fun z => .tu [x, y, z]
  | _ => none
@[go_sem] theorem resG_one (s : SS) (r : ResultVar) : resG P s [r] = resV1 P s r := rfl
@[go_sem] theorem resG_two (s : SS) (r q : ResultVar) : resG P s [r, q] = (resV1 P s r).bind fun x => (resV1 P s q).bind fun y => some (.tu [x, y]) := by
  simp only [resG]; cases resV1 P s r <;> cases resV1 P s q <;> rfl
@[go_sem] theorem resG_three (s : SS) (r q t : ResultVar) : resG P s [r, q, t] = (resV1 P s r).bind fun x => (resV1 P s q).bind fun y => (resV1 P s t).bind fun z => some (.tu [x, y, z]) := by
  simp only [resG]; cases resV1 P s r <;> cases resV1 P s q <;> cases resV1 P s t <;> rfl
theorem resV_eq (fn : Func) (s : SS) : resV P fn s = resG P s fn.results.toList := rfl
end
attribute [go_sem] Option.bind_some Option.bind_none Option.map_some Option.map_none decide_eq_true_eq Bool.false_eq_true List.toList_toArray
attribute [go_sem] List.contains_cons List.contains_nil Bool.or_false Bool.false_or Bool.or_true Bool.true_or
attribute [go_sem] List.map_cons List.map_nil List.length_cons List.length_nil List.all_cons List.all_nil Bool.and_true Bool.and_self Bool.true_and or_self and_self or_false false_or true_and and_true not_false_eq_true not_true_eq_false
attribute [go_sem] List.getElem?_cons_zero List.getElem?_cons_succ List.getElem?_toArray List.set_cons_zero List.set_cons_succ List.set_nil List.drop_zero List.drop_succ_cons List.take_zero List.take_succ_cons List.drop_nil List.take_nil List.nil_append List.cons_append Int.toNat_natCast Nat.zero_add Nat.add_zero Nat.mul_one Nat.zero_mul Nat.sub_zero
section
variable {P : Program} {w : World} {B : Base} {s : SS}
def SC (P : Program) (B : Base) : List Code → (Exit → SS → Prop) → SS → Prop
  | [], Q, s => Q .normal s
  | c :: cs, Q, s => SWp P B c (thenQ (SC P B cs Q) Q) s
def SO (P : Program) (B : Base) (ops : Array Oper) (l : List Oper) (cs : List Code) (Q : Exit → SS → Prop) (s : SS) : Prop := SOps P B ops l (thenQ (SC P B cs Q) Q) s
variable {cs : List Code} {Q : Exit → SS → Prop}
theorem SC.of {c : Code} (h : SC P B [c] Q s) : SWp P B c Q s := SWp.mono h fun e s h => by cases e <;> exact h
theorem SC.seq {a b : Code} (h : SC P B (a :: b :: cs) Q s) : SC P B (.seq a b :: cs) Q s :=
  SWp.seq fun K hK => SWp.mono h fun e s h => by
    cases e <;> first | exact hK _ h | exact h
theorem SC.skip (h : SC P B cs Q s) : SC P B (.skip :: cs) Q s := SWp.skip h
theorem SC.label {l : Nat} (h : SC P B cs Q s) : SC P B (.label l :: cs) Q s := SWp.label h
theorem SC.exit {id : Nat} (h : Q (.exit id) s) : SC P B (.exit id :: cs) Q s := SWp.exit h
theorem SC.ret (h : Q .ret s) : SC P B (.ret :: cs) Q s := SWp.ret h
theorem SC.region {id : Nat} {l : List Oper} {s' : SS} (h : runL P l.toArray s l = some s') (k : SC P B cs Q s') : SC P B (.region id l.toArray false :: cs) Q s := SWp.region (SOps.all h k)
theorem SC.ops {id : Nat} {l : List Oper} (k : SO P B l.toArray l cs Q s) : SC P B (.region id l.toArray false :: cs) Q s := SWp.region k
theorem SC.cond {c : Operand} {x y : Code} {t : Bool} (hc : evS s.sl c = .sc (.bool t)) (h1 : t = true → SC P B (x :: cs) Q s) (h2 : t = false → SC P B (y :: cs) Q s) : SC P B (.cond c x y :: cs) Q s := SWp.cond hc h1 h2
theorem SC.block {id : Nat} {c : Code} (h : SC P B [c] (blockQ id (thenQ (SC P B cs Q) Q)) s) : SC P B (.block id c :: cs) Q s := SWp.block (SC.of h)
theorem SC.scope {c : Code} (h : SC P B [c] (scopeQ (thenQ (SC P B cs Q) Q)) s) : SC P B (.scope c :: cs) Q s := SWp.scope (SC.of h)
theorem SC.weak {s' : SS} : ∀ {cs : List Code} {Q : Exit → SS → Prop}, cs ≠ [] → Le B s s' → SC P B cs Q s' → SC P B cs Q s
  | [], _, h, _, _ => absurd rfl h
  | _ :: _, _, _, h, k => SWp.weak h k
theorem SC.loop {α : Type} {c : Code} (I : α → SS) (Inv : α → Prop) (mu : α → Nat) (x0 : α) (h0 : Le B s (I x0)) (hi : Inv x0)
    (round : ∀ x, Inv x → ∀ K : SS → Prop, (∀ s' x', Le B s' (I x') → Inv x' → mu x' < mu x → K s') → SC P B [c] (thenQ K (thenQ (SC P B cs Q) Q)) (I x)) : SC P B (.loop c :: cs) Q s :=
  SWp.loop I Inv mu x0 h0 hi fun x hx K hK => SC.of (round x hx K hK)
theorem SC.nil (h : Q .normal s) : SC P B [] Q s := h
theorem retQ_ret {fn : Func} {x x' y : V} {ids : List Nat} {rs : List ResultVar} (hr : fn.results = rs.toArray) (h1 : resG P s rs = some y) (h2 : frz 8 s.hp y = some (x', ids)) (h3 : x' = x) : retQ P fn x .ret s := ⟨y, ids, by rw [resV_eq, hr]; exact h1, h3 ▸ h2⟩
variable {ops : Array Oper} {o : Oper} {l : List Oper}
theorem SO.nil (h : SC P B cs Q s) : SO P B ops [] cs Q s := SOps.nil h
theorem SO.run {s' : SS} (h : run1 P ops s o = some s') (k : SO P B ops l cs Q s') : SO P B ops (o :: l) cs Q s := SOps.run1 h k
def SCall (P : Program) (B : Base) (f : Nat) (ys : List V) (ids : List Nat) (d : Option Nat) (ops : Array Oper) (l : List Oper) (cs : List Code) (Q : Exit → SS → Prop) (s : SS) : Prop :=
  ∃ x, Spec P f ys x ∧ (SO P B ops l cs Q (s.called d x ids) ∨ SO P B ops l cs Q (s.calledF d x ids))
theorem SO.call {f : Nat} {args : List Operand} {ts : Array TypeId} {d : Option Tmp} {ty : TypeId} {pos : String} {after : Array Edge} {gd : Option (Nat × Bool)} {ys : List V} {ids : List Nat}
    (hgo : isGo P f = true) (hf : frzAll (frz 8 s.hp) (args.map (evS s.sl)) = some (ys, ids)) (hg : guardV ops s.sl gd = some true ∧ dstOk d s.nt = true) (k : SCall P B f ys ids d ops l cs Q s) : SO P B ops (⟨d, .call ⟨.value (.func f), args.toArray, ts⟩, ty, pos, after, gd⟩ :: l) cs Q s :=
  match k with
  | ⟨_, hs, .inl k⟩ => SOps.call rfl hg.1 hg.2 hgo hf hs k
  | ⟨_, hs, .inr k⟩ => SOps.callF rfl hg.1 hg.2 hgo hf hs k
theorem SCall.of {f : Nat} {ys : List V} {ids : List Nat} {d : Option Nat} {x : V} {s' : SS} (hs : Spec P f ys x) (hn : s.called d x ids = s') (k : SO P B ops l cs Q s') : SCall P B f ys ids d ops l cs Q s := ⟨x, hs, .inl (hn ▸ k)⟩
theorem SCall.ofF {f : Nat} {ys : List V} {ids : List Nat} {d : Option Nat} {x : V} {s' : SS} (hs : Spec P f ys x) (hn : s.calledF d x ids = s') (k : SO P B ops l cs Q s') : SCall P B f ys ids d ops l cs Q s := ⟨x, hs, .inr (hn ▸ k)⟩
theorem bq_same {id : Nat} (h : Q .normal s) : blockQ id Q (.exit id) s := by simp only [blockQ, if_true]; exact h
theorem bq_other {id id' : Nat} (hn : id' ≠ id) (h : Q (.exit id') s) : blockQ id Q (.exit id') s := by simp only [blockQ, if_neg hn]; exact h
theorem bq_normal {id : Nat} (h : Q .normal s) : blockQ id Q .normal s := h
theorem bq_ret {id : Nat} (h : Q .ret s) : blockQ id Q .ret s := h
theorem tq_normal {K : SS → Prop} (h : K s) : thenQ K Q .normal s := h
theorem tq_exit {K : SS → Prop} {id : Nat} (h : Q (.exit id) s) : thenQ K Q (.exit id) s := h
theorem tq_ret {K : SS → Prop} (h : Q .ret s) : thenQ K Q .ret s := h
theorem sq_normal (h : Q .normal s) : scopeQ Q .normal s := h
theorem sq_exit {id : Nat} (h : Q (.exit id) s) : scopeQ Q (.exit id) s := h
theorem sq_ret (h : Q .ret s) : scopeQ Q .ret s := h
theorem Spec.run {f : Nat} {fn : Func} {c : Code} {args : List V} {x : V} {n : Nat} {s0 : SS} (hf : P.funcs[f]? = some fn) (hb : fn.body = some c) (hnt : fn.ntmps = n) (hn : args.length ≤ n) (h0 : SS.start args n = s0) (h : ∀ B : Base, B.Old 0 → SC P B [c] (retQ P fn x) s0) : Spec P f args x := by
  subst hnt; subst h0
  exact Spec.of hf hb hn fun B hB => SC.of (h B hB)
end
/-! the state behind a call, told by the tree's head alone -/
section
def fl1 : V → Bool
  | .sc _ => true
  | _ => false
def fl2 : V → Bool
  | .ag cs => cs.all fl1
  | x => fl1 x
def fl : V → Bool
  | .tu cs => cs.all fl2
  | x => fl2 x
theorem fl1_flat {x : V} (h : fl1 x = true) : flat1 x = true := by cases x <;> first | rfl | cases h
theorem fl2_flat {x : V} (h : fl2 x = true) : flat2 x = true := by
  cases x with
  | ag cs => exact List.all_eq_true.2 fun y hy => fl1_flat (List.all_eq_true.1 h y hy)
  | sc v => rfl
  | _ => cases h
theorem fl_flat {x : V} (h : fl x = true) : flat x = true := by
  cases x with
  | tu cs => exact List.all_eq_true.2 fun y hy => fl2_flat (List.all_eq_true.1 h y hy)
  | ag cs => exact fl2_flat (x := .ag cs) h
  | sc v => rfl
  | _ => cases h
def SS.callE (s : SS) (d : Option Nat) (x : V) (ids : List Nat) : SS := calledG s d x ids (fl x)
@[go_sem] theorem callE_nil (s : SS) (d : Option Nat) (x : V) : SS.callE s d x [] = ⟨putS s.sl d x, s.hp, s.nx, s.nt⟩ := by
  unfold SS.callE calledG
  have : fzHp s.hp [] = s.hp := by unfold fzHp; simp
  rw [this]; split <;> rfl
@[go_sem] theorem callE_sc (s : SS) (d : Option Nat) (v : Value) (ids : List Nat) : SS.callE s d (.sc v) ids = ⟨putS s.sl d (.sc v), s.hp, s.nx, s.nt⟩ := rfl
@[go_sem] theorem callE_im (s : SS) (d : Option Nat) (cs : List V) (n : Nat) (ids : List Nat) : SS.callE s d (.im cs n) ids = ⟨putS s.sl d (.im cs n), fzHp s.hp ids, s.nx, s.nt⟩ := rfl
@[go_sem] theorem callE_pi (s : SS) (d : Option Nat) (cs : List V) (ids : List Nat) : SS.callE s d (.pi cs) ids = ⟨putS s.sl d (.pi cs), fzHp s.hp ids, s.nx, s.nt⟩ := rfl
@[go_sem] theorem callE_fn (s : SS) (d : Option Nat) (f : Fn) (p q : List V) (ids : List Nat) : SS.callE s d (.fn f p q) ids = ⟨putS s.sl d (.fn f p q), fzHp s.hp ids, s.nx, s.nt⟩ := rfl
@[go_sem] theorem callE_ag (s : SS) (d : Option Nat) (cs : List V) (ids : List Nat) : SS.callE s d (.ag cs) ids = calledG s d (.ag cs) ids (cs.all fl1) := rfl
@[go_sem] theorem callE_tu (s : SS) (d : Option Nat) (cs : List V) (ids : List Nat) : SS.callE s d (.tu cs) ids = calledG s d (.tu cs) ids (cs.all fl2) := rfl
@[go_sem] theorem fl1_sc (v : Value) : fl1 (.sc v) = true := rfl
@[go_sem] theorem fl1_im (cs : List V) (n : Nat) : fl1 (.im cs n) = false := rfl
@[go_sem] theorem fl1_pi (cs : List V) : fl1 (.pi cs) = false := rfl
@[go_sem] theorem fl1_fn (f : Fn) (p q : List V) : fl1 (.fn f p q) = false := rfl
@[go_sem] theorem fl2_sc (v : Value) : fl2 (.sc v) = true := rfl
@[go_sem] theorem fl2_im (cs : List V) (n : Nat) : fl2 (.im cs n) = false := rfl
@[go_sem] theorem fl2_pi (cs : List V) : fl2 (.pi cs) = false := rfl
@[go_sem] theorem fl2_fn (f : Fn) (p q : List V) : fl2 (.fn f p q) = false := rfl
@[go_sem] theorem fl2_ag (cs : List V) : fl2 (.ag cs) = cs.all fl1 := rfl
variable {P : Program} {B : Base} {s : SS} {cs : List Code} {Q : Exit → SS → Prop} {ops : Array Oper} {l : List Oper}
theorem SCall.ofX {f : Nat} {ys : List V} {ids : List Nat} {d : Option Nat} {x : V} {s' : SS} (hs : Spec P f ys x) (hn : s.callE d x ids = s') (k : SO P B ops l cs Q s') : SCall P B f ys ids d ops l cs Q s := by
  subst hn
  refine ⟨x, hs, ?_⟩
  by_cases h : fl x = true
  · left
    have e : s.called d x ids = s.callE d x ids := by
      unfold SS.called SS.callE calledG
      rw [fl_flat h, h]
    rw [e]; exact k
  · right
    have e : s.calledF d x ids = s.callE d x ids := by
      unfold SS.calledF SS.callE calledG
      rw [if_neg h]
    rw [e]; exact k
end
attribute [go_sem] Bool.false_and Bool.and_false
/-! short names for the steps that need no rule -/
section
variable {P : Program} {B : Base} {s : SS} {cs : List Code} {Q : Exit → SS → Prop} {ops : Array Oper}
theorem oz1 {a b : Code} (h : SC P B (a :: b :: cs) Q s) : SC P B (.seq a b :: cs) Q s := SC.seq h
theorem oz2 (h : SC P B cs Q s) : SC P B (.skip :: cs) Q s := SC.skip h
theorem oz3 {l : Nat} (h : SC P B cs Q s) : SC P B (.label l :: cs) Q s := SC.label h
theorem oz4 {id : Nat} {c : Code} (h : SC P B [c] (blockQ id (thenQ (SC P B cs Q) Q)) s) : SC P B (.block id c :: cs) Q s := SC.block h
theorem oz5 {c : Code} (h : SC P B [c] (scopeQ (thenQ (SC P B cs Q) Q)) s) : SC P B (.scope c :: cs) Q s := SC.scope h
theorem oz6 (h : Q .normal s) : SC P B [] Q s := SC.nil h
theorem oz7 {id : Nat} (h : Q (.exit id) s) : SC P B (.exit id :: cs) Q s := SC.exit h
theorem oz8 (h : Q .ret s) : SC P B (.ret :: cs) Q s := SC.ret h
theorem oz9 (h : SC P B cs Q s) : SO P B ops [] cs Q s := SO.nil h
theorem ozb (h : Q .normal s) {id : Nat} : blockQ id Q .normal s := bq_normal h
theorem ozc {id : Nat} (h : Q .normal s) : blockQ id Q (.exit id) s := bq_same h
theorem ozd {id id' : Nat} (hn : id' ≠ id) (h : Q (.exit id') s) : blockQ id Q (.exit id') s := bq_other hn h
theorem oze {id : Nat} (h : Q .ret s) : blockQ id Q .ret s := bq_ret h
theorem ozf {K : SS → Prop} (h : K s) : thenQ K Q .normal s := tq_normal h
theorem ozg {K : SS → Prop} {id : Nat} (h : Q (.exit id) s) : thenQ K Q (.exit id) s := tq_exit h
theorem ozh {K : SS → Prop} (h : Q .ret s) : thenQ K Q .ret s := tq_ret h
theorem ozi (h : Q .normal s) : scopeQ Q .normal s := sq_normal h
theorem ozj {id : Nat} (h : Q (.exit id) s) : scopeQ Q (.exit id) s := sq_exit h
theorem ozk (h : Q .ret s) : scopeQ Q .ret s := sq_ret h
end
inductive Oz : Prop → Prop → Prop
  | a1 {P : Program} {B : Base} {cs : List Code} {Q : Exit → SS → Prop} {s : SS} {a b : Code} : Oz (SC P B (.seq a b :: cs) Q s) (SC P B (a :: b :: cs) Q s)
  | a2 {P : Program} {B : Base} {cs : List Code} {Q : Exit → SS → Prop} {s : SS} : Oz (SC P B (.skip :: cs) Q s) (SC P B cs Q s)
  | a3 {P : Program} {B : Base} {cs : List Code} {Q : Exit → SS → Prop} {s : SS} {l : Nat} : Oz (SC P B (.label l :: cs) Q s) (SC P B cs Q s)
  | a4 {P : Program} {B : Base} {cs : List Code} {Q : Exit → SS → Prop} {s : SS} {id : Nat} {c : Code} : Oz (SC P B (.block id c :: cs) Q s) (SC P B [c] (blockQ id (thenQ (SC P B cs Q) Q)) s)
  | a5 {P : Program} {B : Base} {cs : List Code} {Q : Exit → SS → Prop} {s : SS} {c : Code} : Oz (SC P B (.scope c :: cs) Q s) (SC P B [c] (scopeQ (thenQ (SC P B cs Q) Q)) s)
  | a6 {P : Program} {B : Base} {Q : Exit → SS → Prop} {s : SS} : Oz (SC P B [] Q s) (Q .normal s)
  | a7 {P : Program} {B : Base} {cs : List Code} {Q : Exit → SS → Prop} {s : SS} {id : Nat} : Oz (SC P B (.exit id :: cs) Q s) (Q (.exit id) s)
  | a8 {P : Program} {B : Base} {cs : List Code} {Q : Exit → SS → Prop} {s : SS} : Oz (SC P B (.ret :: cs) Q s) (Q .ret s)
  | a9 {P : Program} {B : Base} {ops : Array Oper} {cs : List Code} {Q : Exit → SS → Prop} {s : SS} : Oz (SO P B ops [] cs Q s) (SC P B cs Q s)
  | b1 {Q : Exit → SS → Prop} {s : SS} {id : Nat} : Oz (blockQ id Q .normal s) (Q .normal s)
  | b2 {Q : Exit → SS → Prop} {s : SS} {id : Nat} : Oz (blockQ id Q (.exit id) s) (Q .normal s)
  | b3 {Q : Exit → SS → Prop} {s : SS} {id id' : Nat} (hn : id' ≠ id) : Oz (blockQ id Q (.exit id') s) (Q (.exit id') s)
  | b4 {Q : Exit → SS → Prop} {s : SS} {id : Nat} : Oz (blockQ id Q .ret s) (Q .ret s)
  | b5 {Q : Exit → SS → Prop} {s : SS} {K : SS → Prop} : Oz (thenQ K Q .normal s) (K s)
  | b6 {Q : Exit → SS → Prop} {s : SS} {K : SS → Prop} {id : Nat} : Oz (thenQ K Q (.exit id) s) (Q (.exit id) s)
  | b7 {Q : Exit → SS → Prop} {s : SS} {K : SS → Prop} : Oz (thenQ K Q .ret s) (Q .ret s)
  | b8 {Q : Exit → SS → Prop} {s : SS} : Oz (scopeQ Q .normal s) (Q .normal s)
  | b9 {Q : Exit → SS → Prop} {s : SS} {id : Nat} : Oz (scopeQ Q (.exit id) s) (Q (.exit id) s)
  | c1 {Q : Exit → SS → Prop} {s : SS} : Oz (scopeQ Q .ret s) (Q .ret s)
theorem oz {G A : Prop} (h : Oz G A) (k : A) : G := by
  cases h with
  | a1 => exact oz1 k
  | a2 => exact oz2 k
  | a3 => exact oz3 k
  | a4 => exact oz4 k
  | a5 => exact oz5 k
  | a6 => exact oz6 k
  | a7 => exact oz7 k
  | a8 => exact oz8 k
  | a9 => exact oz9 k
  | b1 => exact ozb k
  | b2 => exact ozc k
  | b3 hn => exact ozd hn k
  | b4 => exact oze k
  | b5 => exact ozf k
  | b6 => exact ozg k
  | b7 => exact ozh k
  | b8 => exact ozi k
  | b9 => exact ozj k
  | c1 => exact ozk k
end Go.Proofs.YtpodnbcdddcdmaaGreatDoor

/- Weaker symbolic states, for the heads of loops. -/
namespace Go.Proofs.YtpodnbcdddcdmaaGreatDoor
open Go.RowKit
def VLe (ok : Nat → Bool) (y x : V) : Prop := ∀ (S : Nat → Prop) (rho : Nat → Nat) (A : Nat → Prop) (w : World) (v : Value), R S rho w A y v → R S rho w (fun id => A id ∧ ok id = true) x v
def LLe (ok : Nat → Bool) (ys xs : List V) : Prop := xs.length ≤ ys.length ∧ ∀ (i : Nat) (y x : V), ys[i]? = some y → xs[i]? = some x → VLe ok y x
def okL (ok : Nat → Bool) : V → Bool
  | .sc _ | .junk | .im _ _ | .pi _ => true
  | .pt id _ | .sl id _ _ _ _ => ok id
  | _ => false
def okV (ok : Nat → Bool) : V → Bool
  | .ag cs => cs.all (okL ok)
  | .fn _ p q => p.all (okL ok) && q.all (okL ok)
  | x => okL ok x
section
variable {ok : Nat → Bool}
theorem VLe.okL {x : V} (h : okL ok x = true) : VLe ok x x := by
  intro S rho A w v hx
  cases hx <;> simp [Go.Proofs.YtpodnbcdddcdmaaGreatDoor.okL] at h
  · exact .sc _
  · exact .junk _
  · exact .pt ⟨‹_›, h⟩
  · exact .sl ⟨‹_›, h⟩ ‹_› ‹_› ‹_› ‹_›
  · exact .sln ‹_›
  · exact .im0 ‹_› ‹_› ‹_›
  · exact .im1 _ ‹_› ‹_› ‹_› ‹_› ‹_›
  · exact .pi _ ‹_› ‹_› ‹_›
theorem VLe.refl {x : V} (h : okV ok x = true) : VLe ok x x := by
  intro S rho A w v hx
  cases hx with
  | ag hl hi => exact .ag hl fun i x u h1 h2 => VLe.okL (List.all_eq_true.1 h x (List.mem_of_getElem? h1)) _ _ _ _ _ (hi i x u h1 h2)
  | fn hp hq h1 h2 =>
    simp only [okV, Bool.and_eq_true] at h
    exact .fn hp hq (fun i x u k1 k2 => VLe.okL (List.all_eq_true.1 h.1 x (List.mem_of_getElem? k1)) _ _ _ _ _ (h1 i x u k1 k2)) (fun i x u k1 k2 => VLe.okL (List.all_eq_true.1 h.2 x (List.mem_of_getElem? k1)) _ _ _ _ _ (h2 i x u k1 k2))
  | tu hl hi => simp [okV, Go.Proofs.YtpodnbcdddcdmaaGreatDoor.okL] at h
  | sc v => exact .sc _
  | junk v => exact .junk _
  | pt ha => exact VLe.okL (by simpa [okV] using h) _ _ _ _ _ (.pt ha)
  | sl a b c d e => exact VLe.okL (by simpa [okV] using h) _ _ _ _ _ (.sl a b c d e)
  | sln a => exact .sln a
  | im0 a b c => exact .im0 a b c
  | im1 f a b c d e => exact .im1 f a b c d e
  | pi f a b c => exact .pi f a b c
theorem VLe.junk (x : V) : VLe ok x .junk := fun _ _ _ _ v _ => .junk v
theorem VLe.int {k : IntKind} {a b : Int} (h : a = b) : VLe ok (.sc (.int k a)) (.sc (.int k b)) := h ▸ VLe.refl rfl
theorem VLe.bool {a b : Bool} (h : a = b) : VLe ok (.sc (.bool a)) (.sc (.bool b)) := h ▸ VLe.refl rfl
theorem VLe.im {cs cs' : List V} {n n' : Nat} (h : cs = cs') (hn : n = n') : VLe ok (.im cs n) (.im cs' n') := h ▸ hn ▸ VLe.refl rfl
theorem VLe.nil_sl (id off z : Nat) : VLe ok (.sc (.slice none 0 0)) (.sl id off 0 z none) := fun _ _ _ _ _ h => by cases h; exact .sln (by simp)
theorem VLe.nil_im : VLe ok (.sc (.slice none 0 0)) (.im [] 0) := fun _ _ _ _ _ h => by cases h; exact .im0 (Nat.le_refl _) (by unfold maxLen; omega) (fun _ => rfl)
theorem VLe.sl {id off len len' z : Nat} {cap : Option Nat} (h : ok id = true) (hl : len = len') : VLe ok (.sl id off len z cap) (.sl id off len' z cap) := hl ▸ VLe.refl h
theorem VLe.cap {id off len len' z : Nat} {cap : Option Nat} (h : ok id = true) (hl : len = len') : VLe ok (.sl id off len z cap) (.sl id off len' z none) := by
  subst hl
  intro S rho A w v hx
  cases hx with
  | sl a b c d e => exact .sl ⟨a, h⟩ b c (by simp) e
  | sln a => exact .sln (by simp)
theorem VLe.eq {x y : V} (h : x = y) (k : okV ok x = true) : VLe ok x y := h ▸ VLe.refl k
theorem VLe.ag {cs ds : List V} (h : LLe ok cs ds) (hl : cs.length = ds.length) : VLe ok (.ag cs) (.ag ds) := by
  intro S rho A w v hx
  cases hx with
  | ag hl' hi =>
    refine .ag (by omega) fun i x u h1 h2 => ?_
    have hlt := (List.getElem?_eq_some_iff.1 h1).1
    have hc : cs[i]? = some (cs[i]'(by omega)) := List.getElem?_eq_getElem (by omega)
    exact h.2 i _ x hc h1 _ _ _ _ _ (hi i _ u hc h2)
theorem LLe.refl {cs : List V} (h : cs.all (Go.Proofs.YtpodnbcdddcdmaaGreatDoor.okL ok) = true) : LLe ok cs cs :=
  ⟨Nat.le_refl _, fun i y x h1 h2 => by rw [h1] at h2; cases h2; exact VLe.okL (List.all_eq_true.1 h _ (List.mem_of_getElem? h1))⟩
theorem LLe.eq {cs ds : List V} (e : cs = ds) (h : cs.all (Go.Proofs.YtpodnbcdddcdmaaGreatDoor.okL ok) = true) : LLe ok cs ds := e ▸ LLe.refl h
theorem LLe.nil (cs : List V) : LLe ok cs [] := ⟨Nat.zero_le _, fun i y x _ h => by simp at h⟩
theorem LLe.cons {x y : V} {cs ds : List V} (h : VLe ok x y) (k : LLe ok cs ds) : LLe ok (x :: cs) (y :: ds) :=
  ⟨by have := k.1; simpa using this, fun i a b h1 h2 => by
    cases i with
    | zero => simp at h1 h2; subst h1; subst h2; exact h
    | succ i => simp at h1 h2; exact k.2 i a b h1 h2⟩
def leSl (ok : Nat → Bool) (sl : List (Nat × V)) : List (Nat × V) → Prop
  | [] => True
  | (t, x) :: r => VLe ok (get sl t) x ∧ leSl ok sl r
def HLe (ok : Nat → Bool) (id : Nat) (o : Option Blk) (k : Blk) : Prop :=
  (∃ k0, o = some k0 ∧ k0.ty = k.ty ∧ k0.fz = k.fz ∧ LLe ok k0.cs k.cs ∧ ok id = true) ∨ (k.cs = [] ∧ ok id = false)
def leHp (ok : Nat → Bool) (hp : List (Nat × Blk)) : List (Nat × Blk) → Prop
  | [] => True
  | (id, k) :: r => HLe ok id (hget hp id) k ∧ leHp ok hp r
theorem HLe.same {id : Nat} {ty : TypeId} {cs ds : List V} {fz : Bool} (hok : ok id = true) (h : LLe ok cs ds) : HLe ok id (some ⟨ty, cs, fz⟩) ⟨ty, ds, fz⟩ := .inl ⟨_, rfl, rfl, rfl, h, hok⟩
theorem HLe.new {id : Nat} {ty : TypeId} {fz : Bool} {o : Option Blk} (h : ok id = false) : HLe ok id o ⟨ty, [], fz⟩ := .inr ⟨rfl, h⟩
theorem leSl_get {sl : List (Nat × V)} : ∀ {sl' : List (Nat × V)}, leSl ok sl sl' → ∀ t, VLe ok (get sl t) (get sl' t)
  | [], _, t => VLe.junk _
  | (t', x) :: r, h, t => by
    simp only [get]
    by_cases e : t = t'
    · subst e; rw [if_pos rfl]; exact h.1
    · rw [if_neg e]; exact leSl_get h.2 t
theorem leHp_get {hp : List (Nat × Blk)} : ∀ {hp' : List (Nat × Blk)}, leHp ok hp hp' → ∀ id k, hget hp' id = some k → HLe ok id (hget hp id) k
  | [], _, id, k, h => by cases h
  | (i, q) :: r, h, id, k, hk => by
    simp only [hget] at hk
    by_cases e : id = i
    · subst e; rw [if_pos rfl] at hk; cases hk; exact h.1
    · rw [if_neg e] at hk; exact leHp_get h.2 id k hk
def okN (n : Nat) (ph : List Nat) : Nat → Bool := fun id => decide (id < n) && !(ph.contains id)
theorem Le.of {B : Base} {sl sl' : List (Nat × V)} {hp hp' : List (Nat × Blk)} {nx nx' nt : Nat} (ph : List Nat) {m : Nat} (hB : B.Old m) (hm : m ≤ nx' ∧ ∀ i, i ∈ ph → m ≤ i) (h1 : leSl (okN nx' ph) sl sl') (h2 : leHp (okN nx' ph) hp hp') : Le B ⟨sl, hp, nx, nt⟩ ⟨sl', hp', nx', nt⟩ := by
  intro S rho A a w hr
  refine ⟨S, rho, fun id => A id ∧ okN nx' ph id = true, ⟨fun t => leSl_get h1 t _ _ _ _ _ (hr.slots t), ?_, fun id h => ?_, hr.nt, hr.defs⟩⟩
  · have hmo := hm
    have hm := hr.mem
    have g := leHp_get h2
    exact {
      cells := fun id k hk ha => by
        rcases g id k hk with ⟨k0, e1, e2, e3, e4, _⟩ | ⟨e, e'⟩
        · obtain ⟨cells, c1, c2⟩ := hm.cells id k0 e1 ha.1
          refine ⟨cells, by rw [← e2]; exact c1, fun i x hx => ?_⟩
          have hlt := (List.getElem?_eq_some_iff.1 hx).1
          have hc : k0.cs[i]? = some (k0.cs[i]'(Nat.lt_of_lt_of_le hlt e4.1)) := List.getElem?_eq_getElem _
          obtain ⟨u, hu, hr⟩ := c2 i _ hc
          exact ⟨u, hu, e4.2 i _ x hc hx _ _ _ _ _ hr⟩
        · rw [ha.2] at e'; cases e'
      fz := fun id k hk ha => by
        rcases g id k hk with ⟨k0, e1, e2, e3, e4, _⟩ | ⟨e, e'⟩
        · rw [← e3]; exact hm.fz id k0 e1 ha.1
        · rw [ha.2] at e'; cases e'
      own := fun id k hk ha => by
        rcases g id k hk with ⟨k0, e1, e2, e3, e4, _⟩ | ⟨e, e'⟩
        · exact hm.own id k0 e1 ha.1
        · rw [ha.2] at e'; cases e'
      inj := fun id id' k k' hk hk' ha ha' he => by
        rcases g id k hk with ⟨k0, e1, e2, e3, e4, _⟩ | ⟨e, e'⟩
        · rcases g id' k' hk' with ⟨k0', f1, f2, f3, f4, _⟩ | ⟨f, f'⟩
          · exact hm.inj id id' k0 k0' e1 f1 ha.1 ha'.1 he
          · rw [ha'.2] at f'; cases f'
        · rw [ha.2] at e'; cases e'
      slt := hm.slt
      sub := hm.sub
      base := hm.base
      frame := hm.frame
      keep := fun id h => ⟨⟨(hm.keep id h).1, by
        have h1 := hB id h
        simp only [okN, Bool.and_eq_true, decide_eq_true_eq, Bool.not_eq_true']
        refine ⟨by omega, ?_⟩
        cases hc : ph.contains id with
        | false => rfl
        | true => have := hmo.2 id (by simpa using hc); omega⟩, (hm.keep id h).2⟩ }
  · have := h.2
    simp only [okN, Bool.and_eq_true, decide_eq_true_eq] at this
    exact this.1
theorem leSl_nil {sl : List (Nat × V)} : leSl ok sl [] := trivial
theorem leSl_cons {sl r : List (Nat × V)} {t : Nat} {x y : V} (hg : get sl t = y) (h : VLe ok y x) (k : leSl ok sl r) : leSl ok sl ((t, x) :: r) := ⟨hg ▸ h, k⟩
theorem leHp_nil {hp : List (Nat × Blk)} : leHp ok hp [] := trivial
theorem leHp_cons {hp r : List (Nat × Blk)} {id : Nat} {o : Option Blk} {k : Blk} (hg : hget hp id = o) (h : HLe ok id o k) (g : leHp ok hp r) : leHp ok hp ((id, k) :: r) := ⟨hg ▸ h, g⟩
end
end Go.Proofs.YtpodnbcdddcdmaaGreatDoor

/- Regions that draw their order, on symbolic states. -/
namespace Go.Proofs.YtpodnbcdddcdmaaGreatDoor
open Go.RowKit
/-! ### what an operation looks at -/
def idOf : V → List Nat
  | .pt id _ => [id]
  | _ => []
def idOfS : V → List Nat
  | .sl id _ _ _ _ => [id]
  | _ => []
def rdOf (sl : List (Nat × V)) : Op → List Nat
  | .load _ a => idOf (evS sl a)
  | .slice _ x _ _ _ => idOf (evS sl x)
  | .store _ a _ => idOf (evS sl a)
  | .convert _ _ x => idOfS (evS sl x)
  | .call ⟨.builtin .append, args, _⟩ => (args.toList.map (evS sl)).flatMap idOfS
  | _ => []
def tgE : Eff → Option Nat
  | .set id _ => some id
  | .app id _ => some id
  | _ => none
def okOp : Op → Bool
  | .move _ | .assign _ | .pick _ _ _ | .alloc _ | .box _ _ | .build _ _ | .buildSlice _ _ _ | .load _ _ | .store _ _ _ | .nilCheck _ | .binOp _ _ _ _ _ | .unOp _ _ _ | .convert _ _ _ | .makeFunc _ _ _ | .makeSlice _ _ _
  | .slice _ _ _ _ _ | .fieldAddr _ _ _ | .field _ _ _ | .indexAddr _ _ _ | .index _ _ _ | .extract _ _ => true
  | .call ⟨.builtin .len, _, _⟩ | .call ⟨.builtin .min, _, _⟩ | .call ⟨.builtin .max, _, _⟩ | .call ⟨.builtin .append, _, _⟩ => true
  | _ => false
def agr (o' o : Option Blk) : Prop := ∀ k, o = some k → ∃ k', o' = some k' ∧ k'.ty = k.ty ∧ k'.cs = k.cs ∧ (k.fz = false → k'.fz = false)
def agr0 (o' o : Option Blk) : Prop := ∀ k, o = some k → ∃ k', o' = some k' ∧ k'.ty = k.ty ∧ k'.cs = k.cs
def isNew : Eff → Bool
  | .new _ | .app _ _ => true
  | _ => false
section
variable {P : Program} {sl sl' : List (Nat × V)} {hp hp' : List (Nat × Blk)} {nx nx' : Nat}
theorem map_ev {l : List Operand} (h : ∀ y ∈ l, evS sl' y = evS sl y) : l.map (evS sl') = l.map (evS sl) := List.map_congr_left h
theorem omap_ev {o : Option Operand} (h : ∀ y, o = some y → evS sl' y = evS sl y) : o.map (evS sl') = o.map (evS sl) := by
  cases o with
  | none => rfl
  | some y => simp [h y rfl]
theorem pmap_ev {l : List (Nat × Operand)} (h : ∀ y ∈ l.map (·.2), evS sl' y = evS sl y) : (l.map fun p => (p.1, evS sl' p.2)) = l.map fun p => (p.1, evS sl p.2) :=
  List.map_congr_left fun p hp => by rw [h p.2 (List.mem_map.2 ⟨p, hp, rfl⟩)]
theorem exSlice_sc {t : TypeId} {lo hi mx : Option V} (u : Value) : exSlice P hp' t (.sc u) lo hi mx = exSlice P hp t (.sc u) lo hi mx := by
  cases u <;> try rfl
  rename_i a l c
  cases a <;> try rfl
  cases l <;> try rfl
  cases c <;> rfl
theorem frz_sc (n : Nat) (u : Value) : frz (n + 1) hp' (.sc u) = frz (n + 1) hp (.sc u) := by
  cases u <;> try rfl
  rename_i a l c
  cases a <;> try rfl
  cases l <;> try rfl
  cases c <;> rfl
theorem srcG_local {off len z : Nat} {o o' : Option Blk} {q : List V × Nat} (h : srcG off len z o = some q) (hr : agr0 o' o) : srcG off len z o' = some q := by
  cases o with
  | none => cases h
  | some k =>
    obtain ⟨k', rfl, h2, h3⟩ := hr k rfl
    simp only [srcG] at h ⊢
    rw [h3]; exact h
theorem exConvH_sc {a b : TypeId} (u : Value) : exConvH P hp' a b (.sc u) = exConvH P hp a b (.sc u) := by
  cases u <;> try rfl
  rename_i x l c
  cases x <;> try rfl
  cases l <;> try rfl
  cases c <;> rfl
theorem srcV_local {y : V} {q : List V × Nat} (h : srcV hp y = some q) (hr : ∀ id ∈ idOfS y, agr0 (hget hp' id) (hget hp id)) : srcV hp' y = some q := by
  cases y with
  | sl id off len z c =>
    rw [srcV_sl] at h ⊢
    exact srcG_local h (hr id (by simp [idOfS]))
  | im cs n => exact h
  | sc u =>
    cases u <;> try (exact h)
    rename_i a l c
    cases a <;> try (exact h)
    cases l <;> try (exact h)
    cases c <;> exact h
  | _ => exact h
theorem append_local {ts : List TypeId} {xs : List V} {x : V} {f : Eff} (h : exBuiltin P hp nx .append ts xs = some (x, f)) (hr : ∀ id ∈ xs.flatMap idOfS, agr0 (hget hp' id) (hget hp id))
    (hw : ∀ id, tgE f = some id → agr (hget hp' id) (hget hp id)) (hn : nx' = nx ∨ isNew f = false) : exBuiltin P hp' nx' .append ts xs = some (x, f) := by
  obtain ⟨t, s, y, rfl, rfl, h2⟩ | ⟨t, t', s, y, ne, rfl, rfl, h2⟩ : (∃ t s y, ts = [t, t] ∧ xs = [s, y] ∧ exAppend P hp nx t s y = some (x, f)) ∨ ∃ t t' s y, t ≠ t' ∧ ts = [t, t'] ∧ xs = [s, y] ∧ exAppendZ P nx t t' s y = some (x, f) := by
    unfold exBuiltin at h
    split at h <;> first | (cases h; done) | contradiction | skip
    rename_i t t' s y _
    split at h
    · rename_i e; subst e; exact .inl ⟨t, s, y, rfl, rfl, h⟩
    · rename_i e; exact .inr ⟨t, t', s, y, e, rfl, rfl, h⟩
  case inr =>
    obtain ⟨b, rfl⟩ := exAppendZ_new h2
    rcases hn with rfl | hn
    · show (if t = t' then exAppend P hp' nx' t s y else exAppendZ P nx' t t' s y) = _
      rw [if_neg ne]; exact h2
    · cases hn
  clear h
  have h := h2
  clear h2
  show (if t = t then exAppend P hp' nx' t s y else exAppendZ P nx' t t s y) = _
  rw [if_pos rfl]
  unfold exAppend at h ⊢
  cases hk : mkOf P t with
  | none => simp [hk] at h
  | some p =>
    obtain ⟨e, by', zc⟩ := p
    cases hsrc : srcV hp y with
    | none => simp [hk, hsrc] at h
    | some q =>
      obtain ⟨ys, m⟩ := q
      have hsrc' := srcV_local (hp' := hp') hsrc (fun id hid => hr id (by simp [hid]))
      simp only [hk, hsrc, Option.bind_some] at h
      simp only [hsrc', Option.bind_some]
      split at h
      · rename_i hc
        rw [if_pos hc]
        split at h
        · rename_i id off n z c
          cases hg : hget hp id with
          | none => simp [hg] at h
          | some k =>
            simp only [hg, Option.bind_some] at h
            split at h
            · rename_i hd
              cases h
              obtain ⟨k', a1, a2, a3, a4⟩ := hw id rfl k hg
              rcases hn with rfl | hn
              · simp only [a1, Option.bind_some, a2, a3]
                rw [if_pos ⟨hd.1, hd.2.1, a4 hd.2.2.1, hd.2.2.2⟩]
              · cases hn
            · cases h
        · split at h
          · rename_i hd
            cases h
            rcases hn with rfl | hn
            · rw [if_pos hd]
            · cases hn
          · cases h
        · cases h
      · cases h
theorem op_local {op : Op} {x : V} {f : Eff} (hok : okOp op = true) (h : exOp P sl hp nx op = some (x, f)) (hs : ∀ y ∈ op.operands.toList, evS sl' y = evS sl y) (hr : ∀ id ∈ rdOf sl op, agr0 (hget hp' id) (hget hp id))
    (hw : ∀ id, tgE f = some id → agr (hget hp' id) (hget hp id)) (hn : nx' = nx ∨ isNew f = false) : exOp P sl' hp' nx' op = some (x, f) := by
  cases op <;> simp only [okOp] at hok <;> try (cases hok; done)
  case move y => simp only [exOp] at h ⊢; rw [hs y (by simp [Op.operands])]; exact h
  case assign y => simp only [exOp] at h ⊢; rw [hs y (by simp [Op.operands])]; exact h
  case pick c a b => simp only [exOp] at h ⊢; rw [hs c (by simp [Op.operands]), hs a (by simp [Op.operands]), hs b (by simp [Op.operands])]; exact h
  case alloc t =>
    simp only [exOp] at h ⊢
    rcases hn with rfl | hn
    · exact h
    · obtain ⟨k, hk, e⟩ := Option.map_eq h; cases e; cases hn
  case box t y =>
    simp only [exOp] at h ⊢
    rw [hs y (by simp [Op.operands])]
    rcases hn with rfl | hn
    · exact h
    · obtain ⟨k, hk, e⟩ := Option.map_eq h; cases e; cases hn
  case build t ps => simp only [exOp] at h ⊢; rw [pmap_ev (by simpa [Op.operands] using hs)]; exact h
  case buildSlice t n ps =>
    simp only [exOp] at h ⊢
    rw [pmap_ev (by simpa [Op.operands] using hs)]
    rcases hn with rfl | hn
    · exact h
    · exfalso
      unfold exBuildSlice at h
      cases hk : mkOf P t with
      | none => simp [hk] at h
      | some p =>
        simp only [hk, Option.bind_some] at h
        split at h
        · obtain ⟨k, _, e⟩ := Option.map_eq h; cases e; cases hn
        · cases h
  case load t a =>
    simp only [exOp] at h ⊢
    rw [hs a (by simp [Op.operands])]
    simp only [rdOf] at hr
    obtain ⟨y, hy, e⟩ := Option.map_eq h
    cases e
    unfold exLoad at hy ⊢
    generalize evS sl a = v at hy hr ⊢
    cases v <;> simp only at hy ⊢ <;> try (cases hy; done)
    · rename_i id off
      cases hk : hget hp id with
      | none => simp [hk] at hy
      | some k =>
        obtain ⟨k', h1, h2, h3⟩ := hr id (by simp [idOf]) k hk
        simp only [hk, Option.bind_some] at hy
        simp only [h1, Option.bind_some, h3, hy]; rfl
    · rw [hy]; rfl
  case store t a y =>
    simp only [exOp] at h ⊢
    rw [hs a (by simp [Op.operands]), hs y (by simp [Op.operands])]
    obtain ⟨e', hy, e⟩ := Option.map_eq h
    cases e
    unfold exStore at hy ⊢
    generalize evS sl a = v at hy ⊢
    cases v <;> simp only at hy ⊢ <;> try (cases hy; done)
    rename_i id off
    cases hk : hget hp id with
    | none => simp [hk] at hy
    | some k =>
      cases hv : vcells (evS sl y) with
      | none => simp [hk, hv] at hy
      | some xs =>
        simp only [hk, hv, Option.bind_some] at hy
        split at hy
        · rename_i hc
          cases hy
          obtain ⟨k', h1, h2, h3, h4⟩ := hw id rfl k hk
          simp only [h1, Option.bind_some, h2, h3]
          rw [if_pos ⟨h4 hc.1, hc.2⟩]; rfl
        · cases hy
  case nilCheck y => simp only [exOp] at h ⊢; rw [hs y (by simp [Op.operands])]; exact h
  case binOp o t y z u => simp only [exOp] at h ⊢; rw [hs y (by simp [Op.operands]), hs z (by simp [Op.operands])]; exact h
  case unOp o t y => simp only [exOp] at h ⊢; rw [hs y (by simp [Op.operands])]; exact h
  case convert s d y =>
    simp only [exOp] at h ⊢
    rw [hs y (by simp [Op.operands])]
    simp only [rdOf] at hr
    obtain ⟨z, hz, e⟩ := Option.map_eq h
    cases e
    suffices hh : exConvH P hp' s d (evS sl y) = some x by rw [hh]; rfl
    generalize evS sl y = v at hz hr ⊢
    cases v with
    | sl id off len zz cap =>
      simp only [exConvH, bytesH] at hz ⊢
      split at hz
      · rename_i hc
        rw [if_pos hc]
        rw [srcV_sl] at hz ⊢
        cases hg : srcG off len zz (hget hp id) with
        | none => simp [hg] at hz
        | some q => rw [srcG_local hg (hr id (by simp [idOfS]))]; rw [hg] at hz; exact hz
      · cases hz
    | sc u => exact (exConvH_sc u).trans hz
    | _ => exact hz
  case makeFunc fn p q =>
    simp only [exOp] at h ⊢
    rw [map_ev (l := p.toList) (fun y hy => hs y (by simp only [Op.operands, Array.toList_append, List.mem_append]; exact .inl hy)), map_ev (l := q.toList) (fun y hy => hs y (by simp only [Op.operands, Array.toList_append, List.mem_append]; exact .inr hy))]
    exact h
  case makeSlice t l c =>
    simp only [exOp] at h ⊢
    rw [hs l (by simp [Op.operands]), hs c (by simp [Op.operands])]
    rcases hn with rfl | hn
    · exact h
    · exfalso
      unfold exMake at h
      split at h
      · cases hk : mkOf P t with
        | none => simp [hk] at h
        | some p =>
          simp only [hk, Option.bind_some] at h
          split at h
          · simp only [Option.some.injEq, Prod.mk.injEq] at h; obtain ⟨_, rfl⟩ := h; cases hn
          · cases h
      · cases h
  case slice t y lo hi mx =>
    simp only [exOp] at h ⊢
    have e1 : evS sl' y = evS sl y := hs y (by simp [Op.operands])
    rw [e1, omap_ev (o := lo) (fun z hz => hs z (by subst hz; simp [Op.operands])), omap_ev (o := hi) (fun z hz => hs z (by subst hz; simp [Op.operands])), omap_ev (o := mx) (fun z hz => hs z (by subst hz; simp [Op.operands]))]
    simp only [rdOf] at hr
    obtain ⟨z, hz, e⟩ := Option.map_eq h
    cases e
    generalize evS sl y = v at hz hr ⊢
    suffices hh : exSlice P hp' t v (lo.map (evS sl)) (hi.map (evS sl)) (mx.map (evS sl)) = some x by rw [hh]; rfl
    cases v with
    | pt id off =>
      rw [exSlice_pt] at hz ⊢
      cases hk : hget hp id with
      | none => simp [hk, blkLen] at hz
      | some k =>
        obtain ⟨k', h1, h2, h3⟩ := hr id (by simp [idOf]) k hk
        have : blkLen (hget hp' id) = blkLen (hget hp id) := by rw [h1, hk]; simp [blkLen, h3]
        rw [this]; exact hz
    | sc u => exact (exSlice_sc u).trans hz
    | _ => exact hz
  case fieldAddr t y k => simp only [exOp] at h ⊢; rw [hs y (by simp [Op.operands])]; exact h
  case field t y k => simp only [exOp] at h ⊢; rw [hs y (by simp [Op.operands])]; exact h
  case indexAddr t y i => simp only [exOp] at h ⊢; rw [hs y (by simp [Op.operands]), hs i (by simp [Op.operands])]; exact h
  case index t y i => simp only [exOp] at h ⊢; rw [hs y (by simp [Op.operands]), hs i (by simp [Op.operands])]; exact h
  case extract t i => simp only [exOp] at h ⊢; rw [hs t (by simp [Op.operands])]; exact h
  case call c =>
    obtain ⟨callee, args, ts⟩ := c
    cases callee <;> try (cases hok; done)
    rename_i b
    simp only [exOp] at h ⊢
    rw [map_ev (l := args.toList) (fun y hy => hs y (by simpa [Op.operands, Call.operands] using hy))]
    by_cases hb : b = .append
    · subst hb
      have hr2 : ∀ id ∈ (args.toList.map (evS sl)).flatMap idOfS, agr0 (hget hp' id) (hget hp id) := hr
      exact append_local h hr2 hw hn
    generalize args.toList.map (evS sl) = xs at h ⊢
    generalize ts.toList = tl at h ⊢
    cases b <;> first | (exact absurd rfl hb) | first | (cases hok; done) | (simp at hok; done) | (unfold exBuiltin at h ⊢; split at h <;> first | exact h | (cases h; done) | contradiction)
theorem frzAll_local {g g' : V → Option (V × List Nat)} {p : Nat → Prop} (hg : ∀ x y ids, g x = some (y, ids) → (∀ id ∈ ids, p id) → g' x = some (y, ids)) :
    ∀ {cs ys : List V} {ids : List Nat}, frzAll g cs = some (ys, ids) → (∀ id ∈ ids, p id) → frzAll g' cs = some (ys, ids)
  | [], ys, ids, h, _ => h
  | c :: r, ys, ids, h, hp => by
    simp only [frzAll] at h ⊢
    cases hc : g c with
    | none => simp [hc] at h
    | some q =>
      cases hr : frzAll g r with
      | none => simp [hc, hr] at h
      | some u =>
        obtain ⟨y, i1⟩ := q
        obtain ⟨zs, i2⟩ := u
        simp only [hc, hr, Option.bind_some, Option.map_some, Option.some.injEq, Prod.mk.injEq] at h
        obtain ⟨rfl, rfl⟩ := h
        rw [hg c y i1 hc (fun id h => hp id (List.mem_append.2 (.inl h))), frzAll_local hg hr (fun id h => hp id (List.mem_append.2 (.inr h)))]
        rfl
theorem frzL_local {g g' : V → Option (V × List Nat)} {p : Nat → Prop} (hg : ∀ x y ids, g x = some (y, ids) → (∀ id ∈ ids, p id) → g' x = some (y, ids)) {cs ys : List V} {ids : List Nat} (h : frzL g cs = some (ys, ids)) (hp : ∀ id ∈ ids, p id) : frzL g' cs = some (ys, ids) := by
  unfold frzL at h ⊢
  split
  · rename_i hc; rw [if_pos hc] at h; exact h
  · rename_i hc; rw [if_neg hc] at h; exact frzAll_local hg h hp
theorem frz_local : ∀ (n : Nat) (x y : V) (ids : List Nat), frz n hp x = some (y, ids) → (∀ id ∈ ids, agr0 (hget hp' id) (hget hp id)) → frz n hp' x = some (y, ids)
  | 0, x, y, ids, h, _ => by simp [frz] at h
  | n + 1, x, y, ids, h, hr => by
    have ih := frz_local n
    have hL : ∀ {cs ys : List V} {ids : List Nat}, frzL (frz n hp) cs = some (ys, ids) → (∀ id ∈ ids, agr0 (hget hp' id) (hget hp id)) → frzL (frz n hp') cs = some (ys, ids) := fun h k => frzL_local (p := fun id => agr0 (hget hp' id) (hget hp id)) (fun x y ids => ih x y ids) h k
    cases x with
    | ag cs =>
      rw [frz_ag] at h ⊢
      obtain ⟨⟨ys, i1⟩, h1, h2⟩ := Option.map_eq h
      cases h2
      rw [hL h1 hr]; rfl
    | tu cs =>
      rw [frz_tu] at h ⊢
      obtain ⟨⟨ys, i1⟩, h1, h2⟩ := Option.map_eq h
      cases h2
      rw [hL h1 hr]; rfl
    | sl id off len z c =>
      rw [frz_sl] at h ⊢
      cases hs : srcG off len z (hget hp id) with
      | none => rw [hs] at h; cases h
      | some q =>
        rw [hs] at h
        simp only [fzQ] at h
        obtain ⟨⟨ys, i1⟩, h1, h2⟩ := Option.map_eq h
        cases h2
        rw [srcG_local hs (hr id (by simp))]
        simp only [fzQ]
        rw [hL h1 (fun j hj => hr j (by simp [hj]))]; rfl
    | sc v => exact (frz_sc n v).trans h
    | pt id off =>
      rw [frz_pt] at h ⊢
      cases hk : hget hp id with
      | none => rw [hk] at h; cases h
      | some k =>
        rw [hk] at h
        obtain ⟨⟨ys, i1⟩, h1, h2⟩ := Option.map_eq h
        cases h2
        obtain ⟨k', e1, _, e3⟩ := hr id (by simp) k hk
        rw [e1]
        show fzP id (frzL (frz n hp') (k'.cs.drop off)) = _
        rw [e3, hL h1 (fun j hj => hr j (by simp [hj]))]; rfl
    | fn f p q =>
      rw [frz_fn] at h ⊢
      cases hp1 : frzL (frz n hp) p with
      | none => rw [hp1] at h; cases h
      | some a =>
        cases hq1 : frzL (frz n hp) q with
        | none => rw [hp1, hq1] at h; cases h
        | some b =>
          obtain ⟨a1, i1⟩ := a
          obtain ⟨b1, i2⟩ := b
          rw [hp1, hq1] at h
          cases h
          rw [hL hp1 (fun j hj => hr j (List.mem_append.2 (.inl hj))), hL hq1 (fun j hj => hr j (List.mem_append.2 (.inr hj)))]
          rfl
    | _ => exact h
end
end Go.Proofs.YtpodnbcdddcdmaaGreatDoor

/- A region that draws its order, on symbolic states: what it comes to in the order of its text. -/
namespace Go.Proofs.YtpodnbcdddcdmaaGreatDoor
open Go.RowKit
section
variable {P : Program} {ops : Array Oper} {Q : Exit → Act → World → Prop}
def unl (listed : Array Bool) (n : Nat) : Nat := ((List.range n).filter fun i => !listed.getD i false).length
theorem unl_set {listed : Array Bool} {n i : Nat} (hs : listed.size = n) (hi : i < n) (h : listed.getD i false = false) : unl (listed.setIfInBounds i true) n < unl listed n := by
  unfold unl
  have e : (List.range n).filter (fun j => !(listed.setIfInBounds i true).getD j false) = ((List.range n).filter fun j => !listed.getD j false).filter (fun j => j != i) := by
    rw [List.filter_filter]
    apply List.filter_congr
    intro j hj
    by_cases hji : j = i
    · subst hji
      simp [hs, hi]
    · have hij : i ≠ j := fun e => hji e.symm
      simp [hij, hji]
  rw [e]
  apply List.length_filter_lt_length_iff_exists.2
  exact ⟨i, by simp only [List.mem_filter, List.mem_range]; exact ⟨hi, by rw [h]; rfl⟩, by simp⟩
theorem wpAny_act (Inv : (Nat → Bool) → Act → World → Prop)
    (hord : ∀ (i : Nat) (o : Oper), ops[i]? = some o → ∀ e ∈ o.after.toList, Region.binds .any e = true → e.on < i)
    (hstep : ∀ L a w i o, ops[i]? = some o → L i = false → (∀ e ∈ o.after.toList, Region.binds .any e = true → L e.on = true) → Inv L a w →
      wpOp P ops Q i (fun a' w' => Inv (fun j => if j = i then true else L j) a' w') a w)
    (hend : ∀ L a w, (∀ i, i < ops.size → L i = true) → Inv L a w → Q .normal a w) :
    ∀ (fuel : Nat) (listed : Array Bool) (a : Act) (w : World), listed.size = ops.size → unl listed ops.size ≤ fuel → Inv (fun j => listed.getD j false) a w → wpAny P .any ops Q fuel listed a w := by
  have hall : ∀ (listed : Array Bool), listed.size = ops.size → Region.ready .any ops listed = [] → ∀ i, i < ops.size → listed.getD i false = true := by
    intro listed hs hr i
    induction i using Nat.strongRecOn with
    | _ i ih =>
      intro hi
      cases hb : listed.getD i false with
      | true => rfl
      | false =>
        exfalso
        have hm : i ∈ Region.ready .any ops listed := by
          unfold Region.ready
          rw [List.mem_filter]
          refine ⟨List.mem_range.2 hi, ?_⟩
          have hlt : i < listed.size := by omega
          have ho : ops[i]? = some ops[i] := Array.getElem?_eq_getElem hi
          have h1 : listed.getD i true = false := by
            rw [Array.getD_eq_getD_getElem?, Array.getElem?_eq_getElem hlt] at hb ⊢; exact hb
          rw [h1, ho]
          simp only [Bool.not_false, Bool.true_and, Option.map_some, Option.getD_some]
          rw [Array.all_eq_true']
          intro e he
          cases hbind : Region.binds .any e with
          | false => rfl
          | true =>
            have hlt2 := hord i _ ho e (by simpa using he) hbind
            simp only [Bool.not_true, Bool.false_or]
            exact ih e.on hlt2 (by omega)
        rw [hr] at hm
        cases hm
  intro fuel
  induction fuel with
  | zero =>
    intro listed a w hs hu hI
    have hr : Region.ready .any ops listed = [] := by
      apply List.eq_nil_iff_forall_not_mem.2
      intro i hi
      unfold Region.ready at hi
      rw [List.mem_filter] at hi
      obtain ⟨h1, h2⟩ := hi
      have h1' := List.mem_range.1 h1
      unfold unl at hu
      have : i ∈ (List.range ops.size).filter fun i => !listed.getD i false := by
        rw [List.mem_filter]
        refine ⟨h1, ?_⟩
        rw [Bool.and_eq_true] at h2
        have h3 := h2.1
        rw [Array.getD_eq_getD_getElem?, Array.getElem?_eq_getElem (by omega)] at h3 ⊢
        exact h3
      rw [List.eq_nil_of_length_eq_zero (by omega : ((List.range ops.size).filter fun i => !listed.getD i false).length = 0)] at this
      cases this
    exact ⟨hr, hend _ a w (hall listed hs hr) hI⟩
  | succ fuel ih =>
    intro listed a w hs hu hI
    refine ⟨fun hr => hend _ a w (hall listed hs hr) hI, fun i hi => ?_⟩
    unfold Region.ready at hi
    rw [List.mem_filter] at hi
    obtain ⟨h1, h2⟩ := hi
    have h1' := List.mem_range.1 h1
    rw [Bool.and_eq_true] at h2
    have h3 : listed.getD i false = false := by
      have h3 := h2.1
      rw [Array.getD_eq_getD_getElem?, Array.getElem?_eq_getElem (by omega)] at h3 ⊢
      simpa using h3
    have ho : ops[i]? = some ops[i] := Array.getElem?_eq_getElem h1'
    refine wpOp_mono ?_ (hstep (fun j => listed.getD j false) a w i _ ho h3 ?_ hI)
    · intro a' w' hI'
      refine ih (listed.setIfInBounds i true) a' w' (by simpa using hs) (by have := unl_set hs h1' h3; omega) ?_
      have e : (fun j => (listed.setIfInBounds i true).getD j false) = (fun j => if j = i then true else listed.getD j false) := by
        funext j
        by_cases hji : j = i
        · subst hji; simp [hs, h1']
        · have hij : i ≠ j := fun e => hji e.symm
          simp [hij, hji]
      rw [e]; exact hI'
    · intro e he hb
      have h4 := h2.2
      rw [ho] at h4
      simp only [Option.map_some, Option.getD_some] at h4
      rw [Array.all_eq_true'] at h4
      have h5 := h4 e (by simpa using he)
      rw [hb] at h5
      simpa using h5
end
def depB (ops : Array Oper) (i j : Nat) : Bool := match ops[i]? with | some o => o.after.any fun e => Region.binds .any e && e.on == j | none => false
def reachB (ops : Array Oper) : Nat → Nat → Nat → Bool
  | 0, _, _ => false
  | f + 1, i, j => depB ops i j || (List.range i).any fun m => depB ops i m && reachB ops f m j
theorem reachB_spec {ops : Array Oper} {L : Nat → Bool} (hc : ∀ i j, L i = true → depB ops i j = true → L j = true) : ∀ (f i j : Nat), reachB ops f i j = true → (∀ m, depB ops i m = true → L m = true) → L j = true
  | 0, _, _, h, _ => by cases h
  | f + 1, i, j, h, hi => by
    simp only [reachB, Bool.or_eq_true, List.any_eq_true, Bool.and_eq_true] at h
    rcases h with h | ⟨m, _, h1, h2⟩
    · exact hi j h
    · exact reachB_spec hc f m j h2 (fun k hk => hc m k (hi m h1) hk)
/-! ### the run in the order of the text -/
structure En where
  x : V
  tg : Option Nat
  tc : List Nat
def crE : Eff → Nat → List Nat
  | .new _, nx => [nx]
  | .app _ _, nx => [nx]
  | _, _ => []
def noApp : Eff → Bool
  | .app _ _ => true
  | _ => true
def RX (X : Nat → V) : Prop := ∀ (S S' : Nat → Prop) (rho rho' : Nat → Nat) (A A' : Nat → Prop) (w : World) (id id' : Nat) (v : Value), R S rho w A (X id) v → (∀ b, S b → S' b) → (∀ i, A i → i = id) → A' id' → rho' id' = rho id → R S' rho' w A' (X id') v
def NewX (P : Program) (f : Nat) (args : List V) (k : Blk) (X : Nat → V) (fl : Bool) : Prop :=
  RX X ∧ ∀ (S : Nat → Prop) (w : World) (vs : Array Value), (∀ b, S b → b < w.heap.size) → TabOK S w → AllC S w args vs.toList →
    Calls P f vs w (fun e w' => ∃ v, e = .returned v ∧ Grow w w' ∧ ((∃ b S2, w.heap.size ≤ b ∧ (∀ c, S2 c → fl = false ∧ (S c ∨ (w.heap.size ≤ c ∧ c < w'.heap.size))) ∧ ¬ S2 b ∧ Cellsat S2 (fun _ => 0) (fun _ => False) w' b k ∧ R S2 (fun _ => b) w' (fun i => i = 0) (X 0) v) ∨ ∀ (S : Nat → Prop) (rho : Nat → Nat) (w : World) (A : Nat → Prop) (id : Nat), R S rho w A (X id) v))
def NewP (P : Program) (f : Nat) (args : List V) (k : Blk) (off len z : Nat) (cap : Option Nat) : Prop := NewX P f args k (fun id => .sl id off len z cap) true
theorem rx_sl (off len z : Nat) (cap : Option Nat) : RX fun id => .sl id off len z cap := by
  intro S S' rho rho' A A' w id id' v h _ _ ha he
  cases h with
  | sl _ hl hm hc hz => rw [← he]; exact .sl ha hl hm hc (by rw [he]; exact hz)
  | sln h => exact .sln h
theorem R.renum {S S' : Nat → Prop} {rho rho' : Nat → Nat} {A A' : Nat → Prop} {w : World} {id id' off len z : Nat} {c : Option Nat} {v : Value} (h : R S rho w A (.sl id off len z c) v) (ha : A' id') (he : rho' id' = rho id) : R S' rho' w A' (.sl id' off len z c) v := by
  cases h with
  | sl _ hl hm hc hz => rw [← he]; exact .sl ha hl hm hc (by rw [he]; exact hz)
  | sln h => exact .sln h
structure Moved (A : Nat → Prop) (rho : Nat → Nat) (id : Nat) (w w' : World) : Prop where
  os : w'.os = w.os
  tape : w'.tape = w.tape
  output : w'.output = w.output
  size : w.heap.size ≤ w'.heap.size
  block : ∀ b, b < w.heap.size → ¬ (A id ∧ rho id = b) → w'.heap[b]? = w.heap[b]?
  sz : ∀ b n, szAt w b n → szAt w' b n
def AppC (P : Program) (f : Nat) (ys : List V) (id : Nat) (k : Blk) (off len z : Nat) (cap : Option Nat) (k' : Blk) : Prop :=
  ∀ (B : Base) (S : Nat → Prop) (rho : Nat → Nat) (A : Nat → Prop) (w : World) (vs : Array Value) (m : Nat), Mem B S rho A [(id, k)] w → (∀ j, A j → j < m) → All S rho A w ys vs.toList →
    Calls P f vs w (fun e w' => ∃ v b, e = .returned v ∧ Moved A rho id w w' ∧ (∀ b, S b → w'.heap[b]? = w.heap[b]?) ∧ (w.heap.size ≤ b ∨ A id ∧ rho id = b) ∧ ¬ S b ∧ Cellsat (fun _ => False) (fun _ => 0) (fun _ => False) w' b k' ∧ R (fun _ => False) (fun _ => b) w' (fun i => i = 0) (.sl 0 off len z cap) v)
theorem Mem.moved {B : Base} {S : Nat → Prop} {rho : Nat → Nat} {A : Nat → Prop} {hp : List (Nat × Blk)} {w w' : World} {id : Nat} {k : Blk} (h : Mem B S rho A hp w) (hk : hget hp id = some k) (g : Moved A rho id w w') (hS : ∀ b, S b → w'.heap[b]? = w.heap[b]?) : Mem B S rho A (hdel hp id) w' := by
  have hg : ∀ j q, hget (hdel hp id) j = some q → hget hp j = some q ∧ j ≠ id := by
    intro j q hj
    rw [hget_hdel] at hj
    split at hj
    · cases hj
    · exact ⟨hj, ‹_›⟩
  have hL : ∀ b, A id ∧ rho id = b → B.n0 ≤ b ∨ B.L b := fun b ⟨h1, h2⟩ => h2 ▸ h.own id k hk h1
  exact {
    cells := fun j q hj ha => by
      obtain ⟨h1, h2⟩ := hg j q hj
      refine (h.cells j q h1 ha).mono (g.block _ (h.lt h1 ha) fun ⟨a1, a2⟩ => h2 (h.inj j id q k h1 hk ha a1 a2.symm)) (fun b hb => ⟨hb, hS b hb⟩) (fun _ h => ⟨h, rfl, fun n => g.sz _ n⟩)
    fz := fun j q hj => h.fz j q (hg j q hj).1
    own := fun j q hj => h.own j q (hg j q hj).1
    inj := fun j j' q q' hj hj' => h.inj j j' q q' (hg j q hj).1 (hg j' q' hj').1
    slt := fun b hb => Nat.lt_of_lt_of_le (h.slt b hb) g.size
    sub := h.sub
    base := h.base
    frame := ⟨g.os.trans h.frame.os, g.tape.trans h.frame.tape, g.output.trans h.frame.output, Nat.le_trans h.frame.size g.size,
      fun b hb hl => (g.block b (Nat.lt_of_lt_of_le hb h.frame.size) fun hh => (hL b hh).elim (fun e => by unfold Base.n0 at e; omega) hl).trans (h.frame.block b hb hl),
      fun b hb => (hS b (h.sub b hb)).trans (h.frame.stay b hb), fun b n hn => g.sz b n (h.frame.sz b n hn), h.frame.lt, h.frame.tab⟩
    keep := h.keep }
def fnOf : V → Option (Nat × List V × List V)
  | .sc (.func (.func f) p q) => some (f, p.toList.map .sc, q.toList.map .sc)
  | .fn (.func f) p q => some (f, p, q)
  | _ => none
theorem All.scs {S : Nat → Prop} {rho : Nat → Nat} {A : Nat → Prop} {w : World} (l : List Value) : All S rho A w (l.map .sc) l := ⟨by simp, fun i x u hx hu => by
  rw [List.getElem?_map, hu] at hx
  cases hx; exact .sc _⟩
theorem fn_sound {S : Nat → Prop} {rho : Nat → Nat} {A : Nat → Prop} {w : World} {x : V} {v : Value} {f : Nat} {p q : List V} (h : fnOf x = some (f, p, q)) (hx : R S rho w A x v) : ∃ ps qs : Array Value, v = .func (.func f) ps qs ∧ All S rho A w p ps.toList ∧ All S rho A w q qs.toList := by
  unfold fnOf at h
  split at h
  · cases h
    cases hx
    exact ⟨_, _, rfl, All.scs _, All.scs _⟩
  · cases h
    cases hx with | fn hp hq h1 h2 =>
    exact ⟨_, _, rfl, ⟨by simpa using hp, fun i x u hx hu => h1 i x u hx (by simpa using hu)⟩, ⟨by simpa using hq, fun i x u hx hu => h2 i x u hx (by simpa using hu)⟩⟩
  · cases h
def cloM : V → Bool
  | .sc _ | .im _ _ | .pi _ => true
  | _ => false
def frzN (cs : List V) : Option (List V × List Nat) := if cs.all cloM then some (cs, []) else none
theorem cloM_sound {S : Nat → Prop} {rho : Nat → Nat} {A : Nat → Prop} {w : World} {x : V} {v : Value} (hc : cloM x = true) (h : R S rho w A x v) : R S rho w (fun _ => False) x v := by
  cases h <;> simp [cloM] at hc
  · exact .sc _
  · exact .im0 ‹_› ‹_› ‹_›
  · exact .im1 _ ‹_› ‹_› ‹_› ‹_› ‹_›
  · exact .pi _ ‹_› ‹_› ‹_›
theorem frzN_sound {S : Nat → Prop} {rho : Nat → Nat} {A : Nat → Prop} {w : World} {hp : List (Nat × Blk)} {cs ys : List V} {vs : List Value} {ids : List Nat} (h : frzN cs = some (ys, ids)) (ha : All S rho A w cs vs) : All (addS S rho A ids) rho (fun _ => False) w ys vs ∧ ∀ id, id ∈ ids → ∃ k, hget hp id = some k := by
  unfold frzN at h
  split at h
  · rename_i hc
    simp only [Option.some.injEq, Prod.mk.injEq] at h
    obtain ⟨rfl, rfl⟩ := h
    refine ⟨⟨ha.1, fun i x u hx hu => ?_⟩, fun id h => by simp at h⟩
    exact (cloM_sound (List.all_eq_true.1 hc _ (List.mem_of_getElem? hx)) (ha.2 i x u hx hu)).wide fun b hb => .inl hb
  · cases h
theorem frzN_none {cs ys : List V} {ids : List Nat} (h : frzN cs = some (ys, ids)) : ids = [] := by
  unfold frzN at h
  split at h
  · simp only [Option.some.injEq, Prod.mk.injEq] at h; exact h.2.symm
  · cases h
def DStep (P : Program) (ops : Array Oper) (o : Oper) (s : SS) (e : En) (s' : SS) : Prop :=
  dstOk o.dst s.nt = true ∧
  ((∃ f, guardV ops s.sl o.guard = some true ∧ okOp o.op = true ∧ exOp P s.sl s.hp s.nx o.op = some (e.x, f) ∧ s' = s.put o.dst e.x f ∧ e.tg = tgE f ∧ e.tc = rdOf s.sl o.op ++ crE f s.nx ∧ noApp f = true) ∨
   (guardV ops s.sl o.guard = some false ∧ e.x = .tu [] ∧ e.tg = none ∧ e.tc = [] ∧ s' = s.put o.dst (.tu []) .none) ∨
   (∃ g f p q args ts ys fb, o.op = .call ⟨.value g, args, ts⟩ ∧ fnOf (evS s.sl g) = some (f, p, q) ∧ guardV ops s.sl o.guard = some true ∧ isGo P f = true ∧ (frzAll (frz 8 s.hp) (p ++ args.toList.map (evS s.sl) ++ q) = some (ys, e.tc) ∨ frzN (p ++ args.toList.map (evS s.sl) ++ q) = some (ys, e.tc)) ∧ Spec P f ys e.x ∧ s' = calledG s o.dst e.x e.tc fb ∧ e.tg = none ∧ (fb = true → flat e.x = true)) ∨
   (∃ f args ts ys ids k X fl, o.op = .call ⟨.value (.func f), args, ts⟩ ∧ guardV ops s.sl o.guard = some true ∧ isGo P f = true ∧ frzAll (frz 8 s.hp) (args.toList.map (evS s.sl)) = some (ys, ids) ∧ NewX P f ys k X fl ∧ e.x = X s.nx ∧ s' = s.put o.dst e.x (.new k) ∧ e.tg = none ∧ e.tc = ids ++ [s.nx] ∧ (fl = true ∨ ids = [])) ∨
   (∃ f args ts id k off len z cap k', o.op = .call ⟨.value (.func f), args, ts⟩ ∧ guardV ops s.sl o.guard = some true ∧ isGo P f = true ∧ hget s.hp id = some k ∧ AppC P f (args.toList.map (evS s.sl)) id k off len z cap k' ∧ e.x = .sl s.nx off len z cap ∧ s' = s.put o.dst e.x (.app id k') ∧ e.tg = some id ∧ e.tc = [id, s.nx]))
def KL (s : SS) : Prop := ∀ id k, hget s.hp id = some k → id < s.nx
section
variable {P : Program} {ops : Array Oper}
theorem exStore_tgt {hp : List (Nat × Blk)} {t : TypeId} {a x : V} {id : Nat} {k' : Blk} (h : exStore P hp t a x = some (.set id k')) : ∃ k, hget hp id = some k ∧ k.fz = false ∧ k'.fz = false ∧ idOf a = [id] := by
  unfold exStore at h
  split at h
  · rename_i i off
    cases hk : hget hp i with
    | none => simp [hk] at h
    | some k =>
      cases hv : vcells x with
      | none => simp [hk, hv] at h
      | some xs =>
        simp only [hk, hv, Option.bind_some] at h
        split at h
        · rename_i hc
          simp only [Option.some.injEq, Eff.set.injEq] at h
          obtain ⟨rfl, rfl⟩ := h
          exact ⟨k, hk, hc.1, rfl, rfl⟩
        · cases h
  · cases h
theorem app_open {hp : List (Nat × Blk)} {nx : Nat} {ts : List TypeId} {xs : List V} {x : V} {f : Eff} (h : exBuiltin P hp nx .append ts xs = some (x, f)) (hf : ∀ b, f ≠ .new b) : ∃ t s y, ts = [t, t] ∧ xs = [s, y] ∧ exAppend P hp nx t s y = some (x, f) := by
  unfold exBuiltin at h
  split at h <;> first | (cases h; done) | contradiction | skip
  rename_i t t' s y _
  split at h
  · rename_i e; subst e; exact ⟨t, s, y, rfl, rfl, h⟩
  · obtain ⟨b, rfl⟩ := exAppendZ_new h; exact absurd rfl (hf b)
theorem exAppend_set {hp : List (Nat × Blk)} {nx : Nat} {t : TypeId} {s y x : V} {id : Nat} {k : Blk} : ¬ exAppend P hp nx t s y = some (x, .set id k) := by
  intro h
  unfold exAppend at h
  cases hk : mkOf P t with
  | none => simp [hk] at h
  | some p =>
    cases hsrc : srcV hp y with
    | none => simp [hk, hsrc] at h
    | some q =>
      simp only [hk, hsrc, Option.bind_some] at h
      split at h
      · split at h
        · rename_i i off n z c
          cases hg : hget hp i with
          | none => simp [hg] at h
          | some k =>
            simp only [hg, Option.bind_some] at h
            split at h <;> cases h
        · split at h <;> cases h
        · cases h
      · cases h
theorem exAppend_live {hp : List (Nat × Blk)} {nx : Nat} {t : TypeId} {s y x : V} {id : Nat} {k : Blk} (h : exAppend P hp nx t s y = some (x, .app id k)) : ∃ k, hget hp id = some k := by
  unfold exAppend at h
  cases hk : mkOf P t with
  | none => simp [hk] at h
  | some p =>
    cases hsrc : srcV hp y with
    | none => simp [hk, hsrc] at h
    | some q =>
      simp only [hk, hsrc, Option.bind_some] at h
      split at h
      · split at h
        · rename_i i off n z c
          cases hg : hget hp i with
          | none => simp [hg] at h
          | some k1 =>
            simp only [hg, Option.bind_some] at h
            split at h
            · cases h; exact ⟨k1, hg⟩
            · cases h
        · split at h <;> cases h
        · cases h
      · cases h
theorem set_store {sl : List (Nat × V)} {hp : List (Nat × Blk)} {nx : Nat} {op : Op} {x : V} {id : Nat} {k' : Blk} (hok : okOp op = true) (h : exOp P sl hp nx op = some (x, .set id k')) :
    ∃ t a y, op = .store t a y ∧ exStore P hp t (evS sl a) (evS sl y) = some (.set id k') := by
  cases op <;> simp only [exOp] at h <;> try (first | (cases h; done) | (obtain ⟨_, _, e⟩ := Option.map_eq h; cases e; done))
  case store t a y =>
    obtain ⟨f, hf, e⟩ := Option.map_eq h
    cases e
    exact ⟨t, a, y, rfl, hf⟩
  case buildSlice t n ps =>
    unfold exBuildSlice at h
    cases hk : mkOf P t with
    | none => simp [hk] at h
    | some p =>
      simp only [hk, Option.bind_some] at h
      split at h
      · obtain ⟨_, _, e⟩ := Option.map_eq h; cases e
      · cases h
  case makeSlice t l c =>
    unfold exMake at h
    split at h
    · cases hk : mkOf P t with
      | none => simp [hk] at h
      | some p =>
        simp only [hk, Option.bind_some] at h
        split at h
        · simp only [Option.some.injEq, Prod.mk.injEq] at h; obtain ⟨_, e⟩ := h; cases e
        · cases h
    · cases h
  case call c =>
    obtain ⟨callee, args, ts⟩ := c
    cases callee <;> try (cases hok; done)
    rename_i b
    have h : exBuiltin P hp nx b ts.toList (args.toList.map (evS sl)) = some (x, .set id k') := h
    generalize args.toList.map (evS sl) = xs at h
    generalize ts.toList = tl at h
    by_cases hb : b = .append
    · subst hb
      obtain ⟨t, s, y, _, _, h⟩ := app_open h (fun _ h => by cases h)
      exact absurd h (exAppend_set)
    cases b <;> first | (exact absurd rfl hb) | (cases hok; done) | (unfold exBuiltin at h; split at h <;> first | (cases h; done) | (obtain ⟨_, _, e⟩ := Option.map_eq h; cases e; done) | contradiction)
theorem app_op {sl : List (Nat × V)} {hp : List (Nat × Blk)} {nx : Nat} {op : Op} {x : V} {id : Nat} {k' : Blk} (hok : okOp op = true) (h : exOp P sl hp nx op = some (x, .app id k')) : ∃ k, hget hp id = some k := by
  cases op <;> simp only [exOp] at h <;> try (first | (cases h; done) | (obtain ⟨_, _, e⟩ := Option.map_eq h; cases e; done))
  case store t a y =>
    obtain ⟨f, hf, e⟩ := Option.map_eq h
    cases e
    unfold exStore at hf
    split at hf
    · rename_i i off _
      cases hk : hget hp i with
      | none => simp [hk] at hf
      | some k =>
        cases hv : vcells (evS sl y) with
        | none => simp [hk, hv] at hf
        | some xs =>
          simp only [hk, hv, Option.bind_some] at hf
          split at hf <;> cases hf
    · cases hf
  case buildSlice t n ps =>
    unfold exBuildSlice at h
    cases hk : mkOf P t with
    | none => simp [hk] at h
    | some p =>
      simp only [hk, Option.bind_some] at h
      split at h
      · obtain ⟨_, _, e⟩ := Option.map_eq h; cases e
      · cases h
  case makeSlice t l c =>
    unfold exMake at h
    split at h
    · cases hk : mkOf P t with
      | none => simp [hk] at h
      | some p =>
        simp only [hk, Option.bind_some] at h
        split at h
        · simp only [Option.some.injEq, Prod.mk.injEq] at h; obtain ⟨_, e⟩ := h; cases e
        · cases h
    · cases h
  case call c =>
    obtain ⟨callee, args, ts⟩ := c
    cases callee <;> try (cases hok; done)
    rename_i b
    have h : exBuiltin P hp nx b ts.toList (args.toList.map (evS sl)) = some (x, .app id k') := h
    generalize args.toList.map (evS sl) = xs at h
    generalize ts.toList = tl at h
    by_cases hb : b = .append
    · subst hb
      obtain ⟨t, s, y, _, _, h⟩ := app_open h (fun _ h => by cases h)
      exact exAppend_live h
    cases b <;> first | (exact absurd rfl hb) | (cases hok; done) | (unfold exBuiltin at h; split at h <;> first | (cases h; done) | (obtain ⟨_, _, e⟩ := Option.map_eq h; cases e; done) | contradiction)
theorem DStep.heap {o : Oper} {s s' : SS} {e : En} (h : DStep P ops o s e s') (kl : KL s) :
    (∀ id k, hget s.hp id = some k → e.tg ≠ some id → ∃ k', hget s'.hp id = some k' ∧ (k'.ty = k.ty ∧ k'.cs = k.cs) ∧ (k'.fz = false → k.fz = false)) ∧ s.nx ≤ s'.nx ∧ KL s' := by
  obtain ⟨_, ⟨f, hg, hok, he, rfl, htg, htc, hna⟩ | ⟨_, _, _, _, rfl⟩ | ⟨_, f, _, _, args, ts, ys, fb, _, _, _, _, _, _, rfl, _⟩ | ⟨f, args, ts, ys, ids, k0, X, fl, _, _, _, _, _, _, rfl, _⟩ | ⟨f, args, ts, i, kk, off, len, z, cap, k0, _, _, _, hki, _, _, rfl, htg, _⟩⟩ := h
  · cases f with
    | none => exact ⟨fun id k hk _ => ⟨k, hk, ⟨rfl, rfl⟩, fun h => h⟩, Nat.le_refl _, kl⟩
    | new k0 =>
      refine ⟨fun id k hk _ => ⟨k, ?_, ⟨rfl, rfl⟩, fun h => h⟩, Nat.le_succ _, fun id k hk => ?_⟩
      · have := kl id k hk
        show hget ((s.nx, k0) :: s.hp) id = some k
        simp only [hget]; rw [if_neg (by omega)]; exact hk
      · have hk : hget ((s.nx, k0) :: s.hp) id = some k := hk
        show id < s.nx + 1
        simp only [hget] at hk
        by_cases e : id = s.nx
        · omega
        · rw [if_neg e] at hk; have := kl id k hk; omega
    | set i k0 =>
      obtain ⟨t, a, y, _, hst⟩ := set_store hok he
      obtain ⟨k1, h1, h2, h3, _⟩ := exStore_tgt hst
      refine ⟨fun id k hk hne => ?_, Nat.le_refl _, fun id k hk => ?_⟩
      · show ∃ k', hget (hset s.hp i k0) id = some k' ∧ _
        rw [hget_hset]
        by_cases e : id = i
        · subst e
          exact absurd (htg.trans rfl) hne
        · rw [if_neg e]; exact ⟨k, hk, ⟨rfl, rfl⟩, fun h => h⟩
      · have hk : hget (hset s.hp i k0) id = some k := hk
        rw [hget_hset] at hk
        by_cases e : id = i
        · subst e; exact kl id k1 h1
        · rw [if_neg e] at hk; exact kl id k hk
    | app i k0 =>
      refine ⟨fun id k hk hne => ⟨k, ?_, ⟨rfl, rfl⟩, fun h => h⟩, Nat.le_succ _, fun id k hk => ?_⟩
      · have := kl id k hk
        have hni : id ≠ i := fun e => hne (by rw [htg, e]; rfl)
        show hget ((s.nx, k0) :: hdel s.hp i) id = some k
        simp only [hget]; rw [if_neg (by omega), hget_hdel, if_neg hni]; exact hk
      · have hk : hget ((s.nx, k0) :: hdel s.hp i) id = some k := hk
        show id < s.nx + 1
        simp only [hget] at hk
        by_cases e : id = s.nx
        · omega
        · rw [if_neg e, hget_hdel] at hk
          split at hk
          · cases hk
          · have := kl id k hk; omega
  · exact ⟨fun id k hk _ => ⟨k, hk, ⟨rfl, rfl⟩, fun h => h⟩, Nat.le_refl _, kl⟩
  · by_cases hf : fb = true
    · have e1 : (calledG s o.dst e.x e.tc fb).hp = s.hp := by simp [calledG, hf]
      refine ⟨fun id k hk _ => ⟨k, by rw [e1]; exact hk, ⟨rfl, rfl⟩, fun h => h⟩, Nat.le_refl _, fun id k hk => ?_⟩
      rw [e1] at hk; exact kl id k hk
    · have e1 : (calledG s o.dst e.x e.tc fb).hp = fzHp s.hp e.tc := by simp [calledG, hf]
      refine ⟨fun id k hk _ => ?_, Nat.le_refl _, fun id k hk => ?_⟩
      · rw [e1, hget_fz, hk]
        refine ⟨_, rfl, by split <;> exact ⟨rfl, rfl⟩, ?_⟩
        split
        · intro h; cases h
        · exact fun h => h
      · rw [e1, hget_fz] at hk
        obtain ⟨k', hk', _⟩ := Option.map_eq hk
        exact kl id k' hk'
  · refine ⟨fun id k hk _ => ⟨k, ?_, ⟨rfl, rfl⟩, fun h => h⟩, Nat.le_succ _, fun id k hk => ?_⟩
    · have := kl id k hk
      show hget ((s.nx, k0) :: s.hp) id = some k
      simp only [hget]; rw [if_neg (by omega)]; exact hk
    · have hk : hget ((s.nx, k0) :: s.hp) id = some k := hk
      show id < s.nx + 1
      simp only [hget] at hk
      by_cases e : id = s.nx
      · omega
      · rw [if_neg e] at hk; have := kl id k hk; omega
  · refine ⟨fun id k hk hne => ⟨k, ?_, ⟨rfl, rfl⟩, fun h => h⟩, Nat.le_succ _, fun id k hk => ?_⟩
    · have := kl id k hk
      have hni : id ≠ i := fun e => hne (by rw [htg, e])
      show hget ((s.nx, k0) :: hdel s.hp i) id = some k
      simp only [hget]; rw [if_neg (by omega), hget_hdel, if_neg hni]; exact hk
    · have hk : hget ((s.nx, k0) :: hdel s.hp i) id = some k := hk
      show id < s.nx + 1
      simp only [hget] at hk
      by_cases e : id = s.nx
      · omega
      · rw [if_neg e, hget_hdel] at hk
        split at hk
        · cases hk
        · have := kl id k hk; omega
end
def looks (ops : Array Oper) (o : Oper) : List Nat := o.looksAt ops
def cmpB (ops : Array Oper) (i j : Nat) : Bool := reachB ops 7 i j || reachB ops 7 j i
def pairOk (ops : Array Oper) (en : List (Option Nat × List Nat)) (i j : Nat) (oi oj : Oper) : Bool :=
  (match oj.dst with
   | some d => !(looks ops oi).contains d && oi.dst != some d || cmpB ops i j && oi.dst != some d
   | none => true) &&
  (match (en[j]?).bind (·.1) with
   | some id => !((en.getD i (none, [])).2.contains id) && (en.getD i (none, [])).1 != some id || cmpB ops i j
   | none => true)
def ordB (l : List Oper) : Bool := l.zipIdx.all fun p => p.1.after.all fun e => !Region.binds .any e || decide (e.on < p.2)
def chkD (l : List Oper) (en : List (Option Nat × List Nat)) : Bool :=
  ordB l && l.zipIdx.all fun p => l.zipIdx.all fun q => p.2 == q.2 || pairOk l.toArray en p.2 q.2 p.1 q.1
end Go.Proofs.YtpodnbcdddcdmaaGreatDoor

/- A region that draws its order comes to what its text's order comes to. -/
namespace Go.Proofs.YtpodnbcdddcdmaaGreatDoor
open Go.RowKit
section
variable {P : Program} {ops : Array Oper}
theorem DStep.sl {o : Oper} {s s' : SS} {e : En} (h : DStep P ops o s e s') : s'.sl = putS s.sl o.dst e.x ∧ s'.nt = s.nt := by
  obtain ⟨_, ⟨f, _, _, _, rfl, _⟩ | ⟨_, hx, _, _, rfl⟩ | ⟨_, f, _, _, args, ts, ys, fb, _, _, _, _, _, _, rfl, _⟩ | ⟨f, args, ts, ys, ids, k0, X, fl, _, _, _, _, _, _, rfl, _⟩ | ⟨f, args, ts, i, kk, off, len, z, cap, k0, _, _, _, hki, _, _, rfl, htg, _⟩⟩ := h
  · exact ⟨rfl, rfl⟩
  · rw [hx]; exact ⟨rfl, rfl⟩
  · exact ⟨rfl, rfl⟩
  · exact ⟨rfl, rfl⟩
  · exact ⟨rfl, rfl⟩
structure DRun (P : Program) (l : List Oper) (st : Nat → SS) (en : Nat → En) : Prop where
  kl : KL (st 0)
  step : ∀ (i : Nat) (o : Oper), l[i]? = some o → DStep P l.toArray o (st i) (en i) (st (i + 1))
  ord : ∀ (i : Nat) (o : Oper), l[i]? = some o → ∀ e ∈ o.after.toList, Region.binds .any e = true → e.on < i
  slot : ∀ (i j : Nat) (oi oj : Oper) (d : Nat), i ≠ j → l[i]? = some oi → l[j]? = some oj → oj.dst = some d → oi.dst ≠ some d ∧ (d ∈ oi.looksAt l.toArray → cmpB l.toArray i j = true)
  tgt : ∀ (i j : Nat) (id : Nat), i ≠ j → i < l.length → j < l.length → (en j).tg = some id → id ∈ (en i).tc ∨ (en i).tg = some id → cmpB l.toArray i j = true
variable {l : List Oper} {st : Nat → SS} {en : Nat → En}
theorem getL {i : Nat} (h : i < l.length) : ∃ o, l[i]? = some o := ⟨_, List.getElem?_eq_getElem h⟩
theorem DRun.klAt (h : DRun P l st en) : ∀ i, i ≤ l.length → KL (st i)
  | 0, _ => h.kl
  | i + 1, hi => by
    obtain ⟨o, ho⟩ := getL (l := l) (i := i) (by omega)
    exact ((h.step i o ho).heap (h.klAt i (by omega))).2.2
theorem DRun.nx (h : DRun P l st en) (i : Nat) : ∀ j, i ≤ j → j ≤ l.length → (st i).nx ≤ (st j).nx
  | 0, hij, _ => by have : i = 0 := by omega
                    subst this; exact Nat.le_refl _
  | j + 1, hij, hj => by
    by_cases e : i = j + 1
    · subst e; exact Nat.le_refl _
    · obtain ⟨o, ho⟩ := getL (l := l) (i := j) (by omega)
      exact Nat.le_trans (h.nx i j (by omega) (by omega)) ((h.step j o ho).heap (h.klAt j (by omega))).2.1
theorem DRun.nt (h : DRun P l st en) : ∀ i, i ≤ l.length → (st i).nt = (st 0).nt
  | 0, _ => rfl
  | i + 1, hi => by
    obtain ⟨o, ho⟩ := getL (l := l) (i := i) (by omega)
    exact ((h.step i o ho).sl).2.trans (h.nt i (by omega))
theorem DRun.chain (h : DRun P l st en) {i : Nat} {id : Nat} {k : Blk} (hk : hget (st i).hp id = some k) : ∀ j, i ≤ j → j ≤ l.length → (∀ m, i ≤ m → m < j → (en m).tg ≠ some id) →
    ∃ k', hget (st j).hp id = some k' ∧ k'.ty = k.ty ∧ k'.cs = k.cs ∧ (k'.fz = false → k.fz = false)
  | 0, hij, _, _ => by have : i = 0 := by omega
                       subst this; exact ⟨k, hk, rfl, rfl, fun h => h⟩
  | j + 1, hij, hj, hm => by
    by_cases e : i = j + 1
    · subst e; exact ⟨k, hk, rfl, rfl, fun h => h⟩
    · obtain ⟨o, ho⟩ := getL (l := l) (i := j) (by omega)
      obtain ⟨k1, a1, a2, a3, a4⟩ := h.chain hk j (by omega) (by omega) (fun m h1 h2 => hm m h1 (by omega))
      obtain ⟨k2, b1, ⟨c1, c2⟩, b3⟩ := ((h.step j o ho).heap (h.klAt j (by omega))).1 id k1 a1 (hm j (by omega) (by omega))
      exact ⟨k2, b1, c1.trans a2, c2.trans a3, fun h => a4 (b3 h)⟩
theorem DRun.slot0 (h : DRun P l st en) {t : Nat} : ∀ i, i ≤ l.length → (∀ j o, j < i → l[j]? = some o → o.dst ≠ some t) → get (st i).sl t = get (st 0).sl t
  | 0, _, _ => rfl
  | i + 1, hi, hn => by
    obtain ⟨o, ho⟩ := getL (l := l) (i := i) (by omega)
    rw [((h.step i o ho).sl).1]
    have := hn i o (by omega) ho
    have ih := h.slot0 (t := t) i (by omega) (fun j o hj => hn j o (by omega))
    cases hd : o.dst with
    | none => exact ih
    | some d =>
      rw [hd] at this
      simp only [putS, get]
      rw [if_neg (fun e => this (by rw [e]))]
      exact ih
theorem DRun.slotx (h : DRun P l st en) {t j : Nat} {oj : Oper} (hj : l[j]? = some oj) (hd : oj.dst = some t) : ∀ i, j < i → i ≤ l.length → get (st i).sl t = (en j).x
  | 0, hji, _ => by omega
  | i + 1, hji, hi => by
    obtain ⟨o, ho⟩ := getL (l := l) (i := i) (by omega)
    rw [((h.step i o ho).sl).1]
    by_cases e : j = i
    · subst e
      rw [ho] at hj; cases hj
      rw [hd]; simp [putS, get]
    · have hne := (h.slot i j o oj t (fun e' => e e'.symm) ho hj hd).1
      have ih := h.slotx hj hd i (by omega) (by omega)
      cases hd' : o.dst with
      | none => exact ih
      | some d =>
        rw [hd'] at hne
        simp only [putS, get]
        rw [if_neg (fun e => hne (by rw [e]))]
        exact ih
theorem depB_lt (h : DRun P l st en) {i j : Nat} (hd : depB l.toArray i j = true) : j < i := by
  unfold depB at hd
  split at hd
  · rename_i o ho
    rw [List.getElem?_toArray] at ho
    rw [Array.any_eq_true'] at hd
    obtain ⟨e, he, hb⟩ := hd
    rw [Bool.and_eq_true] at hb
    have := h.ord i o ho e (by simpa using he) hb.1
    rw [beq_iff_eq] at hb
    omega
  · cases hd
theorem reach_lt (h : DRun P l st en) : ∀ (f i j : Nat), reachB l.toArray f i j = true → j < i
  | 0, _, _, hr => by cases hr
  | f + 1, i, j, hr => by
    simp only [reachB, Bool.or_eq_true, List.any_eq_true, Bool.and_eq_true] at hr
    rcases hr with hr | ⟨m, _, h1, h2⟩
    · exact depB_lt h hr
    · have := reach_lt h f m j h2
      have := depB_lt h h1
      omega
theorem cmp_done (h : DRun P l st en) {L : Nat → Bool} (hc : ∀ i j, L i = true → depB l.toArray i j = true → L j = true) {i j : Nat} (hi : L i = false) (hd : ∀ m, depB l.toArray i m = true → L m = true) (hij : cmpB l.toArray i j = true) :
    L j = true ↔ j < i := by
  unfold cmpB at hij
  rw [Bool.or_eq_true] at hij
  rcases hij with hr | hr
  · exact ⟨fun _ => reach_lt h 7 i j hr, fun _ => reachB_spec hc 7 i j hr hd⟩
  · have hlt := reach_lt h 7 j i hr
    refine ⟨fun hj => ?_, fun hlt' => by omega⟩
    have := reachB_spec hc 7 j i hr (fun m hm => hc j m hj hm)
    rw [hi] at this; cases this
def nextC (n : Nat) (en : Nat → En) (L : Nat → Bool) (id : Nat) : Nat := ((List.range n).find? fun i => (en i).tg == some id && !L i).getD n
theorem nextC_le (n : Nat) (L : Nat → Bool) (id : Nat) : nextC n en L id ≤ n := by
  unfold nextC
  cases h : (List.range n).find? fun i => (en i).tg == some id && !L i with
  | none => exact Nat.le_refl _
  | some i => have := List.mem_of_find?_eq_some h; have := List.mem_range.1 this; simp; omega
theorem nextC_lt {n : Nat} {L : Nat → Bool} {id : Nat} {m : Nat} (hm : m < nextC n en L id) (ht : (en m).tg = some id) : L m = true := by
  unfold nextC at hm
  cases h : (List.range n).find? fun i => (en i).tg == some id && !L i with
  | none =>
    rw [h] at hm
    have := List.find?_eq_none.1 h m (List.mem_range.2 hm)
    simpa [ht] using this
  | some i =>
    rw [h] at hm
    simp only [Option.getD_some] at hm
    rw [List.find?_eq_some_iff_append] at h
    obtain ⟨_, az, bs, he, ha⟩ := h
    have hlen : m < az.length := by
      have hi : (List.range n)[az.length]? = some i := by rw [he]; simp
      have := (List.getElem?_eq_some_iff.1 hi)
      obtain ⟨h1, h2⟩ := this
      simp at h2; omega
    have hmem : m ∈ az := by
      have h1 : (List.range n)[m]? = az[m]? := by rw [he]; simp [List.getElem?_append, hlen]
      have hn : m < n := by
        have : az.length ≤ n := by have := congrArg List.length he; simp at this; omega
        omega
      rw [List.getElem?_range hn] at h1
      exact List.mem_of_getElem? h1.symm
    have := ha m hmem
    simpa [ht] using this
theorem nextC_at {n : Nat} {L : Nat → Bool} {id : Nat} (hq : nextC n en L id < n) : (en (nextC n en L id)).tg = some id ∧ L (nextC n en L id) = false := by
  unfold nextC at hq ⊢
  cases h : (List.range n).find? fun i => (en i).tg == some id && !L i with
  | none => rw [h] at hq; simp at hq
  | some i =>
    have := List.find?_some h
    simpa using this
theorem nextC_eq {n : Nat} {L : Nat → Bool} {id q : Nat} (hq : q ≤ n) (h1 : ∀ m, m < q → (en m).tg = some id → L m = true) (h2 : q < n → (en q).tg = some id ∧ L q = false) : nextC n en L id = q := by
  rcases Nat.lt_trichotomy (nextC n en L id) q with h | h | h
  · have := nextC_at (Nat.lt_of_lt_of_le h hq)
    have := h1 _ h this.1
    simp_all
  · exact h
  · have hn := nextC_le (en := en) n L id
    obtain ⟨a, b⟩ := h2 (by omega)
    rw [nextC_lt h a] at b; cases b
def keysD (n : Nat) (st : Nat → SS) : List Nat := (List.range (n + 1)).flatMap fun i => (st i).hp.map (·.1)
def hpD (n : Nat) (st : Nat → SS) (en : Nat → En) (L : Nat → Bool) : List (Nat × Blk) := (keysD n st).filterMap fun id => (hget (st (nextC n en L id)).hp id).map fun k => (id, k)
theorem hget_fm (f : Nat → Option Blk) (ks : List Nat) (id : Nat) : hget (ks.filterMap fun i => (f i).map fun k => (i, k)) id = if id ∈ ks then f id else none := by
  induction ks with
  | nil => rfl
  | cons a r ih =>
    rw [List.filterMap_cons]
    cases ha : f a with
    | none =>
      simp only [Option.map_none, ih, List.mem_cons]
      by_cases e : id = a
      · subst e; simp [ha]
      · simp [e]
    | some k =>
      simp only [Option.map_some, hget, ih, List.mem_cons]
      by_cases e : id = a
      · subst e; simp [ha]
      · simp [e]
theorem mem_keys {hp : List (Nat × Blk)} {id : Nat} {k : Blk} (h : hget hp id = some k) : id ∈ hp.map (·.1) := by
  induction hp with
  | nil => cases h
  | cons p r ih =>
    obtain ⟨i, q⟩ := p
    simp only [hget] at h
    by_cases e : id = i
    · simp [e]
    · rw [if_neg e] at h; exact List.mem_cons_of_mem _ (ih h)
theorem hget_hpD (_ : DRun P l st en) (L : Nat → Bool) (id : Nat) : hget (hpD l.length st en L) id = hget (st (nextC l.length en L id)).hp id := by
  unfold hpD
  rw [hget_fm fun id => hget (st (nextC l.length en L id)).hp id]
  split
  · rfl
  · rename_i hm
    cases hk : hget (st (nextC l.length en L id)).hp id with
    | none => rfl
    | some k =>
      exact absurd (List.mem_flatMap.2 ⟨_, List.mem_range.2 (Nat.lt_succ_of_le (nextC_le l.length L id)), mem_keys hk⟩) hm
theorem Mem.turn {B : Base} {S : Nat → Prop} {rho : Nat → Nat} {A : Nat → Prop} {hp hp' : List (Nat × Blk)} {w : World} (h : Mem B S rho A hp w)
    (ht : ∀ id k', hget hp' id = some k' → A id → ∃ k, hget hp id = some k ∧ k'.ty = k.ty ∧ k'.cs = k.cs ∧ (k'.fz = false → k.fz = false)) : Mem B S rho A hp' w where
  cells id k' hk ha := by
    obtain ⟨k, h1, h2, h3, _⟩ := ht id k' hk ha
    obtain ⟨cells, c1, c2⟩ := h.cells id k h1 ha
    exact ⟨cells, by rw [h2]; exact c1, by rw [h3]; exact c2⟩
  fz id k' hk ha h0 := by
    obtain ⟨k, h1, _, _, h4⟩ := ht id k' hk ha
    exact h.fz id k h1 ha (h4 h0)
  own id k' hk ha := by obtain ⟨k, h1, _⟩ := ht id k' hk ha; exact h.own id k h1 ha
  inj id id' k k' hk hk' ha ha' := by
    obtain ⟨q, h1, _⟩ := ht id k hk ha
    obtain ⟨q', h1', _⟩ := ht id' k' hk' ha'
    exact h.inj id id' q q' h1 h1' ha ha'
  slt := h.slt
  sub := h.sub
  base := h.base
  frame := h.frame
  keep := h.keep
def restr (sl : List (Nat × V)) (ts : List Nat) : List (Nat × V) := ts.map fun t => (t, get sl t)
theorem get_restr (sl : List (Nat × V)) (ts : List Nat) (t : Nat) : get (restr sl ts) t = if t ∈ ts then get sl t else .junk := by
  induction ts with
  | nil => rfl
  | cons a r ih =>
    simp only [restr, List.map_cons, get] at ih ⊢
    by_cases e : t = a
    · subst e; simp
    · rw [if_neg e, ih]; simp [e]
structure DInv (B : Base) (l : List Oper) (st : Nat → SS) (en : Nat → En) (L : Nat → Bool) (S : Nat → Prop) (rho : Nat → Nat) (A : Nat → Prop) (a : Act) (w : World) : Prop where
  mem : Mem B S rho A (hpD l.length st en L) w
  done : ∀ t j o, l[j]? = some o → o.dst = some t → L j = true → R S rho w A (en j).x (a.eval (.tmp t))
  open' : ∀ t, (∀ j o, l[j]? = some o → o.dst = some t → L j = false) → R S rho w A (get (st 0).sl t) (a.eval (.tmp t))
  num : ∀ id, A id → id < (st 0).nx ∨ ∃ j, j < l.length ∧ L j = true ∧ (st j).nx = id ∧ (st j).nx < (st (j + 1)).nx
  size : a.tmps.size = (st 0).nt
  defs : a.defers = B.D
  closed : ∀ i j, L i = true → depB l.toArray i j = true → L j = true
theorem DInv.slot {B : Base} {L : Nat → Bool} {S : Nat → Prop} {rho : Nat → Nat} {A : Nat → Prop} {a : Act} {w : World} (h : DRun P l st en) (hI : DInv B l st en L S rho A a w) {i : Nat} {o : Oper} (ho : l[i]? = some o) (hi : L i = false)
    (hd : ∀ m, depB l.toArray i m = true → L m = true) {t : Nat} (ht : t ∈ o.looksAt l.toArray) : R S rho w A (get (st i).sl t) (a.eval (.tmp t)) := by
  have hil : i < l.length := (List.getElem?_eq_some_iff.1 ho).1
  by_cases hex : ∃ j oj, j ≠ i ∧ l[j]? = some oj ∧ oj.dst = some t
  · obtain ⟨j, oj, hji, hj, hdj⟩ := hex
    have hjl : j < l.length := (List.getElem?_eq_some_iff.1 hj).1
    have hcmp := (h.slot i j o oj t (fun e => hji e.symm) ho hj hdj).2 ht
    have hiff := cmp_done h hI.closed hi hd hcmp
    by_cases hlt : j < i
    · rw [h.slotx hj hdj i hlt (by omega)]
      exact hI.done t j oj hj hdj (hiff.2 hlt)
    · have hL : L j = false := by
        cases hb : L j with
        | false => rfl
        | true => exact absurd (hiff.1 hb) hlt
      have only : ∀ m om, l[m]? = some om → om.dst = some t → m = j := by
        intro m om hm hdm
        by_cases e : m = j
        · exact e
        · exact absurd hdm (h.slot m j om oj t e hm hj hdj).1
      rw [h.slot0 i (by omega) (fun m om hm hom hdm => by have := only m om hom hdm; omega)]
      exact hI.open' t fun m om hm hdm => by rw [only m om hm hdm]; exact hL
  · have hno : ∀ j oj, l[j]? = some oj → oj.dst = some t → j = i := by
      intro j oj hj hdj
      by_cases e : j = i
      · exact e
      · exact absurd ⟨j, oj, e, hj, hdj⟩ hex
    rw [h.slot0 i (by omega) (fun m om hm hom hdm => by have := hno m om hom hdm; omega)]
    exact hI.open' t fun m om hm hdm => by rw [hno m om hm hdm]; exact hi
theorem DInv.blk {B : Base} {L : Nat → Bool} {S : Nat → Prop} {rho : Nat → Nat} {A : Nat → Prop} {a : Act} {w : World} (h : DRun P l st en) (hI : DInv B l st en L S rho A a w) {i : Nat} (hil : i < l.length) (hi : L i = false)
    (hd : ∀ m, depB l.toArray i m = true → L m = true) {id : Nat} (ht : id ∈ (en i).tc ∨ (en i).tg = some id) :
    i ≤ nextC l.length en L id ∧ (∀ m, i < m → m < nextC l.length en L id → (en m).tg ≠ some id) ∧ ((en i).tg = some id → nextC l.length en L id = i) := by
  have hcmp : ∀ j, j ≠ i → j < l.length → (en j).tg = some id → (L j = true ↔ j < i) := fun j hji hjl hj => cmp_done h hI.closed hi hd (h.tgt i j id (fun e => hji e.symm) hil hjl hj ht)
  have hq := nextC_le (en := en) l.length L id
  have h1 : i ≤ nextC l.length en L id := by
    rcases Nat.lt_or_ge (nextC l.length en L id) i with hlt | hge
    · obtain ⟨a1, a2⟩ := nextC_at (n := l.length) (en := en) (L := L) (id := id) (by omega)
      have := (hcmp _ (by omega) (by omega) a1).2 hlt
      rw [a2] at this; cases this
    · exact hge
  refine ⟨h1, fun m hm1 hm2 hm => ?_, fun hti => nextC_eq (by omega) (fun m hm hmt => (hcmp m (by omega) (by omega) hmt).2 hm) (fun _ => ⟨hti, hi⟩)⟩
  have := (hcmp m (by omega) (by omega) hm).1 (nextC_lt hm2 hm)
  omega
theorem DInv.agr0 {B : Base} {L : Nat → Bool} {S : Nat → Prop} {rho : Nat → Nat} {A : Nat → Prop} {a : Act} {w : World} (h : DRun P l st en) (hI : DInv B l st en L S rho A a w) {i : Nat} (hil : i < l.length) (hi : L i = false)
    (hd : ∀ m, depB l.toArray i m = true → L m = true) {id : Nat} (ht : id ∈ (en i).tc) : Go.Proofs.YtpodnbcdddcdmaaGreatDoor.agr0 (hget (hpD l.length st en L) id) (hget (st i).hp id) := by
  intro k hk
  rw [hget_hpD h]
  obtain ⟨h1, h2, h3⟩ := hI.blk h hil hi hd (.inl ht)
  by_cases hti : (en i).tg = some id
  · rw [h3 hti]; exact ⟨k, hk, rfl, rfl⟩
  · obtain ⟨k', a1, a2, a3, _⟩ := h.chain hk _ h1 (nextC_le _ _ _) (fun m hm1 hm2 => by
      by_cases e : m = i
      · subst e; exact hti
      · exact h2 m (by omega) hm2)
    exact ⟨k', a1, a2, a3⟩
end
end Go.Proofs.YtpodnbcdddcdmaaGreatDoor

/- The law on regions that draw their order. -/
namespace Go.Proofs.YtpodnbcdddcdmaaGreatDoor
open Go.RowKit
section
variable {P : Program} {l : List Oper} {st : Nat → SS} {en : Nat → En}
theorem DStep.born {ops : Array Oper} {o : Oper} {s s' : SS} {e : En} (h : DStep P ops o s e s') {id : Nat} {k' : Blk} (hk : hget s'.hp id = some k') : (∃ k, hget s.hp id = some k) ∨ id = s.nx := by
  obtain ⟨_, ⟨f, hg, hok, he, rfl, htg, htc, hna⟩ | ⟨_, _, _, _, rfl⟩ | ⟨_, f, _, _, args, ts, ys, fb, _, _, _, _, _, _, rfl, _⟩ | ⟨f, args, ts, ys, ids, k0, X, fl, _, _, _, _, _, _, rfl, _⟩ | ⟨f, args, ts, i, kk, off, len, z, cap, k0, _, _, _, hki, _, _, rfl, htg, _⟩⟩ := h
  · cases f with
    | none => exact .inl ⟨k', hk⟩
    | new k0 =>
      have hk : hget ((s.nx, k0) :: s.hp) id = some k' := hk
      simp only [hget] at hk
      by_cases e : id = s.nx
      · exact .inr e
      · rw [if_neg e] at hk; exact .inl ⟨k', hk⟩
    | set i k0 =>
      have hk : hget (hset s.hp i k0) id = some k' := hk
      rw [hget_hset] at hk
      by_cases e : id = i
      · subst e
        rw [if_pos rfl] at hk
        obtain ⟨k, h1, _⟩ := Option.map_eq hk
        exact .inl ⟨k, h1⟩
      · rw [if_neg e] at hk; exact .inl ⟨k', hk⟩
    | app i k0 =>
      have hk : hget ((s.nx, k0) :: hdel s.hp i) id = some k' := hk
      simp only [hget] at hk
      by_cases e : id = s.nx
      · exact .inr e
      · rw [if_neg e, hget_hdel] at hk
        split at hk
        · cases hk
        · exact .inl ⟨k', hk⟩
  · exact .inl ⟨k', hk⟩
  · have hk : hget (if fb = true then s.hp else fzHp s.hp e.tc) id = some k' := hk
    by_cases hf : fb = true
    · rw [if_pos hf] at hk; exact .inl ⟨k', hk⟩
    · rw [if_neg hf, hget_fz] at hk
      obtain ⟨k, h1, _⟩ := Option.map_eq hk
      exact .inl ⟨k, h1⟩
  · have hk : hget ((s.nx, k0) :: s.hp) id = some k' := hk
    simp only [hget] at hk
    by_cases e : id = s.nx
    · exact .inr e
    · rw [if_neg e] at hk; exact .inl ⟨k', hk⟩
  · have hk : hget ((s.nx, k0) :: hdel s.hp i) id = some k' := hk
    simp only [hget] at hk
    by_cases e : id = s.nx
    · exact .inr e
    · rw [if_neg e, hget_hdel] at hk
      split at hk
      · cases hk
      · exact .inl ⟨k', hk⟩
theorem DRun.born (h : DRun P l st en) {id : Nat} (hid : id < (st 0).nx) : ∀ j, j ≤ l.length → ∀ k', hget (st j).hp id = some k' → ∃ k, hget (st 0).hp id = some k
  | 0, _, k', hk => ⟨k', hk⟩
  | j + 1, hj, k', hk => by
    obtain ⟨o, ho⟩ := getL (l := l) (i := j) (by omega)
    rcases (h.step j o ho).born hk with ⟨k, h1⟩ | h1
    · exact h.born hid j (by omega) k h1
    · have := h.nx 0 j (by omega) (by omega); omega
theorem DRun.gone (h : DRun P l st en) {i id : Nat} (hn : hget (st i).hp id = none) (hid : id < (st i).nx) : ∀ j, i ≤ j → j ≤ l.length → hget (st j).hp id = none
  | 0, hij, _ => by have : i = 0 := by omega
                    subst this; exact hn
  | j + 1, hij, hj => by
    by_cases e : i = j + 1
    · subst e; exact hn
    · obtain ⟨o, ho⟩ := getL (l := l) (i := j) (by omega)
      have ih := h.gone hn hid j (by omega) (by omega)
      cases hk : hget (st (j + 1)).hp id with
      | none => rfl
      | some k =>
        rcases (h.step j o ho).born hk with ⟨k1, h1⟩ | h1
        · rw [ih] at h1; cases h1
        · have := h.nx i j (by omega) (by omega); omega
def addL (L : Nat → Bool) (i : Nat) : Nat → Bool := fun j => if j = i then true else L j
theorem next_same {L : Nat → Bool} {i id : Nat} (hi : L i = false) (ht : (en i).tg ≠ some id) : nextC l.length en (addL L i) id = nextC l.length en L id := by
  refine nextC_eq (nextC_le _ _ _) (fun m hm hmt => ?_) (fun hq => ?_)
  · have := nextC_lt hm hmt
    unfold addL; split
    · rfl
    · exact this
  · obtain ⟨a, b⟩ := nextC_at hq
    refine ⟨a, ?_⟩
    unfold addL
    rw [if_neg (fun e => ht (by rw [← e]; exact a))]
    exact b
theorem guard_restr {ops : Array Oper} {o : Oper} (sl : List (Nat × V)) : guardV ops (restr sl (o.looksAt ops)) o.guard = guardV ops sl o.guard := by
  cases hg : o.guard with
  | none => rfl
  | some p =>
    obtain ⟨j, want⟩ := p
    simp only [guardV]
    cases hd : (ops[j]?).bind (·.dst) with
    | none => rfl
    | some d =>
      have : d ∈ o.looksAt ops := by
        unfold Oper.looksAt
        rw [List.mem_append]
        refine .inr ?_
        rw [hg]; simp [hd]
      simp only [get_restr, if_pos this]
theorem ev_restr {ops : Array Oper} {o : Oper} (sl : List (Nat × V)) {y : Operand} (hy : y ∈ o.op.operands.toList) : evS (restr sl (o.looksAt ops)) y = evS sl y := by
  cases y with
  | tmp t =>
    have : t ∈ o.looksAt ops := by
      unfold Oper.looksAt
      rw [List.mem_append]
      exact .inl (List.mem_filterMap.2 ⟨.tmp t, hy, rfl⟩)
    simp only [evS, get_restr, if_pos this]
  | _ => rfl
theorem eval_put_same (a : Act) {t : Nat} (v : Value) (h : t < a.tmps.size) : (a.put (some t) v).eval (.tmp t) = v := by simp [Act.eval, Act.put, h]
theorem eval_put_other (a : Act) {d : Option Nat} {t : Nat} (v : Value) (h : d ≠ some t) : (a.put d v).eval (.tmp t) = a.eval (.tmp t) := Act.eval_put (by intro d' hd' e; cases e; exact h hd')
theorem DInv.next {B : Base} {L : Nat → Bool} {S S' : Nat → Prop} {rho rho' : Nat → Nat} {A A' : Nat → Prop} {a : Act} {w w' : World} (h : DRun P l st en) (hI : DInv B l st en L S rho A a w) {i : Nat} {o : Oper} (ho : l[i]? = some o)
    (hd : ∀ m, depB l.toArray i m = true → L m = true) {v : Value} (hdst : dstOk o.dst (st i).nt = true) (hS : ∀ b, S b → S' b ∧ w'.heap[b]? = w.heap[b]?) (hA : ∀ id, A id → A' id ∧ rho' id = rho id ∧ ∀ n, szAt w (rho id) n → szAt w' (rho id) n)
    (hm : Mem B S' rho' A' (hpD l.length st en (addL L i)) w') (hx : R S' rho' w' A' (en i).x v) (hnum : ∀ id, A' id → A id ∨ ((st i).nx = id ∧ (st i).nx < (st (i + 1)).nx)) : DInv B l st en (addL L i) S' rho' A' (a.put o.dst v) w' := by
  have hil : i < l.length := (List.getElem?_eq_some_iff.1 ho).1
  exact {
    mem := hm
    done := fun t j oj hj hdj hL => by
      by_cases e : j = i
      · subst e
        rw [ho] at hj; cases hj
        rw [hdj]
        rw [eval_put_same a v (by
          rw [hI.size, ← h.nt j (by omega)]
          rw [hdj] at hdst; simpa [dstOk] using hdst)]
        exact hx
      · unfold addL at hL
        rw [if_neg e] at hL
        rw [eval_put_other a v (fun hd' => (h.slot i j o oj t (fun e' => e e'.symm) ho hj hdj).1 hd')]
        exact (hI.done t j oj hj hdj hL).mono hS hA
    open' := fun t hall => by
      have hne : o.dst ≠ some t := fun hd' => by
        have := hall i o ho hd'
        simp [addL] at this
      rw [eval_put_other a v hne]
      refine (hI.open' t fun j oj hj hdj => ?_).mono hS hA
      have := hall j oj hj hdj
      unfold addL at this
      split at this
      · cases this
      · exact this
    num := fun id hid => by
      rcases hnum id hid with h1 | ⟨h1, h2⟩
      · rcases hI.num id h1 with h2 | ⟨j, hj, hL, h3⟩
        · exact .inl h2
        · exact .inr ⟨j, hj, by unfold addL; split; rfl; exact hL, h3⟩
      · exact .inr ⟨i, hil, by simp [addL], h1, h2⟩
    size := by rw [put_size]; exact hI.size
    defs := by rw [put_defers]; exact hI.defs
    closed := fun c j hcL hcd => by
      unfold addL at hcL ⊢
      split
      · rfl
      · by_cases e : c = i
        · subst e; exact hd j hcd
        · rw [if_neg e] at hcL; exact hI.closed c j hcL hcd }
theorem DInv.fresh {B : Base} {L : Nat → Bool} {S : Nat → Prop} {rho : Nat → Nat} {A : Nat → Prop} {a : Act} {w : World} (h : DRun P l st en) (hI : DInv B l st en L S rho A a w) : ¬ A (st l.length).nx := by
  intro hA
  rcases hI.num _ hA with h1 | ⟨j, hj, _, h2, h3⟩
  · have := h.nx 0 l.length (by omega) (Nat.le_refl _); omega
  · have := h.nx (j + 1) l.length (by omega) (Nat.le_refl _); omega
theorem DInv.fresh' {B : Base} {L : Nat → Bool} {S : Nat → Prop} {rho : Nat → Nat} {A : Nat → Prop} {a : Act} {w : World} (h : DRun P l st en) (hI : DInv B l st en L S rho A a w) {i : Nat} (hil : i < l.length) (hi : L i = false) (hn : (st i).nx < (st (i + 1)).nx) : ¬ A (st i).nx := by
  intro hA
  rcases hI.num _ hA with h1 | ⟨j, hj, hL, h2, h3⟩
  · have := h.nx 0 i (by omega) (by omega); omega
  · have hji : j ≠ i := by intro e; subst e; rw [hi] at hL; cases hL
    rcases Nat.lt_or_ge j i with hlt | hge
    · have := h.nx (j + 1) i (by omega) (by omega); omega
    · have := h.nx (i + 1) j (by omega) (by omega); omega
end
end Go.Proofs.YtpodnbcdddcdmaaGreatDoor

/- The law on regions that draw their order: any order comes to what the order of the text comes to. -/
namespace Go.Proofs.YtpodnbcdddcdmaaGreatDoor
open Go.RowKit
section
variable {P : Program} {l : List Oper} {st : Nat → SS} {en : Nat → En}
theorem frzAll_live {g : V → Option (V × List Nat)} {p : Nat → Prop} (hg : ∀ x y ids, g x = some (y, ids) → ∀ id ∈ ids, p id) : ∀ {cs ys : List V} {ids : List Nat}, frzAll g cs = some (ys, ids) → ∀ id ∈ ids, p id
  | [], ys, ids, h => by simp only [frzAll, Option.some.injEq, Prod.mk.injEq] at h; obtain ⟨_, rfl⟩ := h; simp
  | c :: r, ys, ids, h => by
    simp only [frzAll] at h
    cases hc : g c with
    | none => simp [hc] at h
    | some q =>
      cases hr : frzAll g r with
      | none => simp [hc, hr] at h
      | some u =>
        obtain ⟨y, i1⟩ := q
        obtain ⟨zs, i2⟩ := u
        simp only [hc, hr, Option.bind_some, Option.map_some, Option.some.injEq, Prod.mk.injEq] at h
        obtain ⟨_, rfl⟩ := h
        intro id hid
        rcases List.mem_append.1 hid with h1 | h1
        · exact hg c y i1 hc id h1
        · exact frzAll_live hg hr id h1
theorem frzL_live {g : V → Option (V × List Nat)} {p : Nat → Prop} (hg : ∀ x y ids, g x = some (y, ids) → ∀ id ∈ ids, p id) {cs ys : List V} {ids : List Nat} (h : frzL g cs = some (ys, ids)) : ∀ id ∈ ids, p id := by
  unfold frzL at h
  split at h
  · simp only [Option.some.injEq, Prod.mk.injEq] at h; obtain ⟨_, rfl⟩ := h; simp
  · exact frzAll_live hg h
theorem frz_live {hp : List (Nat × Blk)} : ∀ (n : Nat) (x y : V) (ids : List Nat), frz n hp x = some (y, ids) → ∀ id ∈ ids, ∃ k, hget hp id = some k
  | 0, x, y, ids, h => by simp [frz] at h
  | n + 1, x, y, ids, h => by
    have ih := frz_live (hp := hp) n
    cases x with
    | ag cs =>
      rw [frz_ag] at h
      obtain ⟨⟨ys, i1⟩, h1, h2⟩ := Option.map_eq h
      cases h2
      exact frzL_live (p := fun id => ∃ k, hget hp id = some k) ih h1
    | tu cs =>
      rw [frz_tu] at h
      obtain ⟨⟨ys, i1⟩, h1, h2⟩ := Option.map_eq h
      cases h2
      exact frzL_live (p := fun id => ∃ k, hget hp id = some k) ih h1
    | sl id off len z c =>
      rw [frz_sl] at h
      cases hs : srcG off len z (hget hp id) with
      | none => rw [hs] at h; cases h
      | some q =>
        rw [hs] at h
        simp only [fzQ] at h
        obtain ⟨⟨ys, i1⟩, h1, h2⟩ := Option.map_eq h
        cases h2
        intro j hj
        rcases List.mem_cons.1 hj with rfl | hj
        · cases hk : hget hp j with
          | none => rw [hk] at hs; cases hs
          | some k => exact ⟨k, rfl⟩
        · exact frzL_live (p := fun id => ∃ k, hget hp id = some k) ih h1 j hj
    | sc v =>
      simp only [frz] at h
      split at h <;> first | (cases h; intro id hid; cases hid; done) | (rename_i e; cases e; done) | contradiction
    | pt id off =>
      rw [frz_pt] at h
      cases hk : hget hp id with
      | none => rw [hk] at h; cases h
      | some k =>
        rw [hk] at h
        obtain ⟨⟨ys, i1⟩, h1, h2⟩ := Option.map_eq h
        cases h2
        intro j hj
        rcases List.mem_cons.1 hj with rfl | hj
        · exact ⟨k, hk⟩
        · exact frzL_live (p := fun id => ∃ k, hget hp id = some k) ih h1 j hj
    | im cs len => simp only [frz] at h; cases h; simp
    | pi cs => simp only [frz] at h; cases h; simp
    | fn f p q =>
      rw [frz_fn] at h
      cases hp1 : frzL (frz n hp) p with
      | none => rw [hp1] at h; cases h
      | some a =>
        cases hq1 : frzL (frz n hp) q with
        | none => rw [hp1, hq1] at h; cases h
        | some b =>
          obtain ⟨a1, i1⟩ := a
          obtain ⟨b1, i2⟩ := b
          rw [hp1, hq1] at h
          cases h
          intro j hj
          rcases List.mem_append.1 hj with hj | hj
          · exact frzL_live (p := fun id => ∃ k, hget hp id = some k) ih hp1 j hj
          · exact frzL_live (p := fun id => ∃ k, hget hp id = some k) ih hq1 j hj
    | _ => simp only [frz] at h; cases h
theorem addL_false {L : Nat → Bool} {i j : Nat} (h : addL L i j = false) : j ≠ i ∧ L j = false := by
  unfold addL at h
  split at h
  · cases h
  · exact ⟨‹_›, h⟩
theorem DInv.slots {B : Base} {L : Nat → Bool} {S : Nat → Prop} {rho : Nat → Nat} {A : Nat → Prop} {a : Act} {w : World} (h : DRun P l st en) (hI : DInv B l st en L S rho A a w) {i : Nat} {o : Oper} (ho : l[i]? = some o) (hi : L i = false)
    (hd : ∀ m, depB l.toArray i m = true → L m = true) (t : Nat) : R S rho w A (get (restr (st i).sl (o.looksAt l.toArray)) t) (a.eval (.tmp t)) := by
  rw [get_restr]
  split
  · rename_i ht; exact hI.slot h ho hi hd ht
  · exact .junk _
theorem DInv.same {B : Base} {L : Nat → Bool} {i : Nat} (h : DRun P l st en) (hi : L i = false) (ht : (en i).tg = none) (id : Nat) : hget (hpD l.length st en (addL L i)) id = hget (hpD l.length st en L) id := by
  rw [hget_hpD h, hget_hpD h, next_same hi (by rw [ht]; simp)]
theorem DInv.stepOp {B : Base} {L : Nat → Bool} {S : Nat → Prop} {rho : Nat → Nat} {A : Nat → Prop} {a : Act} {w : World} (h : DRun P l st en) (hI : DInv B l st en L S rho A a w) {i : Nat} {o : Oper} (ho : l[i]? = some o) (hi : L i = false)
    (hd : ∀ m, depB l.toArray i m = true → L m = true) {f : Eff} (hdst : dstOk o.dst (st i).nt = true) (hok : okOp o.op = true) (he : exOp P (st i).sl (st i).hp (st i).nx o.op = some ((en i).x, f)) (hs' : st (i + 1) = (st i).put o.dst (en i).x f)
    (htg : (en i).tg = tgE f) (htc : (en i).tc = rdOf (st i).sl o.op ++ crE f (st i).nx) (hna : noApp f = true) :
    ∃ v w' S' rho' A', ((execOp a.eval o).run P w = .ok (.value v) w' ∨ ((execOp a.eval o).run P w = .ok .skip w' ∧ v = undef)) ∧ DInv B l st en (addL L i) S' rho' A' (a.put o.dst v) w' := by
  have hil : i < l.length := (List.getElem?_eq_some_iff.1 ho).1
  have hsl := hI.slots h ho hi hd
  have hnx : (st (i + 1)).nx = f.next (st i).nx := by rw [hs']; rfl
  -- the number of a new block
  obtain ⟨nx', hn1, hn2, hn3⟩ : ∃ nx', (nx' = (st i).nx ∨ isNew f = false) ∧ ¬ A nx' ∧ (isNew f = true → nx' = (st i).nx) := by
    cases f with
    | new k => exact ⟨(st i).nx, .inl rfl, hI.fresh' h hil hi (by rw [hnx]; simp [Eff.next]), fun _ => rfl⟩
    | none => exact ⟨(st l.length).nx, .inr rfl, hI.fresh h, fun e => by cases e⟩
    | set id k => exact ⟨(st l.length).nx, .inr rfl, hI.fresh h, fun e => by cases e⟩
    | app id k => exact ⟨(st i).nx, .inl rfl, hI.fresh' h hil hi (by rw [hnx]; simp [Eff.next]), fun _ => rfl⟩
  have hex : exOp P (restr (st i).sl (o.looksAt l.toArray)) (hpD l.length st en L) nx' o.op = some ((en i).x, f) := by
    refine op_local hok he (fun y hy => ev_restr _ hy) (fun id hid => hI.agr0 h hil hi hd (by rw [htc]; exact List.mem_append.2 (.inl hid))) ?_ hn1
    intro id hid
    have htg1 : (en i).tg = some id := htg.trans hid
    have hq := (hI.blk h hil hi hd (id := id) (.inr htg1)).2.2 htg1
    intro k hk
    rw [hget_hpD h, hq]
    exact ⟨k, hk, rfl, rfl, fun h => h⟩
  obtain ⟨v, w', rho', A', h1, h2, h3, h4, h5, h6⟩ := op_sound (P := P) hI.mem hsl hn2 hex
  refine ⟨v, w', S, rho', A', h1, hI.next h ho hd hdst (fun b hb => ⟨hb, h5 b hb⟩) h3 ?_ h6 ?_⟩
  · refine h2.turn fun id k' hk' _ => ?_
    cases f with
    | none =>
      rw [DInv.same (B := B) h hi htg] at hk'
      exact ⟨k', hk', rfl, rfl, fun h => h⟩
    | new k0 =>
      have hnx' := hn3 rfl
      subst hnx'
      rw [DInv.same (B := B) h hi htg] at hk'
      show ∃ k, hget (((st i).nx, k0) :: hpD l.length st en L) id = some k ∧ _
      simp only [hget]
      by_cases e : id = (st i).nx
      · subst e
        rw [if_pos rfl]
        rw [hget_hpD h] at hk'
        obtain ⟨b1, b2, _⟩ := hI.blk h hil hi hd (id := (st i).nx) (.inl (by rw [htc]; simp [crE]))
        have hne : (en i).tg ≠ some (st i).nx := by rw [htg]; simp [tgE]
        have hgt : i < nextC l.length en L (st i).nx := by
          rcases Nat.lt_or_eq_of_le b1 with hlt | heq
          · exact hlt
          · have a1 := (nextC_at (n := l.length) (en := en) (L := L) (id := (st i).nx) (by omega)).1
            rw [← heq] at a1
            exact absurd a1 hne
        have hk0 : hget (st (i + 1)).hp (st i).nx = some k0 := by rw [hs']; show hget (((st i).nx, k0) :: (st i).hp) _ = _; simp [hget]
        obtain ⟨k2, c1, c2, c3, c4⟩ := h.chain hk0 _ hgt (nextC_le _ _ _) (fun m hm1 hm2 => b2 m (by omega) hm2)
        rw [hk'] at c1; cases c1
        exact ⟨k0, rfl, c2, c3, c4⟩
      · rw [if_neg e]; exact ⟨k', hk', rfl, rfl, fun h => h⟩
    | set i0 k0 =>
      obtain ⟨t, b, y, hop, hst⟩ := set_store hok he
      obtain ⟨k, g1, g2, g3, g4⟩ := exStore_tgt hst
      have htg' : (en i).tg = some i0 := htg
      show ∃ k, hget (hset (hpD l.length st en L) i0 k0) id = some k ∧ _
      rw [hget_hset]
      by_cases e : id = i0
      · subst e
        rw [if_pos rfl]
        obtain ⟨b1, b2, b3⟩ := hI.blk h hil hi hd (id := id) (.inr htg')
        have hk : hget (hpD l.length st en L) id = some k := by rw [hget_hpD h, b3 htg']; exact g1
        rw [hk]
        have hk0 : hget (st (i + 1)).hp id = some k0 := by
          rw [hs']
          show hget (hset (st i).hp id k0) id = _
          rw [hget_hset, if_pos rfl, g1]; rfl
        rw [hget_hpD h] at hk'
        have hcmp : ∀ j, j ≠ i → j < l.length → (en j).tg = some id → (L j = true ↔ j < i) := fun j hji hjl hj => cmp_done h hI.closed hi hd (h.tgt i j id (fun e => hji e.symm) hil hjl hj (.inr htg'))
        have hq1 : i + 1 ≤ nextC l.length en (addL L i) id := by
          rcases Nat.lt_or_ge i (nextC l.length en (addL L i) id) with hlt | hge
          · exact hlt
          · obtain ⟨a1, a2⟩ := nextC_at (n := l.length) (en := en) (L := addL L i) (id := id) (by omega)
            obtain ⟨hne, a3⟩ := addL_false a2
            have := (hcmp _ hne (by omega) a1).2 (by omega)
            rw [this] at a3; cases a3
        obtain ⟨k2, c1, c2, c3, c4⟩ := h.chain hk0 _ hq1 (nextC_le _ _ _) (fun m hm1 hm2 hmt => by
          have hL := nextC_lt hm2 hmt
          have hle := nextC_le (en := en) l.length (addL L i) id
          unfold addL at hL
          rw [if_neg (by omega)] at hL
          have := (hcmp m (by omega) (by omega) hmt).1 hL
          omega)
        rw [hk'] at c1; cases c1
        exact ⟨k0, rfl, c2, c3, c4⟩
      · rw [if_neg e]
        rw [hget_hpD h, next_same hi (by rw [htg']; simp; exact fun e' => e e'.symm), ← hget_hpD h] at hk'
        exact ⟨k', hk', rfl, rfl, fun h => h⟩
    | app i0 k0 =>
      have hnx' := hn3 rfl
      subst hnx'
      obtain ⟨kb, hkb⟩ := app_op hok he
      have hlt0 : i0 < (st i).nx := h.klAt i (by omega) i0 kb hkb
      have htg' : (en i).tg = some i0 := htg
      show ∃ k, hget (((st i).nx, k0) :: hdel (hpD l.length st en L) i0) id = some k ∧ _
      simp only [hget]
      by_cases e : id = (st i).nx
      · subst e
        rw [if_pos rfl]
        have hne : (en i).tg ≠ some (st i).nx := by rw [htg']; intro e'; cases e'; omega
        rw [hget_hpD h, next_same hi hne] at hk'
        obtain ⟨b1, b2, _⟩ := hI.blk h hil hi hd (id := (st i).nx) (.inl (by rw [htc]; simp [crE]))
        have hgt : i < nextC l.length en L (st i).nx := by
          rcases Nat.lt_or_eq_of_le b1 with hlt | heq
          · exact hlt
          · have a1 := (nextC_at (n := l.length) (en := en) (L := L) (id := (st i).nx) (by omega)).1
            rw [← heq] at a1
            exact absurd a1 hne
        have hk0 : hget (st (i + 1)).hp (st i).nx = some k0 := by rw [hs']; show hget (((st i).nx, k0) :: hdel (st i).hp i0) _ = _; simp [hget]
        obtain ⟨k2, c1, c2, c3, c4⟩ := h.chain hk0 _ hgt (nextC_le _ _ _) (fun m hm1 hm2 => b2 m (by omega) hm2)
        rw [hk'] at c1; cases c1
        exact ⟨k0, rfl, c2, c3, c4⟩
      · rw [if_neg e, hget_hdel]
        by_cases e0 : id = i0
        · exfalso
          subst e0
          rw [hget_hpD h] at hk'
          have hcmp : ∀ j, j ≠ i → j < l.length → (en j).tg = some id → (L j = true ↔ j < i) := fun j hji hjl hj => cmp_done h hI.closed hi hd (h.tgt i j id (fun e => hji e.symm) hil hjl hj (.inr htg'))
          have hq1 : i + 1 ≤ nextC l.length en (addL L i) id := by
            rcases Nat.lt_or_ge i (nextC l.length en (addL L i) id) with hlt | hge
            · exact hlt
            · obtain ⟨a1, a2⟩ := nextC_at (n := l.length) (en := en) (L := addL L i) (id := id) (by omega)
              obtain ⟨hne, a3⟩ := addL_false a2
              have := (hcmp _ hne (by omega) a1).2 (by omega)
              rw [this] at a3; cases a3
          have hk0 : hget (st (i + 1)).hp id = none := by
            rw [hs']
            show hget (((st i).nx, k0) :: hdel (st i).hp id) id = _
            simp only [hget]
            rw [if_neg e, hget_hdel, if_pos rfl]
          rw [h.gone hk0 (by rw [hnx]; simp [Eff.next]; omega) _ hq1 (nextC_le _ _ _)] at hk'
          cases hk'
        · rw [if_neg e0]
          rw [hget_hpD h, next_same hi (by rw [htg']; simp; exact fun e' => e0 e'.symm), ← hget_hpD h] at hk'
          exact ⟨k', hk', rfl, rfl, fun h => h⟩
  · intro id hid
    rcases h4 id hid with h7 | ⟨h7, k, h8⟩
    · exact .inl h7
    · rcases h8 with h8 | ⟨i0, h8⟩
      · subst h8
        rw [hn3 rfl] at h7
        exact .inr ⟨h7.symm, by rw [hnx]; simp [Eff.next]⟩
      · subst h8
        rw [hn3 rfl] at h7
        exact .inr ⟨h7.symm, by rw [hnx]; simp [Eff.next]⟩
theorem region_step {B : Base} (h : DRun P l st en) {Q : Exit → Act → World → Prop} {L : Nat → Bool} {S : Nat → Prop} {rho : Nat → Nat} {A : Nat → Prop} {a : Act} {w : World} (hI : DInv B l st en L S rho A a w) {i : Nat} {o : Oper} (ho : l[i]? = some o) (hi : L i = false)
    (hd : ∀ m, depB l.toArray i m = true → L m = true) :
    wpOp P l.toArray Q i (fun a' w' => ∃ S rho A, DInv B l st en (addL L i) S rho A a' w') a w := by
  have hsl := hI.slots h ho hi hd
  have hil : i < l.length := (List.getElem?_eq_some_iff.1 ho).1
  have ho' : l.toArray[i]? = some o := by rw [List.getElem?_toArray]; exact ho
  have hguard : ∀ b, guardV l.toArray (st i).sl o.guard = some b → Region.wanted o (yielded l.toArray a.tmps) = b := fun b hb => by
    refine guard_sound (s := ⟨restr (st i).sl (o.looksAt l.toArray), [], 0, 0⟩) (S := S) (rho := rho) (w := w) (A := A) hsl ?_
    rw [← hb]; exact guard_restr (st i).sl
  unfold wpOp
  rw [ho']
  obtain ⟨hdst, ⟨f, hg, hok, he, hs', htg, htc, hna⟩ | ⟨hg, hx, htg, htc, hs'⟩ | ⟨g0, f, p0, q0, args, ts, ys, fb, hop, hfn, hg, hgo, hfz, hsp, hs', htg, hfb⟩ | ⟨f, args, ts, ys, ids, k0, X, fl, hop, hg, hgo, hfz, hsp, hx, hs', htg, htc, hfl⟩ | ⟨f, args, ts, i0, kk, off, len, z, cap, k0, hop, hg, hgo, hki, hsp, hx, hs', htg, htc⟩⟩ := h.step i o ho
  · simp only [hguard _ hg, if_true]
    refine .inl ?_
    obtain ⟨v, w', S', rho', A', h1, h2⟩ := hI.stepOp h ho hi hd hdst hok he hs' htg htc hna
    unfold Oper.wp
    rcases h1 with h1 | ⟨h1, rfl⟩ <;> rw [h1] <;> exact ⟨S', rho', A', h2⟩
  · simp only [hguard _ hg]
    refine ⟨S, rho, A, hI.next h ho hd hdst (fun b hb => ⟨hb, rfl⟩) (fun _ h => ⟨h, rfl, fun _ h => h⟩) ?_ (by rw [hx]; exact skip_rep) (fun _ h => .inl h)⟩
    refine hI.mem.turn fun id k' hk' _ => ?_
    rw [DInv.same (B := B) h hi htg] at hk'
    exact ⟨k', hk', rfl, rfl, fun h => h⟩
  · simp only [hguard _ hg, if_true]
    refine .inl ?_
    have hev : args.toList.map (evS (restr (st i).sl (o.looksAt l.toArray))) = args.toList.map (evS (st i).sl) := List.map_congr_left fun y hy => ev_restr _ (by rw [hop]; simp only [Op.operands, Call.operands]; simp; exact .inr (by simpa using hy))
    have heg : evS (restr (st i).sl (o.looksAt l.toArray)) g0 = evS (st i).sl g0 := ev_restr _ (by rw [hop]; simp only [Op.operands, Call.operands]; simp)
    have hfz' : frzAll (frz 8 (hpD l.length st en L)) (p0 ++ args.toList.map (evS (restr (st i).sl (o.looksAt l.toArray))) ++ q0) = some (ys, (en i).tc) ∨ frzN (p0 ++ args.toList.map (evS (restr (st i).sl (o.looksAt l.toArray))) ++ q0) = some (ys, (en i).tc) := by
      rw [hev]
      refine hfz.imp (fun hfz => ?_) (fun hfz => ?_)
      · exact frzAll_local (p := fun id => agr0 (hget (hpD l.length st en L) id) (hget (st i).hp id)) (fun x y ids hxy hp => frz_local 8 x y ids hxy hp) hfz (fun id hid => hI.agr0 h hil hi hd hid)
      · exact hfz
    obtain ⟨ps, qs, hge, hps, hqs⟩ := fn_sound (by rw [heg]; exact hfn) (ev_sound hI.mem.tab hsl g0)
    have hall := (hps.append (All.ev hI.mem.tab hsl args.toList)).append hqs
    obtain ⟨h1, h2⟩ := hfz'.elim (fun h => frzAll_sound (frz_sound hI.mem 8) h hall) (fun h => frzN_sound h hall)
    have hmf := hI.mem.freeze (en i).tc h2
    have hrun : (execOp a.eval o).run P w = .ok (.enter f (ps ++ args.map a.eval ++ qs)) w := by
      simp only [execOp, hop, resolve, hge, Deferred.ofValue, Sem.run_bind, Sem.run_pure, Result.andThen_ok, invoke]
      exact callFunc_go hgo _ w
    have hvl : (ps ++ args.map a.eval ++ qs).toList = ps.toList ++ args.toList.map a.eval ++ qs.toList := by simp
    unfold Oper.wp
    rw [hrun]
    refine (hsp (addS S rho A (en i).tc) w (ps ++ args.map a.eval ++ qs) hmf.slt hmf.tab ⟨by rw [hvl]; exact h1.1, fun i y u hy hu => (h1.2 i y u hy (by rw [← hvl]; exact hu)).rho⟩).mono ?_
    rintro e w' ⟨v, rfl, g, hx⟩
    have hA : ∀ id, A id → A id ∧ rho id = rho id ∧ ∀ n, szAt w (rho id) n → szAt w' (rho id) n := fun id h => ⟨h, rfl, fun _ => g.szAt⟩
    by_cases hfl0 : fb = true
    · have hfl := hfb hfl0
      refine ⟨fun b => S b ∨ (w.heap.size ≤ b ∧ b < w'.heap.size), rho, A, hI.next h ho hd hdst (fun b hb => ⟨.inl hb, g.block b (hI.mem.slt b hb)⟩) hA ?_ (flat_sound hfl hx.rho.open) (fun _ h => .inl h)⟩
      refine (hI.mem.came g).turn fun id k' hk' _ => ?_
      rw [DInv.same (B := B) h hi htg] at hk'
      exact ⟨k', hk', rfl, rfl, fun h => h⟩
    · refine ⟨fun b => addS S rho A (en i).tc b ∨ (w.heap.size ≤ b ∧ b < w'.heap.size), rho, A, hI.next h ho hd hdst (fun b hb => ⟨.inl (.inl hb), g.block b (hI.mem.slt b hb)⟩) hA ?_ hx.rho.open (fun _ h => .inl h)⟩
      refine (hmf.came g).turn fun id k' hk' _ => ?_
      rw [DInv.same (B := B) h hi htg] at hk'
      rw [hget_fz, hk']
      refine ⟨_, rfl, by split <;> rfl, by split <;> rfl, fun hk0 => ?_⟩
      by_cases hc : (en i).tc.contains id = true
      · exfalso
        have hmem : id ∈ (en i).tc := by simpa using hc
        obtain ⟨b1, b2, _⟩ := hI.blk h hil hi hd (id := id) (.inl hmem)
        have hgt : i < nextC l.length en L id := by
          rcases Nat.lt_or_eq_of_le b1 with hlt | heq
          · exact hlt
          · have := (nextC_at (n := l.length) (en := en) (L := L) (id := id) (by omega)).1
            rw [← heq, htg] at this; cases this
        obtain ⟨k1, hk1⟩ := h2 id hmem
        -- the block is there in the run, and does not change behind
        rw [hget_hpD h] at hk'
        have hst : (st (i + 1)).hp = fzHp (st i).hp (en i).tc := by rw [hs']; simp [calledG, hfl0]
        obtain ⟨k2, hk2⟩ := hfz.elim (fun h => frzAll_live (p := fun id => ∃ k, hget (st i).hp id = some k) (frz_live 8) h id hmem) (fun h => by rw [frzN_none h] at hmem; cases hmem)
        have hk3 : hget (st (i + 1)).hp id = some ⟨k2.ty, k2.cs, true⟩ := by rw [hst, hget_fz, hk2]; simp [hc]; exact fun h => absurd hmem h
        obtain ⟨k4, c1, c2, c3, c4⟩ := h.chain hk3 _ hgt (nextC_le _ _ _) (fun m hm1 hm2 => b2 m (by omega) hm2)
        rw [hk'] at c1; cases c1
        have := c4 hk0
        cases this
      · show (if (en i).tc.contains id = true then (⟨k'.ty, k'.cs, true⟩ : Blk) else k').fz = false; rw [if_neg hc]; exact hk0
  · simp only [hguard _ hg, if_true]
    refine .inl ?_
    have hev : args.toList.map (evS (restr (st i).sl (o.looksAt l.toArray))) = args.toList.map (evS (st i).sl) := List.map_congr_left fun y hy => ev_restr _ (by rw [hop]; simp only [Op.operands, Call.operands]; simp; exact .inr (by simpa using hy))
    have hfz' : frzAll (frz 8 (hpD l.length st en L)) (args.toList.map (evS (restr (st i).sl (o.looksAt l.toArray)))) = some (ys, ids) := by
      rw [hev]
      exact frzAll_local (p := fun id => agr0 (hget (hpD l.length st en L) id) (hget (st i).hp id)) (fun x y ids hxy hp => frz_local 8 x y ids hxy hp) hfz (fun id hid => hI.agr0 h hil hi hd (by rw [htc]; exact List.mem_append.2 (.inl hid)))
    have hall := All.ev hI.mem.tab hsl args.toList
    obtain ⟨h1, h2⟩ := frzAll_sound (frz_sound hI.mem 8) hfz' hall
    have hmf := hI.mem.freeze ids h2
    have hrun : (execOp a.eval o).run P w = .ok (.enter f (args.map a.eval)) w := by
      simp only [execOp, hop, resolve, Act.eval, Deferred.ofValue, Sem.run_bind, Sem.run_pure, Result.andThen_ok, invoke]
      have := callFunc_go hgo (args.map a.eval) w
      simpa using this
    unfold Oper.wp
    rw [hrun]
    refine (hsp.2 (addS S rho A ids) w (args.map a.eval) hmf.slt hmf.tab ⟨by have := h1.1; simpa using this, fun i y u hy hu => (h1.2 i y u hy (by simpa using hu)).rho⟩).mono ?_
    have hlt : (st i).nx < (st (i + 1)).nx := by rw [hs']; simp [SS.put, Eff.next]
    have hid : ¬ A (st i).nx := hI.fresh' h hil hi hlt
    have hturn : ∀ id k', hget (hpD l.length st en (addL L i)) id = some k' → ∃ k, hget (((st i).nx, k0) :: hpD l.length st en L) id = some k ∧ k'.ty = k.ty ∧ k'.cs = k.cs ∧ (k'.fz = false → k.fz = false) := by
      intro id k' hk'
      rw [DInv.same (B := B) h hi htg] at hk'
      simp only [hget]
      by_cases e : id = (st i).nx
      · subst e
        rw [if_pos rfl]
        rw [hget_hpD h] at hk'
        obtain ⟨b1, b2, _⟩ := hI.blk h hil hi hd (id := (st i).nx) (.inl (by rw [htc]; simp))
        have hne : (en i).tg ≠ some (st i).nx := by rw [htg]; simp
        have hgt : i < nextC l.length en L (st i).nx := by
          rcases Nat.lt_or_eq_of_le b1 with hlt | heq
          · exact hlt
          · have a1 := (nextC_at (n := l.length) (en := en) (L := L) (id := (st i).nx) (by omega)).1
            rw [← heq] at a1
            exact absurd a1 hne
        have hk0 : hget (st (i + 1)).hp (st i).nx = some k0 := by rw [hs']; show hget (((st i).nx, k0) :: (st i).hp) _ = _; simp [hget]
        obtain ⟨k2, c1, c2, c3, c4⟩ := h.chain hk0 _ hgt (nextC_le _ _ _) (fun m hm1 hm2 => b2 m (by omega) hm2)
        rw [hk'] at c1; cases c1
        exact ⟨k0, rfl, c2, c3, c4⟩
      · rw [if_neg e]; exact ⟨k', hk', rfl, rfl, fun h => h⟩
    rintro e w' ⟨v, rfl, g, ⟨b, S2, hb, hS2, hnb, hcs, hv⟩ | hv⟩
    · have hS3 : ∀ c, S2 c → S c ∨ (w.heap.size ≤ c ∧ c < w'.heap.size) := fun c hc => by
        obtain ⟨q1, q2⟩ := hS2 c hc
        rcases hfl with e | e
        · rw [e] at q1; cases q1
        · subst e
          rcases q2 with (q2 | ⟨_, q3, _⟩) | q2
          · exact .inl q2
          · cases q3
          · exact .inr q2
      have hbl : b < w'.heap.size := by obtain ⟨cells, q1, _⟩ := hcs; exact (Array.getElem?_eq_some_iff.1 q1).1
      have hm := (hI.mem.came2 g S2 hS3).come (st i).nx hid k0 b (fun i q hq ha e => by have := hI.mem.lt hq ha; omega) (fun e => e.elim (fun e => by have := hI.mem.slt b e; omega) hnb) (.inl (Nat.le_trans hI.mem.frame.size hb)) (hcs.mono rfl (fun c h => ⟨.inr h, rfl⟩) (fun _ h => h.elim))
      refine ⟨fun c => S c ∨ S2 c, (fun j => if j = (st i).nx then b else rho j), (fun j => j = (st i).nx ∨ A j), hI.next h ho hd hdst (fun b hb => ⟨.inl hb, g.block b (hI.mem.slt b hb)⟩) (fun id hid' => ⟨.inr hid', if_neg (fun e : id = (st i).nx => hid (e ▸ hid')), fun _ => g.szAt⟩) ?_ (by rw [hx]; exact hsp.1 _ _ _ _ _ _ _ _ _ _ hv (fun c h => .inr h) (fun i h => h) (.inl rfl) (if_pos rfl)) ?_⟩
      · exact hm.turn fun id k' hk' _ => hturn id k' hk'
      · rintro id (rfl | hid')
        · exact .inr ⟨rfl, hlt⟩
        · exact .inl hid'
    · have hm := (hI.mem.grow g).phantom (st i).nx hid k0
      exact ⟨S, rho, A, hI.next h ho hd hdst (fun b hb => ⟨hb, g.block b (hI.mem.slt b hb)⟩) (fun _ h => ⟨h, rfl, fun _ => g.szAt⟩) (hm.turn fun id k' hk' _ => hturn id k' hk') (by rw [hx]; exact hv _ _ _ _ _) (fun _ h => .inl h)⟩
  · simp only [hguard _ hg, if_true]
    refine .inl ?_
    have hev : args.toList.map (evS (restr (st i).sl (o.looksAt l.toArray))) = args.toList.map (evS (st i).sl) := List.map_congr_left fun y hy => ev_restr _ (by rw [hop]; simp only [Op.operands, Call.operands]; simp; exact .inr (by simpa using hy))
    have hnx : (st (i + 1)).nx = (st i).nx + 1 := by rw [hs']; simp [SS.put, Eff.next]
    have hlt : (st i).nx < (st (i + 1)).nx := by omega
    have hid : ¬ A (st i).nx := hI.fresh' h hil hi hlt
    have hkD : hget (hpD l.length st en L) i0 = some kk := by rw [hget_hpD h, (hI.blk h hil hi hd (id := i0) (.inr htg)).2.2 htg]; exact hki
    have hm1 : Mem B S rho A [(i0, kk)] w := hI.mem.less fun j q hj => by
      simp only [hget] at hj
      split at hj
      · rename_i e; subst e; cases hj; exact hkD
      · cases hj
    have hb : ∀ j, A j → j < (st l.length).nx := fun j hj => by
      rcases hI.num j hj with h1 | ⟨m, hm, _, h2, h3⟩
      · have := h.nx 0 l.length (by omega) (Nat.le_refl _); omega
      · have := h.nx (m + 1) l.length (by omega) (Nat.le_refl _); omega
    have hall := All.ev hI.mem.tab hsl args.toList
    rw [hev] at hall
    have hrun : (execOp a.eval o).run P w = .ok (.enter f (args.map a.eval)) w := by
      simp only [execOp, hop, resolve, Act.eval, Deferred.ofValue, Sem.run_bind, Sem.run_pure, Result.andThen_ok, invoke]
      have := callFunc_go hgo (args.map a.eval) w
      simpa using this
    unfold Oper.wp
    rw [hrun]
    refine (hsp B S rho A w (args.map a.eval) _ hm1 hb (by simpa using hall)).mono ?_
    rintro e w' ⟨v, b, rfl, g, hS, hbn, hnb, hcs, hv⟩
    have hm2 := hI.mem.moved hkD g hS
    have hm3 := hm2.come (st i).nx hid k0 b (fun j q hq ha e => by
      rw [hget_hdel] at hq
      split at hq
      · cases hq
      · rcases hbn with hbn | ⟨hbn, hbr⟩
        · have := hI.mem.lt hq ha; omega
        · exact absurd (hI.mem.inj j i0 q kk hq hkD ha hbn (e.trans hbr.symm)) ‹_›) hnb
      (hbn.elim (fun h => .inl (Nat.le_trans hI.mem.frame.size h)) (fun ⟨h1, h2⟩ => h2 ▸ hI.mem.own i0 kk hkD h1)) (hcs.mono rfl (fun _ h => h.elim) (fun _ h => h.elim))
    refine ⟨S, (fun j => if j = (st i).nx then b else rho j), (fun j => j = (st i).nx ∨ A j), hI.next h ho hd hdst (fun b hb => ⟨hb, hS b hb⟩) (fun id hid' => ⟨.inr hid', if_neg (fun e : id = (st i).nx => hid (e ▸ hid')), fun n => g.sz _ n⟩) ?_ (by rw [hx]; exact hv.renum (.inl rfl) (if_pos rfl)) ?_⟩
    · refine hm3.turn fun id k' hk' _ => ?_
      have hlt0 : i0 < (st i).nx := h.klAt i (by omega) i0 kk hki
      have htg' : (en i).tg = some i0 := htg
      show ∃ k, hget (((st i).nx, k0) :: hdel (hpD l.length st en L) i0) id = some k ∧ _
      simp only [hget]
      by_cases e : id = (st i).nx
      · subst e
        rw [if_pos rfl]
        have hne : (en i).tg ≠ some (st i).nx := by rw [htg']; intro e'; cases e'; omega
        rw [hget_hpD h, next_same hi hne] at hk'
        obtain ⟨b1, b2, _⟩ := hI.blk h hil hi hd (id := (st i).nx) (.inl (by rw [htc]; simp))
        have hgt : i < nextC l.length en L (st i).nx := by
          rcases Nat.lt_or_eq_of_le b1 with hlt | heq
          · exact hlt
          · have a1 := (nextC_at (n := l.length) (en := en) (L := L) (id := (st i).nx) (by omega)).1
            rw [← heq] at a1
            exact absurd a1 hne
        have hk0 : hget (st (i + 1)).hp (st i).nx = some k0 := by rw [hs']; show hget (((st i).nx, k0) :: hdel (st i).hp i0) _ = _; simp [hget]
        obtain ⟨k2, c1, c2, c3, c4⟩ := h.chain hk0 _ hgt (nextC_le _ _ _) (fun m hm1 hm2 => b2 m (by omega) hm2)
        rw [hk'] at c1; cases c1
        exact ⟨k0, rfl, c2, c3, c4⟩
      · rw [if_neg e, hget_hdel]
        by_cases e0 : id = i0
        · exfalso
          subst e0
          rw [hget_hpD h] at hk'
          have hcmp : ∀ j, j ≠ i → j < l.length → (en j).tg = some id → (L j = true ↔ j < i) := fun j hji hjl hj => cmp_done h hI.closed hi hd (h.tgt i j id (fun e => hji e.symm) hil hjl hj (.inr htg'))
          have hq1 : i + 1 ≤ nextC l.length en (addL L i) id := by
            rcases Nat.lt_or_ge i (nextC l.length en (addL L i) id) with hlt | hge
            · exact hlt
            · obtain ⟨a1, a2⟩ := nextC_at (n := l.length) (en := en) (L := addL L i) (id := id) (by omega)
              obtain ⟨hne, a3⟩ := addL_false a2
              have := (hcmp _ hne (by omega) a1).2 (by omega)
              rw [this] at a3; cases a3
          have hk0 : hget (st (i + 1)).hp id = none := by
            rw [hs']
            show hget (((st i).nx, k0) :: hdel (st i).hp id) id = _
            simp only [hget]
            rw [if_neg e, hget_hdel, if_pos rfl]
          rw [h.gone hk0 (by rw [hnx]; omega) _ hq1 (nextC_le _ _ _)] at hk'
          cases hk'
        · rw [if_neg e0]
          rw [hget_hpD h, next_same hi (by rw [htg']; simp; exact fun e' => e0 e'.symm), ← hget_hpD h] at hk'
          exact ⟨k', hk', rfl, rfl, fun h => h⟩
    · rintro id (rfl | hid')
      · exact .inr ⟨rfl, hlt⟩
      · exact .inl hid'
theorem region_draw {B : Base} {id : Nat} {Q : Exit → SS → Prop} {s : SS} (h : DRun P l st en) (hs : st 0 = s) (hm : P.follows .mixedOrders = true) (hQ : Q .normal (st l.length)) : SWp P B (.region id l.toArray true) Q s := by
  subst hs
  intro S rho A a w hr
  have dep : ∀ (L : Nat → Bool) (i : Nat) (o : Oper), l.toArray[i]? = some o → (∀ e ∈ o.after.toList, Region.binds .any e = true → L e.on = true) → ∀ m, depB l.toArray i m = true → L m = true := by
    intro L i o ho hd m hm
    unfold depB at hm
    rw [ho] at hm
    simp only [Array.any_eq_true'] at hm
    obtain ⟨e, he, hb⟩ := hm
    rw [Bool.and_eq_true, beq_iff_eq] at hb
    rw [← hb.2]; exact hd e (by simpa using he) hb.1
  refine wp_region_any hm (wpAny_act (fun L a w => ∃ S rho A, DInv B l st en L S rho A a w) ?_ ?_ ?_ _ _ a _ (by simp) ?_ ?_)
  · intro i o ho e he hb
    rw [List.getElem?_toArray] at ho
    exact h.ord i o ho e he hb
  · rintro L a w i o ho hi hd ⟨S, rho, A, hI⟩
    have := dep L i o ho hd
    rw [List.getElem?_toArray] at ho
    exact region_step h hI ho hi this
  · rintro L a w hL ⟨S, rho, A, hI⟩
    have hall : ∀ i, i < l.length → L i = true := fun i hi => hL i (by simpa using hi)
    refine ⟨S, rho, A, st l.length, hQ, ?_, hI.mem.turn fun id k' hk' _ => ?_, fun id hid => ?_, hI.size.trans (h.nt l.length (Nat.le_refl _)).symm, hI.defs⟩
    · intro t
      by_cases hex : ∃ (j : Nat) (o : Oper), l[j]? = some o ∧ o.dst = some t
      · obtain ⟨j, o, hj, hd⟩ := hex
        have hjl := (List.getElem?_eq_some_iff.1 hj).1
        rw [h.slotx hj hd l.length hjl (Nat.le_refl _)]
        exact hI.done t j o hj hd (hall j hjl)
      · have hno : ∀ (j : Nat) (o : Oper), l[j]? = some o → o.dst ≠ some t := fun j o hj hd => hex ⟨j, o, hj, hd⟩
        rw [h.slot0 l.length (Nat.le_refl _) fun j o _ hj => hno j o hj]
        exact hI.open' t fun j o hj hd => absurd hd (hno j o hj)
    · have hq : nextC l.length en L id = l.length := by
        have hle := nextC_le (en := en) l.length L id
        rcases Nat.lt_or_eq_of_le hle with hlt | heq
        · obtain ⟨_, a2⟩ := nextC_at hlt
          rw [hall _ hlt] at a2; cases a2
        · exact heq
      refine ⟨k', ?_, rfl, rfl, fun h => h⟩
      rw [hget_hpD h, hq]; exact hk'
    · rcases hI.num id hid with h1 | ⟨j, hj, _, rfl, h2⟩
      · exact Nat.lt_of_lt_of_le h1 (h.nx 0 _ (Nat.zero_le _) (Nat.le_refl _))
      · exact Nat.lt_of_lt_of_le h2 (h.nx (j + 1) _ (by omega) (Nat.le_refl _))
  · unfold unl
    refine Nat.le_trans (List.length_filter_le _ _) (by simp)
  · have hf : ∀ j, (Array.replicate l.toArray.size false).getD j false = false := by
      intro j
      rw [Array.getD_eq_getD_getElem?, Array.getElem?_replicate]
      split <;> rfl
    have g := Grow.drawn w (w.drawn + 1)
    exact ⟨S, rho, A, {
      mem := (hr.mem.grow g).turn fun id k' hk' hA => by
        rw [hget_hpD h] at hk'
        obtain ⟨k, hk⟩ := h.born (hr.alt id hA) _ (nextC_le _ _ _) k' hk'
        obtain ⟨k2, c1, c2, c3, c4⟩ := h.chain hk _ (Nat.zero_le _) (nextC_le _ _ _) (fun m _ hm hmt => by
          have := nextC_lt (L := fun j => (Array.replicate l.toArray.size false).getD j false) hm hmt
          have e := hf m
          rw [show (Array.replicate l.toArray.size false).getD m false = true from this] at e; cases e)
        rw [hk'] at c1; cases c1
        exact ⟨k, hk, c2, c3, c4⟩
      done := fun t j o _ _ hL => by simp only [hf] at hL; cases hL
      open' := fun t _ => (hr.slots t).mono (fun b hb => ⟨hb, rfl⟩) (fun id h => ⟨h, rfl, fun _ => g.szAt⟩)
      num := fun id hA => .inl (hr.alt id hA)
      size := hr.nt
      defs := hr.defs
      closed := fun i j hi => by simp only [hf] at hi; cases hi }⟩
end
end Go.Proofs.YtpodnbcdddcdmaaGreatDoor

/- Regions that draw their order: to be run in the order of the text. -/
namespace Go.Proofs.YtpodnbcdddcdmaaGreatDoor
open Go.RowKit
section
variable {P : Program}
def DTr (P : Program) (ops : Array Oper) : SS → List Oper → List En → SS → Prop
  | s, [], es, s' => es = [] ∧ s' = s
  | s, o :: l, es, s' => ∃ e es' s1, es = e :: es' ∧ DStep P ops o s e s1 ∧ DTr P ops s1 l es' s'
theorem DTr.fun {ops : Array Oper} : ∀ {l : List Oper} {s s' : SS} {es : List En}, DTr P ops s l es s' → es.length = l.length ∧
    ∃ (st : Nat → SS) (en : Nat → En), st 0 = s ∧ st l.length = s' ∧ (∀ (i : Nat) (o : Oper), l[i]? = some o → DStep P ops o (st i) (en i) (st (i + 1))) ∧ ∀ i, i < l.length → es[i]? = some (en i)
  | [], s, s', es, h => by
    obtain ⟨rfl, rfl⟩ := h
    exact ⟨rfl, fun _ => s', fun _ => ⟨.junk, none, []⟩, rfl, rfl, fun i o ho => by simp at ho, fun i hi => by simp at hi⟩
  | o :: l, s, s', es, h => by
    obtain ⟨e, es', s1, rfl, h1, h2⟩ := h
    obtain ⟨hl, st, en, a1, a2, a3, a4⟩ := h2.fun
    refine ⟨by simp [hl], fun i => match i with | 0 => s | i + 1 => st i, fun i => match i with | 0 => e | i + 1 => en i, rfl, a2, fun i o' ho => ?_, fun i hi => ?_⟩
    · cases i with
      | zero => simp at ho; subst ho; show DStep P ops o s e (st 0); rw [a1]; exact h1
      | succ i => simp at ho; exact a3 i o' ho
    · cases i with
      | zero => rfl
      | succ i => simp at hi ⊢; exact a4 i hi
def pr (e : En) : Option Nat × List Nat := (e.tg, e.tc)
theorem chk_run {l : List Oper} {s s' : SS} {es : List En} (hk : KL s) (h : DTr P l.toArray s l es s') (hc : chkD l (es.map pr) = true) : ∃ st en, DRun P l st en ∧ st 0 = s ∧ st l.length = s' := by
  obtain ⟨hlen, st, en, a1, a2, a3, a4⟩ := h.fun
  unfold chkD at hc
  rw [Bool.and_eq_true] at hc
  obtain ⟨c1, c2⟩ := hc
  have idx : ∀ (i : Nat) (o : Oper), l[i]? = some o → (o, i) ∈ l.zipIdx := fun i o ho => by
    rw [List.mem_iff_getElem?]
    exact ⟨i, by simp [ho]⟩
  have pair : ∀ (i j : Nat) (oi oj : Oper), i ≠ j → l[i]? = some oi → l[j]? = some oj → pairOk l.toArray (es.map pr) i j oi oj = true := fun i j oi oj hne hi hj => by
    have := List.all_eq_true.1 (List.all_eq_true.1 c2 _ (idx i oi hi)) _ (idx j oj hj)
    simpa [hne] using this
  have enAt : ∀ i, i < l.length → (es.map pr)[i]? = some (pr (en i)) := fun i hi => by rw [List.getElem?_map, a4 i hi]; rfl
  refine ⟨st, en, ⟨by rw [a1]; exact hk, a3, fun i o ho e he hb => ?_, fun i j oi oj d hne hi hj hd => ?_, fun i j id hne hi hj ht hm => ?_⟩, a1, a2⟩
  · unfold ordB at c1
    have h2 : (o.after.all fun e => !Region.binds .any e || decide (e.on < i)) = true := List.all_eq_true.1 c1 _ (idx i o ho)
    rw [Array.all_eq_true'] at h2
    have h3 := h2 e (by simpa using he)
    rw [hb] at h3
    simpa using h3
  · have := pair i j oi oj hne hi hj
    unfold pairOk at this
    rw [Bool.and_eq_true] at this
    have h1 := this.1
    rw [hd] at h1
    simp only [Bool.or_eq_true, Bool.and_eq_true, Bool.not_eq_true', bne_iff_ne, ne_eq] at h1
    rcases h1 with ⟨h1, h2⟩ | ⟨h1, h2⟩
    · refine ⟨h2, fun hm => ?_⟩
      have : (looks l.toArray oi).contains d = true := by simpa [looks] using hm
      rw [this] at h1; cases h1
    · exact ⟨h2, fun _ => h1⟩
  · obtain ⟨oi, hoi⟩ := getL (l := l) hi
    obtain ⟨oj, hoj⟩ := getL (l := l) hj
    have := pair i j oi oj hne hoi hoj
    unfold pairOk at this
    rw [Bool.and_eq_true] at this
    have h1 := this.2
    rw [enAt j hj] at h1
    simp only [pr, Option.bind_some, ht, List.getD_eq_getElem?_getD, enAt i hi, Option.getD_some] at h1
    simp only [Bool.or_eq_true, Bool.and_eq_true, Bool.not_eq_true', bne_iff_ne, ne_eq] at h1
    rcases h1 with ⟨h1, h2⟩ | h1
    · rcases hm with hm | hm
      · have : (en i).tc.contains id = true := by simpa using hm
        rw [this] at h1; cases h1
      · exact absurd hm h2
    · exact h1
def DO (P : Program) (B : Base) (full l : List Oper) (cs : List Code) (Q : Exit → SS → Prop) (tr : List (Option Nat × List Nat)) (s : SS) : Prop :=
  ∃ es s', DTr P full.toArray s l es s' ∧ chkD full (tr.reverse ++ es.map pr) = true ∧ SC P B cs Q s'
def drun (P : Program) (ops : Array Oper) (s : SS) (o : Oper) : Option (SS × Option Nat × List Nat) :=
  if dstOk o.dst s.nt then
    match guardV ops s.sl o.guard with
    | some true => if okOp o.op then (exOp P s.sl s.hp s.nx o.op).bind fun p => if noApp p.2 then some (s.put o.dst p.1 p.2, tgE p.2, rdOf s.sl o.op ++ crE p.2 s.nx) else none else none
    | some false => some (s.put o.dst (.tu []) .none, none, [])
    | none => none
  else none
variable {B : Base} {full l : List Oper} {cs : List Code} {Q : Exit → SS → Prop} {tr : List (Option Nat × List Nat)} {s : SS} {o : Oper}
theorem DO.nil (hc : chkD full tr.reverse = true) (h : SC P B cs Q s) : DO P B full [] cs Q tr s := ⟨[], s, ⟨rfl, rfl⟩, by simpa using hc, h⟩
theorem DO.step {e : En} {s1 : SS} (h : DStep P full.toArray o s e s1) (k : DO P B full l cs Q (pr e :: tr) s1) : DO P B full (o :: l) cs Q tr s := by
  obtain ⟨es, s', h1, h2, h3⟩ := k
  exact ⟨e :: es, s', ⟨e, es, s1, rfl, h, h1⟩, by simpa using h2, h3⟩
theorem DO.run {s' : SS} {t : Option Nat} {c : List Nat} (h : drun P full.toArray s o = some (s', t, c)) (k : DO P B full l cs Q ((t, c) :: tr) s') : DO P B full (o :: l) cs Q tr s := by
  unfold drun at h
  split at h
  · rename_i hd
    split at h
    · rename_i hg
      split at h
      · rename_i hok
        cases he : exOp P s.sl s.hp s.nx o.op with
        | none => simp [he] at h
        | some p =>
          obtain ⟨x, f⟩ := p
          simp only [he, Option.bind_some] at h
          split at h
          · rename_i hna
            cases h
            exact DO.step (e := ⟨x, tgE f, rdOf s.sl o.op ++ crE f s.nx⟩) ⟨hd, .inl ⟨f, hg, hok, he, rfl, rfl, rfl, hna⟩⟩ k
          · cases h
      · cases h
    · rename_i hg
      cases h
      exact DO.step (e := ⟨.tu [], none, []⟩) ⟨hd, .inr (.inl ⟨hg, rfl, rfl, rfl, rfl⟩)⟩ k
    · cases h
  · cases h
def DCall (P : Program) (B : Base) (full : List Oper) (f : Nat) (ys : List V) (ids : List Nat) (d : Option Nat) (l : List Oper) (cs : List Code) (Q : Exit → SS → Prop) (tr : List (Option Nat × List Nat)) (s : SS) : Prop :=
  ∃ x fb, Spec P f ys x ∧ (fb = true → flat x = true) ∧ DO P B full l cs Q ((none, ids) :: tr) (calledG s d x ids fb)
theorem DO.call {f : Nat} {args : List Operand} {ts : Array TypeId} {d : Option Tmp} {ty : TypeId} {pos : String} {after : Array Edge} {gd : Option (Nat × Bool)} {ys : List V} {ids : List Nat}
    (hgo : isGo P f = true) (hf : frzAll (frz 8 s.hp) (args.map (evS s.sl)) = some (ys, ids)) (hg : guardV full.toArray s.sl gd = some true ∧ dstOk d s.nt = true) (k : DCall P B full f ys ids d l cs Q tr s) : DO P B full (⟨d, .call ⟨.value (.func f), args.toArray, ts⟩, ty, pos, after, gd⟩ :: l) cs Q tr s := by
  obtain ⟨x, fb, hs, hfb, k⟩ := k
  exact DO.step (e := ⟨x, none, ids⟩) ⟨hg.2, .inr (.inr (.inl ⟨.func f, f, [], [], args.toArray, ts, ys, fb, rfl, rfl, hg.1, hgo, .inl (by simpa using hf), hs, rfl, rfl, hfb⟩))⟩ k
@[go_sem] theorem cloM_sc (v : Value) : cloM (.sc v) = true := rfl
@[go_sem] theorem cloM_im (cs : List V) (n : Nat) : cloM (.im cs n) = true := rfl
@[go_sem] theorem cloM_pi (cs : List V) : cloM (.pi cs) = true := rfl
@[go_sem] theorem cloM_pt (id off : Nat) : cloM (.pt id off) = false := rfl
@[go_sem] theorem cloM_sl (id off n z : Nat) (c : Option Nat) : cloM (.sl id off n z c) = false := rfl
@[go_sem] theorem cloM_ag (cs : List V) : cloM (.ag cs) = false := rfl
@[go_sem] theorem frzN_eq (cs : List V) : frzN cs = if cs.all cloM = true then some (cs, []) else none := rfl
theorem DO.callL {f : Nat} {args : List Operand} {ts : Array TypeId} {d : Option Tmp} {ty : TypeId} {pos : String} {after : Array Edge} {gd : Option (Nat × Bool)} {ys : List V} {ids : List Nat}
    (hgo : isGo P f = true) (hf : frzN (args.map (evS s.sl)) = some (ys, ids)) (hg : guardV full.toArray s.sl gd = some true ∧ dstOk d s.nt = true) (k : DCall P B full f ys ids d l cs Q tr s) : DO P B full (⟨d, .call ⟨.value (.func f), args.toArray, ts⟩, ty, pos, after, gd⟩ :: l) cs Q tr s := by
  obtain ⟨x, fb, hs, hfb, k⟩ := k
  exact DO.step (e := ⟨x, none, ids⟩) ⟨hg.2, .inr (.inr (.inl ⟨.func f, f, [], [], args.toArray, ts, ys, fb, rfl, rfl, hg.1, hgo, .inr (by simpa using hf), hs, rfl, rfl, hfb⟩))⟩ k
theorem DO.callV {g : Operand} {f : Nat} {p q : List V} {args : List Operand} {ts : Array TypeId} {d : Option Tmp} {ty : TypeId} {pos : String} {after : Array Edge} {gd : Option (Nat × Bool)} {ys : List V} {ids : List Nat} (hfn : fnOf (evS s.sl g) = some (f, p, q))
    (hgo : isGo P f = true) (hf : frzAll (frz 8 s.hp) (p ++ args.map (evS s.sl) ++ q) = some (ys, ids)) (hg : guardV full.toArray s.sl gd = some true ∧ dstOk d s.nt = true) (k : DCall P B full f ys ids d l cs Q tr s) : DO P B full (⟨d, .call ⟨.value g, args.toArray, ts⟩, ty, pos, after, gd⟩ :: l) cs Q tr s := by
  obtain ⟨x, fb, hs, hfb, k⟩ := k
  exact DO.step (e := ⟨x, none, ids⟩) ⟨hg.2, .inr (.inr (.inl ⟨g, f, p, q, args.toArray, ts, ys, fb, rfl, hfn, hg.1, hgo, .inl (by simpa using hf), hs, rfl, rfl, hfb⟩))⟩ k
theorem DCall.of {f : Nat} {ys : List V} {ids : List Nat} {d : Option Nat} {x : V} {s' : SS} (hs : Spec P f ys x) (hn : s.called d x ids = s') (k : DO P B full l cs Q ((none, ids) :: tr) s') : DCall P B full f ys ids d l cs Q tr s := ⟨x, flat x, hs, fun h => h, by subst hn; exact k⟩
theorem DCall.ofX {f : Nat} {ys : List V} {ids : List Nat} {d : Option Nat} {x : V} {s' : SS} (hs : Spec P f ys x) (hn : s.callE d x ids = s') (k : DO P B full l cs Q ((none, ids) :: tr) s') : DCall P B full f ys ids d l cs Q tr s := ⟨x, fl x, hs, fl_flat, by subst hn; exact k⟩
def DNew (P : Program) (B : Base) (full : List Oper) (f : Nat) (ys : List V) (ids : List Nat) (d : Option Nat) (l : List Oper) (cs : List Code) (Q : Exit → SS → Prop) (tr : List (Option Nat × List Nat)) (s : SS) : Prop :=
  ∃ k X fl, NewX P f ys k X fl ∧ (fl = true ∨ ids = []) ∧ DO P B full l cs Q ((none, ids ++ [s.nx]) :: tr) (s.put d (X s.nx) (.new k))
theorem DO.callN {f : Nat} {args : List Operand} {ts : Array TypeId} {d : Option Tmp} {ty : TypeId} {pos : String} {after : Array Edge} {gd : Option (Nat × Bool)} {ys : List V} {ids : List Nat}
    (hgo : isGo P f = true) (hf : frzAll (frz 8 s.hp) (args.map (evS s.sl)) = some (ys, ids)) (hg : guardV full.toArray s.sl gd = some true ∧ dstOk d s.nt = true) (k : DNew P B full f ys ids d l cs Q tr s) : DO P B full (⟨d, .call ⟨.value (.func f), args.toArray, ts⟩, ty, pos, after, gd⟩ :: l) cs Q tr s := by
  obtain ⟨k0, X, fl, hs, hfl, k⟩ := k
  exact DO.step (e := ⟨X s.nx, none, ids ++ [s.nx]⟩) ⟨hg.2, .inr (.inr (.inr (.inl ⟨f, args.toArray, ts, ys, ids, k0, X, fl, rfl, hg.1, hgo, hf, hs, rfl, rfl, rfl, rfl, hfl⟩)))⟩ k
theorem DNew.of {f : Nat} {ys : List V} {ids : List Nat} {d : Option Nat} {k : Blk} {off len z n : Nat} {c : Option Nat} {s' : SS} (hs : NewP P f ys k off len z c) (hn : s.nx = n) (hp : s.put d (.sl n off len z c) (.new k) = s') (h : DO P B full l cs Q ((none, ids ++ [n]) :: tr) s') : DNew P B full f ys ids d l cs Q tr s := by
  subst hn; subst hp; exact ⟨k, _, true, hs, .inl rfl, h⟩
theorem DNew.ofX {f : Nat} {ys : List V} {d : Option Nat} {k : Blk} {X : Nat → V} {n : Nat} {s' : SS} (hs : NewX P f ys k X false) (hn : s.nx = n) (hp : s.put d (X n) (.new k) = s') (h : DO P B full l cs Q ((none, [n]) :: tr) s') : DNew P B full f ys [] d l cs Q tr s := by
  subst hn; subst hp; exact ⟨k, X, false, hs, .inr rfl, h⟩
def klB (hp : List (Nat × Blk)) (nx : Nat) : Bool := hp.all fun p => decide (p.1 < nx)
theorem klB_sound (h : klB s.hp s.nx = true) : KL s := by
  intro id k hk
  have := mem_keys hk
  obtain ⟨p, hp, rfl⟩ := List.mem_map.1 this
  simpa using List.all_eq_true.1 h p hp
theorem SC.draw {id : Nat} (hm : P.follows .mixedOrders = true) (hk : klB s.hp s.nx = true) (h : DO P B l l cs Q [] s) : SC P B (.region id l.toArray true :: cs) Q s := by
  obtain ⟨es, s', h1, h2, h3⟩ := h
  obtain ⟨st, en, h4, h5, h6⟩ := chk_run (klB_sound hk) h1 (by simpa using h2)
  exact region_draw h4 h5 hm (by rw [h6]; exact h3)
/-! what simp is to know -/
variable {sl : List (Nat × V)} {hp : List (Nat × Blk)} {nx nt : Nat} {ops : Array Oper}
def dfin (g : Option Bool) (ok : Bool) (r : Option (V × Eff)) (rd : List Nat) (d : Option Nat) (s : SS) : Option (SS × Option Nat × List Nat) :=
  match g with
  | some true => if ok then r.bind fun p => if noApp p.2 then some (s.put d p.1 p.2, tgE p.2, rd ++ crE p.2 s.nx) else none else none
  | some false => some (s.put d (.tu []) .none, none, [])
  | none => none
@[go_sem] theorem dfin_none (x : V) (rd : List Nat) (d : Option Nat) (s : SS) : dfin (some true) true (some (x, .none)) rd d s = some (s.put d x .none, none, rd ++ []) := rfl
@[go_sem] theorem dfin_new (x : V) (k : Blk) (rd : List Nat) (d : Option Nat) (s : SS) : dfin (some true) true (some (x, .new k)) rd d s = some (s.put d x (.new k), none, rd ++ [s.nx]) := rfl
@[go_sem] theorem dfin_set (x : V) (id : Nat) (k : Blk) (rd : List Nat) (d : Option Nat) (s : SS) : dfin (some true) true (some (x, .set id k)) rd d s = some (s.put d x (.set id k), some id, rd ++ []) := rfl
@[go_sem] theorem dfin_app (x : V) (id : Nat) (k : Blk) (rd : List Nat) (d : Option Nat) (s : SS) : dfin (some true) true (some (x, .app id k)) rd d s = some (s.put d x (.app id k), some id, rd ++ [s.nx]) := rfl
@[go_sem] theorem dfin_no (ok : Bool) (r : Option (V × Eff)) (rd : List Nat) (d : Option Nat) (s : SS) : dfin (some false) ok r rd d s = some (s.put d (.tu []) .none, none, []) := rfl
@[go_sem] theorem drun_mk (d : Option Tmp) (op : Op) (ty : TypeId) (pos : String) (after : Array Edge) (gd : Option (Nat × Bool)) :
    drun P ops ⟨sl, hp, nx, nt⟩ ⟨d, op, ty, pos, after, gd⟩ = if dstOk d nt = true then dfin (guardV ops sl gd) (okOp op) (exOp P sl hp nx op) (rdOf sl op) d ⟨sl, hp, nx, nt⟩ else none := rfl
@[go_sem] theorem idOf_pt (id off : Nat) : idOf (.pt id off) = [id] := rfl
@[go_sem] theorem idOf_sc (v : Value) : idOf (.sc v) = [] := rfl
@[go_sem] theorem idOf_ag (l : List V) : idOf (.ag l) = [] := rfl
@[go_sem] theorem idOf_tu (l : List V) : idOf (.tu l) = [] := rfl
@[go_sem] theorem idOf_sl (a b c d : Nat) (e : Option Nat) : idOf (.sl a b c d e) = [] := rfl
@[go_sem] theorem idOf_im (l : List V) (n : Nat) : idOf (.im l n) = [] := rfl
@[go_sem] theorem idOf_pi (l : List V) : idOf (.pi l) = [] := rfl
@[go_sem] theorem nx_mk : SS.nx ⟨sl, hp, nx, nt⟩ = nx := rfl
@[go_sem] theorem rdOf_load (t : Nat) (a : Operand) : rdOf sl (.load t a) = idOf (evS sl a) := rfl
@[go_sem] theorem rdOf_slice (t : Nat) (x : Operand) (a b c : Option Operand) : rdOf sl (.slice t x a b c) = idOf (evS sl x) := rfl
@[go_sem] theorem rdOf_store (t : Nat) (a x : Operand) : rdOf sl (.store t a x) = idOf (evS sl a) := rfl
@[go_sem] theorem rdOf_move (x : Operand) : rdOf sl (.move x) = [] := rfl
@[go_sem] theorem rdOf_assign (x : Operand) : rdOf sl (.assign x) = [] := rfl
@[go_sem] theorem rdOf_pick (a b c : Operand) : rdOf sl (.pick a b c) = [] := rfl
@[go_sem] theorem rdOf_alloc (t : Nat) : rdOf sl (.alloc t) = [] := rfl
@[go_sem] theorem rdOf_box (t : Nat) (x : Operand) : rdOf sl (.box t x) = [] := rfl
@[go_sem] theorem rdOf_build (t : Nat) (l : Array (Nat × Operand)) : rdOf sl (.build t l) = [] := rfl
@[go_sem] theorem rdOf_buildSlice (t n : Nat) (l : Array (Nat × Operand)) : rdOf sl (.buildSlice t n l) = [] := rfl
@[go_sem] theorem rdOf_nilCheck (x : Operand) : rdOf sl (.nilCheck x) = [] := rfl
@[go_sem] theorem rdOf_bin (o : BinOp) (t : Nat) (x y : Operand) (u : Nat) : rdOf sl (.binOp o t x y u) = [] := rfl
@[go_sem] theorem rdOf_un (o : UnOp) (t : Nat) (x : Operand) : rdOf sl (.unOp o t x) = [] := rfl
@[go_sem] theorem rdOf_conv (a b : Nat) (x : Operand) : rdOf sl (.convert a b x) = idOfS (evS sl x) := rfl
@[go_sem] theorem idOfS_sc (v : Value) : idOfS (.sc v) = [] := rfl
@[go_sem] theorem idOfS_sl (a b c d : Nat) (e : Option Nat) : idOfS (.sl a b c d e) = [a] := rfl
@[go_sem] theorem idOfS_im (l : List V) (n : Nat) : idOfS (.im l n) = [] := rfl
@[go_sem] theorem rdOf_makeFunc (f : Fn) (p q : Array Operand) : rdOf sl (.makeFunc f p q) = [] := rfl
@[go_sem] theorem rdOf_makeSlice (t : Nat) (l c : Operand) : rdOf sl (.makeSlice t l c) = [] := rfl
@[go_sem] theorem rdOf_fieldAddr (t : Nat) (x : Operand) (f : Nat) : rdOf sl (.fieldAddr t x f) = [] := rfl
@[go_sem] theorem rdOf_field (t : Nat) (x : Operand) (f : Nat) : rdOf sl (.field t x f) = [] := rfl
@[go_sem] theorem rdOf_indexAddr (t : Nat) (x i : Operand) : rdOf sl (.indexAddr t x i) = [] := rfl
@[go_sem] theorem rdOf_index (t : Nat) (x i : Operand) : rdOf sl (.index t x i) = [] := rfl
@[go_sem] theorem rdOf_extract (t : Operand) (i : Nat) : rdOf sl (.extract t i) = [] := rfl
@[go_sem] theorem rdOf_len (args : Array Operand) (ts : Array TypeId) : rdOf sl (.call ⟨.builtin .len, args, ts⟩) = [] := rfl
@[go_sem] theorem rdOf_min (args : Array Operand) (ts : Array TypeId) : rdOf sl (.call ⟨.builtin .min, args, ts⟩) = [] := rfl
@[go_sem] theorem rdOf_max (args : Array Operand) (ts : Array TypeId) : rdOf sl (.call ⟨.builtin .max, args, ts⟩) = [] := rfl
@[go_sem] theorem rdOf_callV (f : Operand) (args : Array Operand) (ts : Array TypeId) : rdOf sl (.call ⟨.value f, args, ts⟩) = [] := rfl
@[go_sem] theorem okOp_load (t : Nat) (a : Operand) : okOp (.load t a) = true := rfl
@[go_sem] theorem okOp_slice (t : Nat) (x : Operand) (a b c : Option Operand) : okOp (.slice t x a b c) = true := rfl
@[go_sem] theorem okOp_store (t : Nat) (a x : Operand) : okOp (.store t a x) = true := rfl
@[go_sem] theorem okOp_move (x : Operand) : okOp (.move x) = true := rfl
@[go_sem] theorem okOp_assign (x : Operand) : okOp (.assign x) = true := rfl
@[go_sem] theorem okOp_pick (a b c : Operand) : okOp (.pick a b c) = true := rfl
@[go_sem] theorem okOp_alloc (t : Nat) : okOp (.alloc t) = true := rfl
@[go_sem] theorem okOp_box (t : Nat) (x : Operand) : okOp (.box t x) = true := rfl
@[go_sem] theorem okOp_build (t : Nat) (l : Array (Nat × Operand)) : okOp (.build t l) = true := rfl
@[go_sem] theorem okOp_buildSlice (t n : Nat) (l : Array (Nat × Operand)) : okOp (.buildSlice t n l) = true := rfl
@[go_sem] theorem okOp_nilCheck (x : Operand) : okOp (.nilCheck x) = true := rfl
@[go_sem] theorem okOp_bin (o : BinOp) (t : Nat) (x y : Operand) (u : Nat) : okOp (.binOp o t x y u) = true := rfl
@[go_sem] theorem okOp_un (o : UnOp) (t : Nat) (x : Operand) : okOp (.unOp o t x) = true := rfl
@[go_sem] theorem okOp_conv (a b : Nat) (x : Operand) : okOp (.convert a b x) = true := rfl
@[go_sem] theorem okOp_makeFunc (f : Fn) (p q : Array Operand) : okOp (.makeFunc f p q) = true := rfl
@[go_sem] theorem okOp_makeSlice (t : Nat) (l c : Operand) : okOp (.makeSlice t l c) = true := rfl
@[go_sem] theorem okOp_fieldAddr (t : Nat) (x : Operand) (f : Nat) : okOp (.fieldAddr t x f) = true := rfl
@[go_sem] theorem okOp_field (t : Nat) (x : Operand) (f : Nat) : okOp (.field t x f) = true := rfl
@[go_sem] theorem okOp_indexAddr (t : Nat) (x i : Operand) : okOp (.indexAddr t x i) = true := rfl
@[go_sem] theorem okOp_index (t : Nat) (x i : Operand) : okOp (.index t x i) = true := rfl
@[go_sem] theorem okOp_extract (t : Operand) (i : Nat) : okOp (.extract t i) = true := rfl
@[go_sem] theorem okOp_len (args : Array Operand) (ts : Array TypeId) : okOp (.call ⟨.builtin .len, args, ts⟩) = true := rfl
@[go_sem] theorem okOp_app (args : Array Operand) (ts : Array TypeId) : okOp (.call ⟨.builtin .append, args, ts⟩) = true := rfl
@[go_sem] theorem rdOf_app (x y : Operand) (ts : Array TypeId) : rdOf sl (.call ⟨.builtin .append, #[x, y], ts⟩) = idOfS (evS sl x) ++ (idOfS (evS sl y) ++ []) := rfl
@[go_sem] theorem okOp_min (args : Array Operand) (ts : Array TypeId) : okOp (.call ⟨.builtin .min, args, ts⟩) = true := rfl
@[go_sem] theorem okOp_max (args : Array Operand) (ts : Array TypeId) : okOp (.call ⟨.builtin .max, args, ts⟩) = true := rfl
attribute [go_sem] List.append_nil
end
end Go.Proofs.YtpodnbcdddcdmaaGreatDoor

/- Own blocks renumbered, for the heads of loops. -/
namespace Go.Proofs.YtpodnbcdddcdmaaGreatDoor
open Go.RowKit
mutual
/-- the numbers of own blocks renamed -/
def V.ren (f : Nat → Nat) : V → V
  | .sc v => .sc v
  | .ag cs => .ag (V.renL f cs)
  | .tu cs => .tu (V.renL f cs)
  | .pt id off => .pt (f id) off
  | .sl id off len z cap => .sl (f id) off len z cap
  | .im cs len => .im cs len
  | .pi cs => .pi cs
  | .fn g p q => .fn g (V.renL f p) (V.renL f q)
  | .junk => .junk
def V.renL (f : Nat → Nat) : List V → List V
  | [] => []
  | x :: r => V.ren f x :: V.renL f r
end
section
variable (f : Nat → Nat)
@[go_sem] theorem ren_sc (v : Value) : V.ren f (.sc v) = .sc v := by simp [V.ren]
@[go_sem] theorem ren_ag (cs : List V) : V.ren f (.ag cs) = .ag (V.renL f cs) := by simp [V.ren]
@[go_sem] theorem ren_tu (cs : List V) : V.ren f (.tu cs) = .tu (V.renL f cs) := by simp [V.ren]
@[go_sem] theorem ren_pt (id off : Nat) : V.ren f (.pt id off) = .pt (f id) off := by simp [V.ren]
@[go_sem] theorem ren_sl (id off len z : Nat) (cap : Option Nat) : V.ren f (.sl id off len z cap) = .sl (f id) off len z cap := by simp [V.ren]
@[go_sem] theorem ren_im (cs : List V) (len : Nat) : V.ren f (.im cs len) = .im cs len := by simp [V.ren]
@[go_sem] theorem ren_pi (cs : List V) : V.ren f (.pi cs) = .pi cs := by simp [V.ren]
@[go_sem] theorem ren_fn (g : Fn) (p q : List V) : V.ren f (.fn g p q) = .fn g (V.renL f p) (V.renL f q) := by simp [V.ren]
@[go_sem] theorem ren_junk : V.ren f .junk = .junk := by simp [V.ren]
@[go_sem] theorem renL_nil : V.renL f [] = [] := by simp [V.renL]
@[go_sem] theorem renL_cons (x : V) (r : List V) : V.renL f (x :: r) = V.ren f x :: V.renL f r := by simp [V.renL]
theorem renL_get : ∀ (cs : List V) (i : Nat), (V.renL f cs)[i]? = cs[i]?.map (V.ren f)
  | [], i => by simp [V.renL]
  | x :: r, 0 => by simp [V.renL]
  | x :: r, i + 1 => by simp [V.renL, renL_get r i]
theorem renL_len (cs : List V) : (V.renL f cs).length = cs.length := by
  induction cs with
  | nil => simp [V.renL]
  | cons x r ih => simp [V.renL, ih]
theorem renL_app (a b : List V) : V.renL f (a ++ b) = V.renL f a ++ V.renL f b := by
  induction a with
  | nil => simp [V.renL]
  | cons x r ih => simp [V.renL, ih]
theorem renL_map_sc (l : List Value) : V.renL f (l.map .sc) = l.map .sc := by
  induction l with
  | nil => simp [V.renL]
  | cons x r ih => simp [V.renL, V.ren, ih]
end
def renS (f : Nat → Nat) (sl : List (Nat × V)) : List (Nat × V) := sl.map fun p => (p.1, p.2.ren f)
def renH (f : Nat → Nat) (hp : List (Nat × Blk)) : List (Nat × Blk) := hp.map fun p => (f p.1, ⟨p.2.ty, V.renL f p.2.cs, p.2.fz⟩)
def bren (f : Nat → Nat) : Option Blk → Option Blk
  | some k => some ⟨k.ty, V.renL f k.cs, k.fz⟩
  | none => none
@[go_sem] theorem bren_some (f : Nat → Nat) (ty : Nat) (cs : List V) (fz : Bool) : bren f (some ⟨ty, cs, fz⟩) = some ⟨ty, V.renL f cs, fz⟩ := rfl
@[go_sem] theorem bren_none (f : Nat → Nat) : bren f none = none := rfl
@[go_sem] theorem get_ren (f : Nat → Nat) (sl : List (Nat × V)) (t : Nat) : get (renS f sl) t = (get sl t).ren f := by
  induction sl with
  | nil => simp [renS, get, V.ren]
  | cons p r ih =>
    obtain ⟨k, x⟩ := p
    simp only [renS, List.map_cons, get] at ih ⊢
    split
    · rfl
    · exact ih
theorem hget_ren {f : Nat → Nat} (hf : ∀ i, f (f i) = i) (hp : List (Nat × Blk)) (id : Nat) : hget (renH f hp) id = bren f (hget hp (f id)) := by
  induction hp with
  | nil => rfl
  | cons p r ih =>
    obtain ⟨k, x⟩ := p
    simp only [renH, List.map_cons, hget] at ih ⊢
    by_cases h : id = f k
    · subst h; rw [if_pos rfl, hf, if_pos rfl]; rfl
    · rw [if_neg h, if_neg (fun e => h (by rw [← e, hf]))]; exact ih
theorem R.ren {S : Nat → Prop} {rho : Nat → Nat} {w : World} {f : Nat → Nat} (hf : ∀ i, f (f i) = i) {A : Nat → Prop} {x : V} {v : Value} (h : R S rho w A x v) : R S (fun i => rho (f i)) w (fun i => A (f i)) (x.ren f) v := by
  have lift : ∀ {cs : List V} {vs : Array Value} {A : Nat → Prop}, (∀ (i : Nat) (x : V) (u : Value), cs[i]? = some x → vs[i]? = some u → R S (fun i => rho (f i)) w (fun i => A (f i)) (x.ren f) u) →
      ∀ (i : Nat) (x : V) (u : Value), (V.renL f cs)[i]? = some x → vs[i]? = some u → R S (fun i => rho (f i)) w (fun i => A (f i)) x u := by
    intro cs vs A h i x u hx hu
    rw [renL_get] at hx
    cases hc : cs[i]? with
    | none => rw [hc] at hx; cases hx
    | some y => rw [hc] at hx; cases hx; exact h i y u hc hu
  have clo : ∀ {cs : List V} {g : Nat → Value} {a : Nat → Option Addr}, (∀ (i : Nat) (x : V), cs[i]? = some x → R S rho w (fun _ => False) x (g i)) → ∀ (i : Nat) (x : V), cs[i]? = some x → R S (fun i => rho (f i)) w (fun _ => False) x (g i) :=
    fun h i x hx => (h i x hx).mono (fun _ h => ⟨h, rfl⟩) (fun _ h => h.elim)
  induction h with
  | sc v => rw [ren_sc]; exact .sc v
  | junk v => rw [ren_junk]; exact .junk v
  | ag h _ ih => rw [ren_ag]; exact .ag (by rw [renL_len, h]) (lift ih)
  | tu h _ ih => rw [ren_tu]; exact .tu (by rw [renL_len, h]) (lift ih)
  | @pt A id off h =>
    rw [ren_pt]
    have := R.pt (S := S) (rho := fun i => rho (f i)) (w := w) (A := fun i => A (f i)) (id := f id) (off := off) (by rw [hf]; exact h)
    simpa only [hf] using this
  | @sl A id off len z c cap h hl hm hc hz =>
    rw [ren_sl]
    have := R.sl (S := S) (rho := fun i => rho (f i)) (w := w) (A := fun i => A (f i)) (id := f id) (off := off) (len := len) (z := z) (c := c) (cap := cap) (by rw [hf]; exact h) hl hm hc (by rw [hf]; exact hz)
    simpa only [hf] using this
  | sln h => rw [ren_sl]; exact .sln h
  | im0 a b c => rw [ren_im]; exact .im0 a b c
  | im1 g a b c d e => rw [ren_im]; exact .im1 g a b c d fun i x hx => (e i x hx).mono (fun _ h => ⟨h, rfl⟩) (fun _ h => h.elim)
  | pi g a c e => rw [ren_pi]; exact .pi g a c fun i x hx => (e i x hx).mono (fun _ h => ⟨h, rfl⟩) (fun _ h => h.elim)
  | fn hp hq _ _ i1 i2 => rw [ren_fn]; exact .fn (by rw [renL_len, hp]) (by rw [renL_len, hq]) (lift i1) (lift i2)
def swp (a b i : Nat) : Nat := if i = a then b else if i = b then a else i
@[go_sem] theorem swp_eq (a b i : Nat) : swp a b i = if i = a then b else if i = b then a else i := rfl
theorem swp_swp (a b i : Nat) : swp a b (swp a b i) = i := by
  unfold swp
  repeat' split
  all_goals omega
@[go_sem] theorem hget_swp (a b : Nat) (hp : List (Nat × Blk)) (id : Nat) : hget (renH (swp a b) hp) id = bren (swp a b) (hget hp (swp a b id)) := hget_ren (swp_swp a b) hp id
theorem Le.swap {B : Base} {s' : SS} {sl : List (Nat × V)} {hp : List (Nat × Blk)} {nx nt : Nat} (a b : Nat) {m : Nat} (hB : B.Old m) (ha : m ≤ a ∧ a < nx) (hb : m ≤ b ∧ b < nx) (h : Le B ⟨renS (swp a b) sl, renH (swp a b) hp, nx, nt⟩ s') : Le B ⟨sl, hp, nx, nt⟩ s' := by
  intro S rho A c w hr
  refine h S (fun i => rho (swp a b i)) (fun i => A (swp a b i)) c w ⟨fun t => ?_, ?_, fun id hid => ?_, hr.nt, hr.defs⟩
  · show R _ _ _ _ (get (renS (swp a b) sl) t) _
    rw [get_ren]; exact (hr.slots t).ren (swp_swp a b)
  · have hm := hr.mem
    have g : ∀ {id k}, hget (renH (swp a b) hp) id = some k → ∃ k0, hget hp (swp a b id) = some k0 ∧ k = ⟨k0.ty, V.renL (swp a b) k0.cs, k0.fz⟩ := by
      intro id k h
      rw [hget_swp] at h
      cases hk : hget hp (swp a b id) with
      | none => rw [hk] at h; cases h
      | some k0 => rw [hk] at h; cases h; exact ⟨k0, rfl, rfl⟩
    have fixK : ∀ id, B.K id → swp a b id = id := by
      intro id h
      have := hB id h
      unfold swp
      rw [if_neg (by omega), if_neg (by omega)]
    exact {
      cells := fun id k hk ha => by
        obtain ⟨k0, e, rfl⟩ := g hk
        obtain ⟨cells, c1, c2⟩ := hm.cells _ k0 e ha
        refine ⟨cells, c1, fun i x hx => ?_⟩
        have hx' : (V.renL (swp a b) k0.cs)[i]? = some x := hx
        rw [renL_get] at hx'
        cases hc : k0.cs[i]? with
        | none => rw [hc] at hx'; cases hx'
        | some y =>
          rw [hc] at hx'; cases hx'
          obtain ⟨u, hu, hr⟩ := c2 i y hc
          exact ⟨u, hu, hr.ren (swp_swp a b)⟩
      fz := fun id k hk ha hf => by
        obtain ⟨k0, e, rfl⟩ := g hk
        exact hm.fz _ k0 e ha hf
      own := fun id k hk ha => by
        obtain ⟨k0, e, rfl⟩ := g hk
        exact hm.own _ k0 e ha
      inj := fun id id' k k' hk hk' ha ha' he => by
        obtain ⟨k0, e, rfl⟩ := g hk
        obtain ⟨k0', e', rfl⟩ := g hk'
        have := hm.inj _ _ k0 k0' e e' ha ha' he
        rw [← swp_swp a b id, this, swp_swp]
      slt := hm.slt
      sub := hm.sub
      base := hm.base
      frame := hm.frame
      keep := fun id h => by rw [fixK id h]; exact hm.keep id h }
  · have : swp a b id < nx := hr.alt _ hid
    unfold swp at this
    show id < nx
    split at this
    · omega
    · split at this <;> omega
def pick2 (t : Bool) (x y : Code) : Code := bif t then x else y
theorem SC.condB {P : Program} {B : Base} {c : Operand} {x y : Code} {cs : List Code} {Q : Exit → SS → Prop} {s : SS} {t : Bool} (hc : evS s.sl c = .sc (.bool t)) (h : SC P B (pick2 t x y :: cs) Q s) : SC P B (.cond c x y :: cs) Q s :=
  SC.cond hc (fun e => by subst e; exact h) (fun e => by subst e; exact h)
theorem pickT {P : Program} {B : Base} {x y : Code} {cs : List Code} {Q : Exit → SS → Prop} {s : SS} (h : SC P B (x :: cs) Q s) : SC P B (pick2 true x y :: cs) Q s := h
theorem pickA {P : Program} {B : Base} {x y : Code} {cs : List Code} {Q : Exit → SS → Prop} {s : SS} {t : Bool} (h : SC P B (pick2 t x y :: cs) Q s) : SC P B (pick2 t x y :: cs) Q s := h
theorem pickF {P : Program} {B : Base} {x y : Code} {cs : List Code} {Q : Exit → SS → Prop} {s : SS} (h : SC P B (y :: cs) Q s) : SC P B (pick2 false x y :: cs) Q s := h
@[go_sem] theorem repl0 {α : Type} (x : α) : List.replicate 0 x = [] := rfl
@[go_sem] theorem repl1 {α : Type} (x : α) : List.replicate 1 x = [x] := rfl
@[go_sem] theorem repl2 {α : Type} (x : α) : List.replicate 2 x = [x, x] := rfl
@[go_sem] theorem repl3 {α : Type} (x : α) : List.replicate 3 x = [x, x, x] := rfl
@[go_sem] theorem repl4 {α : Type} (x : α) : List.replicate 4 x = [x, x, x, x] := rfl
@[go_sem] theorem repl5 {α : Type} (x : α) : List.replicate 5 x = [x, x, x, x, x] := rfl
@[go_sem] theorem repl6 {α : Type} (x : α) : List.replicate 6 x = [x, x, x, x, x, x] := rfl
@[go_sem] theorem repl7 {α : Type} (x : α) : List.replicate 7 x = [x, x, x, x, x, x, x] := rfl
@[go_sem] theorem repl8 {α : Type} (x : α) : List.replicate 8 x = [x, x, x, x, x, x, x, x] := rfl
@[go_sem] theorem repl9 {α : Type} (x : α) : List.replicate 9 x = [x, x, x, x, x, x, x, x, x] := rfl
@[go_sem] theorem repl10 {α : Type} (x : α) : List.replicate 10 x = [x, x, x, x, x, x, x, x, x, x] := rfl
@[go_sem] theorem repl11 {α : Type} (x : α) : List.replicate 11 x = [x, x, x, x, x, x, x, x, x, x, x] := rfl
@[go_sem] theorem repl12 {α : Type} (x : α) : List.replicate 12 x = [x, x, x, x, x, x, x, x, x, x, x, x] := rfl
@[go_sem] theorem repl13 {α : Type} (x : α) : List.replicate 13 x = [x, x, x, x, x, x, x, x, x, x, x, x, x] := rfl
@[go_sem] theorem repl14 {α : Type} (x : α) : List.replicate 14 x = [x, x, x, x, x, x, x, x, x, x, x, x, x, x] := rfl
@[go_sem] theorem repl15 {α : Type} (x : α) : List.replicate 15 x = [x, x, x, x, x, x, x, x, x, x, x, x, x, x, x] := rfl
@[go_sem] theorem repl16 {α : Type} (x : α) : List.replicate 16 x = [x, x, x, x, x, x, x, x, x, x, x, x, x, x, x, x] := rfl
@[go_sem] theorem repl17 {α : Type} (x : α) : List.replicate 17 x = [x, x, x, x, x, x, x, x, x, x, x, x, x, x, x, x, x] := rfl
@[go_sem] theorem repl64 {α : Type} (x : α) : List.replicate 64 x = [x, x, x, x, x, x, x, x, x, x, x, x, x, x, x, x, x, x, x, x, x, x, x, x, x, x, x, x, x, x, x, x, x, x, x, x, x, x, x, x, x, x, x, x, x, x, x, x, x, x, x, x, x, x, x, x, x, x, x, x, x, x, x, x] := rfl
@[go_sem] theorem bb_ff : (false == false) = true := rfl
@[go_sem] theorem bb_tt : (true == true) = true := rfl
@[go_sem] theorem bb_ft : (false == true) = false := rfl
@[go_sem] theorem bb_tf : (true == false) = false := rfl
@[go_sem] theorem bb_nt : (!true) = false := rfl
@[go_sem] theorem bb_nf : (!false) = true := rfl
theorem SO.nilq {P : Program} {B : Base} {ops : Array Oper} {l : List Oper} {cs' : List Code} {Q : Exit → SS → Prop} {s : SS} {d : Option Tmp} {t ty : TypeId} {x y : Operand} {u : TypeId} {pos : String} {after : Array Edge} {gd : Option (Nat × Bool)} {cs : List V} {n : Nat}
    (hT : isSl P t = true) (hx : evS s.sl x = .im cs n) (hy : evS s.sl y = .sc (.slice none 0 0)) (hg : guardV ops s.sl gd = some true ∧ dstOk d s.nt = true)
    (k : ∀ b, SO P B ops l cs' Q (s.put d (.sc (.bool b)) .none)) : SO P B ops (⟨d, .binOp .eql t x y u, ty, pos, after, gd⟩ :: l) cs' Q s := by
  intro S rho A a w hr
  have hw := guard_sound (o := ⟨d, .binOp .eql t x y u, ty, pos, after, gd⟩) hr.slots hg.1
  refine wpList_step fun K hK => ?_
  rw [if_pos hw]
  have h1 := ev_sound hr.mem.tab hr.slots x
  have h2 := ev_sound hr.mem.tab hr.slots y
  rw [hx] at h1
  rw [hy] at h2
  obtain ⟨ad, m, c, e1⟩ : ∃ ad m c, a.eval x = .slice ad m c := by
    generalize a.eval x = v at h1
    cases h1 with
    | im0 => exact ⟨_, _, _, rfl⟩
    | im1 => exact ⟨_, _, _, rfl⟩
  have e2 : a.eval y = .slice none 0 0 := by
    generalize a.eval y = v at h2
    cases h2; rfl
  have hO : OutN B S rho A s.hp s.nx w ((execOp a.eval ⟨d, .binOp .eql t x y u, ty, pos, after, gd⟩).run P w) (.sc (.bool ad.isNone)) .none := by
    refine OutN.of hr.mem ?_
    rw [e1, e2]
    exact nil_sound hT rfl rfl
  obtain ⟨v, w', rho', A', g1, g2, g3, g4, g5, g6⟩ := hO
  have := hK _ _ (k ad.isNone S rho' A' (a.put d v) w' (hr.put hg.2 g2 g3 g4 g5 g6))
  unfold Oper.wp
  rcases g1 with g1 | ⟨g1, rfl⟩ <;> rw [g1] <;> exact this
end Go.Proofs.YtpodnbcdddcdmaaGreatDoor

/- Numbers in symbolic runs: wrapping, division, shifts, bits. -/
namespace Go.Proofs.YtpodnbcdddcdmaaGreatDoor
open Go.RowKit
@[go_sem high] theorem wi64 (n : Int) (h1 : -9223372036854775808 ≤ n) (h2 : n ≤ 9223372036854775807) : IntKind.i64.wrap n = n := IntWalk.i64_in n ⟨h1, h2⟩
@[go_sem high] theorem wi32 (n : Int) (h1 : -2147483648 ≤ n) (h2 : n ≤ 2147483647) : IntKind.i32.wrap n = n := IntWalk.i32_in n ⟨h1, h2⟩
@[go_sem high] theorem wi8 (n : Int) (h1 : -128 ≤ n) (h2 : n ≤ 127) : IntKind.i8.wrap n = n := IntWalk.i8_in n ⟨h1, h2⟩
@[go_sem high] theorem wu64 (n : Int) (h1 : 0 ≤ n) (h2 : n ≤ 18446744073709551615) : IntKind.u64.wrap n = n := IntWalk.u64_in n ⟨h1, h2⟩
@[go_sem high] theorem wu32 (n : Int) (h1 : 0 ≤ n) (h2 : n ≤ 4294967295) : IntKind.u32.wrap n = n := IntWalk.u32_in n ⟨h1, h2⟩
@[go_sem high] theorem wu16 (n : Int) (h1 : 0 ≤ n) (h2 : n ≤ 65535) : IntKind.u16.wrap n = n := IntWalk.u16_in n ⟨h1, h2⟩
@[go_sem high] theorem wu8 (n : Int) (h1 : 0 ≤ n) (h2 : n ≤ 255) : IntKind.u8.wrap n = n := IntWalk.u8_in n ⟨h1, h2⟩
@[go_sem low] theorem wu32m (n : Int) : IntKind.u32.wrap n = n % 4294967296 := IntKind.wrap_u32 n
@[go_sem low] theorem wu8m (n : Int) : IntKind.u8.wrap n = n % 256 := IntKind.wrap_u8 n
@[go_sem] theorem tmod_nn (x y : Int) (h : 0 ≤ x) : x.tmod y = x % y := Int.tmod_eq_emod_of_nonneg h
@[go_sem] theorem tdiv_nn (x y : Int) (h : 0 ≤ x) : x.tdiv y = x / y := Int.tdiv_eq_ediv_of_nonneg h
@[go_sem] theorem bits_u64 : IntKind.u64.bits = 64 := rfl
@[go_sem] theorem bits_i64 : IntKind.i64.bits = 64 := rfl
@[go_sem] theorem bits_u32 : IntKind.u32.bits = 32 := rfl
@[go_sem] theorem bits_u8 : IntKind.u8.bits = 8 := rfl
theorem fdiv_pow (x : Int) (k : Nat) : x.fdiv (2 ^ k) = x / 2 ^ k := Int.fdiv_eq_ediv_of_nonneg _ (Int.le_of_lt (Int.pow_pos (by omega)))
attribute [go_sem] fdiv_pow
@[go_sem] theorem and1_u64 (n : Int) (h0 : 0 ≤ n) (h1 : n ≤ 18446744073709551615) : bits .and .u64 n 1 = n % 2 := and_one_u64 n h0 h1
end Go.Proofs.YtpodnbcdddcdmaaGreatDoor

/- Calls that share their caller's own blocks; function values. -/
namespace Go.Proofs.YtpodnbcdddcdmaaGreatDoor
open Go.RowKit
section
variable {P : Program} {w : World} {B : Base} {S : Nat → Prop} {rho : Nat → Nat} {A : Nat → Prop} {s : SS} {a : Act}
def Base.inner (S : Nat → Prop) (rho : Nat → Nat) (A : Nat → Prop) (hp : List (Nat × Blk)) (w : World) : Base := ⟨w, S, A, rho, fun b => ∃ id k, hget hp id = some k ∧ A id ∧ rho id = b, []⟩
theorem Mem.inner {hp : List (Nat × Blk)} (h : Mem B S rho A hp w) : Mem (Base.inner S rho A hp w) S rho A hp w where
  cells := h.cells
  fz := h.fz
  own id k hk ha := .inr ⟨id, k, hk, ha, rfl⟩
  inj := h.inj
  slt := h.slt
  sub _ hb := hb
  base _ hb := .inl hb
  frame := ⟨rfl, rfl, rfl, Nat.le_refl _, fun _ _ _ => rfl, fun _ _ => rfl, fun _ _ h => h, h.slt, h.tab⟩
  keep _ h := ⟨h, rfl⟩
theorem Mem.back {hp hp' : List (Nat × Blk)} {w' : World} {S' : Nat → Prop} {rho' : Nat → Nat} {A' : Nat → Prop} (h : Mem B S rho A hp w) (k : Mem (Base.inner S rho A hp w) S' rho' A' hp' w') : Mem B S' rho' A' hp' w' := by
  have hL : ∀ b, (Base.inner S rho A hp w).L b → B.n0 ≤ b ∨ B.L b := by
    rintro b ⟨id, q, hq, ha, rfl⟩
    exact h.own id q hq ha
  have hn : ∀ b, w.heap.size ≤ b → B.n0 ≤ b := fun b hb => Nat.le_trans h.frame.size hb
  exact {
    cells := k.cells
    fz := k.fz
    own := fun id q hq ha => (k.own id q hq ha).elim (fun h => .inl (hn _ h)) (hL _)
    inj := k.inj
    slt := k.slt
    sub := fun b hb => k.sub b (h.sub b hb)
    base := fun b hb => by
      rcases k.base b hb with h1 | h1 | h1
      · exact h.base b h1
      · exact .inr (.inl (hn _ h1))
      · exact .inr (hL _ h1)
    frame := {
      os := k.frame.os.trans h.frame.os
      tape := k.frame.tape.trans h.frame.tape
      output := k.frame.output.trans h.frame.output
      size := Nat.le_trans h.frame.size k.frame.size
      block := fun b hb hl => by
        have h1 : ¬ (Base.inner S rho A hp w).L b := fun hh => by
          rcases hL b hh with h2 | h2
          · unfold Base.n0 at h2; omega
          · exact hl h2
        exact (k.frame.block b (Nat.lt_of_lt_of_le hb h.frame.size) h1).trans (h.frame.block b hb hl)
      stay := fun b hb => (k.frame.stay b (h.sub b hb)).trans (h.frame.stay b hb)
      sz := fun b n hk => k.frame.sz b n (h.frame.sz b n hk)
      lt := h.frame.lt
      tab := h.frame.tab }
    keep := fun id hid => by
      obtain ⟨h1, h2⟩ := h.keep id hid
      obtain ⟨h3, h4⟩ := k.keep id h1
      exact ⟨h3, h4.trans h2⟩ }
def vst (x : V) (hp : List (Nat × Blk)) (nx : Nat) : SS := ⟨[(0, x)], hp, nx, 1⟩
def retI (P : Program) (fn : Func) (B : Base) (x : V) (hp : List (Nat × Blk)) (nx : Nat) : Exit → SS → Prop
  | .normal, s | .ret, s => ∃ y, resV P fn s = some y ∧ Le B (vst y s.hp s.nx) (vst x hp nx)
  | _, _ => False
def Inl (P : Program) (f : Nat) (args : List V) (hp : List (Nat × Blk)) (nx : Nat) (x : V) (hp' : List (Nat × Blk)) (nx' : Nat) : Prop :=
  ∃ fn c, P.funcs[f]? = some fn ∧ fn.body = some c ∧ args.length ≤ fn.ntmps ∧ ∀ B : Base, B.Old nx → SWp P B c (retI P fn B x hp' nx') ⟨stSl 0 args, hp, nx, fn.ntmps⟩
theorem start_slots {args : List V} {vs : Array Value} {n : Nat} (h : All S rho A w args vs.toList) (t : Nat) : R S rho w A (get (stSl 0 args) t) ((⟨vs ++ Array.replicate (n - vs.size) undef, []⟩ : Act).eval (.tmp t)) := by
  rw [get_start, if_pos (Nat.zero_le _), Nat.sub_zero]
  cases ht : args[t]? with
  | none => exact .junk _
  | some y =>
    have hlt := (List.getElem?_eq_some_iff.1 ht).1
    have hlen : vs.size = args.length := by have := h.1; simpa using this.symm
    have hu : vs.toList[t]? = some (vs[t]'(by omega)) := by simp [hlen, hlt]
    have := h.2 t y _ ht hu
    have he : (⟨vs ++ Array.replicate (n - vs.size) undef, []⟩ : Act).eval (.tmp t) = vs[t]'(by omega) := by
      simp [Act.eval, Array.getElem?_append, hlen, hlt]
    rw [he]; exact this
theorem Inl.callsI {f : Nat} {args : List V} {hp hp' : List (Nat × Blk)} {nx nx' : Nat} {x : V} {vs : Array Value} (h : Inl P f args hp nx x hp' nx') (hm : Mem B S rho A hp w) (ha : ∀ id, A id → id < nx) (hv : All S rho A w args vs.toList) :
    Calls P f vs w fun e w' => ∃ v, e = .returned v ∧ ∃ S' rho' A', (∀ b, S b → S' b ∧ w'.heap[b]? = w.heap[b]?) ∧ (∀ id, A id → A' id ∧ rho' id = rho id ∧ ∀ n, szAt w (rho id) n → szAt w' (rho id) n) ∧
      Mem (Base.inner S rho A hp w) S' rho' A' hp' w' ∧ (∀ id, A' id → id < nx') ∧ R S' rho' w' A' x v := by
  obtain ⟨fn, c, hf, hb, hn, hI⟩ := h
  have hlen : vs.size = args.length := by have := hv.1; simpa using this.symm
  refine calls_of_wp hf hb (wp_mono (hI (Base.inner S rho A hp w) ha S rho A _ w ⟨start_slots hv, hm.inner, ha, ?_, rfl⟩) ?_)
  · simp; omega
  · rintro e a1 w' ⟨S', rho', A', s', hq, hr⟩
    have fin : (∃ y, resV P fn s' = some y ∧ Le (Base.inner S rho A hp w) (vst y s'.hp s'.nx) (vst x hp' nx')) → a1.defers = [] ∧ ∃ v, (results fn a1.tmps).run P w' = .ok v w' ∧ ∃ v', Ending.returned v = .returned v' ∧
        ∃ S' rho' A', (∀ b, S b → S' b ∧ w'.heap[b]? = w.heap[b]?) ∧ (∀ id, A id → A' id ∧ rho' id = rho id ∧ ∀ n, szAt w (rho id) n → szAt w' (rho id) n) ∧ Mem (Base.inner S rho A hp w) S' rho' A' hp' w' ∧ (∀ id, A' id → id < nx') ∧ R S' rho' w' A' x v' := by
      rintro ⟨y, h1, h2⟩
      obtain ⟨v, h3, h4⟩ := res_sound (P := P) hr h1
      obtain ⟨S2, rho2, A2, h5⟩ := h2 S' rho' A' ⟨#[v], []⟩ w' ⟨fun t => by
        simp only [vst, get]
        by_cases e : t = 0
        · subst e; rw [if_pos rfl]; exact h4
        · rw [if_neg e]; exact .junk _, hr.mem, hr.alt, rfl, rfl⟩
      have h6 := h5.slots 0
      refine ⟨hr.defs, v, h3, v, rfl, S2, rho2, A2, fun b hb => ⟨h5.mem.sub b hb, h5.mem.frame.stay b hb⟩, fun id hid => ?_, h5.mem, h5.alt, h6⟩
      obtain ⟨k1, k2⟩ := h5.mem.keep id hid
      exact ⟨k1, k2, fun n hn => h5.mem.frame.sz _ n hn⟩
    cases e with
    | normal => exact fin hq
    | ret => exact fin hq
    | _ => exact hq.elim
theorem Inl.calls {f : Nat} {args : List V} {hp hp' : List (Nat × Blk)} {nx nx' : Nat} {x : V} {vs : Array Value} (h : Inl P f args hp nx x hp' nx') (hm : Mem B S rho A hp w) (ha : ∀ id, A id → id < nx) (hv : All S rho A w args vs.toList) :
    Calls P f vs w fun e w' => ∃ v, e = .returned v ∧ ∃ S' rho' A', (∀ b, S b → S' b ∧ w'.heap[b]? = w.heap[b]?) ∧ (∀ id, A id → A' id ∧ rho' id = rho id ∧ ∀ n, szAt w (rho id) n → szAt w' (rho id) n) ∧
      Mem B S' rho' A' hp' w' ∧ (∀ id, A' id → id < nx') ∧ R S' rho' w' A' x v :=
  (h.callsI hm ha hv).mono fun _ _ ⟨v, h1, S', rho', A', h2, h3, h4, h5, h6⟩ => ⟨v, h1, S', rho', A', h2, h3, hm.back h4, h5, h6⟩
/-! ### a call that works on some of the own blocks -/
def hasId : List (Nat × Blk) → Nat → Bool
  | [], _ => false
  | p :: r, i => decide (i = p.1) || hasId r i
def restH : List (Nat × Blk) → List (Nat × Blk) → List (Nat × Blk)
  | [], _ => []
  | p :: r, l => if hasId l p.1 = true then restH r l else p :: restH r l
theorem hget_rest (hp l : List (Nat × Blk)) (id : Nat) : hget (restH hp l) id = if hasId l id = true then none else hget hp id := by
  induction hp with
  | nil => simp [restH, hget]
  | cons p r ih =>
    obtain ⟨i, k⟩ := p
    simp only [restH]
    by_cases h : hasId l i = true
    · rw [if_pos h, ih]
      by_cases e : id = i
      · subst e; rw [if_pos h, if_pos h]
      · simp only [hget, if_neg e]
    · rw [if_neg h]
      simp only [hget]
      by_cases e : id = i
      · subst e; rw [if_pos rfl, if_neg h, if_pos rfl]
      · rw [if_neg e, if_neg e, ih]
theorem hget_app (a b : List (Nat × Blk)) (id : Nat) : hget (a ++ b) id = match hget a id with | some k => some k | none => hget b id := by
  induction a with
  | nil => rfl
  | cons p r ih =>
    obtain ⟨i, k⟩ := p
    simp only [List.cons_append, hget]
    by_cases e : id = i
    · rw [if_pos e, if_pos e]
    · rw [if_neg e, if_neg e]; exact ih
theorem hasId_of {l : List (Nat × Blk)} {id : Nat} {k : Blk} (h : hget l id = some k) : hasId l id = true := by
  induction l with
  | nil => cases h
  | cons p r ih =>
    obtain ⟨i, q⟩ := p
    simp only [hget] at h
    by_cases e : id = i
    · simp [hasId, e]
    · rw [if_neg e] at h; simp [hasId, ih h]
inductive Only (p : Nat → Prop) : V → Prop
  | sc (v : Value) : Only p (.sc v)
  | junk : Only p .junk
  | ag {cs : List V} (h : ∀ x ∈ cs, Only p x) : Only p (.ag cs)
  | tu {cs : List V} (h : ∀ x ∈ cs, Only p x) : Only p (.tu cs)
  | pt {id off : Nat} (h : p id) : Only p (.pt id off)
  | sl {id off len z : Nat} {c : Option Nat} (h : p id) : Only p (.sl id off len z c)
  | im (cs : List V) (n : Nat) : Only p (.im cs n)
  | pi (cs : List V) : Only p (.pi cs)
  | fn {f : Fn} {a b : List V} (h1 : ∀ x ∈ a, Only p x) (h2 : ∀ x ∈ b, Only p x) : Only p (.fn f a b)
theorem R.only {p : Nat → Prop} {x : V} {v : Value} {A' : Nat → Prop} (h : R S rho w A x v) (ho : Only p x) (hp : ∀ id, p id → A id → A' id) : R S rho w A' x v := by
  induction h generalizing A' with
  | sc v => exact .sc v
  | junk v => exact .junk v
  | ag h _ ih => cases ho with | ag ho => exact .ag h fun i x u h1 h2 => ih i x u h1 h2 (ho x (List.mem_of_getElem? h1)) hp
  | tu h _ ih => cases ho with | tu ho => exact .tu h fun i x u h1 h2 => ih i x u h1 h2 (ho x (List.mem_of_getElem? h1)) hp
  | pt h => cases ho with | pt ho => exact .pt (hp _ ho h)
  | sl h hl hm hc hz => cases ho with | sl ho => exact .sl (hp _ ho h) hl hm hc hz
  | sln h => exact .sln h
  | im0 hl hm ha => exact .im0 hl hm ha
  | im1 f hl hm hs hc hx _ => exact .im1 f hl hm hs hc hx
  | pi f hs hc hx _ => exact .pi f hs hc hx
  | fn hp' hq _ _ i1 i2 => cases ho with | fn h1 h2 => exact .fn hp' hq (fun i x u a b => i1 i x u a b (h1 x (List.mem_of_getElem? a)) hp) (fun i x u a b => i2 i x u a b (h2 x (List.mem_of_getElem? a)) hp)
def OnlyH (p : Nat → Prop) : List (Nat × Blk) → Prop
  | [] => True
  | q :: r => (∀ y ∈ q.2.cs, Only p y) ∧ OnlyH p r
theorem OnlyH.of {p : Nat → Prop} {l : List (Nat × Blk)} {id : Nat} {k : Blk} (h : OnlyH p l) (hk : hget l id = some k) : ∀ y ∈ k.cs, Only p y := by
  induction l with
  | nil => cases hk
  | cons q r ih =>
    obtain ⟨i, q⟩ := q
    simp only [hget] at hk
    by_cases e : id = i
    · rw [if_pos e] at hk; cases hk; exact h.1
    · rw [if_neg e] at hk; exact ih h.2 hk
def subH : List (Nat × Blk) → List (Nat × Blk) → Prop
  | [], _ => True
  | p :: r, hp => hget hp p.1 = some p.2 ∧ subH r hp
theorem subH.of {l hp : List (Nat × Blk)} (h : subH l hp) : ∀ id k, hget l id = some k → hget hp id = some k := by
  induction l with
  | nil => intro id k hk; cases hk
  | cons q r ih =>
    obtain ⟨i, q⟩ := q
    intro id k hk
    simp only [hget] at hk
    by_cases e : id = i
    · subst e; rw [if_pos rfl] at hk; cases hk; exact h.1
    · rw [if_neg e] at hk; exact ih h.2 id k hk
theorem Mem.backS {hp hpS hp' : List (Nat × Blk)} {w' : World} {S' : Nat → Prop} {rho' : Nat → Nat} {A' : Nat → Prop} (h : Mem B S rho A hp w) (hsub : ∀ id k, hget hpS id = some k → hget hp id = some k) (k : Mem (Base.inner S rho A hpS w) S' rho' A' hp' w')
    (hc : OnlyH (fun id => hasId (restH hp hpS) id = false) hp') : Mem B S' rho' (fun id => A' id ∧ (hasId (restH hp hpS) id = true → A id)) (hp' ++ restH hp hpS) w' := by
  have k0 := (h.less hsub).back k
  have hS : ∀ b, S b → S' b ∧ w'.heap[b]? = w.heap[b]? := fun b hb => ⟨k.sub b hb, k.frame.stay b hb⟩
  have hA : ∀ id, A id → (A' id ∧ (hasId (restH hp hpS) id = true → A id)) ∧ rho' id = rho id ∧ ∀ n, szAt w (rho id) n → szAt w' (rho id) n := fun id hid => ⟨⟨(k.keep id hid).1, fun _ => hid⟩, (k.keep id hid).2, fun n hn => k.frame.sz _ n hn⟩
  have hold : ∀ id q, hget (restH hp hpS) id = some q → hasId (restH hp hpS) id = true ∧ hasId hpS id = false ∧ hget hp id = some q := by
    intro id q hq
    refine ⟨hasId_of hq, ?_⟩
    rw [hget_rest] at hq
    split at hq
    · cases hq
    · rename_i hn; exact ⟨by simpa using hn, hq⟩
  -- the blocks of the rest
  have hstill : ∀ id q, hget (restH hp hpS) id = some q → A id → w'.heap[rho id]? = w.heap[rho id]? ∧ ¬ (Base.inner S rho A hpS w).L (rho id) := by
    intro id q hq ha
    obtain ⟨_, h2, h3⟩ := hold id q hq
    have hnl : ¬ (Base.inner S rho A hpS w).L (rho id) := by
      rintro ⟨i, qi, hqi, hai, he⟩
      have := h.inj i id qi q (hsub i qi hqi) h3 hai ha he
      subst this
      rw [hasId_of hqi] at h2; cases h2
    exact ⟨k.frame.block _ (h.lt h3 ha) hnl, hnl⟩
  have hcase : ∀ {P : Nat → Blk → Prop}, (∀ i q, hget hp' i = some q → P i q) → (∀ i q, hget (restH hp hpS) i = some q → P i q) → ∀ i q, hget (hp' ++ restH hp hpS) i = some q → P i q := by
    intro P h1 h2 i q hq
    rw [hget_app] at hq
    cases e : hget hp' i with
    | some k1 => rw [e] at hq; cases hq; exact h1 i _ e
    | none => rw [e] at hq; exact h2 i q hq
  have hne : ∀ i q j p, hget hp' i = some q → A' i → hget (restH hp hpS) j = some p → A j → rho' i ≠ rho j := by
    intro i q j p hi hai hj haj e
    obtain ⟨_, _, h3⟩ := hold j p hj
    rcases k.own i q hi hai with h4 | h4
    · have := h.lt h3 haj; rw [e] at h4; unfold Base.n0 at h4; exact absurd this (Nat.not_lt.2 h4)
    · rw [e] at h4; exact (hstill j p hj haj).2 h4
  exact {
    cells := by
      refine hcase (fun i q hq ha => ?_) (fun i q hq ha => ?_)
      · obtain ⟨cells, c1, c2⟩ := k0.cells i q hq ha.1
        refine ⟨cells, c1, fun j x hx => ?_⟩
        obtain ⟨u, hu, hr⟩ := c2 j x hx
        exact ⟨u, hu, hr.only (hc.of hq x (List.mem_of_getElem? hx)) fun id hid hai => ⟨hai, fun e => by rw [hid] at e; cases e⟩⟩
      · obtain ⟨h1, h2, h3⟩ := hold i q hq
        have hai := ha.2 h1
        rw [(hA i hai).2.1]
        exact (h.cells i q h3 hai).mono (hstill i q hq hai).1 hS hA
    fz := by
      refine hcase (fun i q hq ha => k0.fz i q hq ha.1) (fun i q hq ha h0 => ?_)
      obtain ⟨h1, h2, h3⟩ := hold i q hq
      have hai := ha.2 h1
      rw [(hA i hai).2.1]
      intro hs
      rcases k.base _ hs with h4 | h4 | h4
      · exact h.fz i q h3 hai h0 h4
      · have := h.lt h3 hai; unfold Base.n0 at h4; exact absurd this (Nat.not_lt.2 h4)
      · exact (hstill i q hq hai).2 h4
    own := by
      refine hcase (fun i q hq ha => k0.own i q hq ha.1) (fun i q hq ha => ?_)
      obtain ⟨h1, h2, h3⟩ := hold i q hq
      rw [(hA i (ha.2 h1)).2.1]
      exact h.own i q h3 (ha.2 h1)
    inj := by
      intro i j q p hq hp1
      refine hcase (P := fun i _ => (A' i ∧ (hasId (restH hp hpS) i = true → A i)) → (A' j ∧ (hasId (restH hp hpS) j = true → A j)) → rho' i = rho' j → i = j) (fun i q hq ha haj e => ?_) (fun i q hq ha haj e => ?_) i q hq
      · refine hcase (P := fun j _ => (A' j ∧ (hasId (restH hp hpS) j = true → A j)) → rho' i = rho' j → i = j) (fun j p hp1 haj e => k0.inj i j q p hq hp1 ha.1 haj.1 e) (fun j p hp1 haj e => ?_) j p hp1 haj e
        obtain ⟨h1, h2, h3⟩ := hold j p hp1
        have hj := haj.2 h1
        rw [(hA j hj).2.1] at e
        exact absurd e (hne i q j p hq ha.1 hp1 hj)
      · obtain ⟨h1, h2, h3⟩ := hold i q hq
        have hai := ha.2 h1
        rw [(hA i hai).2.1] at e
        refine hcase (P := fun j _ => (A' j ∧ (hasId (restH hp hpS) j = true → A j)) → rho i = rho' j → i = j) (fun j p hp1 haj e => ?_) (fun j p hp1 haj e => ?_) j p hp1 haj e
        · exact absurd e.symm (hne j p i q hp1 haj.1 hq hai)
        · obtain ⟨g1, g2, g3⟩ := hold j p hp1
          have hj := haj.2 g1
          rw [(hA j hj).2.1] at e
          exact h.inj i j q p h3 g3 hai hj e
    slt := k0.slt
    sub := k0.sub
    base := k0.base
    frame := k0.frame
    keep := fun id hid => by
      obtain ⟨h1, h2⟩ := h.keep id hid
      exact ⟨(hA id h1).1, (hA id h1).2.1.trans h2⟩ }
theorem SOps.inl {ops : Array Oper} {Q : Exit → SS → Prop} {o : Oper} {l : List Oper} {g : Operand} {f : Nat} {p q : List V} {args : Array Operand} {ts : Array TypeId} {x : V} {hp' : List (Nat × Blk)} {nx' : Nat} (ho : o.op = .call ⟨.value g, args, ts⟩) (hg : guardV ops s.sl o.guard = some true)
    (hd : dstOk o.dst s.nt = true) (hfn : fnOf (evS s.sl g) = some (f, p, q)) (hgo : isGo P f = true) (hI : Inl P f (p ++ args.toList.map (evS s.sl) ++ q) s.hp s.nx x hp' nx') (k : SOps P B ops l Q ⟨putS s.sl o.dst x, hp', nx', s.nt⟩) : SOps P B ops (o :: l) Q s := by
  intro S rho A a w hr
  have hw := guard_sound hr.slots hg
  refine wpList_step fun K hK => ?_
  rw [if_pos hw]
  obtain ⟨ps, qs, he, hps, hqs⟩ := fn_sound hfn (ev_sound hr.mem.tab hr.slots g)
  have hrun : (execOp a.eval o).run P w = .ok (.enter f (ps ++ args.map a.eval ++ qs)) w := by
    simp only [execOp, ho, resolve, he, Deferred.ofValue, Sem.run_bind, Sem.run_pure, Result.andThen_ok, invoke]
    exact callFunc_go hgo _ w
  unfold Oper.wp
  rw [hrun]
  refine (hI.calls hr.mem hr.alt (vs := ps ++ args.map a.eval ++ qs) ?_).mono ?_
  · have := (hps.append (All.ev hr.mem.tab hr.slots args.toList)).append hqs
    simpa using this
  · rintro e w' ⟨v, rfl, S', rho', A', h1, h2, h3, h4, h5⟩
    refine hK _ _ (k S' rho' A' _ _ ⟨slots_put hr.slots (by rw [hr.nt]; exact hd) h1 h2 h5, h3, h4, by rw [put_size]; exact hr.nt, by rw [put_defers]; exact hr.defs⟩)
theorem SOps.inlS {ops : Array Oper} {Q : Exit → SS → Prop} {o : Oper} {l : List Oper} {g : Operand} {f : Nat} {p q ys : List V} {args : Array Operand} {ts : Array TypeId} {x : V} {hpS hp' : List (Nat × Blk)} {nx' : Nat} (ho : o.op = .call ⟨.value g, args, ts⟩) (hg : guardV ops s.sl o.guard = some true)
    (hd : dstOk o.dst s.nt = true) (hfn : fnOf (evS s.sl g) = some (f, p, q)) (hgo : isGo P f = true) (hy : p ++ args.toList.map (evS s.sl) ++ q = ys) (hsub : subH hpS s.hp) (hI : Inl P f ys hpS s.nx x hp' nx')
    (hx : Only (fun id => hasId (restH s.hp hpS) id = false) x) (hc : OnlyH (fun id => hasId (restH s.hp hpS) id = false) hp') (k : SOps P B ops l Q ⟨putS s.sl o.dst x, hp' ++ restH s.hp hpS, nx', s.nt⟩) : SOps P B ops (o :: l) Q s := by
  intro S rho A a w hr
  have hw := guard_sound hr.slots hg
  refine wpList_step fun K hK => ?_
  rw [if_pos hw]
  obtain ⟨ps, qs, he, hps, hqs⟩ := fn_sound hfn (ev_sound hr.mem.tab hr.slots g)
  have hrun : (execOp a.eval o).run P w = .ok (.enter f (ps ++ args.map a.eval ++ qs)) w := by
    simp only [execOp, ho, resolve, he, Deferred.ofValue, Sem.run_bind, Sem.run_pure, Result.andThen_ok, invoke]
    exact callFunc_go hgo _ w
  unfold Oper.wp
  rw [hrun]
  refine (hI.callsI (hr.mem.less hsub.of) hr.alt (vs := ps ++ args.map a.eval ++ qs) ?_).mono ?_
  · have := (hps.append (All.ev hr.mem.tab hr.slots args.toList)).append hqs
    rw [hy] at this
    simpa using this
  · rintro e w' ⟨v, rfl, S', rho', A', h1, h2, h3, h4, h5⟩
    have h6 := hr.mem.backS hsub.of h3 hc
    refine hK _ _ (k S' rho' (fun id => A' id ∧ (hasId (restH s.hp hpS) id = true → A id)) _ _ ⟨slots_put hr.slots (by rw [hr.nt]; exact hd) h1 (fun id hid => ⟨⟨(h2 id hid).1, fun _ => hid⟩, (h2 id hid).2⟩) (h5.only hx fun id hid hai => ⟨hai, fun e => by rw [hid] at e; cases e⟩), h6, fun id hid => h4 id hid.1, by rw [put_size]; exact hr.nt, by rw [put_defers]; exact hr.defs⟩)
def SInl (P : Program) (B : Base) (f : Nat) (ys : List V) (d : Option Nat) (ops : Array Oper) (l : List Oper) (cs : List Code) (Q : Exit → SS → Prop) (s : SS) : Prop :=
  ∃ hpS x hp' nx', subH hpS s.hp ∧ Inl P f ys hpS s.nx x hp' nx' ∧ Only (fun id => hasId (restH s.hp hpS) id = false) x ∧ OnlyH (fun id => hasId (restH s.hp hpS) id = false) hp' ∧ SO P B ops l cs Q ⟨putS s.sl d x, hp' ++ restH s.hp hpS, nx', s.nt⟩
theorem SO.inl {ops : Array Oper} {l : List Oper} {cs : List Code} {Q : Exit → SS → Prop} {g : Operand} {f : Nat} {p q ys : List V} {args : List Operand} {ts : Array TypeId} {d : Option Tmp} {ty : TypeId} {pos : String} {after : Array Edge} {gd : Option (Nat × Bool)}
    (hfn : fnOf (evS s.sl g) = some (f, p, q)) (hgo : isGo P f = true) (hy : p ++ args.map (evS s.sl) ++ q = ys) (hg : guardV ops s.sl gd = some true ∧ dstOk d s.nt = true) (k : SInl P B f ys d ops l cs Q s) : SO P B ops (⟨d, .call ⟨.value g, args.toArray, ts⟩, ty, pos, after, gd⟩ :: l) cs Q s := by
  obtain ⟨hpS, x, hp', nx', h1, h2, h3, h4, h5⟩ := k
  exact SOps.inlS rfl hg.1 hg.2 hfn hgo (by simpa using hy) h1 h2 h3 h4 h5
theorem SInl.of {ops : Array Oper} {l : List Oper} {cs : List Code} {Q : Exit → SS → Prop} {f : Nat} {ys : List V} {d : Option Nat} {hpS hp' hp'' : List (Nat × Blk)} {nx nx' nt : Nat} {sl sl' : List (Nat × V)} {hp : List (Nat × Blk)} {x : V} (hI : Inl P f ys hpS nx x hp' nx') (hs : subH hpS hp)
    (hx : Only (fun id => hasId (restH hp hpS) id = false) x) (hc : OnlyH (fun id => hasId (restH hp hpS) id = false) hp') (h1 : putS sl d x = sl') (h2 : hp' ++ restH hp hpS = hp'') (k : SO P B ops l cs Q ⟨sl', hp'', nx', nt⟩) : SInl P B f ys d ops l cs Q ⟨sl, hp, nx, nt⟩ := by
  subst h1; subst h2; exact ⟨hpS, x, hp', nx', hs, hI, hx, hc, k⟩
def SNew (P : Program) (B : Base) (f : Nat) (ys : List V) (d : Option Nat) (ops : Array Oper) (l : List Oper) (cs : List Code) (Q : Exit → SS → Prop) (s : SS) : Prop :=
  ∃ k X, NewX P f ys k X true ∧ SO P B ops l cs Q (s.put d (X s.nx) (.new k))
theorem SO.callN {ops : Array Oper} {l : List Oper} {cs : List Code} {Q : Exit → SS → Prop} {f : Nat} {args : List Operand} {ts : Array TypeId} {d : Option Tmp} {ty : TypeId} {pos : String} {after : Array Edge} {gd : Option (Nat × Bool)} {ys : List V} {ids : List Nat}
    (hgo : isGo P f = true) (hf : frzAll (frz 8 s.hp) (args.map (evS s.sl)) = some (ys, ids)) (hg : guardV ops s.sl gd = some true ∧ dstOk d s.nt = true) (k : SNew P B f ys d ops l cs Q s) : SO P B ops (⟨d, .call ⟨.value (.func f), args.toArray, ts⟩, ty, pos, after, gd⟩ :: l) cs Q s := by
  obtain ⟨k0, X, hs, k⟩ := k
  intro S rho A a w hr
  have hw := guard_sound (o := (⟨d, .call ⟨.value (.func f), args.toArray, ts⟩, ty, pos, after, gd⟩ : Oper)) hr.slots hg.1
  refine wpList_step fun K hK => ?_
  rw [if_pos hw]
  have hall := All.ev hr.mem.tab hr.slots args
  obtain ⟨h1, h2⟩ := frzAll_sound (frz_sound hr.mem 8) hf hall
  have hmf := hr.mem.freeze ids h2
  have hrun : (execOp a.eval ⟨d, .call ⟨.value (.func f), args.toArray, ts⟩, ty, pos, after, gd⟩).run P w = .ok (.enter f (args.toArray.map a.eval)) w := by
    simp only [execOp, resolve, Act.eval, Deferred.ofValue, Sem.run_bind, Sem.run_pure, Result.andThen_ok, invoke]
    have := callFunc_go hgo (args.toArray.map a.eval) w
    simpa using this
  unfold Oper.wp
  rw [hrun]
  refine (hs.2 (addS S rho A ids) w (args.toArray.map a.eval) hmf.slt hmf.tab ⟨by have := h1.1; simpa using this, fun i y u hy hu => (h1.2 i y u hy (by simpa using hu)).rho⟩).mono ?_
  have hid : ¬ A s.nx := fun h => Nat.lt_irrefl _ (hr.alt _ h)
  rintro e w' ⟨v, rfl, g, ⟨b, S2, hb, hS2, hnb, hcs, hv⟩ | hv⟩
  · have hS0 : ∀ c, S2 c → False := fun c h => by have := (hS2 c h).1; cases this
    have hm := hr.mem.new g s.nx hid k0 b hb (hcs.mono rfl (fun c h => (hS0 c h).elim) (fun _ h => h.elim))
    refine hK _ _ (k S (fun j => if j = s.nx then b else rho j) (fun j => j = s.nx ∨ A j) _ _ ⟨slots_put hr.slots (by rw [hr.nt]; exact hg.2) (fun b hb => ⟨hb, g.block b (hr.mem.slt b hb)⟩) (fun id hid' => ⟨.inr hid', if_neg (fun e : id = s.nx => hid (e ▸ hid')), fun _ => g.szAt⟩) (hs.1 _ _ _ _ _ _ _ _ _ _ hv (fun c h => (hS0 c h).elim) (fun i h => h) (.inl rfl) (if_pos rfl)), hm, ?_, by rw [put_size]; exact hr.nt, by rw [put_defers]; exact hr.defs⟩)
    rintro id (rfl | h)
    · exact Nat.lt_succ_self _
    · exact Nat.lt_succ_of_lt (hr.alt id h)
  · refine hK _ _ (k S rho A _ _ ⟨slots_put hr.slots (by rw [hr.nt]; exact hg.2) (fun b hb => ⟨hb, g.block b (hr.mem.slt b hb)⟩) (fun id hid' => ⟨hid', rfl, fun _ => g.szAt⟩) (hv _ _ _ _ _), (hr.mem.grow g).phantom s.nx hid k0, fun id h => Nat.lt_succ_of_lt (hr.alt id h), by rw [put_size]; exact hr.nt, by rw [put_defers]; exact hr.defs⟩)
theorem SNew.of {ops : Array Oper} {l : List Oper} {cs : List Code} {Q : Exit → SS → Prop} {f : Nat} {ys : List V} {d : Option Nat} {k : Blk} {off len z n : Nat} {c : Option Nat} {s' : SS} (hs : NewP P f ys k off len z c) (hn : s.nx = n) (hp : s.put d (.sl n off len z c) (.new k) = s') (h : SO P B ops l cs Q s') : SNew P B f ys d ops l cs Q s := by
  subst hn; subst hp; exact ⟨k, _, hs, h⟩
theorem NewP.of {f : Nat} {args : List V} {k : Blk} {off len z : Nat} {cap : Option Nat} (hl : 0 < len) (hsc : ∀ y ∈ k.cs, ∃ v, y = .sc v) (hI : Inl P f args [] 0 (.sl 0 off len z cap) [(0, k)] 1) : NewP P f args k off len z cap := by
  refine ⟨rx_sl off len z cap, ?_⟩
  intro S w vs hS hT hargs
  have hm : Mem ⟨w, S, fun _ => False, fun _ => 0, fun _ => False, []⟩ S (fun _ => 0) (fun _ => False) [] w := {
    cells := fun id k hk => by cases hk
    fz := fun id k hk => by cases hk
    own := fun id k hk => by cases hk
    inj := fun id id' k k' hk => by cases hk
    slt := hS
    sub := fun _ h => h
    base := fun _ h => .inl h
    frame := ⟨rfl, rfl, rfl, Nat.le_refl _, fun _ _ _ => rfl, fun _ _ => rfl, fun _ _ h => h, hS, hT⟩
    keep := fun id h => h.elim }
  refine (hI.calls hm (fun _ h => h.elim) (vs := vs) hargs).mono ?_
  rintro e w' ⟨v, rfl, S', rho', A', h1, h2, h3, h4, h5⟩
  cases h5 with
  | sln h => omega
  | sl h0 hl' hm' hc hz =>
    have hk : hget [(0, k)] 0 = some k := rfl
    refine ⟨_, rfl, ⟨h3.frame.os, h3.frame.tape, h3.frame.output, h3.frame.size, fun b hb => h3.frame.block b hb (fun h => h)⟩, .inl ⟨rho' 0, fun _ => False, ?_, fun _ h => h.elim, fun h => h, ?_, .sl rfl hl' hm' hc hz⟩⟩
    · rcases h3.own 0 k hk h0 with h | h
      · exact h
      · exact h.elim
    · obtain ⟨cells, c1, c2⟩ := h3.cells 0 k hk h0
      refine ⟨cells, c1, fun i x hx => ?_⟩
      obtain ⟨u, hu, hr⟩ := c2 i x hx
      obtain ⟨v, rfl⟩ := hsc x (List.mem_of_getElem? hx)
      cases hr
      exact ⟨_, hu, .sc _⟩
theorem NewX.of {f : Nat} {args : List V} {k : Blk} {X : Nat → V} (i0 : Nat) {m : Nat} {hp : List (Nat × Blk)} (hX : RX X) (hk : hget hp i0 = some k) (hz : k.fz = false) (hlive : ∀ (S : Nat → Prop) (rho : Nat → Nat) (A : Nat → Prop) (w : World) (v : Value), R S rho w A (X i0) v → A i0 ∧ R S rho w (fun i => i = i0) (X i0) v) (hc : k.cs.all clo = true) (hI : Inl P f args [] 0 (X i0) hp m) : NewX P f args k X false := by
  refine ⟨hX, ?_⟩
  intro S w vs hS hT hargs
  have hm : Mem ⟨w, S, fun _ => False, fun _ => 0, fun _ => False, []⟩ S (fun _ => 0) (fun _ => False) [] w := {
    cells := fun id k hk => by cases hk
    fz := fun id k hk => by cases hk
    own := fun id k hk => by cases hk
    inj := fun id id' k k' hk => by cases hk
    slt := hS
    sub := fun _ h => h
    base := fun _ h => .inl h
    frame := ⟨rfl, rfl, rfl, Nat.le_refl _, fun _ _ _ => rfl, fun _ _ => rfl, fun _ _ h => h, hS, hT⟩
    keep := fun id h => h.elim }
  refine (hI.calls hm (fun _ h => h.elim) (vs := vs) hargs).mono ?_
  rintro e w' ⟨v, rfl, S', rho', A', h1, h2, h3, h4, h5⟩
  obtain ⟨hA, h6⟩ := hlive _ _ _ _ _ h5
  refine ⟨v, rfl, ⟨h3.frame.os, h3.frame.tape, h3.frame.output, h3.frame.size, fun b hb => h3.frame.block b hb (fun h => h)⟩, .inl ⟨rho' i0, S', ?_, fun c hc' => ⟨rfl, ?_⟩, h3.fz i0 k hk hA hz, ?_, ?_⟩⟩
  · rcases h3.own i0 k hk hA with h | h
    · exact h
    · exact h.elim
  · rcases h3.base c hc' with h | h | h
    · exact .inl h
    · exact .inr ⟨h, h3.slt c hc'⟩
    · exact h.elim
  · obtain ⟨cells, c1, c2⟩ := h3.cells i0 k hk hA
    refine ⟨cells, c1, fun i x hx => ?_⟩
    obtain ⟨u, hu, hr⟩ := c2 i x hx
    exact ⟨u, hu, (clo_sound (List.all_eq_true.1 hc x (List.mem_of_getElem? hx)) hr).rho⟩
  · exact hX _ _ _ _ _ _ _ _ _ _ h6 (fun _ h => h) (fun i h => h) rfl rfl
theorem Inl.run {f : Nat} {fn : Func} {c : Code} {args : List V} {x : V} {n nx nx' : Nat} {s0 : SS} {hp hp' : List (Nat × Blk)} (hf : P.funcs[f]? = some fn) (hb : fn.body = some c) (hnt : fn.ntmps = n) (hn : args.length ≤ n) (h0 : (⟨stSl 0 args, hp, nx, n⟩ : SS) = s0) (h : ∀ B : Base, B.Old nx → SC P B [c] (retI P fn B x hp' nx') s0) : Inl P f args hp nx x hp' nx' := by
  subst hnt; subst h0
  exact ⟨fn, c, hf, hb, hn, fun B hB => SC.of (h B hB)⟩
theorem retI_ret {fn : Func} {x y : V} {hp' : List (Nat × Blk)} {nx' : Nat} {rs : List ResultVar} (hr : fn.results = rs.toArray) (h1 : resG P s rs = some y) (h2 : Le B (vst y s.hp s.nx) (vst x hp' nx')) : retI P fn B x hp' nx' .ret s := ⟨y, by rw [resV_eq, hr]; exact h1, h2⟩
@[go_sem] theorem fnOf_func (f : Nat) : fnOf (.sc (.func (.func f) #[] #[])) = some (f, [], []) := rfl
@[go_sem] theorem fnOf_fn (f : Nat) (p q : List V) : fnOf (.fn (.func f) p q) = some (f, p, q) := rfl
@[go_sem] theorem hasId_nil (i : Nat) : hasId [] i = false := rfl
@[go_sem] theorem hasId_cons (p : Nat × Blk) (r : List (Nat × Blk)) (i : Nat) : hasId (p :: r) i = (decide (i = p.1) || hasId r i) := rfl
@[go_sem] theorem restH_nil (l : List (Nat × Blk)) : restH [] l = [] := rfl
@[go_sem] theorem restH_cons (p : Nat × Blk) (r l : List (Nat × Blk)) : restH (p :: r) l = if hasId l p.1 = true then restH r l else p :: restH r l := rfl
@[go_sem] theorem subH_nil (hp : List (Nat × Blk)) : subH [] hp = True := rfl
@[go_sem] theorem subH_cons (p : Nat × Blk) (r hp : List (Nat × Blk)) : subH (p :: r) hp = (hget hp p.1 = some p.2 ∧ subH r hp) := rfl
end
end Go.Proofs.YtpodnbcdddcdmaaGreatDoor

/- Calls of function values by contracts by value. -/
namespace Go.Proofs.YtpodnbcdddcdmaaGreatDoor
open Go.RowKit
section
variable {P : Program} {w : World} {B : Base} {S : Nat → Prop} {rho : Nat → Nat} {A : Nat → Prop} {s : SS} {a : Act}
theorem SOps.callVF {ops : Array Oper} {Q : Exit → SS → Prop} {o : Oper} {l : List Oper} {g : Operand} {f : Nat} {p q : List V} {args : Array Operand} {ts : Array TypeId} {ys : List V} {ids : List Nat} {x : V} (ho : o.op = .call ⟨.value g, args, ts⟩) (hg : guardV ops s.sl o.guard = some true)
    (hd : dstOk o.dst s.nt = true) (hfn : fnOf (evS s.sl g) = some (f, p, q)) (hgo : isGo P f = true) (hf : frzAll (frz 8 s.hp) (p ++ args.toList.map (evS s.sl) ++ q) = some (ys, ids)) (hs : Spec P f ys x) (k : SOps P B ops l Q (s.calledF o.dst x ids)) : SOps P B ops (o :: l) Q s := by
  intro S rho A a w hr
  have hw := guard_sound hr.slots hg
  refine wpList_step fun K hK => ?_
  rw [if_pos hw]
  obtain ⟨ps, qs, he, hps, hqs⟩ := fn_sound hfn (ev_sound hr.mem.tab hr.slots g)
  have hall := (hps.append (All.ev hr.mem.tab hr.slots args.toList)).append hqs
  obtain ⟨h1, h2⟩ := frzAll_sound (frz_sound hr.mem 8) hf hall
  have hmf := hr.mem.freeze ids h2
  have hrun : (execOp a.eval o).run P w = .ok (.enter f (ps ++ args.map a.eval ++ qs)) w := by
    simp only [execOp, ho, resolve, he, Deferred.ofValue, Sem.run_bind, Sem.run_pure, Result.andThen_ok, invoke]
    exact callFunc_go hgo _ w
  unfold Oper.wp
  rw [hrun]
  refine (hs (addS S rho A ids) w (ps ++ args.map a.eval ++ qs) hmf.slt hmf.tab ⟨by have := h1.1; simpa using this, fun i y u hy hu => (h1.2 i y u hy (by simpa using hu)).rho⟩).mono ?_
  rintro e w' ⟨v, rfl, g, hx⟩
  refine hK _ _ ?_
  have hA : ∀ id, A id → A id ∧ rho id = rho id ∧ ∀ n, szAt w (rho id) n → szAt w' (rho id) n := fun id h => ⟨h, rfl, fun _ => g.szAt⟩
  have hm' := hmf.came g
  exact k (fun b => addS S rho A ids b ∨ (w.heap.size ≤ b ∧ b < w'.heap.size)) rho A _ _ ⟨slots_put hr.slots (by rw [hr.nt]; exact hd) (fun b hb => ⟨.inl (.inl hb), g.block b (hr.mem.slt b hb)⟩) hA hx.rho.open, hm', hr.alt, by rw [put_size]; exact hr.nt, by rw [put_defers]; exact hr.defs⟩
def SCallV (P : Program) (B : Base) (f : Nat) (ys : List V) (ids : List Nat) (d : Option Nat) (ops : Array Oper) (l : List Oper) (cs : List Code) (Q : Exit → SS → Prop) (s : SS) : Prop :=
  ∃ x, Spec P f ys x ∧ SO P B ops l cs Q (s.calledF d x ids)
theorem SO.callV {ops : Array Oper} {l : List Oper} {cs : List Code} {Q : Exit → SS → Prop} {g : Operand} {f : Nat} {p q ys : List V} {ids : List Nat} {args : List Operand} {ts : Array TypeId} {d : Option Tmp} {ty : TypeId} {pos : String} {after : Array Edge} {gd : Option (Nat × Bool)}
    (hfn : fnOf (evS s.sl g) = some (f, p, q)) (hgo : isGo P f = true) (hf : frzAll (frz 8 s.hp) (p ++ args.map (evS s.sl) ++ q) = some (ys, ids)) (hg : guardV ops s.sl gd = some true ∧ dstOk d s.nt = true) (k : SCallV P B f ys ids d ops l cs Q s) : SO P B ops (⟨d, .call ⟨.value g, args.toArray, ts⟩, ty, pos, after, gd⟩ :: l) cs Q s := by
  obtain ⟨x, hs, k⟩ := k
  exact SOps.callVF rfl hg.1 hg.2 hfn hgo (by simpa using hf) hs k
theorem SCallV.of {ops : Array Oper} {l : List Oper} {cs : List Code} {Q : Exit → SS → Prop} {f : Nat} {ys : List V} {ids : List Nat} {d : Option Nat} {x : V} {s' : SS} (hs : Spec P f ys x) (hn : s.calledF d x ids = s') (k : SO P B ops l cs Q s') : SCallV P B f ys ids d ops l cs Q s := ⟨x, hs, hn ▸ k⟩
end
end Go.Proofs.YtpodnbcdddcdmaaGreatDoor

/- What the tables of the program say of its types. -/
namespace Go.Proofs.YtpodnbcdddcdmaaGreatDoor
@[go_sem] theorem Tab.agg2 : aggOf Tryz.prog 2 = some false := by kernel_rfl
@[go_sem] theorem Tab.sz2 : szOf Tryz.prog 2 = some 1 := by kernel_rfl
@[go_sem] theorem Tab.has2 : hasT Tryz.prog 2 = true := by kernel_rfl
@[go_sem] theorem Tab.int2 : intOf' Tryz.prog 2 = some .i64 := by kernel_rfl
@[go_sem] theorem Tab.zero2 : zeroOf Tryz.prog 2 = some (.int .i64 0) := by kernel_rfl
@[go_sem] theorem Tab.agg3 : aggOf Tryz.prog 3 = some false := by kernel_rfl
@[go_sem] theorem Tab.sz3 : szOf Tryz.prog 3 = some 1 := by kernel_rfl
@[go_sem] theorem Tab.has3 : hasT Tryz.prog 3 = true := by kernel_rfl
@[go_sem] theorem Tab.int3 : intOf' Tryz.prog 3 = some .i64 := by kernel_rfl
@[go_sem] theorem Tab.zero3 : zeroOf Tryz.prog 3 = some (.int .i64 0) := by kernel_rfl
@[go_sem] theorem Tab.agg4 : aggOf Tryz.prog 4 = some false := by kernel_rfl
@[go_sem] theorem Tab.sz4 : szOf Tryz.prog 4 = some 1 := by kernel_rfl
@[go_sem] theorem Tab.has4 : hasT Tryz.prog 4 = true := by kernel_rfl
@[go_sem] theorem Tab.bool4 : isBool Tryz.prog 4 = true := by kernel_rfl
@[go_sem] theorem Tab.zero4 : zeroOf Tryz.prog 4 = some (.bool false) := by kernel_rfl
@[go_sem] theorem Tab.agg5 : aggOf Tryz.prog 5 = some false := by kernel_rfl
@[go_sem] theorem Tab.sz5 : szOf Tryz.prog 5 = some 1 := by kernel_rfl
@[go_sem] theorem Tab.has5 : hasT Tryz.prog 5 = true := by kernel_rfl
@[go_sem] theorem Tab.int5 : intOf' Tryz.prog 5 = some .u8 := by kernel_rfl
@[go_sem] theorem Tab.zero5 : zeroOf Tryz.prog 5 = some (.int .u8 0) := by kernel_rfl
@[go_sem] theorem Tab.agg7 : aggOf Tryz.prog 7 = some true := by kernel_rfl
@[go_sem] theorem Tab.sz7 : szOf Tryz.prog 7 = some 4 := by kernel_rfl
@[go_sem] theorem Tab.has7 : hasT Tryz.prog 7 = true := by kernel_rfl
@[go_sem] theorem Tab.zero7 : zeroOf Tryz.prog 7 = some (.agg #[.int .i64 0, .int .i64 0, .bool false, .int .u8 0]) := by kernel_rfl
@[go_sem] theorem Tab.fld7_0 : fldOf Tryz.prog 7 0 = some (0, 2, 1) := by kernel_rfl
@[go_sem] theorem Tab.fld7_1 : fldOf Tryz.prog 7 1 = some (1, 3, 1) := by kernel_rfl
@[go_sem] theorem Tab.fld7_2 : fldOf Tryz.prog 7 2 = some (2, 4, 1) := by kernel_rfl
@[go_sem] theorem Tab.fld7_3 : fldOf Tryz.prog 7 3 = some (3, 6, 1) := by kernel_rfl
@[go_sem] theorem Tab.pl7 : plOf Tryz.prog 7 = some ([.int .i64 0, .int .i64 0, .bool false, .int .u8 0], .st [(0, 1), (1, 1), (2, 1), (3, 1)]) := by kernel_rfl
@[go_sem] theorem Tab.agg9 : aggOf Tryz.prog 9 = some false := by kernel_rfl
@[go_sem] theorem Tab.sz9 : szOf Tryz.prog 9 = some 1 := by kernel_rfl
@[go_sem] theorem Tab.has9 : hasT Tryz.prog 9 = true := by kernel_rfl
@[go_sem] theorem Tab.str9 : isStr Tryz.prog 9 = true := by kernel_rfl
@[go_sem] theorem Tab.zero9 : zeroOf Tryz.prog 9 = some (.string ByteArray.empty) := by kernel_rfl
@[go_sem] theorem Tab.agg12 : aggOf Tryz.prog 12 = some false := by kernel_rfl
@[go_sem] theorem Tab.sz12 : szOf Tryz.prog 12 = some 1 := by kernel_rfl
@[go_sem] theorem Tab.has12 : hasT Tryz.prog 12 = true := by kernel_rfl
@[go_sem] theorem Tab.int12 : intOf' Tryz.prog 12 = some .u64 := by kernel_rfl
@[go_sem] theorem Tab.zero12 : zeroOf Tryz.prog 12 = some (.int .u64 0) := by kernel_rfl
@[go_sem] theorem Tab.agg13 : aggOf Tryz.prog 13 = some true := by kernel_rfl
@[go_sem] theorem Tab.sz13 : szOf Tryz.prog 13 = some 2 := by kernel_rfl
@[go_sem] theorem Tab.has13 : hasT Tryz.prog 13 = true := by kernel_rfl
@[go_sem] theorem Tab.zero13 : zeroOf Tryz.prog 13 = some (.agg #[.string ByteArray.empty, .int .u64 0]) := by kernel_rfl
@[go_sem] theorem Tab.fld13_0 : fldOf Tryz.prog 13 0 = some (0, 9, 1) := by kernel_rfl
@[go_sem] theorem Tab.fld13_1 : fldOf Tryz.prog 13 1 = some (1, 12, 1) := by kernel_rfl
@[go_sem] theorem Tab.pl13 : plOf Tryz.prog 13 = some ([.string ByteArray.empty, .int .u64 0], .st [(0, 1), (1, 1)]) := by kernel_rfl
@[go_sem] theorem Tab.agg18 : aggOf Tryz.prog 18 = some true := by kernel_rfl
@[go_sem] theorem Tab.sz18 : szOf Tryz.prog 18 = some 1 := by kernel_rfl
@[go_sem] theorem Tab.has18 : hasT Tryz.prog 18 = true := by kernel_rfl
@[go_sem] theorem Tab.zero18 : zeroOf Tryz.prog 18 = some (.agg #[.pointer none]) := by kernel_rfl
@[go_sem] theorem Tab.fld18_0 : fldOf Tryz.prog 18 0 = some (0, 17, 1) := by kernel_rfl
@[go_sem] theorem Tab.pl18 : plOf Tryz.prog 18 = some ([.pointer none], .st [(0, 1)]) := by kernel_rfl
@[go_sem] theorem Tab.agg21 : aggOf Tryz.prog 21 = some false := by kernel_rfl
@[go_sem] theorem Tab.sz21 : szOf Tryz.prog 21 = some 1 := by kernel_rfl
@[go_sem] theorem Tab.has21 : hasT Tryz.prog 21 = true := by kernel_rfl
@[go_sem] theorem Tab.int21 : intOf' Tryz.prog 21 = some .i32 := by kernel_rfl
@[go_sem] theorem Tab.zero21 : zeroOf Tryz.prog 21 = some (.int .i32 0) := by kernel_rfl
@[go_sem] theorem Tab.agg22 : aggOf Tryz.prog 22 = some false := by kernel_rfl
@[go_sem] theorem Tab.sz22 : szOf Tryz.prog 22 = some 1 := by kernel_rfl
@[go_sem] theorem Tab.has22 : hasT Tryz.prog 22 = true := by kernel_rfl
@[go_sem] theorem Tab.isSl22 : isSl Tryz.prog 22 = true := by kernel_rfl
@[go_sem] theorem Tab.zero22 : zeroOf Tryz.prog 22 = some (.slice none 0 0) := by kernel_rfl
@[go_sem] theorem Tab.sl22 : slOf Tryz.prog 22 = some (68, 1) := by kernel_rfl
@[go_sem] theorem Tab.mk22 : mkOf Tryz.prog 22 = some (68, 4, [.int .u32 0]) := by kernel_rfl
@[go_sem] theorem Tab.agg23 : aggOf Tryz.prog 23 = some true := by kernel_rfl
@[go_sem] theorem Tab.sz23 : szOf Tryz.prog 23 = some 3 := by kernel_rfl
@[go_sem] theorem Tab.has23 : hasT Tryz.prog 23 = true := by kernel_rfl
@[go_sem] theorem Tab.zero23 : zeroOf Tryz.prog 23 = some (.agg #[.slice none 0 0, .slice none 0 0, .bool false]) := by kernel_rfl
@[go_sem] theorem Tab.fld23_0 : fldOf Tryz.prog 23 0 = some (0, 22, 1) := by kernel_rfl
@[go_sem] theorem Tab.fld23_1 : fldOf Tryz.prog 23 1 = some (1, 22, 1) := by kernel_rfl
@[go_sem] theorem Tab.fld23_2 : fldOf Tryz.prog 23 2 = some (2, 4, 1) := by kernel_rfl
@[go_sem] theorem Tab.pl23 : plOf Tryz.prog 23 = some ([.slice none 0 0, .slice none 0 0, .bool false], .st [(0, 1), (1, 1), (2, 1)]) := by kernel_rfl
@[go_sem] theorem Tab.agg24 : aggOf Tryz.prog 24 = some true := by kernel_rfl
@[go_sem] theorem Tab.sz24 : szOf Tryz.prog 24 = some 3 := by kernel_rfl
@[go_sem] theorem Tab.has24 : hasT Tryz.prog 24 = true := by kernel_rfl
@[go_sem] theorem Tab.zero24 : zeroOf Tryz.prog 24 = some (.agg #[.slice none 0 0, .slice none 0 0, .bool false]) := by kernel_rfl
@[go_sem] theorem Tab.fld24_0 : fldOf Tryz.prog 24 0 = some (0, 22, 1) := by kernel_rfl
@[go_sem] theorem Tab.fld24_1 : fldOf Tryz.prog 24 1 = some (1, 22, 1) := by kernel_rfl
@[go_sem] theorem Tab.fld24_2 : fldOf Tryz.prog 24 2 = some (2, 4, 1) := by kernel_rfl
@[go_sem] theorem Tab.pl24 : plOf Tryz.prog 24 = some ([.slice none 0 0, .slice none 0 0, .bool false], .st [(0, 1), (1, 1), (2, 1)]) := by kernel_rfl
@[go_sem] theorem Tab.agg26 : aggOf Tryz.prog 26 = some true := by kernel_rfl
@[go_sem] theorem Tab.sz26 : szOf Tryz.prog 26 = some 2 := by kernel_rfl
@[go_sem] theorem Tab.has26 : hasT Tryz.prog 26 = true := by kernel_rfl
@[go_sem] theorem Tab.zero26 : zeroOf Tryz.prog 26 = some (.agg #[.bool false, .slice none 0 0]) := by kernel_rfl
@[go_sem] theorem Tab.fld26_0 : fldOf Tryz.prog 26 0 = some (0, 4, 1) := by kernel_rfl
@[go_sem] theorem Tab.fld26_1 : fldOf Tryz.prog 26 1 = some (1, 22, 1) := by kernel_rfl
@[go_sem] theorem Tab.pl26 : plOf Tryz.prog 26 = some ([.bool false, .slice none 0 0], .st [(0, 1), (1, 1)]) := by kernel_rfl
@[go_sem] theorem Tab.agg27 : aggOf Tryz.prog 27 = some true := by kernel_rfl
@[go_sem] theorem Tab.sz27 : szOf Tryz.prog 27 = some 2 := by kernel_rfl
@[go_sem] theorem Tab.has27 : hasT Tryz.prog 27 = true := by kernel_rfl
@[go_sem] theorem Tab.zero27 : zeroOf Tryz.prog 27 = some (.agg #[.bool false, .slice none 0 0]) := by kernel_rfl
@[go_sem] theorem Tab.fld27_0 : fldOf Tryz.prog 27 0 = some (0, 4, 1) := by kernel_rfl
@[go_sem] theorem Tab.fld27_1 : fldOf Tryz.prog 27 1 = some (1, 22, 1) := by kernel_rfl
@[go_sem] theorem Tab.pl27 : plOf Tryz.prog 27 = some ([.bool false, .slice none 0 0], .st [(0, 1), (1, 1)]) := by kernel_rfl
@[go_sem] theorem Tab.agg28 : aggOf Tryz.prog 28 = some true := by kernel_rfl
@[go_sem] theorem Tab.sz28 : szOf Tryz.prog 28 = some 4 := by kernel_rfl
@[go_sem] theorem Tab.has28 : hasT Tryz.prog 28 = true := by kernel_rfl
@[go_sem] theorem Tab.zero28 : zeroOf Tryz.prog 28 = some (.agg #[.bool false, .slice none 0 0, .bool false, .slice none 0 0]) := by kernel_rfl
@[go_sem] theorem Tab.fld28_0 : fldOf Tryz.prog 28 0 = some (0, 27, 2) := by kernel_rfl
@[go_sem] theorem Tab.fld28_1 : fldOf Tryz.prog 28 1 = some (2, 27, 2) := by kernel_rfl
@[go_sem] theorem Tab.pl28 : plOf Tryz.prog 28 = some ([.bool false, .slice none 0 0, .bool false, .slice none 0 0], .st [(0, 2), (2, 2)]) := by kernel_rfl
@[go_sem] theorem Tab.agg29 : aggOf Tryz.prog 29 = some true := by kernel_rfl
@[go_sem] theorem Tab.sz29 : szOf Tryz.prog 29 = some 4 := by kernel_rfl
@[go_sem] theorem Tab.has29 : hasT Tryz.prog 29 = true := by kernel_rfl
@[go_sem] theorem Tab.zero29 : zeroOf Tryz.prog 29 = some (.agg #[.bool false, .slice none 0 0, .bool false, .slice none 0 0]) := by kernel_rfl
@[go_sem] theorem Tab.fld29_0 : fldOf Tryz.prog 29 0 = some (0, 27, 2) := by kernel_rfl
@[go_sem] theorem Tab.fld29_1 : fldOf Tryz.prog 29 1 = some (2, 27, 2) := by kernel_rfl
@[go_sem] theorem Tab.pl29 : plOf Tryz.prog 29 = some ([.bool false, .slice none 0 0, .bool false, .slice none 0 0], .st [(0, 2), (2, 2)]) := by kernel_rfl
@[go_sem] theorem Tab.agg34 : aggOf Tryz.prog 34 = some false := by kernel_rfl
@[go_sem] theorem Tab.sz34 : szOf Tryz.prog 34 = some 1 := by kernel_rfl
@[go_sem] theorem Tab.has34 : hasT Tryz.prog 34 = true := by kernel_rfl
@[go_sem] theorem Tab.int34 : intOf' Tryz.prog 34 = some .i64 := by kernel_rfl
@[go_sem] theorem Tab.zero34 : zeroOf Tryz.prog 34 = some (.int .i64 0) := by kernel_rfl
@[go_sem] theorem Tab.agg54 : aggOf Tryz.prog 54 = some true := by kernel_rfl
@[go_sem] theorem Tab.sz54 : szOf Tryz.prog 54 = some 4 := by kernel_rfl
@[go_sem] theorem Tab.has54 : hasT Tryz.prog 54 = true := by kernel_rfl
@[go_sem] theorem Tab.zero54 : zeroOf Tryz.prog 54 = some (.agg #[.bool false, .slice none 0 0, .bool false, .slice none 0 0]) := by kernel_rfl
@[go_sem] theorem Tab.fld54_0 : fldOf Tryz.prog 54 0 = some (0, 27, 2) := by kernel_rfl
@[go_sem] theorem Tab.fld54_1 : fldOf Tryz.prog 54 1 = some (2, 27, 2) := by kernel_rfl
@[go_sem] theorem Tab.pl54 : plOf Tryz.prog 54 = some ([.bool false, .slice none 0 0, .bool false, .slice none 0 0], .st [(0, 2), (2, 2)]) := by kernel_rfl
@[go_sem] theorem Tab.agg55 : aggOf Tryz.prog 55 = some true := by kernel_rfl
@[go_sem] theorem Tab.sz55 : szOf Tryz.prog 55 = some 4 := by kernel_rfl
@[go_sem] theorem Tab.has55 : hasT Tryz.prog 55 = true := by kernel_rfl
@[go_sem] theorem Tab.zero55 : zeroOf Tryz.prog 55 = some (.agg #[.bool false, .slice none 0 0, .bool false, .slice none 0 0]) := by kernel_rfl
@[go_sem] theorem Tab.fld55_0 : fldOf Tryz.prog 55 0 = some (0, 27, 2) := by kernel_rfl
@[go_sem] theorem Tab.fld55_1 : fldOf Tryz.prog 55 1 = some (2, 27, 2) := by kernel_rfl
@[go_sem] theorem Tab.pl55 : plOf Tryz.prog 55 = some ([.bool false, .slice none 0 0, .bool false, .slice none 0 0], .st [(0, 2), (2, 2)]) := by kernel_rfl
@[go_sem] theorem Tab.agg62 : aggOf Tryz.prog 62 = some true := by kernel_rfl
@[go_sem] theorem Tab.sz62 : szOf Tryz.prog 62 = some 1 := by kernel_rfl
@[go_sem] theorem Tab.has62 : hasT Tryz.prog 62 = true := by kernel_rfl
@[go_sem] theorem Tab.zero62 : zeroOf Tryz.prog 62 = some (.agg #[.nilFunc]) := by kernel_rfl
@[go_sem] theorem Tab.fld62_0 : fldOf Tryz.prog 62 0 = some (0, 61, 1) := by kernel_rfl
@[go_sem] theorem Tab.pl62 : plOf Tryz.prog 62 = some ([.nilFunc], .st [(0, 1)]) := by kernel_rfl
@[go_sem] theorem Tab.agg63 : aggOf Tryz.prog 63 = some true := by kernel_rfl
@[go_sem] theorem Tab.sz63 : szOf Tryz.prog 63 = some 1 := by kernel_rfl
@[go_sem] theorem Tab.has63 : hasT Tryz.prog 63 = true := by kernel_rfl
@[go_sem] theorem Tab.zero63 : zeroOf Tryz.prog 63 = some (.agg #[.nilFunc]) := by kernel_rfl
@[go_sem] theorem Tab.fld63_0 : fldOf Tryz.prog 63 0 = some (0, 61, 1) := by kernel_rfl
@[go_sem] theorem Tab.pl63 : plOf Tryz.prog 63 = some ([.nilFunc], .st [(0, 1)]) := by kernel_rfl
@[go_sem] theorem Tab.agg67 : aggOf Tryz.prog 67 = some false := by kernel_rfl
@[go_sem] theorem Tab.sz67 : szOf Tryz.prog 67 = some 1 := by kernel_rfl
@[go_sem] theorem Tab.has67 : hasT Tryz.prog 67 = true := by kernel_rfl
@[go_sem] theorem Tab.int67 : intOf' Tryz.prog 67 = some .u64 := by kernel_rfl
@[go_sem] theorem Tab.zero67 : zeroOf Tryz.prog 67 = some (.int .u64 0) := by kernel_rfl
@[go_sem] theorem Tab.agg68 : aggOf Tryz.prog 68 = some false := by kernel_rfl
@[go_sem] theorem Tab.sz68 : szOf Tryz.prog 68 = some 1 := by kernel_rfl
@[go_sem] theorem Tab.has68 : hasT Tryz.prog 68 = true := by kernel_rfl
@[go_sem] theorem Tab.int68 : intOf' Tryz.prog 68 = some .u32 := by kernel_rfl
@[go_sem] theorem Tab.zero68 : zeroOf Tryz.prog 68 = some (.int .u32 0) := by kernel_rfl
@[go_sem] theorem Tab.agg69 : aggOf Tryz.prog 69 = some false := by kernel_rfl
@[go_sem] theorem Tab.sz69 : szOf Tryz.prog 69 = some 1 := by kernel_rfl
@[go_sem] theorem Tab.has69 : hasT Tryz.prog 69 = true := by kernel_rfl
@[go_sem] theorem Tab.int69 : intOf' Tryz.prog 69 = some .u64 := by kernel_rfl
@[go_sem] theorem Tab.zero69 : zeroOf Tryz.prog 69 = some (.int .u64 0) := by kernel_rfl
@[go_sem] theorem Tab.agg71 : aggOf Tryz.prog 71 = some false := by kernel_rfl
@[go_sem] theorem Tab.sz71 : szOf Tryz.prog 71 = some 1 := by kernel_rfl
@[go_sem] theorem Tab.has71 : hasT Tryz.prog 71 = true := by kernel_rfl
@[go_sem] theorem Tab.isSl71 : isSl Tryz.prog 71 = true := by kernel_rfl
@[go_sem] theorem Tab.zero71 : zeroOf Tryz.prog 71 = some (.slice none 0 0) := by kernel_rfl
@[go_sem] theorem Tab.sl71 : slOf Tryz.prog 71 = some (5, 1) := by kernel_rfl
@[go_sem] theorem Tab.mk71 : mkOf Tryz.prog 71 = some (5, 1, [.int .u8 0]) := by kernel_rfl
@[go_sem] theorem Tab.agg92 : aggOf Tryz.prog 92 = some true := by kernel_rfl
@[go_sem] theorem Tab.sz92 : szOf Tryz.prog 92 = some 2 := by kernel_rfl
@[go_sem] theorem Tab.has92 : hasT Tryz.prog 92 = true := by kernel_rfl
@[go_sem] theorem Tab.zero92 : zeroOf Tryz.prog 92 = some (.agg #[.pointer none, .slice none 0 0]) := by kernel_rfl
@[go_sem] theorem Tab.fld92_0 : fldOf Tryz.prog 92 0 = some (0, 91, 1) := by kernel_rfl
@[go_sem] theorem Tab.fld92_1 : fldOf Tryz.prog 92 1 = some (1, 71, 1) := by kernel_rfl
@[go_sem] theorem Tab.pl92 : plOf Tryz.prog 92 = some ([.pointer none, .slice none 0 0], .st [(0, 1), (1, 1)]) := by kernel_rfl
@[go_sem] theorem Tab.agg93 : aggOf Tryz.prog 93 = some true := by kernel_rfl
@[go_sem] theorem Tab.sz93 : szOf Tryz.prog 93 = some 2 := by kernel_rfl
@[go_sem] theorem Tab.has93 : hasT Tryz.prog 93 = true := by kernel_rfl
@[go_sem] theorem Tab.zero93 : zeroOf Tryz.prog 93 = some (.agg #[.pointer none, .slice none 0 0]) := by kernel_rfl
@[go_sem] theorem Tab.fld93_0 : fldOf Tryz.prog 93 0 = some (0, 91, 1) := by kernel_rfl
@[go_sem] theorem Tab.fld93_1 : fldOf Tryz.prog 93 1 = some (1, 71, 1) := by kernel_rfl
@[go_sem] theorem Tab.pl93 : plOf Tryz.prog 93 = some ([.pointer none, .slice none 0 0], .st [(0, 1), (1, 1)]) := by kernel_rfl
@[go_sem] theorem Tab.agg108 : aggOf Tryz.prog 108 = some true := by kernel_rfl
@[go_sem] theorem Tab.sz108 : szOf Tryz.prog 108 = some 24 := by kernel_rfl
@[go_sem] theorem Tab.has108 : hasT Tryz.prog 108 = true := by kernel_rfl
@[go_sem] theorem Tab.zero108 : zeroOf Tryz.prog 108 = some (.agg #[.int .u8 0, .int .u8 0, .int .u8 0, .int .u8 0, .int .u8 0, .int .u8 0, .int .u8 0, .int .u8 0, .int .u8 0, .int .u8 0, .int .u8 0, .int .u8 0, .int .u8 0, .int .u8 0, .int .u8 0, .int .u8 0, .int .u8 0, .int .u8 0, .int .u8 0, .int .u8 0, .int .u8 0, .int .u8 0, .int .u8 0, .int .u8 0]) := by kernel_rfl
@[go_sem] theorem Tab.ar108 : arOf Tryz.prog 108 = some (24, 5, 1) := by kernel_rfl
@[go_sem] theorem Tab.pl108 : plOf Tryz.prog 108 = some ([.int .u8 0, .int .u8 0, .int .u8 0, .int .u8 0, .int .u8 0, .int .u8 0, .int .u8 0, .int .u8 0, .int .u8 0, .int .u8 0, .int .u8 0, .int .u8 0, .int .u8 0, .int .u8 0, .int .u8 0, .int .u8 0, .int .u8 0, .int .u8 0, .int .u8 0, .int .u8 0, .int .u8 0, .int .u8 0, .int .u8 0, .int .u8 0], .ar 1) := by kernel_rfl
@[go_sem] theorem Tab.agg121 : aggOf Tryz.prog 121 = some true := by kernel_rfl
@[go_sem] theorem Tab.sz121 : szOf Tryz.prog 121 = some 20 := by kernel_rfl
@[go_sem] theorem Tab.has121 : hasT Tryz.prog 121 = true := by kernel_rfl
@[go_sem] theorem Tab.zero121 : zeroOf Tryz.prog 121 = some (.agg #[.int .u64 0, .int .u64 0, .int .u64 0, .int .u64 0, .int .u64 0, .int .u64 0, .int .u64 0, .int .u64 0, .int .u64 0, .int .u64 0, .int .u64 0, .int .u64 0, .int .u64 0, .int .u64 0, .int .u64 0, .int .u64 0, .int .u64 0, .int .u64 0, .int .u64 0, .int .u64 0]) := by kernel_rfl
@[go_sem] theorem Tab.ar121 : arOf Tryz.prog 121 = some (20, 67, 1) := by kernel_rfl
@[go_sem] theorem Tab.pl121 : plOf Tryz.prog 121 = some ([.int .u64 0, .int .u64 0, .int .u64 0, .int .u64 0, .int .u64 0, .int .u64 0, .int .u64 0, .int .u64 0, .int .u64 0, .int .u64 0, .int .u64 0, .int .u64 0, .int .u64 0, .int .u64 0, .int .u64 0, .int .u64 0, .int .u64 0, .int .u64 0, .int .u64 0, .int .u64 0], .ar 1) := by kernel_rfl
@[go_sem] theorem Tab.agg122 : aggOf Tryz.prog 122 = some true := by kernel_rfl
@[go_sem] theorem Tab.sz122 : szOf Tryz.prog 122 = some 65 := by kernel_rfl
@[go_sem] theorem Tab.has122 : hasT Tryz.prog 122 = true := by kernel_rfl
@[go_sem] theorem Tab.ar122 : arOf Tryz.prog 122 = some (65, 5, 1) := by kernel_rfl
@[go_sem] theorem Tab.agg127 : aggOf Tryz.prog 127 = some true := by kernel_rfl
@[go_sem] theorem Tab.sz127 : szOf Tryz.prog 127 = some 32 := by kernel_rfl
@[go_sem] theorem Tab.has127 : hasT Tryz.prog 127 = true := by kernel_rfl
@[go_sem] theorem Tab.zero127 : zeroOf Tryz.prog 127 = some (.agg #[.int .u8 0, .int .u8 0, .int .u8 0, .int .u8 0, .int .u8 0, .int .u8 0, .int .u8 0, .int .u8 0, .int .u8 0, .int .u8 0, .int .u8 0, .int .u8 0, .int .u8 0, .int .u8 0, .int .u8 0, .int .u8 0, .int .u8 0, .int .u8 0, .int .u8 0, .int .u8 0, .int .u8 0, .int .u8 0, .int .u8 0, .int .u8 0, .int .u8 0, .int .u8 0, .int .u8 0, .int .u8 0, .int .u8 0, .int .u8 0, .int .u8 0, .int .u8 0]) := by kernel_rfl
@[go_sem] theorem Tab.ar127 : arOf Tryz.prog 127 = some (32, 5, 1) := by kernel_rfl
@[go_sem] theorem Tab.pl127 : plOf Tryz.prog 127 = some ([.int .u8 0, .int .u8 0, .int .u8 0, .int .u8 0, .int .u8 0, .int .u8 0, .int .u8 0, .int .u8 0, .int .u8 0, .int .u8 0, .int .u8 0, .int .u8 0, .int .u8 0, .int .u8 0, .int .u8 0, .int .u8 0, .int .u8 0, .int .u8 0, .int .u8 0, .int .u8 0, .int .u8 0, .int .u8 0, .int .u8 0, .int .u8 0, .int .u8 0, .int .u8 0, .int .u8 0, .int .u8 0, .int .u8 0, .int .u8 0, .int .u8 0, .int .u8 0], .ar 1) := by kernel_rfl
@[go_sem] theorem Tab.agg128 : aggOf Tryz.prog 128 = some true := by kernel_rfl
@[go_sem] theorem Tab.sz128 : szOf Tryz.prog 128 = some 64 := by kernel_rfl
@[go_sem] theorem Tab.has128 : hasT Tryz.prog 128 = true := by kernel_rfl
@[go_sem] theorem Tab.zero128 : zeroOf Tryz.prog 128 = some (.agg #[.int .u8 0, .int .u8 0, .int .u8 0, .int .u8 0, .int .u8 0, .int .u8 0, .int .u8 0, .int .u8 0, .int .u8 0, .int .u8 0, .int .u8 0, .int .u8 0, .int .u8 0, .int .u8 0, .int .u8 0, .int .u8 0, .int .u8 0, .int .u8 0, .int .u8 0, .int .u8 0, .int .u8 0, .int .u8 0, .int .u8 0, .int .u8 0, .int .u8 0, .int .u8 0, .int .u8 0, .int .u8 0, .int .u8 0, .int .u8 0, .int .u8 0, .int .u8 0, .int .u8 0, .int .u8 0, .int .u8 0, .int .u8 0, .int .u8 0, .int .u8 0, .int .u8 0, .int .u8 0, .int .u8 0, .int .u8 0, .int .u8 0, .int .u8 0, .int .u8 0, .int .u8 0, .int .u8 0, .int .u8 0, .int .u8 0, .int .u8 0, .int .u8 0, .int .u8 0, .int .u8 0, .int .u8 0, .int .u8 0, .int .u8 0, .int .u8 0, .int .u8 0, .int .u8 0, .int .u8 0, .int .u8 0, .int .u8 0, .int .u8 0, .int .u8 0]) := by kernel_rfl
@[go_sem] theorem Tab.ar128 : arOf Tryz.prog 128 = some (64, 5, 1) := by kernel_rfl
@[go_sem] theorem Tab.pl128 : plOf Tryz.prog 128 = some ([.int .u8 0, .int .u8 0, .int .u8 0, .int .u8 0, .int .u8 0, .int .u8 0, .int .u8 0, .int .u8 0, .int .u8 0, .int .u8 0, .int .u8 0, .int .u8 0, .int .u8 0, .int .u8 0, .int .u8 0, .int .u8 0, .int .u8 0, .int .u8 0, .int .u8 0, .int .u8 0, .int .u8 0, .int .u8 0, .int .u8 0, .int .u8 0, .int .u8 0, .int .u8 0, .int .u8 0, .int .u8 0, .int .u8 0, .int .u8 0, .int .u8 0, .int .u8 0, .int .u8 0, .int .u8 0, .int .u8 0, .int .u8 0, .int .u8 0, .int .u8 0, .int .u8 0, .int .u8 0, .int .u8 0, .int .u8 0, .int .u8 0, .int .u8 0, .int .u8 0, .int .u8 0, .int .u8 0, .int .u8 0, .int .u8 0, .int .u8 0, .int .u8 0, .int .u8 0, .int .u8 0, .int .u8 0, .int .u8 0, .int .u8 0, .int .u8 0, .int .u8 0, .int .u8 0, .int .u8 0, .int .u8 0, .int .u8 0, .int .u8 0, .int .u8 0], .ar 1) := by kernel_rfl
@[go_sem] theorem Tab.agg129 : aggOf Tryz.prog 129 = some true := by kernel_rfl
@[go_sem] theorem Tab.sz129 : szOf Tryz.prog 129 = some 4 := by kernel_rfl
@[go_sem] theorem Tab.has129 : hasT Tryz.prog 129 = true := by kernel_rfl
@[go_sem] theorem Tab.zero129 : zeroOf Tryz.prog 129 = some (.agg #[.pointer none, .pointer none, .pointer none, .string ByteArray.empty]) := by kernel_rfl
@[go_sem] theorem Tab.fld129_0 : fldOf Tryz.prog 129 0 = some (0, 17, 1) := by kernel_rfl
@[go_sem] theorem Tab.fld129_1 : fldOf Tryz.prog 129 1 = some (1, 17, 1) := by kernel_rfl
@[go_sem] theorem Tab.fld129_2 : fldOf Tryz.prog 129 2 = some (2, 17, 1) := by kernel_rfl
@[go_sem] theorem Tab.fld129_3 : fldOf Tryz.prog 129 3 = some (3, 9, 1) := by kernel_rfl
@[go_sem] theorem Tab.pl129 : plOf Tryz.prog 129 = some ([.pointer none, .pointer none, .pointer none, .string ByteArray.empty], .st [(0, 1), (1, 1), (2, 1), (3, 1)]) := by kernel_rfl
@[go_sem] theorem Tab.agg139 : aggOf Tryz.prog 139 = some true := by kernel_rfl
@[go_sem] theorem Tab.sz139 : szOf Tryz.prog 139 = some 11 := by kernel_rfl
@[go_sem] theorem Tab.has139 : hasT Tryz.prog 139 = true := by kernel_rfl
@[go_sem] theorem Tab.zero139 : zeroOf Tryz.prog 139 = some (.agg #[.int .u64 0, .int .u64 0, .int .u32 0, .int .u8 0, .int .u8 0, .int .u8 0, .int .u8 0, .nilFunc, .pointer none, .int .i32 0, .int .i32 0]) := by kernel_rfl
@[go_sem] theorem Tab.fld139_0 : fldOf Tryz.prog 139 0 = some (0, 12, 1) := by kernel_rfl
@[go_sem] theorem Tab.fld139_1 : fldOf Tryz.prog 139 1 = some (1, 12, 1) := by kernel_rfl
@[go_sem] theorem Tab.fld139_2 : fldOf Tryz.prog 139 2 = some (2, 68, 1) := by kernel_rfl
@[go_sem] theorem Tab.fld139_3 : fldOf Tryz.prog 139 3 = some (3, 134, 1) := by kernel_rfl
@[go_sem] theorem Tab.fld139_4 : fldOf Tryz.prog 139 4 = some (4, 5, 1) := by kernel_rfl
@[go_sem] theorem Tab.fld139_5 : fldOf Tryz.prog 139 5 = some (5, 5, 1) := by kernel_rfl
@[go_sem] theorem Tab.fld139_6 : fldOf Tryz.prog 139 6 = some (6, 135, 1) := by kernel_rfl
@[go_sem] theorem Tab.fld139_7 : fldOf Tryz.prog 139 7 = some (7, 136, 1) := by kernel_rfl
@[go_sem] theorem Tab.fld139_8 : fldOf Tryz.prog 139 8 = some (8, 117, 1) := by kernel_rfl
@[go_sem] theorem Tab.fld139_9 : fldOf Tryz.prog 139 9 = some (9, 137, 1) := by kernel_rfl
@[go_sem] theorem Tab.fld139_10 : fldOf Tryz.prog 139 10 = some (10, 138, 1) := by kernel_rfl
@[go_sem] theorem Tab.pl139 : plOf Tryz.prog 139 = some ([.int .u64 0, .int .u64 0, .int .u32 0, .int .u8 0, .int .u8 0, .int .u8 0, .int .u8 0, .nilFunc, .pointer none, .int .i32 0, .int .i32 0], .st [(0, 1), (1, 1), (2, 1), (3, 1), (4, 1), (5, 1), (6, 1), (7, 1), (8, 1), (9, 1), (10, 1)]) := by kernel_rfl
@[go_sem] theorem Tab.go3 : isGo Tryz.prog 3 = true := by kernel_rfl
@[go_sem] theorem Tab.go4 : isGo Tryz.prog 4 = true := by kernel_rfl
@[go_sem] theorem Tab.go5 : isGo Tryz.prog 5 = true := by kernel_rfl
@[go_sem] theorem Tab.go6 : isGo Tryz.prog 6 = true := by kernel_rfl
@[go_sem] theorem Tab.go7 : isGo Tryz.prog 7 = true := by kernel_rfl
@[go_sem] theorem Tab.go8 : isGo Tryz.prog 8 = true := by kernel_rfl
@[go_sem] theorem Tab.go9 : isGo Tryz.prog 9 = true := by kernel_rfl
@[go_sem] theorem Tab.go10 : isGo Tryz.prog 10 = true := by kernel_rfl
@[go_sem] theorem Tab.go11 : isGo Tryz.prog 11 = true := by kernel_rfl
@[go_sem] theorem Tab.go12 : isGo Tryz.prog 12 = true := by kernel_rfl
@[go_sem] theorem Tab.go13 : isGo Tryz.prog 13 = true := by kernel_rfl
@[go_sem] theorem Tab.go14 : isGo Tryz.prog 14 = true := by kernel_rfl
@[go_sem] theorem Tab.go15 : isGo Tryz.prog 15 = true := by kernel_rfl
@[go_sem] theorem Tab.go16 : isGo Tryz.prog 16 = true := by kernel_rfl
@[go_sem] theorem Tab.go17 : isGo Tryz.prog 17 = true := by kernel_rfl
@[go_sem] theorem Tab.go18 : isGo Tryz.prog 18 = true := by kernel_rfl
@[go_sem] theorem Tab.go19 : isGo Tryz.prog 19 = true := by kernel_rfl
@[go_sem] theorem Tab.go20 : isGo Tryz.prog 20 = true := by kernel_rfl
@[go_sem] theorem Tab.go21 : isGo Tryz.prog 21 = true := by kernel_rfl
@[go_sem] theorem Tab.go22 : isGo Tryz.prog 22 = true := by kernel_rfl
@[go_sem] theorem Tab.go23 : isGo Tryz.prog 23 = true := by kernel_rfl
@[go_sem] theorem Tab.go24 : isGo Tryz.prog 24 = true := by kernel_rfl
@[go_sem] theorem Tab.go25 : isGo Tryz.prog 25 = true := by kernel_rfl
@[go_sem] theorem Tab.go26 : isGo Tryz.prog 26 = true := by kernel_rfl
@[go_sem] theorem Tab.go27 : isGo Tryz.prog 27 = true := by kernel_rfl
@[go_sem] theorem Tab.go28 : isGo Tryz.prog 28 = true := by kernel_rfl
@[go_sem] theorem Tab.go29 : isGo Tryz.prog 29 = true := by kernel_rfl
@[go_sem] theorem Tab.go30 : isGo Tryz.prog 30 = true := by kernel_rfl
@[go_sem] theorem Tab.go31 : isGo Tryz.prog 31 = true := by kernel_rfl
@[go_sem] theorem Tab.go32 : isGo Tryz.prog 32 = true := by kernel_rfl
@[go_sem] theorem Tab.go33 : isGo Tryz.prog 33 = true := by kernel_rfl
@[go_sem] theorem Tab.go34 : isGo Tryz.prog 34 = true := by kernel_rfl
@[go_sem] theorem Tab.go35 : isGo Tryz.prog 35 = true := by kernel_rfl
@[go_sem] theorem Tab.go36 : isGo Tryz.prog 36 = true := by kernel_rfl
@[go_sem] theorem Tab.go37 : isGo Tryz.prog 37 = true := by kernel_rfl
@[go_sem] theorem Tab.go38 : isGo Tryz.prog 38 = true := by kernel_rfl
@[go_sem] theorem Tab.go39 : isGo Tryz.prog 39 = true := by kernel_rfl
@[go_sem] theorem Tab.go40 : isGo Tryz.prog 40 = true := by kernel_rfl
@[go_sem] theorem Tab.go41 : isGo Tryz.prog 41 = true := by kernel_rfl
@[go_sem] theorem Tab.go42 : isGo Tryz.prog 42 = true := by kernel_rfl
@[go_sem] theorem Tab.go43 : isGo Tryz.prog 43 = true := by kernel_rfl
@[go_sem] theorem Tab.go44 : isGo Tryz.prog 44 = true := by kernel_rfl
@[go_sem] theorem Tab.go45 : isGo Tryz.prog 45 = true := by kernel_rfl
@[go_sem] theorem Tab.go46 : isGo Tryz.prog 46 = true := by kernel_rfl
@[go_sem] theorem Tab.go47 : isGo Tryz.prog 47 = true := by kernel_rfl
@[go_sem] theorem Tab.go48 : isGo Tryz.prog 48 = true := by kernel_rfl
@[go_sem] theorem Tab.go49 : isGo Tryz.prog 49 = true := by kernel_rfl
@[go_sem] theorem Tab.go50 : isGo Tryz.prog 50 = true := by kernel_rfl
@[go_sem] theorem Tab.go51 : isGo Tryz.prog 51 = true := by kernel_rfl
@[go_sem] theorem Tab.go52 : isGo Tryz.prog 52 = true := by kernel_rfl
@[go_sem] theorem Tab.go53 : isGo Tryz.prog 53 = true := by kernel_rfl
@[go_sem] theorem Tab.go54 : isGo Tryz.prog 54 = true := by kernel_rfl
@[go_sem] theorem Tab.go55 : isGo Tryz.prog 55 = true := by kernel_rfl
@[go_sem] theorem Tab.go56 : isGo Tryz.prog 56 = true := by kernel_rfl
@[go_sem] theorem Tab.go57 : isGo Tryz.prog 57 = true := by kernel_rfl
@[go_sem] theorem Tab.go58 : isGo Tryz.prog 58 = true := by kernel_rfl
@[go_sem] theorem Tab.go59 : isGo Tryz.prog 59 = true := by kernel_rfl
@[go_sem] theorem Tab.go60 : isGo Tryz.prog 60 = true := by kernel_rfl
@[go_sem] theorem Tab.go61 : isGo Tryz.prog 61 = true := by kernel_rfl
@[go_sem] theorem Tab.go62 : isGo Tryz.prog 62 = true := by kernel_rfl
@[go_sem] theorem Tab.go63 : isGo Tryz.prog 63 = true := by kernel_rfl
@[go_sem] theorem Tab.go64 : isGo Tryz.prog 64 = true := by kernel_rfl
@[go_sem] theorem Tab.go65 : isGo Tryz.prog 65 = true := by kernel_rfl
@[go_sem] theorem Tab.go66 : isGo Tryz.prog 66 = true := by kernel_rfl
@[go_sem] theorem Tab.go67 : isGo Tryz.prog 67 = true := by kernel_rfl
@[go_sem] theorem Tab.go68 : isGo Tryz.prog 68 = true := by kernel_rfl
@[go_sem] theorem Tab.go69 : isGo Tryz.prog 69 = true := by kernel_rfl
@[go_sem] theorem Tab.go70 : isGo Tryz.prog 70 = true := by kernel_rfl
@[go_sem] theorem Tab.go71 : isGo Tryz.prog 71 = true := by kernel_rfl
@[go_sem] theorem Tab.go72 : isGo Tryz.prog 72 = true := by kernel_rfl
@[go_sem] theorem Tab.go73 : isGo Tryz.prog 73 = true := by kernel_rfl
@[go_sem] theorem Tab.go74 : isGo Tryz.prog 74 = true := by kernel_rfl
@[go_sem] theorem Tab.go75 : isGo Tryz.prog 75 = true := by kernel_rfl
@[go_sem] theorem Tab.go76 : isGo Tryz.prog 76 = true := by kernel_rfl
@[go_sem] theorem Tab.go77 : isGo Tryz.prog 77 = true := by kernel_rfl
@[go_sem] theorem Tab.go78 : isGo Tryz.prog 78 = true := by kernel_rfl
@[go_sem] theorem Tab.go79 : isGo Tryz.prog 79 = true := by kernel_rfl
@[go_sem] theorem Tab.go80 : isGo Tryz.prog 80 = true := by kernel_rfl
@[go_sem] theorem Tab.go81 : isGo Tryz.prog 81 = true := by kernel_rfl
@[go_sem] theorem Tab.go82 : isGo Tryz.prog 82 = true := by kernel_rfl
@[go_sem] theorem Tab.go83 : isGo Tryz.prog 83 = true := by kernel_rfl
@[go_sem] theorem Tab.go84 : isGo Tryz.prog 84 = true := by kernel_rfl
@[go_sem] theorem Tab.go85 : isGo Tryz.prog 85 = true := by kernel_rfl
@[go_sem] theorem Tab.go86 : isGo Tryz.prog 86 = true := by kernel_rfl
@[go_sem] theorem Tab.go87 : isGo Tryz.prog 87 = true := by kernel_rfl
@[go_sem] theorem Tab.go89 : isGo Tryz.prog 89 = true := by kernel_rfl
@[go_sem] theorem Tab.go90 : isGo Tryz.prog 90 = true := by kernel_rfl
@[go_sem] theorem Tab.go91 : isGo Tryz.prog 91 = true := by kernel_rfl
@[go_sem] theorem Tab.go92 : isGo Tryz.prog 92 = true := by kernel_rfl
@[go_sem] theorem Tab.go93 : isGo Tryz.prog 93 = true := by kernel_rfl
@[go_sem] theorem Tab.go94 : isGo Tryz.prog 94 = true := by kernel_rfl
@[go_sem] theorem Tab.go95 : isGo Tryz.prog 95 = true := by kernel_rfl
@[go_sem] theorem Tab.go96 : isGo Tryz.prog 96 = true := by kernel_rfl
@[go_sem] theorem Tab.go97 : isGo Tryz.prog 97 = true := by kernel_rfl
@[go_sem] theorem Tab.go98 : isGo Tryz.prog 98 = true := by kernel_rfl
@[go_sem] theorem Tab.go99 : isGo Tryz.prog 99 = true := by kernel_rfl
@[go_sem] theorem Tab.go100 : isGo Tryz.prog 100 = true := by kernel_rfl
@[go_sem] theorem Tab.go101 : isGo Tryz.prog 101 = true := by kernel_rfl
@[go_sem] theorem Tab.go106 : isGo Tryz.prog 106 = true := by kernel_rfl
@[go_sem] theorem Tab.go107 : isGo Tryz.prog 107 = true := by kernel_rfl
@[go_sem] theorem Tab.go109 : isGo Tryz.prog 109 = true := by kernel_rfl
@[go_sem] theorem Tab.go110 : isGo Tryz.prog 110 = true := by kernel_rfl
@[go_sem] theorem Tab.go111 : isGo Tryz.prog 111 = true := by kernel_rfl
@[go_sem] theorem Tab.go112 : isGo Tryz.prog 112 = true := by kernel_rfl
@[go_sem] theorem Tab.go114 : isGo Tryz.prog 114 = true := by kernel_rfl
@[go_sem] theorem Tab.go117 : isGo Tryz.prog 117 = true := by kernel_rfl
@[go_sem] theorem Tab.go120 : isGo Tryz.prog 120 = true := by kernel_rfl
@[go_sem] theorem Tab.go121 : isGo Tryz.prog 121 = true := by kernel_rfl
@[go_sem] theorem Tab.go145 : isGo Tryz.prog 145 = true := by kernel_rfl
theorem Tab.mixed : Tryz.prog.follows .mixedOrders = true := by kernel_rfl
end Go.Proofs.YtpodnbcdddcdmaaGreatDoor
