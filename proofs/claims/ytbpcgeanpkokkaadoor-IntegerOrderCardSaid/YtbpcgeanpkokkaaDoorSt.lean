/- Regions that draw their order: to be run in the order of the text. -/
import Derived.Test.YtbpcgeanpkokkaaDoorSs
namespace Go.Proofs.YtbpcgeanpkokkaaDoor
open Go.RowKit

section
variable {P : Program}
def DTr (P : Program) (ops : Array Oper) : SS → List Oper → List En → SS → Prop
  | s, [], es, s' => es = [] ∧ s' = s
  | s, o :: l, es, s' => ∃ e es' s1, es = e :: es' ∧ DStep P ops o s e s1 ∧ DTr P ops s1 l es' s'

theorem DTr.fun {ops : Array Oper} : ∀ {l : List Oper} {s s' : SS} {es : List En}, DTr P ops s l es s' → es.length = l.length ∧
    ∃ (st : Nat → SS) (en : Nat → En), st 0 = s ∧ st l.length = s' ∧ (∀ (i : Nat) (o : Oper), l[i]? = some o → DStep P ops o (st i) (en i) (st (i + 1))) ∧ ∀ i, i < l.length → es[i]? = some (en i)
  | [], s, s', es, h => by
    obtain ⟨rfl, rfl⟩ := h
    exact ⟨rfl, fun _ => s', fun _ => ⟨.junk, none, []⟩, rfl, rfl, fun i o ho => by simp at ho, fun i hi => by simp at hi⟩
  | o :: l, s, s', es, h => by
    obtain ⟨e, es', s1, rfl, h1, h2⟩ := h
    obtain ⟨hl, st, en, a1, a2, a3, a4⟩ := h2.fun
    refine ⟨by simp [hl], fun i => match i with | 0 => s | i + 1 => st i, fun i => match i with | 0 => e | i + 1 => en i, rfl, a2, fun i o' ho => ?_, fun i hi => ?_⟩
    · cases i with
      | zero => simp at ho; subst ho; show DStep P ops o s e (st 0); rw [a1]; exact h1
      | succ i => simp at ho; exact a3 i o' ho
    · cases i with
      | zero => rfl
      | succ i => simp at hi ⊢; exact a4 i hi

def pr (e : En) : Option Nat × List Nat := (e.tg, e.tc)
theorem chk_run {l : List Oper} {s s' : SS} {es : List En} (hk : KL s) (h : DTr P l.toArray s l es s') (hc : chkD l (es.map pr) = true) : ∃ st en, DRun P l st en ∧ st 0 = s ∧ st l.length = s' := by
  obtain ⟨hlen, st, en, a1, a2, a3, a4⟩ := h.fun
  unfold chkD at hc
  rw [Bool.and_eq_true] at hc
  obtain ⟨c1, c2⟩ := hc
  have idx : ∀ (i : Nat) (o : Oper), l[i]? = some o → (o, i) ∈ l.zipIdx := fun i o ho => by
    rw [List.mem_iff_getElem?]
    exact ⟨i, by simp [ho]⟩
  have pair : ∀ (i j : Nat) (oi oj : Oper), i ≠ j → l[i]? = some oi → l[j]? = some oj → pairOk l.toArray (es.map pr) i j oi oj = true := fun i j oi oj hne hi hj => by
    have := List.all_eq_true.1 (List.all_eq_true.1 c2 _ (idx i oi hi)) _ (idx j oj hj)
    simpa [hne] using this
  have enAt : ∀ i, i < l.length → (es.map pr)[i]? = some (pr (en i)) := fun i hi => by rw [List.getElem?_map, a4 i hi]; rfl
  refine ⟨st, en, ⟨by rw [a1]; exact hk, a3, fun i o ho e he hb => ?_, fun i j oi oj d hne hi hj hd => ?_, fun i j id hne hi hj ht hm => ?_⟩, a1, a2⟩
  · unfold ordB at c1
    have h2 : (o.after.all fun e => !Region.binds .any e || decide (e.on < i)) = true := List.all_eq_true.1 c1 _ (idx i o ho)
    rw [Array.all_eq_true'] at h2
    have h3 := h2 e (by simpa using he)
    rw [hb] at h3
    simpa using h3
  · have := pair i j oi oj hne hi hj
    unfold pairOk at this
    rw [Bool.and_eq_true] at this
    have h1 := this.1
    rw [hd] at h1
    simp only [Bool.or_eq_true, Bool.and_eq_true, Bool.not_eq_true', bne_iff_ne, ne_eq] at h1
    rcases h1 with ⟨h1, h2⟩ | ⟨h1, h2⟩
    · refine ⟨h2, fun hm => ?_⟩
      have : (looks l.toArray oi).contains d = true := by simpa [looks] using hm
      rw [this] at h1; cases h1
    · exact ⟨h2, fun _ => h1⟩
  · obtain ⟨oi, hoi⟩ := getL (l := l) hi
    obtain ⟨oj, hoj⟩ := getL (l := l) hj
    have := pair i j oi oj hne hoi hoj
    unfold pairOk at this
    rw [Bool.and_eq_true] at this
    have h1 := this.2
    rw [enAt j hj] at h1
    simp only [pr, Option.bind_some, ht, List.getD_eq_getElem?_getD, enAt i hi, Option.getD_some] at h1
    simp only [Bool.or_eq_true, Bool.and_eq_true, Bool.not_eq_true', bne_iff_ne, ne_eq] at h1
    rcases h1 with ⟨h1, h2⟩ | h1
    · rcases hm with hm | hm
      · have : (en i).tc.contains id = true := by simpa using hm
        rw [this] at h1; cases h1
      · exact absurd hm h2
    · exact h1

/-- the rest of such a region, the region whole, what was looked at so far (the last first), the code behind -/
def DO (P : Program) (B : Base) (full l : List Oper) (cs : List Code) (Q : Exit → SS → Prop) (tr : List (Option Nat × List Nat)) (s : SS) : Prop :=
  ∃ es s', DTr P full.toArray s l es s' ∧ chkD full (tr.reverse ++ es.map pr) = true ∧ SC P B cs Q s'

/-- one operation that is no call of a Go function, with what it looks at -/
def drun (P : Program) (ops : Array Oper) (s : SS) (o : Oper) : Option (SS × Option Nat × List Nat) :=
  if dstOk o.dst s.nt then
    match guardV ops s.sl o.guard with
    | some true => if okOp o.op then (exOp P s.sl s.hp s.nx o.op).bind fun p => if noApp p.2 then some (s.put o.dst p.1 p.2, tgE p.2, rdOf s.sl o.op ++ crE p.2 s.nx) else none else none
    | some false => some (s.put o.dst (.tu []) .none, none, [])
    | none => none
  else none

variable {B : Base} {full l : List Oper} {cs : List Code} {Q : Exit → SS → Prop} {tr : List (Option Nat × List Nat)} {s : SS} {o : Oper}
theorem DO.nil (hc : chkD full tr.reverse = true) (h : SC P B cs Q s) : DO P B full [] cs Q tr s := ⟨[], s, ⟨rfl, rfl⟩, by simpa using hc, h⟩
theorem DO.step {e : En} {s1 : SS} (h : DStep P full.toArray o s e s1) (k : DO P B full l cs Q (pr e :: tr) s1) : DO P B full (o :: l) cs Q tr s := by
  obtain ⟨es, s', h1, h2, h3⟩ := k
  exact ⟨e :: es, s', ⟨e, es, s1, rfl, h, h1⟩, by simpa using h2, h3⟩
theorem DO.run {s' : SS} {t : Option Nat} {c : List Nat} (h : drun P full.toArray s o = some (s', t, c)) (k : DO P B full l cs Q ((t, c) :: tr) s') : DO P B full (o :: l) cs Q tr s := by
  unfold drun at h
  split at h
  · rename_i hd
    split at h
    · rename_i hg
      split at h
      · rename_i hok
        cases he : exOp P s.sl s.hp s.nx o.op with
        | none => simp [he] at h
        | some p =>
          obtain ⟨x, f⟩ := p
          simp only [he, Option.bind_some] at h
          split at h
          · rename_i hna
            cases h
            exact DO.step (e := ⟨x, tgE f, rdOf s.sl o.op ++ crE f s.nx⟩) ⟨hd, .inl ⟨f, hg, hok, he, rfl, rfl, rfl, hna⟩⟩ k
          · cases h
      · cases h
    · rename_i hg
      cases h
      exact DO.step (e := ⟨.tu [], none, []⟩) ⟨hd, .inr (.inl ⟨hg, rfl, rfl, rfl, rfl⟩)⟩ k
    · cases h
  · cases h
/-- a call of f with ys, whose result goes to d -/
def DCall (P : Program) (B : Base) (full : List Oper) (f : Nat) (ys : List V) (ids : List Nat) (d : Option Nat) (l : List Oper) (cs : List Code) (Q : Exit → SS → Prop) (tr : List (Option Nat × List Nat)) (s : SS) : Prop :=
  ∃ x, Spec P f ys x ∧ DO P B full l cs Q ((none, ids) :: tr) (s.called d x ids)
theorem DO.call {f : Nat} {args : List Operand} {ts : Array TypeId} {d : Option Tmp} {ty : TypeId} {pos : String} {after : Array Edge} {gd : Option (Nat × Bool)} {ys : List V} {ids : List Nat}
    (hgo : isGo P f = true) (hf : frzAll (frz 8 s.hp) (args.map (evS s.sl)) = some (ys, ids)) (hg : guardV full.toArray s.sl gd = some true ∧ dstOk d s.nt = true) (k : DCall P B full f ys ids d l cs Q tr s) : DO P B full (⟨d, .call ⟨.value (.func f), args.toArray, ts⟩, ty, pos, after, gd⟩ :: l) cs Q tr s := by
  obtain ⟨x, hs, k⟩ := k
  exact DO.step (e := ⟨x, none, ids⟩) ⟨hg.2, .inr (.inr ⟨f, args.toArray, ts, ys, rfl, hg.1, hgo, hf, hs, rfl, rfl⟩)⟩ k
theorem DCall.of {f : Nat} {ys : List V} {ids : List Nat} {d : Option Nat} {x : V} {s' : SS} (hs : Spec P f ys x) (hn : s.called d x ids = s') (k : DO P B full l cs Q ((none, ids) :: tr) s') : DCall P B full f ys ids d l cs Q tr s := ⟨x, hs, hn ▸ k⟩

def klB (hp : List (Nat × Blk)) (nx : Nat) : Bool := hp.all fun p => decide (p.1 < nx)
theorem klB_sound (h : klB s.hp s.nx = true) : KL s := by
  intro id k hk
  have := mem_keys hk
  obtain ⟨p, hp, rfl⟩ := List.mem_map.1 this
  simpa using List.all_eq_true.1 h p hp
theorem SC.draw {id : Nat} (hm : P.follows .mixedOrders = true) (hk : klB s.hp s.nx = true) (h : DO P B l l cs Q [] s) : SC P B (.region id l.toArray true :: cs) Q s := by
  obtain ⟨es, s', h1, h2, h3⟩ := h
  obtain ⟨st, en, h4, h5, h6⟩ := chk_run (klB_sound hk) h1 (by simpa using h2)
  exact region_draw h4 h5 hm (by rw [h6]; exact h3)

/-! what simp is to know -/
variable {sl : List (Nat × V)} {hp : List (Nat × Blk)} {nx nt : Nat} {ops : Array Oper}
def dfin (g : Option Bool) (ok : Bool) (r : Option (V × Eff)) (rd : List Nat) (d : Option Nat) (s : SS) : Option (SS × Option Nat × List Nat) :=
  match g with
  | some true => if ok then r.bind fun p => if noApp p.2 then some (s.put d p.1 p.2, tgE p.2, rd ++ crE p.2 s.nx) else none else none
  | some false => some (s.put d (.tu []) .none, none, [])
  | none => none
@[go_sem] theorem dfin_none (x : V) (rd : List Nat) (d : Option Nat) (s : SS) : dfin (some true) true (some (x, .none)) rd d s = some (s.put d x .none, none, rd ++ []) := rfl
@[go_sem] theorem dfin_new (x : V) (k : Blk) (rd : List Nat) (d : Option Nat) (s : SS) : dfin (some true) true (some (x, .new k)) rd d s = some (s.put d x (.new k), none, rd ++ [s.nx]) := rfl
@[go_sem] theorem dfin_set (x : V) (id : Nat) (k : Blk) (rd : List Nat) (d : Option Nat) (s : SS) : dfin (some true) true (some (x, .set id k)) rd d s = some (s.put d x (.set id k), some id, rd ++ []) := rfl
@[go_sem] theorem dfin_no (ok : Bool) (r : Option (V × Eff)) (rd : List Nat) (d : Option Nat) (s : SS) : dfin (some false) ok r rd d s = some (s.put d (.tu []) .none, none, []) := rfl
@[go_sem] theorem drun_mk (d : Option Tmp) (op : Op) (ty : TypeId) (pos : String) (after : Array Edge) (gd : Option (Nat × Bool)) :
    drun P ops ⟨sl, hp, nx, nt⟩ ⟨d, op, ty, pos, after, gd⟩ = if dstOk d nt = true then dfin (guardV ops sl gd) (okOp op) (exOp P sl hp nx op) (rdOf sl op) d ⟨sl, hp, nx, nt⟩ else none := rfl
@[go_sem] theorem idOf_pt (id off : Nat) : idOf (.pt id off) = [id] := rfl
@[go_sem] theorem idOf_sc (v : Value) : idOf (.sc v) = [] := rfl
@[go_sem] theorem idOf_ag (l : List V) : idOf (.ag l) = [] := rfl
@[go_sem] theorem idOf_tu (l : List V) : idOf (.tu l) = [] := rfl
@[go_sem] theorem idOf_sl (a b c d : Nat) (e : Option Nat) : idOf (.sl a b c d e) = [] := rfl
@[go_sem] theorem idOf_im (l : List V) (n : Nat) : idOf (.im l n) = [] := rfl
@[go_sem] theorem idOf_pi (l : List V) : idOf (.pi l) = [] := rfl
@[go_sem] theorem nx_mk : SS.nx ⟨sl, hp, nx, nt⟩ = nx := rfl
@[go_sem] theorem rdOf_load (t : Nat) (a : Operand) : rdOf sl (.load t a) = idOf (evS sl a) := rfl
@[go_sem] theorem rdOf_slice (t : Nat) (x : Operand) (a b c : Option Operand) : rdOf sl (.slice t x a b c) = idOf (evS sl x) := rfl
@[go_sem] theorem rdOf_store (t : Nat) (a x : Operand) : rdOf sl (.store t a x) = idOf (evS sl a) := rfl
@[go_sem] theorem rdOf_move (x : Operand) : rdOf sl (.move x) = [] := rfl
@[go_sem] theorem rdOf_assign (x : Operand) : rdOf sl (.assign x) = [] := rfl
@[go_sem] theorem rdOf_pick (a b c : Operand) : rdOf sl (.pick a b c) = [] := rfl
@[go_sem] theorem rdOf_alloc (t : Nat) : rdOf sl (.alloc t) = [] := rfl
@[go_sem] theorem rdOf_box (t : Nat) (x : Operand) : rdOf sl (.box t x) = [] := rfl
@[go_sem] theorem rdOf_build (t : Nat) (l : Array (Nat × Operand)) : rdOf sl (.build t l) = [] := rfl
@[go_sem] theorem rdOf_buildSlice (t n : Nat) (l : Array (Nat × Operand)) : rdOf sl (.buildSlice t n l) = [] := rfl
@[go_sem] theorem rdOf_nilCheck (x : Operand) : rdOf sl (.nilCheck x) = [] := rfl
@[go_sem] theorem rdOf_bin (o : BinOp) (t : Nat) (x y : Operand) (u : Nat) : rdOf sl (.binOp o t x y u) = [] := rfl
@[go_sem] theorem rdOf_un (o : UnOp) (t : Nat) (x : Operand) : rdOf sl (.unOp o t x) = [] := rfl
@[go_sem] theorem rdOf_conv (a b : Nat) (x : Operand) : rdOf sl (.convert a b x) = idOfS (evS sl x) := rfl
@[go_sem] theorem idOfS_sc (v : Value) : idOfS (.sc v) = [] := rfl
@[go_sem] theorem idOfS_sl (a b c d : Nat) (e : Option Nat) : idOfS (.sl a b c d e) = [a] := rfl
@[go_sem] theorem idOfS_im (l : List V) (n : Nat) : idOfS (.im l n) = [] := rfl
@[go_sem] theorem rdOf_makeFunc (f : Fn) (p q : Array Operand) : rdOf sl (.makeFunc f p q) = [] := rfl
@[go_sem] theorem rdOf_makeSlice (t : Nat) (l c : Operand) : rdOf sl (.makeSlice t l c) = [] := rfl
@[go_sem] theorem rdOf_fieldAddr (t : Nat) (x : Operand) (f : Nat) : rdOf sl (.fieldAddr t x f) = [] := rfl
@[go_sem] theorem rdOf_field (t : Nat) (x : Operand) (f : Nat) : rdOf sl (.field t x f) = [] := rfl
@[go_sem] theorem rdOf_indexAddr (t : Nat) (x i : Operand) : rdOf sl (.indexAddr t x i) = [] := rfl
@[go_sem] theorem rdOf_index (t : Nat) (x i : Operand) : rdOf sl (.index t x i) = [] := rfl
@[go_sem] theorem rdOf_extract (t : Operand) (i : Nat) : rdOf sl (.extract t i) = [] := rfl
@[go_sem] theorem rdOf_call (c : Call) : rdOf sl (.call c) = [] := rfl
@[go_sem] theorem okOp_load (t : Nat) (a : Operand) : okOp (.load t a) = true := rfl
@[go_sem] theorem okOp_slice (t : Nat) (x : Operand) (a b c : Option Operand) : okOp (.slice t x a b c) = true := rfl
@[go_sem] theorem okOp_store (t : Nat) (a x : Operand) : okOp (.store t a x) = true := rfl
@[go_sem] theorem okOp_move (x : Operand) : okOp (.move x) = true := rfl
@[go_sem] theorem okOp_assign (x : Operand) : okOp (.assign x) = true := rfl
@[go_sem] theorem okOp_pick (a b c : Operand) : okOp (.pick a b c) = true := rfl
@[go_sem] theorem okOp_alloc (t : Nat) : okOp (.alloc t) = true := rfl
@[go_sem] theorem okOp_box (t : Nat) (x : Operand) : okOp (.box t x) = true := rfl
@[go_sem] theorem okOp_build (t : Nat) (l : Array (Nat × Operand)) : okOp (.build t l) = true := rfl
@[go_sem] theorem okOp_buildSlice (t n : Nat) (l : Array (Nat × Operand)) : okOp (.buildSlice t n l) = true := rfl
@[go_sem] theorem okOp_nilCheck (x : Operand) : okOp (.nilCheck x) = true := rfl
@[go_sem] theorem okOp_bin (o : BinOp) (t : Nat) (x y : Operand) (u : Nat) : okOp (.binOp o t x y u) = true := rfl
@[go_sem] theorem okOp_un (o : UnOp) (t : Nat) (x : Operand) : okOp (.unOp o t x) = true := rfl
@[go_sem] theorem okOp_conv (a b : Nat) (x : Operand) : okOp (.convert a b x) = true := rfl
@[go_sem] theorem okOp_makeFunc (f : Fn) (p q : Array Operand) : okOp (.makeFunc f p q) = true := rfl
@[go_sem] theorem okOp_makeSlice (t : Nat) (l c : Operand) : okOp (.makeSlice t l c) = true := rfl
@[go_sem] theorem okOp_fieldAddr (t : Nat) (x : Operand) (f : Nat) : okOp (.fieldAddr t x f) = true := rfl
@[go_sem] theorem okOp_field (t : Nat) (x : Operand) (f : Nat) : okOp (.field t x f) = true := rfl
@[go_sem] theorem okOp_indexAddr (t : Nat) (x i : Operand) : okOp (.indexAddr t x i) = true := rfl
@[go_sem] theorem okOp_index (t : Nat) (x i : Operand) : okOp (.index t x i) = true := rfl
@[go_sem] theorem okOp_extract (t : Operand) (i : Nat) : okOp (.extract t i) = true := rfl
@[go_sem] theorem okOp_len (args : Array Operand) (ts : Array TypeId) : okOp (.call ⟨.builtin .len, args, ts⟩) = true := rfl
@[go_sem] theorem okOp_min (args : Array Operand) (ts : Array TypeId) : okOp (.call ⟨.builtin .min, args, ts⟩) = true := rfl
@[go_sem] theorem okOp_max (args : Array Operand) (ts : Array TypeId) : okOp (.call ⟨.builtin .max, args, ts⟩) = true := rfl
attribute [go_sem] List.append_nil
end
end Go.Proofs.YtbpcgeanpkokkaaDoor
