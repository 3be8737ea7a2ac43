/- Symbolic states: trees for values, own blocks by number, and what it means that a world is as they say. -/
import Derived.WalkKit
import Derived.Test.YtbpcgeanpkokkaaDoorGt
namespace Go.Proofs.YtbpcgeanpkokkaaDoor
open Go.RowKit

/-- A symbolic value. sc: the value itself · ag, tu: parts · pt: the address of a cell of an own block · sl: a slice of an own block, z the cells of an element
  · im: a slice whose cells do not change any more · pi: the address of such cells · fn: a function value · junk: anything. -/
inductive V where
  | sc (v : Value)
  | ag (cs : List V)
  | tu (vs : List V)
  | pt (id off : Nat)
  | sl (id off len z : Nat) (cap : Option Nat)
  | im (cs : List V) (len : Nat)
  | pi (cs : List V)
  | fn (f : Fn) (first captured : List V)
  | junk
  deriving Inhabited

/-- block b has at least n cells -/
def szAt (w : World) (b n : Nat) : Prop := ∃ c e f, w.heap[b]? = some (.cells c e f) ∧ n ≤ c.size

theorem szAt.of_heap {w w' : World} {b n : Nat} (h : w'.heap[b]? = w.heap[b]?) (k : szAt w b n) : szAt w' b n := by
  obtain ⟨c, e, f, h1, h2⟩ := k; exact ⟨c, e, f, h.trans h1, h2⟩
theorem szAt.lt {w : World} {b n : Nat} (k : szAt w b n) : b < w.heap.size := by
  obtain ⟨c, e, f, h1, h2⟩ := k; exact (Array.getElem?_eq_some_iff.1 h1).1

/-- The value v is as the tree x says: S the blocks that do not change any more,
  rho the blocks of own numbers, A the numbers given out. What lies in cells that do not change any more holds no own block. -/
inductive R (S : Nat → Prop) (rho : Nat → Nat) (w : World) : (Nat → Prop) → V → Value → Prop
  | sc {A : Nat → Prop} (v : Value) : R S rho w A (.sc v) v
  | junk {A : Nat → Prop} (v : Value) : R S rho w A .junk v
  | ag {A : Nat → Prop} {cs : List V} {vs : Array Value} (h : cs.length = vs.size) (hi : ∀ (i : Nat) (x : V) (u : Value), cs[i]? = some x → vs[i]? = some u → R S rho w A x u) : R S rho w A (.ag cs) (.agg vs)
  | tu {A : Nat → Prop} {cs : List V} {vs : Array Value} (h : cs.length = vs.size) (hi : ∀ (i : Nat) (x : V) (u : Value), cs[i]? = some x → vs[i]? = some u → R S rho w A x u) : R S rho w A (.tu cs) (.tuple vs)
  | pt {A : Nat → Prop} {id off : Nat} (h : A id) : R S rho w A (.pt id off) (.pointer (some ⟨rho id, off, none⟩))
  | sl {A : Nat → Prop} {id off len z c : Nat} {cap : Option Nat} (h : A id) (hl : len ≤ c) (hm : c ≤ maxLen) (hc : ∀ k, cap = some k → c = k) (hz : szAt w (rho id) (off + c * z)) : R S rho w A (.sl id off len z cap) (.slice (some ⟨rho id, off, none⟩) len c)
  | sln {A : Nat → Prop} {id off z : Nat} {cap : Option Nat} (h : ∀ k, cap = some k → k = 0) : R S rho w A (.sl id off 0 z cap) (.slice none 0 0)
  | im0 {A : Nat → Prop} {len c : Nat} {a : Option Addr} (hl : len ≤ c) (hm : c ≤ maxLen) (ha : a = none → c = 0) : R S rho w A (.im [] len) (.slice a len c)
  | im1 {A : Nat → Prop} {cs : List V} {len c b off : Nat} (f : Nat → Value) (hl : len ≤ c) (hm : c ≤ maxLen) (hS : S b)
      (hc : ∀ (i : Nat) (x : V), cs[i]? = some x → w.cell? ⟨b, off + i, none⟩ = some (f i)) (hx : ∀ (i : Nat) (x : V), cs[i]? = some x → R S rho w (fun _ => False) x (f i)) : R S rho w A (.im cs len) (.slice (some ⟨b, off, none⟩) len c)
  | pi {A : Nat → Prop} {cs : List V} {b off : Nat} (f : Nat → Value) (hS : S b)
      (hc : ∀ (i : Nat) (x : V), cs[i]? = some x → w.cell? ⟨b, off + i, none⟩ = some (f i)) (hx : ∀ (i : Nat) (x : V), cs[i]? = some x → R S rho w (fun _ => False) x (f i)) : R S rho w A (.pi cs) (.pointer (some ⟨b, off, none⟩))
  | fn {A : Nat → Prop} {f : Fn} {p q : List V} {ps qs : Array Value} (hp : p.length = ps.size) (hq : q.length = qs.size) (h1 : ∀ (i : Nat) (x : V) (u : Value), p[i]? = some x → ps[i]? = some u → R S rho w A x u)
      (h2 : ∀ (i : Nat) (x : V) (u : Value), q[i]? = some x → qs[i]? = some u → R S rho w A x u) : R S rho w A (.fn f p q) (.func f ps qs)

theorem cell_of_heap {w w' : World} {b : Nat} (h : w'.heap[b]? = w.heap[b]?) (off : Nat) : w'.cell? ⟨b, off, none⟩ = w.cell? ⟨b, off, none⟩ := by
  simp only [World.cell?, h]

theorem R.mono {S S' : Nat → Prop} {rho rho' : Nat → Nat} {A A' : Nat → Prop} {w w' : World} {x : V} {v : Value} (h : R S rho w A x v)
    (hS : ∀ b, S b → S' b ∧ w'.heap[b]? = w.heap[b]?) (hA : ∀ id, A id → A' id ∧ rho' id = rho id ∧ ∀ n, szAt w (rho id) n → szAt w' (rho id) n) : R S' rho' w' A' x v := by
  induction h generalizing A' with
  | sc v => exact .sc v
  | junk v => exact .junk v
  | ag h _ ih => exact .ag h (fun i x u h1 h2 => ih i x u h1 h2 hA)
  | tu h _ ih => exact .tu h (fun i x u h1 h2 => ih i x u h1 h2 hA)
  | pt h => rw [← (hA _ h).2.1]; exact .pt (hA _ h).1
  | sl h hl hm hc hz => rw [← (hA _ h).2.1]; exact .sl (hA _ h).1 hl hm hc (by rw [(hA _ h).2.1]; exact (hA _ h).2.2 _ hz)
  | sln h => exact .sln h
  | im0 hl hm ha => exact .im0 hl hm ha
  | im1 f hl hm hs hc _ ih => exact .im1 f hl hm (hS _ hs).1 (fun i x hx => (cell_of_heap (hS _ hs).2 _).trans (hc i x hx)) (fun i x h1 => ih i x h1 (fun _ h => h.elim))
  | pi f hs hc _ ih => exact .pi f (hS _ hs).1 (fun i x hx => (cell_of_heap (hS _ hs).2 _).trans (hc i x hx)) (fun i x h1 => ih i x h1 (fun _ h => h.elim))
  | fn hp hq _ _ i1 i2 => exact .fn hp hq (fun i x u h1 h2 => i1 i x u h1 h2 hA) (fun i x u h1 h2 => i2 i x u h1 h2 hA)
theorem R.open {S : Nat → Prop} {rho : Nat → Nat} {A : Nat → Prop} {w : World} {x : V} {v : Value} (h : R S rho w (fun _ => False) x v) : R S rho w A x v :=
  h.mono (fun _ h => ⟨h, rfl⟩) (fun _ h => h.elim)

/-- a block of the call's own; fz: it does not change any more -/
structure Blk where
  ty : TypeId
  cs : List V
  fz : Bool := false
  deriving Inhabited

/-- A symbolic state: what lies in the slots, the own blocks, the next number, the number of slots. -/
structure SS where
  sl : List (Nat × V)
  hp : List (Nat × Blk)
  nx : Nat
  nt : Nat
  deriving Inhabited

def get : List (Nat × V) → Nat → V
  | [], _ => .junk
  | (k, x) :: r, t => if t = k then x else get r t
def hget : List (Nat × Blk) → Nat → Option Blk
  | [], _ => none
  | (k, x) :: r, t => if t = k then some x else hget r t
def hset : List (Nat × Blk) → Nat → Blk → List (Nat × Blk)
  | [], _, _ => []
  | (k, x) :: r, t, y => if t = k then (k, y) :: r else (k, x) :: hset r t y

theorem hget_hset (l : List (Nat × Blk)) (t t' : Nat) (y : Blk) : hget (hset l t y) t' = if t' = t then (hget l t).map fun _ => y else hget l t' := by
  induction l with
  | nil => simp [hset, hget]
  | cons p r ih =>
    obtain ⟨k, x⟩ := p
    simp only [hset]
    by_cases h : t = k
    · subst h
      by_cases h2 : t' = t
      · subst h2; simp [hget]
      · simp [hget, h2]
    · rw [if_neg h]
      simp only [hget]
      by_cases h2 : t' = t
      · subst h2; simp [h, ih]
      · by_cases h3 : t' = k
        · subst h3; simp [h2]
        · simp [h3, h2, ih]

/-- what holds of a call from its beginning on: the world then, the blocks that did not change any more, the numbers given out, the blocks that it may write to -/
structure Base where
  w0 : World
  S0 : Nat → Prop
  K : Nat → Prop
  rho0 : Nat → Nat
  L : Nat → Prop

def Base.n0 (B : Base) : Nat := B.w0.heap.size

/-- the cells of a block of the world read as the trees say -/
def Cellsat (S : Nat → Prop) (rho : Nat → Nat) (A : Nat → Prop) (w : World) (b : Nat) (k : Blk) : Prop :=
  ∃ cells : Array Value, w.heap[b]? = some (.cells cells k.ty (0, 0)) ∧ ∀ (i : Nat) (x : V), k.cs[i]? = some x → ∃ u : Value, cells[i]? = some u ∧ R S rho w A x u

theorem Cellsat.mono {S S' : Nat → Prop} {rho rho' : Nat → Nat} {A A' : Nat → Prop} {w w' : World} {b b' : Nat} {k : Blk} (h : Cellsat S rho A w b k) (hb : w'.heap[b']? = w.heap[b]?)
    (hS : ∀ b, S b → S' b ∧ w'.heap[b]? = w.heap[b]?) (hA : ∀ id, A id → A' id ∧ rho' id = rho id ∧ ∀ n, szAt w (rho id) n → szAt w' (rho id) n) : Cellsat S' rho' A' w' b' k := by
  obtain ⟨cells, h1, h2⟩ := h
  exact ⟨cells, hb.trans h1, fun i x hx => let ⟨u, hu, hr⟩ := h2 i x hx; ⟨u, hu, hr.mono hS hA⟩⟩

/-- nothing that was there before the call has turned but the blocks in L -/
structure Frame' (B : Base) (w : World) : Prop where
  os : w.os = B.w0.os
  tape : w.tape = B.w0.tape
  output : w.output = B.w0.output
  size : B.w0.heap.size ≤ w.heap.size
  block : ∀ b, b < B.w0.heap.size → ¬ B.L b → w.heap[b]? = B.w0.heap[b]?
  stay : ∀ b, B.S0 b → w.heap[b]? = B.w0.heap[b]?
  sz : ∀ b n, szAt B.w0 b n → szAt w b n
  lt : ∀ b, B.S0 b → b < B.w0.heap.size
  tab : TabOK B.S0 B.w0

/-- the numbers that have to stay lie below n -/
def Base.Old (B : Base) (n : Nat) : Prop := ∀ id, B.K id → id < n

/-- the memory is as the own blocks say; of those whose number is not given out nothing is said -/
structure Mem (B : Base) (S : Nat → Prop) (rho : Nat → Nat) (A : Nat → Prop) (hp : List (Nat × Blk)) (w : World) : Prop where
  cells : ∀ id k, hget hp id = some k → A id → Cellsat S rho A w (rho id) k
  fz : ∀ id k, hget hp id = some k → A id → k.fz = false → ¬ S (rho id)
  own : ∀ id k, hget hp id = some k → A id → B.n0 ≤ rho id ∨ B.L (rho id)
  inj : ∀ id id' k k', hget hp id = some k → hget hp id' = some k' → A id → A id' → rho id = rho id' → id = id'
  slt : ∀ b, S b → b < w.heap.size
  sub : ∀ b, B.S0 b → S b
  base : ∀ b, S b → B.S0 b ∨ B.n0 ≤ b ∨ B.L b
  frame : Frame' B w
  keep : ∀ id, B.K id → A id ∧ rho id = B.rho0 id

/-- the state of a run is as the symbolic state says -/
structure Rel (B : Base) (S : Nat → Prop) (rho : Nat → Nat) (A : Nat → Prop) (s : SS) (a : Act) (w : World) : Prop where
  slots : ∀ t, R S rho w A (get s.sl t) (a.eval (.tmp t))
  mem : Mem B S rho A s.hp w
  alt : ∀ id, A id → id < s.nx
  nt : a.tmps.size = s.nt
  defs : a.defers = []

theorem Mem.lt {B : Base} {S : Nat → Prop} {rho : Nat → Nat} {A : Nat → Prop} {hp : List (Nat × Blk)} {w : World} (h : Mem B S rho A hp w) {id : Nat} {k : Blk} (hk : hget hp id = some k) (ha : A id) : rho id < w.heap.size := by
  obtain ⟨cells, h1, _⟩ := h.cells id k hk ha
  exact (Array.getElem?_eq_some_iff.1 h1).1

/-- the world has turned only in ways that the memory does not see: no block has turned, blocks may have come -/
structure Grow (w w' : World) : Prop where
  os : w'.os = w.os
  tape : w'.tape = w.tape
  output : w'.output = w.output
  size : w.heap.size ≤ w'.heap.size
  block : ∀ b, b < w.heap.size → w'.heap[b]? = w.heap[b]?

theorem Grow.szAt {w w' : World} (g : Grow w w') {b n : Nat} (k : szAt w b n) : szAt w' b n := k.of_heap (g.block b k.lt)
theorem Grow.refl (w : World) : Grow w w := ⟨rfl, rfl, rfl, Nat.le_refl _, fun _ _ => rfl⟩
theorem Grow.trans {a b c : World} (h : Grow a b) (k : Grow b c) : Grow a c := ⟨k.os.trans h.os, k.tape.trans h.tape, k.output.trans h.output, Nat.le_trans h.size k.size, fun i hi => (k.block i (Nat.lt_of_lt_of_le hi h.size)).trans (h.block i hi)⟩
theorem Grow.drawn (w : World) (n : Nat) : Grow w { w with drawn := n } := ⟨rfl, rfl, rfl, Nat.le_refl _, fun _ _ => rfl⟩
theorem Grow.alloc (w : World) (o : Obj) : Grow w (w.alloc o) := ⟨rfl, rfl, rfl, by simp, fun _ hk => Below.heap_alloc _ _ _ hk⟩

theorem Frame'.grow {B : Base} {w w' : World} (h : Frame' B w) (g : Grow w w') : Frame' B w' :=
  ⟨g.os.trans h.os, g.tape.trans h.tape, g.output.trans h.output, Nat.le_trans h.size g.size, fun b hb hl => (g.block b (Nat.lt_of_lt_of_le hb h.size)).trans (h.block b hb hl),
    fun b hb => (g.block b (Nat.lt_of_lt_of_le (h.lt b hb) h.size)).trans (h.stay b hb), fun b n k => g.szAt (h.sz b n k), h.lt, h.tab⟩

theorem Mem.grow {B : Base} {S : Nat → Prop} {rho : Nat → Nat} {A : Nat → Prop} {hp : List (Nat × Blk)} {w w' : World} (h : Mem B S rho A hp w) (g : Grow w w') : Mem B S rho A hp w' where
  cells id k hk ha := (h.cells id k hk ha).mono (g.block _ (h.lt hk ha)) (fun b hb => ⟨hb, g.block b (h.slt b hb)⟩) (fun _ h => ⟨h, rfl, fun _ => g.szAt⟩)
  fz := h.fz
  own := h.own
  inj := h.inj
  slt b hb := Nat.lt_of_lt_of_le (h.slt b hb) g.size
  sub := h.sub
  base := h.base
  frame := h.frame.grow g
  keep := h.keep

/-- an own block goes out of sight -/
def hdel (l : List (Nat × Blk)) (t : Nat) : List (Nat × Blk) := l.filter fun p => p.1 != t
theorem hget_hdel (l : List (Nat × Blk)) (t t' : Nat) : hget (hdel l t) t' = if t' = t then none else hget l t' := by
  induction l with
  | nil => simp [hdel, hget]
  | cons p r ih =>
    obtain ⟨k, x⟩ := p
    simp only [hdel] at ih ⊢
    rw [List.filter_cons]
    by_cases h : k = t
    · subst h
      simp only [bne_self_eq_false, Bool.false_eq_true, if_false, ih, hget]
      by_cases h2 : t' = k <;> simp [h2]
    · have : (k != t) = true := by simpa using h
      simp only [this, if_true, hget, ih]
      by_cases h2 : t' = k
      · subst h2; simp [h]
      · simp [h2]

/-- fewer own blocks in sight -/
theorem Mem.less {B : Base} {S : Nat → Prop} {rho : Nat → Nat} {A : Nat → Prop} {hp hp' : List (Nat × Blk)} {w : World} (h : Mem B S rho A hp w) (hs : ∀ id k, hget hp' id = some k → hget hp id = some k) : Mem B S rho A hp' w where
  cells id k hk := h.cells id k (hs id k hk)
  fz id k hk := h.fz id k (hs id k hk)
  own id k hk := h.own id k (hs id k hk)
  inj id id' k k' hk hk' := h.inj id id' k k' (hs id k hk) (hs id' k' hk')
  slt := h.slt
  sub := h.sub
  base := h.base
  frame := h.frame
  keep := h.keep

/-- a block (new, or out of sight) comes under the number id -/
theorem Mem.come {B : Base} {S : Nat → Prop} {rho : Nat → Nat} {A : Nat → Prop} {hp : List (Nat × Blk)} {w : World} (h : Mem B S rho A hp w) (id : Nat) (hid : ¬ A id) (k : Blk) (b : Nat)
    (hb : ∀ i q, hget hp i = some q → A i → rho i ≠ b) (hs : ¬ S b) (ho : B.n0 ≤ b ∨ B.L b) (hk : Cellsat S rho A w b k) :
    Mem B S (fun i => if i = id then b else rho i) (fun i => i = id ∨ A i) ((id, k) :: hp) w := by
  have hA : ∀ i, A i → (i = id ∨ A i) ∧ (if i = id then b else rho i) = rho i ∧ ∀ n, szAt w (rho i) n → szAt w (rho i) n := fun i hi => ⟨.inr hi, if_neg (fun e : i = id => hid (e ▸ hi)), fun _ h => h⟩
  have hS : ∀ b, S b → S b ∧ w.heap[b]? = w.heap[b]? := fun b hb => ⟨hb, rfl⟩
  have hcase : ∀ {P : Nat → Blk → Prop}, P id k → (∀ i q, i ≠ id → hget hp i = some q → P i q) → ∀ i q, hget ((id, k) :: hp) i = some q → P i q := by
    intro P h1 h2 i q hq
    simp only [hget] at hq
    by_cases e : i = id
    · subst e; simp at hq; subst hq; exact h1
    · rw [if_neg e] at hq; exact h2 i q e hq
  have hor : ∀ {i}, i ≠ id → (i = id ∨ A i) → A i := fun hne h => h.resolve_left hne
  exact {
    cells := by
      refine hcase ?_ ?_
      · intro _; rw [if_pos rfl]; exact hk.mono rfl hS hA
      · intro i q hne hq ha; rw [if_neg hne]; exact (h.cells i q hq (hor hne ha)).mono rfl hS hA
    fz := by
      refine hcase ?_ ?_
      · intro _ _; rw [if_pos rfl]; exact hs
      · intro i q hne hq ha; rw [if_neg hne]; exact h.fz i q hq (hor hne ha)
    own := by
      refine hcase ?_ ?_
      · intro _; rw [if_pos rfl]; exact ho
      · intro i q hne hq ha; rw [if_neg hne]; exact h.own i q hq (hor hne ha)
    inj := by
      intro i j q q' hi hj
      refine hcase (P := fun i _ => (i = id ∨ A i) → (j = id ∨ A j) → (if i = id then b else rho i) = (if j = id then b else rho j) → i = j) ?_ ?_ i q hi
      · refine hcase (P := fun j _ => (id = id ∨ A id) → (j = id ∨ A j) → (if id = id then b else rho id) = (if j = id then b else rho j) → id = j) (fun _ _ _ => rfl) ?_ j q' hj
        intro j q' hne hq _ ha e
        rw [if_pos rfl, if_neg hne] at e
        exact absurd e.symm (hb j q' hq (hor hne ha))
      · intro i q hne hq
        refine hcase (P := fun j _ => (i = id ∨ A i) → (j = id ∨ A j) → (if i = id then b else rho i) = (if j = id then b else rho j) → i = j) ?_ ?_ j q' hj
        · intro ha _ e; rw [if_pos rfl, if_neg hne] at e; exact absurd e (hb i q hq (hor hne ha))
        · intro j q' hne' hq' ha ha' e
          rw [if_neg hne, if_neg hne'] at e
          exact h.inj i j q q' hq hq' (hor hne ha) (hor hne' ha') e
    slt := h.slt
    sub := h.sub
    base := h.base
    frame := h.frame
    keep := fun i hi => ⟨.inr (h.keep i hi).1, by show (if i = id then b else rho i) = _; rw [if_neg (fun e : i = id => hid (e ▸ (h.keep i hi).1))]; exact (h.keep i hi).2⟩ }

/-- a new block of the call's own comes under the number id -/
theorem Mem.new {B : Base} {S : Nat → Prop} {rho : Nat → Nat} {A : Nat → Prop} {hp : List (Nat × Blk)} {w w' : World} (h : Mem B S rho A hp w) (g : Grow w w') (id : Nat) (hid : ¬ A id) (k : Blk) (b : Nat)
    (hb : w.heap.size ≤ b) (hk : Cellsat S rho A w' b k) : Mem B S (fun i => if i = id then b else rho i) (fun i => i = id ∨ A i) ((id, k) :: hp) w' :=
  (h.grow g).come id hid k b (fun i q hq ha e => by have := h.lt hq ha; omega) (fun e => by have := h.slt b e; omega) (.inl (Nat.le_trans h.frame.size hb)) hk

/-- an own block that may still change has turned -/
theorem Mem.set {B : Base} {S : Nat → Prop} {rho : Nat → Nat} {A : Nat → Prop} {hp : List (Nat × Blk)} {w w' : World} (h : Mem B S rho A hp w) (id : Nat) (k k' : Blk) (hk : hget hp id = some k) (ha : A id) (hz : k.fz = false)
    (h1 : w'.os = w.os) (h2 : w'.tape = w.tape) (h3 : w'.output = w.output) (h4 : w'.heap.size = w.heap.size) (h5 : ∀ b, b ≠ rho id → w'.heap[b]? = w.heap[b]?)
    (h6 : ∀ n, szAt w (rho id) n → szAt w' (rho id) n) (hk' : Cellsat S rho A w' (rho id) k') : Mem B S rho A (hset hp id k') w' := by
  have hns : ¬ S (rho id) := h.fz id k hk ha hz
  have hS : ∀ b, S b → S b ∧ w'.heap[b]? = w.heap[b]? := fun b hb => ⟨hb, h5 b (fun e => hns (e ▸ hb))⟩
  have hcase : ∀ {P : Nat → Blk → Prop}, P id k' → (∀ i q, i ≠ id → hget hp i = some q → P i q) → ∀ i q, hget (hset hp id k') i = some q → P i q := by
    intro P h1 h2 i q hq
    rw [hget_hset] at hq
    by_cases e : i = id
    · subst e; rw [if_pos rfl, hk] at hq; simp at hq; subst hq; exact h1
    · rw [if_neg e] at hq; exact h2 i q e hq
  have hold : ∀ i q, hget (hset hp id k') i = some q → ∃ q', hget hp i = some q' := by
    refine hcase ⟨k, hk⟩ (fun i q _ hq => ⟨q, hq⟩)
  exact {
    cells := by
      refine hcase (fun _ => hk') ?_
      intro i q hne hq hai
      exact (h.cells i q hq hai).mono (h5 _ (fun e => hne (h.inj i id q k hq hk hai ha e))) hS (fun j hj => ⟨hj, rfl, fun n hn => by
        by_cases e : rho j = rho id
        · rw [e] at hn ⊢; exact h6 n hn
        · exact hn.of_heap (h5 _ e)⟩)
    fz := hcase (fun _ _ => hns) (fun i q _ hq => h.fz i q hq)
    own := hcase (h.own id k hk) (fun i q _ hq => h.own i q hq)
    inj := by
      intro i j q q' hi hj hai haj e
      obtain ⟨qi, hi'⟩ := hold i q hi
      obtain ⟨qj, hj'⟩ := hold j q' hj
      exact h.inj i j qi qj hi' hj' hai haj e
    slt := fun b hb => by rw [h4]; exact h.slt b hb
    sub := h.sub
    base := h.base
    frame := {
      os := h1.trans h.frame.os
      tape := h2.trans h.frame.tape
      output := h3.trans h.frame.output
      size := by rw [h4]; exact h.frame.size
      block := fun b hb hl => by
        have : b ≠ rho id := by
          intro e; subst e
          rcases h.own id k hk ha with h' | h'
          · unfold Base.n0 at h'; omega
          · exact hl h'
        rw [h5 b this]; exact h.frame.block b hb hl
      stay := fun b hb => by
        have : b ≠ rho id := fun e => hns (e ▸ h.sub b hb)
        rw [h5 b this]; exact h.frame.stay b hb
      sz := fun b n hk => by
        have h0 := h.frame.sz b n hk
        by_cases e : b = rho id
        · subst e; exact h6 n h0
        · exact h0.of_heap (h5 b e)
      lt := h.frame.lt
      tab := h.frame.tab }
    keep := h.keep }

/-- the tables lie there still -/
theorem Mem.tab {B : Base} {S : Nat → Prop} {rho : Nat → Nat} {A : Nat → Prop} {hp : List (Nat × Blk)} {w : World} (h : Mem B S rho A hp w) : TabOK S w := fun g cs hg => by
  obtain ⟨h1, h2⟩ := h.frame.tab g cs hg
  exact ⟨h.sub g h1, fun i v hi => (cell_of_heap (h.frame.stay g h1) i).trans (h2 i v hi)⟩
end Go.Proofs.YtbpcgeanpkokkaaDoor
